/-
  The statement of 'MergeApart': the Go function returns true at every input, and its arguments read as before.
  Conditions: none.
-/
import Derived.Test.YtainbaehfdhmbaaMMergeApart1
import Derived.Test.YtainbaehfdhmbaaMMergeApart4
import Derived.Test.YtainbaehfdhmbaaMMergeApart5
import Derived.Test.YtainbaehfdhmbaaMMergeApart3
import Derived.Deep.Slices
import Derived.SizedLaws
import Derived.ChangeSlices
import Derived.ChangeSame
import Derived.ChangeShapes
import Derived.ChangeAt
import Derived.WideShapes
import Derived.Test.YtainbaehfdhmbaaRows
import Derived.WalkKit
import Derived.ProofKit
import Derived.OpenShut
import Derived.ShutString
import Derived.ChangeOld
import Derived.Below
namespace Go.Proofs.Ytainbaehfdhmbaa.PX
open Go.RowKit Go.Proofs.YtainbaehfdhmbaaW.PrintWords Go.Proofs.YtainbaehfdhmbaaW.PrintLast Go.Proofs.YtainbaehfdhmbaaW.PrintMore
attribute [local go_sem] max2_int min2_int max_two min_two max_three min_three max_four min_four   
set_option linter.unusedVariables false
set_option linter.unusedSimpArgs false
mutual
def cadencelaw12_MergeApart.j0:Nat→List (S73)→List (S73)→List (S73)→List Int→Bool→Option (Bool)
 | 0,_,_,_,_,_=>none
 | k+1,x0,x1,x2,x3,x35=>if x35=true then (some true) else ((cadencelaw4_Small.f k x0 5 4).bind fun t344=>(cadencelaw12_MergeApart.l0 k x1 x2 x3 t344 t344 t344 t344 (([(⟨#[]⟩:ByteArray),(⟨#[97]⟩:ByteArray),(⟨#[98]⟩:ByteArray),(⟨#[99]⟩:ByteArray),(⟨#[100]⟩:ByteArray)]:List ByteArray)) 0))
def cadencelaw12_MergeApart.l0:Nat→List (S73)→List (S73)→List Int→List (S51)→List (S51)→List (S51)→List (S51)→List ByteArray→Int→Option (Bool)
 | 0,_,_,_,_,_,_,_,_,_=>none
 | k+1,x1,x2,x3,x9,x10,x11,x12,x13,x14=>if x14 < 5 then (if x14 < (x3.length:Int) then (if 0≤x14 then ((cadencelaw12_within.f (rd x3 x14) 5).bind fun t351=>(cadencelaw12_MergeApart.j2 k x1 x2 x3 x9 x10 x11 x12 x13 x14 t351)) else (none)) else (cadencelaw12_MergeApart.j2 k x1 x2 x3 x9 x10 x11 x12 x13 x14 0)) else ((cadencelaw12_wide.f).bind fun t390=>((cadencelaw12_some.f x9).bind fun bt393=>((cadencelaw12_some.f x10).bind fun bt397=>((cadencelaw12_some.f x11).bind fun bt401=>((merge_Merge.f t390 bt393.1 bt393.2 bt397.1 bt397.2 bt401.1 bt401.2).bind fun bt405=>(if (bt405.2.2.2.2.2.2.length:Int)=0 then ((cadenceref2_Same.f k bt405.2.1 x12).bind fun t423=>(if t423=true then ((cadenceref2_Same.f k bt405.2.2.2.1 x12).bind fun t424=>(if t424=true then ((cadenceref2_Same.f k bt405.2.2.2.2.2.1 x12).bind fun t425=>(some t425)) else (none))) else (none))) else (none)))))))
def cadencelaw12_MergeApart.j2:Nat→List (S73)→List (S73)→List Int→List (S51)→List (S51)→List (S51)→List (S51)→List ByteArray→Int→Int→Option (Bool)
 | 0,_,_,_,_,_,_,_,_,_,_=>none
 | k+1,x1,x2,x3,x9,x10,x11,x12,x13,x14,x15=>(cadencelaw4_Small.f k x1 3 3).bind fun t352=>(if x15=1 then (if 0≤x14 then (if x14 < (x13.length:Int) then ((cadenceref2_With.f k x10 (rdOf ByteArray.empty x13 x14) t352).bind fun t356=>((cadenceref2_With.f k x12 (rdOf ByteArray.empty x13 x14) t352).bind fun t360=>(cadencelaw12_MergeApart.l0 k x1 x2 x3 x9 t356 x11 t360 x13 (wrap64 (x14+1))))) else (none)) else (none)) else (if x15=2 then (if 0≤x14 then (if x14 < (x13.length:Int) then ((cadenceref2_Without.f k x10 (rdOf ByteArray.empty x13 x14)).bind fun t364=>((cadenceref2_Without.f k x12 (rdOf ByteArray.empty x13 x14)).bind fun t368=>(cadencelaw12_MergeApart.l0 k x1 x2 x3 x9 t364 x11 t368 x13 (wrap64 (x14+1))))) else (none)) else (none)) else (if x15=3 then ((cadencelaw4_Small.f k x2 3 3).bind fun t371=>(if 0≤x14 then (if x14 < (x13.length:Int) then ((cadenceref2_With.f k x11 (rdOf ByteArray.empty x13 x14) t371).bind fun t375=>((cadenceref2_With.f k x12 (rdOf ByteArray.empty x13 x14) t371).bind fun t379=>(cadencelaw12_MergeApart.l0 k x1 x2 x3 x9 x10 t375 t379 x13 (wrap64 (x14+1))))) else (none)) else (none))) else (if x15=4 then (if 0≤x14 then (if x14 < (x13.length:Int) then ((cadenceref2_Without.f k x11 (rdOf ByteArray.empty x13 x14)).bind fun t383=>((cadenceref2_Without.f k x12 (rdOf ByteArray.empty x13 x14)).bind fun t387=>(cadencelaw12_MergeApart.l0 k x1 x2 x3 x9 x10 t383 t387 x13 (wrap64 (x14+1))))) else (none)) else (none)) else (cadencelaw12_MergeApart.l0 k x1 x2 x3 x9 x10 x11 x12 x13 (wrap64 (x14+1)))))))
end
def cadencelaw12_MergeApart.f (k:Nat) (l0:List (S73)) (l1:List (S73)) (l2:List (S73)) (l3:List Int):Option (Bool):=(cadencelaw12_known.f).bind fun t340=>(if t340=true then ((cadencelaw2_Few.f k l0).bind fun t341=>(if t341=true then ((cadencelaw2_Few.f k l1).bind fun t342=>(if t342=true then ((cadencelaw2_Few.f k l2).bind fun t343=>(cadencelaw12_MergeApart.j0 k l0 l1 l2 l3 (!t343))) else (cadencelaw12_MergeApart.j0 k l0 l1 l2 l3 true))) else (cadencelaw12_MergeApart.j0 k l0 l1 l2 l3 true))) else (none))
theorem cadencelaw12_MergeApart.mono_l:∀ k,(∀ y0 y1 y2 y3 y4,LeO (cadencelaw12_MergeApart.j0 k y0 y1 y2 y3 y4) (cadencelaw12_MergeApart.j0 (k+1) y0 y1 y2 y3 y4))∧(∀ y0 y1 y2 y3 y4 y5 y6 y7 y8,LeO (cadencelaw12_MergeApart.l0 k y0 y1 y2 y3 y4 y5 y6 y7 y8) (cadencelaw12_MergeApart.l0 (k+1) y0 y1 y2 y3 y4 y5 y6 y7 y8))∧(∀ y0 y1 y2 y3 y4 y5 y6 y7 y8 y9,LeO (cadencelaw12_MergeApart.j2 k y0 y1 y2 y3 y4 y5 y6 y7 y8 y9) (cadencelaw12_MergeApart.j2 (k+1) y0 y1 y2 y3 y4 y5 y6 y7 y8 y9))
 | 0=>⟨fun _ _ _ _ _ r h=>by simp [cadencelaw12_MergeApart.j0] at h,fun _ _ _ _ _ _ _ _ _ r h=>by simp [cadencelaw12_MergeApart.l0] at h,fun _ _ _ _ _ _ _ _ _ _ r h=>by simp [cadencelaw12_MergeApart.j2] at h⟩
 | k+1=>by
  obtain ⟨ih0,ih1,ih2⟩:=cadencelaw12_MergeApart.mono_l k
  refine ⟨?_,?_,?_⟩
  ·intro y0 y1 y2 y3 y4
   unfold cadencelaw12_MergeApart.j0
   repeat' first
   | (with_reducible exact ih0 _ _ _ _ _)
   | (with_reducible exact ih1 _ _ _ _ _ _ _ _ _)
   | (with_reducible exact ih2 _ _ _ _ _ _ _ _ _ _)
   | (with_reducible exact cadencelaw2_Few.mono _ _)
   | (with_reducible exact cadencelaw4_Small.mono _ _ _ _)
   | (with_reducible exact cadenceref2_Same.mono _ _ _)
   | (with_reducible exact cadenceref2_With.mono _ _ _ _)
   | (with_reducible exact cadenceref2_Without.mono _ _ _)
   | (with_reducible exact LeO.refl _)
   | (with_reducible exact LeO.none _)
   | (with_reducible refine LeO.ite ?_ ?_)
   | (with_reducible refine LeO.bind ?_ (fun _=>?_))
   | exact ih0 _ _ _ _ _
   | exact ih1 _ _ _ _ _ _ _ _ _
   | exact ih2 _ _ _ _ _ _ _ _ _ _
   | exact cadencelaw2_Few.mono _ _
   | exact cadencelaw4_Small.mono _ _ _ _
   | exact cadenceref2_Same.mono _ _ _
   | exact cadenceref2_With.mono _ _ _ _
   | exact cadenceref2_Without.mono _ _ _
   | exact LeO.none _
   | refine LeO.ite ?_ ?_
   | refine LeO.bind ?_ (fun _=>?_)
  ·intro y0 y1 y2 y3 y4 y5 y6 y7 y8
   unfold cadencelaw12_MergeApart.l0
   repeat' first
   | (with_reducible exact ih0 _ _ _ _ _)
   | (with_reducible exact ih1 _ _ _ _ _ _ _ _ _)
   | (with_reducible exact ih2 _ _ _ _ _ _ _ _ _ _)
   | (with_reducible exact cadencelaw2_Few.mono _ _)
   | (with_reducible exact cadencelaw4_Small.mono _ _ _ _)
   | (with_reducible exact cadenceref2_Same.mono _ _ _)
   | (with_reducible exact cadenceref2_With.mono _ _ _ _)
   | (with_reducible exact cadenceref2_Without.mono _ _ _)
   | (with_reducible exact LeO.refl _)
   | (with_reducible exact LeO.none _)
   | (with_reducible refine LeO.ite ?_ ?_)
   | (with_reducible refine LeO.bind ?_ (fun _=>?_))
   | exact ih0 _ _ _ _ _
   | exact ih1 _ _ _ _ _ _ _ _ _
   | exact ih2 _ _ _ _ _ _ _ _ _ _
   | exact cadencelaw2_Few.mono _ _
   | exact cadencelaw4_Small.mono _ _ _ _
   | exact cadenceref2_Same.mono _ _ _
   | exact cadenceref2_With.mono _ _ _ _
   | exact cadenceref2_Without.mono _ _ _
   | exact LeO.none _
   | refine LeO.ite ?_ ?_
   | refine LeO.bind ?_ (fun _=>?_)
  ·intro y0 y1 y2 y3 y4 y5 y6 y7 y8 y9
   unfold cadencelaw12_MergeApart.j2
   repeat' first
   | (with_reducible exact ih0 _ _ _ _ _)
   | (with_reducible exact ih1 _ _ _ _ _ _ _ _ _)
   | (with_reducible exact ih2 _ _ _ _ _ _ _ _ _ _)
   | (with_reducible exact cadencelaw2_Few.mono _ _)
   | (with_reducible exact cadencelaw4_Small.mono _ _ _ _)
   | (with_reducible exact cadenceref2_Same.mono _ _ _)
   | (with_reducible exact cadenceref2_With.mono _ _ _ _)
   | (with_reducible exact cadenceref2_Without.mono _ _ _)
   | (with_reducible exact LeO.refl _)
   | (with_reducible exact LeO.none _)
   | (with_reducible refine LeO.ite ?_ ?_)
   | (with_reducible refine LeO.bind ?_ (fun _=>?_))
   | exact ih0 _ _ _ _ _
   | exact ih1 _ _ _ _ _ _ _ _ _
   | exact ih2 _ _ _ _ _ _ _ _ _ _
   | exact cadencelaw2_Few.mono _ _
   | exact cadencelaw4_Small.mono _ _ _ _
   | exact cadenceref2_Same.mono _ _ _
   | exact cadenceref2_With.mono _ _ _ _
   | exact cadenceref2_Without.mono _ _ _
   | exact LeO.none _
   | refine LeO.ite ?_ ?_
   | refine LeO.bind ?_ (fun _=>?_)
theorem cadencelaw12_MergeApart.mono:∀ a0 a1 a2 a3 k,LeO (cadencelaw12_MergeApart.f k a0 a1 a2 a3) (cadencelaw12_MergeApart.f (k+1) a0 a1 a2 a3):=by
 intro a0 a1 a2 a3 k
 obtain ⟨ih0,ih1,ih2⟩:=cadencelaw12_MergeApart.mono_l k
 unfold cadencelaw12_MergeApart.f
 repeat' first
   | (with_reducible exact ih0 _ _ _ _ _)
   | (with_reducible exact ih1 _ _ _ _ _ _ _ _ _)
   | (with_reducible exact ih2 _ _ _ _ _ _ _ _ _ _)
   | (with_reducible exact cadencelaw2_Few.mono _ _)
   | (with_reducible exact cadencelaw4_Small.mono _ _ _ _)
   | (with_reducible exact cadenceref2_Same.mono _ _ _)
   | (with_reducible exact cadenceref2_With.mono _ _ _ _)
   | (with_reducible exact cadenceref2_Without.mono _ _ _)
   | (with_reducible exact LeO.refl _)
   | (with_reducible exact LeO.none _)
   | (with_reducible refine LeO.ite ?_ ?_)
   | (with_reducible refine LeO.bind ?_ (fun _=>?_))
   | exact ih0 _ _ _ _ _
   | exact ih1 _ _ _ _ _ _ _ _ _
   | exact ih2 _ _ _ _ _ _ _ _ _ _
   | exact cadencelaw2_Few.mono _ _
   | exact cadencelaw4_Small.mono _ _ _ _
   | exact cadenceref2_Same.mono _ _ _
   | exact cadenceref2_With.mono _ _ _ _
   | exact cadenceref2_Without.mono _ _ _
   | exact LeO.none _
   | refine LeO.ite ?_ ?_
   | refine LeO.bind ?_ (fun _=>?_)
def cadencelaw12_MergeApart.T17:Bool × List (List Nat × List Nat):=(true,[([],[]),([],[]),([],[]),([1,2],[1,2]),([3],[3]),([],[]),([0,4,5],[0,4,5]),([],[]),([],[]),([],[]),([8,9],[8,9]),([10],[10]),([],[]),([7,11,12,6],[7,11,12]),([6,13,0,1,2,3,4,5,6],[0,6]),([13,14,0,1,2,3,4,5,6,7,8,9,10,11,12,13,14],[7,13])])
def cadencelaw12_MergeApart.B17:List Nat:=[0,0,0,6,14,0,63,0,0,0,768,1792,0,8191,16383,32767]
theorem cadencelaw12_MergeApart.tab17:rtab .any (opsOf Try.f4 17)=cadencelaw12_MergeApart.T17:=by kernel_rfl
theorem cadencelaw12_MergeApart.bits17:waitsOk cadencelaw12_MergeApart.T17.2 cadencelaw12_MergeApart.B17=true:=by kernel_rfl
def cadencelaw12_MergeApart.T19:Bool × List (List Nat × List Nat):=(true,[([],[]),([],[]),([],[]),([1,2],[1,2]),([3],[3]),([0,4],[0,4]),([],[]),([],[]),([],[]),([7,8],[7,8]),([9],[9]),([6,10,5],[6,10]),([5,11,0,1,2,3,4,5],[0,5]),([11,12,0,1,2,3,4,5,6,7,8,9,10,11,12],[6,11])])
def cadencelaw12_MergeApart.B19:List Nat:=[0,0,0,6,14,31,0,0,0,384,896,2047,4095,8191]
theorem cadencelaw12_MergeApart.tab19:rtab .any (opsOf Try.f4 19)=cadencelaw12_MergeApart.T19:=by kernel_rfl
theorem cadencelaw12_MergeApart.bits19:waitsOk cadencelaw12_MergeApart.T19.2 cadencelaw12_MergeApart.B19=true:=by kernel_rfl
def cadencelaw12_MergeApart.T22:Bool × List (List Nat × List Nat):=(true,[([],[]),([],[]),([],[]),([1,2],[1,2]),([3],[3]),([],[]),([0,4,5],[0,4,5]),([],[]),([],[]),([],[]),([8,9],[8,9]),([10],[10]),([],[]),([7,11,12,6],[7,11,12]),([6,13,0,1,2,3,4,5,6],[0,6]),([13,14,0,1,2,3,4,5,6,7,8,9,10,11,12,13,14],[7,13])])
def cadencelaw12_MergeApart.B22:List Nat:=[0,0,0,6,14,0,63,0,0,0,768,1792,0,8191,16383,32767]
theorem cadencelaw12_MergeApart.tab22:rtab .any (opsOf Try.f4 22)=cadencelaw12_MergeApart.T22:=by kernel_rfl
theorem cadencelaw12_MergeApart.bits22:waitsOk cadencelaw12_MergeApart.T22.2 cadencelaw12_MergeApart.B22=true:=by kernel_rfl
def cadencelaw12_MergeApart.T24:Bool × List (List Nat × List Nat):=(true,[([],[]),([],[]),([],[]),([1,2],[1,2]),([3],[3]),([0,4],[0,4]),([],[]),([],[]),([],[]),([7,8],[7,8]),([9],[9]),([6,10,5],[6,10]),([5,11,0,1,2,3,4,5],[0,5]),([11,12,0,1,2,3,4,5,6,7,8,9,10,11,12],[6,11])])
def cadencelaw12_MergeApart.B24:List Nat:=[0,0,0,6,14,31,0,0,0,384,896,2047,4095,8191]
theorem cadencelaw12_MergeApart.tab24:rtab .any (opsOf Try.f4 24)=cadencelaw12_MergeApart.T24:=by kernel_rfl
theorem cadencelaw12_MergeApart.bits24:waitsOk cadencelaw12_MergeApart.T24.2 cadencelaw12_MergeApart.B24=true:=by kernel_rfl
set_option maxHeartbeats 8000000 in
set_option maxRecDepth 100000 in
theorem cadencelaw12_MergeApart.calls (k:Nat) (A0:Option Addr) (c0:Nat) (l0:List (S73)) (A1:Option Addr) (c1:Nat) (l1:List (S73)) (A2:Option Addr) (c2:Nat) (l2:List (S73)) (A3:Option Addr) (c3:Nat) (l3:List Int) (r:Bool) (w:World) (hr0:Kd.C k73 w A0 l0.length l0) (hc0:l0.length≤c0) (hr1:Kd.C k73 w A1 l1.length l1) (hc1:l1.length≤c1) (hr2:Kd.C k73 w A2 l2.length l2) (hc2:l2.length≤c2) (hr3:Kd.C (Kd.int .i64) w A3 l3.length l3) (hc3:l3.length≤c3) (h:cadencelaw12_MergeApart.f k l0 l1 l2 l3=some r) :
  Calls Try.prog 4 #[.slice A0 l0.length c0,.slice A1 l1.length c1,.slice A2 l2.length c2,.slice A3 l3.length c3] w fun e w'=>e=.returned (.bool r)∧Below w.heap.size w w':=by
 have hu26:=Try.underlying26
 have HR0:=Aside0.mk hr0
 have HC0:=Aside0.mk hc0
 clear hr0 hc0
 have HR1:=Aside0.mk hr1
 have HC1:=Aside0.mk hc1
 clear hr1 hc1
 have HR2:=Aside0.mk hr2
 have HC2:=Aside0.mk hc2
 clear hr2 hc2
 have HR3:=Aside0.mk hr3
 have HC3:=Aside0.mk hc3
 clear hr3 hc3
 have HB:=Aside0.mk (Below.refl w.heap.size w)
 have H:((cadencelaw12_known.f).bind fun t340=>(if t340=true then ((cadencelaw2_Few.f k l0).bind fun t341=>(if t341=true then ((cadencelaw2_Few.f k l1).bind fun t342=>(if t342=true then ((cadencelaw2_Few.f k l2).bind fun t343=>(cadencelaw12_MergeApart.j0 k l0 l1 l2 l3 (!t343))) else (cadencelaw12_MergeApart.j0 k l0 l1 l2 l3 true))) else (cadencelaw12_MergeApart.j0 k l0 l1 l2 l3 true))) else (none)))=some r:=h
 clear h
 replace H:=Option.bind_eq_some_iff.mp H
 obtain ⟨t340,A50,H⟩:=H
 replace H:(if t340=true then ((cadencelaw2_Few.f k l0).bind fun t341=>(if t341=true then ((cadencelaw2_Few.f k l1).bind fun t342=>(if t342=true then ((cadencelaw2_Few.f k l2).bind fun t343=>(cadencelaw12_MergeApart.j0 k l0 l1 l2 l3 (!t343))) else (cadencelaw12_MergeApart.j0 k l0 l1 l2 l3 true))) else (cadencelaw12_MergeApart.j0 k l0 l1 l2 l3 true))) else (none))=some r:=H
 have A5:=Aside0.mk A50
 clear A50
 by_cases c6:t340=true
 ·subst c6
  have H1:((cadencelaw2_Few.f k l0).bind fun t341=>(if t341=true then ((cadencelaw2_Few.f k l1).bind fun t342=>(if t342=true then ((cadencelaw2_Few.f k l2).bind fun t343=>(cadencelaw12_MergeApart.j0 k l0 l1 l2 l3 (!t343))) else (cadencelaw12_MergeApart.j0 k l0 l1 l2 l3 true))) else (cadencelaw12_MergeApart.j0 k l0 l1 l2 l3 true)))=some r:=by rw [if_pos rfl] at H;exact H
  clear H
  have H:=H1
  clear H1
  have HC7:=Aside0.mk H
  clear H
  go_enter Try.func4,Try.ntmps4
  go_upto_region 3 with (first|((with_reducible refine gate_callee (f:=7) rfl ?_);refine goesL_ (some 21) rfl rfl Try.func7 (by kernel_rfl) rfl #[] rfl (by (try simp only [List.map_toArray,List.map_cons,List.map_nil]);first|done|rfl|(simp only [List.length_drop,List.length_take];rfl)) ?_;(with_reducible refine (cadencelaw12_known.calls  true _ A5.out).mono ?_);rintro e w8 ⟨rfl,hb⟩;refine ⟨_,rfl,?_⟩;have n0_:=Aside0.mk (below_step (by repeat (first|(with_reducible first|exact HB.out|apply bA_|apply bN_|apply bD_)|exact HB.out)) hb);clear HB;have HB:=n0_;clear n0_;(try clear hb);(try clear hb2);(try clear hk);(try clear hi)))
  (try simp only [Act.put,List.setIfInBounds_toArray,List.set_cons_zero,List.set_cons_succ])
  go_cut [35] (fun v35 wc=>∃ (kq:Nat) (x35_6:Bool),v35=.bool x35_6∧Aside0 (cadencelaw12_MergeApart.j0 kq l0 l1 l2 l3 x35_6=some r)∧Aside0 (kq≤k)∧Aside0 (Below w.heap.size w wc))
  case first =>
   have H:=HC7.out
   clear HC7
   replace H:=Option.bind_eq_some_iff.mp H
   obtain ⟨t341,A90,H⟩:=H
   replace H:(if t341=true then ((cadencelaw2_Few.f k l1).bind fun t342=>(if t342=true then ((cadencelaw2_Few.f k l2).bind fun t343=>(cadencelaw12_MergeApart.j0 k l0 l1 l2 l3 (!t343))) else (cadencelaw12_MergeApart.j0 k l0 l1 l2 l3 true))) else (cadencelaw12_MergeApart.j0 k l0 l1 l2 l3 true))=some r:=H
   have A9:=Aside0.mk A90
   clear A90
   by_cases c10:t341=true
   ·subst c10
    have H1:((cadencelaw2_Few.f k l1).bind fun t342=>(if t342=true then ((cadencelaw2_Few.f k l2).bind fun t343=>(cadencelaw12_MergeApart.j0 k l0 l1 l2 l3 (!t343))) else (cadencelaw12_MergeApart.j0 k l0 l1 l2 l3 true)))=some r:=by rw [if_pos rfl] at H;exact H
    clear H
    have H:=H1
    clear H1
    replace H:=Option.bind_eq_some_iff.mp H
    obtain ⟨t342,A110,H⟩:=H
    replace H:(if t342=true then ((cadencelaw2_Few.f k l2).bind fun t343=>(cadencelaw12_MergeApart.j0 k l0 l1 l2 l3 (!t343))) else (cadencelaw12_MergeApart.j0 k l0 l1 l2 l3 true))=some r:=H
    have A11:=Aside0.mk A110
    clear A110
    by_cases c12:t342=true
    ·subst c12
     have H1:((cadencelaw2_Few.f k l2).bind fun t343=>(cadencelaw12_MergeApart.j0 k l0 l1 l2 l3 (!t343)))=some r:=by rw [if_pos rfl] at H;exact H
     clear H
     have H:=H1
     clear H1
     replace H:=Option.bind_eq_some_iff.mp H
     obtain ⟨t343,A130,H⟩:=H
     replace H:(cadencelaw12_MergeApart.j0 k l0 l1 l2 l3 (!t343))=some r:=H
     have A13:=Aside0.mk A130
     clear A130
     have H':=Aside0.mk H
     clear H
     go_wp2_with (first|((with_reducible refine gate_callee (f:=13) rfl ?_);refine goesL_ (some 24) rfl rfl Try.func13 (by kernel_rfl) rfl #[.slice A0 l0.length c0] rfl (by (try simp only [List.map_toArray,List.map_cons,List.map_nil]);first|done|rfl|(simp only [List.length_drop,List.length_take];rfl)) ?_;(with_reducible refine (cadencelaw2_Few.calls k _ _ l0 true _ ?side1 ?side2 A9.out).mono ?_);(case side1=>repeat (first|exact (Kd.C_below HR0.out HB.out)|(with_reducible refine cA_ ?_ _)|(with_reducible refine cN_ ?_ _)|(with_reducible refine cD_ ?_)));(case side2=>exact HC0.out);rintro e w' ⟨rfl,⟨nd,rfl⟩⟩;refine ⟨_,rfl,?_⟩)|(go_at_call 13;(with_reducible refine (cadencelaw2_Few.calls k _ _ l1 true _ ?side1 ?side2 A11.out).mono ?_);(case side1=>repeat (first|exact (Kd.C_below HR1.out (by repeat (first|(with_reducible first|exact HB.out|apply bA_|apply bN_|apply bD_)|exact HB.out)))|(with_reducible refine cA_ ?_ _)|(with_reducible refine cN_ ?_ _)|(with_reducible refine cD_ ?_)));(case side2=>exact HC1.out);rintro e w' ⟨rfl,⟨nd,rfl⟩⟩)|(go_at_call 13;(with_reducible refine (cadencelaw2_Few.calls k _ _ l2 t343 _ ?side1 ?side2 A13.out).mono ?_);(case side1=>repeat (first|exact (Kd.C_below HR2.out (by repeat (first|(with_reducible first|exact HB.out|apply bA_|apply bN_|apply bD_)|exact HB.out)))|(with_reducible refine cA_ ?_ _)|(with_reducible refine cN_ ?_ _)|(with_reducible refine cD_ ?_)));(case side2=>exact HC2.out);rintro e w' ⟨rfl,⟨nd,rfl⟩⟩))
     go_meet
     case rel=>exact ⟨_,(!t343),(by first|rfl|(simp;done)|(simp [*];done)),H',⟨by first|omega|exact Nat.le_refl _⟩,⟨by repeat (first|(with_reducible first|exact HB.out|apply bA_|apply bN_|apply bD_)|exact HB.out)⟩⟩
    ·replace c12:=Bool.eq_false_iff.mpr c12
     subst c12
     have H1:(cadencelaw12_MergeApart.j0 k l0 l1 l2 l3 true)=some r:=by rw [if_neg (show ¬ (false=true) by decide)] at H;exact H
     clear H
     have H:=H1
     clear H1
     have H':=Aside0.mk H
     clear H
     go_wp2_with (first|((with_reducible refine gate_callee (f:=13) rfl ?_);refine goesL_ (some 24) rfl rfl Try.func13 (by kernel_rfl) rfl #[.slice A0 l0.length c0] rfl (by (try simp only [List.map_toArray,List.map_cons,List.map_nil]);first|done|rfl|(simp only [List.length_drop,List.length_take];rfl)) ?_;(with_reducible refine (cadencelaw2_Few.calls k _ _ l0 true _ ?side1 ?side2 A9.out).mono ?_);(case side1=>repeat (first|exact (Kd.C_below HR0.out HB.out)|(with_reducible refine cA_ ?_ _)|(with_reducible refine cN_ ?_ _)|(with_reducible refine cD_ ?_)));(case side2=>exact HC0.out);rintro e w' ⟨rfl,⟨nd,rfl⟩⟩;refine ⟨_,rfl,?_⟩)|(go_at_call 13;(with_reducible refine (cadencelaw2_Few.calls k _ _ l1 false _ ?side1 ?side2 A11.out).mono ?_);(case side1=>repeat (first|exact (Kd.C_below HR1.out (by repeat (first|(with_reducible first|exact HB.out|apply bA_|apply bN_|apply bD_)|exact HB.out)))|(with_reducible refine cA_ ?_ _)|(with_reducible refine cN_ ?_ _)|(with_reducible refine cD_ ?_)));(case side2=>exact HC1.out);rintro e w' ⟨rfl,⟨nd,rfl⟩⟩))
     go_meet
     case rel=>exact ⟨_,(true),(by first|rfl|(simp;done)|(simp [*];done)),H',⟨by first|omega|exact Nat.le_refl _⟩,⟨by repeat (first|(with_reducible first|exact HB.out|apply bA_|apply bN_|apply bD_)|exact HB.out)⟩⟩
   ·replace c10:=Bool.eq_false_iff.mpr c10
    subst c10
    have H1:(cadencelaw12_MergeApart.j0 k l0 l1 l2 l3 true)=some r:=by rw [if_neg (show ¬ (false=true) by decide)] at H;exact H
    clear H
    have H:=H1
    clear H1
    have H':=Aside0.mk H
    clear H
    go_wp2_with (first|((with_reducible refine gate_callee (f:=13) rfl ?_);refine goesL_ (some 24) rfl rfl Try.func13 (by kernel_rfl) rfl #[.slice A0 l0.length c0] rfl (by (try simp only [List.map_toArray,List.map_cons,List.map_nil]);first|done|rfl|(simp only [List.length_drop,List.length_take];rfl)) ?_;(with_reducible refine (cadencelaw2_Few.calls k _ _ l0 false _ ?side1 ?side2 A9.out).mono ?_);(case side1=>repeat (first|exact (Kd.C_below HR0.out HB.out)|(with_reducible refine cA_ ?_ _)|(with_reducible refine cN_ ?_ _)|(with_reducible refine cD_ ?_)));(case side2=>exact HC0.out);rintro e w' ⟨rfl,⟨nd,rfl⟩⟩;refine ⟨_,rfl,?_⟩))
    go_meet
    case rel=>exact ⟨_,(true),(by first|rfl|(simp;done)|(simp [*];done)),H',⟨by first|omega|exact Nat.le_refl _⟩,⟨by repeat (first|(with_reducible first|exact HB.out|apply bA_|apply bN_|apply bD_)|exact HB.out)⟩⟩
  case rest =>
   clear HC7
   try clear c1
   try clear c2
   try clear p2
   try clear c3
   try clear c4
   try clear c6
   try clear c7
   try clear c10
   try clear c12
   try clear c13
   obtain ⟨kq,x35_6,rfl,HA,HJ6,HB⟩:=hcut
   cases kq with
   | zero=>exact absurd HA.out (by simp [cadencelaw12_MergeApart.j0])
   | succ kj6 =>
    have H:=HA.out
    clear HA
    simp only [cadencelaw12_MergeApart.j0] at H
    by_cases c14:x35_6=true
    ·subst c14
     have H1:(some true)=some r:=by rw [if_pos rfl] at H;exact H
     clear H
     have H:=H1
     clear H1
     obtain rfl:=Option.some.inj H
     go_wp2
     go_ret
     exact ⟨by first|rfl|(simp [errW_none,errW_some] <;> rfl)|(simp [*,errW_none,errW_some] <;> rfl),by repeat (first|(with_reducible first|exact HB.out|apply bA_|apply bN_|apply bD_)|exact HB.out)⟩
    ·replace c14:=Bool.eq_false_iff.mpr c14
     subst c14
     have H1:((cadencelaw4_Small.f kj6 l0 5 4).bind fun t344=>(cadencelaw12_MergeApart.l0 kj6 l1 l2 l3 t344 t344 t344 t344 (([(⟨#[]⟩:ByteArray),(⟨#[97]⟩:ByteArray),(⟨#[98]⟩:ByteArray),(⟨#[99]⟩:ByteArray),(⟨#[100]⟩:ByteArray)]:List ByteArray)) 0))=some r:=by rw [if_neg (show ¬ (false=true) by decide)] at H;exact H
     clear H
     have H:=H1
     clear H1
     replace H:=Option.bind_eq_some_iff.mp H
     obtain ⟨t344,A150,H⟩:=H
     replace H:(cadencelaw12_MergeApart.l0 kj6 l1 l2 l3 t344 t344 t344 t344 (([(⟨#[]⟩:ByteArray),(⟨#[97]⟩:ByteArray),(⟨#[98]⟩:ByteArray),(⟨#[99]⟩:ByteArray),(⟨#[100]⟩:ByteArray)]:List ByteArray)) 0)=some r:=H
     have A15:=Aside0.mk A150
     clear A150
     obtain ⟨y347,hy347⟩:∃ y_:List ByteArray,y_=(([(⟨#[]⟩:ByteArray),(⟨#[97]⟩:ByteArray),(⟨#[98]⟩:ByteArray),(⟨#[99]⟩:ByteArray),(⟨#[100]⟩:ByteArray)]:List ByteArray)):=⟨_,rfl⟩
     replace H:(cadencelaw12_MergeApart.l0 kj6 l1 l2 l3 t344 t344 t344 t344 y347 0)=some r:=by first|(rw [hy347];with_reducible exact H)|(have H2_:=(Option.bind_some _ _).symm.trans H;rw [hy347];with_reducible exact H2_)|(have H2_:=(Option.bind_some _ _).symm.trans H;with_reducible exact H2_)|with_reducible exact H|(rw [hy347];exact H)|exact H
     have Ny347:=Aside0.mk hy347
     clear hy347
     have H':=Aside0.mk H
     clear H
     go_wp2_with (first|((with_reducible refine gate_callee (f:=14) rfl ?_);refine goesL_ (some 37) rfl rfl Try.func14 (by kernel_rfl) rfl #[.slice A0 l0.length c0,.int .i64 5,.int .i64 4] rfl (by (try simp only [List.map_toArray,List.map_cons,List.map_nil]);first|done|rfl|(simp only [List.length_drop,List.length_take];rfl)) ?_;(with_reducible refine (cadencelaw4_Small.calls kj6 _ _ l0 5 4 t344 _ ?side1 ?side2 A15.out).mono ?_);(case side1=>repeat (first|exact (Kd.C_below HR0.out HB.out)|(with_reducible refine cA_ ?_ _)|(with_reducible refine cN_ ?_ _)|(with_reducible refine cD_ ?_)));(case side2=>exact HC0.out);rintro e w16 ⟨v345,rfl,ho0,hb⟩;refine ⟨_,rfl,?_⟩;have n0_:=Aside0.mk (Kd.N_lower (Kd.N_mono (ok':=fun k_=>True) ho0 (fun k_ hk_=>trivial)) (below_size (by repeat (first|(with_reducible first|exact HB.out|apply bA_|apply bN_|apply bD_)|exact HB.out))));have n1_:=Aside0.mk (below_step (by repeat (first|(with_reducible first|exact HB.out|apply bA_|apply bN_|apply bD_)|exact HB.out)) hb);clear HB;have HO346:=n0_;have HB:=n1_;clear n0_ n1_;(try clear hb);(try clear hb2);(try clear hk);(try clear hi);(try clear ho0))|((with_reducible refine gate_dst (N:=41) rfl ?_);refine Kd.R_lit Kd.string _ 9 ?hg (N:=41) ?hd (xs:=([(⟨#[]⟩:ByteArray),(⟨#[97]⟩:ByteArray),(⟨#[98]⟩:ByteArray),(⟨#[99]⟩:ByteArray),(⟨#[100]⟩:ByteArray)]:List ByteArray)) (inner:=[.string (⟨#[]⟩:ByteArray),.string (⟨#[97]⟩:ByteArray),.string (⟨#[98]⟩:ByteArray),.string (⟨#[99]⟩:ByteArray),.string (⟨#[100]⟩:ByteArray)]) (ok:=fun _=>True) (okp:=fun _=>True) ?hr ?hp (fun _ hk=>hk) trivial (Below.refl _ _) (Nat.le_refl _) (by simp) ?_;(case hd=>rfl);(case hg=>rfl);(case hr=>first|(go_simp;done)|(go_simp;rfl));(case hp=>exact (Reps.one (show Kd.M Kd.string _ _ _ (⟨#[]⟩:ByteArray) [.string (⟨#[]⟩:ByteArray)] from rfl) (Reps.one (show Kd.M Kd.string _ _ _ (⟨#[97]⟩:ByteArray) [.string (⟨#[97]⟩:ByteArray)] from rfl) (Reps.one (show Kd.M Kd.string _ _ _ (⟨#[98]⟩:ByteArray) [.string (⟨#[98]⟩:ByteArray)] from rfl) (Reps.one (show Kd.M Kd.string _ _ _ (⟨#[99]⟩:ByteArray) [.string (⟨#[99]⟩:ByteArray)] from rfl) (Reps.one (show Kd.M Kd.string _ _ _ (⟨#[100]⟩:ByteArray) [.string (⟨#[100]⟩:ByteArray)] from rfl) (Reps.none _ _)))))));intro v348 w17 ho18 hb hg_ hnew_;clear hg_ hnew_;(first|rw [← Ny347.out] at ho18|(simp only [Int.reduceToNat] at ho18;rw [← Ny347.out] at ho18));have n0_:=Aside0.mk (Kd.N_elder' (by (with_reducible repeat (first|apply nA_|apply nN_|apply nD_));exact HO346.out) (Kd.R_base ho18) hb);have n1_:=Aside0.mk (Kd.R_lower ho18 (below_size (by repeat (first|(with_reducible first|exact HB.out|apply bA_|apply bN_|apply bD_)|exact HB.out))));have n2_:=Aside0.mk (below_step (by repeat (first|(with_reducible first|exact HB.out|apply bA_|apply bN_|apply bD_)|exact HB.out)) hb);clear HO346;clear HB;have HO346:=n0_;have HO349:=n1_;have HB:=n2_;clear n0_ n1_ n2_;clear hb ho18))
     go_loopg [10,11,12,14] kj6 (fun kq v10 v11 v12 v14 w'=>∃ (x10_2:List (S51)) (x11_2:List (S51)) (x12_2:List (S51)) (x14_2:Int),v14=.int .i64 x14_2∧Aside0 (cadencelaw12_MergeApart.l0 kq l1 l2 l3 t344 x10_2 x11_2 x12_2 y347 x14_2=some r)∧Aside0 (kq≤kj6)∧Aside0 (Kd.N k51 51 w' w.heap.size (fun k_=>some k_≠(v348:Value).ownBlock) v345 t344)∧Aside0 (Kd.V k51 51 w' w.heap.size (fun k_=>some k_≠(v348:Value).ownBlock) v10 x10_2)∧Aside0 (Kd.V k51 51 w' w.heap.size (fun k_=>some k_≠(v348:Value).ownBlock) v11 x11_2)∧Aside0 (Kd.V k51 51 w' w.heap.size (fun k_=>some k_≠(v348:Value).ownBlock) v12 x12_2)∧Aside0 (Kd.R Kd.string 9 w' w.heap.size (fun _=>True) v348 y347)∧Aside0 (Below w.heap.size w w'))
     case atStart=>exact ⟨(t344),(t344),(t344),(0),(by first|rfl|(simp;done)|(simp [*];done)),H',⟨Nat.le_refl _⟩,⟨by (with_reducible repeat (first|apply nA_|apply nN_|apply nD_));exact Kd.N_mono HO346.out (fun _ hk=>hk.2)⟩,⟨Kd.N_V (by (with_reducible repeat (first|apply nA_|apply nN_|apply nD_));exact Kd.N_mono HO346.out (fun _ hk=>hk.2))⟩,⟨Kd.N_V (by (with_reducible repeat (first|apply nA_|apply nN_|apply nD_));exact Kd.N_mono HO346.out (fun _ hk=>hk.2))⟩,⟨Kd.N_V (by (with_reducible repeat (first|apply nA_|apply nN_|apply nD_));exact Kd.N_mono HO346.out (fun _ hk=>hk.2))⟩,⟨by (with_reducible repeat (first|apply rA_|apply rN_|apply rD_));exact HO349.out⟩,⟨by repeat (first|(with_reducible first|exact HB.out|apply bA_|apply bN_|apply bD_)|exact HB.out)⟩⟩
     case round =>
      clear H'
      try clear c1
      try clear c2
      try clear p2
      try clear c3
      try clear c4
      try clear c6
      try clear c7
      try clear c10
      try clear c12
      try clear c13
      try clear c14
      try clear p2
      obtain ⟨x10_2,x11_2,x12_2,x14_2,rfl,HA,HK2,HO_9,HO_10,HO_11,HO_12,HO_13,HB⟩:=hrel
      cases gk with
      | zero=>exact absurd HA.out (by simp [cadencelaw12_MergeApart.l0])
      | succ k2 =>
       have H:=HA.out
       clear HA
       simp only [cadencelaw12_MergeApart.l0] at H
       by_cases c19:x14_2 < 5
       ·rw [if_pos c19] at H
        have c19b0:decide (x14_2 < 5)=true:=decide_eq_true c19
        clear c19
        have HC20:=Aside0.mk H
        clear H
        go_upto_if 49 with (fail)
        go_cut [15] (fun v15 wc=>∃ (kq:Nat) (x15_19:Int),v15=.int .i64 x15_19∧Aside0 (cadencelaw12_MergeApart.j2 kq l1 l2 l3 t344 x10_2 x11_2 x12_2 y347 x14_2 x15_19=some r)∧Aside0 (kq≤k2)∧Aside0 (Kd.N k51 51 wc w.heap.size (fun k_=>some k_≠(v348:Value).ownBlock) v345 t344)∧Aside0 (Kd.V k51 51 wc w.heap.size (fun k_=>some k_≠(v348:Value).ownBlock) u10 x10_2)∧Aside0 (Kd.V k51 51 wc w.heap.size (fun k_=>some k_≠(v348:Value).ownBlock) u11 x11_2)∧Aside0 (Kd.V k51 51 wc w.heap.size (fun k_=>some k_≠(v348:Value).ownBlock) u12 x12_2)∧Aside0 (Kd.R Kd.string 9 wc w.heap.size (fun _=>True) v348 y347)∧Aside0 (Below w.heap.size w wc))
        case first =>
         have H:=HC20.out
         clear HC20
         by_cases c21:x14_2 < (l3.length:Int)
         ·rw [if_pos c21] at H
          have c21b0:decide (x14_2 < (l3.length:Int))=true:=decide_eq_true c21
          clear c21
          (first|rw [c21b0]|(simp only [i64_w,i32_w];rw [c21b0])|skip)
          by_cases c22:0≤x14_2
          ·rw [if_pos c22] at H
           have c22b0:decide (0≤x14_2)=true:=decide_eq_true c22
           clear c22
           replace H:=Option.bind_eq_some_iff.mp H
           obtain ⟨t351,A230,H⟩:=H
           replace H:(cadencelaw12_MergeApart.j2 k2 l1 l2 l3 t344 x10_2 x11_2 x12_2 y347 x14_2 t351)=some r:=H
           have A23:=Aside0.mk A230
           clear A230
           have H':=Aside0.mk H
           clear H
           have p350:0≤(x14_2:Int):=of_decide_eq_true (by first|(with_reducible assumption)|assumption)
           have q350:x14_2 < (l3.length:Int):=of_decide_eq_true (by first|(with_reducible assumption)|assumption)
           obtain ⟨ad350,e350,hx350_0⟩:=Kd.at_int HR3.out x14_2 p350 q350
           cases e350
           replace hx350_0:=(HB.out.cell (World.block_lt_of_cell? w _ hx350_0)).trans hx350_0
           replace p350:=eq_true p350
           replace q350:=eq_true q350
           go_wp2_with (first|((with_reducible refine gate_callee (f:=15) rfl ?_);refine goesL_ (some 54) rfl rfl Try.func15 (by kernel_rfl) rfl #[.int .i64 (rd l3 x14_2),.int .i64 5] rfl (by (try simp only [List.map_toArray,List.map_cons,List.map_nil]);first|done|rfl|(simp only [List.length_drop,List.length_take];rfl)) ?_;(with_reducible refine (cadencelaw12_within.calls (rd l3 x14_2) 5 t351 _ A23.out).mono ?_);rintro e w' ⟨rfl,⟨nd,rfl⟩⟩;refine ⟨_,rfl,?_⟩))
           go_meet
           case rel=>exact ⟨_,(t351),(by first|rfl|(simp;done)|(simp [*];done)),H',⟨by have:=HJ6.out;have:=HK2.out;first|omega|exact Nat.le_refl _⟩,⟨by (with_reducible repeat (first|apply nA_|apply nN_|apply nD_));exact HO_9.out⟩,⟨by (with_reducible repeat (first|apply vA_|apply vN_|apply vD_));exact HO_10.out⟩,⟨by (with_reducible repeat (first|apply vA_|apply vN_|apply vD_));exact HO_11.out⟩,⟨by (with_reducible repeat (first|apply vA_|apply vN_|apply vD_));exact HO_12.out⟩,⟨by (with_reducible repeat (first|apply rA_|apply rN_|apply rD_));exact HO_13.out⟩,⟨by repeat (first|(with_reducible first|exact HB.out|apply bA_|apply bN_|apply bD_)|exact HB.out)⟩⟩
          ·rw [if_neg c22] at H
           exact absurd H (by simp)
         ·rw [if_neg c21] at H
          have c21b0:decide (x14_2 < (l3.length:Int))=false:=decide_eq_false c21
          clear c21
          (first|rw [c21b0]|(simp only [i64_w,i32_w];rw [c21b0])|skip)
          have H':=Aside0.mk H
          clear H
          go_wp2
          go_meet
          case rel=>exact ⟨_,(0),(by first|rfl|(simp;done)|(simp [*];done)),H',⟨by have:=HJ6.out;have:=HK2.out;first|omega|exact Nat.le_refl _⟩,⟨by (with_reducible repeat (first|apply nA_|apply nN_|apply nD_));exact HO_9.out⟩,⟨by (with_reducible repeat (first|apply vA_|apply vN_|apply vD_));exact HO_10.out⟩,⟨by (with_reducible repeat (first|apply vA_|apply vN_|apply vD_));exact HO_11.out⟩,⟨by (with_reducible repeat (first|apply vA_|apply vN_|apply vD_));exact HO_12.out⟩,⟨by (with_reducible repeat (first|apply rA_|apply rN_|apply rD_));exact HO_13.out⟩,⟨by repeat (first|(with_reducible first|exact HB.out|apply bA_|apply bN_|apply bD_)|exact HB.out)⟩⟩
        case rest =>
         clear HC20
         try clear c1
         try clear c2
         try clear p2
         try clear c3
         try clear p3
         try clear q3
         try clear hx3
         try clear c4
         try clear c6
         try clear c7
         try clear c10
         try clear c12
         try clear c13
         try clear c14
         try clear c15
         try clear c19
         try clear c19b0
         try clear c21
         try clear c21b0
         try clear c22
         try clear c22b0
         try clear hx350_0
         try clear p2
         try clear p350
         try clear q350
         obtain ⟨kq,x15_19,rfl,HA,HJ19,HO_9,HO_10,HO_11,HO_12,HO_13,HB⟩:=hcut
         cases kq with
         | zero=>exact absurd HA.out (by simp [cadencelaw12_MergeApart.j2])
         | succ kj19 =>
          have H:=HA.out
          clear HA
          simp only [cadencelaw12_MergeApart.j2] at H
          replace H:=Option.bind_eq_some_iff.mp H
          obtain ⟨t352,A240,H⟩:=H
          replace H:(if x15_19=1 then (if 0≤x14_2 then (if x14_2 < (y347.length:Int) then ((cadenceref2_With.f kj19 x10_2 (rdOf ByteArray.empty y347 x14_2) t352).bind fun t356=>((cadenceref2_With.f kj19 x12_2 (rdOf ByteArray.empty y347 x14_2) t352).bind fun t360=>(cadencelaw12_MergeApart.l0 kj19 l1 l2 l3 t344 t356 x11_2 t360 y347 (wrap64 (x14_2+1))))) else (none)) else (none)) else (if x15_19=2 then (if 0≤x14_2 then (if x14_2 < (y347.length:Int) then ((cadenceref2_Without.f kj19 x10_2 (rdOf ByteArray.empty y347 x14_2)).bind fun t364=>((cadenceref2_Without.f kj19 x12_2 (rdOf ByteArray.empty y347 x14_2)).bind fun t368=>(cadencelaw12_MergeApart.l0 kj19 l1 l2 l3 t344 t364 x11_2 t368 y347 (wrap64 (x14_2+1))))) else (none)) else (none)) else (if x15_19=3 then ((cadencelaw4_Small.f kj19 l2 3 3).bind fun t371=>(if 0≤x14_2 then (if x14_2 < (y347.length:Int) then ((cadenceref2_With.f kj19 x11_2 (rdOf ByteArray.empty y347 x14_2) t371).bind fun t375=>((cadenceref2_With.f kj19 x12_2 (rdOf ByteArray.empty y347 x14_2) t371).bind fun t379=>(cadencelaw12_MergeApart.l0 kj19 l1 l2 l3 t344 x10_2 t375 t379 y347 (wrap64 (x14_2+1))))) else (none)) else (none))) else (if x15_19=4 then (if 0≤x14_2 then (if x14_2 < (y347.length:Int) then ((cadenceref2_Without.f kj19 x11_2 (rdOf ByteArray.empty y347 x14_2)).bind fun t383=>((cadenceref2_Without.f kj19 x12_2 (rdOf ByteArray.empty y347 x14_2)).bind fun t387=>(cadencelaw12_MergeApart.l0 kj19 l1 l2 l3 t344 x10_2 t383 t387 y347 (wrap64 (x14_2+1))))) else (none)) else (none)) else (cadencelaw12_MergeApart.l0 kj19 l1 l2 l3 t344 x10_2 x11_2 x12_2 y347 (wrap64 (x14_2+1)))))))=some r:=H
          have A24:=Aside0.mk A240
          clear A240
          by_cases c25:x15_19=1
          ·rw [if_pos c25] at H
           have c25b0:(x15_19 == 1)=true:=beq_iff_eq.mpr c25
           have c25b1:(x15_19 != 1)=false:=bne_eq_false_iff_eq.mpr c25
           clear c25
           by_cases c26:0≤x14_2
           ·rw [if_pos c26] at H
            have c26b0:decide (0≤x14_2)=true:=decide_eq_true c26
            clear c26
            by_cases c27:x14_2 < (y347.length:Int)
            ·rw [if_pos c27] at H
             have c27b0:decide (x14_2 < (y347.length:Int))=true:=decide_eq_true c27
             clear c27
             replace H:=Option.bind_eq_some_iff.mp H
             obtain ⟨t356,A280,H⟩:=H
             replace H:((cadenceref2_With.f kj19 x12_2 (rdOf ByteArray.empty y347 x14_2) t352).bind fun t360=>(cadencelaw12_MergeApart.l0 kj19 l1 l2 l3 t344 t356 x11_2 t360 y347 (wrap64 (x14_2+1))))=some r:=H
             have A28:=Aside0.mk A280
             clear A280
             replace H:=Option.bind_eq_some_iff.mp H
             obtain ⟨t360,A290,H⟩:=H
             replace H:(cadencelaw12_MergeApart.l0 kj19 l1 l2 l3 t344 t356 x11_2 t360 y347 (wrap64 (x14_2+1)))=some r:=H
             have A29:=Aside0.mk A290
             clear A290
             have H':=Aside0.mk H
             clear H
             try go_wp2_with (first|((with_reducible refine gate_callee (f:=14) rfl ?_);refine goesL_ (some 56) rfl rfl Try.func14 (by kernel_rfl) rfl #[.slice A1 l1.length c1,.int .i64 3,.int .i64 3] rfl (by (try simp only [List.map_toArray,List.map_cons,List.map_nil]);first|done|rfl|(simp only [List.length_drop,List.length_take];rfl)) ?_;(with_reducible refine (cadencelaw4_Small.calls kj19 _ _ l1 3 3 t352 _ ?side1 ?side2 A24.out).mono ?_);(case side1=>repeat (first|exact (Kd.C_below HR1.out HB.out)|(with_reducible refine cA_ ?_ _)|(with_reducible refine cN_ ?_ _)|(with_reducible refine cD_ ?_)));(case side2=>exact HC1.out);rintro e w30 ⟨v353,rfl,ho0,hb⟩;refine ⟨_,rfl,?_⟩;have n0_:=Aside0.mk (Kd.N_elder' (by (with_reducible repeat (first|apply nA_|apply nN_|apply nD_));exact HO_9.out) (Kd.N_base ho0) hb);have n1_:=Aside0.mk (Kd.V_elder' (by (with_reducible repeat (first|apply vA_|apply vN_|apply vD_));exact HO_10.out) (Kd.N_base ho0) hb);have n2_:=Aside0.mk (Kd.V_elder' (by (with_reducible repeat (first|apply vA_|apply vN_|apply vD_));exact HO_11.out) (Kd.N_base ho0) hb);have n3_:=Aside0.mk (Kd.V_elder' (by (with_reducible repeat (first|apply vA_|apply vN_|apply vD_));exact HO_12.out) (Kd.N_base ho0) hb);have n4_:=Aside0.mk (Kd.R_below (by (with_reducible repeat (first|apply rA_|apply rN_|apply rD_));exact HO_13.out) hb);have n5_:=Aside0.mk (Kd.N_lower (Kd.N_mono (ok':=fun k_=>some k_≠(v345:Value).ownBlock∧some k_≠(v348:Value).ownBlock) ho0 (fun k_ hk_=>⟨(Kd.fresh' (Kd.N_lt (by (with_reducible repeat (first|apply nA_|apply nN_|apply nD_));exact HO_9.out)) k_ hk_),(Kd.fresh' (Kd.R_lt (by (with_reducible repeat (first|apply rA_|apply rN_|apply rD_));exact HO_13.out)) k_ hk_)⟩)) (below_size (by repeat (first|(with_reducible first|exact HB.out|apply bA_|apply bN_|apply bD_)|exact HB.out))));have n6_:=Aside0.mk (below_step (by repeat (first|(with_reducible first|exact HB.out|apply bA_|apply bN_|apply bD_)|exact HB.out)) hb);clear HO_9;clear HO_10;clear HO_11;clear HO_12;clear HO_13;clear HB;have HO_9:=n0_;have HO_10:=n1_;have HO_11:=n2_;have HO_12:=n3_;have HO_13:=n4_;have HO354:=n5_;have HB:=n6_;clear n0_ n1_ n2_ n3_ n4_ n5_ n6_;(try clear hb);(try clear hb2);(try clear hk);(try clear hi);(try clear ho0)))
             have n0_:=Aside0.mk (nD_ HO_9.out)
             have n1_:=Aside0.mk (vD_ HO_10.out)
             have n2_:=Aside0.mk (vD_ HO_11.out)
             have n3_:=Aside0.mk (vD_ HO_12.out)
             have n4_:=Aside0.mk (rD_ HO_13.out)
             have n5_:=Aside0.mk (nD_ HO354.out)
             have n6_:=Aside0.mk (bD_ HB.out)
             clear HO_9
             clear HO_10
             clear HO_11
             clear HO_12
             clear HO_13
             clear HO354
             clear HB
             have HO_9:=n0_
             have HO_10:=n1_
             have HO_11:=n2_
             have HO_12:=n3_
             have HO_13:=n4_
             have HO354:=n5_
             have HB:=n6_
             clear n0_ n1_ n2_ n3_ n4_ n5_ n6_
             obtain ⟨Ao32,co32,eo32⟩:=Kd.R_slice HO_13.out
             (first|subst eo32|(injection eo32 with f1_ f2_ f3_;have f4_:=f1_.symm;have f5_:=f3_.symm;clear f1_ f2_ f3_;subst f4_;subst f5_))
             have p355:0≤(x14_2:Int):=of_decide_eq_true (by first|(with_reducible assumption)|assumption)
             have q355:x14_2 < (y347.length:Int):=of_decide_eq_true (by first|(with_reducible assumption)|assumption)
             obtain ⟨ad355,e355,hx355_0⟩:=Kd.at_string (Kd.R_reads' HO_13.out).2.2 x14_2 p355 q355
             cases e355
             replace p355:=eq_true p355
             replace q355:=eq_true q355
             have p359:0≤(x14_2:Int):=of_decide_eq_true (by first|(with_reducible assumption)|assumption)
             have q359:x14_2 < (y347.length:Int):=of_decide_eq_true (by first|(with_reducible assumption)|assumption)
             obtain ⟨ad359,e359,hx359_0⟩:=Kd.at_string (Kd.R_reads' HO_13.out).2.2 x14_2 p359 q359
             obtain rfl:ad355=ad359:=(by injection e359)
             replace p359:=eq_true p359
             replace q359:=eq_true q359
             obtain ⟨Ao33,co33,eo33⟩:=Kd.V_slice HO_10.out
             (first|subst eo33|(injection eo33 with f1_ f2_ f3_;have f4_:=f1_.symm;have f5_:=f3_.symm;clear f1_ f2_ f3_;subst f4_;subst f5_))
             obtain ⟨Ao34,co34,eo34⟩:=Kd.N_slice HO354.out
             (first|subst eo34|(injection eo34 with f1_ f2_ f3_;have f4_:=f1_.symm;have f5_:=f3_.symm;clear f1_ f2_ f3_;subst f4_;subst f5_))
             refine start_ (n:=16) (S:=fun w'=>w'.cell? (ad355.add (x14_2).toNat)=some (.string (rdOf ByteArray.empty y347 x14_2))∧w'.cell? (ad355.add (x14_2).toNat)=some (.string (rdOf ByteArray.empty y347 x14_2))) (ds:=[]) #[false,false,false,false,false,false,false,false,false,false,false,false,false,false,false,false] (by kernel_rfl) rfl rfl ⟨hx355_0,hx359_0⟩ (fun hHeld=>?_);refine with_tabW cadencelaw12_MergeApart.tab17 cadencelaw12_MergeApart.bits17 (fun HT_ HW_=>?_)
             generalize w30.drew=w31 at HO_9 HO_10 HO_11 HO_12 HO_13 HO354 HB hx355_0 hx359_0 hHeld ⊢
             refine pure_ (i:=0) (N:=some 60) (v:=?_) (a':=?_) #[true,false,false,false,false,false,false,false,false,false,false,false,false,false,false,false] rfl rfl (any_of HT_.out (by kernel_rfl)) (fun _ _ _ h=>h) (Or.inl ⟨by rfl,?_⟩) ?_ ?_
             rotate_left
             ·intro w'
              go_simp
              with_reducible rfl
             rotate_left
             ·simp only [Act.put,List.setIfInBounds_toArray,List.set_cons_zero,List.set_cons_succ,i64_w,i32_w]
              rfl
             refine pure_ (i:=1) (N:=some 61) (v:=?_) (a':=?_) #[true,true,false,false,false,false,false,false,false,false,false,false,false,false,false,false] rfl rfl (any_of HT_.out (by kernel_rfl)) (fun _ _ _ h=>h) (Or.inl ⟨by rfl,?_⟩) ?_ ?_
             rotate_left
             ·intro w'
              go_simp
              with_reducible rfl
             rotate_left
             ·simp only [Act.put,List.setIfInBounds_toArray,List.set_cons_zero,List.set_cons_succ,i64_w,i32_w]
              rfl
             refine pure_ (i:=2) (N:=some 62) (v:=?_) (a':=?_) #[true,true,true,false,false,false,false,false,false,false,false,false,false,false,false,false] rfl rfl (any_of HT_.out (by kernel_rfl)) (fun _ _ _ h=>h) (Or.inl ⟨by rfl,?_⟩) ?_ ?_
             rotate_left
             ·intro w'
              go_simp
              with_reducible rfl
             rotate_left
             ·simp only [Act.put,List.setIfInBounds_toArray,List.set_cons_zero,List.set_cons_succ,i64_w,i32_w]
              rfl
             refine pure_ (i:=3) (N:=some 63) (v:=?_) (a':=?_) #[true,true,true,true,false,false,false,false,false,false,false,false,false,false,false,false] rfl rfl (any_of HT_.out (by kernel_rfl)) (fun _ _ _ h=>h) (Or.inl ⟨by rfl,?_⟩) ?_ ?_
             rotate_left
             ·intro w'
              go_simp
              with_reducible rfl
             rotate_left
             ·simp only [Act.put,List.setIfInBounds_toArray,List.set_cons_zero,List.set_cons_succ,i64_w,i32_w]
              rfl
             refine pure_ (i:=5) (N:=some 65) (v:=?_) (a':=?_) #[true,true,true,true,false,true,false,false,false,false,false,false,false,false,false,false] rfl rfl (any_of HT_.out (by kernel_rfl)) (fun _ _ _ h=>h) (Or.inl ⟨by rfl,?_⟩) ?_ ?_
             rotate_left
             ·intro w'
              go_simp
              with_reducible rfl
             rotate_left
             ·simp only [Act.put,List.setIfInBounds_toArray,List.set_cons_zero,List.set_cons_succ,i64_w,i32_w]
              rfl
             refine pure_ (i:=7) (N:=some 67) (v:=?_) (a':=?_) #[true,true,true,true,false,true,false,true,false,false,false,false,false,false,false,false] rfl rfl (any_of HT_.out (by kernel_rfl)) (fun _ _ _ h=>h) (Or.inl ⟨by rfl,?_⟩) ?_ ?_
             rotate_left
             ·intro w'
              go_simp
              with_reducible rfl
             rotate_left
             ·simp only [Act.put,List.setIfInBounds_toArray,List.set_cons_zero,List.set_cons_succ,i64_w,i32_w]
              rfl
             refine pure_ (i:=8) (N:=some 68) (v:=?_) (a':=?_) #[true,true,true,true,false,true,false,true,true,false,false,false,false,false,false,false] rfl rfl (any_of HT_.out (by kernel_rfl)) (fun _ _ _ h=>h) (Or.inl ⟨by rfl,?_⟩) ?_ ?_
             rotate_left
             ·intro w'
              go_simp
              with_reducible rfl
             rotate_left
             ·simp only [Act.put,List.setIfInBounds_toArray,List.set_cons_zero,List.set_cons_succ,i64_w,i32_w]
              rfl
             refine pure_ (i:=9) (N:=some 69) (v:=?_) (a':=?_) #[true,true,true,true,false,true,false,true,true,true,false,false,false,false,false,false] rfl rfl (any_of HT_.out (by kernel_rfl)) (fun _ _ _ h=>h) (Or.inl ⟨by rfl,?_⟩) ?_ ?_
             rotate_left
             ·intro w'
              go_simp
              with_reducible rfl
             rotate_left
             ·simp only [Act.put,List.setIfInBounds_toArray,List.set_cons_zero,List.set_cons_succ,i64_w,i32_w]
              rfl
             refine pure_ (i:=10) (N:=some 70) (v:=?_) (a':=?_) #[true,true,true,true,false,true,false,true,true,true,true,false,false,false,false,false] rfl rfl (any_of HT_.out (by kernel_rfl)) (fun _ _ _ h=>h) (Or.inl ⟨by rfl,?_⟩) ?_ ?_
             rotate_left
             ·intro w'
              go_simp
              with_reducible rfl
             rotate_left
             ·simp only [Act.put,List.setIfInBounds_toArray,List.set_cons_zero,List.set_cons_succ,i64_w,i32_w]
              rfl
             refine pure_ (i:=12) (N:=some 72) (v:=?_) (a':=?_) #[true,true,true,true,false,true,false,true,true,true,true,false,true,false,false,false] rfl rfl (any_of HT_.out (by kernel_rfl)) (fun _ _ _ h=>h) (Or.inl ⟨by rfl,?_⟩) ?_ ?_
             rotate_left
             ·intro w'
              go_simp
              with_reducible rfl
             rotate_left
             ·simp only [Act.put,List.setIfInBounds_toArray,List.set_cons_zero,List.set_cons_succ,i64_w,i32_w]
              rfl
             refine take_ (i:=4) (N:=some 64) (v:=?_) (a':=?_) #[true,true,true,true,true,true,false,true,true,true,true,false,true,false,false,false] rfl rfl (take_ofW HT_.out HW_.out (by kernel_rfl)) (fun _ _ _ h=>h) (Or.inl ⟨by rfl,?_⟩) hHeld ?_ ?_
             rotate_left
             ·rintro w' ⟨s0,s1⟩
              go_simp
              with_reducible rfl
             rotate_left
             ·simp only [Act.put,List.setIfInBounds_toArray,List.set_cons_zero,List.set_cons_succ,i64_w,i32_w]
              rfl
             refine take_ (i:=11) (N:=some 71) (v:=?_) (a':=?_) #[true,true,true,true,true,true,false,true,true,true,true,true,true,false,false,false] rfl rfl (take_ofW HT_.out HW_.out (by kernel_rfl)) (fun _ _ _ h=>h) (Or.inl ⟨by rfl,?_⟩) hHeld ?_ ?_
             rotate_left
             ·rintro w' ⟨s0,s1⟩
              go_simp
              with_reducible rfl
             rotate_left
             ·simp only [Act.put,List.setIfInBounds_toArray,List.set_cons_zero,List.set_cons_succ,i64_w,i32_w]
              rfl
             refine one_ (i:=6) (N:=some 66) #[true,true,true,true,true,true,true,true,true,true,true,true,true,false,false,false] rfl rfl (one_of HT_.out (by kernel_rfl)) (by decide) (fun K hK=>?_)
             refine goes_ Try.func16 (by kernel_rfl) rfl #[.slice Ao33 x10_2.length co33,.string (rdOf ByteArray.empty y347 x14_2),.slice Ao34 t352.length co34] (by rfl) rfl rfl (by (try simp only [List.map_toArray,List.map_cons,List.map_nil]);first|done|rfl|(simp only [List.length_drop,List.length_take];rfl)) ?_
             with_reducible refine (cadenceref2_With.calls kj19 (fun k_=>(some k_≠(.slice (some ad355) y347.length co32:Value).ownBlock∧some k_≠(.slice Ao34 t352.length co34:Value).ownBlock)) _ _ x10_2 (rdOf ByteArray.empty y347 x14_2) (fun k_=>(some k_≠(v345:Value).ownBlock∧some k_≠(.slice (some ad355) y347.length co32:Value).ownBlock)) _ _ t352 t356 _ ?side1 ?side2 A28.out).mono ?_
             (case side1=>exact HO_10.out)
             (case side2=>exact Kd.N_V (HO354.out))
             rintro e w35 ⟨v357,rfl,ho0,hb⟩
             have HS0_:=(hb.cell (World.block_lt_of_cell? _ _ (hHeld.1))).trans (hHeld.1)
             have HS1_:=(hb.cell (World.block_lt_of_cell? _ _ (hHeld.2))).trans (hHeld.2)
             refine ⟨_,rfl,?_⟩
             have n0_:=Aside0.mk (Kd.N_elder' (by (with_reducible repeat (first|apply nA_|apply nN_|apply nD_));exact HO_9.out) (Kd.N_base ho0) hb)
             have n1_:=Aside0.mk (Kd.V_elder' (by (with_reducible repeat (first|apply vA_|apply vN_|apply vD_));exact HO_10.out) (Kd.N_base ho0) hb)
             have n2_:=Aside0.mk (Kd.V_elder' (by (with_reducible repeat (first|apply vA_|apply vN_|apply vD_));exact HO_11.out) (Kd.N_base ho0) hb)
             have n3_:=Aside0.mk (Kd.V_elder' (by (with_reducible repeat (first|apply vA_|apply vN_|apply vD_));exact HO_12.out) (Kd.N_base ho0) hb)
             have n4_:=Aside0.mk (Kd.R_below (by (with_reducible repeat (first|apply rA_|apply rN_|apply rD_));exact HO_13.out) hb)
             have n5_:=Aside0.mk (Kd.N_elder' (by (with_reducible repeat (first|apply nA_|apply nN_|apply nD_));exact HO354.out) (Kd.N_base ho0) hb)
             have n6_:=Aside0.mk (Kd.N_lower (Kd.N_mono (ok':=fun k_=>some k_≠(.slice (some ad355) y347.length co32:Value).ownBlock) ho0 (fun k_ hk_=>Or.elim hk_ (fun hs_=>Or.elim hs_ (fun hs_=>hs_.1) (fun hs_=>hs_.2)) (fun hn_=>(Kd.fresh' (Kd.R_lt (by (with_reducible repeat (first|apply rA_|apply rN_|apply rD_));exact HO_13.out)) k_ hn_)))) (below_size (by repeat (first|(with_reducible first|exact HB.out|apply bA_|apply bN_|apply bD_)|exact HB.out))))
             have n7_:=Aside0.mk (below_step (by repeat (first|(with_reducible first|exact HB.out|apply bA_|apply bN_|apply bD_)|exact HB.out)) hb)
             clear HO_9
             clear HO_10
             clear HO_11
             clear HO_12
             clear HO_13
             clear HO354
             clear HB
             have HO_9:=n0_
             have HO_10:=n1_
             have HO_11:=n2_
             have HO_12:=n3_
             have HO_13:=n4_
             have HO354:=n5_
             have HO358:=n6_
             have HB:=n7_
             clear n0_ n1_ n2_ n3_ n4_ n5_ n6_ n7_
             (try clear hb)
             (try clear hb2)
             (try clear hk)
             (try clear hi)
             (try clear ho0)
             obtain ⟨Ao36,co36,eo36⟩:=Kd.V_slice HO_12.out
             (first|subst eo36|(injection eo36 with f1_ f2_ f3_;have f4_:=f1_.symm;have f5_:=f3_.symm;clear f1_ f2_ f3_;subst f4_;subst f5_))
             refine hK.out _ _ ⟨HS0_,HS1_⟩ (fun hHeld=>?_)
             clear hK K
             refine norm_ (a':=?_) ?_ ?_
             rotate_left
             ·show Act.put _ (some 66) _=_
              simp only [Act.put,List.setIfInBounds_toArray,List.set_cons_zero,List.set_cons_succ,i64_w,i32_w]
              rfl
             refine one_ (i:=13) (N:=some 73) #[true,true,true,true,true,true,true,true,true,true,true,true,true,true,false,false] rfl rfl (one_of HT_.out (by kernel_rfl)) (by decide) (fun K hK=>?_)
             refine goes_ Try.func16 (by kernel_rfl) rfl #[.slice Ao36 x12_2.length co36,.string (rdOf ByteArray.empty y347 x14_2),.slice Ao34 t352.length co34] (by rfl) rfl rfl (by (try simp only [List.map_toArray,List.map_cons,List.map_nil]);first|done|rfl|(simp only [List.length_drop,List.length_take];rfl)) ?_
             with_reducible refine (cadenceref2_With.calls kj19 (fun k_=>((some k_≠(.slice (some ad355) y347.length co32:Value).ownBlock∧some k_≠(.slice Ao34 t352.length co34:Value).ownBlock)∧some k_≠(v357:Value).ownBlock)) _ _ x12_2 (rdOf ByteArray.empty y347 x14_2) (fun k_=>((some k_≠(v345:Value).ownBlock∧some k_≠(.slice (some ad355) y347.length co32:Value).ownBlock)∧some k_≠(v357:Value).ownBlock)) _ _ t352 t360 _ ?side1 ?side2 A29.out).mono ?_
             (case side1=>exact HO_12.out)
             (case side2=>exact Kd.N_V (HO354.out))
             rintro e w37 ⟨v361,rfl,ho0,hb⟩
             have HS0_:=(hb.cell (World.block_lt_of_cell? _ _ (hHeld.1))).trans (hHeld.1)
             have HS1_:=(hb.cell (World.block_lt_of_cell? _ _ (hHeld.2))).trans (hHeld.2)
             refine ⟨_,rfl,?_⟩
             have n0_:=Aside0.mk (Kd.N_elder' (by (with_reducible repeat (first|apply nA_|apply nN_|apply nD_));exact HO_9.out) (Kd.N_base ho0) hb)
             have n1_:=Aside0.mk (Kd.V_elder' (by (with_reducible repeat (first|apply vA_|apply vN_|apply vD_));exact HO_10.out) (Kd.N_base ho0) hb)
             have n2_:=Aside0.mk (Kd.V_elder' (by (with_reducible repeat (first|apply vA_|apply vN_|apply vD_));exact HO_11.out) (Kd.N_base ho0) hb)
             have n3_:=Aside0.mk (Kd.V_elder' (by (with_reducible repeat (first|apply vA_|apply vN_|apply vD_));exact HO_12.out) (Kd.N_base ho0) hb)
             have n4_:=Aside0.mk (Kd.R_below (by (with_reducible repeat (first|apply rA_|apply rN_|apply rD_));exact HO_13.out) hb)
             have n5_:=Aside0.mk (Kd.N_elder' (by (with_reducible repeat (first|apply nA_|apply nN_|apply nD_));exact HO354.out) (Kd.N_base ho0) hb)
             have n6_:=Aside0.mk (Kd.N_elder' (by (with_reducible repeat (first|apply nA_|apply nN_|apply nD_));exact HO358.out) (Kd.N_base ho0) hb)
             have n7_:=Aside0.mk (Kd.N_lower (Kd.N_mono (ok':=fun k_=>some k_≠(.slice (some ad355) y347.length co32:Value).ownBlock∧some k_≠(v357:Value).ownBlock) ho0 (fun k_ hk_=>⟨Or.elim hk_ (fun hs_=>Or.elim hs_ (fun hs_=>hs_.1.1) (fun hs_=>hs_.1.2)) (fun hn_=>(Kd.fresh' (Kd.R_lt (by (with_reducible repeat (first|apply rA_|apply rN_|apply rD_));exact HO_13.out)) k_ hn_)),Or.elim hk_ (fun hs_=>Or.elim hs_ (fun hs_=>hs_.2) (fun hs_=>hs_.2)) (fun hn_=>(Kd.fresh' (Kd.N_lt (by (with_reducible repeat (first|apply nA_|apply nN_|apply nD_));exact HO358.out)) k_ hn_))⟩)) (below_size (by repeat (first|(with_reducible first|exact HB.out|apply bA_|apply bN_|apply bD_)|exact HB.out))))
             have n8_:=Aside0.mk (below_step (by repeat (first|(with_reducible first|exact HB.out|apply bA_|apply bN_|apply bD_)|exact HB.out)) hb)
             clear HO_9
             clear HO_10
             clear HO_11
             clear HO_12
             clear HO_13
             clear HO354
             clear HO358
             clear HB
             have HO_9:=n0_
             have HO_10:=n1_
             have HO_11:=n2_
             have HO_12:=n3_
             have HO_13:=n4_
             have HO354:=n5_
             have HO358:=n6_
             have HO362:=n7_
             have HB:=n8_
             clear n0_ n1_ n2_ n3_ n4_ n5_ n6_ n7_ n8_
             (try clear hb)
             (try clear hb2)
             (try clear hk)
             (try clear hi)
             (try clear ho0)
             refine hK.out _ _ ⟨HS0_,HS1_⟩ (fun hHeld=>?_)
             clear hK K
             refine norm_ (a':=?_) ?_ ?_
             rotate_left
             ·show Act.put _ (some 73) _=_
              simp only [Act.put,List.setIfInBounds_toArray,List.set_cons_zero,List.set_cons_succ,i64_w,i32_w]
              rfl
             refine pure_ (i:=14) (N:=some 10) (v:=?_) (a':=?_) #[true,true,true,true,true,true,true,true,true,true,true,true,true,true,true,false] rfl rfl (any_of HT_.out (by kernel_rfl)) (fun _ _ _ h=>h) (Or.inl ⟨by rfl,?_⟩) ?_ ?_
             rotate_left
             ·intro w'
              go_simp
              with_reducible rfl
             rotate_left
             ·simp only [Act.put,List.setIfInBounds_toArray,List.set_cons_zero,List.set_cons_succ,i64_w,i32_w]
              rfl
             refine pure_ (i:=15) (N:=some 12) (v:=?_) (a':=?_) #[true,true,true,true,true,true,true,true,true,true,true,true,true,true,true,true] rfl rfl (any_of HT_.out (by kernel_rfl)) (fun _ _ _ h=>h) (Or.inl ⟨by rfl,?_⟩) ?_ ?_
             rotate_left
             ·intro w'
              go_simp
              with_reducible rfl
             rotate_left
             ·simp only [Act.put,List.setIfInBounds_toArray,List.set_cons_zero,List.set_cons_succ,i64_w,i32_w]
              rfl
             refine done_ (done_of HT_.out (by kernel_rfl)) ?_
             try go_wp2
             go_roundg kj19
             case measure=>have:=HJ6.out;have:=HK2.out;have:=HJ19.out;omega
             case rel=>exact ⟨(t356),(x11_2),(t360),(wrap64 (x14_2+1)),(by first|rfl|(simp;done)|(simp [*];done)),H',⟨by have:=HJ6.out;have:=HK2.out;have:=HJ19.out;omega⟩,⟨by (with_reducible repeat (first|apply nA_|apply nN_|apply nD_));exact Kd.N_mono HO_9.out (fun _ hk=>hk.1.1.1)⟩,⟨Kd.N_V (by (with_reducible repeat (first|apply nA_|apply nN_|apply nD_));exact Kd.N_mono HO358.out (fun _ hk=>hk.1))⟩,⟨by (with_reducible repeat (first|apply vA_|apply vN_|apply vD_));exact Kd.V_mono HO_11.out (fun _ hk=>hk.1.1.1)⟩,⟨Kd.N_V (by (with_reducible repeat (first|apply nA_|apply nN_|apply nD_));exact Kd.N_mono HO362.out (fun _ hk=>hk.1))⟩,⟨by (with_reducible repeat (first|apply rA_|apply rN_|apply rD_));exact HO_13.out⟩,⟨by repeat (first|(with_reducible first|exact HB.out|apply bA_|apply bN_|apply bD_)|exact HB.out)⟩⟩
            ·rw [if_neg c27] at H
             exact absurd H (by simp)
           ·rw [if_neg c26] at H
            exact absurd H (by simp)
          ·rw [if_neg c25] at H
           have c25b0:(x15_19 == 1)=false:=beq_eq_false_iff_ne.mpr c25
           have c25b1:(x15_19 != 1)=true:=bne_iff_ne.mpr c25
           by_cases c38:x15_19=2
           ·rw [if_pos c38] at H
            have c38b0:(x15_19 == 2)=true:=beq_iff_eq.mpr c38
            have c38b1:(x15_19 != 2)=false:=bne_eq_false_iff_eq.mpr c38
            clear c38
            by_cases c39:0≤x14_2
            ·rw [if_pos c39] at H
             have c39b0:decide (0≤x14_2)=true:=decide_eq_true c39
             clear c39
             by_cases c40:x14_2 < (y347.length:Int)
             ·rw [if_pos c40] at H
              have c40b0:decide (x14_2 < (y347.length:Int))=true:=decide_eq_true c40
              clear c40
              replace H:=Option.bind_eq_some_iff.mp H
              obtain ⟨t364,A410,H⟩:=H
              replace H:((cadenceref2_Without.f kj19 x12_2 (rdOf ByteArray.empty y347 x14_2)).bind fun t368=>(cadencelaw12_MergeApart.l0 kj19 l1 l2 l3 t344 t364 x11_2 t368 y347 (wrap64 (x14_2+1))))=some r:=H
              have A41:=Aside0.mk A410
              clear A410
              replace H:=Option.bind_eq_some_iff.mp H
              obtain ⟨t368,A420,H⟩:=H
              replace H:(cadencelaw12_MergeApart.l0 kj19 l1 l2 l3 t344 t364 x11_2 t368 y347 (wrap64 (x14_2+1)))=some r:=H
              have A42:=Aside0.mk A420
              clear A420
              have H':=Aside0.mk H
              clear H
              try go_wp2_with (first|((with_reducible refine gate_callee (f:=14) rfl ?_);refine goesL_ (some 56) rfl rfl Try.func14 (by kernel_rfl) rfl #[.slice A1 l1.length c1,.int .i64 3,.int .i64 3] rfl (by (try simp only [List.map_toArray,List.map_cons,List.map_nil]);first|done|rfl|(simp only [List.length_drop,List.length_take];rfl)) ?_;(with_reducible refine (cadencelaw4_Small.calls kj19 _ _ l1 3 3 t352 _ ?side1 ?side2 A24.out).mono ?_);(case side1=>repeat (first|exact (Kd.C_below HR1.out HB.out)|(with_reducible refine cA_ ?_ _)|(with_reducible refine cN_ ?_ _)|(with_reducible refine cD_ ?_)));(case side2=>exact HC1.out);rintro e w43 ⟨v353,rfl,ho0,hb⟩;refine ⟨_,rfl,?_⟩;have n0_:=Aside0.mk (Kd.N_elder' (by (with_reducible repeat (first|apply nA_|apply nN_|apply nD_));exact HO_9.out) (Kd.N_base ho0) hb);have n1_:=Aside0.mk (Kd.V_elder' (by (with_reducible repeat (first|apply vA_|apply vN_|apply vD_));exact HO_10.out) (Kd.N_base ho0) hb);have n2_:=Aside0.mk (Kd.V_elder' (by (with_reducible repeat (first|apply vA_|apply vN_|apply vD_));exact HO_11.out) (Kd.N_base ho0) hb);have n3_:=Aside0.mk (Kd.V_elder' (by (with_reducible repeat (first|apply vA_|apply vN_|apply vD_));exact HO_12.out) (Kd.N_base ho0) hb);have n4_:=Aside0.mk (Kd.R_below (by (with_reducible repeat (first|apply rA_|apply rN_|apply rD_));exact HO_13.out) hb);have n5_:=Aside0.mk (Kd.N_lower (Kd.N_mono (ok':=fun k_=>some k_≠(v345:Value).ownBlock∧some k_≠(v348:Value).ownBlock) ho0 (fun k_ hk_=>⟨(Kd.fresh' (Kd.N_lt (by (with_reducible repeat (first|apply nA_|apply nN_|apply nD_));exact HO_9.out)) k_ hk_),(Kd.fresh' (Kd.R_lt (by (with_reducible repeat (first|apply rA_|apply rN_|apply rD_));exact HO_13.out)) k_ hk_)⟩)) (below_size (by repeat (first|(with_reducible first|exact HB.out|apply bA_|apply bN_|apply bD_)|exact HB.out))));have n6_:=Aside0.mk (below_step (by repeat (first|(with_reducible first|exact HB.out|apply bA_|apply bN_|apply bD_)|exact HB.out)) hb);clear HO_9;clear HO_10;clear HO_11;clear HO_12;clear HO_13;clear HB;have HO_9:=n0_;have HO_10:=n1_;have HO_11:=n2_;have HO_12:=n3_;have HO_13:=n4_;have HO354:=n5_;have HB:=n6_;clear n0_ n1_ n2_ n3_ n4_ n5_ n6_;(try clear hb);(try clear hb2);(try clear hk);(try clear hi);(try clear ho0)))
              have n0_:=Aside0.mk (nD_ HO_9.out)
              have n1_:=Aside0.mk (vD_ HO_10.out)
              have n2_:=Aside0.mk (vD_ HO_11.out)
              have n3_:=Aside0.mk (vD_ HO_12.out)
              have n4_:=Aside0.mk (rD_ HO_13.out)
              have n5_:=Aside0.mk (nD_ HO354.out)
              have n6_:=Aside0.mk (bD_ HB.out)
              clear HO_9
              clear HO_10
              clear HO_11
              clear HO_12
              clear HO_13
              clear HO354
              clear HB
              have HO_9:=n0_
              have HO_10:=n1_
              have HO_11:=n2_
              have HO_12:=n3_
              have HO_13:=n4_
              have HO354:=n5_
              have HB:=n6_
              clear n0_ n1_ n2_ n3_ n4_ n5_ n6_
              obtain ⟨Ao45,co45,eo45⟩:=Kd.R_slice HO_13.out
              (first|subst eo45|(injection eo45 with f1_ f2_ f3_;have f4_:=f1_.symm;have f5_:=f3_.symm;clear f1_ f2_ f3_;subst f4_;subst f5_))
              have p363:0≤(x14_2:Int):=of_decide_eq_true (by first|(with_reducible assumption)|assumption)
              have q363:x14_2 < (y347.length:Int):=of_decide_eq_true (by first|(with_reducible assumption)|assumption)
              obtain ⟨ad363,e363,hx363_0⟩:=Kd.at_string (Kd.R_reads' HO_13.out).2.2 x14_2 p363 q363
              cases e363
              replace p363:=eq_true p363
              replace q363:=eq_true q363
              have p367:0≤(x14_2:Int):=of_decide_eq_true (by first|(with_reducible assumption)|assumption)
              have q367:x14_2 < (y347.length:Int):=of_decide_eq_true (by first|(with_reducible assumption)|assumption)
              obtain ⟨ad367,e367,hx367_0⟩:=Kd.at_string (Kd.R_reads' HO_13.out).2.2 x14_2 p367 q367
              obtain rfl:ad363=ad367:=(by injection e367)
              replace p367:=eq_true p367
              replace q367:=eq_true q367
              obtain ⟨Ao46,co46,eo46⟩:=Kd.V_slice HO_10.out
              (first|subst eo46|(injection eo46 with f1_ f2_ f3_;have f4_:=f1_.symm;have f5_:=f3_.symm;clear f1_ f2_ f3_;subst f4_;subst f5_))
              refine start_ (n:=14) (S:=fun w'=>w'.cell? (ad363.add (x14_2).toNat)=some (.string (rdOf ByteArray.empty y347 x14_2))∧w'.cell? (ad363.add (x14_2).toNat)=some (.string (rdOf ByteArray.empty y347 x14_2))) (ds:=[]) #[false,false,false,false,false,false,false,false,false,false,false,false,false,false] (by kernel_rfl) rfl rfl ⟨hx363_0,hx367_0⟩ (fun hHeld=>?_);refine with_tabW cadencelaw12_MergeApart.tab19 cadencelaw12_MergeApart.bits19 (fun HT_ HW_=>?_)
              generalize w43.drew=w44 at HO_9 HO_10 HO_11 HO_12 HO_13 HO354 HB hx363_0 hx367_0 hHeld ⊢
              refine pure_ (i:=0) (N:=some 76) (v:=?_) (a':=?_) #[true,false,false,false,false,false,false,false,false,false,false,false,false,false] rfl rfl (any_of HT_.out (by kernel_rfl)) (fun _ _ _ h=>h) (Or.inl ⟨by rfl,?_⟩) ?_ ?_
              rotate_left
              ·intro w'
               go_simp
               with_reducible rfl
              rotate_left
              ·simp only [Act.put,List.setIfInBounds_toArray,List.set_cons_zero,List.set_cons_succ,i64_w,i32_w]
               rfl
              refine pure_ (i:=1) (N:=some 77) (v:=?_) (a':=?_) #[true,true,false,false,false,false,false,false,false,false,false,false,false,false] rfl rfl (any_of HT_.out (by kernel_rfl)) (fun _ _ _ h=>h) (Or.inl ⟨by rfl,?_⟩) ?_ ?_
              rotate_left
              ·intro w'
               go_simp
               with_reducible rfl
              rotate_left
              ·simp only [Act.put,List.setIfInBounds_toArray,List.set_cons_zero,List.set_cons_succ,i64_w,i32_w]
               rfl
              refine pure_ (i:=2) (N:=some 78) (v:=?_) (a':=?_) #[true,true,true,false,false,false,false,false,false,false,false,false,false,false] rfl rfl (any_of HT_.out (by kernel_rfl)) (fun _ _ _ h=>h) (Or.inl ⟨by rfl,?_⟩) ?_ ?_
              rotate_left
              ·intro w'
               go_simp
               with_reducible rfl
              rotate_left
              ·simp only [Act.put,List.setIfInBounds_toArray,List.set_cons_zero,List.set_cons_succ,i64_w,i32_w]
               rfl
              refine pure_ (i:=3) (N:=some 79) (v:=?_) (a':=?_) #[true,true,true,true,false,false,false,false,false,false,false,false,false,false] rfl rfl (any_of HT_.out (by kernel_rfl)) (fun _ _ _ h=>h) (Or.inl ⟨by rfl,?_⟩) ?_ ?_
              rotate_left
              ·intro w'
               go_simp
               with_reducible rfl
              rotate_left
              ·simp only [Act.put,List.setIfInBounds_toArray,List.set_cons_zero,List.set_cons_succ,i64_w,i32_w]
               rfl
              refine pure_ (i:=6) (N:=some 82) (v:=?_) (a':=?_) #[true,true,true,true,false,false,true,false,false,false,false,false,false,false] rfl rfl (any_of HT_.out (by kernel_rfl)) (fun _ _ _ h=>h) (Or.inl ⟨by rfl,?_⟩) ?_ ?_
              rotate_left
              ·intro w'
               go_simp
               with_reducible rfl
              rotate_left
              ·simp only [Act.put,List.setIfInBounds_toArray,List.set_cons_zero,List.set_cons_succ,i64_w,i32_w]
               rfl
              refine pure_ (i:=7) (N:=some 83) (v:=?_) (a':=?_) #[true,true,true,true,false,false,true,true,false,false,false,false,false,false] rfl rfl (any_of HT_.out (by kernel_rfl)) (fun _ _ _ h=>h) (Or.inl ⟨by rfl,?_⟩) ?_ ?_
              rotate_left
              ·intro w'
               go_simp
               with_reducible rfl
              rotate_left
              ·simp only [Act.put,List.setIfInBounds_toArray,List.set_cons_zero,List.set_cons_succ,i64_w,i32_w]
               rfl
              refine pure_ (i:=8) (N:=some 84) (v:=?_) (a':=?_) #[true,true,true,true,false,false,true,true,true,false,false,false,false,false] rfl rfl (any_of HT_.out (by kernel_rfl)) (fun _ _ _ h=>h) (Or.inl ⟨by rfl,?_⟩) ?_ ?_
              rotate_left
              ·intro w'
               go_simp
               with_reducible rfl
              rotate_left
              ·simp only [Act.put,List.setIfInBounds_toArray,List.set_cons_zero,List.set_cons_succ,i64_w,i32_w]
               rfl
              refine pure_ (i:=9) (N:=some 85) (v:=?_) (a':=?_) #[true,true,true,true,false,false,true,true,true,true,false,false,false,false] rfl rfl (any_of HT_.out (by kernel_rfl)) (fun _ _ _ h=>h) (Or.inl ⟨by rfl,?_⟩) ?_ ?_
              rotate_left
              ·intro w'
               go_simp
               with_reducible rfl
              rotate_left
              ·simp only [Act.put,List.setIfInBounds_toArray,List.set_cons_zero,List.set_cons_succ,i64_w,i32_w]
               rfl
              refine take_ (i:=4) (N:=some 80) (v:=?_) (a':=?_) #[true,true,true,true,true,false,true,true,true,true,false,false,false,false] rfl rfl (take_ofW HT_.out HW_.out (by kernel_rfl)) (fun _ _ _ h=>h) (Or.inl ⟨by rfl,?_⟩) hHeld ?_ ?_
              rotate_left
              ·rintro w' ⟨s0,s1⟩
               go_simp
               with_reducible rfl
              rotate_left
              ·simp only [Act.put,List.setIfInBounds_toArray,List.set_cons_zero,List.set_cons_succ,i64_w,i32_w]
               rfl
              refine take_ (i:=10) (N:=some 86) (v:=?_) (a':=?_) #[true,true,true,true,true,false,true,true,true,true,true,false,false,false] rfl rfl (take_ofW HT_.out HW_.out (by kernel_rfl)) (fun _ _ _ h=>h) (Or.inl ⟨by rfl,?_⟩) hHeld ?_ ?_
              rotate_left
              ·rintro w' ⟨s0,s1⟩
               go_simp
               with_reducible rfl
              rotate_left
              ·simp only [Act.put,List.setIfInBounds_toArray,List.set_cons_zero,List.set_cons_succ,i64_w,i32_w]
               rfl
              refine one_ (i:=5) (N:=some 81) #[true,true,true,true,true,true,true,true,true,true,true,false,false,false] rfl rfl (one_of HT_.out (by kernel_rfl)) (by decide) (fun K hK=>?_)
              refine goes_ Try.func17 (by kernel_rfl) rfl #[.slice Ao46 x10_2.length co46,.string (rdOf ByteArray.empty y347 x14_2)] (by rfl) rfl rfl (by (try simp only [List.map_toArray,List.map_cons,List.map_nil]);first|done|rfl|(simp only [List.length_drop,List.length_take];rfl)) ?_
              with_reducible refine (cadenceref2_Without.calls kj19 (fun k_=>(some k_≠(.slice (some ad363) y347.length co45:Value).ownBlock∧some k_≠(v353:Value).ownBlock)) _ _ x10_2 (rdOf ByteArray.empty y347 x14_2) t364 _ ?side1 A41.out).mono ?_
              (case side1=>exact HO_10.out)
              rintro e w47 ⟨v365,rfl,ho0,hb⟩
              have HS0_:=(hb.cell (World.block_lt_of_cell? _ _ (hHeld.1))).trans (hHeld.1)
              have HS1_:=(hb.cell (World.block_lt_of_cell? _ _ (hHeld.2))).trans (hHeld.2)
              refine ⟨_,rfl,?_⟩
              have n0_:=Aside0.mk (Kd.N_below (by (with_reducible repeat (first|apply nA_|apply nN_|apply nD_));exact HO_9.out) hb)
              have n1_:=Aside0.mk (Kd.V_below (by (with_reducible repeat (first|apply vA_|apply vN_|apply vD_));exact HO_10.out) hb)
              have n2_:=Aside0.mk (Kd.V_below (by (with_reducible repeat (first|apply vA_|apply vN_|apply vD_));exact HO_11.out) hb)
              have n3_:=Aside0.mk (Kd.V_below (by (with_reducible repeat (first|apply vA_|apply vN_|apply vD_));exact HO_12.out) hb)
              have n4_:=Aside0.mk (Kd.R_below (by (with_reducible repeat (first|apply rA_|apply rN_|apply rD_));exact HO_13.out) hb)
              have n5_:=Aside0.mk (Kd.N_below (by (with_reducible repeat (first|apply nA_|apply nN_|apply nD_));exact HO354.out) hb)
              have n6_:=Aside0.mk (Kd.V_lower (Kd.V_mono (ok':=fun k_=>some k_≠(.slice (some ad363) y347.length co45:Value).ownBlock∧some k_≠(v353:Value).ownBlock) ho0 (fun k_ hk_=>⟨Or.elim hk_ (fun hs_=>hs_.1) (fun hn_=>(Kd.fresh' (Kd.R_lt (by (with_reducible repeat (first|apply rA_|apply rN_|apply rD_));exact HO_13.out)) k_ hn_)),Or.elim hk_ (fun hs_=>hs_.2) (fun hn_=>(Kd.fresh' (Kd.N_lt (by (with_reducible repeat (first|apply nA_|apply nN_|apply nD_));exact HO354.out)) k_ hn_))⟩)) (below_size (by repeat (first|(with_reducible first|exact HB.out|apply bA_|apply bN_|apply bD_)|exact HB.out))))
              have n7_:=Aside0.mk (below_step (by repeat (first|(with_reducible first|exact HB.out|apply bA_|apply bN_|apply bD_)|exact HB.out)) hb)
              clear HO_9
              clear HO_10
              clear HO_11
              clear HO_12
              clear HO_13
              clear HO354
              clear HB
              have HO_9:=n0_
              have HO_10:=n1_
              have HO_11:=n2_
              have HO_12:=n3_
              have HO_13:=n4_
              have HO354:=n5_
              have HO366:=n6_
              have HB:=n7_
              clear n0_ n1_ n2_ n3_ n4_ n5_ n6_ n7_
              (try clear hb)
              (try clear hb2)
              (try clear hk)
              (try clear hi)
              (try clear ho0)
              obtain ⟨Ao48,co48,eo48⟩:=Kd.V_slice HO_12.out
              (first|subst eo48|(injection eo48 with f1_ f2_ f3_;have f4_:=f1_.symm;have f5_:=f3_.symm;clear f1_ f2_ f3_;subst f4_;subst f5_))
              refine hK.out _ _ ⟨HS0_,HS1_⟩ (fun hHeld=>?_)
              clear hK K
              refine norm_ (a':=?_) ?_ ?_
              rotate_left
              ·show Act.put _ (some 81) _=_
               simp only [Act.put,List.setIfInBounds_toArray,List.set_cons_zero,List.set_cons_succ,i64_w,i32_w]
               rfl
              refine one_ (i:=11) (N:=some 87) #[true,true,true,true,true,true,true,true,true,true,true,true,false,false] rfl rfl (one_of HT_.out (by kernel_rfl)) (by decide) (fun K hK=>?_)
              refine goes_ Try.func17 (by kernel_rfl) rfl #[.slice Ao48 x12_2.length co48,.string (rdOf ByteArray.empty y347 x14_2)] (by rfl) rfl rfl (by (try simp only [List.map_toArray,List.map_cons,List.map_nil]);first|done|rfl|(simp only [List.length_drop,List.length_take];rfl)) ?_
              with_reducible refine (cadenceref2_Without.calls kj19 (fun k_=>(some k_≠(.slice (some ad363) y347.length co45:Value).ownBlock∧some k_≠(v353:Value).ownBlock)) _ _ x12_2 (rdOf ByteArray.empty y347 x14_2) t368 _ ?side1 A42.out).mono ?_
              (case side1=>exact HO_12.out)
              rintro e w49 ⟨v369,rfl,ho0,hb⟩
              have HS0_:=(hb.cell (World.block_lt_of_cell? _ _ (hHeld.1))).trans (hHeld.1)
              have HS1_:=(hb.cell (World.block_lt_of_cell? _ _ (hHeld.2))).trans (hHeld.2)
              refine ⟨_,rfl,?_⟩
              have n0_:=Aside0.mk (Kd.N_below (by (with_reducible repeat (first|apply nA_|apply nN_|apply nD_));exact HO_9.out) hb)
              have n1_:=Aside0.mk (Kd.V_below (by (with_reducible repeat (first|apply vA_|apply vN_|apply vD_));exact HO_10.out) hb)
              have n2_:=Aside0.mk (Kd.V_below (by (with_reducible repeat (first|apply vA_|apply vN_|apply vD_));exact HO_11.out) hb)
              have n3_:=Aside0.mk (Kd.V_below (by (with_reducible repeat (first|apply vA_|apply vN_|apply vD_));exact HO_12.out) hb)
              have n4_:=Aside0.mk (Kd.R_below (by (with_reducible repeat (first|apply rA_|apply rN_|apply rD_));exact HO_13.out) hb)
              have n5_:=Aside0.mk (Kd.N_below (by (with_reducible repeat (first|apply nA_|apply nN_|apply nD_));exact HO354.out) hb)
              have n6_:=Aside0.mk (Kd.V_below (by (with_reducible repeat (first|apply vA_|apply vN_|apply vD_));exact HO366.out) hb)
              have n7_:=Aside0.mk (Kd.V_lower (Kd.V_mono (ok':=fun k_=>some k_≠(.slice (some ad363) y347.length co45:Value).ownBlock∧some k_≠(v353:Value).ownBlock) ho0 (fun k_ hk_=>⟨Or.elim hk_ (fun hs_=>hs_.1) (fun hn_=>(Kd.fresh' (Kd.R_lt (by (with_reducible repeat (first|apply rA_|apply rN_|apply rD_));exact HO_13.out)) k_ hn_)),Or.elim hk_ (fun hs_=>hs_.2) (fun hn_=>(Kd.fresh' (Kd.N_lt (by (with_reducible repeat (first|apply nA_|apply nN_|apply nD_));exact HO354.out)) k_ hn_))⟩)) (below_size (by repeat (first|(with_reducible first|exact HB.out|apply bA_|apply bN_|apply bD_)|exact HB.out))))
              have n8_:=Aside0.mk (below_step (by repeat (first|(with_reducible first|exact HB.out|apply bA_|apply bN_|apply bD_)|exact HB.out)) hb)
              clear HO_9
              clear HO_10
              clear HO_11
              clear HO_12
              clear HO_13
              clear HO354
              clear HO366
              clear HB
              have HO_9:=n0_
              have HO_10:=n1_
              have HO_11:=n2_
              have HO_12:=n3_
              have HO_13:=n4_
              have HO354:=n5_
              have HO366:=n6_
              have HO370:=n7_
              have HB:=n8_
              clear n0_ n1_ n2_ n3_ n4_ n5_ n6_ n7_ n8_
              (try clear hb)
              (try clear hb2)
              (try clear hk)
              (try clear hi)
              (try clear ho0)
              refine hK.out _ _ ⟨HS0_,HS1_⟩ (fun hHeld=>?_)
              clear hK K
              refine norm_ (a':=?_) ?_ ?_
              rotate_left
              ·show Act.put _ (some 87) _=_
               simp only [Act.put,List.setIfInBounds_toArray,List.set_cons_zero,List.set_cons_succ,i64_w,i32_w]
               rfl
              refine pure_ (i:=12) (N:=some 10) (v:=?_) (a':=?_) #[true,true,true,true,true,true,true,true,true,true,true,true,true,false] rfl rfl (any_of HT_.out (by kernel_rfl)) (fun _ _ _ h=>h) (Or.inl ⟨by rfl,?_⟩) ?_ ?_
              rotate_left
              ·intro w'
               go_simp
               with_reducible rfl
              rotate_left
              ·simp only [Act.put,List.setIfInBounds_toArray,List.set_cons_zero,List.set_cons_succ,i64_w,i32_w]
               rfl
              refine pure_ (i:=13) (N:=some 12) (v:=?_) (a':=?_) #[true,true,true,true,true,true,true,true,true,true,true,true,true,true] rfl rfl (any_of HT_.out (by kernel_rfl)) (fun _ _ _ h=>h) (Or.inl ⟨by rfl,?_⟩) ?_ ?_
              rotate_left
              ·intro w'
               go_simp
               with_reducible rfl
              rotate_left
              ·simp only [Act.put,List.setIfInBounds_toArray,List.set_cons_zero,List.set_cons_succ,i64_w,i32_w]
               rfl
              refine done_ (done_of HT_.out (by kernel_rfl)) ?_
              try go_wp2
              go_roundg kj19
              case measure=>have:=HJ6.out;have:=HK2.out;have:=HJ19.out;omega
              case rel=>exact ⟨(t364),(x11_2),(t368),(wrap64 (x14_2+1)),(by first|rfl|(simp;done)|(simp [*];done)),H',⟨by have:=HJ6.out;have:=HK2.out;have:=HJ19.out;omega⟩,⟨by (with_reducible repeat (first|apply nA_|apply nN_|apply nD_));exact Kd.N_mono HO_9.out (fun _ hk=>hk.1)⟩,⟨by (with_reducible repeat (first|apply vA_|apply vN_|apply vD_));exact Kd.V_mono HO366.out (fun _ hk=>hk.1)⟩,⟨by (with_reducible repeat (first|apply vA_|apply vN_|apply vD_));exact Kd.V_mono HO_11.out (fun _ hk=>hk.1)⟩,⟨by (with_reducible repeat (first|apply vA_|apply vN_|apply vD_));exact Kd.V_mono HO370.out (fun _ hk=>hk.1)⟩,⟨by (with_reducible repeat (first|apply rA_|apply rN_|apply rD_));exact HO_13.out⟩,⟨by repeat (first|(with_reducible first|exact HB.out|apply bA_|apply bN_|apply bD_)|exact HB.out)⟩⟩
             ·rw [if_neg c40] at H
              exact absurd H (by simp)
            ·rw [if_neg c39] at H
             exact absurd H (by simp)
           ·rw [if_neg c38] at H
            have c38b0:(x15_19 == 2)=false:=beq_eq_false_iff_ne.mpr c38
            have c38b1:(x15_19 != 2)=true:=bne_iff_ne.mpr c38
            by_cases c50:x15_19=3
            ·rw [if_pos c50] at H
             have c50b0:(x15_19 == 3)=true:=beq_iff_eq.mpr c50
             have c50b1:(x15_19 != 3)=false:=bne_eq_false_iff_eq.mpr c50
             clear c50
             replace H:=Option.bind_eq_some_iff.mp H
             obtain ⟨t371,A510,H⟩:=H
             replace H:(if 0≤x14_2 then (if x14_2 < (y347.length:Int) then ((cadenceref2_With.f kj19 x11_2 (rdOf ByteArray.empty y347 x14_2) t371).bind fun t375=>((cadenceref2_With.f kj19 x12_2 (rdOf ByteArray.empty y347 x14_2) t371).bind fun t379=>(cadencelaw12_MergeApart.l0 kj19 l1 l2 l3 t344 x10_2 t375 t379 y347 (wrap64 (x14_2+1))))) else (none)) else (none))=some r:=H
             have A51:=Aside0.mk A510
             clear A510
             by_cases c52:0≤x14_2
             ·rw [if_pos c52] at H
              have c52b0:decide (0≤x14_2)=true:=decide_eq_true c52
              clear c52
              by_cases c53:x14_2 < (y347.length:Int)
              ·rw [if_pos c53] at H
               have c53b0:decide (x14_2 < (y347.length:Int))=true:=decide_eq_true c53
               clear c53
               replace H:=Option.bind_eq_some_iff.mp H
               obtain ⟨t375,A540,H⟩:=H
               replace H:((cadenceref2_With.f kj19 x12_2 (rdOf ByteArray.empty y347 x14_2) t371).bind fun t379=>(cadencelaw12_MergeApart.l0 kj19 l1 l2 l3 t344 x10_2 t375 t379 y347 (wrap64 (x14_2+1))))=some r:=H
               have A54:=Aside0.mk A540
               clear A540
               replace H:=Option.bind_eq_some_iff.mp H
               obtain ⟨t379,A550,H⟩:=H
               replace H:(cadencelaw12_MergeApart.l0 kj19 l1 l2 l3 t344 x10_2 t375 t379 y347 (wrap64 (x14_2+1)))=some r:=H
               have A55:=Aside0.mk A550
               clear A550
               have H':=Aside0.mk H
               clear H
               try go_wp2_with (first|((with_reducible refine gate_callee (f:=14) rfl ?_);refine goesL_ (some 56) rfl rfl Try.func14 (by kernel_rfl) rfl #[.slice A1 l1.length c1,.int .i64 3,.int .i64 3] rfl (by (try simp only [List.map_toArray,List.map_cons,List.map_nil]);first|done|rfl|(simp only [List.length_drop,List.length_take];rfl)) ?_;(with_reducible refine (cadencelaw4_Small.calls kj19 _ _ l1 3 3 t352 _ ?side1 ?side2 A24.out).mono ?_);(case side1=>repeat (first|exact (Kd.C_below HR1.out HB.out)|(with_reducible refine cA_ ?_ _)|(with_reducible refine cN_ ?_ _)|(with_reducible refine cD_ ?_)));(case side2=>exact HC1.out);rintro e w56 ⟨v353,rfl,ho0,hb⟩;refine ⟨_,rfl,?_⟩;have n0_:=Aside0.mk (Kd.N_elder' (by (with_reducible repeat (first|apply nA_|apply nN_|apply nD_));exact HO_9.out) (Kd.N_base ho0) hb);have n1_:=Aside0.mk (Kd.V_elder' (by (with_reducible repeat (first|apply vA_|apply vN_|apply vD_));exact HO_10.out) (Kd.N_base ho0) hb);have n2_:=Aside0.mk (Kd.V_elder' (by (with_reducible repeat (first|apply vA_|apply vN_|apply vD_));exact HO_11.out) (Kd.N_base ho0) hb);have n3_:=Aside0.mk (Kd.V_elder' (by (with_reducible repeat (first|apply vA_|apply vN_|apply vD_));exact HO_12.out) (Kd.N_base ho0) hb);have n4_:=Aside0.mk (Kd.R_below (by (with_reducible repeat (first|apply rA_|apply rN_|apply rD_));exact HO_13.out) hb);have n5_:=Aside0.mk (Kd.N_lower (Kd.N_mono (ok':=fun k_=>some k_≠(v345:Value).ownBlock∧some k_≠(v348:Value).ownBlock) ho0 (fun k_ hk_=>⟨(Kd.fresh' (Kd.N_lt (by (with_reducible repeat (first|apply nA_|apply nN_|apply nD_));exact HO_9.out)) k_ hk_),(Kd.fresh' (Kd.R_lt (by (with_reducible repeat (first|apply rA_|apply rN_|apply rD_));exact HO_13.out)) k_ hk_)⟩)) (below_size (by repeat (first|(with_reducible first|exact HB.out|apply bA_|apply bN_|apply bD_)|exact HB.out))));have n6_:=Aside0.mk (below_step (by repeat (first|(with_reducible first|exact HB.out|apply bA_|apply bN_|apply bD_)|exact HB.out)) hb);clear HO_9;clear HO_10;clear HO_11;clear HO_12;clear HO_13;clear HB;have HO_9:=n0_;have HO_10:=n1_;have HO_11:=n2_;have HO_12:=n3_;have HO_13:=n4_;have HO354:=n5_;have HB:=n6_;clear n0_ n1_ n2_ n3_ n4_ n5_ n6_;(try clear hb);(try clear hb2);(try clear hk);(try clear hi);(try clear ho0))|((with_reducible refine gate_callee (f:=14) rfl ?_);refine goesL_ (some 91) rfl rfl Try.func14 (by kernel_rfl) rfl #[.slice A2 l2.length c2,.int .i64 3,.int .i64 3] rfl (by (try simp only [List.map_toArray,List.map_cons,List.map_nil]);first|done|rfl|(simp only [List.length_drop,List.length_take];rfl)) ?_;(with_reducible refine (cadencelaw4_Small.calls kj19 _ _ l2 3 3 t371 _ ?side1 ?side2 A51.out).mono ?_);(case side1=>repeat (first|exact (Kd.C_below HR2.out HB.out)|(with_reducible refine cA_ ?_ _)|(with_reducible refine cN_ ?_ _)|(with_reducible refine cD_ ?_)));(case side2=>exact HC2.out);rintro e w57 ⟨v372,rfl,ho0,hb⟩;refine ⟨_,rfl,?_⟩;have n0_:=Aside0.mk (Kd.N_elder' (by (with_reducible repeat (first|apply nA_|apply nN_|apply nD_));exact HO_9.out) (Kd.N_base ho0) hb);have n1_:=Aside0.mk (Kd.V_elder' (by (with_reducible repeat (first|apply vA_|apply vN_|apply vD_));exact HO_10.out) (Kd.N_base ho0) hb);have n2_:=Aside0.mk (Kd.V_elder' (by (with_reducible repeat (first|apply vA_|apply vN_|apply vD_));exact HO_11.out) (Kd.N_base ho0) hb);have n3_:=Aside0.mk (Kd.V_elder' (by (with_reducible repeat (first|apply vA_|apply vN_|apply vD_));exact HO_12.out) (Kd.N_base ho0) hb);have n4_:=Aside0.mk (Kd.R_below (by (with_reducible repeat (first|apply rA_|apply rN_|apply rD_));exact HO_13.out) hb);have n5_:=Aside0.mk (Kd.N_elder' (by (with_reducible repeat (first|apply nA_|apply nN_|apply nD_));exact HO354.out) (Kd.N_base ho0) hb);have n6_:=Aside0.mk (Kd.N_lower (Kd.N_mono (ok':=fun k_=>some k_≠(v345:Value).ownBlock∧some k_≠(v348:Value).ownBlock∧some k_≠(v353:Value).ownBlock) ho0 (fun k_ hk_=>⟨(Kd.fresh' (Kd.N_lt (by (with_reducible repeat (first|apply nA_|apply nN_|apply nD_));exact HO_9.out)) k_ hk_),(Kd.fresh' (Kd.R_lt (by (with_reducible repeat (first|apply rA_|apply rN_|apply rD_));exact HO_13.out)) k_ hk_),(Kd.fresh' (Kd.N_lt (by (with_reducible repeat (first|apply nA_|apply nN_|apply nD_));exact HO354.out)) k_ hk_)⟩)) (below_size (by repeat (first|(with_reducible first|exact HB.out|apply bA_|apply bN_|apply bD_)|exact HB.out))));have n7_:=Aside0.mk (below_step (by repeat (first|(with_reducible first|exact HB.out|apply bA_|apply bN_|apply bD_)|exact HB.out)) hb);clear HO_9;clear HO_10;clear HO_11;clear HO_12;clear HO_13;clear HO354;clear HB;have HO_9:=n0_;have HO_10:=n1_;have HO_11:=n2_;have HO_12:=n3_;have HO_13:=n4_;have HO354:=n5_;have HO373:=n6_;have HB:=n7_;clear n0_ n1_ n2_ n3_ n4_ n5_ n6_ n7_;(try clear hb);(try clear hb2);(try clear hk);(try clear hi);(try clear ho0)))
               have n0_:=Aside0.mk (nD_ HO_9.out)
               have n1_:=Aside0.mk (vD_ HO_10.out)
               have n2_:=Aside0.mk (vD_ HO_11.out)
               have n3_:=Aside0.mk (vD_ HO_12.out)
               have n4_:=Aside0.mk (rD_ HO_13.out)
               have n5_:=Aside0.mk (nD_ HO354.out)
               have n6_:=Aside0.mk (nD_ HO373.out)
               have n7_:=Aside0.mk (bD_ HB.out)
               clear HO_9
               clear HO_10
               clear HO_11
               clear HO_12
               clear HO_13
               clear HO354
               clear HO373
               clear HB
               have HO_9:=n0_
               have HO_10:=n1_
               have HO_11:=n2_
               have HO_12:=n3_
               have HO_13:=n4_
               have HO354:=n5_
               have HO373:=n6_
               have HB:=n7_
               clear n0_ n1_ n2_ n3_ n4_ n5_ n6_ n7_
               obtain ⟨Ao59,co59,eo59⟩:=Kd.R_slice HO_13.out
               (first|subst eo59|(injection eo59 with f1_ f2_ f3_;have f4_:=f1_.symm;have f5_:=f3_.symm;clear f1_ f2_ f3_;subst f4_;subst f5_))
               have p374:0≤(x14_2:Int):=of_decide_eq_true (by first|(with_reducible assumption)|assumption)
               have q374:x14_2 < (y347.length:Int):=of_decide_eq_true (by first|(with_reducible assumption)|assumption)
               obtain ⟨ad374,e374,hx374_0⟩:=Kd.at_string (Kd.R_reads' HO_13.out).2.2 x14_2 p374 q374
               cases e374
               replace p374:=eq_true p374
               replace q374:=eq_true q374
               have p378:0≤(x14_2:Int):=of_decide_eq_true (by first|(with_reducible assumption)|assumption)
               have q378:x14_2 < (y347.length:Int):=of_decide_eq_true (by first|(with_reducible assumption)|assumption)
               obtain ⟨ad378,e378,hx378_0⟩:=Kd.at_string (Kd.R_reads' HO_13.out).2.2 x14_2 p378 q378
               obtain rfl:ad374=ad378:=(by injection e378)
               replace p378:=eq_true p378
               replace q378:=eq_true q378
               obtain ⟨Ao60,co60,eo60⟩:=Kd.V_slice HO_11.out
               (first|subst eo60|(injection eo60 with f1_ f2_ f3_;have f4_:=f1_.symm;have f5_:=f3_.symm;clear f1_ f2_ f3_;subst f4_;subst f5_))
               obtain ⟨Ao61,co61,eo61⟩:=Kd.N_slice HO373.out
               (first|subst eo61|(injection eo61 with f1_ f2_ f3_;have f4_:=f1_.symm;have f5_:=f3_.symm;clear f1_ f2_ f3_;subst f4_;subst f5_))
               refine start_ (n:=16) (S:=fun w'=>w'.cell? (ad374.add (x14_2).toNat)=some (.string (rdOf ByteArray.empty y347 x14_2))∧w'.cell? (ad374.add (x14_2).toNat)=some (.string (rdOf ByteArray.empty y347 x14_2))) (ds:=[]) #[false,false,false,false,false,false,false,false,false,false,false,false,false,false,false,false] (by kernel_rfl) rfl rfl ⟨hx374_0,hx378_0⟩ (fun hHeld=>?_);refine with_tabW cadencelaw12_MergeApart.tab22 cadencelaw12_MergeApart.bits22 (fun HT_ HW_=>?_)
               generalize w57.drew=w58 at HO_9 HO_10 HO_11 HO_12 HO_13 HO354 HO373 HB hx374_0 hx378_0 hHeld ⊢
               refine pure_ (i:=0) (N:=some 92) (v:=?_) (a':=?_) #[true,false,false,false,false,false,false,false,false,false,false,false,false,false,false,false] rfl rfl (any_of HT_.out (by kernel_rfl)) (fun _ _ _ h=>h) (Or.inl ⟨by rfl,?_⟩) ?_ ?_
               rotate_left
               ·intro w'
                go_simp
                with_reducible rfl
               rotate_left
               ·simp only [Act.put,List.setIfInBounds_toArray,List.set_cons_zero,List.set_cons_succ,i64_w,i32_w]
                rfl
               refine pure_ (i:=1) (N:=some 93) (v:=?_) (a':=?_) #[true,true,false,false,false,false,false,false,false,false,false,false,false,false,false,false] rfl rfl (any_of HT_.out (by kernel_rfl)) (fun _ _ _ h=>h) (Or.inl ⟨by rfl,?_⟩) ?_ ?_
               rotate_left
               ·intro w'
                go_simp
                with_reducible rfl
               rotate_left
               ·simp only [Act.put,List.setIfInBounds_toArray,List.set_cons_zero,List.set_cons_succ,i64_w,i32_w]
                rfl
               refine pure_ (i:=2) (N:=some 94) (v:=?_) (a':=?_) #[true,true,true,false,false,false,false,false,false,false,false,false,false,false,false,false] rfl rfl (any_of HT_.out (by kernel_rfl)) (fun _ _ _ h=>h) (Or.inl ⟨by rfl,?_⟩) ?_ ?_
               rotate_left
               ·intro w'
                go_simp
                with_reducible rfl
               rotate_left
               ·simp only [Act.put,List.setIfInBounds_toArray,List.set_cons_zero,List.set_cons_succ,i64_w,i32_w]
                rfl
               refine pure_ (i:=3) (N:=some 95) (v:=?_) (a':=?_) #[true,true,true,true,false,false,false,false,false,false,false,false,false,false,false,false] rfl rfl (any_of HT_.out (by kernel_rfl)) (fun _ _ _ h=>h) (Or.inl ⟨by rfl,?_⟩) ?_ ?_
               rotate_left
               ·intro w'
                go_simp
                with_reducible rfl
               rotate_left
               ·simp only [Act.put,List.setIfInBounds_toArray,List.set_cons_zero,List.set_cons_succ,i64_w,i32_w]
                rfl
               refine pure_ (i:=5) (N:=some 97) (v:=?_) (a':=?_) #[true,true,true,true,false,true,false,false,false,false,false,false,false,false,false,false] rfl rfl (any_of HT_.out (by kernel_rfl)) (fun _ _ _ h=>h) (Or.inl ⟨by rfl,?_⟩) ?_ ?_
               rotate_left
               ·intro w'
                go_simp
                with_reducible rfl
               rotate_left
               ·simp only [Act.put,List.setIfInBounds_toArray,List.set_cons_zero,List.set_cons_succ,i64_w,i32_w]
                rfl
               refine pure_ (i:=7) (N:=some 99) (v:=?_) (a':=?_) #[true,true,true,true,false,true,false,true,false,false,false,false,false,false,false,false] rfl rfl (any_of HT_.out (by kernel_rfl)) (fun _ _ _ h=>h) (Or.inl ⟨by rfl,?_⟩) ?_ ?_
               rotate_left
               ·intro w'
                go_simp
                with_reducible rfl
               rotate_left
               ·simp only [Act.put,List.setIfInBounds_toArray,List.set_cons_zero,List.set_cons_succ,i64_w,i32_w]
                rfl
               refine pure_ (i:=8) (N:=some 100) (v:=?_) (a':=?_) #[true,true,true,true,false,true,false,true,true,false,false,false,false,false,false,false] rfl rfl (any_of HT_.out (by kernel_rfl)) (fun _ _ _ h=>h) (Or.inl ⟨by rfl,?_⟩) ?_ ?_
               rotate_left
               ·intro w'
                go_simp
                with_reducible rfl
               rotate_left
               ·simp only [Act.put,List.setIfInBounds_toArray,List.set_cons_zero,List.set_cons_succ,i64_w,i32_w]
                rfl
               refine pure_ (i:=9) (N:=some 101) (v:=?_) (a':=?_) #[true,true,true,true,false,true,false,true,true,true,false,false,false,false,false,false] rfl rfl (any_of HT_.out (by kernel_rfl)) (fun _ _ _ h=>h) (Or.inl ⟨by rfl,?_⟩) ?_ ?_
               rotate_left
               ·intro w'
                go_simp
                with_reducible rfl
               rotate_left
               ·simp only [Act.put,List.setIfInBounds_toArray,List.set_cons_zero,List.set_cons_succ,i64_w,i32_w]
                rfl
               refine pure_ (i:=10) (N:=some 102) (v:=?_) (a':=?_) #[true,true,true,true,false,true,false,true,true,true,true,false,false,false,false,false] rfl rfl (any_of HT_.out (by kernel_rfl)) (fun _ _ _ h=>h) (Or.inl ⟨by rfl,?_⟩) ?_ ?_
               rotate_left
               ·intro w'
                go_simp
                with_reducible rfl
               rotate_left
               ·simp only [Act.put,List.setIfInBounds_toArray,List.set_cons_zero,List.set_cons_succ,i64_w,i32_w]
                rfl
               refine pure_ (i:=12) (N:=some 104) (v:=?_) (a':=?_) #[true,true,true,true,false,true,false,true,true,true,true,false,true,false,false,false] rfl rfl (any_of HT_.out (by kernel_rfl)) (fun _ _ _ h=>h) (Or.inl ⟨by rfl,?_⟩) ?_ ?_
               rotate_left
               ·intro w'
                go_simp
                with_reducible rfl
               rotate_left
               ·simp only [Act.put,List.setIfInBounds_toArray,List.set_cons_zero,List.set_cons_succ,i64_w,i32_w]
                rfl
               refine take_ (i:=4) (N:=some 96) (v:=?_) (a':=?_) #[true,true,true,true,true,true,false,true,true,true,true,false,true,false,false,false] rfl rfl (take_ofW HT_.out HW_.out (by kernel_rfl)) (fun _ _ _ h=>h) (Or.inl ⟨by rfl,?_⟩) hHeld ?_ ?_
               rotate_left
               ·rintro w' ⟨s0,s1⟩
                go_simp
                with_reducible rfl
               rotate_left
               ·simp only [Act.put,List.setIfInBounds_toArray,List.set_cons_zero,List.set_cons_succ,i64_w,i32_w]
                rfl
               refine take_ (i:=11) (N:=some 103) (v:=?_) (a':=?_) #[true,true,true,true,true,true,false,true,true,true,true,true,true,false,false,false] rfl rfl (take_ofW HT_.out HW_.out (by kernel_rfl)) (fun _ _ _ h=>h) (Or.inl ⟨by rfl,?_⟩) hHeld ?_ ?_
               rotate_left
               ·rintro w' ⟨s0,s1⟩
                go_simp
                with_reducible rfl
               rotate_left
               ·simp only [Act.put,List.setIfInBounds_toArray,List.set_cons_zero,List.set_cons_succ,i64_w,i32_w]
                rfl
               refine one_ (i:=6) (N:=some 98) #[true,true,true,true,true,true,true,true,true,true,true,true,true,false,false,false] rfl rfl (one_of HT_.out (by kernel_rfl)) (by decide) (fun K hK=>?_)
               refine goes_ Try.func16 (by kernel_rfl) rfl #[.slice Ao60 x11_2.length co60,.string (rdOf ByteArray.empty y347 x14_2),.slice Ao61 t371.length co61] (by rfl) rfl rfl (by (try simp only [List.map_toArray,List.map_cons,List.map_nil]);first|done|rfl|(simp only [List.length_drop,List.length_take];rfl)) ?_
               with_reducible refine (cadenceref2_With.calls kj19 (fun k_=>((some k_≠(.slice (some ad374) y347.length co59:Value).ownBlock∧some k_≠(v353:Value).ownBlock)∧some k_≠(.slice Ao61 t371.length co61:Value).ownBlock)) _ _ x11_2 (rdOf ByteArray.empty y347 x14_2) (fun k_=>(some k_≠(v345:Value).ownBlock∧(some k_≠(.slice (some ad374) y347.length co59:Value).ownBlock∧some k_≠(v353:Value).ownBlock))) _ _ t371 t375 _ ?side1 ?side2 A54.out).mono ?_
               (case side1=>exact HO_11.out)
               (case side2=>exact Kd.N_V (HO373.out))
               rintro e w62 ⟨v376,rfl,ho0,hb⟩
               have HS0_:=(hb.cell (World.block_lt_of_cell? _ _ (hHeld.1))).trans (hHeld.1)
               have HS1_:=(hb.cell (World.block_lt_of_cell? _ _ (hHeld.2))).trans (hHeld.2)
               refine ⟨_,rfl,?_⟩
               have n0_:=Aside0.mk (Kd.N_elder' (by (with_reducible repeat (first|apply nA_|apply nN_|apply nD_));exact HO_9.out) (Kd.N_base ho0) hb)
               have n1_:=Aside0.mk (Kd.V_elder' (by (with_reducible repeat (first|apply vA_|apply vN_|apply vD_));exact HO_10.out) (Kd.N_base ho0) hb)
               have n2_:=Aside0.mk (Kd.V_elder' (by (with_reducible repeat (first|apply vA_|apply vN_|apply vD_));exact HO_11.out) (Kd.N_base ho0) hb)
               have n3_:=Aside0.mk (Kd.V_elder' (by (with_reducible repeat (first|apply vA_|apply vN_|apply vD_));exact HO_12.out) (Kd.N_base ho0) hb)
               have n4_:=Aside0.mk (Kd.R_below (by (with_reducible repeat (first|apply rA_|apply rN_|apply rD_));exact HO_13.out) hb)
               have n5_:=Aside0.mk (Kd.N_elder' (by (with_reducible repeat (first|apply nA_|apply nN_|apply nD_));exact HO354.out) (Kd.N_base ho0) hb)
               have n6_:=Aside0.mk (Kd.N_elder' (by (with_reducible repeat (first|apply nA_|apply nN_|apply nD_));exact HO373.out) (Kd.N_base ho0) hb)
               have n7_:=Aside0.mk (Kd.N_lower (Kd.N_mono (ok':=fun k_=>some k_≠(.slice (some ad374) y347.length co59:Value).ownBlock∧some k_≠(v353:Value).ownBlock) ho0 (fun k_ hk_=>⟨Or.elim hk_ (fun hs_=>Or.elim hs_ (fun hs_=>hs_.1.1) (fun hs_=>hs_.2.1)) (fun hn_=>(Kd.fresh' (Kd.R_lt (by (with_reducible repeat (first|apply rA_|apply rN_|apply rD_));exact HO_13.out)) k_ hn_)),Or.elim hk_ (fun hs_=>Or.elim hs_ (fun hs_=>hs_.1.2) (fun hs_=>hs_.2.2)) (fun hn_=>(Kd.fresh' (Kd.N_lt (by (with_reducible repeat (first|apply nA_|apply nN_|apply nD_));exact HO354.out)) k_ hn_))⟩)) (below_size (by repeat (first|(with_reducible first|exact HB.out|apply bA_|apply bN_|apply bD_)|exact HB.out))))
               have n8_:=Aside0.mk (below_step (by repeat (first|(with_reducible first|exact HB.out|apply bA_|apply bN_|apply bD_)|exact HB.out)) hb)
               clear HO_9
               clear HO_10
               clear HO_11
               clear HO_12
               clear HO_13
               clear HO354
               clear HO373
               clear HB
               have HO_9:=n0_
               have HO_10:=n1_
               have HO_11:=n2_
               have HO_12:=n3_
               have HO_13:=n4_
               have HO354:=n5_
               have HO373:=n6_
               have HO377:=n7_
               have HB:=n8_
               clear n0_ n1_ n2_ n3_ n4_ n5_ n6_ n7_ n8_
               (try clear hb)
               (try clear hb2)
               (try clear hk)
               (try clear hi)
               (try clear ho0)
               obtain ⟨Ao63,co63,eo63⟩:=Kd.V_slice HO_12.out
               (first|subst eo63|(injection eo63 with f1_ f2_ f3_;have f4_:=f1_.symm;have f5_:=f3_.symm;clear f1_ f2_ f3_;subst f4_;subst f5_))
               refine hK.out _ _ ⟨HS0_,HS1_⟩ (fun hHeld=>?_)
               clear hK K
               refine norm_ (a':=?_) ?_ ?_
               rotate_left
               ·show Act.put _ (some 98) _=_
                simp only [Act.put,List.setIfInBounds_toArray,List.set_cons_zero,List.set_cons_succ,i64_w,i32_w]
                rfl
               refine one_ (i:=13) (N:=some 105) #[true,true,true,true,true,true,true,true,true,true,true,true,true,true,false,false] rfl rfl (one_of HT_.out (by kernel_rfl)) (by decide) (fun K hK=>?_)
               refine goes_ Try.func16 (by kernel_rfl) rfl #[.slice Ao63 x12_2.length co63,.string (rdOf ByteArray.empty y347 x14_2),.slice Ao61 t371.length co61] (by rfl) rfl rfl (by (try simp only [List.map_toArray,List.map_cons,List.map_nil]);first|done|rfl|(simp only [List.length_drop,List.length_take];rfl)) ?_
               with_reducible refine (cadenceref2_With.calls kj19 (fun k_=>(((some k_≠(.slice (some ad374) y347.length co59:Value).ownBlock∧some k_≠(v353:Value).ownBlock)∧some k_≠(.slice Ao61 t371.length co61:Value).ownBlock)∧some k_≠(v376:Value).ownBlock)) _ _ x12_2 (rdOf ByteArray.empty y347 x14_2) (fun k_=>((some k_≠(v345:Value).ownBlock∧(some k_≠(.slice (some ad374) y347.length co59:Value).ownBlock∧some k_≠(v353:Value).ownBlock))∧some k_≠(v376:Value).ownBlock)) _ _ t371 t379 _ ?side1 ?side2 A55.out).mono ?_
               (case side1=>exact HO_12.out)
               (case side2=>exact Kd.N_V (HO373.out))
               rintro e w64 ⟨v380,rfl,ho0,hb⟩
               have HS0_:=(hb.cell (World.block_lt_of_cell? _ _ (hHeld.1))).trans (hHeld.1)
               have HS1_:=(hb.cell (World.block_lt_of_cell? _ _ (hHeld.2))).trans (hHeld.2)
               refine ⟨_,rfl,?_⟩
               have n0_:=Aside0.mk (Kd.N_elder' (by (with_reducible repeat (first|apply nA_|apply nN_|apply nD_));exact HO_9.out) (Kd.N_base ho0) hb)
               have n1_:=Aside0.mk (Kd.V_elder' (by (with_reducible repeat (first|apply vA_|apply vN_|apply vD_));exact HO_10.out) (Kd.N_base ho0) hb)
               have n2_:=Aside0.mk (Kd.V_elder' (by (with_reducible repeat (first|apply vA_|apply vN_|apply vD_));exact HO_11.out) (Kd.N_base ho0) hb)
               have n3_:=Aside0.mk (Kd.V_elder' (by (with_reducible repeat (first|apply vA_|apply vN_|apply vD_));exact HO_12.out) (Kd.N_base ho0) hb)
               have n4_:=Aside0.mk (Kd.R_below (by (with_reducible repeat (first|apply rA_|apply rN_|apply rD_));exact HO_13.out) hb)
               have n5_:=Aside0.mk (Kd.N_elder' (by (with_reducible repeat (first|apply nA_|apply nN_|apply nD_));exact HO354.out) (Kd.N_base ho0) hb)
               have n6_:=Aside0.mk (Kd.N_elder' (by (with_reducible repeat (first|apply nA_|apply nN_|apply nD_));exact HO373.out) (Kd.N_base ho0) hb)
               have n7_:=Aside0.mk (Kd.N_elder' (by (with_reducible repeat (first|apply nA_|apply nN_|apply nD_));exact HO377.out) (Kd.N_base ho0) hb)
               have n8_:=Aside0.mk (Kd.N_lower (Kd.N_mono (ok':=fun k_=>some k_≠(.slice (some ad374) y347.length co59:Value).ownBlock∧some k_≠(v353:Value).ownBlock∧some k_≠(v376:Value).ownBlock) ho0 (fun k_ hk_=>⟨Or.elim hk_ (fun hs_=>Or.elim hs_ (fun hs_=>hs_.1.1.1) (fun hs_=>hs_.1.2.1)) (fun hn_=>(Kd.fresh' (Kd.R_lt (by (with_reducible repeat (first|apply rA_|apply rN_|apply rD_));exact HO_13.out)) k_ hn_)),Or.elim hk_ (fun hs_=>Or.elim hs_ (fun hs_=>hs_.1.1.2) (fun hs_=>hs_.1.2.2)) (fun hn_=>(Kd.fresh' (Kd.N_lt (by (with_reducible repeat (first|apply nA_|apply nN_|apply nD_));exact HO354.out)) k_ hn_)),Or.elim hk_ (fun hs_=>Or.elim hs_ (fun hs_=>hs_.2) (fun hs_=>hs_.2)) (fun hn_=>(Kd.fresh' (Kd.N_lt (by (with_reducible repeat (first|apply nA_|apply nN_|apply nD_));exact HO377.out)) k_ hn_))⟩)) (below_size (by repeat (first|(with_reducible first|exact HB.out|apply bA_|apply bN_|apply bD_)|exact HB.out))))
               have n9_:=Aside0.mk (below_step (by repeat (first|(with_reducible first|exact HB.out|apply bA_|apply bN_|apply bD_)|exact HB.out)) hb)
               clear HO_9
               clear HO_10
               clear HO_11
               clear HO_12
               clear HO_13
               clear HO354
               clear HO373
               clear HO377
               clear HB
               have HO_9:=n0_
               have HO_10:=n1_
               have HO_11:=n2_
               have HO_12:=n3_
               have HO_13:=n4_
               have HO354:=n5_
               have HO373:=n6_
               have HO377:=n7_
               have HO381:=n8_
               have HB:=n9_
               clear n0_ n1_ n2_ n3_ n4_ n5_ n6_ n7_ n8_ n9_
               (try clear hb)
               (try clear hb2)
               (try clear hk)
               (try clear hi)
               (try clear ho0)
               refine hK.out _ _ ⟨HS0_,HS1_⟩ (fun hHeld=>?_)
               clear hK K
               refine norm_ (a':=?_) ?_ ?_
               rotate_left
               ·show Act.put _ (some 105) _=_
                simp only [Act.put,List.setIfInBounds_toArray,List.set_cons_zero,List.set_cons_succ,i64_w,i32_w]
                rfl
               refine pure_ (i:=14) (N:=some 11) (v:=?_) (a':=?_) #[true,true,true,true,true,true,true,true,true,true,true,true,true,true,true,false] rfl rfl (any_of HT_.out (by kernel_rfl)) (fun _ _ _ h=>h) (Or.inl ⟨by rfl,?_⟩) ?_ ?_
               rotate_left
               ·intro w'
                go_simp
                with_reducible rfl
               rotate_left
               ·simp only [Act.put,List.setIfInBounds_toArray,List.set_cons_zero,List.set_cons_succ,i64_w,i32_w]
                rfl
               refine pure_ (i:=15) (N:=some 12) (v:=?_) (a':=?_) #[true,true,true,true,true,true,true,true,true,true,true,true,true,true,true,true] rfl rfl (any_of HT_.out (by kernel_rfl)) (fun _ _ _ h=>h) (Or.inl ⟨by rfl,?_⟩) ?_ ?_
               rotate_left
               ·intro w'
                go_simp
                with_reducible rfl
               rotate_left
               ·simp only [Act.put,List.setIfInBounds_toArray,List.set_cons_zero,List.set_cons_succ,i64_w,i32_w]
                rfl
               refine done_ (done_of HT_.out (by kernel_rfl)) ?_
               try go_wp2
               go_roundg kj19
               case measure=>have:=HJ6.out;have:=HK2.out;have:=HJ19.out;omega
               case rel=>exact ⟨(x10_2),(t375),(t379),(wrap64 (x14_2+1)),(by first|rfl|(simp;done)|(simp [*];done)),H',⟨by have:=HJ6.out;have:=HK2.out;have:=HJ19.out;omega⟩,⟨by (with_reducible repeat (first|apply nA_|apply nN_|apply nD_));exact Kd.N_mono HO_9.out (fun _ hk=>hk.1.1.1.1)⟩,⟨by (with_reducible repeat (first|apply vA_|apply vN_|apply vD_));exact Kd.V_mono HO_10.out (fun _ hk=>hk.1.1.1.1)⟩,⟨Kd.N_V (by (with_reducible repeat (first|apply nA_|apply nN_|apply nD_));exact Kd.N_mono HO377.out (fun _ hk=>hk.1.1))⟩,⟨Kd.N_V (by (with_reducible repeat (first|apply nA_|apply nN_|apply nD_));exact Kd.N_mono HO381.out (fun _ hk=>hk.1))⟩,⟨by (with_reducible repeat (first|apply rA_|apply rN_|apply rD_));exact HO_13.out⟩,⟨by repeat (first|(with_reducible first|exact HB.out|apply bA_|apply bN_|apply bD_)|exact HB.out)⟩⟩
              ·rw [if_neg c53] at H
               exact absurd H (by simp)
             ·rw [if_neg c52] at H
              exact absurd H (by simp)
            ·rw [if_neg c50] at H
             have c50b0:(x15_19 == 3)=false:=beq_eq_false_iff_ne.mpr c50
             have c50b1:(x15_19 != 3)=true:=bne_iff_ne.mpr c50
             by_cases c65:x15_19=4
             ·rw [if_pos c65] at H
              have c65b0:(x15_19 == 4)=true:=beq_iff_eq.mpr c65
              have c65b1:(x15_19 != 4)=false:=bne_eq_false_iff_eq.mpr c65
              clear c65
              by_cases c66:0≤x14_2
              ·rw [if_pos c66] at H
               have c66b0:decide (0≤x14_2)=true:=decide_eq_true c66
               clear c66
               by_cases c67:x14_2 < (y347.length:Int)
               ·rw [if_pos c67] at H
                have c67b0:decide (x14_2 < (y347.length:Int))=true:=decide_eq_true c67
                clear c67
                replace H:=Option.bind_eq_some_iff.mp H
                obtain ⟨t383,A680,H⟩:=H
                replace H:((cadenceref2_Without.f kj19 x12_2 (rdOf ByteArray.empty y347 x14_2)).bind fun t387=>(cadencelaw12_MergeApart.l0 kj19 l1 l2 l3 t344 x10_2 t383 t387 y347 (wrap64 (x14_2+1))))=some r:=H
                have A68:=Aside0.mk A680
                clear A680
                replace H:=Option.bind_eq_some_iff.mp H
                obtain ⟨t387,A690,H⟩:=H
                replace H:(cadencelaw12_MergeApart.l0 kj19 l1 l2 l3 t344 x10_2 t383 t387 y347 (wrap64 (x14_2+1)))=some r:=H
                have A69:=Aside0.mk A690
                clear A690
                have H':=Aside0.mk H
                clear H
                try go_wp2_with (first|((with_reducible refine gate_callee (f:=14) rfl ?_);refine goesL_ (some 56) rfl rfl Try.func14 (by kernel_rfl) rfl #[.slice A1 l1.length c1,.int .i64 3,.int .i64 3] rfl (by (try simp only [List.map_toArray,List.map_cons,List.map_nil]);first|done|rfl|(simp only [List.length_drop,List.length_take];rfl)) ?_;(with_reducible refine (cadencelaw4_Small.calls kj19 _ _ l1 3 3 t352 _ ?side1 ?side2 A24.out).mono ?_);(case side1=>repeat (first|exact (Kd.C_below HR1.out HB.out)|(with_reducible refine cA_ ?_ _)|(with_reducible refine cN_ ?_ _)|(with_reducible refine cD_ ?_)));(case side2=>exact HC1.out);rintro e w70 ⟨v353,rfl,ho0,hb⟩;refine ⟨_,rfl,?_⟩;have n0_:=Aside0.mk (Kd.N_elder' (by (with_reducible repeat (first|apply nA_|apply nN_|apply nD_));exact HO_9.out) (Kd.N_base ho0) hb);have n1_:=Aside0.mk (Kd.V_elder' (by (with_reducible repeat (first|apply vA_|apply vN_|apply vD_));exact HO_10.out) (Kd.N_base ho0) hb);have n2_:=Aside0.mk (Kd.V_elder' (by (with_reducible repeat (first|apply vA_|apply vN_|apply vD_));exact HO_11.out) (Kd.N_base ho0) hb);have n3_:=Aside0.mk (Kd.V_elder' (by (with_reducible repeat (first|apply vA_|apply vN_|apply vD_));exact HO_12.out) (Kd.N_base ho0) hb);have n4_:=Aside0.mk (Kd.R_below (by (with_reducible repeat (first|apply rA_|apply rN_|apply rD_));exact HO_13.out) hb);have n5_:=Aside0.mk (Kd.N_lower (Kd.N_mono (ok':=fun k_=>some k_≠(v345:Value).ownBlock∧some k_≠(v348:Value).ownBlock) ho0 (fun k_ hk_=>⟨(Kd.fresh' (Kd.N_lt (by (with_reducible repeat (first|apply nA_|apply nN_|apply nD_));exact HO_9.out)) k_ hk_),(Kd.fresh' (Kd.R_lt (by (with_reducible repeat (first|apply rA_|apply rN_|apply rD_));exact HO_13.out)) k_ hk_)⟩)) (below_size (by repeat (first|(with_reducible first|exact HB.out|apply bA_|apply bN_|apply bD_)|exact HB.out))));have n6_:=Aside0.mk (below_step (by repeat (first|(with_reducible first|exact HB.out|apply bA_|apply bN_|apply bD_)|exact HB.out)) hb);clear HO_9;clear HO_10;clear HO_11;clear HO_12;clear HO_13;clear HB;have HO_9:=n0_;have HO_10:=n1_;have HO_11:=n2_;have HO_12:=n3_;have HO_13:=n4_;have HO354:=n5_;have HB:=n6_;clear n0_ n1_ n2_ n3_ n4_ n5_ n6_;(try clear hb);(try clear hb2);(try clear hk);(try clear hi);(try clear ho0)))
                have n0_:=Aside0.mk (nD_ HO_9.out)
                have n1_:=Aside0.mk (vD_ HO_10.out)
                have n2_:=Aside0.mk (vD_ HO_11.out)
                have n3_:=Aside0.mk (vD_ HO_12.out)
                have n4_:=Aside0.mk (rD_ HO_13.out)
                have n5_:=Aside0.mk (nD_ HO354.out)
                have n6_:=Aside0.mk (bD_ HB.out)
                clear HO_9
                clear HO_10
                clear HO_11
                clear HO_12
                clear HO_13
                clear HO354
                clear HB
                have HO_9:=n0_
                have HO_10:=n1_
                have HO_11:=n2_
                have HO_12:=n3_
                have HO_13:=n4_
                have HO354:=n5_
                have HB:=n6_
                clear n0_ n1_ n2_ n3_ n4_ n5_ n6_
                obtain ⟨Ao72,co72,eo72⟩:=Kd.R_slice HO_13.out
                (first|subst eo72|(injection eo72 with f1_ f2_ f3_;have f4_:=f1_.symm;have f5_:=f3_.symm;clear f1_ f2_ f3_;subst f4_;subst f5_))
                have p382:0≤(x14_2:Int):=of_decide_eq_true (by first|(with_reducible assumption)|assumption)
                have q382:x14_2 < (y347.length:Int):=of_decide_eq_true (by first|(with_reducible assumption)|assumption)
                obtain ⟨ad382,e382,hx382_0⟩:=Kd.at_string (Kd.R_reads' HO_13.out).2.2 x14_2 p382 q382
                cases e382
                replace p382:=eq_true p382
                replace q382:=eq_true q382
                have p386:0≤(x14_2:Int):=of_decide_eq_true (by first|(with_reducible assumption)|assumption)
                have q386:x14_2 < (y347.length:Int):=of_decide_eq_true (by first|(with_reducible assumption)|assumption)
                obtain ⟨ad386,e386,hx386_0⟩:=Kd.at_string (Kd.R_reads' HO_13.out).2.2 x14_2 p386 q386
                obtain rfl:ad382=ad386:=(by injection e386)
                replace p386:=eq_true p386
                replace q386:=eq_true q386
                obtain ⟨Ao73,co73,eo73⟩:=Kd.V_slice HO_11.out
                (first|subst eo73|(injection eo73 with f1_ f2_ f3_;have f4_:=f1_.symm;have f5_:=f3_.symm;clear f1_ f2_ f3_;subst f4_;subst f5_))
                refine start_ (n:=14) (S:=fun w'=>w'.cell? (ad382.add (x14_2).toNat)=some (.string (rdOf ByteArray.empty y347 x14_2))∧w'.cell? (ad382.add (x14_2).toNat)=some (.string (rdOf ByteArray.empty y347 x14_2))) (ds:=[]) #[false,false,false,false,false,false,false,false,false,false,false,false,false,false] (by kernel_rfl) rfl rfl ⟨hx382_0,hx386_0⟩ (fun hHeld=>?_);refine with_tabW cadencelaw12_MergeApart.tab24 cadencelaw12_MergeApart.bits24 (fun HT_ HW_=>?_)
                generalize w70.drew=w71 at HO_9 HO_10 HO_11 HO_12 HO_13 HO354 HB hx382_0 hx386_0 hHeld ⊢
                refine pure_ (i:=0) (N:=some 108) (v:=?_) (a':=?_) #[true,false,false,false,false,false,false,false,false,false,false,false,false,false] rfl rfl (any_of HT_.out (by kernel_rfl)) (fun _ _ _ h=>h) (Or.inl ⟨by rfl,?_⟩) ?_ ?_
                rotate_left
                ·intro w'
                 go_simp
                 with_reducible rfl
                rotate_left
                ·simp only [Act.put,List.setIfInBounds_toArray,List.set_cons_zero,List.set_cons_succ,i64_w,i32_w]
                 rfl
                refine pure_ (i:=1) (N:=some 109) (v:=?_) (a':=?_) #[true,true,false,false,false,false,false,false,false,false,false,false,false,false] rfl rfl (any_of HT_.out (by kernel_rfl)) (fun _ _ _ h=>h) (Or.inl ⟨by rfl,?_⟩) ?_ ?_
                rotate_left
                ·intro w'
                 go_simp
                 with_reducible rfl
                rotate_left
                ·simp only [Act.put,List.setIfInBounds_toArray,List.set_cons_zero,List.set_cons_succ,i64_w,i32_w]
                 rfl
                refine pure_ (i:=2) (N:=some 110) (v:=?_) (a':=?_) #[true,true,true,false,false,false,false,false,false,false,false,false,false,false] rfl rfl (any_of HT_.out (by kernel_rfl)) (fun _ _ _ h=>h) (Or.inl ⟨by rfl,?_⟩) ?_ ?_
                rotate_left
                ·intro w'
                 go_simp
                 with_reducible rfl
                rotate_left
                ·simp only [Act.put,List.setIfInBounds_toArray,List.set_cons_zero,List.set_cons_succ,i64_w,i32_w]
                 rfl
                refine pure_ (i:=3) (N:=some 111) (v:=?_) (a':=?_) #[true,true,true,true,false,false,false,false,false,false,false,false,false,false] rfl rfl (any_of HT_.out (by kernel_rfl)) (fun _ _ _ h=>h) (Or.inl ⟨by rfl,?_⟩) ?_ ?_
                rotate_left
                ·intro w'
                 go_simp
                 with_reducible rfl
                rotate_left
                ·simp only [Act.put,List.setIfInBounds_toArray,List.set_cons_zero,List.set_cons_succ,i64_w,i32_w]
                 rfl
                refine pure_ (i:=6) (N:=some 114) (v:=?_) (a':=?_) #[true,true,true,true,false,false,true,false,false,false,false,false,false,false] rfl rfl (any_of HT_.out (by kernel_rfl)) (fun _ _ _ h=>h) (Or.inl ⟨by rfl,?_⟩) ?_ ?_
                rotate_left
                ·intro w'
                 go_simp
                 with_reducible rfl
                rotate_left
                ·simp only [Act.put,List.setIfInBounds_toArray,List.set_cons_zero,List.set_cons_succ,i64_w,i32_w]
                 rfl
                refine pure_ (i:=7) (N:=some 115) (v:=?_) (a':=?_) #[true,true,true,true,false,false,true,true,false,false,false,false,false,false] rfl rfl (any_of HT_.out (by kernel_rfl)) (fun _ _ _ h=>h) (Or.inl ⟨by rfl,?_⟩) ?_ ?_
                rotate_left
                ·intro w'
                 go_simp
                 with_reducible rfl
                rotate_left
                ·simp only [Act.put,List.setIfInBounds_toArray,List.set_cons_zero,List.set_cons_succ,i64_w,i32_w]
                 rfl
                refine pure_ (i:=8) (N:=some 116) (v:=?_) (a':=?_) #[true,true,true,true,false,false,true,true,true,false,false,false,false,false] rfl rfl (any_of HT_.out (by kernel_rfl)) (fun _ _ _ h=>h) (Or.inl ⟨by rfl,?_⟩) ?_ ?_
                rotate_left
                ·intro w'
                 go_simp
                 with_reducible rfl
                rotate_left
                ·simp only [Act.put,List.setIfInBounds_toArray,List.set_cons_zero,List.set_cons_succ,i64_w,i32_w]
                 rfl
                refine pure_ (i:=9) (N:=some 117) (v:=?_) (a':=?_) #[true,true,true,true,false,false,true,true,true,true,false,false,false,false] rfl rfl (any_of HT_.out (by kernel_rfl)) (fun _ _ _ h=>h) (Or.inl ⟨by rfl,?_⟩) ?_ ?_
                rotate_left
                ·intro w'
                 go_simp
                 with_reducible rfl
                rotate_left
                ·simp only [Act.put,List.setIfInBounds_toArray,List.set_cons_zero,List.set_cons_succ,i64_w,i32_w]
                 rfl
                refine take_ (i:=4) (N:=some 112) (v:=?_) (a':=?_) #[true,true,true,true,true,false,true,true,true,true,false,false,false,false] rfl rfl (take_ofW HT_.out HW_.out (by kernel_rfl)) (fun _ _ _ h=>h) (Or.inl ⟨by rfl,?_⟩) hHeld ?_ ?_
                rotate_left
                ·rintro w' ⟨s0,s1⟩
                 go_simp
                 with_reducible rfl
                rotate_left
                ·simp only [Act.put,List.setIfInBounds_toArray,List.set_cons_zero,List.set_cons_succ,i64_w,i32_w]
                 rfl
                refine take_ (i:=10) (N:=some 118) (v:=?_) (a':=?_) #[true,true,true,true,true,false,true,true,true,true,true,false,false,false] rfl rfl (take_ofW HT_.out HW_.out (by kernel_rfl)) (fun _ _ _ h=>h) (Or.inl ⟨by rfl,?_⟩) hHeld ?_ ?_
                rotate_left
                ·rintro w' ⟨s0,s1⟩
                 go_simp
                 with_reducible rfl
                rotate_left
                ·simp only [Act.put,List.setIfInBounds_toArray,List.set_cons_zero,List.set_cons_succ,i64_w,i32_w]
                 rfl
                refine one_ (i:=5) (N:=some 113) #[true,true,true,true,true,true,true,true,true,true,true,false,false,false] rfl rfl (one_of HT_.out (by kernel_rfl)) (by decide) (fun K hK=>?_)
                refine goes_ Try.func17 (by kernel_rfl) rfl #[.slice Ao73 x11_2.length co73,.string (rdOf ByteArray.empty y347 x14_2)] (by rfl) rfl rfl (by (try simp only [List.map_toArray,List.map_cons,List.map_nil]);first|done|rfl|(simp only [List.length_drop,List.length_take];rfl)) ?_
                with_reducible refine (cadenceref2_Without.calls kj19 (fun k_=>(some k_≠(.slice (some ad382) y347.length co72:Value).ownBlock∧some k_≠(v353:Value).ownBlock)) _ _ x11_2 (rdOf ByteArray.empty y347 x14_2) t383 _ ?side1 A68.out).mono ?_
                (case side1=>exact HO_11.out)
                rintro e w74 ⟨v384,rfl,ho0,hb⟩
                have HS0_:=(hb.cell (World.block_lt_of_cell? _ _ (hHeld.1))).trans (hHeld.1)
                have HS1_:=(hb.cell (World.block_lt_of_cell? _ _ (hHeld.2))).trans (hHeld.2)
                refine ⟨_,rfl,?_⟩
                have n0_:=Aside0.mk (Kd.N_below (by (with_reducible repeat (first|apply nA_|apply nN_|apply nD_));exact HO_9.out) hb)
                have n1_:=Aside0.mk (Kd.V_below (by (with_reducible repeat (first|apply vA_|apply vN_|apply vD_));exact HO_10.out) hb)
                have n2_:=Aside0.mk (Kd.V_below (by (with_reducible repeat (first|apply vA_|apply vN_|apply vD_));exact HO_11.out) hb)
                have n3_:=Aside0.mk (Kd.V_below (by (with_reducible repeat (first|apply vA_|apply vN_|apply vD_));exact HO_12.out) hb)
                have n4_:=Aside0.mk (Kd.R_below (by (with_reducible repeat (first|apply rA_|apply rN_|apply rD_));exact HO_13.out) hb)
                have n5_:=Aside0.mk (Kd.N_below (by (with_reducible repeat (first|apply nA_|apply nN_|apply nD_));exact HO354.out) hb)
                have n6_:=Aside0.mk (Kd.V_lower (Kd.V_mono (ok':=fun k_=>some k_≠(.slice (some ad382) y347.length co72:Value).ownBlock∧some k_≠(v353:Value).ownBlock) ho0 (fun k_ hk_=>⟨Or.elim hk_ (fun hs_=>hs_.1) (fun hn_=>(Kd.fresh' (Kd.R_lt (by (with_reducible repeat (first|apply rA_|apply rN_|apply rD_));exact HO_13.out)) k_ hn_)),Or.elim hk_ (fun hs_=>hs_.2) (fun hn_=>(Kd.fresh' (Kd.N_lt (by (with_reducible repeat (first|apply nA_|apply nN_|apply nD_));exact HO354.out)) k_ hn_))⟩)) (below_size (by repeat (first|(with_reducible first|exact HB.out|apply bA_|apply bN_|apply bD_)|exact HB.out))))
                have n7_:=Aside0.mk (below_step (by repeat (first|(with_reducible first|exact HB.out|apply bA_|apply bN_|apply bD_)|exact HB.out)) hb)
                clear HO_9
                clear HO_10
                clear HO_11
                clear HO_12
                clear HO_13
                clear HO354
                clear HB
                have HO_9:=n0_
                have HO_10:=n1_
                have HO_11:=n2_
                have HO_12:=n3_
                have HO_13:=n4_
                have HO354:=n5_
                have HO385:=n6_
                have HB:=n7_
                clear n0_ n1_ n2_ n3_ n4_ n5_ n6_ n7_
                (try clear hb)
                (try clear hb2)
                (try clear hk)
                (try clear hi)
                (try clear ho0)
                obtain ⟨Ao75,co75,eo75⟩:=Kd.V_slice HO_12.out
                (first|subst eo75|(injection eo75 with f1_ f2_ f3_;have f4_:=f1_.symm;have f5_:=f3_.symm;clear f1_ f2_ f3_;subst f4_;subst f5_))
                refine hK.out _ _ ⟨HS0_,HS1_⟩ (fun hHeld=>?_)
                clear hK K
                refine norm_ (a':=?_) ?_ ?_
                rotate_left
                ·show Act.put _ (some 113) _=_
                 simp only [Act.put,List.setIfInBounds_toArray,List.set_cons_zero,List.set_cons_succ,i64_w,i32_w]
                 rfl
                refine one_ (i:=11) (N:=some 119) #[true,true,true,true,true,true,true,true,true,true,true,true,false,false] rfl rfl (one_of HT_.out (by kernel_rfl)) (by decide) (fun K hK=>?_)
                refine goes_ Try.func17 (by kernel_rfl) rfl #[.slice Ao75 x12_2.length co75,.string (rdOf ByteArray.empty y347 x14_2)] (by rfl) rfl rfl (by (try simp only [List.map_toArray,List.map_cons,List.map_nil]);first|done|rfl|(simp only [List.length_drop,List.length_take];rfl)) ?_
                with_reducible refine (cadenceref2_Without.calls kj19 (fun k_=>(some k_≠(.slice (some ad382) y347.length co72:Value).ownBlock∧some k_≠(v353:Value).ownBlock)) _ _ x12_2 (rdOf ByteArray.empty y347 x14_2) t387 _ ?side1 A69.out).mono ?_
                (case side1=>exact HO_12.out)
                rintro e w76 ⟨v388,rfl,ho0,hb⟩
                have HS0_:=(hb.cell (World.block_lt_of_cell? _ _ (hHeld.1))).trans (hHeld.1)
                have HS1_:=(hb.cell (World.block_lt_of_cell? _ _ (hHeld.2))).trans (hHeld.2)
                refine ⟨_,rfl,?_⟩
                have n0_:=Aside0.mk (Kd.N_below (by (with_reducible repeat (first|apply nA_|apply nN_|apply nD_));exact HO_9.out) hb)
                have n1_:=Aside0.mk (Kd.V_below (by (with_reducible repeat (first|apply vA_|apply vN_|apply vD_));exact HO_10.out) hb)
                have n2_:=Aside0.mk (Kd.V_below (by (with_reducible repeat (first|apply vA_|apply vN_|apply vD_));exact HO_11.out) hb)
                have n3_:=Aside0.mk (Kd.V_below (by (with_reducible repeat (first|apply vA_|apply vN_|apply vD_));exact HO_12.out) hb)
                have n4_:=Aside0.mk (Kd.R_below (by (with_reducible repeat (first|apply rA_|apply rN_|apply rD_));exact HO_13.out) hb)
                have n5_:=Aside0.mk (Kd.N_below (by (with_reducible repeat (first|apply nA_|apply nN_|apply nD_));exact HO354.out) hb)
                have n6_:=Aside0.mk (Kd.V_below (by (with_reducible repeat (first|apply vA_|apply vN_|apply vD_));exact HO385.out) hb)
                have n7_:=Aside0.mk (Kd.V_lower (Kd.V_mono (ok':=fun k_=>some k_≠(.slice (some ad382) y347.length co72:Value).ownBlock∧some k_≠(v353:Value).ownBlock) ho0 (fun k_ hk_=>⟨Or.elim hk_ (fun hs_=>hs_.1) (fun hn_=>(Kd.fresh' (Kd.R_lt (by (with_reducible repeat (first|apply rA_|apply rN_|apply rD_));exact HO_13.out)) k_ hn_)),Or.elim hk_ (fun hs_=>hs_.2) (fun hn_=>(Kd.fresh' (Kd.N_lt (by (with_reducible repeat (first|apply nA_|apply nN_|apply nD_));exact HO354.out)) k_ hn_))⟩)) (below_size (by repeat (first|(with_reducible first|exact HB.out|apply bA_|apply bN_|apply bD_)|exact HB.out))))
                have n8_:=Aside0.mk (below_step (by repeat (first|(with_reducible first|exact HB.out|apply bA_|apply bN_|apply bD_)|exact HB.out)) hb)
                clear HO_9
                clear HO_10
                clear HO_11
                clear HO_12
                clear HO_13
                clear HO354
                clear HO385
                clear HB
                have HO_9:=n0_
                have HO_10:=n1_
                have HO_11:=n2_
                have HO_12:=n3_
                have HO_13:=n4_
                have HO354:=n5_
                have HO385:=n6_
                have HO389:=n7_
                have HB:=n8_
                clear n0_ n1_ n2_ n3_ n4_ n5_ n6_ n7_ n8_
                (try clear hb)
                (try clear hb2)
                (try clear hk)
                (try clear hi)
                (try clear ho0)
                refine hK.out _ _ ⟨HS0_,HS1_⟩ (fun hHeld=>?_)
                clear hK K
                refine norm_ (a':=?_) ?_ ?_
                rotate_left
                ·show Act.put _ (some 119) _=_
                 simp only [Act.put,List.setIfInBounds_toArray,List.set_cons_zero,List.set_cons_succ,i64_w,i32_w]
                 rfl
                refine pure_ (i:=12) (N:=some 11) (v:=?_) (a':=?_) #[true,true,true,true,true,true,true,true,true,true,true,true,true,false] rfl rfl (any_of HT_.out (by kernel_rfl)) (fun _ _ _ h=>h) (Or.inl ⟨by rfl,?_⟩) ?_ ?_
                rotate_left
                ·intro w'
                 go_simp
                 with_reducible rfl
                rotate_left
                ·simp only [Act.put,List.setIfInBounds_toArray,List.set_cons_zero,List.set_cons_succ,i64_w,i32_w]
                 rfl
                refine pure_ (i:=13) (N:=some 12) (v:=?_) (a':=?_) #[true,true,true,true,true,true,true,true,true,true,true,true,true,true] rfl rfl (any_of HT_.out (by kernel_rfl)) (fun _ _ _ h=>h) (Or.inl ⟨by rfl,?_⟩) ?_ ?_
                rotate_left
                ·intro w'
                 go_simp
                 with_reducible rfl
                rotate_left
                ·simp only [Act.put,List.setIfInBounds_toArray,List.set_cons_zero,List.set_cons_succ,i64_w,i32_w]
                 rfl
                refine done_ (done_of HT_.out (by kernel_rfl)) ?_
                try go_wp2
                go_roundg kj19
                case measure=>have:=HJ6.out;have:=HK2.out;have:=HJ19.out;omega
                case rel=>exact ⟨(x10_2),(t383),(t387),(wrap64 (x14_2+1)),(by first|rfl|(simp;done)|(simp [*];done)),H',⟨by have:=HJ6.out;have:=HK2.out;have:=HJ19.out;omega⟩,⟨by (with_reducible repeat (first|apply nA_|apply nN_|apply nD_));exact Kd.N_mono HO_9.out (fun _ hk=>hk.1)⟩,⟨by (with_reducible repeat (first|apply vA_|apply vN_|apply vD_));exact Kd.V_mono HO_10.out (fun _ hk=>hk.1)⟩,⟨by (with_reducible repeat (first|apply vA_|apply vN_|apply vD_));exact Kd.V_mono HO385.out (fun _ hk=>hk.1)⟩,⟨by (with_reducible repeat (first|apply vA_|apply vN_|apply vD_));exact Kd.V_mono HO389.out (fun _ hk=>hk.1)⟩,⟨by (with_reducible repeat (first|apply rA_|apply rN_|apply rD_));exact HO_13.out⟩,⟨by repeat (first|(with_reducible first|exact HB.out|apply bA_|apply bN_|apply bD_)|exact HB.out)⟩⟩
               ·rw [if_neg c67] at H
                exact absurd H (by simp)
              ·rw [if_neg c66] at H
               exact absurd H (by simp)
             ·rw [if_neg c65] at H
              have c65b0:(x15_19 == 4)=false:=beq_eq_false_iff_ne.mpr c65
              have c65b1:(x15_19 != 4)=true:=bne_iff_ne.mpr c65
              have H':=Aside0.mk H
              clear H
              go_wp2_with (first|((with_reducible refine gate_callee (f:=14) rfl ?_);refine goesL_ (some 56) rfl rfl Try.func14 (by kernel_rfl) rfl #[.slice A1 l1.length c1,.int .i64 3,.int .i64 3] rfl (by (try simp only [List.map_toArray,List.map_cons,List.map_nil]);first|done|rfl|(simp only [List.length_drop,List.length_take];rfl)) ?_;(with_reducible refine (cadencelaw4_Small.calls kj19 _ _ l1 3 3 t352 _ ?side1 ?side2 A24.out).mono ?_);(case side1=>repeat (first|exact (Kd.C_below HR1.out HB.out)|(with_reducible refine cA_ ?_ _)|(with_reducible refine cN_ ?_ _)|(with_reducible refine cD_ ?_)));(case side2=>exact HC1.out);rintro e w77 ⟨v353,rfl,ho0,hb⟩;refine ⟨_,rfl,?_⟩;have n0_:=Aside0.mk (Kd.N_elder' (by (with_reducible repeat (first|apply nA_|apply nN_|apply nD_));exact HO_9.out) (Kd.N_base ho0) hb);have n1_:=Aside0.mk (Kd.V_elder' (by (with_reducible repeat (first|apply vA_|apply vN_|apply vD_));exact HO_10.out) (Kd.N_base ho0) hb);have n2_:=Aside0.mk (Kd.V_elder' (by (with_reducible repeat (first|apply vA_|apply vN_|apply vD_));exact HO_11.out) (Kd.N_base ho0) hb);have n3_:=Aside0.mk (Kd.V_elder' (by (with_reducible repeat (first|apply vA_|apply vN_|apply vD_));exact HO_12.out) (Kd.N_base ho0) hb);have n4_:=Aside0.mk (Kd.R_below (by (with_reducible repeat (first|apply rA_|apply rN_|apply rD_));exact HO_13.out) hb);have n5_:=Aside0.mk (Kd.N_lower (Kd.N_mono (ok':=fun k_=>some k_≠(v345:Value).ownBlock∧some k_≠(v348:Value).ownBlock) ho0 (fun k_ hk_=>⟨(Kd.fresh' (Kd.N_lt (by (with_reducible repeat (first|apply nA_|apply nN_|apply nD_));exact HO_9.out)) k_ hk_),(Kd.fresh' (Kd.R_lt (by (with_reducible repeat (first|apply rA_|apply rN_|apply rD_));exact HO_13.out)) k_ hk_)⟩)) (below_size (by repeat (first|(with_reducible first|exact HB.out|apply bA_|apply bN_|apply bD_)|exact HB.out))));have n6_:=Aside0.mk (below_step (by repeat (first|(with_reducible first|exact HB.out|apply bA_|apply bN_|apply bD_)|exact HB.out)) hb);clear HO_9;clear HO_10;clear HO_11;clear HO_12;clear HO_13;clear HB;have HO_9:=n0_;have HO_10:=n1_;have HO_11:=n2_;have HO_12:=n3_;have HO_13:=n4_;have HO354:=n5_;have HB:=n6_;clear n0_ n1_ n2_ n3_ n4_ n5_ n6_;(try clear hb);(try clear hb2);(try clear hk);(try clear hi);(try clear ho0)))
              go_roundg kj19
              case measure=>have:=HJ6.out;have:=HK2.out;have:=HJ19.out;omega
              case rel=>exact ⟨(x10_2),(x11_2),(x12_2),(wrap64 (x14_2+1)),(by first|rfl|(simp;done)|(simp [*];done)),H',⟨by have:=HJ6.out;have:=HK2.out;have:=HJ19.out;omega⟩,⟨by (with_reducible repeat (first|apply nA_|apply nN_|apply nD_));exact Kd.N_mono HO_9.out (fun _ hk=>hk.1)⟩,⟨by (with_reducible repeat (first|apply vA_|apply vN_|apply vD_));exact Kd.V_mono HO_10.out (fun _ hk=>hk.1)⟩,⟨by (with_reducible repeat (first|apply vA_|apply vN_|apply vD_));exact Kd.V_mono HO_11.out (fun _ hk=>hk.1)⟩,⟨by (with_reducible repeat (first|apply vA_|apply vN_|apply vD_));exact Kd.V_mono HO_12.out (fun _ hk=>hk.1)⟩,⟨by (with_reducible repeat (first|apply rA_|apply rN_|apply rD_));exact HO_13.out⟩,⟨by repeat (first|(with_reducible first|exact HB.out|apply bA_|apply bN_|apply bD_)|exact HB.out)⟩⟩
       ·rw [if_neg c19] at H
        have c19b0:decide (x14_2 < 5)=false:=decide_eq_false c19
        clear c19
        replace H:=Option.bind_eq_some_iff.mp H
        obtain ⟨t390,A780,H⟩:=H
        replace H:((cadencelaw12_some.f t344).bind fun bt393=>((cadencelaw12_some.f x10_2).bind fun bt397=>((cadencelaw12_some.f x11_2).bind fun bt401=>((merge_Merge.f t390 bt393.1 bt393.2 bt397.1 bt397.2 bt401.1 bt401.2).bind fun bt405=>(if (bt405.2.2.2.2.2.2.length:Int)=0 then ((cadenceref2_Same.f k2 bt405.2.1 x12_2).bind fun t423=>(if t423=true then ((cadenceref2_Same.f k2 bt405.2.2.2.1 x12_2).bind fun t424=>(if t424=true then ((cadenceref2_Same.f k2 bt405.2.2.2.2.2.1 x12_2).bind fun t425=>(some t425)) else (none))) else (none))) else (none))))))=some r:=H
        have A78:=Aside0.mk A780
        clear A780
        replace H:=Option.bind_eq_some_iff.mp H
        obtain ⟨⟨t393,t394⟩,A790,H⟩:=H
        replace H:((cadencelaw12_some.f x10_2).bind fun bt397=>((cadencelaw12_some.f x11_2).bind fun bt401=>((merge_Merge.f t390 t393 t394 bt397.1 bt397.2 bt401.1 bt401.2).bind fun bt405=>(if (bt405.2.2.2.2.2.2.length:Int)=0 then ((cadenceref2_Same.f k2 bt405.2.1 x12_2).bind fun t423=>(if t423=true then ((cadenceref2_Same.f k2 bt405.2.2.2.1 x12_2).bind fun t424=>(if t424=true then ((cadenceref2_Same.f k2 bt405.2.2.2.2.2.1 x12_2).bind fun t425=>(some t425)) else (none))) else (none))) else (none)))))=some r:=H
        have A79:=Aside0.mk A790
        clear A790
        replace H:=Option.bind_eq_some_iff.mp H
        obtain ⟨⟨t397,t398⟩,A800,H⟩:=H
        replace H:((cadencelaw12_some.f x11_2).bind fun bt401=>((merge_Merge.f t390 t393 t394 t397 t398 bt401.1 bt401.2).bind fun bt405=>(if (bt405.2.2.2.2.2.2.length:Int)=0 then ((cadenceref2_Same.f k2 bt405.2.1 x12_2).bind fun t423=>(if t423=true then ((cadenceref2_Same.f k2 bt405.2.2.2.1 x12_2).bind fun t424=>(if t424=true then ((cadenceref2_Same.f k2 bt405.2.2.2.2.2.1 x12_2).bind fun t425=>(some t425)) else (none))) else (none))) else (none))))=some r:=H
        have A80:=Aside0.mk A800
        clear A800
        replace H:=Option.bind_eq_some_iff.mp H
        obtain ⟨⟨t401,t402⟩,A810,H⟩:=H
        replace H:((merge_Merge.f t390 t393 t394 t397 t398 t401 t402).bind fun bt405=>(if (bt405.2.2.2.2.2.2.length:Int)=0 then ((cadenceref2_Same.f k2 bt405.2.1 x12_2).bind fun t423=>(if t423=true then ((cadenceref2_Same.f k2 bt405.2.2.2.1 x12_2).bind fun t424=>(if t424=true then ((cadenceref2_Same.f k2 bt405.2.2.2.2.2.1 x12_2).bind fun t425=>(some t425)) else (none))) else (none))) else (none)))=some r:=H
        have A81:=Aside0.mk A810
        clear A810
        replace H:=Option.bind_eq_some_iff.mp H
        obtain ⟨⟨t405,t406,t409,t410,t413,t414,t417⟩,A820,H⟩:=H
        replace H:(if (t417.length:Int)=0 then ((cadenceref2_Same.f k2 t406 x12_2).bind fun t423=>(if t423=true then ((cadenceref2_Same.f k2 t410 x12_2).bind fun t424=>(if t424=true then ((cadenceref2_Same.f k2 t414 x12_2).bind fun t425=>(some t425)) else (none))) else (none))) else (none))=some r:=H
        have A82:=Aside0.mk A820
        clear A820
        by_cases c83:(t417.length:Int)=0
        ·rw [if_pos c83] at H
         have c83b0:((t417.length:Int) == 0)=true:=beq_iff_eq.mpr c83
         have c83b1:((t417.length:Int) != 0)=false:=bne_eq_false_iff_eq.mpr c83
         clear c83
         replace H:=Option.bind_eq_some_iff.mp H
         obtain ⟨t423,A840,H⟩:=H
         replace H:(if t423=true then ((cadenceref2_Same.f k2 t410 x12_2).bind fun t424=>(if t424=true then ((cadenceref2_Same.f k2 t414 x12_2).bind fun t425=>(some t425)) else (none))) else (none))=some r:=H
         have A84:=Aside0.mk A840
         clear A840
         by_cases c85:t423=true
         ·subst c85
          have H1:((cadenceref2_Same.f k2 t410 x12_2).bind fun t424=>(if t424=true then ((cadenceref2_Same.f k2 t414 x12_2).bind fun t425=>(some t425)) else (none)))=some r:=by rw [if_pos rfl] at H;exact H
          clear H
          have H:=H1
          clear H1
          replace H:=Option.bind_eq_some_iff.mp H
          obtain ⟨t424,A860,H⟩:=H
          replace H:(if t424=true then ((cadenceref2_Same.f k2 t414 x12_2).bind fun t425=>(some t425)) else (none))=some r:=H
          have A86:=Aside0.mk A860
          clear A860
          by_cases c87:t424=true
          ·subst c87
           have H1:((cadenceref2_Same.f k2 t414 x12_2).bind fun t425=>(some t425))=some r:=by rw [if_pos rfl] at H;exact H
           clear H
           have H:=H1
           clear H1
           replace H:=Option.bind_eq_some_iff.mp H
           obtain ⟨t425,A880,H⟩:=H
           replace H:(some t425)=some r:=H
           have A88:=Aside0.mk A880
           clear A880
           obtain rfl:=Option.some.inj H
           go_wp2_with (first|((with_reducible refine gate_callee (f:=18) rfl ?_);refine goesL_ (some 121) rfl rfl Try.func18 (by kernel_rfl) rfl #[] rfl (by (try simp only [List.map_toArray,List.map_cons,List.map_nil]);first|done|rfl|(simp only [List.length_drop,List.length_take];rfl)) ?_;(with_reducible refine (cadencelaw12_wide.calls  t390 _ A78.out).mono ?_);rintro e w89 ⟨v391,rfl,ho0,hb⟩;refine ⟨_,rfl,?_⟩;have n0_:=Aside0.mk (Kd.N_elder' (by (with_reducible repeat (first|apply nA_|apply nN_|apply nD_));exact HO_9.out) (Kd.N_base ho0) hb);have n1_:=Aside0.mk (Kd.V_elder' (by (with_reducible repeat (first|apply vA_|apply vN_|apply vD_));exact HO_10.out) (Kd.N_base ho0) hb);have n2_:=Aside0.mk (Kd.V_elder' (by (with_reducible repeat (first|apply vA_|apply vN_|apply vD_));exact HO_11.out) (Kd.N_base ho0) hb);have n3_:=Aside0.mk (Kd.V_elder' (by (with_reducible repeat (first|apply vA_|apply vN_|apply vD_));exact HO_12.out) (Kd.N_base ho0) hb);have n4_:=Aside0.mk (Kd.R_below (by (with_reducible repeat (first|apply rA_|apply rN_|apply rD_));exact HO_13.out) hb);have n5_:=Aside0.mk (Kd.N_lower (Kd.N_mono (ok':=fun k_=>some k_≠(v345:Value).ownBlock∧some k_≠(v348:Value).ownBlock) ho0 (fun k_ hk_=>⟨(Kd.fresh' (Kd.N_lt (by (with_reducible repeat (first|apply nA_|apply nN_|apply nD_));exact HO_9.out)) k_ hk_),(Kd.fresh' (Kd.R_lt (by (with_reducible repeat (first|apply rA_|apply rN_|apply rD_));exact HO_13.out)) k_ hk_)⟩)) (below_size (by repeat (first|(with_reducible first|exact HB.out|apply bA_|apply bN_|apply bD_)|exact HB.out))));have n6_:=Aside0.mk (below_step (by repeat (first|(with_reducible first|exact HB.out|apply bA_|apply bN_|apply bD_)|exact HB.out)) hb);clear HO_9;clear HO_10;clear HO_11;clear HO_12;clear HO_13;clear HB;have HO_9:=n0_;have HO_10:=n1_;have HO_11:=n2_;have HO_12:=n3_;have HO_13:=n4_;have HO392:=n5_;have HB:=n6_;clear n0_ n1_ n2_ n3_ n4_ n5_ n6_;(try clear hb);(try clear hb2);(try clear hk);(try clear hi);(try clear ho0);obtain ⟨Ao90,co90,eo90⟩:=Kd.N_slice HO_9.out;subst eo90)|((with_reducible refine gate_callee (f:=10) rfl ?_);refine goesL_ (some 123) rfl rfl Try.func10 (by kernel_rfl) rfl #[.slice Ao90 t344.length co90] rfl (by (try simp only [List.map_toArray,List.map_cons,List.map_nil]);first|done|rfl|(simp only [List.length_drop,List.length_take];rfl)) ?_;(with_reducible refine (cadencelaw12_some.calls (fun k_=>(some k_≠(v348:Value).ownBlock∧some k_≠(v391:Value).ownBlock)) _ _ t344 t393 t394 _ ?side1 A79.out).mono ?_);(case side1=>exact Kd.N_V (HO_9.out));rintro e w91 ⟨v395,rfl,ho0,hb⟩;refine ⟨_,rfl,?_⟩;have n0_:=Aside0.mk (Kd.N_below (by (with_reducible repeat (first|apply nA_|apply nN_|apply nD_));exact HO_9.out) hb);have n1_:=Aside0.mk (Kd.V_below (by (with_reducible repeat (first|apply vA_|apply vN_|apply vD_));exact HO_10.out) hb);have n2_:=Aside0.mk (Kd.V_below (by (with_reducible repeat (first|apply vA_|apply vN_|apply vD_));exact HO_11.out) hb);have n3_:=Aside0.mk (Kd.V_below (by (with_reducible repeat (first|apply vA_|apply vN_|apply vD_));exact HO_12.out) hb);have n4_:=Aside0.mk (Kd.R_below (by (with_reducible repeat (first|apply rA_|apply rN_|apply rD_));exact HO_13.out) hb);have n5_:=Aside0.mk (Kd.N_below (by (with_reducible repeat (first|apply nA_|apply nN_|apply nD_));exact HO392.out) hb);have n6_:=Aside0.mk (Kd.V_lower (Kd.V_mono (ok':=fun k_=>some k_≠(v348:Value).ownBlock∧some k_≠(v391:Value).ownBlock) ho0 (fun k_ hk_=>⟨Or.elim hk_ (fun hs_=>hs_.1) (fun hn_=>(Kd.fresh' (Kd.R_lt (by (with_reducible repeat (first|apply rA_|apply rN_|apply rD_));exact HO_13.out)) k_ hn_)),Or.elim hk_ (fun hs_=>hs_.2) (fun hn_=>(Kd.fresh' (Kd.N_lt (by (with_reducible repeat (first|apply nA_|apply nN_|apply nD_));exact HO392.out)) k_ hn_))⟩)) (below_size (by repeat (first|(with_reducible first|exact HB.out|apply bA_|apply bN_|apply bD_)|exact HB.out))));have n7_:=Aside0.mk (below_step (by repeat (first|(with_reducible first|exact HB.out|apply bA_|apply bN_|apply bD_)|exact HB.out)) hb);clear HO_9;clear HO_10;clear HO_11;clear HO_12;clear HO_13;clear HO392;clear HB;have HO_9:=n0_;have HO_10:=n1_;have HO_11:=n2_;have HO_12:=n3_;have HO_13:=n4_;have HO392:=n5_;have HO396:=n6_;have HB:=n7_;clear n0_ n1_ n2_ n3_ n4_ n5_ n6_ n7_;(try clear hb);(try clear hb2);(try clear hk);(try clear hi);(try clear ho0);obtain ⟨Ao92,co92,eo92⟩:=Kd.V_slice HO_10.out;subst eo92)|((with_reducible refine gate_callee (f:=10) rfl ?_);refine goesL_ (some 125) rfl rfl Try.func10 (by kernel_rfl) rfl #[.slice Ao92 x10_2.length co92] rfl (by (try simp only [List.map_toArray,List.map_cons,List.map_nil]);first|done|rfl|(simp only [List.length_drop,List.length_take];rfl)) ?_;(with_reducible refine (cadencelaw12_some.calls (fun k_=>(some k_≠(v348:Value).ownBlock∧some k_≠(v391:Value).ownBlock)) _ _ x10_2 t397 t398 _ ?side1 A80.out).mono ?_);(case side1=>exact HO_10.out);rintro e w93 ⟨v399,rfl,ho0,hb⟩;refine ⟨_,rfl,?_⟩;have n0_:=Aside0.mk (Kd.N_below (by (with_reducible repeat (first|apply nA_|apply nN_|apply nD_));exact HO_9.out) hb);have n1_:=Aside0.mk (Kd.V_below (by (with_reducible repeat (first|apply vA_|apply vN_|apply vD_));exact HO_10.out) hb);have n2_:=Aside0.mk (Kd.V_below (by (with_reducible repeat (first|apply vA_|apply vN_|apply vD_));exact HO_11.out) hb);have n3_:=Aside0.mk (Kd.V_below (by (with_reducible repeat (first|apply vA_|apply vN_|apply vD_));exact HO_12.out) hb);have n4_:=Aside0.mk (Kd.R_below (by (with_reducible repeat (first|apply rA_|apply rN_|apply rD_));exact HO_13.out) hb);have n5_:=Aside0.mk (Kd.N_below (by (with_reducible repeat (first|apply nA_|apply nN_|apply nD_));exact HO392.out) hb);have n6_:=Aside0.mk (Kd.V_below (by (with_reducible repeat (first|apply vA_|apply vN_|apply vD_));exact HO396.out) hb);have n7_:=Aside0.mk (Kd.V_lower (Kd.V_mono (ok':=fun k_=>some k_≠(v348:Value).ownBlock∧some k_≠(v391:Value).ownBlock) ho0 (fun k_ hk_=>⟨Or.elim hk_ (fun hs_=>hs_.1) (fun hn_=>(Kd.fresh' (Kd.R_lt (by (with_reducible repeat (first|apply rA_|apply rN_|apply rD_));exact HO_13.out)) k_ hn_)),Or.elim hk_ (fun hs_=>hs_.2) (fun hn_=>(Kd.fresh' (Kd.N_lt (by (with_reducible repeat (first|apply nA_|apply nN_|apply nD_));exact HO392.out)) k_ hn_))⟩)) (below_size (by repeat (first|(with_reducible first|exact HB.out|apply bA_|apply bN_|apply bD_)|exact HB.out))));have n8_:=Aside0.mk (below_step (by repeat (first|(with_reducible first|exact HB.out|apply bA_|apply bN_|apply bD_)|exact HB.out)) hb);clear HO_9;clear HO_10;clear HO_11;clear HO_12;clear HO_13;clear HO392;clear HO396;clear HB;have HO_9:=n0_;have HO_10:=n1_;have HO_11:=n2_;have HO_12:=n3_;have HO_13:=n4_;have HO392:=n5_;have HO396:=n6_;have HO400:=n7_;have HB:=n8_;clear n0_ n1_ n2_ n3_ n4_ n5_ n6_ n7_ n8_;(try clear hb);(try clear hb2);(try clear hk);(try clear hi);(try clear ho0);obtain ⟨Ao94,co94,eo94⟩:=Kd.V_slice HO_11.out;subst eo94)|((with_reducible refine gate_callee (f:=10) rfl ?_);refine goesL_ (some 127) rfl rfl Try.func10 (by kernel_rfl) rfl #[.slice Ao94 x11_2.length co94] rfl (by (try simp only [List.map_toArray,List.map_cons,List.map_nil]);first|done|rfl|(simp only [List.length_drop,List.length_take];rfl)) ?_;(with_reducible refine (cadencelaw12_some.calls (fun k_=>(some k_≠(v348:Value).ownBlock∧some k_≠(v391:Value).ownBlock)) _ _ x11_2 t401 t402 _ ?side1 A81.out).mono ?_);(case side1=>exact HO_11.out);rintro e w95 ⟨v403,rfl,ho0,hb⟩;refine ⟨_,rfl,?_⟩;have n0_:=Aside0.mk (Kd.N_below (by (with_reducible repeat (first|apply nA_|apply nN_|apply nD_));exact HO_9.out) hb);have n1_:=Aside0.mk (Kd.V_below (by (with_reducible repeat (first|apply vA_|apply vN_|apply vD_));exact HO_10.out) hb);have n2_:=Aside0.mk (Kd.V_below (by (with_reducible repeat (first|apply vA_|apply vN_|apply vD_));exact HO_11.out) hb);have n3_:=Aside0.mk (Kd.V_below (by (with_reducible repeat (first|apply vA_|apply vN_|apply vD_));exact HO_12.out) hb);have n4_:=Aside0.mk (Kd.R_below (by (with_reducible repeat (first|apply rA_|apply rN_|apply rD_));exact HO_13.out) hb);have n5_:=Aside0.mk (Kd.N_below (by (with_reducible repeat (first|apply nA_|apply nN_|apply nD_));exact HO392.out) hb);have n6_:=Aside0.mk (Kd.V_below (by (with_reducible repeat (first|apply vA_|apply vN_|apply vD_));exact HO396.out) hb);have n7_:=Aside0.mk (Kd.V_below (by (with_reducible repeat (first|apply vA_|apply vN_|apply vD_));exact HO400.out) hb);have n8_:=Aside0.mk (Kd.V_lower (Kd.V_mono (ok':=fun k_=>some k_≠(v348:Value).ownBlock∧some k_≠(v391:Value).ownBlock) ho0 (fun k_ hk_=>⟨Or.elim hk_ (fun hs_=>hs_.1) (fun hn_=>(Kd.fresh' (Kd.R_lt (by (with_reducible repeat (first|apply rA_|apply rN_|apply rD_));exact HO_13.out)) k_ hn_)),Or.elim hk_ (fun hs_=>hs_.2) (fun hn_=>(Kd.fresh' (Kd.N_lt (by (with_reducible repeat (first|apply nA_|apply nN_|apply nD_));exact HO392.out)) k_ hn_))⟩)) (below_size (by repeat (first|(with_reducible first|exact HB.out|apply bA_|apply bN_|apply bD_)|exact HB.out))));have n9_:=Aside0.mk (below_step (by repeat (first|(with_reducible first|exact HB.out|apply bA_|apply bN_|apply bD_)|exact HB.out)) hb);clear HO_9;clear HO_10;clear HO_11;clear HO_12;clear HO_13;clear HO392;clear HO396;clear HO400;clear HB;have HO_9:=n0_;have HO_10:=n1_;have HO_11:=n2_;have HO_12:=n3_;have HO_13:=n4_;have HO392:=n5_;have HO396:=n6_;have HO400:=n7_;have HO404:=n8_;have HB:=n9_;clear n0_ n1_ n2_ n3_ n4_ n5_ n6_ n7_ n8_ n9_;(try clear hb);(try clear hb2);(try clear hk);(try clear hi);(try clear ho0);obtain ⟨Ao96,co96,eo96⟩:=Kd.N_slice HO392.out;subst eo96;obtain ⟨Ao97,co97,eo97⟩:=Kd.V_slice HO396.out;subst eo97;obtain ⟨Ao98,co98,eo98⟩:=Kd.V_slice HO400.out;subst eo98;obtain ⟨Ao99,co99,eo99⟩:=Kd.V_slice HO404.out;subst eo99)|((with_reducible refine gate_callee (f:=8) rfl ?_);refine goesL_ (some 128) rfl rfl Try.func8 (by kernel_rfl) rfl #[.slice Ao96 t390.length co96,.agg #[.bool t393,.slice Ao97 t394.length co97],.agg #[.bool t397,.slice Ao98 t398.length co98],.agg #[.bool t401,.slice Ao99 t402.length co99]] rfl (by (try simp only [List.map_toArray,List.map_cons,List.map_nil]);first|done|rfl|(simp only [List.length_drop,List.length_take];rfl)) ?_;(with_reducible refine (merge_Merge.calls (fun k_=>(some k_≠(.slice Ao90 t344.length co90:Value).ownBlock∧some k_≠(v348:Value).ownBlock)) _ _ t390 t393 (fun k_=>(some k_≠(v348:Value).ownBlock∧some k_≠(.slice Ao96 t390.length co96:Value).ownBlock)) _ _ t394 t397 (fun k_=>(some k_≠(v348:Value).ownBlock∧some k_≠(.slice Ao96 t390.length co96:Value).ownBlock)) _ _ t398 t401 (fun k_=>(some k_≠(v348:Value).ownBlock∧some k_≠(.slice Ao96 t390.length co96:Value).ownBlock)) _ _ t402 t405 t406 t409 t410 t413 t414 t417 _ ?side1 ?side2 ?side3 ?side4 A82.out).mono ?_);(case side1=>exact Kd.N_V (HO392.out));(case side2=>exact HO396.out);(case side3=>exact HO400.out);(case side4=>exact HO404.out);rintro e w100 ⟨v407,v411,v415,v418,rfl,ho0,ho1,ho2,ho3,hb⟩;refine ⟨_,rfl,?_⟩;have n0_:=Aside0.mk (Kd.N_elder' (by (with_reducible repeat (first|apply nA_|apply nN_|apply nD_));exact HO_9.out) (Kd.N_base ho3) hb);have n1_:=Aside0.mk (Kd.V_elder' (by (with_reducible repeat (first|apply vA_|apply vN_|apply vD_));exact HO_10.out) (Kd.N_base ho3) hb);have n2_:=Aside0.mk (Kd.V_elder' (by (with_reducible repeat (first|apply vA_|apply vN_|apply vD_));exact HO_11.out) (Kd.N_base ho3) hb);have n3_:=Aside0.mk (Kd.V_elder' (by (with_reducible repeat (first|apply vA_|apply vN_|apply vD_));exact HO_12.out) (Kd.N_base ho3) hb);have n4_:=Aside0.mk (Kd.R_below (by (with_reducible repeat (first|apply rA_|apply rN_|apply rD_));exact HO_13.out) hb);have n5_:=Aside0.mk (Kd.N_elder' (by (with_reducible repeat (first|apply nA_|apply nN_|apply nD_));exact HO392.out) (Kd.N_base ho3) hb);have n6_:=Aside0.mk (Kd.V_elder' (by (with_reducible repeat (first|apply vA_|apply vN_|apply vD_));exact HO396.out) (Kd.N_base ho3) hb);have n7_:=Aside0.mk (Kd.V_elder' (by (with_reducible repeat (first|apply vA_|apply vN_|apply vD_));exact HO400.out) (Kd.N_base ho3) hb);have n8_:=Aside0.mk (Kd.V_elder' (by (with_reducible repeat (first|apply vA_|apply vN_|apply vD_));exact HO404.out) (Kd.N_base ho3) hb);have n9_:=Aside0.mk (Kd.V_lower (Kd.V_mono (ok':=fun k_=>some k_≠(v418:Value).ownBlock∧some k_≠(v348:Value).ownBlock) ho0 (fun k_ hk_=>⟨hk_.2,Or.elim hk_.1 (fun hs_=>Or.elim hs_ (fun hs_=>hs_.2) (fun hs_=>Or.elim hs_ (fun hs_=>hs_.1) (fun hs_=>Or.elim hs_ (fun hs_=>hs_.1) (fun hs_=>hs_.1)))) (fun hn_=>(Kd.fresh' (Kd.R_lt (by (with_reducible repeat (first|apply rA_|apply rN_|apply rD_));exact HO_13.out)) k_ hn_))⟩)) (below_size (by repeat (first|(with_reducible first|exact HB.out|apply bA_|apply bN_|apply bD_)|exact HB.out))));have n10_:=Aside0.mk (Kd.V_lower (Kd.V_mono (ok':=fun k_=>some k_≠(v418:Value).ownBlock∧some k_≠(v348:Value).ownBlock) ho1 (fun k_ hk_=>⟨hk_.2,Or.elim hk_.1 (fun hs_=>Or.elim hs_ (fun hs_=>hs_.2) (fun hs_=>Or.elim hs_ (fun hs_=>hs_.1) (fun hs_=>Or.elim hs_ (fun hs_=>hs_.1) (fun hs_=>hs_.1)))) (fun hn_=>(Kd.fresh' (Kd.R_lt (by (with_reducible repeat (first|apply rA_|apply rN_|apply rD_));exact HO_13.out)) k_ hn_))⟩)) (below_size (by repeat (first|(with_reducible first|exact HB.out|apply bA_|apply bN_|apply bD_)|exact HB.out))));have n11_:=Aside0.mk (Kd.V_lower (Kd.V_mono (ok':=fun k_=>some k_≠(v418:Value).ownBlock∧some k_≠(v348:Value).ownBlock) ho2 (fun k_ hk_=>⟨hk_.2,Or.elim hk_.1 (fun hs_=>Or.elim hs_ (fun hs_=>hs_.2) (fun hs_=>Or.elim hs_ (fun hs_=>hs_.1) (fun hs_=>Or.elim hs_ (fun hs_=>hs_.1) (fun hs_=>hs_.1)))) (fun hn_=>(Kd.fresh' (Kd.R_lt (by (with_reducible repeat (first|apply rA_|apply rN_|apply rD_));exact HO_13.out)) k_ hn_))⟩)) (below_size (by repeat (first|(with_reducible first|exact HB.out|apply bA_|apply bN_|apply bD_)|exact HB.out))));have n12_:=Aside0.mk (Kd.N_lower (Kd.N_mono (ok':=fun k_=>some k_≠(v348:Value).ownBlock) ho3 (fun k_ hk_=>Or.elim hk_ (fun hs_=>Or.elim hs_ (fun hs_=>hs_.2) (fun hs_=>Or.elim hs_ (fun hs_=>hs_.1) (fun hs_=>Or.elim hs_ (fun hs_=>hs_.1) (fun hs_=>hs_.1)))) (fun hn_=>(Kd.fresh' (Kd.R_lt (by (with_reducible repeat (first|apply rA_|apply rN_|apply rD_));exact HO_13.out)) k_ hn_)))) (below_size (by repeat (first|(with_reducible first|exact HB.out|apply bA_|apply bN_|apply bD_)|exact HB.out))));have n13_:=Aside0.mk (below_step (by repeat (first|(with_reducible first|exact HB.out|apply bA_|apply bN_|apply bD_)|exact HB.out)) hb);clear HO_9;clear HO_10;clear HO_11;clear HO_12;clear HO_13;clear HO392;clear HO396;clear HO400;clear HO404;clear HB;have HO_9:=n0_;have HO_10:=n1_;have HO_11:=n2_;have HO_12:=n3_;have HO_13:=n4_;have HO392:=n5_;have HO396:=n6_;have HO400:=n7_;have HO404:=n8_;have HO408:=n9_;have HO412:=n10_;have HO416:=n11_;have HO419:=n12_;have HB:=n13_;clear n0_ n1_ n2_ n3_ n4_ n5_ n6_ n7_ n8_ n9_ n10_ n11_ n12_ n13_;(try clear hb);(try clear hb2);(try clear hk);(try clear hi);(try clear ho0);(try clear ho1);(try clear ho2);(try clear ho3))|((with_reducible refine gate_dst (N:=17) rfl ?_);refine box_event ?hg (N:=17) ?hd (cs:=#[.bool false,.slice none 0 0]) (t:=26) ?hr ?_;(case hd=>rfl);(case hg=>rfl);(case hr=>first|(go_simp;done)|(go_simp;rfl));intro gb420 hg w101 hbox hb;have n0_:=Aside0.mk (Kd.N_below (Kd.N_elderB (by (with_reducible repeat (first|apply nA_|apply nN_|apply nD_));exact HO_9.out) gb420 (Nat.le_of_eq hg.symm)) hb);have n1_:=Aside0.mk (Kd.V_below (Kd.V_elderB (by (with_reducible repeat (first|apply vA_|apply vN_|apply vD_));exact HO_10.out) gb420 (Nat.le_of_eq hg.symm)) hb);have n2_:=Aside0.mk (Kd.V_below (Kd.V_elderB (by (with_reducible repeat (first|apply vA_|apply vN_|apply vD_));exact HO_11.out) gb420 (Nat.le_of_eq hg.symm)) hb);have n3_:=Aside0.mk (Kd.V_below (Kd.V_elderB (by (with_reducible repeat (first|apply vA_|apply vN_|apply vD_));exact HO_12.out) gb420 (Nat.le_of_eq hg.symm)) hb);have n4_:=Aside0.mk (Kd.R_below (by (with_reducible repeat (first|apply rA_|apply rN_|apply rD_));exact HO_13.out) hb);have n5_:=Aside0.mk (Kd.N_below (Kd.N_elderB (by (with_reducible repeat (first|apply nA_|apply nN_|apply nD_));exact HO392.out) gb420 (Nat.le_of_eq hg.symm)) hb);have n6_:=Aside0.mk (Kd.V_below (Kd.V_elderB (by (with_reducible repeat (first|apply vA_|apply vN_|apply vD_));exact HO396.out) gb420 (Nat.le_of_eq hg.symm)) hb);have n7_:=Aside0.mk (Kd.V_below (Kd.V_elderB (by (with_reducible repeat (first|apply vA_|apply vN_|apply vD_));exact HO400.out) gb420 (Nat.le_of_eq hg.symm)) hb);have n8_:=Aside0.mk (Kd.V_below (Kd.V_elderB (by (with_reducible repeat (first|apply vA_|apply vN_|apply vD_));exact HO404.out) gb420 (Nat.le_of_eq hg.symm)) hb);have n9_:=Aside0.mk (Kd.V_below (Kd.V_elderB (by (with_reducible repeat (first|apply vA_|apply vN_|apply vD_));exact HO408.out) gb420 (Nat.le_of_eq hg.symm)) hb);have n10_:=Aside0.mk (Kd.V_below (Kd.V_elderB (by (with_reducible repeat (first|apply vA_|apply vN_|apply vD_));exact HO412.out) gb420 (Nat.le_of_eq hg.symm)) hb);have n11_:=Aside0.mk (Kd.V_below (Kd.V_elderB (by (with_reducible repeat (first|apply vA_|apply vN_|apply vD_));exact HO416.out) gb420 (Nat.le_of_eq hg.symm)) hb);have n12_:=Aside0.mk (Kd.N_below (Kd.N_elderB (by (with_reducible repeat (first|apply nA_|apply nN_|apply nD_));exact HO419.out) gb420 (Nat.le_of_eq hg.symm)) hb);have n13_:=Aside0.mk (below_step (by repeat (first|(with_reducible first|exact HB.out|apply bA_|apply bN_|apply bD_)|exact HB.out)) hb);have n14_:=Aside0.mk (hbox);have n15_:=Aside0.mk ((by rw [hg];exact (below_size (by repeat (first|(with_reducible first|exact HB.out|apply bA_|apply bN_|apply bD_)|exact HB.out))):w.heap.size≤gb420));have n16_:=Aside0.mk ((by rw [hg];exact (below_size (by repeat (first|(with_reducible first|exact HB.out|apply bA_|apply bN_|apply bD_)|exact HB.out))):w.heap.size≤gb420));clear HO_9;clear HO_10;clear HO_11;clear HO_12;clear HO_13;clear HO392;clear HO396;clear HO400;clear HO404;clear HO408;clear HO412;clear HO416;clear HO419;clear HB;have HO_9:=n0_;have HO_10:=n1_;have HO_11:=n2_;have HO_12:=n3_;have HO_13:=n4_;have HO392:=n5_;have HO396:=n6_;have HO400:=n7_;have HO404:=n8_;have HO408:=n9_;have HO412:=n10_;have HO416:=n11_;have HO419:=n12_;have HB:=n13_;have BK420:=n14_;have GW420:=n15_;have GE420:=n16_;clear n0_ n1_ n2_ n3_ n4_ n5_ n6_ n7_ n8_ n9_ n10_ n11_ n12_ n13_ n14_ n15_ n16_;clear hb hbox hg)|((with_reducible refine gate_dst (N:=18) rfl ?_);refine box_event ?hg (N:=18) ?hd (cs:=#[.bool false,.slice none 0 0]) (t:=26) ?hr ?_;(case hd=>rfl);(case hg=>rfl);(case hr=>first|(go_simp;done)|(go_simp;rfl));intro gb421 hg w102 hbox hb;have n0_:=Aside0.mk (Kd.N_below (Kd.N_elderB (by (with_reducible repeat (first|apply nA_|apply nN_|apply nD_));exact HO_9.out) gb421 (Nat.le_of_eq hg.symm)) hb);have n1_:=Aside0.mk (Kd.V_below (Kd.V_elderB (by (with_reducible repeat (first|apply vA_|apply vN_|apply vD_));exact HO_10.out) gb421 (Nat.le_of_eq hg.symm)) hb);have n2_:=Aside0.mk (Kd.V_below (Kd.V_elderB (by (with_reducible repeat (first|apply vA_|apply vN_|apply vD_));exact HO_11.out) gb421 (Nat.le_of_eq hg.symm)) hb);have n3_:=Aside0.mk (Kd.V_below (Kd.V_elderB (by (with_reducible repeat (first|apply vA_|apply vN_|apply vD_));exact HO_12.out) gb421 (Nat.le_of_eq hg.symm)) hb);have n4_:=Aside0.mk (Kd.R_below (by (with_reducible repeat (first|apply rA_|apply rN_|apply rD_));exact HO_13.out) hb);have n5_:=Aside0.mk (Kd.N_below (Kd.N_elderB (by (with_reducible repeat (first|apply nA_|apply nN_|apply nD_));exact HO392.out) gb421 (Nat.le_of_eq hg.symm)) hb);have n6_:=Aside0.mk (Kd.V_below (Kd.V_elderB (by (with_reducible repeat (first|apply vA_|apply vN_|apply vD_));exact HO396.out) gb421 (Nat.le_of_eq hg.symm)) hb);have n7_:=Aside0.mk (Kd.V_below (Kd.V_elderB (by (with_reducible repeat (first|apply vA_|apply vN_|apply vD_));exact HO400.out) gb421 (Nat.le_of_eq hg.symm)) hb);have n8_:=Aside0.mk (Kd.V_below (Kd.V_elderB (by (with_reducible repeat (first|apply vA_|apply vN_|apply vD_));exact HO404.out) gb421 (Nat.le_of_eq hg.symm)) hb);have n9_:=Aside0.mk (Kd.V_below (Kd.V_elderB (by (with_reducible repeat (first|apply vA_|apply vN_|apply vD_));exact HO408.out) gb421 (Nat.le_of_eq hg.symm)) hb);have n10_:=Aside0.mk (Kd.V_below (Kd.V_elderB (by (with_reducible repeat (first|apply vA_|apply vN_|apply vD_));exact HO412.out) gb421 (Nat.le_of_eq hg.symm)) hb);have n11_:=Aside0.mk (Kd.V_below (Kd.V_elderB (by (with_reducible repeat (first|apply vA_|apply vN_|apply vD_));exact HO416.out) gb421 (Nat.le_of_eq hg.symm)) hb);have n12_:=Aside0.mk (Kd.N_below (Kd.N_elderB (by (with_reducible repeat (first|apply nA_|apply nN_|apply nD_));exact HO419.out) gb421 (Nat.le_of_eq hg.symm)) hb);have n13_:=Aside0.mk (blk_below (g:=gb420) (o:=.cells #[.bool false,.slice none 0 0] 26 (0,0)) (by (with_reducible repeat (first|refine blk_drewN ?_ _|refine blk_drew ?_|refine blk_alloc ?_ _));exact BK420.out) hb);have n14_:=Aside0.mk (below_step (by repeat (first|(with_reducible first|exact HB.out|apply bA_|apply bN_|apply bD_|refine below_set ?_ GE420.out)|exact HB.out)) hb);have n15_:=Aside0.mk (hbox);have n16_:=Aside0.mk ((by rw [hg];exact (below_size (by repeat (first|(with_reducible first|exact HB.out|apply bA_|apply bN_|apply bD_|refine below_set ?_ GE420.out)|exact HB.out))):w.heap.size≤gb421));have n17_:=Aside0.mk ((by rw [hg];exact (below_size (by repeat (first|(with_reducible first|exact HB.out|apply bA_|apply bN_|apply bD_|refine below_set ?_ GE420.out)|exact HB.out))):w.heap.size≤gb421));have n18_:=Aside0.mk ((by rw [hg];exact Nat.ne_of_lt (blk_lt (g:=gb420) (o:=.cells #[.bool false,.slice none 0 0] 26 (0,0)) (by (with_reducible repeat (first|refine blk_drewN ?_ _|refine blk_drew ?_|refine blk_alloc ?_ _));exact BK420.out)):gb420≠gb421));have n19_:=Aside0.mk ((by rw [hg];exact Nat.ne_of_gt (blk_lt (g:=gb420) (o:=.cells #[.bool false,.slice none 0 0] 26 (0,0)) (by (with_reducible repeat (first|refine blk_drewN ?_ _|refine blk_drew ?_|refine blk_alloc ?_ _));exact BK420.out)):gb421≠gb420));clear HO_9;clear HO_10;clear HO_11;clear HO_12;clear HO_13;clear HO392;clear HO396;clear HO400;clear HO404;clear HO408;clear HO412;clear HO416;clear HO419;clear BK420;clear HB;have HO_9:=n0_;have HO_10:=n1_;have HO_11:=n2_;have HO_12:=n3_;have HO_13:=n4_;have HO392:=n5_;have HO396:=n6_;have HO400:=n7_;have HO404:=n8_;have HO408:=n9_;have HO412:=n10_;have HO416:=n11_;have HO419:=n12_;have BK420:=n13_;have HB:=n14_;have BK421:=n15_;have GW421:=n16_;have GE421:=n17_;have NB420_421:=n18_;have NB421_420:=n19_;clear n0_ n1_ n2_ n3_ n4_ n5_ n6_ n7_ n8_ n9_ n10_ n11_ n12_ n13_ n14_ n15_ n16_ n17_ n18_ n19_;clear hb hbox hg)|((with_reducible refine gate_dst (N:=19) rfl ?_);refine box_event ?hg (N:=19) ?hd (cs:=#[.bool false,.slice none 0 0]) (t:=26) ?hr ?_;(case hd=>rfl);(case hg=>rfl);(case hr=>first|(go_simp;done)|(go_simp;rfl));intro gb422 hg w103 hbox hb;have n0_:=Aside0.mk (Kd.N_below (Kd.N_elderB (by (with_reducible repeat (first|apply nA_|apply nN_|apply nD_));exact HO_9.out) gb422 (Nat.le_of_eq hg.symm)) hb);have n1_:=Aside0.mk (Kd.V_below (Kd.V_elderB (by (with_reducible repeat (first|apply vA_|apply vN_|apply vD_));exact HO_10.out) gb422 (Nat.le_of_eq hg.symm)) hb);have n2_:=Aside0.mk (Kd.V_below (Kd.V_elderB (by (with_reducible repeat (first|apply vA_|apply vN_|apply vD_));exact HO_11.out) gb422 (Nat.le_of_eq hg.symm)) hb);have n3_:=Aside0.mk (Kd.V_below (Kd.V_elderB (by (with_reducible repeat (first|apply vA_|apply vN_|apply vD_));exact HO_12.out) gb422 (Nat.le_of_eq hg.symm)) hb);have n4_:=Aside0.mk (Kd.R_below (by (with_reducible repeat (first|apply rA_|apply rN_|apply rD_));exact HO_13.out) hb);have n5_:=Aside0.mk (Kd.N_below (Kd.N_elderB (by (with_reducible repeat (first|apply nA_|apply nN_|apply nD_));exact HO392.out) gb422 (Nat.le_of_eq hg.symm)) hb);have n6_:=Aside0.mk (Kd.V_below (Kd.V_elderB (by (with_reducible repeat (first|apply vA_|apply vN_|apply vD_));exact HO396.out) gb422 (Nat.le_of_eq hg.symm)) hb);have n7_:=Aside0.mk (Kd.V_below (Kd.V_elderB (by (with_reducible repeat (first|apply vA_|apply vN_|apply vD_));exact HO400.out) gb422 (Nat.le_of_eq hg.symm)) hb);have n8_:=Aside0.mk (Kd.V_below (Kd.V_elderB (by (with_reducible repeat (first|apply vA_|apply vN_|apply vD_));exact HO404.out) gb422 (Nat.le_of_eq hg.symm)) hb);have n9_:=Aside0.mk (Kd.V_below (Kd.V_elderB (by (with_reducible repeat (first|apply vA_|apply vN_|apply vD_));exact HO408.out) gb422 (Nat.le_of_eq hg.symm)) hb);have n10_:=Aside0.mk (Kd.V_below (Kd.V_elderB (by (with_reducible repeat (first|apply vA_|apply vN_|apply vD_));exact HO412.out) gb422 (Nat.le_of_eq hg.symm)) hb);have n11_:=Aside0.mk (Kd.V_below (Kd.V_elderB (by (with_reducible repeat (first|apply vA_|apply vN_|apply vD_));exact HO416.out) gb422 (Nat.le_of_eq hg.symm)) hb);have n12_:=Aside0.mk (Kd.N_below (Kd.N_elderB (by (with_reducible repeat (first|apply nA_|apply nN_|apply nD_));exact HO419.out) gb422 (Nat.le_of_eq hg.symm)) hb);have n13_:=Aside0.mk (blk_below (g:=gb420) (o:=.cells #[.bool false,.slice none 0 0] 26 (0,0)) (by (with_reducible repeat (first|refine blk_drewN ?_ _|refine blk_drew ?_|refine blk_alloc ?_ _));exact BK420.out) hb);have n14_:=Aside0.mk (blk_below (g:=gb421) (o:=.cells #[.bool false,.slice none 0 0] 26 (0,0)) (by (with_reducible repeat (first|refine blk_drewN ?_ _|refine blk_drew ?_|refine blk_alloc ?_ _));exact BK421.out) hb);have n15_:=Aside0.mk (below_step (by repeat (first|(with_reducible first|exact HB.out|apply bA_|apply bN_|apply bD_|refine below_set ?_ GE420.out|refine below_set ?_ GE421.out)|exact HB.out)) hb);have n16_:=Aside0.mk (hbox);have n17_:=Aside0.mk ((by rw [hg];exact (below_size (by repeat (first|(with_reducible first|exact HB.out|apply bA_|apply bN_|apply bD_|refine below_set ?_ GE420.out|refine below_set ?_ GE421.out)|exact HB.out))):w.heap.size≤gb422));have n18_:=Aside0.mk ((by rw [hg];exact (below_size (by repeat (first|(with_reducible first|exact HB.out|apply bA_|apply bN_|apply bD_|refine below_set ?_ GE420.out|refine below_set ?_ GE421.out)|exact HB.out))):w.heap.size≤gb422));have n19_:=Aside0.mk ((by rw [hg];exact Nat.ne_of_lt (blk_lt (g:=gb420) (o:=.cells #[.bool false,.slice none 0 0] 26 (0,0)) (by (with_reducible repeat (first|refine blk_drewN ?_ _|refine blk_drew ?_|refine blk_alloc ?_ _));exact BK420.out)):gb420≠gb422));have n20_:=Aside0.mk ((by rw [hg];exact Nat.ne_of_gt (blk_lt (g:=gb420) (o:=.cells #[.bool false,.slice none 0 0] 26 (0,0)) (by (with_reducible repeat (first|refine blk_drewN ?_ _|refine blk_drew ?_|refine blk_alloc ?_ _));exact BK420.out)):gb422≠gb420));have n21_:=Aside0.mk ((by rw [hg];exact Nat.ne_of_lt (blk_lt (g:=gb421) (o:=.cells #[.bool false,.slice none 0 0] 26 (0,0)) (by (with_reducible repeat (first|refine blk_drewN ?_ _|refine blk_drew ?_|refine blk_alloc ?_ _));exact BK421.out)):gb421≠gb422));have n22_:=Aside0.mk ((by rw [hg];exact Nat.ne_of_gt (blk_lt (g:=gb421) (o:=.cells #[.bool false,.slice none 0 0] 26 (0,0)) (by (with_reducible repeat (first|refine blk_drewN ?_ _|refine blk_drew ?_|refine blk_alloc ?_ _));exact BK421.out)):gb422≠gb421));clear HO_9;clear HO_10;clear HO_11;clear HO_12;clear HO_13;clear HO392;clear HO396;clear HO400;clear HO404;clear HO408;clear HO412;clear HO416;clear HO419;clear BK420;clear BK421;clear HB;have HO_9:=n0_;have HO_10:=n1_;have HO_11:=n2_;have HO_12:=n3_;have HO_13:=n4_;have HO392:=n5_;have HO396:=n6_;have HO400:=n7_;have HO404:=n8_;have HO408:=n9_;have HO412:=n10_;have HO416:=n11_;have HO419:=n12_;have BK420:=n13_;have BK421:=n14_;have HB:=n15_;have BK422:=n16_;have GW422:=n17_;have GE422:=n18_;have NB420_422:=n19_;have NB422_420:=n20_;have NB421_422:=n21_;have NB422_421:=n22_;clear n0_ n1_ n2_ n3_ n4_ n5_ n6_ n7_ n8_ n9_ n10_ n11_ n12_ n13_ n14_ n15_ n16_ n17_ n18_ n19_ n20_ n21_ n22_;clear hb hbox hg;have hnb104:=NB420_421.out;have hnc104:=NB421_420.out;have hnb105:=NB420_422.out;have hnc105:=NB422_420.out;have hcz106_0:w103.cell? ⟨gb420,0,none⟩=some (.bool false):=(blk_cell BK420.out 0).trans rfl;have hcz106_1:w103.cell? ⟨gb420,1,none⟩=some (.slice none 0 0):=(blk_cell BK420.out 1).trans rfl;have hfz106_0:=blk_frozen BK420.out 0;have hfz106_1:=blk_frozen BK420.out 1;obtain ⟨Ao107,co107,eo107⟩:=Kd.V_slice HO408.out;subst eo107;have hnb108:=NB421_422.out;have hnc108:=NB422_421.out;have hcz109_0:w103.cell? ⟨gb421,0,none⟩=some (.bool false):=(blk_cell BK421.out 0).trans rfl;have hcz109_1:w103.cell? ⟨gb421,1,none⟩=some (.slice none 0 0):=(blk_cell BK421.out 1).trans rfl;have hfz109_0:=blk_frozen BK421.out 0;have hfz109_1:=blk_frozen BK421.out 1;obtain ⟨Ao110,co110,eo110⟩:=Kd.V_slice HO412.out;subst eo110;have hcz111_0:w103.cell? ⟨gb422,0,none⟩=some (.bool false):=(blk_cell BK422.out 0).trans rfl;have hcz111_1:w103.cell? ⟨gb422,1,none⟩=some (.slice none 0 0):=(blk_cell BK422.out 1).trans rfl;have hfz111_0:=blk_frozen BK422.out 0;have hfz111_1:=blk_frozen BK422.out 1;obtain ⟨Ao112,co112,eo112⟩:=Kd.V_slice HO416.out;subst eo112;obtain ⟨Ao113,co113,eo113⟩:=Kd.N_slice HO419.out;subst eo113;obtain ⟨Ao114,co114,eo114⟩:=Kd.V_slice HO_12.out;subst eo114)|(go_at_call 19;(with_reducible refine (cadenceref2_Same.calls k2 _ _ t406 _ _ x12_2 true _ ?side1 ?side2 ?side3 ?side4 A84.out).mono ?_);(case side1=>refine (Kd.V_reads' (e:=51) (base:=w.heap.size) (ok:=fun k_=>((((some k_≠(.slice Ao113 t417.length co113:Value).ownBlock∧some k_≠(v348:Value).ownBlock)∧k_≠gb420)∧k_≠gb421)∧k_≠gb422)) (n:=t406.length) (c:=co107) ?_).2.2;exact (by (with_reducible repeat (first|apply vA_|apply vN_|apply vD_));exact (Kd.V_mono (Kd.V_mono (Kd.V_mono (Kd.V_far (p:=⟨gb422,1,none⟩) (Kd.V_far (p:=⟨gb422,0,none⟩) (Kd.V_far (p:=⟨gb421,1,none⟩) (Kd.V_far (p:=⟨gb421,0,none⟩) (Kd.V_far (p:=⟨gb420,1,none⟩) (Kd.V_far (p:=⟨gb420,0,none⟩) (Kd.V_mono (Kd.V_mono (Kd.V_mono HO408.out (fun k_ hk=>(⟨hk,hk.1.1.2⟩:_∧k_≠gb420))) (fun k_ hk=>(⟨hk,hk.1.1.2⟩:_∧k_≠gb421))) (fun k_ hk=>(⟨hk,hk.1.1.2⟩:_∧k_≠gb422))) (fun _ hk=>hk.1.1.2) (.bool t405)) (fun _ hk=>hk.1.1.2) (.slice Ao107 t406.length co107)) (fun _ hk=>hk.1.2) (.bool t409)) (fun _ hk=>hk.1.2) (.slice Ao110 t410.length co110)) (fun _ hk=>hk.2) (.bool t413)) (fun _ hk=>hk.2) (.slice Ao112 t414.length co112)) (fun _ h_=>h_.1)) (fun _ h_=>h_.1)) (fun _ h_=>h_.1))));(case side2=>exact (Kd.V_reads' HO408.out).2.1);(case side3=>refine (Kd.V_reads' (e:=51) (base:=w.heap.size) (ok:=fun k_=>(((((some k_≠(v348:Value).ownBlock∧some k_≠(.slice Ao96 t390.length co96:Value).ownBlock)∧some k_≠(.slice Ao113 t417.length co113:Value).ownBlock)∧k_≠gb420)∧k_≠gb421)∧k_≠gb422)) (n:=x12_2.length) (c:=co114) ?_).2.2;exact (by (with_reducible repeat (first|apply vA_|apply vN_|apply vD_));exact (Kd.V_mono (Kd.V_mono (Kd.V_mono (Kd.V_far (p:=⟨gb422,1,none⟩) (Kd.V_far (p:=⟨gb422,0,none⟩) (Kd.V_far (p:=⟨gb421,1,none⟩) (Kd.V_far (p:=⟨gb421,0,none⟩) (Kd.V_far (p:=⟨gb420,1,none⟩) (Kd.V_far (p:=⟨gb420,0,none⟩) (Kd.V_mono (Kd.V_mono (Kd.V_mono HO_12.out (fun k_ hk=>(⟨hk,hk.1.1.2⟩:_∧k_≠gb420))) (fun k_ hk=>(⟨hk,hk.1.1.2⟩:_∧k_≠gb421))) (fun k_ hk=>(⟨hk,hk.1.1.2⟩:_∧k_≠gb422))) (fun _ hk=>hk.1.1.2) (.bool t405)) (fun _ hk=>hk.1.1.2) (.slice Ao107 t406.length co107)) (fun _ hk=>hk.1.2) (.bool t409)) (fun _ hk=>hk.1.2) (.slice Ao110 t410.length co110)) (fun _ hk=>hk.2) (.bool t413)) (fun _ hk=>hk.2) (.slice Ao112 t414.length co112)) (fun _ h_=>h_.1)) (fun _ h_=>h_.1)) (fun _ h_=>h_.1))));(case side4=>exact (Kd.V_reads' HO_12.out).2.1);rintro e w115 ⟨rfl,hb⟩;have n0_:=Aside0.mk (Kd.N_below (by (with_reducible repeat (first|apply nA_|apply nN_|apply nD_));exact (Kd.N_mono (Kd.N_mono (Kd.N_mono (Kd.N_far (p:=⟨gb422,1,none⟩) (Kd.N_far (p:=⟨gb422,0,none⟩) (Kd.N_far (p:=⟨gb421,1,none⟩) (Kd.N_far (p:=⟨gb421,0,none⟩) (Kd.N_far (p:=⟨gb420,1,none⟩) (Kd.N_far (p:=⟨gb420,0,none⟩) (Kd.N_mono (Kd.N_mono (Kd.N_mono HO_9.out (fun k_ hk=>(⟨hk,hk.1.1.2⟩:_∧k_≠gb420))) (fun k_ hk=>(⟨hk,hk.1.1.2⟩:_∧k_≠gb421))) (fun k_ hk=>(⟨hk,hk.1.1.2⟩:_∧k_≠gb422))) (fun _ hk=>hk.1.1.2) (.bool t405)) (fun _ hk=>hk.1.1.2) (.slice Ao107 t406.length co107)) (fun _ hk=>hk.1.2) (.bool t409)) (fun _ hk=>hk.1.2) (.slice Ao110 t410.length co110)) (fun _ hk=>hk.2) (.bool t413)) (fun _ hk=>hk.2) (.slice Ao112 t414.length co112)) (fun _ h_=>h_.1)) (fun _ h_=>h_.1)) (fun _ h_=>h_.1))) hb);have n1_:=Aside0.mk (Kd.V_below (by (with_reducible repeat (first|apply vA_|apply vN_|apply vD_));exact (Kd.V_mono (Kd.V_mono (Kd.V_mono (Kd.V_far (p:=⟨gb422,1,none⟩) (Kd.V_far (p:=⟨gb422,0,none⟩) (Kd.V_far (p:=⟨gb421,1,none⟩) (Kd.V_far (p:=⟨gb421,0,none⟩) (Kd.V_far (p:=⟨gb420,1,none⟩) (Kd.V_far (p:=⟨gb420,0,none⟩) (Kd.V_mono (Kd.V_mono (Kd.V_mono HO_10.out (fun k_ hk=>(⟨hk,hk.1.1.2⟩:_∧k_≠gb420))) (fun k_ hk=>(⟨hk,hk.1.1.2⟩:_∧k_≠gb421))) (fun k_ hk=>(⟨hk,hk.1.1.2⟩:_∧k_≠gb422))) (fun _ hk=>hk.1.1.2) (.bool t405)) (fun _ hk=>hk.1.1.2) (.slice Ao107 t406.length co107)) (fun _ hk=>hk.1.2) (.bool t409)) (fun _ hk=>hk.1.2) (.slice Ao110 t410.length co110)) (fun _ hk=>hk.2) (.bool t413)) (fun _ hk=>hk.2) (.slice Ao112 t414.length co112)) (fun _ h_=>h_.1)) (fun _ h_=>h_.1)) (fun _ h_=>h_.1))) hb);have n2_:=Aside0.mk (Kd.V_below (by (with_reducible repeat (first|apply vA_|apply vN_|apply vD_));exact (Kd.V_mono (Kd.V_mono (Kd.V_mono (Kd.V_far (p:=⟨gb422,1,none⟩) (Kd.V_far (p:=⟨gb422,0,none⟩) (Kd.V_far (p:=⟨gb421,1,none⟩) (Kd.V_far (p:=⟨gb421,0,none⟩) (Kd.V_far (p:=⟨gb420,1,none⟩) (Kd.V_far (p:=⟨gb420,0,none⟩) (Kd.V_mono (Kd.V_mono (Kd.V_mono HO_11.out (fun k_ hk=>(⟨hk,hk.1.1.2⟩:_∧k_≠gb420))) (fun k_ hk=>(⟨hk,hk.1.1.2⟩:_∧k_≠gb421))) (fun k_ hk=>(⟨hk,hk.1.1.2⟩:_∧k_≠gb422))) (fun _ hk=>hk.1.1.2) (.bool t405)) (fun _ hk=>hk.1.1.2) (.slice Ao107 t406.length co107)) (fun _ hk=>hk.1.2) (.bool t409)) (fun _ hk=>hk.1.2) (.slice Ao110 t410.length co110)) (fun _ hk=>hk.2) (.bool t413)) (fun _ hk=>hk.2) (.slice Ao112 t414.length co112)) (fun _ h_=>h_.1)) (fun _ h_=>h_.1)) (fun _ h_=>h_.1))) hb);have n3_:=Aside0.mk (Kd.V_below (by (with_reducible repeat (first|apply vA_|apply vN_|apply vD_));exact (Kd.V_mono (Kd.V_mono (Kd.V_mono (Kd.V_far (p:=⟨gb422,1,none⟩) (Kd.V_far (p:=⟨gb422,0,none⟩) (Kd.V_far (p:=⟨gb421,1,none⟩) (Kd.V_far (p:=⟨gb421,0,none⟩) (Kd.V_far (p:=⟨gb420,1,none⟩) (Kd.V_far (p:=⟨gb420,0,none⟩) (Kd.V_mono (Kd.V_mono (Kd.V_mono HO_12.out (fun k_ hk=>(⟨hk,hk.1.1.2⟩:_∧k_≠gb420))) (fun k_ hk=>(⟨hk,hk.1.1.2⟩:_∧k_≠gb421))) (fun k_ hk=>(⟨hk,hk.1.1.2⟩:_∧k_≠gb422))) (fun _ hk=>hk.1.1.2) (.bool t405)) (fun _ hk=>hk.1.1.2) (.slice Ao107 t406.length co107)) (fun _ hk=>hk.1.2) (.bool t409)) (fun _ hk=>hk.1.2) (.slice Ao110 t410.length co110)) (fun _ hk=>hk.2) (.bool t413)) (fun _ hk=>hk.2) (.slice Ao112 t414.length co112)) (fun _ h_=>h_.1)) (fun _ h_=>h_.1)) (fun _ h_=>h_.1))) hb);have n4_:=Aside0.mk (Kd.R_below (by (with_reducible repeat (first|apply rA_|apply rN_|apply rD_));exact (Kd.R_mono (Kd.R_mono (Kd.R_mono (Kd.R_far (p:=⟨gb422,1,none⟩) (Kd.R_far (p:=⟨gb422,0,none⟩) (Kd.R_far (p:=⟨gb421,1,none⟩) (Kd.R_far (p:=⟨gb421,0,none⟩) (Kd.R_far (p:=⟨gb420,1,none⟩) (Kd.R_far (p:=⟨gb420,0,none⟩) (Kd.R_types (Kd.R_types (Kd.R_types HO_13.out BK420.out (by decide)) BK421.out (by decide)) BK422.out (by decide)) (fun _ hk=>hk.1.1.2) (.bool t405)) (fun _ hk=>hk.1.1.2) (.slice Ao107 t406.length co107)) (fun _ hk=>hk.1.2) (.bool t409)) (fun _ hk=>hk.1.2) (.slice Ao110 t410.length co110)) (fun _ hk=>hk.2) (.bool t413)) (fun _ hk=>hk.2) (.slice Ao112 t414.length co112)) (fun _ h_=>h_.1)) (fun _ h_=>h_.1)) (fun _ h_=>h_.1))) hb);have n5_:=Aside0.mk (Kd.N_below (by (with_reducible repeat (first|apply nA_|apply nN_|apply nD_));exact (Kd.N_mono (Kd.N_mono (Kd.N_mono (Kd.N_far (p:=⟨gb422,1,none⟩) (Kd.N_far (p:=⟨gb422,0,none⟩) (Kd.N_far (p:=⟨gb421,1,none⟩) (Kd.N_far (p:=⟨gb421,0,none⟩) (Kd.N_far (p:=⟨gb420,1,none⟩) (Kd.N_far (p:=⟨gb420,0,none⟩) (Kd.N_mono (Kd.N_mono (Kd.N_mono HO392.out (fun k_ hk=>(⟨hk,hk.1.1.2⟩:_∧k_≠gb420))) (fun k_ hk=>(⟨hk,hk.1.1.2⟩:_∧k_≠gb421))) (fun k_ hk=>(⟨hk,hk.1.1.2⟩:_∧k_≠gb422))) (fun _ hk=>hk.1.1.2) (.bool t405)) (fun _ hk=>hk.1.1.2) (.slice Ao107 t406.length co107)) (fun _ hk=>hk.1.2) (.bool t409)) (fun _ hk=>hk.1.2) (.slice Ao110 t410.length co110)) (fun _ hk=>hk.2) (.bool t413)) (fun _ hk=>hk.2) (.slice Ao112 t414.length co112)) (fun _ h_=>h_.1)) (fun _ h_=>h_.1)) (fun _ h_=>h_.1))) hb);have n6_:=Aside0.mk (Kd.V_below (by (with_reducible repeat (first|apply vA_|apply vN_|apply vD_));exact (Kd.V_mono (Kd.V_mono (Kd.V_mono (Kd.V_far (p:=⟨gb422,1,none⟩) (Kd.V_far (p:=⟨gb422,0,none⟩) (Kd.V_far (p:=⟨gb421,1,none⟩) (Kd.V_far (p:=⟨gb421,0,none⟩) (Kd.V_far (p:=⟨gb420,1,none⟩) (Kd.V_far (p:=⟨gb420,0,none⟩) (Kd.V_mono (Kd.V_mono (Kd.V_mono HO396.out (fun k_ hk=>(⟨hk,hk.1.1.2⟩:_∧k_≠gb420))) (fun k_ hk=>(⟨hk,hk.1.1.2⟩:_∧k_≠gb421))) (fun k_ hk=>(⟨hk,hk.1.1.2⟩:_∧k_≠gb422))) (fun _ hk=>hk.1.1.2) (.bool t405)) (fun _ hk=>hk.1.1.2) (.slice Ao107 t406.length co107)) (fun _ hk=>hk.1.2) (.bool t409)) (fun _ hk=>hk.1.2) (.slice Ao110 t410.length co110)) (fun _ hk=>hk.2) (.bool t413)) (fun _ hk=>hk.2) (.slice Ao112 t414.length co112)) (fun _ h_=>h_.1)) (fun _ h_=>h_.1)) (fun _ h_=>h_.1))) hb);have n7_:=Aside0.mk (Kd.V_below (by (with_reducible repeat (first|apply vA_|apply vN_|apply vD_));exact (Kd.V_mono (Kd.V_mono (Kd.V_mono (Kd.V_far (p:=⟨gb422,1,none⟩) (Kd.V_far (p:=⟨gb422,0,none⟩) (Kd.V_far (p:=⟨gb421,1,none⟩) (Kd.V_far (p:=⟨gb421,0,none⟩) (Kd.V_far (p:=⟨gb420,1,none⟩) (Kd.V_far (p:=⟨gb420,0,none⟩) (Kd.V_mono (Kd.V_mono (Kd.V_mono HO400.out (fun k_ hk=>(⟨hk,hk.1.1.2⟩:_∧k_≠gb420))) (fun k_ hk=>(⟨hk,hk.1.1.2⟩:_∧k_≠gb421))) (fun k_ hk=>(⟨hk,hk.1.1.2⟩:_∧k_≠gb422))) (fun _ hk=>hk.1.1.2) (.bool t405)) (fun _ hk=>hk.1.1.2) (.slice Ao107 t406.length co107)) (fun _ hk=>hk.1.2) (.bool t409)) (fun _ hk=>hk.1.2) (.slice Ao110 t410.length co110)) (fun _ hk=>hk.2) (.bool t413)) (fun _ hk=>hk.2) (.slice Ao112 t414.length co112)) (fun _ h_=>h_.1)) (fun _ h_=>h_.1)) (fun _ h_=>h_.1))) hb);have n8_:=Aside0.mk (Kd.V_below (by (with_reducible repeat (first|apply vA_|apply vN_|apply vD_));exact (Kd.V_mono (Kd.V_mono (Kd.V_mono (Kd.V_far (p:=⟨gb422,1,none⟩) (Kd.V_far (p:=⟨gb422,0,none⟩) (Kd.V_far (p:=⟨gb421,1,none⟩) (Kd.V_far (p:=⟨gb421,0,none⟩) (Kd.V_far (p:=⟨gb420,1,none⟩) (Kd.V_far (p:=⟨gb420,0,none⟩) (Kd.V_mono (Kd.V_mono (Kd.V_mono HO404.out (fun k_ hk=>(⟨hk,hk.1.1.2⟩:_∧k_≠gb420))) (fun k_ hk=>(⟨hk,hk.1.1.2⟩:_∧k_≠gb421))) (fun k_ hk=>(⟨hk,hk.1.1.2⟩:_∧k_≠gb422))) (fun _ hk=>hk.1.1.2) (.bool t405)) (fun _ hk=>hk.1.1.2) (.slice Ao107 t406.length co107)) (fun _ hk=>hk.1.2) (.bool t409)) (fun _ hk=>hk.1.2) (.slice Ao110 t410.length co110)) (fun _ hk=>hk.2) (.bool t413)) (fun _ hk=>hk.2) (.slice Ao112 t414.length co112)) (fun _ h_=>h_.1)) (fun _ h_=>h_.1)) (fun _ h_=>h_.1))) hb);have n9_:=Aside0.mk (Kd.V_below (by (with_reducible repeat (first|apply vA_|apply vN_|apply vD_));exact (Kd.V_mono (Kd.V_mono (Kd.V_mono (Kd.V_far (p:=⟨gb422,1,none⟩) (Kd.V_far (p:=⟨gb422,0,none⟩) (Kd.V_far (p:=⟨gb421,1,none⟩) (Kd.V_far (p:=⟨gb421,0,none⟩) (Kd.V_far (p:=⟨gb420,1,none⟩) (Kd.V_far (p:=⟨gb420,0,none⟩) (Kd.V_mono (Kd.V_mono (Kd.V_mono HO408.out (fun k_ hk=>(⟨hk,hk.1.1.2⟩:_∧k_≠gb420))) (fun k_ hk=>(⟨hk,hk.1.1.2⟩:_∧k_≠gb421))) (fun k_ hk=>(⟨hk,hk.1.1.2⟩:_∧k_≠gb422))) (fun _ hk=>hk.1.1.2) (.bool t405)) (fun _ hk=>hk.1.1.2) (.slice Ao107 t406.length co107)) (fun _ hk=>hk.1.2) (.bool t409)) (fun _ hk=>hk.1.2) (.slice Ao110 t410.length co110)) (fun _ hk=>hk.2) (.bool t413)) (fun _ hk=>hk.2) (.slice Ao112 t414.length co112)) (fun _ h_=>h_.1)) (fun _ h_=>h_.1)) (fun _ h_=>h_.1))) hb);have n10_:=Aside0.mk (Kd.V_below (by (with_reducible repeat (first|apply vA_|apply vN_|apply vD_));exact (Kd.V_mono (Kd.V_mono (Kd.V_mono (Kd.V_far (p:=⟨gb422,1,none⟩) (Kd.V_far (p:=⟨gb422,0,none⟩) (Kd.V_far (p:=⟨gb421,1,none⟩) (Kd.V_far (p:=⟨gb421,0,none⟩) (Kd.V_far (p:=⟨gb420,1,none⟩) (Kd.V_far (p:=⟨gb420,0,none⟩) (Kd.V_mono (Kd.V_mono (Kd.V_mono HO412.out (fun k_ hk=>(⟨hk,hk.1.1.2⟩:_∧k_≠gb420))) (fun k_ hk=>(⟨hk,hk.1.1.2⟩:_∧k_≠gb421))) (fun k_ hk=>(⟨hk,hk.1.1.2⟩:_∧k_≠gb422))) (fun _ hk=>hk.1.1.2) (.bool t405)) (fun _ hk=>hk.1.1.2) (.slice Ao107 t406.length co107)) (fun _ hk=>hk.1.2) (.bool t409)) (fun _ hk=>hk.1.2) (.slice Ao110 t410.length co110)) (fun _ hk=>hk.2) (.bool t413)) (fun _ hk=>hk.2) (.slice Ao112 t414.length co112)) (fun _ h_=>h_.1)) (fun _ h_=>h_.1)) (fun _ h_=>h_.1))) hb);have n11_:=Aside0.mk (Kd.V_below (by (with_reducible repeat (first|apply vA_|apply vN_|apply vD_));exact (Kd.V_mono (Kd.V_mono (Kd.V_mono (Kd.V_far (p:=⟨gb422,1,none⟩) (Kd.V_far (p:=⟨gb422,0,none⟩) (Kd.V_far (p:=⟨gb421,1,none⟩) (Kd.V_far (p:=⟨gb421,0,none⟩) (Kd.V_far (p:=⟨gb420,1,none⟩) (Kd.V_far (p:=⟨gb420,0,none⟩) (Kd.V_mono (Kd.V_mono (Kd.V_mono HO416.out (fun k_ hk=>(⟨hk,hk.1.1.2⟩:_∧k_≠gb420))) (fun k_ hk=>(⟨hk,hk.1.1.2⟩:_∧k_≠gb421))) (fun k_ hk=>(⟨hk,hk.1.1.2⟩:_∧k_≠gb422))) (fun _ hk=>hk.1.1.2) (.bool t405)) (fun _ hk=>hk.1.1.2) (.slice Ao107 t406.length co107)) (fun _ hk=>hk.1.2) (.bool t409)) (fun _ hk=>hk.1.2) (.slice Ao110 t410.length co110)) (fun _ hk=>hk.2) (.bool t413)) (fun _ hk=>hk.2) (.slice Ao112 t414.length co112)) (fun _ h_=>h_.1)) (fun _ h_=>h_.1)) (fun _ h_=>h_.1))) hb);have n12_:=Aside0.mk (Kd.N_below (by (with_reducible repeat (first|apply nA_|apply nN_|apply nD_));exact (Kd.N_mono (Kd.N_mono (Kd.N_mono (Kd.N_far (p:=⟨gb422,1,none⟩) (Kd.N_far (p:=⟨gb422,0,none⟩) (Kd.N_far (p:=⟨gb421,1,none⟩) (Kd.N_far (p:=⟨gb421,0,none⟩) (Kd.N_far (p:=⟨gb420,1,none⟩) (Kd.N_far (p:=⟨gb420,0,none⟩) (Kd.N_mono (Kd.N_mono (Kd.N_mono HO419.out (fun k_ hk=>(⟨hk,hk.1.1.2⟩:_∧k_≠gb420))) (fun k_ hk=>(⟨hk,hk.1.1.2⟩:_∧k_≠gb421))) (fun k_ hk=>(⟨hk,hk.1.1.2⟩:_∧k_≠gb422))) (fun _ hk=>hk.1.1.2) (.bool t405)) (fun _ hk=>hk.1.1.2) (.slice Ao107 t406.length co107)) (fun _ hk=>hk.1.2) (.bool t409)) (fun _ hk=>hk.1.2) (.slice Ao110 t410.length co110)) (fun _ hk=>hk.2) (.bool t413)) (fun _ hk=>hk.2) (.slice Ao112 t414.length co112)) (fun _ h_=>h_.1)) (fun _ h_=>h_.1)) (fun _ h_=>h_.1))) hb);have n13_:=Aside0.mk (blk_below (g:=gb420) (o:=.cells #[.bool t405,.slice Ao107 t406.length co107] 26 (0,0)) (by (with_reducible repeat (first|refine blk_drewN ?_ _|refine blk_drew ?_|refine blk_alloc ?_ _));refine blk_far ?_ NB420_422.out _;(with_reducible repeat (first|refine blk_drewN ?_ _|refine blk_drew ?_|refine blk_alloc ?_ _));refine blk_far ?_ NB420_422.out _;(with_reducible repeat (first|refine blk_drewN ?_ _|refine blk_drew ?_|refine blk_alloc ?_ _));refine blk_far ?_ NB420_421.out _;(with_reducible repeat (first|refine blk_drewN ?_ _|refine blk_drew ?_|refine blk_alloc ?_ _));refine blk_far ?_ NB420_421.out _;(with_reducible repeat (first|refine blk_drewN ?_ _|refine blk_drew ?_|refine blk_alloc ?_ _));refine blk_put (cs:=#[.bool t405,.slice none 0 0]) ?_ 1 _ rfl;(with_reducible repeat (first|refine blk_drewN ?_ _|refine blk_drew ?_|refine blk_alloc ?_ _));refine blk_put (cs:=#[.bool false,.slice none 0 0]) ?_ 0 _ rfl;(with_reducible repeat (first|refine blk_drewN ?_ _|refine blk_drew ?_|refine blk_alloc ?_ _));exact BK420.out) hb);have n14_:=Aside0.mk (blk_below (g:=gb421) (o:=.cells #[.bool t409,.slice Ao110 t410.length co110] 26 (0,0)) (by (with_reducible repeat (first|refine blk_drewN ?_ _|refine blk_drew ?_|refine blk_alloc ?_ _));refine blk_far ?_ NB421_422.out _;(with_reducible repeat (first|refine blk_drewN ?_ _|refine blk_drew ?_|refine blk_alloc ?_ _));refine blk_far ?_ NB421_422.out _;(with_reducible repeat (first|refine blk_drewN ?_ _|refine blk_drew ?_|refine blk_alloc ?_ _));refine blk_put (cs:=#[.bool t409,.slice none 0 0]) ?_ 1 _ rfl;(with_reducible repeat (first|refine blk_drewN ?_ _|refine blk_drew ?_|refine blk_alloc ?_ _));refine blk_put (cs:=#[.bool false,.slice none 0 0]) ?_ 0 _ rfl;(with_reducible repeat (first|refine blk_drewN ?_ _|refine blk_drew ?_|refine blk_alloc ?_ _));refine blk_far ?_ NB421_420.out _;(with_reducible repeat (first|refine blk_drewN ?_ _|refine blk_drew ?_|refine blk_alloc ?_ _));refine blk_far ?_ NB421_420.out _;(with_reducible repeat (first|refine blk_drewN ?_ _|refine blk_drew ?_|refine blk_alloc ?_ _));exact BK421.out) hb);have n15_:=Aside0.mk (blk_below (g:=gb422) (o:=.cells #[.bool t413,.slice Ao112 t414.length co112] 26 (0,0)) (by (with_reducible repeat (first|refine blk_drewN ?_ _|refine blk_drew ?_|refine blk_alloc ?_ _));refine blk_put (cs:=#[.bool t413,.slice none 0 0]) ?_ 1 _ rfl;(with_reducible repeat (first|refine blk_drewN ?_ _|refine blk_drew ?_|refine blk_alloc ?_ _));refine blk_put (cs:=#[.bool false,.slice none 0 0]) ?_ 0 _ rfl;(with_reducible repeat (first|refine blk_drewN ?_ _|refine blk_drew ?_|refine blk_alloc ?_ _));refine blk_far ?_ NB422_421.out _;(with_reducible repeat (first|refine blk_drewN ?_ _|refine blk_drew ?_|refine blk_alloc ?_ _));refine blk_far ?_ NB422_421.out _;(with_reducible repeat (first|refine blk_drewN ?_ _|refine blk_drew ?_|refine blk_alloc ?_ _));refine blk_far ?_ NB422_420.out _;(with_reducible repeat (first|refine blk_drewN ?_ _|refine blk_drew ?_|refine blk_alloc ?_ _));refine blk_far ?_ NB422_420.out _;(with_reducible repeat (first|refine blk_drewN ?_ _|refine blk_drew ?_|refine blk_alloc ?_ _));exact BK422.out) hb);have n16_:=Aside0.mk (below_step (by repeat (first|(with_reducible first|exact HB.out|apply bA_|apply bN_|apply bD_|refine below_set ?_ GE420.out|refine below_set ?_ GE421.out|refine below_set ?_ GE422.out)|exact HB.out)) hb);clear HO_9;clear HO_10;clear HO_11;clear HO_12;clear HO_13;clear HO392;clear HO396;clear HO400;clear HO404;clear HO408;clear HO412;clear HO416;clear HO419;clear BK420;clear BK421;clear BK422;clear HB;have HO_9:=n0_;have HO_10:=n1_;have HO_11:=n2_;have HO_12:=n3_;have HO_13:=n4_;have HO392:=n5_;have HO396:=n6_;have HO400:=n7_;have HO404:=n8_;have HO408:=n9_;have HO412:=n10_;have HO416:=n11_;have HO419:=n12_;have BK420:=n13_;have BK421:=n14_;have BK422:=n15_;have HB:=n16_;clear n0_ n1_ n2_ n3_ n4_ n5_ n6_ n7_ n8_ n9_ n10_ n11_ n12_ n13_ n14_ n15_ n16_;(try clear hb);(try clear hb2);(try clear hk);(try clear hi);have hcz116_0:w115.cell? ⟨gb421,0,none⟩=some (.bool t409):=(blk_cell BK421.out 0).trans rfl;have hcz116_1:w115.cell? ⟨gb421,1,none⟩=some (.slice Ao110 t410.length co110):=(blk_cell BK421.out 1).trans rfl;have hfz116_0:=blk_frozen BK421.out 0;have hfz116_1:=blk_frozen BK421.out 1)|(go_at_call 19;(with_reducible refine (cadenceref2_Same.calls k2 _ _ t410 _ _ x12_2 true _ ?side1 ?side2 ?side3 ?side4 A86.out).mono ?_);(case side1=>repeat (first|exact (Kd.V_reads' HO412.out).2.2|(with_reducible refine cA_ ?_ _)|(with_reducible refine cN_ ?_ _)|(with_reducible refine cD_ ?_)));(case side2=>exact (Kd.V_reads' HO412.out).2.1);(case side3=>repeat (first|exact (Kd.V_reads' HO_12.out).2.2|(with_reducible refine cA_ ?_ _)|(with_reducible refine cN_ ?_ _)|(with_reducible refine cD_ ?_)));(case side4=>exact (Kd.V_reads' HO_12.out).2.1);rintro e w117 ⟨rfl,hb⟩;have n0_:=Aside0.mk (Kd.N_below (by (with_reducible repeat (first|apply nA_|apply nN_|apply nD_));exact HO_9.out) hb);have n1_:=Aside0.mk (Kd.V_below (by (with_reducible repeat (first|apply vA_|apply vN_|apply vD_));exact HO_10.out) hb);have n2_:=Aside0.mk (Kd.V_below (by (with_reducible repeat (first|apply vA_|apply vN_|apply vD_));exact HO_11.out) hb);have n3_:=Aside0.mk (Kd.V_below (by (with_reducible repeat (first|apply vA_|apply vN_|apply vD_));exact HO_12.out) hb);have n4_:=Aside0.mk (Kd.R_below (by (with_reducible repeat (first|apply rA_|apply rN_|apply rD_));exact HO_13.out) hb);have n5_:=Aside0.mk (Kd.N_below (by (with_reducible repeat (first|apply nA_|apply nN_|apply nD_));exact HO392.out) hb);have n6_:=Aside0.mk (Kd.V_below (by (with_reducible repeat (first|apply vA_|apply vN_|apply vD_));exact HO396.out) hb);have n7_:=Aside0.mk (Kd.V_below (by (with_reducible repeat (first|apply vA_|apply vN_|apply vD_));exact HO400.out) hb);have n8_:=Aside0.mk (Kd.V_below (by (with_reducible repeat (first|apply vA_|apply vN_|apply vD_));exact HO404.out) hb);have n9_:=Aside0.mk (Kd.V_below (by (with_reducible repeat (first|apply vA_|apply vN_|apply vD_));exact HO408.out) hb);have n10_:=Aside0.mk (Kd.V_below (by (with_reducible repeat (first|apply vA_|apply vN_|apply vD_));exact HO412.out) hb);have n11_:=Aside0.mk (Kd.V_below (by (with_reducible repeat (first|apply vA_|apply vN_|apply vD_));exact HO416.out) hb);have n12_:=Aside0.mk (Kd.N_below (by (with_reducible repeat (first|apply nA_|apply nN_|apply nD_));exact HO419.out) hb);have n13_:=Aside0.mk (blk_below (g:=gb420) (o:=.cells #[.bool t405,.slice Ao107 t406.length co107] 26 (0,0)) (by (with_reducible repeat (first|refine blk_drewN ?_ _|refine blk_drew ?_|refine blk_alloc ?_ _));exact BK420.out) hb);have n14_:=Aside0.mk (blk_below (g:=gb421) (o:=.cells #[.bool t409,.slice Ao110 t410.length co110] 26 (0,0)) (by (with_reducible repeat (first|refine blk_drewN ?_ _|refine blk_drew ?_|refine blk_alloc ?_ _));exact BK421.out) hb);have n15_:=Aside0.mk (blk_below (g:=gb422) (o:=.cells #[.bool t413,.slice Ao112 t414.length co112] 26 (0,0)) (by (with_reducible repeat (first|refine blk_drewN ?_ _|refine blk_drew ?_|refine blk_alloc ?_ _));exact BK422.out) hb);have n16_:=Aside0.mk (below_step (by repeat (first|(with_reducible first|exact HB.out|apply bA_|apply bN_|apply bD_|refine below_set ?_ GE420.out|refine below_set ?_ GE421.out|refine below_set ?_ GE422.out)|exact HB.out)) hb);clear HO_9;clear HO_10;clear HO_11;clear HO_12;clear HO_13;clear HO392;clear HO396;clear HO400;clear HO404;clear HO408;clear HO412;clear HO416;clear HO419;clear BK420;clear BK421;clear BK422;clear HB;have HO_9:=n0_;have HO_10:=n1_;have HO_11:=n2_;have HO_12:=n3_;have HO_13:=n4_;have HO392:=n5_;have HO396:=n6_;have HO400:=n7_;have HO404:=n8_;have HO408:=n9_;have HO412:=n10_;have HO416:=n11_;have HO419:=n12_;have BK420:=n13_;have BK421:=n14_;have BK422:=n15_;have HB:=n16_;clear n0_ n1_ n2_ n3_ n4_ n5_ n6_ n7_ n8_ n9_ n10_ n11_ n12_ n13_ n14_ n15_ n16_;(try clear hb);(try clear hb2);(try clear hk);(try clear hi);have hcz118_0:w117.cell? ⟨gb422,0,none⟩=some (.bool t413):=(blk_cell BK422.out 0).trans rfl;have hcz118_1:w117.cell? ⟨gb422,1,none⟩=some (.slice Ao112 t414.length co112):=(blk_cell BK422.out 1).trans rfl;have hfz118_0:=blk_frozen BK422.out 0;have hfz118_1:=blk_frozen BK422.out 1)|(go_at_call 19;(with_reducible refine (cadenceref2_Same.calls k2 _ _ t414 _ _ x12_2 t425 _ ?side1 ?side2 ?side3 ?side4 A88.out).mono ?_);(case side1=>repeat (first|exact (Kd.V_reads' HO416.out).2.2|(with_reducible refine cA_ ?_ _)|(with_reducible refine cN_ ?_ _)|(with_reducible refine cD_ ?_)));(case side2=>exact (Kd.V_reads' HO416.out).2.1);(case side3=>repeat (first|exact (Kd.V_reads' HO_12.out).2.2|(with_reducible refine cA_ ?_ _)|(with_reducible refine cN_ ?_ _)|(with_reducible refine cD_ ?_)));(case side4=>exact (Kd.V_reads' HO_12.out).2.1);rintro e w119 ⟨rfl,hb⟩;have n0_:=Aside0.mk (Kd.N_below (by (with_reducible repeat (first|apply nA_|apply nN_|apply nD_));exact HO_9.out) hb);have n1_:=Aside0.mk (Kd.V_below (by (with_reducible repeat (first|apply vA_|apply vN_|apply vD_));exact HO_10.out) hb);have n2_:=Aside0.mk (Kd.V_below (by (with_reducible repeat (first|apply vA_|apply vN_|apply vD_));exact HO_11.out) hb);have n3_:=Aside0.mk (Kd.V_below (by (with_reducible repeat (first|apply vA_|apply vN_|apply vD_));exact HO_12.out) hb);have n4_:=Aside0.mk (Kd.R_below (by (with_reducible repeat (first|apply rA_|apply rN_|apply rD_));exact HO_13.out) hb);have n5_:=Aside0.mk (Kd.N_below (by (with_reducible repeat (first|apply nA_|apply nN_|apply nD_));exact HO392.out) hb);have n6_:=Aside0.mk (Kd.V_below (by (with_reducible repeat (first|apply vA_|apply vN_|apply vD_));exact HO396.out) hb);have n7_:=Aside0.mk (Kd.V_below (by (with_reducible repeat (first|apply vA_|apply vN_|apply vD_));exact HO400.out) hb);have n8_:=Aside0.mk (Kd.V_below (by (with_reducible repeat (first|apply vA_|apply vN_|apply vD_));exact HO404.out) hb);have n9_:=Aside0.mk (Kd.V_below (by (with_reducible repeat (first|apply vA_|apply vN_|apply vD_));exact HO408.out) hb);have n10_:=Aside0.mk (Kd.V_below (by (with_reducible repeat (first|apply vA_|apply vN_|apply vD_));exact HO412.out) hb);have n11_:=Aside0.mk (Kd.V_below (by (with_reducible repeat (first|apply vA_|apply vN_|apply vD_));exact HO416.out) hb);have n12_:=Aside0.mk (Kd.N_below (by (with_reducible repeat (first|apply nA_|apply nN_|apply nD_));exact HO419.out) hb);have n13_:=Aside0.mk (blk_below (g:=gb420) (o:=.cells #[.bool t405,.slice Ao107 t406.length co107] 26 (0,0)) (by (with_reducible repeat (first|refine blk_drewN ?_ _|refine blk_drew ?_|refine blk_alloc ?_ _));exact BK420.out) hb);have n14_:=Aside0.mk (blk_below (g:=gb421) (o:=.cells #[.bool t409,.slice Ao110 t410.length co110] 26 (0,0)) (by (with_reducible repeat (first|refine blk_drewN ?_ _|refine blk_drew ?_|refine blk_alloc ?_ _));exact BK421.out) hb);have n15_:=Aside0.mk (blk_below (g:=gb422) (o:=.cells #[.bool t413,.slice Ao112 t414.length co112] 26 (0,0)) (by (with_reducible repeat (first|refine blk_drewN ?_ _|refine blk_drew ?_|refine blk_alloc ?_ _));exact BK422.out) hb);have n16_:=Aside0.mk (below_step (by repeat (first|(with_reducible first|exact HB.out|apply bA_|apply bN_|apply bD_|refine below_set ?_ GE420.out|refine below_set ?_ GE421.out|refine below_set ?_ GE422.out)|exact HB.out)) hb);clear HO_9;clear HO_10;clear HO_11;clear HO_12;clear HO_13;clear HO392;clear HO396;clear HO400;clear HO404;clear HO408;clear HO412;clear HO416;clear HO419;clear BK420;clear BK421;clear BK422;clear HB;have HO_9:=n0_;have HO_10:=n1_;have HO_11:=n2_;have HO_12:=n3_;have HO_13:=n4_;have HO392:=n5_;have HO396:=n6_;have HO400:=n7_;have HO404:=n8_;have HO408:=n9_;have HO412:=n10_;have HO416:=n11_;have HO419:=n12_;have BK420:=n13_;have BK421:=n14_;have BK422:=n15_;have HB:=n16_;clear n0_ n1_ n2_ n3_ n4_ n5_ n6_ n7_ n8_ n9_ n10_ n11_ n12_ n13_ n14_ n15_ n16_;(try clear hb);(try clear hb2);(try clear hk);(try clear hi)))
           go_ret
           exact ⟨by first|rfl|(simp [errW_none,errW_some] <;> rfl)|(simp [*,errW_none,errW_some] <;> rfl),by repeat (first|(with_reducible first|exact HB.out|apply bA_|apply bN_|apply bD_|refine below_set ?_ GE420.out|refine below_set ?_ GE421.out|refine below_set ?_ GE422.out)|exact HB.out)⟩
          ·replace c87:=Bool.eq_false_iff.mpr c87
           subst c87
           have H1:(none)=some r:=by rw [if_neg (show ¬ (false=true) by decide)] at H;exact H
           clear H
           have H:=H1
           clear H1
           exact absurd H (by simp)
         ·replace c85:=Bool.eq_false_iff.mpr c85
          subst c85
          have H1:(none)=some r:=by rw [if_neg (show ¬ (false=true) by decide)] at H;exact H
          clear H
          have H:=H1
          clear H1
          exact absurd H (by simp)
        ·rw [if_neg c83] at H
         exact absurd H (by simp)
 ·replace c6:=Bool.eq_false_iff.mpr c6
  subst c6
  have H1:(none)=some r:=by rw [if_neg (show ¬ (false=true) by decide)] at H;exact H
  clear H
  have H:=H1
  clear H1
  exact absurd H (by simp)
end Go.Proofs.Ytainbaehfdhmbaa.PX
set_option linter.unusedVariables false
set_option linter.unusedSimpArgs false
namespace Go.Proofs.Ytainbaehfdhmbaa.PX
open Go.RowKit Go.Proofs.YtainbaehfdhmbaaW.PrintWords Go.Proofs.YtainbaehfdhmbaaW.PrintLast Go.Proofs.YtainbaehfdhmbaaW.PrintMore Go.Proofs.Ytainbaehfdhmbaa
theorem dropT_none : ∀ {t : Tr} {n : ByteArray}, kid t n = none → dropT t n = t
  | [], n, _ => rfl
  | y :: t, n, h => by
    rw [kid] at h
    rw [dropT]
    by_cases h1 : tl y.f0 < tl n
    · rw [if_pos h1] at h ⊢
      rw [dropT_none h]
    · rw [if_neg h1] at h ⊢
      by_cases h2 : y.f0 = n
      · rw [if_pos h2] at h
        cases h
      · rw [if_neg h2]
theorem withoutAny_ev (t : Tr) (n : ByteArray) (hl : t.length ≤ 1000000000000) : Ev (fun k => cadenceref2_Without.f k t n) (dropT t n) := by
  obtain ⟨K, hK⟩ := at_ev t n hl
  refine ⟨K, fun k hk => ?_⟩
  replace hK : cadenceref2_At.f k t n = some (((pos t n : Nat) : Int), hasAt t n) := hK k hk
  show cadenceref2_Without.f k t n = some (dropT t n)
  unfold cadenceref2_Without.f
  rw [hK, Option.bind_some]
  simp only
  cases hx : kid t n with
  | none =>
    have e : hasAt t n = false := by rw [hasAt_kid, hx]; rfl
    rw [e, if_neg Bool.false_ne_true, dropT_none hx]
  | some x =>
    have e : hasAt t n = true := by rw [hasAt_kid, hx]; rfl
    obtain ⟨hlt, _⟩ := kid_pos t n x hx
    have h1 : (0 : Int) ≤ (pos t n : Nat) := by omega
    have h2 : ((pos t n : Nat) : Int) ≤ (t.length : Int) := by omega
    have h3 : ([] : Tr).length + (t.take (pos t n)).length < 3518437208883 := by rw [List.length_take, List.length_nil]; omega
    have h5 : (0 : Int) ≤ ((pos t n + 1 : Nat) : Int) := by omega
    have h6 : ((pos t n + 1 : Nat) : Int) ≤ (t.length : Int) := by omega
    have h7 : (t.take (pos t n)).length + (t.drop (pos t n + 1)).length < 3518437208883 := by rw [List.length_take, List.length_drop]; omega
    rw [e, if_pos rfl, if_pos h1, if_pos h2, Int.toNat_natCast, Option.bind_some, if_pos h3, Option.bind_some, List.nil_append, wrap_succ (by omega), if_pos h5, if_pos h6, Int.toNat_natCast, Option.bind_some, if_pos h7, dropT_eq, e, if_pos rfl]
abbrev NS5 : List ByteArray := [⟨#[]⟩, ⟨#[97]⟩, ⟨#[98]⟩, ⟨#[99]⟩, ⟨#[100]⟩]
theorem ns5_tl : NS5.map tl = [[], [97], [98], [99], [100]] := rfl
theorem ns5_nodup : NS5.Nodup := by
  have h : (NS5.map tl).Nodup := by rw [ns5_tl]; decide
  exact List.Pairwise.of_map tl (fun _ _ h e => h (congrArg tl e)) h
def ApR (old x y want : Tr) (n : ByteArray) : Prop := (kid y n = kid old n ∧ kid want n = kid x n) ∨ (kid x n = kid old n ∧ kid want n = kid y n)
structure ApI (i : Nat) (old x y want : Tr) : Prop where
  ox : Ok 10 4 x
  oy : Ok 10 4 y
  ow : Ok 10 4 want
  lx : x.length ≤ 5 + i
  ly : y.length ≤ 5 + i
  lw : want.length ≤ 5 + i
  r : ∀ n, ApR old x y want n
  f : ∀ n, n ∉ NS5.take i → kid x n = kid old n ∧ kid y n = kid old n ∧ kid want n = kid old n
theorem ApI.new {i : Nat} {old x y want : Tr} (h : ApI i old x y want) (hi : i < NS5.length) : kid x NS5[i] = kid old NS5[i] ∧ kid y NS5[i] = kid old NS5[i] ∧ kid want NS5[i] = kid old NS5[i] := by
  refine h.f _ (fun hm => ?_)
  obtain ⟨j, hj, e⟩ := List.mem_take_iff_getElem.1 hm
  have hj' : j < i := by omega
  exact List.pairwise_iff_getElem.1 ns5_nodup j i (by omega) hi hj' e
theorem ApI.next {i : Nat} {old x y want x' y' want' : Tr} (h : ApI i old x y want) (hi : i < NS5.length) (ox : Ok 10 4 x') (oy : Ok 10 4 y') (ow : Ok 10 4 want') (lx : x'.length ≤ x.length + 1) (ly : y'.length ≤ y.length + 1) (lw : want'.length ≤ want.length + 1)
    (hx : ∀ m, m ≠ NS5[i] → kid x' m = kid x m) (hy : ∀ m, m ≠ NS5[i] → kid y' m = kid y m) (hw : ∀ m, m ≠ NS5[i] → kid want' m = kid want m) (hr : ApR old x' y' want' NS5[i]) : ApI (i + 1) old x' y' want' := by
  refine ⟨ox, oy, ow, by have := h.lx; omega, by have := h.ly; omega, by have := h.lw; omega, fun n => ?_, fun n hn => ?_⟩
  · by_cases e : n = NS5[i]
    · rw [e]
      exact hr
    · unfold ApR
      rw [hx n e, hy n e, hw n e]
      exact h.r n
  · rw [List.take_succ_eq_append_getElem hi, List.mem_append, List.mem_singleton] at hn
    have e : n ≠ NS5[i] := fun e => hn (.inr e)
    rw [hx n e, hy n e, hw n e]
    exact h.f n (fun hm => hn (.inl hm))
theorem within12 (a : Int) : ∃ r, cadencelaw12_within.f a 5 = some r := by
  unfold cadencelaw12_within.f
  rw [if_neg (by omega)]
  split
  · exact ⟨_, rfl⟩
  · exact ⟨_, rfl⟩
theorem apart_loop {l m : List Raw} (hl : RawOk l) (hm : RawOk m) (ws : List Int) (old : Tr) (ho : Ok 10 4 old) :
    ∀ (d i : Nat) (x y want : Tr), i + d = 5 → ApI i old x y want → Ev (fun k => cadencelaw12_MergeApart.l0 k l m ws old x y want NS5 (i : Int)) true := by
  intro d
  induction d with
  | zero =>
    intro i x y want hi h
    have hm := merge_apart WIDE 4 0 [] wide_level ho.sorted h.ox.sorted h.oy.sorted h.ow.sorted h.r
    have hf := merge_f wide_ok (ook ho (by omega)) (ook h.ox (by omega)) (ook h.oy (by omega)) hm
    simp only at hf
    obtain ⟨K, hs⟩ := same_ev (W := 10) (by omega) h.ow h.ow
    refine ⟨K + 1, fun k hk => ?_⟩
    obtain ⟨k, rfl⟩ : ∃ m, k = m + 1 := ⟨k - 1, by omega⟩
    replace hs := hs k (by omega)
    simp only [decide_true] at hs
    simp only [cadencelaw12_MergeApart.l0]
    rw [if_neg (by omega), wide_f]
    simp only [cadencelaw12_some.f, Option.bind_some]
    rw [hf, Option.bind_some]
    simp only
    rw [if_pos (show ((([] : List Cf).length : Nat) : Int) = 0 from rfl), hs]
    rfl
  | succ d ih =>
    intro i x y want hi h
    have hlt : i < NS5.length := by show i < 5; omega
    obtain ⟨hn1, hn2, hn3⟩ := h.new hlt
    have hr : rdOf ByteArray.empty NS5 (i : Int) = NS5[i] := rdOf_nat hlt
    have hw : wrap64 ((i : Int) + 1) = ((i + 1 : Nat) : Int) := wrap_succ (by omega)
    have hN : ((NS5.length : Nat) : Int) = 5 := rfl
    have step : ∀ c : Int, Ev (fun k => cadencelaw12_MergeApart.j2 k l m ws old x y want NS5 (i : Int) c) true := by
      intro c
      obtain ⟨t, ht3, et⟩ := small_ev hl 3 3 (by omega) (by omega)
      have ht := ht3.wide (show 3 ≤ 10 by omega)
      refine Ev.up ?_
      simp only [cadencelaw12_MergeApart.j2, hr, hw]
      refine Ev.bind et ?_
      have wok : ∀ {z u : Tr}, Ok 10 4 z → z.length ≤ 5 + i → Ok 10 3 u → Ok 10 4 (withT z NS5[i] u) := fun hz hlz hu => hz.withT hu (Nat.le_trans (withT_length _ NS5[i] _) (by omega))
      by_cases c1 : c = 1
      · refine Ev.congr (fun k => if_pos c1) (Ev.congr (fun k => if_pos (by omega)) (Ev.congr (fun k => if_pos (by rw [hN]; omega)) (Ev.bind (with_ev x _ t (by have := h.lx; omega)) (Ev.bind (with_ev want _ t (by have := h.lw; omega)) (ih (i + 1) _ _ _ (by omega) (h.next hlt (wok h.ox h.lx ht) h.oy (wok h.ow h.lw ht) (withT_length _ _ _) (by omega) (withT_length _ _ _) (fun m hm => ?_) (fun m hm => rfl) (fun m hm => ?_) (.inl ⟨hn2, ?_⟩))))))) 
        · rw [kid_withT h.ox.sorted, if_neg hm]
        · rw [kid_withT h.ow.sorted, if_neg hm]
        · rw [kid_withT h.ow.sorted, kid_withT h.ox.sorted, if_pos rfl, if_pos rfl]
      refine Ev.congr (fun k => if_neg c1) ?_
      by_cases c2 : c = 2
      · refine Ev.congr (fun k => if_pos c2) (Ev.congr (fun k => if_pos (by omega)) (Ev.congr (fun k => if_pos (by rw [hN]; omega)) (Ev.bind (withoutAny_ev x _ (by have := h.lx; omega)) (Ev.bind (withoutAny_ev want _ (by have := h.lw; omega)) (ih (i + 1) _ _ _ (by omega) (h.next hlt h.ox.dropT h.oy h.ow.dropT (by have := dropT_length x NS5[i]; omega) (by omega) (by have := dropT_length want NS5[i]; omega) (fun m hm => ?_) (fun m hm => rfl) (fun m hm => ?_) (.inl ⟨hn2, ?_⟩))))))) 
        · rw [kid_dropT h.ox.sorted, if_neg hm]
        · rw [kid_dropT h.ow.sorted, if_neg hm]
        · rw [kid_dropT h.ow.sorted, kid_dropT h.ox.sorted, if_pos rfl, if_pos rfl]
      refine Ev.congr (fun k => if_neg c2) ?_
      by_cases c3 : c = 3
      · obtain ⟨u, hu3, eu⟩ := small_ev hm 3 3 (by omega) (by omega)
        have hu := hu3.wide (show 3 ≤ 10 by omega)
        refine Ev.congr (fun k => if_pos c3) (Ev.bind eu (Ev.congr (fun k => if_pos (by omega)) (Ev.congr (fun k => if_pos (by rw [hN]; omega)) (Ev.bind (with_ev y _ u (by have := h.ly; omega)) (Ev.bind (with_ev want _ u (by have := h.lw; omega)) (ih (i + 1) _ _ _ (by omega) (h.next hlt h.ox (wok h.oy h.ly hu) (wok h.ow h.lw hu) (by omega) (withT_length _ _ _) (withT_length _ _ _) (fun m hm => rfl) (fun m hm => ?_) (fun m hm => ?_) (.inr ⟨hn1, ?_⟩)))))))) 
        · rw [kid_withT h.oy.sorted, if_neg hm]
        · rw [kid_withT h.ow.sorted, if_neg hm]
        · rw [kid_withT h.ow.sorted, kid_withT h.oy.sorted, if_pos rfl, if_pos rfl]
      refine Ev.congr (fun k => if_neg c3) ?_
      by_cases c4 : c = 4
      · refine Ev.congr (fun k => if_pos c4) (Ev.congr (fun k => if_pos (by omega)) (Ev.congr (fun k => if_pos (by rw [hN]; omega)) (Ev.bind (withoutAny_ev y _ (by have := h.ly; omega)) (Ev.bind (withoutAny_ev want _ (by have := h.lw; omega)) (ih (i + 1) _ _ _ (by omega) (h.next hlt h.ox h.oy.dropT h.ow.dropT (by omega) (by have := dropT_length y NS5[i]; omega) (by have := dropT_length want NS5[i]; omega) (fun m hm => rfl) (fun m hm => ?_) (fun m hm => ?_) (.inr ⟨hn1, ?_⟩))))))) 
        · rw [kid_dropT h.oy.sorted, if_neg hm]
        · rw [kid_dropT h.ow.sorted, if_neg hm]
        · rw [kid_dropT h.ow.sorted, kid_dropT h.oy.sorted, if_pos rfl, if_pos rfl]
      refine Ev.congr (fun k => if_neg c4) (ih (i + 1) _ _ _ (by omega) (h.next hlt h.ox h.oy h.ow (by omega) (by omega) (by omega) (fun m hm => rfl) (fun m hm => rfl) (fun m hm => rfl) (.inl ⟨hn2, hn3.trans hn1.symm⟩)))
    refine Ev.up ?_
    simp only [cadencelaw12_MergeApart.l0]
    refine Ev.congr (fun k => if_pos (by omega)) ?_
    by_cases c : (i : Int) < (ws.length : Int)
    · obtain ⟨r, hr⟩ := within12 (rd ws (i : Int))
      refine Ev.congr (fun k => if_pos c) (Ev.congr (fun k => if_pos (by omega)) ?_)
      simp only [hr, Option.bind_some]
      exact step r
    · exact Ev.congr (fun k => if_neg c) (step 0)
theorem mergeApart_ev (l m q : List Raw) (ws : List Int) (hl : RawOk l) (hm : RawOk m) (hq : RawOk q) : Ev (fun k => cadencelaw12_MergeApart.f k l m q ws) true := by
  obtain ⟨b0, f0, e0⟩ := few_ev hl
  obtain ⟨b1, f1, e1⟩ := few_ev hm
  obtain ⟨b2, f2, e2⟩ := few_ev hq
  have out : Ev (fun k => cadencelaw12_MergeApart.j0 k l m q ws true) true := by
    refine Ev.step (f := fun _ => some true) (fun k => ?_) (Ev.now _)
    simp only [cadencelaw12_MergeApart.j0]
    rw [if_pos trivial]
  refine Ev.congr (f := fun k => (cadencelaw2_Few.f k l).bind fun u => (if u = true then (cadencelaw2_Few.f k m).bind fun v => (if v = true then (cadencelaw2_Few.f k q).bind fun z => cadencelaw12_MergeApart.j0 k l m q ws (!z) else cadencelaw12_MergeApart.j0 k l m q ws true) else cadencelaw12_MergeApart.j0 k l m q ws true)) (fun k => by unfold cadencelaw12_MergeApart.f; rw [known12]; rfl) (Ev.bind e0 ?_)
  cases b0 with
  | false => exact Ev.congr (fun k => if_neg Bool.false_ne_true) out
  | true =>
    refine Ev.congr (fun k => if_pos rfl) (Ev.bind e1 ?_)
    cases b1 with
    | false => exact Ev.congr (fun k => if_neg Bool.false_ne_true) out
    | true =>
      refine Ev.congr (fun k => if_pos rfl) (Ev.bind e2 ?_)
      cases b2 with
      | false => exact out
      | true =>
        obtain ⟨t, ht5, et⟩ := small_ev hl 5 4 (by omega) (by omega)
        have ht := ht5.wide (show 5 ≤ 10 by omega)
        refine Ev.up ?_
        simp only [cadencelaw12_MergeApart.j0]
        refine Ev.congr (fun k => if_neg (by simp)) (Ev.bind et ?_)
        exact apart_loop hm hq ws t ht 5 0 t t t (by omega) ⟨ht, ht, ht, ht5.length, ht5.length, ht5.length, fun n => .inl ⟨rfl, rfl⟩, fun n _ => ⟨rfl, rfl, rfl⟩⟩
end Go.Proofs.Ytainbaehfdhmbaa.PX
set_option linter.unusedVariables false
set_option linter.unusedSimpArgs false
namespace Go.Proofs.Ytainbaehfdhmbaa.PX
open Go.RowKit Go.Proofs.YtainbaehfdhmbaaW.PrintWords Go.Proofs.YtainbaehfdhmbaaW.PrintLast Go.Proofs.YtainbaehfdhmbaaW.PrintMore Go.ChangeShapes Go.WideShapes Go.ChangeAt Go.Deep
section
variable {H:Type} {enc:TypeId × Value→H} {w:World}
theorem open_intK {v:Value} {d:DataW H} {p:List MemPlace} {ts:List TypeId} {ds:List (DataW H)} {j:Nat} (hv:∃ A len cap,v=.slice A len cap) (h:DataW.Trod enc Try.prog w 0 (fun _=>true) true 41 v d p)
  (hsz:(DataW.weightsEach Try.prog ts ds).all (·≤ reachBytes)=true) (ht:ts[j]? = some 41) (hd:ds[j]? = some d) :
  ∃ (A:Option Addr) (cap:Nat) (l:List Int),v=.slice A l.length cap∧l.length≤cap∧Kd.C (Kd.int .i64) w A l.length l∧l.length≤cap:=by
 obtain ⟨A,len,cap,rfl⟩:=hv
 obtain ⟨fuel,hf⟩:=h
 rcases open_ints Try.underlying41 Try.underlying3 (by kernel_rfl) hf with ⟨hcs,_⟩|⟨x,l,c,zs,hcs,_,hl,hm,hz,_,hcell,hwz⟩
 ·simp only [Value.cells,List.cons.injEq,and_true,Value.slice.injEq] at hcs
  obtain ⟨rfl,rfl,rfl⟩:=hcs
  exact ⟨none,0,[],rfl,Nat.le_refl _,Kd.C_nil _ _,Nat.le_refl _⟩
 ·simp only [Value.cells,List.cons.injEq,and_true,Value.slice.injEq] at hcs
  obtain ⟨rfl,rfl,rfl⟩:=hcs
  simp only [if_true] at hz
  have htl:(zs.take len).length=len:=by rw [List.length_take];omega
  refine ⟨some x,cap,zs.take len,by rw [htl],by rw [htl];exact hl,Kd.C_of_reads (d:=(0:Int)) (h1:=fun _=>rfl) ⟨rfl,by rw [htl];unfold maxLen at hm;omega,fun hp=>⟨x,rfl,fun j hj=>?_⟩⟩,by rw [htl];exact hl⟩
  rw [htl] at hj
  rw [hcell j (by omega)]
  simp [List.getD_eq_getElem?_getD,List.getElem?_take,hj]
end
end Go.Proofs.Ytainbaehfdhmbaa.PX
set_option linter.unusedVariables false
set_option linter.unusedSimpArgs false
namespace Go.Proofs.Ytainbaehfdhmbaa.mergeApart
open Go.ChangeShapes Go.WideShapes Go.ChangeAt Go.RowKit
open Go.ChangeMaps (open_string shut_string)
open Go.Proofs.Ytainbaehfdhmbaa.PX
theorem own : ownKnob Try.prog.godebug = none := by kernel_rfl
theorem laidOut : laidOutB Try.prog = true := by kernel_rfl
set_option maxRecDepth 100000 in
theorem lifted (os : Os) (started : os.Started) (H : Type) (enc : TypeId × Value → H) :
    ReturnsInHanded {} Try.checked os 4 .any (Rows.mergeApartSpec.pre6 enc Try.prog Try.f4 Rows.mergeApartRow.domain false) (Rows.mergeApartSpec.post enc Try.prog Try.f4 false true false false) := by
  refine returnsInHanded_of_change_sized (C := Try.checked) own started (by kernel_rfl) Try.func4
    (ChangeSpec.witness6 (enc := enc) (C := Try.checked) false ⟨#[], #[.slice none 0 0, .slice none 0 0, .slice none 0 0, .slice none 0 0], []⟩ 8 (by kernel_rfl) (by kernel_rfl) (by kernel_rfl) (by kernel_rfl)) ?_
  intro W base args ds gs before hval0 hW hcnd hsz0 _
  have hsz : (DataW.weightsEach Try.prog (Try.f4.params.toList ++ Rows.mergeApartSpec.plain.varTypes Try.prog) (ds ++ gs)).all (· ≤ reachBytes) = true := hsz0
  have hval : ∀ (j : Nat) t v, Try.f4.params[j]? = some t → args[j]? = some v → Value.okWide Try.prog W .any base t v := hval0
  have hW' := hW
  obtain ⟨p, q, hA0, hV, rfl, hfz, hnd⟩ := hW
  have hA : DataW.TrodAll enc Try.prog W 0 (fun _ => true) true Try.f4.params.toList args.toList ds p := hA0
  rw [Try.params4] at hA hval hsz
  obtain ⟨v0, vs0, d0, ds0, p0, q0, hargs, rfl, rfl, h0, r0⟩ := trodAll_cons hA
  obtain ⟨v1, vs1, d1, ds1, p1, q1, rfl, rfl, rfl, h1, r1⟩ := trodAll_cons r0
  obtain ⟨v2, vs2, d2, ds2, p2, q2, rfl, rfl, rfl, h2, r2⟩ := trodAll_cons r1
  obtain ⟨v3, vs3, d3, ds3, p3, q3, rfl, rfl, rfl, h3, r3⟩ := trodAll_cons r2
  obtain ⟨rfl, rfl, rfl⟩ := trodAll_nil r3
  obtain rfl : args = #[v0, v1, v2, v3] := by cases args; simp_all
  obtain ⟨rfl, rfl⟩ := trodVars_none hV
  have lt0 : ∀ x ∈ p0, x.block < W.heap.size := by obtain ⟨m, hm⟩ := h0; exact DataW.trod_lt m _ _ _ hm
  have k0 := h0
  have lt1 : ∀ x ∈ p1, x.block < W.heap.size := by obtain ⟨m, hm⟩ := h1; exact DataW.trod_lt m _ _ _ hm
  have k1 := h1
  have lt2 : ∀ x ∈ p2, x.block < W.heap.size := by obtain ⟨m, hm⟩ := h2; exact DataW.trod_lt m _ _ _ hm
  have k2 := h2
  have lt3 : ∀ x ∈ p3, x.block < W.heap.size := by obtain ⟨m, hm⟩ := h3; exact DataW.trod_lt m _ _ _ hm
  have k3 := h3
  obtain ⟨a0, c0, x0, rfl, L0, C0, R0⟩ := open_raw (okWide_slice Try.underlying40 (hval 0 40 v0 rfl rfl)) h0 hsz (j := 0) rfl rfl
  obtain ⟨a1, c1, x1, rfl, L1, C1, R1⟩ := open_raw (okWide_slice Try.underlying40 (hval 1 40 v1 rfl rfl)) h1 hsz (j := 1) rfl rfl
  obtain ⟨a2, c2, x2, rfl, L2, C2, R2⟩ := open_raw (okWide_slice Try.underlying40 (hval 2 40 v2 rfl rfl)) h2 hsz (j := 2) rfl rfl
  obtain ⟨a3, c3, x3, rfl, L3, C3, R3⟩ := open_intK (okWide_slice Try.underlying41 (hval 3 41 v3 rfl rfl)) h3 hsz (j := 3) rfl rfl
  clear hA0 hval0 hsz0 hsz
  obtain ⟨k, hk⟩ := (mergeApart_ev x0 x1 x2 x3 R0 R1 R2).rounds
  refine (cadencelaw12_MergeApart.calls k a0 c0 x0 a1 c1 x1 a2 c2 x2 a3 c3 x3 true W C0 L0 C1 L1 C2 L2 C3 L3 hk).mono fun e W' ⟨he, bel⟩ => ?_
  subst he
  exact ⟨_, rfl, _, _, _, [], _, [], hW', trodAll_mk1 (shut_bool Try.underlying4 _), (trodAll_cons_mk (Below.trod laidOut (by kernel_rfl) (of_decide_eq_true (by kernel_rfl)) k0 bel lt0) (trodAll_cons_mk (Below.trod laidOut (by kernel_rfl) (of_decide_eq_true (by kernel_rfl)) k1 bel lt1) (trodAll_cons_mk (Below.trod laidOut (by kernel_rfl) (of_decide_eq_true (by kernel_rfl)) k2 bel lt2) (trodAll_cons_mk (Below.trod laidOut (by kernel_rfl) (of_decide_eq_true (by kernel_rfl)) k3 bel lt3) trodAll_mk0)))), rfl, bel.frame _, fun h => by cases h⟩
theorem over : Rows.mergeApartRow.holds Try.pinned (OpenSpec.ofChange Rows.mergeApartSpec) :=
  OpenClaim.holds_of_wide 4 Try.f4 rfl rfl rfl rfl rfl rfl rfl ⟨rfl, rfl, rfl, rfl, rfl⟩ rfl rfl rfl rfl rfl (by kernel_rfl) Try.func4 (by kernel_rfl)
    (of_decide_eq_true (by kernel_rfl)) (by unfold Func.isWrapper; first | (rw [if_pos (by decide +kernel)]; kernel_rfl) | (rw [if_neg (by decide +kernel)]; exact ⟨rfl, rfl⟩))
    (fun os started H enc _ => lifted os started H enc)
theorem proved : Rows.MergeApartSaid := over
#print axioms proved
end Go.Proofs.Ytainbaehfdhmbaa.mergeApart
