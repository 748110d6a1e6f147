/-
  The statement of 'MergeRows': the Go function returns true at every input, and its arguments read as before.
  Conditions: none.
-/
import Derived.Test.YtainbaehfdhmbaaMMergeRows1
import Derived.Test.YtainbaehfdhmbaaMMergeRows5
import Derived.Test.YtainbaehfdhmbaaMMergeRows3
import Derived.Test.YtainbaehfdhmbaaMMergeRows4
import Derived.Test.YtainbaehfdhmbaaRows
import Derived.WalkKit
import Derived.ProofKit
import Derived.OpenShut
import Derived.ShutString
import Derived.ChangeOld
import Derived.Below
import Derived.SizedLaws
namespace Go.Proofs.Ytainbaehfdhmbaa.PX
open Go.RowKit Go.Proofs.YtainbaehfdhmbaaW.PrintWords Go.Proofs.YtainbaehfdhmbaaW.PrintLast Go.Proofs.YtainbaehfdhmbaaW.PrintMore
attribute [local go_sem] max2_int min2_int max_two min_two max_three min_three max_four min_four   
set_option linter.unusedVariables false
set_option linter.unusedSimpArgs false
mutual
def cadencelaw12_MergeRows.l0:Nat→Int→Int→Int→List (S38)→Int→Int→Bool→List (S51)→Bool→List (S51)→Bool→List (S51)→Option (Bool)
 | 0,_,_,_,_,_,_,_,_,_,_,_,_=>none
 | k+1,x0,x1,x2,x10,x11,x12,x270000,x270001,x271000,x271001,x272000,x272001=>if x12 < 3 then ((some (([(⟨#[97]⟩:ByteArray),(⟨#[98]⟩:ByteArray),(⟨#[99]⟩:ByteArray)]:List ByteArray):List ByteArray)).bind fun y272=>(if 0≤x12 then (if x12 < (y272.length:Int) then ((cadencelaw12_row.f k x0).bind fun t276=>((cadencelaw12_value.f k t276 (rdOf ByteArray.empty y272 x12)).bind fun t279=>((cadencelaw12_row.f k x1).bind fun t280=>((cadencelaw12_value.f k t280 (rdOf ByteArray.empty y272 x12)).bind fun t283=>((cadencelaw12_row.f k x2).bind fun t284=>((cadencelaw12_value.f k t284 (rdOf ByteArray.empty y272 x12)).bind fun t287=>((cadencelaw12_value.f k x270001 (rdOf ByteArray.empty y272 x12)).bind fun t288=>((cadencelaw12_value.f k x271001 (rdOf ByteArray.empty y272 x12)).bind fun t289=>((cadencelaw12_value.f k x272001 (rdOf ByteArray.empty y272 x12)).bind fun t290=>(if t283.toList=t287.toList then (cadencelaw12_MergeRows.j4 k x0 x1 x2 x10 x11 x12 t283 t283 t287 t288 t289 t290 x270000 x270001 x271000 x271001 x272000 x272001) else (if t279.toList=t283.toList then (cadencelaw12_MergeRows.j4 k x0 x1 x2 x10 x11 x12 t287 t287 t287 t288 t289 t290 x270000 x270001 x271000 x271001 x272000 x272001) else (if t279.toList=t287.toList then (cadencelaw12_MergeRows.j4 k x0 x1 x2 x10 x11 x12 t283 t283 t283 t288 t289 t290 x270000 x270001 x271000 x271001 x272000 x272001) else (if t283.toList=([]:List UInt8) then (cadencelaw12_MergeRows.j1 k x0 x1 x2 x10 x11 x12 (rdOf ByteArray.empty y272 x12) t279 t283 t287 t288 t289 t290 2 true x270000 x270001 x271000 x271001 x272000 x272001) else (cadencelaw12_MergeRows.j1 k x0 x1 x2 x10 x11 x12 (rdOf ByteArray.empty y272 x12) t279 t283 t287 t288 t289 t290 2 (t287.toList == ([]:List UInt8)) x270000 x270001 x271000 x271001 x272000 x272001)))))))))))))) else (none)) else (none))) else (if x11=(x10.length:Int) then (if x270000=true then (if x271000=true then (some x272000) else (none)) else (none)) else (none))
def cadencelaw12_MergeRows.j4:Nat→Int→Int→Int→List (S38)→Int→Int→ByteArray→ByteArray→ByteArray→ByteArray→ByteArray→ByteArray→Bool→List (S51)→Bool→List (S51)→Bool→List (S51)→Option (Bool)
 | 0,_,_,_,_,_,_,_,_,_,_,_,_,_,_,_,_,_,_=>none
 | k+1,x0,x1,x2,x10,x11,x12,x14,x15,x16,x17,x18,x19,x270000,x270001,x271000,x271001,x272000,x272001=>if x17.toList=x14.toList then (if x18.toList=x15.toList then (cadencelaw12_MergeRows.j5 k x0 x1 x2 x10 x11 x12 (x19.toList != x16.toList) x270000 x270001 x271000 x271001 x272000 x272001) else (cadencelaw12_MergeRows.j5 k x0 x1 x2 x10 x11 x12 true x270000 x270001 x271000 x271001 x272000 x272001)) else (cadencelaw12_MergeRows.j5 k x0 x1 x2 x10 x11 x12 true x270000 x270001 x271000 x271001 x272000 x272001)
def cadencelaw12_MergeRows.j5:Nat→Int→Int→Int→List (S38)→Int→Int→Bool→Bool→List (S51)→Bool→List (S51)→Bool→List (S51)→Option (Bool)
 | 0,_,_,_,_,_,_,_,_,_,_,_,_,_=>none
 | k+1,x0,x1,x2,x10,x11,x12,x141,x270000,x270001,x271000,x271001,x272000,x272001=>if x141=true then (none) else (cadencelaw12_MergeRows.l0 k x0 x1 x2 x10 x11 (wrap64 (x12+1)) x270000 x270001 x271000 x271001 x272000 x272001)
def cadencelaw12_MergeRows.j1:Nat→Int→Int→Int→List (S38)→Int→Int→ByteArray→ByteArray→ByteArray→ByteArray→ByteArray→ByteArray→ByteArray→Int→Bool→Bool→List (S51)→Bool→List (S51)→Bool→List (S51)→Option (Bool)
 | 0,_,_,_,_,_,_,_,_,_,_,_,_,_,_,_,_,_,_,_,_,_=>none
 | k+1,x0,x1,x2,x10,x11,x12,x13,x14,x15,x16,x17,x18,x19,x20,x76,x270000,x270001,x271000,x271001,x272000,x272001=>if x76=true then (cadencelaw12_MergeRows.j2 k x0 x1 x2 x10 x11 x12 x13 x14 x15 x16 x17 x18 x19 1 x270000 x270001 x271000 x271001 x272000 x272001) else (cadencelaw12_MergeRows.j2 k x0 x1 x2 x10 x11 x12 x13 x14 x15 x16 x17 x18 x19 x20 x270000 x270001 x271000 x271001 x272000 x272001)
def cadencelaw12_MergeRows.j2:Nat→Int→Int→Int→List (S38)→Int→Int→ByteArray→ByteArray→ByteArray→ByteArray→ByteArray→ByteArray→ByteArray→Int→Bool→List (S51)→Bool→List (S51)→Bool→List (S51)→Option (Bool)
 | 0,_,_,_,_,_,_,_,_,_,_,_,_,_,_,_,_,_,_,_,_=>none
 | k+1,x0,x1,x2,x10,x11,x12,x13,x14,x15,x16,x17,x18,x19,x20,x270000,x270001,x271000,x271001,x272000,x272001=>if x11 ≥ (x10.length:Int) then (cadencelaw12_MergeRows.j3 k x0 x1 x2 x10 x11 x12 x14 x15 x16 x17 x18 x19 true x270000 x270001 x271000 x271001 x272000 x272001) else (if 0≤x11 then (if x11 < (x10.length:Int) then (if ((rd_T38 x10 x11).f1)=x20 then (if (((rd_T38 x10 x11).f0).length:Int)=1 then (if 0 < (((rd_T38 x10 x11).f0).length:Int) then (cadencelaw12_MergeRows.j3 k x0 x1 x2 x10 x11 x12 x14 x15 x16 x17 x18 x19 ((rdOf ByteArray.empty ((rd_T38 x10 x11).f0) 0).toList != x13.toList) x270000 x270001 x271000 x271001 x272000 x272001) else (none)) else (cadencelaw12_MergeRows.j3 k x0 x1 x2 x10 x11 x12 x14 x15 x16 x17 x18 x19 true x270000 x270001 x271000 x271001 x272000 x272001)) else (cadencelaw12_MergeRows.j3 k x0 x1 x2 x10 x11 x12 x14 x15 x16 x17 x18 x19 true x270000 x270001 x271000 x271001 x272000 x272001)) else (none)) else (none))
def cadencelaw12_MergeRows.j3:Nat→Int→Int→Int→List (S38)→Int→Int→ByteArray→ByteArray→ByteArray→ByteArray→ByteArray→ByteArray→Bool→Bool→List (S51)→Bool→List (S51)→Bool→List (S51)→Option (Bool)
 | 0,_,_,_,_,_,_,_,_,_,_,_,_,_,_,_,_,_,_,_=>none
 | k+1,x0,x1,x2,x10,x11,x12,x14,x15,x16,x17,x18,x19,x109,x270000,x270001,x271000,x271001,x272000,x272001=>if x109=true then (none) else (cadencelaw12_MergeRows.j4 k x0 x1 x2 x10 (wrap64 (x11+1)) x12 x14 x15 x16 x17 x18 x19 x270000 x270001 x271000 x271001 x272000 x272001)
end
def cadencelaw12_MergeRows.f (k:Nat) (a0:Int) (a1:Int) (a2:Int):Option (Bool):=(cadencelaw12_known.f).bind fun t229=>(if t229=true then ((cadencelaw12_one.f).bind fun t230=>((cadencelaw12_row.f k a0).bind fun t233=>((cadencelaw12_some.f t233).bind fun bt236=>((cadencelaw12_row.f k a1).bind fun t240=>((cadencelaw12_some.f t240).bind fun bt243=>((cadencelaw12_row.f k a2).bind fun t247=>((cadencelaw12_some.f t247).bind fun bt250=>((merge_Merge.f t230 bt236.1 bt236.2 bt243.1 bt243.2 bt250.1 bt250.2).bind fun bt254=>(cadencelaw12_MergeRows.l0 k a0 a1 a2 bt254.2.2.2.2.2.2 0 0 bt254.1 bt254.2.1 bt254.2.2.1 bt254.2.2.2.1 bt254.2.2.2.2.1 bt254.2.2.2.2.2.1))))))))) else (none))
theorem cadencelaw12_MergeRows.mono_l:∀ k,(∀ y0 y1 y2 y3 y4 y5 y6 y7 y8 y9 y10 y11,LeO (cadencelaw12_MergeRows.l0 k y0 y1 y2 y3 y4 y5 y6 y7 y8 y9 y10 y11) (cadencelaw12_MergeRows.l0 (k+1) y0 y1 y2 y3 y4 y5 y6 y7 y8 y9 y10 y11))∧(∀ y0 y1 y2 y3 y4 y5 y6 y7 y8 y9 y10 y11 y12 y13 y14 y15 y16 y17,LeO (cadencelaw12_MergeRows.j4 k y0 y1 y2 y3 y4 y5 y6 y7 y8 y9 y10 y11 y12 y13 y14 y15 y16 y17) (cadencelaw12_MergeRows.j4 (k+1) y0 y1 y2 y3 y4 y5 y6 y7 y8 y9 y10 y11 y12 y13 y14 y15 y16 y17))∧(∀ y0 y1 y2 y3 y4 y5 y6 y7 y8 y9 y10 y11 y12,LeO (cadencelaw12_MergeRows.j5 k y0 y1 y2 y3 y4 y5 y6 y7 y8 y9 y10 y11 y12) (cadencelaw12_MergeRows.j5 (k+1) y0 y1 y2 y3 y4 y5 y6 y7 y8 y9 y10 y11 y12))∧(∀ y0 y1 y2 y3 y4 y5 y6 y7 y8 y9 y10 y11 y12 y13 y14 y15 y16 y17 y18 y19 y20,LeO (cadencelaw12_MergeRows.j1 k y0 y1 y2 y3 y4 y5 y6 y7 y8 y9 y10 y11 y12 y13 y14 y15 y16 y17 y18 y19 y20) (cadencelaw12_MergeRows.j1 (k+1) y0 y1 y2 y3 y4 y5 y6 y7 y8 y9 y10 y11 y12 y13 y14 y15 y16 y17 y18 y19 y20))∧(∀ y0 y1 y2 y3 y4 y5 y6 y7 y8 y9 y10 y11 y12 y13 y14 y15 y16 y17 y18 y19,LeO (cadencelaw12_MergeRows.j2 k y0 y1 y2 y3 y4 y5 y6 y7 y8 y9 y10 y11 y12 y13 y14 y15 y16 y17 y18 y19) (cadencelaw12_MergeRows.j2 (k+1) y0 y1 y2 y3 y4 y5 y6 y7 y8 y9 y10 y11 y12 y13 y14 y15 y16 y17 y18 y19))∧(∀ y0 y1 y2 y3 y4 y5 y6 y7 y8 y9 y10 y11 y12 y13 y14 y15 y16 y17 y18,LeO (cadencelaw12_MergeRows.j3 k y0 y1 y2 y3 y4 y5 y6 y7 y8 y9 y10 y11 y12 y13 y14 y15 y16 y17 y18) (cadencelaw12_MergeRows.j3 (k+1) y0 y1 y2 y3 y4 y5 y6 y7 y8 y9 y10 y11 y12 y13 y14 y15 y16 y17 y18))
 | 0=>⟨fun _ _ _ _ _ _ _ _ _ _ _ _ r h=>by simp [cadencelaw12_MergeRows.l0] at h,fun _ _ _ _ _ _ _ _ _ _ _ _ _ _ _ _ _ _ r h=>by simp [cadencelaw12_MergeRows.j4] at h,fun _ _ _ _ _ _ _ _ _ _ _ _ _ r h=>by simp [cadencelaw12_MergeRows.j5] at h,fun _ _ _ _ _ _ _ _ _ _ _ _ _ _ _ _ _ _ _ _ _ r h=>by simp [cadencelaw12_MergeRows.j1] at h,fun _ _ _ _ _ _ _ _ _ _ _ _ _ _ _ _ _ _ _ _ r h=>by simp [cadencelaw12_MergeRows.j2] at h,fun _ _ _ _ _ _ _ _ _ _ _ _ _ _ _ _ _ _ _ r h=>by simp [cadencelaw12_MergeRows.j3] at h⟩
 | k+1=>by
  obtain ⟨ih0,ih1,ih2,ih3,ih4,ih5⟩:=cadencelaw12_MergeRows.mono_l k
  refine ⟨?_,?_,?_,?_,?_,?_⟩
  ·intro y0 y1 y2 y3 y4 y5 y6 y7 y8 y9 y10 y11
   unfold cadencelaw12_MergeRows.l0
   repeat' first
   | (with_reducible exact ih0 _ _ _ _ _ _ _ _ _ _ _ _)
   | (with_reducible exact ih1 _ _ _ _ _ _ _ _ _ _ _ _ _ _ _ _ _ _)
   | (with_reducible exact ih2 _ _ _ _ _ _ _ _ _ _ _ _ _)
   | (with_reducible exact ih3 _ _ _ _ _ _ _ _ _ _ _ _ _ _ _ _ _ _ _ _ _)
   | (with_reducible exact ih4 _ _ _ _ _ _ _ _ _ _ _ _ _ _ _ _ _ _ _ _)
   | (with_reducible exact ih5 _ _ _ _ _ _ _ _ _ _ _ _ _ _ _ _ _ _ _)
   | (with_reducible exact cadencelaw12_row.mono _ _)
   | (with_reducible exact cadencelaw12_value.mono _ _ _)
   | (with_reducible exact LeO.refl _)
   | (with_reducible exact LeO.none _)
   | (with_reducible refine LeO.ite ?_ ?_)
   | (with_reducible refine LeO.bind ?_ (fun _=>?_))
   | exact ih0 _ _ _ _ _ _ _ _ _ _ _ _
   | exact ih1 _ _ _ _ _ _ _ _ _ _ _ _ _ _ _ _ _ _
   | exact ih2 _ _ _ _ _ _ _ _ _ _ _ _ _
   | exact ih3 _ _ _ _ _ _ _ _ _ _ _ _ _ _ _ _ _ _ _ _ _
   | exact ih4 _ _ _ _ _ _ _ _ _ _ _ _ _ _ _ _ _ _ _ _
   | exact ih5 _ _ _ _ _ _ _ _ _ _ _ _ _ _ _ _ _ _ _
   | exact cadencelaw12_row.mono _ _
   | exact cadencelaw12_value.mono _ _ _
   | exact LeO.none _
   | refine LeO.ite ?_ ?_
   | refine LeO.bind ?_ (fun _=>?_)
  ·intro y0 y1 y2 y3 y4 y5 y6 y7 y8 y9 y10 y11 y12 y13 y14 y15 y16 y17
   unfold cadencelaw12_MergeRows.j4
   repeat' first
   | (with_reducible exact ih0 _ _ _ _ _ _ _ _ _ _ _ _)
   | (with_reducible exact ih1 _ _ _ _ _ _ _ _ _ _ _ _ _ _ _ _ _ _)
   | (with_reducible exact ih2 _ _ _ _ _ _ _ _ _ _ _ _ _)
   | (with_reducible exact ih3 _ _ _ _ _ _ _ _ _ _ _ _ _ _ _ _ _ _ _ _ _)
   | (with_reducible exact ih4 _ _ _ _ _ _ _ _ _ _ _ _ _ _ _ _ _ _ _ _)
   | (with_reducible exact ih5 _ _ _ _ _ _ _ _ _ _ _ _ _ _ _ _ _ _ _)
   | (with_reducible exact cadencelaw12_row.mono _ _)
   | (with_reducible exact cadencelaw12_value.mono _ _ _)
   | (with_reducible exact LeO.refl _)
   | (with_reducible exact LeO.none _)
   | (with_reducible refine LeO.ite ?_ ?_)
   | (with_reducible refine LeO.bind ?_ (fun _=>?_))
   | exact ih0 _ _ _ _ _ _ _ _ _ _ _ _
   | exact ih1 _ _ _ _ _ _ _ _ _ _ _ _ _ _ _ _ _ _
   | exact ih2 _ _ _ _ _ _ _ _ _ _ _ _ _
   | exact ih3 _ _ _ _ _ _ _ _ _ _ _ _ _ _ _ _ _ _ _ _ _
   | exact ih4 _ _ _ _ _ _ _ _ _ _ _ _ _ _ _ _ _ _ _ _
   | exact ih5 _ _ _ _ _ _ _ _ _ _ _ _ _ _ _ _ _ _ _
   | exact cadencelaw12_row.mono _ _
   | exact cadencelaw12_value.mono _ _ _
   | exact LeO.none _
   | refine LeO.ite ?_ ?_
   | refine LeO.bind ?_ (fun _=>?_)
  ·intro y0 y1 y2 y3 y4 y5 y6 y7 y8 y9 y10 y11 y12
   unfold cadencelaw12_MergeRows.j5
   repeat' first
   | (with_reducible exact ih0 _ _ _ _ _ _ _ _ _ _ _ _)
   | (with_reducible exact ih1 _ _ _ _ _ _ _ _ _ _ _ _ _ _ _ _ _ _)
   | (with_reducible exact ih2 _ _ _ _ _ _ _ _ _ _ _ _ _)
   | (with_reducible exact ih3 _ _ _ _ _ _ _ _ _ _ _ _ _ _ _ _ _ _ _ _ _)
   | (with_reducible exact ih4 _ _ _ _ _ _ _ _ _ _ _ _ _ _ _ _ _ _ _ _)
   | (with_reducible exact ih5 _ _ _ _ _ _ _ _ _ _ _ _ _ _ _ _ _ _ _)
   | (with_reducible exact cadencelaw12_row.mono _ _)
   | (with_reducible exact cadencelaw12_value.mono _ _ _)
   | (with_reducible exact LeO.refl _)
   | (with_reducible exact LeO.none _)
   | (with_reducible refine LeO.ite ?_ ?_)
   | (with_reducible refine LeO.bind ?_ (fun _=>?_))
   | exact ih0 _ _ _ _ _ _ _ _ _ _ _ _
   | exact ih1 _ _ _ _ _ _ _ _ _ _ _ _ _ _ _ _ _ _
   | exact ih2 _ _ _ _ _ _ _ _ _ _ _ _ _
   | exact ih3 _ _ _ _ _ _ _ _ _ _ _ _ _ _ _ _ _ _ _ _ _
   | exact ih4 _ _ _ _ _ _ _ _ _ _ _ _ _ _ _ _ _ _ _ _
   | exact ih5 _ _ _ _ _ _ _ _ _ _ _ _ _ _ _ _ _ _ _
   | exact cadencelaw12_row.mono _ _
   | exact cadencelaw12_value.mono _ _ _
   | exact LeO.none _
   | refine LeO.ite ?_ ?_
   | refine LeO.bind ?_ (fun _=>?_)
  ·intro y0 y1 y2 y3 y4 y5 y6 y7 y8 y9 y10 y11 y12 y13 y14 y15 y16 y17 y18 y19 y20
   unfold cadencelaw12_MergeRows.j1
   repeat' first
   | (with_reducible exact ih0 _ _ _ _ _ _ _ _ _ _ _ _)
   | (with_reducible exact ih1 _ _ _ _ _ _ _ _ _ _ _ _ _ _ _ _ _ _)
   | (with_reducible exact ih2 _ _ _ _ _ _ _ _ _ _ _ _ _)
   | (with_reducible exact ih3 _ _ _ _ _ _ _ _ _ _ _ _ _ _ _ _ _ _ _ _ _)
   | (with_reducible exact ih4 _ _ _ _ _ _ _ _ _ _ _ _ _ _ _ _ _ _ _ _)
   | (with_reducible exact ih5 _ _ _ _ _ _ _ _ _ _ _ _ _ _ _ _ _ _ _)
   | (with_reducible exact cadencelaw12_row.mono _ _)
   | (with_reducible exact cadencelaw12_value.mono _ _ _)
   | (with_reducible exact LeO.refl _)
   | (with_reducible exact LeO.none _)
   | (with_reducible refine LeO.ite ?_ ?_)
   | (with_reducible refine LeO.bind ?_ (fun _=>?_))
   | exact ih0 _ _ _ _ _ _ _ _ _ _ _ _
   | exact ih1 _ _ _ _ _ _ _ _ _ _ _ _ _ _ _ _ _ _
   | exact ih2 _ _ _ _ _ _ _ _ _ _ _ _ _
   | exact ih3 _ _ _ _ _ _ _ _ _ _ _ _ _ _ _ _ _ _ _ _ _
   | exact ih4 _ _ _ _ _ _ _ _ _ _ _ _ _ _ _ _ _ _ _ _
   | exact ih5 _ _ _ _ _ _ _ _ _ _ _ _ _ _ _ _ _ _ _
   | exact cadencelaw12_row.mono _ _
   | exact cadencelaw12_value.mono _ _ _
   | exact LeO.none _
   | refine LeO.ite ?_ ?_
   | refine LeO.bind ?_ (fun _=>?_)
  ·intro y0 y1 y2 y3 y4 y5 y6 y7 y8 y9 y10 y11 y12 y13 y14 y15 y16 y17 y18 y19
   unfold cadencelaw12_MergeRows.j2
   repeat' first
   | (with_reducible exact ih0 _ _ _ _ _ _ _ _ _ _ _ _)
   | (with_reducible exact ih1 _ _ _ _ _ _ _ _ _ _ _ _ _ _ _ _ _ _)
   | (with_reducible exact ih2 _ _ _ _ _ _ _ _ _ _ _ _ _)
   | (with_reducible exact ih3 _ _ _ _ _ _ _ _ _ _ _ _ _ _ _ _ _ _ _ _ _)
   | (with_reducible exact ih4 _ _ _ _ _ _ _ _ _ _ _ _ _ _ _ _ _ _ _ _)
   | (with_reducible exact ih5 _ _ _ _ _ _ _ _ _ _ _ _ _ _ _ _ _ _ _)
   | (with_reducible exact cadencelaw12_row.mono _ _)
   | (with_reducible exact cadencelaw12_value.mono _ _ _)
   | (with_reducible exact LeO.refl _)
   | (with_reducible exact LeO.none _)
   | (with_reducible refine LeO.ite ?_ ?_)
   | (with_reducible refine LeO.bind ?_ (fun _=>?_))
   | exact ih0 _ _ _ _ _ _ _ _ _ _ _ _
   | exact ih1 _ _ _ _ _ _ _ _ _ _ _ _ _ _ _ _ _ _
   | exact ih2 _ _ _ _ _ _ _ _ _ _ _ _ _
   | exact ih3 _ _ _ _ _ _ _ _ _ _ _ _ _ _ _ _ _ _ _ _ _
   | exact ih4 _ _ _ _ _ _ _ _ _ _ _ _ _ _ _ _ _ _ _ _
   | exact ih5 _ _ _ _ _ _ _ _ _ _ _ _ _ _ _ _ _ _ _
   | exact cadencelaw12_row.mono _ _
   | exact cadencelaw12_value.mono _ _ _
   | exact LeO.none _
   | refine LeO.ite ?_ ?_
   | refine LeO.bind ?_ (fun _=>?_)
  ·intro y0 y1 y2 y3 y4 y5 y6 y7 y8 y9 y10 y11 y12 y13 y14 y15 y16 y17 y18
   unfold cadencelaw12_MergeRows.j3
   repeat' first
   | (with_reducible exact ih0 _ _ _ _ _ _ _ _ _ _ _ _)
   | (with_reducible exact ih1 _ _ _ _ _ _ _ _ _ _ _ _ _ _ _ _ _ _)
   | (with_reducible exact ih2 _ _ _ _ _ _ _ _ _ _ _ _ _)
   | (with_reducible exact ih3 _ _ _ _ _ _ _ _ _ _ _ _ _ _ _ _ _ _ _ _ _)
   | (with_reducible exact ih4 _ _ _ _ _ _ _ _ _ _ _ _ _ _ _ _ _ _ _ _)
   | (with_reducible exact ih5 _ _ _ _ _ _ _ _ _ _ _ _ _ _ _ _ _ _ _)
   | (with_reducible exact cadencelaw12_row.mono _ _)
   | (with_reducible exact cadencelaw12_value.mono _ _ _)
   | (with_reducible exact LeO.refl _)
   | (with_reducible exact LeO.none _)
   | (with_reducible refine LeO.ite ?_ ?_)
   | (with_reducible refine LeO.bind ?_ (fun _=>?_))
   | exact ih0 _ _ _ _ _ _ _ _ _ _ _ _
   | exact ih1 _ _ _ _ _ _ _ _ _ _ _ _ _ _ _ _ _ _
   | exact ih2 _ _ _ _ _ _ _ _ _ _ _ _ _
   | exact ih3 _ _ _ _ _ _ _ _ _ _ _ _ _ _ _ _ _ _ _ _ _
   | exact ih4 _ _ _ _ _ _ _ _ _ _ _ _ _ _ _ _ _ _ _ _
   | exact ih5 _ _ _ _ _ _ _ _ _ _ _ _ _ _ _ _ _ _ _
   | exact cadencelaw12_row.mono _ _
   | exact cadencelaw12_value.mono _ _ _
   | exact LeO.none _
   | refine LeO.ite ?_ ?_
   | refine LeO.bind ?_ (fun _=>?_)
theorem cadencelaw12_MergeRows.mono:∀ a0 a1 a2 k,LeO (cadencelaw12_MergeRows.f k a0 a1 a2) (cadencelaw12_MergeRows.f (k+1) a0 a1 a2):=by
 intro a0 a1 a2 k
 obtain ⟨ih0,ih1,ih2,ih3,ih4,ih5⟩:=cadencelaw12_MergeRows.mono_l k
 unfold cadencelaw12_MergeRows.f
 repeat' first
   | (with_reducible exact ih0 _ _ _ _ _ _ _ _ _ _ _ _)
   | (with_reducible exact ih1 _ _ _ _ _ _ _ _ _ _ _ _ _ _ _ _ _ _)
   | (with_reducible exact ih2 _ _ _ _ _ _ _ _ _ _ _ _ _)
   | (with_reducible exact ih3 _ _ _ _ _ _ _ _ _ _ _ _ _ _ _ _ _ _ _ _ _)
   | (with_reducible exact ih4 _ _ _ _ _ _ _ _ _ _ _ _ _ _ _ _ _ _ _ _)
   | (with_reducible exact ih5 _ _ _ _ _ _ _ _ _ _ _ _ _ _ _ _ _ _ _)
   | (with_reducible exact cadencelaw12_row.mono _ _)
   | (with_reducible exact cadencelaw12_value.mono _ _ _)
   | (with_reducible exact LeO.refl _)
   | (with_reducible exact LeO.none _)
   | (with_reducible refine LeO.ite ?_ ?_)
   | (with_reducible refine LeO.bind ?_ (fun _=>?_))
   | exact ih0 _ _ _ _ _ _ _ _ _ _ _ _
   | exact ih1 _ _ _ _ _ _ _ _ _ _ _ _ _ _ _ _ _ _
   | exact ih2 _ _ _ _ _ _ _ _ _ _ _ _ _
   | exact ih3 _ _ _ _ _ _ _ _ _ _ _ _ _ _ _ _ _ _ _ _ _
   | exact ih4 _ _ _ _ _ _ _ _ _ _ _ _ _ _ _ _ _ _ _ _
   | exact ih5 _ _ _ _ _ _ _ _ _ _ _ _ _ _ _ _ _ _ _
   | exact cadencelaw12_row.mono _ _
   | exact cadencelaw12_value.mono _ _ _
   | exact LeO.none _
   | refine LeO.ite ?_ ?_
   | refine LeO.bind ?_ (fun _=>?_)
def cadencelaw12_MergeRows.T10:Bool × List (List Nat × List Nat):=(true,[([],[]),([0],[0]),([],[]),([1,2],[1,2]),([],[]),([4],[4]),([],[]),([5,6,3],[5,6]),([],[]),([8],[8]),([],[]),([9,10,7],[9,10]),([3,11,0,1,2,3],[3]),([7,12,0,1,2,3,4,5,6,7,12],[7]),([11,13,0,1,2,3,4,5,6,7,8,9,10,11,12,13],[11])])
def cadencelaw12_MergeRows.B10:List Nat:=[0,1,0,7,0,16,0,127,0,256,0,2047,4095,8191,16383]
theorem cadencelaw12_MergeRows.tab10:rtab .any (opsOf Try.f3 10)=cadencelaw12_MergeRows.T10:=by kernel_rfl
theorem cadencelaw12_MergeRows.bits10:waitsOk cadencelaw12_MergeRows.T10.2 cadencelaw12_MergeRows.B10=true:=by kernel_rfl
set_option maxHeartbeats 8000000 in
set_option maxRecDepth 100000 in
theorem cadencelaw12_MergeRows.calls (k:Nat) (a0:Int) (a1:Int) (a2:Int) (r:Bool) (w:World) (h:cadencelaw12_MergeRows.f k a0 a1 a2=some r) :
  Calls Try.prog 3 #[.int .i64 a0,.int .i64 a1,.int .i64 a2] w fun e w'=>e=.returned (.bool r)∧Below w.heap.size w w':=by
 have hu26:=Try.underlying26
 have HB:=Aside0.mk (Below.refl w.heap.size w)
 have H:((cadencelaw12_known.f).bind fun t229=>(if t229=true then ((cadencelaw12_one.f).bind fun t230=>((cadencelaw12_row.f k a0).bind fun t233=>((cadencelaw12_some.f t233).bind fun bt236=>((cadencelaw12_row.f k a1).bind fun t240=>((cadencelaw12_some.f t240).bind fun bt243=>((cadencelaw12_row.f k a2).bind fun t247=>((cadencelaw12_some.f t247).bind fun bt250=>((merge_Merge.f t230 bt236.1 bt236.2 bt243.1 bt243.2 bt250.1 bt250.2).bind fun bt254=>(cadencelaw12_MergeRows.l0 k a0 a1 a2 bt254.2.2.2.2.2.2 0 0 bt254.1 bt254.2.1 bt254.2.2.1 bt254.2.2.2.1 bt254.2.2.2.2.1 bt254.2.2.2.2.2.1))))))))) else (none)))=some r:=h
 clear h
 replace H:=Option.bind_eq_some_iff.mp H
 obtain ⟨t229,A40,H⟩:=H
 replace H:(if t229=true then ((cadencelaw12_one.f).bind fun t230=>((cadencelaw12_row.f k a0).bind fun t233=>((cadencelaw12_some.f t233).bind fun bt236=>((cadencelaw12_row.f k a1).bind fun t240=>((cadencelaw12_some.f t240).bind fun bt243=>((cadencelaw12_row.f k a2).bind fun t247=>((cadencelaw12_some.f t247).bind fun bt250=>((merge_Merge.f t230 bt236.1 bt236.2 bt243.1 bt243.2 bt250.1 bt250.2).bind fun bt254=>(cadencelaw12_MergeRows.l0 k a0 a1 a2 bt254.2.2.2.2.2.2 0 0 bt254.1 bt254.2.1 bt254.2.2.1 bt254.2.2.2.1 bt254.2.2.2.2.1 bt254.2.2.2.2.2.1))))))))) else (none))=some r:=H
 have A4:=Aside0.mk A40
 clear A40
 by_cases c5:t229=true
 ·subst c5
  have H1:((cadencelaw12_one.f).bind fun t230=>((cadencelaw12_row.f k a0).bind fun t233=>((cadencelaw12_some.f t233).bind fun bt236=>((cadencelaw12_row.f k a1).bind fun t240=>((cadencelaw12_some.f t240).bind fun bt243=>((cadencelaw12_row.f k a2).bind fun t247=>((cadencelaw12_some.f t247).bind fun bt250=>((merge_Merge.f t230 bt236.1 bt236.2 bt243.1 bt243.2 bt250.1 bt250.2).bind fun bt254=>(cadencelaw12_MergeRows.l0 k a0 a1 a2 bt254.2.2.2.2.2.2 0 0 bt254.1 bt254.2.1 bt254.2.2.1 bt254.2.2.2.1 bt254.2.2.2.2.1 bt254.2.2.2.2.2.1)))))))))=some r:=by rw [if_pos rfl] at H;exact H
  clear H
  have H:=H1
  clear H1
  replace H:=Option.bind_eq_some_iff.mp H
  obtain ⟨t230,A60,H⟩:=H
  replace H:((cadencelaw12_row.f k a0).bind fun t233=>((cadencelaw12_some.f t233).bind fun bt236=>((cadencelaw12_row.f k a1).bind fun t240=>((cadencelaw12_some.f t240).bind fun bt243=>((cadencelaw12_row.f k a2).bind fun t247=>((cadencelaw12_some.f t247).bind fun bt250=>((merge_Merge.f t230 bt236.1 bt236.2 bt243.1 bt243.2 bt250.1 bt250.2).bind fun bt254=>(cadencelaw12_MergeRows.l0 k a0 a1 a2 bt254.2.2.2.2.2.2 0 0 bt254.1 bt254.2.1 bt254.2.2.1 bt254.2.2.2.1 bt254.2.2.2.2.1 bt254.2.2.2.2.2.1))))))))=some r:=H
  have A6:=Aside0.mk A60
  clear A60
  replace H:=Option.bind_eq_some_iff.mp H
  obtain ⟨t233,A70,H⟩:=H
  replace H:((cadencelaw12_some.f t233).bind fun bt236=>((cadencelaw12_row.f k a1).bind fun t240=>((cadencelaw12_some.f t240).bind fun bt243=>((cadencelaw12_row.f k a2).bind fun t247=>((cadencelaw12_some.f t247).bind fun bt250=>((merge_Merge.f t230 bt236.1 bt236.2 bt243.1 bt243.2 bt250.1 bt250.2).bind fun bt254=>(cadencelaw12_MergeRows.l0 k a0 a1 a2 bt254.2.2.2.2.2.2 0 0 bt254.1 bt254.2.1 bt254.2.2.1 bt254.2.2.2.1 bt254.2.2.2.2.1 bt254.2.2.2.2.2.1)))))))=some r:=H
  have A7:=Aside0.mk A70
  clear A70
  replace H:=Option.bind_eq_some_iff.mp H
  obtain ⟨⟨t236,t237⟩,A80,H⟩:=H
  replace H:((cadencelaw12_row.f k a1).bind fun t240=>((cadencelaw12_some.f t240).bind fun bt243=>((cadencelaw12_row.f k a2).bind fun t247=>((cadencelaw12_some.f t247).bind fun bt250=>((merge_Merge.f t230 t236 t237 bt243.1 bt243.2 bt250.1 bt250.2).bind fun bt254=>(cadencelaw12_MergeRows.l0 k a0 a1 a2 bt254.2.2.2.2.2.2 0 0 bt254.1 bt254.2.1 bt254.2.2.1 bt254.2.2.2.1 bt254.2.2.2.2.1 bt254.2.2.2.2.2.1))))))=some r:=H
  have A8:=Aside0.mk A80
  clear A80
  replace H:=Option.bind_eq_some_iff.mp H
  obtain ⟨t240,A90,H⟩:=H
  replace H:((cadencelaw12_some.f t240).bind fun bt243=>((cadencelaw12_row.f k a2).bind fun t247=>((cadencelaw12_some.f t247).bind fun bt250=>((merge_Merge.f t230 t236 t237 bt243.1 bt243.2 bt250.1 bt250.2).bind fun bt254=>(cadencelaw12_MergeRows.l0 k a0 a1 a2 bt254.2.2.2.2.2.2 0 0 bt254.1 bt254.2.1 bt254.2.2.1 bt254.2.2.2.1 bt254.2.2.2.2.1 bt254.2.2.2.2.2.1)))))=some r:=H
  have A9:=Aside0.mk A90
  clear A90
  replace H:=Option.bind_eq_some_iff.mp H
  obtain ⟨⟨t243,t244⟩,A100,H⟩:=H
  replace H:((cadencelaw12_row.f k a2).bind fun t247=>((cadencelaw12_some.f t247).bind fun bt250=>((merge_Merge.f t230 t236 t237 t243 t244 bt250.1 bt250.2).bind fun bt254=>(cadencelaw12_MergeRows.l0 k a0 a1 a2 bt254.2.2.2.2.2.2 0 0 bt254.1 bt254.2.1 bt254.2.2.1 bt254.2.2.2.1 bt254.2.2.2.2.1 bt254.2.2.2.2.2.1))))=some r:=H
  have A10:=Aside0.mk A100
  clear A100
  replace H:=Option.bind_eq_some_iff.mp H
  obtain ⟨t247,A110,H⟩:=H
  replace H:((cadencelaw12_some.f t247).bind fun bt250=>((merge_Merge.f t230 t236 t237 t243 t244 bt250.1 bt250.2).bind fun bt254=>(cadencelaw12_MergeRows.l0 k a0 a1 a2 bt254.2.2.2.2.2.2 0 0 bt254.1 bt254.2.1 bt254.2.2.1 bt254.2.2.2.1 bt254.2.2.2.2.1 bt254.2.2.2.2.2.1)))=some r:=H
  have A11:=Aside0.mk A110
  clear A110
  replace H:=Option.bind_eq_some_iff.mp H
  obtain ⟨⟨t250,t251⟩,A120,H⟩:=H
  replace H:((merge_Merge.f t230 t236 t237 t243 t244 t250 t251).bind fun bt254=>(cadencelaw12_MergeRows.l0 k a0 a1 a2 bt254.2.2.2.2.2.2 0 0 bt254.1 bt254.2.1 bt254.2.2.1 bt254.2.2.2.1 bt254.2.2.2.2.1 bt254.2.2.2.2.2.1))=some r:=H
  have A12:=Aside0.mk A120
  clear A120
  replace H:=Option.bind_eq_some_iff.mp H
  obtain ⟨⟨t254,t255,t258,t259,t262,t263,t266⟩,A130,H⟩:=H
  replace H:(cadencelaw12_MergeRows.l0 k a0 a1 a2 t266 0 0 t254 t255 t258 t259 t262 t263)=some r:=H
  have A13:=Aside0.mk A130
  clear A130
  have H':=Aside0.mk H
  clear H
  go_enter Try.func3,Try.ntmps3
  go_wp2_with (first|((with_reducible refine gate_callee (f:=7) rfl ?_);refine goesL_ (some 21) rfl rfl Try.func7 (by kernel_rfl) rfl #[] rfl (by (try simp only [List.map_toArray,List.map_cons,List.map_nil]);first|done|rfl|(simp only [List.length_drop,List.length_take];rfl)) ?_;(with_reducible refine (cadencelaw12_known.calls  true _ A4.out).mono ?_);rintro e w14 ⟨rfl,hb⟩;refine ⟨_,rfl,?_⟩;have n0_:=Aside0.mk (below_step (by repeat (first|(with_reducible first|exact HB.out|apply bA_|apply bN_|apply bD_)|exact HB.out)) hb);clear HB;have HB:=n0_;clear n0_;(try clear hb);(try clear hb2);(try clear hk);(try clear hi))|((with_reducible refine gate_callee (f:=9) rfl ?_);refine goesL_ (some 24) rfl rfl Try.func9 (by kernel_rfl) rfl #[] rfl (by (try simp only [List.map_toArray,List.map_cons,List.map_nil]);first|done|rfl|(simp only [List.length_drop,List.length_take];rfl)) ?_;(with_reducible refine (cadencelaw12_one.calls  t230 _ A6.out).mono ?_);rintro e w15 ⟨v231,rfl,ho0,hb⟩;refine ⟨_,rfl,?_⟩;have n0_:=Aside0.mk (Kd.N_lower (Kd.N_mono (ok':=fun k_=>True) ho0 (fun k_ hk_=>trivial)) (below_size (by repeat (first|(with_reducible first|exact HB.out|apply bA_|apply bN_|apply bD_)|exact HB.out))));have n1_:=Aside0.mk (below_step (by repeat (first|(with_reducible first|exact HB.out|apply bA_|apply bN_|apply bD_)|exact HB.out)) hb);clear HB;have HO232:=n0_;have HB:=n1_;clear n0_ n1_;(try clear hb);(try clear hb2);(try clear hk);(try clear hi);(try clear ho0))|((with_reducible refine gate_callee (f:=11) rfl ?_);refine goesL_ (some 26) rfl rfl Try.func11 (by kernel_rfl) rfl #[.int .i64 a0] rfl (by (try simp only [List.map_toArray,List.map_cons,List.map_nil]);first|done|rfl|(simp only [List.length_drop,List.length_take];rfl)) ?_;(with_reducible refine (cadencelaw12_row.calls k a0 t233 _ A7.out).mono ?_);rintro e w16 ⟨v234,rfl,ho0,hb⟩;refine ⟨_,rfl,?_⟩;have n0_:=Aside0.mk (Kd.N_elder' (by (with_reducible repeat (first|apply nA_|apply nN_|apply nD_));exact HO232.out) (Kd.N_base ho0) hb);have n1_:=Aside0.mk (Kd.N_lower (Kd.N_mono (ok':=fun k_=>some k_≠(v231:Value).ownBlock) ho0 (fun k_ hk_=>(Kd.fresh' (Kd.N_lt (by (with_reducible repeat (first|apply nA_|apply nN_|apply nD_));exact HO232.out)) k_ hk_))) (below_size (by repeat (first|(with_reducible first|exact HB.out|apply bA_|apply bN_|apply bD_)|exact HB.out))));have n2_:=Aside0.mk (below_step (by repeat (first|(with_reducible first|exact HB.out|apply bA_|apply bN_|apply bD_)|exact HB.out)) hb);clear HO232;clear HB;have HO232:=n0_;have HO235:=n1_;have HB:=n2_;clear n0_ n1_ n2_;(try clear hb);(try clear hb2);(try clear hk);(try clear hi);(try clear ho0);obtain ⟨Ao17,co17,eo17⟩:=Kd.N_slice HO235.out;subst eo17)|((with_reducible refine gate_callee (f:=10) rfl ?_);refine goesL_ (some 27) rfl rfl Try.func10 (by kernel_rfl) rfl #[.slice Ao17 t233.length co17] rfl (by (try simp only [List.map_toArray,List.map_cons,List.map_nil]);first|done|rfl|(simp only [List.length_drop,List.length_take];rfl)) ?_;(with_reducible refine (cadencelaw12_some.calls (fun k_=>some k_≠(v231:Value).ownBlock) _ _ t233 t236 t237 _ ?side1 A8.out).mono ?_);(case side1=>exact Kd.N_V (HO235.out));rintro e w18 ⟨v238,rfl,ho0,hb⟩;refine ⟨_,rfl,?_⟩;have n0_:=Aside0.mk (Kd.N_below (by (with_reducible repeat (first|apply nA_|apply nN_|apply nD_));exact HO232.out) hb);have n1_:=Aside0.mk (Kd.N_below (by (with_reducible repeat (first|apply nA_|apply nN_|apply nD_));exact HO235.out) hb);have n2_:=Aside0.mk (Kd.V_lower (Kd.V_mono (ok':=fun k_=>some k_≠(v231:Value).ownBlock) ho0 (fun k_ hk_=>Or.elim hk_ (fun hs_=>hs_) (fun hn_=>(Kd.fresh' (Kd.N_lt (by (with_reducible repeat (first|apply nA_|apply nN_|apply nD_));exact HO232.out)) k_ hn_)))) (below_size (by repeat (first|(with_reducible first|exact HB.out|apply bA_|apply bN_|apply bD_)|exact HB.out))));have n3_:=Aside0.mk (below_step (by repeat (first|(with_reducible first|exact HB.out|apply bA_|apply bN_|apply bD_)|exact HB.out)) hb);clear HO232;clear HO235;clear HB;have HO232:=n0_;have HO235:=n1_;have HO239:=n2_;have HB:=n3_;clear n0_ n1_ n2_ n3_;(try clear hb);(try clear hb2);(try clear hk);(try clear hi);(try clear ho0))|((with_reducible refine gate_callee (f:=11) rfl ?_);refine goesL_ (some 29) rfl rfl Try.func11 (by kernel_rfl) rfl #[.int .i64 a1] rfl (by (try simp only [List.map_toArray,List.map_cons,List.map_nil]);first|done|rfl|(simp only [List.length_drop,List.length_take];rfl)) ?_;(with_reducible refine (cadencelaw12_row.calls k a1 t240 _ A9.out).mono ?_);rintro e w19 ⟨v241,rfl,ho0,hb⟩;refine ⟨_,rfl,?_⟩;have n0_:=Aside0.mk (Kd.N_elder' (by (with_reducible repeat (first|apply nA_|apply nN_|apply nD_));exact HO232.out) (Kd.N_base ho0) hb);have n1_:=Aside0.mk (Kd.N_elder' (by (with_reducible repeat (first|apply nA_|apply nN_|apply nD_));exact HO235.out) (Kd.N_base ho0) hb);have n2_:=Aside0.mk (Kd.V_elder' (by (with_reducible repeat (first|apply vA_|apply vN_|apply vD_));exact HO239.out) (Kd.N_base ho0) hb);have n3_:=Aside0.mk (Kd.N_lower (Kd.N_mono (ok':=fun k_=>some k_≠(v231:Value).ownBlock∧some k_≠(.slice Ao17 t233.length co17:Value).ownBlock) ho0 (fun k_ hk_=>⟨(Kd.fresh' (Kd.N_lt (by (with_reducible repeat (first|apply nA_|apply nN_|apply nD_));exact HO232.out)) k_ hk_),(Kd.fresh' (Kd.N_lt (by (with_reducible repeat (first|apply nA_|apply nN_|apply nD_));exact HO235.out)) k_ hk_)⟩)) (below_size (by repeat (first|(with_reducible first|exact HB.out|apply bA_|apply bN_|apply bD_)|exact HB.out))));have n4_:=Aside0.mk (below_step (by repeat (first|(with_reducible first|exact HB.out|apply bA_|apply bN_|apply bD_)|exact HB.out)) hb);clear HO232;clear HO235;clear HO239;clear HB;have HO232:=n0_;have HO235:=n1_;have HO239:=n2_;have HO242:=n3_;have HB:=n4_;clear n0_ n1_ n2_ n3_ n4_;(try clear hb);(try clear hb2);(try clear hk);(try clear hi);(try clear ho0);obtain ⟨Ao20,co20,eo20⟩:=Kd.N_slice HO242.out;subst eo20)|((with_reducible refine gate_callee (f:=10) rfl ?_);refine goesL_ (some 30) rfl rfl Try.func10 (by kernel_rfl) rfl #[.slice Ao20 t240.length co20] rfl (by (try simp only [List.map_toArray,List.map_cons,List.map_nil]);first|done|rfl|(simp only [List.length_drop,List.length_take];rfl)) ?_;(with_reducible refine (cadencelaw12_some.calls (fun k_=>(some k_≠(v231:Value).ownBlock∧some k_≠(.slice Ao17 t233.length co17:Value).ownBlock)) _ _ t240 t243 t244 _ ?side1 A10.out).mono ?_);(case side1=>exact Kd.N_V (HO242.out));rintro e w21 ⟨v245,rfl,ho0,hb⟩;refine ⟨_,rfl,?_⟩;have n0_:=Aside0.mk (Kd.N_below (by (with_reducible repeat (first|apply nA_|apply nN_|apply nD_));exact HO232.out) hb);have n1_:=Aside0.mk (Kd.N_below (by (with_reducible repeat (first|apply nA_|apply nN_|apply nD_));exact HO235.out) hb);have n2_:=Aside0.mk (Kd.V_below (by (with_reducible repeat (first|apply vA_|apply vN_|apply vD_));exact HO239.out) hb);have n3_:=Aside0.mk (Kd.N_below (by (with_reducible repeat (first|apply nA_|apply nN_|apply nD_));exact HO242.out) hb);have n4_:=Aside0.mk (Kd.V_lower (Kd.V_mono (ok':=fun k_=>some k_≠(v231:Value).ownBlock∧some k_≠(.slice Ao17 t233.length co17:Value).ownBlock) ho0 (fun k_ hk_=>⟨Or.elim hk_ (fun hs_=>hs_.1) (fun hn_=>(Kd.fresh' (Kd.N_lt (by (with_reducible repeat (first|apply nA_|apply nN_|apply nD_));exact HO232.out)) k_ hn_)),Or.elim hk_ (fun hs_=>hs_.2) (fun hn_=>(Kd.fresh' (Kd.N_lt (by (with_reducible repeat (first|apply nA_|apply nN_|apply nD_));exact HO235.out)) k_ hn_))⟩)) (below_size (by repeat (first|(with_reducible first|exact HB.out|apply bA_|apply bN_|apply bD_)|exact HB.out))));have n5_:=Aside0.mk (below_step (by repeat (first|(with_reducible first|exact HB.out|apply bA_|apply bN_|apply bD_)|exact HB.out)) hb);clear HO232;clear HO235;clear HO239;clear HO242;clear HB;have HO232:=n0_;have HO235:=n1_;have HO239:=n2_;have HO242:=n3_;have HO246:=n4_;have HB:=n5_;clear n0_ n1_ n2_ n3_ n4_ n5_;(try clear hb);(try clear hb2);(try clear hk);(try clear hi);(try clear ho0))|((with_reducible refine gate_callee (f:=11) rfl ?_);refine goesL_ (some 32) rfl rfl Try.func11 (by kernel_rfl) rfl #[.int .i64 a2] rfl (by (try simp only [List.map_toArray,List.map_cons,List.map_nil]);first|done|rfl|(simp only [List.length_drop,List.length_take];rfl)) ?_;(with_reducible refine (cadencelaw12_row.calls k a2 t247 _ A11.out).mono ?_);rintro e w22 ⟨v248,rfl,ho0,hb⟩;refine ⟨_,rfl,?_⟩;have n0_:=Aside0.mk (Kd.N_elder' (by (with_reducible repeat (first|apply nA_|apply nN_|apply nD_));exact HO232.out) (Kd.N_base ho0) hb);have n1_:=Aside0.mk (Kd.N_elder' (by (with_reducible repeat (first|apply nA_|apply nN_|apply nD_));exact HO235.out) (Kd.N_base ho0) hb);have n2_:=Aside0.mk (Kd.V_elder' (by (with_reducible repeat (first|apply vA_|apply vN_|apply vD_));exact HO239.out) (Kd.N_base ho0) hb);have n3_:=Aside0.mk (Kd.N_elder' (by (with_reducible repeat (first|apply nA_|apply nN_|apply nD_));exact HO242.out) (Kd.N_base ho0) hb);have n4_:=Aside0.mk (Kd.V_elder' (by (with_reducible repeat (first|apply vA_|apply vN_|apply vD_));exact HO246.out) (Kd.N_base ho0) hb);have n5_:=Aside0.mk (Kd.N_lower (Kd.N_mono (ok':=fun k_=>some k_≠(v231:Value).ownBlock∧some k_≠(.slice Ao17 t233.length co17:Value).ownBlock∧some k_≠(.slice Ao20 t240.length co20:Value).ownBlock) ho0 (fun k_ hk_=>⟨(Kd.fresh' (Kd.N_lt (by (with_reducible repeat (first|apply nA_|apply nN_|apply nD_));exact HO232.out)) k_ hk_),(Kd.fresh' (Kd.N_lt (by (with_reducible repeat (first|apply nA_|apply nN_|apply nD_));exact HO235.out)) k_ hk_),(Kd.fresh' (Kd.N_lt (by (with_reducible repeat (first|apply nA_|apply nN_|apply nD_));exact HO242.out)) k_ hk_)⟩)) (below_size (by repeat (first|(with_reducible first|exact HB.out|apply bA_|apply bN_|apply bD_)|exact HB.out))));have n6_:=Aside0.mk (below_step (by repeat (first|(with_reducible first|exact HB.out|apply bA_|apply bN_|apply bD_)|exact HB.out)) hb);clear HO232;clear HO235;clear HO239;clear HO242;clear HO246;clear HB;have HO232:=n0_;have HO235:=n1_;have HO239:=n2_;have HO242:=n3_;have HO246:=n4_;have HO249:=n5_;have HB:=n6_;clear n0_ n1_ n2_ n3_ n4_ n5_ n6_;(try clear hb);(try clear hb2);(try clear hk);(try clear hi);(try clear ho0);obtain ⟨Ao23,co23,eo23⟩:=Kd.N_slice HO249.out;subst eo23)|((with_reducible refine gate_callee (f:=10) rfl ?_);refine goesL_ (some 33) rfl rfl Try.func10 (by kernel_rfl) rfl #[.slice Ao23 t247.length co23] rfl (by (try simp only [List.map_toArray,List.map_cons,List.map_nil]);first|done|rfl|(simp only [List.length_drop,List.length_take];rfl)) ?_;(with_reducible refine (cadencelaw12_some.calls (fun k_=>(some k_≠(v231:Value).ownBlock∧(some k_≠(.slice Ao17 t233.length co17:Value).ownBlock∧some k_≠(.slice Ao20 t240.length co20:Value).ownBlock))) _ _ t247 t250 t251 _ ?side1 A12.out).mono ?_);(case side1=>exact Kd.N_V (HO249.out));rintro e w24 ⟨v252,rfl,ho0,hb⟩;refine ⟨_,rfl,?_⟩;have n0_:=Aside0.mk (Kd.N_below (by (with_reducible repeat (first|apply nA_|apply nN_|apply nD_));exact HO232.out) hb);have n1_:=Aside0.mk (Kd.N_below (by (with_reducible repeat (first|apply nA_|apply nN_|apply nD_));exact HO235.out) hb);have n2_:=Aside0.mk (Kd.V_below (by (with_reducible repeat (first|apply vA_|apply vN_|apply vD_));exact HO239.out) hb);have n3_:=Aside0.mk (Kd.N_below (by (with_reducible repeat (first|apply nA_|apply nN_|apply nD_));exact HO242.out) hb);have n4_:=Aside0.mk (Kd.V_below (by (with_reducible repeat (first|apply vA_|apply vN_|apply vD_));exact HO246.out) hb);have n5_:=Aside0.mk (Kd.N_below (by (with_reducible repeat (first|apply nA_|apply nN_|apply nD_));exact HO249.out) hb);have n6_:=Aside0.mk (Kd.V_lower (Kd.V_mono (ok':=fun k_=>some k_≠(v231:Value).ownBlock∧some k_≠(.slice Ao17 t233.length co17:Value).ownBlock∧some k_≠(.slice Ao20 t240.length co20:Value).ownBlock) ho0 (fun k_ hk_=>⟨Or.elim hk_ (fun hs_=>hs_.1) (fun hn_=>(Kd.fresh' (Kd.N_lt (by (with_reducible repeat (first|apply nA_|apply nN_|apply nD_));exact HO232.out)) k_ hn_)),Or.elim hk_ (fun hs_=>hs_.2.1) (fun hn_=>(Kd.fresh' (Kd.N_lt (by (with_reducible repeat (first|apply nA_|apply nN_|apply nD_));exact HO235.out)) k_ hn_)),Or.elim hk_ (fun hs_=>hs_.2.2) (fun hn_=>(Kd.fresh' (Kd.N_lt (by (with_reducible repeat (first|apply nA_|apply nN_|apply nD_));exact HO242.out)) k_ hn_))⟩)) (below_size (by repeat (first|(with_reducible first|exact HB.out|apply bA_|apply bN_|apply bD_)|exact HB.out))));have n7_:=Aside0.mk (below_step (by repeat (first|(with_reducible first|exact HB.out|apply bA_|apply bN_|apply bD_)|exact HB.out)) hb);clear HO232;clear HO235;clear HO239;clear HO242;clear HO246;clear HO249;clear HB;have HO232:=n0_;have HO235:=n1_;have HO239:=n2_;have HO242:=n3_;have HO246:=n4_;have HO249:=n5_;have HO253:=n6_;have HB:=n7_;clear n0_ n1_ n2_ n3_ n4_ n5_ n6_ n7_;(try clear hb);(try clear hb2);(try clear hk);(try clear hi);(try clear ho0);obtain ⟨Ao25,co25,eo25⟩:=Kd.N_slice HO232.out;subst eo25;obtain ⟨Ao26,co26,eo26⟩:=Kd.V_slice HO239.out;subst eo26;obtain ⟨Ao27,co27,eo27⟩:=Kd.V_slice HO246.out;subst eo27;obtain ⟨Ao28,co28,eo28⟩:=Kd.V_slice HO253.out;subst eo28)|((with_reducible refine gate_callee (f:=8) rfl ?_);refine goesL_ (some 34) rfl rfl Try.func8 (by kernel_rfl) rfl #[.slice Ao25 t230.length co25,.agg #[.bool t236,.slice Ao26 t237.length co26],.agg #[.bool t243,.slice Ao27 t244.length co27],.agg #[.bool t250,.slice Ao28 t251.length co28]] rfl (by (try simp only [List.map_toArray,List.map_cons,List.map_nil]);first|done|rfl|(simp only [List.length_drop,List.length_take];rfl)) ?_;(with_reducible refine (merge_Merge.calls (fun k_=>(((True∧some k_≠(.slice Ao17 t233.length co17:Value).ownBlock)∧some k_≠(.slice Ao20 t240.length co20:Value).ownBlock)∧some k_≠(.slice Ao23 t247.length co23:Value).ownBlock)) _ _ t230 t236 (fun k_=>((some k_≠(.slice Ao25 t230.length co25:Value).ownBlock∧some k_≠(.slice Ao20 t240.length co20:Value).ownBlock)∧some k_≠(.slice Ao23 t247.length co23:Value).ownBlock)) _ _ t237 t243 (fun k_=>((some k_≠(.slice Ao25 t230.length co25:Value).ownBlock∧some k_≠(.slice Ao17 t233.length co17:Value).ownBlock)∧some k_≠(.slice Ao23 t247.length co23:Value).ownBlock)) _ _ t244 t250 (fun k_=>(some k_≠(.slice Ao25 t230.length co25:Value).ownBlock∧(some k_≠(.slice Ao17 t233.length co17:Value).ownBlock∧some k_≠(.slice Ao20 t240.length co20:Value).ownBlock))) _ _ t251 t254 t255 t258 t259 t262 t263 t266 _ ?side1 ?side2 ?side3 ?side4 A13.out).mono ?_);(case side1=>exact Kd.N_V (HO232.out));(case side2=>exact HO239.out);(case side3=>exact HO246.out);(case side4=>exact HO253.out);rintro e w29 ⟨v256,v260,v264,v267,rfl,ho0,ho1,ho2,ho3,hb⟩;refine ⟨_,rfl,?_⟩;have n0_:=Aside0.mk (Kd.N_elder' (by (with_reducible repeat (first|apply nA_|apply nN_|apply nD_));exact HO232.out) (Kd.N_base ho3) hb);have n1_:=Aside0.mk (Kd.N_elder' (by (with_reducible repeat (first|apply nA_|apply nN_|apply nD_));exact HO235.out) (Kd.N_base ho3) hb);have n2_:=Aside0.mk (Kd.V_elder' (by (with_reducible repeat (first|apply vA_|apply vN_|apply vD_));exact HO239.out) (Kd.N_base ho3) hb);have n3_:=Aside0.mk (Kd.N_elder' (by (with_reducible repeat (first|apply nA_|apply nN_|apply nD_));exact HO242.out) (Kd.N_base ho3) hb);have n4_:=Aside0.mk (Kd.V_elder' (by (with_reducible repeat (first|apply vA_|apply vN_|apply vD_));exact HO246.out) (Kd.N_base ho3) hb);have n5_:=Aside0.mk (Kd.N_elder' (by (with_reducible repeat (first|apply nA_|apply nN_|apply nD_));exact HO249.out) (Kd.N_base ho3) hb);have n6_:=Aside0.mk (Kd.V_elder' (by (with_reducible repeat (first|apply vA_|apply vN_|apply vD_));exact HO253.out) (Kd.N_base ho3) hb);have n7_:=Aside0.mk (Kd.V_lower (Kd.V_mono (ok':=fun k_=>some k_≠(v267:Value).ownBlock) ho0 (fun k_ hk_=>hk_.2)) (below_size (by repeat (first|(with_reducible first|exact HB.out|apply bA_|apply bN_|apply bD_)|exact HB.out))));have n8_:=Aside0.mk (Kd.V_lower (Kd.V_mono (ok':=fun k_=>some k_≠(v267:Value).ownBlock) ho1 (fun k_ hk_=>hk_.2)) (below_size (by repeat (first|(with_reducible first|exact HB.out|apply bA_|apply bN_|apply bD_)|exact HB.out))));have n9_:=Aside0.mk (Kd.V_lower (Kd.V_mono (ok':=fun k_=>some k_≠(v267:Value).ownBlock) ho2 (fun k_ hk_=>hk_.2)) (below_size (by repeat (first|(with_reducible first|exact HB.out|apply bA_|apply bN_|apply bD_)|exact HB.out))));have n10_:=Aside0.mk (Kd.N_lower (Kd.N_mono (ok':=fun k_=>True) ho3 (fun k_ hk_=>trivial)) (below_size (by repeat (first|(with_reducible first|exact HB.out|apply bA_|apply bN_|apply bD_)|exact HB.out))));have n11_:=Aside0.mk (below_step (by repeat (first|(with_reducible first|exact HB.out|apply bA_|apply bN_|apply bD_)|exact HB.out)) hb);clear HO232;clear HO235;clear HO239;clear HO242;clear HO246;clear HO249;clear HO253;clear HB;have HO232:=n0_;have HO235:=n1_;have HO239:=n2_;have HO242:=n3_;have HO246:=n4_;have HO249:=n5_;have HO253:=n6_;have HO257:=n7_;have HO261:=n8_;have HO265:=n9_;have HO268:=n10_;have HB:=n11_;clear n0_ n1_ n2_ n3_ n4_ n5_ n6_ n7_ n8_ n9_ n10_ n11_;(try clear hb);(try clear hb2);(try clear hk);(try clear hi);(try clear ho0);(try clear ho1);(try clear ho2);(try clear ho3))|((with_reducible refine gate_dst (N:=7) rfl ?_);(try (refine gate_guard (by rfl) ?_;dsimp only));refine box_event ?hg (N:=7) ?hd (cs:=#[.bool false,.slice none 0 0]) (t:=26) ?hr ?_;(case hd=>rfl);(case hg=>rfl);(case hr=>first|(go_simp;done)|(go_simp;rfl));intro gb269 hg w30 hbox hb;have n0_:=Aside0.mk (Kd.N_below (Kd.N_elderB (by (with_reducible repeat (first|apply nA_|apply nN_|apply nD_));exact HO232.out) gb269 (Nat.le_of_eq hg.symm)) hb);have n1_:=Aside0.mk (Kd.N_below (Kd.N_elderB (by (with_reducible repeat (first|apply nA_|apply nN_|apply nD_));exact HO235.out) gb269 (Nat.le_of_eq hg.symm)) hb);have n2_:=Aside0.mk (Kd.V_below (Kd.V_elderB (by (with_reducible repeat (first|apply vA_|apply vN_|apply vD_));exact HO239.out) gb269 (Nat.le_of_eq hg.symm)) hb);have n3_:=Aside0.mk (Kd.N_below (Kd.N_elderB (by (with_reducible repeat (first|apply nA_|apply nN_|apply nD_));exact HO242.out) gb269 (Nat.le_of_eq hg.symm)) hb);have n4_:=Aside0.mk (Kd.V_below (Kd.V_elderB (by (with_reducible repeat (first|apply vA_|apply vN_|apply vD_));exact HO246.out) gb269 (Nat.le_of_eq hg.symm)) hb);have n5_:=Aside0.mk (Kd.N_below (Kd.N_elderB (by (with_reducible repeat (first|apply nA_|apply nN_|apply nD_));exact HO249.out) gb269 (Nat.le_of_eq hg.symm)) hb);have n6_:=Aside0.mk (Kd.V_below (Kd.V_elderB (by (with_reducible repeat (first|apply vA_|apply vN_|apply vD_));exact HO253.out) gb269 (Nat.le_of_eq hg.symm)) hb);have n7_:=Aside0.mk (Kd.V_below (Kd.V_elderB (by (with_reducible repeat (first|apply vA_|apply vN_|apply vD_));exact HO257.out) gb269 (Nat.le_of_eq hg.symm)) hb);have n8_:=Aside0.mk (Kd.V_below (Kd.V_elderB (by (with_reducible repeat (first|apply vA_|apply vN_|apply vD_));exact HO261.out) gb269 (Nat.le_of_eq hg.symm)) hb);have n9_:=Aside0.mk (Kd.V_below (Kd.V_elderB (by (with_reducible repeat (first|apply vA_|apply vN_|apply vD_));exact HO265.out) gb269 (Nat.le_of_eq hg.symm)) hb);have n10_:=Aside0.mk (Kd.N_below (Kd.N_elderB (by (with_reducible repeat (first|apply nA_|apply nN_|apply nD_));exact HO268.out) gb269 (Nat.le_of_eq hg.symm)) hb);have n11_:=Aside0.mk (below_step (by repeat (first|(with_reducible first|exact HB.out|apply bA_|apply bN_|apply bD_)|exact HB.out)) hb);have n12_:=Aside0.mk (hbox);have n13_:=Aside0.mk ((by rw [hg];exact (below_size (by repeat (first|(with_reducible first|exact HB.out|apply bA_|apply bN_|apply bD_)|exact HB.out))):w.heap.size≤gb269));have n14_:=Aside0.mk ((by rw [hg];exact (below_size (by repeat (first|(with_reducible first|exact HB.out|apply bA_|apply bN_|apply bD_)|exact HB.out))):w.heap.size≤gb269));clear HO232;clear HO235;clear HO239;clear HO242;clear HO246;clear HO249;clear HO253;clear HO257;clear HO261;clear HO265;clear HO268;clear HB;have HO232:=n0_;have HO235:=n1_;have HO239:=n2_;have HO242:=n3_;have HO246:=n4_;have HO249:=n5_;have HO253:=n6_;have HO257:=n7_;have HO261:=n8_;have HO265:=n9_;have HO268:=n10_;have HB:=n11_;have BK269:=n12_;have GW269:=n13_;have GE269:=n14_;clear n0_ n1_ n2_ n3_ n4_ n5_ n6_ n7_ n8_ n9_ n10_ n11_ n12_ n13_ n14_;clear hb hbox hg)|((with_reducible refine gate_dst (N:=8) rfl ?_);(try (refine gate_guard (by rfl) ?_;dsimp only));refine box_event ?hg (N:=8) ?hd (cs:=#[.bool false,.slice none 0 0]) (t:=26) ?hr ?_;(case hd=>rfl);(case hg=>rfl);(case hr=>first|(go_simp;done)|(go_simp;rfl));intro gb270 hg w31 hbox hb;have n0_:=Aside0.mk (Kd.N_below (Kd.N_elderB (by (with_reducible repeat (first|apply nA_|apply nN_|apply nD_));exact HO232.out) gb270 (Nat.le_of_eq hg.symm)) hb);have n1_:=Aside0.mk (Kd.N_below (Kd.N_elderB (by (with_reducible repeat (first|apply nA_|apply nN_|apply nD_));exact HO235.out) gb270 (Nat.le_of_eq hg.symm)) hb);have n2_:=Aside0.mk (Kd.V_below (Kd.V_elderB (by (with_reducible repeat (first|apply vA_|apply vN_|apply vD_));exact HO239.out) gb270 (Nat.le_of_eq hg.symm)) hb);have n3_:=Aside0.mk (Kd.N_below (Kd.N_elderB (by (with_reducible repeat (first|apply nA_|apply nN_|apply nD_));exact HO242.out) gb270 (Nat.le_of_eq hg.symm)) hb);have n4_:=Aside0.mk (Kd.V_below (Kd.V_elderB (by (with_reducible repeat (first|apply vA_|apply vN_|apply vD_));exact HO246.out) gb270 (Nat.le_of_eq hg.symm)) hb);have n5_:=Aside0.mk (Kd.N_below (Kd.N_elderB (by (with_reducible repeat (first|apply nA_|apply nN_|apply nD_));exact HO249.out) gb270 (Nat.le_of_eq hg.symm)) hb);have n6_:=Aside0.mk (Kd.V_below (Kd.V_elderB (by (with_reducible repeat (first|apply vA_|apply vN_|apply vD_));exact HO253.out) gb270 (Nat.le_of_eq hg.symm)) hb);have n7_:=Aside0.mk (Kd.V_below (Kd.V_elderB (by (with_reducible repeat (first|apply vA_|apply vN_|apply vD_));exact HO257.out) gb270 (Nat.le_of_eq hg.symm)) hb);have n8_:=Aside0.mk (Kd.V_below (Kd.V_elderB (by (with_reducible repeat (first|apply vA_|apply vN_|apply vD_));exact HO261.out) gb270 (Nat.le_of_eq hg.symm)) hb);have n9_:=Aside0.mk (Kd.V_below (Kd.V_elderB (by (with_reducible repeat (first|apply vA_|apply vN_|apply vD_));exact HO265.out) gb270 (Nat.le_of_eq hg.symm)) hb);have n10_:=Aside0.mk (Kd.N_below (Kd.N_elderB (by (with_reducible repeat (first|apply nA_|apply nN_|apply nD_));exact HO268.out) gb270 (Nat.le_of_eq hg.symm)) hb);have n11_:=Aside0.mk (blk_below (g:=gb269) (o:=.cells #[.bool false,.slice none 0 0] 26 (0,0)) (by (with_reducible repeat (first|refine blk_drewN ?_ _|refine blk_drew ?_|refine blk_alloc ?_ _));exact BK269.out) hb);have n12_:=Aside0.mk (below_step (by repeat (first|(with_reducible first|exact HB.out|apply bA_|apply bN_|apply bD_|refine below_set ?_ GE269.out)|exact HB.out)) hb);have n13_:=Aside0.mk (hbox);have n14_:=Aside0.mk ((by rw [hg];exact (below_size (by repeat (first|(with_reducible first|exact HB.out|apply bA_|apply bN_|apply bD_|refine below_set ?_ GE269.out)|exact HB.out))):w.heap.size≤gb270));have n15_:=Aside0.mk ((by rw [hg];exact (below_size (by repeat (first|(with_reducible first|exact HB.out|apply bA_|apply bN_|apply bD_|refine below_set ?_ GE269.out)|exact HB.out))):w.heap.size≤gb270));have n16_:=Aside0.mk ((by rw [hg];exact Nat.ne_of_lt (blk_lt (g:=gb269) (o:=.cells #[.bool false,.slice none 0 0] 26 (0,0)) (by (with_reducible repeat (first|refine blk_drewN ?_ _|refine blk_drew ?_|refine blk_alloc ?_ _));exact BK269.out)):gb269≠gb270));have n17_:=Aside0.mk ((by rw [hg];exact Nat.ne_of_gt (blk_lt (g:=gb269) (o:=.cells #[.bool false,.slice none 0 0] 26 (0,0)) (by (with_reducible repeat (first|refine blk_drewN ?_ _|refine blk_drew ?_|refine blk_alloc ?_ _));exact BK269.out)):gb270≠gb269));clear HO232;clear HO235;clear HO239;clear HO242;clear HO246;clear HO249;clear HO253;clear HO257;clear HO261;clear HO265;clear HO268;clear BK269;clear HB;have HO232:=n0_;have HO235:=n1_;have HO239:=n2_;have HO242:=n3_;have HO246:=n4_;have HO249:=n5_;have HO253:=n6_;have HO257:=n7_;have HO261:=n8_;have HO265:=n9_;have HO268:=n10_;have BK269:=n11_;have HB:=n12_;have BK270:=n13_;have GW270:=n14_;have GE270:=n15_;have NB269_270:=n16_;have NB270_269:=n17_;clear n0_ n1_ n2_ n3_ n4_ n5_ n6_ n7_ n8_ n9_ n10_ n11_ n12_ n13_ n14_ n15_ n16_ n17_;clear hb hbox hg)|((with_reducible refine gate_dst (N:=9) rfl ?_);(try (refine gate_guard (by rfl) ?_;dsimp only));refine box_event ?hg (N:=9) ?hd (cs:=#[.bool false,.slice none 0 0]) (t:=26) ?hr ?_;(case hd=>rfl);(case hg=>rfl);(case hr=>first|(go_simp;done)|(go_simp;rfl));intro gb271 hg w32 hbox hb;have n0_:=Aside0.mk (Kd.N_below (Kd.N_elderB (by (with_reducible repeat (first|apply nA_|apply nN_|apply nD_));exact HO232.out) gb271 (Nat.le_of_eq hg.symm)) hb);have n1_:=Aside0.mk (Kd.N_below (Kd.N_elderB (by (with_reducible repeat (first|apply nA_|apply nN_|apply nD_));exact HO235.out) gb271 (Nat.le_of_eq hg.symm)) hb);have n2_:=Aside0.mk (Kd.V_below (Kd.V_elderB (by (with_reducible repeat (first|apply vA_|apply vN_|apply vD_));exact HO239.out) gb271 (Nat.le_of_eq hg.symm)) hb);have n3_:=Aside0.mk (Kd.N_below (Kd.N_elderB (by (with_reducible repeat (first|apply nA_|apply nN_|apply nD_));exact HO242.out) gb271 (Nat.le_of_eq hg.symm)) hb);have n4_:=Aside0.mk (Kd.V_below (Kd.V_elderB (by (with_reducible repeat (first|apply vA_|apply vN_|apply vD_));exact HO246.out) gb271 (Nat.le_of_eq hg.symm)) hb);have n5_:=Aside0.mk (Kd.N_below (Kd.N_elderB (by (with_reducible repeat (first|apply nA_|apply nN_|apply nD_));exact HO249.out) gb271 (Nat.le_of_eq hg.symm)) hb);have n6_:=Aside0.mk (Kd.V_below (Kd.V_elderB (by (with_reducible repeat (first|apply vA_|apply vN_|apply vD_));exact HO253.out) gb271 (Nat.le_of_eq hg.symm)) hb);have n7_:=Aside0.mk (Kd.V_below (Kd.V_elderB (by (with_reducible repeat (first|apply vA_|apply vN_|apply vD_));exact HO257.out) gb271 (Nat.le_of_eq hg.symm)) hb);have n8_:=Aside0.mk (Kd.V_below (Kd.V_elderB (by (with_reducible repeat (first|apply vA_|apply vN_|apply vD_));exact HO261.out) gb271 (Nat.le_of_eq hg.symm)) hb);have n9_:=Aside0.mk (Kd.V_below (Kd.V_elderB (by (with_reducible repeat (first|apply vA_|apply vN_|apply vD_));exact HO265.out) gb271 (Nat.le_of_eq hg.symm)) hb);have n10_:=Aside0.mk (Kd.N_below (Kd.N_elderB (by (with_reducible repeat (first|apply nA_|apply nN_|apply nD_));exact HO268.out) gb271 (Nat.le_of_eq hg.symm)) hb);have n11_:=Aside0.mk (blk_below (g:=gb269) (o:=.cells #[.bool false,.slice none 0 0] 26 (0,0)) (by (with_reducible repeat (first|refine blk_drewN ?_ _|refine blk_drew ?_|refine blk_alloc ?_ _));exact BK269.out) hb);have n12_:=Aside0.mk (blk_below (g:=gb270) (o:=.cells #[.bool false,.slice none 0 0] 26 (0,0)) (by (with_reducible repeat (first|refine blk_drewN ?_ _|refine blk_drew ?_|refine blk_alloc ?_ _));exact BK270.out) hb);have n13_:=Aside0.mk (below_step (by repeat (first|(with_reducible first|exact HB.out|apply bA_|apply bN_|apply bD_|refine below_set ?_ GE269.out|refine below_set ?_ GE270.out)|exact HB.out)) hb);have n14_:=Aside0.mk (hbox);have n15_:=Aside0.mk ((by rw [hg];exact (below_size (by repeat (first|(with_reducible first|exact HB.out|apply bA_|apply bN_|apply bD_|refine below_set ?_ GE269.out|refine below_set ?_ GE270.out)|exact HB.out))):w.heap.size≤gb271));have n16_:=Aside0.mk ((by rw [hg];exact (below_size (by repeat (first|(with_reducible first|exact HB.out|apply bA_|apply bN_|apply bD_|refine below_set ?_ GE269.out|refine below_set ?_ GE270.out)|exact HB.out))):w.heap.size≤gb271));have n17_:=Aside0.mk ((by rw [hg];exact Nat.ne_of_lt (blk_lt (g:=gb269) (o:=.cells #[.bool false,.slice none 0 0] 26 (0,0)) (by (with_reducible repeat (first|refine blk_drewN ?_ _|refine blk_drew ?_|refine blk_alloc ?_ _));exact BK269.out)):gb269≠gb271));have n18_:=Aside0.mk ((by rw [hg];exact Nat.ne_of_gt (blk_lt (g:=gb269) (o:=.cells #[.bool false,.slice none 0 0] 26 (0,0)) (by (with_reducible repeat (first|refine blk_drewN ?_ _|refine blk_drew ?_|refine blk_alloc ?_ _));exact BK269.out)):gb271≠gb269));have n19_:=Aside0.mk ((by rw [hg];exact Nat.ne_of_lt (blk_lt (g:=gb270) (o:=.cells #[.bool false,.slice none 0 0] 26 (0,0)) (by (with_reducible repeat (first|refine blk_drewN ?_ _|refine blk_drew ?_|refine blk_alloc ?_ _));exact BK270.out)):gb270≠gb271));have n20_:=Aside0.mk ((by rw [hg];exact Nat.ne_of_gt (blk_lt (g:=gb270) (o:=.cells #[.bool false,.slice none 0 0] 26 (0,0)) (by (with_reducible repeat (first|refine blk_drewN ?_ _|refine blk_drew ?_|refine blk_alloc ?_ _));exact BK270.out)):gb271≠gb270));clear HO232;clear HO235;clear HO239;clear HO242;clear HO246;clear HO249;clear HO253;clear HO257;clear HO261;clear HO265;clear HO268;clear BK269;clear BK270;clear HB;have HO232:=n0_;have HO235:=n1_;have HO239:=n2_;have HO242:=n3_;have HO246:=n4_;have HO249:=n5_;have HO253:=n6_;have HO257:=n7_;have HO261:=n8_;have HO265:=n9_;have HO268:=n10_;have BK269:=n11_;have BK270:=n12_;have HB:=n13_;have BK271:=n14_;have GW271:=n15_;have GE271:=n16_;have NB269_271:=n17_;have NB271_269:=n18_;have NB270_271:=n19_;have NB271_270:=n20_;clear n0_ n1_ n2_ n3_ n4_ n5_ n6_ n7_ n8_ n9_ n10_ n11_ n12_ n13_ n14_ n15_ n16_ n17_ n18_ n19_ n20_;clear hb hbox hg;have hnb33:=NB269_270.out;have hnc33:=NB270_269.out;have hnb34:=NB269_271.out;have hnc34:=NB271_269.out;have hcz35_0:w32.cell? ⟨gb269,0,none⟩=some (.bool false):=(blk_cell BK269.out 0).trans rfl;have hcz35_1:w32.cell? ⟨gb269,1,none⟩=some (.slice none 0 0):=(blk_cell BK269.out 1).trans rfl;have hfz35_0:=blk_frozen BK269.out 0;have hfz35_1:=blk_frozen BK269.out 1;obtain ⟨Ao36,co36,eo36⟩:=Kd.V_slice HO257.out;subst eo36;have hnb37:=NB270_271.out;have hnc37:=NB271_270.out;have hcz38_0:w32.cell? ⟨gb270,0,none⟩=some (.bool false):=(blk_cell BK270.out 0).trans rfl;have hcz38_1:w32.cell? ⟨gb270,1,none⟩=some (.slice none 0 0):=(blk_cell BK270.out 1).trans rfl;have hfz38_0:=blk_frozen BK270.out 0;have hfz38_1:=blk_frozen BK270.out 1;obtain ⟨Ao39,co39,eo39⟩:=Kd.V_slice HO261.out;subst eo39;have hcz40_0:w32.cell? ⟨gb271,0,none⟩=some (.bool false):=(blk_cell BK271.out 0).trans rfl;have hcz40_1:w32.cell? ⟨gb271,1,none⟩=some (.slice none 0 0):=(blk_cell BK271.out 1).trans rfl;have hfz40_0:=blk_frozen BK271.out 0;have hfz40_1:=blk_frozen BK271.out 1;obtain ⟨Ao41,co41,eo41⟩:=Kd.V_slice HO265.out;subst eo41))
  go_loopg [11,12] k (fun kq v11 v12 w'=>∃ (x11_1:Int) (x12_1:Int),v11=.int .i64 x11_1∧v12=.int .i64 x12_1∧Aside0 (cadencelaw12_MergeRows.l0 kq a0 a1 a2 t266 x11_1 x12_1 t254 t255 t258 t259 t262 t263=some r)∧Aside0 (kq≤k)∧Aside0 (Kd.N k38 38 w' w.heap.size (fun k_=>k_≠gb269∧k_≠gb270∧k_≠gb271) v267 t266)∧Aside0 (Kd.V k51 51 w' w.heap.size (fun k_=>some k_≠(v267:Value).ownBlock∧k_≠gb269∧k_≠gb270∧k_≠gb271) (.slice Ao36 t255.length co36) t255)∧Aside0 (Kd.V k51 51 w' w.heap.size (fun k_=>some k_≠(v267:Value).ownBlock∧k_≠gb269∧k_≠gb270∧k_≠gb271) (.slice Ao39 t259.length co39) t259)∧Aside0 (Kd.V k51 51 w' w.heap.size (fun k_=>some k_≠(v267:Value).ownBlock∧k_≠gb269∧k_≠gb270∧k_≠gb271) (.slice Ao41 t263.length co41) t263)∧Aside0 (w'.heap[gb269]? = some (.cells #[.bool t254,(.slice Ao36 t255.length co36)] 26 (0,0)))∧Aside0 (w'.heap[gb270]? = some (.cells #[.bool t258,(.slice Ao39 t259.length co39)] 26 (0,0)))∧Aside0 (w'.heap[gb271]? = some (.cells #[.bool t262,(.slice Ao41 t263.length co41)] 26 (0,0)))∧Aside0 (Below w.heap.size w w'))
  case atStart=>exact ⟨(0),(0),(by first|rfl|(simp;done)|(simp [*];done)),(by first|rfl|(simp;done)|(simp [*];done)),H',⟨Nat.le_refl _⟩,⟨by (with_reducible repeat (first|apply nA_|apply nN_|apply nD_));exact Kd.N_mono (Kd.N_far (p:=⟨gb271,1,none⟩) (Kd.N_far (p:=⟨gb271,0,none⟩) (Kd.N_far (p:=⟨gb270,1,none⟩) (Kd.N_far (p:=⟨gb270,0,none⟩) (Kd.N_far (p:=⟨gb269,1,none⟩) (Kd.N_far (p:=⟨gb269,0,none⟩) (Kd.N_mono (Kd.N_mono (Kd.N_mono HO268.out (fun k_ hk=>(⟨hk,hk.1.1.2⟩:_∧k_≠gb269))) (fun k_ hk=>(⟨hk,hk.1.1.2⟩:_∧k_≠gb270))) (fun k_ hk=>(⟨hk,hk.1.1.2⟩:_∧k_≠gb271))) (fun _ hk=>hk.1.1.2) (.bool t254)) (fun _ hk=>hk.1.1.2) (.slice Ao36 t255.length co36)) (fun _ hk=>hk.1.2) (.bool t258)) (fun _ hk=>hk.1.2) (.slice Ao39 t259.length co39)) (fun _ hk=>hk.2) (.bool t262)) (fun _ hk=>hk.2) (.slice Ao41 t263.length co41)) (fun _ hk=>⟨hk.1.1.1.1.1.2,⟨hk.1.1.1.1.2,hk.1.1.1.2⟩⟩)⟩,⟨by (with_reducible repeat (first|apply vA_|apply vN_|apply vD_));exact Kd.V_mono (Kd.V_far (p:=⟨gb271,1,none⟩) (Kd.V_far (p:=⟨gb271,0,none⟩) (Kd.V_far (p:=⟨gb270,1,none⟩) (Kd.V_far (p:=⟨gb270,0,none⟩) (Kd.V_far (p:=⟨gb269,1,none⟩) (Kd.V_far (p:=⟨gb269,0,none⟩) (Kd.V_mono (Kd.V_mono (Kd.V_mono HO257.out (fun k_ hk=>(⟨hk,hk.1.1.2⟩:_∧k_≠gb269))) (fun k_ hk=>(⟨hk,hk.1.1.2⟩:_∧k_≠gb270))) (fun k_ hk=>(⟨hk,hk.1.1.2⟩:_∧k_≠gb271))) (fun _ hk=>hk.1.1.2) (.bool t254)) (fun _ hk=>hk.1.1.2) (.slice Ao36 t255.length co36)) (fun _ hk=>hk.1.2) (.bool t258)) (fun _ hk=>hk.1.2) (.slice Ao39 t259.length co39)) (fun _ hk=>hk.2) (.bool t262)) (fun _ hk=>hk.2) (.slice Ao41 t263.length co41)) (fun _ hk=>⟨hk.1.1.1.1.1.1,⟨hk.1.1.1.1.1.2,⟨hk.1.1.1.1.2,hk.1.1.1.2⟩⟩⟩)⟩,⟨by (with_reducible repeat (first|apply vA_|apply vN_|apply vD_));exact Kd.V_mono (Kd.V_far (p:=⟨gb271,1,none⟩) (Kd.V_far (p:=⟨gb271,0,none⟩) (Kd.V_far (p:=⟨gb270,1,none⟩) (Kd.V_far (p:=⟨gb270,0,none⟩) (Kd.V_far (p:=⟨gb269,1,none⟩) (Kd.V_far (p:=⟨gb269,0,none⟩) (Kd.V_mono (Kd.V_mono (Kd.V_mono HO261.out (fun k_ hk=>(⟨hk,hk.1.1.2⟩:_∧k_≠gb269))) (fun k_ hk=>(⟨hk,hk.1.1.2⟩:_∧k_≠gb270))) (fun k_ hk=>(⟨hk,hk.1.1.2⟩:_∧k_≠gb271))) (fun _ hk=>hk.1.1.2) (.bool t254)) (fun _ hk=>hk.1.1.2) (.slice Ao36 t255.length co36)) (fun _ hk=>hk.1.2) (.bool t258)) (fun _ hk=>hk.1.2) (.slice Ao39 t259.length co39)) (fun _ hk=>hk.2) (.bool t262)) (fun _ hk=>hk.2) (.slice Ao41 t263.length co41)) (fun _ hk=>⟨hk.1.1.1.1.1.1,⟨hk.1.1.1.1.1.2,⟨hk.1.1.1.1.2,hk.1.1.1.2⟩⟩⟩)⟩,⟨by (with_reducible repeat (first|apply vA_|apply vN_|apply vD_));exact Kd.V_mono (Kd.V_far (p:=⟨gb271,1,none⟩) (Kd.V_far (p:=⟨gb271,0,none⟩) (Kd.V_far (p:=⟨gb270,1,none⟩) (Kd.V_far (p:=⟨gb270,0,none⟩) (Kd.V_far (p:=⟨gb269,1,none⟩) (Kd.V_far (p:=⟨gb269,0,none⟩) (Kd.V_mono (Kd.V_mono (Kd.V_mono HO265.out (fun k_ hk=>(⟨hk,hk.1.1.2⟩:_∧k_≠gb269))) (fun k_ hk=>(⟨hk,hk.1.1.2⟩:_∧k_≠gb270))) (fun k_ hk=>(⟨hk,hk.1.1.2⟩:_∧k_≠gb271))) (fun _ hk=>hk.1.1.2) (.bool t254)) (fun _ hk=>hk.1.1.2) (.slice Ao36 t255.length co36)) (fun _ hk=>hk.1.2) (.bool t258)) (fun _ hk=>hk.1.2) (.slice Ao39 t259.length co39)) (fun _ hk=>hk.2) (.bool t262)) (fun _ hk=>hk.2) (.slice Ao41 t263.length co41)) (fun _ hk=>⟨hk.1.1.1.1.1.1,⟨hk.1.1.1.1.1.2,⟨hk.1.1.1.1.2,hk.1.1.1.2⟩⟩⟩)⟩,⟨by (with_reducible repeat (first|refine blk_drewN ?_ _|refine blk_drew ?_|refine blk_alloc ?_ _));refine blk_far ?_ NB269_271.out _;(with_reducible repeat (first|refine blk_drewN ?_ _|refine blk_drew ?_|refine blk_alloc ?_ _));refine blk_far ?_ NB269_271.out _;(with_reducible repeat (first|refine blk_drewN ?_ _|refine blk_drew ?_|refine blk_alloc ?_ _));refine blk_far ?_ NB269_270.out _;(with_reducible repeat (first|refine blk_drewN ?_ _|refine blk_drew ?_|refine blk_alloc ?_ _));refine blk_far ?_ NB269_270.out _;(with_reducible repeat (first|refine blk_drewN ?_ _|refine blk_drew ?_|refine blk_alloc ?_ _));refine blk_put (cs:=#[.bool t254,.slice none 0 0]) ?_ 1 _ rfl;(with_reducible repeat (first|refine blk_drewN ?_ _|refine blk_drew ?_|refine blk_alloc ?_ _));refine blk_put (cs:=#[.bool false,.slice none 0 0]) ?_ 0 _ rfl;(with_reducible repeat (first|refine blk_drewN ?_ _|refine blk_drew ?_|refine blk_alloc ?_ _));exact BK269.out⟩,⟨by (with_reducible repeat (first|refine blk_drewN ?_ _|refine blk_drew ?_|refine blk_alloc ?_ _));refine blk_far ?_ NB270_271.out _;(with_reducible repeat (first|refine blk_drewN ?_ _|refine blk_drew ?_|refine blk_alloc ?_ _));refine blk_far ?_ NB270_271.out _;(with_reducible repeat (first|refine blk_drewN ?_ _|refine blk_drew ?_|refine blk_alloc ?_ _));refine blk_put (cs:=#[.bool t258,.slice none 0 0]) ?_ 1 _ rfl;(with_reducible repeat (first|refine blk_drewN ?_ _|refine blk_drew ?_|refine blk_alloc ?_ _));refine blk_put (cs:=#[.bool false,.slice none 0 0]) ?_ 0 _ rfl;(with_reducible repeat (first|refine blk_drewN ?_ _|refine blk_drew ?_|refine blk_alloc ?_ _));refine blk_far ?_ NB270_269.out _;(with_reducible repeat (first|refine blk_drewN ?_ _|refine blk_drew ?_|refine blk_alloc ?_ _));refine blk_far ?_ NB270_269.out _;(with_reducible repeat (first|refine blk_drewN ?_ _|refine blk_drew ?_|refine blk_alloc ?_ _));exact BK270.out⟩,⟨by (with_reducible repeat (first|refine blk_drewN ?_ _|refine blk_drew ?_|refine blk_alloc ?_ _));refine blk_put (cs:=#[.bool t262,.slice none 0 0]) ?_ 1 _ rfl;(with_reducible repeat (first|refine blk_drewN ?_ _|refine blk_drew ?_|refine blk_alloc ?_ _));refine blk_put (cs:=#[.bool false,.slice none 0 0]) ?_ 0 _ rfl;(with_reducible repeat (first|refine blk_drewN ?_ _|refine blk_drew ?_|refine blk_alloc ?_ _));refine blk_far ?_ NB271_270.out _;(with_reducible repeat (first|refine blk_drewN ?_ _|refine blk_drew ?_|refine blk_alloc ?_ _));refine blk_far ?_ NB271_270.out _;(with_reducible repeat (first|refine blk_drewN ?_ _|refine blk_drew ?_|refine blk_alloc ?_ _));refine blk_far ?_ NB271_269.out _;(with_reducible repeat (first|refine blk_drewN ?_ _|refine blk_drew ?_|refine blk_alloc ?_ _));refine blk_far ?_ NB271_269.out _;(with_reducible repeat (first|refine blk_drewN ?_ _|refine blk_drew ?_|refine blk_alloc ?_ _));exact BK271.out⟩,⟨by repeat (first|(with_reducible first|exact HB.out|apply bA_|apply bN_|apply bD_|refine below_set ?_ GE269.out|refine below_set ?_ GE270.out|refine below_set ?_ GE271.out)|exact HB.out)⟩⟩
  case round =>
   clear H'
   try clear c1
   try clear p2
   try clear c3
   try clear c5
   try clear c7
   try clear c8
   try clear c9
   try clear c10
   try clear c11
   try clear c33
   try clear c34
   try clear c37
   try clear hcz35_0
   try clear hcz35_1
   try clear hcz38_0
   try clear hcz38_1
   try clear hcz40_0
   try clear hcz40_1
   try clear hfz35_0
   try clear hfz35_1
   try clear hfz38_0
   try clear hfz38_1
   try clear hfz40_0
   try clear hfz40_1
   obtain ⟨x11_1,x12_1,rfl,rfl,HA,HK1,HO_10,HO_270001,HO_271001,HO_272001,BK269,BK270,BK271,HB⟩:=hrel
   cases gk with
   | zero=>exact absurd HA.out (by simp [cadencelaw12_MergeRows.l0])
   | succ k1 =>
    have H:=HA.out
    clear HA
    simp only [cadencelaw12_MergeRows.l0] at H
    by_cases c42:x12_1 < 3
    ·rw [if_pos c42] at H
     have c42b0:decide (x12_1 < 3)=true:=decide_eq_true c42
     clear c42
     obtain ⟨y272,hy272⟩:∃ y_:List ByteArray,y_=(([(⟨#[97]⟩:ByteArray),(⟨#[98]⟩:ByteArray),(⟨#[99]⟩:ByteArray)]:List ByteArray)):=⟨_,rfl⟩
     replace H:(if 0≤x12_1 then (if x12_1 < (y272.length:Int) then ((cadencelaw12_row.f k1 a0).bind fun t276=>((cadencelaw12_value.f k1 t276 (rdOf ByteArray.empty y272 x12_1)).bind fun t279=>((cadencelaw12_row.f k1 a1).bind fun t280=>((cadencelaw12_value.f k1 t280 (rdOf ByteArray.empty y272 x12_1)).bind fun t283=>((cadencelaw12_row.f k1 a2).bind fun t284=>((cadencelaw12_value.f k1 t284 (rdOf ByteArray.empty y272 x12_1)).bind fun t287=>((cadencelaw12_value.f k1 t255 (rdOf ByteArray.empty y272 x12_1)).bind fun t288=>((cadencelaw12_value.f k1 t259 (rdOf ByteArray.empty y272 x12_1)).bind fun t289=>((cadencelaw12_value.f k1 t263 (rdOf ByteArray.empty y272 x12_1)).bind fun t290=>(if t283.toList=t287.toList then (cadencelaw12_MergeRows.j4 k1 a0 a1 a2 t266 x11_1 x12_1 t283 t283 t287 t288 t289 t290 t254 t255 t258 t259 t262 t263) else (if t279.toList=t283.toList then (cadencelaw12_MergeRows.j4 k1 a0 a1 a2 t266 x11_1 x12_1 t287 t287 t287 t288 t289 t290 t254 t255 t258 t259 t262 t263) else (if t279.toList=t287.toList then (cadencelaw12_MergeRows.j4 k1 a0 a1 a2 t266 x11_1 x12_1 t283 t283 t283 t288 t289 t290 t254 t255 t258 t259 t262 t263) else (if t283.toList=([]:List UInt8) then (cadencelaw12_MergeRows.j1 k1 a0 a1 a2 t266 x11_1 x12_1 (rdOf ByteArray.empty y272 x12_1) t279 t283 t287 t288 t289 t290 2 true t254 t255 t258 t259 t262 t263) else (cadencelaw12_MergeRows.j1 k1 a0 a1 a2 t266 x11_1 x12_1 (rdOf ByteArray.empty y272 x12_1) t279 t283 t287 t288 t289 t290 2 (t287.toList == ([]:List UInt8)) t254 t255 t258 t259 t262 t263)))))))))))))) else (none)) else (none))=some r:=by first|(rw [hy272];with_reducible exact H)|(have H2_:=(Option.bind_some _ _).symm.trans H;rw [hy272];with_reducible exact H2_)|(have H2_:=(Option.bind_some _ _).symm.trans H;with_reducible exact H2_)|with_reducible exact H|(rw [hy272];exact H)|exact H
     have Ny272:=Aside0.mk hy272
     clear hy272
     by_cases c43:0≤x12_1
     ·rw [if_pos c43] at H
      have c43b0:decide (0≤x12_1)=true:=decide_eq_true c43
      clear c43
      by_cases c44:x12_1 < (y272.length:Int)
      ·rw [if_pos c44] at H
       have c44b0:decide (x12_1 < (y272.length:Int))=true:=decide_eq_true c44
       clear c44
       replace H:=Option.bind_eq_some_iff.mp H
       obtain ⟨t276,A450,H⟩:=H
       replace H:((cadencelaw12_value.f k1 t276 (rdOf ByteArray.empty y272 x12_1)).bind fun t279=>((cadencelaw12_row.f k1 a1).bind fun t280=>((cadencelaw12_value.f k1 t280 (rdOf ByteArray.empty y272 x12_1)).bind fun t283=>((cadencelaw12_row.f k1 a2).bind fun t284=>((cadencelaw12_value.f k1 t284 (rdOf ByteArray.empty y272 x12_1)).bind fun t287=>((cadencelaw12_value.f k1 t255 (rdOf ByteArray.empty y272 x12_1)).bind fun t288=>((cadencelaw12_value.f k1 t259 (rdOf ByteArray.empty y272 x12_1)).bind fun t289=>((cadencelaw12_value.f k1 t263 (rdOf ByteArray.empty y272 x12_1)).bind fun t290=>(if t283.toList=t287.toList then (cadencelaw12_MergeRows.j4 k1 a0 a1 a2 t266 x11_1 x12_1 t283 t283 t287 t288 t289 t290 t254 t255 t258 t259 t262 t263) else (if t279.toList=t283.toList then (cadencelaw12_MergeRows.j4 k1 a0 a1 a2 t266 x11_1 x12_1 t287 t287 t287 t288 t289 t290 t254 t255 t258 t259 t262 t263) else (if t279.toList=t287.toList then (cadencelaw12_MergeRows.j4 k1 a0 a1 a2 t266 x11_1 x12_1 t283 t283 t283 t288 t289 t290 t254 t255 t258 t259 t262 t263) else (if t283.toList=([]:List UInt8) then (cadencelaw12_MergeRows.j1 k1 a0 a1 a2 t266 x11_1 x12_1 (rdOf ByteArray.empty y272 x12_1) t279 t283 t287 t288 t289 t290 2 true t254 t255 t258 t259 t262 t263) else (cadencelaw12_MergeRows.j1 k1 a0 a1 a2 t266 x11_1 x12_1 (rdOf ByteArray.empty y272 x12_1) t279 t283 t287 t288 t289 t290 2 (t287.toList == ([]:List UInt8)) t254 t255 t258 t259 t262 t263)))))))))))))=some r:=H
       have A45:=Aside0.mk A450
       clear A450
       replace H:=Option.bind_eq_some_iff.mp H
       obtain ⟨t279,A460,H⟩:=H
       replace H:((cadencelaw12_row.f k1 a1).bind fun t280=>((cadencelaw12_value.f k1 t280 (rdOf ByteArray.empty y272 x12_1)).bind fun t283=>((cadencelaw12_row.f k1 a2).bind fun t284=>((cadencelaw12_value.f k1 t284 (rdOf ByteArray.empty y272 x12_1)).bind fun t287=>((cadencelaw12_value.f k1 t255 (rdOf ByteArray.empty y272 x12_1)).bind fun t288=>((cadencelaw12_value.f k1 t259 (rdOf ByteArray.empty y272 x12_1)).bind fun t289=>((cadencelaw12_value.f k1 t263 (rdOf ByteArray.empty y272 x12_1)).bind fun t290=>(if t283.toList=t287.toList then (cadencelaw12_MergeRows.j4 k1 a0 a1 a2 t266 x11_1 x12_1 t283 t283 t287 t288 t289 t290 t254 t255 t258 t259 t262 t263) else (if t279.toList=t283.toList then (cadencelaw12_MergeRows.j4 k1 a0 a1 a2 t266 x11_1 x12_1 t287 t287 t287 t288 t289 t290 t254 t255 t258 t259 t262 t263) else (if t279.toList=t287.toList then (cadencelaw12_MergeRows.j4 k1 a0 a1 a2 t266 x11_1 x12_1 t283 t283 t283 t288 t289 t290 t254 t255 t258 t259 t262 t263) else (if t283.toList=([]:List UInt8) then (cadencelaw12_MergeRows.j1 k1 a0 a1 a2 t266 x11_1 x12_1 (rdOf ByteArray.empty y272 x12_1) t279 t283 t287 t288 t289 t290 2 true t254 t255 t258 t259 t262 t263) else (cadencelaw12_MergeRows.j1 k1 a0 a1 a2 t266 x11_1 x12_1 (rdOf ByteArray.empty y272 x12_1) t279 t283 t287 t288 t289 t290 2 (t287.toList == ([]:List UInt8)) t254 t255 t258 t259 t262 t263))))))))))))=some r:=H
       have A46:=Aside0.mk A460
       clear A460
       replace H:=Option.bind_eq_some_iff.mp H
       obtain ⟨t280,A470,H⟩:=H
       replace H:((cadencelaw12_value.f k1 t280 (rdOf ByteArray.empty y272 x12_1)).bind fun t283=>((cadencelaw12_row.f k1 a2).bind fun t284=>((cadencelaw12_value.f k1 t284 (rdOf ByteArray.empty y272 x12_1)).bind fun t287=>((cadencelaw12_value.f k1 t255 (rdOf ByteArray.empty y272 x12_1)).bind fun t288=>((cadencelaw12_value.f k1 t259 (rdOf ByteArray.empty y272 x12_1)).bind fun t289=>((cadencelaw12_value.f k1 t263 (rdOf ByteArray.empty y272 x12_1)).bind fun t290=>(if t283.toList=t287.toList then (cadencelaw12_MergeRows.j4 k1 a0 a1 a2 t266 x11_1 x12_1 t283 t283 t287 t288 t289 t290 t254 t255 t258 t259 t262 t263) else (if t279.toList=t283.toList then (cadencelaw12_MergeRows.j4 k1 a0 a1 a2 t266 x11_1 x12_1 t287 t287 t287 t288 t289 t290 t254 t255 t258 t259 t262 t263) else (if t279.toList=t287.toList then (cadencelaw12_MergeRows.j4 k1 a0 a1 a2 t266 x11_1 x12_1 t283 t283 t283 t288 t289 t290 t254 t255 t258 t259 t262 t263) else (if t283.toList=([]:List UInt8) then (cadencelaw12_MergeRows.j1 k1 a0 a1 a2 t266 x11_1 x12_1 (rdOf ByteArray.empty y272 x12_1) t279 t283 t287 t288 t289 t290 2 true t254 t255 t258 t259 t262 t263) else (cadencelaw12_MergeRows.j1 k1 a0 a1 a2 t266 x11_1 x12_1 (rdOf ByteArray.empty y272 x12_1) t279 t283 t287 t288 t289 t290 2 (t287.toList == ([]:List UInt8)) t254 t255 t258 t259 t262 t263)))))))))))=some r:=H
       have A47:=Aside0.mk A470
       clear A470
       replace H:=Option.bind_eq_some_iff.mp H
       obtain ⟨t283,A480,H⟩:=H
       replace H:((cadencelaw12_row.f k1 a2).bind fun t284=>((cadencelaw12_value.f k1 t284 (rdOf ByteArray.empty y272 x12_1)).bind fun t287=>((cadencelaw12_value.f k1 t255 (rdOf ByteArray.empty y272 x12_1)).bind fun t288=>((cadencelaw12_value.f k1 t259 (rdOf ByteArray.empty y272 x12_1)).bind fun t289=>((cadencelaw12_value.f k1 t263 (rdOf ByteArray.empty y272 x12_1)).bind fun t290=>(if t283.toList=t287.toList then (cadencelaw12_MergeRows.j4 k1 a0 a1 a2 t266 x11_1 x12_1 t283 t283 t287 t288 t289 t290 t254 t255 t258 t259 t262 t263) else (if t279.toList=t283.toList then (cadencelaw12_MergeRows.j4 k1 a0 a1 a2 t266 x11_1 x12_1 t287 t287 t287 t288 t289 t290 t254 t255 t258 t259 t262 t263) else (if t279.toList=t287.toList then (cadencelaw12_MergeRows.j4 k1 a0 a1 a2 t266 x11_1 x12_1 t283 t283 t283 t288 t289 t290 t254 t255 t258 t259 t262 t263) else (if t283.toList=([]:List UInt8) then (cadencelaw12_MergeRows.j1 k1 a0 a1 a2 t266 x11_1 x12_1 (rdOf ByteArray.empty y272 x12_1) t279 t283 t287 t288 t289 t290 2 true t254 t255 t258 t259 t262 t263) else (cadencelaw12_MergeRows.j1 k1 a0 a1 a2 t266 x11_1 x12_1 (rdOf ByteArray.empty y272 x12_1) t279 t283 t287 t288 t289 t290 2 (t287.toList == ([]:List UInt8)) t254 t255 t258 t259 t262 t263))))))))))=some r:=H
       have A48:=Aside0.mk A480
       clear A480
       replace H:=Option.bind_eq_some_iff.mp H
       obtain ⟨t284,A490,H⟩:=H
       replace H:((cadencelaw12_value.f k1 t284 (rdOf ByteArray.empty y272 x12_1)).bind fun t287=>((cadencelaw12_value.f k1 t255 (rdOf ByteArray.empty y272 x12_1)).bind fun t288=>((cadencelaw12_value.f k1 t259 (rdOf ByteArray.empty y272 x12_1)).bind fun t289=>((cadencelaw12_value.f k1 t263 (rdOf ByteArray.empty y272 x12_1)).bind fun t290=>(if t283.toList=t287.toList then (cadencelaw12_MergeRows.j4 k1 a0 a1 a2 t266 x11_1 x12_1 t283 t283 t287 t288 t289 t290 t254 t255 t258 t259 t262 t263) else (if t279.toList=t283.toList then (cadencelaw12_MergeRows.j4 k1 a0 a1 a2 t266 x11_1 x12_1 t287 t287 t287 t288 t289 t290 t254 t255 t258 t259 t262 t263) else (if t279.toList=t287.toList then (cadencelaw12_MergeRows.j4 k1 a0 a1 a2 t266 x11_1 x12_1 t283 t283 t283 t288 t289 t290 t254 t255 t258 t259 t262 t263) else (if t283.toList=([]:List UInt8) then (cadencelaw12_MergeRows.j1 k1 a0 a1 a2 t266 x11_1 x12_1 (rdOf ByteArray.empty y272 x12_1) t279 t283 t287 t288 t289 t290 2 true t254 t255 t258 t259 t262 t263) else (cadencelaw12_MergeRows.j1 k1 a0 a1 a2 t266 x11_1 x12_1 (rdOf ByteArray.empty y272 x12_1) t279 t283 t287 t288 t289 t290 2 (t287.toList == ([]:List UInt8)) t254 t255 t258 t259 t262 t263)))))))))=some r:=H
       have A49:=Aside0.mk A490
       clear A490
       replace H:=Option.bind_eq_some_iff.mp H
       obtain ⟨t287,A500,H⟩:=H
       replace H:((cadencelaw12_value.f k1 t255 (rdOf ByteArray.empty y272 x12_1)).bind fun t288=>((cadencelaw12_value.f k1 t259 (rdOf ByteArray.empty y272 x12_1)).bind fun t289=>((cadencelaw12_value.f k1 t263 (rdOf ByteArray.empty y272 x12_1)).bind fun t290=>(if t283.toList=t287.toList then (cadencelaw12_MergeRows.j4 k1 a0 a1 a2 t266 x11_1 x12_1 t283 t283 t287 t288 t289 t290 t254 t255 t258 t259 t262 t263) else (if t279.toList=t283.toList then (cadencelaw12_MergeRows.j4 k1 a0 a1 a2 t266 x11_1 x12_1 t287 t287 t287 t288 t289 t290 t254 t255 t258 t259 t262 t263) else (if t279.toList=t287.toList then (cadencelaw12_MergeRows.j4 k1 a0 a1 a2 t266 x11_1 x12_1 t283 t283 t283 t288 t289 t290 t254 t255 t258 t259 t262 t263) else (if t283.toList=([]:List UInt8) then (cadencelaw12_MergeRows.j1 k1 a0 a1 a2 t266 x11_1 x12_1 (rdOf ByteArray.empty y272 x12_1) t279 t283 t287 t288 t289 t290 2 true t254 t255 t258 t259 t262 t263) else (cadencelaw12_MergeRows.j1 k1 a0 a1 a2 t266 x11_1 x12_1 (rdOf ByteArray.empty y272 x12_1) t279 t283 t287 t288 t289 t290 2 (t287.toList == ([]:List UInt8)) t254 t255 t258 t259 t262 t263))))))))=some r:=H
       have A50:=Aside0.mk A500
       clear A500
       replace H:=Option.bind_eq_some_iff.mp H
       obtain ⟨t288,A510,H⟩:=H
       replace H:((cadencelaw12_value.f k1 t259 (rdOf ByteArray.empty y272 x12_1)).bind fun t289=>((cadencelaw12_value.f k1 t263 (rdOf ByteArray.empty y272 x12_1)).bind fun t290=>(if t283.toList=t287.toList then (cadencelaw12_MergeRows.j4 k1 a0 a1 a2 t266 x11_1 x12_1 t283 t283 t287 t288 t289 t290 t254 t255 t258 t259 t262 t263) else (if t279.toList=t283.toList then (cadencelaw12_MergeRows.j4 k1 a0 a1 a2 t266 x11_1 x12_1 t287 t287 t287 t288 t289 t290 t254 t255 t258 t259 t262 t263) else (if t279.toList=t287.toList then (cadencelaw12_MergeRows.j4 k1 a0 a1 a2 t266 x11_1 x12_1 t283 t283 t283 t288 t289 t290 t254 t255 t258 t259 t262 t263) else (if t283.toList=([]:List UInt8) then (cadencelaw12_MergeRows.j1 k1 a0 a1 a2 t266 x11_1 x12_1 (rdOf ByteArray.empty y272 x12_1) t279 t283 t287 t288 t289 t290 2 true t254 t255 t258 t259 t262 t263) else (cadencelaw12_MergeRows.j1 k1 a0 a1 a2 t266 x11_1 x12_1 (rdOf ByteArray.empty y272 x12_1) t279 t283 t287 t288 t289 t290 2 (t287.toList == ([]:List UInt8)) t254 t255 t258 t259 t262 t263)))))))=some r:=H
       have A51:=Aside0.mk A510
       clear A510
       replace H:=Option.bind_eq_some_iff.mp H
       obtain ⟨t289,A520,H⟩:=H
       replace H:((cadencelaw12_value.f k1 t263 (rdOf ByteArray.empty y272 x12_1)).bind fun t290=>(if t283.toList=t287.toList then (cadencelaw12_MergeRows.j4 k1 a0 a1 a2 t266 x11_1 x12_1 t283 t283 t287 t288 t289 t290 t254 t255 t258 t259 t262 t263) else (if t279.toList=t283.toList then (cadencelaw12_MergeRows.j4 k1 a0 a1 a2 t266 x11_1 x12_1 t287 t287 t287 t288 t289 t290 t254 t255 t258 t259 t262 t263) else (if t279.toList=t287.toList then (cadencelaw12_MergeRows.j4 k1 a0 a1 a2 t266 x11_1 x12_1 t283 t283 t283 t288 t289 t290 t254 t255 t258 t259 t262 t263) else (if t283.toList=([]:List UInt8) then (cadencelaw12_MergeRows.j1 k1 a0 a1 a2 t266 x11_1 x12_1 (rdOf ByteArray.empty y272 x12_1) t279 t283 t287 t288 t289 t290 2 true t254 t255 t258 t259 t262 t263) else (cadencelaw12_MergeRows.j1 k1 a0 a1 a2 t266 x11_1 x12_1 (rdOf ByteArray.empty y272 x12_1) t279 t283 t287 t288 t289 t290 2 (t287.toList == ([]:List UInt8)) t254 t255 t258 t259 t262 t263))))))=some r:=H
       have A52:=Aside0.mk A520
       clear A520
       replace H:=Option.bind_eq_some_iff.mp H
       obtain ⟨t290,A530,H⟩:=H
       replace H:(if t283.toList=t287.toList then (cadencelaw12_MergeRows.j4 k1 a0 a1 a2 t266 x11_1 x12_1 t283 t283 t287 t288 t289 t290 t254 t255 t258 t259 t262 t263) else (if t279.toList=t283.toList then (cadencelaw12_MergeRows.j4 k1 a0 a1 a2 t266 x11_1 x12_1 t287 t287 t287 t288 t289 t290 t254 t255 t258 t259 t262 t263) else (if t279.toList=t287.toList then (cadencelaw12_MergeRows.j4 k1 a0 a1 a2 t266 x11_1 x12_1 t283 t283 t283 t288 t289 t290 t254 t255 t258 t259 t262 t263) else (if t283.toList=([]:List UInt8) then (cadencelaw12_MergeRows.j1 k1 a0 a1 a2 t266 x11_1 x12_1 (rdOf ByteArray.empty y272 x12_1) t279 t283 t287 t288 t289 t290 2 true t254 t255 t258 t259 t262 t263) else (cadencelaw12_MergeRows.j1 k1 a0 a1 a2 t266 x11_1 x12_1 (rdOf ByteArray.empty y272 x12_1) t279 t283 t287 t288 t289 t290 2 (t287.toList == ([]:List UInt8)) t254 t255 t258 t259 t262 t263)))))=some r:=H
       have A53:=Aside0.mk A530
       clear A530
       have HC54:=Aside0.mk H
       clear H
       try go_wp2_with (first|((with_reducible refine gate_dst (N:=43) rfl ?_);(try (refine gate_guard (by rfl) ?_;dsimp only));refine Kd.R_lit Kd.string _ 9 ?hg (N:=43) ?hd (xs:=([(⟨#[97]⟩:ByteArray),(⟨#[98]⟩:ByteArray),(⟨#[99]⟩:ByteArray)]:List ByteArray)) (inner:=[.string (⟨#[97]⟩:ByteArray),.string (⟨#[98]⟩:ByteArray),.string (⟨#[99]⟩:ByteArray)]) (ok:=fun _=>True) (okp:=fun _=>True) ?hr ?hp (fun _ hk=>hk) trivial (Below.refl _ _) (Nat.le_refl _) (by simp) ?_;(case hd=>rfl);(case hg=>rfl);(case hr=>first|(go_simp;done)|(go_simp;rfl));(case hp=>exact (Reps.one (show Kd.M Kd.string _ _ _ (⟨#[97]⟩:ByteArray) [.string (⟨#[97]⟩:ByteArray)] from rfl) (Reps.one (show Kd.M Kd.string _ _ _ (⟨#[98]⟩:ByteArray) [.string (⟨#[98]⟩:ByteArray)] from rfl) (Reps.one (show Kd.M Kd.string _ _ _ (⟨#[99]⟩:ByteArray) [.string (⟨#[99]⟩:ByteArray)] from rfl) (Reps.none _ _)))));intro v273 w55 ho56 hb hg_ hnew_;clear hg_ hnew_;(first|rw [← Ny272.out] at ho56|(simp only [Int.reduceToNat] at ho56;rw [← Ny272.out] at ho56));have n0_:=Aside0.mk (Kd.N_elder' (by (with_reducible repeat (first|apply nA_|apply nN_|apply nD_));exact HO_10.out) (Kd.R_base ho56) hb);have n1_:=Aside0.mk (Kd.V_elder' (by (with_reducible repeat (first|apply vA_|apply vN_|apply vD_));exact HO_270001.out) (Kd.R_base ho56) hb);have n2_:=Aside0.mk (Kd.V_elder' (by (with_reducible repeat (first|apply vA_|apply vN_|apply vD_));exact HO_271001.out) (Kd.R_base ho56) hb);have n3_:=Aside0.mk (Kd.V_elder' (by (with_reducible repeat (first|apply vA_|apply vN_|apply vD_));exact HO_272001.out) (Kd.R_base ho56) hb);have n4_:=Aside0.mk (Kd.R_lower ho56 (below_size (by repeat (first|(with_reducible first|exact HB.out|apply bA_|apply bN_|apply bD_|refine below_set ?_ GE269.out|refine below_set ?_ GE270.out|refine below_set ?_ GE271.out)|exact HB.out))));have n5_:=Aside0.mk (blk_below (g:=gb269) (o:=.cells #[.bool t254,.slice Ao36 t255.length co36] 26 (0,0)) (by (with_reducible repeat (first|refine blk_drewN ?_ _|refine blk_drew ?_|refine blk_alloc ?_ _));exact BK269.out) hb);have n6_:=Aside0.mk (blk_below (g:=gb270) (o:=.cells #[.bool t258,.slice Ao39 t259.length co39] 26 (0,0)) (by (with_reducible repeat (first|refine blk_drewN ?_ _|refine blk_drew ?_|refine blk_alloc ?_ _));exact BK270.out) hb);have n7_:=Aside0.mk (blk_below (g:=gb271) (o:=.cells #[.bool t262,.slice Ao41 t263.length co41] 26 (0,0)) (by (with_reducible repeat (first|refine blk_drewN ?_ _|refine blk_drew ?_|refine blk_alloc ?_ _));exact BK271.out) hb);have n8_:=Aside0.mk (below_step (by repeat (first|(with_reducible first|exact HB.out|apply bA_|apply bN_|apply bD_|refine below_set ?_ GE269.out|refine below_set ?_ GE270.out|refine below_set ?_ GE271.out)|exact HB.out)) hb);clear HO_10;clear HO_270001;clear HO_271001;clear HO_272001;clear BK269;clear BK270;clear BK271;clear HB;have HO_10:=n0_;have HO_270001:=n1_;have HO_271001:=n2_;have HO_272001:=n3_;have HO274:=n4_;have BK269:=n5_;have BK270:=n6_;have BK271:=n7_;have HB:=n8_;clear n0_ n1_ n2_ n3_ n4_ n5_ n6_ n7_ n8_;clear hb ho56;obtain ⟨Ao57,co57,eo57⟩:=Kd.R_slice HO274.out;subst eo57;have p275:0≤(x12_1:Int):=of_decide_eq_true (by first|(with_reducible assumption)|assumption);have q275:x12_1 < (y272.length:Int):=of_decide_eq_true (by first|(with_reducible assumption)|assumption);obtain ⟨ad275,e275,hx275_0⟩:=Kd.at_string (Kd.R_reads' HO274.out).2.2 x12_1 p275 q275;cases e275;replace p275:=eq_true p275;replace q275:=eq_true q275)|((with_reducible refine gate_callee (f:=11) rfl ?_);refine goesL_ (some 48) rfl rfl Try.func11 (by kernel_rfl) rfl #[.int .i64 a0] rfl (by (try simp only [List.map_toArray,List.map_cons,List.map_nil]);first|done|rfl|(simp only [List.length_drop,List.length_take];rfl)) ?_;(with_reducible refine (cadencelaw12_row.calls k1 a0 t276 _ A45.out).mono ?_);rintro e w58 ⟨v277,rfl,ho0,hb⟩;refine ⟨_,rfl,?_⟩;have n0_:=Aside0.mk (Kd.N_elder' (by (with_reducible repeat (first|apply nA_|apply nN_|apply nD_));exact HO_10.out) (Kd.N_base ho0) hb);have n1_:=Aside0.mk (Kd.V_elder' (by (with_reducible repeat (first|apply vA_|apply vN_|apply vD_));exact HO_270001.out) (Kd.N_base ho0) hb);have n2_:=Aside0.mk (Kd.V_elder' (by (with_reducible repeat (first|apply vA_|apply vN_|apply vD_));exact HO_271001.out) (Kd.N_base ho0) hb);have n3_:=Aside0.mk (Kd.V_elder' (by (with_reducible repeat (first|apply vA_|apply vN_|apply vD_));exact HO_272001.out) (Kd.N_base ho0) hb);have n4_:=Aside0.mk (Kd.R_below (by (with_reducible repeat (first|apply rA_|apply rN_|apply rD_));exact HO274.out) hb);have n5_:=Aside0.mk (Kd.N_lower (Kd.N_mono (ok':=fun k_=>some k_≠(v267:Value).ownBlock∧some k_≠(.slice (some ad275) y272.length co57:Value).ownBlock∧k_≠gb269∧k_≠gb270∧k_≠gb271) ho0 (fun k_ hk_=>⟨(Kd.fresh' (Kd.N_lt (by (with_reducible repeat (first|apply nA_|apply nN_|apply nD_));exact HO_10.out)) k_ hk_),(Kd.fresh' (Kd.R_lt (by (with_reducible repeat (first|apply rA_|apply rN_|apply rD_));exact HO274.out)) k_ hk_),(Kd.freshB (g:=gb269) (o:=.cells #[.bool t254,.slice Ao36 t255.length co36] 26 (0,0)) (by (with_reducible repeat (first|refine blk_drewN ?_ _|refine blk_drew ?_|refine blk_alloc ?_ _));exact BK269.out) k_ hk_),(Kd.freshB (g:=gb270) (o:=.cells #[.bool t258,.slice Ao39 t259.length co39] 26 (0,0)) (by (with_reducible repeat (first|refine blk_drewN ?_ _|refine blk_drew ?_|refine blk_alloc ?_ _));exact BK270.out) k_ hk_),(Kd.freshB (g:=gb271) (o:=.cells #[.bool t262,.slice Ao41 t263.length co41] 26 (0,0)) (by (with_reducible repeat (first|refine blk_drewN ?_ _|refine blk_drew ?_|refine blk_alloc ?_ _));exact BK271.out) k_ hk_)⟩)) (below_size (by repeat (first|(with_reducible first|exact HB.out|apply bA_|apply bN_|apply bD_|refine below_set ?_ GE269.out|refine below_set ?_ GE270.out|refine below_set ?_ GE271.out)|exact HB.out))));have n6_:=Aside0.mk (blk_below (g:=gb269) (o:=.cells #[.bool t254,.slice Ao36 t255.length co36] 26 (0,0)) (by (with_reducible repeat (first|refine blk_drewN ?_ _|refine blk_drew ?_|refine blk_alloc ?_ _));exact BK269.out) hb);have n7_:=Aside0.mk (blk_below (g:=gb270) (o:=.cells #[.bool t258,.slice Ao39 t259.length co39] 26 (0,0)) (by (with_reducible repeat (first|refine blk_drewN ?_ _|refine blk_drew ?_|refine blk_alloc ?_ _));exact BK270.out) hb);have n8_:=Aside0.mk (blk_below (g:=gb271) (o:=.cells #[.bool t262,.slice Ao41 t263.length co41] 26 (0,0)) (by (with_reducible repeat (first|refine blk_drewN ?_ _|refine blk_drew ?_|refine blk_alloc ?_ _));exact BK271.out) hb);have n9_:=Aside0.mk (below_step (by repeat (first|(with_reducible first|exact HB.out|apply bA_|apply bN_|apply bD_|refine below_set ?_ GE269.out|refine below_set ?_ GE270.out|refine below_set ?_ GE271.out)|exact HB.out)) hb);clear HO_10;clear HO_270001;clear HO_271001;clear HO_272001;clear HO274;clear BK269;clear BK270;clear BK271;clear HB;have HO_10:=n0_;have HO_270001:=n1_;have HO_271001:=n2_;have HO_272001:=n3_;have HO274:=n4_;have HO278:=n5_;have BK269:=n6_;have BK270:=n7_;have BK271:=n8_;have HB:=n9_;clear n0_ n1_ n2_ n3_ n4_ n5_ n6_ n7_ n8_ n9_;(try clear hb);(try clear hb2);(try clear hk);(try clear hi);(try clear ho0);obtain ⟨Ao59,co59,eo59⟩:=Kd.N_slice HO278.out;subst eo59)|((with_reducible refine gate_callee (f:=12) rfl ?_);refine goesL_ (some 50) rfl rfl Try.func12 (by kernel_rfl) rfl #[.slice Ao59 t276.length co59,.string (rdOf ByteArray.empty y272 x12_1)] rfl (by (try simp only [List.map_toArray,List.map_cons,List.map_nil]);first|done|rfl|(simp only [List.length_drop,List.length_take];rfl)) ?_;(with_reducible refine (cadencelaw12_value.calls k1 _ _ t276 (rdOf ByteArray.empty y272 x12_1) t279 _ ?side1 ?side2 A46.out).mono ?_);(case side1=>repeat (first|exact (Kd.N_reads' HO278.out).2.2|(with_reducible refine cA_ ?_ _)|(with_reducible refine cN_ ?_ _)|(with_reducible refine cD_ ?_)));(case side2=>exact (Kd.N_reads' HO278.out).2.1);rintro e w60 ⟨rfl,hb⟩;refine ⟨_,rfl,?_⟩;have n0_:=Aside0.mk (Kd.N_below (by (with_reducible repeat (first|apply nA_|apply nN_|apply nD_));exact HO_10.out) hb);have n1_:=Aside0.mk (Kd.V_below (by (with_reducible repeat (first|apply vA_|apply vN_|apply vD_));exact HO_270001.out) hb);have n2_:=Aside0.mk (Kd.V_below (by (with_reducible repeat (first|apply vA_|apply vN_|apply vD_));exact HO_271001.out) hb);have n3_:=Aside0.mk (Kd.V_below (by (with_reducible repeat (first|apply vA_|apply vN_|apply vD_));exact HO_272001.out) hb);have n4_:=Aside0.mk (Kd.R_below (by (with_reducible repeat (first|apply rA_|apply rN_|apply rD_));exact HO274.out) hb);have n5_:=Aside0.mk (Kd.N_below (by (with_reducible repeat (first|apply nA_|apply nN_|apply nD_));exact HO278.out) hb);have n6_:=Aside0.mk (blk_below (g:=gb269) (o:=.cells #[.bool t254,.slice Ao36 t255.length co36] 26 (0,0)) (by (with_reducible repeat (first|refine blk_drewN ?_ _|refine blk_drew ?_|refine blk_alloc ?_ _));exact BK269.out) hb);have n7_:=Aside0.mk (blk_below (g:=gb270) (o:=.cells #[.bool t258,.slice Ao39 t259.length co39] 26 (0,0)) (by (with_reducible repeat (first|refine blk_drewN ?_ _|refine blk_drew ?_|refine blk_alloc ?_ _));exact BK270.out) hb);have n8_:=Aside0.mk (blk_below (g:=gb271) (o:=.cells #[.bool t262,.slice Ao41 t263.length co41] 26 (0,0)) (by (with_reducible repeat (first|refine blk_drewN ?_ _|refine blk_drew ?_|refine blk_alloc ?_ _));exact BK271.out) hb);have n9_:=Aside0.mk (below_step (by repeat (first|(with_reducible first|exact HB.out|apply bA_|apply bN_|apply bD_|refine below_set ?_ GE269.out|refine below_set ?_ GE270.out|refine below_set ?_ GE271.out)|exact HB.out)) hb);clear HO_10;clear HO_270001;clear HO_271001;clear HO_272001;clear HO274;clear HO278;clear BK269;clear BK270;clear BK271;clear HB;have HO_10:=n0_;have HO_270001:=n1_;have HO_271001:=n2_;have HO_272001:=n3_;have HO274:=n4_;have HO278:=n5_;have BK269:=n6_;have BK270:=n7_;have BK271:=n8_;have HB:=n9_;clear n0_ n1_ n2_ n3_ n4_ n5_ n6_ n7_ n8_ n9_;(try clear hb);(try clear hb2);(try clear hk);(try clear hi))|((with_reducible refine gate_callee (f:=11) rfl ?_);refine goesL_ (some 52) rfl rfl Try.func11 (by kernel_rfl) rfl #[.int .i64 a1] rfl (by (try simp only [List.map_toArray,List.map_cons,List.map_nil]);first|done|rfl|(simp only [List.length_drop,List.length_take];rfl)) ?_;(with_reducible refine (cadencelaw12_row.calls k1 a1 t280 _ A47.out).mono ?_);rintro e w61 ⟨v281,rfl,ho0,hb⟩;refine ⟨_,rfl,?_⟩;have n0_:=Aside0.mk (Kd.N_elder' (by (with_reducible repeat (first|apply nA_|apply nN_|apply nD_));exact HO_10.out) (Kd.N_base ho0) hb);have n1_:=Aside0.mk (Kd.V_elder' (by (with_reducible repeat (first|apply vA_|apply vN_|apply vD_));exact HO_270001.out) (Kd.N_base ho0) hb);have n2_:=Aside0.mk (Kd.V_elder' (by (with_reducible repeat (first|apply vA_|apply vN_|apply vD_));exact HO_271001.out) (Kd.N_base ho0) hb);have n3_:=Aside0.mk (Kd.V_elder' (by (with_reducible repeat (first|apply vA_|apply vN_|apply vD_));exact HO_272001.out) (Kd.N_base ho0) hb);have n4_:=Aside0.mk (Kd.R_below (by (with_reducible repeat (first|apply rA_|apply rN_|apply rD_));exact HO274.out) hb);have n5_:=Aside0.mk (Kd.N_elder' (by (with_reducible repeat (first|apply nA_|apply nN_|apply nD_));exact HO278.out) (Kd.N_base ho0) hb);have n6_:=Aside0.mk (Kd.N_lower (Kd.N_mono (ok':=fun k_=>some k_≠(v267:Value).ownBlock∧some k_≠(.slice (some ad275) y272.length co57:Value).ownBlock∧some k_≠(.slice Ao59 t276.length co59:Value).ownBlock∧k_≠gb269∧k_≠gb270∧k_≠gb271) ho0 (fun k_ hk_=>⟨(Kd.fresh' (Kd.N_lt (by (with_reducible repeat (first|apply nA_|apply nN_|apply nD_));exact HO_10.out)) k_ hk_),(Kd.fresh' (Kd.R_lt (by (with_reducible repeat (first|apply rA_|apply rN_|apply rD_));exact HO274.out)) k_ hk_),(Kd.fresh' (Kd.N_lt (by (with_reducible repeat (first|apply nA_|apply nN_|apply nD_));exact HO278.out)) k_ hk_),(Kd.freshB (g:=gb269) (o:=.cells #[.bool t254,.slice Ao36 t255.length co36] 26 (0,0)) (by (with_reducible repeat (first|refine blk_drewN ?_ _|refine blk_drew ?_|refine blk_alloc ?_ _));exact BK269.out) k_ hk_),(Kd.freshB (g:=gb270) (o:=.cells #[.bool t258,.slice Ao39 t259.length co39] 26 (0,0)) (by (with_reducible repeat (first|refine blk_drewN ?_ _|refine blk_drew ?_|refine blk_alloc ?_ _));exact BK270.out) k_ hk_),(Kd.freshB (g:=gb271) (o:=.cells #[.bool t262,.slice Ao41 t263.length co41] 26 (0,0)) (by (with_reducible repeat (first|refine blk_drewN ?_ _|refine blk_drew ?_|refine blk_alloc ?_ _));exact BK271.out) k_ hk_)⟩)) (below_size (by repeat (first|(with_reducible first|exact HB.out|apply bA_|apply bN_|apply bD_|refine below_set ?_ GE269.out|refine below_set ?_ GE270.out|refine below_set ?_ GE271.out)|exact HB.out))));have n7_:=Aside0.mk (blk_below (g:=gb269) (o:=.cells #[.bool t254,.slice Ao36 t255.length co36] 26 (0,0)) (by (with_reducible repeat (first|refine blk_drewN ?_ _|refine blk_drew ?_|refine blk_alloc ?_ _));exact BK269.out) hb);have n8_:=Aside0.mk (blk_below (g:=gb270) (o:=.cells #[.bool t258,.slice Ao39 t259.length co39] 26 (0,0)) (by (with_reducible repeat (first|refine blk_drewN ?_ _|refine blk_drew ?_|refine blk_alloc ?_ _));exact BK270.out) hb);have n9_:=Aside0.mk (blk_below (g:=gb271) (o:=.cells #[.bool t262,.slice Ao41 t263.length co41] 26 (0,0)) (by (with_reducible repeat (first|refine blk_drewN ?_ _|refine blk_drew ?_|refine blk_alloc ?_ _));exact BK271.out) hb);have n10_:=Aside0.mk (below_step (by repeat (first|(with_reducible first|exact HB.out|apply bA_|apply bN_|apply bD_|refine below_set ?_ GE269.out|refine below_set ?_ GE270.out|refine below_set ?_ GE271.out)|exact HB.out)) hb);clear HO_10;clear HO_270001;clear HO_271001;clear HO_272001;clear HO274;clear HO278;clear BK269;clear BK270;clear BK271;clear HB;have HO_10:=n0_;have HO_270001:=n1_;have HO_271001:=n2_;have HO_272001:=n3_;have HO274:=n4_;have HO278:=n5_;have HO282:=n6_;have BK269:=n7_;have BK270:=n8_;have BK271:=n9_;have HB:=n10_;clear n0_ n1_ n2_ n3_ n4_ n5_ n6_ n7_ n8_ n9_ n10_;(try clear hb);(try clear hb2);(try clear hk);(try clear hi);(try clear ho0);obtain ⟨Ao62,co62,eo62⟩:=Kd.N_slice HO282.out;subst eo62)|((with_reducible refine gate_callee (f:=12) rfl ?_);refine goesL_ (some 54) rfl rfl Try.func12 (by kernel_rfl) rfl #[.slice Ao62 t280.length co62,.string (rdOf ByteArray.empty y272 x12_1)] rfl (by (try simp only [List.map_toArray,List.map_cons,List.map_nil]);first|done|rfl|(simp only [List.length_drop,List.length_take];rfl)) ?_;(with_reducible refine (cadencelaw12_value.calls k1 _ _ t280 (rdOf ByteArray.empty y272 x12_1) t283 _ ?side1 ?side2 A48.out).mono ?_);(case side1=>repeat (first|exact (Kd.N_reads' HO282.out).2.2|(with_reducible refine cA_ ?_ _)|(with_reducible refine cN_ ?_ _)|(with_reducible refine cD_ ?_)));(case side2=>exact (Kd.N_reads' HO282.out).2.1);rintro e w63 ⟨rfl,hb⟩;refine ⟨_,rfl,?_⟩;have n0_:=Aside0.mk (Kd.N_below (by (with_reducible repeat (first|apply nA_|apply nN_|apply nD_));exact HO_10.out) hb);have n1_:=Aside0.mk (Kd.V_below (by (with_reducible repeat (first|apply vA_|apply vN_|apply vD_));exact HO_270001.out) hb);have n2_:=Aside0.mk (Kd.V_below (by (with_reducible repeat (first|apply vA_|apply vN_|apply vD_));exact HO_271001.out) hb);have n3_:=Aside0.mk (Kd.V_below (by (with_reducible repeat (first|apply vA_|apply vN_|apply vD_));exact HO_272001.out) hb);have n4_:=Aside0.mk (Kd.R_below (by (with_reducible repeat (first|apply rA_|apply rN_|apply rD_));exact HO274.out) hb);have n5_:=Aside0.mk (Kd.N_below (by (with_reducible repeat (first|apply nA_|apply nN_|apply nD_));exact HO278.out) hb);have n6_:=Aside0.mk (Kd.N_below (by (with_reducible repeat (first|apply nA_|apply nN_|apply nD_));exact HO282.out) hb);have n7_:=Aside0.mk (blk_below (g:=gb269) (o:=.cells #[.bool t254,.slice Ao36 t255.length co36] 26 (0,0)) (by (with_reducible repeat (first|refine blk_drewN ?_ _|refine blk_drew ?_|refine blk_alloc ?_ _));exact BK269.out) hb);have n8_:=Aside0.mk (blk_below (g:=gb270) (o:=.cells #[.bool t258,.slice Ao39 t259.length co39] 26 (0,0)) (by (with_reducible repeat (first|refine blk_drewN ?_ _|refine blk_drew ?_|refine blk_alloc ?_ _));exact BK270.out) hb);have n9_:=Aside0.mk (blk_below (g:=gb271) (o:=.cells #[.bool t262,.slice Ao41 t263.length co41] 26 (0,0)) (by (with_reducible repeat (first|refine blk_drewN ?_ _|refine blk_drew ?_|refine blk_alloc ?_ _));exact BK271.out) hb);have n10_:=Aside0.mk (below_step (by repeat (first|(with_reducible first|exact HB.out|apply bA_|apply bN_|apply bD_|refine below_set ?_ GE269.out|refine below_set ?_ GE270.out|refine below_set ?_ GE271.out)|exact HB.out)) hb);clear HO_10;clear HO_270001;clear HO_271001;clear HO_272001;clear HO274;clear HO278;clear HO282;clear BK269;clear BK270;clear BK271;clear HB;have HO_10:=n0_;have HO_270001:=n1_;have HO_271001:=n2_;have HO_272001:=n3_;have HO274:=n4_;have HO278:=n5_;have HO282:=n6_;have BK269:=n7_;have BK270:=n8_;have BK271:=n9_;have HB:=n10_;clear n0_ n1_ n2_ n3_ n4_ n5_ n6_ n7_ n8_ n9_ n10_;(try clear hb);(try clear hb2);(try clear hk);(try clear hi))|((with_reducible refine gate_callee (f:=11) rfl ?_);refine goesL_ (some 56) rfl rfl Try.func11 (by kernel_rfl) rfl #[.int .i64 a2] rfl (by (try simp only [List.map_toArray,List.map_cons,List.map_nil]);first|done|rfl|(simp only [List.length_drop,List.length_take];rfl)) ?_;(with_reducible refine (cadencelaw12_row.calls k1 a2 t284 _ A49.out).mono ?_);rintro e w64 ⟨v285,rfl,ho0,hb⟩;refine ⟨_,rfl,?_⟩;have n0_:=Aside0.mk (Kd.N_elder' (by (with_reducible repeat (first|apply nA_|apply nN_|apply nD_));exact HO_10.out) (Kd.N_base ho0) hb);have n1_:=Aside0.mk (Kd.V_elder' (by (with_reducible repeat (first|apply vA_|apply vN_|apply vD_));exact HO_270001.out) (Kd.N_base ho0) hb);have n2_:=Aside0.mk (Kd.V_elder' (by (with_reducible repeat (first|apply vA_|apply vN_|apply vD_));exact HO_271001.out) (Kd.N_base ho0) hb);have n3_:=Aside0.mk (Kd.V_elder' (by (with_reducible repeat (first|apply vA_|apply vN_|apply vD_));exact HO_272001.out) (Kd.N_base ho0) hb);have n4_:=Aside0.mk (Kd.R_below (by (with_reducible repeat (first|apply rA_|apply rN_|apply rD_));exact HO274.out) hb);have n5_:=Aside0.mk (Kd.N_elder' (by (with_reducible repeat (first|apply nA_|apply nN_|apply nD_));exact HO278.out) (Kd.N_base ho0) hb);have n6_:=Aside0.mk (Kd.N_elder' (by (with_reducible repeat (first|apply nA_|apply nN_|apply nD_));exact HO282.out) (Kd.N_base ho0) hb);have n7_:=Aside0.mk (Kd.N_lower (Kd.N_mono (ok':=fun k_=>some k_≠(v267:Value).ownBlock∧some k_≠(.slice (some ad275) y272.length co57:Value).ownBlock∧some k_≠(.slice Ao59 t276.length co59:Value).ownBlock∧some k_≠(.slice Ao62 t280.length co62:Value).ownBlock∧k_≠gb269∧k_≠gb270∧k_≠gb271) ho0 (fun k_ hk_=>⟨(Kd.fresh' (Kd.N_lt (by (with_reducible repeat (first|apply nA_|apply nN_|apply nD_));exact HO_10.out)) k_ hk_),(Kd.fresh' (Kd.R_lt (by (with_reducible repeat (first|apply rA_|apply rN_|apply rD_));exact HO274.out)) k_ hk_),(Kd.fresh' (Kd.N_lt (by (with_reducible repeat (first|apply nA_|apply nN_|apply nD_));exact HO278.out)) k_ hk_),(Kd.fresh' (Kd.N_lt (by (with_reducible repeat (first|apply nA_|apply nN_|apply nD_));exact HO282.out)) k_ hk_),(Kd.freshB (g:=gb269) (o:=.cells #[.bool t254,.slice Ao36 t255.length co36] 26 (0,0)) (by (with_reducible repeat (first|refine blk_drewN ?_ _|refine blk_drew ?_|refine blk_alloc ?_ _));exact BK269.out) k_ hk_),(Kd.freshB (g:=gb270) (o:=.cells #[.bool t258,.slice Ao39 t259.length co39] 26 (0,0)) (by (with_reducible repeat (first|refine blk_drewN ?_ _|refine blk_drew ?_|refine blk_alloc ?_ _));exact BK270.out) k_ hk_),(Kd.freshB (g:=gb271) (o:=.cells #[.bool t262,.slice Ao41 t263.length co41] 26 (0,0)) (by (with_reducible repeat (first|refine blk_drewN ?_ _|refine blk_drew ?_|refine blk_alloc ?_ _));exact BK271.out) k_ hk_)⟩)) (below_size (by repeat (first|(with_reducible first|exact HB.out|apply bA_|apply bN_|apply bD_|refine below_set ?_ GE269.out|refine below_set ?_ GE270.out|refine below_set ?_ GE271.out)|exact HB.out))));have n8_:=Aside0.mk (blk_below (g:=gb269) (o:=.cells #[.bool t254,.slice Ao36 t255.length co36] 26 (0,0)) (by (with_reducible repeat (first|refine blk_drewN ?_ _|refine blk_drew ?_|refine blk_alloc ?_ _));exact BK269.out) hb);have n9_:=Aside0.mk (blk_below (g:=gb270) (o:=.cells #[.bool t258,.slice Ao39 t259.length co39] 26 (0,0)) (by (with_reducible repeat (first|refine blk_drewN ?_ _|refine blk_drew ?_|refine blk_alloc ?_ _));exact BK270.out) hb);have n10_:=Aside0.mk (blk_below (g:=gb271) (o:=.cells #[.bool t262,.slice Ao41 t263.length co41] 26 (0,0)) (by (with_reducible repeat (first|refine blk_drewN ?_ _|refine blk_drew ?_|refine blk_alloc ?_ _));exact BK271.out) hb);have n11_:=Aside0.mk (below_step (by repeat (first|(with_reducible first|exact HB.out|apply bA_|apply bN_|apply bD_|refine below_set ?_ GE269.out|refine below_set ?_ GE270.out|refine below_set ?_ GE271.out)|exact HB.out)) hb);clear HO_10;clear HO_270001;clear HO_271001;clear HO_272001;clear HO274;clear HO278;clear HO282;clear BK269;clear BK270;clear BK271;clear HB;have HO_10:=n0_;have HO_270001:=n1_;have HO_271001:=n2_;have HO_272001:=n3_;have HO274:=n4_;have HO278:=n5_;have HO282:=n6_;have HO286:=n7_;have BK269:=n8_;have BK270:=n9_;have BK271:=n10_;have HB:=n11_;clear n0_ n1_ n2_ n3_ n4_ n5_ n6_ n7_ n8_ n9_ n10_ n11_;(try clear hb);(try clear hb2);(try clear hk);(try clear hi);(try clear ho0);obtain ⟨Ao65,co65,eo65⟩:=Kd.N_slice HO286.out;subst eo65)|((with_reducible refine gate_callee (f:=12) rfl ?_);refine goesL_ (some 58) rfl rfl Try.func12 (by kernel_rfl) rfl #[.slice Ao65 t284.length co65,.string (rdOf ByteArray.empty y272 x12_1)] rfl (by (try simp only [List.map_toArray,List.map_cons,List.map_nil]);first|done|rfl|(simp only [List.length_drop,List.length_take];rfl)) ?_;(with_reducible refine (cadencelaw12_value.calls k1 _ _ t284 (rdOf ByteArray.empty y272 x12_1) t287 _ ?side1 ?side2 A50.out).mono ?_);(case side1=>repeat (first|exact (Kd.N_reads' HO286.out).2.2|(with_reducible refine cA_ ?_ _)|(with_reducible refine cN_ ?_ _)|(with_reducible refine cD_ ?_)));(case side2=>exact (Kd.N_reads' HO286.out).2.1);rintro e w66 ⟨rfl,hb⟩;refine ⟨_,rfl,?_⟩;have n0_:=Aside0.mk (Kd.N_below (by (with_reducible repeat (first|apply nA_|apply nN_|apply nD_));exact HO_10.out) hb);have n1_:=Aside0.mk (Kd.V_below (by (with_reducible repeat (first|apply vA_|apply vN_|apply vD_));exact HO_270001.out) hb);have n2_:=Aside0.mk (Kd.V_below (by (with_reducible repeat (first|apply vA_|apply vN_|apply vD_));exact HO_271001.out) hb);have n3_:=Aside0.mk (Kd.V_below (by (with_reducible repeat (first|apply vA_|apply vN_|apply vD_));exact HO_272001.out) hb);have n4_:=Aside0.mk (Kd.R_below (by (with_reducible repeat (first|apply rA_|apply rN_|apply rD_));exact HO274.out) hb);have n5_:=Aside0.mk (Kd.N_below (by (with_reducible repeat (first|apply nA_|apply nN_|apply nD_));exact HO278.out) hb);have n6_:=Aside0.mk (Kd.N_below (by (with_reducible repeat (first|apply nA_|apply nN_|apply nD_));exact HO282.out) hb);have n7_:=Aside0.mk (Kd.N_below (by (with_reducible repeat (first|apply nA_|apply nN_|apply nD_));exact HO286.out) hb);have n8_:=Aside0.mk (blk_below (g:=gb269) (o:=.cells #[.bool t254,.slice Ao36 t255.length co36] 26 (0,0)) (by (with_reducible repeat (first|refine blk_drewN ?_ _|refine blk_drew ?_|refine blk_alloc ?_ _));exact BK269.out) hb);have n9_:=Aside0.mk (blk_below (g:=gb270) (o:=.cells #[.bool t258,.slice Ao39 t259.length co39] 26 (0,0)) (by (with_reducible repeat (first|refine blk_drewN ?_ _|refine blk_drew ?_|refine blk_alloc ?_ _));exact BK270.out) hb);have n10_:=Aside0.mk (blk_below (g:=gb271) (o:=.cells #[.bool t262,.slice Ao41 t263.length co41] 26 (0,0)) (by (with_reducible repeat (first|refine blk_drewN ?_ _|refine blk_drew ?_|refine blk_alloc ?_ _));exact BK271.out) hb);have n11_:=Aside0.mk (below_step (by repeat (first|(with_reducible first|exact HB.out|apply bA_|apply bN_|apply bD_|refine below_set ?_ GE269.out|refine below_set ?_ GE270.out|refine below_set ?_ GE271.out)|exact HB.out)) hb);clear HO_10;clear HO_270001;clear HO_271001;clear HO_272001;clear HO274;clear HO278;clear HO282;clear HO286;clear BK269;clear BK270;clear BK271;clear HB;have HO_10:=n0_;have HO_270001:=n1_;have HO_271001:=n2_;have HO_272001:=n3_;have HO274:=n4_;have HO278:=n5_;have HO282:=n6_;have HO286:=n7_;have BK269:=n8_;have BK270:=n9_;have BK271:=n10_;have HB:=n11_;clear n0_ n1_ n2_ n3_ n4_ n5_ n6_ n7_ n8_ n9_ n10_ n11_;(try clear hb);(try clear hb2);(try clear hk);(try clear hi)))
       have n0_:=Aside0.mk (nD_ HO_10.out)
       have n1_:=Aside0.mk (vD_ HO_270001.out)
       have n2_:=Aside0.mk (vD_ HO_271001.out)
       have n3_:=Aside0.mk (vD_ HO_272001.out)
       have n4_:=Aside0.mk (rD_ HO274.out)
       have n5_:=Aside0.mk (nD_ HO278.out)
       have n6_:=Aside0.mk (nD_ HO282.out)
       have n7_:=Aside0.mk (nD_ HO286.out)
       have n8_:=Aside0.mk (blk_drew BK269.out)
       have n9_:=Aside0.mk (blk_drew BK270.out)
       have n10_:=Aside0.mk (blk_drew BK271.out)
       have n11_:=Aside0.mk (bD_ HB.out)
       clear HO_10
       clear HO_270001
       clear HO_271001
       clear HO_272001
       clear HO274
       clear HO278
       clear HO282
       clear HO286
       clear BK269
       clear BK270
       clear BK271
       clear HB
       have HO_10:=n0_
       have HO_270001:=n1_
       have HO_271001:=n2_
       have HO_272001:=n3_
       have HO274:=n4_
       have HO278:=n5_
       have HO282:=n6_
       have HO286:=n7_
       have BK269:=n8_
       have BK270:=n9_
       have BK271:=n10_
       have HB:=n11_
       clear n0_ n1_ n2_ n3_ n4_ n5_ n6_ n7_ n8_ n9_ n10_ n11_
       refine start_ (n:=15) (S:=fun w'=>w'.cell? ⟨gb269,0,none⟩=some (.bool t254)∧w'.cell? ⟨gb269,1,none⟩=some (.slice Ao36 t255.length co36)∧w'.cell? ⟨gb270,0,none⟩=some (.bool t258)∧w'.cell? ⟨gb270,1,none⟩=some (.slice Ao39 t259.length co39)∧w'.cell? ⟨gb271,0,none⟩=some (.bool t262)∧w'.cell? ⟨gb271,1,none⟩=some (.slice Ao41 t263.length co41)) (ds:=[]) #[false,false,false,false,false,false,false,false,false,false,false,false,false,false,false] (by kernel_rfl) rfl rfl ⟨(blk_cell BK269.out 0).trans rfl,(blk_cell BK269.out 1).trans rfl,(blk_cell BK270.out 0).trans rfl,(blk_cell BK270.out 1).trans rfl,(blk_cell BK271.out 0).trans rfl,(blk_cell BK271.out 1).trans rfl⟩ (fun hHeld=>?_);refine with_tabW cadencelaw12_MergeRows.tab10 cadencelaw12_MergeRows.bits10 (fun HT_ HW_=>?_)
       generalize w66.drew=w67 at HO_10 HO_270001 HO_271001 HO_272001 HO274 HO278 HO282 HO286 BK269 BK270 BK271 HB hHeld ⊢
       refine pure_ (i:=0) (N:=some 59) (v:=?_) (a':=?_) #[true,false,false,false,false,false,false,false,false,false,false,false,false,false,false] rfl rfl (any_of HT_.out (by kernel_rfl)) (fun _ _ _ h=>h) (Or.inl ⟨by rfl,?_⟩) ?_ ?_
       rotate_left
       ·intro w'
        go_simp
        with_reducible rfl
       rotate_left
       ·simp only [Act.put,List.setIfInBounds_toArray,List.set_cons_zero,List.set_cons_succ,i64_w,i32_w]
        rfl
       refine pure_ (i:=2) (N:=some 61) (v:=?_) (a':=?_) #[true,false,true,false,false,false,false,false,false,false,false,false,false,false,false] rfl rfl (any_of HT_.out (by kernel_rfl)) (fun _ _ _ h=>h) (Or.inl ⟨by rfl,?_⟩) ?_ ?_
       rotate_left
       ·intro w'
        go_simp
        with_reducible rfl
       rotate_left
       ·simp only [Act.put,List.setIfInBounds_toArray,List.set_cons_zero,List.set_cons_succ,i64_w,i32_w]
        rfl
       refine pure_ (i:=4) (N:=some 63) (v:=?_) (a':=?_) #[true,false,true,false,true,false,false,false,false,false,false,false,false,false,false] rfl rfl (any_of HT_.out (by kernel_rfl)) (fun _ _ _ h=>h) (Or.inl ⟨by rfl,?_⟩) ?_ ?_
       rotate_left
       ·intro w'
        go_simp
        with_reducible rfl
       rotate_left
       ·simp only [Act.put,List.setIfInBounds_toArray,List.set_cons_zero,List.set_cons_succ,i64_w,i32_w]
        rfl
       refine pure_ (i:=6) (N:=some 65) (v:=?_) (a':=?_) #[true,false,true,false,true,false,true,false,false,false,false,false,false,false,false] rfl rfl (any_of HT_.out (by kernel_rfl)) (fun _ _ _ h=>h) (Or.inl ⟨by rfl,?_⟩) ?_ ?_
       rotate_left
       ·intro w'
        go_simp
        with_reducible rfl
       rotate_left
       ·simp only [Act.put,List.setIfInBounds_toArray,List.set_cons_zero,List.set_cons_succ,i64_w,i32_w]
        rfl
       refine pure_ (i:=8) (N:=some 67) (v:=?_) (a':=?_) #[true,false,true,false,true,false,true,false,true,false,false,false,false,false,false] rfl rfl (any_of HT_.out (by kernel_rfl)) (fun _ _ _ h=>h) (Or.inl ⟨by rfl,?_⟩) ?_ ?_
       rotate_left
       ·intro w'
        go_simp
        with_reducible rfl
       rotate_left
       ·simp only [Act.put,List.setIfInBounds_toArray,List.set_cons_zero,List.set_cons_succ,i64_w,i32_w]
        rfl
       refine pure_ (i:=10) (N:=some 69) (v:=?_) (a':=?_) #[true,false,true,false,true,false,true,false,true,false,true,false,false,false,false] rfl rfl (any_of HT_.out (by kernel_rfl)) (fun _ _ _ h=>h) (Or.inl ⟨by rfl,?_⟩) ?_ ?_
       rotate_left
       ·intro w'
        go_simp
        with_reducible rfl
       rotate_left
       ·simp only [Act.put,List.setIfInBounds_toArray,List.set_cons_zero,List.set_cons_succ,i64_w,i32_w]
        rfl
       refine take_ (i:=1) (N:=some 60) (v:=?_) (a':=?_) #[true,true,true,false,true,false,true,false,true,false,true,false,false,false,false] rfl rfl (take_ofW HT_.out HW_.out (by kernel_rfl)) (fun _ _ _ h=>h) (Or.inl ⟨by rfl,?_⟩) hHeld ?_ ?_
       rotate_left
       ·rintro w' ⟨s0,s1,s2,s3,s4,s5⟩
        go_simp
        with_reducible rfl
       rotate_left
       ·simp only [Act.put,List.setIfInBounds_toArray,List.set_cons_zero,List.set_cons_succ,i64_w,i32_w]
        rfl
       refine take_ (i:=5) (N:=some 64) (v:=?_) (a':=?_) #[true,true,true,false,true,true,true,false,true,false,true,false,false,false,false] rfl rfl (take_ofW HT_.out HW_.out (by kernel_rfl)) (fun _ _ _ h=>h) (Or.inl ⟨by rfl,?_⟩) hHeld ?_ ?_
       rotate_left
       ·rintro w' ⟨s0,s1,s2,s3,s4,s5⟩
        go_simp
        with_reducible rfl
       rotate_left
       ·simp only [Act.put,List.setIfInBounds_toArray,List.set_cons_zero,List.set_cons_succ,i64_w,i32_w]
        rfl
       refine take_ (i:=9) (N:=some 68) (v:=?_) (a':=?_) #[true,true,true,false,true,true,true,false,true,true,true,false,false,false,false] rfl rfl (take_ofW HT_.out HW_.out (by kernel_rfl)) (fun _ _ _ h=>h) (Or.inl ⟨by rfl,?_⟩) hHeld ?_ ?_
       rotate_left
       ·rintro w' ⟨s0,s1,s2,s3,s4,s5⟩
        go_simp
        with_reducible rfl
       rotate_left
       ·simp only [Act.put,List.setIfInBounds_toArray,List.set_cons_zero,List.set_cons_succ,i64_w,i32_w]
        rfl
       refine one_ (i:=3) (N:=some 62) #[true,true,true,true,true,true,true,false,true,true,true,false,false,false,false] rfl rfl (one_of HT_.out (by kernel_rfl)) (by decide) (fun K hK=>?_)
       refine goes_ Try.func12 (by kernel_rfl) rfl #[.slice Ao36 t255.length co36,.string (rdOf ByteArray.empty y272 x12_1)] (by rfl) rfl rfl (by (try simp only [List.map_toArray,List.map_cons,List.map_nil]);first|done|rfl|(simp only [List.length_drop,List.length_take];rfl)) ?_
       with_reducible refine (cadencelaw12_value.calls k1 _ _ t255 (rdOf ByteArray.empty y272 x12_1) t288 _ ?side1 ?side2 A51.out).mono ?_
       (case side1=>repeat (first|exact (Kd.V_reads' HO_270001.out).2.2|(with_reducible refine cA_ ?_ _)|(with_reducible refine cN_ ?_ _)|(with_reducible refine cD_ ?_)))
       (case side2=>exact (Kd.V_reads' HO_270001.out).2.1)
       rintro e w68 ⟨rfl,hb⟩
       refine ⟨_,rfl,?_⟩
       have n0_:=Aside0.mk (Kd.N_below (by (with_reducible repeat (first|apply nA_|apply nN_|apply nD_));exact HO_10.out) hb)
       have n1_:=Aside0.mk (Kd.V_below (by (with_reducible repeat (first|apply vA_|apply vN_|apply vD_));exact HO_270001.out) hb)
       have n2_:=Aside0.mk (Kd.V_below (by (with_reducible repeat (first|apply vA_|apply vN_|apply vD_));exact HO_271001.out) hb)
       have n3_:=Aside0.mk (Kd.V_below (by (with_reducible repeat (first|apply vA_|apply vN_|apply vD_));exact HO_272001.out) hb)
       have n4_:=Aside0.mk (Kd.R_below (by (with_reducible repeat (first|apply rA_|apply rN_|apply rD_));exact HO274.out) hb)
       have n5_:=Aside0.mk (Kd.N_below (by (with_reducible repeat (first|apply nA_|apply nN_|apply nD_));exact HO278.out) hb)
       have n6_:=Aside0.mk (Kd.N_below (by (with_reducible repeat (first|apply nA_|apply nN_|apply nD_));exact HO282.out) hb)
       have n7_:=Aside0.mk (Kd.N_below (by (with_reducible repeat (first|apply nA_|apply nN_|apply nD_));exact HO286.out) hb)
       have n8_:=Aside0.mk (blk_below (g:=gb269) (o:=.cells #[.bool t254,.slice Ao36 t255.length co36] 26 (0,0)) (by (with_reducible repeat (first|refine blk_drewN ?_ _|refine blk_drew ?_|refine blk_alloc ?_ _));exact BK269.out) hb)
       have n9_:=Aside0.mk (blk_below (g:=gb270) (o:=.cells #[.bool t258,.slice Ao39 t259.length co39] 26 (0,0)) (by (with_reducible repeat (first|refine blk_drewN ?_ _|refine blk_drew ?_|refine blk_alloc ?_ _));exact BK270.out) hb)
       have n10_:=Aside0.mk (blk_below (g:=gb271) (o:=.cells #[.bool t262,.slice Ao41 t263.length co41] 26 (0,0)) (by (with_reducible repeat (first|refine blk_drewN ?_ _|refine blk_drew ?_|refine blk_alloc ?_ _));exact BK271.out) hb)
       have n11_:=Aside0.mk (below_step (by repeat (first|(with_reducible first|exact HB.out|apply bA_|apply bN_|apply bD_|refine below_set ?_ GE269.out|refine below_set ?_ GE270.out|refine below_set ?_ GE271.out)|exact HB.out)) hb)
       clear HO_10
       clear HO_270001
       clear HO_271001
       clear HO_272001
       clear HO274
       clear HO278
       clear HO282
       clear HO286
       clear BK269
       clear BK270
       clear BK271
       clear HB
       have HO_10:=n0_
       have HO_270001:=n1_
       have HO_271001:=n2_
       have HO_272001:=n3_
       have HO274:=n4_
       have HO278:=n5_
       have HO282:=n6_
       have HO286:=n7_
       have BK269:=n8_
       have BK270:=n9_
       have BK271:=n10_
       have HB:=n11_
       clear n0_ n1_ n2_ n3_ n4_ n5_ n6_ n7_ n8_ n9_ n10_ n11_
       (try clear hb)
       (try clear hb2)
       (try clear hk)
       (try clear hi)
       refine hK.out _ _ ⟨(blk_cell BK269.out 0).trans rfl,(blk_cell BK269.out 1).trans rfl,(blk_cell BK270.out 0).trans rfl,(blk_cell BK270.out 1).trans rfl,(blk_cell BK271.out 0).trans rfl,(blk_cell BK271.out 1).trans rfl⟩ (fun hHeld=>?_)
       clear hK K
       refine norm_ (a':=?_) ?_ ?_
       rotate_left
       ·show Act.put _ (some 62) _=_
        simp only [Act.put,List.setIfInBounds_toArray,List.set_cons_zero,List.set_cons_succ,i64_w,i32_w]
        rfl
       refine one_ (i:=7) (N:=some 66) #[true,true,true,true,true,true,true,true,true,true,true,false,false,false,false] rfl rfl (one_of HT_.out (by kernel_rfl)) (by decide) (fun K hK=>?_)
       refine goes_ Try.func12 (by kernel_rfl) rfl #[.slice Ao39 t259.length co39,.string (rdOf ByteArray.empty y272 x12_1)] (by rfl) rfl rfl (by (try simp only [List.map_toArray,List.map_cons,List.map_nil]);first|done|rfl|(simp only [List.length_drop,List.length_take];rfl)) ?_
       with_reducible refine (cadencelaw12_value.calls k1 _ _ t259 (rdOf ByteArray.empty y272 x12_1) t289 _ ?side1 ?side2 A52.out).mono ?_
       (case side1=>repeat (first|exact (Kd.V_reads' HO_271001.out).2.2|(with_reducible refine cA_ ?_ _)|(with_reducible refine cN_ ?_ _)|(with_reducible refine cD_ ?_)))
       (case side2=>exact (Kd.V_reads' HO_271001.out).2.1)
       rintro e w69 ⟨rfl,hb⟩
       refine ⟨_,rfl,?_⟩
       have n0_:=Aside0.mk (Kd.N_below (by (with_reducible repeat (first|apply nA_|apply nN_|apply nD_));exact HO_10.out) hb)
       have n1_:=Aside0.mk (Kd.V_below (by (with_reducible repeat (first|apply vA_|apply vN_|apply vD_));exact HO_270001.out) hb)
       have n2_:=Aside0.mk (Kd.V_below (by (with_reducible repeat (first|apply vA_|apply vN_|apply vD_));exact HO_271001.out) hb)
       have n3_:=Aside0.mk (Kd.V_below (by (with_reducible repeat (first|apply vA_|apply vN_|apply vD_));exact HO_272001.out) hb)
       have n4_:=Aside0.mk (Kd.R_below (by (with_reducible repeat (first|apply rA_|apply rN_|apply rD_));exact HO274.out) hb)
       have n5_:=Aside0.mk (Kd.N_below (by (with_reducible repeat (first|apply nA_|apply nN_|apply nD_));exact HO278.out) hb)
       have n6_:=Aside0.mk (Kd.N_below (by (with_reducible repeat (first|apply nA_|apply nN_|apply nD_));exact HO282.out) hb)
       have n7_:=Aside0.mk (Kd.N_below (by (with_reducible repeat (first|apply nA_|apply nN_|apply nD_));exact HO286.out) hb)
       have n8_:=Aside0.mk (blk_below (g:=gb269) (o:=.cells #[.bool t254,.slice Ao36 t255.length co36] 26 (0,0)) (by (with_reducible repeat (first|refine blk_drewN ?_ _|refine blk_drew ?_|refine blk_alloc ?_ _));exact BK269.out) hb)
       have n9_:=Aside0.mk (blk_below (g:=gb270) (o:=.cells #[.bool t258,.slice Ao39 t259.length co39] 26 (0,0)) (by (with_reducible repeat (first|refine blk_drewN ?_ _|refine blk_drew ?_|refine blk_alloc ?_ _));exact BK270.out) hb)
       have n10_:=Aside0.mk (blk_below (g:=gb271) (o:=.cells #[.bool t262,.slice Ao41 t263.length co41] 26 (0,0)) (by (with_reducible repeat (first|refine blk_drewN ?_ _|refine blk_drew ?_|refine blk_alloc ?_ _));exact BK271.out) hb)
       have n11_:=Aside0.mk (below_step (by repeat (first|(with_reducible first|exact HB.out|apply bA_|apply bN_|apply bD_|refine below_set ?_ GE269.out|refine below_set ?_ GE270.out|refine below_set ?_ GE271.out)|exact HB.out)) hb)
       clear HO_10
       clear HO_270001
       clear HO_271001
       clear HO_272001
       clear HO274
       clear HO278
       clear HO282
       clear HO286
       clear BK269
       clear BK270
       clear BK271
       clear HB
       have HO_10:=n0_
       have HO_270001:=n1_
       have HO_271001:=n2_
       have HO_272001:=n3_
       have HO274:=n4_
       have HO278:=n5_
       have HO282:=n6_
       have HO286:=n7_
       have BK269:=n8_
       have BK270:=n9_
       have BK271:=n10_
       have HB:=n11_
       clear n0_ n1_ n2_ n3_ n4_ n5_ n6_ n7_ n8_ n9_ n10_ n11_
       (try clear hb)
       (try clear hb2)
       (try clear hk)
       (try clear hi)
       refine hK.out _ _ ⟨(blk_cell BK269.out 0).trans rfl,(blk_cell BK269.out 1).trans rfl,(blk_cell BK270.out 0).trans rfl,(blk_cell BK270.out 1).trans rfl,(blk_cell BK271.out 0).trans rfl,(blk_cell BK271.out 1).trans rfl⟩ (fun hHeld=>?_)
       clear hK K
       refine norm_ (a':=?_) ?_ ?_
       rotate_left
       ·show Act.put _ (some 66) _=_
        simp only [Act.put,List.setIfInBounds_toArray,List.set_cons_zero,List.set_cons_succ,i64_w,i32_w]
        rfl
       refine one_ (i:=11) (N:=some 70) #[true,true,true,true,true,true,true,true,true,true,true,true,false,false,false] rfl rfl (one_of HT_.out (by kernel_rfl)) (by decide) (fun K hK=>?_)
       refine goes_ Try.func12 (by kernel_rfl) rfl #[.slice Ao41 t263.length co41,.string (rdOf ByteArray.empty y272 x12_1)] (by rfl) rfl rfl (by (try simp only [List.map_toArray,List.map_cons,List.map_nil]);first|done|rfl|(simp only [List.length_drop,List.length_take];rfl)) ?_
       with_reducible refine (cadencelaw12_value.calls k1 _ _ t263 (rdOf ByteArray.empty y272 x12_1) t290 _ ?side1 ?side2 A53.out).mono ?_
       (case side1=>repeat (first|exact (Kd.V_reads' HO_272001.out).2.2|(with_reducible refine cA_ ?_ _)|(with_reducible refine cN_ ?_ _)|(with_reducible refine cD_ ?_)))
       (case side2=>exact (Kd.V_reads' HO_272001.out).2.1)
       rintro e w70 ⟨rfl,hb⟩
       refine ⟨_,rfl,?_⟩
       have n0_:=Aside0.mk (Kd.N_below (by (with_reducible repeat (first|apply nA_|apply nN_|apply nD_));exact HO_10.out) hb)
       have n1_:=Aside0.mk (Kd.V_below (by (with_reducible repeat (first|apply vA_|apply vN_|apply vD_));exact HO_270001.out) hb)
       have n2_:=Aside0.mk (Kd.V_below (by (with_reducible repeat (first|apply vA_|apply vN_|apply vD_));exact HO_271001.out) hb)
       have n3_:=Aside0.mk (Kd.V_below (by (with_reducible repeat (first|apply vA_|apply vN_|apply vD_));exact HO_272001.out) hb)
       have n4_:=Aside0.mk (Kd.R_below (by (with_reducible repeat (first|apply rA_|apply rN_|apply rD_));exact HO274.out) hb)
       have n5_:=Aside0.mk (Kd.N_below (by (with_reducible repeat (first|apply nA_|apply nN_|apply nD_));exact HO278.out) hb)
       have n6_:=Aside0.mk (Kd.N_below (by (with_reducible repeat (first|apply nA_|apply nN_|apply nD_));exact HO282.out) hb)
       have n7_:=Aside0.mk (Kd.N_below (by (with_reducible repeat (first|apply nA_|apply nN_|apply nD_));exact HO286.out) hb)
       have n8_:=Aside0.mk (blk_below (g:=gb269) (o:=.cells #[.bool t254,.slice Ao36 t255.length co36] 26 (0,0)) (by (with_reducible repeat (first|refine blk_drewN ?_ _|refine blk_drew ?_|refine blk_alloc ?_ _));exact BK269.out) hb)
       have n9_:=Aside0.mk (blk_below (g:=gb270) (o:=.cells #[.bool t258,.slice Ao39 t259.length co39] 26 (0,0)) (by (with_reducible repeat (first|refine blk_drewN ?_ _|refine blk_drew ?_|refine blk_alloc ?_ _));exact BK270.out) hb)
       have n10_:=Aside0.mk (blk_below (g:=gb271) (o:=.cells #[.bool t262,.slice Ao41 t263.length co41] 26 (0,0)) (by (with_reducible repeat (first|refine blk_drewN ?_ _|refine blk_drew ?_|refine blk_alloc ?_ _));exact BK271.out) hb)
       have n11_:=Aside0.mk (below_step (by repeat (first|(with_reducible first|exact HB.out|apply bA_|apply bN_|apply bD_|refine below_set ?_ GE269.out|refine below_set ?_ GE270.out|refine below_set ?_ GE271.out)|exact HB.out)) hb)
       clear HO_10
       clear HO_270001
       clear HO_271001
       clear HO_272001
       clear HO274
       clear HO278
       clear HO282
       clear HO286
       clear BK269
       clear BK270
       clear BK271
       clear HB
       have HO_10:=n0_
       have HO_270001:=n1_
       have HO_271001:=n2_
       have HO_272001:=n3_
       have HO274:=n4_
       have HO278:=n5_
       have HO282:=n6_
       have HO286:=n7_
       have BK269:=n8_
       have BK270:=n9_
       have BK271:=n10_
       have HB:=n11_
       clear n0_ n1_ n2_ n3_ n4_ n5_ n6_ n7_ n8_ n9_ n10_ n11_
       (try clear hb)
       (try clear hb2)
       (try clear hk)
       (try clear hi)
       refine hK.out _ _ ⟨(blk_cell BK269.out 0).trans rfl,(blk_cell BK269.out 1).trans rfl,(blk_cell BK270.out 0).trans rfl,(blk_cell BK270.out 1).trans rfl,(blk_cell BK271.out 0).trans rfl,(blk_cell BK271.out 1).trans rfl⟩ (fun hHeld=>?_)
       clear hK K
       refine norm_ (a':=?_) ?_ ?_
       rotate_left
       ·show Act.put _ (some 70) _=_
        simp only [Act.put,List.setIfInBounds_toArray,List.set_cons_zero,List.set_cons_succ,i64_w,i32_w]
        rfl
       refine pure_ (i:=12) (N:=some 17) (v:=?_) (a':=?_) #[true,true,true,true,true,true,true,true,true,true,true,true,true,false,false] rfl rfl (any_of HT_.out (by kernel_rfl)) (fun _ _ _ h=>h) (Or.inl ⟨by rfl,?_⟩) ?_ ?_
       rotate_left
       ·intro w'
        go_simp
        with_reducible rfl
       rotate_left
       ·simp only [Act.put,List.setIfInBounds_toArray,List.set_cons_zero,List.set_cons_succ,i64_w,i32_w]
        rfl
       refine pure_ (i:=13) (N:=some 18) (v:=?_) (a':=?_) #[true,true,true,true,true,true,true,true,true,true,true,true,true,true,false] rfl rfl (any_of HT_.out (by kernel_rfl)) (fun _ _ _ h=>h) (Or.inl ⟨by rfl,?_⟩) ?_ ?_
       rotate_left
       ·intro w'
        go_simp
        with_reducible rfl
       rotate_left
       ·simp only [Act.put,List.setIfInBounds_toArray,List.set_cons_zero,List.set_cons_succ,i64_w,i32_w]
        rfl
       refine pure_ (i:=14) (N:=some 19) (v:=?_) (a':=?_) #[true,true,true,true,true,true,true,true,true,true,true,true,true,true,true] rfl rfl (any_of HT_.out (by kernel_rfl)) (fun _ _ _ h=>h) (Or.inl ⟨by rfl,?_⟩) ?_ ?_
       rotate_left
       ·intro w'
        go_simp
        with_reducible rfl
       rotate_left
       ·simp only [Act.put,List.setIfInBounds_toArray,List.set_cons_zero,List.set_cons_succ,i64_w,i32_w]
        rfl
       refine done_ (done_of HT_.out (by kernel_rfl)) ?_
       go_upto_block 2 with (fail)
       go_cut [11,14,15,16] (fun v11 v14 v15 v16 wc=>∃ (kq:Nat) (x11_53:Int) (x14_53:ByteArray) (x15_53:ByteArray) (x16_53:ByteArray),v11=.int .i64 x11_53∧v14=.string x14_53∧v15=.string x15_53∧v16=.string x16_53∧Aside0 (cadencelaw12_MergeRows.j4 kq a0 a1 a2 t266 x11_53 x12_1 x14_53 x15_53 x16_53 t288 t289 t290 t254 t255 t258 t259 t262 t263=some r)∧Aside0 (kq≤k1)∧Aside0 (Kd.N k38 38 wc w.heap.size (fun k_=>k_≠gb269∧k_≠gb270∧k_≠gb271) v267 t266)∧Aside0 (Kd.V k51 51 wc w.heap.size (fun k_=>some k_≠(v267:Value).ownBlock∧k_≠gb269∧k_≠gb270∧k_≠gb271) (.slice Ao36 t255.length co36) t255)∧Aside0 (Kd.V k51 51 wc w.heap.size (fun k_=>some k_≠(v267:Value).ownBlock∧k_≠gb269∧k_≠gb270∧k_≠gb271) (.slice Ao39 t259.length co39) t259)∧Aside0 (Kd.V k51 51 wc w.heap.size (fun k_=>some k_≠(v267:Value).ownBlock∧k_≠gb269∧k_≠gb270∧k_≠gb271) (.slice Ao41 t263.length co41) t263)∧Aside0 (wc.heap[gb269]? = some (.cells #[.bool t254,(.slice Ao36 t255.length co36)] 26 (0,0)))∧Aside0 (wc.heap[gb270]? = some (.cells #[.bool t258,(.slice Ao39 t259.length co39)] 26 (0,0)))∧Aside0 (wc.heap[gb271]? = some (.cells #[.bool t262,(.slice Ao41 t263.length co41)] 26 (0,0)))∧Aside0 (Below w.heap.size w wc))
       case first =>
        have H:=HC54.out
        clear HC54
        by_cases c71:t283.toList=t287.toList
        ·rw [if_pos c71] at H
         have c71b0:(t283.toList == t287.toList)=true:=beq_iff_eq.mpr c71
         have c71b1:(t283.toList != t287.toList)=false:=bne_eq_false_iff_eq.mpr c71
         clear c71
         (first|rw [c71b0]|(simp only [i64_w,i32_w];rw [c71b0])|skip)
         have H':=Aside0.mk H
         clear H
         go_wp2
         go_meet
         case rel=>exact ⟨_,(x11_1),(t283),(t283),(t287),(by first|rfl|(simp;done)|(simp [*];done)),(by first|rfl|(simp;done)|(simp [*];done)),(by first|rfl|(simp;done)|(simp [*];done)),(by first|rfl|(simp;done)|(simp [*];done)),H',⟨by have:=HK1.out;first|omega|exact Nat.le_refl _⟩,⟨by (with_reducible repeat (first|apply nA_|apply nN_|apply nD_));exact Kd.N_mono HO_10.out (fun _ hk=>⟨hk.1.1.1.1.1,⟨hk.1.1.1.1.2.1,hk.1.1.1.1.2.2⟩⟩)⟩,⟨by (with_reducible repeat (first|apply vA_|apply vN_|apply vD_));exact Kd.V_mono HO_270001.out (fun _ hk=>⟨hk.1.1.1.1.1,⟨hk.1.1.1.1.2.1,⟨hk.1.1.1.1.2.2.1,hk.1.1.1.1.2.2.2⟩⟩⟩)⟩,⟨by (with_reducible repeat (first|apply vA_|apply vN_|apply vD_));exact Kd.V_mono HO_271001.out (fun _ hk=>⟨hk.1.1.1.1.1,⟨hk.1.1.1.1.2.1,⟨hk.1.1.1.1.2.2.1,hk.1.1.1.1.2.2.2⟩⟩⟩)⟩,⟨by (with_reducible repeat (first|apply vA_|apply vN_|apply vD_));exact Kd.V_mono HO_272001.out (fun _ hk=>⟨hk.1.1.1.1.1,⟨hk.1.1.1.1.2.1,⟨hk.1.1.1.1.2.2.1,hk.1.1.1.1.2.2.2⟩⟩⟩)⟩,⟨by (with_reducible repeat (first|refine blk_drewN ?_ _|refine blk_drew ?_|refine blk_alloc ?_ _));exact BK269.out⟩,⟨by (with_reducible repeat (first|refine blk_drewN ?_ _|refine blk_drew ?_|refine blk_alloc ?_ _));exact BK270.out⟩,⟨by (with_reducible repeat (first|refine blk_drewN ?_ _|refine blk_drew ?_|refine blk_alloc ?_ _));exact BK271.out⟩,⟨by repeat (first|(with_reducible first|exact HB.out|apply bA_|apply bN_|apply bD_|refine below_set ?_ GE269.out|refine below_set ?_ GE270.out|refine below_set ?_ GE271.out)|exact HB.out)⟩⟩
        ·rw [if_neg c71] at H
         have c71b0:(t283.toList == t287.toList)=false:=beq_eq_false_iff_ne.mpr c71
         have c71b1:(t283.toList != t287.toList)=true:=bne_iff_ne.mpr c71
         (first|rw [c71b0]|(simp only [i64_w,i32_w];rw [c71b0])|skip)
         by_cases c72:t279.toList=t283.toList
         ·rw [if_pos c72] at H
          have c72b0:(t279.toList == t283.toList)=true:=beq_iff_eq.mpr c72
          have c72b1:(t279.toList != t283.toList)=false:=bne_eq_false_iff_eq.mpr c72
          clear c72
          have H':=Aside0.mk H
          clear H
          go_wp2
          go_meet
          case rel=>exact ⟨_,(x11_1),(t287),(t287),(t287),(by first|rfl|(simp;done)|(simp [*];done)),(by first|rfl|(simp;done)|(simp [*];done)),(by first|rfl|(simp;done)|(simp [*];done)),(by first|rfl|(simp;done)|(simp [*];done)),H',⟨by have:=HK1.out;first|omega|exact Nat.le_refl _⟩,⟨by (with_reducible repeat (first|apply nA_|apply nN_|apply nD_));exact Kd.N_mono HO_10.out (fun _ hk=>⟨hk.1.1.1.1.1,⟨hk.1.1.1.1.2.1,hk.1.1.1.1.2.2⟩⟩)⟩,⟨by (with_reducible repeat (first|apply vA_|apply vN_|apply vD_));exact Kd.V_mono HO_270001.out (fun _ hk=>⟨hk.1.1.1.1.1,⟨hk.1.1.1.1.2.1,⟨hk.1.1.1.1.2.2.1,hk.1.1.1.1.2.2.2⟩⟩⟩)⟩,⟨by (with_reducible repeat (first|apply vA_|apply vN_|apply vD_));exact Kd.V_mono HO_271001.out (fun _ hk=>⟨hk.1.1.1.1.1,⟨hk.1.1.1.1.2.1,⟨hk.1.1.1.1.2.2.1,hk.1.1.1.1.2.2.2⟩⟩⟩)⟩,⟨by (with_reducible repeat (first|apply vA_|apply vN_|apply vD_));exact Kd.V_mono HO_272001.out (fun _ hk=>⟨hk.1.1.1.1.1,⟨hk.1.1.1.1.2.1,⟨hk.1.1.1.1.2.2.1,hk.1.1.1.1.2.2.2⟩⟩⟩)⟩,⟨by (with_reducible repeat (first|refine blk_drewN ?_ _|refine blk_drew ?_|refine blk_alloc ?_ _));exact BK269.out⟩,⟨by (with_reducible repeat (first|refine blk_drewN ?_ _|refine blk_drew ?_|refine blk_alloc ?_ _));exact BK270.out⟩,⟨by (with_reducible repeat (first|refine blk_drewN ?_ _|refine blk_drew ?_|refine blk_alloc ?_ _));exact BK271.out⟩,⟨by repeat (first|(with_reducible first|exact HB.out|apply bA_|apply bN_|apply bD_|refine below_set ?_ GE269.out|refine below_set ?_ GE270.out|refine below_set ?_ GE271.out)|exact HB.out)⟩⟩
         ·rw [if_neg c72] at H
          have c72b0:(t279.toList == t283.toList)=false:=beq_eq_false_iff_ne.mpr c72
          have c72b1:(t279.toList != t283.toList)=true:=bne_iff_ne.mpr c72
          by_cases c73:t279.toList=t287.toList
          ·rw [if_pos c73] at H
           have c73b0:(t279.toList == t287.toList)=true:=beq_iff_eq.mpr c73
           have c73b1:(t279.toList != t287.toList)=false:=bne_eq_false_iff_eq.mpr c73
           clear c73
           have H':=Aside0.mk H
           clear H
           go_wp2
           go_meet
           case rel=>exact ⟨_,(x11_1),(t283),(t283),(t283),(by first|rfl|(simp;done)|(simp [*];done)),(by first|rfl|(simp;done)|(simp [*];done)),(by first|rfl|(simp;done)|(simp [*];done)),(by first|rfl|(simp;done)|(simp [*];done)),H',⟨by have:=HK1.out;first|omega|exact Nat.le_refl _⟩,⟨by (with_reducible repeat (first|apply nA_|apply nN_|apply nD_));exact Kd.N_mono HO_10.out (fun _ hk=>⟨hk.1.1.1.1.1,⟨hk.1.1.1.1.2.1,hk.1.1.1.1.2.2⟩⟩)⟩,⟨by (with_reducible repeat (first|apply vA_|apply vN_|apply vD_));exact Kd.V_mono HO_270001.out (fun _ hk=>⟨hk.1.1.1.1.1,⟨hk.1.1.1.1.2.1,⟨hk.1.1.1.1.2.2.1,hk.1.1.1.1.2.2.2⟩⟩⟩)⟩,⟨by (with_reducible repeat (first|apply vA_|apply vN_|apply vD_));exact Kd.V_mono HO_271001.out (fun _ hk=>⟨hk.1.1.1.1.1,⟨hk.1.1.1.1.2.1,⟨hk.1.1.1.1.2.2.1,hk.1.1.1.1.2.2.2⟩⟩⟩)⟩,⟨by (with_reducible repeat (first|apply vA_|apply vN_|apply vD_));exact Kd.V_mono HO_272001.out (fun _ hk=>⟨hk.1.1.1.1.1,⟨hk.1.1.1.1.2.1,⟨hk.1.1.1.1.2.2.1,hk.1.1.1.1.2.2.2⟩⟩⟩)⟩,⟨by (with_reducible repeat (first|refine blk_drewN ?_ _|refine blk_drew ?_|refine blk_alloc ?_ _));exact BK269.out⟩,⟨by (with_reducible repeat (first|refine blk_drewN ?_ _|refine blk_drew ?_|refine blk_alloc ?_ _));exact BK270.out⟩,⟨by (with_reducible repeat (first|refine blk_drewN ?_ _|refine blk_drew ?_|refine blk_alloc ?_ _));exact BK271.out⟩,⟨by repeat (first|(with_reducible first|exact HB.out|apply bA_|apply bN_|apply bD_|refine below_set ?_ GE269.out|refine below_set ?_ GE270.out|refine below_set ?_ GE271.out)|exact HB.out)⟩⟩
          ·rw [if_neg c73] at H
           have c73b0:(t279.toList == t287.toList)=false:=beq_eq_false_iff_ne.mpr c73
           have c73b1:(t279.toList != t287.toList)=true:=bne_iff_ne.mpr c73
           have HC74:=Aside0.mk H
           clear H
           go_upto_region 12 with (fail)
           go_cut [76] (fun v76 wc=>∃ (kq:Nat) (x76_73:Bool),v76=.bool x76_73∧Aside0 (cadencelaw12_MergeRows.j1 kq a0 a1 a2 t266 x11_1 x12_1 (rdOf ByteArray.empty y272 x12_1) t279 t283 t287 t288 t289 t290 2 x76_73 t254 t255 t258 t259 t262 t263=some r)∧Aside0 (kq≤k1)∧Aside0 (Kd.N k38 38 wc w.heap.size (fun k_=>k_≠gb269∧k_≠gb270∧k_≠gb271) v267 t266)∧Aside0 (Kd.V k51 51 wc w.heap.size (fun k_=>some k_≠(v267:Value).ownBlock∧k_≠gb269∧k_≠gb270∧k_≠gb271) (.slice Ao36 t255.length co36) t255)∧Aside0 (Kd.V k51 51 wc w.heap.size (fun k_=>some k_≠(v267:Value).ownBlock∧k_≠gb269∧k_≠gb270∧k_≠gb271) (.slice Ao39 t259.length co39) t259)∧Aside0 (Kd.V k51 51 wc w.heap.size (fun k_=>some k_≠(v267:Value).ownBlock∧k_≠gb269∧k_≠gb270∧k_≠gb271) (.slice Ao41 t263.length co41) t263)∧Aside0 (wc.heap[gb269]? = some (.cells #[.bool t254,(.slice Ao36 t255.length co36)] 26 (0,0)))∧Aside0 (wc.heap[gb270]? = some (.cells #[.bool t258,(.slice Ao39 t259.length co39)] 26 (0,0)))∧Aside0 (wc.heap[gb271]? = some (.cells #[.bool t262,(.slice Ao41 t263.length co41)] 26 (0,0)))∧Aside0 (Below w.heap.size w wc))
           case first =>
            have H:=HC74.out
            clear HC74
            by_cases c75:t283.toList=([]:List UInt8)
            ·rw [if_pos c75] at H
             have c75b0:(t283.toList == ([]:List UInt8))=true:=beq_iff_eq.mpr c75
             have c75b1:(t283.toList != ([]:List UInt8))=false:=bne_eq_false_iff_eq.mpr c75
             clear c75
             (first|rw [c75b0]|(simp only [i64_w,i32_w];rw [c75b0])|skip)
             have H':=Aside0.mk H
             clear H
             go_wp2
             go_meet
             case rel=>exact ⟨_,(true),(by first|rfl|(simp;done)|(simp [*];done)),H',⟨by have:=HK1.out;first|omega|exact Nat.le_refl _⟩,⟨by (with_reducible repeat (first|apply nA_|apply nN_|apply nD_));exact Kd.N_mono HO_10.out (fun _ hk=>⟨hk.1.1.1.1.1,⟨hk.1.1.1.1.2.1,hk.1.1.1.1.2.2⟩⟩)⟩,⟨by (with_reducible repeat (first|apply vA_|apply vN_|apply vD_));exact Kd.V_mono HO_270001.out (fun _ hk=>⟨hk.1.1.1.1.1,⟨hk.1.1.1.1.2.1,⟨hk.1.1.1.1.2.2.1,hk.1.1.1.1.2.2.2⟩⟩⟩)⟩,⟨by (with_reducible repeat (first|apply vA_|apply vN_|apply vD_));exact Kd.V_mono HO_271001.out (fun _ hk=>⟨hk.1.1.1.1.1,⟨hk.1.1.1.1.2.1,⟨hk.1.1.1.1.2.2.1,hk.1.1.1.1.2.2.2⟩⟩⟩)⟩,⟨by (with_reducible repeat (first|apply vA_|apply vN_|apply vD_));exact Kd.V_mono HO_272001.out (fun _ hk=>⟨hk.1.1.1.1.1,⟨hk.1.1.1.1.2.1,⟨hk.1.1.1.1.2.2.1,hk.1.1.1.1.2.2.2⟩⟩⟩)⟩,⟨by (with_reducible repeat (first|refine blk_drewN ?_ _|refine blk_drew ?_|refine blk_alloc ?_ _));exact BK269.out⟩,⟨by (with_reducible repeat (first|refine blk_drewN ?_ _|refine blk_drew ?_|refine blk_alloc ?_ _));exact BK270.out⟩,⟨by (with_reducible repeat (first|refine blk_drewN ?_ _|refine blk_drew ?_|refine blk_alloc ?_ _));exact BK271.out⟩,⟨by repeat (first|(with_reducible first|exact HB.out|apply bA_|apply bN_|apply bD_|refine below_set ?_ GE269.out|refine below_set ?_ GE270.out|refine below_set ?_ GE271.out)|exact HB.out)⟩⟩
            ·rw [if_neg c75] at H
             have c75b0:(t283.toList == ([]:List UInt8))=false:=beq_eq_false_iff_ne.mpr c75
             have c75b1:(t283.toList != ([]:List UInt8))=true:=bne_iff_ne.mpr c75
             (first|rw [c75b0]|(simp only [i64_w,i32_w];rw [c75b0])|skip)
             have H':=Aside0.mk H
             clear H
             go_wp2
             go_meet
             case rel=>exact ⟨_,((t287.toList == ([]:List UInt8))),(by first|rfl|(simp;done)|(simp [*];done)),H',⟨by have:=HK1.out;first|omega|exact Nat.le_refl _⟩,⟨by (with_reducible repeat (first|apply nA_|apply nN_|apply nD_));exact Kd.N_mono HO_10.out (fun _ hk=>⟨hk.1.1.1.1.1,⟨hk.1.1.1.1.2.1,hk.1.1.1.1.2.2⟩⟩)⟩,⟨by (with_reducible repeat (first|apply vA_|apply vN_|apply vD_));exact Kd.V_mono HO_270001.out (fun _ hk=>⟨hk.1.1.1.1.1,⟨hk.1.1.1.1.2.1,⟨hk.1.1.1.1.2.2.1,hk.1.1.1.1.2.2.2⟩⟩⟩)⟩,⟨by (with_reducible repeat (first|apply vA_|apply vN_|apply vD_));exact Kd.V_mono HO_271001.out (fun _ hk=>⟨hk.1.1.1.1.1,⟨hk.1.1.1.1.2.1,⟨hk.1.1.1.1.2.2.1,hk.1.1.1.1.2.2.2⟩⟩⟩)⟩,⟨by (with_reducible repeat (first|apply vA_|apply vN_|apply vD_));exact Kd.V_mono HO_272001.out (fun _ hk=>⟨hk.1.1.1.1.1,⟨hk.1.1.1.1.2.1,⟨hk.1.1.1.1.2.2.1,hk.1.1.1.1.2.2.2⟩⟩⟩)⟩,⟨by (with_reducible repeat (first|refine blk_drewN ?_ _|refine blk_drew ?_|refine blk_alloc ?_ _));exact BK269.out⟩,⟨by (with_reducible repeat (first|refine blk_drewN ?_ _|refine blk_drew ?_|refine blk_alloc ?_ _));exact BK270.out⟩,⟨by (with_reducible repeat (first|refine blk_drewN ?_ _|refine blk_drew ?_|refine blk_alloc ?_ _));exact BK271.out⟩,⟨by repeat (first|(with_reducible first|exact HB.out|apply bA_|apply bN_|apply bD_|refine below_set ?_ GE269.out|refine below_set ?_ GE270.out|refine below_set ?_ GE271.out)|exact HB.out)⟩⟩
           case rest =>
            clear HC74
            try clear c1
            try clear p2
            try clear q2
            try clear hx2
            try clear c3
            try clear c4
            try clear c5
            try clear c7
            try clear c8
            try clear c9
            try clear c10
            try clear c11
            try clear c12
            try clear p27
            try clear q27
            try clear hx27
            try clear c33
            try clear c34
            try clear c37
            try clear c42
            try clear c42b0
            try clear c43
            try clear c43b0
            try clear c44
            try clear c44b0
            try clear c71
            try clear c71b0
            try clear c71b1
            try clear c72
            try clear c72b0
            try clear c72b1
            try clear c73
            try clear c73b0
            try clear c73b1
            try clear c75
            try clear c75b0
            try clear c75b1
            try clear hcz35_0
            try clear hcz35_1
            try clear hcz38_0
            try clear hcz38_1
            try clear hcz40_0
            try clear hcz40_1
            try clear hfz35_0
            try clear hfz35_1
            try clear hfz38_0
            try clear hfz38_1
            try clear hfz40_0
            try clear hfz40_1
            try clear hx275_0
            try clear p2
            try clear p275
            try clear q275
            obtain ⟨kq,x76_73,rfl,HA,HJ73,HO_10,HO_270001,HO_271001,HO_272001,BK269,BK270,BK271,HB⟩:=hcut
            cases kq with
            | zero=>exact absurd HA.out (by simp [cadencelaw12_MergeRows.j1])
            | succ kj73 =>
             have H:=HA.out
             clear HA
             simp only [cadencelaw12_MergeRows.j1] at H
             have HC76:=Aside0.mk H
             clear H
             go_upto_if 76 with (fail)
             go_cut [20] (fun v20 wc=>∃ (kq:Nat) (x20_75:Int),v20=.int .i64 x20_75∧Aside0 (cadencelaw12_MergeRows.j2 kq a0 a1 a2 t266 x11_1 x12_1 (rdOf ByteArray.empty y272 x12_1) t279 t283 t287 t288 t289 t290 x20_75 t254 t255 t258 t259 t262 t263=some r)∧Aside0 (kq≤kj73)∧Aside0 (Kd.N k38 38 wc w.heap.size (fun k_=>k_≠gb269∧k_≠gb270∧k_≠gb271) v267 t266)∧Aside0 (Kd.V k51 51 wc w.heap.size (fun k_=>some k_≠(v267:Value).ownBlock∧k_≠gb269∧k_≠gb270∧k_≠gb271) (.slice Ao36 t255.length co36) t255)∧Aside0 (Kd.V k51 51 wc w.heap.size (fun k_=>some k_≠(v267:Value).ownBlock∧k_≠gb269∧k_≠gb270∧k_≠gb271) (.slice Ao39 t259.length co39) t259)∧Aside0 (Kd.V k51 51 wc w.heap.size (fun k_=>some k_≠(v267:Value).ownBlock∧k_≠gb269∧k_≠gb270∧k_≠gb271) (.slice Ao41 t263.length co41) t263)∧Aside0 (wc.heap[gb269]? = some (.cells #[.bool t254,(.slice Ao36 t255.length co36)] 26 (0,0)))∧Aside0 (wc.heap[gb270]? = some (.cells #[.bool t258,(.slice Ao39 t259.length co39)] 26 (0,0)))∧Aside0 (wc.heap[gb271]? = some (.cells #[.bool t262,(.slice Ao41 t263.length co41)] 26 (0,0)))∧Aside0 (Below w.heap.size w wc))
             case first =>
              have H:=HC76.out
              clear HC76
              by_cases c77:x76_73=true
              ·subst c77
               have H1:(cadencelaw12_MergeRows.j2 kj73 a0 a1 a2 t266 x11_1 x12_1 (rdOf ByteArray.empty y272 x12_1) t279 t283 t287 t288 t289 t290 1 t254 t255 t258 t259 t262 t263)=some r:=by rw [if_pos rfl] at H;exact H
               clear H
               have H:=H1
               clear H1
               have H':=Aside0.mk H
               clear H
               go_wp2
               go_meet
               case rel=>exact ⟨_,(1),(by first|rfl|(simp;done)|(simp [*];done)),H',⟨by have:=HK1.out;have:=HJ73.out;first|omega|exact Nat.le_refl _⟩,⟨by (with_reducible repeat (first|apply nA_|apply nN_|apply nD_));exact HO_10.out⟩,⟨by (with_reducible repeat (first|apply vA_|apply vN_|apply vD_));exact HO_270001.out⟩,⟨by (with_reducible repeat (first|apply vA_|apply vN_|apply vD_));exact HO_271001.out⟩,⟨by (with_reducible repeat (first|apply vA_|apply vN_|apply vD_));exact HO_272001.out⟩,⟨by (with_reducible repeat (first|refine blk_drewN ?_ _|refine blk_drew ?_|refine blk_alloc ?_ _));exact BK269.out⟩,⟨by (with_reducible repeat (first|refine blk_drewN ?_ _|refine blk_drew ?_|refine blk_alloc ?_ _));exact BK270.out⟩,⟨by (with_reducible repeat (first|refine blk_drewN ?_ _|refine blk_drew ?_|refine blk_alloc ?_ _));exact BK271.out⟩,⟨by repeat (first|(with_reducible first|exact HB.out|apply bA_|apply bN_|apply bD_|refine below_set ?_ GE269.out|refine below_set ?_ GE270.out|refine below_set ?_ GE271.out)|exact HB.out)⟩⟩
              ·replace c77:=Bool.eq_false_iff.mpr c77
               subst c77
               have H1:(cadencelaw12_MergeRows.j2 kj73 a0 a1 a2 t266 x11_1 x12_1 (rdOf ByteArray.empty y272 x12_1) t279 t283 t287 t288 t289 t290 2 t254 t255 t258 t259 t262 t263)=some r:=by rw [if_neg (show ¬ (false=true) by decide)] at H;exact H
               clear H
               have H:=H1
               clear H1
               have H':=Aside0.mk H
               clear H
               go_wp2
               go_meet
               case rel=>exact ⟨_,(2),(by first|rfl|(simp;done)|(simp [*];done)),H',⟨by have:=HK1.out;have:=HJ73.out;first|omega|exact Nat.le_refl _⟩,⟨by (with_reducible repeat (first|apply nA_|apply nN_|apply nD_));exact HO_10.out⟩,⟨by (with_reducible repeat (first|apply vA_|apply vN_|apply vD_));exact HO_270001.out⟩,⟨by (with_reducible repeat (first|apply vA_|apply vN_|apply vD_));exact HO_271001.out⟩,⟨by (with_reducible repeat (first|apply vA_|apply vN_|apply vD_));exact HO_272001.out⟩,⟨by (with_reducible repeat (first|refine blk_drewN ?_ _|refine blk_drew ?_|refine blk_alloc ?_ _));exact BK269.out⟩,⟨by (with_reducible repeat (first|refine blk_drewN ?_ _|refine blk_drew ?_|refine blk_alloc ?_ _));exact BK270.out⟩,⟨by (with_reducible repeat (first|refine blk_drewN ?_ _|refine blk_drew ?_|refine blk_alloc ?_ _));exact BK271.out⟩,⟨by repeat (first|(with_reducible first|exact HB.out|apply bA_|apply bN_|apply bD_|refine below_set ?_ GE269.out|refine below_set ?_ GE270.out|refine below_set ?_ GE271.out)|exact HB.out)⟩⟩
             case rest =>
              clear HC76
              try clear c1
              try clear p2
              try clear q2
              try clear hx2
              try clear c3
              try clear c4
              try clear c5
              try clear c7
              try clear c8
              try clear c9
              try clear c10
              try clear c11
              try clear c12
              try clear p27
              try clear q27
              try clear hx27
              try clear c33
              try clear c34
              try clear c37
              try clear c42
              try clear c42b0
              try clear c43
              try clear c43b0
              try clear c44
              try clear c44b0
              try clear c71
              try clear c71b0
              try clear c71b1
              try clear c72
              try clear c72b0
              try clear c72b1
              try clear c73
              try clear c73b0
              try clear c73b1
              try clear c75
              try clear c75b0
              try clear c75b1
              try clear c77
              try clear hcz35_0
              try clear hcz35_1
              try clear hcz38_0
              try clear hcz38_1
              try clear hcz40_0
              try clear hcz40_1
              try clear hfz35_0
              try clear hfz35_1
              try clear hfz38_0
              try clear hfz38_1
              try clear hfz40_0
              try clear hfz40_1
              try clear hx275_0
              try clear p2
              try clear p27
              try clear p275
              try clear q2
              try clear q27
              try clear q275
              obtain ⟨kq,x20_75,rfl,HA,HJ75,HO_10,HO_270001,HO_271001,HO_272001,BK269,BK270,BK271,HB⟩:=hcut
              cases kq with
              | zero=>exact absurd HA.out (by simp [cadencelaw12_MergeRows.j2])
              | succ kj75 =>
               have H:=HA.out
               clear HA
               simp only [cadencelaw12_MergeRows.j2] at H
               have HC78:=Aside0.mk H
               clear H
               go_upto_region 14 with (fail)
               go_cut [109] (fun v109 wc=>∃ (kq:Nat) (x109_77:Bool),v109=.bool x109_77∧Aside0 (cadencelaw12_MergeRows.j3 kq a0 a1 a2 t266 x11_1 x12_1 t279 t283 t287 t288 t289 t290 x109_77 t254 t255 t258 t259 t262 t263=some r)∧Aside0 (kq≤kj75)∧Aside0 (Kd.N k38 38 wc w.heap.size (fun k_=>k_≠gb269∧k_≠gb270∧k_≠gb271) v267 t266)∧Aside0 (Kd.V k51 51 wc w.heap.size (fun k_=>some k_≠(v267:Value).ownBlock∧k_≠gb269∧k_≠gb270∧k_≠gb271) (.slice Ao36 t255.length co36) t255)∧Aside0 (Kd.V k51 51 wc w.heap.size (fun k_=>some k_≠(v267:Value).ownBlock∧k_≠gb269∧k_≠gb270∧k_≠gb271) (.slice Ao39 t259.length co39) t259)∧Aside0 (Kd.V k51 51 wc w.heap.size (fun k_=>some k_≠(v267:Value).ownBlock∧k_≠gb269∧k_≠gb270∧k_≠gb271) (.slice Ao41 t263.length co41) t263)∧Aside0 (wc.heap[gb269]? = some (.cells #[.bool t254,(.slice Ao36 t255.length co36)] 26 (0,0)))∧Aside0 (wc.heap[gb270]? = some (.cells #[.bool t258,(.slice Ao39 t259.length co39)] 26 (0,0)))∧Aside0 (wc.heap[gb271]? = some (.cells #[.bool t262,(.slice Ao41 t263.length co41)] 26 (0,0)))∧Aside0 (Below w.heap.size w wc))
               case first =>
                have H:=HC78.out
                clear HC78
                by_cases c79:x11_1 ≥ (t266.length:Int)
                ·rw [if_pos c79] at H
                 have c79b0:decide ((t266.length:Int)≤x11_1)=true:=decide_eq_true c79
                 clear c79
                 (first|rw [c79b0]|(simp only [i64_w,i32_w];rw [c79b0])|skip)
                 have H':=Aside0.mk H
                 clear H
                 obtain ⟨Ao80,co80,eo80⟩:=Kd.N_slice HO_10.out
                 subst eo80
                 go_wp2
                 go_meet
                 case rel=>exact ⟨_,(true),(by first|rfl|(simp;done)|(simp [*];done)),H',⟨by have:=HK1.out;have:=HJ73.out;have:=HJ75.out;first|omega|exact Nat.le_refl _⟩,⟨by (with_reducible repeat (first|apply nA_|apply nN_|apply nD_));exact HO_10.out⟩,⟨by (with_reducible repeat (first|apply vA_|apply vN_|apply vD_));exact HO_270001.out⟩,⟨by (with_reducible repeat (first|apply vA_|apply vN_|apply vD_));exact HO_271001.out⟩,⟨by (with_reducible repeat (first|apply vA_|apply vN_|apply vD_));exact HO_272001.out⟩,⟨by (with_reducible repeat (first|refine blk_drewN ?_ _|refine blk_drew ?_|refine blk_alloc ?_ _));exact BK269.out⟩,⟨by (with_reducible repeat (first|refine blk_drewN ?_ _|refine blk_drew ?_|refine blk_alloc ?_ _));exact BK270.out⟩,⟨by (with_reducible repeat (first|refine blk_drewN ?_ _|refine blk_drew ?_|refine blk_alloc ?_ _));exact BK271.out⟩,⟨by repeat (first|(with_reducible first|exact HB.out|apply bA_|apply bN_|apply bD_|refine below_set ?_ GE269.out|refine below_set ?_ GE270.out|refine below_set ?_ GE271.out)|exact HB.out)⟩⟩
                ·rw [if_neg c79] at H
                 have c79b0:decide ((t266.length:Int)≤x11_1)=false:=decide_eq_false c79
                 clear c79
                 (first|rw [c79b0]|(simp only [i64_w,i32_w];rw [c79b0])|skip)
                 by_cases c81:0≤x11_1
                 ·rw [if_pos c81] at H
                  have c81b0:decide (0≤x11_1)=true:=decide_eq_true c81
                  clear c81
                  by_cases c82:x11_1 < (t266.length:Int)
                  ·rw [if_pos c82] at H
                   have c82b0:decide (x11_1 < (t266.length:Int))=true:=decide_eq_true c82
                   clear c82
                   by_cases c83:((rd_T38 t266 x11_1).f1)=x20_75
                   ·rw [if_pos c83] at H
                    have c83b0:(((rd_T38 t266 x11_1).f1) == x20_75)=true:=beq_iff_eq.mpr c83
                    have c83b1:(((rd_T38 t266 x11_1).f1) != x20_75)=false:=bne_eq_false_iff_eq.mpr c83
                    clear c83
                    by_cases c84:(((rd_T38 t266 x11_1).f0).length:Int)=1
                    ·rw [if_pos c84] at H
                     have c84b0:((((rd_T38 t266 x11_1).f0).length:Int) == 1)=true:=beq_iff_eq.mpr c84
                     have c84b1:((((rd_T38 t266 x11_1).f0).length:Int) != 1)=false:=bne_eq_false_iff_eq.mpr c84
                     clear c84
                     by_cases c85:0 < (((rd_T38 t266 x11_1).f0).length:Int)
                     ·rw [if_pos c85] at H
                      have c85b0:decide (0 < (((rd_T38 t266 x11_1).f0).length:Int))=true:=decide_eq_true c85
                      have c85b1:decide (0 < ((rd_T38 t266 x11_1).f0).length)=true:=decide_eq_true (by omega)
                      clear c85
                      have H':=Aside0.mk H
                      clear H
                      obtain ⟨Ao86,co86,eo86⟩:=Kd.N_slice HO_10.out
                      subst eo86
                      have p291:0≤(x11_1:Int):=of_decide_eq_true (by first|(with_reducible assumption)|assumption)
                      have q291:x11_1 < (t266.length:Int):=of_decide_eq_true (by first|(with_reducible assumption)|assumption)
                      obtain ⟨ad291,A291_0,c291_0,e291,hx291_0,hx291_1,hl291_0,hi291_0⟩:=at_T38 (Kd.N_reads' HO_10.out).2.2 x11_1 p291 q291
                      cases e291
                      obtain ⟨ce291,hce291,hMe291,hcc291⟩:=Kd.N_get HO_10.out z38 x11_1 p291 (by first|exact q291|exact of_decide_eq_true (by first|(with_reducible assumption)|assumption)|(have e_:=(Kd.N_reads' HO_10.out).1;omega))
                      obtain ⟨ua291_0,uc291_0,rfl,ul291_0,ge291_0⟩:=k38_openF hMe291
                      have hv291_0:=hcc291 0 _ rfl
                      rw [Nat.add_zero] at hv291_0
                      replace hv291_0:=Option.some.inj (hv291_0.symm.trans hx291_0)
                      injection hv291_0 with hva_ hvn_ hvc_
                      rw [hva_] at ge291_0
                      rw [hvc_] at ul291_0
                      have HL291_0:=Aside0.mk (show Kd.V Kd.string 9 _ w.heap.size _ _ ((rd_T38 t266 x11_1).f0) from Kd.V_mk ul291_0 ge291_0)
                      clear hva_ hvn_ hvc_ ge291_0 ul291_0
                      clear hcc291 hce291
                      have HR291_0:=Aside0.mk hi291_0
                      have HC291_0:=Aside0.mk hl291_0
                      clear hi291_0 hl291_0
                      replace p291:=eq_true p291
                      replace q291:=eq_true q291
                      have p292:0≤(x11_1:Int):=of_decide_eq_true (by first|(with_reducible assumption)|assumption)
                      have q292:x11_1 < (t266.length:Int):=of_decide_eq_true (by first|(with_reducible assumption)|assumption)
                      obtain ⟨ad292,A292_0,c292_0,e292,hx292_0,hx292_1,hl292_0,hi292_0⟩:=at_T38 (Kd.N_reads' HO_10.out).2.2 x11_1 p292 q292
                      obtain rfl:ad291=ad292:=(by injection e292)
                      obtain ⟨ce292,hce292,hMe292,hcc292⟩:=Kd.N_get HO_10.out z38 x11_1 p292 (by first|exact q292|exact of_decide_eq_true (by first|(with_reducible assumption)|assumption)|(have e_:=(Kd.N_reads' HO_10.out).1;omega))
                      obtain ⟨ua292_0,uc292_0,rfl,ul292_0,ge292_0⟩:=k38_openF hMe292
                      have hv292_0:=hcc292 0 _ rfl
                      rw [Nat.add_zero] at hv292_0
                      replace hv292_0:=Option.some.inj (hv292_0.symm.trans hx292_0)
                      injection hv292_0 with hva_ hvn_ hvc_
                      rw [hva_] at ge292_0
                      rw [hvc_] at ul292_0
                      have HL292_0:=Aside0.mk (show Kd.V Kd.string 9 _ w.heap.size _ _ ((rd_T38 t266 x11_1).f0) from Kd.V_mk ul292_0 ge292_0)
                      clear hva_ hvn_ hvc_ ge292_0 ul292_0
                      clear hcc292 hce292
                      have HR292_0:=Aside0.mk hi292_0
                      have HC292_0:=Aside0.mk hl292_0
                      clear hi292_0 hl292_0
                      replace p292:=eq_true p292
                      replace q292:=eq_true q292
                      have ea_:=Option.some.inj (hx291_0.symm.trans hx292_0)
                      injection ea_ with ea_ en_ ec_
                      subst ea_
                      subst ec_
                      clear en_
                      have p293:0≤(x11_1:Int):=of_decide_eq_true (by first|(with_reducible assumption)|assumption)
                      have q293:x11_1 < (t266.length:Int):=of_decide_eq_true (by first|(with_reducible assumption)|assumption)
                      obtain ⟨ad293,A293_0,c293_0,e293,hx293_0,hx293_1,hl293_0,hi293_0⟩:=at_T38 (Kd.N_reads' HO_10.out).2.2 x11_1 p293 q293
                      obtain rfl:ad291=ad293:=(by injection e293)
                      obtain ⟨ce293,hce293,hMe293,hcc293⟩:=Kd.N_get HO_10.out z38 x11_1 p293 (by first|exact q293|exact of_decide_eq_true (by first|(with_reducible assumption)|assumption)|(have e_:=(Kd.N_reads' HO_10.out).1;omega))
                      obtain ⟨ua293_0,uc293_0,rfl,ul293_0,ge293_0⟩:=k38_openF hMe293
                      have hv293_0:=hcc293 0 _ rfl
                      rw [Nat.add_zero] at hv293_0
                      replace hv293_0:=Option.some.inj (hv293_0.symm.trans hx293_0)
                      injection hv293_0 with hva_ hvn_ hvc_
                      rw [hva_] at ge293_0
                      rw [hvc_] at ul293_0
                      have HL293_0:=Aside0.mk (show Kd.V Kd.string 9 _ w.heap.size _ _ ((rd_T38 t266 x11_1).f0) from Kd.V_mk ul293_0 ge293_0)
                      clear hva_ hvn_ hvc_ ge293_0 ul293_0
                      clear hcc293 hce293
                      have HR293_0:=Aside0.mk hi293_0
                      have HC293_0:=Aside0.mk hl293_0
                      clear hi293_0 hl293_0
                      replace p293:=eq_true p293
                      replace q293:=eq_true q293
                      have ea_:=Option.some.inj (hx291_0.symm.trans hx293_0)
                      injection ea_ with ea_ en_ ec_
                      subst ea_
                      subst ec_
                      clear en_
                      have p294:0≤(0:Int):=(by omega)
                      have q294:0 < (((rd_T38 t266 x11_1).f0).length:Int):=of_decide_eq_true (by first|(with_reducible assumption)|assumption)
                      obtain ⟨ad294,e294,hx294_0⟩:=Kd.at_string (by repeat (first|(with_reducible exact HR293_0.out)|(with_reducible refine cA_ ?_ _)|(with_reducible refine cN_ ?_ _)|(with_reducible refine cD_ ?_)|exact HR293_0.out)) 0 p294 q294
                      cases e294
                      have qi294:(0 < ((rd_T38 t266 x11_1).f0).length)=True:=eq_true (by omega)
                      (try rw [show ((0:Int)).toNat=0 from rfl] at hx294_0)
                      (try rw [Addr.add_zero'] at hx294_0)
                      replace p294:=eq_true p294
                      replace q294:=eq_true q294
                      go_wp2
                      go_meet
                      case rel=>exact ⟨_,(((rdOf ByteArray.empty ((rd_T38 t266 x11_1).f0) 0).toList != (rdOf ByteArray.empty y272 x12_1).toList)),(by first|rfl|(simp;done)|(simp [*];done)),H',⟨by have:=HK1.out;have:=HJ73.out;have:=HJ75.out;first|omega|exact Nat.le_refl _⟩,⟨by (with_reducible repeat (first|apply nA_|apply nN_|apply nD_));exact HO_10.out⟩,⟨by (with_reducible repeat (first|apply vA_|apply vN_|apply vD_));exact HO_270001.out⟩,⟨by (with_reducible repeat (first|apply vA_|apply vN_|apply vD_));exact HO_271001.out⟩,⟨by (with_reducible repeat (first|apply vA_|apply vN_|apply vD_));exact HO_272001.out⟩,⟨by (with_reducible repeat (first|refine blk_drewN ?_ _|refine blk_drew ?_|refine blk_alloc ?_ _));exact BK269.out⟩,⟨by (with_reducible repeat (first|refine blk_drewN ?_ _|refine blk_drew ?_|refine blk_alloc ?_ _));exact BK270.out⟩,⟨by (with_reducible repeat (first|refine blk_drewN ?_ _|refine blk_drew ?_|refine blk_alloc ?_ _));exact BK271.out⟩,⟨by repeat (first|(with_reducible first|exact HB.out|apply bA_|apply bN_|apply bD_|refine below_set ?_ GE269.out|refine below_set ?_ GE270.out|refine below_set ?_ GE271.out)|exact HB.out)⟩⟩
                     ·rw [if_neg c85] at H
                      exact absurd H (by simp)
                    ·rw [if_neg c84] at H
                     have c84b0:((((rd_T38 t266 x11_1).f0).length:Int) == 1)=false:=beq_eq_false_iff_ne.mpr c84
                     have c84b1:((((rd_T38 t266 x11_1).f0).length:Int) != 1)=true:=bne_iff_ne.mpr c84
                     have H':=Aside0.mk H
                     clear H
                     obtain ⟨Ao87,co87,eo87⟩:=Kd.N_slice HO_10.out
                     subst eo87
                     have p291:0≤(x11_1:Int):=of_decide_eq_true (by first|(with_reducible assumption)|assumption)
                     have q291:x11_1 < (t266.length:Int):=of_decide_eq_true (by first|(with_reducible assumption)|assumption)
                     obtain ⟨ad291,A291_0,c291_0,e291,hx291_0,hx291_1,hl291_0,hi291_0⟩:=at_T38 (Kd.N_reads' HO_10.out).2.2 x11_1 p291 q291
                     cases e291
                     obtain ⟨ce291,hce291,hMe291,hcc291⟩:=Kd.N_get HO_10.out z38 x11_1 p291 (by first|exact q291|exact of_decide_eq_true (by first|(with_reducible assumption)|assumption)|(have e_:=(Kd.N_reads' HO_10.out).1;omega))
                     obtain ⟨ua291_0,uc291_0,rfl,ul291_0,ge291_0⟩:=k38_openF hMe291
                     have hv291_0:=hcc291 0 _ rfl
                     rw [Nat.add_zero] at hv291_0
                     replace hv291_0:=Option.some.inj (hv291_0.symm.trans hx291_0)
                     injection hv291_0 with hva_ hvn_ hvc_
                     rw [hva_] at ge291_0
                     rw [hvc_] at ul291_0
                     have HL291_0:=Aside0.mk (show Kd.V Kd.string 9 _ w.heap.size _ _ ((rd_T38 t266 x11_1).f0) from Kd.V_mk ul291_0 ge291_0)
                     clear hva_ hvn_ hvc_ ge291_0 ul291_0
                     clear hcc291 hce291
                     have HR291_0:=Aside0.mk hi291_0
                     have HC291_0:=Aside0.mk hl291_0
                     clear hi291_0 hl291_0
                     replace p291:=eq_true p291
                     replace q291:=eq_true q291
                     have p292:0≤(x11_1:Int):=of_decide_eq_true (by first|(with_reducible assumption)|assumption)
                     have q292:x11_1 < (t266.length:Int):=of_decide_eq_true (by first|(with_reducible assumption)|assumption)
                     obtain ⟨ad292,A292_0,c292_0,e292,hx292_0,hx292_1,hl292_0,hi292_0⟩:=at_T38 (Kd.N_reads' HO_10.out).2.2 x11_1 p292 q292
                     obtain rfl:ad291=ad292:=(by injection e292)
                     obtain ⟨ce292,hce292,hMe292,hcc292⟩:=Kd.N_get HO_10.out z38 x11_1 p292 (by first|exact q292|exact of_decide_eq_true (by first|(with_reducible assumption)|assumption)|(have e_:=(Kd.N_reads' HO_10.out).1;omega))
                     obtain ⟨ua292_0,uc292_0,rfl,ul292_0,ge292_0⟩:=k38_openF hMe292
                     have hv292_0:=hcc292 0 _ rfl
                     rw [Nat.add_zero] at hv292_0
                     replace hv292_0:=Option.some.inj (hv292_0.symm.trans hx292_0)
                     injection hv292_0 with hva_ hvn_ hvc_
                     rw [hva_] at ge292_0
                     rw [hvc_] at ul292_0
                     have HL292_0:=Aside0.mk (show Kd.V Kd.string 9 _ w.heap.size _ _ ((rd_T38 t266 x11_1).f0) from Kd.V_mk ul292_0 ge292_0)
                     clear hva_ hvn_ hvc_ ge292_0 ul292_0
                     clear hcc292 hce292
                     have HR292_0:=Aside0.mk hi292_0
                     have HC292_0:=Aside0.mk hl292_0
                     clear hi292_0 hl292_0
                     replace p292:=eq_true p292
                     replace q292:=eq_true q292
                     have ea_:=Option.some.inj (hx291_0.symm.trans hx292_0)
                     injection ea_ with ea_ en_ ec_
                     subst ea_
                     subst ec_
                     clear en_
                     go_wp2
                     go_meet
                     case rel=>exact ⟨_,(true),(by first|rfl|(simp;done)|(simp [*];done)),H',⟨by have:=HK1.out;have:=HJ73.out;have:=HJ75.out;first|omega|exact Nat.le_refl _⟩,⟨by (with_reducible repeat (first|apply nA_|apply nN_|apply nD_));exact HO_10.out⟩,⟨by (with_reducible repeat (first|apply vA_|apply vN_|apply vD_));exact HO_270001.out⟩,⟨by (with_reducible repeat (first|apply vA_|apply vN_|apply vD_));exact HO_271001.out⟩,⟨by (with_reducible repeat (first|apply vA_|apply vN_|apply vD_));exact HO_272001.out⟩,⟨by (with_reducible repeat (first|refine blk_drewN ?_ _|refine blk_drew ?_|refine blk_alloc ?_ _));exact BK269.out⟩,⟨by (with_reducible repeat (first|refine blk_drewN ?_ _|refine blk_drew ?_|refine blk_alloc ?_ _));exact BK270.out⟩,⟨by (with_reducible repeat (first|refine blk_drewN ?_ _|refine blk_drew ?_|refine blk_alloc ?_ _));exact BK271.out⟩,⟨by repeat (first|(with_reducible first|exact HB.out|apply bA_|apply bN_|apply bD_|refine below_set ?_ GE269.out|refine below_set ?_ GE270.out|refine below_set ?_ GE271.out)|exact HB.out)⟩⟩
                   ·rw [if_neg c83] at H
                    have c83b0:(((rd_T38 t266 x11_1).f1) == x20_75)=false:=beq_eq_false_iff_ne.mpr c83
                    have c83b1:(((rd_T38 t266 x11_1).f1) != x20_75)=true:=bne_iff_ne.mpr c83
                    have H':=Aside0.mk H
                    clear H
                    obtain ⟨Ao88,co88,eo88⟩:=Kd.N_slice HO_10.out
                    subst eo88
                    have p291:0≤(x11_1:Int):=of_decide_eq_true (by first|(with_reducible assumption)|assumption)
                    have q291:x11_1 < (t266.length:Int):=of_decide_eq_true (by first|(with_reducible assumption)|assumption)
                    obtain ⟨ad291,A291_0,c291_0,e291,hx291_0,hx291_1,hl291_0,hi291_0⟩:=at_T38 (Kd.N_reads' HO_10.out).2.2 x11_1 p291 q291
                    cases e291
                    obtain ⟨ce291,hce291,hMe291,hcc291⟩:=Kd.N_get HO_10.out z38 x11_1 p291 (by first|exact q291|exact of_decide_eq_true (by first|(with_reducible assumption)|assumption)|(have e_:=(Kd.N_reads' HO_10.out).1;omega))
                    obtain ⟨ua291_0,uc291_0,rfl,ul291_0,ge291_0⟩:=k38_openF hMe291
                    have hv291_0:=hcc291 0 _ rfl
                    rw [Nat.add_zero] at hv291_0
                    replace hv291_0:=Option.some.inj (hv291_0.symm.trans hx291_0)
                    injection hv291_0 with hva_ hvn_ hvc_
                    rw [hva_] at ge291_0
                    rw [hvc_] at ul291_0
                    have HL291_0:=Aside0.mk (show Kd.V Kd.string 9 _ w.heap.size _ _ ((rd_T38 t266 x11_1).f0) from Kd.V_mk ul291_0 ge291_0)
                    clear hva_ hvn_ hvc_ ge291_0 ul291_0
                    clear hcc291 hce291
                    have HR291_0:=Aside0.mk hi291_0
                    have HC291_0:=Aside0.mk hl291_0
                    clear hi291_0 hl291_0
                    replace p291:=eq_true p291
                    replace q291:=eq_true q291
                    go_wp2
                    go_meet
                    case rel=>exact ⟨_,(true),(by first|rfl|(simp;done)|(simp [*];done)),H',⟨by have:=HK1.out;have:=HJ73.out;have:=HJ75.out;first|omega|exact Nat.le_refl _⟩,⟨by (with_reducible repeat (first|apply nA_|apply nN_|apply nD_));exact HO_10.out⟩,⟨by (with_reducible repeat (first|apply vA_|apply vN_|apply vD_));exact HO_270001.out⟩,⟨by (with_reducible repeat (first|apply vA_|apply vN_|apply vD_));exact HO_271001.out⟩,⟨by (with_reducible repeat (first|apply vA_|apply vN_|apply vD_));exact HO_272001.out⟩,⟨by (with_reducible repeat (first|refine blk_drewN ?_ _|refine blk_drew ?_|refine blk_alloc ?_ _));exact BK269.out⟩,⟨by (with_reducible repeat (first|refine blk_drewN ?_ _|refine blk_drew ?_|refine blk_alloc ?_ _));exact BK270.out⟩,⟨by (with_reducible repeat (first|refine blk_drewN ?_ _|refine blk_drew ?_|refine blk_alloc ?_ _));exact BK271.out⟩,⟨by repeat (first|(with_reducible first|exact HB.out|apply bA_|apply bN_|apply bD_|refine below_set ?_ GE269.out|refine below_set ?_ GE270.out|refine below_set ?_ GE271.out)|exact HB.out)⟩⟩
                  ·rw [if_neg c82] at H
                   exact absurd H (by simp)
                 ·rw [if_neg c81] at H
                  exact absurd H (by simp)
               case rest =>
                clear HC78
                try clear c1
                try clear c2
                try clear p2
                try clear q2
                try clear hx2
                try clear qi2
                try clear c3
                try clear c4
                try clear c5
                try clear c7
                try clear c8
                try clear c9
                try clear c10
                try clear c11
                try clear c12
                try clear p27
                try clear q27
                try clear hx27
                try clear c29
                try clear p29
                try clear q29
                try clear hx29
                try clear qi29
                try clear c33
                try clear c34
                try clear c37
                try clear c42
                try clear c42b0
                try clear c43
                try clear c43b0
                try clear c44
                try clear c44b0
                try clear c71
                try clear c71b0
                try clear c71b1
                try clear c72
                try clear c72b0
                try clear c72b1
                try clear c73
                try clear c73b0
                try clear c73b1
                try clear c75
                try clear c75b0
                try clear c75b1
                try clear c77
                try clear c79
                try clear c79b0
                try clear c81
                try clear c81b0
                try clear c82
                try clear c82b0
                try clear c83
                try clear c83b0
                try clear c83b1
                try clear c84
                try clear c84b0
                try clear c84b1
                try clear c85
                try clear c85b0
                try clear c85b1
                try clear hcz35_0
                try clear hcz35_1
                try clear hcz38_0
                try clear hcz38_1
                try clear hcz40_0
                try clear hcz40_1
                try clear hfz35_0
                try clear hfz35_1
                try clear hfz38_0
                try clear hfz38_1
                try clear hfz40_0
                try clear hfz40_1
                try clear hx275_0
                try clear hx291_0
                try clear hx291_1
                try clear hx292_0
                try clear hx292_1
                try clear hx293_0
                try clear hx293_1
                try clear hx294_0
                try clear p2
                try clear p27
                try clear p275
                try clear p291
                try clear p292
                try clear p293
                try clear p294
                try clear q2
                try clear q27
                try clear q275
                try clear q291
                try clear q292
                try clear q293
                try clear q294
                obtain ⟨kq,x109_77,rfl,HA,HJ77,HO_10,HO_270001,HO_271001,HO_272001,BK269,BK270,BK271,HB⟩:=hcut
                cases kq with
                | zero=>exact absurd HA.out (by simp [cadencelaw12_MergeRows.j3])
                | succ kj77 =>
                 have H:=HA.out
                 clear HA
                 simp only [cadencelaw12_MergeRows.j3] at H
                 by_cases c89:x109_77=true
                 ·subst c89
                  have H1:(none)=some r:=by rw [if_pos rfl] at H;exact H
                  clear H
                  have H:=H1
                  clear H1
                  exact absurd H (by simp)
                 ·replace c89:=Bool.eq_false_iff.mpr c89
                  subst c89
                  have H1:(cadencelaw12_MergeRows.j4 kj77 a0 a1 a2 t266 (wrap64 (x11_1+1)) x12_1 t279 t283 t287 t288 t289 t290 t254 t255 t258 t259 t262 t263)=some r:=by rw [if_neg (show ¬ (false=true) by decide)] at H;exact H
                  clear H
                  have H:=H1
                  clear H1
                  have H':=Aside0.mk H
                  clear H
                  go_wp2
                  go_meet
                  case rel=>exact ⟨_,(wrap64 (x11_1+1)),(t279),(t283),(t287),(by first|rfl|(simp;done)|(simp [*];done)),(by first|rfl|(simp;done)|(simp [*];done)),(by first|rfl|(simp;done)|(simp [*];done)),(by first|rfl|(simp;done)|(simp [*];done)),H',⟨by have:=HK1.out;have:=HJ73.out;have:=HJ75.out;have:=HJ77.out;first|omega|exact Nat.le_refl _⟩,⟨by (with_reducible repeat (first|apply nA_|apply nN_|apply nD_));exact HO_10.out⟩,⟨by (with_reducible repeat (first|apply vA_|apply vN_|apply vD_));exact HO_270001.out⟩,⟨by (with_reducible repeat (first|apply vA_|apply vN_|apply vD_));exact HO_271001.out⟩,⟨by (with_reducible repeat (first|apply vA_|apply vN_|apply vD_));exact HO_272001.out⟩,⟨by (with_reducible repeat (first|refine blk_drewN ?_ _|refine blk_drew ?_|refine blk_alloc ?_ _));exact BK269.out⟩,⟨by (with_reducible repeat (first|refine blk_drewN ?_ _|refine blk_drew ?_|refine blk_alloc ?_ _));exact BK270.out⟩,⟨by (with_reducible repeat (first|refine blk_drewN ?_ _|refine blk_drew ?_|refine blk_alloc ?_ _));exact BK271.out⟩,⟨by repeat (first|(with_reducible first|exact HB.out|apply bA_|apply bN_|apply bD_|refine below_set ?_ GE269.out|refine below_set ?_ GE270.out|refine below_set ?_ GE271.out)|exact HB.out)⟩⟩
       case rest =>
        clear HC54
        try clear c1
        try clear c2
        try clear p2
        try clear q2
        try clear hx2
        try clear qi2
        try clear c3
        try clear c4
        try clear c5
        try clear p6
        try clear c7
        try clear c8
        try clear c9
        try clear c10
        try clear c11
        try clear c12
        try clear p27
        try clear q27
        try clear hx27
        try clear c29
        try clear p29
        try clear q29
        try clear hx29
        try clear qi29
        try clear c33
        try clear c34
        try clear c37
        try clear c42
        try clear c42b0
        try clear c43
        try clear c43b0
        try clear c44
        try clear c44b0
        try clear p64
        try clear c71
        try clear c71b0
        try clear c71b1
        try clear c72
        try clear c72b0
        try clear c72b1
        try clear c73
        try clear c73b0
        try clear c73b1
        try clear c75
        try clear c75b0
        try clear c75b1
        try clear c77
        try clear c79
        try clear c79b0
        try clear c81
        try clear c81b0
        try clear c82
        try clear c82b0
        try clear c83
        try clear c83b0
        try clear c83b1
        try clear c84
        try clear c84b0
        try clear c84b1
        try clear c85
        try clear c85b0
        try clear c85b1
        try clear c89
        try clear hcz35_0
        try clear hcz35_1
        try clear hcz38_0
        try clear hcz38_1
        try clear hcz40_0
        try clear hcz40_1
        try clear hfz35_0
        try clear hfz35_1
        try clear hfz38_0
        try clear hfz38_1
        try clear hfz40_0
        try clear hfz40_1
        try clear hx275_0
        try clear hx291_0
        try clear hx291_1
        try clear hx292_0
        try clear hx292_1
        try clear hx293_0
        try clear hx293_1
        try clear hx294_0
        try clear p2
        try clear p27
        try clear p275
        try clear p29
        try clear p291
        try clear p292
        try clear p293
        try clear p294
        try clear q2
        try clear q27
        try clear q275
        try clear q29
        try clear q291
        try clear q292
        try clear q293
        try clear q294
        obtain ⟨kq,x11_53,x14_53,x15_53,x16_53,rfl,rfl,rfl,rfl,HA,HJ53,HO_10,HO_270001,HO_271001,HO_272001,BK269,BK270,BK271,HB⟩:=hcut
        cases kq with
        | zero=>exact absurd HA.out (by simp [cadencelaw12_MergeRows.j4])
        | succ kj53 =>
         have H:=HA.out
         clear HA
         simp only [cadencelaw12_MergeRows.j4] at H
         have HC90:=Aside0.mk H
         clear H
         go_upto_region 23 with (fail)
         go_cut [141] (fun v141 wc=>∃ (kq:Nat) (x141_89:Bool),v141=.bool x141_89∧Aside0 (cadencelaw12_MergeRows.j5 kq a0 a1 a2 t266 x11_53 x12_1 x141_89 t254 t255 t258 t259 t262 t263=some r)∧Aside0 (kq≤kj53)∧Aside0 (Kd.N k38 38 wc w.heap.size (fun k_=>k_≠gb269∧k_≠gb270∧k_≠gb271) v267 t266)∧Aside0 (Kd.V k51 51 wc w.heap.size (fun k_=>some k_≠(v267:Value).ownBlock∧k_≠gb269∧k_≠gb270∧k_≠gb271) (.slice Ao36 t255.length co36) t255)∧Aside0 (Kd.V k51 51 wc w.heap.size (fun k_=>some k_≠(v267:Value).ownBlock∧k_≠gb269∧k_≠gb270∧k_≠gb271) (.slice Ao39 t259.length co39) t259)∧Aside0 (Kd.V k51 51 wc w.heap.size (fun k_=>some k_≠(v267:Value).ownBlock∧k_≠gb269∧k_≠gb270∧k_≠gb271) (.slice Ao41 t263.length co41) t263)∧Aside0 (wc.heap[gb269]? = some (.cells #[.bool t254,(.slice Ao36 t255.length co36)] 26 (0,0)))∧Aside0 (wc.heap[gb270]? = some (.cells #[.bool t258,(.slice Ao39 t259.length co39)] 26 (0,0)))∧Aside0 (wc.heap[gb271]? = some (.cells #[.bool t262,(.slice Ao41 t263.length co41)] 26 (0,0)))∧Aside0 (Below w.heap.size w wc))
         case first =>
          have H:=HC90.out
          clear HC90
          by_cases c91:t288.toList=x14_53.toList
          ·rw [if_pos c91] at H
           have c91b0:(t288.toList == x14_53.toList)=true:=beq_iff_eq.mpr c91
           have c91b1:(t288.toList != x14_53.toList)=false:=bne_eq_false_iff_eq.mpr c91
           clear c91
           (first|rw [c91b0]|(simp only [i64_w,i32_w];rw [c91b0])|skip)
           by_cases c92:t289.toList=x15_53.toList
           ·rw [if_pos c92] at H
            have c92b0:(t289.toList == x15_53.toList)=true:=beq_iff_eq.mpr c92
            have c92b1:(t289.toList != x15_53.toList)=false:=bne_eq_false_iff_eq.mpr c92
            clear c92
            have H':=Aside0.mk H
            clear H
            go_wp2
            go_meet
            case rel=>exact ⟨_,((t290.toList != x16_53.toList)),(by first|rfl|(simp;done)|(simp [*];done)),H',⟨by have:=HK1.out;have:=HJ53.out;first|omega|exact Nat.le_refl _⟩,⟨by (with_reducible repeat (first|apply nA_|apply nN_|apply nD_));exact HO_10.out⟩,⟨by (with_reducible repeat (first|apply vA_|apply vN_|apply vD_));exact HO_270001.out⟩,⟨by (with_reducible repeat (first|apply vA_|apply vN_|apply vD_));exact HO_271001.out⟩,⟨by (with_reducible repeat (first|apply vA_|apply vN_|apply vD_));exact HO_272001.out⟩,⟨by (with_reducible repeat (first|refine blk_drewN ?_ _|refine blk_drew ?_|refine blk_alloc ?_ _));exact BK269.out⟩,⟨by (with_reducible repeat (first|refine blk_drewN ?_ _|refine blk_drew ?_|refine blk_alloc ?_ _));exact BK270.out⟩,⟨by (with_reducible repeat (first|refine blk_drewN ?_ _|refine blk_drew ?_|refine blk_alloc ?_ _));exact BK271.out⟩,⟨by repeat (first|(with_reducible first|exact HB.out|apply bA_|apply bN_|apply bD_|refine below_set ?_ GE269.out|refine below_set ?_ GE270.out|refine below_set ?_ GE271.out)|exact HB.out)⟩⟩
           ·rw [if_neg c92] at H
            have c92b0:(t289.toList == x15_53.toList)=false:=beq_eq_false_iff_ne.mpr c92
            have c92b1:(t289.toList != x15_53.toList)=true:=bne_iff_ne.mpr c92
            have H':=Aside0.mk H
            clear H
            go_wp2
            go_meet
            case rel=>exact ⟨_,(true),(by first|rfl|(simp;done)|(simp [*];done)),H',⟨by have:=HK1.out;have:=HJ53.out;first|omega|exact Nat.le_refl _⟩,⟨by (with_reducible repeat (first|apply nA_|apply nN_|apply nD_));exact HO_10.out⟩,⟨by (with_reducible repeat (first|apply vA_|apply vN_|apply vD_));exact HO_270001.out⟩,⟨by (with_reducible repeat (first|apply vA_|apply vN_|apply vD_));exact HO_271001.out⟩,⟨by (with_reducible repeat (first|apply vA_|apply vN_|apply vD_));exact HO_272001.out⟩,⟨by (with_reducible repeat (first|refine blk_drewN ?_ _|refine blk_drew ?_|refine blk_alloc ?_ _));exact BK269.out⟩,⟨by (with_reducible repeat (first|refine blk_drewN ?_ _|refine blk_drew ?_|refine blk_alloc ?_ _));exact BK270.out⟩,⟨by (with_reducible repeat (first|refine blk_drewN ?_ _|refine blk_drew ?_|refine blk_alloc ?_ _));exact BK271.out⟩,⟨by repeat (first|(with_reducible first|exact HB.out|apply bA_|apply bN_|apply bD_|refine below_set ?_ GE269.out|refine below_set ?_ GE270.out|refine below_set ?_ GE271.out)|exact HB.out)⟩⟩
          ·rw [if_neg c91] at H
           have c91b0:(t288.toList == x14_53.toList)=false:=beq_eq_false_iff_ne.mpr c91
           have c91b1:(t288.toList != x14_53.toList)=true:=bne_iff_ne.mpr c91
           (first|rw [c91b0]|(simp only [i64_w,i32_w];rw [c91b0])|skip)
           have H':=Aside0.mk H
           clear H
           go_wp2
           go_meet
           case rel=>exact ⟨_,(true),(by first|rfl|(simp;done)|(simp [*];done)),H',⟨by have:=HK1.out;have:=HJ53.out;first|omega|exact Nat.le_refl _⟩,⟨by (with_reducible repeat (first|apply nA_|apply nN_|apply nD_));exact HO_10.out⟩,⟨by (with_reducible repeat (first|apply vA_|apply vN_|apply vD_));exact HO_270001.out⟩,⟨by (with_reducible repeat (first|apply vA_|apply vN_|apply vD_));exact HO_271001.out⟩,⟨by (with_reducible repeat (first|apply vA_|apply vN_|apply vD_));exact HO_272001.out⟩,⟨by (with_reducible repeat (first|refine blk_drewN ?_ _|refine blk_drew ?_|refine blk_alloc ?_ _));exact BK269.out⟩,⟨by (with_reducible repeat (first|refine blk_drewN ?_ _|refine blk_drew ?_|refine blk_alloc ?_ _));exact BK270.out⟩,⟨by (with_reducible repeat (first|refine blk_drewN ?_ _|refine blk_drew ?_|refine blk_alloc ?_ _));exact BK271.out⟩,⟨by repeat (first|(with_reducible first|exact HB.out|apply bA_|apply bN_|apply bD_|refine below_set ?_ GE269.out|refine below_set ?_ GE270.out|refine below_set ?_ GE271.out)|exact HB.out)⟩⟩
         case rest =>
          clear HC90
          try clear c1
          try clear c2
          try clear p2
          try clear q2
          try clear hx2
          try clear qi2
          try clear c3
          try clear c4
          try clear c5
          try clear p6
          try clear c7
          try clear c8
          try clear c9
          try clear c10
          try clear c11
          try clear c12
          try clear p27
          try clear q27
          try clear hx27
          try clear c29
          try clear p29
          try clear q29
          try clear hx29
          try clear qi29
          try clear c33
          try clear c34
          try clear c37
          try clear c42
          try clear c42b0
          try clear c43
          try clear c43b0
          try clear c44
          try clear c44b0
          try clear p64
          try clear c71
          try clear c71b0
          try clear c71b1
          try clear c72
          try clear c72b0
          try clear c72b1
          try clear c73
          try clear c73b0
          try clear c73b1
          try clear c75
          try clear c75b0
          try clear c75b1
          try clear c77
          try clear c79
          try clear c79b0
          try clear c81
          try clear c81b0
          try clear c82
          try clear c82b0
          try clear c83
          try clear c83b0
          try clear c83b1
          try clear c84
          try clear c84b0
          try clear c84b1
          try clear c85
          try clear c85b0
          try clear c85b1
          try clear c89
          try clear c91
          try clear c91b0
          try clear c91b1
          try clear c92
          try clear c92b0
          try clear c92b1
          try clear hcz35_0
          try clear hcz35_1
          try clear hcz38_0
          try clear hcz38_1
          try clear hcz40_0
          try clear hcz40_1
          try clear hfz35_0
          try clear hfz35_1
          try clear hfz38_0
          try clear hfz38_1
          try clear hfz40_0
          try clear hfz40_1
          try clear hx275_0
          try clear hx291_0
          try clear hx291_1
          try clear hx292_0
          try clear hx292_1
          try clear hx293_0
          try clear hx293_1
          try clear hx294_0
          try clear p2
          try clear p27
          try clear p275
          try clear p29
          try clear p291
          try clear p292
          try clear p293
          try clear p294
          try clear p6
          try clear p64
          try clear q2
          try clear q27
          try clear q275
          try clear q29
          try clear q291
          try clear q292
          try clear q293
          try clear q294
          obtain ⟨kq,x141_89,rfl,HA,HJ89,HO_10,HO_270001,HO_271001,HO_272001,BK269,BK270,BK271,HB⟩:=hcut
          cases kq with
          | zero=>exact absurd HA.out (by simp [cadencelaw12_MergeRows.j5])
          | succ kj89 =>
           have H:=HA.out
           clear HA
           simp only [cadencelaw12_MergeRows.j5] at H
           by_cases c93:x141_89=true
           ·subst c93
            have H1:(none)=some r:=by rw [if_pos rfl] at H;exact H
            clear H
            have H:=H1
            clear H1
            exact absurd H (by simp)
           ·replace c93:=Bool.eq_false_iff.mpr c93
            subst c93
            have H1:(cadencelaw12_MergeRows.l0 kj89 a0 a1 a2 t266 x11_53 (wrap64 (x12_1+1)) t254 t255 t258 t259 t262 t263)=some r:=by rw [if_neg (show ¬ (false=true) by decide)] at H;exact H
            clear H
            have H:=H1
            clear H1
            have H':=Aside0.mk H
            clear H
            go_wp2
            go_roundg kj89
            case measure=>have:=HK1.out;have:=HJ53.out;have:=HJ89.out;omega
            case rel=>exact ⟨(x11_53),(wrap64 (x12_1+1)),(by first|rfl|(simp;done)|(simp [*];done)),(by first|rfl|(simp;done)|(simp [*];done)),H',⟨by have:=HK1.out;have:=HJ53.out;have:=HJ89.out;omega⟩,⟨by (with_reducible repeat (first|apply nA_|apply nN_|apply nD_));exact HO_10.out⟩,⟨by (with_reducible repeat (first|apply vA_|apply vN_|apply vD_));exact HO_270001.out⟩,⟨by (with_reducible repeat (first|apply vA_|apply vN_|apply vD_));exact HO_271001.out⟩,⟨by (with_reducible repeat (first|apply vA_|apply vN_|apply vD_));exact HO_272001.out⟩,⟨by (with_reducible repeat (first|refine blk_drewN ?_ _|refine blk_drew ?_|refine blk_alloc ?_ _));exact BK269.out⟩,⟨by (with_reducible repeat (first|refine blk_drewN ?_ _|refine blk_drew ?_|refine blk_alloc ?_ _));exact BK270.out⟩,⟨by (with_reducible repeat (first|refine blk_drewN ?_ _|refine blk_drew ?_|refine blk_alloc ?_ _));exact BK271.out⟩,⟨by repeat (first|(with_reducible first|exact HB.out|apply bA_|apply bN_|apply bD_|refine below_set ?_ GE269.out|refine below_set ?_ GE270.out|refine below_set ?_ GE271.out)|exact HB.out)⟩⟩
      ·rw [if_neg c44] at H
       exact absurd H (by simp)
     ·rw [if_neg c43] at H
      exact absurd H (by simp)
    ·rw [if_neg c42] at H
     have c42b0:decide (x12_1 < 3)=false:=decide_eq_false c42
     clear c42
     by_cases c94:x11_1=(t266.length:Int)
     ·rw [if_pos c94] at H
      have c94b0:(x11_1 == (t266.length:Int))=true:=beq_iff_eq.mpr c94
      have c94b1:(x11_1 != (t266.length:Int))=false:=bne_eq_false_iff_eq.mpr c94
      clear c94
      by_cases c95:t254=true
      ·subst c95
       have H1:(if t258=true then (some t262) else (none))=some r:=by rw [if_pos rfl] at H;exact H
       clear H
       have H:=H1
       clear H1
       by_cases c96:t258=true
       ·subst c96
        have H1:(some t262)=some r:=by rw [if_pos rfl] at H;exact H
        clear H
        have H:=H1
        clear H1
        obtain rfl:=Option.some.inj H
        obtain ⟨Ao97,co97,eo97⟩:=Kd.N_slice HO_10.out
        subst eo97
        have hnb98:=NB269_270.out
        have hnc98:=NB270_269.out
        have hnb99:=NB269_271.out
        have hnc99:=NB271_269.out
        have hcz100_0:wr.cell? ⟨gb269,0,none⟩=some (.bool true):=(blk_cell BK269.out 0).trans rfl
        have hcz100_1:wr.cell? ⟨gb269,1,none⟩=some (.slice Ao36 t255.length co36):=(blk_cell BK269.out 1).trans rfl
        have hfz100_0:=blk_frozen BK269.out 0
        have hfz100_1:=blk_frozen BK269.out 1
        have hnb101:=NB270_271.out
        have hnc101:=NB271_270.out
        have hcz102_0:wr.cell? ⟨gb270,0,none⟩=some (.bool true):=(blk_cell BK270.out 0).trans rfl
        have hcz102_1:wr.cell? ⟨gb270,1,none⟩=some (.slice Ao39 t259.length co39):=(blk_cell BK270.out 1).trans rfl
        have hfz102_0:=blk_frozen BK270.out 0
        have hfz102_1:=blk_frozen BK270.out 1
        have hcz103_0:wr.cell? ⟨gb271,0,none⟩=some (.bool t262):=(blk_cell BK271.out 0).trans rfl
        have hcz103_1:wr.cell? ⟨gb271,1,none⟩=some (.slice Ao41 t263.length co41):=(blk_cell BK271.out 1).trans rfl
        have hfz103_0:=blk_frozen BK271.out 0
        have hfz103_1:=blk_frozen BK271.out 1
        go_wp2
        go_ret
        exact ⟨by first|rfl|(simp [errW_none,errW_some] <;> rfl)|(simp [*,errW_none,errW_some] <;> rfl),by repeat (first|(with_reducible first|exact HB.out|apply bA_|apply bN_|apply bD_|refine below_set ?_ GE269.out|refine below_set ?_ GE270.out|refine below_set ?_ GE271.out)|exact HB.out)⟩
       ·replace c96:=Bool.eq_false_iff.mpr c96
        subst c96
        have H1:(none)=some r:=by rw [if_neg (show ¬ (false=true) by decide)] at H;exact H
        clear H
        have H:=H1
        clear H1
        exact absurd H (by simp)
      ·replace c95:=Bool.eq_false_iff.mpr c95
       subst c95
       have H1:(none)=some r:=by rw [if_neg (show ¬ (false=true) by decide)] at H;exact H
       clear H
       have H:=H1
       clear H1
       exact absurd H (by simp)
     ·rw [if_neg c94] at H
      exact absurd H (by simp)
 ·replace c5:=Bool.eq_false_iff.mpr c5
  subst c5
  have H1:(none)=some r:=by rw [if_neg (show ¬ (false=true) by decide)] at H;exact H
  clear H
  have H:=H1
  clear H1
  exact absurd H (by simp)
end Go.Proofs.Ytainbaehfdhmbaa.PX
set_option linter.unusedVariables false
set_option linter.unusedSimpArgs false
namespace Go.Proofs.Ytainbaehfdhmbaa.PX
open Go.RowKit Go.Proofs.YtainbaehfdhmbaaW.PrintWords Go.Proofs.YtainbaehfdhmbaaW.PrintLast Go.Proofs.YtainbaehfdhmbaaW.PrintMore Go.Proofs.Ytainbaehfdhmbaa
theorem rows_j4 {n0 n1 n2 : Int} {L : List Cf} {x y z : Tr} {c i : Nat} (hi : i < 1000) (p q r : ByteArray) (h0 : Ev (fun k => cadencelaw12_MergeRows.l0 k n0 n1 n2 L (c : Int) ((i + 1 : Nat) : Int) true x true y true z) true) :
    Ev (fun k => cadencelaw12_MergeRows.j4 k n0 n1 n2 L (c : Int) (i : Int) p q r p q r true x true y true z) true := by
  have hw : wrap64 ((i : Int) + 1) = ((i + 1 : Nat) : Int) := wrap_succ (by omega)
  have j5 : Ev (fun k => cadencelaw12_MergeRows.j5 k n0 n1 n2 L (c : Int) (i : Int) false true x true y true z) true := by
    refine Ev.up ?_
    simp only [cadencelaw12_MergeRows.j5, hw]
    exact Ev.congr (fun k => if_neg (by simp)) h0
  refine Ev.up ?_
  simp only [cadencelaw12_MergeRows.j4]
  refine Ev.congr (fun k => if_pos trivial) (Ev.congr (fun k => if_pos trivial) ?_)
  rw [show (r.toList != r.toList) = false from by simp]
  exact j5
theorem rows_loop {n0 n1 n2 : Int} {o a b x y z : Tr} (ho : RowOk o) (ha : RowOk a) (hb : RowOk b) (eo : Ev (fun k => cadencelaw12_row.f k n0) o) (ea : Ev (fun k => cadencelaw12_row.f k n1) a) (eb : Ev (fun k => cadencelaw12_row.f k n2) b)
    (lx : x.length ≤ 1000) (ly : y.length ≤ 1000) (lz : z.length ≤ 1000)
    (hres : ∀ n, (kidO (true, x) n, kidO (true, y) n, kidO (true, z) n) = (resC n (kidO (true, o) n) (kidO (true, a) n) (kidO (true, b) n)).1) :
    ∀ (d i : Nat), i + d = 3 → Ev (fun k => cadencelaw12_MergeRows.l0 k n0 n1 n2 (NS3.flatMap fun n => (resC n (kidO (true, o) n) (kidO (true, a) n) (kidO (true, b) n)).2) (cntC (fun n => (resC n (kidO (true, o) n) (kidO (true, a) n) (kidO (true, b) n)).2) i : Int) (i : Int) true x true y true z) true := by
  obtain ⟨C, hC⟩ : ∃ C : ByteArray → List Cf, C = fun n => (resC n (kidO (true, o) n) (kidO (true, a) n) (kidO (true, b) n)).2 := ⟨_, rfl⟩
  rw [← hC]
  intro d
  induction d with
  | zero =>
    intro i hi
    have e3 : i = 3 := by omega
    subst e3
    refine Ev.up ?_
    simp only [cadencelaw12_MergeRows.l0]
    exact Ev.congr (fun k => if_neg (by omega)) (Ev.congr (fun k => if_pos (by rw [cntC_all])) (Ev.congr (fun k => if_pos trivial) (Ev.congr (fun k => if_pos trivial) (Ev.now _))))
  | succ d ih =>
    intro i hi
    have hlt : i < NS3.length := by show i < 3; omega
    have hr : rdOf ByteArray.empty NS3 (i : Int) = NS3[i] := rdOf_nat hlt
    have hw : wrap64 ((i : Int) + 1) = ((i + 1 : Nat) : Int) := wrap_succ (by omega)
    have hN : ((NS3.length : Nat) : Int) = 3 := rfl
    have hcl : cntC C i ≤ i := cntC_le C (fun n => by rw [hC]; exact resC_len ..) i
    have hwc : wrap64 ((cntC C i : Int) + 1) = ((cntC C i + 1 : Nat) : Int) := wrap_succ (by omega)
    have hs := cntC_succ C hlt
    have h0 := ih (i + 1) (by omega)
    have hCn : C NS3[i] = (resC NS3[i] (kidO (true, o) NS3[i]) (kidO (true, a) NS3[i]) (kidO (true, b) NS3[i])).2 := by rw [hC]
    have hrn := hres NS3[i]
    have co := ho.cell NS3[i]
    have ca := ha.cell NS3[i]
    have cb := hb.cell NS3[i]
    have lo := ho.ok.length
    have la := ha.ok.length
    have lb := hb.ok.length
    have at_ : ∀ c, C NS3[i] = [c] → cntC C i < (NS3.flatMap C).length ∧ rd_T38 (NS3.flatMap C) (cntC C i : Int) = c := fun c hc => cntC_at C hlt hc
    refine Ev.up ?_
    simp only [cadencelaw12_MergeRows.l0, Option.bind_some, hr]
    refine Ev.congr (fun k => if_pos (by omega)) (Ev.congr (fun k => if_pos (by omega)) (Ev.congr (fun k => if_pos (by rw [hN]; omega)) ?_))
    refine Ev.bind eo (Ev.bind (value_ev o NS3[i] (by omega)) (Ev.bind ea (Ev.bind (value_ev a NS3[i] (by omega)) (Ev.bind eb (Ev.bind (value_ev b NS3[i] (by omega)) (Ev.bind (value_ev x NS3[i] (by omega)) (Ev.bind (value_ev y NS3[i] (by omega)) (Ev.bind (value_ev z NS3[i] (by omega)) ?_))))))))
    generalize kidO (true, o) NS3[i] = P at hCn hrn co ⊢
    generalize kidO (true, a) NS3[i] = Q at hCn hrn ca ⊢
    generalize kidO (true, b) NS3[i] = R at hCn hrn cb ⊢
    unfold resC at hCn hrn
    by_cases h1 : valO Q = valO R
    · rw [if_pos h1] at hCn hrn
      injection hrn with e1 hrn
      injection hrn with e2 e3
      rw [e1, e2, e3, ← h1]
      rw [hs, hCn, List.length_nil, Nat.add_zero] at h0
      exact Ev.congr (fun k => if_pos rfl) (rows_j4 (by omega) _ _ _ h0)
    rw [if_neg h1] at hCn hrn
    refine Ev.congr (fun k => if_neg (fun e => h1 ((toL_iff _ _).1 e))) ?_
    by_cases h2 : valO P = valO Q
    · rw [if_pos h2] at hCn hrn
      injection hrn with e1 hrn
      injection hrn with e2 e3
      rw [e1, e2, e3]
      rw [hs, hCn, List.length_nil, Nat.add_zero] at h0
      exact Ev.congr (fun k => if_pos (by rw [h2])) (rows_j4 (by omega) _ _ _ h0)
    rw [if_neg h2] at hCn hrn
    refine Ev.congr (fun k => if_neg (fun e => h2 ((toL_iff _ _).1 e))) ?_
    by_cases h3 : valO P = valO R
    · rw [if_pos h3] at hCn hrn
      injection hrn with e1 hrn
      injection hrn with e2 e3
      rw [e1, e2, e3]
      rw [hs, hCn, List.length_nil, Nat.add_zero] at h0
      exact Ev.congr (fun k => if_pos (by rw [h3])) (rows_j4 (by omega) _ _ _ h0)
    rw [if_neg h3] at hCn hrn
    refine Ev.congr (fun k => if_neg (fun e => h3 ((toL_iff _ _).1 e))) ?_
    injection hrn with e1 hrn
    injection hrn with e2 e3
    rw [e1, e2, e3]
    obtain ⟨hc1, hc2⟩ := at_ _ hCn
    rw [hs, hCn, List.length_singleton] at h0
    have j3 : Ev (fun k => cadencelaw12_MergeRows.j3 k n0 n1 n2 (NS3.flatMap C) (cntC C i : Int) (i : Int) (valO P) (valO Q) (valO R) (valO P) (valO Q) (valO R) false true x true y true z) true := by
      refine Ev.up ?_
      simp only [cadencelaw12_MergeRows.j3, hwc]
      exact Ev.congr (fun k => if_neg (by simp)) (rows_j4 (by omega) _ _ _ h0)
    have j2 : Ev (fun k => cadencelaw12_MergeRows.j2 k n0 n1 n2 (NS3.flatMap C) (cntC C i : Int) (i : Int) NS3[i] (valO P) (valO Q) (valO R) (valO P) (valO Q) (valO R) (if tl (valO Q) = [] ∨ tl (valO R) = [] then 1 else 2) true x true y true z) true := by
      refine Ev.up ?_
      simp only [cadencelaw12_MergeRows.j2]
      refine Ev.congr (fun k => if_neg (by omega)) (Ev.congr (fun k => if_pos (by omega)) (Ev.congr (fun k => if_pos (by omega)) (Ev.congr (fun k => if_pos (by rw [hc2])) (Ev.congr (fun k => if_pos (by rw [hc2]; rfl)) (Ev.congr (fun k => if_pos (by rw [hc2]; show (0 : Int) < 1; omega)) ?_)))))
      rw [hc2]
      rw [show ((rdOf ByteArray.empty [NS3[i]] 0).toList != NS3[i].toList) = false from by
        rw [show rdOf ByteArray.empty [NS3[i]] 0 = NS3[i] from rfl]
        simp]
      exact j3
    by_cases h4 : tl (valO Q) = []
    · refine Ev.congr (fun k => if_pos ((toL_nil _).2 h4)) (Ev.up ?_)
      simp only [cadencelaw12_MergeRows.j1]
      rw [if_pos (.inl h4)] at j2
      exact Ev.congr (fun k => if_pos trivial) j2
    · refine Ev.congr (fun k => if_neg (fun e => h4 ((toL_nil _).1 e))) (Ev.up ?_)
      simp only [cadencelaw12_MergeRows.j1]
      by_cases h5 : tl (valO R) = []
      · rw [if_pos (.inr h5)] at j2
        exact Ev.congr (fun k => if_pos (by rw [(toL_nil _).2 h5]; rfl)) j2
      · rw [if_neg (fun e => e.elim h4 h5)] at j2
        exact Ev.congr (fun k => if_neg (fun e => h5 ((toL_nil _).1 (eq_of_beq e)))) j2
theorem row_ook {t : Tr} (h : RowOk t) : OOk 10 5 (true, t) := ook h.ok (by omega)
theorem mergeRows_ev (n0 n1 n2 : Int) : Ev (fun k => cadencelaw12_MergeRows.f k n0 n1 n2) true := by
  obtain ⟨o, ho, eo⟩ := row_ev n0
  obtain ⟨a, ha, ea⟩ := row_ev n1
  obtain ⟨b, hb, eb⟩ := row_ev n2
  obtain ⟨x, y, z, l, hm, lx, ly, lz, hres, hl⟩ := merge_rows (o := (true, o)) ⟨.inl rfl, ho⟩ ha hb
  have hf := merge_f one_ok (row_ook ho) (row_ook ha) (row_ook hb) hm
  simp only at hf
  have lp := rows_loop ho ha hb eo ea eb lx ly lz hres 3 0 (by omega)
  rw [← hl] at lp
  have lp : Ev (fun k => cadencelaw12_MergeRows.l0 k n0 n1 n2 l 0 0 true x true y true z) true := lp
  unfold cadencelaw12_MergeRows.f
  simp only [known12, Option.bind_some, one_f, cadencelaw12_some.f]
  refine Ev.congr (fun k => if_pos trivial) (Ev.bind eo (Ev.bind ea (Ev.bind eb ?_)))
  simp only [hf, Option.bind_some]
  exact lp
end Go.Proofs.Ytainbaehfdhmbaa.PX
set_option linter.unusedVariables false
set_option linter.unusedSimpArgs false
namespace Go.Proofs.Ytainbaehfdhmbaa.mergeRows
open Go.ChangeShapes Go.WideShapes Go.ChangeAt Go.RowKit
open Go.ChangeMaps (open_string shut_string)
open Go.Proofs.Ytainbaehfdhmbaa.PX
theorem own : ownKnob Try.prog.godebug = none := by kernel_rfl
theorem laidOut : laidOutB Try.prog = true := by kernel_rfl
set_option maxRecDepth 100000 in
theorem lifted (os : Os) (started : os.Started) (H : Type) (enc : TypeId × Value → H) :
    ReturnsInHanded {} Try.checked os 3 .any (Rows.mergeRowsSpec.pre6 enc Try.prog Try.f3 Rows.mergeRowsRow.domain false) (Rows.mergeRowsSpec.post enc Try.prog Try.f3 false true false false) := by
  refine returnsInHanded_of_change_sized (C := Try.checked) own started (by kernel_rfl) Try.func3
    (ChangeSpec.witness6 (enc := enc) (C := Try.checked) false ⟨#[], #[.int .i64 0, .int .i64 0, .int .i64 0], []⟩ 8 (by kernel_rfl) (by kernel_rfl) (by kernel_rfl) (by kernel_rfl)) ?_
  intro W base args ds gs before hval0 hW hcnd hsz0 _
  have hsz : (DataW.weightsEach Try.prog (Try.f3.params.toList ++ Rows.mergeRowsSpec.plain.varTypes Try.prog) (ds ++ gs)).all (· ≤ reachBytes) = true := hsz0
  have hval : ∀ (j : Nat) t v, Try.f3.params[j]? = some t → args[j]? = some v → Value.okWide Try.prog W .any base t v := hval0
  have hW' := hW
  obtain ⟨p, q, hA0, hV, rfl, hfz, hnd⟩ := hW
  have hA : DataW.TrodAll enc Try.prog W 0 (fun _ => true) true Try.f3.params.toList args.toList ds p := hA0
  rw [Try.params3] at hA hval hsz
  obtain ⟨v0, vs0, d0, ds0, p0, q0, hargs, rfl, rfl, h0, r0⟩ := trodAll_cons hA
  obtain ⟨v1, vs1, d1, ds1, p1, q1, rfl, rfl, rfl, h1, r1⟩ := trodAll_cons r0
  obtain ⟨v2, vs2, d2, ds2, p2, q2, rfl, rfl, rfl, h2, r2⟩ := trodAll_cons r1
  obtain ⟨rfl, rfl, rfl⟩ := trodAll_nil r2
  obtain rfl : args = #[v0, v1, v2] := by cases args; simp_all
  obtain ⟨rfl, rfl⟩ := trodVars_none hV
  have lt0 : ∀ x ∈ p0, x.block < W.heap.size := by obtain ⟨m, hm⟩ := h0; exact DataW.trod_lt m _ _ _ hm
  have k0 := h0
  have lt1 : ∀ x ∈ p1, x.block < W.heap.size := by obtain ⟨m, hm⟩ := h1; exact DataW.trod_lt m _ _ _ hm
  have k1 := h1
  have lt2 : ∀ x ∈ p2, x.block < W.heap.size := by obtain ⟨m, hm⟩ := h2; exact DataW.trod_lt m _ _ _ hm
  have k2 := h2
  obtain ⟨x0, rfl, _, _, w0⟩ := open_int Try.underlying3 (hval 0 3 v0 rfl rfl) h0
  obtain ⟨x1, rfl, _, _, w1⟩ := open_int Try.underlying3 (hval 1 3 v1 rfl rfl) h1
  obtain ⟨x2, rfl, _, _, w2⟩ := open_int Try.underlying3 (hval 2 3 v2 rfl rfl) h2
  clear hA0 hval0 hsz0 hsz
  obtain ⟨k, hk⟩ := (mergeRows_ev x0 x1 x2).rounds
  refine (cadencelaw12_MergeRows.calls k x0 x1 x2 true W hk).mono fun e W' ⟨he, bel⟩ => ?_
  subst he
  exact ⟨_, rfl, _, _, _, [], _, [], hW', trodAll_mk1 (shut_bool Try.underlying4 _), (trodAll_cons_mk (Below.trod laidOut (by kernel_rfl) (of_decide_eq_true (by kernel_rfl)) k0 bel lt0) (trodAll_cons_mk (Below.trod laidOut (by kernel_rfl) (of_decide_eq_true (by kernel_rfl)) k1 bel lt1) (trodAll_cons_mk (Below.trod laidOut (by kernel_rfl) (of_decide_eq_true (by kernel_rfl)) k2 bel lt2) trodAll_mk0))), rfl, bel.frame _, fun h => by cases h⟩
theorem over : Rows.mergeRowsRow.holds Try.pinned (OpenSpec.ofChange Rows.mergeRowsSpec) :=
  OpenClaim.holds_of_wide 3 Try.f3 rfl rfl rfl rfl rfl rfl rfl ⟨rfl, rfl, rfl, rfl, rfl⟩ rfl rfl rfl rfl rfl (by kernel_rfl) Try.func3 (by kernel_rfl)
    (of_decide_eq_true (by kernel_rfl)) (by unfold Func.isWrapper; first | (rw [if_pos (by decide +kernel)]; kernel_rfl) | (rw [if_neg (by decide +kernel)]; exact ⟨rfl, rfl⟩))
    (fun os started H enc _ => lifted os started H enc)
theorem proved : Rows.MergeRowsSaid := over
#print axioms proved
end Go.Proofs.Ytainbaehfdhmbaa.mergeRows
