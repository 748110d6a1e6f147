/- Texts on the way to 'SchemaChecks', one behind the other (part 3). -/
import Derived.Test.YtoihiehoolehiaaMSchemaChecks1
import Derived.Test.YtoihiehoolehiaaMSchemaChecks2
import Derived.Lib.SlicesCompact
import Derived.Lib.RowBridge
import Derived.WalkKit
import Derived.OwnWalk
import Derived.Below
import Derived.Lib.Hide
import Derived.Laws.CopyOwn
import Derived.Maps.AppendAt
import Derived.KernelRfl
import Derived.Test.YtoihiehoolehiaaShelf
import Derived.Sort.OwnSorted
import Derived.Sort.Grow
import Derived.Lib.OwnBridge
import Derived.Handy
namespace Go.Proofs.Ytoihiehoolehiaa.PX
open Go.RowKit Go.Proofs.YtoihiehoolehiaaW.PrintWords Go.Proofs.YtoihiehoolehiaaW.PrintLast Go.Proofs.YtoihiehoolehiaaW.PrintMore
attribute [local go_sem] max2_int min2_int max_two min_two max_three min_three max_four min_four   
set_option linter.unusedVariables false
set_option linter.unusedSimpArgs false
attribute [local go_sem] run_field_87_0
mutual
def cadencelaw4_Make.l0:Nat→List (S33)→Int→List (S33)→Int→Option ((List (S33)))
 | 0,_,_,_,_=>none
 | k+1,x0,x3,x4,x5=>if x5 < x3 then (cadencelaw4_Make.l1 k x0 x3 x4 x5 0 ([]:List (S40)) false false true ([]:List ByteArray)) else (some x4)
def cadencelaw4_Make.l1:Nat→List (S33)→Int→List (S33)→Int→Int→List (S40)→Bool→Bool→Bool→List ByteArray→Option ((List (S33)))
 | 0,_,_,_,_,_,_,_,_,_,_=>none
 | k+1,x0,x3,x4,x5,x8,x221000,x221001,x221002,x222000,x222001=>if x5 < (x0.length:Int) then (if 0≤x5 then (if x8 < (((rd_T33 x0 x5).f0).length:Int) then (cadencelaw4_Make.j2 k x0 x3 x4 x5 x8 (decide (x8 < 3)) x221000 x221001 x221002 x222000 x222001) else (cadencelaw4_Make.j2 k x0 x3 x4 x5 x8 false x221000 x221001 x221002 x222000 x222001)) else (none)) else (cadencelaw4_Make.j2 k x0 x3 x4 x5 x8 false x221000 x221001 x221002 x222000 x222001)
def cadencelaw4_Make.j2:Nat→List (S33)→Int→List (S33)→Int→Int→Bool→List (S40)→Bool→Bool→Bool→List ByteArray→Option ((List (S33)))
 | 0,_,_,_,_,_,_,_,_,_,_,_=>none
 | k+1,x0,x3,x4,x5,x8,x38,x221000,x221001,x221002,x222000,x222001=>if x38=true then (if 0≤x5 then (if x5 < (x0.length:Int) then (if 0≤x8 then (if x8 < (((rd_T33 x0 x5).f0).length:Int) then ((cadencelaw3_Make.f k ((rd_T40 ((rd_T33 x0 x5).f0) x8).f0.f0) ((rd_T40 ((rd_T33 x0 x5).f0) x8).f0.f1)).bind fun bt234=>((cadenceref3_Both.f k bt234.1 bt234.2 x222000 x222001).bind fun bt238=>((cadenceref3_Not.f k bt238.1 bt238.2).bind fun bt243=>((cadenceref3_Both.f k x222000 x222001 bt243.1 bt243.2).bind fun bt247=>(cadencelaw4_Make.j3 k x0 x3 x4 x5 x8 x221000 x221001 x221002 bt247.1 bt247.2 ((rd_T40 ((rd_T33 x0 x5).f0) x8).f0.f0) ((rd_T40 ((rd_T33 x0 x5).f0) x8).f0.f1) ((rd_T40 ((rd_T33 x0 x5).f0) x8).f1) ((rd_T40 ((rd_T33 x0 x5).f0) x8).f2) bt238.1 bt238.2))))) else (none)) else (none)) else (none)) else (none)) else (if x5 < (x0.length:Int) then (if 0≤x5 then (if x4.length < 4398046511104 then (cadencelaw4_Make.l0 k x0 x3 (x4 ++ [(⟨x221000,(rd_T33 x0 x5).f1,(rd_T33 x0 x5).f2⟩:S33)]) (wrap64 (x5+1))) else (none)) else (none)) else (if x4.length < 4398046511104 then (cadencelaw4_Make.l0 k x0 x3 (x4 ++ [(⟨x221000,x221001,x221002⟩:S33)]) (wrap64 (x5+1))) else (none)))
def cadencelaw4_Make.j3:Nat→List (S33)→Int→List (S33)→Int→Int→List (S40)→Bool→Bool→Bool→List ByteArray→Bool→List ByteArray→Int→Bool→Bool→List ByteArray→Option ((List (S33)))
 | 0,_,_,_,_,_,_,_,_,_,_,_,_,_,_,_,_=>none
 | k+1,x0,x3,x4,x5,x8,x221000,x221001,x221002,x222000,x222001,x234000,x234001,x234002,x234003,x243000,x243001=>(cadencelaw4_within.f x234002 x3).bind fun t251=>(if x234003=true then (if x221000.length < 2932031007402 then (cadencelaw4_Make.l1 k x0 x3 x4 x5 (wrap64 (x8+1)) (x221000 ++ [(⟨(⟨x243000,x243001⟩:S38),t251,!x243000⟩:S40)]) x221001 x221002 x222000 x222001) else (none)) else (if x221000.length < 2932031007402 then (cadencelaw4_Make.l1 k x0 x3 x4 x5 (wrap64 (x8+1)) (x221000 ++ [(⟨(⟨x243000,x243001⟩:S38),t251,false⟩:S40)]) x221001 x221002 x222000 x222001) else (none)))
end
def cadencelaw4_Make.f (k:Nat) (l0:List (S33)):Option ((List (S33))):=cadencelaw4_Make.l0 k l0 (mx 1 (mn (l0.length:Int) 4)) ([]:List (S33)) 0
theorem cadencelaw4_Make.mono_l:∀ k,(∀ y0 y1 y2 y3,LeO (cadencelaw4_Make.l0 k y0 y1 y2 y3) (cadencelaw4_Make.l0 (k+1) y0 y1 y2 y3))∧(∀ y0 y1 y2 y3 y4 y5 y6 y7 y8 y9,LeO (cadencelaw4_Make.l1 k y0 y1 y2 y3 y4 y5 y6 y7 y8 y9) (cadencelaw4_Make.l1 (k+1) y0 y1 y2 y3 y4 y5 y6 y7 y8 y9))∧(∀ y0 y1 y2 y3 y4 y5 y6 y7 y8 y9 y10,LeO (cadencelaw4_Make.j2 k y0 y1 y2 y3 y4 y5 y6 y7 y8 y9 y10) (cadencelaw4_Make.j2 (k+1) y0 y1 y2 y3 y4 y5 y6 y7 y8 y9 y10))∧(∀ y0 y1 y2 y3 y4 y5 y6 y7 y8 y9 y10 y11 y12 y13 y14 y15,LeO (cadencelaw4_Make.j3 k y0 y1 y2 y3 y4 y5 y6 y7 y8 y9 y10 y11 y12 y13 y14 y15) (cadencelaw4_Make.j3 (k+1) y0 y1 y2 y3 y4 y5 y6 y7 y8 y9 y10 y11 y12 y13 y14 y15))
 | 0=>⟨fun _ _ _ _ r h=>by simp [cadencelaw4_Make.l0] at h,fun _ _ _ _ _ _ _ _ _ _ r h=>by simp [cadencelaw4_Make.l1] at h,fun _ _ _ _ _ _ _ _ _ _ _ r h=>by simp [cadencelaw4_Make.j2] at h,fun _ _ _ _ _ _ _ _ _ _ _ _ _ _ _ _ r h=>by simp [cadencelaw4_Make.j3] at h⟩
 | k+1=>by
  obtain ⟨ih0,ih1,ih2,ih3⟩:=cadencelaw4_Make.mono_l k
  refine ⟨?_,?_,?_,?_⟩
  ·intro y0 y1 y2 y3
   unfold cadencelaw4_Make.l0
   repeat' first
   | (with_reducible exact ih0 _ _ _ _)
   | (with_reducible exact ih1 _ _ _ _ _ _ _ _ _ _)
   | (with_reducible exact ih2 _ _ _ _ _ _ _ _ _ _ _)
   | (with_reducible exact ih3 _ _ _ _ _ _ _ _ _ _ _ _ _ _ _ _)
   | (with_reducible exact cadencelaw3_Make.mono _ _ _)
   | (with_reducible exact cadenceref3_Both.mono _ _ _ _ _)
   | (with_reducible exact cadenceref3_Not.mono _ _ _)
   | (with_reducible exact LeO.refl _)
   | (with_reducible exact LeO.none _)
   | (with_reducible refine LeO.ite ?_ ?_)
   | (with_reducible refine LeO.bind ?_ (fun _=>?_))
   | exact ih0 _ _ _ _
   | exact ih1 _ _ _ _ _ _ _ _ _ _
   | exact ih2 _ _ _ _ _ _ _ _ _ _ _
   | exact ih3 _ _ _ _ _ _ _ _ _ _ _ _ _ _ _ _
   | exact cadencelaw3_Make.mono _ _ _
   | exact cadenceref3_Both.mono _ _ _ _ _
   | exact cadenceref3_Not.mono _ _ _
   | exact LeO.none _
   | refine LeO.ite ?_ ?_
   | refine LeO.bind ?_ (fun _=>?_)
  ·intro y0 y1 y2 y3 y4 y5 y6 y7 y8 y9
   unfold cadencelaw4_Make.l1
   repeat' first
   | (with_reducible exact ih0 _ _ _ _)
   | (with_reducible exact ih1 _ _ _ _ _ _ _ _ _ _)
   | (with_reducible exact ih2 _ _ _ _ _ _ _ _ _ _ _)
   | (with_reducible exact ih3 _ _ _ _ _ _ _ _ _ _ _ _ _ _ _ _)
   | (with_reducible exact cadencelaw3_Make.mono _ _ _)
   | (with_reducible exact cadenceref3_Both.mono _ _ _ _ _)
   | (with_reducible exact cadenceref3_Not.mono _ _ _)
   | (with_reducible exact LeO.refl _)
   | (with_reducible exact LeO.none _)
   | (with_reducible refine LeO.ite ?_ ?_)
   | (with_reducible refine LeO.bind ?_ (fun _=>?_))
   | exact ih0 _ _ _ _
   | exact ih1 _ _ _ _ _ _ _ _ _ _
   | exact ih2 _ _ _ _ _ _ _ _ _ _ _
   | exact ih3 _ _ _ _ _ _ _ _ _ _ _ _ _ _ _ _
   | exact cadencelaw3_Make.mono _ _ _
   | exact cadenceref3_Both.mono _ _ _ _ _
   | exact cadenceref3_Not.mono _ _ _
   | exact LeO.none _
   | refine LeO.ite ?_ ?_
   | refine LeO.bind ?_ (fun _=>?_)
  ·intro y0 y1 y2 y3 y4 y5 y6 y7 y8 y9 y10
   unfold cadencelaw4_Make.j2
   repeat' first
   | (with_reducible exact ih0 _ _ _ _)
   | (with_reducible exact ih1 _ _ _ _ _ _ _ _ _ _)
   | (with_reducible exact ih2 _ _ _ _ _ _ _ _ _ _ _)
   | (with_reducible exact ih3 _ _ _ _ _ _ _ _ _ _ _ _ _ _ _ _)
   | (with_reducible exact cadencelaw3_Make.mono _ _ _)
   | (with_reducible exact cadenceref3_Both.mono _ _ _ _ _)
   | (with_reducible exact cadenceref3_Not.mono _ _ _)
   | (with_reducible exact LeO.refl _)
   | (with_reducible exact LeO.none _)
   | (with_reducible refine LeO.ite ?_ ?_)
   | (with_reducible refine LeO.bind ?_ (fun _=>?_))
   | exact ih0 _ _ _ _
   | exact ih1 _ _ _ _ _ _ _ _ _ _
   | exact ih2 _ _ _ _ _ _ _ _ _ _ _
   | exact ih3 _ _ _ _ _ _ _ _ _ _ _ _ _ _ _ _
   | exact cadencelaw3_Make.mono _ _ _
   | exact cadenceref3_Both.mono _ _ _ _ _
   | exact cadenceref3_Not.mono _ _ _
   | exact LeO.none _
   | refine LeO.ite ?_ ?_
   | refine LeO.bind ?_ (fun _=>?_)
  ·intro y0 y1 y2 y3 y4 y5 y6 y7 y8 y9 y10 y11 y12 y13 y14 y15
   unfold cadencelaw4_Make.j3
   repeat' first
   | (with_reducible exact ih0 _ _ _ _)
   | (with_reducible exact ih1 _ _ _ _ _ _ _ _ _ _)
   | (with_reducible exact ih2 _ _ _ _ _ _ _ _ _ _ _)
   | (with_reducible exact ih3 _ _ _ _ _ _ _ _ _ _ _ _ _ _ _ _)
   | (with_reducible exact cadencelaw3_Make.mono _ _ _)
   | (with_reducible exact cadenceref3_Both.mono _ _ _ _ _)
   | (with_reducible exact cadenceref3_Not.mono _ _ _)
   | (with_reducible exact LeO.refl _)
   | (with_reducible exact LeO.none _)
   | (with_reducible refine LeO.ite ?_ ?_)
   | (with_reducible refine LeO.bind ?_ (fun _=>?_))
   | exact ih0 _ _ _ _
   | exact ih1 _ _ _ _ _ _ _ _ _ _
   | exact ih2 _ _ _ _ _ _ _ _ _ _ _
   | exact ih3 _ _ _ _ _ _ _ _ _ _ _ _ _ _ _ _
   | exact cadencelaw3_Make.mono _ _ _
   | exact cadenceref3_Both.mono _ _ _ _ _
   | exact cadenceref3_Not.mono _ _ _
   | exact LeO.none _
   | refine LeO.ite ?_ ?_
   | refine LeO.bind ?_ (fun _=>?_)
theorem cadencelaw4_Make.mono:∀ a0 k,LeO (cadencelaw4_Make.f k a0) (cadencelaw4_Make.f (k+1) a0):=by
 intro a0 k
 obtain ⟨ih0,ih1,ih2,ih3⟩:=cadencelaw4_Make.mono_l k
 unfold cadencelaw4_Make.f
 repeat' first
   | (with_reducible exact ih0 _ _ _ _)
   | (with_reducible exact ih1 _ _ _ _ _ _ _ _ _ _)
   | (with_reducible exact ih2 _ _ _ _ _ _ _ _ _ _ _)
   | (with_reducible exact ih3 _ _ _ _ _ _ _ _ _ _ _ _ _ _ _ _)
   | (with_reducible exact cadencelaw3_Make.mono _ _ _)
   | (with_reducible exact cadenceref3_Both.mono _ _ _ _ _)
   | (with_reducible exact cadenceref3_Not.mono _ _ _)
   | (with_reducible exact LeO.refl _)
   | (with_reducible exact LeO.none _)
   | (with_reducible refine LeO.ite ?_ ?_)
   | (with_reducible refine LeO.bind ?_ (fun _=>?_))
   | exact ih0 _ _ _ _
   | exact ih1 _ _ _ _ _ _ _ _ _ _
   | exact ih2 _ _ _ _ _ _ _ _ _ _ _
   | exact ih3 _ _ _ _ _ _ _ _ _ _ _ _ _ _ _ _
   | exact cadencelaw3_Make.mono _ _ _
   | exact cadenceref3_Both.mono _ _ _ _ _
   | exact cadenceref3_Not.mono _ _ _
   | exact LeO.none _
   | refine LeO.ite ?_ ?_
   | refine LeO.bind ?_ (fun _=>?_)
def cadencelaw4_Make.T15:Bool × List (List Nat × List Nat):=(true,[([],[]),([0],[0]),([],[]),([],[]),([3],[3]),([],[]),([4,5],[4,5]),([],[]),([7],[7]),([8,6],[8]),([9],[9]),([10,9],[9,10]),([11,9],[9,11]),([9,12],[9,12]),([2,6,13],[2,6,13]),([14],[14]),([1,15,9],[1,15]),([0,1,2,3,4,5,6,7,8,9,10,11,12,13,14,15,16],[]),([17,16,16,0,1,2,3,4,5,6,7,8,9,10,11,12,13,14,15,16],[16,17])])
def cadencelaw4_Make.B15:List Nat:=[0,1,0,0,8,0,56,0,128,504,1016,2040,4088,8184,16380,32764,65535,131071,262143]
theorem cadencelaw4_Make.tab15:rtab .any (opsOf Try.f10 15)=cadencelaw4_Make.T15:=by kernel_rfl
theorem cadencelaw4_Make.bits15:waitsOk cadencelaw4_Make.T15.2 cadencelaw4_Make.B15=true:=by kernel_rfl
def cadencelaw4_Make.T17:Bool × List (List Nat × List Nat):=(true,[([],[]),([],[]),([0,1],[0,1]),([2],[2]),([3],[3]),([],[]),([],[]),([5,6],[5,6]),([7],[7]),([8],[8]),([0,1,2,3,4],[]),([10,4,0,1,2,3,4],[4,10]),([0,1,2,3,4,5,6,7,8,9,10,11],[]),([12,9,11,0,1,2,3,4,5,6,7,8,9,10,11],[9,12])])
def cadencelaw4_Make.B17:List Nat:=[0,0,3,7,15,0,0,96,224,480,31,1055,4095,8191]
theorem cadencelaw4_Make.tab17:rtab .any (opsOf Try.f10 17)=cadencelaw4_Make.T17:=by kernel_rfl
theorem cadencelaw4_Make.bits17:waitsOk cadencelaw4_Make.T17.2 cadencelaw4_Make.B17=true:=by kernel_rfl
set_option maxHeartbeats 8000000 in
set_option maxRecDepth 100000 in
theorem cadencelaw4_Make.calls (k:Nat) (A0:Option Addr) (c0:Nat) (l0:List (S33)) (r:List (S33)) (w:World) (hr0:Kd.C k33 w A0 l0.length l0) (hc0:l0.length≤c0) (h:cadencelaw4_Make.f k l0=some r) :
  Calls Try.prog 10 #[.slice A0 l0.length c0] w fun e w'=>∃ v0_:Value,e=.returned (v0_)∧Kd.R k33 33 w' w.heap.size (fun _=>True) v0_ r∧Below w.heap.size w w':=by
 have hu33:=Try.underlying33
 have hu38:=Try.underlying38
 have hu40:=Try.underlying40
 have HR0:=Az.mk hr0
 have HC0:=Az.mk hc0
 clear hr0 hc0
 have HB:=Az.mk (Below.refl w.heap.size w)
 have H:(cadencelaw4_Make.l0 k l0 (mx 1 (mn (l0.length:Int) 4)) ([]:List (S33)) 0)=some r:=h
 clear h
 obtain ⟨ji2,hji2⟩:∃ j_:Int,(mn (l0.length:Int) 4)=j_:=⟨_,rfl⟩
 replace H:(cadencelaw4_Make.l0 k l0 (mx 1 (ji2)) ([]:List (S33)) 0)=some r:=by first|(rw [hji2] at H;exact H)|(simp only [hji2] at H ⊢;exact H)
 (try (have hji2h:ji2≤4:=by (rw [← hji2];unfold mn;(repeat' split) <;> omega)))
 (try (have hji2g:ji2≤64:=by omega))
 (try (have hji2l:0≤ji2:=by (rw [← hji2];unfold mn;(repeat' split) <;> omega)))
 (try (have hji2m:0≤ji2:=by omega))
 have hji2_:(if 4 < (l0.length:Int) then 4 else (l0.length:Int))=ji2:=hji2
 obtain ⟨ji3,hji3⟩:∃ j_:Int,(mx 1 (ji2))=j_:=⟨_,rfl⟩
 replace H:(cadencelaw4_Make.l0 k l0 ji3 ([]:List (S33)) 0)=some r:=by first|(rw [hji3] at H;exact H)|(simp only [hji3] at H ⊢;exact H)
 have hji3_:(if 1 < (ji2) then (ji2) else 1)=ji3:=hji3
 have H':=Az.mk H
 clear H
 go_enter Try.func10,Try.ntmps10
 go_wp2
 go_loopg [4,5] k (fun kq v4 v5 w'=>∃ (x4_1:List (S33)) (x5_1:Int),v5=.int .i64 x5_1∧Az (cadencelaw4_Make.l0 kq l0 ji3 x4_1 x5_1=some r)∧Az (kq≤k)∧Az (Kd.R k33 33 w' w.heap.size (fun _=>True) v4 x4_1)∧Az (Below w.heap.size w w'))
 case atStart=>exact ⟨(([]:List (S33))),(0),(by first|rfl|(simp;done)|(simp [*];done)),H',⟨Nat.le_refl _⟩,⟨by first|exact Kd.R_nil _ _ _ _ _|exact Kd.N_nil _ _ _ _ _|exact Kd.V_nil _ _ _ _ _|exact Kd.Q_nil _ _ _ _ _|exact Kd.S_nil _ _ _ _ _⟩,⟨by repeat (first|(with_reducible first|exact HB.out|apply bA_|apply bN_|apply bD_)|exact HB.out)⟩⟩
 case round =>
  clear H'
  try clear c1
  try clear p2
  obtain ⟨x4_1,x5_1,rfl,HA,HK1,HO_4,HB⟩:=hrel
  cases gk with
  | zero=>exact absurd HA.out (by simp [cadencelaw4_Make.l0])
  | succ k1 =>
   have H:=HA.out
   clear HA
   simp only [cadencelaw4_Make.l0] at H
   by_cases c4:x5_1 < ji3
   ·rw [if_pos c4] at H
    have c4b0:decide (x5_1 < ji3)=true:=decide_eq_true c4
    clear c4
    have H':=Az.mk H
    clear H
    go_wp2_with (first|((with_reducible refine gate_dst (N:=6) rfl ?_);(try (refine gate_guard (by rfl) ?_;dsimp only));refine box_event ?hg (N:=6) ?hd (cs:=#[.slice none 0 0,.bool false,.bool false]) (t:=33) ?hr ?_;(case hd=>rfl);(case hg=>rfl);(case hr=>first|(go_simp;done)|(go_simp;rfl));intro gb220 hg w5 hbox hb;have n0_:=Az.mk (Kd.R_below (Kd.R_elderB (by (with_reducible repeat (first|apply rA_|apply rN_|apply rD_));exact HO_4.out) gb220 (Nat.le_of_eq hg.symm)) hb);have n1_:=Az.mk (below_step (by repeat (first|(with_reducible first|exact HB.out|apply bA_|apply bN_|apply bD_)|exact HB.out)) hb);have n2_:=Az.mk (hbox);have n3_:=Az.mk ((by rw [hg];exact (be_ (by repeat (first|(with_reducible first|exact HB.out|apply bA_|apply bN_|apply bD_)|exact HB.out))):w.heap.size≤gb220));have n4_:=Az.mk ((by rw [hg];exact (be_ (by repeat (first|(with_reducible first|exact HB.out|apply bA_|apply bN_|apply bD_)|exact HB.out))):w.heap.size≤gb220));clear HO_4;clear HB;have HO_4:=n0_;have HB:=n1_;have BK220:=n2_;have GW220:=n3_;have GE220:=n4_;clear n0_ n1_ n2_ n3_ n4_;clear hb hbox hg)|((with_reducible refine gate_dst (N:=7) rfl ?_);(try (refine gate_guard (by rfl) ?_;dsimp only));refine box_event ?hg (N:=7) ?hd (cs:=#[.bool false,.slice none 0 0]) (t:=38) ?hr ?_;(case hd=>rfl);(case hg=>rfl);(case hr=>first|(go_simp;done)|(go_simp;rfl));intro gb221 hg w6 hbox hb;have n0_:=Az.mk (Kd.R_below (by (with_reducible repeat (first|apply rA_|apply rN_|apply rD_));exact HO_4.out) hb);have n1_:=Az.mk (bb_ (g:=gb220) (o:=.cells #[.slice none 0 0,.bool false,.bool false] 33 (0,0)) (by (with_reducible repeat (first|refine bq_ ?_ _|refine bw_ ?_|refine bz_ ?_ _));exact BK220.out) hb);have n2_:=Az.mk (below_step (by repeat (first|(with_reducible first|exact HB.out|apply bA_|apply bN_|apply bD_|refine bs_ ?_ GE220.out)|exact HB.out)) hb);have n3_:=Az.mk (hbox);have n4_:=Az.mk ((by rw [hg];exact (be_ (by repeat (first|(with_reducible first|exact HB.out|apply bA_|apply bN_|apply bD_|refine bs_ ?_ GE220.out)|exact HB.out))):w.heap.size≤gb221));have n5_:=Az.mk ((by rw [hg];exact (be_ (by repeat (first|(with_reducible first|exact HB.out|apply bA_|apply bN_|apply bD_|refine bs_ ?_ GE220.out)|exact HB.out))):w.heap.size≤gb221));have n6_:=Az.mk ((by rw [hg];exact Nat.ne_of_lt (blk_lt (g:=gb220) (o:=.cells #[.slice none 0 0,.bool false,.bool false] 33 (0,0)) (by (with_reducible repeat (first|refine bq_ ?_ _|refine bw_ ?_|refine bz_ ?_ _));exact BK220.out)):gb220≠gb221));have n7_:=Az.mk ((by rw [hg];exact Nat.ne_of_gt (blk_lt (g:=gb220) (o:=.cells #[.slice none 0 0,.bool false,.bool false] 33 (0,0)) (by (with_reducible repeat (first|refine bq_ ?_ _|refine bw_ ?_|refine bz_ ?_ _));exact BK220.out)):gb221≠gb220));clear HO_4;clear BK220;clear HB;have HO_4:=n0_;have BK220:=n1_;have HB:=n2_;have BK221:=n3_;have GW221:=n4_;have GE221:=n5_;have NB220_221:=n6_;have NB221_220:=n7_;clear n0_ n1_ n2_ n3_ n4_ n5_ n6_ n7_;clear hb hbox hg;have hnb7:=NB221_220.out;have hnc7:=NB220_221.out;have hcz8_0:w6.cell? ⟨gb221,0,none⟩=some (.bool false):=(bc_ BK221.out 0).trans rfl;have hcz8_1:w6.cell? ⟨gb221,1,none⟩=some (.slice none 0 0):=(bc_ BK221.out 1).trans rfl;have hfz8_0:=bf_ BK221.out 0;have hfz8_1:=bf_ BK221.out 1))
    go_loopg [8] k1 (fun kq v8 w'=>∃ (x8_2:Int) (x221000_2:List (S40)) (x222000_2:Bool) (x222001_2:List ByteArray) (u221000:Value) (u222001:Value),v8=.int .i64 x8_2∧Az (cadencelaw4_Make.l1 kq l0 ji3 x4_1 x5_1 x8_2 x221000_2 false false x222000_2 x222001_2=some r)∧Az (kq≤k1)∧Az (Kd.R k33 33 w' w.heap.size (fun k_=>some k_≠(u221000:Value).ownBlock∧some k_≠(u222001:Value).ownBlock∧k_≠gb220) u4 x4_1)∧Az (Kd.S k40 40 w' w.heap.size (fun k_=>some k_≠(u222001:Value).ownBlock) u221000 x221000_2)∧Az (Kd.R Kd.string 9 w' w.heap.size (fun _=>True) u222001 x222001_2)∧Az (w'.heap[gb220]? = some (.cells #[u221000,.bool false,.bool false] 33 (0,0)))∧Az (w'.heap[gb221]? = some (.cells #[.bool x222000_2,u222001] 38 (0,0)))∧Az (Below w.heap.size w w'))
    case atStart=>exact ⟨(0),(([]:List (S40))),(true),(([]:List ByteArray)),(.slice none 0 0),(.slice none 0 0),(by first|rfl|(simp;done)|(simp [*];done)),H',⟨Nat.le_refl _⟩,⟨by (with_reducible repeat (first|apply rA_|apply rN_|apply rD_));exact Kd.R_mono (Kd.R_far (p:=⟨gb221,0,none⟩) (Kd.R_types HO_4.out BK221.out (by decide)) (fun _ hk=>hk.2) (.bool true)) (fun _ hk=>⟨(by simp [Value.ownBlock]),⟨(by simp [Value.ownBlock]),hk.1.2⟩⟩)⟩,⟨by first|exact Kd.S_nil _ _ _ _ _|exact Kd.N_nil _ _ _ _ _|exact Kd.V_nil _ _ _ _ _|exact Kd.Q_nil _ _ _ _ _|exact Kd.R_nil _ _ _ _ _⟩,⟨by first|exact Kd.R_nil _ _ _ _ _|exact Kd.N_nil _ _ _ _ _|exact Kd.V_nil _ _ _ _ _|exact Kd.Q_nil _ _ _ _ _|exact Kd.S_nil _ _ _ _ _⟩,⟨by (with_reducible repeat (first|refine bq_ ?_ _|refine bw_ ?_|refine bz_ ?_ _));refine blk_far ?_ NB220_221.out _;(with_reducible repeat (first|refine bq_ ?_ _|refine bw_ ?_|refine bz_ ?_ _));exact BK220.out⟩,⟨by (with_reducible repeat (first|refine bq_ ?_ _|refine bw_ ?_|refine bz_ ?_ _));refine blk_put (cs:=#[.bool false,.slice none 0 0]) ?_ 0 _ rfl;(with_reducible repeat (first|refine bq_ ?_ _|refine bw_ ?_|refine bz_ ?_ _));exact BK221.out⟩,⟨by repeat (first|(with_reducible first|exact HB.out|apply bA_|apply bN_|apply bD_|refine bs_ ?_ GE220.out|refine bs_ ?_ GE221.out)|exact HB.out)⟩⟩
    case round =>
     clear H'
     try clear c1
     try clear p2
     try clear c4
     try clear c4b0
     try clear c7
     try clear hcz8_0
     try clear hcz8_1
     try clear hfz8_0
     try clear hfz8_1
     try clear p2
     obtain ⟨x8_2,x221000_2,x222000_2,x222001_2,u221000,u222001,rfl,HA,HK2,HO_4,HO_221000,HO_222001,BK220,BK221,HB⟩:=hrel
     cases gk with
     | zero=>exact absurd HA.out (by simp [cadencelaw4_Make.l1])
     | succ k2 =>
      have H:=HA.out
      clear HA
      simp only [cadencelaw4_Make.l1] at H
      have HC9:=Az.mk H
      clear H
      go_upto_region 10 with (fail)
      go_cut [38] (fun v38 wc=>∃ (kq:Nat) (x38_8:Bool),v38=.bool x38_8∧Az (cadencelaw4_Make.j2 kq l0 ji3 x4_1 x5_1 x8_2 x38_8 x221000_2 false false x222000_2 x222001_2=some r)∧Az (kq≤k2)∧Az (Kd.R k33 33 wc w.heap.size (fun k_=>some k_≠(u221000:Value).ownBlock∧some k_≠(u222001:Value).ownBlock∧k_≠gb220) u4 x4_1)∧Az (Kd.S k40 40 wc w.heap.size (fun k_=>some k_≠(u222001:Value).ownBlock) u221000 x221000_2)∧Az (Kd.R Kd.string 9 wc w.heap.size (fun _=>True) u222001 x222001_2)∧Az (wc.heap[gb220]? = some (.cells #[u221000,.bool false,.bool false] 33 (0,0)))∧Az (wc.heap[gb221]? = some (.cells #[.bool x222000_2,u222001] 38 (0,0)))∧Az (Below w.heap.size w wc))
      case first =>
       have H:=HC9.out
       clear HC9
       by_cases c10:x5_1 < (l0.length:Int)
       ·rw [if_pos c10] at H
        have c10b0:decide (x5_1 < (l0.length:Int))=true:=decide_eq_true c10
        clear c10
        (first|rw [c10b0]|(simp only [i64_w,i32_w];rw [c10b0])|skip)
        by_cases c11:0≤x5_1
        ·rw [if_pos c11] at H
         have c11b0:decide (0≤x5_1)=true:=decide_eq_true c11
         clear c11
         by_cases c12:x8_2 < (((rd_T33 l0 x5_1).f0).length:Int)
         ·rw [if_pos c12] at H
          have c12b0:decide (x8_2 < (((rd_T33 l0 x5_1).f0).length:Int))=true:=decide_eq_true c12
          clear c12
          have H':=Az.mk H
          clear H
          have p222:0≤(x5_1:Int):=of_decide_eq_true (by first|(with_reducible assumption)|assumption)
          have q222:x5_1 < (l0.length:Int):=of_decide_eq_true (by first|(with_reducible assumption)|assumption)
          obtain ⟨ad222,A222_0,c222_0,e222,hx222_0,hx222_1,hx222_2,hl222_0,hi222_0⟩:=at_T33 HR0.out x5_1 p222 q222
          cases e222
          replace hx222_0:=(HB.out.cell (World.block_lt_of_cell? w _ hx222_0)).trans hx222_0
          replace hx222_1:=(HB.out.cell (World.block_lt_of_cell? w _ hx222_1)).trans hx222_1
          replace hx222_2:=(HB.out.cell (World.block_lt_of_cell? w _ hx222_2)).trans hx222_2
          have HR222_0:=Az.mk hi222_0
          have HC222_0:=Az.mk hl222_0
          clear hi222_0 hl222_0
          replace p222:=eq_true p222
          replace q222:=eq_true q222
          go_wp2
          go_meet
          case rel=>exact ⟨_,(decide (x8_2 < 3)),(by first|rfl|(simp;done)|(simp [*];done)),H',⟨by have:=HK1.out;have:=HK2.out;first|omega|exact Nat.le_refl _⟩,⟨by (with_reducible repeat (first|apply rA_|apply rN_|apply rD_));exact HO_4.out⟩,⟨by (with_reducible repeat (first|apply Kd.S_alloc|apply Kd.S_drewN|apply Kd.S_drew));exact HO_221000.out⟩,⟨by (with_reducible repeat (first|apply rA_|apply rN_|apply rD_));exact HO_222001.out⟩,⟨by (with_reducible repeat (first|refine bq_ ?_ _|refine bw_ ?_|refine bz_ ?_ _));exact BK220.out⟩,⟨by (with_reducible repeat (first|refine bq_ ?_ _|refine bw_ ?_|refine bz_ ?_ _));exact BK221.out⟩,⟨by repeat (first|(with_reducible first|exact HB.out|apply bA_|apply bN_|apply bD_|refine bs_ ?_ GE220.out|refine bs_ ?_ GE221.out)|exact HB.out)⟩⟩
         ·rw [if_neg c12] at H
          have c12b0:decide (x8_2 < (((rd_T33 l0 x5_1).f0).length:Int))=false:=decide_eq_false c12
          clear c12
          have H':=Az.mk H
          clear H
          have p222:0≤(x5_1:Int):=of_decide_eq_true (by first|(with_reducible assumption)|assumption)
          have q222:x5_1 < (l0.length:Int):=of_decide_eq_true (by first|(with_reducible assumption)|assumption)
          obtain ⟨ad222,A222_0,c222_0,e222,hx222_0,hx222_1,hx222_2,hl222_0,hi222_0⟩:=at_T33 HR0.out x5_1 p222 q222
          cases e222
          replace hx222_0:=(HB.out.cell (World.block_lt_of_cell? w _ hx222_0)).trans hx222_0
          replace hx222_1:=(HB.out.cell (World.block_lt_of_cell? w _ hx222_1)).trans hx222_1
          replace hx222_2:=(HB.out.cell (World.block_lt_of_cell? w _ hx222_2)).trans hx222_2
          have HR222_0:=Az.mk hi222_0
          have HC222_0:=Az.mk hl222_0
          clear hi222_0 hl222_0
          replace p222:=eq_true p222
          replace q222:=eq_true q222
          go_wp2
          go_meet
          case rel=>exact ⟨_,(false),(by first|rfl|(simp;done)|(simp [*];done)),H',⟨by have:=HK1.out;have:=HK2.out;first|omega|exact Nat.le_refl _⟩,⟨by (with_reducible repeat (first|apply rA_|apply rN_|apply rD_));exact HO_4.out⟩,⟨by (with_reducible repeat (first|apply Kd.S_alloc|apply Kd.S_drewN|apply Kd.S_drew));exact HO_221000.out⟩,⟨by (with_reducible repeat (first|apply rA_|apply rN_|apply rD_));exact HO_222001.out⟩,⟨by (with_reducible repeat (first|refine bq_ ?_ _|refine bw_ ?_|refine bz_ ?_ _));exact BK220.out⟩,⟨by (with_reducible repeat (first|refine bq_ ?_ _|refine bw_ ?_|refine bz_ ?_ _));exact BK221.out⟩,⟨by repeat (first|(with_reducible first|exact HB.out|apply bA_|apply bN_|apply bD_|refine bs_ ?_ GE220.out|refine bs_ ?_ GE221.out)|exact HB.out)⟩⟩
        ·rw [if_neg c11] at H
         exact absurd H (by simp)
       ·rw [if_neg c10] at H
        have c10b0:decide (x5_1 < (l0.length:Int))=false:=decide_eq_false c10
        clear c10
        (first|rw [c10b0]|(simp only [i64_w,i32_w];rw [c10b0])|skip)
        have H':=Az.mk H
        clear H
        go_wp2
        go_meet
        case rel=>exact ⟨_,(false),(by first|rfl|(simp;done)|(simp [*];done)),H',⟨by have:=HK1.out;have:=HK2.out;first|omega|exact Nat.le_refl _⟩,⟨by (with_reducible repeat (first|apply rA_|apply rN_|apply rD_));exact HO_4.out⟩,⟨by (with_reducible repeat (first|apply Kd.S_alloc|apply Kd.S_drewN|apply Kd.S_drew));exact HO_221000.out⟩,⟨by (with_reducible repeat (first|apply rA_|apply rN_|apply rD_));exact HO_222001.out⟩,⟨by (with_reducible repeat (first|refine bq_ ?_ _|refine bw_ ?_|refine bz_ ?_ _));exact BK220.out⟩,⟨by (with_reducible repeat (first|refine bq_ ?_ _|refine bw_ ?_|refine bz_ ?_ _));exact BK221.out⟩,⟨by repeat (first|(with_reducible first|exact HB.out|apply bA_|apply bN_|apply bD_|refine bs_ ?_ GE220.out|refine bs_ ?_ GE221.out)|exact HB.out)⟩⟩
      case rest =>
       clear HC9
       try clear c1
       try clear c2
       try clear p2
       try clear q2
       try clear hx2
       try clear c4
       try clear c4b0
       try clear c7
       try clear c10
       try clear c10b0
       try clear c11
       try clear c11b0
       try clear c12
       try clear c12b0
       try clear hcz8_0
       try clear hcz8_1
       try clear hfz8_0
       try clear hfz8_1
       try clear hx222_0
       try clear hx222_1
       try clear hx222_2
       try clear p2
       try clear p222
       try clear q222
       obtain ⟨kq,x38_8,rfl,HA,HJ8,HO_4,HO_221000,HO_222001,BK220,BK221,HB⟩:=hcut
       cases kq with
       | zero=>exact absurd HA.out (by simp [cadencelaw4_Make.j2])
       | succ kj8 =>
        have H:=HA.out
        clear HA
        simp only [cadencelaw4_Make.j2] at H
        by_cases c13:x38_8=true
        ·subst c13
         have H1:(if 0≤x5_1 then (if x5_1 < (l0.length:Int) then (if 0≤x8_2 then (if x8_2 < (((rd_T33 l0 x5_1).f0).length:Int) then ((cadencelaw3_Make.f kj8 ((rd_T40 ((rd_T33 l0 x5_1).f0) x8_2).f0.f0) ((rd_T40 ((rd_T33 l0 x5_1).f0) x8_2).f0.f1)).bind fun bt234=>((cadenceref3_Both.f kj8 bt234.1 bt234.2 x222000_2 x222001_2).bind fun bt238=>((cadenceref3_Not.f kj8 bt238.1 bt238.2).bind fun bt243=>((cadenceref3_Both.f kj8 x222000_2 x222001_2 bt243.1 bt243.2).bind fun bt247=>(cadencelaw4_Make.j3 kj8 l0 ji3 x4_1 x5_1 x8_2 x221000_2 false false bt247.1 bt247.2 ((rd_T40 ((rd_T33 l0 x5_1).f0) x8_2).f0.f0) ((rd_T40 ((rd_T33 l0 x5_1).f0) x8_2).f0.f1) ((rd_T40 ((rd_T33 l0 x5_1).f0) x8_2).f1) ((rd_T40 ((rd_T33 l0 x5_1).f0) x8_2).f2) bt238.1 bt238.2))))) else (none)) else (none)) else (none)) else (none))=some r:=by rw [if_pos rfl] at H;exact H
         clear H
         have H:=H1
         clear H1
         by_cases c14:0≤x5_1
         ·rw [if_pos c14] at H
          have c14b0:decide (0≤x5_1)=true:=decide_eq_true c14
          clear c14
          by_cases c15:x5_1 < (l0.length:Int)
          ·rw [if_pos c15] at H
           have c15b0:decide (x5_1 < (l0.length:Int))=true:=decide_eq_true c15
           clear c15
           by_cases c16:0≤x8_2
           ·rw [if_pos c16] at H
            have c16b0:decide (0≤x8_2)=true:=decide_eq_true c16
            clear c16
            by_cases c17:x8_2 < (((rd_T33 l0 x5_1).f0).length:Int)
            ·rw [if_pos c17] at H
             have c17b0:decide (x8_2 < (((rd_T33 l0 x5_1).f0).length:Int))=true:=decide_eq_true c17
             clear c17
             replace H:=Option.bind_eq_some_iff.mp H
             obtain ⟨⟨t234,t235⟩,A180,H⟩:=H
             replace H:((cadenceref3_Both.f kj8 t234 t235 x222000_2 x222001_2).bind fun bt238=>((cadenceref3_Not.f kj8 bt238.1 bt238.2).bind fun bt243=>((cadenceref3_Both.f kj8 x222000_2 x222001_2 bt243.1 bt243.2).bind fun bt247=>(cadencelaw4_Make.j3 kj8 l0 ji3 x4_1 x5_1 x8_2 x221000_2 false false bt247.1 bt247.2 ((rd_T40 ((rd_T33 l0 x5_1).f0) x8_2).f0.f0) ((rd_T40 ((rd_T33 l0 x5_1).f0) x8_2).f0.f1) ((rd_T40 ((rd_T33 l0 x5_1).f0) x8_2).f1) ((rd_T40 ((rd_T33 l0 x5_1).f0) x8_2).f2) bt238.1 bt238.2))))=some r:=H
             have A18:=Az.mk A180
             clear A180
             replace H:=Option.bind_eq_some_iff.mp H
             obtain ⟨⟨t238,t239⟩,A190,H⟩:=H
             replace H:((cadenceref3_Not.f kj8 t238 t239).bind fun bt243=>((cadenceref3_Both.f kj8 x222000_2 x222001_2 bt243.1 bt243.2).bind fun bt247=>(cadencelaw4_Make.j3 kj8 l0 ji3 x4_1 x5_1 x8_2 x221000_2 false false bt247.1 bt247.2 ((rd_T40 ((rd_T33 l0 x5_1).f0) x8_2).f0.f0) ((rd_T40 ((rd_T33 l0 x5_1).f0) x8_2).f0.f1) ((rd_T40 ((rd_T33 l0 x5_1).f0) x8_2).f1) ((rd_T40 ((rd_T33 l0 x5_1).f0) x8_2).f2) t238 t239)))=some r:=H
             have A19:=Az.mk A190
             clear A190
             have HC20:=Az.mk H
             clear H
             have p231:0≤(x5_1:Int):=of_decide_eq_true (by first|(with_reducible assumption)|assumption)
             have q231:x5_1 < (l0.length:Int):=of_decide_eq_true (by first|(with_reducible assumption)|assumption)
             obtain ⟨ad231,A231_0,c231_0,e231,hx231_0,hx231_1,hx231_2,hl231_0,hi231_0⟩:=at_T33 HR0.out x5_1 p231 q231
             cases e231
             replace hx231_0:=(HB.out.cell (World.block_lt_of_cell? w _ hx231_0)).trans hx231_0
             replace hx231_1:=(HB.out.cell (World.block_lt_of_cell? w _ hx231_1)).trans hx231_1
             replace hx231_2:=(HB.out.cell (World.block_lt_of_cell? w _ hx231_2)).trans hx231_2
             have HR231_0:=Az.mk hi231_0
             have HC231_0:=Az.mk hl231_0
             clear hi231_0 hl231_0
             replace p231:=eq_true p231
             replace q231:=eq_true q231
             have p232:0≤(x8_2:Int):=of_decide_eq_true (by first|(with_reducible assumption)|assumption)
             have q232:x8_2 < (((rd_T33 l0 x5_1).f0).length:Int):=of_decide_eq_true (by first|(with_reducible assumption)|assumption)
             obtain ⟨ad232,A232_1,c232_1,e232,hx232_0,hx232_1,hx232_2,hx232_3,hl232_1,hi232_1⟩:=at_T40 HR231_0.out x8_2 p232 q232
             cases e232
             replace hx232_0:=(HB.out.cell (World.block_lt_of_cell? w _ hx232_0)).trans hx232_0
             replace hx232_1:=(HB.out.cell (World.block_lt_of_cell? w _ hx232_1)).trans hx232_1
             replace hx232_2:=(HB.out.cell (World.block_lt_of_cell? w _ hx232_2)).trans hx232_2
             replace hx232_3:=(HB.out.cell (World.block_lt_of_cell? w _ hx232_3)).trans hx232_3
             have HR232_1:=Az.mk hi232_1
             have HC232_1:=Az.mk hl232_1
             clear hi232_1 hl232_1
             replace p232:=eq_true p232
             replace q232:=eq_true q232
             try go_wp2_with (first|((with_reducible refine gate_dst (N:=9) rfl ?_);(try (refine gate_guard (by rfl) ?_;dsimp only));refine box_event ?hg (N:=9) ?hd (cs:=#[.bool false,.slice none 0 0,.int .i64 0,.bool false]) (t:=40) ?hr ?_;(case hd=>rfl);(case hg=>rfl);(case hr=>first|(go_simp;done)|(go_simp;rfl));intro gb233 hg w21 hbox hb;have n0_:=Az.mk (Kd.R_below (Kd.R_elderB (by (with_reducible repeat (first|apply rA_|apply rN_|apply rD_));exact HO_4.out) gb233 (Nat.le_of_eq hg.symm)) hb);have n1_:=Az.mk (Kd.S_below (Kd.S_elderB (by (with_reducible repeat (first|apply Kd.S_alloc|apply Kd.S_drewN|apply Kd.S_drew));exact HO_221000.out) gb233 (Nat.le_of_eq hg.symm)) hb);have n2_:=Az.mk (Kd.R_below (by (with_reducible repeat (first|apply rA_|apply rN_|apply rD_));exact HO_222001.out) hb);have n3_:=Az.mk (bb_ (g:=gb220) (o:=.cells #[u221000,.bool false,.bool false] 33 (0,0)) (by (with_reducible repeat (first|refine bq_ ?_ _|refine bw_ ?_|refine bz_ ?_ _));exact BK220.out) hb);have n4_:=Az.mk (bb_ (g:=gb221) (o:=.cells #[.bool x222000_2,u222001] 38 (0,0)) (by (with_reducible repeat (first|refine bq_ ?_ _|refine bw_ ?_|refine bz_ ?_ _));exact BK221.out) hb);have n5_:=Az.mk (below_step (by repeat (first|(with_reducible first|exact HB.out|apply bA_|apply bN_|apply bD_|refine bs_ ?_ GE220.out|refine bs_ ?_ GE221.out)|exact HB.out)) hb);have n6_:=Az.mk (hbox);have n7_:=Az.mk ((by rw [hg];exact (be_ (by repeat (first|(with_reducible first|exact HB.out|apply bA_|apply bN_|apply bD_|refine bs_ ?_ GE220.out|refine bs_ ?_ GE221.out)|exact HB.out))):w.heap.size≤gb233));have n8_:=Az.mk ((by rw [hg];exact (be_ (by repeat (first|(with_reducible first|exact HB.out|apply bA_|apply bN_|apply bD_|refine bs_ ?_ GE220.out|refine bs_ ?_ GE221.out)|exact HB.out))):w.heap.size≤gb233));have n9_:=Az.mk ((by rw [hg];exact Nat.ne_of_lt (blk_lt (g:=gb220) (o:=.cells #[u221000,.bool false,.bool false] 33 (0,0)) (by (with_reducible repeat (first|refine bq_ ?_ _|refine bw_ ?_|refine bz_ ?_ _));exact BK220.out)):gb220≠gb233));have n10_:=Az.mk ((by rw [hg];exact Nat.ne_of_gt (blk_lt (g:=gb220) (o:=.cells #[u221000,.bool false,.bool false] 33 (0,0)) (by (with_reducible repeat (first|refine bq_ ?_ _|refine bw_ ?_|refine bz_ ?_ _));exact BK220.out)):gb233≠gb220));have n11_:=Az.mk ((by rw [hg];exact Nat.ne_of_lt (blk_lt (g:=gb221) (o:=.cells #[.bool x222000_2,u222001] 38 (0,0)) (by (with_reducible repeat (first|refine bq_ ?_ _|refine bw_ ?_|refine bz_ ?_ _));exact BK221.out)):gb221≠gb233));have n12_:=Az.mk ((by rw [hg];exact Nat.ne_of_gt (blk_lt (g:=gb221) (o:=.cells #[.bool x222000_2,u222001] 38 (0,0)) (by (with_reducible repeat (first|refine bq_ ?_ _|refine bw_ ?_|refine bz_ ?_ _));exact BK221.out)):gb233≠gb221));clear HO_4;clear HO_221000;clear HO_222001;clear BK220;clear BK221;clear HB;have HO_4:=n0_;have HO_221000:=n1_;have HO_222001:=n2_;have BK220:=n3_;have BK221:=n4_;have HB:=n5_;have BK233:=n6_;have GW233:=n7_;have GE233:=n8_;have NB220_233:=n9_;have NB233_220:=n10_;have NB221_233:=n11_;have NB233_221:=n12_;clear n0_ n1_ n2_ n3_ n4_ n5_ n6_ n7_ n8_ n9_ n10_ n11_ n12_;clear hb hbox hg;have hnb22:=NB233_220.out;have hnc22:=NB220_233.out;have hnb23:=NB233_221.out;have hnc23:=NB221_233.out;have hcz24_0:w21.cell? ⟨gb233,0,none⟩=some (.bool false):=(bc_ BK233.out 0).trans rfl;have hcz24_1:w21.cell? ⟨gb233,1,none⟩=some (.slice none 0 0):=(bc_ BK233.out 1).trans rfl;have hcz24_2:w21.cell? ⟨gb233,2,none⟩=some (.int .i64 0):=(bc_ BK233.out 2).trans rfl;have hcz24_3:w21.cell? ⟨gb233,3,none⟩=some (.bool false):=(bc_ BK233.out 3).trans rfl;have hfz24_0:=bf_ BK233.out 0;have hfz24_1:=bf_ BK233.out 1;have hfz24_2:=bf_ BK233.out 2;have hfz24_3:=bf_ BK233.out 3;obtain ⟨Ao25,co25,eo25⟩:=Kd.R_slice HO_222001.out;subst eo25))
             have n0_:Az (Kd.R k33 33 ((((w21.setCell ⟨gb233,0,none⟩ (.bool ((rd_T40 ((rd_T33 l0 x5_1).f0) x8_2).f0.f0))).setCell ⟨gb233,1,none⟩ (.slice A232_1 ((rd_T40 ((rd_T33 l0 x5_1).f0) x8_2).f0.f1).length c232_1)).setCell ⟨gb233,2,none⟩ (.int .i64 ((rd_T40 ((rd_T33 l0 x5_1).f0) x8_2).f1))).setCell ⟨gb233,3,none⟩ (.bool ((rd_T40 ((rd_T33 l0 x5_1).f0) x8_2).f2))) w.heap.size (fun k_=>some k_≠(u221000:Value).ownBlock∧some k_≠(.slice Ao25 x222001_2.length co25:Value).ownBlock∧k_≠gb220∧k_≠gb233) u4 x4_1):=⟨by (with_reducible repeat (first|apply rA_|apply rN_|apply rD_));exact Kd.R_mono (Kd.R_far (p:=⟨gb233,3,none⟩) (Kd.R_far (p:=⟨gb233,2,none⟩) (Kd.R_far (p:=⟨gb233,1,none⟩) (Kd.R_far (p:=⟨gb233,0,none⟩) (Kd.R_mono HO_4.out (fun k_ hk=>(⟨hk,hk.2⟩:_∧k_≠gb233))) (fun _ hk=>hk.2) (.bool ((rd_T40 ((rd_T33 l0 x5_1).f0) x8_2).f0.f0))) (fun _ hk=>hk.2) (.slice A232_1 ((rd_T40 ((rd_T33 l0 x5_1).f0) x8_2).f0.f1).length c232_1)) (fun _ hk=>hk.2) (.int .i64 ((rd_T40 ((rd_T33 l0 x5_1).f0) x8_2).f1))) (fun _ hk=>hk.2) (.bool ((rd_T40 ((rd_T33 l0 x5_1).f0) x8_2).f2))) (fun _ hk=>⟨hk.1.1.1,⟨hk.1.1.2.1,⟨hk.1.1.2.2,hk.1.2⟩⟩⟩)⟩
             have n1_:Az (Kd.S k40 40 ((((w21.setCell ⟨gb233,0,none⟩ (.bool ((rd_T40 ((rd_T33 l0 x5_1).f0) x8_2).f0.f0))).setCell ⟨gb233,1,none⟩ (.slice A232_1 ((rd_T40 ((rd_T33 l0 x5_1).f0) x8_2).f0.f1).length c232_1)).setCell ⟨gb233,2,none⟩ (.int .i64 ((rd_T40 ((rd_T33 l0 x5_1).f0) x8_2).f1))).setCell ⟨gb233,3,none⟩ (.bool ((rd_T40 ((rd_T33 l0 x5_1).f0) x8_2).f2))) w.heap.size (fun k_=>some k_≠(.slice Ao25 x222001_2.length co25:Value).ownBlock∧k_≠gb233) u221000 x221000_2):=⟨by (with_reducible repeat (first|apply Kd.S_alloc|apply Kd.S_drewN|apply Kd.S_drew));exact Kd.S_mono (Kd.S_far (p:=⟨gb233,3,none⟩) (Kd.S_far (p:=⟨gb233,2,none⟩) (Kd.S_far (p:=⟨gb233,1,none⟩) (Kd.S_far (p:=⟨gb233,0,none⟩) (Kd.S_mono HO_221000.out (fun k_ hk=>(⟨hk,hk.2⟩:_∧k_≠gb233))) (fun _ hk=>hk.2) (.bool ((rd_T40 ((rd_T33 l0 x5_1).f0) x8_2).f0.f0))) (fun _ hk=>hk.2) (.slice A232_1 ((rd_T40 ((rd_T33 l0 x5_1).f0) x8_2).f0.f1).length c232_1)) (fun _ hk=>hk.2) (.int .i64 ((rd_T40 ((rd_T33 l0 x5_1).f0) x8_2).f1))) (fun _ hk=>hk.2) (.bool ((rd_T40 ((rd_T33 l0 x5_1).f0) x8_2).f2))) (fun _ hk=>⟨hk.1.1,hk.1.2⟩)⟩
             have n2_:Az (Kd.R Kd.string 9 ((((w21.setCell ⟨gb233,0,none⟩ (.bool ((rd_T40 ((rd_T33 l0 x5_1).f0) x8_2).f0.f0))).setCell ⟨gb233,1,none⟩ (.slice A232_1 ((rd_T40 ((rd_T33 l0 x5_1).f0) x8_2).f0.f1).length c232_1)).setCell ⟨gb233,2,none⟩ (.int .i64 ((rd_T40 ((rd_T33 l0 x5_1).f0) x8_2).f1))).setCell ⟨gb233,3,none⟩ (.bool ((rd_T40 ((rd_T33 l0 x5_1).f0) x8_2).f2))) w.heap.size (fun _=>True) (.slice Ao25 x222001_2.length co25) x222001_2):=⟨by (with_reducible repeat (first|apply rA_|apply rN_|apply rD_));exact Kd.R_mono (Kd.R_far (p:=⟨gb233,3,none⟩) (Kd.R_far (p:=⟨gb233,2,none⟩) (Kd.R_far (p:=⟨gb233,1,none⟩) (Kd.R_far (p:=⟨gb233,0,none⟩) (Kd.R_types HO_222001.out BK233.out (by decide)) (fun _ hk=>hk.2) (.bool ((rd_T40 ((rd_T33 l0 x5_1).f0) x8_2).f0.f0))) (fun _ hk=>hk.2) (.slice A232_1 ((rd_T40 ((rd_T33 l0 x5_1).f0) x8_2).f0.f1).length c232_1)) (fun _ hk=>hk.2) (.int .i64 ((rd_T40 ((rd_T33 l0 x5_1).f0) x8_2).f1))) (fun _ hk=>hk.2) (.bool ((rd_T40 ((rd_T33 l0 x5_1).f0) x8_2).f2))) (fun _ hk=>trivial)⟩
             have n3_:Az (((((w21.setCell ⟨gb233,0,none⟩ (.bool ((rd_T40 ((rd_T33 l0 x5_1).f0) x8_2).f0.f0))).setCell ⟨gb233,1,none⟩ (.slice A232_1 ((rd_T40 ((rd_T33 l0 x5_1).f0) x8_2).f0.f1).length c232_1)).setCell ⟨gb233,2,none⟩ (.int .i64 ((rd_T40 ((rd_T33 l0 x5_1).f0) x8_2).f1))).setCell ⟨gb233,3,none⟩ (.bool ((rd_T40 ((rd_T33 l0 x5_1).f0) x8_2).f2))).heap[gb220]? = some (.cells #[u221000,.bool false,.bool false] 33 (0,0))):=⟨by (with_reducible repeat (first|refine bq_ ?_ _|refine bw_ ?_|refine bz_ ?_ _));refine blk_far ?_ NB220_233.out _;(with_reducible repeat (first|refine bq_ ?_ _|refine bw_ ?_|refine bz_ ?_ _));refine blk_far ?_ NB220_233.out _;(with_reducible repeat (first|refine bq_ ?_ _|refine bw_ ?_|refine bz_ ?_ _));refine blk_far ?_ NB220_233.out _;(with_reducible repeat (first|refine bq_ ?_ _|refine bw_ ?_|refine bz_ ?_ _));refine blk_far ?_ NB220_233.out _;(with_reducible repeat (first|refine bq_ ?_ _|refine bw_ ?_|refine bz_ ?_ _));exact BK220.out⟩
             have n4_:Az (((((w21.setCell ⟨gb233,0,none⟩ (.bool ((rd_T40 ((rd_T33 l0 x5_1).f0) x8_2).f0.f0))).setCell ⟨gb233,1,none⟩ (.slice A232_1 ((rd_T40 ((rd_T33 l0 x5_1).f0) x8_2).f0.f1).length c232_1)).setCell ⟨gb233,2,none⟩ (.int .i64 ((rd_T40 ((rd_T33 l0 x5_1).f0) x8_2).f1))).setCell ⟨gb233,3,none⟩ (.bool ((rd_T40 ((rd_T33 l0 x5_1).f0) x8_2).f2))).heap[gb221]? = some (.cells #[.bool x222000_2,.slice Ao25 x222001_2.length co25] 38 (0,0))):=⟨by (with_reducible repeat (first|refine bq_ ?_ _|refine bw_ ?_|refine bz_ ?_ _));refine blk_far ?_ NB221_233.out _;(with_reducible repeat (first|refine bq_ ?_ _|refine bw_ ?_|refine bz_ ?_ _));refine blk_far ?_ NB221_233.out _;(with_reducible repeat (first|refine bq_ ?_ _|refine bw_ ?_|refine bz_ ?_ _));refine blk_far ?_ NB221_233.out _;(with_reducible repeat (first|refine bq_ ?_ _|refine bw_ ?_|refine bz_ ?_ _));refine blk_far ?_ NB221_233.out _;(with_reducible repeat (first|refine bq_ ?_ _|refine bw_ ?_|refine bz_ ?_ _));exact BK221.out⟩
             have n5_:Az (((((w21.setCell ⟨gb233,0,none⟩ (.bool ((rd_T40 ((rd_T33 l0 x5_1).f0) x8_2).f0.f0))).setCell ⟨gb233,1,none⟩ (.slice A232_1 ((rd_T40 ((rd_T33 l0 x5_1).f0) x8_2).f0.f1).length c232_1)).setCell ⟨gb233,2,none⟩ (.int .i64 ((rd_T40 ((rd_T33 l0 x5_1).f0) x8_2).f1))).setCell ⟨gb233,3,none⟩ (.bool ((rd_T40 ((rd_T33 l0 x5_1).f0) x8_2).f2))).heap[gb233]? = some (.cells #[.bool ((rd_T40 ((rd_T33 l0 x5_1).f0) x8_2).f0.f0),.slice A232_1 ((rd_T40 ((rd_T33 l0 x5_1).f0) x8_2).f0.f1).length c232_1,.int .i64 ((rd_T40 ((rd_T33 l0 x5_1).f0) x8_2).f1),.bool ((rd_T40 ((rd_T33 l0 x5_1).f0) x8_2).f2)] 40 (0,0))):=⟨by (with_reducible repeat (first|refine bq_ ?_ _|refine bw_ ?_|refine bz_ ?_ _));refine blk_put (cs:=#[.bool ((rd_T40 ((rd_T33 l0 x5_1).f0) x8_2).f0.f0),.slice A232_1 ((rd_T40 ((rd_T33 l0 x5_1).f0) x8_2).f0.f1).length c232_1,.int .i64 ((rd_T40 ((rd_T33 l0 x5_1).f0) x8_2).f1),.bool false]) ?_ 3 _ rfl;(with_reducible repeat (first|refine bq_ ?_ _|refine bw_ ?_|refine bz_ ?_ _));refine blk_put (cs:=#[.bool ((rd_T40 ((rd_T33 l0 x5_1).f0) x8_2).f0.f0),.slice A232_1 ((rd_T40 ((rd_T33 l0 x5_1).f0) x8_2).f0.f1).length c232_1,.int .i64 0,.bool false]) ?_ 2 _ rfl;(with_reducible repeat (first|refine bq_ ?_ _|refine bw_ ?_|refine bz_ ?_ _));refine blk_put (cs:=#[.bool ((rd_T40 ((rd_T33 l0 x5_1).f0) x8_2).f0.f0),.slice none 0 0,.int .i64 0,.bool false]) ?_ 1 _ rfl;(with_reducible repeat (first|refine bq_ ?_ _|refine bw_ ?_|refine bz_ ?_ _));refine blk_put (cs:=#[.bool false,.slice none 0 0,.int .i64 0,.bool false]) ?_ 0 _ rfl;(with_reducible repeat (first|refine bq_ ?_ _|refine bw_ ?_|refine bz_ ?_ _));exact BK233.out⟩
             have n6_:Az (Below w.heap.size w ((((w21.setCell ⟨gb233,0,none⟩ (.bool ((rd_T40 ((rd_T33 l0 x5_1).f0) x8_2).f0.f0))).setCell ⟨gb233,1,none⟩ (.slice A232_1 ((rd_T40 ((rd_T33 l0 x5_1).f0) x8_2).f0.f1).length c232_1)).setCell ⟨gb233,2,none⟩ (.int .i64 ((rd_T40 ((rd_T33 l0 x5_1).f0) x8_2).f1))).setCell ⟨gb233,3,none⟩ (.bool ((rd_T40 ((rd_T33 l0 x5_1).f0) x8_2).f2)))):=⟨by repeat (first|(with_reducible first|exact HB.out|apply bA_|apply bN_|apply bD_|refine bs_ ?_ GE220.out|refine bs_ ?_ GE221.out|refine bs_ ?_ GE233.out)|exact HB.out)⟩
             (try clear HO_4)
             (try clear HO_221000)
             (try clear HO_222001)
             (try clear BK220)
             (try clear BK221)
             (try clear BK233)
             (try clear HB)
             generalize ((((w21.setCell ⟨gb233,0,none⟩ (.bool ((rd_T40 ((rd_T33 l0 x5_1).f0) x8_2).f0.f0))).setCell ⟨gb233,1,none⟩ (.slice A232_1 ((rd_T40 ((rd_T33 l0 x5_1).f0) x8_2).f0.f1).length c232_1)).setCell ⟨gb233,2,none⟩ (.int .i64 ((rd_T40 ((rd_T33 l0 x5_1).f0) x8_2).f1))).setCell ⟨gb233,3,none⟩ (.bool ((rd_T40 ((rd_T33 l0 x5_1).f0) x8_2).f2)))=w26 at n0_ n1_ n2_ n3_ n4_ n5_ n6_ ⊢
             have HO_4:=n0_
             have HO_221000:=n1_
             have HO_222001:=n2_
             have BK220:=n3_
             have BK221:=n4_
             have BK233:=n5_
             have HB:=n6_
             clear n0_ n1_ n2_ n3_ n4_ n5_ n6_
             have n0_:=Az.mk (rD_ HO_4.out)
             have n1_:=Az.mk (Kd.S_drew HO_221000.out)
             have n2_:=Az.mk (rD_ HO_222001.out)
             have n3_:=Az.mk (bw_ BK220.out)
             have n4_:=Az.mk (bw_ BK221.out)
             have n5_:=Az.mk (bw_ BK233.out)
             have n6_:=Az.mk (bD_ HB.out)
             clear HO_4
             clear HO_221000
             clear HO_222001
             clear BK220
             clear BK221
             clear BK233
             clear HB
             have HO_4:=n0_
             have HO_221000:=n1_
             have HO_222001:=n2_
             have BK220:=n3_
             have BK221:=n4_
             have BK233:=n5_
             have HB:=n6_
             clear n0_ n1_ n2_ n3_ n4_ n5_ n6_
             refine start_ (n:=7) (S:=fun w'=>w'.cell? ⟨gb233,0,none⟩=some (.bool ((rd_T40 ((rd_T33 l0 x5_1).f0) x8_2).f0.f0))∧w'.cell? ⟨gb233,1,none⟩=some (.slice A232_1 ((rd_T40 ((rd_T33 l0 x5_1).f0) x8_2).f0.f1).length c232_1)∧w'.cell? ⟨gb233,2,none⟩=some (.int .i64 ((rd_T40 ((rd_T33 l0 x5_1).f0) x8_2).f1))∧w'.cell? ⟨gb233,3,none⟩=some (.bool ((rd_T40 ((rd_T33 l0 x5_1).f0) x8_2).f2))∧w'.cell? ⟨gb221,0,none⟩=some (.bool x222000_2)∧w'.cell? ⟨gb221,1,none⟩=some (.slice Ao25 x222001_2.length co25)) (ds:=[]) #[false,false,false,false,false,false,false] (by kernel_rfl) rfl rfl ⟨(bc_ BK233.out 0).trans rfl,(bc_ BK233.out 1).trans rfl,(bc_ BK233.out 2).trans rfl,(bc_ BK233.out 3).trans rfl,(bc_ BK221.out 0).trans rfl,(bc_ BK221.out 1).trans rfl⟩ (fun hHeld=>?_)
             generalize w26.drew=w27 at HO_4 HO_221000 HO_222001 BK220 BK221 BK233 HB hHeld ⊢
             refine pure_ (i:=0) (N:=some 49) (v:=?_) (a':=?_) #[true,false,false,false,false,false,false] rfl rfl (by kernel_rfl) (fun _ _ _ h=>h) (Or.inl ⟨by rfl,?_⟩) ?_ ?_
             rotate_left
             ·intro w'
              go_simp
              with_reducible rfl
             rotate_left
             ·simp only [Act.put,sA_,sB_,sC_,i64_w,i32_w]
              rfl
             refine take_ (i:=1) (N:=some 50) (v:=?_) (a':=?_) #[true,true,false,false,false,false,false] rfl rfl (by kernel_rfl) (fun _ _ _ h=>h) (Or.inl ⟨by rfl,?_⟩) hHeld ?_ ?_
             rotate_left
             ·rintro w' ⟨s0,s1,s2,s3,s4,s5⟩
              go_simp
              with_reducible rfl
             rotate_left
             ·simp only [Act.put,sA_,sB_,sC_,i64_w,i32_w]
              rfl
             refine take_ (i:=3) (N:=some 52) (v:=?_) (a':=?_) #[true,true,false,true,false,false,false] rfl rfl (by kernel_rfl) (fun _ _ _ h=>h) (Or.inl ⟨by rfl,?_⟩) hHeld ?_ ?_
             rotate_left
             ·rintro w' ⟨s0,s1,s2,s3,s4,s5⟩
              go_simp
              with_reducible rfl
             rotate_left
             ·simp only [Act.put,sA_,sB_,sC_,i64_w,i32_w]
              rfl
             refine join_ (σ:=Value × Value × Nat) 1 #[true,true,true,true,true,true,false] (fun s_=>[(51,.agg #[.bool t234,s_.1]),(53,.agg #[.bool t238,s_.2.1]),(10,.pointer (some ⟨s_.2.2,0,none⟩))]) (fun s_ w'=>(w'.cell? ⟨gb233,0,none⟩=some (.bool ((rd_T40 ((rd_T33 l0 x5_1).f0) x8_2).f0.f0))∧w'.cell? ⟨gb233,1,none⟩=some (.slice A232_1 ((rd_T40 ((rd_T33 l0 x5_1).f0) x8_2).f0.f1).length c232_1)∧w'.cell? ⟨gb233,2,none⟩=some (.int .i64 ((rd_T40 ((rd_T33 l0 x5_1).f0) x8_2).f1))∧w'.cell? ⟨gb233,3,none⟩=some (.bool ((rd_T40 ((rd_T33 l0 x5_1).f0) x8_2).f2))∧w'.cell? ⟨gb221,0,none⟩=some (.bool x222000_2)∧w'.cell? ⟨gb221,1,none⟩=some (.slice Ao25 x222001_2.length co25))∧(Kd.R Kd.string 9 w' w.heap.size (fun k_=>some k_≠(s_.2.1:Value).ownBlock∧some k_≠(.slice Ao25 x222001_2.length co25:Value).ownBlock) s_.1 t235)∧(Kd.R Kd.string 9 w' w.heap.size (fun k_=>some k_≠(s_.1:Value).ownBlock∧some k_≠(.slice Ao25 x222001_2.length co25:Value).ownBlock) s_.2.1 t239)∧(Kd.S k40 40 w' w.heap.size (fun k_=>some k_≠(s_.1:Value).ownBlock∧some k_≠(s_.2.1:Value).ownBlock∧some k_≠(.slice Ao25 x222001_2.length co25:Value).ownBlock∧k_≠gb233) u221000 x221000_2)∧(Kd.R Kd.string 9 w' w.heap.size (fun k_=>some k_≠(s_.1:Value).ownBlock∧some k_≠(s_.2.1:Value).ownBlock) (.slice Ao25 x222001_2.length co25) x222001_2)∧(Kd.R k33 33 w' w.heap.size (fun k_=>some k_≠(s_.1:Value).ownBlock∧some k_≠(s_.2.1:Value).ownBlock∧some k_≠(u221000:Value).ownBlock∧some k_≠(.slice Ao25 x222001_2.length co25:Value).ownBlock∧k_≠gb220∧k_≠gb233) u4 x4_1)∧(w'.heap[gb220]? = some (.cells #[u221000,.bool false,.bool false] 33 (0,0)))∧(w'.heap[gb221]? = some (.cells #[.bool x222000_2,.slice Ao25 x222001_2.length co25] 38 (0,0)))∧(w'.heap[gb233]? = some (.cells #[.bool ((rd_T40 ((rd_T33 l0 x5_1).f0) x8_2).f0.f0),.slice A232_1 ((rd_T40 ((rd_T33 l0 x5_1).f0) x8_2).f0.f1).length c232_1,.int .i64 ((rd_T40 ((rd_T33 l0 x5_1).f0) x8_2).f1),.bool ((rd_T40 ((rd_T33 l0 x5_1).f0) x8_2).f2)] 40 (0,0)))∧(w'.heap[s_.2.2]? = some (.cells #[.bool false,.slice none 0 0] 38 (0,0)))∧(w.heap.size≤s_.2.2)∧(w.heap.size≤s_.2.2)∧(gb220≠s_.2.2)∧(s_.2.2≠gb220)∧(gb221≠s_.2.2)∧(s_.2.2≠gb221)∧(gb233≠s_.2.2)∧(s_.2.2≠gb233)∧(Below w.heap.size w w')) ?_ ?_
             rotate_left
             ·intro hCont
              refine two_ (i:=2) (j:=5) (Ni:=some 51) (Nj:=some 10) #[true,true,true,true,false,false,false] #[true,true,false,true,false,true,false] rfl rfl rfl rfl (by kernel_rfl) (by decide) (by decide) (fun K hK=>?_) (fun K hK=>?_)
              ·skip
               refine goes_ Try.func25 (by kernel_rfl) rfl #[.agg #[.bool ((rd_T40 ((rd_T33 l0 x5_1).f0) x8_2).f0.f0),.slice A232_1 ((rd_T40 ((rd_T33 l0 x5_1).f0) x8_2).f0.f1).length c232_1]] (by rfl) rfl rfl (by (try simp only [List.map_toArray,List.map_cons,List.map_nil]);first|done|rfl|(simp only [List.length_drop,List.length_take];rfl)) ?_
               with_reducible refine (cadencelaw3_Make.calls kj8 ((rd_T40 ((rd_T33 l0 x5_1).f0) x8_2).f0.f0) _ _ ((rd_T40 ((rd_T33 l0 x5_1).f0) x8_2).f0.f1) t234 t235 _ ?side1 ?side2 A18.out).mono ?_
               (case side1=>repeat (first|exact (Kd.C_below HR232_1.out HB.out)|(with_reducible refine cA_ ?_ _)|(with_reducible refine cN_ ?_ _)|(with_reducible refine cD_ ?_)))
               (case side2=>exact HC232_1.out)
               rintro e w28 ⟨v236,rfl,ho0,hb⟩
               refine ⟨_,rfl,?_⟩
               have n0_:=Az.mk (Kd.R_elder' (by (with_reducible repeat (first|apply rA_|apply rN_|apply rD_));exact HO_4.out) (Kd.R_base ho0) hb)
               have n1_:=Az.mk (Kd.S_elder' (by (with_reducible repeat (first|apply Kd.S_alloc|apply Kd.S_drewN|apply Kd.S_drew));exact HO_221000.out) (Kd.R_base ho0) hb)
               have n2_:=Az.mk (Kd.R_elder' (by (with_reducible repeat (first|apply rA_|apply rN_|apply rD_));exact HO_222001.out) (Kd.R_base ho0) hb)
               have n3_:=Az.mk (Kd.R_lower (Kd.R_new' ho0 (Kd.R_lt (by (with_reducible repeat (first|apply rA_|apply rN_|apply rD_));exact HO_222001.out))) (be_ (by repeat (first|(with_reducible first|exact HB.out|apply bA_|apply bN_|apply bD_|refine bs_ ?_ GE220.out|refine bs_ ?_ GE221.out|refine bs_ ?_ GE233.out)|exact HB.out))))
               have n4_:=Az.mk (bb_ (g:=gb220) (o:=.cells #[u221000,.bool false,.bool false] 33 (0,0)) (by (with_reducible repeat (first|refine bq_ ?_ _|refine bw_ ?_|refine bz_ ?_ _));exact BK220.out) hb)
               have n5_:=Az.mk (bb_ (g:=gb221) (o:=.cells #[.bool x222000_2,.slice Ao25 x222001_2.length co25] 38 (0,0)) (by (with_reducible repeat (first|refine bq_ ?_ _|refine bw_ ?_|refine bz_ ?_ _));exact BK221.out) hb)
               have n6_:=Az.mk (bb_ (g:=gb233) (o:=.cells #[.bool ((rd_T40 ((rd_T33 l0 x5_1).f0) x8_2).f0.f0),.slice A232_1 ((rd_T40 ((rd_T33 l0 x5_1).f0) x8_2).f0.f1).length c232_1,.int .i64 ((rd_T40 ((rd_T33 l0 x5_1).f0) x8_2).f1),.bool ((rd_T40 ((rd_T33 l0 x5_1).f0) x8_2).f2)] 40 (0,0)) (by (with_reducible repeat (first|refine bq_ ?_ _|refine bw_ ?_|refine bz_ ?_ _));exact BK233.out) hb)
               have n7_:=Az.mk (below_step (by repeat (first|(with_reducible first|exact HB.out|apply bA_|apply bN_|apply bD_|refine bs_ ?_ GE220.out|refine bs_ ?_ GE221.out|refine bs_ ?_ GE233.out)|exact HB.out)) hb)
               clear HO_4
               clear HO_221000
               clear HO_222001
               clear BK220
               clear BK221
               clear BK233
               clear HB
               have HO_4:=n0_
               have HO_221000:=n1_
               have HO_222001:=n2_
               have HO237:=n3_
               have BK220:=n4_
               have BK221:=n5_
               have BK233:=n6_
               have HB:=n7_
               clear n0_ n1_ n2_ n3_ n4_ n5_ n6_ n7_
               (try clear hb)
               (try clear hb2)
               (try clear hk)
               (try clear hi)
               (try clear ho0)
               obtain ⟨Ao29,co29,eo29⟩:=Kd.R_slice HO237.out
               (first|subst eo29|(injection eo29 with f1_ f2_ f3_;have f4_:=f1_.symm;have f5_:=f3_.symm;clear f1_ f2_ f3_;subst f4_;subst f5_))
               refine hK.out _ _ ⟨(bc_ BK233.out 0).trans rfl,(bc_ BK233.out 1).trans rfl,(bc_ BK233.out 2).trans rfl,(bc_ BK233.out 3).trans rfl,(bc_ BK221.out 0).trans rfl,(bc_ BK221.out 1).trans rfl⟩ (fun hHeld=>?_)
               clear hK K
               refine norm_ (a':=?_) ?_ ?_
               rotate_left
               ·show Act.put _ (some 51) _=_
                simp only [Act.put,sA_,sB_,sC_,i64_w,i32_w]
                rfl
               refine two_ (i:=4) (j:=5) (Ni:=some 53) (Nj:=some 10) #[true,true,true,true,true,false,false] #[true,true,true,true,false,true,false] rfl rfl rfl rfl (by kernel_rfl) (by decide) (by decide) (fun K hK=>?_) (fun K hK=>?_)
               ·skip
                refine goes_ Try.func24 (by kernel_rfl) rfl #[.agg #[.bool t234,.slice Ao29 t235.length co29],.agg #[.bool x222000_2,.slice Ao25 x222001_2.length co25]] (by rfl) rfl rfl (by (try simp only [List.map_toArray,List.map_cons,List.map_nil]);first|done|rfl|(simp only [List.length_drop,List.length_take];rfl)) ?_
                with_reducible refine (cadenceref3_Both.calls kj8 t234 _ _ t235 x222000_2 _ _ x222001_2 t238 t239 _ ?side1 ?side2 ?side3 ?side4 A19.out).mono ?_
                (case side1=>repeat (first|exact (Kd.R_reads' HO237.out).2.2|(with_reducible refine cA_ ?_ _)|(with_reducible refine cN_ ?_ _)|(with_reducible refine cD_ ?_)))
                (case side2=>exact (Kd.R_reads' HO237.out).2.1)
                (case side3=>repeat (first|exact (Kd.R_reads' HO_222001.out).2.2|(with_reducible refine cA_ ?_ _)|(with_reducible refine cN_ ?_ _)|(with_reducible refine cD_ ?_)))
                (case side4=>exact (Kd.R_reads' HO_222001.out).2.1)
                rintro e w30 ⟨v240,rfl,ho0,hb⟩
                refine ⟨_,rfl,?_⟩
                have n0_:=Az.mk (Kd.R_elder' (by (with_reducible repeat (first|apply rA_|apply rN_|apply rD_));exact HO_4.out) (Kd.R_base ho0) hb)
                have n1_:=Az.mk (Kd.S_elder' (by (with_reducible repeat (first|apply Kd.S_alloc|apply Kd.S_drewN|apply Kd.S_drew));exact HO_221000.out) (Kd.R_base ho0) hb)
                have n2_:=Az.mk (Kd.R_elder' (by (with_reducible repeat (first|apply rA_|apply rN_|apply rD_));exact HO_222001.out) (Kd.R_base ho0) hb)
                have n3_:=Az.mk (Kd.R_elder' (by (with_reducible repeat (first|apply rA_|apply rN_|apply rD_));exact HO237.out) (Kd.R_base ho0) hb)
                have n4_:=Az.mk (Kd.R_lower (Kd.R_new' (Kd.R_new' ho0 (Kd.R_lt (by (with_reducible repeat (first|apply rA_|apply rN_|apply rD_));exact HO_222001.out))) (Kd.R_lt (by (with_reducible repeat (first|apply rA_|apply rN_|apply rD_));exact HO237.out))) (be_ (by repeat (first|(with_reducible first|exact HB.out|apply bA_|apply bN_|apply bD_|refine bs_ ?_ GE220.out|refine bs_ ?_ GE221.out|refine bs_ ?_ GE233.out)|exact HB.out))))
                have n5_:=Az.mk (bb_ (g:=gb220) (o:=.cells #[u221000,.bool false,.bool false] 33 (0,0)) (by (with_reducible repeat (first|refine bq_ ?_ _|refine bw_ ?_|refine bz_ ?_ _));exact BK220.out) hb)
                have n6_:=Az.mk (bb_ (g:=gb221) (o:=.cells #[.bool x222000_2,.slice Ao25 x222001_2.length co25] 38 (0,0)) (by (with_reducible repeat (first|refine bq_ ?_ _|refine bw_ ?_|refine bz_ ?_ _));exact BK221.out) hb)
                have n7_:=Az.mk (bb_ (g:=gb233) (o:=.cells #[.bool ((rd_T40 ((rd_T33 l0 x5_1).f0) x8_2).f0.f0),.slice A232_1 ((rd_T40 ((rd_T33 l0 x5_1).f0) x8_2).f0.f1).length c232_1,.int .i64 ((rd_T40 ((rd_T33 l0 x5_1).f0) x8_2).f1),.bool ((rd_T40 ((rd_T33 l0 x5_1).f0) x8_2).f2)] 40 (0,0)) (by (with_reducible repeat (first|refine bq_ ?_ _|refine bw_ ?_|refine bz_ ?_ _));exact BK233.out) hb)
                have n8_:=Az.mk (below_step (by repeat (first|(with_reducible first|exact HB.out|apply bA_|apply bN_|apply bD_|refine bs_ ?_ GE220.out|refine bs_ ?_ GE221.out|refine bs_ ?_ GE233.out)|exact HB.out)) hb)
                clear HO_4
                clear HO_221000
                clear HO_222001
                clear HO237
                clear BK220
                clear BK221
                clear BK233
                clear HB
                have HO_4:=n0_
                have HO_221000:=n1_
                have HO_222001:=n2_
                have HO237:=n3_
                have HO241:=n4_
                have BK220:=n5_
                have BK221:=n6_
                have BK233:=n7_
                have HB:=n8_
                clear n0_ n1_ n2_ n3_ n4_ n5_ n6_ n7_ n8_
                (try clear hb)
                (try clear hb2)
                (try clear hk)
                (try clear hi)
                (try clear ho0)
                refine hK.out _ _ ⟨(bc_ BK233.out 0).trans rfl,(bc_ BK233.out 1).trans rfl,(bc_ BK233.out 2).trans rfl,(bc_ BK233.out 3).trans rfl,(bc_ BK221.out 0).trans rfl,(bc_ BK221.out 1).trans rfl⟩ (fun hHeld=>?_)
                clear hK K
                refine norm_ (a':=?_) ?_ ?_
                rotate_left
                ·show Act.put _ (some 53) _=_
                 simp only [Act.put,sA_,sB_,sC_,i64_w,i32_w]
                 rfl
                refine one_ (i:=5) (N:=some 10) #[true,true,true,true,true,true,false] rfl rfl (by kernel_rfl) (by decide) (fun K hK=>?_)
                refine box_step ?hg (N:=10) ?hd (cs:=#[.bool false,.slice none 0 0]) (t:=38) ?hr ?_;(case hd=>rfl);(case hg=>rfl);(case hr=>first|(go_simp;done)|(go_simp;rfl))
                intro gb242 hg w31 hbox hb
                have n0_:=Az.mk (Kd.R_below (by (with_reducible repeat (first|apply rA_|apply rN_|apply rD_));exact HO_4.out) hb)
                have n1_:=Az.mk (Kd.S_below (by (with_reducible repeat (first|apply Kd.S_alloc|apply Kd.S_drewN|apply Kd.S_drew));exact HO_221000.out) hb)
                have n2_:=Az.mk (Kd.R_below (by (with_reducible repeat (first|apply rA_|apply rN_|apply rD_));exact HO_222001.out) hb)
                have n3_:=Az.mk (Kd.R_below (by (with_reducible repeat (first|apply rA_|apply rN_|apply rD_));exact HO237.out) hb)
                have n4_:=Az.mk (Kd.R_below (by (with_reducible repeat (first|apply rA_|apply rN_|apply rD_));exact HO241.out) hb)
                have n5_:=Az.mk (bb_ (g:=gb220) (o:=.cells #[u221000,.bool false,.bool false] 33 (0,0)) (by (with_reducible repeat (first|refine bq_ ?_ _|refine bw_ ?_|refine bz_ ?_ _));exact BK220.out) hb)
                have n6_:=Az.mk (bb_ (g:=gb221) (o:=.cells #[.bool x222000_2,.slice Ao25 x222001_2.length co25] 38 (0,0)) (by (with_reducible repeat (first|refine bq_ ?_ _|refine bw_ ?_|refine bz_ ?_ _));exact BK221.out) hb)
                have n7_:=Az.mk (bb_ (g:=gb233) (o:=.cells #[.bool ((rd_T40 ((rd_T33 l0 x5_1).f0) x8_2).f0.f0),.slice A232_1 ((rd_T40 ((rd_T33 l0 x5_1).f0) x8_2).f0.f1).length c232_1,.int .i64 ((rd_T40 ((rd_T33 l0 x5_1).f0) x8_2).f1),.bool ((rd_T40 ((rd_T33 l0 x5_1).f0) x8_2).f2)] 40 (0,0)) (by (with_reducible repeat (first|refine bq_ ?_ _|refine bw_ ?_|refine bz_ ?_ _));exact BK233.out) hb)
                have n8_:=Az.mk (below_step (by repeat (first|(with_reducible first|exact HB.out|apply bA_|apply bN_|apply bD_|refine bs_ ?_ GE220.out|refine bs_ ?_ GE221.out|refine bs_ ?_ GE233.out)|exact HB.out)) hb)
                have n9_:=Az.mk (hbox)
                have n10_:=Az.mk ((by rw [hg];exact (be_ (by repeat (first|(with_reducible first|exact HB.out|apply bA_|apply bN_|apply bD_|refine bs_ ?_ GE220.out|refine bs_ ?_ GE221.out|refine bs_ ?_ GE233.out)|exact HB.out))):w.heap.size≤gb242))
                have n11_:=Az.mk ((by rw [hg];exact (be_ (by repeat (first|(with_reducible first|exact HB.out|apply bA_|apply bN_|apply bD_|refine bs_ ?_ GE220.out|refine bs_ ?_ GE221.out|refine bs_ ?_ GE233.out)|exact HB.out))):w.heap.size≤gb242))
                have n12_:=Az.mk ((by rw [hg];exact Nat.ne_of_lt (blk_lt (g:=gb220) (o:=.cells #[u221000,.bool false,.bool false] 33 (0,0)) (by (with_reducible repeat (first|refine bq_ ?_ _|refine bw_ ?_|refine bz_ ?_ _));exact BK220.out)):gb220≠gb242))
                have n13_:=Az.mk ((by rw [hg];exact Nat.ne_of_gt (blk_lt (g:=gb220) (o:=.cells #[u221000,.bool false,.bool false] 33 (0,0)) (by (with_reducible repeat (first|refine bq_ ?_ _|refine bw_ ?_|refine bz_ ?_ _));exact BK220.out)):gb242≠gb220))
                have n14_:=Az.mk ((by rw [hg];exact Nat.ne_of_lt (blk_lt (g:=gb221) (o:=.cells #[.bool x222000_2,.slice Ao25 x222001_2.length co25] 38 (0,0)) (by (with_reducible repeat (first|refine bq_ ?_ _|refine bw_ ?_|refine bz_ ?_ _));exact BK221.out)):gb221≠gb242))
                have n15_:=Az.mk ((by rw [hg];exact Nat.ne_of_gt (blk_lt (g:=gb221) (o:=.cells #[.bool x222000_2,.slice Ao25 x222001_2.length co25] 38 (0,0)) (by (with_reducible repeat (first|refine bq_ ?_ _|refine bw_ ?_|refine bz_ ?_ _));exact BK221.out)):gb242≠gb221))
                have n16_:=Az.mk ((by rw [hg];exact Nat.ne_of_lt (blk_lt (g:=gb233) (o:=.cells #[.bool ((rd_T40 ((rd_T33 l0 x5_1).f0) x8_2).f0.f0),.slice A232_1 ((rd_T40 ((rd_T33 l0 x5_1).f0) x8_2).f0.f1).length c232_1,.int .i64 ((rd_T40 ((rd_T33 l0 x5_1).f0) x8_2).f1),.bool ((rd_T40 ((rd_T33 l0 x5_1).f0) x8_2).f2)] 40 (0,0)) (by (with_reducible repeat (first|refine bq_ ?_ _|refine bw_ ?_|refine bz_ ?_ _));exact BK233.out)):gb233≠gb242))
                have n17_:=Az.mk ((by rw [hg];exact Nat.ne_of_gt (blk_lt (g:=gb233) (o:=.cells #[.bool ((rd_T40 ((rd_T33 l0 x5_1).f0) x8_2).f0.f0),.slice A232_1 ((rd_T40 ((rd_T33 l0 x5_1).f0) x8_2).f0.f1).length c232_1,.int .i64 ((rd_T40 ((rd_T33 l0 x5_1).f0) x8_2).f1),.bool ((rd_T40 ((rd_T33 l0 x5_1).f0) x8_2).f2)] 40 (0,0)) (by (with_reducible repeat (first|refine bq_ ?_ _|refine bw_ ?_|refine bz_ ?_ _));exact BK233.out)):gb242≠gb233))
                clear HO_4
                clear HO_221000
                clear HO_222001
                clear HO237
                clear HO241
                clear BK220
                clear BK221
                clear BK233
                clear HB
                have HO_4:=n0_
                have HO_221000:=n1_
                have HO_222001:=n2_
                have HO237:=n3_
                have HO241:=n4_
                have BK220:=n5_
                have BK221:=n6_
                have BK233:=n7_
                have HB:=n8_
                have BK242:=n9_
                have GW242:=n10_
                have GE242:=n11_
                have NB220_242:=n12_
                have NB242_220:=n13_
                have NB221_242:=n14_
                have NB242_221:=n15_
                have NB233_242:=n16_
                have NB242_233:=n17_
                clear n0_ n1_ n2_ n3_ n4_ n5_ n6_ n7_ n8_ n9_ n10_ n11_ n12_ n13_ n14_ n15_ n16_ n17_
                clear hb hbox hg
                refine hK.out _ _ ⟨(bc_ BK233.out 0).trans rfl,(bc_ BK233.out 1).trans rfl,(bc_ BK233.out 2).trans rfl,(bc_ BK233.out 3).trans rfl,(bc_ BK221.out 0).trans rfl,(bc_ BK221.out 1).trans rfl⟩ (fun hHeld=>?_)
                clear hK K
                refine norm_ (a':=?_) ?_ ?_
                rotate_left
                ·show Act.put _ (some 10) _=_
                 simp only [Act.put,sA_,sB_,sC_,i64_w,i32_w]
                 rfl
                exact norm_ (by simp only [putAll,Act.put,sA_,sB_,sC_]) (hCont (.slice Ao29 t235.length co29,v240,gb242) _ ⟨hHeld,(by (with_reducible repeat (first|apply rA_|apply rN_|apply rD_));exact Kd.R_mono HO237.out (fun _ hk=>⟨hk.2,hk.1.2⟩)),(by (with_reducible repeat (first|apply rA_|apply rN_|apply rD_));exact Kd.R_mono HO241.out (fun _ hk=>⟨hk.2,hk.1.2⟩)),(by (with_reducible repeat (first|apply Kd.S_alloc|apply Kd.S_drewN|apply Kd.S_drew));exact Kd.S_mono HO_221000.out (fun _ hk=>⟨hk.1.2,⟨hk.2,⟨hk.1.1.1,hk.1.1.2⟩⟩⟩)),(by (with_reducible repeat (first|apply rA_|apply rN_|apply rD_));exact Kd.R_mono HO_222001.out (fun _ hk=>⟨hk.1.2,hk.2⟩)),(by (with_reducible repeat (first|apply rA_|apply rN_|apply rD_));exact Kd.R_mono HO_4.out (fun _ hk=>⟨hk.1.2,⟨hk.2,⟨hk.1.1.1,⟨hk.1.1.2.1,⟨hk.1.1.2.2.1,hk.1.1.2.2.2⟩⟩⟩⟩⟩)),(by (with_reducible repeat (first|refine bq_ ?_ _|refine bw_ ?_|refine bz_ ?_ _));exact BK220.out),(by (with_reducible repeat (first|refine bq_ ?_ _|refine bw_ ?_|refine bz_ ?_ _));exact BK221.out),(by (with_reducible repeat (first|refine bq_ ?_ _|refine bw_ ?_|refine bz_ ?_ _));exact BK233.out),(by (with_reducible repeat (first|refine bq_ ?_ _|refine bw_ ?_|refine bz_ ?_ _));exact BK242.out),GW242.out,GE242.out,NB220_242.out,NB242_220.out,NB221_242.out,NB242_221.out,NB233_242.out,NB242_233.out,(by repeat (first|(with_reducible first|exact HB.out|apply bA_|apply bN_|apply bD_|refine bs_ ?_ GE220.out|refine bs_ ?_ GE221.out|refine bs_ ?_ GE233.out|refine bs_ ?_ GE242.out)|exact HB.out))⟩)
               ·skip
                refine box_step ?hg (N:=10) ?hd (cs:=#[.bool false,.slice none 0 0]) (t:=38) ?hr ?_;(case hd=>rfl);(case hg=>rfl);(case hr=>first|(go_simp;done)|(go_simp;rfl))
                intro gb242 hg w29 hbox hb
                have n0_:=Az.mk (Kd.R_below (by (with_reducible repeat (first|apply rA_|apply rN_|apply rD_));exact HO_4.out) hb)
                have n1_:=Az.mk (Kd.S_below (by (with_reducible repeat (first|apply Kd.S_alloc|apply Kd.S_drewN|apply Kd.S_drew));exact HO_221000.out) hb)
                have n2_:=Az.mk (Kd.R_below (by (with_reducible repeat (first|apply rA_|apply rN_|apply rD_));exact HO_222001.out) hb)
                have n3_:=Az.mk (Kd.R_below (by (with_reducible repeat (first|apply rA_|apply rN_|apply rD_));exact HO237.out) hb)
                have n4_:=Az.mk (bb_ (g:=gb220) (o:=.cells #[u221000,.bool false,.bool false] 33 (0,0)) (by (with_reducible repeat (first|refine bq_ ?_ _|refine bw_ ?_|refine bz_ ?_ _));exact BK220.out) hb)
                have n5_:=Az.mk (bb_ (g:=gb221) (o:=.cells #[.bool x222000_2,.slice Ao25 x222001_2.length co25] 38 (0,0)) (by (with_reducible repeat (first|refine bq_ ?_ _|refine bw_ ?_|refine bz_ ?_ _));exact BK221.out) hb)
                have n6_:=Az.mk (bb_ (g:=gb233) (o:=.cells #[.bool ((rd_T40 ((rd_T33 l0 x5_1).f0) x8_2).f0.f0),.slice A232_1 ((rd_T40 ((rd_T33 l0 x5_1).f0) x8_2).f0.f1).length c232_1,.int .i64 ((rd_T40 ((rd_T33 l0 x5_1).f0) x8_2).f1),.bool ((rd_T40 ((rd_T33 l0 x5_1).f0) x8_2).f2)] 40 (0,0)) (by (with_reducible repeat (first|refine bq_ ?_ _|refine bw_ ?_|refine bz_ ?_ _));exact BK233.out) hb)
                have n7_:=Az.mk (below_step (by repeat (first|(with_reducible first|exact HB.out|apply bA_|apply bN_|apply bD_|refine bs_ ?_ GE220.out|refine bs_ ?_ GE221.out|refine bs_ ?_ GE233.out)|exact HB.out)) hb)
                have n8_:=Az.mk (hbox)
                have n9_:=Az.mk ((by rw [hg];exact (be_ (by repeat (first|(with_reducible first|exact HB.out|apply bA_|apply bN_|apply bD_|refine bs_ ?_ GE220.out|refine bs_ ?_ GE221.out|refine bs_ ?_ GE233.out)|exact HB.out))):w.heap.size≤gb242))
                have n10_:=Az.mk ((by rw [hg];exact (be_ (by repeat (first|(with_reducible first|exact HB.out|apply bA_|apply bN_|apply bD_|refine bs_ ?_ GE220.out|refine bs_ ?_ GE221.out|refine bs_ ?_ GE233.out)|exact HB.out))):w.heap.size≤gb242))
                have n11_:=Az.mk ((by rw [hg];exact Nat.ne_of_lt (blk_lt (g:=gb220) (o:=.cells #[u221000,.bool false,.bool false] 33 (0,0)) (by (with_reducible repeat (first|refine bq_ ?_ _|refine bw_ ?_|refine bz_ ?_ _));exact BK220.out)):gb220≠gb242))
                have n12_:=Az.mk ((by rw [hg];exact Nat.ne_of_gt (blk_lt (g:=gb220) (o:=.cells #[u221000,.bool false,.bool false] 33 (0,0)) (by (with_reducible repeat (first|refine bq_ ?_ _|refine bw_ ?_|refine bz_ ?_ _));exact BK220.out)):gb242≠gb220))
                have n13_:=Az.mk ((by rw [hg];exact Nat.ne_of_lt (blk_lt (g:=gb221) (o:=.cells #[.bool x222000_2,.slice Ao25 x222001_2.length co25] 38 (0,0)) (by (with_reducible repeat (first|refine bq_ ?_ _|refine bw_ ?_|refine bz_ ?_ _));exact BK221.out)):gb221≠gb242))
                have n14_:=Az.mk ((by rw [hg];exact Nat.ne_of_gt (blk_lt (g:=gb221) (o:=.cells #[.bool x222000_2,.slice Ao25 x222001_2.length co25] 38 (0,0)) (by (with_reducible repeat (first|refine bq_ ?_ _|refine bw_ ?_|refine bz_ ?_ _));exact BK221.out)):gb242≠gb221))
                have n15_:=Az.mk ((by rw [hg];exact Nat.ne_of_lt (blk_lt (g:=gb233) (o:=.cells #[.bool ((rd_T40 ((rd_T33 l0 x5_1).f0) x8_2).f0.f0),.slice A232_1 ((rd_T40 ((rd_T33 l0 x5_1).f0) x8_2).f0.f1).length c232_1,.int .i64 ((rd_T40 ((rd_T33 l0 x5_1).f0) x8_2).f1),.bool ((rd_T40 ((rd_T33 l0 x5_1).f0) x8_2).f2)] 40 (0,0)) (by (with_reducible repeat (first|refine bq_ ?_ _|refine bw_ ?_|refine bz_ ?_ _));exact BK233.out)):gb233≠gb242))
                have n16_:=Az.mk ((by rw [hg];exact Nat.ne_of_gt (blk_lt (g:=gb233) (o:=.cells #[.bool ((rd_T40 ((rd_T33 l0 x5_1).f0) x8_2).f0.f0),.slice A232_1 ((rd_T40 ((rd_T33 l0 x5_1).f0) x8_2).f0.f1).length c232_1,.int .i64 ((rd_T40 ((rd_T33 l0 x5_1).f0) x8_2).f1),.bool ((rd_T40 ((rd_T33 l0 x5_1).f0) x8_2).f2)] 40 (0,0)) (by (with_reducible repeat (first|refine bq_ ?_ _|refine bw_ ?_|refine bz_ ?_ _));exact BK233.out)):gb242≠gb233))
                clear HO_4
                clear HO_221000
                clear HO_222001
                clear HO237
                clear BK220
                clear BK221
                clear BK233
                clear HB
                have HO_4:=n0_
                have HO_221000:=n1_
                have HO_222001:=n2_
                have HO237:=n3_
                have BK220:=n4_
                have BK221:=n5_
                have BK233:=n6_
                have HB:=n7_
                have BK242:=n8_
                have GW242:=n9_
                have GE242:=n10_
                have NB220_242:=n11_
                have NB242_220:=n12_
                have NB221_242:=n13_
                have NB242_221:=n14_
                have NB233_242:=n15_
                have NB242_233:=n16_
                clear n0_ n1_ n2_ n3_ n4_ n5_ n6_ n7_ n8_ n9_ n10_ n11_ n12_ n13_ n14_ n15_ n16_
                clear hb hbox hg
                obtain ⟨Ao30,co30,eo30⟩:=Kd.R_slice HO237.out
                (first|subst eo30|(injection eo30 with f1_ f2_ f3_;have f4_:=f1_.symm;have f5_:=f3_.symm;clear f1_ f2_ f3_;subst f4_;subst f5_))
                refine hK.out _ _ ⟨(bc_ BK233.out 0).trans rfl,(bc_ BK233.out 1).trans rfl,(bc_ BK233.out 2).trans rfl,(bc_ BK233.out 3).trans rfl,(bc_ BK221.out 0).trans rfl,(bc_ BK221.out 1).trans rfl⟩ (fun hHeld=>?_)
                clear hK K
                refine norm_ (a':=?_) ?_ ?_
                rotate_left
                ·show Act.put _ (some 10) _=_
                 simp only [Act.put,sA_,sB_,sC_,i64_w,i32_w]
                 rfl
                refine one_ (i:=4) (N:=some 53) #[true,true,true,true,true,true,false] rfl rfl (by kernel_rfl) (by decide) (fun K hK=>?_)
                refine goes_ Try.func24 (by kernel_rfl) rfl #[.agg #[.bool t234,.slice Ao30 t235.length co30],.agg #[.bool x222000_2,.slice Ao25 x222001_2.length co25]] (by rfl) rfl rfl (by (try simp only [List.map_toArray,List.map_cons,List.map_nil]);first|done|rfl|(simp only [List.length_drop,List.length_take];rfl)) ?_
                with_reducible refine (cadenceref3_Both.calls kj8 t234 _ _ t235 x222000_2 _ _ x222001_2 t238 t239 _ ?side1 ?side2 ?side3 ?side4 A19.out).mono ?_
                (case side1=>repeat (first|exact (Kd.R_reads' HO237.out).2.2|(with_reducible refine cA_ ?_ _)|(with_reducible refine cN_ ?_ _)|(with_reducible refine cD_ ?_)))
                (case side2=>exact (Kd.R_reads' HO237.out).2.1)
                (case side3=>repeat (first|exact (Kd.R_reads' HO_222001.out).2.2|(with_reducible refine cA_ ?_ _)|(with_reducible refine cN_ ?_ _)|(with_reducible refine cD_ ?_)))
                (case side4=>exact (Kd.R_reads' HO_222001.out).2.1)
                rintro e w31 ⟨v240,rfl,ho0,hb⟩
                refine ⟨_,rfl,?_⟩
                have n0_:=Az.mk (Kd.R_elder' (by (with_reducible repeat (first|apply rA_|apply rN_|apply rD_));exact HO_4.out) (Kd.R_base ho0) hb)
                have n1_:=Az.mk (Kd.S_elder' (by (with_reducible repeat (first|apply Kd.S_alloc|apply Kd.S_drewN|apply Kd.S_drew));exact HO_221000.out) (Kd.R_base ho0) hb)
                have n2_:=Az.mk (Kd.R_elder' (by (with_reducible repeat (first|apply rA_|apply rN_|apply rD_));exact HO_222001.out) (Kd.R_base ho0) hb)
                have n3_:=Az.mk (Kd.R_elder' (by (with_reducible repeat (first|apply rA_|apply rN_|apply rD_));exact HO237.out) (Kd.R_base ho0) hb)
                have n4_:=Az.mk (Kd.R_lower (Kd.R_new' (Kd.R_new' ho0 (Kd.R_lt (by (with_reducible repeat (first|apply rA_|apply rN_|apply rD_));exact HO_222001.out))) (Kd.R_lt (by (with_reducible repeat (first|apply rA_|apply rN_|apply rD_));exact HO237.out))) (be_ (by repeat (first|(with_reducible first|exact HB.out|apply bA_|apply bN_|apply bD_|refine bs_ ?_ GE220.out|refine bs_ ?_ GE221.out|refine bs_ ?_ GE233.out|refine bs_ ?_ GE242.out)|exact HB.out))))
                have n5_:=Az.mk (bb_ (g:=gb220) (o:=.cells #[u221000,.bool false,.bool false] 33 (0,0)) (by (with_reducible repeat (first|refine bq_ ?_ _|refine bw_ ?_|refine bz_ ?_ _));exact BK220.out) hb)
                have n6_:=Az.mk (bb_ (g:=gb221) (o:=.cells #[.bool x222000_2,.slice Ao25 x222001_2.length co25] 38 (0,0)) (by (with_reducible repeat (first|refine bq_ ?_ _|refine bw_ ?_|refine bz_ ?_ _));exact BK221.out) hb)
                have n7_:=Az.mk (bb_ (g:=gb233) (o:=.cells #[.bool ((rd_T40 ((rd_T33 l0 x5_1).f0) x8_2).f0.f0),.slice A232_1 ((rd_T40 ((rd_T33 l0 x5_1).f0) x8_2).f0.f1).length c232_1,.int .i64 ((rd_T40 ((rd_T33 l0 x5_1).f0) x8_2).f1),.bool ((rd_T40 ((rd_T33 l0 x5_1).f0) x8_2).f2)] 40 (0,0)) (by (with_reducible repeat (first|refine bq_ ?_ _|refine bw_ ?_|refine bz_ ?_ _));exact BK233.out) hb)
                have n8_:=Az.mk (bb_ (g:=gb242) (o:=.cells #[.bool false,.slice none 0 0] 38 (0,0)) (by (with_reducible repeat (first|refine bq_ ?_ _|refine bw_ ?_|refine bz_ ?_ _));exact BK242.out) hb)
                have n9_:=Az.mk (below_step (by repeat (first|(with_reducible first|exact HB.out|apply bA_|apply bN_|apply bD_|refine bs_ ?_ GE220.out|refine bs_ ?_ GE221.out|refine bs_ ?_ GE233.out|refine bs_ ?_ GE242.out)|exact HB.out)) hb)
                clear HO_4
                clear HO_221000
                clear HO_222001
                clear HO237
                clear BK220
                clear BK221
                clear BK233
                clear BK242
                clear HB
                have HO_4:=n0_
                have HO_221000:=n1_
                have HO_222001:=n2_
                have HO237:=n3_
                have HO241:=n4_
                have BK220:=n5_
                have BK221:=n6_
                have BK233:=n7_
                have BK242:=n8_
                have HB:=n9_
                clear n0_ n1_ n2_ n3_ n4_ n5_ n6_ n7_ n8_ n9_
                (try clear hb)
                (try clear hb2)
                (try clear hk)
                (try clear hi)
                (try clear ho0)
                refine hK.out _ _ ⟨(bc_ BK233.out 0).trans rfl,(bc_ BK233.out 1).trans rfl,(bc_ BK233.out 2).trans rfl,(bc_ BK233.out 3).trans rfl,(bc_ BK221.out 0).trans rfl,(bc_ BK221.out 1).trans rfl⟩ (fun hHeld=>?_)
                clear hK K
                refine norm_ (a':=?_) ?_ ?_
                rotate_left
                ·show Act.put _ (some 53) _=_
                 simp only [Act.put,sA_,sB_,sC_,i64_w,i32_w]
                 rfl
                exact norm_ (by simp only [putAll,Act.put,sA_,sB_,sC_]) (hCont (.slice Ao30 t235.length co30,v240,gb242) _ ⟨hHeld,(by (with_reducible repeat (first|apply rA_|apply rN_|apply rD_));exact Kd.R_mono HO237.out (fun _ hk=>⟨hk.2,hk.1.2⟩)),(by (with_reducible repeat (first|apply rA_|apply rN_|apply rD_));exact Kd.R_mono HO241.out (fun _ hk=>⟨hk.2,hk.1.2⟩)),(by (with_reducible repeat (first|apply Kd.S_alloc|apply Kd.S_drewN|apply Kd.S_drew));exact Kd.S_mono HO_221000.out (fun _ hk=>⟨hk.1.2,⟨hk.2,⟨hk.1.1.1,hk.1.1.2⟩⟩⟩)),(by (with_reducible repeat (first|apply rA_|apply rN_|apply rD_));exact Kd.R_mono HO_222001.out (fun _ hk=>⟨hk.1.2,hk.2⟩)),(by (with_reducible repeat (first|apply rA_|apply rN_|apply rD_));exact Kd.R_mono HO_4.out (fun _ hk=>⟨hk.1.2,⟨hk.2,⟨hk.1.1.1,⟨hk.1.1.2.1,⟨hk.1.1.2.2.1,hk.1.1.2.2.2⟩⟩⟩⟩⟩)),(by (with_reducible repeat (first|refine bq_ ?_ _|refine bw_ ?_|refine bz_ ?_ _));exact BK220.out),(by (with_reducible repeat (first|refine bq_ ?_ _|refine bw_ ?_|refine bz_ ?_ _));exact BK221.out),(by (with_reducible repeat (first|refine bq_ ?_ _|refine bw_ ?_|refine bz_ ?_ _));exact BK233.out),(by (with_reducible repeat (first|refine bq_ ?_ _|refine bw_ ?_|refine bz_ ?_ _));exact BK242.out),GW242.out,GE242.out,NB220_242.out,NB242_220.out,NB221_242.out,NB242_221.out,NB233_242.out,NB242_233.out,(by repeat (first|(with_reducible first|exact HB.out|apply bA_|apply bN_|apply bD_|refine bs_ ?_ GE220.out|refine bs_ ?_ GE221.out|refine bs_ ?_ GE233.out|refine bs_ ?_ GE242.out)|exact HB.out))⟩)
              ·skip
               refine box_step ?hg (N:=10) ?hd (cs:=#[.bool false,.slice none 0 0]) (t:=38) ?hr ?_;(case hd=>rfl);(case hg=>rfl);(case hr=>first|(go_simp;done)|(go_simp;rfl))
               intro gb242 hg w28 hbox hb
               have n0_:=Az.mk (Kd.R_below (by (with_reducible repeat (first|apply rA_|apply rN_|apply rD_));exact HO_4.out) hb)
               have n1_:=Az.mk (Kd.S_below (by (with_reducible repeat (first|apply Kd.S_alloc|apply Kd.S_drewN|apply Kd.S_drew));exact HO_221000.out) hb)
               have n2_:=Az.mk (Kd.R_below (by (with_reducible repeat (first|apply rA_|apply rN_|apply rD_));exact HO_222001.out) hb)
               have n3_:=Az.mk (bb_ (g:=gb220) (o:=.cells #[u221000,.bool false,.bool false] 33 (0,0)) (by (with_reducible repeat (first|refine bq_ ?_ _|refine bw_ ?_|refine bz_ ?_ _));exact BK220.out) hb)
               have n4_:=Az.mk (bb_ (g:=gb221) (o:=.cells #[.bool x222000_2,.slice Ao25 x222001_2.length co25] 38 (0,0)) (by (with_reducible repeat (first|refine bq_ ?_ _|refine bw_ ?_|refine bz_ ?_ _));exact BK221.out) hb)
               have n5_:=Az.mk (bb_ (g:=gb233) (o:=.cells #[.bool ((rd_T40 ((rd_T33 l0 x5_1).f0) x8_2).f0.f0),.slice A232_1 ((rd_T40 ((rd_T33 l0 x5_1).f0) x8_2).f0.f1).length c232_1,.int .i64 ((rd_T40 ((rd_T33 l0 x5_1).f0) x8_2).f1),.bool ((rd_T40 ((rd_T33 l0 x5_1).f0) x8_2).f2)] 40 (0,0)) (by (with_reducible repeat (first|refine bq_ ?_ _|refine bw_ ?_|refine bz_ ?_ _));exact BK233.out) hb)
               have n6_:=Az.mk (below_step (by repeat (first|(with_reducible first|exact HB.out|apply bA_|apply bN_|apply bD_|refine bs_ ?_ GE220.out|refine bs_ ?_ GE221.out|refine bs_ ?_ GE233.out)|exact HB.out)) hb)
               have n7_:=Az.mk (hbox)
               have n8_:=Az.mk ((by rw [hg];exact (be_ (by repeat (first|(with_reducible first|exact HB.out|apply bA_|apply bN_|apply bD_|refine bs_ ?_ GE220.out|refine bs_ ?_ GE221.out|refine bs_ ?_ GE233.out)|exact HB.out))):w.heap.size≤gb242))
               have n9_:=Az.mk ((by rw [hg];exact (be_ (by repeat (first|(with_reducible first|exact HB.out|apply bA_|apply bN_|apply bD_|refine bs_ ?_ GE220.out|refine bs_ ?_ GE221.out|refine bs_ ?_ GE233.out)|exact HB.out))):w.heap.size≤gb242))
               have n10_:=Az.mk ((by rw [hg];exact Nat.ne_of_lt (blk_lt (g:=gb220) (o:=.cells #[u221000,.bool false,.bool false] 33 (0,0)) (by (with_reducible repeat (first|refine bq_ ?_ _|refine bw_ ?_|refine bz_ ?_ _));exact BK220.out)):gb220≠gb242))
               have n11_:=Az.mk ((by rw [hg];exact Nat.ne_of_gt (blk_lt (g:=gb220) (o:=.cells #[u221000,.bool false,.bool false] 33 (0,0)) (by (with_reducible repeat (first|refine bq_ ?_ _|refine bw_ ?_|refine bz_ ?_ _));exact BK220.out)):gb242≠gb220))
               have n12_:=Az.mk ((by rw [hg];exact Nat.ne_of_lt (blk_lt (g:=gb221) (o:=.cells #[.bool x222000_2,.slice Ao25 x222001_2.length co25] 38 (0,0)) (by (with_reducible repeat (first|refine bq_ ?_ _|refine bw_ ?_|refine bz_ ?_ _));exact BK221.out)):gb221≠gb242))
               have n13_:=Az.mk ((by rw [hg];exact Nat.ne_of_gt (blk_lt (g:=gb221) (o:=.cells #[.bool x222000_2,.slice Ao25 x222001_2.length co25] 38 (0,0)) (by (with_reducible repeat (first|refine bq_ ?_ _|refine bw_ ?_|refine bz_ ?_ _));exact BK221.out)):gb242≠gb221))
               have n14_:=Az.mk ((by rw [hg];exact Nat.ne_of_lt (blk_lt (g:=gb233) (o:=.cells #[.bool ((rd_T40 ((rd_T33 l0 x5_1).f0) x8_2).f0.f0),.slice A232_1 ((rd_T40 ((rd_T33 l0 x5_1).f0) x8_2).f0.f1).length c232_1,.int .i64 ((rd_T40 ((rd_T33 l0 x5_1).f0) x8_2).f1),.bool ((rd_T40 ((rd_T33 l0 x5_1).f0) x8_2).f2)] 40 (0,0)) (by (with_reducible repeat (first|refine bq_ ?_ _|refine bw_ ?_|refine bz_ ?_ _));exact BK233.out)):gb233≠gb242))
               have n15_:=Az.mk ((by rw [hg];exact Nat.ne_of_gt (blk_lt (g:=gb233) (o:=.cells #[.bool ((rd_T40 ((rd_T33 l0 x5_1).f0) x8_2).f0.f0),.slice A232_1 ((rd_T40 ((rd_T33 l0 x5_1).f0) x8_2).f0.f1).length c232_1,.int .i64 ((rd_T40 ((rd_T33 l0 x5_1).f0) x8_2).f1),.bool ((rd_T40 ((rd_T33 l0 x5_1).f0) x8_2).f2)] 40 (0,0)) (by (with_reducible repeat (first|refine bq_ ?_ _|refine bw_ ?_|refine bz_ ?_ _));exact BK233.out)):gb242≠gb233))
               clear HO_4
               clear HO_221000
               clear HO_222001
               clear BK220
               clear BK221
               clear BK233
               clear HB
               have HO_4:=n0_
               have HO_221000:=n1_
               have HO_222001:=n2_
               have BK220:=n3_
               have BK221:=n4_
               have BK233:=n5_
               have HB:=n6_
               have BK242:=n7_
               have GW242:=n8_
               have GE242:=n9_
               have NB220_242:=n10_
               have NB242_220:=n11_
               have NB221_242:=n12_
               have NB242_221:=n13_
               have NB233_242:=n14_
               have NB242_233:=n15_
               clear n0_ n1_ n2_ n3_ n4_ n5_ n6_ n7_ n8_ n9_ n10_ n11_ n12_ n13_ n14_ n15_
               clear hb hbox hg
               refine hK.out _ _ ⟨(bc_ BK233.out 0).trans rfl,(bc_ BK233.out 1).trans rfl,(bc_ BK233.out 2).trans rfl,(bc_ BK233.out 3).trans rfl,(bc_ BK221.out 0).trans rfl,(bc_ BK221.out 1).trans rfl⟩ (fun hHeld=>?_)
               clear hK K
               refine norm_ (a':=?_) ?_ ?_
               rotate_left
               ·show Act.put _ (some 10) _=_
                simp only [Act.put,sA_,sB_,sC_,i64_w,i32_w]
                rfl
               refine one_ (i:=2) (N:=some 51) #[true,true,true,true,false,true,false] rfl rfl (by kernel_rfl) (by decide) (fun K hK=>?_)
               refine goes_ Try.func25 (by kernel_rfl) rfl #[.agg #[.bool ((rd_T40 ((rd_T33 l0 x5_1).f0) x8_2).f0.f0),.slice A232_1 ((rd_T40 ((rd_T33 l0 x5_1).f0) x8_2).f0.f1).length c232_1]] (by rfl) rfl rfl (by (try simp only [List.map_toArray,List.map_cons,List.map_nil]);first|done|rfl|(simp only [List.length_drop,List.length_take];rfl)) ?_
               with_reducible refine (cadencelaw3_Make.calls kj8 ((rd_T40 ((rd_T33 l0 x5_1).f0) x8_2).f0.f0) _ _ ((rd_T40 ((rd_T33 l0 x5_1).f0) x8_2).f0.f1) t234 t235 _ ?side1 ?side2 A18.out).mono ?_
               (case side1=>repeat (first|exact (Kd.C_below HR232_1.out HB.out)|(with_reducible refine cA_ ?_ _)|(with_reducible refine cN_ ?_ _)|(with_reducible refine cD_ ?_)))
               (case side2=>exact HC232_1.out)
               rintro e w29 ⟨v236,rfl,ho0,hb⟩
               refine ⟨_,rfl,?_⟩
               have n0_:=Az.mk (Kd.R_elder' (by (with_reducible repeat (first|apply rA_|apply rN_|apply rD_));exact HO_4.out) (Kd.R_base ho0) hb)
               have n1_:=Az.mk (Kd.S_elder' (by (with_reducible repeat (first|apply Kd.S_alloc|apply Kd.S_drewN|apply Kd.S_drew));exact HO_221000.out) (Kd.R_base ho0) hb)
               have n2_:=Az.mk (Kd.R_elder' (by (with_reducible repeat (first|apply rA_|apply rN_|apply rD_));exact HO_222001.out) (Kd.R_base ho0) hb)
               have n3_:=Az.mk (Kd.R_lower (Kd.R_new' ho0 (Kd.R_lt (by (with_reducible repeat (first|apply rA_|apply rN_|apply rD_));exact HO_222001.out))) (be_ (by repeat (first|(with_reducible first|exact HB.out|apply bA_|apply bN_|apply bD_|refine bs_ ?_ GE220.out|refine bs_ ?_ GE221.out|refine bs_ ?_ GE233.out|refine bs_ ?_ GE242.out)|exact HB.out))))
               have n4_:=Az.mk (bb_ (g:=gb220) (o:=.cells #[u221000,.bool false,.bool false] 33 (0,0)) (by (with_reducible repeat (first|refine bq_ ?_ _|refine bw_ ?_|refine bz_ ?_ _));exact BK220.out) hb)
               have n5_:=Az.mk (bb_ (g:=gb221) (o:=.cells #[.bool x222000_2,.slice Ao25 x222001_2.length co25] 38 (0,0)) (by (with_reducible repeat (first|refine bq_ ?_ _|refine bw_ ?_|refine bz_ ?_ _));exact BK221.out) hb)
               have n6_:=Az.mk (bb_ (g:=gb233) (o:=.cells #[.bool ((rd_T40 ((rd_T33 l0 x5_1).f0) x8_2).f0.f0),.slice A232_1 ((rd_T40 ((rd_T33 l0 x5_1).f0) x8_2).f0.f1).length c232_1,.int .i64 ((rd_T40 ((rd_T33 l0 x5_1).f0) x8_2).f1),.bool ((rd_T40 ((rd_T33 l0 x5_1).f0) x8_2).f2)] 40 (0,0)) (by (with_reducible repeat (first|refine bq_ ?_ _|refine bw_ ?_|refine bz_ ?_ _));exact BK233.out) hb)
               have n7_:=Az.mk (bb_ (g:=gb242) (o:=.cells #[.bool false,.slice none 0 0] 38 (0,0)) (by (with_reducible repeat (first|refine bq_ ?_ _|refine bw_ ?_|refine bz_ ?_ _));exact BK242.out) hb)
               have n8_:=Az.mk (below_step (by repeat (first|(with_reducible first|exact HB.out|apply bA_|apply bN_|apply bD_|refine bs_ ?_ GE220.out|refine bs_ ?_ GE221.out|refine bs_ ?_ GE233.out|refine bs_ ?_ GE242.out)|exact HB.out)) hb)
               clear HO_4
               clear HO_221000
               clear HO_222001
               clear BK220
               clear BK221
               clear BK233
               clear BK242
               clear HB
               have HO_4:=n0_
               have HO_221000:=n1_
               have HO_222001:=n2_
               have HO237:=n3_
               have BK220:=n4_
               have BK221:=n5_
               have BK233:=n6_
               have BK242:=n7_
               have HB:=n8_
               clear n0_ n1_ n2_ n3_ n4_ n5_ n6_ n7_ n8_
               (try clear hb)
               (try clear hb2)
               (try clear hk)
               (try clear hi)
               (try clear ho0)
               obtain ⟨Ao30,co30,eo30⟩:=Kd.R_slice HO237.out
               (first|subst eo30|(injection eo30 with f1_ f2_ f3_;have f4_:=f1_.symm;have f5_:=f3_.symm;clear f1_ f2_ f3_;subst f4_;subst f5_))
               refine hK.out _ _ ⟨(bc_ BK233.out 0).trans rfl,(bc_ BK233.out 1).trans rfl,(bc_ BK233.out 2).trans rfl,(bc_ BK233.out 3).trans rfl,(bc_ BK221.out 0).trans rfl,(bc_ BK221.out 1).trans rfl⟩ (fun hHeld=>?_)
               clear hK K
               refine norm_ (a':=?_) ?_ ?_
               rotate_left
               ·show Act.put _ (some 51) _=_
                simp only [Act.put,sA_,sB_,sC_,i64_w,i32_w]
                rfl
               refine one_ (i:=4) (N:=some 53) #[true,true,true,true,true,true,false] rfl rfl (by kernel_rfl) (by decide) (fun K hK=>?_)
               refine goes_ Try.func24 (by kernel_rfl) rfl #[.agg #[.bool t234,.slice Ao30 t235.length co30],.agg #[.bool x222000_2,.slice Ao25 x222001_2.length co25]] (by rfl) rfl rfl (by (try simp only [List.map_toArray,List.map_cons,List.map_nil]);first|done|rfl|(simp only [List.length_drop,List.length_take];rfl)) ?_
               with_reducible refine (cadenceref3_Both.calls kj8 t234 _ _ t235 x222000_2 _ _ x222001_2 t238 t239 _ ?side1 ?side2 ?side3 ?side4 A19.out).mono ?_
               (case side1=>repeat (first|exact (Kd.R_reads' HO237.out).2.2|(with_reducible refine cA_ ?_ _)|(with_reducible refine cN_ ?_ _)|(with_reducible refine cD_ ?_)))
               (case side2=>exact (Kd.R_reads' HO237.out).2.1)
               (case side3=>repeat (first|exact (Kd.R_reads' HO_222001.out).2.2|(with_reducible refine cA_ ?_ _)|(with_reducible refine cN_ ?_ _)|(with_reducible refine cD_ ?_)))
               (case side4=>exact (Kd.R_reads' HO_222001.out).2.1)
               rintro e w31 ⟨v240,rfl,ho0,hb⟩
               refine ⟨_,rfl,?_⟩
               have n0_:=Az.mk (Kd.R_elder' (by (with_reducible repeat (first|apply rA_|apply rN_|apply rD_));exact HO_4.out) (Kd.R_base ho0) hb)
               have n1_:=Az.mk (Kd.S_elder' (by (with_reducible repeat (first|apply Kd.S_alloc|apply Kd.S_drewN|apply Kd.S_drew));exact HO_221000.out) (Kd.R_base ho0) hb)
               have n2_:=Az.mk (Kd.R_elder' (by (with_reducible repeat (first|apply rA_|apply rN_|apply rD_));exact HO_222001.out) (Kd.R_base ho0) hb)
               have n3_:=Az.mk (Kd.R_elder' (by (with_reducible repeat (first|apply rA_|apply rN_|apply rD_));exact HO237.out) (Kd.R_base ho0) hb)
               have n4_:=Az.mk (Kd.R_lower (Kd.R_new' (Kd.R_new' ho0 (Kd.R_lt (by (with_reducible repeat (first|apply rA_|apply rN_|apply rD_));exact HO_222001.out))) (Kd.R_lt (by (with_reducible repeat (first|apply rA_|apply rN_|apply rD_));exact HO237.out))) (be_ (by repeat (first|(with_reducible first|exact HB.out|apply bA_|apply bN_|apply bD_|refine bs_ ?_ GE220.out|refine bs_ ?_ GE221.out|refine bs_ ?_ GE233.out|refine bs_ ?_ GE242.out)|exact HB.out))))
               have n5_:=Az.mk (bb_ (g:=gb220) (o:=.cells #[u221000,.bool false,.bool false] 33 (0,0)) (by (with_reducible repeat (first|refine bq_ ?_ _|refine bw_ ?_|refine bz_ ?_ _));exact BK220.out) hb)
               have n6_:=Az.mk (bb_ (g:=gb221) (o:=.cells #[.bool x222000_2,.slice Ao25 x222001_2.length co25] 38 (0,0)) (by (with_reducible repeat (first|refine bq_ ?_ _|refine bw_ ?_|refine bz_ ?_ _));exact BK221.out) hb)
               have n7_:=Az.mk (bb_ (g:=gb233) (o:=.cells #[.bool ((rd_T40 ((rd_T33 l0 x5_1).f0) x8_2).f0.f0),.slice A232_1 ((rd_T40 ((rd_T33 l0 x5_1).f0) x8_2).f0.f1).length c232_1,.int .i64 ((rd_T40 ((rd_T33 l0 x5_1).f0) x8_2).f1),.bool ((rd_T40 ((rd_T33 l0 x5_1).f0) x8_2).f2)] 40 (0,0)) (by (with_reducible repeat (first|refine bq_ ?_ _|refine bw_ ?_|refine bz_ ?_ _));exact BK233.out) hb)
               have n8_:=Az.mk (bb_ (g:=gb242) (o:=.cells #[.bool false,.slice none 0 0] 38 (0,0)) (by (with_reducible repeat (first|refine bq_ ?_ _|refine bw_ ?_|refine bz_ ?_ _));exact BK242.out) hb)
               have n9_:=Az.mk (below_step (by repeat (first|(with_reducible first|exact HB.out|apply bA_|apply bN_|apply bD_|refine bs_ ?_ GE220.out|refine bs_ ?_ GE221.out|refine bs_ ?_ GE233.out|refine bs_ ?_ GE242.out)|exact HB.out)) hb)
               clear HO_4
               clear HO_221000
               clear HO_222001
               clear HO237
               clear BK220
               clear BK221
               clear BK233
               clear BK242
               clear HB
               have HO_4:=n0_
               have HO_221000:=n1_
               have HO_222001:=n2_
               have HO237:=n3_
               have HO241:=n4_
               have BK220:=n5_
               have BK221:=n6_
               have BK233:=n7_
               have BK242:=n8_
               have HB:=n9_
               clear n0_ n1_ n2_ n3_ n4_ n5_ n6_ n7_ n8_ n9_
               (try clear hb)
               (try clear hb2)
               (try clear hk)
               (try clear hi)
               (try clear ho0)
               refine hK.out _ _ ⟨(bc_ BK233.out 0).trans rfl,(bc_ BK233.out 1).trans rfl,(bc_ BK233.out 2).trans rfl,(bc_ BK233.out 3).trans rfl,(bc_ BK221.out 0).trans rfl,(bc_ BK221.out 1).trans rfl⟩ (fun hHeld=>?_)
               clear hK K
               refine norm_ (a':=?_) ?_ ?_
               rotate_left
               ·show Act.put _ (some 53) _=_
                simp only [Act.put,sA_,sB_,sC_,i64_w,i32_w]
                rfl
               exact norm_ (by simp only [putAll,Act.put,sA_,sB_,sC_]) (hCont (.slice Ao30 t235.length co30,v240,gb242) _ ⟨hHeld,(by (with_reducible repeat (first|apply rA_|apply rN_|apply rD_));exact Kd.R_mono HO237.out (fun _ hk=>⟨hk.2,hk.1.2⟩)),(by (with_reducible repeat (first|apply rA_|apply rN_|apply rD_));exact Kd.R_mono HO241.out (fun _ hk=>⟨hk.2,hk.1.2⟩)),(by (with_reducible repeat (first|apply Kd.S_alloc|apply Kd.S_drewN|apply Kd.S_drew));exact Kd.S_mono HO_221000.out (fun _ hk=>⟨hk.1.2,⟨hk.2,⟨hk.1.1.1,hk.1.1.2⟩⟩⟩)),(by (with_reducible repeat (first|apply rA_|apply rN_|apply rD_));exact Kd.R_mono HO_222001.out (fun _ hk=>⟨hk.1.2,hk.2⟩)),(by (with_reducible repeat (first|apply rA_|apply rN_|apply rD_));exact Kd.R_mono HO_4.out (fun _ hk=>⟨hk.1.2,⟨hk.2,⟨hk.1.1.1,⟨hk.1.1.2.1,⟨hk.1.1.2.2.1,hk.1.1.2.2.2⟩⟩⟩⟩⟩)),(by (with_reducible repeat (first|refine bq_ ?_ _|refine bw_ ?_|refine bz_ ?_ _));exact BK220.out),(by (with_reducible repeat (first|refine bq_ ?_ _|refine bw_ ?_|refine bz_ ?_ _));exact BK221.out),(by (with_reducible repeat (first|refine bq_ ?_ _|refine bw_ ?_|refine bz_ ?_ _));exact BK233.out),(by (with_reducible repeat (first|refine bq_ ?_ _|refine bw_ ?_|refine bz_ ?_ _));exact BK242.out),GW242.out,GE242.out,NB220_242.out,NB242_220.out,NB221_242.out,NB242_221.out,NB233_242.out,NB242_233.out,(by repeat (first|(with_reducible first|exact HB.out|apply bA_|apply bN_|apply bD_|refine bs_ ?_ GE220.out|refine bs_ ?_ GE221.out|refine bs_ ?_ GE233.out|refine bs_ ?_ GE242.out)|exact HB.out))⟩)
             rintro ⟨v236,v240,gb242⟩ w32 ⟨hS_,h0_,h1_,h2_,h3_,h4_,h5_,h6_,h7_,h8_,h9_,h10_,h11_,h12_,h13_,h14_,h15_,h16_,h17_⟩
             have n0_:Az (Kd.R Kd.string 9 w32 w.heap.size (fun k_=>some k_≠(v240:Value).ownBlock∧some k_≠(.slice Ao25 x222001_2.length co25:Value).ownBlock) v236 t235):=⟨h0_⟩
             have n1_:Az (Kd.R Kd.string 9 w32 w.heap.size (fun k_=>some k_≠(v236:Value).ownBlock∧some k_≠(.slice Ao25 x222001_2.length co25:Value).ownBlock) v240 t239):=⟨h1_⟩
             have n2_:Az (Kd.S k40 40 w32 w.heap.size (fun k_=>some k_≠(v236:Value).ownBlock∧some k_≠(v240:Value).ownBlock∧some k_≠(.slice Ao25 x222001_2.length co25:Value).ownBlock∧k_≠gb233) u221000 x221000_2):=⟨h2_⟩
             have n3_:Az (Kd.R Kd.string 9 w32 w.heap.size (fun k_=>some k_≠(v236:Value).ownBlock∧some k_≠(v240:Value).ownBlock) (.slice Ao25 x222001_2.length co25) x222001_2):=⟨h3_⟩
             have n4_:Az (Kd.R k33 33 w32 w.heap.size (fun k_=>some k_≠(v236:Value).ownBlock∧some k_≠(v240:Value).ownBlock∧some k_≠(u221000:Value).ownBlock∧some k_≠(.slice Ao25 x222001_2.length co25:Value).ownBlock∧k_≠gb220∧k_≠gb233) u4 x4_1):=⟨h4_⟩
             have n5_:Az (w32.heap[gb220]? = some (.cells #[u221000,.bool false,.bool false] 33 (0,0))):=⟨h5_⟩
             have n6_:Az (w32.heap[gb221]? = some (.cells #[.bool x222000_2,.slice Ao25 x222001_2.length co25] 38 (0,0))):=⟨h6_⟩
             have n7_:Az (w32.heap[gb233]? = some (.cells #[.bool ((rd_T40 ((rd_T33 l0 x5_1).f0) x8_2).f0.f0),.slice A232_1 ((rd_T40 ((rd_T33 l0 x5_1).f0) x8_2).f0.f1).length c232_1,.int .i64 ((rd_T40 ((rd_T33 l0 x5_1).f0) x8_2).f1),.bool ((rd_T40 ((rd_T33 l0 x5_1).f0) x8_2).f2)] 40 (0,0))):=⟨h7_⟩
             have n8_:Az (w32.heap[gb242]? = some (.cells #[.bool false,.slice none 0 0] 38 (0,0))):=⟨h8_⟩
             have n9_:Az (w.heap.size≤gb242):=⟨h9_⟩
             have n10_:Az (w.heap.size≤gb242):=⟨h10_⟩
             have n11_:Az (gb220≠gb242):=⟨h11_⟩
             have n12_:Az (gb242≠gb220):=⟨h12_⟩
             have n13_:Az (gb221≠gb242):=⟨h13_⟩
             have n14_:Az (gb242≠gb221):=⟨h14_⟩
             have n15_:Az (gb233≠gb242):=⟨h15_⟩
             have n16_:Az (gb242≠gb233):=⟨h16_⟩
             have n17_:Az (Below w.heap.size w w32):=⟨h17_⟩
             clear HO_4
             clear HO_221000
             clear HO_222001
             clear BK220
             clear BK221
             clear BK233
             clear HB
             clear h0_ h1_ h2_ h3_ h4_ h5_ h6_ h7_ h8_ h9_ h10_ h11_ h12_ h13_ h14_ h15_ h16_ h17_
             have HO237:=n0_
             have HO241:=n1_
             have HO_221000:=n2_
             have HO_222001:=n3_
             have HO_4:=n4_
             have BK220:=n5_
             have BK221:=n6_
             have BK233:=n7_
             have BK242:=n8_
             have GW242:=n9_
             have GE242:=n10_
             have NB220_242:=n11_
             have NB242_220:=n12_
             have NB221_242:=n13_
             have NB242_221:=n14_
             have NB233_242:=n15_
             have NB242_233:=n16_
             have HB:=n17_
             clear n0_ n1_ n2_ n3_ n4_ n5_ n6_ n7_ n8_ n9_ n10_ n11_ n12_ n13_ n14_ n15_ n16_ n17_
             have hHeld:w32.cell? ⟨gb233,0,none⟩=some (.bool ((rd_T40 ((rd_T33 l0 x5_1).f0) x8_2).f0.f0))∧w32.cell? ⟨gb233,1,none⟩=some (.slice A232_1 ((rd_T40 ((rd_T33 l0 x5_1).f0) x8_2).f0.f1).length c232_1)∧w32.cell? ⟨gb233,2,none⟩=some (.int .i64 ((rd_T40 ((rd_T33 l0 x5_1).f0) x8_2).f1))∧w32.cell? ⟨gb233,3,none⟩=some (.bool ((rd_T40 ((rd_T33 l0 x5_1).f0) x8_2).f2))∧w32.cell? ⟨gb221,0,none⟩=some (.bool x222000_2)∧w32.cell? ⟨gb221,1,none⟩=some (.slice Ao25 x222001_2.length co25):=hS_
             obtain ⟨Ao34,co34,eo34⟩:=Kd.R_slice HO241.out
             (first|subst eo34|(injection eo34 with f1_ f2_ f3_;have f4_:=f1_.symm;have f5_:=f3_.symm;clear f1_ f2_ f3_;subst f4_;subst f5_))
             refine norm_ (a':=?_) ?_ ?_
             rotate_left
             ·simp only [putAll,Act.put,sA_,sB_,sC_]
              rfl
             refine one_ (i:=6) (N:=none) #[true,true,true,true,true,true,true] rfl rfl (by kernel_rfl) (by decide) (fun K hK=>?_)
             have hs33:w32.cell? ⟨gb242,0,none⟩=some (.bool false):=(bc_ BK242.out 0).trans rfl
             have hfs33:=bf_ BK242.out 0
             have hns33_0:=NB220_242.out
             have hns33_1:=NB221_242.out
             have hns33_2:=NB233_242.out
             have hms33_0:=NB242_220.out
             have hms33_1:=NB242_221.out
             have hms33_2:=NB242_233.out
             have hs35:w32.cell? ⟨gb242,1,none⟩=some (.slice none 0 0):=(bc_ BK242.out 1).trans rfl
             have hfs35:=bf_ BK242.out 1
             have hns35_0:=NB220_242.out
             have hns35_1:=NB221_242.out
             have hns35_2:=NB233_242.out
             have hms35_0:=NB242_220.out
             have hms35_1:=NB242_221.out
             have hms35_2:=NB242_233.out
             refine skip_ (w1:=?_) (by rfl) rfl ?_ ?_
             rotate_left
             ·go_simp
              rfl
             refine hK.out _ _ ⟨((cell_far (p:=⟨gb242,_,none⟩) NB233_242.out _).trans (((cell_far (p:=⟨gb242,_,none⟩) NB233_242.out _).trans (hHeld.1)))),((cell_far (p:=⟨gb242,_,none⟩) NB233_242.out _).trans (((cell_far (p:=⟨gb242,_,none⟩) NB233_242.out _).trans (hHeld.2.1)))),((cell_far (p:=⟨gb242,_,none⟩) NB233_242.out _).trans (((cell_far (p:=⟨gb242,_,none⟩) NB233_242.out _).trans (hHeld.2.2.1)))),((cell_far (p:=⟨gb242,_,none⟩) NB233_242.out _).trans (((cell_far (p:=⟨gb242,_,none⟩) NB233_242.out _).trans (hHeld.2.2.2.1)))),((cell_far (p:=⟨gb242,_,none⟩) NB221_242.out _).trans (((cell_far (p:=⟨gb242,_,none⟩) NB221_242.out _).trans (hHeld.2.2.2.2.1)))),((cell_far (p:=⟨gb242,_,none⟩) NB221_242.out _).trans (((cell_far (p:=⟨gb242,_,none⟩) NB221_242.out _).trans (hHeld.2.2.2.2.2))))⟩ (fun hHeld=>?_)
             clear hK K
             refine done_ (by kernel_rfl) ?_
             go_upto_region 14 with (fail)
             go_cut [] (fun wc=>∃ (kq:Nat) (x222000_19:Bool) (x222001_19:List ByteArray) (u222001:Value),Az (cadencelaw4_Make.j3 kq l0 ji3 x4_1 x5_1 x8_2 x221000_2 false false x222000_19 x222001_19 ((rd_T40 ((rd_T33 l0 x5_1).f0) x8_2).f0.f0) ((rd_T40 ((rd_T33 l0 x5_1).f0) x8_2).f0.f1) ((rd_T40 ((rd_T33 l0 x5_1).f0) x8_2).f1) ((rd_T40 ((rd_T33 l0 x5_1).f0) x8_2).f2) t238 t239=some r)∧Az (kq≤kj8)∧Az (Kd.R k33 33 wc w.heap.size (fun k_=>some k_≠(u221000:Value).ownBlock∧some k_≠(u222001:Value).ownBlock∧some k_≠((.slice Ao34 t239.length co34):Value).ownBlock∧k_≠gb220∧k_≠gb233) u4 x4_1)∧Az (Kd.S k40 40 wc w.heap.size (fun k_=>some k_≠(u222001:Value).ownBlock∧some k_≠((.slice Ao34 t239.length co34):Value).ownBlock∧k_≠gb233) u221000 x221000_2)∧Az (Kd.R Kd.string 9 wc w.heap.size (fun k_=>some k_≠((.slice Ao34 t239.length co34):Value).ownBlock) u222001 x222001_19)∧Az (Kd.R Kd.string 9 wc w.heap.size (fun k_=>some k_≠(u222001:Value).ownBlock) (.slice Ao34 t239.length co34) t239)∧Az (wc.heap[gb220]? = some (.cells #[u221000,.bool false,.bool false] 33 (0,0)))∧Az (wc.heap[gb221]? = some (.cells #[.bool x222000_19,u222001] 38 (0,0)))∧Az (wc.heap[gb233]? = some (.cells #[.bool ((rd_T40 ((rd_T33 l0 x5_1).f0) x8_2).f0.f0),(.slice A232_1 ((rd_T40 ((rd_T33 l0 x5_1).f0) x8_2).f0.f1).length c232_1),.int .i64 ((rd_T40 ((rd_T33 l0 x5_1).f0) x8_2).f1),.bool ((rd_T40 ((rd_T33 l0 x5_1).f0) x8_2).f2)] 40 (0,0)))∧Az (wc.heap[gb242]? = some (.cells #[.bool t238,(.slice Ao34 t239.length co34)] 38 (0,0)))∧Az (Below w.heap.size w wc))
             case first =>
              have H:=HC20.out
              clear HC20
              replace H:=Option.bind_eq_some_iff.mp H
              obtain ⟨⟨t243,t244⟩,A360,H⟩:=H
              replace H:((cadenceref3_Both.f kj8 x222000_2 x222001_2 t243 t244).bind fun bt247=>(cadencelaw4_Make.j3 kj8 l0 ji3 x4_1 x5_1 x8_2 x221000_2 false false bt247.1 bt247.2 ((rd_T40 ((rd_T33 l0 x5_1).f0) x8_2).f0.f0) ((rd_T40 ((rd_T33 l0 x5_1).f0) x8_2).f0.f1) ((rd_T40 ((rd_T33 l0 x5_1).f0) x8_2).f1) ((rd_T40 ((rd_T33 l0 x5_1).f0) x8_2).f2) t238 t239))=some r:=H
              have A36:=Az.mk A360
              clear A360
              replace H:=Option.bind_eq_some_iff.mp H
              obtain ⟨⟨t247,t248⟩,A370,H⟩:=H
              replace H:(cadencelaw4_Make.j3 kj8 l0 ji3 x4_1 x5_1 x8_2 x221000_2 false false t247 t248 ((rd_T40 ((rd_T33 l0 x5_1).f0) x8_2).f0.f0) ((rd_T40 ((rd_T33 l0 x5_1).f0) x8_2).f0.f1) ((rd_T40 ((rd_T33 l0 x5_1).f0) x8_2).f1) ((rd_T40 ((rd_T33 l0 x5_1).f0) x8_2).f2) t238 t239)=some r:=H
              have A37:=Az.mk A370
              clear A370
              have H':=Az.mk H
              clear H
              try go_wp2
              have n0_:Az (Kd.R k33 33 ((w32.setCell ⟨gb242,0,none⟩ (.bool t238)).setCell ⟨gb242,1,none⟩ (.slice Ao34 t239.length co34)) w.heap.size (fun k_=>some k_≠(u221000:Value).ownBlock∧some k_≠(.slice Ao25 x222001_2.length co25:Value).ownBlock∧some k_≠(v236:Value).ownBlock∧some k_≠(.slice Ao34 t239.length co34:Value).ownBlock∧k_≠gb220∧k_≠gb233) u4 x4_1):=⟨by (with_reducible repeat (first|apply rA_|apply rN_|apply rD_));exact Kd.R_mono (Kd.R_far (p:=⟨gb242,1,none⟩) (Kd.R_far (p:=⟨gb242,0,none⟩) (Kd.R_types HO_4.out BK242.out (by decide)) (fun _ hk=>hk.2) (.bool t238)) (fun _ hk=>hk.2) (.slice Ao34 t239.length co34)) (fun _ hk=>⟨hk.1.2.2.1,⟨hk.1.2.2.2.1,⟨hk.1.1,⟨hk.1.2.1,⟨hk.1.2.2.2.2.1,hk.1.2.2.2.2.2⟩⟩⟩⟩⟩)⟩
              have n1_:Az (Kd.S k40 40 ((w32.setCell ⟨gb242,0,none⟩ (.bool t238)).setCell ⟨gb242,1,none⟩ (.slice Ao34 t239.length co34)) w.heap.size (fun k_=>some k_≠(.slice Ao25 x222001_2.length co25:Value).ownBlock∧some k_≠(v236:Value).ownBlock∧some k_≠(.slice Ao34 t239.length co34:Value).ownBlock∧k_≠gb233) u221000 x221000_2):=⟨by (with_reducible repeat (first|apply Kd.S_alloc|apply Kd.S_drewN|apply Kd.S_drew));exact Kd.S_mono (Kd.S_far (p:=⟨gb242,1,none⟩) (Kd.S_far (p:=⟨gb242,0,none⟩) (Kd.S_types HO_221000.out BK242.out (by decide)) (fun _ hk=>hk.2) (.bool t238)) (fun _ hk=>hk.2) (.slice Ao34 t239.length co34)) (fun _ hk=>⟨hk.1.2.2.1,⟨hk.1.1,⟨hk.1.2.1,hk.1.2.2.2⟩⟩⟩)⟩
              have n2_:Az (Kd.R Kd.string 9 ((w32.setCell ⟨gb242,0,none⟩ (.bool t238)).setCell ⟨gb242,1,none⟩ (.slice Ao34 t239.length co34)) w.heap.size (fun k_=>some k_≠(v236:Value).ownBlock∧some k_≠(.slice Ao34 t239.length co34:Value).ownBlock) (.slice Ao25 x222001_2.length co25) x222001_2):=⟨by (with_reducible repeat (first|apply rA_|apply rN_|apply rD_));exact Kd.R_mono (Kd.R_far (p:=⟨gb242,1,none⟩) (Kd.R_far (p:=⟨gb242,0,none⟩) (Kd.R_types HO_222001.out BK242.out (by decide)) (fun _ hk=>hk.2) (.bool t238)) (fun _ hk=>hk.2) (.slice Ao34 t239.length co34)) (fun _ hk=>⟨hk.1.1,hk.1.2⟩)⟩
              have n3_:Az (Kd.R Kd.string 9 ((w32.setCell ⟨gb242,0,none⟩ (.bool t238)).setCell ⟨gb242,1,none⟩ (.slice Ao34 t239.length co34)) w.heap.size (fun k_=>some k_≠(.slice Ao25 x222001_2.length co25:Value).ownBlock∧some k_≠(.slice Ao34 t239.length co34:Value).ownBlock) v236 t235):=⟨by (with_reducible repeat (first|apply rA_|apply rN_|apply rD_));exact Kd.R_mono (Kd.R_far (p:=⟨gb242,1,none⟩) (Kd.R_far (p:=⟨gb242,0,none⟩) (Kd.R_types HO237.out BK242.out (by decide)) (fun _ hk=>hk.2) (.bool t238)) (fun _ hk=>hk.2) (.slice Ao34 t239.length co34)) (fun _ hk=>⟨hk.1.2,hk.1.1⟩)⟩
              have n4_:Az (Kd.R Kd.string 9 ((w32.setCell ⟨gb242,0,none⟩ (.bool t238)).setCell ⟨gb242,1,none⟩ (.slice Ao34 t239.length co34)) w.heap.size (fun k_=>some k_≠(.slice Ao25 x222001_2.length co25:Value).ownBlock∧some k_≠(v236:Value).ownBlock) (.slice Ao34 t239.length co34) t239):=⟨by (with_reducible repeat (first|apply rA_|apply rN_|apply rD_));exact Kd.R_mono (Kd.R_far (p:=⟨gb242,1,none⟩) (Kd.R_far (p:=⟨gb242,0,none⟩) (Kd.R_types HO241.out BK242.out (by decide)) (fun _ hk=>hk.2) (.bool t238)) (fun _ hk=>hk.2) (.slice Ao34 t239.length co34)) (fun _ hk=>⟨hk.1.2,hk.1.1⟩)⟩
              have n5_:Az (((w32.setCell ⟨gb242,0,none⟩ (.bool t238)).setCell ⟨gb242,1,none⟩ (.slice Ao34 t239.length co34)).heap[gb220]? = some (.cells #[u221000,.bool false,.bool false] 33 (0,0))):=⟨by (with_reducible repeat (first|refine bq_ ?_ _|refine bw_ ?_|refine bz_ ?_ _));refine blk_far ?_ NB220_242.out _;(with_reducible repeat (first|refine bq_ ?_ _|refine bw_ ?_|refine bz_ ?_ _));refine blk_far ?_ NB220_242.out _;(with_reducible repeat (first|refine bq_ ?_ _|refine bw_ ?_|refine bz_ ?_ _));exact BK220.out⟩
              have n6_:Az (((w32.setCell ⟨gb242,0,none⟩ (.bool t238)).setCell ⟨gb242,1,none⟩ (.slice Ao34 t239.length co34)).heap[gb221]? = some (.cells #[.bool x222000_2,.slice Ao25 x222001_2.length co25] 38 (0,0))):=⟨by (with_reducible repeat (first|refine bq_ ?_ _|refine bw_ ?_|refine bz_ ?_ _));refine blk_far ?_ NB221_242.out _;(with_reducible repeat (first|refine bq_ ?_ _|refine bw_ ?_|refine bz_ ?_ _));refine blk_far ?_ NB221_242.out _;(with_reducible repeat (first|refine bq_ ?_ _|refine bw_ ?_|refine bz_ ?_ _));exact BK221.out⟩
              have n7_:Az (((w32.setCell ⟨gb242,0,none⟩ (.bool t238)).setCell ⟨gb242,1,none⟩ (.slice Ao34 t239.length co34)).heap[gb233]? = some (.cells #[.bool ((rd_T40 ((rd_T33 l0 x5_1).f0) x8_2).f0.f0),.slice A232_1 ((rd_T40 ((rd_T33 l0 x5_1).f0) x8_2).f0.f1).length c232_1,.int .i64 ((rd_T40 ((rd_T33 l0 x5_1).f0) x8_2).f1),.bool ((rd_T40 ((rd_T33 l0 x5_1).f0) x8_2).f2)] 40 (0,0))):=⟨by (with_reducible repeat (first|refine bq_ ?_ _|refine bw_ ?_|refine bz_ ?_ _));refine blk_far ?_ NB233_242.out _;(with_reducible repeat (first|refine bq_ ?_ _|refine bw_ ?_|refine bz_ ?_ _));refine blk_far ?_ NB233_242.out _;(with_reducible repeat (first|refine bq_ ?_ _|refine bw_ ?_|refine bz_ ?_ _));exact BK233.out⟩
              have n8_:Az (((w32.setCell ⟨gb242,0,none⟩ (.bool t238)).setCell ⟨gb242,1,none⟩ (.slice Ao34 t239.length co34)).heap[gb242]? = some (.cells #[.bool t238,.slice Ao34 t239.length co34] 38 (0,0))):=⟨by (with_reducible repeat (first|refine bq_ ?_ _|refine bw_ ?_|refine bz_ ?_ _));refine blk_put (cs:=#[.bool t238,.slice none 0 0]) ?_ 1 _ rfl;(with_reducible repeat (first|refine bq_ ?_ _|refine bw_ ?_|refine bz_ ?_ _));refine blk_put (cs:=#[.bool false,.slice none 0 0]) ?_ 0 _ rfl;(with_reducible repeat (first|refine bq_ ?_ _|refine bw_ ?_|refine bz_ ?_ _));exact BK242.out⟩
              have n9_:Az (Below w.heap.size w ((w32.setCell ⟨gb242,0,none⟩ (.bool t238)).setCell ⟨gb242,1,none⟩ (.slice Ao34 t239.length co34))):=⟨by repeat (first|(with_reducible first|exact HB.out|apply bA_|apply bN_|apply bD_|refine bs_ ?_ GE220.out|refine bs_ ?_ GE221.out|refine bs_ ?_ GE233.out|refine bs_ ?_ GE242.out)|exact HB.out)⟩
              (try clear HO_4)
              (try clear HO_221000)
              (try clear HO_222001)
              (try clear HO237)
              (try clear HO241)
              (try clear BK220)
              (try clear BK221)
              (try clear BK233)
              (try clear BK242)
              (try clear HB)
              generalize ((w32.setCell ⟨gb242,0,none⟩ (.bool t238)).setCell ⟨gb242,1,none⟩ (.slice Ao34 t239.length co34))=w38 at n0_ n1_ n2_ n3_ n4_ n5_ n6_ n7_ n8_ n9_ ⊢
              have HO_4:=n0_
              have HO_221000:=n1_
              have HO_222001:=n2_
              have HO237:=n3_
              have HO241:=n4_
              have BK220:=n5_
              have BK221:=n6_
              have BK233:=n7_
              have BK242:=n8_
              have HB:=n9_
              clear n0_ n1_ n2_ n3_ n4_ n5_ n6_ n7_ n8_ n9_
              have n0_:=Az.mk (rD_ HO_4.out)
              have n1_:=Az.mk (Kd.S_drew HO_221000.out)
              have n2_:=Az.mk (rD_ HO_222001.out)
              have n3_:=Az.mk (rD_ HO237.out)
              have n4_:=Az.mk (rD_ HO241.out)
              have n5_:=Az.mk (bw_ BK220.out)
              have n6_:=Az.mk (bw_ BK221.out)
              have n7_:=Az.mk (bw_ BK233.out)
              have n8_:=Az.mk (bw_ BK242.out)
              have n9_:=Az.mk (bD_ HB.out)
              clear HO_4
              clear HO_221000
              clear HO_222001
              clear HO237
              clear HO241
              clear BK220
              clear BK221
              clear BK233
              clear BK242
              clear HB
              have HO_4:=n0_
              have HO_221000:=n1_
              have HO_222001:=n2_
              have HO237:=n3_
              have HO241:=n4_
              have BK220:=n5_
              have BK221:=n6_
              have BK233:=n7_
              have BK242:=n8_
              have HB:=n9_
              clear n0_ n1_ n2_ n3_ n4_ n5_ n6_ n7_ n8_ n9_
              refine start_ (n:=5) (S:=fun w'=>w'.cell? ⟨gb221,0,none⟩=some (.bool x222000_2)∧w'.cell? ⟨gb221,1,none⟩=some (.slice Ao25 x222001_2.length co25)∧w'.cell? ⟨gb242,0,none⟩=some (.bool t238)∧w'.cell? ⟨gb242,1,none⟩=some (.slice Ao34 t239.length co34)) (ds:=[4]) #[false,false,false,false,false] (by kernel_rfl) rfl rfl ⟨(bc_ BK221.out 0).trans rfl,(bc_ BK221.out 1).trans rfl,(bc_ BK242.out 0).trans rfl,(bc_ BK242.out 1).trans rfl⟩ (fun hHeld=>?_)
              generalize w38.drew=w39 at HO_4 HO_221000 HO_222001 HO237 HO241 BK220 BK221 BK233 BK242 HB hHeld ⊢
              refine take_ (i:=0) (N:=some 54) (v:=?_) (a':=?_) #[true,false,false,false,false] rfl rfl (by kernel_rfl) (fun _ _ _ h=>h) (Or.inl ⟨by rfl,?_⟩) hHeld ?_ ?_
              rotate_left
              ·rintro w' ⟨s0,s1,s2,s3⟩
               go_simp
               with_reducible rfl
              rotate_left
              ·simp only [Act.put,sA_,sB_,sC_,i64_w,i32_w]
               rfl
              refine take_ (i:=1) (N:=some 55) (v:=?_) (a':=?_) #[true,true,false,false,false] rfl rfl (by kernel_rfl) (fun _ _ _ h=>h) (Or.inl ⟨by rfl,?_⟩) hHeld ?_ ?_
              rotate_left
              ·rintro w' ⟨s0,s1,s2,s3⟩
               go_simp
               with_reducible rfl
              rotate_left
              ·simp only [Act.put,sA_,sB_,sC_,i64_w,i32_w]
               rfl
              refine one_ (i:=2) (N:=some 56) #[true,true,true,false,false] rfl rfl (by kernel_rfl) (by decide) (fun K hK=>?_)
              refine goes_ Try.func26 (by kernel_rfl) rfl #[.agg #[.bool t238,.slice Ao34 t239.length co34]] (by rfl) rfl rfl (by (try simp only [List.map_toArray,List.map_cons,List.map_nil]);first|done|rfl|(simp only [List.length_drop,List.length_take];rfl)) ?_
              with_reducible refine (cadenceref3_Not.calls kj8 t238 _ _ t239 t243 t244 _ ?side1 ?side2 A36.out).mono ?_
              (case side1=>repeat (first|exact (Kd.R_reads' HO241.out).2.2|(with_reducible refine cA_ ?_ _)|(with_reducible refine cN_ ?_ _)|(with_reducible refine cD_ ?_)))
              (case side2=>exact (Kd.R_reads' HO241.out).2.1)
              rintro e w40 ⟨v245,rfl,ho0,hb⟩
              refine ⟨_,rfl,?_⟩
              have n0_:=Az.mk (Kd.R_elder' (by (with_reducible repeat (first|apply rA_|apply rN_|apply rD_));exact HO_4.out) (Kd.R_base ho0) hb)
              have n1_:=Az.mk (Kd.S_elder' (by (with_reducible repeat (first|apply Kd.S_alloc|apply Kd.S_drewN|apply Kd.S_drew));exact HO_221000.out) (Kd.R_base ho0) hb)
              have n2_:=Az.mk (Kd.R_elder' (by (with_reducible repeat (first|apply rA_|apply rN_|apply rD_));exact HO_222001.out) (Kd.R_base ho0) hb)
              have n3_:=Az.mk (Kd.R_elder' (by (with_reducible repeat (first|apply rA_|apply rN_|apply rD_));exact HO237.out) (Kd.R_base ho0) hb)
              have n4_:=Az.mk (Kd.R_elder' (by (with_reducible repeat (first|apply rA_|apply rN_|apply rD_));exact HO241.out) (Kd.R_base ho0) hb)
              have n5_:=Az.mk (Kd.R_lower (Kd.R_new' (Kd.R_new' (Kd.R_new' ho0 (Kd.R_lt (by (with_reducible repeat (first|apply rA_|apply rN_|apply rD_));exact HO_222001.out))) (Kd.R_lt (by (with_reducible repeat (first|apply rA_|apply rN_|apply rD_));exact HO237.out))) (Kd.R_lt (by (with_reducible repeat (first|apply rA_|apply rN_|apply rD_));exact HO241.out))) (be_ (by repeat (first|(with_reducible first|exact HB.out|apply bA_|apply bN_|apply bD_|refine bs_ ?_ GE220.out|refine bs_ ?_ GE221.out|refine bs_ ?_ GE233.out|refine bs_ ?_ GE242.out)|exact HB.out))))
              have n6_:=Az.mk (bb_ (g:=gb220) (o:=.cells #[u221000,.bool false,.bool false] 33 (0,0)) (by (with_reducible repeat (first|refine bq_ ?_ _|refine bw_ ?_|refine bz_ ?_ _));exact BK220.out) hb)
              have n7_:=Az.mk (bb_ (g:=gb221) (o:=.cells #[.bool x222000_2,.slice Ao25 x222001_2.length co25] 38 (0,0)) (by (with_reducible repeat (first|refine bq_ ?_ _|refine bw_ ?_|refine bz_ ?_ _));exact BK221.out) hb)
              have n8_:=Az.mk (bb_ (g:=gb233) (o:=.cells #[.bool ((rd_T40 ((rd_T33 l0 x5_1).f0) x8_2).f0.f0),.slice A232_1 ((rd_T40 ((rd_T33 l0 x5_1).f0) x8_2).f0.f1).length c232_1,.int .i64 ((rd_T40 ((rd_T33 l0 x5_1).f0) x8_2).f1),.bool ((rd_T40 ((rd_T33 l0 x5_1).f0) x8_2).f2)] 40 (0,0)) (by (with_reducible repeat (first|refine bq_ ?_ _|refine bw_ ?_|refine bz_ ?_ _));exact BK233.out) hb)
              have n9_:=Az.mk (bb_ (g:=gb242) (o:=.cells #[.bool t238,.slice Ao34 t239.length co34] 38 (0,0)) (by (with_reducible repeat (first|refine bq_ ?_ _|refine bw_ ?_|refine bz_ ?_ _));exact BK242.out) hb)
              have n10_:=Az.mk (below_step (by repeat (first|(with_reducible first|exact HB.out|apply bA_|apply bN_|apply bD_|refine bs_ ?_ GE220.out|refine bs_ ?_ GE221.out|refine bs_ ?_ GE233.out|refine bs_ ?_ GE242.out)|exact HB.out)) hb)
              clear HO_4
              clear HO_221000
              clear HO_222001
              clear HO237
              clear HO241
              clear BK220
              clear BK221
              clear BK233
              clear BK242
              clear HB
              have HO_4:=n0_
              have HO_221000:=n1_
              have HO_222001:=n2_
              have HO237:=n3_
              have HO241:=n4_
              have HO246:=n5_
              have BK220:=n6_
              have BK221:=n7_
              have BK233:=n8_
              have BK242:=n9_
              have HB:=n10_
              clear n0_ n1_ n2_ n3_ n4_ n5_ n6_ n7_ n8_ n9_ n10_
              (try clear hb)
              (try clear hb2)
              (try clear hk)
              (try clear hi)
              (try clear ho0)
              obtain ⟨Ao41,co41,eo41⟩:=Kd.R_slice HO246.out
              (first|subst eo41|(injection eo41 with f1_ f2_ f3_;have f4_:=f1_.symm;have f5_:=f3_.symm;clear f1_ f2_ f3_;subst f4_;subst f5_))
              refine hK.out _ _ ⟨(bc_ BK221.out 0).trans rfl,(bc_ BK221.out 1).trans rfl,(bc_ BK242.out 0).trans rfl,(bc_ BK242.out 1).trans rfl⟩ (fun hHeld=>?_)
              clear hK K
              refine norm_ (a':=?_) ?_ ?_
              rotate_left
              ·show Act.put _ (some 56) _=_
               simp only [Act.put,sA_,sB_,sC_,i64_w,i32_w]
               rfl
              refine one_ (i:=3) (N:=some 57) #[true,true,true,true,false] rfl rfl (by kernel_rfl) (by decide) (fun K hK=>?_)
              refine goes_ Try.func24 (by kernel_rfl) rfl #[.agg #[.bool x222000_2,.slice Ao25 x222001_2.length co25],.agg #[.bool t243,.slice Ao41 t244.length co41]] (by rfl) rfl rfl (by (try simp only [List.map_toArray,List.map_cons,List.map_nil]);first|done|rfl|(simp only [List.length_drop,List.length_take];rfl)) ?_
              with_reducible refine (cadenceref3_Both.calls kj8 x222000_2 _ _ x222001_2 t243 _ _ t244 t247 t248 _ ?side1 ?side2 ?side3 ?side4 A37.out).mono ?_
              (case side1=>repeat (first|exact (Kd.R_reads' HO_222001.out).2.2|(with_reducible refine cA_ ?_ _)|(with_reducible refine cN_ ?_ _)|(with_reducible refine cD_ ?_)))
              (case side2=>exact (Kd.R_reads' HO_222001.out).2.1)
              (case side3=>repeat (first|exact (Kd.R_reads' HO246.out).2.2|(with_reducible refine cA_ ?_ _)|(with_reducible refine cN_ ?_ _)|(with_reducible refine cD_ ?_)))
              (case side4=>exact (Kd.R_reads' HO246.out).2.1)
              rintro e w42 ⟨v249,rfl,ho0,hb⟩
              refine ⟨_,rfl,?_⟩
              have n0_:=Az.mk (Kd.R_elder' (by (with_reducible repeat (first|apply rA_|apply rN_|apply rD_));exact HO_4.out) (Kd.R_base ho0) hb)
              have n1_:=Az.mk (Kd.S_elder' (by (with_reducible repeat (first|apply Kd.S_alloc|apply Kd.S_drewN|apply Kd.S_drew));exact HO_221000.out) (Kd.R_base ho0) hb)
              have n2_:=Az.mk (Kd.R_elder' (by (with_reducible repeat (first|apply rA_|apply rN_|apply rD_));exact HO_222001.out) (Kd.R_base ho0) hb)
              have n3_:=Az.mk (Kd.R_elder' (by (with_reducible repeat (first|apply rA_|apply rN_|apply rD_));exact HO237.out) (Kd.R_base ho0) hb)
              have n4_:=Az.mk (Kd.R_elder' (by (with_reducible repeat (first|apply rA_|apply rN_|apply rD_));exact HO241.out) (Kd.R_base ho0) hb)
              have n5_:=Az.mk (Kd.R_elder' (by (with_reducible repeat (first|apply rA_|apply rN_|apply rD_));exact HO246.out) (Kd.R_base ho0) hb)
              have n6_:=Az.mk (Kd.R_lower (Kd.R_new' (Kd.R_new' (Kd.R_new' (Kd.R_new' ho0 (Kd.R_lt (by (with_reducible repeat (first|apply rA_|apply rN_|apply rD_));exact HO_222001.out))) (Kd.R_lt (by (with_reducible repeat (first|apply rA_|apply rN_|apply rD_));exact HO237.out))) (Kd.R_lt (by (with_reducible repeat (first|apply rA_|apply rN_|apply rD_));exact HO241.out))) (Kd.R_lt (by (with_reducible repeat (first|apply rA_|apply rN_|apply rD_));exact HO246.out))) (be_ (by repeat (first|(with_reducible first|exact HB.out|apply bA_|apply bN_|apply bD_|refine bs_ ?_ GE220.out|refine bs_ ?_ GE221.out|refine bs_ ?_ GE233.out|refine bs_ ?_ GE242.out)|exact HB.out))))
              have n7_:=Az.mk (bb_ (g:=gb220) (o:=.cells #[u221000,.bool false,.bool false] 33 (0,0)) (by (with_reducible repeat (first|refine bq_ ?_ _|refine bw_ ?_|refine bz_ ?_ _));exact BK220.out) hb)
              have n8_:=Az.mk (bb_ (g:=gb221) (o:=.cells #[.bool x222000_2,.slice Ao25 x222001_2.length co25] 38 (0,0)) (by (with_reducible repeat (first|refine bq_ ?_ _|refine bw_ ?_|refine bz_ ?_ _));exact BK221.out) hb)
              have n9_:=Az.mk (bb_ (g:=gb233) (o:=.cells #[.bool ((rd_T40 ((rd_T33 l0 x5_1).f0) x8_2).f0.f0),.slice A232_1 ((rd_T40 ((rd_T33 l0 x5_1).f0) x8_2).f0.f1).length c232_1,.int .i64 ((rd_T40 ((rd_T33 l0 x5_1).f0) x8_2).f1),.bool ((rd_T40 ((rd_T33 l0 x5_1).f0) x8_2).f2)] 40 (0,0)) (by (with_reducible repeat (first|refine bq_ ?_ _|refine bw_ ?_|refine bz_ ?_ _));exact BK233.out) hb)
              have n10_:=Az.mk (bb_ (g:=gb242) (o:=.cells #[.bool t238,.slice Ao34 t239.length co34] 38 (0,0)) (by (with_reducible repeat (first|refine bq_ ?_ _|refine bw_ ?_|refine bz_ ?_ _));exact BK242.out) hb)
              have n11_:=Az.mk (below_step (by repeat (first|(with_reducible first|exact HB.out|apply bA_|apply bN_|apply bD_|refine bs_ ?_ GE220.out|refine bs_ ?_ GE221.out|refine bs_ ?_ GE233.out|refine bs_ ?_ GE242.out)|exact HB.out)) hb)
              clear HO_4
              clear HO_221000
              clear HO_222001
              clear HO237
              clear HO241
              clear HO246
              clear BK220
              clear BK221
              clear BK233
              clear BK242
              clear HB
              have HO_4:=n0_
              have HO_221000:=n1_
              have HO_222001:=n2_
              have HO237:=n3_
              have HO241:=n4_
              have HO246:=n5_
              have HO250:=n6_
              have BK220:=n7_
              have BK221:=n8_
              have BK233:=n9_
              have BK242:=n10_
              have HB:=n11_
              clear n0_ n1_ n2_ n3_ n4_ n5_ n6_ n7_ n8_ n9_ n10_ n11_
              (try clear hb)
              (try clear hb2)
              (try clear hk)
              (try clear hi)
              (try clear ho0)
              obtain ⟨Ao44,co44,eo44⟩:=Kd.R_slice HO250.out
              (first|subst eo44|(injection eo44 with f1_ f2_ f3_;have f4_:=f1_.symm;have f5_:=f3_.symm;clear f1_ f2_ f3_;subst f4_;subst f5_))
              refine hK.out _ _ ⟨(bc_ BK221.out 0).trans rfl,(bc_ BK221.out 1).trans rfl,(bc_ BK242.out 0).trans rfl,(bc_ BK242.out 1).trans rfl⟩ (fun hHeld=>?_)
              clear hK K
              refine norm_ (a':=?_) ?_ ?_
              rotate_left
              ·show Act.put _ (some 57) _=_
               simp only [Act.put,sA_,sB_,sC_,i64_w,i32_w]
               rfl
              refine last_ (i:=4) (N:=none) #[true,true,true,true,true] rfl rfl (by kernel_rfl) (by decide) (fun K hK=>?_)
              have hs43:w42.cell? ⟨gb221,0,none⟩=some (.bool x222000_2):=(bc_ BK221.out 0).trans rfl
              have hfs43:=bf_ BK221.out 0
              have hns43_0:=NB220_221.out
              have hns43_2:=NB233_221.out
              have hns43_3:=NB242_221.out
              have hms43_0:=NB221_220.out
              have hms43_2:=NB221_233.out
              have hms43_3:=NB221_242.out
              have hs45:w42.cell? ⟨gb221,1,none⟩=some (.slice Ao25 x222001_2.length co25):=(bc_ BK221.out 1).trans rfl
              have hfs45:=bf_ BK221.out 1
              have hns45_0:=NB220_221.out
              have hns45_2:=NB233_221.out
              have hns45_3:=NB242_221.out
              have hms45_0:=NB221_220.out
              have hms45_2:=NB221_233.out
              have hms45_3:=NB221_242.out
              refine skip_ (w1:=?_) (by rfl) rfl ?_ ?_
              rotate_left
              ·go_simp
               rfl
              refine hK.out _ _ ?_
              clear hK K
              refine done_ (by kernel_rfl) ?_
              try go_wp2
              go_meet
              case rel=>exact ⟨_,(t247),(t248),(.slice Ao44 t248.length co44),H',⟨by have:=HK1.out;have:=HK2.out;have:=HJ8.out;first|omega|exact Nat.le_refl _⟩,⟨by (with_reducible repeat (first|apply rA_|apply rN_|apply rD_));exact Kd.R_mono (Kd.R_far (p:=⟨gb221,1,none⟩) (Kd.R_far (p:=⟨gb221,0,none⟩) (Kd.R_types HO_4.out BK221.out (by decide)) (fun _ hk=>hk.2) (.bool t247)) (fun _ hk=>hk.2) (.slice Ao44 t248.length co44)) (fun _ hk=>⟨hk.1.1.1.1,⟨hk.1.2,⟨hk.1.1.1.2.2.2.1,⟨hk.1.1.1.2.2.2.2.1,hk.1.1.1.2.2.2.2.2⟩⟩⟩⟩)⟩,⟨by (with_reducible repeat (first|apply Kd.S_alloc|apply Kd.S_drewN|apply Kd.S_drew));exact Kd.S_mono (Kd.S_far (p:=⟨gb221,1,none⟩) (Kd.S_far (p:=⟨gb221,0,none⟩) (Kd.S_types HO_221000.out BK221.out (by decide)) (fun _ hk=>hk.2) (.bool t247)) (fun _ hk=>hk.2) (.slice Ao44 t248.length co44)) (fun _ hk=>⟨hk.1.2,⟨hk.1.1.1.2.2.1,hk.1.1.1.2.2.2⟩⟩)⟩,⟨by (with_reducible repeat (first|apply rA_|apply rN_|apply rD_));exact Kd.R_mono (Kd.R_far (p:=⟨gb221,1,none⟩) (Kd.R_far (p:=⟨gb221,0,none⟩) (Kd.R_types HO250.out BK221.out (by decide)) (fun _ hk=>hk.2) (.bool t247)) (fun _ hk=>hk.2) (.slice Ao44 t248.length co44)) (fun _ hk=>hk.1.1.2)⟩,⟨by (with_reducible repeat (first|apply rA_|apply rN_|apply rD_));exact Kd.R_mono (Kd.R_far (p:=⟨gb221,1,none⟩) (Kd.R_far (p:=⟨gb221,0,none⟩) (Kd.R_types HO241.out BK221.out (by decide)) (fun _ hk=>hk.2) (.bool t247)) (fun _ hk=>hk.2) (.slice Ao44 t248.length co44)) (fun _ hk=>hk.1.2)⟩,⟨by (with_reducible repeat (first|refine bq_ ?_ _|refine bw_ ?_|refine bz_ ?_ _));refine blk_far ?_ NB220_221.out _;(with_reducible repeat (first|refine bq_ ?_ _|refine bw_ ?_|refine bz_ ?_ _));refine blk_far ?_ NB220_221.out _;(with_reducible repeat (first|refine bq_ ?_ _|refine bw_ ?_|refine bz_ ?_ _));exact BK220.out⟩,⟨by (with_reducible repeat (first|refine bq_ ?_ _|refine bw_ ?_|refine bz_ ?_ _));refine blk_put (cs:=#[.bool t247,.slice Ao25 x222001_2.length co25]) ?_ 1 _ rfl;(with_reducible repeat (first|refine bq_ ?_ _|refine bw_ ?_|refine bz_ ?_ _));refine blk_put (cs:=#[.bool x222000_2,.slice Ao25 x222001_2.length co25]) ?_ 0 _ rfl;(with_reducible repeat (first|refine bq_ ?_ _|refine bw_ ?_|refine bz_ ?_ _));exact BK221.out⟩,⟨by (with_reducible repeat (first|refine bq_ ?_ _|refine bw_ ?_|refine bz_ ?_ _));refine blk_far ?_ NB233_221.out _;(with_reducible repeat (first|refine bq_ ?_ _|refine bw_ ?_|refine bz_ ?_ _));refine blk_far ?_ NB233_221.out _;(with_reducible repeat (first|refine bq_ ?_ _|refine bw_ ?_|refine bz_ ?_ _));exact BK233.out⟩,⟨by (with_reducible repeat (first|refine bq_ ?_ _|refine bw_ ?_|refine bz_ ?_ _));refine blk_far ?_ NB242_221.out _;(with_reducible repeat (first|refine bq_ ?_ _|refine bw_ ?_|refine bz_ ?_ _));refine blk_far ?_ NB242_221.out _;(with_reducible repeat (first|refine bq_ ?_ _|refine bw_ ?_|refine bz_ ?_ _));exact BK242.out⟩,⟨by repeat (first|(with_reducible first|exact HB.out|apply bA_|apply bN_|apply bD_|refine bs_ ?_ GE220.out|refine bs_ ?_ GE221.out|refine bs_ ?_ GE233.out|refine bs_ ?_ GE242.out)|exact HB.out)⟩⟩
             case rest =>
              clear HC20
              try clear c2
              try clear p2
              try clear c23
              try clear c24
              try clear c25
              try clear c26
              obtain ⟨kq,x222000_19,x222001_19,u222001,HA,HJ19,HO_4,HO_221000,HO_222001,HO_243001,BK220,BK221,BK233,BK242,HB⟩:=hcut
              cases kq with
              | zero=>exact absurd HA.out (by simp [cadencelaw4_Make.j3])
              | succ kj19 =>
               have H:=HA.out
               clear HA
               simp only [cadencelaw4_Make.j3] at H
               replace H:=Option.bind_eq_some_iff.mp H
               obtain ⟨t251,A460,H⟩:=H
               replace H:(if ((rd_T40 ((rd_T33 l0 x5_1).f0) x8_2).f2)=true then (if x221000_2.length < 2932031007402 then (cadencelaw4_Make.l1 kj19 l0 ji3 x4_1 x5_1 (wrap64 (x8_2+1)) (x221000_2 ++ [(⟨(⟨t238,t239⟩:S38),t251,!t238⟩:S40)]) false false x222000_19 x222001_19) else (none)) else (if x221000_2.length < 2932031007402 then (cadencelaw4_Make.l1 kj19 l0 ji3 x4_1 x5_1 (wrap64 (x8_2+1)) (x221000_2 ++ [(⟨(⟨t238,t239⟩:S38),t251,false⟩:S40)]) false false x222000_19 x222001_19) else (none)))=some r:=H
               have A46:=Az.mk A460
               clear A460
               by_cases c47:((rd_T40 ((rd_T33 l0 x5_1).f0) x8_2).f2)=true
               ·rw [if_pos c47] at H
                have c47b0:((rd_T40 ((rd_T33 l0 x5_1).f0) x8_2).f2)=true:=c47
                clear c47
                by_cases c48:x221000_2.length < 2932031007402
                ·rw [if_pos c48] at H
                 have LMc48:=Az.mk c48
                 clear c48
                 obtain ⟨y252,hy252⟩:∃ y_:List (S40),y_=(x221000_2 ++ [(⟨(⟨t238,t239⟩:S38),t251,!t238⟩:S40)]):=⟨_,rfl⟩
                 replace H:(cadencelaw4_Make.l1 kj19 l0 ji3 x4_1 x5_1 (wrap64 (x8_2+1)) y252 false false x222000_19 x222001_19)=some r:=by first|(rw [hy252];with_reducible exact H)|(have H2_:=(Option.bind_some _ _).symm.trans H;rw [hy252];with_reducible exact H2_)|(have H2_:=(Option.bind_some _ _).symm.trans H;with_reducible exact H2_)|with_reducible exact H|(rw [hy252];exact H)|exact H
                 have Ny252:=Az.mk hy252
                 clear hy252
                 have H':=Az.mk H
                 clear H
                 try go_wp2
                 have n0_:=Az.mk (rD_ HO_4.out)
                 have n1_:=Az.mk (Kd.S_drew HO_221000.out)
                 have n2_:=Az.mk (rD_ HO_222001.out)
                 have n3_:=Az.mk (rD_ HO_243001.out)
                 have n4_:=Az.mk (bw_ BK220.out)
                 have n5_:=Az.mk (bw_ BK221.out)
                 have n6_:=Az.mk (bw_ BK233.out)
                 have n7_:=Az.mk (bw_ BK242.out)
                 have n8_:=Az.mk (bD_ HB.out)
                 clear HO_4
                 clear HO_221000
                 clear HO_222001
                 clear HO_243001
                 clear BK220
                 clear BK221
                 clear BK233
                 clear BK242
                 clear HB
                 have HO_4:=n0_
                 have HO_221000:=n1_
                 have HO_222001:=n2_
                 have HO_243001:=n3_
                 have BK220:=n4_
                 have BK221:=n5_
                 have BK233:=n6_
                 have BK242:=n7_
                 have HB:=n8_
                 clear n0_ n1_ n2_ n3_ n4_ n5_ n6_ n7_ n8_
                 refine start_ (n:=19) (S:=fun w'=>w'.cell? ⟨gb220,0,none⟩=some (u221000)∧w'.cell? ⟨gb220,1,none⟩=some (.bool false)∧w'.cell? ⟨gb220,2,none⟩=some (.bool false)∧w'.cell? ⟨gb242,0,none⟩=some (.bool t238)∧w'.cell? ⟨gb242,1,none⟩=some (.slice Ao34 t239.length co34)∧w'.cell? ⟨gb233,0,none⟩=some (.bool ((rd_T40 ((rd_T33 l0 x5_1).f0) x8_2).f0.f0))∧w'.cell? ⟨gb233,1,none⟩=some (.slice A232_1 ((rd_T40 ((rd_T33 l0 x5_1).f0) x8_2).f0.f1).length c232_1)∧w'.cell? ⟨gb233,2,none⟩=some (.int .i64 ((rd_T40 ((rd_T33 l0 x5_1).f0) x8_2).f1))∧w'.cell? ⟨gb233,3,none⟩=some (.bool ((rd_T40 ((rd_T33 l0 x5_1).f0) x8_2).f2))) (ds:=[18]) #[false,false,false,false,false,false,false,false,false,false,false,false,false,false,false,false,false,false,false] (by kernel_rfl) rfl rfl ⟨(bc_ BK220.out 0).trans rfl,(bc_ BK220.out 1).trans rfl,(bc_ BK220.out 2).trans rfl,(bc_ BK242.out 0).trans rfl,(bc_ BK242.out 1).trans rfl,(bc_ BK233.out 0).trans rfl,(bc_ BK233.out 1).trans rfl,(bc_ BK233.out 2).trans rfl,(bc_ BK233.out 3).trans rfl⟩ (fun hHeld=>?_);refine with_tabW cadencelaw4_Make.tab15 cadencelaw4_Make.bits15 (fun HT_ HW_=>?_)
                 generalize wc.drew=w49 at HO_4 HO_221000 HO_222001 HO_243001 BK220 BK221 BK233 BK242 HB hHeld ⊢
                 refine pure_ (i:=0) (N:=some 58) (v:=?_) (a':=?_) #[true,false,false,false,false,false,false,false,false,false,false,false,false,false,false,false,false,false,false] rfl rfl (any_of HT_.out (by kernel_rfl)) (fun _ _ _ h=>h) (Or.inl ⟨by rfl,?_⟩) ?_ ?_
                 rotate_left
                 ·intro w'
                  go_simp
                  with_reducible rfl
                 rotate_left
                 ·simp only [Act.put,sA_,sB_,sC_,i64_w,i32_w]
                  rfl
                 refine pure_ (i:=3) (N:=some 61) (v:=?_) (a':=?_) #[true,false,false,true,false,false,false,false,false,false,false,false,false,false,false,false,false,false,false] rfl rfl (any_of HT_.out (by kernel_rfl)) (fun _ _ _ h=>h) (Or.inl ⟨by rfl,?_⟩) ?_ ?_
                 rotate_left
                 ·intro w'
                  go_simp
                  with_reducible rfl
                 rotate_left
                 ·simp only [Act.put,sA_,sB_,sC_,i64_w,i32_w]
                  rfl
                 refine pure_ (i:=5) (N:=some 63) (v:=?_) (a':=?_) #[true,false,false,true,false,true,false,false,false,false,false,false,false,false,false,false,false,false,false] rfl rfl (any_of HT_.out (by kernel_rfl)) (fun _ _ _ h=>h) (Or.inl ⟨by rfl,?_⟩) ?_ ?_
                 rotate_left
                 ·intro w'
                  go_simp
                  with_reducible rfl
                 rotate_left
                 ·simp only [Act.put,sA_,sB_,sC_,i64_w,i32_w]
                  rfl
                 refine pure_ (i:=7) (N:=some 65) (v:=?_) (a':=?_) #[true,false,false,true,false,true,false,true,false,false,false,false,false,false,false,false,false,false,false] rfl rfl (any_of HT_.out (by kernel_rfl)) (fun _ _ _ h=>h) (Or.inl ⟨by rfl,?_⟩) ?_ ?_
                 rotate_left
                 ·intro w'
                  go_simp
                  with_reducible rfl
                 rotate_left
                 ·simp only [Act.put,sA_,sB_,sC_,i64_w,i32_w]
                  rfl
                 refine take_ (i:=1) (N:=some 59) (v:=?_) (a':=?_) #[true,true,false,true,false,true,false,true,false,false,false,false,false,false,false,false,false,false,false] rfl rfl (take_ofW HT_.out HW_.out (by kernel_rfl)) (fun _ _ _ h=>h) (Or.inl ⟨by rfl,?_⟩) hHeld ?_ ?_
                 rotate_left
                 ·rintro w' ⟨s0,s1,s2,s3,s4,s5,s6,s7,s8⟩
                  go_simp
                  with_reducible rfl
                 rotate_left
                 ·simp only [Act.put,sA_,sB_,sC_,i64_w,i32_w]
                  rfl
                 refine take_ (i:=2) (N:=some 60) (v:=?_) (a':=?_) #[true,true,true,true,false,true,false,true,false,false,false,false,false,false,false,false,false,false,false] rfl rfl (take_ofW HT_.out HW_.out (by kernel_rfl)) (fun _ _ _ h=>h) (Or.inl ⟨by rfl,?_⟩) hHeld ?_ ?_
                 rotate_left
                 ·rintro w' ⟨s0,s1,s2,s3,s4,s5,s6,s7,s8⟩
                  go_simp
                  with_reducible rfl
                 rotate_left
                 ·simp only [Act.put,sA_,sB_,sC_,i64_w,i32_w]
                  rfl
                 refine take_ (i:=4) (N:=some 62) (v:=?_) (a':=?_) #[true,true,true,true,true,true,false,true,false,false,false,false,false,false,false,false,false,false,false] rfl rfl (take_ofW HT_.out HW_.out (by kernel_rfl)) (fun _ _ _ h=>h) (Or.inl ⟨by rfl,?_⟩) hHeld ?_ ?_
                 rotate_left
                 ·rintro w' ⟨s0,s1,s2,s3,s4,s5,s6,s7,s8⟩
                  go_simp
                  with_reducible rfl
                 rotate_left
                 ·simp only [Act.put,sA_,sB_,sC_,i64_w,i32_w]
                  rfl
                 refine take_ (i:=8) (N:=some 66) (v:=?_) (a':=?_) #[true,true,true,true,true,true,false,true,true,false,false,false,false,false,false,false,false,false,false] rfl rfl (take_ofW HT_.out HW_.out (by kernel_rfl)) (fun _ _ _ h=>h) (Or.inl ⟨by rfl,?_⟩) hHeld ?_ ?_
                 rotate_left
                 ·rintro w' ⟨s0,s1,s2,s3,s4,s5,s6,s7,s8⟩
                  go_simp
                  with_reducible rfl
                 rotate_left
                 ·simp only [Act.put,sA_,sB_,sC_,i64_w,i32_w]
                  rfl
                 refine one_ (i:=6) (N:=some 64) #[true,true,true,true,true,true,true,true,true,false,false,false,false,false,false,false,false,false,false] rfl rfl (one_of HT_.out (by kernel_rfl)) (by decide) (fun K hK=>?_)
                 refine goes_ Try.func13 (by kernel_rfl) rfl #[.int .i64 ((rd_T40 ((rd_T33 l0 x5_1).f0) x8_2).f1),.int .i64 ji3] (by rfl) rfl rfl (by (try simp only [List.map_toArray,List.map_cons,List.map_nil]);first|done|(simp only [hji3];rfl)|rfl|(simp only [List.length_drop,List.length_take];rfl)) ?_
                 with_reducible refine (cadencelaw4_within.calls ((rd_T40 ((rd_T33 l0 x5_1).f0) x8_2).f1) ji3 t251 _ A46.out).mono ?_
                 rintro e w' ⟨rfl,⟨nd,rfl⟩⟩
                 refine ⟨_,rfl,?_⟩
                 refine hK.out _ _ ⟨(bc_ BK220.out 0).trans rfl,(bc_ BK220.out 1).trans rfl,(bc_ BK220.out 2).trans rfl,(bc_ BK242.out 0).trans rfl,(bc_ BK242.out 1).trans rfl,(bc_ BK233.out 0).trans rfl,(bc_ BK233.out 1).trans rfl,(bc_ BK233.out 2).trans rfl,(bc_ BK233.out 3).trans rfl⟩ (fun hHeld=>?_)
                 clear hK K
                 refine norm_ (a':=?_) ?_ ?_
                 rotate_left
                 ·show Act.put _ (some 64) _=_
                  simp only [Act.put,sA_,sB_,sC_,i64_w,i32_w]
                  rfl
                 refine pure_ (i:=9) (N:=some 67) (v:=?_) (a':=?_) #[true,true,true,true,true,true,true,true,true,true,false,false,false,false,false,false,false,false,false] rfl rfl (any_of HT_.out (by kernel_rfl)) (fun _ _ _ h=>h) (Or.inl ⟨by rfl,?_⟩) ?_ ?_
                 rotate_left
                 ·intro w'
                  go_simp
                  with_reducible rfl
                 rotate_left
                 ·simp only [Act.put,sA_,sB_,sC_,i64_w,i32_w]
                  rfl
                 refine pure_ (i:=10) (N:=some 68) (v:=?_) (a':=?_) #[true,true,true,true,true,true,true,true,true,true,true,false,false,false,false,false,false,false,false] rfl rfl (any_of HT_.out (by kernel_rfl)) (fun _ _ _ h=>h) (Or.inl ⟨by rfl,?_⟩) ?_ ?_
                 rotate_left
                 ·intro w'
                  go_simp
                  with_reducible rfl
                 rotate_left
                 ·simp only [Act.put,sA_,sB_,sC_,i64_w,i32_w]
                  rfl
                 refine take_ (i:=11) (N:=some 69) (v:=?_) (a':=?_) #[true,true,true,true,true,true,true,true,true,true,true,true,false,false,false,false,false,false,false] rfl rfl (take_ofW HT_.out HW_.out (by kernel_rfl)) (fun _ _ _ h=>h) (Or.inl ⟨by rfl,?_⟩) hHeld ?_ ?_
                 rotate_left
                 ·rintro w' ⟨s0,s1,s2,s3,s4,s5,s6,s7,s8⟩
                  go_simp
                  with_reducible rfl
                 rotate_left
                 ·simp only [Act.put,sA_,sB_,sC_,i64_w,i32_w]
                  rfl
                 refine pure_ (i:=12) (N:=some 70) (v:=?_) (a':=?_) #[true,true,true,true,true,true,true,true,true,true,true,true,true,false,false,false,false,false,false] rfl rfl (any_of HT_.out (by kernel_rfl)) (fun _ _ _ h=>h) (Or.inl ⟨by rfl,?_⟩) ?_ ?_
                 rotate_left
                 ·intro w'
                  go_simp
                  with_reducible rfl
                 rotate_left
                 ·simp only [Act.put,sA_,sB_,sC_,i64_w,i32_w]
                  rfl
                 refine pure_ (i:=13) (N:=some 71) (v:=?_) (a':=?_) #[true,true,true,true,true,true,true,true,true,true,true,true,true,true,false,false,false,false,false] rfl rfl (any_of HT_.out (by kernel_rfl)) (fun _ _ _ h=>h) (Or.inl ⟨by rfl,?_⟩) ?_ ?_
                 rotate_left
                 ·intro w'
                  go_simp
                  with_reducible rfl
                 rotate_left
                 ·simp only [Act.put,sA_,sB_,sC_,i64_w,i32_w]
                  rfl
                 refine pure_ (i:=14) (N:=some 72) (v:=?_) (a':=?_) #[true,true,true,true,true,true,true,true,true,true,true,true,true,true,true,false,false,false,false] rfl rfl (any_of HT_.out (by kernel_rfl)) (fun _ _ _ h=>h) (Or.inl ⟨by rfl,?_⟩) ?_ ?_
                 rotate_left
                 ·intro w'
                  go_simp
                  with_reducible rfl
                 rotate_left
                 ·simp only [Act.put,sA_,sB_,sC_,i64_w,i32_w]
                  rfl
                 refine one_ (i:=15) (N:=some 73) #[true,true,true,true,true,true,true,true,true,true,true,true,true,true,true,true,false,false,false] rfl rfl (one_of HT_.out (by kernel_rfl)) (by decide) (fun K hK=>?_)
                 refine value_ (w1:=?_) (v:=?_) (by rfl) rfl ?_ ?_
                 rotate_left 2
                 ·go_simp
                  constructor
                  ·rfl
                  ·rfl
                 refine hK.out _ _ ⟨(bc_ (bz_ BK220.out _) 0).trans rfl,(bc_ (bz_ BK220.out _) 1).trans rfl,(bc_ (bz_ BK220.out _) 2).trans rfl,(bc_ (bz_ BK242.out _) 0).trans rfl,(bc_ (bz_ BK242.out _) 1).trans rfl,(bc_ (bz_ BK233.out _) 0).trans rfl,(bc_ (bz_ BK233.out _) 1).trans rfl,(bc_ (bz_ BK233.out _) 2).trans rfl,(bc_ (bz_ BK233.out _) 3).trans rfl⟩ (fun hHeld=>?_)
                 clear hK K
                 refine norm_ (a':=?_) ?_ ?_
                 rotate_left
                 ·show Act.put _ (some 73) _=_
                  simp only [Act.put,sA_,sB_,sC_,i64_w,i32_w]
                  rfl
                 refine one_ (i:=16) (N:=some 74) #[true,true,true,true,true,true,true,true,true,true,true,true,true,true,true,true,true,false,false] rfl rfl (one_of HT_.out (by kernel_rfl)) (by decide) (fun K hK=>?_)
                 refine Kd.S_append_step k40 (w0:=w) w.heap.size (by rfl) (.tmp 59) (.tmp 73) 31 40 (.agg #[(.bool false),(.slice none 0 0),(.int .i64 0),(.bool false)]) 48 rfl Try.underlying31 info40 rfl (by decide) (by omega) u221000 x221000_2 (⟨(⟨t238,t239⟩:S38),t251,!t238⟩:S40) [.bool t238,.slice Ao34 t239.length co34,.int .i64 t251,.bool (!t238)] (fun k_=>some k_≠(u222001:Value).ownBlock∧k_≠gb233) (fun k_=>some k_=(.slice Ao34 t239.length co34:Value).ownBlock) rfl rfl ?aP (fun k_ hk_=>((Kd.R_mono (ok':=fun k_=>((fun k_=>some k_≠(u222001:Value).ownBlock∧k_≠gb233)) k_∧some k_≠(u221000:Value).ownBlock) (Kd.R_types (Kd.R_apart' (HO_243001.out) (Kd.S_typed HO_221000.out) (by decide)) BK233.out (by decide)) (fun k_ hk=>⟨⟨hk.1.1,hk.2⟩,hk.1.2⟩))).1 k_ hk_.symm) ?aF ?aO ?aB ?aS ?aL ?_
                 (case aP=>exact k40_mkM _ _ _ (⟨(⟨t238,t239⟩:S38),t251,!t238⟩:S40) (Kd.R_mono (Kd.R_tight rfl (Kd.R_mono (ok':=fun k_=>((fun k_=>some k_≠(u222001:Value).ownBlock∧k_≠gb233)) k_∧some k_≠(u221000:Value).ownBlock) (Kd.R_types (Kd.R_apart' (HO_243001.out) (Kd.S_typed HO_221000.out) (by decide)) BK233.out (by decide)) (fun k_ hk=>⟨⟨hk.1.1,hk.2⟩,hk.1.2⟩))) (fun _ h_=>h_)))
                 (case aB=>exact (by repeat (first|(with_reducible first|exact HB.out|apply bA_|apply bN_|apply bD_|refine bs_ ?_ GE220.out|refine bs_ ?_ GE221.out|refine bs_ ?_ GE233.out|refine bs_ ?_ GE242.out)|exact HB.out)))
                 (case aF=>exact (fun k_ hk=>⟨Kd.fresh' (Kd.R_lt (by (with_reducible repeat (first|apply rA_|apply rN_|apply rD_));exact HO_222001.out)) k_ hk,Kd.freshB (g:=gb233) (o:=.cells #[.bool ((rd_T40 ((rd_T33 l0 x5_1).f0) x8_2).f0.f0),.slice A232_1 ((rd_T40 ((rd_T33 l0 x5_1).f0) x8_2).f0.f1).length c232_1,.int .i64 ((rd_T40 ((rd_T33 l0 x5_1).f0) x8_2).f1),.bool ((rd_T40 ((rd_T33 l0 x5_1).f0) x8_2).f2)] 40 (0,0)) (by (with_reducible repeat (first|refine bq_ ?_ _|refine bw_ ?_|refine bz_ ?_ _));exact BK233.out) k_ hk⟩))
                 (case aO=>exact (by (with_reducible repeat (first|apply Kd.S_alloc|apply Kd.S_drewN|apply Kd.S_drew));exact Kd.S_mono HO_221000.out (fun k_ hk=>⟨⟨hk.1,hk.2.2⟩,fun e_=>hk.2.1 e_⟩)))
                 (case aS=>exact (be_ (by repeat (first|(with_reducible first|exact HB.out|apply bA_|apply bN_|apply bD_|refine bs_ ?_ GE220.out|refine bs_ ?_ GE221.out|refine bs_ ?_ GE233.out|refine bs_ ?_ GE242.out)|exact HB.out))))
                 (case aL=>have:=LMc48.out;omega)
                 intro v253 w50 ho hb hg hat
                 rw [← Ny252.out] at ho
                 have n0_:=Az.mk (Kd.R_after (ok:=(fun k_=>some k_≠(u222001:Value).ownBlock∧some k_≠(.slice Ao34 t239.length co34:Value).ownBlock∧k_≠gb220∧k_≠gb233)) (by (with_reducible repeat (first|apply rA_|apply rN_|apply rD_));exact Kd.R_mono HO_4.out (fun _ hk=>⟨⟨hk.2.1,⟨hk.2.2.1,⟨hk.2.2.2.1,hk.2.2.2.2⟩⟩⟩,hk.1⟩)) hg hat)
                 have n1_:=Az.mk (Kd.R_over' (by (with_reducible repeat (first|apply rA_|apply rN_|apply rD_));exact HO_222001.out) (Kd.S_typed (by (with_reducible repeat (first|apply Kd.S_alloc|apply Kd.S_drewN|apply Kd.S_drew));exact HO_221000.out)) (by decide) hg)
                 have n2_:=Az.mk (blk_grown (g:=gb220) (o:=.cells #[u221000,.bool false,.bool false] 33 (0,0)) (by (with_reducible repeat (first|refine bq_ ?_ _|refine bw_ ?_|refine bz_ ?_ _));exact BK220.out) hg (Kd.S_ne HO_221000.out BK220.out (by decide)))
                 have n3_:=Az.mk (blk_grown (g:=gb221) (o:=.cells #[.bool x222000_19,u222001] 38 (0,0)) (by (with_reducible repeat (first|refine bq_ ?_ _|refine bw_ ?_|refine bz_ ?_ _));exact BK221.out) hg (Kd.S_ne HO_221000.out BK221.out (by decide)))
                 have n4_:=Az.mk (blk_grown (g:=gb233) (o:=.cells #[.bool ((rd_T40 ((rd_T33 l0 x5_1).f0) x8_2).f0.f0),.slice A232_1 ((rd_T40 ((rd_T33 l0 x5_1).f0) x8_2).f0.f1).length c232_1,.int .i64 ((rd_T40 ((rd_T33 l0 x5_1).f0) x8_2).f1),.bool ((rd_T40 ((rd_T33 l0 x5_1).f0) x8_2).f2)] 40 (0,0)) (by (with_reducible repeat (first|refine bq_ ?_ _|refine bw_ ?_|refine bz_ ?_ _));exact BK233.out) hg (Kd.S_away HO_221000.out (fun _ hk=>hk.2.2)))
                 have n5_:=Az.mk (blk_grown (g:=gb242) (o:=.cells #[.bool t238,.slice Ao34 t239.length co34] 38 (0,0)) (by (with_reducible repeat (first|refine bq_ ?_ _|refine bw_ ?_|refine bz_ ?_ _));exact BK242.out) hg (Kd.S_ne HO_221000.out BK242.out (by decide)))
                 have n6_:=Az.mk (hb)
                 have n7_:=Az.mk (ho)
                 clear HO_4
                 clear HO_222001
                 clear BK220
                 clear BK221
                 clear BK233
                 clear BK242
                 clear HB
                 clear HO_221000
                 clear HO_243001
                 have HO_4:=n0_
                 have HO_222001:=n1_
                 have BK220:=n2_
                 have BK221:=n3_
                 have BK233:=n4_
                 have BK242:=n5_
                 have HB:=n6_
                 have HO254:=n7_
                 clear n0_ n1_ n2_ n3_ n4_ n5_ n6_ n7_
                 clear ho hb hg hat
                 obtain ⟨Ao51,co51,eo51⟩:=Kd.S_slice HO254.out
                 (first|subst eo51|(injection eo51 with f1_ f2_ f3_;have f4_:=f1_.symm;have f5_:=f3_.symm;clear f1_ f2_ f3_;subst f4_;subst f5_))
                 refine hK.out _ _ ⟨(bc_ BK220.out 0).trans rfl,(bc_ BK220.out 1).trans rfl,(bc_ BK220.out 2).trans rfl,(bc_ BK242.out 0).trans rfl,(bc_ BK242.out 1).trans rfl,(bc_ BK233.out 0).trans rfl,(bc_ BK233.out 1).trans rfl,(bc_ BK233.out 2).trans rfl,(bc_ BK233.out 3).trans rfl⟩ (fun hHeld=>?_)
                 clear hK K
                 refine norm_ (a':=?_) ?_ ?_
                 rotate_left
                 ·show Act.put _ (some 74) _=_
                  simp only [Act.put,sA_,sB_,sC_,i64_w,i32_w]
                  rfl
                 refine pure_ (i:=17) (N:=some 75) (v:=?_) (a':=?_) #[true,true,true,true,true,true,true,true,true,true,true,true,true,true,true,true,true,true,false] rfl rfl (any_of HT_.out (by kernel_rfl)) (fun _ _ _ h=>h) (Or.inl ⟨by rfl,?_⟩) ?_ ?_
                 rotate_left
                 ·intro w'
                  go_simp
                  with_reducible rfl
                 rotate_left
                 ·simp only [Act.put,sA_,sB_,sC_,i64_w,i32_w]
                  rfl
                 refine last_ (i:=18) (N:=none) #[true,true,true,true,true,true,true,true,true,true,true,true,true,true,true,true,true,true,true] rfl rfl (one_of HT_.out (by kernel_rfl)) (by decide) (fun K hK=>?_)
                 have hs52:w50.cell? ⟨gb220,0,none⟩=some (u221000):=(bc_ BK220.out 0).trans rfl
                 have hfs52:=bf_ BK220.out 0
                 have hns52_1:=NB221_220.out
                 have hns52_2:=NB233_220.out
                 have hns52_3:=NB242_220.out
                 have hms52_1:=NB220_221.out
                 have hms52_2:=NB220_233.out
                 have hms52_3:=NB220_242.out
                 refine skip_ (w1:=?_) (by rfl) rfl ?_ ?_
                 rotate_left
                 ·go_simp
                  rfl
                 refine hK.out _ _ ?_
                 clear hK K
                 refine done_ (done_of HT_.out (by kernel_rfl)) ?_
                 try go_wp2
                 go_roundg kj19
                 case measure=>have:=HK1.out;have:=HK2.out;have:=HJ8.out;have:=HJ19.out;omega
                 case rel=>exact ⟨(wrap64 (x8_2+1)),(y252),(x222000_19),(x222001_19),(.slice Ao51 y252.length co51),(u222001),(by first|rfl|(simp;done)|(simp [*];done)),H',⟨by have:=HK1.out;have:=HK2.out;have:=HJ8.out;have:=HJ19.out;omega⟩,⟨by (with_reducible repeat (first|apply rA_|apply rN_|apply rD_));exact Kd.R_mono (Kd.R_far (p:=⟨gb220,0,none⟩) (Kd.R_mono HO_4.out (fun k_ hk=>(⟨hk,hk.1.2.2.1⟩:_∧k_≠gb220))) (fun _ hk=>hk.2) (.slice Ao51 y252.length co51)) (fun _ hk=>⟨hk.1.2,⟨hk.1.1.1,hk.1.1.2.2.1⟩⟩)⟩,⟨by (with_reducible repeat (first|apply Kd.S_alloc|apply Kd.S_drewN|apply Kd.S_drew));exact Kd.S_mono (Kd.S_far (p:=⟨gb220,0,none⟩) (Kd.S_types HO254.out BK220.out (by decide)) (fun _ hk=>hk.2) (.slice Ao51 y252.length co51)) (fun _ hk=>hk.1.1)⟩,⟨by (with_reducible repeat (first|apply rA_|apply rN_|apply rD_));exact Kd.R_mono (Kd.R_far (p:=⟨gb220,0,none⟩) (Kd.R_types HO_222001.out BK220.out (by decide)) (fun _ hk=>hk.2) (.slice Ao51 y252.length co51)) (fun _ hk=>trivial)⟩,⟨by (with_reducible repeat (first|refine bq_ ?_ _|refine bw_ ?_|refine bz_ ?_ _));refine blk_put (cs:=#[u221000,.bool false,.bool false]) ?_ 0 _ rfl;(with_reducible repeat (first|refine bq_ ?_ _|refine bw_ ?_|refine bz_ ?_ _));exact BK220.out⟩,⟨by (with_reducible repeat (first|refine bq_ ?_ _|refine bw_ ?_|refine bz_ ?_ _));refine blk_far ?_ NB221_220.out _;(with_reducible repeat (first|refine bq_ ?_ _|refine bw_ ?_|refine bz_ ?_ _));exact BK221.out⟩,⟨by repeat (first|(with_reducible first|exact HB.out|apply bA_|apply bN_|apply bD_|refine bs_ ?_ GE220.out|refine bs_ ?_ GE221.out|refine bs_ ?_ GE233.out|refine bs_ ?_ GE242.out)|exact HB.out)⟩⟩
                ·rw [if_neg c48] at H
                 exact absurd H (by simp)
               ·rw [if_neg c47] at H
                have c47b0:((rd_T40 ((rd_T33 l0 x5_1).f0) x8_2).f2)=false:=by simpa using c47
                clear c47
                by_cases c53:x221000_2.length < 2932031007402
                ·rw [if_pos c53] at H
                 have LMc53:=Az.mk c53
                 clear c53
                 obtain ⟨y255,hy255⟩:∃ y_:List (S40),y_=(x221000_2 ++ [(⟨(⟨t238,t239⟩:S38),t251,false⟩:S40)]):=⟨_,rfl⟩
                 replace H:(cadencelaw4_Make.l1 kj19 l0 ji3 x4_1 x5_1 (wrap64 (x8_2+1)) y255 false false x222000_19 x222001_19)=some r:=by first|(rw [hy255];with_reducible exact H)|(have H2_:=(Option.bind_some _ _).symm.trans H;rw [hy255];with_reducible exact H2_)|(have H2_:=(Option.bind_some _ _).symm.trans H;with_reducible exact H2_)|with_reducible exact H|(rw [hy255];exact H)|exact H
                 have Ny255:=Az.mk hy255
                 clear hy255
                 have H':=Az.mk H
                 clear H
                 try go_wp2
                 have n0_:=Az.mk (rD_ HO_4.out)
                 have n1_:=Az.mk (Kd.S_drew HO_221000.out)
                 have n2_:=Az.mk (rD_ HO_222001.out)
                 have n3_:=Az.mk (rD_ HO_243001.out)
                 have n4_:=Az.mk (bw_ BK220.out)
                 have n5_:=Az.mk (bw_ BK221.out)
                 have n6_:=Az.mk (bw_ BK233.out)
                 have n7_:=Az.mk (bw_ BK242.out)
                 have n8_:=Az.mk (bD_ HB.out)
                 clear HO_4
                 clear HO_221000
                 clear HO_222001
                 clear HO_243001
                 clear BK220
                 clear BK221
                 clear BK233
                 clear BK242
                 clear HB
                 have HO_4:=n0_
                 have HO_221000:=n1_
                 have HO_222001:=n2_
                 have HO_243001:=n3_
                 have BK220:=n4_
                 have BK221:=n5_
                 have BK233:=n6_
                 have BK242:=n7_
                 have HB:=n8_
                 clear n0_ n1_ n2_ n3_ n4_ n5_ n6_ n7_ n8_
                 refine start_ (n:=19) (S:=fun w'=>w'.cell? ⟨gb220,0,none⟩=some (u221000)∧w'.cell? ⟨gb220,1,none⟩=some (.bool false)∧w'.cell? ⟨gb220,2,none⟩=some (.bool false)∧w'.cell? ⟨gb242,0,none⟩=some (.bool t238)∧w'.cell? ⟨gb242,1,none⟩=some (.slice Ao34 t239.length co34)∧w'.cell? ⟨gb233,0,none⟩=some (.bool ((rd_T40 ((rd_T33 l0 x5_1).f0) x8_2).f0.f0))∧w'.cell? ⟨gb233,1,none⟩=some (.slice A232_1 ((rd_T40 ((rd_T33 l0 x5_1).f0) x8_2).f0.f1).length c232_1)∧w'.cell? ⟨gb233,2,none⟩=some (.int .i64 ((rd_T40 ((rd_T33 l0 x5_1).f0) x8_2).f1))∧w'.cell? ⟨gb233,3,none⟩=some (.bool ((rd_T40 ((rd_T33 l0 x5_1).f0) x8_2).f2))) (ds:=[18]) #[false,false,false,false,false,false,false,false,false,false,false,false,false,false,false,false,false,false,false] (by kernel_rfl) rfl rfl ⟨(bc_ BK220.out 0).trans rfl,(bc_ BK220.out 1).trans rfl,(bc_ BK220.out 2).trans rfl,(bc_ BK242.out 0).trans rfl,(bc_ BK242.out 1).trans rfl,(bc_ BK233.out 0).trans rfl,(bc_ BK233.out 1).trans rfl,(bc_ BK233.out 2).trans rfl,(bc_ BK233.out 3).trans rfl⟩ (fun hHeld=>?_);refine with_tabW cadencelaw4_Make.tab15 cadencelaw4_Make.bits15 (fun HT_ HW_=>?_)
                 generalize wc.drew=w54 at HO_4 HO_221000 HO_222001 HO_243001 BK220 BK221 BK233 BK242 HB hHeld ⊢
                 refine pure_ (i:=0) (N:=some 58) (v:=?_) (a':=?_) #[true,false,false,false,false,false,false,false,false,false,false,false,false,false,false,false,false,false,false] rfl rfl (any_of HT_.out (by kernel_rfl)) (fun _ _ _ h=>h) (Or.inl ⟨by rfl,?_⟩) ?_ ?_
                 rotate_left
                 ·intro w'
                  go_simp
                  with_reducible rfl
                 rotate_left
                 ·simp only [Act.put,sA_,sB_,sC_,i64_w,i32_w]
                  rfl
                 refine pure_ (i:=3) (N:=some 61) (v:=?_) (a':=?_) #[true,false,false,true,false,false,false,false,false,false,false,false,false,false,false,false,false,false,false] rfl rfl (any_of HT_.out (by kernel_rfl)) (fun _ _ _ h=>h) (Or.inl ⟨by rfl,?_⟩) ?_ ?_
                 rotate_left
                 ·intro w'
                  go_simp
                  with_reducible rfl
                 rotate_left
                 ·simp only [Act.put,sA_,sB_,sC_,i64_w,i32_w]
                  rfl
                 refine pure_ (i:=5) (N:=some 63) (v:=?_) (a':=?_) #[true,false,false,true,false,true,false,false,false,false,false,false,false,false,false,false,false,false,false] rfl rfl (any_of HT_.out (by kernel_rfl)) (fun _ _ _ h=>h) (Or.inl ⟨by rfl,?_⟩) ?_ ?_
                 rotate_left
                 ·intro w'
                  go_simp
                  with_reducible rfl
                 rotate_left
                 ·simp only [Act.put,sA_,sB_,sC_,i64_w,i32_w]
                  rfl
                 refine pure_ (i:=7) (N:=some 65) (v:=?_) (a':=?_) #[true,false,false,true,false,true,false,true,false,false,false,false,false,false,false,false,false,false,false] rfl rfl (any_of HT_.out (by kernel_rfl)) (fun _ _ _ h=>h) (Or.inl ⟨by rfl,?_⟩) ?_ ?_
                 rotate_left
                 ·intro w'
                  go_simp
                  with_reducible rfl
                 rotate_left
                 ·simp only [Act.put,sA_,sB_,sC_,i64_w,i32_w]
                  rfl
                 refine take_ (i:=1) (N:=some 59) (v:=?_) (a':=?_) #[true,true,false,true,false,true,false,true,false,false,false,false,false,false,false,false,false,false,false] rfl rfl (take_ofW HT_.out HW_.out (by kernel_rfl)) (fun _ _ _ h=>h) (Or.inl ⟨by rfl,?_⟩) hHeld ?_ ?_
                 rotate_left
                 ·rintro w' ⟨s0,s1,s2,s3,s4,s5,s6,s7,s8⟩
                  go_simp
                  with_reducible rfl
                 rotate_left
                 ·simp only [Act.put,sA_,sB_,sC_,i64_w,i32_w]
                  rfl
                 refine take_ (i:=2) (N:=some 60) (v:=?_) (a':=?_) #[true,true,true,true,false,true,false,true,false,false,false,false,false,false,false,false,false,false,false] rfl rfl (take_ofW HT_.out HW_.out (by kernel_rfl)) (fun _ _ _ h=>h) (Or.inl ⟨by rfl,?_⟩) hHeld ?_ ?_
                 rotate_left
                 ·rintro w' ⟨s0,s1,s2,s3,s4,s5,s6,s7,s8⟩
                  go_simp
                  with_reducible rfl
                 rotate_left
                 ·simp only [Act.put,sA_,sB_,sC_,i64_w,i32_w]
                  rfl
                 refine take_ (i:=4) (N:=some 62) (v:=?_) (a':=?_) #[true,true,true,true,true,true,false,true,false,false,false,false,false,false,false,false,false,false,false] rfl rfl (take_ofW HT_.out HW_.out (by kernel_rfl)) (fun _ _ _ h=>h) (Or.inl ⟨by rfl,?_⟩) hHeld ?_ ?_
                 rotate_left
                 ·rintro w' ⟨s0,s1,s2,s3,s4,s5,s6,s7,s8⟩
                  go_simp
                  with_reducible rfl
                 rotate_left
                 ·simp only [Act.put,sA_,sB_,sC_,i64_w,i32_w]
                  rfl
                 refine take_ (i:=8) (N:=some 66) (v:=?_) (a':=?_) #[true,true,true,true,true,true,false,true,true,false,false,false,false,false,false,false,false,false,false] rfl rfl (take_ofW HT_.out HW_.out (by kernel_rfl)) (fun _ _ _ h=>h) (Or.inl ⟨by rfl,?_⟩) hHeld ?_ ?_
                 rotate_left
                 ·rintro w' ⟨s0,s1,s2,s3,s4,s5,s6,s7,s8⟩
                  go_simp
                  with_reducible rfl
                 rotate_left
                 ·simp only [Act.put,sA_,sB_,sC_,i64_w,i32_w]
                  rfl
                 refine one_ (i:=6) (N:=some 64) #[true,true,true,true,true,true,true,true,true,false,false,false,false,false,false,false,false,false,false] rfl rfl (one_of HT_.out (by kernel_rfl)) (by decide) (fun K hK=>?_)
                 refine goes_ Try.func13 (by kernel_rfl) rfl #[.int .i64 ((rd_T40 ((rd_T33 l0 x5_1).f0) x8_2).f1),.int .i64 ji3] (by rfl) rfl rfl (by (try simp only [List.map_toArray,List.map_cons,List.map_nil]);first|done|(simp only [hji3];rfl)|rfl|(simp only [List.length_drop,List.length_take];rfl)) ?_
                 with_reducible refine (cadencelaw4_within.calls ((rd_T40 ((rd_T33 l0 x5_1).f0) x8_2).f1) ji3 t251 _ A46.out).mono ?_
                 rintro e w' ⟨rfl,⟨nd,rfl⟩⟩
                 refine ⟨_,rfl,?_⟩
                 refine hK.out _ _ ⟨(bc_ BK220.out 0).trans rfl,(bc_ BK220.out 1).trans rfl,(bc_ BK220.out 2).trans rfl,(bc_ BK242.out 0).trans rfl,(bc_ BK242.out 1).trans rfl,(bc_ BK233.out 0).trans rfl,(bc_ BK233.out 1).trans rfl,(bc_ BK233.out 2).trans rfl,(bc_ BK233.out 3).trans rfl⟩ (fun hHeld=>?_)
                 clear hK K
                 refine norm_ (a':=?_) ?_ ?_
                 rotate_left
                 ·show Act.put _ (some 64) _=_
                  simp only [Act.put,sA_,sB_,sC_,i64_w,i32_w]
                  rfl
                 refine pure_ (i:=9) (N:=some 67) (v:=?_) (a':=?_) #[true,true,true,true,true,true,true,true,true,true,false,false,false,false,false,false,false,false,false] rfl rfl (any_of HT_.out (by kernel_rfl)) (fun _ _ _ h=>h) (Or.inl ⟨by rfl,?_⟩) ?_ ?_
                 rotate_left
                 ·intro w'
                  go_simp
                  with_reducible rfl
                 rotate_left
                 ·simp only [Act.put,sA_,sB_,sC_,i64_w,i32_w]
                  rfl
                 refine pure_ (i:=10) (N:=some 68) (v:=undef) (a':=?_) #[true,true,true,true,true,true,true,true,true,true,true,false,false,false,false,false,false,false,false] rfl rfl (any_of HT_.out (by kernel_rfl)) (fun _ _ _ h=>h) (Or.inr ⟨by rfl,rfl⟩) ?_ ?_
                 rotate_left
                 ·simp only [Act.put,sA_,sB_,sC_,i64_w,i32_w]
                  rfl
                 refine pure_ (i:=11) (N:=some 69) (v:=undef) (a':=?_) #[true,true,true,true,true,true,true,true,true,true,true,true,false,false,false,false,false,false,false] rfl rfl (any_of HT_.out (by kernel_rfl)) (fun _ _ _ h=>h) (Or.inr ⟨by rfl,rfl⟩) ?_ ?_
                 rotate_left
                 ·simp only [Act.put,sA_,sB_,sC_,i64_w,i32_w]
                  rfl
                 refine pure_ (i:=12) (N:=some 70) (v:=undef) (a':=?_) #[true,true,true,true,true,true,true,true,true,true,true,true,true,false,false,false,false,false,false] rfl rfl (any_of HT_.out (by kernel_rfl)) (fun _ _ _ h=>h) (Or.inr ⟨by rfl,rfl⟩) ?_ ?_
                 rotate_left
                 ·simp only [Act.put,sA_,sB_,sC_,i64_w,i32_w]
                  rfl
                 refine pure_ (i:=13) (N:=some 71) (v:=?_) (a':=?_) #[true,true,true,true,true,true,true,true,true,true,true,true,true,true,false,false,false,false,false] rfl rfl (any_of HT_.out (by kernel_rfl)) (fun _ _ _ h=>h) (Or.inl ⟨by rfl,?_⟩) ?_ ?_
                 rotate_left
                 ·intro w'
                  go_simp
                  with_reducible rfl
                 rotate_left
                 ·simp only [Act.put,sA_,sB_,sC_,i64_w,i32_w]
                  rfl
                 refine pure_ (i:=14) (N:=some 72) (v:=?_) (a':=?_) #[true,true,true,true,true,true,true,true,true,true,true,true,true,true,true,false,false,false,false] rfl rfl (any_of HT_.out (by kernel_rfl)) (fun _ _ _ h=>h) (Or.inl ⟨by rfl,?_⟩) ?_ ?_
                 rotate_left
                 ·intro w'
                  go_simp
                  with_reducible rfl
                 rotate_left
                 ·simp only [Act.put,sA_,sB_,sC_,i64_w,i32_w]
                  rfl
                 refine one_ (i:=15) (N:=some 73) #[true,true,true,true,true,true,true,true,true,true,true,true,true,true,true,true,false,false,false] rfl rfl (one_of HT_.out (by kernel_rfl)) (by decide) (fun K hK=>?_)
                 refine value_ (w1:=?_) (v:=?_) (by rfl) rfl ?_ ?_
                 rotate_left 2
                 ·go_simp
                  constructor
                  ·rfl
                  ·rfl
                 refine hK.out _ _ ⟨(bc_ (bz_ BK220.out _) 0).trans rfl,(bc_ (bz_ BK220.out _) 1).trans rfl,(bc_ (bz_ BK220.out _) 2).trans rfl,(bc_ (bz_ BK242.out _) 0).trans rfl,(bc_ (bz_ BK242.out _) 1).trans rfl,(bc_ (bz_ BK233.out _) 0).trans rfl,(bc_ (bz_ BK233.out _) 1).trans rfl,(bc_ (bz_ BK233.out _) 2).trans rfl,(bc_ (bz_ BK233.out _) 3).trans rfl⟩ (fun hHeld=>?_)
                 clear hK K
                 refine norm_ (a':=?_) ?_ ?_
                 rotate_left
                 ·show Act.put _ (some 73) _=_
                  simp only [Act.put,sA_,sB_,sC_,i64_w,i32_w]
                  rfl
                 refine one_ (i:=16) (N:=some 74) #[true,true,true,true,true,true,true,true,true,true,true,true,true,true,true,true,true,false,false] rfl rfl (one_of HT_.out (by kernel_rfl)) (by decide) (fun K hK=>?_)
                 refine Kd.S_append_step k40 (w0:=w) w.heap.size (by rfl) (.tmp 59) (.tmp 73) 31 40 (.agg #[(.bool false),(.slice none 0 0),(.int .i64 0),(.bool false)]) 48 rfl Try.underlying31 info40 rfl (by decide) (by omega) u221000 x221000_2 (⟨(⟨t238,t239⟩:S38),t251,false⟩:S40) [.bool t238,.slice Ao34 t239.length co34,.int .i64 t251,.bool false] (fun k_=>some k_≠(u222001:Value).ownBlock∧k_≠gb233) (fun k_=>some k_=(.slice Ao34 t239.length co34:Value).ownBlock) rfl rfl ?aP (fun k_ hk_=>((Kd.R_mono (ok':=fun k_=>((fun k_=>some k_≠(u222001:Value).ownBlock∧k_≠gb233)) k_∧some k_≠(u221000:Value).ownBlock) (Kd.R_types (Kd.R_apart' (HO_243001.out) (Kd.S_typed HO_221000.out) (by decide)) BK233.out (by decide)) (fun k_ hk=>⟨⟨hk.1.1,hk.2⟩,hk.1.2⟩))).1 k_ hk_.symm) ?aF ?aO ?aB ?aS ?aL ?_
                 (case aP=>exact k40_mkM _ _ _ (⟨(⟨t238,t239⟩:S38),t251,false⟩:S40) (Kd.R_mono (Kd.R_tight rfl (Kd.R_mono (ok':=fun k_=>((fun k_=>some k_≠(u222001:Value).ownBlock∧k_≠gb233)) k_∧some k_≠(u221000:Value).ownBlock) (Kd.R_types (Kd.R_apart' (HO_243001.out) (Kd.S_typed HO_221000.out) (by decide)) BK233.out (by decide)) (fun k_ hk=>⟨⟨hk.1.1,hk.2⟩,hk.1.2⟩))) (fun _ h_=>h_)))
                 (case aB=>exact (by repeat (first|(with_reducible first|exact HB.out|apply bA_|apply bN_|apply bD_|refine bs_ ?_ GE220.out|refine bs_ ?_ GE221.out|refine bs_ ?_ GE233.out|refine bs_ ?_ GE242.out)|exact HB.out)))
                 (case aF=>exact (fun k_ hk=>⟨Kd.fresh' (Kd.R_lt (by (with_reducible repeat (first|apply rA_|apply rN_|apply rD_));exact HO_222001.out)) k_ hk,Kd.freshB (g:=gb233) (o:=.cells #[.bool ((rd_T40 ((rd_T33 l0 x5_1).f0) x8_2).f0.f0),.slice A232_1 ((rd_T40 ((rd_T33 l0 x5_1).f0) x8_2).f0.f1).length c232_1,.int .i64 ((rd_T40 ((rd_T33 l0 x5_1).f0) x8_2).f1),.bool ((rd_T40 ((rd_T33 l0 x5_1).f0) x8_2).f2)] 40 (0,0)) (by (with_reducible repeat (first|refine bq_ ?_ _|refine bw_ ?_|refine bz_ ?_ _));exact BK233.out) k_ hk⟩))
                 (case aO=>exact (by (with_reducible repeat (first|apply Kd.S_alloc|apply Kd.S_drewN|apply Kd.S_drew));exact Kd.S_mono HO_221000.out (fun k_ hk=>⟨⟨hk.1,hk.2.2⟩,fun e_=>hk.2.1 e_⟩)))
                 (case aS=>exact (be_ (by repeat (first|(with_reducible first|exact HB.out|apply bA_|apply bN_|apply bD_|refine bs_ ?_ GE220.out|refine bs_ ?_ GE221.out|refine bs_ ?_ GE233.out|refine bs_ ?_ GE242.out)|exact HB.out))))
                 (case aL=>have:=LMc53.out;omega)
                 intro v256 w55 ho hb hg hat
                 rw [← Ny255.out] at ho
                 have n0_:=Az.mk (Kd.R_after (ok:=(fun k_=>some k_≠(u222001:Value).ownBlock∧some k_≠(.slice Ao34 t239.length co34:Value).ownBlock∧k_≠gb220∧k_≠gb233)) (by (with_reducible repeat (first|apply rA_|apply rN_|apply rD_));exact Kd.R_mono HO_4.out (fun _ hk=>⟨⟨hk.2.1,⟨hk.2.2.1,⟨hk.2.2.2.1,hk.2.2.2.2⟩⟩⟩,hk.1⟩)) hg hat)
                 have n1_:=Az.mk (Kd.R_over' (by (with_reducible repeat (first|apply rA_|apply rN_|apply rD_));exact HO_222001.out) (Kd.S_typed (by (with_reducible repeat (first|apply Kd.S_alloc|apply Kd.S_drewN|apply Kd.S_drew));exact HO_221000.out)) (by decide) hg)
                 have n2_:=Az.mk (blk_grown (g:=gb220) (o:=.cells #[u221000,.bool false,.bool false] 33 (0,0)) (by (with_reducible repeat (first|refine bq_ ?_ _|refine bw_ ?_|refine bz_ ?_ _));exact BK220.out) hg (Kd.S_ne HO_221000.out BK220.out (by decide)))
                 have n3_:=Az.mk (blk_grown (g:=gb221) (o:=.cells #[.bool x222000_19,u222001] 38 (0,0)) (by (with_reducible repeat (first|refine bq_ ?_ _|refine bw_ ?_|refine bz_ ?_ _));exact BK221.out) hg (Kd.S_ne HO_221000.out BK221.out (by decide)))
                 have n4_:=Az.mk (blk_grown (g:=gb233) (o:=.cells #[.bool ((rd_T40 ((rd_T33 l0 x5_1).f0) x8_2).f0.f0),.slice A232_1 ((rd_T40 ((rd_T33 l0 x5_1).f0) x8_2).f0.f1).length c232_1,.int .i64 ((rd_T40 ((rd_T33 l0 x5_1).f0) x8_2).f1),.bool ((rd_T40 ((rd_T33 l0 x5_1).f0) x8_2).f2)] 40 (0,0)) (by (with_reducible repeat (first|refine bq_ ?_ _|refine bw_ ?_|refine bz_ ?_ _));exact BK233.out) hg (Kd.S_away HO_221000.out (fun _ hk=>hk.2.2)))
                 have n5_:=Az.mk (blk_grown (g:=gb242) (o:=.cells #[.bool t238,.slice Ao34 t239.length co34] 38 (0,0)) (by (with_reducible repeat (first|refine bq_ ?_ _|refine bw_ ?_|refine bz_ ?_ _));exact BK242.out) hg (Kd.S_ne HO_221000.out BK242.out (by decide)))
                 have n6_:=Az.mk (hb)
                 have n7_:=Az.mk (ho)
                 clear HO_4
                 clear HO_222001
                 clear BK220
                 clear BK221
                 clear BK233
                 clear BK242
                 clear HB
                 clear HO_221000
                 clear HO_243001
                 have HO_4:=n0_
                 have HO_222001:=n1_
                 have BK220:=n2_
                 have BK221:=n3_
                 have BK233:=n4_
                 have BK242:=n5_
                 have HB:=n6_
                 have HO257:=n7_
                 clear n0_ n1_ n2_ n3_ n4_ n5_ n6_ n7_
                 clear ho hb hg hat
                 obtain ⟨Ao56,co56,eo56⟩:=Kd.S_slice HO257.out
                 (first|subst eo56|(injection eo56 with f1_ f2_ f3_;have f4_:=f1_.symm;have f5_:=f3_.symm;clear f1_ f2_ f3_;subst f4_;subst f5_))
                 refine hK.out _ _ ⟨(bc_ BK220.out 0).trans rfl,(bc_ BK220.out 1).trans rfl,(bc_ BK220.out 2).trans rfl,(bc_ BK242.out 0).trans rfl,(bc_ BK242.out 1).trans rfl,(bc_ BK233.out 0).trans rfl,(bc_ BK233.out 1).trans rfl,(bc_ BK233.out 2).trans rfl,(bc_ BK233.out 3).trans rfl⟩ (fun hHeld=>?_)
                 clear hK K
                 refine norm_ (a':=?_) ?_ ?_
                 rotate_left
                 ·show Act.put _ (some 74) _=_
                  simp only [Act.put,sA_,sB_,sC_,i64_w,i32_w]
                  rfl
                 refine pure_ (i:=17) (N:=some 75) (v:=?_) (a':=?_) #[true,true,true,true,true,true,true,true,true,true,true,true,true,true,true,true,true,true,false] rfl rfl (any_of HT_.out (by kernel_rfl)) (fun _ _ _ h=>h) (Or.inl ⟨by rfl,?_⟩) ?_ ?_
                 rotate_left
                 ·intro w'
                  go_simp
                  with_reducible rfl
                 rotate_left
                 ·simp only [Act.put,sA_,sB_,sC_,i64_w,i32_w]
                  rfl
                 refine last_ (i:=18) (N:=none) #[true,true,true,true,true,true,true,true,true,true,true,true,true,true,true,true,true,true,true] rfl rfl (one_of HT_.out (by kernel_rfl)) (by decide) (fun K hK=>?_)
                 have hs57:w55.cell? ⟨gb220,0,none⟩=some (u221000):=(bc_ BK220.out 0).trans rfl
                 have hfs57:=bf_ BK220.out 0
                 have hns57_1:=NB221_220.out
                 have hns57_2:=NB233_220.out
                 have hns57_3:=NB242_220.out
                 have hms57_1:=NB220_221.out
                 have hms57_2:=NB220_233.out
                 have hms57_3:=NB220_242.out
                 refine skip_ (w1:=?_) (by rfl) rfl ?_ ?_
                 rotate_left
                 ·go_simp
                  rfl
                 refine hK.out _ _ ?_
                 clear hK K
                 refine done_ (done_of HT_.out (by kernel_rfl)) ?_
                 try go_wp2
                 go_roundg kj19
                 case measure=>have:=HK1.out;have:=HK2.out;have:=HJ8.out;have:=HJ19.out;omega
                 case rel=>exact ⟨(wrap64 (x8_2+1)),(y255),(x222000_19),(x222001_19),(.slice Ao56 y255.length co56),(u222001),(by first|rfl|(simp;done)|(simp [*];done)),H',⟨by have:=HK1.out;have:=HK2.out;have:=HJ8.out;have:=HJ19.out;omega⟩,⟨by (with_reducible repeat (first|apply rA_|apply rN_|apply rD_));exact Kd.R_mono (Kd.R_far (p:=⟨gb220,0,none⟩) (Kd.R_mono HO_4.out (fun k_ hk=>(⟨hk,hk.1.2.2.1⟩:_∧k_≠gb220))) (fun _ hk=>hk.2) (.slice Ao56 y255.length co56)) (fun _ hk=>⟨hk.1.2,⟨hk.1.1.1,hk.1.1.2.2.1⟩⟩)⟩,⟨by (with_reducible repeat (first|apply Kd.S_alloc|apply Kd.S_drewN|apply Kd.S_drew));exact Kd.S_mono (Kd.S_far (p:=⟨gb220,0,none⟩) (Kd.S_types HO257.out BK220.out (by decide)) (fun _ hk=>hk.2) (.slice Ao56 y255.length co56)) (fun _ hk=>hk.1.1)⟩,⟨by (with_reducible repeat (first|apply rA_|apply rN_|apply rD_));exact Kd.R_mono (Kd.R_far (p:=⟨gb220,0,none⟩) (Kd.R_types HO_222001.out BK220.out (by decide)) (fun _ hk=>hk.2) (.slice Ao56 y255.length co56)) (fun _ hk=>trivial)⟩,⟨by (with_reducible repeat (first|refine bq_ ?_ _|refine bw_ ?_|refine bz_ ?_ _));refine blk_put (cs:=#[u221000,.bool false,.bool false]) ?_ 0 _ rfl;(with_reducible repeat (first|refine bq_ ?_ _|refine bw_ ?_|refine bz_ ?_ _));exact BK220.out⟩,⟨by (with_reducible repeat (first|refine bq_ ?_ _|refine bw_ ?_|refine bz_ ?_ _));refine blk_far ?_ NB221_220.out _;(with_reducible repeat (first|refine bq_ ?_ _|refine bw_ ?_|refine bz_ ?_ _));exact BK221.out⟩,⟨by repeat (first|(with_reducible first|exact HB.out|apply bA_|apply bN_|apply bD_|refine bs_ ?_ GE220.out|refine bs_ ?_ GE221.out|refine bs_ ?_ GE233.out|refine bs_ ?_ GE242.out)|exact HB.out)⟩⟩
                ·rw [if_neg c53] at H
                 exact absurd H (by simp)
            ·rw [if_neg c17] at H
             exact absurd H (by simp)
           ·rw [if_neg c16] at H
            exact absurd H (by simp)
          ·rw [if_neg c15] at H
           exact absurd H (by simp)
         ·rw [if_neg c14] at H
          exact absurd H (by simp)
        ·replace c13:=Bool.eq_false_iff.mpr c13
         subst c13
         have H1:(if x5_1 < (l0.length:Int) then (if 0≤x5_1 then (if x4_1.length < 4398046511104 then (cadencelaw4_Make.l0 kj8 l0 ji3 (x4_1 ++ [(⟨x221000_2,(rd_T33 l0 x5_1).f1,(rd_T33 l0 x5_1).f2⟩:S33)]) (wrap64 (x5_1+1))) else (none)) else (none)) else (if x4_1.length < 4398046511104 then (cadencelaw4_Make.l0 kj8 l0 ji3 (x4_1 ++ [(⟨x221000_2,false,false⟩:S33)]) (wrap64 (x5_1+1))) else (none)))=some r:=by rw [if_neg (show ¬ (false=true) by decide)] at H;exact H
         clear H
         have H:=H1
         clear H1
         by_cases c58:x5_1 < (l0.length:Int)
         ·rw [if_pos c58] at H
          have c58b0:decide (x5_1 < (l0.length:Int))=true:=decide_eq_true c58
          clear c58
          by_cases c59:0≤x5_1
          ·rw [if_pos c59] at H
           have c59b0:decide (0≤x5_1)=true:=decide_eq_true c59
           clear c59
           by_cases c60:x4_1.length < 4398046511104
           ·rw [if_pos c60] at H
            have LMc60:=Az.mk c60
            clear c60
            obtain ⟨y225,hy225⟩:∃ y_:List (S33),y_=(x4_1 ++ [(⟨x221000_2,(rd_T33 l0 x5_1).f1,(rd_T33 l0 x5_1).f2⟩:S33)]):=⟨_,rfl⟩
            replace H:(cadencelaw4_Make.l0 kj8 l0 ji3 y225 (wrap64 (x5_1+1)))=some r:=by first|(rw [hy225];with_reducible exact H)|(have H2_:=(Option.bind_some _ _).symm.trans H;rw [hy225];with_reducible exact H2_)|(have H2_:=(Option.bind_some _ _).symm.trans H;with_reducible exact H2_)|with_reducible exact H|(rw [hy225];exact H)|exact H
            have Ny225:=Az.mk hy225
            clear hy225
            have H':=Az.mk H
            clear H
            try go_wp2
            have n0_:=Az.mk (rD_ HO_4.out)
            have n1_:=Az.mk (Kd.S_drew HO_221000.out)
            have n2_:=Az.mk (rD_ HO_222001.out)
            have n3_:=Az.mk (bw_ BK220.out)
            have n4_:=Az.mk (bw_ BK221.out)
            have n5_:=Az.mk (bD_ HB.out)
            clear HO_4
            clear HO_221000
            clear HO_222001
            clear BK220
            clear BK221
            clear HB
            have HO_4:=n0_
            have HO_221000:=n1_
            have HO_222001:=n2_
            have BK220:=n3_
            have BK221:=n4_
            have HB:=n5_
            clear n0_ n1_ n2_ n3_ n4_ n5_
            have p223:0≤(x5_1:Int):=of_decide_eq_true (by first|(with_reducible assumption)|assumption)
            have q223:x5_1 < (l0.length:Int):=of_decide_eq_true (by first|(with_reducible assumption)|assumption)
            obtain ⟨ad223,A223_0,c223_0,e223,hx223_0,hx223_1,hx223_2,hl223_0,hi223_0⟩:=at_T33 HR0.out x5_1 p223 q223
            have hw223_2:=hx223_2
            have hw223_1:=hx223_1
            have hw223_0:=hx223_0
            cases e223
            replace hx223_0:=(HB.out.cell (World.block_lt_of_cell? w _ hx223_0)).trans hx223_0
            replace hx223_1:=(HB.out.cell (World.block_lt_of_cell? w _ hx223_1)).trans hx223_1
            replace hx223_2:=(HB.out.cell (World.block_lt_of_cell? w _ hx223_2)).trans hx223_2
            have HR223_0:=Az.mk hi223_0
            have HC223_0:=Az.mk hl223_0
            clear hi223_0 hl223_0
            replace p223:=eq_true p223
            replace q223:=eq_true q223
            have p224:0≤(x5_1:Int):=of_decide_eq_true (by first|(with_reducible assumption)|assumption)
            have q224:x5_1 < (l0.length:Int):=of_decide_eq_true (by first|(with_reducible assumption)|assumption)
            obtain ⟨ad224,A224_0,c224_0,e224,hx224_0,hx224_1,hx224_2,hl224_0,hi224_0⟩:=at_T33 HR0.out x5_1 p224 q224
            have hw224_2:=hx224_2
            have hw224_1:=hx224_1
            have hw224_0:=hx224_0
            obtain rfl:ad223=ad224:=(by injection e224)
            replace hx224_0:=(HB.out.cell (World.block_lt_of_cell? w _ hx224_0)).trans hx224_0
            replace hx224_1:=(HB.out.cell (World.block_lt_of_cell? w _ hx224_1)).trans hx224_1
            replace hx224_2:=(HB.out.cell (World.block_lt_of_cell? w _ hx224_2)).trans hx224_2
            have HR224_0:=Az.mk hi224_0
            have HC224_0:=Az.mk hl224_0
            clear hi224_0 hl224_0
            replace p224:=eq_true p224
            replace q224:=eq_true q224
            have ea_:=Option.some.inj (hx223_0.symm.trans hx224_0)
            injection ea_ with ea_ en_ ec_
            subst ea_
            subst ec_
            clear en_
            refine start_ (n:=14) (S:=fun w'=>w'.cell? (ad223.add ((x5_1).toNat * 3))=some (.slice A223_0 ((rd_T33 l0 x5_1).f0).length c223_0)∧w'.cell? ⟨(ad223.add ((x5_1).toNat * 3)).block,(ad223.add ((x5_1).toNat * 3)).off+1,none⟩=some (.bool ((rd_T33 l0 x5_1).f1))∧w'.cell? ⟨(ad223.add ((x5_1).toNat * 3)).block,(ad223.add ((x5_1).toNat * 3)).off+2,none⟩=some (.bool ((rd_T33 l0 x5_1).f2))∧w'.cell? (ad223.add ((x5_1).toNat * 3))=some (.slice A223_0 ((rd_T33 l0 x5_1).f0).length c223_0)∧w'.cell? ⟨(ad223.add ((x5_1).toNat * 3)).block,(ad223.add ((x5_1).toNat * 3)).off+1,none⟩=some (.bool ((rd_T33 l0 x5_1).f1))∧w'.cell? ⟨(ad223.add ((x5_1).toNat * 3)).block,(ad223.add ((x5_1).toNat * 3)).off+2,none⟩=some (.bool ((rd_T33 l0 x5_1).f2))) (ds:=[]) #[false,false,false,false,false,false,false,false,false,false,false,false,false,false] (by kernel_rfl) rfl rfl ⟨((HB.out.cell (World.block_lt_of_cell? w _ hw223_0)).trans hw223_0),((HB.out.cell (World.block_lt_of_cell? w _ hw223_1)).trans hw223_1),((HB.out.cell (World.block_lt_of_cell? w _ hw223_2)).trans hw223_2),((HB.out.cell (World.block_lt_of_cell? w _ hw224_0)).trans hw224_0),((HB.out.cell (World.block_lt_of_cell? w _ hw224_1)).trans hw224_1),((HB.out.cell (World.block_lt_of_cell? w _ hw224_2)).trans hw224_2)⟩ (fun hHeld=>?_);refine with_tabW cadencelaw4_Make.tab17 cadencelaw4_Make.bits17 (fun HT_ HW_=>?_)
            generalize wc.drew=w61 at HO_4 HO_221000 HO_222001 BK220 BK221 HB HR223_0 HR224_0 hx223_0 hx223_1 hx223_2 hx224_0 hx224_1 hx224_2 hHeld ⊢
            refine pure_ (i:=0) (N:=some 80) (v:=?_) (a':=?_) #[true,false,false,false,false,false,false,false,false,false,false,false,false,false] rfl rfl (any_of HT_.out (by kernel_rfl)) (fun _ _ _ h=>h) (Or.inl ⟨by rfl,?_⟩) ?_ ?_
            rotate_left
            ·intro w'
             go_simp
             with_reducible rfl
            rotate_left
            ·simp only [Act.put,sA_,sB_,sC_,i64_w,i32_w]
             rfl
            refine pure_ (i:=1) (N:=some 81) (v:=?_) (a':=?_) #[true,true,false,false,false,false,false,false,false,false,false,false,false,false] rfl rfl (any_of HT_.out (by kernel_rfl)) (fun _ _ _ h=>h) (Or.inl ⟨by rfl,?_⟩) ?_ ?_
            rotate_left
            ·intro w'
             go_simp
             with_reducible rfl
            rotate_left
            ·simp only [Act.put,sA_,sB_,sC_,i64_w,i32_w]
             rfl
            refine pure_ (i:=2) (N:=some 82) (v:=?_) (a':=?_) #[true,true,true,false,false,false,false,false,false,false,false,false,false,false] rfl rfl (any_of HT_.out (by kernel_rfl)) (fun _ _ _ h=>h) (Or.inl ⟨by rfl,?_⟩) ?_ ?_
            rotate_left
            ·intro w'
             go_simp
             with_reducible rfl
            rotate_left
            ·simp only [Act.put,sA_,sB_,sC_,i64_w,i32_w]
             rfl
            refine pure_ (i:=3) (N:=some 83) (v:=?_) (a':=?_) #[true,true,true,true,false,false,false,false,false,false,false,false,false,false] rfl rfl (any_of HT_.out (by kernel_rfl)) (fun _ _ _ h=>h) (Or.inl ⟨by rfl,?_⟩) ?_ ?_
            rotate_left
            ·intro w'
             go_simp
             with_reducible rfl
            rotate_left
            ·simp only [Act.put,sA_,sB_,sC_,i64_w,i32_w]
             rfl
            refine pure_ (i:=5) (N:=some 85) (v:=?_) (a':=?_) #[true,true,true,true,false,true,false,false,false,false,false,false,false,false] rfl rfl (any_of HT_.out (by kernel_rfl)) (fun _ _ _ h=>h) (Or.inl ⟨by rfl,?_⟩) ?_ ?_
            rotate_left
            ·intro w'
             go_simp
             with_reducible rfl
            rotate_left
            ·simp only [Act.put,sA_,sB_,sC_,i64_w,i32_w]
             rfl
            refine pure_ (i:=6) (N:=some 86) (v:=?_) (a':=?_) #[true,true,true,true,false,true,true,false,false,false,false,false,false,false] rfl rfl (any_of HT_.out (by kernel_rfl)) (fun _ _ _ h=>h) (Or.inl ⟨by rfl,?_⟩) ?_ ?_
            rotate_left
            ·intro w'
             go_simp
             with_reducible rfl
            rotate_left
            ·simp only [Act.put,sA_,sB_,sC_,i64_w,i32_w]
             rfl
            refine pure_ (i:=7) (N:=some 87) (v:=?_) (a':=?_) #[true,true,true,true,false,true,true,true,false,false,false,false,false,false] rfl rfl (any_of HT_.out (by kernel_rfl)) (fun _ _ _ h=>h) (Or.inl ⟨by rfl,?_⟩) ?_ ?_
            rotate_left
            ·intro w'
             go_simp
             with_reducible rfl
            rotate_left
            ·simp only [Act.put,sA_,sB_,sC_,i64_w,i32_w]
             rfl
            refine pure_ (i:=8) (N:=some 88) (v:=?_) (a':=?_) #[true,true,true,true,false,true,true,true,true,false,false,false,false,false] rfl rfl (any_of HT_.out (by kernel_rfl)) (fun _ _ _ h=>h) (Or.inl ⟨by rfl,?_⟩) ?_ ?_
            rotate_left
            ·intro w'
             go_simp
             with_reducible rfl
            rotate_left
            ·simp only [Act.put,sA_,sB_,sC_,i64_w,i32_w]
             rfl
            refine take_ (i:=4) (N:=some 84) (v:=?_) (a':=?_) #[true,true,true,true,true,true,true,true,true,false,false,false,false,false] rfl rfl (take_ofW HT_.out HW_.out (by kernel_rfl)) (fun _ _ _ h=>h) (Or.inl ⟨by rfl,?_⟩) hHeld ?_ ?_
            rotate_left
            ·rintro w' ⟨s0,s1,s2,s3,s4,s5⟩
             go_simp
             with_reducible rfl
            rotate_left
            ·simp only [Act.put,sA_,sB_,sC_,i64_w,i32_w]
             rfl
            refine pure_ (i:=10) (N:=some 90) (v:=?_) (a':=?_) #[true,true,true,true,true,true,true,true,true,false,true,false,false,false] rfl rfl (any_of HT_.out (by kernel_rfl)) (fun _ _ _ h=>h) (Or.inl ⟨by rfl,?_⟩) ?_ ?_
            rotate_left
            ·intro w'
             go_simp
             with_reducible rfl
            rotate_left
            ·simp only [Act.put,sA_,sB_,sC_,i64_w,i32_w]
             rfl
            refine take_ (i:=9) (N:=some 89) (v:=?_) (a':=?_) #[true,true,true,true,true,true,true,true,true,true,true,false,false,false] rfl rfl (take_ofW HT_.out HW_.out (by kernel_rfl)) (fun _ _ _ h=>h) (Or.inl ⟨by rfl,?_⟩) hHeld ?_ ?_
            rotate_left
            ·rintro w' ⟨s0,s1,s2,s3,s4,s5⟩
             go_simp
             with_reducible rfl
            rotate_left
            ·simp only [Act.put,sA_,sB_,sC_,i64_w,i32_w]
             rfl
            refine one_ (i:=11) (N:=none) #[true,true,true,true,true,true,true,true,true,true,true,true,false,false] rfl rfl (one_of HT_.out (by kernel_rfl)) (by decide) (fun K hK=>?_)
            have hs62:w61.cell? ⟨gb220,1,none⟩=some (.bool false):=(bc_ BK220.out 1).trans rfl
            have hfs62:=bf_ BK220.out 1
            have hns62_1:=NB221_220.out
            have hms62_1:=NB220_221.out
            refine skip_ (w1:=?_) (by rfl) rfl ?_ ?_
            rotate_left
            ·go_simp
             rfl
            refine hK.out _ _ ⟨((cell_far (p:=⟨gb220,_,none⟩) (by first|exact Nat.ne_of_lt (Nat.lt_of_lt_of_le (by have:=World.block_lt_of_cell? _ _ hw223_0;first|rwa [add_block] at this|exact this) GW220.out)|(rw [add_block];exact Nat.ne_of_lt (Nat.lt_of_lt_of_le (by have:=World.block_lt_of_cell? _ _ hw223_0;first|rwa [add_block] at this|exact this) GW220.out))|(show (Addr.add _ _).block≠_;rw [add_block];exact Nat.ne_of_lt (Nat.lt_of_lt_of_le (by have:=World.block_lt_of_cell? _ _ hw223_0;first|rwa [add_block] at this|exact this) GW220.out))|(dsimp only;exact Nat.ne_of_lt (Nat.lt_of_lt_of_le (by have:=World.block_lt_of_cell? _ _ hw223_0;first|rwa [add_block] at this|exact this) GW220.out))) _).trans (hHeld.1)),((cell_far (p:=⟨gb220,_,none⟩) (by first|exact Nat.ne_of_lt (Nat.lt_of_lt_of_le (by have:=World.block_lt_of_cell? _ _ hw223_1;first|rwa [add_block] at this|exact this) GW220.out)|(rw [add_block];exact Nat.ne_of_lt (Nat.lt_of_lt_of_le (by have:=World.block_lt_of_cell? _ _ hw223_1;first|rwa [add_block] at this|exact this) GW220.out))|(show (Addr.add _ _).block≠_;rw [add_block];exact Nat.ne_of_lt (Nat.lt_of_lt_of_le (by have:=World.block_lt_of_cell? _ _ hw223_1;first|rwa [add_block] at this|exact this) GW220.out))|(dsimp only;exact Nat.ne_of_lt (Nat.lt_of_lt_of_le (by have:=World.block_lt_of_cell? _ _ hw223_1;first|rwa [add_block] at this|exact this) GW220.out))) _).trans (hHeld.2.1)),((cell_far (p:=⟨gb220,_,none⟩) (by first|exact Nat.ne_of_lt (Nat.lt_of_lt_of_le (by have:=World.block_lt_of_cell? _ _ hw223_2;first|rwa [add_block] at this|exact this) GW220.out)|(rw [add_block];exact Nat.ne_of_lt (Nat.lt_of_lt_of_le (by have:=World.block_lt_of_cell? _ _ hw223_2;first|rwa [add_block] at this|exact this) GW220.out))|(show (Addr.add _ _).block≠_;rw [add_block];exact Nat.ne_of_lt (Nat.lt_of_lt_of_le (by have:=World.block_lt_of_cell? _ _ hw223_2;first|rwa [add_block] at this|exact this) GW220.out))|(dsimp only;exact Nat.ne_of_lt (Nat.lt_of_lt_of_le (by have:=World.block_lt_of_cell? _ _ hw223_2;first|rwa [add_block] at this|exact this) GW220.out))) _).trans (hHeld.2.2.1)),((cell_far (p:=⟨gb220,_,none⟩) (by first|exact Nat.ne_of_lt (Nat.lt_of_lt_of_le (by have:=World.block_lt_of_cell? _ _ hw224_0;first|rwa [add_block] at this|exact this) GW220.out)|(rw [add_block];exact Nat.ne_of_lt (Nat.lt_of_lt_of_le (by have:=World.block_lt_of_cell? _ _ hw224_0;first|rwa [add_block] at this|exact this) GW220.out))|(show (Addr.add _ _).block≠_;rw [add_block];exact Nat.ne_of_lt (Nat.lt_of_lt_of_le (by have:=World.block_lt_of_cell? _ _ hw224_0;first|rwa [add_block] at this|exact this) GW220.out))|(dsimp only;exact Nat.ne_of_lt (Nat.lt_of_lt_of_le (by have:=World.block_lt_of_cell? _ _ hw224_0;first|rwa [add_block] at this|exact this) GW220.out))) _).trans (hHeld.2.2.2.1)),((cell_far (p:=⟨gb220,_,none⟩) (by first|exact Nat.ne_of_lt (Nat.lt_of_lt_of_le (by have:=World.block_lt_of_cell? _ _ hw224_1;first|rwa [add_block] at this|exact this) GW220.out)|(rw [add_block];exact Nat.ne_of_lt (Nat.lt_of_lt_of_le (by have:=World.block_lt_of_cell? _ _ hw224_1;first|rwa [add_block] at this|exact this) GW220.out))|(show (Addr.add _ _).block≠_;rw [add_block];exact Nat.ne_of_lt (Nat.lt_of_lt_of_le (by have:=World.block_lt_of_cell? _ _ hw224_1;first|rwa [add_block] at this|exact this) GW220.out))|(dsimp only;exact Nat.ne_of_lt (Nat.lt_of_lt_of_le (by have:=World.block_lt_of_cell? _ _ hw224_1;first|rwa [add_block] at this|exact this) GW220.out))) _).trans (hHeld.2.2.2.2.1)),((cell_far (p:=⟨gb220,_,none⟩) (by first|exact Nat.ne_of_lt (Nat.lt_of_lt_of_le (by have:=World.block_lt_of_cell? _ _ hw224_2;first|rwa [add_block] at this|exact this) GW220.out)|(rw [add_block];exact Nat.ne_of_lt (Nat.lt_of_lt_of_le (by have:=World.block_lt_of_cell? _ _ hw224_2;first|rwa [add_block] at this|exact this) GW220.out))|(show (Addr.add _ _).block≠_;rw [add_block];exact Nat.ne_of_lt (Nat.lt_of_lt_of_le (by have:=World.block_lt_of_cell? _ _ hw224_2;first|rwa [add_block] at this|exact this) GW220.out))|(dsimp only;exact Nat.ne_of_lt (Nat.lt_of_lt_of_le (by have:=World.block_lt_of_cell? _ _ hw224_2;first|rwa [add_block] at this|exact this) GW220.out))) _).trans (hHeld.2.2.2.2.2))⟩ (fun hHeld=>?_)
            clear hK K
            refine pure_ (i:=12) (N:=some 91) (v:=?_) (a':=?_) #[true,true,true,true,true,true,true,true,true,true,true,true,true,false] rfl rfl (any_of HT_.out (by kernel_rfl)) (fun _ _ _ h=>h) (Or.inl ⟨by rfl,?_⟩) ?_ ?_
            rotate_left
            ·intro w'
             go_simp
             with_reducible rfl
            rotate_left
            ·simp only [Act.put,sA_,sB_,sC_,i64_w,i32_w]
             rfl
            refine one_ (i:=13) (N:=none) #[true,true,true,true,true,true,true,true,true,true,true,true,true,true] rfl rfl (one_of HT_.out (by kernel_rfl)) (by decide) (fun K hK=>?_)
            have hs63:w61.cell? ⟨gb220,2,none⟩=some (.bool false):=(bc_ BK220.out 2).trans rfl
            have hfs63:=bf_ BK220.out 2
            have hns63_1:=NB221_220.out
            have hms63_1:=NB220_221.out
            refine skip_ (w1:=?_) (by rfl) rfl ?_ ?_
            rotate_left
            ·go_simp
             rfl
            refine hK.out _ _ ⟨((cell_far (p:=⟨gb220,_,none⟩) (by first|exact Nat.ne_of_lt (Nat.lt_of_lt_of_le (by have:=World.block_lt_of_cell? _ _ hw223_0;first|rwa [add_block] at this|exact this) GW220.out)|(rw [add_block];exact Nat.ne_of_lt (Nat.lt_of_lt_of_le (by have:=World.block_lt_of_cell? _ _ hw223_0;first|rwa [add_block] at this|exact this) GW220.out))|(show (Addr.add _ _).block≠_;rw [add_block];exact Nat.ne_of_lt (Nat.lt_of_lt_of_le (by have:=World.block_lt_of_cell? _ _ hw223_0;first|rwa [add_block] at this|exact this) GW220.out))|(dsimp only;exact Nat.ne_of_lt (Nat.lt_of_lt_of_le (by have:=World.block_lt_of_cell? _ _ hw223_0;first|rwa [add_block] at this|exact this) GW220.out))) _).trans (hHeld.1)),((cell_far (p:=⟨gb220,_,none⟩) (by first|exact Nat.ne_of_lt (Nat.lt_of_lt_of_le (by have:=World.block_lt_of_cell? _ _ hw223_1;first|rwa [add_block] at this|exact this) GW220.out)|(rw [add_block];exact Nat.ne_of_lt (Nat.lt_of_lt_of_le (by have:=World.block_lt_of_cell? _ _ hw223_1;first|rwa [add_block] at this|exact this) GW220.out))|(show (Addr.add _ _).block≠_;rw [add_block];exact Nat.ne_of_lt (Nat.lt_of_lt_of_le (by have:=World.block_lt_of_cell? _ _ hw223_1;first|rwa [add_block] at this|exact this) GW220.out))|(dsimp only;exact Nat.ne_of_lt (Nat.lt_of_lt_of_le (by have:=World.block_lt_of_cell? _ _ hw223_1;first|rwa [add_block] at this|exact this) GW220.out))) _).trans (hHeld.2.1)),((cell_far (p:=⟨gb220,_,none⟩) (by first|exact Nat.ne_of_lt (Nat.lt_of_lt_of_le (by have:=World.block_lt_of_cell? _ _ hw223_2;first|rwa [add_block] at this|exact this) GW220.out)|(rw [add_block];exact Nat.ne_of_lt (Nat.lt_of_lt_of_le (by have:=World.block_lt_of_cell? _ _ hw223_2;first|rwa [add_block] at this|exact this) GW220.out))|(show (Addr.add _ _).block≠_;rw [add_block];exact Nat.ne_of_lt (Nat.lt_of_lt_of_le (by have:=World.block_lt_of_cell? _ _ hw223_2;first|rwa [add_block] at this|exact this) GW220.out))|(dsimp only;exact Nat.ne_of_lt (Nat.lt_of_lt_of_le (by have:=World.block_lt_of_cell? _ _ hw223_2;first|rwa [add_block] at this|exact this) GW220.out))) _).trans (hHeld.2.2.1)),((cell_far (p:=⟨gb220,_,none⟩) (by first|exact Nat.ne_of_lt (Nat.lt_of_lt_of_le (by have:=World.block_lt_of_cell? _ _ hw224_0;first|rwa [add_block] at this|exact this) GW220.out)|(rw [add_block];exact Nat.ne_of_lt (Nat.lt_of_lt_of_le (by have:=World.block_lt_of_cell? _ _ hw224_0;first|rwa [add_block] at this|exact this) GW220.out))|(show (Addr.add _ _).block≠_;rw [add_block];exact Nat.ne_of_lt (Nat.lt_of_lt_of_le (by have:=World.block_lt_of_cell? _ _ hw224_0;first|rwa [add_block] at this|exact this) GW220.out))|(dsimp only;exact Nat.ne_of_lt (Nat.lt_of_lt_of_le (by have:=World.block_lt_of_cell? _ _ hw224_0;first|rwa [add_block] at this|exact this) GW220.out))) _).trans (hHeld.2.2.2.1)),((cell_far (p:=⟨gb220,_,none⟩) (by first|exact Nat.ne_of_lt (Nat.lt_of_lt_of_le (by have:=World.block_lt_of_cell? _ _ hw224_1;first|rwa [add_block] at this|exact this) GW220.out)|(rw [add_block];exact Nat.ne_of_lt (Nat.lt_of_lt_of_le (by have:=World.block_lt_of_cell? _ _ hw224_1;first|rwa [add_block] at this|exact this) GW220.out))|(show (Addr.add _ _).block≠_;rw [add_block];exact Nat.ne_of_lt (Nat.lt_of_lt_of_le (by have:=World.block_lt_of_cell? _ _ hw224_1;first|rwa [add_block] at this|exact this) GW220.out))|(dsimp only;exact Nat.ne_of_lt (Nat.lt_of_lt_of_le (by have:=World.block_lt_of_cell? _ _ hw224_1;first|rwa [add_block] at this|exact this) GW220.out))) _).trans (hHeld.2.2.2.2.1)),((cell_far (p:=⟨gb220,_,none⟩) (by first|exact Nat.ne_of_lt (Nat.lt_of_lt_of_le (by have:=World.block_lt_of_cell? _ _ hw224_2;first|rwa [add_block] at this|exact this) GW220.out)|(rw [add_block];exact Nat.ne_of_lt (Nat.lt_of_lt_of_le (by have:=World.block_lt_of_cell? _ _ hw224_2;first|rwa [add_block] at this|exact this) GW220.out))|(show (Addr.add _ _).block≠_;rw [add_block];exact Nat.ne_of_lt (Nat.lt_of_lt_of_le (by have:=World.block_lt_of_cell? _ _ hw224_2;first|rwa [add_block] at this|exact this) GW220.out))|(dsimp only;exact Nat.ne_of_lt (Nat.lt_of_lt_of_le (by have:=World.block_lt_of_cell? _ _ hw224_2;first|rwa [add_block] at this|exact this) GW220.out))) _).trans (hHeld.2.2.2.2.2))⟩ (fun hHeld=>?_)
            clear hK K
            refine done_ (done_of HT_.out (by kernel_rfl)) ?_
            have n0_:Az (Kd.R k33 33 ((w61.setCell ⟨gb220,1,none⟩ (.bool ((rd_T33 l0 x5_1).f1))).setCell ⟨gb220,2,none⟩ (.bool ((rd_T33 l0 x5_1).f2))) w.heap.size (fun k_=>some k_≠(u221000:Value).ownBlock∧some k_≠(u222001:Value).ownBlock∧k_≠gb220) u4 x4_1):=⟨by (with_reducible repeat (first|apply rA_|apply rN_|apply rD_));exact Kd.R_mono (Kd.R_far (p:=⟨gb220,2,none⟩) (Kd.R_far (p:=⟨gb220,1,none⟩) (Kd.R_mono HO_4.out (fun k_ hk=>(⟨hk,hk.2.2⟩:_∧k_≠gb220))) (fun _ hk=>hk.2) (.bool ((rd_T33 l0 x5_1).f1))) (fun _ hk=>hk.2) (.bool ((rd_T33 l0 x5_1).f2))) (fun _ hk=>⟨hk.1.1,⟨hk.1.2.1,hk.1.2.2⟩⟩)⟩
            have n1_:Az (Kd.S k40 40 ((w61.setCell ⟨gb220,1,none⟩ (.bool ((rd_T33 l0 x5_1).f1))).setCell ⟨gb220,2,none⟩ (.bool ((rd_T33 l0 x5_1).f2))) w.heap.size (fun k_=>some k_≠(u222001:Value).ownBlock) u221000 x221000_2):=⟨by (with_reducible repeat (first|apply Kd.S_alloc|apply Kd.S_drewN|apply Kd.S_drew));exact Kd.S_mono (Kd.S_far (p:=⟨gb220,2,none⟩) (Kd.S_far (p:=⟨gb220,1,none⟩) (Kd.S_types HO_221000.out BK220.out (by decide)) (fun _ hk=>hk.2) (.bool ((rd_T33 l0 x5_1).f1))) (fun _ hk=>hk.2) (.bool ((rd_T33 l0 x5_1).f2))) (fun _ hk=>hk.1)⟩
            have n2_:Az (Kd.R Kd.string 9 ((w61.setCell ⟨gb220,1,none⟩ (.bool ((rd_T33 l0 x5_1).f1))).setCell ⟨gb220,2,none⟩ (.bool ((rd_T33 l0 x5_1).f2))) w.heap.size (fun _=>True) u222001 x222001_2):=⟨by (with_reducible repeat (first|apply rA_|apply rN_|apply rD_));exact Kd.R_mono (Kd.R_far (p:=⟨gb220,2,none⟩) (Kd.R_far (p:=⟨gb220,1,none⟩) (Kd.R_types HO_222001.out BK220.out (by decide)) (fun _ hk=>hk.2) (.bool ((rd_T33 l0 x5_1).f1))) (fun _ hk=>hk.2) (.bool ((rd_T33 l0 x5_1).f2))) (fun _ hk=>trivial)⟩
            have n3_:Az (((w61.setCell ⟨gb220,1,none⟩ (.bool ((rd_T33 l0 x5_1).f1))).setCell ⟨gb220,2,none⟩ (.bool ((rd_T33 l0 x5_1).f2))).heap[gb220]? = some (.cells #[u221000,.bool ((rd_T33 l0 x5_1).f1),.bool ((rd_T33 l0 x5_1).f2)] 33 (0,0))):=⟨by (with_reducible repeat (first|refine bq_ ?_ _|refine bw_ ?_|refine bz_ ?_ _));refine blk_put (cs:=#[u221000,.bool ((rd_T33 l0 x5_1).f1),.bool false]) ?_ 2 _ rfl;(with_reducible repeat (first|refine bq_ ?_ _|refine bw_ ?_|refine bz_ ?_ _));refine blk_put (cs:=#[u221000,.bool false,.bool false]) ?_ 1 _ rfl;(with_reducible repeat (first|refine bq_ ?_ _|refine bw_ ?_|refine bz_ ?_ _));exact BK220.out⟩
            have n4_:Az (((w61.setCell ⟨gb220,1,none⟩ (.bool ((rd_T33 l0 x5_1).f1))).setCell ⟨gb220,2,none⟩ (.bool ((rd_T33 l0 x5_1).f2))).heap[gb221]? = some (.cells #[.bool x222000_2,u222001] 38 (0,0))):=⟨by (with_reducible repeat (first|refine bq_ ?_ _|refine bw_ ?_|refine bz_ ?_ _));refine blk_far ?_ NB221_220.out _;(with_reducible repeat (first|refine bq_ ?_ _|refine bw_ ?_|refine bz_ ?_ _));refine blk_far ?_ NB221_220.out _;(with_reducible repeat (first|refine bq_ ?_ _|refine bw_ ?_|refine bz_ ?_ _));exact BK221.out⟩
            have n5_:Az (Below w.heap.size w ((w61.setCell ⟨gb220,1,none⟩ (.bool ((rd_T33 l0 x5_1).f1))).setCell ⟨gb220,2,none⟩ (.bool ((rd_T33 l0 x5_1).f2)))):=⟨by repeat (first|(with_reducible first|exact HB.out|apply bA_|apply bN_|apply bD_|refine bs_ ?_ GE220.out|refine bs_ ?_ GE221.out)|exact HB.out)⟩
            (try clear HO_4)
            (try clear HO_221000)
            (try clear HO_222001)
            (try clear BK220)
            (try clear BK221)
            (try clear HB)
            generalize ((w61.setCell ⟨gb220,1,none⟩ (.bool ((rd_T33 l0 x5_1).f1))).setCell ⟨gb220,2,none⟩ (.bool ((rd_T33 l0 x5_1).f2)))=w64 at n0_ n1_ n2_ n3_ n4_ n5_ ⊢
            have HO_4:=n0_
            have HO_221000:=n1_
            have HO_222001:=n2_
            have BK220:=n3_
            have BK221:=n4_
            have HB:=n5_
            clear n0_ n1_ n2_ n3_ n4_ n5_
            have hnb65:=NB220_221.out
            have hnc65:=NB221_220.out
            have hcz66_0:w64.cell? ⟨gb220,0,none⟩=some (u221000):=(bc_ BK220.out 0).trans rfl
            have hcz66_1:w64.cell? ⟨gb220,1,none⟩=some (.bool ((rd_T33 l0 x5_1).f1)):=(bc_ BK220.out 1).trans rfl
            have hcz66_2:w64.cell? ⟨gb220,2,none⟩=some (.bool ((rd_T33 l0 x5_1).f2)):=(bc_ BK220.out 2).trans rfl
            have hfz66_0:=bf_ BK220.out 0
            have hfz66_1:=bf_ BK220.out 1
            have hfz66_2:=bf_ BK220.out 2
            obtain ⟨Ao68,co68,eo68⟩:=Kd.S_slice HO_221000.out
            subst eo68
            try go_wp2_with (first|((with_reducible refine gate_builtin (b:=.append) (xs:=#[.tmp 92,.tmp 94]) rfl ?_);(try (refine gate_guard (by rfl) ?_;dsimp only));at_builtin;refine Kd.R_append k33 (w0:=w) w.heap.size rfl (.tmp 92) (.tmp 94) 23 33 (.agg #[(.slice none 0 0),(.bool false),(.bool false)]) 32 rfl Try.underlying23 info33 rfl (by decide) (by omega) u4 x4_1 (⟨x221000_2,(rd_T33 l0 x5_1).f1,(rd_T33 l0 x5_1).f2⟩:S33) [.slice Ao68 x221000_2.length co68,.bool ((rd_T33 l0 x5_1).f1),.bool ((rd_T33 l0 x5_1).f2)] (fun k_=>some k_≠(u222001:Value).ownBlock∧k_≠gb220) (fun k_=>((fun k_=>some k_≠(u222001:Value).ownBlock∧k_≠gb220)) k_∧some k_≠(u4:Value).ownBlock) rfl rfl ?aP (fun _ hk=>hk) ?aF ?aO ?aB ?aS ?aL ?_;(case aP=>exact k33_mkM _ _ _ (⟨x221000_2,(rd_T33 l0 x5_1).f1,(rd_T33 l0 x5_1).f2⟩:S33) (Kd.R_mono (Kd.R_types (Kd.R_apart' ((Kd.S_R HO_221000.out)) (Kd.R_typed HO_4.out) (by decide)) BK220.out (by decide)) (fun k_ hk=>⟨⟨hk.1.1,hk.2⟩,hk.1.2⟩)));(case aB=>exact (by repeat (first|(with_reducible first|exact HB.out|apply bA_|apply bN_|apply bD_|refine bs_ ?_ GE220.out|refine bs_ ?_ GE221.out)|exact HB.out)));(case aF=>exact (fun k_ hk=>⟨Kd.fresh' (Kd.R_lt (by (with_reducible repeat (first|apply rA_|apply rN_|apply rD_));exact HO_222001.out)) k_ hk,Kd.freshB (g:=gb220) (o:=.cells #[.slice Ao68 x221000_2.length co68,.bool ((rd_T33 l0 x5_1).f1),.bool ((rd_T33 l0 x5_1).f2)] 33 (0,0)) (by (with_reducible repeat (first|refine bq_ ?_ _|refine bw_ ?_|refine bz_ ?_ _));exact BK220.out) k_ hk⟩));(case aO=>exact (by (with_reducible repeat (first|apply rA_|apply rN_|apply rD_));exact Kd.R_mono HO_4.out (fun _ hk=>⟨hk.2.1,hk.2.2⟩)));(case aS=>exact (be_ (by repeat (first|(with_reducible first|exact HB.out|apply bA_|apply bN_|apply bD_|refine bs_ ?_ GE220.out|refine bs_ ?_ GE221.out)|exact HB.out))));(case aL=>have:=LMc60.out;omega);intro v226 w67 ho hb hg hat;rw [← Ny225.out] at ho;have n0_:=Az.mk (Kd.R_over' (by (with_reducible repeat (first|apply rA_|apply rN_|apply rD_));exact HO_222001.out) (Kd.R_typed (by (with_reducible repeat (first|apply rA_|apply rN_|apply rD_));exact HO_4.out)) (by decide) hg);have n1_:=Az.mk (blk_grown (g:=gb220) (o:=.cells #[.slice Ao68 x221000_2.length co68,.bool ((rd_T33 l0 x5_1).f1),.bool ((rd_T33 l0 x5_1).f2)] 33 (0,0)) (by (with_reducible repeat (first|refine bq_ ?_ _|refine bw_ ?_|refine bz_ ?_ _));exact BK220.out) hg (Kd.R_away HO_4.out (fun _ hk=>hk.2.2)));have n2_:=Az.mk (blk_grown (g:=gb221) (o:=.cells #[.bool x222000_2,u222001] 38 (0,0)) (by (with_reducible repeat (first|refine bq_ ?_ _|refine bw_ ?_|refine bz_ ?_ _));exact BK221.out) hg (Kd.R_ne HO_4.out BK221.out (by decide)));have n3_:=Az.mk (hb);have n4_:=Az.mk (ho);clear HO_222001;clear BK220;clear BK221;clear HB;clear HO_4;clear HO_221000;have HO_222001:=n0_;have BK220:=n1_;have BK221:=n2_;have HB:=n3_;have HO227:=n4_;clear n0_ n1_ n2_ n3_ n4_;clear ho hb hg hat))
            go_roundg kj8
            case measure=>have:=HK1.out;have:=HK2.out;have:=HJ8.out;omega
            case rel=>exact ⟨(y225),(wrap64 (x5_1+1)),(by first|rfl|(simp;done)|(simp [*];done)),H',⟨by have:=HK1.out;have:=HK2.out;have:=HJ8.out;omega⟩,⟨by (with_reducible repeat (first|apply rA_|apply rN_|apply rD_));exact Kd.R_mono HO227.out (fun _ hk=>trivial)⟩,⟨by repeat (first|(with_reducible first|exact HB.out|apply bA_|apply bN_|apply bD_|refine bs_ ?_ GE220.out|refine bs_ ?_ GE221.out)|exact HB.out)⟩⟩
           ·rw [if_neg c60] at H
            exact absurd H (by simp)
          ·rw [if_neg c59] at H
           exact absurd H (by simp)
         ·rw [if_neg c58] at H
          have c58b0:decide (x5_1 < (l0.length:Int))=false:=decide_eq_false c58
          clear c58
          by_cases c69:x4_1.length < 4398046511104
          ·rw [if_pos c69] at H
           have LMc69:=Az.mk c69
           clear c69
           obtain ⟨y228,hy228⟩:∃ y_:List (S33),y_=(x4_1 ++ [(⟨x221000_2,false,false⟩:S33)]):=⟨_,rfl⟩
           replace H:(cadencelaw4_Make.l0 kj8 l0 ji3 y228 (wrap64 (x5_1+1)))=some r:=by first|(rw [hy228];with_reducible exact H)|(have H2_:=(Option.bind_some _ _).symm.trans H;rw [hy228];with_reducible exact H2_)|(have H2_:=(Option.bind_some _ _).symm.trans H;with_reducible exact H2_)|with_reducible exact H|(rw [hy228];exact H)|exact H
           have Ny228:=Az.mk hy228
           clear hy228
           have H':=Az.mk H
           clear H
           have hnb70:=NB220_221.out
           have hnc70:=NB221_220.out
           have hcz71_0:wc.cell? ⟨gb220,0,none⟩=some (u221000):=(bc_ BK220.out 0).trans rfl
           have hcz71_1:wc.cell? ⟨gb220,1,none⟩=some (.bool false):=(bc_ BK220.out 1).trans rfl
           have hcz71_2:wc.cell? ⟨gb220,2,none⟩=some (.bool false):=(bc_ BK220.out 2).trans rfl
           have hfz71_0:=bf_ BK220.out 0
           have hfz71_1:=bf_ BK220.out 1
           have hfz71_2:=bf_ BK220.out 2
           obtain ⟨Ao73,co73,eo73⟩:=Kd.S_slice HO_221000.out
           subst eo73
           go_wp2_with (first|((with_reducible refine gate_builtin (b:=.append) (xs:=#[.tmp 92,.tmp 94]) rfl ?_);(try (refine gate_guard (by rfl) ?_;dsimp only));at_builtin;refine Kd.R_append k33 (w0:=w) w.heap.size rfl (.tmp 92) (.tmp 94) 23 33 (.agg #[(.slice none 0 0),(.bool false),(.bool false)]) 32 rfl Try.underlying23 info33 rfl (by decide) (by omega) u4 x4_1 (⟨x221000_2,false,false⟩:S33) [.slice Ao73 x221000_2.length co73,.bool false,.bool false] (fun k_=>some k_≠(u222001:Value).ownBlock∧k_≠gb220) (fun k_=>((fun k_=>some k_≠(u222001:Value).ownBlock∧k_≠gb220)) k_∧some k_≠(u4:Value).ownBlock) rfl rfl ?aP (fun _ hk=>hk) ?aF ?aO ?aB ?aS ?aL ?_;(case aP=>exact k33_mkM _ _ _ (⟨x221000_2,false,false⟩:S33) (Kd.R_mono (Kd.R_types (Kd.R_apart' ((Kd.S_R HO_221000.out)) (Kd.R_typed HO_4.out) (by decide)) BK220.out (by decide)) (fun k_ hk=>⟨⟨hk.1.1,hk.2⟩,hk.1.2⟩)));(case aB=>exact (by repeat (first|(with_reducible first|exact HB.out|apply bA_|apply bN_|apply bD_|refine bs_ ?_ GE220.out|refine bs_ ?_ GE221.out)|exact HB.out)));(case aF=>exact (fun k_ hk=>⟨Kd.fresh' (Kd.R_lt (by (with_reducible repeat (first|apply rA_|apply rN_|apply rD_));exact HO_222001.out)) k_ hk,Kd.freshB (g:=gb220) (o:=.cells #[.slice Ao73 x221000_2.length co73,.bool false,.bool false] 33 (0,0)) (by (with_reducible repeat (first|refine bq_ ?_ _|refine bw_ ?_|refine bz_ ?_ _));exact BK220.out) k_ hk⟩));(case aO=>exact (by (with_reducible repeat (first|apply rA_|apply rN_|apply rD_));exact Kd.R_mono HO_4.out (fun _ hk=>⟨hk.2.1,hk.2.2⟩)));(case aS=>exact (be_ (by repeat (first|(with_reducible first|exact HB.out|apply bA_|apply bN_|apply bD_|refine bs_ ?_ GE220.out|refine bs_ ?_ GE221.out)|exact HB.out))));(case aL=>have:=LMc69.out;omega);intro v229 w72 ho hb hg hat;rw [← Ny228.out] at ho;have n0_:=Az.mk (Kd.R_over' (by (with_reducible repeat (first|apply rA_|apply rN_|apply rD_));exact HO_222001.out) (Kd.R_typed (by (with_reducible repeat (first|apply rA_|apply rN_|apply rD_));exact HO_4.out)) (by decide) hg);have n1_:=Az.mk (blk_grown (g:=gb220) (o:=.cells #[.slice Ao73 x221000_2.length co73,.bool false,.bool false] 33 (0,0)) (by (with_reducible repeat (first|refine bq_ ?_ _|refine bw_ ?_|refine bz_ ?_ _));exact BK220.out) hg (Kd.R_away HO_4.out (fun _ hk=>hk.2.2)));have n2_:=Az.mk (blk_grown (g:=gb221) (o:=.cells #[.bool x222000_2,u222001] 38 (0,0)) (by (with_reducible repeat (first|refine bq_ ?_ _|refine bw_ ?_|refine bz_ ?_ _));exact BK221.out) hg (Kd.R_ne HO_4.out BK221.out (by decide)));have n3_:=Az.mk (hb);have n4_:=Az.mk (ho);clear HO_222001;clear BK220;clear BK221;clear HB;clear HO_4;clear HO_221000;have HO_222001:=n0_;have BK220:=n1_;have BK221:=n2_;have HB:=n3_;have HO230:=n4_;clear n0_ n1_ n2_ n3_ n4_;clear ho hb hg hat))
           go_roundg kj8
           case measure=>have:=HK1.out;have:=HK2.out;have:=HJ8.out;omega
           case rel=>exact ⟨(y228),(wrap64 (x5_1+1)),(by first|rfl|(simp;done)|(simp [*];done)),H',⟨by have:=HK1.out;have:=HK2.out;have:=HJ8.out;omega⟩,⟨by (with_reducible repeat (first|apply rA_|apply rN_|apply rD_));exact Kd.R_mono HO230.out (fun _ hk=>trivial)⟩,⟨by repeat (first|(with_reducible first|exact HB.out|apply bA_|apply bN_|apply bD_|refine bs_ ?_ GE220.out|refine bs_ ?_ GE221.out)|exact HB.out)⟩⟩
          ·rw [if_neg c69] at H
           exact absurd H (by simp)
   ·rw [if_neg c4] at H
    have c4b0:decide (x5_1 < ji3)=false:=decide_eq_false c4
    clear c4
    obtain rfl:=Option.some.inj H
    go_wp2
    go_ret
    exact ⟨_,by first|rfl|(simp [errW_none,errW_some] <;> rfl)|(simp only [← hji2,← hji3];first|rfl|(simp [errW_none,errW_some] <;> rfl))|(simp [*,errW_none,errW_some] <;> rfl),by (with_reducible repeat (first|apply rA_|apply rN_|apply rD_));exact HO_4.out,by repeat (first|(with_reducible first|exact HB.out|apply bA_|apply bN_|apply bD_)|exact HB.out)⟩
end Go.Proofs.Ytoihiehoolehiaa.PX
namespace Go.Proofs.Ytoihiehoolehiaa.PX
open Go.RowKit Go.Proofs.YtoihiehoolehiaaW.PrintWords Go.Proofs.YtoihiehoolehiaaW.PrintLast Go.Proofs.YtoihiehoolehiaaW.PrintMore
attribute [local go_sem] max2_int min2_int max_two min_two max_three min_three max_four min_four   
set_option linter.unusedVariables false
set_option linter.unusedSimpArgs false
attribute [local go_sem] run_field_87_0
mutual
def cadencelaw4_Few.l0:Nat→List (S33)→Int→Option (Bool)
 | 0,_,_=>none
 | k+1,x0,x3=>if x3 < (x0.length:Int) then (if 0≤x3 then (if (((rd_T33 x0 x3).f0).length:Int) > 8 then (some false) else (cadencelaw4_Few.l1 k x0 x3 0)) else (none)) else (some (decide ((x0.length:Int)≤14)))
def cadencelaw4_Few.l1:Nat→List (S33)→Int→Int→Option (Bool)
 | 0,_,_,_=>none
 | k+1,x0,x3,x4=>if 0≤x3 then (if x3 < (x0.length:Int) then (if x4 < (((rd_T33 x0 x3).f0).length:Int) then (if 0≤x4 then (if (((rd_T40 ((rd_T33 x0 x3).f0) x4).f0.f1).length:Int) > 25 then (some false) else (cadencelaw4_Few.l1 k x0 x3 (wrap64 (x4+1)))) else (none)) else (cadencelaw4_Few.l0 k x0 (wrap64 (x3+1)))) else (none)) else (none)
end
def cadencelaw4_Few.f (k:Nat) (l0:List (S33)):Option (Bool):=cadencelaw4_Few.l0 k l0 0
theorem cadencelaw4_Few.mono_l:∀ k,(∀ y0 y1,LeO (cadencelaw4_Few.l0 k y0 y1) (cadencelaw4_Few.l0 (k+1) y0 y1))∧(∀ y0 y1 y2,LeO (cadencelaw4_Few.l1 k y0 y1 y2) (cadencelaw4_Few.l1 (k+1) y0 y1 y2))
 | 0=>⟨fun _ _ r h=>by simp [cadencelaw4_Few.l0] at h,fun _ _ _ r h=>by simp [cadencelaw4_Few.l1] at h⟩
 | k+1=>by
  obtain ⟨ih0,ih1⟩:=cadencelaw4_Few.mono_l k
  refine ⟨?_,?_⟩
  ·intro y0 y1
   unfold cadencelaw4_Few.l0
   repeat' first
   | (with_reducible exact ih0 _ _)
   | (with_reducible exact ih1 _ _ _)
   | (with_reducible exact LeO.refl _)
   | (with_reducible exact LeO.none _)
   | (with_reducible refine LeO.ite ?_ ?_)
   | (with_reducible refine LeO.bind ?_ (fun _=>?_))
   | exact ih0 _ _
   | exact ih1 _ _ _
   | exact LeO.none _
   | refine LeO.ite ?_ ?_
   | refine LeO.bind ?_ (fun _=>?_)
  ·intro y0 y1 y2
   unfold cadencelaw4_Few.l1
   repeat' first
   | (with_reducible exact ih0 _ _)
   | (with_reducible exact ih1 _ _ _)
   | (with_reducible exact LeO.refl _)
   | (with_reducible exact LeO.none _)
   | (with_reducible refine LeO.ite ?_ ?_)
   | (with_reducible refine LeO.bind ?_ (fun _=>?_))
   | exact ih0 _ _
   | exact ih1 _ _ _
   | exact LeO.none _
   | refine LeO.ite ?_ ?_
   | refine LeO.bind ?_ (fun _=>?_)
theorem cadencelaw4_Few.mono:∀ a0 k,LeO (cadencelaw4_Few.f k a0) (cadencelaw4_Few.f (k+1) a0):=by
 intro a0 k
 obtain ⟨ih0,ih1⟩:=cadencelaw4_Few.mono_l k
 unfold cadencelaw4_Few.f
 repeat' first
   | (with_reducible exact ih0 _ _)
   | (with_reducible exact ih1 _ _ _)
   | (with_reducible exact LeO.refl _)
   | (with_reducible exact LeO.none _)
   | (with_reducible refine LeO.ite ?_ ?_)
   | (with_reducible refine LeO.bind ?_ (fun _=>?_))
   | exact ih0 _ _
   | exact ih1 _ _ _
   | exact LeO.none _
   | refine LeO.ite ?_ ?_
   | refine LeO.bind ?_ (fun _=>?_)
set_option maxHeartbeats 8000000 in
set_option maxRecDepth 100000 in
theorem cadencelaw4_Few.calls (k:Nat) (A0:Option Addr) (c0:Nat) (l0:List (S33)) (r:Bool) (w:World) (hr0:Kd.C k33 w A0 l0.length l0) (hc0:l0.length≤c0) (h:cadencelaw4_Few.f k l0=some r) :
  Calls Try.prog 9 #[.slice A0 l0.length c0] w fun e w'=>e=.returned (.bool r)∧Drawn0 w w':=by
 have HR0:=Az.mk hr0
 have HC0:=Az.mk hc0
 clear hr0 hc0
 have H:(cadencelaw4_Few.l0 k l0 0)=some r:=h
 clear h
 have H':=Az.mk H
 clear H
 go_enter Try.func9,Try.ntmps9
 go_wp2
 go_loopg [3] k (fun kq v3 w'=>∃ (x3_1:Int),v3=.int .i64 x3_1∧Az (cadencelaw4_Few.l0 kq l0 x3_1=some r)∧Az (kq≤k)∧Drawn0 w w')
 case atStart=>exact ⟨(0),(by first|rfl|(simp;done)|(simp [*];done)),H',⟨Nat.le_refl _⟩,by repeat (first|exact Drawn0.refl _|apply Drawn0.step)⟩
 case round =>
  clear H'
  obtain ⟨x3_1,rfl,HA,HK1,⟨m1,rfl⟩⟩:=hrel
  cases gk with
  | zero=>exact absurd HA.out (by simp [cadencelaw4_Few.l0])
  | succ k1 =>
   have H:=HA.out
   clear HA
   simp only [cadencelaw4_Few.l0] at H
   by_cases c2:x3_1 < (l0.length:Int)
   ·rw [if_pos c2] at H
    have c2b0:decide (x3_1 < (l0.length:Int))=true:=decide_eq_true c2
    clear c2
    by_cases c3:0≤x3_1
    ·rw [if_pos c3] at H
     have c3b0:decide (0≤x3_1)=true:=decide_eq_true c3
     clear c3
     by_cases c4:(((rd_T33 l0 x3_1).f0).length:Int) > 8
     ·rw [if_pos c4] at H
      have c4b0:decide (8 < (((rd_T33 l0 x3_1).f0).length:Int))=true:=decide_eq_true c4
      have c4b1:decide (8 < ((rd_T33 l0 x3_1).f0).length)=true:=decide_eq_true (by omega)
      clear c4
      obtain rfl:=Option.some.inj H
      have p120:0≤(x3_1:Int):=of_decide_eq_true (by first|(with_reducible assumption)|assumption)
      have q120:x3_1 < (l0.length:Int):=of_decide_eq_true (by first|(with_reducible assumption)|assumption)
      obtain ⟨ad120,A120_0,c120_0,e120,hx120_0,hx120_1,hx120_2,hl120_0,hi120_0⟩:=at_T33 HR0.out x3_1 p120 q120
      cases e120
      have HR120_0:=Az.mk hi120_0
      have HC120_0:=Az.mk hl120_0
      clear hi120_0 hl120_0
      replace p120:=eq_true p120
      replace q120:=eq_true q120
      go_wp2
      go_ret
      exact ⟨by first|rfl|(simp;done)|(simp [*];done),by repeat (first|exact Drawn0.refl _|apply Drawn0.step)⟩
     ·rw [if_neg c4] at H
      have c4b0:decide (8 < (((rd_T33 l0 x3_1).f0).length:Int))=false:=decide_eq_false c4
      have c4b1:decide (8 < ((rd_T33 l0 x3_1).f0).length)=false:=decide_eq_false (by omega)
      clear c4
      have H':=Az.mk H
      clear H
      have p120:0≤(x3_1:Int):=of_decide_eq_true (by first|(with_reducible assumption)|assumption)
      have q120:x3_1 < (l0.length:Int):=of_decide_eq_true (by first|(with_reducible assumption)|assumption)
      obtain ⟨ad120,A120_0,c120_0,e120,hx120_0,hx120_1,hx120_2,hl120_0,hi120_0⟩:=at_T33 HR0.out x3_1 p120 q120
      cases e120
      have HR120_0:=Az.mk hi120_0
      have HC120_0:=Az.mk hl120_0
      clear hi120_0 hl120_0
      replace p120:=eq_true p120
      replace q120:=eq_true q120
      go_wp2
      go_loopg [4] k1 (fun kq v4 w'=>∃ (x4_2:Int),v4=.int .i64 x4_2∧Az (cadencelaw4_Few.l1 kq l0 x3_1 x4_2=some r)∧Az (kq≤k1)∧Drawn0 w w')
      case atStart=>exact ⟨(0),(by first|rfl|(simp;done)|(simp [*];done)),H',⟨Nat.le_refl _⟩,by repeat (first|exact Drawn0.refl _|apply Drawn0.step)⟩
      case round =>
       clear H'
       try clear c1
       try clear p1
       try clear q1
       try clear hx1
       try clear c2
       try clear c2b0
       try clear p2
       try clear c3
       try clear c3b0
       try clear c4
       try clear c4b0
       try clear c4b1
       try clear hx120_0
       try clear hx120_1
       try clear hx120_2
       try clear p120
       try clear q120
       obtain ⟨x4_2,rfl,HA,HK2,⟨m2,rfl⟩⟩:=hrel
       cases gk with
       | zero=>exact absurd HA.out (by simp [cadencelaw4_Few.l1])
       | succ k2 =>
        have H:=HA.out
        clear HA
        simp only [cadencelaw4_Few.l1] at H
        by_cases c5:0≤x3_1
        ·rw [if_pos c5] at H
         have c5b0:decide (0≤x3_1)=true:=decide_eq_true c5
         clear c5
         by_cases c6:x3_1 < (l0.length:Int)
         ·rw [if_pos c6] at H
          have c6b0:decide (x3_1 < (l0.length:Int))=true:=decide_eq_true c6
          clear c6
          by_cases c7:x4_2 < (((rd_T33 l0 x3_1).f0).length:Int)
          ·rw [if_pos c7] at H
           have c7b0:decide (x4_2 < (((rd_T33 l0 x3_1).f0).length:Int))=true:=decide_eq_true c7
           clear c7
           by_cases c8:0≤x4_2
           ·rw [if_pos c8] at H
            have c8b0:decide (0≤x4_2)=true:=decide_eq_true c8
            clear c8
            by_cases c9:(((rd_T40 ((rd_T33 l0 x3_1).f0) x4_2).f0.f1).length:Int) > 25
            ·rw [if_pos c9] at H
             have c9b0:decide (25 < (((rd_T40 ((rd_T33 l0 x3_1).f0) x4_2).f0.f1).length:Int))=true:=decide_eq_true c9
             have c9b1:decide (25 < ((rd_T40 ((rd_T33 l0 x3_1).f0) x4_2).f0.f1).length)=true:=decide_eq_true (by omega)
             clear c9
             obtain rfl:=Option.some.inj H
             have p121:0≤(x3_1:Int):=of_decide_eq_true (by first|(with_reducible assumption)|assumption)
             have q121:x3_1 < (l0.length:Int):=of_decide_eq_true (by first|(with_reducible assumption)|assumption)
             obtain ⟨ad121,A121_0,c121_0,e121,hx121_0,hx121_1,hx121_2,hl121_0,hi121_0⟩:=at_T33 HR0.out x3_1 p121 q121
             obtain rfl:ad120=ad121:=(by injection e121)
             have HR121_0:=Az.mk hi121_0
             have HC121_0:=Az.mk hl121_0
             clear hi121_0 hl121_0
             replace p121:=eq_true p121
             replace q121:=eq_true q121
             have p122:0≤(x3_1:Int):=of_decide_eq_true (by first|(with_reducible assumption)|assumption)
             have q122:x3_1 < (l0.length:Int):=of_decide_eq_true (by first|(with_reducible assumption)|assumption)
             obtain ⟨ad122,A122_0,c122_0,e122,hx122_0,hx122_1,hx122_2,hl122_0,hi122_0⟩:=at_T33 HR0.out x3_1 p122 q122
             obtain rfl:ad120=ad122:=(by injection e122)
             have HR122_0:=Az.mk hi122_0
             have HC122_0:=Az.mk hl122_0
             clear hi122_0 hl122_0
             replace p122:=eq_true p122
             replace q122:=eq_true q122
             have ea_:=Option.some.inj (hx121_0.symm.trans hx122_0)
             injection ea_ with ea_ en_ ec_
             subst ea_
             subst ec_
             clear en_
             have p123:0≤(x4_2:Int):=of_decide_eq_true (by first|(with_reducible assumption)|assumption)
             have q123:x4_2 < (((rd_T33 l0 x3_1).f0).length:Int):=of_decide_eq_true (by first|(with_reducible assumption)|assumption)
             obtain ⟨ad123,A123_1,c123_1,e123,hx123_0,hx123_1,hx123_2,hx123_3,hl123_1,hi123_1⟩:=at_T40 HR122_0.out x4_2 p123 q123
             cases e123
             have HR123_1:=Az.mk hi123_1
             have HC123_1:=Az.mk hl123_1
             clear hi123_1 hl123_1
             replace p123:=eq_true p123
             replace q123:=eq_true q123
             go_wp2
             go_ret
             exact ⟨by first|rfl|(simp;done)|(simp [*];done),by repeat (first|exact Drawn0.refl _|apply Drawn0.step)⟩
            ·rw [if_neg c9] at H
             have c9b0:decide (25 < (((rd_T40 ((rd_T33 l0 x3_1).f0) x4_2).f0.f1).length:Int))=false:=decide_eq_false c9
             have c9b1:decide (25 < ((rd_T40 ((rd_T33 l0 x3_1).f0) x4_2).f0.f1).length)=false:=decide_eq_false (by omega)
             clear c9
             have H':=Az.mk H
             clear H
             have p121:0≤(x3_1:Int):=of_decide_eq_true (by first|(with_reducible assumption)|assumption)
             have q121:x3_1 < (l0.length:Int):=of_decide_eq_true (by first|(with_reducible assumption)|assumption)
             obtain ⟨ad121,A121_0,c121_0,e121,hx121_0,hx121_1,hx121_2,hl121_0,hi121_0⟩:=at_T33 HR0.out x3_1 p121 q121
             obtain rfl:ad120=ad121:=(by injection e121)
             have HR121_0:=Az.mk hi121_0
             have HC121_0:=Az.mk hl121_0
             clear hi121_0 hl121_0
             replace p121:=eq_true p121
             replace q121:=eq_true q121
             have p122:0≤(x3_1:Int):=of_decide_eq_true (by first|(with_reducible assumption)|assumption)
             have q122:x3_1 < (l0.length:Int):=of_decide_eq_true (by first|(with_reducible assumption)|assumption)
             obtain ⟨ad122,A122_0,c122_0,e122,hx122_0,hx122_1,hx122_2,hl122_0,hi122_0⟩:=at_T33 HR0.out x3_1 p122 q122
             obtain rfl:ad120=ad122:=(by injection e122)
             have HR122_0:=Az.mk hi122_0
             have HC122_0:=Az.mk hl122_0
             clear hi122_0 hl122_0
             replace p122:=eq_true p122
             replace q122:=eq_true q122
             have ea_:=Option.some.inj (hx121_0.symm.trans hx122_0)
             injection ea_ with ea_ en_ ec_
             subst ea_
             subst ec_
             clear en_
             have p123:0≤(x4_2:Int):=of_decide_eq_true (by first|(with_reducible assumption)|assumption)
             have q123:x4_2 < (((rd_T33 l0 x3_1).f0).length:Int):=of_decide_eq_true (by first|(with_reducible assumption)|assumption)
             obtain ⟨ad123,A123_1,c123_1,e123,hx123_0,hx123_1,hx123_2,hx123_3,hl123_1,hi123_1⟩:=at_T40 HR122_0.out x4_2 p123 q123
             cases e123
             have HR123_1:=Az.mk hi123_1
             have HC123_1:=Az.mk hl123_1
             clear hi123_1 hl123_1
             replace p123:=eq_true p123
             replace q123:=eq_true q123
             go_wp2
             go_roundg k2
             case measure=>have:=HK1.out;have:=HK2.out;omega
             case rel=>exact ⟨(wrap64 (x4_2+1)),(by first|rfl|(simp;done)|(simp [*];done)),H',⟨by have:=HK1.out;have:=HK2.out;omega⟩,by repeat (first|exact Drawn0.refl _|apply Drawn0.step)⟩
           ·rw [if_neg c8] at H
            exact absurd H (by simp)
          ·rw [if_neg c7] at H
           have c7b0:decide (x4_2 < (((rd_T33 l0 x3_1).f0).length:Int))=false:=decide_eq_false c7
           clear c7
           have H':=Az.mk H
           clear H
           have p121:0≤(x3_1:Int):=of_decide_eq_true (by first|(with_reducible assumption)|assumption)
           have q121:x3_1 < (l0.length:Int):=of_decide_eq_true (by first|(with_reducible assumption)|assumption)
           obtain ⟨ad121,A121_0,c121_0,e121,hx121_0,hx121_1,hx121_2,hl121_0,hi121_0⟩:=at_T33 HR0.out x3_1 p121 q121
           obtain rfl:ad120=ad121:=(by injection e121)
           have HR121_0:=Az.mk hi121_0
           have HC121_0:=Az.mk hl121_0
           clear hi121_0 hl121_0
           replace p121:=eq_true p121
           replace q121:=eq_true q121
           go_wp2
           go_roundg k2
           case measure=>have:=HK1.out;have:=HK2.out;omega
           case rel=>exact ⟨(wrap64 (x3_1+1)),(by first|rfl|(simp;done)|(simp [*];done)),H',⟨by have:=HK1.out;have:=HK2.out;omega⟩,by repeat (first|exact Drawn0.refl _|apply Drawn0.step)⟩
         ·rw [if_neg c6] at H
          exact absurd H (by simp)
        ·rw [if_neg c5] at H
         exact absurd H (by simp)
    ·rw [if_neg c3] at H
     exact absurd H (by simp)
   ·rw [if_neg c2] at H
    have c2b0:decide (x3_1 < (l0.length:Int))=false:=decide_eq_false c2
    clear c2
    obtain rfl:=Option.some.inj H
    go_wp2
    go_ret
    exact ⟨by first|rfl|(simp;done)|(simp [*];done),by repeat (first|exact Drawn0.refl _|apply Drawn0.step)⟩
end Go.Proofs.Ytoihiehoolehiaa.PX
set_option linter.unusedVariables false
set_option linter.unusedSimpArgs false
namespace Go.Proofs.Ytoihiehoolehiaa.PX
open Go.RowKit Go.Proofs.YtoihiehoolehiaaW.PrintWords Go.Proofs.YtoihiehoolehiaaW.PrintLast Go.Proofs.YtoihiehoolehiaaW.PrintMore Go.Proofs.Ytoihiehoolehiaa
abbrev Fd:=S40
abbrev Df:=S33
def Small4 (s:Sc):Prop:=s.length≤14∧∀ d ∈ s,d.f0.length≤8∧∀ f ∈ d.f0,f.f0.f1.length≤25
theorem few4_ev {s:Sc} (hs:ScIn s):∃ b,(b=true→Small4 s)∧Ev (fun k=>cadencelaw4_Few.f k s) b:=by
 have h14:=hs.1
 have outer:∀ d i,i+d=s.length→∃ b,(b=true→s.length≤14∧∀ j (h:j < s.length),i≤j→s[j].f0.length≤8∧∀ f ∈ s[j].f0,f.f0.f1.length≤25)∧Ev (fun k=>cadencelaw4_Few.l0 k s (i:Int)) b:=by
  intro d
  induction d with
  | zero =>
   intro i hi
   refine ⟨decide ((s.length:Int)≤14),fun h=>⟨by have:=of_decide_eq_true h;omega,fun j h hj=>by omega⟩,Ev.step (f:=fun _=>some (decide ((s.length:Int)≤14))) (fun k=>?_) (Ev.now _)⟩
   rw [cadencelaw4_Few.l0,if_neg (by omega)]
  | succ d ih =>
   intro i hi
   have hil:i < s.length:=by omega
   by_cases h8:s[i].f0.length≤8
   ·obtain ⟨b',hb',he'⟩:=ih (i+1) (by omega)
    have inner:∀ e j,j+e=s[i].f0.length→∃ b,(b=true→b'=true∧∀ q (h:q < s[i].f0.length),j≤q→s[i].f0[q].f0.f1.length≤25)∧Ev (fun k=>cadencelaw4_Few.l1 k s (i:Int) (j:Int)) b:=by
     intro e
     induction e with
     | zero =>
      intro j hj
      refine ⟨b',fun h=>⟨h,fun q h hq=>by omega⟩,Ev.step (fun k=>?_) he'⟩
      rw [cadencelaw4_Few.l1,if_pos (by omega),if_pos (by omega),rdD_nat hil,if_neg (by omega),wrap_succ (by omega)]
     | succ e ihe =>
      intro j hj
      have hjl:j < s[i].f0.length:=by omega
      by_cases h25:s[i].f0[j].f0.f1.length≤25
      ·obtain ⟨b,hb,he⟩:=ihe (j+1) (by omega)
       refine ⟨b,fun h=>⟨(hb h).1,fun q hq hjq=>?_⟩,Ev.step (fun k=>?_) he⟩
       ·by_cases hjq':j=q
        ·subst hjq';exact h25
        ·exact (hb h).2 q hq (by omega)
       ·rw [cadencelaw4_Few.l1,if_pos (by omega),if_pos (by omega),rdD_nat hil,if_pos (by omega),if_pos (by omega),rdF_nat hjl,if_neg (by omega),wrap_succ (by omega)]
      ·refine ⟨false,(by simp),Ev.step (f:=fun _=>some false) (fun k=>?_) (Ev.now _)⟩
       rw [cadencelaw4_Few.l1,if_pos (by omega),if_pos (by omega),rdD_nat hil,if_pos (by omega),if_pos (by omega),rdF_nat hjl,if_pos (by omega)]
    obtain ⟨b,hb,he⟩:=inner _ 0 (Nat.zero_add _)
    refine ⟨b,fun h=>⟨(hb' (hb h).1).1,fun j hj hij=>?_⟩,Ev.step (fun k=>?_) he⟩
    ·by_cases hij':i=j
     ·subst hij'
      exact ⟨h8,fun f hf=>by
       obtain ⟨q,hq,rfl⟩:=List.mem_iff_getElem.1 hf
       exact (hb h).2 q hq (Nat.zero_le _)⟩
     ·exact (hb' (hb h).1).2 j hj (by omega)
    ·rw [cadencelaw4_Few.l0,if_pos (by omega),if_pos (by omega),rdD_nat hil,if_neg (by omega)]
     rfl
   ·refine ⟨false,(by simp),Ev.step (f:=fun _=>some false) (fun k=>?_) (Ev.now _)⟩
    rw [cadencelaw4_Few.l0,if_pos (by omega),if_pos (by omega),rdD_nat hil,if_pos (by omega)]
 obtain ⟨b,hb,he⟩:=outer _ 0 (Nat.zero_add _)
 refine ⟨b,fun h=>⟨(hb h).1,fun d hd=>?_⟩,he⟩
 obtain ⟨j,hj,rfl⟩:=List.mem_iff_getElem.1 hd
 exact (hb h).2 j hj (Nat.zero_le _)
theorem in3_ev (l:List ByteArray) (a:ByteArray) (hl:l.length≤1000000000000):Ev (fun k=>cadenceref3_in.f k l a) (hasL l a):=by
 have loop:∀ d i,i+d=l.length→Ev (fun k=>cadenceref3_in.l0 k l a (i:Int)) (hasL (l.drop i) a):=by
  intro d
  induction d with
  | zero =>
   intro i hi
   rw [List.drop_eq_nil_of_le (by omega)]
   refine Ev.step (f:=fun _=>some false) (fun k=>?_) (Ev.now _)
   rw [cadenceref3_in.l0,if_neg (by omega)]
  | succ d ih =>
   intro i hi
   have hil:i < l.length:=by omega
   rw [List.drop_eq_getElem_cons hil]
   by_cases hn:l[i]=a
   ·rw [show hasL (l[i] :: l.drop (i+1)) a=true by unfold hasL;rw [List.any_cons,decide_eq_true hn,Bool.true_or]]
    refine Ev.step (f:=fun _=>some true) (fun k=>?_) (Ev.now _)
    rw [cadenceref3_in.l0,if_pos (by omega),if_pos (by omega),rdOf_nat hil,if_pos (by rw [hn])]
   ·rw [show hasL (l[i] :: l.drop (i+1)) a=hasL (l.drop (i+1)) a by unfold hasL;rw [List.any_cons,decide_eq_false hn,Bool.false_or]]
    refine Ev.step (fun k=>?_) (ih (i+1) (by omega))
    rw [cadenceref3_in.l0,if_pos (by omega),if_pos (by omega),rdOf_nat hil,if_neg (fun h=>hn (tl_inj (by rw [← toList_tl,← toList_tl,h]))),wrap_succ (by omega)]
 exact (loop l.length 0 (by omega))
theorem has3_ev (b:Bool) (l:List ByteArray) (a:ByteArray) (hl:l.length≤1000000000000):Ev (fun k=>cadenceref3_Has.f k b l a) (hasL l a != b):=by
 obtain ⟨K,h⟩:=in3_ev l a hl
 refine ⟨K,fun k hk=>?_⟩
 have h:cadenceref3_in.f k l a=some _:=h k hk
 show cadenceref3_Has.f k b l a=_
 rw [cadenceref3_Has.f,h]
 rfl
theorem within3 (a:Int):∃ r,0≤r∧r < 5∧cadencelaw3_within.f a 5=some r:=by
 obtain ⟨r,r0,r1,h⟩:=tmod_in a (n:=5) (by omega) (by omega)
 refine ⟨r,r0,r1,?_⟩
 unfold cadencelaw3_within.f
 rw [if_neg (by omega),← h]
 split <;> rfl
end Go.Proofs.Ytoihiehoolehiaa.PX
set_option linter.unusedVariables false
set_option linter.unusedSimpArgs false
namespace Go.Proofs.Ytoihiehoolehiaa
open Go.Lib
def ofL (L:List Str):List Str:=Lib.compact (L.mergeSort fun x y=>decide (x≤y))
theorem ofL_length_le (L:List Str):(ofL L).length≤L.length:=by
 have:=Lib.compact_length_le (L.mergeSort fun x y=>decide (x≤y))
 rw [List.length_mergeSort] at this
 exact this
theorem str_le_lt {x y z:Str} (h:x≤y) (h':y < z):x < z:=List.lt_of_le_of_lt h h'
theorem str_le_trans {x y z:Str} (h:x≤y) (h':y≤z):x≤z:=List.le_trans h h'
theorem str_lt_of {x y:Str} (h:x≤y) (hne:x≠y):x < y:=List.not_le.1 fun h'=>hne (List.le_antisymm h h')
theorem str_le_total (x y:Str):x≤y∨y≤x:=List.le_total x y
theorem str_le_of_lt {x y:Str} (h:x < y):x≤y:=List.le_of_lt h
theorem compact_upTo (zs:List Str):∀ m,m≤zs.length→(∀ x,x ∈ compactUpTo zs.toArray m ↔ x ∈ zs.take m) ∧
  (zs.Pairwise (·≤ ·)→(compactUpTo zs.toArray m).Pairwise (·< ·)∧∀ x ∈ compactUpTo zs.toArray m,∀ j (hj:j < zs.length),m≤j+1→x≤zs[j])
 | 0,_=>by simp [compactUpTo]
 | m+1,hm=>by
  obtain ⟨h1,h2⟩:=compact_upTo zs m (by omega)
  have hmz:m < zs.length:=by omega
  have e1:zs.toArray[m]! = zs[m]:=by simp [hmz]
  have et:zs.take (m+1)=zs.take m ++ [zs[m]]:=List.take_succ_eq_append_getElem hmz
  rw [compactUpTo_succ,et]
  by_cases hk:keeps zs.toArray m=true
  ·rw [if_pos hk,e1]
   refine ⟨fun x=>by rw [List.mem_append,List.mem_append,h1 x],fun hs=>?_⟩
   obtain ⟨h3,h4⟩:=h2 hs
   have hlt:∀ x ∈ compactUpTo zs.toArray m,x < zs[m]:=by
    intro x hx
    unfold keeps at hk
    rw [decide_eq_true_eq] at hk
    rcases Nat.eq_zero_or_pos m with h0|h0
    ·subst h0
     simp [compactUpTo] at hx
    ·rcases hk with h0'|hk
     ·omega
     ·have e2:zs.toArray[m - 1]! = zs[m - 1]:=by simp [show m - 1 < zs.length by omega]
      rw [e1,e2] at hk
      have h5:zs[m - 1]≤zs[m]:=List.pairwise_iff_getElem.1 hs (m - 1) m (by omega) hmz (by omega)
      exact str_le_lt (h4 x hx (m - 1) (by omega) (by omega)) (str_lt_of h5 (fun e=>hk e.symm))
   refine ⟨List.pairwise_append.2 ⟨h3,List.pairwise_singleton _ _,fun x hx y hy=>?_⟩,fun x hx j hj hmj=>?_⟩
   ·obtain rfl:=List.mem_singleton.1 hy
    exact hlt x hx
   ·have hle:zs[m]≤zs[j]:=by
     rcases Nat.eq_or_lt_of_le (show m≤j by omega) with e|hlt'
     ·subst e
      exact List.le_refl _
     ·exact List.pairwise_iff_getElem.1 hs m j hmz hj hlt'
    rcases List.mem_append.1 hx with hx|hx
    ·exact str_le_trans (str_le_of_lt (hlt x hx)) hle
    ·obtain rfl:=List.mem_singleton.1 hx
     exact hle
  ·rw [if_neg hk,List.append_nil]
   unfold keeps at hk
   simp only [decide_eq_true_eq,not_or,Decidable.not_not] at hk
   obtain ⟨hm0,hk⟩:=hk
   have e2:zs.toArray[m - 1]! = zs[m - 1]:=by simp [show m - 1 < zs.length by omega]
   rw [e1,e2] at hk
   refine ⟨fun x=>?_,fun hs=>?_⟩
   ·rw [h1 x,List.mem_append,List.mem_singleton]
    refine ⟨.inl,fun h=>?_⟩
    rcases h with h|rfl
    ·exact h
    ·rw [hk]
     exact List.mem_take_iff_getElem.2 ⟨m - 1,by omega,rfl⟩
   ·obtain ⟨h3,h4⟩:=h2 hs
    exact ⟨h3,fun x hx j hj hmj=>h4 x hx j hj (by omega)⟩
theorem ofL_mem {L:List Str} {x:Str} : x ∈ ofL L ↔ x ∈ L:=by
 unfold ofL compact
 rw [(compact_upTo _ _ (Nat.le_refl _)).1 x,List.take_length]
 exact List.mem_mergeSort
theorem ofL_sorted (L:List Str):(ofL L).Pairwise (·< ·):=by
 unfold ofL compact
 refine ((compact_upTo _ _ (Nat.le_refl _)).2 ?_).1
 have:=List.pairwise_mergeSort (le:=fun x y:Str=>decide (x≤y)) (fun a b c h h'=>by
  rw [decide_eq_true_eq] at *
  exact str_le_trans h h') (fun a b=>by
  rcases str_le_total a b with h|h <;> simp [h]) L
 exact this.imp fun h=>by simpa using h
end Go.Proofs.Ytoihiehoolehiaa
set_option linter.unusedVariables false
set_option linter.unusedSimpArgs false
namespace Go.Proofs.Ytoihiehoolehiaa
open Go.RowKit
def Row (w:World) (g:Nat) (t:TypeId) (xs:List Value):Prop:=w.heap[g]? = some (.cells xs.toArray t (0,0))
section
variable {w w':World} {g:Nat} {t:TypeId} {xs:List Value}
theorem Row.lt (h:Row w g t xs):g < w.heap.size:=(Array.getElem?_eq_some_iff.1 h).1
theorem Row.cell (h:Row w g t xs) (i:Nat):w.cell? ⟨g,i,none⟩=xs[i]?:=by
 rw [cell_of_row w g i xs.toArray t (0,0) h];simp
theorem Row.new (w:World) (t:TypeId) (xs:List Value):Row (w.alloc (.cells xs.toArray t)) w.heap.size t xs:=heap_alloc_new w _
end
def Own (w:World) (B:Nat) (e:TypeId) (k:Nat) (A:Option Addr) (n c:Nat) (xs:List Value):Prop :=
 xs.length=n * k∧((A=none∧n=0∧c=0)∨∃ g rest,A=some ⟨g,0,none⟩∧B≤g∧Row w g e (xs ++ rest)∧n≤c∧c≤maxLen∧(xs ++ rest).length=c * k)
def blkOf:Option Addr→Option Nat
 | some a=>some a.block
 | none=>none
section
variable {w w':World} {B B':Nat} {e:TypeId} {k:Nat} {A:Option Addr} {n c:Nat} {xs:List Value}
theorem Own.len (h:Own w B e k A n c xs):xs.length=n * k:=h.1
theorem Own.blk (h:Own w B e k A n c xs):∀ g,blkOf A=some g→B≤g∧g < w.heap.size:=by
 intro g hg
 rcases h.2 with ⟨rfl,_⟩|⟨g',rest,rfl,hb,hr,_⟩
 ·cases hg
 ·injection hg with hg
  subst hg
  exact ⟨hb,hr.lt⟩
end
theorem only_refl (w:World) (g:Option Nat):w.grownBy w g:=⟨rfl,rfl,rfl,Nat.le_refl _,fun _ _ _=>rfl⟩
end Go.Proofs.Ytoihiehoolehiaa
set_option linter.unusedVariables false
set_option linter.unusedSimpArgs false
namespace Go.Proofs.Ytoihiehoolehiaa
open Go.RowKit Go.Sort
theorem own_of_ownsRow {w:World} {B:Nat} {e:TypeId} {k n:Nat} {v:Value} {xs:List Value} (h:w.ownsRow B e k v n xs):∃ A c,v=.slice A n c∧Own w B e k A n c xs:=by
 rcases h.2 with ⟨rfl,rfl⟩|⟨g,cap,cur,rfl,hb,hg,hn,hm,hs,ht⟩
 ·exact ⟨none,0,rfl,h.1,.inl ⟨rfl,rfl,rfl⟩⟩
 ·refine ⟨_,cap,rfl,h.1,.inr ⟨g,cur.toList.drop (n * k),rfl,hb,?_,hn,hm,?_⟩⟩
  ·unfold Row
   rw [← ht,List.take_append_drop]
   simpa using hg
  ·rw [← ht,List.take_append_drop]
   simpa using hs
theorem ownsRow_of_own {w:World} {B:Nat} {e:TypeId} {k n c:Nat} {A:Option Addr} {xs:List Value} (h:Own w B e k A n c xs):w.ownsRow B e k (.slice A n c) n xs:=by
 refine ⟨h.1,?_⟩
 rcases h.2 with ⟨rfl,rfl,rfl⟩|⟨g,rest,rfl,hb,hr,hn,hm,hl⟩
 ·exact .inl ⟨rfl,rfl⟩
 ·refine .inr ⟨g,c,_,rfl,hb,hr,hn,hm,by simpa using hl,?_⟩
  rw [← h.1]
  simp
theorem sort_own (B:Nat) (A:Option Addr) (n c:Nat) (L:List Str) (w:World) (ho:Own w B 9 1 A n c (L.map encStr)) (hl:n≤1000000000000) :
  Calls Try.prog 67 #[.slice A n c] w fun e w'=>e=.returned (.tuple #[])∧Own w' B 9 1 A n c ((L.mergeSort fun x y=>decide (x≤y)).map encStr)∧w.grownBy w' (blkOf A):=by
 have hn:L.length=n:=by simpa using ho.1
 rcases ho.2 with ⟨rfl,rfl,rfl⟩|⟨g,rest,rfl,hb,hr,h1,h2,h3⟩
 ·refine (Try.slices_Sort_string_none none 0 w).mono fun e w' ⟨he,hw⟩=>?_
  subst hw
  have:L = []:=List.eq_nil_of_length_eq_zero hn
  subst this
  exact ⟨he,by simpa using ho,only_refl _ _⟩
 ·obtain ⟨g',cap,hv,hbg,hgl,hnc,hcm,hlen,hH⟩:=Lib.holds_of_ownsRow (enc:=encStr) (zs:=L) (ownsRow_of_own ho) (by intro h;cases h)
  cases hv
  subst hn
  refine (Try.slices_Sort_string g 0 c L w hH hgl (by omega)).mono fun e w' ⟨he,nn,os,hw⟩=>?_
  subst hw
  have hs:=ownsRow_sorted (n:=nn) (os:=os) (ts:=L.mergeSort fun x y=>decide (x≤y)) (ss:=L) (List.length_mergeSort L) hb hr h1 h2 (by simpa using h3)
  obtain ⟨A',c',e1,ho'⟩:=own_of_ownsRow hs
  cases e1
  exact ⟨he,ho',grownBy_sorted _⟩
theorem compact_own (B:Nat) (A:Option Addr) (n c:Nat) (L:List Str) (w:World) (ho:Own w B 9 1 A n c (L.map encStr)) (hl:n≤1000000000000) :
  Calls Try.prog 68 #[.slice A n c] w fun e w'=>∃ n',e=.returned (.slice A n' c)∧Own w' B 9 1 A n' c ((Lib.compact L).map encStr)∧n'≤n∧w.grownBy w' (blkOf A):=by
 have hn:L.length=n:=by simpa using ho.1
 rcases ho.2 with ⟨rfl,rfl,rfl⟩|⟨g,rest,rfl,hb,hr,h1,h2,h3⟩
 ·refine (Try.slices_Compact_string_empty none 0 w).mono fun e w' ⟨he,hw⟩=>?_
  subst hw
  have:L = []:=List.eq_nil_of_length_eq_zero hn
  subst this
  exact ⟨0,he,by simpa [Lib.compact,Lib.compactUpTo] using ho,Nat.le_refl _,only_refl _ _⟩
 ·obtain ⟨g',cap,hv,hbg,hgl,hnc,hcm,hlen,hH⟩:=Lib.holds_of_ownsRow (enc:=encStr) (zs:=L) (ownsRow_of_own ho) (by intro h;cases h)
  cases hv
  subst hn
  have hle:=Lib.compact_length_le L
  refine (Try.slices_Compact_string g 0 c L w hH (by omega) h1).mono fun e w' ⟨he,q,hw⟩=>?_
  subst hw
  have hc:=Lib.ownsRow_putRow (q:=q) (k:=(Lib.compact L).length) (ys:=Lib.compact L ++ List.replicate (L.length - (Lib.compact L).length) []) (ownsRow_of_own ho) (by simp;omega) (by omega)
  rw [List.take_left] at hc
  obtain ⟨A',c',e1,ho'⟩:=own_of_ownsRow hc
  cases e1
  exact ⟨_,he,ho',hle,by have:=grownBy_sorted (w:=w) (g:=g) (n:=q) (os:=#[]) (Lib.compact L ++ List.replicate (L.length - (Lib.compact L).length) []).toArray;rw [grow_empty] at this;exact this⟩
end Go.Proofs.Ytoihiehoolehiaa
set_option linter.unusedVariables false
namespace Go.Proofs.Ytoihiehoolehiaa.PX
open Go.RowKit Go.Proofs.YtoihiehoolehiaaW.PrintWords Go.Proofs.YtoihiehoolehiaaW.PrintLast Go.Proofs.YtoihiehoolehiaaW.PrintMore Go.Proofs.Ytoihiehoolehiaa
theorem map_ba (L:List Str):(L.map ba).map Value.string=L.map encStr:=by simp [ba]
theorem encs_enc (l:List ByteArray):encs Value.string l=(l.map tl).map encStr:=by
 rw [← map_ba,map_ba_tl];rfl
theorem enc_encs (l:List Str):l.map encStr=encs Value.string (l.map ba):=(map_ba l).symm
def sortB (l:List ByteArray):List ByteArray:=((l.map tl).mergeSort fun x y=>decide (x≤y)).map ba
def compactB (l:List ByteArray):List ByteArray:=(Lib.compact (l.map tl)).map ba
theorem sortB_length (l:List ByteArray):(sortB l).length=l.length:=by simp [sortB,List.length_mergeSort]
theorem R_of_Own {w:World} {B:Nat} {A:Option Addr} {n c:Nat} {L:List Str} {ok:Nat→Prop} (h:Own w B 9 1 A n c (L.map encStr)) (hok:∀ k,(Value.slice A n c).ownBlock=some k→ok k):Kd.R Kd.string 9 w B ok (.slice A n c) (L.map ba):=by
 have hn:L.length=n:=by simpa using h.1
 refine Kd.R_of_own ?_ hok
 have:=ownsRow_of_own h
 rw [enc_encs] at this
 rw [List.length_map,hn]
 exact this
theorem Own_of_R {w:World} {B:Nat} {A:Option Addr} {n c:Nat} {l:List ByteArray} {ok:Nat→Prop} (h:Kd.R Kd.string 9 w B ok (.slice A n c) l):n=l.length∧Own w B 9 1 A l.length c ((l.map tl).map encStr):=by
 have hn:=(Kd.R_reads' h).1
 subst hn
 have ho:=Kd.own_of_R h
 rw [encs_enc] at ho
 obtain ⟨A',c',e1,ho'⟩:=own_of_ownsRow ho
 cases e1
 exact ⟨rfl,ho'⟩
theorem blk_own {A:Option Addr} {n c:Nat} {w:World} {B:Nat} {e:TypeId} {k:Nat} {xs:List Value} (h:Own w B e k A n c xs):blkOf A=(Value.slice A n c).ownBlock:=by
 rcases h.2 with ⟨rfl,_⟩|⟨g,rest,rfl,_⟩ <;> rfl
def slices_Sort_string_string.f (l0:List ByteArray):Option (List ByteArray):=if l0.length≤1000000000000 then some (sortB l0) else none
theorem slices_Sort_string_string.calls (P0_:Nat→Prop) (u9000_:Value) (l0:List ByteArray) (r:List ByteArray) (w0 w:World) (hB:Below w0.heap.size w0 w) (ho0:Kd.R Kd.string 9 w w0.heap.size P0_ u9000_ l0) (h:slices_Sort_string_string.f l0=some r) :
  Calls Try.prog 67 #[u9000_] w fun e w'=>e=.returned (.tuple #[])∧Kd.R Kd.string 9 w' w0.heap.size (fun k_=>(P0_ k_∨w.heap.size≤k_)) u9000_ r∧Below w0.heap.size w0 w'∧Kept w w' (fun k_=>P0_ k_):=by
 unfold slices_Sort_string_string.f at h
 split at h
 ·rename_i hl
  injection h with h
  subst h
  obtain ⟨A,c,rfl⟩:=Kd.R_slice ho0
  obtain ⟨_,ho⟩:=Own_of_R ho0
  have hblk:=blk_own ho
  have hbase:∀ k,blkOf A=some k→w0.heap.size≤k:=fun k hk=>(ho.blk k hk).1
  refine (sort_own _ A l0.length c (l0.map tl) w ho hl).mono fun e w' ⟨he,ho2,hg⟩=>⟨he,?_,pw_below_grown hB (blkOf A) hB.size hg hbase,Kept.of_grown hg (Kept.refl w _) (fun k hk=>.inl (ho0.1 k (hblk ▸ hk)))⟩
  exact R_of_Own ho2 (fun k hk=>.inl (ho0.1 k hk))
 ·cases h
def slices_Compact_string_string.f (l0:List ByteArray):Option (List ByteArray):=if l0.length≤1000000000000 then some (compactB l0) else none
theorem slices_Compact_string_string.calls (P0_:Nat→Prop) (u9000_:Value) (l0:List ByteArray) (r:List ByteArray) (w0 w:World) (hB:Below w0.heap.size w0 w) (ho0:Kd.R Kd.string 9 w w0.heap.size P0_ u9000_ l0) (h:slices_Compact_string_string.f l0=some r) :
  Calls Try.prog 68 #[u9000_] w fun e w'=>∃ v0_:Value,e=.returned (v0_)∧Kd.R Kd.string 9 w' w0.heap.size (fun k_=>(P0_ k_∨w.heap.size≤k_)) v0_ r∧Below w0.heap.size w0 w'∧Kept w w' (fun k_=>P0_ k_):=by
 unfold slices_Compact_string_string.f at h
 split at h
 ·rename_i hl
  injection h with h
  subst h
  obtain ⟨A,c,rfl⟩:=Kd.R_slice ho0
  obtain ⟨_,ho⟩:=Own_of_R ho0
  have hblk:=blk_own ho
  have hbase:∀ k,blkOf A=some k→w0.heap.size≤k:=fun k hk=>(ho.blk k hk).1
  refine (compact_own _ A l0.length c (l0.map tl) w ho hl).mono fun e w' ⟨n',he,ho2,hn2,hg⟩=>⟨_,he,?_,pw_below_grown hB (blkOf A) hB.size hg hbase,Kept.of_grown hg (Kept.refl w _) (fun k hk=>.inl (ho0.1 k (hblk ▸ hk)))⟩
  exact R_of_Own ho2 (fun k hk=>.inl (ho0.1 k (by rw [← hk,← blk_own ho2,hblk])))
 ·cases h
end Go.Proofs.Ytoihiehoolehiaa.PX
namespace Go.Proofs.Ytoihiehoolehiaa.PX
open Go.RowKit Go.Proofs.YtoihiehoolehiaaW.PrintWords Go.Proofs.YtoihiehoolehiaaW.PrintLast Go.Proofs.YtoihiehoolehiaaW.PrintMore
attribute [local go_sem] max2_int min2_int max_two min_two max_three min_three max_four min_four   
set_option linter.unusedVariables false
set_option linter.unusedSimpArgs false
attribute [local go_sem] run_field_87_0
def slices_Clone_string_string.f (l0:List ByteArray):Option (List ByteArray):=(some (([]:List ByteArray):List ByteArray)).bind fun y317=>(if y317.length+l0.length < 8796093022208 then (some (y317 ++ l0)) else (none))
set_option maxHeartbeats 8000000 in
set_option maxRecDepth 100000 in
theorem slices_Clone_string_string.calls (A0:Option Addr) (c0:Nat) (l0:List ByteArray) (r:List ByteArray) (w:World) (hr0:Kd.C Kd.string w A0 l0.length l0) (hc0:l0.length≤c0) (h:slices_Clone_string_string.f l0=some r) :
  Calls Try.prog 66 #[.slice A0 l0.length c0] w fun e w'=>∃ v0_:Value,e=.returned (v0_)∧Kd.R Kd.string 9 w' w.heap.size (fun _=>True) v0_ r∧Below w.heap.size w w':=by
 have q22:∀ (w:World) (a:Option Addr) (n c n' c':Nat),(binOp .eql 36 (.slice a n c) (.slice none n' c')).run Try.prog w=.ok (.bool a.isNone) w:=fun w a n c n' c'=>Lib.run_eql_slice_nil w _ _ a n c n' c' Try.underlying36
 by_cases hA0:A0=none
 ·have hl0:l0 = []:=by
   cases l0 with
   | nil=>rfl
   | cons x t_ =>
    obtain ⟨ad,e,_⟩:=(hr0).2.2 (by simp)
    exact absurd (hA0.symm.trans e) (by simp)
  subst hA0 hl0
  have hr_:r = []:=by simpa [slices_Clone_string_string.f] using h.symm
  subst hr_
  clear h
  go_enter Try.func66,Try.ntmps66
  go_wp2
  go_ret
  exact ⟨.slice none 0 0,rfl,by first|exact Kd.R_nil _ _ _ _ _|exact Kd.N_nil _ _ _ _ _|exact Kd.S_nil _ _ _ _ _,Below.refl _ _⟩
 have hA1:A0.isNone=false:=by cases A0 with
  | none=>exact absurd rfl hA0
  | some a=>rfl
 clear hA0
 have HR0:=Az.mk hr0
 have HC0:=Az.mk hc0
 clear hr0 hc0
 have HB:=Az.mk (Below.refl w.heap.size w)
 have H:((some (([]:List ByteArray):List ByteArray)).bind fun y317=>(if y317.length+l0.length < 8796093022208 then (some (y317 ++ l0)) else (none)))=some r:=h
 clear h
 obtain ⟨y317,hy317⟩:∃ y_:List ByteArray,y_=(([]:List ByteArray)):=⟨_,rfl⟩
 replace H:(if y317.length+l0.length < 8796093022208 then (some (y317 ++ l0)) else (none))=some r:=by first|(rw [hy317];with_reducible exact H)|(have H2_:=(Option.bind_some _ _).symm.trans H;rw [hy317];with_reducible exact H2_)|(have H2_:=(Option.bind_some _ _).symm.trans H;with_reducible exact H2_)|with_reducible exact H|(rw [hy317];exact H)|exact H
 have Ny317:=Az.mk hy317
 clear hy317
 by_cases c2:y317.length+l0.length < 8796093022208
 ·rw [if_pos c2] at H
  have LMc2:=Az.mk c2
  clear c2
  obtain ⟨y320,hy320⟩:∃ y_:List ByteArray,y_=(y317 ++ l0):=⟨_,rfl⟩
  replace H:(some y320)=some r:=by first|(rw [hy320];with_reducible exact H)|(have H2_:=(Option.bind_some _ _).symm.trans H;rw [hy320];with_reducible exact H2_)|(have H2_:=(Option.bind_some _ _).symm.trans H;with_reducible exact H2_)|with_reducible exact H|(rw [hy320];exact H)|exact H
  have Ny320:=Az.mk hy320
  clear hy320
  obtain rfl:=Option.some.inj H
  go_enter Try.func66,Try.ntmps66
  go_wp2_with (first|((with_reducible refine gate_dst (N:=5) rfl ?_);refine Kd.R_lit Kd.string _ 9 ?hg (N:=5) ?hd (xs:=([]:List ByteArray)) (inner:=[]) (ok:=fun _=>True) (okp:=fun _=>True) ?hr ?hp (fun _ hk=>hk) trivial (Below.refl _ _) (Nat.le_refl _) (by simp) ?_;(case hd=>rfl);(case hg=>rfl);(case hr=>first|(go_simp;done)|(go_simp;rfl));(case hp=>exact (Reps.none _ _));intro v318 w3 ho4 hb hg_ hnew_;clear hg_ hnew_;(first|rw [← Ny317.out] at ho4|(simp only [Int.reduceToNat] at ho4;rw [← Ny317.out] at ho4));have n0_:=Az.mk (Kd.R_lower ho4 (be_ (by repeat (first|(with_reducible first|exact HB.out|apply bA_|apply bN_|apply bD_)|exact HB.out))));have n1_:=Az.mk (below_step (by repeat (first|(with_reducible first|exact HB.out|apply bA_|apply bN_|apply bD_)|exact HB.out)) hb);clear HB;have HO319:=n0_;have HB:=n1_;clear n0_ n1_;clear hb ho4)|((with_reducible refine gate_builtin (b:=.append) (xs:=#[.tmp 5,.tmp 6]) rfl ?_);at_builtin;refine Kd.R_append_rows Kd.string (w0:=w) w.heap.size rfl (.tmp 5) (.tmp 6) 36 9 (.string ⟨#[]⟩) 16 rfl Try.underlying36 info9 rfl (by decide) (by omega) v318 y317 l0 _ _ _ (fun _=>True) (fun _=>False) rfl rfl ?aO ?aR (fun _ _ h=>h) (fun _ h=>h.elim) ?aF ?aB ?aS ?aL ?_;(case aR=>repeat (first|exact (Kd.C_below HR0.out HB.out)|(with_reducible refine cA_ ?_ _)|(with_reducible refine cN_ ?_ _)|(with_reducible refine cD_ ?_)));(case aB=>exact (by repeat (first|(with_reducible first|exact HB.out|apply bA_|apply bN_|apply bD_)|exact HB.out)));(case aF=>exact (fun _ _=>trivial));(case aO=>exact (by (with_reducible repeat (first|apply rA_|apply rN_|apply rD_));exact HO319.out));(case aS=>exact (be_ (by repeat (first|(with_reducible first|exact HB.out|apply bA_|apply bN_|apply bD_)|exact HB.out))));(case aL=>have:=LMc2.out;omega);intro v321 w5 ho hb hg hat;rw [← Ny320.out] at ho;have n0_:=Az.mk (hb);have n1_:=Az.mk (ho);clear HB;clear HO319;have HB:=n0_;have HO322:=n1_;clear n0_ n1_;clear ho hb hg hat))
  go_ret
  exact ⟨_,by first|rfl|(simp [errW_none,errW_some] <;> rfl)|(simp [*,errW_none,errW_some] <;> rfl),by (with_reducible repeat (first|apply rA_|apply rN_|apply rD_));exact HO322.out,by repeat (first|(with_reducible first|exact HB.out|apply bA_|apply bN_|apply bD_)|exact HB.out)⟩
 ·rw [if_neg c2] at H
  exact absurd H (by simp)
end Go.Proofs.Ytoihiehoolehiaa.PX
namespace Go.Proofs.Ytoihiehoolehiaa.PX
open Go.RowKit Go.Proofs.YtoihiehoolehiaaW.PrintWords Go.Proofs.YtoihiehoolehiaaW.PrintLast Go.Proofs.YtoihiehoolehiaaW.PrintMore
attribute [local go_sem] max2_int min2_int max_two min_two max_three min_three max_four min_four   
set_option linter.unusedVariables false
set_option linter.unusedSimpArgs false
attribute [local go_sem] run_field_87_0
def names_of_string.f (l0:List ByteArray):Option (List ByteArray):=(slices_Clone_string_string.f l0).bind fun t324=>((slices_Sort_string_string.f t324).bind fun t327=>((slices_Compact_string_string.f t327).bind fun t328=>((slices_Clone_string_string.f t328).bind fun t331=>(some t331))))
set_option maxHeartbeats 8000000 in
set_option maxRecDepth 100000 in
theorem names_of_string.calls (A0:Option Addr) (c0:Nat) (l0:List ByteArray) (r:List ByteArray) (w:World) (hr0:Kd.C Kd.string w A0 l0.length l0) (hc0:l0.length≤c0) (h:names_of_string.f l0=some r) :
  Calls Try.prog 61 #[.slice A0 l0.length c0] w fun e w'=>∃ v0_:Value,e=.returned (.agg #[v0_])∧Kd.R Kd.string 9 w' w.heap.size (fun _=>True) v0_ r∧Below w.heap.size w w':=by
 have hu87:=Try.underlying87
 have HR0:=Az.mk hr0
 have HC0:=Az.mk hc0
 clear hr0 hc0
 have HB:=Az.mk (Below.refl w.heap.size w)
 have H:((slices_Clone_string_string.f l0).bind fun t324=>((slices_Sort_string_string.f t324).bind fun t327=>((slices_Compact_string_string.f t327).bind fun t328=>((slices_Clone_string_string.f t328).bind fun t331=>(some t331)))))=some r:=h
 clear h
 replace H:=Option.bind_eq_some_iff.mp H
 obtain ⟨t324,A20,H⟩:=H
 replace H:((slices_Sort_string_string.f t324).bind fun t327=>((slices_Compact_string_string.f t327).bind fun t328=>((slices_Clone_string_string.f t328).bind fun t331=>(some t331))))=some r:=H
 have A2:=Az.mk A20
 clear A20
 replace H:=Option.bind_eq_some_iff.mp H
 obtain ⟨t327,A30,H⟩:=H
 replace H:((slices_Compact_string_string.f t327).bind fun t328=>((slices_Clone_string_string.f t328).bind fun t331=>(some t331)))=some r:=H
 have A3:=Az.mk A30
 clear A30
 replace H:=Option.bind_eq_some_iff.mp H
 obtain ⟨t328,A40,H⟩:=H
 replace H:((slices_Clone_string_string.f t328).bind fun t331=>(some t331))=some r:=H
 have A4:=Az.mk A40
 clear A40
 replace H:=Option.bind_eq_some_iff.mp H
 obtain ⟨t331,A50,H⟩:=H
 replace H:(some t331)=some r:=H
 have A5:=Az.mk A50
 clear A50
 obtain rfl:=Option.some.inj H
 go_enter Try.func61,Try.ntmps61
 go_wp2_with (first|((with_reducible refine gate_dst (N:=2) rfl ?_);refine box_event ?hg (N:=2) ?hd (cs:=#[.slice none 0 0]) (t:=87) ?hr ?_;(case hd=>rfl);(case hg=>rfl);(case hr=>first|(go_simp;done)|(go_simp;rfl));intro gb323 hg w6 hbox hb;have n0_:=Az.mk (below_step (by repeat (first|(with_reducible first|exact HB.out|apply bA_|apply bN_|apply bD_)|exact HB.out)) hb);have n1_:=Az.mk (hbox);have n2_:=Az.mk ((by rw [hg];exact (be_ (by repeat (first|(with_reducible first|exact HB.out|apply bA_|apply bN_|apply bD_)|exact HB.out))):w.heap.size≤gb323));have n3_:=Az.mk ((by rw [hg];exact (be_ (by repeat (first|(with_reducible first|exact HB.out|apply bA_|apply bN_|apply bD_)|exact HB.out))):w.heap.size≤gb323));clear HB;have HB:=n0_;have BK323:=n1_;have GW323:=n2_;have GE323:=n3_;clear n0_ n1_ n2_ n3_;clear hb hbox hg)|((with_reducible refine gate_callee (f:=66) rfl ?_);refine goesL_ (some 5) rfl rfl Try.func66 (by kernel_rfl) rfl #[.slice A0 l0.length c0] rfl (by (try simp only [List.map_toArray,List.map_cons,List.map_nil]);first|done|rfl|(simp only [List.length_drop,List.length_take];rfl)) ?_;(with_reducible refine (slices_Clone_string_string.calls _ _ l0 t324 _ ?side1 ?side2 A2.out).mono ?_);(case side1=>repeat (first|exact (Kd.C_below HR0.out HB.out)|(with_reducible refine cA_ ?_ _)|(with_reducible refine cN_ ?_ _)|(with_reducible refine cD_ ?_)));(case side2=>exact HC0.out);rintro e w7 ⟨v325,rfl,ho0,hb⟩;refine ⟨_,rfl,?_⟩;have n0_:=Az.mk (Kd.R_lower ho0 (be_ (by repeat (first|(with_reducible first|exact HB.out|apply bA_|apply bN_|apply bD_|refine bs_ ?_ GE323.out)|exact HB.out))));have n1_:=Az.mk (bb_ (g:=gb323) (o:=.cells #[.slice none 0 0] 87 (0,0)) (by (with_reducible repeat (first|refine bq_ ?_ _|refine bw_ ?_|refine bz_ ?_ _));exact BK323.out) hb);have n2_:=Az.mk (below_step (by repeat (first|(with_reducible first|exact HB.out|apply bA_|apply bN_|apply bD_|refine bs_ ?_ GE323.out)|exact HB.out)) hb);clear BK323;clear HB;have HO326:=n0_;have BK323:=n1_;have HB:=n2_;clear n0_ n1_ n2_;(try clear hb);(try clear hb2);(try clear hk);(try clear hi);(try clear ho0);obtain ⟨Ao8,co8,eo8⟩:=Kd.R_slice HO326.out;subst eo8)|((with_reducible refine gate_callee (f:=67) rfl ?_);refine goesL_ (some 7) rfl rfl Try.func67 (by kernel_rfl) rfl #[.slice Ao8 t324.length co8] rfl (by (try simp only [List.map_toArray,List.map_cons,List.map_nil]);first|done|rfl|(simp only [List.length_drop,List.length_take];rfl)) ?_;(with_reducible refine (slices_Sort_string_string.calls (fun k_=>some k_=(.slice Ao8 t324.length co8:Value).ownBlock) (.slice Ao8 t324.length co8) t324 t327 w _ ?side1 ?side2 A3.out).mono ?_);(case side1=>repeat (first|(with_reducible first|exact HB.out|apply bA_|apply bN_|apply bD_|refine bs_ ?_ GE323.out)|exact HB.out));(case side2=>exact Kd.R_tight rfl HO326.out);rintro e w9 ⟨rfl,hy0,hb,hkp⟩;refine ⟨_,rfl,?_⟩;have n0_:=Az.mk (blk_kept (by (with_reducible repeat (first|refine bq_ ?_ _|refine bw_ ?_|refine bz_ ?_ _));exact BK323.out) hkp (fun hs_=>(fun e_=>(Kd.R_ne HO326.out BK323.out (by decide)) e_) hs_));have n1_:=Az.mk (Kd.R_reok rfl hy0 (fun k_ e_=>HO326.out.1 k_ e_));have n2_:=Az.mk (hb);clear BK323;clear HO326;clear HB;have BK323:=n0_;have HO326:=n1_;have HB:=n2_;clear n0_ n1_ n2_;(try clear hb);(try clear hkp);(try clear hy0))|((with_reducible refine gate_callee (f:=68) rfl ?_);refine goesL_ (some 9) rfl rfl Try.func68 (by kernel_rfl) rfl #[.slice Ao8 t324.length co8] rfl (by (try simp only [List.map_toArray,List.map_cons,List.map_nil]);first|done|rfl|(simp only [List.length_drop,List.length_take];rfl)) ?_;(with_reducible refine (slices_Compact_string_string.calls (fun k_=>some k_=(.slice Ao8 t324.length co8:Value).ownBlock) (.slice Ao8 t324.length co8) t327 t328 w _ ?side1 ?side2 A4.out).mono ?_);(case side1=>repeat (first|(with_reducible first|exact HB.out|apply bA_|apply bN_|apply bD_|refine bs_ ?_ GE323.out)|exact HB.out));(case side2=>exact Kd.R_tight rfl HO326.out);rintro e w10 ⟨v329,rfl,ho0,hb,hkp⟩;refine ⟨_,rfl,?_⟩;have n0_:=Az.mk (blk_kept (by (with_reducible repeat (first|refine bq_ ?_ _|refine bw_ ?_|refine bz_ ?_ _));exact BK323.out) hkp (fun hs_=>(fun e_=>(Kd.R_ne HO326.out BK323.out (by decide)) e_) hs_));have n1_:=Az.mk (Kd.R_mono (ok':=fun k_=>True) ho0 (fun k_ hk_=>trivial));have n2_:=Az.mk (hb);clear BK323;clear HB;clear HO326;have BK323:=n0_;have HO330:=n1_;have HB:=n2_;clear n0_ n1_ n2_;(try clear hb);(try clear hkp);(try clear ho0);obtain ⟨Ao11,co11,eo11⟩:=Kd.R_slice HO330.out;subst eo11)|((with_reducible refine gate_callee (f:=66) rfl ?_);refine goesL_ (some 10) rfl rfl Try.func66 (by kernel_rfl) rfl #[.slice Ao11 t328.length co11] rfl (by (try simp only [List.map_toArray,List.map_cons,List.map_nil]);first|done|rfl|(simp only [List.length_drop,List.length_take];rfl)) ?_;(with_reducible refine (slices_Clone_string_string.calls _ _ t328 t331 _ ?side1 ?side2 A5.out).mono ?_);(case side1=>repeat (first|exact (Kd.R_reads' HO330.out).2.2|(with_reducible refine cA_ ?_ _)|(with_reducible refine cN_ ?_ _)|(with_reducible refine cD_ ?_)));(case side2=>exact (Kd.R_reads' HO330.out).2.1);rintro e w12 ⟨v332,rfl,ho0,hb⟩;refine ⟨_,rfl,?_⟩;have n0_:=Az.mk (Kd.R_elder' (by (with_reducible repeat (first|apply rA_|apply rN_|apply rD_));exact HO330.out) (Kd.R_base ho0) hb);have n1_:=Az.mk (Kd.R_lower (Kd.R_new' ho0 (Kd.R_lt (by (with_reducible repeat (first|apply rA_|apply rN_|apply rD_));exact HO330.out))) (be_ (by repeat (first|(with_reducible first|exact HB.out|apply bA_|apply bN_|apply bD_|refine bs_ ?_ GE323.out)|exact HB.out))));have n2_:=Az.mk (bb_ (g:=gb323) (o:=.cells #[.slice none 0 0] 87 (0,0)) (by (with_reducible repeat (first|refine bq_ ?_ _|refine bw_ ?_|refine bz_ ?_ _));exact BK323.out) hb);have n3_:=Az.mk (below_step (by repeat (first|(with_reducible first|exact HB.out|apply bA_|apply bN_|apply bD_|refine bs_ ?_ GE323.out)|exact HB.out)) hb);clear HO330;clear BK323;clear HB;have HO330:=n0_;have HO333:=n1_;have BK323:=n2_;have HB:=n3_;clear n0_ n1_ n2_ n3_;(try clear hb);(try clear hb2);(try clear hk);(try clear hi);(try clear ho0);obtain ⟨Ao13,co13,eo13⟩:=Kd.R_slice HO333.out;subst eo13;have hcz14_0:w12.cell? ⟨gb323,0,none⟩=some (.slice none 0 0):=(bc_ BK323.out 0).trans rfl;have hfz14_0:=bf_ BK323.out 0))
 refine bodyPost_ret (results_cell_row rfl _ _ gb323 87 #[.slice Ao13 t331.length co13] (0,0) _ rfl (by (with_reducible repeat (first|refine bq_ ?_ _|refine bw_ ?_|refine bz_ ?_ _));refine blk_put (cs:=#[.slice none 0 0]) ?_ 0 _ rfl;(with_reducible repeat (first|refine bq_ ?_ _|refine bw_ ?_|refine bz_ ?_ _));exact BK323.out) Try.underlying87 rfl (by kernel_rfl)) rfl ?_
 exact ⟨_,by first|rfl|(simp [errW_none,errW_some] <;> rfl)|(simp [*,errW_none,errW_some] <;> rfl),by (with_reducible repeat (first|apply rA_|apply rN_|apply rD_));exact Kd.R_mono (Kd.R_far (p:=⟨gb323,0,none⟩) (Kd.R_types HO333.out BK323.out (by decide)) (fun _ hk=>hk.2) (.slice Ao13 t331.length co13)) (fun _ hk=>trivial),by repeat (first|(with_reducible first|exact HB.out|apply bA_|apply bN_|apply bD_|refine bs_ ?_ GE323.out)|exact HB.out)⟩
end Go.Proofs.Ytoihiehoolehiaa.PX
namespace Go.Proofs.Ytoihiehoolehiaa.PX
open Go.RowKit Go.Proofs.YtoihiehoolehiaaW.PrintWords Go.Proofs.YtoihiehoolehiaaW.PrintLast Go.Proofs.YtoihiehoolehiaaW.PrintMore
attribute [local go_sem] max2_int min2_int max_two min_two max_three min_three max_four min_four   
set_option linter.unusedVariables false
set_option linter.unusedSimpArgs false
attribute [local go_sem] run_field_87_0
def names_set_string_with.f (l0_0:List ByteArray) (l1_0:List ByteArray):Option (List ByteArray):=(slices_Clone_string_string.f l0_0).bind fun t337=>(if t337.length+l1_0.length < 8796093022208 then ((names_of_string.f (t337 ++ l1_0)).bind fun t343=>(some t343)) else (none))
def names_set_string_with.T1:Bool × List (List Nat × List Nat):=(true,[([],[]),([0],[0]),([1],[1]),([],[]),([3],[3]),([2,4,2],[2,4]),([5,5],[5]),([6,6,0,1,2,3,4,5,6],[6])])
def names_set_string_with.B1:List Nat:=[0,1,3,0,8,31,63,127]
theorem names_set_string_with.tab1:rtab .any (opsOf Try.f62 1)=names_set_string_with.T1:=by kernel_rfl
theorem names_set_string_with.bits1:waitsOk names_set_string_with.T1.2 names_set_string_with.B1=true:=by kernel_rfl
set_option maxHeartbeats 8000000 in
set_option maxRecDepth 100000 in
theorem names_set_string_with.calls (A0_0:Option Addr) (c0_0:Nat) (l0_0:List ByteArray) (A1_0:Option Addr) (c1_0:Nat) (l1_0:List ByteArray) (r:List ByteArray) (w:World) (hr0_0:Kd.C Kd.string w A0_0 l0_0.length l0_0) (hc0_0:l0_0.length≤c0_0) (hr1_0:Kd.C Kd.string w A1_0 l1_0.length l1_0) (hc1_0:l1_0.length≤c1_0) (h:names_set_string_with.f l0_0 l1_0=some r) :
  Calls Try.prog 62 #[.agg #[.slice A0_0 l0_0.length c0_0],.agg #[.slice A1_0 l1_0.length c1_0]] w fun e w'=>∃ v0_:Value,e=.returned (.agg #[v0_])∧Kd.R Kd.string 9 w' w.heap.size (fun _=>True) v0_ r∧Below w.heap.size w w':=by
 have hu87:=Try.underlying87
 have HR0_0:=Az.mk hr0_0
 have HC0_0:=Az.mk hc0_0
 clear hr0_0 hc0_0
 have HR1_0:=Az.mk hr1_0
 have HC1_0:=Az.mk hc1_0
 clear hr1_0 hc1_0
 have HB:=Az.mk (Below.refl w.heap.size w)
 have H:((slices_Clone_string_string.f l0_0).bind fun t337=>(if t337.length+l1_0.length < 8796093022208 then ((names_of_string.f (t337 ++ l1_0)).bind fun t343=>(some t343)) else (none)))=some r:=h
 clear h
 replace H:=Option.bind_eq_some_iff.mp H
 obtain ⟨t337,A30,H⟩:=H
 replace H:(if t337.length+l1_0.length < 8796093022208 then ((names_of_string.f (t337 ++ l1_0)).bind fun t343=>(some t343)) else (none))=some r:=H
 have A3:=Az.mk A30
 clear A30
 by_cases c4:t337.length+l1_0.length < 8796093022208
 ·rw [if_pos c4] at H
  have LMc4:=Az.mk c4
  clear c4
  obtain ⟨y340,hy340⟩:∃ y_:List ByteArray,y_=(t337 ++ l1_0):=⟨_,rfl⟩
  replace H:((names_of_string.f y340).bind fun t343=>(some t343))=some r:=by first|(rw [hy340];with_reducible exact H)|(have H2_:=(Option.bind_some _ _).symm.trans H;rw [hy340];with_reducible exact H2_)|(have H2_:=(Option.bind_some _ _).symm.trans H;with_reducible exact H2_)|with_reducible exact H|(rw [hy340];exact H)|exact H
  have Ny340:=Az.mk hy340
  clear hy340
  replace H:=Option.bind_eq_some_iff.mp H
  obtain ⟨t343,A50,H⟩:=H
  replace H:(some t343)=some r:=H
  have A5:=Az.mk A50
  clear A50
  obtain rfl:=Option.some.inj H
  go_enter Try.func62,Try.ntmps62
  try go_wp2_with (first|((with_reducible refine gate_dst (N:=2) rfl ?_);refine box_event ?hg (N:=2) ?hd (cs:=#[.slice A0_0 l0_0.length c0_0]) (t:=87) ?hr ?_;(case hd=>rfl);(case hg=>rfl);(case hr=>first|(go_simp;done)|(go_simp;rfl));intro gb334 hg w6 hbox hb;have n0_:=Az.mk (below_step (by repeat (first|(with_reducible first|exact HB.out|apply bA_|apply bN_|apply bD_)|exact HB.out)) hb);have n1_:=Az.mk (hbox);have n2_:=Az.mk ((by rw [hg];exact (be_ (by repeat (first|(with_reducible first|exact HB.out|apply bA_|apply bN_|apply bD_)|exact HB.out))):w.heap.size≤gb334));have n3_:=Az.mk ((by rw [hg];exact (be_ (by repeat (first|(with_reducible first|exact HB.out|apply bA_|apply bN_|apply bD_)|exact HB.out))):w.heap.size≤gb334));clear HB;have HB:=n0_;have BK334:=n1_;have GW334:=n2_;have GE334:=n3_;clear n0_ n1_ n2_ n3_;clear hb hbox hg)|((with_reducible refine gate_dst (N:=3) rfl ?_);refine box_event ?hg (N:=3) ?hd (cs:=#[.slice A1_0 l1_0.length c1_0]) (t:=87) ?hr ?_;(case hd=>rfl);(case hg=>rfl);(case hr=>first|(go_simp;done)|(go_simp;rfl));intro gb335 hg w7 hbox hb;have n0_:=Az.mk (bb_ (g:=gb334) (o:=.cells #[.slice A0_0 l0_0.length c0_0] 87 (0,0)) (by (with_reducible repeat (first|refine bq_ ?_ _|refine bw_ ?_|refine bz_ ?_ _));exact BK334.out) hb);have n1_:=Az.mk (below_step (by repeat (first|(with_reducible first|exact HB.out|apply bA_|apply bN_|apply bD_|refine bs_ ?_ GE334.out)|exact HB.out)) hb);have n2_:=Az.mk (hbox);have n3_:=Az.mk ((by rw [hg];exact (be_ (by repeat (first|(with_reducible first|exact HB.out|apply bA_|apply bN_|apply bD_|refine bs_ ?_ GE334.out)|exact HB.out))):w.heap.size≤gb335));have n4_:=Az.mk ((by rw [hg];exact (be_ (by repeat (first|(with_reducible first|exact HB.out|apply bA_|apply bN_|apply bD_|refine bs_ ?_ GE334.out)|exact HB.out))):w.heap.size≤gb335));have n5_:=Az.mk ((by rw [hg];exact Nat.ne_of_lt (blk_lt (g:=gb334) (o:=.cells #[.slice A0_0 l0_0.length c0_0] 87 (0,0)) (by (with_reducible repeat (first|refine bq_ ?_ _|refine bw_ ?_|refine bz_ ?_ _));exact BK334.out)):gb334≠gb335));have n6_:=Az.mk ((by rw [hg];exact Nat.ne_of_gt (blk_lt (g:=gb334) (o:=.cells #[.slice A0_0 l0_0.length c0_0] 87 (0,0)) (by (with_reducible repeat (first|refine bq_ ?_ _|refine bw_ ?_|refine bz_ ?_ _));exact BK334.out)):gb335≠gb334));clear BK334;clear HB;have BK334:=n0_;have HB:=n1_;have BK335:=n2_;have GW335:=n3_;have GE335:=n4_;have NB334_335:=n5_;have NB335_334:=n6_;clear n0_ n1_ n2_ n3_ n4_ n5_ n6_;clear hb hbox hg)|((with_reducible refine gate_dst (N:=4) rfl ?_);refine box_event ?hg (N:=4) ?hd (cs:=#[.slice none 0 0]) (t:=87) ?hr ?_;(case hd=>rfl);(case hg=>rfl);(case hr=>first|(go_simp;done)|(go_simp;rfl));intro gb336 hg w8 hbox hb;have n0_:=Az.mk (bb_ (g:=gb334) (o:=.cells #[.slice A0_0 l0_0.length c0_0] 87 (0,0)) (by (with_reducible repeat (first|refine bq_ ?_ _|refine bw_ ?_|refine bz_ ?_ _));exact BK334.out) hb);have n1_:=Az.mk (bb_ (g:=gb335) (o:=.cells #[.slice A1_0 l1_0.length c1_0] 87 (0,0)) (by (with_reducible repeat (first|refine bq_ ?_ _|refine bw_ ?_|refine bz_ ?_ _));exact BK335.out) hb);have n2_:=Az.mk (below_step (by repeat (first|(with_reducible first|exact HB.out|apply bA_|apply bN_|apply bD_|refine bs_ ?_ GE334.out|refine bs_ ?_ GE335.out)|exact HB.out)) hb);have n3_:=Az.mk (hbox);have n4_:=Az.mk ((by rw [hg];exact (be_ (by repeat (first|(with_reducible first|exact HB.out|apply bA_|apply bN_|apply bD_|refine bs_ ?_ GE334.out|refine bs_ ?_ GE335.out)|exact HB.out))):w.heap.size≤gb336));have n5_:=Az.mk ((by rw [hg];exact (be_ (by repeat (first|(with_reducible first|exact HB.out|apply bA_|apply bN_|apply bD_|refine bs_ ?_ GE334.out|refine bs_ ?_ GE335.out)|exact HB.out))):w.heap.size≤gb336));have n6_:=Az.mk ((by rw [hg];exact Nat.ne_of_lt (blk_lt (g:=gb334) (o:=.cells #[.slice A0_0 l0_0.length c0_0] 87 (0,0)) (by (with_reducible repeat (first|refine bq_ ?_ _|refine bw_ ?_|refine bz_ ?_ _));exact BK334.out)):gb334≠gb336));have n7_:=Az.mk ((by rw [hg];exact Nat.ne_of_gt (blk_lt (g:=gb334) (o:=.cells #[.slice A0_0 l0_0.length c0_0] 87 (0,0)) (by (with_reducible repeat (first|refine bq_ ?_ _|refine bw_ ?_|refine bz_ ?_ _));exact BK334.out)):gb336≠gb334));have n8_:=Az.mk ((by rw [hg];exact Nat.ne_of_lt (blk_lt (g:=gb335) (o:=.cells #[.slice A1_0 l1_0.length c1_0] 87 (0,0)) (by (with_reducible repeat (first|refine bq_ ?_ _|refine bw_ ?_|refine bz_ ?_ _));exact BK335.out)):gb335≠gb336));have n9_:=Az.mk ((by rw [hg];exact Nat.ne_of_gt (blk_lt (g:=gb335) (o:=.cells #[.slice A1_0 l1_0.length c1_0] 87 (0,0)) (by (with_reducible repeat (first|refine bq_ ?_ _|refine bw_ ?_|refine bz_ ?_ _));exact BK335.out)):gb336≠gb335));clear BK334;clear BK335;clear HB;have BK334:=n0_;have BK335:=n1_;have HB:=n2_;have BK336:=n3_;have GW336:=n4_;have GE336:=n5_;have NB334_336:=n6_;have NB336_334:=n7_;have NB335_336:=n8_;have NB336_335:=n9_;clear n0_ n1_ n2_ n3_ n4_ n5_ n6_ n7_ n8_ n9_;clear hb hbox hg))
  have n0_:=Az.mk (bw_ BK334.out)
  have n1_:=Az.mk (bw_ BK335.out)
  have n2_:=Az.mk (bw_ BK336.out)
  have n3_:=Az.mk (bD_ HB.out)
  clear BK334
  clear BK335
  clear BK336
  clear HB
  have BK334:=n0_
  have BK335:=n1_
  have BK336:=n2_
  have HB:=n3_
  clear n0_ n1_ n2_ n3_
  refine start_ (n:=8) (S:=fun w'=>w'.cell? ⟨gb334,0,none⟩=some (.slice A0_0 l0_0.length c0_0)∧w'.cell? ⟨gb335,0,none⟩=some (.slice A1_0 l1_0.length c1_0)) (ds:=[]) #[false,false,false,false,false,false,false,false] (by kernel_rfl) rfl rfl ⟨(bc_ BK334.out 0).trans rfl,(bc_ BK335.out 0).trans rfl⟩ (fun hHeld=>?_);refine with_tabW names_set_string_with.tab1 names_set_string_with.bits1 (fun HT_ HW_=>?_)
  generalize w8.drew=w9 at BK334 BK335 BK336 HB hHeld ⊢
  refine pure_ (i:=0) (N:=some 5) (v:=?_) (a':=?_) #[true,false,false,false,false,false,false,false] rfl rfl (any_of HT_.out (by kernel_rfl)) (fun _ _ _ h=>h) (Or.inl ⟨by rfl,?_⟩) ?_ ?_
  rotate_left
  ·intro w'
   go_simp
   with_reducible rfl
  rotate_left
  ·simp only [Act.put,sA_,sB_,sC_,i64_w,i32_w]
   rfl
  refine pure_ (i:=3) (N:=some 8) (v:=?_) (a':=?_) #[true,false,false,true,false,false,false,false] rfl rfl (any_of HT_.out (by kernel_rfl)) (fun _ _ _ h=>h) (Or.inl ⟨by rfl,?_⟩) ?_ ?_
  rotate_left
  ·intro w'
   go_simp
   with_reducible rfl
  rotate_left
  ·simp only [Act.put,sA_,sB_,sC_,i64_w,i32_w]
   rfl
  refine take_ (i:=1) (N:=some 6) (v:=?_) (a':=?_) #[true,true,false,true,false,false,false,false] rfl rfl (take_ofW HT_.out HW_.out (by kernel_rfl)) (fun _ _ _ h=>h) (Or.inl ⟨by rfl,?_⟩) hHeld ?_ ?_
  rotate_left
  ·rintro w' ⟨s0,s1⟩
   go_simp
   with_reducible rfl
  rotate_left
  ·simp only [Act.put,sA_,sB_,sC_,i64_w,i32_w]
   rfl
  refine take_ (i:=4) (N:=some 9) (v:=?_) (a':=?_) #[true,true,false,true,true,false,false,false] rfl rfl (take_ofW HT_.out HW_.out (by kernel_rfl)) (fun _ _ _ h=>h) (Or.inl ⟨by rfl,?_⟩) hHeld ?_ ?_
  rotate_left
  ·rintro w' ⟨s0,s1⟩
   go_simp
   with_reducible rfl
  rotate_left
  ·simp only [Act.put,sA_,sB_,sC_,i64_w,i32_w]
   rfl
  refine one_ (i:=2) (N:=some 7) #[true,true,true,true,true,false,false,false] rfl rfl (one_of HT_.out (by kernel_rfl)) (by decide) (fun K hK=>?_)
  refine goes_ Try.func66 (by kernel_rfl) rfl #[.slice A0_0 l0_0.length c0_0] (by rfl) rfl rfl (by (try simp only [List.map_toArray,List.map_cons,List.map_nil]);first|done|rfl|(simp only [List.length_drop,List.length_take];rfl)) ?_
  with_reducible refine (slices_Clone_string_string.calls _ _ l0_0 t337 _ ?side1 ?side2 A3.out).mono ?_
  (case side1=>repeat (first|exact (Kd.C_below HR0_0.out HB.out)|(with_reducible refine cA_ ?_ _)|(with_reducible refine cN_ ?_ _)|(with_reducible refine cD_ ?_)))
  (case side2=>exact HC0_0.out)
  rintro e w10 ⟨v338,rfl,ho0,hb⟩
  refine ⟨_,rfl,?_⟩
  have n0_:=Az.mk (Kd.R_lower ho0 (be_ (by repeat (first|(with_reducible first|exact HB.out|apply bA_|apply bN_|apply bD_|refine bs_ ?_ GE334.out|refine bs_ ?_ GE335.out|refine bs_ ?_ GE336.out)|exact HB.out))))
  have n1_:=Az.mk (bb_ (g:=gb334) (o:=.cells #[.slice A0_0 l0_0.length c0_0] 87 (0,0)) (by (with_reducible repeat (first|refine bq_ ?_ _|refine bw_ ?_|refine bz_ ?_ _));exact BK334.out) hb)
  have n2_:=Az.mk (bb_ (g:=gb335) (o:=.cells #[.slice A1_0 l1_0.length c1_0] 87 (0,0)) (by (with_reducible repeat (first|refine bq_ ?_ _|refine bw_ ?_|refine bz_ ?_ _));exact BK335.out) hb)
  have n3_:=Az.mk (bb_ (g:=gb336) (o:=.cells #[.slice none 0 0] 87 (0,0)) (by (with_reducible repeat (first|refine bq_ ?_ _|refine bw_ ?_|refine bz_ ?_ _));exact BK336.out) hb)
  have n4_:=Az.mk (below_step (by repeat (first|(with_reducible first|exact HB.out|apply bA_|apply bN_|apply bD_|refine bs_ ?_ GE334.out|refine bs_ ?_ GE335.out|refine bs_ ?_ GE336.out)|exact HB.out)) hb)
  clear BK334
  clear BK335
  clear BK336
  clear HB
  have HO339:=n0_
  have BK334:=n1_
  have BK335:=n2_
  have BK336:=n3_
  have HB:=n4_
  clear n0_ n1_ n2_ n3_ n4_
  (try clear hb)
  (try clear hb2)
  (try clear hk)
  (try clear hi)
  (try clear ho0)
  refine hK.out _ _ ⟨(bc_ BK334.out 0).trans rfl,(bc_ BK335.out 0).trans rfl⟩ (fun hHeld=>?_)
  clear hK K
  refine norm_ (a':=?_) ?_ ?_
  rotate_left
  ·show Act.put _ (some 7) _=_
   simp only [Act.put,sA_,sB_,sC_,i64_w,i32_w]
   rfl
  refine one_ (i:=5) (N:=some 10) #[true,true,true,true,true,true,false,false] rfl rfl (one_of HT_.out (by kernel_rfl)) (by decide) (fun K hK=>?_)
  refine Kd.R_append_rows_step Kd.string (w0:=w) w.heap.size (by rfl) (.tmp 7) (.tmp 9) 36 9 (.string ⟨#[]⟩) 16 rfl Try.underlying36 info9 rfl (by decide) (by omega) v338 t337 l1_0 _ _ _ (fun _=>True) (fun _=>False) rfl rfl ?aO ?aR (fun _ _ h=>h) (fun _ h=>h.elim) ?aF ?aB ?aS ?aL ?_
  (case aR=>repeat (first|exact (Kd.C_below HR1_0.out HB.out)|(with_reducible refine cA_ ?_ _)|(with_reducible refine cN_ ?_ _)|(with_reducible refine cD_ ?_)))
  (case aB=>exact (by repeat (first|(with_reducible first|exact HB.out|apply bA_|apply bN_|apply bD_|refine bs_ ?_ GE334.out|refine bs_ ?_ GE335.out|refine bs_ ?_ GE336.out)|exact HB.out)))
  (case aF=>exact (fun _ _=>trivial))
  (case aO=>exact (by (with_reducible repeat (first|apply rA_|apply rN_|apply rD_));exact HO339.out))
  (case aS=>exact (be_ (by repeat (first|(with_reducible first|exact HB.out|apply bA_|apply bN_|apply bD_|refine bs_ ?_ GE334.out|refine bs_ ?_ GE335.out|refine bs_ ?_ GE336.out)|exact HB.out))))
  (case aL=>have:=LMc4.out;omega)
  intro v341 w11 ho hb hg hat
  rw [← Ny340.out] at ho
  have n0_:=Az.mk (blk_grown (g:=gb334) (o:=.cells #[.slice A0_0 l0_0.length c0_0] 87 (0,0)) (by (with_reducible repeat (first|refine bq_ ?_ _|refine bw_ ?_|refine bz_ ?_ _));exact BK334.out) hg (Kd.R_ne HO339.out BK334.out (by decide)))
  have n1_:=Az.mk (blk_grown (g:=gb335) (o:=.cells #[.slice A1_0 l1_0.length c1_0] 87 (0,0)) (by (with_reducible repeat (first|refine bq_ ?_ _|refine bw_ ?_|refine bz_ ?_ _));exact BK335.out) hg (Kd.R_ne HO339.out BK335.out (by decide)))
  have n2_:=Az.mk (blk_grown (g:=gb336) (o:=.cells #[.slice none 0 0] 87 (0,0)) (by (with_reducible repeat (first|refine bq_ ?_ _|refine bw_ ?_|refine bz_ ?_ _));exact BK336.out) hg (Kd.R_ne HO339.out BK336.out (by decide)))
  have n3_:=Az.mk (hb)
  have n4_:=Az.mk (ho)
  clear BK334
  clear BK335
  clear BK336
  clear HB
  clear HO339
  have BK334:=n0_
  have BK335:=n1_
  have BK336:=n2_
  have HB:=n3_
  have HO342:=n4_
  clear n0_ n1_ n2_ n3_ n4_
  clear ho hb hg hat
  obtain ⟨Ao12,co12,eo12⟩:=Kd.R_slice HO342.out
  (first|subst eo12|(injection eo12 with f1_ f2_ f3_;have f4_:=f1_.symm;have f5_:=f3_.symm;clear f1_ f2_ f3_;subst f4_;subst f5_))
  refine hK.out _ _ ⟨(bc_ BK334.out 0).trans rfl,(bc_ BK335.out 0).trans rfl⟩ (fun hHeld=>?_)
  clear hK K
  refine norm_ (a':=?_) ?_ ?_
  rotate_left
  ·show Act.put _ (some 10) _=_
   simp only [Act.put,sA_,sB_,sC_,i64_w,i32_w]
   rfl
  refine one_ (i:=6) (N:=some 11) #[true,true,true,true,true,true,true,false] rfl rfl (one_of HT_.out (by kernel_rfl)) (by decide) (fun K hK=>?_)
  refine goes_ Try.func61 (by kernel_rfl) rfl #[.slice Ao12 y340.length co12] (by rfl) rfl rfl (by (try simp only [List.map_toArray,List.map_cons,List.map_nil]);first|done|rfl|(simp only [List.length_drop,List.length_take];rfl)) ?_
  with_reducible refine (names_of_string.calls _ _ y340 t343 _ ?side1 ?side2 A5.out).mono ?_
  (case side1=>repeat (first|exact (Kd.R_reads' HO342.out).2.2|(with_reducible refine cA_ ?_ _)|(with_reducible refine cN_ ?_ _)|(with_reducible refine cD_ ?_)))
  (case side2=>exact (Kd.R_reads' HO342.out).2.1)
  rintro e w13 ⟨v344,rfl,ho0,hb⟩
  refine ⟨_,rfl,?_⟩
  have n0_:=Az.mk (Kd.R_elder' (by (with_reducible repeat (first|apply rA_|apply rN_|apply rD_));exact HO342.out) (Kd.R_base ho0) hb)
  have n1_:=Az.mk (Kd.R_lower (Kd.R_new' ho0 (Kd.R_lt (by (with_reducible repeat (first|apply rA_|apply rN_|apply rD_));exact HO342.out))) (be_ (by repeat (first|(with_reducible first|exact HB.out|apply bA_|apply bN_|apply bD_|refine bs_ ?_ GE334.out|refine bs_ ?_ GE335.out|refine bs_ ?_ GE336.out)|exact HB.out))))
  have n2_:=Az.mk (bb_ (g:=gb334) (o:=.cells #[.slice A0_0 l0_0.length c0_0] 87 (0,0)) (by (with_reducible repeat (first|refine bq_ ?_ _|refine bw_ ?_|refine bz_ ?_ _));exact BK334.out) hb)
  have n3_:=Az.mk (bb_ (g:=gb335) (o:=.cells #[.slice A1_0 l1_0.length c1_0] 87 (0,0)) (by (with_reducible repeat (first|refine bq_ ?_ _|refine bw_ ?_|refine bz_ ?_ _));exact BK335.out) hb)
  have n4_:=Az.mk (bb_ (g:=gb336) (o:=.cells #[.slice none 0 0] 87 (0,0)) (by (with_reducible repeat (first|refine bq_ ?_ _|refine bw_ ?_|refine bz_ ?_ _));exact BK336.out) hb)
  have n5_:=Az.mk (below_step (by repeat (first|(with_reducible first|exact HB.out|apply bA_|apply bN_|apply bD_|refine bs_ ?_ GE334.out|refine bs_ ?_ GE335.out|refine bs_ ?_ GE336.out)|exact HB.out)) hb)
  clear HO342
  clear BK334
  clear BK335
  clear BK336
  clear HB
  have HO342:=n0_
  have HO345:=n1_
  have BK334:=n2_
  have BK335:=n3_
  have BK336:=n4_
  have HB:=n5_
  clear n0_ n1_ n2_ n3_ n4_ n5_
  (try clear hb)
  (try clear hb2)
  (try clear hk)
  (try clear hi)
  (try clear ho0)
  obtain ⟨Ao14,co14,eo14⟩:=Kd.R_slice HO345.out
  (first|subst eo14|(injection eo14 with f1_ f2_ f3_;have f4_:=f1_.symm;have f5_:=f3_.symm;clear f1_ f2_ f3_;subst f4_;subst f5_))
  refine hK.out _ _ ⟨(bc_ BK334.out 0).trans rfl,(bc_ BK335.out 0).trans rfl⟩ (fun hHeld=>?_)
  clear hK K
  refine norm_ (a':=?_) ?_ ?_
  rotate_left
  ·show Act.put _ (some 11) _=_
   simp only [Act.put,sA_,sB_,sC_,i64_w,i32_w]
   rfl
  refine one_ (i:=7) (N:=none) #[true,true,true,true,true,true,true,true] rfl rfl (one_of HT_.out (by kernel_rfl)) (by decide) (fun K hK=>?_)
  have hs15:w13.cell? ⟨gb336,0,none⟩=some (.slice none 0 0):=(bc_ BK336.out 0).trans rfl
  have hfs15:=bf_ BK336.out 0
  have hns15_0:=NB334_336.out
  have hns15_1:=NB335_336.out
  have hms15_0:=NB336_334.out
  have hms15_1:=NB336_335.out
  refine skip_ (w1:=?_) (by rfl) rfl ?_ ?_
  rotate_left
  ·go_simp
   rfl
  refine hK.out _ _ ⟨((cell_far (p:=⟨gb336,_,none⟩) NB334_336.out _).trans (hHeld.1)),((cell_far (p:=⟨gb336,_,none⟩) NB335_336.out _).trans (hHeld.2))⟩ (fun hHeld=>?_)
  clear hK K
  refine done_ (done_of HT_.out (by kernel_rfl)) ?_
  try go_wp2
  refine bodyPost_ret (results_cell_row rfl _ _ gb336 87 #[.slice Ao14 t343.length co14] (0,0) _ rfl (by (with_reducible repeat (first|refine bq_ ?_ _|refine bw_ ?_|refine bz_ ?_ _));refine blk_put (cs:=#[.slice none 0 0]) ?_ 0 _ rfl;(with_reducible repeat (first|refine bq_ ?_ _|refine bw_ ?_|refine bz_ ?_ _));exact BK336.out) Try.underlying87 rfl (by kernel_rfl)) rfl ?_
  exact ⟨_,by first|rfl|(simp [errW_none,errW_some] <;> rfl)|(simp [*,errW_none,errW_some] <;> rfl),by (with_reducible repeat (first|apply rA_|apply rN_|apply rD_));exact Kd.R_mono (Kd.R_far (p:=⟨gb336,0,none⟩) (Kd.R_types HO345.out BK336.out (by decide)) (fun _ hk=>hk.2) (.slice Ao14 t343.length co14)) (fun _ hk=>trivial),by repeat (first|(with_reducible first|exact HB.out|apply bA_|apply bN_|apply bD_|refine bs_ ?_ GE334.out|refine bs_ ?_ GE335.out|refine bs_ ?_ GE336.out)|exact HB.out)⟩
 ·rw [if_neg c4] at H
  exact absurd H (by simp)
end Go.Proofs.Ytoihiehoolehiaa.PX
namespace Go.Proofs.Ytoihiehoolehiaa.PX
open Go.RowKit Go.Proofs.YtoihiehoolehiaaW.PrintWords Go.Proofs.YtoihiehoolehiaaW.PrintLast Go.Proofs.YtoihiehoolehiaaW.PrintMore
attribute [local go_sem] max2_int min2_int max_two min_two max_three min_three max_four min_four   
set_option linter.unusedVariables false
set_option linter.unusedSimpArgs false
attribute [local go_sem] run_field_87_0
def cmp_isNaN_string.f (a0:ByteArray):Option (Bool):=some (a0.toList != a0.toList)
set_option maxHeartbeats 8000000 in
set_option maxRecDepth 100000 in
theorem cmp_isNaN_string.calls (a0:ByteArray) (r:Bool) (w:World) (h:cmp_isNaN_string.f a0=some r) :
  Calls Try.prog 84 #[.string a0] w fun e w'=>e=.returned (.bool r)∧Drawn0 w w':=by
 have H:(some (a0.toList != a0.toList))=some r:=h
 clear h
 obtain rfl:=Option.some.inj H
 go_enter Try.func84,Try.ntmps84
 go_wp2
 go_ret
 exact ⟨by first|rfl|(simp;done)|(simp [*];done),by repeat (first|exact Drawn0.refl _|apply Drawn0.step)⟩
end Go.Proofs.Ytoihiehoolehiaa.PX
namespace Go.Proofs.Ytoihiehoolehiaa.PX
open Go.RowKit Go.Proofs.YtoihiehoolehiaaW.PrintWords Go.Proofs.YtoihiehoolehiaaW.PrintLast Go.Proofs.YtoihiehoolehiaaW.PrintMore
attribute [local go_sem] max2_int min2_int max_two min_two max_three min_three max_four min_four   
set_option linter.unusedVariables false
set_option linter.unusedSimpArgs false
attribute [local go_sem] run_field_87_0
def cmp_Less_string.f (a0:ByteArray) (a1:ByteArray):Option (Bool):=(cmp_isNaN_string.f a0).bind fun t346=>(if t346=true then ((cmp_isNaN_string.f a1).bind fun t347=>(if t347=true then (some (Op.bytesLess a0.toList a1.toList)) else (some true))) else (some (Op.bytesLess a0.toList a1.toList)))
set_option maxHeartbeats 8000000 in
set_option maxRecDepth 100000 in
theorem cmp_Less_string.calls (a0:ByteArray) (a1:ByteArray) (r:Bool) (w:World) (h:cmp_Less_string.f a0 a1=some r) :
  Calls Try.prog 72 #[.string a0,.string a1] w fun e w'=>e=.returned (.bool r)∧Drawn0 w w':=by
 have H:((cmp_isNaN_string.f a0).bind fun t346=>(if t346=true then ((cmp_isNaN_string.f a1).bind fun t347=>(if t347=true then (some (Op.bytesLess a0.toList a1.toList)) else (some true))) else (some (Op.bytesLess a0.toList a1.toList))))=some r:=h
 clear h
 replace H:=Option.bind_eq_some_iff.mp H
 obtain ⟨t346,A30,H⟩:=H
 replace H:(if t346=true then ((cmp_isNaN_string.f a1).bind fun t347=>(if t347=true then (some (Op.bytesLess a0.toList a1.toList)) else (some true))) else (some (Op.bytesLess a0.toList a1.toList)))=some r:=H
 have A3:=Az.mk A30
 clear A30
 by_cases c4:t346=true
 ·subst c4
  have H1:((cmp_isNaN_string.f a1).bind fun t347=>(if t347=true then (some (Op.bytesLess a0.toList a1.toList)) else (some true)))=some r:=by rw [if_pos rfl] at H;exact H
  clear H
  have H:=H1
  clear H1
  replace H:=Option.bind_eq_some_iff.mp H
  obtain ⟨t347,A50,H⟩:=H
  replace H:(if t347=true then (some (Op.bytesLess a0.toList a1.toList)) else (some true))=some r:=H
  have A5:=Az.mk A50
  clear A50
  by_cases c6:t347=true
  ·subst c6
   have H1:(some (Op.bytesLess a0.toList a1.toList))=some r:=by rw [if_pos rfl] at H;exact H
   clear H
   have H:=H1
   clear H1
   obtain rfl:=Option.some.inj H
   go_enter Try.func72,Try.ntmps72
   go_wp2_with (first|((with_reducible refine gate_callee (f:=84) rfl ?_);refine goesL_ (some 6) rfl rfl Try.func84 (by kernel_rfl) rfl #[.string a0] rfl (by (try simp only [List.map_toArray,List.map_cons,List.map_nil]);first|done|rfl|(simp only [List.length_drop,List.length_take];rfl)) ?_;(with_reducible refine (cmp_isNaN_string.calls a0 true _ A3.out).mono ?_);rintro e w' ⟨rfl,⟨nd,rfl⟩⟩;refine ⟨_,rfl,?_⟩)|(go_at_call 84;(with_reducible refine (cmp_isNaN_string.calls a1 true _ A5.out).mono ?_);rintro e w' ⟨rfl,⟨nd,rfl⟩⟩))
   go_ret
   exact ⟨by first|rfl|(simp;done)|(simp [*];done),by repeat (first|exact Drawn0.refl _|apply Drawn0.step)⟩
  ·replace c6:=Bool.eq_false_iff.mpr c6
   subst c6
   have H1:(some true)=some r:=by rw [if_neg (show ¬ (false=true) by decide)] at H;exact H
   clear H
   have H:=H1
   clear H1
   obtain rfl:=Option.some.inj H
   go_enter Try.func72,Try.ntmps72
   go_wp2_with (first|((with_reducible refine gate_callee (f:=84) rfl ?_);refine goesL_ (some 6) rfl rfl Try.func84 (by kernel_rfl) rfl #[.string a0] rfl (by (try simp only [List.map_toArray,List.map_cons,List.map_nil]);first|done|rfl|(simp only [List.length_drop,List.length_take];rfl)) ?_;(with_reducible refine (cmp_isNaN_string.calls a0 true _ A3.out).mono ?_);rintro e w' ⟨rfl,⟨nd,rfl⟩⟩;refine ⟨_,rfl,?_⟩)|(go_at_call 84;(with_reducible refine (cmp_isNaN_string.calls a1 false _ A5.out).mono ?_);rintro e w' ⟨rfl,⟨nd,rfl⟩⟩))
   go_ret
   exact ⟨by first|rfl|(simp;done)|(simp [*];done),by repeat (first|exact Drawn0.refl _|apply Drawn0.step)⟩
 ·replace c4:=Bool.eq_false_iff.mpr c4
  subst c4
  have H1:(some (Op.bytesLess a0.toList a1.toList))=some r:=by rw [if_neg (show ¬ (false=true) by decide)] at H;exact H
  clear H
  have H:=H1
  clear H1
  obtain rfl:=Option.some.inj H
  go_enter Try.func72,Try.ntmps72
  go_wp2_with (first|((with_reducible refine gate_callee (f:=84) rfl ?_);refine goesL_ (some 6) rfl rfl Try.func84 (by kernel_rfl) rfl #[.string a0] rfl (by (try simp only [List.map_toArray,List.map_cons,List.map_nil]);first|done|rfl|(simp only [List.length_drop,List.length_take];rfl)) ?_;(with_reducible refine (cmp_isNaN_string.calls a0 false _ A3.out).mono ?_);rintro e w' ⟨rfl,⟨nd,rfl⟩⟩;refine ⟨_,rfl,?_⟩))
  go_ret
  exact ⟨by first|rfl|(simp;done)|(simp [*];done),by repeat (first|exact Drawn0.refl _|apply Drawn0.step)⟩
end Go.Proofs.Ytoihiehoolehiaa.PX
namespace Go.Proofs.Ytoihiehoolehiaa.PX
open Go.RowKit Go.Proofs.YtoihiehoolehiaaW.PrintWords Go.Proofs.YtoihiehoolehiaaW.PrintLast Go.Proofs.YtoihiehoolehiaaW.PrintMore
attribute [local go_sem] max2_int min2_int max_two min_two max_three min_three max_four min_four   
set_option linter.unusedVariables false
set_option linter.unusedSimpArgs false
attribute [local go_sem] run_field_87_0
def slices_isNaN_string.f (a0:ByteArray):Option (Bool):=some (a0.toList != a0.toList)
set_option maxHeartbeats 8000000 in
set_option maxRecDepth 100000 in
theorem slices_isNaN_string.calls (a0:ByteArray) (r:Bool) (w:World) (h:slices_isNaN_string.f a0=some r) :
  Calls Try.prog 73 #[.string a0] w fun e w'=>e=.returned (.bool r)∧Drawn0 w w':=by
 have H:(some (a0.toList != a0.toList))=some r:=h
 clear h
 obtain rfl:=Option.some.inj H
 go_enter Try.func73,Try.ntmps73
 go_wp2
 go_ret
 exact ⟨by first|rfl|(simp;done)|(simp [*];done),by repeat (first|exact Drawn0.refl _|apply Drawn0.step)⟩
end Go.Proofs.Ytoihiehoolehiaa.PX
