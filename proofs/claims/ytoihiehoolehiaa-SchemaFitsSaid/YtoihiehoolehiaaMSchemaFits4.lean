/- Texts on the way to 'SchemaFits', one behind the other (part 4). -/
import Derived.Test.YtoihiehoolehiaaMSchemaFits1
import Derived.Test.YtoihiehoolehiaaMSchemaFits2
import Derived.Test.YtoihiehoolehiaaMSchemaFits3
namespace Go.Proofs.Ytoihiehoolehiaa.PX
open Go.RowKit Go.Proofs.YtoihiehoolehiaaW.PrintWords Go.Proofs.YtoihiehoolehiaaW.PrintLast Go.Proofs.YtoihiehoolehiaaW.PrintMore
attribute [local go_sem] max2_int min2_int max_two min_two max_three min_three max_four min_four   
set_option linter.unusedVariables false
set_option linter.unusedSimpArgs false
mutual
def cadencelaw4_Make.l0:Nat→List (S33)→Int→List (S33)→Int→Option ((List (S33)))
 | 0,_,_,_,_=>none
 | k+1,x0,x3,x4,x5=>if x5 < x3 then (cadencelaw4_Make.l1 k x0 x3 x4 x5 0 ([]:List (S40)) false false true ([]:List ByteArray)) else (some x4)
def cadencelaw4_Make.l1:Nat→List (S33)→Int→List (S33)→Int→Int→List (S40)→Bool→Bool→Bool→List ByteArray→Option ((List (S33)))
 | 0,_,_,_,_,_,_,_,_,_,_=>none
 | k+1,x0,x3,x4,x5,x8,x212000,x212001,x212002,x213000,x213001=>if x5 < (x0.length:Int) then (if 0≤x5 then (if x8 < (((rd_T33 x0 x5).f0).length:Int) then (cadencelaw4_Make.j2 k x0 x3 x4 x5 x8 (decide (x8 < 3)) x212000 x212001 x212002 x213000 x213001) else (cadencelaw4_Make.j2 k x0 x3 x4 x5 x8 false x212000 x212001 x212002 x213000 x213001)) else (none)) else (cadencelaw4_Make.j2 k x0 x3 x4 x5 x8 false x212000 x212001 x212002 x213000 x213001)
def cadencelaw4_Make.j2:Nat→List (S33)→Int→List (S33)→Int→Int→Bool→List (S40)→Bool→Bool→Bool→List ByteArray→Option ((List (S33)))
 | 0,_,_,_,_,_,_,_,_,_,_,_=>none
 | k+1,x0,x3,x4,x5,x8,x38,x212000,x212001,x212002,x213000,x213001=>if x38=true then (if 0≤x5 then (if x5 < (x0.length:Int) then (if 0≤x8 then (if x8 < (((rd_T33 x0 x5).f0).length:Int) then ((cadencelaw3_Make.f k ((rd_T40 ((rd_T33 x0 x5).f0) x8).f0.f0) ((rd_T40 ((rd_T33 x0 x5).f0) x8).f0.f1)).bind fun bt225=>((cadenceref3_Both.f k bt225.1 bt225.2 x213000 x213001).bind fun bt229=>((cadenceref3_Not.f k bt229.1 bt229.2).bind fun bt234=>((cadenceref3_Both.f k x213000 x213001 bt234.1 bt234.2).bind fun bt238=>(cadencelaw4_Make.j3 k x0 x3 x4 x5 x8 x212000 x212001 x212002 bt238.1 bt238.2 ((rd_T40 ((rd_T33 x0 x5).f0) x8).f0.f0) ((rd_T40 ((rd_T33 x0 x5).f0) x8).f0.f1) ((rd_T40 ((rd_T33 x0 x5).f0) x8).f1) ((rd_T40 ((rd_T33 x0 x5).f0) x8).f2) bt229.1 bt229.2))))) else (none)) else (none)) else (none)) else (none)) else (if x5 < (x0.length:Int) then (if 0≤x5 then (if x4.length < 4398046511104 then (cadencelaw4_Make.l0 k x0 x3 (x4 ++ [(⟨x212000,(rd_T33 x0 x5).f1,(rd_T33 x0 x5).f2⟩:S33)]) (wrap64 (x5+1))) else (none)) else (none)) else (if x4.length < 4398046511104 then (cadencelaw4_Make.l0 k x0 x3 (x4 ++ [(⟨x212000,x212001,x212002⟩:S33)]) (wrap64 (x5+1))) else (none)))
def cadencelaw4_Make.j3:Nat→List (S33)→Int→List (S33)→Int→Int→List (S40)→Bool→Bool→Bool→List ByteArray→Bool→List ByteArray→Int→Bool→Bool→List ByteArray→Option ((List (S33)))
 | 0,_,_,_,_,_,_,_,_,_,_,_,_,_,_,_,_=>none
 | k+1,x0,x3,x4,x5,x8,x212000,x212001,x212002,x213000,x213001,x225000,x225001,x225002,x225003,x234000,x234001=>(cadencelaw4_within.f x225002 x3).bind fun t242=>(if x225003=true then (if x212000.length < 2932031007402 then (cadencelaw4_Make.l1 k x0 x3 x4 x5 (wrap64 (x8+1)) (x212000 ++ [(⟨(⟨x234000,x234001⟩:S38),t242,!x234000⟩:S40)]) x212001 x212002 x213000 x213001) else (none)) else (if x212000.length < 2932031007402 then (cadencelaw4_Make.l1 k x0 x3 x4 x5 (wrap64 (x8+1)) (x212000 ++ [(⟨(⟨x234000,x234001⟩:S38),t242,false⟩:S40)]) x212001 x212002 x213000 x213001) else (none)))
end
def cadencelaw4_Make.f (k:Nat) (l0:List (S33)):Option ((List (S33))):=cadencelaw4_Make.l0 k l0 (mx 1 (mn (l0.length:Int) 4)) ([]:List (S33)) 0
theorem cadencelaw4_Make.mono_l:∀ k,(∀ y0 y1 y2 y3,LeO (cadencelaw4_Make.l0 k y0 y1 y2 y3) (cadencelaw4_Make.l0 (k+1) y0 y1 y2 y3))∧(∀ y0 y1 y2 y3 y4 y5 y6 y7 y8 y9,LeO (cadencelaw4_Make.l1 k y0 y1 y2 y3 y4 y5 y6 y7 y8 y9) (cadencelaw4_Make.l1 (k+1) y0 y1 y2 y3 y4 y5 y6 y7 y8 y9))∧(∀ y0 y1 y2 y3 y4 y5 y6 y7 y8 y9 y10,LeO (cadencelaw4_Make.j2 k y0 y1 y2 y3 y4 y5 y6 y7 y8 y9 y10) (cadencelaw4_Make.j2 (k+1) y0 y1 y2 y3 y4 y5 y6 y7 y8 y9 y10))∧(∀ y0 y1 y2 y3 y4 y5 y6 y7 y8 y9 y10 y11 y12 y13 y14 y15,LeO (cadencelaw4_Make.j3 k y0 y1 y2 y3 y4 y5 y6 y7 y8 y9 y10 y11 y12 y13 y14 y15) (cadencelaw4_Make.j3 (k+1) y0 y1 y2 y3 y4 y5 y6 y7 y8 y9 y10 y11 y12 y13 y14 y15))
 | 0=>⟨fun _ _ _ _ r h=>by simp [cadencelaw4_Make.l0] at h,fun _ _ _ _ _ _ _ _ _ _ r h=>by simp [cadencelaw4_Make.l1] at h,fun _ _ _ _ _ _ _ _ _ _ _ r h=>by simp [cadencelaw4_Make.j2] at h,fun _ _ _ _ _ _ _ _ _ _ _ _ _ _ _ _ r h=>by simp [cadencelaw4_Make.j3] at h⟩
 | k+1=>by
  obtain ⟨ih0,ih1,ih2,ih3⟩:=cadencelaw4_Make.mono_l k
  refine ⟨?_,?_,?_,?_⟩
  ·intro y0 y1 y2 y3
   unfold cadencelaw4_Make.l0
   repeat' first
   | (with_reducible exact ih0 _ _ _ _)
   | (with_reducible exact ih1 _ _ _ _ _ _ _ _ _ _)
   | (with_reducible exact ih2 _ _ _ _ _ _ _ _ _ _ _)
   | (with_reducible exact ih3 _ _ _ _ _ _ _ _ _ _ _ _ _ _ _ _)
   | (with_reducible exact cadencelaw3_Make.mono _ _ _)
   | (with_reducible exact cadenceref3_Both.mono _ _ _ _ _)
   | (with_reducible exact cadenceref3_Not.mono _ _ _)
   | (with_reducible exact LeO.refl _)
   | (with_reducible exact LeO.none _)
   | (with_reducible refine LeO.ite ?_ ?_)
   | (with_reducible refine LeO.bind ?_ (fun _=>?_))
   | exact ih0 _ _ _ _
   | exact ih1 _ _ _ _ _ _ _ _ _ _
   | exact ih2 _ _ _ _ _ _ _ _ _ _ _
   | exact ih3 _ _ _ _ _ _ _ _ _ _ _ _ _ _ _ _
   | exact cadencelaw3_Make.mono _ _ _
   | exact cadenceref3_Both.mono _ _ _ _ _
   | exact cadenceref3_Not.mono _ _ _
   | exact LeO.none _
   | refine LeO.ite ?_ ?_
   | refine LeO.bind ?_ (fun _=>?_)
  ·intro y0 y1 y2 y3 y4 y5 y6 y7 y8 y9
   unfold cadencelaw4_Make.l1
   repeat' first
   | (with_reducible exact ih0 _ _ _ _)
   | (with_reducible exact ih1 _ _ _ _ _ _ _ _ _ _)
   | (with_reducible exact ih2 _ _ _ _ _ _ _ _ _ _ _)
   | (with_reducible exact ih3 _ _ _ _ _ _ _ _ _ _ _ _ _ _ _ _)
   | (with_reducible exact cadencelaw3_Make.mono _ _ _)
   | (with_reducible exact cadenceref3_Both.mono _ _ _ _ _)
   | (with_reducible exact cadenceref3_Not.mono _ _ _)
   | (with_reducible exact LeO.refl _)
   | (with_reducible exact LeO.none _)
   | (with_reducible refine LeO.ite ?_ ?_)
   | (with_reducible refine LeO.bind ?_ (fun _=>?_))
   | exact ih0 _ _ _ _
   | exact ih1 _ _ _ _ _ _ _ _ _ _
   | exact ih2 _ _ _ _ _ _ _ _ _ _ _
   | exact ih3 _ _ _ _ _ _ _ _ _ _ _ _ _ _ _ _
   | exact cadencelaw3_Make.mono _ _ _
   | exact cadenceref3_Both.mono _ _ _ _ _
   | exact cadenceref3_Not.mono _ _ _
   | exact LeO.none _
   | refine LeO.ite ?_ ?_
   | refine LeO.bind ?_ (fun _=>?_)
  ·intro y0 y1 y2 y3 y4 y5 y6 y7 y8 y9 y10
   unfold cadencelaw4_Make.j2
   repeat' first
   | (with_reducible exact ih0 _ _ _ _)
   | (with_reducible exact ih1 _ _ _ _ _ _ _ _ _ _)
   | (with_reducible exact ih2 _ _ _ _ _ _ _ _ _ _ _)
   | (with_reducible exact ih3 _ _ _ _ _ _ _ _ _ _ _ _ _ _ _ _)
   | (with_reducible exact cadencelaw3_Make.mono _ _ _)
   | (with_reducible exact cadenceref3_Both.mono _ _ _ _ _)
   | (with_reducible exact cadenceref3_Not.mono _ _ _)
   | (with_reducible exact LeO.refl _)
   | (with_reducible exact LeO.none _)
   | (with_reducible refine LeO.ite ?_ ?_)
   | (with_reducible refine LeO.bind ?_ (fun _=>?_))
   | exact ih0 _ _ _ _
   | exact ih1 _ _ _ _ _ _ _ _ _ _
   | exact ih2 _ _ _ _ _ _ _ _ _ _ _
   | exact ih3 _ _ _ _ _ _ _ _ _ _ _ _ _ _ _ _
   | exact cadencelaw3_Make.mono _ _ _
   | exact cadenceref3_Both.mono _ _ _ _ _
   | exact cadenceref3_Not.mono _ _ _
   | exact LeO.none _
   | refine LeO.ite ?_ ?_
   | refine LeO.bind ?_ (fun _=>?_)
  ·intro y0 y1 y2 y3 y4 y5 y6 y7 y8 y9 y10 y11 y12 y13 y14 y15
   unfold cadencelaw4_Make.j3
   repeat' first
   | (with_reducible exact ih0 _ _ _ _)
   | (with_reducible exact ih1 _ _ _ _ _ _ _ _ _ _)
   | (with_reducible exact ih2 _ _ _ _ _ _ _ _ _ _ _)
   | (with_reducible exact ih3 _ _ _ _ _ _ _ _ _ _ _ _ _ _ _ _)
   | (with_reducible exact cadencelaw3_Make.mono _ _ _)
   | (with_reducible exact cadenceref3_Both.mono _ _ _ _ _)
   | (with_reducible exact cadenceref3_Not.mono _ _ _)
   | (with_reducible exact LeO.refl _)
   | (with_reducible exact LeO.none _)
   | (with_reducible refine LeO.ite ?_ ?_)
   | (with_reducible refine LeO.bind ?_ (fun _=>?_))
   | exact ih0 _ _ _ _
   | exact ih1 _ _ _ _ _ _ _ _ _ _
   | exact ih2 _ _ _ _ _ _ _ _ _ _ _
   | exact ih3 _ _ _ _ _ _ _ _ _ _ _ _ _ _ _ _
   | exact cadencelaw3_Make.mono _ _ _
   | exact cadenceref3_Both.mono _ _ _ _ _
   | exact cadenceref3_Not.mono _ _ _
   | exact LeO.none _
   | refine LeO.ite ?_ ?_
   | refine LeO.bind ?_ (fun _=>?_)
theorem cadencelaw4_Make.mono:∀ a0 k,LeO (cadencelaw4_Make.f k a0) (cadencelaw4_Make.f (k+1) a0):=by
 intro a0 k
 obtain ⟨ih0,ih1,ih2,ih3⟩:=cadencelaw4_Make.mono_l k
 unfold cadencelaw4_Make.f
 repeat' first
   | (with_reducible exact ih0 _ _ _ _)
   | (with_reducible exact ih1 _ _ _ _ _ _ _ _ _ _)
   | (with_reducible exact ih2 _ _ _ _ _ _ _ _ _ _ _)
   | (with_reducible exact ih3 _ _ _ _ _ _ _ _ _ _ _ _ _ _ _ _)
   | (with_reducible exact cadencelaw3_Make.mono _ _ _)
   | (with_reducible exact cadenceref3_Both.mono _ _ _ _ _)
   | (with_reducible exact cadenceref3_Not.mono _ _ _)
   | (with_reducible exact LeO.refl _)
   | (with_reducible exact LeO.none _)
   | (with_reducible refine LeO.ite ?_ ?_)
   | (with_reducible refine LeO.bind ?_ (fun _=>?_))
   | exact ih0 _ _ _ _
   | exact ih1 _ _ _ _ _ _ _ _ _ _
   | exact ih2 _ _ _ _ _ _ _ _ _ _ _
   | exact ih3 _ _ _ _ _ _ _ _ _ _ _ _ _ _ _ _
   | exact cadencelaw3_Make.mono _ _ _
   | exact cadenceref3_Both.mono _ _ _ _ _
   | exact cadenceref3_Not.mono _ _ _
   | exact LeO.none _
   | refine LeO.ite ?_ ?_
   | refine LeO.bind ?_ (fun _=>?_)
def cadencelaw4_Make.T15:Bool × List (List Nat × List Nat):=(true,[([],[]),([0],[0]),([],[]),([],[]),([3],[3]),([],[]),([4,5],[4,5]),([],[]),([7],[7]),([8,6],[8]),([9],[9]),([10,9],[9,10]),([11,9],[9,11]),([9,12],[9,12]),([2,6,13],[2,6,13]),([14],[14]),([1,15,9],[1,15]),([0,1,2,3,4,5,6,7,8,9,10,11,12,13,14,15,16],[]),([17,16,16,0,1,2,3,4,5,6,7,8,9,10,11,12,13,14,15,16],[16,17])])
def cadencelaw4_Make.B15:List Nat:=[0,1,0,0,8,0,56,0,128,504,1016,2040,4088,8184,16380,32764,65535,131071,262143]
theorem cadencelaw4_Make.tab15:rtab .any (opsOf Try.f10 15)=cadencelaw4_Make.T15:=by kernel_rfl
theorem cadencelaw4_Make.bits15:waitsOk cadencelaw4_Make.T15.2 cadencelaw4_Make.B15=true:=by kernel_rfl
def cadencelaw4_Make.T17:Bool × List (List Nat × List Nat):=(true,[([],[]),([],[]),([0,1],[0,1]),([2],[2]),([3],[3]),([],[]),([],[]),([5,6],[5,6]),([7],[7]),([8],[8]),([0,1,2,3,4],[]),([10,4,0,1,2,3,4],[4,10]),([0,1,2,3,4,5,6,7,8,9,10,11],[]),([12,9,11,0,1,2,3,4,5,6,7,8,9,10,11],[9,12])])
def cadencelaw4_Make.B17:List Nat:=[0,0,3,7,15,0,0,96,224,480,31,1055,4095,8191]
theorem cadencelaw4_Make.tab17:rtab .any (opsOf Try.f10 17)=cadencelaw4_Make.T17:=by kernel_rfl
theorem cadencelaw4_Make.bits17:waitsOk cadencelaw4_Make.T17.2 cadencelaw4_Make.B17=true:=by kernel_rfl
set_option maxHeartbeats 8000000 in
set_option maxRecDepth 100000 in
theorem cadencelaw4_Make.calls (k:Nat) (A0:Option Addr) (c0:Nat) (l0:List (S33)) (r:List (S33)) (w:World) (hr0:Kd.C k33 w A0 l0.length l0) (hc0:l0.length≤c0) (h:cadencelaw4_Make.f k l0=some r) :
  Calls Try.prog 10 #[.slice A0 l0.length c0] w fun e w'=>∃ v0_:Value,e=.returned (v0_)∧Kd.R k33 33 w' w.heap.size (fun _=>True) v0_ r∧Below w.heap.size w w':=by
 have hu33:=Try.underlying33
 have hu38:=Try.underlying38
 have hu40:=Try.underlying40
 have HR0:=Aside0.mk hr0
 have HC0:=Aside0.mk hc0
 clear hr0 hc0
 have HB:=Aside0.mk (Below.refl w.heap.size w)
 have H:(cadencelaw4_Make.l0 k l0 (mx 1 (mn (l0.length:Int) 4)) ([]:List (S33)) 0)=some r:=h
 clear h
 obtain ⟨ji2,hji2⟩:∃ j_:Int,(mn (l0.length:Int) 4)=j_:=⟨_,rfl⟩
 replace H:(cadencelaw4_Make.l0 k l0 (mx 1 (ji2)) ([]:List (S33)) 0)=some r:=by first|(rw [hji2] at H;exact H)|(simp only [hji2] at H ⊢;exact H)
 (try (have hji2h:ji2≤4:=by (rw [← hji2];unfold mn;(repeat' split) <;> omega)))
 (try (have hji2g:ji2≤64:=by omega))
 (try (have hji2l:0≤ji2:=by (rw [← hji2];unfold mn;(repeat' split) <;> omega)))
 (try (have hji2m:0≤ji2:=by omega))
 have hji2_:(if 4 < (l0.length:Int) then 4 else (l0.length:Int))=ji2:=hji2
 obtain ⟨ji3,hji3⟩:∃ j_:Int,(mx 1 (ji2))=j_:=⟨_,rfl⟩
 replace H:(cadencelaw4_Make.l0 k l0 ji3 ([]:List (S33)) 0)=some r:=by first|(rw [hji3] at H;exact H)|(simp only [hji3] at H ⊢;exact H)
 have hji3_:(if 1 < (ji2) then (ji2) else 1)=ji3:=hji3
 have H':=Aside0.mk H
 clear H
 go_enter Try.func10,Try.ntmps10
 go_wp2
 go_loopg [4,5] k (fun kq v4 v5 w'=>∃ (x4_1:List (S33)) (x5_1:Int),v5=.int .i64 x5_1∧Aside0 (cadencelaw4_Make.l0 kq l0 ji3 x4_1 x5_1=some r)∧Aside0 (kq≤k)∧Aside0 (Kd.R k33 33 w' w.heap.size (fun _=>True) v4 x4_1)∧Aside0 (Below w.heap.size w w'))
 case atStart=>exact ⟨(([]:List (S33))),(0),(by first|rfl|(simp;done)|(simp [*];done)),H',⟨Nat.le_refl _⟩,⟨by first|exact Kd.R_nil _ _ _ _ _|exact Kd.N_nil _ _ _ _ _|exact Kd.V_nil _ _ _ _ _|exact Kd.Q_nil _ _ _ _ _|exact Kd.S_nil _ _ _ _ _⟩,⟨by repeat (first|(with_reducible first|exact HB.out|apply bA_|apply bN_|apply bD_)|exact HB.out)⟩⟩
 case round =>
  clear H'
  try clear c1
  try clear p2
  obtain ⟨x4_1,x5_1,rfl,HA,HK1,HO_4,HB⟩:=hrel
  cases gk with
  | zero=>exact absurd HA.out (by simp [cadencelaw4_Make.l0])
  | succ k1 =>
   have H:=HA.out
   clear HA
   simp only [cadencelaw4_Make.l0] at H
   by_cases c4:x5_1 < ji3
   ·rw [if_pos c4] at H
    have c4b0:decide (x5_1 < ji3)=true:=decide_eq_true c4
    clear c4
    have H':=Aside0.mk H
    clear H
    go_wp2_with (first|((with_reducible refine gate_dst (N:=6) rfl ?_);(try (refine gate_guard (by rfl) ?_;dsimp only));refine box_event ?hg (N:=6) ?hd (cs:=#[.slice none 0 0,.bool false,.bool false]) (t:=33) ?hr ?_;(case hd=>rfl);(case hg=>rfl);(case hr=>first|(go_simp;done)|(go_simp;rfl));intro gb211 hg w5 hbox hb;have n0_:=Aside0.mk (Kd.R_below (Kd.R_elderB (by (with_reducible repeat (first|apply rA_|apply rN_|apply rD_));exact HO_4.out) gb211 (Nat.le_of_eq hg.symm)) hb);have n1_:=Aside0.mk (below_step (by repeat (first|(with_reducible first|exact HB.out|apply bA_|apply bN_|apply bD_)|exact HB.out)) hb);have n2_:=Aside0.mk (hbox);have n3_:=Aside0.mk ((by rw [hg];exact (below_size (by repeat (first|(with_reducible first|exact HB.out|apply bA_|apply bN_|apply bD_)|exact HB.out))):w.heap.size≤gb211));have n4_:=Aside0.mk ((by rw [hg];exact (below_size (by repeat (first|(with_reducible first|exact HB.out|apply bA_|apply bN_|apply bD_)|exact HB.out))):w.heap.size≤gb211));clear HO_4;clear HB;have HO_4:=n0_;have HB:=n1_;have BK211:=n2_;have GW211:=n3_;have GE211:=n4_;clear n0_ n1_ n2_ n3_ n4_;clear hb hbox hg)|((with_reducible refine gate_dst (N:=7) rfl ?_);(try (refine gate_guard (by rfl) ?_;dsimp only));refine box_event ?hg (N:=7) ?hd (cs:=#[.bool false,.slice none 0 0]) (t:=38) ?hr ?_;(case hd=>rfl);(case hg=>rfl);(case hr=>first|(go_simp;done)|(go_simp;rfl));intro gb212 hg w6 hbox hb;have n0_:=Aside0.mk (Kd.R_below (by (with_reducible repeat (first|apply rA_|apply rN_|apply rD_));exact HO_4.out) hb);have n1_:=Aside0.mk (blk_below (g:=gb211) (o:=.cells #[.slice none 0 0,.bool false,.bool false] 33 (0,0)) (by (with_reducible repeat (first|refine blk_drewN ?_ _|refine blk_drew ?_|refine blk_alloc ?_ _));exact BK211.out) hb);have n2_:=Aside0.mk (below_step (by repeat (first|(with_reducible first|exact HB.out|apply bA_|apply bN_|apply bD_|refine below_set ?_ GE211.out)|exact HB.out)) hb);have n3_:=Aside0.mk (hbox);have n4_:=Aside0.mk ((by rw [hg];exact (below_size (by repeat (first|(with_reducible first|exact HB.out|apply bA_|apply bN_|apply bD_|refine below_set ?_ GE211.out)|exact HB.out))):w.heap.size≤gb212));have n5_:=Aside0.mk ((by rw [hg];exact (below_size (by repeat (first|(with_reducible first|exact HB.out|apply bA_|apply bN_|apply bD_|refine below_set ?_ GE211.out)|exact HB.out))):w.heap.size≤gb212));have n6_:=Aside0.mk ((by rw [hg];exact Nat.ne_of_lt (blk_lt (g:=gb211) (o:=.cells #[.slice none 0 0,.bool false,.bool false] 33 (0,0)) (by (with_reducible repeat (first|refine blk_drewN ?_ _|refine blk_drew ?_|refine blk_alloc ?_ _));exact BK211.out)):gb211≠gb212));have n7_:=Aside0.mk ((by rw [hg];exact Nat.ne_of_gt (blk_lt (g:=gb211) (o:=.cells #[.slice none 0 0,.bool false,.bool false] 33 (0,0)) (by (with_reducible repeat (first|refine blk_drewN ?_ _|refine blk_drew ?_|refine blk_alloc ?_ _));exact BK211.out)):gb212≠gb211));clear HO_4;clear BK211;clear HB;have HO_4:=n0_;have BK211:=n1_;have HB:=n2_;have BK212:=n3_;have GW212:=n4_;have GE212:=n5_;have NB211_212:=n6_;have NB212_211:=n7_;clear n0_ n1_ n2_ n3_ n4_ n5_ n6_ n7_;clear hb hbox hg;have hnb7:=NB212_211.out;have hnc7:=NB211_212.out;have hcz8_0:w6.cell? ⟨gb212,0,none⟩=some (.bool false):=(blk_cell BK212.out 0).trans rfl;have hcz8_1:w6.cell? ⟨gb212,1,none⟩=some (.slice none 0 0):=(blk_cell BK212.out 1).trans rfl;have hfz8_0:=blk_frozen BK212.out 0;have hfz8_1:=blk_frozen BK212.out 1))
    go_loopg [8] k1 (fun kq v8 w'=>∃ (x8_2:Int) (x212000_2:List (S40)) (x213000_2:Bool) (x213001_2:List ByteArray) (u212000:Value) (u213001:Value),v8=.int .i64 x8_2∧Aside0 (cadencelaw4_Make.l1 kq l0 ji3 x4_1 x5_1 x8_2 x212000_2 false false x213000_2 x213001_2=some r)∧Aside0 (kq≤k1)∧Aside0 (Kd.R k33 33 w' w.heap.size (fun k_=>some k_≠(u212000:Value).ownBlock∧some k_≠(u213001:Value).ownBlock∧k_≠gb211) u4 x4_1)∧Aside0 (Kd.S k40 40 w' w.heap.size (fun k_=>some k_≠(u213001:Value).ownBlock) u212000 x212000_2)∧Aside0 (Kd.R Kd.string 9 w' w.heap.size (fun _=>True) u213001 x213001_2)∧Aside0 (w'.heap[gb211]? = some (.cells #[u212000,.bool false,.bool false] 33 (0,0)))∧Aside0 (w'.heap[gb212]? = some (.cells #[.bool x213000_2,u213001] 38 (0,0)))∧Aside0 (Below w.heap.size w w'))
    case atStart=>exact ⟨(0),(([]:List (S40))),(true),(([]:List ByteArray)),(.slice none 0 0),(.slice none 0 0),(by first|rfl|(simp;done)|(simp [*];done)),H',⟨Nat.le_refl _⟩,⟨by (with_reducible repeat (first|apply rA_|apply rN_|apply rD_));exact Kd.R_mono (Kd.R_far (p:=⟨gb212,0,none⟩) (Kd.R_types HO_4.out BK212.out (by decide)) (fun _ hk=>hk.2) (.bool true)) (fun _ hk=>⟨(by simp [Value.ownBlock]),⟨(by simp [Value.ownBlock]),hk.1.2⟩⟩)⟩,⟨by first|exact Kd.S_nil _ _ _ _ _|exact Kd.N_nil _ _ _ _ _|exact Kd.V_nil _ _ _ _ _|exact Kd.Q_nil _ _ _ _ _|exact Kd.R_nil _ _ _ _ _⟩,⟨by first|exact Kd.R_nil _ _ _ _ _|exact Kd.N_nil _ _ _ _ _|exact Kd.V_nil _ _ _ _ _|exact Kd.Q_nil _ _ _ _ _|exact Kd.S_nil _ _ _ _ _⟩,⟨by (with_reducible repeat (first|refine blk_drewN ?_ _|refine blk_drew ?_|refine blk_alloc ?_ _));refine blk_far ?_ NB211_212.out _;(with_reducible repeat (first|refine blk_drewN ?_ _|refine blk_drew ?_|refine blk_alloc ?_ _));exact BK211.out⟩,⟨by (with_reducible repeat (first|refine blk_drewN ?_ _|refine blk_drew ?_|refine blk_alloc ?_ _));refine blk_put (cs:=#[.bool false,.slice none 0 0]) ?_ 0 _ rfl;(with_reducible repeat (first|refine blk_drewN ?_ _|refine blk_drew ?_|refine blk_alloc ?_ _));exact BK212.out⟩,⟨by repeat (first|(with_reducible first|exact HB.out|apply bA_|apply bN_|apply bD_|refine below_set ?_ GE211.out|refine below_set ?_ GE212.out)|exact HB.out)⟩⟩
    case round =>
     clear H'
     try clear c1
     try clear p2
     try clear c4
     try clear c4b0
     try clear c7
     try clear hcz8_0
     try clear hcz8_1
     try clear hfz8_0
     try clear hfz8_1
     try clear p2
     obtain ⟨x8_2,x212000_2,x213000_2,x213001_2,u212000,u213001,rfl,HA,HK2,HO_4,HO_212000,HO_213001,BK211,BK212,HB⟩:=hrel
     cases gk with
     | zero=>exact absurd HA.out (by simp [cadencelaw4_Make.l1])
     | succ k2 =>
      have H:=HA.out
      clear HA
      simp only [cadencelaw4_Make.l1] at H
      have HC9:=Aside0.mk H
      clear H
      go_upto_region 10 with (fail)
      go_cut [38] (fun v38 wc=>∃ (kq:Nat) (x38_8:Bool),v38=.bool x38_8∧Aside0 (cadencelaw4_Make.j2 kq l0 ji3 x4_1 x5_1 x8_2 x38_8 x212000_2 false false x213000_2 x213001_2=some r)∧Aside0 (kq≤k2)∧Aside0 (Kd.R k33 33 wc w.heap.size (fun k_=>some k_≠(u212000:Value).ownBlock∧some k_≠(u213001:Value).ownBlock∧k_≠gb211) u4 x4_1)∧Aside0 (Kd.S k40 40 wc w.heap.size (fun k_=>some k_≠(u213001:Value).ownBlock) u212000 x212000_2)∧Aside0 (Kd.R Kd.string 9 wc w.heap.size (fun _=>True) u213001 x213001_2)∧Aside0 (wc.heap[gb211]? = some (.cells #[u212000,.bool false,.bool false] 33 (0,0)))∧Aside0 (wc.heap[gb212]? = some (.cells #[.bool x213000_2,u213001] 38 (0,0)))∧Aside0 (Below w.heap.size w wc))
      case first =>
       have H:=HC9.out
       clear HC9
       by_cases c10:x5_1 < (l0.length:Int)
       ·rw [if_pos c10] at H
        have c10b0:decide (x5_1 < (l0.length:Int))=true:=decide_eq_true c10
        clear c10
        (first|rw [c10b0]|(simp only [i64_w,i32_w];rw [c10b0])|skip)
        by_cases c11:0≤x5_1
        ·rw [if_pos c11] at H
         have c11b0:decide (0≤x5_1)=true:=decide_eq_true c11
         clear c11
         by_cases c12:x8_2 < (((rd_T33 l0 x5_1).f0).length:Int)
         ·rw [if_pos c12] at H
          have c12b0:decide (x8_2 < (((rd_T33 l0 x5_1).f0).length:Int))=true:=decide_eq_true c12
          clear c12
          have H':=Aside0.mk H
          clear H
          have p213:0≤(x5_1:Int):=of_decide_eq_true (by first|(with_reducible assumption)|assumption)
          have q213:x5_1 < (l0.length:Int):=of_decide_eq_true (by first|(with_reducible assumption)|assumption)
          obtain ⟨ad213,A213_0,c213_0,e213,hx213_0,hx213_1,hx213_2,hl213_0,hi213_0⟩:=at_T33 HR0.out x5_1 p213 q213
          cases e213
          replace hx213_0:=(HB.out.cell (World.block_lt_of_cell? w _ hx213_0)).trans hx213_0
          replace hx213_1:=(HB.out.cell (World.block_lt_of_cell? w _ hx213_1)).trans hx213_1
          replace hx213_2:=(HB.out.cell (World.block_lt_of_cell? w _ hx213_2)).trans hx213_2
          have HR213_0:=Aside0.mk hi213_0
          have HC213_0:=Aside0.mk hl213_0
          clear hi213_0 hl213_0
          replace p213:=eq_true p213
          replace q213:=eq_true q213
          go_wp2
          go_meet
          case rel=>exact ⟨_,(decide (x8_2 < 3)),(by first|rfl|(simp;done)|(simp [*];done)),H',⟨by have:=HK1.out;have:=HK2.out;first|omega|exact Nat.le_refl _⟩,⟨by (with_reducible repeat (first|apply rA_|apply rN_|apply rD_));exact HO_4.out⟩,⟨by (with_reducible repeat (first|apply Kd.S_alloc|apply Kd.S_drewN|apply Kd.S_drew));exact HO_212000.out⟩,⟨by (with_reducible repeat (first|apply rA_|apply rN_|apply rD_));exact HO_213001.out⟩,⟨by (with_reducible repeat (first|refine blk_drewN ?_ _|refine blk_drew ?_|refine blk_alloc ?_ _));exact BK211.out⟩,⟨by (with_reducible repeat (first|refine blk_drewN ?_ _|refine blk_drew ?_|refine blk_alloc ?_ _));exact BK212.out⟩,⟨by repeat (first|(with_reducible first|exact HB.out|apply bA_|apply bN_|apply bD_|refine below_set ?_ GE211.out|refine below_set ?_ GE212.out)|exact HB.out)⟩⟩
         ·rw [if_neg c12] at H
          have c12b0:decide (x8_2 < (((rd_T33 l0 x5_1).f0).length:Int))=false:=decide_eq_false c12
          clear c12
          have H':=Aside0.mk H
          clear H
          have p213:0≤(x5_1:Int):=of_decide_eq_true (by first|(with_reducible assumption)|assumption)
          have q213:x5_1 < (l0.length:Int):=of_decide_eq_true (by first|(with_reducible assumption)|assumption)
          obtain ⟨ad213,A213_0,c213_0,e213,hx213_0,hx213_1,hx213_2,hl213_0,hi213_0⟩:=at_T33 HR0.out x5_1 p213 q213
          cases e213
          replace hx213_0:=(HB.out.cell (World.block_lt_of_cell? w _ hx213_0)).trans hx213_0
          replace hx213_1:=(HB.out.cell (World.block_lt_of_cell? w _ hx213_1)).trans hx213_1
          replace hx213_2:=(HB.out.cell (World.block_lt_of_cell? w _ hx213_2)).trans hx213_2
          have HR213_0:=Aside0.mk hi213_0
          have HC213_0:=Aside0.mk hl213_0
          clear hi213_0 hl213_0
          replace p213:=eq_true p213
          replace q213:=eq_true q213
          go_wp2
          go_meet
          case rel=>exact ⟨_,(false),(by first|rfl|(simp;done)|(simp [*];done)),H',⟨by have:=HK1.out;have:=HK2.out;first|omega|exact Nat.le_refl _⟩,⟨by (with_reducible repeat (first|apply rA_|apply rN_|apply rD_));exact HO_4.out⟩,⟨by (with_reducible repeat (first|apply Kd.S_alloc|apply Kd.S_drewN|apply Kd.S_drew));exact HO_212000.out⟩,⟨by (with_reducible repeat (first|apply rA_|apply rN_|apply rD_));exact HO_213001.out⟩,⟨by (with_reducible repeat (first|refine blk_drewN ?_ _|refine blk_drew ?_|refine blk_alloc ?_ _));exact BK211.out⟩,⟨by (with_reducible repeat (first|refine blk_drewN ?_ _|refine blk_drew ?_|refine blk_alloc ?_ _));exact BK212.out⟩,⟨by repeat (first|(with_reducible first|exact HB.out|apply bA_|apply bN_|apply bD_|refine below_set ?_ GE211.out|refine below_set ?_ GE212.out)|exact HB.out)⟩⟩
        ·rw [if_neg c11] at H
         exact absurd H (by simp)
       ·rw [if_neg c10] at H
        have c10b0:decide (x5_1 < (l0.length:Int))=false:=decide_eq_false c10
        clear c10
        (first|rw [c10b0]|(simp only [i64_w,i32_w];rw [c10b0])|skip)
        have H':=Aside0.mk H
        clear H
        go_wp2
        go_meet
        case rel=>exact ⟨_,(false),(by first|rfl|(simp;done)|(simp [*];done)),H',⟨by have:=HK1.out;have:=HK2.out;first|omega|exact Nat.le_refl _⟩,⟨by (with_reducible repeat (first|apply rA_|apply rN_|apply rD_));exact HO_4.out⟩,⟨by (with_reducible repeat (first|apply Kd.S_alloc|apply Kd.S_drewN|apply Kd.S_drew));exact HO_212000.out⟩,⟨by (with_reducible repeat (first|apply rA_|apply rN_|apply rD_));exact HO_213001.out⟩,⟨by (with_reducible repeat (first|refine blk_drewN ?_ _|refine blk_drew ?_|refine blk_alloc ?_ _));exact BK211.out⟩,⟨by (with_reducible repeat (first|refine blk_drewN ?_ _|refine blk_drew ?_|refine blk_alloc ?_ _));exact BK212.out⟩,⟨by repeat (first|(with_reducible first|exact HB.out|apply bA_|apply bN_|apply bD_|refine below_set ?_ GE211.out|refine below_set ?_ GE212.out)|exact HB.out)⟩⟩
      case rest =>
       clear HC9
       try clear c1
       try clear c2
       try clear p2
       try clear q2
       try clear hx2
       try clear c4
       try clear c4b0
       try clear c7
       try clear c10
       try clear c10b0
       try clear c11
       try clear c11b0
       try clear c12
       try clear c12b0
       try clear hcz8_0
       try clear hcz8_1
       try clear hfz8_0
       try clear hfz8_1
       try clear hx213_0
       try clear hx213_1
       try clear hx213_2
       try clear p2
       try clear p213
       try clear q213
       obtain ⟨kq,x38_8,rfl,HA,HJ8,HO_4,HO_212000,HO_213001,BK211,BK212,HB⟩:=hcut
       cases kq with
       | zero=>exact absurd HA.out (by simp [cadencelaw4_Make.j2])
       | succ kj8 =>
        have H:=HA.out
        clear HA
        simp only [cadencelaw4_Make.j2] at H
        by_cases c13:x38_8=true
        ·subst c13
         have H1:(if 0≤x5_1 then (if x5_1 < (l0.length:Int) then (if 0≤x8_2 then (if x8_2 < (((rd_T33 l0 x5_1).f0).length:Int) then ((cadencelaw3_Make.f kj8 ((rd_T40 ((rd_T33 l0 x5_1).f0) x8_2).f0.f0) ((rd_T40 ((rd_T33 l0 x5_1).f0) x8_2).f0.f1)).bind fun bt225=>((cadenceref3_Both.f kj8 bt225.1 bt225.2 x213000_2 x213001_2).bind fun bt229=>((cadenceref3_Not.f kj8 bt229.1 bt229.2).bind fun bt234=>((cadenceref3_Both.f kj8 x213000_2 x213001_2 bt234.1 bt234.2).bind fun bt238=>(cadencelaw4_Make.j3 kj8 l0 ji3 x4_1 x5_1 x8_2 x212000_2 false false bt238.1 bt238.2 ((rd_T40 ((rd_T33 l0 x5_1).f0) x8_2).f0.f0) ((rd_T40 ((rd_T33 l0 x5_1).f0) x8_2).f0.f1) ((rd_T40 ((rd_T33 l0 x5_1).f0) x8_2).f1) ((rd_T40 ((rd_T33 l0 x5_1).f0) x8_2).f2) bt229.1 bt229.2))))) else (none)) else (none)) else (none)) else (none))=some r:=by rw [if_pos rfl] at H;exact H
         clear H
         have H:=H1
         clear H1
         by_cases c14:0≤x5_1
         ·rw [if_pos c14] at H
          have c14b0:decide (0≤x5_1)=true:=decide_eq_true c14
          clear c14
          by_cases c15:x5_1 < (l0.length:Int)
          ·rw [if_pos c15] at H
           have c15b0:decide (x5_1 < (l0.length:Int))=true:=decide_eq_true c15
           clear c15
           by_cases c16:0≤x8_2
           ·rw [if_pos c16] at H
            have c16b0:decide (0≤x8_2)=true:=decide_eq_true c16
            clear c16
            by_cases c17:x8_2 < (((rd_T33 l0 x5_1).f0).length:Int)
            ·rw [if_pos c17] at H
             have c17b0:decide (x8_2 < (((rd_T33 l0 x5_1).f0).length:Int))=true:=decide_eq_true c17
             clear c17
             replace H:=Option.bind_eq_some_iff.mp H
             obtain ⟨⟨t225,t226⟩,A180,H⟩:=H
             replace H:((cadenceref3_Both.f kj8 t225 t226 x213000_2 x213001_2).bind fun bt229=>((cadenceref3_Not.f kj8 bt229.1 bt229.2).bind fun bt234=>((cadenceref3_Both.f kj8 x213000_2 x213001_2 bt234.1 bt234.2).bind fun bt238=>(cadencelaw4_Make.j3 kj8 l0 ji3 x4_1 x5_1 x8_2 x212000_2 false false bt238.1 bt238.2 ((rd_T40 ((rd_T33 l0 x5_1).f0) x8_2).f0.f0) ((rd_T40 ((rd_T33 l0 x5_1).f0) x8_2).f0.f1) ((rd_T40 ((rd_T33 l0 x5_1).f0) x8_2).f1) ((rd_T40 ((rd_T33 l0 x5_1).f0) x8_2).f2) bt229.1 bt229.2))))=some r:=H
             have A18:=Aside0.mk A180
             clear A180
             replace H:=Option.bind_eq_some_iff.mp H
             obtain ⟨⟨t229,t230⟩,A190,H⟩:=H
             replace H:((cadenceref3_Not.f kj8 t229 t230).bind fun bt234=>((cadenceref3_Both.f kj8 x213000_2 x213001_2 bt234.1 bt234.2).bind fun bt238=>(cadencelaw4_Make.j3 kj8 l0 ji3 x4_1 x5_1 x8_2 x212000_2 false false bt238.1 bt238.2 ((rd_T40 ((rd_T33 l0 x5_1).f0) x8_2).f0.f0) ((rd_T40 ((rd_T33 l0 x5_1).f0) x8_2).f0.f1) ((rd_T40 ((rd_T33 l0 x5_1).f0) x8_2).f1) ((rd_T40 ((rd_T33 l0 x5_1).f0) x8_2).f2) t229 t230)))=some r:=H
             have A19:=Aside0.mk A190
             clear A190
             have HC20:=Aside0.mk H
             clear H
             have p222:0≤(x5_1:Int):=of_decide_eq_true (by first|(with_reducible assumption)|assumption)
             have q222:x5_1 < (l0.length:Int):=of_decide_eq_true (by first|(with_reducible assumption)|assumption)
             obtain ⟨ad222,A222_0,c222_0,e222,hx222_0,hx222_1,hx222_2,hl222_0,hi222_0⟩:=at_T33 HR0.out x5_1 p222 q222
             cases e222
             replace hx222_0:=(HB.out.cell (World.block_lt_of_cell? w _ hx222_0)).trans hx222_0
             replace hx222_1:=(HB.out.cell (World.block_lt_of_cell? w _ hx222_1)).trans hx222_1
             replace hx222_2:=(HB.out.cell (World.block_lt_of_cell? w _ hx222_2)).trans hx222_2
             have HR222_0:=Aside0.mk hi222_0
             have HC222_0:=Aside0.mk hl222_0
             clear hi222_0 hl222_0
             replace p222:=eq_true p222
             replace q222:=eq_true q222
             have p223:0≤(x8_2:Int):=of_decide_eq_true (by first|(with_reducible assumption)|assumption)
             have q223:x8_2 < (((rd_T33 l0 x5_1).f0).length:Int):=of_decide_eq_true (by first|(with_reducible assumption)|assumption)
             obtain ⟨ad223,A223_1,c223_1,e223,hx223_0,hx223_1,hx223_2,hx223_3,hl223_1,hi223_1⟩:=at_T40 HR222_0.out x8_2 p223 q223
             cases e223
             replace hx223_0:=(HB.out.cell (World.block_lt_of_cell? w _ hx223_0)).trans hx223_0
             replace hx223_1:=(HB.out.cell (World.block_lt_of_cell? w _ hx223_1)).trans hx223_1
             replace hx223_2:=(HB.out.cell (World.block_lt_of_cell? w _ hx223_2)).trans hx223_2
             replace hx223_3:=(HB.out.cell (World.block_lt_of_cell? w _ hx223_3)).trans hx223_3
             have HR223_1:=Aside0.mk hi223_1
             have HC223_1:=Aside0.mk hl223_1
             clear hi223_1 hl223_1
             replace p223:=eq_true p223
             replace q223:=eq_true q223
             try go_wp2_with (first|((with_reducible refine gate_dst (N:=9) rfl ?_);(try (refine gate_guard (by rfl) ?_;dsimp only));refine box_event ?hg (N:=9) ?hd (cs:=#[.bool false,.slice none 0 0,.int .i64 0,.bool false]) (t:=40) ?hr ?_;(case hd=>rfl);(case hg=>rfl);(case hr=>first|(go_simp;done)|(go_simp;rfl));intro gb224 hg w21 hbox hb;have n0_:=Aside0.mk (Kd.R_below (Kd.R_elderB (by (with_reducible repeat (first|apply rA_|apply rN_|apply rD_));exact HO_4.out) gb224 (Nat.le_of_eq hg.symm)) hb);have n1_:=Aside0.mk (Kd.S_below (Kd.S_elderB (by (with_reducible repeat (first|apply Kd.S_alloc|apply Kd.S_drewN|apply Kd.S_drew));exact HO_212000.out) gb224 (Nat.le_of_eq hg.symm)) hb);have n2_:=Aside0.mk (Kd.R_below (by (with_reducible repeat (first|apply rA_|apply rN_|apply rD_));exact HO_213001.out) hb);have n3_:=Aside0.mk (blk_below (g:=gb211) (o:=.cells #[u212000,.bool false,.bool false] 33 (0,0)) (by (with_reducible repeat (first|refine blk_drewN ?_ _|refine blk_drew ?_|refine blk_alloc ?_ _));exact BK211.out) hb);have n4_:=Aside0.mk (blk_below (g:=gb212) (o:=.cells #[.bool x213000_2,u213001] 38 (0,0)) (by (with_reducible repeat (first|refine blk_drewN ?_ _|refine blk_drew ?_|refine blk_alloc ?_ _));exact BK212.out) hb);have n5_:=Aside0.mk (below_step (by repeat (first|(with_reducible first|exact HB.out|apply bA_|apply bN_|apply bD_|refine below_set ?_ GE211.out|refine below_set ?_ GE212.out)|exact HB.out)) hb);have n6_:=Aside0.mk (hbox);have n7_:=Aside0.mk ((by rw [hg];exact (below_size (by repeat (first|(with_reducible first|exact HB.out|apply bA_|apply bN_|apply bD_|refine below_set ?_ GE211.out|refine below_set ?_ GE212.out)|exact HB.out))):w.heap.size≤gb224));have n8_:=Aside0.mk ((by rw [hg];exact (below_size (by repeat (first|(with_reducible first|exact HB.out|apply bA_|apply bN_|apply bD_|refine below_set ?_ GE211.out|refine below_set ?_ GE212.out)|exact HB.out))):w.heap.size≤gb224));have n9_:=Aside0.mk ((by rw [hg];exact Nat.ne_of_lt (blk_lt (g:=gb211) (o:=.cells #[u212000,.bool false,.bool false] 33 (0,0)) (by (with_reducible repeat (first|refine blk_drewN ?_ _|refine blk_drew ?_|refine blk_alloc ?_ _));exact BK211.out)):gb211≠gb224));have n10_:=Aside0.mk ((by rw [hg];exact Nat.ne_of_gt (blk_lt (g:=gb211) (o:=.cells #[u212000,.bool false,.bool false] 33 (0,0)) (by (with_reducible repeat (first|refine blk_drewN ?_ _|refine blk_drew ?_|refine blk_alloc ?_ _));exact BK211.out)):gb224≠gb211));have n11_:=Aside0.mk ((by rw [hg];exact Nat.ne_of_lt (blk_lt (g:=gb212) (o:=.cells #[.bool x213000_2,u213001] 38 (0,0)) (by (with_reducible repeat (first|refine blk_drewN ?_ _|refine blk_drew ?_|refine blk_alloc ?_ _));exact BK212.out)):gb212≠gb224));have n12_:=Aside0.mk ((by rw [hg];exact Nat.ne_of_gt (blk_lt (g:=gb212) (o:=.cells #[.bool x213000_2,u213001] 38 (0,0)) (by (with_reducible repeat (first|refine blk_drewN ?_ _|refine blk_drew ?_|refine blk_alloc ?_ _));exact BK212.out)):gb224≠gb212));clear HO_4;clear HO_212000;clear HO_213001;clear BK211;clear BK212;clear HB;have HO_4:=n0_;have HO_212000:=n1_;have HO_213001:=n2_;have BK211:=n3_;have BK212:=n4_;have HB:=n5_;have BK224:=n6_;have GW224:=n7_;have GE224:=n8_;have NB211_224:=n9_;have NB224_211:=n10_;have NB212_224:=n11_;have NB224_212:=n12_;clear n0_ n1_ n2_ n3_ n4_ n5_ n6_ n7_ n8_ n9_ n10_ n11_ n12_;clear hb hbox hg;have hnb22:=NB224_211.out;have hnc22:=NB211_224.out;have hnb23:=NB224_212.out;have hnc23:=NB212_224.out;have hcz24_0:w21.cell? ⟨gb224,0,none⟩=some (.bool false):=(blk_cell BK224.out 0).trans rfl;have hcz24_1:w21.cell? ⟨gb224,1,none⟩=some (.slice none 0 0):=(blk_cell BK224.out 1).trans rfl;have hcz24_2:w21.cell? ⟨gb224,2,none⟩=some (.int .i64 0):=(blk_cell BK224.out 2).trans rfl;have hcz24_3:w21.cell? ⟨gb224,3,none⟩=some (.bool false):=(blk_cell BK224.out 3).trans rfl;have hfz24_0:=blk_frozen BK224.out 0;have hfz24_1:=blk_frozen BK224.out 1;have hfz24_2:=blk_frozen BK224.out 2;have hfz24_3:=blk_frozen BK224.out 3;obtain ⟨Ao25,co25,eo25⟩:=Kd.R_slice HO_213001.out;subst eo25))
             have n0_:Aside0 (Kd.R k33 33 ((((w21.setCell ⟨gb224,0,none⟩ (.bool ((rd_T40 ((rd_T33 l0 x5_1).f0) x8_2).f0.f0))).setCell ⟨gb224,1,none⟩ (.slice A223_1 ((rd_T40 ((rd_T33 l0 x5_1).f0) x8_2).f0.f1).length c223_1)).setCell ⟨gb224,2,none⟩ (.int .i64 ((rd_T40 ((rd_T33 l0 x5_1).f0) x8_2).f1))).setCell ⟨gb224,3,none⟩ (.bool ((rd_T40 ((rd_T33 l0 x5_1).f0) x8_2).f2))) w.heap.size (fun k_=>some k_≠(u212000:Value).ownBlock∧some k_≠(.slice Ao25 x213001_2.length co25:Value).ownBlock∧k_≠gb211∧k_≠gb224) u4 x4_1):=⟨by (with_reducible repeat (first|apply rA_|apply rN_|apply rD_));exact Kd.R_mono (Kd.R_far (p:=⟨gb224,3,none⟩) (Kd.R_far (p:=⟨gb224,2,none⟩) (Kd.R_far (p:=⟨gb224,1,none⟩) (Kd.R_far (p:=⟨gb224,0,none⟩) (Kd.R_mono HO_4.out (fun k_ hk=>(⟨hk,hk.2⟩:_∧k_≠gb224))) (fun _ hk=>hk.2) (.bool ((rd_T40 ((rd_T33 l0 x5_1).f0) x8_2).f0.f0))) (fun _ hk=>hk.2) (.slice A223_1 ((rd_T40 ((rd_T33 l0 x5_1).f0) x8_2).f0.f1).length c223_1)) (fun _ hk=>hk.2) (.int .i64 ((rd_T40 ((rd_T33 l0 x5_1).f0) x8_2).f1))) (fun _ hk=>hk.2) (.bool ((rd_T40 ((rd_T33 l0 x5_1).f0) x8_2).f2))) (fun _ hk=>⟨hk.1.1.1,⟨hk.1.1.2.1,⟨hk.1.1.2.2,hk.1.2⟩⟩⟩)⟩
             have n1_:Aside0 (Kd.S k40 40 ((((w21.setCell ⟨gb224,0,none⟩ (.bool ((rd_T40 ((rd_T33 l0 x5_1).f0) x8_2).f0.f0))).setCell ⟨gb224,1,none⟩ (.slice A223_1 ((rd_T40 ((rd_T33 l0 x5_1).f0) x8_2).f0.f1).length c223_1)).setCell ⟨gb224,2,none⟩ (.int .i64 ((rd_T40 ((rd_T33 l0 x5_1).f0) x8_2).f1))).setCell ⟨gb224,3,none⟩ (.bool ((rd_T40 ((rd_T33 l0 x5_1).f0) x8_2).f2))) w.heap.size (fun k_=>some k_≠(.slice Ao25 x213001_2.length co25:Value).ownBlock∧k_≠gb224) u212000 x212000_2):=⟨by (with_reducible repeat (first|apply Kd.S_alloc|apply Kd.S_drewN|apply Kd.S_drew));exact Kd.S_mono (Kd.S_far (p:=⟨gb224,3,none⟩) (Kd.S_far (p:=⟨gb224,2,none⟩) (Kd.S_far (p:=⟨gb224,1,none⟩) (Kd.S_far (p:=⟨gb224,0,none⟩) (Kd.S_mono HO_212000.out (fun k_ hk=>(⟨hk,hk.2⟩:_∧k_≠gb224))) (fun _ hk=>hk.2) (.bool ((rd_T40 ((rd_T33 l0 x5_1).f0) x8_2).f0.f0))) (fun _ hk=>hk.2) (.slice A223_1 ((rd_T40 ((rd_T33 l0 x5_1).f0) x8_2).f0.f1).length c223_1)) (fun _ hk=>hk.2) (.int .i64 ((rd_T40 ((rd_T33 l0 x5_1).f0) x8_2).f1))) (fun _ hk=>hk.2) (.bool ((rd_T40 ((rd_T33 l0 x5_1).f0) x8_2).f2))) (fun _ hk=>⟨hk.1.1,hk.1.2⟩)⟩
             have n2_:Aside0 (Kd.R Kd.string 9 ((((w21.setCell ⟨gb224,0,none⟩ (.bool ((rd_T40 ((rd_T33 l0 x5_1).f0) x8_2).f0.f0))).setCell ⟨gb224,1,none⟩ (.slice A223_1 ((rd_T40 ((rd_T33 l0 x5_1).f0) x8_2).f0.f1).length c223_1)).setCell ⟨gb224,2,none⟩ (.int .i64 ((rd_T40 ((rd_T33 l0 x5_1).f0) x8_2).f1))).setCell ⟨gb224,3,none⟩ (.bool ((rd_T40 ((rd_T33 l0 x5_1).f0) x8_2).f2))) w.heap.size (fun _=>True) (.slice Ao25 x213001_2.length co25) x213001_2):=⟨by (with_reducible repeat (first|apply rA_|apply rN_|apply rD_));exact Kd.R_mono (Kd.R_far (p:=⟨gb224,3,none⟩) (Kd.R_far (p:=⟨gb224,2,none⟩) (Kd.R_far (p:=⟨gb224,1,none⟩) (Kd.R_far (p:=⟨gb224,0,none⟩) (Kd.R_types HO_213001.out BK224.out (by decide)) (fun _ hk=>hk.2) (.bool ((rd_T40 ((rd_T33 l0 x5_1).f0) x8_2).f0.f0))) (fun _ hk=>hk.2) (.slice A223_1 ((rd_T40 ((rd_T33 l0 x5_1).f0) x8_2).f0.f1).length c223_1)) (fun _ hk=>hk.2) (.int .i64 ((rd_T40 ((rd_T33 l0 x5_1).f0) x8_2).f1))) (fun _ hk=>hk.2) (.bool ((rd_T40 ((rd_T33 l0 x5_1).f0) x8_2).f2))) (fun _ hk=>trivial)⟩
             have n3_:Aside0 (((((w21.setCell ⟨gb224,0,none⟩ (.bool ((rd_T40 ((rd_T33 l0 x5_1).f0) x8_2).f0.f0))).setCell ⟨gb224,1,none⟩ (.slice A223_1 ((rd_T40 ((rd_T33 l0 x5_1).f0) x8_2).f0.f1).length c223_1)).setCell ⟨gb224,2,none⟩ (.int .i64 ((rd_T40 ((rd_T33 l0 x5_1).f0) x8_2).f1))).setCell ⟨gb224,3,none⟩ (.bool ((rd_T40 ((rd_T33 l0 x5_1).f0) x8_2).f2))).heap[gb211]? = some (.cells #[u212000,.bool false,.bool false] 33 (0,0))):=⟨by (with_reducible repeat (first|refine blk_drewN ?_ _|refine blk_drew ?_|refine blk_alloc ?_ _));refine blk_far ?_ NB211_224.out _;(with_reducible repeat (first|refine blk_drewN ?_ _|refine blk_drew ?_|refine blk_alloc ?_ _));refine blk_far ?_ NB211_224.out _;(with_reducible repeat (first|refine blk_drewN ?_ _|refine blk_drew ?_|refine blk_alloc ?_ _));refine blk_far ?_ NB211_224.out _;(with_reducible repeat (first|refine blk_drewN ?_ _|refine blk_drew ?_|refine blk_alloc ?_ _));refine blk_far ?_ NB211_224.out _;(with_reducible repeat (first|refine blk_drewN ?_ _|refine blk_drew ?_|refine blk_alloc ?_ _));exact BK211.out⟩
             have n4_:Aside0 (((((w21.setCell ⟨gb224,0,none⟩ (.bool ((rd_T40 ((rd_T33 l0 x5_1).f0) x8_2).f0.f0))).setCell ⟨gb224,1,none⟩ (.slice A223_1 ((rd_T40 ((rd_T33 l0 x5_1).f0) x8_2).f0.f1).length c223_1)).setCell ⟨gb224,2,none⟩ (.int .i64 ((rd_T40 ((rd_T33 l0 x5_1).f0) x8_2).f1))).setCell ⟨gb224,3,none⟩ (.bool ((rd_T40 ((rd_T33 l0 x5_1).f0) x8_2).f2))).heap[gb212]? = some (.cells #[.bool x213000_2,.slice Ao25 x213001_2.length co25] 38 (0,0))):=⟨by (with_reducible repeat (first|refine blk_drewN ?_ _|refine blk_drew ?_|refine blk_alloc ?_ _));refine blk_far ?_ NB212_224.out _;(with_reducible repeat (first|refine blk_drewN ?_ _|refine blk_drew ?_|refine blk_alloc ?_ _));refine blk_far ?_ NB212_224.out _;(with_reducible repeat (first|refine blk_drewN ?_ _|refine blk_drew ?_|refine blk_alloc ?_ _));refine blk_far ?_ NB212_224.out _;(with_reducible repeat (first|refine blk_drewN ?_ _|refine blk_drew ?_|refine blk_alloc ?_ _));refine blk_far ?_ NB212_224.out _;(with_reducible repeat (first|refine blk_drewN ?_ _|refine blk_drew ?_|refine blk_alloc ?_ _));exact BK212.out⟩
             have n5_:Aside0 (((((w21.setCell ⟨gb224,0,none⟩ (.bool ((rd_T40 ((rd_T33 l0 x5_1).f0) x8_2).f0.f0))).setCell ⟨gb224,1,none⟩ (.slice A223_1 ((rd_T40 ((rd_T33 l0 x5_1).f0) x8_2).f0.f1).length c223_1)).setCell ⟨gb224,2,none⟩ (.int .i64 ((rd_T40 ((rd_T33 l0 x5_1).f0) x8_2).f1))).setCell ⟨gb224,3,none⟩ (.bool ((rd_T40 ((rd_T33 l0 x5_1).f0) x8_2).f2))).heap[gb224]? = some (.cells #[.bool ((rd_T40 ((rd_T33 l0 x5_1).f0) x8_2).f0.f0),.slice A223_1 ((rd_T40 ((rd_T33 l0 x5_1).f0) x8_2).f0.f1).length c223_1,.int .i64 ((rd_T40 ((rd_T33 l0 x5_1).f0) x8_2).f1),.bool ((rd_T40 ((rd_T33 l0 x5_1).f0) x8_2).f2)] 40 (0,0))):=⟨by (with_reducible repeat (first|refine blk_drewN ?_ _|refine blk_drew ?_|refine blk_alloc ?_ _));refine blk_put (cs:=#[.bool ((rd_T40 ((rd_T33 l0 x5_1).f0) x8_2).f0.f0),.slice A223_1 ((rd_T40 ((rd_T33 l0 x5_1).f0) x8_2).f0.f1).length c223_1,.int .i64 ((rd_T40 ((rd_T33 l0 x5_1).f0) x8_2).f1),.bool false]) ?_ 3 _ rfl;(with_reducible repeat (first|refine blk_drewN ?_ _|refine blk_drew ?_|refine blk_alloc ?_ _));refine blk_put (cs:=#[.bool ((rd_T40 ((rd_T33 l0 x5_1).f0) x8_2).f0.f0),.slice A223_1 ((rd_T40 ((rd_T33 l0 x5_1).f0) x8_2).f0.f1).length c223_1,.int .i64 0,.bool false]) ?_ 2 _ rfl;(with_reducible repeat (first|refine blk_drewN ?_ _|refine blk_drew ?_|refine blk_alloc ?_ _));refine blk_put (cs:=#[.bool ((rd_T40 ((rd_T33 l0 x5_1).f0) x8_2).f0.f0),.slice none 0 0,.int .i64 0,.bool false]) ?_ 1 _ rfl;(with_reducible repeat (first|refine blk_drewN ?_ _|refine blk_drew ?_|refine blk_alloc ?_ _));refine blk_put (cs:=#[.bool false,.slice none 0 0,.int .i64 0,.bool false]) ?_ 0 _ rfl;(with_reducible repeat (first|refine blk_drewN ?_ _|refine blk_drew ?_|refine blk_alloc ?_ _));exact BK224.out⟩
             have n6_:Aside0 (Below w.heap.size w ((((w21.setCell ⟨gb224,0,none⟩ (.bool ((rd_T40 ((rd_T33 l0 x5_1).f0) x8_2).f0.f0))).setCell ⟨gb224,1,none⟩ (.slice A223_1 ((rd_T40 ((rd_T33 l0 x5_1).f0) x8_2).f0.f1).length c223_1)).setCell ⟨gb224,2,none⟩ (.int .i64 ((rd_T40 ((rd_T33 l0 x5_1).f0) x8_2).f1))).setCell ⟨gb224,3,none⟩ (.bool ((rd_T40 ((rd_T33 l0 x5_1).f0) x8_2).f2)))):=⟨by repeat (first|(with_reducible first|exact HB.out|apply bA_|apply bN_|apply bD_|refine below_set ?_ GE211.out|refine below_set ?_ GE212.out|refine below_set ?_ GE224.out)|exact HB.out)⟩
             (try clear HO_4)
             (try clear HO_212000)
             (try clear HO_213001)
             (try clear BK211)
             (try clear BK212)
             (try clear BK224)
             (try clear HB)
             generalize ((((w21.setCell ⟨gb224,0,none⟩ (.bool ((rd_T40 ((rd_T33 l0 x5_1).f0) x8_2).f0.f0))).setCell ⟨gb224,1,none⟩ (.slice A223_1 ((rd_T40 ((rd_T33 l0 x5_1).f0) x8_2).f0.f1).length c223_1)).setCell ⟨gb224,2,none⟩ (.int .i64 ((rd_T40 ((rd_T33 l0 x5_1).f0) x8_2).f1))).setCell ⟨gb224,3,none⟩ (.bool ((rd_T40 ((rd_T33 l0 x5_1).f0) x8_2).f2)))=w26 at n0_ n1_ n2_ n3_ n4_ n5_ n6_ ⊢
             have HO_4:=n0_
             have HO_212000:=n1_
             have HO_213001:=n2_
             have BK211:=n3_
             have BK212:=n4_
             have BK224:=n5_
             have HB:=n6_
             clear n0_ n1_ n2_ n3_ n4_ n5_ n6_
             have n0_:=Aside0.mk (rD_ HO_4.out)
             have n1_:=Aside0.mk (Kd.S_drew HO_212000.out)
             have n2_:=Aside0.mk (rD_ HO_213001.out)
             have n3_:=Aside0.mk (blk_drew BK211.out)
             have n4_:=Aside0.mk (blk_drew BK212.out)
             have n5_:=Aside0.mk (blk_drew BK224.out)
             have n6_:=Aside0.mk (bD_ HB.out)
             clear HO_4
             clear HO_212000
             clear HO_213001
             clear BK211
             clear BK212
             clear BK224
             clear HB
             have HO_4:=n0_
             have HO_212000:=n1_
             have HO_213001:=n2_
             have BK211:=n3_
             have BK212:=n4_
             have BK224:=n5_
             have HB:=n6_
             clear n0_ n1_ n2_ n3_ n4_ n5_ n6_
             refine start_ (n:=7) (S:=fun w'=>w'.cell? ⟨gb224,0,none⟩=some (.bool ((rd_T40 ((rd_T33 l0 x5_1).f0) x8_2).f0.f0))∧w'.cell? ⟨gb224,1,none⟩=some (.slice A223_1 ((rd_T40 ((rd_T33 l0 x5_1).f0) x8_2).f0.f1).length c223_1)∧w'.cell? ⟨gb224,2,none⟩=some (.int .i64 ((rd_T40 ((rd_T33 l0 x5_1).f0) x8_2).f1))∧w'.cell? ⟨gb224,3,none⟩=some (.bool ((rd_T40 ((rd_T33 l0 x5_1).f0) x8_2).f2))∧w'.cell? ⟨gb212,0,none⟩=some (.bool x213000_2)∧w'.cell? ⟨gb212,1,none⟩=some (.slice Ao25 x213001_2.length co25)) (ds:=[]) #[false,false,false,false,false,false,false] (by kernel_rfl) rfl rfl ⟨(blk_cell BK224.out 0).trans rfl,(blk_cell BK224.out 1).trans rfl,(blk_cell BK224.out 2).trans rfl,(blk_cell BK224.out 3).trans rfl,(blk_cell BK212.out 0).trans rfl,(blk_cell BK212.out 1).trans rfl⟩ (fun hHeld=>?_)
             generalize w26.drew=w27 at HO_4 HO_212000 HO_213001 BK211 BK212 BK224 HB hHeld ⊢
             refine pure_ (i:=0) (N:=some 49) (v:=?_) (a':=?_) #[true,false,false,false,false,false,false] rfl rfl (by kernel_rfl) (fun _ _ _ h=>h) (Or.inl ⟨by rfl,?_⟩) ?_ ?_
             rotate_left
             ·intro w'
              go_simp
              with_reducible rfl
             rotate_left
             ·simp only [Act.put,List.setIfInBounds_toArray,List.set_cons_zero,List.set_cons_succ,i64_w,i32_w]
              rfl
             refine take_ (i:=1) (N:=some 50) (v:=?_) (a':=?_) #[true,true,false,false,false,false,false] rfl rfl (by kernel_rfl) (fun _ _ _ h=>h) (Or.inl ⟨by rfl,?_⟩) hHeld ?_ ?_
             rotate_left
             ·rintro w' ⟨s0,s1,s2,s3,s4,s5⟩
              go_simp
              with_reducible rfl
             rotate_left
             ·simp only [Act.put,List.setIfInBounds_toArray,List.set_cons_zero,List.set_cons_succ,i64_w,i32_w]
              rfl
             refine take_ (i:=3) (N:=some 52) (v:=?_) (a':=?_) #[true,true,false,true,false,false,false] rfl rfl (by kernel_rfl) (fun _ _ _ h=>h) (Or.inl ⟨by rfl,?_⟩) hHeld ?_ ?_
             rotate_left
             ·rintro w' ⟨s0,s1,s2,s3,s4,s5⟩
              go_simp
              with_reducible rfl
             rotate_left
             ·simp only [Act.put,List.setIfInBounds_toArray,List.set_cons_zero,List.set_cons_succ,i64_w,i32_w]
              rfl
             refine join_ (σ:=Value × Value × Nat) 1 #[true,true,true,true,true,true,false] (fun s_=>[(51,.agg #[.bool t225,s_.1]),(53,.agg #[.bool t229,s_.2.1]),(10,.pointer (some ⟨s_.2.2,0,none⟩))]) (fun s_ w'=>(w'.cell? ⟨gb224,0,none⟩=some (.bool ((rd_T40 ((rd_T33 l0 x5_1).f0) x8_2).f0.f0))∧w'.cell? ⟨gb224,1,none⟩=some (.slice A223_1 ((rd_T40 ((rd_T33 l0 x5_1).f0) x8_2).f0.f1).length c223_1)∧w'.cell? ⟨gb224,2,none⟩=some (.int .i64 ((rd_T40 ((rd_T33 l0 x5_1).f0) x8_2).f1))∧w'.cell? ⟨gb224,3,none⟩=some (.bool ((rd_T40 ((rd_T33 l0 x5_1).f0) x8_2).f2))∧w'.cell? ⟨gb212,0,none⟩=some (.bool x213000_2)∧w'.cell? ⟨gb212,1,none⟩=some (.slice Ao25 x213001_2.length co25))∧(Kd.R Kd.string 9 w' w.heap.size (fun k_=>some k_≠(s_.2.1:Value).ownBlock∧some k_≠(.slice Ao25 x213001_2.length co25:Value).ownBlock) s_.1 t226)∧(Kd.R Kd.string 9 w' w.heap.size (fun k_=>some k_≠(s_.1:Value).ownBlock∧some k_≠(.slice Ao25 x213001_2.length co25:Value).ownBlock) s_.2.1 t230)∧(Kd.S k40 40 w' w.heap.size (fun k_=>some k_≠(s_.1:Value).ownBlock∧some k_≠(s_.2.1:Value).ownBlock∧some k_≠(.slice Ao25 x213001_2.length co25:Value).ownBlock∧k_≠gb224) u212000 x212000_2)∧(Kd.R Kd.string 9 w' w.heap.size (fun k_=>some k_≠(s_.1:Value).ownBlock∧some k_≠(s_.2.1:Value).ownBlock) (.slice Ao25 x213001_2.length co25) x213001_2)∧(Kd.R k33 33 w' w.heap.size (fun k_=>some k_≠(s_.1:Value).ownBlock∧some k_≠(s_.2.1:Value).ownBlock∧some k_≠(u212000:Value).ownBlock∧some k_≠(.slice Ao25 x213001_2.length co25:Value).ownBlock∧k_≠gb211∧k_≠gb224) u4 x4_1)∧(w'.heap[gb211]? = some (.cells #[u212000,.bool false,.bool false] 33 (0,0)))∧(w'.heap[gb212]? = some (.cells #[.bool x213000_2,.slice Ao25 x213001_2.length co25] 38 (0,0)))∧(w'.heap[gb224]? = some (.cells #[.bool ((rd_T40 ((rd_T33 l0 x5_1).f0) x8_2).f0.f0),.slice A223_1 ((rd_T40 ((rd_T33 l0 x5_1).f0) x8_2).f0.f1).length c223_1,.int .i64 ((rd_T40 ((rd_T33 l0 x5_1).f0) x8_2).f1),.bool ((rd_T40 ((rd_T33 l0 x5_1).f0) x8_2).f2)] 40 (0,0)))∧(w'.heap[s_.2.2]? = some (.cells #[.bool false,.slice none 0 0] 38 (0,0)))∧(w.heap.size≤s_.2.2)∧(w.heap.size≤s_.2.2)∧(gb211≠s_.2.2)∧(s_.2.2≠gb211)∧(gb212≠s_.2.2)∧(s_.2.2≠gb212)∧(gb224≠s_.2.2)∧(s_.2.2≠gb224)∧(Below w.heap.size w w')) ?_ ?_
             rotate_left
             ·intro hCont
              refine two_ (i:=2) (j:=5) (Ni:=some 51) (Nj:=some 10) #[true,true,true,true,false,false,false] #[true,true,false,true,false,true,false] rfl rfl rfl rfl (by kernel_rfl) (by decide) (by decide) (fun K hK=>?_) (fun K hK=>?_)
              ·skip
               refine goes_ Try.func25 (by kernel_rfl) rfl #[.agg #[.bool ((rd_T40 ((rd_T33 l0 x5_1).f0) x8_2).f0.f0),.slice A223_1 ((rd_T40 ((rd_T33 l0 x5_1).f0) x8_2).f0.f1).length c223_1]] (by rfl) rfl rfl (by (try simp only [List.map_toArray,List.map_cons,List.map_nil]);first|done|rfl|(simp only [List.length_drop,List.length_take];rfl)) ?_
               with_reducible refine (cadencelaw3_Make.calls kj8 ((rd_T40 ((rd_T33 l0 x5_1).f0) x8_2).f0.f0) _ _ ((rd_T40 ((rd_T33 l0 x5_1).f0) x8_2).f0.f1) t225 t226 _ ?side1 ?side2 A18.out).mono ?_
               (case side1=>repeat (first|exact (Kd.C_below HR223_1.out HB.out)|(with_reducible refine cA_ ?_ _)|(with_reducible refine cN_ ?_ _)|(with_reducible refine cD_ ?_)))
               (case side2=>exact HC223_1.out)
               rintro e w28 ⟨v227,rfl,ho0,hb⟩
               refine ⟨_,rfl,?_⟩
               have n0_:=Aside0.mk (Kd.R_elder' (by (with_reducible repeat (first|apply rA_|apply rN_|apply rD_));exact HO_4.out) (Kd.R_base ho0) hb)
               have n1_:=Aside0.mk (Kd.S_elder' (by (with_reducible repeat (first|apply Kd.S_alloc|apply Kd.S_drewN|apply Kd.S_drew));exact HO_212000.out) (Kd.R_base ho0) hb)
               have n2_:=Aside0.mk (Kd.R_elder' (by (with_reducible repeat (first|apply rA_|apply rN_|apply rD_));exact HO_213001.out) (Kd.R_base ho0) hb)
               have n3_:=Aside0.mk (Kd.R_lower (Kd.R_new' ho0 (Kd.R_lt (by (with_reducible repeat (first|apply rA_|apply rN_|apply rD_));exact HO_213001.out))) (below_size (by repeat (first|(with_reducible first|exact HB.out|apply bA_|apply bN_|apply bD_|refine below_set ?_ GE211.out|refine below_set ?_ GE212.out|refine below_set ?_ GE224.out)|exact HB.out))))
               have n4_:=Aside0.mk (blk_below (g:=gb211) (o:=.cells #[u212000,.bool false,.bool false] 33 (0,0)) (by (with_reducible repeat (first|refine blk_drewN ?_ _|refine blk_drew ?_|refine blk_alloc ?_ _));exact BK211.out) hb)
               have n5_:=Aside0.mk (blk_below (g:=gb212) (o:=.cells #[.bool x213000_2,.slice Ao25 x213001_2.length co25] 38 (0,0)) (by (with_reducible repeat (first|refine blk_drewN ?_ _|refine blk_drew ?_|refine blk_alloc ?_ _));exact BK212.out) hb)
               have n6_:=Aside0.mk (blk_below (g:=gb224) (o:=.cells #[.bool ((rd_T40 ((rd_T33 l0 x5_1).f0) x8_2).f0.f0),.slice A223_1 ((rd_T40 ((rd_T33 l0 x5_1).f0) x8_2).f0.f1).length c223_1,.int .i64 ((rd_T40 ((rd_T33 l0 x5_1).f0) x8_2).f1),.bool ((rd_T40 ((rd_T33 l0 x5_1).f0) x8_2).f2)] 40 (0,0)) (by (with_reducible repeat (first|refine blk_drewN ?_ _|refine blk_drew ?_|refine blk_alloc ?_ _));exact BK224.out) hb)
               have n7_:=Aside0.mk (below_step (by repeat (first|(with_reducible first|exact HB.out|apply bA_|apply bN_|apply bD_|refine below_set ?_ GE211.out|refine below_set ?_ GE212.out|refine below_set ?_ GE224.out)|exact HB.out)) hb)
               clear HO_4
               clear HO_212000
               clear HO_213001
               clear BK211
               clear BK212
               clear BK224
               clear HB
               have HO_4:=n0_
               have HO_212000:=n1_
               have HO_213001:=n2_
               have HO228:=n3_
               have BK211:=n4_
               have BK212:=n5_
               have BK224:=n6_
               have HB:=n7_
               clear n0_ n1_ n2_ n3_ n4_ n5_ n6_ n7_
               (try clear hb)
               (try clear hb2)
               (try clear hk)
               (try clear hi)
               (try clear ho0)
               obtain ⟨Ao29,co29,eo29⟩:=Kd.R_slice HO228.out
               (first|subst eo29|(injection eo29 with f1_ f2_ f3_;have f4_:=f1_.symm;have f5_:=f3_.symm;clear f1_ f2_ f3_;subst f4_;subst f5_))
               refine hK.out _ _ ⟨(blk_cell BK224.out 0).trans rfl,(blk_cell BK224.out 1).trans rfl,(blk_cell BK224.out 2).trans rfl,(blk_cell BK224.out 3).trans rfl,(blk_cell BK212.out 0).trans rfl,(blk_cell BK212.out 1).trans rfl⟩ (fun hHeld=>?_)
               clear hK K
               refine norm_ (a':=?_) ?_ ?_
               rotate_left
               ·show Act.put _ (some 51) _=_
                simp only [Act.put,List.setIfInBounds_toArray,List.set_cons_zero,List.set_cons_succ,i64_w,i32_w]
                rfl
               refine two_ (i:=4) (j:=5) (Ni:=some 53) (Nj:=some 10) #[true,true,true,true,true,false,false] #[true,true,true,true,false,true,false] rfl rfl rfl rfl (by kernel_rfl) (by decide) (by decide) (fun K hK=>?_) (fun K hK=>?_)
               ·skip
                refine goes_ Try.func24 (by kernel_rfl) rfl #[.agg #[.bool t225,.slice Ao29 t226.length co29],.agg #[.bool x213000_2,.slice Ao25 x213001_2.length co25]] (by rfl) rfl rfl (by (try simp only [List.map_toArray,List.map_cons,List.map_nil]);first|done|rfl|(simp only [List.length_drop,List.length_take];rfl)) ?_
                with_reducible refine (cadenceref3_Both.calls kj8 t225 _ _ t226 x213000_2 _ _ x213001_2 t229 t230 _ ?side1 ?side2 ?side3 ?side4 A19.out).mono ?_
                (case side1=>repeat (first|exact (Kd.R_reads' HO228.out).2.2|(with_reducible refine cA_ ?_ _)|(with_reducible refine cN_ ?_ _)|(with_reducible refine cD_ ?_)))
                (case side2=>exact (Kd.R_reads' HO228.out).2.1)
                (case side3=>repeat (first|exact (Kd.R_reads' HO_213001.out).2.2|(with_reducible refine cA_ ?_ _)|(with_reducible refine cN_ ?_ _)|(with_reducible refine cD_ ?_)))
                (case side4=>exact (Kd.R_reads' HO_213001.out).2.1)
                rintro e w30 ⟨v231,rfl,ho0,hb⟩
                refine ⟨_,rfl,?_⟩
                have n0_:=Aside0.mk (Kd.R_elder' (by (with_reducible repeat (first|apply rA_|apply rN_|apply rD_));exact HO_4.out) (Kd.R_base ho0) hb)
                have n1_:=Aside0.mk (Kd.S_elder' (by (with_reducible repeat (first|apply Kd.S_alloc|apply Kd.S_drewN|apply Kd.S_drew));exact HO_212000.out) (Kd.R_base ho0) hb)
                have n2_:=Aside0.mk (Kd.R_elder' (by (with_reducible repeat (first|apply rA_|apply rN_|apply rD_));exact HO_213001.out) (Kd.R_base ho0) hb)
                have n3_:=Aside0.mk (Kd.R_elder' (by (with_reducible repeat (first|apply rA_|apply rN_|apply rD_));exact HO228.out) (Kd.R_base ho0) hb)
                have n4_:=Aside0.mk (Kd.R_lower (Kd.R_new' (Kd.R_new' ho0 (Kd.R_lt (by (with_reducible repeat (first|apply rA_|apply rN_|apply rD_));exact HO_213001.out))) (Kd.R_lt (by (with_reducible repeat (first|apply rA_|apply rN_|apply rD_));exact HO228.out))) (below_size (by repeat (first|(with_reducible first|exact HB.out|apply bA_|apply bN_|apply bD_|refine below_set ?_ GE211.out|refine below_set ?_ GE212.out|refine below_set ?_ GE224.out)|exact HB.out))))
                have n5_:=Aside0.mk (blk_below (g:=gb211) (o:=.cells #[u212000,.bool false,.bool false] 33 (0,0)) (by (with_reducible repeat (first|refine blk_drewN ?_ _|refine blk_drew ?_|refine blk_alloc ?_ _));exact BK211.out) hb)
                have n6_:=Aside0.mk (blk_below (g:=gb212) (o:=.cells #[.bool x213000_2,.slice Ao25 x213001_2.length co25] 38 (0,0)) (by (with_reducible repeat (first|refine blk_drewN ?_ _|refine blk_drew ?_|refine blk_alloc ?_ _));exact BK212.out) hb)
                have n7_:=Aside0.mk (blk_below (g:=gb224) (o:=.cells #[.bool ((rd_T40 ((rd_T33 l0 x5_1).f0) x8_2).f0.f0),.slice A223_1 ((rd_T40 ((rd_T33 l0 x5_1).f0) x8_2).f0.f1).length c223_1,.int .i64 ((rd_T40 ((rd_T33 l0 x5_1).f0) x8_2).f1),.bool ((rd_T40 ((rd_T33 l0 x5_1).f0) x8_2).f2)] 40 (0,0)) (by (with_reducible repeat (first|refine blk_drewN ?_ _|refine blk_drew ?_|refine blk_alloc ?_ _));exact BK224.out) hb)
                have n8_:=Aside0.mk (below_step (by repeat (first|(with_reducible first|exact HB.out|apply bA_|apply bN_|apply bD_|refine below_set ?_ GE211.out|refine below_set ?_ GE212.out|refine below_set ?_ GE224.out)|exact HB.out)) hb)
                clear HO_4
                clear HO_212000
                clear HO_213001
                clear HO228
                clear BK211
                clear BK212
                clear BK224
                clear HB
                have HO_4:=n0_
                have HO_212000:=n1_
                have HO_213001:=n2_
                have HO228:=n3_
                have HO232:=n4_
                have BK211:=n5_
                have BK212:=n6_
                have BK224:=n7_
                have HB:=n8_
                clear n0_ n1_ n2_ n3_ n4_ n5_ n6_ n7_ n8_
                (try clear hb)
                (try clear hb2)
                (try clear hk)
                (try clear hi)
                (try clear ho0)
                refine hK.out _ _ ⟨(blk_cell BK224.out 0).trans rfl,(blk_cell BK224.out 1).trans rfl,(blk_cell BK224.out 2).trans rfl,(blk_cell BK224.out 3).trans rfl,(blk_cell BK212.out 0).trans rfl,(blk_cell BK212.out 1).trans rfl⟩ (fun hHeld=>?_)
                clear hK K
                refine norm_ (a':=?_) ?_ ?_
                rotate_left
                ·show Act.put _ (some 53) _=_
                 simp only [Act.put,List.setIfInBounds_toArray,List.set_cons_zero,List.set_cons_succ,i64_w,i32_w]
                 rfl
                refine one_ (i:=5) (N:=some 10) #[true,true,true,true,true,true,false] rfl rfl (by kernel_rfl) (by decide) (fun K hK=>?_)
                refine box_step ?hg (N:=10) ?hd (cs:=#[.bool false,.slice none 0 0]) (t:=38) ?hr ?_;(case hd=>rfl);(case hg=>rfl);(case hr=>first|(go_simp;done)|(go_simp;rfl))
                intro gb233 hg w31 hbox hb
                have n0_:=Aside0.mk (Kd.R_below (by (with_reducible repeat (first|apply rA_|apply rN_|apply rD_));exact HO_4.out) hb)
                have n1_:=Aside0.mk (Kd.S_below (by (with_reducible repeat (first|apply Kd.S_alloc|apply Kd.S_drewN|apply Kd.S_drew));exact HO_212000.out) hb)
                have n2_:=Aside0.mk (Kd.R_below (by (with_reducible repeat (first|apply rA_|apply rN_|apply rD_));exact HO_213001.out) hb)
                have n3_:=Aside0.mk (Kd.R_below (by (with_reducible repeat (first|apply rA_|apply rN_|apply rD_));exact HO228.out) hb)
                have n4_:=Aside0.mk (Kd.R_below (by (with_reducible repeat (first|apply rA_|apply rN_|apply rD_));exact HO232.out) hb)
                have n5_:=Aside0.mk (blk_below (g:=gb211) (o:=.cells #[u212000,.bool false,.bool false] 33 (0,0)) (by (with_reducible repeat (first|refine blk_drewN ?_ _|refine blk_drew ?_|refine blk_alloc ?_ _));exact BK211.out) hb)
                have n6_:=Aside0.mk (blk_below (g:=gb212) (o:=.cells #[.bool x213000_2,.slice Ao25 x213001_2.length co25] 38 (0,0)) (by (with_reducible repeat (first|refine blk_drewN ?_ _|refine blk_drew ?_|refine blk_alloc ?_ _));exact BK212.out) hb)
                have n7_:=Aside0.mk (blk_below (g:=gb224) (o:=.cells #[.bool ((rd_T40 ((rd_T33 l0 x5_1).f0) x8_2).f0.f0),.slice A223_1 ((rd_T40 ((rd_T33 l0 x5_1).f0) x8_2).f0.f1).length c223_1,.int .i64 ((rd_T40 ((rd_T33 l0 x5_1).f0) x8_2).f1),.bool ((rd_T40 ((rd_T33 l0 x5_1).f0) x8_2).f2)] 40 (0,0)) (by (with_reducible repeat (first|refine blk_drewN ?_ _|refine blk_drew ?_|refine blk_alloc ?_ _));exact BK224.out) hb)
                have n8_:=Aside0.mk (below_step (by repeat (first|(with_reducible first|exact HB.out|apply bA_|apply bN_|apply bD_|refine below_set ?_ GE211.out|refine below_set ?_ GE212.out|refine below_set ?_ GE224.out)|exact HB.out)) hb)
                have n9_:=Aside0.mk (hbox)
                have n10_:=Aside0.mk ((by rw [hg];exact (below_size (by repeat (first|(with_reducible first|exact HB.out|apply bA_|apply bN_|apply bD_|refine below_set ?_ GE211.out|refine below_set ?_ GE212.out|refine below_set ?_ GE224.out)|exact HB.out))):w.heap.size≤gb233))
                have n11_:=Aside0.mk ((by rw [hg];exact (below_size (by repeat (first|(with_reducible first|exact HB.out|apply bA_|apply bN_|apply bD_|refine below_set ?_ GE211.out|refine below_set ?_ GE212.out|refine below_set ?_ GE224.out)|exact HB.out))):w.heap.size≤gb233))
                have n12_:=Aside0.mk ((by rw [hg];exact Nat.ne_of_lt (blk_lt (g:=gb211) (o:=.cells #[u212000,.bool false,.bool false] 33 (0,0)) (by (with_reducible repeat (first|refine blk_drewN ?_ _|refine blk_drew ?_|refine blk_alloc ?_ _));exact BK211.out)):gb211≠gb233))
                have n13_:=Aside0.mk ((by rw [hg];exact Nat.ne_of_gt (blk_lt (g:=gb211) (o:=.cells #[u212000,.bool false,.bool false] 33 (0,0)) (by (with_reducible repeat (first|refine blk_drewN ?_ _|refine blk_drew ?_|refine blk_alloc ?_ _));exact BK211.out)):gb233≠gb211))
                have n14_:=Aside0.mk ((by rw [hg];exact Nat.ne_of_lt (blk_lt (g:=gb212) (o:=.cells #[.bool x213000_2,.slice Ao25 x213001_2.length co25] 38 (0,0)) (by (with_reducible repeat (first|refine blk_drewN ?_ _|refine blk_drew ?_|refine blk_alloc ?_ _));exact BK212.out)):gb212≠gb233))
                have n15_:=Aside0.mk ((by rw [hg];exact Nat.ne_of_gt (blk_lt (g:=gb212) (o:=.cells #[.bool x213000_2,.slice Ao25 x213001_2.length co25] 38 (0,0)) (by (with_reducible repeat (first|refine blk_drewN ?_ _|refine blk_drew ?_|refine blk_alloc ?_ _));exact BK212.out)):gb233≠gb212))
                have n16_:=Aside0.mk ((by rw [hg];exact Nat.ne_of_lt (blk_lt (g:=gb224) (o:=.cells #[.bool ((rd_T40 ((rd_T33 l0 x5_1).f0) x8_2).f0.f0),.slice A223_1 ((rd_T40 ((rd_T33 l0 x5_1).f0) x8_2).f0.f1).length c223_1,.int .i64 ((rd_T40 ((rd_T33 l0 x5_1).f0) x8_2).f1),.bool ((rd_T40 ((rd_T33 l0 x5_1).f0) x8_2).f2)] 40 (0,0)) (by (with_reducible repeat (first|refine blk_drewN ?_ _|refine blk_drew ?_|refine blk_alloc ?_ _));exact BK224.out)):gb224≠gb233))
                have n17_:=Aside0.mk ((by rw [hg];exact Nat.ne_of_gt (blk_lt (g:=gb224) (o:=.cells #[.bool ((rd_T40 ((rd_T33 l0 x5_1).f0) x8_2).f0.f0),.slice A223_1 ((rd_T40 ((rd_T33 l0 x5_1).f0) x8_2).f0.f1).length c223_1,.int .i64 ((rd_T40 ((rd_T33 l0 x5_1).f0) x8_2).f1),.bool ((rd_T40 ((rd_T33 l0 x5_1).f0) x8_2).f2)] 40 (0,0)) (by (with_reducible repeat (first|refine blk_drewN ?_ _|refine blk_drew ?_|refine blk_alloc ?_ _));exact BK224.out)):gb233≠gb224))
                clear HO_4
                clear HO_212000
                clear HO_213001
                clear HO228
                clear HO232
                clear BK211
                clear BK212
                clear BK224
                clear HB
                have HO_4:=n0_
                have HO_212000:=n1_
                have HO_213001:=n2_
                have HO228:=n3_
                have HO232:=n4_
                have BK211:=n5_
                have BK212:=n6_
                have BK224:=n7_
                have HB:=n8_
                have BK233:=n9_
                have GW233:=n10_
                have GE233:=n11_
                have NB211_233:=n12_
                have NB233_211:=n13_
                have NB212_233:=n14_
                have NB233_212:=n15_
                have NB224_233:=n16_
                have NB233_224:=n17_
                clear n0_ n1_ n2_ n3_ n4_ n5_ n6_ n7_ n8_ n9_ n10_ n11_ n12_ n13_ n14_ n15_ n16_ n17_
                clear hb hbox hg
                refine hK.out _ _ ⟨(blk_cell BK224.out 0).trans rfl,(blk_cell BK224.out 1).trans rfl,(blk_cell BK224.out 2).trans rfl,(blk_cell BK224.out 3).trans rfl,(blk_cell BK212.out 0).trans rfl,(blk_cell BK212.out 1).trans rfl⟩ (fun hHeld=>?_)
                clear hK K
                refine norm_ (a':=?_) ?_ ?_
                rotate_left
                ·show Act.put _ (some 10) _=_
                 simp only [Act.put,List.setIfInBounds_toArray,List.set_cons_zero,List.set_cons_succ,i64_w,i32_w]
                 rfl
                exact norm_ (by simp only [putAll,Act.put,List.setIfInBounds_toArray,List.set_cons_zero,List.set_cons_succ]) (hCont (.slice Ao29 t226.length co29,v231,gb233) _ ⟨hHeld,(by (with_reducible repeat (first|apply rA_|apply rN_|apply rD_));exact Kd.R_mono HO228.out (fun _ hk=>⟨hk.2,hk.1.2⟩)),(by (with_reducible repeat (first|apply rA_|apply rN_|apply rD_));exact Kd.R_mono HO232.out (fun _ hk=>⟨hk.2,hk.1.2⟩)),(by (with_reducible repeat (first|apply Kd.S_alloc|apply Kd.S_drewN|apply Kd.S_drew));exact Kd.S_mono HO_212000.out (fun _ hk=>⟨hk.1.2,⟨hk.2,⟨hk.1.1.1,hk.1.1.2⟩⟩⟩)),(by (with_reducible repeat (first|apply rA_|apply rN_|apply rD_));exact Kd.R_mono HO_213001.out (fun _ hk=>⟨hk.1.2,hk.2⟩)),(by (with_reducible repeat (first|apply rA_|apply rN_|apply rD_));exact Kd.R_mono HO_4.out (fun _ hk=>⟨hk.1.2,⟨hk.2,⟨hk.1.1.1,⟨hk.1.1.2.1,⟨hk.1.1.2.2.1,hk.1.1.2.2.2⟩⟩⟩⟩⟩)),(by (with_reducible repeat (first|refine blk_drewN ?_ _|refine blk_drew ?_|refine blk_alloc ?_ _));exact BK211.out),(by (with_reducible repeat (first|refine blk_drewN ?_ _|refine blk_drew ?_|refine blk_alloc ?_ _));exact BK212.out),(by (with_reducible repeat (first|refine blk_drewN ?_ _|refine blk_drew ?_|refine blk_alloc ?_ _));exact BK224.out),(by (with_reducible repeat (first|refine blk_drewN ?_ _|refine blk_drew ?_|refine blk_alloc ?_ _));exact BK233.out),GW233.out,GE233.out,NB211_233.out,NB233_211.out,NB212_233.out,NB233_212.out,NB224_233.out,NB233_224.out,(by repeat (first|(with_reducible first|exact HB.out|apply bA_|apply bN_|apply bD_|refine below_set ?_ GE211.out|refine below_set ?_ GE212.out|refine below_set ?_ GE224.out|refine below_set ?_ GE233.out)|exact HB.out))⟩)
               ·skip
                refine box_step ?hg (N:=10) ?hd (cs:=#[.bool false,.slice none 0 0]) (t:=38) ?hr ?_;(case hd=>rfl);(case hg=>rfl);(case hr=>first|(go_simp;done)|(go_simp;rfl))
                intro gb233 hg w29 hbox hb
                have n0_:=Aside0.mk (Kd.R_below (by (with_reducible repeat (first|apply rA_|apply rN_|apply rD_));exact HO_4.out) hb)
                have n1_:=Aside0.mk (Kd.S_below (by (with_reducible repeat (first|apply Kd.S_alloc|apply Kd.S_drewN|apply Kd.S_drew));exact HO_212000.out) hb)
                have n2_:=Aside0.mk (Kd.R_below (by (with_reducible repeat (first|apply rA_|apply rN_|apply rD_));exact HO_213001.out) hb)
                have n3_:=Aside0.mk (Kd.R_below (by (with_reducible repeat (first|apply rA_|apply rN_|apply rD_));exact HO228.out) hb)
                have n4_:=Aside0.mk (blk_below (g:=gb211) (o:=.cells #[u212000,.bool false,.bool false] 33 (0,0)) (by (with_reducible repeat (first|refine blk_drewN ?_ _|refine blk_drew ?_|refine blk_alloc ?_ _));exact BK211.out) hb)
                have n5_:=Aside0.mk (blk_below (g:=gb212) (o:=.cells #[.bool x213000_2,.slice Ao25 x213001_2.length co25] 38 (0,0)) (by (with_reducible repeat (first|refine blk_drewN ?_ _|refine blk_drew ?_|refine blk_alloc ?_ _));exact BK212.out) hb)
                have n6_:=Aside0.mk (blk_below (g:=gb224) (o:=.cells #[.bool ((rd_T40 ((rd_T33 l0 x5_1).f0) x8_2).f0.f0),.slice A223_1 ((rd_T40 ((rd_T33 l0 x5_1).f0) x8_2).f0.f1).length c223_1,.int .i64 ((rd_T40 ((rd_T33 l0 x5_1).f0) x8_2).f1),.bool ((rd_T40 ((rd_T33 l0 x5_1).f0) x8_2).f2)] 40 (0,0)) (by (with_reducible repeat (first|refine blk_drewN ?_ _|refine blk_drew ?_|refine blk_alloc ?_ _));exact BK224.out) hb)
                have n7_:=Aside0.mk (below_step (by repeat (first|(with_reducible first|exact HB.out|apply bA_|apply bN_|apply bD_|refine below_set ?_ GE211.out|refine below_set ?_ GE212.out|refine below_set ?_ GE224.out)|exact HB.out)) hb)
                have n8_:=Aside0.mk (hbox)
                have n9_:=Aside0.mk ((by rw [hg];exact (below_size (by repeat (first|(with_reducible first|exact HB.out|apply bA_|apply bN_|apply bD_|refine below_set ?_ GE211.out|refine below_set ?_ GE212.out|refine below_set ?_ GE224.out)|exact HB.out))):w.heap.size≤gb233))
                have n10_:=Aside0.mk ((by rw [hg];exact (below_size (by repeat (first|(with_reducible first|exact HB.out|apply bA_|apply bN_|apply bD_|refine below_set ?_ GE211.out|refine below_set ?_ GE212.out|refine below_set ?_ GE224.out)|exact HB.out))):w.heap.size≤gb233))
                have n11_:=Aside0.mk ((by rw [hg];exact Nat.ne_of_lt (blk_lt (g:=gb211) (o:=.cells #[u212000,.bool false,.bool false] 33 (0,0)) (by (with_reducible repeat (first|refine blk_drewN ?_ _|refine blk_drew ?_|refine blk_alloc ?_ _));exact BK211.out)):gb211≠gb233))
                have n12_:=Aside0.mk ((by rw [hg];exact Nat.ne_of_gt (blk_lt (g:=gb211) (o:=.cells #[u212000,.bool false,.bool false] 33 (0,0)) (by (with_reducible repeat (first|refine blk_drewN ?_ _|refine blk_drew ?_|refine blk_alloc ?_ _));exact BK211.out)):gb233≠gb211))
                have n13_:=Aside0.mk ((by rw [hg];exact Nat.ne_of_lt (blk_lt (g:=gb212) (o:=.cells #[.bool x213000_2,.slice Ao25 x213001_2.length co25] 38 (0,0)) (by (with_reducible repeat (first|refine blk_drewN ?_ _|refine blk_drew ?_|refine blk_alloc ?_ _));exact BK212.out)):gb212≠gb233))
                have n14_:=Aside0.mk ((by rw [hg];exact Nat.ne_of_gt (blk_lt (g:=gb212) (o:=.cells #[.bool x213000_2,.slice Ao25 x213001_2.length co25] 38 (0,0)) (by (with_reducible repeat (first|refine blk_drewN ?_ _|refine blk_drew ?_|refine blk_alloc ?_ _));exact BK212.out)):gb233≠gb212))
                have n15_:=Aside0.mk ((by rw [hg];exact Nat.ne_of_lt (blk_lt (g:=gb224) (o:=.cells #[.bool ((rd_T40 ((rd_T33 l0 x5_1).f0) x8_2).f0.f0),.slice A223_1 ((rd_T40 ((rd_T33 l0 x5_1).f0) x8_2).f0.f1).length c223_1,.int .i64 ((rd_T40 ((rd_T33 l0 x5_1).f0) x8_2).f1),.bool ((rd_T40 ((rd_T33 l0 x5_1).f0) x8_2).f2)] 40 (0,0)) (by (with_reducible repeat (first|refine blk_drewN ?_ _|refine blk_drew ?_|refine blk_alloc ?_ _));exact BK224.out)):gb224≠gb233))
                have n16_:=Aside0.mk ((by rw [hg];exact Nat.ne_of_gt (blk_lt (g:=gb224) (o:=.cells #[.bool ((rd_T40 ((rd_T33 l0 x5_1).f0) x8_2).f0.f0),.slice A223_1 ((rd_T40 ((rd_T33 l0 x5_1).f0) x8_2).f0.f1).length c223_1,.int .i64 ((rd_T40 ((rd_T33 l0 x5_1).f0) x8_2).f1),.bool ((rd_T40 ((rd_T33 l0 x5_1).f0) x8_2).f2)] 40 (0,0)) (by (with_reducible repeat (first|refine blk_drewN ?_ _|refine blk_drew ?_|refine blk_alloc ?_ _));exact BK224.out)):gb233≠gb224))
                clear HO_4
                clear HO_212000
                clear HO_213001
                clear HO228
                clear BK211
                clear BK212
                clear BK224
                clear HB
                have HO_4:=n0_
                have HO_212000:=n1_
                have HO_213001:=n2_
                have HO228:=n3_
                have BK211:=n4_
                have BK212:=n5_
                have BK224:=n6_
                have HB:=n7_
                have BK233:=n8_
                have GW233:=n9_
                have GE233:=n10_
                have NB211_233:=n11_
                have NB233_211:=n12_
                have NB212_233:=n13_
                have NB233_212:=n14_
                have NB224_233:=n15_
                have NB233_224:=n16_
                clear n0_ n1_ n2_ n3_ n4_ n5_ n6_ n7_ n8_ n9_ n10_ n11_ n12_ n13_ n14_ n15_ n16_
                clear hb hbox hg
                obtain ⟨Ao30,co30,eo30⟩:=Kd.R_slice HO228.out
                (first|subst eo30|(injection eo30 with f1_ f2_ f3_;have f4_:=f1_.symm;have f5_:=f3_.symm;clear f1_ f2_ f3_;subst f4_;subst f5_))
                refine hK.out _ _ ⟨(blk_cell BK224.out 0).trans rfl,(blk_cell BK224.out 1).trans rfl,(blk_cell BK224.out 2).trans rfl,(blk_cell BK224.out 3).trans rfl,(blk_cell BK212.out 0).trans rfl,(blk_cell BK212.out 1).trans rfl⟩ (fun hHeld=>?_)
                clear hK K
                refine norm_ (a':=?_) ?_ ?_
                rotate_left
                ·show Act.put _ (some 10) _=_
                 simp only [Act.put,List.setIfInBounds_toArray,List.set_cons_zero,List.set_cons_succ,i64_w,i32_w]
                 rfl
                refine one_ (i:=4) (N:=some 53) #[true,true,true,true,true,true,false] rfl rfl (by kernel_rfl) (by decide) (fun K hK=>?_)
                refine goes_ Try.func24 (by kernel_rfl) rfl #[.agg #[.bool t225,.slice Ao30 t226.length co30],.agg #[.bool x213000_2,.slice Ao25 x213001_2.length co25]] (by rfl) rfl rfl (by (try simp only [List.map_toArray,List.map_cons,List.map_nil]);first|done|rfl|(simp only [List.length_drop,List.length_take];rfl)) ?_
                with_reducible refine (cadenceref3_Both.calls kj8 t225 _ _ t226 x213000_2 _ _ x213001_2 t229 t230 _ ?side1 ?side2 ?side3 ?side4 A19.out).mono ?_
                (case side1=>repeat (first|exact (Kd.R_reads' HO228.out).2.2|(with_reducible refine cA_ ?_ _)|(with_reducible refine cN_ ?_ _)|(with_reducible refine cD_ ?_)))
                (case side2=>exact (Kd.R_reads' HO228.out).2.1)
                (case side3=>repeat (first|exact (Kd.R_reads' HO_213001.out).2.2|(with_reducible refine cA_ ?_ _)|(with_reducible refine cN_ ?_ _)|(with_reducible refine cD_ ?_)))
                (case side4=>exact (Kd.R_reads' HO_213001.out).2.1)
                rintro e w31 ⟨v231,rfl,ho0,hb⟩
                refine ⟨_,rfl,?_⟩
                have n0_:=Aside0.mk (Kd.R_elder' (by (with_reducible repeat (first|apply rA_|apply rN_|apply rD_));exact HO_4.out) (Kd.R_base ho0) hb)
                have n1_:=Aside0.mk (Kd.S_elder' (by (with_reducible repeat (first|apply Kd.S_alloc|apply Kd.S_drewN|apply Kd.S_drew));exact HO_212000.out) (Kd.R_base ho0) hb)
                have n2_:=Aside0.mk (Kd.R_elder' (by (with_reducible repeat (first|apply rA_|apply rN_|apply rD_));exact HO_213001.out) (Kd.R_base ho0) hb)
                have n3_:=Aside0.mk (Kd.R_elder' (by (with_reducible repeat (first|apply rA_|apply rN_|apply rD_));exact HO228.out) (Kd.R_base ho0) hb)
                have n4_:=Aside0.mk (Kd.R_lower (Kd.R_new' (Kd.R_new' ho0 (Kd.R_lt (by (with_reducible repeat (first|apply rA_|apply rN_|apply rD_));exact HO_213001.out))) (Kd.R_lt (by (with_reducible repeat (first|apply rA_|apply rN_|apply rD_));exact HO228.out))) (below_size (by repeat (first|(with_reducible first|exact HB.out|apply bA_|apply bN_|apply bD_|refine below_set ?_ GE211.out|refine below_set ?_ GE212.out|refine below_set ?_ GE224.out|refine below_set ?_ GE233.out)|exact HB.out))))
                have n5_:=Aside0.mk (blk_below (g:=gb211) (o:=.cells #[u212000,.bool false,.bool false] 33 (0,0)) (by (with_reducible repeat (first|refine blk_drewN ?_ _|refine blk_drew ?_|refine blk_alloc ?_ _));exact BK211.out) hb)
                have n6_:=Aside0.mk (blk_below (g:=gb212) (o:=.cells #[.bool x213000_2,.slice Ao25 x213001_2.length co25] 38 (0,0)) (by (with_reducible repeat (first|refine blk_drewN ?_ _|refine blk_drew ?_|refine blk_alloc ?_ _));exact BK212.out) hb)
                have n7_:=Aside0.mk (blk_below (g:=gb224) (o:=.cells #[.bool ((rd_T40 ((rd_T33 l0 x5_1).f0) x8_2).f0.f0),.slice A223_1 ((rd_T40 ((rd_T33 l0 x5_1).f0) x8_2).f0.f1).length c223_1,.int .i64 ((rd_T40 ((rd_T33 l0 x5_1).f0) x8_2).f1),.bool ((rd_T40 ((rd_T33 l0 x5_1).f0) x8_2).f2)] 40 (0,0)) (by (with_reducible repeat (first|refine blk_drewN ?_ _|refine blk_drew ?_|refine blk_alloc ?_ _));exact BK224.out) hb)
                have n8_:=Aside0.mk (blk_below (g:=gb233) (o:=.cells #[.bool false,.slice none 0 0] 38 (0,0)) (by (with_reducible repeat (first|refine blk_drewN ?_ _|refine blk_drew ?_|refine blk_alloc ?_ _));exact BK233.out) hb)
                have n9_:=Aside0.mk (below_step (by repeat (first|(with_reducible first|exact HB.out|apply bA_|apply bN_|apply bD_|refine below_set ?_ GE211.out|refine below_set ?_ GE212.out|refine below_set ?_ GE224.out|refine below_set ?_ GE233.out)|exact HB.out)) hb)
                clear HO_4
                clear HO_212000
                clear HO_213001
                clear HO228
                clear BK211
                clear BK212
                clear BK224
                clear BK233
                clear HB
                have HO_4:=n0_
                have HO_212000:=n1_
                have HO_213001:=n2_
                have HO228:=n3_
                have HO232:=n4_
                have BK211:=n5_
                have BK212:=n6_
                have BK224:=n7_
                have BK233:=n8_
                have HB:=n9_
                clear n0_ n1_ n2_ n3_ n4_ n5_ n6_ n7_ n8_ n9_
                (try clear hb)
                (try clear hb2)
                (try clear hk)
                (try clear hi)
                (try clear ho0)
                refine hK.out _ _ ⟨(blk_cell BK224.out 0).trans rfl,(blk_cell BK224.out 1).trans rfl,(blk_cell BK224.out 2).trans rfl,(blk_cell BK224.out 3).trans rfl,(blk_cell BK212.out 0).trans rfl,(blk_cell BK212.out 1).trans rfl⟩ (fun hHeld=>?_)
                clear hK K
                refine norm_ (a':=?_) ?_ ?_
                rotate_left
                ·show Act.put _ (some 53) _=_
                 simp only [Act.put,List.setIfInBounds_toArray,List.set_cons_zero,List.set_cons_succ,i64_w,i32_w]
                 rfl
                exact norm_ (by simp only [putAll,Act.put,List.setIfInBounds_toArray,List.set_cons_zero,List.set_cons_succ]) (hCont (.slice Ao30 t226.length co30,v231,gb233) _ ⟨hHeld,(by (with_reducible repeat (first|apply rA_|apply rN_|apply rD_));exact Kd.R_mono HO228.out (fun _ hk=>⟨hk.2,hk.1.2⟩)),(by (with_reducible repeat (first|apply rA_|apply rN_|apply rD_));exact Kd.R_mono HO232.out (fun _ hk=>⟨hk.2,hk.1.2⟩)),(by (with_reducible repeat (first|apply Kd.S_alloc|apply Kd.S_drewN|apply Kd.S_drew));exact Kd.S_mono HO_212000.out (fun _ hk=>⟨hk.1.2,⟨hk.2,⟨hk.1.1.1,hk.1.1.2⟩⟩⟩)),(by (with_reducible repeat (first|apply rA_|apply rN_|apply rD_));exact Kd.R_mono HO_213001.out (fun _ hk=>⟨hk.1.2,hk.2⟩)),(by (with_reducible repeat (first|apply rA_|apply rN_|apply rD_));exact Kd.R_mono HO_4.out (fun _ hk=>⟨hk.1.2,⟨hk.2,⟨hk.1.1.1,⟨hk.1.1.2.1,⟨hk.1.1.2.2.1,hk.1.1.2.2.2⟩⟩⟩⟩⟩)),(by (with_reducible repeat (first|refine blk_drewN ?_ _|refine blk_drew ?_|refine blk_alloc ?_ _));exact BK211.out),(by (with_reducible repeat (first|refine blk_drewN ?_ _|refine blk_drew ?_|refine blk_alloc ?_ _));exact BK212.out),(by (with_reducible repeat (first|refine blk_drewN ?_ _|refine blk_drew ?_|refine blk_alloc ?_ _));exact BK224.out),(by (with_reducible repeat (first|refine blk_drewN ?_ _|refine blk_drew ?_|refine blk_alloc ?_ _));exact BK233.out),GW233.out,GE233.out,NB211_233.out,NB233_211.out,NB212_233.out,NB233_212.out,NB224_233.out,NB233_224.out,(by repeat (first|(with_reducible first|exact HB.out|apply bA_|apply bN_|apply bD_|refine below_set ?_ GE211.out|refine below_set ?_ GE212.out|refine below_set ?_ GE224.out|refine below_set ?_ GE233.out)|exact HB.out))⟩)
              ·skip
               refine box_step ?hg (N:=10) ?hd (cs:=#[.bool false,.slice none 0 0]) (t:=38) ?hr ?_;(case hd=>rfl);(case hg=>rfl);(case hr=>first|(go_simp;done)|(go_simp;rfl))
               intro gb233 hg w28 hbox hb
               have n0_:=Aside0.mk (Kd.R_below (by (with_reducible repeat (first|apply rA_|apply rN_|apply rD_));exact HO_4.out) hb)
               have n1_:=Aside0.mk (Kd.S_below (by (with_reducible repeat (first|apply Kd.S_alloc|apply Kd.S_drewN|apply Kd.S_drew));exact HO_212000.out) hb)
               have n2_:=Aside0.mk (Kd.R_below (by (with_reducible repeat (first|apply rA_|apply rN_|apply rD_));exact HO_213001.out) hb)
               have n3_:=Aside0.mk (blk_below (g:=gb211) (o:=.cells #[u212000,.bool false,.bool false] 33 (0,0)) (by (with_reducible repeat (first|refine blk_drewN ?_ _|refine blk_drew ?_|refine blk_alloc ?_ _));exact BK211.out) hb)
               have n4_:=Aside0.mk (blk_below (g:=gb212) (o:=.cells #[.bool x213000_2,.slice Ao25 x213001_2.length co25] 38 (0,0)) (by (with_reducible repeat (first|refine blk_drewN ?_ _|refine blk_drew ?_|refine blk_alloc ?_ _));exact BK212.out) hb)
               have n5_:=Aside0.mk (blk_below (g:=gb224) (o:=.cells #[.bool ((rd_T40 ((rd_T33 l0 x5_1).f0) x8_2).f0.f0),.slice A223_1 ((rd_T40 ((rd_T33 l0 x5_1).f0) x8_2).f0.f1).length c223_1,.int .i64 ((rd_T40 ((rd_T33 l0 x5_1).f0) x8_2).f1),.bool ((rd_T40 ((rd_T33 l0 x5_1).f0) x8_2).f2)] 40 (0,0)) (by (with_reducible repeat (first|refine blk_drewN ?_ _|refine blk_drew ?_|refine blk_alloc ?_ _));exact BK224.out) hb)
               have n6_:=Aside0.mk (below_step (by repeat (first|(with_reducible first|exact HB.out|apply bA_|apply bN_|apply bD_|refine below_set ?_ GE211.out|refine below_set ?_ GE212.out|refine below_set ?_ GE224.out)|exact HB.out)) hb)
               have n7_:=Aside0.mk (hbox)
               have n8_:=Aside0.mk ((by rw [hg];exact (below_size (by repeat (first|(with_reducible first|exact HB.out|apply bA_|apply bN_|apply bD_|refine below_set ?_ GE211.out|refine below_set ?_ GE212.out|refine below_set ?_ GE224.out)|exact HB.out))):w.heap.size≤gb233))
               have n9_:=Aside0.mk ((by rw [hg];exact (below_size (by repeat (first|(with_reducible first|exact HB.out|apply bA_|apply bN_|apply bD_|refine below_set ?_ GE211.out|refine below_set ?_ GE212.out|refine below_set ?_ GE224.out)|exact HB.out))):w.heap.size≤gb233))
               have n10_:=Aside0.mk ((by rw [hg];exact Nat.ne_of_lt (blk_lt (g:=gb211) (o:=.cells #[u212000,.bool false,.bool false] 33 (0,0)) (by (with_reducible repeat (first|refine blk_drewN ?_ _|refine blk_drew ?_|refine blk_alloc ?_ _));exact BK211.out)):gb211≠gb233))
               have n11_:=Aside0.mk ((by rw [hg];exact Nat.ne_of_gt (blk_lt (g:=gb211) (o:=.cells #[u212000,.bool false,.bool false] 33 (0,0)) (by (with_reducible repeat (first|refine blk_drewN ?_ _|refine blk_drew ?_|refine blk_alloc ?_ _));exact BK211.out)):gb233≠gb211))
               have n12_:=Aside0.mk ((by rw [hg];exact Nat.ne_of_lt (blk_lt (g:=gb212) (o:=.cells #[.bool x213000_2,.slice Ao25 x213001_2.length co25] 38 (0,0)) (by (with_reducible repeat (first|refine blk_drewN ?_ _|refine blk_drew ?_|refine blk_alloc ?_ _));exact BK212.out)):gb212≠gb233))
               have n13_:=Aside0.mk ((by rw [hg];exact Nat.ne_of_gt (blk_lt (g:=gb212) (o:=.cells #[.bool x213000_2,.slice Ao25 x213001_2.length co25] 38 (0,0)) (by (with_reducible repeat (first|refine blk_drewN ?_ _|refine blk_drew ?_|refine blk_alloc ?_ _));exact BK212.out)):gb233≠gb212))
               have n14_:=Aside0.mk ((by rw [hg];exact Nat.ne_of_lt (blk_lt (g:=gb224) (o:=.cells #[.bool ((rd_T40 ((rd_T33 l0 x5_1).f0) x8_2).f0.f0),.slice A223_1 ((rd_T40 ((rd_T33 l0 x5_1).f0) x8_2).f0.f1).length c223_1,.int .i64 ((rd_T40 ((rd_T33 l0 x5_1).f0) x8_2).f1),.bool ((rd_T40 ((rd_T33 l0 x5_1).f0) x8_2).f2)] 40 (0,0)) (by (with_reducible repeat (first|refine blk_drewN ?_ _|refine blk_drew ?_|refine blk_alloc ?_ _));exact BK224.out)):gb224≠gb233))
               have n15_:=Aside0.mk ((by rw [hg];exact Nat.ne_of_gt (blk_lt (g:=gb224) (o:=.cells #[.bool ((rd_T40 ((rd_T33 l0 x5_1).f0) x8_2).f0.f0),.slice A223_1 ((rd_T40 ((rd_T33 l0 x5_1).f0) x8_2).f0.f1).length c223_1,.int .i64 ((rd_T40 ((rd_T33 l0 x5_1).f0) x8_2).f1),.bool ((rd_T40 ((rd_T33 l0 x5_1).f0) x8_2).f2)] 40 (0,0)) (by (with_reducible repeat (first|refine blk_drewN ?_ _|refine blk_drew ?_|refine blk_alloc ?_ _));exact BK224.out)):gb233≠gb224))
               clear HO_4
               clear HO_212000
               clear HO_213001
               clear BK211
               clear BK212
               clear BK224
               clear HB
               have HO_4:=n0_
               have HO_212000:=n1_
               have HO_213001:=n2_
               have BK211:=n3_
               have BK212:=n4_
               have BK224:=n5_
               have HB:=n6_
               have BK233:=n7_
               have GW233:=n8_
               have GE233:=n9_
               have NB211_233:=n10_
               have NB233_211:=n11_
               have NB212_233:=n12_
               have NB233_212:=n13_
               have NB224_233:=n14_
               have NB233_224:=n15_
               clear n0_ n1_ n2_ n3_ n4_ n5_ n6_ n7_ n8_ n9_ n10_ n11_ n12_ n13_ n14_ n15_
               clear hb hbox hg
               refine hK.out _ _ ⟨(blk_cell BK224.out 0).trans rfl,(blk_cell BK224.out 1).trans rfl,(blk_cell BK224.out 2).trans rfl,(blk_cell BK224.out 3).trans rfl,(blk_cell BK212.out 0).trans rfl,(blk_cell BK212.out 1).trans rfl⟩ (fun hHeld=>?_)
               clear hK K
               refine norm_ (a':=?_) ?_ ?_
               rotate_left
               ·show Act.put _ (some 10) _=_
                simp only [Act.put,List.setIfInBounds_toArray,List.set_cons_zero,List.set_cons_succ,i64_w,i32_w]
                rfl
               refine one_ (i:=2) (N:=some 51) #[true,true,true,true,false,true,false] rfl rfl (by kernel_rfl) (by decide) (fun K hK=>?_)
               refine goes_ Try.func25 (by kernel_rfl) rfl #[.agg #[.bool ((rd_T40 ((rd_T33 l0 x5_1).f0) x8_2).f0.f0),.slice A223_1 ((rd_T40 ((rd_T33 l0 x5_1).f0) x8_2).f0.f1).length c223_1]] (by rfl) rfl rfl (by (try simp only [List.map_toArray,List.map_cons,List.map_nil]);first|done|rfl|(simp only [List.length_drop,List.length_take];rfl)) ?_
               with_reducible refine (cadencelaw3_Make.calls kj8 ((rd_T40 ((rd_T33 l0 x5_1).f0) x8_2).f0.f0) _ _ ((rd_T40 ((rd_T33 l0 x5_1).f0) x8_2).f0.f1) t225 t226 _ ?side1 ?side2 A18.out).mono ?_
               (case side1=>repeat (first|exact (Kd.C_below HR223_1.out HB.out)|(with_reducible refine cA_ ?_ _)|(with_reducible refine cN_ ?_ _)|(with_reducible refine cD_ ?_)))
               (case side2=>exact HC223_1.out)
               rintro e w29 ⟨v227,rfl,ho0,hb⟩
               refine ⟨_,rfl,?_⟩
               have n0_:=Aside0.mk (Kd.R_elder' (by (with_reducible repeat (first|apply rA_|apply rN_|apply rD_));exact HO_4.out) (Kd.R_base ho0) hb)
               have n1_:=Aside0.mk (Kd.S_elder' (by (with_reducible repeat (first|apply Kd.S_alloc|apply Kd.S_drewN|apply Kd.S_drew));exact HO_212000.out) (Kd.R_base ho0) hb)
               have n2_:=Aside0.mk (Kd.R_elder' (by (with_reducible repeat (first|apply rA_|apply rN_|apply rD_));exact HO_213001.out) (Kd.R_base ho0) hb)
               have n3_:=Aside0.mk (Kd.R_lower (Kd.R_new' ho0 (Kd.R_lt (by (with_reducible repeat (first|apply rA_|apply rN_|apply rD_));exact HO_213001.out))) (below_size (by repeat (first|(with_reducible first|exact HB.out|apply bA_|apply bN_|apply bD_|refine below_set ?_ GE211.out|refine below_set ?_ GE212.out|refine below_set ?_ GE224.out|refine below_set ?_ GE233.out)|exact HB.out))))
               have n4_:=Aside0.mk (blk_below (g:=gb211) (o:=.cells #[u212000,.bool false,.bool false] 33 (0,0)) (by (with_reducible repeat (first|refine blk_drewN ?_ _|refine blk_drew ?_|refine blk_alloc ?_ _));exact BK211.out) hb)
               have n5_:=Aside0.mk (blk_below (g:=gb212) (o:=.cells #[.bool x213000_2,.slice Ao25 x213001_2.length co25] 38 (0,0)) (by (with_reducible repeat (first|refine blk_drewN ?_ _|refine blk_drew ?_|refine blk_alloc ?_ _));exact BK212.out) hb)
               have n6_:=Aside0.mk (blk_below (g:=gb224) (o:=.cells #[.bool ((rd_T40 ((rd_T33 l0 x5_1).f0) x8_2).f0.f0),.slice A223_1 ((rd_T40 ((rd_T33 l0 x5_1).f0) x8_2).f0.f1).length c223_1,.int .i64 ((rd_T40 ((rd_T33 l0 x5_1).f0) x8_2).f1),.bool ((rd_T40 ((rd_T33 l0 x5_1).f0) x8_2).f2)] 40 (0,0)) (by (with_reducible repeat (first|refine blk_drewN ?_ _|refine blk_drew ?_|refine blk_alloc ?_ _));exact BK224.out) hb)
               have n7_:=Aside0.mk (blk_below (g:=gb233) (o:=.cells #[.bool false,.slice none 0 0] 38 (0,0)) (by (with_reducible repeat (first|refine blk_drewN ?_ _|refine blk_drew ?_|refine blk_alloc ?_ _));exact BK233.out) hb)
               have n8_:=Aside0.mk (below_step (by repeat (first|(with_reducible first|exact HB.out|apply bA_|apply bN_|apply bD_|refine below_set ?_ GE211.out|refine below_set ?_ GE212.out|refine below_set ?_ GE224.out|refine below_set ?_ GE233.out)|exact HB.out)) hb)
               clear HO_4
               clear HO_212000
               clear HO_213001
               clear BK211
               clear BK212
               clear BK224
               clear BK233
               clear HB
               have HO_4:=n0_
               have HO_212000:=n1_
               have HO_213001:=n2_
               have HO228:=n3_
               have BK211:=n4_
               have BK212:=n5_
               have BK224:=n6_
               have BK233:=n7_
               have HB:=n8_
               clear n0_ n1_ n2_ n3_ n4_ n5_ n6_ n7_ n8_
               (try clear hb)
               (try clear hb2)
               (try clear hk)
               (try clear hi)
               (try clear ho0)
               obtain ⟨Ao30,co30,eo30⟩:=Kd.R_slice HO228.out
               (first|subst eo30|(injection eo30 with f1_ f2_ f3_;have f4_:=f1_.symm;have f5_:=f3_.symm;clear f1_ f2_ f3_;subst f4_;subst f5_))
               refine hK.out _ _ ⟨(blk_cell BK224.out 0).trans rfl,(blk_cell BK224.out 1).trans rfl,(blk_cell BK224.out 2).trans rfl,(blk_cell BK224.out 3).trans rfl,(blk_cell BK212.out 0).trans rfl,(blk_cell BK212.out 1).trans rfl⟩ (fun hHeld=>?_)
               clear hK K
               refine norm_ (a':=?_) ?_ ?_
               rotate_left
               ·show Act.put _ (some 51) _=_
                simp only [Act.put,List.setIfInBounds_toArray,List.set_cons_zero,List.set_cons_succ,i64_w,i32_w]
                rfl
               refine one_ (i:=4) (N:=some 53) #[true,true,true,true,true,true,false] rfl rfl (by kernel_rfl) (by decide) (fun K hK=>?_)
               refine goes_ Try.func24 (by kernel_rfl) rfl #[.agg #[.bool t225,.slice Ao30 t226.length co30],.agg #[.bool x213000_2,.slice Ao25 x213001_2.length co25]] (by rfl) rfl rfl (by (try simp only [List.map_toArray,List.map_cons,List.map_nil]);first|done|rfl|(simp only [List.length_drop,List.length_take];rfl)) ?_
               with_reducible refine (cadenceref3_Both.calls kj8 t225 _ _ t226 x213000_2 _ _ x213001_2 t229 t230 _ ?side1 ?side2 ?side3 ?side4 A19.out).mono ?_
               (case side1=>repeat (first|exact (Kd.R_reads' HO228.out).2.2|(with_reducible refine cA_ ?_ _)|(with_reducible refine cN_ ?_ _)|(with_reducible refine cD_ ?_)))
               (case side2=>exact (Kd.R_reads' HO228.out).2.1)
               (case side3=>repeat (first|exact (Kd.R_reads' HO_213001.out).2.2|(with_reducible refine cA_ ?_ _)|(with_reducible refine cN_ ?_ _)|(with_reducible refine cD_ ?_)))
               (case side4=>exact (Kd.R_reads' HO_213001.out).2.1)
               rintro e w31 ⟨v231,rfl,ho0,hb⟩
               refine ⟨_,rfl,?_⟩
               have n0_:=Aside0.mk (Kd.R_elder' (by (with_reducible repeat (first|apply rA_|apply rN_|apply rD_));exact HO_4.out) (Kd.R_base ho0) hb)
               have n1_:=Aside0.mk (Kd.S_elder' (by (with_reducible repeat (first|apply Kd.S_alloc|apply Kd.S_drewN|apply Kd.S_drew));exact HO_212000.out) (Kd.R_base ho0) hb)
               have n2_:=Aside0.mk (Kd.R_elder' (by (with_reducible repeat (first|apply rA_|apply rN_|apply rD_));exact HO_213001.out) (Kd.R_base ho0) hb)
               have n3_:=Aside0.mk (Kd.R_elder' (by (with_reducible repeat (first|apply rA_|apply rN_|apply rD_));exact HO228.out) (Kd.R_base ho0) hb)
               have n4_:=Aside0.mk (Kd.R_lower (Kd.R_new' (Kd.R_new' ho0 (Kd.R_lt (by (with_reducible repeat (first|apply rA_|apply rN_|apply rD_));exact HO_213001.out))) (Kd.R_lt (by (with_reducible repeat (first|apply rA_|apply rN_|apply rD_));exact HO228.out))) (below_size (by repeat (first|(with_reducible first|exact HB.out|apply bA_|apply bN_|apply bD_|refine below_set ?_ GE211.out|refine below_set ?_ GE212.out|refine below_set ?_ GE224.out|refine below_set ?_ GE233.out)|exact HB.out))))
               have n5_:=Aside0.mk (blk_below (g:=gb211) (o:=.cells #[u212000,.bool false,.bool false] 33 (0,0)) (by (with_reducible repeat (first|refine blk_drewN ?_ _|refine blk_drew ?_|refine blk_alloc ?_ _));exact BK211.out) hb)
               have n6_:=Aside0.mk (blk_below (g:=gb212) (o:=.cells #[.bool x213000_2,.slice Ao25 x213001_2.length co25] 38 (0,0)) (by (with_reducible repeat (first|refine blk_drewN ?_ _|refine blk_drew ?_|refine blk_alloc ?_ _));exact BK212.out) hb)
               have n7_:=Aside0.mk (blk_below (g:=gb224) (o:=.cells #[.bool ((rd_T40 ((rd_T33 l0 x5_1).f0) x8_2).f0.f0),.slice A223_1 ((rd_T40 ((rd_T33 l0 x5_1).f0) x8_2).f0.f1).length c223_1,.int .i64 ((rd_T40 ((rd_T33 l0 x5_1).f0) x8_2).f1),.bool ((rd_T40 ((rd_T33 l0 x5_1).f0) x8_2).f2)] 40 (0,0)) (by (with_reducible repeat (first|refine blk_drewN ?_ _|refine blk_drew ?_|refine blk_alloc ?_ _));exact BK224.out) hb)
               have n8_:=Aside0.mk (blk_below (g:=gb233) (o:=.cells #[.bool false,.slice none 0 0] 38 (0,0)) (by (with_reducible repeat (first|refine blk_drewN ?_ _|refine blk_drew ?_|refine blk_alloc ?_ _));exact BK233.out) hb)
               have n9_:=Aside0.mk (below_step (by repeat (first|(with_reducible first|exact HB.out|apply bA_|apply bN_|apply bD_|refine below_set ?_ GE211.out|refine below_set ?_ GE212.out|refine below_set ?_ GE224.out|refine below_set ?_ GE233.out)|exact HB.out)) hb)
               clear HO_4
               clear HO_212000
               clear HO_213001
               clear HO228
               clear BK211
               clear BK212
               clear BK224
               clear BK233
               clear HB
               have HO_4:=n0_
               have HO_212000:=n1_
               have HO_213001:=n2_
               have HO228:=n3_
               have HO232:=n4_
               have BK211:=n5_
               have BK212:=n6_
               have BK224:=n7_
               have BK233:=n8_
               have HB:=n9_
               clear n0_ n1_ n2_ n3_ n4_ n5_ n6_ n7_ n8_ n9_
               (try clear hb)
               (try clear hb2)
               (try clear hk)
               (try clear hi)
               (try clear ho0)
               refine hK.out _ _ ⟨(blk_cell BK224.out 0).trans rfl,(blk_cell BK224.out 1).trans rfl,(blk_cell BK224.out 2).trans rfl,(blk_cell BK224.out 3).trans rfl,(blk_cell BK212.out 0).trans rfl,(blk_cell BK212.out 1).trans rfl⟩ (fun hHeld=>?_)
               clear hK K
               refine norm_ (a':=?_) ?_ ?_
               rotate_left
               ·show Act.put _ (some 53) _=_
                simp only [Act.put,List.setIfInBounds_toArray,List.set_cons_zero,List.set_cons_succ,i64_w,i32_w]
                rfl
               exact norm_ (by simp only [putAll,Act.put,List.setIfInBounds_toArray,List.set_cons_zero,List.set_cons_succ]) (hCont (.slice Ao30 t226.length co30,v231,gb233) _ ⟨hHeld,(by (with_reducible repeat (first|apply rA_|apply rN_|apply rD_));exact Kd.R_mono HO228.out (fun _ hk=>⟨hk.2,hk.1.2⟩)),(by (with_reducible repeat (first|apply rA_|apply rN_|apply rD_));exact Kd.R_mono HO232.out (fun _ hk=>⟨hk.2,hk.1.2⟩)),(by (with_reducible repeat (first|apply Kd.S_alloc|apply Kd.S_drewN|apply Kd.S_drew));exact Kd.S_mono HO_212000.out (fun _ hk=>⟨hk.1.2,⟨hk.2,⟨hk.1.1.1,hk.1.1.2⟩⟩⟩)),(by (with_reducible repeat (first|apply rA_|apply rN_|apply rD_));exact Kd.R_mono HO_213001.out (fun _ hk=>⟨hk.1.2,hk.2⟩)),(by (with_reducible repeat (first|apply rA_|apply rN_|apply rD_));exact Kd.R_mono HO_4.out (fun _ hk=>⟨hk.1.2,⟨hk.2,⟨hk.1.1.1,⟨hk.1.1.2.1,⟨hk.1.1.2.2.1,hk.1.1.2.2.2⟩⟩⟩⟩⟩)),(by (with_reducible repeat (first|refine blk_drewN ?_ _|refine blk_drew ?_|refine blk_alloc ?_ _));exact BK211.out),(by (with_reducible repeat (first|refine blk_drewN ?_ _|refine blk_drew ?_|refine blk_alloc ?_ _));exact BK212.out),(by (with_reducible repeat (first|refine blk_drewN ?_ _|refine blk_drew ?_|refine blk_alloc ?_ _));exact BK224.out),(by (with_reducible repeat (first|refine blk_drewN ?_ _|refine blk_drew ?_|refine blk_alloc ?_ _));exact BK233.out),GW233.out,GE233.out,NB211_233.out,NB233_211.out,NB212_233.out,NB233_212.out,NB224_233.out,NB233_224.out,(by repeat (first|(with_reducible first|exact HB.out|apply bA_|apply bN_|apply bD_|refine below_set ?_ GE211.out|refine below_set ?_ GE212.out|refine below_set ?_ GE224.out|refine below_set ?_ GE233.out)|exact HB.out))⟩)
             rintro ⟨v227,v231,gb233⟩ w32 ⟨hS_,h0_,h1_,h2_,h3_,h4_,h5_,h6_,h7_,h8_,h9_,h10_,h11_,h12_,h13_,h14_,h15_,h16_,h17_⟩
             have n0_:Aside0 (Kd.R Kd.string 9 w32 w.heap.size (fun k_=>some k_≠(v231:Value).ownBlock∧some k_≠(.slice Ao25 x213001_2.length co25:Value).ownBlock) v227 t226):=⟨h0_⟩
             have n1_:Aside0 (Kd.R Kd.string 9 w32 w.heap.size (fun k_=>some k_≠(v227:Value).ownBlock∧some k_≠(.slice Ao25 x213001_2.length co25:Value).ownBlock) v231 t230):=⟨h1_⟩
             have n2_:Aside0 (Kd.S k40 40 w32 w.heap.size (fun k_=>some k_≠(v227:Value).ownBlock∧some k_≠(v231:Value).ownBlock∧some k_≠(.slice Ao25 x213001_2.length co25:Value).ownBlock∧k_≠gb224) u212000 x212000_2):=⟨h2_⟩
             have n3_:Aside0 (Kd.R Kd.string 9 w32 w.heap.size (fun k_=>some k_≠(v227:Value).ownBlock∧some k_≠(v231:Value).ownBlock) (.slice Ao25 x213001_2.length co25) x213001_2):=⟨h3_⟩
             have n4_:Aside0 (Kd.R k33 33 w32 w.heap.size (fun k_=>some k_≠(v227:Value).ownBlock∧some k_≠(v231:Value).ownBlock∧some k_≠(u212000:Value).ownBlock∧some k_≠(.slice Ao25 x213001_2.length co25:Value).ownBlock∧k_≠gb211∧k_≠gb224) u4 x4_1):=⟨h4_⟩
             have n5_:Aside0 (w32.heap[gb211]? = some (.cells #[u212000,.bool false,.bool false] 33 (0,0))):=⟨h5_⟩
             have n6_:Aside0 (w32.heap[gb212]? = some (.cells #[.bool x213000_2,.slice Ao25 x213001_2.length co25] 38 (0,0))):=⟨h6_⟩
             have n7_:Aside0 (w32.heap[gb224]? = some (.cells #[.bool ((rd_T40 ((rd_T33 l0 x5_1).f0) x8_2).f0.f0),.slice A223_1 ((rd_T40 ((rd_T33 l0 x5_1).f0) x8_2).f0.f1).length c223_1,.int .i64 ((rd_T40 ((rd_T33 l0 x5_1).f0) x8_2).f1),.bool ((rd_T40 ((rd_T33 l0 x5_1).f0) x8_2).f2)] 40 (0,0))):=⟨h7_⟩
             have n8_:Aside0 (w32.heap[gb233]? = some (.cells #[.bool false,.slice none 0 0] 38 (0,0))):=⟨h8_⟩
             have n9_:Aside0 (w.heap.size≤gb233):=⟨h9_⟩
             have n10_:Aside0 (w.heap.size≤gb233):=⟨h10_⟩
             have n11_:Aside0 (gb211≠gb233):=⟨h11_⟩
             have n12_:Aside0 (gb233≠gb211):=⟨h12_⟩
             have n13_:Aside0 (gb212≠gb233):=⟨h13_⟩
             have n14_:Aside0 (gb233≠gb212):=⟨h14_⟩
             have n15_:Aside0 (gb224≠gb233):=⟨h15_⟩
             have n16_:Aside0 (gb233≠gb224):=⟨h16_⟩
             have n17_:Aside0 (Below w.heap.size w w32):=⟨h17_⟩
             clear HO_4
             clear HO_212000
             clear HO_213001
             clear BK211
             clear BK212
             clear BK224
             clear HB
             clear h0_ h1_ h2_ h3_ h4_ h5_ h6_ h7_ h8_ h9_ h10_ h11_ h12_ h13_ h14_ h15_ h16_ h17_
             have HO228:=n0_
             have HO232:=n1_
             have HO_212000:=n2_
             have HO_213001:=n3_
             have HO_4:=n4_
             have BK211:=n5_
             have BK212:=n6_
             have BK224:=n7_
             have BK233:=n8_
             have GW233:=n9_
             have GE233:=n10_
             have NB211_233:=n11_
             have NB233_211:=n12_
             have NB212_233:=n13_
             have NB233_212:=n14_
             have NB224_233:=n15_
             have NB233_224:=n16_
             have HB:=n17_
             clear n0_ n1_ n2_ n3_ n4_ n5_ n6_ n7_ n8_ n9_ n10_ n11_ n12_ n13_ n14_ n15_ n16_ n17_
             have hHeld:w32.cell? ⟨gb224,0,none⟩=some (.bool ((rd_T40 ((rd_T33 l0 x5_1).f0) x8_2).f0.f0))∧w32.cell? ⟨gb224,1,none⟩=some (.slice A223_1 ((rd_T40 ((rd_T33 l0 x5_1).f0) x8_2).f0.f1).length c223_1)∧w32.cell? ⟨gb224,2,none⟩=some (.int .i64 ((rd_T40 ((rd_T33 l0 x5_1).f0) x8_2).f1))∧w32.cell? ⟨gb224,3,none⟩=some (.bool ((rd_T40 ((rd_T33 l0 x5_1).f0) x8_2).f2))∧w32.cell? ⟨gb212,0,none⟩=some (.bool x213000_2)∧w32.cell? ⟨gb212,1,none⟩=some (.slice Ao25 x213001_2.length co25):=hS_
             obtain ⟨Ao34,co34,eo34⟩:=Kd.R_slice HO232.out
             (first|subst eo34|(injection eo34 with f1_ f2_ f3_;have f4_:=f1_.symm;have f5_:=f3_.symm;clear f1_ f2_ f3_;subst f4_;subst f5_))
             refine norm_ (a':=?_) ?_ ?_
             rotate_left
             ·simp only [putAll,Act.put,List.setIfInBounds_toArray,List.set_cons_zero,List.set_cons_succ]
              rfl
             refine one_ (i:=6) (N:=none) #[true,true,true,true,true,true,true] rfl rfl (by kernel_rfl) (by decide) (fun K hK=>?_)
             have hs33:w32.cell? ⟨gb233,0,none⟩=some (.bool false):=(blk_cell BK233.out 0).trans rfl
             have hfs33:=blk_frozen BK233.out 0
             have hns33_0:=NB211_233.out
             have hns33_1:=NB212_233.out
             have hns33_2:=NB224_233.out
             have hms33_0:=NB233_211.out
             have hms33_1:=NB233_212.out
             have hms33_2:=NB233_224.out
             have hs35:w32.cell? ⟨gb233,1,none⟩=some (.slice none 0 0):=(blk_cell BK233.out 1).trans rfl
             have hfs35:=blk_frozen BK233.out 1
             have hns35_0:=NB211_233.out
             have hns35_1:=NB212_233.out
             have hns35_2:=NB224_233.out
             have hms35_0:=NB233_211.out
             have hms35_1:=NB233_212.out
             have hms35_2:=NB233_224.out
             refine skip_ (w1:=?_) (by rfl) rfl ?_ ?_
             rotate_left
             ·go_simp
              rfl
             refine hK.out _ _ ⟨((cell_far (p:=⟨gb233,_,none⟩) NB224_233.out _).trans (((cell_far (p:=⟨gb233,_,none⟩) NB224_233.out _).trans (hHeld.1)))),((cell_far (p:=⟨gb233,_,none⟩) NB224_233.out _).trans (((cell_far (p:=⟨gb233,_,none⟩) NB224_233.out _).trans (hHeld.2.1)))),((cell_far (p:=⟨gb233,_,none⟩) NB224_233.out _).trans (((cell_far (p:=⟨gb233,_,none⟩) NB224_233.out _).trans (hHeld.2.2.1)))),((cell_far (p:=⟨gb233,_,none⟩) NB224_233.out _).trans (((cell_far (p:=⟨gb233,_,none⟩) NB224_233.out _).trans (hHeld.2.2.2.1)))),((cell_far (p:=⟨gb233,_,none⟩) NB212_233.out _).trans (((cell_far (p:=⟨gb233,_,none⟩) NB212_233.out _).trans (hHeld.2.2.2.2.1)))),((cell_far (p:=⟨gb233,_,none⟩) NB212_233.out _).trans (((cell_far (p:=⟨gb233,_,none⟩) NB212_233.out _).trans (hHeld.2.2.2.2.2))))⟩ (fun hHeld=>?_)
             clear hK K
             refine done_ (by kernel_rfl) ?_
             go_upto_region 14 with (fail)
             go_cut [] (fun wc=>∃ (kq:Nat) (x213000_19:Bool) (x213001_19:List ByteArray) (u213001:Value),Aside0 (cadencelaw4_Make.j3 kq l0 ji3 x4_1 x5_1 x8_2 x212000_2 false false x213000_19 x213001_19 ((rd_T40 ((rd_T33 l0 x5_1).f0) x8_2).f0.f0) ((rd_T40 ((rd_T33 l0 x5_1).f0) x8_2).f0.f1) ((rd_T40 ((rd_T33 l0 x5_1).f0) x8_2).f1) ((rd_T40 ((rd_T33 l0 x5_1).f0) x8_2).f2) t229 t230=some r)∧Aside0 (kq≤kj8)∧Aside0 (Kd.R k33 33 wc w.heap.size (fun k_=>some k_≠(u212000:Value).ownBlock∧some k_≠(u213001:Value).ownBlock∧some k_≠((.slice Ao34 t230.length co34):Value).ownBlock∧k_≠gb211∧k_≠gb224) u4 x4_1)∧Aside0 (Kd.S k40 40 wc w.heap.size (fun k_=>some k_≠(u213001:Value).ownBlock∧some k_≠((.slice Ao34 t230.length co34):Value).ownBlock∧k_≠gb224) u212000 x212000_2)∧Aside0 (Kd.R Kd.string 9 wc w.heap.size (fun k_=>some k_≠((.slice Ao34 t230.length co34):Value).ownBlock) u213001 x213001_19)∧Aside0 (Kd.R Kd.string 9 wc w.heap.size (fun k_=>some k_≠(u213001:Value).ownBlock) (.slice Ao34 t230.length co34) t230)∧Aside0 (wc.heap[gb211]? = some (.cells #[u212000,.bool false,.bool false] 33 (0,0)))∧Aside0 (wc.heap[gb212]? = some (.cells #[.bool x213000_19,u213001] 38 (0,0)))∧Aside0 (wc.heap[gb224]? = some (.cells #[.bool ((rd_T40 ((rd_T33 l0 x5_1).f0) x8_2).f0.f0),(.slice A223_1 ((rd_T40 ((rd_T33 l0 x5_1).f0) x8_2).f0.f1).length c223_1),.int .i64 ((rd_T40 ((rd_T33 l0 x5_1).f0) x8_2).f1),.bool ((rd_T40 ((rd_T33 l0 x5_1).f0) x8_2).f2)] 40 (0,0)))∧Aside0 (wc.heap[gb233]? = some (.cells #[.bool t229,(.slice Ao34 t230.length co34)] 38 (0,0)))∧Aside0 (Below w.heap.size w wc))
             case first =>
              have H:=HC20.out
              clear HC20
              replace H:=Option.bind_eq_some_iff.mp H
              obtain ⟨⟨t234,t235⟩,A360,H⟩:=H
              replace H:((cadenceref3_Both.f kj8 x213000_2 x213001_2 t234 t235).bind fun bt238=>(cadencelaw4_Make.j3 kj8 l0 ji3 x4_1 x5_1 x8_2 x212000_2 false false bt238.1 bt238.2 ((rd_T40 ((rd_T33 l0 x5_1).f0) x8_2).f0.f0) ((rd_T40 ((rd_T33 l0 x5_1).f0) x8_2).f0.f1) ((rd_T40 ((rd_T33 l0 x5_1).f0) x8_2).f1) ((rd_T40 ((rd_T33 l0 x5_1).f0) x8_2).f2) t229 t230))=some r:=H
              have A36:=Aside0.mk A360
              clear A360
              replace H:=Option.bind_eq_some_iff.mp H
              obtain ⟨⟨t238,t239⟩,A370,H⟩:=H
              replace H:(cadencelaw4_Make.j3 kj8 l0 ji3 x4_1 x5_1 x8_2 x212000_2 false false t238 t239 ((rd_T40 ((rd_T33 l0 x5_1).f0) x8_2).f0.f0) ((rd_T40 ((rd_T33 l0 x5_1).f0) x8_2).f0.f1) ((rd_T40 ((rd_T33 l0 x5_1).f0) x8_2).f1) ((rd_T40 ((rd_T33 l0 x5_1).f0) x8_2).f2) t229 t230)=some r:=H
              have A37:=Aside0.mk A370
              clear A370
              have H':=Aside0.mk H
              clear H
              try go_wp2
              have n0_:Aside0 (Kd.R k33 33 ((w32.setCell ⟨gb233,0,none⟩ (.bool t229)).setCell ⟨gb233,1,none⟩ (.slice Ao34 t230.length co34)) w.heap.size (fun k_=>some k_≠(u212000:Value).ownBlock∧some k_≠(.slice Ao25 x213001_2.length co25:Value).ownBlock∧some k_≠(v227:Value).ownBlock∧some k_≠(.slice Ao34 t230.length co34:Value).ownBlock∧k_≠gb211∧k_≠gb224) u4 x4_1):=⟨by (with_reducible repeat (first|apply rA_|apply rN_|apply rD_));exact Kd.R_mono (Kd.R_far (p:=⟨gb233,1,none⟩) (Kd.R_far (p:=⟨gb233,0,none⟩) (Kd.R_types HO_4.out BK233.out (by decide)) (fun _ hk=>hk.2) (.bool t229)) (fun _ hk=>hk.2) (.slice Ao34 t230.length co34)) (fun _ hk=>⟨hk.1.2.2.1,⟨hk.1.2.2.2.1,⟨hk.1.1,⟨hk.1.2.1,⟨hk.1.2.2.2.2.1,hk.1.2.2.2.2.2⟩⟩⟩⟩⟩)⟩
              have n1_:Aside0 (Kd.S k40 40 ((w32.setCell ⟨gb233,0,none⟩ (.bool t229)).setCell ⟨gb233,1,none⟩ (.slice Ao34 t230.length co34)) w.heap.size (fun k_=>some k_≠(.slice Ao25 x213001_2.length co25:Value).ownBlock∧some k_≠(v227:Value).ownBlock∧some k_≠(.slice Ao34 t230.length co34:Value).ownBlock∧k_≠gb224) u212000 x212000_2):=⟨by (with_reducible repeat (first|apply Kd.S_alloc|apply Kd.S_drewN|apply Kd.S_drew));exact Kd.S_mono (Kd.S_far (p:=⟨gb233,1,none⟩) (Kd.S_far (p:=⟨gb233,0,none⟩) (Kd.S_types HO_212000.out BK233.out (by decide)) (fun _ hk=>hk.2) (.bool t229)) (fun _ hk=>hk.2) (.slice Ao34 t230.length co34)) (fun _ hk=>⟨hk.1.2.2.1,⟨hk.1.1,⟨hk.1.2.1,hk.1.2.2.2⟩⟩⟩)⟩
              have n2_:Aside0 (Kd.R Kd.string 9 ((w32.setCell ⟨gb233,0,none⟩ (.bool t229)).setCell ⟨gb233,1,none⟩ (.slice Ao34 t230.length co34)) w.heap.size (fun k_=>some k_≠(v227:Value).ownBlock∧some k_≠(.slice Ao34 t230.length co34:Value).ownBlock) (.slice Ao25 x213001_2.length co25) x213001_2):=⟨by (with_reducible repeat (first|apply rA_|apply rN_|apply rD_));exact Kd.R_mono (Kd.R_far (p:=⟨gb233,1,none⟩) (Kd.R_far (p:=⟨gb233,0,none⟩) (Kd.R_types HO_213001.out BK233.out (by decide)) (fun _ hk=>hk.2) (.bool t229)) (fun _ hk=>hk.2) (.slice Ao34 t230.length co34)) (fun _ hk=>⟨hk.1.1,hk.1.2⟩)⟩
              have n3_:Aside0 (Kd.R Kd.string 9 ((w32.setCell ⟨gb233,0,none⟩ (.bool t229)).setCell ⟨gb233,1,none⟩ (.slice Ao34 t230.length co34)) w.heap.size (fun k_=>some k_≠(.slice Ao25 x213001_2.length co25:Value).ownBlock∧some k_≠(.slice Ao34 t230.length co34:Value).ownBlock) v227 t226):=⟨by (with_reducible repeat (first|apply rA_|apply rN_|apply rD_));exact Kd.R_mono (Kd.R_far (p:=⟨gb233,1,none⟩) (Kd.R_far (p:=⟨gb233,0,none⟩) (Kd.R_types HO228.out BK233.out (by decide)) (fun _ hk=>hk.2) (.bool t229)) (fun _ hk=>hk.2) (.slice Ao34 t230.length co34)) (fun _ hk=>⟨hk.1.2,hk.1.1⟩)⟩
              have n4_:Aside0 (Kd.R Kd.string 9 ((w32.setCell ⟨gb233,0,none⟩ (.bool t229)).setCell ⟨gb233,1,none⟩ (.slice Ao34 t230.length co34)) w.heap.size (fun k_=>some k_≠(.slice Ao25 x213001_2.length co25:Value).ownBlock∧some k_≠(v227:Value).ownBlock) (.slice Ao34 t230.length co34) t230):=⟨by (with_reducible repeat (first|apply rA_|apply rN_|apply rD_));exact Kd.R_mono (Kd.R_far (p:=⟨gb233,1,none⟩) (Kd.R_far (p:=⟨gb233,0,none⟩) (Kd.R_types HO232.out BK233.out (by decide)) (fun _ hk=>hk.2) (.bool t229)) (fun _ hk=>hk.2) (.slice Ao34 t230.length co34)) (fun _ hk=>⟨hk.1.2,hk.1.1⟩)⟩
              have n5_:Aside0 (((w32.setCell ⟨gb233,0,none⟩ (.bool t229)).setCell ⟨gb233,1,none⟩ (.slice Ao34 t230.length co34)).heap[gb211]? = some (.cells #[u212000,.bool false,.bool false] 33 (0,0))):=⟨by (with_reducible repeat (first|refine blk_drewN ?_ _|refine blk_drew ?_|refine blk_alloc ?_ _));refine blk_far ?_ NB211_233.out _;(with_reducible repeat (first|refine blk_drewN ?_ _|refine blk_drew ?_|refine blk_alloc ?_ _));refine blk_far ?_ NB211_233.out _;(with_reducible repeat (first|refine blk_drewN ?_ _|refine blk_drew ?_|refine blk_alloc ?_ _));exact BK211.out⟩
              have n6_:Aside0 (((w32.setCell ⟨gb233,0,none⟩ (.bool t229)).setCell ⟨gb233,1,none⟩ (.slice Ao34 t230.length co34)).heap[gb212]? = some (.cells #[.bool x213000_2,.slice Ao25 x213001_2.length co25] 38 (0,0))):=⟨by (with_reducible repeat (first|refine blk_drewN ?_ _|refine blk_drew ?_|refine blk_alloc ?_ _));refine blk_far ?_ NB212_233.out _;(with_reducible repeat (first|refine blk_drewN ?_ _|refine blk_drew ?_|refine blk_alloc ?_ _));refine blk_far ?_ NB212_233.out _;(with_reducible repeat (first|refine blk_drewN ?_ _|refine blk_drew ?_|refine blk_alloc ?_ _));exact BK212.out⟩
              have n7_:Aside0 (((w32.setCell ⟨gb233,0,none⟩ (.bool t229)).setCell ⟨gb233,1,none⟩ (.slice Ao34 t230.length co34)).heap[gb224]? = some (.cells #[.bool ((rd_T40 ((rd_T33 l0 x5_1).f0) x8_2).f0.f0),.slice A223_1 ((rd_T40 ((rd_T33 l0 x5_1).f0) x8_2).f0.f1).length c223_1,.int .i64 ((rd_T40 ((rd_T33 l0 x5_1).f0) x8_2).f1),.bool ((rd_T40 ((rd_T33 l0 x5_1).f0) x8_2).f2)] 40 (0,0))):=⟨by (with_reducible repeat (first|refine blk_drewN ?_ _|refine blk_drew ?_|refine blk_alloc ?_ _));refine blk_far ?_ NB224_233.out _;(with_reducible repeat (first|refine blk_drewN ?_ _|refine blk_drew ?_|refine blk_alloc ?_ _));refine blk_far ?_ NB224_233.out _;(with_reducible repeat (first|refine blk_drewN ?_ _|refine blk_drew ?_|refine blk_alloc ?_ _));exact BK224.out⟩
              have n8_:Aside0 (((w32.setCell ⟨gb233,0,none⟩ (.bool t229)).setCell ⟨gb233,1,none⟩ (.slice Ao34 t230.length co34)).heap[gb233]? = some (.cells #[.bool t229,.slice Ao34 t230.length co34] 38 (0,0))):=⟨by (with_reducible repeat (first|refine blk_drewN ?_ _|refine blk_drew ?_|refine blk_alloc ?_ _));refine blk_put (cs:=#[.bool t229,.slice none 0 0]) ?_ 1 _ rfl;(with_reducible repeat (first|refine blk_drewN ?_ _|refine blk_drew ?_|refine blk_alloc ?_ _));refine blk_put (cs:=#[.bool false,.slice none 0 0]) ?_ 0 _ rfl;(with_reducible repeat (first|refine blk_drewN ?_ _|refine blk_drew ?_|refine blk_alloc ?_ _));exact BK233.out⟩
              have n9_:Aside0 (Below w.heap.size w ((w32.setCell ⟨gb233,0,none⟩ (.bool t229)).setCell ⟨gb233,1,none⟩ (.slice Ao34 t230.length co34))):=⟨by repeat (first|(with_reducible first|exact HB.out|apply bA_|apply bN_|apply bD_|refine below_set ?_ GE211.out|refine below_set ?_ GE212.out|refine below_set ?_ GE224.out|refine below_set ?_ GE233.out)|exact HB.out)⟩
              (try clear HO_4)
              (try clear HO_212000)
              (try clear HO_213001)
              (try clear HO228)
              (try clear HO232)
              (try clear BK211)
              (try clear BK212)
              (try clear BK224)
              (try clear BK233)
              (try clear HB)
              generalize ((w32.setCell ⟨gb233,0,none⟩ (.bool t229)).setCell ⟨gb233,1,none⟩ (.slice Ao34 t230.length co34))=w38 at n0_ n1_ n2_ n3_ n4_ n5_ n6_ n7_ n8_ n9_ ⊢
              have HO_4:=n0_
              have HO_212000:=n1_
              have HO_213001:=n2_
              have HO228:=n3_
              have HO232:=n4_
              have BK211:=n5_
              have BK212:=n6_
              have BK224:=n7_
              have BK233:=n8_
              have HB:=n9_
              clear n0_ n1_ n2_ n3_ n4_ n5_ n6_ n7_ n8_ n9_
              have n0_:=Aside0.mk (rD_ HO_4.out)
              have n1_:=Aside0.mk (Kd.S_drew HO_212000.out)
              have n2_:=Aside0.mk (rD_ HO_213001.out)
              have n3_:=Aside0.mk (rD_ HO228.out)
              have n4_:=Aside0.mk (rD_ HO232.out)
              have n5_:=Aside0.mk (blk_drew BK211.out)
              have n6_:=Aside0.mk (blk_drew BK212.out)
              have n7_:=Aside0.mk (blk_drew BK224.out)
              have n8_:=Aside0.mk (blk_drew BK233.out)
              have n9_:=Aside0.mk (bD_ HB.out)
              clear HO_4
              clear HO_212000
              clear HO_213001
              clear HO228
              clear HO232
              clear BK211
              clear BK212
              clear BK224
              clear BK233
              clear HB
              have HO_4:=n0_
              have HO_212000:=n1_
              have HO_213001:=n2_
              have HO228:=n3_
              have HO232:=n4_
              have BK211:=n5_
              have BK212:=n6_
              have BK224:=n7_
              have BK233:=n8_
              have HB:=n9_
              clear n0_ n1_ n2_ n3_ n4_ n5_ n6_ n7_ n8_ n9_
              refine start_ (n:=5) (S:=fun w'=>w'.cell? ⟨gb212,0,none⟩=some (.bool x213000_2)∧w'.cell? ⟨gb212,1,none⟩=some (.slice Ao25 x213001_2.length co25)∧w'.cell? ⟨gb233,0,none⟩=some (.bool t229)∧w'.cell? ⟨gb233,1,none⟩=some (.slice Ao34 t230.length co34)) (ds:=[4]) #[false,false,false,false,false] (by kernel_rfl) rfl rfl ⟨(blk_cell BK212.out 0).trans rfl,(blk_cell BK212.out 1).trans rfl,(blk_cell BK233.out 0).trans rfl,(blk_cell BK233.out 1).trans rfl⟩ (fun hHeld=>?_)
              generalize w38.drew=w39 at HO_4 HO_212000 HO_213001 HO228 HO232 BK211 BK212 BK224 BK233 HB hHeld ⊢
              refine take_ (i:=0) (N:=some 54) (v:=?_) (a':=?_) #[true,false,false,false,false] rfl rfl (by kernel_rfl) (fun _ _ _ h=>h) (Or.inl ⟨by rfl,?_⟩) hHeld ?_ ?_
              rotate_left
              ·rintro w' ⟨s0,s1,s2,s3⟩
               go_simp
               with_reducible rfl
              rotate_left
              ·simp only [Act.put,List.setIfInBounds_toArray,List.set_cons_zero,List.set_cons_succ,i64_w,i32_w]
               rfl
              refine take_ (i:=1) (N:=some 55) (v:=?_) (a':=?_) #[true,true,false,false,false] rfl rfl (by kernel_rfl) (fun _ _ _ h=>h) (Or.inl ⟨by rfl,?_⟩) hHeld ?_ ?_
              rotate_left
              ·rintro w' ⟨s0,s1,s2,s3⟩
               go_simp
               with_reducible rfl
              rotate_left
              ·simp only [Act.put,List.setIfInBounds_toArray,List.set_cons_zero,List.set_cons_succ,i64_w,i32_w]
               rfl
              refine one_ (i:=2) (N:=some 56) #[true,true,true,false,false] rfl rfl (by kernel_rfl) (by decide) (fun K hK=>?_)
              refine goes_ Try.func26 (by kernel_rfl) rfl #[.agg #[.bool t229,.slice Ao34 t230.length co34]] (by rfl) rfl rfl (by (try simp only [List.map_toArray,List.map_cons,List.map_nil]);first|done|rfl|(simp only [List.length_drop,List.length_take];rfl)) ?_
              with_reducible refine (cadenceref3_Not.calls kj8 t229 _ _ t230 t234 t235 _ ?side1 ?side2 A36.out).mono ?_
              (case side1=>repeat (first|exact (Kd.R_reads' HO232.out).2.2|(with_reducible refine cA_ ?_ _)|(with_reducible refine cN_ ?_ _)|(with_reducible refine cD_ ?_)))
              (case side2=>exact (Kd.R_reads' HO232.out).2.1)
              rintro e w40 ⟨v236,rfl,ho0,hb⟩
              refine ⟨_,rfl,?_⟩
              have n0_:=Aside0.mk (Kd.R_elder' (by (with_reducible repeat (first|apply rA_|apply rN_|apply rD_));exact HO_4.out) (Kd.R_base ho0) hb)
              have n1_:=Aside0.mk (Kd.S_elder' (by (with_reducible repeat (first|apply Kd.S_alloc|apply Kd.S_drewN|apply Kd.S_drew));exact HO_212000.out) (Kd.R_base ho0) hb)
              have n2_:=Aside0.mk (Kd.R_elder' (by (with_reducible repeat (first|apply rA_|apply rN_|apply rD_));exact HO_213001.out) (Kd.R_base ho0) hb)
              have n3_:=Aside0.mk (Kd.R_elder' (by (with_reducible repeat (first|apply rA_|apply rN_|apply rD_));exact HO228.out) (Kd.R_base ho0) hb)
              have n4_:=Aside0.mk (Kd.R_elder' (by (with_reducible repeat (first|apply rA_|apply rN_|apply rD_));exact HO232.out) (Kd.R_base ho0) hb)
              have n5_:=Aside0.mk (Kd.R_lower (Kd.R_new' (Kd.R_new' (Kd.R_new' ho0 (Kd.R_lt (by (with_reducible repeat (first|apply rA_|apply rN_|apply rD_));exact HO_213001.out))) (Kd.R_lt (by (with_reducible repeat (first|apply rA_|apply rN_|apply rD_));exact HO228.out))) (Kd.R_lt (by (with_reducible repeat (first|apply rA_|apply rN_|apply rD_));exact HO232.out))) (below_size (by repeat (first|(with_reducible first|exact HB.out|apply bA_|apply bN_|apply bD_|refine below_set ?_ GE211.out|refine below_set ?_ GE212.out|refine below_set ?_ GE224.out|refine below_set ?_ GE233.out)|exact HB.out))))
              have n6_:=Aside0.mk (blk_below (g:=gb211) (o:=.cells #[u212000,.bool false,.bool false] 33 (0,0)) (by (with_reducible repeat (first|refine blk_drewN ?_ _|refine blk_drew ?_|refine blk_alloc ?_ _));exact BK211.out) hb)
              have n7_:=Aside0.mk (blk_below (g:=gb212) (o:=.cells #[.bool x213000_2,.slice Ao25 x213001_2.length co25] 38 (0,0)) (by (with_reducible repeat (first|refine blk_drewN ?_ _|refine blk_drew ?_|refine blk_alloc ?_ _));exact BK212.out) hb)
              have n8_:=Aside0.mk (blk_below (g:=gb224) (o:=.cells #[.bool ((rd_T40 ((rd_T33 l0 x5_1).f0) x8_2).f0.f0),.slice A223_1 ((rd_T40 ((rd_T33 l0 x5_1).f0) x8_2).f0.f1).length c223_1,.int .i64 ((rd_T40 ((rd_T33 l0 x5_1).f0) x8_2).f1),.bool ((rd_T40 ((rd_T33 l0 x5_1).f0) x8_2).f2)] 40 (0,0)) (by (with_reducible repeat (first|refine blk_drewN ?_ _|refine blk_drew ?_|refine blk_alloc ?_ _));exact BK224.out) hb)
              have n9_:=Aside0.mk (blk_below (g:=gb233) (o:=.cells #[.bool t229,.slice Ao34 t230.length co34] 38 (0,0)) (by (with_reducible repeat (first|refine blk_drewN ?_ _|refine blk_drew ?_|refine blk_alloc ?_ _));exact BK233.out) hb)
              have n10_:=Aside0.mk (below_step (by repeat (first|(with_reducible first|exact HB.out|apply bA_|apply bN_|apply bD_|refine below_set ?_ GE211.out|refine below_set ?_ GE212.out|refine below_set ?_ GE224.out|refine below_set ?_ GE233.out)|exact HB.out)) hb)
              clear HO_4
              clear HO_212000
              clear HO_213001
              clear HO228
              clear HO232
              clear BK211
              clear BK212
              clear BK224
              clear BK233
              clear HB
              have HO_4:=n0_
              have HO_212000:=n1_
              have HO_213001:=n2_
              have HO228:=n3_
              have HO232:=n4_
              have HO237:=n5_
              have BK211:=n6_
              have BK212:=n7_
              have BK224:=n8_
              have BK233:=n9_
              have HB:=n10_
              clear n0_ n1_ n2_ n3_ n4_ n5_ n6_ n7_ n8_ n9_ n10_
              (try clear hb)
              (try clear hb2)
              (try clear hk)
              (try clear hi)
              (try clear ho0)
              obtain ⟨Ao41,co41,eo41⟩:=Kd.R_slice HO237.out
              (first|subst eo41|(injection eo41 with f1_ f2_ f3_;have f4_:=f1_.symm;have f5_:=f3_.symm;clear f1_ f2_ f3_;subst f4_;subst f5_))
              refine hK.out _ _ ⟨(blk_cell BK212.out 0).trans rfl,(blk_cell BK212.out 1).trans rfl,(blk_cell BK233.out 0).trans rfl,(blk_cell BK233.out 1).trans rfl⟩ (fun hHeld=>?_)
              clear hK K
              refine norm_ (a':=?_) ?_ ?_
              rotate_left
              ·show Act.put _ (some 56) _=_
               simp only [Act.put,List.setIfInBounds_toArray,List.set_cons_zero,List.set_cons_succ,i64_w,i32_w]
               rfl
              refine one_ (i:=3) (N:=some 57) #[true,true,true,true,false] rfl rfl (by kernel_rfl) (by decide) (fun K hK=>?_)
              refine goes_ Try.func24 (by kernel_rfl) rfl #[.agg #[.bool x213000_2,.slice Ao25 x213001_2.length co25],.agg #[.bool t234,.slice Ao41 t235.length co41]] (by rfl) rfl rfl (by (try simp only [List.map_toArray,List.map_cons,List.map_nil]);first|done|rfl|(simp only [List.length_drop,List.length_take];rfl)) ?_
              with_reducible refine (cadenceref3_Both.calls kj8 x213000_2 _ _ x213001_2 t234 _ _ t235 t238 t239 _ ?side1 ?side2 ?side3 ?side4 A37.out).mono ?_
              (case side1=>repeat (first|exact (Kd.R_reads' HO_213001.out).2.2|(with_reducible refine cA_ ?_ _)|(with_reducible refine cN_ ?_ _)|(with_reducible refine cD_ ?_)))
              (case side2=>exact (Kd.R_reads' HO_213001.out).2.1)
              (case side3=>repeat (first|exact (Kd.R_reads' HO237.out).2.2|(with_reducible refine cA_ ?_ _)|(with_reducible refine cN_ ?_ _)|(with_reducible refine cD_ ?_)))
              (case side4=>exact (Kd.R_reads' HO237.out).2.1)
              rintro e w42 ⟨v240,rfl,ho0,hb⟩
              refine ⟨_,rfl,?_⟩
              have n0_:=Aside0.mk (Kd.R_elder' (by (with_reducible repeat (first|apply rA_|apply rN_|apply rD_));exact HO_4.out) (Kd.R_base ho0) hb)
              have n1_:=Aside0.mk (Kd.S_elder' (by (with_reducible repeat (first|apply Kd.S_alloc|apply Kd.S_drewN|apply Kd.S_drew));exact HO_212000.out) (Kd.R_base ho0) hb)
              have n2_:=Aside0.mk (Kd.R_elder' (by (with_reducible repeat (first|apply rA_|apply rN_|apply rD_));exact HO_213001.out) (Kd.R_base ho0) hb)
              have n3_:=Aside0.mk (Kd.R_elder' (by (with_reducible repeat (first|apply rA_|apply rN_|apply rD_));exact HO228.out) (Kd.R_base ho0) hb)
              have n4_:=Aside0.mk (Kd.R_elder' (by (with_reducible repeat (first|apply rA_|apply rN_|apply rD_));exact HO232.out) (Kd.R_base ho0) hb)
              have n5_:=Aside0.mk (Kd.R_elder' (by (with_reducible repeat (first|apply rA_|apply rN_|apply rD_));exact HO237.out) (Kd.R_base ho0) hb)
              have n6_:=Aside0.mk (Kd.R_lower (Kd.R_new' (Kd.R_new' (Kd.R_new' (Kd.R_new' ho0 (Kd.R_lt (by (with_reducible repeat (first|apply rA_|apply rN_|apply rD_));exact HO_213001.out))) (Kd.R_lt (by (with_reducible repeat (first|apply rA_|apply rN_|apply rD_));exact HO228.out))) (Kd.R_lt (by (with_reducible repeat (first|apply rA_|apply rN_|apply rD_));exact HO232.out))) (Kd.R_lt (by (with_reducible repeat (first|apply rA_|apply rN_|apply rD_));exact HO237.out))) (below_size (by repeat (first|(with_reducible first|exact HB.out|apply bA_|apply bN_|apply bD_|refine below_set ?_ GE211.out|refine below_set ?_ GE212.out|refine below_set ?_ GE224.out|refine below_set ?_ GE233.out)|exact HB.out))))
              have n7_:=Aside0.mk (blk_below (g:=gb211) (o:=.cells #[u212000,.bool false,.bool false] 33 (0,0)) (by (with_reducible repeat (first|refine blk_drewN ?_ _|refine blk_drew ?_|refine blk_alloc ?_ _));exact BK211.out) hb)
              have n8_:=Aside0.mk (blk_below (g:=gb212) (o:=.cells #[.bool x213000_2,.slice Ao25 x213001_2.length co25] 38 (0,0)) (by (with_reducible repeat (first|refine blk_drewN ?_ _|refine blk_drew ?_|refine blk_alloc ?_ _));exact BK212.out) hb)
              have n9_:=Aside0.mk (blk_below (g:=gb224) (o:=.cells #[.bool ((rd_T40 ((rd_T33 l0 x5_1).f0) x8_2).f0.f0),.slice A223_1 ((rd_T40 ((rd_T33 l0 x5_1).f0) x8_2).f0.f1).length c223_1,.int .i64 ((rd_T40 ((rd_T33 l0 x5_1).f0) x8_2).f1),.bool ((rd_T40 ((rd_T33 l0 x5_1).f0) x8_2).f2)] 40 (0,0)) (by (with_reducible repeat (first|refine blk_drewN ?_ _|refine blk_drew ?_|refine blk_alloc ?_ _));exact BK224.out) hb)
              have n10_:=Aside0.mk (blk_below (g:=gb233) (o:=.cells #[.bool t229,.slice Ao34 t230.length co34] 38 (0,0)) (by (with_reducible repeat (first|refine blk_drewN ?_ _|refine blk_drew ?_|refine blk_alloc ?_ _));exact BK233.out) hb)
              have n11_:=Aside0.mk (below_step (by repeat (first|(with_reducible first|exact HB.out|apply bA_|apply bN_|apply bD_|refine below_set ?_ GE211.out|refine below_set ?_ GE212.out|refine below_set ?_ GE224.out|refine below_set ?_ GE233.out)|exact HB.out)) hb)
              clear HO_4
              clear HO_212000
              clear HO_213001
              clear HO228
              clear HO232
              clear HO237
              clear BK211
              clear BK212
              clear BK224
              clear BK233
              clear HB
              have HO_4:=n0_
              have HO_212000:=n1_
              have HO_213001:=n2_
              have HO228:=n3_
              have HO232:=n4_
              have HO237:=n5_
              have HO241:=n6_
              have BK211:=n7_
              have BK212:=n8_
              have BK224:=n9_
              have BK233:=n10_
              have HB:=n11_
              clear n0_ n1_ n2_ n3_ n4_ n5_ n6_ n7_ n8_ n9_ n10_ n11_
              (try clear hb)
              (try clear hb2)
              (try clear hk)
              (try clear hi)
              (try clear ho0)
              obtain ⟨Ao44,co44,eo44⟩:=Kd.R_slice HO241.out
              (first|subst eo44|(injection eo44 with f1_ f2_ f3_;have f4_:=f1_.symm;have f5_:=f3_.symm;clear f1_ f2_ f3_;subst f4_;subst f5_))
              refine hK.out _ _ ⟨(blk_cell BK212.out 0).trans rfl,(blk_cell BK212.out 1).trans rfl,(blk_cell BK233.out 0).trans rfl,(blk_cell BK233.out 1).trans rfl⟩ (fun hHeld=>?_)
              clear hK K
              refine norm_ (a':=?_) ?_ ?_
              rotate_left
              ·show Act.put _ (some 57) _=_
               simp only [Act.put,List.setIfInBounds_toArray,List.set_cons_zero,List.set_cons_succ,i64_w,i32_w]
               rfl
              refine last_ (i:=4) (N:=none) #[true,true,true,true,true] rfl rfl (by kernel_rfl) (by decide) (fun K hK=>?_)
              have hs43:w42.cell? ⟨gb212,0,none⟩=some (.bool x213000_2):=(blk_cell BK212.out 0).trans rfl
              have hfs43:=blk_frozen BK212.out 0
              have hns43_0:=NB211_212.out
              have hns43_2:=NB224_212.out
              have hns43_3:=NB233_212.out
              have hms43_0:=NB212_211.out
              have hms43_2:=NB212_224.out
              have hms43_3:=NB212_233.out
              have hs45:w42.cell? ⟨gb212,1,none⟩=some (.slice Ao25 x213001_2.length co25):=(blk_cell BK212.out 1).trans rfl
              have hfs45:=blk_frozen BK212.out 1
              have hns45_0:=NB211_212.out
              have hns45_2:=NB224_212.out
              have hns45_3:=NB233_212.out
              have hms45_0:=NB212_211.out
              have hms45_2:=NB212_224.out
              have hms45_3:=NB212_233.out
              refine skip_ (w1:=?_) (by rfl) rfl ?_ ?_
              rotate_left
              ·go_simp
               rfl
              refine hK.out _ _ ?_
              clear hK K
              refine done_ (by kernel_rfl) ?_
              try go_wp2
              go_meet
              case rel=>exact ⟨_,(t238),(t239),(.slice Ao44 t239.length co44),H',⟨by have:=HK1.out;have:=HK2.out;have:=HJ8.out;first|omega|exact Nat.le_refl _⟩,⟨by (with_reducible repeat (first|apply rA_|apply rN_|apply rD_));exact Kd.R_mono (Kd.R_far (p:=⟨gb212,1,none⟩) (Kd.R_far (p:=⟨gb212,0,none⟩) (Kd.R_types HO_4.out BK212.out (by decide)) (fun _ hk=>hk.2) (.bool t238)) (fun _ hk=>hk.2) (.slice Ao44 t239.length co44)) (fun _ hk=>⟨hk.1.1.1.1,⟨hk.1.2,⟨hk.1.1.1.2.2.2.1,⟨hk.1.1.1.2.2.2.2.1,hk.1.1.1.2.2.2.2.2⟩⟩⟩⟩)⟩,⟨by (with_reducible repeat (first|apply Kd.S_alloc|apply Kd.S_drewN|apply Kd.S_drew));exact Kd.S_mono (Kd.S_far (p:=⟨gb212,1,none⟩) (Kd.S_far (p:=⟨gb212,0,none⟩) (Kd.S_types HO_212000.out BK212.out (by decide)) (fun _ hk=>hk.2) (.bool t238)) (fun _ hk=>hk.2) (.slice Ao44 t239.length co44)) (fun _ hk=>⟨hk.1.2,⟨hk.1.1.1.2.2.1,hk.1.1.1.2.2.2⟩⟩)⟩,⟨by (with_reducible repeat (first|apply rA_|apply rN_|apply rD_));exact Kd.R_mono (Kd.R_far (p:=⟨gb212,1,none⟩) (Kd.R_far (p:=⟨gb212,0,none⟩) (Kd.R_types HO241.out BK212.out (by decide)) (fun _ hk=>hk.2) (.bool t238)) (fun _ hk=>hk.2) (.slice Ao44 t239.length co44)) (fun _ hk=>hk.1.1.2)⟩,⟨by (with_reducible repeat (first|apply rA_|apply rN_|apply rD_));exact Kd.R_mono (Kd.R_far (p:=⟨gb212,1,none⟩) (Kd.R_far (p:=⟨gb212,0,none⟩) (Kd.R_types HO232.out BK212.out (by decide)) (fun _ hk=>hk.2) (.bool t238)) (fun _ hk=>hk.2) (.slice Ao44 t239.length co44)) (fun _ hk=>hk.1.2)⟩,⟨by (with_reducible repeat (first|refine blk_drewN ?_ _|refine blk_drew ?_|refine blk_alloc ?_ _));refine blk_far ?_ NB211_212.out _;(with_reducible repeat (first|refine blk_drewN ?_ _|refine blk_drew ?_|refine blk_alloc ?_ _));refine blk_far ?_ NB211_212.out _;(with_reducible repeat (first|refine blk_drewN ?_ _|refine blk_drew ?_|refine blk_alloc ?_ _));exact BK211.out⟩,⟨by (with_reducible repeat (first|refine blk_drewN ?_ _|refine blk_drew ?_|refine blk_alloc ?_ _));refine blk_put (cs:=#[.bool t238,.slice Ao25 x213001_2.length co25]) ?_ 1 _ rfl;(with_reducible repeat (first|refine blk_drewN ?_ _|refine blk_drew ?_|refine blk_alloc ?_ _));refine blk_put (cs:=#[.bool x213000_2,.slice Ao25 x213001_2.length co25]) ?_ 0 _ rfl;(with_reducible repeat (first|refine blk_drewN ?_ _|refine blk_drew ?_|refine blk_alloc ?_ _));exact BK212.out⟩,⟨by (with_reducible repeat (first|refine blk_drewN ?_ _|refine blk_drew ?_|refine blk_alloc ?_ _));refine blk_far ?_ NB224_212.out _;(with_reducible repeat (first|refine blk_drewN ?_ _|refine blk_drew ?_|refine blk_alloc ?_ _));refine blk_far ?_ NB224_212.out _;(with_reducible repeat (first|refine blk_drewN ?_ _|refine blk_drew ?_|refine blk_alloc ?_ _));exact BK224.out⟩,⟨by (with_reducible repeat (first|refine blk_drewN ?_ _|refine blk_drew ?_|refine blk_alloc ?_ _));refine blk_far ?_ NB233_212.out _;(with_reducible repeat (first|refine blk_drewN ?_ _|refine blk_drew ?_|refine blk_alloc ?_ _));refine blk_far ?_ NB233_212.out _;(with_reducible repeat (first|refine blk_drewN ?_ _|refine blk_drew ?_|refine blk_alloc ?_ _));exact BK233.out⟩,⟨by repeat (first|(with_reducible first|exact HB.out|apply bA_|apply bN_|apply bD_|refine below_set ?_ GE211.out|refine below_set ?_ GE212.out|refine below_set ?_ GE224.out|refine below_set ?_ GE233.out)|exact HB.out)⟩⟩
             case rest =>
              clear HC20
              try clear c2
              try clear p2
              try clear c22
              try clear c24
              try clear c25
              try clear c26
              obtain ⟨kq,x213000_19,x213001_19,u213001,HA,HJ19,HO_4,HO_212000,HO_213001,HO_234001,BK211,BK212,BK224,BK233,HB⟩:=hcut
              cases kq with
              | zero=>exact absurd HA.out (by simp [cadencelaw4_Make.j3])
              | succ kj19 =>
               have H:=HA.out
               clear HA
               simp only [cadencelaw4_Make.j3] at H
               replace H:=Option.bind_eq_some_iff.mp H
               obtain ⟨t242,A460,H⟩:=H
               replace H:(if ((rd_T40 ((rd_T33 l0 x5_1).f0) x8_2).f2)=true then (if x212000_2.length < 2932031007402 then (cadencelaw4_Make.l1 kj19 l0 ji3 x4_1 x5_1 (wrap64 (x8_2+1)) (x212000_2 ++ [(⟨(⟨t229,t230⟩:S38),t242,!t229⟩:S40)]) false false x213000_19 x213001_19) else (none)) else (if x212000_2.length < 2932031007402 then (cadencelaw4_Make.l1 kj19 l0 ji3 x4_1 x5_1 (wrap64 (x8_2+1)) (x212000_2 ++ [(⟨(⟨t229,t230⟩:S38),t242,false⟩:S40)]) false false x213000_19 x213001_19) else (none)))=some r:=H
               have A46:=Aside0.mk A460
               clear A460
               by_cases c47:((rd_T40 ((rd_T33 l0 x5_1).f0) x8_2).f2)=true
               ·rw [if_pos c47] at H
                have c47b0:((rd_T40 ((rd_T33 l0 x5_1).f0) x8_2).f2)=true:=c47
                clear c47
                by_cases c48:x212000_2.length < 2932031007402
                ·rw [if_pos c48] at H
                 have LMc48:=Aside0.mk c48
                 clear c48
                 obtain ⟨y243,hy243⟩:∃ y_:List (S40),y_=(x212000_2 ++ [(⟨(⟨t229,t230⟩:S38),t242,!t229⟩:S40)]):=⟨_,rfl⟩
                 replace H:(cadencelaw4_Make.l1 kj19 l0 ji3 x4_1 x5_1 (wrap64 (x8_2+1)) y243 false false x213000_19 x213001_19)=some r:=by first|(rw [hy243];with_reducible exact H)|(have H2_:=(Option.bind_some _ _).symm.trans H;rw [hy243];with_reducible exact H2_)|(have H2_:=(Option.bind_some _ _).symm.trans H;with_reducible exact H2_)|with_reducible exact H|(rw [hy243];exact H)|exact H
                 have Ny243:=Aside0.mk hy243
                 clear hy243
                 have H':=Aside0.mk H
                 clear H
                 try go_wp2
                 have n0_:=Aside0.mk (rD_ HO_4.out)
                 have n1_:=Aside0.mk (Kd.S_drew HO_212000.out)
                 have n2_:=Aside0.mk (rD_ HO_213001.out)
                 have n3_:=Aside0.mk (rD_ HO_234001.out)
                 have n4_:=Aside0.mk (blk_drew BK211.out)
                 have n5_:=Aside0.mk (blk_drew BK212.out)
                 have n6_:=Aside0.mk (blk_drew BK224.out)
                 have n7_:=Aside0.mk (blk_drew BK233.out)
                 have n8_:=Aside0.mk (bD_ HB.out)
                 clear HO_4
                 clear HO_212000
                 clear HO_213001
                 clear HO_234001
                 clear BK211
                 clear BK212
                 clear BK224
                 clear BK233
                 clear HB
                 have HO_4:=n0_
                 have HO_212000:=n1_
                 have HO_213001:=n2_
                 have HO_234001:=n3_
                 have BK211:=n4_
                 have BK212:=n5_
                 have BK224:=n6_
                 have BK233:=n7_
                 have HB:=n8_
                 clear n0_ n1_ n2_ n3_ n4_ n5_ n6_ n7_ n8_
                 refine start_ (n:=19) (S:=fun w'=>w'.cell? ⟨gb211,0,none⟩=some (u212000)∧w'.cell? ⟨gb211,1,none⟩=some (.bool false)∧w'.cell? ⟨gb211,2,none⟩=some (.bool false)∧w'.cell? ⟨gb233,0,none⟩=some (.bool t229)∧w'.cell? ⟨gb233,1,none⟩=some (.slice Ao34 t230.length co34)∧w'.cell? ⟨gb224,0,none⟩=some (.bool ((rd_T40 ((rd_T33 l0 x5_1).f0) x8_2).f0.f0))∧w'.cell? ⟨gb224,1,none⟩=some (.slice A223_1 ((rd_T40 ((rd_T33 l0 x5_1).f0) x8_2).f0.f1).length c223_1)∧w'.cell? ⟨gb224,2,none⟩=some (.int .i64 ((rd_T40 ((rd_T33 l0 x5_1).f0) x8_2).f1))∧w'.cell? ⟨gb224,3,none⟩=some (.bool ((rd_T40 ((rd_T33 l0 x5_1).f0) x8_2).f2))) (ds:=[18]) #[false,false,false,false,false,false,false,false,false,false,false,false,false,false,false,false,false,false,false] (by kernel_rfl) rfl rfl ⟨(blk_cell BK211.out 0).trans rfl,(blk_cell BK211.out 1).trans rfl,(blk_cell BK211.out 2).trans rfl,(blk_cell BK233.out 0).trans rfl,(blk_cell BK233.out 1).trans rfl,(blk_cell BK224.out 0).trans rfl,(blk_cell BK224.out 1).trans rfl,(blk_cell BK224.out 2).trans rfl,(blk_cell BK224.out 3).trans rfl⟩ (fun hHeld=>?_);refine with_tabW cadencelaw4_Make.tab15 cadencelaw4_Make.bits15 (fun HT_ HW_=>?_)
                 generalize wc.drew=w49 at HO_4 HO_212000 HO_213001 HO_234001 BK211 BK212 BK224 BK233 HB hHeld ⊢
                 refine pure_ (i:=0) (N:=some 58) (v:=?_) (a':=?_) #[true,false,false,false,false,false,false,false,false,false,false,false,false,false,false,false,false,false,false] rfl rfl (any_of HT_.out (by kernel_rfl)) (fun _ _ _ h=>h) (Or.inl ⟨by rfl,?_⟩) ?_ ?_
                 rotate_left
                 ·intro w'
                  go_simp
                  with_reducible rfl
                 rotate_left
                 ·simp only [Act.put,List.setIfInBounds_toArray,List.set_cons_zero,List.set_cons_succ,i64_w,i32_w]
                  rfl
                 refine pure_ (i:=3) (N:=some 61) (v:=?_) (a':=?_) #[true,false,false,true,false,false,false,false,false,false,false,false,false,false,false,false,false,false,false] rfl rfl (any_of HT_.out (by kernel_rfl)) (fun _ _ _ h=>h) (Or.inl ⟨by rfl,?_⟩) ?_ ?_
                 rotate_left
                 ·intro w'
                  go_simp
                  with_reducible rfl
                 rotate_left
                 ·simp only [Act.put,List.setIfInBounds_toArray,List.set_cons_zero,List.set_cons_succ,i64_w,i32_w]
                  rfl
                 refine pure_ (i:=5) (N:=some 63) (v:=?_) (a':=?_) #[true,false,false,true,false,true,false,false,false,false,false,false,false,false,false,false,false,false,false] rfl rfl (any_of HT_.out (by kernel_rfl)) (fun _ _ _ h=>h) (Or.inl ⟨by rfl,?_⟩) ?_ ?_
                 rotate_left
                 ·intro w'
                  go_simp
                  with_reducible rfl
                 rotate_left
                 ·simp only [Act.put,List.setIfInBounds_toArray,List.set_cons_zero,List.set_cons_succ,i64_w,i32_w]
                  rfl
                 refine pure_ (i:=7) (N:=some 65) (v:=?_) (a':=?_) #[true,false,false,true,false,true,false,true,false,false,false,false,false,false,false,false,false,false,false] rfl rfl (any_of HT_.out (by kernel_rfl)) (fun _ _ _ h=>h) (Or.inl ⟨by rfl,?_⟩) ?_ ?_
                 rotate_left
                 ·intro w'
                  go_simp
                  with_reducible rfl
                 rotate_left
                 ·simp only [Act.put,List.setIfInBounds_toArray,List.set_cons_zero,List.set_cons_succ,i64_w,i32_w]
                  rfl
                 refine take_ (i:=1) (N:=some 59) (v:=?_) (a':=?_) #[true,true,false,true,false,true,false,true,false,false,false,false,false,false,false,false,false,false,false] rfl rfl (take_ofW HT_.out HW_.out (by kernel_rfl)) (fun _ _ _ h=>h) (Or.inl ⟨by rfl,?_⟩) hHeld ?_ ?_
                 rotate_left
                 ·rintro w' ⟨s0,s1,s2,s3,s4,s5,s6,s7,s8⟩
                  go_simp
                  with_reducible rfl
                 rotate_left
                 ·simp only [Act.put,List.setIfInBounds_toArray,List.set_cons_zero,List.set_cons_succ,i64_w,i32_w]
                  rfl
                 refine take_ (i:=2) (N:=some 60) (v:=?_) (a':=?_) #[true,true,true,true,false,true,false,true,false,false,false,false,false,false,false,false,false,false,false] rfl rfl (take_ofW HT_.out HW_.out (by kernel_rfl)) (fun _ _ _ h=>h) (Or.inl ⟨by rfl,?_⟩) hHeld ?_ ?_
                 rotate_left
                 ·rintro w' ⟨s0,s1,s2,s3,s4,s5,s6,s7,s8⟩
                  go_simp
                  with_reducible rfl
                 rotate_left
                 ·simp only [Act.put,List.setIfInBounds_toArray,List.set_cons_zero,List.set_cons_succ,i64_w,i32_w]
                  rfl
                 refine take_ (i:=4) (N:=some 62) (v:=?_) (a':=?_) #[true,true,true,true,true,true,false,true,false,false,false,false,false,false,false,false,false,false,false] rfl rfl (take_ofW HT_.out HW_.out (by kernel_rfl)) (fun _ _ _ h=>h) (Or.inl ⟨by rfl,?_⟩) hHeld ?_ ?_
                 rotate_left
                 ·rintro w' ⟨s0,s1,s2,s3,s4,s5,s6,s7,s8⟩
                  go_simp
                  with_reducible rfl
                 rotate_left
                 ·simp only [Act.put,List.setIfInBounds_toArray,List.set_cons_zero,List.set_cons_succ,i64_w,i32_w]
                  rfl
                 refine take_ (i:=8) (N:=some 66) (v:=?_) (a':=?_) #[true,true,true,true,true,true,false,true,true,false,false,false,false,false,false,false,false,false,false] rfl rfl (take_ofW HT_.out HW_.out (by kernel_rfl)) (fun _ _ _ h=>h) (Or.inl ⟨by rfl,?_⟩) hHeld ?_ ?_
                 rotate_left
                 ·rintro w' ⟨s0,s1,s2,s3,s4,s5,s6,s7,s8⟩
                  go_simp
                  with_reducible rfl
                 rotate_left
                 ·simp only [Act.put,List.setIfInBounds_toArray,List.set_cons_zero,List.set_cons_succ,i64_w,i32_w]
                  rfl
                 refine one_ (i:=6) (N:=some 64) #[true,true,true,true,true,true,true,true,true,false,false,false,false,false,false,false,false,false,false] rfl rfl (one_of HT_.out (by kernel_rfl)) (by decide) (fun K hK=>?_)
                 refine goes_ Try.func13 (by kernel_rfl) rfl #[.int .i64 ((rd_T40 ((rd_T33 l0 x5_1).f0) x8_2).f1),.int .i64 ji3] (by rfl) rfl rfl (by (try simp only [List.map_toArray,List.map_cons,List.map_nil]);first|done|(simp only [hji3];rfl)|rfl|(simp only [List.length_drop,List.length_take];rfl)) ?_
                 with_reducible refine (cadencelaw4_within.calls ((rd_T40 ((rd_T33 l0 x5_1).f0) x8_2).f1) ji3 t242 _ A46.out).mono ?_
                 rintro e w' ⟨rfl,⟨nd,rfl⟩⟩
                 refine ⟨_,rfl,?_⟩
                 refine hK.out _ _ ⟨(blk_cell BK211.out 0).trans rfl,(blk_cell BK211.out 1).trans rfl,(blk_cell BK211.out 2).trans rfl,(blk_cell BK233.out 0).trans rfl,(blk_cell BK233.out 1).trans rfl,(blk_cell BK224.out 0).trans rfl,(blk_cell BK224.out 1).trans rfl,(blk_cell BK224.out 2).trans rfl,(blk_cell BK224.out 3).trans rfl⟩ (fun hHeld=>?_)
                 clear hK K
                 refine norm_ (a':=?_) ?_ ?_
                 rotate_left
                 ·show Act.put _ (some 64) _=_
                  simp only [Act.put,List.setIfInBounds_toArray,List.set_cons_zero,List.set_cons_succ,i64_w,i32_w]
                  rfl
                 refine pure_ (i:=9) (N:=some 67) (v:=?_) (a':=?_) #[true,true,true,true,true,true,true,true,true,true,false,false,false,false,false,false,false,false,false] rfl rfl (any_of HT_.out (by kernel_rfl)) (fun _ _ _ h=>h) (Or.inl ⟨by rfl,?_⟩) ?_ ?_
                 rotate_left
                 ·intro w'
                  go_simp
                  with_reducible rfl
                 rotate_left
                 ·simp only [Act.put,List.setIfInBounds_toArray,List.set_cons_zero,List.set_cons_succ,i64_w,i32_w]
                  rfl
                 refine pure_ (i:=10) (N:=some 68) (v:=?_) (a':=?_) #[true,true,true,true,true,true,true,true,true,true,true,false,false,false,false,false,false,false,false] rfl rfl (any_of HT_.out (by kernel_rfl)) (fun _ _ _ h=>h) (Or.inl ⟨by rfl,?_⟩) ?_ ?_
                 rotate_left
                 ·intro w'
                  go_simp
                  with_reducible rfl
                 rotate_left
                 ·simp only [Act.put,List.setIfInBounds_toArray,List.set_cons_zero,List.set_cons_succ,i64_w,i32_w]
                  rfl
                 refine take_ (i:=11) (N:=some 69) (v:=?_) (a':=?_) #[true,true,true,true,true,true,true,true,true,true,true,true,false,false,false,false,false,false,false] rfl rfl (take_ofW HT_.out HW_.out (by kernel_rfl)) (fun _ _ _ h=>h) (Or.inl ⟨by rfl,?_⟩) hHeld ?_ ?_
                 rotate_left
                 ·rintro w' ⟨s0,s1,s2,s3,s4,s5,s6,s7,s8⟩
                  go_simp
                  with_reducible rfl
                 rotate_left
                 ·simp only [Act.put,List.setIfInBounds_toArray,List.set_cons_zero,List.set_cons_succ,i64_w,i32_w]
                  rfl
                 refine pure_ (i:=12) (N:=some 70) (v:=?_) (a':=?_) #[true,true,true,true,true,true,true,true,true,true,true,true,true,false,false,false,false,false,false] rfl rfl (any_of HT_.out (by kernel_rfl)) (fun _ _ _ h=>h) (Or.inl ⟨by rfl,?_⟩) ?_ ?_
                 rotate_left
                 ·intro w'
                  go_simp
                  with_reducible rfl
                 rotate_left
                 ·simp only [Act.put,List.setIfInBounds_toArray,List.set_cons_zero,List.set_cons_succ,i64_w,i32_w]
                  rfl
                 refine pure_ (i:=13) (N:=some 71) (v:=?_) (a':=?_) #[true,true,true,true,true,true,true,true,true,true,true,true,true,true,false,false,false,false,false] rfl rfl (any_of HT_.out (by kernel_rfl)) (fun _ _ _ h=>h) (Or.inl ⟨by rfl,?_⟩) ?_ ?_
                 rotate_left
                 ·intro w'
                  go_simp
                  with_reducible rfl
                 rotate_left
                 ·simp only [Act.put,List.setIfInBounds_toArray,List.set_cons_zero,List.set_cons_succ,i64_w,i32_w]
                  rfl
                 refine pure_ (i:=14) (N:=some 72) (v:=?_) (a':=?_) #[true,true,true,true,true,true,true,true,true,true,true,true,true,true,true,false,false,false,false] rfl rfl (any_of HT_.out (by kernel_rfl)) (fun _ _ _ h=>h) (Or.inl ⟨by rfl,?_⟩) ?_ ?_
                 rotate_left
                 ·intro w'
                  go_simp
                  with_reducible rfl
                 rotate_left
                 ·simp only [Act.put,List.setIfInBounds_toArray,List.set_cons_zero,List.set_cons_succ,i64_w,i32_w]
                  rfl
                 refine one_ (i:=15) (N:=some 73) #[true,true,true,true,true,true,true,true,true,true,true,true,true,true,true,true,false,false,false] rfl rfl (one_of HT_.out (by kernel_rfl)) (by decide) (fun K hK=>?_)
                 refine value_ (w1:=?_) (v:=?_) (by rfl) rfl ?_ ?_
                 rotate_left 2
                 ·go_simp
                  constructor
                  ·rfl
                  ·rfl
                 refine hK.out _ _ ⟨(blk_cell (blk_alloc BK211.out _) 0).trans rfl,(blk_cell (blk_alloc BK211.out _) 1).trans rfl,(blk_cell (blk_alloc BK211.out _) 2).trans rfl,(blk_cell (blk_alloc BK233.out _) 0).trans rfl,(blk_cell (blk_alloc BK233.out _) 1).trans rfl,(blk_cell (blk_alloc BK224.out _) 0).trans rfl,(blk_cell (blk_alloc BK224.out _) 1).trans rfl,(blk_cell (blk_alloc BK224.out _) 2).trans rfl,(blk_cell (blk_alloc BK224.out _) 3).trans rfl⟩ (fun hHeld=>?_)
                 clear hK K
                 refine norm_ (a':=?_) ?_ ?_
                 rotate_left
                 ·show Act.put _ (some 73) _=_
                  simp only [Act.put,List.setIfInBounds_toArray,List.set_cons_zero,List.set_cons_succ,i64_w,i32_w]
                  rfl
                 refine one_ (i:=16) (N:=some 74) #[true,true,true,true,true,true,true,true,true,true,true,true,true,true,true,true,true,false,false] rfl rfl (one_of HT_.out (by kernel_rfl)) (by decide) (fun K hK=>?_)
                 refine Kd.S_append_step k40 (w0:=w) w.heap.size (by rfl) (.tmp 59) (.tmp 73) 31 40 (.agg #[(.bool false),(.slice none 0 0),(.int .i64 0),(.bool false)]) 48 rfl Try.underlying31 info40 rfl (by decide) (by omega) u212000 x212000_2 (⟨(⟨t229,t230⟩:S38),t242,!t229⟩:S40) [.bool t229,.slice Ao34 t230.length co34,.int .i64 t242,.bool (!t229)] (fun k_=>some k_≠(u213001:Value).ownBlock∧k_≠gb224) (fun k_=>some k_=(.slice Ao34 t230.length co34:Value).ownBlock) rfl rfl ?aP (fun k_ hk_=>((Kd.R_mono (ok':=fun k_=>((fun k_=>some k_≠(u213001:Value).ownBlock∧k_≠gb224)) k_∧some k_≠(u212000:Value).ownBlock) (Kd.R_types (Kd.R_apart' (HO_234001.out) (Kd.S_typed HO_212000.out) (by decide)) BK224.out (by decide)) (fun k_ hk=>⟨⟨hk.1.1,hk.2⟩,hk.1.2⟩))).1 k_ hk_.symm) ?aF ?aO ?aB ?aS ?aL ?_
                 (case aP=>exact k40_mkM _ _ _ (⟨(⟨t229,t230⟩:S38),t242,!t229⟩:S40) (Kd.R_mono (Kd.R_tight rfl (Kd.R_mono (ok':=fun k_=>((fun k_=>some k_≠(u213001:Value).ownBlock∧k_≠gb224)) k_∧some k_≠(u212000:Value).ownBlock) (Kd.R_types (Kd.R_apart' (HO_234001.out) (Kd.S_typed HO_212000.out) (by decide)) BK224.out (by decide)) (fun k_ hk=>⟨⟨hk.1.1,hk.2⟩,hk.1.2⟩))) (fun _ h_=>h_)))
                 (case aB=>exact (by repeat (first|(with_reducible first|exact HB.out|apply bA_|apply bN_|apply bD_|refine below_set ?_ GE211.out|refine below_set ?_ GE212.out|refine below_set ?_ GE224.out|refine below_set ?_ GE233.out)|exact HB.out)))
                 (case aF=>exact (fun k_ hk=>⟨Kd.fresh' (Kd.R_lt (by (with_reducible repeat (first|apply rA_|apply rN_|apply rD_));exact HO_213001.out)) k_ hk,Kd.freshB (g:=gb224) (o:=.cells #[.bool ((rd_T40 ((rd_T33 l0 x5_1).f0) x8_2).f0.f0),.slice A223_1 ((rd_T40 ((rd_T33 l0 x5_1).f0) x8_2).f0.f1).length c223_1,.int .i64 ((rd_T40 ((rd_T33 l0 x5_1).f0) x8_2).f1),.bool ((rd_T40 ((rd_T33 l0 x5_1).f0) x8_2).f2)] 40 (0,0)) (by (with_reducible repeat (first|refine blk_drewN ?_ _|refine blk_drew ?_|refine blk_alloc ?_ _));exact BK224.out) k_ hk⟩))
                 (case aO=>exact (by (with_reducible repeat (first|apply Kd.S_alloc|apply Kd.S_drewN|apply Kd.S_drew));exact Kd.S_mono HO_212000.out (fun k_ hk=>⟨⟨hk.1,hk.2.2⟩,fun e_=>hk.2.1 e_⟩)))
                 (case aS=>exact (below_size (by repeat (first|(with_reducible first|exact HB.out|apply bA_|apply bN_|apply bD_|refine below_set ?_ GE211.out|refine below_set ?_ GE212.out|refine below_set ?_ GE224.out|refine below_set ?_ GE233.out)|exact HB.out))))
                 (case aL=>have:=LMc48.out;omega)
                 intro v244 w50 ho hb hg hat
                 rw [← Ny243.out] at ho
                 have n0_:=Aside0.mk (Kd.R_after (ok:=(fun k_=>some k_≠(u213001:Value).ownBlock∧some k_≠(.slice Ao34 t230.length co34:Value).ownBlock∧k_≠gb211∧k_≠gb224)) (by (with_reducible repeat (first|apply rA_|apply rN_|apply rD_));exact Kd.R_mono HO_4.out (fun _ hk=>⟨⟨hk.2.1,⟨hk.2.2.1,⟨hk.2.2.2.1,hk.2.2.2.2⟩⟩⟩,hk.1⟩)) hg hat)
                 have n1_:=Aside0.mk (Kd.R_over' (by (with_reducible repeat (first|apply rA_|apply rN_|apply rD_));exact HO_213001.out) (Kd.S_typed (by (with_reducible repeat (first|apply Kd.S_alloc|apply Kd.S_drewN|apply Kd.S_drew));exact HO_212000.out)) (by decide) hg)
                 have n2_:=Aside0.mk (blk_grown (g:=gb211) (o:=.cells #[u212000,.bool false,.bool false] 33 (0,0)) (by (with_reducible repeat (first|refine blk_drewN ?_ _|refine blk_drew ?_|refine blk_alloc ?_ _));exact BK211.out) hg (Kd.S_ne HO_212000.out BK211.out (by decide)))
                 have n3_:=Aside0.mk (blk_grown (g:=gb212) (o:=.cells #[.bool x213000_19,u213001] 38 (0,0)) (by (with_reducible repeat (first|refine blk_drewN ?_ _|refine blk_drew ?_|refine blk_alloc ?_ _));exact BK212.out) hg (Kd.S_ne HO_212000.out BK212.out (by decide)))
                 have n4_:=Aside0.mk (blk_grown (g:=gb224) (o:=.cells #[.bool ((rd_T40 ((rd_T33 l0 x5_1).f0) x8_2).f0.f0),.slice A223_1 ((rd_T40 ((rd_T33 l0 x5_1).f0) x8_2).f0.f1).length c223_1,.int .i64 ((rd_T40 ((rd_T33 l0 x5_1).f0) x8_2).f1),.bool ((rd_T40 ((rd_T33 l0 x5_1).f0) x8_2).f2)] 40 (0,0)) (by (with_reducible repeat (first|refine blk_drewN ?_ _|refine blk_drew ?_|refine blk_alloc ?_ _));exact BK224.out) hg (Kd.S_away HO_212000.out (fun _ hk=>hk.2.2)))
                 have n5_:=Aside0.mk (blk_grown (g:=gb233) (o:=.cells #[.bool t229,.slice Ao34 t230.length co34] 38 (0,0)) (by (with_reducible repeat (first|refine blk_drewN ?_ _|refine blk_drew ?_|refine blk_alloc ?_ _));exact BK233.out) hg (Kd.S_ne HO_212000.out BK233.out (by decide)))
                 have n6_:=Aside0.mk (hb)
                 have n7_:=Aside0.mk (ho)
                 clear HO_4
                 clear HO_213001
                 clear BK211
                 clear BK212
                 clear BK224
                 clear BK233
                 clear HB
                 clear HO_212000
                 clear HO_234001
                 have HO_4:=n0_
                 have HO_213001:=n1_
                 have BK211:=n2_
                 have BK212:=n3_
                 have BK224:=n4_
                 have BK233:=n5_
                 have HB:=n6_
                 have HO245:=n7_
                 clear n0_ n1_ n2_ n3_ n4_ n5_ n6_ n7_
                 clear ho hb hg hat
                 obtain ⟨Ao51,co51,eo51⟩:=Kd.S_slice HO245.out
                 (first|subst eo51|(injection eo51 with f1_ f2_ f3_;have f4_:=f1_.symm;have f5_:=f3_.symm;clear f1_ f2_ f3_;subst f4_;subst f5_))
                 refine hK.out _ _ ⟨(blk_cell BK211.out 0).trans rfl,(blk_cell BK211.out 1).trans rfl,(blk_cell BK211.out 2).trans rfl,(blk_cell BK233.out 0).trans rfl,(blk_cell BK233.out 1).trans rfl,(blk_cell BK224.out 0).trans rfl,(blk_cell BK224.out 1).trans rfl,(blk_cell BK224.out 2).trans rfl,(blk_cell BK224.out 3).trans rfl⟩ (fun hHeld=>?_)
                 clear hK K
                 refine norm_ (a':=?_) ?_ ?_
                 rotate_left
                 ·show Act.put _ (some 74) _=_
                  simp only [Act.put,List.setIfInBounds_toArray,List.set_cons_zero,List.set_cons_succ,i64_w,i32_w]
                  rfl
                 refine pure_ (i:=17) (N:=some 75) (v:=?_) (a':=?_) #[true,true,true,true,true,true,true,true,true,true,true,true,true,true,true,true,true,true,false] rfl rfl (any_of HT_.out (by kernel_rfl)) (fun _ _ _ h=>h) (Or.inl ⟨by rfl,?_⟩) ?_ ?_
                 rotate_left
                 ·intro w'
                  go_simp
                  with_reducible rfl
                 rotate_left
                 ·simp only [Act.put,List.setIfInBounds_toArray,List.set_cons_zero,List.set_cons_succ,i64_w,i32_w]
                  rfl
                 refine last_ (i:=18) (N:=none) #[true,true,true,true,true,true,true,true,true,true,true,true,true,true,true,true,true,true,true] rfl rfl (one_of HT_.out (by kernel_rfl)) (by decide) (fun K hK=>?_)
                 have hs52:w50.cell? ⟨gb211,0,none⟩=some (u212000):=(blk_cell BK211.out 0).trans rfl
                 have hfs52:=blk_frozen BK211.out 0
                 have hns52_1:=NB212_211.out
                 have hns52_2:=NB224_211.out
                 have hns52_3:=NB233_211.out
                 have hms52_1:=NB211_212.out
                 have hms52_2:=NB211_224.out
                 have hms52_3:=NB211_233.out
                 refine skip_ (w1:=?_) (by rfl) rfl ?_ ?_
                 rotate_left
                 ·go_simp
                  rfl
                 refine hK.out _ _ ?_
                 clear hK K
                 refine done_ (done_of HT_.out (by kernel_rfl)) ?_
                 try go_wp2
                 go_roundg kj19
                 case measure=>have:=HK1.out;have:=HK2.out;have:=HJ8.out;have:=HJ19.out;omega
                 case rel=>exact ⟨(wrap64 (x8_2+1)),(y243),(x213000_19),(x213001_19),(.slice Ao51 y243.length co51),(u213001),(by first|rfl|(simp;done)|(simp [*];done)),H',⟨by have:=HK1.out;have:=HK2.out;have:=HJ8.out;have:=HJ19.out;omega⟩,⟨by (with_reducible repeat (first|apply rA_|apply rN_|apply rD_));exact Kd.R_mono (Kd.R_far (p:=⟨gb211,0,none⟩) (Kd.R_mono HO_4.out (fun k_ hk=>(⟨hk,hk.1.2.2.1⟩:_∧k_≠gb211))) (fun _ hk=>hk.2) (.slice Ao51 y243.length co51)) (fun _ hk=>⟨hk.1.2,⟨hk.1.1.1,hk.1.1.2.2.1⟩⟩)⟩,⟨by (with_reducible repeat (first|apply Kd.S_alloc|apply Kd.S_drewN|apply Kd.S_drew));exact Kd.S_mono (Kd.S_far (p:=⟨gb211,0,none⟩) (Kd.S_types HO245.out BK211.out (by decide)) (fun _ hk=>hk.2) (.slice Ao51 y243.length co51)) (fun _ hk=>hk.1.1)⟩,⟨by (with_reducible repeat (first|apply rA_|apply rN_|apply rD_));exact Kd.R_mono (Kd.R_far (p:=⟨gb211,0,none⟩) (Kd.R_types HO_213001.out BK211.out (by decide)) (fun _ hk=>hk.2) (.slice Ao51 y243.length co51)) (fun _ hk=>trivial)⟩,⟨by (with_reducible repeat (first|refine blk_drewN ?_ _|refine blk_drew ?_|refine blk_alloc ?_ _));refine blk_put (cs:=#[u212000,.bool false,.bool false]) ?_ 0 _ rfl;(with_reducible repeat (first|refine blk_drewN ?_ _|refine blk_drew ?_|refine blk_alloc ?_ _));exact BK211.out⟩,⟨by (with_reducible repeat (first|refine blk_drewN ?_ _|refine blk_drew ?_|refine blk_alloc ?_ _));refine blk_far ?_ NB212_211.out _;(with_reducible repeat (first|refine blk_drewN ?_ _|refine blk_drew ?_|refine blk_alloc ?_ _));exact BK212.out⟩,⟨by repeat (first|(with_reducible first|exact HB.out|apply bA_|apply bN_|apply bD_|refine below_set ?_ GE211.out|refine below_set ?_ GE212.out|refine below_set ?_ GE224.out|refine below_set ?_ GE233.out)|exact HB.out)⟩⟩
                ·rw [if_neg c48] at H
                 exact absurd H (by simp)
               ·rw [if_neg c47] at H
                have c47b0:((rd_T40 ((rd_T33 l0 x5_1).f0) x8_2).f2)=false:=by simpa using c47
                clear c47
                by_cases c53:x212000_2.length < 2932031007402
                ·rw [if_pos c53] at H
                 have LMc53:=Aside0.mk c53
                 clear c53
                 obtain ⟨y246,hy246⟩:∃ y_:List (S40),y_=(x212000_2 ++ [(⟨(⟨t229,t230⟩:S38),t242,false⟩:S40)]):=⟨_,rfl⟩
                 replace H:(cadencelaw4_Make.l1 kj19 l0 ji3 x4_1 x5_1 (wrap64 (x8_2+1)) y246 false false x213000_19 x213001_19)=some r:=by first|(rw [hy246];with_reducible exact H)|(have H2_:=(Option.bind_some _ _).symm.trans H;rw [hy246];with_reducible exact H2_)|(have H2_:=(Option.bind_some _ _).symm.trans H;with_reducible exact H2_)|with_reducible exact H|(rw [hy246];exact H)|exact H
                 have Ny246:=Aside0.mk hy246
                 clear hy246
                 have H':=Aside0.mk H
                 clear H
                 try go_wp2
                 have n0_:=Aside0.mk (rD_ HO_4.out)
                 have n1_:=Aside0.mk (Kd.S_drew HO_212000.out)
                 have n2_:=Aside0.mk (rD_ HO_213001.out)
                 have n3_:=Aside0.mk (rD_ HO_234001.out)
                 have n4_:=Aside0.mk (blk_drew BK211.out)
                 have n5_:=Aside0.mk (blk_drew BK212.out)
                 have n6_:=Aside0.mk (blk_drew BK224.out)
                 have n7_:=Aside0.mk (blk_drew BK233.out)
                 have n8_:=Aside0.mk (bD_ HB.out)
                 clear HO_4
                 clear HO_212000
                 clear HO_213001
                 clear HO_234001
                 clear BK211
                 clear BK212
                 clear BK224
                 clear BK233
                 clear HB
                 have HO_4:=n0_
                 have HO_212000:=n1_
                 have HO_213001:=n2_
                 have HO_234001:=n3_
                 have BK211:=n4_
                 have BK212:=n5_
                 have BK224:=n6_
                 have BK233:=n7_
                 have HB:=n8_
                 clear n0_ n1_ n2_ n3_ n4_ n5_ n6_ n7_ n8_
                 refine start_ (n:=19) (S:=fun w'=>w'.cell? ⟨gb211,0,none⟩=some (u212000)∧w'.cell? ⟨gb211,1,none⟩=some (.bool false)∧w'.cell? ⟨gb211,2,none⟩=some (.bool false)∧w'.cell? ⟨gb233,0,none⟩=some (.bool t229)∧w'.cell? ⟨gb233,1,none⟩=some (.slice Ao34 t230.length co34)∧w'.cell? ⟨gb224,0,none⟩=some (.bool ((rd_T40 ((rd_T33 l0 x5_1).f0) x8_2).f0.f0))∧w'.cell? ⟨gb224,1,none⟩=some (.slice A223_1 ((rd_T40 ((rd_T33 l0 x5_1).f0) x8_2).f0.f1).length c223_1)∧w'.cell? ⟨gb224,2,none⟩=some (.int .i64 ((rd_T40 ((rd_T33 l0 x5_1).f0) x8_2).f1))∧w'.cell? ⟨gb224,3,none⟩=some (.bool ((rd_T40 ((rd_T33 l0 x5_1).f0) x8_2).f2))) (ds:=[18]) #[false,false,false,false,false,false,false,false,false,false,false,false,false,false,false,false,false,false,false] (by kernel_rfl) rfl rfl ⟨(blk_cell BK211.out 0).trans rfl,(blk_cell BK211.out 1).trans rfl,(blk_cell BK211.out 2).trans rfl,(blk_cell BK233.out 0).trans rfl,(blk_cell BK233.out 1).trans rfl,(blk_cell BK224.out 0).trans rfl,(blk_cell BK224.out 1).trans rfl,(blk_cell BK224.out 2).trans rfl,(blk_cell BK224.out 3).trans rfl⟩ (fun hHeld=>?_);refine with_tabW cadencelaw4_Make.tab15 cadencelaw4_Make.bits15 (fun HT_ HW_=>?_)
                 generalize wc.drew=w54 at HO_4 HO_212000 HO_213001 HO_234001 BK211 BK212 BK224 BK233 HB hHeld ⊢
                 refine pure_ (i:=0) (N:=some 58) (v:=?_) (a':=?_) #[true,false,false,false,false,false,false,false,false,false,false,false,false,false,false,false,false,false,false] rfl rfl (any_of HT_.out (by kernel_rfl)) (fun _ _ _ h=>h) (Or.inl ⟨by rfl,?_⟩) ?_ ?_
                 rotate_left
                 ·intro w'
                  go_simp
                  with_reducible rfl
                 rotate_left
                 ·simp only [Act.put,List.setIfInBounds_toArray,List.set_cons_zero,List.set_cons_succ,i64_w,i32_w]
                  rfl
                 refine pure_ (i:=3) (N:=some 61) (v:=?_) (a':=?_) #[true,false,false,true,false,false,false,false,false,false,false,false,false,false,false,false,false,false,false] rfl rfl (any_of HT_.out (by kernel_rfl)) (fun _ _ _ h=>h) (Or.inl ⟨by rfl,?_⟩) ?_ ?_
                 rotate_left
                 ·intro w'
                  go_simp
                  with_reducible rfl
                 rotate_left
                 ·simp only [Act.put,List.setIfInBounds_toArray,List.set_cons_zero,List.set_cons_succ,i64_w,i32_w]
                  rfl
                 refine pure_ (i:=5) (N:=some 63) (v:=?_) (a':=?_) #[true,false,false,true,false,true,false,false,false,false,false,false,false,false,false,false,false,false,false] rfl rfl (any_of HT_.out (by kernel_rfl)) (fun _ _ _ h=>h) (Or.inl ⟨by rfl,?_⟩) ?_ ?_
                 rotate_left
                 ·intro w'
                  go_simp
                  with_reducible rfl
                 rotate_left
                 ·simp only [Act.put,List.setIfInBounds_toArray,List.set_cons_zero,List.set_cons_succ,i64_w,i32_w]
                  rfl
                 refine pure_ (i:=7) (N:=some 65) (v:=?_) (a':=?_) #[true,false,false,true,false,true,false,true,false,false,false,false,false,false,false,false,false,false,false] rfl rfl (any_of HT_.out (by kernel_rfl)) (fun _ _ _ h=>h) (Or.inl ⟨by rfl,?_⟩) ?_ ?_
                 rotate_left
                 ·intro w'
                  go_simp
                  with_reducible rfl
                 rotate_left
                 ·simp only [Act.put,List.setIfInBounds_toArray,List.set_cons_zero,List.set_cons_succ,i64_w,i32_w]
                  rfl
                 refine take_ (i:=1) (N:=some 59) (v:=?_) (a':=?_) #[true,true,false,true,false,true,false,true,false,false,false,false,false,false,false,false,false,false,false] rfl rfl (take_ofW HT_.out HW_.out (by kernel_rfl)) (fun _ _ _ h=>h) (Or.inl ⟨by rfl,?_⟩) hHeld ?_ ?_
                 rotate_left
                 ·rintro w' ⟨s0,s1,s2,s3,s4,s5,s6,s7,s8⟩
                  go_simp
                  with_reducible rfl
                 rotate_left
                 ·simp only [Act.put,List.setIfInBounds_toArray,List.set_cons_zero,List.set_cons_succ,i64_w,i32_w]
                  rfl
                 refine take_ (i:=2) (N:=some 60) (v:=?_) (a':=?_) #[true,true,true,true,false,true,false,true,false,false,false,false,false,false,false,false,false,false,false] rfl rfl (take_ofW HT_.out HW_.out (by kernel_rfl)) (fun _ _ _ h=>h) (Or.inl ⟨by rfl,?_⟩) hHeld ?_ ?_
                 rotate_left
                 ·rintro w' ⟨s0,s1,s2,s3,s4,s5,s6,s7,s8⟩
                  go_simp
                  with_reducible rfl
                 rotate_left
                 ·simp only [Act.put,List.setIfInBounds_toArray,List.set_cons_zero,List.set_cons_succ,i64_w,i32_w]
                  rfl
                 refine take_ (i:=4) (N:=some 62) (v:=?_) (a':=?_) #[true,true,true,true,true,true,false,true,false,false,false,false,false,false,false,false,false,false,false] rfl rfl (take_ofW HT_.out HW_.out (by kernel_rfl)) (fun _ _ _ h=>h) (Or.inl ⟨by rfl,?_⟩) hHeld ?_ ?_
                 rotate_left
                 ·rintro w' ⟨s0,s1,s2,s3,s4,s5,s6,s7,s8⟩
                  go_simp
                  with_reducible rfl
                 rotate_left
                 ·simp only [Act.put,List.setIfInBounds_toArray,List.set_cons_zero,List.set_cons_succ,i64_w,i32_w]
                  rfl
                 refine take_ (i:=8) (N:=some 66) (v:=?_) (a':=?_) #[true,true,true,true,true,true,false,true,true,false,false,false,false,false,false,false,false,false,false] rfl rfl (take_ofW HT_.out HW_.out (by kernel_rfl)) (fun _ _ _ h=>h) (Or.inl ⟨by rfl,?_⟩) hHeld ?_ ?_
                 rotate_left
                 ·rintro w' ⟨s0,s1,s2,s3,s4,s5,s6,s7,s8⟩
                  go_simp
                  with_reducible rfl
                 rotate_left
                 ·simp only [Act.put,List.setIfInBounds_toArray,List.set_cons_zero,List.set_cons_succ,i64_w,i32_w]
                  rfl
                 refine one_ (i:=6) (N:=some 64) #[true,true,true,true,true,true,true,true,true,false,false,false,false,false,false,false,false,false,false] rfl rfl (one_of HT_.out (by kernel_rfl)) (by decide) (fun K hK=>?_)
                 refine goes_ Try.func13 (by kernel_rfl) rfl #[.int .i64 ((rd_T40 ((rd_T33 l0 x5_1).f0) x8_2).f1),.int .i64 ji3] (by rfl) rfl rfl (by (try simp only [List.map_toArray,List.map_cons,List.map_nil]);first|done|(simp only [hji3];rfl)|rfl|(simp only [List.length_drop,List.length_take];rfl)) ?_
                 with_reducible refine (cadencelaw4_within.calls ((rd_T40 ((rd_T33 l0 x5_1).f0) x8_2).f1) ji3 t242 _ A46.out).mono ?_
                 rintro e w' ⟨rfl,⟨nd,rfl⟩⟩
                 refine ⟨_,rfl,?_⟩
                 refine hK.out _ _ ⟨(blk_cell BK211.out 0).trans rfl,(blk_cell BK211.out 1).trans rfl,(blk_cell BK211.out 2).trans rfl,(blk_cell BK233.out 0).trans rfl,(blk_cell BK233.out 1).trans rfl,(blk_cell BK224.out 0).trans rfl,(blk_cell BK224.out 1).trans rfl,(blk_cell BK224.out 2).trans rfl,(blk_cell BK224.out 3).trans rfl⟩ (fun hHeld=>?_)
                 clear hK K
                 refine norm_ (a':=?_) ?_ ?_
                 rotate_left
                 ·show Act.put _ (some 64) _=_
                  simp only [Act.put,List.setIfInBounds_toArray,List.set_cons_zero,List.set_cons_succ,i64_w,i32_w]
                  rfl
                 refine pure_ (i:=9) (N:=some 67) (v:=?_) (a':=?_) #[true,true,true,true,true,true,true,true,true,true,false,false,false,false,false,false,false,false,false] rfl rfl (any_of HT_.out (by kernel_rfl)) (fun _ _ _ h=>h) (Or.inl ⟨by rfl,?_⟩) ?_ ?_
                 rotate_left
                 ·intro w'
                  go_simp
                  with_reducible rfl
                 rotate_left
                 ·simp only [Act.put,List.setIfInBounds_toArray,List.set_cons_zero,List.set_cons_succ,i64_w,i32_w]
                  rfl
                 refine pure_ (i:=10) (N:=some 68) (v:=undef) (a':=?_) #[true,true,true,true,true,true,true,true,true,true,true,false,false,false,false,false,false,false,false] rfl rfl (any_of HT_.out (by kernel_rfl)) (fun _ _ _ h=>h) (Or.inr ⟨by rfl,rfl⟩) ?_ ?_
                 rotate_left
                 ·simp only [Act.put,List.setIfInBounds_toArray,List.set_cons_zero,List.set_cons_succ,i64_w,i32_w]
                  rfl
                 refine pure_ (i:=11) (N:=some 69) (v:=undef) (a':=?_) #[true,true,true,true,true,true,true,true,true,true,true,true,false,false,false,false,false,false,false] rfl rfl (any_of HT_.out (by kernel_rfl)) (fun _ _ _ h=>h) (Or.inr ⟨by rfl,rfl⟩) ?_ ?_
                 rotate_left
                 ·simp only [Act.put,List.setIfInBounds_toArray,List.set_cons_zero,List.set_cons_succ,i64_w,i32_w]
                  rfl
                 refine pure_ (i:=12) (N:=some 70) (v:=undef) (a':=?_) #[true,true,true,true,true,true,true,true,true,true,true,true,true,false,false,false,false,false,false] rfl rfl (any_of HT_.out (by kernel_rfl)) (fun _ _ _ h=>h) (Or.inr ⟨by rfl,rfl⟩) ?_ ?_
                 rotate_left
                 ·simp only [Act.put,List.setIfInBounds_toArray,List.set_cons_zero,List.set_cons_succ,i64_w,i32_w]
                  rfl
                 refine pure_ (i:=13) (N:=some 71) (v:=?_) (a':=?_) #[true,true,true,true,true,true,true,true,true,true,true,true,true,true,false,false,false,false,false] rfl rfl (any_of HT_.out (by kernel_rfl)) (fun _ _ _ h=>h) (Or.inl ⟨by rfl,?_⟩) ?_ ?_
                 rotate_left
                 ·intro w'
                  go_simp
                  with_reducible rfl
                 rotate_left
                 ·simp only [Act.put,List.setIfInBounds_toArray,List.set_cons_zero,List.set_cons_succ,i64_w,i32_w]
                  rfl
                 refine pure_ (i:=14) (N:=some 72) (v:=?_) (a':=?_) #[true,true,true,true,true,true,true,true,true,true,true,true,true,true,true,false,false,false,false] rfl rfl (any_of HT_.out (by kernel_rfl)) (fun _ _ _ h=>h) (Or.inl ⟨by rfl,?_⟩) ?_ ?_
                 rotate_left
                 ·intro w'
                  go_simp
                  with_reducible rfl
                 rotate_left
                 ·simp only [Act.put,List.setIfInBounds_toArray,List.set_cons_zero,List.set_cons_succ,i64_w,i32_w]
                  rfl
                 refine one_ (i:=15) (N:=some 73) #[true,true,true,true,true,true,true,true,true,true,true,true,true,true,true,true,false,false,false] rfl rfl (one_of HT_.out (by kernel_rfl)) (by decide) (fun K hK=>?_)
                 refine value_ (w1:=?_) (v:=?_) (by rfl) rfl ?_ ?_
                 rotate_left 2
                 ·go_simp
                  constructor
                  ·rfl
                  ·rfl
                 refine hK.out _ _ ⟨(blk_cell (blk_alloc BK211.out _) 0).trans rfl,(blk_cell (blk_alloc BK211.out _) 1).trans rfl,(blk_cell (blk_alloc BK211.out _) 2).trans rfl,(blk_cell (blk_alloc BK233.out _) 0).trans rfl,(blk_cell (blk_alloc BK233.out _) 1).trans rfl,(blk_cell (blk_alloc BK224.out _) 0).trans rfl,(blk_cell (blk_alloc BK224.out _) 1).trans rfl,(blk_cell (blk_alloc BK224.out _) 2).trans rfl,(blk_cell (blk_alloc BK224.out _) 3).trans rfl⟩ (fun hHeld=>?_)
                 clear hK K
                 refine norm_ (a':=?_) ?_ ?_
                 rotate_left
                 ·show Act.put _ (some 73) _=_
                  simp only [Act.put,List.setIfInBounds_toArray,List.set_cons_zero,List.set_cons_succ,i64_w,i32_w]
                  rfl
                 refine one_ (i:=16) (N:=some 74) #[true,true,true,true,true,true,true,true,true,true,true,true,true,true,true,true,true,false,false] rfl rfl (one_of HT_.out (by kernel_rfl)) (by decide) (fun K hK=>?_)
                 refine Kd.S_append_step k40 (w0:=w) w.heap.size (by rfl) (.tmp 59) (.tmp 73) 31 40 (.agg #[(.bool false),(.slice none 0 0),(.int .i64 0),(.bool false)]) 48 rfl Try.underlying31 info40 rfl (by decide) (by omega) u212000 x212000_2 (⟨(⟨t229,t230⟩:S38),t242,false⟩:S40) [.bool t229,.slice Ao34 t230.length co34,.int .i64 t242,.bool false] (fun k_=>some k_≠(u213001:Value).ownBlock∧k_≠gb224) (fun k_=>some k_=(.slice Ao34 t230.length co34:Value).ownBlock) rfl rfl ?aP (fun k_ hk_=>((Kd.R_mono (ok':=fun k_=>((fun k_=>some k_≠(u213001:Value).ownBlock∧k_≠gb224)) k_∧some k_≠(u212000:Value).ownBlock) (Kd.R_types (Kd.R_apart' (HO_234001.out) (Kd.S_typed HO_212000.out) (by decide)) BK224.out (by decide)) (fun k_ hk=>⟨⟨hk.1.1,hk.2⟩,hk.1.2⟩))).1 k_ hk_.symm) ?aF ?aO ?aB ?aS ?aL ?_
                 (case aP=>exact k40_mkM _ _ _ (⟨(⟨t229,t230⟩:S38),t242,false⟩:S40) (Kd.R_mono (Kd.R_tight rfl (Kd.R_mono (ok':=fun k_=>((fun k_=>some k_≠(u213001:Value).ownBlock∧k_≠gb224)) k_∧some k_≠(u212000:Value).ownBlock) (Kd.R_types (Kd.R_apart' (HO_234001.out) (Kd.S_typed HO_212000.out) (by decide)) BK224.out (by decide)) (fun k_ hk=>⟨⟨hk.1.1,hk.2⟩,hk.1.2⟩))) (fun _ h_=>h_)))
                 (case aB=>exact (by repeat (first|(with_reducible first|exact HB.out|apply bA_|apply bN_|apply bD_|refine below_set ?_ GE211.out|refine below_set ?_ GE212.out|refine below_set ?_ GE224.out|refine below_set ?_ GE233.out)|exact HB.out)))
                 (case aF=>exact (fun k_ hk=>⟨Kd.fresh' (Kd.R_lt (by (with_reducible repeat (first|apply rA_|apply rN_|apply rD_));exact HO_213001.out)) k_ hk,Kd.freshB (g:=gb224) (o:=.cells #[.bool ((rd_T40 ((rd_T33 l0 x5_1).f0) x8_2).f0.f0),.slice A223_1 ((rd_T40 ((rd_T33 l0 x5_1).f0) x8_2).f0.f1).length c223_1,.int .i64 ((rd_T40 ((rd_T33 l0 x5_1).f0) x8_2).f1),.bool ((rd_T40 ((rd_T33 l0 x5_1).f0) x8_2).f2)] 40 (0,0)) (by (with_reducible repeat (first|refine blk_drewN ?_ _|refine blk_drew ?_|refine blk_alloc ?_ _));exact BK224.out) k_ hk⟩))
                 (case aO=>exact (by (with_reducible repeat (first|apply Kd.S_alloc|apply Kd.S_drewN|apply Kd.S_drew));exact Kd.S_mono HO_212000.out (fun k_ hk=>⟨⟨hk.1,hk.2.2⟩,fun e_=>hk.2.1 e_⟩)))
                 (case aS=>exact (below_size (by repeat (first|(with_reducible first|exact HB.out|apply bA_|apply bN_|apply bD_|refine below_set ?_ GE211.out|refine below_set ?_ GE212.out|refine below_set ?_ GE224.out|refine below_set ?_ GE233.out)|exact HB.out))))
                 (case aL=>have:=LMc53.out;omega)
                 intro v247 w55 ho hb hg hat
                 rw [← Ny246.out] at ho
                 have n0_:=Aside0.mk (Kd.R_after (ok:=(fun k_=>some k_≠(u213001:Value).ownBlock∧some k_≠(.slice Ao34 t230.length co34:Value).ownBlock∧k_≠gb211∧k_≠gb224)) (by (with_reducible repeat (first|apply rA_|apply rN_|apply rD_));exact Kd.R_mono HO_4.out (fun _ hk=>⟨⟨hk.2.1,⟨hk.2.2.1,⟨hk.2.2.2.1,hk.2.2.2.2⟩⟩⟩,hk.1⟩)) hg hat)
                 have n1_:=Aside0.mk (Kd.R_over' (by (with_reducible repeat (first|apply rA_|apply rN_|apply rD_));exact HO_213001.out) (Kd.S_typed (by (with_reducible repeat (first|apply Kd.S_alloc|apply Kd.S_drewN|apply Kd.S_drew));exact HO_212000.out)) (by decide) hg)
                 have n2_:=Aside0.mk (blk_grown (g:=gb211) (o:=.cells #[u212000,.bool false,.bool false] 33 (0,0)) (by (with_reducible repeat (first|refine blk_drewN ?_ _|refine blk_drew ?_|refine blk_alloc ?_ _));exact BK211.out) hg (Kd.S_ne HO_212000.out BK211.out (by decide)))
                 have n3_:=Aside0.mk (blk_grown (g:=gb212) (o:=.cells #[.bool x213000_19,u213001] 38 (0,0)) (by (with_reducible repeat (first|refine blk_drewN ?_ _|refine blk_drew ?_|refine blk_alloc ?_ _));exact BK212.out) hg (Kd.S_ne HO_212000.out BK212.out (by decide)))
                 have n4_:=Aside0.mk (blk_grown (g:=gb224) (o:=.cells #[.bool ((rd_T40 ((rd_T33 l0 x5_1).f0) x8_2).f0.f0),.slice A223_1 ((rd_T40 ((rd_T33 l0 x5_1).f0) x8_2).f0.f1).length c223_1,.int .i64 ((rd_T40 ((rd_T33 l0 x5_1).f0) x8_2).f1),.bool ((rd_T40 ((rd_T33 l0 x5_1).f0) x8_2).f2)] 40 (0,0)) (by (with_reducible repeat (first|refine blk_drewN ?_ _|refine blk_drew ?_|refine blk_alloc ?_ _));exact BK224.out) hg (Kd.S_away HO_212000.out (fun _ hk=>hk.2.2)))
                 have n5_:=Aside0.mk (blk_grown (g:=gb233) (o:=.cells #[.bool t229,.slice Ao34 t230.length co34] 38 (0,0)) (by (with_reducible repeat (first|refine blk_drewN ?_ _|refine blk_drew ?_|refine blk_alloc ?_ _));exact BK233.out) hg (Kd.S_ne HO_212000.out BK233.out (by decide)))
                 have n6_:=Aside0.mk (hb)
                 have n7_:=Aside0.mk (ho)
                 clear HO_4
                 clear HO_213001
                 clear BK211
                 clear BK212
                 clear BK224
                 clear BK233
                 clear HB
                 clear HO_212000
                 clear HO_234001
                 have HO_4:=n0_
                 have HO_213001:=n1_
                 have BK211:=n2_
                 have BK212:=n3_
                 have BK224:=n4_
                 have BK233:=n5_
                 have HB:=n6_
                 have HO248:=n7_
                 clear n0_ n1_ n2_ n3_ n4_ n5_ n6_ n7_
                 clear ho hb hg hat
                 obtain ⟨Ao56,co56,eo56⟩:=Kd.S_slice HO248.out
                 (first|subst eo56|(injection eo56 with f1_ f2_ f3_;have f4_:=f1_.symm;have f5_:=f3_.symm;clear f1_ f2_ f3_;subst f4_;subst f5_))
                 refine hK.out _ _ ⟨(blk_cell BK211.out 0).trans rfl,(blk_cell BK211.out 1).trans rfl,(blk_cell BK211.out 2).trans rfl,(blk_cell BK233.out 0).trans rfl,(blk_cell BK233.out 1).trans rfl,(blk_cell BK224.out 0).trans rfl,(blk_cell BK224.out 1).trans rfl,(blk_cell BK224.out 2).trans rfl,(blk_cell BK224.out 3).trans rfl⟩ (fun hHeld=>?_)
                 clear hK K
                 refine norm_ (a':=?_) ?_ ?_
                 rotate_left
                 ·show Act.put _ (some 74) _=_
                  simp only [Act.put,List.setIfInBounds_toArray,List.set_cons_zero,List.set_cons_succ,i64_w,i32_w]
                  rfl
                 refine pure_ (i:=17) (N:=some 75) (v:=?_) (a':=?_) #[true,true,true,true,true,true,true,true,true,true,true,true,true,true,true,true,true,true,false] rfl rfl (any_of HT_.out (by kernel_rfl)) (fun _ _ _ h=>h) (Or.inl ⟨by rfl,?_⟩) ?_ ?_
                 rotate_left
                 ·intro w'
                  go_simp
                  with_reducible rfl
                 rotate_left
                 ·simp only [Act.put,List.setIfInBounds_toArray,List.set_cons_zero,List.set_cons_succ,i64_w,i32_w]
                  rfl
                 refine last_ (i:=18) (N:=none) #[true,true,true,true,true,true,true,true,true,true,true,true,true,true,true,true,true,true,true] rfl rfl (one_of HT_.out (by kernel_rfl)) (by decide) (fun K hK=>?_)
                 have hs57:w55.cell? ⟨gb211,0,none⟩=some (u212000):=(blk_cell BK211.out 0).trans rfl
                 have hfs57:=blk_frozen BK211.out 0
                 have hns57_1:=NB212_211.out
                 have hns57_2:=NB224_211.out
                 have hns57_3:=NB233_211.out
                 have hms57_1:=NB211_212.out
                 have hms57_2:=NB211_224.out
                 have hms57_3:=NB211_233.out
                 refine skip_ (w1:=?_) (by rfl) rfl ?_ ?_
                 rotate_left
                 ·go_simp
                  rfl
                 refine hK.out _ _ ?_
                 clear hK K
                 refine done_ (done_of HT_.out (by kernel_rfl)) ?_
                 try go_wp2
                 go_roundg kj19
                 case measure=>have:=HK1.out;have:=HK2.out;have:=HJ8.out;have:=HJ19.out;omega
                 case rel=>exact ⟨(wrap64 (x8_2+1)),(y246),(x213000_19),(x213001_19),(.slice Ao56 y246.length co56),(u213001),(by first|rfl|(simp;done)|(simp [*];done)),H',⟨by have:=HK1.out;have:=HK2.out;have:=HJ8.out;have:=HJ19.out;omega⟩,⟨by (with_reducible repeat (first|apply rA_|apply rN_|apply rD_));exact Kd.R_mono (Kd.R_far (p:=⟨gb211,0,none⟩) (Kd.R_mono HO_4.out (fun k_ hk=>(⟨hk,hk.1.2.2.1⟩:_∧k_≠gb211))) (fun _ hk=>hk.2) (.slice Ao56 y246.length co56)) (fun _ hk=>⟨hk.1.2,⟨hk.1.1.1,hk.1.1.2.2.1⟩⟩)⟩,⟨by (with_reducible repeat (first|apply Kd.S_alloc|apply Kd.S_drewN|apply Kd.S_drew));exact Kd.S_mono (Kd.S_far (p:=⟨gb211,0,none⟩) (Kd.S_types HO248.out BK211.out (by decide)) (fun _ hk=>hk.2) (.slice Ao56 y246.length co56)) (fun _ hk=>hk.1.1)⟩,⟨by (with_reducible repeat (first|apply rA_|apply rN_|apply rD_));exact Kd.R_mono (Kd.R_far (p:=⟨gb211,0,none⟩) (Kd.R_types HO_213001.out BK211.out (by decide)) (fun _ hk=>hk.2) (.slice Ao56 y246.length co56)) (fun _ hk=>trivial)⟩,⟨by (with_reducible repeat (first|refine blk_drewN ?_ _|refine blk_drew ?_|refine blk_alloc ?_ _));refine blk_put (cs:=#[u212000,.bool false,.bool false]) ?_ 0 _ rfl;(with_reducible repeat (first|refine blk_drewN ?_ _|refine blk_drew ?_|refine blk_alloc ?_ _));exact BK211.out⟩,⟨by (with_reducible repeat (first|refine blk_drewN ?_ _|refine blk_drew ?_|refine blk_alloc ?_ _));refine blk_far ?_ NB212_211.out _;(with_reducible repeat (first|refine blk_drewN ?_ _|refine blk_drew ?_|refine blk_alloc ?_ _));exact BK212.out⟩,⟨by repeat (first|(with_reducible first|exact HB.out|apply bA_|apply bN_|apply bD_|refine below_set ?_ GE211.out|refine below_set ?_ GE212.out|refine below_set ?_ GE224.out|refine below_set ?_ GE233.out)|exact HB.out)⟩⟩
                ·rw [if_neg c53] at H
                 exact absurd H (by simp)
            ·rw [if_neg c17] at H
             exact absurd H (by simp)
           ·rw [if_neg c16] at H
            exact absurd H (by simp)
          ·rw [if_neg c15] at H
           exact absurd H (by simp)
         ·rw [if_neg c14] at H
          exact absurd H (by simp)
        ·replace c13:=Bool.eq_false_iff.mpr c13
         subst c13
         have H1:(if x5_1 < (l0.length:Int) then (if 0≤x5_1 then (if x4_1.length < 4398046511104 then (cadencelaw4_Make.l0 kj8 l0 ji3 (x4_1 ++ [(⟨x212000_2,(rd_T33 l0 x5_1).f1,(rd_T33 l0 x5_1).f2⟩:S33)]) (wrap64 (x5_1+1))) else (none)) else (none)) else (if x4_1.length < 4398046511104 then (cadencelaw4_Make.l0 kj8 l0 ji3 (x4_1 ++ [(⟨x212000_2,false,false⟩:S33)]) (wrap64 (x5_1+1))) else (none)))=some r:=by rw [if_neg (show ¬ (false=true) by decide)] at H;exact H
         clear H
         have H:=H1
         clear H1
         by_cases c58:x5_1 < (l0.length:Int)
         ·rw [if_pos c58] at H
          have c58b0:decide (x5_1 < (l0.length:Int))=true:=decide_eq_true c58
          clear c58
          by_cases c59:0≤x5_1
          ·rw [if_pos c59] at H
           have c59b0:decide (0≤x5_1)=true:=decide_eq_true c59
           clear c59
           by_cases c60:x4_1.length < 4398046511104
           ·rw [if_pos c60] at H
            have LMc60:=Aside0.mk c60
            clear c60
            obtain ⟨y216,hy216⟩:∃ y_:List (S33),y_=(x4_1 ++ [(⟨x212000_2,(rd_T33 l0 x5_1).f1,(rd_T33 l0 x5_1).f2⟩:S33)]):=⟨_,rfl⟩
            replace H:(cadencelaw4_Make.l0 kj8 l0 ji3 y216 (wrap64 (x5_1+1)))=some r:=by first|(rw [hy216];with_reducible exact H)|(have H2_:=(Option.bind_some _ _).symm.trans H;rw [hy216];with_reducible exact H2_)|(have H2_:=(Option.bind_some _ _).symm.trans H;with_reducible exact H2_)|with_reducible exact H|(rw [hy216];exact H)|exact H
            have Ny216:=Aside0.mk hy216
            clear hy216
            have H':=Aside0.mk H
            clear H
            try go_wp2
            have n0_:=Aside0.mk (rD_ HO_4.out)
            have n1_:=Aside0.mk (Kd.S_drew HO_212000.out)
            have n2_:=Aside0.mk (rD_ HO_213001.out)
            have n3_:=Aside0.mk (blk_drew BK211.out)
            have n4_:=Aside0.mk (blk_drew BK212.out)
            have n5_:=Aside0.mk (bD_ HB.out)
            clear HO_4
            clear HO_212000
            clear HO_213001
            clear BK211
            clear BK212
            clear HB
            have HO_4:=n0_
            have HO_212000:=n1_
            have HO_213001:=n2_
            have BK211:=n3_
            have BK212:=n4_
            have HB:=n5_
            clear n0_ n1_ n2_ n3_ n4_ n5_
            have p214:0≤(x5_1:Int):=of_decide_eq_true (by first|(with_reducible assumption)|assumption)
            have q214:x5_1 < (l0.length:Int):=of_decide_eq_true (by first|(with_reducible assumption)|assumption)
            obtain ⟨ad214,A214_0,c214_0,e214,hx214_0,hx214_1,hx214_2,hl214_0,hi214_0⟩:=at_T33 HR0.out x5_1 p214 q214
            have hw214_2:=hx214_2
            have hw214_1:=hx214_1
            have hw214_0:=hx214_0
            cases e214
            replace hx214_0:=(HB.out.cell (World.block_lt_of_cell? w _ hx214_0)).trans hx214_0
            replace hx214_1:=(HB.out.cell (World.block_lt_of_cell? w _ hx214_1)).trans hx214_1
            replace hx214_2:=(HB.out.cell (World.block_lt_of_cell? w _ hx214_2)).trans hx214_2
            have HR214_0:=Aside0.mk hi214_0
            have HC214_0:=Aside0.mk hl214_0
            clear hi214_0 hl214_0
            replace p214:=eq_true p214
            replace q214:=eq_true q214
            have p215:0≤(x5_1:Int):=of_decide_eq_true (by first|(with_reducible assumption)|assumption)
            have q215:x5_1 < (l0.length:Int):=of_decide_eq_true (by first|(with_reducible assumption)|assumption)
            obtain ⟨ad215,A215_0,c215_0,e215,hx215_0,hx215_1,hx215_2,hl215_0,hi215_0⟩:=at_T33 HR0.out x5_1 p215 q215
            have hw215_2:=hx215_2
            have hw215_1:=hx215_1
            have hw215_0:=hx215_0
            obtain rfl:ad214=ad215:=(by injection e215)
            replace hx215_0:=(HB.out.cell (World.block_lt_of_cell? w _ hx215_0)).trans hx215_0
            replace hx215_1:=(HB.out.cell (World.block_lt_of_cell? w _ hx215_1)).trans hx215_1
            replace hx215_2:=(HB.out.cell (World.block_lt_of_cell? w _ hx215_2)).trans hx215_2
            have HR215_0:=Aside0.mk hi215_0
            have HC215_0:=Aside0.mk hl215_0
            clear hi215_0 hl215_0
            replace p215:=eq_true p215
            replace q215:=eq_true q215
            have ea_:=Option.some.inj (hx214_0.symm.trans hx215_0)
            injection ea_ with ea_ en_ ec_
            subst ea_
            subst ec_
            clear en_
            refine start_ (n:=14) (S:=fun w'=>w'.cell? (ad214.add ((x5_1).toNat * 3))=some (.slice A214_0 ((rd_T33 l0 x5_1).f0).length c214_0)∧w'.cell? ⟨(ad214.add ((x5_1).toNat * 3)).block,(ad214.add ((x5_1).toNat * 3)).off+1,none⟩=some (.bool ((rd_T33 l0 x5_1).f1))∧w'.cell? ⟨(ad214.add ((x5_1).toNat * 3)).block,(ad214.add ((x5_1).toNat * 3)).off+2,none⟩=some (.bool ((rd_T33 l0 x5_1).f2))∧w'.cell? (ad214.add ((x5_1).toNat * 3))=some (.slice A214_0 ((rd_T33 l0 x5_1).f0).length c214_0)∧w'.cell? ⟨(ad214.add ((x5_1).toNat * 3)).block,(ad214.add ((x5_1).toNat * 3)).off+1,none⟩=some (.bool ((rd_T33 l0 x5_1).f1))∧w'.cell? ⟨(ad214.add ((x5_1).toNat * 3)).block,(ad214.add ((x5_1).toNat * 3)).off+2,none⟩=some (.bool ((rd_T33 l0 x5_1).f2))) (ds:=[]) #[false,false,false,false,false,false,false,false,false,false,false,false,false,false] (by kernel_rfl) rfl rfl ⟨((HB.out.cell (World.block_lt_of_cell? w _ hw214_0)).trans hw214_0),((HB.out.cell (World.block_lt_of_cell? w _ hw214_1)).trans hw214_1),((HB.out.cell (World.block_lt_of_cell? w _ hw214_2)).trans hw214_2),((HB.out.cell (World.block_lt_of_cell? w _ hw215_0)).trans hw215_0),((HB.out.cell (World.block_lt_of_cell? w _ hw215_1)).trans hw215_1),((HB.out.cell (World.block_lt_of_cell? w _ hw215_2)).trans hw215_2)⟩ (fun hHeld=>?_);refine with_tabW cadencelaw4_Make.tab17 cadencelaw4_Make.bits17 (fun HT_ HW_=>?_)
            generalize wc.drew=w61 at HO_4 HO_212000 HO_213001 BK211 BK212 HB HR214_0 HR215_0 hx214_0 hx214_1 hx214_2 hx215_0 hx215_1 hx215_2 hHeld ⊢
            refine pure_ (i:=0) (N:=some 80) (v:=?_) (a':=?_) #[true,false,false,false,false,false,false,false,false,false,false,false,false,false] rfl rfl (any_of HT_.out (by kernel_rfl)) (fun _ _ _ h=>h) (Or.inl ⟨by rfl,?_⟩) ?_ ?_
            rotate_left
            ·intro w'
             go_simp
             with_reducible rfl
            rotate_left
            ·simp only [Act.put,List.setIfInBounds_toArray,List.set_cons_zero,List.set_cons_succ,i64_w,i32_w]
             rfl
            refine pure_ (i:=1) (N:=some 81) (v:=?_) (a':=?_) #[true,true,false,false,false,false,false,false,false,false,false,false,false,false] rfl rfl (any_of HT_.out (by kernel_rfl)) (fun _ _ _ h=>h) (Or.inl ⟨by rfl,?_⟩) ?_ ?_
            rotate_left
            ·intro w'
             go_simp
             with_reducible rfl
            rotate_left
            ·simp only [Act.put,List.setIfInBounds_toArray,List.set_cons_zero,List.set_cons_succ,i64_w,i32_w]
             rfl
            refine pure_ (i:=2) (N:=some 82) (v:=?_) (a':=?_) #[true,true,true,false,false,false,false,false,false,false,false,false,false,false] rfl rfl (any_of HT_.out (by kernel_rfl)) (fun _ _ _ h=>h) (Or.inl ⟨by rfl,?_⟩) ?_ ?_
            rotate_left
            ·intro w'
             go_simp
             with_reducible rfl
            rotate_left
            ·simp only [Act.put,List.setIfInBounds_toArray,List.set_cons_zero,List.set_cons_succ,i64_w,i32_w]
             rfl
            refine pure_ (i:=3) (N:=some 83) (v:=?_) (a':=?_) #[true,true,true,true,false,false,false,false,false,false,false,false,false,false] rfl rfl (any_of HT_.out (by kernel_rfl)) (fun _ _ _ h=>h) (Or.inl ⟨by rfl,?_⟩) ?_ ?_
            rotate_left
            ·intro w'
             go_simp
             with_reducible rfl
            rotate_left
            ·simp only [Act.put,List.setIfInBounds_toArray,List.set_cons_zero,List.set_cons_succ,i64_w,i32_w]
             rfl
            refine pure_ (i:=5) (N:=some 85) (v:=?_) (a':=?_) #[true,true,true,true,false,true,false,false,false,false,false,false,false,false] rfl rfl (any_of HT_.out (by kernel_rfl)) (fun _ _ _ h=>h) (Or.inl ⟨by rfl,?_⟩) ?_ ?_
            rotate_left
            ·intro w'
             go_simp
             with_reducible rfl
            rotate_left
            ·simp only [Act.put,List.setIfInBounds_toArray,List.set_cons_zero,List.set_cons_succ,i64_w,i32_w]
             rfl
            refine pure_ (i:=6) (N:=some 86) (v:=?_) (a':=?_) #[true,true,true,true,false,true,true,false,false,false,false,false,false,false] rfl rfl (any_of HT_.out (by kernel_rfl)) (fun _ _ _ h=>h) (Or.inl ⟨by rfl,?_⟩) ?_ ?_
            rotate_left
            ·intro w'
             go_simp
             with_reducible rfl
            rotate_left
            ·simp only [Act.put,List.setIfInBounds_toArray,List.set_cons_zero,List.set_cons_succ,i64_w,i32_w]
             rfl
            refine pure_ (i:=7) (N:=some 87) (v:=?_) (a':=?_) #[true,true,true,true,false,true,true,true,false,false,false,false,false,false] rfl rfl (any_of HT_.out (by kernel_rfl)) (fun _ _ _ h=>h) (Or.inl ⟨by rfl,?_⟩) ?_ ?_
            rotate_left
            ·intro w'
             go_simp
             with_reducible rfl
            rotate_left
            ·simp only [Act.put,List.setIfInBounds_toArray,List.set_cons_zero,List.set_cons_succ,i64_w,i32_w]
             rfl
            refine pure_ (i:=8) (N:=some 88) (v:=?_) (a':=?_) #[true,true,true,true,false,true,true,true,true,false,false,false,false,false] rfl rfl (any_of HT_.out (by kernel_rfl)) (fun _ _ _ h=>h) (Or.inl ⟨by rfl,?_⟩) ?_ ?_
            rotate_left
            ·intro w'
             go_simp
             with_reducible rfl
            rotate_left
            ·simp only [Act.put,List.setIfInBounds_toArray,List.set_cons_zero,List.set_cons_succ,i64_w,i32_w]
             rfl
            refine take_ (i:=4) (N:=some 84) (v:=?_) (a':=?_) #[true,true,true,true,true,true,true,true,true,false,false,false,false,false] rfl rfl (take_ofW HT_.out HW_.out (by kernel_rfl)) (fun _ _ _ h=>h) (Or.inl ⟨by rfl,?_⟩) hHeld ?_ ?_
            rotate_left
            ·rintro w' ⟨s0,s1,s2,s3,s4,s5⟩
             go_simp
             with_reducible rfl
            rotate_left
            ·simp only [Act.put,List.setIfInBounds_toArray,List.set_cons_zero,List.set_cons_succ,i64_w,i32_w]
             rfl
            refine pure_ (i:=10) (N:=some 90) (v:=?_) (a':=?_) #[true,true,true,true,true,true,true,true,true,false,true,false,false,false] rfl rfl (any_of HT_.out (by kernel_rfl)) (fun _ _ _ h=>h) (Or.inl ⟨by rfl,?_⟩) ?_ ?_
            rotate_left
            ·intro w'
             go_simp
             with_reducible rfl
            rotate_left
            ·simp only [Act.put,List.setIfInBounds_toArray,List.set_cons_zero,List.set_cons_succ,i64_w,i32_w]
             rfl
            refine take_ (i:=9) (N:=some 89) (v:=?_) (a':=?_) #[true,true,true,true,true,true,true,true,true,true,true,false,false,false] rfl rfl (take_ofW HT_.out HW_.out (by kernel_rfl)) (fun _ _ _ h=>h) (Or.inl ⟨by rfl,?_⟩) hHeld ?_ ?_
            rotate_left
            ·rintro w' ⟨s0,s1,s2,s3,s4,s5⟩
             go_simp
             with_reducible rfl
            rotate_left
            ·simp only [Act.put,List.setIfInBounds_toArray,List.set_cons_zero,List.set_cons_succ,i64_w,i32_w]
             rfl
            refine one_ (i:=11) (N:=none) #[true,true,true,true,true,true,true,true,true,true,true,true,false,false] rfl rfl (one_of HT_.out (by kernel_rfl)) (by decide) (fun K hK=>?_)
            have hs62:w61.cell? ⟨gb211,1,none⟩=some (.bool false):=(blk_cell BK211.out 1).trans rfl
            have hfs62:=blk_frozen BK211.out 1
            have hns62_1:=NB212_211.out
            have hms62_1:=NB211_212.out
            refine skip_ (w1:=?_) (by rfl) rfl ?_ ?_
            rotate_left
            ·go_simp
             rfl
            refine hK.out _ _ ⟨((cell_far (p:=⟨gb211,_,none⟩) (by first|exact Nat.ne_of_lt (Nat.lt_of_lt_of_le (by have:=World.block_lt_of_cell? _ _ hw214_0;first|rwa [add_block] at this|exact this) GW211.out)|(rw [add_block];exact Nat.ne_of_lt (Nat.lt_of_lt_of_le (by have:=World.block_lt_of_cell? _ _ hw214_0;first|rwa [add_block] at this|exact this) GW211.out))|(show (Addr.add _ _).block≠_;rw [add_block];exact Nat.ne_of_lt (Nat.lt_of_lt_of_le (by have:=World.block_lt_of_cell? _ _ hw214_0;first|rwa [add_block] at this|exact this) GW211.out))|(dsimp only;exact Nat.ne_of_lt (Nat.lt_of_lt_of_le (by have:=World.block_lt_of_cell? _ _ hw214_0;first|rwa [add_block] at this|exact this) GW211.out))) _).trans (hHeld.1)),((cell_far (p:=⟨gb211,_,none⟩) (by first|exact Nat.ne_of_lt (Nat.lt_of_lt_of_le (by have:=World.block_lt_of_cell? _ _ hw214_1;first|rwa [add_block] at this|exact this) GW211.out)|(rw [add_block];exact Nat.ne_of_lt (Nat.lt_of_lt_of_le (by have:=World.block_lt_of_cell? _ _ hw214_1;first|rwa [add_block] at this|exact this) GW211.out))|(show (Addr.add _ _).block≠_;rw [add_block];exact Nat.ne_of_lt (Nat.lt_of_lt_of_le (by have:=World.block_lt_of_cell? _ _ hw214_1;first|rwa [add_block] at this|exact this) GW211.out))|(dsimp only;exact Nat.ne_of_lt (Nat.lt_of_lt_of_le (by have:=World.block_lt_of_cell? _ _ hw214_1;first|rwa [add_block] at this|exact this) GW211.out))) _).trans (hHeld.2.1)),((cell_far (p:=⟨gb211,_,none⟩) (by first|exact Nat.ne_of_lt (Nat.lt_of_lt_of_le (by have:=World.block_lt_of_cell? _ _ hw214_2;first|rwa [add_block] at this|exact this) GW211.out)|(rw [add_block];exact Nat.ne_of_lt (Nat.lt_of_lt_of_le (by have:=World.block_lt_of_cell? _ _ hw214_2;first|rwa [add_block] at this|exact this) GW211.out))|(show (Addr.add _ _).block≠_;rw [add_block];exact Nat.ne_of_lt (Nat.lt_of_lt_of_le (by have:=World.block_lt_of_cell? _ _ hw214_2;first|rwa [add_block] at this|exact this) GW211.out))|(dsimp only;exact Nat.ne_of_lt (Nat.lt_of_lt_of_le (by have:=World.block_lt_of_cell? _ _ hw214_2;first|rwa [add_block] at this|exact this) GW211.out))) _).trans (hHeld.2.2.1)),((cell_far (p:=⟨gb211,_,none⟩) (by first|exact Nat.ne_of_lt (Nat.lt_of_lt_of_le (by have:=World.block_lt_of_cell? _ _ hw215_0;first|rwa [add_block] at this|exact this) GW211.out)|(rw [add_block];exact Nat.ne_of_lt (Nat.lt_of_lt_of_le (by have:=World.block_lt_of_cell? _ _ hw215_0;first|rwa [add_block] at this|exact this) GW211.out))|(show (Addr.add _ _).block≠_;rw [add_block];exact Nat.ne_of_lt (Nat.lt_of_lt_of_le (by have:=World.block_lt_of_cell? _ _ hw215_0;first|rwa [add_block] at this|exact this) GW211.out))|(dsimp only;exact Nat.ne_of_lt (Nat.lt_of_lt_of_le (by have:=World.block_lt_of_cell? _ _ hw215_0;first|rwa [add_block] at this|exact this) GW211.out))) _).trans (hHeld.2.2.2.1)),((cell_far (p:=⟨gb211,_,none⟩) (by first|exact Nat.ne_of_lt (Nat.lt_of_lt_of_le (by have:=World.block_lt_of_cell? _ _ hw215_1;first|rwa [add_block] at this|exact this) GW211.out)|(rw [add_block];exact Nat.ne_of_lt (Nat.lt_of_lt_of_le (by have:=World.block_lt_of_cell? _ _ hw215_1;first|rwa [add_block] at this|exact this) GW211.out))|(show (Addr.add _ _).block≠_;rw [add_block];exact Nat.ne_of_lt (Nat.lt_of_lt_of_le (by have:=World.block_lt_of_cell? _ _ hw215_1;first|rwa [add_block] at this|exact this) GW211.out))|(dsimp only;exact Nat.ne_of_lt (Nat.lt_of_lt_of_le (by have:=World.block_lt_of_cell? _ _ hw215_1;first|rwa [add_block] at this|exact this) GW211.out))) _).trans (hHeld.2.2.2.2.1)),((cell_far (p:=⟨gb211,_,none⟩) (by first|exact Nat.ne_of_lt (Nat.lt_of_lt_of_le (by have:=World.block_lt_of_cell? _ _ hw215_2;first|rwa [add_block] at this|exact this) GW211.out)|(rw [add_block];exact Nat.ne_of_lt (Nat.lt_of_lt_of_le (by have:=World.block_lt_of_cell? _ _ hw215_2;first|rwa [add_block] at this|exact this) GW211.out))|(show (Addr.add _ _).block≠_;rw [add_block];exact Nat.ne_of_lt (Nat.lt_of_lt_of_le (by have:=World.block_lt_of_cell? _ _ hw215_2;first|rwa [add_block] at this|exact this) GW211.out))|(dsimp only;exact Nat.ne_of_lt (Nat.lt_of_lt_of_le (by have:=World.block_lt_of_cell? _ _ hw215_2;first|rwa [add_block] at this|exact this) GW211.out))) _).trans (hHeld.2.2.2.2.2))⟩ (fun hHeld=>?_)
            clear hK K
            refine pure_ (i:=12) (N:=some 91) (v:=?_) (a':=?_) #[true,true,true,true,true,true,true,true,true,true,true,true,true,false] rfl rfl (any_of HT_.out (by kernel_rfl)) (fun _ _ _ h=>h) (Or.inl ⟨by rfl,?_⟩) ?_ ?_
            rotate_left
            ·intro w'
             go_simp
             with_reducible rfl
            rotate_left
            ·simp only [Act.put,List.setIfInBounds_toArray,List.set_cons_zero,List.set_cons_succ,i64_w,i32_w]
             rfl
            refine one_ (i:=13) (N:=none) #[true,true,true,true,true,true,true,true,true,true,true,true,true,true] rfl rfl (one_of HT_.out (by kernel_rfl)) (by decide) (fun K hK=>?_)
            have hs63:w61.cell? ⟨gb211,2,none⟩=some (.bool false):=(blk_cell BK211.out 2).trans rfl
            have hfs63:=blk_frozen BK211.out 2
            have hns63_1:=NB212_211.out
            have hms63_1:=NB211_212.out
            refine skip_ (w1:=?_) (by rfl) rfl ?_ ?_
            rotate_left
            ·go_simp
             rfl
            refine hK.out _ _ ⟨((cell_far (p:=⟨gb211,_,none⟩) (by first|exact Nat.ne_of_lt (Nat.lt_of_lt_of_le (by have:=World.block_lt_of_cell? _ _ hw214_0;first|rwa [add_block] at this|exact this) GW211.out)|(rw [add_block];exact Nat.ne_of_lt (Nat.lt_of_lt_of_le (by have:=World.block_lt_of_cell? _ _ hw214_0;first|rwa [add_block] at this|exact this) GW211.out))|(show (Addr.add _ _).block≠_;rw [add_block];exact Nat.ne_of_lt (Nat.lt_of_lt_of_le (by have:=World.block_lt_of_cell? _ _ hw214_0;first|rwa [add_block] at this|exact this) GW211.out))|(dsimp only;exact Nat.ne_of_lt (Nat.lt_of_lt_of_le (by have:=World.block_lt_of_cell? _ _ hw214_0;first|rwa [add_block] at this|exact this) GW211.out))) _).trans (hHeld.1)),((cell_far (p:=⟨gb211,_,none⟩) (by first|exact Nat.ne_of_lt (Nat.lt_of_lt_of_le (by have:=World.block_lt_of_cell? _ _ hw214_1;first|rwa [add_block] at this|exact this) GW211.out)|(rw [add_block];exact Nat.ne_of_lt (Nat.lt_of_lt_of_le (by have:=World.block_lt_of_cell? _ _ hw214_1;first|rwa [add_block] at this|exact this) GW211.out))|(show (Addr.add _ _).block≠_;rw [add_block];exact Nat.ne_of_lt (Nat.lt_of_lt_of_le (by have:=World.block_lt_of_cell? _ _ hw214_1;first|rwa [add_block] at this|exact this) GW211.out))|(dsimp only;exact Nat.ne_of_lt (Nat.lt_of_lt_of_le (by have:=World.block_lt_of_cell? _ _ hw214_1;first|rwa [add_block] at this|exact this) GW211.out))) _).trans (hHeld.2.1)),((cell_far (p:=⟨gb211,_,none⟩) (by first|exact Nat.ne_of_lt (Nat.lt_of_lt_of_le (by have:=World.block_lt_of_cell? _ _ hw214_2;first|rwa [add_block] at this|exact this) GW211.out)|(rw [add_block];exact Nat.ne_of_lt (Nat.lt_of_lt_of_le (by have:=World.block_lt_of_cell? _ _ hw214_2;first|rwa [add_block] at this|exact this) GW211.out))|(show (Addr.add _ _).block≠_;rw [add_block];exact Nat.ne_of_lt (Nat.lt_of_lt_of_le (by have:=World.block_lt_of_cell? _ _ hw214_2;first|rwa [add_block] at this|exact this) GW211.out))|(dsimp only;exact Nat.ne_of_lt (Nat.lt_of_lt_of_le (by have:=World.block_lt_of_cell? _ _ hw214_2;first|rwa [add_block] at this|exact this) GW211.out))) _).trans (hHeld.2.2.1)),((cell_far (p:=⟨gb211,_,none⟩) (by first|exact Nat.ne_of_lt (Nat.lt_of_lt_of_le (by have:=World.block_lt_of_cell? _ _ hw215_0;first|rwa [add_block] at this|exact this) GW211.out)|(rw [add_block];exact Nat.ne_of_lt (Nat.lt_of_lt_of_le (by have:=World.block_lt_of_cell? _ _ hw215_0;first|rwa [add_block] at this|exact this) GW211.out))|(show (Addr.add _ _).block≠_;rw [add_block];exact Nat.ne_of_lt (Nat.lt_of_lt_of_le (by have:=World.block_lt_of_cell? _ _ hw215_0;first|rwa [add_block] at this|exact this) GW211.out))|(dsimp only;exact Nat.ne_of_lt (Nat.lt_of_lt_of_le (by have:=World.block_lt_of_cell? _ _ hw215_0;first|rwa [add_block] at this|exact this) GW211.out))) _).trans (hHeld.2.2.2.1)),((cell_far (p:=⟨gb211,_,none⟩) (by first|exact Nat.ne_of_lt (Nat.lt_of_lt_of_le (by have:=World.block_lt_of_cell? _ _ hw215_1;first|rwa [add_block] at this|exact this) GW211.out)|(rw [add_block];exact Nat.ne_of_lt (Nat.lt_of_lt_of_le (by have:=World.block_lt_of_cell? _ _ hw215_1;first|rwa [add_block] at this|exact this) GW211.out))|(show (Addr.add _ _).block≠_;rw [add_block];exact Nat.ne_of_lt (Nat.lt_of_lt_of_le (by have:=World.block_lt_of_cell? _ _ hw215_1;first|rwa [add_block] at this|exact this) GW211.out))|(dsimp only;exact Nat.ne_of_lt (Nat.lt_of_lt_of_le (by have:=World.block_lt_of_cell? _ _ hw215_1;first|rwa [add_block] at this|exact this) GW211.out))) _).trans (hHeld.2.2.2.2.1)),((cell_far (p:=⟨gb211,_,none⟩) (by first|exact Nat.ne_of_lt (Nat.lt_of_lt_of_le (by have:=World.block_lt_of_cell? _ _ hw215_2;first|rwa [add_block] at this|exact this) GW211.out)|(rw [add_block];exact Nat.ne_of_lt (Nat.lt_of_lt_of_le (by have:=World.block_lt_of_cell? _ _ hw215_2;first|rwa [add_block] at this|exact this) GW211.out))|(show (Addr.add _ _).block≠_;rw [add_block];exact Nat.ne_of_lt (Nat.lt_of_lt_of_le (by have:=World.block_lt_of_cell? _ _ hw215_2;first|rwa [add_block] at this|exact this) GW211.out))|(dsimp only;exact Nat.ne_of_lt (Nat.lt_of_lt_of_le (by have:=World.block_lt_of_cell? _ _ hw215_2;first|rwa [add_block] at this|exact this) GW211.out))) _).trans (hHeld.2.2.2.2.2))⟩ (fun hHeld=>?_)
            clear hK K
            refine done_ (done_of HT_.out (by kernel_rfl)) ?_
            have n0_:Aside0 (Kd.R k33 33 ((w61.setCell ⟨gb211,1,none⟩ (.bool ((rd_T33 l0 x5_1).f1))).setCell ⟨gb211,2,none⟩ (.bool ((rd_T33 l0 x5_1).f2))) w.heap.size (fun k_=>some k_≠(u212000:Value).ownBlock∧some k_≠(u213001:Value).ownBlock∧k_≠gb211) u4 x4_1):=⟨by (with_reducible repeat (first|apply rA_|apply rN_|apply rD_));exact Kd.R_mono (Kd.R_far (p:=⟨gb211,2,none⟩) (Kd.R_far (p:=⟨gb211,1,none⟩) (Kd.R_mono HO_4.out (fun k_ hk=>(⟨hk,hk.2.2⟩:_∧k_≠gb211))) (fun _ hk=>hk.2) (.bool ((rd_T33 l0 x5_1).f1))) (fun _ hk=>hk.2) (.bool ((rd_T33 l0 x5_1).f2))) (fun _ hk=>⟨hk.1.1,⟨hk.1.2.1,hk.1.2.2⟩⟩)⟩
            have n1_:Aside0 (Kd.S k40 40 ((w61.setCell ⟨gb211,1,none⟩ (.bool ((rd_T33 l0 x5_1).f1))).setCell ⟨gb211,2,none⟩ (.bool ((rd_T33 l0 x5_1).f2))) w.heap.size (fun k_=>some k_≠(u213001:Value).ownBlock) u212000 x212000_2):=⟨by (with_reducible repeat (first|apply Kd.S_alloc|apply Kd.S_drewN|apply Kd.S_drew));exact Kd.S_mono (Kd.S_far (p:=⟨gb211,2,none⟩) (Kd.S_far (p:=⟨gb211,1,none⟩) (Kd.S_types HO_212000.out BK211.out (by decide)) (fun _ hk=>hk.2) (.bool ((rd_T33 l0 x5_1).f1))) (fun _ hk=>hk.2) (.bool ((rd_T33 l0 x5_1).f2))) (fun _ hk=>hk.1)⟩
            have n2_:Aside0 (Kd.R Kd.string 9 ((w61.setCell ⟨gb211,1,none⟩ (.bool ((rd_T33 l0 x5_1).f1))).setCell ⟨gb211,2,none⟩ (.bool ((rd_T33 l0 x5_1).f2))) w.heap.size (fun _=>True) u213001 x213001_2):=⟨by (with_reducible repeat (first|apply rA_|apply rN_|apply rD_));exact Kd.R_mono (Kd.R_far (p:=⟨gb211,2,none⟩) (Kd.R_far (p:=⟨gb211,1,none⟩) (Kd.R_types HO_213001.out BK211.out (by decide)) (fun _ hk=>hk.2) (.bool ((rd_T33 l0 x5_1).f1))) (fun _ hk=>hk.2) (.bool ((rd_T33 l0 x5_1).f2))) (fun _ hk=>trivial)⟩
            have n3_:Aside0 (((w61.setCell ⟨gb211,1,none⟩ (.bool ((rd_T33 l0 x5_1).f1))).setCell ⟨gb211,2,none⟩ (.bool ((rd_T33 l0 x5_1).f2))).heap[gb211]? = some (.cells #[u212000,.bool ((rd_T33 l0 x5_1).f1),.bool ((rd_T33 l0 x5_1).f2)] 33 (0,0))):=⟨by (with_reducible repeat (first|refine blk_drewN ?_ _|refine blk_drew ?_|refine blk_alloc ?_ _));refine blk_put (cs:=#[u212000,.bool ((rd_T33 l0 x5_1).f1),.bool false]) ?_ 2 _ rfl;(with_reducible repeat (first|refine blk_drewN ?_ _|refine blk_drew ?_|refine blk_alloc ?_ _));refine blk_put (cs:=#[u212000,.bool false,.bool false]) ?_ 1 _ rfl;(with_reducible repeat (first|refine blk_drewN ?_ _|refine blk_drew ?_|refine blk_alloc ?_ _));exact BK211.out⟩
            have n4_:Aside0 (((w61.setCell ⟨gb211,1,none⟩ (.bool ((rd_T33 l0 x5_1).f1))).setCell ⟨gb211,2,none⟩ (.bool ((rd_T33 l0 x5_1).f2))).heap[gb212]? = some (.cells #[.bool x213000_2,u213001] 38 (0,0))):=⟨by (with_reducible repeat (first|refine blk_drewN ?_ _|refine blk_drew ?_|refine blk_alloc ?_ _));refine blk_far ?_ NB212_211.out _;(with_reducible repeat (first|refine blk_drewN ?_ _|refine blk_drew ?_|refine blk_alloc ?_ _));refine blk_far ?_ NB212_211.out _;(with_reducible repeat (first|refine blk_drewN ?_ _|refine blk_drew ?_|refine blk_alloc ?_ _));exact BK212.out⟩
            have n5_:Aside0 (Below w.heap.size w ((w61.setCell ⟨gb211,1,none⟩ (.bool ((rd_T33 l0 x5_1).f1))).setCell ⟨gb211,2,none⟩ (.bool ((rd_T33 l0 x5_1).f2)))):=⟨by repeat (first|(with_reducible first|exact HB.out|apply bA_|apply bN_|apply bD_|refine below_set ?_ GE211.out|refine below_set ?_ GE212.out)|exact HB.out)⟩
            (try clear HO_4)
            (try clear HO_212000)
            (try clear HO_213001)
            (try clear BK211)
            (try clear BK212)
            (try clear HB)
            generalize ((w61.setCell ⟨gb211,1,none⟩ (.bool ((rd_T33 l0 x5_1).f1))).setCell ⟨gb211,2,none⟩ (.bool ((rd_T33 l0 x5_1).f2)))=w64 at n0_ n1_ n2_ n3_ n4_ n5_ ⊢
            have HO_4:=n0_
            have HO_212000:=n1_
            have HO_213001:=n2_
            have BK211:=n3_
            have BK212:=n4_
            have HB:=n5_
            clear n0_ n1_ n2_ n3_ n4_ n5_
            have hnb65:=NB211_212.out
            have hnc65:=NB212_211.out
            have hcz66_0:w64.cell? ⟨gb211,0,none⟩=some (u212000):=(blk_cell BK211.out 0).trans rfl
            have hcz66_1:w64.cell? ⟨gb211,1,none⟩=some (.bool ((rd_T33 l0 x5_1).f1)):=(blk_cell BK211.out 1).trans rfl
            have hcz66_2:w64.cell? ⟨gb211,2,none⟩=some (.bool ((rd_T33 l0 x5_1).f2)):=(blk_cell BK211.out 2).trans rfl
            have hfz66_0:=blk_frozen BK211.out 0
            have hfz66_1:=blk_frozen BK211.out 1
            have hfz66_2:=blk_frozen BK211.out 2
            obtain ⟨Ao68,co68,eo68⟩:=Kd.S_slice HO_212000.out
            subst eo68
            try go_wp2_with (first|((with_reducible refine gate_builtin (b:=.append) (xs:=#[.tmp 92,.tmp 94]) rfl ?_);(try (refine gate_guard (by rfl) ?_;dsimp only));at_builtin;refine Kd.R_append k33 (w0:=w) w.heap.size rfl (.tmp 92) (.tmp 94) 23 33 (.agg #[(.slice none 0 0),(.bool false),(.bool false)]) 32 rfl Try.underlying23 info33 rfl (by decide) (by omega) u4 x4_1 (⟨x212000_2,(rd_T33 l0 x5_1).f1,(rd_T33 l0 x5_1).f2⟩:S33) [.slice Ao68 x212000_2.length co68,.bool ((rd_T33 l0 x5_1).f1),.bool ((rd_T33 l0 x5_1).f2)] (fun k_=>some k_≠(u213001:Value).ownBlock∧k_≠gb211) (fun k_=>((fun k_=>some k_≠(u213001:Value).ownBlock∧k_≠gb211)) k_∧some k_≠(u4:Value).ownBlock) rfl rfl ?aP (fun _ hk=>hk) ?aF ?aO ?aB ?aS ?aL ?_;(case aP=>exact k33_mkM _ _ _ (⟨x212000_2,(rd_T33 l0 x5_1).f1,(rd_T33 l0 x5_1).f2⟩:S33) (Kd.R_mono (Kd.R_types (Kd.R_apart' ((Kd.S_R HO_212000.out)) (Kd.R_typed HO_4.out) (by decide)) BK211.out (by decide)) (fun k_ hk=>⟨⟨hk.1.1,hk.2⟩,hk.1.2⟩)));(case aB=>exact (by repeat (first|(with_reducible first|exact HB.out|apply bA_|apply bN_|apply bD_|refine below_set ?_ GE211.out|refine below_set ?_ GE212.out)|exact HB.out)));(case aF=>exact (fun k_ hk=>⟨Kd.fresh' (Kd.R_lt (by (with_reducible repeat (first|apply rA_|apply rN_|apply rD_));exact HO_213001.out)) k_ hk,Kd.freshB (g:=gb211) (o:=.cells #[.slice Ao68 x212000_2.length co68,.bool ((rd_T33 l0 x5_1).f1),.bool ((rd_T33 l0 x5_1).f2)] 33 (0,0)) (by (with_reducible repeat (first|refine blk_drewN ?_ _|refine blk_drew ?_|refine blk_alloc ?_ _));exact BK211.out) k_ hk⟩));(case aO=>exact (by (with_reducible repeat (first|apply rA_|apply rN_|apply rD_));exact Kd.R_mono HO_4.out (fun _ hk=>⟨hk.2.1,hk.2.2⟩)));(case aS=>exact (below_size (by repeat (first|(with_reducible first|exact HB.out|apply bA_|apply bN_|apply bD_|refine below_set ?_ GE211.out|refine below_set ?_ GE212.out)|exact HB.out))));(case aL=>have:=LMc60.out;omega);intro v217 w67 ho hb hg hat;rw [← Ny216.out] at ho;have n0_:=Aside0.mk (Kd.R_over' (by (with_reducible repeat (first|apply rA_|apply rN_|apply rD_));exact HO_213001.out) (Kd.R_typed (by (with_reducible repeat (first|apply rA_|apply rN_|apply rD_));exact HO_4.out)) (by decide) hg);have n1_:=Aside0.mk (blk_grown (g:=gb211) (o:=.cells #[.slice Ao68 x212000_2.length co68,.bool ((rd_T33 l0 x5_1).f1),.bool ((rd_T33 l0 x5_1).f2)] 33 (0,0)) (by (with_reducible repeat (first|refine blk_drewN ?_ _|refine blk_drew ?_|refine blk_alloc ?_ _));exact BK211.out) hg (Kd.R_away HO_4.out (fun _ hk=>hk.2.2)));have n2_:=Aside0.mk (blk_grown (g:=gb212) (o:=.cells #[.bool x213000_2,u213001] 38 (0,0)) (by (with_reducible repeat (first|refine blk_drewN ?_ _|refine blk_drew ?_|refine blk_alloc ?_ _));exact BK212.out) hg (Kd.R_ne HO_4.out BK212.out (by decide)));have n3_:=Aside0.mk (hb);have n4_:=Aside0.mk (ho);clear HO_213001;clear BK211;clear BK212;clear HB;clear HO_4;clear HO_212000;have HO_213001:=n0_;have BK211:=n1_;have BK212:=n2_;have HB:=n3_;have HO218:=n4_;clear n0_ n1_ n2_ n3_ n4_;clear ho hb hg hat))
            go_roundg kj8
            case measure=>have:=HK1.out;have:=HK2.out;have:=HJ8.out;omega
            case rel=>exact ⟨(y216),(wrap64 (x5_1+1)),(by first|rfl|(simp;done)|(simp [*];done)),H',⟨by have:=HK1.out;have:=HK2.out;have:=HJ8.out;omega⟩,⟨by (with_reducible repeat (first|apply rA_|apply rN_|apply rD_));exact Kd.R_mono HO218.out (fun _ hk=>trivial)⟩,⟨by repeat (first|(with_reducible first|exact HB.out|apply bA_|apply bN_|apply bD_|refine below_set ?_ GE211.out|refine below_set ?_ GE212.out)|exact HB.out)⟩⟩
           ·rw [if_neg c60] at H
            exact absurd H (by simp)
          ·rw [if_neg c59] at H
           exact absurd H (by simp)
         ·rw [if_neg c58] at H
          have c58b0:decide (x5_1 < (l0.length:Int))=false:=decide_eq_false c58
          clear c58
          by_cases c69:x4_1.length < 4398046511104
          ·rw [if_pos c69] at H
           have LMc69:=Aside0.mk c69
           clear c69
           obtain ⟨y219,hy219⟩:∃ y_:List (S33),y_=(x4_1 ++ [(⟨x212000_2,false,false⟩:S33)]):=⟨_,rfl⟩
           replace H:(cadencelaw4_Make.l0 kj8 l0 ji3 y219 (wrap64 (x5_1+1)))=some r:=by first|(rw [hy219];with_reducible exact H)|(have H2_:=(Option.bind_some _ _).symm.trans H;rw [hy219];with_reducible exact H2_)|(have H2_:=(Option.bind_some _ _).symm.trans H;with_reducible exact H2_)|with_reducible exact H|(rw [hy219];exact H)|exact H
           have Ny219:=Aside0.mk hy219
           clear hy219
           have H':=Aside0.mk H
           clear H
           have hnb70:=NB211_212.out
           have hnc70:=NB212_211.out
           have hcz71_0:wc.cell? ⟨gb211,0,none⟩=some (u212000):=(blk_cell BK211.out 0).trans rfl
           have hcz71_1:wc.cell? ⟨gb211,1,none⟩=some (.bool false):=(blk_cell BK211.out 1).trans rfl
           have hcz71_2:wc.cell? ⟨gb211,2,none⟩=some (.bool false):=(blk_cell BK211.out 2).trans rfl
           have hfz71_0:=blk_frozen BK211.out 0
           have hfz71_1:=blk_frozen BK211.out 1
           have hfz71_2:=blk_frozen BK211.out 2
           obtain ⟨Ao73,co73,eo73⟩:=Kd.S_slice HO_212000.out
           subst eo73
           go_wp2_with (first|((with_reducible refine gate_builtin (b:=.append) (xs:=#[.tmp 92,.tmp 94]) rfl ?_);(try (refine gate_guard (by rfl) ?_;dsimp only));at_builtin;refine Kd.R_append k33 (w0:=w) w.heap.size rfl (.tmp 92) (.tmp 94) 23 33 (.agg #[(.slice none 0 0),(.bool false),(.bool false)]) 32 rfl Try.underlying23 info33 rfl (by decide) (by omega) u4 x4_1 (⟨x212000_2,false,false⟩:S33) [.slice Ao73 x212000_2.length co73,.bool false,.bool false] (fun k_=>some k_≠(u213001:Value).ownBlock∧k_≠gb211) (fun k_=>((fun k_=>some k_≠(u213001:Value).ownBlock∧k_≠gb211)) k_∧some k_≠(u4:Value).ownBlock) rfl rfl ?aP (fun _ hk=>hk) ?aF ?aO ?aB ?aS ?aL ?_;(case aP=>exact k33_mkM _ _ _ (⟨x212000_2,false,false⟩:S33) (Kd.R_mono (Kd.R_types (Kd.R_apart' ((Kd.S_R HO_212000.out)) (Kd.R_typed HO_4.out) (by decide)) BK211.out (by decide)) (fun k_ hk=>⟨⟨hk.1.1,hk.2⟩,hk.1.2⟩)));(case aB=>exact (by repeat (first|(with_reducible first|exact HB.out|apply bA_|apply bN_|apply bD_|refine below_set ?_ GE211.out|refine below_set ?_ GE212.out)|exact HB.out)));(case aF=>exact (fun k_ hk=>⟨Kd.fresh' (Kd.R_lt (by (with_reducible repeat (first|apply rA_|apply rN_|apply rD_));exact HO_213001.out)) k_ hk,Kd.freshB (g:=gb211) (o:=.cells #[.slice Ao73 x212000_2.length co73,.bool false,.bool false] 33 (0,0)) (by (with_reducible repeat (first|refine blk_drewN ?_ _|refine blk_drew ?_|refine blk_alloc ?_ _));exact BK211.out) k_ hk⟩));(case aO=>exact (by (with_reducible repeat (first|apply rA_|apply rN_|apply rD_));exact Kd.R_mono HO_4.out (fun _ hk=>⟨hk.2.1,hk.2.2⟩)));(case aS=>exact (below_size (by repeat (first|(with_reducible first|exact HB.out|apply bA_|apply bN_|apply bD_|refine below_set ?_ GE211.out|refine below_set ?_ GE212.out)|exact HB.out))));(case aL=>have:=LMc69.out;omega);intro v220 w72 ho hb hg hat;rw [← Ny219.out] at ho;have n0_:=Aside0.mk (Kd.R_over' (by (with_reducible repeat (first|apply rA_|apply rN_|apply rD_));exact HO_213001.out) (Kd.R_typed (by (with_reducible repeat (first|apply rA_|apply rN_|apply rD_));exact HO_4.out)) (by decide) hg);have n1_:=Aside0.mk (blk_grown (g:=gb211) (o:=.cells #[.slice Ao73 x212000_2.length co73,.bool false,.bool false] 33 (0,0)) (by (with_reducible repeat (first|refine blk_drewN ?_ _|refine blk_drew ?_|refine blk_alloc ?_ _));exact BK211.out) hg (Kd.R_away HO_4.out (fun _ hk=>hk.2.2)));have n2_:=Aside0.mk (blk_grown (g:=gb212) (o:=.cells #[.bool x213000_2,u213001] 38 (0,0)) (by (with_reducible repeat (first|refine blk_drewN ?_ _|refine blk_drew ?_|refine blk_alloc ?_ _));exact BK212.out) hg (Kd.R_ne HO_4.out BK212.out (by decide)));have n3_:=Aside0.mk (hb);have n4_:=Aside0.mk (ho);clear HO_213001;clear BK211;clear BK212;clear HB;clear HO_4;clear HO_212000;have HO_213001:=n0_;have BK211:=n1_;have BK212:=n2_;have HB:=n3_;have HO221:=n4_;clear n0_ n1_ n2_ n3_ n4_;clear ho hb hg hat))
           go_roundg kj8
           case measure=>have:=HK1.out;have:=HK2.out;have:=HJ8.out;omega
           case rel=>exact ⟨(y219),(wrap64 (x5_1+1)),(by first|rfl|(simp;done)|(simp [*];done)),H',⟨by have:=HK1.out;have:=HK2.out;have:=HJ8.out;omega⟩,⟨by (with_reducible repeat (first|apply rA_|apply rN_|apply rD_));exact Kd.R_mono HO221.out (fun _ hk=>trivial)⟩,⟨by repeat (first|(with_reducible first|exact HB.out|apply bA_|apply bN_|apply bD_|refine below_set ?_ GE211.out|refine below_set ?_ GE212.out)|exact HB.out)⟩⟩
          ·rw [if_neg c69] at H
           exact absurd H (by simp)
   ·rw [if_neg c4] at H
    have c4b0:decide (x5_1 < ji3)=false:=decide_eq_false c4
    clear c4
    obtain rfl:=Option.some.inj H
    go_wp2
    go_ret
    exact ⟨_,by first|rfl|(simp [errW_none,errW_some] <;> rfl)|(simp only [← hji2,← hji3];first|rfl|(simp [errW_none,errW_some] <;> rfl))|(simp [*,errW_none,errW_some] <;> rfl),by (with_reducible repeat (first|apply rA_|apply rN_|apply rD_));exact HO_4.out,by repeat (first|(with_reducible first|exact HB.out|apply bA_|apply bN_|apply bD_)|exact HB.out)⟩
end Go.Proofs.Ytoihiehoolehiaa.PX
namespace Go.Proofs.Ytoihiehoolehiaa.PX
open Go.RowKit Go.Proofs.YtoihiehoolehiaaW.PrintWords Go.Proofs.YtoihiehoolehiaaW.PrintLast Go.Proofs.YtoihiehoolehiaaW.PrintMore
attribute [local go_sem] max2_int min2_int max_two min_two max_three min_three max_four min_four   
set_option linter.unusedVariables false
set_option linter.unusedSimpArgs false
mutual
def cadencelaw4_Few.l0:Nat→List (S33)→Int→Option (Bool)
 | 0,_,_=>none
 | k+1,x0,x3=>if x3 < (x0.length:Int) then (if 0≤x3 then (if (((rd_T33 x0 x3).f0).length:Int) > 8 then (some false) else (cadencelaw4_Few.l1 k x0 x3 0)) else (none)) else (some (decide ((x0.length:Int)≤14)))
def cadencelaw4_Few.l1:Nat→List (S33)→Int→Int→Option (Bool)
 | 0,_,_,_=>none
 | k+1,x0,x3,x4=>if 0≤x3 then (if x3 < (x0.length:Int) then (if x4 < (((rd_T33 x0 x3).f0).length:Int) then (if 0≤x4 then (if (((rd_T40 ((rd_T33 x0 x3).f0) x4).f0.f1).length:Int) > 25 then (some false) else (cadencelaw4_Few.l1 k x0 x3 (wrap64 (x4+1)))) else (none)) else (cadencelaw4_Few.l0 k x0 (wrap64 (x3+1)))) else (none)) else (none)
end
def cadencelaw4_Few.f (k:Nat) (l0:List (S33)):Option (Bool):=cadencelaw4_Few.l0 k l0 0
theorem cadencelaw4_Few.mono_l:∀ k,(∀ y0 y1,LeO (cadencelaw4_Few.l0 k y0 y1) (cadencelaw4_Few.l0 (k+1) y0 y1))∧(∀ y0 y1 y2,LeO (cadencelaw4_Few.l1 k y0 y1 y2) (cadencelaw4_Few.l1 (k+1) y0 y1 y2))
 | 0=>⟨fun _ _ r h=>by simp [cadencelaw4_Few.l0] at h,fun _ _ _ r h=>by simp [cadencelaw4_Few.l1] at h⟩
 | k+1=>by
  obtain ⟨ih0,ih1⟩:=cadencelaw4_Few.mono_l k
  refine ⟨?_,?_⟩
  ·intro y0 y1
   unfold cadencelaw4_Few.l0
   repeat' first
   | (with_reducible exact ih0 _ _)
   | (with_reducible exact ih1 _ _ _)
   | (with_reducible exact LeO.refl _)
   | (with_reducible exact LeO.none _)
   | (with_reducible refine LeO.ite ?_ ?_)
   | (with_reducible refine LeO.bind ?_ (fun _=>?_))
   | exact ih0 _ _
   | exact ih1 _ _ _
   | exact LeO.none _
   | refine LeO.ite ?_ ?_
   | refine LeO.bind ?_ (fun _=>?_)
  ·intro y0 y1 y2
   unfold cadencelaw4_Few.l1
   repeat' first
   | (with_reducible exact ih0 _ _)
   | (with_reducible exact ih1 _ _ _)
   | (with_reducible exact LeO.refl _)
   | (with_reducible exact LeO.none _)
   | (with_reducible refine LeO.ite ?_ ?_)
   | (with_reducible refine LeO.bind ?_ (fun _=>?_))
   | exact ih0 _ _
   | exact ih1 _ _ _
   | exact LeO.none _
   | refine LeO.ite ?_ ?_
   | refine LeO.bind ?_ (fun _=>?_)
theorem cadencelaw4_Few.mono:∀ a0 k,LeO (cadencelaw4_Few.f k a0) (cadencelaw4_Few.f (k+1) a0):=by
 intro a0 k
 obtain ⟨ih0,ih1⟩:=cadencelaw4_Few.mono_l k
 unfold cadencelaw4_Few.f
 repeat' first
   | (with_reducible exact ih0 _ _)
   | (with_reducible exact ih1 _ _ _)
   | (with_reducible exact LeO.refl _)
   | (with_reducible exact LeO.none _)
   | (with_reducible refine LeO.ite ?_ ?_)
   | (with_reducible refine LeO.bind ?_ (fun _=>?_))
   | exact ih0 _ _
   | exact ih1 _ _ _
   | exact LeO.none _
   | refine LeO.ite ?_ ?_
   | refine LeO.bind ?_ (fun _=>?_)
set_option maxHeartbeats 8000000 in
set_option maxRecDepth 100000 in
theorem cadencelaw4_Few.calls (k:Nat) (A0:Option Addr) (c0:Nat) (l0:List (S33)) (r:Bool) (w:World) (hr0:Kd.C k33 w A0 l0.length l0) (hc0:l0.length≤c0) (h:cadencelaw4_Few.f k l0=some r) :
  Calls Try.prog 9 #[.slice A0 l0.length c0] w fun e w'=>e=.returned (.bool r)∧Drawn0 w w':=by
 have HR0:=Aside0.mk hr0
 have HC0:=Aside0.mk hc0
 clear hr0 hc0
 have H:(cadencelaw4_Few.l0 k l0 0)=some r:=h
 clear h
 have H':=Aside0.mk H
 clear H
 go_enter Try.func9,Try.ntmps9
 go_wp2
 go_loopg [3] k (fun kq v3 w'=>∃ (x3_1:Int),v3=.int .i64 x3_1∧Aside0 (cadencelaw4_Few.l0 kq l0 x3_1=some r)∧Aside0 (kq≤k)∧Drawn0 w w')
 case atStart=>exact ⟨(0),(by first|rfl|(simp;done)|(simp [*];done)),H',⟨Nat.le_refl _⟩,by repeat (first|exact Drawn0.refl _|apply Drawn0.step)⟩
 case round =>
  clear H'
  obtain ⟨x3_1,rfl,HA,HK1,⟨m1,rfl⟩⟩:=hrel
  cases gk with
  | zero=>exact absurd HA.out (by simp [cadencelaw4_Few.l0])
  | succ k1 =>
   have H:=HA.out
   clear HA
   simp only [cadencelaw4_Few.l0] at H
   by_cases c2:x3_1 < (l0.length:Int)
   ·rw [if_pos c2] at H
    have c2b0:decide (x3_1 < (l0.length:Int))=true:=decide_eq_true c2
    clear c2
    by_cases c3:0≤x3_1
    ·rw [if_pos c3] at H
     have c3b0:decide (0≤x3_1)=true:=decide_eq_true c3
     clear c3
     by_cases c4:(((rd_T33 l0 x3_1).f0).length:Int) > 8
     ·rw [if_pos c4] at H
      have c4b0:decide (8 < (((rd_T33 l0 x3_1).f0).length:Int))=true:=decide_eq_true c4
      have c4b1:decide (8 < ((rd_T33 l0 x3_1).f0).length)=true:=decide_eq_true (by omega)
      clear c4
      obtain rfl:=Option.some.inj H
      have p111:0≤(x3_1:Int):=of_decide_eq_true (by first|(with_reducible assumption)|assumption)
      have q111:x3_1 < (l0.length:Int):=of_decide_eq_true (by first|(with_reducible assumption)|assumption)
      obtain ⟨ad111,A111_0,c111_0,e111,hx111_0,hx111_1,hx111_2,hl111_0,hi111_0⟩:=at_T33 HR0.out x3_1 p111 q111
      cases e111
      have HR111_0:=Aside0.mk hi111_0
      have HC111_0:=Aside0.mk hl111_0
      clear hi111_0 hl111_0
      replace p111:=eq_true p111
      replace q111:=eq_true q111
      go_wp2
      go_ret
      exact ⟨by first|rfl|(simp;done)|(simp [*];done),by repeat (first|exact Drawn0.refl _|apply Drawn0.step)⟩
     ·rw [if_neg c4] at H
      have c4b0:decide (8 < (((rd_T33 l0 x3_1).f0).length:Int))=false:=decide_eq_false c4
      have c4b1:decide (8 < ((rd_T33 l0 x3_1).f0).length)=false:=decide_eq_false (by omega)
      clear c4
      have H':=Aside0.mk H
      clear H
      have p111:0≤(x3_1:Int):=of_decide_eq_true (by first|(with_reducible assumption)|assumption)
      have q111:x3_1 < (l0.length:Int):=of_decide_eq_true (by first|(with_reducible assumption)|assumption)
      obtain ⟨ad111,A111_0,c111_0,e111,hx111_0,hx111_1,hx111_2,hl111_0,hi111_0⟩:=at_T33 HR0.out x3_1 p111 q111
      cases e111
      have HR111_0:=Aside0.mk hi111_0
      have HC111_0:=Aside0.mk hl111_0
      clear hi111_0 hl111_0
      replace p111:=eq_true p111
      replace q111:=eq_true q111
      go_wp2
      go_loopg [4] k1 (fun kq v4 w'=>∃ (x4_2:Int),v4=.int .i64 x4_2∧Aside0 (cadencelaw4_Few.l1 kq l0 x3_1 x4_2=some r)∧Aside0 (kq≤k1)∧Drawn0 w w')
      case atStart=>exact ⟨(0),(by first|rfl|(simp;done)|(simp [*];done)),H',⟨Nat.le_refl _⟩,by repeat (first|exact Drawn0.refl _|apply Drawn0.step)⟩
      case round =>
       clear H'
       try clear c1
       try clear p1
       try clear q1
       try clear hx1
       try clear c2
       try clear c2b0
       try clear p2
       try clear c3
       try clear c3b0
       try clear c4
       try clear c4b0
       try clear c4b1
       try clear hx111_0
       try clear hx111_1
       try clear hx111_2
       try clear p111
       try clear q111
       obtain ⟨x4_2,rfl,HA,HK2,⟨m2,rfl⟩⟩:=hrel
       cases gk with
       | zero=>exact absurd HA.out (by simp [cadencelaw4_Few.l1])
       | succ k2 =>
        have H:=HA.out
        clear HA
        simp only [cadencelaw4_Few.l1] at H
        by_cases c5:0≤x3_1
        ·rw [if_pos c5] at H
         have c5b0:decide (0≤x3_1)=true:=decide_eq_true c5
         clear c5
         by_cases c6:x3_1 < (l0.length:Int)
         ·rw [if_pos c6] at H
          have c6b0:decide (x3_1 < (l0.length:Int))=true:=decide_eq_true c6
          clear c6
          by_cases c7:x4_2 < (((rd_T33 l0 x3_1).f0).length:Int)
          ·rw [if_pos c7] at H
           have c7b0:decide (x4_2 < (((rd_T33 l0 x3_1).f0).length:Int))=true:=decide_eq_true c7
           clear c7
           by_cases c8:0≤x4_2
           ·rw [if_pos c8] at H
            have c8b0:decide (0≤x4_2)=true:=decide_eq_true c8
            clear c8
            by_cases c9:(((rd_T40 ((rd_T33 l0 x3_1).f0) x4_2).f0.f1).length:Int) > 25
            ·rw [if_pos c9] at H
             have c9b0:decide (25 < (((rd_T40 ((rd_T33 l0 x3_1).f0) x4_2).f0.f1).length:Int))=true:=decide_eq_true c9
             have c9b1:decide (25 < ((rd_T40 ((rd_T33 l0 x3_1).f0) x4_2).f0.f1).length)=true:=decide_eq_true (by omega)
             clear c9
             obtain rfl:=Option.some.inj H
             have p112:0≤(x3_1:Int):=of_decide_eq_true (by first|(with_reducible assumption)|assumption)
             have q112:x3_1 < (l0.length:Int):=of_decide_eq_true (by first|(with_reducible assumption)|assumption)
             obtain ⟨ad112,A112_0,c112_0,e112,hx112_0,hx112_1,hx112_2,hl112_0,hi112_0⟩:=at_T33 HR0.out x3_1 p112 q112
             obtain rfl:ad111=ad112:=(by injection e112)
             have HR112_0:=Aside0.mk hi112_0
             have HC112_0:=Aside0.mk hl112_0
             clear hi112_0 hl112_0
             replace p112:=eq_true p112
             replace q112:=eq_true q112
             have p113:0≤(x3_1:Int):=of_decide_eq_true (by first|(with_reducible assumption)|assumption)
             have q113:x3_1 < (l0.length:Int):=of_decide_eq_true (by first|(with_reducible assumption)|assumption)
             obtain ⟨ad113,A113_0,c113_0,e113,hx113_0,hx113_1,hx113_2,hl113_0,hi113_0⟩:=at_T33 HR0.out x3_1 p113 q113
             obtain rfl:ad111=ad113:=(by injection e113)
             have HR113_0:=Aside0.mk hi113_0
             have HC113_0:=Aside0.mk hl113_0
             clear hi113_0 hl113_0
             replace p113:=eq_true p113
             replace q113:=eq_true q113
             have ea_:=Option.some.inj (hx112_0.symm.trans hx113_0)
             injection ea_ with ea_ en_ ec_
             subst ea_
             subst ec_
             clear en_
             have p114:0≤(x4_2:Int):=of_decide_eq_true (by first|(with_reducible assumption)|assumption)
             have q114:x4_2 < (((rd_T33 l0 x3_1).f0).length:Int):=of_decide_eq_true (by first|(with_reducible assumption)|assumption)
             obtain ⟨ad114,A114_1,c114_1,e114,hx114_0,hx114_1,hx114_2,hx114_3,hl114_1,hi114_1⟩:=at_T40 HR113_0.out x4_2 p114 q114
             cases e114
             have HR114_1:=Aside0.mk hi114_1
             have HC114_1:=Aside0.mk hl114_1
             clear hi114_1 hl114_1
             replace p114:=eq_true p114
             replace q114:=eq_true q114
             go_wp2
             go_ret
             exact ⟨by first|rfl|(simp;done)|(simp [*];done),by repeat (first|exact Drawn0.refl _|apply Drawn0.step)⟩
            ·rw [if_neg c9] at H
             have c9b0:decide (25 < (((rd_T40 ((rd_T33 l0 x3_1).f0) x4_2).f0.f1).length:Int))=false:=decide_eq_false c9
             have c9b1:decide (25 < ((rd_T40 ((rd_T33 l0 x3_1).f0) x4_2).f0.f1).length)=false:=decide_eq_false (by omega)
             clear c9
             have H':=Aside0.mk H
             clear H
             have p112:0≤(x3_1:Int):=of_decide_eq_true (by first|(with_reducible assumption)|assumption)
             have q112:x3_1 < (l0.length:Int):=of_decide_eq_true (by first|(with_reducible assumption)|assumption)
             obtain ⟨ad112,A112_0,c112_0,e112,hx112_0,hx112_1,hx112_2,hl112_0,hi112_0⟩:=at_T33 HR0.out x3_1 p112 q112
             obtain rfl:ad111=ad112:=(by injection e112)
             have HR112_0:=Aside0.mk hi112_0
             have HC112_0:=Aside0.mk hl112_0
             clear hi112_0 hl112_0
             replace p112:=eq_true p112
             replace q112:=eq_true q112
             have p113:0≤(x3_1:Int):=of_decide_eq_true (by first|(with_reducible assumption)|assumption)
             have q113:x3_1 < (l0.length:Int):=of_decide_eq_true (by first|(with_reducible assumption)|assumption)
             obtain ⟨ad113,A113_0,c113_0,e113,hx113_0,hx113_1,hx113_2,hl113_0,hi113_0⟩:=at_T33 HR0.out x3_1 p113 q113
             obtain rfl:ad111=ad113:=(by injection e113)
             have HR113_0:=Aside0.mk hi113_0
             have HC113_0:=Aside0.mk hl113_0
             clear hi113_0 hl113_0
             replace p113:=eq_true p113
             replace q113:=eq_true q113
             have ea_:=Option.some.inj (hx112_0.symm.trans hx113_0)
             injection ea_ with ea_ en_ ec_
             subst ea_
             subst ec_
             clear en_
             have p114:0≤(x4_2:Int):=of_decide_eq_true (by first|(with_reducible assumption)|assumption)
             have q114:x4_2 < (((rd_T33 l0 x3_1).f0).length:Int):=of_decide_eq_true (by first|(with_reducible assumption)|assumption)
             obtain ⟨ad114,A114_1,c114_1,e114,hx114_0,hx114_1,hx114_2,hx114_3,hl114_1,hi114_1⟩:=at_T40 HR113_0.out x4_2 p114 q114
             cases e114
             have HR114_1:=Aside0.mk hi114_1
             have HC114_1:=Aside0.mk hl114_1
             clear hi114_1 hl114_1
             replace p114:=eq_true p114
             replace q114:=eq_true q114
             go_wp2
             go_roundg k2
             case measure=>have:=HK1.out;have:=HK2.out;omega
             case rel=>exact ⟨(wrap64 (x4_2+1)),(by first|rfl|(simp;done)|(simp [*];done)),H',⟨by have:=HK1.out;have:=HK2.out;omega⟩,by repeat (first|exact Drawn0.refl _|apply Drawn0.step)⟩
           ·rw [if_neg c8] at H
            exact absurd H (by simp)
          ·rw [if_neg c7] at H
           have c7b0:decide (x4_2 < (((rd_T33 l0 x3_1).f0).length:Int))=false:=decide_eq_false c7
           clear c7
           have H':=Aside0.mk H
           clear H
           have p112:0≤(x3_1:Int):=of_decide_eq_true (by first|(with_reducible assumption)|assumption)
           have q112:x3_1 < (l0.length:Int):=of_decide_eq_true (by first|(with_reducible assumption)|assumption)
           obtain ⟨ad112,A112_0,c112_0,e112,hx112_0,hx112_1,hx112_2,hl112_0,hi112_0⟩:=at_T33 HR0.out x3_1 p112 q112
           obtain rfl:ad111=ad112:=(by injection e112)
           have HR112_0:=Aside0.mk hi112_0
           have HC112_0:=Aside0.mk hl112_0
           clear hi112_0 hl112_0
           replace p112:=eq_true p112
           replace q112:=eq_true q112
           go_wp2
           go_roundg k2
           case measure=>have:=HK1.out;have:=HK2.out;omega
           case rel=>exact ⟨(wrap64 (x3_1+1)),(by first|rfl|(simp;done)|(simp [*];done)),H',⟨by have:=HK1.out;have:=HK2.out;omega⟩,by repeat (first|exact Drawn0.refl _|apply Drawn0.step)⟩
         ·rw [if_neg c6] at H
          exact absurd H (by simp)
        ·rw [if_neg c5] at H
         exact absurd H (by simp)
    ·rw [if_neg c3] at H
     exact absurd H (by simp)
   ·rw [if_neg c2] at H
    have c2b0:decide (x3_1 < (l0.length:Int))=false:=decide_eq_false c2
    clear c2
    obtain rfl:=Option.some.inj H
    go_wp2
    go_ret
    exact ⟨by first|rfl|(simp;done)|(simp [*];done),by repeat (first|exact Drawn0.refl _|apply Drawn0.step)⟩
end Go.Proofs.Ytoihiehoolehiaa.PX
set_option linter.unusedVariables false
set_option linter.unusedSimpArgs false
namespace Go.Proofs.Ytoihiehoolehiaa.PX
open Go.RowKit Go.Proofs.YtoihiehoolehiaaW.PrintWords Go.Proofs.YtoihiehoolehiaaW.PrintLast Go.Proofs.YtoihiehoolehiaaW.PrintMore Go.Proofs.Ytoihiehoolehiaa
abbrev Fd:=S40
abbrev Df:=S33
def Small4 (s:Sc):Prop:=s.length≤14∧∀ d ∈ s,d.f0.length≤8∧∀ f ∈ d.f0,f.f0.f1.length≤25
theorem few4_ev {s:Sc} (hs:ScIn s):∃ b,(b=true→Small4 s)∧Ev (fun k=>cadencelaw4_Few.f k s) b:=by
 have h14:=hs.1
 have outer:∀ d i,i+d=s.length→∃ b,(b=true→s.length≤14∧∀ j (h:j < s.length),i≤j→s[j].f0.length≤8∧∀ f ∈ s[j].f0,f.f0.f1.length≤25)∧Ev (fun k=>cadencelaw4_Few.l0 k s (i:Int)) b:=by
  intro d
  induction d with
  | zero =>
   intro i hi
   refine ⟨decide ((s.length:Int)≤14),fun h=>⟨by have:=of_decide_eq_true h;omega,fun j h hj=>by omega⟩,Ev.step (f:=fun _=>some (decide ((s.length:Int)≤14))) (fun k=>?_) (Ev.now _)⟩
   rw [cadencelaw4_Few.l0,if_neg (by omega)]
  | succ d ih =>
   intro i hi
   have hil:i < s.length:=by omega
   by_cases h8:s[i].f0.length≤8
   ·obtain ⟨b',hb',he'⟩:=ih (i+1) (by omega)
    have inner:∀ e j,j+e=s[i].f0.length→∃ b,(b=true→b'=true∧∀ q (h:q < s[i].f0.length),j≤q→s[i].f0[q].f0.f1.length≤25)∧Ev (fun k=>cadencelaw4_Few.l1 k s (i:Int) (j:Int)) b:=by
     intro e
     induction e with
     | zero =>
      intro j hj
      refine ⟨b',fun h=>⟨h,fun q h hq=>by omega⟩,Ev.step (fun k=>?_) he'⟩
      rw [cadencelaw4_Few.l1,if_pos (by omega),if_pos (by omega),rdD_nat hil,if_neg (by omega),wrap_succ (by omega)]
     | succ e ihe =>
      intro j hj
      have hjl:j < s[i].f0.length:=by omega
      by_cases h25:s[i].f0[j].f0.f1.length≤25
      ·obtain ⟨b,hb,he⟩:=ihe (j+1) (by omega)
       refine ⟨b,fun h=>⟨(hb h).1,fun q hq hjq=>?_⟩,Ev.step (fun k=>?_) he⟩
       ·by_cases hjq':j=q
        ·subst hjq';exact h25
        ·exact (hb h).2 q hq (by omega)
       ·rw [cadencelaw4_Few.l1,if_pos (by omega),if_pos (by omega),rdD_nat hil,if_pos (by omega),if_pos (by omega),rdF_nat hjl,if_neg (by omega),wrap_succ (by omega)]
      ·refine ⟨false,(by simp),Ev.step (f:=fun _=>some false) (fun k=>?_) (Ev.now _)⟩
       rw [cadencelaw4_Few.l1,if_pos (by omega),if_pos (by omega),rdD_nat hil,if_pos (by omega),if_pos (by omega),rdF_nat hjl,if_pos (by omega)]
    obtain ⟨b,hb,he⟩:=inner _ 0 (Nat.zero_add _)
    refine ⟨b,fun h=>⟨(hb' (hb h).1).1,fun j hj hij=>?_⟩,Ev.step (fun k=>?_) he⟩
    ·by_cases hij':i=j
     ·subst hij'
      exact ⟨h8,fun f hf=>by
       obtain ⟨q,hq,rfl⟩:=List.mem_iff_getElem.1 hf
       exact (hb h).2 q hq (Nat.zero_le _)⟩
     ·exact (hb' (hb h).1).2 j hj (by omega)
    ·rw [cadencelaw4_Few.l0,if_pos (by omega),if_pos (by omega),rdD_nat hil,if_neg (by omega)]
     rfl
   ·refine ⟨false,(by simp),Ev.step (f:=fun _=>some false) (fun k=>?_) (Ev.now _)⟩
    rw [cadencelaw4_Few.l0,if_pos (by omega),if_pos (by omega),rdD_nat hil,if_pos (by omega)]
 obtain ⟨b,hb,he⟩:=outer _ 0 (Nat.zero_add _)
 refine ⟨b,fun h=>⟨(hb h).1,fun d hd=>?_⟩,he⟩
 obtain ⟨j,hj,rfl⟩:=List.mem_iff_getElem.1 hd
 exact (hb h).2 j hj (Nat.zero_le _)
theorem in3_ev (l:List ByteArray) (a:ByteArray) (hl:l.length≤1000000000000):Ev (fun k=>cadenceref3_in.f k l a) (hasL l a):=by
 have loop:∀ d i,i+d=l.length→Ev (fun k=>cadenceref3_in.l0 k l a (i:Int)) (hasL (l.drop i) a):=by
  intro d
  induction d with
  | zero =>
   intro i hi
   rw [List.drop_eq_nil_of_le (by omega)]
   refine Ev.step (f:=fun _=>some false) (fun k=>?_) (Ev.now _)
   rw [cadenceref3_in.l0,if_neg (by omega)]
  | succ d ih =>
   intro i hi
   have hil:i < l.length:=by omega
   rw [List.drop_eq_getElem_cons hil]
   by_cases hn:l[i]=a
   ·rw [show hasL (l[i] :: l.drop (i+1)) a=true by unfold hasL;rw [List.any_cons,decide_eq_true hn,Bool.true_or]]
    refine Ev.step (f:=fun _=>some true) (fun k=>?_) (Ev.now _)
    rw [cadenceref3_in.l0,if_pos (by omega),if_pos (by omega),rdOf_nat hil,if_pos (by rw [hn])]
   ·rw [show hasL (l[i] :: l.drop (i+1)) a=hasL (l.drop (i+1)) a by unfold hasL;rw [List.any_cons,decide_eq_false hn,Bool.false_or]]
    refine Ev.step (fun k=>?_) (ih (i+1) (by omega))
    rw [cadenceref3_in.l0,if_pos (by omega),if_pos (by omega),rdOf_nat hil,if_neg (fun h=>hn (tl_inj (by rw [← toList_tl,← toList_tl,h]))),wrap_succ (by omega)]
 exact (loop l.length 0 (by omega))
theorem has3_ev (b:Bool) (l:List ByteArray) (a:ByteArray) (hl:l.length≤1000000000000):Ev (fun k=>cadenceref3_Has.f k b l a) (hasL l a != b):=by
 obtain ⟨K,h⟩:=in3_ev l a hl
 refine ⟨K,fun k hk=>?_⟩
 have h:cadenceref3_in.f k l a=some _:=h k hk
 show cadenceref3_Has.f k b l a=_
 rw [cadenceref3_Has.f,h]
 rfl
theorem put3_ev (l:List ByteArray) (a:ByteArray) (hl:l.length≤1000000000000):∃ r,r.length≤l.length+1∧Ev (fun k=>cadenceref3_put.f k l a) r:=by
 have ins:∀ i,i≤l.length→(l.take i ++ [a] ++ l.drop i).length≤l.length+1:=fun i hi=>by simp;omega
 have loop:∀ d i,i+d=l.length→∃ r,r.length≤l.length+1∧Ev (fun k=>cadenceref3_put.l0 k l a (i:Int)) r:=by
  intro d
  induction d with
  | zero =>
   intro i hi
   refine ⟨l.take i ++ [a] ++ l.drop i,ins i (by omega),Ev.step (f:=fun _=>some (l.take i ++ [a] ++ l.drop i)) (fun k=>?_) (Ev.now _)⟩
   rw [cadenceref3_put.l0,if_neg (by omega),if_pos (by omega),if_pos (by omega),Int.toNat_natCast]
   simp only [Option.bind_some,List.nil_append,List.length_nil,Nat.zero_add]
   rw [if_pos (by rw [List.length_take];omega),if_pos (by rw [List.length_take];omega),if_pos (by simp;omega)]
  | succ d ih =>
   intro i hi
   have hil:i < l.length:=by omega
   by_cases hlt:Op.bytesLess l[i].toList a.toList=true
   ·obtain ⟨r,hr,he⟩:=ih (i+1) (by omega)
    refine ⟨r,hr,Ev.step (fun k=>?_) he⟩
    rw [cadenceref3_put.l0,if_pos (by omega),if_pos (by omega),rdOf_nat hil,if_pos hlt,wrap_succ (by omega)]
   ·by_cases he:l[i].toList=a.toList
    ·refine ⟨l,by omega,Ev.step (f:=fun _=>some l) (fun k=>?_) (Ev.now _)⟩
     rw [cadenceref3_put.l0,if_pos (by omega),if_pos (by omega),rdOf_nat hil,if_neg hlt,if_pos he]
    ·refine ⟨l.take i ++ [a] ++ l.drop i,ins i (by omega),Ev.step (f:=fun _=>some (l.take i ++ [a] ++ l.drop i)) (fun k=>?_) (Ev.now _)⟩
     rw [cadenceref3_put.l0,if_pos (by omega),if_pos (by omega),rdOf_nat hil,if_neg hlt,if_neg he,if_pos (by omega),Int.toNat_natCast]
     simp only [Option.bind_some,List.nil_append,List.length_nil,Nat.zero_add]
     rw [if_pos (by rw [List.length_take];omega),if_pos (by rw [List.length_take];omega),if_pos (by simp;omega)]
 obtain ⟨r,hr,he⟩:=loop l.length 0 (by omega)
 exact ⟨r,hr,he⟩
theorem pick_loop (all:List ByteArray) (a0:Bool) (la:List ByteArray) (b0:Bool) (lb:List ByteArray) (g:Bool) (hall:all.length≤1000000000) (hla:la.length≤1000000000) (hlb:lb.length≤1000000000) :
  ∀ d i (out:List ByteArray),i+d=all.length→out.length≤i→∃ r:Bool × List ByteArray,r.1=g∧r.2.length≤all.length∧Ev (fun k=>cadenceref3_pick.l0 k all (i:Int) a0 la b0 lb g out) r:=by
 intro d
 induction d with
 | zero =>
  intro i out hi ho
  refine ⟨(g,out),rfl,by show out.length≤_;omega,Ev.step (f:=fun _=>some (g,out)) (fun k=>?_) (Ev.now _)⟩
  rw [cadenceref3_pick.l0,if_neg (by omega)]
 | succ d ih =>
  intro i out hi ho
  have hil:i < all.length:=by omega
  have hj:∀ x:Bool,∃ r:Bool × List ByteArray,r.1=g∧r.2.length≤all.length∧Ev (fun k=>cadenceref3_pick.j1 k all (i:Int) x a0 la b0 lb g out) r:=by
   intro x
   by_cases hx:(x != g)=true
   ·obtain ⟨q,hq,K1,h1⟩:=put3_ev out all[i] (by omega)
    obtain ⟨r,h2,h3,K2,h4⟩:=ih (i+1) q (by omega) (by omega)
    refine ⟨r,h2,h3,K1+K2+1,fun k hk=>?_⟩
    obtain ⟨k,rfl⟩:∃ k',k=k'+1:=⟨k - 1,by omega⟩
    have h1:cadenceref3_put.f k out all[i]=some q:=h1 k (by omega)
    have h4:cadenceref3_pick.l0 k all ((i+1:Nat):Int) a0 la b0 lb g q=some r:=h4 k (by omega)
    show cadenceref3_pick.j1 (k+1) all (i:Int) x a0 la b0 lb g out=some r
    rw [cadenceref3_pick.j1,if_pos hx,if_pos (by omega),if_pos (by omega),rdOf_nat hil,h1,Option.bind_some,wrap_succ (by omega),h4]
   ·obtain ⟨r,h2,h3,h4⟩:=ih (i+1) out (by omega) (by omega)
    refine ⟨r,h2,h3,Ev.step (fun k=>?_) h4⟩
    rw [cadenceref3_pick.j1,if_neg hx,wrap_succ (by omega)]
  obtain ⟨K1,h1⟩:=has3_ev a0 la all[i] (by omega)
  by_cases hA:(hasL la all[i] != a0)=true
  ·obtain ⟨K2,h2⟩:=has3_ev b0 lb all[i] (by omega)
   obtain ⟨r,h3,h4,K3,h5⟩:=hj (hasL lb all[i] != b0)
   refine ⟨r,h3,h4,K1+K2+K3+1,fun k hk=>?_⟩
   obtain ⟨k,rfl⟩:∃ k',k=k'+1:=⟨k - 1,by omega⟩
   have h1:cadenceref3_Has.f k a0 la all[i]=some _:=h1 k (by omega)
   have h2:cadenceref3_Has.f k b0 lb all[i]=some _:=h2 k (by omega)
   have h5:cadenceref3_pick.j1 k all (i:Int) (hasL lb all[i] != b0) a0 la b0 lb g out=some r:=h5 k (by omega)
   show cadenceref3_pick.l0 (k+1) all (i:Int) a0 la b0 lb g out=some r
   rw [cadenceref3_pick.l0,if_pos (by omega),if_pos (by omega),rdOf_nat hil,h1,Option.bind_some,if_pos hA,h2,Option.bind_some,h5]
  ·obtain ⟨r,h3,h4,K3,h5⟩:=hj false
   refine ⟨r,h3,h4,K1+K3+1,fun k hk=>?_⟩
   obtain ⟨k,rfl⟩:∃ k',k=k'+1:=⟨k - 1,by omega⟩
   have h1:cadenceref3_Has.f k a0 la all[i]=some _:=h1 k (by omega)
   have h5:cadenceref3_pick.j1 k all (i:Int) false a0 la b0 lb g out=some r:=h5 k (by omega)
   show cadenceref3_pick.l0 (k+1) all (i:Int) a0 la b0 lb g out=some r
   rw [cadenceref3_pick.l0,if_pos (by omega),if_pos (by omega),rdOf_nat hil,h1,Option.bind_some,if_neg hA,h5]
theorem both3_ev (a0:Bool) (la:List ByteArray) (b0:Bool) (lb:List ByteArray) (hla:la.length≤1000000) (hlb:lb.length≤1000000) :
  ∃ r:Bool × List ByteArray,r.2.length≤la.length+lb.length∧Ev (fun k=>cadenceref3_Both.f k a0 la b0 lb) r:=by
 have hl:(la ++ lb).length=la.length+lb.length:=List.length_append
 obtain ⟨r,h1,h2,K,h3⟩:=pick_loop (la ++ lb) a0 la b0 lb (if a0=true then b0 else false) (by omega) (by omega) (by omega) _ 0 [] (Nat.zero_add _) (Nat.le_refl _)
 refine ⟨r,by omega,K,fun k hk=>?_⟩
 have h3:cadenceref3_pick.l0 k (la ++ lb) 0 a0 la b0 lb (if a0=true then b0 else false) []=some r:=h3 k hk
 show cadenceref3_Both.f k a0 la b0 lb=some r
 rw [cadenceref3_Both.f,cadenceref3_pick.f,if_pos rfl]
 simp only [Option.bind_some,List.nil_append,List.length_nil,Nat.zero_add]
 cases a0 with
 | true =>
  rw [if_pos rfl] at h3
  rw [if_pos rfl,if_pos (by omega),if_pos (by omega),h3]
  rfl
 | false =>
  rw [if_neg Bool.false_ne_true] at h3
  rw [if_neg Bool.false_ne_true,if_pos (by omega),if_pos (by omega),h3]
  rfl
theorem not3_ev (a0:Bool) (la:List ByteArray) (hla:la.length≤1000000):∃ r:Bool × List ByteArray,r.2.length≤la.length∧Ev (fun k=>cadenceref3_Not.f k a0 la) r:=by
 have loop:∀ d i (out:List ByteArray),i+d=la.length→out.length≤i→∃ r:Bool × List ByteArray,r.2.length≤la.length∧Ev (fun k=>cadenceref3_Not.l0 k (i:Int) a0 la (!a0) out) r:=by
  intro d
  induction d with
  | zero =>
   intro i out hi ho
   refine ⟨(!a0,out),by show out.length≤_;omega,Ev.step (f:=fun _=>some (!a0,out)) (fun k=>?_) (Ev.now _)⟩
   rw [cadenceref3_Not.l0,if_neg (by omega)]
  | succ d ih =>
   intro i out hi ho
   have hil:i < la.length:=by omega
   obtain ⟨q,hq,h1⟩:=put3_ev out la[i] (by omega)
   obtain ⟨r,h2,h3⟩:=ih (i+1) q (by omega) (by omega)
   refine ⟨r,h2,Ev.step (f:=fun k=>(cadenceref3_put.f k out la[i]).bind fun t=>cadenceref3_Not.l0 k ((i+1:Nat):Int) a0 la (!a0) t) (fun k=>?_) (Ev.bind h1 h3)⟩
   rw [cadenceref3_Not.l0,if_pos (by omega),if_pos (by omega),rdOf_nat hil,wrap_succ (by omega)]
 obtain ⟨r,h1,h2⟩:=loop _ 0 [] (Nat.zero_add _) (Nat.le_refl _)
 exact ⟨r,h1,h2⟩
theorem within3 (a:Int):∃ r,0≤r∧r < 5∧cadencelaw3_within.f a 5=some r:=by
 obtain ⟨r,r0,r1,h⟩:=tmod_in a (n:=5) (by omega) (by omega)
 refine ⟨r,r0,r1,?_⟩
 unfold cadencelaw3_within.f
 rw [if_neg (by omega),← h]
 split <;> rfl
theorem make3_ev (b:Bool) (l:List ByteArray) (hl:l.length≤1000000):∃ r:Bool × List ByteArray,r.2.length≤6∧Ev (fun k=>cadencelaw3_Make.f k b l) r:=by
 have stop:∀ i (out:List ByteArray),out.length≤i→i≤6→(l.length≤i∨6≤i)→∃ r:Bool × List ByteArray,r.2.length≤6∧Ev (fun k=>cadencelaw3_Make.l0 k (i:Int) b l b out) r:=by
  intro i out ho h6 hi
  refine ⟨(b,out),by show out.length≤_;omega,Ev.step (f:=fun _=>some (b,out)) (fun k=>?_) (Ev.now _)⟩
  rw [cadencelaw3_Make.l0]
  by_cases h:i < l.length
  ·rw [if_pos (by omega),if_neg (by omega)]
  ·rw [if_neg (by omega)]
 have loop:∀ d i (out:List ByteArray),i+d=6→out.length≤i→∃ r:Bool × List ByteArray,r.2.length≤6∧Ev (fun k=>cadencelaw3_Make.l0 k (i:Int) b l b out) r:=by
  intro d
  induction d with
  | zero=>intro i out hi ho;exact stop i out ho (by omega) (.inr (by omega))
  | succ d ih =>
   intro i out hi ho
   by_cases hil:i < l.length
   ·obtain ⟨t,t0,t1,ht⟩:=within3 (l[i].size:Int)
    obtain ⟨r,h1,h2⟩:=ih (i+1) (out ++ [rdOf ByteArray.empty five t]) (by omega) (by simp;omega)
    refine ⟨r,h1,Ev.step (fun k=>?_) h2⟩
    rw [cadencelaw3_Make.l0,if_pos (by omega),if_pos (by omega),Option.bind_some,if_pos (by omega),rdOf_nat hil,ht,Option.bind_some,if_pos t0,if_pos (by simp;omega),if_pos (by omega),wrap_succ (by omega)]
    rfl
   ·exact stop i out ho (by omega) (.inl (by omega))
 obtain ⟨r,h1,h2⟩:=loop _ 0 [] (Nat.zero_add _) (Nat.le_refl _)
 exact ⟨r,h1,h2⟩
end Go.Proofs.Ytoihiehoolehiaa.PX
set_option linter.unusedVariables false
set_option linter.unusedSimpArgs false
namespace Go.Proofs.Ytoihiehoolehiaa.PX
open Go.RowKit Go.Proofs.YtoihiehoolehiaaW.PrintWords Go.Proofs.YtoihiehoolehiaaW.PrintLast Go.Proofs.YtoihiehoolehiaaW.PrintMore Go.Proofs.Ytoihiehoolehiaa
def DefSm (d:Df):Prop:=d.f0.length≤3∧∀ f ∈ d.f0,f.f0.f1.length≤100
theorem mk_inner (s:Sc) (hs:Small4 s) (n:Int) (hn:1≤n∧n≤4) (out:Sc) (i:Nat) (hout:out.length≤10) {R:Sc→Prop}
  (next:∀ x:Df,DefSm x→∃ r,R r∧Ev (fun k=>cadencelaw4_Make.l0 k s n (out ++ [x]) ((i+1:Nat):Int)) r) (hi:i≤1000) :
  ∀ d j,j+d=3→∀ (fs:List Fd) (lb:Bool) (ll:List ByteArray),fs.length≤j→(∀ f ∈ fs,f.f0.f1.length≤100)→ll.length+6≤6 * 2 ^ j →
   ∃ r,R r∧Ev (fun k=>cadencelaw4_Make.l1 k s n out (i:Int) (j:Int) fs false false lb ll) r:=by
 have last:∀ j,j≤3→(¬ (i < s.length∧(∃ h:i < s.length,j < s[i].f0.length)∧j < 3))→∀ (fs:List Fd) (lb:Bool) (ll:List ByteArray),fs.length≤3→(∀ f ∈ fs,f.f0.f1.length≤100) →
   ∃ r,R r∧Ev (fun k=>cadencelaw4_Make.l1 k s n out (i:Int) (j:Int) fs false false lb ll) r:=by
  intro j hj3 hnot fs lb ll hf hl
  obtain ⟨r,hr,he⟩:=next ⟨fs,if h:i < s.length then s[i].f1 else false,if h:i < s.length then s[i].f2 else false⟩ ⟨hf,hl⟩
  have e2:Ev (fun k=>cadencelaw4_Make.j2 k s n out (i:Int) (j:Int) false fs false false lb ll) r:=by
   refine Ev.step (fun k=>?_) he
   rw [cadencelaw4_Make.j2,if_neg Bool.false_ne_true]
   by_cases h:i < s.length
   ·rw [if_pos (by omega),if_pos (by omega),if_pos (by omega),rdD_nat h,wrap_succ (by omega),dif_pos h,dif_pos h]
   ·rw [if_neg (by omega),if_pos (by omega),wrap_succ (by omega),dif_neg h,dif_neg h]
  refine ⟨r,hr,Ev.step (fun k=>?_) e2⟩
  rw [cadencelaw4_Make.l1]
  by_cases h:i < s.length
  ·rw [if_pos (by omega),if_pos (by omega),rdD_nat h]
   by_cases hj:j < s[i].f0.length
   ·rw [if_pos (by omega),decide_eq_false (fun h3=>hnot ⟨h,⟨h,hj⟩,by omega⟩)]
   ·rw [if_neg (by omega)]
  ·rw [if_neg (by omega)]
 intro d
 induction d with
 | zero=>intro j hj fs lb ll hf hl hp;exact last j (by omega) (fun h=>by omega) fs lb ll (by omega) hl
 | succ d ih =>
  intro j hj fs lb ll hf hl hp
  by_cases hgo:i < s.length∧(∃ h:i < s.length,j < s[i].f0.length)∧j < 3
  ·obtain ⟨hil,⟨_,hjl⟩,hj3⟩:=hgo
   have h2:2 ^ j≤4:=by
    have:j=0∨j=1∨j=2:=by omega
    rcases this with rfl|rfl|rfl <;> decide
   have hd:=hs.2 s[i] (List.getElem_mem hil)
   have hfl:=hd.2 s[i].f0[j] (List.getElem_mem hjl)
   obtain ⟨a,a1,a2⟩:=make3_ev s[i].f0[j].f0.f0 s[i].f0[j].f0.f1 (by omega)
   obtain ⟨m,m1,m2⟩:=both3_ev a.1 a.2 lb ll (by omega) (by omega)
   obtain ⟨q,q1,q2⟩:=not3_ev m.1 m.2 (by omega)
   obtain ⟨p,p1,p2⟩:=both3_ev lb ll q.1 q.2 (by omega) (by omega)
   obtain ⟨t,t0,t1,ht⟩:=within4 s[i].f0[j].f1 (n:=n) (by omega) (by omega)
   obtain ⟨r,hr,he⟩:=ih (j+1) (by omega) (fs ++ [⟨⟨m.1,m.2⟩,t,if s[i].f0[j].f2=true then !m.1 else false⟩]) p.1 p.2 (by simp;omega) (fun f hf=>by
    rcases List.mem_append.1 hf with hf|hf
    ·exact hl f hf
    ·simp only [List.mem_singleton] at hf
     subst hf
     show m.2.length≤100
     omega) (by rw [Nat.pow_succ];omega)
   have e3:Ev (fun k=>cadencelaw4_Make.j3 k s n out (i:Int) (j:Int) fs false false p.1 p.2 s[i].f0[j].f0.f0 s[i].f0[j].f0.f1 s[i].f0[j].f1 s[i].f0[j].f2 m.1 m.2) r:=by
    refine Ev.step (fun k=>?_) he
    rw [cadencelaw4_Make.j3,ht,Option.bind_some,wrap_succ (by omega)]
    by_cases hN:s[i].f0[j].f2=true
    ·rw [if_pos hN,if_pos (by omega),if_pos hN]
    ·rw [if_neg hN,if_pos (by omega),if_neg hN]
   have e2:Ev (fun k=>cadencelaw4_Make.j2 k s n out (i:Int) (j:Int) true fs false false lb ll) r:=by
    refine Ev.step (f:=fun k=>(cadencelaw3_Make.f k s[i].f0[j].f0.f0 s[i].f0[j].f0.f1).bind fun b1=>(cadenceref3_Both.f k b1.1 b1.2 lb ll).bind fun b2=>(cadenceref3_Not.f k b2.1 b2.2).bind fun b3=>(cadenceref3_Both.f k lb ll b3.1 b3.2).bind fun b4=>cadencelaw4_Make.j3 k s n out (i:Int) (j:Int) fs false false b4.1 b4.2 s[i].f0[j].f0.f0 s[i].f0[j].f0.f1 s[i].f0[j].f1 s[i].f0[j].f2 b2.1 b2.2) (fun k=>?_) (Ev.bind a2 (Ev.bind m2 (Ev.bind q2 (Ev.bind p2 e3))))
    rw [cadencelaw4_Make.j2,if_pos rfl,if_pos (by omega),if_pos (by omega),if_pos (by omega),rdD_nat hil,if_pos (by omega),rdF_nat hjl]
   refine ⟨r,hr,Ev.step (fun k=>?_) e2⟩
   rw [cadencelaw4_Make.l1,if_pos (by omega),if_pos (by omega),rdD_nat hil,if_pos (by omega),decide_eq_true (by omega)]
  ·exact last j (by omega) hgo fs lb ll (by omega) hl
theorem make4_ev (s:Sc) (hs:Small4 s):∃ r:Sc,(r.length≤4∧∀ d ∈ r,DefSm d)∧Ev (fun k=>cadencelaw4_Make.f k s) r:=by
 obtain ⟨n,h1,h4,hn⟩:∃ n:Nat,1≤n∧n≤4∧mx 1 (mn (s.length:Int) 4)=(n:Int):=by
  unfold mx mn
  refine ⟨(if (1:Int) < (if (s.length:Int) < 4 then (s.length:Int) else 4) then (if (s.length:Int) < 4 then (s.length:Int) else 4) else 1).toNat,?_,?_,?_⟩ <;> (repeat' split) <;> omega
 have outer:∀ d i,i+d=n→∀ out:Sc,out.length=i→(∀ x ∈ out,DefSm x)→∃ r:Sc,(r.length≤4∧∀ d ∈ r,DefSm d)∧Ev (fun k=>cadencelaw4_Make.l0 k s (n:Int) out (i:Int)) r:=by
  intro d
  induction d with
  | zero =>
   intro i hi out ho hx
   refine ⟨out,⟨by omega,hx⟩,Ev.step (f:=fun _=>some out) (fun k=>?_) (Ev.now _)⟩
   rw [cadencelaw4_Make.l0,if_neg (by omega)]
  | succ d ih =>
   intro i hi out ho hx
   obtain ⟨r,hr,he⟩:=mk_inner s hs (n:Int) (by omega) out i (by omega) (R:=fun r=>r.length≤4∧∀ d ∈ r,DefSm d) (fun x hx'=>ih (i+1) (by omega) (out ++ [x]) (by simp;omega) (fun y hy=>by
    rcases List.mem_append.1 hy with hy|hy
    ·exact hx y hy
    ·simp only [List.mem_singleton] at hy;subst hy;exact hx')) (by omega) 3 0 (by omega) [] true [] (by simp) (by simp) (by simp)
   refine ⟨r,hr,Ev.step (fun k=>?_) he⟩
   rw [cadencelaw4_Make.l0,if_pos (by omega)]
   rfl
 obtain ⟨r,hr,he⟩:=outer n 0 (by omega) [] rfl (by simp)
 refine ⟨r,hr,?_⟩
 show Ev (fun k=>cadencelaw4_Make.l0 k s (mx 1 (mn (s.length:Int) 4)) [] 0) r
 rw [hn]
 exact he
theorem small_ok {r:Sc} (h:r.length≤4∧∀ d ∈ r,DefSm d):ScOk r:=⟨by omega,fun d hd=>⟨by have:=(h.2 d hd).1;omega,fun f hf=>by have:=(h.2 d hd).2 f hf;omega⟩⟩
theorem ok_trOk (W:Nat) (hW:W≤1000000):∀ (d:Nat) (t:Tr),Ok W d t→trOk t=true
 | 0,t,h=>by rw [show t = [] from h];exact trOk_nil
 | d+1,t,h=>by
  rw [trOk_eq,Bool.and_eq_true,decide_eq_true_eq,List.all_eq_true]
  exact ⟨by have:=h.1;omega,fun x hx=>ok_trOk W hW d x.f1 (h.2.2 x hx)⟩
theorem trOk_len {t:Tr} (h:trOk t=true):t.length≤1000000000000∧∀ x ∈ t,trOk x.f1=true:=by
 rw [trOk_eq,Bool.and_eq_true,decide_eq_true_eq,List.all_eq_true] at h
 exact h
end Go.Proofs.Ytoihiehoolehiaa.PX
namespace Go.Proofs.Ytoihiehoolehiaa.PX
open Go.RowKit Go.Proofs.YtoihiehoolehiaaW.PrintWords Go.Proofs.YtoihiehoolehiaaW.PrintLast Go.Proofs.YtoihiehoolehiaaW.PrintMore
attribute [local go_sem] max2_int min2_int max_two min_two max_three min_three max_four min_four   
set_option linter.unusedVariables false
set_option linter.unusedSimpArgs false
mutual
def cadenceref4_To.j0:Nat→List (S33)→Int→ByteArray→Bool→Option (Int)
 | 0,_,_,_,_=>none
 | k+1,x0,x1,x2,x16=>if x16=true then (some (-1)) else (if 0≤x1 then (if x1 < (x0.length:Int) then (cadenceref4_To.l0 k x2 ((rd_T33 x0 x1).f0) 0) else (none)) else (none))
def cadenceref4_To.l0:Nat→ByteArray→List (S40)→Int→Option (Int)
 | 0,_,_,_=>none
 | k+1,x2,x7,x8=>if x8 < (x7.length:Int) then (if 0≤x8 then ((cadenceref3_Has.f k ((rd_T40 x7 x8).f0.f0) ((rd_T40 x7 x8).f0.f1) x2).bind fun t314=>(if t314=true then (some ((rd_T40 x7 x8).f1)) else (cadenceref4_To.l0 k x2 x7 (wrap64 (x8+1))))) else (none)) else (some (-1))
end
def cadenceref4_To.f (k:Nat) (l0:List (S33)) (a1:Int) (a2:ByteArray):Option (Int):=if a1 < 0 then (cadenceref4_To.j0 k l0 a1 a2 true) else (cadenceref4_To.j0 k l0 a1 a2 (decide (a1 ≥ (l0.length:Int))))
theorem cadenceref4_To.mono_l:∀ k,(∀ y0 y1 y2 y3,LeO (cadenceref4_To.j0 k y0 y1 y2 y3) (cadenceref4_To.j0 (k+1) y0 y1 y2 y3))∧(∀ y0 y1 y2,LeO (cadenceref4_To.l0 k y0 y1 y2) (cadenceref4_To.l0 (k+1) y0 y1 y2))
 | 0=>⟨fun _ _ _ _ r h=>by simp [cadenceref4_To.j0] at h,fun _ _ _ r h=>by simp [cadenceref4_To.l0] at h⟩
 | k+1=>by
  obtain ⟨ih0,ih1⟩:=cadenceref4_To.mono_l k
  refine ⟨?_,?_⟩
  ·intro y0 y1 y2 y3
   unfold cadenceref4_To.j0
   repeat' first
   | (with_reducible exact ih0 _ _ _ _)
   | (with_reducible exact ih1 _ _ _)
   | (with_reducible exact cadenceref3_Has.mono _ _ _ _)
   | (with_reducible exact LeO.refl _)
   | (with_reducible exact LeO.none _)
   | (with_reducible refine LeO.ite ?_ ?_)
   | (with_reducible refine LeO.bind ?_ (fun _=>?_))
   | exact ih0 _ _ _ _
   | exact ih1 _ _ _
   | exact cadenceref3_Has.mono _ _ _ _
   | exact LeO.none _
   | refine LeO.ite ?_ ?_
   | refine LeO.bind ?_ (fun _=>?_)
  ·intro y0 y1 y2
   unfold cadenceref4_To.l0
   repeat' first
   | (with_reducible exact ih0 _ _ _ _)
   | (with_reducible exact ih1 _ _ _)
   | (with_reducible exact cadenceref3_Has.mono _ _ _ _)
   | (with_reducible exact LeO.refl _)
   | (with_reducible exact LeO.none _)
   | (with_reducible refine LeO.ite ?_ ?_)
   | (with_reducible refine LeO.bind ?_ (fun _=>?_))
   | exact ih0 _ _ _ _
   | exact ih1 _ _ _
   | exact cadenceref3_Has.mono _ _ _ _
   | exact LeO.none _
   | refine LeO.ite ?_ ?_
   | refine LeO.bind ?_ (fun _=>?_)
theorem cadenceref4_To.mono:∀ a0 a1 a2 k,LeO (cadenceref4_To.f k a0 a1 a2) (cadenceref4_To.f (k+1) a0 a1 a2):=by
 intro a0 a1 a2 k
 obtain ⟨ih0,ih1⟩:=cadenceref4_To.mono_l k
 unfold cadenceref4_To.f
 repeat' first
   | (with_reducible exact ih0 _ _ _ _)
   | (with_reducible exact ih1 _ _ _)
   | (with_reducible exact cadenceref3_Has.mono _ _ _ _)
   | (with_reducible exact LeO.refl _)
   | (with_reducible exact LeO.none _)
   | (with_reducible refine LeO.ite ?_ ?_)
   | (with_reducible refine LeO.bind ?_ (fun _=>?_))
   | exact ih0 _ _ _ _
   | exact ih1 _ _ _
   | exact cadenceref3_Has.mono _ _ _ _
   | exact LeO.none _
   | refine LeO.ite ?_ ?_
   | refine LeO.bind ?_ (fun _=>?_)
set_option maxHeartbeats 8000000 in
set_option maxRecDepth 100000 in
theorem cadenceref4_To.calls (k:Nat) (A0:Option Addr) (c0:Nat) (l0:List (S33)) (a1:Int) (a2:ByteArray) (r:Int) (w:World) (hr0:Kd.C k33 w A0 l0.length l0) (hc0:l0.length≤c0) (h:cadenceref4_To.f k l0 a1 a2=some r) :
  Calls Try.prog 21 #[.slice A0 l0.length c0,.int .i64 a1,.string a2] w fun e w'=>e=.returned (.int .i64 r)∧Below w.heap.size w w':=by
 have hu38:=Try.underlying38
 have HR0:=Aside0.mk hr0
 have HC0:=Aside0.mk hc0
 clear hr0 hc0
 have HB:=Aside0.mk (Below.refl w.heap.size w)
 have H:(if a1 < 0 then (cadenceref4_To.j0 k l0 a1 a2 true) else (cadenceref4_To.j0 k l0 a1 a2 (decide (a1 ≥ (l0.length:Int)))))=some r:=h
 clear h
 have HC4:=Aside0.mk H
 clear H
 go_enter Try.func21,Try.ntmps21
 go_upto_region 1 with (fail)
 go_cut [16] (fun v16 wc=>∃ (kq:Nat) (x16_3:Bool),v16=.bool x16_3∧Aside0 (cadenceref4_To.j0 kq l0 a1 a2 x16_3=some r)∧Aside0 (kq≤k)∧Aside0 (Below w.heap.size w wc))
 case first =>
  have H:=HC4.out
  clear HC4
  by_cases c5:a1 < 0
  ·rw [if_pos c5] at H
   have c5b0:decide (a1 < 0)=true:=decide_eq_true c5
   clear c5
   (first|rw [c5b0]|(simp only [i64_w,i32_w];rw [c5b0])|skip)
   have H':=Aside0.mk H
   clear H
   go_wp2
   go_meet
   case rel=>exact ⟨_,(true),(by first|rfl|(simp;done)|(simp [*];done)),H',⟨by first|omega|exact Nat.le_refl _⟩,⟨by repeat (first|(with_reducible first|exact HB.out|apply bA_|apply bN_|apply bD_)|exact HB.out)⟩⟩
  ·rw [if_neg c5] at H
   have c5b0:decide (a1 < 0)=false:=decide_eq_false c5
   clear c5
   (first|rw [c5b0]|(simp only [i64_w,i32_w];rw [c5b0])|skip)
   have H':=Aside0.mk H
   clear H
   go_wp2
   go_meet
   case rel=>exact ⟨_,(decide (a1 ≥ (l0.length:Int))),(by first|rfl|(simp;done)|(simp [*];done)),H',⟨by first|omega|exact Nat.le_refl _⟩,⟨by repeat (first|(with_reducible first|exact HB.out|apply bA_|apply bN_|apply bD_)|exact HB.out)⟩⟩
 case rest =>
  clear HC4
  try clear c2
  try clear p2
  try clear c5
  try clear c5b0
  obtain ⟨kq,x16_3,rfl,HA,HJ3,HB⟩:=hcut
  cases kq with
  | zero=>exact absurd HA.out (by simp [cadenceref4_To.j0])
  | succ kj3 =>
   have H:=HA.out
   clear HA
   simp only [cadenceref4_To.j0] at H
   by_cases c6:x16_3=true
   ·subst c6
    have H1:(some (-1))=some r:=by rw [if_pos rfl] at H;exact H
    clear H
    have H:=H1
    clear H1
    obtain rfl:=Option.some.inj H
    go_wp2
    go_ret
    exact ⟨by first|rfl|(simp [errW_none,errW_some] <;> rfl)|(simp [*,errW_none,errW_some] <;> rfl),by repeat (first|(with_reducible first|exact HB.out|apply bA_|apply bN_|apply bD_)|exact HB.out)⟩
   ·replace c6:=Bool.eq_false_iff.mpr c6
    subst c6
    have H1:(if 0≤a1 then (if a1 < (l0.length:Int) then (cadenceref4_To.l0 kj3 a2 ((rd_T33 l0 a1).f0) 0) else (none)) else (none))=some r:=by rw [if_neg (show ¬ (false=true) by decide)] at H;exact H
    clear H
    have H:=H1
    clear H1
    by_cases c7:0≤a1
    ·rw [if_pos c7] at H
     have c7b0:decide (0≤a1)=true:=decide_eq_true c7
     clear c7
     by_cases c8:a1 < (l0.length:Int)
     ·rw [if_pos c8] at H
      have c8b0:decide (a1 < (l0.length:Int))=true:=decide_eq_true c8
      clear c8
      have H':=Aside0.mk H
      clear H
      have p312:0≤(a1:Int):=of_decide_eq_true (by first|(with_reducible assumption)|assumption)
      have q312:a1 < (l0.length:Int):=of_decide_eq_true (by first|(with_reducible assumption)|assumption)
      obtain ⟨ad312,A312_0,c312_0,e312,hx312_0,hx312_1,hx312_2,hl312_0,hi312_0⟩:=at_T33 HR0.out a1 p312 q312
      cases e312
      replace hx312_0:=(HB.out.cell (World.block_lt_of_cell? w _ hx312_0)).trans hx312_0
      replace hx312_1:=(HB.out.cell (World.block_lt_of_cell? w _ hx312_1)).trans hx312_1
      replace hx312_2:=(HB.out.cell (World.block_lt_of_cell? w _ hx312_2)).trans hx312_2
      have HR312_0:=Aside0.mk hi312_0
      have HC312_0:=Aside0.mk hl312_0
      clear hi312_0 hl312_0
      replace p312:=eq_true p312
      replace q312:=eq_true q312
      go_wp2
      go_loopg [8] kj3 (fun kq v8 w'=>∃ (x8_2:Int),v8=.int .i64 x8_2∧Aside0 (cadenceref4_To.l0 kq a2 ((rd_T33 l0 a1).f0) x8_2=some r)∧Aside0 (kq≤kj3)∧Aside0 (Below w.heap.size w w'))
      case atStart=>exact ⟨(0),(by first|rfl|(simp;done)|(simp [*];done)),H',⟨Nat.le_refl _⟩,⟨by repeat (first|(with_reducible first|exact HB.out|apply bA_|apply bN_|apply bD_)|exact HB.out)⟩⟩
      case round =>
       clear H'
       try clear c2
       try clear p2
       try clear c3
       try clear p3
       try clear q3
       try clear hx3
       try clear c5
       try clear c5b0
       try clear c6
       try clear c7
       try clear c7b0
       try clear c8
       try clear c8b0
       try clear hx312_0
       try clear hx312_1
       try clear hx312_2
       try clear p2
       try clear p312
       try clear q312
       obtain ⟨x8_2,rfl,HA,HK2,HB⟩:=hrel
       cases gk with
       | zero=>exact absurd HA.out (by simp [cadenceref4_To.l0])
       | succ k2 =>
        have H:=HA.out
        clear HA
        simp only [cadenceref4_To.l0] at H
        by_cases c9:x8_2 < (((rd_T33 l0 a1).f0).length:Int)
        ·rw [if_pos c9] at H
         have c9b0:decide (x8_2 < (((rd_T33 l0 a1).f0).length:Int))=true:=decide_eq_true c9
         clear c9
         by_cases c10:0≤x8_2
         ·rw [if_pos c10] at H
          have c10b0:decide (0≤x8_2)=true:=decide_eq_true c10
          clear c10
          replace H:=Option.bind_eq_some_iff.mp H
          obtain ⟨t314,A110,H⟩:=H
          replace H:(if t314=true then (some ((rd_T40 ((rd_T33 l0 a1).f0) x8_2).f1)) else (cadenceref4_To.l0 k2 a2 ((rd_T33 l0 a1).f0) (wrap64 (x8_2+1))))=some r:=H
          have A11:=Aside0.mk A110
          clear A110
          by_cases c12:t314=true
          ·subst c12
           have H1:(some ((rd_T40 ((rd_T33 l0 a1).f0) x8_2).f1))=some r:=by rw [if_pos rfl] at H;exact H
           clear H
           have H:=H1
           clear H1
           obtain rfl:=Option.some.inj H
           have p313:0≤(x8_2:Int):=of_decide_eq_true (by first|(with_reducible assumption)|assumption)
           have q313:x8_2 < (((rd_T33 l0 a1).f0).length:Int):=of_decide_eq_true (by first|(with_reducible assumption)|assumption)
           obtain ⟨ad313,A313_1,c313_1,e313,hx313_0,hx313_1,hx313_2,hx313_3,hl313_1,hi313_1⟩:=at_T40 HR312_0.out x8_2 p313 q313
           cases e313
           replace hx313_0:=(HB.out.cell (World.block_lt_of_cell? w _ hx313_0)).trans hx313_0
           replace hx313_1:=(HB.out.cell (World.block_lt_of_cell? w _ hx313_1)).trans hx313_1
           replace hx313_2:=(HB.out.cell (World.block_lt_of_cell? w _ hx313_2)).trans hx313_2
           replace hx313_3:=(HB.out.cell (World.block_lt_of_cell? w _ hx313_3)).trans hx313_3
           have HR313_1:=Aside0.mk hi313_1
           have HC313_1:=Aside0.mk hl313_1
           clear hi313_1 hl313_1
           replace p313:=eq_true p313
           replace q313:=eq_true q313
           go_wp2_with (first|((with_reducible refine gate_callee (f:=42) rfl ?_);refine goesL_ (some 34) rfl rfl Try.func42 (by kernel_rfl) rfl #[.agg #[.bool ((rd_T40 ((rd_T33 l0 a1).f0) x8_2).f0.f0),.slice A313_1 ((rd_T40 ((rd_T33 l0 a1).f0) x8_2).f0.f1).length c313_1],.string a2] rfl (by (try simp only [List.map_toArray,List.map_cons,List.map_nil]);first|done|rfl|(simp only [List.length_drop,List.length_take];rfl)) ?_;(with_reducible refine (cadenceref3_Has.calls k2 ((rd_T40 ((rd_T33 l0 a1).f0) x8_2).f0.f0) _ _ ((rd_T40 ((rd_T33 l0 a1).f0) x8_2).f0.f1) a2 true _ ?side1 ?side2 A11.out).mono ?_);(case side1=>repeat (first|exact (Kd.C_below HR313_1.out HB.out)|(with_reducible refine cA_ ?_ _)|(with_reducible refine cN_ ?_ _)|(with_reducible refine cD_ ?_)));(case side2=>exact HC313_1.out);rintro e w13 ⟨rfl,hb⟩;refine ⟨_,rfl,?_⟩;have n0_:=Aside0.mk (below_step (by repeat (first|(with_reducible first|exact HB.out|apply bA_|apply bN_|apply bD_)|exact HB.out)) hb);clear HB;have HB:=n0_;clear n0_;(try clear hb);(try clear hb2);(try clear hk);(try clear hi);have p315:0≤(x8_2:Int):=of_decide_eq_true (by first|(with_reducible assumption)|assumption);have q315:x8_2 < (((rd_T33 l0 a1).f0).length:Int):=of_decide_eq_true (by first|(with_reducible assumption)|assumption);obtain ⟨ad315,A315_1,c315_1,e315,hx315_0,hx315_1,hx315_2,hx315_3,hl315_1,hi315_1⟩:=at_T40 HR312_0.out x8_2 p315 q315;obtain rfl:ad313=ad315:=(by injection e315);replace hx315_0:=(HB.out.cell (World.block_lt_of_cell? w _ hx315_0)).trans hx315_0;replace hx315_1:=(HB.out.cell (World.block_lt_of_cell? w _ hx315_1)).trans hx315_1;replace hx315_2:=(HB.out.cell (World.block_lt_of_cell? w _ hx315_2)).trans hx315_2;replace hx315_3:=(HB.out.cell (World.block_lt_of_cell? w _ hx315_3)).trans hx315_3;have HR315_1:=Aside0.mk hi315_1;have HC315_1:=Aside0.mk hl315_1;clear hi315_1 hl315_1;replace p315:=eq_true p315;replace q315:=eq_true q315))
           go_ret
           exact ⟨by first|rfl|(simp [errW_none,errW_some] <;> rfl)|(simp [*,errW_none,errW_some] <;> rfl),by repeat (first|(with_reducible first|exact HB.out|apply bA_|apply bN_|apply bD_)|exact HB.out)⟩
          ·replace c12:=Bool.eq_false_iff.mpr c12
           subst c12
           have H1:(cadenceref4_To.l0 k2 a2 ((rd_T33 l0 a1).f0) (wrap64 (x8_2+1)))=some r:=by rw [if_neg (show ¬ (false=true) by decide)] at H;exact H
           clear H
           have H:=H1
           clear H1
           have H':=Aside0.mk H
           clear H
           have p313:0≤(x8_2:Int):=of_decide_eq_true (by first|(with_reducible assumption)|assumption)
           have q313:x8_2 < (((rd_T33 l0 a1).f0).length:Int):=of_decide_eq_true (by first|(with_reducible assumption)|assumption)
           obtain ⟨ad313,A313_1,c313_1,e313,hx313_0,hx313_1,hx313_2,hx313_3,hl313_1,hi313_1⟩:=at_T40 HR312_0.out x8_2 p313 q313
           cases e313
           replace hx313_0:=(HB.out.cell (World.block_lt_of_cell? w _ hx313_0)).trans hx313_0
           replace hx313_1:=(HB.out.cell (World.block_lt_of_cell? w _ hx313_1)).trans hx313_1
           replace hx313_2:=(HB.out.cell (World.block_lt_of_cell? w _ hx313_2)).trans hx313_2
           replace hx313_3:=(HB.out.cell (World.block_lt_of_cell? w _ hx313_3)).trans hx313_3
           have HR313_1:=Aside0.mk hi313_1
           have HC313_1:=Aside0.mk hl313_1
           clear hi313_1 hl313_1
           replace p313:=eq_true p313
           replace q313:=eq_true q313
           go_wp2_with (first|((with_reducible refine gate_callee (f:=42) rfl ?_);refine goesL_ (some 34) rfl rfl Try.func42 (by kernel_rfl) rfl #[.agg #[.bool ((rd_T40 ((rd_T33 l0 a1).f0) x8_2).f0.f0),.slice A313_1 ((rd_T40 ((rd_T33 l0 a1).f0) x8_2).f0.f1).length c313_1],.string a2] rfl (by (try simp only [List.map_toArray,List.map_cons,List.map_nil]);first|done|rfl|(simp only [List.length_drop,List.length_take];rfl)) ?_;(with_reducible refine (cadenceref3_Has.calls k2 ((rd_T40 ((rd_T33 l0 a1).f0) x8_2).f0.f0) _ _ ((rd_T40 ((rd_T33 l0 a1).f0) x8_2).f0.f1) a2 false _ ?side1 ?side2 A11.out).mono ?_);(case side1=>repeat (first|exact (Kd.C_below HR313_1.out HB.out)|(with_reducible refine cA_ ?_ _)|(with_reducible refine cN_ ?_ _)|(with_reducible refine cD_ ?_)));(case side2=>exact HC313_1.out);rintro e w14 ⟨rfl,hb⟩;refine ⟨_,rfl,?_⟩;have n0_:=Aside0.mk (below_step (by repeat (first|(with_reducible first|exact HB.out|apply bA_|apply bN_|apply bD_)|exact HB.out)) hb);clear HB;have HB:=n0_;clear n0_;(try clear hb);(try clear hb2);(try clear hk);(try clear hi)))
           go_roundg k2
           case measure=>have:=HJ3.out;have:=HK2.out;omega
           case rel=>exact ⟨(wrap64 (x8_2+1)),(by first|rfl|(simp;done)|(simp [*];done)),H',⟨by have:=HJ3.out;have:=HK2.out;omega⟩,⟨by repeat (first|(with_reducible first|exact HB.out|apply bA_|apply bN_|apply bD_)|exact HB.out)⟩⟩
         ·rw [if_neg c10] at H
          exact absurd H (by simp)
        ·rw [if_neg c9] at H
         have c9b0:decide (x8_2 < (((rd_T33 l0 a1).f0).length:Int))=false:=decide_eq_false c9
         clear c9
         obtain rfl:=Option.some.inj H
         go_wp2
         go_ret
         exact ⟨by first|rfl|(simp [errW_none,errW_some] <;> rfl)|(simp [*,errW_none,errW_some] <;> rfl),by repeat (first|(with_reducible first|exact HB.out|apply bA_|apply bN_|apply bD_)|exact HB.out)⟩
     ·rw [if_neg c8] at H
      exact absurd H (by simp)
    ·rw [if_neg c7] at H
     exact absurd H (by simp)
end Go.Proofs.Ytoihiehoolehiaa.PX
namespace Go.Proofs.Ytoihiehoolehiaa.PX
open Go.RowKit Go.Proofs.YtoihiehoolehiaaW.PrintWords Go.Proofs.YtoihiehoolehiaaW.PrintLast Go.Proofs.YtoihiehoolehiaaW.PrintMore
attribute [local go_sem] max2_int min2_int max_two min_two max_three min_three max_four min_four   
set_option linter.unusedVariables false
set_option linter.unusedSimpArgs false
def cadenceref4_has.l0:Nat→List (S53)→ByteArray→Int→Option (Bool)
 | 0,_,_,_=>none
 | k+1,x0,x1,x5=>if x5 < (x0.length:Int) then (if 0≤x5 then (if ((rd_T53 x0 x5).f0).toList=x1.toList then (some true) else (cadenceref4_has.l0 k x0 x1 (wrap64 (x5+1)))) else (none)) else (some false)
def cadenceref4_has.f (k:Nat) (l0:List (S53)) (a1:ByteArray):Option (Bool):=cadenceref4_has.l0 k l0 a1 0
theorem cadenceref4_has.mono_l:∀ k,(∀ y0 y1 y2,LeO (cadenceref4_has.l0 k y0 y1 y2) (cadenceref4_has.l0 (k+1) y0 y1 y2))
 | 0=>fun _ _ _ r h=>by simp [cadenceref4_has.l0] at h
 | k+1=>by
  have ih0:=cadenceref4_has.mono_l k
  ·intro y0 y1 y2
   unfold cadenceref4_has.l0
   repeat' first
   | (with_reducible exact ih0 _ _ _)
   | (with_reducible exact LeO.refl _)
   | (with_reducible exact LeO.none _)
   | (with_reducible refine LeO.ite ?_ ?_)
   | (with_reducible refine LeO.bind ?_ (fun _=>?_))
   | exact ih0 _ _ _
   | exact LeO.none _
   | refine LeO.ite ?_ ?_
   | refine LeO.bind ?_ (fun _=>?_)
theorem cadenceref4_has.mono:∀ a0 a1 k,LeO (cadenceref4_has.f k a0 a1) (cadenceref4_has.f (k+1) a0 a1):=by
 intro a0 a1 k
 have ih0:=cadenceref4_has.mono_l k
 unfold cadenceref4_has.f
 repeat' first
   | (with_reducible exact ih0 _ _ _)
   | (with_reducible exact LeO.refl _)
   | (with_reducible exact LeO.none _)
   | (with_reducible refine LeO.ite ?_ ?_)
   | (with_reducible refine LeO.bind ?_ (fun _=>?_))
   | exact ih0 _ _ _
   | exact LeO.none _
   | refine LeO.ite ?_ ?_
   | refine LeO.bind ?_ (fun _=>?_)
set_option maxHeartbeats 8000000 in
set_option maxRecDepth 100000 in
theorem cadenceref4_has.calls (k:Nat) (A0:Option Addr) (c0:Nat) (l0:List (S53)) (a1:ByteArray) (r:Bool) (w:World) (hr0:Kd.C k53 w A0 l0.length l0) (hc0:l0.length≤c0) (h:cadenceref4_has.f k l0 a1=some r) :
  Calls Try.prog 37 #[.slice A0 l0.length c0,.string a1] w fun e w'=>e=.returned (.bool r)∧Drawn0 w w':=by
 have HR0:=Aside0.mk hr0
 have HC0:=Aside0.mk hc0
 clear hr0 hc0
 have H:(cadenceref4_has.l0 k l0 a1 0)=some r:=h
 clear h
 have H':=Aside0.mk H
 clear H
 go_enter Try.func37,Try.ntmps37
 go_wp2
 go_loopg [5] k (fun kq v5 w'=>∃ (x5_1:Int),v5=.int .i64 x5_1∧Aside0 (cadenceref4_has.l0 kq l0 a1 x5_1=some r)∧Aside0 (kq≤k)∧Drawn0 w w')
 case atStart=>exact ⟨(0),(by first|rfl|(simp;done)|(simp [*];done)),H',⟨Nat.le_refl _⟩,by repeat (first|exact Drawn0.refl _|apply Drawn0.step)⟩
 case round =>
  clear H'
  try clear p2
  obtain ⟨x5_1,rfl,HA,HK1,⟨m1,rfl⟩⟩:=hrel
  cases gk with
  | zero=>exact absurd HA.out (by simp [cadenceref4_has.l0])
  | succ k1 =>
   have H:=HA.out
   clear HA
   simp only [cadenceref4_has.l0] at H
   by_cases c3:x5_1 < (l0.length:Int)
   ·rw [if_pos c3] at H
    have c3b0:decide (x5_1 < (l0.length:Int))=true:=decide_eq_true c3
    clear c3
    by_cases c4:0≤x5_1
    ·rw [if_pos c4] at H
     have c4b0:decide (0≤x5_1)=true:=decide_eq_true c4
     clear c4
     by_cases c5:((rd_T53 l0 x5_1).f0).toList=a1.toList
     ·rw [if_pos c5] at H
      have c5b0:(((rd_T53 l0 x5_1).f0).toList == a1.toList)=true:=beq_iff_eq.mpr c5
      have c5b1:(((rd_T53 l0 x5_1).f0).toList != a1.toList)=false:=bne_eq_false_iff_eq.mpr c5
      clear c5
      obtain rfl:=Option.some.inj H
      have p316:0≤(x5_1:Int):=of_decide_eq_true (by first|(with_reducible assumption)|assumption)
      have q316:x5_1 < (l0.length:Int):=of_decide_eq_true (by first|(with_reducible assumption)|assumption)
      obtain ⟨ad316,A316_1,c316_1,e316,hx316_0,hx316_1,hl316_1,hi316_1⟩:=at_T53 HR0.out x5_1 p316 q316
      cases e316
      have HR316_1:=Aside0.mk hi316_1
      have HC316_1:=Aside0.mk hl316_1
      clear hi316_1 hl316_1
      replace p316:=eq_true p316
      replace q316:=eq_true q316
      go_wp2
      go_ret
      exact ⟨by first|rfl|(simp;done)|(simp [*];done),by repeat (first|exact Drawn0.refl _|apply Drawn0.step)⟩
     ·rw [if_neg c5] at H
      have c5b0:(((rd_T53 l0 x5_1).f0).toList == a1.toList)=false:=beq_eq_false_iff_ne.mpr c5
      have c5b1:(((rd_T53 l0 x5_1).f0).toList != a1.toList)=true:=bne_iff_ne.mpr c5
      have H':=Aside0.mk H
      clear H
      have p316:0≤(x5_1:Int):=of_decide_eq_true (by first|(with_reducible assumption)|assumption)
      have q316:x5_1 < (l0.length:Int):=of_decide_eq_true (by first|(with_reducible assumption)|assumption)
      obtain ⟨ad316,A316_1,c316_1,e316,hx316_0,hx316_1,hl316_1,hi316_1⟩:=at_T53 HR0.out x5_1 p316 q316
      cases e316
      have HR316_1:=Aside0.mk hi316_1
      have HC316_1:=Aside0.mk hl316_1
      clear hi316_1 hl316_1
      replace p316:=eq_true p316
      replace q316:=eq_true q316
      go_wp2
      go_roundg k1
      case measure=>have:=HK1.out;omega
      case rel=>exact ⟨(wrap64 (x5_1+1)),(by first|rfl|(simp;done)|(simp [*];done)),H',⟨by have:=HK1.out;omega⟩,by repeat (first|exact Drawn0.refl _|apply Drawn0.step)⟩
    ·rw [if_neg c4] at H
     exact absurd H (by simp)
   ·rw [if_neg c3] at H
    have c3b0:decide (x5_1 < (l0.length:Int))=false:=decide_eq_false c3
    clear c3
    obtain rfl:=Option.some.inj H
    go_wp2
    go_ret
    exact ⟨by first|rfl|(simp;done)|(simp [*];done),by repeat (first|exact Drawn0.refl _|apply Drawn0.step)⟩
end Go.Proofs.Ytoihiehoolehiaa.PX
