/- Texts on the way to 'SchemaChecks', one behind the other (part 2). -/
import Derived.Test.YtoihiehoolehiaaMSchemaChecks1
namespace Go.Proofs.Ytoihiehoolehiaa.PX
open Go.RowKit Go.Proofs.YtoihiehoolehiaaW.PrintWords Go.Proofs.YtoihiehoolehiaaW.PrintLast Go.Proofs.YtoihiehoolehiaaW.PrintMore
attribute [local go_sem] max2_int min2_int max_two min_two max_three min_three max_four min_four   
set_option linter.unusedVariables false
set_option linter.unusedSimpArgs false
attribute [local go_sem] run_field_87_0
mutual
def cadenceref3_pick.l0:Nat→List ByteArray→Int→Bool→List ByteArray→Bool→List ByteArray→Bool→List ByteArray→Option (Bool × List ByteArray)
 | 0,_,_,_,_,_,_,_,_=>none
 | k+1,x8,x9,x164000,x164001,x165000,x165001,x167000,x167001=>if x9 < (x8.length:Int) then (if 0≤x9 then ((cadenceref3_Has.f k x164000 x164001 (rdOf ByteArray.empty x8 x9)).bind fun t177=>(if t177=true then ((cadenceref3_Has.f k x165000 x165001 (rdOf ByteArray.empty x8 x9)).bind fun t179=>(cadenceref3_pick.j1 k x8 x9 t179 x164000 x164001 x165000 x165001 x167000 x167001)) else (cadenceref3_pick.j1 k x8 x9 false x164000 x164001 x165000 x165001 x167000 x167001))) else (none)) else (some (x167000,x167001))
def cadenceref3_pick.j1:Nat→List ByteArray→Int→Bool→Bool→List ByteArray→Bool→List ByteArray→Bool→List ByteArray→Option (Bool × List ByteArray)
 | 0,_,_,_,_,_,_,_,_,_=>none
 | k+1,x8,x9,x10,x164000,x164001,x165000,x165001,x167000,x167001=>if (x10 != x167000)=true then (if 0≤x9 then (if x9 < (x8.length:Int) then ((cadenceref3_put.f k x167001 (rdOf ByteArray.empty x8 x9)).bind fun t181=>(cadenceref3_pick.l0 k x8 (wrap64 (x9+1)) x164000 x164001 x165000 x165001 x167000 t181)) else (none)) else (none)) else (cadenceref3_pick.l0 k x8 (wrap64 (x9+1)) x164000 x164001 x165000 x165001 x167000 x167001)
end
def cadenceref3_pick.f (k:Nat) (a0_0:Bool) (l0_1:List ByteArray) (a1_0:Bool) (l1_1:List ByteArray) (a2:Bool):Option (Bool × List ByteArray):=if a2=true then (if a0_0=true then ((some (([]:List ByteArray):List ByteArray)).bind fun y167=>(if y167.length+l0_1.length < 8796093022208 then ((some (y167 ++ l0_1:List ByteArray)).bind fun y170=>(if y170.length+l1_1.length < 8796093022208 then (cadenceref3_pick.l0 k (y170 ++ l1_1) 0 a0_0 l0_1 a1_0 l1_1 a1_0 ([]:List ByteArray)) else (none))) else (none))) else ((some (([]:List ByteArray):List ByteArray)).bind fun y185=>(if y185.length+l0_1.length < 8796093022208 then ((some (y185 ++ l0_1:List ByteArray)).bind fun y188=>(if y188.length+l1_1.length < 8796093022208 then (cadenceref3_pick.l0 k (y188 ++ l1_1) 0 a0_0 l0_1 a1_0 l1_1 false ([]:List ByteArray)) else (none))) else (none)))) else none
theorem cadenceref3_pick.mono_l:∀ k,(∀ y0 y1 y2 y3 y4 y5 y6 y7,LeO (cadenceref3_pick.l0 k y0 y1 y2 y3 y4 y5 y6 y7) (cadenceref3_pick.l0 (k+1) y0 y1 y2 y3 y4 y5 y6 y7))∧(∀ y0 y1 y2 y3 y4 y5 y6 y7 y8,LeO (cadenceref3_pick.j1 k y0 y1 y2 y3 y4 y5 y6 y7 y8) (cadenceref3_pick.j1 (k+1) y0 y1 y2 y3 y4 y5 y6 y7 y8))
 | 0=>⟨fun _ _ _ _ _ _ _ _ r h=>by simp [cadenceref3_pick.l0] at h,fun _ _ _ _ _ _ _ _ _ r h=>by simp [cadenceref3_pick.j1] at h⟩
 | k+1=>by
  obtain ⟨ih0,ih1⟩:=cadenceref3_pick.mono_l k
  refine ⟨?_,?_⟩
  ·intro y0 y1 y2 y3 y4 y5 y6 y7
   unfold cadenceref3_pick.l0
   repeat' first
   | (with_reducible exact ih0 _ _ _ _ _ _ _ _)
   | (with_reducible exact ih1 _ _ _ _ _ _ _ _ _)
   | (with_reducible exact cadenceref3_Has.mono _ _ _ _)
   | (with_reducible exact cadenceref3_put.mono _ _ _)
   | (with_reducible exact LeO.refl _)
   | (with_reducible exact LeO.none _)
   | (with_reducible refine LeO.ite ?_ ?_)
   | (with_reducible refine LeO.bind ?_ (fun _=>?_))
   | exact ih0 _ _ _ _ _ _ _ _
   | exact ih1 _ _ _ _ _ _ _ _ _
   | exact cadenceref3_Has.mono _ _ _ _
   | exact cadenceref3_put.mono _ _ _
   | exact LeO.none _
   | refine LeO.ite ?_ ?_
   | refine LeO.bind ?_ (fun _=>?_)
  ·intro y0 y1 y2 y3 y4 y5 y6 y7 y8
   unfold cadenceref3_pick.j1
   repeat' first
   | (with_reducible exact ih0 _ _ _ _ _ _ _ _)
   | (with_reducible exact ih1 _ _ _ _ _ _ _ _ _)
   | (with_reducible exact cadenceref3_Has.mono _ _ _ _)
   | (with_reducible exact cadenceref3_put.mono _ _ _)
   | (with_reducible exact LeO.refl _)
   | (with_reducible exact LeO.none _)
   | (with_reducible refine LeO.ite ?_ ?_)
   | (with_reducible refine LeO.bind ?_ (fun _=>?_))
   | exact ih0 _ _ _ _ _ _ _ _
   | exact ih1 _ _ _ _ _ _ _ _ _
   | exact cadenceref3_Has.mono _ _ _ _
   | exact cadenceref3_put.mono _ _ _
   | exact LeO.none _
   | refine LeO.ite ?_ ?_
   | refine LeO.bind ?_ (fun _=>?_)
theorem cadenceref3_pick.mono:∀ a0 a1 a2 a3 a4 k,LeO (cadenceref3_pick.f k a0 a1 a2 a3 a4) (cadenceref3_pick.f (k+1) a0 a1 a2 a3 a4):=by
 intro a0 a1 a2 a3 a4 k
 obtain ⟨ih0,ih1⟩:=cadenceref3_pick.mono_l k
 unfold cadenceref3_pick.f
 repeat' first
   | (with_reducible exact ih0 _ _ _ _ _ _ _ _)
   | (with_reducible exact ih1 _ _ _ _ _ _ _ _ _)
   | (with_reducible exact cadenceref3_Has.mono _ _ _ _)
   | (with_reducible exact cadenceref3_put.mono _ _ _)
   | (with_reducible exact LeO.refl _)
   | (with_reducible exact LeO.none _)
   | (with_reducible refine LeO.ite ?_ ?_)
   | (with_reducible refine LeO.bind ?_ (fun _=>?_))
   | exact ih0 _ _ _ _ _ _ _ _
   | exact ih1 _ _ _ _ _ _ _ _ _
   | exact cadenceref3_Has.mono _ _ _ _
   | exact cadenceref3_put.mono _ _ _
   | exact LeO.none _
   | refine LeO.ite ?_ ?_
   | refine LeO.bind ?_ (fun _=>?_)
def cadenceref3_pick.T4:Bool × List (List Nat × List Nat):=(true,[([],[]),([],[]),([1],[1]),([0,2],[0,2]),([],[]),([4],[4]),([3,5,3],[3,5]),([6,6,0,1,2,3,4,5,6],[6])])
def cadenceref3_pick.B4:List Nat:=[0,0,2,7,0,16,63,127]
theorem cadenceref3_pick.tab4:rtab .any (opsOf Try.f43 4)=cadenceref3_pick.T4:=by kernel_rfl
theorem cadenceref3_pick.bits4:waitsOk cadenceref3_pick.T4.2 cadenceref3_pick.B4=true:=by kernel_rfl
def cadenceref3_pick.T8:Bool × List (List Nat × List Nat):=(true,[([],[]),([],[]),([],[]),([1,2],[1,2]),([3],[3]),([0,4],[0,4]),([5,5],[5]),([6],[6]),([6],[6]),([6],[6]),([8,9,6],[6,8,9]),([10,6],[6,10]),([7,11,6,6],[6,7,11]),([6,12],[6,12]),([13,12,0,1,2,3,4,5,6,7,8,9,10,11,12,13],[13])])
def cadenceref3_pick.B8:List Nat:=[0,0,0,6,14,31,63,127,127,127,895,1919,4095,8191,16383]
theorem cadenceref3_pick.tab8:rtab .any (opsOf Try.f43 8)=cadenceref3_pick.T8:=by kernel_rfl
theorem cadenceref3_pick.bits8:waitsOk cadenceref3_pick.T8.2 cadenceref3_pick.B8=true:=by kernel_rfl
def cadenceref3_pick.T12:Bool × List (List Nat × List Nat):=(true,[([],[]),([0],[0]),([],[]),([],[]),([2,3],[2,3]),([4],[4]),([1,5],[1,5]),([0,1,2,3,4,5,6],[]),([7,6,6,0,1,2,3,4,5,6],[6,7])])
def cadenceref3_pick.B12:List Nat:=[0,1,0,0,12,28,63,127,255]
theorem cadenceref3_pick.tab12:rtab .any (opsOf Try.f43 12)=cadenceref3_pick.T12:=by kernel_rfl
theorem cadenceref3_pick.bits12:waitsOk cadenceref3_pick.T12.2 cadenceref3_pick.B12=true:=by kernel_rfl
set_option maxHeartbeats 8000000 in
set_option maxRecDepth 100000 in
theorem cadenceref3_pick.calls (k:Nat) (a0_0:Bool) (A0_1:Option Addr) (c0_1:Nat) (l0_1:List ByteArray) (a1_0:Bool) (A1_1:Option Addr) (c1_1:Nat) (l1_1:List ByteArray) (a2:Bool) (r1:Bool) (r2:List ByteArray) (w:World) (hr0_1:Kd.C Kd.string w A0_1 l0_1.length l0_1) (hc0_1:l0_1.length≤c0_1) (hr1_1:Kd.C Kd.string w A1_1 l1_1.length l1_1) (hc1_1:l1_1.length≤c1_1) (h:cadenceref3_pick.f k a0_0 l0_1 a1_0 l1_1 a2=some (r1,r2)) :
  Calls Try.prog 43 #[.agg #[.bool a0_0,.slice A0_1 l0_1.length c0_1],.agg #[.bool a1_0,.slice A1_1 l1_1.length c1_1],.bool a2] w fun e w'=>∃ v1_:Value,e=.returned (.agg #[.bool r1,v1_])∧Kd.R Kd.string 9 w' w.heap.size (fun _=>True) v1_ r2∧Below w.heap.size w w':=by
 obtain rfl:a2=true:=by
  cases a2 with
  | true=>rfl
  | false=>exact absurd h (by simp [cadenceref3_pick.f])
 unfold cadenceref3_pick.f at h
 rw [if_pos rfl] at h
 have hu38:=Try.underlying38
 have HR0_1:=Az.mk hr0_1
 have HC0_1:=Az.mk hc0_1
 clear hr0_1 hc0_1
 have HR1_1:=Az.mk hr1_1
 have HC1_1:=Az.mk hc1_1
 clear hr1_1 hc1_1
 have HB:=Az.mk (Below.refl w.heap.size w)
 have H:(if a0_0=true then ((some (([]:List ByteArray):List ByteArray)).bind fun y167=>(if y167.length+l0_1.length < 8796093022208 then ((some (y167 ++ l0_1:List ByteArray)).bind fun y170=>(if y170.length+l1_1.length < 8796093022208 then (cadenceref3_pick.l0 k (y170 ++ l1_1) 0 a0_0 l0_1 a1_0 l1_1 a1_0 ([]:List ByteArray)) else (none))) else (none))) else ((some (([]:List ByteArray):List ByteArray)).bind fun y185=>(if y185.length+l0_1.length < 8796093022208 then ((some (y185 ++ l0_1:List ByteArray)).bind fun y188=>(if y188.length+l1_1.length < 8796093022208 then (cadenceref3_pick.l0 k (y188 ++ l1_1) 0 a0_0 l0_1 a1_0 l1_1 false ([]:List ByteArray)) else (none))) else (none))))=some (r1,r2):=h
 clear h
 by_cases c4:a0_0=true
 ·subst c4
  have H1:((some (([]:List ByteArray):List ByteArray)).bind fun y167=>(if y167.length+l0_1.length < 8796093022208 then ((some (y167 ++ l0_1:List ByteArray)).bind fun y170=>(if y170.length+l1_1.length < 8796093022208 then (cadenceref3_pick.l0 k (y170 ++ l1_1) 0 true l0_1 a1_0 l1_1 a1_0 ([]:List ByteArray)) else (none))) else (none)))=some (r1,r2):=by rw [if_pos rfl] at H;exact H
  clear H
  have H:=H1
  clear H1
  obtain ⟨y167,hy167⟩:∃ y_:List ByteArray,y_=(([]:List ByteArray)):=⟨_,rfl⟩
  replace H:(if y167.length+l0_1.length < 8796093022208 then ((some (y167 ++ l0_1:List ByteArray)).bind fun y170=>(if y170.length+l1_1.length < 8796093022208 then (cadenceref3_pick.l0 k (y170 ++ l1_1) 0 true l0_1 a1_0 l1_1 a1_0 ([]:List ByteArray)) else (none))) else (none))=some (r1,r2):=by first|(rw [hy167];with_reducible exact H)|(have H2_:=(Option.bind_some _ _).symm.trans H;rw [hy167];with_reducible exact H2_)|(have H2_:=(Option.bind_some _ _).symm.trans H;with_reducible exact H2_)|with_reducible exact H|(rw [hy167];exact H)|exact H
  have Ny167:=Az.mk hy167
  clear hy167
  by_cases c5:y167.length+l0_1.length < 8796093022208
  ·rw [if_pos c5] at H
   have LMc5:=Az.mk c5
   clear c5
   obtain ⟨y170,hy170⟩:∃ y_:List ByteArray,y_=(y167 ++ l0_1):=⟨_,rfl⟩
   replace H:(if y170.length+l1_1.length < 8796093022208 then (cadenceref3_pick.l0 k (y170 ++ l1_1) 0 true l0_1 a1_0 l1_1 a1_0 ([]:List ByteArray)) else (none))=some (r1,r2):=by first|(rw [hy170];with_reducible exact H)|(have H2_:=(Option.bind_some _ _).symm.trans H;rw [hy170];with_reducible exact H2_)|(have H2_:=(Option.bind_some _ _).symm.trans H;with_reducible exact H2_)|with_reducible exact H|(rw [hy170];exact H)|exact H
   have Ny170:=Az.mk hy170
   clear hy170
   by_cases c6:y170.length+l1_1.length < 8796093022208
   ·rw [if_pos c6] at H
    have LMc6:=Az.mk c6
    clear c6
    obtain ⟨y173,hy173⟩:∃ y_:List ByteArray,y_=(y170 ++ l1_1):=⟨_,rfl⟩
    replace H:(cadenceref3_pick.l0 k y173 0 true l0_1 a1_0 l1_1 a1_0 ([]:List ByteArray))=some (r1,r2):=by first|(rw [hy173];with_reducible exact H)|(have H2_:=(Option.bind_some _ _).symm.trans H;rw [hy173];with_reducible exact H2_)|(have H2_:=(Option.bind_some _ _).symm.trans H;with_reducible exact H2_)|with_reducible exact H|(rw [hy173];exact H)|exact H
    have Ny173:=Az.mk hy173
    clear hy173
    have H':=Az.mk H
    clear H
    go_enter Try.func43,Try.ntmps43
    try go_wp2_with (first|((with_reducible refine gate_dst (N:=3) rfl ?_);refine box_event ?hg (N:=3) ?hd (cs:=#[.bool true,.slice A0_1 l0_1.length c0_1]) (t:=38) ?hr ?_;(case hd=>rfl);(case hg=>rfl);(case hr=>first|(go_simp;done)|(go_simp;rfl));intro gb163 hg w7 hbox hb;have n0_:=Az.mk (below_step (by repeat (first|(with_reducible first|exact HB.out|apply bA_|apply bN_|apply bD_)|exact HB.out)) hb);have n1_:=Az.mk (hbox);have n2_:=Az.mk ((by rw [hg];exact (be_ (by repeat (first|(with_reducible first|exact HB.out|apply bA_|apply bN_|apply bD_)|exact HB.out))):w.heap.size≤gb163));have n3_:=Az.mk ((by rw [hg];exact (be_ (by repeat (first|(with_reducible first|exact HB.out|apply bA_|apply bN_|apply bD_)|exact HB.out))):w.heap.size≤gb163));clear HB;have HB:=n0_;have BK163:=n1_;have GW163:=n2_;have GE163:=n3_;clear n0_ n1_ n2_ n3_;clear hb hbox hg)|((with_reducible refine gate_dst (N:=4) rfl ?_);refine box_event ?hg (N:=4) ?hd (cs:=#[.bool a1_0,.slice A1_1 l1_1.length c1_1]) (t:=38) ?hr ?_;(case hd=>rfl);(case hg=>rfl);(case hr=>first|(go_simp;done)|(go_simp;rfl));intro gb164 hg w8 hbox hb;have n0_:=Az.mk (bb_ (g:=gb163) (o:=.cells #[.bool true,.slice A0_1 l0_1.length c0_1] 38 (0,0)) (by (with_reducible repeat (first|refine bq_ ?_ _|refine bw_ ?_|refine bz_ ?_ _));exact BK163.out) hb);have n1_:=Az.mk (below_step (by repeat (first|(with_reducible first|exact HB.out|apply bA_|apply bN_|apply bD_|refine bs_ ?_ GE163.out)|exact HB.out)) hb);have n2_:=Az.mk (hbox);have n3_:=Az.mk ((by rw [hg];exact (be_ (by repeat (first|(with_reducible first|exact HB.out|apply bA_|apply bN_|apply bD_|refine bs_ ?_ GE163.out)|exact HB.out))):w.heap.size≤gb164));have n4_:=Az.mk ((by rw [hg];exact (be_ (by repeat (first|(with_reducible first|exact HB.out|apply bA_|apply bN_|apply bD_|refine bs_ ?_ GE163.out)|exact HB.out))):w.heap.size≤gb164));have n5_:=Az.mk ((by rw [hg];exact Nat.ne_of_lt (blk_lt (g:=gb163) (o:=.cells #[.bool true,.slice A0_1 l0_1.length c0_1] 38 (0,0)) (by (with_reducible repeat (first|refine bq_ ?_ _|refine bw_ ?_|refine bz_ ?_ _));exact BK163.out)):gb163≠gb164));have n6_:=Az.mk ((by rw [hg];exact Nat.ne_of_gt (blk_lt (g:=gb163) (o:=.cells #[.bool true,.slice A0_1 l0_1.length c0_1] 38 (0,0)) (by (with_reducible repeat (first|refine bq_ ?_ _|refine bw_ ?_|refine bz_ ?_ _));exact BK163.out)):gb164≠gb163));clear BK163;clear HB;have BK163:=n0_;have HB:=n1_;have BK164:=n2_;have GW164:=n3_;have GE164:=n4_;have NB163_164:=n5_;have NB164_163:=n6_;clear n0_ n1_ n2_ n3_ n4_ n5_ n6_;clear hb hbox hg)|((with_reducible refine gate_dst (N:=6) rfl ?_);refine box_event ?hg (N:=6) ?hd (cs:=#[.bool false,.slice none 0 0]) (t:=38) ?hr ?_;(case hd=>rfl);(case hg=>rfl);(case hr=>first|(go_simp;done)|(go_simp;rfl));intro gb165 hg w9 hbox hb;have n0_:=Az.mk (bb_ (g:=gb163) (o:=.cells #[.bool true,.slice A0_1 l0_1.length c0_1] 38 (0,0)) (by (with_reducible repeat (first|refine bq_ ?_ _|refine bw_ ?_|refine bz_ ?_ _));exact BK163.out) hb);have n1_:=Az.mk (bb_ (g:=gb164) (o:=.cells #[.bool a1_0,.slice A1_1 l1_1.length c1_1] 38 (0,0)) (by (with_reducible repeat (first|refine bq_ ?_ _|refine bw_ ?_|refine bz_ ?_ _));exact BK164.out) hb);have n2_:=Az.mk (below_step (by repeat (first|(with_reducible first|exact HB.out|apply bA_|apply bN_|apply bD_|refine bs_ ?_ GE163.out|refine bs_ ?_ GE164.out)|exact HB.out)) hb);have n3_:=Az.mk (hbox);have n4_:=Az.mk ((by rw [hg];exact (be_ (by repeat (first|(with_reducible first|exact HB.out|apply bA_|apply bN_|apply bD_|refine bs_ ?_ GE163.out|refine bs_ ?_ GE164.out)|exact HB.out))):w.heap.size≤gb165));have n5_:=Az.mk ((by rw [hg];exact (be_ (by repeat (first|(with_reducible first|exact HB.out|apply bA_|apply bN_|apply bD_|refine bs_ ?_ GE163.out|refine bs_ ?_ GE164.out)|exact HB.out))):w.heap.size≤gb165));have n6_:=Az.mk ((by rw [hg];exact Nat.ne_of_lt (blk_lt (g:=gb163) (o:=.cells #[.bool true,.slice A0_1 l0_1.length c0_1] 38 (0,0)) (by (with_reducible repeat (first|refine bq_ ?_ _|refine bw_ ?_|refine bz_ ?_ _));exact BK163.out)):gb163≠gb165));have n7_:=Az.mk ((by rw [hg];exact Nat.ne_of_gt (blk_lt (g:=gb163) (o:=.cells #[.bool true,.slice A0_1 l0_1.length c0_1] 38 (0,0)) (by (with_reducible repeat (first|refine bq_ ?_ _|refine bw_ ?_|refine bz_ ?_ _));exact BK163.out)):gb165≠gb163));have n8_:=Az.mk ((by rw [hg];exact Nat.ne_of_lt (blk_lt (g:=gb164) (o:=.cells #[.bool a1_0,.slice A1_1 l1_1.length c1_1] 38 (0,0)) (by (with_reducible repeat (first|refine bq_ ?_ _|refine bw_ ?_|refine bz_ ?_ _));exact BK164.out)):gb164≠gb165));have n9_:=Az.mk ((by rw [hg];exact Nat.ne_of_gt (blk_lt (g:=gb164) (o:=.cells #[.bool a1_0,.slice A1_1 l1_1.length c1_1] 38 (0,0)) (by (with_reducible repeat (first|refine bq_ ?_ _|refine bw_ ?_|refine bz_ ?_ _));exact BK164.out)):gb165≠gb164));clear BK163;clear BK164;clear HB;have BK163:=n0_;have BK164:=n1_;have HB:=n2_;have BK165:=n3_;have GW165:=n4_;have GE165:=n5_;have NB163_165:=n6_;have NB165_163:=n7_;have NB164_165:=n8_;have NB165_164:=n9_;clear n0_ n1_ n2_ n3_ n4_ n5_ n6_ n7_ n8_ n9_;clear hb hbox hg;have hnb10:=NB163_164.out;have hnc10:=NB164_163.out;have hnb11:=NB163_165.out;have hnc11:=NB165_163.out;have hcz12_0:w9.cell? ⟨gb163,0,none⟩=some (.bool true):=(bc_ BK163.out 0).trans rfl;have hcz12_1:w9.cell? ⟨gb163,1,none⟩=some (.slice A0_1 l0_1.length c0_1):=(bc_ BK163.out 1).trans rfl;have hfz12_0:=bf_ BK163.out 0;have hfz12_1:=bf_ BK163.out 1;have hnb13:=NB164_165.out;have hnc13:=NB165_164.out;have hcz14_0:w9.cell? ⟨gb164,0,none⟩=some (.bool a1_0):=(bc_ BK164.out 0).trans rfl;have hcz14_1:w9.cell? ⟨gb164,1,none⟩=some (.slice A1_1 l1_1.length c1_1):=(bc_ BK164.out 1).trans rfl;have hfz14_0:=bf_ BK164.out 0;have hfz14_1:=bf_ BK164.out 1)|((with_reducible refine gate_dst (N:=7) rfl ?_);refine box_event ?hg (N:=7) ?hd (cs:=#[.bool false,.slice none 0 0]) (t:=38) ?hr ?_;(case hd=>rfl);(case hg=>rfl);(case hr=>first|(go_simp;done)|(go_simp;rfl));intro gb166 hg w15 hbox hb;have n0_:=Az.mk (bb_ (g:=gb163) (o:=.cells #[.bool true,.slice A0_1 l0_1.length c0_1] 38 (0,0)) (by (with_reducible repeat (first|refine bq_ ?_ _|refine bw_ ?_|refine bz_ ?_ _));exact BK163.out) hb);have n1_:=Az.mk (bb_ (g:=gb164) (o:=.cells #[.bool a1_0,.slice A1_1 l1_1.length c1_1] 38 (0,0)) (by (with_reducible repeat (first|refine bq_ ?_ _|refine bw_ ?_|refine bz_ ?_ _));exact BK164.out) hb);have n2_:=Az.mk (bb_ (g:=gb165) (o:=.cells #[.bool false,.slice none 0 0] 38 (0,0)) (by (with_reducible repeat (first|refine bq_ ?_ _|refine bw_ ?_|refine bz_ ?_ _));exact BK165.out) hb);have n3_:=Az.mk (below_step (by repeat (first|(with_reducible first|exact HB.out|apply bA_|apply bN_|apply bD_|refine bs_ ?_ GE163.out|refine bs_ ?_ GE164.out|refine bs_ ?_ GE165.out)|exact HB.out)) hb);have n4_:=Az.mk (hbox);have n5_:=Az.mk ((by rw [hg];exact (be_ (by repeat (first|(with_reducible first|exact HB.out|apply bA_|apply bN_|apply bD_|refine bs_ ?_ GE163.out|refine bs_ ?_ GE164.out|refine bs_ ?_ GE165.out)|exact HB.out))):w.heap.size≤gb166));have n6_:=Az.mk ((by rw [hg];exact (be_ (by repeat (first|(with_reducible first|exact HB.out|apply bA_|apply bN_|apply bD_|refine bs_ ?_ GE163.out|refine bs_ ?_ GE164.out|refine bs_ ?_ GE165.out)|exact HB.out))):w.heap.size≤gb166));have n7_:=Az.mk ((by rw [hg];exact Nat.ne_of_lt (blk_lt (g:=gb163) (o:=.cells #[.bool true,.slice A0_1 l0_1.length c0_1] 38 (0,0)) (by (with_reducible repeat (first|refine bq_ ?_ _|refine bw_ ?_|refine bz_ ?_ _));exact BK163.out)):gb163≠gb166));have n8_:=Az.mk ((by rw [hg];exact Nat.ne_of_gt (blk_lt (g:=gb163) (o:=.cells #[.bool true,.slice A0_1 l0_1.length c0_1] 38 (0,0)) (by (with_reducible repeat (first|refine bq_ ?_ _|refine bw_ ?_|refine bz_ ?_ _));exact BK163.out)):gb166≠gb163));have n9_:=Az.mk ((by rw [hg];exact Nat.ne_of_lt (blk_lt (g:=gb164) (o:=.cells #[.bool a1_0,.slice A1_1 l1_1.length c1_1] 38 (0,0)) (by (with_reducible repeat (first|refine bq_ ?_ _|refine bw_ ?_|refine bz_ ?_ _));exact BK164.out)):gb164≠gb166));have n10_:=Az.mk ((by rw [hg];exact Nat.ne_of_gt (blk_lt (g:=gb164) (o:=.cells #[.bool a1_0,.slice A1_1 l1_1.length c1_1] 38 (0,0)) (by (with_reducible repeat (first|refine bq_ ?_ _|refine bw_ ?_|refine bz_ ?_ _));exact BK164.out)):gb166≠gb164));have n11_:=Az.mk ((by rw [hg];exact Nat.ne_of_lt (blk_lt (g:=gb165) (o:=.cells #[.bool false,.slice none 0 0] 38 (0,0)) (by (with_reducible repeat (first|refine bq_ ?_ _|refine bw_ ?_|refine bz_ ?_ _));exact BK165.out)):gb165≠gb166));have n12_:=Az.mk ((by rw [hg];exact Nat.ne_of_gt (blk_lt (g:=gb165) (o:=.cells #[.bool false,.slice none 0 0] 38 (0,0)) (by (with_reducible repeat (first|refine bq_ ?_ _|refine bw_ ?_|refine bz_ ?_ _));exact BK165.out)):gb166≠gb165));clear BK163;clear BK164;clear BK165;clear HB;have BK163:=n0_;have BK164:=n1_;have BK165:=n2_;have HB:=n3_;have BK166:=n4_;have GW166:=n5_;have GE166:=n6_;have NB163_166:=n7_;have NB166_163:=n8_;have NB164_166:=n9_;have NB166_164:=n10_;have NB165_166:=n11_;have NB166_165:=n12_;clear n0_ n1_ n2_ n3_ n4_ n5_ n6_ n7_ n8_ n9_ n10_ n11_ n12_;clear hb hbox hg;have hnb16:=NB166_163.out;have hnc16:=NB163_166.out;have hnb17:=NB166_164.out;have hnc17:=NB164_166.out;have hnb18:=NB166_165.out;have hnc18:=NB165_166.out;have hcz19_0:w15.cell? ⟨gb166,0,none⟩=some (.bool false):=(bc_ BK166.out 0).trans rfl;have hcz19_1:w15.cell? ⟨gb166,1,none⟩=some (.slice none 0 0):=(bc_ BK166.out 1).trans rfl;have hfz19_0:=bf_ BK166.out 0;have hfz19_1:=bf_ BK166.out 1))
    have n0_:Az (((w15.setCell ⟨gb166,0,none⟩ (.bool a1_0)).setCell ⟨gb166,1,none⟩ (.slice none 0 0)).heap[gb163]? = some (.cells #[.bool true,.slice A0_1 l0_1.length c0_1] 38 (0,0))):=⟨by (with_reducible repeat (first|refine bq_ ?_ _|refine bw_ ?_|refine bz_ ?_ _));refine blk_far ?_ NB163_166.out _;(with_reducible repeat (first|refine bq_ ?_ _|refine bw_ ?_|refine bz_ ?_ _));refine blk_far ?_ NB163_166.out _;(with_reducible repeat (first|refine bq_ ?_ _|refine bw_ ?_|refine bz_ ?_ _));exact BK163.out⟩
    have n1_:Az (((w15.setCell ⟨gb166,0,none⟩ (.bool a1_0)).setCell ⟨gb166,1,none⟩ (.slice none 0 0)).heap[gb164]? = some (.cells #[.bool a1_0,.slice A1_1 l1_1.length c1_1] 38 (0,0))):=⟨by (with_reducible repeat (first|refine bq_ ?_ _|refine bw_ ?_|refine bz_ ?_ _));refine blk_far ?_ NB164_166.out _;(with_reducible repeat (first|refine bq_ ?_ _|refine bw_ ?_|refine bz_ ?_ _));refine blk_far ?_ NB164_166.out _;(with_reducible repeat (first|refine bq_ ?_ _|refine bw_ ?_|refine bz_ ?_ _));exact BK164.out⟩
    have n2_:Az (((w15.setCell ⟨gb166,0,none⟩ (.bool a1_0)).setCell ⟨gb166,1,none⟩ (.slice none 0 0)).heap[gb165]? = some (.cells #[.bool false,.slice none 0 0] 38 (0,0))):=⟨by (with_reducible repeat (first|refine bq_ ?_ _|refine bw_ ?_|refine bz_ ?_ _));refine blk_far ?_ NB165_166.out _;(with_reducible repeat (first|refine bq_ ?_ _|refine bw_ ?_|refine bz_ ?_ _));refine blk_far ?_ NB165_166.out _;(with_reducible repeat (first|refine bq_ ?_ _|refine bw_ ?_|refine bz_ ?_ _));exact BK165.out⟩
    have n3_:Az (((w15.setCell ⟨gb166,0,none⟩ (.bool a1_0)).setCell ⟨gb166,1,none⟩ (.slice none 0 0)).heap[gb166]? = some (.cells #[.bool a1_0,.slice none 0 0] 38 (0,0))):=⟨by (with_reducible repeat (first|refine bq_ ?_ _|refine bw_ ?_|refine bz_ ?_ _));refine blk_put (cs:=#[.bool a1_0,.slice none 0 0]) ?_ 1 _ rfl;(with_reducible repeat (first|refine bq_ ?_ _|refine bw_ ?_|refine bz_ ?_ _));refine blk_put (cs:=#[.bool false,.slice none 0 0]) ?_ 0 _ rfl;(with_reducible repeat (first|refine bq_ ?_ _|refine bw_ ?_|refine bz_ ?_ _));exact BK166.out⟩
    have n4_:Az (Below w.heap.size w ((w15.setCell ⟨gb166,0,none⟩ (.bool a1_0)).setCell ⟨gb166,1,none⟩ (.slice none 0 0))):=⟨by repeat (first|(with_reducible first|exact HB.out|apply bA_|apply bN_|apply bD_|refine bs_ ?_ GE163.out|refine bs_ ?_ GE164.out|refine bs_ ?_ GE165.out|refine bs_ ?_ GE166.out)|exact HB.out)⟩
    (try clear BK163)
    (try clear BK164)
    (try clear BK165)
    (try clear BK166)
    (try clear HB)
    generalize ((w15.setCell ⟨gb166,0,none⟩ (.bool a1_0)).setCell ⟨gb166,1,none⟩ (.slice none 0 0))=w20 at n0_ n1_ n2_ n3_ n4_ ⊢
    have BK163:=n0_
    have BK164:=n1_
    have BK165:=n2_
    have BK166:=n3_
    have HB:=n4_
    clear n0_ n1_ n2_ n3_ n4_
    have n0_:=Az.mk (bw_ BK163.out)
    have n1_:=Az.mk (bw_ BK164.out)
    have n2_:=Az.mk (bw_ BK165.out)
    have n3_:=Az.mk (bw_ BK166.out)
    have n4_:=Az.mk (bD_ HB.out)
    clear BK163
    clear BK164
    clear BK165
    clear BK166
    clear HB
    have BK163:=n0_
    have BK164:=n1_
    have BK165:=n2_
    have BK166:=n3_
    have HB:=n4_
    clear n0_ n1_ n2_ n3_ n4_
    refine start_ (n:=8) (S:=fun w'=>w'.cell? ⟨gb163,0,none⟩=some (.bool true)∧w'.cell? ⟨gb163,1,none⟩=some (.slice A0_1 l0_1.length c0_1)∧w'.cell? ⟨gb164,0,none⟩=some (.bool a1_0)∧w'.cell? ⟨gb164,1,none⟩=some (.slice A1_1 l1_1.length c1_1)) (ds:=[]) #[false,false,false,false,false,false,false,false] (by kernel_rfl) rfl rfl ⟨(bc_ BK163.out 0).trans rfl,(bc_ BK163.out 1).trans rfl,(bc_ BK164.out 0).trans rfl,(bc_ BK164.out 1).trans rfl⟩ (fun hHeld=>?_);refine with_tabW cadenceref3_pick.tab4 cadenceref3_pick.bits4 (fun HT_ HW_=>?_)
    generalize w20.drew=w21 at BK163 BK164 BK165 BK166 HB hHeld ⊢
    refine pure_ (i:=1) (N:=some 28) (v:=?_) (a':=?_) #[false,true,false,false,false,false,false,false] rfl rfl (any_of HT_.out (by kernel_rfl)) (fun _ _ _ h=>h) (Or.inl ⟨by rfl,?_⟩) ?_ ?_
    rotate_left
    ·intro w'
     go_simp
     with_reducible rfl
    rotate_left
    ·simp only [Act.put,sA_,sB_,sC_,i64_w,i32_w]
     rfl
    refine pure_ (i:=4) (N:=some 31) (v:=?_) (a':=?_) #[false,true,false,false,true,false,false,false] rfl rfl (any_of HT_.out (by kernel_rfl)) (fun _ _ _ h=>h) (Or.inl ⟨by rfl,?_⟩) ?_ ?_
    rotate_left
    ·intro w'
     go_simp
     with_reducible rfl
    rotate_left
    ·simp only [Act.put,sA_,sB_,sC_,i64_w,i32_w]
     rfl
    refine take_ (i:=2) (N:=some 29) (v:=?_) (a':=?_) #[false,true,true,false,true,false,false,false] rfl rfl (take_ofW HT_.out HW_.out (by kernel_rfl)) (fun _ _ _ h=>h) (Or.inl ⟨by rfl,?_⟩) hHeld ?_ ?_
    rotate_left
    ·rintro w' ⟨s0,s1,s2,s3⟩
     go_simp
     with_reducible rfl
    rotate_left
    ·simp only [Act.put,sA_,sB_,sC_,i64_w,i32_w]
     rfl
    refine take_ (i:=5) (N:=some 32) (v:=?_) (a':=?_) #[false,true,true,false,true,true,false,false] rfl rfl (take_ofW HT_.out HW_.out (by kernel_rfl)) (fun _ _ _ h=>h) (Or.inl ⟨by rfl,?_⟩) hHeld ?_ ?_
    rotate_left
    ·rintro w' ⟨s0,s1,s2,s3⟩
     go_simp
     with_reducible rfl
    rotate_left
    ·simp only [Act.put,sA_,sB_,sC_,i64_w,i32_w]
     rfl
    refine one_ (i:=0) (N:=some 27) #[true,true,true,false,true,true,false,false] rfl rfl (one_of HT_.out (by kernel_rfl)) (by decide) (fun K hK=>?_)
    refine Kd.R_lit_step Kd.string _ 9 ?hg (N:=27) ?hd (xs:=([]:List ByteArray)) (inner:=[]) (ok:=fun _=>True) (okp:=fun _=>True) ?hr ?hp (fun _ hk=>hk) trivial (Below.refl _ _) (Nat.le_refl _) (by simp) ?_;(case hd=>rfl);(case hg=>rfl);(case hr=>first|(go_simp;done)|(go_simp;rfl));(case hp=>exact (Reps.none _ _))
    intro v168 w22 ho23 hb hg_ hnew_
    clear hg_ hnew_
    (first|rw [← Ny167.out] at ho23|(simp only [Int.reduceToNat] at ho23;rw [← Ny167.out] at ho23))
    have n0_:=Az.mk (Kd.R_lower ho23 (be_ (by repeat (first|(with_reducible first|exact HB.out|apply bA_|apply bN_|apply bD_|refine bs_ ?_ GE163.out|refine bs_ ?_ GE164.out|refine bs_ ?_ GE165.out|refine bs_ ?_ GE166.out)|exact HB.out))))
    have n1_:=Az.mk (bb_ (g:=gb163) (o:=.cells #[.bool true,.slice A0_1 l0_1.length c0_1] 38 (0,0)) (by (with_reducible repeat (first|refine bq_ ?_ _|refine bw_ ?_|refine bz_ ?_ _));exact BK163.out) hb)
    have n2_:=Az.mk (bb_ (g:=gb164) (o:=.cells #[.bool a1_0,.slice A1_1 l1_1.length c1_1] 38 (0,0)) (by (with_reducible repeat (first|refine bq_ ?_ _|refine bw_ ?_|refine bz_ ?_ _));exact BK164.out) hb)
    have n3_:=Az.mk (bb_ (g:=gb165) (o:=.cells #[.bool false,.slice none 0 0] 38 (0,0)) (by (with_reducible repeat (first|refine bq_ ?_ _|refine bw_ ?_|refine bz_ ?_ _));exact BK165.out) hb)
    have n4_:=Az.mk (bb_ (g:=gb166) (o:=.cells #[.bool a1_0,.slice none 0 0] 38 (0,0)) (by (with_reducible repeat (first|refine bq_ ?_ _|refine bw_ ?_|refine bz_ ?_ _));exact BK166.out) hb)
    have n5_:=Az.mk (below_step (by repeat (first|(with_reducible first|exact HB.out|apply bA_|apply bN_|apply bD_|refine bs_ ?_ GE163.out|refine bs_ ?_ GE164.out|refine bs_ ?_ GE165.out|refine bs_ ?_ GE166.out)|exact HB.out)) hb)
    clear BK163
    clear BK164
    clear BK165
    clear BK166
    clear HB
    have HO169:=n0_
    have BK163:=n1_
    have BK164:=n2_
    have BK165:=n3_
    have BK166:=n4_
    have HB:=n5_
    clear n0_ n1_ n2_ n3_ n4_ n5_
    clear hb ho23
    refine hK.out _ _ ⟨(bc_ BK163.out 0).trans rfl,(bc_ BK163.out 1).trans rfl,(bc_ BK164.out 0).trans rfl,(bc_ BK164.out 1).trans rfl⟩ (fun hHeld=>?_)
    clear hK K
    refine norm_ (a':=?_) ?_ ?_
    rotate_left
    ·show Act.put _ (some 27) _=_
     simp only [Act.put,sA_,sB_,sC_,i64_w,i32_w]
     rfl
    refine one_ (i:=3) (N:=some 30) #[true,true,true,true,true,true,false,false] rfl rfl (one_of HT_.out (by kernel_rfl)) (by decide) (fun K hK=>?_)
    refine Kd.R_append_rows_step Kd.string (w0:=w) w.heap.size (by rfl) (.tmp 27) (.tmp 29) 36 9 (.string ⟨#[]⟩) 16 rfl Try.underlying36 info9 rfl (by decide) (by omega) v168 y167 l0_1 _ _ _ (fun _=>True) (fun _=>False) rfl rfl ?aO ?aR (fun _ _ h=>h) (fun _ h=>h.elim) ?aF ?aB ?aS ?aL ?_
    (case aR=>repeat (first|exact (Kd.C_below HR0_1.out HB.out)|(with_reducible refine cA_ ?_ _)|(with_reducible refine cN_ ?_ _)|(with_reducible refine cD_ ?_)))
    (case aB=>exact (by repeat (first|(with_reducible first|exact HB.out|apply bA_|apply bN_|apply bD_|refine bs_ ?_ GE163.out|refine bs_ ?_ GE164.out|refine bs_ ?_ GE165.out|refine bs_ ?_ GE166.out)|exact HB.out)))
    (case aF=>exact (fun _ _=>trivial))
    (case aO=>exact (by (with_reducible repeat (first|apply rA_|apply rN_|apply rD_));exact HO169.out))
    (case aS=>exact (be_ (by repeat (first|(with_reducible first|exact HB.out|apply bA_|apply bN_|apply bD_|refine bs_ ?_ GE163.out|refine bs_ ?_ GE164.out|refine bs_ ?_ GE165.out|refine bs_ ?_ GE166.out)|exact HB.out))))
    (case aL=>have:=LMc5.out;omega)
    intro v171 w24 ho hb hg hat
    rw [← Ny170.out] at ho
    have n0_:=Az.mk (blk_grown (g:=gb163) (o:=.cells #[.bool true,.slice A0_1 l0_1.length c0_1] 38 (0,0)) (by (with_reducible repeat (first|refine bq_ ?_ _|refine bw_ ?_|refine bz_ ?_ _));exact BK163.out) hg (Kd.R_ne HO169.out BK163.out (by decide)))
    have n1_:=Az.mk (blk_grown (g:=gb164) (o:=.cells #[.bool a1_0,.slice A1_1 l1_1.length c1_1] 38 (0,0)) (by (with_reducible repeat (first|refine bq_ ?_ _|refine bw_ ?_|refine bz_ ?_ _));exact BK164.out) hg (Kd.R_ne HO169.out BK164.out (by decide)))
    have n2_:=Az.mk (blk_grown (g:=gb165) (o:=.cells #[.bool false,.slice none 0 0] 38 (0,0)) (by (with_reducible repeat (first|refine bq_ ?_ _|refine bw_ ?_|refine bz_ ?_ _));exact BK165.out) hg (Kd.R_ne HO169.out BK165.out (by decide)))
    have n3_:=Az.mk (blk_grown (g:=gb166) (o:=.cells #[.bool a1_0,.slice none 0 0] 38 (0,0)) (by (with_reducible repeat (first|refine bq_ ?_ _|refine bw_ ?_|refine bz_ ?_ _));exact BK166.out) hg (Kd.R_ne HO169.out BK166.out (by decide)))
    have n4_:=Az.mk (hb)
    have n5_:=Az.mk (ho)
    clear BK163
    clear BK164
    clear BK165
    clear BK166
    clear HB
    clear HO169
    have BK163:=n0_
    have BK164:=n1_
    have BK165:=n2_
    have BK166:=n3_
    have HB:=n4_
    have HO172:=n5_
    clear n0_ n1_ n2_ n3_ n4_ n5_
    clear ho hb hg hat
    refine hK.out _ _ ⟨(bc_ BK163.out 0).trans rfl,(bc_ BK163.out 1).trans rfl,(bc_ BK164.out 0).trans rfl,(bc_ BK164.out 1).trans rfl⟩ (fun hHeld=>?_)
    clear hK K
    refine norm_ (a':=?_) ?_ ?_
    rotate_left
    ·show Act.put _ (some 30) _=_
     simp only [Act.put,sA_,sB_,sC_,i64_w,i32_w]
     rfl
    refine one_ (i:=6) (N:=some 33) #[true,true,true,true,true,true,true,false] rfl rfl (one_of HT_.out (by kernel_rfl)) (by decide) (fun K hK=>?_)
    refine Kd.R_append_rows_step Kd.string (w0:=w) w.heap.size (by rfl) (.tmp 30) (.tmp 32) 36 9 (.string ⟨#[]⟩) 16 rfl Try.underlying36 info9 rfl (by decide) (by omega) v171 y170 l1_1 _ _ _ (fun _=>True) (fun _=>False) rfl rfl ?aO ?aR (fun _ _ h=>h) (fun _ h=>h.elim) ?aF ?aB ?aS ?aL ?_
    (case aR=>repeat (first|exact (Kd.C_below HR1_1.out HB.out)|(with_reducible refine cA_ ?_ _)|(with_reducible refine cN_ ?_ _)|(with_reducible refine cD_ ?_)))
    (case aB=>exact (by repeat (first|(with_reducible first|exact HB.out|apply bA_|apply bN_|apply bD_|refine bs_ ?_ GE163.out|refine bs_ ?_ GE164.out|refine bs_ ?_ GE165.out|refine bs_ ?_ GE166.out)|exact HB.out)))
    (case aF=>exact (fun _ _=>trivial))
    (case aO=>exact (by (with_reducible repeat (first|apply rA_|apply rN_|apply rD_));exact HO172.out))
    (case aS=>exact (be_ (by repeat (first|(with_reducible first|exact HB.out|apply bA_|apply bN_|apply bD_|refine bs_ ?_ GE163.out|refine bs_ ?_ GE164.out|refine bs_ ?_ GE165.out|refine bs_ ?_ GE166.out)|exact HB.out))))
    (case aL=>have:=LMc6.out;omega)
    intro v174 w25 ho hb hg hat
    rw [← Ny173.out] at ho
    have n0_:=Az.mk (blk_grown (g:=gb163) (o:=.cells #[.bool true,.slice A0_1 l0_1.length c0_1] 38 (0,0)) (by (with_reducible repeat (first|refine bq_ ?_ _|refine bw_ ?_|refine bz_ ?_ _));exact BK163.out) hg (Kd.R_ne HO172.out BK163.out (by decide)))
    have n1_:=Az.mk (blk_grown (g:=gb164) (o:=.cells #[.bool a1_0,.slice A1_1 l1_1.length c1_1] 38 (0,0)) (by (with_reducible repeat (first|refine bq_ ?_ _|refine bw_ ?_|refine bz_ ?_ _));exact BK164.out) hg (Kd.R_ne HO172.out BK164.out (by decide)))
    have n2_:=Az.mk (blk_grown (g:=gb165) (o:=.cells #[.bool false,.slice none 0 0] 38 (0,0)) (by (with_reducible repeat (first|refine bq_ ?_ _|refine bw_ ?_|refine bz_ ?_ _));exact BK165.out) hg (Kd.R_ne HO172.out BK165.out (by decide)))
    have n3_:=Az.mk (blk_grown (g:=gb166) (o:=.cells #[.bool a1_0,.slice none 0 0] 38 (0,0)) (by (with_reducible repeat (first|refine bq_ ?_ _|refine bw_ ?_|refine bz_ ?_ _));exact BK166.out) hg (Kd.R_ne HO172.out BK166.out (by decide)))
    have n4_:=Az.mk (hb)
    have n5_:=Az.mk (ho)
    clear BK163
    clear BK164
    clear BK165
    clear BK166
    clear HB
    clear HO172
    have BK163:=n0_
    have BK164:=n1_
    have BK165:=n2_
    have BK166:=n3_
    have HB:=n4_
    have HO175:=n5_
    clear n0_ n1_ n2_ n3_ n4_ n5_
    clear ho hb hg hat
    refine hK.out _ _ ⟨(bc_ BK163.out 0).trans rfl,(bc_ BK163.out 1).trans rfl,(bc_ BK164.out 0).trans rfl,(bc_ BK164.out 1).trans rfl⟩ (fun hHeld=>?_)
    clear hK K
    refine norm_ (a':=?_) ?_ ?_
    rotate_left
    ·show Act.put _ (some 33) _=_
     simp only [Act.put,sA_,sB_,sC_,i64_w,i32_w]
     rfl
    refine pure_ (i:=7) (N:=some 8) (v:=?_) (a':=?_) #[true,true,true,true,true,true,true,true] rfl rfl (any_of HT_.out (by kernel_rfl)) (fun _ _ _ h=>h) (Or.inl ⟨by rfl,?_⟩) ?_ ?_
    rotate_left
    ·intro w'
     go_simp
     with_reducible rfl
    rotate_left
    ·simp only [Act.put,sA_,sB_,sC_,i64_w,i32_w]
     rfl
    refine done_ (done_of HT_.out (by kernel_rfl)) ?_
    try go_wp2
    go_loopg [9] k (fun kq v9 w'=>∃ (x9_1:Int) (x167001_1:List ByteArray) (u167001:Value),v9=.int .i64 x9_1∧Az (cadenceref3_pick.l0 kq y173 x9_1 true l0_1 a1_0 l1_1 a1_0 x167001_1=some (r1,r2))∧Az (kq≤k)∧Az (Kd.R Kd.string 9 w' w.heap.size (fun k_=>some k_≠(u167001:Value).ownBlock) v174 y173)∧Az (Kd.R Kd.string 9 w' w.heap.size (fun k_=>some k_≠(v174:Value).ownBlock) u167001 x167001_1)∧Az (w'.heap[gb163]? = some (.cells #[.bool true,(.slice A0_1 l0_1.length c0_1)] 38 (0,0)))∧Az (w'.heap[gb164]? = some (.cells #[.bool a1_0,(.slice A1_1 l1_1.length c1_1)] 38 (0,0)))∧Az (w'.heap[gb165]? = some (.cells #[.bool false,(.slice none 0 0)] 38 (0,0)))∧Az (w'.heap[gb166]? = some (.cells #[.bool a1_0,u167001] 38 (0,0)))∧Az (Below w.heap.size w w'))
    case atStart=>exact ⟨(0),(([]:List ByteArray)),(.slice none 0 0),(by first|rfl|(simp;done)|(simp [*];done)),H',⟨Nat.le_refl _⟩,⟨by (with_reducible repeat (first|apply rA_|apply rN_|apply rD_));exact Kd.R_mono HO175.out (fun _ hk=>(by simp [Value.ownBlock]))⟩,⟨by first|exact Kd.R_nil _ _ _ _ _|exact Kd.N_nil _ _ _ _ _|exact Kd.V_nil _ _ _ _ _|exact Kd.Q_nil _ _ _ _ _|exact Kd.S_nil _ _ _ _ _⟩,⟨by (with_reducible repeat (first|refine bq_ ?_ _|refine bw_ ?_|refine bz_ ?_ _));exact BK163.out⟩,⟨by (with_reducible repeat (first|refine bq_ ?_ _|refine bw_ ?_|refine bz_ ?_ _));exact BK164.out⟩,⟨by (with_reducible repeat (first|refine bq_ ?_ _|refine bw_ ?_|refine bz_ ?_ _));exact BK165.out⟩,⟨by (with_reducible repeat (first|refine bq_ ?_ _|refine bw_ ?_|refine bz_ ?_ _));exact BK166.out⟩,⟨by repeat (first|(with_reducible first|exact HB.out|apply bA_|apply bN_|apply bD_|refine bs_ ?_ GE163.out|refine bs_ ?_ GE164.out|refine bs_ ?_ GE165.out|refine bs_ ?_ GE166.out)|exact HB.out)⟩⟩
    case round =>
     clear H'
     try clear c1
     try clear p2
     try clear c4
     try clear c5
     try clear c6
     try clear c10
     try clear c11
     try clear c13
     try clear c16
     try clear c17
     try clear c18
     try clear hcz12_0
     try clear hcz12_1
     try clear hcz14_0
     try clear hcz14_1
     try clear hcz19_0
     try clear hcz19_1
     try clear hfz12_0
     try clear hfz12_1
     try clear hfz14_0
     try clear hfz14_1
     try clear hfz19_0
     try clear hfz19_1
     obtain ⟨x9_1,x167001_1,u167001,rfl,HA,HK1,HO_8,HO_167001,BK163,BK164,BK165,BK166,HB⟩:=hrel
     cases gk with
     | zero=>exact absurd HA.out (by simp [cadenceref3_pick.l0])
     | succ k1 =>
      have H:=HA.out
      clear HA
      simp only [cadenceref3_pick.l0] at H
      by_cases c26:x9_1 < (y173.length:Int)
      ·rw [if_pos c26] at H
       have c26b0:decide (x9_1 < (y173.length:Int))=true:=decide_eq_true c26
       clear c26
       have HC27:=Az.mk H
       clear H
       obtain ⟨Ao28,co28,eo28⟩:=Kd.R_slice HO_8.out
       subst eo28
       go_upto_region 8 with (fail)
       go_cut [10] (fun v10 wc=>∃ (kq:Nat) (x10_26:Bool),v10=.bool x10_26∧Az (cadenceref3_pick.j1 kq y173 x9_1 x10_26 true l0_1 a1_0 l1_1 a1_0 x167001_1=some (r1,r2))∧Az (kq≤k1)∧Az (Kd.R Kd.string 9 wc w.heap.size (fun k_=>some k_≠(u167001:Value).ownBlock) (.slice Ao28 y173.length co28) y173)∧Az (Kd.R Kd.string 9 wc w.heap.size (fun k_=>some k_≠((.slice Ao28 y173.length co28):Value).ownBlock) u167001 x167001_1)∧Az (wc.heap[gb163]? = some (.cells #[.bool true,(.slice A0_1 l0_1.length c0_1)] 38 (0,0)))∧Az (wc.heap[gb164]? = some (.cells #[.bool a1_0,(.slice A1_1 l1_1.length c1_1)] 38 (0,0)))∧Az (wc.heap[gb165]? = some (.cells #[.bool false,(.slice none 0 0)] 38 (0,0)))∧Az (wc.heap[gb166]? = some (.cells #[.bool a1_0,u167001] 38 (0,0)))∧Az (Below w.heap.size w wc))
       case first =>
        have H:=HC27.out
        clear HC27
        by_cases c29:0≤x9_1
        ·rw [if_pos c29] at H
         have c29b0:decide (0≤x9_1)=true:=decide_eq_true c29
         clear c29
         (first|rw [c29b0]|(simp only [i64_w,i32_w];rw [c29b0])|skip)
         replace H:=Option.bind_eq_some_iff.mp H
         obtain ⟨t177,A300,H⟩:=H
         replace H:(if t177=true then ((cadenceref3_Has.f k1 a1_0 l1_1 (rdOf ByteArray.empty y173 x9_1)).bind fun t179=>(cadenceref3_pick.j1 k1 y173 x9_1 t179 true l0_1 a1_0 l1_1 a1_0 x167001_1)) else (cadenceref3_pick.j1 k1 y173 x9_1 false true l0_1 a1_0 l1_1 a1_0 x167001_1))=some (r1,r2):=H
         have A30:=Az.mk A300
         clear A300
         by_cases c31:t177=true
         ·subst c31
          have H1:((cadenceref3_Has.f k1 a1_0 l1_1 (rdOf ByteArray.empty y173 x9_1)).bind fun t179=>(cadenceref3_pick.j1 k1 y173 x9_1 t179 true l0_1 a1_0 l1_1 a1_0 x167001_1))=some (r1,r2):=by rw [if_pos rfl] at H;exact H
          clear H
          have H:=H1
          clear H1
          replace H:=Option.bind_eq_some_iff.mp H
          obtain ⟨t179,A320,H⟩:=H
          replace H:(cadenceref3_pick.j1 k1 y173 x9_1 t179 true l0_1 a1_0 l1_1 a1_0 x167001_1)=some (r1,r2):=H
          have A32:=Az.mk A320
          clear A320
          have H':=Az.mk H
          clear H
          try go_wp2
          have n0_:=Az.mk (rD_ HO_8.out)
          have n1_:=Az.mk (rD_ HO_167001.out)
          have n2_:=Az.mk (bw_ BK163.out)
          have n3_:=Az.mk (bw_ BK164.out)
          have n4_:=Az.mk (bw_ BK165.out)
          have n5_:=Az.mk (bw_ BK166.out)
          have n6_:=Az.mk (bD_ HB.out)
          clear HO_8
          clear HO_167001
          clear BK163
          clear BK164
          clear BK165
          clear BK166
          clear HB
          have HO_8:=n0_
          have HO_167001:=n1_
          have BK163:=n2_
          have BK164:=n3_
          have BK165:=n4_
          have BK166:=n5_
          have HB:=n6_
          clear n0_ n1_ n2_ n3_ n4_ n5_ n6_
          have p176:0≤(x9_1:Int):=of_decide_eq_true (by first|(with_reducible assumption)|assumption)
          have q176:x9_1 < (y173.length:Int):=of_decide_eq_true (by first|(with_reducible assumption)|assumption)
          obtain ⟨ad176,e176,hx176_0⟩:=Kd.at_string (Kd.R_reads' HO_8.out).2.2 x9_1 p176 q176
          cases e176
          replace p176:=eq_true p176
          replace q176:=eq_true q176
          have p178:0≤(x9_1:Int):=of_decide_eq_true (by first|(with_reducible assumption)|assumption)
          have q178:x9_1 < (y173.length:Int):=of_decide_eq_true (by first|(with_reducible assumption)|assumption)
          obtain ⟨ad178,e178,hx178_0⟩:=Kd.at_string (Kd.R_reads' HO_8.out).2.2 x9_1 p178 q178
          obtain rfl:ad176=ad178:=(by injection e178)
          replace p178:=eq_true p178
          replace q178:=eq_true q178
          refine start_ (n:=15) (S:=fun w'=>w'.cell? ⟨gb163,0,none⟩=some (.bool true)∧w'.cell? ⟨gb163,1,none⟩=some (.slice A0_1 l0_1.length c0_1)∧w'.cell? ⟨gb164,0,none⟩=some (.bool a1_0)∧w'.cell? ⟨gb164,1,none⟩=some (.slice A1_1 l1_1.length c1_1)∧w'.cell? (ad176.add (x9_1).toNat)=some (.string (rdOf ByteArray.empty y173 x9_1))∧w'.cell? (ad176.add (x9_1).toNat)=some (.string (rdOf ByteArray.empty y173 x9_1))) (ds:=[]) #[false,false,false,false,false,false,false,false,false,false,false,false,false,false,false] (by kernel_rfl) rfl rfl ⟨(bc_ BK163.out 0).trans rfl,(bc_ BK163.out 1).trans rfl,(bc_ BK164.out 0).trans rfl,(bc_ BK164.out 1).trans rfl,hx176_0,hx178_0⟩ (fun hHeld=>?_);refine with_tabW cadenceref3_pick.tab8 cadenceref3_pick.bits8 (fun HT_ HW_=>?_)
          generalize wr.drew=w33 at HO_8 HO_167001 BK163 BK164 BK165 BK166 HB hx176_0 hx178_0 hHeld ⊢
          refine pure_ (i:=1) (N:=some 41) (v:=?_) (a':=?_) #[false,true,false,false,false,false,false,false,false,false,false,false,false,false,false] rfl rfl (any_of HT_.out (by kernel_rfl)) (fun _ _ _ h=>h) (Or.inl ⟨by rfl,?_⟩) ?_ ?_
          rotate_left
          ·intro w'
           go_simp
           with_reducible rfl
          rotate_left
          ·simp only [Act.put,sA_,sB_,sC_,i64_w,i32_w]
           rfl
          refine pure_ (i:=2) (N:=some 42) (v:=?_) (a':=?_) #[false,true,true,false,false,false,false,false,false,false,false,false,false,false,false] rfl rfl (any_of HT_.out (by kernel_rfl)) (fun _ _ _ h=>h) (Or.inl ⟨by rfl,?_⟩) ?_ ?_
          rotate_left
          ·intro w'
           go_simp
           with_reducible rfl
          rotate_left
          ·simp only [Act.put,sA_,sB_,sC_,i64_w,i32_w]
           rfl
          refine pure_ (i:=3) (N:=some 43) (v:=?_) (a':=?_) #[false,true,true,true,false,false,false,false,false,false,false,false,false,false,false] rfl rfl (any_of HT_.out (by kernel_rfl)) (fun _ _ _ h=>h) (Or.inl ⟨by rfl,?_⟩) ?_ ?_
          rotate_left
          ·intro w'
           go_simp
           with_reducible rfl
          rotate_left
          ·simp only [Act.put,sA_,sB_,sC_,i64_w,i32_w]
           rfl
          refine take_ (i:=0) (N:=some 40) (v:=?_) (a':=?_) #[true,true,true,true,false,false,false,false,false,false,false,false,false,false,false] rfl rfl (take_ofW HT_.out HW_.out (by kernel_rfl)) (fun _ _ _ h=>h) (Or.inl ⟨by rfl,?_⟩) hHeld ?_ ?_
          rotate_left
          ·rintro w' ⟨s0,s1,s2,s3,s4,s5⟩
           go_simp
           with_reducible rfl
          rotate_left
          ·simp only [Act.put,sA_,sB_,sC_,i64_w,i32_w]
           rfl
          refine take_ (i:=4) (N:=some 44) (v:=?_) (a':=?_) #[true,true,true,true,true,false,false,false,false,false,false,false,false,false,false] rfl rfl (take_ofW HT_.out HW_.out (by kernel_rfl)) (fun _ _ _ h=>h) (Or.inl ⟨by rfl,?_⟩) hHeld ?_ ?_
          rotate_left
          ·rintro w' ⟨s0,s1,s2,s3,s4,s5⟩
           go_simp
           with_reducible rfl
          rotate_left
          ·simp only [Act.put,sA_,sB_,sC_,i64_w,i32_w]
           rfl
          refine one_ (i:=5) (N:=some 45) #[true,true,true,true,true,true,false,false,false,false,false,false,false,false,false] rfl rfl (one_of HT_.out (by kernel_rfl)) (by decide) (fun K hK=>?_)
          refine goes_ Try.func42 (by kernel_rfl) rfl #[.agg #[.bool true,.slice A0_1 l0_1.length c0_1],.string (rdOf ByteArray.empty y173 x9_1)] (by rfl) rfl rfl (by (try simp only [List.map_toArray,List.map_cons,List.map_nil]);first|done|rfl|(simp only [List.length_drop,List.length_take];rfl)) ?_
          with_reducible refine (cadenceref3_Has.calls k1 true _ _ l0_1 (rdOf ByteArray.empty y173 x9_1) true _ ?side1 ?side2 A30.out).mono ?_
          (case side1=>repeat (first|exact (Kd.C_below HR0_1.out HB.out)|(with_reducible refine cA_ ?_ _)|(with_reducible refine cN_ ?_ _)|(with_reducible refine cD_ ?_)))
          (case side2=>exact HC0_1.out)
          rintro e w34 ⟨rfl,hb⟩
          have HS4_:=(hb.cell (World.block_lt_of_cell? _ _ (hHeld.2.2.2.2.1))).trans (hHeld.2.2.2.2.1)
          have HS5_:=(hb.cell (World.block_lt_of_cell? _ _ (hHeld.2.2.2.2.2))).trans (hHeld.2.2.2.2.2)
          refine ⟨_,rfl,?_⟩
          have n0_:=Az.mk (Kd.R_below (by (with_reducible repeat (first|apply rA_|apply rN_|apply rD_));exact HO_8.out) hb)
          have n1_:=Az.mk (Kd.R_below (by (with_reducible repeat (first|apply rA_|apply rN_|apply rD_));exact HO_167001.out) hb)
          have n2_:=Az.mk (bb_ (g:=gb163) (o:=.cells #[.bool true,.slice A0_1 l0_1.length c0_1] 38 (0,0)) (by (with_reducible repeat (first|refine bq_ ?_ _|refine bw_ ?_|refine bz_ ?_ _));exact BK163.out) hb)
          have n3_:=Az.mk (bb_ (g:=gb164) (o:=.cells #[.bool a1_0,.slice A1_1 l1_1.length c1_1] 38 (0,0)) (by (with_reducible repeat (first|refine bq_ ?_ _|refine bw_ ?_|refine bz_ ?_ _));exact BK164.out) hb)
          have n4_:=Az.mk (bb_ (g:=gb165) (o:=.cells #[.bool false,.slice none 0 0] 38 (0,0)) (by (with_reducible repeat (first|refine bq_ ?_ _|refine bw_ ?_|refine bz_ ?_ _));exact BK165.out) hb)
          have n5_:=Az.mk (bb_ (g:=gb166) (o:=.cells #[.bool a1_0,u167001] 38 (0,0)) (by (with_reducible repeat (first|refine bq_ ?_ _|refine bw_ ?_|refine bz_ ?_ _));exact BK166.out) hb)
          have n6_:=Az.mk (below_step (by repeat (first|(with_reducible first|exact HB.out|apply bA_|apply bN_|apply bD_|refine bs_ ?_ GE163.out|refine bs_ ?_ GE164.out|refine bs_ ?_ GE165.out|refine bs_ ?_ GE166.out)|exact HB.out)) hb)
          clear HO_8
          clear HO_167001
          clear BK163
          clear BK164
          clear BK165
          clear BK166
          clear HB
          have HO_8:=n0_
          have HO_167001:=n1_
          have BK163:=n2_
          have BK164:=n3_
          have BK165:=n4_
          have BK166:=n5_
          have HB:=n6_
          clear n0_ n1_ n2_ n3_ n4_ n5_ n6_
          (try clear hb)
          (try clear hb2)
          (try clear hk)
          (try clear hi)
          refine hK.out _ _ ⟨(bc_ BK163.out 0).trans rfl,(bc_ BK163.out 1).trans rfl,(bc_ BK164.out 0).trans rfl,(bc_ BK164.out 1).trans rfl,HS4_,HS5_⟩ (fun hHeld=>?_)
          clear hK K
          refine norm_ (a':=?_) ?_ ?_
          rotate_left
          ·show Act.put _ (some 45) _=_
           simp only [Act.put,sA_,sB_,sC_,i64_w,i32_w]
           rfl
          refine pure_ (i:=6) (N:=some 46) (v:=?_) (a':=?_) #[true,true,true,true,true,true,true,false,false,false,false,false,false,false,false] rfl rfl (any_of HT_.out (by kernel_rfl)) (fun _ _ _ h=>h) (Or.inl ⟨by rfl,?_⟩) ?_ ?_
          rotate_left
          ·intro w'
           go_simp
           with_reducible rfl
          rotate_left
          ·simp only [Act.put,sA_,sB_,sC_,i64_w,i32_w]
           rfl
          refine pure_ (i:=8) (N:=some 48) (v:=?_) (a':=?_) #[true,true,true,true,true,true,true,false,true,false,false,false,false,false,false] rfl rfl (any_of HT_.out (by kernel_rfl)) (fun _ _ _ h=>h) (Or.inl ⟨by rfl,?_⟩) ?_ ?_
          rotate_left
          ·intro w'
           go_simp
           with_reducible rfl
          rotate_left
          ·simp only [Act.put,sA_,sB_,sC_,i64_w,i32_w]
           rfl
          refine pure_ (i:=9) (N:=some 49) (v:=?_) (a':=?_) #[true,true,true,true,true,true,true,false,true,true,false,false,false,false,false] rfl rfl (any_of HT_.out (by kernel_rfl)) (fun _ _ _ h=>h) (Or.inl ⟨by rfl,?_⟩) ?_ ?_
          rotate_left
          ·intro w'
           go_simp
           with_reducible rfl
          rotate_left
          ·simp only [Act.put,sA_,sB_,sC_,i64_w,i32_w]
           rfl
          refine pure_ (i:=10) (N:=some 50) (v:=?_) (a':=?_) #[true,true,true,true,true,true,true,false,true,true,true,false,false,false,false] rfl rfl (any_of HT_.out (by kernel_rfl)) (fun _ _ _ h=>h) (Or.inl ⟨by rfl,?_⟩) ?_ ?_
          rotate_left
          ·intro w'
           go_simp
           with_reducible rfl
          rotate_left
          ·simp only [Act.put,sA_,sB_,sC_,i64_w,i32_w]
           rfl
          refine take_ (i:=7) (N:=some 47) (v:=?_) (a':=?_) #[true,true,true,true,true,true,true,true,true,true,true,false,false,false,false] rfl rfl (take_ofW HT_.out HW_.out (by kernel_rfl)) (fun _ _ _ h=>h) (Or.inl ⟨by rfl,?_⟩) hHeld ?_ ?_
          rotate_left
          ·rintro w' ⟨s0,s1,s2,s3,s4,s5⟩
           go_simp
           with_reducible rfl
          rotate_left
          ·simp only [Act.put,sA_,sB_,sC_,i64_w,i32_w]
           rfl
          refine take_ (i:=11) (N:=some 51) (v:=?_) (a':=?_) #[true,true,true,true,true,true,true,true,true,true,true,true,false,false,false] rfl rfl (take_ofW HT_.out HW_.out (by kernel_rfl)) (fun _ _ _ h=>h) (Or.inl ⟨by rfl,?_⟩) hHeld ?_ ?_
          rotate_left
          ·rintro w' ⟨s0,s1,s2,s3,s4,s5⟩
           go_simp
           with_reducible rfl
          rotate_left
          ·simp only [Act.put,sA_,sB_,sC_,i64_w,i32_w]
           rfl
          refine one_ (i:=12) (N:=some 52) #[true,true,true,true,true,true,true,true,true,true,true,true,true,false,false] rfl rfl (one_of HT_.out (by kernel_rfl)) (by decide) (fun K hK=>?_)
          refine goes_ Try.func42 (by kernel_rfl) rfl #[.agg #[.bool a1_0,.slice A1_1 l1_1.length c1_1],.string (rdOf ByteArray.empty y173 x9_1)] (by rfl) rfl rfl (by (try simp only [List.map_toArray,List.map_cons,List.map_nil]);first|done|rfl|(simp only [List.length_drop,List.length_take];rfl)) ?_
          with_reducible refine (cadenceref3_Has.calls k1 a1_0 _ _ l1_1 (rdOf ByteArray.empty y173 x9_1) t179 _ ?side1 ?side2 A32.out).mono ?_
          (case side1=>repeat (first|exact (Kd.C_below HR1_1.out HB.out)|(with_reducible refine cA_ ?_ _)|(with_reducible refine cN_ ?_ _)|(with_reducible refine cD_ ?_)))
          (case side2=>exact HC1_1.out)
          rintro e w35 ⟨rfl,hb⟩
          have HS4_:=(hb.cell (World.block_lt_of_cell? _ _ (hHeld.2.2.2.2.1))).trans (hHeld.2.2.2.2.1)
          have HS5_:=(hb.cell (World.block_lt_of_cell? _ _ (hHeld.2.2.2.2.2))).trans (hHeld.2.2.2.2.2)
          refine ⟨_,rfl,?_⟩
          have n0_:=Az.mk (Kd.R_below (by (with_reducible repeat (first|apply rA_|apply rN_|apply rD_));exact HO_8.out) hb)
          have n1_:=Az.mk (Kd.R_below (by (with_reducible repeat (first|apply rA_|apply rN_|apply rD_));exact HO_167001.out) hb)
          have n2_:=Az.mk (bb_ (g:=gb163) (o:=.cells #[.bool true,.slice A0_1 l0_1.length c0_1] 38 (0,0)) (by (with_reducible repeat (first|refine bq_ ?_ _|refine bw_ ?_|refine bz_ ?_ _));exact BK163.out) hb)
          have n3_:=Az.mk (bb_ (g:=gb164) (o:=.cells #[.bool a1_0,.slice A1_1 l1_1.length c1_1] 38 (0,0)) (by (with_reducible repeat (first|refine bq_ ?_ _|refine bw_ ?_|refine bz_ ?_ _));exact BK164.out) hb)
          have n4_:=Az.mk (bb_ (g:=gb165) (o:=.cells #[.bool false,.slice none 0 0] 38 (0,0)) (by (with_reducible repeat (first|refine bq_ ?_ _|refine bw_ ?_|refine bz_ ?_ _));exact BK165.out) hb)
          have n5_:=Az.mk (bb_ (g:=gb166) (o:=.cells #[.bool a1_0,u167001] 38 (0,0)) (by (with_reducible repeat (first|refine bq_ ?_ _|refine bw_ ?_|refine bz_ ?_ _));exact BK166.out) hb)
          have n6_:=Az.mk (below_step (by repeat (first|(with_reducible first|exact HB.out|apply bA_|apply bN_|apply bD_|refine bs_ ?_ GE163.out|refine bs_ ?_ GE164.out|refine bs_ ?_ GE165.out|refine bs_ ?_ GE166.out)|exact HB.out)) hb)
          clear HO_8
          clear HO_167001
          clear BK163
          clear BK164
          clear BK165
          clear BK166
          clear HB
          have HO_8:=n0_
          have HO_167001:=n1_
          have BK163:=n2_
          have BK164:=n3_
          have BK165:=n4_
          have BK166:=n5_
          have HB:=n6_
          clear n0_ n1_ n2_ n3_ n4_ n5_ n6_
          (try clear hb)
          (try clear hb2)
          (try clear hk)
          (try clear hi)
          refine hK.out _ _ ⟨(bc_ BK163.out 0).trans rfl,(bc_ BK163.out 1).trans rfl,(bc_ BK164.out 0).trans rfl,(bc_ BK164.out 1).trans rfl,HS4_,HS5_⟩ (fun hHeld=>?_)
          clear hK K
          refine norm_ (a':=?_) ?_ ?_
          rotate_left
          ·show Act.put _ (some 52) _=_
           simp only [Act.put,sA_,sB_,sC_,i64_w,i32_w]
           rfl
          refine pure_ (i:=13) (N:=some 53) (v:=?_) (a':=?_) #[true,true,true,true,true,true,true,true,true,true,true,true,true,true,false] rfl rfl (any_of HT_.out (by kernel_rfl)) (fun _ _ _ h=>h) (Or.inl ⟨by rfl,?_⟩) ?_ ?_
          rotate_left
          ·intro w'
           go_simp
           with_reducible rfl
          rotate_left
          ·simp only [Act.put,sA_,sB_,sC_,i64_w,i32_w]
           rfl
          refine pure_ (i:=14) (N:=some 10) (v:=?_) (a':=?_) #[true,true,true,true,true,true,true,true,true,true,true,true,true,true,true] rfl rfl (any_of HT_.out (by kernel_rfl)) (fun _ _ _ h=>h) (Or.inl ⟨by rfl,?_⟩) ?_ ?_
          rotate_left
          ·intro w'
           go_simp
           with_reducible rfl
          rotate_left
          ·simp only [Act.put,sA_,sB_,sC_,i64_w,i32_w]
           rfl
          refine done_ (done_of HT_.out (by kernel_rfl)) ?_
          try go_wp2
          go_meet
          case rel=>exact ⟨_,(t179),(by first|rfl|(simp;done)|(simp [*];done)),H',⟨by have:=HK1.out;first|omega|exact Nat.le_refl _⟩,⟨by (with_reducible repeat (first|apply rA_|apply rN_|apply rD_));exact HO_8.out⟩,⟨by (with_reducible repeat (first|apply rA_|apply rN_|apply rD_));exact HO_167001.out⟩,⟨by (with_reducible repeat (first|refine bq_ ?_ _|refine bw_ ?_|refine bz_ ?_ _));exact BK163.out⟩,⟨by (with_reducible repeat (first|refine bq_ ?_ _|refine bw_ ?_|refine bz_ ?_ _));exact BK164.out⟩,⟨by (with_reducible repeat (first|refine bq_ ?_ _|refine bw_ ?_|refine bz_ ?_ _));exact BK165.out⟩,⟨by (with_reducible repeat (first|refine bq_ ?_ _|refine bw_ ?_|refine bz_ ?_ _));exact BK166.out⟩,⟨by repeat (first|(with_reducible first|exact HB.out|apply bA_|apply bN_|apply bD_|refine bs_ ?_ GE163.out|refine bs_ ?_ GE164.out|refine bs_ ?_ GE165.out|refine bs_ ?_ GE166.out)|exact HB.out)⟩⟩
         ·replace c31:=Bool.eq_false_iff.mpr c31
          subst c31
          have H1:(cadenceref3_pick.j1 k1 y173 x9_1 false true l0_1 a1_0 l1_1 a1_0 x167001_1)=some (r1,r2):=by rw [if_neg (show ¬ (false=true) by decide)] at H;exact H
          clear H
          have H:=H1
          clear H1
          have H':=Az.mk H
          clear H
          try go_wp2
          have n0_:=Az.mk (rD_ HO_8.out)
          have n1_:=Az.mk (rD_ HO_167001.out)
          have n2_:=Az.mk (bw_ BK163.out)
          have n3_:=Az.mk (bw_ BK164.out)
          have n4_:=Az.mk (bw_ BK165.out)
          have n5_:=Az.mk (bw_ BK166.out)
          have n6_:=Az.mk (bD_ HB.out)
          clear HO_8
          clear HO_167001
          clear BK163
          clear BK164
          clear BK165
          clear BK166
          clear HB
          have HO_8:=n0_
          have HO_167001:=n1_
          have BK163:=n2_
          have BK164:=n3_
          have BK165:=n4_
          have BK166:=n5_
          have HB:=n6_
          clear n0_ n1_ n2_ n3_ n4_ n5_ n6_
          have p176:0≤(x9_1:Int):=of_decide_eq_true (by first|(with_reducible assumption)|assumption)
          have q176:x9_1 < (y173.length:Int):=of_decide_eq_true (by first|(with_reducible assumption)|assumption)
          obtain ⟨ad176,e176,hx176_0⟩:=Kd.at_string (Kd.R_reads' HO_8.out).2.2 x9_1 p176 q176
          cases e176
          replace p176:=eq_true p176
          replace q176:=eq_true q176
          refine start_ (n:=15) (S:=fun w'=>w'.cell? ⟨gb163,0,none⟩=some (.bool true)∧w'.cell? ⟨gb163,1,none⟩=some (.slice A0_1 l0_1.length c0_1)∧w'.cell? (ad176.add (x9_1).toNat)=some (.string (rdOf ByteArray.empty y173 x9_1))) (ds:=[]) #[false,false,false,false,false,false,false,false,false,false,false,false,false,false,false] (by kernel_rfl) rfl rfl ⟨(bc_ BK163.out 0).trans rfl,(bc_ BK163.out 1).trans rfl,hx176_0⟩ (fun hHeld=>?_);refine with_tabW cadenceref3_pick.tab8 cadenceref3_pick.bits8 (fun HT_ HW_=>?_)
          generalize wr.drew=w36 at HO_8 HO_167001 BK163 BK164 BK165 BK166 HB hx176_0 hHeld ⊢
          refine pure_ (i:=1) (N:=some 41) (v:=?_) (a':=?_) #[false,true,false,false,false,false,false,false,false,false,false,false,false,false,false] rfl rfl (any_of HT_.out (by kernel_rfl)) (fun _ _ _ h=>h) (Or.inl ⟨by rfl,?_⟩) ?_ ?_
          rotate_left
          ·intro w'
           go_simp
           with_reducible rfl
          rotate_left
          ·simp only [Act.put,sA_,sB_,sC_,i64_w,i32_w]
           rfl
          refine pure_ (i:=2) (N:=some 42) (v:=?_) (a':=?_) #[false,true,true,false,false,false,false,false,false,false,false,false,false,false,false] rfl rfl (any_of HT_.out (by kernel_rfl)) (fun _ _ _ h=>h) (Or.inl ⟨by rfl,?_⟩) ?_ ?_
          rotate_left
          ·intro w'
           go_simp
           with_reducible rfl
          rotate_left
          ·simp only [Act.put,sA_,sB_,sC_,i64_w,i32_w]
           rfl
          refine pure_ (i:=3) (N:=some 43) (v:=?_) (a':=?_) #[false,true,true,true,false,false,false,false,false,false,false,false,false,false,false] rfl rfl (any_of HT_.out (by kernel_rfl)) (fun _ _ _ h=>h) (Or.inl ⟨by rfl,?_⟩) ?_ ?_
          rotate_left
          ·intro w'
           go_simp
           with_reducible rfl
          rotate_left
          ·simp only [Act.put,sA_,sB_,sC_,i64_w,i32_w]
           rfl
          refine take_ (i:=0) (N:=some 40) (v:=?_) (a':=?_) #[true,true,true,true,false,false,false,false,false,false,false,false,false,false,false] rfl rfl (take_ofW HT_.out HW_.out (by kernel_rfl)) (fun _ _ _ h=>h) (Or.inl ⟨by rfl,?_⟩) hHeld ?_ ?_
          rotate_left
          ·rintro w' ⟨s0,s1,s2⟩
           go_simp
           with_reducible rfl
          rotate_left
          ·simp only [Act.put,sA_,sB_,sC_,i64_w,i32_w]
           rfl
          refine take_ (i:=4) (N:=some 44) (v:=?_) (a':=?_) #[true,true,true,true,true,false,false,false,false,false,false,false,false,false,false] rfl rfl (take_ofW HT_.out HW_.out (by kernel_rfl)) (fun _ _ _ h=>h) (Or.inl ⟨by rfl,?_⟩) hHeld ?_ ?_
          rotate_left
          ·rintro w' ⟨s0,s1,s2⟩
           go_simp
           with_reducible rfl
          rotate_left
          ·simp only [Act.put,sA_,sB_,sC_,i64_w,i32_w]
           rfl
          refine one_ (i:=5) (N:=some 45) #[true,true,true,true,true,true,false,false,false,false,false,false,false,false,false] rfl rfl (one_of HT_.out (by kernel_rfl)) (by decide) (fun K hK=>?_)
          refine goes_ Try.func42 (by kernel_rfl) rfl #[.agg #[.bool true,.slice A0_1 l0_1.length c0_1],.string (rdOf ByteArray.empty y173 x9_1)] (by rfl) rfl rfl (by (try simp only [List.map_toArray,List.map_cons,List.map_nil]);first|done|rfl|(simp only [List.length_drop,List.length_take];rfl)) ?_
          with_reducible refine (cadenceref3_Has.calls k1 true _ _ l0_1 (rdOf ByteArray.empty y173 x9_1) false _ ?side1 ?side2 A30.out).mono ?_
          (case side1=>repeat (first|exact (Kd.C_below HR0_1.out HB.out)|(with_reducible refine cA_ ?_ _)|(with_reducible refine cN_ ?_ _)|(with_reducible refine cD_ ?_)))
          (case side2=>exact HC0_1.out)
          rintro e w37 ⟨rfl,hb⟩
          have HS2_:=(hb.cell (World.block_lt_of_cell? _ _ (hHeld.2.2))).trans (hHeld.2.2)
          refine ⟨_,rfl,?_⟩
          have n0_:=Az.mk (Kd.R_below (by (with_reducible repeat (first|apply rA_|apply rN_|apply rD_));exact HO_8.out) hb)
          have n1_:=Az.mk (Kd.R_below (by (with_reducible repeat (first|apply rA_|apply rN_|apply rD_));exact HO_167001.out) hb)
          have n2_:=Az.mk (bb_ (g:=gb163) (o:=.cells #[.bool true,.slice A0_1 l0_1.length c0_1] 38 (0,0)) (by (with_reducible repeat (first|refine bq_ ?_ _|refine bw_ ?_|refine bz_ ?_ _));exact BK163.out) hb)
          have n3_:=Az.mk (bb_ (g:=gb164) (o:=.cells #[.bool a1_0,.slice A1_1 l1_1.length c1_1] 38 (0,0)) (by (with_reducible repeat (first|refine bq_ ?_ _|refine bw_ ?_|refine bz_ ?_ _));exact BK164.out) hb)
          have n4_:=Az.mk (bb_ (g:=gb165) (o:=.cells #[.bool false,.slice none 0 0] 38 (0,0)) (by (with_reducible repeat (first|refine bq_ ?_ _|refine bw_ ?_|refine bz_ ?_ _));exact BK165.out) hb)
          have n5_:=Az.mk (bb_ (g:=gb166) (o:=.cells #[.bool a1_0,u167001] 38 (0,0)) (by (with_reducible repeat (first|refine bq_ ?_ _|refine bw_ ?_|refine bz_ ?_ _));exact BK166.out) hb)
          have n6_:=Az.mk (below_step (by repeat (first|(with_reducible first|exact HB.out|apply bA_|apply bN_|apply bD_|refine bs_ ?_ GE163.out|refine bs_ ?_ GE164.out|refine bs_ ?_ GE165.out|refine bs_ ?_ GE166.out)|exact HB.out)) hb)
          clear HO_8
          clear HO_167001
          clear BK163
          clear BK164
          clear BK165
          clear BK166
          clear HB
          have HO_8:=n0_
          have HO_167001:=n1_
          have BK163:=n2_
          have BK164:=n3_
          have BK165:=n4_
          have BK166:=n5_
          have HB:=n6_
          clear n0_ n1_ n2_ n3_ n4_ n5_ n6_
          (try clear hb)
          (try clear hb2)
          (try clear hk)
          (try clear hi)
          refine hK.out _ _ ⟨(bc_ BK163.out 0).trans rfl,(bc_ BK163.out 1).trans rfl,HS2_⟩ (fun hHeld=>?_)
          clear hK K
          refine norm_ (a':=?_) ?_ ?_
          rotate_left
          ·show Act.put _ (some 45) _=_
           simp only [Act.put,sA_,sB_,sC_,i64_w,i32_w]
           rfl
          refine pure_ (i:=6) (N:=some 46) (v:=?_) (a':=?_) #[true,true,true,true,true,true,true,false,false,false,false,false,false,false,false] rfl rfl (any_of HT_.out (by kernel_rfl)) (fun _ _ _ h=>h) (Or.inl ⟨by rfl,?_⟩) ?_ ?_
          rotate_left
          ·intro w'
           go_simp
           with_reducible rfl
          rotate_left
          ·simp only [Act.put,sA_,sB_,sC_,i64_w,i32_w]
           rfl
          refine pure_ (i:=7) (N:=some 47) (v:=undef) (a':=?_) #[true,true,true,true,true,true,true,true,false,false,false,false,false,false,false] rfl rfl (any_of HT_.out (by kernel_rfl)) (fun _ _ _ h=>h) (Or.inr ⟨by rfl,rfl⟩) ?_ ?_
          rotate_left
          ·simp only [Act.put,sA_,sB_,sC_,i64_w,i32_w]
           rfl
          refine pure_ (i:=8) (N:=some 48) (v:=undef) (a':=?_) #[true,true,true,true,true,true,true,true,true,false,false,false,false,false,false] rfl rfl (any_of HT_.out (by kernel_rfl)) (fun _ _ _ h=>h) (Or.inr ⟨by rfl,rfl⟩) ?_ ?_
          rotate_left
          ·simp only [Act.put,sA_,sB_,sC_,i64_w,i32_w]
           rfl
          refine pure_ (i:=9) (N:=some 49) (v:=undef) (a':=?_) #[true,true,true,true,true,true,true,true,true,true,false,false,false,false,false] rfl rfl (any_of HT_.out (by kernel_rfl)) (fun _ _ _ h=>h) (Or.inr ⟨by rfl,rfl⟩) ?_ ?_
          rotate_left
          ·simp only [Act.put,sA_,sB_,sC_,i64_w,i32_w]
           rfl
          refine pure_ (i:=10) (N:=some 50) (v:=undef) (a':=?_) #[true,true,true,true,true,true,true,true,true,true,true,false,false,false,false] rfl rfl (any_of HT_.out (by kernel_rfl)) (fun _ _ _ h=>h) (Or.inr ⟨by rfl,rfl⟩) ?_ ?_
          rotate_left
          ·simp only [Act.put,sA_,sB_,sC_,i64_w,i32_w]
           rfl
          refine pure_ (i:=11) (N:=some 51) (v:=undef) (a':=?_) #[true,true,true,true,true,true,true,true,true,true,true,true,false,false,false] rfl rfl (any_of HT_.out (by kernel_rfl)) (fun _ _ _ h=>h) (Or.inr ⟨by rfl,rfl⟩) ?_ ?_
          rotate_left
          ·simp only [Act.put,sA_,sB_,sC_,i64_w,i32_w]
           rfl
          refine pure_ (i:=12) (N:=some 52) (v:=undef) (a':=?_) #[true,true,true,true,true,true,true,true,true,true,true,true,true,false,false] rfl rfl (any_of HT_.out (by kernel_rfl)) (fun _ _ _ h=>h) (Or.inr ⟨by rfl,rfl⟩) ?_ ?_
          rotate_left
          ·simp only [Act.put,sA_,sB_,sC_,i64_w,i32_w]
           rfl
          refine pure_ (i:=13) (N:=some 53) (v:=?_) (a':=?_) #[true,true,true,true,true,true,true,true,true,true,true,true,true,true,false] rfl rfl (any_of HT_.out (by kernel_rfl)) (fun _ _ _ h=>h) (Or.inl ⟨by rfl,?_⟩) ?_ ?_
          rotate_left
          ·intro w'
           go_simp
           with_reducible rfl
          rotate_left
          ·simp only [Act.put,sA_,sB_,sC_,i64_w,i32_w]
           rfl
          refine pure_ (i:=14) (N:=some 10) (v:=?_) (a':=?_) #[true,true,true,true,true,true,true,true,true,true,true,true,true,true,true] rfl rfl (any_of HT_.out (by kernel_rfl)) (fun _ _ _ h=>h) (Or.inl ⟨by rfl,?_⟩) ?_ ?_
          rotate_left
          ·intro w'
           go_simp
           with_reducible rfl
          rotate_left
          ·simp only [Act.put,sA_,sB_,sC_,i64_w,i32_w]
           rfl
          refine done_ (done_of HT_.out (by kernel_rfl)) ?_
          try go_wp2
          go_meet
          case rel=>exact ⟨_,(false),(by first|rfl|(simp;done)|(simp [*];done)),H',⟨by have:=HK1.out;first|omega|exact Nat.le_refl _⟩,⟨by (with_reducible repeat (first|apply rA_|apply rN_|apply rD_));exact HO_8.out⟩,⟨by (with_reducible repeat (first|apply rA_|apply rN_|apply rD_));exact HO_167001.out⟩,⟨by (with_reducible repeat (first|refine bq_ ?_ _|refine bw_ ?_|refine bz_ ?_ _));exact BK163.out⟩,⟨by (with_reducible repeat (first|refine bq_ ?_ _|refine bw_ ?_|refine bz_ ?_ _));exact BK164.out⟩,⟨by (with_reducible repeat (first|refine bq_ ?_ _|refine bw_ ?_|refine bz_ ?_ _));exact BK165.out⟩,⟨by (with_reducible repeat (first|refine bq_ ?_ _|refine bw_ ?_|refine bz_ ?_ _));exact BK166.out⟩,⟨by repeat (first|(with_reducible first|exact HB.out|apply bA_|apply bN_|apply bD_|refine bs_ ?_ GE163.out|refine bs_ ?_ GE164.out|refine bs_ ?_ GE165.out|refine bs_ ?_ GE166.out)|exact HB.out)⟩⟩
        ·rw [if_neg c29] at H
         exact absurd H (by simp)
       case rest =>
        clear HC27
        try clear c1
        try clear p1
        try clear q1
        try clear hx1
        try clear c2
        try clear p2
        try clear c3
        try clear c4
        try clear c5
        try clear c6
        try clear c10
        try clear c11
        try clear c13
        try clear c16
        try clear c17
        try clear p17
        try clear q17
        try clear hx17
        try clear c18
        try clear c26
        try clear c26b0
        try clear c29
        try clear c29b0
        try clear c31
        try clear hcz12_0
        try clear hcz12_1
        try clear hcz14_0
        try clear hcz14_1
        try clear hcz19_0
        try clear hcz19_1
        try clear hfz12_0
        try clear hfz12_1
        try clear hfz14_0
        try clear hfz14_1
        try clear hfz19_0
        try clear hfz19_1
        try clear hx176_0
        try clear hx178_0
        try clear p176
        try clear p178
        try clear p2
        try clear q176
        try clear q178
        obtain ⟨kq,x10_26,rfl,HA,HJ26,HO_8,HO_167001,BK163,BK164,BK165,BK166,HB⟩:=hcut
        cases kq with
        | zero=>exact absurd HA.out (by simp [cadenceref3_pick.j1])
        | succ kj26 =>
         have H:=HA.out
         clear HA
         simp only [cadenceref3_pick.j1] at H
         by_cases c38:(x10_26 != a1_0)=true
         ·rw [if_pos c38] at H
          have c38b0:(x10_26 != a1_0)=true:=c38
          (try (have c38b1:decide (x10_26=a1_0)=false:=by simpa using c38))
          (try (have c38b2:(x10_26 == a1_0)=false:=by simpa using c38))
          (try (have c38b3:¬ (x10_26=a1_0):=by simpa using c38))
          clear c38
          by_cases c39:0≤x9_1
          ·rw [if_pos c39] at H
           have c39b0:decide (0≤x9_1)=true:=decide_eq_true c39
           clear c39
           by_cases c40:x9_1 < (y173.length:Int)
           ·rw [if_pos c40] at H
            have c40b0:decide (x9_1 < (y173.length:Int))=true:=decide_eq_true c40
            clear c40
            replace H:=Option.bind_eq_some_iff.mp H
            obtain ⟨t181,A410,H⟩:=H
            replace H:(cadenceref3_pick.l0 kj26 y173 (wrap64 (x9_1+1)) true l0_1 a1_0 l1_1 a1_0 t181)=some (r1,r2):=H
            have A41:=Az.mk A410
            clear A410
            have H':=Az.mk H
            clear H
            have hnb42:=NB166_163.out
            have hnc42:=NB163_166.out
            have hnb43:=NB166_164.out
            have hnc43:=NB164_166.out
            have hnb44:=NB166_165.out
            have hnc44:=NB165_166.out
            have hcz45_0:wc.cell? ⟨gb166,0,none⟩=some (.bool a1_0):=(bc_ BK166.out 0).trans rfl
            have hcz45_1:wc.cell? ⟨gb166,1,none⟩=some (u167001):=(bc_ BK166.out 1).trans rfl
            have hfz45_0:=bf_ BK166.out 0
            have hfz45_1:=bf_ BK166.out 1
            try go_wp2
            have n0_:=Az.mk (rD_ HO_8.out)
            have n1_:=Az.mk (rD_ HO_167001.out)
            have n2_:=Az.mk (bw_ BK163.out)
            have n3_:=Az.mk (bw_ BK164.out)
            have n4_:=Az.mk (bw_ BK165.out)
            have n5_:=Az.mk (bw_ BK166.out)
            have n6_:=Az.mk (bD_ HB.out)
            clear HO_8
            clear HO_167001
            clear BK163
            clear BK164
            clear BK165
            clear BK166
            clear HB
            have HO_8:=n0_
            have HO_167001:=n1_
            have BK163:=n2_
            have BK164:=n3_
            have BK165:=n4_
            have BK166:=n5_
            have HB:=n6_
            clear n0_ n1_ n2_ n3_ n4_ n5_ n6_
            have p180:0≤(x9_1:Int):=of_decide_eq_true (by first|(with_reducible assumption)|assumption)
            have q180:x9_1 < (y173.length:Int):=of_decide_eq_true (by first|(with_reducible assumption)|assumption)
            obtain ⟨ad180,e180,hx180_0⟩:=Kd.at_string (Kd.R_reads' HO_8.out).2.2 x9_1 p180 q180
            cases e180
            replace p180:=eq_true p180
            replace q180:=eq_true q180
            obtain ⟨Ao47,co47,eo47⟩:=Kd.R_slice HO_167001.out
            (first|subst eo47|(injection eo47 with f1_ f2_ f3_;have f4_:=f1_.symm;have f5_:=f3_.symm;clear f1_ f2_ f3_;subst f4_;subst f5_))
            refine start_ (n:=9) (S:=fun w'=>w'.cell? ⟨gb166,0,none⟩=some (.bool a1_0)∧w'.cell? ⟨gb166,1,none⟩=some (.slice Ao47 x167001_1.length co47)∧w'.cell? (ad180.add (x9_1).toNat)=some (.string (rdOf ByteArray.empty y173 x9_1))) (ds:=[8]) #[false,false,false,false,false,false,false,false,false] (by kernel_rfl) rfl rfl ⟨(bc_ BK166.out 0).trans rfl,(bc_ BK166.out 1).trans rfl,hx180_0⟩ (fun hHeld=>?_);refine with_tabW cadenceref3_pick.tab12 cadenceref3_pick.bits12 (fun HT_ HW_=>?_)
            generalize wc.drew=w46 at HO_8 HO_167001 BK163 BK164 BK165 BK166 HB hx180_0 hHeld ⊢
            refine pure_ (i:=0) (N:=some 74) (v:=?_) (a':=?_) #[true,false,false,false,false,false,false,false,false] rfl rfl (any_of HT_.out (by kernel_rfl)) (fun _ _ _ h=>h) (Or.inl ⟨by rfl,?_⟩) ?_ ?_
            rotate_left
            ·intro w'
             go_simp
             with_reducible rfl
            rotate_left
            ·simp only [Act.put,sA_,sB_,sC_,i64_w,i32_w]
             rfl
            refine pure_ (i:=2) (N:=some 76) (v:=?_) (a':=?_) #[true,false,true,false,false,false,false,false,false] rfl rfl (any_of HT_.out (by kernel_rfl)) (fun _ _ _ h=>h) (Or.inl ⟨by rfl,?_⟩) ?_ ?_
            rotate_left
            ·intro w'
             go_simp
             with_reducible rfl
            rotate_left
            ·simp only [Act.put,sA_,sB_,sC_,i64_w,i32_w]
             rfl
            refine pure_ (i:=3) (N:=some 77) (v:=?_) (a':=?_) #[true,false,true,true,false,false,false,false,false] rfl rfl (any_of HT_.out (by kernel_rfl)) (fun _ _ _ h=>h) (Or.inl ⟨by rfl,?_⟩) ?_ ?_
            rotate_left
            ·intro w'
             go_simp
             with_reducible rfl
            rotate_left
            ·simp only [Act.put,sA_,sB_,sC_,i64_w,i32_w]
             rfl
            refine pure_ (i:=4) (N:=some 78) (v:=?_) (a':=?_) #[true,false,true,true,true,false,false,false,false] rfl rfl (any_of HT_.out (by kernel_rfl)) (fun _ _ _ h=>h) (Or.inl ⟨by rfl,?_⟩) ?_ ?_
            rotate_left
            ·intro w'
             go_simp
             with_reducible rfl
            rotate_left
            ·simp only [Act.put,sA_,sB_,sC_,i64_w,i32_w]
             rfl
            refine take_ (i:=1) (N:=some 75) (v:=?_) (a':=?_) #[true,true,true,true,true,false,false,false,false] rfl rfl (take_ofW HT_.out HW_.out (by kernel_rfl)) (fun _ _ _ h=>h) (Or.inl ⟨by rfl,?_⟩) hHeld ?_ ?_
            rotate_left
            ·rintro w' ⟨s0,s1,s2⟩
             go_simp
             with_reducible rfl
            rotate_left
            ·simp only [Act.put,sA_,sB_,sC_,i64_w,i32_w]
             rfl
            refine take_ (i:=5) (N:=some 79) (v:=?_) (a':=?_) #[true,true,true,true,true,true,false,false,false] rfl rfl (take_ofW HT_.out HW_.out (by kernel_rfl)) (fun _ _ _ h=>h) (Or.inl ⟨by rfl,?_⟩) hHeld ?_ ?_
            rotate_left
            ·rintro w' ⟨s0,s1,s2⟩
             go_simp
             with_reducible rfl
            rotate_left
            ·simp only [Act.put,sA_,sB_,sC_,i64_w,i32_w]
             rfl
            refine one_ (i:=6) (N:=some 80) #[true,true,true,true,true,true,true,false,false] rfl rfl (one_of HT_.out (by kernel_rfl)) (by decide) (fun K hK=>?_)
            refine goes_ Try.func45 (by kernel_rfl) rfl #[.slice Ao47 x167001_1.length co47,.string (rdOf ByteArray.empty y173 x9_1)] (by rfl) rfl rfl (by (try simp only [List.map_toArray,List.map_cons,List.map_nil]);first|done|rfl|(simp only [List.length_drop,List.length_take];rfl)) ?_
            with_reducible refine (cadenceref3_put.calls kj26 (fun k_=>some k_=(.slice Ao47 x167001_1.length co47:Value).ownBlock) (.slice Ao47 x167001_1.length co47) x167001_1 (rdOf ByteArray.empty y173 x9_1) t181 w _ ?side1 ?side2 A41.out).mono ?_
            (case side1=>repeat (first|(with_reducible first|exact HB.out|apply bA_|apply bN_|apply bD_|refine bs_ ?_ GE163.out|refine bs_ ?_ GE164.out|refine bs_ ?_ GE165.out|refine bs_ ?_ GE166.out)|exact HB.out))
            (case side2=>exact Kd.R_tight rfl HO_167001.out)
            rintro e w48 ⟨v182,rfl,ho0,hb,hkp⟩
            have HS2_:=cell_kept (hHeld.2.2) hkp (by first|(rw [add_block];exact (fun hs_=>(((HO_8.out).1 _ rfl)) hs_))|(show ¬ _;simp only [add_block];exact (fun hs_=>(((HO_8.out).1 _ rfl)) hs_))|exact (fun hs_=>(((HO_8.out).1 _ rfl)) hs_))
            refine ⟨_,rfl,?_⟩
            have n0_:=Az.mk (Kd.R_mono (ok':=fun k_=>some k_≠(v182:Value).ownBlock) (Kd.R_keptB (HO_8.out) hkp (fun k_ hk_ hs_=>(hk_) hs_)) (fun k_ hk_=>fun e_=>Or.elim (ho0.1 k_ e_.symm) (fun hs_=>hk_.2.1 hs_) (fun hn_=>Nat.not_le.2 hk_.2.2 hn_)))
            have n1_:=Az.mk (blk_kept (by (with_reducible repeat (first|refine bq_ ?_ _|refine bw_ ?_|refine bz_ ?_ _));exact BK163.out) hkp (fun hs_=>(fun e_=>(Kd.R_ne HO_167001.out BK163.out (by decide)) e_) hs_))
            have n2_:=Az.mk (blk_kept (by (with_reducible repeat (first|refine bq_ ?_ _|refine bw_ ?_|refine bz_ ?_ _));exact BK164.out) hkp (fun hs_=>(fun e_=>(Kd.R_ne HO_167001.out BK164.out (by decide)) e_) hs_))
            have n3_:=Az.mk (blk_kept (by (with_reducible repeat (first|refine bq_ ?_ _|refine bw_ ?_|refine bz_ ?_ _));exact BK165.out) hkp (fun hs_=>(fun e_=>(Kd.R_ne HO_167001.out BK165.out (by decide)) e_) hs_))
            have n4_:=Az.mk (blk_kept (by (with_reducible repeat (first|refine bq_ ?_ _|refine bw_ ?_|refine bz_ ?_ _));exact BK166.out) hkp (fun hs_=>(fun e_=>(Kd.R_ne HO_167001.out BK166.out (by decide)) e_) hs_))
            have n5_:=Az.mk (Kd.R_mono (ok':=fun k_=>some k_≠(.slice (some ad180) y173.length co28:Value).ownBlock) ho0 (fun k_ hk_=>Or.elim hk_ (fun hs_=>fun e_=>(((HO_8.out).1 k_ e_.symm)) hs_) (fun hn_=>(Kd.fresh' (Kd.R_lt (by (with_reducible repeat (first|apply rA_|apply rN_|apply rD_));exact HO_8.out)) k_ hn_))))
            have n6_:=Az.mk (hb)
            clear HO_8
            clear BK163
            clear BK164
            clear BK165
            clear BK166
            clear HB
            clear HO_167001
            have HO_8:=n0_
            have BK163:=n1_
            have BK164:=n2_
            have BK165:=n3_
            have BK166:=n4_
            have HO183:=n5_
            have HB:=n6_
            clear n0_ n1_ n2_ n3_ n4_ n5_ n6_
            (try clear hb)
            (try clear hkp)
            (try clear ho0)
            obtain ⟨Ao49,co49,eo49⟩:=Kd.R_slice HO183.out
            (first|subst eo49|(injection eo49 with f1_ f2_ f3_;have f4_:=f1_.symm;have f5_:=f3_.symm;clear f1_ f2_ f3_;subst f4_;subst f5_))
            refine hK.out _ _ ⟨(bc_ BK166.out 0).trans rfl,(bc_ BK166.out 1).trans rfl,HS2_⟩ (fun hHeld=>?_)
            clear hK K
            refine norm_ (a':=?_) ?_ ?_
            rotate_left
            ·show Act.put _ (some 80) _=_
             simp only [Act.put,sA_,sB_,sC_,i64_w,i32_w]
             rfl
            refine pure_ (i:=7) (N:=some 81) (v:=?_) (a':=?_) #[true,true,true,true,true,true,true,true,false] rfl rfl (any_of HT_.out (by kernel_rfl)) (fun _ _ _ h=>h) (Or.inl ⟨by rfl,?_⟩) ?_ ?_
            rotate_left
            ·intro w'
             go_simp
             with_reducible rfl
            rotate_left
            ·simp only [Act.put,sA_,sB_,sC_,i64_w,i32_w]
             rfl
            refine last_ (i:=8) (N:=none) #[true,true,true,true,true,true,true,true,true] rfl rfl (one_of HT_.out (by kernel_rfl)) (by decide) (fun K hK=>?_)
            have hs50:w48.cell? ⟨gb166,1,none⟩=some (.slice Ao47 x167001_1.length co47):=(bc_ BK166.out 1).trans rfl
            have hfs50:=bf_ BK166.out 1
            have hns50_0:=NB163_166.out
            have hns50_1:=NB164_166.out
            have hns50_2:=NB165_166.out
            have hms50_0:=NB166_163.out
            have hms50_1:=NB166_164.out
            have hms50_2:=NB166_165.out
            refine skip_ (w1:=?_) (by rfl) rfl ?_ ?_
            rotate_left
            ·go_simp
             rfl
            refine hK.out _ _ ?_
            clear hK K
            refine done_ (done_of HT_.out (by kernel_rfl)) ?_
            try go_wp2
            go_roundg kj26
            case measure=>have:=HK1.out;have:=HJ26.out;omega
            case rel=>exact ⟨(wrap64 (x9_1+1)),(t181),(.slice Ao49 t181.length co49),(by first|rfl|(simp;done)|(simp [*];done)),H',⟨by have:=HK1.out;have:=HJ26.out;omega⟩,⟨by (with_reducible repeat (first|apply rA_|apply rN_|apply rD_));exact Kd.R_mono (Kd.R_far (p:=⟨gb166,1,none⟩) (Kd.R_types HO_8.out BK166.out (by decide)) (fun _ hk=>hk.2) (.slice Ao49 t181.length co49)) (fun _ hk=>hk.1)⟩,⟨by (with_reducible repeat (first|apply rA_|apply rN_|apply rD_));exact Kd.R_mono (Kd.R_far (p:=⟨gb166,1,none⟩) (Kd.R_types HO183.out BK166.out (by decide)) (fun _ hk=>hk.2) (.slice Ao49 t181.length co49)) (fun _ hk=>hk.1)⟩,⟨by (with_reducible repeat (first|refine bq_ ?_ _|refine bw_ ?_|refine bz_ ?_ _));refine blk_far ?_ NB163_166.out _;(with_reducible repeat (first|refine bq_ ?_ _|refine bw_ ?_|refine bz_ ?_ _));exact BK163.out⟩,⟨by (with_reducible repeat (first|refine bq_ ?_ _|refine bw_ ?_|refine bz_ ?_ _));refine blk_far ?_ NB164_166.out _;(with_reducible repeat (first|refine bq_ ?_ _|refine bw_ ?_|refine bz_ ?_ _));exact BK164.out⟩,⟨by (with_reducible repeat (first|refine bq_ ?_ _|refine bw_ ?_|refine bz_ ?_ _));refine blk_far ?_ NB165_166.out _;(with_reducible repeat (first|refine bq_ ?_ _|refine bw_ ?_|refine bz_ ?_ _));exact BK165.out⟩,⟨by (with_reducible repeat (first|refine bq_ ?_ _|refine bw_ ?_|refine bz_ ?_ _));refine blk_put (cs:=#[.bool a1_0,.slice Ao47 x167001_1.length co47]) ?_ 1 _ rfl;(with_reducible repeat (first|refine bq_ ?_ _|refine bw_ ?_|refine bz_ ?_ _));exact BK166.out⟩,⟨by repeat (first|(with_reducible first|exact HB.out|apply bA_|apply bN_|apply bD_|refine bs_ ?_ GE163.out|refine bs_ ?_ GE164.out|refine bs_ ?_ GE165.out|refine bs_ ?_ GE166.out)|exact HB.out)⟩⟩
           ·rw [if_neg c40] at H
            exact absurd H (by simp)
          ·rw [if_neg c39] at H
           exact absurd H (by simp)
         ·rw [if_neg c38] at H
          have c38b0:(x10_26 != a1_0)=false:=by simpa using c38
          (try (have c38b1:decide (x10_26=a1_0)=true:=by simpa using c38))
          (try (have c38b2:(x10_26 == a1_0)=true:=by simpa using c38))
          clear c38
          have H':=Az.mk H
          clear H
          have hnb51:=NB166_163.out
          have hnc51:=NB163_166.out
          have hnb52:=NB166_164.out
          have hnc52:=NB164_166.out
          have hnb53:=NB166_165.out
          have hnc53:=NB165_166.out
          have hcz54_0:wc.cell? ⟨gb166,0,none⟩=some (.bool a1_0):=(bc_ BK166.out 0).trans rfl
          have hcz54_1:wc.cell? ⟨gb166,1,none⟩=some (u167001):=(bc_ BK166.out 1).trans rfl
          have hfz54_0:=bf_ BK166.out 0
          have hfz54_1:=bf_ BK166.out 1
          go_wp2
          go_roundg kj26
          case measure=>have:=HK1.out;have:=HJ26.out;omega
          case rel=>exact ⟨(wrap64 (x9_1+1)),(x167001_1),(u167001),(by first|rfl|(simp;done)|(simp [*];done)),H',⟨by have:=HK1.out;have:=HJ26.out;omega⟩,⟨by (with_reducible repeat (first|apply rA_|apply rN_|apply rD_));exact HO_8.out⟩,⟨by (with_reducible repeat (first|apply rA_|apply rN_|apply rD_));exact HO_167001.out⟩,⟨by (with_reducible repeat (first|refine bq_ ?_ _|refine bw_ ?_|refine bz_ ?_ _));exact BK163.out⟩,⟨by (with_reducible repeat (first|refine bq_ ?_ _|refine bw_ ?_|refine bz_ ?_ _));exact BK164.out⟩,⟨by (with_reducible repeat (first|refine bq_ ?_ _|refine bw_ ?_|refine bz_ ?_ _));exact BK165.out⟩,⟨by (with_reducible repeat (first|refine bq_ ?_ _|refine bw_ ?_|refine bz_ ?_ _));exact BK166.out⟩,⟨by repeat (first|(with_reducible first|exact HB.out|apply bA_|apply bN_|apply bD_|refine bs_ ?_ GE163.out|refine bs_ ?_ GE164.out|refine bs_ ?_ GE165.out|refine bs_ ?_ GE166.out)|exact HB.out)⟩⟩
      ·rw [if_neg c26] at H
       have c26b0:decide (x9_1 < (y173.length:Int))=false:=decide_eq_false c26
       clear c26
       simp only [Option.some.injEq,Prod.mk.injEq] at H
       obtain ⟨rfl,rfl⟩:=H
       obtain ⟨Ao55,co55,eo55⟩:=Kd.R_slice HO_8.out
       subst eo55
       have hnb56:=NB166_163.out
       have hnc56:=NB163_166.out
       have hnb57:=NB166_164.out
       have hnc57:=NB164_166.out
       have hnb58:=NB166_165.out
       have hnc58:=NB165_166.out
       have hcz59_0:wr.cell? ⟨gb166,0,none⟩=some (.bool a1_0):=(bc_ BK166.out 0).trans rfl
       have hcz59_1:wr.cell? ⟨gb166,1,none⟩=some (u167001):=(bc_ BK166.out 1).trans rfl
       have hfz59_0:=bf_ BK166.out 0
       have hfz59_1:=bf_ BK166.out 1
       have hnb60:=NB165_163.out
       have hnc60:=NB163_165.out
       have hnb61:=NB165_164.out
       have hnc61:=NB164_165.out
       have hcz62_0:wr.cell? ⟨gb165,0,none⟩=some (.bool false):=(bc_ BK165.out 0).trans rfl
       have hcz62_1:wr.cell? ⟨gb165,1,none⟩=some (.slice none 0 0):=(bc_ BK165.out 1).trans rfl
       have hfz62_0:=bf_ BK165.out 0
       have hfz62_1:=bf_ BK165.out 1
       obtain ⟨Ao63,co63,eo63⟩:=Kd.R_slice HO_167001.out
       subst eo63
       go_wp2
       refine bodyPost_ret (results_cell_row rfl _ _ gb165 38 #[.bool a1_0,.slice Ao63 x167001_1.length co63] (0,0) _ rfl (by (with_reducible repeat (first|refine bq_ ?_ _|refine bw_ ?_|refine bz_ ?_ _));refine blk_put (cs:=#[.bool a1_0,.slice none 0 0]) ?_ 1 _ rfl;(with_reducible repeat (first|refine bq_ ?_ _|refine bw_ ?_|refine bz_ ?_ _));refine blk_put (cs:=#[.bool false,.slice none 0 0]) ?_ 0 _ rfl;(with_reducible repeat (first|refine bq_ ?_ _|refine bw_ ?_|refine bz_ ?_ _));exact BK165.out) Try.underlying38 rfl (by kernel_rfl)) rfl ?_
       exact ⟨_,by first|rfl|(simp [errW_none,errW_some] <;> rfl)|(simp [*,errW_none,errW_some] <;> rfl),by (with_reducible repeat (first|apply rA_|apply rN_|apply rD_));exact Kd.R_mono (Kd.R_far (p:=⟨gb165,1,none⟩) (Kd.R_far (p:=⟨gb165,0,none⟩) (Kd.R_types HO_167001.out BK165.out (by decide)) (fun _ hk=>hk.2) (.bool a1_0)) (fun _ hk=>hk.2) (.slice Ao63 x167001_1.length co63)) (fun _ hk=>trivial),by repeat (first|(with_reducible first|exact HB.out|apply bA_|apply bN_|apply bD_|refine bs_ ?_ GE163.out|refine bs_ ?_ GE164.out|refine bs_ ?_ GE165.out|refine bs_ ?_ GE166.out)|exact HB.out)⟩
   ·rw [if_neg c6] at H
    exact absurd H (by simp)
  ·rw [if_neg c5] at H
   exact absurd H (by simp)
 ·replace c4:=Bool.eq_false_iff.mpr c4
  subst c4
  have H1:((some (([]:List ByteArray):List ByteArray)).bind fun y185=>(if y185.length+l0_1.length < 8796093022208 then ((some (y185 ++ l0_1:List ByteArray)).bind fun y188=>(if y188.length+l1_1.length < 8796093022208 then (cadenceref3_pick.l0 k (y188 ++ l1_1) 0 false l0_1 a1_0 l1_1 false ([]:List ByteArray)) else (none))) else (none)))=some (r1,r2):=by rw [if_neg (show ¬ (false=true) by decide)] at H;exact H
  clear H
  have H:=H1
  clear H1
  obtain ⟨y185,hy185⟩:∃ y_:List ByteArray,y_=(([]:List ByteArray)):=⟨_,rfl⟩
  replace H:(if y185.length+l0_1.length < 8796093022208 then ((some (y185 ++ l0_1:List ByteArray)).bind fun y188=>(if y188.length+l1_1.length < 8796093022208 then (cadenceref3_pick.l0 k (y188 ++ l1_1) 0 false l0_1 a1_0 l1_1 false ([]:List ByteArray)) else (none))) else (none))=some (r1,r2):=by first|(rw [hy185];with_reducible exact H)|(have H2_:=(Option.bind_some _ _).symm.trans H;rw [hy185];with_reducible exact H2_)|(have H2_:=(Option.bind_some _ _).symm.trans H;with_reducible exact H2_)|with_reducible exact H|(rw [hy185];exact H)|exact H
  have Ny185:=Az.mk hy185
  clear hy185
  by_cases c64:y185.length+l0_1.length < 8796093022208
  ·rw [if_pos c64] at H
   have LMc64:=Az.mk c64
   clear c64
   obtain ⟨y188,hy188⟩:∃ y_:List ByteArray,y_=(y185 ++ l0_1):=⟨_,rfl⟩
   replace H:(if y188.length+l1_1.length < 8796093022208 then (cadenceref3_pick.l0 k (y188 ++ l1_1) 0 false l0_1 a1_0 l1_1 false ([]:List ByteArray)) else (none))=some (r1,r2):=by first|(rw [hy188];with_reducible exact H)|(have H2_:=(Option.bind_some _ _).symm.trans H;rw [hy188];with_reducible exact H2_)|(have H2_:=(Option.bind_some _ _).symm.trans H;with_reducible exact H2_)|with_reducible exact H|(rw [hy188];exact H)|exact H
   have Ny188:=Az.mk hy188
   clear hy188
   by_cases c65:y188.length+l1_1.length < 8796093022208
   ·rw [if_pos c65] at H
    have LMc65:=Az.mk c65
    clear c65
    obtain ⟨y191,hy191⟩:∃ y_:List ByteArray,y_=(y188 ++ l1_1):=⟨_,rfl⟩
    replace H:(cadenceref3_pick.l0 k y191 0 false l0_1 a1_0 l1_1 false ([]:List ByteArray))=some (r1,r2):=by first|(rw [hy191];with_reducible exact H)|(have H2_:=(Option.bind_some _ _).symm.trans H;rw [hy191];with_reducible exact H2_)|(have H2_:=(Option.bind_some _ _).symm.trans H;with_reducible exact H2_)|with_reducible exact H|(rw [hy191];exact H)|exact H
    have Ny191:=Az.mk hy191
    clear hy191
    have H':=Az.mk H
    clear H
    go_enter Try.func43,Try.ntmps43
    try go_wp2_with (first|((with_reducible refine gate_dst (N:=3) rfl ?_);refine box_event ?hg (N:=3) ?hd (cs:=#[.bool false,.slice A0_1 l0_1.length c0_1]) (t:=38) ?hr ?_;(case hd=>rfl);(case hg=>rfl);(case hr=>first|(go_simp;done)|(go_simp;rfl));intro gb163 hg w66 hbox hb;have n0_:=Az.mk (below_step (by repeat (first|(with_reducible first|exact HB.out|apply bA_|apply bN_|apply bD_)|exact HB.out)) hb);have n1_:=Az.mk (hbox);have n2_:=Az.mk ((by rw [hg];exact (be_ (by repeat (first|(with_reducible first|exact HB.out|apply bA_|apply bN_|apply bD_)|exact HB.out))):w.heap.size≤gb163));have n3_:=Az.mk ((by rw [hg];exact (be_ (by repeat (first|(with_reducible first|exact HB.out|apply bA_|apply bN_|apply bD_)|exact HB.out))):w.heap.size≤gb163));clear HB;have HB:=n0_;have BK163:=n1_;have GW163:=n2_;have GE163:=n3_;clear n0_ n1_ n2_ n3_;clear hb hbox hg)|((with_reducible refine gate_dst (N:=4) rfl ?_);refine box_event ?hg (N:=4) ?hd (cs:=#[.bool a1_0,.slice A1_1 l1_1.length c1_1]) (t:=38) ?hr ?_;(case hd=>rfl);(case hg=>rfl);(case hr=>first|(go_simp;done)|(go_simp;rfl));intro gb164 hg w67 hbox hb;have n0_:=Az.mk (bb_ (g:=gb163) (o:=.cells #[.bool false,.slice A0_1 l0_1.length c0_1] 38 (0,0)) (by (with_reducible repeat (first|refine bq_ ?_ _|refine bw_ ?_|refine bz_ ?_ _));exact BK163.out) hb);have n1_:=Az.mk (below_step (by repeat (first|(with_reducible first|exact HB.out|apply bA_|apply bN_|apply bD_|refine bs_ ?_ GE163.out)|exact HB.out)) hb);have n2_:=Az.mk (hbox);have n3_:=Az.mk ((by rw [hg];exact (be_ (by repeat (first|(with_reducible first|exact HB.out|apply bA_|apply bN_|apply bD_|refine bs_ ?_ GE163.out)|exact HB.out))):w.heap.size≤gb164));have n4_:=Az.mk ((by rw [hg];exact (be_ (by repeat (first|(with_reducible first|exact HB.out|apply bA_|apply bN_|apply bD_|refine bs_ ?_ GE163.out)|exact HB.out))):w.heap.size≤gb164));have n5_:=Az.mk ((by rw [hg];exact Nat.ne_of_lt (blk_lt (g:=gb163) (o:=.cells #[.bool false,.slice A0_1 l0_1.length c0_1] 38 (0,0)) (by (with_reducible repeat (first|refine bq_ ?_ _|refine bw_ ?_|refine bz_ ?_ _));exact BK163.out)):gb163≠gb164));have n6_:=Az.mk ((by rw [hg];exact Nat.ne_of_gt (blk_lt (g:=gb163) (o:=.cells #[.bool false,.slice A0_1 l0_1.length c0_1] 38 (0,0)) (by (with_reducible repeat (first|refine bq_ ?_ _|refine bw_ ?_|refine bz_ ?_ _));exact BK163.out)):gb164≠gb163));clear BK163;clear HB;have BK163:=n0_;have HB:=n1_;have BK164:=n2_;have GW164:=n3_;have GE164:=n4_;have NB163_164:=n5_;have NB164_163:=n6_;clear n0_ n1_ n2_ n3_ n4_ n5_ n6_;clear hb hbox hg)|((with_reducible refine gate_dst (N:=6) rfl ?_);refine box_event ?hg (N:=6) ?hd (cs:=#[.bool false,.slice none 0 0]) (t:=38) ?hr ?_;(case hd=>rfl);(case hg=>rfl);(case hr=>first|(go_simp;done)|(go_simp;rfl));intro gb165 hg w68 hbox hb;have n0_:=Az.mk (bb_ (g:=gb163) (o:=.cells #[.bool false,.slice A0_1 l0_1.length c0_1] 38 (0,0)) (by (with_reducible repeat (first|refine bq_ ?_ _|refine bw_ ?_|refine bz_ ?_ _));exact BK163.out) hb);have n1_:=Az.mk (bb_ (g:=gb164) (o:=.cells #[.bool a1_0,.slice A1_1 l1_1.length c1_1] 38 (0,0)) (by (with_reducible repeat (first|refine bq_ ?_ _|refine bw_ ?_|refine bz_ ?_ _));exact BK164.out) hb);have n2_:=Az.mk (below_step (by repeat (first|(with_reducible first|exact HB.out|apply bA_|apply bN_|apply bD_|refine bs_ ?_ GE163.out|refine bs_ ?_ GE164.out)|exact HB.out)) hb);have n3_:=Az.mk (hbox);have n4_:=Az.mk ((by rw [hg];exact (be_ (by repeat (first|(with_reducible first|exact HB.out|apply bA_|apply bN_|apply bD_|refine bs_ ?_ GE163.out|refine bs_ ?_ GE164.out)|exact HB.out))):w.heap.size≤gb165));have n5_:=Az.mk ((by rw [hg];exact (be_ (by repeat (first|(with_reducible first|exact HB.out|apply bA_|apply bN_|apply bD_|refine bs_ ?_ GE163.out|refine bs_ ?_ GE164.out)|exact HB.out))):w.heap.size≤gb165));have n6_:=Az.mk ((by rw [hg];exact Nat.ne_of_lt (blk_lt (g:=gb163) (o:=.cells #[.bool false,.slice A0_1 l0_1.length c0_1] 38 (0,0)) (by (with_reducible repeat (first|refine bq_ ?_ _|refine bw_ ?_|refine bz_ ?_ _));exact BK163.out)):gb163≠gb165));have n7_:=Az.mk ((by rw [hg];exact Nat.ne_of_gt (blk_lt (g:=gb163) (o:=.cells #[.bool false,.slice A0_1 l0_1.length c0_1] 38 (0,0)) (by (with_reducible repeat (first|refine bq_ ?_ _|refine bw_ ?_|refine bz_ ?_ _));exact BK163.out)):gb165≠gb163));have n8_:=Az.mk ((by rw [hg];exact Nat.ne_of_lt (blk_lt (g:=gb164) (o:=.cells #[.bool a1_0,.slice A1_1 l1_1.length c1_1] 38 (0,0)) (by (with_reducible repeat (first|refine bq_ ?_ _|refine bw_ ?_|refine bz_ ?_ _));exact BK164.out)):gb164≠gb165));have n9_:=Az.mk ((by rw [hg];exact Nat.ne_of_gt (blk_lt (g:=gb164) (o:=.cells #[.bool a1_0,.slice A1_1 l1_1.length c1_1] 38 (0,0)) (by (with_reducible repeat (first|refine bq_ ?_ _|refine bw_ ?_|refine bz_ ?_ _));exact BK164.out)):gb165≠gb164));clear BK163;clear BK164;clear HB;have BK163:=n0_;have BK164:=n1_;have HB:=n2_;have BK165:=n3_;have GW165:=n4_;have GE165:=n5_;have NB163_165:=n6_;have NB165_163:=n7_;have NB164_165:=n8_;have NB165_164:=n9_;clear n0_ n1_ n2_ n3_ n4_ n5_ n6_ n7_ n8_ n9_;clear hb hbox hg;have hnb69:=NB163_164.out;have hnc69:=NB164_163.out;have hnb70:=NB163_165.out;have hnc70:=NB165_163.out;have hcz71_0:w68.cell? ⟨gb163,0,none⟩=some (.bool false):=(bc_ BK163.out 0).trans rfl;have hcz71_1:w68.cell? ⟨gb163,1,none⟩=some (.slice A0_1 l0_1.length c0_1):=(bc_ BK163.out 1).trans rfl;have hfz71_0:=bf_ BK163.out 0;have hfz71_1:=bf_ BK163.out 1)|((with_reducible refine gate_dst (N:=7) rfl ?_);refine box_event ?hg (N:=7) ?hd (cs:=#[.bool false,.slice none 0 0]) (t:=38) ?hr ?_;(case hd=>rfl);(case hg=>rfl);(case hr=>first|(go_simp;done)|(go_simp;rfl));intro gb166 hg w72 hbox hb;have n0_:=Az.mk (bb_ (g:=gb163) (o:=.cells #[.bool false,.slice A0_1 l0_1.length c0_1] 38 (0,0)) (by (with_reducible repeat (first|refine bq_ ?_ _|refine bw_ ?_|refine bz_ ?_ _));exact BK163.out) hb);have n1_:=Az.mk (bb_ (g:=gb164) (o:=.cells #[.bool a1_0,.slice A1_1 l1_1.length c1_1] 38 (0,0)) (by (with_reducible repeat (first|refine bq_ ?_ _|refine bw_ ?_|refine bz_ ?_ _));exact BK164.out) hb);have n2_:=Az.mk (bb_ (g:=gb165) (o:=.cells #[.bool false,.slice none 0 0] 38 (0,0)) (by (with_reducible repeat (first|refine bq_ ?_ _|refine bw_ ?_|refine bz_ ?_ _));exact BK165.out) hb);have n3_:=Az.mk (below_step (by repeat (first|(with_reducible first|exact HB.out|apply bA_|apply bN_|apply bD_|refine bs_ ?_ GE163.out|refine bs_ ?_ GE164.out|refine bs_ ?_ GE165.out)|exact HB.out)) hb);have n4_:=Az.mk (hbox);have n5_:=Az.mk ((by rw [hg];exact (be_ (by repeat (first|(with_reducible first|exact HB.out|apply bA_|apply bN_|apply bD_|refine bs_ ?_ GE163.out|refine bs_ ?_ GE164.out|refine bs_ ?_ GE165.out)|exact HB.out))):w.heap.size≤gb166));have n6_:=Az.mk ((by rw [hg];exact (be_ (by repeat (first|(with_reducible first|exact HB.out|apply bA_|apply bN_|apply bD_|refine bs_ ?_ GE163.out|refine bs_ ?_ GE164.out|refine bs_ ?_ GE165.out)|exact HB.out))):w.heap.size≤gb166));have n7_:=Az.mk ((by rw [hg];exact Nat.ne_of_lt (blk_lt (g:=gb163) (o:=.cells #[.bool false,.slice A0_1 l0_1.length c0_1] 38 (0,0)) (by (with_reducible repeat (first|refine bq_ ?_ _|refine bw_ ?_|refine bz_ ?_ _));exact BK163.out)):gb163≠gb166));have n8_:=Az.mk ((by rw [hg];exact Nat.ne_of_gt (blk_lt (g:=gb163) (o:=.cells #[.bool false,.slice A0_1 l0_1.length c0_1] 38 (0,0)) (by (with_reducible repeat (first|refine bq_ ?_ _|refine bw_ ?_|refine bz_ ?_ _));exact BK163.out)):gb166≠gb163));have n9_:=Az.mk ((by rw [hg];exact Nat.ne_of_lt (blk_lt (g:=gb164) (o:=.cells #[.bool a1_0,.slice A1_1 l1_1.length c1_1] 38 (0,0)) (by (with_reducible repeat (first|refine bq_ ?_ _|refine bw_ ?_|refine bz_ ?_ _));exact BK164.out)):gb164≠gb166));have n10_:=Az.mk ((by rw [hg];exact Nat.ne_of_gt (blk_lt (g:=gb164) (o:=.cells #[.bool a1_0,.slice A1_1 l1_1.length c1_1] 38 (0,0)) (by (with_reducible repeat (first|refine bq_ ?_ _|refine bw_ ?_|refine bz_ ?_ _));exact BK164.out)):gb166≠gb164));have n11_:=Az.mk ((by rw [hg];exact Nat.ne_of_lt (blk_lt (g:=gb165) (o:=.cells #[.bool false,.slice none 0 0] 38 (0,0)) (by (with_reducible repeat (first|refine bq_ ?_ _|refine bw_ ?_|refine bz_ ?_ _));exact BK165.out)):gb165≠gb166));have n12_:=Az.mk ((by rw [hg];exact Nat.ne_of_gt (blk_lt (g:=gb165) (o:=.cells #[.bool false,.slice none 0 0] 38 (0,0)) (by (with_reducible repeat (first|refine bq_ ?_ _|refine bw_ ?_|refine bz_ ?_ _));exact BK165.out)):gb166≠gb165));clear BK163;clear BK164;clear BK165;clear HB;have BK163:=n0_;have BK164:=n1_;have BK165:=n2_;have HB:=n3_;have BK166:=n4_;have GW166:=n5_;have GE166:=n6_;have NB163_166:=n7_;have NB166_163:=n8_;have NB164_166:=n9_;have NB166_164:=n10_;have NB165_166:=n11_;have NB166_165:=n12_;clear n0_ n1_ n2_ n3_ n4_ n5_ n6_ n7_ n8_ n9_ n10_ n11_ n12_;clear hb hbox hg;have hnb73:=NB166_163.out;have hnc73:=NB163_166.out;have hnb74:=NB166_164.out;have hnc74:=NB164_166.out;have hnb75:=NB166_165.out;have hnc75:=NB165_166.out;have hcz76_0:w72.cell? ⟨gb166,0,none⟩=some (.bool false):=(bc_ BK166.out 0).trans rfl;have hcz76_1:w72.cell? ⟨gb166,1,none⟩=some (.slice none 0 0):=(bc_ BK166.out 1).trans rfl;have hfz76_0:=bf_ BK166.out 0;have hfz76_1:=bf_ BK166.out 1))
    have n0_:Az (((w72.setCell ⟨gb166,0,none⟩ (.bool false)).setCell ⟨gb166,1,none⟩ (.slice none 0 0)).heap[gb163]? = some (.cells #[.bool false,.slice A0_1 l0_1.length c0_1] 38 (0,0))):=⟨by (with_reducible repeat (first|refine bq_ ?_ _|refine bw_ ?_|refine bz_ ?_ _));refine blk_far ?_ NB163_166.out _;(with_reducible repeat (first|refine bq_ ?_ _|refine bw_ ?_|refine bz_ ?_ _));refine blk_far ?_ NB163_166.out _;(with_reducible repeat (first|refine bq_ ?_ _|refine bw_ ?_|refine bz_ ?_ _));exact BK163.out⟩
    have n1_:Az (((w72.setCell ⟨gb166,0,none⟩ (.bool false)).setCell ⟨gb166,1,none⟩ (.slice none 0 0)).heap[gb164]? = some (.cells #[.bool a1_0,.slice A1_1 l1_1.length c1_1] 38 (0,0))):=⟨by (with_reducible repeat (first|refine bq_ ?_ _|refine bw_ ?_|refine bz_ ?_ _));refine blk_far ?_ NB164_166.out _;(with_reducible repeat (first|refine bq_ ?_ _|refine bw_ ?_|refine bz_ ?_ _));refine blk_far ?_ NB164_166.out _;(with_reducible repeat (first|refine bq_ ?_ _|refine bw_ ?_|refine bz_ ?_ _));exact BK164.out⟩
    have n2_:Az (((w72.setCell ⟨gb166,0,none⟩ (.bool false)).setCell ⟨gb166,1,none⟩ (.slice none 0 0)).heap[gb165]? = some (.cells #[.bool false,.slice none 0 0] 38 (0,0))):=⟨by (with_reducible repeat (first|refine bq_ ?_ _|refine bw_ ?_|refine bz_ ?_ _));refine blk_far ?_ NB165_166.out _;(with_reducible repeat (first|refine bq_ ?_ _|refine bw_ ?_|refine bz_ ?_ _));refine blk_far ?_ NB165_166.out _;(with_reducible repeat (first|refine bq_ ?_ _|refine bw_ ?_|refine bz_ ?_ _));exact BK165.out⟩
    have n3_:Az (((w72.setCell ⟨gb166,0,none⟩ (.bool false)).setCell ⟨gb166,1,none⟩ (.slice none 0 0)).heap[gb166]? = some (.cells #[.bool false,.slice none 0 0] 38 (0,0))):=⟨by (with_reducible repeat (first|refine bq_ ?_ _|refine bw_ ?_|refine bz_ ?_ _));refine blk_put (cs:=#[.bool false,.slice none 0 0]) ?_ 1 _ rfl;(with_reducible repeat (first|refine bq_ ?_ _|refine bw_ ?_|refine bz_ ?_ _));refine blk_put (cs:=#[.bool false,.slice none 0 0]) ?_ 0 _ rfl;(with_reducible repeat (first|refine bq_ ?_ _|refine bw_ ?_|refine bz_ ?_ _));exact BK166.out⟩
    have n4_:Az (Below w.heap.size w ((w72.setCell ⟨gb166,0,none⟩ (.bool false)).setCell ⟨gb166,1,none⟩ (.slice none 0 0))):=⟨by repeat (first|(with_reducible first|exact HB.out|apply bA_|apply bN_|apply bD_|refine bs_ ?_ GE163.out|refine bs_ ?_ GE164.out|refine bs_ ?_ GE165.out|refine bs_ ?_ GE166.out)|exact HB.out)⟩
    (try clear BK163)
    (try clear BK164)
    (try clear BK165)
    (try clear BK166)
    (try clear HB)
    generalize ((w72.setCell ⟨gb166,0,none⟩ (.bool false)).setCell ⟨gb166,1,none⟩ (.slice none 0 0))=w77 at n0_ n1_ n2_ n3_ n4_ ⊢
    have BK163:=n0_
    have BK164:=n1_
    have BK165:=n2_
    have BK166:=n3_
    have HB:=n4_
    clear n0_ n1_ n2_ n3_ n4_
    have n0_:=Az.mk (bw_ BK163.out)
    have n1_:=Az.mk (bw_ BK164.out)
    have n2_:=Az.mk (bw_ BK165.out)
    have n3_:=Az.mk (bw_ BK166.out)
    have n4_:=Az.mk (bD_ HB.out)
    clear BK163
    clear BK164
    clear BK165
    clear BK166
    clear HB
    have BK163:=n0_
    have BK164:=n1_
    have BK165:=n2_
    have BK166:=n3_
    have HB:=n4_
    clear n0_ n1_ n2_ n3_ n4_
    refine start_ (n:=8) (S:=fun w'=>w'.cell? ⟨gb163,0,none⟩=some (.bool false)∧w'.cell? ⟨gb163,1,none⟩=some (.slice A0_1 l0_1.length c0_1)∧w'.cell? ⟨gb164,0,none⟩=some (.bool a1_0)∧w'.cell? ⟨gb164,1,none⟩=some (.slice A1_1 l1_1.length c1_1)) (ds:=[]) #[false,false,false,false,false,false,false,false] (by kernel_rfl) rfl rfl ⟨(bc_ BK163.out 0).trans rfl,(bc_ BK163.out 1).trans rfl,(bc_ BK164.out 0).trans rfl,(bc_ BK164.out 1).trans rfl⟩ (fun hHeld=>?_);refine with_tabW cadenceref3_pick.tab4 cadenceref3_pick.bits4 (fun HT_ HW_=>?_)
    generalize w77.drew=w78 at BK163 BK164 BK165 BK166 HB hHeld ⊢
    refine pure_ (i:=1) (N:=some 28) (v:=?_) (a':=?_) #[false,true,false,false,false,false,false,false] rfl rfl (any_of HT_.out (by kernel_rfl)) (fun _ _ _ h=>h) (Or.inl ⟨by rfl,?_⟩) ?_ ?_
    rotate_left
    ·intro w'
     go_simp
     with_reducible rfl
    rotate_left
    ·simp only [Act.put,sA_,sB_,sC_,i64_w,i32_w]
     rfl
    refine pure_ (i:=4) (N:=some 31) (v:=?_) (a':=?_) #[false,true,false,false,true,false,false,false] rfl rfl (any_of HT_.out (by kernel_rfl)) (fun _ _ _ h=>h) (Or.inl ⟨by rfl,?_⟩) ?_ ?_
    rotate_left
    ·intro w'
     go_simp
     with_reducible rfl
    rotate_left
    ·simp only [Act.put,sA_,sB_,sC_,i64_w,i32_w]
     rfl
    refine take_ (i:=2) (N:=some 29) (v:=?_) (a':=?_) #[false,true,true,false,true,false,false,false] rfl rfl (take_ofW HT_.out HW_.out (by kernel_rfl)) (fun _ _ _ h=>h) (Or.inl ⟨by rfl,?_⟩) hHeld ?_ ?_
    rotate_left
    ·rintro w' ⟨s0,s1,s2,s3⟩
     go_simp
     with_reducible rfl
    rotate_left
    ·simp only [Act.put,sA_,sB_,sC_,i64_w,i32_w]
     rfl
    refine take_ (i:=5) (N:=some 32) (v:=?_) (a':=?_) #[false,true,true,false,true,true,false,false] rfl rfl (take_ofW HT_.out HW_.out (by kernel_rfl)) (fun _ _ _ h=>h) (Or.inl ⟨by rfl,?_⟩) hHeld ?_ ?_
    rotate_left
    ·rintro w' ⟨s0,s1,s2,s3⟩
     go_simp
     with_reducible rfl
    rotate_left
    ·simp only [Act.put,sA_,sB_,sC_,i64_w,i32_w]
     rfl
    refine one_ (i:=0) (N:=some 27) #[true,true,true,false,true,true,false,false] rfl rfl (one_of HT_.out (by kernel_rfl)) (by decide) (fun K hK=>?_)
    refine Kd.R_lit_step Kd.string _ 9 ?hg (N:=27) ?hd (xs:=([]:List ByteArray)) (inner:=[]) (ok:=fun _=>True) (okp:=fun _=>True) ?hr ?hp (fun _ hk=>hk) trivial (Below.refl _ _) (Nat.le_refl _) (by simp) ?_;(case hd=>rfl);(case hg=>rfl);(case hr=>first|(go_simp;done)|(go_simp;rfl));(case hp=>exact (Reps.none _ _))
    intro v186 w79 ho80 hb hg_ hnew_
    clear hg_ hnew_
    (first|rw [← Ny185.out] at ho80|(simp only [Int.reduceToNat] at ho80;rw [← Ny185.out] at ho80))
    have n0_:=Az.mk (Kd.R_lower ho80 (be_ (by repeat (first|(with_reducible first|exact HB.out|apply bA_|apply bN_|apply bD_|refine bs_ ?_ GE163.out|refine bs_ ?_ GE164.out|refine bs_ ?_ GE165.out|refine bs_ ?_ GE166.out)|exact HB.out))))
    have n1_:=Az.mk (bb_ (g:=gb163) (o:=.cells #[.bool false,.slice A0_1 l0_1.length c0_1] 38 (0,0)) (by (with_reducible repeat (first|refine bq_ ?_ _|refine bw_ ?_|refine bz_ ?_ _));exact BK163.out) hb)
    have n2_:=Az.mk (bb_ (g:=gb164) (o:=.cells #[.bool a1_0,.slice A1_1 l1_1.length c1_1] 38 (0,0)) (by (with_reducible repeat (first|refine bq_ ?_ _|refine bw_ ?_|refine bz_ ?_ _));exact BK164.out) hb)
    have n3_:=Az.mk (bb_ (g:=gb165) (o:=.cells #[.bool false,.slice none 0 0] 38 (0,0)) (by (with_reducible repeat (first|refine bq_ ?_ _|refine bw_ ?_|refine bz_ ?_ _));exact BK165.out) hb)
    have n4_:=Az.mk (bb_ (g:=gb166) (o:=.cells #[.bool false,.slice none 0 0] 38 (0,0)) (by (with_reducible repeat (first|refine bq_ ?_ _|refine bw_ ?_|refine bz_ ?_ _));exact BK166.out) hb)
    have n5_:=Az.mk (below_step (by repeat (first|(with_reducible first|exact HB.out|apply bA_|apply bN_|apply bD_|refine bs_ ?_ GE163.out|refine bs_ ?_ GE164.out|refine bs_ ?_ GE165.out|refine bs_ ?_ GE166.out)|exact HB.out)) hb)
    clear BK163
    clear BK164
    clear BK165
    clear BK166
    clear HB
    have HO187:=n0_
    have BK163:=n1_
    have BK164:=n2_
    have BK165:=n3_
    have BK166:=n4_
    have HB:=n5_
    clear n0_ n1_ n2_ n3_ n4_ n5_
    clear hb ho80
    refine hK.out _ _ ⟨(bc_ BK163.out 0).trans rfl,(bc_ BK163.out 1).trans rfl,(bc_ BK164.out 0).trans rfl,(bc_ BK164.out 1).trans rfl⟩ (fun hHeld=>?_)
    clear hK K
    refine norm_ (a':=?_) ?_ ?_
    rotate_left
    ·show Act.put _ (some 27) _=_
     simp only [Act.put,sA_,sB_,sC_,i64_w,i32_w]
     rfl
    refine one_ (i:=3) (N:=some 30) #[true,true,true,true,true,true,false,false] rfl rfl (one_of HT_.out (by kernel_rfl)) (by decide) (fun K hK=>?_)
    refine Kd.R_append_rows_step Kd.string (w0:=w) w.heap.size (by rfl) (.tmp 27) (.tmp 29) 36 9 (.string ⟨#[]⟩) 16 rfl Try.underlying36 info9 rfl (by decide) (by omega) v186 y185 l0_1 _ _ _ (fun _=>True) (fun _=>False) rfl rfl ?aO ?aR (fun _ _ h=>h) (fun _ h=>h.elim) ?aF ?aB ?aS ?aL ?_
    (case aR=>repeat (first|exact (Kd.C_below HR0_1.out HB.out)|(with_reducible refine cA_ ?_ _)|(with_reducible refine cN_ ?_ _)|(with_reducible refine cD_ ?_)))
    (case aB=>exact (by repeat (first|(with_reducible first|exact HB.out|apply bA_|apply bN_|apply bD_|refine bs_ ?_ GE163.out|refine bs_ ?_ GE164.out|refine bs_ ?_ GE165.out|refine bs_ ?_ GE166.out)|exact HB.out)))
    (case aF=>exact (fun _ _=>trivial))
    (case aO=>exact (by (with_reducible repeat (first|apply rA_|apply rN_|apply rD_));exact HO187.out))
    (case aS=>exact (be_ (by repeat (first|(with_reducible first|exact HB.out|apply bA_|apply bN_|apply bD_|refine bs_ ?_ GE163.out|refine bs_ ?_ GE164.out|refine bs_ ?_ GE165.out|refine bs_ ?_ GE166.out)|exact HB.out))))
    (case aL=>have:=LMc64.out;omega)
    intro v189 w81 ho hb hg hat
    rw [← Ny188.out] at ho
    have n0_:=Az.mk (blk_grown (g:=gb163) (o:=.cells #[.bool false,.slice A0_1 l0_1.length c0_1] 38 (0,0)) (by (with_reducible repeat (first|refine bq_ ?_ _|refine bw_ ?_|refine bz_ ?_ _));exact BK163.out) hg (Kd.R_ne HO187.out BK163.out (by decide)))
    have n1_:=Az.mk (blk_grown (g:=gb164) (o:=.cells #[.bool a1_0,.slice A1_1 l1_1.length c1_1] 38 (0,0)) (by (with_reducible repeat (first|refine bq_ ?_ _|refine bw_ ?_|refine bz_ ?_ _));exact BK164.out) hg (Kd.R_ne HO187.out BK164.out (by decide)))
    have n2_:=Az.mk (blk_grown (g:=gb165) (o:=.cells #[.bool false,.slice none 0 0] 38 (0,0)) (by (with_reducible repeat (first|refine bq_ ?_ _|refine bw_ ?_|refine bz_ ?_ _));exact BK165.out) hg (Kd.R_ne HO187.out BK165.out (by decide)))
    have n3_:=Az.mk (blk_grown (g:=gb166) (o:=.cells #[.bool false,.slice none 0 0] 38 (0,0)) (by (with_reducible repeat (first|refine bq_ ?_ _|refine bw_ ?_|refine bz_ ?_ _));exact BK166.out) hg (Kd.R_ne HO187.out BK166.out (by decide)))
    have n4_:=Az.mk (hb)
    have n5_:=Az.mk (ho)
    clear BK163
    clear BK164
    clear BK165
    clear BK166
    clear HB
    clear HO187
    have BK163:=n0_
    have BK164:=n1_
    have BK165:=n2_
    have BK166:=n3_
    have HB:=n4_
    have HO190:=n5_
    clear n0_ n1_ n2_ n3_ n4_ n5_
    clear ho hb hg hat
    refine hK.out _ _ ⟨(bc_ BK163.out 0).trans rfl,(bc_ BK163.out 1).trans rfl,(bc_ BK164.out 0).trans rfl,(bc_ BK164.out 1).trans rfl⟩ (fun hHeld=>?_)
    clear hK K
    refine norm_ (a':=?_) ?_ ?_
    rotate_left
    ·show Act.put _ (some 30) _=_
     simp only [Act.put,sA_,sB_,sC_,i64_w,i32_w]
     rfl
    refine one_ (i:=6) (N:=some 33) #[true,true,true,true,true,true,true,false] rfl rfl (one_of HT_.out (by kernel_rfl)) (by decide) (fun K hK=>?_)
    refine Kd.R_append_rows_step Kd.string (w0:=w) w.heap.size (by rfl) (.tmp 30) (.tmp 32) 36 9 (.string ⟨#[]⟩) 16 rfl Try.underlying36 info9 rfl (by decide) (by omega) v189 y188 l1_1 _ _ _ (fun _=>True) (fun _=>False) rfl rfl ?aO ?aR (fun _ _ h=>h) (fun _ h=>h.elim) ?aF ?aB ?aS ?aL ?_
    (case aR=>repeat (first|exact (Kd.C_below HR1_1.out HB.out)|(with_reducible refine cA_ ?_ _)|(with_reducible refine cN_ ?_ _)|(with_reducible refine cD_ ?_)))
    (case aB=>exact (by repeat (first|(with_reducible first|exact HB.out|apply bA_|apply bN_|apply bD_|refine bs_ ?_ GE163.out|refine bs_ ?_ GE164.out|refine bs_ ?_ GE165.out|refine bs_ ?_ GE166.out)|exact HB.out)))
    (case aF=>exact (fun _ _=>trivial))
    (case aO=>exact (by (with_reducible repeat (first|apply rA_|apply rN_|apply rD_));exact HO190.out))
    (case aS=>exact (be_ (by repeat (first|(with_reducible first|exact HB.out|apply bA_|apply bN_|apply bD_|refine bs_ ?_ GE163.out|refine bs_ ?_ GE164.out|refine bs_ ?_ GE165.out|refine bs_ ?_ GE166.out)|exact HB.out))))
    (case aL=>have:=LMc65.out;omega)
    intro v192 w82 ho hb hg hat
    rw [← Ny191.out] at ho
    have n0_:=Az.mk (blk_grown (g:=gb163) (o:=.cells #[.bool false,.slice A0_1 l0_1.length c0_1] 38 (0,0)) (by (with_reducible repeat (first|refine bq_ ?_ _|refine bw_ ?_|refine bz_ ?_ _));exact BK163.out) hg (Kd.R_ne HO190.out BK163.out (by decide)))
    have n1_:=Az.mk (blk_grown (g:=gb164) (o:=.cells #[.bool a1_0,.slice A1_1 l1_1.length c1_1] 38 (0,0)) (by (with_reducible repeat (first|refine bq_ ?_ _|refine bw_ ?_|refine bz_ ?_ _));exact BK164.out) hg (Kd.R_ne HO190.out BK164.out (by decide)))
    have n2_:=Az.mk (blk_grown (g:=gb165) (o:=.cells #[.bool false,.slice none 0 0] 38 (0,0)) (by (with_reducible repeat (first|refine bq_ ?_ _|refine bw_ ?_|refine bz_ ?_ _));exact BK165.out) hg (Kd.R_ne HO190.out BK165.out (by decide)))
    have n3_:=Az.mk (blk_grown (g:=gb166) (o:=.cells #[.bool false,.slice none 0 0] 38 (0,0)) (by (with_reducible repeat (first|refine bq_ ?_ _|refine bw_ ?_|refine bz_ ?_ _));exact BK166.out) hg (Kd.R_ne HO190.out BK166.out (by decide)))
    have n4_:=Az.mk (hb)
    have n5_:=Az.mk (ho)
    clear BK163
    clear BK164
    clear BK165
    clear BK166
    clear HB
    clear HO190
    have BK163:=n0_
    have BK164:=n1_
    have BK165:=n2_
    have BK166:=n3_
    have HB:=n4_
    have HO193:=n5_
    clear n0_ n1_ n2_ n3_ n4_ n5_
    clear ho hb hg hat
    refine hK.out _ _ ⟨(bc_ BK163.out 0).trans rfl,(bc_ BK163.out 1).trans rfl,(bc_ BK164.out 0).trans rfl,(bc_ BK164.out 1).trans rfl⟩ (fun hHeld=>?_)
    clear hK K
    refine norm_ (a':=?_) ?_ ?_
    rotate_left
    ·show Act.put _ (some 33) _=_
     simp only [Act.put,sA_,sB_,sC_,i64_w,i32_w]
     rfl
    refine pure_ (i:=7) (N:=some 8) (v:=?_) (a':=?_) #[true,true,true,true,true,true,true,true] rfl rfl (any_of HT_.out (by kernel_rfl)) (fun _ _ _ h=>h) (Or.inl ⟨by rfl,?_⟩) ?_ ?_
    rotate_left
    ·intro w'
     go_simp
     with_reducible rfl
    rotate_left
    ·simp only [Act.put,sA_,sB_,sC_,i64_w,i32_w]
     rfl
    refine done_ (done_of HT_.out (by kernel_rfl)) ?_
    try go_wp2
    go_loopg [9] k (fun kq v9 w'=>∃ (x9_1:Int) (x167001_1:List ByteArray) (u167001:Value),v9=.int .i64 x9_1∧Az (cadenceref3_pick.l0 kq y191 x9_1 false l0_1 a1_0 l1_1 false x167001_1=some (r1,r2))∧Az (kq≤k)∧Az (Kd.R Kd.string 9 w' w.heap.size (fun k_=>some k_≠(u167001:Value).ownBlock) v192 y191)∧Az (Kd.R Kd.string 9 w' w.heap.size (fun k_=>some k_≠(v192:Value).ownBlock) u167001 x167001_1)∧Az (w'.heap[gb163]? = some (.cells #[.bool false,(.slice A0_1 l0_1.length c0_1)] 38 (0,0)))∧Az (w'.heap[gb164]? = some (.cells #[.bool a1_0,(.slice A1_1 l1_1.length c1_1)] 38 (0,0)))∧Az (w'.heap[gb165]? = some (.cells #[.bool false,(.slice none 0 0)] 38 (0,0)))∧Az (w'.heap[gb166]? = some (.cells #[.bool false,u167001] 38 (0,0)))∧Az (Below w.heap.size w w'))
    case atStart=>exact ⟨(0),(([]:List ByteArray)),(.slice none 0 0),(by first|rfl|(simp;done)|(simp [*];done)),H',⟨Nat.le_refl _⟩,⟨by (with_reducible repeat (first|apply rA_|apply rN_|apply rD_));exact Kd.R_mono HO193.out (fun _ hk=>(by simp [Value.ownBlock]))⟩,⟨by first|exact Kd.R_nil _ _ _ _ _|exact Kd.N_nil _ _ _ _ _|exact Kd.V_nil _ _ _ _ _|exact Kd.Q_nil _ _ _ _ _|exact Kd.S_nil _ _ _ _ _⟩,⟨by (with_reducible repeat (first|refine bq_ ?_ _|refine bw_ ?_|refine bz_ ?_ _));exact BK163.out⟩,⟨by (with_reducible repeat (first|refine bq_ ?_ _|refine bw_ ?_|refine bz_ ?_ _));exact BK164.out⟩,⟨by (with_reducible repeat (first|refine bq_ ?_ _|refine bw_ ?_|refine bz_ ?_ _));exact BK165.out⟩,⟨by (with_reducible repeat (first|refine bq_ ?_ _|refine bw_ ?_|refine bz_ ?_ _));exact BK166.out⟩,⟨by repeat (first|(with_reducible first|exact HB.out|apply bA_|apply bN_|apply bD_|refine bs_ ?_ GE163.out|refine bs_ ?_ GE164.out|refine bs_ ?_ GE165.out|refine bs_ ?_ GE166.out)|exact HB.out)⟩⟩
    case round =>
     clear H'
     try clear c1
     try clear p1
     try clear q1
     try clear hx1
     try clear c2
     try clear p2
     try clear c3
     try clear c4
     try clear c5
     try clear c6
     try clear p6
     try clear c7
     try clear c10
     try clear c11
     try clear c13
     try clear c16
     try clear c17
     try clear p17
     try clear q17
     try clear hx17
     try clear c18
     try clear p18
     try clear q18
     try clear hx18
     try clear c26
     try clear c26b0
     try clear c29
     try clear c29b0
     try clear c31
     try clear c38
     try clear c38b0
     try clear c38b1
     try clear c38b2
     try clear c39
     try clear c39b0
     try clear c40
     try clear c40b0
     try clear c42
     try clear c43
     try clear c44
     try clear c45
     try clear c51
     try clear c52
     try clear c53
     try clear c56
     try clear c57
     try clear c58
     try clear c60
     try clear c61
     try clear c64
     try clear p64
     try clear c65
     try clear c69
     try clear c70
     try clear c73
     try clear c74
     try clear c75
     try clear hcz12_0
     try clear hcz12_1
     try clear hcz14_0
     try clear hcz14_1
     try clear hcz19_0
     try clear hcz19_1
     try clear hcz45_0
     try clear hcz45_1
     try clear hcz54_0
     try clear hcz54_1
     try clear hcz59_0
     try clear hcz59_1
     try clear hcz62_0
     try clear hcz62_1
     try clear hcz71_0
     try clear hcz71_1
     try clear hcz76_0
     try clear hcz76_1
     try clear hfz12_0
     try clear hfz12_1
     try clear hfz14_0
     try clear hfz14_1
     try clear hfz19_0
     try clear hfz19_1
     try clear hfz45_0
     try clear hfz45_1
     try clear hfz54_0
     try clear hfz54_1
     try clear hfz59_0
     try clear hfz59_1
     try clear hfz62_0
     try clear hfz62_1
     try clear hfz71_0
     try clear hfz71_1
     try clear hfz76_0
     try clear hfz76_1
     try clear hx176_0
     try clear hx178_0
     try clear hx180_0
     try clear p1
     try clear p17
     try clear p176
     try clear p178
     try clear p180
     try clear p2
     try clear q1
     try clear q17
     try clear q176
     try clear q178
     try clear q180
     obtain ⟨x9_1,x167001_1,u167001,rfl,HA,HK1,HO_8,HO_167001,BK163,BK164,BK165,BK166,HB⟩:=hrel
     cases gk with
     | zero=>exact absurd HA.out (by simp [cadenceref3_pick.l0])
     | succ k1 =>
      have H:=HA.out
      clear HA
      simp only [cadenceref3_pick.l0] at H
      by_cases c83:x9_1 < (y191.length:Int)
      ·rw [if_pos c83] at H
       have c83b0:decide (x9_1 < (y191.length:Int))=true:=decide_eq_true c83
       clear c83
       have HC84:=Az.mk H
       clear H
       obtain ⟨Ao85,co85,eo85⟩:=Kd.R_slice HO_8.out
       subst eo85
       go_upto_region 8 with (fail)
       go_cut [10] (fun v10 wc=>∃ (kq:Nat) (x10_83:Bool),v10=.bool x10_83∧Az (cadenceref3_pick.j1 kq y191 x9_1 x10_83 false l0_1 a1_0 l1_1 false x167001_1=some (r1,r2))∧Az (kq≤k1)∧Az (Kd.R Kd.string 9 wc w.heap.size (fun k_=>some k_≠(u167001:Value).ownBlock) (.slice Ao85 y191.length co85) y191)∧Az (Kd.R Kd.string 9 wc w.heap.size (fun k_=>some k_≠((.slice Ao85 y191.length co85):Value).ownBlock) u167001 x167001_1)∧Az (wc.heap[gb163]? = some (.cells #[.bool false,(.slice A0_1 l0_1.length c0_1)] 38 (0,0)))∧Az (wc.heap[gb164]? = some (.cells #[.bool a1_0,(.slice A1_1 l1_1.length c1_1)] 38 (0,0)))∧Az (wc.heap[gb165]? = some (.cells #[.bool false,(.slice none 0 0)] 38 (0,0)))∧Az (wc.heap[gb166]? = some (.cells #[.bool false,u167001] 38 (0,0)))∧Az (Below w.heap.size w wc))
       case first =>
        have H:=HC84.out
        clear HC84
        by_cases c86:0≤x9_1
        ·rw [if_pos c86] at H
         have c86b0:decide (0≤x9_1)=true:=decide_eq_true c86
         clear c86
         (first|rw [c86b0]|(simp only [i64_w,i32_w];rw [c86b0])|skip)
         replace H:=Option.bind_eq_some_iff.mp H
         obtain ⟨t177,A870,H⟩:=H
         replace H:(if t177=true then ((cadenceref3_Has.f k1 a1_0 l1_1 (rdOf ByteArray.empty y191 x9_1)).bind fun t179=>(cadenceref3_pick.j1 k1 y191 x9_1 t179 false l0_1 a1_0 l1_1 false x167001_1)) else (cadenceref3_pick.j1 k1 y191 x9_1 false false l0_1 a1_0 l1_1 false x167001_1))=some (r1,r2):=H
         have A87:=Az.mk A870
         clear A870
         by_cases c88:t177=true
         ·subst c88
          have H1:((cadenceref3_Has.f k1 a1_0 l1_1 (rdOf ByteArray.empty y191 x9_1)).bind fun t179=>(cadenceref3_pick.j1 k1 y191 x9_1 t179 false l0_1 a1_0 l1_1 false x167001_1))=some (r1,r2):=by rw [if_pos rfl] at H;exact H
          clear H
          have H:=H1
          clear H1
          replace H:=Option.bind_eq_some_iff.mp H
          obtain ⟨t179,A890,H⟩:=H
          replace H:(cadenceref3_pick.j1 k1 y191 x9_1 t179 false l0_1 a1_0 l1_1 false x167001_1)=some (r1,r2):=H
          have A89:=Az.mk A890
          clear A890
          have H':=Az.mk H
          clear H
          try go_wp2
          have n0_:=Az.mk (rD_ HO_8.out)
          have n1_:=Az.mk (rD_ HO_167001.out)
          have n2_:=Az.mk (bw_ BK163.out)
          have n3_:=Az.mk (bw_ BK164.out)
          have n4_:=Az.mk (bw_ BK165.out)
          have n5_:=Az.mk (bw_ BK166.out)
          have n6_:=Az.mk (bD_ HB.out)
          clear HO_8
          clear HO_167001
          clear BK163
          clear BK164
          clear BK165
          clear BK166
          clear HB
          have HO_8:=n0_
          have HO_167001:=n1_
          have BK163:=n2_
          have BK164:=n3_
          have BK165:=n4_
          have BK166:=n5_
          have HB:=n6_
          clear n0_ n1_ n2_ n3_ n4_ n5_ n6_
          have p176:0≤(x9_1:Int):=of_decide_eq_true (by first|(with_reducible assumption)|assumption)
          have q176:x9_1 < (y191.length:Int):=of_decide_eq_true (by first|(with_reducible assumption)|assumption)
          obtain ⟨ad176,e176,hx176_0⟩:=Kd.at_string (Kd.R_reads' HO_8.out).2.2 x9_1 p176 q176
          cases e176
          replace p176:=eq_true p176
          replace q176:=eq_true q176
          have p178:0≤(x9_1:Int):=of_decide_eq_true (by first|(with_reducible assumption)|assumption)
          have q178:x9_1 < (y191.length:Int):=of_decide_eq_true (by first|(with_reducible assumption)|assumption)
          obtain ⟨ad178,e178,hx178_0⟩:=Kd.at_string (Kd.R_reads' HO_8.out).2.2 x9_1 p178 q178
          obtain rfl:ad176=ad178:=(by injection e178)
          replace p178:=eq_true p178
          replace q178:=eq_true q178
          refine start_ (n:=15) (S:=fun w'=>w'.cell? ⟨gb163,0,none⟩=some (.bool false)∧w'.cell? ⟨gb163,1,none⟩=some (.slice A0_1 l0_1.length c0_1)∧w'.cell? ⟨gb164,0,none⟩=some (.bool a1_0)∧w'.cell? ⟨gb164,1,none⟩=some (.slice A1_1 l1_1.length c1_1)∧w'.cell? (ad176.add (x9_1).toNat)=some (.string (rdOf ByteArray.empty y191 x9_1))∧w'.cell? (ad176.add (x9_1).toNat)=some (.string (rdOf ByteArray.empty y191 x9_1))) (ds:=[]) #[false,false,false,false,false,false,false,false,false,false,false,false,false,false,false] (by kernel_rfl) rfl rfl ⟨(bc_ BK163.out 0).trans rfl,(bc_ BK163.out 1).trans rfl,(bc_ BK164.out 0).trans rfl,(bc_ BK164.out 1).trans rfl,hx176_0,hx178_0⟩ (fun hHeld=>?_);refine with_tabW cadenceref3_pick.tab8 cadenceref3_pick.bits8 (fun HT_ HW_=>?_)
          generalize wr.drew=w90 at HO_8 HO_167001 BK163 BK164 BK165 BK166 HB hx176_0 hx178_0 hHeld ⊢
          refine pure_ (i:=1) (N:=some 41) (v:=?_) (a':=?_) #[false,true,false,false,false,false,false,false,false,false,false,false,false,false,false] rfl rfl (any_of HT_.out (by kernel_rfl)) (fun _ _ _ h=>h) (Or.inl ⟨by rfl,?_⟩) ?_ ?_
          rotate_left
          ·intro w'
           go_simp
           with_reducible rfl
          rotate_left
          ·simp only [Act.put,sA_,sB_,sC_,i64_w,i32_w]
           rfl
          refine pure_ (i:=2) (N:=some 42) (v:=?_) (a':=?_) #[false,true,true,false,false,false,false,false,false,false,false,false,false,false,false] rfl rfl (any_of HT_.out (by kernel_rfl)) (fun _ _ _ h=>h) (Or.inl ⟨by rfl,?_⟩) ?_ ?_
          rotate_left
          ·intro w'
           go_simp
           with_reducible rfl
          rotate_left
          ·simp only [Act.put,sA_,sB_,sC_,i64_w,i32_w]
           rfl
          refine pure_ (i:=3) (N:=some 43) (v:=?_) (a':=?_) #[false,true,true,true,false,false,false,false,false,false,false,false,false,false,false] rfl rfl (any_of HT_.out (by kernel_rfl)) (fun _ _ _ h=>h) (Or.inl ⟨by rfl,?_⟩) ?_ ?_
          rotate_left
          ·intro w'
           go_simp
           with_reducible rfl
          rotate_left
          ·simp only [Act.put,sA_,sB_,sC_,i64_w,i32_w]
           rfl
          refine take_ (i:=0) (N:=some 40) (v:=?_) (a':=?_) #[true,true,true,true,false,false,false,false,false,false,false,false,false,false,false] rfl rfl (take_ofW HT_.out HW_.out (by kernel_rfl)) (fun _ _ _ h=>h) (Or.inl ⟨by rfl,?_⟩) hHeld ?_ ?_
          rotate_left
          ·rintro w' ⟨s0,s1,s2,s3,s4,s5⟩
           go_simp
           with_reducible rfl
          rotate_left
          ·simp only [Act.put,sA_,sB_,sC_,i64_w,i32_w]
           rfl
          refine take_ (i:=4) (N:=some 44) (v:=?_) (a':=?_) #[true,true,true,true,true,false,false,false,false,false,false,false,false,false,false] rfl rfl (take_ofW HT_.out HW_.out (by kernel_rfl)) (fun _ _ _ h=>h) (Or.inl ⟨by rfl,?_⟩) hHeld ?_ ?_
          rotate_left
          ·rintro w' ⟨s0,s1,s2,s3,s4,s5⟩
           go_simp
           with_reducible rfl
          rotate_left
          ·simp only [Act.put,sA_,sB_,sC_,i64_w,i32_w]
           rfl
          refine one_ (i:=5) (N:=some 45) #[true,true,true,true,true,true,false,false,false,false,false,false,false,false,false] rfl rfl (one_of HT_.out (by kernel_rfl)) (by decide) (fun K hK=>?_)
          refine goes_ Try.func42 (by kernel_rfl) rfl #[.agg #[.bool false,.slice A0_1 l0_1.length c0_1],.string (rdOf ByteArray.empty y191 x9_1)] (by rfl) rfl rfl (by (try simp only [List.map_toArray,List.map_cons,List.map_nil]);first|done|rfl|(simp only [List.length_drop,List.length_take];rfl)) ?_
          with_reducible refine (cadenceref3_Has.calls k1 false _ _ l0_1 (rdOf ByteArray.empty y191 x9_1) true _ ?side1 ?side2 A87.out).mono ?_
          (case side1=>repeat (first|exact (Kd.C_below HR0_1.out HB.out)|(with_reducible refine cA_ ?_ _)|(with_reducible refine cN_ ?_ _)|(with_reducible refine cD_ ?_)))
          (case side2=>exact HC0_1.out)
          rintro e w91 ⟨rfl,hb⟩
          have HS4_:=(hb.cell (World.block_lt_of_cell? _ _ (hHeld.2.2.2.2.1))).trans (hHeld.2.2.2.2.1)
          have HS5_:=(hb.cell (World.block_lt_of_cell? _ _ (hHeld.2.2.2.2.2))).trans (hHeld.2.2.2.2.2)
          refine ⟨_,rfl,?_⟩
          have n0_:=Az.mk (Kd.R_below (by (with_reducible repeat (first|apply rA_|apply rN_|apply rD_));exact HO_8.out) hb)
          have n1_:=Az.mk (Kd.R_below (by (with_reducible repeat (first|apply rA_|apply rN_|apply rD_));exact HO_167001.out) hb)
          have n2_:=Az.mk (bb_ (g:=gb163) (o:=.cells #[.bool false,.slice A0_1 l0_1.length c0_1] 38 (0,0)) (by (with_reducible repeat (first|refine bq_ ?_ _|refine bw_ ?_|refine bz_ ?_ _));exact BK163.out) hb)
          have n3_:=Az.mk (bb_ (g:=gb164) (o:=.cells #[.bool a1_0,.slice A1_1 l1_1.length c1_1] 38 (0,0)) (by (with_reducible repeat (first|refine bq_ ?_ _|refine bw_ ?_|refine bz_ ?_ _));exact BK164.out) hb)
          have n4_:=Az.mk (bb_ (g:=gb165) (o:=.cells #[.bool false,.slice none 0 0] 38 (0,0)) (by (with_reducible repeat (first|refine bq_ ?_ _|refine bw_ ?_|refine bz_ ?_ _));exact BK165.out) hb)
          have n5_:=Az.mk (bb_ (g:=gb166) (o:=.cells #[.bool false,u167001] 38 (0,0)) (by (with_reducible repeat (first|refine bq_ ?_ _|refine bw_ ?_|refine bz_ ?_ _));exact BK166.out) hb)
          have n6_:=Az.mk (below_step (by repeat (first|(with_reducible first|exact HB.out|apply bA_|apply bN_|apply bD_|refine bs_ ?_ GE163.out|refine bs_ ?_ GE164.out|refine bs_ ?_ GE165.out|refine bs_ ?_ GE166.out)|exact HB.out)) hb)
          clear HO_8
          clear HO_167001
          clear BK163
          clear BK164
          clear BK165
          clear BK166
          clear HB
          have HO_8:=n0_
          have HO_167001:=n1_
          have BK163:=n2_
          have BK164:=n3_
          have BK165:=n4_
          have BK166:=n5_
          have HB:=n6_
          clear n0_ n1_ n2_ n3_ n4_ n5_ n6_
          (try clear hb)
          (try clear hb2)
          (try clear hk)
          (try clear hi)
          refine hK.out _ _ ⟨(bc_ BK163.out 0).trans rfl,(bc_ BK163.out 1).trans rfl,(bc_ BK164.out 0).trans rfl,(bc_ BK164.out 1).trans rfl,HS4_,HS5_⟩ (fun hHeld=>?_)
          clear hK K
          refine norm_ (a':=?_) ?_ ?_
          rotate_left
          ·show Act.put _ (some 45) _=_
           simp only [Act.put,sA_,sB_,sC_,i64_w,i32_w]
           rfl
          refine pure_ (i:=6) (N:=some 46) (v:=?_) (a':=?_) #[true,true,true,true,true,true,true,false,false,false,false,false,false,false,false] rfl rfl (any_of HT_.out (by kernel_rfl)) (fun _ _ _ h=>h) (Or.inl ⟨by rfl,?_⟩) ?_ ?_
          rotate_left
          ·intro w'
           go_simp
           with_reducible rfl
          rotate_left
          ·simp only [Act.put,sA_,sB_,sC_,i64_w,i32_w]
           rfl
          refine pure_ (i:=8) (N:=some 48) (v:=?_) (a':=?_) #[true,true,true,true,true,true,true,false,true,false,false,false,false,false,false] rfl rfl (any_of HT_.out (by kernel_rfl)) (fun _ _ _ h=>h) (Or.inl ⟨by rfl,?_⟩) ?_ ?_
          rotate_left
          ·intro w'
           go_simp
           with_reducible rfl
          rotate_left
          ·simp only [Act.put,sA_,sB_,sC_,i64_w,i32_w]
           rfl
          refine pure_ (i:=9) (N:=some 49) (v:=?_) (a':=?_) #[true,true,true,true,true,true,true,false,true,true,false,false,false,false,false] rfl rfl (any_of HT_.out (by kernel_rfl)) (fun _ _ _ h=>h) (Or.inl ⟨by rfl,?_⟩) ?_ ?_
          rotate_left
          ·intro w'
           go_simp
           with_reducible rfl
          rotate_left
          ·simp only [Act.put,sA_,sB_,sC_,i64_w,i32_w]
           rfl
          refine pure_ (i:=10) (N:=some 50) (v:=?_) (a':=?_) #[true,true,true,true,true,true,true,false,true,true,true,false,false,false,false] rfl rfl (any_of HT_.out (by kernel_rfl)) (fun _ _ _ h=>h) (Or.inl ⟨by rfl,?_⟩) ?_ ?_
          rotate_left
          ·intro w'
           go_simp
           with_reducible rfl
          rotate_left
          ·simp only [Act.put,sA_,sB_,sC_,i64_w,i32_w]
           rfl
          refine take_ (i:=7) (N:=some 47) (v:=?_) (a':=?_) #[true,true,true,true,true,true,true,true,true,true,true,false,false,false,false] rfl rfl (take_ofW HT_.out HW_.out (by kernel_rfl)) (fun _ _ _ h=>h) (Or.inl ⟨by rfl,?_⟩) hHeld ?_ ?_
          rotate_left
          ·rintro w' ⟨s0,s1,s2,s3,s4,s5⟩
           go_simp
           with_reducible rfl
          rotate_left
          ·simp only [Act.put,sA_,sB_,sC_,i64_w,i32_w]
           rfl
          refine take_ (i:=11) (N:=some 51) (v:=?_) (a':=?_) #[true,true,true,true,true,true,true,true,true,true,true,true,false,false,false] rfl rfl (take_ofW HT_.out HW_.out (by kernel_rfl)) (fun _ _ _ h=>h) (Or.inl ⟨by rfl,?_⟩) hHeld ?_ ?_
          rotate_left
          ·rintro w' ⟨s0,s1,s2,s3,s4,s5⟩
           go_simp
           with_reducible rfl
          rotate_left
          ·simp only [Act.put,sA_,sB_,sC_,i64_w,i32_w]
           rfl
          refine one_ (i:=12) (N:=some 52) #[true,true,true,true,true,true,true,true,true,true,true,true,true,false,false] rfl rfl (one_of HT_.out (by kernel_rfl)) (by decide) (fun K hK=>?_)
          refine goes_ Try.func42 (by kernel_rfl) rfl #[.agg #[.bool a1_0,.slice A1_1 l1_1.length c1_1],.string (rdOf ByteArray.empty y191 x9_1)] (by rfl) rfl rfl (by (try simp only [List.map_toArray,List.map_cons,List.map_nil]);first|done|rfl|(simp only [List.length_drop,List.length_take];rfl)) ?_
          with_reducible refine (cadenceref3_Has.calls k1 a1_0 _ _ l1_1 (rdOf ByteArray.empty y191 x9_1) t179 _ ?side1 ?side2 A89.out).mono ?_
          (case side1=>repeat (first|exact (Kd.C_below HR1_1.out HB.out)|(with_reducible refine cA_ ?_ _)|(with_reducible refine cN_ ?_ _)|(with_reducible refine cD_ ?_)))
          (case side2=>exact HC1_1.out)
          rintro e w92 ⟨rfl,hb⟩
          have HS4_:=(hb.cell (World.block_lt_of_cell? _ _ (hHeld.2.2.2.2.1))).trans (hHeld.2.2.2.2.1)
          have HS5_:=(hb.cell (World.block_lt_of_cell? _ _ (hHeld.2.2.2.2.2))).trans (hHeld.2.2.2.2.2)
          refine ⟨_,rfl,?_⟩
          have n0_:=Az.mk (Kd.R_below (by (with_reducible repeat (first|apply rA_|apply rN_|apply rD_));exact HO_8.out) hb)
          have n1_:=Az.mk (Kd.R_below (by (with_reducible repeat (first|apply rA_|apply rN_|apply rD_));exact HO_167001.out) hb)
          have n2_:=Az.mk (bb_ (g:=gb163) (o:=.cells #[.bool false,.slice A0_1 l0_1.length c0_1] 38 (0,0)) (by (with_reducible repeat (first|refine bq_ ?_ _|refine bw_ ?_|refine bz_ ?_ _));exact BK163.out) hb)
          have n3_:=Az.mk (bb_ (g:=gb164) (o:=.cells #[.bool a1_0,.slice A1_1 l1_1.length c1_1] 38 (0,0)) (by (with_reducible repeat (first|refine bq_ ?_ _|refine bw_ ?_|refine bz_ ?_ _));exact BK164.out) hb)
          have n4_:=Az.mk (bb_ (g:=gb165) (o:=.cells #[.bool false,.slice none 0 0] 38 (0,0)) (by (with_reducible repeat (first|refine bq_ ?_ _|refine bw_ ?_|refine bz_ ?_ _));exact BK165.out) hb)
          have n5_:=Az.mk (bb_ (g:=gb166) (o:=.cells #[.bool false,u167001] 38 (0,0)) (by (with_reducible repeat (first|refine bq_ ?_ _|refine bw_ ?_|refine bz_ ?_ _));exact BK166.out) hb)
          have n6_:=Az.mk (below_step (by repeat (first|(with_reducible first|exact HB.out|apply bA_|apply bN_|apply bD_|refine bs_ ?_ GE163.out|refine bs_ ?_ GE164.out|refine bs_ ?_ GE165.out|refine bs_ ?_ GE166.out)|exact HB.out)) hb)
          clear HO_8
          clear HO_167001
          clear BK163
          clear BK164
          clear BK165
          clear BK166
          clear HB
          have HO_8:=n0_
          have HO_167001:=n1_
          have BK163:=n2_
          have BK164:=n3_
          have BK165:=n4_
          have BK166:=n5_
          have HB:=n6_
          clear n0_ n1_ n2_ n3_ n4_ n5_ n6_
          (try clear hb)
          (try clear hb2)
          (try clear hk)
          (try clear hi)
          refine hK.out _ _ ⟨(bc_ BK163.out 0).trans rfl,(bc_ BK163.out 1).trans rfl,(bc_ BK164.out 0).trans rfl,(bc_ BK164.out 1).trans rfl,HS4_,HS5_⟩ (fun hHeld=>?_)
          clear hK K
          refine norm_ (a':=?_) ?_ ?_
          rotate_left
          ·show Act.put _ (some 52) _=_
           simp only [Act.put,sA_,sB_,sC_,i64_w,i32_w]
           rfl
          refine pure_ (i:=13) (N:=some 53) (v:=?_) (a':=?_) #[true,true,true,true,true,true,true,true,true,true,true,true,true,true,false] rfl rfl (any_of HT_.out (by kernel_rfl)) (fun _ _ _ h=>h) (Or.inl ⟨by rfl,?_⟩) ?_ ?_
          rotate_left
          ·intro w'
           go_simp
           with_reducible rfl
          rotate_left
          ·simp only [Act.put,sA_,sB_,sC_,i64_w,i32_w]
           rfl
          refine pure_ (i:=14) (N:=some 10) (v:=?_) (a':=?_) #[true,true,true,true,true,true,true,true,true,true,true,true,true,true,true] rfl rfl (any_of HT_.out (by kernel_rfl)) (fun _ _ _ h=>h) (Or.inl ⟨by rfl,?_⟩) ?_ ?_
          rotate_left
          ·intro w'
           go_simp
           with_reducible rfl
          rotate_left
          ·simp only [Act.put,sA_,sB_,sC_,i64_w,i32_w]
           rfl
          refine done_ (done_of HT_.out (by kernel_rfl)) ?_
          try go_wp2
          go_meet
          case rel=>exact ⟨_,(t179),(by first|rfl|(simp;done)|(simp [*];done)),H',⟨by have:=HK1.out;first|omega|exact Nat.le_refl _⟩,⟨by (with_reducible repeat (first|apply rA_|apply rN_|apply rD_));exact HO_8.out⟩,⟨by (with_reducible repeat (first|apply rA_|apply rN_|apply rD_));exact HO_167001.out⟩,⟨by (with_reducible repeat (first|refine bq_ ?_ _|refine bw_ ?_|refine bz_ ?_ _));exact BK163.out⟩,⟨by (with_reducible repeat (first|refine bq_ ?_ _|refine bw_ ?_|refine bz_ ?_ _));exact BK164.out⟩,⟨by (with_reducible repeat (first|refine bq_ ?_ _|refine bw_ ?_|refine bz_ ?_ _));exact BK165.out⟩,⟨by (with_reducible repeat (first|refine bq_ ?_ _|refine bw_ ?_|refine bz_ ?_ _));exact BK166.out⟩,⟨by repeat (first|(with_reducible first|exact HB.out|apply bA_|apply bN_|apply bD_|refine bs_ ?_ GE163.out|refine bs_ ?_ GE164.out|refine bs_ ?_ GE165.out|refine bs_ ?_ GE166.out)|exact HB.out)⟩⟩
         ·replace c88:=Bool.eq_false_iff.mpr c88
          subst c88
          have H1:(cadenceref3_pick.j1 k1 y191 x9_1 false false l0_1 a1_0 l1_1 false x167001_1)=some (r1,r2):=by rw [if_neg (show ¬ (false=true) by decide)] at H;exact H
          clear H
          have H:=H1
          clear H1
          have H':=Az.mk H
          clear H
          try go_wp2
          have n0_:=Az.mk (rD_ HO_8.out)
          have n1_:=Az.mk (rD_ HO_167001.out)
          have n2_:=Az.mk (bw_ BK163.out)
          have n3_:=Az.mk (bw_ BK164.out)
          have n4_:=Az.mk (bw_ BK165.out)
          have n5_:=Az.mk (bw_ BK166.out)
          have n6_:=Az.mk (bD_ HB.out)
          clear HO_8
          clear HO_167001
          clear BK163
          clear BK164
          clear BK165
          clear BK166
          clear HB
          have HO_8:=n0_
          have HO_167001:=n1_
          have BK163:=n2_
          have BK164:=n3_
          have BK165:=n4_
          have BK166:=n5_
          have HB:=n6_
          clear n0_ n1_ n2_ n3_ n4_ n5_ n6_
          have p176:0≤(x9_1:Int):=of_decide_eq_true (by first|(with_reducible assumption)|assumption)
          have q176:x9_1 < (y191.length:Int):=of_decide_eq_true (by first|(with_reducible assumption)|assumption)
          obtain ⟨ad176,e176,hx176_0⟩:=Kd.at_string (Kd.R_reads' HO_8.out).2.2 x9_1 p176 q176
          cases e176
          replace p176:=eq_true p176
          replace q176:=eq_true q176
          refine start_ (n:=15) (S:=fun w'=>w'.cell? ⟨gb163,0,none⟩=some (.bool false)∧w'.cell? ⟨gb163,1,none⟩=some (.slice A0_1 l0_1.length c0_1)∧w'.cell? (ad176.add (x9_1).toNat)=some (.string (rdOf ByteArray.empty y191 x9_1))) (ds:=[]) #[false,false,false,false,false,false,false,false,false,false,false,false,false,false,false] (by kernel_rfl) rfl rfl ⟨(bc_ BK163.out 0).trans rfl,(bc_ BK163.out 1).trans rfl,hx176_0⟩ (fun hHeld=>?_);refine with_tabW cadenceref3_pick.tab8 cadenceref3_pick.bits8 (fun HT_ HW_=>?_)
          generalize wr.drew=w93 at HO_8 HO_167001 BK163 BK164 BK165 BK166 HB hx176_0 hHeld ⊢
          refine pure_ (i:=1) (N:=some 41) (v:=?_) (a':=?_) #[false,true,false,false,false,false,false,false,false,false,false,false,false,false,false] rfl rfl (any_of HT_.out (by kernel_rfl)) (fun _ _ _ h=>h) (Or.inl ⟨by rfl,?_⟩) ?_ ?_
          rotate_left
          ·intro w'
           go_simp
           with_reducible rfl
          rotate_left
          ·simp only [Act.put,sA_,sB_,sC_,i64_w,i32_w]
           rfl
          refine pure_ (i:=2) (N:=some 42) (v:=?_) (a':=?_) #[false,true,true,false,false,false,false,false,false,false,false,false,false,false,false] rfl rfl (any_of HT_.out (by kernel_rfl)) (fun _ _ _ h=>h) (Or.inl ⟨by rfl,?_⟩) ?_ ?_
          rotate_left
          ·intro w'
           go_simp
           with_reducible rfl
          rotate_left
          ·simp only [Act.put,sA_,sB_,sC_,i64_w,i32_w]
           rfl
          refine pure_ (i:=3) (N:=some 43) (v:=?_) (a':=?_) #[false,true,true,true,false,false,false,false,false,false,false,false,false,false,false] rfl rfl (any_of HT_.out (by kernel_rfl)) (fun _ _ _ h=>h) (Or.inl ⟨by rfl,?_⟩) ?_ ?_
          rotate_left
          ·intro w'
           go_simp
           with_reducible rfl
          rotate_left
          ·simp only [Act.put,sA_,sB_,sC_,i64_w,i32_w]
           rfl
          refine take_ (i:=0) (N:=some 40) (v:=?_) (a':=?_) #[true,true,true,true,false,false,false,false,false,false,false,false,false,false,false] rfl rfl (take_ofW HT_.out HW_.out (by kernel_rfl)) (fun _ _ _ h=>h) (Or.inl ⟨by rfl,?_⟩) hHeld ?_ ?_
          rotate_left
          ·rintro w' ⟨s0,s1,s2⟩
           go_simp
           with_reducible rfl
          rotate_left
          ·simp only [Act.put,sA_,sB_,sC_,i64_w,i32_w]
           rfl
          refine take_ (i:=4) (N:=some 44) (v:=?_) (a':=?_) #[true,true,true,true,true,false,false,false,false,false,false,false,false,false,false] rfl rfl (take_ofW HT_.out HW_.out (by kernel_rfl)) (fun _ _ _ h=>h) (Or.inl ⟨by rfl,?_⟩) hHeld ?_ ?_
          rotate_left
          ·rintro w' ⟨s0,s1,s2⟩
           go_simp
           with_reducible rfl
          rotate_left
          ·simp only [Act.put,sA_,sB_,sC_,i64_w,i32_w]
           rfl
          refine one_ (i:=5) (N:=some 45) #[true,true,true,true,true,true,false,false,false,false,false,false,false,false,false] rfl rfl (one_of HT_.out (by kernel_rfl)) (by decide) (fun K hK=>?_)
          refine goes_ Try.func42 (by kernel_rfl) rfl #[.agg #[.bool false,.slice A0_1 l0_1.length c0_1],.string (rdOf ByteArray.empty y191 x9_1)] (by rfl) rfl rfl (by (try simp only [List.map_toArray,List.map_cons,List.map_nil]);first|done|rfl|(simp only [List.length_drop,List.length_take];rfl)) ?_
          with_reducible refine (cadenceref3_Has.calls k1 false _ _ l0_1 (rdOf ByteArray.empty y191 x9_1) false _ ?side1 ?side2 A87.out).mono ?_
          (case side1=>repeat (first|exact (Kd.C_below HR0_1.out HB.out)|(with_reducible refine cA_ ?_ _)|(with_reducible refine cN_ ?_ _)|(with_reducible refine cD_ ?_)))
          (case side2=>exact HC0_1.out)
          rintro e w94 ⟨rfl,hb⟩
          have HS2_:=(hb.cell (World.block_lt_of_cell? _ _ (hHeld.2.2))).trans (hHeld.2.2)
          refine ⟨_,rfl,?_⟩
          have n0_:=Az.mk (Kd.R_below (by (with_reducible repeat (first|apply rA_|apply rN_|apply rD_));exact HO_8.out) hb)
          have n1_:=Az.mk (Kd.R_below (by (with_reducible repeat (first|apply rA_|apply rN_|apply rD_));exact HO_167001.out) hb)
          have n2_:=Az.mk (bb_ (g:=gb163) (o:=.cells #[.bool false,.slice A0_1 l0_1.length c0_1] 38 (0,0)) (by (with_reducible repeat (first|refine bq_ ?_ _|refine bw_ ?_|refine bz_ ?_ _));exact BK163.out) hb)
          have n3_:=Az.mk (bb_ (g:=gb164) (o:=.cells #[.bool a1_0,.slice A1_1 l1_1.length c1_1] 38 (0,0)) (by (with_reducible repeat (first|refine bq_ ?_ _|refine bw_ ?_|refine bz_ ?_ _));exact BK164.out) hb)
          have n4_:=Az.mk (bb_ (g:=gb165) (o:=.cells #[.bool false,.slice none 0 0] 38 (0,0)) (by (with_reducible repeat (first|refine bq_ ?_ _|refine bw_ ?_|refine bz_ ?_ _));exact BK165.out) hb)
          have n5_:=Az.mk (bb_ (g:=gb166) (o:=.cells #[.bool false,u167001] 38 (0,0)) (by (with_reducible repeat (first|refine bq_ ?_ _|refine bw_ ?_|refine bz_ ?_ _));exact BK166.out) hb)
          have n6_:=Az.mk (below_step (by repeat (first|(with_reducible first|exact HB.out|apply bA_|apply bN_|apply bD_|refine bs_ ?_ GE163.out|refine bs_ ?_ GE164.out|refine bs_ ?_ GE165.out|refine bs_ ?_ GE166.out)|exact HB.out)) hb)
          clear HO_8
          clear HO_167001
          clear BK163
          clear BK164
          clear BK165
          clear BK166
          clear HB
          have HO_8:=n0_
          have HO_167001:=n1_
          have BK163:=n2_
          have BK164:=n3_
          have BK165:=n4_
          have BK166:=n5_
          have HB:=n6_
          clear n0_ n1_ n2_ n3_ n4_ n5_ n6_
          (try clear hb)
          (try clear hb2)
          (try clear hk)
          (try clear hi)
          refine hK.out _ _ ⟨(bc_ BK163.out 0).trans rfl,(bc_ BK163.out 1).trans rfl,HS2_⟩ (fun hHeld=>?_)
          clear hK K
          refine norm_ (a':=?_) ?_ ?_
          rotate_left
          ·show Act.put _ (some 45) _=_
           simp only [Act.put,sA_,sB_,sC_,i64_w,i32_w]
           rfl
          refine pure_ (i:=6) (N:=some 46) (v:=?_) (a':=?_) #[true,true,true,true,true,true,true,false,false,false,false,false,false,false,false] rfl rfl (any_of HT_.out (by kernel_rfl)) (fun _ _ _ h=>h) (Or.inl ⟨by rfl,?_⟩) ?_ ?_
          rotate_left
          ·intro w'
           go_simp
           with_reducible rfl
          rotate_left
          ·simp only [Act.put,sA_,sB_,sC_,i64_w,i32_w]
           rfl
          refine pure_ (i:=7) (N:=some 47) (v:=undef) (a':=?_) #[true,true,true,true,true,true,true,true,false,false,false,false,false,false,false] rfl rfl (any_of HT_.out (by kernel_rfl)) (fun _ _ _ h=>h) (Or.inr ⟨by rfl,rfl⟩) ?_ ?_
          rotate_left
          ·simp only [Act.put,sA_,sB_,sC_,i64_w,i32_w]
           rfl
          refine pure_ (i:=8) (N:=some 48) (v:=undef) (a':=?_) #[true,true,true,true,true,true,true,true,true,false,false,false,false,false,false] rfl rfl (any_of HT_.out (by kernel_rfl)) (fun _ _ _ h=>h) (Or.inr ⟨by rfl,rfl⟩) ?_ ?_
          rotate_left
          ·simp only [Act.put,sA_,sB_,sC_,i64_w,i32_w]
           rfl
          refine pure_ (i:=9) (N:=some 49) (v:=undef) (a':=?_) #[true,true,true,true,true,true,true,true,true,true,false,false,false,false,false] rfl rfl (any_of HT_.out (by kernel_rfl)) (fun _ _ _ h=>h) (Or.inr ⟨by rfl,rfl⟩) ?_ ?_
          rotate_left
          ·simp only [Act.put,sA_,sB_,sC_,i64_w,i32_w]
           rfl
          refine pure_ (i:=10) (N:=some 50) (v:=undef) (a':=?_) #[true,true,true,true,true,true,true,true,true,true,true,false,false,false,false] rfl rfl (any_of HT_.out (by kernel_rfl)) (fun _ _ _ h=>h) (Or.inr ⟨by rfl,rfl⟩) ?_ ?_
          rotate_left
          ·simp only [Act.put,sA_,sB_,sC_,i64_w,i32_w]
           rfl
          refine pure_ (i:=11) (N:=some 51) (v:=undef) (a':=?_) #[true,true,true,true,true,true,true,true,true,true,true,true,false,false,false] rfl rfl (any_of HT_.out (by kernel_rfl)) (fun _ _ _ h=>h) (Or.inr ⟨by rfl,rfl⟩) ?_ ?_
          rotate_left
          ·simp only [Act.put,sA_,sB_,sC_,i64_w,i32_w]
           rfl
          refine pure_ (i:=12) (N:=some 52) (v:=undef) (a':=?_) #[true,true,true,true,true,true,true,true,true,true,true,true,true,false,false] rfl rfl (any_of HT_.out (by kernel_rfl)) (fun _ _ _ h=>h) (Or.inr ⟨by rfl,rfl⟩) ?_ ?_
          rotate_left
          ·simp only [Act.put,sA_,sB_,sC_,i64_w,i32_w]
           rfl
          refine pure_ (i:=13) (N:=some 53) (v:=?_) (a':=?_) #[true,true,true,true,true,true,true,true,true,true,true,true,true,true,false] rfl rfl (any_of HT_.out (by kernel_rfl)) (fun _ _ _ h=>h) (Or.inl ⟨by rfl,?_⟩) ?_ ?_
          rotate_left
          ·intro w'
           go_simp
           with_reducible rfl
          rotate_left
          ·simp only [Act.put,sA_,sB_,sC_,i64_w,i32_w]
           rfl
          refine pure_ (i:=14) (N:=some 10) (v:=?_) (a':=?_) #[true,true,true,true,true,true,true,true,true,true,true,true,true,true,true] rfl rfl (any_of HT_.out (by kernel_rfl)) (fun _ _ _ h=>h) (Or.inl ⟨by rfl,?_⟩) ?_ ?_
          rotate_left
          ·intro w'
           go_simp
           with_reducible rfl
          rotate_left
          ·simp only [Act.put,sA_,sB_,sC_,i64_w,i32_w]
           rfl
          refine done_ (done_of HT_.out (by kernel_rfl)) ?_
          try go_wp2
          go_meet
          case rel=>exact ⟨_,(false),(by first|rfl|(simp;done)|(simp [*];done)),H',⟨by have:=HK1.out;first|omega|exact Nat.le_refl _⟩,⟨by (with_reducible repeat (first|apply rA_|apply rN_|apply rD_));exact HO_8.out⟩,⟨by (with_reducible repeat (first|apply rA_|apply rN_|apply rD_));exact HO_167001.out⟩,⟨by (with_reducible repeat (first|refine bq_ ?_ _|refine bw_ ?_|refine bz_ ?_ _));exact BK163.out⟩,⟨by (with_reducible repeat (first|refine bq_ ?_ _|refine bw_ ?_|refine bz_ ?_ _));exact BK164.out⟩,⟨by (with_reducible repeat (first|refine bq_ ?_ _|refine bw_ ?_|refine bz_ ?_ _));exact BK165.out⟩,⟨by (with_reducible repeat (first|refine bq_ ?_ _|refine bw_ ?_|refine bz_ ?_ _));exact BK166.out⟩,⟨by repeat (first|(with_reducible first|exact HB.out|apply bA_|apply bN_|apply bD_|refine bs_ ?_ GE163.out|refine bs_ ?_ GE164.out|refine bs_ ?_ GE165.out|refine bs_ ?_ GE166.out)|exact HB.out)⟩⟩
        ·rw [if_neg c86] at H
         exact absurd H (by simp)
       case rest =>
        clear HC84
        try clear c1
        try clear p1
        try clear q1
        try clear hx1
        try clear c2
        try clear p2
        try clear c3
        try clear c4
        try clear c5
        try clear c6
        try clear p6
        try clear c7
        try clear c8
        try clear c10
        try clear c11
        try clear c13
        try clear c16
        try clear c17
        try clear p17
        try clear q17
        try clear hx17
        try clear c18
        try clear p18
        try clear q18
        try clear hx18
        try clear c26
        try clear c26b0
        try clear c29
        try clear c29b0
        try clear c31
        try clear c38
        try clear c38b0
        try clear c38b1
        try clear c38b2
        try clear c39
        try clear c39b0
        try clear c40
        try clear c40b0
        try clear c42
        try clear c43
        try clear c44
        try clear c45
        try clear c51
        try clear c52
        try clear c53
        try clear c56
        try clear c57
        try clear c58
        try clear c60
        try clear c61
        try clear c64
        try clear p64
        try clear c65
        try clear c69
        try clear c70
        try clear c73
        try clear c74
        try clear c75
        try clear c83
        try clear c83b0
        try clear c86
        try clear c86b0
        try clear c88
        try clear hcz12_0
        try clear hcz12_1
        try clear hcz14_0
        try clear hcz14_1
        try clear hcz19_0
        try clear hcz19_1
        try clear hcz45_0
        try clear hcz45_1
        try clear hcz54_0
        try clear hcz54_1
        try clear hcz59_0
        try clear hcz59_1
        try clear hcz62_0
        try clear hcz62_1
        try clear hcz71_0
        try clear hcz71_1
        try clear hcz76_0
        try clear hcz76_1
        try clear hfz12_0
        try clear hfz12_1
        try clear hfz14_0
        try clear hfz14_1
        try clear hfz19_0
        try clear hfz19_1
        try clear hfz45_0
        try clear hfz45_1
        try clear hfz54_0
        try clear hfz54_1
        try clear hfz59_0
        try clear hfz59_1
        try clear hfz62_0
        try clear hfz62_1
        try clear hfz71_0
        try clear hfz71_1
        try clear hfz76_0
        try clear hfz76_1
        try clear hx176_0
        try clear hx178_0
        try clear hx180_0
        try clear p1
        try clear p17
        try clear p176
        try clear p178
        try clear p18
        try clear p180
        try clear p2
        try clear p6
        try clear p64
        try clear q1
        try clear q17
        try clear q176
        try clear q178
        try clear q18
        try clear q180
        obtain ⟨kq,x10_83,rfl,HA,HJ83,HO_8,HO_167001,BK163,BK164,BK165,BK166,HB⟩:=hcut
        cases kq with
        | zero=>exact absurd HA.out (by simp [cadenceref3_pick.j1])
        | succ kj83 =>
         have H:=HA.out
         clear HA
         simp only [cadenceref3_pick.j1] at H
         by_cases c95:(x10_83 != false)=true
         ·rw [if_pos c95] at H
          have c95b0:(x10_83 != false)=true:=c95
          (try (have c95b1:decide (x10_83=false)=false:=by simpa using c95))
          (try (have c95b2:(x10_83 == false)=false:=by simpa using c95))
          (try (have c95b3:¬ (x10_83=false):=by simpa using c95))
          clear c95
          by_cases c96:0≤x9_1
          ·rw [if_pos c96] at H
           have c96b0:decide (0≤x9_1)=true:=decide_eq_true c96
           clear c96
           by_cases c97:x9_1 < (y191.length:Int)
           ·rw [if_pos c97] at H
            have c97b0:decide (x9_1 < (y191.length:Int))=true:=decide_eq_true c97
            clear c97
            replace H:=Option.bind_eq_some_iff.mp H
            obtain ⟨t181,A980,H⟩:=H
            replace H:(cadenceref3_pick.l0 kj83 y191 (wrap64 (x9_1+1)) false l0_1 a1_0 l1_1 false t181)=some (r1,r2):=H
            have A98:=Az.mk A980
            clear A980
            have H':=Az.mk H
            clear H
            have hnb99:=NB166_163.out
            have hnc99:=NB163_166.out
            have hnb100:=NB166_164.out
            have hnc100:=NB164_166.out
            have hnb101:=NB166_165.out
            have hnc101:=NB165_166.out
            have hcz102_0:wc.cell? ⟨gb166,0,none⟩=some (.bool false):=(bc_ BK166.out 0).trans rfl
            have hcz102_1:wc.cell? ⟨gb166,1,none⟩=some (u167001):=(bc_ BK166.out 1).trans rfl
            have hfz102_0:=bf_ BK166.out 0
            have hfz102_1:=bf_ BK166.out 1
            try go_wp2
            have n0_:=Az.mk (rD_ HO_8.out)
            have n1_:=Az.mk (rD_ HO_167001.out)
            have n2_:=Az.mk (bw_ BK163.out)
            have n3_:=Az.mk (bw_ BK164.out)
            have n4_:=Az.mk (bw_ BK165.out)
            have n5_:=Az.mk (bw_ BK166.out)
            have n6_:=Az.mk (bD_ HB.out)
            clear HO_8
            clear HO_167001
            clear BK163
            clear BK164
            clear BK165
            clear BK166
            clear HB
            have HO_8:=n0_
            have HO_167001:=n1_
            have BK163:=n2_
            have BK164:=n3_
            have BK165:=n4_
            have BK166:=n5_
            have HB:=n6_
            clear n0_ n1_ n2_ n3_ n4_ n5_ n6_
            have p180:0≤(x9_1:Int):=of_decide_eq_true (by first|(with_reducible assumption)|assumption)
            have q180:x9_1 < (y191.length:Int):=of_decide_eq_true (by first|(with_reducible assumption)|assumption)
            obtain ⟨ad180,e180,hx180_0⟩:=Kd.at_string (Kd.R_reads' HO_8.out).2.2 x9_1 p180 q180
            cases e180
            replace p180:=eq_true p180
            replace q180:=eq_true q180
            obtain ⟨Ao104,co104,eo104⟩:=Kd.R_slice HO_167001.out
            (first|subst eo104|(injection eo104 with f1_ f2_ f3_;have f4_:=f1_.symm;have f5_:=f3_.symm;clear f1_ f2_ f3_;subst f4_;subst f5_))
            refine start_ (n:=9) (S:=fun w'=>w'.cell? ⟨gb166,0,none⟩=some (.bool false)∧w'.cell? ⟨gb166,1,none⟩=some (.slice Ao104 x167001_1.length co104)∧w'.cell? (ad180.add (x9_1).toNat)=some (.string (rdOf ByteArray.empty y191 x9_1))) (ds:=[8]) #[false,false,false,false,false,false,false,false,false] (by kernel_rfl) rfl rfl ⟨(bc_ BK166.out 0).trans rfl,(bc_ BK166.out 1).trans rfl,hx180_0⟩ (fun hHeld=>?_);refine with_tabW cadenceref3_pick.tab12 cadenceref3_pick.bits12 (fun HT_ HW_=>?_)
            generalize wc.drew=w103 at HO_8 HO_167001 BK163 BK164 BK165 BK166 HB hx180_0 hHeld ⊢
            refine pure_ (i:=0) (N:=some 74) (v:=?_) (a':=?_) #[true,false,false,false,false,false,false,false,false] rfl rfl (any_of HT_.out (by kernel_rfl)) (fun _ _ _ h=>h) (Or.inl ⟨by rfl,?_⟩) ?_ ?_
            rotate_left
            ·intro w'
             go_simp
             with_reducible rfl
            rotate_left
            ·simp only [Act.put,sA_,sB_,sC_,i64_w,i32_w]
             rfl
            refine pure_ (i:=2) (N:=some 76) (v:=?_) (a':=?_) #[true,false,true,false,false,false,false,false,false] rfl rfl (any_of HT_.out (by kernel_rfl)) (fun _ _ _ h=>h) (Or.inl ⟨by rfl,?_⟩) ?_ ?_
            rotate_left
            ·intro w'
             go_simp
             with_reducible rfl
            rotate_left
            ·simp only [Act.put,sA_,sB_,sC_,i64_w,i32_w]
             rfl
            refine pure_ (i:=3) (N:=some 77) (v:=?_) (a':=?_) #[true,false,true,true,false,false,false,false,false] rfl rfl (any_of HT_.out (by kernel_rfl)) (fun _ _ _ h=>h) (Or.inl ⟨by rfl,?_⟩) ?_ ?_
            rotate_left
            ·intro w'
             go_simp
             with_reducible rfl
            rotate_left
            ·simp only [Act.put,sA_,sB_,sC_,i64_w,i32_w]
             rfl
            refine pure_ (i:=4) (N:=some 78) (v:=?_) (a':=?_) #[true,false,true,true,true,false,false,false,false] rfl rfl (any_of HT_.out (by kernel_rfl)) (fun _ _ _ h=>h) (Or.inl ⟨by rfl,?_⟩) ?_ ?_
            rotate_left
            ·intro w'
             go_simp
             with_reducible rfl
            rotate_left
            ·simp only [Act.put,sA_,sB_,sC_,i64_w,i32_w]
             rfl
            refine take_ (i:=1) (N:=some 75) (v:=?_) (a':=?_) #[true,true,true,true,true,false,false,false,false] rfl rfl (take_ofW HT_.out HW_.out (by kernel_rfl)) (fun _ _ _ h=>h) (Or.inl ⟨by rfl,?_⟩) hHeld ?_ ?_
            rotate_left
            ·rintro w' ⟨s0,s1,s2⟩
             go_simp
             with_reducible rfl
            rotate_left
            ·simp only [Act.put,sA_,sB_,sC_,i64_w,i32_w]
             rfl
            refine take_ (i:=5) (N:=some 79) (v:=?_) (a':=?_) #[true,true,true,true,true,true,false,false,false] rfl rfl (take_ofW HT_.out HW_.out (by kernel_rfl)) (fun _ _ _ h=>h) (Or.inl ⟨by rfl,?_⟩) hHeld ?_ ?_
            rotate_left
            ·rintro w' ⟨s0,s1,s2⟩
             go_simp
             with_reducible rfl
            rotate_left
            ·simp only [Act.put,sA_,sB_,sC_,i64_w,i32_w]
             rfl
            refine one_ (i:=6) (N:=some 80) #[true,true,true,true,true,true,true,false,false] rfl rfl (one_of HT_.out (by kernel_rfl)) (by decide) (fun K hK=>?_)
            refine goes_ Try.func45 (by kernel_rfl) rfl #[.slice Ao104 x167001_1.length co104,.string (rdOf ByteArray.empty y191 x9_1)] (by rfl) rfl rfl (by (try simp only [List.map_toArray,List.map_cons,List.map_nil]);first|done|rfl|(simp only [List.length_drop,List.length_take];rfl)) ?_
            with_reducible refine (cadenceref3_put.calls kj83 (fun k_=>some k_=(.slice Ao104 x167001_1.length co104:Value).ownBlock) (.slice Ao104 x167001_1.length co104) x167001_1 (rdOf ByteArray.empty y191 x9_1) t181 w _ ?side1 ?side2 A98.out).mono ?_
            (case side1=>repeat (first|(with_reducible first|exact HB.out|apply bA_|apply bN_|apply bD_|refine bs_ ?_ GE163.out|refine bs_ ?_ GE164.out|refine bs_ ?_ GE165.out|refine bs_ ?_ GE166.out)|exact HB.out))
            (case side2=>exact Kd.R_tight rfl HO_167001.out)
            rintro e w105 ⟨v182,rfl,ho0,hb,hkp⟩
            have HS2_:=cell_kept (hHeld.2.2) hkp (by first|(rw [add_block];exact (fun hs_=>(((HO_8.out).1 _ rfl)) hs_))|(show ¬ _;simp only [add_block];exact (fun hs_=>(((HO_8.out).1 _ rfl)) hs_))|exact (fun hs_=>(((HO_8.out).1 _ rfl)) hs_))
            refine ⟨_,rfl,?_⟩
            have n0_:=Az.mk (Kd.R_mono (ok':=fun k_=>some k_≠(v182:Value).ownBlock) (Kd.R_keptB (HO_8.out) hkp (fun k_ hk_ hs_=>(hk_) hs_)) (fun k_ hk_=>fun e_=>Or.elim (ho0.1 k_ e_.symm) (fun hs_=>hk_.2.1 hs_) (fun hn_=>Nat.not_le.2 hk_.2.2 hn_)))
            have n1_:=Az.mk (blk_kept (by (with_reducible repeat (first|refine bq_ ?_ _|refine bw_ ?_|refine bz_ ?_ _));exact BK163.out) hkp (fun hs_=>(fun e_=>(Kd.R_ne HO_167001.out BK163.out (by decide)) e_) hs_))
            have n2_:=Az.mk (blk_kept (by (with_reducible repeat (first|refine bq_ ?_ _|refine bw_ ?_|refine bz_ ?_ _));exact BK164.out) hkp (fun hs_=>(fun e_=>(Kd.R_ne HO_167001.out BK164.out (by decide)) e_) hs_))
            have n3_:=Az.mk (blk_kept (by (with_reducible repeat (first|refine bq_ ?_ _|refine bw_ ?_|refine bz_ ?_ _));exact BK165.out) hkp (fun hs_=>(fun e_=>(Kd.R_ne HO_167001.out BK165.out (by decide)) e_) hs_))
            have n4_:=Az.mk (blk_kept (by (with_reducible repeat (first|refine bq_ ?_ _|refine bw_ ?_|refine bz_ ?_ _));exact BK166.out) hkp (fun hs_=>(fun e_=>(Kd.R_ne HO_167001.out BK166.out (by decide)) e_) hs_))
            have n5_:=Az.mk (Kd.R_mono (ok':=fun k_=>some k_≠(.slice (some ad180) y191.length co85:Value).ownBlock) ho0 (fun k_ hk_=>Or.elim hk_ (fun hs_=>fun e_=>(((HO_8.out).1 k_ e_.symm)) hs_) (fun hn_=>(Kd.fresh' (Kd.R_lt (by (with_reducible repeat (first|apply rA_|apply rN_|apply rD_));exact HO_8.out)) k_ hn_))))
            have n6_:=Az.mk (hb)
            clear HO_8
            clear BK163
            clear BK164
            clear BK165
            clear BK166
            clear HB
            clear HO_167001
            have HO_8:=n0_
            have BK163:=n1_
            have BK164:=n2_
            have BK165:=n3_
            have BK166:=n4_
            have HO183:=n5_
            have HB:=n6_
            clear n0_ n1_ n2_ n3_ n4_ n5_ n6_
            (try clear hb)
            (try clear hkp)
            (try clear ho0)
            obtain ⟨Ao106,co106,eo106⟩:=Kd.R_slice HO183.out
            (first|subst eo106|(injection eo106 with f1_ f2_ f3_;have f4_:=f1_.symm;have f5_:=f3_.symm;clear f1_ f2_ f3_;subst f4_;subst f5_))
            refine hK.out _ _ ⟨(bc_ BK166.out 0).trans rfl,(bc_ BK166.out 1).trans rfl,HS2_⟩ (fun hHeld=>?_)
            clear hK K
            refine norm_ (a':=?_) ?_ ?_
            rotate_left
            ·show Act.put _ (some 80) _=_
             simp only [Act.put,sA_,sB_,sC_,i64_w,i32_w]
             rfl
            refine pure_ (i:=7) (N:=some 81) (v:=?_) (a':=?_) #[true,true,true,true,true,true,true,true,false] rfl rfl (any_of HT_.out (by kernel_rfl)) (fun _ _ _ h=>h) (Or.inl ⟨by rfl,?_⟩) ?_ ?_
            rotate_left
            ·intro w'
             go_simp
             with_reducible rfl
            rotate_left
            ·simp only [Act.put,sA_,sB_,sC_,i64_w,i32_w]
             rfl
            refine last_ (i:=8) (N:=none) #[true,true,true,true,true,true,true,true,true] rfl rfl (one_of HT_.out (by kernel_rfl)) (by decide) (fun K hK=>?_)
            have hs107:w105.cell? ⟨gb166,1,none⟩=some (.slice Ao104 x167001_1.length co104):=(bc_ BK166.out 1).trans rfl
            have hfs107:=bf_ BK166.out 1
            have hns107_0:=NB163_166.out
            have hns107_1:=NB164_166.out
            have hns107_2:=NB165_166.out
            have hms107_0:=NB166_163.out
            have hms107_1:=NB166_164.out
            have hms107_2:=NB166_165.out
            refine skip_ (w1:=?_) (by rfl) rfl ?_ ?_
            rotate_left
            ·go_simp
             rfl
            refine hK.out _ _ ?_
            clear hK K
            refine done_ (done_of HT_.out (by kernel_rfl)) ?_
            try go_wp2
            go_roundg kj83
            case measure=>have:=HK1.out;have:=HJ83.out;omega
            case rel=>exact ⟨(wrap64 (x9_1+1)),(t181),(.slice Ao106 t181.length co106),(by first|rfl|(simp;done)|(simp [*];done)),H',⟨by have:=HK1.out;have:=HJ83.out;omega⟩,⟨by (with_reducible repeat (first|apply rA_|apply rN_|apply rD_));exact Kd.R_mono (Kd.R_far (p:=⟨gb166,1,none⟩) (Kd.R_types HO_8.out BK166.out (by decide)) (fun _ hk=>hk.2) (.slice Ao106 t181.length co106)) (fun _ hk=>hk.1)⟩,⟨by (with_reducible repeat (first|apply rA_|apply rN_|apply rD_));exact Kd.R_mono (Kd.R_far (p:=⟨gb166,1,none⟩) (Kd.R_types HO183.out BK166.out (by decide)) (fun _ hk=>hk.2) (.slice Ao106 t181.length co106)) (fun _ hk=>hk.1)⟩,⟨by (with_reducible repeat (first|refine bq_ ?_ _|refine bw_ ?_|refine bz_ ?_ _));refine blk_far ?_ NB163_166.out _;(with_reducible repeat (first|refine bq_ ?_ _|refine bw_ ?_|refine bz_ ?_ _));exact BK163.out⟩,⟨by (with_reducible repeat (first|refine bq_ ?_ _|refine bw_ ?_|refine bz_ ?_ _));refine blk_far ?_ NB164_166.out _;(with_reducible repeat (first|refine bq_ ?_ _|refine bw_ ?_|refine bz_ ?_ _));exact BK164.out⟩,⟨by (with_reducible repeat (first|refine bq_ ?_ _|refine bw_ ?_|refine bz_ ?_ _));refine blk_far ?_ NB165_166.out _;(with_reducible repeat (first|refine bq_ ?_ _|refine bw_ ?_|refine bz_ ?_ _));exact BK165.out⟩,⟨by (with_reducible repeat (first|refine bq_ ?_ _|refine bw_ ?_|refine bz_ ?_ _));refine blk_put (cs:=#[.bool false,.slice Ao104 x167001_1.length co104]) ?_ 1 _ rfl;(with_reducible repeat (first|refine bq_ ?_ _|refine bw_ ?_|refine bz_ ?_ _));exact BK166.out⟩,⟨by repeat (first|(with_reducible first|exact HB.out|apply bA_|apply bN_|apply bD_|refine bs_ ?_ GE163.out|refine bs_ ?_ GE164.out|refine bs_ ?_ GE165.out|refine bs_ ?_ GE166.out)|exact HB.out)⟩⟩
           ·rw [if_neg c97] at H
            exact absurd H (by simp)
          ·rw [if_neg c96] at H
           exact absurd H (by simp)
         ·rw [if_neg c95] at H
          have c95b0:(x10_83 != false)=false:=by simpa using c95
          (try (have c95b1:decide (x10_83=false)=true:=by simpa using c95))
          (try (have c95b2:(x10_83 == false)=true:=by simpa using c95))
          clear c95
          have H':=Az.mk H
          clear H
          have hnb108:=NB166_163.out
          have hnc108:=NB163_166.out
          have hnb109:=NB166_164.out
          have hnc109:=NB164_166.out
          have hnb110:=NB166_165.out
          have hnc110:=NB165_166.out
          have hcz111_0:wc.cell? ⟨gb166,0,none⟩=some (.bool false):=(bc_ BK166.out 0).trans rfl
          have hcz111_1:wc.cell? ⟨gb166,1,none⟩=some (u167001):=(bc_ BK166.out 1).trans rfl
          have hfz111_0:=bf_ BK166.out 0
          have hfz111_1:=bf_ BK166.out 1
          go_wp2
          go_roundg kj83
          case measure=>have:=HK1.out;have:=HJ83.out;omega
          case rel=>exact ⟨(wrap64 (x9_1+1)),(x167001_1),(u167001),(by first|rfl|(simp;done)|(simp [*];done)),H',⟨by have:=HK1.out;have:=HJ83.out;omega⟩,⟨by (with_reducible repeat (first|apply rA_|apply rN_|apply rD_));exact HO_8.out⟩,⟨by (with_reducible repeat (first|apply rA_|apply rN_|apply rD_));exact HO_167001.out⟩,⟨by (with_reducible repeat (first|refine bq_ ?_ _|refine bw_ ?_|refine bz_ ?_ _));exact BK163.out⟩,⟨by (with_reducible repeat (first|refine bq_ ?_ _|refine bw_ ?_|refine bz_ ?_ _));exact BK164.out⟩,⟨by (with_reducible repeat (first|refine bq_ ?_ _|refine bw_ ?_|refine bz_ ?_ _));exact BK165.out⟩,⟨by (with_reducible repeat (first|refine bq_ ?_ _|refine bw_ ?_|refine bz_ ?_ _));exact BK166.out⟩,⟨by repeat (first|(with_reducible first|exact HB.out|apply bA_|apply bN_|apply bD_|refine bs_ ?_ GE163.out|refine bs_ ?_ GE164.out|refine bs_ ?_ GE165.out|refine bs_ ?_ GE166.out)|exact HB.out)⟩⟩
      ·rw [if_neg c83] at H
       have c83b0:decide (x9_1 < (y191.length:Int))=false:=decide_eq_false c83
       clear c83
       simp only [Option.some.injEq,Prod.mk.injEq] at H
       obtain ⟨rfl,rfl⟩:=H
       obtain ⟨Ao112,co112,eo112⟩:=Kd.R_slice HO_8.out
       subst eo112
       have hnb113:=NB166_163.out
       have hnc113:=NB163_166.out
       have hnb114:=NB166_164.out
       have hnc114:=NB164_166.out
       have hnb115:=NB166_165.out
       have hnc115:=NB165_166.out
       have hcz116_0:wr.cell? ⟨gb166,0,none⟩=some (.bool false):=(bc_ BK166.out 0).trans rfl
       have hcz116_1:wr.cell? ⟨gb166,1,none⟩=some (u167001):=(bc_ BK166.out 1).trans rfl
       have hfz116_0:=bf_ BK166.out 0
       have hfz116_1:=bf_ BK166.out 1
       have hnb117:=NB165_163.out
       have hnc117:=NB163_165.out
       have hnb118:=NB165_164.out
       have hnc118:=NB164_165.out
       have hcz119_0:wr.cell? ⟨gb165,0,none⟩=some (.bool false):=(bc_ BK165.out 0).trans rfl
       have hcz119_1:wr.cell? ⟨gb165,1,none⟩=some (.slice none 0 0):=(bc_ BK165.out 1).trans rfl
       have hfz119_0:=bf_ BK165.out 0
       have hfz119_1:=bf_ BK165.out 1
       obtain ⟨Ao120,co120,eo120⟩:=Kd.R_slice HO_167001.out
       subst eo120
       go_wp2
       refine bodyPost_ret (results_cell_row rfl _ _ gb165 38 #[.bool false,.slice Ao120 x167001_1.length co120] (0,0) _ rfl (by (with_reducible repeat (first|refine bq_ ?_ _|refine bw_ ?_|refine bz_ ?_ _));refine blk_put (cs:=#[.bool false,.slice none 0 0]) ?_ 1 _ rfl;(with_reducible repeat (first|refine bq_ ?_ _|refine bw_ ?_|refine bz_ ?_ _));refine blk_put (cs:=#[.bool false,.slice none 0 0]) ?_ 0 _ rfl;(with_reducible repeat (first|refine bq_ ?_ _|refine bw_ ?_|refine bz_ ?_ _));exact BK165.out) Try.underlying38 rfl (by kernel_rfl)) rfl ?_
       exact ⟨_,by first|rfl|(simp [errW_none,errW_some] <;> rfl)|(simp [*,errW_none,errW_some] <;> rfl),by (with_reducible repeat (first|apply rA_|apply rN_|apply rD_));exact Kd.R_mono (Kd.R_far (p:=⟨gb165,1,none⟩) (Kd.R_far (p:=⟨gb165,0,none⟩) (Kd.R_types HO_167001.out BK165.out (by decide)) (fun _ hk=>hk.2) (.bool false)) (fun _ hk=>hk.2) (.slice Ao120 x167001_1.length co120)) (fun _ hk=>trivial),by repeat (first|(with_reducible first|exact HB.out|apply bA_|apply bN_|apply bD_|refine bs_ ?_ GE163.out|refine bs_ ?_ GE164.out|refine bs_ ?_ GE165.out|refine bs_ ?_ GE166.out)|exact HB.out)⟩
   ·rw [if_neg c65] at H
    exact absurd H (by simp)
  ·rw [if_neg c64] at H
   exact absurd H (by simp)
end Go.Proofs.Ytoihiehoolehiaa.PX
namespace Go.Proofs.Ytoihiehoolehiaa.PX
open Go.RowKit Go.Proofs.YtoihiehoolehiaaW.PrintWords Go.Proofs.YtoihiehoolehiaaW.PrintLast Go.Proofs.YtoihiehoolehiaaW.PrintMore
attribute [local go_sem] max2_int min2_int max_two min_two max_three min_three max_four min_four   
set_option linter.unusedVariables false
set_option linter.unusedSimpArgs false
attribute [local go_sem] run_field_87_0
def cadenceref3_Both.f (k:Nat) (a0_0:Bool) (l0_1:List ByteArray) (a1_0:Bool) (l1_1:List ByteArray):Option (Bool × List ByteArray):=(cadenceref3_pick.f k a0_0 l0_1 a1_0 l1_1 true).bind fun bt197=>(some (bt197.1,bt197.2))
theorem cadenceref3_Both.mono:∀ a0 a1 a2 a3 k,LeO (cadenceref3_Both.f k a0 a1 a2 a3) (cadenceref3_Both.f (k+1) a0 a1 a2 a3):=by
 intro a0 a1 a2 a3 k
 unfold cadenceref3_Both.f
 repeat' first
   | (with_reducible exact cadenceref3_pick.mono _ _ _ _ _ _)
   | (with_reducible exact LeO.refl _)
   | (with_reducible exact LeO.none _)
   | (with_reducible refine LeO.ite ?_ ?_)
   | (with_reducible refine LeO.bind ?_ (fun _=>?_))
   | exact cadenceref3_pick.mono _ _ _ _ _ _
   | exact LeO.none _
   | refine LeO.ite ?_ ?_
   | refine LeO.bind ?_ (fun _=>?_)
set_option maxHeartbeats 8000000 in
set_option maxRecDepth 100000 in
theorem cadenceref3_Both.calls (k:Nat) (a0_0:Bool) (A0_1:Option Addr) (c0_1:Nat) (l0_1:List ByteArray) (a1_0:Bool) (A1_1:Option Addr) (c1_1:Nat) (l1_1:List ByteArray) (r1:Bool) (r2:List ByteArray) (w:World) (hr0_1:Kd.C Kd.string w A0_1 l0_1.length l0_1) (hc0_1:l0_1.length≤c0_1) (hr1_1:Kd.C Kd.string w A1_1 l1_1.length l1_1) (hc1_1:l1_1.length≤c1_1) (h:cadenceref3_Both.f k a0_0 l0_1 a1_0 l1_1=some (r1,r2)) :
  Calls Try.prog 24 #[.agg #[.bool a0_0,.slice A0_1 l0_1.length c0_1],.agg #[.bool a1_0,.slice A1_1 l1_1.length c1_1]] w fun e w'=>∃ v1_:Value,e=.returned (.agg #[.bool r1,v1_])∧Kd.R Kd.string 9 w' w.heap.size (fun _=>True) v1_ r2∧Below w.heap.size w w':=by
 have hu38:=Try.underlying38
 have HR0_1:=Az.mk hr0_1
 have HC0_1:=Az.mk hc0_1
 clear hr0_1 hc0_1
 have HR1_1:=Az.mk hr1_1
 have HC1_1:=Az.mk hc1_1
 clear hr1_1 hc1_1
 have HB:=Az.mk (Below.refl w.heap.size w)
 have H:((cadenceref3_pick.f k a0_0 l0_1 a1_0 l1_1 true).bind fun bt197=>(some (bt197.1,bt197.2)))=some (r1,r2):=h
 clear h
 replace H:=Option.bind_eq_some_iff.mp H
 obtain ⟨⟨t197,t198⟩,A30,H⟩:=H
 replace H:(some (t197,t198))=some (r1,r2):=H
 have A3:=Az.mk A30
 clear A30
 simp only [Option.some.injEq,Prod.mk.injEq] at H
 obtain ⟨rfl,rfl⟩:=H
 go_enter Try.func24,Try.ntmps24
 go_wp2_with (first|((with_reducible refine gate_dst (N:=2) rfl ?_);refine box_event ?hg (N:=2) ?hd (cs:=#[.bool a0_0,.slice A0_1 l0_1.length c0_1]) (t:=38) ?hr ?_;(case hd=>rfl);(case hg=>rfl);(case hr=>first|(go_simp;done)|(go_simp;rfl));intro gb194 hg w4 hbox hb;have n0_:=Az.mk (below_step (by repeat (first|(with_reducible first|exact HB.out|apply bA_|apply bN_|apply bD_)|exact HB.out)) hb);have n1_:=Az.mk (hbox);have n2_:=Az.mk ((by rw [hg];exact (be_ (by repeat (first|(with_reducible first|exact HB.out|apply bA_|apply bN_|apply bD_)|exact HB.out))):w.heap.size≤gb194));have n3_:=Az.mk ((by rw [hg];exact (be_ (by repeat (first|(with_reducible first|exact HB.out|apply bA_|apply bN_|apply bD_)|exact HB.out))):w.heap.size≤gb194));clear HB;have HB:=n0_;have BK194:=n1_;have GW194:=n2_;have GE194:=n3_;clear n0_ n1_ n2_ n3_;clear hb hbox hg)|((with_reducible refine gate_dst (N:=3) rfl ?_);refine box_event ?hg (N:=3) ?hd (cs:=#[.bool a1_0,.slice A1_1 l1_1.length c1_1]) (t:=38) ?hr ?_;(case hd=>rfl);(case hg=>rfl);(case hr=>first|(go_simp;done)|(go_simp;rfl));intro gb195 hg w5 hbox hb;have n0_:=Az.mk (bb_ (g:=gb194) (o:=.cells #[.bool a0_0,.slice A0_1 l0_1.length c0_1] 38 (0,0)) (by (with_reducible repeat (first|refine bq_ ?_ _|refine bw_ ?_|refine bz_ ?_ _));exact BK194.out) hb);have n1_:=Az.mk (below_step (by repeat (first|(with_reducible first|exact HB.out|apply bA_|apply bN_|apply bD_|refine bs_ ?_ GE194.out)|exact HB.out)) hb);have n2_:=Az.mk (hbox);have n3_:=Az.mk ((by rw [hg];exact (be_ (by repeat (first|(with_reducible first|exact HB.out|apply bA_|apply bN_|apply bD_|refine bs_ ?_ GE194.out)|exact HB.out))):w.heap.size≤gb195));have n4_:=Az.mk ((by rw [hg];exact (be_ (by repeat (first|(with_reducible first|exact HB.out|apply bA_|apply bN_|apply bD_|refine bs_ ?_ GE194.out)|exact HB.out))):w.heap.size≤gb195));have n5_:=Az.mk ((by rw [hg];exact Nat.ne_of_lt (blk_lt (g:=gb194) (o:=.cells #[.bool a0_0,.slice A0_1 l0_1.length c0_1] 38 (0,0)) (by (with_reducible repeat (first|refine bq_ ?_ _|refine bw_ ?_|refine bz_ ?_ _));exact BK194.out)):gb194≠gb195));have n6_:=Az.mk ((by rw [hg];exact Nat.ne_of_gt (blk_lt (g:=gb194) (o:=.cells #[.bool a0_0,.slice A0_1 l0_1.length c0_1] 38 (0,0)) (by (with_reducible repeat (first|refine bq_ ?_ _|refine bw_ ?_|refine bz_ ?_ _));exact BK194.out)):gb195≠gb194));clear BK194;clear HB;have BK194:=n0_;have HB:=n1_;have BK195:=n2_;have GW195:=n3_;have GE195:=n4_;have NB194_195:=n5_;have NB195_194:=n6_;clear n0_ n1_ n2_ n3_ n4_ n5_ n6_;clear hb hbox hg)|((with_reducible refine gate_dst (N:=4) rfl ?_);refine box_event ?hg (N:=4) ?hd (cs:=#[.bool false,.slice none 0 0]) (t:=38) ?hr ?_;(case hd=>rfl);(case hg=>rfl);(case hr=>first|(go_simp;done)|(go_simp;rfl));intro gb196 hg w6 hbox hb;have n0_:=Az.mk (bb_ (g:=gb194) (o:=.cells #[.bool a0_0,.slice A0_1 l0_1.length c0_1] 38 (0,0)) (by (with_reducible repeat (first|refine bq_ ?_ _|refine bw_ ?_|refine bz_ ?_ _));exact BK194.out) hb);have n1_:=Az.mk (bb_ (g:=gb195) (o:=.cells #[.bool a1_0,.slice A1_1 l1_1.length c1_1] 38 (0,0)) (by (with_reducible repeat (first|refine bq_ ?_ _|refine bw_ ?_|refine bz_ ?_ _));exact BK195.out) hb);have n2_:=Az.mk (below_step (by repeat (first|(with_reducible first|exact HB.out|apply bA_|apply bN_|apply bD_|refine bs_ ?_ GE194.out|refine bs_ ?_ GE195.out)|exact HB.out)) hb);have n3_:=Az.mk (hbox);have n4_:=Az.mk ((by rw [hg];exact (be_ (by repeat (first|(with_reducible first|exact HB.out|apply bA_|apply bN_|apply bD_|refine bs_ ?_ GE194.out|refine bs_ ?_ GE195.out)|exact HB.out))):w.heap.size≤gb196));have n5_:=Az.mk ((by rw [hg];exact (be_ (by repeat (first|(with_reducible first|exact HB.out|apply bA_|apply bN_|apply bD_|refine bs_ ?_ GE194.out|refine bs_ ?_ GE195.out)|exact HB.out))):w.heap.size≤gb196));have n6_:=Az.mk ((by rw [hg];exact Nat.ne_of_lt (blk_lt (g:=gb194) (o:=.cells #[.bool a0_0,.slice A0_1 l0_1.length c0_1] 38 (0,0)) (by (with_reducible repeat (first|refine bq_ ?_ _|refine bw_ ?_|refine bz_ ?_ _));exact BK194.out)):gb194≠gb196));have n7_:=Az.mk ((by rw [hg];exact Nat.ne_of_gt (blk_lt (g:=gb194) (o:=.cells #[.bool a0_0,.slice A0_1 l0_1.length c0_1] 38 (0,0)) (by (with_reducible repeat (first|refine bq_ ?_ _|refine bw_ ?_|refine bz_ ?_ _));exact BK194.out)):gb196≠gb194));have n8_:=Az.mk ((by rw [hg];exact Nat.ne_of_lt (blk_lt (g:=gb195) (o:=.cells #[.bool a1_0,.slice A1_1 l1_1.length c1_1] 38 (0,0)) (by (with_reducible repeat (first|refine bq_ ?_ _|refine bw_ ?_|refine bz_ ?_ _));exact BK195.out)):gb195≠gb196));have n9_:=Az.mk ((by rw [hg];exact Nat.ne_of_gt (blk_lt (g:=gb195) (o:=.cells #[.bool a1_0,.slice A1_1 l1_1.length c1_1] 38 (0,0)) (by (with_reducible repeat (first|refine bq_ ?_ _|refine bw_ ?_|refine bz_ ?_ _));exact BK195.out)):gb196≠gb195));clear BK194;clear BK195;clear HB;have BK194:=n0_;have BK195:=n1_;have HB:=n2_;have BK196:=n3_;have GW196:=n4_;have GE196:=n5_;have NB194_196:=n6_;have NB196_194:=n7_;have NB195_196:=n8_;have NB196_195:=n9_;clear n0_ n1_ n2_ n3_ n4_ n5_ n6_ n7_ n8_ n9_;clear hb hbox hg;have hnb7:=NB194_195.out;have hnc7:=NB195_194.out;have hnb8:=NB194_196.out;have hnc8:=NB196_194.out;have hcz9_0:w6.cell? ⟨gb194,0,none⟩=some (.bool a0_0):=(bc_ BK194.out 0).trans rfl;have hcz9_1:w6.cell? ⟨gb194,1,none⟩=some (.slice A0_1 l0_1.length c0_1):=(bc_ BK194.out 1).trans rfl;have hfz9_0:=bf_ BK194.out 0;have hfz9_1:=bf_ BK194.out 1;have hnb10:=NB195_196.out;have hnc10:=NB196_195.out;have hcz11_0:w6.cell? ⟨gb195,0,none⟩=some (.bool a1_0):=(bc_ BK195.out 0).trans rfl;have hcz11_1:w6.cell? ⟨gb195,1,none⟩=some (.slice A1_1 l1_1.length c1_1):=(bc_ BK195.out 1).trans rfl;have hfz11_0:=bf_ BK195.out 0;have hfz11_1:=bf_ BK195.out 1)|((with_reducible refine gate_callee (f:=43) rfl ?_);refine goesL_ (some 7) rfl rfl Try.func43 (by kernel_rfl) rfl #[.agg #[.bool a0_0,.slice A0_1 l0_1.length c0_1],.agg #[.bool a1_0,.slice A1_1 l1_1.length c1_1],.bool true] rfl (by (try simp only [List.map_toArray,List.map_cons,List.map_nil]);first|done|rfl|(simp only [List.length_drop,List.length_take];rfl)) ?_;(with_reducible refine (cadenceref3_pick.calls k a0_0 _ _ l0_1 a1_0 _ _ l1_1 true t197 t198 _ ?side1 ?side2 ?side3 ?side4 A3.out).mono ?_);(case side1=>repeat (first|exact (Kd.C_below HR0_1.out HB.out)|(with_reducible refine cA_ ?_ _)|(with_reducible refine cN_ ?_ _)|(with_reducible refine cD_ ?_)));(case side2=>exact HC0_1.out);(case side3=>repeat (first|exact (Kd.C_below HR1_1.out HB.out)|(with_reducible refine cA_ ?_ _)|(with_reducible refine cN_ ?_ _)|(with_reducible refine cD_ ?_)));(case side4=>exact HC1_1.out);rintro e w12 ⟨v199,rfl,ho0,hb⟩;refine ⟨_,rfl,?_⟩;have n0_:=Az.mk (Kd.R_lower ho0 (be_ (by repeat (first|(with_reducible first|exact HB.out|apply bA_|apply bN_|apply bD_|refine bs_ ?_ GE194.out|refine bs_ ?_ GE195.out|refine bs_ ?_ GE196.out)|exact HB.out))));have n1_:=Az.mk (bb_ (g:=gb194) (o:=.cells #[.bool a0_0,.slice A0_1 l0_1.length c0_1] 38 (0,0)) (by (with_reducible repeat (first|refine bq_ ?_ _|refine bw_ ?_|refine bz_ ?_ _));exact BK194.out) hb);have n2_:=Az.mk (bb_ (g:=gb195) (o:=.cells #[.bool a1_0,.slice A1_1 l1_1.length c1_1] 38 (0,0)) (by (with_reducible repeat (first|refine bq_ ?_ _|refine bw_ ?_|refine bz_ ?_ _));exact BK195.out) hb);have n3_:=Az.mk (bb_ (g:=gb196) (o:=.cells #[.bool false,.slice none 0 0] 38 (0,0)) (by (with_reducible repeat (first|refine bq_ ?_ _|refine bw_ ?_|refine bz_ ?_ _));exact BK196.out) hb);have n4_:=Az.mk (below_step (by repeat (first|(with_reducible first|exact HB.out|apply bA_|apply bN_|apply bD_|refine bs_ ?_ GE194.out|refine bs_ ?_ GE195.out|refine bs_ ?_ GE196.out)|exact HB.out)) hb);clear BK194;clear BK195;clear BK196;clear HB;have HO200:=n0_;have BK194:=n1_;have BK195:=n2_;have BK196:=n3_;have HB:=n4_;clear n0_ n1_ n2_ n3_ n4_;(try clear hb);(try clear hb2);(try clear hk);(try clear hi);(try clear ho0);have hcz13_0:w12.cell? ⟨gb196,0,none⟩=some (.bool false):=(bc_ BK196.out 0).trans rfl;have hcz13_1:w12.cell? ⟨gb196,1,none⟩=some (.slice none 0 0):=(bc_ BK196.out 1).trans rfl;have hfz13_0:=bf_ BK196.out 0;have hfz13_1:=bf_ BK196.out 1;obtain ⟨Ao14,co14,eo14⟩:=Kd.R_slice HO200.out;subst eo14))
 refine bodyPost_ret (results_cell_row rfl _ _ gb196 38 #[.bool t197,.slice Ao14 t198.length co14] (0,0) _ rfl (by (with_reducible repeat (first|refine bq_ ?_ _|refine bw_ ?_|refine bz_ ?_ _));refine blk_put (cs:=#[.bool t197,.slice none 0 0]) ?_ 1 _ rfl;(with_reducible repeat (first|refine bq_ ?_ _|refine bw_ ?_|refine bz_ ?_ _));refine blk_put (cs:=#[.bool false,.slice none 0 0]) ?_ 0 _ rfl;(with_reducible repeat (first|refine bq_ ?_ _|refine bw_ ?_|refine bz_ ?_ _));exact BK196.out) Try.underlying38 rfl (by kernel_rfl)) rfl ?_
 exact ⟨_,by first|rfl|(simp [errW_none,errW_some] <;> rfl)|(simp [*,errW_none,errW_some] <;> rfl),by (with_reducible repeat (first|apply rA_|apply rN_|apply rD_));exact Kd.R_mono (Kd.R_far (p:=⟨gb196,1,none⟩) (Kd.R_far (p:=⟨gb196,0,none⟩) (Kd.R_types HO200.out BK196.out (by decide)) (fun _ hk=>hk.2) (.bool t197)) (fun _ hk=>hk.2) (.slice Ao14 t198.length co14)) (fun _ hk=>trivial),by repeat (first|(with_reducible first|exact HB.out|apply bA_|apply bN_|apply bD_|refine bs_ ?_ GE194.out|refine bs_ ?_ GE195.out|refine bs_ ?_ GE196.out)|exact HB.out)⟩
end Go.Proofs.Ytoihiehoolehiaa.PX
namespace Go.Proofs.Ytoihiehoolehiaa.PX
open Go.RowKit Go.Proofs.YtoihiehoolehiaaW.PrintWords Go.Proofs.YtoihiehoolehiaaW.PrintLast Go.Proofs.YtoihiehoolehiaaW.PrintMore
attribute [local go_sem] max2_int min2_int max_two min_two max_three min_three max_four min_four   
set_option linter.unusedVariables false
set_option linter.unusedSimpArgs false
attribute [local go_sem] run_field_87_0
def cadencelaw3_within.f (a0:Int) (a1:Int):Option (Int):=if a1=0 then (none) else (if (Int.tmod a0 a1) < 0 then (some (wrap64 ((Int.tmod a0 a1)+a1))) else (some (Int.tmod a0 a1)))
set_option maxHeartbeats 8000000 in
set_option maxRecDepth 100000 in
theorem cadencelaw3_within.calls (a0:Int) (a1:Int) (r:Int) (w:World) (h:cadencelaw3_within.f a0 a1=some r) :
  Calls Try.prog 44 #[.int .i64 a0,.int .i64 a1] w fun e w'=>e=.returned (.int .i64 r)∧Drawn0 w w':=by
 have H:(if a1=0 then (none) else (if (Int.tmod a0 a1) < 0 then (some (wrap64 ((Int.tmod a0 a1)+a1))) else (some (Int.tmod a0 a1))))=some r:=h
 clear h
 by_cases c3:a1=0
 ·rw [if_pos c3] at H
  exact absurd H (by simp)
 ·rw [if_neg c3] at H
  have c3b0:(a1 == 0)=false:=beq_eq_false_iff_ne.mpr c3
  have c3b1:(a1 != 0)=true:=bne_iff_ne.mpr c3
  by_cases c4:(Int.tmod a0 a1) < 0
  ·rw [if_pos c4] at H
   have c4b0:decide ((Int.tmod a0 a1) < 0)=true:=decide_eq_true c4
   clear c4
   obtain rfl:=Option.some.inj H
   go_enter Try.func44,Try.ntmps44
   go_wp2
   go_ret
   exact ⟨by first|rfl|(simp;done)|(simp [*];done),by repeat (first|exact Drawn0.refl _|apply Drawn0.step)⟩
  ·rw [if_neg c4] at H
   have c4b0:decide ((Int.tmod a0 a1) < 0)=false:=decide_eq_false c4
   clear c4
   obtain rfl:=Option.some.inj H
   go_enter Try.func44,Try.ntmps44
   go_wp2
   go_ret
   exact ⟨by first|rfl|(simp;done)|(simp [*];done),by repeat (first|exact Drawn0.refl _|apply Drawn0.step)⟩
end Go.Proofs.Ytoihiehoolehiaa.PX
namespace Go.Proofs.Ytoihiehoolehiaa.PX
open Go.RowKit Go.Proofs.YtoihiehoolehiaaW.PrintWords Go.Proofs.YtoihiehoolehiaaW.PrintLast Go.Proofs.YtoihiehoolehiaaW.PrintMore
attribute [local go_sem] max2_int min2_int max_two min_two max_three min_three max_four min_four   
set_option linter.unusedVariables false
set_option linter.unusedSimpArgs false
attribute [local go_sem] run_field_87_0
def cadencelaw3_Make.l0:Nat→Int→Bool→List ByteArray→Bool→List ByteArray→Option (Bool × List ByteArray)
 | 0,_,_,_,_,_=>none
 | k+1,x4,x202000,x202001,x204000,x204001=>if x4 < (x202001.length:Int) then (if x4 < 6 then ((some (([(⟨#[]⟩:ByteArray),(⟨#[97]⟩:ByteArray),(⟨#[98]⟩:ByteArray),(⟨#[99]⟩:ByteArray),(⟨#[100]⟩:ByteArray)]:List ByteArray):List ByteArray)).bind fun y204=>(if 0≤x4 then ((cadencelaw3_within.f ((rdOf ByteArray.empty x202001 x4).size:Int) 5).bind fun t208=>(if 0≤t208 then (if t208 < (y204.length:Int) then (if x204001.length < 8796093022208 then (cadencelaw3_Make.l0 k (wrap64 (x4+1)) x202000 x202001 x204000 (x204001 ++ [rdOf ByteArray.empty y204 t208])) else (none)) else (none)) else (none))) else (none))) else (some (x204000,x204001))) else (some (x204000,x204001))
def cadencelaw3_Make.f (k:Nat) (a0_0:Bool) (l0_1:List ByteArray):Option (Bool × List ByteArray):=cadencelaw3_Make.l0 k 0 a0_0 l0_1 a0_0 ([]:List ByteArray)
theorem cadencelaw3_Make.mono_l:∀ k,(∀ y0 y1 y2 y3 y4,LeO (cadencelaw3_Make.l0 k y0 y1 y2 y3 y4) (cadencelaw3_Make.l0 (k+1) y0 y1 y2 y3 y4))
 | 0=>fun _ _ _ _ _ r h=>by simp [cadencelaw3_Make.l0] at h
 | k+1=>by
  have ih0:=cadencelaw3_Make.mono_l k
  ·intro y0 y1 y2 y3 y4
   unfold cadencelaw3_Make.l0
   repeat' first
   | (with_reducible exact ih0 _ _ _ _ _)
   | (with_reducible exact LeO.refl _)
   | (with_reducible exact LeO.none _)
   | (with_reducible refine LeO.ite ?_ ?_)
   | (with_reducible refine LeO.bind ?_ (fun _=>?_))
   | exact ih0 _ _ _ _ _
   | exact LeO.none _
   | refine LeO.ite ?_ ?_
   | refine LeO.bind ?_ (fun _=>?_)
theorem cadencelaw3_Make.mono:∀ a0 a1 k,LeO (cadencelaw3_Make.f k a0 a1) (cadencelaw3_Make.f (k+1) a0 a1):=by
 intro a0 a1 k
 have ih0:=cadencelaw3_Make.mono_l k
 unfold cadencelaw3_Make.f
 repeat' first
   | (with_reducible exact ih0 _ _ _ _ _)
   | (with_reducible exact LeO.refl _)
   | (with_reducible exact LeO.none _)
   | (with_reducible refine LeO.ite ?_ ?_)
   | (with_reducible refine LeO.bind ?_ (fun _=>?_))
   | exact ih0 _ _ _ _ _
   | exact LeO.none _
   | refine LeO.ite ?_ ?_
   | refine LeO.bind ?_ (fun _=>?_)
def cadencelaw3_Make.T5:Bool × List (List Nat × List Nat):=(true,[([],[]),([0],[0]),([],[]),([],[]),([3],[3]),([],[]),([4,5],[4,5]),([6],[6]),([7],[7]),([8],[8]),([2,9],[2,9]),([10],[10]),([11],[11]),([1,12,9],[1,12]),([0,1,2,3,4,5,6,7,8,9,10,11,12,13],[]),([14,13,13,0,1,2,3,4,5,6,7,8,9,10,11,12,13],[13,14])])
def cadencelaw3_Make.B5:List Nat:=[0,1,0,0,8,0,56,120,248,504,1020,2044,4092,8191,16383,32767]
theorem cadencelaw3_Make.tab5:rtab .any (opsOf Try.f25 5)=cadencelaw3_Make.T5:=by kernel_rfl
theorem cadencelaw3_Make.bits5:waitsOk cadencelaw3_Make.T5.2 cadencelaw3_Make.B5=true:=by kernel_rfl
set_option maxHeartbeats 8000000 in
set_option maxRecDepth 100000 in
theorem cadencelaw3_Make.calls (k:Nat) (a0_0:Bool) (A0_1:Option Addr) (c0_1:Nat) (l0_1:List ByteArray) (r1:Bool) (r2:List ByteArray) (w:World) (hr0_1:Kd.C Kd.string w A0_1 l0_1.length l0_1) (hc0_1:l0_1.length≤c0_1) (h:cadencelaw3_Make.f k a0_0 l0_1=some (r1,r2)) :
  Calls Try.prog 25 #[.agg #[.bool a0_0,.slice A0_1 l0_1.length c0_1]] w fun e w'=>∃ v1_:Value,e=.returned (.agg #[.bool r1,v1_])∧Kd.R Kd.string 9 w' w.heap.size (fun _=>True) v1_ r2∧Below w.heap.size w w':=by
 have hu38:=Try.underlying38
 have HR0_1:=Az.mk hr0_1
 have HC0_1:=Az.mk hc0_1
 clear hr0_1 hc0_1
 have HB:=Az.mk (Below.refl w.heap.size w)
 have H:(cadencelaw3_Make.l0 k 0 a0_0 l0_1 a0_0 ([]:List ByteArray))=some (r1,r2):=h
 clear h
 have H':=Az.mk H
 clear H
 go_enter Try.func25,Try.ntmps25
 go_wp2_with (first|((with_reducible refine gate_dst (N:=1) rfl ?_);refine box_event ?hg (N:=1) ?hd (cs:=#[.bool a0_0,.slice A0_1 l0_1.length c0_1]) (t:=38) ?hr ?_;(case hd=>rfl);(case hg=>rfl);(case hr=>first|(go_simp;done)|(go_simp;rfl));intro gb201 hg w2 hbox hb;have n0_:=Az.mk (below_step (by repeat (first|(with_reducible first|exact HB.out|apply bA_|apply bN_|apply bD_)|exact HB.out)) hb);have n1_:=Az.mk (hbox);have n2_:=Az.mk ((by rw [hg];exact (be_ (by repeat (first|(with_reducible first|exact HB.out|apply bA_|apply bN_|apply bD_)|exact HB.out))):w.heap.size≤gb201));have n3_:=Az.mk ((by rw [hg];exact (be_ (by repeat (first|(with_reducible first|exact HB.out|apply bA_|apply bN_|apply bD_)|exact HB.out))):w.heap.size≤gb201));clear HB;have HB:=n0_;have BK201:=n1_;have GW201:=n2_;have GE201:=n3_;clear n0_ n1_ n2_ n3_;clear hb hbox hg)|((with_reducible refine gate_dst (N:=2) rfl ?_);refine box_event ?hg (N:=2) ?hd (cs:=#[.bool false,.slice none 0 0]) (t:=38) ?hr ?_;(case hd=>rfl);(case hg=>rfl);(case hr=>first|(go_simp;done)|(go_simp;rfl));intro gb202 hg w3 hbox hb;have n0_:=Az.mk (bb_ (g:=gb201) (o:=.cells #[.bool a0_0,.slice A0_1 l0_1.length c0_1] 38 (0,0)) (by (with_reducible repeat (first|refine bq_ ?_ _|refine bw_ ?_|refine bz_ ?_ _));exact BK201.out) hb);have n1_:=Az.mk (below_step (by repeat (first|(with_reducible first|exact HB.out|apply bA_|apply bN_|apply bD_|refine bs_ ?_ GE201.out)|exact HB.out)) hb);have n2_:=Az.mk (hbox);have n3_:=Az.mk ((by rw [hg];exact (be_ (by repeat (first|(with_reducible first|exact HB.out|apply bA_|apply bN_|apply bD_|refine bs_ ?_ GE201.out)|exact HB.out))):w.heap.size≤gb202));have n4_:=Az.mk ((by rw [hg];exact (be_ (by repeat (first|(with_reducible first|exact HB.out|apply bA_|apply bN_|apply bD_|refine bs_ ?_ GE201.out)|exact HB.out))):w.heap.size≤gb202));have n5_:=Az.mk ((by rw [hg];exact Nat.ne_of_lt (blk_lt (g:=gb201) (o:=.cells #[.bool a0_0,.slice A0_1 l0_1.length c0_1] 38 (0,0)) (by (with_reducible repeat (first|refine bq_ ?_ _|refine bw_ ?_|refine bz_ ?_ _));exact BK201.out)):gb201≠gb202));have n6_:=Az.mk ((by rw [hg];exact Nat.ne_of_gt (blk_lt (g:=gb201) (o:=.cells #[.bool a0_0,.slice A0_1 l0_1.length c0_1] 38 (0,0)) (by (with_reducible repeat (first|refine bq_ ?_ _|refine bw_ ?_|refine bz_ ?_ _));exact BK201.out)):gb202≠gb201));clear BK201;clear HB;have BK201:=n0_;have HB:=n1_;have BK202:=n2_;have GW202:=n3_;have GE202:=n4_;have NB201_202:=n5_;have NB202_201:=n6_;clear n0_ n1_ n2_ n3_ n4_ n5_ n6_;clear hb hbox hg;have hnb4:=NB201_202.out;have hnc4:=NB202_201.out;have hcz5_0:w3.cell? ⟨gb201,0,none⟩=some (.bool a0_0):=(bc_ BK201.out 0).trans rfl;have hcz5_1:w3.cell? ⟨gb201,1,none⟩=some (.slice A0_1 l0_1.length c0_1):=(bc_ BK201.out 1).trans rfl;have hfz5_0:=bf_ BK201.out 0;have hfz5_1:=bf_ BK201.out 1)|((with_reducible refine gate_dst (N:=3) rfl ?_);refine box_event ?hg (N:=3) ?hd (cs:=#[.bool false,.slice none 0 0]) (t:=38) ?hr ?_;(case hd=>rfl);(case hg=>rfl);(case hr=>first|(go_simp;done)|(go_simp;rfl));intro gb203 hg w6 hbox hb;have n0_:=Az.mk (bb_ (g:=gb201) (o:=.cells #[.bool a0_0,.slice A0_1 l0_1.length c0_1] 38 (0,0)) (by (with_reducible repeat (first|refine bq_ ?_ _|refine bw_ ?_|refine bz_ ?_ _));exact BK201.out) hb);have n1_:=Az.mk (bb_ (g:=gb202) (o:=.cells #[.bool false,.slice none 0 0] 38 (0,0)) (by (with_reducible repeat (first|refine bq_ ?_ _|refine bw_ ?_|refine bz_ ?_ _));exact BK202.out) hb);have n2_:=Az.mk (below_step (by repeat (first|(with_reducible first|exact HB.out|apply bA_|apply bN_|apply bD_|refine bs_ ?_ GE201.out|refine bs_ ?_ GE202.out)|exact HB.out)) hb);have n3_:=Az.mk (hbox);have n4_:=Az.mk ((by rw [hg];exact (be_ (by repeat (first|(with_reducible first|exact HB.out|apply bA_|apply bN_|apply bD_|refine bs_ ?_ GE201.out|refine bs_ ?_ GE202.out)|exact HB.out))):w.heap.size≤gb203));have n5_:=Az.mk ((by rw [hg];exact (be_ (by repeat (first|(with_reducible first|exact HB.out|apply bA_|apply bN_|apply bD_|refine bs_ ?_ GE201.out|refine bs_ ?_ GE202.out)|exact HB.out))):w.heap.size≤gb203));have n6_:=Az.mk ((by rw [hg];exact Nat.ne_of_lt (blk_lt (g:=gb201) (o:=.cells #[.bool a0_0,.slice A0_1 l0_1.length c0_1] 38 (0,0)) (by (with_reducible repeat (first|refine bq_ ?_ _|refine bw_ ?_|refine bz_ ?_ _));exact BK201.out)):gb201≠gb203));have n7_:=Az.mk ((by rw [hg];exact Nat.ne_of_gt (blk_lt (g:=gb201) (o:=.cells #[.bool a0_0,.slice A0_1 l0_1.length c0_1] 38 (0,0)) (by (with_reducible repeat (first|refine bq_ ?_ _|refine bw_ ?_|refine bz_ ?_ _));exact BK201.out)):gb203≠gb201));have n8_:=Az.mk ((by rw [hg];exact Nat.ne_of_lt (blk_lt (g:=gb202) (o:=.cells #[.bool false,.slice none 0 0] 38 (0,0)) (by (with_reducible repeat (first|refine bq_ ?_ _|refine bw_ ?_|refine bz_ ?_ _));exact BK202.out)):gb202≠gb203));have n9_:=Az.mk ((by rw [hg];exact Nat.ne_of_gt (blk_lt (g:=gb202) (o:=.cells #[.bool false,.slice none 0 0] 38 (0,0)) (by (with_reducible repeat (first|refine bq_ ?_ _|refine bw_ ?_|refine bz_ ?_ _));exact BK202.out)):gb203≠gb202));clear BK201;clear BK202;clear HB;have BK201:=n0_;have BK202:=n1_;have HB:=n2_;have BK203:=n3_;have GW203:=n4_;have GE203:=n5_;have NB201_203:=n6_;have NB203_201:=n7_;have NB202_203:=n8_;have NB203_202:=n9_;clear n0_ n1_ n2_ n3_ n4_ n5_ n6_ n7_ n8_ n9_;clear hb hbox hg;have hnb7:=NB203_201.out;have hnc7:=NB201_203.out;have hnb8:=NB203_202.out;have hnc8:=NB202_203.out;have hcz9_0:w6.cell? ⟨gb203,0,none⟩=some (.bool false):=(bc_ BK203.out 0).trans rfl;have hcz9_1:w6.cell? ⟨gb203,1,none⟩=some (.slice none 0 0):=(bc_ BK203.out 1).trans rfl;have hfz9_0:=bf_ BK203.out 0;have hfz9_1:=bf_ BK203.out 1))
 go_loopg [4] k (fun kq v4 w'=>∃ (x4_1:Int) (x204001_1:List ByteArray) (u204001:Value),v4=.int .i64 x4_1∧Az (cadencelaw3_Make.l0 kq x4_1 a0_0 l0_1 a0_0 x204001_1=some (r1,r2))∧Az (kq≤k)∧Az (Kd.R Kd.string 9 w' w.heap.size (fun _=>True) u204001 x204001_1)∧Az (w'.heap[gb201]? = some (.cells #[.bool a0_0,(.slice A0_1 l0_1.length c0_1)] 38 (0,0)))∧Az (w'.heap[gb202]? = some (.cells #[.bool false,(.slice none 0 0)] 38 (0,0)))∧Az (w'.heap[gb203]? = some (.cells #[.bool a0_0,u204001] 38 (0,0)))∧Az (Below w.heap.size w w'))
 case atStart=>exact ⟨(0),(([]:List ByteArray)),(.slice none 0 0),(by first|rfl|(simp;done)|(simp [*];done)),H',⟨Nat.le_refl _⟩,⟨by first|exact Kd.R_nil _ _ _ _ _|exact Kd.N_nil _ _ _ _ _|exact Kd.V_nil _ _ _ _ _|exact Kd.Q_nil _ _ _ _ _|exact Kd.S_nil _ _ _ _ _⟩,⟨by (with_reducible repeat (first|refine bq_ ?_ _|refine bw_ ?_|refine bz_ ?_ _));refine blk_far ?_ NB201_203.out _;(with_reducible repeat (first|refine bq_ ?_ _|refine bw_ ?_|refine bz_ ?_ _));refine blk_far ?_ NB201_203.out _;(with_reducible repeat (first|refine bq_ ?_ _|refine bw_ ?_|refine bz_ ?_ _));exact BK201.out⟩,⟨by (with_reducible repeat (first|refine bq_ ?_ _|refine bw_ ?_|refine bz_ ?_ _));refine blk_far ?_ NB202_203.out _;(with_reducible repeat (first|refine bq_ ?_ _|refine bw_ ?_|refine bz_ ?_ _));refine blk_far ?_ NB202_203.out _;(with_reducible repeat (first|refine bq_ ?_ _|refine bw_ ?_|refine bz_ ?_ _));exact BK202.out⟩,⟨by (with_reducible repeat (first|refine bq_ ?_ _|refine bw_ ?_|refine bz_ ?_ _));refine blk_put (cs:=#[.bool a0_0,.slice none 0 0]) ?_ 1 _ rfl;(with_reducible repeat (first|refine bq_ ?_ _|refine bw_ ?_|refine bz_ ?_ _));refine blk_put (cs:=#[.bool false,.slice none 0 0]) ?_ 0 _ rfl;(with_reducible repeat (first|refine bq_ ?_ _|refine bw_ ?_|refine bz_ ?_ _));exact BK203.out⟩,⟨by repeat (first|(with_reducible first|exact HB.out|apply bA_|apply bN_|apply bD_|refine bs_ ?_ GE201.out|refine bs_ ?_ GE202.out|refine bs_ ?_ GE203.out)|exact HB.out)⟩⟩
 case round =>
  clear H'
  try clear c2
  try clear p2
  try clear c4
  try clear c7
  try clear c8
  try clear hcz5_0
  try clear hcz5_1
  try clear hcz9_0
  try clear hcz9_1
  try clear hfz5_0
  try clear hfz5_1
  try clear hfz9_0
  try clear hfz9_1
  obtain ⟨x4_1,x204001_1,u204001,rfl,HA,HK1,HO_204001,BK201,BK202,BK203,HB⟩:=hrel
  cases gk with
  | zero=>exact absurd HA.out (by simp [cadencelaw3_Make.l0])
  | succ k1 =>
   have H:=HA.out
   clear HA
   simp only [cadencelaw3_Make.l0] at H
   by_cases c10:x4_1 < (l0_1.length:Int)
   ·rw [if_pos c10] at H
    have c10b0:decide (x4_1 < (l0_1.length:Int))=true:=decide_eq_true c10
    clear c10
    by_cases c11:x4_1 < 6
    ·rw [if_pos c11] at H
     have c11b0:decide (x4_1 < 6)=true:=decide_eq_true c11
     clear c11
     obtain ⟨y204,hy204⟩:∃ y_:List ByteArray,y_=(([(⟨#[]⟩:ByteArray),(⟨#[97]⟩:ByteArray),(⟨#[98]⟩:ByteArray),(⟨#[99]⟩:ByteArray),(⟨#[100]⟩:ByteArray)]:List ByteArray)):=⟨_,rfl⟩
     replace H:(if 0≤x4_1 then ((cadencelaw3_within.f ((rdOf ByteArray.empty l0_1 x4_1).size:Int) 5).bind fun t208=>(if 0≤t208 then (if t208 < (y204.length:Int) then (if x204001_1.length < 8796093022208 then (cadencelaw3_Make.l0 k1 (wrap64 (x4_1+1)) a0_0 l0_1 a0_0 (x204001_1 ++ [rdOf ByteArray.empty y204 t208])) else (none)) else (none)) else (none))) else (none))=some (r1,r2):=by first|(rw [hy204];with_reducible exact H)|(have H2_:=(Option.bind_some _ _).symm.trans H;rw [hy204];with_reducible exact H2_)|(have H2_:=(Option.bind_some _ _).symm.trans H;with_reducible exact H2_)|with_reducible exact H|(rw [hy204];exact H)|exact H
     have Ny204:=Az.mk hy204
     clear hy204
     by_cases c12:0≤x4_1
     ·rw [if_pos c12] at H
      have c12b0:decide (0≤x4_1)=true:=decide_eq_true c12
      clear c12
      replace H:=Option.bind_eq_some_iff.mp H
      obtain ⟨t208,A130,H⟩:=H
      replace H:(if 0≤t208 then (if t208 < (y204.length:Int) then (if x204001_1.length < 8796093022208 then (cadencelaw3_Make.l0 k1 (wrap64 (x4_1+1)) a0_0 l0_1 a0_0 (x204001_1 ++ [rdOf ByteArray.empty y204 t208])) else (none)) else (none)) else (none))=some (r1,r2):=H
      have A13:=Az.mk A130
      clear A130
      by_cases c14:0≤t208
      ·rw [if_pos c14] at H
       have c14b0:decide (0≤t208)=true:=decide_eq_true c14
       clear c14
       by_cases c15:t208 < (y204.length:Int)
       ·rw [if_pos c15] at H
        have c15b0:decide (t208 < (y204.length:Int))=true:=decide_eq_true c15
        clear c15
        by_cases c16:x204001_1.length < 8796093022208
        ·rw [if_pos c16] at H
         have LMc16:=Az.mk c16
         clear c16
         obtain ⟨y210,hy210⟩:∃ y_:List ByteArray,y_=(x204001_1 ++ [rdOf ByteArray.empty y204 t208]):=⟨_,rfl⟩
         replace H:(cadencelaw3_Make.l0 k1 (wrap64 (x4_1+1)) a0_0 l0_1 a0_0 y210)=some (r1,r2):=by first|(rw [hy210];with_reducible exact H)|(have H2_:=(Option.bind_some _ _).symm.trans H;rw [hy210];with_reducible exact H2_)|(have H2_:=(Option.bind_some _ _).symm.trans H;with_reducible exact H2_)|with_reducible exact H|(rw [hy210];exact H)|exact H
         have Ny210:=Az.mk hy210
         clear hy210
         have H':=Az.mk H
         clear H
         have hnb17:=NB201_202.out
         have hnc17:=NB202_201.out
         have hnb18:=NB201_203.out
         have hnc18:=NB203_201.out
         have hcz19_0:wr.cell? ⟨gb201,0,none⟩=some (.bool a0_0):=(bc_ BK201.out 0).trans rfl
         have hcz19_1:wr.cell? ⟨gb201,1,none⟩=some (.slice A0_1 l0_1.length c0_1):=(bc_ BK201.out 1).trans rfl
         have hfz19_0:=bf_ BK201.out 0
         have hfz19_1:=bf_ BK201.out 1
         obtain ⟨Ao20,co20,eo20⟩:=Kd.R_slice HO_204001.out
         subst eo20
         try go_wp2
         have pi209:(0≤(t208:Int))=True:=eq_true (of_decide_eq_true (by first|(with_reducible assumption)|assumption))
         have qi209:(t208 < (y204.length:Int))=True:=eq_true (of_decide_eq_true (by first|(with_reducible assumption)|assumption))
         have n0_:=Az.mk (rD_ HO_204001.out)
         have n1_:=Az.mk (bw_ BK201.out)
         have n2_:=Az.mk (bw_ BK202.out)
         have n3_:=Az.mk (bw_ BK203.out)
         have n4_:=Az.mk (bD_ HB.out)
         clear HO_204001
         clear BK201
         clear BK202
         clear BK203
         clear HB
         have HO_204001:=n0_
         have BK201:=n1_
         have BK202:=n2_
         have BK203:=n3_
         have HB:=n4_
         clear n0_ n1_ n2_ n3_ n4_
         have p207:0≤(x4_1:Int):=of_decide_eq_true (by first|(with_reducible assumption)|assumption)
         have q207:x4_1 < (l0_1.length:Int):=of_decide_eq_true (by first|(with_reducible assumption)|assumption)
         obtain ⟨ad207,e207,hx207_0⟩:=Kd.at_string HR0_1.out x4_1 p207 q207
         have hw207_0:=hx207_0
         cases e207
         replace hx207_0:=(HB.out.cell (World.block_lt_of_cell? w _ hx207_0)).trans hx207_0
         replace p207:=eq_true p207
         replace q207:=eq_true q207
         refine start_ (n:=16) (S:=fun w'=>w'.cell? ⟨gb203,0,none⟩=some (.bool a0_0)∧w'.cell? ⟨gb203,1,none⟩=some (.slice Ao20 x204001_1.length co20)∧w'.cell? ⟨gb201,0,none⟩=some (.bool a0_0)∧w'.cell? ⟨gb201,1,none⟩=some (.slice (some ad207) l0_1.length c0_1)∧w'.cell? (ad207.add (x4_1).toNat)=some (.string (rdOf ByteArray.empty l0_1 x4_1))) (ds:=[15]) #[false,false,false,false,false,false,false,false,false,false,false,false,false,false,false,false] (by kernel_rfl) rfl rfl ⟨(bc_ BK203.out 0).trans rfl,(bc_ BK203.out 1).trans rfl,(bc_ BK201.out 0).trans rfl,(bc_ BK201.out 1).trans rfl,((HB.out.cell (World.block_lt_of_cell? w _ hw207_0)).trans hw207_0)⟩ (fun hHeld=>?_);refine with_tabW cadencelaw3_Make.tab5 cadencelaw3_Make.bits5 (fun HT_ HW_=>?_)
         generalize wr.drew=w21 at HO_204001 BK201 BK202 BK203 HB hx207_0 hHeld ⊢
         refine pure_ (i:=0) (N:=some 19) (v:=?_) (a':=?_) #[true,false,false,false,false,false,false,false,false,false,false,false,false,false,false,false] rfl rfl (any_of HT_.out (by kernel_rfl)) (fun _ _ _ h=>h) (Or.inl ⟨by rfl,?_⟩) ?_ ?_
         rotate_left
         ·intro w'
          go_simp
          with_reducible rfl
         rotate_left
         ·simp only [Act.put,sA_,sB_,sC_,i64_w,i32_w]
          rfl
         refine pure_ (i:=3) (N:=some 22) (v:=?_) (a':=?_) #[true,false,false,true,false,false,false,false,false,false,false,false,false,false,false,false] rfl rfl (any_of HT_.out (by kernel_rfl)) (fun _ _ _ h=>h) (Or.inl ⟨by rfl,?_⟩) ?_ ?_
         rotate_left
         ·intro w'
          go_simp
          with_reducible rfl
         rotate_left
         ·simp only [Act.put,sA_,sB_,sC_,i64_w,i32_w]
          rfl
         refine pure_ (i:=5) (N:=some 24) (v:=?_) (a':=?_) #[true,false,false,true,false,true,false,false,false,false,false,false,false,false,false,false] rfl rfl (any_of HT_.out (by kernel_rfl)) (fun _ _ _ h=>h) (Or.inl ⟨by rfl,?_⟩) ?_ ?_
         rotate_left
         ·intro w'
          go_simp
          with_reducible rfl
         rotate_left
         ·simp only [Act.put,sA_,sB_,sC_,i64_w,i32_w]
          rfl
         refine take_ (i:=1) (N:=some 20) (v:=?_) (a':=?_) #[true,true,false,true,false,true,false,false,false,false,false,false,false,false,false,false] rfl rfl (take_ofW HT_.out HW_.out (by kernel_rfl)) (fun _ _ _ h=>h) (Or.inl ⟨by rfl,?_⟩) hHeld ?_ ?_
         rotate_left
         ·rintro w' ⟨s0,s1,s2,s3,s4⟩
          go_simp
          with_reducible rfl
         rotate_left
         ·simp only [Act.put,sA_,sB_,sC_,i64_w,i32_w]
          rfl
         refine take_ (i:=4) (N:=some 23) (v:=?_) (a':=?_) #[true,true,false,true,true,true,false,false,false,false,false,false,false,false,false,false] rfl rfl (take_ofW HT_.out HW_.out (by kernel_rfl)) (fun _ _ _ h=>h) (Or.inl ⟨by rfl,?_⟩) hHeld ?_ ?_
         rotate_left
         ·rintro w' ⟨s0,s1,s2,s3,s4⟩
          go_simp
          with_reducible rfl
         rotate_left
         ·simp only [Act.put,sA_,sB_,sC_,i64_w,i32_w]
          rfl
         refine pure_ (i:=6) (N:=some 25) (v:=?_) (a':=?_) #[true,true,false,true,true,true,true,false,false,false,false,false,false,false,false,false] rfl rfl (any_of HT_.out (by kernel_rfl)) (fun _ _ _ h=>h) (Or.inl ⟨by rfl,?_⟩) ?_ ?_
         rotate_left
         ·intro w'
          go_simp
          with_reducible rfl
         rotate_left
         ·simp only [Act.put,sA_,sB_,sC_,i64_w,i32_w]
          rfl
         refine take_ (i:=7) (N:=some 26) (v:=?_) (a':=?_) #[true,true,false,true,true,true,true,true,false,false,false,false,false,false,false,false] rfl rfl (take_ofW HT_.out HW_.out (by kernel_rfl)) (fun _ _ _ h=>h) (Or.inl ⟨by rfl,?_⟩) hHeld ?_ ?_
         rotate_left
         ·rintro w' ⟨s0,s1,s2,s3,s4⟩
          go_simp
          with_reducible rfl
         rotate_left
         ·simp only [Act.put,sA_,sB_,sC_,i64_w,i32_w]
          rfl
         refine pure_ (i:=8) (N:=some 27) (v:=?_) (a':=?_) #[true,true,false,true,true,true,true,true,true,false,false,false,false,false,false,false] rfl rfl (any_of HT_.out (by kernel_rfl)) (fun _ _ _ h=>h) (Or.inl ⟨by rfl,?_⟩) ?_ ?_
         rotate_left
         ·intro w'
          go_simp
          with_reducible rfl
         rotate_left
         ·simp only [Act.put,sA_,sB_,sC_,i64_w,i32_w]
          rfl
         refine join_ (σ:=Value × Addr) 6 #[true,true,true,true,true,true,true,true,true,true,false,false,false,false,false,false] (fun s_=>[(21,s_.1),(28,.int .i64 t208)]) (fun s_ w'=>(w'.cell? ⟨gb203,0,none⟩=some (.bool a0_0)∧w'.cell? ⟨gb203,1,none⟩=some (.slice Ao20 x204001_1.length co20)∧w'.cell? ⟨gb201,0,none⟩=some (.bool a0_0)∧w'.cell? ⟨gb201,1,none⟩=some (.slice (some ad207) l0_1.length c0_1)∧w'.cell? (ad207.add (x4_1).toNat)=some (.string (rdOf ByteArray.empty l0_1 x4_1)))∧(Kd.R Kd.string 9 w' w.heap.size (fun k_=>some k_≠(.slice Ao20 x204001_1.length co20:Value).ownBlock) s_.1 y204)∧(Kd.R Kd.string 9 w' w.heap.size (fun k_=>some k_≠(s_.1:Value).ownBlock) (.slice Ao20 x204001_1.length co20) x204001_1)∧(∃ c_,(s_.1:Value)=.slice (some s_.2) y204.length c_)∧(w'.heap[gb201]? = some (.cells #[.bool a0_0,.slice (some ad207) l0_1.length c0_1] 38 (0,0)))∧(w'.heap[gb202]? = some (.cells #[.bool false,.slice none 0 0] 38 (0,0)))∧(w'.heap[gb203]? = some (.cells #[.bool a0_0,.slice Ao20 x204001_1.length co20] 38 (0,0)))∧(Below w.heap.size w w')) ?_ ?_
         rotate_left
         ·intro hCont
          refine two_ (i:=2) (j:=9) (Ni:=some 21) (Nj:=some 28) #[true,true,true,true,true,true,true,true,true,false,false,false,false,false,false,false] #[true,true,false,true,true,true,true,true,true,true,false,false,false,false,false,false] rfl rfl rfl rfl (two_of HT_.out (by kernel_rfl)) (by decide) (by decide) (fun K hK=>?_) (fun K hK=>?_)
          ·skip
           refine Kd.R_lit_step Kd.string _ 9 ?hg (N:=21) ?hd (xs:=([(⟨#[]⟩:ByteArray),(⟨#[97]⟩:ByteArray),(⟨#[98]⟩:ByteArray),(⟨#[99]⟩:ByteArray),(⟨#[100]⟩:ByteArray)]:List ByteArray)) (inner:=[.string (⟨#[]⟩:ByteArray),.string (⟨#[97]⟩:ByteArray),.string (⟨#[98]⟩:ByteArray),.string (⟨#[99]⟩:ByteArray),.string (⟨#[100]⟩:ByteArray)]) (ok:=fun _=>True) (okp:=fun _=>True) ?hr ?hp (fun _ hk=>hk) trivial (Below.refl _ _) (Nat.le_refl _) (by simp) ?_;(case hd=>rfl);(case hg=>rfl);(case hr=>first|(go_simp;done)|(go_simp;rfl));(case hp=>exact (Reps.one (show Kd.M Kd.string _ _ _ (⟨#[]⟩:ByteArray) [.string (⟨#[]⟩:ByteArray)] from rfl) (Reps.one (show Kd.M Kd.string _ _ _ (⟨#[97]⟩:ByteArray) [.string (⟨#[97]⟩:ByteArray)] from rfl) (Reps.one (show Kd.M Kd.string _ _ _ (⟨#[98]⟩:ByteArray) [.string (⟨#[98]⟩:ByteArray)] from rfl) (Reps.one (show Kd.M Kd.string _ _ _ (⟨#[99]⟩:ByteArray) [.string (⟨#[99]⟩:ByteArray)] from rfl) (Reps.one (show Kd.M Kd.string _ _ _ (⟨#[100]⟩:ByteArray) [.string (⟨#[100]⟩:ByteArray)] from rfl) (Reps.none _ _)))))))
           intro v205 w22 ho23 hb hg_ hnew_
           clear hg_ hnew_
           (first|rw [← Ny204.out] at ho23|(simp only [Int.reduceToNat] at ho23;rw [← Ny204.out] at ho23))
           have n0_:=Az.mk (Kd.R_elder' (by (with_reducible repeat (first|apply rA_|apply rN_|apply rD_));exact HO_204001.out) (Kd.R_base ho23) hb)
           have n1_:=Az.mk (Kd.R_lower (Kd.R_new' ho23 (Kd.R_lt (by (with_reducible repeat (first|apply rA_|apply rN_|apply rD_));exact HO_204001.out))) (be_ (by repeat (first|(with_reducible first|exact HB.out|apply bA_|apply bN_|apply bD_|refine bs_ ?_ GE201.out|refine bs_ ?_ GE202.out|refine bs_ ?_ GE203.out)|exact HB.out))))
           have n2_:=Az.mk (bb_ (g:=gb201) (o:=.cells #[.bool a0_0,.slice (some ad207) l0_1.length c0_1] 38 (0,0)) (by (with_reducible repeat (first|refine bq_ ?_ _|refine bw_ ?_|refine bz_ ?_ _));exact BK201.out) hb)
           have n3_:=Az.mk (bb_ (g:=gb202) (o:=.cells #[.bool false,.slice none 0 0] 38 (0,0)) (by (with_reducible repeat (first|refine bq_ ?_ _|refine bw_ ?_|refine bz_ ?_ _));exact BK202.out) hb)
           have n4_:=Az.mk (bb_ (g:=gb203) (o:=.cells #[.bool a0_0,.slice Ao20 x204001_1.length co20] 38 (0,0)) (by (with_reducible repeat (first|refine bq_ ?_ _|refine bw_ ?_|refine bz_ ?_ _));exact BK203.out) hb)
           have n5_:=Az.mk (below_step (by repeat (first|(with_reducible first|exact HB.out|apply bA_|apply bN_|apply bD_|refine bs_ ?_ GE201.out|refine bs_ ?_ GE202.out|refine bs_ ?_ GE203.out)|exact HB.out)) hb)
           clear HO_204001
           clear BK201
           clear BK202
           clear BK203
           clear HB
           have HO_204001:=n0_
           have HO206:=n1_
           have BK201:=n2_
           have BK202:=n3_
           have BK203:=n4_
           have HB:=n5_
           clear n0_ n1_ n2_ n3_ n4_ n5_
           clear hb ho23
           obtain ⟨Ao24,co24,eo24⟩:=Kd.R_slice HO206.out
           subst eo24
           obtain ⟨ado24,fo24,_⟩:=Kd.at_string (Kd.R_reads' HO206.out).2.2 0 (by decide) (by rw [Ny204.out];simp)
           cases fo24
           refine hK.out _ _ ⟨(bc_ BK203.out 0).trans rfl,(bc_ BK203.out 1).trans rfl,(bc_ BK201.out 0).trans rfl,(bc_ BK201.out 1).trans rfl,((HB.out.cell (World.block_lt_of_cell? w _ hw207_0)).trans hw207_0)⟩ (fun hHeld=>?_)
           clear hK K
           refine norm_ (a':=?_) ?_ ?_
           rotate_left
           ·show Act.put _ (some 21) _=_
            simp only [Act.put,sA_,sB_,sC_,i64_w,i32_w]
            rfl
           refine one_ (i:=9) (N:=some 28) #[true,true,true,true,true,true,true,true,true,true,false,false,false,false,false,false] rfl rfl (one_of HT_.out (by kernel_rfl)) (by decide) (fun K hK=>?_)
           refine goes_ Try.func44 (by kernel_rfl) rfl #[.int .i64 ((rdOf ByteArray.empty l0_1 x4_1).size:Int),.int .i64 5] (by rfl) rfl rfl (by (try simp only [List.map_toArray,List.map_cons,List.map_nil]);first|done|rfl|(simp only [List.length_drop,List.length_take];rfl)) ?_
           with_reducible refine (cadencelaw3_within.calls ((rdOf ByteArray.empty l0_1 x4_1).size:Int) 5 t208 _ A13.out).mono ?_
           rintro e w' ⟨rfl,⟨nd,rfl⟩⟩
           refine ⟨_,rfl,?_⟩
           refine hK.out _ _ ⟨(bc_ BK203.out 0).trans rfl,(bc_ BK203.out 1).trans rfl,(bc_ BK201.out 0).trans rfl,(bc_ BK201.out 1).trans rfl,((HB.out.cell (World.block_lt_of_cell? w _ hw207_0)).trans hw207_0)⟩ (fun hHeld=>?_)
           clear hK K
           refine norm_ (a':=?_) ?_ ?_
           rotate_left
           ·show Act.put _ (some 28) _=_
            simp only [Act.put,sA_,sB_,sC_,i64_w,i32_w]
            rfl
           exact norm_ (by simp only [putAll,Act.put,sA_,sB_,sC_]) (hCont (.slice (some ado24) y204.length co24,ado24) _ ⟨hHeld,(by (with_reducible repeat (first|apply rA_|apply rN_|apply rD_));exact Kd.R_mono HO206.out (fun _ hk=>hk.2)),(by (with_reducible repeat (first|apply rA_|apply rN_|apply rD_));exact Kd.R_mono HO_204001.out (fun _ hk=>hk.2)),⟨_,rfl⟩,(by (with_reducible repeat (first|refine bq_ ?_ _|refine bw_ ?_|refine bz_ ?_ _));exact BK201.out),(by (with_reducible repeat (first|refine bq_ ?_ _|refine bw_ ?_|refine bz_ ?_ _));exact BK202.out),(by (with_reducible repeat (first|refine bq_ ?_ _|refine bw_ ?_|refine bz_ ?_ _));exact BK203.out),(by repeat (first|(with_reducible first|exact HB.out|apply bA_|apply bN_|apply bD_|refine bs_ ?_ GE201.out|refine bs_ ?_ GE202.out|refine bs_ ?_ GE203.out)|exact HB.out))⟩)
          ·skip
           refine goes_ Try.func44 (by kernel_rfl) rfl #[.int .i64 ((rdOf ByteArray.empty l0_1 x4_1).size:Int),.int .i64 5] (by rfl) rfl rfl (by (try simp only [List.map_toArray,List.map_cons,List.map_nil]);first|done|rfl|(simp only [List.length_drop,List.length_take];rfl)) ?_
           with_reducible refine (cadencelaw3_within.calls ((rdOf ByteArray.empty l0_1 x4_1).size:Int) 5 t208 _ A13.out).mono ?_
           rintro e w' ⟨rfl,⟨nd,rfl⟩⟩
           refine ⟨_,rfl,?_⟩
           refine hK.out _ _ ⟨(bc_ BK203.out 0).trans rfl,(bc_ BK203.out 1).trans rfl,(bc_ BK201.out 0).trans rfl,(bc_ BK201.out 1).trans rfl,((HB.out.cell (World.block_lt_of_cell? w _ hw207_0)).trans hw207_0)⟩ (fun hHeld=>?_)
           clear hK K
           refine norm_ (a':=?_) ?_ ?_
           rotate_left
           ·show Act.put _ (some 28) _=_
            simp only [Act.put,sA_,sB_,sC_,i64_w,i32_w]
            rfl
           refine one_ (i:=2) (N:=some 21) #[true,true,true,true,true,true,true,true,true,true,false,false,false,false,false,false] rfl rfl (one_of HT_.out (by kernel_rfl)) (by decide) (fun K hK=>?_)
           refine Kd.R_lit_step Kd.string _ 9 ?hg (N:=21) ?hd (xs:=([(⟨#[]⟩:ByteArray),(⟨#[97]⟩:ByteArray),(⟨#[98]⟩:ByteArray),(⟨#[99]⟩:ByteArray),(⟨#[100]⟩:ByteArray)]:List ByteArray)) (inner:=[.string (⟨#[]⟩:ByteArray),.string (⟨#[97]⟩:ByteArray),.string (⟨#[98]⟩:ByteArray),.string (⟨#[99]⟩:ByteArray),.string (⟨#[100]⟩:ByteArray)]) (ok:=fun _=>True) (okp:=fun _=>True) ?hr ?hp (fun _ hk=>hk) trivial (Below.refl _ _) (Nat.le_refl _) (by simp) ?_;(case hd=>rfl);(case hg=>rfl);(case hr=>first|(go_simp;done)|(go_simp;rfl));(case hp=>exact (Reps.one (show Kd.M Kd.string _ _ _ (⟨#[]⟩:ByteArray) [.string (⟨#[]⟩:ByteArray)] from rfl) (Reps.one (show Kd.M Kd.string _ _ _ (⟨#[97]⟩:ByteArray) [.string (⟨#[97]⟩:ByteArray)] from rfl) (Reps.one (show Kd.M Kd.string _ _ _ (⟨#[98]⟩:ByteArray) [.string (⟨#[98]⟩:ByteArray)] from rfl) (Reps.one (show Kd.M Kd.string _ _ _ (⟨#[99]⟩:ByteArray) [.string (⟨#[99]⟩:ByteArray)] from rfl) (Reps.one (show Kd.M Kd.string _ _ _ (⟨#[100]⟩:ByteArray) [.string (⟨#[100]⟩:ByteArray)] from rfl) (Reps.none _ _)))))))
           intro v205 w22 ho23 hb hg_ hnew_
           clear hg_ hnew_
           (first|rw [← Ny204.out] at ho23|(simp only [Int.reduceToNat] at ho23;rw [← Ny204.out] at ho23))
           have n0_:=Az.mk (Kd.R_elder' (by (with_reducible repeat (first|apply rA_|apply rN_|apply rD_));exact HO_204001.out) (Kd.R_base ho23) hb)
           have n1_:=Az.mk (Kd.R_lower (Kd.R_new' ho23 (Kd.R_lt (by (with_reducible repeat (first|apply rA_|apply rN_|apply rD_));exact HO_204001.out))) (be_ (by repeat (first|(with_reducible first|exact HB.out|apply bA_|apply bN_|apply bD_|refine bs_ ?_ GE201.out|refine bs_ ?_ GE202.out|refine bs_ ?_ GE203.out)|exact HB.out))))
           have n2_:=Az.mk (bb_ (g:=gb201) (o:=.cells #[.bool a0_0,.slice (some ad207) l0_1.length c0_1] 38 (0,0)) (by (with_reducible repeat (first|refine bq_ ?_ _|refine bw_ ?_|refine bz_ ?_ _));exact BK201.out) hb)
           have n3_:=Az.mk (bb_ (g:=gb202) (o:=.cells #[.bool false,.slice none 0 0] 38 (0,0)) (by (with_reducible repeat (first|refine bq_ ?_ _|refine bw_ ?_|refine bz_ ?_ _));exact BK202.out) hb)
           have n4_:=Az.mk (bb_ (g:=gb203) (o:=.cells #[.bool a0_0,.slice Ao20 x204001_1.length co20] 38 (0,0)) (by (with_reducible repeat (first|refine bq_ ?_ _|refine bw_ ?_|refine bz_ ?_ _));exact BK203.out) hb)
           have n5_:=Az.mk (below_step (by repeat (first|(with_reducible first|exact HB.out|apply bA_|apply bN_|apply bD_|refine bs_ ?_ GE201.out|refine bs_ ?_ GE202.out|refine bs_ ?_ GE203.out)|exact HB.out)) hb)
           clear HO_204001
           clear BK201
           clear BK202
           clear BK203
           clear HB
           have HO_204001:=n0_
           have HO206:=n1_
           have BK201:=n2_
           have BK202:=n3_
           have BK203:=n4_
           have HB:=n5_
           clear n0_ n1_ n2_ n3_ n4_ n5_
           clear hb ho23
           obtain ⟨Ao24,co24,eo24⟩:=Kd.R_slice HO206.out
           subst eo24
           obtain ⟨ado24,fo24,_⟩:=Kd.at_string (Kd.R_reads' HO206.out).2.2 0 (by decide) (by rw [Ny204.out];simp)
           cases fo24
           refine hK.out _ _ ⟨(bc_ BK203.out 0).trans rfl,(bc_ BK203.out 1).trans rfl,(bc_ BK201.out 0).trans rfl,(bc_ BK201.out 1).trans rfl,((HB.out.cell (World.block_lt_of_cell? w _ hw207_0)).trans hw207_0)⟩ (fun hHeld=>?_)
           clear hK K
           refine norm_ (a':=?_) ?_ ?_
           rotate_left
           ·show Act.put _ (some 21) _=_
            simp only [Act.put,sA_,sB_,sC_,i64_w,i32_w]
            rfl
           exact norm_ (by simp only [putAll,Act.put,sA_,sB_,sC_]) (hCont (.slice (some ado24) y204.length co24,ado24) _ ⟨hHeld,(by (with_reducible repeat (first|apply rA_|apply rN_|apply rD_));exact Kd.R_mono HO206.out (fun _ hk=>hk.2)),(by (with_reducible repeat (first|apply rA_|apply rN_|apply rD_));exact Kd.R_mono HO_204001.out (fun _ hk=>hk.2)),⟨_,rfl⟩,(by (with_reducible repeat (first|refine bq_ ?_ _|refine bw_ ?_|refine bz_ ?_ _));exact BK201.out),(by (with_reducible repeat (first|refine bq_ ?_ _|refine bw_ ?_|refine bz_ ?_ _));exact BK202.out),(by (with_reducible repeat (first|refine bq_ ?_ _|refine bw_ ?_|refine bz_ ?_ _));exact BK203.out),(by repeat (first|(with_reducible first|exact HB.out|apply bA_|apply bN_|apply bD_|refine bs_ ?_ GE201.out|refine bs_ ?_ GE202.out|refine bs_ ?_ GE203.out)|exact HB.out))⟩)
         rintro ⟨v205,adz_v205⟩ w25 ⟨hS_,h0_,h1_,h2_,h3_,h4_,h5_,h6_⟩
         have n0_:Az (Kd.R Kd.string 9 w25 w.heap.size (fun k_=>some k_≠(.slice Ao20 x204001_1.length co20:Value).ownBlock) v205 y204):=⟨h0_⟩
         have n1_:Az (Kd.R Kd.string 9 w25 w.heap.size (fun k_=>some k_≠(v205:Value).ownBlock) (.slice Ao20 x204001_1.length co20) x204001_1):=⟨h1_⟩
         have n2_:Az (∃ c_,(v205:Value)=.slice (some adz_v205) y204.length c_):=⟨h2_⟩
         have n3_:Az (w25.heap[gb201]? = some (.cells #[.bool a0_0,.slice (some ad207) l0_1.length c0_1] 38 (0,0))):=⟨h3_⟩
         have n4_:Az (w25.heap[gb202]? = some (.cells #[.bool false,.slice none 0 0] 38 (0,0))):=⟨h4_⟩
         have n5_:Az (w25.heap[gb203]? = some (.cells #[.bool a0_0,.slice Ao20 x204001_1.length co20] 38 (0,0))):=⟨h5_⟩
         have n6_:Az (Below w.heap.size w w25):=⟨h6_⟩
         clear HO_204001
         clear BK201
         clear BK202
         clear BK203
         clear HB
         clear h0_ h1_ h2_ h3_ h4_ h5_ h6_
         have HO206:=n0_
         have HO_204001:=n1_
         have HA_HO206:=n2_
         have BK201:=n3_
         have BK202:=n4_
         have BK203:=n5_
         have HB:=n6_
         clear n0_ n1_ n2_ n3_ n4_ n5_ n6_
         have hHeld:w25.cell? ⟨gb203,0,none⟩=some (.bool a0_0)∧w25.cell? ⟨gb203,1,none⟩=some (.slice Ao20 x204001_1.length co20)∧w25.cell? ⟨gb201,0,none⟩=some (.bool a0_0)∧w25.cell? ⟨gb201,1,none⟩=some (.slice (some ad207) l0_1.length c0_1)∧w25.cell? (ad207.add (x4_1).toNat)=some (.string (rdOf ByteArray.empty l0_1 x4_1)):=hS_
         obtain ⟨co26,eo26⟩:=HA_HO206.out
         clear HA_HO206
         subst eo26
         refine norm_ (a':=?_) ?_ ?_
         rotate_left
         ·simp only [putAll,Act.put,sA_,sB_,sC_]
          rfl
         refine pure_ (i:=10) (N:=some 29) (v:=?_) (a':=?_) #[true,true,true,true,true,true,true,true,true,true,true,false,false,false,false,false] rfl rfl (any_of HT_.out (by kernel_rfl)) (fun _ _ _ h=>h) (Or.inl ⟨by rfl,?_⟩) ?_ ?_
         rotate_left
         ·intro w'
          go_simp
          with_reducible rfl
         rotate_left
         ·simp only [Act.put,sA_,sB_,sC_,i64_w,i32_w]
          rfl
         refine one_ (i:=11) (N:=some 30) #[true,true,true,true,true,true,true,true,true,true,true,true,false,false,false,false] rfl rfl (one_of HT_.out (by kernel_rfl)) (by decide) (fun K hK=>?_)
         (have p209:0≤(t208:Int):=of_decide_eq_true (by first|(with_reducible assumption)|assumption);have q209:t208 < (y204.length:Int):=of_decide_eq_true (by first|(with_reducible assumption)|assumption);obtain ⟨ad209,e209,hx209_0⟩:=Kd.at_string (Kd.R_reads' HO206.out).2.2 t208 p209 q209;obtain rfl:adz_v205=ad209:=(by injection e209))
         refine value_ (w1:=?_) (v:=?_) (by rfl) rfl ?_ ?_
         rotate_left 2
         ·go_simp
          constructor
          ·rfl
          ·rfl
         clear hx209_0
         refine hK.out _ _ ⟨(bc_ BK203.out 0).trans rfl,(bc_ BK203.out 1).trans rfl,(bc_ BK201.out 0).trans rfl,(bc_ BK201.out 1).trans rfl,((HB.out.cell (World.block_lt_of_cell? w _ hw207_0)).trans hw207_0)⟩ (fun hHeld=>?_)
         clear hK K
         refine norm_ (a':=?_) ?_ ?_
         rotate_left
         ·show Act.put _ (some 30) _=_
          simp only [Act.put,sA_,sB_,sC_,i64_w,i32_w]
          rfl
         refine one_ (i:=12) (N:=some 31) #[true,true,true,true,true,true,true,true,true,true,true,true,true,false,false,false] rfl rfl (one_of HT_.out (by kernel_rfl)) (by decide) (fun K hK=>?_)
         refine value_ (w1:=?_) (v:=?_) (by rfl) rfl ?_ ?_
         rotate_left 2
         ·go_simp
          constructor
          ·rfl
          ·rfl
         refine hK.out _ _ ⟨(bc_ (bz_ BK203.out _) 0).trans rfl,(bc_ (bz_ BK203.out _) 1).trans rfl,(bc_ (bz_ BK201.out _) 0).trans rfl,(bc_ (bz_ BK201.out _) 1).trans rfl,(World.cell?_alloc_lt _ _ _ (World.block_lt_of_cell? _ _ (((HB.out.cell (World.block_lt_of_cell? w _ hw207_0)).trans hw207_0)))).trans (((HB.out.cell (World.block_lt_of_cell? w _ hw207_0)).trans hw207_0))⟩ (fun hHeld=>?_)
         clear hK K
         refine norm_ (a':=?_) ?_ ?_
         rotate_left
         ·show Act.put _ (some 31) _=_
          simp only [Act.put,sA_,sB_,sC_,i64_w,i32_w]
          rfl
         refine one_ (i:=13) (N:=some 32) #[true,true,true,true,true,true,true,true,true,true,true,true,true,true,false,false] rfl rfl (one_of HT_.out (by kernel_rfl)) (by decide) (fun K hK=>?_)
         refine Kd.R_append_step Kd.string (w0:=w) w.heap.size (by rfl) (.tmp 20) (.tmp 31) 36 9 (.string ⟨#[]⟩) 16 rfl Try.underlying36 info9 rfl (by decide) (by omega) (.slice Ao20 x204001_1.length co20) x204001_1 (rdOf ByteArray.empty y204 t208) [.string (rdOf ByteArray.empty y204 t208)] (fun k_=>some k_≠(.slice (some adz_v205) y204.length co26:Value).ownBlock) (fun _=>False) rfl rfl ?aP (fun _ hk=>hk.elim) ?aF ?aO ?aB ?aS ?aL ?_
         (case aP=>exact rfl)
         (case aB=>exact (by repeat (first|(with_reducible first|exact HB.out|apply bA_|apply bN_|apply bD_|refine bs_ ?_ GE201.out|refine bs_ ?_ GE202.out|refine bs_ ?_ GE203.out)|exact HB.out)))
         (case aF=>exact (fun k_ hk=>Kd.fresh' (Kd.R_lt (by (with_reducible repeat (first|apply rA_|apply rN_|apply rD_));exact HO206.out)) k_ hk))
         (case aO=>exact (by (with_reducible repeat (first|apply rA_|apply rN_|apply rD_));exact HO_204001.out))
         (case aS=>exact (be_ (by repeat (first|(with_reducible first|exact HB.out|apply bA_|apply bN_|apply bD_|refine bs_ ?_ GE201.out|refine bs_ ?_ GE202.out|refine bs_ ?_ GE203.out)|exact HB.out))))
         (case aL=>have:=LMc16.out;omega)
         intro v211 w27 ho hb hg hat
         rw [← Ny210.out] at ho
         have n0_:=Az.mk (blk_grown (g:=gb201) (o:=.cells #[.bool a0_0,.slice (some ad207) l0_1.length c0_1] 38 (0,0)) (by (with_reducible repeat (first|refine bq_ ?_ _|refine bw_ ?_|refine bz_ ?_ _));exact BK201.out) hg (Kd.R_ne HO_204001.out BK201.out (by decide)))
         have n1_:=Az.mk (blk_grown (g:=gb202) (o:=.cells #[.bool false,.slice none 0 0] 38 (0,0)) (by (with_reducible repeat (first|refine bq_ ?_ _|refine bw_ ?_|refine bz_ ?_ _));exact BK202.out) hg (Kd.R_ne HO_204001.out BK202.out (by decide)))
         have n2_:=Az.mk (blk_grown (g:=gb203) (o:=.cells #[.bool a0_0,.slice Ao20 x204001_1.length co20] 38 (0,0)) (by (with_reducible repeat (first|refine bq_ ?_ _|refine bw_ ?_|refine bz_ ?_ _));exact BK203.out) hg (Kd.R_ne HO_204001.out BK203.out (by decide)))
         have n3_:=Az.mk (Kd.R_after (ok:=(fun _=>True)) (by (with_reducible repeat (first|apply rA_|apply rN_|apply rD_));exact Kd.R_mono HO206.out (fun _ hk=>⟨trivial,hk⟩)) hg hat)
         have n4_:=Az.mk (hb)
         have n5_:=Az.mk (ho)
         clear BK201
         clear BK202
         clear BK203
         clear HO206
         clear HB
         clear HO_204001
         have BK201:=n0_
         have BK202:=n1_
         have BK203:=n2_
         have HO206:=n3_
         have HB:=n4_
         have HO212:=n5_
         clear n0_ n1_ n2_ n3_ n4_ n5_
         clear ho hb hg hat
         obtain ⟨Ao28,co28,eo28⟩:=Kd.R_slice HO212.out
         (first|subst eo28|(injection eo28 with f1_ f2_ f3_;have f4_:=f1_.symm;have f5_:=f3_.symm;clear f1_ f2_ f3_;subst f4_;subst f5_))
         refine hK.out _ _ ⟨(bc_ BK203.out 0).trans rfl,(bc_ BK203.out 1).trans rfl,(bc_ BK201.out 0).trans rfl,(bc_ BK201.out 1).trans rfl,((HB.out.cell (World.block_lt_of_cell? w _ hw207_0)).trans hw207_0)⟩ (fun hHeld=>?_)
         clear hK K
         refine norm_ (a':=?_) ?_ ?_
         rotate_left
         ·show Act.put _ (some 32) _=_
          simp only [Act.put,sA_,sB_,sC_,i64_w,i32_w]
          rfl
         refine pure_ (i:=14) (N:=some 33) (v:=?_) (a':=?_) #[true,true,true,true,true,true,true,true,true,true,true,true,true,true,true,false] rfl rfl (any_of HT_.out (by kernel_rfl)) (fun _ _ _ h=>h) (Or.inl ⟨by rfl,?_⟩) ?_ ?_
         rotate_left
         ·intro w'
          go_simp
          with_reducible rfl
         rotate_left
         ·simp only [Act.put,sA_,sB_,sC_,i64_w,i32_w]
          rfl
         refine last_ (i:=15) (N:=none) #[true,true,true,true,true,true,true,true,true,true,true,true,true,true,true,true] rfl rfl (one_of HT_.out (by kernel_rfl)) (by decide) (fun K hK=>?_)
         have hs29:w27.cell? ⟨gb203,1,none⟩=some (.slice Ao20 x204001_1.length co20):=(bc_ BK203.out 1).trans rfl
         have hfs29:=bf_ BK203.out 1
         have hns29_0:=NB201_203.out
         have hns29_1:=NB202_203.out
         have hms29_0:=NB203_201.out
         have hms29_1:=NB203_202.out
         refine skip_ (w1:=?_) (by rfl) rfl ?_ ?_
         rotate_left
         ·go_simp
          rfl
         refine hK.out _ _ ?_
         clear hK K
         refine done_ (done_of HT_.out (by kernel_rfl)) ?_
         try go_wp2
         go_roundg k1
         case measure=>have:=HK1.out;omega
         case rel=>exact ⟨(wrap64 (x4_1+1)),(y210),(.slice Ao28 y210.length co28),(by first|rfl|(simp;done)|(simp [*];done)),H',⟨by have:=HK1.out;omega⟩,⟨by (with_reducible repeat (first|apply rA_|apply rN_|apply rD_));exact Kd.R_mono (Kd.R_far (p:=⟨gb203,1,none⟩) (Kd.R_types HO212.out BK203.out (by decide)) (fun _ hk=>hk.2) (.slice Ao28 y210.length co28)) (fun _ hk=>trivial)⟩,⟨by (with_reducible repeat (first|refine bq_ ?_ _|refine bw_ ?_|refine bz_ ?_ _));refine blk_far ?_ NB201_203.out _;(with_reducible repeat (first|refine bq_ ?_ _|refine bw_ ?_|refine bz_ ?_ _));exact BK201.out⟩,⟨by (with_reducible repeat (first|refine bq_ ?_ _|refine bw_ ?_|refine bz_ ?_ _));refine blk_far ?_ NB202_203.out _;(with_reducible repeat (first|refine bq_ ?_ _|refine bw_ ?_|refine bz_ ?_ _));exact BK202.out⟩,⟨by (with_reducible repeat (first|refine bq_ ?_ _|refine bw_ ?_|refine bz_ ?_ _));refine blk_put (cs:=#[.bool a0_0,.slice Ao20 x204001_1.length co20]) ?_ 1 _ rfl;(with_reducible repeat (first|refine bq_ ?_ _|refine bw_ ?_|refine bz_ ?_ _));exact BK203.out⟩,⟨by repeat (first|(with_reducible first|exact HB.out|apply bA_|apply bN_|apply bD_|refine bs_ ?_ GE201.out|refine bs_ ?_ GE202.out|refine bs_ ?_ GE203.out)|exact HB.out)⟩⟩
        ·rw [if_neg c16] at H
         exact absurd H (by simp)
       ·rw [if_neg c15] at H
        exact absurd H (by simp)
      ·rw [if_neg c14] at H
       exact absurd H (by simp)
     ·rw [if_neg c12] at H
      exact absurd H (by simp)
    ·rw [if_neg c11] at H
     have c11b0:decide (x4_1 < 6)=false:=decide_eq_false c11
     clear c11
     simp only [Option.some.injEq,Prod.mk.injEq] at H
     obtain ⟨rfl,rfl⟩:=H
     have hnb30:=NB201_202.out
     have hnc30:=NB202_201.out
     have hnb31:=NB201_203.out
     have hnc31:=NB203_201.out
     have hcz32_0:wr.cell? ⟨gb201,0,none⟩=some (.bool a0_0):=(bc_ BK201.out 0).trans rfl
     have hcz32_1:wr.cell? ⟨gb201,1,none⟩=some (.slice A0_1 l0_1.length c0_1):=(bc_ BK201.out 1).trans rfl
     have hfz32_0:=bf_ BK201.out 0
     have hfz32_1:=bf_ BK201.out 1
     have hnb33:=NB203_202.out
     have hnc33:=NB202_203.out
     have hcz34_0:wr.cell? ⟨gb203,0,none⟩=some (.bool a0_0):=(bc_ BK203.out 0).trans rfl
     have hcz34_1:wr.cell? ⟨gb203,1,none⟩=some (u204001):=(bc_ BK203.out 1).trans rfl
     have hfz34_0:=bf_ BK203.out 0
     have hfz34_1:=bf_ BK203.out 1
     have hcz35_0:wr.cell? ⟨gb202,0,none⟩=some (.bool false):=(bc_ BK202.out 0).trans rfl
     have hcz35_1:wr.cell? ⟨gb202,1,none⟩=some (.slice none 0 0):=(bc_ BK202.out 1).trans rfl
     have hfz35_0:=bf_ BK202.out 0
     have hfz35_1:=bf_ BK202.out 1
     obtain ⟨Ao36,co36,eo36⟩:=Kd.R_slice HO_204001.out
     subst eo36
     go_wp2
     refine bodyPost_ret (results_cell_row rfl _ _ gb202 38 #[.bool a0_0,.slice Ao36 x204001_1.length co36] (0,0) _ rfl (by (with_reducible repeat (first|refine bq_ ?_ _|refine bw_ ?_|refine bz_ ?_ _));refine blk_put (cs:=#[.bool a0_0,.slice none 0 0]) ?_ 1 _ rfl;(with_reducible repeat (first|refine bq_ ?_ _|refine bw_ ?_|refine bz_ ?_ _));refine blk_put (cs:=#[.bool false,.slice none 0 0]) ?_ 0 _ rfl;(with_reducible repeat (first|refine bq_ ?_ _|refine bw_ ?_|refine bz_ ?_ _));exact BK202.out) Try.underlying38 rfl (by kernel_rfl)) rfl ?_
     exact ⟨_,by first|rfl|(simp [errW_none,errW_some] <;> rfl)|(simp [*,errW_none,errW_some] <;> rfl),by (with_reducible repeat (first|apply rA_|apply rN_|apply rD_));exact Kd.R_mono (Kd.R_far (p:=⟨gb202,1,none⟩) (Kd.R_far (p:=⟨gb202,0,none⟩) (Kd.R_types HO_204001.out BK202.out (by decide)) (fun _ hk=>hk.2) (.bool a0_0)) (fun _ hk=>hk.2) (.slice Ao36 x204001_1.length co36)) (fun _ hk=>trivial),by repeat (first|(with_reducible first|exact HB.out|apply bA_|apply bN_|apply bD_|refine bs_ ?_ GE201.out|refine bs_ ?_ GE202.out|refine bs_ ?_ GE203.out)|exact HB.out)⟩
   ·rw [if_neg c10] at H
    have c10b0:decide (x4_1 < (l0_1.length:Int))=false:=decide_eq_false c10
    clear c10
    simp only [Option.some.injEq,Prod.mk.injEq] at H
    obtain ⟨rfl,rfl⟩:=H
    have hnb37:=NB201_202.out
    have hnc37:=NB202_201.out
    have hnb38:=NB201_203.out
    have hnc38:=NB203_201.out
    have hcz39_0:wr.cell? ⟨gb201,0,none⟩=some (.bool a0_0):=(bc_ BK201.out 0).trans rfl
    have hcz39_1:wr.cell? ⟨gb201,1,none⟩=some (.slice A0_1 l0_1.length c0_1):=(bc_ BK201.out 1).trans rfl
    have hfz39_0:=bf_ BK201.out 0
    have hfz39_1:=bf_ BK201.out 1
    have hnb40:=NB203_202.out
    have hnc40:=NB202_203.out
    have hcz41_0:wr.cell? ⟨gb203,0,none⟩=some (.bool a0_0):=(bc_ BK203.out 0).trans rfl
    have hcz41_1:wr.cell? ⟨gb203,1,none⟩=some (u204001):=(bc_ BK203.out 1).trans rfl
    have hfz41_0:=bf_ BK203.out 0
    have hfz41_1:=bf_ BK203.out 1
    have hcz42_0:wr.cell? ⟨gb202,0,none⟩=some (.bool false):=(bc_ BK202.out 0).trans rfl
    have hcz42_1:wr.cell? ⟨gb202,1,none⟩=some (.slice none 0 0):=(bc_ BK202.out 1).trans rfl
    have hfz42_0:=bf_ BK202.out 0
    have hfz42_1:=bf_ BK202.out 1
    obtain ⟨Ao43,co43,eo43⟩:=Kd.R_slice HO_204001.out
    subst eo43
    go_wp2
    refine bodyPost_ret (results_cell_row rfl _ _ gb202 38 #[.bool a0_0,.slice Ao43 x204001_1.length co43] (0,0) _ rfl (by (with_reducible repeat (first|refine bq_ ?_ _|refine bw_ ?_|refine bz_ ?_ _));refine blk_put (cs:=#[.bool a0_0,.slice none 0 0]) ?_ 1 _ rfl;(with_reducible repeat (first|refine bq_ ?_ _|refine bw_ ?_|refine bz_ ?_ _));refine blk_put (cs:=#[.bool false,.slice none 0 0]) ?_ 0 _ rfl;(with_reducible repeat (first|refine bq_ ?_ _|refine bw_ ?_|refine bz_ ?_ _));exact BK202.out) Try.underlying38 rfl (by kernel_rfl)) rfl ?_
    exact ⟨_,by first|rfl|(simp [errW_none,errW_some] <;> rfl)|(simp [*,errW_none,errW_some] <;> rfl),by (with_reducible repeat (first|apply rA_|apply rN_|apply rD_));exact Kd.R_mono (Kd.R_far (p:=⟨gb202,1,none⟩) (Kd.R_far (p:=⟨gb202,0,none⟩) (Kd.R_types HO_204001.out BK202.out (by decide)) (fun _ hk=>hk.2) (.bool a0_0)) (fun _ hk=>hk.2) (.slice Ao43 x204001_1.length co43)) (fun _ hk=>trivial),by repeat (first|(with_reducible first|exact HB.out|apply bA_|apply bN_|apply bD_|refine bs_ ?_ GE201.out|refine bs_ ?_ GE202.out|refine bs_ ?_ GE203.out)|exact HB.out)⟩
end Go.Proofs.Ytoihiehoolehiaa.PX
namespace Go.Proofs.Ytoihiehoolehiaa.PX
open Go.RowKit Go.Proofs.YtoihiehoolehiaaW.PrintWords Go.Proofs.YtoihiehoolehiaaW.PrintLast Go.Proofs.YtoihiehoolehiaaW.PrintMore
attribute [local go_sem] max2_int min2_int max_two min_two max_three min_three max_four min_four   
set_option linter.unusedVariables false
set_option linter.unusedSimpArgs false
attribute [local go_sem] run_field_87_0
def cadenceref3_Not.l0:Nat→Int→Bool→List ByteArray→Bool→List ByteArray→Option (Bool × List ByteArray)
 | 0,_,_,_,_,_=>none
 | k+1,x4,x214000,x214001,x216000,x216001=>if x4 < (x214001.length:Int) then (if 0≤x4 then ((cadenceref3_put.f k x216001 (rdOf ByteArray.empty x214001 x4)).bind fun t217=>(cadenceref3_Not.l0 k (wrap64 (x4+1)) x214000 x214001 x216000 t217)) else (none)) else (some (x216000,x216001))
def cadenceref3_Not.f (k:Nat) (a0_0:Bool) (l0_1:List ByteArray):Option (Bool × List ByteArray):=cadenceref3_Not.l0 k 0 a0_0 l0_1 (!a0_0) ([]:List ByteArray)
theorem cadenceref3_Not.mono_l:∀ k,(∀ y0 y1 y2 y3 y4,LeO (cadenceref3_Not.l0 k y0 y1 y2 y3 y4) (cadenceref3_Not.l0 (k+1) y0 y1 y2 y3 y4))
 | 0=>fun _ _ _ _ _ r h=>by simp [cadenceref3_Not.l0] at h
 | k+1=>by
  have ih0:=cadenceref3_Not.mono_l k
  ·intro y0 y1 y2 y3 y4
   unfold cadenceref3_Not.l0
   repeat' first
   | (with_reducible exact ih0 _ _ _ _ _)
   | (with_reducible exact cadenceref3_put.mono _ _ _)
   | (with_reducible exact LeO.refl _)
   | (with_reducible exact LeO.none _)
   | (with_reducible refine LeO.ite ?_ ?_)
   | (with_reducible refine LeO.bind ?_ (fun _=>?_))
   | exact ih0 _ _ _ _ _
   | exact cadenceref3_put.mono _ _ _
   | exact LeO.none _
   | refine LeO.ite ?_ ?_
   | refine LeO.bind ?_ (fun _=>?_)
theorem cadenceref3_Not.mono:∀ a0 a1 k,LeO (cadenceref3_Not.f k a0 a1) (cadenceref3_Not.f (k+1) a0 a1):=by
 intro a0 a1 k
 have ih0:=cadenceref3_Not.mono_l k
 unfold cadenceref3_Not.f
 repeat' first
   | (with_reducible exact ih0 _ _ _ _ _)
   | (with_reducible exact cadenceref3_put.mono _ _ _)
   | (with_reducible exact LeO.refl _)
   | (with_reducible exact LeO.none _)
   | (with_reducible refine LeO.ite ?_ ?_)
   | (with_reducible refine LeO.bind ?_ (fun _=>?_))
   | exact ih0 _ _ _ _ _
   | exact cadenceref3_put.mono _ _ _
   | exact LeO.none _
   | refine LeO.ite ?_ ?_
   | refine LeO.bind ?_ (fun _=>?_)
def cadenceref3_Not.T5:Bool × List (List Nat × List Nat):=(true,[([],[]),([0],[0]),([],[]),([2],[2]),([],[]),([3,4],[3,4]),([5],[5]),([1,6],[1,6]),([0,1,2,3,4,5,6,7],[]),([8,7,7,0,1,2,3,4,5,6,7],[7,8])])
def cadenceref3_Not.B5:List Nat:=[0,1,0,4,0,28,60,127,255,511]
theorem cadenceref3_Not.tab5:rtab .any (opsOf Try.f26 5)=cadenceref3_Not.T5:=by kernel_rfl
theorem cadenceref3_Not.bits5:waitsOk cadenceref3_Not.T5.2 cadenceref3_Not.B5=true:=by kernel_rfl
set_option maxHeartbeats 8000000 in
set_option maxRecDepth 100000 in
theorem cadenceref3_Not.calls (k:Nat) (a0_0:Bool) (A0_1:Option Addr) (c0_1:Nat) (l0_1:List ByteArray) (r1:Bool) (r2:List ByteArray) (w:World) (hr0_1:Kd.C Kd.string w A0_1 l0_1.length l0_1) (hc0_1:l0_1.length≤c0_1) (h:cadenceref3_Not.f k a0_0 l0_1=some (r1,r2)) :
  Calls Try.prog 26 #[.agg #[.bool a0_0,.slice A0_1 l0_1.length c0_1]] w fun e w'=>∃ v1_:Value,e=.returned (.agg #[.bool r1,v1_])∧Kd.R Kd.string 9 w' w.heap.size (fun _=>True) v1_ r2∧Below w.heap.size w w':=by
 have hu38:=Try.underlying38
 have HR0_1:=Az.mk hr0_1
 have HC0_1:=Az.mk hc0_1
 clear hr0_1 hc0_1
 have HB:=Az.mk (Below.refl w.heap.size w)
 have H:(cadenceref3_Not.l0 k 0 a0_0 l0_1 (!a0_0) ([]:List ByteArray))=some (r1,r2):=h
 clear h
 have H':=Az.mk H
 clear H
 go_enter Try.func26,Try.ntmps26
 go_wp2_with (first|((with_reducible refine gate_dst (N:=1) rfl ?_);refine box_event ?hg (N:=1) ?hd (cs:=#[.bool a0_0,.slice A0_1 l0_1.length c0_1]) (t:=38) ?hr ?_;(case hd=>rfl);(case hg=>rfl);(case hr=>first|(go_simp;done)|(go_simp;rfl));intro gb213 hg w2 hbox hb;have n0_:=Az.mk (below_step (by repeat (first|(with_reducible first|exact HB.out|apply bA_|apply bN_|apply bD_)|exact HB.out)) hb);have n1_:=Az.mk (hbox);have n2_:=Az.mk ((by rw [hg];exact (be_ (by repeat (first|(with_reducible first|exact HB.out|apply bA_|apply bN_|apply bD_)|exact HB.out))):w.heap.size≤gb213));have n3_:=Az.mk ((by rw [hg];exact (be_ (by repeat (first|(with_reducible first|exact HB.out|apply bA_|apply bN_|apply bD_)|exact HB.out))):w.heap.size≤gb213));clear HB;have HB:=n0_;have BK213:=n1_;have GW213:=n2_;have GE213:=n3_;clear n0_ n1_ n2_ n3_;clear hb hbox hg)|((with_reducible refine gate_dst (N:=2) rfl ?_);refine box_event ?hg (N:=2) ?hd (cs:=#[.bool false,.slice none 0 0]) (t:=38) ?hr ?_;(case hd=>rfl);(case hg=>rfl);(case hr=>first|(go_simp;done)|(go_simp;rfl));intro gb214 hg w3 hbox hb;have n0_:=Az.mk (bb_ (g:=gb213) (o:=.cells #[.bool a0_0,.slice A0_1 l0_1.length c0_1] 38 (0,0)) (by (with_reducible repeat (first|refine bq_ ?_ _|refine bw_ ?_|refine bz_ ?_ _));exact BK213.out) hb);have n1_:=Az.mk (below_step (by repeat (first|(with_reducible first|exact HB.out|apply bA_|apply bN_|apply bD_|refine bs_ ?_ GE213.out)|exact HB.out)) hb);have n2_:=Az.mk (hbox);have n3_:=Az.mk ((by rw [hg];exact (be_ (by repeat (first|(with_reducible first|exact HB.out|apply bA_|apply bN_|apply bD_|refine bs_ ?_ GE213.out)|exact HB.out))):w.heap.size≤gb214));have n4_:=Az.mk ((by rw [hg];exact (be_ (by repeat (first|(with_reducible first|exact HB.out|apply bA_|apply bN_|apply bD_|refine bs_ ?_ GE213.out)|exact HB.out))):w.heap.size≤gb214));have n5_:=Az.mk ((by rw [hg];exact Nat.ne_of_lt (blk_lt (g:=gb213) (o:=.cells #[.bool a0_0,.slice A0_1 l0_1.length c0_1] 38 (0,0)) (by (with_reducible repeat (first|refine bq_ ?_ _|refine bw_ ?_|refine bz_ ?_ _));exact BK213.out)):gb213≠gb214));have n6_:=Az.mk ((by rw [hg];exact Nat.ne_of_gt (blk_lt (g:=gb213) (o:=.cells #[.bool a0_0,.slice A0_1 l0_1.length c0_1] 38 (0,0)) (by (with_reducible repeat (first|refine bq_ ?_ _|refine bw_ ?_|refine bz_ ?_ _));exact BK213.out)):gb214≠gb213));clear BK213;clear HB;have BK213:=n0_;have HB:=n1_;have BK214:=n2_;have GW214:=n3_;have GE214:=n4_;have NB213_214:=n5_;have NB214_213:=n6_;clear n0_ n1_ n2_ n3_ n4_ n5_ n6_;clear hb hbox hg;have hnb4:=NB213_214.out;have hnc4:=NB214_213.out;have hcz5_0:w3.cell? ⟨gb213,0,none⟩=some (.bool a0_0):=(bc_ BK213.out 0).trans rfl;have hcz5_1:w3.cell? ⟨gb213,1,none⟩=some (.slice A0_1 l0_1.length c0_1):=(bc_ BK213.out 1).trans rfl;have hfz5_0:=bf_ BK213.out 0;have hfz5_1:=bf_ BK213.out 1)|((with_reducible refine gate_dst (N:=3) rfl ?_);refine box_event ?hg (N:=3) ?hd (cs:=#[.bool false,.slice none 0 0]) (t:=38) ?hr ?_;(case hd=>rfl);(case hg=>rfl);(case hr=>first|(go_simp;done)|(go_simp;rfl));intro gb215 hg w6 hbox hb;have n0_:=Az.mk (bb_ (g:=gb213) (o:=.cells #[.bool a0_0,.slice A0_1 l0_1.length c0_1] 38 (0,0)) (by (with_reducible repeat (first|refine bq_ ?_ _|refine bw_ ?_|refine bz_ ?_ _));exact BK213.out) hb);have n1_:=Az.mk (bb_ (g:=gb214) (o:=.cells #[.bool false,.slice none 0 0] 38 (0,0)) (by (with_reducible repeat (first|refine bq_ ?_ _|refine bw_ ?_|refine bz_ ?_ _));exact BK214.out) hb);have n2_:=Az.mk (below_step (by repeat (first|(with_reducible first|exact HB.out|apply bA_|apply bN_|apply bD_|refine bs_ ?_ GE213.out|refine bs_ ?_ GE214.out)|exact HB.out)) hb);have n3_:=Az.mk (hbox);have n4_:=Az.mk ((by rw [hg];exact (be_ (by repeat (first|(with_reducible first|exact HB.out|apply bA_|apply bN_|apply bD_|refine bs_ ?_ GE213.out|refine bs_ ?_ GE214.out)|exact HB.out))):w.heap.size≤gb215));have n5_:=Az.mk ((by rw [hg];exact (be_ (by repeat (first|(with_reducible first|exact HB.out|apply bA_|apply bN_|apply bD_|refine bs_ ?_ GE213.out|refine bs_ ?_ GE214.out)|exact HB.out))):w.heap.size≤gb215));have n6_:=Az.mk ((by rw [hg];exact Nat.ne_of_lt (blk_lt (g:=gb213) (o:=.cells #[.bool a0_0,.slice A0_1 l0_1.length c0_1] 38 (0,0)) (by (with_reducible repeat (first|refine bq_ ?_ _|refine bw_ ?_|refine bz_ ?_ _));exact BK213.out)):gb213≠gb215));have n7_:=Az.mk ((by rw [hg];exact Nat.ne_of_gt (blk_lt (g:=gb213) (o:=.cells #[.bool a0_0,.slice A0_1 l0_1.length c0_1] 38 (0,0)) (by (with_reducible repeat (first|refine bq_ ?_ _|refine bw_ ?_|refine bz_ ?_ _));exact BK213.out)):gb215≠gb213));have n8_:=Az.mk ((by rw [hg];exact Nat.ne_of_lt (blk_lt (g:=gb214) (o:=.cells #[.bool false,.slice none 0 0] 38 (0,0)) (by (with_reducible repeat (first|refine bq_ ?_ _|refine bw_ ?_|refine bz_ ?_ _));exact BK214.out)):gb214≠gb215));have n9_:=Az.mk ((by rw [hg];exact Nat.ne_of_gt (blk_lt (g:=gb214) (o:=.cells #[.bool false,.slice none 0 0] 38 (0,0)) (by (with_reducible repeat (first|refine bq_ ?_ _|refine bw_ ?_|refine bz_ ?_ _));exact BK214.out)):gb215≠gb214));clear BK213;clear BK214;clear HB;have BK213:=n0_;have BK214:=n1_;have HB:=n2_;have BK215:=n3_;have GW215:=n4_;have GE215:=n5_;have NB213_215:=n6_;have NB215_213:=n7_;have NB214_215:=n8_;have NB215_214:=n9_;clear n0_ n1_ n2_ n3_ n4_ n5_ n6_ n7_ n8_ n9_;clear hb hbox hg;have hnb7:=NB215_213.out;have hnc7:=NB213_215.out;have hnb8:=NB215_214.out;have hnc8:=NB214_215.out;have hcz9_0:w6.cell? ⟨gb215,0,none⟩=some (.bool false):=(bc_ BK215.out 0).trans rfl;have hcz9_1:w6.cell? ⟨gb215,1,none⟩=some (.slice none 0 0):=(bc_ BK215.out 1).trans rfl;have hfz9_0:=bf_ BK215.out 0;have hfz9_1:=bf_ BK215.out 1))
 go_loopg [4] k (fun kq v4 w'=>∃ (x4_1:Int) (x216001_1:List ByteArray) (u216001:Value),v4=.int .i64 x4_1∧Az (cadenceref3_Not.l0 kq x4_1 a0_0 l0_1 (!a0_0) x216001_1=some (r1,r2))∧Az (kq≤k)∧Az (Kd.R Kd.string 9 w' w.heap.size (fun _=>True) u216001 x216001_1)∧Az (w'.heap[gb213]? = some (.cells #[.bool a0_0,(.slice A0_1 l0_1.length c0_1)] 38 (0,0)))∧Az (w'.heap[gb214]? = some (.cells #[.bool false,(.slice none 0 0)] 38 (0,0)))∧Az (w'.heap[gb215]? = some (.cells #[.bool (!a0_0),u216001] 38 (0,0)))∧Az (Below w.heap.size w w'))
 case atStart=>exact ⟨(0),(([]:List ByteArray)),(.slice none 0 0),(by first|rfl|(simp;done)|(simp [*];done)),H',⟨Nat.le_refl _⟩,⟨by first|exact Kd.R_nil _ _ _ _ _|exact Kd.N_nil _ _ _ _ _|exact Kd.V_nil _ _ _ _ _|exact Kd.Q_nil _ _ _ _ _|exact Kd.S_nil _ _ _ _ _⟩,⟨by (with_reducible repeat (first|refine bq_ ?_ _|refine bw_ ?_|refine bz_ ?_ _));refine blk_far ?_ NB213_215.out _;(with_reducible repeat (first|refine bq_ ?_ _|refine bw_ ?_|refine bz_ ?_ _));refine blk_far ?_ NB213_215.out _;(with_reducible repeat (first|refine bq_ ?_ _|refine bw_ ?_|refine bz_ ?_ _));exact BK213.out⟩,⟨by (with_reducible repeat (first|refine bq_ ?_ _|refine bw_ ?_|refine bz_ ?_ _));refine blk_far ?_ NB214_215.out _;(with_reducible repeat (first|refine bq_ ?_ _|refine bw_ ?_|refine bz_ ?_ _));refine blk_far ?_ NB214_215.out _;(with_reducible repeat (first|refine bq_ ?_ _|refine bw_ ?_|refine bz_ ?_ _));exact BK214.out⟩,⟨by (with_reducible repeat (first|refine bq_ ?_ _|refine bw_ ?_|refine bz_ ?_ _));refine blk_put (cs:=#[.bool (!a0_0),.slice none 0 0]) ?_ 1 _ rfl;(with_reducible repeat (first|refine bq_ ?_ _|refine bw_ ?_|refine bz_ ?_ _));refine blk_put (cs:=#[.bool false,.slice none 0 0]) ?_ 0 _ rfl;(with_reducible repeat (first|refine bq_ ?_ _|refine bw_ ?_|refine bz_ ?_ _));exact BK215.out⟩,⟨by repeat (first|(with_reducible first|exact HB.out|apply bA_|apply bN_|apply bD_|refine bs_ ?_ GE213.out|refine bs_ ?_ GE214.out|refine bs_ ?_ GE215.out)|exact HB.out)⟩⟩
 case round =>
  clear H'
  try clear c2
  try clear p2
  try clear c4
  try clear c7
  try clear c8
  try clear hcz5_0
  try clear hcz5_1
  try clear hcz9_0
  try clear hcz9_1
  try clear hfz5_0
  try clear hfz5_1
  try clear hfz9_0
  try clear hfz9_1
  obtain ⟨x4_1,x216001_1,u216001,rfl,HA,HK1,HO_216001,BK213,BK214,BK215,HB⟩:=hrel
  cases gk with
  | zero=>exact absurd HA.out (by simp [cadenceref3_Not.l0])
  | succ k1 =>
   have H:=HA.out
   clear HA
   simp only [cadenceref3_Not.l0] at H
   by_cases c10:x4_1 < (l0_1.length:Int)
   ·rw [if_pos c10] at H
    have c10b0:decide (x4_1 < (l0_1.length:Int))=true:=decide_eq_true c10
    clear c10
    by_cases c11:0≤x4_1
    ·rw [if_pos c11] at H
     have c11b0:decide (0≤x4_1)=true:=decide_eq_true c11
     clear c11
     replace H:=Option.bind_eq_some_iff.mp H
     obtain ⟨t217,A120,H⟩:=H
     replace H:(cadenceref3_Not.l0 k1 (wrap64 (x4_1+1)) a0_0 l0_1 (!a0_0) t217)=some (r1,r2):=H
     have A12:=Az.mk A120
     clear A120
     have H':=Az.mk H
     clear H
     have hnb13:=NB213_214.out
     have hnc13:=NB214_213.out
     have hnb14:=NB213_215.out
     have hnc14:=NB215_213.out
     have hcz15_0:wr.cell? ⟨gb213,0,none⟩=some (.bool a0_0):=(bc_ BK213.out 0).trans rfl
     have hcz15_1:wr.cell? ⟨gb213,1,none⟩=some (.slice A0_1 l0_1.length c0_1):=(bc_ BK213.out 1).trans rfl
     have hfz15_0:=bf_ BK213.out 0
     have hfz15_1:=bf_ BK213.out 1
     try go_wp2
     have n0_:=Az.mk (rD_ HO_216001.out)
     have n1_:=Az.mk (bw_ BK213.out)
     have n2_:=Az.mk (bw_ BK214.out)
     have n3_:=Az.mk (bw_ BK215.out)
     have n4_:=Az.mk (bD_ HB.out)
     clear HO_216001
     clear BK213
     clear BK214
     clear BK215
     clear HB
     have HO_216001:=n0_
     have BK213:=n1_
     have BK214:=n2_
     have BK215:=n3_
     have HB:=n4_
     clear n0_ n1_ n2_ n3_ n4_
     have p216:0≤(x4_1:Int):=of_decide_eq_true (by first|(with_reducible assumption)|assumption)
     have q216:x4_1 < (l0_1.length:Int):=of_decide_eq_true (by first|(with_reducible assumption)|assumption)
     obtain ⟨ad216,e216,hx216_0⟩:=Kd.at_string HR0_1.out x4_1 p216 q216
     have hw216_0:=hx216_0
     cases e216
     replace hx216_0:=(HB.out.cell (World.block_lt_of_cell? w _ hx216_0)).trans hx216_0
     replace p216:=eq_true p216
     replace q216:=eq_true q216
     obtain ⟨Ao17,co17,eo17⟩:=Kd.R_slice HO_216001.out
     (first|subst eo17|(injection eo17 with f1_ f2_ f3_;have f4_:=f1_.symm;have f5_:=f3_.symm;clear f1_ f2_ f3_;subst f4_;subst f5_))
     refine start_ (n:=10) (S:=fun w'=>w'.cell? ⟨gb215,0,none⟩=some (.bool (!a0_0))∧w'.cell? ⟨gb215,1,none⟩=some (.slice Ao17 x216001_1.length co17)∧w'.cell? ⟨gb213,0,none⟩=some (.bool a0_0)∧w'.cell? ⟨gb213,1,none⟩=some (.slice (some ad216) l0_1.length c0_1)∧w'.cell? (ad216.add (x4_1).toNat)=some (.string (rdOf ByteArray.empty l0_1 x4_1))) (ds:=[9]) #[false,false,false,false,false,false,false,false,false,false] (by kernel_rfl) rfl rfl ⟨(bc_ BK215.out 0).trans rfl,(bc_ BK215.out 1).trans rfl,(bc_ BK213.out 0).trans rfl,(bc_ BK213.out 1).trans rfl,((HB.out.cell (World.block_lt_of_cell? w _ hw216_0)).trans hw216_0)⟩ (fun hHeld=>?_);refine with_tabW cadenceref3_Not.tab5 cadenceref3_Not.bits5 (fun HT_ HW_=>?_)
     generalize wr.drew=w16 at HO_216001 BK213 BK214 BK215 HB hx216_0 hHeld ⊢
     refine pure_ (i:=0) (N:=some 16) (v:=?_) (a':=?_) #[true,false,false,false,false,false,false,false,false,false] rfl rfl (any_of HT_.out (by kernel_rfl)) (fun _ _ _ h=>h) (Or.inl ⟨by rfl,?_⟩) ?_ ?_
     rotate_left
     ·intro w'
      go_simp
      with_reducible rfl
     rotate_left
     ·simp only [Act.put,sA_,sB_,sC_,i64_w,i32_w]
      rfl
     refine pure_ (i:=2) (N:=some 18) (v:=?_) (a':=?_) #[true,false,true,false,false,false,false,false,false,false] rfl rfl (any_of HT_.out (by kernel_rfl)) (fun _ _ _ h=>h) (Or.inl ⟨by rfl,?_⟩) ?_ ?_
     rotate_left
     ·intro w'
      go_simp
      with_reducible rfl
     rotate_left
     ·simp only [Act.put,sA_,sB_,sC_,i64_w,i32_w]
      rfl
     refine pure_ (i:=4) (N:=some 20) (v:=?_) (a':=?_) #[true,false,true,false,true,false,false,false,false,false] rfl rfl (any_of HT_.out (by kernel_rfl)) (fun _ _ _ h=>h) (Or.inl ⟨by rfl,?_⟩) ?_ ?_
     rotate_left
     ·intro w'
      go_simp
      with_reducible rfl
     rotate_left
     ·simp only [Act.put,sA_,sB_,sC_,i64_w,i32_w]
      rfl
     refine take_ (i:=1) (N:=some 17) (v:=?_) (a':=?_) #[true,true,true,false,true,false,false,false,false,false] rfl rfl (take_ofW HT_.out HW_.out (by kernel_rfl)) (fun _ _ _ h=>h) (Or.inl ⟨by rfl,?_⟩) hHeld ?_ ?_
     rotate_left
     ·rintro w' ⟨s0,s1,s2,s3,s4⟩
      go_simp
      with_reducible rfl
     rotate_left
     ·simp only [Act.put,sA_,sB_,sC_,i64_w,i32_w]
      rfl
     refine take_ (i:=3) (N:=some 19) (v:=?_) (a':=?_) #[true,true,true,true,true,false,false,false,false,false] rfl rfl (take_ofW HT_.out HW_.out (by kernel_rfl)) (fun _ _ _ h=>h) (Or.inl ⟨by rfl,?_⟩) hHeld ?_ ?_
     rotate_left
     ·rintro w' ⟨s0,s1,s2,s3,s4⟩
      go_simp
      with_reducible rfl
     rotate_left
     ·simp only [Act.put,sA_,sB_,sC_,i64_w,i32_w]
      rfl
     refine pure_ (i:=5) (N:=some 21) (v:=?_) (a':=?_) #[true,true,true,true,true,true,false,false,false,false] rfl rfl (any_of HT_.out (by kernel_rfl)) (fun _ _ _ h=>h) (Or.inl ⟨by rfl,?_⟩) ?_ ?_
     rotate_left
     ·intro w'
      go_simp
      with_reducible rfl
     rotate_left
     ·simp only [Act.put,sA_,sB_,sC_,i64_w,i32_w]
      rfl
     refine take_ (i:=6) (N:=some 22) (v:=?_) (a':=?_) #[true,true,true,true,true,true,true,false,false,false] rfl rfl (take_ofW HT_.out HW_.out (by kernel_rfl)) (fun _ _ _ h=>h) (Or.inl ⟨by rfl,?_⟩) hHeld ?_ ?_
     rotate_left
     ·rintro w' ⟨s0,s1,s2,s3,s4⟩
      go_simp
      with_reducible rfl
     rotate_left
     ·simp only [Act.put,sA_,sB_,sC_,i64_w,i32_w]
      rfl
     refine one_ (i:=7) (N:=some 23) #[true,true,true,true,true,true,true,true,false,false] rfl rfl (one_of HT_.out (by kernel_rfl)) (by decide) (fun K hK=>?_)
     refine goes_ Try.func45 (by kernel_rfl) rfl #[.slice Ao17 x216001_1.length co17,.string (rdOf ByteArray.empty l0_1 x4_1)] (by rfl) rfl rfl (by (try simp only [List.map_toArray,List.map_cons,List.map_nil]);first|done|rfl|(simp only [List.length_drop,List.length_take];rfl)) ?_
     with_reducible refine (cadenceref3_put.calls k1 (fun k_=>some k_=(.slice Ao17 x216001_1.length co17:Value).ownBlock) (.slice Ao17 x216001_1.length co17) x216001_1 (rdOf ByteArray.empty l0_1 x4_1) t217 w _ ?side1 ?side2 A12.out).mono ?_
     (case side1=>repeat (first|(with_reducible first|exact HB.out|apply bA_|apply bN_|apply bD_|refine bs_ ?_ GE213.out|refine bs_ ?_ GE214.out|refine bs_ ?_ GE215.out)|exact HB.out))
     (case side2=>exact Kd.R_tight rfl HO_216001.out)
     rintro e w18 ⟨v218,rfl,ho0,hb,hkp⟩
     refine ⟨_,rfl,?_⟩
     have n0_:=Az.mk (blk_kept (by (with_reducible repeat (first|refine bq_ ?_ _|refine bw_ ?_|refine bz_ ?_ _));exact BK213.out) hkp (fun hs_=>(fun e_=>(Kd.R_ne HO_216001.out BK213.out (by decide)) e_) hs_))
     have n1_:=Az.mk (blk_kept (by (with_reducible repeat (first|refine bq_ ?_ _|refine bw_ ?_|refine bz_ ?_ _));exact BK214.out) hkp (fun hs_=>(fun e_=>(Kd.R_ne HO_216001.out BK214.out (by decide)) e_) hs_))
     have n2_:=Az.mk (blk_kept (by (with_reducible repeat (first|refine bq_ ?_ _|refine bw_ ?_|refine bz_ ?_ _));exact BK215.out) hkp (fun hs_=>(fun e_=>(Kd.R_ne HO_216001.out BK215.out (by decide)) e_) hs_))
     have n3_:=Az.mk (Kd.R_mono (ok':=fun k_=>True) ho0 (fun k_ hk_=>trivial))
     have n4_:=Az.mk (hb)
     clear BK213
     clear BK214
     clear BK215
     clear HB
     clear HO_216001
     have BK213:=n0_
     have BK214:=n1_
     have BK215:=n2_
     have HO219:=n3_
     have HB:=n4_
     clear n0_ n1_ n2_ n3_ n4_
     (try clear hb)
     (try clear hkp)
     (try clear ho0)
     obtain ⟨Ao19,co19,eo19⟩:=Kd.R_slice HO219.out
     (first|subst eo19|(injection eo19 with f1_ f2_ f3_;have f4_:=f1_.symm;have f5_:=f3_.symm;clear f1_ f2_ f3_;subst f4_;subst f5_))
     refine hK.out _ _ ⟨(bc_ BK215.out 0).trans rfl,(bc_ BK215.out 1).trans rfl,(bc_ BK213.out 0).trans rfl,(bc_ BK213.out 1).trans rfl,((HB.out.cell (World.block_lt_of_cell? w _ hw216_0)).trans hw216_0)⟩ (fun hHeld=>?_)
     clear hK K
     refine norm_ (a':=?_) ?_ ?_
     rotate_left
     ·show Act.put _ (some 23) _=_
      simp only [Act.put,sA_,sB_,sC_,i64_w,i32_w]
      rfl
     refine pure_ (i:=8) (N:=some 24) (v:=?_) (a':=?_) #[true,true,true,true,true,true,true,true,true,false] rfl rfl (any_of HT_.out (by kernel_rfl)) (fun _ _ _ h=>h) (Or.inl ⟨by rfl,?_⟩) ?_ ?_
     rotate_left
     ·intro w'
      go_simp
      with_reducible rfl
     rotate_left
     ·simp only [Act.put,sA_,sB_,sC_,i64_w,i32_w]
      rfl
     refine last_ (i:=9) (N:=none) #[true,true,true,true,true,true,true,true,true,true] rfl rfl (one_of HT_.out (by kernel_rfl)) (by decide) (fun K hK=>?_)
     have hs20:w18.cell? ⟨gb215,1,none⟩=some (.slice Ao17 x216001_1.length co17):=(bc_ BK215.out 1).trans rfl
     have hfs20:=bf_ BK215.out 1
     have hns20_0:=NB213_215.out
     have hns20_1:=NB214_215.out
     have hms20_0:=NB215_213.out
     have hms20_1:=NB215_214.out
     refine skip_ (w1:=?_) (by rfl) rfl ?_ ?_
     rotate_left
     ·go_simp
      rfl
     refine hK.out _ _ ?_
     clear hK K
     refine done_ (done_of HT_.out (by kernel_rfl)) ?_
     try go_wp2
     go_roundg k1
     case measure=>have:=HK1.out;omega
     case rel=>exact ⟨(wrap64 (x4_1+1)),(t217),(.slice Ao19 t217.length co19),(by first|rfl|(simp;done)|(simp [*];done)),H',⟨by have:=HK1.out;omega⟩,⟨by (with_reducible repeat (first|apply rA_|apply rN_|apply rD_));exact Kd.R_mono (Kd.R_far (p:=⟨gb215,1,none⟩) (Kd.R_types HO219.out BK215.out (by decide)) (fun _ hk=>hk.2) (.slice Ao19 t217.length co19)) (fun _ hk=>trivial)⟩,⟨by (with_reducible repeat (first|refine bq_ ?_ _|refine bw_ ?_|refine bz_ ?_ _));refine blk_far ?_ NB213_215.out _;(with_reducible repeat (first|refine bq_ ?_ _|refine bw_ ?_|refine bz_ ?_ _));exact BK213.out⟩,⟨by (with_reducible repeat (first|refine bq_ ?_ _|refine bw_ ?_|refine bz_ ?_ _));refine blk_far ?_ NB214_215.out _;(with_reducible repeat (first|refine bq_ ?_ _|refine bw_ ?_|refine bz_ ?_ _));exact BK214.out⟩,⟨by (with_reducible repeat (first|refine bq_ ?_ _|refine bw_ ?_|refine bz_ ?_ _));refine blk_put (cs:=#[.bool (!a0_0),.slice Ao17 x216001_1.length co17]) ?_ 1 _ rfl;(with_reducible repeat (first|refine bq_ ?_ _|refine bw_ ?_|refine bz_ ?_ _));exact BK215.out⟩,⟨by repeat (first|(with_reducible first|exact HB.out|apply bA_|apply bN_|apply bD_|refine bs_ ?_ GE213.out|refine bs_ ?_ GE214.out|refine bs_ ?_ GE215.out)|exact HB.out)⟩⟩
    ·rw [if_neg c11] at H
     exact absurd H (by simp)
   ·rw [if_neg c10] at H
    have c10b0:decide (x4_1 < (l0_1.length:Int))=false:=decide_eq_false c10
    clear c10
    simp only [Option.some.injEq,Prod.mk.injEq] at H
    obtain ⟨rfl,rfl⟩:=H
    have hnb21:=NB213_214.out
    have hnc21:=NB214_213.out
    have hnb22:=NB213_215.out
    have hnc22:=NB215_213.out
    have hcz23_0:wr.cell? ⟨gb213,0,none⟩=some (.bool a0_0):=(bc_ BK213.out 0).trans rfl
    have hcz23_1:wr.cell? ⟨gb213,1,none⟩=some (.slice A0_1 l0_1.length c0_1):=(bc_ BK213.out 1).trans rfl
    have hfz23_0:=bf_ BK213.out 0
    have hfz23_1:=bf_ BK213.out 1
    have hnb24:=NB215_214.out
    have hnc24:=NB214_215.out
    have hcz25_0:wr.cell? ⟨gb215,0,none⟩=some (.bool (!a0_0)):=(bc_ BK215.out 0).trans rfl
    have hcz25_1:wr.cell? ⟨gb215,1,none⟩=some (u216001):=(bc_ BK215.out 1).trans rfl
    have hfz25_0:=bf_ BK215.out 0
    have hfz25_1:=bf_ BK215.out 1
    have hcz26_0:wr.cell? ⟨gb214,0,none⟩=some (.bool false):=(bc_ BK214.out 0).trans rfl
    have hcz26_1:wr.cell? ⟨gb214,1,none⟩=some (.slice none 0 0):=(bc_ BK214.out 1).trans rfl
    have hfz26_0:=bf_ BK214.out 0
    have hfz26_1:=bf_ BK214.out 1
    obtain ⟨Ao27,co27,eo27⟩:=Kd.R_slice HO_216001.out
    subst eo27
    go_wp2
    refine bodyPost_ret (results_cell_row rfl _ _ gb214 38 #[.bool (!a0_0),.slice Ao27 x216001_1.length co27] (0,0) _ rfl (by (with_reducible repeat (first|refine bq_ ?_ _|refine bw_ ?_|refine bz_ ?_ _));refine blk_put (cs:=#[.bool (!a0_0),.slice none 0 0]) ?_ 1 _ rfl;(with_reducible repeat (first|refine bq_ ?_ _|refine bw_ ?_|refine bz_ ?_ _));refine blk_put (cs:=#[.bool false,.slice none 0 0]) ?_ 0 _ rfl;(with_reducible repeat (first|refine bq_ ?_ _|refine bw_ ?_|refine bz_ ?_ _));exact BK214.out) Try.underlying38 rfl (by kernel_rfl)) rfl ?_
    exact ⟨_,by first|rfl|(simp [errW_none,errW_some] <;> rfl)|(simp [*,errW_none,errW_some] <;> rfl),by (with_reducible repeat (first|apply rA_|apply rN_|apply rD_));exact Kd.R_mono (Kd.R_far (p:=⟨gb214,1,none⟩) (Kd.R_far (p:=⟨gb214,0,none⟩) (Kd.R_types HO_216001.out BK214.out (by decide)) (fun _ hk=>hk.2) (.bool (!a0_0))) (fun _ hk=>hk.2) (.slice Ao27 x216001_1.length co27)) (fun _ hk=>trivial),by repeat (first|(with_reducible first|exact HB.out|apply bA_|apply bN_|apply bD_|refine bs_ ?_ GE213.out|refine bs_ ?_ GE214.out|refine bs_ ?_ GE215.out)|exact HB.out)⟩
end Go.Proofs.Ytoihiehoolehiaa.PX
