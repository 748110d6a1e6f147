/-
  The statement of 'SchemaKnown': the Go function returns true at every input, and its arguments read as before.
  Conditions: none.
-/
import Derived.Test.YtoihiehoolehiaaMSchemaKnown1
import Derived.Test.YtoihiehoolehiaaMSchemaKnown2
import Derived.Shelf.Abstract
import Derived.Test.YtoihiehoolehiaaRows
import Derived.WalkKit
import Derived.ProofKit
import Derived.OpenShut
import Derived.ShutString
import Derived.ChangeOld
import Derived.Below
import Derived.SizedLaws
namespace Go.Proofs.Ytoihiehoolehiaa.PX
open Go.RowKit Go.Proofs.YtoihiehoolehiaaW.PrintWords Go.Proofs.YtoihiehoolehiaaW.PrintLast Go.Proofs.YtoihiehoolehiaaW.PrintMore
attribute [local go_sem] max2_int min2_int max_two min_two max_three min_three max_four min_four   
set_option linter.unusedVariables false
set_option linter.unusedSimpArgs false
attribute [local go_sem] run_field_87_0
mutual
def schema_Check.l0:Nat→List (S33)→List (S33)→Int→Int→Option (Int)
 | 0,_,_,_,_=>none
 | k+1,x0,x16,x17,x18=>if x18 < x17 then (if 0≤x18 then (if x18 < (x16.length:Int) then (if (((rd_T33 x16 x18).f0).length:Int) > 6 then (some 4) else (schema_Check.l1 k x0 x16 x17 x18 ((rd_T33 x16 x18).f0) (((rd_T33 x16 x18).f0).length:Int) 0 ((rd_T33 x16 x18).f0) ((rd_T33 x16 x18).f1) ((rd_T33 x16 x18).f2))) else (none)) else (none)) else (some 0)
def schema_Check.l1:Nat→List (S33)→List (S33)→Int→Int→List (S40)→Int→Int→List (S40)→Bool→Bool→Option (Int)
 | 0,_,_,_,_,_,_,_,_,_,_=>none
 | k+1,x0,x16,x17,x18,x27,x28,x29,x103000,x103001,x103002=>if x29 < x28 then (if 0≤x29 then (if x29 < (x27.length:Int) then (if x29≤(x103000.length:Int) then ((schema_field.f x0 (x103000.take (x29:Int).toNat) ((rd_T40 x27 x29).f0.f0) ((rd_T40 x27 x29).f0.f1) ((rd_T40 x27 x29).f1) ((rd_T40 x27 x29).f2)).bind fun t109=>(if t109=0 then (schema_Check.l1 k x0 x16 x17 x18 x27 x28 (wrap64 (x29+1)) x103000 x103001 x103002) else (some t109))) else (none)) else (none)) else (none)) else (schema_Check.l0 k x0 x16 x17 (wrap64 (x18+1)))
end
def schema_Check.f (k:Nat) (l0:List (S33)):Option (Int):=if (l0.length:Int)=0 then (some 2) else (if (l0.length:Int) > 12 then (some 4) else (schema_Check.l0 k l0 l0 (l0.length:Int) 0))
theorem schema_Check.mono_l:∀ k,(∀ y0 y1 y2 y3,LeO (schema_Check.l0 k y0 y1 y2 y3) (schema_Check.l0 (k+1) y0 y1 y2 y3))∧(∀ y0 y1 y2 y3 y4 y5 y6 y7 y8 y9,LeO (schema_Check.l1 k y0 y1 y2 y3 y4 y5 y6 y7 y8 y9) (schema_Check.l1 (k+1) y0 y1 y2 y3 y4 y5 y6 y7 y8 y9))
 | 0=>⟨fun _ _ _ _ r h=>by simp [schema_Check.l0] at h,fun _ _ _ _ _ _ _ _ _ _ r h=>by simp [schema_Check.l1] at h⟩
 | k+1=>by
  obtain ⟨ih0,ih1⟩:=schema_Check.mono_l k
  refine ⟨?_,?_⟩
  ·intro y0 y1 y2 y3
   unfold schema_Check.l0
   repeat' first
   | (with_reducible exact ih0 _ _ _ _)
   | (with_reducible exact ih1 _ _ _ _ _ _ _ _ _ _)
   | (with_reducible exact LeO.refl _)
   | (with_reducible exact LeO.none _)
   | (with_reducible refine LeO.ite ?_ ?_)
   | (with_reducible refine LeO.bind ?_ (fun _=>?_))
   | exact ih0 _ _ _ _
   | exact ih1 _ _ _ _ _ _ _ _ _ _
   | exact LeO.none _
   | refine LeO.ite ?_ ?_
   | refine LeO.bind ?_ (fun _=>?_)
  ·intro y0 y1 y2 y3 y4 y5 y6 y7 y8 y9
   unfold schema_Check.l1
   repeat' first
   | (with_reducible exact ih0 _ _ _ _)
   | (with_reducible exact ih1 _ _ _ _ _ _ _ _ _ _)
   | (with_reducible exact LeO.refl _)
   | (with_reducible exact LeO.none _)
   | (with_reducible refine LeO.ite ?_ ?_)
   | (with_reducible refine LeO.bind ?_ (fun _=>?_))
   | exact ih0 _ _ _ _
   | exact ih1 _ _ _ _ _ _ _ _ _ _
   | exact LeO.none _
   | refine LeO.ite ?_ ?_
   | refine LeO.bind ?_ (fun _=>?_)
theorem schema_Check.mono:∀ a0 k,LeO (schema_Check.f k a0) (schema_Check.f (k+1) a0):=by
 intro a0 k
 obtain ⟨ih0,ih1⟩:=schema_Check.mono_l k
 unfold schema_Check.f
 repeat' first
   | (with_reducible exact ih0 _ _ _ _)
   | (with_reducible exact ih1 _ _ _ _ _ _ _ _ _ _)
   | (with_reducible exact LeO.refl _)
   | (with_reducible exact LeO.none _)
   | (with_reducible refine LeO.ite ?_ ?_)
   | (with_reducible refine LeO.bind ?_ (fun _=>?_))
   | exact ih0 _ _ _ _
   | exact ih1 _ _ _ _ _ _ _ _ _ _
   | exact LeO.none _
   | refine LeO.ite ?_ ?_
   | refine LeO.bind ?_ (fun _=>?_)
def schema_Check.T13:Bool × List (List Nat × List Nat):=(true,[([],[]),([],[]),([1],[1]),([],[]),([2,3],[2,3]),([],[]),([0,4,5],[0,4,5]),([6,6,0,1,2,3,4,5,6],[6])])
def schema_Check.B13:List Nat:=[0,0,2,0,14,0,63,127]
theorem schema_Check.tab13:rtab .any (opsOf Try.f11 13)=schema_Check.T13:=by kernel_rfl
theorem schema_Check.bits13:waitsOk schema_Check.T13.2 schema_Check.B13=true:=by kernel_rfl
set_option maxHeartbeats 8000000 in
set_option maxRecDepth 100000 in
theorem schema_Check.calls (k:Nat) (A0:Option Addr) (c0:Nat) (l0:List (S33)) (r:Int) (w:World) (hr0:Kd.C k33 w A0 l0.length l0) (hc0:l0.length≤c0) (h:schema_Check.f k l0=some r) :
  Calls Try.prog 11 #[.slice A0 l0.length c0] w fun e w'=>e=.returned (.int .i64 r)∧Below w.heap.size w w':=by
 have hu33:=Try.underlying33
 have hu40:=Try.underlying40
 have HR0:=Aside0.mk hr0
 have HC0:=Aside0.mk hc0
 clear hr0 hc0
 have HB:=Aside0.mk (Below.refl w.heap.size w)
 have H:(if (l0.length:Int)=0 then (some 2) else (if (l0.length:Int) > 12 then (some 4) else (schema_Check.l0 k l0 l0 (l0.length:Int) 0)))=some r:=h
 clear h
 by_cases c2:(l0.length:Int)=0
 ·rw [if_pos c2] at H
  have c2b0:((l0.length:Int) == 0)=true:=beq_iff_eq.mpr c2
  have c2b1:((l0.length:Int) != 0)=false:=bne_eq_false_iff_eq.mpr c2
  clear c2
  obtain rfl:=Option.some.inj H
  go_enter Try.func11,Try.ntmps11
  go_wp2
  go_ret
  exact ⟨by first|rfl|(simp [errW_none,errW_some] <;> rfl)|(simp [*,errW_none,errW_some] <;> rfl),by repeat (first|(with_reducible first|exact HB.out|apply bA_|apply bN_|apply bD_)|exact HB.out)⟩
 ·rw [if_neg c2] at H
  have c2b0:((l0.length:Int) == 0)=false:=beq_eq_false_iff_ne.mpr c2
  have c2b1:((l0.length:Int) != 0)=true:=bne_iff_ne.mpr c2
  have c2b2:¬ (l0 = []):=fun h_=>c2 (by rw [h_];rfl)
  by_cases c3:(l0.length:Int) > 12
  ·rw [if_pos c3] at H
   have c3b0:decide (12 < (l0.length:Int))=true:=decide_eq_true c3
   have c3b1:decide (12 < l0.length)=true:=decide_eq_true (by omega)
   clear c3
   obtain rfl:=Option.some.inj H
   go_enter Try.func11,Try.ntmps11
   go_wp2
   go_ret
   exact ⟨by first|rfl|(simp [errW_none,errW_some] <;> rfl)|(simp [*,errW_none,errW_some] <;> rfl),by repeat (first|(with_reducible first|exact HB.out|apply bA_|apply bN_|apply bD_)|exact HB.out)⟩
  ·rw [if_neg c3] at H
   have c3b0:decide (12 < (l0.length:Int))=false:=decide_eq_false c3
   have c3b1:decide (12 < l0.length)=false:=decide_eq_false (by omega)
   clear c3
   have H':=Aside0.mk H
   clear H
   go_enter Try.func11,Try.ntmps11
   go_wp2
   go_loopg [18] k (fun kq v18 w'=>∃ (x18_1:Int),v18=.int .i64 x18_1∧Aside0 (schema_Check.l0 kq l0 l0 (l0.length:Int) x18_1=some r)∧Aside0 (kq≤k)∧Aside0 (Below w.heap.size w w'))
   case atStart=>exact ⟨(0),(by first|rfl|(simp;done)|(simp [*];done)),H',⟨Nat.le_refl _⟩,⟨by repeat (first|(with_reducible first|exact HB.out|apply bA_|apply bN_|apply bD_)|exact HB.out)⟩⟩
   case round =>
    clear H'
    try clear c1
    try clear c2
    try clear c2b0
    try clear c2b1
    try clear c2b2
    try clear p2
    try clear c3
    try clear c3b0
    try clear c3b1
    obtain ⟨x18_1,rfl,HA,HK1,HB⟩:=hrel
    cases gk with
    | zero=>exact absurd HA.out (by simp [schema_Check.l0])
    | succ k1 =>
     have H:=HA.out
     clear HA
     simp only [schema_Check.l0] at H
     by_cases c4:x18_1 < (l0.length:Int)
     ·rw [if_pos c4] at H
      have c4b0:decide (x18_1 < (l0.length:Int))=true:=decide_eq_true c4
      clear c4
      by_cases c5:0≤x18_1
      ·rw [if_pos c5] at H
       have c5b0:decide (0≤x18_1)=true:=decide_eq_true c5
       clear c5
       by_cases c6:x18_1 < (l0.length:Int)
       ·rw [if_pos c6] at H
        have c6b0:decide (x18_1 < (l0.length:Int))=true:=decide_eq_true c6
        clear c6
        by_cases c7:(((rd_T33 l0 x18_1).f0).length:Int) > 6
        ·rw [if_pos c7] at H
         have c7b0:decide (6 < (((rd_T33 l0 x18_1).f0).length:Int))=true:=decide_eq_true c7
         have c7b1:decide (6 < ((rd_T33 l0 x18_1).f0).length)=true:=decide_eq_true (by omega)
         clear c7
         obtain rfl:=Option.some.inj H
         have p101:0≤(x18_1:Int):=of_decide_eq_true (by first|(with_reducible assumption)|assumption)
         have q101:x18_1 < (l0.length:Int):=of_decide_eq_true (by first|(with_reducible assumption)|assumption)
         obtain ⟨ad101,A101_0,c101_0,e101,hx101_0,hx101_1,hx101_2,hl101_0,hi101_0⟩:=at_T33 HR0.out x18_1 p101 q101
         cases e101
         replace hx101_0:=(HB.out.cell (World.block_lt_of_cell? w _ hx101_0)).trans hx101_0
         replace hx101_1:=(HB.out.cell (World.block_lt_of_cell? w _ hx101_1)).trans hx101_1
         replace hx101_2:=(HB.out.cell (World.block_lt_of_cell? w _ hx101_2)).trans hx101_2
         have HR101_0:=Aside0.mk hi101_0
         have HC101_0:=Aside0.mk hl101_0
         clear hi101_0 hl101_0
         replace p101:=eq_true p101
         replace q101:=eq_true q101
         go_wp2_with (first|((with_reducible refine gate_dst (N:=4) rfl ?_);refine box_event ?hg (N:=4) ?hd (cs:=#[.slice none 0 0,.bool false,.bool false]) (t:=33) ?hr ?_;(case hd=>rfl);(case hg=>rfl);(case hr=>first|(go_simp;done)|(go_simp;rfl));intro gb102 hg w8 hbox hb;have n0_:=Aside0.mk (below_step (by repeat (first|(with_reducible first|exact HB.out|apply bA_|apply bN_|apply bD_)|exact HB.out)) hb);have n1_:=Aside0.mk (hbox);have n2_:=Aside0.mk ((by rw [hg];exact (below_size (by repeat (first|(with_reducible first|exact HB.out|apply bA_|apply bN_|apply bD_)|exact HB.out))):w.heap.size≤gb102));have n3_:=Aside0.mk ((by rw [hg];exact (below_size (by repeat (first|(with_reducible first|exact HB.out|apply bA_|apply bN_|apply bD_)|exact HB.out))):w.heap.size≤gb102));clear HB;have HB:=n0_;have BK102:=n1_;have GW102:=n2_;have GE102:=n3_;clear n0_ n1_ n2_ n3_;clear hb hbox hg;have hcz9_0:w8.cell? ⟨gb102,0,none⟩=some (.slice none 0 0):=(blk_cell BK102.out 0).trans rfl;have hcz9_1:w8.cell? ⟨gb102,1,none⟩=some (.bool false):=(blk_cell BK102.out 1).trans rfl;have hcz9_2:w8.cell? ⟨gb102,2,none⟩=some (.bool false):=(blk_cell BK102.out 2).trans rfl;have hfz9_0:=blk_frozen BK102.out 0;have hfz9_1:=blk_frozen BK102.out 1;have hfz9_2:=blk_frozen BK102.out 2))
         go_ret
         exact ⟨by first|rfl|(simp [errW_none,errW_some] <;> rfl)|(simp [*,errW_none,errW_some] <;> rfl),by repeat (first|(with_reducible first|exact HB.out|apply bA_|apply bN_|apply bD_|refine below_set ?_ GE102.out)|exact HB.out)⟩
        ·rw [if_neg c7] at H
         have c7b0:decide (6 < (((rd_T33 l0 x18_1).f0).length:Int))=false:=decide_eq_false c7
         have c7b1:decide (6 < ((rd_T33 l0 x18_1).f0).length)=false:=decide_eq_false (by omega)
         clear c7
         have H':=Aside0.mk H
         clear H
         have p101:0≤(x18_1:Int):=of_decide_eq_true (by first|(with_reducible assumption)|assumption)
         have q101:x18_1 < (l0.length:Int):=of_decide_eq_true (by first|(with_reducible assumption)|assumption)
         obtain ⟨ad101,A101_0,c101_0,e101,hx101_0,hx101_1,hx101_2,hl101_0,hi101_0⟩:=at_T33 HR0.out x18_1 p101 q101
         cases e101
         replace hx101_0:=(HB.out.cell (World.block_lt_of_cell? w _ hx101_0)).trans hx101_0
         replace hx101_1:=(HB.out.cell (World.block_lt_of_cell? w _ hx101_1)).trans hx101_1
         replace hx101_2:=(HB.out.cell (World.block_lt_of_cell? w _ hx101_2)).trans hx101_2
         have HR101_0:=Aside0.mk hi101_0
         have HC101_0:=Aside0.mk hl101_0
         clear hi101_0 hl101_0
         replace p101:=eq_true p101
         replace q101:=eq_true q101
         go_wp2_with (first|((with_reducible refine gate_dst (N:=4) rfl ?_);refine box_event ?hg (N:=4) ?hd (cs:=#[.slice none 0 0,.bool false,.bool false]) (t:=33) ?hr ?_;(case hd=>rfl);(case hg=>rfl);(case hr=>first|(go_simp;done)|(go_simp;rfl));intro gb102 hg w10 hbox hb;have n0_:=Aside0.mk (below_step (by repeat (first|(with_reducible first|exact HB.out|apply bA_|apply bN_|apply bD_)|exact HB.out)) hb);have n1_:=Aside0.mk (hbox);have n2_:=Aside0.mk ((by rw [hg];exact (below_size (by repeat (first|(with_reducible first|exact HB.out|apply bA_|apply bN_|apply bD_)|exact HB.out))):w.heap.size≤gb102));have n3_:=Aside0.mk ((by rw [hg];exact (below_size (by repeat (first|(with_reducible first|exact HB.out|apply bA_|apply bN_|apply bD_)|exact HB.out))):w.heap.size≤gb102));clear HB;have HB:=n0_;have BK102:=n1_;have GW102:=n2_;have GE102:=n3_;clear n0_ n1_ n2_ n3_;clear hb hbox hg;have hcz11_0:w10.cell? ⟨gb102,0,none⟩=some (.slice none 0 0):=(blk_cell BK102.out 0).trans rfl;have hcz11_1:w10.cell? ⟨gb102,1,none⟩=some (.bool false):=(blk_cell BK102.out 1).trans rfl;have hcz11_2:w10.cell? ⟨gb102,2,none⟩=some (.bool false):=(blk_cell BK102.out 2).trans rfl;have hfz11_0:=blk_frozen BK102.out 0;have hfz11_1:=blk_frozen BK102.out 1;have hfz11_2:=blk_frozen BK102.out 2))
         go_loopg [29] k1 (fun kq v29 w'=>∃ (x29_2:Int),v29=.int .i64 x29_2∧Aside0 (schema_Check.l1 kq l0 l0 (l0.length:Int) x18_1 ((rd_T33 l0 x18_1).f0) (((rd_T33 l0 x18_1).f0).length:Int) x29_2 ((rd_T33 l0 x18_1).f0) ((rd_T33 l0 x18_1).f1) ((rd_T33 l0 x18_1).f2)=some r)∧Aside0 (kq≤k1)∧Aside0 (w'.heap[gb102]? = some (.cells #[(.slice A101_0 ((rd_T33 l0 x18_1).f0).length c101_0),.bool ((rd_T33 l0 x18_1).f1),.bool ((rd_T33 l0 x18_1).f2)] 33 (0,0)))∧Aside0 (Below w.heap.size w w'))
         case atStart=>exact ⟨(0),(by first|rfl|(simp;done)|(simp [*];done)),H',⟨Nat.le_refl _⟩,⟨by (with_reducible repeat (first|refine blk_drewN ?_ _|refine blk_drew ?_|refine blk_alloc ?_ _));refine blk_put (cs:=#[.slice A101_0 ((rd_T33 l0 x18_1).f0).length c101_0,.bool ((rd_T33 l0 x18_1).f1),.bool false]) ?_ 2 _ rfl;(with_reducible repeat (first|refine blk_drewN ?_ _|refine blk_drew ?_|refine blk_alloc ?_ _));refine blk_put (cs:=#[.slice A101_0 ((rd_T33 l0 x18_1).f0).length c101_0,.bool false,.bool false]) ?_ 1 _ rfl;(with_reducible repeat (first|refine blk_drewN ?_ _|refine blk_drew ?_|refine blk_alloc ?_ _));refine blk_put (cs:=#[.slice none 0 0,.bool false,.bool false]) ?_ 0 _ rfl;(with_reducible repeat (first|refine blk_drewN ?_ _|refine blk_drew ?_|refine blk_alloc ?_ _));exact BK102.out⟩,⟨by repeat (first|(with_reducible first|exact HB.out|apply bA_|apply bN_|apply bD_|refine below_set ?_ GE102.out)|exact HB.out)⟩⟩
         case round =>
          clear H'
          try clear c1
          try clear p1
          try clear q1
          try clear hx1
          try clear c2
          try clear c2b0
          try clear c2b1
          try clear c2b2
          try clear p2
          try clear c3
          try clear c3b0
          try clear c3b1
          try clear c4
          try clear c4b0
          try clear c5
          try clear c5b0
          try clear c6
          try clear c6b0
          try clear c7
          try clear c7b0
          try clear c7b1
          try clear c10
          try clear p10
          try clear q10
          try clear hx10
          try clear c11
          try clear hcz11_0
          try clear hcz11_1
          try clear hcz11_2
          try clear hcz9_0
          try clear hcz9_1
          try clear hcz9_2
          try clear hfz11_0
          try clear hfz11_1
          try clear hfz11_2
          try clear hfz9_0
          try clear hfz9_1
          try clear hfz9_2
          try clear hx101_0
          try clear hx101_1
          try clear hx101_2
          try clear p101
          try clear p2
          try clear q101
          obtain ⟨x29_2,rfl,HA,HK2,BK102,HB⟩:=hrel
          cases gk with
          | zero=>exact absurd HA.out (by simp [schema_Check.l1])
          | succ k2 =>
           have H:=HA.out
           clear HA
           simp only [schema_Check.l1] at H
           by_cases c12:x29_2 < (((rd_T33 l0 x18_1).f0).length:Int)
           ·rw [if_pos c12] at H
            have c12b0:decide (x29_2 < (((rd_T33 l0 x18_1).f0).length:Int))=true:=decide_eq_true c12
            clear c12
            by_cases c13:0≤x29_2
            ·rw [if_pos c13] at H
             have c13b0:decide (0≤x29_2)=true:=decide_eq_true c13
             clear c13
             by_cases c14:x29_2 < (((rd_T33 l0 x18_1).f0).length:Int)
             ·rw [if_pos c14] at H
              have c14b0:decide (x29_2 < (((rd_T33 l0 x18_1).f0).length:Int))=true:=decide_eq_true c14
              clear c14
              have c15b0:=eq_true (of_decide_eq_true (by first|(with_reducible assumption)|assumption):0≤x29_2)
              by_cases c16:x29_2≤(((rd_T33 l0 x18_1).f0).length:Int)
              ·rw [if_pos c16] at H
               have c16b0:=eq_true c16
               have c16b1:decide (x29_2≤(((rd_T33 l0 x18_1).f0).length:Int))=true:=decide_eq_true c16
               clear c16
               obtain ⟨y105,hy105⟩:∃ y_:List (S40),y_=(((rd_T33 l0 x18_1).f0).take (x29_2:Int).toNat):=⟨_,rfl⟩
               replace H:((schema_field.f l0 y105 ((rd_T40 ((rd_T33 l0 x18_1).f0) x29_2).f0.f0) ((rd_T40 ((rd_T33 l0 x18_1).f0) x29_2).f0.f1) ((rd_T40 ((rd_T33 l0 x18_1).f0) x29_2).f1) ((rd_T40 ((rd_T33 l0 x18_1).f0) x29_2).f2)).bind fun t109=>(if t109=0 then (schema_Check.l1 k2 l0 l0 (l0.length:Int) x18_1 ((rd_T33 l0 x18_1).f0) (((rd_T33 l0 x18_1).f0).length:Int) (wrap64 (x29_2+1)) ((rd_T33 l0 x18_1).f0) ((rd_T33 l0 x18_1).f1) ((rd_T33 l0 x18_1).f2)) else (some t109)))=some r:=by first|(rw [hy105];with_reducible exact H)|(have H2_:=(Option.bind_some _ _).symm.trans H;rw [hy105];with_reducible exact H2_)|(have H2_:=(Option.bind_some _ _).symm.trans H;with_reducible exact H2_)|with_reducible exact H|(rw [hy105];exact H)|exact H
               have Ny105:=Aside0.mk hy105
               clear hy105
               replace H:=Option.bind_eq_some_iff.mp H
               obtain ⟨t109,A170,H⟩:=H
               replace H:(if t109=0 then (schema_Check.l1 k2 l0 l0 (l0.length:Int) x18_1 ((rd_T33 l0 x18_1).f0) (((rd_T33 l0 x18_1).f0).length:Int) (wrap64 (x29_2+1)) ((rd_T33 l0 x18_1).f0) ((rd_T33 l0 x18_1).f1) ((rd_T33 l0 x18_1).f2)) else (some t109))=some r:=H
               have A17:=Aside0.mk A170
               clear A170
               by_cases c18:t109=0
               ·rw [if_pos c18] at H
                have c18b0:(t109 == 0)=true:=beq_iff_eq.mpr c18
                have c18b1:(t109 != 0)=false:=bne_eq_false_iff_eq.mpr c18
                clear c18
                have H':=Aside0.mk H
                clear H
                have p103:0≤(x29_2:Int):=of_decide_eq_true (by first|(with_reducible assumption)|assumption)
                have q103:x29_2 < (((rd_T33 l0 x18_1).f0).length:Int):=of_decide_eq_true (by first|(with_reducible assumption)|assumption)
                obtain ⟨ad103,A103_1,c103_1,e103,hx103_0,hx103_1,hx103_2,hx103_3,hl103_1,hi103_1⟩:=at_T40 HR101_0.out x29_2 p103 q103
                cases e103
                replace hx103_0:=(HB.out.cell (World.block_lt_of_cell? w _ hx103_0)).trans hx103_0
                replace hx103_1:=(HB.out.cell (World.block_lt_of_cell? w _ hx103_1)).trans hx103_1
                replace hx103_2:=(HB.out.cell (World.block_lt_of_cell? w _ hx103_2)).trans hx103_2
                replace hx103_3:=(HB.out.cell (World.block_lt_of_cell? w _ hx103_3)).trans hx103_3
                have HR103_1:=Aside0.mk hi103_1
                have HC103_1:=Aside0.mk hl103_1
                clear hi103_1 hl103_1
                replace p103:=eq_true p103
                replace q103:=eq_true q103
                try go_wp2_with (first|((with_reducible refine gate_dst (N:=6) rfl ?_);refine box_event ?hg (N:=6) ?hd (cs:=#[.bool false,.slice none 0 0,.int .i64 0,.bool false]) (t:=40) ?hr ?_;(case hd=>rfl);(case hg=>rfl);(case hr=>first|(go_simp;done)|(go_simp;rfl));intro gb104 hg w19 hbox hb;have n0_:=Aside0.mk (blk_below (g:=gb102) (o:=.cells #[.slice (some ad103) ((rd_T33 l0 x18_1).f0).length c101_0,.bool ((rd_T33 l0 x18_1).f1),.bool ((rd_T33 l0 x18_1).f2)] 33 (0,0)) (by (with_reducible repeat (first|refine blk_drewN ?_ _|refine blk_drew ?_|refine blk_alloc ?_ _));exact BK102.out) hb);have n1_:=Aside0.mk (below_step (by repeat (first|(with_reducible first|exact HB.out|apply bA_|apply bN_|apply bD_|refine below_set ?_ GE102.out)|exact HB.out)) hb);have n2_:=Aside0.mk (hbox);have n3_:=Aside0.mk ((by rw [hg];exact (below_size (by repeat (first|(with_reducible first|exact HB.out|apply bA_|apply bN_|apply bD_|refine below_set ?_ GE102.out)|exact HB.out))):w.heap.size≤gb104));have n4_:=Aside0.mk ((by rw [hg];exact (below_size (by repeat (first|(with_reducible first|exact HB.out|apply bA_|apply bN_|apply bD_|refine below_set ?_ GE102.out)|exact HB.out))):w.heap.size≤gb104));have n5_:=Aside0.mk ((by rw [hg];exact Nat.ne_of_lt (blk_lt (g:=gb102) (o:=.cells #[.slice (some ad103) ((rd_T33 l0 x18_1).f0).length c101_0,.bool ((rd_T33 l0 x18_1).f1),.bool ((rd_T33 l0 x18_1).f2)] 33 (0,0)) (by (with_reducible repeat (first|refine blk_drewN ?_ _|refine blk_drew ?_|refine blk_alloc ?_ _));exact BK102.out)):gb102≠gb104));have n6_:=Aside0.mk ((by rw [hg];exact Nat.ne_of_gt (blk_lt (g:=gb102) (o:=.cells #[.slice (some ad103) ((rd_T33 l0 x18_1).f0).length c101_0,.bool ((rd_T33 l0 x18_1).f1),.bool ((rd_T33 l0 x18_1).f2)] 33 (0,0)) (by (with_reducible repeat (first|refine blk_drewN ?_ _|refine blk_drew ?_|refine blk_alloc ?_ _));exact BK102.out)):gb104≠gb102));clear BK102;clear HB;have BK102:=n0_;have HB:=n1_;have BK104:=n2_;have GW104:=n3_;have GE104:=n4_;have NB102_104:=n5_;have NB104_102:=n6_;clear n0_ n1_ n2_ n3_ n4_ n5_ n6_;clear hb hbox hg;have hnb20:=NB104_102.out;have hnc20:=NB102_104.out;have hcz21_0:w19.cell? ⟨gb104,0,none⟩=some (.bool false):=(blk_cell BK104.out 0).trans rfl;have hcz21_1:w19.cell? ⟨gb104,1,none⟩=some (.slice none 0 0):=(blk_cell BK104.out 1).trans rfl;have hcz21_2:w19.cell? ⟨gb104,2,none⟩=some (.int .i64 0):=(blk_cell BK104.out 2).trans rfl;have hcz21_3:w19.cell? ⟨gb104,3,none⟩=some (.bool false):=(blk_cell BK104.out 3).trans rfl;have hfz21_0:=blk_frozen BK104.out 0;have hfz21_1:=blk_frozen BK104.out 1;have hfz21_2:=blk_frozen BK104.out 2;have hfz21_3:=blk_frozen BK104.out 3))
                have n0_:Aside0 (((((w19.setCell ⟨gb104,0,none⟩ (.bool ((rd_T40 ((rd_T33 l0 x18_1).f0) x29_2).f0.f0))).setCell ⟨gb104,1,none⟩ (.slice A103_1 ((rd_T40 ((rd_T33 l0 x18_1).f0) x29_2).f0.f1).length c103_1)).setCell ⟨gb104,2,none⟩ (.int .i64 ((rd_T40 ((rd_T33 l0 x18_1).f0) x29_2).f1))).setCell ⟨gb104,3,none⟩ (.bool ((rd_T40 ((rd_T33 l0 x18_1).f0) x29_2).f2))).heap[gb102]? = some (.cells #[.slice (some ad103) ((rd_T33 l0 x18_1).f0).length c101_0,.bool ((rd_T33 l0 x18_1).f1),.bool ((rd_T33 l0 x18_1).f2)] 33 (0,0))):=⟨by (with_reducible repeat (first|refine blk_drewN ?_ _|refine blk_drew ?_|refine blk_alloc ?_ _));refine blk_far ?_ NB102_104.out _;(with_reducible repeat (first|refine blk_drewN ?_ _|refine blk_drew ?_|refine blk_alloc ?_ _));refine blk_far ?_ NB102_104.out _;(with_reducible repeat (first|refine blk_drewN ?_ _|refine blk_drew ?_|refine blk_alloc ?_ _));refine blk_far ?_ NB102_104.out _;(with_reducible repeat (first|refine blk_drewN ?_ _|refine blk_drew ?_|refine blk_alloc ?_ _));refine blk_far ?_ NB102_104.out _;(with_reducible repeat (first|refine blk_drewN ?_ _|refine blk_drew ?_|refine blk_alloc ?_ _));exact BK102.out⟩
                have n1_:Aside0 (((((w19.setCell ⟨gb104,0,none⟩ (.bool ((rd_T40 ((rd_T33 l0 x18_1).f0) x29_2).f0.f0))).setCell ⟨gb104,1,none⟩ (.slice A103_1 ((rd_T40 ((rd_T33 l0 x18_1).f0) x29_2).f0.f1).length c103_1)).setCell ⟨gb104,2,none⟩ (.int .i64 ((rd_T40 ((rd_T33 l0 x18_1).f0) x29_2).f1))).setCell ⟨gb104,3,none⟩ (.bool ((rd_T40 ((rd_T33 l0 x18_1).f0) x29_2).f2))).heap[gb104]? = some (.cells #[.bool ((rd_T40 ((rd_T33 l0 x18_1).f0) x29_2).f0.f0),.slice A103_1 ((rd_T40 ((rd_T33 l0 x18_1).f0) x29_2).f0.f1).length c103_1,.int .i64 ((rd_T40 ((rd_T33 l0 x18_1).f0) x29_2).f1),.bool ((rd_T40 ((rd_T33 l0 x18_1).f0) x29_2).f2)] 40 (0,0))):=⟨by (with_reducible repeat (first|refine blk_drewN ?_ _|refine blk_drew ?_|refine blk_alloc ?_ _));refine blk_put (cs:=#[.bool ((rd_T40 ((rd_T33 l0 x18_1).f0) x29_2).f0.f0),.slice A103_1 ((rd_T40 ((rd_T33 l0 x18_1).f0) x29_2).f0.f1).length c103_1,.int .i64 ((rd_T40 ((rd_T33 l0 x18_1).f0) x29_2).f1),.bool false]) ?_ 3 _ rfl;(with_reducible repeat (first|refine blk_drewN ?_ _|refine blk_drew ?_|refine blk_alloc ?_ _));refine blk_put (cs:=#[.bool ((rd_T40 ((rd_T33 l0 x18_1).f0) x29_2).f0.f0),.slice A103_1 ((rd_T40 ((rd_T33 l0 x18_1).f0) x29_2).f0.f1).length c103_1,.int .i64 0,.bool false]) ?_ 2 _ rfl;(with_reducible repeat (first|refine blk_drewN ?_ _|refine blk_drew ?_|refine blk_alloc ?_ _));refine blk_put (cs:=#[.bool ((rd_T40 ((rd_T33 l0 x18_1).f0) x29_2).f0.f0),.slice none 0 0,.int .i64 0,.bool false]) ?_ 1 _ rfl;(with_reducible repeat (first|refine blk_drewN ?_ _|refine blk_drew ?_|refine blk_alloc ?_ _));refine blk_put (cs:=#[.bool false,.slice none 0 0,.int .i64 0,.bool false]) ?_ 0 _ rfl;(with_reducible repeat (first|refine blk_drewN ?_ _|refine blk_drew ?_|refine blk_alloc ?_ _));exact BK104.out⟩
                have n2_:Aside0 (Below w.heap.size w ((((w19.setCell ⟨gb104,0,none⟩ (.bool ((rd_T40 ((rd_T33 l0 x18_1).f0) x29_2).f0.f0))).setCell ⟨gb104,1,none⟩ (.slice A103_1 ((rd_T40 ((rd_T33 l0 x18_1).f0) x29_2).f0.f1).length c103_1)).setCell ⟨gb104,2,none⟩ (.int .i64 ((rd_T40 ((rd_T33 l0 x18_1).f0) x29_2).f1))).setCell ⟨gb104,3,none⟩ (.bool ((rd_T40 ((rd_T33 l0 x18_1).f0) x29_2).f2)))):=⟨by repeat (first|(with_reducible first|exact HB.out|apply bA_|apply bN_|apply bD_|refine below_set ?_ GE102.out|refine below_set ?_ GE104.out)|exact HB.out)⟩
                (try clear BK102)
                (try clear BK104)
                (try clear HB)
                generalize ((((w19.setCell ⟨gb104,0,none⟩ (.bool ((rd_T40 ((rd_T33 l0 x18_1).f0) x29_2).f0.f0))).setCell ⟨gb104,1,none⟩ (.slice A103_1 ((rd_T40 ((rd_T33 l0 x18_1).f0) x29_2).f0.f1).length c103_1)).setCell ⟨gb104,2,none⟩ (.int .i64 ((rd_T40 ((rd_T33 l0 x18_1).f0) x29_2).f1))).setCell ⟨gb104,3,none⟩ (.bool ((rd_T40 ((rd_T33 l0 x18_1).f0) x29_2).f2)))=w22 at n0_ n1_ n2_ ⊢
                have BK102:=n0_
                have BK104:=n1_
                have HB:=n2_
                clear n0_ n1_ n2_
                have n0_:=Aside0.mk (blk_drew BK102.out)
                have n1_:=Aside0.mk (blk_drew BK104.out)
                have n2_:=Aside0.mk (bD_ HB.out)
                clear BK102
                clear BK104
                clear HB
                have BK102:=n0_
                have BK104:=n1_
                have HB:=n2_
                clear n0_ n1_ n2_
                have q24:(x29_2:Int)≤((((rd_T33 l0 x18_1).f0).length:Int):Int):=of_decide_eq_true (by first|(with_reducible assumption)|assumption)
                obtain ⟨i024,hi024,_,hsz24,_⟩:=info_parts info40
                have hroom24:((rd_T33 l0 x18_1).f0).length≤c101_0:=HC101_0.out
                have hC24:Kd.C k40 _ (some ad103) ((rd_T33 l0 x18_1).f0).length ((rd_T33 l0 x18_1).f0):=HR101_0.out
                have hcut24:=cut_to (P:=Try.prog) 31 40 .i64 Try.underlying31 hi024 (some ad103) ((rd_T33 l0 x18_1).f0).length c101_0 x29_2 (of_decide_eq_true (by first|(with_reducible assumption)|assumption)) q24 hroom24
                have hr24:=Kd.C_take (m:=(x29_2:Int).toNat) hC24 (by omega)
                have hy24:y105.length=(x29_2:Int).toNat:=(by rw [Ny105.out,List.length_take];omega)
                rw [← Ny105.out] at hr24
                rw [← hy24] at hcut24
                have HR108:=Aside0.mk hr24
                have HC108:=Aside0.mk (show y105.length≤c101_0 from by omega)
                clear hr24 hC24 hroom24 hi024 hsz24
                have KY24:=Aside0.mk hy24
                clear hy24
                replace q24:=eq_true q24
                refine start_ (n:=8) (S:=fun w'=>w'.cell? ⟨gb102,0,none⟩=some (.slice (some ad103) ((rd_T33 l0 x18_1).f0).length c101_0)∧w'.cell? ⟨gb102,1,none⟩=some (.bool ((rd_T33 l0 x18_1).f1))∧w'.cell? ⟨gb102,2,none⟩=some (.bool ((rd_T33 l0 x18_1).f2))∧w'.cell? ⟨gb104,0,none⟩=some (.bool ((rd_T40 ((rd_T33 l0 x18_1).f0) x29_2).f0.f0))∧w'.cell? ⟨gb104,1,none⟩=some (.slice A103_1 ((rd_T40 ((rd_T33 l0 x18_1).f0) x29_2).f0.f1).length c103_1)∧w'.cell? ⟨gb104,2,none⟩=some (.int .i64 ((rd_T40 ((rd_T33 l0 x18_1).f0) x29_2).f1))∧w'.cell? ⟨gb104,3,none⟩=some (.bool ((rd_T40 ((rd_T33 l0 x18_1).f0) x29_2).f2))) (ds:=[]) #[false,false,false,false,false,false,false,false] (by kernel_rfl) rfl rfl ⟨(blk_cell BK102.out 0).trans rfl,(blk_cell BK102.out 1).trans rfl,(blk_cell BK102.out 2).trans rfl,(blk_cell BK104.out 0).trans rfl,(blk_cell BK104.out 1).trans rfl,(blk_cell BK104.out 2).trans rfl,(blk_cell BK104.out 3).trans rfl⟩ (fun hHeld=>?_);refine with_tabW schema_Check.tab13 schema_Check.bits13 (fun HT_ HW_=>?_)
                generalize w22.drew=w23 at BK102 BK104 HB HR108 hHeld ⊢
                refine pure_ (i:=0) (N:=some 34) (v:=?_) (a':=?_) #[true,false,false,false,false,false,false,false] rfl rfl (any_of HT_.out (by kernel_rfl)) (fun _ _ _ h=>h) (Or.inl ⟨by rfl,?_⟩) ?_ ?_
                rotate_left
                ·intro w'
                 go_simp
                 with_reducible rfl
                rotate_left
                ·simp only [Act.put,List.setIfInBounds_toArray,List.set_cons_zero,List.set_cons_succ,i64_w,i32_w]
                 rfl
                refine pure_ (i:=1) (N:=some 35) (v:=?_) (a':=?_) #[true,true,false,false,false,false,false,false] rfl rfl (any_of HT_.out (by kernel_rfl)) (fun _ _ _ h=>h) (Or.inl ⟨by rfl,?_⟩) ?_ ?_
                rotate_left
                ·intro w'
                 go_simp
                 with_reducible rfl
                rotate_left
                ·simp only [Act.put,List.setIfInBounds_toArray,List.set_cons_zero,List.set_cons_succ,i64_w,i32_w]
                 rfl
                refine pure_ (i:=3) (N:=some 37) (v:=?_) (a':=?_) #[true,true,false,true,false,false,false,false] rfl rfl (any_of HT_.out (by kernel_rfl)) (fun _ _ _ h=>h) (Or.inl ⟨by rfl,?_⟩) ?_ ?_
                rotate_left
                ·intro w'
                 go_simp
                 with_reducible rfl
                rotate_left
                ·simp only [Act.put,List.setIfInBounds_toArray,List.set_cons_zero,List.set_cons_succ,i64_w,i32_w]
                 rfl
                refine take_ (i:=2) (N:=some 36) (v:=?_) (a':=?_) #[true,true,true,true,false,false,false,false] rfl rfl (take_ofW HT_.out HW_.out (by kernel_rfl)) (fun _ _ _ h=>h) (Or.inl ⟨by rfl,?_⟩) hHeld ?_ ?_
                rotate_left
                ·rintro w' ⟨s0,s1,s2,s3,s4,s5,s6⟩
                 go_simp
                 with_reducible rfl
                rotate_left
                ·simp only [Act.put,List.setIfInBounds_toArray,List.set_cons_zero,List.set_cons_succ,i64_w,i32_w]
                 rfl
                refine pure_ (i:=4) (N:=some 38) (v:=?_) (a':=?_) #[true,true,true,true,true,false,false,false] rfl rfl (any_of HT_.out (by kernel_rfl)) (fun _ _ _ h=>h) (Or.inl ⟨by rfl,?_⟩) ?_ ?_
                rotate_left
                ·intro w'
                 go_simp
                 with_reducible rfl
                rotate_left
                ·simp only [Act.put,List.setIfInBounds_toArray,List.set_cons_zero,List.set_cons_succ,i64_w,i32_w]
                 rfl
                refine take_ (i:=5) (N:=some 39) (v:=?_) (a':=?_) #[true,true,true,true,true,true,false,false] rfl rfl (take_ofW HT_.out HW_.out (by kernel_rfl)) (fun _ _ _ h=>h) (Or.inl ⟨by rfl,?_⟩) hHeld ?_ ?_
                rotate_left
                ·rintro w' ⟨s0,s1,s2,s3,s4,s5,s6⟩
                 go_simp
                 with_reducible rfl
                rotate_left
                ·simp only [Act.put,List.setIfInBounds_toArray,List.set_cons_zero,List.set_cons_succ,i64_w,i32_w]
                 rfl
                refine one_ (i:=6) (N:=some 40) #[true,true,true,true,true,true,true,false] rfl rfl (one_of HT_.out (by kernel_rfl)) (by decide) (fun K hK=>?_)
                refine goes_ Try.func27 (by kernel_rfl) rfl #[.slice (some ad101) l0.length c0,.slice (some ad103) y105.length c101_0,.agg #[.bool ((rd_T40 ((rd_T33 l0 x18_1).f0) x29_2).f0.f0),.slice A103_1 ((rd_T40 ((rd_T33 l0 x18_1).f0) x29_2).f0.f1).length c103_1,.int .i64 ((rd_T40 ((rd_T33 l0 x18_1).f0) x29_2).f1),.bool ((rd_T40 ((rd_T33 l0 x18_1).f0) x29_2).f2)]] (by rfl) rfl rfl (by (try simp only [List.map_toArray,List.map_cons,List.map_nil]);first|done|rfl|(simp only [List.length_drop,List.length_take];rfl)) ?_
                with_reducible refine (schema_field.calls _ _ l0 _ _ y105 ((rd_T40 ((rd_T33 l0 x18_1).f0) x29_2).f0.f0) _ _ ((rd_T40 ((rd_T33 l0 x18_1).f0) x29_2).f0.f1) ((rd_T40 ((rd_T33 l0 x18_1).f0) x29_2).f1) ((rd_T40 ((rd_T33 l0 x18_1).f0) x29_2).f2) t109 _ ?side1 ?side2 ?side3 ?side4 ?side5 ?side6 A17.out).mono ?_
                (case side1=>repeat (first|exact (Kd.C_below HR0.out HB.out)|(with_reducible refine cA_ ?_ _)|(with_reducible refine cN_ ?_ _)|(with_reducible refine cD_ ?_)))
                (case side2=>exact HC0.out)
                (case side3=>repeat (first|exact (Kd.C_below HR108.out HB.out)|(with_reducible refine cA_ ?_ _)|(with_reducible refine cN_ ?_ _)|(with_reducible refine cD_ ?_)))
                (case side4=>exact HC108.out)
                (case side5=>repeat (first|exact (Kd.C_below HR103_1.out HB.out)|(with_reducible refine cA_ ?_ _)|(with_reducible refine cN_ ?_ _)|(with_reducible refine cD_ ?_)))
                (case side6=>exact HC103_1.out)
                rintro e w25 ⟨rfl,hb⟩
                refine ⟨_,rfl,?_⟩
                have n0_:=Aside0.mk (blk_below (g:=gb102) (o:=.cells #[.slice (some ad103) ((rd_T33 l0 x18_1).f0).length c101_0,.bool ((rd_T33 l0 x18_1).f1),.bool ((rd_T33 l0 x18_1).f2)] 33 (0,0)) (by (with_reducible repeat (first|refine blk_drewN ?_ _|refine blk_drew ?_|refine blk_alloc ?_ _));exact BK102.out) hb)
                have n1_:=Aside0.mk (blk_below (g:=gb104) (o:=.cells #[.bool ((rd_T40 ((rd_T33 l0 x18_1).f0) x29_2).f0.f0),.slice A103_1 ((rd_T40 ((rd_T33 l0 x18_1).f0) x29_2).f0.f1).length c103_1,.int .i64 ((rd_T40 ((rd_T33 l0 x18_1).f0) x29_2).f1),.bool ((rd_T40 ((rd_T33 l0 x18_1).f0) x29_2).f2)] 40 (0,0)) (by (with_reducible repeat (first|refine blk_drewN ?_ _|refine blk_drew ?_|refine blk_alloc ?_ _));exact BK104.out) hb)
                have n2_:=Aside0.mk (below_step (by repeat (first|(with_reducible first|exact HB.out|apply bA_|apply bN_|apply bD_|refine below_set ?_ GE102.out|refine below_set ?_ GE104.out)|exact HB.out)) hb)
                clear BK102
                clear BK104
                clear HB
                have BK102:=n0_
                have BK104:=n1_
                have HB:=n2_
                clear n0_ n1_ n2_
                (try clear hb)
                (try clear hb2)
                (try clear hk)
                (try clear hi)
                refine hK.out _ _ ⟨(blk_cell BK102.out 0).trans rfl,(blk_cell BK102.out 1).trans rfl,(blk_cell BK102.out 2).trans rfl,(blk_cell BK104.out 0).trans rfl,(blk_cell BK104.out 1).trans rfl,(blk_cell BK104.out 2).trans rfl,(blk_cell BK104.out 3).trans rfl⟩ (fun hHeld=>?_)
                clear hK K
                refine norm_ (a':=?_) ?_ ?_
                rotate_left
                ·show Act.put _ (some 40) _=_
                 simp only [Act.put,List.setIfInBounds_toArray,List.set_cons_zero,List.set_cons_succ,i64_w,i32_w]
                 rfl
                refine pure_ (i:=7) (N:=some 7) (v:=?_) (a':=?_) #[true,true,true,true,true,true,true,true] rfl rfl (any_of HT_.out (by kernel_rfl)) (fun _ _ _ h=>h) (Or.inl ⟨by rfl,?_⟩) ?_ ?_
                rotate_left
                ·intro w'
                 go_simp
                 with_reducible rfl
                rotate_left
                ·simp only [Act.put,List.setIfInBounds_toArray,List.set_cons_zero,List.set_cons_succ,i64_w,i32_w]
                 rfl
                refine done_ (done_of HT_.out (by kernel_rfl)) ?_
                try go_wp2
                go_roundg k2
                case measure=>have:=HK1.out;have:=HK2.out;omega
                case rel=>exact ⟨(wrap64 (x29_2+1)),(by first|rfl|(simp;done)|(simp [*];done)),H',⟨by have:=HK1.out;have:=HK2.out;omega⟩,⟨by (with_reducible repeat (first|refine blk_drewN ?_ _|refine blk_drew ?_|refine blk_alloc ?_ _));exact BK102.out⟩,⟨by repeat (first|(with_reducible first|exact HB.out|apply bA_|apply bN_|apply bD_|refine below_set ?_ GE102.out|refine below_set ?_ GE104.out)|exact HB.out)⟩⟩
               ·rw [if_neg c18] at H
                have c18b0:(t109 == 0)=false:=beq_eq_false_iff_ne.mpr c18
                have c18b1:(t109 != 0)=true:=bne_iff_ne.mpr c18
                obtain rfl:=Option.some.inj H
                have p103:0≤(x29_2:Int):=of_decide_eq_true (by first|(with_reducible assumption)|assumption)
                have q103:x29_2 < (((rd_T33 l0 x18_1).f0).length:Int):=of_decide_eq_true (by first|(with_reducible assumption)|assumption)
                obtain ⟨ad103,A103_1,c103_1,e103,hx103_0,hx103_1,hx103_2,hx103_3,hl103_1,hi103_1⟩:=at_T40 HR101_0.out x29_2 p103 q103
                cases e103
                replace hx103_0:=(HB.out.cell (World.block_lt_of_cell? w _ hx103_0)).trans hx103_0
                replace hx103_1:=(HB.out.cell (World.block_lt_of_cell? w _ hx103_1)).trans hx103_1
                replace hx103_2:=(HB.out.cell (World.block_lt_of_cell? w _ hx103_2)).trans hx103_2
                replace hx103_3:=(HB.out.cell (World.block_lt_of_cell? w _ hx103_3)).trans hx103_3
                have HR103_1:=Aside0.mk hi103_1
                have HC103_1:=Aside0.mk hl103_1
                clear hi103_1 hl103_1
                replace p103:=eq_true p103
                replace q103:=eq_true q103
                try go_wp2_with (first|((with_reducible refine gate_dst (N:=6) rfl ?_);refine box_event ?hg (N:=6) ?hd (cs:=#[.bool false,.slice none 0 0,.int .i64 0,.bool false]) (t:=40) ?hr ?_;(case hd=>rfl);(case hg=>rfl);(case hr=>first|(go_simp;done)|(go_simp;rfl));intro gb104 hg w26 hbox hb;have n0_:=Aside0.mk (blk_below (g:=gb102) (o:=.cells #[.slice (some ad103) ((rd_T33 l0 x18_1).f0).length c101_0,.bool ((rd_T33 l0 x18_1).f1),.bool ((rd_T33 l0 x18_1).f2)] 33 (0,0)) (by (with_reducible repeat (first|refine blk_drewN ?_ _|refine blk_drew ?_|refine blk_alloc ?_ _));exact BK102.out) hb);have n1_:=Aside0.mk (below_step (by repeat (first|(with_reducible first|exact HB.out|apply bA_|apply bN_|apply bD_|refine below_set ?_ GE102.out)|exact HB.out)) hb);have n2_:=Aside0.mk (hbox);have n3_:=Aside0.mk ((by rw [hg];exact (below_size (by repeat (first|(with_reducible first|exact HB.out|apply bA_|apply bN_|apply bD_|refine below_set ?_ GE102.out)|exact HB.out))):w.heap.size≤gb104));have n4_:=Aside0.mk ((by rw [hg];exact (below_size (by repeat (first|(with_reducible first|exact HB.out|apply bA_|apply bN_|apply bD_|refine below_set ?_ GE102.out)|exact HB.out))):w.heap.size≤gb104));have n5_:=Aside0.mk ((by rw [hg];exact Nat.ne_of_lt (blk_lt (g:=gb102) (o:=.cells #[.slice (some ad103) ((rd_T33 l0 x18_1).f0).length c101_0,.bool ((rd_T33 l0 x18_1).f1),.bool ((rd_T33 l0 x18_1).f2)] 33 (0,0)) (by (with_reducible repeat (first|refine blk_drewN ?_ _|refine blk_drew ?_|refine blk_alloc ?_ _));exact BK102.out)):gb102≠gb104));have n6_:=Aside0.mk ((by rw [hg];exact Nat.ne_of_gt (blk_lt (g:=gb102) (o:=.cells #[.slice (some ad103) ((rd_T33 l0 x18_1).f0).length c101_0,.bool ((rd_T33 l0 x18_1).f1),.bool ((rd_T33 l0 x18_1).f2)] 33 (0,0)) (by (with_reducible repeat (first|refine blk_drewN ?_ _|refine blk_drew ?_|refine blk_alloc ?_ _));exact BK102.out)):gb104≠gb102));clear BK102;clear HB;have BK102:=n0_;have HB:=n1_;have BK104:=n2_;have GW104:=n3_;have GE104:=n4_;have NB102_104:=n5_;have NB104_102:=n6_;clear n0_ n1_ n2_ n3_ n4_ n5_ n6_;clear hb hbox hg;have hnb27:=NB104_102.out;have hnc27:=NB102_104.out;have hcz28_0:w26.cell? ⟨gb104,0,none⟩=some (.bool false):=(blk_cell BK104.out 0).trans rfl;have hcz28_1:w26.cell? ⟨gb104,1,none⟩=some (.slice none 0 0):=(blk_cell BK104.out 1).trans rfl;have hcz28_2:w26.cell? ⟨gb104,2,none⟩=some (.int .i64 0):=(blk_cell BK104.out 2).trans rfl;have hcz28_3:w26.cell? ⟨gb104,3,none⟩=some (.bool false):=(blk_cell BK104.out 3).trans rfl;have hfz28_0:=blk_frozen BK104.out 0;have hfz28_1:=blk_frozen BK104.out 1;have hfz28_2:=blk_frozen BK104.out 2;have hfz28_3:=blk_frozen BK104.out 3))
                have n0_:Aside0 (((((w26.setCell ⟨gb104,0,none⟩ (.bool ((rd_T40 ((rd_T33 l0 x18_1).f0) x29_2).f0.f0))).setCell ⟨gb104,1,none⟩ (.slice A103_1 ((rd_T40 ((rd_T33 l0 x18_1).f0) x29_2).f0.f1).length c103_1)).setCell ⟨gb104,2,none⟩ (.int .i64 ((rd_T40 ((rd_T33 l0 x18_1).f0) x29_2).f1))).setCell ⟨gb104,3,none⟩ (.bool ((rd_T40 ((rd_T33 l0 x18_1).f0) x29_2).f2))).heap[gb102]? = some (.cells #[.slice (some ad103) ((rd_T33 l0 x18_1).f0).length c101_0,.bool ((rd_T33 l0 x18_1).f1),.bool ((rd_T33 l0 x18_1).f2)] 33 (0,0))):=⟨by (with_reducible repeat (first|refine blk_drewN ?_ _|refine blk_drew ?_|refine blk_alloc ?_ _));refine blk_far ?_ NB102_104.out _;(with_reducible repeat (first|refine blk_drewN ?_ _|refine blk_drew ?_|refine blk_alloc ?_ _));refine blk_far ?_ NB102_104.out _;(with_reducible repeat (first|refine blk_drewN ?_ _|refine blk_drew ?_|refine blk_alloc ?_ _));refine blk_far ?_ NB102_104.out _;(with_reducible repeat (first|refine blk_drewN ?_ _|refine blk_drew ?_|refine blk_alloc ?_ _));refine blk_far ?_ NB102_104.out _;(with_reducible repeat (first|refine blk_drewN ?_ _|refine blk_drew ?_|refine blk_alloc ?_ _));exact BK102.out⟩
                have n1_:Aside0 (((((w26.setCell ⟨gb104,0,none⟩ (.bool ((rd_T40 ((rd_T33 l0 x18_1).f0) x29_2).f0.f0))).setCell ⟨gb104,1,none⟩ (.slice A103_1 ((rd_T40 ((rd_T33 l0 x18_1).f0) x29_2).f0.f1).length c103_1)).setCell ⟨gb104,2,none⟩ (.int .i64 ((rd_T40 ((rd_T33 l0 x18_1).f0) x29_2).f1))).setCell ⟨gb104,3,none⟩ (.bool ((rd_T40 ((rd_T33 l0 x18_1).f0) x29_2).f2))).heap[gb104]? = some (.cells #[.bool ((rd_T40 ((rd_T33 l0 x18_1).f0) x29_2).f0.f0),.slice A103_1 ((rd_T40 ((rd_T33 l0 x18_1).f0) x29_2).f0.f1).length c103_1,.int .i64 ((rd_T40 ((rd_T33 l0 x18_1).f0) x29_2).f1),.bool ((rd_T40 ((rd_T33 l0 x18_1).f0) x29_2).f2)] 40 (0,0))):=⟨by (with_reducible repeat (first|refine blk_drewN ?_ _|refine blk_drew ?_|refine blk_alloc ?_ _));refine blk_put (cs:=#[.bool ((rd_T40 ((rd_T33 l0 x18_1).f0) x29_2).f0.f0),.slice A103_1 ((rd_T40 ((rd_T33 l0 x18_1).f0) x29_2).f0.f1).length c103_1,.int .i64 ((rd_T40 ((rd_T33 l0 x18_1).f0) x29_2).f1),.bool false]) ?_ 3 _ rfl;(with_reducible repeat (first|refine blk_drewN ?_ _|refine blk_drew ?_|refine blk_alloc ?_ _));refine blk_put (cs:=#[.bool ((rd_T40 ((rd_T33 l0 x18_1).f0) x29_2).f0.f0),.slice A103_1 ((rd_T40 ((rd_T33 l0 x18_1).f0) x29_2).f0.f1).length c103_1,.int .i64 0,.bool false]) ?_ 2 _ rfl;(with_reducible repeat (first|refine blk_drewN ?_ _|refine blk_drew ?_|refine blk_alloc ?_ _));refine blk_put (cs:=#[.bool ((rd_T40 ((rd_T33 l0 x18_1).f0) x29_2).f0.f0),.slice none 0 0,.int .i64 0,.bool false]) ?_ 1 _ rfl;(with_reducible repeat (first|refine blk_drewN ?_ _|refine blk_drew ?_|refine blk_alloc ?_ _));refine blk_put (cs:=#[.bool false,.slice none 0 0,.int .i64 0,.bool false]) ?_ 0 _ rfl;(with_reducible repeat (first|refine blk_drewN ?_ _|refine blk_drew ?_|refine blk_alloc ?_ _));exact BK104.out⟩
                have n2_:Aside0 (Below w.heap.size w ((((w26.setCell ⟨gb104,0,none⟩ (.bool ((rd_T40 ((rd_T33 l0 x18_1).f0) x29_2).f0.f0))).setCell ⟨gb104,1,none⟩ (.slice A103_1 ((rd_T40 ((rd_T33 l0 x18_1).f0) x29_2).f0.f1).length c103_1)).setCell ⟨gb104,2,none⟩ (.int .i64 ((rd_T40 ((rd_T33 l0 x18_1).f0) x29_2).f1))).setCell ⟨gb104,3,none⟩ (.bool ((rd_T40 ((rd_T33 l0 x18_1).f0) x29_2).f2)))):=⟨by repeat (first|(with_reducible first|exact HB.out|apply bA_|apply bN_|apply bD_|refine below_set ?_ GE102.out|refine below_set ?_ GE104.out)|exact HB.out)⟩
                (try clear BK102)
                (try clear BK104)
                (try clear HB)
                generalize ((((w26.setCell ⟨gb104,0,none⟩ (.bool ((rd_T40 ((rd_T33 l0 x18_1).f0) x29_2).f0.f0))).setCell ⟨gb104,1,none⟩ (.slice A103_1 ((rd_T40 ((rd_T33 l0 x18_1).f0) x29_2).f0.f1).length c103_1)).setCell ⟨gb104,2,none⟩ (.int .i64 ((rd_T40 ((rd_T33 l0 x18_1).f0) x29_2).f1))).setCell ⟨gb104,3,none⟩ (.bool ((rd_T40 ((rd_T33 l0 x18_1).f0) x29_2).f2)))=w29 at n0_ n1_ n2_ ⊢
                have BK102:=n0_
                have BK104:=n1_
                have HB:=n2_
                clear n0_ n1_ n2_
                have n0_:=Aside0.mk (blk_drew BK102.out)
                have n1_:=Aside0.mk (blk_drew BK104.out)
                have n2_:=Aside0.mk (bD_ HB.out)
                clear BK102
                clear BK104
                clear HB
                have BK102:=n0_
                have BK104:=n1_
                have HB:=n2_
                clear n0_ n1_ n2_
                have q31:(x29_2:Int)≤((((rd_T33 l0 x18_1).f0).length:Int):Int):=of_decide_eq_true (by first|(with_reducible assumption)|assumption)
                obtain ⟨i031,hi031,_,hsz31,_⟩:=info_parts info40
                have hroom31:((rd_T33 l0 x18_1).f0).length≤c101_0:=HC101_0.out
                have hC31:Kd.C k40 _ (some ad103) ((rd_T33 l0 x18_1).f0).length ((rd_T33 l0 x18_1).f0):=HR101_0.out
                have hcut31:=cut_to (P:=Try.prog) 31 40 .i64 Try.underlying31 hi031 (some ad103) ((rd_T33 l0 x18_1).f0).length c101_0 x29_2 (of_decide_eq_true (by first|(with_reducible assumption)|assumption)) q31 hroom31
                have hr31:=Kd.C_take (m:=(x29_2:Int).toNat) hC31 (by omega)
                have hy31:y105.length=(x29_2:Int).toNat:=(by rw [Ny105.out,List.length_take];omega)
                rw [← Ny105.out] at hr31
                rw [← hy31] at hcut31
                have HR108:=Aside0.mk hr31
                have HC108:=Aside0.mk (show y105.length≤c101_0 from by omega)
                clear hr31 hC31 hroom31 hi031 hsz31
                have KY31:=Aside0.mk hy31
                clear hy31
                replace q31:=eq_true q31
                refine start_ (n:=8) (S:=fun w'=>w'.cell? ⟨gb102,0,none⟩=some (.slice (some ad103) ((rd_T33 l0 x18_1).f0).length c101_0)∧w'.cell? ⟨gb102,1,none⟩=some (.bool ((rd_T33 l0 x18_1).f1))∧w'.cell? ⟨gb102,2,none⟩=some (.bool ((rd_T33 l0 x18_1).f2))∧w'.cell? ⟨gb104,0,none⟩=some (.bool ((rd_T40 ((rd_T33 l0 x18_1).f0) x29_2).f0.f0))∧w'.cell? ⟨gb104,1,none⟩=some (.slice A103_1 ((rd_T40 ((rd_T33 l0 x18_1).f0) x29_2).f0.f1).length c103_1)∧w'.cell? ⟨gb104,2,none⟩=some (.int .i64 ((rd_T40 ((rd_T33 l0 x18_1).f0) x29_2).f1))∧w'.cell? ⟨gb104,3,none⟩=some (.bool ((rd_T40 ((rd_T33 l0 x18_1).f0) x29_2).f2))) (ds:=[]) #[false,false,false,false,false,false,false,false] (by kernel_rfl) rfl rfl ⟨(blk_cell BK102.out 0).trans rfl,(blk_cell BK102.out 1).trans rfl,(blk_cell BK102.out 2).trans rfl,(blk_cell BK104.out 0).trans rfl,(blk_cell BK104.out 1).trans rfl,(blk_cell BK104.out 2).trans rfl,(blk_cell BK104.out 3).trans rfl⟩ (fun hHeld=>?_);refine with_tabW schema_Check.tab13 schema_Check.bits13 (fun HT_ HW_=>?_)
                generalize w29.drew=w30 at BK102 BK104 HB HR108 hHeld ⊢
                refine pure_ (i:=0) (N:=some 34) (v:=?_) (a':=?_) #[true,false,false,false,false,false,false,false] rfl rfl (any_of HT_.out (by kernel_rfl)) (fun _ _ _ h=>h) (Or.inl ⟨by rfl,?_⟩) ?_ ?_
                rotate_left
                ·intro w'
                 go_simp
                 with_reducible rfl
                rotate_left
                ·simp only [Act.put,List.setIfInBounds_toArray,List.set_cons_zero,List.set_cons_succ,i64_w,i32_w]
                 rfl
                refine pure_ (i:=1) (N:=some 35) (v:=?_) (a':=?_) #[true,true,false,false,false,false,false,false] rfl rfl (any_of HT_.out (by kernel_rfl)) (fun _ _ _ h=>h) (Or.inl ⟨by rfl,?_⟩) ?_ ?_
                rotate_left
                ·intro w'
                 go_simp
                 with_reducible rfl
                rotate_left
                ·simp only [Act.put,List.setIfInBounds_toArray,List.set_cons_zero,List.set_cons_succ,i64_w,i32_w]
                 rfl
                refine pure_ (i:=3) (N:=some 37) (v:=?_) (a':=?_) #[true,true,false,true,false,false,false,false] rfl rfl (any_of HT_.out (by kernel_rfl)) (fun _ _ _ h=>h) (Or.inl ⟨by rfl,?_⟩) ?_ ?_
                rotate_left
                ·intro w'
                 go_simp
                 with_reducible rfl
                rotate_left
                ·simp only [Act.put,List.setIfInBounds_toArray,List.set_cons_zero,List.set_cons_succ,i64_w,i32_w]
                 rfl
                refine take_ (i:=2) (N:=some 36) (v:=?_) (a':=?_) #[true,true,true,true,false,false,false,false] rfl rfl (take_ofW HT_.out HW_.out (by kernel_rfl)) (fun _ _ _ h=>h) (Or.inl ⟨by rfl,?_⟩) hHeld ?_ ?_
                rotate_left
                ·rintro w' ⟨s0,s1,s2,s3,s4,s5,s6⟩
                 go_simp
                 with_reducible rfl
                rotate_left
                ·simp only [Act.put,List.setIfInBounds_toArray,List.set_cons_zero,List.set_cons_succ,i64_w,i32_w]
                 rfl
                refine pure_ (i:=4) (N:=some 38) (v:=?_) (a':=?_) #[true,true,true,true,true,false,false,false] rfl rfl (any_of HT_.out (by kernel_rfl)) (fun _ _ _ h=>h) (Or.inl ⟨by rfl,?_⟩) ?_ ?_
                rotate_left
                ·intro w'
                 go_simp
                 with_reducible rfl
                rotate_left
                ·simp only [Act.put,List.setIfInBounds_toArray,List.set_cons_zero,List.set_cons_succ,i64_w,i32_w]
                 rfl
                refine take_ (i:=5) (N:=some 39) (v:=?_) (a':=?_) #[true,true,true,true,true,true,false,false] rfl rfl (take_ofW HT_.out HW_.out (by kernel_rfl)) (fun _ _ _ h=>h) (Or.inl ⟨by rfl,?_⟩) hHeld ?_ ?_
                rotate_left
                ·rintro w' ⟨s0,s1,s2,s3,s4,s5,s6⟩
                 go_simp
                 with_reducible rfl
                rotate_left
                ·simp only [Act.put,List.setIfInBounds_toArray,List.set_cons_zero,List.set_cons_succ,i64_w,i32_w]
                 rfl
                refine one_ (i:=6) (N:=some 40) #[true,true,true,true,true,true,true,false] rfl rfl (one_of HT_.out (by kernel_rfl)) (by decide) (fun K hK=>?_)
                refine goes_ Try.func27 (by kernel_rfl) rfl #[.slice (some ad101) l0.length c0,.slice (some ad103) y105.length c101_0,.agg #[.bool ((rd_T40 ((rd_T33 l0 x18_1).f0) x29_2).f0.f0),.slice A103_1 ((rd_T40 ((rd_T33 l0 x18_1).f0) x29_2).f0.f1).length c103_1,.int .i64 ((rd_T40 ((rd_T33 l0 x18_1).f0) x29_2).f1),.bool ((rd_T40 ((rd_T33 l0 x18_1).f0) x29_2).f2)]] (by rfl) rfl rfl (by (try simp only [List.map_toArray,List.map_cons,List.map_nil]);first|done|rfl|(simp only [List.length_drop,List.length_take];rfl)) ?_
                with_reducible refine (schema_field.calls _ _ l0 _ _ y105 ((rd_T40 ((rd_T33 l0 x18_1).f0) x29_2).f0.f0) _ _ ((rd_T40 ((rd_T33 l0 x18_1).f0) x29_2).f0.f1) ((rd_T40 ((rd_T33 l0 x18_1).f0) x29_2).f1) ((rd_T40 ((rd_T33 l0 x18_1).f0) x29_2).f2) t109 _ ?side1 ?side2 ?side3 ?side4 ?side5 ?side6 A17.out).mono ?_
                (case side1=>repeat (first|exact (Kd.C_below HR0.out HB.out)|(with_reducible refine cA_ ?_ _)|(with_reducible refine cN_ ?_ _)|(with_reducible refine cD_ ?_)))
                (case side2=>exact HC0.out)
                (case side3=>repeat (first|exact (Kd.C_below HR108.out HB.out)|(with_reducible refine cA_ ?_ _)|(with_reducible refine cN_ ?_ _)|(with_reducible refine cD_ ?_)))
                (case side4=>exact HC108.out)
                (case side5=>repeat (first|exact (Kd.C_below HR103_1.out HB.out)|(with_reducible refine cA_ ?_ _)|(with_reducible refine cN_ ?_ _)|(with_reducible refine cD_ ?_)))
                (case side6=>exact HC103_1.out)
                rintro e w32 ⟨rfl,hb⟩
                refine ⟨_,rfl,?_⟩
                have n0_:=Aside0.mk (blk_below (g:=gb102) (o:=.cells #[.slice (some ad103) ((rd_T33 l0 x18_1).f0).length c101_0,.bool ((rd_T33 l0 x18_1).f1),.bool ((rd_T33 l0 x18_1).f2)] 33 (0,0)) (by (with_reducible repeat (first|refine blk_drewN ?_ _|refine blk_drew ?_|refine blk_alloc ?_ _));exact BK102.out) hb)
                have n1_:=Aside0.mk (blk_below (g:=gb104) (o:=.cells #[.bool ((rd_T40 ((rd_T33 l0 x18_1).f0) x29_2).f0.f0),.slice A103_1 ((rd_T40 ((rd_T33 l0 x18_1).f0) x29_2).f0.f1).length c103_1,.int .i64 ((rd_T40 ((rd_T33 l0 x18_1).f0) x29_2).f1),.bool ((rd_T40 ((rd_T33 l0 x18_1).f0) x29_2).f2)] 40 (0,0)) (by (with_reducible repeat (first|refine blk_drewN ?_ _|refine blk_drew ?_|refine blk_alloc ?_ _));exact BK104.out) hb)
                have n2_:=Aside0.mk (below_step (by repeat (first|(with_reducible first|exact HB.out|apply bA_|apply bN_|apply bD_|refine below_set ?_ GE102.out|refine below_set ?_ GE104.out)|exact HB.out)) hb)
                clear BK102
                clear BK104
                clear HB
                have BK102:=n0_
                have BK104:=n1_
                have HB:=n2_
                clear n0_ n1_ n2_
                (try clear hb)
                (try clear hb2)
                (try clear hk)
                (try clear hi)
                refine hK.out _ _ ⟨(blk_cell BK102.out 0).trans rfl,(blk_cell BK102.out 1).trans rfl,(blk_cell BK102.out 2).trans rfl,(blk_cell BK104.out 0).trans rfl,(blk_cell BK104.out 1).trans rfl,(blk_cell BK104.out 2).trans rfl,(blk_cell BK104.out 3).trans rfl⟩ (fun hHeld=>?_)
                clear hK K
                refine norm_ (a':=?_) ?_ ?_
                rotate_left
                ·show Act.put _ (some 40) _=_
                 simp only [Act.put,List.setIfInBounds_toArray,List.set_cons_zero,List.set_cons_succ,i64_w,i32_w]
                 rfl
                refine pure_ (i:=7) (N:=some 7) (v:=?_) (a':=?_) #[true,true,true,true,true,true,true,true] rfl rfl (any_of HT_.out (by kernel_rfl)) (fun _ _ _ h=>h) (Or.inl ⟨by rfl,?_⟩) ?_ ?_
                rotate_left
                ·intro w'
                 go_simp
                 with_reducible rfl
                rotate_left
                ·simp only [Act.put,List.setIfInBounds_toArray,List.set_cons_zero,List.set_cons_succ,i64_w,i32_w]
                 rfl
                refine done_ (done_of HT_.out (by kernel_rfl)) ?_
                try go_wp2
                go_ret
                exact ⟨by first|rfl|(simp [errW_none,errW_some] <;> rfl)|(simp [*,errW_none,errW_some] <;> rfl),by repeat (first|(with_reducible first|exact HB.out|apply bA_|apply bN_|apply bD_|refine below_set ?_ GE102.out|refine below_set ?_ GE104.out)|exact HB.out)⟩
              ·rw [if_neg c16] at H
               exact absurd H (by simp)
             ·rw [if_neg c14] at H
              exact absurd H (by simp)
            ·rw [if_neg c13] at H
             exact absurd H (by simp)
           ·rw [if_neg c12] at H
            have c12b0:decide (x29_2 < (((rd_T33 l0 x18_1).f0).length:Int))=false:=decide_eq_false c12
            clear c12
            have H':=Aside0.mk H
            clear H
            go_wp2
            go_roundg k2
            case measure=>have:=HK1.out;have:=HK2.out;omega
            case rel=>exact ⟨(wrap64 (x18_1+1)),(by first|rfl|(simp;done)|(simp [*];done)),H',⟨by have:=HK1.out;have:=HK2.out;omega⟩,⟨by repeat (first|(with_reducible first|exact HB.out|apply bA_|apply bN_|apply bD_|refine below_set ?_ GE102.out)|exact HB.out)⟩⟩
       ·rw [if_neg c6] at H
        exact absurd H (by simp)
      ·rw [if_neg c5] at H
       exact absurd H (by simp)
     ·rw [if_neg c4] at H
      have c4b0:decide (x18_1 < (l0.length:Int))=false:=decide_eq_false c4
      clear c4
      obtain rfl:=Option.some.inj H
      go_wp2
      go_ret
      exact ⟨by first|rfl|(simp [errW_none,errW_some] <;> rfl)|(simp [*,errW_none,errW_some] <;> rfl),by repeat (first|(with_reducible first|exact HB.out|apply bA_|apply bN_|apply bD_)|exact HB.out)⟩
end Go.Proofs.Ytoihiehoolehiaa.PX
namespace Go.Proofs.Ytoihiehoolehiaa.PX
open Go.RowKit Go.Proofs.YtoihiehoolehiaaW.PrintWords Go.Proofs.YtoihiehoolehiaaW.PrintLast Go.Proofs.YtoihiehoolehiaaW.PrintMore
attribute [local go_sem] max2_int min2_int max_two min_two max_three min_three max_four min_four   
set_option linter.unusedVariables false
set_option linter.unusedSimpArgs false
attribute [local go_sem] run_field_87_0
def cadencelaw4_known.f (k:Nat)  : Option (Bool):=(some (([(⟨([]:List (S40)),false,false⟩:S33)]:List (S33)):List (S33))).bind fun y110=>((schema_Check.f k y110).bind fun t113=>(if t113=0 then ((schema_Fits.f y110 0 ([]:List (S53))).bind fun t114=>(if t114=true then ((schema_Fits.f y110 0 (([(⟨(⟨#[97]⟩:ByteArray),([]:List (S53))⟩:S53)]:List (S53)))).bind fun t118=>(if t118=true then (some false) else ((schema_To.f y110 0 (⟨#[97]⟩:ByteArray)).bind fun t119=>(some (t119 == (-1)))))) else (some false))) else (some false)))
theorem cadencelaw4_known.mono:∀ k,LeO (cadencelaw4_known.f k ) (cadencelaw4_known.f (k+1) ):=by
 intro  k
 unfold cadencelaw4_known.f
 repeat' first
   | (with_reducible exact schema_Check.mono _ _)
   | (with_reducible exact LeO.refl _)
   | (with_reducible exact LeO.none _)
   | (with_reducible refine LeO.ite ?_ ?_)
   | (with_reducible refine LeO.bind ?_ (fun _=>?_))
   | exact schema_Check.mono _ _
   | exact LeO.none _
   | refine LeO.ite ?_ ?_
   | refine LeO.bind ?_ (fun _=>?_)
set_option maxHeartbeats 8000000 in
set_option maxRecDepth 100000 in
theorem cadencelaw4_known.calls (k:Nat)  (r:Bool) (w:World) (h:cadencelaw4_known.f k  = some r) :
  Calls Try.prog 8 #[] w fun e w'=>e=.returned (.bool r)∧Below w.heap.size w w':=by
 have hu33:=Try.underlying33
 have hu53:=Try.underlying53
 have HB:=Aside0.mk (Below.refl w.heap.size w)
 have H:((some (([(⟨([]:List (S40)),false,false⟩:S33)]:List (S33)):List (S33))).bind fun y110=>((schema_Check.f k y110).bind fun t113=>(if t113=0 then ((schema_Fits.f y110 0 ([]:List (S53))).bind fun t114=>(if t114=true then ((schema_Fits.f y110 0 (([(⟨(⟨#[97]⟩:ByteArray),([]:List (S53))⟩:S53)]:List (S53)))).bind fun t118=>(if t118=true then (some false) else ((schema_To.f y110 0 (⟨#[97]⟩:ByteArray)).bind fun t119=>(some (t119 == (-1)))))) else (some false))) else (some false))))=some r:=h
 clear h
 obtain ⟨y110,hy110⟩:∃ y_:List (S33),y_=(([(⟨([]:List (S40)),false,false⟩:S33)]:List (S33))):=⟨_,rfl⟩
 replace H:((schema_Check.f k y110).bind fun t113=>(if t113=0 then ((schema_Fits.f y110 0 ([]:List (S53))).bind fun t114=>(if t114=true then ((schema_Fits.f y110 0 (([(⟨(⟨#[97]⟩:ByteArray),([]:List (S53))⟩:S53)]:List (S53)))).bind fun t118=>(if t118=true then (some false) else ((schema_To.f y110 0 (⟨#[97]⟩:ByteArray)).bind fun t119=>(some (t119 == (-1)))))) else (some false))) else (some false)))=some r:=by first|(rw [hy110];with_reducible exact H)|(have H2_:=(Option.bind_some _ _).symm.trans H;rw [hy110];with_reducible exact H2_)|(have H2_:=(Option.bind_some _ _).symm.trans H;with_reducible exact H2_)|with_reducible exact H|(rw [hy110];exact H)|exact H
 have Ny110:=Aside0.mk hy110
 clear hy110
 replace H:=Option.bind_eq_some_iff.mp H
 obtain ⟨t113,A10,H⟩:=H
 replace H:(if t113=0 then ((schema_Fits.f y110 0 ([]:List (S53))).bind fun t114=>(if t114=true then ((schema_Fits.f y110 0 (([(⟨(⟨#[97]⟩:ByteArray),([]:List (S53))⟩:S53)]:List (S53)))).bind fun t118=>(if t118=true then (some false) else ((schema_To.f y110 0 (⟨#[97]⟩:ByteArray)).bind fun t119=>(some (t119 == (-1)))))) else (some false))) else (some false))=some r:=H
 have A1:=Aside0.mk A10
 clear A10
 by_cases c2:t113=0
 ·rw [if_pos c2] at H
  have c2b0:(t113 == 0)=true:=beq_iff_eq.mpr c2
  have c2b1:(t113 != 0)=false:=bne_eq_false_iff_eq.mpr c2
  clear c2
  replace H:=Option.bind_eq_some_iff.mp H
  obtain ⟨t114,A30,H⟩:=H
  replace H:(if t114=true then ((schema_Fits.f y110 0 (([(⟨(⟨#[97]⟩:ByteArray),([]:List (S53))⟩:S53)]:List (S53)))).bind fun t118=>(if t118=true then (some false) else ((schema_To.f y110 0 (⟨#[97]⟩:ByteArray)).bind fun t119=>(some (t119 == (-1)))))) else (some false))=some r:=H
  have A3:=Aside0.mk A30
  clear A30
  by_cases c4:t114=true
  ·subst c4
   have H1:((schema_Fits.f y110 0 (([(⟨(⟨#[97]⟩:ByteArray),([]:List (S53))⟩:S53)]:List (S53)))).bind fun t118=>(if t118=true then (some false) else ((schema_To.f y110 0 (⟨#[97]⟩:ByteArray)).bind fun t119=>(some (t119 == (-1))))))=some r:=by rw [if_pos rfl] at H;exact H
   clear H
   have H:=H1
   clear H1
   obtain ⟨y115,hy115⟩:∃ y_:List (S53),y_=(([(⟨(⟨#[97]⟩:ByteArray),([]:List (S53))⟩:S53)]:List (S53))):=⟨_,rfl⟩
   replace H:((schema_Fits.f y110 0 y115).bind fun t118=>(if t118=true then (some false) else ((schema_To.f y110 0 (⟨#[97]⟩:ByteArray)).bind fun t119=>(some (t119 == (-1))))))=some r:=by first|(rw [hy115];with_reducible exact H)|(have H2_:=(Option.bind_some _ _).symm.trans H;rw [hy115];with_reducible exact H2_)|(have H2_:=(Option.bind_some _ _).symm.trans H;with_reducible exact H2_)|with_reducible exact H|(rw [hy115];exact H)|exact H
   have Ny115:=Aside0.mk hy115
   clear hy115
   replace H:=Option.bind_eq_some_iff.mp H
   obtain ⟨t118,A50,H⟩:=H
   replace H:(if t118=true then (some false) else ((schema_To.f y110 0 (⟨#[97]⟩:ByteArray)).bind fun t119=>(some (t119 == (-1)))))=some r:=H
   have A5:=Aside0.mk A50
   clear A50
   by_cases c6:t118=true
   ·subst c6
    have H1:(some false)=some r:=by rw [if_pos rfl] at H;exact H
    clear H
    have H:=H1
    clear H1
    obtain rfl:=Option.some.inj H
    go_enter Try.func8,Try.ntmps8
    go_wp2_with (first|((with_reducible refine gate_dst (N:=3) rfl ?_);(try (refine gate_guard (by rfl) ?_;dsimp only));refine Kd.R_lit k33 _ 33 ?hg (N:=3) ?hd (xs:=([(⟨([]:List (S40)),false,false⟩:S33)]:List (S33))) (inner:=[.slice none 0 0,.bool false,.bool false]) (ok:=fun _=>True) (okp:=fun _=>True) ?hr ?hp (fun _ hk=>hk) trivial (Below.refl _ _) (Nat.le_refl _) (by simp) ?_;(case hd=>rfl);(case hg=>rfl);(case hr=>first|(go_simp;done)|(go_simp;rfl));(case hp=>exact (Reps.c3 (show Kd.M k33 _ _ _ (⟨([]:List (S40)),false,false⟩:S33) [.slice none 0 0,.bool false,.bool false] from (k33_mkM _ _ _ (⟨([]:List (S40)),false,false⟩:S33) (Kd.R_nil _ _ _ _ _))) (Reps.none _ _)));intro v111 w7 ho8 hb hg_ hnew_;clear hg_ hnew_;(first|rw [← Ny110.out] at ho8|(simp only [Int.reduceToNat] at ho8;rw [← Ny110.out] at ho8));have n0_:=Aside0.mk (Kd.R_lower ho8 (below_size (by repeat (first|(with_reducible first|exact HB.out|apply bA_|apply bN_|apply bD_)|exact HB.out))));have n1_:=Aside0.mk (below_step (by repeat (first|(with_reducible first|exact HB.out|apply bA_|apply bN_|apply bD_)|exact HB.out)) hb);clear HB;have HO112:=n0_;have HB:=n1_;clear n0_ n1_;clear hb ho8;obtain ⟨Ao9,co9,eo9⟩:=Kd.R_slice HO112.out;subst eo9)|((with_reducible refine gate_callee (f:=11) rfl ?_);refine goesL_ (some 5) rfl rfl Try.func11 (by kernel_rfl) rfl #[.slice Ao9 y110.length co9] rfl (by (try simp only [List.map_toArray,List.map_cons,List.map_nil]);first|done|rfl|(simp only [List.length_drop,List.length_take];rfl)) ?_;(with_reducible refine (schema_Check.calls k _ _ y110 t113 _ ?side1 ?side2 A1.out).mono ?_);(case side1=>repeat (first|exact (Kd.R_reads' HO112.out).2.2|(with_reducible refine cA_ ?_ _)|(with_reducible refine cN_ ?_ _)|(with_reducible refine cD_ ?_)));(case side2=>exact (Kd.R_reads' HO112.out).2.1);rintro e w10 ⟨rfl,hb⟩;refine ⟨_,rfl,?_⟩;have n0_:=Aside0.mk (Kd.R_below (by (with_reducible repeat (first|apply rA_|apply rN_|apply rD_));exact HO112.out) hb);have n1_:=Aside0.mk (below_step (by repeat (first|(with_reducible first|exact HB.out|apply bA_|apply bN_|apply bD_)|exact HB.out)) hb);clear HO112;clear HB;have HO112:=n0_;have HB:=n1_;clear n0_ n1_;(try clear hb);(try clear hb2);(try clear hk);(try clear hi))|((with_reducible refine gate_dst (N:=14) rfl ?_);(try (refine gate_guard (by rfl) ?_;dsimp only));refine Kd.R_lit k53 _ 53 ?hg (N:=14) ?hd (xs:=([(⟨(⟨#[97]⟩:ByteArray),([]:List (S53))⟩:S53)]:List (S53))) (inner:=[.string (⟨#[97]⟩:ByteArray),.slice none 0 0]) (ok:=fun _=>True) (okp:=fun _=>True) ?hr ?hp (fun _ hk=>hk) trivial (Below.refl _ _) (Nat.le_refl _) (by simp) ?_;(case hd=>rfl);(case hg=>rfl);(case hr=>first|(go_simp;done)|(go_simp;rfl));(case hp=>exact (Reps.c2 (show Kd.M k53 _ _ _ (⟨(⟨#[97]⟩:ByteArray),([]:List (S53))⟩:S53) [.string (⟨#[97]⟩:ByteArray),.slice none 0 0] from (k53_mkM _ _ _ (⟨(⟨#[97]⟩:ByteArray),([]:List (S53))⟩:S53) (Kd.R_nil _ _ _ _ _))) (Reps.none _ _)));intro v116 w12 ho13 hb hg_ hnew_;clear hg_ hnew_;(first|rw [← Ny115.out] at ho13|(simp only [Int.reduceToNat] at ho13;rw [← Ny115.out] at ho13));have n0_:=Aside0.mk (Kd.R_below (by (with_reducible repeat (first|apply rA_|apply rN_|apply rD_));exact HO112.out) hb);have n1_:=Aside0.mk (Kd.R_lower ho13 (below_size (by repeat (first|(with_reducible first|exact HB.out|apply bA_|apply bN_|apply bD_)|exact HB.out))));have n2_:=Aside0.mk (below_step (by repeat (first|(with_reducible first|exact HB.out|apply bA_|apply bN_|apply bD_)|exact HB.out)) hb);clear HO112;clear HB;have HO112:=n0_;have HO117:=n1_;have HB:=n2_;clear n0_ n1_ n2_;clear hb ho13;obtain ⟨Ao14,co14,eo14⟩:=Kd.R_slice HO117.out;subst eo14)|(go_at_call 18;(with_reducible refine (schema_Fits.calls _ _ y110 0 _ _ y115 true _ ?side1 ?side2 ?side3 ?side4 A5.out).mono ?_);(case side1=>repeat (first|exact (Kd.R_reads' HO112.out).2.2|(with_reducible refine cA_ ?_ _)|(with_reducible refine cN_ ?_ _)|(with_reducible refine cD_ ?_)));(case side2=>exact (Kd.R_reads' HO112.out).2.1);(case side3=>repeat (first|exact (Kd.R_reads' HO117.out).2.2|(with_reducible refine cA_ ?_ _)|(with_reducible refine cN_ ?_ _)|(with_reducible refine cD_ ?_)));(case side4=>exact (Kd.R_reads' HO117.out).2.1);rintro e w15 ⟨rfl,hb⟩;have n0_:=Aside0.mk (Kd.R_below (by (with_reducible repeat (first|apply rA_|apply rN_|apply rD_));exact HO112.out) hb);have n1_:=Aside0.mk (Kd.R_below (by (with_reducible repeat (first|apply rA_|apply rN_|apply rD_));exact HO117.out) hb);have n2_:=Aside0.mk (below_step (by repeat (first|(with_reducible first|exact HB.out|apply bA_|apply bN_|apply bD_)|exact HB.out)) hb);clear HO112;clear HO117;clear HB;have HO112:=n0_;have HO117:=n1_;have HB:=n2_;clear n0_ n1_ n2_;(try clear hb);(try clear hb2);(try clear hk);(try clear hi))|(go_at_call 18;(refine (schema_Fits.calls _ _ y110 0 _ _ ([]:List (S53)) true _ ?side1 ?side2 ?side3 ?side4 A3.out).mono ?_);(case side1=>repeat (first|exact (Kd.R_reads' HO112.out).2.2|(with_reducible refine cA_ ?_ _)|(with_reducible refine cN_ ?_ _)|(with_reducible refine cD_ ?_)));(case side2=>exact (Kd.R_reads' HO112.out).2.1);(case side3=>exact Kd.C_nil _ _);(case side4=>exact Nat.le_refl _);rintro e w11 ⟨rfl,hb⟩;have n0_:=Aside0.mk (Kd.R_below (by (with_reducible repeat (first|apply rA_|apply rN_|apply rD_));exact HO112.out) hb);have n1_:=Aside0.mk (below_step (by repeat (first|(with_reducible first|exact HB.out|apply bA_|apply bN_|apply bD_)|exact HB.out)) hb);clear HO112;clear HB;have HO112:=n0_;have HB:=n1_;clear n0_ n1_;(try clear hb);(try clear hb2);(try clear hk);(try clear hi)))
    go_ret
    exact ⟨by first|rfl|(simp [errW_none,errW_some] <;> rfl)|(simp [*,errW_none,errW_some] <;> rfl),by repeat (first|(with_reducible first|exact HB.out|apply bA_|apply bN_|apply bD_)|exact HB.out)⟩
   ·replace c6:=Bool.eq_false_iff.mpr c6
    subst c6
    have H1:((schema_To.f y110 0 (⟨#[97]⟩:ByteArray)).bind fun t119=>(some (t119 == (-1))))=some r:=by rw [if_neg (show ¬ (false=true) by decide)] at H;exact H
    clear H
    have H:=H1
    clear H1
    replace H:=Option.bind_eq_some_iff.mp H
    obtain ⟨t119,A160,H⟩:=H
    replace H:(some (t119 == (-1)))=some r:=H
    have A16:=Aside0.mk A160
    clear A160
    obtain rfl:=Option.some.inj H
    go_enter Try.func8,Try.ntmps8
    go_wp2_with (first|((with_reducible refine gate_dst (N:=3) rfl ?_);(try (refine gate_guard (by rfl) ?_;dsimp only));refine Kd.R_lit k33 _ 33 ?hg (N:=3) ?hd (xs:=([(⟨([]:List (S40)),false,false⟩:S33)]:List (S33))) (inner:=[.slice none 0 0,.bool false,.bool false]) (ok:=fun _=>True) (okp:=fun _=>True) ?hr ?hp (fun _ hk=>hk) trivial (Below.refl _ _) (Nat.le_refl _) (by simp) ?_;(case hd=>rfl);(case hg=>rfl);(case hr=>first|(go_simp;done)|(go_simp;rfl));(case hp=>exact (Reps.c3 (show Kd.M k33 _ _ _ (⟨([]:List (S40)),false,false⟩:S33) [.slice none 0 0,.bool false,.bool false] from (k33_mkM _ _ _ (⟨([]:List (S40)),false,false⟩:S33) (Kd.R_nil _ _ _ _ _))) (Reps.none _ _)));intro v111 w17 ho18 hb hg_ hnew_;clear hg_ hnew_;(first|rw [← Ny110.out] at ho18|(simp only [Int.reduceToNat] at ho18;rw [← Ny110.out] at ho18));have n0_:=Aside0.mk (Kd.R_lower ho18 (below_size (by repeat (first|(with_reducible first|exact HB.out|apply bA_|apply bN_|apply bD_)|exact HB.out))));have n1_:=Aside0.mk (below_step (by repeat (first|(with_reducible first|exact HB.out|apply bA_|apply bN_|apply bD_)|exact HB.out)) hb);clear HB;have HO112:=n0_;have HB:=n1_;clear n0_ n1_;clear hb ho18;obtain ⟨Ao19,co19,eo19⟩:=Kd.R_slice HO112.out;subst eo19)|((with_reducible refine gate_callee (f:=11) rfl ?_);refine goesL_ (some 5) rfl rfl Try.func11 (by kernel_rfl) rfl #[.slice Ao19 y110.length co19] rfl (by (try simp only [List.map_toArray,List.map_cons,List.map_nil]);first|done|rfl|(simp only [List.length_drop,List.length_take];rfl)) ?_;(with_reducible refine (schema_Check.calls k _ _ y110 t113 _ ?side1 ?side2 A1.out).mono ?_);(case side1=>repeat (first|exact (Kd.R_reads' HO112.out).2.2|(with_reducible refine cA_ ?_ _)|(with_reducible refine cN_ ?_ _)|(with_reducible refine cD_ ?_)));(case side2=>exact (Kd.R_reads' HO112.out).2.1);rintro e w20 ⟨rfl,hb⟩;refine ⟨_,rfl,?_⟩;have n0_:=Aside0.mk (Kd.R_below (by (with_reducible repeat (first|apply rA_|apply rN_|apply rD_));exact HO112.out) hb);have n1_:=Aside0.mk (below_step (by repeat (first|(with_reducible first|exact HB.out|apply bA_|apply bN_|apply bD_)|exact HB.out)) hb);clear HO112;clear HB;have HO112:=n0_;have HB:=n1_;clear n0_ n1_;(try clear hb);(try clear hb2);(try clear hk);(try clear hi))|((with_reducible refine gate_dst (N:=14) rfl ?_);(try (refine gate_guard (by rfl) ?_;dsimp only));refine Kd.R_lit k53 _ 53 ?hg (N:=14) ?hd (xs:=([(⟨(⟨#[97]⟩:ByteArray),([]:List (S53))⟩:S53)]:List (S53))) (inner:=[.string (⟨#[97]⟩:ByteArray),.slice none 0 0]) (ok:=fun _=>True) (okp:=fun _=>True) ?hr ?hp (fun _ hk=>hk) trivial (Below.refl _ _) (Nat.le_refl _) (by simp) ?_;(case hd=>rfl);(case hg=>rfl);(case hr=>first|(go_simp;done)|(go_simp;rfl));(case hp=>exact (Reps.c2 (show Kd.M k53 _ _ _ (⟨(⟨#[97]⟩:ByteArray),([]:List (S53))⟩:S53) [.string (⟨#[97]⟩:ByteArray),.slice none 0 0] from (k53_mkM _ _ _ (⟨(⟨#[97]⟩:ByteArray),([]:List (S53))⟩:S53) (Kd.R_nil _ _ _ _ _))) (Reps.none _ _)));intro v116 w22 ho23 hb hg_ hnew_;clear hg_ hnew_;(first|rw [← Ny115.out] at ho23|(simp only [Int.reduceToNat] at ho23;rw [← Ny115.out] at ho23));have n0_:=Aside0.mk (Kd.R_below (by (with_reducible repeat (first|apply rA_|apply rN_|apply rD_));exact HO112.out) hb);have n1_:=Aside0.mk (Kd.R_lower ho23 (below_size (by repeat (first|(with_reducible first|exact HB.out|apply bA_|apply bN_|apply bD_)|exact HB.out))));have n2_:=Aside0.mk (below_step (by repeat (first|(with_reducible first|exact HB.out|apply bA_|apply bN_|apply bD_)|exact HB.out)) hb);clear HO112;clear HB;have HO112:=n0_;have HO117:=n1_;have HB:=n2_;clear n0_ n1_ n2_;clear hb ho23;obtain ⟨Ao24,co24,eo24⟩:=Kd.R_slice HO117.out;subst eo24)|(go_at_call 18;(with_reducible refine (schema_Fits.calls _ _ y110 0 _ _ y115 false _ ?side1 ?side2 ?side3 ?side4 A5.out).mono ?_);(case side1=>repeat (first|exact (Kd.R_reads' HO112.out).2.2|(with_reducible refine cA_ ?_ _)|(with_reducible refine cN_ ?_ _)|(with_reducible refine cD_ ?_)));(case side2=>exact (Kd.R_reads' HO112.out).2.1);(case side3=>repeat (first|exact (Kd.R_reads' HO117.out).2.2|(with_reducible refine cA_ ?_ _)|(with_reducible refine cN_ ?_ _)|(with_reducible refine cD_ ?_)));(case side4=>exact (Kd.R_reads' HO117.out).2.1);rintro e w25 ⟨rfl,hb⟩;have n0_:=Aside0.mk (Kd.R_below (by (with_reducible repeat (first|apply rA_|apply rN_|apply rD_));exact HO112.out) hb);have n1_:=Aside0.mk (Kd.R_below (by (with_reducible repeat (first|apply rA_|apply rN_|apply rD_));exact HO117.out) hb);have n2_:=Aside0.mk (below_step (by repeat (first|(with_reducible first|exact HB.out|apply bA_|apply bN_|apply bD_)|exact HB.out)) hb);clear HO112;clear HO117;clear HB;have HO112:=n0_;have HO117:=n1_;have HB:=n2_;clear n0_ n1_ n2_;(try clear hb);(try clear hb2);(try clear hk);(try clear hi))|(go_at_call 20;(with_reducible refine (schema_To.calls _ _ y110 0 (⟨#[97]⟩:ByteArray) t119 _ ?side1 ?side2 A16.out).mono ?_);(case side1=>repeat (first|exact (Kd.R_reads' HO112.out).2.2|(with_reducible refine cA_ ?_ _)|(with_reducible refine cN_ ?_ _)|(with_reducible refine cD_ ?_)));(case side2=>exact (Kd.R_reads' HO112.out).2.1);rintro e w26 ⟨rfl,hb⟩;have n0_:=Aside0.mk (Kd.R_below (by (with_reducible repeat (first|apply rA_|apply rN_|apply rD_));exact HO112.out) hb);have n1_:=Aside0.mk (Kd.R_below (by (with_reducible repeat (first|apply rA_|apply rN_|apply rD_));exact HO117.out) hb);have n2_:=Aside0.mk (below_step (by repeat (first|(with_reducible first|exact HB.out|apply bA_|apply bN_|apply bD_)|exact HB.out)) hb);clear HO112;clear HO117;clear HB;have HO112:=n0_;have HO117:=n1_;have HB:=n2_;clear n0_ n1_ n2_;(try clear hb);(try clear hb2);(try clear hk);(try clear hi))|(go_at_call 18;(refine (schema_Fits.calls _ _ y110 0 _ _ ([]:List (S53)) true _ ?side1 ?side2 ?side3 ?side4 A3.out).mono ?_);(case side1=>repeat (first|exact (Kd.R_reads' HO112.out).2.2|(with_reducible refine cA_ ?_ _)|(with_reducible refine cN_ ?_ _)|(with_reducible refine cD_ ?_)));(case side2=>exact (Kd.R_reads' HO112.out).2.1);(case side3=>exact Kd.C_nil _ _);(case side4=>exact Nat.le_refl _);rintro e w21 ⟨rfl,hb⟩;have n0_:=Aside0.mk (Kd.R_below (by (with_reducible repeat (first|apply rA_|apply rN_|apply rD_));exact HO112.out) hb);have n1_:=Aside0.mk (below_step (by repeat (first|(with_reducible first|exact HB.out|apply bA_|apply bN_|apply bD_)|exact HB.out)) hb);clear HO112;clear HB;have HO112:=n0_;have HB:=n1_;clear n0_ n1_;(try clear hb);(try clear hb2);(try clear hk);(try clear hi)))
    go_ret
    exact ⟨by first|rfl|(simp [errW_none,errW_some] <;> rfl)|(simp [*,errW_none,errW_some] <;> rfl),by repeat (first|(with_reducible first|exact HB.out|apply bA_|apply bN_|apply bD_)|exact HB.out)⟩
  ·replace c4:=Bool.eq_false_iff.mpr c4
   subst c4
   have H1:(some false)=some r:=by rw [if_neg (show ¬ (false=true) by decide)] at H;exact H
   clear H
   have H:=H1
   clear H1
   obtain rfl:=Option.some.inj H
   go_enter Try.func8,Try.ntmps8
   go_wp2_with (first|((with_reducible refine gate_dst (N:=3) rfl ?_);(try (refine gate_guard (by rfl) ?_;dsimp only));refine Kd.R_lit k33 _ 33 ?hg (N:=3) ?hd (xs:=([(⟨([]:List (S40)),false,false⟩:S33)]:List (S33))) (inner:=[.slice none 0 0,.bool false,.bool false]) (ok:=fun _=>True) (okp:=fun _=>True) ?hr ?hp (fun _ hk=>hk) trivial (Below.refl _ _) (Nat.le_refl _) (by simp) ?_;(case hd=>rfl);(case hg=>rfl);(case hr=>first|(go_simp;done)|(go_simp;rfl));(case hp=>exact (Reps.c3 (show Kd.M k33 _ _ _ (⟨([]:List (S40)),false,false⟩:S33) [.slice none 0 0,.bool false,.bool false] from (k33_mkM _ _ _ (⟨([]:List (S40)),false,false⟩:S33) (Kd.R_nil _ _ _ _ _))) (Reps.none _ _)));intro v111 w27 ho28 hb hg_ hnew_;clear hg_ hnew_;(first|rw [← Ny110.out] at ho28|(simp only [Int.reduceToNat] at ho28;rw [← Ny110.out] at ho28));have n0_:=Aside0.mk (Kd.R_lower ho28 (below_size (by repeat (first|(with_reducible first|exact HB.out|apply bA_|apply bN_|apply bD_)|exact HB.out))));have n1_:=Aside0.mk (below_step (by repeat (first|(with_reducible first|exact HB.out|apply bA_|apply bN_|apply bD_)|exact HB.out)) hb);clear HB;have HO112:=n0_;have HB:=n1_;clear n0_ n1_;clear hb ho28;obtain ⟨Ao29,co29,eo29⟩:=Kd.R_slice HO112.out;subst eo29)|((with_reducible refine gate_callee (f:=11) rfl ?_);refine goesL_ (some 5) rfl rfl Try.func11 (by kernel_rfl) rfl #[.slice Ao29 y110.length co29] rfl (by (try simp only [List.map_toArray,List.map_cons,List.map_nil]);first|done|rfl|(simp only [List.length_drop,List.length_take];rfl)) ?_;(with_reducible refine (schema_Check.calls k _ _ y110 t113 _ ?side1 ?side2 A1.out).mono ?_);(case side1=>repeat (first|exact (Kd.R_reads' HO112.out).2.2|(with_reducible refine cA_ ?_ _)|(with_reducible refine cN_ ?_ _)|(with_reducible refine cD_ ?_)));(case side2=>exact (Kd.R_reads' HO112.out).2.1);rintro e w30 ⟨rfl,hb⟩;refine ⟨_,rfl,?_⟩;have n0_:=Aside0.mk (Kd.R_below (by (with_reducible repeat (first|apply rA_|apply rN_|apply rD_));exact HO112.out) hb);have n1_:=Aside0.mk (below_step (by repeat (first|(with_reducible first|exact HB.out|apply bA_|apply bN_|apply bD_)|exact HB.out)) hb);clear HO112;clear HB;have HO112:=n0_;have HB:=n1_;clear n0_ n1_;(try clear hb);(try clear hb2);(try clear hk);(try clear hi))|(go_at_call 18;(refine (schema_Fits.calls _ _ y110 0 _ _ ([]:List (S53)) false _ ?side1 ?side2 ?side3 ?side4 A3.out).mono ?_);(case side1=>repeat (first|exact (Kd.R_reads' HO112.out).2.2|(with_reducible refine cA_ ?_ _)|(with_reducible refine cN_ ?_ _)|(with_reducible refine cD_ ?_)));(case side2=>exact (Kd.R_reads' HO112.out).2.1);(case side3=>exact Kd.C_nil _ _);(case side4=>exact Nat.le_refl _);rintro e w31 ⟨rfl,hb⟩;have n0_:=Aside0.mk (Kd.R_below (by (with_reducible repeat (first|apply rA_|apply rN_|apply rD_));exact HO112.out) hb);have n1_:=Aside0.mk (below_step (by repeat (first|(with_reducible first|exact HB.out|apply bA_|apply bN_|apply bD_)|exact HB.out)) hb);clear HO112;clear HB;have HO112:=n0_;have HB:=n1_;clear n0_ n1_;(try clear hb);(try clear hb2);(try clear hk);(try clear hi)))
   go_ret
   exact ⟨by first|rfl|(simp [errW_none,errW_some] <;> rfl)|(simp [*,errW_none,errW_some] <;> rfl),by repeat (first|(with_reducible first|exact HB.out|apply bA_|apply bN_|apply bD_)|exact HB.out)⟩
 ·rw [if_neg c2] at H
  have c2b0:(t113 == 0)=false:=beq_eq_false_iff_ne.mpr c2
  have c2b1:(t113 != 0)=true:=bne_iff_ne.mpr c2
  obtain rfl:=Option.some.inj H
  go_enter Try.func8,Try.ntmps8
  go_wp2_with (first|((with_reducible refine gate_dst (N:=3) rfl ?_);(try (refine gate_guard (by rfl) ?_;dsimp only));refine Kd.R_lit k33 _ 33 ?hg (N:=3) ?hd (xs:=([(⟨([]:List (S40)),false,false⟩:S33)]:List (S33))) (inner:=[.slice none 0 0,.bool false,.bool false]) (ok:=fun _=>True) (okp:=fun _=>True) ?hr ?hp (fun _ hk=>hk) trivial (Below.refl _ _) (Nat.le_refl _) (by simp) ?_;(case hd=>rfl);(case hg=>rfl);(case hr=>first|(go_simp;done)|(go_simp;rfl));(case hp=>exact (Reps.c3 (show Kd.M k33 _ _ _ (⟨([]:List (S40)),false,false⟩:S33) [.slice none 0 0,.bool false,.bool false] from (k33_mkM _ _ _ (⟨([]:List (S40)),false,false⟩:S33) (Kd.R_nil _ _ _ _ _))) (Reps.none _ _)));intro v111 w32 ho33 hb hg_ hnew_;clear hg_ hnew_;(first|rw [← Ny110.out] at ho33|(simp only [Int.reduceToNat] at ho33;rw [← Ny110.out] at ho33));have n0_:=Aside0.mk (Kd.R_lower ho33 (below_size (by repeat (first|(with_reducible first|exact HB.out|apply bA_|apply bN_|apply bD_)|exact HB.out))));have n1_:=Aside0.mk (below_step (by repeat (first|(with_reducible first|exact HB.out|apply bA_|apply bN_|apply bD_)|exact HB.out)) hb);clear HB;have HO112:=n0_;have HB:=n1_;clear n0_ n1_;clear hb ho33;obtain ⟨Ao34,co34,eo34⟩:=Kd.R_slice HO112.out;subst eo34)|((with_reducible refine gate_callee (f:=11) rfl ?_);refine goesL_ (some 5) rfl rfl Try.func11 (by kernel_rfl) rfl #[.slice Ao34 y110.length co34] rfl (by (try simp only [List.map_toArray,List.map_cons,List.map_nil]);first|done|rfl|(simp only [List.length_drop,List.length_take];rfl)) ?_;(with_reducible refine (schema_Check.calls k _ _ y110 t113 _ ?side1 ?side2 A1.out).mono ?_);(case side1=>repeat (first|exact (Kd.R_reads' HO112.out).2.2|(with_reducible refine cA_ ?_ _)|(with_reducible refine cN_ ?_ _)|(with_reducible refine cD_ ?_)));(case side2=>exact (Kd.R_reads' HO112.out).2.1);rintro e w35 ⟨rfl,hb⟩;refine ⟨_,rfl,?_⟩;have n0_:=Aside0.mk (Kd.R_below (by (with_reducible repeat (first|apply rA_|apply rN_|apply rD_));exact HO112.out) hb);have n1_:=Aside0.mk (below_step (by repeat (first|(with_reducible first|exact HB.out|apply bA_|apply bN_|apply bD_)|exact HB.out)) hb);clear HO112;clear HB;have HO112:=n0_;have HB:=n1_;clear n0_ n1_;(try clear hb);(try clear hb2);(try clear hk);(try clear hi)))
  go_ret
  exact ⟨by first|rfl|(simp [errW_none,errW_some] <;> rfl)|(simp [*,errW_none,errW_some] <;> rfl),by repeat (first|(with_reducible first|exact HB.out|apply bA_|apply bN_|apply bD_)|exact HB.out)⟩
end Go.Proofs.Ytoihiehoolehiaa.PX
set_option linter.unusedVariables false
set_option linter.unusedSimpArgs false
namespace Go.Proofs.Ytoihiehoolehiaa.PX
open Go.RowKit Go.Proofs.YtoihiehoolehiaaW.PrintWords Go.Proofs.YtoihiehoolehiaaW.PrintLast Go.Proofs.YtoihiehoolehiaaW.PrintMore Go.Proofs.Ytoihiehoolehiaa
def fieldsM (n:Nat) (fs:List S40):Nat→Nat→Int
 | 0,_=>0
 | d+1,i=>if h:i < fs.length then (if fieldM n (fs.take i) fs[i]=0 then fieldsM n fs d (i+1) else fieldM n (fs.take i) fs[i]) else 0
def defM (n:Nat) (d:S33):Int:=if 6 < d.f0.length then 4 else fieldsM n d.f0 d.f0.length 0
def defsM (n:Nat):List S33→Int
 | []=>0
 | d :: t=>if defM n d=0 then defsM n t else defM n d
def checkM (s:Sc):Int:=if s.length=0 then 2 else if 12 < s.length then 4 else defsM s.length s
def ScFew (s:Sc):Prop:=∀ d ∈ s,d.f0.length≤1000000∧∀ f ∈ d.f0,FieldOk f
theorem check_ev (s:Sc) (hs:ScFew s):Ev (fun k=>schema_Check.f k s) (checkM s):=by
 by_cases h0:s.length=0
 ·have e:∀ k,schema_Check.f k s=some 2:=fun k=>by unfold schema_Check.f;rw [if_pos (by omega)]
  simp only [e]
  rw [checkM,if_pos h0]
  exact Ev.now _
 by_cases h1:12 < s.length
 ·have e:∀ k,schema_Check.f k s=some 4:=fun k=>by unfold schema_Check.f;rw [if_neg (by omega),if_pos (by omega)]
  simp only [e]
  rw [checkM,if_neg h0,if_pos h1]
  exact Ev.now _
 have e:∀ k,schema_Check.f k s=schema_Check.l0 k s s (s.length:Int) 0:=fun k=>by unfold schema_Check.f;rw [if_neg (by omega),if_neg (by omega)]
 simp only [e]
 rw [checkM,if_neg h0,if_neg h1]
 have inner:∀ (d:S33) (hd:d ∈ s) (i:Nat) (r:Int) (hi:i < s.length) (hr:Ev (fun k=>schema_Check.l0 k s s (s.length:Int) ((i+1:Nat):Int)) r) (m j:Nat),d.f0.length - j≤m→j≤d.f0.length→Ev (fun k=>schema_Check.l1 k s s (s.length:Int) (i:Int) d.f0 (d.f0.length:Int) (j:Int) d.f0 d.f1 d.f2) (if fieldsM s.length d.f0 m j=0 then r else fieldsM s.length d.f0 m j):=by
  intro d hd i r hi hr m
  have hdl:=hs d hd
  induction m with
  | zero =>
   intro j hm hj
   obtain rfl:j=d.f0.length:=by omega
   refine Ev.step (f:=fun k=>schema_Check.l0 k s s (s.length:Int) ((i+1:Nat):Int)) (fun k=>?_) ?_
   ·simp only [schema_Check.l1]
    rw [if_neg (by omega),wrap_succ (by omega)]
   ·rw [fieldsM,if_pos rfl];exact hr
  | succ m ih =>
   intro j hm hj
   by_cases h:j < d.f0.length
   ·have hle:(d.f0.take j).length≤1000000000000:=by rw [List.length_take];omega
    have ef:schema_field.f s (d.f0.take j) (d.f0[j]).f0.f0 (d.f0[j]).f0.f1 (d.f0[j]).f1 (d.f0[j]).f2=some (fieldM s.length (d.f0.take j) d.f0[j]):=by
     unfold schema_field.f
     rw [if_pos ⟨hle,hdl.2 _ (List.getElem_mem h),fun o ho=>hdl.2 o (List.mem_of_mem_take ho)⟩]
    have e:∀ k,schema_Check.l1 (k+1) s s (s.length:Int) (i:Int) d.f0 (d.f0.length:Int) (j:Int) d.f0 d.f1 d.f2=if fieldM s.length (d.f0.take j) d.f0[j]=0 then schema_Check.l1 k s s (s.length:Int) (i:Int) d.f0 (d.f0.length:Int) ((j+1:Nat):Int) d.f0 d.f1 d.f2 else some (fieldM s.length (d.f0.take j) d.f0[j]):=by
     intro k
     simp only [schema_Check.l1]
     rw [if_pos (by omega),if_pos (by omega),if_pos (by omega),if_pos (by omega),rdF_nat h,Int.toNat_natCast,ef,wrap_succ (by omega)]
     simp only [Option.bind_some]
    rw [fieldsM,dif_pos h]
    by_cases hf:fieldM s.length (d.f0.take j) d.f0[j]=0
    ·rw [if_pos hf]
     exact Ev.step (fun k=>(e k).trans (if_pos hf)) (ih (j+1) (by omega) (by omega))
    ·rw [if_neg hf,if_neg hf]
     exact Ev.step (fun k=>(e k).trans (if_neg hf)) (Ev.now _)
   ·obtain rfl:j=d.f0.length:=by omega
    refine Ev.step (f:=fun k=>schema_Check.l0 k s s (s.length:Int) ((i+1:Nat):Int)) (fun k=>?_) ?_
    ·simp only [schema_Check.l1]
     rw [if_neg (by omega),wrap_succ (by omega)]
    ·rw [fieldsM,dif_neg h,if_pos rfl];exact hr
 have outer:∀ (m i:Nat),s.length - i≤m→i≤s.length→Ev (fun k=>schema_Check.l0 k s s (s.length:Int) (i:Int)) (defsM s.length (s.drop i)):=by
  intro m
  induction m with
  | zero =>
   intro i hm hi
   obtain rfl:i=s.length:=by omega
   refine Ev.step (f:=fun _=>some 0) (fun k=>?_) ?_
   ·simp only [schema_Check.l0]
    rw [if_neg (by omega)]
   ·rw [List.drop_length];exact Ev.now _
  | succ m ih =>
   intro i hm hi
   by_cases h:i < s.length
   ·rw [List.drop_eq_getElem_cons h,defsM,defM]
    by_cases h6:6 < (s[i]).f0.length
    ·rw [if_pos h6]
     refine Ev.step (f:=fun _=>some 4) (fun k=>?_) (Ev.now _)
     simp only [schema_Check.l0]
     rw [if_pos (by omega),if_pos (by omega),if_pos (by omega),rdD_nat h,if_pos (by omega)]
    ·rw [if_neg h6]
     refine Ev.step (f:=fun k=>schema_Check.l1 k s s (s.length:Int) (i:Int) (s[i]).f0 ((s[i]).f0.length:Int) 0 (s[i]).f0 (s[i]).f1 (s[i]).f2) (fun k=>?_) ?_
     ·simp only [schema_Check.l0]
      rw [if_pos (by omega),if_pos (by omega),if_pos (by omega),rdD_nat h,if_neg (by omega)]
     ·exact inner s[i] (List.getElem_mem h) i _ h (ih (i+1) (by omega) (by omega)) (s[i]).f0.length 0 (by omega) (Nat.zero_le _)
   ·obtain rfl:i=s.length:=by omega
    refine Ev.step (f:=fun _=>some 0) (fun k=>?_) ?_
    ·simp only [schema_Check.l0]
     rw [if_neg (by omega)]
    ·rw [List.drop_length];exact Ev.now _
 exact outer s.length 0 (by omega) (Nat.zero_le _)
end Go.Proofs.Ytoihiehoolehiaa.PX
set_option linter.unusedVariables false
set_option linter.unusedSimpArgs false
namespace Go.Proofs.Ytoihiehoolehiaa.PX
open Go.RowKit Go.Proofs.YtoihiehoolehiaaW.PrintWords Go.Proofs.YtoihiehoolehiaaW.PrintLast Go.Proofs.YtoihiehoolehiaaW.PrintMore Go.Proofs.Ytoihiehoolehiaa
theorem known4:Ev (fun k=>cadencelaw4_known.f k) true:=by
 obtain ⟨K,hK⟩:=check_ev [(⟨[],false,false⟩:S33)] (fun d hd=>by
  simp only [List.mem_singleton] at hd
  subst hd
  exact ⟨by simp,fun f hf=>by cases hf⟩)
 have hok:ScOk [(⟨[],false,false⟩:S33)]:=⟨by simp,fun d hd=>by
  simp only [List.mem_singleton] at hd
  subst hd
  exact ⟨by simp,fun f hf=>by cases hf⟩⟩
 have h1:schema_Fits.f [(⟨[],false,false⟩:S33)] 0 []=some true:=by
  unfold schema_Fits.f
  rw [if_pos ⟨hok,trOk_nil⟩,fitsM_eq]
  rfl
 have h2:schema_Fits.f [(⟨[],false,false⟩:S33)] 0 [⟨⟨#[97]⟩,[]⟩]=some false:=by
  unfold schema_Fits.f
  rw [if_pos ⟨hok,by rw [trOk_eq];simp [trOk_nil]⟩,fitsM_eq]
  rfl
 have h3:schema_To.f [(⟨[],false,false⟩:S33)] 0 ⟨#[97]⟩=some (-1):=by
  unfold schema_To.f
  rw [if_pos hok]
  rfl
 refine ⟨K,fun k hk=>?_⟩
 have hc:schema_Check.f k [(⟨[],false,false⟩:S33)]=some 0:=hK k hk
 show cadencelaw4_known.f k=some true
 unfold cadencelaw4_known.f
 simp only [Option.bind_some]
 rw [hc]
 simp only [Option.bind_some,if_pos]
 rw [h1]
 simp only [Option.bind_some,if_pos]
 rw [h2]
 simp only [Option.bind_some]
 rw [if_neg (by simp),h3]
 rfl
end Go.Proofs.Ytoihiehoolehiaa.PX
set_option linter.unusedVariables false
set_option linter.unusedSimpArgs false
namespace Go.Proofs.Ytoihiehoolehiaa.PX
open Go.RowKit Go.Proofs.YtoihiehoolehiaaW.PrintWords Go.Proofs.YtoihiehoolehiaaW.PrintLast Go.Proofs.YtoihiehoolehiaaW.PrintMore Go.Proofs.Ytoihiehoolehiaa
theorem Ev.two {α β:Type} {f:Nat→Option α} {g:Nat→Option β} {x:α} {y:β} (h:Ev f x) (h':Ev g y):∃ K,f K=some x∧g K=some y:=by
 obtain ⟨K,h⟩:=h
 obtain ⟨K',h'⟩:=h'
 exact ⟨K+K',h _ (by omega),h' _ (by omega)⟩
def fitsF:Nat→Sc→Int→Tr→Bool
 | 0,_,_,_=>false
 | n+1,s,d,t=>levelM s d t && t.all fun x=>fitsF n s (toM s d x.f0) x.f1
def deepF:Nat→Tr→Bool
 | 0,_=>false
 | n+1,t=>decide (t.length≤1000000000000) && t.all fun x=>deepF n x.f1
theorem deep_ok:∀ n t,deepF n t=true→trOk t=true
 | 0,t,h=>by cases h
 | n+1,t,h=>by
  rw [deepF,Bool.and_eq_true,List.all_eq_true] at h
  rw [trOk_eq,Bool.and_eq_true,List.all_eq_true]
  exact ⟨h.1,fun x hx=>deep_ok n x.f1 (h.2 x hx)⟩
theorem fitsF_eq:∀ n (s:Sc) d t,deepF n t=true→fitsM s d t=fitsF n s d t
 | 0,s,d,t,h=>by cases h
 | n+1,s,d,t,h=>by
  rw [deepF,Bool.and_eq_true,List.all_eq_true] at h
  rw [fitsM_eq,fitsF]
  congr 1
  rw [Bool.eq_iff_iff,List.all_eq_true,List.all_eq_true]
  exact ⟨fun g x hx=>by rw [← fitsF_eq n s _ x.f1 (h.2 x hx)];exact g x hx,fun g x hx=>by rw [fitsF_eq n s _ x.f1 (h.2 x hx)];exact g x hx⟩
def sqa:ByteArray:=⟨#[97]⟩
def sqb:ByteArray:=⟨#[98]⟩
def sqno:ByteArray:=⟨#[110,111]⟩
def sq_S:Sc:=[⟨[⟨⟨false,[sqa,sqb]⟩,1,true⟩,⟨⟨true,[sqa,sqb,sqno]⟩,2,false⟩],false,false⟩,⟨[⟨⟨true,[]⟩,2,false⟩],true,false⟩,⟨[],false,false⟩,⟨[⟨⟨true,[]⟩,2,false⟩],false,true⟩]
def sq_v:Tr:=[⟨⟨#[118]⟩,[]⟩]
def sq_two:Tr:=[⟨⟨#[117]⟩,[]⟩,⟨⟨#[118]⟩,[]⟩]
def sq_l:List Tr:=[[⟨sqa,sq_v⟩,⟨sqb,sq_v⟩],[⟨sqa,sq_v⟩],[⟨sqa,sq_v⟩,⟨sqb,sq_two⟩],[⟨sqa,sq_v⟩,⟨sqb,[]⟩],[⟨sqa,sq_v⟩,⟨sqb,sq_v⟩,⟨⟨#[120]⟩,[]⟩],[⟨sqa,sq_v⟩,⟨sqb,sq_v⟩,⟨⟨#[120]⟩,sq_v⟩],[⟨sqa,sq_v⟩,⟨sqb,sq_v⟩,⟨sqno,[]⟩],[]]
def sq_w:List Bool:=[true,false,false,false,true,false,false,false]
theorem sq_ok:ScOk sq_S:=by
 refine ⟨by decide,fun d hd=>?_⟩
 simp only [sq_S,List.mem_cons,List.not_mem_nil,or_false] at hd
 rcases hd with rfl|rfl|rfl|rfl
 ·refine ⟨by simp,fun f hf=>?_⟩
  simp only [List.mem_cons,List.not_mem_nil,or_false] at hf
  rcases hf with rfl|rfl <;> simp
 ·refine ⟨by simp,fun f hf=>?_⟩
  simp only [List.mem_cons,List.not_mem_nil,or_false] at hf
  subst hf
  simp
 ·exact ⟨by simp,fun f hf=>by cases hf⟩
 ·refine ⟨by simp,fun f hf=>?_⟩
  simp only [List.mem_cons,List.not_mem_nil,or_false] at hf
  subst hf
  simp
theorem sq_few:ScFew sq_S:=fun d hd=>by
 have h1:=sq_ok.2 d hd
 simp only [sq_S,List.mem_cons,List.not_mem_nil,or_false] at hd
 rcases hd with rfl|rfl|rfl|rfl
 ·refine ⟨by simp,fun f hf=>?_⟩
  simp only [List.mem_cons,List.not_mem_nil,or_false] at hf
  rcases hf with rfl|rfl <;> simp [FieldOk]
 ·refine ⟨by simp,fun f hf=>?_⟩
  simp only [List.mem_cons,List.not_mem_nil,or_false] at hf
  subst hf
  simp [FieldOk]
 ·exact ⟨by simp,fun f hf=>by cases hf⟩
 ·refine ⟨by simp,fun f hf=>?_⟩
  simp only [List.mem_cons,List.not_mem_nil,or_false] at hf
  subst hf
  simp [FieldOk]
theorem setB_nil':setB [] = []:=List.eq_nil_iff_forall_not_mem.2 fun x hx=>by simpa using setB_mem.1 hx
theorem apart_cut {l m:List ByteArray} (h:∀ x ∈ l,x ∈ m):apartN ⟨false,l⟩ ⟨true,m⟩=true:=by
 have e:(setB l).filter (fun z=>hasL m z == false) = []:=by
  rw [List.filter_eq_nil_iff]
  intro z hz hh
  have h1:=h z (setB_mem.1 hz)
  have h2:=(hasL_iff m z).2 h1
  rw [h2] at hh
  cases hh
 unfold apartN bothM
 simp only [Bool.false_eq_true,if_false,if_true]
 rw [e,setB_nil']
 rfl
theorem fields0 (n:Nat) (fs:List S40) (h:∀ i (hi:i < fs.length),fieldM n (fs.take i) fs[i]=0):∀ d i,fieldsM n fs d i=0
 | 0,_=>rfl
 | d+1,i=>by
  rw [fieldsM]
  split
  ·rename_i hi
   rw [if_pos (h i hi)]
   exact fields0 n fs h d (i+1)
  ·rfl
theorem defs0 (n:Nat):∀ (s:Sc),(∀ d ∈ s,defM n d=0)→defsM n s=0
 | [],_=>rfl
 | d :: t,h=>by
  rw [defsM,if_pos (h d (by simp))]
  exact defs0 n t fun x hx=>h x (by simp [hx])
theorem field0 {n:Nat} {ahead:List S40} {f:S40} (h1:¬ 20 < f.f0.f1.length) (h2:(f.f0.f1.any fun x=>decide (80 < x.size))=false) (h3:¬ (f.f1 < 0∨(n:Int)≤f.f1)) (h4:(f.f2 && f.f0.f0)=false) (h5:∀ o ∈ ahead,apartN o.f0 f.f0=true):fieldM n ahead f=0:=by
 have ha:(ahead.any fun o=>!apartN o.f0 f.f0)=false:=by
  rw [List.any_eq_false]
  intro o ho
  rw [h5 o ho]
  simp
 unfold fieldM
 rw [ha,if_neg h1,h2,if_neg (by simp),if_neg h3,h4,if_neg (by simp),if_neg (by simp)]
theorem sq_check:checkM sq_S=0:=by
 unfold checkM
 rw [if_neg (by decide),if_neg (by decide)]
 have hone:∀ one som:Bool,defM sq_S.length ⟨[⟨⟨true,[]⟩,2,false⟩],one,som⟩=0:=fun one som=>by
  unfold defM
  rw [if_neg (by simp)]
  refine fields0 _ _ (fun i hi=>?_) _ _
  have hi':i=0:=by simpa using hi
  subst hi'
  exact field0 (by simp) (by simp) (by simp [sq_S]) (by simp) (by simp)
 refine defs0 _ _ fun d hd=>?_
 have hd':=hd
 simp only [sq_S,List.mem_cons,List.not_mem_nil,or_false] at hd'
 rcases hd' with rfl|rfl|rfl|rfl
 ·unfold defM
  rw [if_neg (by simp)]
  refine fields0 _ _ (fun i hi=>?_) _ _
  have hi':i=0∨i=1:=by
   have:i < 2:=by simpa using hi
   omega
  rcases hi' with rfl|rfl
  ·exact field0 (by simp) (show ([sqa,sqb].any fun x=>decide (80 < x.size))=false by decide +kernel) (by simp [sq_S]) (by simp) (by simp)
  ·refine field0 (by simp) (show ([sqa,sqb,sqno].any fun x=>decide (80 < x.size))=false by decide +kernel) (by simp [sq_S]) (by simp) (fun o ho=>?_)
   have:o=⟨⟨false,[sqa,sqb]⟩,1,true⟩:=by simpa using ho
   subst this
   exact apart_cut (by simp)
 ·exact hone _ _
 ·unfold defM
  rw [if_neg (by simp)]
  rfl
 ·exact hone _ _
theorem sq_fits {d:Int} {t:Tr} {r:Bool} (h:deepF 4 t=true) (hr:fitsF 4 sq_S d t=r):schema_Fits.f sq_S d t=some r:=by
 unfold schema_Fits.f
 rw [if_pos ⟨sq_ok,deep_ok _ _ h⟩,fitsF_eq 4 _ _ _ h,hr]
theorem sq_l_fits (kk:Int) (h0:0≤kk) (h8:kk < 8):schema_Fits.f sq_S 0 (rd_L10 sq_l kk)=some (rdOf false sq_w kk):=by
 have h:kk=0∨kk=1∨kk=2∨kk=3∨kk=4∨kk=5∨kk=6∨kk=7:=by omega
 rcases h with rfl|rfl|rfl|rfl|rfl|rfl|rfl|rfl
 all_goals exact sq_fits (by decide +kernel) (by decide +kernel)
theorem sq_hf1:schema_Fits.f sq_S 1 sq_v=some true:=sq_fits (by decide +kernel) (by decide +kernel)
theorem sq_hf2:schema_Fits.f sq_S 1 sq_two=some false:=sq_fits (by decide +kernel) (by decide +kernel)
theorem sq_hf3:schema_Fits.f sq_S 1 []=some false:=sq_fits (by decide +kernel) (by decide +kernel)
theorem sq_hf4:schema_Fits.f sq_S 3 sq_two=some true:=sq_fits (by decide +kernel) (by decide +kernel)
theorem sq_hf5:schema_Fits.f sq_S 3 []=some false:=sq_fits (by decide +kernel) (by decide +kernel)
theorem sq_hf6:schema_Fits.f sq_S 2 []=some true:=sq_fits (by decide +kernel) (by decide +kernel)
theorem sq_hf7:schema_Fits.f sq_S 4 []=some false:=sq_fits (by decide +kernel) (by decide +kernel)
theorem sq_hf8:schema_Fits.f sq_S (-1) []=some false:=sq_fits (by decide +kernel) (by decide +kernel)
theorem sq_to {a:ByteArray} {r:Int} (h:toM sq_S 0 a=r):schema_To.f sq_S 0 a=some r:=by
 unfold schema_To.f
 rw [if_pos sq_ok,h]
theorem sq_ht1:schema_To.f sq_S 0 ⟨#[110,111]⟩=some (-1):=sq_to (by decide +kernel)
theorem sq_ht2:schema_To.f sq_S 0 ⟨#[98]⟩=some 1:=sq_to (by decide +kernel)
theorem sq_ht3:schema_To.f sq_S 0 ⟨#[113]⟩=some 2:=sq_to (by decide +kernel)
end Go.Proofs.Ytoihiehoolehiaa.PX
namespace Go.Proofs.Ytoihiehoolehiaa.PX
open Go.RowKit Go.Proofs.YtoihiehoolehiaaW.PrintWords Go.Proofs.YtoihiehoolehiaaW.PrintLast Go.Proofs.YtoihiehoolehiaaW.PrintMore
attribute [local go_sem] max2_int min2_int max_two min_two max_three min_three max_four min_four   
set_option linter.unusedVariables false
set_option linter.unusedSimpArgs false
attribute [local go_sem] run_field_87_0
def cadencelaw4_within.f (a0:Int) (a1:Int):Option (Int):=if a1=0 then (none) else (if (Int.tmod a0 a1) < 0 then (some (wrap64 ((Int.tmod a0 a1)+a1))) else (some (Int.tmod a0 a1)))
set_option maxHeartbeats 8000000 in
set_option maxRecDepth 100000 in
theorem cadencelaw4_within.calls (a0:Int) (a1:Int) (r:Int) (w:World) (h:cadencelaw4_within.f a0 a1=some r) :
  Calls Try.prog 13 #[.int .i64 a0,.int .i64 a1] w fun e w'=>e=.returned (.int .i64 r)∧Drawn0 w w':=by
 have H:(if a1=0 then (none) else (if (Int.tmod a0 a1) < 0 then (some (wrap64 ((Int.tmod a0 a1)+a1))) else (some (Int.tmod a0 a1))))=some r:=h
 clear h
 by_cases c3:a1=0
 ·rw [if_pos c3] at H
  exact absurd H (by simp)
 ·rw [if_neg c3] at H
  have c3b0:(a1 == 0)=false:=beq_eq_false_iff_ne.mpr c3
  have c3b1:(a1 != 0)=true:=bne_iff_ne.mpr c3
  by_cases c4:(Int.tmod a0 a1) < 0
  ·rw [if_pos c4] at H
   have c4b0:decide ((Int.tmod a0 a1) < 0)=true:=decide_eq_true c4
   clear c4
   obtain rfl:=Option.some.inj H
   go_enter Try.func13,Try.ntmps13
   go_wp2
   go_ret
   exact ⟨by first|rfl|(simp;done)|(simp [*];done),by repeat (first|exact Drawn0.refl _|apply Drawn0.step)⟩
  ·rw [if_neg c4] at H
   have c4b0:decide ((Int.tmod a0 a1) < 0)=false:=decide_eq_false c4
   clear c4
   obtain rfl:=Option.some.inj H
   go_enter Try.func13,Try.ntmps13
   go_wp2
   go_ret
   exact ⟨by first|rfl|(simp;done)|(simp [*];done),by repeat (first|exact Drawn0.refl _|apply Drawn0.step)⟩
end Go.Proofs.Ytoihiehoolehiaa.PX
namespace Go.Proofs.Ytoihiehoolehiaa.PX
open Go.RowKit Go.Proofs.YtoihiehoolehiaaW.PrintWords Go.Proofs.YtoihiehoolehiaaW.PrintLast Go.Proofs.YtoihiehoolehiaaW.PrintMore
attribute [local go_sem] max2_int min2_int max_two min_two max_three min_three max_four min_four   
set_option linter.unusedVariables false
set_option linter.unusedSimpArgs false
attribute [local go_sem] run_field_87_0
def cadenceref2_Value.f (a0:ByteArray):Option ((List (S53))):=some (([(⟨a0,([]:List (S53))⟩:S53)]:List (S53)))
set_option maxHeartbeats 8000000 in
set_option maxRecDepth 100000 in
theorem cadenceref2_Value.calls (a0:ByteArray) (r:List (S53)) (w:World) (h:cadenceref2_Value.f a0=some r) :
  Calls Try.prog 22 #[.string a0] w fun e w'=>∃ v0_:Value,e=.returned (v0_)∧Kd.R k53 53 w' w.heap.size (fun _=>True) v0_ r∧Below w.heap.size w w':=by
 have hu53:=Try.underlying53
 have HB:=Aside0.mk (Below.refl w.heap.size w)
 have H:(some (([(⟨a0,([]:List (S53))⟩:S53)]:List (S53))))=some r:=h
 clear h
 obtain ⟨y368,hy368⟩:∃ y_:List (S53),y_=(([(⟨a0,([]:List (S53))⟩:S53)]:List (S53))):=⟨_,rfl⟩
 replace H:(some y368)=some r:=by first|(rw [hy368];with_reducible exact H)|(have H2_:=(Option.bind_some _ _).symm.trans H;rw [hy368];with_reducible exact H2_)|(have H2_:=(Option.bind_some _ _).symm.trans H;with_reducible exact H2_)|with_reducible exact H|(rw [hy368];exact H)|exact H
 have Ny368:=Aside0.mk hy368
 clear hy368
 obtain rfl:=Option.some.inj H
 go_enter Try.func22,Try.ntmps22
 go_wp2_with (first|((with_reducible refine gate_dst (N:=5) rfl ?_);refine Kd.R_lit k53 _ 53 ?hg (N:=5) ?hd (xs:=([(⟨a0,([]:List (S53))⟩:S53)]:List (S53))) (inner:=[.string a0,.slice none 0 0]) (ok:=fun _=>True) (okp:=fun _=>True) ?hr ?hp (fun _ hk=>hk) trivial (Below.refl _ _) (Nat.le_refl _) (by simp) ?_;(case hd=>rfl);(case hg=>rfl);(case hr=>first|(go_simp;done)|(go_simp;rfl));(case hp=>exact (Reps.c2 (show Kd.M k53 _ _ _ (⟨a0,([]:List (S53))⟩:S53) [.string a0,.slice none 0 0] from (k53_mkM _ _ _ (⟨a0,([]:List (S53))⟩:S53) (Kd.R_nil _ _ _ _ _))) (Reps.none _ _)));intro v369 w2 ho3 hb hg_ hnew_;clear hg_ hnew_;(first|rw [← Ny368.out] at ho3|(simp only [Int.reduceToNat] at ho3;rw [← Ny368.out] at ho3));have n0_:=Aside0.mk (Kd.R_lower ho3 (below_size (by repeat (first|(with_reducible first|exact HB.out|apply bA_|apply bN_|apply bD_)|exact HB.out))));have n1_:=Aside0.mk (below_step (by repeat (first|(with_reducible first|exact HB.out|apply bA_|apply bN_|apply bD_)|exact HB.out)) hb);clear HB;have HO370:=n0_;have HB:=n1_;clear n0_ n1_;clear hb ho3))
 go_ret
 exact ⟨_,by first|rfl|(simp [errW_none,errW_some] <;> rfl)|(simp [*,errW_none,errW_some] <;> rfl),by (with_reducible repeat (first|apply rA_|apply rN_|apply rD_));exact HO370.out,by repeat (first|(with_reducible first|exact HB.out|apply bA_|apply bN_|apply bD_)|exact HB.out)⟩
end Go.Proofs.Ytoihiehoolehiaa.PX
set_option linter.unusedVariables false
set_option linter.unusedSimpArgs false
namespace Go.Proofs.Ytoihiehoolehiaa.PX
open Go.RowKit Go.Proofs.YtoihiehoolehiaaW.PrintWords Go.Proofs.YtoihiehoolehiaaW.PrintLast Go.Proofs.YtoihiehoolehiaaW.PrintMore Go.Proofs.Ytoihiehoolehiaa Go.Shelf
section
variable {P : Program} {ops : Array Oper} {rest : List Oper} {o : Oper} {a : Act} {Q : Exit → Act → World → Prop}
theorem C_lit {α : Type} (d : Kd α) (W : World) (e : Nat) {xs : List α} {inner : List Value} (hr : Reps (d.K W) d.sz xs inner) (hm : xs.length ≤ 9223372036854775807) : d.C (W.alloc (.cells inner.toArray e)) (some ⟨W.heap.size, 0, none⟩) xs.length xs := by
  obtain ⟨A, c, he, _, h⟩ := (OwnRow.lit (e := e) W W.heap.size hr (Nat.le_refl _) hm).reads
  injection he with h1 _ _
  subst h1
  exact ReadsRow.imp_ (w := W.alloc (.cells inner.toArray e)) h (Below.refl _ _) (fun p c hp => d.K_below (below_alloc (Below.refl _ _) _) hp)
theorem lit_event {α : Type} (d : Kd α) (e : Nat) {W : World} (hgd : o.guard = none) {N : Tmp} (_hd : o.dst = some N) {xs ys : List α} {inner : List Value} (hy : ys = xs)
    (hrun : (execOp a.eval o).run P W = .ok (.value (.slice (some ⟨W.heap.size, 0, none⟩) xs.length xs.length)) (W.alloc (.cells inner.toArray e)))
    (hrep : Reps (d.K W) d.sz xs inner) (hm : xs.length ≤ 9223372036854775807)
    (h : ∀ A1 w1, d.C w1 A1 ys.length ys → Below W.heap.size W w1 → wpList P ops Q rest (a.put o.dst (.slice A1 ys.length ys.length)) w1) : wpList P ops Q (o :: rest) a W := by
  subst hy
  exact Kd.event_run hgd hrun (h _ _ (C_lit d W e hrep hm) (below_alloc (Below.refl _ _) _))
end
def knT : Bool × List (List Nat × List Nat) := (true, [([], []), ([0], [0]), ([1], [1]), ([2, 1], [2]), ([3], [3]), ([3], [3]), ([3], [3]), ([5, 6, 3], [3, 5, 6]), ([7, 3], [3, 7]), ([4, 8, 3, 3], [3, 4, 8]), ([3], [3]), ([3], [3]), ([10, 11, 3], [3, 10, 11]), ([12, 3], [3, 12]), ([9, 13, 3], [3, 9, 13]), ([3, 14], [3, 14]), ([15, 9], [15]), ([16], [16]), ([16], [16]), ([17, 18, 16, 16], [16, 17, 18]), ([16, 19], [16, 19]), ([20, 19], [20]), ([21], [21]), ([21], [21]), ([22, 23, 21, 21], [21, 22, 23]), ([24, 21], [21, 24]), ([21, 25], [21, 25]), ([26, 24], [26]), ([27], [27]), ([28, 27, 27], [27, 28]), ([29, 27], [27, 29]), ([27, 30], [27, 30]), ([31, 29], [31]), ([32], [32]), ([32], [32]), ([33, 34, 32, 32], [32, 33, 34]), ([32, 35], [32, 35]), ([36, 35], [36]), ([37], [37]), ([38, 37, 37], [37, 38]), ([39, 37], [37, 39]), ([37, 40], [37, 40]), ([41, 39], [41]), ([42], [42]), ([43, 42, 42], [42, 43]), ([42, 44], [42, 44]), ([45, 44], [45]), ([46], [46]), ([47, 46, 46], [46, 47]), ([48, 46], [46, 48]), ([46, 49], [46, 49]), ([50, 48], [50]), ([51], [51]), ([52, 51, 51], [51, 52]), ([53, 51], [51, 53]), ([51, 54], [51, 54]), ([55, 53], [55]), ([56], [56]), ([57, 56, 56], [56, 57]), ([58, 56], [56, 58]), ([56, 59], [56, 59]), ([60, 58], [60]), ([61], [61]), ([62, 61, 61], [61, 62]), ([63, 61], [61, 63]), ([61, 64], [61, 64]), ([65, 63], [65]), ([66], [66]), ([67, 66, 66], [66, 67]), ([68, 66], [66, 68]), ([66, 69], [66, 69]), ([70, 68, 0, 1, 2, 3, 4, 5, 6, 7, 8, 9, 10, 11, 12, 13, 14, 15, 16, 17, 18, 19, 20, 21, 22, 23, 24, 25, 26, 27, 28, 29, 30, 31, 32, 33, 34, 35, 36, 37, 38, 39, 40, 41, 42, 43, 44, 45, 46, 47, 48, 49, 50, 51, 52, 53, 54, 55, 56, 57, 58, 59, 60, 61, 62, 63, 64, 65, 66, 67, 68, 69, 70], [70])])
def knB : List Nat := [0, 1, 3, 7, 15, 15, 15, 111, 239, 511, 15, 15, 3087, 7183, 16383, 32767, 65535, 131071, 131071, 524287, 1048575, 2097151, 4194303, 4194303, 16777215, 33554431, 67108863, 134217727, 268435455, 536870911, 1073741823, 2147483647, 4294967295, 8589934591, 8589934591, 34359738367, 68719476735, 137438953471, 274877906943, 549755813887, 1099511627775, 2199023255551, 4398046511103, 8796093022207, 17592186044415, 35184372088831, 70368744177663, 140737488355327, 281474976710655, 562949953421311, 1125899906842623, 2251799813685247, 4503599627370495, 9007199254740991, 18014398509481983, 36028797018963967, 72057594037927935, 144115188075855871, 288230376151711743, 576460752303423487, 1152921504606846975, 2305843009213693951, 4611686018427387903, 9223372036854775807, 18446744073709551615, 36893488147419103231, 73786976294838206463, 147573952589676412927, 295147905179352825855, 590295810358705651711, 1180591620717411303423, 2361183241434822606847]
theorem kn_tab : rtab .any (opsOf Try.f5 9) = knT := by kernel_rfl
theorem kn_bits : waitsOk knT.2 knB = true := by kernel_rfl
set_option maxHeartbeats 16000000 in
set_option maxRecDepth 100000 in
theorem known_calls (a0 kk : Int) (hk0 : cadencelaw4_within.f a0 8 = some kk) (h0 : 0 ≤ kk) (h8 : kk < 8) (w : World) :
    Calls Try.prog 5 #[.int .i64 a0] w fun e w' => e = .returned (.bool true) ∧ Below w.heap.size w w' := by
  obtain ⟨y11, Y11_⟩ : ∃ y : List ByteArray, y = [(⟨#[97]⟩ : ByteArray), (⟨#[98]⟩ : ByteArray)] := ⟨_, rfl⟩
  have Y11 := Aside0.mk Y11_
  obtain ⟨y14, Y14_⟩ : ∃ y : List ByteArray, y = [(⟨#[97]⟩ : ByteArray), (⟨#[98]⟩ : ByteArray), (⟨#[110, 111]⟩ : ByteArray)] := ⟨_, rfl⟩
  have Y14 := Aside0.mk Y14_
  obtain ⟨y17, Y17_⟩ : ∃ y : List S40, y = [(⟨⟨false, y11⟩, 1, true⟩ : S40), (⟨⟨true, y14⟩, 2, false⟩ : S40)] := ⟨_, rfl⟩
  have Y17 := Aside0.mk Y17_
  obtain ⟨y21, Y21_⟩ : ∃ y : List S40, y = [(⟨⟨true, ([] : List ByteArray)⟩, 2, false⟩ : S40)] := ⟨_, rfl⟩
  have Y21 := Aside0.mk Y21_
  obtain ⟨y26, Y26_⟩ : ∃ y : List S40, y = [(⟨⟨true, ([] : List ByteArray)⟩, 2, false⟩ : S40)] := ⟨_, rfl⟩
  have Y26 := Aside0.mk Y26_
  obtain ⟨y28, Y28_⟩ : ∃ y : List S33, y = [(⟨y17, false, false⟩ : S33), (⟨y21, true, false⟩ : S33), (⟨([] : List S40), false, false⟩ : S33), (⟨y26, false, true⟩ : S33)] := ⟨_, rfl⟩
  have Y28 := Aside0.mk Y28_
  obtain ⟨y29, Y29_⟩ : ∃ y : List S53, y = [(⟨(⟨#[118]⟩ : ByteArray), ([] : List S53)⟩ : S53)] := ⟨_, rfl⟩
  have Y29 := Aside0.mk Y29_
  obtain ⟨y32, Y32_⟩ : ∃ y : List S53, y = [(⟨(⟨#[117]⟩ : ByteArray), ([] : List S53)⟩ : S53), (⟨(⟨#[118]⟩ : ByteArray), ([] : List S53)⟩ : S53)] := ⟨_, rfl⟩
  have Y32 := Aside0.mk Y32_
  obtain ⟨y37, Y37_⟩ : ∃ y : List S53, y = [(⟨(⟨#[97]⟩ : ByteArray), y29⟩ : S53), (⟨(⟨#[98]⟩ : ByteArray), y29⟩ : S53)] := ⟨_, rfl⟩
  have Y37 := Aside0.mk Y37_
  obtain ⟨y40, Y40_⟩ : ∃ y : List S53, y = [(⟨(⟨#[97]⟩ : ByteArray), y29⟩ : S53)] := ⟨_, rfl⟩
  have Y40 := Aside0.mk Y40_
  obtain ⟨y45, Y45_⟩ : ∃ y : List S53, y = [(⟨(⟨#[97]⟩ : ByteArray), y29⟩ : S53), (⟨(⟨#[98]⟩ : ByteArray), y32⟩ : S53)] := ⟨_, rfl⟩
  have Y45 := Aside0.mk Y45_
  obtain ⟨y49, Y49_⟩ : ∃ y : List S53, y = [(⟨(⟨#[97]⟩ : ByteArray), y29⟩ : S53), (⟨(⟨#[98]⟩ : ByteArray), ([] : List S53)⟩ : S53)] := ⟨_, rfl⟩
  have Y49 := Aside0.mk Y49_
  obtain ⟨y55, Y55_⟩ : ∃ y : List S53, y = [(⟨(⟨#[97]⟩ : ByteArray), y29⟩ : S53), (⟨(⟨#[98]⟩ : ByteArray), y29⟩ : S53), (⟨(⟨#[120]⟩ : ByteArray), ([] : List S53)⟩ : S53)] := ⟨_, rfl⟩
  have Y55 := Aside0.mk Y55_
  obtain ⟨y62, Y62_⟩ : ∃ y : List S53, y = [(⟨(⟨#[97]⟩ : ByteArray), y29⟩ : S53), (⟨(⟨#[98]⟩ : ByteArray), y29⟩ : S53), (⟨(⟨#[120]⟩ : ByteArray), y29⟩ : S53)] := ⟨_, rfl⟩
  have Y62 := Aside0.mk Y62_
  obtain ⟨y68, Y68_⟩ : ∃ y : List S53, y = [(⟨(⟨#[97]⟩ : ByteArray), y29⟩ : S53), (⟨(⟨#[98]⟩ : ByteArray), y29⟩ : S53), (⟨(⟨#[110, 111]⟩ : ByteArray), ([] : List S53)⟩ : S53)] := ⟨_, rfl⟩
  have Y68 := Aside0.mk Y68_
  obtain ⟨y69, Y69_⟩ : ∃ y : List (List S53), y = [y37, y40, y45, y49, y55, y62, y68, ([] : List S53)] := ⟨_, rfl⟩
  have Y69 := Aside0.mk Y69_
  obtain ⟨y70, Y70_⟩ : ∃ y : List Bool, y = [true, false, false, false, true, false, false, false] := ⟨_, rfl⟩
  have Y70 := Aside0.mk Y70_
  obtain ⟨KN, hkn0, hck0⟩ := Ev.two known4 (check_ev sq_S sq_few)
  have hkn := Aside0.mk hkn0
  have hwi := Aside0.mk hk0
  have eS : y28 = sq_S := by rw [Y28_, Y17_, Y21_, Y26_, Y11_, Y14_]; rfl
  have hck := Aside0.mk (show schema_Check.f KN y28 = some 0 by rw [eS]; exact hck0.trans (congrArg some sq_check))
  have h69 : kk < (y69.length : Int) := by rw [Y69_]; exact h8
  have h70 : kk < (y70.length : Int) := by rw [Y70_]; exact h8
  have e29 : y29 = sq_v := by rw [Y29_]; rfl
  have e32 : y32 = sq_two := by rw [Y32_]; rfl
  have e69 : y69 = sq_l := by rw [Y69_, Y37_, Y40_, Y45_, Y49_, Y55_, Y62_, Y68_, Y29_, Y32_]; rfl
  have e70 : y70 = sq_w := by rw [Y70_]; rfl
  have Y29v := Aside0.mk (show cadenceref2_Value.f (⟨#[118]⟩ : ByteArray) = some y29 by rw [e29]; rfl)
  have hf0 := Aside0.mk (show schema_Fits.f y28 0 (rd_L10 y69 kk) = some (rdOf false y70 kk) by rw [eS, e69, e70]; exact sq_l_fits kk h0 h8)
  have hf1 := Aside0.mk (show schema_Fits.f y28 1 y29 = some true by rw [eS, e29]; exact sq_hf1)
  have hf2 := Aside0.mk (show schema_Fits.f y28 1 y32 = some false by rw [eS, e32]; exact sq_hf2)
  have hf4 := Aside0.mk (show schema_Fits.f y28 3 y32 = some true by rw [eS, e32]; exact sq_hf4)
  have hf3 := Aside0.mk (show schema_Fits.f y28 1 [] = some false by rw [eS]; exact sq_hf3)
  have hf5 := Aside0.mk (show schema_Fits.f y28 3 [] = some false by rw [eS]; exact sq_hf5)
  have hf6 := Aside0.mk (show schema_Fits.f y28 2 [] = some true by rw [eS]; exact sq_hf6)
  have hf7 := Aside0.mk (show schema_Fits.f y28 4 [] = some false by rw [eS]; exact sq_hf7)
  have hf8 := Aside0.mk (show schema_Fits.f y28 (-1) [] = some false by rw [eS]; exact sq_hf8)
  have ht1 := Aside0.mk (show schema_To.f y28 0 (⟨#[110, 111]⟩ : ByteArray) = some (-1) by rw [eS]; exact sq_ht1)
  have ht2 := Aside0.mk (show schema_To.f y28 0 (⟨#[98]⟩ : ByteArray) = some 1 by rw [eS]; exact sq_ht2)
  have ht3 := Aside0.mk (show schema_To.f y28 0 (⟨#[113]⟩ : ByteArray) = some 2 by rw [eS]; exact sq_ht3)
  clear hkn0 hck0 hk0 eS e29 e32 e69 e70
  clear Y11_ Y14_ Y17_ Y21_ Y26_ Y28_ Y32_ Y37_ Y40_ Y45_ Y49_ Y55_ Y62_ Y68_ Y69_ Y70_ Y29_
  have h8' : kk < 8 := h8
  have HB := Aside0.mk (Below.refl w.heap.size w)
  go_enter Try.func5, Try.ntmps5
  go_wp2_with (first
    | (go_at_call 8; (with_reducible refine (cadencelaw4_known.calls KN true _ hkn.out).mono ?_); rintro e_ W9 ⟨rfl, hb⟩; have NB := Aside0.mk (below_step (by repeat (first | (with_reducible first | exact HB.out | apply below_alloc | apply pw_below_drewN | apply below_drew1) | exact HB.out)) hb); clear HB; have HB := NB; clear NB; clear hb)
    | ((with_reducible refine gate_dst (N := 11) rfl ?_); refine lit_event Kd.string 9 ?hg (N := 11) ?hd (xs := [(⟨#[97]⟩ : ByteArray), (⟨#[98]⟩ : ByteArray)]) (ys := y11) (inner := [.string (⟨#[97]⟩ : ByteArray), .string (⟨#[98]⟩ : ByteArray)]) Y11.out ?hr ?hp ?hm ?_; (case hd => rfl); (case hg => rfl); (case hm => simp); (case hr => first | (go_simp; done) | (go_simp; rfl)); (case hp => exact (Reps.one (show Kd.string.K _ (⟨#[97]⟩ : ByteArray) [.string (⟨#[97]⟩ : ByteArray)] from rfl) (Reps.one (show Kd.string.K _ (⟨#[98]⟩ : ByteArray) [.string (⟨#[98]⟩ : ByteArray)] from rfl) (Reps.none _ _)))); intro A11 W11 F11_ hb; have G11 := Aside0.mk F11_; clear F11_; have NB := Aside0.mk (below_step (by repeat (first | (with_reducible first | exact HB.out | apply below_alloc | apply pw_below_drewN | apply below_drew1) | exact HB.out)) hb); clear HB; have HB := NB; clear NB; clear hb; have F11 := G11; clear G11)
    | ((with_reducible refine gate_dst (N := 14) rfl ?_); refine lit_event Kd.string 9 ?hg (N := 14) ?hd (xs := [(⟨#[97]⟩ : ByteArray), (⟨#[98]⟩ : ByteArray), (⟨#[110, 111]⟩ : ByteArray)]) (ys := y14) (inner := [.string (⟨#[97]⟩ : ByteArray), .string (⟨#[98]⟩ : ByteArray), .string (⟨#[110, 111]⟩ : ByteArray)]) Y14.out ?hr ?hp ?hm ?_; (case hd => rfl); (case hg => rfl); (case hm => simp); (case hr => first | (go_simp; done) | (go_simp; rfl)); (case hp => exact (Reps.one (show Kd.string.K _ (⟨#[97]⟩ : ByteArray) [.string (⟨#[97]⟩ : ByteArray)] from rfl) (Reps.one (show Kd.string.K _ (⟨#[98]⟩ : ByteArray) [.string (⟨#[98]⟩ : ByteArray)] from rfl) (Reps.one (show Kd.string.K _ (⟨#[110, 111]⟩ : ByteArray) [.string (⟨#[110, 111]⟩ : ByteArray)] from rfl) (Reps.none _ _))))); intro A14 W14 F14_ hb; have G14 := Aside0.mk F14_; clear F14_; have N11 := Aside0.mk (Kd.C_below (by (with_reducible repeat (first | apply Kd.C_alloc | apply Kd.C_drewN | apply Kd.C_drew)); exact F11.out) hb); have NB := Aside0.mk (below_step (by repeat (first | (with_reducible first | exact HB.out | apply below_alloc | apply pw_below_drewN | apply below_drew1) | exact HB.out)) hb); clear HB; clear F11; have F11 := N11; clear N11; have HB := NB; clear NB; clear hb; have F14 := G14; clear G14)
    | ((with_reducible refine gate_dst (N := 17) rfl ?_); refine lit_event k40 40 ?hg (N := 17) ?hd (xs := [(⟨⟨false, y11⟩, 1, true⟩ : S40), (⟨⟨true, y14⟩, 2, false⟩ : S40)]) (ys := y17) (inner := [.bool false, .slice A11 y11.length y11.length, .int .i64 1, .bool true, .bool true, .slice A14 y14.length y14.length, .int .i64 2, .bool false]) Y17.out ?hr ?hp ?hm ?_; (case hd => rfl); (case hg => rfl); (case hm => simp); (case hr => first | (go_simp; done) | (go_simp; rfl)); (case hp => exact (Reps.c4 (show k40.K _ (⟨⟨false, y11⟩, 1, true⟩ : S40) [.bool false, .slice A11 y11.length y11.length, .int .i64 1, .bool true] from k40_mk _ (⟨⟨false, y11⟩, 1, true⟩ : S40) (Nat.le_refl _) (by (with_reducible repeat (first | apply Kd.C_alloc | apply Kd.C_drewN | apply Kd.C_drew)); exact F11.out)) (Reps.c4 (show k40.K _ (⟨⟨true, y14⟩, 2, false⟩ : S40) [.bool true, .slice A14 y14.length y14.length, .int .i64 2, .bool false] from k40_mk _ (⟨⟨true, y14⟩, 2, false⟩ : S40) (Nat.le_refl _) (by (with_reducible repeat (first | apply Kd.C_alloc | apply Kd.C_drewN | apply Kd.C_drew)); exact F14.out)) (Reps.none _ _)))); intro A17 W17 F17_ hb; have G17 := Aside0.mk F17_; clear F17_; have N11 := Aside0.mk (Kd.C_below (by (with_reducible repeat (first | apply Kd.C_alloc | apply Kd.C_drewN | apply Kd.C_drew)); exact F11.out) hb); have N14 := Aside0.mk (Kd.C_below (by (with_reducible repeat (first | apply Kd.C_alloc | apply Kd.C_drewN | apply Kd.C_drew)); exact F14.out) hb); have NB := Aside0.mk (below_step (by repeat (first | (with_reducible first | exact HB.out | apply below_alloc | apply pw_below_drewN | apply below_drew1) | exact HB.out)) hb); clear HB; clear F11; have F11 := N11; clear N11; clear F14; have F14 := N14; clear N14; have HB := NB; clear NB; clear hb; have F17 := G17; clear G17)
    | ((with_reducible refine gate_dst (N := 21) rfl ?_); refine lit_event k40 40 ?hg (N := 21) ?hd (xs := [(⟨⟨true, ([] : List ByteArray)⟩, 2, false⟩ : S40)]) (ys := y21) (inner := [.bool true, .slice none 0 0, .int .i64 2, .bool false]) Y21.out ?hr ?hp ?hm ?_; (case hd => rfl); (case hg => rfl); (case hm => simp); (case hr => first | (go_simp; done) | (go_simp; rfl)); (case hp => exact (Reps.c4 (show k40.K _ (⟨⟨true, ([] : List ByteArray)⟩, 2, false⟩ : S40) [.bool true, .slice none 0 0, .int .i64 2, .bool false] from k40_mk _ (⟨⟨true, ([] : List ByteArray)⟩, 2, false⟩ : S40) (Nat.le_refl _) (Kd.C_nil _ _)) (Reps.none _ _))); intro A21 W21 F21_ hb; have G21 := Aside0.mk F21_; clear F21_; have N11 := Aside0.mk (Kd.C_below (by (with_reducible repeat (first | apply Kd.C_alloc | apply Kd.C_drewN | apply Kd.C_drew)); exact F11.out) hb); have N14 := Aside0.mk (Kd.C_below (by (with_reducible repeat (first | apply Kd.C_alloc | apply Kd.C_drewN | apply Kd.C_drew)); exact F14.out) hb); have N17 := Aside0.mk (Kd.C_below (by (with_reducible repeat (first | apply Kd.C_alloc | apply Kd.C_drewN | apply Kd.C_drew)); exact F17.out) hb); have NB := Aside0.mk (below_step (by repeat (first | (with_reducible first | exact HB.out | apply below_alloc | apply pw_below_drewN | apply below_drew1) | exact HB.out)) hb); clear HB; clear F11; have F11 := N11; clear N11; clear F14; have F14 := N14; clear N14; clear F17; have F17 := N17; clear N17; have HB := NB; clear NB; clear hb; have F21 := G21; clear G21)
    | ((with_reducible refine gate_dst (N := 26) rfl ?_); refine lit_event k40 40 ?hg (N := 26) ?hd (xs := [(⟨⟨true, ([] : List ByteArray)⟩, 2, false⟩ : S40)]) (ys := y26) (inner := [.bool true, .slice none 0 0, .int .i64 2, .bool false]) Y26.out ?hr ?hp ?hm ?_; (case hd => rfl); (case hg => rfl); (case hm => simp); (case hr => first | (go_simp; done) | (go_simp; rfl)); (case hp => exact (Reps.c4 (show k40.K _ (⟨⟨true, ([] : List ByteArray)⟩, 2, false⟩ : S40) [.bool true, .slice none 0 0, .int .i64 2, .bool false] from k40_mk _ (⟨⟨true, ([] : List ByteArray)⟩, 2, false⟩ : S40) (Nat.le_refl _) (Kd.C_nil _ _)) (Reps.none _ _))); intro A26 W26 F26_ hb; have G26 := Aside0.mk F26_; clear F26_; have N11 := Aside0.mk (Kd.C_below (by (with_reducible repeat (first | apply Kd.C_alloc | apply Kd.C_drewN | apply Kd.C_drew)); exact F11.out) hb); have N14 := Aside0.mk (Kd.C_below (by (with_reducible repeat (first | apply Kd.C_alloc | apply Kd.C_drewN | apply Kd.C_drew)); exact F14.out) hb); have N17 := Aside0.mk (Kd.C_below (by (with_reducible repeat (first | apply Kd.C_alloc | apply Kd.C_drewN | apply Kd.C_drew)); exact F17.out) hb); have N21 := Aside0.mk (Kd.C_below (by (with_reducible repeat (first | apply Kd.C_alloc | apply Kd.C_drewN | apply Kd.C_drew)); exact F21.out) hb); have NB := Aside0.mk (below_step (by repeat (first | (with_reducible first | exact HB.out | apply below_alloc | apply pw_below_drewN | apply below_drew1) | exact HB.out)) hb); clear HB; clear F11; have F11 := N11; clear N11; clear F14; have F14 := N14; clear N14; clear F17; have F17 := N17; clear N17; clear F21; have F21 := N21; clear N21; have HB := NB; clear NB; clear hb; have F26 := G26; clear G26)
    | ((with_reducible refine gate_dst (N := 28) rfl ?_); refine lit_event k33 33 ?hg (N := 28) ?hd (xs := [(⟨y17, false, false⟩ : S33), (⟨y21, true, false⟩ : S33), (⟨([] : List S40), false, false⟩ : S33), (⟨y26, false, true⟩ : S33)]) (ys := y28) (inner := [.slice A17 y17.length y17.length, .bool false, .bool false, .slice A21 y21.length y21.length, .bool true, .bool false, .slice none 0 0, .bool false, .bool false, .slice A26 y26.length y26.length, .bool false, .bool true]) Y28.out ?hr ?hp ?hm ?_; (case hd => rfl); (case hg => rfl); (case hm => simp); (case hr => first | (go_simp; done) | (go_simp; rfl)); (case hp => exact (Reps.c3 (show k33.K _ (⟨y17, false, false⟩ : S33) [.slice A17 y17.length y17.length, .bool false, .bool false] from k33_mk _ (⟨y17, false, false⟩ : S33) (Nat.le_refl _) (by (with_reducible repeat (first | apply Kd.C_alloc | apply Kd.C_drewN | apply Kd.C_drew)); exact F17.out)) (Reps.c3 (show k33.K _ (⟨y21, true, false⟩ : S33) [.slice A21 y21.length y21.length, .bool true, .bool false] from k33_mk _ (⟨y21, true, false⟩ : S33) (Nat.le_refl _) (by (with_reducible repeat (first | apply Kd.C_alloc | apply Kd.C_drewN | apply Kd.C_drew)); exact F21.out)) (Reps.c3 (show k33.K _ (⟨([] : List S40), false, false⟩ : S33) [.slice none 0 0, .bool false, .bool false] from k33_mk _ (⟨([] : List S40), false, false⟩ : S33) (Nat.le_refl _) (Kd.C_nil _ _)) (Reps.c3 (show k33.K _ (⟨y26, false, true⟩ : S33) [.slice A26 y26.length y26.length, .bool false, .bool true] from k33_mk _ (⟨y26, false, true⟩ : S33) (Nat.le_refl _) (by (with_reducible repeat (first | apply Kd.C_alloc | apply Kd.C_drewN | apply Kd.C_drew)); exact F26.out)) (Reps.none _ _)))))); intro A28 W28 F28_ hb; have G28 := Aside0.mk F28_; clear F28_; have N11 := Aside0.mk (Kd.C_below (by (with_reducible repeat (first | apply Kd.C_alloc | apply Kd.C_drewN | apply Kd.C_drew)); exact F11.out) hb); have N14 := Aside0.mk (Kd.C_below (by (with_reducible repeat (first | apply Kd.C_alloc | apply Kd.C_drewN | apply Kd.C_drew)); exact F14.out) hb); have N17 := Aside0.mk (Kd.C_below (by (with_reducible repeat (first | apply Kd.C_alloc | apply Kd.C_drewN | apply Kd.C_drew)); exact F17.out) hb); have N21 := Aside0.mk (Kd.C_below (by (with_reducible repeat (first | apply Kd.C_alloc | apply Kd.C_drewN | apply Kd.C_drew)); exact F21.out) hb); have N26 := Aside0.mk (Kd.C_below (by (with_reducible repeat (first | apply Kd.C_alloc | apply Kd.C_drewN | apply Kd.C_drew)); exact F26.out) hb); have NB := Aside0.mk (below_step (by repeat (first | (with_reducible first | exact HB.out | apply below_alloc | apply pw_below_drewN | apply below_drew1) | exact HB.out)) hb); clear HB; clear F11; have F11 := N11; clear N11; clear F14; have F14 := N14; clear N14; clear F17; have F17 := N17; clear N17; clear F21; have F21 := N21; clear N21; clear F26; have F26 := N26; clear N26; have HB := NB; clear NB; clear hb; have F28 := G28; clear G28; clear F11 F14 F17 F21 F26)
    | (go_at_call 22; (with_reducible refine (cadenceref2_Value.calls (⟨#[118]⟩ : ByteArray) y29 _ Y29v.out).mono ?_); rintro e_ W29 ⟨v29, rfl, hv29, hb⟩; obtain ⟨A29, c29, rfl⟩ := Kd.R_slice hv29; have G29 := Aside0.mk (Kd.R_reads' hv29).2.2; have L29 := Aside0.mk (Kd.R_reads' hv29).2.1; clear hv29; have N28 := Aside0.mk (Kd.C_below (by (with_reducible repeat (first | apply Kd.C_alloc | apply Kd.C_drewN | apply Kd.C_drew)); exact F28.out) hb); have NB := Aside0.mk (below_step (by repeat (first | (with_reducible first | exact HB.out | apply below_alloc | apply pw_below_drewN | apply below_drew1) | exact HB.out)) hb); clear HB; clear F28; have F28 := N28; clear N28; have HB := NB; clear NB; clear hb; have F29 := G29; clear G29)
    | ((with_reducible refine gate_dst (N := 32) rfl ?_); refine lit_event k53 53 ?hg (N := 32) ?hd (xs := [(⟨(⟨#[117]⟩ : ByteArray), ([] : List S53)⟩ : S53), (⟨(⟨#[118]⟩ : ByteArray), ([] : List S53)⟩ : S53)]) (ys := y32) (inner := [.string (⟨#[117]⟩ : ByteArray), .slice none 0 0, .string (⟨#[118]⟩ : ByteArray), .slice none 0 0]) Y32.out ?hr ?hp ?hm ?_; (case hd => rfl); (case hg => rfl); (case hm => simp); (case hr => first | (go_simp; done) | (go_simp; rfl)); (case hp => exact (Reps.c2 (show k53.K _ (⟨(⟨#[117]⟩ : ByteArray), ([] : List S53)⟩ : S53) [.string (⟨#[117]⟩ : ByteArray), .slice none 0 0] from k53_mk _ (⟨(⟨#[117]⟩ : ByteArray), ([] : List S53)⟩ : S53) (Nat.le_refl _) (Kd.C_nil _ _)) (Reps.c2 (show k53.K _ (⟨(⟨#[118]⟩ : ByteArray), ([] : List S53)⟩ : S53) [.string (⟨#[118]⟩ : ByteArray), .slice none 0 0] from k53_mk _ (⟨(⟨#[118]⟩ : ByteArray), ([] : List S53)⟩ : S53) (Nat.le_refl _) (Kd.C_nil _ _)) (Reps.none _ _)))); intro A32 W32 F32_ hb; have G32 := Aside0.mk F32_; clear F32_; have N28 := Aside0.mk (Kd.C_below (by (with_reducible repeat (first | apply Kd.C_alloc | apply Kd.C_drewN | apply Kd.C_drew)); exact F28.out) hb); have N29 := Aside0.mk (Kd.C_below (by (with_reducible repeat (first | apply Kd.C_alloc | apply Kd.C_drewN | apply Kd.C_drew)); exact F29.out) hb); have NB := Aside0.mk (below_step (by repeat (first | (with_reducible first | exact HB.out | apply below_alloc | apply pw_below_drewN | apply below_drew1) | exact HB.out)) hb); clear HB; clear F28; have F28 := N28; clear N28; clear F29; have F29 := N29; clear N29; have HB := NB; clear NB; clear hb; have F32 := G32; clear G32)
    | ((with_reducible refine gate_dst (N := 37) rfl ?_); refine lit_event k53 53 ?hg (N := 37) ?hd (xs := [(⟨(⟨#[97]⟩ : ByteArray), y29⟩ : S53), (⟨(⟨#[98]⟩ : ByteArray), y29⟩ : S53)]) (ys := y37) (inner := [.string (⟨#[97]⟩ : ByteArray), .slice A29 y29.length c29, .string (⟨#[98]⟩ : ByteArray), .slice A29 y29.length c29]) Y37.out ?hr ?hp ?hm ?_; (case hd => rfl); (case hg => rfl); (case hm => simp); (case hr => first | (go_simp; done) | (go_simp; rfl)); (case hp => exact (Reps.c2 (show k53.K _ (⟨(⟨#[97]⟩ : ByteArray), y29⟩ : S53) [.string (⟨#[97]⟩ : ByteArray), .slice A29 y29.length c29] from k53_mk _ (⟨(⟨#[97]⟩ : ByteArray), y29⟩ : S53) L29.out (by (with_reducible repeat (first | apply Kd.C_alloc | apply Kd.C_drewN | apply Kd.C_drew)); exact F29.out)) (Reps.c2 (show k53.K _ (⟨(⟨#[98]⟩ : ByteArray), y29⟩ : S53) [.string (⟨#[98]⟩ : ByteArray), .slice A29 y29.length c29] from k53_mk _ (⟨(⟨#[98]⟩ : ByteArray), y29⟩ : S53) L29.out (by (with_reducible repeat (first | apply Kd.C_alloc | apply Kd.C_drewN | apply Kd.C_drew)); exact F29.out)) (Reps.none _ _)))); intro A37 W37 F37_ hb; have G37 := Aside0.mk F37_; clear F37_; have N28 := Aside0.mk (Kd.C_below (by (with_reducible repeat (first | apply Kd.C_alloc | apply Kd.C_drewN | apply Kd.C_drew)); exact F28.out) hb); have N29 := Aside0.mk (Kd.C_below (by (with_reducible repeat (first | apply Kd.C_alloc | apply Kd.C_drewN | apply Kd.C_drew)); exact F29.out) hb); have N32 := Aside0.mk (Kd.C_below (by (with_reducible repeat (first | apply Kd.C_alloc | apply Kd.C_drewN | apply Kd.C_drew)); exact F32.out) hb); have NB := Aside0.mk (below_step (by repeat (first | (with_reducible first | exact HB.out | apply below_alloc | apply pw_below_drewN | apply below_drew1) | exact HB.out)) hb); clear HB; clear F28; have F28 := N28; clear N28; clear F29; have F29 := N29; clear N29; clear F32; have F32 := N32; clear N32; have HB := NB; clear NB; clear hb; have F37 := G37; clear G37)
    | ((with_reducible refine gate_dst (N := 40) rfl ?_); refine lit_event k53 53 ?hg (N := 40) ?hd (xs := [(⟨(⟨#[97]⟩ : ByteArray), y29⟩ : S53)]) (ys := y40) (inner := [.string (⟨#[97]⟩ : ByteArray), .slice A29 y29.length c29]) Y40.out ?hr ?hp ?hm ?_; (case hd => rfl); (case hg => rfl); (case hm => simp); (case hr => first | (go_simp; done) | (go_simp; rfl)); (case hp => exact (Reps.c2 (show k53.K _ (⟨(⟨#[97]⟩ : ByteArray), y29⟩ : S53) [.string (⟨#[97]⟩ : ByteArray), .slice A29 y29.length c29] from k53_mk _ (⟨(⟨#[97]⟩ : ByteArray), y29⟩ : S53) L29.out (by (with_reducible repeat (first | apply Kd.C_alloc | apply Kd.C_drewN | apply Kd.C_drew)); exact F29.out)) (Reps.none _ _))); intro A40 W40 F40_ hb; have G40 := Aside0.mk F40_; clear F40_; have N28 := Aside0.mk (Kd.C_below (by (with_reducible repeat (first | apply Kd.C_alloc | apply Kd.C_drewN | apply Kd.C_drew)); exact F28.out) hb); have N29 := Aside0.mk (Kd.C_below (by (with_reducible repeat (first | apply Kd.C_alloc | apply Kd.C_drewN | apply Kd.C_drew)); exact F29.out) hb); have N32 := Aside0.mk (Kd.C_below (by (with_reducible repeat (first | apply Kd.C_alloc | apply Kd.C_drewN | apply Kd.C_drew)); exact F32.out) hb); have N37 := Aside0.mk (Kd.C_below (by (with_reducible repeat (first | apply Kd.C_alloc | apply Kd.C_drewN | apply Kd.C_drew)); exact F37.out) hb); have NB := Aside0.mk (below_step (by repeat (first | (with_reducible first | exact HB.out | apply below_alloc | apply pw_below_drewN | apply below_drew1) | exact HB.out)) hb); clear HB; clear F28; have F28 := N28; clear N28; clear F29; have F29 := N29; clear N29; clear F32; have F32 := N32; clear N32; clear F37; have F37 := N37; clear N37; have HB := NB; clear NB; clear hb; have F40 := G40; clear G40)
    | ((with_reducible refine gate_dst (N := 45) rfl ?_); refine lit_event k53 53 ?hg (N := 45) ?hd (xs := [(⟨(⟨#[97]⟩ : ByteArray), y29⟩ : S53), (⟨(⟨#[98]⟩ : ByteArray), y32⟩ : S53)]) (ys := y45) (inner := [.string (⟨#[97]⟩ : ByteArray), .slice A29 y29.length c29, .string (⟨#[98]⟩ : ByteArray), .slice A32 y32.length y32.length]) Y45.out ?hr ?hp ?hm ?_; (case hd => rfl); (case hg => rfl); (case hm => simp); (case hr => first | (go_simp; done) | (go_simp; rfl)); (case hp => exact (Reps.c2 (show k53.K _ (⟨(⟨#[97]⟩ : ByteArray), y29⟩ : S53) [.string (⟨#[97]⟩ : ByteArray), .slice A29 y29.length c29] from k53_mk _ (⟨(⟨#[97]⟩ : ByteArray), y29⟩ : S53) L29.out (by (with_reducible repeat (first | apply Kd.C_alloc | apply Kd.C_drewN | apply Kd.C_drew)); exact F29.out)) (Reps.c2 (show k53.K _ (⟨(⟨#[98]⟩ : ByteArray), y32⟩ : S53) [.string (⟨#[98]⟩ : ByteArray), .slice A32 y32.length y32.length] from k53_mk _ (⟨(⟨#[98]⟩ : ByteArray), y32⟩ : S53) (Nat.le_refl _) (by (with_reducible repeat (first | apply Kd.C_alloc | apply Kd.C_drewN | apply Kd.C_drew)); exact F32.out)) (Reps.none _ _)))); intro A45 W45 F45_ hb; have G45 := Aside0.mk F45_; clear F45_; have N28 := Aside0.mk (Kd.C_below (by (with_reducible repeat (first | apply Kd.C_alloc | apply Kd.C_drewN | apply Kd.C_drew)); exact F28.out) hb); have N29 := Aside0.mk (Kd.C_below (by (with_reducible repeat (first | apply Kd.C_alloc | apply Kd.C_drewN | apply Kd.C_drew)); exact F29.out) hb); have N32 := Aside0.mk (Kd.C_below (by (with_reducible repeat (first | apply Kd.C_alloc | apply Kd.C_drewN | apply Kd.C_drew)); exact F32.out) hb); have N37 := Aside0.mk (Kd.C_below (by (with_reducible repeat (first | apply Kd.C_alloc | apply Kd.C_drewN | apply Kd.C_drew)); exact F37.out) hb); have N40 := Aside0.mk (Kd.C_below (by (with_reducible repeat (first | apply Kd.C_alloc | apply Kd.C_drewN | apply Kd.C_drew)); exact F40.out) hb); have NB := Aside0.mk (below_step (by repeat (first | (with_reducible first | exact HB.out | apply below_alloc | apply pw_below_drewN | apply below_drew1) | exact HB.out)) hb); clear HB; clear F28; have F28 := N28; clear N28; clear F29; have F29 := N29; clear N29; clear F32; have F32 := N32; clear N32; clear F37; have F37 := N37; clear N37; clear F40; have F40 := N40; clear N40; have HB := NB; clear NB; clear hb; have F45 := G45; clear G45)
    | ((with_reducible refine gate_dst (N := 49) rfl ?_); refine lit_event k53 53 ?hg (N := 49) ?hd (xs := [(⟨(⟨#[97]⟩ : ByteArray), y29⟩ : S53), (⟨(⟨#[98]⟩ : ByteArray), ([] : List S53)⟩ : S53)]) (ys := y49) (inner := [.string (⟨#[97]⟩ : ByteArray), .slice A29 y29.length c29, .string (⟨#[98]⟩ : ByteArray), .slice none 0 0]) Y49.out ?hr ?hp ?hm ?_; (case hd => rfl); (case hg => rfl); (case hm => simp); (case hr => first | (go_simp; done) | (go_simp; rfl)); (case hp => exact (Reps.c2 (show k53.K _ (⟨(⟨#[97]⟩ : ByteArray), y29⟩ : S53) [.string (⟨#[97]⟩ : ByteArray), .slice A29 y29.length c29] from k53_mk _ (⟨(⟨#[97]⟩ : ByteArray), y29⟩ : S53) L29.out (by (with_reducible repeat (first | apply Kd.C_alloc | apply Kd.C_drewN | apply Kd.C_drew)); exact F29.out)) (Reps.c2 (show k53.K _ (⟨(⟨#[98]⟩ : ByteArray), ([] : List S53)⟩ : S53) [.string (⟨#[98]⟩ : ByteArray), .slice none 0 0] from k53_mk _ (⟨(⟨#[98]⟩ : ByteArray), ([] : List S53)⟩ : S53) (Nat.le_refl _) (Kd.C_nil _ _)) (Reps.none _ _)))); intro A49 W49 F49_ hb; have G49 := Aside0.mk F49_; clear F49_; have N28 := Aside0.mk (Kd.C_below (by (with_reducible repeat (first | apply Kd.C_alloc | apply Kd.C_drewN | apply Kd.C_drew)); exact F28.out) hb); have N29 := Aside0.mk (Kd.C_below (by (with_reducible repeat (first | apply Kd.C_alloc | apply Kd.C_drewN | apply Kd.C_drew)); exact F29.out) hb); have N32 := Aside0.mk (Kd.C_below (by (with_reducible repeat (first | apply Kd.C_alloc | apply Kd.C_drewN | apply Kd.C_drew)); exact F32.out) hb); have N37 := Aside0.mk (Kd.C_below (by (with_reducible repeat (first | apply Kd.C_alloc | apply Kd.C_drewN | apply Kd.C_drew)); exact F37.out) hb); have N40 := Aside0.mk (Kd.C_below (by (with_reducible repeat (first | apply Kd.C_alloc | apply Kd.C_drewN | apply Kd.C_drew)); exact F40.out) hb); have N45 := Aside0.mk (Kd.C_below (by (with_reducible repeat (first | apply Kd.C_alloc | apply Kd.C_drewN | apply Kd.C_drew)); exact F45.out) hb); have NB := Aside0.mk (below_step (by repeat (first | (with_reducible first | exact HB.out | apply below_alloc | apply pw_below_drewN | apply below_drew1) | exact HB.out)) hb); clear HB; clear F28; have F28 := N28; clear N28; clear F29; have F29 := N29; clear N29; clear F32; have F32 := N32; clear N32; clear F37; have F37 := N37; clear N37; clear F40; have F40 := N40; clear N40; clear F45; have F45 := N45; clear N45; have HB := NB; clear NB; clear hb; have F49 := G49; clear G49)
    | ((with_reducible refine gate_dst (N := 55) rfl ?_); refine lit_event k53 53 ?hg (N := 55) ?hd (xs := [(⟨(⟨#[97]⟩ : ByteArray), y29⟩ : S53), (⟨(⟨#[98]⟩ : ByteArray), y29⟩ : S53), (⟨(⟨#[120]⟩ : ByteArray), ([] : List S53)⟩ : S53)]) (ys := y55) (inner := [.string (⟨#[97]⟩ : ByteArray), .slice A29 y29.length c29, .string (⟨#[98]⟩ : ByteArray), .slice A29 y29.length c29, .string (⟨#[120]⟩ : ByteArray), .slice none 0 0]) Y55.out ?hr ?hp ?hm ?_; (case hd => rfl); (case hg => rfl); (case hm => simp); (case hr => first | (go_simp; done) | (go_simp; rfl)); (case hp => exact (Reps.c2 (show k53.K _ (⟨(⟨#[97]⟩ : ByteArray), y29⟩ : S53) [.string (⟨#[97]⟩ : ByteArray), .slice A29 y29.length c29] from k53_mk _ (⟨(⟨#[97]⟩ : ByteArray), y29⟩ : S53) L29.out (by (with_reducible repeat (first | apply Kd.C_alloc | apply Kd.C_drewN | apply Kd.C_drew)); exact F29.out)) (Reps.c2 (show k53.K _ (⟨(⟨#[98]⟩ : ByteArray), y29⟩ : S53) [.string (⟨#[98]⟩ : ByteArray), .slice A29 y29.length c29] from k53_mk _ (⟨(⟨#[98]⟩ : ByteArray), y29⟩ : S53) L29.out (by (with_reducible repeat (first | apply Kd.C_alloc | apply Kd.C_drewN | apply Kd.C_drew)); exact F29.out)) (Reps.c2 (show k53.K _ (⟨(⟨#[120]⟩ : ByteArray), ([] : List S53)⟩ : S53) [.string (⟨#[120]⟩ : ByteArray), .slice none 0 0] from k53_mk _ (⟨(⟨#[120]⟩ : ByteArray), ([] : List S53)⟩ : S53) (Nat.le_refl _) (Kd.C_nil _ _)) (Reps.none _ _))))); intro A55 W55 F55_ hb; have G55 := Aside0.mk F55_; clear F55_; have N28 := Aside0.mk (Kd.C_below (by (with_reducible repeat (first | apply Kd.C_alloc | apply Kd.C_drewN | apply Kd.C_drew)); exact F28.out) hb); have N29 := Aside0.mk (Kd.C_below (by (with_reducible repeat (first | apply Kd.C_alloc | apply Kd.C_drewN | apply Kd.C_drew)); exact F29.out) hb); have N32 := Aside0.mk (Kd.C_below (by (with_reducible repeat (first | apply Kd.C_alloc | apply Kd.C_drewN | apply Kd.C_drew)); exact F32.out) hb); have N37 := Aside0.mk (Kd.C_below (by (with_reducible repeat (first | apply Kd.C_alloc | apply Kd.C_drewN | apply Kd.C_drew)); exact F37.out) hb); have N40 := Aside0.mk (Kd.C_below (by (with_reducible repeat (first | apply Kd.C_alloc | apply Kd.C_drewN | apply Kd.C_drew)); exact F40.out) hb); have N45 := Aside0.mk (Kd.C_below (by (with_reducible repeat (first | apply Kd.C_alloc | apply Kd.C_drewN | apply Kd.C_drew)); exact F45.out) hb); have N49 := Aside0.mk (Kd.C_below (by (with_reducible repeat (first | apply Kd.C_alloc | apply Kd.C_drewN | apply Kd.C_drew)); exact F49.out) hb); have NB := Aside0.mk (below_step (by repeat (first | (with_reducible first | exact HB.out | apply below_alloc | apply pw_below_drewN | apply below_drew1) | exact HB.out)) hb); clear HB; clear F28; have F28 := N28; clear N28; clear F29; have F29 := N29; clear N29; clear F32; have F32 := N32; clear N32; clear F37; have F37 := N37; clear N37; clear F40; have F40 := N40; clear N40; clear F45; have F45 := N45; clear N45; clear F49; have F49 := N49; clear N49; have HB := NB; clear NB; clear hb; have F55 := G55; clear G55)
    | ((with_reducible refine gate_dst (N := 62) rfl ?_); refine lit_event k53 53 ?hg (N := 62) ?hd (xs := [(⟨(⟨#[97]⟩ : ByteArray), y29⟩ : S53), (⟨(⟨#[98]⟩ : ByteArray), y29⟩ : S53), (⟨(⟨#[120]⟩ : ByteArray), y29⟩ : S53)]) (ys := y62) (inner := [.string (⟨#[97]⟩ : ByteArray), .slice A29 y29.length c29, .string (⟨#[98]⟩ : ByteArray), .slice A29 y29.length c29, .string (⟨#[120]⟩ : ByteArray), .slice A29 y29.length c29]) Y62.out ?hr ?hp ?hm ?_; (case hd => rfl); (case hg => rfl); (case hm => simp); (case hr => first | (go_simp; done) | (go_simp; rfl)); (case hp => exact (Reps.c2 (show k53.K _ (⟨(⟨#[97]⟩ : ByteArray), y29⟩ : S53) [.string (⟨#[97]⟩ : ByteArray), .slice A29 y29.length c29] from k53_mk _ (⟨(⟨#[97]⟩ : ByteArray), y29⟩ : S53) L29.out (by (with_reducible repeat (first | apply Kd.C_alloc | apply Kd.C_drewN | apply Kd.C_drew)); exact F29.out)) (Reps.c2 (show k53.K _ (⟨(⟨#[98]⟩ : ByteArray), y29⟩ : S53) [.string (⟨#[98]⟩ : ByteArray), .slice A29 y29.length c29] from k53_mk _ (⟨(⟨#[98]⟩ : ByteArray), y29⟩ : S53) L29.out (by (with_reducible repeat (first | apply Kd.C_alloc | apply Kd.C_drewN | apply Kd.C_drew)); exact F29.out)) (Reps.c2 (show k53.K _ (⟨(⟨#[120]⟩ : ByteArray), y29⟩ : S53) [.string (⟨#[120]⟩ : ByteArray), .slice A29 y29.length c29] from k53_mk _ (⟨(⟨#[120]⟩ : ByteArray), y29⟩ : S53) L29.out (by (with_reducible repeat (first | apply Kd.C_alloc | apply Kd.C_drewN | apply Kd.C_drew)); exact F29.out)) (Reps.none _ _))))); intro A62 W62 F62_ hb; have G62 := Aside0.mk F62_; clear F62_; have N28 := Aside0.mk (Kd.C_below (by (with_reducible repeat (first | apply Kd.C_alloc | apply Kd.C_drewN | apply Kd.C_drew)); exact F28.out) hb); have N29 := Aside0.mk (Kd.C_below (by (with_reducible repeat (first | apply Kd.C_alloc | apply Kd.C_drewN | apply Kd.C_drew)); exact F29.out) hb); have N32 := Aside0.mk (Kd.C_below (by (with_reducible repeat (first | apply Kd.C_alloc | apply Kd.C_drewN | apply Kd.C_drew)); exact F32.out) hb); have N37 := Aside0.mk (Kd.C_below (by (with_reducible repeat (first | apply Kd.C_alloc | apply Kd.C_drewN | apply Kd.C_drew)); exact F37.out) hb); have N40 := Aside0.mk (Kd.C_below (by (with_reducible repeat (first | apply Kd.C_alloc | apply Kd.C_drewN | apply Kd.C_drew)); exact F40.out) hb); have N45 := Aside0.mk (Kd.C_below (by (with_reducible repeat (first | apply Kd.C_alloc | apply Kd.C_drewN | apply Kd.C_drew)); exact F45.out) hb); have N49 := Aside0.mk (Kd.C_below (by (with_reducible repeat (first | apply Kd.C_alloc | apply Kd.C_drewN | apply Kd.C_drew)); exact F49.out) hb); have N55 := Aside0.mk (Kd.C_below (by (with_reducible repeat (first | apply Kd.C_alloc | apply Kd.C_drewN | apply Kd.C_drew)); exact F55.out) hb); have NB := Aside0.mk (below_step (by repeat (first | (with_reducible first | exact HB.out | apply below_alloc | apply pw_below_drewN | apply below_drew1) | exact HB.out)) hb); clear HB; clear F28; have F28 := N28; clear N28; clear F29; have F29 := N29; clear N29; clear F32; have F32 := N32; clear N32; clear F37; have F37 := N37; clear N37; clear F40; have F40 := N40; clear N40; clear F45; have F45 := N45; clear N45; clear F49; have F49 := N49; clear N49; clear F55; have F55 := N55; clear N55; have HB := NB; clear NB; clear hb; have F62 := G62; clear G62)
    | ((with_reducible refine gate_dst (N := 68) rfl ?_); refine lit_event k53 53 ?hg (N := 68) ?hd (xs := [(⟨(⟨#[97]⟩ : ByteArray), y29⟩ : S53), (⟨(⟨#[98]⟩ : ByteArray), y29⟩ : S53), (⟨(⟨#[110, 111]⟩ : ByteArray), ([] : List S53)⟩ : S53)]) (ys := y68) (inner := [.string (⟨#[97]⟩ : ByteArray), .slice A29 y29.length c29, .string (⟨#[98]⟩ : ByteArray), .slice A29 y29.length c29, .string (⟨#[110, 111]⟩ : ByteArray), .slice none 0 0]) Y68.out ?hr ?hp ?hm ?_; (case hd => rfl); (case hg => rfl); (case hm => simp); (case hr => first | (go_simp; done) | (go_simp; rfl)); (case hp => exact (Reps.c2 (show k53.K _ (⟨(⟨#[97]⟩ : ByteArray), y29⟩ : S53) [.string (⟨#[97]⟩ : ByteArray), .slice A29 y29.length c29] from k53_mk _ (⟨(⟨#[97]⟩ : ByteArray), y29⟩ : S53) L29.out (by (with_reducible repeat (first | apply Kd.C_alloc | apply Kd.C_drewN | apply Kd.C_drew)); exact F29.out)) (Reps.c2 (show k53.K _ (⟨(⟨#[98]⟩ : ByteArray), y29⟩ : S53) [.string (⟨#[98]⟩ : ByteArray), .slice A29 y29.length c29] from k53_mk _ (⟨(⟨#[98]⟩ : ByteArray), y29⟩ : S53) L29.out (by (with_reducible repeat (first | apply Kd.C_alloc | apply Kd.C_drewN | apply Kd.C_drew)); exact F29.out)) (Reps.c2 (show k53.K _ (⟨(⟨#[110, 111]⟩ : ByteArray), ([] : List S53)⟩ : S53) [.string (⟨#[110, 111]⟩ : ByteArray), .slice none 0 0] from k53_mk _ (⟨(⟨#[110, 111]⟩ : ByteArray), ([] : List S53)⟩ : S53) (Nat.le_refl _) (Kd.C_nil _ _)) (Reps.none _ _))))); intro A68 W68 F68_ hb; have G68 := Aside0.mk F68_; clear F68_; have N28 := Aside0.mk (Kd.C_below (by (with_reducible repeat (first | apply Kd.C_alloc | apply Kd.C_drewN | apply Kd.C_drew)); exact F28.out) hb); have N29 := Aside0.mk (Kd.C_below (by (with_reducible repeat (first | apply Kd.C_alloc | apply Kd.C_drewN | apply Kd.C_drew)); exact F29.out) hb); have N32 := Aside0.mk (Kd.C_below (by (with_reducible repeat (first | apply Kd.C_alloc | apply Kd.C_drewN | apply Kd.C_drew)); exact F32.out) hb); have N37 := Aside0.mk (Kd.C_below (by (with_reducible repeat (first | apply Kd.C_alloc | apply Kd.C_drewN | apply Kd.C_drew)); exact F37.out) hb); have N40 := Aside0.mk (Kd.C_below (by (with_reducible repeat (first | apply Kd.C_alloc | apply Kd.C_drewN | apply Kd.C_drew)); exact F40.out) hb); have N45 := Aside0.mk (Kd.C_below (by (with_reducible repeat (first | apply Kd.C_alloc | apply Kd.C_drewN | apply Kd.C_drew)); exact F45.out) hb); have N49 := Aside0.mk (Kd.C_below (by (with_reducible repeat (first | apply Kd.C_alloc | apply Kd.C_drewN | apply Kd.C_drew)); exact F49.out) hb); have N55 := Aside0.mk (Kd.C_below (by (with_reducible repeat (first | apply Kd.C_alloc | apply Kd.C_drewN | apply Kd.C_drew)); exact F55.out) hb); have N62 := Aside0.mk (Kd.C_below (by (with_reducible repeat (first | apply Kd.C_alloc | apply Kd.C_drewN | apply Kd.C_drew)); exact F62.out) hb); have NB := Aside0.mk (below_step (by repeat (first | (with_reducible first | exact HB.out | apply below_alloc | apply pw_below_drewN | apply below_drew1) | exact HB.out)) hb); clear HB; clear F28; have F28 := N28; clear N28; clear F29; have F29 := N29; clear N29; clear F32; have F32 := N32; clear N32; clear F37; have F37 := N37; clear N37; clear F40; have F40 := N40; clear N40; clear F45; have F45 := N45; clear N45; clear F49; have F49 := N49; clear N49; clear F55; have F55 := N55; clear N55; clear F62; have F62 := N62; clear N62; have HB := NB; clear NB; clear hb; have F68 := G68; clear G68)
    | ((with_reducible refine gate_dst (N := 69) rfl ?_); refine lit_event (Kd.slice 53 k53) 46 ?hg (N := 69) ?hd (xs := [y37, y40, y45, y49, y55, y62, y68, ([] : List S53)]) (ys := y69) (inner := [.slice A37 y37.length y37.length, .slice A40 y40.length y40.length, .slice A45 y45.length y45.length, .slice A49 y49.length y49.length, .slice A55 y55.length y55.length, .slice A62 y62.length y62.length, .slice A68 y68.length y68.length, .slice none 0 0]) Y69.out ?hr ?hp ?hm ?_; (case hd => rfl); (case hg => rfl); (case hm => simp); (case hr => first | (go_simp; done) | (go_simp; rfl)); (case hp => exact (Reps.one (show (Kd.slice 53 k53).K _ y37 [.slice A37 y37.length y37.length] from ⟨_, _, rfl, Nat.le_refl _, (by (with_reducible repeat (first | apply Kd.C_alloc | apply Kd.C_drewN | apply Kd.C_drew)); exact F37.out)⟩) (Reps.one (show (Kd.slice 53 k53).K _ y40 [.slice A40 y40.length y40.length] from ⟨_, _, rfl, Nat.le_refl _, (by (with_reducible repeat (first | apply Kd.C_alloc | apply Kd.C_drewN | apply Kd.C_drew)); exact F40.out)⟩) (Reps.one (show (Kd.slice 53 k53).K _ y45 [.slice A45 y45.length y45.length] from ⟨_, _, rfl, Nat.le_refl _, (by (with_reducible repeat (first | apply Kd.C_alloc | apply Kd.C_drewN | apply Kd.C_drew)); exact F45.out)⟩) (Reps.one (show (Kd.slice 53 k53).K _ y49 [.slice A49 y49.length y49.length] from ⟨_, _, rfl, Nat.le_refl _, (by (with_reducible repeat (first | apply Kd.C_alloc | apply Kd.C_drewN | apply Kd.C_drew)); exact F49.out)⟩) (Reps.one (show (Kd.slice 53 k53).K _ y55 [.slice A55 y55.length y55.length] from ⟨_, _, rfl, Nat.le_refl _, (by (with_reducible repeat (first | apply Kd.C_alloc | apply Kd.C_drewN | apply Kd.C_drew)); exact F55.out)⟩) (Reps.one (show (Kd.slice 53 k53).K _ y62 [.slice A62 y62.length y62.length] from ⟨_, _, rfl, Nat.le_refl _, (by (with_reducible repeat (first | apply Kd.C_alloc | apply Kd.C_drewN | apply Kd.C_drew)); exact F62.out)⟩) (Reps.one (show (Kd.slice 53 k53).K _ y68 [.slice A68 y68.length y68.length] from ⟨_, _, rfl, Nat.le_refl _, (by (with_reducible repeat (first | apply Kd.C_alloc | apply Kd.C_drewN | apply Kd.C_drew)); exact F68.out)⟩) (Reps.one (show (Kd.slice 53 k53).K _ ([] : List S53) [.slice none 0 0] from ⟨_, _, rfl, Nat.le_refl _, Kd.C_nil _ _⟩) (Reps.none _ _)))))))))); intro A69 W69 F69_ hb; have G69 := Aside0.mk F69_; clear F69_; have N28 := Aside0.mk (Kd.C_below (by (with_reducible repeat (first | apply Kd.C_alloc | apply Kd.C_drewN | apply Kd.C_drew)); exact F28.out) hb); have N29 := Aside0.mk (Kd.C_below (by (with_reducible repeat (first | apply Kd.C_alloc | apply Kd.C_drewN | apply Kd.C_drew)); exact F29.out) hb); have N32 := Aside0.mk (Kd.C_below (by (with_reducible repeat (first | apply Kd.C_alloc | apply Kd.C_drewN | apply Kd.C_drew)); exact F32.out) hb); have N37 := Aside0.mk (Kd.C_below (by (with_reducible repeat (first | apply Kd.C_alloc | apply Kd.C_drewN | apply Kd.C_drew)); exact F37.out) hb); have N40 := Aside0.mk (Kd.C_below (by (with_reducible repeat (first | apply Kd.C_alloc | apply Kd.C_drewN | apply Kd.C_drew)); exact F40.out) hb); have N45 := Aside0.mk (Kd.C_below (by (with_reducible repeat (first | apply Kd.C_alloc | apply Kd.C_drewN | apply Kd.C_drew)); exact F45.out) hb); have N49 := Aside0.mk (Kd.C_below (by (with_reducible repeat (first | apply Kd.C_alloc | apply Kd.C_drewN | apply Kd.C_drew)); exact F49.out) hb); have N55 := Aside0.mk (Kd.C_below (by (with_reducible repeat (first | apply Kd.C_alloc | apply Kd.C_drewN | apply Kd.C_drew)); exact F55.out) hb); have N62 := Aside0.mk (Kd.C_below (by (with_reducible repeat (first | apply Kd.C_alloc | apply Kd.C_drewN | apply Kd.C_drew)); exact F62.out) hb); have N68 := Aside0.mk (Kd.C_below (by (with_reducible repeat (first | apply Kd.C_alloc | apply Kd.C_drewN | apply Kd.C_drew)); exact F68.out) hb); have NB := Aside0.mk (below_step (by repeat (first | (with_reducible first | exact HB.out | apply below_alloc | apply pw_below_drewN | apply below_drew1) | exact HB.out)) hb); clear HB; clear F28; have F28 := N28; clear N28; clear F29; have F29 := N29; clear N29; clear F32; have F32 := N32; clear N32; clear F37; have F37 := N37; clear N37; clear F40; have F40 := N40; clear N40; clear F45; have F45 := N45; clear N45; clear F49; have F49 := N49; clear N49; clear F55; have F55 := N55; clear N55; clear F62; have F62 := N62; clear N62; clear F68; have F68 := N68; clear N68; have HB := NB; clear NB; clear hb; have F69 := G69; clear G69; clear F37 F40 F45 F49 F55 F62 F68)
    | ((with_reducible refine gate_dst (N := 70) rfl ?_); refine lit_event Kd.bool 4 ?hg (N := 70) ?hd (xs := [true, false, false, false, true, false, false, false]) (ys := y70) (inner := [.bool true, .bool false, .bool false, .bool false, .bool true, .bool false, .bool false, .bool false]) Y70.out ?hr ?hp ?hm ?_; (case hd => rfl); (case hg => rfl); (case hm => simp); (case hr => first | (go_simp; done) | (go_simp; rfl)); (case hp => exact (Reps.one (show Kd.bool.K _ true [.bool true] from rfl) (Reps.one (show Kd.bool.K _ false [.bool false] from rfl) (Reps.one (show Kd.bool.K _ false [.bool false] from rfl) (Reps.one (show Kd.bool.K _ false [.bool false] from rfl) (Reps.one (show Kd.bool.K _ true [.bool true] from rfl) (Reps.one (show Kd.bool.K _ false [.bool false] from rfl) (Reps.one (show Kd.bool.K _ false [.bool false] from rfl) (Reps.one (show Kd.bool.K _ false [.bool false] from rfl) (Reps.none _ _)))))))))); intro A70 W70 F70_ hb; have G70 := Aside0.mk F70_; clear F70_; have N28 := Aside0.mk (Kd.C_below (by (with_reducible repeat (first | apply Kd.C_alloc | apply Kd.C_drewN | apply Kd.C_drew)); exact F28.out) hb); have N29 := Aside0.mk (Kd.C_below (by (with_reducible repeat (first | apply Kd.C_alloc | apply Kd.C_drewN | apply Kd.C_drew)); exact F29.out) hb); have N32 := Aside0.mk (Kd.C_below (by (with_reducible repeat (first | apply Kd.C_alloc | apply Kd.C_drewN | apply Kd.C_drew)); exact F32.out) hb); have N69 := Aside0.mk (Kd.C_below (by (with_reducible repeat (first | apply Kd.C_alloc | apply Kd.C_drewN | apply Kd.C_drew)); exact F69.out) hb); have NB := Aside0.mk (below_step (by repeat (first | (with_reducible first | exact HB.out | apply below_alloc | apply pw_below_drewN | apply below_drew1) | exact HB.out)) hb); clear HB; clear F28; have F28 := N28; clear N28; clear F29; have F29 := N29; clear N29; clear F32; have F32 := N32; clear N32; clear F69; have F69 := N69; clear N69; have HB := NB; clear NB; clear hb; have F70 := G70; clear G70; obtain ⟨ad69, A6, c6, rfl, X69, L6, hC6⟩ := at_L10 F69.out kk h0 h69; have F6 := Aside0.mk hC6; clear hC6; obtain ⟨ad70, rfl, X70⟩ := Kd.at_bool F70.out kk h0 h70; clear F69 F70; have L6 := Aside0.mk L6)
    | (go_at_call 13; (with_reducible refine (cadencelaw4_within.calls a0 8 kk _ hwi.out).mono ?_); rintro e_ W72 ⟨rfl, hd⟩; have hb := hd.below; clear hd; have N28 := Aside0.mk (Kd.C_below (by (with_reducible repeat (first | apply Kd.C_alloc | apply Kd.C_drewN | apply Kd.C_drew)); exact F28.out) hb); have N29 := Aside0.mk (Kd.C_below (by (with_reducible repeat (first | apply Kd.C_alloc | apply Kd.C_drewN | apply Kd.C_drew)); exact F29.out) hb); have N32 := Aside0.mk (Kd.C_below (by (with_reducible repeat (first | apply Kd.C_alloc | apply Kd.C_drewN | apply Kd.C_drew)); exact F32.out) hb); have N6 := Aside0.mk (Kd.C_below (by (with_reducible repeat (first | apply Kd.C_alloc | apply Kd.C_drewN | apply Kd.C_drew)); exact F6.out) hb); replace X69 := (hb.cell (World.block_lt_of_cell? _ _ X69)).trans X69; replace X70 := (hb.cell (World.block_lt_of_cell? _ _ X70)).trans X70; have NB := Aside0.mk (below_step (by repeat (first | (with_reducible first | exact HB.out | apply below_alloc | apply pw_below_drewN | apply below_drew1) | exact HB.out)) hb); clear HB; clear F28; have F28 := N28; clear N28; clear F29; have F29 := N29; clear N29; clear F32; have F32 := N32; clear N32; clear F6; have F6 := N6; clear N6; have HB := NB; clear NB; clear hb))
  dsimp only [List.append]
  have hg1 : Aside0 (∀ W', Below W72.heap.size W72 W' → W'.cell? (ad69.add kk.toNat) = some (.slice A6 (rd_L10 y69 kk).length c6) ∧ W'.cell? (ad70.add kk.toNat) = some (.bool (rdOf false y70 kk))) := ⟨fun W' h => ⟨(h.cell (World.block_lt_of_cell? _ _ X69)).trans X69, (h.cell (World.block_lt_of_cell? _ _ X70)).trans X70⟩⟩
  clear X69 X70
  have HB1 := Aside0.mk (Below.refl W72.heap.size W72)
  refine start_ (n := 72) (S := fun w' => w'.cell? (ad69.add kk.toNat) = some (.slice A6 (rd_L10 y69 kk).length c6) ∧ w'.cell? (ad70.add kk.toNat) = some (.bool (rdOf false y70 kk))) (ds := []) #[false, false, false, false, false, false, false, false, false, false, false, false, false, false, false, false, false, false, false, false, false, false, false, false, false, false, false, false, false, false, false, false, false, false, false, false, false, false, false, false, false, false, false, false, false, false, false, false, false, false, false, false, false, false, false, false, false, false, false, false, false, false, false, false, false, false, false, false, false, false, false, false] (by kernel_rfl) rfl rfl (hg1.out _ (bD_ HB1.out)) (fun hHeld => ?_); refine with_tabW kn_tab kn_bits (fun HT_ HW_ => ?_)
  have HB2 := Aside0.mk (bD_ HB1.out)
  have HB3 := Aside0.mk (bD_ HB.out)
  generalize W72.drew = W2 at HB2 HB3 hHeld ⊢
  clear HB1 HB
  refine pure_ (i := 0) (N := some 73) (v := ?_) (a' := ?_) #[true, false, false, false, false, false, false, false, false, false, false, false, false, false, false, false, false, false, false, false, false, false, false, false, false, false, false, false, false, false, false, false, false, false, false, false, false, false, false, false, false, false, false, false, false, false, false, false, false, false, false, false, false, false, false, false, false, false, false, false, false, false, false, false, false, false, false, false, false, false, false, false] rfl rfl (any_of HT_.out (by kernel_rfl)) (fun _ _ _ h => h) (Or.inl ⟨by rfl, ?_⟩) ?_ ?_
  rotate_left
  · intro w'
    go_simp
    with_reducible rfl
  rotate_left
  · simp only [Act.put, List.setIfInBounds_toArray, List.set_cons_zero, List.set_cons_succ, i64_w, i32_w]
    rfl
  refine one_ (i := 1) (N := some 74) #[true, true, false, false, false, false, false, false, false, false, false, false, false, false, false, false, false, false, false, false, false, false, false, false, false, false, false, false, false, false, false, false, false, false, false, false, false, false, false, false, false, false, false, false, false, false, false, false, false, false, false, false, false, false, false, false, false, false, false, false, false, false, false, false, false, false, false, false, false, false, false, false] rfl rfl (one_of HT_.out (by kernel_rfl)) (by decide) (fun K hK => ?_)
  refine goes_ Try.func11 (by kernel_rfl) rfl #[.slice A28 y28.length y28.length] (by rfl) rfl rfl (by (try simp only [List.map_toArray, List.map_cons, List.map_nil]); first | done | rfl) ?_
  refine (schema_Check.calls KN _ _ y28 0 _ (Kd.C_below F28.out HB2.out) (Nat.le_refl _) hck.out).mono ?_
  rintro e w3 ⟨rfl, hb⟩
  refine ⟨_, rfl, ?_⟩
  have n0_ := Aside0.mk (below_then HB2.out HB2.out.size hb)
  have n1_ := Aside0.mk (below_then HB3.out HB3.out.size hb)
  clear HB2 HB3 hb
  have HB2 := n0_
  have HB3 := n1_
  clear n0_ n1_
  refine hK.out _ _ (hg1.out _ HB2.out) (fun hHeld => ?_)
  clear hK K
  refine norm_ (a' := ?_) ?_ ?_
  rotate_left
  · show Act.put _ (some 74) _ = _
    simp only [Act.put, List.setIfInBounds_toArray, List.set_cons_zero, List.set_cons_succ, i64_w, i32_w]
    rfl
  refine pure_ (i := 2) (N := some 75) (v := ?_) (a' := ?_) #[true, true, true, false, false, false, false, false, false, false, false, false, false, false, false, false, false, false, false, false, false, false, false, false, false, false, false, false, false, false, false, false, false, false, false, false, false, false, false, false, false, false, false, false, false, false, false, false, false, false, false, false, false, false, false, false, false, false, false, false, false, false, false, false, false, false, false, false, false, false, false, false] rfl rfl (any_of HT_.out (by kernel_rfl)) (fun _ _ _ h => h) (Or.inl ⟨by rfl, ?_⟩) ?_ ?_
  rotate_left
  · intro w'
    go_simp
    with_reducible rfl
  rotate_left
  · simp only [Act.put, List.setIfInBounds_toArray, List.set_cons_zero, List.set_cons_succ, i64_w, i32_w]
    rfl
  refine pure_ (i := 3) (N := some 76) (v := ?_) (a' := ?_) #[true, true, true, true, false, false, false, false, false, false, false, false, false, false, false, false, false, false, false, false, false, false, false, false, false, false, false, false, false, false, false, false, false, false, false, false, false, false, false, false, false, false, false, false, false, false, false, false, false, false, false, false, false, false, false, false, false, false, false, false, false, false, false, false, false, false, false, false, false, false, false, false] rfl rfl (any_of HT_.out (by kernel_rfl)) (fun _ _ _ h => h) (Or.inl ⟨by rfl, ?_⟩) ?_ ?_
  rotate_left
  · intro w'
    go_simp
    with_reducible rfl
  rotate_left
  · simp only [Act.put, List.setIfInBounds_toArray, List.set_cons_zero, List.set_cons_succ, i64_w, i32_w]
    rfl
  refine pure_ (i := 4) (N := some 77) (v := ?_) (a' := ?_) #[true, true, true, true, true, false, false, false, false, false, false, false, false, false, false, false, false, false, false, false, false, false, false, false, false, false, false, false, false, false, false, false, false, false, false, false, false, false, false, false, false, false, false, false, false, false, false, false, false, false, false, false, false, false, false, false, false, false, false, false, false, false, false, false, false, false, false, false, false, false, false, false] rfl rfl (any_of HT_.out (by kernel_rfl)) (fun _ _ _ h => h) (Or.inl ⟨by rfl, ?_⟩) ?_ ?_
  rotate_left
  · intro w'
    go_simp
    with_reducible rfl
  rotate_left
  · simp only [Act.put, List.setIfInBounds_toArray, List.set_cons_zero, List.set_cons_succ, i64_w, i32_w]
    rfl
  refine pure_ (i := 5) (N := some 78) (v := ?_) (a' := ?_) #[true, true, true, true, true, true, false, false, false, false, false, false, false, false, false, false, false, false, false, false, false, false, false, false, false, false, false, false, false, false, false, false, false, false, false, false, false, false, false, false, false, false, false, false, false, false, false, false, false, false, false, false, false, false, false, false, false, false, false, false, false, false, false, false, false, false, false, false, false, false, false, false] rfl rfl (any_of HT_.out (by kernel_rfl)) (fun _ _ _ h => h) (Or.inl ⟨by rfl, ?_⟩) ?_ ?_
  rotate_left
  · intro w'
    go_simp
    with_reducible rfl
  rotate_left
  · simp only [Act.put, List.setIfInBounds_toArray, List.set_cons_zero, List.set_cons_succ, i64_w, i32_w]
    rfl
  refine pure_ (i := 6) (N := some 79) (v := ?_) (a' := ?_) #[true, true, true, true, true, true, true, false, false, false, false, false, false, false, false, false, false, false, false, false, false, false, false, false, false, false, false, false, false, false, false, false, false, false, false, false, false, false, false, false, false, false, false, false, false, false, false, false, false, false, false, false, false, false, false, false, false, false, false, false, false, false, false, false, false, false, false, false, false, false, false, false] rfl rfl (any_of HT_.out (by kernel_rfl)) (fun _ _ _ h => h) (Or.inl ⟨by rfl, ?_⟩) ?_ ?_
  rotate_left
  · intro w'
    go_simp
    with_reducible rfl
  rotate_left
  · simp only [Act.put, List.setIfInBounds_toArray, List.set_cons_zero, List.set_cons_succ, i64_w, i32_w]
    rfl
  refine pure_ (i := 7) (N := some 80) (v := ?_) (a' := ?_) #[true, true, true, true, true, true, true, true, false, false, false, false, false, false, false, false, false, false, false, false, false, false, false, false, false, false, false, false, false, false, false, false, false, false, false, false, false, false, false, false, false, false, false, false, false, false, false, false, false, false, false, false, false, false, false, false, false, false, false, false, false, false, false, false, false, false, false, false, false, false, false, false] rfl rfl (any_of HT_.out (by kernel_rfl)) (fun _ _ _ h => h) (Or.inl ⟨by rfl, ?_⟩) ?_ ?_
  rotate_left
  · intro w'
    go_simp
    with_reducible rfl
  rotate_left
  · simp only [Act.put, List.setIfInBounds_toArray, List.set_cons_zero, List.set_cons_succ, i64_w, i32_w]
    rfl
  refine take_ (i := 8) (N := some 81) (v := ?_) (a' := ?_) #[true, true, true, true, true, true, true, true, true, false, false, false, false, false, false, false, false, false, false, false, false, false, false, false, false, false, false, false, false, false, false, false, false, false, false, false, false, false, false, false, false, false, false, false, false, false, false, false, false, false, false, false, false, false, false, false, false, false, false, false, false, false, false, false, false, false, false, false, false, false, false, false] rfl rfl (take_ofW HT_.out HW_.out (by kernel_rfl)) (fun _ _ _ h => h) (Or.inl ⟨by rfl, ?_⟩) hHeld ?_ ?_
  rotate_left
  · rintro w' ⟨s0, s1⟩
    go_simp
    with_reducible rfl
  rotate_left
  · simp only [Act.put, List.setIfInBounds_toArray, List.set_cons_zero, List.set_cons_succ, i64_w, i32_w]
    rfl
  refine pure_ (i := 10) (N := some 83) (v := ?_) (a' := ?_) #[true, true, true, true, true, true, true, true, true, false, true, false, false, false, false, false, false, false, false, false, false, false, false, false, false, false, false, false, false, false, false, false, false, false, false, false, false, false, false, false, false, false, false, false, false, false, false, false, false, false, false, false, false, false, false, false, false, false, false, false, false, false, false, false, false, false, false, false, false, false, false, false] rfl rfl (any_of HT_.out (by kernel_rfl)) (fun _ _ _ h => h) (Or.inl ⟨by rfl, ?_⟩) ?_ ?_
  rotate_left
  · intro w'
    go_simp
    with_reducible rfl
  rotate_left
  · simp only [Act.put, List.setIfInBounds_toArray, List.set_cons_zero, List.set_cons_succ, i64_w, i32_w]
    rfl
  refine pure_ (i := 11) (N := some 84) (v := ?_) (a' := ?_) #[true, true, true, true, true, true, true, true, true, false, true, true, false, false, false, false, false, false, false, false, false, false, false, false, false, false, false, false, false, false, false, false, false, false, false, false, false, false, false, false, false, false, false, false, false, false, false, false, false, false, false, false, false, false, false, false, false, false, false, false, false, false, false, false, false, false, false, false, false, false, false, false] rfl rfl (any_of HT_.out (by kernel_rfl)) (fun _ _ _ h => h) (Or.inl ⟨by rfl, ?_⟩) ?_ ?_
  rotate_left
  · intro w'
    go_simp
    with_reducible rfl
  rotate_left
  · simp only [Act.put, List.setIfInBounds_toArray, List.set_cons_zero, List.set_cons_succ, i64_w, i32_w]
    rfl
  refine pure_ (i := 12) (N := some 85) (v := ?_) (a' := ?_) #[true, true, true, true, true, true, true, true, true, false, true, true, true, false, false, false, false, false, false, false, false, false, false, false, false, false, false, false, false, false, false, false, false, false, false, false, false, false, false, false, false, false, false, false, false, false, false, false, false, false, false, false, false, false, false, false, false, false, false, false, false, false, false, false, false, false, false, false, false, false, false, false] rfl rfl (any_of HT_.out (by kernel_rfl)) (fun _ _ _ h => h) (Or.inl ⟨by rfl, ?_⟩) ?_ ?_
  rotate_left
  · intro w'
    go_simp
    with_reducible rfl
  rotate_left
  · simp only [Act.put, List.setIfInBounds_toArray, List.set_cons_zero, List.set_cons_succ, i64_w, i32_w]
    rfl
  refine take_ (i := 13) (N := some 86) (v := ?_) (a' := ?_) #[true, true, true, true, true, true, true, true, true, false, true, true, true, true, false, false, false, false, false, false, false, false, false, false, false, false, false, false, false, false, false, false, false, false, false, false, false, false, false, false, false, false, false, false, false, false, false, false, false, false, false, false, false, false, false, false, false, false, false, false, false, false, false, false, false, false, false, false, false, false, false, false] rfl rfl (take_ofW HT_.out HW_.out (by kernel_rfl)) (fun _ _ _ h => h) (Or.inl ⟨by rfl, ?_⟩) hHeld ?_ ?_
  rotate_left
  · rintro w' ⟨s0, s1⟩
    go_simp
    with_reducible rfl
  rotate_left
  · simp only [Act.put, List.setIfInBounds_toArray, List.set_cons_zero, List.set_cons_succ, i64_w, i32_w]
    rfl
  refine one_ (i := 9) (N := some 82) #[true, true, true, true, true, true, true, true, true, true, true, true, true, true, false, false, false, false, false, false, false, false, false, false, false, false, false, false, false, false, false, false, false, false, false, false, false, false, false, false, false, false, false, false, false, false, false, false, false, false, false, false, false, false, false, false, false, false, false, false, false, false, false, false, false, false, false, false, false, false, false, false] rfl rfl (one_of HT_.out (by kernel_rfl)) (by decide) (fun K hK => ?_)
  refine goes_ Try.func18 (by kernel_rfl) rfl #[.slice A28 y28.length y28.length, .int .i64 0, .slice A6 (rd_L10 y69 kk).length c6] (by rfl) rfl rfl (by (try simp only [List.map_toArray, List.map_cons, List.map_nil]); first | done | rfl) ?_
  refine (schema_Fits.calls _ _ y28 0 _ _ (rd_L10 y69 kk) (rdOf false y70 kk) _ (Kd.C_below F28.out HB2.out) (Nat.le_refl _) (Kd.C_below F6.out HB2.out) L6.out hf0.out).mono ?_
  rintro e w3 ⟨rfl, hb⟩
  refine ⟨_, rfl, ?_⟩
  have n0_ := Aside0.mk (below_then HB2.out HB2.out.size hb)
  have n1_ := Aside0.mk (below_then HB3.out HB3.out.size hb)
  clear HB2 HB3 hb
  have HB2 := n0_
  have HB3 := n1_
  clear n0_ n1_
  refine hK.out _ _ (hg1.out _ HB2.out) (fun hHeld => ?_)
  clear hK K
  refine norm_ (a' := ?_) ?_ ?_
  rotate_left
  · show Act.put _ (some 82) _ = _
    simp only [Act.put, List.setIfInBounds_toArray, List.set_cons_zero, List.set_cons_succ, i64_w, i32_w]
    rfl
  refine pure_ (i := 14) (N := some 87) (v := ?_) (a' := ?_) #[true, true, true, true, true, true, true, true, true, true, true, true, true, true, true, false, false, false, false, false, false, false, false, false, false, false, false, false, false, false, false, false, false, false, false, false, false, false, false, false, false, false, false, false, false, false, false, false, false, false, false, false, false, false, false, false, false, false, false, false, false, false, false, false, false, false, false, false, false, false, false, false] rfl rfl (any_of HT_.out (by kernel_rfl)) (fun _ _ _ h => h) (Or.inl ⟨by rfl, ?_⟩) ?_ ?_
  rotate_left
  · intro w'
    go_simp
    with_reducible rfl
  rotate_left
  · simp only [Act.put, List.setIfInBounds_toArray, List.set_cons_zero, List.set_cons_succ, i64_w, i32_w]
    rfl
  refine pure_ (i := 15) (N := some 88) (v := ?_) (a' := ?_) #[true, true, true, true, true, true, true, true, true, true, true, true, true, true, true, true, false, false, false, false, false, false, false, false, false, false, false, false, false, false, false, false, false, false, false, false, false, false, false, false, false, false, false, false, false, false, false, false, false, false, false, false, false, false, false, false, false, false, false, false, false, false, false, false, false, false, false, false, false, false, false, false] rfl rfl (any_of HT_.out (by kernel_rfl)) (fun _ _ _ h => h) (Or.inl ⟨by rfl, ?_⟩) ?_ ?_
  rotate_left
  · intro w'
    go_simp
    with_reducible rfl
  rotate_left
  · simp only [Act.put, List.setIfInBounds_toArray, List.set_cons_zero, List.set_cons_succ, i64_w, i32_w]
    rfl
  refine pure_ (i := 16) (N := some 89) (v := ?_) (a' := ?_) #[true, true, true, true, true, true, true, true, true, true, true, true, true, true, true, true, true, false, false, false, false, false, false, false, false, false, false, false, false, false, false, false, false, false, false, false, false, false, false, false, false, false, false, false, false, false, false, false, false, false, false, false, false, false, false, false, false, false, false, false, false, false, false, false, false, false, false, false, false, false, false, false] rfl rfl (any_of HT_.out (by kernel_rfl)) (fun _ _ _ h => h) (Or.inl ⟨by rfl, ?_⟩) ?_ ?_
  rotate_left
  · intro w'
    go_simp
    with_reducible rfl
  rotate_left
  · simp only [Act.put, List.setIfInBounds_toArray, List.set_cons_zero, List.set_cons_succ, i64_w, i32_w]
    rfl
  refine pure_ (i := 17) (N := some 90) (v := ?_) (a' := ?_) #[true, true, true, true, true, true, true, true, true, true, true, true, true, true, true, true, true, true, false, false, false, false, false, false, false, false, false, false, false, false, false, false, false, false, false, false, false, false, false, false, false, false, false, false, false, false, false, false, false, false, false, false, false, false, false, false, false, false, false, false, false, false, false, false, false, false, false, false, false, false, false, false] rfl rfl (any_of HT_.out (by kernel_rfl)) (fun _ _ _ h => h) (Or.inl ⟨by rfl, ?_⟩) ?_ ?_
  rotate_left
  · intro w'
    go_simp
    with_reducible rfl
  rotate_left
  · simp only [Act.put, List.setIfInBounds_toArray, List.set_cons_zero, List.set_cons_succ, i64_w, i32_w]
    rfl
  refine pure_ (i := 18) (N := some 91) (v := ?_) (a' := ?_) #[true, true, true, true, true, true, true, true, true, true, true, true, true, true, true, true, true, true, true, false, false, false, false, false, false, false, false, false, false, false, false, false, false, false, false, false, false, false, false, false, false, false, false, false, false, false, false, false, false, false, false, false, false, false, false, false, false, false, false, false, false, false, false, false, false, false, false, false, false, false, false, false] rfl rfl (any_of HT_.out (by kernel_rfl)) (fun _ _ _ h => h) (Or.inl ⟨by rfl, ?_⟩) ?_ ?_
  rotate_left
  · intro w'
    go_simp
    with_reducible rfl
  rotate_left
  · simp only [Act.put, List.setIfInBounds_toArray, List.set_cons_zero, List.set_cons_succ, i64_w, i32_w]
    rfl
  refine one_ (i := 19) (N := some 92) #[true, true, true, true, true, true, true, true, true, true, true, true, true, true, true, true, true, true, true, true, false, false, false, false, false, false, false, false, false, false, false, false, false, false, false, false, false, false, false, false, false, false, false, false, false, false, false, false, false, false, false, false, false, false, false, false, false, false, false, false, false, false, false, false, false, false, false, false, false, false, false, false] rfl rfl (one_of HT_.out (by kernel_rfl)) (by decide) (fun K hK => ?_)
  refine goes_ Try.func18 (by kernel_rfl) rfl #[.slice A28 y28.length y28.length, .int .i64 1, .slice A29 y29.length c29] (by rfl) rfl rfl (by (try simp only [List.map_toArray, List.map_cons, List.map_nil]); first | done | rfl) ?_
  refine (schema_Fits.calls _ _ y28 1 _ _ y29 true _ (Kd.C_below F28.out HB2.out) (Nat.le_refl _) (Kd.C_below F29.out HB2.out) L29.out hf1.out).mono ?_
  rintro e w3 ⟨rfl, hb⟩
  refine ⟨_, rfl, ?_⟩
  have n0_ := Aside0.mk (below_then HB2.out HB2.out.size hb)
  have n1_ := Aside0.mk (below_then HB3.out HB3.out.size hb)
  clear HB2 HB3 hb
  have HB2 := n0_
  have HB3 := n1_
  clear n0_ n1_
  refine hK.out _ _ (hg1.out _ HB2.out) (fun hHeld => ?_)
  clear hK K
  refine norm_ (a' := ?_) ?_ ?_
  rotate_left
  · show Act.put _ (some 92) _ = _
    simp only [Act.put, List.setIfInBounds_toArray, List.set_cons_zero, List.set_cons_succ, i64_w, i32_w]
    rfl
  refine pure_ (i := 20) (N := some 93) (v := ?_) (a' := ?_) #[true, true, true, true, true, true, true, true, true, true, true, true, true, true, true, true, true, true, true, true, true, false, false, false, false, false, false, false, false, false, false, false, false, false, false, false, false, false, false, false, false, false, false, false, false, false, false, false, false, false, false, false, false, false, false, false, false, false, false, false, false, false, false, false, false, false, false, false, false, false, false, false] rfl rfl (any_of HT_.out (by kernel_rfl)) (fun _ _ _ h => h) (Or.inl ⟨by rfl, ?_⟩) ?_ ?_
  rotate_left
  · intro w'
    go_simp
    with_reducible rfl
  rotate_left
  · simp only [Act.put, List.setIfInBounds_toArray, List.set_cons_zero, List.set_cons_succ, i64_w, i32_w]
    rfl
  refine pure_ (i := 21) (N := some 94) (v := ?_) (a' := ?_) #[true, true, true, true, true, true, true, true, true, true, true, true, true, true, true, true, true, true, true, true, true, true, false, false, false, false, false, false, false, false, false, false, false, false, false, false, false, false, false, false, false, false, false, false, false, false, false, false, false, false, false, false, false, false, false, false, false, false, false, false, false, false, false, false, false, false, false, false, false, false, false, false] rfl rfl (any_of HT_.out (by kernel_rfl)) (fun _ _ _ h => h) (Or.inl ⟨by rfl, ?_⟩) ?_ ?_
  rotate_left
  · intro w'
    go_simp
    with_reducible rfl
  rotate_left
  · simp only [Act.put, List.setIfInBounds_toArray, List.set_cons_zero, List.set_cons_succ, i64_w, i32_w]
    rfl
  refine pure_ (i := 22) (N := some 95) (v := ?_) (a' := ?_) #[true, true, true, true, true, true, true, true, true, true, true, true, true, true, true, true, true, true, true, true, true, true, true, false, false, false, false, false, false, false, false, false, false, false, false, false, false, false, false, false, false, false, false, false, false, false, false, false, false, false, false, false, false, false, false, false, false, false, false, false, false, false, false, false, false, false, false, false, false, false, false, false] rfl rfl (any_of HT_.out (by kernel_rfl)) (fun _ _ _ h => h) (Or.inl ⟨by rfl, ?_⟩) ?_ ?_
  rotate_left
  · intro w'
    go_simp
    with_reducible rfl
  rotate_left
  · simp only [Act.put, List.setIfInBounds_toArray, List.set_cons_zero, List.set_cons_succ, i64_w, i32_w]
    rfl
  refine pure_ (i := 23) (N := some 96) (v := ?_) (a' := ?_) #[true, true, true, true, true, true, true, true, true, true, true, true, true, true, true, true, true, true, true, true, true, true, true, true, false, false, false, false, false, false, false, false, false, false, false, false, false, false, false, false, false, false, false, false, false, false, false, false, false, false, false, false, false, false, false, false, false, false, false, false, false, false, false, false, false, false, false, false, false, false, false, false] rfl rfl (any_of HT_.out (by kernel_rfl)) (fun _ _ _ h => h) (Or.inl ⟨by rfl, ?_⟩) ?_ ?_
  rotate_left
  · intro w'
    go_simp
    with_reducible rfl
  rotate_left
  · simp only [Act.put, List.setIfInBounds_toArray, List.set_cons_zero, List.set_cons_succ, i64_w, i32_w]
    rfl
  refine one_ (i := 24) (N := some 97) #[true, true, true, true, true, true, true, true, true, true, true, true, true, true, true, true, true, true, true, true, true, true, true, true, true, false, false, false, false, false, false, false, false, false, false, false, false, false, false, false, false, false, false, false, false, false, false, false, false, false, false, false, false, false, false, false, false, false, false, false, false, false, false, false, false, false, false, false, false, false, false, false] rfl rfl (one_of HT_.out (by kernel_rfl)) (by decide) (fun K hK => ?_)
  refine goes_ Try.func18 (by kernel_rfl) rfl #[.slice A28 y28.length y28.length, .int .i64 1, .slice A32 y32.length y32.length] (by rfl) rfl rfl (by (try simp only [List.map_toArray, List.map_cons, List.map_nil]); first | done | rfl) ?_
  refine (schema_Fits.calls _ _ y28 1 _ _ y32 false _ (Kd.C_below F28.out HB2.out) (Nat.le_refl _) (Kd.C_below F32.out HB2.out) (Nat.le_refl _) hf2.out).mono ?_
  rintro e w3 ⟨rfl, hb⟩
  refine ⟨_, rfl, ?_⟩
  have n0_ := Aside0.mk (below_then HB2.out HB2.out.size hb)
  have n1_ := Aside0.mk (below_then HB3.out HB3.out.size hb)
  clear HB2 HB3 hb
  have HB2 := n0_
  have HB3 := n1_
  clear n0_ n1_
  refine hK.out _ _ (hg1.out _ HB2.out) (fun hHeld => ?_)
  clear hK K
  refine norm_ (a' := ?_) ?_ ?_
  rotate_left
  · show Act.put _ (some 97) _ = _
    simp only [Act.put, List.setIfInBounds_toArray, List.set_cons_zero, List.set_cons_succ, i64_w, i32_w]
    rfl
  refine pure_ (i := 25) (N := some 98) (v := ?_) (a' := ?_) #[true, true, true, true, true, true, true, true, true, true, true, true, true, true, true, true, true, true, true, true, true, true, true, true, true, true, false, false, false, false, false, false, false, false, false, false, false, false, false, false, false, false, false, false, false, false, false, false, false, false, false, false, false, false, false, false, false, false, false, false, false, false, false, false, false, false, false, false, false, false, false, false] rfl rfl (any_of HT_.out (by kernel_rfl)) (fun _ _ _ h => h) (Or.inl ⟨by rfl, ?_⟩) ?_ ?_
  rotate_left
  · intro w'
    go_simp
    with_reducible rfl
  rotate_left
  · simp only [Act.put, List.setIfInBounds_toArray, List.set_cons_zero, List.set_cons_succ, i64_w, i32_w]
    rfl
  refine pure_ (i := 26) (N := some 99) (v := ?_) (a' := ?_) #[true, true, true, true, true, true, true, true, true, true, true, true, true, true, true, true, true, true, true, true, true, true, true, true, true, true, true, false, false, false, false, false, false, false, false, false, false, false, false, false, false, false, false, false, false, false, false, false, false, false, false, false, false, false, false, false, false, false, false, false, false, false, false, false, false, false, false, false, false, false, false, false] rfl rfl (any_of HT_.out (by kernel_rfl)) (fun _ _ _ h => h) (Or.inl ⟨by rfl, ?_⟩) ?_ ?_
  rotate_left
  · intro w'
    go_simp
    with_reducible rfl
  rotate_left
  · simp only [Act.put, List.setIfInBounds_toArray, List.set_cons_zero, List.set_cons_succ, i64_w, i32_w]
    rfl
  refine pure_ (i := 27) (N := some 100) (v := ?_) (a' := ?_) #[true, true, true, true, true, true, true, true, true, true, true, true, true, true, true, true, true, true, true, true, true, true, true, true, true, true, true, true, false, false, false, false, false, false, false, false, false, false, false, false, false, false, false, false, false, false, false, false, false, false, false, false, false, false, false, false, false, false, false, false, false, false, false, false, false, false, false, false, false, false, false, false] rfl rfl (any_of HT_.out (by kernel_rfl)) (fun _ _ _ h => h) (Or.inl ⟨by rfl, ?_⟩) ?_ ?_
  rotate_left
  · intro w'
    go_simp
    with_reducible rfl
  rotate_left
  · simp only [Act.put, List.setIfInBounds_toArray, List.set_cons_zero, List.set_cons_succ, i64_w, i32_w]
    rfl
  refine pure_ (i := 28) (N := some 101) (v := ?_) (a' := ?_) #[true, true, true, true, true, true, true, true, true, true, true, true, true, true, true, true, true, true, true, true, true, true, true, true, true, true, true, true, true, false, false, false, false, false, false, false, false, false, false, false, false, false, false, false, false, false, false, false, false, false, false, false, false, false, false, false, false, false, false, false, false, false, false, false, false, false, false, false, false, false, false, false] rfl rfl (any_of HT_.out (by kernel_rfl)) (fun _ _ _ h => h) (Or.inl ⟨by rfl, ?_⟩) ?_ ?_
  rotate_left
  · intro w'
    go_simp
    with_reducible rfl
  rotate_left
  · simp only [Act.put, List.setIfInBounds_toArray, List.set_cons_zero, List.set_cons_succ, i64_w, i32_w]
    rfl
  refine one_ (i := 29) (N := some 102) #[true, true, true, true, true, true, true, true, true, true, true, true, true, true, true, true, true, true, true, true, true, true, true, true, true, true, true, true, true, true, false, false, false, false, false, false, false, false, false, false, false, false, false, false, false, false, false, false, false, false, false, false, false, false, false, false, false, false, false, false, false, false, false, false, false, false, false, false, false, false, false, false] rfl rfl (one_of HT_.out (by kernel_rfl)) (by decide) (fun K hK => ?_)
  refine goes_ Try.func18 (by kernel_rfl) rfl #[.slice A28 y28.length y28.length, .int .i64 1, .slice none 0 0] (by rfl) rfl rfl (by (try simp only [List.map_toArray, List.map_cons, List.map_nil]); first | done | rfl) ?_
  refine (schema_Fits.calls _ _ y28 1 _ _ ([] : List S53) false _ (Kd.C_below F28.out HB2.out) (Nat.le_refl _) (Kd.C_nil _ _) (Nat.le_refl _) hf3.out).mono ?_
  rintro e w3 ⟨rfl, hb⟩
  refine ⟨_, rfl, ?_⟩
  have n0_ := Aside0.mk (below_then HB2.out HB2.out.size hb)
  have n1_ := Aside0.mk (below_then HB3.out HB3.out.size hb)
  clear HB2 HB3 hb
  have HB2 := n0_
  have HB3 := n1_
  clear n0_ n1_
  refine hK.out _ _ (hg1.out _ HB2.out) (fun hHeld => ?_)
  clear hK K
  refine norm_ (a' := ?_) ?_ ?_
  rotate_left
  · show Act.put _ (some 102) _ = _
    simp only [Act.put, List.setIfInBounds_toArray, List.set_cons_zero, List.set_cons_succ, i64_w, i32_w]
    rfl
  refine pure_ (i := 30) (N := some 103) (v := ?_) (a' := ?_) #[true, true, true, true, true, true, true, true, true, true, true, true, true, true, true, true, true, true, true, true, true, true, true, true, true, true, true, true, true, true, true, false, false, false, false, false, false, false, false, false, false, false, false, false, false, false, false, false, false, false, false, false, false, false, false, false, false, false, false, false, false, false, false, false, false, false, false, false, false, false, false, false] rfl rfl (any_of HT_.out (by kernel_rfl)) (fun _ _ _ h => h) (Or.inl ⟨by rfl, ?_⟩) ?_ ?_
  rotate_left
  · intro w'
    go_simp
    with_reducible rfl
  rotate_left
  · simp only [Act.put, List.setIfInBounds_toArray, List.set_cons_zero, List.set_cons_succ, i64_w, i32_w]
    rfl
  refine pure_ (i := 31) (N := some 104) (v := ?_) (a' := ?_) #[true, true, true, true, true, true, true, true, true, true, true, true, true, true, true, true, true, true, true, true, true, true, true, true, true, true, true, true, true, true, true, true, false, false, false, false, false, false, false, false, false, false, false, false, false, false, false, false, false, false, false, false, false, false, false, false, false, false, false, false, false, false, false, false, false, false, false, false, false, false, false, false] rfl rfl (any_of HT_.out (by kernel_rfl)) (fun _ _ _ h => h) (Or.inl ⟨by rfl, ?_⟩) ?_ ?_
  rotate_left
  · intro w'
    go_simp
    with_reducible rfl
  rotate_left
  · simp only [Act.put, List.setIfInBounds_toArray, List.set_cons_zero, List.set_cons_succ, i64_w, i32_w]
    rfl
  refine pure_ (i := 32) (N := some 105) (v := ?_) (a' := ?_) #[true, true, true, true, true, true, true, true, true, true, true, true, true, true, true, true, true, true, true, true, true, true, true, true, true, true, true, true, true, true, true, true, true, false, false, false, false, false, false, false, false, false, false, false, false, false, false, false, false, false, false, false, false, false, false, false, false, false, false, false, false, false, false, false, false, false, false, false, false, false, false, false] rfl rfl (any_of HT_.out (by kernel_rfl)) (fun _ _ _ h => h) (Or.inl ⟨by rfl, ?_⟩) ?_ ?_
  rotate_left
  · intro w'
    go_simp
    with_reducible rfl
  rotate_left
  · simp only [Act.put, List.setIfInBounds_toArray, List.set_cons_zero, List.set_cons_succ, i64_w, i32_w]
    rfl
  refine pure_ (i := 33) (N := some 106) (v := ?_) (a' := ?_) #[true, true, true, true, true, true, true, true, true, true, true, true, true, true, true, true, true, true, true, true, true, true, true, true, true, true, true, true, true, true, true, true, true, true, false, false, false, false, false, false, false, false, false, false, false, false, false, false, false, false, false, false, false, false, false, false, false, false, false, false, false, false, false, false, false, false, false, false, false, false, false, false] rfl rfl (any_of HT_.out (by kernel_rfl)) (fun _ _ _ h => h) (Or.inl ⟨by rfl, ?_⟩) ?_ ?_
  rotate_left
  · intro w'
    go_simp
    with_reducible rfl
  rotate_left
  · simp only [Act.put, List.setIfInBounds_toArray, List.set_cons_zero, List.set_cons_succ, i64_w, i32_w]
    rfl
  refine pure_ (i := 34) (N := some 107) (v := ?_) (a' := ?_) #[true, true, true, true, true, true, true, true, true, true, true, true, true, true, true, true, true, true, true, true, true, true, true, true, true, true, true, true, true, true, true, true, true, true, true, false, false, false, false, false, false, false, false, false, false, false, false, false, false, false, false, false, false, false, false, false, false, false, false, false, false, false, false, false, false, false, false, false, false, false, false, false] rfl rfl (any_of HT_.out (by kernel_rfl)) (fun _ _ _ h => h) (Or.inl ⟨by rfl, ?_⟩) ?_ ?_
  rotate_left
  · intro w'
    go_simp
    with_reducible rfl
  rotate_left
  · simp only [Act.put, List.setIfInBounds_toArray, List.set_cons_zero, List.set_cons_succ, i64_w, i32_w]
    rfl
  refine one_ (i := 35) (N := some 108) #[true, true, true, true, true, true, true, true, true, true, true, true, true, true, true, true, true, true, true, true, true, true, true, true, true, true, true, true, true, true, true, true, true, true, true, true, false, false, false, false, false, false, false, false, false, false, false, false, false, false, false, false, false, false, false, false, false, false, false, false, false, false, false, false, false, false, false, false, false, false, false, false] rfl rfl (one_of HT_.out (by kernel_rfl)) (by decide) (fun K hK => ?_)
  refine goes_ Try.func18 (by kernel_rfl) rfl #[.slice A28 y28.length y28.length, .int .i64 3, .slice A32 y32.length y32.length] (by rfl) rfl rfl (by (try simp only [List.map_toArray, List.map_cons, List.map_nil]); first | done | rfl) ?_
  refine (schema_Fits.calls _ _ y28 3 _ _ y32 true _ (Kd.C_below F28.out HB2.out) (Nat.le_refl _) (Kd.C_below F32.out HB2.out) (Nat.le_refl _) hf4.out).mono ?_
  rintro e w3 ⟨rfl, hb⟩
  refine ⟨_, rfl, ?_⟩
  have n0_ := Aside0.mk (below_then HB2.out HB2.out.size hb)
  have n1_ := Aside0.mk (below_then HB3.out HB3.out.size hb)
  clear HB2 HB3 hb
  have HB2 := n0_
  have HB3 := n1_
  clear n0_ n1_
  refine hK.out _ _ (hg1.out _ HB2.out) (fun hHeld => ?_)
  clear hK K
  refine norm_ (a' := ?_) ?_ ?_
  rotate_left
  · show Act.put _ (some 108) _ = _
    simp only [Act.put, List.setIfInBounds_toArray, List.set_cons_zero, List.set_cons_succ, i64_w, i32_w]
    rfl
  refine pure_ (i := 36) (N := some 109) (v := ?_) (a' := ?_) #[true, true, true, true, true, true, true, true, true, true, true, true, true, true, true, true, true, true, true, true, true, true, true, true, true, true, true, true, true, true, true, true, true, true, true, true, true, false, false, false, false, false, false, false, false, false, false, false, false, false, false, false, false, false, false, false, false, false, false, false, false, false, false, false, false, false, false, false, false, false, false, false] rfl rfl (any_of HT_.out (by kernel_rfl)) (fun _ _ _ h => h) (Or.inl ⟨by rfl, ?_⟩) ?_ ?_
  rotate_left
  · intro w'
    go_simp
    with_reducible rfl
  rotate_left
  · simp only [Act.put, List.setIfInBounds_toArray, List.set_cons_zero, List.set_cons_succ, i64_w, i32_w]
    rfl
  refine pure_ (i := 37) (N := some 110) (v := ?_) (a' := ?_) #[true, true, true, true, true, true, true, true, true, true, true, true, true, true, true, true, true, true, true, true, true, true, true, true, true, true, true, true, true, true, true, true, true, true, true, true, true, true, false, false, false, false, false, false, false, false, false, false, false, false, false, false, false, false, false, false, false, false, false, false, false, false, false, false, false, false, false, false, false, false, false, false] rfl rfl (any_of HT_.out (by kernel_rfl)) (fun _ _ _ h => h) (Or.inl ⟨by rfl, ?_⟩) ?_ ?_
  rotate_left
  · intro w'
    go_simp
    with_reducible rfl
  rotate_left
  · simp only [Act.put, List.setIfInBounds_toArray, List.set_cons_zero, List.set_cons_succ, i64_w, i32_w]
    rfl
  refine pure_ (i := 38) (N := some 111) (v := ?_) (a' := ?_) #[true, true, true, true, true, true, true, true, true, true, true, true, true, true, true, true, true, true, true, true, true, true, true, true, true, true, true, true, true, true, true, true, true, true, true, true, true, true, true, false, false, false, false, false, false, false, false, false, false, false, false, false, false, false, false, false, false, false, false, false, false, false, false, false, false, false, false, false, false, false, false, false] rfl rfl (any_of HT_.out (by kernel_rfl)) (fun _ _ _ h => h) (Or.inl ⟨by rfl, ?_⟩) ?_ ?_
  rotate_left
  · intro w'
    go_simp
    with_reducible rfl
  rotate_left
  · simp only [Act.put, List.setIfInBounds_toArray, List.set_cons_zero, List.set_cons_succ, i64_w, i32_w]
    rfl
  refine one_ (i := 39) (N := some 112) #[true, true, true, true, true, true, true, true, true, true, true, true, true, true, true, true, true, true, true, true, true, true, true, true, true, true, true, true, true, true, true, true, true, true, true, true, true, true, true, true, false, false, false, false, false, false, false, false, false, false, false, false, false, false, false, false, false, false, false, false, false, false, false, false, false, false, false, false, false, false, false, false] rfl rfl (one_of HT_.out (by kernel_rfl)) (by decide) (fun K hK => ?_)
  refine goes_ Try.func18 (by kernel_rfl) rfl #[.slice A28 y28.length y28.length, .int .i64 3, .slice none 0 0] (by rfl) rfl rfl (by (try simp only [List.map_toArray, List.map_cons, List.map_nil]); first | done | rfl) ?_
  refine (schema_Fits.calls _ _ y28 3 _ _ ([] : List S53) false _ (Kd.C_below F28.out HB2.out) (Nat.le_refl _) (Kd.C_nil _ _) (Nat.le_refl _) hf5.out).mono ?_
  rintro e w3 ⟨rfl, hb⟩
  refine ⟨_, rfl, ?_⟩
  have n0_ := Aside0.mk (below_then HB2.out HB2.out.size hb)
  have n1_ := Aside0.mk (below_then HB3.out HB3.out.size hb)
  clear HB2 HB3 hb
  have HB2 := n0_
  have HB3 := n1_
  clear n0_ n1_
  refine hK.out _ _ (hg1.out _ HB2.out) (fun hHeld => ?_)
  clear hK K
  refine norm_ (a' := ?_) ?_ ?_
  rotate_left
  · show Act.put _ (some 112) _ = _
    simp only [Act.put, List.setIfInBounds_toArray, List.set_cons_zero, List.set_cons_succ, i64_w, i32_w]
    rfl
  refine pure_ (i := 40) (N := some 113) (v := ?_) (a' := ?_) #[true, true, true, true, true, true, true, true, true, true, true, true, true, true, true, true, true, true, true, true, true, true, true, true, true, true, true, true, true, true, true, true, true, true, true, true, true, true, true, true, true, false, false, false, false, false, false, false, false, false, false, false, false, false, false, false, false, false, false, false, false, false, false, false, false, false, false, false, false, false, false, false] rfl rfl (any_of HT_.out (by kernel_rfl)) (fun _ _ _ h => h) (Or.inl ⟨by rfl, ?_⟩) ?_ ?_
  rotate_left
  · intro w'
    go_simp
    with_reducible rfl
  rotate_left
  · simp only [Act.put, List.setIfInBounds_toArray, List.set_cons_zero, List.set_cons_succ, i64_w, i32_w]
    rfl
  refine pure_ (i := 41) (N := some 114) (v := ?_) (a' := ?_) #[true, true, true, true, true, true, true, true, true, true, true, true, true, true, true, true, true, true, true, true, true, true, true, true, true, true, true, true, true, true, true, true, true, true, true, true, true, true, true, true, true, true, false, false, false, false, false, false, false, false, false, false, false, false, false, false, false, false, false, false, false, false, false, false, false, false, false, false, false, false, false, false] rfl rfl (any_of HT_.out (by kernel_rfl)) (fun _ _ _ h => h) (Or.inl ⟨by rfl, ?_⟩) ?_ ?_
  rotate_left
  · intro w'
    go_simp
    with_reducible rfl
  rotate_left
  · simp only [Act.put, List.setIfInBounds_toArray, List.set_cons_zero, List.set_cons_succ, i64_w, i32_w]
    rfl
  refine pure_ (i := 42) (N := some 115) (v := ?_) (a' := ?_) #[true, true, true, true, true, true, true, true, true, true, true, true, true, true, true, true, true, true, true, true, true, true, true, true, true, true, true, true, true, true, true, true, true, true, true, true, true, true, true, true, true, true, true, false, false, false, false, false, false, false, false, false, false, false, false, false, false, false, false, false, false, false, false, false, false, false, false, false, false, false, false, false] rfl rfl (any_of HT_.out (by kernel_rfl)) (fun _ _ _ h => h) (Or.inl ⟨by rfl, ?_⟩) ?_ ?_
  rotate_left
  · intro w'
    go_simp
    with_reducible rfl
  rotate_left
  · simp only [Act.put, List.setIfInBounds_toArray, List.set_cons_zero, List.set_cons_succ, i64_w, i32_w]
    rfl
  refine pure_ (i := 43) (N := some 116) (v := ?_) (a' := ?_) #[true, true, true, true, true, true, true, true, true, true, true, true, true, true, true, true, true, true, true, true, true, true, true, true, true, true, true, true, true, true, true, true, true, true, true, true, true, true, true, true, true, true, true, true, false, false, false, false, false, false, false, false, false, false, false, false, false, false, false, false, false, false, false, false, false, false, false, false, false, false, false, false] rfl rfl (any_of HT_.out (by kernel_rfl)) (fun _ _ _ h => h) (Or.inl ⟨by rfl, ?_⟩) ?_ ?_
  rotate_left
  · intro w'
    go_simp
    with_reducible rfl
  rotate_left
  · simp only [Act.put, List.setIfInBounds_toArray, List.set_cons_zero, List.set_cons_succ, i64_w, i32_w]
    rfl
  refine one_ (i := 44) (N := some 117) #[true, true, true, true, true, true, true, true, true, true, true, true, true, true, true, true, true, true, true, true, true, true, true, true, true, true, true, true, true, true, true, true, true, true, true, true, true, true, true, true, true, true, true, true, true, false, false, false, false, false, false, false, false, false, false, false, false, false, false, false, false, false, false, false, false, false, false, false, false, false, false, false] rfl rfl (one_of HT_.out (by kernel_rfl)) (by decide) (fun K hK => ?_)
  refine goes_ Try.func18 (by kernel_rfl) rfl #[.slice A28 y28.length y28.length, .int .i64 2, .slice none 0 0] (by rfl) rfl rfl (by (try simp only [List.map_toArray, List.map_cons, List.map_nil]); first | done | rfl) ?_
  refine (schema_Fits.calls _ _ y28 2 _ _ ([] : List S53) true _ (Kd.C_below F28.out HB2.out) (Nat.le_refl _) (Kd.C_nil _ _) (Nat.le_refl _) hf6.out).mono ?_
  rintro e w3 ⟨rfl, hb⟩
  refine ⟨_, rfl, ?_⟩
  have n0_ := Aside0.mk (below_then HB2.out HB2.out.size hb)
  have n1_ := Aside0.mk (below_then HB3.out HB3.out.size hb)
  clear HB2 HB3 hb
  have HB2 := n0_
  have HB3 := n1_
  clear n0_ n1_
  refine hK.out _ _ (hg1.out _ HB2.out) (fun hHeld => ?_)
  clear hK K
  refine norm_ (a' := ?_) ?_ ?_
  rotate_left
  · show Act.put _ (some 117) _ = _
    simp only [Act.put, List.setIfInBounds_toArray, List.set_cons_zero, List.set_cons_succ, i64_w, i32_w]
    rfl
  refine pure_ (i := 45) (N := some 118) (v := ?_) (a' := ?_) #[true, true, true, true, true, true, true, true, true, true, true, true, true, true, true, true, true, true, true, true, true, true, true, true, true, true, true, true, true, true, true, true, true, true, true, true, true, true, true, true, true, true, true, true, true, true, false, false, false, false, false, false, false, false, false, false, false, false, false, false, false, false, false, false, false, false, false, false, false, false, false, false] rfl rfl (any_of HT_.out (by kernel_rfl)) (fun _ _ _ h => h) (Or.inl ⟨by rfl, ?_⟩) ?_ ?_
  rotate_left
  · intro w'
    go_simp
    with_reducible rfl
  rotate_left
  · simp only [Act.put, List.setIfInBounds_toArray, List.set_cons_zero, List.set_cons_succ, i64_w, i32_w]
    rfl
  refine pure_ (i := 46) (N := some 119) (v := ?_) (a' := ?_) #[true, true, true, true, true, true, true, true, true, true, true, true, true, true, true, true, true, true, true, true, true, true, true, true, true, true, true, true, true, true, true, true, true, true, true, true, true, true, true, true, true, true, true, true, true, true, true, false, false, false, false, false, false, false, false, false, false, false, false, false, false, false, false, false, false, false, false, false, false, false, false, false] rfl rfl (any_of HT_.out (by kernel_rfl)) (fun _ _ _ h => h) (Or.inl ⟨by rfl, ?_⟩) ?_ ?_
  rotate_left
  · intro w'
    go_simp
    with_reducible rfl
  rotate_left
  · simp only [Act.put, List.setIfInBounds_toArray, List.set_cons_zero, List.set_cons_succ, i64_w, i32_w]
    rfl
  refine pure_ (i := 47) (N := some 120) (v := ?_) (a' := ?_) #[true, true, true, true, true, true, true, true, true, true, true, true, true, true, true, true, true, true, true, true, true, true, true, true, true, true, true, true, true, true, true, true, true, true, true, true, true, true, true, true, true, true, true, true, true, true, true, true, false, false, false, false, false, false, false, false, false, false, false, false, false, false, false, false, false, false, false, false, false, false, false, false] rfl rfl (any_of HT_.out (by kernel_rfl)) (fun _ _ _ h => h) (Or.inl ⟨by rfl, ?_⟩) ?_ ?_
  rotate_left
  · intro w'
    go_simp
    with_reducible rfl
  rotate_left
  · simp only [Act.put, List.setIfInBounds_toArray, List.set_cons_zero, List.set_cons_succ, i64_w, i32_w]
    rfl
  refine one_ (i := 48) (N := some 121) #[true, true, true, true, true, true, true, true, true, true, true, true, true, true, true, true, true, true, true, true, true, true, true, true, true, true, true, true, true, true, true, true, true, true, true, true, true, true, true, true, true, true, true, true, true, true, true, true, true, false, false, false, false, false, false, false, false, false, false, false, false, false, false, false, false, false, false, false, false, false, false, false] rfl rfl (one_of HT_.out (by kernel_rfl)) (by decide) (fun K hK => ?_)
  refine goes_ Try.func20 (by kernel_rfl) rfl #[.slice A28 y28.length y28.length, .int .i64 0, .string (⟨#[110, 111]⟩ : ByteArray)] (by rfl) rfl rfl (by (try simp only [List.map_toArray, List.map_cons, List.map_nil]); first | done | rfl) ?_
  refine (schema_To.calls _ _ y28 0 (⟨#[110, 111]⟩ : ByteArray) (-1) _ (Kd.C_below F28.out HB2.out) (Nat.le_refl _) ht1.out).mono ?_
  rintro e w3 ⟨rfl, hb⟩
  refine ⟨_, rfl, ?_⟩
  have n0_ := Aside0.mk (below_then HB2.out HB2.out.size hb)
  have n1_ := Aside0.mk (below_then HB3.out HB3.out.size hb)
  clear HB2 HB3 hb
  have HB2 := n0_
  have HB3 := n1_
  clear n0_ n1_
  refine hK.out _ _ (hg1.out _ HB2.out) (fun hHeld => ?_)
  clear hK K
  refine norm_ (a' := ?_) ?_ ?_
  rotate_left
  · show Act.put _ (some 121) _ = _
    simp only [Act.put, List.setIfInBounds_toArray, List.set_cons_zero, List.set_cons_succ, i64_w, i32_w]
    rfl
  refine pure_ (i := 49) (N := some 122) (v := ?_) (a' := ?_) #[true, true, true, true, true, true, true, true, true, true, true, true, true, true, true, true, true, true, true, true, true, true, true, true, true, true, true, true, true, true, true, true, true, true, true, true, true, true, true, true, true, true, true, true, true, true, true, true, true, true, false, false, false, false, false, false, false, false, false, false, false, false, false, false, false, false, false, false, false, false, false, false] rfl rfl (any_of HT_.out (by kernel_rfl)) (fun _ _ _ h => h) (Or.inl ⟨by rfl, ?_⟩) ?_ ?_
  rotate_left
  · intro w'
    go_simp
    with_reducible rfl
  rotate_left
  · simp only [Act.put, List.setIfInBounds_toArray, List.set_cons_zero, List.set_cons_succ, i64_w, i32_w]
    rfl
  refine pure_ (i := 50) (N := some 123) (v := ?_) (a' := ?_) #[true, true, true, true, true, true, true, true, true, true, true, true, true, true, true, true, true, true, true, true, true, true, true, true, true, true, true, true, true, true, true, true, true, true, true, true, true, true, true, true, true, true, true, true, true, true, true, true, true, true, true, false, false, false, false, false, false, false, false, false, false, false, false, false, false, false, false, false, false, false, false, false] rfl rfl (any_of HT_.out (by kernel_rfl)) (fun _ _ _ h => h) (Or.inl ⟨by rfl, ?_⟩) ?_ ?_
  rotate_left
  · intro w'
    go_simp
    with_reducible rfl
  rotate_left
  · simp only [Act.put, List.setIfInBounds_toArray, List.set_cons_zero, List.set_cons_succ, i64_w, i32_w]
    rfl
  refine pure_ (i := 51) (N := some 124) (v := ?_) (a' := ?_) #[true, true, true, true, true, true, true, true, true, true, true, true, true, true, true, true, true, true, true, true, true, true, true, true, true, true, true, true, true, true, true, true, true, true, true, true, true, true, true, true, true, true, true, true, true, true, true, true, true, true, true, true, false, false, false, false, false, false, false, false, false, false, false, false, false, false, false, false, false, false, false, false] rfl rfl (any_of HT_.out (by kernel_rfl)) (fun _ _ _ h => h) (Or.inl ⟨by rfl, ?_⟩) ?_ ?_
  rotate_left
  · intro w'
    go_simp
    with_reducible rfl
  rotate_left
  · simp only [Act.put, List.setIfInBounds_toArray, List.set_cons_zero, List.set_cons_succ, i64_w, i32_w]
    rfl
  refine pure_ (i := 52) (N := some 125) (v := ?_) (a' := ?_) #[true, true, true, true, true, true, true, true, true, true, true, true, true, true, true, true, true, true, true, true, true, true, true, true, true, true, true, true, true, true, true, true, true, true, true, true, true, true, true, true, true, true, true, true, true, true, true, true, true, true, true, true, true, false, false, false, false, false, false, false, false, false, false, false, false, false, false, false, false, false, false, false] rfl rfl (any_of HT_.out (by kernel_rfl)) (fun _ _ _ h => h) (Or.inl ⟨by rfl, ?_⟩) ?_ ?_
  rotate_left
  · intro w'
    go_simp
    with_reducible rfl
  rotate_left
  · simp only [Act.put, List.setIfInBounds_toArray, List.set_cons_zero, List.set_cons_succ, i64_w, i32_w]
    rfl
  refine one_ (i := 53) (N := some 126) #[true, true, true, true, true, true, true, true, true, true, true, true, true, true, true, true, true, true, true, true, true, true, true, true, true, true, true, true, true, true, true, true, true, true, true, true, true, true, true, true, true, true, true, true, true, true, true, true, true, true, true, true, true, true, false, false, false, false, false, false, false, false, false, false, false, false, false, false, false, false, false, false] rfl rfl (one_of HT_.out (by kernel_rfl)) (by decide) (fun K hK => ?_)
  refine goes_ Try.func20 (by kernel_rfl) rfl #[.slice A28 y28.length y28.length, .int .i64 0, .string (⟨#[98]⟩ : ByteArray)] (by rfl) rfl rfl (by (try simp only [List.map_toArray, List.map_cons, List.map_nil]); first | done | rfl) ?_
  refine (schema_To.calls _ _ y28 0 (⟨#[98]⟩ : ByteArray) 1 _ (Kd.C_below F28.out HB2.out) (Nat.le_refl _) ht2.out).mono ?_
  rintro e w3 ⟨rfl, hb⟩
  refine ⟨_, rfl, ?_⟩
  have n0_ := Aside0.mk (below_then HB2.out HB2.out.size hb)
  have n1_ := Aside0.mk (below_then HB3.out HB3.out.size hb)
  clear HB2 HB3 hb
  have HB2 := n0_
  have HB3 := n1_
  clear n0_ n1_
  refine hK.out _ _ (hg1.out _ HB2.out) (fun hHeld => ?_)
  clear hK K
  refine norm_ (a' := ?_) ?_ ?_
  rotate_left
  · show Act.put _ (some 126) _ = _
    simp only [Act.put, List.setIfInBounds_toArray, List.set_cons_zero, List.set_cons_succ, i64_w, i32_w]
    rfl
  refine pure_ (i := 54) (N := some 127) (v := ?_) (a' := ?_) #[true, true, true, true, true, true, true, true, true, true, true, true, true, true, true, true, true, true, true, true, true, true, true, true, true, true, true, true, true, true, true, true, true, true, true, true, true, true, true, true, true, true, true, true, true, true, true, true, true, true, true, true, true, true, true, false, false, false, false, false, false, false, false, false, false, false, false, false, false, false, false, false] rfl rfl (any_of HT_.out (by kernel_rfl)) (fun _ _ _ h => h) (Or.inl ⟨by rfl, ?_⟩) ?_ ?_
  rotate_left
  · intro w'
    go_simp
    with_reducible rfl
  rotate_left
  · simp only [Act.put, List.setIfInBounds_toArray, List.set_cons_zero, List.set_cons_succ, i64_w, i32_w]
    rfl
  refine pure_ (i := 55) (N := some 128) (v := ?_) (a' := ?_) #[true, true, true, true, true, true, true, true, true, true, true, true, true, true, true, true, true, true, true, true, true, true, true, true, true, true, true, true, true, true, true, true, true, true, true, true, true, true, true, true, true, true, true, true, true, true, true, true, true, true, true, true, true, true, true, true, false, false, false, false, false, false, false, false, false, false, false, false, false, false, false, false] rfl rfl (any_of HT_.out (by kernel_rfl)) (fun _ _ _ h => h) (Or.inl ⟨by rfl, ?_⟩) ?_ ?_
  rotate_left
  · intro w'
    go_simp
    with_reducible rfl
  rotate_left
  · simp only [Act.put, List.setIfInBounds_toArray, List.set_cons_zero, List.set_cons_succ, i64_w, i32_w]
    rfl
  refine pure_ (i := 56) (N := some 129) (v := ?_) (a' := ?_) #[true, true, true, true, true, true, true, true, true, true, true, true, true, true, true, true, true, true, true, true, true, true, true, true, true, true, true, true, true, true, true, true, true, true, true, true, true, true, true, true, true, true, true, true, true, true, true, true, true, true, true, true, true, true, true, true, true, false, false, false, false, false, false, false, false, false, false, false, false, false, false, false] rfl rfl (any_of HT_.out (by kernel_rfl)) (fun _ _ _ h => h) (Or.inl ⟨by rfl, ?_⟩) ?_ ?_
  rotate_left
  · intro w'
    go_simp
    with_reducible rfl
  rotate_left
  · simp only [Act.put, List.setIfInBounds_toArray, List.set_cons_zero, List.set_cons_succ, i64_w, i32_w]
    rfl
  refine pure_ (i := 57) (N := some 130) (v := ?_) (a' := ?_) #[true, true, true, true, true, true, true, true, true, true, true, true, true, true, true, true, true, true, true, true, true, true, true, true, true, true, true, true, true, true, true, true, true, true, true, true, true, true, true, true, true, true, true, true, true, true, true, true, true, true, true, true, true, true, true, true, true, true, false, false, false, false, false, false, false, false, false, false, false, false, false, false] rfl rfl (any_of HT_.out (by kernel_rfl)) (fun _ _ _ h => h) (Or.inl ⟨by rfl, ?_⟩) ?_ ?_
  rotate_left
  · intro w'
    go_simp
    with_reducible rfl
  rotate_left
  · simp only [Act.put, List.setIfInBounds_toArray, List.set_cons_zero, List.set_cons_succ, i64_w, i32_w]
    rfl
  refine one_ (i := 58) (N := some 131) #[true, true, true, true, true, true, true, true, true, true, true, true, true, true, true, true, true, true, true, true, true, true, true, true, true, true, true, true, true, true, true, true, true, true, true, true, true, true, true, true, true, true, true, true, true, true, true, true, true, true, true, true, true, true, true, true, true, true, true, false, false, false, false, false, false, false, false, false, false, false, false, false] rfl rfl (one_of HT_.out (by kernel_rfl)) (by decide) (fun K hK => ?_)
  refine goes_ Try.func20 (by kernel_rfl) rfl #[.slice A28 y28.length y28.length, .int .i64 0, .string (⟨#[113]⟩ : ByteArray)] (by rfl) rfl rfl (by (try simp only [List.map_toArray, List.map_cons, List.map_nil]); first | done | rfl) ?_
  refine (schema_To.calls _ _ y28 0 (⟨#[113]⟩ : ByteArray) 2 _ (Kd.C_below F28.out HB2.out) (Nat.le_refl _) ht3.out).mono ?_
  rintro e w3 ⟨rfl, hb⟩
  refine ⟨_, rfl, ?_⟩
  have n0_ := Aside0.mk (below_then HB2.out HB2.out.size hb)
  have n1_ := Aside0.mk (below_then HB3.out HB3.out.size hb)
  clear HB2 HB3 hb
  have HB2 := n0_
  have HB3 := n1_
  clear n0_ n1_
  refine hK.out _ _ (hg1.out _ HB2.out) (fun hHeld => ?_)
  clear hK K
  refine norm_ (a' := ?_) ?_ ?_
  rotate_left
  · show Act.put _ (some 131) _ = _
    simp only [Act.put, List.setIfInBounds_toArray, List.set_cons_zero, List.set_cons_succ, i64_w, i32_w]
    rfl
  refine pure_ (i := 59) (N := some 132) (v := ?_) (a' := ?_) #[true, true, true, true, true, true, true, true, true, true, true, true, true, true, true, true, true, true, true, true, true, true, true, true, true, true, true, true, true, true, true, true, true, true, true, true, true, true, true, true, true, true, true, true, true, true, true, true, true, true, true, true, true, true, true, true, true, true, true, true, false, false, false, false, false, false, false, false, false, false, false, false] rfl rfl (any_of HT_.out (by kernel_rfl)) (fun _ _ _ h => h) (Or.inl ⟨by rfl, ?_⟩) ?_ ?_
  rotate_left
  · intro w'
    go_simp
    with_reducible rfl
  rotate_left
  · simp only [Act.put, List.setIfInBounds_toArray, List.set_cons_zero, List.set_cons_succ, i64_w, i32_w]
    rfl
  refine pure_ (i := 60) (N := some 133) (v := ?_) (a' := ?_) #[true, true, true, true, true, true, true, true, true, true, true, true, true, true, true, true, true, true, true, true, true, true, true, true, true, true, true, true, true, true, true, true, true, true, true, true, true, true, true, true, true, true, true, true, true, true, true, true, true, true, true, true, true, true, true, true, true, true, true, true, true, false, false, false, false, false, false, false, false, false, false, false] rfl rfl (any_of HT_.out (by kernel_rfl)) (fun _ _ _ h => h) (Or.inl ⟨by rfl, ?_⟩) ?_ ?_
  rotate_left
  · intro w'
    go_simp
    with_reducible rfl
  rotate_left
  · simp only [Act.put, List.setIfInBounds_toArray, List.set_cons_zero, List.set_cons_succ, i64_w, i32_w]
    rfl
  refine pure_ (i := 61) (N := some 134) (v := ?_) (a' := ?_) #[true, true, true, true, true, true, true, true, true, true, true, true, true, true, true, true, true, true, true, true, true, true, true, true, true, true, true, true, true, true, true, true, true, true, true, true, true, true, true, true, true, true, true, true, true, true, true, true, true, true, true, true, true, true, true, true, true, true, true, true, true, true, false, false, false, false, false, false, false, false, false, false] rfl rfl (any_of HT_.out (by kernel_rfl)) (fun _ _ _ h => h) (Or.inl ⟨by rfl, ?_⟩) ?_ ?_
  rotate_left
  · intro w'
    go_simp
    with_reducible rfl
  rotate_left
  · simp only [Act.put, List.setIfInBounds_toArray, List.set_cons_zero, List.set_cons_succ, i64_w, i32_w]
    rfl
  refine pure_ (i := 62) (N := some 135) (v := ?_) (a' := ?_) #[true, true, true, true, true, true, true, true, true, true, true, true, true, true, true, true, true, true, true, true, true, true, true, true, true, true, true, true, true, true, true, true, true, true, true, true, true, true, true, true, true, true, true, true, true, true, true, true, true, true, true, true, true, true, true, true, true, true, true, true, true, true, true, false, false, false, false, false, false, false, false, false] rfl rfl (any_of HT_.out (by kernel_rfl)) (fun _ _ _ h => h) (Or.inl ⟨by rfl, ?_⟩) ?_ ?_
  rotate_left
  · intro w'
    go_simp
    with_reducible rfl
  rotate_left
  · simp only [Act.put, List.setIfInBounds_toArray, List.set_cons_zero, List.set_cons_succ, i64_w, i32_w]
    rfl
  refine one_ (i := 63) (N := some 136) #[true, true, true, true, true, true, true, true, true, true, true, true, true, true, true, true, true, true, true, true, true, true, true, true, true, true, true, true, true, true, true, true, true, true, true, true, true, true, true, true, true, true, true, true, true, true, true, true, true, true, true, true, true, true, true, true, true, true, true, true, true, true, true, true, false, false, false, false, false, false, false, false] rfl rfl (one_of HT_.out (by kernel_rfl)) (by decide) (fun K hK => ?_)
  refine goes_ Try.func18 (by kernel_rfl) rfl #[.slice A28 y28.length y28.length, .int .i64 4, .slice none 0 0] (by rfl) rfl rfl (by (try simp only [List.map_toArray, List.map_cons, List.map_nil]); first | done | rfl) ?_
  refine (schema_Fits.calls _ _ y28 4 _ _ ([] : List S53) false _ (Kd.C_below F28.out HB2.out) (Nat.le_refl _) (Kd.C_nil _ _) (Nat.le_refl _) hf7.out).mono ?_
  rintro e w3 ⟨rfl, hb⟩
  refine ⟨_, rfl, ?_⟩
  have n0_ := Aside0.mk (below_then HB2.out HB2.out.size hb)
  have n1_ := Aside0.mk (below_then HB3.out HB3.out.size hb)
  clear HB2 HB3 hb
  have HB2 := n0_
  have HB3 := n1_
  clear n0_ n1_
  refine hK.out _ _ (hg1.out _ HB2.out) (fun hHeld => ?_)
  clear hK K
  refine norm_ (a' := ?_) ?_ ?_
  rotate_left
  · show Act.put _ (some 136) _ = _
    simp only [Act.put, List.setIfInBounds_toArray, List.set_cons_zero, List.set_cons_succ, i64_w, i32_w]
    rfl
  refine pure_ (i := 64) (N := some 137) (v := ?_) (a' := ?_) #[true, true, true, true, true, true, true, true, true, true, true, true, true, true, true, true, true, true, true, true, true, true, true, true, true, true, true, true, true, true, true, true, true, true, true, true, true, true, true, true, true, true, true, true, true, true, true, true, true, true, true, true, true, true, true, true, true, true, true, true, true, true, true, true, true, false, false, false, false, false, false, false] rfl rfl (any_of HT_.out (by kernel_rfl)) (fun _ _ _ h => h) (Or.inl ⟨by rfl, ?_⟩) ?_ ?_
  rotate_left
  · intro w'
    go_simp
    with_reducible rfl
  rotate_left
  · simp only [Act.put, List.setIfInBounds_toArray, List.set_cons_zero, List.set_cons_succ, i64_w, i32_w]
    rfl
  refine pure_ (i := 65) (N := some 138) (v := ?_) (a' := ?_) #[true, true, true, true, true, true, true, true, true, true, true, true, true, true, true, true, true, true, true, true, true, true, true, true, true, true, true, true, true, true, true, true, true, true, true, true, true, true, true, true, true, true, true, true, true, true, true, true, true, true, true, true, true, true, true, true, true, true, true, true, true, true, true, true, true, true, false, false, false, false, false, false] rfl rfl (any_of HT_.out (by kernel_rfl)) (fun _ _ _ h => h) (Or.inl ⟨by rfl, ?_⟩) ?_ ?_
  rotate_left
  · intro w'
    go_simp
    with_reducible rfl
  rotate_left
  · simp only [Act.put, List.setIfInBounds_toArray, List.set_cons_zero, List.set_cons_succ, i64_w, i32_w]
    rfl
  refine pure_ (i := 66) (N := some 139) (v := ?_) (a' := ?_) #[true, true, true, true, true, true, true, true, true, true, true, true, true, true, true, true, true, true, true, true, true, true, true, true, true, true, true, true, true, true, true, true, true, true, true, true, true, true, true, true, true, true, true, true, true, true, true, true, true, true, true, true, true, true, true, true, true, true, true, true, true, true, true, true, true, true, true, false, false, false, false, false] rfl rfl (any_of HT_.out (by kernel_rfl)) (fun _ _ _ h => h) (Or.inl ⟨by rfl, ?_⟩) ?_ ?_
  rotate_left
  · intro w'
    go_simp
    with_reducible rfl
  rotate_left
  · simp only [Act.put, List.setIfInBounds_toArray, List.set_cons_zero, List.set_cons_succ, i64_w, i32_w]
    rfl
  refine pure_ (i := 67) (N := some 140) (v := ?_) (a' := ?_) #[true, true, true, true, true, true, true, true, true, true, true, true, true, true, true, true, true, true, true, true, true, true, true, true, true, true, true, true, true, true, true, true, true, true, true, true, true, true, true, true, true, true, true, true, true, true, true, true, true, true, true, true, true, true, true, true, true, true, true, true, true, true, true, true, true, true, true, true, false, false, false, false] rfl rfl (any_of HT_.out (by kernel_rfl)) (fun _ _ _ h => h) (Or.inl ⟨by rfl, ?_⟩) ?_ ?_
  rotate_left
  · intro w'
    go_simp
    with_reducible rfl
  rotate_left
  · simp only [Act.put, List.setIfInBounds_toArray, List.set_cons_zero, List.set_cons_succ, i64_w, i32_w]
    rfl
  refine one_ (i := 68) (N := some 141) #[true, true, true, true, true, true, true, true, true, true, true, true, true, true, true, true, true, true, true, true, true, true, true, true, true, true, true, true, true, true, true, true, true, true, true, true, true, true, true, true, true, true, true, true, true, true, true, true, true, true, true, true, true, true, true, true, true, true, true, true, true, true, true, true, true, true, true, true, true, false, false, false] rfl rfl (one_of HT_.out (by kernel_rfl)) (by decide) (fun K hK => ?_)
  refine goes_ Try.func18 (by kernel_rfl) rfl #[.slice A28 y28.length y28.length, .int .i64 (-1), .slice none 0 0] (by rfl) rfl rfl (by (try simp only [List.map_toArray, List.map_cons, List.map_nil]); first | done | rfl) ?_
  refine (schema_Fits.calls _ _ y28 (-1) _ _ ([] : List S53) false _ (Kd.C_below F28.out HB2.out) (Nat.le_refl _) (Kd.C_nil _ _) (Nat.le_refl _) hf8.out).mono ?_
  rintro e w3 ⟨rfl, hb⟩
  refine ⟨_, rfl, ?_⟩
  have n0_ := Aside0.mk (below_then HB2.out HB2.out.size hb)
  have n1_ := Aside0.mk (below_then HB3.out HB3.out.size hb)
  clear HB2 HB3 hb
  have HB2 := n0_
  have HB3 := n1_
  clear n0_ n1_
  refine hK.out _ _ (hg1.out _ HB2.out) (fun hHeld => ?_)
  clear hK K
  refine norm_ (a' := ?_) ?_ ?_
  rotate_left
  · show Act.put _ (some 141) _ = _
    simp only [Act.put, List.setIfInBounds_toArray, List.set_cons_zero, List.set_cons_succ, i64_w, i32_w]
    rfl
  refine pure_ (i := 69) (N := some 142) (v := ?_) (a' := ?_) #[true, true, true, true, true, true, true, true, true, true, true, true, true, true, true, true, true, true, true, true, true, true, true, true, true, true, true, true, true, true, true, true, true, true, true, true, true, true, true, true, true, true, true, true, true, true, true, true, true, true, true, true, true, true, true, true, true, true, true, true, true, true, true, true, true, true, true, true, true, true, false, false] rfl rfl (any_of HT_.out (by kernel_rfl)) (fun _ _ _ h => h) (Or.inl ⟨by rfl, ?_⟩) ?_ ?_
  rotate_left
  · intro w'
    go_simp
    with_reducible rfl
  rotate_left
  · simp only [Act.put, List.setIfInBounds_toArray, List.set_cons_zero, List.set_cons_succ, i64_w, i32_w]
    rfl
  refine pure_ (i := 70) (N := some 143) (v := ?_) (a' := ?_) #[true, true, true, true, true, true, true, true, true, true, true, true, true, true, true, true, true, true, true, true, true, true, true, true, true, true, true, true, true, true, true, true, true, true, true, true, true, true, true, true, true, true, true, true, true, true, true, true, true, true, true, true, true, true, true, true, true, true, true, true, true, true, true, true, true, true, true, true, true, true, true, false] rfl rfl (any_of HT_.out (by kernel_rfl)) (fun _ _ _ h => h) (Or.inl ⟨by rfl, ?_⟩) ?_ ?_
  rotate_left
  · intro w'
    go_simp
    with_reducible rfl
  rotate_left
  · simp only [Act.put, List.setIfInBounds_toArray, List.set_cons_zero, List.set_cons_succ, i64_w, i32_w]
    rfl
  refine pure_ (i := 71) (N := some 2) (v := ?_) (a' := ?_) #[true, true, true, true, true, true, true, true, true, true, true, true, true, true, true, true, true, true, true, true, true, true, true, true, true, true, true, true, true, true, true, true, true, true, true, true, true, true, true, true, true, true, true, true, true, true, true, true, true, true, true, true, true, true, true, true, true, true, true, true, true, true, true, true, true, true, true, true, true, true, true, true] rfl rfl (any_of HT_.out (by kernel_rfl)) (fun _ _ _ h => h) (Or.inl ⟨by rfl, ?_⟩) ?_ ?_
  rotate_left
  · intro w'
    go_simp
    with_reducible rfl
  rotate_left
  · simp only [Act.put, List.setIfInBounds_toArray, List.set_cons_zero, List.set_cons_succ, i64_w, i32_w]
    rfl
  refine done_ (done_of HT_.out (by kernel_rfl)) ?_
  try go_wp2
  go_ret
  exact ⟨rfl, HB3.out⟩
theorem within8 (a : Int) : ∃ r, cadencelaw4_within.f a 8 = some r ∧ 0 ≤ r ∧ r < 8 := by
  have h2 := Int.tmod_lt_of_pos a (show (0 : Int) < 8 by omega)
  have h3 := Int.lt_tmod_of_pos a (show (0 : Int) < 8 by omega)
  unfold cadencelaw4_within.f
  rw [if_neg (by omega)]
  split
  · exact ⟨_, rfl, by rw [wrap_id (by omega) (by omega)]; omega, by rw [wrap_id (by omega) (by omega)]; omega⟩
  · exact ⟨_, rfl, by omega, h2⟩
end Go.Proofs.Ytoihiehoolehiaa.PX
set_option linter.unusedVariables false
set_option linter.unusedSimpArgs false
namespace Go.Proofs.Ytoihiehoolehiaa.schemaKnown
open Go.ChangeShapes Go.WideShapes Go.ChangeAt Go.RowKit
open Go.ChangeMaps (open_string shut_string)
open Go.Proofs.Ytoihiehoolehiaa.PX
theorem own : ownKnob Try.prog.godebug = none := by kernel_rfl
theorem laidOut : laidOutB Try.prog = true := by kernel_rfl
set_option maxRecDepth 100000 in
theorem lifted (os : Os) (started : os.Started) (H : Type) (enc : TypeId × Value → H) :
    ReturnsInHanded {} Try.checked os 5 .any (Rows.schemaKnownSpec.pre6 enc Try.prog Try.f5 Rows.schemaKnownRow.domain false) (Rows.schemaKnownSpec.post enc Try.prog Try.f5 false true false false) := by
  refine returnsInHanded_of_change_sized (C := Try.checked) own started (by kernel_rfl) Try.func5
    (ChangeSpec.witness6 (enc := enc) (C := Try.checked) false ⟨#[], #[.int .i64 0], []⟩ 8 (by kernel_rfl) (by kernel_rfl) (by kernel_rfl) (by kernel_rfl)) ?_
  intro W base args ds gs before hval0 hW hcnd hsz0 _
  have hsz : (DataW.weightsEach Try.prog (Try.f5.params.toList ++ Rows.schemaKnownSpec.plain.varTypes Try.prog) (ds ++ gs)).all (· ≤ reachBytes) = true := hsz0
  have hval : ∀ (j : Nat) t v, Try.f5.params[j]? = some t → args[j]? = some v → Value.okWide Try.prog W .any base t v := hval0
  have hW' := hW
  obtain ⟨p, q, hA0, hV, rfl, hfz, hnd⟩ := hW
  have hA : DataW.TrodAll enc Try.prog W 0 (fun _ => true) true Try.f5.params.toList args.toList ds p := hA0
  rw [Try.params5] at hA hval hsz
  obtain ⟨v0, vs0, d0, ds0, p0, q0, hargs, rfl, rfl, h0, r0⟩ := trodAll_cons hA
  obtain ⟨rfl, rfl, rfl⟩ := trodAll_nil r0
  obtain rfl : args = #[v0] := by cases args; simp_all
  obtain ⟨rfl, rfl⟩ := trodVars_none hV
  have lt0 : ∀ x ∈ p0, x.block < W.heap.size := by obtain ⟨m, hm⟩ := h0; exact DataW.trod_lt m _ _ _ hm
  have k0 := h0
  obtain ⟨x0, rfl, _, _, w0⟩ := open_int Try.underlying3 (hval 0 3 v0 rfl rfl) h0
  clear hA0 hval0 hsz0 hsz
  obtain ⟨k, hk⟩ := within8 x0
  refine (known_calls x0 k hk.1 hk.2.1 hk.2.2 W).mono fun e W' ⟨he, bel⟩ => ?_
  subst he
  exact ⟨_, rfl, _, _, _, [], _, [], hW', trodAll_mk1 (shut_bool Try.underlying4 _), (trodAll_cons_mk (Below.trod laidOut (by kernel_rfl) (of_decide_eq_true (by kernel_rfl)) k0 bel lt0) trodAll_mk0), rfl, bel.frame _, fun h => by cases h⟩
theorem over : Rows.schemaKnownRow.holds Try.pinned (OpenSpec.ofChange Rows.schemaKnownSpec) :=
  OpenClaim.holds_of_wide 5 Try.f5 rfl rfl rfl rfl rfl rfl rfl ⟨rfl, rfl, rfl, rfl, rfl⟩ rfl rfl rfl rfl rfl (by kernel_rfl) Try.func5 (by kernel_rfl)
    (of_decide_eq_true (by kernel_rfl)) (by unfold Func.isWrapper; first | (rw [if_pos (by decide +kernel)]; kernel_rfl) | (rw [if_neg (by decide +kernel)]; exact ⟨rfl, rfl⟩))
    (fun os started H enc _ => lifted os started H enc)
theorem proved : Rows.SchemaKnownSaid := over
#print axioms proved
end Go.Proofs.Ytoihiehoolehiaa.schemaKnown
