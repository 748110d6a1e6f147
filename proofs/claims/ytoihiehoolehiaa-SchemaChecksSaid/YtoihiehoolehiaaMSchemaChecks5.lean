/- Texts on the way to 'SchemaChecks', one behind the other (part 5). -/
import Derived.Test.YtoihiehoolehiaaMSchemaChecks1
import Derived.Test.YtoihiehoolehiaaMSchemaChecks4
import Derived.Test.YtoihiehoolehiaaMSchemaChecks2
import Derived.WalkKit
import Derived.WalkSpells
import Derived.WalkLawsBesides
import Derived.OwnWalk
import Derived.Below
import Derived.Lib.Hide
import Derived.Laws.CopyOwn
import Derived.Deep.Draws
import Derived.Laws.BytesArg
import Derived.Lib.ConvBytes
import Derived.Lib.Strings
import Derived.Lib.IndexBytes
import Derived.Laws.BitsAllLaws
import Derived.Laws.Bits64
import Derived.KernelRfl
import Derived.Lib.AppendStr
import Derived.Maps.AppendAt
import Derived.Test.YtoihiehoolehiaaProg
namespace Go.Proofs.Ytoihiehoolehiaa.PX
open Go.RowKit Go.Proofs.YtoihiehoolehiaaW.PrintWords Go.Proofs.YtoihiehoolehiaaW.PrintLast Go.Proofs.YtoihiehoolehiaaW.PrintMore
attribute [local go_sem] max2_int min2_int max_two min_two max_three min_three max_four min_four   
set_option linter.unusedVariables false
set_option linter.unusedSimpArgs false
attribute [local go_sem] run_field_87_0
mutual
def schema_Check.l0:Nat→List (S33)→List (S33)→Int→Int→Option (Int)
 | 0,_,_,_,_=>none
 | k+1,x0,x16,x17,x18=>if x18 < x17 then (if 0≤x18 then (if x18 < (x16.length:Int) then (if (((rd_T33 x16 x18).f0).length:Int) > 6 then (some 4) else (schema_Check.l1 k x0 x16 x17 x18 ((rd_T33 x16 x18).f0) (((rd_T33 x16 x18).f0).length:Int) 0 ((rd_T33 x16 x18).f0) ((rd_T33 x16 x18).f1) ((rd_T33 x16 x18).f2))) else (none)) else (none)) else (some 0)
def schema_Check.l1:Nat→List (S33)→List (S33)→Int→Int→List (S40)→Int→Int→List (S40)→Bool→Bool→Option (Int)
 | 0,_,_,_,_,_,_,_,_,_,_=>none
 | k+1,x0,x16,x17,x18,x27,x28,x29,x103000,x103001,x103002=>if x29 < x28 then (if 0≤x29 then (if x29 < (x27.length:Int) then (if x29≤(x103000.length:Int) then ((schema_field.f x0 (x103000.take (x29:Int).toNat) ((rd_T40 x27 x29).f0.f0) ((rd_T40 x27 x29).f0.f1) ((rd_T40 x27 x29).f1) ((rd_T40 x27 x29).f2)).bind fun t109=>(if t109=0 then (schema_Check.l1 k x0 x16 x17 x18 x27 x28 (wrap64 (x29+1)) x103000 x103001 x103002) else (some t109))) else (none)) else (none)) else (none)) else (schema_Check.l0 k x0 x16 x17 (wrap64 (x18+1)))
end
def schema_Check.f (k:Nat) (l0:List (S33)):Option (Int):=if (l0.length:Int)=0 then (some 2) else (if (l0.length:Int) > 12 then (some 4) else (schema_Check.l0 k l0 l0 (l0.length:Int) 0))
theorem schema_Check.mono_l:∀ k,(∀ y0 y1 y2 y3,LeO (schema_Check.l0 k y0 y1 y2 y3) (schema_Check.l0 (k+1) y0 y1 y2 y3))∧(∀ y0 y1 y2 y3 y4 y5 y6 y7 y8 y9,LeO (schema_Check.l1 k y0 y1 y2 y3 y4 y5 y6 y7 y8 y9) (schema_Check.l1 (k+1) y0 y1 y2 y3 y4 y5 y6 y7 y8 y9))
 | 0=>⟨fun _ _ _ _ r h=>by simp [schema_Check.l0] at h,fun _ _ _ _ _ _ _ _ _ _ r h=>by simp [schema_Check.l1] at h⟩
 | k+1=>by
  obtain ⟨ih0,ih1⟩:=schema_Check.mono_l k
  refine ⟨?_,?_⟩
  ·intro y0 y1 y2 y3
   unfold schema_Check.l0
   repeat' first
   | (with_reducible exact ih0 _ _ _ _)
   | (with_reducible exact ih1 _ _ _ _ _ _ _ _ _ _)
   | (with_reducible exact LeO.refl _)
   | (with_reducible exact LeO.none _)
   | (with_reducible refine LeO.ite ?_ ?_)
   | (with_reducible refine LeO.bind ?_ (fun _=>?_))
   | exact ih0 _ _ _ _
   | exact ih1 _ _ _ _ _ _ _ _ _ _
   | exact LeO.none _
   | refine LeO.ite ?_ ?_
   | refine LeO.bind ?_ (fun _=>?_)
  ·intro y0 y1 y2 y3 y4 y5 y6 y7 y8 y9
   unfold schema_Check.l1
   repeat' first
   | (with_reducible exact ih0 _ _ _ _)
   | (with_reducible exact ih1 _ _ _ _ _ _ _ _ _ _)
   | (with_reducible exact LeO.refl _)
   | (with_reducible exact LeO.none _)
   | (with_reducible refine LeO.ite ?_ ?_)
   | (with_reducible refine LeO.bind ?_ (fun _=>?_))
   | exact ih0 _ _ _ _
   | exact ih1 _ _ _ _ _ _ _ _ _ _
   | exact LeO.none _
   | refine LeO.ite ?_ ?_
   | refine LeO.bind ?_ (fun _=>?_)
theorem schema_Check.mono:∀ a0 k,LeO (schema_Check.f k a0) (schema_Check.f (k+1) a0):=by
 intro a0 k
 obtain ⟨ih0,ih1⟩:=schema_Check.mono_l k
 unfold schema_Check.f
 repeat' first
   | (with_reducible exact ih0 _ _ _ _)
   | (with_reducible exact ih1 _ _ _ _ _ _ _ _ _ _)
   | (with_reducible exact LeO.refl _)
   | (with_reducible exact LeO.none _)
   | (with_reducible refine LeO.ite ?_ ?_)
   | (with_reducible refine LeO.bind ?_ (fun _=>?_))
   | exact ih0 _ _ _ _
   | exact ih1 _ _ _ _ _ _ _ _ _ _
   | exact LeO.none _
   | refine LeO.ite ?_ ?_
   | refine LeO.bind ?_ (fun _=>?_)
def schema_Check.T13:Bool × List (List Nat × List Nat):=(true,[([],[]),([],[]),([1],[1]),([],[]),([2,3],[2,3]),([],[]),([0,4,5],[0,4,5]),([6,6,0,1,2,3,4,5,6],[6])])
def schema_Check.B13:List Nat:=[0,0,2,0,14,0,63,127]
theorem schema_Check.tab13:rtab .any (opsOf Try.f11 13)=schema_Check.T13:=by kernel_rfl
theorem schema_Check.bits13:waitsOk schema_Check.T13.2 schema_Check.B13=true:=by kernel_rfl
set_option maxHeartbeats 8000000 in
set_option maxRecDepth 100000 in
theorem schema_Check.calls (k:Nat) (A0:Option Addr) (c0:Nat) (l0:List (S33)) (r:Int) (w:World) (hr0:Kd.C k33 w A0 l0.length l0) (hc0:l0.length≤c0) (h:schema_Check.f k l0=some r) :
  Calls Try.prog 11 #[.slice A0 l0.length c0] w fun e w'=>e=.returned (.int .i64 r)∧Below w.heap.size w w':=by
 have hu33:=Try.underlying33
 have hu40:=Try.underlying40
 have HR0:=Az.mk hr0
 have HC0:=Az.mk hc0
 clear hr0 hc0
 have HB:=Az.mk (Below.refl w.heap.size w)
 have H:(if (l0.length:Int)=0 then (some 2) else (if (l0.length:Int) > 12 then (some 4) else (schema_Check.l0 k l0 l0 (l0.length:Int) 0)))=some r:=h
 clear h
 by_cases c2:(l0.length:Int)=0
 ·rw [if_pos c2] at H
  have c2b0:((l0.length:Int) == 0)=true:=beq_iff_eq.mpr c2
  have c2b1:((l0.length:Int) != 0)=false:=bne_eq_false_iff_eq.mpr c2
  clear c2
  obtain rfl:=Option.some.inj H
  go_enter Try.func11,Try.ntmps11
  go_wp2
  go_ret
  exact ⟨by first|rfl|(simp [errW_none,errW_some] <;> rfl)|(simp [*,errW_none,errW_some] <;> rfl),by repeat (first|(with_reducible first|exact HB.out|apply bA_|apply bN_|apply bD_)|exact HB.out)⟩
 ·rw [if_neg c2] at H
  have c2b0:((l0.length:Int) == 0)=false:=beq_eq_false_iff_ne.mpr c2
  have c2b1:((l0.length:Int) != 0)=true:=bne_iff_ne.mpr c2
  have c2b2:¬ (l0 = []):=fun h_=>c2 (by rw [h_];rfl)
  by_cases c3:(l0.length:Int) > 12
  ·rw [if_pos c3] at H
   have c3b0:decide (12 < (l0.length:Int))=true:=decide_eq_true c3
   have c3b1:decide (12 < l0.length)=true:=decide_eq_true (by omega)
   clear c3
   obtain rfl:=Option.some.inj H
   go_enter Try.func11,Try.ntmps11
   go_wp2
   go_ret
   exact ⟨by first|rfl|(simp [errW_none,errW_some] <;> rfl)|(simp [*,errW_none,errW_some] <;> rfl),by repeat (first|(with_reducible first|exact HB.out|apply bA_|apply bN_|apply bD_)|exact HB.out)⟩
  ·rw [if_neg c3] at H
   have c3b0:decide (12 < (l0.length:Int))=false:=decide_eq_false c3
   have c3b1:decide (12 < l0.length)=false:=decide_eq_false (by omega)
   clear c3
   have H':=Az.mk H
   clear H
   go_enter Try.func11,Try.ntmps11
   go_wp2
   go_loopg [18] k (fun kq v18 w'=>∃ (x18_1:Int),v18=.int .i64 x18_1∧Az (schema_Check.l0 kq l0 l0 (l0.length:Int) x18_1=some r)∧Az (kq≤k)∧Az (Below w.heap.size w w'))
   case atStart=>exact ⟨(0),(by first|rfl|(simp;done)|(simp [*];done)),H',⟨Nat.le_refl _⟩,⟨by repeat (first|(with_reducible first|exact HB.out|apply bA_|apply bN_|apply bD_)|exact HB.out)⟩⟩
   case round =>
    clear H'
    try clear c1
    try clear c2
    try clear c2b0
    try clear c2b1
    try clear c2b2
    try clear p2
    try clear c3
    try clear c3b0
    try clear c3b1
    obtain ⟨x18_1,rfl,HA,HK1,HB⟩:=hrel
    cases gk with
    | zero=>exact absurd HA.out (by simp [schema_Check.l0])
    | succ k1 =>
     have H:=HA.out
     clear HA
     simp only [schema_Check.l0] at H
     by_cases c4:x18_1 < (l0.length:Int)
     ·rw [if_pos c4] at H
      have c4b0:decide (x18_1 < (l0.length:Int))=true:=decide_eq_true c4
      clear c4
      by_cases c5:0≤x18_1
      ·rw [if_pos c5] at H
       have c5b0:decide (0≤x18_1)=true:=decide_eq_true c5
       clear c5
       by_cases c6:x18_1 < (l0.length:Int)
       ·rw [if_pos c6] at H
        have c6b0:decide (x18_1 < (l0.length:Int))=true:=decide_eq_true c6
        clear c6
        by_cases c7:(((rd_T33 l0 x18_1).f0).length:Int) > 6
        ·rw [if_pos c7] at H
         have c7b0:decide (6 < (((rd_T33 l0 x18_1).f0).length:Int))=true:=decide_eq_true c7
         have c7b1:decide (6 < ((rd_T33 l0 x18_1).f0).length)=true:=decide_eq_true (by omega)
         clear c7
         obtain rfl:=Option.some.inj H
         have p101:0≤(x18_1:Int):=of_decide_eq_true (by first|(with_reducible assumption)|assumption)
         have q101:x18_1 < (l0.length:Int):=of_decide_eq_true (by first|(with_reducible assumption)|assumption)
         obtain ⟨ad101,A101_0,c101_0,e101,hx101_0,hx101_1,hx101_2,hl101_0,hi101_0⟩:=at_T33 HR0.out x18_1 p101 q101
         cases e101
         replace hx101_0:=(HB.out.cell (World.block_lt_of_cell? w _ hx101_0)).trans hx101_0
         replace hx101_1:=(HB.out.cell (World.block_lt_of_cell? w _ hx101_1)).trans hx101_1
         replace hx101_2:=(HB.out.cell (World.block_lt_of_cell? w _ hx101_2)).trans hx101_2
         have HR101_0:=Az.mk hi101_0
         have HC101_0:=Az.mk hl101_0
         clear hi101_0 hl101_0
         replace p101:=eq_true p101
         replace q101:=eq_true q101
         go_wp2_with (first|((with_reducible refine gate_dst (N:=4) rfl ?_);refine box_event ?hg (N:=4) ?hd (cs:=#[.slice none 0 0,.bool false,.bool false]) (t:=33) ?hr ?_;(case hd=>rfl);(case hg=>rfl);(case hr=>first|(go_simp;done)|(go_simp;rfl));intro gb102 hg w8 hbox hb;have n0_:=Az.mk (below_step (by repeat (first|(with_reducible first|exact HB.out|apply bA_|apply bN_|apply bD_)|exact HB.out)) hb);have n1_:=Az.mk (hbox);have n2_:=Az.mk ((by rw [hg];exact (be_ (by repeat (first|(with_reducible first|exact HB.out|apply bA_|apply bN_|apply bD_)|exact HB.out))):w.heap.size≤gb102));have n3_:=Az.mk ((by rw [hg];exact (be_ (by repeat (first|(with_reducible first|exact HB.out|apply bA_|apply bN_|apply bD_)|exact HB.out))):w.heap.size≤gb102));clear HB;have HB:=n0_;have BK102:=n1_;have GW102:=n2_;have GE102:=n3_;clear n0_ n1_ n2_ n3_;clear hb hbox hg;have hcz9_0:w8.cell? ⟨gb102,0,none⟩=some (.slice none 0 0):=(bc_ BK102.out 0).trans rfl;have hcz9_1:w8.cell? ⟨gb102,1,none⟩=some (.bool false):=(bc_ BK102.out 1).trans rfl;have hcz9_2:w8.cell? ⟨gb102,2,none⟩=some (.bool false):=(bc_ BK102.out 2).trans rfl;have hfz9_0:=bf_ BK102.out 0;have hfz9_1:=bf_ BK102.out 1;have hfz9_2:=bf_ BK102.out 2))
         go_ret
         exact ⟨by first|rfl|(simp [errW_none,errW_some] <;> rfl)|(simp [*,errW_none,errW_some] <;> rfl),by repeat (first|(with_reducible first|exact HB.out|apply bA_|apply bN_|apply bD_|refine bs_ ?_ GE102.out)|exact HB.out)⟩
        ·rw [if_neg c7] at H
         have c7b0:decide (6 < (((rd_T33 l0 x18_1).f0).length:Int))=false:=decide_eq_false c7
         have c7b1:decide (6 < ((rd_T33 l0 x18_1).f0).length)=false:=decide_eq_false (by omega)
         clear c7
         have H':=Az.mk H
         clear H
         have p101:0≤(x18_1:Int):=of_decide_eq_true (by first|(with_reducible assumption)|assumption)
         have q101:x18_1 < (l0.length:Int):=of_decide_eq_true (by first|(with_reducible assumption)|assumption)
         obtain ⟨ad101,A101_0,c101_0,e101,hx101_0,hx101_1,hx101_2,hl101_0,hi101_0⟩:=at_T33 HR0.out x18_1 p101 q101
         cases e101
         replace hx101_0:=(HB.out.cell (World.block_lt_of_cell? w _ hx101_0)).trans hx101_0
         replace hx101_1:=(HB.out.cell (World.block_lt_of_cell? w _ hx101_1)).trans hx101_1
         replace hx101_2:=(HB.out.cell (World.block_lt_of_cell? w _ hx101_2)).trans hx101_2
         have HR101_0:=Az.mk hi101_0
         have HC101_0:=Az.mk hl101_0
         clear hi101_0 hl101_0
         replace p101:=eq_true p101
         replace q101:=eq_true q101
         go_wp2_with (first|((with_reducible refine gate_dst (N:=4) rfl ?_);refine box_event ?hg (N:=4) ?hd (cs:=#[.slice none 0 0,.bool false,.bool false]) (t:=33) ?hr ?_;(case hd=>rfl);(case hg=>rfl);(case hr=>first|(go_simp;done)|(go_simp;rfl));intro gb102 hg w10 hbox hb;have n0_:=Az.mk (below_step (by repeat (first|(with_reducible first|exact HB.out|apply bA_|apply bN_|apply bD_)|exact HB.out)) hb);have n1_:=Az.mk (hbox);have n2_:=Az.mk ((by rw [hg];exact (be_ (by repeat (first|(with_reducible first|exact HB.out|apply bA_|apply bN_|apply bD_)|exact HB.out))):w.heap.size≤gb102));have n3_:=Az.mk ((by rw [hg];exact (be_ (by repeat (first|(with_reducible first|exact HB.out|apply bA_|apply bN_|apply bD_)|exact HB.out))):w.heap.size≤gb102));clear HB;have HB:=n0_;have BK102:=n1_;have GW102:=n2_;have GE102:=n3_;clear n0_ n1_ n2_ n3_;clear hb hbox hg;have hcz11_0:w10.cell? ⟨gb102,0,none⟩=some (.slice none 0 0):=(bc_ BK102.out 0).trans rfl;have hcz11_1:w10.cell? ⟨gb102,1,none⟩=some (.bool false):=(bc_ BK102.out 1).trans rfl;have hcz11_2:w10.cell? ⟨gb102,2,none⟩=some (.bool false):=(bc_ BK102.out 2).trans rfl;have hfz11_0:=bf_ BK102.out 0;have hfz11_1:=bf_ BK102.out 1;have hfz11_2:=bf_ BK102.out 2))
         go_loopg [29] k1 (fun kq v29 w'=>∃ (x29_2:Int),v29=.int .i64 x29_2∧Az (schema_Check.l1 kq l0 l0 (l0.length:Int) x18_1 ((rd_T33 l0 x18_1).f0) (((rd_T33 l0 x18_1).f0).length:Int) x29_2 ((rd_T33 l0 x18_1).f0) ((rd_T33 l0 x18_1).f1) ((rd_T33 l0 x18_1).f2)=some r)∧Az (kq≤k1)∧Az (w'.heap[gb102]? = some (.cells #[(.slice A101_0 ((rd_T33 l0 x18_1).f0).length c101_0),.bool ((rd_T33 l0 x18_1).f1),.bool ((rd_T33 l0 x18_1).f2)] 33 (0,0)))∧Az (Below w.heap.size w w'))
         case atStart=>exact ⟨(0),(by first|rfl|(simp;done)|(simp [*];done)),H',⟨Nat.le_refl _⟩,⟨by (with_reducible repeat (first|refine bq_ ?_ _|refine bw_ ?_|refine bz_ ?_ _));refine blk_put (cs:=#[.slice A101_0 ((rd_T33 l0 x18_1).f0).length c101_0,.bool ((rd_T33 l0 x18_1).f1),.bool false]) ?_ 2 _ rfl;(with_reducible repeat (first|refine bq_ ?_ _|refine bw_ ?_|refine bz_ ?_ _));refine blk_put (cs:=#[.slice A101_0 ((rd_T33 l0 x18_1).f0).length c101_0,.bool false,.bool false]) ?_ 1 _ rfl;(with_reducible repeat (first|refine bq_ ?_ _|refine bw_ ?_|refine bz_ ?_ _));refine blk_put (cs:=#[.slice none 0 0,.bool false,.bool false]) ?_ 0 _ rfl;(with_reducible repeat (first|refine bq_ ?_ _|refine bw_ ?_|refine bz_ ?_ _));exact BK102.out⟩,⟨by repeat (first|(with_reducible first|exact HB.out|apply bA_|apply bN_|apply bD_|refine bs_ ?_ GE102.out)|exact HB.out)⟩⟩
         case round =>
          clear H'
          try clear c1
          try clear p1
          try clear q1
          try clear hx1
          try clear c2
          try clear c2b0
          try clear c2b1
          try clear c2b2
          try clear p2
          try clear c3
          try clear c3b0
          try clear c3b1
          try clear c4
          try clear c4b0
          try clear c5
          try clear c5b0
          try clear c6
          try clear c6b0
          try clear c7
          try clear c7b0
          try clear c7b1
          try clear c10
          try clear p10
          try clear q10
          try clear hx10
          try clear c11
          try clear hcz11_0
          try clear hcz11_1
          try clear hcz11_2
          try clear hcz9_0
          try clear hcz9_1
          try clear hcz9_2
          try clear hfz11_0
          try clear hfz11_1
          try clear hfz11_2
          try clear hfz9_0
          try clear hfz9_1
          try clear hfz9_2
          try clear hx101_0
          try clear hx101_1
          try clear hx101_2
          try clear p101
          try clear p2
          try clear q101
          obtain ⟨x29_2,rfl,HA,HK2,BK102,HB⟩:=hrel
          cases gk with
          | zero=>exact absurd HA.out (by simp [schema_Check.l1])
          | succ k2 =>
           have H:=HA.out
           clear HA
           simp only [schema_Check.l1] at H
           by_cases c12:x29_2 < (((rd_T33 l0 x18_1).f0).length:Int)
           ·rw [if_pos c12] at H
            have c12b0:decide (x29_2 < (((rd_T33 l0 x18_1).f0).length:Int))=true:=decide_eq_true c12
            clear c12
            by_cases c13:0≤x29_2
            ·rw [if_pos c13] at H
             have c13b0:decide (0≤x29_2)=true:=decide_eq_true c13
             clear c13
             by_cases c14:x29_2 < (((rd_T33 l0 x18_1).f0).length:Int)
             ·rw [if_pos c14] at H
              have c14b0:decide (x29_2 < (((rd_T33 l0 x18_1).f0).length:Int))=true:=decide_eq_true c14
              clear c14
              have c15b0:=eq_true (of_decide_eq_true (by first|(with_reducible assumption)|assumption):0≤x29_2)
              by_cases c16:x29_2≤(((rd_T33 l0 x18_1).f0).length:Int)
              ·rw [if_pos c16] at H
               have c16b0:=eq_true c16
               have c16b1:decide (x29_2≤(((rd_T33 l0 x18_1).f0).length:Int))=true:=decide_eq_true c16
               clear c16
               obtain ⟨y105,hy105⟩:∃ y_:List (S40),y_=(((rd_T33 l0 x18_1).f0).take (x29_2:Int).toNat):=⟨_,rfl⟩
               replace H:((schema_field.f l0 y105 ((rd_T40 ((rd_T33 l0 x18_1).f0) x29_2).f0.f0) ((rd_T40 ((rd_T33 l0 x18_1).f0) x29_2).f0.f1) ((rd_T40 ((rd_T33 l0 x18_1).f0) x29_2).f1) ((rd_T40 ((rd_T33 l0 x18_1).f0) x29_2).f2)).bind fun t109=>(if t109=0 then (schema_Check.l1 k2 l0 l0 (l0.length:Int) x18_1 ((rd_T33 l0 x18_1).f0) (((rd_T33 l0 x18_1).f0).length:Int) (wrap64 (x29_2+1)) ((rd_T33 l0 x18_1).f0) ((rd_T33 l0 x18_1).f1) ((rd_T33 l0 x18_1).f2)) else (some t109)))=some r:=by first|(rw [hy105];with_reducible exact H)|(have H2_:=(Option.bind_some _ _).symm.trans H;rw [hy105];with_reducible exact H2_)|(have H2_:=(Option.bind_some _ _).symm.trans H;with_reducible exact H2_)|with_reducible exact H|(rw [hy105];exact H)|exact H
               have Ny105:=Az.mk hy105
               clear hy105
               replace H:=Option.bind_eq_some_iff.mp H
               obtain ⟨t109,A170,H⟩:=H
               replace H:(if t109=0 then (schema_Check.l1 k2 l0 l0 (l0.length:Int) x18_1 ((rd_T33 l0 x18_1).f0) (((rd_T33 l0 x18_1).f0).length:Int) (wrap64 (x29_2+1)) ((rd_T33 l0 x18_1).f0) ((rd_T33 l0 x18_1).f1) ((rd_T33 l0 x18_1).f2)) else (some t109))=some r:=H
               have A17:=Az.mk A170
               clear A170
               by_cases c18:t109=0
               ·rw [if_pos c18] at H
                have c18b0:(t109 == 0)=true:=beq_iff_eq.mpr c18
                have c18b1:(t109 != 0)=false:=bne_eq_false_iff_eq.mpr c18
                clear c18
                have H':=Az.mk H
                clear H
                have p103:0≤(x29_2:Int):=of_decide_eq_true (by first|(with_reducible assumption)|assumption)
                have q103:x29_2 < (((rd_T33 l0 x18_1).f0).length:Int):=of_decide_eq_true (by first|(with_reducible assumption)|assumption)
                obtain ⟨ad103,A103_1,c103_1,e103,hx103_0,hx103_1,hx103_2,hx103_3,hl103_1,hi103_1⟩:=at_T40 HR101_0.out x29_2 p103 q103
                cases e103
                replace hx103_0:=(HB.out.cell (World.block_lt_of_cell? w _ hx103_0)).trans hx103_0
                replace hx103_1:=(HB.out.cell (World.block_lt_of_cell? w _ hx103_1)).trans hx103_1
                replace hx103_2:=(HB.out.cell (World.block_lt_of_cell? w _ hx103_2)).trans hx103_2
                replace hx103_3:=(HB.out.cell (World.block_lt_of_cell? w _ hx103_3)).trans hx103_3
                have HR103_1:=Az.mk hi103_1
                have HC103_1:=Az.mk hl103_1
                clear hi103_1 hl103_1
                replace p103:=eq_true p103
                replace q103:=eq_true q103
                try go_wp2_with (first|((with_reducible refine gate_dst (N:=6) rfl ?_);refine box_event ?hg (N:=6) ?hd (cs:=#[.bool false,.slice none 0 0,.int .i64 0,.bool false]) (t:=40) ?hr ?_;(case hd=>rfl);(case hg=>rfl);(case hr=>first|(go_simp;done)|(go_simp;rfl));intro gb104 hg w19 hbox hb;have n0_:=Az.mk (bb_ (g:=gb102) (o:=.cells #[.slice (some ad103) ((rd_T33 l0 x18_1).f0).length c101_0,.bool ((rd_T33 l0 x18_1).f1),.bool ((rd_T33 l0 x18_1).f2)] 33 (0,0)) (by (with_reducible repeat (first|refine bq_ ?_ _|refine bw_ ?_|refine bz_ ?_ _));exact BK102.out) hb);have n1_:=Az.mk (below_step (by repeat (first|(with_reducible first|exact HB.out|apply bA_|apply bN_|apply bD_|refine bs_ ?_ GE102.out)|exact HB.out)) hb);have n2_:=Az.mk (hbox);have n3_:=Az.mk ((by rw [hg];exact (be_ (by repeat (first|(with_reducible first|exact HB.out|apply bA_|apply bN_|apply bD_|refine bs_ ?_ GE102.out)|exact HB.out))):w.heap.size≤gb104));have n4_:=Az.mk ((by rw [hg];exact (be_ (by repeat (first|(with_reducible first|exact HB.out|apply bA_|apply bN_|apply bD_|refine bs_ ?_ GE102.out)|exact HB.out))):w.heap.size≤gb104));have n5_:=Az.mk ((by rw [hg];exact Nat.ne_of_lt (blk_lt (g:=gb102) (o:=.cells #[.slice (some ad103) ((rd_T33 l0 x18_1).f0).length c101_0,.bool ((rd_T33 l0 x18_1).f1),.bool ((rd_T33 l0 x18_1).f2)] 33 (0,0)) (by (with_reducible repeat (first|refine bq_ ?_ _|refine bw_ ?_|refine bz_ ?_ _));exact BK102.out)):gb102≠gb104));have n6_:=Az.mk ((by rw [hg];exact Nat.ne_of_gt (blk_lt (g:=gb102) (o:=.cells #[.slice (some ad103) ((rd_T33 l0 x18_1).f0).length c101_0,.bool ((rd_T33 l0 x18_1).f1),.bool ((rd_T33 l0 x18_1).f2)] 33 (0,0)) (by (with_reducible repeat (first|refine bq_ ?_ _|refine bw_ ?_|refine bz_ ?_ _));exact BK102.out)):gb104≠gb102));clear BK102;clear HB;have BK102:=n0_;have HB:=n1_;have BK104:=n2_;have GW104:=n3_;have GE104:=n4_;have NB102_104:=n5_;have NB104_102:=n6_;clear n0_ n1_ n2_ n3_ n4_ n5_ n6_;clear hb hbox hg;have hnb20:=NB104_102.out;have hnc20:=NB102_104.out;have hcz21_0:w19.cell? ⟨gb104,0,none⟩=some (.bool false):=(bc_ BK104.out 0).trans rfl;have hcz21_1:w19.cell? ⟨gb104,1,none⟩=some (.slice none 0 0):=(bc_ BK104.out 1).trans rfl;have hcz21_2:w19.cell? ⟨gb104,2,none⟩=some (.int .i64 0):=(bc_ BK104.out 2).trans rfl;have hcz21_3:w19.cell? ⟨gb104,3,none⟩=some (.bool false):=(bc_ BK104.out 3).trans rfl;have hfz21_0:=bf_ BK104.out 0;have hfz21_1:=bf_ BK104.out 1;have hfz21_2:=bf_ BK104.out 2;have hfz21_3:=bf_ BK104.out 3))
                have n0_:Az (((((w19.setCell ⟨gb104,0,none⟩ (.bool ((rd_T40 ((rd_T33 l0 x18_1).f0) x29_2).f0.f0))).setCell ⟨gb104,1,none⟩ (.slice A103_1 ((rd_T40 ((rd_T33 l0 x18_1).f0) x29_2).f0.f1).length c103_1)).setCell ⟨gb104,2,none⟩ (.int .i64 ((rd_T40 ((rd_T33 l0 x18_1).f0) x29_2).f1))).setCell ⟨gb104,3,none⟩ (.bool ((rd_T40 ((rd_T33 l0 x18_1).f0) x29_2).f2))).heap[gb102]? = some (.cells #[.slice (some ad103) ((rd_T33 l0 x18_1).f0).length c101_0,.bool ((rd_T33 l0 x18_1).f1),.bool ((rd_T33 l0 x18_1).f2)] 33 (0,0))):=⟨by (with_reducible repeat (first|refine bq_ ?_ _|refine bw_ ?_|refine bz_ ?_ _));refine blk_far ?_ NB102_104.out _;(with_reducible repeat (first|refine bq_ ?_ _|refine bw_ ?_|refine bz_ ?_ _));refine blk_far ?_ NB102_104.out _;(with_reducible repeat (first|refine bq_ ?_ _|refine bw_ ?_|refine bz_ ?_ _));refine blk_far ?_ NB102_104.out _;(with_reducible repeat (first|refine bq_ ?_ _|refine bw_ ?_|refine bz_ ?_ _));refine blk_far ?_ NB102_104.out _;(with_reducible repeat (first|refine bq_ ?_ _|refine bw_ ?_|refine bz_ ?_ _));exact BK102.out⟩
                have n1_:Az (((((w19.setCell ⟨gb104,0,none⟩ (.bool ((rd_T40 ((rd_T33 l0 x18_1).f0) x29_2).f0.f0))).setCell ⟨gb104,1,none⟩ (.slice A103_1 ((rd_T40 ((rd_T33 l0 x18_1).f0) x29_2).f0.f1).length c103_1)).setCell ⟨gb104,2,none⟩ (.int .i64 ((rd_T40 ((rd_T33 l0 x18_1).f0) x29_2).f1))).setCell ⟨gb104,3,none⟩ (.bool ((rd_T40 ((rd_T33 l0 x18_1).f0) x29_2).f2))).heap[gb104]? = some (.cells #[.bool ((rd_T40 ((rd_T33 l0 x18_1).f0) x29_2).f0.f0),.slice A103_1 ((rd_T40 ((rd_T33 l0 x18_1).f0) x29_2).f0.f1).length c103_1,.int .i64 ((rd_T40 ((rd_T33 l0 x18_1).f0) x29_2).f1),.bool ((rd_T40 ((rd_T33 l0 x18_1).f0) x29_2).f2)] 40 (0,0))):=⟨by (with_reducible repeat (first|refine bq_ ?_ _|refine bw_ ?_|refine bz_ ?_ _));refine blk_put (cs:=#[.bool ((rd_T40 ((rd_T33 l0 x18_1).f0) x29_2).f0.f0),.slice A103_1 ((rd_T40 ((rd_T33 l0 x18_1).f0) x29_2).f0.f1).length c103_1,.int .i64 ((rd_T40 ((rd_T33 l0 x18_1).f0) x29_2).f1),.bool false]) ?_ 3 _ rfl;(with_reducible repeat (first|refine bq_ ?_ _|refine bw_ ?_|refine bz_ ?_ _));refine blk_put (cs:=#[.bool ((rd_T40 ((rd_T33 l0 x18_1).f0) x29_2).f0.f0),.slice A103_1 ((rd_T40 ((rd_T33 l0 x18_1).f0) x29_2).f0.f1).length c103_1,.int .i64 0,.bool false]) ?_ 2 _ rfl;(with_reducible repeat (first|refine bq_ ?_ _|refine bw_ ?_|refine bz_ ?_ _));refine blk_put (cs:=#[.bool ((rd_T40 ((rd_T33 l0 x18_1).f0) x29_2).f0.f0),.slice none 0 0,.int .i64 0,.bool false]) ?_ 1 _ rfl;(with_reducible repeat (first|refine bq_ ?_ _|refine bw_ ?_|refine bz_ ?_ _));refine blk_put (cs:=#[.bool false,.slice none 0 0,.int .i64 0,.bool false]) ?_ 0 _ rfl;(with_reducible repeat (first|refine bq_ ?_ _|refine bw_ ?_|refine bz_ ?_ _));exact BK104.out⟩
                have n2_:Az (Below w.heap.size w ((((w19.setCell ⟨gb104,0,none⟩ (.bool ((rd_T40 ((rd_T33 l0 x18_1).f0) x29_2).f0.f0))).setCell ⟨gb104,1,none⟩ (.slice A103_1 ((rd_T40 ((rd_T33 l0 x18_1).f0) x29_2).f0.f1).length c103_1)).setCell ⟨gb104,2,none⟩ (.int .i64 ((rd_T40 ((rd_T33 l0 x18_1).f0) x29_2).f1))).setCell ⟨gb104,3,none⟩ (.bool ((rd_T40 ((rd_T33 l0 x18_1).f0) x29_2).f2)))):=⟨by repeat (first|(with_reducible first|exact HB.out|apply bA_|apply bN_|apply bD_|refine bs_ ?_ GE102.out|refine bs_ ?_ GE104.out)|exact HB.out)⟩
                (try clear BK102)
                (try clear BK104)
                (try clear HB)
                generalize ((((w19.setCell ⟨gb104,0,none⟩ (.bool ((rd_T40 ((rd_T33 l0 x18_1).f0) x29_2).f0.f0))).setCell ⟨gb104,1,none⟩ (.slice A103_1 ((rd_T40 ((rd_T33 l0 x18_1).f0) x29_2).f0.f1).length c103_1)).setCell ⟨gb104,2,none⟩ (.int .i64 ((rd_T40 ((rd_T33 l0 x18_1).f0) x29_2).f1))).setCell ⟨gb104,3,none⟩ (.bool ((rd_T40 ((rd_T33 l0 x18_1).f0) x29_2).f2)))=w22 at n0_ n1_ n2_ ⊢
                have BK102:=n0_
                have BK104:=n1_
                have HB:=n2_
                clear n0_ n1_ n2_
                have n0_:=Az.mk (bw_ BK102.out)
                have n1_:=Az.mk (bw_ BK104.out)
                have n2_:=Az.mk (bD_ HB.out)
                clear BK102
                clear BK104
                clear HB
                have BK102:=n0_
                have BK104:=n1_
                have HB:=n2_
                clear n0_ n1_ n2_
                have q24:(x29_2:Int)≤((((rd_T33 l0 x18_1).f0).length:Int):Int):=of_decide_eq_true (by first|(with_reducible assumption)|assumption)
                obtain ⟨i024,hi024,_,hsz24,_⟩:=info_parts info40
                have hroom24:((rd_T33 l0 x18_1).f0).length≤c101_0:=HC101_0.out
                have hC24:Kd.C k40 _ (some ad103) ((rd_T33 l0 x18_1).f0).length ((rd_T33 l0 x18_1).f0):=HR101_0.out
                have hcut24:=cut_to (P:=Try.prog) 31 40 .i64 Try.underlying31 hi024 (some ad103) ((rd_T33 l0 x18_1).f0).length c101_0 x29_2 (of_decide_eq_true (by first|(with_reducible assumption)|assumption)) q24 hroom24
                have hr24:=Kd.C_take (m:=(x29_2:Int).toNat) hC24 (by omega)
                have hy24:y105.length=(x29_2:Int).toNat:=(by rw [Ny105.out,List.length_take];omega)
                rw [← Ny105.out] at hr24
                rw [← hy24] at hcut24
                have HR108:=Az.mk hr24
                have HC108:=Az.mk (show y105.length≤c101_0 from by omega)
                clear hr24 hC24 hroom24 hi024 hsz24
                have KY24:=Az.mk hy24
                clear hy24
                replace q24:=eq_true q24
                refine start_ (n:=8) (S:=fun w'=>w'.cell? ⟨gb102,0,none⟩=some (.slice (some ad103) ((rd_T33 l0 x18_1).f0).length c101_0)∧w'.cell? ⟨gb102,1,none⟩=some (.bool ((rd_T33 l0 x18_1).f1))∧w'.cell? ⟨gb102,2,none⟩=some (.bool ((rd_T33 l0 x18_1).f2))∧w'.cell? ⟨gb104,0,none⟩=some (.bool ((rd_T40 ((rd_T33 l0 x18_1).f0) x29_2).f0.f0))∧w'.cell? ⟨gb104,1,none⟩=some (.slice A103_1 ((rd_T40 ((rd_T33 l0 x18_1).f0) x29_2).f0.f1).length c103_1)∧w'.cell? ⟨gb104,2,none⟩=some (.int .i64 ((rd_T40 ((rd_T33 l0 x18_1).f0) x29_2).f1))∧w'.cell? ⟨gb104,3,none⟩=some (.bool ((rd_T40 ((rd_T33 l0 x18_1).f0) x29_2).f2))) (ds:=[]) #[false,false,false,false,false,false,false,false] (by kernel_rfl) rfl rfl ⟨(bc_ BK102.out 0).trans rfl,(bc_ BK102.out 1).trans rfl,(bc_ BK102.out 2).trans rfl,(bc_ BK104.out 0).trans rfl,(bc_ BK104.out 1).trans rfl,(bc_ BK104.out 2).trans rfl,(bc_ BK104.out 3).trans rfl⟩ (fun hHeld=>?_);refine with_tabW schema_Check.tab13 schema_Check.bits13 (fun HT_ HW_=>?_)
                generalize w22.drew=w23 at BK102 BK104 HB HR108 hHeld ⊢
                refine pure_ (i:=0) (N:=some 34) (v:=?_) (a':=?_) #[true,false,false,false,false,false,false,false] rfl rfl (any_of HT_.out (by kernel_rfl)) (fun _ _ _ h=>h) (Or.inl ⟨by rfl,?_⟩) ?_ ?_
                rotate_left
                ·intro w'
                 go_simp
                 with_reducible rfl
                rotate_left
                ·simp only [Act.put,sA_,sB_,sC_,i64_w,i32_w]
                 rfl
                refine pure_ (i:=1) (N:=some 35) (v:=?_) (a':=?_) #[true,true,false,false,false,false,false,false] rfl rfl (any_of HT_.out (by kernel_rfl)) (fun _ _ _ h=>h) (Or.inl ⟨by rfl,?_⟩) ?_ ?_
                rotate_left
                ·intro w'
                 go_simp
                 with_reducible rfl
                rotate_left
                ·simp only [Act.put,sA_,sB_,sC_,i64_w,i32_w]
                 rfl
                refine pure_ (i:=3) (N:=some 37) (v:=?_) (a':=?_) #[true,true,false,true,false,false,false,false] rfl rfl (any_of HT_.out (by kernel_rfl)) (fun _ _ _ h=>h) (Or.inl ⟨by rfl,?_⟩) ?_ ?_
                rotate_left
                ·intro w'
                 go_simp
                 with_reducible rfl
                rotate_left
                ·simp only [Act.put,sA_,sB_,sC_,i64_w,i32_w]
                 rfl
                refine take_ (i:=2) (N:=some 36) (v:=?_) (a':=?_) #[true,true,true,true,false,false,false,false] rfl rfl (take_ofW HT_.out HW_.out (by kernel_rfl)) (fun _ _ _ h=>h) (Or.inl ⟨by rfl,?_⟩) hHeld ?_ ?_
                rotate_left
                ·rintro w' ⟨s0,s1,s2,s3,s4,s5,s6⟩
                 go_simp
                 with_reducible rfl
                rotate_left
                ·simp only [Act.put,sA_,sB_,sC_,i64_w,i32_w]
                 rfl
                refine pure_ (i:=4) (N:=some 38) (v:=?_) (a':=?_) #[true,true,true,true,true,false,false,false] rfl rfl (any_of HT_.out (by kernel_rfl)) (fun _ _ _ h=>h) (Or.inl ⟨by rfl,?_⟩) ?_ ?_
                rotate_left
                ·intro w'
                 go_simp
                 with_reducible rfl
                rotate_left
                ·simp only [Act.put,sA_,sB_,sC_,i64_w,i32_w]
                 rfl
                refine take_ (i:=5) (N:=some 39) (v:=?_) (a':=?_) #[true,true,true,true,true,true,false,false] rfl rfl (take_ofW HT_.out HW_.out (by kernel_rfl)) (fun _ _ _ h=>h) (Or.inl ⟨by rfl,?_⟩) hHeld ?_ ?_
                rotate_left
                ·rintro w' ⟨s0,s1,s2,s3,s4,s5,s6⟩
                 go_simp
                 with_reducible rfl
                rotate_left
                ·simp only [Act.put,sA_,sB_,sC_,i64_w,i32_w]
                 rfl
                refine one_ (i:=6) (N:=some 40) #[true,true,true,true,true,true,true,false] rfl rfl (one_of HT_.out (by kernel_rfl)) (by decide) (fun K hK=>?_)
                refine goes_ Try.func27 (by kernel_rfl) rfl #[.slice (some ad101) l0.length c0,.slice (some ad103) y105.length c101_0,.agg #[.bool ((rd_T40 ((rd_T33 l0 x18_1).f0) x29_2).f0.f0),.slice A103_1 ((rd_T40 ((rd_T33 l0 x18_1).f0) x29_2).f0.f1).length c103_1,.int .i64 ((rd_T40 ((rd_T33 l0 x18_1).f0) x29_2).f1),.bool ((rd_T40 ((rd_T33 l0 x18_1).f0) x29_2).f2)]] (by rfl) rfl rfl (by (try simp only [List.map_toArray,List.map_cons,List.map_nil]);first|done|rfl|(simp only [List.length_drop,List.length_take];rfl)) ?_
                with_reducible refine (schema_field.calls _ _ l0 _ _ y105 ((rd_T40 ((rd_T33 l0 x18_1).f0) x29_2).f0.f0) _ _ ((rd_T40 ((rd_T33 l0 x18_1).f0) x29_2).f0.f1) ((rd_T40 ((rd_T33 l0 x18_1).f0) x29_2).f1) ((rd_T40 ((rd_T33 l0 x18_1).f0) x29_2).f2) t109 _ ?side1 ?side2 ?side3 ?side4 ?side5 ?side6 A17.out).mono ?_
                (case side1=>repeat (first|exact (Kd.C_below HR0.out HB.out)|(with_reducible refine cA_ ?_ _)|(with_reducible refine cN_ ?_ _)|(with_reducible refine cD_ ?_)))
                (case side2=>exact HC0.out)
                (case side3=>repeat (first|exact (Kd.C_below HR108.out HB.out)|(with_reducible refine cA_ ?_ _)|(with_reducible refine cN_ ?_ _)|(with_reducible refine cD_ ?_)))
                (case side4=>exact HC108.out)
                (case side5=>repeat (first|exact (Kd.C_below HR103_1.out HB.out)|(with_reducible refine cA_ ?_ _)|(with_reducible refine cN_ ?_ _)|(with_reducible refine cD_ ?_)))
                (case side6=>exact HC103_1.out)
                rintro e w25 ⟨rfl,hb⟩
                refine ⟨_,rfl,?_⟩
                have n0_:=Az.mk (bb_ (g:=gb102) (o:=.cells #[.slice (some ad103) ((rd_T33 l0 x18_1).f0).length c101_0,.bool ((rd_T33 l0 x18_1).f1),.bool ((rd_T33 l0 x18_1).f2)] 33 (0,0)) (by (with_reducible repeat (first|refine bq_ ?_ _|refine bw_ ?_|refine bz_ ?_ _));exact BK102.out) hb)
                have n1_:=Az.mk (bb_ (g:=gb104) (o:=.cells #[.bool ((rd_T40 ((rd_T33 l0 x18_1).f0) x29_2).f0.f0),.slice A103_1 ((rd_T40 ((rd_T33 l0 x18_1).f0) x29_2).f0.f1).length c103_1,.int .i64 ((rd_T40 ((rd_T33 l0 x18_1).f0) x29_2).f1),.bool ((rd_T40 ((rd_T33 l0 x18_1).f0) x29_2).f2)] 40 (0,0)) (by (with_reducible repeat (first|refine bq_ ?_ _|refine bw_ ?_|refine bz_ ?_ _));exact BK104.out) hb)
                have n2_:=Az.mk (below_step (by repeat (first|(with_reducible first|exact HB.out|apply bA_|apply bN_|apply bD_|refine bs_ ?_ GE102.out|refine bs_ ?_ GE104.out)|exact HB.out)) hb)
                clear BK102
                clear BK104
                clear HB
                have BK102:=n0_
                have BK104:=n1_
                have HB:=n2_
                clear n0_ n1_ n2_
                (try clear hb)
                (try clear hb2)
                (try clear hk)
                (try clear hi)
                refine hK.out _ _ ⟨(bc_ BK102.out 0).trans rfl,(bc_ BK102.out 1).trans rfl,(bc_ BK102.out 2).trans rfl,(bc_ BK104.out 0).trans rfl,(bc_ BK104.out 1).trans rfl,(bc_ BK104.out 2).trans rfl,(bc_ BK104.out 3).trans rfl⟩ (fun hHeld=>?_)
                clear hK K
                refine norm_ (a':=?_) ?_ ?_
                rotate_left
                ·show Act.put _ (some 40) _=_
                 simp only [Act.put,sA_,sB_,sC_,i64_w,i32_w]
                 rfl
                refine pure_ (i:=7) (N:=some 7) (v:=?_) (a':=?_) #[true,true,true,true,true,true,true,true] rfl rfl (any_of HT_.out (by kernel_rfl)) (fun _ _ _ h=>h) (Or.inl ⟨by rfl,?_⟩) ?_ ?_
                rotate_left
                ·intro w'
                 go_simp
                 with_reducible rfl
                rotate_left
                ·simp only [Act.put,sA_,sB_,sC_,i64_w,i32_w]
                 rfl
                refine done_ (done_of HT_.out (by kernel_rfl)) ?_
                try go_wp2
                go_roundg k2
                case measure=>have:=HK1.out;have:=HK2.out;omega
                case rel=>exact ⟨(wrap64 (x29_2+1)),(by first|rfl|(simp;done)|(simp [*];done)),H',⟨by have:=HK1.out;have:=HK2.out;omega⟩,⟨by (with_reducible repeat (first|refine bq_ ?_ _|refine bw_ ?_|refine bz_ ?_ _));exact BK102.out⟩,⟨by repeat (first|(with_reducible first|exact HB.out|apply bA_|apply bN_|apply bD_|refine bs_ ?_ GE102.out|refine bs_ ?_ GE104.out)|exact HB.out)⟩⟩
               ·rw [if_neg c18] at H
                have c18b0:(t109 == 0)=false:=beq_eq_false_iff_ne.mpr c18
                have c18b1:(t109 != 0)=true:=bne_iff_ne.mpr c18
                obtain rfl:=Option.some.inj H
                have p103:0≤(x29_2:Int):=of_decide_eq_true (by first|(with_reducible assumption)|assumption)
                have q103:x29_2 < (((rd_T33 l0 x18_1).f0).length:Int):=of_decide_eq_true (by first|(with_reducible assumption)|assumption)
                obtain ⟨ad103,A103_1,c103_1,e103,hx103_0,hx103_1,hx103_2,hx103_3,hl103_1,hi103_1⟩:=at_T40 HR101_0.out x29_2 p103 q103
                cases e103
                replace hx103_0:=(HB.out.cell (World.block_lt_of_cell? w _ hx103_0)).trans hx103_0
                replace hx103_1:=(HB.out.cell (World.block_lt_of_cell? w _ hx103_1)).trans hx103_1
                replace hx103_2:=(HB.out.cell (World.block_lt_of_cell? w _ hx103_2)).trans hx103_2
                replace hx103_3:=(HB.out.cell (World.block_lt_of_cell? w _ hx103_3)).trans hx103_3
                have HR103_1:=Az.mk hi103_1
                have HC103_1:=Az.mk hl103_1
                clear hi103_1 hl103_1
                replace p103:=eq_true p103
                replace q103:=eq_true q103
                try go_wp2_with (first|((with_reducible refine gate_dst (N:=6) rfl ?_);refine box_event ?hg (N:=6) ?hd (cs:=#[.bool false,.slice none 0 0,.int .i64 0,.bool false]) (t:=40) ?hr ?_;(case hd=>rfl);(case hg=>rfl);(case hr=>first|(go_simp;done)|(go_simp;rfl));intro gb104 hg w26 hbox hb;have n0_:=Az.mk (bb_ (g:=gb102) (o:=.cells #[.slice (some ad103) ((rd_T33 l0 x18_1).f0).length c101_0,.bool ((rd_T33 l0 x18_1).f1),.bool ((rd_T33 l0 x18_1).f2)] 33 (0,0)) (by (with_reducible repeat (first|refine bq_ ?_ _|refine bw_ ?_|refine bz_ ?_ _));exact BK102.out) hb);have n1_:=Az.mk (below_step (by repeat (first|(with_reducible first|exact HB.out|apply bA_|apply bN_|apply bD_|refine bs_ ?_ GE102.out)|exact HB.out)) hb);have n2_:=Az.mk (hbox);have n3_:=Az.mk ((by rw [hg];exact (be_ (by repeat (first|(with_reducible first|exact HB.out|apply bA_|apply bN_|apply bD_|refine bs_ ?_ GE102.out)|exact HB.out))):w.heap.size≤gb104));have n4_:=Az.mk ((by rw [hg];exact (be_ (by repeat (first|(with_reducible first|exact HB.out|apply bA_|apply bN_|apply bD_|refine bs_ ?_ GE102.out)|exact HB.out))):w.heap.size≤gb104));have n5_:=Az.mk ((by rw [hg];exact Nat.ne_of_lt (blk_lt (g:=gb102) (o:=.cells #[.slice (some ad103) ((rd_T33 l0 x18_1).f0).length c101_0,.bool ((rd_T33 l0 x18_1).f1),.bool ((rd_T33 l0 x18_1).f2)] 33 (0,0)) (by (with_reducible repeat (first|refine bq_ ?_ _|refine bw_ ?_|refine bz_ ?_ _));exact BK102.out)):gb102≠gb104));have n6_:=Az.mk ((by rw [hg];exact Nat.ne_of_gt (blk_lt (g:=gb102) (o:=.cells #[.slice (some ad103) ((rd_T33 l0 x18_1).f0).length c101_0,.bool ((rd_T33 l0 x18_1).f1),.bool ((rd_T33 l0 x18_1).f2)] 33 (0,0)) (by (with_reducible repeat (first|refine bq_ ?_ _|refine bw_ ?_|refine bz_ ?_ _));exact BK102.out)):gb104≠gb102));clear BK102;clear HB;have BK102:=n0_;have HB:=n1_;have BK104:=n2_;have GW104:=n3_;have GE104:=n4_;have NB102_104:=n5_;have NB104_102:=n6_;clear n0_ n1_ n2_ n3_ n4_ n5_ n6_;clear hb hbox hg;have hnb27:=NB104_102.out;have hnc27:=NB102_104.out;have hcz28_0:w26.cell? ⟨gb104,0,none⟩=some (.bool false):=(bc_ BK104.out 0).trans rfl;have hcz28_1:w26.cell? ⟨gb104,1,none⟩=some (.slice none 0 0):=(bc_ BK104.out 1).trans rfl;have hcz28_2:w26.cell? ⟨gb104,2,none⟩=some (.int .i64 0):=(bc_ BK104.out 2).trans rfl;have hcz28_3:w26.cell? ⟨gb104,3,none⟩=some (.bool false):=(bc_ BK104.out 3).trans rfl;have hfz28_0:=bf_ BK104.out 0;have hfz28_1:=bf_ BK104.out 1;have hfz28_2:=bf_ BK104.out 2;have hfz28_3:=bf_ BK104.out 3))
                have n0_:Az (((((w26.setCell ⟨gb104,0,none⟩ (.bool ((rd_T40 ((rd_T33 l0 x18_1).f0) x29_2).f0.f0))).setCell ⟨gb104,1,none⟩ (.slice A103_1 ((rd_T40 ((rd_T33 l0 x18_1).f0) x29_2).f0.f1).length c103_1)).setCell ⟨gb104,2,none⟩ (.int .i64 ((rd_T40 ((rd_T33 l0 x18_1).f0) x29_2).f1))).setCell ⟨gb104,3,none⟩ (.bool ((rd_T40 ((rd_T33 l0 x18_1).f0) x29_2).f2))).heap[gb102]? = some (.cells #[.slice (some ad103) ((rd_T33 l0 x18_1).f0).length c101_0,.bool ((rd_T33 l0 x18_1).f1),.bool ((rd_T33 l0 x18_1).f2)] 33 (0,0))):=⟨by (with_reducible repeat (first|refine bq_ ?_ _|refine bw_ ?_|refine bz_ ?_ _));refine blk_far ?_ NB102_104.out _;(with_reducible repeat (first|refine bq_ ?_ _|refine bw_ ?_|refine bz_ ?_ _));refine blk_far ?_ NB102_104.out _;(with_reducible repeat (first|refine bq_ ?_ _|refine bw_ ?_|refine bz_ ?_ _));refine blk_far ?_ NB102_104.out _;(with_reducible repeat (first|refine bq_ ?_ _|refine bw_ ?_|refine bz_ ?_ _));refine blk_far ?_ NB102_104.out _;(with_reducible repeat (first|refine bq_ ?_ _|refine bw_ ?_|refine bz_ ?_ _));exact BK102.out⟩
                have n1_:Az (((((w26.setCell ⟨gb104,0,none⟩ (.bool ((rd_T40 ((rd_T33 l0 x18_1).f0) x29_2).f0.f0))).setCell ⟨gb104,1,none⟩ (.slice A103_1 ((rd_T40 ((rd_T33 l0 x18_1).f0) x29_2).f0.f1).length c103_1)).setCell ⟨gb104,2,none⟩ (.int .i64 ((rd_T40 ((rd_T33 l0 x18_1).f0) x29_2).f1))).setCell ⟨gb104,3,none⟩ (.bool ((rd_T40 ((rd_T33 l0 x18_1).f0) x29_2).f2))).heap[gb104]? = some (.cells #[.bool ((rd_T40 ((rd_T33 l0 x18_1).f0) x29_2).f0.f0),.slice A103_1 ((rd_T40 ((rd_T33 l0 x18_1).f0) x29_2).f0.f1).length c103_1,.int .i64 ((rd_T40 ((rd_T33 l0 x18_1).f0) x29_2).f1),.bool ((rd_T40 ((rd_T33 l0 x18_1).f0) x29_2).f2)] 40 (0,0))):=⟨by (with_reducible repeat (first|refine bq_ ?_ _|refine bw_ ?_|refine bz_ ?_ _));refine blk_put (cs:=#[.bool ((rd_T40 ((rd_T33 l0 x18_1).f0) x29_2).f0.f0),.slice A103_1 ((rd_T40 ((rd_T33 l0 x18_1).f0) x29_2).f0.f1).length c103_1,.int .i64 ((rd_T40 ((rd_T33 l0 x18_1).f0) x29_2).f1),.bool false]) ?_ 3 _ rfl;(with_reducible repeat (first|refine bq_ ?_ _|refine bw_ ?_|refine bz_ ?_ _));refine blk_put (cs:=#[.bool ((rd_T40 ((rd_T33 l0 x18_1).f0) x29_2).f0.f0),.slice A103_1 ((rd_T40 ((rd_T33 l0 x18_1).f0) x29_2).f0.f1).length c103_1,.int .i64 0,.bool false]) ?_ 2 _ rfl;(with_reducible repeat (first|refine bq_ ?_ _|refine bw_ ?_|refine bz_ ?_ _));refine blk_put (cs:=#[.bool ((rd_T40 ((rd_T33 l0 x18_1).f0) x29_2).f0.f0),.slice none 0 0,.int .i64 0,.bool false]) ?_ 1 _ rfl;(with_reducible repeat (first|refine bq_ ?_ _|refine bw_ ?_|refine bz_ ?_ _));refine blk_put (cs:=#[.bool false,.slice none 0 0,.int .i64 0,.bool false]) ?_ 0 _ rfl;(with_reducible repeat (first|refine bq_ ?_ _|refine bw_ ?_|refine bz_ ?_ _));exact BK104.out⟩
                have n2_:Az (Below w.heap.size w ((((w26.setCell ⟨gb104,0,none⟩ (.bool ((rd_T40 ((rd_T33 l0 x18_1).f0) x29_2).f0.f0))).setCell ⟨gb104,1,none⟩ (.slice A103_1 ((rd_T40 ((rd_T33 l0 x18_1).f0) x29_2).f0.f1).length c103_1)).setCell ⟨gb104,2,none⟩ (.int .i64 ((rd_T40 ((rd_T33 l0 x18_1).f0) x29_2).f1))).setCell ⟨gb104,3,none⟩ (.bool ((rd_T40 ((rd_T33 l0 x18_1).f0) x29_2).f2)))):=⟨by repeat (first|(with_reducible first|exact HB.out|apply bA_|apply bN_|apply bD_|refine bs_ ?_ GE102.out|refine bs_ ?_ GE104.out)|exact HB.out)⟩
                (try clear BK102)
                (try clear BK104)
                (try clear HB)
                generalize ((((w26.setCell ⟨gb104,0,none⟩ (.bool ((rd_T40 ((rd_T33 l0 x18_1).f0) x29_2).f0.f0))).setCell ⟨gb104,1,none⟩ (.slice A103_1 ((rd_T40 ((rd_T33 l0 x18_1).f0) x29_2).f0.f1).length c103_1)).setCell ⟨gb104,2,none⟩ (.int .i64 ((rd_T40 ((rd_T33 l0 x18_1).f0) x29_2).f1))).setCell ⟨gb104,3,none⟩ (.bool ((rd_T40 ((rd_T33 l0 x18_1).f0) x29_2).f2)))=w29 at n0_ n1_ n2_ ⊢
                have BK102:=n0_
                have BK104:=n1_
                have HB:=n2_
                clear n0_ n1_ n2_
                have n0_:=Az.mk (bw_ BK102.out)
                have n1_:=Az.mk (bw_ BK104.out)
                have n2_:=Az.mk (bD_ HB.out)
                clear BK102
                clear BK104
                clear HB
                have BK102:=n0_
                have BK104:=n1_
                have HB:=n2_
                clear n0_ n1_ n2_
                have q31:(x29_2:Int)≤((((rd_T33 l0 x18_1).f0).length:Int):Int):=of_decide_eq_true (by first|(with_reducible assumption)|assumption)
                obtain ⟨i031,hi031,_,hsz31,_⟩:=info_parts info40
                have hroom31:((rd_T33 l0 x18_1).f0).length≤c101_0:=HC101_0.out
                have hC31:Kd.C k40 _ (some ad103) ((rd_T33 l0 x18_1).f0).length ((rd_T33 l0 x18_1).f0):=HR101_0.out
                have hcut31:=cut_to (P:=Try.prog) 31 40 .i64 Try.underlying31 hi031 (some ad103) ((rd_T33 l0 x18_1).f0).length c101_0 x29_2 (of_decide_eq_true (by first|(with_reducible assumption)|assumption)) q31 hroom31
                have hr31:=Kd.C_take (m:=(x29_2:Int).toNat) hC31 (by omega)
                have hy31:y105.length=(x29_2:Int).toNat:=(by rw [Ny105.out,List.length_take];omega)
                rw [← Ny105.out] at hr31
                rw [← hy31] at hcut31
                have HR108:=Az.mk hr31
                have HC108:=Az.mk (show y105.length≤c101_0 from by omega)
                clear hr31 hC31 hroom31 hi031 hsz31
                have KY31:=Az.mk hy31
                clear hy31
                replace q31:=eq_true q31
                refine start_ (n:=8) (S:=fun w'=>w'.cell? ⟨gb102,0,none⟩=some (.slice (some ad103) ((rd_T33 l0 x18_1).f0).length c101_0)∧w'.cell? ⟨gb102,1,none⟩=some (.bool ((rd_T33 l0 x18_1).f1))∧w'.cell? ⟨gb102,2,none⟩=some (.bool ((rd_T33 l0 x18_1).f2))∧w'.cell? ⟨gb104,0,none⟩=some (.bool ((rd_T40 ((rd_T33 l0 x18_1).f0) x29_2).f0.f0))∧w'.cell? ⟨gb104,1,none⟩=some (.slice A103_1 ((rd_T40 ((rd_T33 l0 x18_1).f0) x29_2).f0.f1).length c103_1)∧w'.cell? ⟨gb104,2,none⟩=some (.int .i64 ((rd_T40 ((rd_T33 l0 x18_1).f0) x29_2).f1))∧w'.cell? ⟨gb104,3,none⟩=some (.bool ((rd_T40 ((rd_T33 l0 x18_1).f0) x29_2).f2))) (ds:=[]) #[false,false,false,false,false,false,false,false] (by kernel_rfl) rfl rfl ⟨(bc_ BK102.out 0).trans rfl,(bc_ BK102.out 1).trans rfl,(bc_ BK102.out 2).trans rfl,(bc_ BK104.out 0).trans rfl,(bc_ BK104.out 1).trans rfl,(bc_ BK104.out 2).trans rfl,(bc_ BK104.out 3).trans rfl⟩ (fun hHeld=>?_);refine with_tabW schema_Check.tab13 schema_Check.bits13 (fun HT_ HW_=>?_)
                generalize w29.drew=w30 at BK102 BK104 HB HR108 hHeld ⊢
                refine pure_ (i:=0) (N:=some 34) (v:=?_) (a':=?_) #[true,false,false,false,false,false,false,false] rfl rfl (any_of HT_.out (by kernel_rfl)) (fun _ _ _ h=>h) (Or.inl ⟨by rfl,?_⟩) ?_ ?_
                rotate_left
                ·intro w'
                 go_simp
                 with_reducible rfl
                rotate_left
                ·simp only [Act.put,sA_,sB_,sC_,i64_w,i32_w]
                 rfl
                refine pure_ (i:=1) (N:=some 35) (v:=?_) (a':=?_) #[true,true,false,false,false,false,false,false] rfl rfl (any_of HT_.out (by kernel_rfl)) (fun _ _ _ h=>h) (Or.inl ⟨by rfl,?_⟩) ?_ ?_
                rotate_left
                ·intro w'
                 go_simp
                 with_reducible rfl
                rotate_left
                ·simp only [Act.put,sA_,sB_,sC_,i64_w,i32_w]
                 rfl
                refine pure_ (i:=3) (N:=some 37) (v:=?_) (a':=?_) #[true,true,false,true,false,false,false,false] rfl rfl (any_of HT_.out (by kernel_rfl)) (fun _ _ _ h=>h) (Or.inl ⟨by rfl,?_⟩) ?_ ?_
                rotate_left
                ·intro w'
                 go_simp
                 with_reducible rfl
                rotate_left
                ·simp only [Act.put,sA_,sB_,sC_,i64_w,i32_w]
                 rfl
                refine take_ (i:=2) (N:=some 36) (v:=?_) (a':=?_) #[true,true,true,true,false,false,false,false] rfl rfl (take_ofW HT_.out HW_.out (by kernel_rfl)) (fun _ _ _ h=>h) (Or.inl ⟨by rfl,?_⟩) hHeld ?_ ?_
                rotate_left
                ·rintro w' ⟨s0,s1,s2,s3,s4,s5,s6⟩
                 go_simp
                 with_reducible rfl
                rotate_left
                ·simp only [Act.put,sA_,sB_,sC_,i64_w,i32_w]
                 rfl
                refine pure_ (i:=4) (N:=some 38) (v:=?_) (a':=?_) #[true,true,true,true,true,false,false,false] rfl rfl (any_of HT_.out (by kernel_rfl)) (fun _ _ _ h=>h) (Or.inl ⟨by rfl,?_⟩) ?_ ?_
                rotate_left
                ·intro w'
                 go_simp
                 with_reducible rfl
                rotate_left
                ·simp only [Act.put,sA_,sB_,sC_,i64_w,i32_w]
                 rfl
                refine take_ (i:=5) (N:=some 39) (v:=?_) (a':=?_) #[true,true,true,true,true,true,false,false] rfl rfl (take_ofW HT_.out HW_.out (by kernel_rfl)) (fun _ _ _ h=>h) (Or.inl ⟨by rfl,?_⟩) hHeld ?_ ?_
                rotate_left
                ·rintro w' ⟨s0,s1,s2,s3,s4,s5,s6⟩
                 go_simp
                 with_reducible rfl
                rotate_left
                ·simp only [Act.put,sA_,sB_,sC_,i64_w,i32_w]
                 rfl
                refine one_ (i:=6) (N:=some 40) #[true,true,true,true,true,true,true,false] rfl rfl (one_of HT_.out (by kernel_rfl)) (by decide) (fun K hK=>?_)
                refine goes_ Try.func27 (by kernel_rfl) rfl #[.slice (some ad101) l0.length c0,.slice (some ad103) y105.length c101_0,.agg #[.bool ((rd_T40 ((rd_T33 l0 x18_1).f0) x29_2).f0.f0),.slice A103_1 ((rd_T40 ((rd_T33 l0 x18_1).f0) x29_2).f0.f1).length c103_1,.int .i64 ((rd_T40 ((rd_T33 l0 x18_1).f0) x29_2).f1),.bool ((rd_T40 ((rd_T33 l0 x18_1).f0) x29_2).f2)]] (by rfl) rfl rfl (by (try simp only [List.map_toArray,List.map_cons,List.map_nil]);first|done|rfl|(simp only [List.length_drop,List.length_take];rfl)) ?_
                with_reducible refine (schema_field.calls _ _ l0 _ _ y105 ((rd_T40 ((rd_T33 l0 x18_1).f0) x29_2).f0.f0) _ _ ((rd_T40 ((rd_T33 l0 x18_1).f0) x29_2).f0.f1) ((rd_T40 ((rd_T33 l0 x18_1).f0) x29_2).f1) ((rd_T40 ((rd_T33 l0 x18_1).f0) x29_2).f2) t109 _ ?side1 ?side2 ?side3 ?side4 ?side5 ?side6 A17.out).mono ?_
                (case side1=>repeat (first|exact (Kd.C_below HR0.out HB.out)|(with_reducible refine cA_ ?_ _)|(with_reducible refine cN_ ?_ _)|(with_reducible refine cD_ ?_)))
                (case side2=>exact HC0.out)
                (case side3=>repeat (first|exact (Kd.C_below HR108.out HB.out)|(with_reducible refine cA_ ?_ _)|(with_reducible refine cN_ ?_ _)|(with_reducible refine cD_ ?_)))
                (case side4=>exact HC108.out)
                (case side5=>repeat (first|exact (Kd.C_below HR103_1.out HB.out)|(with_reducible refine cA_ ?_ _)|(with_reducible refine cN_ ?_ _)|(with_reducible refine cD_ ?_)))
                (case side6=>exact HC103_1.out)
                rintro e w32 ⟨rfl,hb⟩
                refine ⟨_,rfl,?_⟩
                have n0_:=Az.mk (bb_ (g:=gb102) (o:=.cells #[.slice (some ad103) ((rd_T33 l0 x18_1).f0).length c101_0,.bool ((rd_T33 l0 x18_1).f1),.bool ((rd_T33 l0 x18_1).f2)] 33 (0,0)) (by (with_reducible repeat (first|refine bq_ ?_ _|refine bw_ ?_|refine bz_ ?_ _));exact BK102.out) hb)
                have n1_:=Az.mk (bb_ (g:=gb104) (o:=.cells #[.bool ((rd_T40 ((rd_T33 l0 x18_1).f0) x29_2).f0.f0),.slice A103_1 ((rd_T40 ((rd_T33 l0 x18_1).f0) x29_2).f0.f1).length c103_1,.int .i64 ((rd_T40 ((rd_T33 l0 x18_1).f0) x29_2).f1),.bool ((rd_T40 ((rd_T33 l0 x18_1).f0) x29_2).f2)] 40 (0,0)) (by (with_reducible repeat (first|refine bq_ ?_ _|refine bw_ ?_|refine bz_ ?_ _));exact BK104.out) hb)
                have n2_:=Az.mk (below_step (by repeat (first|(with_reducible first|exact HB.out|apply bA_|apply bN_|apply bD_|refine bs_ ?_ GE102.out|refine bs_ ?_ GE104.out)|exact HB.out)) hb)
                clear BK102
                clear BK104
                clear HB
                have BK102:=n0_
                have BK104:=n1_
                have HB:=n2_
                clear n0_ n1_ n2_
                (try clear hb)
                (try clear hb2)
                (try clear hk)
                (try clear hi)
                refine hK.out _ _ ⟨(bc_ BK102.out 0).trans rfl,(bc_ BK102.out 1).trans rfl,(bc_ BK102.out 2).trans rfl,(bc_ BK104.out 0).trans rfl,(bc_ BK104.out 1).trans rfl,(bc_ BK104.out 2).trans rfl,(bc_ BK104.out 3).trans rfl⟩ (fun hHeld=>?_)
                clear hK K
                refine norm_ (a':=?_) ?_ ?_
                rotate_left
                ·show Act.put _ (some 40) _=_
                 simp only [Act.put,sA_,sB_,sC_,i64_w,i32_w]
                 rfl
                refine pure_ (i:=7) (N:=some 7) (v:=?_) (a':=?_) #[true,true,true,true,true,true,true,true] rfl rfl (any_of HT_.out (by kernel_rfl)) (fun _ _ _ h=>h) (Or.inl ⟨by rfl,?_⟩) ?_ ?_
                rotate_left
                ·intro w'
                 go_simp
                 with_reducible rfl
                rotate_left
                ·simp only [Act.put,sA_,sB_,sC_,i64_w,i32_w]
                 rfl
                refine done_ (done_of HT_.out (by kernel_rfl)) ?_
                try go_wp2
                go_ret
                exact ⟨by first|rfl|(simp [errW_none,errW_some] <;> rfl)|(simp [*,errW_none,errW_some] <;> rfl),by repeat (first|(with_reducible first|exact HB.out|apply bA_|apply bN_|apply bD_|refine bs_ ?_ GE102.out|refine bs_ ?_ GE104.out)|exact HB.out)⟩
              ·rw [if_neg c16] at H
               exact absurd H (by simp)
             ·rw [if_neg c14] at H
              exact absurd H (by simp)
            ·rw [if_neg c13] at H
             exact absurd H (by simp)
           ·rw [if_neg c12] at H
            have c12b0:decide (x29_2 < (((rd_T33 l0 x18_1).f0).length:Int))=false:=decide_eq_false c12
            clear c12
            have H':=Az.mk H
            clear H
            go_wp2
            go_roundg k2
            case measure=>have:=HK1.out;have:=HK2.out;omega
            case rel=>exact ⟨(wrap64 (x18_1+1)),(by first|rfl|(simp;done)|(simp [*];done)),H',⟨by have:=HK1.out;have:=HK2.out;omega⟩,⟨by repeat (first|(with_reducible first|exact HB.out|apply bA_|apply bN_|apply bD_|refine bs_ ?_ GE102.out)|exact HB.out)⟩⟩
       ·rw [if_neg c6] at H
        exact absurd H (by simp)
      ·rw [if_neg c5] at H
       exact absurd H (by simp)
     ·rw [if_neg c4] at H
      have c4b0:decide (x18_1 < (l0.length:Int))=false:=decide_eq_false c4
      clear c4
      obtain rfl:=Option.some.inj H
      go_wp2
      go_ret
      exact ⟨by first|rfl|(simp [errW_none,errW_some] <;> rfl)|(simp [*,errW_none,errW_some] <;> rfl),by repeat (first|(with_reducible first|exact HB.out|apply bA_|apply bN_|apply bD_)|exact HB.out)⟩
end Go.Proofs.Ytoihiehoolehiaa.PX
namespace Go.Proofs.Ytoihiehoolehiaa.PX
open Go.RowKit Go.Proofs.YtoihiehoolehiaaW.PrintWords Go.Proofs.YtoihiehoolehiaaW.PrintLast Go.Proofs.YtoihiehoolehiaaW.PrintMore
attribute [local go_sem] max2_int min2_int max_two min_two max_three min_three max_four min_four   
set_option linter.unusedVariables false
set_option linter.unusedSimpArgs false
attribute [local go_sem] run_field_87_0
def cadencelaw4_known.f (k:Nat)  : Option (Bool):=(some (([(⟨([]:List (S40)),false,false⟩:S33)]:List (S33)):List (S33))).bind fun y110=>((schema_Check.f k y110).bind fun t113=>(if t113=0 then ((schema_Fits.f y110 0 ([]:List (S53))).bind fun t114=>(if t114=true then ((schema_Fits.f y110 0 (([(⟨(⟨#[97]⟩:ByteArray),([]:List (S53))⟩:S53)]:List (S53)))).bind fun t118=>(if t118=true then (some false) else ((schema_To.f y110 0 (⟨#[97]⟩:ByteArray)).bind fun t119=>(some (t119 == (-1)))))) else (some false))) else (some false)))
theorem cadencelaw4_known.mono:∀ k,LeO (cadencelaw4_known.f k ) (cadencelaw4_known.f (k+1) ):=by
 intro  k
 unfold cadencelaw4_known.f
 repeat' first
   | (with_reducible exact schema_Check.mono _ _)
   | (with_reducible exact LeO.refl _)
   | (with_reducible exact LeO.none _)
   | (with_reducible refine LeO.ite ?_ ?_)
   | (with_reducible refine LeO.bind ?_ (fun _=>?_))
   | exact schema_Check.mono _ _
   | exact LeO.none _
   | refine LeO.ite ?_ ?_
   | refine LeO.bind ?_ (fun _=>?_)
set_option maxHeartbeats 8000000 in
set_option maxRecDepth 100000 in
theorem cadencelaw4_known.calls (k:Nat)  (r:Bool) (w:World) (h:cadencelaw4_known.f k  = some r) :
  Calls Try.prog 8 #[] w fun e w'=>e=.returned (.bool r)∧Below w.heap.size w w':=by
 have hu33:=Try.underlying33
 have hu53:=Try.underlying53
 have HB:=Az.mk (Below.refl w.heap.size w)
 have H:((some (([(⟨([]:List (S40)),false,false⟩:S33)]:List (S33)):List (S33))).bind fun y110=>((schema_Check.f k y110).bind fun t113=>(if t113=0 then ((schema_Fits.f y110 0 ([]:List (S53))).bind fun t114=>(if t114=true then ((schema_Fits.f y110 0 (([(⟨(⟨#[97]⟩:ByteArray),([]:List (S53))⟩:S53)]:List (S53)))).bind fun t118=>(if t118=true then (some false) else ((schema_To.f y110 0 (⟨#[97]⟩:ByteArray)).bind fun t119=>(some (t119 == (-1)))))) else (some false))) else (some false))))=some r:=h
 clear h
 obtain ⟨y110,hy110⟩:∃ y_:List (S33),y_=(([(⟨([]:List (S40)),false,false⟩:S33)]:List (S33))):=⟨_,rfl⟩
 replace H:((schema_Check.f k y110).bind fun t113=>(if t113=0 then ((schema_Fits.f y110 0 ([]:List (S53))).bind fun t114=>(if t114=true then ((schema_Fits.f y110 0 (([(⟨(⟨#[97]⟩:ByteArray),([]:List (S53))⟩:S53)]:List (S53)))).bind fun t118=>(if t118=true then (some false) else ((schema_To.f y110 0 (⟨#[97]⟩:ByteArray)).bind fun t119=>(some (t119 == (-1)))))) else (some false))) else (some false)))=some r:=by first|(rw [hy110];with_reducible exact H)|(have H2_:=(Option.bind_some _ _).symm.trans H;rw [hy110];with_reducible exact H2_)|(have H2_:=(Option.bind_some _ _).symm.trans H;with_reducible exact H2_)|with_reducible exact H|(rw [hy110];exact H)|exact H
 have Ny110:=Az.mk hy110
 clear hy110
 replace H:=Option.bind_eq_some_iff.mp H
 obtain ⟨t113,A10,H⟩:=H
 replace H:(if t113=0 then ((schema_Fits.f y110 0 ([]:List (S53))).bind fun t114=>(if t114=true then ((schema_Fits.f y110 0 (([(⟨(⟨#[97]⟩:ByteArray),([]:List (S53))⟩:S53)]:List (S53)))).bind fun t118=>(if t118=true then (some false) else ((schema_To.f y110 0 (⟨#[97]⟩:ByteArray)).bind fun t119=>(some (t119 == (-1)))))) else (some false))) else (some false))=some r:=H
 have A1:=Az.mk A10
 clear A10
 by_cases c2:t113=0
 ·rw [if_pos c2] at H
  have c2b0:(t113 == 0)=true:=beq_iff_eq.mpr c2
  have c2b1:(t113 != 0)=false:=bne_eq_false_iff_eq.mpr c2
  clear c2
  replace H:=Option.bind_eq_some_iff.mp H
  obtain ⟨t114,A30,H⟩:=H
  replace H:(if t114=true then ((schema_Fits.f y110 0 (([(⟨(⟨#[97]⟩:ByteArray),([]:List (S53))⟩:S53)]:List (S53)))).bind fun t118=>(if t118=true then (some false) else ((schema_To.f y110 0 (⟨#[97]⟩:ByteArray)).bind fun t119=>(some (t119 == (-1)))))) else (some false))=some r:=H
  have A3:=Az.mk A30
  clear A30
  by_cases c4:t114=true
  ·subst c4
   have H1:((schema_Fits.f y110 0 (([(⟨(⟨#[97]⟩:ByteArray),([]:List (S53))⟩:S53)]:List (S53)))).bind fun t118=>(if t118=true then (some false) else ((schema_To.f y110 0 (⟨#[97]⟩:ByteArray)).bind fun t119=>(some (t119 == (-1))))))=some r:=by rw [if_pos rfl] at H;exact H
   clear H
   have H:=H1
   clear H1
   obtain ⟨y115,hy115⟩:∃ y_:List (S53),y_=(([(⟨(⟨#[97]⟩:ByteArray),([]:List (S53))⟩:S53)]:List (S53))):=⟨_,rfl⟩
   replace H:((schema_Fits.f y110 0 y115).bind fun t118=>(if t118=true then (some false) else ((schema_To.f y110 0 (⟨#[97]⟩:ByteArray)).bind fun t119=>(some (t119 == (-1))))))=some r:=by first|(rw [hy115];with_reducible exact H)|(have H2_:=(Option.bind_some _ _).symm.trans H;rw [hy115];with_reducible exact H2_)|(have H2_:=(Option.bind_some _ _).symm.trans H;with_reducible exact H2_)|with_reducible exact H|(rw [hy115];exact H)|exact H
   have Ny115:=Az.mk hy115
   clear hy115
   replace H:=Option.bind_eq_some_iff.mp H
   obtain ⟨t118,A50,H⟩:=H
   replace H:(if t118=true then (some false) else ((schema_To.f y110 0 (⟨#[97]⟩:ByteArray)).bind fun t119=>(some (t119 == (-1)))))=some r:=H
   have A5:=Az.mk A50
   clear A50
   by_cases c6:t118=true
   ·subst c6
    have H1:(some false)=some r:=by rw [if_pos rfl] at H;exact H
    clear H
    have H:=H1
    clear H1
    obtain rfl:=Option.some.inj H
    go_enter Try.func8,Try.ntmps8
    go_wp2_with (first|((with_reducible refine gate_dst (N:=3) rfl ?_);(try (refine gate_guard (by rfl) ?_;dsimp only));refine Kd.R_lit k33 _ 33 ?hg (N:=3) ?hd (xs:=([(⟨([]:List (S40)),false,false⟩:S33)]:List (S33))) (inner:=[.slice none 0 0,.bool false,.bool false]) (ok:=fun _=>True) (okp:=fun _=>True) ?hr ?hp (fun _ hk=>hk) trivial (Below.refl _ _) (Nat.le_refl _) (by simp) ?_;(case hd=>rfl);(case hg=>rfl);(case hr=>first|(go_simp;done)|(go_simp;rfl));(case hp=>exact (Reps.c3 (show Kd.M k33 _ _ _ (⟨([]:List (S40)),false,false⟩:S33) [.slice none 0 0,.bool false,.bool false] from (k33_mkM _ _ _ (⟨([]:List (S40)),false,false⟩:S33) (Kd.R_nil _ _ _ _ _))) (Reps.none _ _)));intro v111 w7 ho8 hb hg_ hnew_;clear hg_ hnew_;(first|rw [← Ny110.out] at ho8|(simp only [Int.reduceToNat] at ho8;rw [← Ny110.out] at ho8));have n0_:=Az.mk (Kd.R_lower ho8 (be_ (by repeat (first|(with_reducible first|exact HB.out|apply bA_|apply bN_|apply bD_)|exact HB.out))));have n1_:=Az.mk (below_step (by repeat (first|(with_reducible first|exact HB.out|apply bA_|apply bN_|apply bD_)|exact HB.out)) hb);clear HB;have HO112:=n0_;have HB:=n1_;clear n0_ n1_;clear hb ho8;obtain ⟨Ao9,co9,eo9⟩:=Kd.R_slice HO112.out;subst eo9)|((with_reducible refine gate_callee (f:=11) rfl ?_);refine goesL_ (some 5) rfl rfl Try.func11 (by kernel_rfl) rfl #[.slice Ao9 y110.length co9] rfl (by (try simp only [List.map_toArray,List.map_cons,List.map_nil]);first|done|rfl|(simp only [List.length_drop,List.length_take];rfl)) ?_;(with_reducible refine (schema_Check.calls k _ _ y110 t113 _ ?side1 ?side2 A1.out).mono ?_);(case side1=>repeat (first|exact (Kd.R_reads' HO112.out).2.2|(with_reducible refine cA_ ?_ _)|(with_reducible refine cN_ ?_ _)|(with_reducible refine cD_ ?_)));(case side2=>exact (Kd.R_reads' HO112.out).2.1);rintro e w10 ⟨rfl,hb⟩;refine ⟨_,rfl,?_⟩;have n0_:=Az.mk (Kd.R_below (by (with_reducible repeat (first|apply rA_|apply rN_|apply rD_));exact HO112.out) hb);have n1_:=Az.mk (below_step (by repeat (first|(with_reducible first|exact HB.out|apply bA_|apply bN_|apply bD_)|exact HB.out)) hb);clear HO112;clear HB;have HO112:=n0_;have HB:=n1_;clear n0_ n1_;(try clear hb);(try clear hb2);(try clear hk);(try clear hi))|((with_reducible refine gate_dst (N:=14) rfl ?_);(try (refine gate_guard (by rfl) ?_;dsimp only));refine Kd.R_lit k53 _ 53 ?hg (N:=14) ?hd (xs:=([(⟨(⟨#[97]⟩:ByteArray),([]:List (S53))⟩:S53)]:List (S53))) (inner:=[.string (⟨#[97]⟩:ByteArray),.slice none 0 0]) (ok:=fun _=>True) (okp:=fun _=>True) ?hr ?hp (fun _ hk=>hk) trivial (Below.refl _ _) (Nat.le_refl _) (by simp) ?_;(case hd=>rfl);(case hg=>rfl);(case hr=>first|(go_simp;done)|(go_simp;rfl));(case hp=>exact (Reps.c2 (show Kd.M k53 _ _ _ (⟨(⟨#[97]⟩:ByteArray),([]:List (S53))⟩:S53) [.string (⟨#[97]⟩:ByteArray),.slice none 0 0] from (k53_mkM _ _ _ (⟨(⟨#[97]⟩:ByteArray),([]:List (S53))⟩:S53) (Kd.R_nil _ _ _ _ _))) (Reps.none _ _)));intro v116 w12 ho13 hb hg_ hnew_;clear hg_ hnew_;(first|rw [← Ny115.out] at ho13|(simp only [Int.reduceToNat] at ho13;rw [← Ny115.out] at ho13));have n0_:=Az.mk (Kd.R_below (by (with_reducible repeat (first|apply rA_|apply rN_|apply rD_));exact HO112.out) hb);have n1_:=Az.mk (Kd.R_lower ho13 (be_ (by repeat (first|(with_reducible first|exact HB.out|apply bA_|apply bN_|apply bD_)|exact HB.out))));have n2_:=Az.mk (below_step (by repeat (first|(with_reducible first|exact HB.out|apply bA_|apply bN_|apply bD_)|exact HB.out)) hb);clear HO112;clear HB;have HO112:=n0_;have HO117:=n1_;have HB:=n2_;clear n0_ n1_ n2_;clear hb ho13;obtain ⟨Ao14,co14,eo14⟩:=Kd.R_slice HO117.out;subst eo14)|(go_at_call 18;(with_reducible refine (schema_Fits.calls _ _ y110 0 _ _ y115 true _ ?side1 ?side2 ?side3 ?side4 A5.out).mono ?_);(case side1=>repeat (first|exact (Kd.R_reads' HO112.out).2.2|(with_reducible refine cA_ ?_ _)|(with_reducible refine cN_ ?_ _)|(with_reducible refine cD_ ?_)));(case side2=>exact (Kd.R_reads' HO112.out).2.1);(case side3=>repeat (first|exact (Kd.R_reads' HO117.out).2.2|(with_reducible refine cA_ ?_ _)|(with_reducible refine cN_ ?_ _)|(with_reducible refine cD_ ?_)));(case side4=>exact (Kd.R_reads' HO117.out).2.1);rintro e w15 ⟨rfl,hb⟩;have n0_:=Az.mk (Kd.R_below (by (with_reducible repeat (first|apply rA_|apply rN_|apply rD_));exact HO112.out) hb);have n1_:=Az.mk (Kd.R_below (by (with_reducible repeat (first|apply rA_|apply rN_|apply rD_));exact HO117.out) hb);have n2_:=Az.mk (below_step (by repeat (first|(with_reducible first|exact HB.out|apply bA_|apply bN_|apply bD_)|exact HB.out)) hb);clear HO112;clear HO117;clear HB;have HO112:=n0_;have HO117:=n1_;have HB:=n2_;clear n0_ n1_ n2_;(try clear hb);(try clear hb2);(try clear hk);(try clear hi))|(go_at_call 18;(refine (schema_Fits.calls _ _ y110 0 _ _ ([]:List (S53)) true _ ?side1 ?side2 ?side3 ?side4 A3.out).mono ?_);(case side1=>repeat (first|exact (Kd.R_reads' HO112.out).2.2|(with_reducible refine cA_ ?_ _)|(with_reducible refine cN_ ?_ _)|(with_reducible refine cD_ ?_)));(case side2=>exact (Kd.R_reads' HO112.out).2.1);(case side3=>exact Kd.C_nil _ _);(case side4=>exact Nat.le_refl _);rintro e w11 ⟨rfl,hb⟩;have n0_:=Az.mk (Kd.R_below (by (with_reducible repeat (first|apply rA_|apply rN_|apply rD_));exact HO112.out) hb);have n1_:=Az.mk (below_step (by repeat (first|(with_reducible first|exact HB.out|apply bA_|apply bN_|apply bD_)|exact HB.out)) hb);clear HO112;clear HB;have HO112:=n0_;have HB:=n1_;clear n0_ n1_;(try clear hb);(try clear hb2);(try clear hk);(try clear hi)))
    go_ret
    exact ⟨by first|rfl|(simp [errW_none,errW_some] <;> rfl)|(simp [*,errW_none,errW_some] <;> rfl),by repeat (first|(with_reducible first|exact HB.out|apply bA_|apply bN_|apply bD_)|exact HB.out)⟩
   ·replace c6:=Bool.eq_false_iff.mpr c6
    subst c6
    have H1:((schema_To.f y110 0 (⟨#[97]⟩:ByteArray)).bind fun t119=>(some (t119 == (-1))))=some r:=by rw [if_neg (show ¬ (false=true) by decide)] at H;exact H
    clear H
    have H:=H1
    clear H1
    replace H:=Option.bind_eq_some_iff.mp H
    obtain ⟨t119,A160,H⟩:=H
    replace H:(some (t119 == (-1)))=some r:=H
    have A16:=Az.mk A160
    clear A160
    obtain rfl:=Option.some.inj H
    go_enter Try.func8,Try.ntmps8
    go_wp2_with (first|((with_reducible refine gate_dst (N:=3) rfl ?_);(try (refine gate_guard (by rfl) ?_;dsimp only));refine Kd.R_lit k33 _ 33 ?hg (N:=3) ?hd (xs:=([(⟨([]:List (S40)),false,false⟩:S33)]:List (S33))) (inner:=[.slice none 0 0,.bool false,.bool false]) (ok:=fun _=>True) (okp:=fun _=>True) ?hr ?hp (fun _ hk=>hk) trivial (Below.refl _ _) (Nat.le_refl _) (by simp) ?_;(case hd=>rfl);(case hg=>rfl);(case hr=>first|(go_simp;done)|(go_simp;rfl));(case hp=>exact (Reps.c3 (show Kd.M k33 _ _ _ (⟨([]:List (S40)),false,false⟩:S33) [.slice none 0 0,.bool false,.bool false] from (k33_mkM _ _ _ (⟨([]:List (S40)),false,false⟩:S33) (Kd.R_nil _ _ _ _ _))) (Reps.none _ _)));intro v111 w17 ho18 hb hg_ hnew_;clear hg_ hnew_;(first|rw [← Ny110.out] at ho18|(simp only [Int.reduceToNat] at ho18;rw [← Ny110.out] at ho18));have n0_:=Az.mk (Kd.R_lower ho18 (be_ (by repeat (first|(with_reducible first|exact HB.out|apply bA_|apply bN_|apply bD_)|exact HB.out))));have n1_:=Az.mk (below_step (by repeat (first|(with_reducible first|exact HB.out|apply bA_|apply bN_|apply bD_)|exact HB.out)) hb);clear HB;have HO112:=n0_;have HB:=n1_;clear n0_ n1_;clear hb ho18;obtain ⟨Ao19,co19,eo19⟩:=Kd.R_slice HO112.out;subst eo19)|((with_reducible refine gate_callee (f:=11) rfl ?_);refine goesL_ (some 5) rfl rfl Try.func11 (by kernel_rfl) rfl #[.slice Ao19 y110.length co19] rfl (by (try simp only [List.map_toArray,List.map_cons,List.map_nil]);first|done|rfl|(simp only [List.length_drop,List.length_take];rfl)) ?_;(with_reducible refine (schema_Check.calls k _ _ y110 t113 _ ?side1 ?side2 A1.out).mono ?_);(case side1=>repeat (first|exact (Kd.R_reads' HO112.out).2.2|(with_reducible refine cA_ ?_ _)|(with_reducible refine cN_ ?_ _)|(with_reducible refine cD_ ?_)));(case side2=>exact (Kd.R_reads' HO112.out).2.1);rintro e w20 ⟨rfl,hb⟩;refine ⟨_,rfl,?_⟩;have n0_:=Az.mk (Kd.R_below (by (with_reducible repeat (first|apply rA_|apply rN_|apply rD_));exact HO112.out) hb);have n1_:=Az.mk (below_step (by repeat (first|(with_reducible first|exact HB.out|apply bA_|apply bN_|apply bD_)|exact HB.out)) hb);clear HO112;clear HB;have HO112:=n0_;have HB:=n1_;clear n0_ n1_;(try clear hb);(try clear hb2);(try clear hk);(try clear hi))|((with_reducible refine gate_dst (N:=14) rfl ?_);(try (refine gate_guard (by rfl) ?_;dsimp only));refine Kd.R_lit k53 _ 53 ?hg (N:=14) ?hd (xs:=([(⟨(⟨#[97]⟩:ByteArray),([]:List (S53))⟩:S53)]:List (S53))) (inner:=[.string (⟨#[97]⟩:ByteArray),.slice none 0 0]) (ok:=fun _=>True) (okp:=fun _=>True) ?hr ?hp (fun _ hk=>hk) trivial (Below.refl _ _) (Nat.le_refl _) (by simp) ?_;(case hd=>rfl);(case hg=>rfl);(case hr=>first|(go_simp;done)|(go_simp;rfl));(case hp=>exact (Reps.c2 (show Kd.M k53 _ _ _ (⟨(⟨#[97]⟩:ByteArray),([]:List (S53))⟩:S53) [.string (⟨#[97]⟩:ByteArray),.slice none 0 0] from (k53_mkM _ _ _ (⟨(⟨#[97]⟩:ByteArray),([]:List (S53))⟩:S53) (Kd.R_nil _ _ _ _ _))) (Reps.none _ _)));intro v116 w22 ho23 hb hg_ hnew_;clear hg_ hnew_;(first|rw [← Ny115.out] at ho23|(simp only [Int.reduceToNat] at ho23;rw [← Ny115.out] at ho23));have n0_:=Az.mk (Kd.R_below (by (with_reducible repeat (first|apply rA_|apply rN_|apply rD_));exact HO112.out) hb);have n1_:=Az.mk (Kd.R_lower ho23 (be_ (by repeat (first|(with_reducible first|exact HB.out|apply bA_|apply bN_|apply bD_)|exact HB.out))));have n2_:=Az.mk (below_step (by repeat (first|(with_reducible first|exact HB.out|apply bA_|apply bN_|apply bD_)|exact HB.out)) hb);clear HO112;clear HB;have HO112:=n0_;have HO117:=n1_;have HB:=n2_;clear n0_ n1_ n2_;clear hb ho23;obtain ⟨Ao24,co24,eo24⟩:=Kd.R_slice HO117.out;subst eo24)|(go_at_call 18;(with_reducible refine (schema_Fits.calls _ _ y110 0 _ _ y115 false _ ?side1 ?side2 ?side3 ?side4 A5.out).mono ?_);(case side1=>repeat (first|exact (Kd.R_reads' HO112.out).2.2|(with_reducible refine cA_ ?_ _)|(with_reducible refine cN_ ?_ _)|(with_reducible refine cD_ ?_)));(case side2=>exact (Kd.R_reads' HO112.out).2.1);(case side3=>repeat (first|exact (Kd.R_reads' HO117.out).2.2|(with_reducible refine cA_ ?_ _)|(with_reducible refine cN_ ?_ _)|(with_reducible refine cD_ ?_)));(case side4=>exact (Kd.R_reads' HO117.out).2.1);rintro e w25 ⟨rfl,hb⟩;have n0_:=Az.mk (Kd.R_below (by (with_reducible repeat (first|apply rA_|apply rN_|apply rD_));exact HO112.out) hb);have n1_:=Az.mk (Kd.R_below (by (with_reducible repeat (first|apply rA_|apply rN_|apply rD_));exact HO117.out) hb);have n2_:=Az.mk (below_step (by repeat (first|(with_reducible first|exact HB.out|apply bA_|apply bN_|apply bD_)|exact HB.out)) hb);clear HO112;clear HO117;clear HB;have HO112:=n0_;have HO117:=n1_;have HB:=n2_;clear n0_ n1_ n2_;(try clear hb);(try clear hb2);(try clear hk);(try clear hi))|(go_at_call 20;(with_reducible refine (schema_To.calls _ _ y110 0 (⟨#[97]⟩:ByteArray) t119 _ ?side1 ?side2 A16.out).mono ?_);(case side1=>repeat (first|exact (Kd.R_reads' HO112.out).2.2|(with_reducible refine cA_ ?_ _)|(with_reducible refine cN_ ?_ _)|(with_reducible refine cD_ ?_)));(case side2=>exact (Kd.R_reads' HO112.out).2.1);rintro e w26 ⟨rfl,hb⟩;have n0_:=Az.mk (Kd.R_below (by (with_reducible repeat (first|apply rA_|apply rN_|apply rD_));exact HO112.out) hb);have n1_:=Az.mk (Kd.R_below (by (with_reducible repeat (first|apply rA_|apply rN_|apply rD_));exact HO117.out) hb);have n2_:=Az.mk (below_step (by repeat (first|(with_reducible first|exact HB.out|apply bA_|apply bN_|apply bD_)|exact HB.out)) hb);clear HO112;clear HO117;clear HB;have HO112:=n0_;have HO117:=n1_;have HB:=n2_;clear n0_ n1_ n2_;(try clear hb);(try clear hb2);(try clear hk);(try clear hi))|(go_at_call 18;(refine (schema_Fits.calls _ _ y110 0 _ _ ([]:List (S53)) true _ ?side1 ?side2 ?side3 ?side4 A3.out).mono ?_);(case side1=>repeat (first|exact (Kd.R_reads' HO112.out).2.2|(with_reducible refine cA_ ?_ _)|(with_reducible refine cN_ ?_ _)|(with_reducible refine cD_ ?_)));(case side2=>exact (Kd.R_reads' HO112.out).2.1);(case side3=>exact Kd.C_nil _ _);(case side4=>exact Nat.le_refl _);rintro e w21 ⟨rfl,hb⟩;have n0_:=Az.mk (Kd.R_below (by (with_reducible repeat (first|apply rA_|apply rN_|apply rD_));exact HO112.out) hb);have n1_:=Az.mk (below_step (by repeat (first|(with_reducible first|exact HB.out|apply bA_|apply bN_|apply bD_)|exact HB.out)) hb);clear HO112;clear HB;have HO112:=n0_;have HB:=n1_;clear n0_ n1_;(try clear hb);(try clear hb2);(try clear hk);(try clear hi)))
    go_ret
    exact ⟨by first|rfl|(simp [errW_none,errW_some] <;> rfl)|(simp [*,errW_none,errW_some] <;> rfl),by repeat (first|(with_reducible first|exact HB.out|apply bA_|apply bN_|apply bD_)|exact HB.out)⟩
  ·replace c4:=Bool.eq_false_iff.mpr c4
   subst c4
   have H1:(some false)=some r:=by rw [if_neg (show ¬ (false=true) by decide)] at H;exact H
   clear H
   have H:=H1
   clear H1
   obtain rfl:=Option.some.inj H
   go_enter Try.func8,Try.ntmps8
   go_wp2_with (first|((with_reducible refine gate_dst (N:=3) rfl ?_);(try (refine gate_guard (by rfl) ?_;dsimp only));refine Kd.R_lit k33 _ 33 ?hg (N:=3) ?hd (xs:=([(⟨([]:List (S40)),false,false⟩:S33)]:List (S33))) (inner:=[.slice none 0 0,.bool false,.bool false]) (ok:=fun _=>True) (okp:=fun _=>True) ?hr ?hp (fun _ hk=>hk) trivial (Below.refl _ _) (Nat.le_refl _) (by simp) ?_;(case hd=>rfl);(case hg=>rfl);(case hr=>first|(go_simp;done)|(go_simp;rfl));(case hp=>exact (Reps.c3 (show Kd.M k33 _ _ _ (⟨([]:List (S40)),false,false⟩:S33) [.slice none 0 0,.bool false,.bool false] from (k33_mkM _ _ _ (⟨([]:List (S40)),false,false⟩:S33) (Kd.R_nil _ _ _ _ _))) (Reps.none _ _)));intro v111 w27 ho28 hb hg_ hnew_;clear hg_ hnew_;(first|rw [← Ny110.out] at ho28|(simp only [Int.reduceToNat] at ho28;rw [← Ny110.out] at ho28));have n0_:=Az.mk (Kd.R_lower ho28 (be_ (by repeat (first|(with_reducible first|exact HB.out|apply bA_|apply bN_|apply bD_)|exact HB.out))));have n1_:=Az.mk (below_step (by repeat (first|(with_reducible first|exact HB.out|apply bA_|apply bN_|apply bD_)|exact HB.out)) hb);clear HB;have HO112:=n0_;have HB:=n1_;clear n0_ n1_;clear hb ho28;obtain ⟨Ao29,co29,eo29⟩:=Kd.R_slice HO112.out;subst eo29)|((with_reducible refine gate_callee (f:=11) rfl ?_);refine goesL_ (some 5) rfl rfl Try.func11 (by kernel_rfl) rfl #[.slice Ao29 y110.length co29] rfl (by (try simp only [List.map_toArray,List.map_cons,List.map_nil]);first|done|rfl|(simp only [List.length_drop,List.length_take];rfl)) ?_;(with_reducible refine (schema_Check.calls k _ _ y110 t113 _ ?side1 ?side2 A1.out).mono ?_);(case side1=>repeat (first|exact (Kd.R_reads' HO112.out).2.2|(with_reducible refine cA_ ?_ _)|(with_reducible refine cN_ ?_ _)|(with_reducible refine cD_ ?_)));(case side2=>exact (Kd.R_reads' HO112.out).2.1);rintro e w30 ⟨rfl,hb⟩;refine ⟨_,rfl,?_⟩;have n0_:=Az.mk (Kd.R_below (by (with_reducible repeat (first|apply rA_|apply rN_|apply rD_));exact HO112.out) hb);have n1_:=Az.mk (below_step (by repeat (first|(with_reducible first|exact HB.out|apply bA_|apply bN_|apply bD_)|exact HB.out)) hb);clear HO112;clear HB;have HO112:=n0_;have HB:=n1_;clear n0_ n1_;(try clear hb);(try clear hb2);(try clear hk);(try clear hi))|(go_at_call 18;(refine (schema_Fits.calls _ _ y110 0 _ _ ([]:List (S53)) false _ ?side1 ?side2 ?side3 ?side4 A3.out).mono ?_);(case side1=>repeat (first|exact (Kd.R_reads' HO112.out).2.2|(with_reducible refine cA_ ?_ _)|(with_reducible refine cN_ ?_ _)|(with_reducible refine cD_ ?_)));(case side2=>exact (Kd.R_reads' HO112.out).2.1);(case side3=>exact Kd.C_nil _ _);(case side4=>exact Nat.le_refl _);rintro e w31 ⟨rfl,hb⟩;have n0_:=Az.mk (Kd.R_below (by (with_reducible repeat (first|apply rA_|apply rN_|apply rD_));exact HO112.out) hb);have n1_:=Az.mk (below_step (by repeat (first|(with_reducible first|exact HB.out|apply bA_|apply bN_|apply bD_)|exact HB.out)) hb);clear HO112;clear HB;have HO112:=n0_;have HB:=n1_;clear n0_ n1_;(try clear hb);(try clear hb2);(try clear hk);(try clear hi)))
   go_ret
   exact ⟨by first|rfl|(simp [errW_none,errW_some] <;> rfl)|(simp [*,errW_none,errW_some] <;> rfl),by repeat (first|(with_reducible first|exact HB.out|apply bA_|apply bN_|apply bD_)|exact HB.out)⟩
 ·rw [if_neg c2] at H
  have c2b0:(t113 == 0)=false:=beq_eq_false_iff_ne.mpr c2
  have c2b1:(t113 != 0)=true:=bne_iff_ne.mpr c2
  obtain rfl:=Option.some.inj H
  go_enter Try.func8,Try.ntmps8
  go_wp2_with (first|((with_reducible refine gate_dst (N:=3) rfl ?_);(try (refine gate_guard (by rfl) ?_;dsimp only));refine Kd.R_lit k33 _ 33 ?hg (N:=3) ?hd (xs:=([(⟨([]:List (S40)),false,false⟩:S33)]:List (S33))) (inner:=[.slice none 0 0,.bool false,.bool false]) (ok:=fun _=>True) (okp:=fun _=>True) ?hr ?hp (fun _ hk=>hk) trivial (Below.refl _ _) (Nat.le_refl _) (by simp) ?_;(case hd=>rfl);(case hg=>rfl);(case hr=>first|(go_simp;done)|(go_simp;rfl));(case hp=>exact (Reps.c3 (show Kd.M k33 _ _ _ (⟨([]:List (S40)),false,false⟩:S33) [.slice none 0 0,.bool false,.bool false] from (k33_mkM _ _ _ (⟨([]:List (S40)),false,false⟩:S33) (Kd.R_nil _ _ _ _ _))) (Reps.none _ _)));intro v111 w32 ho33 hb hg_ hnew_;clear hg_ hnew_;(first|rw [← Ny110.out] at ho33|(simp only [Int.reduceToNat] at ho33;rw [← Ny110.out] at ho33));have n0_:=Az.mk (Kd.R_lower ho33 (be_ (by repeat (first|(with_reducible first|exact HB.out|apply bA_|apply bN_|apply bD_)|exact HB.out))));have n1_:=Az.mk (below_step (by repeat (first|(with_reducible first|exact HB.out|apply bA_|apply bN_|apply bD_)|exact HB.out)) hb);clear HB;have HO112:=n0_;have HB:=n1_;clear n0_ n1_;clear hb ho33;obtain ⟨Ao34,co34,eo34⟩:=Kd.R_slice HO112.out;subst eo34)|((with_reducible refine gate_callee (f:=11) rfl ?_);refine goesL_ (some 5) rfl rfl Try.func11 (by kernel_rfl) rfl #[.slice Ao34 y110.length co34] rfl (by (try simp only [List.map_toArray,List.map_cons,List.map_nil]);first|done|rfl|(simp only [List.length_drop,List.length_take];rfl)) ?_;(with_reducible refine (schema_Check.calls k _ _ y110 t113 _ ?side1 ?side2 A1.out).mono ?_);(case side1=>repeat (first|exact (Kd.R_reads' HO112.out).2.2|(with_reducible refine cA_ ?_ _)|(with_reducible refine cN_ ?_ _)|(with_reducible refine cD_ ?_)));(case side2=>exact (Kd.R_reads' HO112.out).2.1);rintro e w35 ⟨rfl,hb⟩;refine ⟨_,rfl,?_⟩;have n0_:=Az.mk (Kd.R_below (by (with_reducible repeat (first|apply rA_|apply rN_|apply rD_));exact HO112.out) hb);have n1_:=Az.mk (below_step (by repeat (first|(with_reducible first|exact HB.out|apply bA_|apply bN_|apply bD_)|exact HB.out)) hb);clear HO112;clear HB;have HO112:=n0_;have HB:=n1_;clear n0_ n1_;(try clear hb);(try clear hb2);(try clear hk);(try clear hi)))
  go_ret
  exact ⟨by first|rfl|(simp [errW_none,errW_some] <;> rfl)|(simp [*,errW_none,errW_some] <;> rfl),by repeat (first|(with_reducible first|exact HB.out|apply bA_|apply bN_|apply bD_)|exact HB.out)⟩
end Go.Proofs.Ytoihiehoolehiaa.PX
set_option linter.unusedVariables false
set_option linter.unusedSimpArgs false
namespace Go.Proofs.Ytoihiehoolehiaa.PX
open Go.RowKit Go.Proofs.YtoihiehoolehiaaW.PrintWords Go.Proofs.YtoihiehoolehiaaW.PrintLast Go.Proofs.YtoihiehoolehiaaW.PrintMore Go.Proofs.Ytoihiehoolehiaa
def fieldsM (n:Nat) (fs:List S40):Nat→Nat→Int
 | 0,_=>0
 | d+1,i=>if h:i < fs.length then (if fieldM n (fs.take i) fs[i]=0 then fieldsM n fs d (i+1) else fieldM n (fs.take i) fs[i]) else 0
def defM (n:Nat) (d:S33):Int:=if 6 < d.f0.length then 4 else fieldsM n d.f0 d.f0.length 0
def defsM (n:Nat):List S33→Int
 | []=>0
 | d :: t=>if defM n d=0 then defsM n t else defM n d
def checkM (s:Sc):Int:=if s.length=0 then 2 else if 12 < s.length then 4 else defsM s.length s
def ScFew (s:Sc):Prop:=∀ d ∈ s,d.f0.length≤1000000∧∀ f ∈ d.f0,FieldOk f
theorem check_ev (s:Sc) (hs:ScFew s):Ev (fun k=>schema_Check.f k s) (checkM s):=by
 by_cases h0:s.length=0
 ·have e:∀ k,schema_Check.f k s=some 2:=fun k=>by unfold schema_Check.f;rw [if_pos (by omega)]
  simp only [e]
  rw [checkM,if_pos h0]
  exact Ev.now _
 by_cases h1:12 < s.length
 ·have e:∀ k,schema_Check.f k s=some 4:=fun k=>by unfold schema_Check.f;rw [if_neg (by omega),if_pos (by omega)]
  simp only [e]
  rw [checkM,if_neg h0,if_pos h1]
  exact Ev.now _
 have e:∀ k,schema_Check.f k s=schema_Check.l0 k s s (s.length:Int) 0:=fun k=>by unfold schema_Check.f;rw [if_neg (by omega),if_neg (by omega)]
 simp only [e]
 rw [checkM,if_neg h0,if_neg h1]
 have inner:∀ (d:S33) (hd:d ∈ s) (i:Nat) (r:Int) (hi:i < s.length) (hr:Ev (fun k=>schema_Check.l0 k s s (s.length:Int) ((i+1:Nat):Int)) r) (m j:Nat),d.f0.length - j≤m→j≤d.f0.length→Ev (fun k=>schema_Check.l1 k s s (s.length:Int) (i:Int) d.f0 (d.f0.length:Int) (j:Int) d.f0 d.f1 d.f2) (if fieldsM s.length d.f0 m j=0 then r else fieldsM s.length d.f0 m j):=by
  intro d hd i r hi hr m
  have hdl:=hs d hd
  induction m with
  | zero =>
   intro j hm hj
   obtain rfl:j=d.f0.length:=by omega
   refine Ev.step (f:=fun k=>schema_Check.l0 k s s (s.length:Int) ((i+1:Nat):Int)) (fun k=>?_) ?_
   ·simp only [schema_Check.l1]
    rw [if_neg (by omega),wrap_succ (by omega)]
   ·rw [fieldsM,if_pos rfl];exact hr
  | succ m ih =>
   intro j hm hj
   by_cases h:j < d.f0.length
   ·have hle:(d.f0.take j).length≤1000000000000:=by rw [List.length_take];omega
    have ef:schema_field.f s (d.f0.take j) (d.f0[j]).f0.f0 (d.f0[j]).f0.f1 (d.f0[j]).f1 (d.f0[j]).f2=some (fieldM s.length (d.f0.take j) d.f0[j]):=by
     unfold schema_field.f
     rw [if_pos ⟨hle,hdl.2 _ (List.getElem_mem h),fun o ho=>hdl.2 o (List.mem_of_mem_take ho)⟩]
    have e:∀ k,schema_Check.l1 (k+1) s s (s.length:Int) (i:Int) d.f0 (d.f0.length:Int) (j:Int) d.f0 d.f1 d.f2=if fieldM s.length (d.f0.take j) d.f0[j]=0 then schema_Check.l1 k s s (s.length:Int) (i:Int) d.f0 (d.f0.length:Int) ((j+1:Nat):Int) d.f0 d.f1 d.f2 else some (fieldM s.length (d.f0.take j) d.f0[j]):=by
     intro k
     simp only [schema_Check.l1]
     rw [if_pos (by omega),if_pos (by omega),if_pos (by omega),if_pos (by omega),rdF_nat h,Int.toNat_natCast,ef,wrap_succ (by omega)]
     simp only [Option.bind_some]
    rw [fieldsM,dif_pos h]
    by_cases hf:fieldM s.length (d.f0.take j) d.f0[j]=0
    ·rw [if_pos hf]
     exact Ev.step (fun k=>(e k).trans (if_pos hf)) (ih (j+1) (by omega) (by omega))
    ·rw [if_neg hf,if_neg hf]
     exact Ev.step (fun k=>(e k).trans (if_neg hf)) (Ev.now _)
   ·obtain rfl:j=d.f0.length:=by omega
    refine Ev.step (f:=fun k=>schema_Check.l0 k s s (s.length:Int) ((i+1:Nat):Int)) (fun k=>?_) ?_
    ·simp only [schema_Check.l1]
     rw [if_neg (by omega),wrap_succ (by omega)]
    ·rw [fieldsM,dif_neg h,if_pos rfl];exact hr
 have outer:∀ (m i:Nat),s.length - i≤m→i≤s.length→Ev (fun k=>schema_Check.l0 k s s (s.length:Int) (i:Int)) (defsM s.length (s.drop i)):=by
  intro m
  induction m with
  | zero =>
   intro i hm hi
   obtain rfl:i=s.length:=by omega
   refine Ev.step (f:=fun _=>some 0) (fun k=>?_) ?_
   ·simp only [schema_Check.l0]
    rw [if_neg (by omega)]
   ·rw [List.drop_length];exact Ev.now _
  | succ m ih =>
   intro i hm hi
   by_cases h:i < s.length
   ·rw [List.drop_eq_getElem_cons h,defsM,defM]
    by_cases h6:6 < (s[i]).f0.length
    ·rw [if_pos h6]
     refine Ev.step (f:=fun _=>some 4) (fun k=>?_) (Ev.now _)
     simp only [schema_Check.l0]
     rw [if_pos (by omega),if_pos (by omega),if_pos (by omega),rdD_nat h,if_pos (by omega)]
    ·rw [if_neg h6]
     refine Ev.step (f:=fun k=>schema_Check.l1 k s s (s.length:Int) (i:Int) (s[i]).f0 ((s[i]).f0.length:Int) 0 (s[i]).f0 (s[i]).f1 (s[i]).f2) (fun k=>?_) ?_
     ·simp only [schema_Check.l0]
      rw [if_pos (by omega),if_pos (by omega),if_pos (by omega),rdD_nat h,if_neg (by omega)]
     ·exact inner s[i] (List.getElem_mem h) i _ h (ih (i+1) (by omega) (by omega)) (s[i]).f0.length 0 (by omega) (Nat.zero_le _)
   ·obtain rfl:i=s.length:=by omega
    refine Ev.step (f:=fun _=>some 0) (fun k=>?_) ?_
    ·simp only [schema_Check.l0]
     rw [if_neg (by omega)]
    ·rw [List.drop_length];exact Ev.now _
 exact outer s.length 0 (by omega) (Nat.zero_le _)
end Go.Proofs.Ytoihiehoolehiaa.PX
set_option linter.unusedVariables false
set_option linter.unusedSimpArgs false
namespace Go.Proofs.Ytoihiehoolehiaa.PX
open Go.RowKit Go.Proofs.YtoihiehoolehiaaW.PrintWords Go.Proofs.YtoihiehoolehiaaW.PrintLast Go.Proofs.YtoihiehoolehiaaW.PrintMore Go.Proofs.Ytoihiehoolehiaa
def fiveAt (x:ByteArray):Nat:=match tl x with|[]=>0|c :: _=>c.toNat - 96
theorem five_cases {x:ByteArray} (h:x ∈ five):tl x = []∨tl x = [97]∨tl x = [98]∨tl x = [99]∨tl x = [100]:=by
 unfold five at h
 rcases List.mem_cons.1 h with rfl|h
 ·exact .inl rfl
 rcases List.mem_cons.1 h with rfl|h
 ·exact .inr (.inl rfl)
 rcases List.mem_cons.1 h with rfl|h
 ·exact .inr (.inr (.inl rfl))
 rcases List.mem_cons.1 h with rfl|h
 ·exact .inr (.inr (.inr (.inl rfl)))
 rcases List.mem_cons.1 h with rfl|h
 ·exact .inr (.inr (.inr (.inr rfl)))
 cases h
theorem fiveAt_lt {x:ByteArray} (h:x ∈ five):fiveAt x < 5:=by
 unfold fiveAt
 rcases five_cases h with e|e|e|e|e <;> rw [e] <;> decide
theorem fiveAt_mono {x y:ByteArray} (hx:x ∈ five) (hy:y ∈ five) (h:tl x < tl y):fiveAt x < fiveAt y:=by
 unfold fiveAt
 rcases five_cases hx with e|e|e|e|e <;> rcases five_cases hy with e'|e'|e'|e'|e' <;> rw [e,e'] at h <;> rw [e,e'] <;> first|decide|exact absurd h (by decide)
theorem five_size {x:ByteArray} (h:x ∈ five):x.size≤80:=by
 have e:x.size=(tl x).length:=(Array.length_toList (xs:=x.data)).symm
 rw [e]
 rcases five_cases h with e|e|e|e|e <;> rw [e] <;> decide
theorem inc_length (n:Nat):∀ (l:List Nat) (k:Nat),l.Pairwise (·< ·)→(∀ x ∈ l,k≤x∧x < n)→l.length≤n - k
 | [],_,_,_=>by simp
 | x :: r,k,h,hx=>by
  obtain ⟨h1,h2⟩:=List.pairwise_cons.1 h
  have h3:=hx x (by simp)
  have:=inc_length n r (x+1) h2 (fun y hy=>⟨h1 y hy,(hx y (by simp [hy])).2⟩)
  rw [List.length_cons]
  omega
theorem five_len {l:List ByteArray} (hs:Srt l) (h:∀ x ∈ l,x ∈ five):l.length≤5:=by
 have:=inc_length 5 (l.map fiveAt) 0 (by
  rw [List.pairwise_map]
  exact hs.imp_of_mem (fun {a b} ha hb hab=>fiveAt_mono (h a ha) (h b hb) hab)) (fun x hx=>by
  obtain ⟨y,hy,rfl⟩:=List.mem_map.1 hx
  exact ⟨Nat.zero_le _,fiveAt_lt (h y hy)⟩)
 rw [List.length_map] at this
 omega
structure FdOk (n:Nat) (f:Fd):Prop where
 len:f.f0.f1.length≤5
 five:∀ x ∈ f.f0.f1,x ∈ five
 to0:0≤f.f1
 to1:f.f1 < n
 need:(f.f2 && f.f0.f0)=false
structure GdF (n:Nat) (fs:List Fd):Prop where
 ok:∀ f ∈ fs,FdOk n f
 ap:fs.Pairwise fun a b=>apartN a.f0 b.f0=true
structure GdS (r:Sc):Prop where
 lo:1≤r.length
 hi:r.length≤4
 df:∀ d ∈ r,d.f0.length≤3∧GdF r.length d.f0
theorem field_good {n:Nat} {fs:List Fd} (h:GdF n fs) {i:Nat} (hi:i < fs.length):fieldM n (fs.take i) fs[i]=0:=by
 have hf:=h.ok _ (List.getElem_mem hi)
 unfold fieldM
 have h1:=hf.len
 have h2:=hf.to0
 have h3:=hf.to1
 rw [if_neg (by omega),if_neg,if_neg (by omega),if_neg (by rw [hf.need];simp),if_neg]
 ·intro hh
  obtain ⟨o,ho,h4⟩:=List.any_eq_true.1 hh
  obtain ⟨j,hj,rfl⟩:=List.mem_iff_getElem.1 ho
  rw [List.length_take] at hj
  rw [List.getElem_take] at h4
  have:=List.pairwise_iff_getElem.1 h.ap j i (by omega) hi (by omega)
  rw [this] at h4
  cases h4
 ·intro h
  obtain ⟨x,hx,h4⟩:=List.any_eq_true.1 h
  have:=five_size (hf.five x hx)
  have:=of_decide_eq_true h4
  omega
theorem fields_good {n:Nat} {fs:List Fd} (h:GdF n fs):∀ d i,fieldsM n fs d i=0
 | 0,_=>rfl
 | d+1,i=>by
  unfold fieldsM
  split
  ·rename_i hi
   rw [field_good h hi,if_pos rfl]
   exact fields_good h d (i+1)
  ·rfl
theorem check_good {r:Sc} (h:GdS r):checkM r=0:=by
 have h1:=h.lo
 have h2:=h.hi
 unfold checkM
 rw [if_neg (by omega),if_neg (by omega)]
 have key:∀ l:Sc,(∀ d ∈ l,d.f0.length≤3∧GdF r.length d.f0)→defsM r.length l=0:=by
  intro l
  induction l with
  | nil=>intro _;rfl
  | cons d l ih =>
   intro hd
   have hd1:=hd d (by simp)
   have e:defM r.length d=0:=by
    unfold defM
    rw [if_neg (by omega)]
    exact fields_good hd1.2 _ _
   rw [defsM,e,if_pos rfl]
   exact ih (fun x hx=>hd x (by simp [hx]))
 exact key r h.df
theorem mk_inner2 (s:Sc) (hs:Small4 s) (n:Nat) (hn:1≤n∧n≤4) (out:Sc) (i:Nat) (hout:out.length≤10) {R:Sc→Prop}
  (next:∀ x:Df,x.f0.length≤3∧GdF n x.f0→∃ r,R r∧Ev (fun k=>cadencelaw4_Make.l0 k s (n:Int) (out ++ [x]) ((i+1:Nat):Int)) r) (hi:i≤1000) :
  ∀ d j,j+d=3→∀ (fs:List Fd) (lb:Bool) (ll:List ByteArray),fs.length≤j→GdF n fs→(∀ f ∈ fs,∀ x,isB lb ll x=true→isB f.f0.f0 f.f0.f1 x=false)→Srt ll→(∀ x ∈ ll,x ∈ five) →
   ∃ r,R r∧Ev (fun k=>cadencelaw4_Make.l1 k s (n:Int) out (i:Int) (j:Int) fs false false lb ll) r:=by
 have last:∀ j,j≤3→(¬ (i < s.length∧(∃ h:i < s.length,j < s[i].f0.length)∧j < 3))→∀ (fs:List Fd) (lb:Bool) (ll:List ByteArray),fs.length≤3→GdF n fs →
   ∃ r,R r∧Ev (fun k=>cadencelaw4_Make.l1 k s (n:Int) out (i:Int) (j:Int) fs false false lb ll) r:=by
  intro j hj3 hnot fs lb ll hf hl
  obtain ⟨r,hr,he⟩:=next ⟨fs,if h:i < s.length then s[i].f1 else false,if h:i < s.length then s[i].f2 else false⟩ ⟨hf,hl⟩
  have e2:Ev (fun k=>cadencelaw4_Make.j2 k s (n:Int) out (i:Int) (j:Int) false fs false false lb ll) r:=by
   refine Ev.step (fun k=>?_) he
   rw [cadencelaw4_Make.j2,if_neg Bool.false_ne_true]
   by_cases h:i < s.length
   ·rw [if_pos (by omega),if_pos (by omega),if_pos (by omega),rdD_nat h,wrap_succ (by omega),dif_pos h,dif_pos h]
   ·rw [if_neg (by omega),if_pos (by omega),wrap_succ (by omega),dif_neg h,dif_neg h]
  refine ⟨r,hr,Ev.step (fun k=>?_) e2⟩
  rw [cadencelaw4_Make.l1]
  by_cases h:i < s.length
  ·rw [if_pos (by omega),if_pos (by omega),rdD_nat h]
   by_cases hj:j < s[i].f0.length
   ·rw [if_pos (by omega),decide_eq_false (fun h3=>hnot ⟨h,⟨h,hj⟩,by omega⟩)]
   ·rw [if_neg (by omega)]
  ·rw [if_neg (by omega)]
 intro d
 induction d with
 | zero=>intro j hj fs lb ll hf hl _ _ _;exact last j (by omega) (fun h=>by omega) fs lb ll (by omega) hl
 | succ d ih =>
  intro j hj fs lb ll hf hl hap hsl h5l
  by_cases hgo:i < s.length∧(∃ h:i < s.length,j < s[i].f0.length)∧j < 3
  ·obtain ⟨hil,⟨_,hjl⟩,hj3⟩:=hgo
   have hd:=hs.2 s[i] (List.getElem_mem hil)
   have hfl:=hd.2 s[i].f0[j] (List.getElem_mem hjl)
   have hll:=five_len hsl h5l
   obtain ⟨a,a0,a1,a5,a2⟩:=make3_ev2 s[i].f0[j].f0.f0 s[i].f0[j].f0.f1 (by omega)
   obtain ⟨m,m1,m2⟩:=both3_ev2 a.1 a.2 lb ll (by omega) (by omega)
   have hm5:∀ x ∈ m.2,x ∈ five:=fun x hx=>by
    rcases ((m1.mem x).1 hx).1 with h|h
    ·exact a5 x h
    ·exact h5l x h
   have hml:=five_len m1.srt hm5
   obtain ⟨q,q1,q2⟩:=not3_ev2 m.1 m.2 (by omega)
   have hql:=q1.len
   obtain ⟨p,p1,p2⟩:=both3_ev2 lb ll q.1 q.2 (by omega) (by omega)
   obtain ⟨t,t0,t1,ht⟩:=within4 s[i].f0[j].f1 (n:=(n:Int)) (by omega) (by omega)
   have hmis:∀ x,isB m.1 m.2 x=true→isB lb ll x=true:=fun x hx=>by
    rw [m1.is,Bool.and_eq_true] at hx
    exact hx.2
   obtain ⟨r,hr,he⟩:=ih (j+1) (by omega) (fs ++ [⟨⟨m.1,m.2⟩,t,if s[i].f0[j].f2=true then !m.1 else false⟩]) p.1 p.2 (by simp;omega) ⟨fun f hf=>by
    rcases List.mem_append.1 hf with hf|hf
    ·exact hl.ok f hf
    ·obtain rfl:=List.mem_singleton.1 hf
     refine ⟨hml,hm5,t0,t1,?_⟩
     show ((if s[i].f0[j].f2=true then !m.1 else false) && m.1)=false
     split <;> cases m.1 <;> rfl,by
    rw [List.pairwise_append]
    refine ⟨hl.ap,List.pairwise_singleton _ _,fun f hf g hg=>?_⟩
    obtain rfl:=List.mem_singleton.1 hg
    rw [apartN_iff]
    intro x
    show (isB f.f0.f0 f.f0.f1 x && isB m.1 m.2 x)=false
    cases hx:isB m.1 m.2 x with
    | false=>rw [Bool.and_false]
    | true=>rw [hap f hf x (hmis x hx),Bool.false_and]⟩ (fun f hf x hx=>by
    rw [p1.is,Bool.and_eq_true,q1.is] at hx
    rcases List.mem_append.1 hf with hf|hf
    ·exact hap f hf x hx.1
    ·obtain rfl:=List.mem_singleton.1 hf
     show isB m.1 m.2 x=false
     simpa using hx.2) p1.srt (fun x hx=>by
    rcases ((p1.mem x).1 hx).1 with h|h
    ·exact h5l x h
    ·exact hm5 x ((q1.mem x).1 h))
   have e3:Ev (fun k=>cadencelaw4_Make.j3 k s (n:Int) out (i:Int) (j:Int) fs false false p.1 p.2 s[i].f0[j].f0.f0 s[i].f0[j].f0.f1 s[i].f0[j].f1 s[i].f0[j].f2 m.1 m.2) r:=by
    refine Ev.step (fun k=>?_) he
    rw [cadencelaw4_Make.j3,ht,Option.bind_some,wrap_succ (by omega)]
    by_cases hN:s[i].f0[j].f2=true
    ·rw [if_pos hN,if_pos (by omega),if_pos hN]
    ·rw [if_neg hN,if_pos (by omega),if_neg hN]
   have e2:Ev (fun k=>cadencelaw4_Make.j2 k s (n:Int) out (i:Int) (j:Int) true fs false false lb ll) r:=by
    refine Ev.step (f:=fun k=>(cadencelaw3_Make.f k s[i].f0[j].f0.f0 s[i].f0[j].f0.f1).bind fun b1=>(cadenceref3_Both.f k b1.1 b1.2 lb ll).bind fun b2=>(cadenceref3_Not.f k b2.1 b2.2).bind fun b3=>(cadenceref3_Both.f k lb ll b3.1 b3.2).bind fun b4=>cadencelaw4_Make.j3 k s (n:Int) out (i:Int) (j:Int) fs false false b4.1 b4.2 s[i].f0[j].f0.f0 s[i].f0[j].f0.f1 s[i].f0[j].f1 s[i].f0[j].f2 b2.1 b2.2) (fun k=>?_) (Ev.bind a2 (Ev.bind m2 (Ev.bind q2 (Ev.bind p2 e3))))
    rw [cadencelaw4_Make.j2,if_pos rfl,if_pos (by omega),if_pos (by omega),if_pos (by omega),rdD_nat hil,if_pos (by omega),rdF_nat hjl]
   refine ⟨r,hr,Ev.step (fun k=>?_) e2⟩
   rw [cadencelaw4_Make.l1,if_pos (by omega),if_pos (by omega),rdD_nat hil,if_pos (by omega),decide_eq_true (by omega)]
  ·exact last j (by omega) hgo fs lb ll (by omega) hl
theorem make4_ev2 (s:Sc) (hs:Small4 s):∃ r:Sc,GdS r∧Ev (fun k=>cadencelaw4_Make.f k s) r:=by
 obtain ⟨n,h1,h4,hn⟩:∃ n:Nat,1≤n∧n≤4∧mx 1 (mn (s.length:Int) 4)=(n:Int):=by
  unfold mx mn
  refine ⟨(if (1:Int) < (if (s.length:Int) < 4 then (s.length:Int) else 4) then (if (s.length:Int) < 4 then (s.length:Int) else 4) else 1).toNat,?_,?_,?_⟩ <;> (repeat' split) <;> omega
 have outer:∀ d i,i+d=n→∀ out:Sc,out.length=i→(∀ x ∈ out,x.f0.length≤3∧GdF n x.f0)→∃ r:Sc,(r.length=n∧∀ d ∈ r,d.f0.length≤3∧GdF n d.f0)∧Ev (fun k=>cadencelaw4_Make.l0 k s (n:Int) out (i:Int)) r:=by
  intro d
  induction d with
  | zero =>
   intro i hi out ho hx
   refine ⟨out,⟨by omega,hx⟩,Ev.step (f:=fun _=>some out) (fun k=>?_) (Ev.now _)⟩
   rw [cadencelaw4_Make.l0,if_neg (by omega)]
  | succ d ih =>
   intro i hi out ho hx
   obtain ⟨r,hr,he⟩:=mk_inner2 s hs n (by omega) out i (by omega) (R:=fun r=>r.length=n∧∀ d ∈ r,d.f0.length≤3∧GdF n d.f0) (fun x hx'=>ih (i+1) (by omega) (out ++ [x]) (by simp;omega) (fun y hy=>by
    rcases List.mem_append.1 hy with hy|hy
    ·exact hx y hy
    ·simp only [List.mem_singleton] at hy;subst hy;exact hx')) (by omega) 3 0 (by omega) [] true [] (by simp) ⟨fun f hf=>(by cases hf),List.Pairwise.nil⟩ (fun f hf=>(by cases hf)) srt_nil (fun x hx=>by cases hx)
   refine ⟨r,hr,Ev.step (fun k=>?_) he⟩
   rw [cadencelaw4_Make.l0,if_pos (by omega)]
   rfl
 obtain ⟨r,hr,he⟩:=outer n 0 (by omega) [] rfl (by simp)
 refine ⟨r,⟨by omega,by omega,fun d hd=>by rw [hr.1];exact hr.2 d hd⟩,?_⟩
 show Ev (fun k=>cadencelaw4_Make.l0 k s (mx 1 (mn (s.length:Int) 4)) [] 0) r
 rw [hn]
 exact he
end Go.Proofs.Ytoihiehoolehiaa.PX
namespace Go.Proofs.Ytoihiehoolehiaa.PX
open Go.RowKit Go.Proofs.YtoihiehoolehiaaW.PrintWords Go.Proofs.YtoihiehoolehiaaW.PrintLast Go.Proofs.YtoihiehoolehiaaW.PrintMore
attribute [local go_sem] max2_int min2_int max_two min_two max_three min_three max_four min_four   
set_option linter.unusedVariables false
set_option linter.unusedSimpArgs false
attribute [local go_sem] run_field_87_0
def cadenceref4_Wide.l0:Nat→Int→Bool→List ByteArray→Option (Int)
 | 0,_,_,_=>none
 | k+1,x3,x303000,x303001=>if x3 < (x303001.length:Int) then (if 0≤x3 then (if ((rdOf ByteArray.empty x303001 x3).size:Int) > 80 then (some 5) else (cadenceref4_Wide.l0 k (wrap64 (x3+1)) x303000 x303001)) else (none)) else (some 0)
def cadenceref4_Wide.f (k:Nat) (a0_0:Bool) (l0_1:List ByteArray):Option (Int):=if (l0_1.length:Int) > 20 then (some 4) else (cadenceref4_Wide.l0 k 0 a0_0 l0_1)
theorem cadenceref4_Wide.mono_l:∀ k,(∀ y0 y1 y2,LeO (cadenceref4_Wide.l0 k y0 y1 y2) (cadenceref4_Wide.l0 (k+1) y0 y1 y2))
 | 0=>fun _ _ _ r h=>by simp [cadenceref4_Wide.l0] at h
 | k+1=>by
  have ih0:=cadenceref4_Wide.mono_l k
  ·intro y0 y1 y2
   unfold cadenceref4_Wide.l0
   repeat' first
   | (with_reducible exact ih0 _ _ _)
   | (with_reducible exact LeO.refl _)
   | (with_reducible exact LeO.none _)
   | (with_reducible refine LeO.ite ?_ ?_)
   | (with_reducible refine LeO.bind ?_ (fun _=>?_))
   | exact ih0 _ _ _
   | exact LeO.none _
   | refine LeO.ite ?_ ?_
   | refine LeO.bind ?_ (fun _=>?_)
theorem cadenceref4_Wide.mono:∀ a0 a1 k,LeO (cadenceref4_Wide.f k a0 a1) (cadenceref4_Wide.f (k+1) a0 a1):=by
 intro a0 a1 k
 have ih0:=cadenceref4_Wide.mono_l k
 unfold cadenceref4_Wide.f
 repeat' first
   | (with_reducible exact ih0 _ _ _)
   | (with_reducible exact LeO.refl _)
   | (with_reducible exact LeO.none _)
   | (with_reducible refine LeO.ite ?_ ?_)
   | (with_reducible refine LeO.bind ?_ (fun _=>?_))
   | exact ih0 _ _ _
   | exact LeO.none _
   | refine LeO.ite ?_ ?_
   | refine LeO.bind ?_ (fun _=>?_)
set_option maxHeartbeats 8000000 in
set_option maxRecDepth 100000 in
theorem cadenceref4_Wide.calls (k:Nat) (a0_0:Bool) (A0_1:Option Addr) (c0_1:Nat) (l0_1:List ByteArray) (r:Int) (w:World) (hr0_1:Kd.C Kd.string w A0_1 l0_1.length l0_1) (hc0_1:l0_1.length≤c0_1) (h:cadenceref4_Wide.f k a0_0 l0_1=some r) :
  Calls Try.prog 51 #[.agg #[.bool a0_0,.slice A0_1 l0_1.length c0_1]] w fun e w'=>e=.returned (.int .i64 r)∧Below w.heap.size w w':=by
 have hu38:=Try.underlying38
 have HR0_1:=Az.mk hr0_1
 have HC0_1:=Az.mk hc0_1
 clear hr0_1 hc0_1
 have HB:=Az.mk (Below.refl w.heap.size w)
 have H:(if (l0_1.length:Int) > 20 then (some 4) else (cadenceref4_Wide.l0 k 0 a0_0 l0_1))=some r:=h
 clear h
 by_cases c2:(l0_1.length:Int) > 20
 ·rw [if_pos c2] at H
  have c2b0:decide (20 < (l0_1.length:Int))=true:=decide_eq_true c2
  have c2b1:decide (20 < l0_1.length)=true:=decide_eq_true (by omega)
  clear c2
  obtain rfl:=Option.some.inj H
  go_enter Try.func51,Try.ntmps51
  go_wp2_with (first|((with_reducible refine gate_dst (N:=1) rfl ?_);refine box_event ?hg (N:=1) ?hd (cs:=#[.bool a0_0,.slice A0_1 l0_1.length c0_1]) (t:=38) ?hr ?_;(case hd=>rfl);(case hg=>rfl);(case hr=>first|(go_simp;done)|(go_simp;rfl));intro gb302 hg w3 hbox hb;have n0_:=Az.mk (below_step (by repeat (first|(with_reducible first|exact HB.out|apply bA_|apply bN_|apply bD_)|exact HB.out)) hb);have n1_:=Az.mk (hbox);have n2_:=Az.mk ((by rw [hg];exact (be_ (by repeat (first|(with_reducible first|exact HB.out|apply bA_|apply bN_|apply bD_)|exact HB.out))):w.heap.size≤gb302));have n3_:=Az.mk ((by rw [hg];exact (be_ (by repeat (first|(with_reducible first|exact HB.out|apply bA_|apply bN_|apply bD_)|exact HB.out))):w.heap.size≤gb302));clear HB;have HB:=n0_;have BK302:=n1_;have GW302:=n2_;have GE302:=n3_;clear n0_ n1_ n2_ n3_;clear hb hbox hg;have hcz4_0:w3.cell? ⟨gb302,0,none⟩=some (.bool a0_0):=(bc_ BK302.out 0).trans rfl;have hcz4_1:w3.cell? ⟨gb302,1,none⟩=some (.slice A0_1 l0_1.length c0_1):=(bc_ BK302.out 1).trans rfl;have hfz4_0:=bf_ BK302.out 0;have hfz4_1:=bf_ BK302.out 1))
  go_ret
  exact ⟨by first|rfl|(simp [errW_none,errW_some] <;> rfl)|(simp [*,errW_none,errW_some] <;> rfl),by repeat (first|(with_reducible first|exact HB.out|apply bA_|apply bN_|apply bD_|refine bs_ ?_ GE302.out)|exact HB.out)⟩
 ·rw [if_neg c2] at H
  have c2b0:decide (20 < (l0_1.length:Int))=false:=decide_eq_false c2
  have c2b1:decide (20 < l0_1.length)=false:=decide_eq_false (by omega)
  clear c2
  have H':=Az.mk H
  clear H
  go_enter Try.func51,Try.ntmps51
  go_wp2_with (first|((with_reducible refine gate_dst (N:=1) rfl ?_);refine box_event ?hg (N:=1) ?hd (cs:=#[.bool a0_0,.slice A0_1 l0_1.length c0_1]) (t:=38) ?hr ?_;(case hd=>rfl);(case hg=>rfl);(case hr=>first|(go_simp;done)|(go_simp;rfl));intro gb302 hg w5 hbox hb;have n0_:=Az.mk (below_step (by repeat (first|(with_reducible first|exact HB.out|apply bA_|apply bN_|apply bD_)|exact HB.out)) hb);have n1_:=Az.mk (hbox);have n2_:=Az.mk ((by rw [hg];exact (be_ (by repeat (first|(with_reducible first|exact HB.out|apply bA_|apply bN_|apply bD_)|exact HB.out))):w.heap.size≤gb302));have n3_:=Az.mk ((by rw [hg];exact (be_ (by repeat (first|(with_reducible first|exact HB.out|apply bA_|apply bN_|apply bD_)|exact HB.out))):w.heap.size≤gb302));clear HB;have HB:=n0_;have BK302:=n1_;have GW302:=n2_;have GE302:=n3_;clear n0_ n1_ n2_ n3_;clear hb hbox hg;have hcz6_0:w5.cell? ⟨gb302,0,none⟩=some (.bool a0_0):=(bc_ BK302.out 0).trans rfl;have hcz6_1:w5.cell? ⟨gb302,1,none⟩=some (.slice A0_1 l0_1.length c0_1):=(bc_ BK302.out 1).trans rfl;have hfz6_0:=bf_ BK302.out 0;have hfz6_1:=bf_ BK302.out 1))
  go_loopg [3] k (fun kq v3 w'=>∃ (x3_1:Int),v3=.int .i64 x3_1∧Az (cadenceref4_Wide.l0 kq x3_1 a0_0 l0_1=some r)∧Az (kq≤k)∧Az (w'.heap[gb302]? = some (.cells #[.bool a0_0,(.slice A0_1 l0_1.length c0_1)] 38 (0,0)))∧Az (Below w.heap.size w w'))
  case atStart=>exact ⟨(0),(by first|rfl|(simp;done)|(simp [*];done)),H',⟨Nat.le_refl _⟩,⟨by (with_reducible repeat (first|refine bq_ ?_ _|refine bw_ ?_|refine bz_ ?_ _));exact BK302.out⟩,⟨by repeat (first|(with_reducible first|exact HB.out|apply bA_|apply bN_|apply bD_|refine bs_ ?_ GE302.out)|exact HB.out)⟩⟩
  case round =>
   clear H'
   try clear c2
   try clear c2b0
   try clear c2b1
   try clear p2
   try clear c5
   try clear hcz4_0
   try clear hcz4_1
   try clear hcz6_0
   try clear hcz6_1
   try clear hfz4_0
   try clear hfz4_1
   try clear hfz6_0
   try clear hfz6_1
   obtain ⟨x3_1,rfl,HA,HK1,BK302,HB⟩:=hrel
   cases gk with
   | zero=>exact absurd HA.out (by simp [cadenceref4_Wide.l0])
   | succ k1 =>
    have H:=HA.out
    clear HA
    simp only [cadenceref4_Wide.l0] at H
    by_cases c7:x3_1 < (l0_1.length:Int)
    ·rw [if_pos c7] at H
     have c7b0:decide (x3_1 < (l0_1.length:Int))=true:=decide_eq_true c7
     clear c7
     by_cases c8:0≤x3_1
     ·rw [if_pos c8] at H
      have c8b0:decide (0≤x3_1)=true:=decide_eq_true c8
      clear c8
      by_cases c9:((rdOf ByteArray.empty l0_1 x3_1).size:Int) > 80
      ·rw [if_pos c9] at H
       have c9b0:decide (80 < ((rdOf ByteArray.empty l0_1 x3_1).size:Int))=true:=decide_eq_true c9
       have c9b1:decide (80 < (rdOf ByteArray.empty l0_1 x3_1).size)=true:=decide_eq_true (by omega)
       clear c9
       obtain rfl:=Option.some.inj H
       have hcz10_0:wr.cell? ⟨gb302,0,none⟩=some (.bool a0_0):=(bc_ BK302.out 0).trans rfl
       have hcz10_1:wr.cell? ⟨gb302,1,none⟩=some (.slice A0_1 l0_1.length c0_1):=(bc_ BK302.out 1).trans rfl
       have hfz10_0:=bf_ BK302.out 0
       have hfz10_1:=bf_ BK302.out 1
       have p303:0≤(x3_1:Int):=of_decide_eq_true (by first|(with_reducible assumption)|assumption)
       have q303:x3_1 < (l0_1.length:Int):=of_decide_eq_true (by first|(with_reducible assumption)|assumption)
       obtain ⟨ad303,e303,hx303_0⟩:=Kd.at_string HR0_1.out x3_1 p303 q303
       cases e303
       replace hx303_0:=(HB.out.cell (World.block_lt_of_cell? w _ hx303_0)).trans hx303_0
       replace p303:=eq_true p303
       replace q303:=eq_true q303
       go_wp2
       go_ret
       exact ⟨by first|rfl|(simp [errW_none,errW_some] <;> rfl)|(simp [*,errW_none,errW_some] <;> rfl),by repeat (first|(with_reducible first|exact HB.out|apply bA_|apply bN_|apply bD_|refine bs_ ?_ GE302.out)|exact HB.out)⟩
      ·rw [if_neg c9] at H
       have c9b0:decide (80 < ((rdOf ByteArray.empty l0_1 x3_1).size:Int))=false:=decide_eq_false c9
       have c9b1:decide (80 < (rdOf ByteArray.empty l0_1 x3_1).size)=false:=decide_eq_false (by omega)
       clear c9
       have H':=Az.mk H
       clear H
       have hcz11_0:wr.cell? ⟨gb302,0,none⟩=some (.bool a0_0):=(bc_ BK302.out 0).trans rfl
       have hcz11_1:wr.cell? ⟨gb302,1,none⟩=some (.slice A0_1 l0_1.length c0_1):=(bc_ BK302.out 1).trans rfl
       have hfz11_0:=bf_ BK302.out 0
       have hfz11_1:=bf_ BK302.out 1
       have p303:0≤(x3_1:Int):=of_decide_eq_true (by first|(with_reducible assumption)|assumption)
       have q303:x3_1 < (l0_1.length:Int):=of_decide_eq_true (by first|(with_reducible assumption)|assumption)
       obtain ⟨ad303,e303,hx303_0⟩:=Kd.at_string HR0_1.out x3_1 p303 q303
       cases e303
       replace hx303_0:=(HB.out.cell (World.block_lt_of_cell? w _ hx303_0)).trans hx303_0
       replace p303:=eq_true p303
       replace q303:=eq_true q303
       go_wp2
       go_roundg k1
       case measure=>have:=HK1.out;omega
       case rel=>exact ⟨(wrap64 (x3_1+1)),(by first|rfl|(simp;done)|(simp [*];done)),H',⟨by have:=HK1.out;omega⟩,⟨by (with_reducible repeat (first|refine bq_ ?_ _|refine bw_ ?_|refine bz_ ?_ _));exact BK302.out⟩,⟨by repeat (first|(with_reducible first|exact HB.out|apply bA_|apply bN_|apply bD_|refine bs_ ?_ GE302.out)|exact HB.out)⟩⟩
     ·rw [if_neg c8] at H
      exact absurd H (by simp)
    ·rw [if_neg c7] at H
     have c7b0:decide (x3_1 < (l0_1.length:Int))=false:=decide_eq_false c7
     clear c7
     obtain rfl:=Option.some.inj H
     have hcz12_0:wr.cell? ⟨gb302,0,none⟩=some (.bool a0_0):=(bc_ BK302.out 0).trans rfl
     have hcz12_1:wr.cell? ⟨gb302,1,none⟩=some (.slice A0_1 l0_1.length c0_1):=(bc_ BK302.out 1).trans rfl
     have hfz12_0:=bf_ BK302.out 0
     have hfz12_1:=bf_ BK302.out 1
     go_wp2
     go_ret
     exact ⟨by first|rfl|(simp [errW_none,errW_some] <;> rfl)|(simp [*,errW_none,errW_some] <;> rfl),by repeat (first|(with_reducible first|exact HB.out|apply bA_|apply bN_|apply bD_|refine bs_ ?_ GE302.out)|exact HB.out)⟩
end Go.Proofs.Ytoihiehoolehiaa.PX
namespace Go.Proofs.Ytoihiehoolehiaa.PX
open Go.RowKit Go.Proofs.YtoihiehoolehiaaW.PrintWords Go.Proofs.YtoihiehoolehiaaW.PrintLast Go.Proofs.YtoihiehoolehiaaW.PrintMore
attribute [local go_sem] max2_int min2_int max_two min_two max_three min_three max_four min_four   
set_option linter.unusedVariables false
set_option linter.unusedSimpArgs false
attribute [local go_sem] run_field_87_0
def cadenceref4_field.j0:Nat→Bool→Bool→List ByteArray→Int→Bool→Option (Int)
 | 0,_,_,_,_,_=>none
 | k+1,x13,x305000,x305001,x305002,x305003=>if x13=true then (some 1) else (if x305003=true then (if x305000=true then (some 3) else (some 0)) else (some 0))
def cadenceref4_field.f (k:Nat) (a0_0:Bool) (l0_1:List ByteArray) (a0_2:Int) (a0_3:Bool) (a1:Int):Option (Int):=(cadenceref4_Wide.f k a0_0 l0_1).bind fun t305=>(if t305=0 then (if a0_2 < 0 then (cadenceref4_field.j0 k true a0_0 l0_1 a0_2 a0_3) else (cadenceref4_field.j0 k (decide (a0_2 ≥ a1)) a0_0 l0_1 a0_2 a0_3)) else (some t305))
theorem cadenceref4_field.mono_l:∀ k,(∀ y0 y1 y2 y3 y4,LeO (cadenceref4_field.j0 k y0 y1 y2 y3 y4) (cadenceref4_field.j0 (k+1) y0 y1 y2 y3 y4))
 | 0=>fun _ _ _ _ _ r h=>by simp [cadenceref4_field.j0] at h
 | k+1=>by
  have ih0:=cadenceref4_field.mono_l k
  ·intro y0 y1 y2 y3 y4
   unfold cadenceref4_field.j0
   repeat' first
   | (with_reducible exact ih0 _ _ _ _ _)
   | (with_reducible exact cadenceref4_Wide.mono _ _ _)
   | (with_reducible exact LeO.refl _)
   | (with_reducible exact LeO.none _)
   | (with_reducible refine LeO.ite ?_ ?_)
   | (with_reducible refine LeO.bind ?_ (fun _=>?_))
   | exact ih0 _ _ _ _ _
   | exact cadenceref4_Wide.mono _ _ _
   | exact LeO.none _
   | refine LeO.ite ?_ ?_
   | refine LeO.bind ?_ (fun _=>?_)
theorem cadenceref4_field.mono:∀ a0 a1 a2 a3 a4 k,LeO (cadenceref4_field.f k a0 a1 a2 a3 a4) (cadenceref4_field.f (k+1) a0 a1 a2 a3 a4):=by
 intro a0 a1 a2 a3 a4 k
 have ih0:=cadenceref4_field.mono_l k
 unfold cadenceref4_field.f
 repeat' first
   | (with_reducible exact ih0 _ _ _ _ _)
   | (with_reducible exact cadenceref4_Wide.mono _ _ _)
   | (with_reducible exact LeO.refl _)
   | (with_reducible exact LeO.none _)
   | (with_reducible refine LeO.ite ?_ ?_)
   | (with_reducible refine LeO.bind ?_ (fun _=>?_))
   | exact ih0 _ _ _ _ _
   | exact cadenceref4_Wide.mono _ _ _
   | exact LeO.none _
   | refine LeO.ite ?_ ?_
   | refine LeO.bind ?_ (fun _=>?_)
set_option maxHeartbeats 8000000 in
set_option maxRecDepth 100000 in
theorem cadenceref4_field.calls (k:Nat) (a0_0:Bool) (A0_1:Option Addr) (c0_1:Nat) (l0_1:List ByteArray) (a0_2:Int) (a0_3:Bool) (a1:Int) (r:Int) (w:World) (hr0_1:Kd.C Kd.string w A0_1 l0_1.length l0_1) (hc0_1:l0_1.length≤c0_1) (h:cadenceref4_field.f k a0_0 l0_1 a0_2 a0_3 a1=some r) :
  Calls Try.prog 28 #[.agg #[.bool a0_0,.slice A0_1 l0_1.length c0_1,.int .i64 a0_2,.bool a0_3],.int .i64 a1] w fun e w'=>e=.returned (.int .i64 r)∧Below w.heap.size w w':=by
 have hu40:=Try.underlying40
 have hu38:=Try.underlying38
 have HR0_1:=Az.mk hr0_1
 have HC0_1:=Az.mk hc0_1
 clear hr0_1 hc0_1
 have HB:=Az.mk (Below.refl w.heap.size w)
 have H:((cadenceref4_Wide.f k a0_0 l0_1).bind fun t305=>(if t305=0 then (if a0_2 < 0 then (cadenceref4_field.j0 k true a0_0 l0_1 a0_2 a0_3) else (cadenceref4_field.j0 k (decide (a0_2 ≥ a1)) a0_0 l0_1 a0_2 a0_3)) else (some t305)))=some r:=h
 clear h
 replace H:=Option.bind_eq_some_iff.mp H
 obtain ⟨t305,A30,H⟩:=H
 replace H:(if t305=0 then (if a0_2 < 0 then (cadenceref4_field.j0 k true a0_0 l0_1 a0_2 a0_3) else (cadenceref4_field.j0 k (decide (a0_2 ≥ a1)) a0_0 l0_1 a0_2 a0_3)) else (some t305))=some r:=H
 have A3:=Az.mk A30
 clear A30
 by_cases c4:t305=0
 ·rw [if_pos c4] at H
  have c4b0:(t305 == 0)=true:=beq_iff_eq.mpr c4
  have c4b1:(t305 != 0)=false:=bne_eq_false_iff_eq.mpr c4
  clear c4
  have HC5:=Az.mk H
  clear H
  go_enter Try.func28,Try.ntmps28
  go_upto_region 4 with (first|((with_reducible refine gate_dst (N:=2) rfl ?_);refine box_event ?hg (N:=2) ?hd (cs:=#[.bool a0_0,.slice A0_1 l0_1.length c0_1,.int .i64 a0_2,.bool a0_3]) (t:=40) ?hr ?_;(case hd=>rfl);(case hg=>rfl);(case hr=>first|(go_simp;done)|(go_simp;rfl));intro gb304 hg w6 hbox hb;have n0_:=Az.mk (below_step (by repeat (first|(with_reducible first|exact HB.out|apply bA_|apply bN_|apply bD_)|exact HB.out)) hb);have n1_:=Az.mk (hbox);have n2_:=Az.mk ((by rw [hg];exact (be_ (by repeat (first|(with_reducible first|exact HB.out|apply bA_|apply bN_|apply bD_)|exact HB.out))):w.heap.size≤gb304));have n3_:=Az.mk ((by rw [hg];exact (be_ (by repeat (first|(with_reducible first|exact HB.out|apply bA_|apply bN_|apply bD_)|exact HB.out))):w.heap.size≤gb304));clear HB;have HB:=n0_;have BK304:=n1_;have GW304:=n2_;have GE304:=n3_;clear n0_ n1_ n2_ n3_;clear hb hbox hg;have hcz7_0:w6.cell? ⟨gb304,0,none⟩=some (.bool a0_0):=(bc_ BK304.out 0).trans rfl;have hcz7_1:w6.cell? ⟨gb304,1,none⟩=some (.slice A0_1 l0_1.length c0_1):=(bc_ BK304.out 1).trans rfl;have hcz7_2:w6.cell? ⟨gb304,2,none⟩=some (.int .i64 a0_2):=(bc_ BK304.out 2).trans rfl;have hcz7_3:w6.cell? ⟨gb304,3,none⟩=some (.bool a0_3):=(bc_ BK304.out 3).trans rfl;have hfz7_0:=bf_ BK304.out 0;have hfz7_1:=bf_ BK304.out 1;have hfz7_2:=bf_ BK304.out 2;have hfz7_3:=bf_ BK304.out 3)|((with_reducible refine gate_callee (f:=51) rfl ?_);refine goesL_ (some 8) rfl rfl Try.func51 (by kernel_rfl) rfl #[.agg #[.bool a0_0,.slice A0_1 l0_1.length c0_1]] rfl (by (try simp only [List.map_toArray,List.map_cons,List.map_nil]);first|done|rfl|(simp only [List.length_drop,List.length_take];rfl)) ?_;(with_reducible refine (cadenceref4_Wide.calls k a0_0 _ _ l0_1 t305 _ ?side1 ?side2 A3.out).mono ?_);(case side1=>repeat (first|exact (Kd.C_below HR0_1.out HB.out)|(with_reducible refine cA_ ?_ _)|(with_reducible refine cN_ ?_ _)|(with_reducible refine cD_ ?_)));(case side2=>exact HC0_1.out);rintro e w8 ⟨rfl,hb⟩;refine ⟨_,rfl,?_⟩;have n0_:=Az.mk (bb_ (g:=gb304) (o:=.cells #[.bool a0_0,.slice A0_1 l0_1.length c0_1,.int .i64 a0_2,.bool a0_3] 40 (0,0)) (by (with_reducible repeat (first|refine bq_ ?_ _|refine bw_ ?_|refine bz_ ?_ _));exact BK304.out) hb);have n1_:=Az.mk (below_step (by repeat (first|(with_reducible first|exact HB.out|apply bA_|apply bN_|apply bD_|refine bs_ ?_ GE304.out)|exact HB.out)) hb);clear BK304;clear HB;have BK304:=n0_;have HB:=n1_;clear n0_ n1_;(try clear hb);(try clear hb2);(try clear hk);(try clear hi)))
  (try simp only [Act.put,sA_,sB_,sC_])
  go_cut [13] (fun v13 wc=>∃ (kq:Nat) (x13_4:Bool),v13=.bool x13_4∧Az (cadenceref4_field.j0 kq x13_4 a0_0 l0_1 a0_2 a0_3=some r)∧Az (kq≤k)∧Az (wc.heap[gb304]? = some (.cells #[.bool a0_0,(.slice A0_1 l0_1.length c0_1),.int .i64 a0_2,.bool a0_3] 40 (0,0)))∧Az (Below w.heap.size w wc))
  case first =>
   have H:=HC5.out
   clear HC5
   by_cases c9:a0_2 < 0
   ·rw [if_pos c9] at H
    have c9b0:decide (a0_2 < 0)=true:=decide_eq_true c9
    clear c9
    (first|rw [c9b0]|(simp only [i64_w,i32_w];rw [c9b0])|skip)
    have H':=Az.mk H
    clear H
    have hcz10_0:w8.cell? ⟨gb304,0,none⟩=some (.bool a0_0):=(bc_ BK304.out 0).trans rfl
    have hcz10_1:w8.cell? ⟨gb304,1,none⟩=some (.slice A0_1 l0_1.length c0_1):=(bc_ BK304.out 1).trans rfl
    have hcz10_2:w8.cell? ⟨gb304,2,none⟩=some (.int .i64 a0_2):=(bc_ BK304.out 2).trans rfl
    have hcz10_3:w8.cell? ⟨gb304,3,none⟩=some (.bool a0_3):=(bc_ BK304.out 3).trans rfl
    have hfz10_0:=bf_ BK304.out 0
    have hfz10_1:=bf_ BK304.out 1
    have hfz10_2:=bf_ BK304.out 2
    have hfz10_3:=bf_ BK304.out 3
    go_wp2
    go_meet
    case rel=>exact ⟨_,(true),(by first|rfl|(simp;done)|(simp [*];done)),H',⟨by first|omega|exact Nat.le_refl _⟩,⟨by (with_reducible repeat (first|refine bq_ ?_ _|refine bw_ ?_|refine bz_ ?_ _));exact BK304.out⟩,⟨by repeat (first|(with_reducible first|exact HB.out|apply bA_|apply bN_|apply bD_|refine bs_ ?_ GE304.out)|exact HB.out)⟩⟩
   ·rw [if_neg c9] at H
    have c9b0:decide (a0_2 < 0)=false:=decide_eq_false c9
    clear c9
    (first|rw [c9b0]|(simp only [i64_w,i32_w];rw [c9b0])|skip)
    have H':=Az.mk H
    clear H
    have hcz11_0:w8.cell? ⟨gb304,0,none⟩=some (.bool a0_0):=(bc_ BK304.out 0).trans rfl
    have hcz11_1:w8.cell? ⟨gb304,1,none⟩=some (.slice A0_1 l0_1.length c0_1):=(bc_ BK304.out 1).trans rfl
    have hcz11_2:w8.cell? ⟨gb304,2,none⟩=some (.int .i64 a0_2):=(bc_ BK304.out 2).trans rfl
    have hcz11_3:w8.cell? ⟨gb304,3,none⟩=some (.bool a0_3):=(bc_ BK304.out 3).trans rfl
    have hfz11_0:=bf_ BK304.out 0
    have hfz11_1:=bf_ BK304.out 1
    have hfz11_2:=bf_ BK304.out 2
    have hfz11_3:=bf_ BK304.out 3
    go_wp2
    go_meet
    case rel=>exact ⟨_,(decide (a0_2 ≥ a1)),(by first|rfl|(simp;done)|(simp [*];done)),H',⟨by first|omega|exact Nat.le_refl _⟩,⟨by (with_reducible repeat (first|refine bq_ ?_ _|refine bw_ ?_|refine bz_ ?_ _));exact BK304.out⟩,⟨by repeat (first|(with_reducible first|exact HB.out|apply bA_|apply bN_|apply bD_|refine bs_ ?_ GE304.out)|exact HB.out)⟩⟩
  case rest =>
   clear HC5
   try clear c2
   try clear p2
   try clear c4
   try clear c4b0
   try clear c4b1
   try clear c5
   try clear c9
   try clear c9b0
   try clear hcz10_0
   try clear hcz10_1
   try clear hcz10_2
   try clear hcz10_3
   try clear hcz11_0
   try clear hcz11_1
   try clear hcz11_2
   try clear hcz11_3
   try clear hcz7_0
   try clear hcz7_1
   try clear hcz7_2
   try clear hcz7_3
   try clear hfz10_0
   try clear hfz10_1
   try clear hfz10_2
   try clear hfz10_3
   try clear hfz11_0
   try clear hfz11_1
   try clear hfz11_2
   try clear hfz11_3
   try clear hfz7_0
   try clear hfz7_1
   try clear hfz7_2
   try clear hfz7_3
   obtain ⟨kq,x13_4,rfl,HA,HJ4,BK304,HB⟩:=hcut
   cases kq with
   | zero=>exact absurd HA.out (by simp [cadenceref4_field.j0])
   | succ kj4 =>
    have H:=HA.out
    clear HA
    simp only [cadenceref4_field.j0] at H
    by_cases c12:x13_4=true
    ·subst c12
     have H1:(some 1)=some r:=by rw [if_pos rfl] at H;exact H
     clear H
     have H:=H1
     clear H1
     obtain rfl:=Option.some.inj H
     go_wp2
     go_ret
     exact ⟨by first|rfl|(simp [errW_none,errW_some] <;> rfl)|(simp [*,errW_none,errW_some] <;> rfl),by repeat (first|(with_reducible first|exact HB.out|apply bA_|apply bN_|apply bD_|refine bs_ ?_ GE304.out)|exact HB.out)⟩
    ·replace c12:=Bool.eq_false_iff.mpr c12
     subst c12
     have H1:(if a0_3=true then (if a0_0=true then (some 3) else (some 0)) else (some 0))=some r:=by rw [if_neg (show ¬ (false=true) by decide)] at H;exact H
     clear H
     have H:=H1
     clear H1
     by_cases c13:a0_3=true
     ·subst c13
      have H1:(if a0_0=true then (some 3) else (some 0))=some r:=by rw [if_pos rfl] at H;exact H
      clear H
      have H:=H1
      clear H1
      by_cases c14:a0_0=true
      ·subst c14
       have H1:(some 3)=some r:=by rw [if_pos rfl] at H;exact H
       clear H
       have H:=H1
       clear H1
       obtain rfl:=Option.some.inj H
       have hcz15_0:wc.cell? ⟨gb304,0,none⟩=some (.bool true):=(bc_ BK304.out 0).trans rfl
       have hcz15_1:wc.cell? ⟨gb304,1,none⟩=some (.slice A0_1 l0_1.length c0_1):=(bc_ BK304.out 1).trans rfl
       have hcz15_2:wc.cell? ⟨gb304,2,none⟩=some (.int .i64 a0_2):=(bc_ BK304.out 2).trans rfl
       have hcz15_3:wc.cell? ⟨gb304,3,none⟩=some (.bool true):=(bc_ BK304.out 3).trans rfl
       have hfz15_0:=bf_ BK304.out 0
       have hfz15_1:=bf_ BK304.out 1
       have hfz15_2:=bf_ BK304.out 2
       have hfz15_3:=bf_ BK304.out 3
       go_wp2
       go_ret
       exact ⟨by first|rfl|(simp [errW_none,errW_some] <;> rfl)|(simp [*,errW_none,errW_some] <;> rfl),by repeat (first|(with_reducible first|exact HB.out|apply bA_|apply bN_|apply bD_|refine bs_ ?_ GE304.out)|exact HB.out)⟩
      ·replace c14:=Bool.eq_false_iff.mpr c14
       subst c14
       have H1:(some 0)=some r:=by rw [if_neg (show ¬ (false=true) by decide)] at H;exact H
       clear H
       have H:=H1
       clear H1
       obtain rfl:=Option.some.inj H
       have hcz16_0:wc.cell? ⟨gb304,0,none⟩=some (.bool false):=(bc_ BK304.out 0).trans rfl
       have hcz16_1:wc.cell? ⟨gb304,1,none⟩=some (.slice A0_1 l0_1.length c0_1):=(bc_ BK304.out 1).trans rfl
       have hcz16_2:wc.cell? ⟨gb304,2,none⟩=some (.int .i64 a0_2):=(bc_ BK304.out 2).trans rfl
       have hcz16_3:wc.cell? ⟨gb304,3,none⟩=some (.bool true):=(bc_ BK304.out 3).trans rfl
       have hfz16_0:=bf_ BK304.out 0
       have hfz16_1:=bf_ BK304.out 1
       have hfz16_2:=bf_ BK304.out 2
       have hfz16_3:=bf_ BK304.out 3
       go_wp2
       go_ret
       exact ⟨by first|rfl|(simp [errW_none,errW_some] <;> rfl)|(simp [*,errW_none,errW_some] <;> rfl),by repeat (first|(with_reducible first|exact HB.out|apply bA_|apply bN_|apply bD_|refine bs_ ?_ GE304.out)|exact HB.out)⟩
     ·replace c13:=Bool.eq_false_iff.mpr c13
      subst c13
      have H1:(some 0)=some r:=by rw [if_neg (show ¬ (false=true) by decide)] at H;exact H
      clear H
      have H:=H1
      clear H1
      obtain rfl:=Option.some.inj H
      have hcz17_0:wc.cell? ⟨gb304,0,none⟩=some (.bool a0_0):=(bc_ BK304.out 0).trans rfl
      have hcz17_1:wc.cell? ⟨gb304,1,none⟩=some (.slice A0_1 l0_1.length c0_1):=(bc_ BK304.out 1).trans rfl
      have hcz17_2:wc.cell? ⟨gb304,2,none⟩=some (.int .i64 a0_2):=(bc_ BK304.out 2).trans rfl
      have hcz17_3:wc.cell? ⟨gb304,3,none⟩=some (.bool false):=(bc_ BK304.out 3).trans rfl
      have hfz17_0:=bf_ BK304.out 0
      have hfz17_1:=bf_ BK304.out 1
      have hfz17_2:=bf_ BK304.out 2
      have hfz17_3:=bf_ BK304.out 3
      go_wp2
      go_ret
      exact ⟨by first|rfl|(simp [errW_none,errW_some] <;> rfl)|(simp [*,errW_none,errW_some] <;> rfl),by repeat (first|(with_reducible first|exact HB.out|apply bA_|apply bN_|apply bD_|refine bs_ ?_ GE304.out)|exact HB.out)⟩
 ·rw [if_neg c4] at H
  have c4b0:(t305 == 0)=false:=beq_eq_false_iff_ne.mpr c4
  have c4b1:(t305 != 0)=true:=bne_iff_ne.mpr c4
  obtain rfl:=Option.some.inj H
  go_enter Try.func28,Try.ntmps28
  go_wp2_with (first|((with_reducible refine gate_dst (N:=2) rfl ?_);refine box_event ?hg (N:=2) ?hd (cs:=#[.bool a0_0,.slice A0_1 l0_1.length c0_1,.int .i64 a0_2,.bool a0_3]) (t:=40) ?hr ?_;(case hd=>rfl);(case hg=>rfl);(case hr=>first|(go_simp;done)|(go_simp;rfl));intro gb304 hg w18 hbox hb;have n0_:=Az.mk (below_step (by repeat (first|(with_reducible first|exact HB.out|apply bA_|apply bN_|apply bD_)|exact HB.out)) hb);have n1_:=Az.mk (hbox);have n2_:=Az.mk ((by rw [hg];exact (be_ (by repeat (first|(with_reducible first|exact HB.out|apply bA_|apply bN_|apply bD_)|exact HB.out))):w.heap.size≤gb304));have n3_:=Az.mk ((by rw [hg];exact (be_ (by repeat (first|(with_reducible first|exact HB.out|apply bA_|apply bN_|apply bD_)|exact HB.out))):w.heap.size≤gb304));clear HB;have HB:=n0_;have BK304:=n1_;have GW304:=n2_;have GE304:=n3_;clear n0_ n1_ n2_ n3_;clear hb hbox hg;have hcz19_0:w18.cell? ⟨gb304,0,none⟩=some (.bool a0_0):=(bc_ BK304.out 0).trans rfl;have hcz19_1:w18.cell? ⟨gb304,1,none⟩=some (.slice A0_1 l0_1.length c0_1):=(bc_ BK304.out 1).trans rfl;have hcz19_2:w18.cell? ⟨gb304,2,none⟩=some (.int .i64 a0_2):=(bc_ BK304.out 2).trans rfl;have hcz19_3:w18.cell? ⟨gb304,3,none⟩=some (.bool a0_3):=(bc_ BK304.out 3).trans rfl;have hfz19_0:=bf_ BK304.out 0;have hfz19_1:=bf_ BK304.out 1;have hfz19_2:=bf_ BK304.out 2;have hfz19_3:=bf_ BK304.out 3)|((with_reducible refine gate_callee (f:=51) rfl ?_);refine goesL_ (some 8) rfl rfl Try.func51 (by kernel_rfl) rfl #[.agg #[.bool a0_0,.slice A0_1 l0_1.length c0_1]] rfl (by (try simp only [List.map_toArray,List.map_cons,List.map_nil]);first|done|rfl|(simp only [List.length_drop,List.length_take];rfl)) ?_;(with_reducible refine (cadenceref4_Wide.calls k a0_0 _ _ l0_1 t305 _ ?side1 ?side2 A3.out).mono ?_);(case side1=>repeat (first|exact (Kd.C_below HR0_1.out HB.out)|(with_reducible refine cA_ ?_ _)|(with_reducible refine cN_ ?_ _)|(with_reducible refine cD_ ?_)));(case side2=>exact HC0_1.out);rintro e w20 ⟨rfl,hb⟩;refine ⟨_,rfl,?_⟩;have n0_:=Az.mk (bb_ (g:=gb304) (o:=.cells #[.bool a0_0,.slice A0_1 l0_1.length c0_1,.int .i64 a0_2,.bool a0_3] 40 (0,0)) (by (with_reducible repeat (first|refine bq_ ?_ _|refine bw_ ?_|refine bz_ ?_ _));exact BK304.out) hb);have n1_:=Az.mk (below_step (by repeat (first|(with_reducible first|exact HB.out|apply bA_|apply bN_|apply bD_|refine bs_ ?_ GE304.out)|exact HB.out)) hb);clear BK304;clear HB;have BK304:=n0_;have HB:=n1_;clear n0_ n1_;(try clear hb);(try clear hb2);(try clear hk);(try clear hi)))
  go_ret
  exact ⟨by first|rfl|(simp [errW_none,errW_some] <;> rfl)|(simp [*,errW_none,errW_some] <;> rfl),by repeat (first|(with_reducible first|exact HB.out|apply bA_|apply bN_|apply bD_|refine bs_ ?_ GE304.out)|exact HB.out)⟩
end Go.Proofs.Ytoihiehoolehiaa.PX
namespace Go.Proofs.Ytoihiehoolehiaa.PX
open Go.RowKit Go.Proofs.YtoihiehoolehiaaW.PrintWords Go.Proofs.YtoihiehoolehiaaW.PrintLast Go.Proofs.YtoihiehoolehiaaW.PrintMore
attribute [local go_sem] max2_int min2_int max_two min_two max_three min_three max_four min_four   
set_option linter.unusedVariables false
set_option linter.unusedSimpArgs false
attribute [local go_sem] run_field_87_0
def cadenceref3_None.f (a0_0:Bool) (l0_1:List ByteArray):Option (Bool):=if a0_0=true then (some false) else (some ((l0_1.length:Int) == 0))
set_option maxHeartbeats 8000000 in
set_option maxRecDepth 100000 in
theorem cadenceref3_None.calls (a0_0:Bool) (A0_1:Option Addr) (c0_1:Nat) (l0_1:List ByteArray) (r:Bool) (w:World) (hr0_1:Kd.C Kd.string w A0_1 l0_1.length l0_1) (hc0_1:l0_1.length≤c0_1) (h:cadenceref3_None.f a0_0 l0_1=some r) :
  Calls Try.prog 29 #[.agg #[.bool a0_0,.slice A0_1 l0_1.length c0_1]] w fun e w'=>e=.returned (.bool r)∧Below w.heap.size w w':=by
 have hu38:=Try.underlying38
 have HR0_1:=Az.mk hr0_1
 have HC0_1:=Az.mk hc0_1
 clear hr0_1 hc0_1
 have HB:=Az.mk (Below.refl w.heap.size w)
 have H:(if a0_0=true then (some false) else (some ((l0_1.length:Int) == 0)))=some r:=h
 clear h
 by_cases c2:a0_0=true
 ·subst c2
  have H1:(some false)=some r:=by rw [if_pos rfl] at H;exact H
  clear H
  have H:=H1
  clear H1
  obtain rfl:=Option.some.inj H
  go_enter Try.func29,Try.ntmps29
  go_wp2_with (first|((with_reducible refine gate_dst (N:=1) rfl ?_);(try (refine gate_guard (by rfl) ?_;dsimp only));refine box_event ?hg (N:=1) ?hd (cs:=#[.bool true,.slice A0_1 l0_1.length c0_1]) (t:=38) ?hr ?_;(case hd=>rfl);(case hg=>rfl);(case hr=>first|(go_simp;done)|(go_simp;rfl));intro gb306 hg w3 hbox hb;have n0_:=Az.mk (below_step (by repeat (first|(with_reducible first|exact HB.out|apply bA_|apply bN_|apply bD_)|exact HB.out)) hb);have n1_:=Az.mk (hbox);have n2_:=Az.mk ((by rw [hg];exact (be_ (by repeat (first|(with_reducible first|exact HB.out|apply bA_|apply bN_|apply bD_)|exact HB.out))):w.heap.size≤gb306));have n3_:=Az.mk ((by rw [hg];exact (be_ (by repeat (first|(with_reducible first|exact HB.out|apply bA_|apply bN_|apply bD_)|exact HB.out))):w.heap.size≤gb306));clear HB;have HB:=n0_;have BK306:=n1_;have GW306:=n2_;have GE306:=n3_;clear n0_ n1_ n2_ n3_;clear hb hbox hg;have hcz4_0:w3.cell? ⟨gb306,0,none⟩=some (.bool true):=(bc_ BK306.out 0).trans rfl;have hcz4_1:w3.cell? ⟨gb306,1,none⟩=some (.slice A0_1 l0_1.length c0_1):=(bc_ BK306.out 1).trans rfl;have hfz4_0:=bf_ BK306.out 0;have hfz4_1:=bf_ BK306.out 1))
  go_ret
  exact ⟨by first|rfl|(simp [errW_none,errW_some] <;> rfl)|(simp [*,errW_none,errW_some] <;> rfl),by repeat (first|(with_reducible first|exact HB.out|apply bA_|apply bN_|apply bD_|refine bs_ ?_ GE306.out)|exact HB.out)⟩
 ·replace c2:=Bool.eq_false_iff.mpr c2
  subst c2
  have H1:(some ((l0_1.length:Int) == 0))=some r:=by rw [if_neg (show ¬ (false=true) by decide)] at H;exact H
  clear H
  have H:=H1
  clear H1
  obtain rfl:=Option.some.inj H
  go_enter Try.func29,Try.ntmps29
  go_wp2_with (first|((with_reducible refine gate_dst (N:=1) rfl ?_);(try (refine gate_guard (by rfl) ?_;dsimp only));refine box_event ?hg (N:=1) ?hd (cs:=#[.bool false,.slice A0_1 l0_1.length c0_1]) (t:=38) ?hr ?_;(case hd=>rfl);(case hg=>rfl);(case hr=>first|(go_simp;done)|(go_simp;rfl));intro gb306 hg w5 hbox hb;have n0_:=Az.mk (below_step (by repeat (first|(with_reducible first|exact HB.out|apply bA_|apply bN_|apply bD_)|exact HB.out)) hb);have n1_:=Az.mk (hbox);have n2_:=Az.mk ((by rw [hg];exact (be_ (by repeat (first|(with_reducible first|exact HB.out|apply bA_|apply bN_|apply bD_)|exact HB.out))):w.heap.size≤gb306));have n3_:=Az.mk ((by rw [hg];exact (be_ (by repeat (first|(with_reducible first|exact HB.out|apply bA_|apply bN_|apply bD_)|exact HB.out))):w.heap.size≤gb306));clear HB;have HB:=n0_;have BK306:=n1_;have GW306:=n2_;have GE306:=n3_;clear n0_ n1_ n2_ n3_;clear hb hbox hg;have hcz6_0:w5.cell? ⟨gb306,0,none⟩=some (.bool false):=(bc_ BK306.out 0).trans rfl;have hcz6_1:w5.cell? ⟨gb306,1,none⟩=some (.slice A0_1 l0_1.length c0_1):=(bc_ BK306.out 1).trans rfl;have hfz6_0:=bf_ BK306.out 0;have hfz6_1:=bf_ BK306.out 1))
  go_ret
  exact ⟨by first|rfl|(simp [errW_none,errW_some] <;> rfl)|(simp [*,errW_none,errW_some] <;> rfl),by repeat (first|(with_reducible first|exact HB.out|apply bA_|apply bN_|apply bD_|refine bs_ ?_ GE306.out)|exact HB.out)⟩
end Go.Proofs.Ytoihiehoolehiaa.PX
namespace Go.Proofs.Ytoihiehoolehiaa.PX
open Go.RowKit Go.Proofs.YtoihiehoolehiaaW.PrintWords Go.Proofs.YtoihiehoolehiaaW.PrintLast Go.Proofs.YtoihiehoolehiaaW.PrintMore
attribute [local go_sem] max2_int min2_int max_two min_two max_three min_three max_four min_four   
set_option linter.unusedVariables false
set_option linter.unusedSimpArgs false
attribute [local go_sem] run_field_87_0
mutual
def cadenceref4_Check.l0:Nat→List (S33)→Int→Option (Int)
 | 0,_,_=>none
 | k+1,x0,x3=>if x3 < (x0.length:Int) then (if 0≤x3 then (if (((rd_T33 x0 x3).f0).length:Int) > 6 then (some 4) else (cadenceref4_Check.l1 k x0 x3 ((rd_T33 x0 x3).f0) 0)) else (none)) else (some 0)
def cadenceref4_Check.l1:Nat→List (S33)→Int→List (S40)→Int→Option (Int)
 | 0,_,_,_,_=>none
 | k+1,x0,x3,x4,x5=>if x5 < (x4.length:Int) then (if 0≤x5 then ((cadenceref4_field.f k ((rd_T40 x4 x5).f0.f0) ((rd_T40 x4 x5).f0.f1) ((rd_T40 x4 x5).f1) ((rd_T40 x4 x5).f2) (x0.length:Int)).bind fun t309=>(cadenceref4_Check.l2 k x0 x3 x4 x5 t309 0)) else (none)) else (cadenceref4_Check.l0 k x0 (wrap64 (x3+1)))
def cadenceref4_Check.l2:Nat→List (S33)→Int→List (S40)→Int→Int→Int→Option (Int)
 | 0,_,_,_,_,_,_=>none
 | k+1,x0,x3,x4,x5,x6,x7=>if x7 < x5 then (cadenceref4_Check.j3 k x0 x3 x4 x5 x6 x7 (x6 == 0)) else (cadenceref4_Check.j3 k x0 x3 x4 x5 x6 x7 false)
def cadenceref4_Check.j3:Nat→List (S33)→Int→List (S40)→Int→Int→Int→Bool→Option (Int)
 | 0,_,_,_,_,_,_,_=>none
 | k+1,x0,x3,x4,x5,x6,x7,x47=>if x47=true then (if 0≤x7 then (if x7 < (x4.length:Int) then (if 0≤x5 then (if x5 < (x4.length:Int) then ((cadenceref3_Both.f k ((rd_T40 x4 x7).f0.f0) ((rd_T40 x4 x7).f0.f1) ((rd_T40 x4 x5).f0.f0) ((rd_T40 x4 x5).f0.f1)).bind fun bt312=>((cadenceref3_None.f bt312.1 bt312.2).bind fun t316=>(if t316=true then (cadenceref4_Check.l2 k x0 x3 x4 x5 x6 (wrap64 (x7+1))) else (cadenceref4_Check.l2 k x0 x3 x4 x5 7 (wrap64 (x7+1)))))) else (none)) else (none)) else (none)) else (none)) else (if x6=0 then (cadenceref4_Check.l1 k x0 x3 x4 (wrap64 (x5+1))) else (some x6))
end
def cadenceref4_Check.f (k:Nat) (l0:List (S33)):Option (Int):=if (l0.length:Int)=0 then (some 2) else (if (l0.length:Int) > 12 then (some 4) else (cadenceref4_Check.l0 k l0 0))
theorem cadenceref4_Check.mono_l:∀ k,(∀ y0 y1,LeO (cadenceref4_Check.l0 k y0 y1) (cadenceref4_Check.l0 (k+1) y0 y1))∧(∀ y0 y1 y2 y3,LeO (cadenceref4_Check.l1 k y0 y1 y2 y3) (cadenceref4_Check.l1 (k+1) y0 y1 y2 y3))∧(∀ y0 y1 y2 y3 y4 y5,LeO (cadenceref4_Check.l2 k y0 y1 y2 y3 y4 y5) (cadenceref4_Check.l2 (k+1) y0 y1 y2 y3 y4 y5))∧(∀ y0 y1 y2 y3 y4 y5 y6,LeO (cadenceref4_Check.j3 k y0 y1 y2 y3 y4 y5 y6) (cadenceref4_Check.j3 (k+1) y0 y1 y2 y3 y4 y5 y6))
 | 0=>⟨fun _ _ r h=>by simp [cadenceref4_Check.l0] at h,fun _ _ _ _ r h=>by simp [cadenceref4_Check.l1] at h,fun _ _ _ _ _ _ r h=>by simp [cadenceref4_Check.l2] at h,fun _ _ _ _ _ _ _ r h=>by simp [cadenceref4_Check.j3] at h⟩
 | k+1=>by
  obtain ⟨ih0,ih1,ih2,ih3⟩:=cadenceref4_Check.mono_l k
  refine ⟨?_,?_,?_,?_⟩
  ·intro y0 y1
   unfold cadenceref4_Check.l0
   repeat' first
   | (with_reducible exact ih0 _ _)
   | (with_reducible exact ih1 _ _ _ _)
   | (with_reducible exact ih2 _ _ _ _ _ _)
   | (with_reducible exact ih3 _ _ _ _ _ _ _)
   | (with_reducible exact cadenceref3_Both.mono _ _ _ _ _)
   | (with_reducible exact cadenceref4_field.mono _ _ _ _ _ _)
   | (with_reducible exact LeO.refl _)
   | (with_reducible exact LeO.none _)
   | (with_reducible refine LeO.ite ?_ ?_)
   | (with_reducible refine LeO.bind ?_ (fun _=>?_))
   | exact ih0 _ _
   | exact ih1 _ _ _ _
   | exact ih2 _ _ _ _ _ _
   | exact ih3 _ _ _ _ _ _ _
   | exact cadenceref3_Both.mono _ _ _ _ _
   | exact cadenceref4_field.mono _ _ _ _ _ _
   | exact LeO.none _
   | refine LeO.ite ?_ ?_
   | refine LeO.bind ?_ (fun _=>?_)
  ·intro y0 y1 y2 y3
   unfold cadenceref4_Check.l1
   repeat' first
   | (with_reducible exact ih0 _ _)
   | (with_reducible exact ih1 _ _ _ _)
   | (with_reducible exact ih2 _ _ _ _ _ _)
   | (with_reducible exact ih3 _ _ _ _ _ _ _)
   | (with_reducible exact cadenceref3_Both.mono _ _ _ _ _)
   | (with_reducible exact cadenceref4_field.mono _ _ _ _ _ _)
   | (with_reducible exact LeO.refl _)
   | (with_reducible exact LeO.none _)
   | (with_reducible refine LeO.ite ?_ ?_)
   | (with_reducible refine LeO.bind ?_ (fun _=>?_))
   | exact ih0 _ _
   | exact ih1 _ _ _ _
   | exact ih2 _ _ _ _ _ _
   | exact ih3 _ _ _ _ _ _ _
   | exact cadenceref3_Both.mono _ _ _ _ _
   | exact cadenceref4_field.mono _ _ _ _ _ _
   | exact LeO.none _
   | refine LeO.ite ?_ ?_
   | refine LeO.bind ?_ (fun _=>?_)
  ·intro y0 y1 y2 y3 y4 y5
   unfold cadenceref4_Check.l2
   repeat' first
   | (with_reducible exact ih0 _ _)
   | (with_reducible exact ih1 _ _ _ _)
   | (with_reducible exact ih2 _ _ _ _ _ _)
   | (with_reducible exact ih3 _ _ _ _ _ _ _)
   | (with_reducible exact cadenceref3_Both.mono _ _ _ _ _)
   | (with_reducible exact cadenceref4_field.mono _ _ _ _ _ _)
   | (with_reducible exact LeO.refl _)
   | (with_reducible exact LeO.none _)
   | (with_reducible refine LeO.ite ?_ ?_)
   | (with_reducible refine LeO.bind ?_ (fun _=>?_))
   | exact ih0 _ _
   | exact ih1 _ _ _ _
   | exact ih2 _ _ _ _ _ _
   | exact ih3 _ _ _ _ _ _ _
   | exact cadenceref3_Both.mono _ _ _ _ _
   | exact cadenceref4_field.mono _ _ _ _ _ _
   | exact LeO.none _
   | refine LeO.ite ?_ ?_
   | refine LeO.bind ?_ (fun _=>?_)
  ·intro y0 y1 y2 y3 y4 y5 y6
   unfold cadenceref4_Check.j3
   repeat' first
   | (with_reducible exact ih0 _ _)
   | (with_reducible exact ih1 _ _ _ _)
   | (with_reducible exact ih2 _ _ _ _ _ _)
   | (with_reducible exact ih3 _ _ _ _ _ _ _)
   | (with_reducible exact cadenceref3_Both.mono _ _ _ _ _)
   | (with_reducible exact cadenceref4_field.mono _ _ _ _ _ _)
   | (with_reducible exact LeO.refl _)
   | (with_reducible exact LeO.none _)
   | (with_reducible refine LeO.ite ?_ ?_)
   | (with_reducible refine LeO.bind ?_ (fun _=>?_))
   | exact ih0 _ _
   | exact ih1 _ _ _ _
   | exact ih2 _ _ _ _ _ _
   | exact ih3 _ _ _ _ _ _ _
   | exact cadenceref3_Both.mono _ _ _ _ _
   | exact cadenceref4_field.mono _ _ _ _ _ _
   | exact LeO.none _
   | refine LeO.ite ?_ ?_
   | refine LeO.bind ?_ (fun _=>?_)
theorem cadenceref4_Check.mono:∀ a0 k,LeO (cadenceref4_Check.f k a0) (cadenceref4_Check.f (k+1) a0):=by
 intro a0 k
 obtain ⟨ih0,ih1,ih2,ih3⟩:=cadenceref4_Check.mono_l k
 unfold cadenceref4_Check.f
 repeat' first
   | (with_reducible exact ih0 _ _)
   | (with_reducible exact ih1 _ _ _ _)
   | (with_reducible exact ih2 _ _ _ _ _ _)
   | (with_reducible exact ih3 _ _ _ _ _ _ _)
   | (with_reducible exact cadenceref3_Both.mono _ _ _ _ _)
   | (with_reducible exact cadenceref4_field.mono _ _ _ _ _ _)
   | (with_reducible exact LeO.refl _)
   | (with_reducible exact LeO.none _)
   | (with_reducible refine LeO.ite ?_ ?_)
   | (with_reducible refine LeO.bind ?_ (fun _=>?_))
   | exact ih0 _ _
   | exact ih1 _ _ _ _
   | exact ih2 _ _ _ _ _ _
   | exact ih3 _ _ _ _ _ _ _
   | exact cadenceref3_Both.mono _ _ _ _ _
   | exact cadenceref4_field.mono _ _ _ _ _ _
   | exact LeO.none _
   | refine LeO.ite ?_ ?_
   | refine LeO.bind ?_ (fun _=>?_)
def cadenceref4_Check.T18:Bool × List (List Nat × List Nat):=(true,[([],[]),([],[]),([0,1],[0,1]),([2],[2]),([3],[3]),([],[]),([],[]),([5,6],[5,6]),([7],[7]),([8],[8]),([4,9],[4,9]),([10,10],[10]),([11],[11])])
def cadenceref4_Check.B18:List Nat:=[0,0,3,7,15,0,0,96,224,480,1023,2047,4095]
theorem cadenceref4_Check.tab18:rtab .any (opsOf Try.f12 18)=cadenceref4_Check.T18:=by kernel_rfl
theorem cadenceref4_Check.bits18:waitsOk cadenceref4_Check.T18.2 cadenceref4_Check.B18=true:=by kernel_rfl
set_option maxHeartbeats 8000000 in
set_option maxRecDepth 100000 in
theorem cadenceref4_Check.calls (k:Nat) (A0:Option Addr) (c0:Nat) (l0:List (S33)) (r:Int) (w:World) (hr0:Kd.C k33 w A0 l0.length l0) (hc0:l0.length≤c0) (h:cadenceref4_Check.f k l0=some r) :
  Calls Try.prog 12 #[.slice A0 l0.length c0] w fun e w'=>e=.returned (.int .i64 r)∧Below w.heap.size w w':=by
 have hu40:=Try.underlying40
 have hu38:=Try.underlying38
 have HR0:=Az.mk hr0
 have HC0:=Az.mk hc0
 clear hr0 hc0
 have HB:=Az.mk (Below.refl w.heap.size w)
 have H:(if (l0.length:Int)=0 then (some 2) else (if (l0.length:Int) > 12 then (some 4) else (cadenceref4_Check.l0 k l0 0)))=some r:=h
 clear h
 by_cases c2:(l0.length:Int)=0
 ·rw [if_pos c2] at H
  have c2b0:((l0.length:Int) == 0)=true:=beq_iff_eq.mpr c2
  have c2b1:((l0.length:Int) != 0)=false:=bne_eq_false_iff_eq.mpr c2
  clear c2
  obtain rfl:=Option.some.inj H
  go_enter Try.func12,Try.ntmps12
  go_wp2
  go_ret
  exact ⟨by first|rfl|(simp [errW_none,errW_some] <;> rfl)|(simp [*,errW_none,errW_some] <;> rfl),by repeat (first|(with_reducible first|exact HB.out|apply bA_|apply bN_|apply bD_)|exact HB.out)⟩
 ·rw [if_neg c2] at H
  have c2b0:((l0.length:Int) == 0)=false:=beq_eq_false_iff_ne.mpr c2
  have c2b1:((l0.length:Int) != 0)=true:=bne_iff_ne.mpr c2
  have c2b2:¬ (l0 = []):=fun h_=>c2 (by rw [h_];rfl)
  by_cases c3:(l0.length:Int) > 12
  ·rw [if_pos c3] at H
   have c3b0:decide (12 < (l0.length:Int))=true:=decide_eq_true c3
   have c3b1:decide (12 < l0.length)=true:=decide_eq_true (by omega)
   clear c3
   obtain rfl:=Option.some.inj H
   go_enter Try.func12,Try.ntmps12
   go_wp2
   go_ret
   exact ⟨by first|rfl|(simp [errW_none,errW_some] <;> rfl)|(simp [*,errW_none,errW_some] <;> rfl),by repeat (first|(with_reducible first|exact HB.out|apply bA_|apply bN_|apply bD_)|exact HB.out)⟩
  ·rw [if_neg c3] at H
   have c3b0:decide (12 < (l0.length:Int))=false:=decide_eq_false c3
   have c3b1:decide (12 < l0.length)=false:=decide_eq_false (by omega)
   clear c3
   have H':=Az.mk H
   clear H
   go_enter Try.func12,Try.ntmps12
   go_wp2
   go_loopg [3] k (fun kq v3 w'=>∃ (x3_1:Int),v3=.int .i64 x3_1∧Az (cadenceref4_Check.l0 kq l0 x3_1=some r)∧Az (kq≤k)∧Az (Below w.heap.size w w'))
   case atStart=>exact ⟨(0),(by first|rfl|(simp;done)|(simp [*];done)),H',⟨Nat.le_refl _⟩,⟨by repeat (first|(with_reducible first|exact HB.out|apply bA_|apply bN_|apply bD_)|exact HB.out)⟩⟩
   case round =>
    clear H'
    try clear c1
    try clear c2
    try clear c2b0
    try clear c2b1
    try clear c2b2
    try clear p2
    try clear c3
    try clear c3b0
    try clear c3b1
    obtain ⟨x3_1,rfl,HA,HK1,HB⟩:=hrel
    cases gk with
    | zero=>exact absurd HA.out (by simp [cadenceref4_Check.l0])
    | succ k1 =>
     have H:=HA.out
     clear HA
     simp only [cadenceref4_Check.l0] at H
     by_cases c4:x3_1 < (l0.length:Int)
     ·rw [if_pos c4] at H
      have c4b0:decide (x3_1 < (l0.length:Int))=true:=decide_eq_true c4
      clear c4
      by_cases c5:0≤x3_1
      ·rw [if_pos c5] at H
       have c5b0:decide (0≤x3_1)=true:=decide_eq_true c5
       clear c5
       by_cases c6:(((rd_T33 l0 x3_1).f0).length:Int) > 6
       ·rw [if_pos c6] at H
        have c6b0:decide (6 < (((rd_T33 l0 x3_1).f0).length:Int))=true:=decide_eq_true c6
        have c6b1:decide (6 < ((rd_T33 l0 x3_1).f0).length)=true:=decide_eq_true (by omega)
        clear c6
        obtain rfl:=Option.some.inj H
        have p307:0≤(x3_1:Int):=of_decide_eq_true (by first|(with_reducible assumption)|assumption)
        have q307:x3_1 < (l0.length:Int):=of_decide_eq_true (by first|(with_reducible assumption)|assumption)
        obtain ⟨ad307,A307_0,c307_0,e307,hx307_0,hx307_1,hx307_2,hl307_0,hi307_0⟩:=at_T33 HR0.out x3_1 p307 q307
        cases e307
        replace hx307_0:=(HB.out.cell (World.block_lt_of_cell? w _ hx307_0)).trans hx307_0
        replace hx307_1:=(HB.out.cell (World.block_lt_of_cell? w _ hx307_1)).trans hx307_1
        replace hx307_2:=(HB.out.cell (World.block_lt_of_cell? w _ hx307_2)).trans hx307_2
        have HR307_0:=Az.mk hi307_0
        have HC307_0:=Az.mk hl307_0
        clear hi307_0 hl307_0
        replace p307:=eq_true p307
        replace q307:=eq_true q307
        go_wp2
        go_ret
        exact ⟨by first|rfl|(simp [errW_none,errW_some] <;> rfl)|(simp [*,errW_none,errW_some] <;> rfl),by repeat (first|(with_reducible first|exact HB.out|apply bA_|apply bN_|apply bD_)|exact HB.out)⟩
       ·rw [if_neg c6] at H
        have c6b0:decide (6 < (((rd_T33 l0 x3_1).f0).length:Int))=false:=decide_eq_false c6
        have c6b1:decide (6 < ((rd_T33 l0 x3_1).f0).length)=false:=decide_eq_false (by omega)
        clear c6
        have H':=Az.mk H
        clear H
        have p307:0≤(x3_1:Int):=of_decide_eq_true (by first|(with_reducible assumption)|assumption)
        have q307:x3_1 < (l0.length:Int):=of_decide_eq_true (by first|(with_reducible assumption)|assumption)
        obtain ⟨ad307,A307_0,c307_0,e307,hx307_0,hx307_1,hx307_2,hl307_0,hi307_0⟩:=at_T33 HR0.out x3_1 p307 q307
        cases e307
        replace hx307_0:=(HB.out.cell (World.block_lt_of_cell? w _ hx307_0)).trans hx307_0
        replace hx307_1:=(HB.out.cell (World.block_lt_of_cell? w _ hx307_1)).trans hx307_1
        replace hx307_2:=(HB.out.cell (World.block_lt_of_cell? w _ hx307_2)).trans hx307_2
        have HR307_0:=Az.mk hi307_0
        have HC307_0:=Az.mk hl307_0
        clear hi307_0 hl307_0
        replace p307:=eq_true p307
        replace q307:=eq_true q307
        go_wp2
        go_loopg [5] k1 (fun kq v5 w'=>∃ (x5_2:Int),v5=.int .i64 x5_2∧Az (cadenceref4_Check.l1 kq l0 x3_1 ((rd_T33 l0 x3_1).f0) x5_2=some r)∧Az (kq≤k1)∧Az (Below w.heap.size w w'))
        case atStart=>exact ⟨(0),(by first|rfl|(simp;done)|(simp [*];done)),H',⟨Nat.le_refl _⟩,⟨by repeat (first|(with_reducible first|exact HB.out|apply bA_|apply bN_|apply bD_)|exact HB.out)⟩⟩
        case round =>
         clear H'
         try clear c1
         try clear c2
         try clear c2b0
         try clear c2b1
         try clear c2b2
         try clear p2
         try clear c3
         try clear c3b0
         try clear c3b1
         try clear p3
         try clear q3
         try clear hx3
         try clear c4
         try clear c4b0
         try clear c5
         try clear c5b0
         try clear c6
         try clear c6b0
         try clear c6b1
         try clear hx307_0
         try clear hx307_1
         try clear hx307_2
         try clear p2
         try clear p307
         try clear q307
         obtain ⟨x5_2,rfl,HA,HK2,HB⟩:=hrel
         cases gk with
         | zero=>exact absurd HA.out (by simp [cadenceref4_Check.l1])
         | succ k2 =>
          have H:=HA.out
          clear HA
          simp only [cadenceref4_Check.l1] at H
          by_cases c7:x5_2 < (((rd_T33 l0 x3_1).f0).length:Int)
          ·rw [if_pos c7] at H
           have c7b0:decide (x5_2 < (((rd_T33 l0 x3_1).f0).length:Int))=true:=decide_eq_true c7
           clear c7
           by_cases c8:0≤x5_2
           ·rw [if_pos c8] at H
            have c8b0:decide (0≤x5_2)=true:=decide_eq_true c8
            clear c8
            replace H:=Option.bind_eq_some_iff.mp H
            obtain ⟨t309,A90,H⟩:=H
            replace H:(cadenceref4_Check.l2 k2 l0 x3_1 ((rd_T33 l0 x3_1).f0) x5_2 t309 0)=some r:=H
            have A9:=Az.mk A90
            clear A90
            have H':=Az.mk H
            clear H
            have p308:0≤(x5_2:Int):=of_decide_eq_true (by first|(with_reducible assumption)|assumption)
            have q308:x5_2 < (((rd_T33 l0 x3_1).f0).length:Int):=of_decide_eq_true (by first|(with_reducible assumption)|assumption)
            obtain ⟨ad308,A308_1,c308_1,e308,hx308_0,hx308_1,hx308_2,hx308_3,hl308_1,hi308_1⟩:=at_T40 HR307_0.out x5_2 p308 q308
            cases e308
            replace hx308_0:=(HB.out.cell (World.block_lt_of_cell? w _ hx308_0)).trans hx308_0
            replace hx308_1:=(HB.out.cell (World.block_lt_of_cell? w _ hx308_1)).trans hx308_1
            replace hx308_2:=(HB.out.cell (World.block_lt_of_cell? w _ hx308_2)).trans hx308_2
            replace hx308_3:=(HB.out.cell (World.block_lt_of_cell? w _ hx308_3)).trans hx308_3
            have HR308_1:=Az.mk hi308_1
            have HC308_1:=Az.mk hl308_1
            clear hi308_1 hl308_1
            replace p308:=eq_true p308
            replace q308:=eq_true q308
            go_wp2_with (first|((with_reducible refine gate_callee (f:=28) rfl ?_);refine goesL_ (some 40) rfl rfl Try.func28 (by kernel_rfl) rfl #[.agg #[.bool ((rd_T40 ((rd_T33 l0 x3_1).f0) x5_2).f0.f0),.slice A308_1 ((rd_T40 ((rd_T33 l0 x3_1).f0) x5_2).f0.f1).length c308_1,.int .i64 ((rd_T40 ((rd_T33 l0 x3_1).f0) x5_2).f1),.bool ((rd_T40 ((rd_T33 l0 x3_1).f0) x5_2).f2)],.int .i64 (l0.length:Int)] rfl (by (try simp only [List.map_toArray,List.map_cons,List.map_nil]);first|done|rfl|(simp only [List.length_drop,List.length_take];rfl)) ?_;(with_reducible refine (cadenceref4_field.calls k2 ((rd_T40 ((rd_T33 l0 x3_1).f0) x5_2).f0.f0) _ _ ((rd_T40 ((rd_T33 l0 x3_1).f0) x5_2).f0.f1) ((rd_T40 ((rd_T33 l0 x3_1).f0) x5_2).f1) ((rd_T40 ((rd_T33 l0 x3_1).f0) x5_2).f2) (l0.length:Int) t309 _ ?side1 ?side2 A9.out).mono ?_);(case side1=>repeat (first|exact (Kd.C_below HR308_1.out HB.out)|(with_reducible refine cA_ ?_ _)|(with_reducible refine cN_ ?_ _)|(with_reducible refine cD_ ?_)));(case side2=>exact HC308_1.out);rintro e w10 ⟨rfl,hb⟩;refine ⟨_,rfl,?_⟩;have n0_:=Az.mk (below_step (by repeat (first|(with_reducible first|exact HB.out|apply bA_|apply bN_|apply bD_)|exact HB.out)) hb);clear HB;have HB:=n0_;clear n0_;(try clear hb);(try clear hb2);(try clear hk);(try clear hi)))
            go_loopg [6,7] k2 (fun kq v6 v7 w'=>∃ (x6_3:Int) (x7_3:Int),v6=.int .i64 x6_3∧v7=.int .i64 x7_3∧Az (cadenceref4_Check.l2 kq l0 x3_1 ((rd_T33 l0 x3_1).f0) x5_2 x6_3 x7_3=some r)∧Az (kq≤k2)∧Az (Below w.heap.size w w'))
            case atStart=>exact ⟨(t309),(0),(by first|rfl|(simp;done)|(simp [*];done)),(by first|rfl|(simp;done)|(simp [*];done)),H',⟨Nat.le_refl _⟩,⟨by repeat (first|(with_reducible first|exact HB.out|apply bA_|apply bN_|apply bD_)|exact HB.out)⟩⟩
            case round =>
             clear H'
             try clear c1
             try clear c2
             try clear c2b0
             try clear c2b1
             try clear c2b2
             try clear p2
             try clear c3
             try clear c3b0
             try clear c3b1
             try clear p3
             try clear q3
             try clear hx3
             try clear c4
             try clear c4b0
             try clear c5
             try clear c5b0
             try clear c6
             try clear c6b0
             try clear c6b1
             try clear c7
             try clear c7b0
             try clear c8
             try clear c8b0
             try clear hx307_0
             try clear hx307_1
             try clear hx307_2
             try clear hx308_0
             try clear hx308_1
             try clear hx308_2
             try clear hx308_3
             try clear p2
             try clear p3
             try clear p307
             try clear p308
             try clear q3
             try clear q307
             try clear q308
             obtain ⟨x6_3,x7_3,rfl,rfl,HA,HK3,HB⟩:=hrel
             cases gk with
             | zero=>exact absurd HA.out (by simp [cadenceref4_Check.l2])
             | succ k3 =>
              have H:=HA.out
              clear HA
              simp only [cadenceref4_Check.l2] at H
              have HC11:=Az.mk H
              clear H
              go_upto_region 16 with (fail)
              go_cut [47] (fun v47 wc=>∃ (kq:Nat) (x47_10:Bool),v47=.bool x47_10∧Az (cadenceref4_Check.j3 kq l0 x3_1 ((rd_T33 l0 x3_1).f0) x5_2 x6_3 x7_3 x47_10=some r)∧Az (kq≤k3)∧Az (Below w.heap.size w wc))
              case first =>
               have H:=HC11.out
               clear HC11
               by_cases c12:x7_3 < x5_2
               ·rw [if_pos c12] at H
                have c12b0:decide (x7_3 < x5_2)=true:=decide_eq_true c12
                clear c12
                (first|rw [c12b0]|(simp only [i64_w,i32_w];rw [c12b0])|skip)
                have H':=Az.mk H
                clear H
                go_wp2
                go_meet
                case rel=>exact ⟨_,((x6_3 == 0)),(by first|rfl|(simp;done)|(simp [*];done)),H',⟨by have:=HK1.out;have:=HK2.out;have:=HK3.out;first|omega|exact Nat.le_refl _⟩,⟨by repeat (first|(with_reducible first|exact HB.out|apply bA_|apply bN_|apply bD_)|exact HB.out)⟩⟩
               ·rw [if_neg c12] at H
                have c12b0:decide (x7_3 < x5_2)=false:=decide_eq_false c12
                clear c12
                (first|rw [c12b0]|(simp only [i64_w,i32_w];rw [c12b0])|skip)
                have H':=Az.mk H
                clear H
                go_wp2
                go_meet
                case rel=>exact ⟨_,(false),(by first|rfl|(simp;done)|(simp [*];done)),H',⟨by have:=HK1.out;have:=HK2.out;have:=HK3.out;first|omega|exact Nat.le_refl _⟩,⟨by repeat (first|(with_reducible first|exact HB.out|apply bA_|apply bN_|apply bD_)|exact HB.out)⟩⟩
              case rest =>
               clear HC11
               try clear c1
               try clear c2
               try clear c2b0
               try clear c2b1
               try clear c2b2
               try clear p2
               try clear c3
               try clear c3b0
               try clear c3b1
               try clear p3
               try clear q3
               try clear hx3
               try clear c4
               try clear c4b0
               try clear c5
               try clear c5b0
               try clear c6
               try clear c6b0
               try clear c6b1
               try clear c7
               try clear c7b0
               try clear c8
               try clear c8b0
               try clear c12
               try clear c12b0
               try clear hx307_0
               try clear hx307_1
               try clear hx307_2
               try clear hx308_0
               try clear hx308_1
               try clear hx308_2
               try clear hx308_3
               try clear p2
               try clear p3
               try clear p307
               try clear p308
               try clear q3
               try clear q307
               try clear q308
               obtain ⟨kq,x47_10,rfl,HA,HJ10,HB⟩:=hcut
               cases kq with
               | zero=>exact absurd HA.out (by simp [cadenceref4_Check.j3])
               | succ kj10 =>
                have H:=HA.out
                clear HA
                simp only [cadenceref4_Check.j3] at H
                by_cases c13:x47_10=true
                ·subst c13
                 have H1:(if 0≤x7_3 then (if x7_3 < (((rd_T33 l0 x3_1).f0).length:Int) then (if 0≤x5_2 then (if x5_2 < (((rd_T33 l0 x3_1).f0).length:Int) then ((cadenceref3_Both.f kj10 ((rd_T40 ((rd_T33 l0 x3_1).f0) x7_3).f0.f0) ((rd_T40 ((rd_T33 l0 x3_1).f0) x7_3).f0.f1) ((rd_T40 ((rd_T33 l0 x3_1).f0) x5_2).f0.f0) ((rd_T40 ((rd_T33 l0 x3_1).f0) x5_2).f0.f1)).bind fun bt312=>((cadenceref3_None.f bt312.1 bt312.2).bind fun t316=>(if t316=true then (cadenceref4_Check.l2 kj10 l0 x3_1 ((rd_T33 l0 x3_1).f0) x5_2 x6_3 (wrap64 (x7_3+1))) else (cadenceref4_Check.l2 kj10 l0 x3_1 ((rd_T33 l0 x3_1).f0) x5_2 7 (wrap64 (x7_3+1)))))) else (none)) else (none)) else (none)) else (none))=some r:=by rw [if_pos rfl] at H;exact H
                 clear H
                 have H:=H1
                 clear H1
                 by_cases c14:0≤x7_3
                 ·rw [if_pos c14] at H
                  have c14b0:decide (0≤x7_3)=true:=decide_eq_true c14
                  clear c14
                  by_cases c15:x7_3 < (((rd_T33 l0 x3_1).f0).length:Int)
                  ·rw [if_pos c15] at H
                   have c15b0:decide (x7_3 < (((rd_T33 l0 x3_1).f0).length:Int))=true:=decide_eq_true c15
                   clear c15
                   by_cases c16:0≤x5_2
                   ·rw [if_pos c16] at H
                    have c16b0:decide (0≤x5_2)=true:=decide_eq_true c16
                    clear c16
                    by_cases c17:x5_2 < (((rd_T33 l0 x3_1).f0).length:Int)
                    ·rw [if_pos c17] at H
                     have c17b0:decide (x5_2 < (((rd_T33 l0 x3_1).f0).length:Int))=true:=decide_eq_true c17
                     clear c17
                     replace H:=Option.bind_eq_some_iff.mp H
                     obtain ⟨⟨t312,t313⟩,A180,H⟩:=H
                     replace H:((cadenceref3_None.f t312 t313).bind fun t316=>(if t316=true then (cadenceref4_Check.l2 kj10 l0 x3_1 ((rd_T33 l0 x3_1).f0) x5_2 x6_3 (wrap64 (x7_3+1))) else (cadenceref4_Check.l2 kj10 l0 x3_1 ((rd_T33 l0 x3_1).f0) x5_2 7 (wrap64 (x7_3+1)))))=some r:=H
                     have A18:=Az.mk A180
                     clear A180
                     replace H:=Option.bind_eq_some_iff.mp H
                     obtain ⟨t316,A190,H⟩:=H
                     replace H:(if t316=true then (cadenceref4_Check.l2 kj10 l0 x3_1 ((rd_T33 l0 x3_1).f0) x5_2 x6_3 (wrap64 (x7_3+1))) else (cadenceref4_Check.l2 kj10 l0 x3_1 ((rd_T33 l0 x3_1).f0) x5_2 7 (wrap64 (x7_3+1))))=some r:=H
                     have A19:=Az.mk A190
                     clear A190
                     by_cases c20:t316=true
                     ·subst c20
                      have H1:(cadenceref4_Check.l2 kj10 l0 x3_1 ((rd_T33 l0 x3_1).f0) x5_2 x6_3 (wrap64 (x7_3+1)))=some r:=by rw [if_pos rfl] at H;exact H
                      clear H
                      have H:=H1
                      clear H1
                      have H':=Az.mk H
                      clear H
                      try go_wp2
                      have n0_:=Az.mk (bD_ HB.out)
                      clear HB
                      have HB:=n0_
                      clear n0_
                      have p310:0≤(x7_3:Int):=of_decide_eq_true (by first|(with_reducible assumption)|assumption)
                      have q310:x7_3 < (((rd_T33 l0 x3_1).f0).length:Int):=of_decide_eq_true (by first|(with_reducible assumption)|assumption)
                      obtain ⟨ad310,A310_1,c310_1,e310,hx310_0,hx310_1,hx310_2,hx310_3,hl310_1,hi310_1⟩:=at_T40 HR307_0.out x7_3 p310 q310
                      have hw310_3:=hx310_3
                      have hw310_2:=hx310_2
                      have hw310_1:=hx310_1
                      have hw310_0:=hx310_0
                      obtain rfl:ad308=ad310:=(by injection e310)
                      replace hx310_0:=(HB.out.cell (World.block_lt_of_cell? w _ hx310_0)).trans hx310_0
                      replace hx310_1:=(HB.out.cell (World.block_lt_of_cell? w _ hx310_1)).trans hx310_1
                      replace hx310_2:=(HB.out.cell (World.block_lt_of_cell? w _ hx310_2)).trans hx310_2
                      replace hx310_3:=(HB.out.cell (World.block_lt_of_cell? w _ hx310_3)).trans hx310_3
                      have HR310_1:=Az.mk hi310_1
                      have HC310_1:=Az.mk hl310_1
                      clear hi310_1 hl310_1
                      replace p310:=eq_true p310
                      replace q310:=eq_true q310
                      have p311:0≤(x5_2:Int):=of_decide_eq_true (by first|(with_reducible assumption)|assumption)
                      have q311:x5_2 < (((rd_T33 l0 x3_1).f0).length:Int):=of_decide_eq_true (by first|(with_reducible assumption)|assumption)
                      obtain ⟨ad311,A311_1,c311_1,e311,hx311_0,hx311_1,hx311_2,hx311_3,hl311_1,hi311_1⟩:=at_T40 HR307_0.out x5_2 p311 q311
                      have hw311_3:=hx311_3
                      have hw311_2:=hx311_2
                      have hw311_1:=hx311_1
                      have hw311_0:=hx311_0
                      obtain rfl:ad308=ad311:=(by injection e311)
                      replace hx311_0:=(HB.out.cell (World.block_lt_of_cell? w _ hx311_0)).trans hx311_0
                      replace hx311_1:=(HB.out.cell (World.block_lt_of_cell? w _ hx311_1)).trans hx311_1
                      replace hx311_2:=(HB.out.cell (World.block_lt_of_cell? w _ hx311_2)).trans hx311_2
                      replace hx311_3:=(HB.out.cell (World.block_lt_of_cell? w _ hx311_3)).trans hx311_3
                      have HR311_1:=Az.mk hi311_1
                      have HC311_1:=Az.mk hl311_1
                      clear hi311_1 hl311_1
                      replace p311:=eq_true p311
                      replace q311:=eq_true q311
                      refine start_ (n:=13) (S:=fun w'=>w'.cell? (ad308.add ((x7_3).toNat * 4))=some (.bool ((rd_T40 ((rd_T33 l0 x3_1).f0) x7_3).f0.f0))∧w'.cell? ⟨(ad308.add ((x7_3).toNat * 4)).block,(ad308.add ((x7_3).toNat * 4)).off+1,none⟩=some (.slice A310_1 ((rd_T40 ((rd_T33 l0 x3_1).f0) x7_3).f0.f1).length c310_1)∧w'.cell? ⟨(ad308.add ((x7_3).toNat * 4)).block,(ad308.add ((x7_3).toNat * 4)).off+2,none⟩=some (.int .i64 ((rd_T40 ((rd_T33 l0 x3_1).f0) x7_3).f1))∧w'.cell? ⟨(ad308.add ((x7_3).toNat * 4)).block,(ad308.add ((x7_3).toNat * 4)).off+3,none⟩=some (.bool ((rd_T40 ((rd_T33 l0 x3_1).f0) x7_3).f2))∧w'.cell? (ad308.add ((x5_2).toNat * 4))=some (.bool ((rd_T40 ((rd_T33 l0 x3_1).f0) x5_2).f0.f0))∧w'.cell? ⟨(ad308.add ((x5_2).toNat * 4)).block,(ad308.add ((x5_2).toNat * 4)).off+1,none⟩=some (.slice A311_1 ((rd_T40 ((rd_T33 l0 x3_1).f0) x5_2).f0.f1).length c311_1)∧w'.cell? ⟨(ad308.add ((x5_2).toNat * 4)).block,(ad308.add ((x5_2).toNat * 4)).off+2,none⟩=some (.int .i64 ((rd_T40 ((rd_T33 l0 x3_1).f0) x5_2).f1))∧w'.cell? ⟨(ad308.add ((x5_2).toNat * 4)).block,(ad308.add ((x5_2).toNat * 4)).off+3,none⟩=some (.bool ((rd_T40 ((rd_T33 l0 x3_1).f0) x5_2).f2))) (ds:=[]) #[false,false,false,false,false,false,false,false,false,false,false,false,false] (by kernel_rfl) rfl rfl ⟨((HB.out.cell (World.block_lt_of_cell? w _ hw310_0)).trans hw310_0),((HB.out.cell (World.block_lt_of_cell? w _ hw310_1)).trans hw310_1),((HB.out.cell (World.block_lt_of_cell? w _ hw310_2)).trans hw310_2),((HB.out.cell (World.block_lt_of_cell? w _ hw310_3)).trans hw310_3),((HB.out.cell (World.block_lt_of_cell? w _ hw311_0)).trans hw311_0),((HB.out.cell (World.block_lt_of_cell? w _ hw311_1)).trans hw311_1),((HB.out.cell (World.block_lt_of_cell? w _ hw311_2)).trans hw311_2),((HB.out.cell (World.block_lt_of_cell? w _ hw311_3)).trans hw311_3)⟩ (fun hHeld=>?_);refine with_tabW cadenceref4_Check.tab18 cadenceref4_Check.bits18 (fun HT_ HW_=>?_)
                      generalize wc.drew=w21 at HB HR310_1 HR311_1 hx310_0 hx310_1 hx310_2 hx310_3 hx311_0 hx311_1 hx311_2 hx311_3 hHeld ⊢
                      refine pure_ (i:=0) (N:=some 50) (v:=?_) (a':=?_) #[true,false,false,false,false,false,false,false,false,false,false,false,false] rfl rfl (any_of HT_.out (by kernel_rfl)) (fun _ _ _ h=>h) (Or.inl ⟨by rfl,?_⟩) ?_ ?_
                      rotate_left
                      ·intro w'
                       go_simp
                       with_reducible rfl
                      rotate_left
                      ·simp only [Act.put,sA_,sB_,sC_,i64_w,i32_w]
                       rfl
                      refine pure_ (i:=1) (N:=some 51) (v:=?_) (a':=?_) #[true,true,false,false,false,false,false,false,false,false,false,false,false] rfl rfl (any_of HT_.out (by kernel_rfl)) (fun _ _ _ h=>h) (Or.inl ⟨by rfl,?_⟩) ?_ ?_
                      rotate_left
                      ·intro w'
                       go_simp
                       with_reducible rfl
                      rotate_left
                      ·simp only [Act.put,sA_,sB_,sC_,i64_w,i32_w]
                       rfl
                      refine pure_ (i:=2) (N:=some 52) (v:=?_) (a':=?_) #[true,true,true,false,false,false,false,false,false,false,false,false,false] rfl rfl (any_of HT_.out (by kernel_rfl)) (fun _ _ _ h=>h) (Or.inl ⟨by rfl,?_⟩) ?_ ?_
                      rotate_left
                      ·intro w'
                       go_simp
                       with_reducible rfl
                      rotate_left
                      ·simp only [Act.put,sA_,sB_,sC_,i64_w,i32_w]
                       rfl
                      refine pure_ (i:=3) (N:=some 53) (v:=?_) (a':=?_) #[true,true,true,true,false,false,false,false,false,false,false,false,false] rfl rfl (any_of HT_.out (by kernel_rfl)) (fun _ _ _ h=>h) (Or.inl ⟨by rfl,?_⟩) ?_ ?_
                      rotate_left
                      ·intro w'
                       go_simp
                       with_reducible rfl
                      rotate_left
                      ·simp only [Act.put,sA_,sB_,sC_,i64_w,i32_w]
                       rfl
                      refine pure_ (i:=5) (N:=some 55) (v:=?_) (a':=?_) #[true,true,true,true,false,true,false,false,false,false,false,false,false] rfl rfl (any_of HT_.out (by kernel_rfl)) (fun _ _ _ h=>h) (Or.inl ⟨by rfl,?_⟩) ?_ ?_
                      rotate_left
                      ·intro w'
                       go_simp
                       with_reducible rfl
                      rotate_left
                      ·simp only [Act.put,sA_,sB_,sC_,i64_w,i32_w]
                       rfl
                      refine pure_ (i:=6) (N:=some 56) (v:=?_) (a':=?_) #[true,true,true,true,false,true,true,false,false,false,false,false,false] rfl rfl (any_of HT_.out (by kernel_rfl)) (fun _ _ _ h=>h) (Or.inl ⟨by rfl,?_⟩) ?_ ?_
                      rotate_left
                      ·intro w'
                       go_simp
                       with_reducible rfl
                      rotate_left
                      ·simp only [Act.put,sA_,sB_,sC_,i64_w,i32_w]
                       rfl
                      refine pure_ (i:=7) (N:=some 57) (v:=?_) (a':=?_) #[true,true,true,true,false,true,true,true,false,false,false,false,false] rfl rfl (any_of HT_.out (by kernel_rfl)) (fun _ _ _ h=>h) (Or.inl ⟨by rfl,?_⟩) ?_ ?_
                      rotate_left
                      ·intro w'
                       go_simp
                       with_reducible rfl
                      rotate_left
                      ·simp only [Act.put,sA_,sB_,sC_,i64_w,i32_w]
                       rfl
                      refine pure_ (i:=8) (N:=some 58) (v:=?_) (a':=?_) #[true,true,true,true,false,true,true,true,true,false,false,false,false] rfl rfl (any_of HT_.out (by kernel_rfl)) (fun _ _ _ h=>h) (Or.inl ⟨by rfl,?_⟩) ?_ ?_
                      rotate_left
                      ·intro w'
                       go_simp
                       with_reducible rfl
                      rotate_left
                      ·simp only [Act.put,sA_,sB_,sC_,i64_w,i32_w]
                       rfl
                      refine take_ (i:=4) (N:=some 54) (v:=?_) (a':=?_) #[true,true,true,true,true,true,true,true,true,false,false,false,false] rfl rfl (take_ofW HT_.out HW_.out (by kernel_rfl)) (fun _ _ _ h=>h) (Or.inl ⟨by rfl,?_⟩) hHeld ?_ ?_
                      rotate_left
                      ·rintro w' ⟨s0,s1,s2,s3,s4,s5,s6,s7⟩
                       go_simp
                       with_reducible rfl
                      rotate_left
                      ·simp only [Act.put,sA_,sB_,sC_,i64_w,i32_w]
                       rfl
                      refine take_ (i:=9) (N:=some 59) (v:=?_) (a':=?_) #[true,true,true,true,true,true,true,true,true,true,false,false,false] rfl rfl (take_ofW HT_.out HW_.out (by kernel_rfl)) (fun _ _ _ h=>h) (Or.inl ⟨by rfl,?_⟩) hHeld ?_ ?_
                      rotate_left
                      ·rintro w' ⟨s0,s1,s2,s3,s4,s5,s6,s7⟩
                       go_simp
                       with_reducible rfl
                      rotate_left
                      ·simp only [Act.put,sA_,sB_,sC_,i64_w,i32_w]
                       rfl
                      refine one_ (i:=10) (N:=some 60) #[true,true,true,true,true,true,true,true,true,true,true,false,false] rfl rfl (one_of HT_.out (by kernel_rfl)) (by decide) (fun K hK=>?_)
                      refine goes_ Try.func24 (by kernel_rfl) rfl #[.agg #[.bool ((rd_T40 ((rd_T33 l0 x3_1).f0) x7_3).f0.f0),.slice A310_1 ((rd_T40 ((rd_T33 l0 x3_1).f0) x7_3).f0.f1).length c310_1],.agg #[.bool ((rd_T40 ((rd_T33 l0 x3_1).f0) x5_2).f0.f0),.slice A311_1 ((rd_T40 ((rd_T33 l0 x3_1).f0) x5_2).f0.f1).length c311_1]] (by rfl) rfl rfl (by (try simp only [List.map_toArray,List.map_cons,List.map_nil]);first|done|rfl|(simp only [List.length_drop,List.length_take];rfl)) ?_
                      with_reducible refine (cadenceref3_Both.calls kj10 ((rd_T40 ((rd_T33 l0 x3_1).f0) x7_3).f0.f0) _ _ ((rd_T40 ((rd_T33 l0 x3_1).f0) x7_3).f0.f1) ((rd_T40 ((rd_T33 l0 x3_1).f0) x5_2).f0.f0) _ _ ((rd_T40 ((rd_T33 l0 x3_1).f0) x5_2).f0.f1) t312 t313 _ ?side1 ?side2 ?side3 ?side4 A18.out).mono ?_
                      (case side1=>repeat (first|exact (Kd.C_below HR310_1.out HB.out)|(with_reducible refine cA_ ?_ _)|(with_reducible refine cN_ ?_ _)|(with_reducible refine cD_ ?_)))
                      (case side2=>exact HC310_1.out)
                      (case side3=>repeat (first|exact (Kd.C_below HR311_1.out HB.out)|(with_reducible refine cA_ ?_ _)|(with_reducible refine cN_ ?_ _)|(with_reducible refine cD_ ?_)))
                      (case side4=>exact HC311_1.out)
                      rintro e w22 ⟨v314,rfl,ho0,hb⟩
                      refine ⟨_,rfl,?_⟩
                      have n0_:=Az.mk (Kd.R_lower ho0 (be_ (by repeat (first|(with_reducible first|exact HB.out|apply bA_|apply bN_|apply bD_)|exact HB.out))))
                      have n1_:=Az.mk (below_step (by repeat (first|(with_reducible first|exact HB.out|apply bA_|apply bN_|apply bD_)|exact HB.out)) hb)
                      clear HB
                      have HO315:=n0_
                      have HB:=n1_
                      clear n0_ n1_
                      (try clear hb)
                      (try clear hb2)
                      (try clear hk)
                      (try clear hi)
                      (try clear ho0)
                      obtain ⟨Ao23,co23,eo23⟩:=Kd.R_slice HO315.out
                      (first|subst eo23|(injection eo23 with f1_ f2_ f3_;have f4_:=f1_.symm;have f5_:=f3_.symm;clear f1_ f2_ f3_;subst f4_;subst f5_))
                      refine hK.out _ _ ⟨((HB.out.cell (World.block_lt_of_cell? w _ hw310_0)).trans hw310_0),((HB.out.cell (World.block_lt_of_cell? w _ hw310_1)).trans hw310_1),((HB.out.cell (World.block_lt_of_cell? w _ hw310_2)).trans hw310_2),((HB.out.cell (World.block_lt_of_cell? w _ hw310_3)).trans hw310_3),((HB.out.cell (World.block_lt_of_cell? w _ hw311_0)).trans hw311_0),((HB.out.cell (World.block_lt_of_cell? w _ hw311_1)).trans hw311_1),((HB.out.cell (World.block_lt_of_cell? w _ hw311_2)).trans hw311_2),((HB.out.cell (World.block_lt_of_cell? w _ hw311_3)).trans hw311_3)⟩ (fun hHeld=>?_)
                      clear hK K
                      refine norm_ (a':=?_) ?_ ?_
                      rotate_left
                      ·show Act.put _ (some 60) _=_
                       simp only [Act.put,sA_,sB_,sC_,i64_w,i32_w]
                       rfl
                      refine one_ (i:=11) (N:=some 61) #[true,true,true,true,true,true,true,true,true,true,true,true,false] rfl rfl (one_of HT_.out (by kernel_rfl)) (by decide) (fun K hK=>?_)
                      refine goes_ Try.func29 (by kernel_rfl) rfl #[.agg #[.bool t312,.slice Ao23 t313.length co23]] (by rfl) rfl rfl (by (try simp only [List.map_toArray,List.map_cons,List.map_nil]);first|done|rfl|(simp only [List.length_drop,List.length_take];rfl)) ?_
                      with_reducible refine (cadenceref3_None.calls t312 _ _ t313 true _ ?side1 ?side2 A19.out).mono ?_
                      (case side1=>repeat (first|exact (Kd.R_reads' HO315.out).2.2|(with_reducible refine cA_ ?_ _)|(with_reducible refine cN_ ?_ _)|(with_reducible refine cD_ ?_)))
                      (case side2=>exact (Kd.R_reads' HO315.out).2.1)
                      rintro e w24 ⟨rfl,hb⟩
                      refine ⟨_,rfl,?_⟩
                      have n0_:=Az.mk (Kd.R_below (by (with_reducible repeat (first|apply rA_|apply rN_|apply rD_));exact HO315.out) hb)
                      have n1_:=Az.mk (below_step (by repeat (first|(with_reducible first|exact HB.out|apply bA_|apply bN_|apply bD_)|exact HB.out)) hb)
                      clear HO315
                      clear HB
                      have HO315:=n0_
                      have HB:=n1_
                      clear n0_ n1_
                      (try clear hb)
                      (try clear hb2)
                      (try clear hk)
                      (try clear hi)
                      refine hK.out _ _ ⟨((HB.out.cell (World.block_lt_of_cell? w _ hw310_0)).trans hw310_0),((HB.out.cell (World.block_lt_of_cell? w _ hw310_1)).trans hw310_1),((HB.out.cell (World.block_lt_of_cell? w _ hw310_2)).trans hw310_2),((HB.out.cell (World.block_lt_of_cell? w _ hw310_3)).trans hw310_3),((HB.out.cell (World.block_lt_of_cell? w _ hw311_0)).trans hw311_0),((HB.out.cell (World.block_lt_of_cell? w _ hw311_1)).trans hw311_1),((HB.out.cell (World.block_lt_of_cell? w _ hw311_2)).trans hw311_2),((HB.out.cell (World.block_lt_of_cell? w _ hw311_3)).trans hw311_3)⟩ (fun hHeld=>?_)
                      clear hK K
                      refine norm_ (a':=?_) ?_ ?_
                      rotate_left
                      ·show Act.put _ (some 61) _=_
                       simp only [Act.put,sA_,sB_,sC_,i64_w,i32_w]
                       rfl
                      refine pure_ (i:=12) (N:=some 62) (v:=?_) (a':=?_) #[true,true,true,true,true,true,true,true,true,true,true,true,true] rfl rfl (any_of HT_.out (by kernel_rfl)) (fun _ _ _ h=>h) (Or.inl ⟨by rfl,?_⟩) ?_ ?_
                      rotate_left
                      ·intro w'
                       go_simp
                       with_reducible rfl
                      rotate_left
                      ·simp only [Act.put,sA_,sB_,sC_,i64_w,i32_w]
                       rfl
                      refine done_ (done_of HT_.out (by kernel_rfl)) ?_
                      try go_wp2
                      go_roundg kj10
                      case measure=>have:=HK1.out;have:=HK2.out;have:=HK3.out;have:=HJ10.out;omega
                      case rel=>exact ⟨(x6_3),(wrap64 (x7_3+1)),(by first|rfl|(simp;done)|(simp [*];done)),(by first|rfl|(simp;done)|(simp [*];done)),H',⟨by have:=HK1.out;have:=HK2.out;have:=HK3.out;have:=HJ10.out;omega⟩,⟨by repeat (first|(with_reducible first|exact HB.out|apply bA_|apply bN_|apply bD_)|exact HB.out)⟩⟩
                     ·replace c20:=Bool.eq_false_iff.mpr c20
                      subst c20
                      have H1:(cadenceref4_Check.l2 kj10 l0 x3_1 ((rd_T33 l0 x3_1).f0) x5_2 7 (wrap64 (x7_3+1)))=some r:=by rw [if_neg (show ¬ (false=true) by decide)] at H;exact H
                      clear H
                      have H:=H1
                      clear H1
                      have H':=Az.mk H
                      clear H
                      try go_wp2
                      have n0_:=Az.mk (bD_ HB.out)
                      clear HB
                      have HB:=n0_
                      clear n0_
                      have p310:0≤(x7_3:Int):=of_decide_eq_true (by first|(with_reducible assumption)|assumption)
                      have q310:x7_3 < (((rd_T33 l0 x3_1).f0).length:Int):=of_decide_eq_true (by first|(with_reducible assumption)|assumption)
                      obtain ⟨ad310,A310_1,c310_1,e310,hx310_0,hx310_1,hx310_2,hx310_3,hl310_1,hi310_1⟩:=at_T40 HR307_0.out x7_3 p310 q310
                      have hw310_3:=hx310_3
                      have hw310_2:=hx310_2
                      have hw310_1:=hx310_1
                      have hw310_0:=hx310_0
                      obtain rfl:ad308=ad310:=(by injection e310)
                      replace hx310_0:=(HB.out.cell (World.block_lt_of_cell? w _ hx310_0)).trans hx310_0
                      replace hx310_1:=(HB.out.cell (World.block_lt_of_cell? w _ hx310_1)).trans hx310_1
                      replace hx310_2:=(HB.out.cell (World.block_lt_of_cell? w _ hx310_2)).trans hx310_2
                      replace hx310_3:=(HB.out.cell (World.block_lt_of_cell? w _ hx310_3)).trans hx310_3
                      have HR310_1:=Az.mk hi310_1
                      have HC310_1:=Az.mk hl310_1
                      clear hi310_1 hl310_1
                      replace p310:=eq_true p310
                      replace q310:=eq_true q310
                      have p311:0≤(x5_2:Int):=of_decide_eq_true (by first|(with_reducible assumption)|assumption)
                      have q311:x5_2 < (((rd_T33 l0 x3_1).f0).length:Int):=of_decide_eq_true (by first|(with_reducible assumption)|assumption)
                      obtain ⟨ad311,A311_1,c311_1,e311,hx311_0,hx311_1,hx311_2,hx311_3,hl311_1,hi311_1⟩:=at_T40 HR307_0.out x5_2 p311 q311
                      have hw311_3:=hx311_3
                      have hw311_2:=hx311_2
                      have hw311_1:=hx311_1
                      have hw311_0:=hx311_0
                      obtain rfl:ad308=ad311:=(by injection e311)
                      replace hx311_0:=(HB.out.cell (World.block_lt_of_cell? w _ hx311_0)).trans hx311_0
                      replace hx311_1:=(HB.out.cell (World.block_lt_of_cell? w _ hx311_1)).trans hx311_1
                      replace hx311_2:=(HB.out.cell (World.block_lt_of_cell? w _ hx311_2)).trans hx311_2
                      replace hx311_3:=(HB.out.cell (World.block_lt_of_cell? w _ hx311_3)).trans hx311_3
                      have HR311_1:=Az.mk hi311_1
                      have HC311_1:=Az.mk hl311_1
                      clear hi311_1 hl311_1
                      replace p311:=eq_true p311
                      replace q311:=eq_true q311
                      refine start_ (n:=13) (S:=fun w'=>w'.cell? (ad308.add ((x7_3).toNat * 4))=some (.bool ((rd_T40 ((rd_T33 l0 x3_1).f0) x7_3).f0.f0))∧w'.cell? ⟨(ad308.add ((x7_3).toNat * 4)).block,(ad308.add ((x7_3).toNat * 4)).off+1,none⟩=some (.slice A310_1 ((rd_T40 ((rd_T33 l0 x3_1).f0) x7_3).f0.f1).length c310_1)∧w'.cell? ⟨(ad308.add ((x7_3).toNat * 4)).block,(ad308.add ((x7_3).toNat * 4)).off+2,none⟩=some (.int .i64 ((rd_T40 ((rd_T33 l0 x3_1).f0) x7_3).f1))∧w'.cell? ⟨(ad308.add ((x7_3).toNat * 4)).block,(ad308.add ((x7_3).toNat * 4)).off+3,none⟩=some (.bool ((rd_T40 ((rd_T33 l0 x3_1).f0) x7_3).f2))∧w'.cell? (ad308.add ((x5_2).toNat * 4))=some (.bool ((rd_T40 ((rd_T33 l0 x3_1).f0) x5_2).f0.f0))∧w'.cell? ⟨(ad308.add ((x5_2).toNat * 4)).block,(ad308.add ((x5_2).toNat * 4)).off+1,none⟩=some (.slice A311_1 ((rd_T40 ((rd_T33 l0 x3_1).f0) x5_2).f0.f1).length c311_1)∧w'.cell? ⟨(ad308.add ((x5_2).toNat * 4)).block,(ad308.add ((x5_2).toNat * 4)).off+2,none⟩=some (.int .i64 ((rd_T40 ((rd_T33 l0 x3_1).f0) x5_2).f1))∧w'.cell? ⟨(ad308.add ((x5_2).toNat * 4)).block,(ad308.add ((x5_2).toNat * 4)).off+3,none⟩=some (.bool ((rd_T40 ((rd_T33 l0 x3_1).f0) x5_2).f2))) (ds:=[]) #[false,false,false,false,false,false,false,false,false,false,false,false,false] (by kernel_rfl) rfl rfl ⟨((HB.out.cell (World.block_lt_of_cell? w _ hw310_0)).trans hw310_0),((HB.out.cell (World.block_lt_of_cell? w _ hw310_1)).trans hw310_1),((HB.out.cell (World.block_lt_of_cell? w _ hw310_2)).trans hw310_2),((HB.out.cell (World.block_lt_of_cell? w _ hw310_3)).trans hw310_3),((HB.out.cell (World.block_lt_of_cell? w _ hw311_0)).trans hw311_0),((HB.out.cell (World.block_lt_of_cell? w _ hw311_1)).trans hw311_1),((HB.out.cell (World.block_lt_of_cell? w _ hw311_2)).trans hw311_2),((HB.out.cell (World.block_lt_of_cell? w _ hw311_3)).trans hw311_3)⟩ (fun hHeld=>?_);refine with_tabW cadenceref4_Check.tab18 cadenceref4_Check.bits18 (fun HT_ HW_=>?_)
                      generalize wc.drew=w25 at HB HR310_1 HR311_1 hx310_0 hx310_1 hx310_2 hx310_3 hx311_0 hx311_1 hx311_2 hx311_3 hHeld ⊢
                      refine pure_ (i:=0) (N:=some 50) (v:=?_) (a':=?_) #[true,false,false,false,false,false,false,false,false,false,false,false,false] rfl rfl (any_of HT_.out (by kernel_rfl)) (fun _ _ _ h=>h) (Or.inl ⟨by rfl,?_⟩) ?_ ?_
                      rotate_left
                      ·intro w'
                       go_simp
                       with_reducible rfl
                      rotate_left
                      ·simp only [Act.put,sA_,sB_,sC_,i64_w,i32_w]
                       rfl
                      refine pure_ (i:=1) (N:=some 51) (v:=?_) (a':=?_) #[true,true,false,false,false,false,false,false,false,false,false,false,false] rfl rfl (any_of HT_.out (by kernel_rfl)) (fun _ _ _ h=>h) (Or.inl ⟨by rfl,?_⟩) ?_ ?_
                      rotate_left
                      ·intro w'
                       go_simp
                       with_reducible rfl
                      rotate_left
                      ·simp only [Act.put,sA_,sB_,sC_,i64_w,i32_w]
                       rfl
                      refine pure_ (i:=2) (N:=some 52) (v:=?_) (a':=?_) #[true,true,true,false,false,false,false,false,false,false,false,false,false] rfl rfl (any_of HT_.out (by kernel_rfl)) (fun _ _ _ h=>h) (Or.inl ⟨by rfl,?_⟩) ?_ ?_
                      rotate_left
                      ·intro w'
                       go_simp
                       with_reducible rfl
                      rotate_left
                      ·simp only [Act.put,sA_,sB_,sC_,i64_w,i32_w]
                       rfl
                      refine pure_ (i:=3) (N:=some 53) (v:=?_) (a':=?_) #[true,true,true,true,false,false,false,false,false,false,false,false,false] rfl rfl (any_of HT_.out (by kernel_rfl)) (fun _ _ _ h=>h) (Or.inl ⟨by rfl,?_⟩) ?_ ?_
                      rotate_left
                      ·intro w'
                       go_simp
                       with_reducible rfl
                      rotate_left
                      ·simp only [Act.put,sA_,sB_,sC_,i64_w,i32_w]
                       rfl
                      refine pure_ (i:=5) (N:=some 55) (v:=?_) (a':=?_) #[true,true,true,true,false,true,false,false,false,false,false,false,false] rfl rfl (any_of HT_.out (by kernel_rfl)) (fun _ _ _ h=>h) (Or.inl ⟨by rfl,?_⟩) ?_ ?_
                      rotate_left
                      ·intro w'
                       go_simp
                       with_reducible rfl
                      rotate_left
                      ·simp only [Act.put,sA_,sB_,sC_,i64_w,i32_w]
                       rfl
                      refine pure_ (i:=6) (N:=some 56) (v:=?_) (a':=?_) #[true,true,true,true,false,true,true,false,false,false,false,false,false] rfl rfl (any_of HT_.out (by kernel_rfl)) (fun _ _ _ h=>h) (Or.inl ⟨by rfl,?_⟩) ?_ ?_
                      rotate_left
                      ·intro w'
                       go_simp
                       with_reducible rfl
                      rotate_left
                      ·simp only [Act.put,sA_,sB_,sC_,i64_w,i32_w]
                       rfl
                      refine pure_ (i:=7) (N:=some 57) (v:=?_) (a':=?_) #[true,true,true,true,false,true,true,true,false,false,false,false,false] rfl rfl (any_of HT_.out (by kernel_rfl)) (fun _ _ _ h=>h) (Or.inl ⟨by rfl,?_⟩) ?_ ?_
                      rotate_left
                      ·intro w'
                       go_simp
                       with_reducible rfl
                      rotate_left
                      ·simp only [Act.put,sA_,sB_,sC_,i64_w,i32_w]
                       rfl
                      refine pure_ (i:=8) (N:=some 58) (v:=?_) (a':=?_) #[true,true,true,true,false,true,true,true,true,false,false,false,false] rfl rfl (any_of HT_.out (by kernel_rfl)) (fun _ _ _ h=>h) (Or.inl ⟨by rfl,?_⟩) ?_ ?_
                      rotate_left
                      ·intro w'
                       go_simp
                       with_reducible rfl
                      rotate_left
                      ·simp only [Act.put,sA_,sB_,sC_,i64_w,i32_w]
                       rfl
                      refine take_ (i:=4) (N:=some 54) (v:=?_) (a':=?_) #[true,true,true,true,true,true,true,true,true,false,false,false,false] rfl rfl (take_ofW HT_.out HW_.out (by kernel_rfl)) (fun _ _ _ h=>h) (Or.inl ⟨by rfl,?_⟩) hHeld ?_ ?_
                      rotate_left
                      ·rintro w' ⟨s0,s1,s2,s3,s4,s5,s6,s7⟩
                       go_simp
                       with_reducible rfl
                      rotate_left
                      ·simp only [Act.put,sA_,sB_,sC_,i64_w,i32_w]
                       rfl
                      refine take_ (i:=9) (N:=some 59) (v:=?_) (a':=?_) #[true,true,true,true,true,true,true,true,true,true,false,false,false] rfl rfl (take_ofW HT_.out HW_.out (by kernel_rfl)) (fun _ _ _ h=>h) (Or.inl ⟨by rfl,?_⟩) hHeld ?_ ?_
                      rotate_left
                      ·rintro w' ⟨s0,s1,s2,s3,s4,s5,s6,s7⟩
                       go_simp
                       with_reducible rfl
                      rotate_left
                      ·simp only [Act.put,sA_,sB_,sC_,i64_w,i32_w]
                       rfl
                      refine one_ (i:=10) (N:=some 60) #[true,true,true,true,true,true,true,true,true,true,true,false,false] rfl rfl (one_of HT_.out (by kernel_rfl)) (by decide) (fun K hK=>?_)
                      refine goes_ Try.func24 (by kernel_rfl) rfl #[.agg #[.bool ((rd_T40 ((rd_T33 l0 x3_1).f0) x7_3).f0.f0),.slice A310_1 ((rd_T40 ((rd_T33 l0 x3_1).f0) x7_3).f0.f1).length c310_1],.agg #[.bool ((rd_T40 ((rd_T33 l0 x3_1).f0) x5_2).f0.f0),.slice A311_1 ((rd_T40 ((rd_T33 l0 x3_1).f0) x5_2).f0.f1).length c311_1]] (by rfl) rfl rfl (by (try simp only [List.map_toArray,List.map_cons,List.map_nil]);first|done|rfl|(simp only [List.length_drop,List.length_take];rfl)) ?_
                      with_reducible refine (cadenceref3_Both.calls kj10 ((rd_T40 ((rd_T33 l0 x3_1).f0) x7_3).f0.f0) _ _ ((rd_T40 ((rd_T33 l0 x3_1).f0) x7_3).f0.f1) ((rd_T40 ((rd_T33 l0 x3_1).f0) x5_2).f0.f0) _ _ ((rd_T40 ((rd_T33 l0 x3_1).f0) x5_2).f0.f1) t312 t313 _ ?side1 ?side2 ?side3 ?side4 A18.out).mono ?_
                      (case side1=>repeat (first|exact (Kd.C_below HR310_1.out HB.out)|(with_reducible refine cA_ ?_ _)|(with_reducible refine cN_ ?_ _)|(with_reducible refine cD_ ?_)))
                      (case side2=>exact HC310_1.out)
                      (case side3=>repeat (first|exact (Kd.C_below HR311_1.out HB.out)|(with_reducible refine cA_ ?_ _)|(with_reducible refine cN_ ?_ _)|(with_reducible refine cD_ ?_)))
                      (case side4=>exact HC311_1.out)
                      rintro e w26 ⟨v314,rfl,ho0,hb⟩
                      refine ⟨_,rfl,?_⟩
                      have n0_:=Az.mk (Kd.R_lower ho0 (be_ (by repeat (first|(with_reducible first|exact HB.out|apply bA_|apply bN_|apply bD_)|exact HB.out))))
                      have n1_:=Az.mk (below_step (by repeat (first|(with_reducible first|exact HB.out|apply bA_|apply bN_|apply bD_)|exact HB.out)) hb)
                      clear HB
                      have HO315:=n0_
                      have HB:=n1_
                      clear n0_ n1_
                      (try clear hb)
                      (try clear hb2)
                      (try clear hk)
                      (try clear hi)
                      (try clear ho0)
                      obtain ⟨Ao27,co27,eo27⟩:=Kd.R_slice HO315.out
                      (first|subst eo27|(injection eo27 with f1_ f2_ f3_;have f4_:=f1_.symm;have f5_:=f3_.symm;clear f1_ f2_ f3_;subst f4_;subst f5_))
                      refine hK.out _ _ ⟨((HB.out.cell (World.block_lt_of_cell? w _ hw310_0)).trans hw310_0),((HB.out.cell (World.block_lt_of_cell? w _ hw310_1)).trans hw310_1),((HB.out.cell (World.block_lt_of_cell? w _ hw310_2)).trans hw310_2),((HB.out.cell (World.block_lt_of_cell? w _ hw310_3)).trans hw310_3),((HB.out.cell (World.block_lt_of_cell? w _ hw311_0)).trans hw311_0),((HB.out.cell (World.block_lt_of_cell? w _ hw311_1)).trans hw311_1),((HB.out.cell (World.block_lt_of_cell? w _ hw311_2)).trans hw311_2),((HB.out.cell (World.block_lt_of_cell? w _ hw311_3)).trans hw311_3)⟩ (fun hHeld=>?_)
                      clear hK K
                      refine norm_ (a':=?_) ?_ ?_
                      rotate_left
                      ·show Act.put _ (some 60) _=_
                       simp only [Act.put,sA_,sB_,sC_,i64_w,i32_w]
                       rfl
                      refine one_ (i:=11) (N:=some 61) #[true,true,true,true,true,true,true,true,true,true,true,true,false] rfl rfl (one_of HT_.out (by kernel_rfl)) (by decide) (fun K hK=>?_)
                      refine goes_ Try.func29 (by kernel_rfl) rfl #[.agg #[.bool t312,.slice Ao27 t313.length co27]] (by rfl) rfl rfl (by (try simp only [List.map_toArray,List.map_cons,List.map_nil]);first|done|rfl|(simp only [List.length_drop,List.length_take];rfl)) ?_
                      with_reducible refine (cadenceref3_None.calls t312 _ _ t313 false _ ?side1 ?side2 A19.out).mono ?_
                      (case side1=>repeat (first|exact (Kd.R_reads' HO315.out).2.2|(with_reducible refine cA_ ?_ _)|(with_reducible refine cN_ ?_ _)|(with_reducible refine cD_ ?_)))
                      (case side2=>exact (Kd.R_reads' HO315.out).2.1)
                      rintro e w28 ⟨rfl,hb⟩
                      refine ⟨_,rfl,?_⟩
                      have n0_:=Az.mk (Kd.R_below (by (with_reducible repeat (first|apply rA_|apply rN_|apply rD_));exact HO315.out) hb)
                      have n1_:=Az.mk (below_step (by repeat (first|(with_reducible first|exact HB.out|apply bA_|apply bN_|apply bD_)|exact HB.out)) hb)
                      clear HO315
                      clear HB
                      have HO315:=n0_
                      have HB:=n1_
                      clear n0_ n1_
                      (try clear hb)
                      (try clear hb2)
                      (try clear hk)
                      (try clear hi)
                      refine hK.out _ _ ⟨((HB.out.cell (World.block_lt_of_cell? w _ hw310_0)).trans hw310_0),((HB.out.cell (World.block_lt_of_cell? w _ hw310_1)).trans hw310_1),((HB.out.cell (World.block_lt_of_cell? w _ hw310_2)).trans hw310_2),((HB.out.cell (World.block_lt_of_cell? w _ hw310_3)).trans hw310_3),((HB.out.cell (World.block_lt_of_cell? w _ hw311_0)).trans hw311_0),((HB.out.cell (World.block_lt_of_cell? w _ hw311_1)).trans hw311_1),((HB.out.cell (World.block_lt_of_cell? w _ hw311_2)).trans hw311_2),((HB.out.cell (World.block_lt_of_cell? w _ hw311_3)).trans hw311_3)⟩ (fun hHeld=>?_)
                      clear hK K
                      refine norm_ (a':=?_) ?_ ?_
                      rotate_left
                      ·show Act.put _ (some 61) _=_
                       simp only [Act.put,sA_,sB_,sC_,i64_w,i32_w]
                       rfl
                      refine pure_ (i:=12) (N:=some 62) (v:=?_) (a':=?_) #[true,true,true,true,true,true,true,true,true,true,true,true,true] rfl rfl (any_of HT_.out (by kernel_rfl)) (fun _ _ _ h=>h) (Or.inl ⟨by rfl,?_⟩) ?_ ?_
                      rotate_left
                      ·intro w'
                       go_simp
                       with_reducible rfl
                      rotate_left
                      ·simp only [Act.put,sA_,sB_,sC_,i64_w,i32_w]
                       rfl
                      refine done_ (done_of HT_.out (by kernel_rfl)) ?_
                      try go_wp2
                      go_roundg kj10
                      case measure=>have:=HK1.out;have:=HK2.out;have:=HK3.out;have:=HJ10.out;omega
                      case rel=>exact ⟨(7),(wrap64 (x7_3+1)),(by first|rfl|(simp;done)|(simp [*];done)),(by first|rfl|(simp;done)|(simp [*];done)),H',⟨by have:=HK1.out;have:=HK2.out;have:=HK3.out;have:=HJ10.out;omega⟩,⟨by repeat (first|(with_reducible first|exact HB.out|apply bA_|apply bN_|apply bD_)|exact HB.out)⟩⟩
                    ·rw [if_neg c17] at H
                     exact absurd H (by simp)
                   ·rw [if_neg c16] at H
                    exact absurd H (by simp)
                  ·rw [if_neg c15] at H
                   exact absurd H (by simp)
                 ·rw [if_neg c14] at H
                  exact absurd H (by simp)
                ·replace c13:=Bool.eq_false_iff.mpr c13
                 subst c13
                 have H1:(if x6_3=0 then (cadenceref4_Check.l1 kj10 l0 x3_1 ((rd_T33 l0 x3_1).f0) (wrap64 (x5_2+1))) else (some x6_3))=some r:=by rw [if_neg (show ¬ (false=true) by decide)] at H;exact H
                 clear H
                 have H:=H1
                 clear H1
                 by_cases c29:x6_3=0
                 ·rw [if_pos c29] at H
                  have c29b0:(x6_3 == 0)=true:=beq_iff_eq.mpr c29
                  have c29b1:(x6_3 != 0)=false:=bne_eq_false_iff_eq.mpr c29
                  clear c29
                  have H':=Az.mk H
                  clear H
                  go_wp2
                  go_roundg kj10
                  case measure=>have:=HK1.out;have:=HK2.out;have:=HK3.out;have:=HJ10.out;omega
                  case rel=>exact ⟨(wrap64 (x5_2+1)),(by first|rfl|(simp;done)|(simp [*];done)),H',⟨by have:=HK1.out;have:=HK2.out;have:=HK3.out;have:=HJ10.out;omega⟩,⟨by repeat (first|(with_reducible first|exact HB.out|apply bA_|apply bN_|apply bD_)|exact HB.out)⟩⟩
                 ·rw [if_neg c29] at H
                  have c29b0:(x6_3 == 0)=false:=beq_eq_false_iff_ne.mpr c29
                  have c29b1:(x6_3 != 0)=true:=bne_iff_ne.mpr c29
                  obtain rfl:=Option.some.inj H
                  go_wp2
                  go_ret
                  exact ⟨by first|rfl|(simp [errW_none,errW_some] <;> rfl)|(simp [*,errW_none,errW_some] <;> rfl),by repeat (first|(with_reducible first|exact HB.out|apply bA_|apply bN_|apply bD_)|exact HB.out)⟩
           ·rw [if_neg c8] at H
            exact absurd H (by simp)
          ·rw [if_neg c7] at H
           have c7b0:decide (x5_2 < (((rd_T33 l0 x3_1).f0).length:Int))=false:=decide_eq_false c7
           clear c7
           have H':=Az.mk H
           clear H
           go_wp2
           go_roundg k2
           case measure=>have:=HK1.out;have:=HK2.out;omega
           case rel=>exact ⟨(wrap64 (x3_1+1)),(by first|rfl|(simp;done)|(simp [*];done)),H',⟨by have:=HK1.out;have:=HK2.out;omega⟩,⟨by repeat (first|(with_reducible first|exact HB.out|apply bA_|apply bN_|apply bD_)|exact HB.out)⟩⟩
      ·rw [if_neg c5] at H
       exact absurd H (by simp)
     ·rw [if_neg c4] at H
      have c4b0:decide (x3_1 < (l0.length:Int))=false:=decide_eq_false c4
      clear c4
      obtain rfl:=Option.some.inj H
      go_wp2
      go_ret
      exact ⟨by first|rfl|(simp [errW_none,errW_some] <;> rfl)|(simp [*,errW_none,errW_some] <;> rfl),by repeat (first|(with_reducible first|exact HB.out|apply bA_|apply bN_|apply bD_)|exact HB.out)⟩
end Go.Proofs.Ytoihiehoolehiaa.PX
set_option linter.unusedVariables false
set_option linter.unusedSimpArgs false
namespace Go.Proofs.Ytoihiehoolehiaa.PX
open Go.RowKit Go.Proofs.YtoihiehoolehiaaW.PrintWords Go.Proofs.YtoihiehoolehiaaW.PrintLast Go.Proofs.YtoihiehoolehiaaW.PrintMore Go.Proofs.Ytoihiehoolehiaa
def wideM (l:List ByteArray):Int:=if 20 < l.length then 4 else if (l.any fun x=>decide (80 < x.size))=true then 5 else 0
theorem wide_ev (b:Bool) (l:List ByteArray) (hl:l.length≤1000000):Ev (fun k=>cadenceref4_Wide.f k b l) (wideM l):=by
 unfold wideM
 by_cases h20:20 < l.length
 ·rw [if_pos h20]
  have e:∀ k,cadenceref4_Wide.f k b l=some 4:=fun k=>by unfold cadenceref4_Wide.f;rw [if_pos (by omega)]
  simp only [e]
  exact Ev.now _
 ·rw [if_neg h20]
  have e:∀ k,cadenceref4_Wide.f k b l=cadenceref4_Wide.l0 k 0 b l:=fun k=>by unfold cadenceref4_Wide.f;rw [if_neg (by omega)]
  simp only [e]
  have loop:∀ d i,i+d=l.length→Ev (fun k=>cadenceref4_Wide.l0 k (i:Int) b l) (if ((l.drop i).any fun x=>decide (80 < x.size))=true then 5 else 0):=by
   intro d
   induction d with
   | zero =>
    intro i hi
    rw [List.drop_eq_nil_of_le (by omega)]
    refine Ev.step (f:=fun _=>some 0) (fun k=>?_) (Ev.now _)
    rw [cadenceref4_Wide.l0,if_neg (by omega)]
   | succ d ih =>
    intro i hi
    have hil:i < l.length:=by omega
    rw [List.drop_eq_getElem_cons hil,List.any_cons]
    by_cases h80:80 < l[i].size
    ·rw [decide_eq_true h80,Bool.true_or,if_pos rfl]
     refine Ev.step (f:=fun _=>some 5) (fun k=>?_) (Ev.now _)
     rw [cadenceref4_Wide.l0,if_pos (by omega),if_pos (by omega),rdOf_nat hil,if_pos (by omega)]
    ·rw [decide_eq_false h80,Bool.false_or]
     refine Ev.step (fun k=>?_) (ih (i+1) (by omega))
     rw [cadenceref4_Wide.l0,if_pos (by omega),if_pos (by omega),rdOf_nat hil,if_neg (by omega),wrap_succ (by omega)]
  have:=loop l.length 0 (Nat.zero_add _)
  rwa [List.drop_zero] at this
def fieldW (n:Nat) (f:Fd):Int:=if wideM f.f0.f1=0 then (if f.f1 < 0∨(n:Int)≤f.f1 then 1 else if (f.f2 && f.f0.f0)=true then 3 else 0) else wideM f.f0.f1
theorem field4_ev (n:Nat) (f:Fd) (hl:f.f0.f1.length≤1000000):Ev (fun k=>cadenceref4_field.f k f.f0.f0 f.f0.f1 f.f1 f.f2 (n:Int)) (fieldW n f):=by
 obtain ⟨K,h⟩:=wide_ev f.f0.f0 f.f0.f1 hl
 refine ⟨K+1,fun k hk=>?_⟩
 obtain ⟨k,rfl⟩:∃ k',k=k'+1:=⟨k - 1,by omega⟩
 have h:cadenceref4_Wide.f (k+1) f.f0.f0 f.f0.f1=some _:=h (k+1) (by omega)
 show cadenceref4_field.f (k+1) f.f0.f0 f.f0.f1 f.f1 f.f2 (n:Int)=_
 unfold cadenceref4_field.f fieldW
 rw [h,Option.bind_some]
 by_cases hw:wideM f.f0.f1=0
 ·rw [if_pos hw,if_pos hw]
  by_cases h0:f.f1 < 0
  ·rw [if_pos h0,if_pos (.inl h0)]
   rfl
  ·rw [if_neg h0]
   by_cases h1:(n:Int)≤f.f1
   ·rw [if_pos (.inr h1),decide_eq_true (show f.f1 ≥ (n:Int) from h1)]
    rfl
   ·rw [if_neg (by omega),decide_eq_false (show ¬ f.f1 ≥ (n:Int) from h1)]
    rw [cadenceref4_field.j0,if_neg Bool.false_ne_true]
    cases f.f2 <;> cases f.f0.f0 <;> rfl
 ·rw [if_neg hw,if_neg hw]
theorem fieldM_eq (n:Nat) (ahead:List Fd) (f:Fd):fieldM n ahead f=if fieldW n f=0 then (if (ahead.any fun o=>!apartN o.f0 f.f0)=true then 7 else 0) else fieldW n f:=by
 unfold fieldM fieldW wideM
 by_cases h1:20 < f.f0.f1.length
 ·simp only [if_pos h1,show ¬ (4:Int)=0 by decide,if_false]
 ·rw [if_neg h1,if_neg h1]
  by_cases h2:(f.f0.f1.any fun x=>decide (80 < x.size))=true
  ·simp only [if_pos h2,show ¬ (5:Int)=0 by decide,if_false]
  ·rw [if_neg h2,if_neg h2,if_pos rfl]
   by_cases h3:f.f1 < 0∨(n:Int)≤f.f1
   ·rw [if_pos h3,if_pos h3,if_neg (show ¬ (1:Int)=0 by decide)]
   ·rw [if_neg h3,if_neg h3]
    by_cases h4:(f.f2 && f.f0.f0)=true
    ·rw [if_pos h4,if_pos h4,if_neg (show ¬ (3:Int)=0 by decide)]
    ·rw [if_neg h4,if_neg h4,if_pos rfl]
theorem none3_eq (r:Bool × List ByteArray):cadenceref3_None.f r.1 r.2=some (!r.1 && r.2.isEmpty):=by
 unfold cadenceref3_None.f
 obtain ⟨b,l⟩:=r
 cases b with
 | true=>rfl
 | false =>
  rw [if_neg Bool.false_ne_true]
  cases l with
  | nil=>rfl
  | cons x l=>simp;omega
def ScB (s:Sc):Prop:=∀ d ∈ s,∀ f ∈ d.f0,f.f0.f1.length≤1000000
section
variable (s:Sc) (i:Int) (fs:List Fd)
theorem l2_bad (j:Nat) (e:Int) (he:e≠0) (q:Int):Ev (fun k=>cadenceref4_Check.l2 k s i fs (j:Int) e q) e:=by
 refine ⟨2,fun k hk=>?_⟩
 obtain ⟨k,rfl⟩:∃ k',k=k'+2:=⟨k - 2,by omega⟩
 have hb:(e == 0)=false:=by simpa using he
 have h3:cadenceref4_Check.j3 (k+1) s i fs (j:Int) e q false=some e:=by
  unfold cadenceref4_Check.j3
  rw [if_neg Bool.false_ne_true,if_neg he]
 show cadenceref4_Check.l2 (k+1+1) s i fs (j:Int) e q=some e
 unfold cadenceref4_Check.l2
 rw [hb,h3]
 split <;> rfl
variable (hfs:∀ f ∈ fs,f.f0.f1.length≤1000000) (h6:fs.length≤6)
include hfs h6
theorem l2_ev (j:Nat) (hj:j < fs.length) {r:Int} (hr:Ev (fun k=>cadenceref4_Check.l1 k s i fs ((j+1:Nat):Int)) r) :
  ∀ d q,q+d=j→Ev (fun k=>cadenceref4_Check.l2 k s i fs (j:Int) 0 (q:Int)) (if (((fs.take j).drop q).any fun o=>!apartN o.f0 fs[j].f0)=true then 7 else r):=by
 intro d
 induction d with
 | zero =>
  intro q hq
  rw [List.drop_eq_nil_of_le (by rw [List.length_take];omega),List.any_nil,if_neg Bool.false_ne_true]
  refine Ev.step (f:=fun k=>cadenceref4_Check.j3 k s i fs (j:Int) 0 (q:Int) false) (fun k=>?_) (Ev.step (f:=fun k=>cadenceref4_Check.l1 k s i fs ((j+1:Nat):Int)) (fun k=>?_) hr)
  ·rw [cadenceref4_Check.l2,if_neg (by omega)]
  ·rw [cadenceref4_Check.j3,if_neg Bool.false_ne_true,if_pos rfl,wrap_succ (by omega)]
 | succ d ih =>
  intro q hq
  have hql:q < fs.length:=by omega
  have hqt:q < (fs.take j).length:=by rw [List.length_take];omega
  rw [List.drop_eq_getElem_cons hqt,List.any_cons,List.getElem_take]
  obtain ⟨b,hb,K1,h1⟩:=both3_ev2 fs[q].f0.f0 fs[q].f0.f1 fs[j].f0.f0 fs[j].f0.f1 (hfs _ (List.getElem_mem hql)) (hfs _ (List.getElem_mem hj))
  have hn:=none3_eq b
  rw [BothR.none (a:=fs[q].f0) (b:=fs[j].f0) hb] at hn
  have key:∀ k,K1≤k→cadenceref4_Check.l2 (k+2) s i fs (j:Int) 0 (q:Int)=if apartN fs[q].f0 fs[j].f0=true then cadenceref4_Check.l2 k s i fs (j:Int) 0 ((q+1:Nat):Int) else cadenceref4_Check.l2 k s i fs (j:Int) 7 ((q+1:Nat):Int):=by
   intro k hk
   have h1:cadenceref3_Both.f k fs[q].f0.f0 fs[q].f0.f1 fs[j].f0.f0 fs[j].f0.f1=some b:=h1 k hk
   rw [cadenceref4_Check.l2,if_pos (show (q:Int) < (j:Int) by omega),cadenceref4_Check.j3,if_pos (show ((0:Int) == 0)=true from rfl),if_pos (show (0:Int)≤(q:Int) by omega),if_pos (show (q:Int) < (fs.length:Int) by omega),if_pos (show (0:Int)≤(j:Int) by omega),if_pos (show (j:Int) < (fs.length:Int) by omega),rdF_nat hql,rdF_nat hj,h1,Option.bind_some,hn,Option.bind_some,wrap_succ (by omega)]
  by_cases ha:apartN fs[q].f0 fs[j].f0=true
  ·rw [ha,Bool.not_true,Bool.false_or]
   obtain ⟨K2,h2⟩:=ih (q+1) (by omega)
   refine ⟨K1+K2+2,fun k hk=>?_⟩
   obtain ⟨k,rfl⟩:∃ k',k=k'+2:=⟨k - 2,by omega⟩
   show cadenceref4_Check.l2 (k+2) s i fs (j:Int) 0 (q:Int)=_
   rw [key k (by omega),if_pos ha]
   exact h2 k (by omega)
  ·rw [Bool.eq_false_iff.2 ha,Bool.not_false,Bool.true_or,if_pos rfl]
   obtain ⟨K2,h2⟩:=l2_bad s i fs j 7 (by decide) ((q+1:Nat):Int)
   refine ⟨K1+K2+2,fun k hk=>?_⟩
   obtain ⟨k,rfl⟩:∃ k',k=k'+2:=⟨k - 2,by omega⟩
   show cadenceref4_Check.l2 (k+2) s i fs (j:Int) 0 (q:Int)=_
   rw [key k (by omega),if_neg ha]
   exact h2 k (by omega)
theorem l1_ev {r:Int} (hr:Ev (fun k=>cadenceref4_Check.l0 k s (wrap64 (i+1))) r) :
  ∀ m j,fs.length - j≤m→j≤fs.length→Ev (fun k=>cadenceref4_Check.l1 k s i fs (j:Int)) (if fieldsM s.length fs m j=0 then r else fieldsM s.length fs m j):=by
 intro m
 induction m with
 | zero =>
  intro j hm hj
  rw [fieldsM,if_pos rfl]
  refine Ev.step (fun k=>?_) hr
  rw [cadenceref4_Check.l1,if_neg (by omega)]
 | succ m ih =>
  intro j hm hj
  rw [fieldsM]
  by_cases hjl:j < fs.length
  ·rw [dif_pos hjl]
   have hf:=field4_ev s.length fs[j] (hfs _ (List.getElem_mem hjl))
   have hnext:=ih (j+1) (by omega) (by omega)
   have h2:=l2_ev s i fs hfs h6 j hjl hnext j 0 (Nat.zero_add _)
   rw [List.drop_zero] at h2
   have step:Ev (fun k=>cadenceref4_Check.l1 k s i fs (j:Int)) (if fieldW s.length fs[j]=0 then (if ((fs.take j).any fun o=>!apartN o.f0 fs[j].f0)=true then 7 else (if fieldsM s.length fs m (j+1)=0 then r else fieldsM s.length fs m (j+1))) else fieldW s.length fs[j]):=by
    refine Ev.step (f:=fun k=>(cadenceref4_field.f k fs[j].f0.f0 fs[j].f0.f1 fs[j].f1 fs[j].f2 (s.length:Int)).bind fun t=>cadenceref4_Check.l2 k s i fs (j:Int) t 0) (fun k=>?_) (Ev.bind hf ?_)
    ·rw [cadenceref4_Check.l1,if_pos (by omega),if_pos (by omega),rdF_nat hjl]
    ·by_cases hw:fieldW s.length fs[j]=0
     ·rw [if_pos hw,hw]
      exact h2
     ·rw [if_neg hw]
      exact l2_bad s i fs j _ hw 0
   rw [fieldM_eq]
   by_cases hw:fieldW s.length fs[j]=0
   ·rw [if_pos hw] at step
    rw [if_pos hw]
    by_cases ha:((fs.take j).any fun o=>!apartN o.f0 fs[j].f0)=true
    ·rw [if_pos ha] at step
     rw [if_pos ha,if_neg (show ¬ (7:Int)=0 by decide),if_neg (show ¬ (7:Int)=0 by decide)]
     exact step
    ·rw [if_neg ha] at step
     rw [if_neg ha,if_pos rfl]
     exact step
   ·rw [if_neg hw] at step
    rw [if_neg hw,if_neg hw,if_neg hw]
    exact step
  ·rw [dif_neg hjl,if_pos rfl]
   refine Ev.step (fun k=>?_) hr
   rw [cadenceref4_Check.l1,if_neg (by omega)]
end
theorem check4_ev (s:Sc) (hs:ScB s):Ev (fun k=>cadenceref4_Check.f k s) (checkM s):=by
 by_cases h0:s.length=0
 ·have e:∀ k,cadenceref4_Check.f k s=some 2:=fun k=>by unfold cadenceref4_Check.f;rw [if_pos (by omega)]
  simp only [e]
  rw [checkM,if_pos h0]
  exact Ev.now _
 by_cases h1:12 < s.length
 ·have e:∀ k,cadenceref4_Check.f k s=some 4:=fun k=>by unfold cadenceref4_Check.f;rw [if_neg (by omega),if_pos (by omega)]
  simp only [e]
  rw [checkM,if_neg h0,if_pos h1]
  exact Ev.now _
 have e:∀ k,cadenceref4_Check.f k s=cadenceref4_Check.l0 k s 0:=fun k=>by unfold cadenceref4_Check.f;rw [if_neg (by omega),if_neg (by omega)]
 simp only [e]
 rw [checkM,if_neg h0,if_neg h1]
 have outer:∀ (m i:Nat),s.length - i≤m→i≤s.length→Ev (fun k=>cadenceref4_Check.l0 k s (i:Int)) (defsM s.length (s.drop i)):=by
  intro m
  induction m with
  | zero =>
   intro i hm hi
   obtain rfl:i=s.length:=by omega
   refine Ev.step (f:=fun _=>some 0) (fun k=>?_) ?_
   ·rw [cadenceref4_Check.l0,if_neg (by omega)]
   ·rw [List.drop_length];exact Ev.now _
  | succ m ih =>
   intro i hm hi
   by_cases h:i < s.length
   ·rw [List.drop_eq_getElem_cons h,defsM,defM]
    by_cases h6:6 < (s[i]).f0.length
    ·rw [if_pos h6]
     refine Ev.step (f:=fun _=>some 4) (fun k=>?_) (Ev.now _)
     rw [cadenceref4_Check.l0,if_pos (by omega),if_pos (by omega),rdD_nat h,if_pos (by omega)]
    ·rw [if_neg h6]
     refine Ev.step (f:=fun k=>cadenceref4_Check.l1 k s (i:Int) (s[i]).f0 0) (fun k=>?_) ?_
     ·rw [cadenceref4_Check.l0,if_pos (by omega),if_pos (by omega),rdD_nat h,if_neg (by omega)]
     ·have:=l1_ev s (i:Int) (s[i]).f0 (hs _ (List.getElem_mem h)) (by omega) (r:=defsM s.length (s.drop (i+1))) (by rw [wrap_succ (by omega)];exact ih (i+1) (by omega) (by omega)) (s[i]).f0.length 0 (by omega) (Nat.zero_le _)
      exact this
   ·obtain rfl:i=s.length:=by omega
    refine Ev.step (f:=fun _=>some 0) (fun k=>?_) ?_
    ·rw [cadenceref4_Check.l0,if_neg (by omega)]
    ·rw [List.drop_length];exact Ev.now _
 have:=outer s.length 0 (by omega) (Nat.zero_le _)
 rwa [List.drop_zero] at this
end Go.Proofs.Ytoihiehoolehiaa.PX
set_option linter.unusedVariables false
set_option linter.unusedSimpArgs false
namespace Go.Proofs.Ytoihiehoolehiaa.PX
open Go.RowKit Go.Proofs.YtoihiehoolehiaaW.PrintWords Go.Proofs.YtoihiehoolehiaaW.PrintLast Go.Proofs.YtoihiehoolehiaaW.PrintMore Go.Proofs.Ytoihiehoolehiaa
theorem list_choose {α:Type} (Q:Nat→α→Prop):∀ n,(∀ i,i < n→∃ p,Q i p)→∃ ps:List α,ps.length=n∧∀ i p,ps[i]? = some p→Q i p
 | 0,_=>⟨[],rfl,fun i p h=>by simp at h⟩
 | n+1,h=>by
  obtain ⟨ps,hl,hq⟩:=list_choose Q n (fun i hi=>h i (by omega))
  obtain ⟨p,hp⟩:=h n (by omega)
  refine ⟨ps ++ [p],by simp [hl],fun i q hi=>?_⟩
  rcases Nat.lt_or_ge i ps.length with hlt|hge
  ·rw [List.getElem?_append_left hlt] at hi
   exact hq i q hi
  ·rw [List.getElem?_append_right hge] at hi
   have h0:i - ps.length=0:=by
    have:=(List.getElem?_eq_some_iff.1 hi).1
    simpa using this
   rw [h0] at hi
   obtain rfl:p=q:=by simpa using hi
   obtain rfl:i=n:=by omega
   exact hp
def PartOk (w:World) (t:Nat) (u:Value):Prop :=
 (t=0∧∃ b,u=.bool b)∨(t=1∧∃ A c,∃ l:List ByteArray,u=.slice A l.length c∧l.length≤c∧Kd.C Kd.string w A l.length l∧l.length≤100)∨(t=2∧∃ z,u=.int .i64 z)∨(t=3∧∃ b,u=.bool b)
theorem fd_set {w:World} {x:S40} {c:List Value} {t:Nat} {u:Value} (h:k40.K w x c) (hl:x.f0.f1.length≤100) (hu:PartOk w t u):∃ x',k40.K w x' (c.set t u)∧x'.f0.f1.length≤100:=by
 obtain ⟨A1,c1,rfl,hl1,hC⟩:=k40_open h
 rcases hu with ⟨rfl,b,rfl⟩|⟨rfl,A,c,l,rfl,hlc,hC2,hl2⟩|⟨rfl,z,rfl⟩|⟨rfl,b,rfl⟩
 ·exact ⟨⟨⟨b,x.f0.f1⟩,x.f1,x.f2⟩,k40_mk w ⟨⟨b,x.f0.f1⟩,x.f1,x.f2⟩ hl1 hC,hl⟩
 ·exact ⟨⟨⟨x.f0.f0,l⟩,x.f1,x.f2⟩,k40_mk w ⟨⟨x.f0.f0,l⟩,x.f1,x.f2⟩ hlc hC2,hl2⟩
 ·exact ⟨⟨x.f0,z,x.f2⟩,k40_mk w ⟨x.f0,z,x.f2⟩ hl1 hC,hl⟩
 ·exact ⟨⟨x.f0,x.f1,b⟩,k40_mk w ⟨x.f0,x.f1,b⟩ hl1 hC,hl⟩
theorem add_flat (g m:Nat):(⟨g,0,none⟩:Addr).add m=⟨g,m,none⟩:=by
 unfold Addr.add
 by_cases h:m=0
 ·subst h;simp
 ·simp [h]
structure Turned (w w':World) (gF j:Nat) (u:Value):Prop where
 gr:w.grownBy w' (some gF)
 same:∀ v,w.cell? ⟨gF,j,none⟩=some v→w'.cell? ⟨gF,j,none⟩=some u
 other:∀ m,m≠j→∀ v,w.cell? ⟨gF,m,none⟩=some v→w'.cell? ⟨gF,m,none⟩=some v
theorem Turned.cell {w w':World} {gF j g m:Nat} {u v:Value} (h:Turned w w' gF j u) (hg:g≠gF) (hc:w.cell? ⟨g,m,none⟩=some v):w'.cell? ⟨g,m,none⟩=some v:=by
 have hlt:=World.block_lt_of_cell? w _ hc
 rw [← hc]
 unfold World.cell?
 rw [h.gr.block g hlt (fun e=>hg (by injection e))]
theorem cells_turned {w w':World} {g gF j m:Nat} {u:Value} (hT:Turned w w' gF j u) {c:List Value} (h:∀ i v,c[i]? = some v→w.cell? ⟨g,m+i,none⟩=some v) :
  (g=gF∧m≤j∧j < m+c.length∧∀ i v,(c.set (j - m) u)[i]? = some v→w'.cell? ⟨g,m+i,none⟩=some v)∨(∀ i v,c[i]? = some v→w'.cell? ⟨g,m+i,none⟩=some v):=by
 by_cases hg:g=gF
 ·subst hg
  by_cases hj:m≤j∧j < m+c.length
  ·refine .inl ⟨rfl,hj.1,hj.2,fun i v hv=>?_⟩
   rw [List.getElem?_set] at hv
   by_cases hi:j - m=i
   ·rw [if_pos hi] at hv
    split at hv
    ·injection hv with hv
     subst hv
     have e:m+i=j:=by omega
     rw [e]
     have hi2:i < c.length:=by omega
     have:=h i c[i] (List.getElem?_eq_getElem hi2)
     rw [e] at this
     exact hT.same _ this
    ·cases hv
   ·rw [if_neg hi] at hv
    exact hT.other _ (by omega) _ (h i v hv)
  ·refine .inr fun i v hv=>?_
   have hi:i < c.length:=(List.getElem?_eq_some_iff.1 hv).1
   exact hT.other _ (by omega) _ (h i v hv)
 ·exact .inr fun i v hv=>hT.cell hg (h i v hv)
section
variable {w w':World} {base:Nat} {ok:Nat→Prop} {v u:Value} {gF j:Nat} {cur:Array Value}
theorem own_spot {e size n:Nat} {xs:List Value} (h:w.ownsRow base e size v n xs) {A:Option Addr} {c:Nat} (hv:v=.slice A n c) (h0:0 < n):∃ g cr,A=some ⟨g,0,none⟩∧w.heap[g]? = some (.cells cr e (0,0)):=by
 obtain ⟨_,⟨rfl,rfl⟩|⟨g,cap,cr,rfl,_,hh,_⟩⟩:=h
 ·omega
 ·injection hv with h1 h2 h3
  exact ⟨g,cr,h1.symm,hh⟩
theorem fields_set {xs:List S40} (hR:k40.R 40 w base ok v xs) (hb:w.heap[gF]? = some (.cells cur 40 (0,0))) (hl:∀ f ∈ xs,f.f0.f1.length≤100) (hT:Turned w w' gF j u) (hu:PartOk w' (j % 4) u) :
  ∃ A c,∃ ys:List S40,v=.slice A xs.length c∧xs.length≤c∧ys.length=xs.length∧k40.C w' A ys.length ys∧∀ f ∈ ys,f.f0.f1.length≤100:=by
 obtain ⟨hok,ho⟩:=hR
 obtain ⟨inner,hown,hreps⟩:=ho
 obtain ⟨A,c,hv,hlc,hrow⟩:=OwnRow.reads (R:=k40.M w base (fun k=>ok k∧some k≠v.ownBlock)) ⟨inner,hown,hreps⟩
 have hcell:∀ i,i < xs.length→∃ p:S40,p.f0.f1.length≤100∧∃ cs:List Value,cs.length=4∧k40.K w' p cs∧∀ ad,A=some ad→∀ q x,cs[q]? = some x→w'.cell? (ad.add (i * 4+q))=some x:=by
  intro i hi
  obtain ⟨g,cr,rfl,hh⟩:=own_spot hown hv (by omega)
  obtain ⟨ad,e,hc⟩:=hrow.2.2 (by omega)
  injection e with e
  subst e
  obtain ⟨cs,hcl,hM,hcs⟩:=hc i xs[i] (List.getElem?_eq_getElem hi)
  have hcl:cs.length=4:=hcl
  have hM':=Kd.K_of_M _ (Kd.M_grown (Kd.M_types hM hb (by decide)) hT.gr (fun k hk e=>hk.2 (by injection e)))
  have hcs:∀ q x,cs[q]? = some x→w.cell? ⟨g,i * 4+q,none⟩=some x:=fun q x hx=>by rw [← add_flat];exact hcs q x hx
  have hxl:=hl _ (List.getElem_mem hi)
  rcases cells_turned hT hcs with ⟨_,h1,h2,h3⟩|h3
  ·obtain ⟨p,hp,hpl⟩:=fd_set (t:=j - i * 4) hM' hxl (by
    have:j - i * 4=j % 4:=by omega
    rw [this]
    exact hu)
   exact ⟨p,hpl,cs.set (j - i * 4) u,by rw [List.length_set];exact hcl,hp,fun ad e q x hx=>by injection e with e;subst e;rw [add_flat];exact h3 q x hx⟩
  ·exact ⟨xs[i],hxl,cs,hcl,hM',fun ad e q x hx=>by injection e with e;subst e;rw [add_flat];exact h3 q x hx⟩
 obtain ⟨ys,hyl,hys⟩:=list_choose _ xs.length hcell
 refine ⟨A,c,ys,hv,hlc,hyl,⟨rfl,by rw [hyl];exact hrow.2.1,fun h0=>?_⟩,fun f hf=>?_⟩
 ·obtain ⟨g,cr,rfl,hh⟩:=own_spot hown hv (by omega)
  refine ⟨_,rfl,fun i p hp=>?_⟩
  obtain ⟨_,cs,h1,h2,h3⟩:=hys i p hp
  exact ⟨cs,h1,h2,fun q x hx=>h3 _ rfl q x hx⟩
 ·obtain ⟨i,hi,rfl⟩:=List.mem_iff_getElem.1 hf
  exact (hys i _ (List.getElem?_eq_getElem hi)).1
theorem schema_set {s:List S33} (hR:k33.R 33 w base ok v s) (hb:w.heap[gF]? = some (.cells cur 40 (0,0))) (hl:∀ d ∈ s,d.f0.length≤3∧∀ f ∈ d.f0,f.f0.f1.length≤100) (hT:Turned w w' gF j u) (hu:PartOk w' (j % 4) u) :
  ∃ A c,∃ t:List S33,v=.slice A s.length c∧s.length≤c∧t.length=s.length∧k33.C w' A t.length t∧∀ d ∈ t,d.f0.length≤3∧∀ f ∈ d.f0,f.f0.f1.length≤100:=by
 obtain ⟨hok,ho⟩:=hR
 obtain ⟨inner,hown,hreps⟩:=ho
 obtain ⟨A,c,hv,hlc,hrow⟩:=OwnRow.reads (R:=k33.M w base (fun k=>ok k∧some k≠v.ownBlock)) ⟨inner,hown,hreps⟩
 have hcell:∀ i,i < s.length→∃ p:S33,(p.f0.length≤3∧∀ f ∈ p.f0,f.f0.f1.length≤100)∧∃ cs:List Value,cs.length=3∧k33.K w' p cs∧∀ ad,A=some ad→∀ q x,cs[q]? = some x→w'.cell? (ad.add (i * 3+q))=some x:=by
  intro i hi
  obtain ⟨g,cr,rfl,hh⟩:=own_spot hown hv (by omega)
  obtain ⟨ad,e,hc⟩:=hrow.2.2 (by omega)
  injection e with e
  subst e
  obtain ⟨cs,hcl,hM,hcs⟩:=hc i s[i] (List.getElem?_eq_getElem hi)
  have hcl:cs.length=3:=hcl
  have hg:g≠gF:=fun e=>by
   subst e
   rw [hh] at hb
   injection hb with hb
   injection hb with _ hb
   exact absurd hb (by decide)
  have hd:=hl _ (List.getElem_mem hi)
  obtain ⟨v0,rfl,hF⟩:=k33_openM hM
  obtain ⟨A0,c0,ys,rfl,hyc,hyl,hyC,hy⟩:=fields_set hF hb hd.2 hT hu
  refine ⟨⟨ys,s[i].f1,s[i].f2⟩,⟨by show ys.length≤3;omega,hy⟩,[.slice A0 ys.length c0,.bool s[i].f1,.bool s[i].f2],rfl,k33_mk _ ⟨ys,s[i].f1,s[i].f2⟩ (by show ys.length≤c0;omega) hyC,fun ad e q x hx=>?_⟩
  injection e with e
  subst e
  rw [add_flat]
  rw [hyl] at hx
  have:=hcs q x hx
  rw [add_flat] at this
  exact hT.cell hg this
 obtain ⟨t,htl,ht⟩:=list_choose _ s.length hcell
 refine ⟨A,c,t,hv,hlc,htl,⟨rfl,by rw [htl];exact hrow.2.1,fun h0=>?_⟩,fun d hd=>?_⟩
 ·obtain ⟨g,cr,rfl,hh⟩:=own_spot hown hv (by omega)
  refine ⟨_,rfl,fun i p hp=>?_⟩
  obtain ⟨_,cs,h1,h2,h3⟩:=ht i p hp
  exact ⟨cs,h1,h2,fun q x hx=>h3 _ rfl q x hx⟩
 ·obtain ⟨i,hi,rfl⟩:=List.mem_iff_getElem.1 hd
  exact (ht i _ (List.getElem?_eq_getElem hi)).1
end
end Go.Proofs.Ytoihiehoolehiaa.PX
set_option linter.unusedVariables false
set_option linter.unusedSimpArgs false
namespace Go.Proofs.Ytoihiehoolehiaa.PX
open Go.RowKit Go.Proofs.YtoihiehoolehiaaW.PrintWords Go.Proofs.YtoihiehoolehiaaW.PrintLast Go.Proofs.YtoihiehoolehiaaW.PrintMore Go.Proofs.Ytoihiehoolehiaa
theorem known4:Ev (fun k=>cadencelaw4_known.f k) true:=by
 obtain ⟨K,hK⟩:=check_ev [(⟨[],false,false⟩:S33)] (fun d hd=>by
  simp only [List.mem_singleton] at hd
  subst hd
  exact ⟨by simp,fun f hf=>by cases hf⟩)
 have hok:ScOk [(⟨[],false,false⟩:S33)]:=⟨by simp,fun d hd=>by
  simp only [List.mem_singleton] at hd
  subst hd
  exact ⟨by simp,fun f hf=>by cases hf⟩⟩
 have h1:schema_Fits.f [(⟨[],false,false⟩:S33)] 0 []=some true:=by
  unfold schema_Fits.f
  rw [if_pos ⟨hok,trOk_nil⟩,fitsM_eq]
  rfl
 have h2:schema_Fits.f [(⟨[],false,false⟩:S33)] 0 [⟨⟨#[97]⟩,[]⟩]=some false:=by
  unfold schema_Fits.f
  rw [if_pos ⟨hok,by rw [trOk_eq];simp [trOk_nil]⟩,fitsM_eq]
  rfl
 have h3:schema_To.f [(⟨[],false,false⟩:S33)] 0 ⟨#[97]⟩=some (-1):=by
  unfold schema_To.f
  rw [if_pos hok]
  rfl
 refine ⟨K,fun k hk=>?_⟩
 have hc:schema_Check.f k [(⟨[],false,false⟩:S33)]=some 0:=hK k hk
 show cadencelaw4_known.f k=some true
 unfold cadencelaw4_known.f
 simp only [Option.bind_some]
 rw [hc]
 simp only [Option.bind_some,if_pos]
 rw [h1]
 simp only [Option.bind_some,if_pos]
 rw [h2]
 simp only [Option.bind_some]
 rw [if_neg (by simp),h3]
 rfl
end Go.Proofs.Ytoihiehoolehiaa.PX
set_option linter.unusedVariables false
set_option linter.unusedSimpArgs false
namespace Go.Proofs.Ytoihiehoolehiaa.Bk
open Go.RowKit
abbrev Gr (w w':World):Prop:=Below w.heap.size w w'
theorem Gr.rfl' (w:World):Gr w w:=Below.refl _ _
theorem Gr.trans' {a b c:World} (h:Gr a b) (k:Gr b c):Gr a c:=h.trans (k.mono h.size)
theorem Gr.cell {w w':World} (h:Gr w w') {a:Addr} {v:Value} (hc:w.cell? a=some v):w'.cell? a=some v:=(Below.cell h (World.block_lt_of_cell? w a hc)).trans hc
theorem Gr.draw (w:World):Gr w w.drew:=(Below.refl _ _).drew
theorem Gr.drawN (w:World) (n:Nat):Gr w (w.drewN n):=⟨rfl,rfl,rfl,Nat.le_refl _,fun _ _=>rfl⟩
theorem Gr.alloc1 (w:World) (o:Obj):Gr w (w.alloc o):=(Below.refl _ _).alloc (Nat.le_refl _) o
def Row (w:World) (g:Nat) (t:TypeId) (xs:List Value):Prop:=w.heap[g]? = some (.cells xs.toArray t (0,0))
section
variable {w w':World} {g:Nat} {t:TypeId} {xs:List Value}
theorem Row.lt (h:Row w g t xs):g < w.heap.size:=(Array.getElem?_eq_some_iff.1 h).1
theorem Row.cell (h:Row w g t xs) (i:Nat):w.cell? ⟨g,i,none⟩=xs[i]?:=by
 rw [cell_of_row w g i xs.toArray t (0,0) h];simp
theorem Row.frozen (h:Row w g t xs) (i:Nat):w.frozen? ⟨g,i,none⟩=false:=by
 unfold Row at h
 simp [World.frozen?,h]
theorem Row.drew (h:Row w g t xs):Row w.drew g t xs:=h
theorem Row.drewN (h:Row w g t xs) (n:Nat):Row (w.drewN n) g t xs:=h
theorem Row.alloc (h:Row w g t xs) (o:Obj):Row (w.alloc o) g t xs:=(Below.heap_alloc w o g h.lt).trans h
theorem Row.new (w:World) (t:TypeId) (xs:List Value):Row (w.alloc (.cells xs.toArray t)) w.heap.size t xs:=heap_alloc_new w _
theorem Row.set (h:Row w g t xs) (i:Nat) (u:Value):Row (w.setCell ⟨g,i,none⟩ u) g t (xs.set i u):=by
 unfold Row at h ⊢
 simp [World.setCell,Array.getElem?_modify,h]
theorem Row.below {B:Nat} (h:Row w g t xs) (hb:Below B w w') (hg:g < B):Row w' g t xs:=(hb.block g hg).trans h
theorem Row.gr (h:Row w g t xs) (hb:Gr w w'):Row w' g t xs:=h.below hb h.lt
end
theorem block_of_add (a:Addr) (n:Nat):(a.add n).block=a.block:=by unfold Addr.add;split <;> rfl
theorem add_of_add (a:Addr) (i j:Nat):(a.add i).add j=a.add (i+j):=by
 unfold Addr.add
 by_cases hi:i=0 <;> by_cases hj:j=0 <;> simp [hi,hj,Nat.add_assoc]
theorem add_plain (g j:Nat):(⟨g,0,none⟩:Addr).add j=⟨g,j,none⟩:=by unfold Addr.add;split <;> simp_all
def Rd (w:World) (A:Option Addr) (xs:List Value):Prop:=∀ j u,xs[j]? = some u→∃ ad,A=some ad∧w.cell? (ad.add j)=some u
section
variable {w w':World} {A:Option Addr} {xs:List Value}
theorem Rd.nil (w:World) (A:Option Addr):Rd w A []:=fun j u h=>by simp at h
theorem Rd.gr (h:Rd w A xs) (hb:Gr w w'):Rd w' A xs:=fun j u hu=>by
 obtain ⟨ad,e,hc⟩:=h j u hu
 exact ⟨ad,e,hb.cell hc⟩
theorem Rd.below {B:Nat} (h:Rd w A xs) (hb:Below B w w') (hB:∀ ad,A=some ad→ad.block < B):Rd w' A xs:=fun j u hu=>by
 obtain ⟨ad,e,hc⟩:=h j u hu
 exact ⟨ad,e,(Below.cell hb (by rw [block_of_add];exact hB ad e)).trans hc⟩
theorem Rd.drew (h:Rd w A xs):Rd w.drew A xs:=h
theorem Rd.drewN (h:Rd w A xs) (n:Nat):Rd (w.drewN n) A xs:=h
theorem Rd.of_row {g:Nat} {t:TypeId} {ys:List Value} (h:Row w g t (xs ++ ys)):Rd w (some ⟨g,0,none⟩) xs:=fun j u hu=>by
 have hl:=(List.getElem?_eq_some_iff.1 hu).1
 exact ⟨_,rfl,by rw [add_plain,h.cell,List.getElem?_append_left hl];exact hu⟩
theorem Rd.of_row' {g:Nat} {t:TypeId} (h:Row w g t xs):Rd w (some ⟨g,0,none⟩) xs:=Rd.of_row (ys:=[]) (by simpa using h)
theorem Rd.at_ (h:Rd w A xs) {k:Nat} (hk:k < xs.length):∃ ad,A=some ad∧w.cell? (ad.add k)=some xs[k]:=h k _ (List.getElem?_eq_getElem hk)
theorem Rd.take (h:Rd w A xs) (k:Nat):Rd w A (xs.take k):=fun j u hu=>by
 rw [List.getElem?_take] at hu
 split at hu
 ·exact h j u hu
 ·cases hu
theorem Rd.drop (h:Rd w A xs) (k:Nat):Rd w (A.map (·.add k)) (xs.drop k):=fun j u hu=>by
 rw [List.getElem?_drop] at hu
 obtain ⟨ad,rfl,hc⟩:=h _ u hu
 exact ⟨_,rfl,by rw [add_of_add];exact hc⟩
end
def bv (b:UInt8):Value:=.int .u8 (b.toNat:Int)
def le (v n:Nat):List UInt8:=(List.range n).map fun i=>UInt8.ofNat (v / 2 ^ (8 * i))
theorem Rd.ne_row {w:World} {A:Option Addr} {bs:List UInt8} {g:Nat} {t:TypeId} {cs:List Value} (h:Rd w A (bs.map bv)) (hr:Row w g t cs) (hcs:∀ c ∈ cs,∀ b,bv b≠c)
  {j:Nat} {u:Value} (hu:(bs.map bv)[j]? = some u):∃ ad,A=some ad∧w.cell? (ad.add j)=some u∧ad.block≠g:=by
 obtain ⟨ad,rfl,hc⟩:=h j u hu
 refine ⟨ad,rfl,hc,fun e=>?_⟩
 have hb:(ad.add j).block=g:=by rw [block_of_add];exact e
 rw [List.getElem?_map] at hu
 obtain ⟨b,_,rfl⟩:=Option.map_eq_some_iff.1 hu
 unfold World.cell? at hc
 rw [hb] at hc
 unfold Row at hr
 rw [hr] at hc
 simp only [] at hc
 split at hc
 ·cases hc
 ·have hm:bv b ∈ cs:=by
   have:=List.mem_of_getElem? (by simpa using hc:cs[(ad.add j).off]? = some (bv b))
   exact this
  exact hcs _ hm b rfl
theorem Rd.keep {w w':World} {A:Option Addr} {bs:List UInt8} {g:Nat} {t:TypeId} {cs:List Value} (h:Rd w A (bs.map bv)) (hr:Row w g t cs) (hcs:∀ c ∈ cs,∀ b,bv b≠c)
  (hg:w.grownBy w' (some g)):Rd w' A (bs.map bv):=fun j u hu=>by
 obtain ⟨ad,rfl,hc,hne⟩:=h.ne_row hr hcs hu
 refine ⟨ad,rfl,?_⟩
 exact hg.cell hc (by rw [block_of_add];intro e;injection e with e;exact hne e)
def RdN (w:World) (g:Nat) (A:Option Addr) (xs:List Value):Prop:=∀ j u,xs[j]? = some u→∃ ad,A=some ad∧w.cell? (ad.add j)=some u∧ad.block≠g
theorem RdN.rd {w:World} {g:Nat} {A:Option Addr} {xs:List Value} (h:RdN w g A xs):Rd w A xs:=fun j u hu=>by
 obtain ⟨ad,e,hc,_⟩:=h j u hu
 exact ⟨ad,e,hc⟩
theorem RdN.only {w w':World} {g:Nat} {A:Option Addr} {xs:List Value} (h:RdN w g A xs) (hg:w.grownBy w' (some g)):RdN w' g A xs:=fun j u hu=>by
 obtain ⟨ad,e,hc,hne⟩:=h j u hu
 exact ⟨ad,e,hg.cell hc (by rw [block_of_add];intro e;injection e with e;exact hne e),hne⟩
theorem RdN.gr {w w':World} {g:Nat} {A:Option Addr} {xs:List Value} (h:RdN w g A xs) (hb:Gr w w'):RdN w' g A xs:=fun j u hu=>by
 obtain ⟨ad,e,hc,hne⟩:=h j u hu
 exact ⟨ad,e,hb.cell hc,hne⟩
theorem Rd.apart {w:World} {A:Option Addr} {bs:List UInt8} {g:Nat} {t:TypeId} {cs:List Value} (h:Rd w A (bs.map bv)) (hr:Row w g t cs) (hcs:∀ c ∈ cs,∀ b,bv b≠c):RdN w g A (bs.map bv) :=
 fun j u hu=>h.ne_row hr hcs hu
theorem run_str {P:Program} {w:World} {A:Option Addr} {bs:List UInt8} (h:Rd w A (bs.map bv)) (src dst e:TypeId) (n c:Nat) (hn:n=bs.length)
  (hs:P.underlying src=some (.slice e)) (he:P.underlying e=some (.int .u8)) (hd:P.underlying dst=some .string) :
  (convert src dst (.slice A n c)).run P w=.ok (.string ⟨bs.toArray⟩) w:=by
 subst hn
 cases A with
 | none =>
  have:bs = []:=by
   cases hb:bs with
   | nil=>rfl
   | cons x r =>
    rw [hb] at h
    obtain ⟨ad,e,_⟩:=h 0 (bv x) (by simp)
    cases e
  subst this
  exact run_convert_bytes_nil w src e hs he _ _ dst hd
 | some a =>
  have hl:(loadCells a bs.length).run P w=.ok ((bs.map fun b=>(b.toNat:Int)).map (Value.int .u8)).toArray w:=by
   have:=run_loadCells_list (P:=P) w a (bs.map bv) (fun j v hj=>by
    obtain ⟨ad,e,hc⟩:=h j v hj
    injection e with e
    subst e
    exact hc)
   simp only [List.length_map] at this
   rw [this]
   congr 2
   simp [bv]
  rw [run_convert_bytes_string w src dst e _ _ c hs he hd,run_bytesToString w a _ c _ hl,foldl_push_bytes]
  have e1:(bs.map fun b=>(b.toNat:Int)).map (fun n=>UInt8.ofNat n.toNat)=bs:=by
   rw [List.map_map]
   have:((fun n:Int=>UInt8.ofNat n.toNat) ∘ fun b:UInt8=>(b.toNat:Int))=id:=by funext b;simp
   rw [this,List.map_id]
  rw [e1]
  simp [ByteArray.empty,ByteArray.emptyWithCapacity]
  rfl
theorem only_refl (w:World) (g:Option Nat):w.grownBy w g:=⟨rfl,rfl,rfl,Nat.le_refl _,fun _ _ _=>rfl⟩
theorem only_trans {a b c:World} {g:Option Nat} (h:a.grownBy b g) (k:b.grownBy c g):a.grownBy c g :=
 ⟨k.os.trans h.os,k.tape.trans h.tape,k.output.trans h.output,Nat.le_trans h.size k.size,fun i hi hne=>(k.block i (Nat.lt_of_lt_of_le hi h.size) hne).trans (h.block i hi hne)⟩
theorem only_of_gr {a b:World} (h:Gr a b) (g:Option Nat):a.grownBy b g:=⟨h.os,h.tape,h.output,h.size,fun i hi _=>h.block i hi⟩
theorem only_set (w:World) (g i:Nat) (u:Value):w.grownBy (w.setCell ⟨g,i,none⟩ u) (some g) :=
 ⟨rfl,rfl,rfl,by simp [World.setCell],fun k _ hne=>Below.heap_setCell w _ u k (fun e=>hne (by rw [e]))⟩
theorem only_gr {a b:World} (h:a.grownBy b none):Gr a b:=⟨h.os,h.tape,h.output,h.size,fun i hi=>h.block i hi (by simp)⟩
theorem Row.only {w w':World} {g h:Nat} {t:TypeId} {xs:List Value} (hr:Row w g t xs) (ho:w.grownBy w' (some h)) (hne:g≠h):Row w' g t xs :=
 (ho.block g hr.lt (by intro e;injection e with e;exact hne e)).trans hr
theorem made_one (z:Value) (h:z.cells = #[z]) (n:Nat):madeCells z.cells (n * 1)=(List.replicate n z).toArray:=by
 rw [h]
 apply Array.ext
 ·simp [madeCells]
 ·intro i h1 h2
  simp [madeCells,Nat.mod_one]
end Go.Proofs.Ytoihiehoolehiaa.Bk
set_option linter.unusedVariables false
set_option linter.unusedSimpArgs false
namespace Go.Proofs.Ytoihiehoolehiaa.Bk
open Go.RowKit
def Own (w:World) (B:Nat) (e:TypeId) (k:Nat) (A:Option Addr) (n c:Nat) (xs:List Value):Prop :=
 xs.length=n * k∧((A=none∧n=0∧c=0)∨∃ g rest,A=some ⟨g,0,none⟩∧B≤g∧Row w g e (xs ++ rest)∧n≤c∧c≤maxLen∧(xs ++ rest).length=c * k)
def blkOf:Option Addr→Option Nat
 | some a=>some a.block
 | none=>none
section
variable {w w':World} {B B':Nat} {e:TypeId} {k:Nat} {A:Option Addr} {n c:Nat} {xs:List Value}
theorem Own.nil (w:World) (B:Nat) (e:TypeId) (k:Nat):Own w B e k none 0 0 []:=⟨by simp,.inl ⟨rfl,rfl,rfl⟩⟩
theorem Own.empty (w:World) (e:TypeId) (k:Nat):Own (w.alloc (.cells #[] e)) w.heap.size e k (some ⟨w.heap.size,0,none⟩) 0 0 [] :=
 ⟨by simp,.inr ⟨w.heap.size,[],rfl,Nat.le_refl _,by simpa using Row.new w e [],Nat.le_refl _,by unfold maxLen;omega,by simp⟩⟩
theorem Own.of_row {g:Nat} (h:Row w g e xs) (hB:B≤g) (hl:xs.length=n * k) (hm:n≤maxLen):Own w B e k (some ⟨g,0,none⟩) n n xs :=
 ⟨hl,.inr ⟨g,[],rfl,hB,by simpa using h,Nat.le_refl _,hm,by simpa using hl⟩⟩
theorem Own.len (h:Own w B e k A n c xs):xs.length=n * k:=h.1
theorem Own.le (h:Own w B e k A n c xs):n≤c∧c≤maxLen:=by
 rcases h.2 with ⟨_,rfl,rfl⟩|⟨g,rest,_,_,_,h1,h2,_⟩
 ·exact ⟨Nat.le_refl _,by unfold maxLen;omega⟩
 ·exact ⟨h1,h2⟩
theorem Own.rd (h:Own w B e k A n c xs):Rd w A xs:=by
 rcases h.2 with ⟨_,rfl,_⟩|⟨g,rest,rfl,_,hr,_⟩
 ·have:xs = []:=List.eq_nil_of_length_eq_zero (by simpa using h.1)
  rw [this];exact Rd.nil _ _
 ·exact Rd.of_row hr
theorem Own.blk (h:Own w B e k A n c xs):∀ g,blkOf A=some g→B≤g∧g < w.heap.size:=by
 intro g hg
 rcases h.2 with ⟨rfl,_⟩|⟨g',rest,rfl,hb,hr,_⟩
 ·cases hg
 ·injection hg with hg
  subst hg
  exact ⟨hb,hr.lt⟩
theorem Own.more (h:Own w B e k A n c xs) (hB:∀ g,blkOf A=some g→B'≤g):Own w B' e k A n c xs:=by
 refine ⟨h.1,?_⟩
 rcases h.2 with h0|⟨g,rest,rfl,hb,r⟩
 ·exact .inl h0
 ·exact .inr ⟨g,rest,rfl,hB g rfl,r⟩
theorem Own.keep (h:Own w B e k A n c xs) {row:Option Nat} (hg:w.grownBy w' row) (hne:∀ g,blkOf A=some g→row≠some g):Own w' B e k A n c xs:=by
 refine ⟨h.1,?_⟩
 rcases h.2 with h0|⟨g,rest,rfl,hb,hr,r⟩
 ·exact .inl h0
 ·refine .inr ⟨g,rest,rfl,hb,?_,r⟩
  exact (hg.block g hr.lt (fun e=>hne g rfl e.symm)).trans hr
theorem Own.gr (h:Own w B e k A n c xs) (hb:Gr w w'):Own w' B e k A n c xs:=h.keep (only_of_gr hb none) (fun _ _=>by simp)
theorem Own.alloc (h:Own w B e k A n c xs) (o:Obj):Own (w.alloc o) B e k A n c xs:=h.gr ((Below.refl _ _).alloc (Nat.le_refl _) _)
theorem Own.drew (h:Own w B e k A n c xs):Own w.drew B e k A n c xs:=h.gr (Gr.draw _)
theorem Own.drewN (h:Own w B e k A n c xs) (m:Nat):Own (w.drewN m) B e k A n c xs:=h.gr (Gr.drawN _ _)
end
def RowKeep (w w':World) (A:Option Addr) (xs:List Value):Prop :=
 ∀ g e rest,A=some ⟨g,0,none⟩→Row w g e (xs ++ rest)→∃ rest',Row w' g e (xs ++ rest')∧rest'.length=rest.length
theorem RowKeep.gr {w w':World} {A:Option Addr} {xs:List Value} (h:Gr w w'):RowKeep w w' A xs:=fun g e rest _ hr=>⟨rest,hr.gr h,rfl⟩
def AppK (w w':World) (A A':Option Addr) (xs:List Value):Prop :=
 Rd w' A xs∧((A'=A∧w.grownBy w' (blkOf A))∨(A'=some ⟨w.heap.size,0,none⟩∧Gr w w'))∧RowKeep w w' A xs
theorem AppK.grown {w w':World} {A A':Option Addr} {xs:List Value} (h:AppK w w' A A' xs):w.grownBy w' (blkOf A):=by
 rcases h.2.1 with ⟨_,hg⟩|⟨_,hg⟩
 ·exact hg
 ·exact only_of_gr hg _
theorem AppK.below {w w':World} {A A':Option Addr} {xs:List Value} {B:Nat} (h:AppK w w' A A' xs) (hB:∀ g,blkOf A=some g→B≤g) (hw:B≤w.heap.size):Below B w w':=by
 have hg:=h.grown
 exact ⟨hg.os,hg.tape,hg.output,hg.size,fun i hi=>hg.block i (by omega) (fun e=>by have:=hB i e.symm;omega)⟩
theorem row_same {w:World} {g:Nat} {t t':TypeId} {xs ys:List Value} (h:Row w g t xs) (h':Row w g t' ys):t=t'∧xs=ys:=by
 unfold Row at h h'
 rw [h] at h'
 injection h' with h'
 injection h' with h1 h2
 exact ⟨h2,by simpa using h1⟩
theorem row_setRow {w:World} {g:Nat} {t:TypeId} {xs:List Value} (h:Row w g t xs) (ys:List Value):Row (w.setRow g ys.toArray) g t ys:=setRow_heap w g _ _ t _ h
theorem grown_setRow (w:World) (g:Nat) (ys:Array Value):w.grownBy (w.setRow g ys) (some g) :=
 ⟨rfl,rfl,rfl,by simp [World.setRow],fun k _ hk=>setRow_other w g k _ (fun e=>hk (by rw [e]))⟩
theorem gr_grow (w:World) (o:Obj):Gr w (w.drew.alloc o):=(Gr.draw w).trans ((Below.refl w.heap.size w.drew).alloc (Nat.le_refl _) o)
section
variable {P:Program} (w:World)
theorem own_grown {z:Value} (B:Nat) (e:TypeId) (k:Nat) (hzs:z.cells.size=k) (n m old:Nat) (xs news:List Value) (hx:xs.length=n * k) (hl:news.length=m * k) (ho:old < n+m) (h63:n+m≤maxLen) (hB:B≤w.heap.size) :
  Own (w.drew.alloc (.cells (xs.toArray ++ news.toArray ++ Builtin.zeroCells z.cells (grownCap w (n+m) old e - (n+m))) e)) B e k (some ⟨w.heap.size,0,none⟩) (n+m) (grownCap w (n+m) old e) (xs ++ news):=by
 have hge:=grownCap_ge w (n+m) old e
 have hcm:grownCap w (n+m) old e≤maxLen:=grownCap_le_maxLen w (n+m) old e h63
 have hsz:(Builtin.zeroCells z.cells (grownCap w (n+m) old e - (n+m))).size=(grownCap w (n+m) old e - (n+m)) * k:=by rw [size_zeroCells,hzs]
 refine ⟨by rw [List.length_append,hx,hl,Nat.add_mul],.inr ⟨w.heap.size,(Builtin.zeroCells z.cells (grownCap w (n+m) old e - (n+m))).toList,rfl,hB,?_,hge,hcm,?_⟩⟩
 ·have:=Row.new w.drew e ((xs ++ news) ++ (Builtin.zeroCells z.cells (grownCap w (n+m) old e - (n+m))).toList)
  have e1:((xs ++ news) ++ (Builtin.zeroCells z.cells (grownCap w (n+m) old e - (n+m))).toList).toArray=xs.toArray ++ news.toArray ++ Builtin.zeroCells z.cells (grownCap w (n+m) old e - (n+m)):=by
   apply Array.ext'
   simp
  rw [e1] at this
  exact this
 ·have e2:(Builtin.zeroCells z.cells (grownCap w (n+m) old e - (n+m))).toList.length=(grownCap w (n+m) old e - (n+m)) * k:=by simpa using hsz
  rw [List.length_append,List.length_append,e2,hx,hl,← Nat.add_mul,← Nat.add_mul]
  congr 1
  omega
theorem run_append_none (t ty e:TypeId) (i:TypeInfo) (ht:P.underlying t=some (.slice e)) (hi:P.info? e=some i) (A:Option Addr) (n c d:Nat) (hnc:n≤c) :
  (Builtin.append_ #[t,t] ty #[.slice A n c,.slice none 0 d]).run P w=.ok (.slice A n c) w:=by
 cases A with
 | none=>simp [Builtin.append_,run_underlying ht,sizeOf,typeInfo,hi,Builtin.lenOf,Builtin.firstCells,hnc]
 | some a=>simp [Builtin.append_,run_underlying ht,sizeOf,typeInfo,hi,Builtin.lenOf,Builtin.firstCells,hnc,storeCells]
theorem run_append (B:Nat) (t ty e:TypeId) (i:TypeInfo) (z:Value) (k bytes:Nat) (ht:P.underlying t=some (.slice e)) (hi:P.info? e=some i) (hz:i.zero=some z)
  (hsize:i.size=k) (hby:i.bytes=bytes) (hzs:z.cells.size=k) (hk:0 < k)
  (A:Option Addr) (n c:Nat) (xs:List Value) (hown:Own w B e k A n c xs)
  (S:Option Addr) (m d:Nat) (news:List Value) (hl:news.length=m * k) (hnews:Rd w S news) (h1:∀ u ∈ news,u.oneCell'=true)
  (hbytes:(n+m) * bytes≤140737488355328) (h63:n+m≤maxLen) (hB:B≤w.heap.size) :
  ∃ A' c' w',(Builtin.append_ #[t,t] ty #[.slice A n c,.slice S m d]).run P w=.ok (.slice A' (n+m) c') w'∧Own w' B e k A' (n+m) c' (xs ++ news)∧AppK w w' A A' xs:=by
 subst hsize
 subst hby
 have hx:=hown.1
 have hle:=hown.le
 have hrd:=hown.rd
 cases S with
 | none =>
  have hn:news = []:=by
   cases hb:news with
   | nil=>rfl
   | cons x r =>
    rw [hb] at hnews
    obtain ⟨ad,e,_⟩:=hnews 0 x (by simp)
    cases e
  have hm:m=0:=by
   subst hn
   rcases Nat.eq_zero_or_pos m with h|h
   ·exact h
   ·have:0 < m * i.size:=Nat.mul_pos h hk
    simp at hl
    omega
  subst hn
  subst hm
  exact ⟨A,c,w,run_append_none w t ty e i ht hi A n c d hle.1,by simpa using hown,hrd,.inl ⟨rfl,only_refl _ _⟩,RowKeep.gr (Gr.rfl' _)⟩
 | some a =>
  have hnews':∀ j u,news[j]? = some u→w.cell? (a.add j)=some u:=fun j u hu=>by
   obtain ⟨ad,e,hc⟩:=hnews j u hu
   injection e with e
   subst e
   exact hc
  have h63':((n+m:Nat):Int)≤9223372036854775807:=by unfold maxLen at h63;omega
  rcases hown.2 with ⟨rfl,rfl,rfl⟩|⟨g,rest,rfl,hbg,hrow,hnc,hcm,hcs⟩
  ·have hxe:xs = []:=List.eq_nil_of_length_eq_zero (by simpa using hx)
   subst hxe
   by_cases hm:m=0
   ·subst hm
    have hn:news = []:=List.eq_nil_of_length_eq_zero (by simpa using hl)
    subst hn
    refine ⟨none,0,w,?_,by simpa using hown,hrd,.inl ⟨rfl,only_refl _ _⟩,RowKeep.gr (Gr.rfl' _)⟩
    simp [Builtin.append_,run_underlying ht,sizeOf,typeInfo,hi,Builtin.lenOf,Builtin.firstCells,loadCells,loadCellsFrom]
   ·have hr:=run_append_nil (P:=P) w t ty e i z ht hi hz a m d news hl hnews' (by omega) (by omega) (by have hb:=hbytes;simp only [Nat.zero_add] at hb;omega)
    have hgr:=own_grown w (z:=z) B e i.size hzs 0 m 0 [] news (by simp) hl (by omega) h63 hB
    simp only [Nat.zero_add,List.nil_append,Array.empty_append] at hgr ⊢
    exact ⟨_,_,_,hr,hgr,Rd.nil _ _,.inr ⟨rfl,gr_grow _ _⟩,RowKeep.gr (gr_grow _ _)⟩
  ·by_cases hroom:n+m≤c
   ·have hlen:(xs ++ rest).length=c * i.size:=hcs
    have hfit:n * i.size+news.length≤(xs ++ rest).toArray.size:=by
     rw [hl,List.size_toArray,hcs,← Nat.add_mul]
     exact Nat.mul_le_mul_right _ hroom
    have hr:=run_append_room (P:=P) w t ty e i ht hi g n c _ hrow a m d news hl hnews' h1 hroom hfit
    have et:(xs ++ rest).take (n * i.size)=xs:=by rw [← hx];exact List.take_left
    simp only [et] at hr
    have hrow':=row_setRow hrow (xs ++ news ++ (xs ++ rest).drop (n * i.size+news.length))
    refine ⟨_,_,_,hr,⟨by rw [List.length_append,hx,hl,Nat.add_mul],.inr ⟨g,(xs ++ rest).drop (n * i.size+news.length),rfl,hbg,hrow',hroom,hcm,?_⟩⟩,?_,.inl ⟨rfl,grown_setRow _ _ _⟩,fun g' e' rest' hA hr'=>?_⟩
    ·rw [List.size_toArray] at hfit
     simp only [List.length_append,List.length_drop] at hcs hfit ⊢
     rw [hx] at hcs hfit ⊢
     omega
    ·refine Rd.of_row (t:=e) (ys:=news ++ (xs ++ rest).drop (n * i.size+news.length)) ?_
     rw [← List.append_assoc]
     exact hrow'
    ·injection hA with hA
     injection hA with hA
     subst hA
     obtain ⟨rfl,hre⟩:=row_same hrow hr'
     refine ⟨news ++ (xs ++ rest).drop (n * i.size+news.length),by rw [← List.append_assoc];exact hrow',?_⟩
     have h2:=congrArg List.length hre
     rw [List.size_toArray] at hfit
     simp only [List.length_append,List.length_drop] at hcs hfit h2 ⊢
     rw [hx] at hcs hfit h2 ⊢
     omega
   ·have holds:∀ j u,xs[j]? = some u→w.cell? ((⟨g,0,none⟩:Addr).add j)=some u:=fun j u hu=>by
     obtain ⟨ad,e,hc⟩:=hrd j u hu
     injection e with e
     subst e
     exact hc
    have hr:=run_append_grow (P:=P) w t ty e i z ht hi hz ⟨g,0,none⟩ n c xs hx holds a m d news hl hnews' (by omega) h63' (growslice_fits (by omega) hbytes)
    have hgr:=own_grown w (z:=z) B e i.size hzs n m c xs news hx hl (by omega) h63 hB
    exact ⟨_,_,_,hr,hgr,hrd.gr (gr_grow _ _),.inr ⟨rfl,gr_grow _ _⟩,RowKeep.gr (gr_grow _ _)⟩
theorem wpList_append {ops:Array Oper} {rest:List Oper} {o:Oper} {a:Act} {Q:Exit→Act→World→Prop} (hgd:o.guard=none) (s x:Operand) (t:TypeId)
  (ho:o.op=.call { callee:=.builtin .append,args:=#[s,x],argTypes:=#[t,t] })
  (B:Nat) (e:TypeId) (i:TypeInfo) (z:Value) (k bytes:Nat) (ht:P.underlying t=some (.slice e)) (hi:P.info? e=some i) (hz:i.zero=some z)
  (hsize:i.size=k) (hby:i.bytes=bytes) (hzs:z.cells.size=k) (hk:0 < k)
  (A:Option Addr) (n c:Nat) (xs:List Value) (hs:a.eval s=.slice A n c) (hown:Own w B e k A n c xs)
  (S:Option Addr) (m d:Nat) (news:List Value) (hx:a.eval x=.slice S m d) (hl:news.length=m * k) (hnews:Rd w S news) (h1:∀ u ∈ news,u.oneCell'=true)
  (hbytes:(n+m) * bytes≤140737488355328) (h63:n+m≤maxLen) (hB:B≤w.heap.size)
  (h:∀ A' c' w',Own w' B e k A' (n+m) c' (xs ++ news)→AppK w w' A A' xs→wpList P ops Q rest (a.put o.dst (.slice A' (n+m) c')) w'):wpList P ops Q (o :: rest) a w:=by
 refine wpList_plain hgd fun K hK=>?_
 obtain ⟨A',c',w',hr,h2,h3⟩:=run_append (P:=P) w B t o.type e i z k bytes ht hi hz hsize hby hzs hk A n c xs hown S m d news hl hnews h1 hbytes h63 hB
 unfold Oper.wp execOp
 simp only [ho,resolve,invoke,builtin,Sem.run_bind,Sem.run_pure,Result.andThen_ok,List.map_toArray,List.map_cons,List.map_nil,hs,hx,hr]
 exact hK _ _ (h A' c' w' h2 h3)
end
structure AppTo (w:World) (B:Nat) (e:TypeId) (k:Nat) (A:Option Addr) (xs:List Value) (w':World) (A':Option Addr) (n' c':Nat) (xs':List Value):Prop where
 own:Own w' B e k A' n' c' xs'
 grown:w.grownBy w' (blkOf A)
 rd:Rd w' A xs
 at_:(A'=A∧xs <+: xs')∨∀ g,blkOf A'=some g→w.heap.size≤g
 base:B≤w.heap.size
 lt:∀ g,blkOf A=some g→g < w.heap.size
 keep:RowKeep w w' A xs
section
variable {w w' w'':World} {B:Nat} {e:TypeId} {k:Nat} {A A' A'':Option Addr} {n c n' c' n'' c'':Nat} {xs xs' xs'' news:List Value}
theorem AppTo.refl (h:Own w B e k A n c xs) (hB:B≤w.heap.size):AppTo w B e k A xs w A n c xs:=⟨h,only_refl _ _,h.rd,.inl ⟨rfl,List.prefix_refl _⟩,hB,fun g hg=>(h.blk g hg).2,RowKeep.gr (Gr.rfl' _)⟩
theorem AppTo.gr (h:AppTo w B e k A xs w' A' n' c' xs') (hg:Gr w' w''):AppTo w B e k A xs w'' A' n' c' xs' :=
 ⟨h.own.gr hg,only_trans h.grown (only_of_gr hg _),h.rd.gr hg,h.at_,h.base,h.lt,fun g e rest hA hr=>by
  obtain ⟨r,h1,h2⟩:=h.keep g e rest hA hr
  exact ⟨r,h1.gr hg,h2⟩⟩
theorem AppTo.size (h:AppTo w B e k A xs w' A' n' c' xs'):w.heap.size≤w'.heap.size:=h.grown.size
theorem AppTo.step (h:AppTo w B e k A xs w' A' n' c' xs') (ho:Own w'' B e k A'' n'' c'' (xs' ++ news)) (hk:AppK w' w'' A' A'' xs'):AppTo w B e k A xs w'' A'' n'' c'' (xs' ++ news):=by
 have hs:=h.grown.size
 refine ⟨ho,?_,?_,?_,h.base,h.lt,?_⟩
 ·have hg:=hk.grown
  refine ⟨hg.os.trans h.grown.os,hg.tape.trans h.grown.tape,hg.output.trans h.grown.output,Nat.le_trans hs hg.size,fun i hi hne=>?_⟩
  rw [hg.block i (Nat.lt_of_lt_of_le hi hs) ?_,h.grown.block i hi hne]
  rcases h.at_ with ⟨rfl,_⟩|hn
  ·exact hne
  ·intro e
   have:=hn i e.symm
   omega
 ·rcases h.at_ with ⟨rfl,hp⟩|hn
  ·obtain ⟨r,rfl⟩:=hp
   intro j u hu
   have hl:=(List.getElem?_eq_some_iff.1 hu).1
   exact hk.1 j u (by rw [List.getElem?_append_left hl];exact hu)
  ·intro j u hu
   obtain ⟨ad,rfl,hc⟩:=h.rd j u hu
   refine ⟨ad,rfl,?_⟩
   rcases hk.2.1 with ⟨e1,hg⟩|⟨e1,hg⟩
   ·refine hg.cell hc ?_
    intro e2
    have h3:=hn _ e2.symm
    rw [block_of_add] at h3
    have h4:=h.lt _ rfl
    omega
   ·exact hg.cell hc
 ·rcases hk.2.1 with ⟨e1,hg⟩|⟨e1,hg⟩
  ·subst e1
   rcases h.at_ with ⟨e2,hp⟩|hn
   ·exact .inl ⟨e2,hp.trans (List.prefix_append _ _)⟩
   ·exact .inr hn
  ·refine .inr fun g hgb=>?_
   subst e1
   injection hgb with hgb
   subst hgb
   exact hs
 ·intro g e2 rest hA hr
  obtain ⟨r,h1,h2⟩:=h.keep g e2 rest hA hr
  rcases h.at_ with ⟨rfl,hp⟩|hn
  ·obtain ⟨t,rfl⟩:=hp
   rcases h.own.2 with ⟨e3,_⟩|⟨g',r',e3,_,hr',_⟩
   ·rw [e3] at hA;cases hA
   ·rw [e3] at hA
    injection hA with hA
    injection hA with hA
    subst hA
    obtain ⟨rfl,hre⟩:=row_same hr' h1
    obtain ⟨r2,h3,h4⟩:=hk.2.2 _ _ r' e3 hr'
    refine ⟨t ++ r2,by rw [← List.append_assoc];exact h3,?_⟩
    have:=congrArg List.length hre
    simp only [List.length_append] at this ⊢
    omega
  ·refine ⟨r,?_,h2⟩
   have hlt:=h.lt g (by rw [hA];rfl)
   exact (hk.grown.block g h1.lt (fun e4=>by have:=hn g e4.symm;omega)).trans h1
end
theorem Rd.new (w:World) (xs:List Value) (t:TypeId):Rd (w.alloc (.cells xs.toArray t)) (some ⟨w.heap.size,0,none⟩) xs:=Rd.of_row' (t:=t) (Row.new w t xs)
end Go.Proofs.Ytoihiehoolehiaa.Bk
set_option linter.unusedVariables false
set_option linter.unusedSimpArgs false
namespace Go.Proofs.Ytoihiehoolehiaa.Bk
open Go.RowKit Go.Proofs.YtoihiehoolehiaaW.PrintWords Go.Proofs.YtoihiehoolehiaaW.PrintLast Go.Proofs.YtoihiehoolehiaaW.PrintMore Go.Proofs.Ytoihiehoolehiaa.PX
def Sml (t:Sc):Prop:=∀ d ∈ t,d.f0.length≤1000∧∀ f ∈ d.f0,f.f0.f1.length≤1000
theorem checks_of {w:World} {A:Option Addr} {c n:Nat} {t:Sc} (hn:t.length=n) (hC:Kd.C k33 w A t.length t) (hc:t.length≤c) (hs:Sml t) :
  Calls Try.prog 11 #[.slice A n c] w (fun e w'=>e=.returned (.int .i64 (checkM t))∧Gr w w') ∧
   ∀ w1,Gr w w1→Calls Try.prog 12 #[.slice A n c] w1 fun e w'=>e=.returned (.int .i64 (checkM t))∧Gr w1 w':=by
 subst hn
 obtain ⟨k1,h1⟩:=(check_ev t (fun d hd=>⟨by have:=(hs d hd).1;omega,fun f hf=>by have:=(hs d hd).2 f hf;unfold FieldOk;omega⟩)).rounds
 obtain ⟨k2,h2⟩:=(check4_ev t (fun d hd f hf=>by have:=(hs d hd).2 f hf;omega)).rounds
 exact ⟨(schema_Check.calls k1 A c t (checkM t) w hC hc h1).mono fun e w' h=>⟨h.1,h.2⟩,fun w1 hg=>(cadenceref4_Check.calls k2 A c t (checkM t) w1 (Kd.C_below hC hg) hc h2).mono fun e w' h=>⟨h.1,h.2⟩⟩
section
variable {w w1 w2:World} {g j:Nat} {u u' v0:Value}
theorem turned_set (h:w.cell? ⟨g,j,none⟩=some v0) (u:Value):Turned w (w.setCell ⟨g,j,none⟩ u) g j u :=
 ⟨only_set w g j u,fun v hv=>World.cell?_setCell_same w _ u hv,fun m hm v hv=>(World.cell?_setCell_other w _ _ u (fun e=>hm (by injection e with _ e;exact e.symm))).trans hv⟩
theorem turned_refl (h:w.cell? ⟨g,j,none⟩=some u):Turned w w g j u :=
 ⟨only_refl _ _,fun v hv=>h,fun m hm v hv=>hv⟩
theorem turned_step (h:Turned w w1 g j u) (h0:w.cell? ⟨g,j,none⟩=some v0) (hg:Gr w1 w2) (u':Value):Turned w (w2.setCell ⟨g,j,none⟩ u') g j u':=by
 have h1:=hg.cell (h.same _ h0)
 exact ⟨only_trans (only_trans h.gr (only_of_gr hg _)) (only_set w2 g j u'),fun v hv=>World.cell?_setCell_same w2 _ u' h1,fun m hm v hv=>(World.cell?_setCell_other w2 _ _ u' (fun e=>hm (by injection e with _ e;exact e.symm))).trans (hg.cell (h.other m hm v hv))⟩
end
section
variable {w w':World} {base:Nat} {ok:Nat→Prop} {v u:Value} {gF j:Nat} {cur:Array Value} {s:Sc}
theorem both_turned (hR:k33.R 33 w base ok v s) (hb:w.heap[gF]? = some (.cells cur 40 (0,0))) (hl:∀ d ∈ s,d.f0.length≤3∧∀ f ∈ d.f0,f.f0.f1.length≤100) (hT:Turned w w' gF j u) (hu:PartOk w' (j % 4) u) :
  ∃ z:Int,Calls Try.prog 11 #[v] w' (fun e w2=>e=.returned (.int .i64 z)∧Gr w' w2) ∧
   ∀ w1,Gr w' w1→Calls Try.prog 12 #[v] w1 fun e w2=>e=.returned (.int .i64 z)∧Gr w1 w2:=by
 obtain ⟨A,c,t,rfl,hc,hl2,hC,ht⟩:=schema_set hR hb hl hT hu
 exact ⟨_,checks_of hl2 hC (by omega) (fun d hd=>⟨by have:=(ht d hd).1;omega,fun f hf=>by have:=(ht d hd).2 f hf;omega⟩)⟩
theorem made_at (hR:k33.R 33 w base ok v s) (h0:0 < s.length):∃ gT cT,v=.slice (some ⟨gT,0,none⟩) s.length cT∧s.length≤cT∧∀ i (hi:i < s.length),∃ AF cF,w.cell? ⟨gT,i * 3,none⟩=some (.slice AF s[i].f0.length cF) ∧
  ∀ k (hk:k < s[i].f0.length),∃ gF cur AL cL,AF=some ⟨gF,0,none⟩∧base≤gF∧w.heap[gF]? = some (.cells cur 40 (0,0))∧w.cell? ⟨gF,k * 4,none⟩=some (.bool s[i].f0[k].f0.f0)∧w.cell? ⟨gF,k * 4+1,none⟩=some (.slice AL s[i].f0[k].f0.f1.length cL) ∧
   w.cell? ⟨gF,k * 4+2,none⟩=some (.int .i64 s[i].f0[k].f1)∧w.cell? ⟨gF,k * 4+3,none⟩=some (.bool s[i].f0[k].f2)∧s[i].f0[k].f0.f1.length≤cL∧Kd.C Kd.string w AL s[i].f0[k].f0.f1.length s[i].f0[k].f0.f1:=by
 obtain ⟨hok,ho⟩:=hR
 obtain ⟨inner,hown,hreps⟩:=ho
 obtain ⟨A,c,hv,hlc,hrow⟩:=OwnRow.reads (R:=k33.M w base (fun k=>ok k∧some k≠v.ownBlock)) ⟨inner,hown,hreps⟩
 obtain ⟨gT,cr,rfl,hh⟩:=own_spot hown hv h0
 obtain ⟨ad,e,hc⟩:=hrow.2.2 h0
 injection e with e
 subst e
 refine ⟨gT,c,hv,hlc,fun i hi=>?_⟩
 obtain ⟨cs,hcl,hM,hcs⟩:=hc i s[i] (List.getElem?_eq_getElem hi)
 obtain ⟨vF,rfl,hF⟩:=k33_openM hM
 obtain ⟨hokF,inF,hownF,hrepF⟩:=hF
 obtain ⟨AF,cF,hvF,hlF,hrowF⟩:=OwnRow.reads (R:=k40.M w base (fun k=>(ok k∧some k≠v.ownBlock)∧some k≠vF.ownBlock)) ⟨inF,hownF,hrepF⟩
 have h1:=hcs 0 vF rfl
 rw [add_flat] at h1
 refine ⟨AF,cF,by rw [← hvF];exact h1,fun k hk=>?_⟩
 obtain ⟨gF,cur,rfl,hhF⟩:=own_spot hownF hvF (by omega)
 obtain ⟨ad,e,hcF⟩:=hrowF.2.2 (by omega)
 injection e with e
 subst e
 obtain ⟨cs,hcl2,hM2,hcs2⟩:=hcF k s[i].f0[k] (List.getElem?_eq_getElem hk)
 obtain ⟨vL,rfl,hL⟩:=k40_openM hM2
 obtain ⟨AL,cL,rfl,hlL,hCL⟩:=Kd.R_reads hL
 have q0:=hcs2 0 _ rfl
 have q1:=hcs2 1 _ rfl
 have q2:=hcs2 2 _ rfl
 have q3:=hcs2 3 _ rfl
 rw [add_flat] at q0 q1 q2 q3
 exact ⟨gF,cur,AL,cL,rfl,own_base hownF gF (by rw [hvF];rfl),hhF,q0,q1,q2,q3,hlL,hCL⟩
end
theorem rd_of_C {w:World} {A:Option Addr} {n:Nat} {l:List ByteArray} (h:Kd.C Kd.string w A n l):Rd w A (l.map Value.string):=by
 intro j u hu
 rw [List.getElem?_map] at hu
 obtain ⟨x,hx,rfl⟩:=Option.map_eq_some_iff.1 hu
 have hj:=(List.getElem?_eq_some_iff.1 hx).1
 have hl:l.length=n:=h.1
 obtain ⟨ad,e,hc⟩:=h.2.2 (by omega)
 obtain ⟨cs,_,hK,hcs⟩:=hc j x hx
 have hK:cs = [.string x]:=hK
 subst hK
 have:=hcs 0 _ rfl
 refine ⟨ad,e,?_⟩
 rwa [Nat.add_zero,show j * Kd.string.sz=j from Nat.mul_one j] at this
theorem C_of_rd {w:World} {A:Option Addr} {l:List ByteArray} (h:Rd w A (l.map Value.string)) (hl:l.length≤1000000):Kd.C Kd.string w A l.length l:=by
 refine ⟨rfl,by omega,fun h0=>?_⟩
 obtain ⟨ad,e,_⟩:=h 0 _ (by rw [List.getElem?_map,List.getElem?_eq_getElem h0];rfl)
 refine ⟨ad,e,fun j x hx=>⟨[.string x],rfl,rfl,fun i u hu=>?_⟩⟩
 have hi:i=0:=by
  have:=(List.getElem?_eq_some_iff.1 hu).1
  simpa using this
 subst hi
 obtain rfl:Value.string x=u:=by simpa using hu
 obtain ⟨ad',e',hc⟩:=h j (.string x) (by rw [List.getElem?_map,hx];rfl)
 rw [e] at e'
 injection e' with e'
 subst e'
 rwa [Nat.add_zero,show j * Kd.string.sz=j from Nat.mul_one j]
theorem info_str:(Try.prog.info? 9).map (fun i=>(i.zero,i.size,i.bytes))=some (some (.string ByteArray.empty),1,16):=by kernel_rfl
theorem info_u8:(Try.prog.info? 5).map (fun i=>(i.zero,i.size,i.bytes))=some (some (.int .u8 0),1,1):=by kernel_rfl
theorem str_one (l:List ByteArray):∀ u ∈ l.map Value.string,u.oneCell'=true:=by
 intro u hu
 obtain ⟨y,_,rfl⟩:=List.mem_map.1 hu
 rfl
theorem Gr.grownBk {w w' w'':World} {row:Option Nat} (h:Gr w w') (k:w'.grownBy w'' row) (hr:∀ g,row=some g→w.heap.size≤g):Gr w w'' :=
 ⟨k.os.trans h.os,k.tape.trans h.tape,k.output.trans h.output,Nat.le_trans h.size k.size,fun i hi=>(k.block i (Nat.lt_of_lt_of_le hi h.size) (fun e=>by have:=hr i e.symm;omega)).trans (h.block i hi)⟩
section
variable {w w':World} {A:Option Addr}
theorem Rd.grown {row:Option Nat} {xs:List Value} (hr:Rd w A xs) (hg:w.grownBy w' row) (hne:0 < xs.length→∀ ad,A=some ad→row≠some ad.block):Rd w' A xs:=by
 intro j u hu
 obtain ⟨ad,rfl,hc⟩:=hr j u hu
 refine ⟨ad,rfl,?_⟩
 have hb:(ad.add j).block=ad.block:=block_of_add ad j
 have hlt:=World.block_lt_of_cell? w _ hc
 have:=hg.block _ hlt (by
  rw [hb]
  intro e
  exact hne (by have:=(List.getElem?_eq_some_iff.1 hu).1;omega) ad rfl (by simpa using e.symm))
 rw [← hc]
 unfold World.cell?
 rw [this]
end
end Go.Proofs.Ytoihiehoolehiaa.Bk
set_option linter.unusedVariables false
set_option linter.unusedSimpArgs false
namespace Go.Proofs.Ytoihiehoolehiaa.Bk
open Go.RowKit Go.Proofs.YtoihiehoolehiaaW.PrintWords Go.Proofs.YtoihiehoolehiaaW.PrintLast Go.Proofs.YtoihiehoolehiaaW.PrintMore Go.Proofs.Ytoihiehoolehiaa.PX
section
variable {w w1 w2:World} {g j n c B:Nat} {u v0:Value} {A:Option Addr} {l:List ByteArray}
theorem app_rd (ho:Own w2 B 9 1 A n c (l.map Value.string)) (hB:g < B) (v:Value):Rd (w2.setCell ⟨g,j,none⟩ v) A (l.map Value.string) :=
 ho.rd.grown (only_set w2 g j v) (fun _ ad e h=>by
  have:=(ho.blk ad.block (by rw [e];rfl)).1
  injection h with h
  omega)
theorem app_part (hn:l.length=n) (ho:Own w2 B 9 1 A n c (l.map Value.string)) (hB:g < B) (v:Value) (hl:l.length≤100):PartOk (w2.setCell ⟨g,j,none⟩ v) 1 (.slice A n c):=by
 subst hn
 exact .inr (.inl ⟨rfl,A,c,l,rfl,ho.le.1,C_of_rd (app_rd ho hB v) (by omega),hl⟩)
end
section
variable {w w1 w2:World} {base:Nat} {ok:Nat→Prop} {v u v0:Value} {gF j n c B:Nat} {cur:Array Value} {s:Sc} {A:Option Addr} {l:List ByteArray}
theorem app_both (hR:k33.R 33 w base ok v s) (hb:w.heap[gF]? = some (.cells cur 40 (0,0))) (hl:∀ d ∈ s,d.f0.length≤3∧∀ f ∈ d.f0,f.f0.f1.length≤100) (hT:Turned w w1 gF j u) (h0:w.cell? ⟨gF,j,none⟩=some v0) (hj:j % 4=1) (hg:Gr w1 w2)
  (hn:l.length=n) (ho:Own w2 B 9 1 A n c (l.map Value.string)) (hB:gF < B) (hl2:l.length≤100) :
  ∃ z:Int,Calls Try.prog 11 #[v] (w2.setCell ⟨gF,j,none⟩ (.slice A n c)) (fun e w3=>e=.returned (.int .i64 z)∧Gr (w2.setCell ⟨gF,j,none⟩ (.slice A n c)) w3) ∧
   ∀ w4,Gr (w2.setCell ⟨gF,j,none⟩ (.slice A n c)) w4→Calls Try.prog 12 #[v] w4 fun e w3=>e=.returned (.int .i64 z)∧Gr w4 w3 :=
 both_turned hR hb hl (turned_step hT h0 hg (.slice A n c)) (by rw [hj];exact app_part hn ho hB _ hl2)
end
theorem wrap_char (m:Nat) (hm:m≤100):IntKind.u8.wrap (IntKind.i64.wrap (97+(m:Int)))=97+(m:Int):=by
 have h1:IntKind.i64.wrap (97+(m:Int))=97+(m:Int):=by
  simp only [IntKind.wrap,IntKind.bits,IntKind.signed]
  simp
  omega
 rw [h1]
 have h:∀ k,IntKind.u8.wrap k=k % 256:=fun k=>by simp [IntKind.wrap,IntKind.bits,IntKind.signed]
 rw [h]
 omega
section
variable {W W':World}
theorem gr_of_empty {e:TypeId} {k:Nat} {B:Nat} {A A':Option Addr} (ho:Own W B e k A 0 0 []) (hk:AppK W W' A A' []):Gr W W':=by
 rcases hk.2.1 with ⟨rfl,hg⟩|⟨rfl,hg⟩
 ·rcases ho.2 with ⟨rfl,_⟩|⟨g,rest,rfl,hb,hr,_,_,hl⟩
  ·exact only_gr hg
  ·have hrest:rest = []:=List.eq_nil_of_length_eq_zero (by simpa using hl)
   subst hrest
   obtain ⟨r',hr',hl'⟩:=hk.2.2 g e [] rfl hr
   have hr0:r' = []:=List.eq_nil_of_length_eq_zero hl'
   subst hr0
   refine ⟨hg.os,hg.tape,hg.output,hg.size,fun i hi=>?_⟩
   by_cases e1:i=g
   ·subst e1
    exact hr'.trans hr.symm
   ·exact hg.block i hi (fun e2=>by injection e2 with e2;exact e1 e2)
 ·exact hg
end
theorem sz_alloc (w:World) (o:Obj):(w.alloc o).heap.size=w.heap.size+1:=by simp [World.alloc,-World.alloc_eq]
theorem mk_zeros (w:World) (l:Int) (n:Nat) (hl:l=n) (h:n≤100000) :
  (Instr.makeSlice 41 (.int .i64 l) (.int .i64 l)).run Try.prog w=.ok (.slice (some ⟨w.heap.size,0,none⟩) n n) (w.alloc (.cells ((List.replicate n (0:UInt8)).map bv).toArray 5)):=by
 obtain ⟨i0,hi0,hz0,hz1,hz2⟩:=info_parts info_u8
 have hmk:=run_make (P:=Try.prog) w 41 5 i0 _ Try.underlying41 hi0 hz0 .i64 .i64 l l (by omega) (by omega) (by rw [hz2];omega) (by omega)
 subst hl
 simp only [Int.toNat_natCast,hz1,made_one (.int .u8 0) rfl] at hmk
 rw [hmk]
 simp [bv]
theorem mk_str (w:World) (l:Int) (n:Nat) (hl:l=n) (h:n≤100000) :
  ∃ (zs:Str) (Wm:World),zs=List.replicate n 0∧(Instr.makeSlice 41 (.int .i64 l) (.int .i64 l)).run Try.prog w=.ok (.slice (some ⟨w.heap.size,0,none⟩) n n) Wm ∧
   (convert 41 9 (.slice (some ⟨w.heap.size,0,none⟩) n n)).run Try.prog Wm=.ok (.string ⟨zs.toArray⟩) Wm∧Gr w Wm∧Rd Wm (some ⟨w.heap.size,0,none⟩) (zs.map bv)∧Wm.heap.size=w.heap.size+1:=by
 have hrd:=Rd.new w ((List.replicate n (0:UInt8)).map bv) 5
 exact ⟨_,_,rfl,mk_zeros w l n hl h,run_str (P:=Try.prog) hrd 41 9 5 n n (by simp) Try.underlying41 Try.underlying5 Try.underlying9,Gr.alloc1 _ _,hrd,sz_alloc _ _⟩
end Go.Proofs.Ytoihiehoolehiaa.Bk
set_option linter.unusedVariables false
set_option linter.unusedSimpArgs false
namespace Go.Proofs.Ytoihiehoolehiaa.Bk
open Go.RowKit
theorem within_neg {a n:Int} (hn:0 < n) (hn2:n≤4611686018427387904) (ha:a < 0) (h:a.tmod n < 0):wrap64 (a.tmod n+n)=a % n:=by
 have h1:=Int.emod_nonneg a (show n≠0 by omega)
 have h2:=Int.emod_lt_of_pos a hn
 rw [Int.tmod_eq_emod] at h ⊢
 split at h
 ·omega
 ·rename_i hc
  rw [if_neg hc]
  unfold wrap64
  omega
theorem within_pos {a n:Int} (hn:0 < n) (ha:a < 0) (h:¬ a.tmod n < 0):a.tmod n=a % n:=by
 have h1:=Int.emod_nonneg a (show n≠0 by omega)
 have h2:=Int.emod_lt_of_pos a hn
 rw [Int.tmod_eq_emod] at h ⊢
 split at h
 ·rename_i hc
  rw [if_pos hc]
  omega
 ·omega
theorem within1_any (a n:Int) (w:World) (h0 : -9223372036854775808≤a) (h1:a≤9223372036854775807) (hn:0 < n) (hn2:n≤4611686018427387904) :
  Calls Try.prog 13 #[.int .i64 a,.int .i64 n] w fun e w'=>e=.returned (.int .i64 (a % n))∧w=w':=by
 by_cases ha:0≤a
 ·have hm:=Int.emod_nonneg a (show n≠0 by omega)
  go_enter Try.func13,Try.ntmps13
  go_wp2
  go_ret
  exact ⟨rfl,rfl⟩
 ·have ha':a < 0:=by omega
  clear ha
  by_cases hm:a.tmod n < 0
  ·have H:=Lib.hid (within_neg hn hn2 ha' hm)
   go_enter Try.func13,Try.ntmps13
   go_wp2
   go_ret
   exact ⟨by rw [← H.out];rfl,rfl⟩
  ·have H:=Lib.hid (within_pos hn ha' hm)
   go_enter Try.func13,Try.ntmps13
   go_wp2
   go_ret
   exact ⟨by rw [← H.out];rfl,rfl⟩
end Go.Proofs.Ytoihiehoolehiaa.Bk
