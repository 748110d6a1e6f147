/- Texts on the way to 'SchemaLevels', one behind the other (part 2). -/
import Derived.Test.YtoihiehoolehiaaMSchemaLevels1
namespace Go.Proofs.Ytoihiehoolehiaa.PX
open Go.RowKit Go.Proofs.YtoihiehoolehiaaW.PrintWords Go.Proofs.YtoihiehoolehiaaW.PrintLast Go.Proofs.YtoihiehoolehiaaW.PrintMore
attribute [local go_sem] max2_int min2_int max_two min_two max_three min_three max_four min_four   
set_option linter.unusedVariables false
set_option linter.unusedSimpArgs false
def cadenceref3_in.l0:Nat→List ByteArray→ByteArray→Int→Option (Bool)
 | 0,_,_,_=>none
 | k+1,x0,x1,x5=>if x5 < (x0.length:Int) then (if 0≤x5 then (if (rdOf ByteArray.empty x0 x5).toList=x1.toList then (some true) else (cadenceref3_in.l0 k x0 x1 (wrap64 (x5+1)))) else (none)) else (some false)
def cadenceref3_in.f (k:Nat) (l0:List ByteArray) (a1:ByteArray):Option (Bool):=cadenceref3_in.l0 k l0 a1 0
theorem cadenceref3_in.mono_l:∀ k,(∀ y0 y1 y2,LeO (cadenceref3_in.l0 k y0 y1 y2) (cadenceref3_in.l0 (k+1) y0 y1 y2))
 | 0=>fun _ _ _ r h=>by simp [cadenceref3_in.l0] at h
 | k+1=>by
  have ih0:=cadenceref3_in.mono_l k
  ·intro y0 y1 y2
   unfold cadenceref3_in.l0
   repeat' first
   | (with_reducible exact ih0 _ _ _)
   | (with_reducible exact LeO.refl _)
   | (with_reducible exact LeO.none _)
   | (with_reducible refine LeO.ite ?_ ?_)
   | (with_reducible refine LeO.bind ?_ (fun _=>?_))
   | exact ih0 _ _ _
   | exact LeO.none _
   | refine LeO.ite ?_ ?_
   | refine LeO.bind ?_ (fun _=>?_)
theorem cadenceref3_in.mono:∀ a0 a1 k,LeO (cadenceref3_in.f k a0 a1) (cadenceref3_in.f (k+1) a0 a1):=by
 intro a0 a1 k
 have ih0:=cadenceref3_in.mono_l k
 unfold cadenceref3_in.f
 repeat' first
   | (with_reducible exact ih0 _ _ _)
   | (with_reducible exact LeO.refl _)
   | (with_reducible exact LeO.none _)
   | (with_reducible refine LeO.ite ?_ ?_)
   | (with_reducible refine LeO.bind ?_ (fun _=>?_))
   | exact ih0 _ _ _
   | exact LeO.none _
   | refine LeO.ite ?_ ?_
   | refine LeO.bind ?_ (fun _=>?_)
set_option maxHeartbeats 8000000 in
set_option maxRecDepth 100000 in
theorem cadenceref3_in.calls (k:Nat) (A0:Option Addr) (c0:Nat) (l0:List ByteArray) (a1:ByteArray) (r:Bool) (w:World) (hr0:Kd.C Kd.string w A0 l0.length l0) (hc0:l0.length≤c0) (h:cadenceref3_in.f k l0 a1=some r) :
  Calls Try.prog 60 #[.slice A0 l0.length c0,.string a1] w fun e w'=>e=.returned (.bool r)∧Drawn0 w w':=by
 have HR0:=Aside0.mk hr0
 have HC0:=Aside0.mk hc0
 clear hr0 hc0
 have H:(cadenceref3_in.l0 k l0 a1 0)=some r:=h
 clear h
 have H':=Aside0.mk H
 clear H
 go_enter Try.func60,Try.ntmps60
 go_wp2
 go_loopg [5] k (fun kq v5 w'=>∃ (x5_1:Int),v5=.int .i64 x5_1∧Aside0 (cadenceref3_in.l0 kq l0 a1 x5_1=some r)∧Aside0 (kq≤k)∧Drawn0 w w')
 case atStart=>exact ⟨(0),(by first|rfl|(simp;done)|(simp [*];done)),H',⟨Nat.le_refl _⟩,by repeat (first|exact Drawn0.refl _|apply Drawn0.step)⟩
 case round =>
  clear H'
  try clear p2
  obtain ⟨x5_1,rfl,HA,HK1,⟨m1,rfl⟩⟩:=hrel
  cases gk with
  | zero=>exact absurd HA.out (by simp [cadenceref3_in.l0])
  | succ k1 =>
   have H:=HA.out
   clear HA
   simp only [cadenceref3_in.l0] at H
   by_cases c3:x5_1 < (l0.length:Int)
   ·rw [if_pos c3] at H
    have c3b0:decide (x5_1 < (l0.length:Int))=true:=decide_eq_true c3
    clear c3
    by_cases c4:0≤x5_1
    ·rw [if_pos c4] at H
     have c4b0:decide (0≤x5_1)=true:=decide_eq_true c4
     clear c4
     by_cases c5:(rdOf ByteArray.empty l0 x5_1).toList=a1.toList
     ·rw [if_pos c5] at H
      have c5b0:((rdOf ByteArray.empty l0 x5_1).toList == a1.toList)=true:=beq_iff_eq.mpr c5
      have c5b1:((rdOf ByteArray.empty l0 x5_1).toList != a1.toList)=false:=bne_eq_false_iff_eq.mpr c5
      clear c5
      obtain rfl:=Option.some.inj H
      have p115:0≤(x5_1:Int):=of_decide_eq_true (by first|(with_reducible assumption)|assumption)
      have q115:x5_1 < (l0.length:Int):=of_decide_eq_true (by first|(with_reducible assumption)|assumption)
      obtain ⟨ad115,e115,hx115_0⟩:=Kd.at_string HR0.out x5_1 p115 q115
      cases e115
      replace p115:=eq_true p115
      replace q115:=eq_true q115
      go_wp2
      go_ret
      exact ⟨by first|rfl|(simp;done)|(simp [*];done),by repeat (first|exact Drawn0.refl _|apply Drawn0.step)⟩
     ·rw [if_neg c5] at H
      have c5b0:((rdOf ByteArray.empty l0 x5_1).toList == a1.toList)=false:=beq_eq_false_iff_ne.mpr c5
      have c5b1:((rdOf ByteArray.empty l0 x5_1).toList != a1.toList)=true:=bne_iff_ne.mpr c5
      have H':=Aside0.mk H
      clear H
      have p115:0≤(x5_1:Int):=of_decide_eq_true (by first|(with_reducible assumption)|assumption)
      have q115:x5_1 < (l0.length:Int):=of_decide_eq_true (by first|(with_reducible assumption)|assumption)
      obtain ⟨ad115,e115,hx115_0⟩:=Kd.at_string HR0.out x5_1 p115 q115
      cases e115
      replace p115:=eq_true p115
      replace q115:=eq_true q115
      go_wp2
      go_roundg k1
      case measure=>have:=HK1.out;omega
      case rel=>exact ⟨(wrap64 (x5_1+1)),(by first|rfl|(simp;done)|(simp [*];done)),H',⟨by have:=HK1.out;omega⟩,by repeat (first|exact Drawn0.refl _|apply Drawn0.step)⟩
    ·rw [if_neg c4] at H
     exact absurd H (by simp)
   ·rw [if_neg c3] at H
    have c3b0:decide (x5_1 < (l0.length:Int))=false:=decide_eq_false c3
    clear c3
    obtain rfl:=Option.some.inj H
    go_wp2
    go_ret
    exact ⟨by first|rfl|(simp;done)|(simp [*];done),by repeat (first|exact Drawn0.refl _|apply Drawn0.step)⟩
end Go.Proofs.Ytoihiehoolehiaa.PX
namespace Go.Proofs.Ytoihiehoolehiaa.PX
open Go.RowKit Go.Proofs.YtoihiehoolehiaaW.PrintWords Go.Proofs.YtoihiehoolehiaaW.PrintLast Go.Proofs.YtoihiehoolehiaaW.PrintMore
attribute [local go_sem] max2_int min2_int max_two min_two max_three min_three max_four min_four   
set_option linter.unusedVariables false
set_option linter.unusedSimpArgs false
def cadenceref3_Has.f (k:Nat) (a0_0:Bool) (l0_1:List ByteArray) (a1:ByteArray):Option (Bool):=(cadenceref3_in.f k l0_1 a1).bind fun t117=>(some (t117 != a0_0))
theorem cadenceref3_Has.mono:∀ a0 a1 a2 k,LeO (cadenceref3_Has.f k a0 a1 a2) (cadenceref3_Has.f (k+1) a0 a1 a2):=by
 intro a0 a1 a2 k
 unfold cadenceref3_Has.f
 repeat' first
   | (with_reducible exact cadenceref3_in.mono _ _ _)
   | (with_reducible exact LeO.refl _)
   | (with_reducible exact LeO.none _)
   | (with_reducible refine LeO.ite ?_ ?_)
   | (with_reducible refine LeO.bind ?_ (fun _=>?_))
   | exact cadenceref3_in.mono _ _ _
   | exact LeO.none _
   | refine LeO.ite ?_ ?_
   | refine LeO.bind ?_ (fun _=>?_)
set_option maxHeartbeats 8000000 in
set_option maxRecDepth 100000 in
theorem cadenceref3_Has.calls (k:Nat) (a0_0:Bool) (A0_1:Option Addr) (c0_1:Nat) (l0_1:List ByteArray) (a1:ByteArray) (r:Bool) (w:World) (hr0_1:Kd.C Kd.string w A0_1 l0_1.length l0_1) (hc0_1:l0_1.length≤c0_1) (h:cadenceref3_Has.f k a0_0 l0_1 a1=some r) :
  Calls Try.prog 42 #[.agg #[.bool a0_0,.slice A0_1 l0_1.length c0_1],.string a1] w fun e w'=>e=.returned (.bool r)∧Below w.heap.size w w':=by
 have hu38:=Try.underlying38
 have HR0_1:=Aside0.mk hr0_1
 have HC0_1:=Aside0.mk hc0_1
 clear hr0_1 hc0_1
 have HB:=Aside0.mk (Below.refl w.heap.size w)
 have H:((cadenceref3_in.f k l0_1 a1).bind fun t117=>(some (t117 != a0_0)))=some r:=h
 clear h
 replace H:=Option.bind_eq_some_iff.mp H
 obtain ⟨t117,A30,H⟩:=H
 replace H:(some (t117 != a0_0))=some r:=H
 have A3:=Aside0.mk A30
 clear A30
 obtain rfl:=Option.some.inj H
 go_enter Try.func42,Try.ntmps42
 go_wp2_with (first|((with_reducible refine gate_dst (N:=2) rfl ?_);refine box_event ?hg (N:=2) ?hd (cs:=#[.bool a0_0,.slice A0_1 l0_1.length c0_1]) (t:=38) ?hr ?_;(case hd=>rfl);(case hg=>rfl);(case hr=>first|(go_simp;done)|(go_simp;rfl));intro gb116 hg w4 hbox hb;have n0_:=Aside0.mk (below_step (by repeat (first|(with_reducible first|exact HB.out|apply bA_|apply bN_|apply bD_)|exact HB.out)) hb);have n1_:=Aside0.mk (hbox);have n2_:=Aside0.mk ((by rw [hg];exact (below_size (by repeat (first|(with_reducible first|exact HB.out|apply bA_|apply bN_|apply bD_)|exact HB.out))):w.heap.size≤gb116));have n3_:=Aside0.mk ((by rw [hg];exact (below_size (by repeat (first|(with_reducible first|exact HB.out|apply bA_|apply bN_|apply bD_)|exact HB.out))):w.heap.size≤gb116));clear HB;have HB:=n0_;have BK116:=n1_;have GW116:=n2_;have GE116:=n3_;clear n0_ n1_ n2_ n3_;clear hb hbox hg;have hcz5_0:w4.cell? ⟨gb116,0,none⟩=some (.bool a0_0):=(blk_cell BK116.out 0).trans rfl;have hcz5_1:w4.cell? ⟨gb116,1,none⟩=some (.slice A0_1 l0_1.length c0_1):=(blk_cell BK116.out 1).trans rfl;have hfz5_0:=blk_frozen BK116.out 0;have hfz5_1:=blk_frozen BK116.out 1)|(go_at_call 60;(with_reducible refine (cadenceref3_in.calls k _ _ l0_1 a1 t117 _ ?side1 ?side2 A3.out).mono ?_);(case side1=>repeat (first|exact (Kd.C_below HR0_1.out HB.out)|(with_reducible refine cA_ ?_ _)|(with_reducible refine cN_ ?_ _)|(with_reducible refine cD_ ?_)));(case side2=>exact HC0_1.out);rintro e w' ⟨rfl,⟨nd,rfl⟩⟩;(try first|exact ⟨rfl,_,World.drewN_drewN _ _ _⟩|exact ⟨rfl,_,Eq.trans (World.drewN_drewN _ _ _) (congrArg (World.drewN _) (Nat.add_assoc _ _ _))⟩)))
 repeat (go_quiet (first|((with_reducible refine gate_dst (N:=2) rfl ?_);refine box_event ?hg (N:=2) ?hd (cs:=#[.bool a0_0,.slice A0_1 l0_1.length c0_1]) (t:=38) ?hr ?_;(case hd=>rfl);(case hg=>rfl);(case hr=>first|(go_simp;done)|(go_simp;rfl));intro gb116 hg w4 hbox hb;have n0_:=Aside0.mk (below_step (by repeat (first|(with_reducible first|exact HB.out|apply bA_|apply bN_|apply bD_)|exact HB.out)) hb);have n1_:=Aside0.mk (hbox);have n2_:=Aside0.mk ((by rw [hg];exact (below_size (by repeat (first|(with_reducible first|exact HB.out|apply bA_|apply bN_|apply bD_)|exact HB.out))):w.heap.size≤gb116));have n3_:=Aside0.mk ((by rw [hg];exact (below_size (by repeat (first|(with_reducible first|exact HB.out|apply bA_|apply bN_|apply bD_)|exact HB.out))):w.heap.size≤gb116));clear HB;have HB:=n0_;have BK116:=n1_;have GW116:=n2_;have GE116:=n3_;clear n0_ n1_ n2_ n3_;clear hb hbox hg;have hcz5_0:w4.cell? ⟨gb116,0,none⟩=some (.bool a0_0):=(blk_cell BK116.out 0).trans rfl;have hcz5_1:w4.cell? ⟨gb116,1,none⟩=some (.slice A0_1 l0_1.length c0_1):=(blk_cell BK116.out 1).trans rfl;have hfz5_0:=blk_frozen BK116.out 0;have hfz5_1:=blk_frozen BK116.out 1)|(go_at_call 60;(with_reducible refine (cadenceref3_in.calls k _ _ l0_1 a1 t117 _ ?side1 ?side2 A3.out).mono ?_);(case side1=>repeat (first|exact (Kd.C_below HR0_1.out HB.out)|(with_reducible refine cA_ ?_ _)|(with_reducible refine cN_ ?_ _)|(with_reducible refine cD_ ?_)));(case side2=>exact HC0_1.out);rintro e w' ⟨rfl,⟨nd,rfl⟩⟩;(try first|exact ⟨rfl,_,World.drewN_drewN _ _ _⟩|exact ⟨rfl,_,Eq.trans (World.drewN_drewN _ _ _) (congrArg (World.drewN _) (Nat.add_assoc _ _ _))⟩)));try go_wp2_with (first|((with_reducible refine gate_dst (N:=2) rfl ?_);refine box_event ?hg (N:=2) ?hd (cs:=#[.bool a0_0,.slice A0_1 l0_1.length c0_1]) (t:=38) ?hr ?_;(case hd=>rfl);(case hg=>rfl);(case hr=>first|(go_simp;done)|(go_simp;rfl));intro gb116 hg w4 hbox hb;have n0_:=Aside0.mk (below_step (by repeat (first|(with_reducible first|exact HB.out|apply bA_|apply bN_|apply bD_)|exact HB.out)) hb);have n1_:=Aside0.mk (hbox);have n2_:=Aside0.mk ((by rw [hg];exact (below_size (by repeat (first|(with_reducible first|exact HB.out|apply bA_|apply bN_|apply bD_)|exact HB.out))):w.heap.size≤gb116));have n3_:=Aside0.mk ((by rw [hg];exact (below_size (by repeat (first|(with_reducible first|exact HB.out|apply bA_|apply bN_|apply bD_)|exact HB.out))):w.heap.size≤gb116));clear HB;have HB:=n0_;have BK116:=n1_;have GW116:=n2_;have GE116:=n3_;clear n0_ n1_ n2_ n3_;clear hb hbox hg;have hcz5_0:w4.cell? ⟨gb116,0,none⟩=some (.bool a0_0):=(blk_cell BK116.out 0).trans rfl;have hcz5_1:w4.cell? ⟨gb116,1,none⟩=some (.slice A0_1 l0_1.length c0_1):=(blk_cell BK116.out 1).trans rfl;have hfz5_0:=blk_frozen BK116.out 0;have hfz5_1:=blk_frozen BK116.out 1)|(go_at_call 60;(with_reducible refine (cadenceref3_in.calls k _ _ l0_1 a1 t117 _ ?side1 ?side2 A3.out).mono ?_);(case side1=>repeat (first|exact (Kd.C_below HR0_1.out HB.out)|(with_reducible refine cA_ ?_ _)|(with_reducible refine cN_ ?_ _)|(with_reducible refine cD_ ?_)));(case side2=>exact HC0_1.out);rintro e w' ⟨rfl,⟨nd,rfl⟩⟩;(try first|exact ⟨rfl,_,World.drewN_drewN _ _ _⟩|exact ⟨rfl,_,Eq.trans (World.drewN_drewN _ _ _) (congrArg (World.drewN _) (Nat.add_assoc _ _ _))⟩))))
 go_ret
 exact ⟨by first|rfl|(simp [errW_none,errW_some] <;> rfl)|(simp [*,errW_none,errW_some] <;> rfl),by repeat (first|(with_reducible first|exact HB.out|apply bA_|apply bN_|apply bD_|refine below_set ?_ GE116.out)|exact HB.out)⟩
end Go.Proofs.Ytoihiehoolehiaa.PX
namespace Go.Proofs.Ytoihiehoolehiaa.PX
open Go.RowKit Go.Proofs.YtoihiehoolehiaaW.PrintWords Go.Proofs.YtoihiehoolehiaaW.PrintLast Go.Proofs.YtoihiehoolehiaaW.PrintMore
attribute [local go_sem] max2_int min2_int max_two min_two max_three min_three max_four min_four   
set_option linter.unusedVariables false
set_option linter.unusedSimpArgs false
def cadenceref3_put.l0:Nat→List ByteArray→ByteArray→Int→Option (List ByteArray)
 | 0,_,_,_=>none
 | k+1,x0,x1,x5=>if x5 < (x0.length:Int) then (if 0≤x5 then (if (Op.bytesLess ((rdOf ByteArray.empty x0 x5).toList) x1.toList)=true then (cadenceref3_put.l0 k x0 x1 (wrap64 (x5+1))) else (if (rdOf ByteArray.empty x0 x5).toList=x1.toList then (some x0) else (if x5≤(x0.length:Int) then ((some (x0.take (x5:Int).toNat:List ByteArray)).bind fun y120=>(if ([]:List ByteArray).length+y120.length < 8796093022208 then ((some (([]:List ByteArray) ++ y120:List ByteArray)).bind fun y124=>(if y124.length < 8796093022208 then ((some (y124 ++ [x1]:List ByteArray)).bind fun y127=>((some (x0.drop (x5:Int).toNat:List ByteArray)).bind fun y130=>(if y127.length+y130.length < 8796093022208 then (some (y127 ++ y130)) else (none)))) else (none))) else (none))) else (none)))) else (none)) else (if 0≤x5 then (if x5≤(x0.length:Int) then ((some (x0.take (x5:Int).toNat:List ByteArray)).bind fun y137=>(if ([]:List ByteArray).length+y137.length < 8796093022208 then ((some (([]:List ByteArray) ++ y137:List ByteArray)).bind fun y141=>(if y141.length < 8796093022208 then ((some (y141 ++ [x1]:List ByteArray)).bind fun y144=>((some (x0.drop (x5:Int).toNat:List ByteArray)).bind fun y147=>(if y144.length+y147.length < 8796093022208 then (some (y144 ++ y147)) else (none)))) else (none))) else (none))) else (none)) else (none))
def cadenceref3_put.f (k:Nat) (l0:List ByteArray) (a1:ByteArray):Option (List ByteArray):=cadenceref3_put.l0 k l0 a1 0
theorem cadenceref3_put.mono_l:∀ k,(∀ y0 y1 y2,LeO (cadenceref3_put.l0 k y0 y1 y2) (cadenceref3_put.l0 (k+1) y0 y1 y2))
 | 0=>fun _ _ _ r h=>by simp [cadenceref3_put.l0] at h
 | k+1=>by
  have ih0:=cadenceref3_put.mono_l k
  ·intro y0 y1 y2
   unfold cadenceref3_put.l0
   repeat' first
   | (with_reducible exact ih0 _ _ _)
   | (with_reducible exact LeO.refl _)
   | (with_reducible exact LeO.none _)
   | (with_reducible refine LeO.ite ?_ ?_)
   | (with_reducible refine LeO.bind ?_ (fun _=>?_))
   | exact ih0 _ _ _
   | exact LeO.none _
   | refine LeO.ite ?_ ?_
   | refine LeO.bind ?_ (fun _=>?_)
theorem cadenceref3_put.mono:∀ a0 a1 k,LeO (cadenceref3_put.f k a0 a1) (cadenceref3_put.f (k+1) a0 a1):=by
 intro a0 a1 k
 have ih0:=cadenceref3_put.mono_l k
 unfold cadenceref3_put.f
 repeat' first
   | (with_reducible exact ih0 _ _ _)
   | (with_reducible exact LeO.refl _)
   | (with_reducible exact LeO.none _)
   | (with_reducible refine LeO.ite ?_ ?_)
   | (with_reducible refine LeO.bind ?_ (fun _=>?_))
   | exact ih0 _ _ _
   | exact LeO.none _
   | refine LeO.ite ?_ ?_
   | refine LeO.bind ?_ (fun _=>?_)
set_option maxHeartbeats 8000000 in
set_option maxRecDepth 100000 in
theorem cadenceref3_put.calls (k:Nat) (P0_:Nat→Prop) (u9000_:Value) (l0:List ByteArray) (a1:ByteArray) (r:List ByteArray) (w0 w:World) (hB:Below w0.heap.size w0 w) (ho0:Kd.R Kd.string 9 w w0.heap.size P0_ u9000_ l0) (h:cadenceref3_put.f k l0 a1=some r) :
  Calls Try.prog 45 #[u9000_,.string a1] w fun e w'=>∃ v0_:Value,e=.returned (v0_)∧Kd.R Kd.string 9 w' w0.heap.size (fun k_=>(P0_ k_∨w.heap.size≤k_)) v0_ r∧Below w0.heap.size w0 w'∧Kept w w' (fun k_=>P0_ k_):=by
 have HO0:=Aside0.mk (show Kd.R Kd.string 9 w w0.heap.size (fun k_=>(P0_ k_∨w.heap.size≤k_)) u9000_ l0 from Kd.R_mono ho0 (fun k_ hk=>(.inl hk)))
 have HK:=Aside0.mk (Kept.refl w (fun k_=>P0_ k_))
 have HW0:=Aside0.mk hB.size
 have HB:=Aside0.mk hB
 clear hB
 have H:(cadenceref3_put.l0 k l0 a1 0)=some r:=h
 clear h
 have H':=Aside0.mk H
 clear H
 go_enter Try.func45,Try.ntmps45
 go_wp2
 go_loopg [5] k (fun kq v5 w'=>∃ (x5_1:Int),v5=.int .i64 x5_1∧Aside0 (cadenceref3_put.l0 kq l0 a1 x5_1=some r)∧Aside0 (kq≤k)∧Aside0 (Kd.R Kd.string 9 w' w0.heap.size (fun k_=>(P0_ k_∨w.heap.size≤k_)) u9000_ l0)∧Aside0 (Kept w w' (fun k_=>P0_ k_))∧Aside0 (Below w0.heap.size w0 w'))
 case atStart=>exact ⟨(0),(by first|rfl|(simp;done)|(simp [*];done)),H',⟨Nat.le_refl _⟩,⟨by (with_reducible repeat (first|apply rA_|apply rN_|apply rD_));exact HO0.out⟩,⟨by repeat (first|(with_reducible first|exact HK.out|apply Kept.alloc|apply Kept.drewN|apply Kept.drew)|exact HK.out)⟩,⟨by repeat (first|(with_reducible first|exact HB.out|apply bA_|apply bN_|apply bD_)|exact HB.out)⟩⟩
 case round =>
  clear H'
  try clear p2
  obtain ⟨x5_1,rfl,HA,HK1,HO_0,HK,HB⟩:=hrel
  cases gk with
  | zero=>exact absurd HA.out (by simp [cadenceref3_put.l0])
  | succ k1 =>
   have H:=HA.out
   clear HA
   simp only [cadenceref3_put.l0] at H
   by_cases c3:x5_1 < (l0.length:Int)
   ·rw [if_pos c3] at H
    have c3b0:decide (x5_1 < (l0.length:Int))=true:=decide_eq_true c3
    clear c3
    by_cases c4:0≤x5_1
    ·rw [if_pos c4] at H
     have c4b0:decide (0≤x5_1)=true:=decide_eq_true c4
     clear c4
     by_cases c5:(Op.bytesLess ((rdOf ByteArray.empty l0 x5_1).toList) a1.toList)=true
     ·rw [if_pos c5] at H
      have c5b0:(Op.bytesLess ((rdOf ByteArray.empty l0 x5_1).toList) a1.toList)=true:=c5
      clear c5
      have H':=Aside0.mk H
      clear H
      obtain ⟨Ao6,co6,eo6⟩:=Kd.R_slice HO_0.out
      subst eo6
      have p118:0≤(x5_1:Int):=of_decide_eq_true (by first|(with_reducible assumption)|assumption)
      have q118:x5_1 < (l0.length:Int):=of_decide_eq_true (by first|(with_reducible assumption)|assumption)
      obtain ⟨ad118,e118,hx118_0⟩:=Kd.at_string (Kd.R_reads' HO_0.out).2.2 x5_1 p118 q118
      cases e118
      replace p118:=eq_true p118
      replace q118:=eq_true q118
      go_wp2
      go_roundg k1
      case measure=>have:=HK1.out;omega
      case rel=>exact ⟨(wrap64 (x5_1+1)),(by first|rfl|(simp;done)|(simp [*];done)),H',⟨by have:=HK1.out;omega⟩,⟨by (with_reducible repeat (first|apply rA_|apply rN_|apply rD_));exact HO_0.out⟩,⟨by repeat (first|(with_reducible first|exact HK.out|apply Kept.alloc|apply Kept.drewN|apply Kept.drew)|exact HK.out)⟩,⟨by repeat (first|(with_reducible first|exact HB.out|apply bA_|apply bN_|apply bD_)|exact HB.out)⟩⟩
     ·rw [if_neg c5] at H
      have c5b0:(Op.bytesLess ((rdOf ByteArray.empty l0 x5_1).toList) a1.toList)=false:=by simpa using c5
      clear c5
      by_cases c7:(rdOf ByteArray.empty l0 x5_1).toList=a1.toList
      ·rw [if_pos c7] at H
       have c7b0:((rdOf ByteArray.empty l0 x5_1).toList == a1.toList)=true:=beq_iff_eq.mpr c7
       have c7b1:((rdOf ByteArray.empty l0 x5_1).toList != a1.toList)=false:=bne_eq_false_iff_eq.mpr c7
       clear c7
       obtain rfl:=Option.some.inj H
       obtain ⟨Ao8,co8,eo8⟩:=Kd.R_slice HO_0.out
       subst eo8
       have p118:0≤(x5_1:Int):=of_decide_eq_true (by first|(with_reducible assumption)|assumption)
       have q118:x5_1 < (l0.length:Int):=of_decide_eq_true (by first|(with_reducible assumption)|assumption)
       obtain ⟨ad118,e118,hx118_0⟩:=Kd.at_string (Kd.R_reads' HO_0.out).2.2 x5_1 p118 q118
       cases e118
       replace p118:=eq_true p118
       replace q118:=eq_true q118
       have p119:0≤(x5_1:Int):=of_decide_eq_true (by first|(with_reducible assumption)|assumption)
       have q119:x5_1 < (l0.length:Int):=of_decide_eq_true (by first|(with_reducible assumption)|assumption)
       obtain ⟨ad119,e119,hx119_0⟩:=Kd.at_string (Kd.R_reads' HO_0.out).2.2 x5_1 p119 q119
       obtain rfl:ad118=ad119:=(by injection e119)
       replace p119:=eq_true p119
       replace q119:=eq_true q119
       go_wp2
       go_ret
       exact ⟨_,by first|rfl|(simp [errW_none,errW_some] <;> rfl)|(simp [*,errW_none,errW_some] <;> rfl),by (with_reducible repeat (first|apply rA_|apply rN_|apply rD_));exact HO_0.out,by repeat (first|(with_reducible first|exact HB.out|apply bA_|apply bN_|apply bD_)|exact HB.out),by repeat (first|(with_reducible first|exact HK.out|apply Kept.alloc|apply Kept.drewN|apply Kept.drew)|exact HK.out)⟩
      ·rw [if_neg c7] at H
       have c7b0:((rdOf ByteArray.empty l0 x5_1).toList == a1.toList)=false:=beq_eq_false_iff_ne.mpr c7
       have c7b1:((rdOf ByteArray.empty l0 x5_1).toList != a1.toList)=true:=bne_iff_ne.mpr c7
       have c9b0:=eq_true (of_decide_eq_true (by first|(with_reducible assumption)|assumption):0≤x5_1)
       by_cases c10:x5_1≤(l0.length:Int)
       ·rw [if_pos c10] at H
        have c10b0:=eq_true c10
        have c10b1:decide (x5_1≤(l0.length:Int))=true:=decide_eq_true c10
        clear c10
        obtain ⟨y120,hy120⟩:∃ y_:List ByteArray,y_=(l0.take (x5_1:Int).toNat):=⟨_,rfl⟩
        replace H:(if ([]:List ByteArray).length+y120.length < 8796093022208 then ((some (([]:List ByteArray) ++ y120:List ByteArray)).bind fun y124=>(if y124.length < 8796093022208 then ((some (y124 ++ [a1]:List ByteArray)).bind fun y127=>((some (l0.drop (x5_1:Int).toNat:List ByteArray)).bind fun y130=>(if y127.length+y130.length < 8796093022208 then (some (y127 ++ y130)) else (none)))) else (none))) else (none))=some r:=by first|(rw [hy120];with_reducible exact H)|(have H2_:=(Option.bind_some _ _).symm.trans H;rw [hy120];with_reducible exact H2_)|(have H2_:=(Option.bind_some _ _).symm.trans H;with_reducible exact H2_)|with_reducible exact H|(rw [hy120];exact H)|exact H
        have Ny120:=Aside0.mk hy120
        clear hy120
        by_cases c11:([]:List ByteArray).length+y120.length < 8796093022208
        ·rw [if_pos c11] at H
         have LMc11:=Aside0.mk c11
         clear c11
         obtain ⟨y124,hy124⟩:∃ y_:List ByteArray,y_=(([]:List ByteArray) ++ y120):=⟨_,rfl⟩
         replace H:(if y124.length < 8796093022208 then ((some (y124 ++ [a1]:List ByteArray)).bind fun y127=>((some (l0.drop (x5_1:Int).toNat:List ByteArray)).bind fun y130=>(if y127.length+y130.length < 8796093022208 then (some (y127 ++ y130)) else (none)))) else (none))=some r:=by first|(rw [hy124];with_reducible exact H)|(have H2_:=(Option.bind_some _ _).symm.trans H;rw [hy124];with_reducible exact H2_)|(have H2_:=(Option.bind_some _ _).symm.trans H;with_reducible exact H2_)|with_reducible exact H|(rw [hy124];exact H)|exact H
         have Ny124:=Aside0.mk hy124
         clear hy124
         by_cases c12:y124.length < 8796093022208
         ·rw [if_pos c12] at H
          have LMc12:=Aside0.mk c12
          clear c12
          obtain ⟨y127,hy127⟩:∃ y_:List ByteArray,y_=(y124 ++ [a1]):=⟨_,rfl⟩
          replace H:((some (l0.drop (x5_1:Int).toNat:List ByteArray)).bind fun y130=>(if y127.length+y130.length < 8796093022208 then (some (y127 ++ y130)) else (none)))=some r:=by first|(rw [hy127];with_reducible exact H)|(have H2_:=(Option.bind_some _ _).symm.trans H;rw [hy127];with_reducible exact H2_)|(have H2_:=(Option.bind_some _ _).symm.trans H;with_reducible exact H2_)|with_reducible exact H|(rw [hy127];exact H)|exact H
          have Ny127:=Aside0.mk hy127
          clear hy127
          have c13b0:=eq_true (of_decide_eq_true (by first|(with_reducible assumption)|assumption):0≤x5_1)
          have c14b0:=eq_true (of_decide_eq_true (by first|(with_reducible assumption)|assumption):x5_1≤(l0.length:Int))
          obtain ⟨y130,hy130⟩:∃ y_:List ByteArray,y_=(l0.drop (x5_1:Int).toNat):=⟨_,rfl⟩
          replace H:(if y127.length+y130.length < 8796093022208 then (some (y127 ++ y130)) else (none))=some r:=by first|(rw [hy130];with_reducible exact H)|(have H2_:=(Option.bind_some _ _).symm.trans H;rw [hy130];with_reducible exact H2_)|(have H2_:=(Option.bind_some _ _).symm.trans H;with_reducible exact H2_)|with_reducible exact H|(rw [hy130];exact H)|exact H
          have Ny130:=Aside0.mk hy130
          clear hy130
          by_cases c15:y127.length+y130.length < 8796093022208
          ·rw [if_pos c15] at H
           have LMc15:=Aside0.mk c15
           clear c15
           obtain ⟨y134,hy134⟩:∃ y_:List ByteArray,y_=(y127 ++ y130):=⟨_,rfl⟩
           replace H:(some y134)=some r:=by first|(rw [hy134];with_reducible exact H)|(have H2_:=(Option.bind_some _ _).symm.trans H;rw [hy134];with_reducible exact H2_)|(have H2_:=(Option.bind_some _ _).symm.trans H;with_reducible exact H2_)|with_reducible exact H|(rw [hy134];exact H)|exact H
           have Ny134:=Aside0.mk hy134
           clear hy134
           obtain rfl:=Option.some.inj H
           obtain ⟨Ao16,co16,eo16⟩:=Kd.R_slice HO_0.out
           subst eo16
           have p118:0≤(x5_1:Int):=of_decide_eq_true (by first|(with_reducible assumption)|assumption)
           have q118:x5_1 < (l0.length:Int):=of_decide_eq_true (by first|(with_reducible assumption)|assumption)
           obtain ⟨ad118,e118,hx118_0⟩:=Kd.at_string (Kd.R_reads' HO_0.out).2.2 x5_1 p118 q118
           cases e118
           replace p118:=eq_true p118
           replace q118:=eq_true q118
           have p119:0≤(x5_1:Int):=of_decide_eq_true (by first|(with_reducible assumption)|assumption)
           have q119:x5_1 < (l0.length:Int):=of_decide_eq_true (by first|(with_reducible assumption)|assumption)
           obtain ⟨ad119,e119,hx119_0⟩:=Kd.at_string (Kd.R_reads' HO_0.out).2.2 x5_1 p119 q119
           obtain rfl:ad118=ad119:=(by injection e119)
           replace p119:=eq_true p119
           replace q119:=eq_true q119
           have q17:(x5_1:Int)≤((l0.length:Int):Int):=of_decide_eq_true (by first|(with_reducible assumption)|assumption)
           obtain ⟨i017,hi017,_,hsz17,_⟩:=info_parts info9
           have hroom17:l0.length≤co16:=(Kd.R_reads' HO_0.out).2.1
           have hC17:Kd.C Kd.string _ (some ad118) l0.length l0:=(Kd.R_reads' HO_0.out).2.2
           have hcut17:=cut_to (P:=Try.prog) 36 9 .i64 Try.underlying36 hi017 (some ad118) l0.length co16 x5_1 (of_decide_eq_true (by first|(with_reducible assumption)|assumption)) q17 hroom17
           have hr17:=Kd.C_take (m:=(x5_1:Int).toNat) hC17 (by omega)
           have hy17:y120.length=(x5_1:Int).toNat:=(by rw [Ny120.out,List.length_take];omega)
           rw [← Ny120.out] at hr17
           rw [← hy17] at hcut17
           have HR123:=Aside0.mk hr17
           have HC123:=Aside0.mk (show y120.length≤co16 from by omega)
           clear hr17 hC17 hroom17 hi017 hsz17
           have KY17:=Aside0.mk hy17
           clear hy17
           have KL17:=Aside0.mk (show (x5_1:Int).toNat≤l0.length from by omega)
           replace q17:=eq_true q17
           go_wp2_with (first|((with_reducible refine gate_builtin (b:=.append) (xs:=#[.tmp 34,.tmp 37]) rfl ?_);at_builtin;refine Kd.R_append_rows Kd.string (w0:=w0) w0.heap.size rfl (.tmp 34) (.tmp 37) 36 9 (.string ⟨#[]⟩) 16 rfl Try.underlying36 info9 rfl (by decide) (by omega) (.slice none 0 0) ([]:List ByteArray) y120 _ _ _ (fun k_=>(P0_ k_∨w.heap.size≤k_)∧some k_≠(.slice (some ad118) l0.length co16:Value).ownBlock) (fun _=>False) rfl rfl ?aO ?aR (fun _ _ h=>h) (fun _ h=>h.elim) ?aF ?aB ?aS ?aL ?_;(case aR=>repeat (first|exact (by repeat (first|(with_reducible exact HR123.out)|(with_reducible refine cA_ ?_ _)|(with_reducible refine cN_ ?_ _)|(with_reducible refine cD_ ?_)|exact HR123.out))|(with_reducible refine cA_ ?_ _)|(with_reducible refine cN_ ?_ _)|(with_reducible refine cD_ ?_)));(case aB=>exact (by repeat (first|(with_reducible first|exact HB.out|apply bA_|apply bN_|apply bD_)|exact HB.out)));(case aF=>exact (fun k_ hk=>⟨(.inr (Nat.le_trans (by first|exact HK.out.1|exact (show Kept w _ (fun k_=>P0_ k_) from by repeat (first|(with_reducible first|exact HK.out|apply Kept.alloc|apply Kept.drewN|apply Kept.drew)|exact HK.out)).1) hk)),Kd.fresh' (Kd.R_lt (by (with_reducible repeat (first|apply rA_|apply rN_|apply rD_));exact HO_0.out)) k_ hk⟩));(case aO=>exact ((Kd.R_nil _ _ _ _ (fun k_=>(P0_ k_∨w.heap.size≤k_)∧some k_≠(.slice (some ad118) l0.length co16:Value).ownBlock))));(case aS=>exact (below_size (by repeat (first|(with_reducible first|exact HB.out|apply bA_|apply bN_|apply bD_)|exact HB.out))));(case aL=>have:=LMc11.out;omega);intro v125 w18 ho hb hg hat;rw [← Ny124.out] at ho;have n0_:=Aside0.mk (Kd.R_after (Kd.R_apart_nil (by (with_reducible repeat (first|apply rA_|apply rN_|apply rD_));exact HO_0.out)) hg hat);have n1_:=Aside0.mk (hb);have n2_:=Aside0.mk (Kept.of_grown (S:=(fun k_=>P0_ k_)) hg (by repeat (first|(with_reducible first|exact HK.out|apply Kept.alloc|apply Kept.drewN|apply Kept.drew)|exact HK.out)) (fun k_ e_=>by simp [Value.ownBlock] at e_));have n3_:=Aside0.mk ((show Kd.C Kd.string w18 (some ad118) y120.length y120 from by rw [Ny120.out];exact Kd.C_take (m:=(x5_1:Int).toNat) ((Kd.R_reads' (Kd.R_after (Kd.R_apart_nil (by (with_reducible repeat (first|apply rA_|apply rN_|apply rD_));exact HO_0.out)) hg hat)).2.2) KL17.out));have n4_:=Aside0.mk (ho);clear HO_0;clear HB;clear HK;clear HR123;have HO_0:=n0_;have HB:=n1_;have HK:=n2_;have HR123:=n3_;have HO126:=n4_;clear n0_ n1_ n2_ n3_ n4_;clear ho hb hg hat)|((with_reducible refine gate_builtin (b:=.append) (xs:=#[.tmp 39,.tmp 41]) rfl ?_);at_builtin;refine Kd.R_append Kd.string (w0:=w0) w0.heap.size rfl (.tmp 39) (.tmp 41) 36 9 (.string ⟨#[]⟩) 16 rfl Try.underlying36 info9 rfl (by decide) (by omega) v125 y124 a1 [.string a1] (fun k_=>(P0_ k_∨w.heap.size≤k_)∧some k_≠(.slice (some ad118) l0.length co16:Value).ownBlock) (fun _=>False) rfl rfl ?aP (fun _ hk=>hk.elim) ?aF ?aO ?aB ?aS ?aL ?_;(case aP=>exact rfl);(case aB=>exact (by repeat (first|(with_reducible first|exact HB.out|apply bA_|apply bN_|apply bD_)|exact HB.out)));(case aF=>exact (fun k_ hk=>⟨(.inr (Nat.le_trans (by first|exact HK.out.1|exact (show Kept w _ (fun k_=>P0_ k_) from by repeat (first|(with_reducible first|exact HK.out|apply Kept.alloc|apply Kept.drewN|apply Kept.drew)|exact HK.out)).1) hk)),Kd.fresh' (Kd.R_lt (by (with_reducible repeat (first|apply rA_|apply rN_|apply rD_));exact HO_0.out)) k_ hk⟩));(case aO=>exact (by (with_reducible repeat (first|apply rA_|apply rN_|apply rD_));exact HO126.out));(case aS=>exact (below_size (by repeat (first|(with_reducible first|exact HB.out|apply bA_|apply bN_|apply bD_)|exact HB.out))));(case aL=>have:=LMc12.out;omega);intro v128 w19 ho hb hg hat;rw [← Ny127.out] at ho;have n0_:=Aside0.mk (Kd.R_after (ok:=(fun k_=>(P0_ k_∨w.heap.size≤k_))) (by (with_reducible repeat (first|apply rA_|apply rN_|apply rD_));exact HO_0.out) hg hat);have n1_:=Aside0.mk (hb);have n2_:=Aside0.mk (Kept.of_grown (S:=(fun k_=>P0_ k_)) hg (by repeat (first|(with_reducible first|exact HK.out|apply Kept.alloc|apply Kept.drewN|apply Kept.drew)|exact HK.out)) (fun k_ e_=>(HO126.out.1 k_ e_).1));have n3_:=Aside0.mk ((show Kd.C Kd.string w19 (some ad118) y120.length y120 from by rw [Ny120.out];exact Kd.C_take (m:=(x5_1:Int).toNat) ((Kd.R_reads' (Kd.R_after (ok:=(fun k_=>(P0_ k_∨w.heap.size≤k_))) (by (with_reducible repeat (first|apply rA_|apply rN_|apply rD_));exact HO_0.out) hg hat)).2.2) KL17.out));have n4_:=Aside0.mk (ho);clear HO_0;clear HB;clear HK;clear HR123;clear HO126;have HO_0:=n0_;have HB:=n1_;have HK:=n2_;have HR123:=n3_;have HO129:=n4_;clear n0_ n1_ n2_ n3_ n4_;clear ho hb hg hat;have q20:(x5_1:Int)≤((l0.length:Int):Int):=of_decide_eq_true (by first|(with_reducible assumption)|assumption);obtain ⟨i020,hi020,_,hsz20,_⟩:=info_parts info9;have hroom20:l0.length≤co16:=(Kd.R_reads' HO_0.out).2.1;have hC20:Kd.C Kd.string _ (some ad118) l0.length l0:=(Kd.R_reads' HO_0.out).2.2;have q020:(0:Int)≤(x5_1:Int):=of_decide_eq_true (by first|(with_reducible assumption)|assumption);have hcut20:=cut_from (P:=Try.prog) 36 9 .i64 Try.underlying36 hi020 1 hsz20 (some ad118) l0.length co16 x5_1 q020 q20;have hr20:=Kd.C_drop (m:=(x5_1:Int).toNat) (c:=co16) hC20 (by omega) hroom20;obtain ⟨A20,hA20⟩:∃ A1,A1=(if co16=(x5_1:Int).toNat then (some ad118) else ((some ad118):Option Addr).map (·.add ((x5_1:Int).toNat * 1))):=⟨_,rfl⟩;obtain ⟨c20,hc20⟩:∃ c1,c1=co16 - (x5_1:Int).toNat:=⟨_,rfl⟩;have hy20:y130.length=l0.length - (x5_1:Int).toNat:=(by rw [Ny130.out,List.length_drop] <;> omega);rw [show (l0).drop (x5_1:Int).toNat=y130 from Ny130.out.symm] at hr20;replace hr20:Kd.C Kd.string _ A20 y130.length y130:=(by rw [hA20];exact hr20);rw [← hy20,← hA20,← hc20] at hcut20;have HR133:=Aside0.mk hr20;have HC133:=Aside0.mk (show y130.length≤c20 from by rw [hy20,hc20];exact Nat.sub_le_sub_right hroom20 _);clear hr20 hC20 hroom20 hi020 hsz20 hc20;have KY20:=Aside0.mk hy20;have KA20:=Aside0.mk hA20;clear hy20 hA20;have KL20:=Aside0.mk (show (x5_1:Int).toNat≤l0.length from by omega);replace q20:=eq_true q20)|((with_reducible refine gate_builtin (b:=.append) (xs:=#[.tmp 43,.tmp 46]) rfl ?_);at_builtin;refine Kd.R_append_rows Kd.string (w0:=w0) w0.heap.size rfl (.tmp 43) (.tmp 46) 36 9 (.string ⟨#[]⟩) 16 rfl Try.underlying36 info9 rfl (by decide) (by omega) v128 y127 y130 _ _ _ (fun k_=>(P0_ k_∨w.heap.size≤k_)∧some k_≠(.slice (some ad118) l0.length co16:Value).ownBlock) (fun _=>False) rfl rfl ?aO ?aR (fun _ _ h=>h) (fun _ h=>h.elim) ?aF ?aB ?aS ?aL ?_;(case aR=>repeat (first|exact (by repeat (first|(with_reducible exact HR133.out)|(with_reducible refine cA_ ?_ _)|(with_reducible refine cN_ ?_ _)|(with_reducible refine cD_ ?_)|exact HR133.out))|(with_reducible refine cA_ ?_ _)|(with_reducible refine cN_ ?_ _)|(with_reducible refine cD_ ?_)));(case aB=>exact (by repeat (first|(with_reducible first|exact HB.out|apply bA_|apply bN_|apply bD_)|exact HB.out)));(case aF=>exact (fun k_ hk=>⟨(.inr (Nat.le_trans (by first|exact HK.out.1|exact (show Kept w _ (fun k_=>P0_ k_) from by repeat (first|(with_reducible first|exact HK.out|apply Kept.alloc|apply Kept.drewN|apply Kept.drew)|exact HK.out)).1) hk)),Kd.fresh' (Kd.R_lt (by (with_reducible repeat (first|apply rA_|apply rN_|apply rD_));exact HO_0.out)) k_ hk⟩));(case aO=>exact (by (with_reducible repeat (first|apply rA_|apply rN_|apply rD_));exact HO129.out));(case aS=>exact (below_size (by repeat (first|(with_reducible first|exact HB.out|apply bA_|apply bN_|apply bD_)|exact HB.out))));(case aL=>have:=LMc15.out;omega);intro v135 w21 ho hb hg hat;rw [← Ny134.out] at ho;have n0_:=Aside0.mk (Kd.R_after (ok:=(fun k_=>(P0_ k_∨w.heap.size≤k_))) (by (with_reducible repeat (first|apply rA_|apply rN_|apply rD_));exact HO_0.out) hg hat);have n1_:=Aside0.mk (hb);have n2_:=Aside0.mk (Kept.of_grown (S:=(fun k_=>P0_ k_)) hg (by repeat (first|(with_reducible first|exact HK.out|apply Kept.alloc|apply Kept.drewN|apply Kept.drew)|exact HK.out)) (fun k_ e_=>(HO129.out.1 k_ e_).1));have n3_:=Aside0.mk ((show Kd.C Kd.string w21 (some ad118) y120.length y120 from by rw [Ny120.out];exact Kd.C_take (m:=(x5_1:Int).toNat) ((Kd.R_reads' (Kd.R_after (ok:=(fun k_=>(P0_ k_∨w.heap.size≤k_))) (by (with_reducible repeat (first|apply rA_|apply rN_|apply rD_));exact HO_0.out) hg hat)).2.2) KL17.out));have n4_:=Aside0.mk ((show Kd.C Kd.string w21 A20 y130.length y130 from by rw [Ny130.out,KA20.out];exact Kd.C_drop (m:=(x5_1:Int).toNat) (c:=co16) ((Kd.R_reads' (Kd.R_after (ok:=(fun k_=>(P0_ k_∨w.heap.size≤k_))) (by (with_reducible repeat (first|apply rA_|apply rN_|apply rD_));exact HO_0.out) hg hat)).2.2) KL20.out ((Kd.R_reads' (Kd.R_after (ok:=(fun k_=>(P0_ k_∨w.heap.size≤k_))) (by (with_reducible repeat (first|apply rA_|apply rN_|apply rD_));exact HO_0.out) hg hat)).2.1)));have n5_:=Aside0.mk (ho);clear HO_0;clear HB;clear HK;clear HR123;clear HR133;clear HO129;have HO_0:=n0_;have HB:=n1_;have HK:=n2_;have HR123:=n3_;have HR133:=n4_;have HO136:=n5_;clear n0_ n1_ n2_ n3_ n4_ n5_;clear ho hb hg hat))
           go_ret
           exact ⟨_,by first|rfl|(simp [errW_none,errW_some] <;> rfl)|(simp [*,errW_none,errW_some] <;> rfl),by (with_reducible repeat (first|apply rA_|apply rN_|apply rD_));exact Kd.R_mono HO136.out (fun _ hk=>hk.1),by repeat (first|(with_reducible first|exact HB.out|apply bA_|apply bN_|apply bD_)|exact HB.out),by repeat (first|(with_reducible first|exact HK.out|apply Kept.alloc|apply Kept.drewN|apply Kept.drew)|exact HK.out)⟩
          ·rw [if_neg c15] at H
           exact absurd H (by simp)
         ·rw [if_neg c12] at H
          exact absurd H (by simp)
        ·rw [if_neg c11] at H
         exact absurd H (by simp)
       ·rw [if_neg c10] at H
        exact absurd H (by simp)
    ·rw [if_neg c4] at H
     exact absurd H (by simp)
   ·rw [if_neg c3] at H
    have c3b0:decide (x5_1 < (l0.length:Int))=false:=decide_eq_false c3
    clear c3
    by_cases c22:0≤x5_1
    ·rw [if_pos c22] at H
     have c22b0:=eq_true c22
     have c22b1:decide (0≤x5_1)=true:=decide_eq_true c22
     clear c22
     by_cases c23:x5_1≤(l0.length:Int)
     ·rw [if_pos c23] at H
      have c23b0:=eq_true c23
      have c23b1:decide (x5_1≤(l0.length:Int))=true:=decide_eq_true c23
      clear c23
      obtain ⟨y137,hy137⟩:∃ y_:List ByteArray,y_=(l0.take (x5_1:Int).toNat):=⟨_,rfl⟩
      replace H:(if ([]:List ByteArray).length+y137.length < 8796093022208 then ((some (([]:List ByteArray) ++ y137:List ByteArray)).bind fun y141=>(if y141.length < 8796093022208 then ((some (y141 ++ [a1]:List ByteArray)).bind fun y144=>((some (l0.drop (x5_1:Int).toNat:List ByteArray)).bind fun y147=>(if y144.length+y147.length < 8796093022208 then (some (y144 ++ y147)) else (none)))) else (none))) else (none))=some r:=by first|(rw [hy137];with_reducible exact H)|(have H2_:=(Option.bind_some _ _).symm.trans H;rw [hy137];with_reducible exact H2_)|(have H2_:=(Option.bind_some _ _).symm.trans H;with_reducible exact H2_)|with_reducible exact H|(rw [hy137];exact H)|exact H
      have Ny137:=Aside0.mk hy137
      clear hy137
      by_cases c24:([]:List ByteArray).length+y137.length < 8796093022208
      ·rw [if_pos c24] at H
       have LMc24:=Aside0.mk c24
       clear c24
       obtain ⟨y141,hy141⟩:∃ y_:List ByteArray,y_=(([]:List ByteArray) ++ y137):=⟨_,rfl⟩
       replace H:(if y141.length < 8796093022208 then ((some (y141 ++ [a1]:List ByteArray)).bind fun y144=>((some (l0.drop (x5_1:Int).toNat:List ByteArray)).bind fun y147=>(if y144.length+y147.length < 8796093022208 then (some (y144 ++ y147)) else (none)))) else (none))=some r:=by first|(rw [hy141];with_reducible exact H)|(have H2_:=(Option.bind_some _ _).symm.trans H;rw [hy141];with_reducible exact H2_)|(have H2_:=(Option.bind_some _ _).symm.trans H;with_reducible exact H2_)|with_reducible exact H|(rw [hy141];exact H)|exact H
       have Ny141:=Aside0.mk hy141
       clear hy141
       by_cases c25:y141.length < 8796093022208
       ·rw [if_pos c25] at H
        have LMc25:=Aside0.mk c25
        clear c25
        obtain ⟨y144,hy144⟩:∃ y_:List ByteArray,y_=(y141 ++ [a1]):=⟨_,rfl⟩
        replace H:((some (l0.drop (x5_1:Int).toNat:List ByteArray)).bind fun y147=>(if y144.length+y147.length < 8796093022208 then (some (y144 ++ y147)) else (none)))=some r:=by first|(rw [hy144];with_reducible exact H)|(have H2_:=(Option.bind_some _ _).symm.trans H;rw [hy144];with_reducible exact H2_)|(have H2_:=(Option.bind_some _ _).symm.trans H;with_reducible exact H2_)|with_reducible exact H|(rw [hy144];exact H)|exact H
        have Ny144:=Aside0.mk hy144
        clear hy144
        have c26b0:=eq_true (of_decide_eq_true (by first|(with_reducible assumption)|assumption):0≤x5_1)
        have c27b0:=eq_true (of_decide_eq_true (by first|(with_reducible assumption)|assumption):x5_1≤(l0.length:Int))
        obtain ⟨y147,hy147⟩:∃ y_:List ByteArray,y_=(l0.drop (x5_1:Int).toNat):=⟨_,rfl⟩
        replace H:(if y144.length+y147.length < 8796093022208 then (some (y144 ++ y147)) else (none))=some r:=by first|(rw [hy147];with_reducible exact H)|(have H2_:=(Option.bind_some _ _).symm.trans H;rw [hy147];with_reducible exact H2_)|(have H2_:=(Option.bind_some _ _).symm.trans H;with_reducible exact H2_)|with_reducible exact H|(rw [hy147];exact H)|exact H
        have Ny147:=Aside0.mk hy147
        clear hy147
        by_cases c28:y144.length+y147.length < 8796093022208
        ·rw [if_pos c28] at H
         have LMc28:=Aside0.mk c28
         clear c28
         obtain ⟨y151,hy151⟩:∃ y_:List ByteArray,y_=(y144 ++ y147):=⟨_,rfl⟩
         replace H:(some y151)=some r:=by first|(rw [hy151];with_reducible exact H)|(have H2_:=(Option.bind_some _ _).symm.trans H;rw [hy151];with_reducible exact H2_)|(have H2_:=(Option.bind_some _ _).symm.trans H;with_reducible exact H2_)|with_reducible exact H|(rw [hy151];exact H)|exact H
         have Ny151:=Aside0.mk hy151
         clear hy151
         obtain rfl:=Option.some.inj H
         obtain ⟨Ao29,co29,eo29⟩:=Kd.R_slice HO_0.out
         subst eo29
         have q30:(x5_1:Int)≤((l0.length:Int):Int):=of_decide_eq_true (by first|(with_reducible assumption)|assumption)
         obtain ⟨i030,hi030,_,hsz30,_⟩:=info_parts info9
         have hroom30:l0.length≤co29:=(Kd.R_reads' HO_0.out).2.1
         have hC30:Kd.C Kd.string _ Ao29 l0.length l0:=(Kd.R_reads' HO_0.out).2.2
         have hcut30:=cut_to (P:=Try.prog) 36 9 .i64 Try.underlying36 hi030 Ao29 l0.length co29 x5_1 (of_decide_eq_true (by first|(with_reducible assumption)|assumption)) q30 hroom30
         have hr30:=Kd.C_take (m:=(x5_1:Int).toNat) hC30 (by omega)
         have hy30:y137.length=(x5_1:Int).toNat:=(by rw [Ny137.out,List.length_take];omega)
         rw [← Ny137.out] at hr30
         rw [← hy30] at hcut30
         have HR140:=Aside0.mk hr30
         have HC140:=Aside0.mk (show y137.length≤co29 from by omega)
         clear hr30 hC30 hroom30 hi030 hsz30
         have KY30:=Aside0.mk hy30
         clear hy30
         have KL30:=Aside0.mk (show (x5_1:Int).toNat≤l0.length from by omega)
         replace q30:=eq_true q30
         go_wp2_with (first|((with_reducible refine gate_builtin (b:=.append) (xs:=#[.tmp 34,.tmp 37]) rfl ?_);at_builtin;refine Kd.R_append_rows Kd.string (w0:=w0) w0.heap.size rfl (.tmp 34) (.tmp 37) 36 9 (.string ⟨#[]⟩) 16 rfl Try.underlying36 info9 rfl (by decide) (by omega) (.slice none 0 0) ([]:List ByteArray) y137 _ _ _ (fun k_=>(P0_ k_∨w.heap.size≤k_)∧some k_≠(.slice Ao29 l0.length co29:Value).ownBlock) (fun _=>False) rfl rfl ?aO ?aR (fun _ _ h=>h) (fun _ h=>h.elim) ?aF ?aB ?aS ?aL ?_;(case aR=>repeat (first|exact (by repeat (first|(with_reducible exact HR140.out)|(with_reducible refine cA_ ?_ _)|(with_reducible refine cN_ ?_ _)|(with_reducible refine cD_ ?_)|exact HR140.out))|(with_reducible refine cA_ ?_ _)|(with_reducible refine cN_ ?_ _)|(with_reducible refine cD_ ?_)));(case aB=>exact (by repeat (first|(with_reducible first|exact HB.out|apply bA_|apply bN_|apply bD_)|exact HB.out)));(case aF=>exact (fun k_ hk=>⟨(.inr (Nat.le_trans (by first|exact HK.out.1|exact (show Kept w _ (fun k_=>P0_ k_) from by repeat (first|(with_reducible first|exact HK.out|apply Kept.alloc|apply Kept.drewN|apply Kept.drew)|exact HK.out)).1) hk)),Kd.fresh' (Kd.R_lt (by (with_reducible repeat (first|apply rA_|apply rN_|apply rD_));exact HO_0.out)) k_ hk⟩));(case aO=>exact ((Kd.R_nil _ _ _ _ (fun k_=>(P0_ k_∨w.heap.size≤k_)∧some k_≠(.slice Ao29 l0.length co29:Value).ownBlock))));(case aS=>exact (below_size (by repeat (first|(with_reducible first|exact HB.out|apply bA_|apply bN_|apply bD_)|exact HB.out))));(case aL=>have:=LMc24.out;omega);intro v142 w31 ho hb hg hat;rw [← Ny141.out] at ho;have n0_:=Aside0.mk (Kd.R_after (Kd.R_apart_nil (by (with_reducible repeat (first|apply rA_|apply rN_|apply rD_));exact HO_0.out)) hg hat);have n1_:=Aside0.mk (hb);have n2_:=Aside0.mk (Kept.of_grown (S:=(fun k_=>P0_ k_)) hg (by repeat (first|(with_reducible first|exact HK.out|apply Kept.alloc|apply Kept.drewN|apply Kept.drew)|exact HK.out)) (fun k_ e_=>by simp [Value.ownBlock] at e_));have n3_:=Aside0.mk ((show Kd.C Kd.string w31 Ao29 y137.length y137 from by rw [Ny137.out];exact Kd.C_take (m:=(x5_1:Int).toNat) ((Kd.R_reads' (Kd.R_after (Kd.R_apart_nil (by (with_reducible repeat (first|apply rA_|apply rN_|apply rD_));exact HO_0.out)) hg hat)).2.2) KL30.out));have n4_:=Aside0.mk (ho);clear HO_0;clear HB;clear HK;clear HR140;have HO_0:=n0_;have HB:=n1_;have HK:=n2_;have HR140:=n3_;have HO143:=n4_;clear n0_ n1_ n2_ n3_ n4_;clear ho hb hg hat)|((with_reducible refine gate_builtin (b:=.append) (xs:=#[.tmp 39,.tmp 41]) rfl ?_);at_builtin;refine Kd.R_append Kd.string (w0:=w0) w0.heap.size rfl (.tmp 39) (.tmp 41) 36 9 (.string ⟨#[]⟩) 16 rfl Try.underlying36 info9 rfl (by decide) (by omega) v142 y141 a1 [.string a1] (fun k_=>(P0_ k_∨w.heap.size≤k_)∧some k_≠(.slice Ao29 l0.length co29:Value).ownBlock) (fun _=>False) rfl rfl ?aP (fun _ hk=>hk.elim) ?aF ?aO ?aB ?aS ?aL ?_;(case aP=>exact rfl);(case aB=>exact (by repeat (first|(with_reducible first|exact HB.out|apply bA_|apply bN_|apply bD_)|exact HB.out)));(case aF=>exact (fun k_ hk=>⟨(.inr (Nat.le_trans (by first|exact HK.out.1|exact (show Kept w _ (fun k_=>P0_ k_) from by repeat (first|(with_reducible first|exact HK.out|apply Kept.alloc|apply Kept.drewN|apply Kept.drew)|exact HK.out)).1) hk)),Kd.fresh' (Kd.R_lt (by (with_reducible repeat (first|apply rA_|apply rN_|apply rD_));exact HO_0.out)) k_ hk⟩));(case aO=>exact (by (with_reducible repeat (first|apply rA_|apply rN_|apply rD_));exact HO143.out));(case aS=>exact (below_size (by repeat (first|(with_reducible first|exact HB.out|apply bA_|apply bN_|apply bD_)|exact HB.out))));(case aL=>have:=LMc25.out;omega);intro v145 w32 ho hb hg hat;rw [← Ny144.out] at ho;have n0_:=Aside0.mk (Kd.R_after (ok:=(fun k_=>(P0_ k_∨w.heap.size≤k_))) (by (with_reducible repeat (first|apply rA_|apply rN_|apply rD_));exact HO_0.out) hg hat);have n1_:=Aside0.mk (hb);have n2_:=Aside0.mk (Kept.of_grown (S:=(fun k_=>P0_ k_)) hg (by repeat (first|(with_reducible first|exact HK.out|apply Kept.alloc|apply Kept.drewN|apply Kept.drew)|exact HK.out)) (fun k_ e_=>(HO143.out.1 k_ e_).1));have n3_:=Aside0.mk ((show Kd.C Kd.string w32 Ao29 y137.length y137 from by rw [Ny137.out];exact Kd.C_take (m:=(x5_1:Int).toNat) ((Kd.R_reads' (Kd.R_after (ok:=(fun k_=>(P0_ k_∨w.heap.size≤k_))) (by (with_reducible repeat (first|apply rA_|apply rN_|apply rD_));exact HO_0.out) hg hat)).2.2) KL30.out));have n4_:=Aside0.mk (ho);clear HO_0;clear HB;clear HK;clear HR140;clear HO143;have HO_0:=n0_;have HB:=n1_;have HK:=n2_;have HR140:=n3_;have HO146:=n4_;clear n0_ n1_ n2_ n3_ n4_;clear ho hb hg hat;have q33:(x5_1:Int)≤((l0.length:Int):Int):=of_decide_eq_true (by first|(with_reducible assumption)|assumption);obtain ⟨i033,hi033,_,hsz33,_⟩:=info_parts info9;have hroom33:l0.length≤co29:=(Kd.R_reads' HO_0.out).2.1;have hC33:Kd.C Kd.string _ Ao29 l0.length l0:=(Kd.R_reads' HO_0.out).2.2;have q033:(0:Int)≤(x5_1:Int):=of_decide_eq_true (by first|(with_reducible assumption)|assumption);have hcut33:=cut_from (P:=Try.prog) 36 9 .i64 Try.underlying36 hi033 1 hsz33 Ao29 l0.length co29 x5_1 q033 q33;have hr33:=Kd.C_drop (m:=(x5_1:Int).toNat) (c:=co29) hC33 (by omega) hroom33;obtain ⟨A33,hA33⟩:∃ A1,A1=(if co29=(x5_1:Int).toNat then Ao29 else (Ao29:Option Addr).map (·.add ((x5_1:Int).toNat * 1))):=⟨_,rfl⟩;obtain ⟨c33,hc33⟩:∃ c1,c1=co29 - (x5_1:Int).toNat:=⟨_,rfl⟩;have hy33:y147.length=l0.length - (x5_1:Int).toNat:=(by rw [Ny147.out,List.length_drop] <;> omega);rw [show (l0).drop (x5_1:Int).toNat=y147 from Ny147.out.symm] at hr33;replace hr33:Kd.C Kd.string _ A33 y147.length y147:=(by rw [hA33];exact hr33);rw [← hy33,← hA33,← hc33] at hcut33;have HR150:=Aside0.mk hr33;have HC150:=Aside0.mk (show y147.length≤c33 from by rw [hy33,hc33];exact Nat.sub_le_sub_right hroom33 _);clear hr33 hC33 hroom33 hi033 hsz33 hc33;have KY33:=Aside0.mk hy33;have KA33:=Aside0.mk hA33;clear hy33 hA33;have KL33:=Aside0.mk (show (x5_1:Int).toNat≤l0.length from by omega);replace q33:=eq_true q33)|((with_reducible refine gate_builtin (b:=.append) (xs:=#[.tmp 43,.tmp 46]) rfl ?_);at_builtin;refine Kd.R_append_rows Kd.string (w0:=w0) w0.heap.size rfl (.tmp 43) (.tmp 46) 36 9 (.string ⟨#[]⟩) 16 rfl Try.underlying36 info9 rfl (by decide) (by omega) v145 y144 y147 _ _ _ (fun k_=>(P0_ k_∨w.heap.size≤k_)∧some k_≠(.slice Ao29 l0.length co29:Value).ownBlock) (fun _=>False) rfl rfl ?aO ?aR (fun _ _ h=>h) (fun _ h=>h.elim) ?aF ?aB ?aS ?aL ?_;(case aR=>repeat (first|exact (by repeat (first|(with_reducible exact HR150.out)|(with_reducible refine cA_ ?_ _)|(with_reducible refine cN_ ?_ _)|(with_reducible refine cD_ ?_)|exact HR150.out))|(with_reducible refine cA_ ?_ _)|(with_reducible refine cN_ ?_ _)|(with_reducible refine cD_ ?_)));(case aB=>exact (by repeat (first|(with_reducible first|exact HB.out|apply bA_|apply bN_|apply bD_)|exact HB.out)));(case aF=>exact (fun k_ hk=>⟨(.inr (Nat.le_trans (by first|exact HK.out.1|exact (show Kept w _ (fun k_=>P0_ k_) from by repeat (first|(with_reducible first|exact HK.out|apply Kept.alloc|apply Kept.drewN|apply Kept.drew)|exact HK.out)).1) hk)),Kd.fresh' (Kd.R_lt (by (with_reducible repeat (first|apply rA_|apply rN_|apply rD_));exact HO_0.out)) k_ hk⟩));(case aO=>exact (by (with_reducible repeat (first|apply rA_|apply rN_|apply rD_));exact HO146.out));(case aS=>exact (below_size (by repeat (first|(with_reducible first|exact HB.out|apply bA_|apply bN_|apply bD_)|exact HB.out))));(case aL=>have:=LMc28.out;omega);intro v152 w34 ho hb hg hat;rw [← Ny151.out] at ho;have n0_:=Aside0.mk (Kd.R_after (ok:=(fun k_=>(P0_ k_∨w.heap.size≤k_))) (by (with_reducible repeat (first|apply rA_|apply rN_|apply rD_));exact HO_0.out) hg hat);have n1_:=Aside0.mk (hb);have n2_:=Aside0.mk (Kept.of_grown (S:=(fun k_=>P0_ k_)) hg (by repeat (first|(with_reducible first|exact HK.out|apply Kept.alloc|apply Kept.drewN|apply Kept.drew)|exact HK.out)) (fun k_ e_=>(HO146.out.1 k_ e_).1));have n3_:=Aside0.mk ((show Kd.C Kd.string w34 Ao29 y137.length y137 from by rw [Ny137.out];exact Kd.C_take (m:=(x5_1:Int).toNat) ((Kd.R_reads' (Kd.R_after (ok:=(fun k_=>(P0_ k_∨w.heap.size≤k_))) (by (with_reducible repeat (first|apply rA_|apply rN_|apply rD_));exact HO_0.out) hg hat)).2.2) KL30.out));have n4_:=Aside0.mk ((show Kd.C Kd.string w34 A33 y147.length y147 from by rw [Ny147.out,KA33.out];exact Kd.C_drop (m:=(x5_1:Int).toNat) (c:=co29) ((Kd.R_reads' (Kd.R_after (ok:=(fun k_=>(P0_ k_∨w.heap.size≤k_))) (by (with_reducible repeat (first|apply rA_|apply rN_|apply rD_));exact HO_0.out) hg hat)).2.2) KL33.out ((Kd.R_reads' (Kd.R_after (ok:=(fun k_=>(P0_ k_∨w.heap.size≤k_))) (by (with_reducible repeat (first|apply rA_|apply rN_|apply rD_));exact HO_0.out) hg hat)).2.1)));have n5_:=Aside0.mk (ho);clear HO_0;clear HB;clear HK;clear HR140;clear HR150;clear HO146;have HO_0:=n0_;have HB:=n1_;have HK:=n2_;have HR140:=n3_;have HR150:=n4_;have HO153:=n5_;clear n0_ n1_ n2_ n3_ n4_ n5_;clear ho hb hg hat))
         go_ret
         exact ⟨_,by first|rfl|(simp [errW_none,errW_some] <;> rfl)|(simp [*,errW_none,errW_some] <;> rfl),by (with_reducible repeat (first|apply rA_|apply rN_|apply rD_));exact Kd.R_mono HO153.out (fun _ hk=>hk.1),by repeat (first|(with_reducible first|exact HB.out|apply bA_|apply bN_|apply bD_)|exact HB.out),by repeat (first|(with_reducible first|exact HK.out|apply Kept.alloc|apply Kept.drewN|apply Kept.drew)|exact HK.out)⟩
        ·rw [if_neg c28] at H
         exact absurd H (by simp)
       ·rw [if_neg c25] at H
        exact absurd H (by simp)
      ·rw [if_neg c24] at H
       exact absurd H (by simp)
     ·rw [if_neg c23] at H
      exact absurd H (by simp)
    ·rw [if_neg c22] at H
     exact absurd H (by simp)
end Go.Proofs.Ytoihiehoolehiaa.PX
namespace Go.Proofs.Ytoihiehoolehiaa.PX
open Go.RowKit Go.Proofs.YtoihiehoolehiaaW.PrintWords Go.Proofs.YtoihiehoolehiaaW.PrintLast Go.Proofs.YtoihiehoolehiaaW.PrintMore
attribute [local go_sem] max2_int min2_int max_two min_two max_three min_three max_four min_four   
set_option linter.unusedVariables false
set_option linter.unusedSimpArgs false
mutual
def cadenceref3_pick.l0:Nat→List ByteArray→Int→Bool→List ByteArray→Bool→List ByteArray→Bool→List ByteArray→Option (Bool × List ByteArray)
 | 0,_,_,_,_,_,_,_,_=>none
 | k+1,x8,x9,x155000,x155001,x156000,x156001,x158000,x158001=>if x9 < (x8.length:Int) then (if 0≤x9 then ((cadenceref3_Has.f k x155000 x155001 (rdOf ByteArray.empty x8 x9)).bind fun t168=>(if t168=true then ((cadenceref3_Has.f k x156000 x156001 (rdOf ByteArray.empty x8 x9)).bind fun t170=>(cadenceref3_pick.j1 k x8 x9 t170 x155000 x155001 x156000 x156001 x158000 x158001)) else (cadenceref3_pick.j1 k x8 x9 false x155000 x155001 x156000 x156001 x158000 x158001))) else (none)) else (some (x158000,x158001))
def cadenceref3_pick.j1:Nat→List ByteArray→Int→Bool→Bool→List ByteArray→Bool→List ByteArray→Bool→List ByteArray→Option (Bool × List ByteArray)
 | 0,_,_,_,_,_,_,_,_,_=>none
 | k+1,x8,x9,x10,x155000,x155001,x156000,x156001,x158000,x158001=>if (x10 != x158000)=true then (if 0≤x9 then (if x9 < (x8.length:Int) then ((cadenceref3_put.f k x158001 (rdOf ByteArray.empty x8 x9)).bind fun t172=>(cadenceref3_pick.l0 k x8 (wrap64 (x9+1)) x155000 x155001 x156000 x156001 x158000 t172)) else (none)) else (none)) else (cadenceref3_pick.l0 k x8 (wrap64 (x9+1)) x155000 x155001 x156000 x156001 x158000 x158001)
end
def cadenceref3_pick.f (k:Nat) (a0_0:Bool) (l0_1:List ByteArray) (a1_0:Bool) (l1_1:List ByteArray) (a2:Bool):Option (Bool × List ByteArray):=if a2=true then (if a0_0=true then ((some (([]:List ByteArray):List ByteArray)).bind fun y158=>(if y158.length+l0_1.length < 8796093022208 then ((some (y158 ++ l0_1:List ByteArray)).bind fun y161=>(if y161.length+l1_1.length < 8796093022208 then (cadenceref3_pick.l0 k (y161 ++ l1_1) 0 a0_0 l0_1 a1_0 l1_1 a1_0 ([]:List ByteArray)) else (none))) else (none))) else ((some (([]:List ByteArray):List ByteArray)).bind fun y176=>(if y176.length+l0_1.length < 8796093022208 then ((some (y176 ++ l0_1:List ByteArray)).bind fun y179=>(if y179.length+l1_1.length < 8796093022208 then (cadenceref3_pick.l0 k (y179 ++ l1_1) 0 a0_0 l0_1 a1_0 l1_1 false ([]:List ByteArray)) else (none))) else (none)))) else none
theorem cadenceref3_pick.mono_l:∀ k,(∀ y0 y1 y2 y3 y4 y5 y6 y7,LeO (cadenceref3_pick.l0 k y0 y1 y2 y3 y4 y5 y6 y7) (cadenceref3_pick.l0 (k+1) y0 y1 y2 y3 y4 y5 y6 y7))∧(∀ y0 y1 y2 y3 y4 y5 y6 y7 y8,LeO (cadenceref3_pick.j1 k y0 y1 y2 y3 y4 y5 y6 y7 y8) (cadenceref3_pick.j1 (k+1) y0 y1 y2 y3 y4 y5 y6 y7 y8))
 | 0=>⟨fun _ _ _ _ _ _ _ _ r h=>by simp [cadenceref3_pick.l0] at h,fun _ _ _ _ _ _ _ _ _ r h=>by simp [cadenceref3_pick.j1] at h⟩
 | k+1=>by
  obtain ⟨ih0,ih1⟩:=cadenceref3_pick.mono_l k
  refine ⟨?_,?_⟩
  ·intro y0 y1 y2 y3 y4 y5 y6 y7
   unfold cadenceref3_pick.l0
   repeat' first
   | (with_reducible exact ih0 _ _ _ _ _ _ _ _)
   | (with_reducible exact ih1 _ _ _ _ _ _ _ _ _)
   | (with_reducible exact cadenceref3_Has.mono _ _ _ _)
   | (with_reducible exact cadenceref3_put.mono _ _ _)
   | (with_reducible exact LeO.refl _)
   | (with_reducible exact LeO.none _)
   | (with_reducible refine LeO.ite ?_ ?_)
   | (with_reducible refine LeO.bind ?_ (fun _=>?_))
   | exact ih0 _ _ _ _ _ _ _ _
   | exact ih1 _ _ _ _ _ _ _ _ _
   | exact cadenceref3_Has.mono _ _ _ _
   | exact cadenceref3_put.mono _ _ _
   | exact LeO.none _
   | refine LeO.ite ?_ ?_
   | refine LeO.bind ?_ (fun _=>?_)
  ·intro y0 y1 y2 y3 y4 y5 y6 y7 y8
   unfold cadenceref3_pick.j1
   repeat' first
   | (with_reducible exact ih0 _ _ _ _ _ _ _ _)
   | (with_reducible exact ih1 _ _ _ _ _ _ _ _ _)
   | (with_reducible exact cadenceref3_Has.mono _ _ _ _)
   | (with_reducible exact cadenceref3_put.mono _ _ _)
   | (with_reducible exact LeO.refl _)
   | (with_reducible exact LeO.none _)
   | (with_reducible refine LeO.ite ?_ ?_)
   | (with_reducible refine LeO.bind ?_ (fun _=>?_))
   | exact ih0 _ _ _ _ _ _ _ _
   | exact ih1 _ _ _ _ _ _ _ _ _
   | exact cadenceref3_Has.mono _ _ _ _
   | exact cadenceref3_put.mono _ _ _
   | exact LeO.none _
   | refine LeO.ite ?_ ?_
   | refine LeO.bind ?_ (fun _=>?_)
theorem cadenceref3_pick.mono:∀ a0 a1 a2 a3 a4 k,LeO (cadenceref3_pick.f k a0 a1 a2 a3 a4) (cadenceref3_pick.f (k+1) a0 a1 a2 a3 a4):=by
 intro a0 a1 a2 a3 a4 k
 obtain ⟨ih0,ih1⟩:=cadenceref3_pick.mono_l k
 unfold cadenceref3_pick.f
 repeat' first
   | (with_reducible exact ih0 _ _ _ _ _ _ _ _)
   | (with_reducible exact ih1 _ _ _ _ _ _ _ _ _)
   | (with_reducible exact cadenceref3_Has.mono _ _ _ _)
   | (with_reducible exact cadenceref3_put.mono _ _ _)
   | (with_reducible exact LeO.refl _)
   | (with_reducible exact LeO.none _)
   | (with_reducible refine LeO.ite ?_ ?_)
   | (with_reducible refine LeO.bind ?_ (fun _=>?_))
   | exact ih0 _ _ _ _ _ _ _ _
   | exact ih1 _ _ _ _ _ _ _ _ _
   | exact cadenceref3_Has.mono _ _ _ _
   | exact cadenceref3_put.mono _ _ _
   | exact LeO.none _
   | refine LeO.ite ?_ ?_
   | refine LeO.bind ?_ (fun _=>?_)
def cadenceref3_pick.T4:Bool × List (List Nat × List Nat):=(true,[([],[]),([],[]),([1],[1]),([0,2],[0,2]),([],[]),([4],[4]),([3,5,3],[3,5]),([6,6,0,1,2,3,4,5,6],[6])])
def cadenceref3_pick.B4:List Nat:=[0,0,2,7,0,16,63,127]
theorem cadenceref3_pick.tab4:rtab .any (opsOf Try.f43 4)=cadenceref3_pick.T4:=by kernel_rfl
theorem cadenceref3_pick.bits4:waitsOk cadenceref3_pick.T4.2 cadenceref3_pick.B4=true:=by kernel_rfl
def cadenceref3_pick.T8:Bool × List (List Nat × List Nat):=(true,[([],[]),([],[]),([],[]),([1,2],[1,2]),([3],[3]),([0,4],[0,4]),([5,5],[5]),([6],[6]),([6],[6]),([6],[6]),([8,9,6],[6,8,9]),([10,6],[6,10]),([7,11,6,6],[6,7,11]),([6,12],[6,12]),([13,12,0,1,2,3,4,5,6,7,8,9,10,11,12,13],[13])])
def cadenceref3_pick.B8:List Nat:=[0,0,0,6,14,31,63,127,127,127,895,1919,4095,8191,16383]
theorem cadenceref3_pick.tab8:rtab .any (opsOf Try.f43 8)=cadenceref3_pick.T8:=by kernel_rfl
theorem cadenceref3_pick.bits8:waitsOk cadenceref3_pick.T8.2 cadenceref3_pick.B8=true:=by kernel_rfl
def cadenceref3_pick.T12:Bool × List (List Nat × List Nat):=(true,[([],[]),([0],[0]),([],[]),([],[]),([2,3],[2,3]),([4],[4]),([1,5],[1,5]),([0,1,2,3,4,5,6],[]),([7,6,6,0,1,2,3,4,5,6],[6,7])])
def cadenceref3_pick.B12:List Nat:=[0,1,0,0,12,28,63,127,255]
theorem cadenceref3_pick.tab12:rtab .any (opsOf Try.f43 12)=cadenceref3_pick.T12:=by kernel_rfl
theorem cadenceref3_pick.bits12:waitsOk cadenceref3_pick.T12.2 cadenceref3_pick.B12=true:=by kernel_rfl
set_option maxHeartbeats 8000000 in
set_option maxRecDepth 100000 in
theorem cadenceref3_pick.calls (k:Nat) (a0_0:Bool) (A0_1:Option Addr) (c0_1:Nat) (l0_1:List ByteArray) (a1_0:Bool) (A1_1:Option Addr) (c1_1:Nat) (l1_1:List ByteArray) (a2:Bool) (r1:Bool) (r2:List ByteArray) (w:World) (hr0_1:Kd.C Kd.string w A0_1 l0_1.length l0_1) (hc0_1:l0_1.length≤c0_1) (hr1_1:Kd.C Kd.string w A1_1 l1_1.length l1_1) (hc1_1:l1_1.length≤c1_1) (h:cadenceref3_pick.f k a0_0 l0_1 a1_0 l1_1 a2=some (r1,r2)) :
  Calls Try.prog 43 #[.agg #[.bool a0_0,.slice A0_1 l0_1.length c0_1],.agg #[.bool a1_0,.slice A1_1 l1_1.length c1_1],.bool a2] w fun e w'=>∃ v1_:Value,e=.returned (.agg #[.bool r1,v1_])∧Kd.R Kd.string 9 w' w.heap.size (fun _=>True) v1_ r2∧Below w.heap.size w w':=by
 obtain rfl:a2=true:=by
  cases a2 with
  | true=>rfl
  | false=>exact absurd h (by simp [cadenceref3_pick.f])
 unfold cadenceref3_pick.f at h
 rw [if_pos rfl] at h
 have hu38:=Try.underlying38
 have HR0_1:=Aside0.mk hr0_1
 have HC0_1:=Aside0.mk hc0_1
 clear hr0_1 hc0_1
 have HR1_1:=Aside0.mk hr1_1
 have HC1_1:=Aside0.mk hc1_1
 clear hr1_1 hc1_1
 have HB:=Aside0.mk (Below.refl w.heap.size w)
 have H:(if a0_0=true then ((some (([]:List ByteArray):List ByteArray)).bind fun y158=>(if y158.length+l0_1.length < 8796093022208 then ((some (y158 ++ l0_1:List ByteArray)).bind fun y161=>(if y161.length+l1_1.length < 8796093022208 then (cadenceref3_pick.l0 k (y161 ++ l1_1) 0 a0_0 l0_1 a1_0 l1_1 a1_0 ([]:List ByteArray)) else (none))) else (none))) else ((some (([]:List ByteArray):List ByteArray)).bind fun y176=>(if y176.length+l0_1.length < 8796093022208 then ((some (y176 ++ l0_1:List ByteArray)).bind fun y179=>(if y179.length+l1_1.length < 8796093022208 then (cadenceref3_pick.l0 k (y179 ++ l1_1) 0 a0_0 l0_1 a1_0 l1_1 false ([]:List ByteArray)) else (none))) else (none))))=some (r1,r2):=h
 clear h
 by_cases c4:a0_0=true
 ·subst c4
  have H1:((some (([]:List ByteArray):List ByteArray)).bind fun y158=>(if y158.length+l0_1.length < 8796093022208 then ((some (y158 ++ l0_1:List ByteArray)).bind fun y161=>(if y161.length+l1_1.length < 8796093022208 then (cadenceref3_pick.l0 k (y161 ++ l1_1) 0 true l0_1 a1_0 l1_1 a1_0 ([]:List ByteArray)) else (none))) else (none)))=some (r1,r2):=by rw [if_pos rfl] at H;exact H
  clear H
  have H:=H1
  clear H1
  obtain ⟨y158,hy158⟩:∃ y_:List ByteArray,y_=(([]:List ByteArray)):=⟨_,rfl⟩
  replace H:(if y158.length+l0_1.length < 8796093022208 then ((some (y158 ++ l0_1:List ByteArray)).bind fun y161=>(if y161.length+l1_1.length < 8796093022208 then (cadenceref3_pick.l0 k (y161 ++ l1_1) 0 true l0_1 a1_0 l1_1 a1_0 ([]:List ByteArray)) else (none))) else (none))=some (r1,r2):=by first|(rw [hy158];with_reducible exact H)|(have H2_:=(Option.bind_some _ _).symm.trans H;rw [hy158];with_reducible exact H2_)|(have H2_:=(Option.bind_some _ _).symm.trans H;with_reducible exact H2_)|with_reducible exact H|(rw [hy158];exact H)|exact H
  have Ny158:=Aside0.mk hy158
  clear hy158
  by_cases c5:y158.length+l0_1.length < 8796093022208
  ·rw [if_pos c5] at H
   have LMc5:=Aside0.mk c5
   clear c5
   obtain ⟨y161,hy161⟩:∃ y_:List ByteArray,y_=(y158 ++ l0_1):=⟨_,rfl⟩
   replace H:(if y161.length+l1_1.length < 8796093022208 then (cadenceref3_pick.l0 k (y161 ++ l1_1) 0 true l0_1 a1_0 l1_1 a1_0 ([]:List ByteArray)) else (none))=some (r1,r2):=by first|(rw [hy161];with_reducible exact H)|(have H2_:=(Option.bind_some _ _).symm.trans H;rw [hy161];with_reducible exact H2_)|(have H2_:=(Option.bind_some _ _).symm.trans H;with_reducible exact H2_)|with_reducible exact H|(rw [hy161];exact H)|exact H
   have Ny161:=Aside0.mk hy161
   clear hy161
   by_cases c6:y161.length+l1_1.length < 8796093022208
   ·rw [if_pos c6] at H
    have LMc6:=Aside0.mk c6
    clear c6
    obtain ⟨y164,hy164⟩:∃ y_:List ByteArray,y_=(y161 ++ l1_1):=⟨_,rfl⟩
    replace H:(cadenceref3_pick.l0 k y164 0 true l0_1 a1_0 l1_1 a1_0 ([]:List ByteArray))=some (r1,r2):=by first|(rw [hy164];with_reducible exact H)|(have H2_:=(Option.bind_some _ _).symm.trans H;rw [hy164];with_reducible exact H2_)|(have H2_:=(Option.bind_some _ _).symm.trans H;with_reducible exact H2_)|with_reducible exact H|(rw [hy164];exact H)|exact H
    have Ny164:=Aside0.mk hy164
    clear hy164
    have H':=Aside0.mk H
    clear H
    go_enter Try.func43,Try.ntmps43
    try go_wp2_with (first|((with_reducible refine gate_dst (N:=3) rfl ?_);refine box_event ?hg (N:=3) ?hd (cs:=#[.bool true,.slice A0_1 l0_1.length c0_1]) (t:=38) ?hr ?_;(case hd=>rfl);(case hg=>rfl);(case hr=>first|(go_simp;done)|(go_simp;rfl));intro gb154 hg w7 hbox hb;have n0_:=Aside0.mk (below_step (by repeat (first|(with_reducible first|exact HB.out|apply bA_|apply bN_|apply bD_)|exact HB.out)) hb);have n1_:=Aside0.mk (hbox);have n2_:=Aside0.mk ((by rw [hg];exact (below_size (by repeat (first|(with_reducible first|exact HB.out|apply bA_|apply bN_|apply bD_)|exact HB.out))):w.heap.size≤gb154));have n3_:=Aside0.mk ((by rw [hg];exact (below_size (by repeat (first|(with_reducible first|exact HB.out|apply bA_|apply bN_|apply bD_)|exact HB.out))):w.heap.size≤gb154));clear HB;have HB:=n0_;have BK154:=n1_;have GW154:=n2_;have GE154:=n3_;clear n0_ n1_ n2_ n3_;clear hb hbox hg)|((with_reducible refine gate_dst (N:=4) rfl ?_);refine box_event ?hg (N:=4) ?hd (cs:=#[.bool a1_0,.slice A1_1 l1_1.length c1_1]) (t:=38) ?hr ?_;(case hd=>rfl);(case hg=>rfl);(case hr=>first|(go_simp;done)|(go_simp;rfl));intro gb155 hg w8 hbox hb;have n0_:=Aside0.mk (blk_below (g:=gb154) (o:=.cells #[.bool true,.slice A0_1 l0_1.length c0_1] 38 (0,0)) (by (with_reducible repeat (first|refine blk_drewN ?_ _|refine blk_drew ?_|refine blk_alloc ?_ _));exact BK154.out) hb);have n1_:=Aside0.mk (below_step (by repeat (first|(with_reducible first|exact HB.out|apply bA_|apply bN_|apply bD_|refine below_set ?_ GE154.out)|exact HB.out)) hb);have n2_:=Aside0.mk (hbox);have n3_:=Aside0.mk ((by rw [hg];exact (below_size (by repeat (first|(with_reducible first|exact HB.out|apply bA_|apply bN_|apply bD_|refine below_set ?_ GE154.out)|exact HB.out))):w.heap.size≤gb155));have n4_:=Aside0.mk ((by rw [hg];exact (below_size (by repeat (first|(with_reducible first|exact HB.out|apply bA_|apply bN_|apply bD_|refine below_set ?_ GE154.out)|exact HB.out))):w.heap.size≤gb155));have n5_:=Aside0.mk ((by rw [hg];exact Nat.ne_of_lt (blk_lt (g:=gb154) (o:=.cells #[.bool true,.slice A0_1 l0_1.length c0_1] 38 (0,0)) (by (with_reducible repeat (first|refine blk_drewN ?_ _|refine blk_drew ?_|refine blk_alloc ?_ _));exact BK154.out)):gb154≠gb155));have n6_:=Aside0.mk ((by rw [hg];exact Nat.ne_of_gt (blk_lt (g:=gb154) (o:=.cells #[.bool true,.slice A0_1 l0_1.length c0_1] 38 (0,0)) (by (with_reducible repeat (first|refine blk_drewN ?_ _|refine blk_drew ?_|refine blk_alloc ?_ _));exact BK154.out)):gb155≠gb154));clear BK154;clear HB;have BK154:=n0_;have HB:=n1_;have BK155:=n2_;have GW155:=n3_;have GE155:=n4_;have NB154_155:=n5_;have NB155_154:=n6_;clear n0_ n1_ n2_ n3_ n4_ n5_ n6_;clear hb hbox hg)|((with_reducible refine gate_dst (N:=6) rfl ?_);refine box_event ?hg (N:=6) ?hd (cs:=#[.bool false,.slice none 0 0]) (t:=38) ?hr ?_;(case hd=>rfl);(case hg=>rfl);(case hr=>first|(go_simp;done)|(go_simp;rfl));intro gb156 hg w9 hbox hb;have n0_:=Aside0.mk (blk_below (g:=gb154) (o:=.cells #[.bool true,.slice A0_1 l0_1.length c0_1] 38 (0,0)) (by (with_reducible repeat (first|refine blk_drewN ?_ _|refine blk_drew ?_|refine blk_alloc ?_ _));exact BK154.out) hb);have n1_:=Aside0.mk (blk_below (g:=gb155) (o:=.cells #[.bool a1_0,.slice A1_1 l1_1.length c1_1] 38 (0,0)) (by (with_reducible repeat (first|refine blk_drewN ?_ _|refine blk_drew ?_|refine blk_alloc ?_ _));exact BK155.out) hb);have n2_:=Aside0.mk (below_step (by repeat (first|(with_reducible first|exact HB.out|apply bA_|apply bN_|apply bD_|refine below_set ?_ GE154.out|refine below_set ?_ GE155.out)|exact HB.out)) hb);have n3_:=Aside0.mk (hbox);have n4_:=Aside0.mk ((by rw [hg];exact (below_size (by repeat (first|(with_reducible first|exact HB.out|apply bA_|apply bN_|apply bD_|refine below_set ?_ GE154.out|refine below_set ?_ GE155.out)|exact HB.out))):w.heap.size≤gb156));have n5_:=Aside0.mk ((by rw [hg];exact (below_size (by repeat (first|(with_reducible first|exact HB.out|apply bA_|apply bN_|apply bD_|refine below_set ?_ GE154.out|refine below_set ?_ GE155.out)|exact HB.out))):w.heap.size≤gb156));have n6_:=Aside0.mk ((by rw [hg];exact Nat.ne_of_lt (blk_lt (g:=gb154) (o:=.cells #[.bool true,.slice A0_1 l0_1.length c0_1] 38 (0,0)) (by (with_reducible repeat (first|refine blk_drewN ?_ _|refine blk_drew ?_|refine blk_alloc ?_ _));exact BK154.out)):gb154≠gb156));have n7_:=Aside0.mk ((by rw [hg];exact Nat.ne_of_gt (blk_lt (g:=gb154) (o:=.cells #[.bool true,.slice A0_1 l0_1.length c0_1] 38 (0,0)) (by (with_reducible repeat (first|refine blk_drewN ?_ _|refine blk_drew ?_|refine blk_alloc ?_ _));exact BK154.out)):gb156≠gb154));have n8_:=Aside0.mk ((by rw [hg];exact Nat.ne_of_lt (blk_lt (g:=gb155) (o:=.cells #[.bool a1_0,.slice A1_1 l1_1.length c1_1] 38 (0,0)) (by (with_reducible repeat (first|refine blk_drewN ?_ _|refine blk_drew ?_|refine blk_alloc ?_ _));exact BK155.out)):gb155≠gb156));have n9_:=Aside0.mk ((by rw [hg];exact Nat.ne_of_gt (blk_lt (g:=gb155) (o:=.cells #[.bool a1_0,.slice A1_1 l1_1.length c1_1] 38 (0,0)) (by (with_reducible repeat (first|refine blk_drewN ?_ _|refine blk_drew ?_|refine blk_alloc ?_ _));exact BK155.out)):gb156≠gb155));clear BK154;clear BK155;clear HB;have BK154:=n0_;have BK155:=n1_;have HB:=n2_;have BK156:=n3_;have GW156:=n4_;have GE156:=n5_;have NB154_156:=n6_;have NB156_154:=n7_;have NB155_156:=n8_;have NB156_155:=n9_;clear n0_ n1_ n2_ n3_ n4_ n5_ n6_ n7_ n8_ n9_;clear hb hbox hg;have hnb10:=NB154_155.out;have hnc10:=NB155_154.out;have hnb11:=NB154_156.out;have hnc11:=NB156_154.out;have hcz12_0:w9.cell? ⟨gb154,0,none⟩=some (.bool true):=(blk_cell BK154.out 0).trans rfl;have hcz12_1:w9.cell? ⟨gb154,1,none⟩=some (.slice A0_1 l0_1.length c0_1):=(blk_cell BK154.out 1).trans rfl;have hfz12_0:=blk_frozen BK154.out 0;have hfz12_1:=blk_frozen BK154.out 1;have hnb13:=NB155_156.out;have hnc13:=NB156_155.out;have hcz14_0:w9.cell? ⟨gb155,0,none⟩=some (.bool a1_0):=(blk_cell BK155.out 0).trans rfl;have hcz14_1:w9.cell? ⟨gb155,1,none⟩=some (.slice A1_1 l1_1.length c1_1):=(blk_cell BK155.out 1).trans rfl;have hfz14_0:=blk_frozen BK155.out 0;have hfz14_1:=blk_frozen BK155.out 1)|((with_reducible refine gate_dst (N:=7) rfl ?_);refine box_event ?hg (N:=7) ?hd (cs:=#[.bool false,.slice none 0 0]) (t:=38) ?hr ?_;(case hd=>rfl);(case hg=>rfl);(case hr=>first|(go_simp;done)|(go_simp;rfl));intro gb157 hg w15 hbox hb;have n0_:=Aside0.mk (blk_below (g:=gb154) (o:=.cells #[.bool true,.slice A0_1 l0_1.length c0_1] 38 (0,0)) (by (with_reducible repeat (first|refine blk_drewN ?_ _|refine blk_drew ?_|refine blk_alloc ?_ _));exact BK154.out) hb);have n1_:=Aside0.mk (blk_below (g:=gb155) (o:=.cells #[.bool a1_0,.slice A1_1 l1_1.length c1_1] 38 (0,0)) (by (with_reducible repeat (first|refine blk_drewN ?_ _|refine blk_drew ?_|refine blk_alloc ?_ _));exact BK155.out) hb);have n2_:=Aside0.mk (blk_below (g:=gb156) (o:=.cells #[.bool false,.slice none 0 0] 38 (0,0)) (by (with_reducible repeat (first|refine blk_drewN ?_ _|refine blk_drew ?_|refine blk_alloc ?_ _));exact BK156.out) hb);have n3_:=Aside0.mk (below_step (by repeat (first|(with_reducible first|exact HB.out|apply bA_|apply bN_|apply bD_|refine below_set ?_ GE154.out|refine below_set ?_ GE155.out|refine below_set ?_ GE156.out)|exact HB.out)) hb);have n4_:=Aside0.mk (hbox);have n5_:=Aside0.mk ((by rw [hg];exact (below_size (by repeat (first|(with_reducible first|exact HB.out|apply bA_|apply bN_|apply bD_|refine below_set ?_ GE154.out|refine below_set ?_ GE155.out|refine below_set ?_ GE156.out)|exact HB.out))):w.heap.size≤gb157));have n6_:=Aside0.mk ((by rw [hg];exact (below_size (by repeat (first|(with_reducible first|exact HB.out|apply bA_|apply bN_|apply bD_|refine below_set ?_ GE154.out|refine below_set ?_ GE155.out|refine below_set ?_ GE156.out)|exact HB.out))):w.heap.size≤gb157));have n7_:=Aside0.mk ((by rw [hg];exact Nat.ne_of_lt (blk_lt (g:=gb154) (o:=.cells #[.bool true,.slice A0_1 l0_1.length c0_1] 38 (0,0)) (by (with_reducible repeat (first|refine blk_drewN ?_ _|refine blk_drew ?_|refine blk_alloc ?_ _));exact BK154.out)):gb154≠gb157));have n8_:=Aside0.mk ((by rw [hg];exact Nat.ne_of_gt (blk_lt (g:=gb154) (o:=.cells #[.bool true,.slice A0_1 l0_1.length c0_1] 38 (0,0)) (by (with_reducible repeat (first|refine blk_drewN ?_ _|refine blk_drew ?_|refine blk_alloc ?_ _));exact BK154.out)):gb157≠gb154));have n9_:=Aside0.mk ((by rw [hg];exact Nat.ne_of_lt (blk_lt (g:=gb155) (o:=.cells #[.bool a1_0,.slice A1_1 l1_1.length c1_1] 38 (0,0)) (by (with_reducible repeat (first|refine blk_drewN ?_ _|refine blk_drew ?_|refine blk_alloc ?_ _));exact BK155.out)):gb155≠gb157));have n10_:=Aside0.mk ((by rw [hg];exact Nat.ne_of_gt (blk_lt (g:=gb155) (o:=.cells #[.bool a1_0,.slice A1_1 l1_1.length c1_1] 38 (0,0)) (by (with_reducible repeat (first|refine blk_drewN ?_ _|refine blk_drew ?_|refine blk_alloc ?_ _));exact BK155.out)):gb157≠gb155));have n11_:=Aside0.mk ((by rw [hg];exact Nat.ne_of_lt (blk_lt (g:=gb156) (o:=.cells #[.bool false,.slice none 0 0] 38 (0,0)) (by (with_reducible repeat (first|refine blk_drewN ?_ _|refine blk_drew ?_|refine blk_alloc ?_ _));exact BK156.out)):gb156≠gb157));have n12_:=Aside0.mk ((by rw [hg];exact Nat.ne_of_gt (blk_lt (g:=gb156) (o:=.cells #[.bool false,.slice none 0 0] 38 (0,0)) (by (with_reducible repeat (first|refine blk_drewN ?_ _|refine blk_drew ?_|refine blk_alloc ?_ _));exact BK156.out)):gb157≠gb156));clear BK154;clear BK155;clear BK156;clear HB;have BK154:=n0_;have BK155:=n1_;have BK156:=n2_;have HB:=n3_;have BK157:=n4_;have GW157:=n5_;have GE157:=n6_;have NB154_157:=n7_;have NB157_154:=n8_;have NB155_157:=n9_;have NB157_155:=n10_;have NB156_157:=n11_;have NB157_156:=n12_;clear n0_ n1_ n2_ n3_ n4_ n5_ n6_ n7_ n8_ n9_ n10_ n11_ n12_;clear hb hbox hg;have hnb16:=NB157_154.out;have hnc16:=NB154_157.out;have hnb17:=NB157_155.out;have hnc17:=NB155_157.out;have hnb18:=NB157_156.out;have hnc18:=NB156_157.out;have hcz19_0:w15.cell? ⟨gb157,0,none⟩=some (.bool false):=(blk_cell BK157.out 0).trans rfl;have hcz19_1:w15.cell? ⟨gb157,1,none⟩=some (.slice none 0 0):=(blk_cell BK157.out 1).trans rfl;have hfz19_0:=blk_frozen BK157.out 0;have hfz19_1:=blk_frozen BK157.out 1))
    have n0_:Aside0 (((w15.setCell ⟨gb157,0,none⟩ (.bool a1_0)).setCell ⟨gb157,1,none⟩ (.slice none 0 0)).heap[gb154]? = some (.cells #[.bool true,.slice A0_1 l0_1.length c0_1] 38 (0,0))):=⟨by (with_reducible repeat (first|refine blk_drewN ?_ _|refine blk_drew ?_|refine blk_alloc ?_ _));refine blk_far ?_ NB154_157.out _;(with_reducible repeat (first|refine blk_drewN ?_ _|refine blk_drew ?_|refine blk_alloc ?_ _));refine blk_far ?_ NB154_157.out _;(with_reducible repeat (first|refine blk_drewN ?_ _|refine blk_drew ?_|refine blk_alloc ?_ _));exact BK154.out⟩
    have n1_:Aside0 (((w15.setCell ⟨gb157,0,none⟩ (.bool a1_0)).setCell ⟨gb157,1,none⟩ (.slice none 0 0)).heap[gb155]? = some (.cells #[.bool a1_0,.slice A1_1 l1_1.length c1_1] 38 (0,0))):=⟨by (with_reducible repeat (first|refine blk_drewN ?_ _|refine blk_drew ?_|refine blk_alloc ?_ _));refine blk_far ?_ NB155_157.out _;(with_reducible repeat (first|refine blk_drewN ?_ _|refine blk_drew ?_|refine blk_alloc ?_ _));refine blk_far ?_ NB155_157.out _;(with_reducible repeat (first|refine blk_drewN ?_ _|refine blk_drew ?_|refine blk_alloc ?_ _));exact BK155.out⟩
    have n2_:Aside0 (((w15.setCell ⟨gb157,0,none⟩ (.bool a1_0)).setCell ⟨gb157,1,none⟩ (.slice none 0 0)).heap[gb156]? = some (.cells #[.bool false,.slice none 0 0] 38 (0,0))):=⟨by (with_reducible repeat (first|refine blk_drewN ?_ _|refine blk_drew ?_|refine blk_alloc ?_ _));refine blk_far ?_ NB156_157.out _;(with_reducible repeat (first|refine blk_drewN ?_ _|refine blk_drew ?_|refine blk_alloc ?_ _));refine blk_far ?_ NB156_157.out _;(with_reducible repeat (first|refine blk_drewN ?_ _|refine blk_drew ?_|refine blk_alloc ?_ _));exact BK156.out⟩
    have n3_:Aside0 (((w15.setCell ⟨gb157,0,none⟩ (.bool a1_0)).setCell ⟨gb157,1,none⟩ (.slice none 0 0)).heap[gb157]? = some (.cells #[.bool a1_0,.slice none 0 0] 38 (0,0))):=⟨by (with_reducible repeat (first|refine blk_drewN ?_ _|refine blk_drew ?_|refine blk_alloc ?_ _));refine blk_put (cs:=#[.bool a1_0,.slice none 0 0]) ?_ 1 _ rfl;(with_reducible repeat (first|refine blk_drewN ?_ _|refine blk_drew ?_|refine blk_alloc ?_ _));refine blk_put (cs:=#[.bool false,.slice none 0 0]) ?_ 0 _ rfl;(with_reducible repeat (first|refine blk_drewN ?_ _|refine blk_drew ?_|refine blk_alloc ?_ _));exact BK157.out⟩
    have n4_:Aside0 (Below w.heap.size w ((w15.setCell ⟨gb157,0,none⟩ (.bool a1_0)).setCell ⟨gb157,1,none⟩ (.slice none 0 0))):=⟨by repeat (first|(with_reducible first|exact HB.out|apply bA_|apply bN_|apply bD_|refine below_set ?_ GE154.out|refine below_set ?_ GE155.out|refine below_set ?_ GE156.out|refine below_set ?_ GE157.out)|exact HB.out)⟩
    (try clear BK154)
    (try clear BK155)
    (try clear BK156)
    (try clear BK157)
    (try clear HB)
    generalize ((w15.setCell ⟨gb157,0,none⟩ (.bool a1_0)).setCell ⟨gb157,1,none⟩ (.slice none 0 0))=w20 at n0_ n1_ n2_ n3_ n4_ ⊢
    have BK154:=n0_
    have BK155:=n1_
    have BK156:=n2_
    have BK157:=n3_
    have HB:=n4_
    clear n0_ n1_ n2_ n3_ n4_
    have n0_:=Aside0.mk (blk_drew BK154.out)
    have n1_:=Aside0.mk (blk_drew BK155.out)
    have n2_:=Aside0.mk (blk_drew BK156.out)
    have n3_:=Aside0.mk (blk_drew BK157.out)
    have n4_:=Aside0.mk (bD_ HB.out)
    clear BK154
    clear BK155
    clear BK156
    clear BK157
    clear HB
    have BK154:=n0_
    have BK155:=n1_
    have BK156:=n2_
    have BK157:=n3_
    have HB:=n4_
    clear n0_ n1_ n2_ n3_ n4_
    refine start_ (n:=8) (S:=fun w'=>w'.cell? ⟨gb154,0,none⟩=some (.bool true)∧w'.cell? ⟨gb154,1,none⟩=some (.slice A0_1 l0_1.length c0_1)∧w'.cell? ⟨gb155,0,none⟩=some (.bool a1_0)∧w'.cell? ⟨gb155,1,none⟩=some (.slice A1_1 l1_1.length c1_1)) (ds:=[]) #[false,false,false,false,false,false,false,false] (by kernel_rfl) rfl rfl ⟨(blk_cell BK154.out 0).trans rfl,(blk_cell BK154.out 1).trans rfl,(blk_cell BK155.out 0).trans rfl,(blk_cell BK155.out 1).trans rfl⟩ (fun hHeld=>?_);refine with_tabW cadenceref3_pick.tab4 cadenceref3_pick.bits4 (fun HT_ HW_=>?_)
    generalize w20.drew=w21 at BK154 BK155 BK156 BK157 HB hHeld ⊢
    refine pure_ (i:=1) (N:=some 28) (v:=?_) (a':=?_) #[false,true,false,false,false,false,false,false] rfl rfl (any_of HT_.out (by kernel_rfl)) (fun _ _ _ h=>h) (Or.inl ⟨by rfl,?_⟩) ?_ ?_
    rotate_left
    ·intro w'
     go_simp
     with_reducible rfl
    rotate_left
    ·simp only [Act.put,List.setIfInBounds_toArray,List.set_cons_zero,List.set_cons_succ,i64_w,i32_w]
     rfl
    refine pure_ (i:=4) (N:=some 31) (v:=?_) (a':=?_) #[false,true,false,false,true,false,false,false] rfl rfl (any_of HT_.out (by kernel_rfl)) (fun _ _ _ h=>h) (Or.inl ⟨by rfl,?_⟩) ?_ ?_
    rotate_left
    ·intro w'
     go_simp
     with_reducible rfl
    rotate_left
    ·simp only [Act.put,List.setIfInBounds_toArray,List.set_cons_zero,List.set_cons_succ,i64_w,i32_w]
     rfl
    refine take_ (i:=2) (N:=some 29) (v:=?_) (a':=?_) #[false,true,true,false,true,false,false,false] rfl rfl (take_ofW HT_.out HW_.out (by kernel_rfl)) (fun _ _ _ h=>h) (Or.inl ⟨by rfl,?_⟩) hHeld ?_ ?_
    rotate_left
    ·rintro w' ⟨s0,s1,s2,s3⟩
     go_simp
     with_reducible rfl
    rotate_left
    ·simp only [Act.put,List.setIfInBounds_toArray,List.set_cons_zero,List.set_cons_succ,i64_w,i32_w]
     rfl
    refine take_ (i:=5) (N:=some 32) (v:=?_) (a':=?_) #[false,true,true,false,true,true,false,false] rfl rfl (take_ofW HT_.out HW_.out (by kernel_rfl)) (fun _ _ _ h=>h) (Or.inl ⟨by rfl,?_⟩) hHeld ?_ ?_
    rotate_left
    ·rintro w' ⟨s0,s1,s2,s3⟩
     go_simp
     with_reducible rfl
    rotate_left
    ·simp only [Act.put,List.setIfInBounds_toArray,List.set_cons_zero,List.set_cons_succ,i64_w,i32_w]
     rfl
    refine one_ (i:=0) (N:=some 27) #[true,true,true,false,true,true,false,false] rfl rfl (one_of HT_.out (by kernel_rfl)) (by decide) (fun K hK=>?_)
    refine Kd.R_lit_step Kd.string _ 9 ?hg (N:=27) ?hd (xs:=([]:List ByteArray)) (inner:=[]) (ok:=fun _=>True) (okp:=fun _=>True) ?hr ?hp (fun _ hk=>hk) trivial (Below.refl _ _) (Nat.le_refl _) (by simp) ?_;(case hd=>rfl);(case hg=>rfl);(case hr=>first|(go_simp;done)|(go_simp;rfl));(case hp=>exact (Reps.none _ _))
    intro v159 w22 ho23 hb hg_ hnew_
    clear hg_ hnew_
    (first|rw [← Ny158.out] at ho23|(simp only [Int.reduceToNat] at ho23;rw [← Ny158.out] at ho23))
    have n0_:=Aside0.mk (Kd.R_lower ho23 (below_size (by repeat (first|(with_reducible first|exact HB.out|apply bA_|apply bN_|apply bD_|refine below_set ?_ GE154.out|refine below_set ?_ GE155.out|refine below_set ?_ GE156.out|refine below_set ?_ GE157.out)|exact HB.out))))
    have n1_:=Aside0.mk (blk_below (g:=gb154) (o:=.cells #[.bool true,.slice A0_1 l0_1.length c0_1] 38 (0,0)) (by (with_reducible repeat (first|refine blk_drewN ?_ _|refine blk_drew ?_|refine blk_alloc ?_ _));exact BK154.out) hb)
    have n2_:=Aside0.mk (blk_below (g:=gb155) (o:=.cells #[.bool a1_0,.slice A1_1 l1_1.length c1_1] 38 (0,0)) (by (with_reducible repeat (first|refine blk_drewN ?_ _|refine blk_drew ?_|refine blk_alloc ?_ _));exact BK155.out) hb)
    have n3_:=Aside0.mk (blk_below (g:=gb156) (o:=.cells #[.bool false,.slice none 0 0] 38 (0,0)) (by (with_reducible repeat (first|refine blk_drewN ?_ _|refine blk_drew ?_|refine blk_alloc ?_ _));exact BK156.out) hb)
    have n4_:=Aside0.mk (blk_below (g:=gb157) (o:=.cells #[.bool a1_0,.slice none 0 0] 38 (0,0)) (by (with_reducible repeat (first|refine blk_drewN ?_ _|refine blk_drew ?_|refine blk_alloc ?_ _));exact BK157.out) hb)
    have n5_:=Aside0.mk (below_step (by repeat (first|(with_reducible first|exact HB.out|apply bA_|apply bN_|apply bD_|refine below_set ?_ GE154.out|refine below_set ?_ GE155.out|refine below_set ?_ GE156.out|refine below_set ?_ GE157.out)|exact HB.out)) hb)
    clear BK154
    clear BK155
    clear BK156
    clear BK157
    clear HB
    have HO160:=n0_
    have BK154:=n1_
    have BK155:=n2_
    have BK156:=n3_
    have BK157:=n4_
    have HB:=n5_
    clear n0_ n1_ n2_ n3_ n4_ n5_
    clear hb ho23
    refine hK.out _ _ ⟨(blk_cell BK154.out 0).trans rfl,(blk_cell BK154.out 1).trans rfl,(blk_cell BK155.out 0).trans rfl,(blk_cell BK155.out 1).trans rfl⟩ (fun hHeld=>?_)
    clear hK K
    refine norm_ (a':=?_) ?_ ?_
    rotate_left
    ·show Act.put _ (some 27) _=_
     simp only [Act.put,List.setIfInBounds_toArray,List.set_cons_zero,List.set_cons_succ,i64_w,i32_w]
     rfl
    refine one_ (i:=3) (N:=some 30) #[true,true,true,true,true,true,false,false] rfl rfl (one_of HT_.out (by kernel_rfl)) (by decide) (fun K hK=>?_)
    refine Kd.R_append_rows_step Kd.string (w0:=w) w.heap.size (by rfl) (.tmp 27) (.tmp 29) 36 9 (.string ⟨#[]⟩) 16 rfl Try.underlying36 info9 rfl (by decide) (by omega) v159 y158 l0_1 _ _ _ (fun _=>True) (fun _=>False) rfl rfl ?aO ?aR (fun _ _ h=>h) (fun _ h=>h.elim) ?aF ?aB ?aS ?aL ?_
    (case aR=>repeat (first|exact (Kd.C_below HR0_1.out HB.out)|(with_reducible refine cA_ ?_ _)|(with_reducible refine cN_ ?_ _)|(with_reducible refine cD_ ?_)))
    (case aB=>exact (by repeat (first|(with_reducible first|exact HB.out|apply bA_|apply bN_|apply bD_|refine below_set ?_ GE154.out|refine below_set ?_ GE155.out|refine below_set ?_ GE156.out|refine below_set ?_ GE157.out)|exact HB.out)))
    (case aF=>exact (fun _ _=>trivial))
    (case aO=>exact (by (with_reducible repeat (first|apply rA_|apply rN_|apply rD_));exact HO160.out))
    (case aS=>exact (below_size (by repeat (first|(with_reducible first|exact HB.out|apply bA_|apply bN_|apply bD_|refine below_set ?_ GE154.out|refine below_set ?_ GE155.out|refine below_set ?_ GE156.out|refine below_set ?_ GE157.out)|exact HB.out))))
    (case aL=>have:=LMc5.out;omega)
    intro v162 w24 ho hb hg hat
    rw [← Ny161.out] at ho
    have n0_:=Aside0.mk (blk_grown (g:=gb154) (o:=.cells #[.bool true,.slice A0_1 l0_1.length c0_1] 38 (0,0)) (by (with_reducible repeat (first|refine blk_drewN ?_ _|refine blk_drew ?_|refine blk_alloc ?_ _));exact BK154.out) hg (Kd.R_ne HO160.out BK154.out (by decide)))
    have n1_:=Aside0.mk (blk_grown (g:=gb155) (o:=.cells #[.bool a1_0,.slice A1_1 l1_1.length c1_1] 38 (0,0)) (by (with_reducible repeat (first|refine blk_drewN ?_ _|refine blk_drew ?_|refine blk_alloc ?_ _));exact BK155.out) hg (Kd.R_ne HO160.out BK155.out (by decide)))
    have n2_:=Aside0.mk (blk_grown (g:=gb156) (o:=.cells #[.bool false,.slice none 0 0] 38 (0,0)) (by (with_reducible repeat (first|refine blk_drewN ?_ _|refine blk_drew ?_|refine blk_alloc ?_ _));exact BK156.out) hg (Kd.R_ne HO160.out BK156.out (by decide)))
    have n3_:=Aside0.mk (blk_grown (g:=gb157) (o:=.cells #[.bool a1_0,.slice none 0 0] 38 (0,0)) (by (with_reducible repeat (first|refine blk_drewN ?_ _|refine blk_drew ?_|refine blk_alloc ?_ _));exact BK157.out) hg (Kd.R_ne HO160.out BK157.out (by decide)))
    have n4_:=Aside0.mk (hb)
    have n5_:=Aside0.mk (ho)
    clear BK154
    clear BK155
    clear BK156
    clear BK157
    clear HB
    clear HO160
    have BK154:=n0_
    have BK155:=n1_
    have BK156:=n2_
    have BK157:=n3_
    have HB:=n4_
    have HO163:=n5_
    clear n0_ n1_ n2_ n3_ n4_ n5_
    clear ho hb hg hat
    refine hK.out _ _ ⟨(blk_cell BK154.out 0).trans rfl,(blk_cell BK154.out 1).trans rfl,(blk_cell BK155.out 0).trans rfl,(blk_cell BK155.out 1).trans rfl⟩ (fun hHeld=>?_)
    clear hK K
    refine norm_ (a':=?_) ?_ ?_
    rotate_left
    ·show Act.put _ (some 30) _=_
     simp only [Act.put,List.setIfInBounds_toArray,List.set_cons_zero,List.set_cons_succ,i64_w,i32_w]
     rfl
    refine one_ (i:=6) (N:=some 33) #[true,true,true,true,true,true,true,false] rfl rfl (one_of HT_.out (by kernel_rfl)) (by decide) (fun K hK=>?_)
    refine Kd.R_append_rows_step Kd.string (w0:=w) w.heap.size (by rfl) (.tmp 30) (.tmp 32) 36 9 (.string ⟨#[]⟩) 16 rfl Try.underlying36 info9 rfl (by decide) (by omega) v162 y161 l1_1 _ _ _ (fun _=>True) (fun _=>False) rfl rfl ?aO ?aR (fun _ _ h=>h) (fun _ h=>h.elim) ?aF ?aB ?aS ?aL ?_
    (case aR=>repeat (first|exact (Kd.C_below HR1_1.out HB.out)|(with_reducible refine cA_ ?_ _)|(with_reducible refine cN_ ?_ _)|(with_reducible refine cD_ ?_)))
    (case aB=>exact (by repeat (first|(with_reducible first|exact HB.out|apply bA_|apply bN_|apply bD_|refine below_set ?_ GE154.out|refine below_set ?_ GE155.out|refine below_set ?_ GE156.out|refine below_set ?_ GE157.out)|exact HB.out)))
    (case aF=>exact (fun _ _=>trivial))
    (case aO=>exact (by (with_reducible repeat (first|apply rA_|apply rN_|apply rD_));exact HO163.out))
    (case aS=>exact (below_size (by repeat (first|(with_reducible first|exact HB.out|apply bA_|apply bN_|apply bD_|refine below_set ?_ GE154.out|refine below_set ?_ GE155.out|refine below_set ?_ GE156.out|refine below_set ?_ GE157.out)|exact HB.out))))
    (case aL=>have:=LMc6.out;omega)
    intro v165 w25 ho hb hg hat
    rw [← Ny164.out] at ho
    have n0_:=Aside0.mk (blk_grown (g:=gb154) (o:=.cells #[.bool true,.slice A0_1 l0_1.length c0_1] 38 (0,0)) (by (with_reducible repeat (first|refine blk_drewN ?_ _|refine blk_drew ?_|refine blk_alloc ?_ _));exact BK154.out) hg (Kd.R_ne HO163.out BK154.out (by decide)))
    have n1_:=Aside0.mk (blk_grown (g:=gb155) (o:=.cells #[.bool a1_0,.slice A1_1 l1_1.length c1_1] 38 (0,0)) (by (with_reducible repeat (first|refine blk_drewN ?_ _|refine blk_drew ?_|refine blk_alloc ?_ _));exact BK155.out) hg (Kd.R_ne HO163.out BK155.out (by decide)))
    have n2_:=Aside0.mk (blk_grown (g:=gb156) (o:=.cells #[.bool false,.slice none 0 0] 38 (0,0)) (by (with_reducible repeat (first|refine blk_drewN ?_ _|refine blk_drew ?_|refine blk_alloc ?_ _));exact BK156.out) hg (Kd.R_ne HO163.out BK156.out (by decide)))
    have n3_:=Aside0.mk (blk_grown (g:=gb157) (o:=.cells #[.bool a1_0,.slice none 0 0] 38 (0,0)) (by (with_reducible repeat (first|refine blk_drewN ?_ _|refine blk_drew ?_|refine blk_alloc ?_ _));exact BK157.out) hg (Kd.R_ne HO163.out BK157.out (by decide)))
    have n4_:=Aside0.mk (hb)
    have n5_:=Aside0.mk (ho)
    clear BK154
    clear BK155
    clear BK156
    clear BK157
    clear HB
    clear HO163
    have BK154:=n0_
    have BK155:=n1_
    have BK156:=n2_
    have BK157:=n3_
    have HB:=n4_
    have HO166:=n5_
    clear n0_ n1_ n2_ n3_ n4_ n5_
    clear ho hb hg hat
    refine hK.out _ _ ⟨(blk_cell BK154.out 0).trans rfl,(blk_cell BK154.out 1).trans rfl,(blk_cell BK155.out 0).trans rfl,(blk_cell BK155.out 1).trans rfl⟩ (fun hHeld=>?_)
    clear hK K
    refine norm_ (a':=?_) ?_ ?_
    rotate_left
    ·show Act.put _ (some 33) _=_
     simp only [Act.put,List.setIfInBounds_toArray,List.set_cons_zero,List.set_cons_succ,i64_w,i32_w]
     rfl
    refine pure_ (i:=7) (N:=some 8) (v:=?_) (a':=?_) #[true,true,true,true,true,true,true,true] rfl rfl (any_of HT_.out (by kernel_rfl)) (fun _ _ _ h=>h) (Or.inl ⟨by rfl,?_⟩) ?_ ?_
    rotate_left
    ·intro w'
     go_simp
     with_reducible rfl
    rotate_left
    ·simp only [Act.put,List.setIfInBounds_toArray,List.set_cons_zero,List.set_cons_succ,i64_w,i32_w]
     rfl
    refine done_ (done_of HT_.out (by kernel_rfl)) ?_
    try go_wp2
    go_loopg [9] k (fun kq v9 w'=>∃ (x9_1:Int) (x158001_1:List ByteArray) (u158001:Value),v9=.int .i64 x9_1∧Aside0 (cadenceref3_pick.l0 kq y164 x9_1 true l0_1 a1_0 l1_1 a1_0 x158001_1=some (r1,r2))∧Aside0 (kq≤k)∧Aside0 (Kd.R Kd.string 9 w' w.heap.size (fun k_=>some k_≠(u158001:Value).ownBlock) v165 y164)∧Aside0 (Kd.R Kd.string 9 w' w.heap.size (fun k_=>some k_≠(v165:Value).ownBlock) u158001 x158001_1)∧Aside0 (w'.heap[gb154]? = some (.cells #[.bool true,(.slice A0_1 l0_1.length c0_1)] 38 (0,0)))∧Aside0 (w'.heap[gb155]? = some (.cells #[.bool a1_0,(.slice A1_1 l1_1.length c1_1)] 38 (0,0)))∧Aside0 (w'.heap[gb156]? = some (.cells #[.bool false,(.slice none 0 0)] 38 (0,0)))∧Aside0 (w'.heap[gb157]? = some (.cells #[.bool a1_0,u158001] 38 (0,0)))∧Aside0 (Below w.heap.size w w'))
    case atStart=>exact ⟨(0),(([]:List ByteArray)),(.slice none 0 0),(by first|rfl|(simp;done)|(simp [*];done)),H',⟨Nat.le_refl _⟩,⟨by (with_reducible repeat (first|apply rA_|apply rN_|apply rD_));exact Kd.R_mono HO166.out (fun _ hk=>(by simp [Value.ownBlock]))⟩,⟨by first|exact Kd.R_nil _ _ _ _ _|exact Kd.N_nil _ _ _ _ _|exact Kd.V_nil _ _ _ _ _|exact Kd.Q_nil _ _ _ _ _|exact Kd.S_nil _ _ _ _ _⟩,⟨by (with_reducible repeat (first|refine blk_drewN ?_ _|refine blk_drew ?_|refine blk_alloc ?_ _));exact BK154.out⟩,⟨by (with_reducible repeat (first|refine blk_drewN ?_ _|refine blk_drew ?_|refine blk_alloc ?_ _));exact BK155.out⟩,⟨by (with_reducible repeat (first|refine blk_drewN ?_ _|refine blk_drew ?_|refine blk_alloc ?_ _));exact BK156.out⟩,⟨by (with_reducible repeat (first|refine blk_drewN ?_ _|refine blk_drew ?_|refine blk_alloc ?_ _));exact BK157.out⟩,⟨by repeat (first|(with_reducible first|exact HB.out|apply bA_|apply bN_|apply bD_|refine below_set ?_ GE154.out|refine below_set ?_ GE155.out|refine below_set ?_ GE156.out|refine below_set ?_ GE157.out)|exact HB.out)⟩⟩
    case round =>
     clear H'
     try clear c1
     try clear p2
     try clear c4
     try clear c5
     try clear c6
     try clear c10
     try clear c11
     try clear c13
     try clear c16
     try clear c17
     try clear c18
     try clear hcz12_0
     try clear hcz12_1
     try clear hcz14_0
     try clear hcz14_1
     try clear hcz19_0
     try clear hcz19_1
     try clear hfz12_0
     try clear hfz12_1
     try clear hfz14_0
     try clear hfz14_1
     try clear hfz19_0
     try clear hfz19_1
     obtain ⟨x9_1,x158001_1,u158001,rfl,HA,HK1,HO_8,HO_158001,BK154,BK155,BK156,BK157,HB⟩:=hrel
     cases gk with
     | zero=>exact absurd HA.out (by simp [cadenceref3_pick.l0])
     | succ k1 =>
      have H:=HA.out
      clear HA
      simp only [cadenceref3_pick.l0] at H
      by_cases c26:x9_1 < (y164.length:Int)
      ·rw [if_pos c26] at H
       have c26b0:decide (x9_1 < (y164.length:Int))=true:=decide_eq_true c26
       clear c26
       have HC27:=Aside0.mk H
       clear H
       obtain ⟨Ao28,co28,eo28⟩:=Kd.R_slice HO_8.out
       subst eo28
       go_upto_region 8 with (fail)
       go_cut [10] (fun v10 wc=>∃ (kq:Nat) (x10_26:Bool),v10=.bool x10_26∧Aside0 (cadenceref3_pick.j1 kq y164 x9_1 x10_26 true l0_1 a1_0 l1_1 a1_0 x158001_1=some (r1,r2))∧Aside0 (kq≤k1)∧Aside0 (Kd.R Kd.string 9 wc w.heap.size (fun k_=>some k_≠(u158001:Value).ownBlock) (.slice Ao28 y164.length co28) y164)∧Aside0 (Kd.R Kd.string 9 wc w.heap.size (fun k_=>some k_≠((.slice Ao28 y164.length co28):Value).ownBlock) u158001 x158001_1)∧Aside0 (wc.heap[gb154]? = some (.cells #[.bool true,(.slice A0_1 l0_1.length c0_1)] 38 (0,0)))∧Aside0 (wc.heap[gb155]? = some (.cells #[.bool a1_0,(.slice A1_1 l1_1.length c1_1)] 38 (0,0)))∧Aside0 (wc.heap[gb156]? = some (.cells #[.bool false,(.slice none 0 0)] 38 (0,0)))∧Aside0 (wc.heap[gb157]? = some (.cells #[.bool a1_0,u158001] 38 (0,0)))∧Aside0 (Below w.heap.size w wc))
       case first =>
        have H:=HC27.out
        clear HC27
        by_cases c29:0≤x9_1
        ·rw [if_pos c29] at H
         have c29b0:decide (0≤x9_1)=true:=decide_eq_true c29
         clear c29
         (first|rw [c29b0]|(simp only [i64_w,i32_w];rw [c29b0])|skip)
         replace H:=Option.bind_eq_some_iff.mp H
         obtain ⟨t168,A300,H⟩:=H
         replace H:(if t168=true then ((cadenceref3_Has.f k1 a1_0 l1_1 (rdOf ByteArray.empty y164 x9_1)).bind fun t170=>(cadenceref3_pick.j1 k1 y164 x9_1 t170 true l0_1 a1_0 l1_1 a1_0 x158001_1)) else (cadenceref3_pick.j1 k1 y164 x9_1 false true l0_1 a1_0 l1_1 a1_0 x158001_1))=some (r1,r2):=H
         have A30:=Aside0.mk A300
         clear A300
         by_cases c31:t168=true
         ·subst c31
          have H1:((cadenceref3_Has.f k1 a1_0 l1_1 (rdOf ByteArray.empty y164 x9_1)).bind fun t170=>(cadenceref3_pick.j1 k1 y164 x9_1 t170 true l0_1 a1_0 l1_1 a1_0 x158001_1))=some (r1,r2):=by rw [if_pos rfl] at H;exact H
          clear H
          have H:=H1
          clear H1
          replace H:=Option.bind_eq_some_iff.mp H
          obtain ⟨t170,A320,H⟩:=H
          replace H:(cadenceref3_pick.j1 k1 y164 x9_1 t170 true l0_1 a1_0 l1_1 a1_0 x158001_1)=some (r1,r2):=H
          have A32:=Aside0.mk A320
          clear A320
          have H':=Aside0.mk H
          clear H
          try go_wp2
          have n0_:=Aside0.mk (rD_ HO_8.out)
          have n1_:=Aside0.mk (rD_ HO_158001.out)
          have n2_:=Aside0.mk (blk_drew BK154.out)
          have n3_:=Aside0.mk (blk_drew BK155.out)
          have n4_:=Aside0.mk (blk_drew BK156.out)
          have n5_:=Aside0.mk (blk_drew BK157.out)
          have n6_:=Aside0.mk (bD_ HB.out)
          clear HO_8
          clear HO_158001
          clear BK154
          clear BK155
          clear BK156
          clear BK157
          clear HB
          have HO_8:=n0_
          have HO_158001:=n1_
          have BK154:=n2_
          have BK155:=n3_
          have BK156:=n4_
          have BK157:=n5_
          have HB:=n6_
          clear n0_ n1_ n2_ n3_ n4_ n5_ n6_
          have p167:0≤(x9_1:Int):=of_decide_eq_true (by first|(with_reducible assumption)|assumption)
          have q167:x9_1 < (y164.length:Int):=of_decide_eq_true (by first|(with_reducible assumption)|assumption)
          obtain ⟨ad167,e167,hx167_0⟩:=Kd.at_string (Kd.R_reads' HO_8.out).2.2 x9_1 p167 q167
          cases e167
          replace p167:=eq_true p167
          replace q167:=eq_true q167
          have p169:0≤(x9_1:Int):=of_decide_eq_true (by first|(with_reducible assumption)|assumption)
          have q169:x9_1 < (y164.length:Int):=of_decide_eq_true (by first|(with_reducible assumption)|assumption)
          obtain ⟨ad169,e169,hx169_0⟩:=Kd.at_string (Kd.R_reads' HO_8.out).2.2 x9_1 p169 q169
          obtain rfl:ad167=ad169:=(by injection e169)
          replace p169:=eq_true p169
          replace q169:=eq_true q169
          refine start_ (n:=15) (S:=fun w'=>w'.cell? ⟨gb154,0,none⟩=some (.bool true)∧w'.cell? ⟨gb154,1,none⟩=some (.slice A0_1 l0_1.length c0_1)∧w'.cell? ⟨gb155,0,none⟩=some (.bool a1_0)∧w'.cell? ⟨gb155,1,none⟩=some (.slice A1_1 l1_1.length c1_1)∧w'.cell? (ad167.add (x9_1).toNat)=some (.string (rdOf ByteArray.empty y164 x9_1))∧w'.cell? (ad167.add (x9_1).toNat)=some (.string (rdOf ByteArray.empty y164 x9_1))) (ds:=[]) #[false,false,false,false,false,false,false,false,false,false,false,false,false,false,false] (by kernel_rfl) rfl rfl ⟨(blk_cell BK154.out 0).trans rfl,(blk_cell BK154.out 1).trans rfl,(blk_cell BK155.out 0).trans rfl,(blk_cell BK155.out 1).trans rfl,hx167_0,hx169_0⟩ (fun hHeld=>?_);refine with_tabW cadenceref3_pick.tab8 cadenceref3_pick.bits8 (fun HT_ HW_=>?_)
          generalize wr.drew=w33 at HO_8 HO_158001 BK154 BK155 BK156 BK157 HB hx167_0 hx169_0 hHeld ⊢
          refine pure_ (i:=1) (N:=some 41) (v:=?_) (a':=?_) #[false,true,false,false,false,false,false,false,false,false,false,false,false,false,false] rfl rfl (any_of HT_.out (by kernel_rfl)) (fun _ _ _ h=>h) (Or.inl ⟨by rfl,?_⟩) ?_ ?_
          rotate_left
          ·intro w'
           go_simp
           with_reducible rfl
          rotate_left
          ·simp only [Act.put,List.setIfInBounds_toArray,List.set_cons_zero,List.set_cons_succ,i64_w,i32_w]
           rfl
          refine pure_ (i:=2) (N:=some 42) (v:=?_) (a':=?_) #[false,true,true,false,false,false,false,false,false,false,false,false,false,false,false] rfl rfl (any_of HT_.out (by kernel_rfl)) (fun _ _ _ h=>h) (Or.inl ⟨by rfl,?_⟩) ?_ ?_
          rotate_left
          ·intro w'
           go_simp
           with_reducible rfl
          rotate_left
          ·simp only [Act.put,List.setIfInBounds_toArray,List.set_cons_zero,List.set_cons_succ,i64_w,i32_w]
           rfl
          refine pure_ (i:=3) (N:=some 43) (v:=?_) (a':=?_) #[false,true,true,true,false,false,false,false,false,false,false,false,false,false,false] rfl rfl (any_of HT_.out (by kernel_rfl)) (fun _ _ _ h=>h) (Or.inl ⟨by rfl,?_⟩) ?_ ?_
          rotate_left
          ·intro w'
           go_simp
           with_reducible rfl
          rotate_left
          ·simp only [Act.put,List.setIfInBounds_toArray,List.set_cons_zero,List.set_cons_succ,i64_w,i32_w]
           rfl
          refine take_ (i:=0) (N:=some 40) (v:=?_) (a':=?_) #[true,true,true,true,false,false,false,false,false,false,false,false,false,false,false] rfl rfl (take_ofW HT_.out HW_.out (by kernel_rfl)) (fun _ _ _ h=>h) (Or.inl ⟨by rfl,?_⟩) hHeld ?_ ?_
          rotate_left
          ·rintro w' ⟨s0,s1,s2,s3,s4,s5⟩
           go_simp
           with_reducible rfl
          rotate_left
          ·simp only [Act.put,List.setIfInBounds_toArray,List.set_cons_zero,List.set_cons_succ,i64_w,i32_w]
           rfl
          refine take_ (i:=4) (N:=some 44) (v:=?_) (a':=?_) #[true,true,true,true,true,false,false,false,false,false,false,false,false,false,false] rfl rfl (take_ofW HT_.out HW_.out (by kernel_rfl)) (fun _ _ _ h=>h) (Or.inl ⟨by rfl,?_⟩) hHeld ?_ ?_
          rotate_left
          ·rintro w' ⟨s0,s1,s2,s3,s4,s5⟩
           go_simp
           with_reducible rfl
          rotate_left
          ·simp only [Act.put,List.setIfInBounds_toArray,List.set_cons_zero,List.set_cons_succ,i64_w,i32_w]
           rfl
          refine one_ (i:=5) (N:=some 45) #[true,true,true,true,true,true,false,false,false,false,false,false,false,false,false] rfl rfl (one_of HT_.out (by kernel_rfl)) (by decide) (fun K hK=>?_)
          refine goes_ Try.func42 (by kernel_rfl) rfl #[.agg #[.bool true,.slice A0_1 l0_1.length c0_1],.string (rdOf ByteArray.empty y164 x9_1)] (by rfl) rfl rfl (by (try simp only [List.map_toArray,List.map_cons,List.map_nil]);first|done|rfl|(simp only [List.length_drop,List.length_take];rfl)) ?_
          with_reducible refine (cadenceref3_Has.calls k1 true _ _ l0_1 (rdOf ByteArray.empty y164 x9_1) true _ ?side1 ?side2 A30.out).mono ?_
          (case side1=>repeat (first|exact (Kd.C_below HR0_1.out HB.out)|(with_reducible refine cA_ ?_ _)|(with_reducible refine cN_ ?_ _)|(with_reducible refine cD_ ?_)))
          (case side2=>exact HC0_1.out)
          rintro e w34 ⟨rfl,hb⟩
          have HS4_:=(hb.cell (World.block_lt_of_cell? _ _ (hHeld.2.2.2.2.1))).trans (hHeld.2.2.2.2.1)
          have HS5_:=(hb.cell (World.block_lt_of_cell? _ _ (hHeld.2.2.2.2.2))).trans (hHeld.2.2.2.2.2)
          refine ⟨_,rfl,?_⟩
          have n0_:=Aside0.mk (Kd.R_below (by (with_reducible repeat (first|apply rA_|apply rN_|apply rD_));exact HO_8.out) hb)
          have n1_:=Aside0.mk (Kd.R_below (by (with_reducible repeat (first|apply rA_|apply rN_|apply rD_));exact HO_158001.out) hb)
          have n2_:=Aside0.mk (blk_below (g:=gb154) (o:=.cells #[.bool true,.slice A0_1 l0_1.length c0_1] 38 (0,0)) (by (with_reducible repeat (first|refine blk_drewN ?_ _|refine blk_drew ?_|refine blk_alloc ?_ _));exact BK154.out) hb)
          have n3_:=Aside0.mk (blk_below (g:=gb155) (o:=.cells #[.bool a1_0,.slice A1_1 l1_1.length c1_1] 38 (0,0)) (by (with_reducible repeat (first|refine blk_drewN ?_ _|refine blk_drew ?_|refine blk_alloc ?_ _));exact BK155.out) hb)
          have n4_:=Aside0.mk (blk_below (g:=gb156) (o:=.cells #[.bool false,.slice none 0 0] 38 (0,0)) (by (with_reducible repeat (first|refine blk_drewN ?_ _|refine blk_drew ?_|refine blk_alloc ?_ _));exact BK156.out) hb)
          have n5_:=Aside0.mk (blk_below (g:=gb157) (o:=.cells #[.bool a1_0,u158001] 38 (0,0)) (by (with_reducible repeat (first|refine blk_drewN ?_ _|refine blk_drew ?_|refine blk_alloc ?_ _));exact BK157.out) hb)
          have n6_:=Aside0.mk (below_step (by repeat (first|(with_reducible first|exact HB.out|apply bA_|apply bN_|apply bD_|refine below_set ?_ GE154.out|refine below_set ?_ GE155.out|refine below_set ?_ GE156.out|refine below_set ?_ GE157.out)|exact HB.out)) hb)
          clear HO_8
          clear HO_158001
          clear BK154
          clear BK155
          clear BK156
          clear BK157
          clear HB
          have HO_8:=n0_
          have HO_158001:=n1_
          have BK154:=n2_
          have BK155:=n3_
          have BK156:=n4_
          have BK157:=n5_
          have HB:=n6_
          clear n0_ n1_ n2_ n3_ n4_ n5_ n6_
          (try clear hb)
          (try clear hb2)
          (try clear hk)
          (try clear hi)
          refine hK.out _ _ ⟨(blk_cell BK154.out 0).trans rfl,(blk_cell BK154.out 1).trans rfl,(blk_cell BK155.out 0).trans rfl,(blk_cell BK155.out 1).trans rfl,HS4_,HS5_⟩ (fun hHeld=>?_)
          clear hK K
          refine norm_ (a':=?_) ?_ ?_
          rotate_left
          ·show Act.put _ (some 45) _=_
           simp only [Act.put,List.setIfInBounds_toArray,List.set_cons_zero,List.set_cons_succ,i64_w,i32_w]
           rfl
          refine pure_ (i:=6) (N:=some 46) (v:=?_) (a':=?_) #[true,true,true,true,true,true,true,false,false,false,false,false,false,false,false] rfl rfl (any_of HT_.out (by kernel_rfl)) (fun _ _ _ h=>h) (Or.inl ⟨by rfl,?_⟩) ?_ ?_
          rotate_left
          ·intro w'
           go_simp
           with_reducible rfl
          rotate_left
          ·simp only [Act.put,List.setIfInBounds_toArray,List.set_cons_zero,List.set_cons_succ,i64_w,i32_w]
           rfl
          refine pure_ (i:=8) (N:=some 48) (v:=?_) (a':=?_) #[true,true,true,true,true,true,true,false,true,false,false,false,false,false,false] rfl rfl (any_of HT_.out (by kernel_rfl)) (fun _ _ _ h=>h) (Or.inl ⟨by rfl,?_⟩) ?_ ?_
          rotate_left
          ·intro w'
           go_simp
           with_reducible rfl
          rotate_left
          ·simp only [Act.put,List.setIfInBounds_toArray,List.set_cons_zero,List.set_cons_succ,i64_w,i32_w]
           rfl
          refine pure_ (i:=9) (N:=some 49) (v:=?_) (a':=?_) #[true,true,true,true,true,true,true,false,true,true,false,false,false,false,false] rfl rfl (any_of HT_.out (by kernel_rfl)) (fun _ _ _ h=>h) (Or.inl ⟨by rfl,?_⟩) ?_ ?_
          rotate_left
          ·intro w'
           go_simp
           with_reducible rfl
          rotate_left
          ·simp only [Act.put,List.setIfInBounds_toArray,List.set_cons_zero,List.set_cons_succ,i64_w,i32_w]
           rfl
          refine pure_ (i:=10) (N:=some 50) (v:=?_) (a':=?_) #[true,true,true,true,true,true,true,false,true,true,true,false,false,false,false] rfl rfl (any_of HT_.out (by kernel_rfl)) (fun _ _ _ h=>h) (Or.inl ⟨by rfl,?_⟩) ?_ ?_
          rotate_left
          ·intro w'
           go_simp
           with_reducible rfl
          rotate_left
          ·simp only [Act.put,List.setIfInBounds_toArray,List.set_cons_zero,List.set_cons_succ,i64_w,i32_w]
           rfl
          refine take_ (i:=7) (N:=some 47) (v:=?_) (a':=?_) #[true,true,true,true,true,true,true,true,true,true,true,false,false,false,false] rfl rfl (take_ofW HT_.out HW_.out (by kernel_rfl)) (fun _ _ _ h=>h) (Or.inl ⟨by rfl,?_⟩) hHeld ?_ ?_
          rotate_left
          ·rintro w' ⟨s0,s1,s2,s3,s4,s5⟩
           go_simp
           with_reducible rfl
          rotate_left
          ·simp only [Act.put,List.setIfInBounds_toArray,List.set_cons_zero,List.set_cons_succ,i64_w,i32_w]
           rfl
          refine take_ (i:=11) (N:=some 51) (v:=?_) (a':=?_) #[true,true,true,true,true,true,true,true,true,true,true,true,false,false,false] rfl rfl (take_ofW HT_.out HW_.out (by kernel_rfl)) (fun _ _ _ h=>h) (Or.inl ⟨by rfl,?_⟩) hHeld ?_ ?_
          rotate_left
          ·rintro w' ⟨s0,s1,s2,s3,s4,s5⟩
           go_simp
           with_reducible rfl
          rotate_left
          ·simp only [Act.put,List.setIfInBounds_toArray,List.set_cons_zero,List.set_cons_succ,i64_w,i32_w]
           rfl
          refine one_ (i:=12) (N:=some 52) #[true,true,true,true,true,true,true,true,true,true,true,true,true,false,false] rfl rfl (one_of HT_.out (by kernel_rfl)) (by decide) (fun K hK=>?_)
          refine goes_ Try.func42 (by kernel_rfl) rfl #[.agg #[.bool a1_0,.slice A1_1 l1_1.length c1_1],.string (rdOf ByteArray.empty y164 x9_1)] (by rfl) rfl rfl (by (try simp only [List.map_toArray,List.map_cons,List.map_nil]);first|done|rfl|(simp only [List.length_drop,List.length_take];rfl)) ?_
          with_reducible refine (cadenceref3_Has.calls k1 a1_0 _ _ l1_1 (rdOf ByteArray.empty y164 x9_1) t170 _ ?side1 ?side2 A32.out).mono ?_
          (case side1=>repeat (first|exact (Kd.C_below HR1_1.out HB.out)|(with_reducible refine cA_ ?_ _)|(with_reducible refine cN_ ?_ _)|(with_reducible refine cD_ ?_)))
          (case side2=>exact HC1_1.out)
          rintro e w35 ⟨rfl,hb⟩
          have HS4_:=(hb.cell (World.block_lt_of_cell? _ _ (hHeld.2.2.2.2.1))).trans (hHeld.2.2.2.2.1)
          have HS5_:=(hb.cell (World.block_lt_of_cell? _ _ (hHeld.2.2.2.2.2))).trans (hHeld.2.2.2.2.2)
          refine ⟨_,rfl,?_⟩
          have n0_:=Aside0.mk (Kd.R_below (by (with_reducible repeat (first|apply rA_|apply rN_|apply rD_));exact HO_8.out) hb)
          have n1_:=Aside0.mk (Kd.R_below (by (with_reducible repeat (first|apply rA_|apply rN_|apply rD_));exact HO_158001.out) hb)
          have n2_:=Aside0.mk (blk_below (g:=gb154) (o:=.cells #[.bool true,.slice A0_1 l0_1.length c0_1] 38 (0,0)) (by (with_reducible repeat (first|refine blk_drewN ?_ _|refine blk_drew ?_|refine blk_alloc ?_ _));exact BK154.out) hb)
          have n3_:=Aside0.mk (blk_below (g:=gb155) (o:=.cells #[.bool a1_0,.slice A1_1 l1_1.length c1_1] 38 (0,0)) (by (with_reducible repeat (first|refine blk_drewN ?_ _|refine blk_drew ?_|refine blk_alloc ?_ _));exact BK155.out) hb)
          have n4_:=Aside0.mk (blk_below (g:=gb156) (o:=.cells #[.bool false,.slice none 0 0] 38 (0,0)) (by (with_reducible repeat (first|refine blk_drewN ?_ _|refine blk_drew ?_|refine blk_alloc ?_ _));exact BK156.out) hb)
          have n5_:=Aside0.mk (blk_below (g:=gb157) (o:=.cells #[.bool a1_0,u158001] 38 (0,0)) (by (with_reducible repeat (first|refine blk_drewN ?_ _|refine blk_drew ?_|refine blk_alloc ?_ _));exact BK157.out) hb)
          have n6_:=Aside0.mk (below_step (by repeat (first|(with_reducible first|exact HB.out|apply bA_|apply bN_|apply bD_|refine below_set ?_ GE154.out|refine below_set ?_ GE155.out|refine below_set ?_ GE156.out|refine below_set ?_ GE157.out)|exact HB.out)) hb)
          clear HO_8
          clear HO_158001
          clear BK154
          clear BK155
          clear BK156
          clear BK157
          clear HB
          have HO_8:=n0_
          have HO_158001:=n1_
          have BK154:=n2_
          have BK155:=n3_
          have BK156:=n4_
          have BK157:=n5_
          have HB:=n6_
          clear n0_ n1_ n2_ n3_ n4_ n5_ n6_
          (try clear hb)
          (try clear hb2)
          (try clear hk)
          (try clear hi)
          refine hK.out _ _ ⟨(blk_cell BK154.out 0).trans rfl,(blk_cell BK154.out 1).trans rfl,(blk_cell BK155.out 0).trans rfl,(blk_cell BK155.out 1).trans rfl,HS4_,HS5_⟩ (fun hHeld=>?_)
          clear hK K
          refine norm_ (a':=?_) ?_ ?_
          rotate_left
          ·show Act.put _ (some 52) _=_
           simp only [Act.put,List.setIfInBounds_toArray,List.set_cons_zero,List.set_cons_succ,i64_w,i32_w]
           rfl
          refine pure_ (i:=13) (N:=some 53) (v:=?_) (a':=?_) #[true,true,true,true,true,true,true,true,true,true,true,true,true,true,false] rfl rfl (any_of HT_.out (by kernel_rfl)) (fun _ _ _ h=>h) (Or.inl ⟨by rfl,?_⟩) ?_ ?_
          rotate_left
          ·intro w'
           go_simp
           with_reducible rfl
          rotate_left
          ·simp only [Act.put,List.setIfInBounds_toArray,List.set_cons_zero,List.set_cons_succ,i64_w,i32_w]
           rfl
          refine pure_ (i:=14) (N:=some 10) (v:=?_) (a':=?_) #[true,true,true,true,true,true,true,true,true,true,true,true,true,true,true] rfl rfl (any_of HT_.out (by kernel_rfl)) (fun _ _ _ h=>h) (Or.inl ⟨by rfl,?_⟩) ?_ ?_
          rotate_left
          ·intro w'
           go_simp
           with_reducible rfl
          rotate_left
          ·simp only [Act.put,List.setIfInBounds_toArray,List.set_cons_zero,List.set_cons_succ,i64_w,i32_w]
           rfl
          refine done_ (done_of HT_.out (by kernel_rfl)) ?_
          try go_wp2
          go_meet
          case rel=>exact ⟨_,(t170),(by first|rfl|(simp;done)|(simp [*];done)),H',⟨by have:=HK1.out;first|omega|exact Nat.le_refl _⟩,⟨by (with_reducible repeat (first|apply rA_|apply rN_|apply rD_));exact HO_8.out⟩,⟨by (with_reducible repeat (first|apply rA_|apply rN_|apply rD_));exact HO_158001.out⟩,⟨by (with_reducible repeat (first|refine blk_drewN ?_ _|refine blk_drew ?_|refine blk_alloc ?_ _));exact BK154.out⟩,⟨by (with_reducible repeat (first|refine blk_drewN ?_ _|refine blk_drew ?_|refine blk_alloc ?_ _));exact BK155.out⟩,⟨by (with_reducible repeat (first|refine blk_drewN ?_ _|refine blk_drew ?_|refine blk_alloc ?_ _));exact BK156.out⟩,⟨by (with_reducible repeat (first|refine blk_drewN ?_ _|refine blk_drew ?_|refine blk_alloc ?_ _));exact BK157.out⟩,⟨by repeat (first|(with_reducible first|exact HB.out|apply bA_|apply bN_|apply bD_|refine below_set ?_ GE154.out|refine below_set ?_ GE155.out|refine below_set ?_ GE156.out|refine below_set ?_ GE157.out)|exact HB.out)⟩⟩
         ·replace c31:=Bool.eq_false_iff.mpr c31
          subst c31
          have H1:(cadenceref3_pick.j1 k1 y164 x9_1 false true l0_1 a1_0 l1_1 a1_0 x158001_1)=some (r1,r2):=by rw [if_neg (show ¬ (false=true) by decide)] at H;exact H
          clear H
          have H:=H1
          clear H1
          have H':=Aside0.mk H
          clear H
          try go_wp2
          have n0_:=Aside0.mk (rD_ HO_8.out)
          have n1_:=Aside0.mk (rD_ HO_158001.out)
          have n2_:=Aside0.mk (blk_drew BK154.out)
          have n3_:=Aside0.mk (blk_drew BK155.out)
          have n4_:=Aside0.mk (blk_drew BK156.out)
          have n5_:=Aside0.mk (blk_drew BK157.out)
          have n6_:=Aside0.mk (bD_ HB.out)
          clear HO_8
          clear HO_158001
          clear BK154
          clear BK155
          clear BK156
          clear BK157
          clear HB
          have HO_8:=n0_
          have HO_158001:=n1_
          have BK154:=n2_
          have BK155:=n3_
          have BK156:=n4_
          have BK157:=n5_
          have HB:=n6_
          clear n0_ n1_ n2_ n3_ n4_ n5_ n6_
          have p167:0≤(x9_1:Int):=of_decide_eq_true (by first|(with_reducible assumption)|assumption)
          have q167:x9_1 < (y164.length:Int):=of_decide_eq_true (by first|(with_reducible assumption)|assumption)
          obtain ⟨ad167,e167,hx167_0⟩:=Kd.at_string (Kd.R_reads' HO_8.out).2.2 x9_1 p167 q167
          cases e167
          replace p167:=eq_true p167
          replace q167:=eq_true q167
          refine start_ (n:=15) (S:=fun w'=>w'.cell? ⟨gb154,0,none⟩=some (.bool true)∧w'.cell? ⟨gb154,1,none⟩=some (.slice A0_1 l0_1.length c0_1)∧w'.cell? (ad167.add (x9_1).toNat)=some (.string (rdOf ByteArray.empty y164 x9_1))) (ds:=[]) #[false,false,false,false,false,false,false,false,false,false,false,false,false,false,false] (by kernel_rfl) rfl rfl ⟨(blk_cell BK154.out 0).trans rfl,(blk_cell BK154.out 1).trans rfl,hx167_0⟩ (fun hHeld=>?_);refine with_tabW cadenceref3_pick.tab8 cadenceref3_pick.bits8 (fun HT_ HW_=>?_)
          generalize wr.drew=w36 at HO_8 HO_158001 BK154 BK155 BK156 BK157 HB hx167_0 hHeld ⊢
          refine pure_ (i:=1) (N:=some 41) (v:=?_) (a':=?_) #[false,true,false,false,false,false,false,false,false,false,false,false,false,false,false] rfl rfl (any_of HT_.out (by kernel_rfl)) (fun _ _ _ h=>h) (Or.inl ⟨by rfl,?_⟩) ?_ ?_
          rotate_left
          ·intro w'
           go_simp
           with_reducible rfl
          rotate_left
          ·simp only [Act.put,List.setIfInBounds_toArray,List.set_cons_zero,List.set_cons_succ,i64_w,i32_w]
           rfl
          refine pure_ (i:=2) (N:=some 42) (v:=?_) (a':=?_) #[false,true,true,false,false,false,false,false,false,false,false,false,false,false,false] rfl rfl (any_of HT_.out (by kernel_rfl)) (fun _ _ _ h=>h) (Or.inl ⟨by rfl,?_⟩) ?_ ?_
          rotate_left
          ·intro w'
           go_simp
           with_reducible rfl
          rotate_left
          ·simp only [Act.put,List.setIfInBounds_toArray,List.set_cons_zero,List.set_cons_succ,i64_w,i32_w]
           rfl
          refine pure_ (i:=3) (N:=some 43) (v:=?_) (a':=?_) #[false,true,true,true,false,false,false,false,false,false,false,false,false,false,false] rfl rfl (any_of HT_.out (by kernel_rfl)) (fun _ _ _ h=>h) (Or.inl ⟨by rfl,?_⟩) ?_ ?_
          rotate_left
          ·intro w'
           go_simp
           with_reducible rfl
          rotate_left
          ·simp only [Act.put,List.setIfInBounds_toArray,List.set_cons_zero,List.set_cons_succ,i64_w,i32_w]
           rfl
          refine take_ (i:=0) (N:=some 40) (v:=?_) (a':=?_) #[true,true,true,true,false,false,false,false,false,false,false,false,false,false,false] rfl rfl (take_ofW HT_.out HW_.out (by kernel_rfl)) (fun _ _ _ h=>h) (Or.inl ⟨by rfl,?_⟩) hHeld ?_ ?_
          rotate_left
          ·rintro w' ⟨s0,s1,s2⟩
           go_simp
           with_reducible rfl
          rotate_left
          ·simp only [Act.put,List.setIfInBounds_toArray,List.set_cons_zero,List.set_cons_succ,i64_w,i32_w]
           rfl
          refine take_ (i:=4) (N:=some 44) (v:=?_) (a':=?_) #[true,true,true,true,true,false,false,false,false,false,false,false,false,false,false] rfl rfl (take_ofW HT_.out HW_.out (by kernel_rfl)) (fun _ _ _ h=>h) (Or.inl ⟨by rfl,?_⟩) hHeld ?_ ?_
          rotate_left
          ·rintro w' ⟨s0,s1,s2⟩
           go_simp
           with_reducible rfl
          rotate_left
          ·simp only [Act.put,List.setIfInBounds_toArray,List.set_cons_zero,List.set_cons_succ,i64_w,i32_w]
           rfl
          refine one_ (i:=5) (N:=some 45) #[true,true,true,true,true,true,false,false,false,false,false,false,false,false,false] rfl rfl (one_of HT_.out (by kernel_rfl)) (by decide) (fun K hK=>?_)
          refine goes_ Try.func42 (by kernel_rfl) rfl #[.agg #[.bool true,.slice A0_1 l0_1.length c0_1],.string (rdOf ByteArray.empty y164 x9_1)] (by rfl) rfl rfl (by (try simp only [List.map_toArray,List.map_cons,List.map_nil]);first|done|rfl|(simp only [List.length_drop,List.length_take];rfl)) ?_
          with_reducible refine (cadenceref3_Has.calls k1 true _ _ l0_1 (rdOf ByteArray.empty y164 x9_1) false _ ?side1 ?side2 A30.out).mono ?_
          (case side1=>repeat (first|exact (Kd.C_below HR0_1.out HB.out)|(with_reducible refine cA_ ?_ _)|(with_reducible refine cN_ ?_ _)|(with_reducible refine cD_ ?_)))
          (case side2=>exact HC0_1.out)
          rintro e w37 ⟨rfl,hb⟩
          have HS2_:=(hb.cell (World.block_lt_of_cell? _ _ (hHeld.2.2))).trans (hHeld.2.2)
          refine ⟨_,rfl,?_⟩
          have n0_:=Aside0.mk (Kd.R_below (by (with_reducible repeat (first|apply rA_|apply rN_|apply rD_));exact HO_8.out) hb)
          have n1_:=Aside0.mk (Kd.R_below (by (with_reducible repeat (first|apply rA_|apply rN_|apply rD_));exact HO_158001.out) hb)
          have n2_:=Aside0.mk (blk_below (g:=gb154) (o:=.cells #[.bool true,.slice A0_1 l0_1.length c0_1] 38 (0,0)) (by (with_reducible repeat (first|refine blk_drewN ?_ _|refine blk_drew ?_|refine blk_alloc ?_ _));exact BK154.out) hb)
          have n3_:=Aside0.mk (blk_below (g:=gb155) (o:=.cells #[.bool a1_0,.slice A1_1 l1_1.length c1_1] 38 (0,0)) (by (with_reducible repeat (first|refine blk_drewN ?_ _|refine blk_drew ?_|refine blk_alloc ?_ _));exact BK155.out) hb)
          have n4_:=Aside0.mk (blk_below (g:=gb156) (o:=.cells #[.bool false,.slice none 0 0] 38 (0,0)) (by (with_reducible repeat (first|refine blk_drewN ?_ _|refine blk_drew ?_|refine blk_alloc ?_ _));exact BK156.out) hb)
          have n5_:=Aside0.mk (blk_below (g:=gb157) (o:=.cells #[.bool a1_0,u158001] 38 (0,0)) (by (with_reducible repeat (first|refine blk_drewN ?_ _|refine blk_drew ?_|refine blk_alloc ?_ _));exact BK157.out) hb)
          have n6_:=Aside0.mk (below_step (by repeat (first|(with_reducible first|exact HB.out|apply bA_|apply bN_|apply bD_|refine below_set ?_ GE154.out|refine below_set ?_ GE155.out|refine below_set ?_ GE156.out|refine below_set ?_ GE157.out)|exact HB.out)) hb)
          clear HO_8
          clear HO_158001
          clear BK154
          clear BK155
          clear BK156
          clear BK157
          clear HB
          have HO_8:=n0_
          have HO_158001:=n1_
          have BK154:=n2_
          have BK155:=n3_
          have BK156:=n4_
          have BK157:=n5_
          have HB:=n6_
          clear n0_ n1_ n2_ n3_ n4_ n5_ n6_
          (try clear hb)
          (try clear hb2)
          (try clear hk)
          (try clear hi)
          refine hK.out _ _ ⟨(blk_cell BK154.out 0).trans rfl,(blk_cell BK154.out 1).trans rfl,HS2_⟩ (fun hHeld=>?_)
          clear hK K
          refine norm_ (a':=?_) ?_ ?_
          rotate_left
          ·show Act.put _ (some 45) _=_
           simp only [Act.put,List.setIfInBounds_toArray,List.set_cons_zero,List.set_cons_succ,i64_w,i32_w]
           rfl
          refine pure_ (i:=6) (N:=some 46) (v:=?_) (a':=?_) #[true,true,true,true,true,true,true,false,false,false,false,false,false,false,false] rfl rfl (any_of HT_.out (by kernel_rfl)) (fun _ _ _ h=>h) (Or.inl ⟨by rfl,?_⟩) ?_ ?_
          rotate_left
          ·intro w'
           go_simp
           with_reducible rfl
          rotate_left
          ·simp only [Act.put,List.setIfInBounds_toArray,List.set_cons_zero,List.set_cons_succ,i64_w,i32_w]
           rfl
          refine pure_ (i:=7) (N:=some 47) (v:=undef) (a':=?_) #[true,true,true,true,true,true,true,true,false,false,false,false,false,false,false] rfl rfl (any_of HT_.out (by kernel_rfl)) (fun _ _ _ h=>h) (Or.inr ⟨by rfl,rfl⟩) ?_ ?_
          rotate_left
          ·simp only [Act.put,List.setIfInBounds_toArray,List.set_cons_zero,List.set_cons_succ,i64_w,i32_w]
           rfl
          refine pure_ (i:=8) (N:=some 48) (v:=undef) (a':=?_) #[true,true,true,true,true,true,true,true,true,false,false,false,false,false,false] rfl rfl (any_of HT_.out (by kernel_rfl)) (fun _ _ _ h=>h) (Or.inr ⟨by rfl,rfl⟩) ?_ ?_
          rotate_left
          ·simp only [Act.put,List.setIfInBounds_toArray,List.set_cons_zero,List.set_cons_succ,i64_w,i32_w]
           rfl
          refine pure_ (i:=9) (N:=some 49) (v:=undef) (a':=?_) #[true,true,true,true,true,true,true,true,true,true,false,false,false,false,false] rfl rfl (any_of HT_.out (by kernel_rfl)) (fun _ _ _ h=>h) (Or.inr ⟨by rfl,rfl⟩) ?_ ?_
          rotate_left
          ·simp only [Act.put,List.setIfInBounds_toArray,List.set_cons_zero,List.set_cons_succ,i64_w,i32_w]
           rfl
          refine pure_ (i:=10) (N:=some 50) (v:=undef) (a':=?_) #[true,true,true,true,true,true,true,true,true,true,true,false,false,false,false] rfl rfl (any_of HT_.out (by kernel_rfl)) (fun _ _ _ h=>h) (Or.inr ⟨by rfl,rfl⟩) ?_ ?_
          rotate_left
          ·simp only [Act.put,List.setIfInBounds_toArray,List.set_cons_zero,List.set_cons_succ,i64_w,i32_w]
           rfl
          refine pure_ (i:=11) (N:=some 51) (v:=undef) (a':=?_) #[true,true,true,true,true,true,true,true,true,true,true,true,false,false,false] rfl rfl (any_of HT_.out (by kernel_rfl)) (fun _ _ _ h=>h) (Or.inr ⟨by rfl,rfl⟩) ?_ ?_
          rotate_left
          ·simp only [Act.put,List.setIfInBounds_toArray,List.set_cons_zero,List.set_cons_succ,i64_w,i32_w]
           rfl
          refine pure_ (i:=12) (N:=some 52) (v:=undef) (a':=?_) #[true,true,true,true,true,true,true,true,true,true,true,true,true,false,false] rfl rfl (any_of HT_.out (by kernel_rfl)) (fun _ _ _ h=>h) (Or.inr ⟨by rfl,rfl⟩) ?_ ?_
          rotate_left
          ·simp only [Act.put,List.setIfInBounds_toArray,List.set_cons_zero,List.set_cons_succ,i64_w,i32_w]
           rfl
          refine pure_ (i:=13) (N:=some 53) (v:=?_) (a':=?_) #[true,true,true,true,true,true,true,true,true,true,true,true,true,true,false] rfl rfl (any_of HT_.out (by kernel_rfl)) (fun _ _ _ h=>h) (Or.inl ⟨by rfl,?_⟩) ?_ ?_
          rotate_left
          ·intro w'
           go_simp
           with_reducible rfl
          rotate_left
          ·simp only [Act.put,List.setIfInBounds_toArray,List.set_cons_zero,List.set_cons_succ,i64_w,i32_w]
           rfl
          refine pure_ (i:=14) (N:=some 10) (v:=?_) (a':=?_) #[true,true,true,true,true,true,true,true,true,true,true,true,true,true,true] rfl rfl (any_of HT_.out (by kernel_rfl)) (fun _ _ _ h=>h) (Or.inl ⟨by rfl,?_⟩) ?_ ?_
          rotate_left
          ·intro w'
           go_simp
           with_reducible rfl
          rotate_left
          ·simp only [Act.put,List.setIfInBounds_toArray,List.set_cons_zero,List.set_cons_succ,i64_w,i32_w]
           rfl
          refine done_ (done_of HT_.out (by kernel_rfl)) ?_
          try go_wp2
          go_meet
          case rel=>exact ⟨_,(false),(by first|rfl|(simp;done)|(simp [*];done)),H',⟨by have:=HK1.out;first|omega|exact Nat.le_refl _⟩,⟨by (with_reducible repeat (first|apply rA_|apply rN_|apply rD_));exact HO_8.out⟩,⟨by (with_reducible repeat (first|apply rA_|apply rN_|apply rD_));exact HO_158001.out⟩,⟨by (with_reducible repeat (first|refine blk_drewN ?_ _|refine blk_drew ?_|refine blk_alloc ?_ _));exact BK154.out⟩,⟨by (with_reducible repeat (first|refine blk_drewN ?_ _|refine blk_drew ?_|refine blk_alloc ?_ _));exact BK155.out⟩,⟨by (with_reducible repeat (first|refine blk_drewN ?_ _|refine blk_drew ?_|refine blk_alloc ?_ _));exact BK156.out⟩,⟨by (with_reducible repeat (first|refine blk_drewN ?_ _|refine blk_drew ?_|refine blk_alloc ?_ _));exact BK157.out⟩,⟨by repeat (first|(with_reducible first|exact HB.out|apply bA_|apply bN_|apply bD_|refine below_set ?_ GE154.out|refine below_set ?_ GE155.out|refine below_set ?_ GE156.out|refine below_set ?_ GE157.out)|exact HB.out)⟩⟩
        ·rw [if_neg c29] at H
         exact absurd H (by simp)
       case rest =>
        clear HC27
        try clear c1
        try clear p1
        try clear q1
        try clear hx1
        try clear c2
        try clear p2
        try clear c3
        try clear c4
        try clear c5
        try clear c6
        try clear c10
        try clear c11
        try clear c13
        try clear c16
        try clear p16
        try clear q16
        try clear hx16
        try clear c17
        try clear c18
        try clear c26
        try clear c26b0
        try clear c29
        try clear c29b0
        try clear c31
        try clear hcz12_0
        try clear hcz12_1
        try clear hcz14_0
        try clear hcz14_1
        try clear hcz19_0
        try clear hcz19_1
        try clear hfz12_0
        try clear hfz12_1
        try clear hfz14_0
        try clear hfz14_1
        try clear hfz19_0
        try clear hfz19_1
        try clear hx167_0
        try clear hx169_0
        try clear p167
        try clear p169
        try clear p2
        try clear q167
        try clear q169
        obtain ⟨kq,x10_26,rfl,HA,HJ26,HO_8,HO_158001,BK154,BK155,BK156,BK157,HB⟩:=hcut
        cases kq with
        | zero=>exact absurd HA.out (by simp [cadenceref3_pick.j1])
        | succ kj26 =>
         have H:=HA.out
         clear HA
         simp only [cadenceref3_pick.j1] at H
         by_cases c38:(x10_26 != a1_0)=true
         ·rw [if_pos c38] at H
          have c38b0:(x10_26 != a1_0)=true:=c38
          (try (have c38b1:decide (x10_26=a1_0)=false:=by simpa using c38))
          (try (have c38b2:(x10_26 == a1_0)=false:=by simpa using c38))
          (try (have c38b3:¬ (x10_26=a1_0):=by simpa using c38))
          clear c38
          by_cases c39:0≤x9_1
          ·rw [if_pos c39] at H
           have c39b0:decide (0≤x9_1)=true:=decide_eq_true c39
           clear c39
           by_cases c40:x9_1 < (y164.length:Int)
           ·rw [if_pos c40] at H
            have c40b0:decide (x9_1 < (y164.length:Int))=true:=decide_eq_true c40
            clear c40
            replace H:=Option.bind_eq_some_iff.mp H
            obtain ⟨t172,A410,H⟩:=H
            replace H:(cadenceref3_pick.l0 kj26 y164 (wrap64 (x9_1+1)) true l0_1 a1_0 l1_1 a1_0 t172)=some (r1,r2):=H
            have A41:=Aside0.mk A410
            clear A410
            have H':=Aside0.mk H
            clear H
            have hnb42:=NB157_154.out
            have hnc42:=NB154_157.out
            have hnb43:=NB157_155.out
            have hnc43:=NB155_157.out
            have hnb44:=NB157_156.out
            have hnc44:=NB156_157.out
            have hcz45_0:wc.cell? ⟨gb157,0,none⟩=some (.bool a1_0):=(blk_cell BK157.out 0).trans rfl
            have hcz45_1:wc.cell? ⟨gb157,1,none⟩=some (u158001):=(blk_cell BK157.out 1).trans rfl
            have hfz45_0:=blk_frozen BK157.out 0
            have hfz45_1:=blk_frozen BK157.out 1
            try go_wp2
            have n0_:=Aside0.mk (rD_ HO_8.out)
            have n1_:=Aside0.mk (rD_ HO_158001.out)
            have n2_:=Aside0.mk (blk_drew BK154.out)
            have n3_:=Aside0.mk (blk_drew BK155.out)
            have n4_:=Aside0.mk (blk_drew BK156.out)
            have n5_:=Aside0.mk (blk_drew BK157.out)
            have n6_:=Aside0.mk (bD_ HB.out)
            clear HO_8
            clear HO_158001
            clear BK154
            clear BK155
            clear BK156
            clear BK157
            clear HB
            have HO_8:=n0_
            have HO_158001:=n1_
            have BK154:=n2_
            have BK155:=n3_
            have BK156:=n4_
            have BK157:=n5_
            have HB:=n6_
            clear n0_ n1_ n2_ n3_ n4_ n5_ n6_
            have p171:0≤(x9_1:Int):=of_decide_eq_true (by first|(with_reducible assumption)|assumption)
            have q171:x9_1 < (y164.length:Int):=of_decide_eq_true (by first|(with_reducible assumption)|assumption)
            obtain ⟨ad171,e171,hx171_0⟩:=Kd.at_string (Kd.R_reads' HO_8.out).2.2 x9_1 p171 q171
            cases e171
            replace p171:=eq_true p171
            replace q171:=eq_true q171
            obtain ⟨Ao47,co47,eo47⟩:=Kd.R_slice HO_158001.out
            (first|subst eo47|(injection eo47 with f1_ f2_ f3_;have f4_:=f1_.symm;have f5_:=f3_.symm;clear f1_ f2_ f3_;subst f4_;subst f5_))
            refine start_ (n:=9) (S:=fun w'=>w'.cell? ⟨gb157,0,none⟩=some (.bool a1_0)∧w'.cell? ⟨gb157,1,none⟩=some (.slice Ao47 x158001_1.length co47)∧w'.cell? (ad171.add (x9_1).toNat)=some (.string (rdOf ByteArray.empty y164 x9_1))) (ds:=[8]) #[false,false,false,false,false,false,false,false,false] (by kernel_rfl) rfl rfl ⟨(blk_cell BK157.out 0).trans rfl,(blk_cell BK157.out 1).trans rfl,hx171_0⟩ (fun hHeld=>?_);refine with_tabW cadenceref3_pick.tab12 cadenceref3_pick.bits12 (fun HT_ HW_=>?_)
            generalize wc.drew=w46 at HO_8 HO_158001 BK154 BK155 BK156 BK157 HB hx171_0 hHeld ⊢
            refine pure_ (i:=0) (N:=some 74) (v:=?_) (a':=?_) #[true,false,false,false,false,false,false,false,false] rfl rfl (any_of HT_.out (by kernel_rfl)) (fun _ _ _ h=>h) (Or.inl ⟨by rfl,?_⟩) ?_ ?_
            rotate_left
            ·intro w'
             go_simp
             with_reducible rfl
            rotate_left
            ·simp only [Act.put,List.setIfInBounds_toArray,List.set_cons_zero,List.set_cons_succ,i64_w,i32_w]
             rfl
            refine pure_ (i:=2) (N:=some 76) (v:=?_) (a':=?_) #[true,false,true,false,false,false,false,false,false] rfl rfl (any_of HT_.out (by kernel_rfl)) (fun _ _ _ h=>h) (Or.inl ⟨by rfl,?_⟩) ?_ ?_
            rotate_left
            ·intro w'
             go_simp
             with_reducible rfl
            rotate_left
            ·simp only [Act.put,List.setIfInBounds_toArray,List.set_cons_zero,List.set_cons_succ,i64_w,i32_w]
             rfl
            refine pure_ (i:=3) (N:=some 77) (v:=?_) (a':=?_) #[true,false,true,true,false,false,false,false,false] rfl rfl (any_of HT_.out (by kernel_rfl)) (fun _ _ _ h=>h) (Or.inl ⟨by rfl,?_⟩) ?_ ?_
            rotate_left
            ·intro w'
             go_simp
             with_reducible rfl
            rotate_left
            ·simp only [Act.put,List.setIfInBounds_toArray,List.set_cons_zero,List.set_cons_succ,i64_w,i32_w]
             rfl
            refine pure_ (i:=4) (N:=some 78) (v:=?_) (a':=?_) #[true,false,true,true,true,false,false,false,false] rfl rfl (any_of HT_.out (by kernel_rfl)) (fun _ _ _ h=>h) (Or.inl ⟨by rfl,?_⟩) ?_ ?_
            rotate_left
            ·intro w'
             go_simp
             with_reducible rfl
            rotate_left
            ·simp only [Act.put,List.setIfInBounds_toArray,List.set_cons_zero,List.set_cons_succ,i64_w,i32_w]
             rfl
            refine take_ (i:=1) (N:=some 75) (v:=?_) (a':=?_) #[true,true,true,true,true,false,false,false,false] rfl rfl (take_ofW HT_.out HW_.out (by kernel_rfl)) (fun _ _ _ h=>h) (Or.inl ⟨by rfl,?_⟩) hHeld ?_ ?_
            rotate_left
            ·rintro w' ⟨s0,s1,s2⟩
             go_simp
             with_reducible rfl
            rotate_left
            ·simp only [Act.put,List.setIfInBounds_toArray,List.set_cons_zero,List.set_cons_succ,i64_w,i32_w]
             rfl
            refine take_ (i:=5) (N:=some 79) (v:=?_) (a':=?_) #[true,true,true,true,true,true,false,false,false] rfl rfl (take_ofW HT_.out HW_.out (by kernel_rfl)) (fun _ _ _ h=>h) (Or.inl ⟨by rfl,?_⟩) hHeld ?_ ?_
            rotate_left
            ·rintro w' ⟨s0,s1,s2⟩
             go_simp
             with_reducible rfl
            rotate_left
            ·simp only [Act.put,List.setIfInBounds_toArray,List.set_cons_zero,List.set_cons_succ,i64_w,i32_w]
             rfl
            refine one_ (i:=6) (N:=some 80) #[true,true,true,true,true,true,true,false,false] rfl rfl (one_of HT_.out (by kernel_rfl)) (by decide) (fun K hK=>?_)
            refine goes_ Try.func45 (by kernel_rfl) rfl #[.slice Ao47 x158001_1.length co47,.string (rdOf ByteArray.empty y164 x9_1)] (by rfl) rfl rfl (by (try simp only [List.map_toArray,List.map_cons,List.map_nil]);first|done|rfl|(simp only [List.length_drop,List.length_take];rfl)) ?_
            with_reducible refine (cadenceref3_put.calls kj26 (fun k_=>some k_=(.slice Ao47 x158001_1.length co47:Value).ownBlock) (.slice Ao47 x158001_1.length co47) x158001_1 (rdOf ByteArray.empty y164 x9_1) t172 w _ ?side1 ?side2 A41.out).mono ?_
            (case side1=>repeat (first|(with_reducible first|exact HB.out|apply bA_|apply bN_|apply bD_|refine below_set ?_ GE154.out|refine below_set ?_ GE155.out|refine below_set ?_ GE156.out|refine below_set ?_ GE157.out)|exact HB.out))
            (case side2=>exact Kd.R_tight rfl HO_158001.out)
            rintro e w48 ⟨v173,rfl,ho0,hb,hkp⟩
            have HS2_:=cell_kept (hHeld.2.2) hkp (by first|(rw [add_block];exact (fun hs_=>(((HO_8.out).1 _ rfl)) hs_))|(show ¬ _;simp only [add_block];exact (fun hs_=>(((HO_8.out).1 _ rfl)) hs_))|exact (fun hs_=>(((HO_8.out).1 _ rfl)) hs_))
            refine ⟨_,rfl,?_⟩
            have n0_:=Aside0.mk (Kd.R_mono (ok':=fun k_=>some k_≠(v173:Value).ownBlock) (Kd.R_keptB (HO_8.out) hkp (fun k_ hk_ hs_=>(hk_) hs_)) (fun k_ hk_=>fun e_=>Or.elim (ho0.1 k_ e_.symm) (fun hs_=>hk_.2.1 hs_) (fun hn_=>Nat.not_le.2 hk_.2.2 hn_)))
            have n1_:=Aside0.mk (blk_kept (by (with_reducible repeat (first|refine blk_drewN ?_ _|refine blk_drew ?_|refine blk_alloc ?_ _));exact BK154.out) hkp (fun hs_=>(fun e_=>(Kd.R_ne HO_158001.out BK154.out (by decide)) e_) hs_))
            have n2_:=Aside0.mk (blk_kept (by (with_reducible repeat (first|refine blk_drewN ?_ _|refine blk_drew ?_|refine blk_alloc ?_ _));exact BK155.out) hkp (fun hs_=>(fun e_=>(Kd.R_ne HO_158001.out BK155.out (by decide)) e_) hs_))
            have n3_:=Aside0.mk (blk_kept (by (with_reducible repeat (first|refine blk_drewN ?_ _|refine blk_drew ?_|refine blk_alloc ?_ _));exact BK156.out) hkp (fun hs_=>(fun e_=>(Kd.R_ne HO_158001.out BK156.out (by decide)) e_) hs_))
            have n4_:=Aside0.mk (blk_kept (by (with_reducible repeat (first|refine blk_drewN ?_ _|refine blk_drew ?_|refine blk_alloc ?_ _));exact BK157.out) hkp (fun hs_=>(fun e_=>(Kd.R_ne HO_158001.out BK157.out (by decide)) e_) hs_))
            have n5_:=Aside0.mk (Kd.R_mono (ok':=fun k_=>some k_≠(.slice (some ad171) y164.length co28:Value).ownBlock) ho0 (fun k_ hk_=>Or.elim hk_ (fun hs_=>fun e_=>(((HO_8.out).1 k_ e_.symm)) hs_) (fun hn_=>(Kd.fresh' (Kd.R_lt (by (with_reducible repeat (first|apply rA_|apply rN_|apply rD_));exact HO_8.out)) k_ hn_))))
            have n6_:=Aside0.mk (hb)
            clear HO_8
            clear BK154
            clear BK155
            clear BK156
            clear BK157
            clear HB
            clear HO_158001
            have HO_8:=n0_
            have BK154:=n1_
            have BK155:=n2_
            have BK156:=n3_
            have BK157:=n4_
            have HO174:=n5_
            have HB:=n6_
            clear n0_ n1_ n2_ n3_ n4_ n5_ n6_
            (try clear hb)
            (try clear hkp)
            (try clear ho0)
            obtain ⟨Ao49,co49,eo49⟩:=Kd.R_slice HO174.out
            (first|subst eo49|(injection eo49 with f1_ f2_ f3_;have f4_:=f1_.symm;have f5_:=f3_.symm;clear f1_ f2_ f3_;subst f4_;subst f5_))
            refine hK.out _ _ ⟨(blk_cell BK157.out 0).trans rfl,(blk_cell BK157.out 1).trans rfl,HS2_⟩ (fun hHeld=>?_)
            clear hK K
            refine norm_ (a':=?_) ?_ ?_
            rotate_left
            ·show Act.put _ (some 80) _=_
             simp only [Act.put,List.setIfInBounds_toArray,List.set_cons_zero,List.set_cons_succ,i64_w,i32_w]
             rfl
            refine pure_ (i:=7) (N:=some 81) (v:=?_) (a':=?_) #[true,true,true,true,true,true,true,true,false] rfl rfl (any_of HT_.out (by kernel_rfl)) (fun _ _ _ h=>h) (Or.inl ⟨by rfl,?_⟩) ?_ ?_
            rotate_left
            ·intro w'
             go_simp
             with_reducible rfl
            rotate_left
            ·simp only [Act.put,List.setIfInBounds_toArray,List.set_cons_zero,List.set_cons_succ,i64_w,i32_w]
             rfl
            refine last_ (i:=8) (N:=none) #[true,true,true,true,true,true,true,true,true] rfl rfl (one_of HT_.out (by kernel_rfl)) (by decide) (fun K hK=>?_)
            have hs50:w48.cell? ⟨gb157,1,none⟩=some (.slice Ao47 x158001_1.length co47):=(blk_cell BK157.out 1).trans rfl
            have hfs50:=blk_frozen BK157.out 1
            have hns50_0:=NB154_157.out
            have hns50_1:=NB155_157.out
            have hns50_2:=NB156_157.out
            have hms50_0:=NB157_154.out
            have hms50_1:=NB157_155.out
            have hms50_2:=NB157_156.out
            refine skip_ (w1:=?_) (by rfl) rfl ?_ ?_
            rotate_left
            ·go_simp
             rfl
            refine hK.out _ _ ?_
            clear hK K
            refine done_ (done_of HT_.out (by kernel_rfl)) ?_
            try go_wp2
            go_roundg kj26
            case measure=>have:=HK1.out;have:=HJ26.out;omega
            case rel=>exact ⟨(wrap64 (x9_1+1)),(t172),(.slice Ao49 t172.length co49),(by first|rfl|(simp;done)|(simp [*];done)),H',⟨by have:=HK1.out;have:=HJ26.out;omega⟩,⟨by (with_reducible repeat (first|apply rA_|apply rN_|apply rD_));exact Kd.R_mono (Kd.R_far (p:=⟨gb157,1,none⟩) (Kd.R_types HO_8.out BK157.out (by decide)) (fun _ hk=>hk.2) (.slice Ao49 t172.length co49)) (fun _ hk=>hk.1)⟩,⟨by (with_reducible repeat (first|apply rA_|apply rN_|apply rD_));exact Kd.R_mono (Kd.R_far (p:=⟨gb157,1,none⟩) (Kd.R_types HO174.out BK157.out (by decide)) (fun _ hk=>hk.2) (.slice Ao49 t172.length co49)) (fun _ hk=>hk.1)⟩,⟨by (with_reducible repeat (first|refine blk_drewN ?_ _|refine blk_drew ?_|refine blk_alloc ?_ _));refine blk_far ?_ NB154_157.out _;(with_reducible repeat (first|refine blk_drewN ?_ _|refine blk_drew ?_|refine blk_alloc ?_ _));exact BK154.out⟩,⟨by (with_reducible repeat (first|refine blk_drewN ?_ _|refine blk_drew ?_|refine blk_alloc ?_ _));refine blk_far ?_ NB155_157.out _;(with_reducible repeat (first|refine blk_drewN ?_ _|refine blk_drew ?_|refine blk_alloc ?_ _));exact BK155.out⟩,⟨by (with_reducible repeat (first|refine blk_drewN ?_ _|refine blk_drew ?_|refine blk_alloc ?_ _));refine blk_far ?_ NB156_157.out _;(with_reducible repeat (first|refine blk_drewN ?_ _|refine blk_drew ?_|refine blk_alloc ?_ _));exact BK156.out⟩,⟨by (with_reducible repeat (first|refine blk_drewN ?_ _|refine blk_drew ?_|refine blk_alloc ?_ _));refine blk_put (cs:=#[.bool a1_0,.slice Ao47 x158001_1.length co47]) ?_ 1 _ rfl;(with_reducible repeat (first|refine blk_drewN ?_ _|refine blk_drew ?_|refine blk_alloc ?_ _));exact BK157.out⟩,⟨by repeat (first|(with_reducible first|exact HB.out|apply bA_|apply bN_|apply bD_|refine below_set ?_ GE154.out|refine below_set ?_ GE155.out|refine below_set ?_ GE156.out|refine below_set ?_ GE157.out)|exact HB.out)⟩⟩
           ·rw [if_neg c40] at H
            exact absurd H (by simp)
          ·rw [if_neg c39] at H
           exact absurd H (by simp)
         ·rw [if_neg c38] at H
          have c38b0:(x10_26 != a1_0)=false:=by simpa using c38
          (try (have c38b1:decide (x10_26=a1_0)=true:=by simpa using c38))
          (try (have c38b2:(x10_26 == a1_0)=true:=by simpa using c38))
          clear c38
          have H':=Aside0.mk H
          clear H
          have hnb51:=NB157_154.out
          have hnc51:=NB154_157.out
          have hnb52:=NB157_155.out
          have hnc52:=NB155_157.out
          have hnb53:=NB157_156.out
          have hnc53:=NB156_157.out
          have hcz54_0:wc.cell? ⟨gb157,0,none⟩=some (.bool a1_0):=(blk_cell BK157.out 0).trans rfl
          have hcz54_1:wc.cell? ⟨gb157,1,none⟩=some (u158001):=(blk_cell BK157.out 1).trans rfl
          have hfz54_0:=blk_frozen BK157.out 0
          have hfz54_1:=blk_frozen BK157.out 1
          go_wp2
          go_roundg kj26
          case measure=>have:=HK1.out;have:=HJ26.out;omega
          case rel=>exact ⟨(wrap64 (x9_1+1)),(x158001_1),(u158001),(by first|rfl|(simp;done)|(simp [*];done)),H',⟨by have:=HK1.out;have:=HJ26.out;omega⟩,⟨by (with_reducible repeat (first|apply rA_|apply rN_|apply rD_));exact HO_8.out⟩,⟨by (with_reducible repeat (first|apply rA_|apply rN_|apply rD_));exact HO_158001.out⟩,⟨by (with_reducible repeat (first|refine blk_drewN ?_ _|refine blk_drew ?_|refine blk_alloc ?_ _));exact BK154.out⟩,⟨by (with_reducible repeat (first|refine blk_drewN ?_ _|refine blk_drew ?_|refine blk_alloc ?_ _));exact BK155.out⟩,⟨by (with_reducible repeat (first|refine blk_drewN ?_ _|refine blk_drew ?_|refine blk_alloc ?_ _));exact BK156.out⟩,⟨by (with_reducible repeat (first|refine blk_drewN ?_ _|refine blk_drew ?_|refine blk_alloc ?_ _));exact BK157.out⟩,⟨by repeat (first|(with_reducible first|exact HB.out|apply bA_|apply bN_|apply bD_|refine below_set ?_ GE154.out|refine below_set ?_ GE155.out|refine below_set ?_ GE156.out|refine below_set ?_ GE157.out)|exact HB.out)⟩⟩
      ·rw [if_neg c26] at H
       have c26b0:decide (x9_1 < (y164.length:Int))=false:=decide_eq_false c26
       clear c26
       simp only [Option.some.injEq,Prod.mk.injEq] at H
       obtain ⟨rfl,rfl⟩:=H
       obtain ⟨Ao55,co55,eo55⟩:=Kd.R_slice HO_8.out
       subst eo55
       have hnb56:=NB157_154.out
       have hnc56:=NB154_157.out
       have hnb57:=NB157_155.out
       have hnc57:=NB155_157.out
       have hnb58:=NB157_156.out
       have hnc58:=NB156_157.out
       have hcz59_0:wr.cell? ⟨gb157,0,none⟩=some (.bool a1_0):=(blk_cell BK157.out 0).trans rfl
       have hcz59_1:wr.cell? ⟨gb157,1,none⟩=some (u158001):=(blk_cell BK157.out 1).trans rfl
       have hfz59_0:=blk_frozen BK157.out 0
       have hfz59_1:=blk_frozen BK157.out 1
       have hnb60:=NB156_154.out
       have hnc60:=NB154_156.out
       have hnb61:=NB156_155.out
       have hnc61:=NB155_156.out
       have hcz62_0:wr.cell? ⟨gb156,0,none⟩=some (.bool false):=(blk_cell BK156.out 0).trans rfl
       have hcz62_1:wr.cell? ⟨gb156,1,none⟩=some (.slice none 0 0):=(blk_cell BK156.out 1).trans rfl
       have hfz62_0:=blk_frozen BK156.out 0
       have hfz62_1:=blk_frozen BK156.out 1
       obtain ⟨Ao63,co63,eo63⟩:=Kd.R_slice HO_158001.out
       subst eo63
       go_wp2
       refine bodyPost_ret (results_cell_row rfl _ _ gb156 38 #[.bool a1_0,.slice Ao63 x158001_1.length co63] (0,0) _ rfl (by (with_reducible repeat (first|refine blk_drewN ?_ _|refine blk_drew ?_|refine blk_alloc ?_ _));refine blk_put (cs:=#[.bool a1_0,.slice none 0 0]) ?_ 1 _ rfl;(with_reducible repeat (first|refine blk_drewN ?_ _|refine blk_drew ?_|refine blk_alloc ?_ _));refine blk_put (cs:=#[.bool false,.slice none 0 0]) ?_ 0 _ rfl;(with_reducible repeat (first|refine blk_drewN ?_ _|refine blk_drew ?_|refine blk_alloc ?_ _));exact BK156.out) Try.underlying38 rfl (by kernel_rfl)) rfl ?_
       exact ⟨_,by first|rfl|(simp [errW_none,errW_some] <;> rfl)|(simp [*,errW_none,errW_some] <;> rfl),by (with_reducible repeat (first|apply rA_|apply rN_|apply rD_));exact Kd.R_mono (Kd.R_far (p:=⟨gb156,1,none⟩) (Kd.R_far (p:=⟨gb156,0,none⟩) (Kd.R_types HO_158001.out BK156.out (by decide)) (fun _ hk=>hk.2) (.bool a1_0)) (fun _ hk=>hk.2) (.slice Ao63 x158001_1.length co63)) (fun _ hk=>trivial),by repeat (first|(with_reducible first|exact HB.out|apply bA_|apply bN_|apply bD_|refine below_set ?_ GE154.out|refine below_set ?_ GE155.out|refine below_set ?_ GE156.out|refine below_set ?_ GE157.out)|exact HB.out)⟩
   ·rw [if_neg c6] at H
    exact absurd H (by simp)
  ·rw [if_neg c5] at H
   exact absurd H (by simp)
 ·replace c4:=Bool.eq_false_iff.mpr c4
  subst c4
  have H1:((some (([]:List ByteArray):List ByteArray)).bind fun y176=>(if y176.length+l0_1.length < 8796093022208 then ((some (y176 ++ l0_1:List ByteArray)).bind fun y179=>(if y179.length+l1_1.length < 8796093022208 then (cadenceref3_pick.l0 k (y179 ++ l1_1) 0 false l0_1 a1_0 l1_1 false ([]:List ByteArray)) else (none))) else (none)))=some (r1,r2):=by rw [if_neg (show ¬ (false=true) by decide)] at H;exact H
  clear H
  have H:=H1
  clear H1
  obtain ⟨y176,hy176⟩:∃ y_:List ByteArray,y_=(([]:List ByteArray)):=⟨_,rfl⟩
  replace H:(if y176.length+l0_1.length < 8796093022208 then ((some (y176 ++ l0_1:List ByteArray)).bind fun y179=>(if y179.length+l1_1.length < 8796093022208 then (cadenceref3_pick.l0 k (y179 ++ l1_1) 0 false l0_1 a1_0 l1_1 false ([]:List ByteArray)) else (none))) else (none))=some (r1,r2):=by first|(rw [hy176];with_reducible exact H)|(have H2_:=(Option.bind_some _ _).symm.trans H;rw [hy176];with_reducible exact H2_)|(have H2_:=(Option.bind_some _ _).symm.trans H;with_reducible exact H2_)|with_reducible exact H|(rw [hy176];exact H)|exact H
  have Ny176:=Aside0.mk hy176
  clear hy176
  by_cases c64:y176.length+l0_1.length < 8796093022208
  ·rw [if_pos c64] at H
   have LMc64:=Aside0.mk c64
   clear c64
   obtain ⟨y179,hy179⟩:∃ y_:List ByteArray,y_=(y176 ++ l0_1):=⟨_,rfl⟩
   replace H:(if y179.length+l1_1.length < 8796093022208 then (cadenceref3_pick.l0 k (y179 ++ l1_1) 0 false l0_1 a1_0 l1_1 false ([]:List ByteArray)) else (none))=some (r1,r2):=by first|(rw [hy179];with_reducible exact H)|(have H2_:=(Option.bind_some _ _).symm.trans H;rw [hy179];with_reducible exact H2_)|(have H2_:=(Option.bind_some _ _).symm.trans H;with_reducible exact H2_)|with_reducible exact H|(rw [hy179];exact H)|exact H
   have Ny179:=Aside0.mk hy179
   clear hy179
   by_cases c65:y179.length+l1_1.length < 8796093022208
   ·rw [if_pos c65] at H
    have LMc65:=Aside0.mk c65
    clear c65
    obtain ⟨y182,hy182⟩:∃ y_:List ByteArray,y_=(y179 ++ l1_1):=⟨_,rfl⟩
    replace H:(cadenceref3_pick.l0 k y182 0 false l0_1 a1_0 l1_1 false ([]:List ByteArray))=some (r1,r2):=by first|(rw [hy182];with_reducible exact H)|(have H2_:=(Option.bind_some _ _).symm.trans H;rw [hy182];with_reducible exact H2_)|(have H2_:=(Option.bind_some _ _).symm.trans H;with_reducible exact H2_)|with_reducible exact H|(rw [hy182];exact H)|exact H
    have Ny182:=Aside0.mk hy182
    clear hy182
    have H':=Aside0.mk H
    clear H
    go_enter Try.func43,Try.ntmps43
    try go_wp2_with (first|((with_reducible refine gate_dst (N:=3) rfl ?_);refine box_event ?hg (N:=3) ?hd (cs:=#[.bool false,.slice A0_1 l0_1.length c0_1]) (t:=38) ?hr ?_;(case hd=>rfl);(case hg=>rfl);(case hr=>first|(go_simp;done)|(go_simp;rfl));intro gb154 hg w66 hbox hb;have n0_:=Aside0.mk (below_step (by repeat (first|(with_reducible first|exact HB.out|apply bA_|apply bN_|apply bD_)|exact HB.out)) hb);have n1_:=Aside0.mk (hbox);have n2_:=Aside0.mk ((by rw [hg];exact (below_size (by repeat (first|(with_reducible first|exact HB.out|apply bA_|apply bN_|apply bD_)|exact HB.out))):w.heap.size≤gb154));have n3_:=Aside0.mk ((by rw [hg];exact (below_size (by repeat (first|(with_reducible first|exact HB.out|apply bA_|apply bN_|apply bD_)|exact HB.out))):w.heap.size≤gb154));clear HB;have HB:=n0_;have BK154:=n1_;have GW154:=n2_;have GE154:=n3_;clear n0_ n1_ n2_ n3_;clear hb hbox hg)|((with_reducible refine gate_dst (N:=4) rfl ?_);refine box_event ?hg (N:=4) ?hd (cs:=#[.bool a1_0,.slice A1_1 l1_1.length c1_1]) (t:=38) ?hr ?_;(case hd=>rfl);(case hg=>rfl);(case hr=>first|(go_simp;done)|(go_simp;rfl));intro gb155 hg w67 hbox hb;have n0_:=Aside0.mk (blk_below (g:=gb154) (o:=.cells #[.bool false,.slice A0_1 l0_1.length c0_1] 38 (0,0)) (by (with_reducible repeat (first|refine blk_drewN ?_ _|refine blk_drew ?_|refine blk_alloc ?_ _));exact BK154.out) hb);have n1_:=Aside0.mk (below_step (by repeat (first|(with_reducible first|exact HB.out|apply bA_|apply bN_|apply bD_|refine below_set ?_ GE154.out)|exact HB.out)) hb);have n2_:=Aside0.mk (hbox);have n3_:=Aside0.mk ((by rw [hg];exact (below_size (by repeat (first|(with_reducible first|exact HB.out|apply bA_|apply bN_|apply bD_|refine below_set ?_ GE154.out)|exact HB.out))):w.heap.size≤gb155));have n4_:=Aside0.mk ((by rw [hg];exact (below_size (by repeat (first|(with_reducible first|exact HB.out|apply bA_|apply bN_|apply bD_|refine below_set ?_ GE154.out)|exact HB.out))):w.heap.size≤gb155));have n5_:=Aside0.mk ((by rw [hg];exact Nat.ne_of_lt (blk_lt (g:=gb154) (o:=.cells #[.bool false,.slice A0_1 l0_1.length c0_1] 38 (0,0)) (by (with_reducible repeat (first|refine blk_drewN ?_ _|refine blk_drew ?_|refine blk_alloc ?_ _));exact BK154.out)):gb154≠gb155));have n6_:=Aside0.mk ((by rw [hg];exact Nat.ne_of_gt (blk_lt (g:=gb154) (o:=.cells #[.bool false,.slice A0_1 l0_1.length c0_1] 38 (0,0)) (by (with_reducible repeat (first|refine blk_drewN ?_ _|refine blk_drew ?_|refine blk_alloc ?_ _));exact BK154.out)):gb155≠gb154));clear BK154;clear HB;have BK154:=n0_;have HB:=n1_;have BK155:=n2_;have GW155:=n3_;have GE155:=n4_;have NB154_155:=n5_;have NB155_154:=n6_;clear n0_ n1_ n2_ n3_ n4_ n5_ n6_;clear hb hbox hg)|((with_reducible refine gate_dst (N:=6) rfl ?_);refine box_event ?hg (N:=6) ?hd (cs:=#[.bool false,.slice none 0 0]) (t:=38) ?hr ?_;(case hd=>rfl);(case hg=>rfl);(case hr=>first|(go_simp;done)|(go_simp;rfl));intro gb156 hg w68 hbox hb;have n0_:=Aside0.mk (blk_below (g:=gb154) (o:=.cells #[.bool false,.slice A0_1 l0_1.length c0_1] 38 (0,0)) (by (with_reducible repeat (first|refine blk_drewN ?_ _|refine blk_drew ?_|refine blk_alloc ?_ _));exact BK154.out) hb);have n1_:=Aside0.mk (blk_below (g:=gb155) (o:=.cells #[.bool a1_0,.slice A1_1 l1_1.length c1_1] 38 (0,0)) (by (with_reducible repeat (first|refine blk_drewN ?_ _|refine blk_drew ?_|refine blk_alloc ?_ _));exact BK155.out) hb);have n2_:=Aside0.mk (below_step (by repeat (first|(with_reducible first|exact HB.out|apply bA_|apply bN_|apply bD_|refine below_set ?_ GE154.out|refine below_set ?_ GE155.out)|exact HB.out)) hb);have n3_:=Aside0.mk (hbox);have n4_:=Aside0.mk ((by rw [hg];exact (below_size (by repeat (first|(with_reducible first|exact HB.out|apply bA_|apply bN_|apply bD_|refine below_set ?_ GE154.out|refine below_set ?_ GE155.out)|exact HB.out))):w.heap.size≤gb156));have n5_:=Aside0.mk ((by rw [hg];exact (below_size (by repeat (first|(with_reducible first|exact HB.out|apply bA_|apply bN_|apply bD_|refine below_set ?_ GE154.out|refine below_set ?_ GE155.out)|exact HB.out))):w.heap.size≤gb156));have n6_:=Aside0.mk ((by rw [hg];exact Nat.ne_of_lt (blk_lt (g:=gb154) (o:=.cells #[.bool false,.slice A0_1 l0_1.length c0_1] 38 (0,0)) (by (with_reducible repeat (first|refine blk_drewN ?_ _|refine blk_drew ?_|refine blk_alloc ?_ _));exact BK154.out)):gb154≠gb156));have n7_:=Aside0.mk ((by rw [hg];exact Nat.ne_of_gt (blk_lt (g:=gb154) (o:=.cells #[.bool false,.slice A0_1 l0_1.length c0_1] 38 (0,0)) (by (with_reducible repeat (first|refine blk_drewN ?_ _|refine blk_drew ?_|refine blk_alloc ?_ _));exact BK154.out)):gb156≠gb154));have n8_:=Aside0.mk ((by rw [hg];exact Nat.ne_of_lt (blk_lt (g:=gb155) (o:=.cells #[.bool a1_0,.slice A1_1 l1_1.length c1_1] 38 (0,0)) (by (with_reducible repeat (first|refine blk_drewN ?_ _|refine blk_drew ?_|refine blk_alloc ?_ _));exact BK155.out)):gb155≠gb156));have n9_:=Aside0.mk ((by rw [hg];exact Nat.ne_of_gt (blk_lt (g:=gb155) (o:=.cells #[.bool a1_0,.slice A1_1 l1_1.length c1_1] 38 (0,0)) (by (with_reducible repeat (first|refine blk_drewN ?_ _|refine blk_drew ?_|refine blk_alloc ?_ _));exact BK155.out)):gb156≠gb155));clear BK154;clear BK155;clear HB;have BK154:=n0_;have BK155:=n1_;have HB:=n2_;have BK156:=n3_;have GW156:=n4_;have GE156:=n5_;have NB154_156:=n6_;have NB156_154:=n7_;have NB155_156:=n8_;have NB156_155:=n9_;clear n0_ n1_ n2_ n3_ n4_ n5_ n6_ n7_ n8_ n9_;clear hb hbox hg;have hnb69:=NB154_155.out;have hnc69:=NB155_154.out;have hnb70:=NB154_156.out;have hnc70:=NB156_154.out;have hcz71_0:w68.cell? ⟨gb154,0,none⟩=some (.bool false):=(blk_cell BK154.out 0).trans rfl;have hcz71_1:w68.cell? ⟨gb154,1,none⟩=some (.slice A0_1 l0_1.length c0_1):=(blk_cell BK154.out 1).trans rfl;have hfz71_0:=blk_frozen BK154.out 0;have hfz71_1:=blk_frozen BK154.out 1)|((with_reducible refine gate_dst (N:=7) rfl ?_);refine box_event ?hg (N:=7) ?hd (cs:=#[.bool false,.slice none 0 0]) (t:=38) ?hr ?_;(case hd=>rfl);(case hg=>rfl);(case hr=>first|(go_simp;done)|(go_simp;rfl));intro gb157 hg w72 hbox hb;have n0_:=Aside0.mk (blk_below (g:=gb154) (o:=.cells #[.bool false,.slice A0_1 l0_1.length c0_1] 38 (0,0)) (by (with_reducible repeat (first|refine blk_drewN ?_ _|refine blk_drew ?_|refine blk_alloc ?_ _));exact BK154.out) hb);have n1_:=Aside0.mk (blk_below (g:=gb155) (o:=.cells #[.bool a1_0,.slice A1_1 l1_1.length c1_1] 38 (0,0)) (by (with_reducible repeat (first|refine blk_drewN ?_ _|refine blk_drew ?_|refine blk_alloc ?_ _));exact BK155.out) hb);have n2_:=Aside0.mk (blk_below (g:=gb156) (o:=.cells #[.bool false,.slice none 0 0] 38 (0,0)) (by (with_reducible repeat (first|refine blk_drewN ?_ _|refine blk_drew ?_|refine blk_alloc ?_ _));exact BK156.out) hb);have n3_:=Aside0.mk (below_step (by repeat (first|(with_reducible first|exact HB.out|apply bA_|apply bN_|apply bD_|refine below_set ?_ GE154.out|refine below_set ?_ GE155.out|refine below_set ?_ GE156.out)|exact HB.out)) hb);have n4_:=Aside0.mk (hbox);have n5_:=Aside0.mk ((by rw [hg];exact (below_size (by repeat (first|(with_reducible first|exact HB.out|apply bA_|apply bN_|apply bD_|refine below_set ?_ GE154.out|refine below_set ?_ GE155.out|refine below_set ?_ GE156.out)|exact HB.out))):w.heap.size≤gb157));have n6_:=Aside0.mk ((by rw [hg];exact (below_size (by repeat (first|(with_reducible first|exact HB.out|apply bA_|apply bN_|apply bD_|refine below_set ?_ GE154.out|refine below_set ?_ GE155.out|refine below_set ?_ GE156.out)|exact HB.out))):w.heap.size≤gb157));have n7_:=Aside0.mk ((by rw [hg];exact Nat.ne_of_lt (blk_lt (g:=gb154) (o:=.cells #[.bool false,.slice A0_1 l0_1.length c0_1] 38 (0,0)) (by (with_reducible repeat (first|refine blk_drewN ?_ _|refine blk_drew ?_|refine blk_alloc ?_ _));exact BK154.out)):gb154≠gb157));have n8_:=Aside0.mk ((by rw [hg];exact Nat.ne_of_gt (blk_lt (g:=gb154) (o:=.cells #[.bool false,.slice A0_1 l0_1.length c0_1] 38 (0,0)) (by (with_reducible repeat (first|refine blk_drewN ?_ _|refine blk_drew ?_|refine blk_alloc ?_ _));exact BK154.out)):gb157≠gb154));have n9_:=Aside0.mk ((by rw [hg];exact Nat.ne_of_lt (blk_lt (g:=gb155) (o:=.cells #[.bool a1_0,.slice A1_1 l1_1.length c1_1] 38 (0,0)) (by (with_reducible repeat (first|refine blk_drewN ?_ _|refine blk_drew ?_|refine blk_alloc ?_ _));exact BK155.out)):gb155≠gb157));have n10_:=Aside0.mk ((by rw [hg];exact Nat.ne_of_gt (blk_lt (g:=gb155) (o:=.cells #[.bool a1_0,.slice A1_1 l1_1.length c1_1] 38 (0,0)) (by (with_reducible repeat (first|refine blk_drewN ?_ _|refine blk_drew ?_|refine blk_alloc ?_ _));exact BK155.out)):gb157≠gb155));have n11_:=Aside0.mk ((by rw [hg];exact Nat.ne_of_lt (blk_lt (g:=gb156) (o:=.cells #[.bool false,.slice none 0 0] 38 (0,0)) (by (with_reducible repeat (first|refine blk_drewN ?_ _|refine blk_drew ?_|refine blk_alloc ?_ _));exact BK156.out)):gb156≠gb157));have n12_:=Aside0.mk ((by rw [hg];exact Nat.ne_of_gt (blk_lt (g:=gb156) (o:=.cells #[.bool false,.slice none 0 0] 38 (0,0)) (by (with_reducible repeat (first|refine blk_drewN ?_ _|refine blk_drew ?_|refine blk_alloc ?_ _));exact BK156.out)):gb157≠gb156));clear BK154;clear BK155;clear BK156;clear HB;have BK154:=n0_;have BK155:=n1_;have BK156:=n2_;have HB:=n3_;have BK157:=n4_;have GW157:=n5_;have GE157:=n6_;have NB154_157:=n7_;have NB157_154:=n8_;have NB155_157:=n9_;have NB157_155:=n10_;have NB156_157:=n11_;have NB157_156:=n12_;clear n0_ n1_ n2_ n3_ n4_ n5_ n6_ n7_ n8_ n9_ n10_ n11_ n12_;clear hb hbox hg;have hnb73:=NB157_154.out;have hnc73:=NB154_157.out;have hnb74:=NB157_155.out;have hnc74:=NB155_157.out;have hnb75:=NB157_156.out;have hnc75:=NB156_157.out;have hcz76_0:w72.cell? ⟨gb157,0,none⟩=some (.bool false):=(blk_cell BK157.out 0).trans rfl;have hcz76_1:w72.cell? ⟨gb157,1,none⟩=some (.slice none 0 0):=(blk_cell BK157.out 1).trans rfl;have hfz76_0:=blk_frozen BK157.out 0;have hfz76_1:=blk_frozen BK157.out 1))
    have n0_:Aside0 (((w72.setCell ⟨gb157,0,none⟩ (.bool false)).setCell ⟨gb157,1,none⟩ (.slice none 0 0)).heap[gb154]? = some (.cells #[.bool false,.slice A0_1 l0_1.length c0_1] 38 (0,0))):=⟨by (with_reducible repeat (first|refine blk_drewN ?_ _|refine blk_drew ?_|refine blk_alloc ?_ _));refine blk_far ?_ NB154_157.out _;(with_reducible repeat (first|refine blk_drewN ?_ _|refine blk_drew ?_|refine blk_alloc ?_ _));refine blk_far ?_ NB154_157.out _;(with_reducible repeat (first|refine blk_drewN ?_ _|refine blk_drew ?_|refine blk_alloc ?_ _));exact BK154.out⟩
    have n1_:Aside0 (((w72.setCell ⟨gb157,0,none⟩ (.bool false)).setCell ⟨gb157,1,none⟩ (.slice none 0 0)).heap[gb155]? = some (.cells #[.bool a1_0,.slice A1_1 l1_1.length c1_1] 38 (0,0))):=⟨by (with_reducible repeat (first|refine blk_drewN ?_ _|refine blk_drew ?_|refine blk_alloc ?_ _));refine blk_far ?_ NB155_157.out _;(with_reducible repeat (first|refine blk_drewN ?_ _|refine blk_drew ?_|refine blk_alloc ?_ _));refine blk_far ?_ NB155_157.out _;(with_reducible repeat (first|refine blk_drewN ?_ _|refine blk_drew ?_|refine blk_alloc ?_ _));exact BK155.out⟩
    have n2_:Aside0 (((w72.setCell ⟨gb157,0,none⟩ (.bool false)).setCell ⟨gb157,1,none⟩ (.slice none 0 0)).heap[gb156]? = some (.cells #[.bool false,.slice none 0 0] 38 (0,0))):=⟨by (with_reducible repeat (first|refine blk_drewN ?_ _|refine blk_drew ?_|refine blk_alloc ?_ _));refine blk_far ?_ NB156_157.out _;(with_reducible repeat (first|refine blk_drewN ?_ _|refine blk_drew ?_|refine blk_alloc ?_ _));refine blk_far ?_ NB156_157.out _;(with_reducible repeat (first|refine blk_drewN ?_ _|refine blk_drew ?_|refine blk_alloc ?_ _));exact BK156.out⟩
    have n3_:Aside0 (((w72.setCell ⟨gb157,0,none⟩ (.bool false)).setCell ⟨gb157,1,none⟩ (.slice none 0 0)).heap[gb157]? = some (.cells #[.bool false,.slice none 0 0] 38 (0,0))):=⟨by (with_reducible repeat (first|refine blk_drewN ?_ _|refine blk_drew ?_|refine blk_alloc ?_ _));refine blk_put (cs:=#[.bool false,.slice none 0 0]) ?_ 1 _ rfl;(with_reducible repeat (first|refine blk_drewN ?_ _|refine blk_drew ?_|refine blk_alloc ?_ _));refine blk_put (cs:=#[.bool false,.slice none 0 0]) ?_ 0 _ rfl;(with_reducible repeat (first|refine blk_drewN ?_ _|refine blk_drew ?_|refine blk_alloc ?_ _));exact BK157.out⟩
    have n4_:Aside0 (Below w.heap.size w ((w72.setCell ⟨gb157,0,none⟩ (.bool false)).setCell ⟨gb157,1,none⟩ (.slice none 0 0))):=⟨by repeat (first|(with_reducible first|exact HB.out|apply bA_|apply bN_|apply bD_|refine below_set ?_ GE154.out|refine below_set ?_ GE155.out|refine below_set ?_ GE156.out|refine below_set ?_ GE157.out)|exact HB.out)⟩
    (try clear BK154)
    (try clear BK155)
    (try clear BK156)
    (try clear BK157)
    (try clear HB)
    generalize ((w72.setCell ⟨gb157,0,none⟩ (.bool false)).setCell ⟨gb157,1,none⟩ (.slice none 0 0))=w77 at n0_ n1_ n2_ n3_ n4_ ⊢
    have BK154:=n0_
    have BK155:=n1_
    have BK156:=n2_
    have BK157:=n3_
    have HB:=n4_
    clear n0_ n1_ n2_ n3_ n4_
    have n0_:=Aside0.mk (blk_drew BK154.out)
    have n1_:=Aside0.mk (blk_drew BK155.out)
    have n2_:=Aside0.mk (blk_drew BK156.out)
    have n3_:=Aside0.mk (blk_drew BK157.out)
    have n4_:=Aside0.mk (bD_ HB.out)
    clear BK154
    clear BK155
    clear BK156
    clear BK157
    clear HB
    have BK154:=n0_
    have BK155:=n1_
    have BK156:=n2_
    have BK157:=n3_
    have HB:=n4_
    clear n0_ n1_ n2_ n3_ n4_
    refine start_ (n:=8) (S:=fun w'=>w'.cell? ⟨gb154,0,none⟩=some (.bool false)∧w'.cell? ⟨gb154,1,none⟩=some (.slice A0_1 l0_1.length c0_1)∧w'.cell? ⟨gb155,0,none⟩=some (.bool a1_0)∧w'.cell? ⟨gb155,1,none⟩=some (.slice A1_1 l1_1.length c1_1)) (ds:=[]) #[false,false,false,false,false,false,false,false] (by kernel_rfl) rfl rfl ⟨(blk_cell BK154.out 0).trans rfl,(blk_cell BK154.out 1).trans rfl,(blk_cell BK155.out 0).trans rfl,(blk_cell BK155.out 1).trans rfl⟩ (fun hHeld=>?_);refine with_tabW cadenceref3_pick.tab4 cadenceref3_pick.bits4 (fun HT_ HW_=>?_)
    generalize w77.drew=w78 at BK154 BK155 BK156 BK157 HB hHeld ⊢
    refine pure_ (i:=1) (N:=some 28) (v:=?_) (a':=?_) #[false,true,false,false,false,false,false,false] rfl rfl (any_of HT_.out (by kernel_rfl)) (fun _ _ _ h=>h) (Or.inl ⟨by rfl,?_⟩) ?_ ?_
    rotate_left
    ·intro w'
     go_simp
     with_reducible rfl
    rotate_left
    ·simp only [Act.put,List.setIfInBounds_toArray,List.set_cons_zero,List.set_cons_succ,i64_w,i32_w]
     rfl
    refine pure_ (i:=4) (N:=some 31) (v:=?_) (a':=?_) #[false,true,false,false,true,false,false,false] rfl rfl (any_of HT_.out (by kernel_rfl)) (fun _ _ _ h=>h) (Or.inl ⟨by rfl,?_⟩) ?_ ?_
    rotate_left
    ·intro w'
     go_simp
     with_reducible rfl
    rotate_left
    ·simp only [Act.put,List.setIfInBounds_toArray,List.set_cons_zero,List.set_cons_succ,i64_w,i32_w]
     rfl
    refine take_ (i:=2) (N:=some 29) (v:=?_) (a':=?_) #[false,true,true,false,true,false,false,false] rfl rfl (take_ofW HT_.out HW_.out (by kernel_rfl)) (fun _ _ _ h=>h) (Or.inl ⟨by rfl,?_⟩) hHeld ?_ ?_
    rotate_left
    ·rintro w' ⟨s0,s1,s2,s3⟩
     go_simp
     with_reducible rfl
    rotate_left
    ·simp only [Act.put,List.setIfInBounds_toArray,List.set_cons_zero,List.set_cons_succ,i64_w,i32_w]
     rfl
    refine take_ (i:=5) (N:=some 32) (v:=?_) (a':=?_) #[false,true,true,false,true,true,false,false] rfl rfl (take_ofW HT_.out HW_.out (by kernel_rfl)) (fun _ _ _ h=>h) (Or.inl ⟨by rfl,?_⟩) hHeld ?_ ?_
    rotate_left
    ·rintro w' ⟨s0,s1,s2,s3⟩
     go_simp
     with_reducible rfl
    rotate_left
    ·simp only [Act.put,List.setIfInBounds_toArray,List.set_cons_zero,List.set_cons_succ,i64_w,i32_w]
     rfl
    refine one_ (i:=0) (N:=some 27) #[true,true,true,false,true,true,false,false] rfl rfl (one_of HT_.out (by kernel_rfl)) (by decide) (fun K hK=>?_)
    refine Kd.R_lit_step Kd.string _ 9 ?hg (N:=27) ?hd (xs:=([]:List ByteArray)) (inner:=[]) (ok:=fun _=>True) (okp:=fun _=>True) ?hr ?hp (fun _ hk=>hk) trivial (Below.refl _ _) (Nat.le_refl _) (by simp) ?_;(case hd=>rfl);(case hg=>rfl);(case hr=>first|(go_simp;done)|(go_simp;rfl));(case hp=>exact (Reps.none _ _))
    intro v177 w79 ho80 hb hg_ hnew_
    clear hg_ hnew_
    (first|rw [← Ny176.out] at ho80|(simp only [Int.reduceToNat] at ho80;rw [← Ny176.out] at ho80))
    have n0_:=Aside0.mk (Kd.R_lower ho80 (below_size (by repeat (first|(with_reducible first|exact HB.out|apply bA_|apply bN_|apply bD_|refine below_set ?_ GE154.out|refine below_set ?_ GE155.out|refine below_set ?_ GE156.out|refine below_set ?_ GE157.out)|exact HB.out))))
    have n1_:=Aside0.mk (blk_below (g:=gb154) (o:=.cells #[.bool false,.slice A0_1 l0_1.length c0_1] 38 (0,0)) (by (with_reducible repeat (first|refine blk_drewN ?_ _|refine blk_drew ?_|refine blk_alloc ?_ _));exact BK154.out) hb)
    have n2_:=Aside0.mk (blk_below (g:=gb155) (o:=.cells #[.bool a1_0,.slice A1_1 l1_1.length c1_1] 38 (0,0)) (by (with_reducible repeat (first|refine blk_drewN ?_ _|refine blk_drew ?_|refine blk_alloc ?_ _));exact BK155.out) hb)
    have n3_:=Aside0.mk (blk_below (g:=gb156) (o:=.cells #[.bool false,.slice none 0 0] 38 (0,0)) (by (with_reducible repeat (first|refine blk_drewN ?_ _|refine blk_drew ?_|refine blk_alloc ?_ _));exact BK156.out) hb)
    have n4_:=Aside0.mk (blk_below (g:=gb157) (o:=.cells #[.bool false,.slice none 0 0] 38 (0,0)) (by (with_reducible repeat (first|refine blk_drewN ?_ _|refine blk_drew ?_|refine blk_alloc ?_ _));exact BK157.out) hb)
    have n5_:=Aside0.mk (below_step (by repeat (first|(with_reducible first|exact HB.out|apply bA_|apply bN_|apply bD_|refine below_set ?_ GE154.out|refine below_set ?_ GE155.out|refine below_set ?_ GE156.out|refine below_set ?_ GE157.out)|exact HB.out)) hb)
    clear BK154
    clear BK155
    clear BK156
    clear BK157
    clear HB
    have HO178:=n0_
    have BK154:=n1_
    have BK155:=n2_
    have BK156:=n3_
    have BK157:=n4_
    have HB:=n5_
    clear n0_ n1_ n2_ n3_ n4_ n5_
    clear hb ho80
    refine hK.out _ _ ⟨(blk_cell BK154.out 0).trans rfl,(blk_cell BK154.out 1).trans rfl,(blk_cell BK155.out 0).trans rfl,(blk_cell BK155.out 1).trans rfl⟩ (fun hHeld=>?_)
    clear hK K
    refine norm_ (a':=?_) ?_ ?_
    rotate_left
    ·show Act.put _ (some 27) _=_
     simp only [Act.put,List.setIfInBounds_toArray,List.set_cons_zero,List.set_cons_succ,i64_w,i32_w]
     rfl
    refine one_ (i:=3) (N:=some 30) #[true,true,true,true,true,true,false,false] rfl rfl (one_of HT_.out (by kernel_rfl)) (by decide) (fun K hK=>?_)
    refine Kd.R_append_rows_step Kd.string (w0:=w) w.heap.size (by rfl) (.tmp 27) (.tmp 29) 36 9 (.string ⟨#[]⟩) 16 rfl Try.underlying36 info9 rfl (by decide) (by omega) v177 y176 l0_1 _ _ _ (fun _=>True) (fun _=>False) rfl rfl ?aO ?aR (fun _ _ h=>h) (fun _ h=>h.elim) ?aF ?aB ?aS ?aL ?_
    (case aR=>repeat (first|exact (Kd.C_below HR0_1.out HB.out)|(with_reducible refine cA_ ?_ _)|(with_reducible refine cN_ ?_ _)|(with_reducible refine cD_ ?_)))
    (case aB=>exact (by repeat (first|(with_reducible first|exact HB.out|apply bA_|apply bN_|apply bD_|refine below_set ?_ GE154.out|refine below_set ?_ GE155.out|refine below_set ?_ GE156.out|refine below_set ?_ GE157.out)|exact HB.out)))
    (case aF=>exact (fun _ _=>trivial))
    (case aO=>exact (by (with_reducible repeat (first|apply rA_|apply rN_|apply rD_));exact HO178.out))
    (case aS=>exact (below_size (by repeat (first|(with_reducible first|exact HB.out|apply bA_|apply bN_|apply bD_|refine below_set ?_ GE154.out|refine below_set ?_ GE155.out|refine below_set ?_ GE156.out|refine below_set ?_ GE157.out)|exact HB.out))))
    (case aL=>have:=LMc64.out;omega)
    intro v180 w81 ho hb hg hat
    rw [← Ny179.out] at ho
    have n0_:=Aside0.mk (blk_grown (g:=gb154) (o:=.cells #[.bool false,.slice A0_1 l0_1.length c0_1] 38 (0,0)) (by (with_reducible repeat (first|refine blk_drewN ?_ _|refine blk_drew ?_|refine blk_alloc ?_ _));exact BK154.out) hg (Kd.R_ne HO178.out BK154.out (by decide)))
    have n1_:=Aside0.mk (blk_grown (g:=gb155) (o:=.cells #[.bool a1_0,.slice A1_1 l1_1.length c1_1] 38 (0,0)) (by (with_reducible repeat (first|refine blk_drewN ?_ _|refine blk_drew ?_|refine blk_alloc ?_ _));exact BK155.out) hg (Kd.R_ne HO178.out BK155.out (by decide)))
    have n2_:=Aside0.mk (blk_grown (g:=gb156) (o:=.cells #[.bool false,.slice none 0 0] 38 (0,0)) (by (with_reducible repeat (first|refine blk_drewN ?_ _|refine blk_drew ?_|refine blk_alloc ?_ _));exact BK156.out) hg (Kd.R_ne HO178.out BK156.out (by decide)))
    have n3_:=Aside0.mk (blk_grown (g:=gb157) (o:=.cells #[.bool false,.slice none 0 0] 38 (0,0)) (by (with_reducible repeat (first|refine blk_drewN ?_ _|refine blk_drew ?_|refine blk_alloc ?_ _));exact BK157.out) hg (Kd.R_ne HO178.out BK157.out (by decide)))
    have n4_:=Aside0.mk (hb)
    have n5_:=Aside0.mk (ho)
    clear BK154
    clear BK155
    clear BK156
    clear BK157
    clear HB
    clear HO178
    have BK154:=n0_
    have BK155:=n1_
    have BK156:=n2_
    have BK157:=n3_
    have HB:=n4_
    have HO181:=n5_
    clear n0_ n1_ n2_ n3_ n4_ n5_
    clear ho hb hg hat
    refine hK.out _ _ ⟨(blk_cell BK154.out 0).trans rfl,(blk_cell BK154.out 1).trans rfl,(blk_cell BK155.out 0).trans rfl,(blk_cell BK155.out 1).trans rfl⟩ (fun hHeld=>?_)
    clear hK K
    refine norm_ (a':=?_) ?_ ?_
    rotate_left
    ·show Act.put _ (some 30) _=_
     simp only [Act.put,List.setIfInBounds_toArray,List.set_cons_zero,List.set_cons_succ,i64_w,i32_w]
     rfl
    refine one_ (i:=6) (N:=some 33) #[true,true,true,true,true,true,true,false] rfl rfl (one_of HT_.out (by kernel_rfl)) (by decide) (fun K hK=>?_)
    refine Kd.R_append_rows_step Kd.string (w0:=w) w.heap.size (by rfl) (.tmp 30) (.tmp 32) 36 9 (.string ⟨#[]⟩) 16 rfl Try.underlying36 info9 rfl (by decide) (by omega) v180 y179 l1_1 _ _ _ (fun _=>True) (fun _=>False) rfl rfl ?aO ?aR (fun _ _ h=>h) (fun _ h=>h.elim) ?aF ?aB ?aS ?aL ?_
    (case aR=>repeat (first|exact (Kd.C_below HR1_1.out HB.out)|(with_reducible refine cA_ ?_ _)|(with_reducible refine cN_ ?_ _)|(with_reducible refine cD_ ?_)))
    (case aB=>exact (by repeat (first|(with_reducible first|exact HB.out|apply bA_|apply bN_|apply bD_|refine below_set ?_ GE154.out|refine below_set ?_ GE155.out|refine below_set ?_ GE156.out|refine below_set ?_ GE157.out)|exact HB.out)))
    (case aF=>exact (fun _ _=>trivial))
    (case aO=>exact (by (with_reducible repeat (first|apply rA_|apply rN_|apply rD_));exact HO181.out))
    (case aS=>exact (below_size (by repeat (first|(with_reducible first|exact HB.out|apply bA_|apply bN_|apply bD_|refine below_set ?_ GE154.out|refine below_set ?_ GE155.out|refine below_set ?_ GE156.out|refine below_set ?_ GE157.out)|exact HB.out))))
    (case aL=>have:=LMc65.out;omega)
    intro v183 w82 ho hb hg hat
    rw [← Ny182.out] at ho
    have n0_:=Aside0.mk (blk_grown (g:=gb154) (o:=.cells #[.bool false,.slice A0_1 l0_1.length c0_1] 38 (0,0)) (by (with_reducible repeat (first|refine blk_drewN ?_ _|refine blk_drew ?_|refine blk_alloc ?_ _));exact BK154.out) hg (Kd.R_ne HO181.out BK154.out (by decide)))
    have n1_:=Aside0.mk (blk_grown (g:=gb155) (o:=.cells #[.bool a1_0,.slice A1_1 l1_1.length c1_1] 38 (0,0)) (by (with_reducible repeat (first|refine blk_drewN ?_ _|refine blk_drew ?_|refine blk_alloc ?_ _));exact BK155.out) hg (Kd.R_ne HO181.out BK155.out (by decide)))
    have n2_:=Aside0.mk (blk_grown (g:=gb156) (o:=.cells #[.bool false,.slice none 0 0] 38 (0,0)) (by (with_reducible repeat (first|refine blk_drewN ?_ _|refine blk_drew ?_|refine blk_alloc ?_ _));exact BK156.out) hg (Kd.R_ne HO181.out BK156.out (by decide)))
    have n3_:=Aside0.mk (blk_grown (g:=gb157) (o:=.cells #[.bool false,.slice none 0 0] 38 (0,0)) (by (with_reducible repeat (first|refine blk_drewN ?_ _|refine blk_drew ?_|refine blk_alloc ?_ _));exact BK157.out) hg (Kd.R_ne HO181.out BK157.out (by decide)))
    have n4_:=Aside0.mk (hb)
    have n5_:=Aside0.mk (ho)
    clear BK154
    clear BK155
    clear BK156
    clear BK157
    clear HB
    clear HO181
    have BK154:=n0_
    have BK155:=n1_
    have BK156:=n2_
    have BK157:=n3_
    have HB:=n4_
    have HO184:=n5_
    clear n0_ n1_ n2_ n3_ n4_ n5_
    clear ho hb hg hat
    refine hK.out _ _ ⟨(blk_cell BK154.out 0).trans rfl,(blk_cell BK154.out 1).trans rfl,(blk_cell BK155.out 0).trans rfl,(blk_cell BK155.out 1).trans rfl⟩ (fun hHeld=>?_)
    clear hK K
    refine norm_ (a':=?_) ?_ ?_
    rotate_left
    ·show Act.put _ (some 33) _=_
     simp only [Act.put,List.setIfInBounds_toArray,List.set_cons_zero,List.set_cons_succ,i64_w,i32_w]
     rfl
    refine pure_ (i:=7) (N:=some 8) (v:=?_) (a':=?_) #[true,true,true,true,true,true,true,true] rfl rfl (any_of HT_.out (by kernel_rfl)) (fun _ _ _ h=>h) (Or.inl ⟨by rfl,?_⟩) ?_ ?_
    rotate_left
    ·intro w'
     go_simp
     with_reducible rfl
    rotate_left
    ·simp only [Act.put,List.setIfInBounds_toArray,List.set_cons_zero,List.set_cons_succ,i64_w,i32_w]
     rfl
    refine done_ (done_of HT_.out (by kernel_rfl)) ?_
    try go_wp2
    go_loopg [9] k (fun kq v9 w'=>∃ (x9_1:Int) (x158001_1:List ByteArray) (u158001:Value),v9=.int .i64 x9_1∧Aside0 (cadenceref3_pick.l0 kq y182 x9_1 false l0_1 a1_0 l1_1 false x158001_1=some (r1,r2))∧Aside0 (kq≤k)∧Aside0 (Kd.R Kd.string 9 w' w.heap.size (fun k_=>some k_≠(u158001:Value).ownBlock) v183 y182)∧Aside0 (Kd.R Kd.string 9 w' w.heap.size (fun k_=>some k_≠(v183:Value).ownBlock) u158001 x158001_1)∧Aside0 (w'.heap[gb154]? = some (.cells #[.bool false,(.slice A0_1 l0_1.length c0_1)] 38 (0,0)))∧Aside0 (w'.heap[gb155]? = some (.cells #[.bool a1_0,(.slice A1_1 l1_1.length c1_1)] 38 (0,0)))∧Aside0 (w'.heap[gb156]? = some (.cells #[.bool false,(.slice none 0 0)] 38 (0,0)))∧Aside0 (w'.heap[gb157]? = some (.cells #[.bool false,u158001] 38 (0,0)))∧Aside0 (Below w.heap.size w w'))
    case atStart=>exact ⟨(0),(([]:List ByteArray)),(.slice none 0 0),(by first|rfl|(simp;done)|(simp [*];done)),H',⟨Nat.le_refl _⟩,⟨by (with_reducible repeat (first|apply rA_|apply rN_|apply rD_));exact Kd.R_mono HO184.out (fun _ hk=>(by simp [Value.ownBlock]))⟩,⟨by first|exact Kd.R_nil _ _ _ _ _|exact Kd.N_nil _ _ _ _ _|exact Kd.V_nil _ _ _ _ _|exact Kd.Q_nil _ _ _ _ _|exact Kd.S_nil _ _ _ _ _⟩,⟨by (with_reducible repeat (first|refine blk_drewN ?_ _|refine blk_drew ?_|refine blk_alloc ?_ _));exact BK154.out⟩,⟨by (with_reducible repeat (first|refine blk_drewN ?_ _|refine blk_drew ?_|refine blk_alloc ?_ _));exact BK155.out⟩,⟨by (with_reducible repeat (first|refine blk_drewN ?_ _|refine blk_drew ?_|refine blk_alloc ?_ _));exact BK156.out⟩,⟨by (with_reducible repeat (first|refine blk_drewN ?_ _|refine blk_drew ?_|refine blk_alloc ?_ _));exact BK157.out⟩,⟨by repeat (first|(with_reducible first|exact HB.out|apply bA_|apply bN_|apply bD_|refine below_set ?_ GE154.out|refine below_set ?_ GE155.out|refine below_set ?_ GE156.out|refine below_set ?_ GE157.out)|exact HB.out)⟩⟩
    case round =>
     clear H'
     try clear c1
     try clear p1
     try clear q1
     try clear hx1
     try clear c2
     try clear p2
     try clear c3
     try clear c4
     try clear c5
     try clear c6
     try clear p6
     try clear c7
     try clear c10
     try clear c11
     try clear c13
     try clear c16
     try clear p16
     try clear q16
     try clear hx16
     try clear c17
     try clear p17
     try clear q17
     try clear hx17
     try clear c18
     try clear c26
     try clear c26b0
     try clear c29
     try clear c29b0
     try clear c31
     try clear c38
     try clear c38b0
     try clear c38b1
     try clear c38b2
     try clear c39
     try clear c39b0
     try clear c40
     try clear c40b0
     try clear c42
     try clear c43
     try clear c44
     try clear c45
     try clear c51
     try clear c52
     try clear c53
     try clear c56
     try clear c57
     try clear c58
     try clear c60
     try clear c61
     try clear c64
     try clear p64
     try clear c65
     try clear c69
     try clear c70
     try clear c73
     try clear c74
     try clear c75
     try clear hcz12_0
     try clear hcz12_1
     try clear hcz14_0
     try clear hcz14_1
     try clear hcz19_0
     try clear hcz19_1
     try clear hcz45_0
     try clear hcz45_1
     try clear hcz54_0
     try clear hcz54_1
     try clear hcz59_0
     try clear hcz59_1
     try clear hcz62_0
     try clear hcz62_1
     try clear hcz71_0
     try clear hcz71_1
     try clear hcz76_0
     try clear hcz76_1
     try clear hfz12_0
     try clear hfz12_1
     try clear hfz14_0
     try clear hfz14_1
     try clear hfz19_0
     try clear hfz19_1
     try clear hfz45_0
     try clear hfz45_1
     try clear hfz54_0
     try clear hfz54_1
     try clear hfz59_0
     try clear hfz59_1
     try clear hfz62_0
     try clear hfz62_1
     try clear hfz71_0
     try clear hfz71_1
     try clear hfz76_0
     try clear hfz76_1
     try clear hx167_0
     try clear hx169_0
     try clear hx171_0
     try clear p1
     try clear p16
     try clear p167
     try clear p169
     try clear p171
     try clear p2
     try clear q1
     try clear q16
     try clear q167
     try clear q169
     try clear q171
     obtain ⟨x9_1,x158001_1,u158001,rfl,HA,HK1,HO_8,HO_158001,BK154,BK155,BK156,BK157,HB⟩:=hrel
     cases gk with
     | zero=>exact absurd HA.out (by simp [cadenceref3_pick.l0])
     | succ k1 =>
      have H:=HA.out
      clear HA
      simp only [cadenceref3_pick.l0] at H
      by_cases c83:x9_1 < (y182.length:Int)
      ·rw [if_pos c83] at H
       have c83b0:decide (x9_1 < (y182.length:Int))=true:=decide_eq_true c83
       clear c83
       have HC84:=Aside0.mk H
       clear H
       obtain ⟨Ao85,co85,eo85⟩:=Kd.R_slice HO_8.out
       subst eo85
       go_upto_region 8 with (fail)
       go_cut [10] (fun v10 wc=>∃ (kq:Nat) (x10_83:Bool),v10=.bool x10_83∧Aside0 (cadenceref3_pick.j1 kq y182 x9_1 x10_83 false l0_1 a1_0 l1_1 false x158001_1=some (r1,r2))∧Aside0 (kq≤k1)∧Aside0 (Kd.R Kd.string 9 wc w.heap.size (fun k_=>some k_≠(u158001:Value).ownBlock) (.slice Ao85 y182.length co85) y182)∧Aside0 (Kd.R Kd.string 9 wc w.heap.size (fun k_=>some k_≠((.slice Ao85 y182.length co85):Value).ownBlock) u158001 x158001_1)∧Aside0 (wc.heap[gb154]? = some (.cells #[.bool false,(.slice A0_1 l0_1.length c0_1)] 38 (0,0)))∧Aside0 (wc.heap[gb155]? = some (.cells #[.bool a1_0,(.slice A1_1 l1_1.length c1_1)] 38 (0,0)))∧Aside0 (wc.heap[gb156]? = some (.cells #[.bool false,(.slice none 0 0)] 38 (0,0)))∧Aside0 (wc.heap[gb157]? = some (.cells #[.bool false,u158001] 38 (0,0)))∧Aside0 (Below w.heap.size w wc))
       case first =>
        have H:=HC84.out
        clear HC84
        by_cases c86:0≤x9_1
        ·rw [if_pos c86] at H
         have c86b0:decide (0≤x9_1)=true:=decide_eq_true c86
         clear c86
         (first|rw [c86b0]|(simp only [i64_w,i32_w];rw [c86b0])|skip)
         replace H:=Option.bind_eq_some_iff.mp H
         obtain ⟨t168,A870,H⟩:=H
         replace H:(if t168=true then ((cadenceref3_Has.f k1 a1_0 l1_1 (rdOf ByteArray.empty y182 x9_1)).bind fun t170=>(cadenceref3_pick.j1 k1 y182 x9_1 t170 false l0_1 a1_0 l1_1 false x158001_1)) else (cadenceref3_pick.j1 k1 y182 x9_1 false false l0_1 a1_0 l1_1 false x158001_1))=some (r1,r2):=H
         have A87:=Aside0.mk A870
         clear A870
         by_cases c88:t168=true
         ·subst c88
          have H1:((cadenceref3_Has.f k1 a1_0 l1_1 (rdOf ByteArray.empty y182 x9_1)).bind fun t170=>(cadenceref3_pick.j1 k1 y182 x9_1 t170 false l0_1 a1_0 l1_1 false x158001_1))=some (r1,r2):=by rw [if_pos rfl] at H;exact H
          clear H
          have H:=H1
          clear H1
          replace H:=Option.bind_eq_some_iff.mp H
          obtain ⟨t170,A890,H⟩:=H
          replace H:(cadenceref3_pick.j1 k1 y182 x9_1 t170 false l0_1 a1_0 l1_1 false x158001_1)=some (r1,r2):=H
          have A89:=Aside0.mk A890
          clear A890
          have H':=Aside0.mk H
          clear H
          try go_wp2
          have n0_:=Aside0.mk (rD_ HO_8.out)
          have n1_:=Aside0.mk (rD_ HO_158001.out)
          have n2_:=Aside0.mk (blk_drew BK154.out)
          have n3_:=Aside0.mk (blk_drew BK155.out)
          have n4_:=Aside0.mk (blk_drew BK156.out)
          have n5_:=Aside0.mk (blk_drew BK157.out)
          have n6_:=Aside0.mk (bD_ HB.out)
          clear HO_8
          clear HO_158001
          clear BK154
          clear BK155
          clear BK156
          clear BK157
          clear HB
          have HO_8:=n0_
          have HO_158001:=n1_
          have BK154:=n2_
          have BK155:=n3_
          have BK156:=n4_
          have BK157:=n5_
          have HB:=n6_
          clear n0_ n1_ n2_ n3_ n4_ n5_ n6_
          have p167:0≤(x9_1:Int):=of_decide_eq_true (by first|(with_reducible assumption)|assumption)
          have q167:x9_1 < (y182.length:Int):=of_decide_eq_true (by first|(with_reducible assumption)|assumption)
          obtain ⟨ad167,e167,hx167_0⟩:=Kd.at_string (Kd.R_reads' HO_8.out).2.2 x9_1 p167 q167
          cases e167
          replace p167:=eq_true p167
          replace q167:=eq_true q167
          have p169:0≤(x9_1:Int):=of_decide_eq_true (by first|(with_reducible assumption)|assumption)
          have q169:x9_1 < (y182.length:Int):=of_decide_eq_true (by first|(with_reducible assumption)|assumption)
          obtain ⟨ad169,e169,hx169_0⟩:=Kd.at_string (Kd.R_reads' HO_8.out).2.2 x9_1 p169 q169
          obtain rfl:ad167=ad169:=(by injection e169)
          replace p169:=eq_true p169
          replace q169:=eq_true q169
          refine start_ (n:=15) (S:=fun w'=>w'.cell? ⟨gb154,0,none⟩=some (.bool false)∧w'.cell? ⟨gb154,1,none⟩=some (.slice A0_1 l0_1.length c0_1)∧w'.cell? ⟨gb155,0,none⟩=some (.bool a1_0)∧w'.cell? ⟨gb155,1,none⟩=some (.slice A1_1 l1_1.length c1_1)∧w'.cell? (ad167.add (x9_1).toNat)=some (.string (rdOf ByteArray.empty y182 x9_1))∧w'.cell? (ad167.add (x9_1).toNat)=some (.string (rdOf ByteArray.empty y182 x9_1))) (ds:=[]) #[false,false,false,false,false,false,false,false,false,false,false,false,false,false,false] (by kernel_rfl) rfl rfl ⟨(blk_cell BK154.out 0).trans rfl,(blk_cell BK154.out 1).trans rfl,(blk_cell BK155.out 0).trans rfl,(blk_cell BK155.out 1).trans rfl,hx167_0,hx169_0⟩ (fun hHeld=>?_);refine with_tabW cadenceref3_pick.tab8 cadenceref3_pick.bits8 (fun HT_ HW_=>?_)
          generalize wr.drew=w90 at HO_8 HO_158001 BK154 BK155 BK156 BK157 HB hx167_0 hx169_0 hHeld ⊢
          refine pure_ (i:=1) (N:=some 41) (v:=?_) (a':=?_) #[false,true,false,false,false,false,false,false,false,false,false,false,false,false,false] rfl rfl (any_of HT_.out (by kernel_rfl)) (fun _ _ _ h=>h) (Or.inl ⟨by rfl,?_⟩) ?_ ?_
          rotate_left
          ·intro w'
           go_simp
           with_reducible rfl
          rotate_left
          ·simp only [Act.put,List.setIfInBounds_toArray,List.set_cons_zero,List.set_cons_succ,i64_w,i32_w]
           rfl
          refine pure_ (i:=2) (N:=some 42) (v:=?_) (a':=?_) #[false,true,true,false,false,false,false,false,false,false,false,false,false,false,false] rfl rfl (any_of HT_.out (by kernel_rfl)) (fun _ _ _ h=>h) (Or.inl ⟨by rfl,?_⟩) ?_ ?_
          rotate_left
          ·intro w'
           go_simp
           with_reducible rfl
          rotate_left
          ·simp only [Act.put,List.setIfInBounds_toArray,List.set_cons_zero,List.set_cons_succ,i64_w,i32_w]
           rfl
          refine pure_ (i:=3) (N:=some 43) (v:=?_) (a':=?_) #[false,true,true,true,false,false,false,false,false,false,false,false,false,false,false] rfl rfl (any_of HT_.out (by kernel_rfl)) (fun _ _ _ h=>h) (Or.inl ⟨by rfl,?_⟩) ?_ ?_
          rotate_left
          ·intro w'
           go_simp
           with_reducible rfl
          rotate_left
          ·simp only [Act.put,List.setIfInBounds_toArray,List.set_cons_zero,List.set_cons_succ,i64_w,i32_w]
           rfl
          refine take_ (i:=0) (N:=some 40) (v:=?_) (a':=?_) #[true,true,true,true,false,false,false,false,false,false,false,false,false,false,false] rfl rfl (take_ofW HT_.out HW_.out (by kernel_rfl)) (fun _ _ _ h=>h) (Or.inl ⟨by rfl,?_⟩) hHeld ?_ ?_
          rotate_left
          ·rintro w' ⟨s0,s1,s2,s3,s4,s5⟩
           go_simp
           with_reducible rfl
          rotate_left
          ·simp only [Act.put,List.setIfInBounds_toArray,List.set_cons_zero,List.set_cons_succ,i64_w,i32_w]
           rfl
          refine take_ (i:=4) (N:=some 44) (v:=?_) (a':=?_) #[true,true,true,true,true,false,false,false,false,false,false,false,false,false,false] rfl rfl (take_ofW HT_.out HW_.out (by kernel_rfl)) (fun _ _ _ h=>h) (Or.inl ⟨by rfl,?_⟩) hHeld ?_ ?_
          rotate_left
          ·rintro w' ⟨s0,s1,s2,s3,s4,s5⟩
           go_simp
           with_reducible rfl
          rotate_left
          ·simp only [Act.put,List.setIfInBounds_toArray,List.set_cons_zero,List.set_cons_succ,i64_w,i32_w]
           rfl
          refine one_ (i:=5) (N:=some 45) #[true,true,true,true,true,true,false,false,false,false,false,false,false,false,false] rfl rfl (one_of HT_.out (by kernel_rfl)) (by decide) (fun K hK=>?_)
          refine goes_ Try.func42 (by kernel_rfl) rfl #[.agg #[.bool false,.slice A0_1 l0_1.length c0_1],.string (rdOf ByteArray.empty y182 x9_1)] (by rfl) rfl rfl (by (try simp only [List.map_toArray,List.map_cons,List.map_nil]);first|done|rfl|(simp only [List.length_drop,List.length_take];rfl)) ?_
          with_reducible refine (cadenceref3_Has.calls k1 false _ _ l0_1 (rdOf ByteArray.empty y182 x9_1) true _ ?side1 ?side2 A87.out).mono ?_
          (case side1=>repeat (first|exact (Kd.C_below HR0_1.out HB.out)|(with_reducible refine cA_ ?_ _)|(with_reducible refine cN_ ?_ _)|(with_reducible refine cD_ ?_)))
          (case side2=>exact HC0_1.out)
          rintro e w91 ⟨rfl,hb⟩
          have HS4_:=(hb.cell (World.block_lt_of_cell? _ _ (hHeld.2.2.2.2.1))).trans (hHeld.2.2.2.2.1)
          have HS5_:=(hb.cell (World.block_lt_of_cell? _ _ (hHeld.2.2.2.2.2))).trans (hHeld.2.2.2.2.2)
          refine ⟨_,rfl,?_⟩
          have n0_:=Aside0.mk (Kd.R_below (by (with_reducible repeat (first|apply rA_|apply rN_|apply rD_));exact HO_8.out) hb)
          have n1_:=Aside0.mk (Kd.R_below (by (with_reducible repeat (first|apply rA_|apply rN_|apply rD_));exact HO_158001.out) hb)
          have n2_:=Aside0.mk (blk_below (g:=gb154) (o:=.cells #[.bool false,.slice A0_1 l0_1.length c0_1] 38 (0,0)) (by (with_reducible repeat (first|refine blk_drewN ?_ _|refine blk_drew ?_|refine blk_alloc ?_ _));exact BK154.out) hb)
          have n3_:=Aside0.mk (blk_below (g:=gb155) (o:=.cells #[.bool a1_0,.slice A1_1 l1_1.length c1_1] 38 (0,0)) (by (with_reducible repeat (first|refine blk_drewN ?_ _|refine blk_drew ?_|refine blk_alloc ?_ _));exact BK155.out) hb)
          have n4_:=Aside0.mk (blk_below (g:=gb156) (o:=.cells #[.bool false,.slice none 0 0] 38 (0,0)) (by (with_reducible repeat (first|refine blk_drewN ?_ _|refine blk_drew ?_|refine blk_alloc ?_ _));exact BK156.out) hb)
          have n5_:=Aside0.mk (blk_below (g:=gb157) (o:=.cells #[.bool false,u158001] 38 (0,0)) (by (with_reducible repeat (first|refine blk_drewN ?_ _|refine blk_drew ?_|refine blk_alloc ?_ _));exact BK157.out) hb)
          have n6_:=Aside0.mk (below_step (by repeat (first|(with_reducible first|exact HB.out|apply bA_|apply bN_|apply bD_|refine below_set ?_ GE154.out|refine below_set ?_ GE155.out|refine below_set ?_ GE156.out|refine below_set ?_ GE157.out)|exact HB.out)) hb)
          clear HO_8
          clear HO_158001
          clear BK154
          clear BK155
          clear BK156
          clear BK157
          clear HB
          have HO_8:=n0_
          have HO_158001:=n1_
          have BK154:=n2_
          have BK155:=n3_
          have BK156:=n4_
          have BK157:=n5_
          have HB:=n6_
          clear n0_ n1_ n2_ n3_ n4_ n5_ n6_
          (try clear hb)
          (try clear hb2)
          (try clear hk)
          (try clear hi)
          refine hK.out _ _ ⟨(blk_cell BK154.out 0).trans rfl,(blk_cell BK154.out 1).trans rfl,(blk_cell BK155.out 0).trans rfl,(blk_cell BK155.out 1).trans rfl,HS4_,HS5_⟩ (fun hHeld=>?_)
          clear hK K
          refine norm_ (a':=?_) ?_ ?_
          rotate_left
          ·show Act.put _ (some 45) _=_
           simp only [Act.put,List.setIfInBounds_toArray,List.set_cons_zero,List.set_cons_succ,i64_w,i32_w]
           rfl
          refine pure_ (i:=6) (N:=some 46) (v:=?_) (a':=?_) #[true,true,true,true,true,true,true,false,false,false,false,false,false,false,false] rfl rfl (any_of HT_.out (by kernel_rfl)) (fun _ _ _ h=>h) (Or.inl ⟨by rfl,?_⟩) ?_ ?_
          rotate_left
          ·intro w'
           go_simp
           with_reducible rfl
          rotate_left
          ·simp only [Act.put,List.setIfInBounds_toArray,List.set_cons_zero,List.set_cons_succ,i64_w,i32_w]
           rfl
          refine pure_ (i:=8) (N:=some 48) (v:=?_) (a':=?_) #[true,true,true,true,true,true,true,false,true,false,false,false,false,false,false] rfl rfl (any_of HT_.out (by kernel_rfl)) (fun _ _ _ h=>h) (Or.inl ⟨by rfl,?_⟩) ?_ ?_
          rotate_left
          ·intro w'
           go_simp
           with_reducible rfl
          rotate_left
          ·simp only [Act.put,List.setIfInBounds_toArray,List.set_cons_zero,List.set_cons_succ,i64_w,i32_w]
           rfl
          refine pure_ (i:=9) (N:=some 49) (v:=?_) (a':=?_) #[true,true,true,true,true,true,true,false,true,true,false,false,false,false,false] rfl rfl (any_of HT_.out (by kernel_rfl)) (fun _ _ _ h=>h) (Or.inl ⟨by rfl,?_⟩) ?_ ?_
          rotate_left
          ·intro w'
           go_simp
           with_reducible rfl
          rotate_left
          ·simp only [Act.put,List.setIfInBounds_toArray,List.set_cons_zero,List.set_cons_succ,i64_w,i32_w]
           rfl
          refine pure_ (i:=10) (N:=some 50) (v:=?_) (a':=?_) #[true,true,true,true,true,true,true,false,true,true,true,false,false,false,false] rfl rfl (any_of HT_.out (by kernel_rfl)) (fun _ _ _ h=>h) (Or.inl ⟨by rfl,?_⟩) ?_ ?_
          rotate_left
          ·intro w'
           go_simp
           with_reducible rfl
          rotate_left
          ·simp only [Act.put,List.setIfInBounds_toArray,List.set_cons_zero,List.set_cons_succ,i64_w,i32_w]
           rfl
          refine take_ (i:=7) (N:=some 47) (v:=?_) (a':=?_) #[true,true,true,true,true,true,true,true,true,true,true,false,false,false,false] rfl rfl (take_ofW HT_.out HW_.out (by kernel_rfl)) (fun _ _ _ h=>h) (Or.inl ⟨by rfl,?_⟩) hHeld ?_ ?_
          rotate_left
          ·rintro w' ⟨s0,s1,s2,s3,s4,s5⟩
           go_simp
           with_reducible rfl
          rotate_left
          ·simp only [Act.put,List.setIfInBounds_toArray,List.set_cons_zero,List.set_cons_succ,i64_w,i32_w]
           rfl
          refine take_ (i:=11) (N:=some 51) (v:=?_) (a':=?_) #[true,true,true,true,true,true,true,true,true,true,true,true,false,false,false] rfl rfl (take_ofW HT_.out HW_.out (by kernel_rfl)) (fun _ _ _ h=>h) (Or.inl ⟨by rfl,?_⟩) hHeld ?_ ?_
          rotate_left
          ·rintro w' ⟨s0,s1,s2,s3,s4,s5⟩
           go_simp
           with_reducible rfl
          rotate_left
          ·simp only [Act.put,List.setIfInBounds_toArray,List.set_cons_zero,List.set_cons_succ,i64_w,i32_w]
           rfl
          refine one_ (i:=12) (N:=some 52) #[true,true,true,true,true,true,true,true,true,true,true,true,true,false,false] rfl rfl (one_of HT_.out (by kernel_rfl)) (by decide) (fun K hK=>?_)
          refine goes_ Try.func42 (by kernel_rfl) rfl #[.agg #[.bool a1_0,.slice A1_1 l1_1.length c1_1],.string (rdOf ByteArray.empty y182 x9_1)] (by rfl) rfl rfl (by (try simp only [List.map_toArray,List.map_cons,List.map_nil]);first|done|rfl|(simp only [List.length_drop,List.length_take];rfl)) ?_
          with_reducible refine (cadenceref3_Has.calls k1 a1_0 _ _ l1_1 (rdOf ByteArray.empty y182 x9_1) t170 _ ?side1 ?side2 A89.out).mono ?_
          (case side1=>repeat (first|exact (Kd.C_below HR1_1.out HB.out)|(with_reducible refine cA_ ?_ _)|(with_reducible refine cN_ ?_ _)|(with_reducible refine cD_ ?_)))
          (case side2=>exact HC1_1.out)
          rintro e w92 ⟨rfl,hb⟩
          have HS4_:=(hb.cell (World.block_lt_of_cell? _ _ (hHeld.2.2.2.2.1))).trans (hHeld.2.2.2.2.1)
          have HS5_:=(hb.cell (World.block_lt_of_cell? _ _ (hHeld.2.2.2.2.2))).trans (hHeld.2.2.2.2.2)
          refine ⟨_,rfl,?_⟩
          have n0_:=Aside0.mk (Kd.R_below (by (with_reducible repeat (first|apply rA_|apply rN_|apply rD_));exact HO_8.out) hb)
          have n1_:=Aside0.mk (Kd.R_below (by (with_reducible repeat (first|apply rA_|apply rN_|apply rD_));exact HO_158001.out) hb)
          have n2_:=Aside0.mk (blk_below (g:=gb154) (o:=.cells #[.bool false,.slice A0_1 l0_1.length c0_1] 38 (0,0)) (by (with_reducible repeat (first|refine blk_drewN ?_ _|refine blk_drew ?_|refine blk_alloc ?_ _));exact BK154.out) hb)
          have n3_:=Aside0.mk (blk_below (g:=gb155) (o:=.cells #[.bool a1_0,.slice A1_1 l1_1.length c1_1] 38 (0,0)) (by (with_reducible repeat (first|refine blk_drewN ?_ _|refine blk_drew ?_|refine blk_alloc ?_ _));exact BK155.out) hb)
          have n4_:=Aside0.mk (blk_below (g:=gb156) (o:=.cells #[.bool false,.slice none 0 0] 38 (0,0)) (by (with_reducible repeat (first|refine blk_drewN ?_ _|refine blk_drew ?_|refine blk_alloc ?_ _));exact BK156.out) hb)
          have n5_:=Aside0.mk (blk_below (g:=gb157) (o:=.cells #[.bool false,u158001] 38 (0,0)) (by (with_reducible repeat (first|refine blk_drewN ?_ _|refine blk_drew ?_|refine blk_alloc ?_ _));exact BK157.out) hb)
          have n6_:=Aside0.mk (below_step (by repeat (first|(with_reducible first|exact HB.out|apply bA_|apply bN_|apply bD_|refine below_set ?_ GE154.out|refine below_set ?_ GE155.out|refine below_set ?_ GE156.out|refine below_set ?_ GE157.out)|exact HB.out)) hb)
          clear HO_8
          clear HO_158001
          clear BK154
          clear BK155
          clear BK156
          clear BK157
          clear HB
          have HO_8:=n0_
          have HO_158001:=n1_
          have BK154:=n2_
          have BK155:=n3_
          have BK156:=n4_
          have BK157:=n5_
          have HB:=n6_
          clear n0_ n1_ n2_ n3_ n4_ n5_ n6_
          (try clear hb)
          (try clear hb2)
          (try clear hk)
          (try clear hi)
          refine hK.out _ _ ⟨(blk_cell BK154.out 0).trans rfl,(blk_cell BK154.out 1).trans rfl,(blk_cell BK155.out 0).trans rfl,(blk_cell BK155.out 1).trans rfl,HS4_,HS5_⟩ (fun hHeld=>?_)
          clear hK K
          refine norm_ (a':=?_) ?_ ?_
          rotate_left
          ·show Act.put _ (some 52) _=_
           simp only [Act.put,List.setIfInBounds_toArray,List.set_cons_zero,List.set_cons_succ,i64_w,i32_w]
           rfl
          refine pure_ (i:=13) (N:=some 53) (v:=?_) (a':=?_) #[true,true,true,true,true,true,true,true,true,true,true,true,true,true,false] rfl rfl (any_of HT_.out (by kernel_rfl)) (fun _ _ _ h=>h) (Or.inl ⟨by rfl,?_⟩) ?_ ?_
          rotate_left
          ·intro w'
           go_simp
           with_reducible rfl
          rotate_left
          ·simp only [Act.put,List.setIfInBounds_toArray,List.set_cons_zero,List.set_cons_succ,i64_w,i32_w]
           rfl
          refine pure_ (i:=14) (N:=some 10) (v:=?_) (a':=?_) #[true,true,true,true,true,true,true,true,true,true,true,true,true,true,true] rfl rfl (any_of HT_.out (by kernel_rfl)) (fun _ _ _ h=>h) (Or.inl ⟨by rfl,?_⟩) ?_ ?_
          rotate_left
          ·intro w'
           go_simp
           with_reducible rfl
          rotate_left
          ·simp only [Act.put,List.setIfInBounds_toArray,List.set_cons_zero,List.set_cons_succ,i64_w,i32_w]
           rfl
          refine done_ (done_of HT_.out (by kernel_rfl)) ?_
          try go_wp2
          go_meet
          case rel=>exact ⟨_,(t170),(by first|rfl|(simp;done)|(simp [*];done)),H',⟨by have:=HK1.out;first|omega|exact Nat.le_refl _⟩,⟨by (with_reducible repeat (first|apply rA_|apply rN_|apply rD_));exact HO_8.out⟩,⟨by (with_reducible repeat (first|apply rA_|apply rN_|apply rD_));exact HO_158001.out⟩,⟨by (with_reducible repeat (first|refine blk_drewN ?_ _|refine blk_drew ?_|refine blk_alloc ?_ _));exact BK154.out⟩,⟨by (with_reducible repeat (first|refine blk_drewN ?_ _|refine blk_drew ?_|refine blk_alloc ?_ _));exact BK155.out⟩,⟨by (with_reducible repeat (first|refine blk_drewN ?_ _|refine blk_drew ?_|refine blk_alloc ?_ _));exact BK156.out⟩,⟨by (with_reducible repeat (first|refine blk_drewN ?_ _|refine blk_drew ?_|refine blk_alloc ?_ _));exact BK157.out⟩,⟨by repeat (first|(with_reducible first|exact HB.out|apply bA_|apply bN_|apply bD_|refine below_set ?_ GE154.out|refine below_set ?_ GE155.out|refine below_set ?_ GE156.out|refine below_set ?_ GE157.out)|exact HB.out)⟩⟩
         ·replace c88:=Bool.eq_false_iff.mpr c88
          subst c88
          have H1:(cadenceref3_pick.j1 k1 y182 x9_1 false false l0_1 a1_0 l1_1 false x158001_1)=some (r1,r2):=by rw [if_neg (show ¬ (false=true) by decide)] at H;exact H
          clear H
          have H:=H1
          clear H1
          have H':=Aside0.mk H
          clear H
          try go_wp2
          have n0_:=Aside0.mk (rD_ HO_8.out)
          have n1_:=Aside0.mk (rD_ HO_158001.out)
          have n2_:=Aside0.mk (blk_drew BK154.out)
          have n3_:=Aside0.mk (blk_drew BK155.out)
          have n4_:=Aside0.mk (blk_drew BK156.out)
          have n5_:=Aside0.mk (blk_drew BK157.out)
          have n6_:=Aside0.mk (bD_ HB.out)
          clear HO_8
          clear HO_158001
          clear BK154
          clear BK155
          clear BK156
          clear BK157
          clear HB
          have HO_8:=n0_
          have HO_158001:=n1_
          have BK154:=n2_
          have BK155:=n3_
          have BK156:=n4_
          have BK157:=n5_
          have HB:=n6_
          clear n0_ n1_ n2_ n3_ n4_ n5_ n6_
          have p167:0≤(x9_1:Int):=of_decide_eq_true (by first|(with_reducible assumption)|assumption)
          have q167:x9_1 < (y182.length:Int):=of_decide_eq_true (by first|(with_reducible assumption)|assumption)
          obtain ⟨ad167,e167,hx167_0⟩:=Kd.at_string (Kd.R_reads' HO_8.out).2.2 x9_1 p167 q167
          cases e167
          replace p167:=eq_true p167
          replace q167:=eq_true q167
          refine start_ (n:=15) (S:=fun w'=>w'.cell? ⟨gb154,0,none⟩=some (.bool false)∧w'.cell? ⟨gb154,1,none⟩=some (.slice A0_1 l0_1.length c0_1)∧w'.cell? (ad167.add (x9_1).toNat)=some (.string (rdOf ByteArray.empty y182 x9_1))) (ds:=[]) #[false,false,false,false,false,false,false,false,false,false,false,false,false,false,false] (by kernel_rfl) rfl rfl ⟨(blk_cell BK154.out 0).trans rfl,(blk_cell BK154.out 1).trans rfl,hx167_0⟩ (fun hHeld=>?_);refine with_tabW cadenceref3_pick.tab8 cadenceref3_pick.bits8 (fun HT_ HW_=>?_)
          generalize wr.drew=w93 at HO_8 HO_158001 BK154 BK155 BK156 BK157 HB hx167_0 hHeld ⊢
          refine pure_ (i:=1) (N:=some 41) (v:=?_) (a':=?_) #[false,true,false,false,false,false,false,false,false,false,false,false,false,false,false] rfl rfl (any_of HT_.out (by kernel_rfl)) (fun _ _ _ h=>h) (Or.inl ⟨by rfl,?_⟩) ?_ ?_
          rotate_left
          ·intro w'
           go_simp
           with_reducible rfl
          rotate_left
          ·simp only [Act.put,List.setIfInBounds_toArray,List.set_cons_zero,List.set_cons_succ,i64_w,i32_w]
           rfl
          refine pure_ (i:=2) (N:=some 42) (v:=?_) (a':=?_) #[false,true,true,false,false,false,false,false,false,false,false,false,false,false,false] rfl rfl (any_of HT_.out (by kernel_rfl)) (fun _ _ _ h=>h) (Or.inl ⟨by rfl,?_⟩) ?_ ?_
          rotate_left
          ·intro w'
           go_simp
           with_reducible rfl
          rotate_left
          ·simp only [Act.put,List.setIfInBounds_toArray,List.set_cons_zero,List.set_cons_succ,i64_w,i32_w]
           rfl
          refine pure_ (i:=3) (N:=some 43) (v:=?_) (a':=?_) #[false,true,true,true,false,false,false,false,false,false,false,false,false,false,false] rfl rfl (any_of HT_.out (by kernel_rfl)) (fun _ _ _ h=>h) (Or.inl ⟨by rfl,?_⟩) ?_ ?_
          rotate_left
          ·intro w'
           go_simp
           with_reducible rfl
          rotate_left
          ·simp only [Act.put,List.setIfInBounds_toArray,List.set_cons_zero,List.set_cons_succ,i64_w,i32_w]
           rfl
          refine take_ (i:=0) (N:=some 40) (v:=?_) (a':=?_) #[true,true,true,true,false,false,false,false,false,false,false,false,false,false,false] rfl rfl (take_ofW HT_.out HW_.out (by kernel_rfl)) (fun _ _ _ h=>h) (Or.inl ⟨by rfl,?_⟩) hHeld ?_ ?_
          rotate_left
          ·rintro w' ⟨s0,s1,s2⟩
           go_simp
           with_reducible rfl
          rotate_left
          ·simp only [Act.put,List.setIfInBounds_toArray,List.set_cons_zero,List.set_cons_succ,i64_w,i32_w]
           rfl
          refine take_ (i:=4) (N:=some 44) (v:=?_) (a':=?_) #[true,true,true,true,true,false,false,false,false,false,false,false,false,false,false] rfl rfl (take_ofW HT_.out HW_.out (by kernel_rfl)) (fun _ _ _ h=>h) (Or.inl ⟨by rfl,?_⟩) hHeld ?_ ?_
          rotate_left
          ·rintro w' ⟨s0,s1,s2⟩
           go_simp
           with_reducible rfl
          rotate_left
          ·simp only [Act.put,List.setIfInBounds_toArray,List.set_cons_zero,List.set_cons_succ,i64_w,i32_w]
           rfl
          refine one_ (i:=5) (N:=some 45) #[true,true,true,true,true,true,false,false,false,false,false,false,false,false,false] rfl rfl (one_of HT_.out (by kernel_rfl)) (by decide) (fun K hK=>?_)
          refine goes_ Try.func42 (by kernel_rfl) rfl #[.agg #[.bool false,.slice A0_1 l0_1.length c0_1],.string (rdOf ByteArray.empty y182 x9_1)] (by rfl) rfl rfl (by (try simp only [List.map_toArray,List.map_cons,List.map_nil]);first|done|rfl|(simp only [List.length_drop,List.length_take];rfl)) ?_
          with_reducible refine (cadenceref3_Has.calls k1 false _ _ l0_1 (rdOf ByteArray.empty y182 x9_1) false _ ?side1 ?side2 A87.out).mono ?_
          (case side1=>repeat (first|exact (Kd.C_below HR0_1.out HB.out)|(with_reducible refine cA_ ?_ _)|(with_reducible refine cN_ ?_ _)|(with_reducible refine cD_ ?_)))
          (case side2=>exact HC0_1.out)
          rintro e w94 ⟨rfl,hb⟩
          have HS2_:=(hb.cell (World.block_lt_of_cell? _ _ (hHeld.2.2))).trans (hHeld.2.2)
          refine ⟨_,rfl,?_⟩
          have n0_:=Aside0.mk (Kd.R_below (by (with_reducible repeat (first|apply rA_|apply rN_|apply rD_));exact HO_8.out) hb)
          have n1_:=Aside0.mk (Kd.R_below (by (with_reducible repeat (first|apply rA_|apply rN_|apply rD_));exact HO_158001.out) hb)
          have n2_:=Aside0.mk (blk_below (g:=gb154) (o:=.cells #[.bool false,.slice A0_1 l0_1.length c0_1] 38 (0,0)) (by (with_reducible repeat (first|refine blk_drewN ?_ _|refine blk_drew ?_|refine blk_alloc ?_ _));exact BK154.out) hb)
          have n3_:=Aside0.mk (blk_below (g:=gb155) (o:=.cells #[.bool a1_0,.slice A1_1 l1_1.length c1_1] 38 (0,0)) (by (with_reducible repeat (first|refine blk_drewN ?_ _|refine blk_drew ?_|refine blk_alloc ?_ _));exact BK155.out) hb)
          have n4_:=Aside0.mk (blk_below (g:=gb156) (o:=.cells #[.bool false,.slice none 0 0] 38 (0,0)) (by (with_reducible repeat (first|refine blk_drewN ?_ _|refine blk_drew ?_|refine blk_alloc ?_ _));exact BK156.out) hb)
          have n5_:=Aside0.mk (blk_below (g:=gb157) (o:=.cells #[.bool false,u158001] 38 (0,0)) (by (with_reducible repeat (first|refine blk_drewN ?_ _|refine blk_drew ?_|refine blk_alloc ?_ _));exact BK157.out) hb)
          have n6_:=Aside0.mk (below_step (by repeat (first|(with_reducible first|exact HB.out|apply bA_|apply bN_|apply bD_|refine below_set ?_ GE154.out|refine below_set ?_ GE155.out|refine below_set ?_ GE156.out|refine below_set ?_ GE157.out)|exact HB.out)) hb)
          clear HO_8
          clear HO_158001
          clear BK154
          clear BK155
          clear BK156
          clear BK157
          clear HB
          have HO_8:=n0_
          have HO_158001:=n1_
          have BK154:=n2_
          have BK155:=n3_
          have BK156:=n4_
          have BK157:=n5_
          have HB:=n6_
          clear n0_ n1_ n2_ n3_ n4_ n5_ n6_
          (try clear hb)
          (try clear hb2)
          (try clear hk)
          (try clear hi)
          refine hK.out _ _ ⟨(blk_cell BK154.out 0).trans rfl,(blk_cell BK154.out 1).trans rfl,HS2_⟩ (fun hHeld=>?_)
          clear hK K
          refine norm_ (a':=?_) ?_ ?_
          rotate_left
          ·show Act.put _ (some 45) _=_
           simp only [Act.put,List.setIfInBounds_toArray,List.set_cons_zero,List.set_cons_succ,i64_w,i32_w]
           rfl
          refine pure_ (i:=6) (N:=some 46) (v:=?_) (a':=?_) #[true,true,true,true,true,true,true,false,false,false,false,false,false,false,false] rfl rfl (any_of HT_.out (by kernel_rfl)) (fun _ _ _ h=>h) (Or.inl ⟨by rfl,?_⟩) ?_ ?_
          rotate_left
          ·intro w'
           go_simp
           with_reducible rfl
          rotate_left
          ·simp only [Act.put,List.setIfInBounds_toArray,List.set_cons_zero,List.set_cons_succ,i64_w,i32_w]
           rfl
          refine pure_ (i:=7) (N:=some 47) (v:=undef) (a':=?_) #[true,true,true,true,true,true,true,true,false,false,false,false,false,false,false] rfl rfl (any_of HT_.out (by kernel_rfl)) (fun _ _ _ h=>h) (Or.inr ⟨by rfl,rfl⟩) ?_ ?_
          rotate_left
          ·simp only [Act.put,List.setIfInBounds_toArray,List.set_cons_zero,List.set_cons_succ,i64_w,i32_w]
           rfl
          refine pure_ (i:=8) (N:=some 48) (v:=undef) (a':=?_) #[true,true,true,true,true,true,true,true,true,false,false,false,false,false,false] rfl rfl (any_of HT_.out (by kernel_rfl)) (fun _ _ _ h=>h) (Or.inr ⟨by rfl,rfl⟩) ?_ ?_
          rotate_left
          ·simp only [Act.put,List.setIfInBounds_toArray,List.set_cons_zero,List.set_cons_succ,i64_w,i32_w]
           rfl
          refine pure_ (i:=9) (N:=some 49) (v:=undef) (a':=?_) #[true,true,true,true,true,true,true,true,true,true,false,false,false,false,false] rfl rfl (any_of HT_.out (by kernel_rfl)) (fun _ _ _ h=>h) (Or.inr ⟨by rfl,rfl⟩) ?_ ?_
          rotate_left
          ·simp only [Act.put,List.setIfInBounds_toArray,List.set_cons_zero,List.set_cons_succ,i64_w,i32_w]
           rfl
          refine pure_ (i:=10) (N:=some 50) (v:=undef) (a':=?_) #[true,true,true,true,true,true,true,true,true,true,true,false,false,false,false] rfl rfl (any_of HT_.out (by kernel_rfl)) (fun _ _ _ h=>h) (Or.inr ⟨by rfl,rfl⟩) ?_ ?_
          rotate_left
          ·simp only [Act.put,List.setIfInBounds_toArray,List.set_cons_zero,List.set_cons_succ,i64_w,i32_w]
           rfl
          refine pure_ (i:=11) (N:=some 51) (v:=undef) (a':=?_) #[true,true,true,true,true,true,true,true,true,true,true,true,false,false,false] rfl rfl (any_of HT_.out (by kernel_rfl)) (fun _ _ _ h=>h) (Or.inr ⟨by rfl,rfl⟩) ?_ ?_
          rotate_left
          ·simp only [Act.put,List.setIfInBounds_toArray,List.set_cons_zero,List.set_cons_succ,i64_w,i32_w]
           rfl
          refine pure_ (i:=12) (N:=some 52) (v:=undef) (a':=?_) #[true,true,true,true,true,true,true,true,true,true,true,true,true,false,false] rfl rfl (any_of HT_.out (by kernel_rfl)) (fun _ _ _ h=>h) (Or.inr ⟨by rfl,rfl⟩) ?_ ?_
          rotate_left
          ·simp only [Act.put,List.setIfInBounds_toArray,List.set_cons_zero,List.set_cons_succ,i64_w,i32_w]
           rfl
          refine pure_ (i:=13) (N:=some 53) (v:=?_) (a':=?_) #[true,true,true,true,true,true,true,true,true,true,true,true,true,true,false] rfl rfl (any_of HT_.out (by kernel_rfl)) (fun _ _ _ h=>h) (Or.inl ⟨by rfl,?_⟩) ?_ ?_
          rotate_left
          ·intro w'
           go_simp
           with_reducible rfl
          rotate_left
          ·simp only [Act.put,List.setIfInBounds_toArray,List.set_cons_zero,List.set_cons_succ,i64_w,i32_w]
           rfl
          refine pure_ (i:=14) (N:=some 10) (v:=?_) (a':=?_) #[true,true,true,true,true,true,true,true,true,true,true,true,true,true,true] rfl rfl (any_of HT_.out (by kernel_rfl)) (fun _ _ _ h=>h) (Or.inl ⟨by rfl,?_⟩) ?_ ?_
          rotate_left
          ·intro w'
           go_simp
           with_reducible rfl
          rotate_left
          ·simp only [Act.put,List.setIfInBounds_toArray,List.set_cons_zero,List.set_cons_succ,i64_w,i32_w]
           rfl
          refine done_ (done_of HT_.out (by kernel_rfl)) ?_
          try go_wp2
          go_meet
          case rel=>exact ⟨_,(false),(by first|rfl|(simp;done)|(simp [*];done)),H',⟨by have:=HK1.out;first|omega|exact Nat.le_refl _⟩,⟨by (with_reducible repeat (first|apply rA_|apply rN_|apply rD_));exact HO_8.out⟩,⟨by (with_reducible repeat (first|apply rA_|apply rN_|apply rD_));exact HO_158001.out⟩,⟨by (with_reducible repeat (first|refine blk_drewN ?_ _|refine blk_drew ?_|refine blk_alloc ?_ _));exact BK154.out⟩,⟨by (with_reducible repeat (first|refine blk_drewN ?_ _|refine blk_drew ?_|refine blk_alloc ?_ _));exact BK155.out⟩,⟨by (with_reducible repeat (first|refine blk_drewN ?_ _|refine blk_drew ?_|refine blk_alloc ?_ _));exact BK156.out⟩,⟨by (with_reducible repeat (first|refine blk_drewN ?_ _|refine blk_drew ?_|refine blk_alloc ?_ _));exact BK157.out⟩,⟨by repeat (first|(with_reducible first|exact HB.out|apply bA_|apply bN_|apply bD_|refine below_set ?_ GE154.out|refine below_set ?_ GE155.out|refine below_set ?_ GE156.out|refine below_set ?_ GE157.out)|exact HB.out)⟩⟩
        ·rw [if_neg c86] at H
         exact absurd H (by simp)
       case rest =>
        clear HC84
        try clear c1
        try clear p1
        try clear q1
        try clear hx1
        try clear c2
        try clear p2
        try clear c3
        try clear c4
        try clear c5
        try clear c6
        try clear p6
        try clear c7
        try clear c8
        try clear c10
        try clear c11
        try clear c13
        try clear c16
        try clear p16
        try clear q16
        try clear hx16
        try clear c17
        try clear p17
        try clear q17
        try clear hx17
        try clear c18
        try clear c26
        try clear c26b0
        try clear c29
        try clear c29b0
        try clear c31
        try clear c38
        try clear c38b0
        try clear c38b1
        try clear c38b2
        try clear c39
        try clear c39b0
        try clear c40
        try clear c40b0
        try clear c42
        try clear c43
        try clear c44
        try clear c45
        try clear c51
        try clear c52
        try clear c53
        try clear c56
        try clear c57
        try clear c58
        try clear c60
        try clear c61
        try clear c64
        try clear p64
        try clear c65
        try clear c69
        try clear c70
        try clear c73
        try clear c74
        try clear c75
        try clear c83
        try clear c83b0
        try clear c86
        try clear c86b0
        try clear c88
        try clear hcz12_0
        try clear hcz12_1
        try clear hcz14_0
        try clear hcz14_1
        try clear hcz19_0
        try clear hcz19_1
        try clear hcz45_0
        try clear hcz45_1
        try clear hcz54_0
        try clear hcz54_1
        try clear hcz59_0
        try clear hcz59_1
        try clear hcz62_0
        try clear hcz62_1
        try clear hcz71_0
        try clear hcz71_1
        try clear hcz76_0
        try clear hcz76_1
        try clear hfz12_0
        try clear hfz12_1
        try clear hfz14_0
        try clear hfz14_1
        try clear hfz19_0
        try clear hfz19_1
        try clear hfz45_0
        try clear hfz45_1
        try clear hfz54_0
        try clear hfz54_1
        try clear hfz59_0
        try clear hfz59_1
        try clear hfz62_0
        try clear hfz62_1
        try clear hfz71_0
        try clear hfz71_1
        try clear hfz76_0
        try clear hfz76_1
        try clear hx167_0
        try clear hx169_0
        try clear hx171_0
        try clear p1
        try clear p16
        try clear p167
        try clear p169
        try clear p17
        try clear p171
        try clear p2
        try clear p6
        try clear p64
        try clear q1
        try clear q16
        try clear q167
        try clear q169
        try clear q17
        try clear q171
        obtain ⟨kq,x10_83,rfl,HA,HJ83,HO_8,HO_158001,BK154,BK155,BK156,BK157,HB⟩:=hcut
        cases kq with
        | zero=>exact absurd HA.out (by simp [cadenceref3_pick.j1])
        | succ kj83 =>
         have H:=HA.out
         clear HA
         simp only [cadenceref3_pick.j1] at H
         by_cases c95:(x10_83 != false)=true
         ·rw [if_pos c95] at H
          have c95b0:(x10_83 != false)=true:=c95
          (try (have c95b1:decide (x10_83=false)=false:=by simpa using c95))
          (try (have c95b2:(x10_83 == false)=false:=by simpa using c95))
          (try (have c95b3:¬ (x10_83=false):=by simpa using c95))
          clear c95
          by_cases c96:0≤x9_1
          ·rw [if_pos c96] at H
           have c96b0:decide (0≤x9_1)=true:=decide_eq_true c96
           clear c96
           by_cases c97:x9_1 < (y182.length:Int)
           ·rw [if_pos c97] at H
            have c97b0:decide (x9_1 < (y182.length:Int))=true:=decide_eq_true c97
            clear c97
            replace H:=Option.bind_eq_some_iff.mp H
            obtain ⟨t172,A980,H⟩:=H
            replace H:(cadenceref3_pick.l0 kj83 y182 (wrap64 (x9_1+1)) false l0_1 a1_0 l1_1 false t172)=some (r1,r2):=H
            have A98:=Aside0.mk A980
            clear A980
            have H':=Aside0.mk H
            clear H
            have hnb99:=NB157_154.out
            have hnc99:=NB154_157.out
            have hnb100:=NB157_155.out
            have hnc100:=NB155_157.out
            have hnb101:=NB157_156.out
            have hnc101:=NB156_157.out
            have hcz102_0:wc.cell? ⟨gb157,0,none⟩=some (.bool false):=(blk_cell BK157.out 0).trans rfl
            have hcz102_1:wc.cell? ⟨gb157,1,none⟩=some (u158001):=(blk_cell BK157.out 1).trans rfl
            have hfz102_0:=blk_frozen BK157.out 0
            have hfz102_1:=blk_frozen BK157.out 1
            try go_wp2
            have n0_:=Aside0.mk (rD_ HO_8.out)
            have n1_:=Aside0.mk (rD_ HO_158001.out)
            have n2_:=Aside0.mk (blk_drew BK154.out)
            have n3_:=Aside0.mk (blk_drew BK155.out)
            have n4_:=Aside0.mk (blk_drew BK156.out)
            have n5_:=Aside0.mk (blk_drew BK157.out)
            have n6_:=Aside0.mk (bD_ HB.out)
            clear HO_8
            clear HO_158001
            clear BK154
            clear BK155
            clear BK156
            clear BK157
            clear HB
            have HO_8:=n0_
            have HO_158001:=n1_
            have BK154:=n2_
            have BK155:=n3_
            have BK156:=n4_
            have BK157:=n5_
            have HB:=n6_
            clear n0_ n1_ n2_ n3_ n4_ n5_ n6_
            have p171:0≤(x9_1:Int):=of_decide_eq_true (by first|(with_reducible assumption)|assumption)
            have q171:x9_1 < (y182.length:Int):=of_decide_eq_true (by first|(with_reducible assumption)|assumption)
            obtain ⟨ad171,e171,hx171_0⟩:=Kd.at_string (Kd.R_reads' HO_8.out).2.2 x9_1 p171 q171
            cases e171
            replace p171:=eq_true p171
            replace q171:=eq_true q171
            obtain ⟨Ao104,co104,eo104⟩:=Kd.R_slice HO_158001.out
            (first|subst eo104|(injection eo104 with f1_ f2_ f3_;have f4_:=f1_.symm;have f5_:=f3_.symm;clear f1_ f2_ f3_;subst f4_;subst f5_))
            refine start_ (n:=9) (S:=fun w'=>w'.cell? ⟨gb157,0,none⟩=some (.bool false)∧w'.cell? ⟨gb157,1,none⟩=some (.slice Ao104 x158001_1.length co104)∧w'.cell? (ad171.add (x9_1).toNat)=some (.string (rdOf ByteArray.empty y182 x9_1))) (ds:=[8]) #[false,false,false,false,false,false,false,false,false] (by kernel_rfl) rfl rfl ⟨(blk_cell BK157.out 0).trans rfl,(blk_cell BK157.out 1).trans rfl,hx171_0⟩ (fun hHeld=>?_);refine with_tabW cadenceref3_pick.tab12 cadenceref3_pick.bits12 (fun HT_ HW_=>?_)
            generalize wc.drew=w103 at HO_8 HO_158001 BK154 BK155 BK156 BK157 HB hx171_0 hHeld ⊢
            refine pure_ (i:=0) (N:=some 74) (v:=?_) (a':=?_) #[true,false,false,false,false,false,false,false,false] rfl rfl (any_of HT_.out (by kernel_rfl)) (fun _ _ _ h=>h) (Or.inl ⟨by rfl,?_⟩) ?_ ?_
            rotate_left
            ·intro w'
             go_simp
             with_reducible rfl
            rotate_left
            ·simp only [Act.put,List.setIfInBounds_toArray,List.set_cons_zero,List.set_cons_succ,i64_w,i32_w]
             rfl
            refine pure_ (i:=2) (N:=some 76) (v:=?_) (a':=?_) #[true,false,true,false,false,false,false,false,false] rfl rfl (any_of HT_.out (by kernel_rfl)) (fun _ _ _ h=>h) (Or.inl ⟨by rfl,?_⟩) ?_ ?_
            rotate_left
            ·intro w'
             go_simp
             with_reducible rfl
            rotate_left
            ·simp only [Act.put,List.setIfInBounds_toArray,List.set_cons_zero,List.set_cons_succ,i64_w,i32_w]
             rfl
            refine pure_ (i:=3) (N:=some 77) (v:=?_) (a':=?_) #[true,false,true,true,false,false,false,false,false] rfl rfl (any_of HT_.out (by kernel_rfl)) (fun _ _ _ h=>h) (Or.inl ⟨by rfl,?_⟩) ?_ ?_
            rotate_left
            ·intro w'
             go_simp
             with_reducible rfl
            rotate_left
            ·simp only [Act.put,List.setIfInBounds_toArray,List.set_cons_zero,List.set_cons_succ,i64_w,i32_w]
             rfl
            refine pure_ (i:=4) (N:=some 78) (v:=?_) (a':=?_) #[true,false,true,true,true,false,false,false,false] rfl rfl (any_of HT_.out (by kernel_rfl)) (fun _ _ _ h=>h) (Or.inl ⟨by rfl,?_⟩) ?_ ?_
            rotate_left
            ·intro w'
             go_simp
             with_reducible rfl
            rotate_left
            ·simp only [Act.put,List.setIfInBounds_toArray,List.set_cons_zero,List.set_cons_succ,i64_w,i32_w]
             rfl
            refine take_ (i:=1) (N:=some 75) (v:=?_) (a':=?_) #[true,true,true,true,true,false,false,false,false] rfl rfl (take_ofW HT_.out HW_.out (by kernel_rfl)) (fun _ _ _ h=>h) (Or.inl ⟨by rfl,?_⟩) hHeld ?_ ?_
            rotate_left
            ·rintro w' ⟨s0,s1,s2⟩
             go_simp
             with_reducible rfl
            rotate_left
            ·simp only [Act.put,List.setIfInBounds_toArray,List.set_cons_zero,List.set_cons_succ,i64_w,i32_w]
             rfl
            refine take_ (i:=5) (N:=some 79) (v:=?_) (a':=?_) #[true,true,true,true,true,true,false,false,false] rfl rfl (take_ofW HT_.out HW_.out (by kernel_rfl)) (fun _ _ _ h=>h) (Or.inl ⟨by rfl,?_⟩) hHeld ?_ ?_
            rotate_left
            ·rintro w' ⟨s0,s1,s2⟩
             go_simp
             with_reducible rfl
            rotate_left
            ·simp only [Act.put,List.setIfInBounds_toArray,List.set_cons_zero,List.set_cons_succ,i64_w,i32_w]
             rfl
            refine one_ (i:=6) (N:=some 80) #[true,true,true,true,true,true,true,false,false] rfl rfl (one_of HT_.out (by kernel_rfl)) (by decide) (fun K hK=>?_)
            refine goes_ Try.func45 (by kernel_rfl) rfl #[.slice Ao104 x158001_1.length co104,.string (rdOf ByteArray.empty y182 x9_1)] (by rfl) rfl rfl (by (try simp only [List.map_toArray,List.map_cons,List.map_nil]);first|done|rfl|(simp only [List.length_drop,List.length_take];rfl)) ?_
            with_reducible refine (cadenceref3_put.calls kj83 (fun k_=>some k_=(.slice Ao104 x158001_1.length co104:Value).ownBlock) (.slice Ao104 x158001_1.length co104) x158001_1 (rdOf ByteArray.empty y182 x9_1) t172 w _ ?side1 ?side2 A98.out).mono ?_
            (case side1=>repeat (first|(with_reducible first|exact HB.out|apply bA_|apply bN_|apply bD_|refine below_set ?_ GE154.out|refine below_set ?_ GE155.out|refine below_set ?_ GE156.out|refine below_set ?_ GE157.out)|exact HB.out))
            (case side2=>exact Kd.R_tight rfl HO_158001.out)
            rintro e w105 ⟨v173,rfl,ho0,hb,hkp⟩
            have HS2_:=cell_kept (hHeld.2.2) hkp (by first|(rw [add_block];exact (fun hs_=>(((HO_8.out).1 _ rfl)) hs_))|(show ¬ _;simp only [add_block];exact (fun hs_=>(((HO_8.out).1 _ rfl)) hs_))|exact (fun hs_=>(((HO_8.out).1 _ rfl)) hs_))
            refine ⟨_,rfl,?_⟩
            have n0_:=Aside0.mk (Kd.R_mono (ok':=fun k_=>some k_≠(v173:Value).ownBlock) (Kd.R_keptB (HO_8.out) hkp (fun k_ hk_ hs_=>(hk_) hs_)) (fun k_ hk_=>fun e_=>Or.elim (ho0.1 k_ e_.symm) (fun hs_=>hk_.2.1 hs_) (fun hn_=>Nat.not_le.2 hk_.2.2 hn_)))
            have n1_:=Aside0.mk (blk_kept (by (with_reducible repeat (first|refine blk_drewN ?_ _|refine blk_drew ?_|refine blk_alloc ?_ _));exact BK154.out) hkp (fun hs_=>(fun e_=>(Kd.R_ne HO_158001.out BK154.out (by decide)) e_) hs_))
            have n2_:=Aside0.mk (blk_kept (by (with_reducible repeat (first|refine blk_drewN ?_ _|refine blk_drew ?_|refine blk_alloc ?_ _));exact BK155.out) hkp (fun hs_=>(fun e_=>(Kd.R_ne HO_158001.out BK155.out (by decide)) e_) hs_))
            have n3_:=Aside0.mk (blk_kept (by (with_reducible repeat (first|refine blk_drewN ?_ _|refine blk_drew ?_|refine blk_alloc ?_ _));exact BK156.out) hkp (fun hs_=>(fun e_=>(Kd.R_ne HO_158001.out BK156.out (by decide)) e_) hs_))
            have n4_:=Aside0.mk (blk_kept (by (with_reducible repeat (first|refine blk_drewN ?_ _|refine blk_drew ?_|refine blk_alloc ?_ _));exact BK157.out) hkp (fun hs_=>(fun e_=>(Kd.R_ne HO_158001.out BK157.out (by decide)) e_) hs_))
            have n5_:=Aside0.mk (Kd.R_mono (ok':=fun k_=>some k_≠(.slice (some ad171) y182.length co85:Value).ownBlock) ho0 (fun k_ hk_=>Or.elim hk_ (fun hs_=>fun e_=>(((HO_8.out).1 k_ e_.symm)) hs_) (fun hn_=>(Kd.fresh' (Kd.R_lt (by (with_reducible repeat (first|apply rA_|apply rN_|apply rD_));exact HO_8.out)) k_ hn_))))
            have n6_:=Aside0.mk (hb)
            clear HO_8
            clear BK154
            clear BK155
            clear BK156
            clear BK157
            clear HB
            clear HO_158001
            have HO_8:=n0_
            have BK154:=n1_
            have BK155:=n2_
            have BK156:=n3_
            have BK157:=n4_
            have HO174:=n5_
            have HB:=n6_
            clear n0_ n1_ n2_ n3_ n4_ n5_ n6_
            (try clear hb)
            (try clear hkp)
            (try clear ho0)
            obtain ⟨Ao106,co106,eo106⟩:=Kd.R_slice HO174.out
            (first|subst eo106|(injection eo106 with f1_ f2_ f3_;have f4_:=f1_.symm;have f5_:=f3_.symm;clear f1_ f2_ f3_;subst f4_;subst f5_))
            refine hK.out _ _ ⟨(blk_cell BK157.out 0).trans rfl,(blk_cell BK157.out 1).trans rfl,HS2_⟩ (fun hHeld=>?_)
            clear hK K
            refine norm_ (a':=?_) ?_ ?_
            rotate_left
            ·show Act.put _ (some 80) _=_
             simp only [Act.put,List.setIfInBounds_toArray,List.set_cons_zero,List.set_cons_succ,i64_w,i32_w]
             rfl
            refine pure_ (i:=7) (N:=some 81) (v:=?_) (a':=?_) #[true,true,true,true,true,true,true,true,false] rfl rfl (any_of HT_.out (by kernel_rfl)) (fun _ _ _ h=>h) (Or.inl ⟨by rfl,?_⟩) ?_ ?_
            rotate_left
            ·intro w'
             go_simp
             with_reducible rfl
            rotate_left
            ·simp only [Act.put,List.setIfInBounds_toArray,List.set_cons_zero,List.set_cons_succ,i64_w,i32_w]
             rfl
            refine last_ (i:=8) (N:=none) #[true,true,true,true,true,true,true,true,true] rfl rfl (one_of HT_.out (by kernel_rfl)) (by decide) (fun K hK=>?_)
            have hs107:w105.cell? ⟨gb157,1,none⟩=some (.slice Ao104 x158001_1.length co104):=(blk_cell BK157.out 1).trans rfl
            have hfs107:=blk_frozen BK157.out 1
            have hns107_0:=NB154_157.out
            have hns107_1:=NB155_157.out
            have hns107_2:=NB156_157.out
            have hms107_0:=NB157_154.out
            have hms107_1:=NB157_155.out
            have hms107_2:=NB157_156.out
            refine skip_ (w1:=?_) (by rfl) rfl ?_ ?_
            rotate_left
            ·go_simp
             rfl
            refine hK.out _ _ ?_
            clear hK K
            refine done_ (done_of HT_.out (by kernel_rfl)) ?_
            try go_wp2
            go_roundg kj83
            case measure=>have:=HK1.out;have:=HJ83.out;omega
            case rel=>exact ⟨(wrap64 (x9_1+1)),(t172),(.slice Ao106 t172.length co106),(by first|rfl|(simp;done)|(simp [*];done)),H',⟨by have:=HK1.out;have:=HJ83.out;omega⟩,⟨by (with_reducible repeat (first|apply rA_|apply rN_|apply rD_));exact Kd.R_mono (Kd.R_far (p:=⟨gb157,1,none⟩) (Kd.R_types HO_8.out BK157.out (by decide)) (fun _ hk=>hk.2) (.slice Ao106 t172.length co106)) (fun _ hk=>hk.1)⟩,⟨by (with_reducible repeat (first|apply rA_|apply rN_|apply rD_));exact Kd.R_mono (Kd.R_far (p:=⟨gb157,1,none⟩) (Kd.R_types HO174.out BK157.out (by decide)) (fun _ hk=>hk.2) (.slice Ao106 t172.length co106)) (fun _ hk=>hk.1)⟩,⟨by (with_reducible repeat (first|refine blk_drewN ?_ _|refine blk_drew ?_|refine blk_alloc ?_ _));refine blk_far ?_ NB154_157.out _;(with_reducible repeat (first|refine blk_drewN ?_ _|refine blk_drew ?_|refine blk_alloc ?_ _));exact BK154.out⟩,⟨by (with_reducible repeat (first|refine blk_drewN ?_ _|refine blk_drew ?_|refine blk_alloc ?_ _));refine blk_far ?_ NB155_157.out _;(with_reducible repeat (first|refine blk_drewN ?_ _|refine blk_drew ?_|refine blk_alloc ?_ _));exact BK155.out⟩,⟨by (with_reducible repeat (first|refine blk_drewN ?_ _|refine blk_drew ?_|refine blk_alloc ?_ _));refine blk_far ?_ NB156_157.out _;(with_reducible repeat (first|refine blk_drewN ?_ _|refine blk_drew ?_|refine blk_alloc ?_ _));exact BK156.out⟩,⟨by (with_reducible repeat (first|refine blk_drewN ?_ _|refine blk_drew ?_|refine blk_alloc ?_ _));refine blk_put (cs:=#[.bool false,.slice Ao104 x158001_1.length co104]) ?_ 1 _ rfl;(with_reducible repeat (first|refine blk_drewN ?_ _|refine blk_drew ?_|refine blk_alloc ?_ _));exact BK157.out⟩,⟨by repeat (first|(with_reducible first|exact HB.out|apply bA_|apply bN_|apply bD_|refine below_set ?_ GE154.out|refine below_set ?_ GE155.out|refine below_set ?_ GE156.out|refine below_set ?_ GE157.out)|exact HB.out)⟩⟩
           ·rw [if_neg c97] at H
            exact absurd H (by simp)
          ·rw [if_neg c96] at H
           exact absurd H (by simp)
         ·rw [if_neg c95] at H
          have c95b0:(x10_83 != false)=false:=by simpa using c95
          (try (have c95b1:decide (x10_83=false)=true:=by simpa using c95))
          (try (have c95b2:(x10_83 == false)=true:=by simpa using c95))
          clear c95
          have H':=Aside0.mk H
          clear H
          have hnb108:=NB157_154.out
          have hnc108:=NB154_157.out
          have hnb109:=NB157_155.out
          have hnc109:=NB155_157.out
          have hnb110:=NB157_156.out
          have hnc110:=NB156_157.out
          have hcz111_0:wc.cell? ⟨gb157,0,none⟩=some (.bool false):=(blk_cell BK157.out 0).trans rfl
          have hcz111_1:wc.cell? ⟨gb157,1,none⟩=some (u158001):=(blk_cell BK157.out 1).trans rfl
          have hfz111_0:=blk_frozen BK157.out 0
          have hfz111_1:=blk_frozen BK157.out 1
          go_wp2
          go_roundg kj83
          case measure=>have:=HK1.out;have:=HJ83.out;omega
          case rel=>exact ⟨(wrap64 (x9_1+1)),(x158001_1),(u158001),(by first|rfl|(simp;done)|(simp [*];done)),H',⟨by have:=HK1.out;have:=HJ83.out;omega⟩,⟨by (with_reducible repeat (first|apply rA_|apply rN_|apply rD_));exact HO_8.out⟩,⟨by (with_reducible repeat (first|apply rA_|apply rN_|apply rD_));exact HO_158001.out⟩,⟨by (with_reducible repeat (first|refine blk_drewN ?_ _|refine blk_drew ?_|refine blk_alloc ?_ _));exact BK154.out⟩,⟨by (with_reducible repeat (first|refine blk_drewN ?_ _|refine blk_drew ?_|refine blk_alloc ?_ _));exact BK155.out⟩,⟨by (with_reducible repeat (first|refine blk_drewN ?_ _|refine blk_drew ?_|refine blk_alloc ?_ _));exact BK156.out⟩,⟨by (with_reducible repeat (first|refine blk_drewN ?_ _|refine blk_drew ?_|refine blk_alloc ?_ _));exact BK157.out⟩,⟨by repeat (first|(with_reducible first|exact HB.out|apply bA_|apply bN_|apply bD_|refine below_set ?_ GE154.out|refine below_set ?_ GE155.out|refine below_set ?_ GE156.out|refine below_set ?_ GE157.out)|exact HB.out)⟩⟩
      ·rw [if_neg c83] at H
       have c83b0:decide (x9_1 < (y182.length:Int))=false:=decide_eq_false c83
       clear c83
       simp only [Option.some.injEq,Prod.mk.injEq] at H
       obtain ⟨rfl,rfl⟩:=H
       obtain ⟨Ao112,co112,eo112⟩:=Kd.R_slice HO_8.out
       subst eo112
       have hnb113:=NB157_154.out
       have hnc113:=NB154_157.out
       have hnb114:=NB157_155.out
       have hnc114:=NB155_157.out
       have hnb115:=NB157_156.out
       have hnc115:=NB156_157.out
       have hcz116_0:wr.cell? ⟨gb157,0,none⟩=some (.bool false):=(blk_cell BK157.out 0).trans rfl
       have hcz116_1:wr.cell? ⟨gb157,1,none⟩=some (u158001):=(blk_cell BK157.out 1).trans rfl
       have hfz116_0:=blk_frozen BK157.out 0
       have hfz116_1:=blk_frozen BK157.out 1
       have hnb117:=NB156_154.out
       have hnc117:=NB154_156.out
       have hnb118:=NB156_155.out
       have hnc118:=NB155_156.out
       have hcz119_0:wr.cell? ⟨gb156,0,none⟩=some (.bool false):=(blk_cell BK156.out 0).trans rfl
       have hcz119_1:wr.cell? ⟨gb156,1,none⟩=some (.slice none 0 0):=(blk_cell BK156.out 1).trans rfl
       have hfz119_0:=blk_frozen BK156.out 0
       have hfz119_1:=blk_frozen BK156.out 1
       obtain ⟨Ao120,co120,eo120⟩:=Kd.R_slice HO_158001.out
       subst eo120
       go_wp2
       refine bodyPost_ret (results_cell_row rfl _ _ gb156 38 #[.bool false,.slice Ao120 x158001_1.length co120] (0,0) _ rfl (by (with_reducible repeat (first|refine blk_drewN ?_ _|refine blk_drew ?_|refine blk_alloc ?_ _));refine blk_put (cs:=#[.bool false,.slice none 0 0]) ?_ 1 _ rfl;(with_reducible repeat (first|refine blk_drewN ?_ _|refine blk_drew ?_|refine blk_alloc ?_ _));refine blk_put (cs:=#[.bool false,.slice none 0 0]) ?_ 0 _ rfl;(with_reducible repeat (first|refine blk_drewN ?_ _|refine blk_drew ?_|refine blk_alloc ?_ _));exact BK156.out) Try.underlying38 rfl (by kernel_rfl)) rfl ?_
       exact ⟨_,by first|rfl|(simp [errW_none,errW_some] <;> rfl)|(simp [*,errW_none,errW_some] <;> rfl),by (with_reducible repeat (first|apply rA_|apply rN_|apply rD_));exact Kd.R_mono (Kd.R_far (p:=⟨gb156,1,none⟩) (Kd.R_far (p:=⟨gb156,0,none⟩) (Kd.R_types HO_158001.out BK156.out (by decide)) (fun _ hk=>hk.2) (.bool false)) (fun _ hk=>hk.2) (.slice Ao120 x158001_1.length co120)) (fun _ hk=>trivial),by repeat (first|(with_reducible first|exact HB.out|apply bA_|apply bN_|apply bD_|refine below_set ?_ GE154.out|refine below_set ?_ GE155.out|refine below_set ?_ GE156.out|refine below_set ?_ GE157.out)|exact HB.out)⟩
   ·rw [if_neg c65] at H
    exact absurd H (by simp)
  ·rw [if_neg c64] at H
   exact absurd H (by simp)
end Go.Proofs.Ytoihiehoolehiaa.PX
namespace Go.Proofs.Ytoihiehoolehiaa.PX
open Go.RowKit Go.Proofs.YtoihiehoolehiaaW.PrintWords Go.Proofs.YtoihiehoolehiaaW.PrintLast Go.Proofs.YtoihiehoolehiaaW.PrintMore
attribute [local go_sem] max2_int min2_int max_two min_two max_three min_three max_four min_four   
set_option linter.unusedVariables false
set_option linter.unusedSimpArgs false
def cadenceref3_Both.f (k:Nat) (a0_0:Bool) (l0_1:List ByteArray) (a1_0:Bool) (l1_1:List ByteArray):Option (Bool × List ByteArray):=(cadenceref3_pick.f k a0_0 l0_1 a1_0 l1_1 true).bind fun bt188=>(some (bt188.1,bt188.2))
theorem cadenceref3_Both.mono:∀ a0 a1 a2 a3 k,LeO (cadenceref3_Both.f k a0 a1 a2 a3) (cadenceref3_Both.f (k+1) a0 a1 a2 a3):=by
 intro a0 a1 a2 a3 k
 unfold cadenceref3_Both.f
 repeat' first
   | (with_reducible exact cadenceref3_pick.mono _ _ _ _ _ _)
   | (with_reducible exact LeO.refl _)
   | (with_reducible exact LeO.none _)
   | (with_reducible refine LeO.ite ?_ ?_)
   | (with_reducible refine LeO.bind ?_ (fun _=>?_))
   | exact cadenceref3_pick.mono _ _ _ _ _ _
   | exact LeO.none _
   | refine LeO.ite ?_ ?_
   | refine LeO.bind ?_ (fun _=>?_)
set_option maxHeartbeats 8000000 in
set_option maxRecDepth 100000 in
theorem cadenceref3_Both.calls (k:Nat) (a0_0:Bool) (A0_1:Option Addr) (c0_1:Nat) (l0_1:List ByteArray) (a1_0:Bool) (A1_1:Option Addr) (c1_1:Nat) (l1_1:List ByteArray) (r1:Bool) (r2:List ByteArray) (w:World) (hr0_1:Kd.C Kd.string w A0_1 l0_1.length l0_1) (hc0_1:l0_1.length≤c0_1) (hr1_1:Kd.C Kd.string w A1_1 l1_1.length l1_1) (hc1_1:l1_1.length≤c1_1) (h:cadenceref3_Both.f k a0_0 l0_1 a1_0 l1_1=some (r1,r2)) :
  Calls Try.prog 24 #[.agg #[.bool a0_0,.slice A0_1 l0_1.length c0_1],.agg #[.bool a1_0,.slice A1_1 l1_1.length c1_1]] w fun e w'=>∃ v1_:Value,e=.returned (.agg #[.bool r1,v1_])∧Kd.R Kd.string 9 w' w.heap.size (fun _=>True) v1_ r2∧Below w.heap.size w w':=by
 have hu38:=Try.underlying38
 have HR0_1:=Aside0.mk hr0_1
 have HC0_1:=Aside0.mk hc0_1
 clear hr0_1 hc0_1
 have HR1_1:=Aside0.mk hr1_1
 have HC1_1:=Aside0.mk hc1_1
 clear hr1_1 hc1_1
 have HB:=Aside0.mk (Below.refl w.heap.size w)
 have H:((cadenceref3_pick.f k a0_0 l0_1 a1_0 l1_1 true).bind fun bt188=>(some (bt188.1,bt188.2)))=some (r1,r2):=h
 clear h
 replace H:=Option.bind_eq_some_iff.mp H
 obtain ⟨⟨t188,t189⟩,A30,H⟩:=H
 replace H:(some (t188,t189))=some (r1,r2):=H
 have A3:=Aside0.mk A30
 clear A30
 simp only [Option.some.injEq,Prod.mk.injEq] at H
 obtain ⟨rfl,rfl⟩:=H
 go_enter Try.func24,Try.ntmps24
 go_wp2_with (first|((with_reducible refine gate_dst (N:=2) rfl ?_);refine box_event ?hg (N:=2) ?hd (cs:=#[.bool a0_0,.slice A0_1 l0_1.length c0_1]) (t:=38) ?hr ?_;(case hd=>rfl);(case hg=>rfl);(case hr=>first|(go_simp;done)|(go_simp;rfl));intro gb185 hg w4 hbox hb;have n0_:=Aside0.mk (below_step (by repeat (first|(with_reducible first|exact HB.out|apply bA_|apply bN_|apply bD_)|exact HB.out)) hb);have n1_:=Aside0.mk (hbox);have n2_:=Aside0.mk ((by rw [hg];exact (below_size (by repeat (first|(with_reducible first|exact HB.out|apply bA_|apply bN_|apply bD_)|exact HB.out))):w.heap.size≤gb185));have n3_:=Aside0.mk ((by rw [hg];exact (below_size (by repeat (first|(with_reducible first|exact HB.out|apply bA_|apply bN_|apply bD_)|exact HB.out))):w.heap.size≤gb185));clear HB;have HB:=n0_;have BK185:=n1_;have GW185:=n2_;have GE185:=n3_;clear n0_ n1_ n2_ n3_;clear hb hbox hg)|((with_reducible refine gate_dst (N:=3) rfl ?_);refine box_event ?hg (N:=3) ?hd (cs:=#[.bool a1_0,.slice A1_1 l1_1.length c1_1]) (t:=38) ?hr ?_;(case hd=>rfl);(case hg=>rfl);(case hr=>first|(go_simp;done)|(go_simp;rfl));intro gb186 hg w5 hbox hb;have n0_:=Aside0.mk (blk_below (g:=gb185) (o:=.cells #[.bool a0_0,.slice A0_1 l0_1.length c0_1] 38 (0,0)) (by (with_reducible repeat (first|refine blk_drewN ?_ _|refine blk_drew ?_|refine blk_alloc ?_ _));exact BK185.out) hb);have n1_:=Aside0.mk (below_step (by repeat (first|(with_reducible first|exact HB.out|apply bA_|apply bN_|apply bD_|refine below_set ?_ GE185.out)|exact HB.out)) hb);have n2_:=Aside0.mk (hbox);have n3_:=Aside0.mk ((by rw [hg];exact (below_size (by repeat (first|(with_reducible first|exact HB.out|apply bA_|apply bN_|apply bD_|refine below_set ?_ GE185.out)|exact HB.out))):w.heap.size≤gb186));have n4_:=Aside0.mk ((by rw [hg];exact (below_size (by repeat (first|(with_reducible first|exact HB.out|apply bA_|apply bN_|apply bD_|refine below_set ?_ GE185.out)|exact HB.out))):w.heap.size≤gb186));have n5_:=Aside0.mk ((by rw [hg];exact Nat.ne_of_lt (blk_lt (g:=gb185) (o:=.cells #[.bool a0_0,.slice A0_1 l0_1.length c0_1] 38 (0,0)) (by (with_reducible repeat (first|refine blk_drewN ?_ _|refine blk_drew ?_|refine blk_alloc ?_ _));exact BK185.out)):gb185≠gb186));have n6_:=Aside0.mk ((by rw [hg];exact Nat.ne_of_gt (blk_lt (g:=gb185) (o:=.cells #[.bool a0_0,.slice A0_1 l0_1.length c0_1] 38 (0,0)) (by (with_reducible repeat (first|refine blk_drewN ?_ _|refine blk_drew ?_|refine blk_alloc ?_ _));exact BK185.out)):gb186≠gb185));clear BK185;clear HB;have BK185:=n0_;have HB:=n1_;have BK186:=n2_;have GW186:=n3_;have GE186:=n4_;have NB185_186:=n5_;have NB186_185:=n6_;clear n0_ n1_ n2_ n3_ n4_ n5_ n6_;clear hb hbox hg)|((with_reducible refine gate_dst (N:=4) rfl ?_);refine box_event ?hg (N:=4) ?hd (cs:=#[.bool false,.slice none 0 0]) (t:=38) ?hr ?_;(case hd=>rfl);(case hg=>rfl);(case hr=>first|(go_simp;done)|(go_simp;rfl));intro gb187 hg w6 hbox hb;have n0_:=Aside0.mk (blk_below (g:=gb185) (o:=.cells #[.bool a0_0,.slice A0_1 l0_1.length c0_1] 38 (0,0)) (by (with_reducible repeat (first|refine blk_drewN ?_ _|refine blk_drew ?_|refine blk_alloc ?_ _));exact BK185.out) hb);have n1_:=Aside0.mk (blk_below (g:=gb186) (o:=.cells #[.bool a1_0,.slice A1_1 l1_1.length c1_1] 38 (0,0)) (by (with_reducible repeat (first|refine blk_drewN ?_ _|refine blk_drew ?_|refine blk_alloc ?_ _));exact BK186.out) hb);have n2_:=Aside0.mk (below_step (by repeat (first|(with_reducible first|exact HB.out|apply bA_|apply bN_|apply bD_|refine below_set ?_ GE185.out|refine below_set ?_ GE186.out)|exact HB.out)) hb);have n3_:=Aside0.mk (hbox);have n4_:=Aside0.mk ((by rw [hg];exact (below_size (by repeat (first|(with_reducible first|exact HB.out|apply bA_|apply bN_|apply bD_|refine below_set ?_ GE185.out|refine below_set ?_ GE186.out)|exact HB.out))):w.heap.size≤gb187));have n5_:=Aside0.mk ((by rw [hg];exact (below_size (by repeat (first|(with_reducible first|exact HB.out|apply bA_|apply bN_|apply bD_|refine below_set ?_ GE185.out|refine below_set ?_ GE186.out)|exact HB.out))):w.heap.size≤gb187));have n6_:=Aside0.mk ((by rw [hg];exact Nat.ne_of_lt (blk_lt (g:=gb185) (o:=.cells #[.bool a0_0,.slice A0_1 l0_1.length c0_1] 38 (0,0)) (by (with_reducible repeat (first|refine blk_drewN ?_ _|refine blk_drew ?_|refine blk_alloc ?_ _));exact BK185.out)):gb185≠gb187));have n7_:=Aside0.mk ((by rw [hg];exact Nat.ne_of_gt (blk_lt (g:=gb185) (o:=.cells #[.bool a0_0,.slice A0_1 l0_1.length c0_1] 38 (0,0)) (by (with_reducible repeat (first|refine blk_drewN ?_ _|refine blk_drew ?_|refine blk_alloc ?_ _));exact BK185.out)):gb187≠gb185));have n8_:=Aside0.mk ((by rw [hg];exact Nat.ne_of_lt (blk_lt (g:=gb186) (o:=.cells #[.bool a1_0,.slice A1_1 l1_1.length c1_1] 38 (0,0)) (by (with_reducible repeat (first|refine blk_drewN ?_ _|refine blk_drew ?_|refine blk_alloc ?_ _));exact BK186.out)):gb186≠gb187));have n9_:=Aside0.mk ((by rw [hg];exact Nat.ne_of_gt (blk_lt (g:=gb186) (o:=.cells #[.bool a1_0,.slice A1_1 l1_1.length c1_1] 38 (0,0)) (by (with_reducible repeat (first|refine blk_drewN ?_ _|refine blk_drew ?_|refine blk_alloc ?_ _));exact BK186.out)):gb187≠gb186));clear BK185;clear BK186;clear HB;have BK185:=n0_;have BK186:=n1_;have HB:=n2_;have BK187:=n3_;have GW187:=n4_;have GE187:=n5_;have NB185_187:=n6_;have NB187_185:=n7_;have NB186_187:=n8_;have NB187_186:=n9_;clear n0_ n1_ n2_ n3_ n4_ n5_ n6_ n7_ n8_ n9_;clear hb hbox hg;have hnb7:=NB185_186.out;have hnc7:=NB186_185.out;have hnb8:=NB185_187.out;have hnc8:=NB187_185.out;have hcz9_0:w6.cell? ⟨gb185,0,none⟩=some (.bool a0_0):=(blk_cell BK185.out 0).trans rfl;have hcz9_1:w6.cell? ⟨gb185,1,none⟩=some (.slice A0_1 l0_1.length c0_1):=(blk_cell BK185.out 1).trans rfl;have hfz9_0:=blk_frozen BK185.out 0;have hfz9_1:=blk_frozen BK185.out 1;have hnb10:=NB186_187.out;have hnc10:=NB187_186.out;have hcz11_0:w6.cell? ⟨gb186,0,none⟩=some (.bool a1_0):=(blk_cell BK186.out 0).trans rfl;have hcz11_1:w6.cell? ⟨gb186,1,none⟩=some (.slice A1_1 l1_1.length c1_1):=(blk_cell BK186.out 1).trans rfl;have hfz11_0:=blk_frozen BK186.out 0;have hfz11_1:=blk_frozen BK186.out 1)|((with_reducible refine gate_callee (f:=43) rfl ?_);refine goesL_ (some 7) rfl rfl Try.func43 (by kernel_rfl) rfl #[.agg #[.bool a0_0,.slice A0_1 l0_1.length c0_1],.agg #[.bool a1_0,.slice A1_1 l1_1.length c1_1],.bool true] rfl (by (try simp only [List.map_toArray,List.map_cons,List.map_nil]);first|done|rfl|(simp only [List.length_drop,List.length_take];rfl)) ?_;(with_reducible refine (cadenceref3_pick.calls k a0_0 _ _ l0_1 a1_0 _ _ l1_1 true t188 t189 _ ?side1 ?side2 ?side3 ?side4 A3.out).mono ?_);(case side1=>repeat (first|exact (Kd.C_below HR0_1.out HB.out)|(with_reducible refine cA_ ?_ _)|(with_reducible refine cN_ ?_ _)|(with_reducible refine cD_ ?_)));(case side2=>exact HC0_1.out);(case side3=>repeat (first|exact (Kd.C_below HR1_1.out HB.out)|(with_reducible refine cA_ ?_ _)|(with_reducible refine cN_ ?_ _)|(with_reducible refine cD_ ?_)));(case side4=>exact HC1_1.out);rintro e w12 ⟨v190,rfl,ho0,hb⟩;refine ⟨_,rfl,?_⟩;have n0_:=Aside0.mk (Kd.R_lower ho0 (below_size (by repeat (first|(with_reducible first|exact HB.out|apply bA_|apply bN_|apply bD_|refine below_set ?_ GE185.out|refine below_set ?_ GE186.out|refine below_set ?_ GE187.out)|exact HB.out))));have n1_:=Aside0.mk (blk_below (g:=gb185) (o:=.cells #[.bool a0_0,.slice A0_1 l0_1.length c0_1] 38 (0,0)) (by (with_reducible repeat (first|refine blk_drewN ?_ _|refine blk_drew ?_|refine blk_alloc ?_ _));exact BK185.out) hb);have n2_:=Aside0.mk (blk_below (g:=gb186) (o:=.cells #[.bool a1_0,.slice A1_1 l1_1.length c1_1] 38 (0,0)) (by (with_reducible repeat (first|refine blk_drewN ?_ _|refine blk_drew ?_|refine blk_alloc ?_ _));exact BK186.out) hb);have n3_:=Aside0.mk (blk_below (g:=gb187) (o:=.cells #[.bool false,.slice none 0 0] 38 (0,0)) (by (with_reducible repeat (first|refine blk_drewN ?_ _|refine blk_drew ?_|refine blk_alloc ?_ _));exact BK187.out) hb);have n4_:=Aside0.mk (below_step (by repeat (first|(with_reducible first|exact HB.out|apply bA_|apply bN_|apply bD_|refine below_set ?_ GE185.out|refine below_set ?_ GE186.out|refine below_set ?_ GE187.out)|exact HB.out)) hb);clear BK185;clear BK186;clear BK187;clear HB;have HO191:=n0_;have BK185:=n1_;have BK186:=n2_;have BK187:=n3_;have HB:=n4_;clear n0_ n1_ n2_ n3_ n4_;(try clear hb);(try clear hb2);(try clear hk);(try clear hi);(try clear ho0);have hcz13_0:w12.cell? ⟨gb187,0,none⟩=some (.bool false):=(blk_cell BK187.out 0).trans rfl;have hcz13_1:w12.cell? ⟨gb187,1,none⟩=some (.slice none 0 0):=(blk_cell BK187.out 1).trans rfl;have hfz13_0:=blk_frozen BK187.out 0;have hfz13_1:=blk_frozen BK187.out 1;obtain ⟨Ao14,co14,eo14⟩:=Kd.R_slice HO191.out;subst eo14))
 refine bodyPost_ret (results_cell_row rfl _ _ gb187 38 #[.bool t188,.slice Ao14 t189.length co14] (0,0) _ rfl (by (with_reducible repeat (first|refine blk_drewN ?_ _|refine blk_drew ?_|refine blk_alloc ?_ _));refine blk_put (cs:=#[.bool t188,.slice none 0 0]) ?_ 1 _ rfl;(with_reducible repeat (first|refine blk_drewN ?_ _|refine blk_drew ?_|refine blk_alloc ?_ _));refine blk_put (cs:=#[.bool false,.slice none 0 0]) ?_ 0 _ rfl;(with_reducible repeat (first|refine blk_drewN ?_ _|refine blk_drew ?_|refine blk_alloc ?_ _));exact BK187.out) Try.underlying38 rfl (by kernel_rfl)) rfl ?_
 exact ⟨_,by first|rfl|(simp [errW_none,errW_some] <;> rfl)|(simp [*,errW_none,errW_some] <;> rfl),by (with_reducible repeat (first|apply rA_|apply rN_|apply rD_));exact Kd.R_mono (Kd.R_far (p:=⟨gb187,1,none⟩) (Kd.R_far (p:=⟨gb187,0,none⟩) (Kd.R_types HO191.out BK187.out (by decide)) (fun _ hk=>hk.2) (.bool t188)) (fun _ hk=>hk.2) (.slice Ao14 t189.length co14)) (fun _ hk=>trivial),by repeat (first|(with_reducible first|exact HB.out|apply bA_|apply bN_|apply bD_|refine below_set ?_ GE185.out|refine below_set ?_ GE186.out|refine below_set ?_ GE187.out)|exact HB.out)⟩
end Go.Proofs.Ytoihiehoolehiaa.PX
namespace Go.Proofs.Ytoihiehoolehiaa.PX
open Go.RowKit Go.Proofs.YtoihiehoolehiaaW.PrintWords Go.Proofs.YtoihiehoolehiaaW.PrintLast Go.Proofs.YtoihiehoolehiaaW.PrintMore
attribute [local go_sem] max2_int min2_int max_two min_two max_three min_three max_four min_four   
set_option linter.unusedVariables false
set_option linter.unusedSimpArgs false
def cadencelaw3_within.f (a0:Int) (a1:Int):Option (Int):=if a1=0 then (none) else (if (Int.tmod a0 a1) < 0 then (some (wrap64 ((Int.tmod a0 a1)+a1))) else (some (Int.tmod a0 a1)))
set_option maxHeartbeats 8000000 in
set_option maxRecDepth 100000 in
theorem cadencelaw3_within.calls (a0:Int) (a1:Int) (r:Int) (w:World) (h:cadencelaw3_within.f a0 a1=some r) :
  Calls Try.prog 44 #[.int .i64 a0,.int .i64 a1] w fun e w'=>e=.returned (.int .i64 r)∧Drawn0 w w':=by
 have H:(if a1=0 then (none) else (if (Int.tmod a0 a1) < 0 then (some (wrap64 ((Int.tmod a0 a1)+a1))) else (some (Int.tmod a0 a1))))=some r:=h
 clear h
 by_cases c3:a1=0
 ·rw [if_pos c3] at H
  exact absurd H (by simp)
 ·rw [if_neg c3] at H
  have c3b0:(a1 == 0)=false:=beq_eq_false_iff_ne.mpr c3
  have c3b1:(a1 != 0)=true:=bne_iff_ne.mpr c3
  by_cases c4:(Int.tmod a0 a1) < 0
  ·rw [if_pos c4] at H
   have c4b0:decide ((Int.tmod a0 a1) < 0)=true:=decide_eq_true c4
   clear c4
   obtain rfl:=Option.some.inj H
   go_enter Try.func44,Try.ntmps44
   go_wp2
   go_ret
   exact ⟨by first|rfl|(simp;done)|(simp [*];done),by repeat (first|exact Drawn0.refl _|apply Drawn0.step)⟩
  ·rw [if_neg c4] at H
   have c4b0:decide ((Int.tmod a0 a1) < 0)=false:=decide_eq_false c4
   clear c4
   obtain rfl:=Option.some.inj H
   go_enter Try.func44,Try.ntmps44
   go_wp2
   go_ret
   exact ⟨by first|rfl|(simp;done)|(simp [*];done),by repeat (first|exact Drawn0.refl _|apply Drawn0.step)⟩
end Go.Proofs.Ytoihiehoolehiaa.PX
