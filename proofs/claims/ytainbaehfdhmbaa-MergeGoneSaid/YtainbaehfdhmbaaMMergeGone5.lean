/- Texts on the way to 'MergeGone', one behind the other (part 5). -/
import Derived.Test.YtainbaehfdhmbaaMMergeGone1
import Derived.Test.YtainbaehfdhmbaaMMergeGone4
import Derived.Test.YtainbaehfdhmbaaMMergeGone3
namespace Go.Proofs.Ytainbaehfdhmbaa.PX
open Go.RowKit Go.Proofs.YtainbaehfdhmbaaW.PrintWords Go.Proofs.YtainbaehfdhmbaaW.PrintLast Go.Proofs.YtainbaehfdhmbaaW.PrintMore
attribute [local go_sem] max2_int min2_int max_two min_two max_three min_three max_four min_four   
set_option linter.unusedVariables false
set_option linter.unusedSimpArgs false
mutual
def cadencelaw4_Small.l0:Nat→List (S73)→Int→Int→List (S51)→Int→Option ((List (S51)))
 | 0,_,_,_,_,_=>none
 | k+1,x0,x1,x2,x7,x8=>if x8 < (x0.length:Int) then (if x8 < x1 then (cadencelaw4_Small.j1 k x0 x1 x2 x7 x8 (decide (x2 > 0))) else (cadencelaw4_Small.j1 k x0 x1 x2 x7 x8 false)) else (cadencelaw4_Small.j1 k x0 x1 x2 x7 x8 false)
def cadencelaw4_Small.j1:Nat→List (S73)→Int→Int→List (S51)→Int→Bool→Option ((List (S51)))
 | 0,_,_,_,_,_,_=>none
 | k+1,x0,x1,x2,x7,x8,x21=>if x21=true then ((some (([(⟨#[]⟩:ByteArray),(⟨#[97]⟩:ByteArray),(⟨#[98]⟩:ByteArray),(⟨#[99]⟩:ByteArray),(⟨#[100]⟩:ByteArray)]:List ByteArray):List ByteArray)).bind fun y298=>(if 0≤x8 then (if x8 < (x0.length:Int) then ((cadencelaw4_within.f (((rd_T73 x0 x8).f0).size:Int) 5).bind fun t302=>(if 0≤t302 then (if t302 < (y298.length:Int) then ((cadencelaw4_Small.f k ((rd_T73 x0 x8).f1) x1 (wrap64 (x2 - 1))).bind fun t305=>((cadenceref2_With.f k x7 (rdOf ByteArray.empty y298 t302) t305).bind fun t308=>(cadencelaw4_Small.l0 k x0 x1 x2 t308 (wrap64 (x8+1))))) else (none)) else (none))) else (none)) else (none))) else (some x7)
def cadencelaw4_Small.f:Nat→List (S73)→Int→Int→Option ((List (S51)))
 | 0,_,_,_=>none
 | k+1,l0,a1,a2=>cadencelaw4_Small.l0 k l0 a1 a2 ([]:List (S51)) 0
end
theorem cadencelaw4_Small.mono_l:∀ k,(∀ y0 y1 y2,LeO (cadencelaw4_Small.f k y0 y1 y2) (cadencelaw4_Small.f (k+1) y0 y1 y2))∧(∀ y0 y1 y2 y3 y4,LeO (cadencelaw4_Small.l0 k y0 y1 y2 y3 y4) (cadencelaw4_Small.l0 (k+1) y0 y1 y2 y3 y4))∧(∀ y0 y1 y2 y3 y4 y5,LeO (cadencelaw4_Small.j1 k y0 y1 y2 y3 y4 y5) (cadencelaw4_Small.j1 (k+1) y0 y1 y2 y3 y4 y5))
 | 0=>⟨fun _ _ _ r h=>by simp [cadencelaw4_Small.f] at h,fun _ _ _ _ _ r h=>by simp [cadencelaw4_Small.l0] at h,fun _ _ _ _ _ _ r h=>by simp [cadencelaw4_Small.j1] at h⟩
 | k+1=>by
  obtain ⟨ih0,ih1,ih2⟩:=cadencelaw4_Small.mono_l k
  refine ⟨?_,?_,?_⟩
  ·intro y0 y1 y2
   unfold cadencelaw4_Small.f
   repeat' first
   | (with_reducible exact ih0 _ _ _)
   | (with_reducible exact ih1 _ _ _ _ _)
   | (with_reducible exact ih2 _ _ _ _ _ _)
   | (with_reducible exact cadenceref2_With.mono _ _ _ _)
   | (with_reducible exact LeO.refl _)
   | (with_reducible exact LeO.none _)
   | (with_reducible refine LeO.ite ?_ ?_)
   | (with_reducible refine LeO.bind ?_ (fun _=>?_))
   | exact ih0 _ _ _
   | exact ih1 _ _ _ _ _
   | exact ih2 _ _ _ _ _ _
   | exact cadenceref2_With.mono _ _ _ _
   | exact LeO.none _
   | refine LeO.ite ?_ ?_
   | refine LeO.bind ?_ (fun _=>?_)
  ·intro y0 y1 y2 y3 y4
   unfold cadencelaw4_Small.l0
   repeat' first
   | (with_reducible exact ih0 _ _ _)
   | (with_reducible exact ih1 _ _ _ _ _)
   | (with_reducible exact ih2 _ _ _ _ _ _)
   | (with_reducible exact cadenceref2_With.mono _ _ _ _)
   | (with_reducible exact LeO.refl _)
   | (with_reducible exact LeO.none _)
   | (with_reducible refine LeO.ite ?_ ?_)
   | (with_reducible refine LeO.bind ?_ (fun _=>?_))
   | exact ih0 _ _ _
   | exact ih1 _ _ _ _ _
   | exact ih2 _ _ _ _ _ _
   | exact cadenceref2_With.mono _ _ _ _
   | exact LeO.none _
   | refine LeO.ite ?_ ?_
   | refine LeO.bind ?_ (fun _=>?_)
  ·intro y0 y1 y2 y3 y4 y5
   unfold cadencelaw4_Small.j1
   repeat' first
   | (with_reducible exact ih0 _ _ _)
   | (with_reducible exact ih1 _ _ _ _ _)
   | (with_reducible exact ih2 _ _ _ _ _ _)
   | (with_reducible exact cadenceref2_With.mono _ _ _ _)
   | (with_reducible exact LeO.refl _)
   | (with_reducible exact LeO.none _)
   | (with_reducible refine LeO.ite ?_ ?_)
   | (with_reducible refine LeO.bind ?_ (fun _=>?_))
   | exact ih0 _ _ _
   | exact ih1 _ _ _ _ _
   | exact ih2 _ _ _ _ _ _
   | exact cadenceref2_With.mono _ _ _ _
   | exact LeO.none _
   | refine LeO.ite ?_ ?_
   | refine LeO.bind ?_ (fun _=>?_)
theorem cadencelaw4_Small.mono:∀ a0 a1 a2 k,LeO (cadencelaw4_Small.f k a0 a1 a2) (cadencelaw4_Small.f (k+1) a0 a1 a2):=by
 intro a0 a1 a2 k
 obtain ⟨ih0,ih1,ih2⟩:=cadencelaw4_Small.mono_l k
 exact ih0 a0 a1 a2
def cadencelaw4_Small.T5:Bool × List (List Nat × List Nat):=(true,[([],[]),([],[]),([],[]),([],[]),([2,3],[2,3]),([4],[4]),([5],[5]),([6],[6]),([7],[7]),([1,8],[1,8]),([9],[9]),([],[]),([],[]),([11,12],[11,12]),([13],[13]),([14],[14]),([],[]),([],[]),([17],[17]),([15,16,18,8],[15,16,18]),([0,10,19,19],[0,10,19]),([20,20,0,1,2,3,4,5,6,7,8,9,10,11,12,13,14,15,16,17,18,19,20],[0,20])])
def cadencelaw4_Small.B5:List Nat:=[0,0,0,0,12,28,60,124,252,510,1022,0,0,6144,14336,30720,0,0,131072,522748,1048575,2097151]
theorem cadencelaw4_Small.tab5:rtab .any (opsOf Try.f14 5)=cadencelaw4_Small.T5:=by kernel_rfl
theorem cadencelaw4_Small.bits5:waitsOk cadencelaw4_Small.T5.2 cadencelaw4_Small.B5=true:=by kernel_rfl
set_option maxHeartbeats 8000000 in
set_option maxRecDepth 100000 in
theorem cadencelaw4_Small.calls (k:Nat):∀ (A0:Option Addr) (c0:Nat) (l0:List (S73)) (a1:Int) (a2:Int) (r:List (S51)) (w:World) (hr0:Kd.C k73 w A0 l0.length l0) (hc0:l0.length≤c0) (h:cadencelaw4_Small.f k l0 a1 a2=some r),
  Calls Try.prog 14 #[.slice A0 l0.length c0,.int .i64 a1,.int .i64 a2] w fun e w'=>∃ v0_:Value,e=.returned (v0_)∧Kd.N k51 51 w' w.heap.size (fun k_=>(w.heap.size≤k_)) v0_ r∧Below w.heap.size w w':=by
 induction k using Nat.strongRecOn with
 | _ k ih =>
 intro A0 c0 l0 a1 a2 r w hr0 hc0 h
 cases k with
 | zero=>exact absurd h (by simp [cadencelaw4_Small.f])
 | succ k =>
 simp only [cadencelaw4_Small.f] at h
 have HR0:=Aside0.mk hr0
 have HC0:=Aside0.mk hc0
 clear hr0 hc0
 have HB:=Aside0.mk (Below.refl w.heap.size w)
 have H:(cadencelaw4_Small.l0 k l0 a1 a2 ([]:List (S51)) 0)=some r:=h
 clear h
 have H':=Aside0.mk H
 clear H
 go_enter Try.func14,Try.ntmps14
 go_wp2
 go_loopg [7,8] k (fun kq v7 v8 w'=>∃ (x7_1:List (S51)) (x8_1:Int),v8=.int .i64 x8_1∧Aside0 (cadencelaw4_Small.l0 kq l0 a1 a2 x7_1 x8_1=some r)∧Aside0 (kq≤k)∧Aside0 (Kd.N k51 51 w' w.heap.size (fun k_=>(w.heap.size≤k_)) v7 x7_1)∧Aside0 (Below w.heap.size w w'))
 case atStart=>exact ⟨(([]:List (S51))),(0),(by first|rfl|(simp;done)|(simp [*];done)),H',⟨Nat.le_refl _⟩,⟨by first|exact Kd.R_nil _ _ _ _ _|exact Kd.N_nil _ _ _ _ _|exact Kd.V_nil _ _ _ _ _|exact Kd.Q_nil _ _ _ _ _|exact Kd.S_nil _ _ _ _ _⟩,⟨by repeat (first|(with_reducible first|exact HB.out|apply bA_|apply bN_|apply bD_)|exact HB.out)⟩⟩
 case round =>
  clear H'
  try clear c1
  try clear p2
  obtain ⟨x7_1,x8_1,rfl,HA,HK1,HO_7,HB⟩:=hrel
  cases gk with
  | zero=>exact absurd HA.out (by simp [cadencelaw4_Small.l0])
  | succ k1 =>
   have H:=HA.out
   clear HA
   simp only [cadencelaw4_Small.l0] at H
   have HC4:=Aside0.mk H
   clear H
   go_upto_region 3 with (fail)
   go_cut [21] (fun v21 wc=>∃ (kq:Nat) (x21_3:Bool),v21=.bool x21_3∧Aside0 (cadencelaw4_Small.j1 kq l0 a1 a2 x7_1 x8_1 x21_3=some r)∧Aside0 (kq≤k1)∧Aside0 (Kd.N k51 51 wc w.heap.size (fun k_=>(w.heap.size≤k_)) u7 x7_1)∧Aside0 (Below w.heap.size w wc))
   case first =>
    have H:=HC4.out
    clear HC4
    by_cases c5:x8_1 < (l0.length:Int)
    ·rw [if_pos c5] at H
     have c5b0:decide (x8_1 < (l0.length:Int))=true:=decide_eq_true c5
     clear c5
     (first|rw [c5b0]|(simp only [i64_w,i32_w];rw [c5b0])|skip)
     by_cases c6:x8_1 < a1
     ·rw [if_pos c6] at H
      have c6b0:decide (x8_1 < a1)=true:=decide_eq_true c6
      clear c6
      have H':=Aside0.mk H
      clear H
      go_wp2
      go_meet
      case rel=>exact ⟨_,(decide (a2 > 0)),(by first|rfl|(simp;done)|(simp [*];done)),H',⟨by have:=HK1.out;first|omega|exact Nat.le_refl _⟩,⟨by (with_reducible repeat (first|apply nA_|apply nN_|apply nD_));exact HO_7.out⟩,⟨by repeat (first|(with_reducible first|exact HB.out|apply bA_|apply bN_|apply bD_)|exact HB.out)⟩⟩
     ·rw [if_neg c6] at H
      have c6b0:decide (x8_1 < a1)=false:=decide_eq_false c6
      clear c6
      have H':=Aside0.mk H
      clear H
      go_wp2
      go_meet
      case rel=>exact ⟨_,(false),(by first|rfl|(simp;done)|(simp [*];done)),H',⟨by have:=HK1.out;first|omega|exact Nat.le_refl _⟩,⟨by (with_reducible repeat (first|apply nA_|apply nN_|apply nD_));exact HO_7.out⟩,⟨by repeat (first|(with_reducible first|exact HB.out|apply bA_|apply bN_|apply bD_)|exact HB.out)⟩⟩
    ·rw [if_neg c5] at H
     have c5b0:decide (x8_1 < (l0.length:Int))=false:=decide_eq_false c5
     clear c5
     (first|rw [c5b0]|(simp only [i64_w,i32_w];rw [c5b0])|skip)
     have H':=Aside0.mk H
     clear H
     go_wp2
     go_meet
     case rel=>exact ⟨_,(false),(by first|rfl|(simp;done)|(simp [*];done)),H',⟨by have:=HK1.out;first|omega|exact Nat.le_refl _⟩,⟨by (with_reducible repeat (first|apply nA_|apply nN_|apply nD_));exact HO_7.out⟩,⟨by repeat (first|(with_reducible first|exact HB.out|apply bA_|apply bN_|apply bD_)|exact HB.out)⟩⟩
   case rest =>
    clear HC4
    try clear c1
    try clear p2
    try clear c5
    try clear c5b0
    try clear c6
    try clear c6b0
    try clear p2
    obtain ⟨kq,x21_3,rfl,HA,HJ3,HO_7,HB⟩:=hcut
    cases kq with
    | zero=>exact absurd HA.out (by simp [cadencelaw4_Small.j1])
    | succ kj3 =>
     have H:=HA.out
     clear HA
     simp only [cadencelaw4_Small.j1] at H
     by_cases c7:x21_3=true
     ·subst c7
      have H1:((some (([(⟨#[]⟩:ByteArray),(⟨#[97]⟩:ByteArray),(⟨#[98]⟩:ByteArray),(⟨#[99]⟩:ByteArray),(⟨#[100]⟩:ByteArray)]:List ByteArray):List ByteArray)).bind fun y298=>(if 0≤x8_1 then (if x8_1 < (l0.length:Int) then ((cadencelaw4_within.f (((rd_T73 l0 x8_1).f0).size:Int) 5).bind fun t302=>(if 0≤t302 then (if t302 < (y298.length:Int) then ((cadencelaw4_Small.f kj3 ((rd_T73 l0 x8_1).f1) a1 (wrap64 (a2 - 1))).bind fun t305=>((cadenceref2_With.f kj3 x7_1 (rdOf ByteArray.empty y298 t302) t305).bind fun t308=>(cadencelaw4_Small.l0 kj3 l0 a1 a2 t308 (wrap64 (x8_1+1))))) else (none)) else (none))) else (none)) else (none)))=some r:=by rw [if_pos rfl] at H;exact H
      clear H
      have H:=H1
      clear H1
      obtain ⟨y298,hy298⟩:∃ y_:List ByteArray,y_=(([(⟨#[]⟩:ByteArray),(⟨#[97]⟩:ByteArray),(⟨#[98]⟩:ByteArray),(⟨#[99]⟩:ByteArray),(⟨#[100]⟩:ByteArray)]:List ByteArray)):=⟨_,rfl⟩
      replace H:(if 0≤x8_1 then (if x8_1 < (l0.length:Int) then ((cadencelaw4_within.f (((rd_T73 l0 x8_1).f0).size:Int) 5).bind fun t302=>(if 0≤t302 then (if t302 < (y298.length:Int) then ((cadencelaw4_Small.f kj3 ((rd_T73 l0 x8_1).f1) a1 (wrap64 (a2 - 1))).bind fun t305=>((cadenceref2_With.f kj3 x7_1 (rdOf ByteArray.empty y298 t302) t305).bind fun t308=>(cadencelaw4_Small.l0 kj3 l0 a1 a2 t308 (wrap64 (x8_1+1))))) else (none)) else (none))) else (none)) else (none))=some r:=by first|(rw [hy298];with_reducible exact H)|(have H2_:=(Option.bind_some _ _).symm.trans H;rw [hy298];with_reducible exact H2_)|(have H2_:=(Option.bind_some _ _).symm.trans H;with_reducible exact H2_)|with_reducible exact H|(rw [hy298];exact H)|exact H
      have Ny298:=Aside0.mk hy298
      clear hy298
      by_cases c8:0≤x8_1
      ·rw [if_pos c8] at H
       have c8b0:decide (0≤x8_1)=true:=decide_eq_true c8
       clear c8
       by_cases c9:x8_1 < (l0.length:Int)
       ·rw [if_pos c9] at H
        have c9b0:decide (x8_1 < (l0.length:Int))=true:=decide_eq_true c9
        clear c9
        replace H:=Option.bind_eq_some_iff.mp H
        obtain ⟨t302,A100,H⟩:=H
        replace H:(if 0≤t302 then (if t302 < (y298.length:Int) then ((cadencelaw4_Small.f kj3 ((rd_T73 l0 x8_1).f1) a1 (wrap64 (a2 - 1))).bind fun t305=>((cadenceref2_With.f kj3 x7_1 (rdOf ByteArray.empty y298 t302) t305).bind fun t308=>(cadencelaw4_Small.l0 kj3 l0 a1 a2 t308 (wrap64 (x8_1+1))))) else (none)) else (none))=some r:=H
        have A10:=Aside0.mk A100
        clear A100
        by_cases c11:0≤t302
        ·rw [if_pos c11] at H
         have c11b0:decide (0≤t302)=true:=decide_eq_true c11
         clear c11
         by_cases c12:t302 < (y298.length:Int)
         ·rw [if_pos c12] at H
          have c12b0:decide (t302 < (y298.length:Int))=true:=decide_eq_true c12
          clear c12
          replace H:=Option.bind_eq_some_iff.mp H
          obtain ⟨t305,A130,H⟩:=H
          replace H:((cadenceref2_With.f kj3 x7_1 (rdOf ByteArray.empty y298 t302) t305).bind fun t308=>(cadencelaw4_Small.l0 kj3 l0 a1 a2 t308 (wrap64 (x8_1+1))))=some r:=H
          have A13:=Aside0.mk A130
          clear A130
          replace H:=Option.bind_eq_some_iff.mp H
          obtain ⟨t308,A140,H⟩:=H
          replace H:(cadencelaw4_Small.l0 kj3 l0 a1 a2 t308 (wrap64 (x8_1+1)))=some r:=H
          have A14:=Aside0.mk A140
          clear A140
          have H':=Aside0.mk H
          clear H
          obtain ⟨Ao15,co15,eo15⟩:=Kd.N_slice HO_7.out
          subst eo15
          try go_wp2
          have pi303:(0≤(t302:Int))=True:=eq_true (of_decide_eq_true (by first|(with_reducible assumption)|assumption))
          have qi303:(t302 < (y298.length:Int))=True:=eq_true (of_decide_eq_true (by first|(with_reducible assumption)|assumption))
          have n0_:=Aside0.mk (nD_ HO_7.out)
          have n1_:=Aside0.mk (bD_ HB.out)
          clear HO_7
          clear HB
          have HO_7:=n0_
          have HB:=n1_
          clear n0_ n1_
          have p301:0≤(x8_1:Int):=of_decide_eq_true (by first|(with_reducible assumption)|assumption)
          have q301:x8_1 < (l0.length:Int):=of_decide_eq_true (by first|(with_reducible assumption)|assumption)
          obtain ⟨ad301,A301_1,c301_1,e301,hx301_0,hx301_1,hl301_1,hi301_1⟩:=at_T73 HR0.out x8_1 p301 q301
          have hw301_1:=hx301_1
          have hw301_0:=hx301_0
          cases e301
          replace hx301_0:=(HB.out.cell (World.block_lt_of_cell? w _ hx301_0)).trans hx301_0
          replace hx301_1:=(HB.out.cell (World.block_lt_of_cell? w _ hx301_1)).trans hx301_1
          have HR301_1:=Aside0.mk hi301_1
          have HC301_1:=Aside0.mk hl301_1
          clear hi301_1 hl301_1
          replace p301:=eq_true p301
          replace q301:=eq_true q301
          have p304:0≤(x8_1:Int):=of_decide_eq_true (by first|(with_reducible assumption)|assumption)
          have q304:x8_1 < (l0.length:Int):=of_decide_eq_true (by first|(with_reducible assumption)|assumption)
          obtain ⟨ad304,A304_1,c304_1,e304,hx304_0,hx304_1,hl304_1,hi304_1⟩:=at_T73 HR0.out x8_1 p304 q304
          have hw304_1:=hx304_1
          have hw304_0:=hx304_0
          obtain rfl:ad301=ad304:=(by injection e304)
          replace hx304_0:=(HB.out.cell (World.block_lt_of_cell? w _ hx304_0)).trans hx304_0
          replace hx304_1:=(HB.out.cell (World.block_lt_of_cell? w _ hx304_1)).trans hx304_1
          have HR304_1:=Aside0.mk hi304_1
          have HC304_1:=Aside0.mk hl304_1
          clear hi304_1 hl304_1
          replace p304:=eq_true p304
          replace q304:=eq_true q304
          have ea_:=Option.some.inj (hx301_1.symm.trans hx304_1)
          injection ea_ with ea_ en_ ec_
          subst ea_
          subst ec_
          clear en_
          refine start_ (n:=22) (S:=fun w'=>w'.cell? (ad301.add ((x8_1).toNat * 2))=some (.string ((rd_T73 l0 x8_1).f0))∧w'.cell? ⟨(ad301.add ((x8_1).toNat * 2)).block,(ad301.add ((x8_1).toNat * 2)).off+1,none⟩=some (.slice A301_1 ((rd_T73 l0 x8_1).f1).length c301_1)∧w'.cell? (ad301.add ((x8_1).toNat * 2))=some (.string ((rd_T73 l0 x8_1).f0))∧w'.cell? ⟨(ad301.add ((x8_1).toNat * 2)).block,(ad301.add ((x8_1).toNat * 2)).off+1,none⟩=some (.slice A301_1 ((rd_T73 l0 x8_1).f1).length c301_1)) (ds:=[]) #[false,false,false,false,false,false,false,false,false,false,false,false,false,false,false,false,false,false,false,false,false,false] (by kernel_rfl) rfl rfl ⟨((HB.out.cell (World.block_lt_of_cell? w _ hw301_0)).trans hw301_0),((HB.out.cell (World.block_lt_of_cell? w _ hw301_1)).trans hw301_1),((HB.out.cell (World.block_lt_of_cell? w _ hw304_0)).trans hw304_0),((HB.out.cell (World.block_lt_of_cell? w _ hw304_1)).trans hw304_1)⟩ (fun hHeld=>?_);refine with_tabW cadencelaw4_Small.tab5 cadencelaw4_Small.bits5 (fun HT_ HW_=>?_)
          generalize wc.drew=w16 at HO_7 HB HR301_1 HR304_1 hx301_0 hx301_1 hx304_0 hx304_1 hHeld ⊢
          refine pure_ (i:=0) (N:=some 24) (v:=?_) (a':=?_) #[true,false,false,false,false,false,false,false,false,false,false,false,false,false,false,false,false,false,false,false,false,false] rfl rfl (any_of HT_.out (by kernel_rfl)) (fun _ _ _ h=>h) (Or.inl ⟨by rfl,?_⟩) ?_ ?_
          rotate_left
          ·intro w'
           go_simp
           with_reducible rfl
          rotate_left
          ·simp only [Act.put,List.setIfInBounds_toArray,List.set_cons_zero,List.set_cons_succ,i64_w,i32_w]
           rfl
          refine pure_ (i:=2) (N:=some 26) (v:=?_) (a':=?_) #[true,false,true,false,false,false,false,false,false,false,false,false,false,false,false,false,false,false,false,false,false,false] rfl rfl (any_of HT_.out (by kernel_rfl)) (fun _ _ _ h=>h) (Or.inl ⟨by rfl,?_⟩) ?_ ?_
          rotate_left
          ·intro w'
           go_simp
           with_reducible rfl
          rotate_left
          ·simp only [Act.put,List.setIfInBounds_toArray,List.set_cons_zero,List.set_cons_succ,i64_w,i32_w]
           rfl
          refine pure_ (i:=3) (N:=some 27) (v:=?_) (a':=?_) #[true,false,true,true,false,false,false,false,false,false,false,false,false,false,false,false,false,false,false,false,false,false] rfl rfl (any_of HT_.out (by kernel_rfl)) (fun _ _ _ h=>h) (Or.inl ⟨by rfl,?_⟩) ?_ ?_
          rotate_left
          ·intro w'
           go_simp
           with_reducible rfl
          rotate_left
          ·simp only [Act.put,List.setIfInBounds_toArray,List.set_cons_zero,List.set_cons_succ,i64_w,i32_w]
           rfl
          refine pure_ (i:=4) (N:=some 28) (v:=?_) (a':=?_) #[true,false,true,true,true,false,false,false,false,false,false,false,false,false,false,false,false,false,false,false,false,false] rfl rfl (any_of HT_.out (by kernel_rfl)) (fun _ _ _ h=>h) (Or.inl ⟨by rfl,?_⟩) ?_ ?_
          rotate_left
          ·intro w'
           go_simp
           with_reducible rfl
          rotate_left
          ·simp only [Act.put,List.setIfInBounds_toArray,List.set_cons_zero,List.set_cons_succ,i64_w,i32_w]
           rfl
          refine pure_ (i:=5) (N:=some 29) (v:=?_) (a':=?_) #[true,false,true,true,true,true,false,false,false,false,false,false,false,false,false,false,false,false,false,false,false,false] rfl rfl (any_of HT_.out (by kernel_rfl)) (fun _ _ _ h=>h) (Or.inl ⟨by rfl,?_⟩) ?_ ?_
          rotate_left
          ·intro w'
           go_simp
           with_reducible rfl
          rotate_left
          ·simp only [Act.put,List.setIfInBounds_toArray,List.set_cons_zero,List.set_cons_succ,i64_w,i32_w]
           rfl
          refine pure_ (i:=11) (N:=some 35) (v:=?_) (a':=?_) #[true,false,true,true,true,true,false,false,false,false,false,true,false,false,false,false,false,false,false,false,false,false] rfl rfl (any_of HT_.out (by kernel_rfl)) (fun _ _ _ h=>h) (Or.inl ⟨by rfl,?_⟩) ?_ ?_
          rotate_left
          ·intro w'
           go_simp
           with_reducible rfl
          rotate_left
          ·simp only [Act.put,List.setIfInBounds_toArray,List.set_cons_zero,List.set_cons_succ,i64_w,i32_w]
           rfl
          refine pure_ (i:=12) (N:=some 36) (v:=?_) (a':=?_) #[true,false,true,true,true,true,false,false,false,false,false,true,true,false,false,false,false,false,false,false,false,false] rfl rfl (any_of HT_.out (by kernel_rfl)) (fun _ _ _ h=>h) (Or.inl ⟨by rfl,?_⟩) ?_ ?_
          rotate_left
          ·intro w'
           go_simp
           with_reducible rfl
          rotate_left
          ·simp only [Act.put,List.setIfInBounds_toArray,List.set_cons_zero,List.set_cons_succ,i64_w,i32_w]
           rfl
          refine pure_ (i:=13) (N:=some 37) (v:=?_) (a':=?_) #[true,false,true,true,true,true,false,false,false,false,false,true,true,true,false,false,false,false,false,false,false,false] rfl rfl (any_of HT_.out (by kernel_rfl)) (fun _ _ _ h=>h) (Or.inl ⟨by rfl,?_⟩) ?_ ?_
          rotate_left
          ·intro w'
           go_simp
           with_reducible rfl
          rotate_left
          ·simp only [Act.put,List.setIfInBounds_toArray,List.set_cons_zero,List.set_cons_succ,i64_w,i32_w]
           rfl
          refine pure_ (i:=14) (N:=some 38) (v:=?_) (a':=?_) #[true,false,true,true,true,true,false,false,false,false,false,true,true,true,true,false,false,false,false,false,false,false] rfl rfl (any_of HT_.out (by kernel_rfl)) (fun _ _ _ h=>h) (Or.inl ⟨by rfl,?_⟩) ?_ ?_
          rotate_left
          ·intro w'
           go_simp
           with_reducible rfl
          rotate_left
          ·simp only [Act.put,List.setIfInBounds_toArray,List.set_cons_zero,List.set_cons_succ,i64_w,i32_w]
           rfl
          refine pure_ (i:=16) (N:=some 40) (v:=?_) (a':=?_) #[true,false,true,true,true,true,false,false,false,false,false,true,true,true,true,false,true,false,false,false,false,false] rfl rfl (any_of HT_.out (by kernel_rfl)) (fun _ _ _ h=>h) (Or.inl ⟨by rfl,?_⟩) ?_ ?_
          rotate_left
          ·intro w'
           go_simp
           with_reducible rfl
          rotate_left
          ·simp only [Act.put,List.setIfInBounds_toArray,List.set_cons_zero,List.set_cons_succ,i64_w,i32_w]
           rfl
          refine pure_ (i:=17) (N:=some 41) (v:=?_) (a':=?_) #[true,false,true,true,true,true,false,false,false,false,false,true,true,true,true,false,true,true,false,false,false,false] rfl rfl (any_of HT_.out (by kernel_rfl)) (fun _ _ _ h=>h) (Or.inl ⟨by rfl,?_⟩) ?_ ?_
          rotate_left
          ·intro w'
           go_simp
           with_reducible rfl
          rotate_left
          ·simp only [Act.put,List.setIfInBounds_toArray,List.set_cons_zero,List.set_cons_succ,i64_w,i32_w]
           rfl
          refine pure_ (i:=18) (N:=some 42) (v:=?_) (a':=?_) #[true,false,true,true,true,true,false,false,false,false,false,true,true,true,true,false,true,true,true,false,false,false] rfl rfl (any_of HT_.out (by kernel_rfl)) (fun _ _ _ h=>h) (Or.inl ⟨by rfl,?_⟩) ?_ ?_
          rotate_left
          ·intro w'
           go_simp
           with_reducible rfl
          rotate_left
          ·simp only [Act.put,List.setIfInBounds_toArray,List.set_cons_zero,List.set_cons_succ,i64_w,i32_w]
           rfl
          refine take_ (i:=6) (N:=some 30) (v:=?_) (a':=?_) #[true,false,true,true,true,true,true,false,false,false,false,true,true,true,true,false,true,true,true,false,false,false] rfl rfl (take_ofW HT_.out HW_.out (by kernel_rfl)) (fun _ _ _ h=>h) (Or.inl ⟨by rfl,?_⟩) hHeld ?_ ?_
          rotate_left
          ·rintro w' ⟨s0,s1,s2,s3⟩
           go_simp
           with_reducible rfl
          rotate_left
          ·simp only [Act.put,List.setIfInBounds_toArray,List.set_cons_zero,List.set_cons_succ,i64_w,i32_w]
           rfl
          refine pure_ (i:=7) (N:=some 31) (v:=?_) (a':=?_) #[true,false,true,true,true,true,true,true,false,false,false,true,true,true,true,false,true,true,true,false,false,false] rfl rfl (any_of HT_.out (by kernel_rfl)) (fun _ _ _ h=>h) (Or.inl ⟨by rfl,?_⟩) ?_ ?_
          rotate_left
          ·intro w'
           go_simp
           with_reducible rfl
          rotate_left
          ·simp only [Act.put,List.setIfInBounds_toArray,List.set_cons_zero,List.set_cons_succ,i64_w,i32_w]
           rfl
          refine take_ (i:=15) (N:=some 39) (v:=?_) (a':=?_) #[true,false,true,true,true,true,true,true,false,false,false,true,true,true,true,true,true,true,true,false,false,false] rfl rfl (take_ofW HT_.out HW_.out (by kernel_rfl)) (fun _ _ _ h=>h) (Or.inl ⟨by rfl,?_⟩) hHeld ?_ ?_
          rotate_left
          ·rintro w' ⟨s0,s1,s2,s3⟩
           go_simp
           with_reducible rfl
          rotate_left
          ·simp only [Act.put,List.setIfInBounds_toArray,List.set_cons_zero,List.set_cons_succ,i64_w,i32_w]
           rfl
          refine join_ (σ:=Value × Addr × Value) 2 #[true,true,true,true,true,true,true,true,true,true,true,true,true,true,true,true,true,true,true,true,false,false] (fun s_=>[(25,s_.1),(32,.int .i64 t302),(34,.string (rdOf ByteArray.empty y298 t302)),(43,s_.2.2),(33,.pointer (some (s_.2.1.add (t302).toNat)))]) (fun s_ w'=>(w'.cell? (ad301.add ((x8_1).toNat * 2))=some (.string ((rd_T73 l0 x8_1).f0))∧w'.cell? ⟨(ad301.add ((x8_1).toNat * 2)).block,(ad301.add ((x8_1).toNat * 2)).off+1,none⟩=some (.slice A301_1 ((rd_T73 l0 x8_1).f1).length c301_1)∧w'.cell? (ad301.add ((x8_1).toNat * 2))=some (.string ((rd_T73 l0 x8_1).f0))∧w'.cell? ⟨(ad301.add ((x8_1).toNat * 2)).block,(ad301.add ((x8_1).toNat * 2)).off+1,none⟩=some (.slice A301_1 ((rd_T73 l0 x8_1).f1).length c301_1))∧(Kd.R Kd.string 9 w' w.heap.size (fun k_=>(w.heap.size≤k_)) s_.1 y298)∧(Kd.N k51 51 w' w.heap.size (fun k_=>(w.heap.size≤k_)∧some k_≠(s_.1:Value).ownBlock∧some k_≠(.slice Ao15 x7_1.length co15:Value).ownBlock) s_.2.2 t305)∧(Kd.N k51 51 w' w.heap.size (fun k_=>(w.heap.size≤k_)∧some k_≠(s_.1:Value).ownBlock∧some k_≠(s_.2.2:Value).ownBlock) (.slice Ao15 x7_1.length co15) x7_1)∧(∃ c_,(s_.1:Value)=.slice (some s_.2.1) y298.length c_)∧(Below w.heap.size w w')) ?_ ?_
          rotate_left
          ·intro hJ1_8_10_19
           refine join_ (σ:=Value × Addr) 3 #[true,true,true,true,true,true,true,true,true,true,true,true,true,true,true,true,true,true,true,false,false,false] (fun s_=>[(25,s_.1),(32,.int .i64 t302),(34,.string (rdOf ByteArray.empty y298 t302)),(33,.pointer (some (s_.2.add (t302).toNat)))]) (fun s_ w'=>(w'.cell? (ad301.add ((x8_1).toNat * 2))=some (.string ((rd_T73 l0 x8_1).f0))∧w'.cell? ⟨(ad301.add ((x8_1).toNat * 2)).block,(ad301.add ((x8_1).toNat * 2)).off+1,none⟩=some (.slice A301_1 ((rd_T73 l0 x8_1).f1).length c301_1)∧w'.cell? (ad301.add ((x8_1).toNat * 2))=some (.string ((rd_T73 l0 x8_1).f0))∧w'.cell? ⟨(ad301.add ((x8_1).toNat * 2)).block,(ad301.add ((x8_1).toNat * 2)).off+1,none⟩=some (.slice A301_1 ((rd_T73 l0 x8_1).f1).length c301_1))∧(Kd.R Kd.string 9 w' w.heap.size (fun k_=>(w.heap.size≤k_)) s_.1 y298)∧(Kd.N k51 51 w' w.heap.size (fun k_=>(w.heap.size≤k_)∧some k_≠(s_.1:Value).ownBlock) (.slice Ao15 x7_1.length co15) x7_1)∧(∃ c_,(s_.1:Value)=.slice (some s_.2) y298.length c_)∧(Below w.heap.size w w')) ?_ ?_
           rotate_left
           ·intro hJ1_8_10
            refine join_ (σ:=Value × Addr × Value) 3 #[true,true,true,true,true,true,true,true,true,true,false,true,true,true,true,true,true,true,true,true,false,false] (fun s_=>[(25,s_.1),(32,.int .i64 t302),(43,s_.2.2),(33,.pointer (some (s_.2.1.add (t302).toNat)))]) (fun s_ w'=>(w'.cell? (ad301.add ((x8_1).toNat * 2))=some (.string ((rd_T73 l0 x8_1).f0))∧w'.cell? ⟨(ad301.add ((x8_1).toNat * 2)).block,(ad301.add ((x8_1).toNat * 2)).off+1,none⟩=some (.slice A301_1 ((rd_T73 l0 x8_1).f1).length c301_1)∧w'.cell? (ad301.add ((x8_1).toNat * 2))=some (.string ((rd_T73 l0 x8_1).f0))∧w'.cell? ⟨(ad301.add ((x8_1).toNat * 2)).block,(ad301.add ((x8_1).toNat * 2)).off+1,none⟩=some (.slice A301_1 ((rd_T73 l0 x8_1).f1).length c301_1))∧(Kd.R Kd.string 9 w' w.heap.size (fun k_=>(w.heap.size≤k_)) s_.1 y298)∧(Kd.N k51 51 w' w.heap.size (fun k_=>(w.heap.size≤k_)∧some k_≠(s_.1:Value).ownBlock∧some k_≠(.slice Ao15 x7_1.length co15:Value).ownBlock) s_.2.2 t305)∧(Kd.N k51 51 w' w.heap.size (fun k_=>(w.heap.size≤k_)∧some k_≠(s_.1:Value).ownBlock∧some k_≠(s_.2.2:Value).ownBlock) (.slice Ao15 x7_1.length co15) x7_1)∧(∃ c_,(s_.1:Value)=.slice (some s_.2.1) y298.length c_)∧(Below w.heap.size w w')) ?_ ?_
            rotate_left
            ·intro hJ1_8_19
             refine join_ (σ:=Value × Addr) 4 #[true,true,true,true,true,true,true,true,true,true,false,true,true,true,true,true,true,true,true,false,false,false] (fun s_=>[(25,s_.1),(32,.int .i64 t302),(33,.pointer (some (s_.2.add (t302).toNat)))]) (fun s_ w'=>(w'.cell? (ad301.add ((x8_1).toNat * 2))=some (.string ((rd_T73 l0 x8_1).f0))∧w'.cell? ⟨(ad301.add ((x8_1).toNat * 2)).block,(ad301.add ((x8_1).toNat * 2)).off+1,none⟩=some (.slice A301_1 ((rd_T73 l0 x8_1).f1).length c301_1)∧w'.cell? (ad301.add ((x8_1).toNat * 2))=some (.string ((rd_T73 l0 x8_1).f0))∧w'.cell? ⟨(ad301.add ((x8_1).toNat * 2)).block,(ad301.add ((x8_1).toNat * 2)).off+1,none⟩=some (.slice A301_1 ((rd_T73 l0 x8_1).f1).length c301_1))∧(Kd.R Kd.string 9 w' w.heap.size (fun k_=>(w.heap.size≤k_)) s_.1 y298)∧(Kd.N k51 51 w' w.heap.size (fun k_=>(w.heap.size≤k_)∧some k_≠(s_.1:Value).ownBlock) (.slice Ao15 x7_1.length co15) x7_1)∧(∃ c_,(s_.1:Value)=.slice (some s_.2) y298.length c_)∧(Below w.heap.size w w')) ?_ ?_
             rotate_left
             ·intro hJ1_8
              refine join_ (σ:=Value) 5 #[true,false,true,true,true,true,true,true,true,false,false,true,true,true,true,true,true,true,true,true,false,false] (fun s_=>[(32,.int .i64 t302),(43,s_)]) (fun s_ w'=>(w'.cell? (ad301.add ((x8_1).toNat * 2))=some (.string ((rd_T73 l0 x8_1).f0))∧w'.cell? ⟨(ad301.add ((x8_1).toNat * 2)).block,(ad301.add ((x8_1).toNat * 2)).off+1,none⟩=some (.slice A301_1 ((rd_T73 l0 x8_1).f1).length c301_1)∧w'.cell? (ad301.add ((x8_1).toNat * 2))=some (.string ((rd_T73 l0 x8_1).f0))∧w'.cell? ⟨(ad301.add ((x8_1).toNat * 2)).block,(ad301.add ((x8_1).toNat * 2)).off+1,none⟩=some (.slice A301_1 ((rd_T73 l0 x8_1).f1).length c301_1))∧(Kd.N k51 51 w' w.heap.size (fun k_=>(w.heap.size≤k_)∧some k_≠(.slice Ao15 x7_1.length co15:Value).ownBlock) s_ t305)∧(Kd.N k51 51 w' w.heap.size (fun k_=>(w.heap.size≤k_)∧some k_≠(s_:Value).ownBlock) (.slice Ao15 x7_1.length co15) x7_1)∧(Below w.heap.size w w')) ?_ ?_
              rotate_left
              ·intro hJ8_19
               refine join_ (σ:=Value × Addr) 6 #[true,true,true,true,true,true,true,true,false,false,false,true,true,true,true,true,true,true,true,false,false,false] (fun s_=>[(25,s_.1)]) (fun s_ w'=>(w'.cell? (ad301.add ((x8_1).toNat * 2))=some (.string ((rd_T73 l0 x8_1).f0))∧w'.cell? ⟨(ad301.add ((x8_1).toNat * 2)).block,(ad301.add ((x8_1).toNat * 2)).off+1,none⟩=some (.slice A301_1 ((rd_T73 l0 x8_1).f1).length c301_1)∧w'.cell? (ad301.add ((x8_1).toNat * 2))=some (.string ((rd_T73 l0 x8_1).f0))∧w'.cell? ⟨(ad301.add ((x8_1).toNat * 2)).block,(ad301.add ((x8_1).toNat * 2)).off+1,none⟩=some (.slice A301_1 ((rd_T73 l0 x8_1).f1).length c301_1))∧(Kd.R Kd.string 9 w' w.heap.size (fun k_=>(w.heap.size≤k_)) s_.1 y298)∧(Kd.N k51 51 w' w.heap.size (fun k_=>(w.heap.size≤k_)∧some k_≠(s_.1:Value).ownBlock) (.slice Ao15 x7_1.length co15) x7_1)∧(∃ c_,(s_.1:Value)=.slice (some s_.2) y298.length c_)∧(Below w.heap.size w w')) ?_ ?_
               rotate_left
               ·intro hJ1
                refine join_ (σ:=Unit) 6 #[true,false,true,true,true,true,true,true,true,false,false,true,true,true,true,true,true,true,true,false,false,false] (fun s_=>[(32,.int .i64 t302)]) (fun s_ w'=>(w'.cell? (ad301.add ((x8_1).toNat * 2))=some (.string ((rd_T73 l0 x8_1).f0))∧w'.cell? ⟨(ad301.add ((x8_1).toNat * 2)).block,(ad301.add ((x8_1).toNat * 2)).off+1,none⟩=some (.slice A301_1 ((rd_T73 l0 x8_1).f1).length c301_1)∧w'.cell? (ad301.add ((x8_1).toNat * 2))=some (.string ((rd_T73 l0 x8_1).f0))∧w'.cell? ⟨(ad301.add ((x8_1).toNat * 2)).block,(ad301.add ((x8_1).toNat * 2)).off+1,none⟩=some (.slice A301_1 ((rd_T73 l0 x8_1).f1).length c301_1))∧(Kd.N k51 51 w' w.heap.size (fun k_=>(w.heap.size≤k_)) (.slice Ao15 x7_1.length co15) x7_1)∧(Below w.heap.size w w')) ?_ ?_
                rotate_left
                ·intro hJ8
                 refine two_ (i:=1) (j:=8) (Ni:=some 25) (Nj:=some 32) #[true,true,true,true,true,true,true,true,false,false,false,true,true,true,true,true,true,true,true,false,false,false] #[true,false,true,true,true,true,true,true,true,false,false,true,true,true,true,true,true,true,true,false,false,false] rfl rfl rfl rfl (two_of HT_.out (by kernel_rfl)) (by decide) (by decide) (fun K hK=>?_) (fun K hK=>?_)
                 ·skip
                  refine Kd.R_lit_step Kd.string _ 9 ?hg (N:=25) ?hd (xs:=([(⟨#[]⟩:ByteArray),(⟨#[97]⟩:ByteArray),(⟨#[98]⟩:ByteArray),(⟨#[99]⟩:ByteArray),(⟨#[100]⟩:ByteArray)]:List ByteArray)) (inner:=[.string (⟨#[]⟩:ByteArray),.string (⟨#[97]⟩:ByteArray),.string (⟨#[98]⟩:ByteArray),.string (⟨#[99]⟩:ByteArray),.string (⟨#[100]⟩:ByteArray)]) (ok:=fun _=>True) (okp:=fun _=>True) ?hr ?hp (fun _ hk=>hk) trivial (Below.refl _ _) (Nat.le_refl _) (by simp) ?_;(case hd=>rfl);(case hg=>rfl);(case hr=>first|(go_simp;done)|(go_simp;rfl));(case hp=>exact (Reps.one (show Kd.M Kd.string _ _ _ (⟨#[]⟩:ByteArray) [.string (⟨#[]⟩:ByteArray)] from rfl) (Reps.one (show Kd.M Kd.string _ _ _ (⟨#[97]⟩:ByteArray) [.string (⟨#[97]⟩:ByteArray)] from rfl) (Reps.one (show Kd.M Kd.string _ _ _ (⟨#[98]⟩:ByteArray) [.string (⟨#[98]⟩:ByteArray)] from rfl) (Reps.one (show Kd.M Kd.string _ _ _ (⟨#[99]⟩:ByteArray) [.string (⟨#[99]⟩:ByteArray)] from rfl) (Reps.one (show Kd.M Kd.string _ _ _ (⟨#[100]⟩:ByteArray) [.string (⟨#[100]⟩:ByteArray)] from rfl) (Reps.none _ _)))))))
                  intro v299 w17 ho18 hb hg_ hnew_
                  clear hg_ hnew_
                  (first|rw [← Ny298.out] at ho18|(simp only [Int.reduceToNat] at ho18;rw [← Ny298.out] at ho18))
                  have n0_:=Aside0.mk (Kd.N_elder' (by (with_reducible repeat (first|apply nA_|apply nN_|apply nD_));exact HO_7.out) (Kd.R_base ho18) hb)
                  have n1_:=Aside0.mk (Kd.R_lower (Kd.R_newM (M:=fun k_=>(w.heap.size≤k_)) ho18 (below_size (by repeat (first|(with_reducible first|exact HB.out|apply bA_|apply bN_|apply bD_)|exact HB.out))) (fun k_ h_=>h_)) (below_size (by repeat (first|(with_reducible first|exact HB.out|apply bA_|apply bN_|apply bD_)|exact HB.out))))
                  have n2_:=Aside0.mk (below_step (by repeat (first|(with_reducible first|exact HB.out|apply bA_|apply bN_|apply bD_)|exact HB.out)) hb)
                  clear HO_7
                  clear HB
                  have HO_7:=n0_
                  have HO300:=n1_
                  have HB:=n2_
                  clear n0_ n1_ n2_
                  clear hb ho18
                  obtain ⟨Ao19,co19,eo19⟩:=Kd.R_slice HO300.out
                  subst eo19
                  obtain ⟨ado19,fo19,_⟩:=Kd.at_string (Kd.R_reads' HO300.out).2.2 0 (by decide) (by rw [Ny298.out];simp)
                  cases fo19
                  refine hK.out _ _ ⟨((HB.out.cell (World.block_lt_of_cell? w _ hw301_0)).trans hw301_0),((HB.out.cell (World.block_lt_of_cell? w _ hw301_1)).trans hw301_1),((HB.out.cell (World.block_lt_of_cell? w _ hw304_0)).trans hw304_0),((HB.out.cell (World.block_lt_of_cell? w _ hw304_1)).trans hw304_1)⟩ (fun hHeld=>?_)
                  clear hK K
                  refine norm_ (a':=?_) ?_ ?_
                  rotate_left
                  ·show Act.put _ (some 25) _=_
                   simp only [Act.put,List.setIfInBounds_toArray,List.set_cons_zero,List.set_cons_succ,i64_w,i32_w]
                   rfl
                  exact norm_ (by first|(simp only [putAll,Act.put,List.setIfInBounds_toArray,List.set_cons_zero,List.set_cons_succ];done)|(simp only [putAll,Act.put,List.setIfInBounds_toArray,List.set_cons_zero,List.set_cons_succ];rfl)) (hJ1 (.slice (some ado19) y298.length co19,ado19) _ ⟨hHeld,(by (with_reducible repeat (first|apply rA_|apply rN_|apply rD_));exact Kd.R_mono HO300.out (fun _ hk=>hk.1)),(by (with_reducible repeat (first|apply nA_|apply nN_|apply nD_));exact HO_7.out),⟨_,rfl⟩,(by repeat (first|(with_reducible first|exact HB.out|apply bA_|apply bN_|apply bD_)|exact HB.out))⟩)
                 ·skip
                  refine goes_ Try.func25 (by kernel_rfl) rfl #[.int .i64 (((rd_T73 l0 x8_1).f0).size:Int),.int .i64 5] (by rfl) rfl rfl (by (try simp only [List.map_toArray,List.map_cons,List.map_nil]);first|done|rfl|(simp only [List.length_drop,List.length_take];rfl)) ?_
                  with_reducible refine (cadencelaw4_within.calls (((rd_T73 l0 x8_1).f0).size:Int) 5 t302 _ A10.out).mono ?_
                  rintro e w' ⟨rfl,⟨nd,rfl⟩⟩
                  refine ⟨_,rfl,?_⟩
                  refine hK.out _ _ ⟨((HB.out.cell (World.block_lt_of_cell? w _ hw301_0)).trans hw301_0),((HB.out.cell (World.block_lt_of_cell? w _ hw301_1)).trans hw301_1),((HB.out.cell (World.block_lt_of_cell? w _ hw304_0)).trans hw304_0),((HB.out.cell (World.block_lt_of_cell? w _ hw304_1)).trans hw304_1)⟩ (fun hHeld=>?_)
                  clear hK K
                  refine norm_ (a':=?_) ?_ ?_
                  rotate_left
                  ·show Act.put _ (some 32) _=_
                   simp only [Act.put,List.setIfInBounds_toArray,List.set_cons_zero,List.set_cons_succ,i64_w,i32_w]
                   rfl
                  exact norm_ (by first|(simp only [putAll,Act.put,List.setIfInBounds_toArray,List.set_cons_zero,List.set_cons_succ];done)|(simp only [putAll,Act.put,List.setIfInBounds_toArray,List.set_cons_zero,List.set_cons_succ];rfl)) (hJ8 () _ ⟨hHeld,(by (with_reducible repeat (first|apply nA_|apply nN_|apply nD_));exact HO_7.out),(by repeat (first|(with_reducible first|exact HB.out|apply bA_|apply bN_|apply bD_)|exact HB.out))⟩)
                ·skip
                 rintro _ w17 ⟨hS_,h0_,h1_⟩
                 have n0_:Aside0 (Kd.N k51 51 w17 w.heap.size (fun k_=>(w.heap.size≤k_)) (.slice Ao15 x7_1.length co15) x7_1):=⟨h0_⟩
                 have n1_:Aside0 (Below w.heap.size w w17):=⟨h1_⟩
                 clear HO_7
                 clear HB
                 clear h0_ h1_
                 have HO_7:=n0_
                 have HB:=n1_
                 clear n0_ n1_
                 have hHeld:w17.cell? (ad301.add ((x8_1).toNat * 2))=some (.string ((rd_T73 l0 x8_1).f0))∧w17.cell? ⟨(ad301.add ((x8_1).toNat * 2)).block,(ad301.add ((x8_1).toNat * 2)).off+1,none⟩=some (.slice A301_1 ((rd_T73 l0 x8_1).f1).length c301_1)∧w17.cell? (ad301.add ((x8_1).toNat * 2))=some (.string ((rd_T73 l0 x8_1).f0))∧w17.cell? ⟨(ad301.add ((x8_1).toNat * 2)).block,(ad301.add ((x8_1).toNat * 2)).off+1,none⟩=some (.slice A301_1 ((rd_T73 l0 x8_1).f1).length c301_1):=hS_
                 refine norm_ (a':=?_) ?_ ?_
                 rotate_left
                 ·simp only [putAll,Act.put,List.setIfInBounds_toArray,List.set_cons_zero,List.set_cons_succ]
                  rfl
                 refine two_ (i:=1) (j:=19) (Ni:=some 25) (Nj:=some 43) #[true,true,true,true,true,true,true,true,true,false,false,true,true,true,true,true,true,true,true,false,false,false] #[true,false,true,true,true,true,true,true,true,false,false,true,true,true,true,true,true,true,true,true,false,false] rfl rfl rfl rfl (two_of HT_.out (by kernel_rfl)) (by decide) (by decide) (fun K hK=>?_) (fun K hK=>?_)
                 ·skip
                  refine Kd.R_lit_step Kd.string _ 9 ?hg (N:=25) ?hd (xs:=([(⟨#[]⟩:ByteArray),(⟨#[97]⟩:ByteArray),(⟨#[98]⟩:ByteArray),(⟨#[99]⟩:ByteArray),(⟨#[100]⟩:ByteArray)]:List ByteArray)) (inner:=[.string (⟨#[]⟩:ByteArray),.string (⟨#[97]⟩:ByteArray),.string (⟨#[98]⟩:ByteArray),.string (⟨#[99]⟩:ByteArray),.string (⟨#[100]⟩:ByteArray)]) (ok:=fun _=>True) (okp:=fun _=>True) ?hr ?hp (fun _ hk=>hk) trivial (Below.refl _ _) (Nat.le_refl _) (by simp) ?_;(case hd=>rfl);(case hg=>rfl);(case hr=>first|(go_simp;done)|(go_simp;rfl));(case hp=>exact (Reps.one (show Kd.M Kd.string _ _ _ (⟨#[]⟩:ByteArray) [.string (⟨#[]⟩:ByteArray)] from rfl) (Reps.one (show Kd.M Kd.string _ _ _ (⟨#[97]⟩:ByteArray) [.string (⟨#[97]⟩:ByteArray)] from rfl) (Reps.one (show Kd.M Kd.string _ _ _ (⟨#[98]⟩:ByteArray) [.string (⟨#[98]⟩:ByteArray)] from rfl) (Reps.one (show Kd.M Kd.string _ _ _ (⟨#[99]⟩:ByteArray) [.string (⟨#[99]⟩:ByteArray)] from rfl) (Reps.one (show Kd.M Kd.string _ _ _ (⟨#[100]⟩:ByteArray) [.string (⟨#[100]⟩:ByteArray)] from rfl) (Reps.none _ _)))))))
                  intro v299 w18 ho19 hb hg_ hnew_
                  clear hg_ hnew_
                  (first|rw [← Ny298.out] at ho19|(simp only [Int.reduceToNat] at ho19;rw [← Ny298.out] at ho19))
                  have n0_:=Aside0.mk (Kd.N_elder' (by (with_reducible repeat (first|apply nA_|apply nN_|apply nD_));exact HO_7.out) (Kd.R_base ho19) hb)
                  have n1_:=Aside0.mk (Kd.R_lower (Kd.R_newM (M:=fun k_=>(w.heap.size≤k_)) ho19 (below_size (by repeat (first|(with_reducible first|exact HB.out|apply bA_|apply bN_|apply bD_)|exact HB.out))) (fun k_ h_=>h_)) (below_size (by repeat (first|(with_reducible first|exact HB.out|apply bA_|apply bN_|apply bD_)|exact HB.out))))
                  have n2_:=Aside0.mk (below_step (by repeat (first|(with_reducible first|exact HB.out|apply bA_|apply bN_|apply bD_)|exact HB.out)) hb)
                  clear HO_7
                  clear HB
                  have HO_7:=n0_
                  have HO300:=n1_
                  have HB:=n2_
                  clear n0_ n1_ n2_
                  clear hb ho19
                  obtain ⟨Ao20,co20,eo20⟩:=Kd.R_slice HO300.out
                  subst eo20
                  obtain ⟨ado20,fo20,_⟩:=Kd.at_string (Kd.R_reads' HO300.out).2.2 0 (by decide) (by rw [Ny298.out];simp)
                  cases fo20
                  refine hK.out _ _ ⟨((HB.out.cell (World.block_lt_of_cell? w _ hw301_0)).trans hw301_0),((HB.out.cell (World.block_lt_of_cell? w _ hw301_1)).trans hw301_1),((HB.out.cell (World.block_lt_of_cell? w _ hw304_0)).trans hw304_0),((HB.out.cell (World.block_lt_of_cell? w _ hw304_1)).trans hw304_1)⟩ (fun hHeld=>?_)
                  clear hK K
                  refine norm_ (a':=?_) ?_ ?_
                  rotate_left
                  ·show Act.put _ (some 25) _=_
                   simp only [Act.put,List.setIfInBounds_toArray,List.set_cons_zero,List.set_cons_succ,i64_w,i32_w]
                   rfl
                  refine pure_ (i:=9) (N:=some 33) (v:=?_) (a':=?_) #[true,true,true,true,true,true,true,true,true,true,false,true,true,true,true,true,true,true,true,false,false,false] rfl rfl (any_of HT_.out (by kernel_rfl)) (fun _ _ _ h=>h) (Or.inl ⟨by rfl,?_⟩) ?_ ?_
                  rotate_left
                  ·intro w'
                   go_simp
                   with_reducible rfl
                  rotate_left
                  ·simp only [Act.put,List.setIfInBounds_toArray,List.set_cons_zero,List.set_cons_succ,i64_w,i32_w]
                   rfl
                  exact norm_ (by first|(simp only [putAll,Act.put,List.setIfInBounds_toArray,List.set_cons_zero,List.set_cons_succ];done)|(simp only [putAll,Act.put,List.setIfInBounds_toArray,List.set_cons_zero,List.set_cons_succ];rfl)) (hJ1_8 (.slice (some ado20) y298.length co20,ado20) _ ⟨hHeld,(by (with_reducible repeat (first|apply rA_|apply rN_|apply rD_));exact Kd.R_mono HO300.out (fun _ hk=>hk.1)),(by (with_reducible repeat (first|apply nA_|apply nN_|apply nD_));exact HO_7.out),⟨_,rfl⟩,(by repeat (first|(with_reducible first|exact HB.out|apply bA_|apply bN_|apply bD_)|exact HB.out))⟩)
                 ·skip
                  refine goes_ Try.func14 (by kernel_rfl) rfl #[.slice A301_1 ((rd_T73 l0 x8_1).f1).length c301_1,.int .i64 a1,.int .i64 (wrap64 (a2 - 1))] (by rfl) rfl rfl (by (try simp only [List.map_toArray,List.map_cons,List.map_nil]);first|done|rfl|(simp only [List.length_drop,List.length_take];rfl)) ?_
                  with_reducible refine (ih kj3 (by have:=HK1.out;have:=HJ3.out;omega) _ _ ((rd_T73 l0 x8_1).f1) a1 (wrap64 (a2 - 1)) t305 _ ?side1 ?side2 A13.out).mono ?_
                  (case side1=>repeat (first|exact (Kd.C_below HR304_1.out HB.out)|(with_reducible refine cA_ ?_ _)|(with_reducible refine cN_ ?_ _)|(with_reducible refine cD_ ?_)))
                  (case side2=>exact HC304_1.out)
                  rintro e w18 ⟨v306,rfl,ho0,hb⟩
                  refine ⟨_,rfl,?_⟩
                  have n0_:=Aside0.mk (Kd.N_elder' (by (with_reducible repeat (first|apply nA_|apply nN_|apply nD_));exact HO_7.out) (Kd.N_base ho0) hb)
                  have n1_:=Aside0.mk (Kd.N_lower (Kd.N_mono (ok':=fun k_=>(w.heap.size≤k_)∧some k_≠(.slice Ao15 x7_1.length co15:Value).ownBlock) ho0 (fun k_ hk_=>⟨(Nat.le_trans (below_size (by repeat (first|(with_reducible first|exact HB.out|apply bA_|apply bN_|apply bD_)|exact HB.out))) hk_),(Kd.fresh' (Kd.N_lt (by (with_reducible repeat (first|apply nA_|apply nN_|apply nD_));exact HO_7.out)) k_ hk_)⟩)) (below_size (by repeat (first|(with_reducible first|exact HB.out|apply bA_|apply bN_|apply bD_)|exact HB.out))))
                  have n2_:=Aside0.mk (below_step (by repeat (first|(with_reducible first|exact HB.out|apply bA_|apply bN_|apply bD_)|exact HB.out)) hb)
                  clear HO_7
                  clear HB
                  have HO_7:=n0_
                  have HO307:=n1_
                  have HB:=n2_
                  clear n0_ n1_ n2_
                  (try clear hb)
                  (try clear hb2)
                  (try clear hk)
                  (try clear hi)
                  (try clear ho0)
                  refine hK.out _ _ ⟨((HB.out.cell (World.block_lt_of_cell? w _ hw301_0)).trans hw301_0),((HB.out.cell (World.block_lt_of_cell? w _ hw301_1)).trans hw301_1),((HB.out.cell (World.block_lt_of_cell? w _ hw304_0)).trans hw304_0),((HB.out.cell (World.block_lt_of_cell? w _ hw304_1)).trans hw304_1)⟩ (fun hHeld=>?_)
                  clear hK K
                  refine norm_ (a':=?_) ?_ ?_
                  rotate_left
                  ·show Act.put _ (some 43) _=_
                   simp only [Act.put,List.setIfInBounds_toArray,List.set_cons_zero,List.set_cons_succ,i64_w,i32_w]
                   rfl
                  exact norm_ (by first|(simp only [putAll,Act.put,List.setIfInBounds_toArray,List.set_cons_zero,List.set_cons_succ];done)|(simp only [putAll,Act.put,List.setIfInBounds_toArray,List.set_cons_zero,List.set_cons_succ];rfl)) (hJ8_19 (v306) _ ⟨hHeld,(by (with_reducible repeat (first|apply nA_|apply nN_|apply nD_));exact HO307.out),(by (with_reducible repeat (first|apply nA_|apply nN_|apply nD_));exact HO_7.out),(by repeat (first|(with_reducible first|exact HB.out|apply bA_|apply bN_|apply bD_)|exact HB.out))⟩)
               ·skip
                rintro ⟨v299,adz_v299⟩ w20 ⟨hS_,h0_,h1_,h2_,h3_⟩
                have n0_:Aside0 (Kd.R Kd.string 9 w20 w.heap.size (fun k_=>(w.heap.size≤k_)) v299 y298):=⟨h0_⟩
                have n1_:Aside0 (Kd.N k51 51 w20 w.heap.size (fun k_=>(w.heap.size≤k_)∧some k_≠(v299:Value).ownBlock) (.slice Ao15 x7_1.length co15) x7_1):=⟨h1_⟩
                have n2_:Aside0 (∃ c_,(v299:Value)=.slice (some adz_v299) y298.length c_):=⟨h2_⟩
                have n3_:Aside0 (Below w.heap.size w w20):=⟨h3_⟩
                clear HO_7
                clear HB
                clear h0_ h1_ h2_ h3_
                have HO300:=n0_
                have HO_7:=n1_
                have HA_HO300:=n2_
                have HB:=n3_
                clear n0_ n1_ n2_ n3_
                have hHeld:w20.cell? (ad301.add ((x8_1).toNat * 2))=some (.string ((rd_T73 l0 x8_1).f0))∧w20.cell? ⟨(ad301.add ((x8_1).toNat * 2)).block,(ad301.add ((x8_1).toNat * 2)).off+1,none⟩=some (.slice A301_1 ((rd_T73 l0 x8_1).f1).length c301_1)∧w20.cell? (ad301.add ((x8_1).toNat * 2))=some (.string ((rd_T73 l0 x8_1).f0))∧w20.cell? ⟨(ad301.add ((x8_1).toNat * 2)).block,(ad301.add ((x8_1).toNat * 2)).off+1,none⟩=some (.slice A301_1 ((rd_T73 l0 x8_1).f1).length c301_1):=hS_
                obtain ⟨co21,eo21⟩:=HA_HO300.out
                clear HA_HO300
                subst eo21
                refine norm_ (a':=?_) ?_ ?_
                rotate_left
                ·simp only [putAll,Act.put,List.setIfInBounds_toArray,List.set_cons_zero,List.set_cons_succ]
                 rfl
                refine one_ (i:=8) (N:=some 32) #[true,true,true,true,true,true,true,true,true,false,false,true,true,true,true,true,true,true,true,false,false,false] rfl rfl (one_of HT_.out (by kernel_rfl)) (by decide) (fun K hK=>?_)
                refine goes_ Try.func25 (by kernel_rfl) rfl #[.int .i64 (((rd_T73 l0 x8_1).f0).size:Int),.int .i64 5] (by rfl) rfl rfl (by (try simp only [List.map_toArray,List.map_cons,List.map_nil]);first|done|rfl|(simp only [List.length_drop,List.length_take];rfl)) ?_
                with_reducible refine (cadencelaw4_within.calls (((rd_T73 l0 x8_1).f0).size:Int) 5 t302 _ A10.out).mono ?_
                rintro e w' ⟨rfl,⟨nd,rfl⟩⟩
                refine ⟨_,rfl,?_⟩
                refine hK.out _ _ ⟨((HB.out.cell (World.block_lt_of_cell? w _ hw301_0)).trans hw301_0),((HB.out.cell (World.block_lt_of_cell? w _ hw301_1)).trans hw301_1),((HB.out.cell (World.block_lt_of_cell? w _ hw304_0)).trans hw304_0),((HB.out.cell (World.block_lt_of_cell? w _ hw304_1)).trans hw304_1)⟩ (fun hHeld=>?_)
                clear hK K
                refine norm_ (a':=?_) ?_ ?_
                rotate_left
                ·show Act.put _ (some 32) _=_
                 simp only [Act.put,List.setIfInBounds_toArray,List.set_cons_zero,List.set_cons_succ,i64_w,i32_w]
                 rfl
                refine pure_ (i:=9) (N:=some 33) (v:=?_) (a':=?_) #[true,true,true,true,true,true,true,true,true,true,false,true,true,true,true,true,true,true,true,false,false,false] rfl rfl (any_of HT_.out (by kernel_rfl)) (fun _ _ _ h=>h) (Or.inl ⟨by rfl,?_⟩) ?_ ?_
                rotate_left
                ·intro w'
                 go_simp
                 with_reducible rfl
                rotate_left
                ·simp only [Act.put,List.setIfInBounds_toArray,List.set_cons_zero,List.set_cons_succ,i64_w,i32_w]
                 rfl
                exact norm_ (by first|(simp only [putAll,Act.put,List.setIfInBounds_toArray,List.set_cons_zero,List.set_cons_succ];done)|(simp only [putAll,Act.put,List.setIfInBounds_toArray,List.set_cons_zero,List.set_cons_succ];rfl)) (hJ1_8 (.slice (some adz_v299) y298.length co21,adz_v299) _ ⟨hHeld,(by (with_reducible repeat (first|apply rA_|apply rN_|apply rD_));exact HO300.out),(by (with_reducible repeat (first|apply nA_|apply nN_|apply nD_));exact HO_7.out),⟨_,rfl⟩,(by repeat (first|(with_reducible first|exact HB.out|apply bA_|apply bN_|apply bD_)|exact HB.out))⟩)
              ·skip
               rintro v306 w18 ⟨hS_,h0_,h1_,h2_⟩
               have n0_:Aside0 (Kd.N k51 51 w18 w.heap.size (fun k_=>(w.heap.size≤k_)∧some k_≠(.slice Ao15 x7_1.length co15:Value).ownBlock) v306 t305):=⟨h0_⟩
               have n1_:Aside0 (Kd.N k51 51 w18 w.heap.size (fun k_=>(w.heap.size≤k_)∧some k_≠(v306:Value).ownBlock) (.slice Ao15 x7_1.length co15) x7_1):=⟨h1_⟩
               have n2_:Aside0 (Below w.heap.size w w18):=⟨h2_⟩
               clear HO_7
               clear HB
               clear h0_ h1_ h2_
               have HO307:=n0_
               have HO_7:=n1_
               have HB:=n2_
               clear n0_ n1_ n2_
               have hHeld:w18.cell? (ad301.add ((x8_1).toNat * 2))=some (.string ((rd_T73 l0 x8_1).f0))∧w18.cell? ⟨(ad301.add ((x8_1).toNat * 2)).block,(ad301.add ((x8_1).toNat * 2)).off+1,none⟩=some (.slice A301_1 ((rd_T73 l0 x8_1).f1).length c301_1)∧w18.cell? (ad301.add ((x8_1).toNat * 2))=some (.string ((rd_T73 l0 x8_1).f0))∧w18.cell? ⟨(ad301.add ((x8_1).toNat * 2)).block,(ad301.add ((x8_1).toNat * 2)).off+1,none⟩=some (.slice A301_1 ((rd_T73 l0 x8_1).f1).length c301_1):=hS_
               refine norm_ (a':=?_) ?_ ?_
               rotate_left
               ·simp only [putAll,Act.put,List.setIfInBounds_toArray,List.set_cons_zero,List.set_cons_succ]
                rfl
               refine one_ (i:=1) (N:=some 25) #[true,true,true,true,true,true,true,true,true,false,false,true,true,true,true,true,true,true,true,true,false,false] rfl rfl (one_of HT_.out (by kernel_rfl)) (by decide) (fun K hK=>?_)
               refine Kd.R_lit_step Kd.string _ 9 ?hg (N:=25) ?hd (xs:=([(⟨#[]⟩:ByteArray),(⟨#[97]⟩:ByteArray),(⟨#[98]⟩:ByteArray),(⟨#[99]⟩:ByteArray),(⟨#[100]⟩:ByteArray)]:List ByteArray)) (inner:=[.string (⟨#[]⟩:ByteArray),.string (⟨#[97]⟩:ByteArray),.string (⟨#[98]⟩:ByteArray),.string (⟨#[99]⟩:ByteArray),.string (⟨#[100]⟩:ByteArray)]) (ok:=fun _=>True) (okp:=fun _=>True) ?hr ?hp (fun _ hk=>hk) trivial (Below.refl _ _) (Nat.le_refl _) (by simp) ?_;(case hd=>rfl);(case hg=>rfl);(case hr=>first|(go_simp;done)|(go_simp;rfl));(case hp=>exact (Reps.one (show Kd.M Kd.string _ _ _ (⟨#[]⟩:ByteArray) [.string (⟨#[]⟩:ByteArray)] from rfl) (Reps.one (show Kd.M Kd.string _ _ _ (⟨#[97]⟩:ByteArray) [.string (⟨#[97]⟩:ByteArray)] from rfl) (Reps.one (show Kd.M Kd.string _ _ _ (⟨#[98]⟩:ByteArray) [.string (⟨#[98]⟩:ByteArray)] from rfl) (Reps.one (show Kd.M Kd.string _ _ _ (⟨#[99]⟩:ByteArray) [.string (⟨#[99]⟩:ByteArray)] from rfl) (Reps.one (show Kd.M Kd.string _ _ _ (⟨#[100]⟩:ByteArray) [.string (⟨#[100]⟩:ByteArray)] from rfl) (Reps.none _ _)))))))
               intro v299 w19 ho20 hb hg_ hnew_
               clear hg_ hnew_
               (first|rw [← Ny298.out] at ho20|(simp only [Int.reduceToNat] at ho20;rw [← Ny298.out] at ho20))
               have n0_:=Aside0.mk (Kd.N_elder' (by (with_reducible repeat (first|apply nA_|apply nN_|apply nD_));exact HO_7.out) (Kd.R_base ho20) hb)
               have n1_:=Aside0.mk (Kd.N_elder' (by (with_reducible repeat (first|apply nA_|apply nN_|apply nD_));exact HO307.out) (Kd.R_base ho20) hb)
               have n2_:=Aside0.mk (Kd.R_lower (Kd.R_newM (M:=fun k_=>(w.heap.size≤k_)) ho20 (below_size (by repeat (first|(with_reducible first|exact HB.out|apply bA_|apply bN_|apply bD_)|exact HB.out))) (fun k_ h_=>h_)) (below_size (by repeat (first|(with_reducible first|exact HB.out|apply bA_|apply bN_|apply bD_)|exact HB.out))))
               have n3_:=Aside0.mk (below_step (by repeat (first|(with_reducible first|exact HB.out|apply bA_|apply bN_|apply bD_)|exact HB.out)) hb)
               clear HO_7
               clear HO307
               clear HB
               have HO_7:=n0_
               have HO307:=n1_
               have HO300:=n2_
               have HB:=n3_
               clear n0_ n1_ n2_ n3_
               clear hb ho20
               obtain ⟨Ao21,co21,eo21⟩:=Kd.R_slice HO300.out
               subst eo21
               obtain ⟨ado21,fo21,_⟩:=Kd.at_string (Kd.R_reads' HO300.out).2.2 0 (by decide) (by rw [Ny298.out];simp)
               cases fo21
               refine hK.out _ _ ⟨((HB.out.cell (World.block_lt_of_cell? w _ hw301_0)).trans hw301_0),((HB.out.cell (World.block_lt_of_cell? w _ hw301_1)).trans hw301_1),((HB.out.cell (World.block_lt_of_cell? w _ hw304_0)).trans hw304_0),((HB.out.cell (World.block_lt_of_cell? w _ hw304_1)).trans hw304_1)⟩ (fun hHeld=>?_)
               clear hK K
               refine norm_ (a':=?_) ?_ ?_
               rotate_left
               ·show Act.put _ (some 25) _=_
                simp only [Act.put,List.setIfInBounds_toArray,List.set_cons_zero,List.set_cons_succ,i64_w,i32_w]
                rfl
               refine pure_ (i:=9) (N:=some 33) (v:=?_) (a':=?_) #[true,true,true,true,true,true,true,true,true,true,false,true,true,true,true,true,true,true,true,true,false,false] rfl rfl (any_of HT_.out (by kernel_rfl)) (fun _ _ _ h=>h) (Or.inl ⟨by rfl,?_⟩) ?_ ?_
               rotate_left
               ·intro w'
                go_simp
                with_reducible rfl
               rotate_left
               ·simp only [Act.put,List.setIfInBounds_toArray,List.set_cons_zero,List.set_cons_succ,i64_w,i32_w]
                rfl
               exact norm_ (by first|(simp only [putAll,Act.put,List.setIfInBounds_toArray,List.set_cons_zero,List.set_cons_succ];done)|(simp only [putAll,Act.put,List.setIfInBounds_toArray,List.set_cons_zero,List.set_cons_succ];rfl)) (hJ1_8_19 (.slice (some ado21) y298.length co21,ado21,v306) _ ⟨hHeld,(by (with_reducible repeat (first|apply rA_|apply rN_|apply rD_));exact Kd.R_mono HO300.out (fun _ hk=>hk.1)),(by (with_reducible repeat (first|apply nA_|apply nN_|apply nD_));exact Kd.N_mono HO307.out (fun _ hk=>⟨hk.1.1,⟨hk.2,hk.1.2⟩⟩)),(by (with_reducible repeat (first|apply nA_|apply nN_|apply nD_));exact Kd.N_mono HO_7.out (fun _ hk=>⟨hk.1.1,⟨hk.2,hk.1.2⟩⟩)),⟨_,rfl⟩,(by repeat (first|(with_reducible first|exact HB.out|apply bA_|apply bN_|apply bD_)|exact HB.out))⟩)
             ·skip
              rintro ⟨v299,adz_v299⟩ w20 ⟨hS_,h0_,h1_,h2_,h3_⟩
              have n0_:Aside0 (Kd.R Kd.string 9 w20 w.heap.size (fun k_=>(w.heap.size≤k_)) v299 y298):=⟨h0_⟩
              have n1_:Aside0 (Kd.N k51 51 w20 w.heap.size (fun k_=>(w.heap.size≤k_)∧some k_≠(v299:Value).ownBlock) (.slice Ao15 x7_1.length co15) x7_1):=⟨h1_⟩
              have n2_:Aside0 (∃ c_,(v299:Value)=.slice (some adz_v299) y298.length c_):=⟨h2_⟩
              have n3_:Aside0 (Below w.heap.size w w20):=⟨h3_⟩
              clear HO_7
              clear HB
              clear h0_ h1_ h2_ h3_
              have HO300:=n0_
              have HO_7:=n1_
              have HA_HO300:=n2_
              have HB:=n3_
              clear n0_ n1_ n2_ n3_
              have hHeld:w20.cell? (ad301.add ((x8_1).toNat * 2))=some (.string ((rd_T73 l0 x8_1).f0))∧w20.cell? ⟨(ad301.add ((x8_1).toNat * 2)).block,(ad301.add ((x8_1).toNat * 2)).off+1,none⟩=some (.slice A301_1 ((rd_T73 l0 x8_1).f1).length c301_1)∧w20.cell? (ad301.add ((x8_1).toNat * 2))=some (.string ((rd_T73 l0 x8_1).f0))∧w20.cell? ⟨(ad301.add ((x8_1).toNat * 2)).block,(ad301.add ((x8_1).toNat * 2)).off+1,none⟩=some (.slice A301_1 ((rd_T73 l0 x8_1).f1).length c301_1):=hS_
              obtain ⟨co21,eo21⟩:=HA_HO300.out
              clear HA_HO300
              subst eo21
              refine norm_ (a':=?_) ?_ ?_
              rotate_left
              ·simp only [putAll,Act.put,List.setIfInBounds_toArray,List.set_cons_zero,List.set_cons_succ]
               rfl
              refine two_ (i:=10) (j:=19) (Ni:=some 34) (Nj:=some 43) #[true,true,true,true,true,true,true,true,true,true,true,true,true,true,true,true,true,true,true,false,false,false] #[true,true,true,true,true,true,true,true,true,true,false,true,true,true,true,true,true,true,true,true,false,false] rfl rfl rfl rfl (two_of HT_.out (by kernel_rfl)) (by decide) (by decide) (fun K hK=>?_) (fun K hK=>?_)
              ·skip
               (have p303:0≤(t302:Int):=of_decide_eq_true (by first|(with_reducible assumption)|assumption);have q303:t302 < (y298.length:Int):=of_decide_eq_true (by first|(with_reducible assumption)|assumption);obtain ⟨ad303,e303,hx303_0⟩:=Kd.at_string (Kd.R_reads' HO300.out).2.2 t302 p303 q303;obtain rfl:adz_v299=ad303:=(by injection e303))
               refine value_ (w1:=?_) (v:=?_) (by rfl) rfl ?_ ?_
               rotate_left 2
               ·go_simp
                constructor
                ·rfl
                ·rfl
               clear hx303_0
               refine hK.out _ _ ⟨((HB.out.cell (World.block_lt_of_cell? w _ hw301_0)).trans hw301_0),((HB.out.cell (World.block_lt_of_cell? w _ hw301_1)).trans hw301_1),((HB.out.cell (World.block_lt_of_cell? w _ hw304_0)).trans hw304_0),((HB.out.cell (World.block_lt_of_cell? w _ hw304_1)).trans hw304_1)⟩ (fun hHeld=>?_)
               clear hK K
               refine norm_ (a':=?_) ?_ ?_
               rotate_left
               ·show Act.put _ (some 34) _=_
                simp only [Act.put,List.setIfInBounds_toArray,List.set_cons_zero,List.set_cons_succ,i64_w,i32_w]
                rfl
               exact norm_ (by first|(simp only [putAll,Act.put,List.setIfInBounds_toArray,List.set_cons_zero,List.set_cons_succ];done)|(simp only [putAll,Act.put,List.setIfInBounds_toArray,List.set_cons_zero,List.set_cons_succ];rfl)) (hJ1_8_10 (.slice (some adz_v299) y298.length co21,adz_v299) _ ⟨hHeld,(by (with_reducible repeat (first|apply rA_|apply rN_|apply rD_));exact HO300.out),(by (with_reducible repeat (first|apply nA_|apply nN_|apply nD_));exact HO_7.out),⟨_,rfl⟩,(by repeat (first|(with_reducible first|exact HB.out|apply bA_|apply bN_|apply bD_)|exact HB.out))⟩)
              ·skip
               refine goes_ Try.func14 (by kernel_rfl) rfl #[.slice A301_1 ((rd_T73 l0 x8_1).f1).length c301_1,.int .i64 a1,.int .i64 (wrap64 (a2 - 1))] (by rfl) rfl rfl (by (try simp only [List.map_toArray,List.map_cons,List.map_nil]);first|done|rfl|(simp only [List.length_drop,List.length_take];rfl)) ?_
               with_reducible refine (ih kj3 (by have:=HK1.out;have:=HJ3.out;omega) _ _ ((rd_T73 l0 x8_1).f1) a1 (wrap64 (a2 - 1)) t305 _ ?side1 ?side2 A13.out).mono ?_
               (case side1=>repeat (first|exact (Kd.C_below HR304_1.out HB.out)|(with_reducible refine cA_ ?_ _)|(with_reducible refine cN_ ?_ _)|(with_reducible refine cD_ ?_)))
               (case side2=>exact HC304_1.out)
               rintro e w22 ⟨v306,rfl,ho0,hb⟩
               refine ⟨_,rfl,?_⟩
               have n0_:=Aside0.mk (Kd.N_elder' (by (with_reducible repeat (first|apply nA_|apply nN_|apply nD_));exact HO_7.out) (Kd.N_base ho0) hb)
               have n1_:=Aside0.mk (Kd.R_below (by (with_reducible repeat (first|apply rA_|apply rN_|apply rD_));exact HO300.out) hb)
               have n2_:=Aside0.mk (Kd.N_lower (Kd.N_mono (ok':=fun k_=>(w.heap.size≤k_)∧some k_≠(.slice Ao15 x7_1.length co15:Value).ownBlock∧some k_≠(.slice (some adz_v299) y298.length co21:Value).ownBlock) ho0 (fun k_ hk_=>⟨(Nat.le_trans (below_size (by repeat (first|(with_reducible first|exact HB.out|apply bA_|apply bN_|apply bD_)|exact HB.out))) hk_),(Kd.fresh' (Kd.N_lt (by (with_reducible repeat (first|apply nA_|apply nN_|apply nD_));exact HO_7.out)) k_ hk_),(Kd.fresh' (Kd.R_lt (by (with_reducible repeat (first|apply rA_|apply rN_|apply rD_));exact HO300.out)) k_ hk_)⟩)) (below_size (by repeat (first|(with_reducible first|exact HB.out|apply bA_|apply bN_|apply bD_)|exact HB.out))))
               have n3_:=Aside0.mk (below_step (by repeat (first|(with_reducible first|exact HB.out|apply bA_|apply bN_|apply bD_)|exact HB.out)) hb)
               clear HO_7
               clear HO300
               clear HB
               have HO_7:=n0_
               have HO300:=n1_
               have HO307:=n2_
               have HB:=n3_
               clear n0_ n1_ n2_ n3_
               (try clear hb)
               (try clear hb2)
               (try clear hk)
               (try clear hi)
               (try clear ho0)
               refine hK.out _ _ ⟨((HB.out.cell (World.block_lt_of_cell? w _ hw301_0)).trans hw301_0),((HB.out.cell (World.block_lt_of_cell? w _ hw301_1)).trans hw301_1),((HB.out.cell (World.block_lt_of_cell? w _ hw304_0)).trans hw304_0),((HB.out.cell (World.block_lt_of_cell? w _ hw304_1)).trans hw304_1)⟩ (fun hHeld=>?_)
               clear hK K
               refine norm_ (a':=?_) ?_ ?_
               rotate_left
               ·show Act.put _ (some 43) _=_
                simp only [Act.put,List.setIfInBounds_toArray,List.set_cons_zero,List.set_cons_succ,i64_w,i32_w]
                rfl
               exact norm_ (by first|(simp only [putAll,Act.put,List.setIfInBounds_toArray,List.set_cons_zero,List.set_cons_succ];done)|(simp only [putAll,Act.put,List.setIfInBounds_toArray,List.set_cons_zero,List.set_cons_succ];rfl)) (hJ1_8_19 (.slice (some adz_v299) y298.length co21,adz_v299,v306) _ ⟨hHeld,(by (with_reducible repeat (first|apply rA_|apply rN_|apply rD_));exact HO300.out),(by (with_reducible repeat (first|apply nA_|apply nN_|apply nD_));exact Kd.N_mono HO307.out (fun _ hk=>⟨hk.1,⟨hk.2.2,hk.2.1⟩⟩)),(by (with_reducible repeat (first|apply nA_|apply nN_|apply nD_));exact Kd.N_mono HO_7.out (fun _ hk=>⟨hk.1.1,⟨hk.1.2,hk.2⟩⟩)),⟨_,rfl⟩,(by repeat (first|(with_reducible first|exact HB.out|apply bA_|apply bN_|apply bD_)|exact HB.out))⟩)
            ·skip
             rintro ⟨v299,adz_v299,v306⟩ w21 ⟨hS_,h0_,h1_,h2_,h3_,h4_⟩
             have n0_:Aside0 (Kd.R Kd.string 9 w21 w.heap.size (fun k_=>(w.heap.size≤k_)) v299 y298):=⟨h0_⟩
             have n1_:Aside0 (Kd.N k51 51 w21 w.heap.size (fun k_=>(w.heap.size≤k_)∧some k_≠(v299:Value).ownBlock∧some k_≠(.slice Ao15 x7_1.length co15:Value).ownBlock) v306 t305):=⟨h1_⟩
             have n2_:Aside0 (Kd.N k51 51 w21 w.heap.size (fun k_=>(w.heap.size≤k_)∧some k_≠(v299:Value).ownBlock∧some k_≠(v306:Value).ownBlock) (.slice Ao15 x7_1.length co15) x7_1):=⟨h2_⟩
             have n3_:Aside0 (∃ c_,(v299:Value)=.slice (some adz_v299) y298.length c_):=⟨h3_⟩
             have n4_:Aside0 (Below w.heap.size w w21):=⟨h4_⟩
             clear HO_7
             clear HB
             clear h0_ h1_ h2_ h3_ h4_
             have HO300:=n0_
             have HO307:=n1_
             have HO_7:=n2_
             have HA_HO300:=n3_
             have HB:=n4_
             clear n0_ n1_ n2_ n3_ n4_
             have hHeld:w21.cell? (ad301.add ((x8_1).toNat * 2))=some (.string ((rd_T73 l0 x8_1).f0))∧w21.cell? ⟨(ad301.add ((x8_1).toNat * 2)).block,(ad301.add ((x8_1).toNat * 2)).off+1,none⟩=some (.slice A301_1 ((rd_T73 l0 x8_1).f1).length c301_1)∧w21.cell? (ad301.add ((x8_1).toNat * 2))=some (.string ((rd_T73 l0 x8_1).f0))∧w21.cell? ⟨(ad301.add ((x8_1).toNat * 2)).block,(ad301.add ((x8_1).toNat * 2)).off+1,none⟩=some (.slice A301_1 ((rd_T73 l0 x8_1).f1).length c301_1):=hS_
             obtain ⟨co22,eo22⟩:=HA_HO300.out
             clear HA_HO300
             subst eo22
             refine norm_ (a':=?_) ?_ ?_
             rotate_left
             ·simp only [putAll,Act.put,List.setIfInBounds_toArray,List.set_cons_zero,List.set_cons_succ]
              rfl
             refine one_ (i:=10) (N:=some 34) #[true,true,true,true,true,true,true,true,true,true,true,true,true,true,true,true,true,true,true,true,false,false] rfl rfl (one_of HT_.out (by kernel_rfl)) (by decide) (fun K hK=>?_)
             (have p303:0≤(t302:Int):=of_decide_eq_true (by first|(with_reducible assumption)|assumption);have q303:t302 < (y298.length:Int):=of_decide_eq_true (by first|(with_reducible assumption)|assumption);obtain ⟨ad303,e303,hx303_0⟩:=Kd.at_string (Kd.R_reads' HO300.out).2.2 t302 p303 q303;obtain rfl:adz_v299=ad303:=(by injection e303))
             refine value_ (w1:=?_) (v:=?_) (by rfl) rfl ?_ ?_
             rotate_left 2
             ·go_simp
              constructor
              ·rfl
              ·rfl
             clear hx303_0
             refine hK.out _ _ ⟨((HB.out.cell (World.block_lt_of_cell? w _ hw301_0)).trans hw301_0),((HB.out.cell (World.block_lt_of_cell? w _ hw301_1)).trans hw301_1),((HB.out.cell (World.block_lt_of_cell? w _ hw304_0)).trans hw304_0),((HB.out.cell (World.block_lt_of_cell? w _ hw304_1)).trans hw304_1)⟩ (fun hHeld=>?_)
             clear hK K
             refine norm_ (a':=?_) ?_ ?_
             rotate_left
             ·show Act.put _ (some 34) _=_
              simp only [Act.put,List.setIfInBounds_toArray,List.set_cons_zero,List.set_cons_succ,i64_w,i32_w]
              rfl
             exact norm_ (by first|(simp only [putAll,Act.put,List.setIfInBounds_toArray,List.set_cons_zero,List.set_cons_succ];done)|(simp only [putAll,Act.put,List.setIfInBounds_toArray,List.set_cons_zero,List.set_cons_succ];rfl)) (hJ1_8_10_19 (.slice (some adz_v299) y298.length co22,adz_v299,v306) _ ⟨hHeld,(by (with_reducible repeat (first|apply rA_|apply rN_|apply rD_));exact HO300.out),(by (with_reducible repeat (first|apply nA_|apply nN_|apply nD_));exact HO307.out),(by (with_reducible repeat (first|apply nA_|apply nN_|apply nD_));exact HO_7.out),⟨_,rfl⟩,(by repeat (first|(with_reducible first|exact HB.out|apply bA_|apply bN_|apply bD_)|exact HB.out))⟩)
           ·skip
            rintro ⟨v299,adz_v299⟩ w20 ⟨hS_,h0_,h1_,h2_,h3_⟩
            have n0_:Aside0 (Kd.R Kd.string 9 w20 w.heap.size (fun k_=>(w.heap.size≤k_)) v299 y298):=⟨h0_⟩
            have n1_:Aside0 (Kd.N k51 51 w20 w.heap.size (fun k_=>(w.heap.size≤k_)∧some k_≠(v299:Value).ownBlock) (.slice Ao15 x7_1.length co15) x7_1):=⟨h1_⟩
            have n2_:Aside0 (∃ c_,(v299:Value)=.slice (some adz_v299) y298.length c_):=⟨h2_⟩
            have n3_:Aside0 (Below w.heap.size w w20):=⟨h3_⟩
            clear HO_7
            clear HB
            clear h0_ h1_ h2_ h3_
            have HO300:=n0_
            have HO_7:=n1_
            have HA_HO300:=n2_
            have HB:=n3_
            clear n0_ n1_ n2_ n3_
            have hHeld:w20.cell? (ad301.add ((x8_1).toNat * 2))=some (.string ((rd_T73 l0 x8_1).f0))∧w20.cell? ⟨(ad301.add ((x8_1).toNat * 2)).block,(ad301.add ((x8_1).toNat * 2)).off+1,none⟩=some (.slice A301_1 ((rd_T73 l0 x8_1).f1).length c301_1)∧w20.cell? (ad301.add ((x8_1).toNat * 2))=some (.string ((rd_T73 l0 x8_1).f0))∧w20.cell? ⟨(ad301.add ((x8_1).toNat * 2)).block,(ad301.add ((x8_1).toNat * 2)).off+1,none⟩=some (.slice A301_1 ((rd_T73 l0 x8_1).f1).length c301_1):=hS_
            obtain ⟨co21,eo21⟩:=HA_HO300.out
            clear HA_HO300
            subst eo21
            refine norm_ (a':=?_) ?_ ?_
            rotate_left
            ·simp only [putAll,Act.put,List.setIfInBounds_toArray,List.set_cons_zero,List.set_cons_succ]
             rfl
            refine one_ (i:=19) (N:=some 43) #[true,true,true,true,true,true,true,true,true,true,true,true,true,true,true,true,true,true,true,true,false,false] rfl rfl (one_of HT_.out (by kernel_rfl)) (by decide) (fun K hK=>?_)
            refine goes_ Try.func14 (by kernel_rfl) rfl #[.slice A301_1 ((rd_T73 l0 x8_1).f1).length c301_1,.int .i64 a1,.int .i64 (wrap64 (a2 - 1))] (by rfl) rfl rfl (by (try simp only [List.map_toArray,List.map_cons,List.map_nil]);first|done|rfl|(simp only [List.length_drop,List.length_take];rfl)) ?_
            with_reducible refine (ih kj3 (by have:=HK1.out;have:=HJ3.out;omega) _ _ ((rd_T73 l0 x8_1).f1) a1 (wrap64 (a2 - 1)) t305 _ ?side1 ?side2 A13.out).mono ?_
            (case side1=>repeat (first|exact (Kd.C_below HR304_1.out HB.out)|(with_reducible refine cA_ ?_ _)|(with_reducible refine cN_ ?_ _)|(with_reducible refine cD_ ?_)))
            (case side2=>exact HC304_1.out)
            rintro e w22 ⟨v306,rfl,ho0,hb⟩
            refine ⟨_,rfl,?_⟩
            have n0_:=Aside0.mk (Kd.N_elder' (by (with_reducible repeat (first|apply nA_|apply nN_|apply nD_));exact HO_7.out) (Kd.N_base ho0) hb)
            have n1_:=Aside0.mk (Kd.R_below (by (with_reducible repeat (first|apply rA_|apply rN_|apply rD_));exact HO300.out) hb)
            have n2_:=Aside0.mk (Kd.N_lower (Kd.N_mono (ok':=fun k_=>(w.heap.size≤k_)∧some k_≠(.slice Ao15 x7_1.length co15:Value).ownBlock∧some k_≠(.slice (some adz_v299) y298.length co21:Value).ownBlock) ho0 (fun k_ hk_=>⟨(Nat.le_trans (below_size (by repeat (first|(with_reducible first|exact HB.out|apply bA_|apply bN_|apply bD_)|exact HB.out))) hk_),(Kd.fresh' (Kd.N_lt (by (with_reducible repeat (first|apply nA_|apply nN_|apply nD_));exact HO_7.out)) k_ hk_),(Kd.fresh' (Kd.R_lt (by (with_reducible repeat (first|apply rA_|apply rN_|apply rD_));exact HO300.out)) k_ hk_)⟩)) (below_size (by repeat (first|(with_reducible first|exact HB.out|apply bA_|apply bN_|apply bD_)|exact HB.out))))
            have n3_:=Aside0.mk (below_step (by repeat (first|(with_reducible first|exact HB.out|apply bA_|apply bN_|apply bD_)|exact HB.out)) hb)
            clear HO_7
            clear HO300
            clear HB
            have HO_7:=n0_
            have HO300:=n1_
            have HO307:=n2_
            have HB:=n3_
            clear n0_ n1_ n2_ n3_
            (try clear hb)
            (try clear hb2)
            (try clear hk)
            (try clear hi)
            (try clear ho0)
            refine hK.out _ _ ⟨((HB.out.cell (World.block_lt_of_cell? w _ hw301_0)).trans hw301_0),((HB.out.cell (World.block_lt_of_cell? w _ hw301_1)).trans hw301_1),((HB.out.cell (World.block_lt_of_cell? w _ hw304_0)).trans hw304_0),((HB.out.cell (World.block_lt_of_cell? w _ hw304_1)).trans hw304_1)⟩ (fun hHeld=>?_)
            clear hK K
            refine norm_ (a':=?_) ?_ ?_
            rotate_left
            ·show Act.put _ (some 43) _=_
             simp only [Act.put,List.setIfInBounds_toArray,List.set_cons_zero,List.set_cons_succ,i64_w,i32_w]
             rfl
            exact norm_ (by first|(simp only [putAll,Act.put,List.setIfInBounds_toArray,List.set_cons_zero,List.set_cons_succ];done)|(simp only [putAll,Act.put,List.setIfInBounds_toArray,List.set_cons_zero,List.set_cons_succ];rfl)) (hJ1_8_10_19 (.slice (some adz_v299) y298.length co21,adz_v299,v306) _ ⟨hHeld,(by (with_reducible repeat (first|apply rA_|apply rN_|apply rD_));exact HO300.out),(by (with_reducible repeat (first|apply nA_|apply nN_|apply nD_));exact Kd.N_mono HO307.out (fun _ hk=>⟨hk.1,⟨hk.2.2,hk.2.1⟩⟩)),(by (with_reducible repeat (first|apply nA_|apply nN_|apply nD_));exact Kd.N_mono HO_7.out (fun _ hk=>⟨hk.1.1,⟨hk.1.2,hk.2⟩⟩)),⟨_,rfl⟩,(by repeat (first|(with_reducible first|exact HB.out|apply bA_|apply bN_|apply bD_)|exact HB.out))⟩)
          rintro ⟨v299,adz_v299,v306⟩ w21 ⟨hS_,h0_,h1_,h2_,h3_,h4_⟩
          have n0_:Aside0 (Kd.R Kd.string 9 w21 w.heap.size (fun k_=>(w.heap.size≤k_)) v299 y298):=⟨h0_⟩
          have n1_:Aside0 (Kd.N k51 51 w21 w.heap.size (fun k_=>(w.heap.size≤k_)∧some k_≠(v299:Value).ownBlock∧some k_≠(.slice Ao15 x7_1.length co15:Value).ownBlock) v306 t305):=⟨h1_⟩
          have n2_:Aside0 (Kd.N k51 51 w21 w.heap.size (fun k_=>(w.heap.size≤k_)∧some k_≠(v299:Value).ownBlock∧some k_≠(v306:Value).ownBlock) (.slice Ao15 x7_1.length co15) x7_1):=⟨h2_⟩
          have n3_:Aside0 (∃ c_,(v299:Value)=.slice (some adz_v299) y298.length c_):=⟨h3_⟩
          have n4_:Aside0 (Below w.heap.size w w21):=⟨h4_⟩
          clear HO_7
          clear HB
          clear h0_ h1_ h2_ h3_ h4_
          have HO300:=n0_
          have HO307:=n1_
          have HO_7:=n2_
          have HA_HO300:=n3_
          have HB:=n4_
          clear n0_ n1_ n2_ n3_ n4_
          have hHeld:w21.cell? (ad301.add ((x8_1).toNat * 2))=some (.string ((rd_T73 l0 x8_1).f0))∧w21.cell? ⟨(ad301.add ((x8_1).toNat * 2)).block,(ad301.add ((x8_1).toNat * 2)).off+1,none⟩=some (.slice A301_1 ((rd_T73 l0 x8_1).f1).length c301_1)∧w21.cell? (ad301.add ((x8_1).toNat * 2))=some (.string ((rd_T73 l0 x8_1).f0))∧w21.cell? ⟨(ad301.add ((x8_1).toNat * 2)).block,(ad301.add ((x8_1).toNat * 2)).off+1,none⟩=some (.slice A301_1 ((rd_T73 l0 x8_1).f1).length c301_1):=hS_
          obtain ⟨co22,eo22⟩:=HA_HO300.out
          clear HA_HO300
          subst eo22
          obtain ⟨Ao23,co23,eo23⟩:=Kd.N_slice HO307.out
          (first|subst eo23|(injection eo23 with f1_ f2_ f3_;have f4_:=f1_.symm;have f5_:=f3_.symm;clear f1_ f2_ f3_;subst f4_;subst f5_))
          refine norm_ (a':=?_) ?_ ?_
          rotate_left
          ·simp only [putAll,Act.put,List.setIfInBounds_toArray,List.set_cons_zero,List.set_cons_succ]
           rfl
          refine one_ (i:=20) (N:=some 44) #[true,true,true,true,true,true,true,true,true,true,true,true,true,true,true,true,true,true,true,true,true,false] rfl rfl (one_of HT_.out (by kernel_rfl)) (by decide) (fun K hK=>?_)
          refine goes_ Try.func16 (by kernel_rfl) rfl #[.slice Ao15 x7_1.length co15,.string (rdOf ByteArray.empty y298 t302),.slice Ao23 t305.length co23] (by rfl) rfl rfl (by (try simp only [List.map_toArray,List.map_cons,List.map_nil]);first|done|rfl|(simp only [List.length_drop,List.length_take];rfl)) ?_
          with_reducible refine (cadenceref2_With.calls kj3 (fun k_=>((w.heap.size≤k_)∧(some k_≠(.slice (some adz_v299) y298.length co22:Value).ownBlock∧some k_≠(.slice Ao23 t305.length co23:Value).ownBlock))) _ _ x7_1 (rdOf ByteArray.empty y298 t302) (fun k_=>((w.heap.size≤k_)∧(some k_≠(.slice (some adz_v299) y298.length co22:Value).ownBlock∧some k_≠(.slice Ao15 x7_1.length co15:Value).ownBlock))) _ _ t305 t308 _ ?side1 ?side2 A14.out).mono ?_
          (case side1=>exact Kd.N_V (HO_7.out))
          (case side2=>exact Kd.N_V (HO307.out))
          rintro e w24 ⟨v309,rfl,ho0,hb⟩
          refine ⟨_,rfl,?_⟩
          have n0_:=Aside0.mk (Kd.N_elder' (by (with_reducible repeat (first|apply nA_|apply nN_|apply nD_));exact HO_7.out) (Kd.N_base ho0) hb)
          have n1_:=Aside0.mk (Kd.R_below (by (with_reducible repeat (first|apply rA_|apply rN_|apply rD_));exact HO300.out) hb)
          have n2_:=Aside0.mk (Kd.N_elder' (by (with_reducible repeat (first|apply nA_|apply nN_|apply nD_));exact HO307.out) (Kd.N_base ho0) hb)
          have n3_:=Aside0.mk (Kd.N_lower (Kd.N_mono (ok':=fun k_=>(w.heap.size≤k_)∧some k_≠(.slice (some adz_v299) y298.length co22:Value).ownBlock) ho0 (fun k_ hk_=>⟨Or.elim hk_ (fun hs_=>Or.elim hs_ (fun hs_=>hs_.1) (fun hs_=>hs_.1)) (fun hn_=>(Nat.le_trans (below_size (by repeat (first|(with_reducible first|exact HB.out|apply bA_|apply bN_|apply bD_)|exact HB.out))) hn_)),Or.elim hk_ (fun hs_=>Or.elim hs_ (fun hs_=>hs_.2.1) (fun hs_=>hs_.2.1)) (fun hn_=>(Kd.fresh' (Kd.R_lt (by (with_reducible repeat (first|apply rA_|apply rN_|apply rD_));exact HO300.out)) k_ hn_))⟩)) (below_size (by repeat (first|(with_reducible first|exact HB.out|apply bA_|apply bN_|apply bD_)|exact HB.out))))
          have n4_:=Aside0.mk (below_step (by repeat (first|(with_reducible first|exact HB.out|apply bA_|apply bN_|apply bD_)|exact HB.out)) hb)
          clear HO_7
          clear HO300
          clear HO307
          clear HB
          have HO_7:=n0_
          have HO300:=n1_
          have HO307:=n2_
          have HO310:=n3_
          have HB:=n4_
          clear n0_ n1_ n2_ n3_ n4_
          (try clear hb)
          (try clear hb2)
          (try clear hk)
          (try clear hi)
          (try clear ho0)
          refine hK.out _ _ ⟨((HB.out.cell (World.block_lt_of_cell? w _ hw301_0)).trans hw301_0),((HB.out.cell (World.block_lt_of_cell? w _ hw301_1)).trans hw301_1),((HB.out.cell (World.block_lt_of_cell? w _ hw304_0)).trans hw304_0),((HB.out.cell (World.block_lt_of_cell? w _ hw304_1)).trans hw304_1)⟩ (fun hHeld=>?_)
          clear hK K
          refine norm_ (a':=?_) ?_ ?_
          rotate_left
          ·show Act.put _ (some 44) _=_
           simp only [Act.put,List.setIfInBounds_toArray,List.set_cons_zero,List.set_cons_succ,i64_w,i32_w]
           rfl
          refine pure_ (i:=21) (N:=some 7) (v:=?_) (a':=?_) #[true,true,true,true,true,true,true,true,true,true,true,true,true,true,true,true,true,true,true,true,true,true] rfl rfl (any_of HT_.out (by kernel_rfl)) (fun _ _ _ h=>h) (Or.inl ⟨by rfl,?_⟩) ?_ ?_
          rotate_left
          ·intro w'
           go_simp
           with_reducible rfl
          rotate_left
          ·simp only [Act.put,List.setIfInBounds_toArray,List.set_cons_zero,List.set_cons_succ,i64_w,i32_w]
           rfl
          refine done_ (done_of HT_.out (by kernel_rfl)) ?_
          try go_wp2
          go_roundg kj3
          case measure=>have:=HK1.out;have:=HJ3.out;omega
          case rel=>exact ⟨(t308),(wrap64 (x8_1+1)),(by first|rfl|(simp;done)|(simp [*];done)),H',⟨by have:=HK1.out;have:=HJ3.out;omega⟩,⟨by (with_reducible repeat (first|apply nA_|apply nN_|apply nD_));exact Kd.N_mono HO310.out (fun _ hk=>hk.1)⟩,⟨by repeat (first|(with_reducible first|exact HB.out|apply bA_|apply bN_|apply bD_)|exact HB.out)⟩⟩
         ·rw [if_neg c12] at H
          exact absurd H (by simp)
        ·rw [if_neg c11] at H
         exact absurd H (by simp)
       ·rw [if_neg c9] at H
        exact absurd H (by simp)
      ·rw [if_neg c8] at H
       exact absurd H (by simp)
     ·replace c7:=Bool.eq_false_iff.mpr c7
      subst c7
      have H1:(some x7_1)=some r:=by rw [if_neg (show ¬ (false=true) by decide)] at H;exact H
      clear H
      have H:=H1
      clear H1
      obtain rfl:=Option.some.inj H
      go_wp2
      go_ret
      exact ⟨_,by first|rfl|(simp [errW_none,errW_some] <;> rfl)|(simp [*,errW_none,errW_some] <;> rfl),by (with_reducible repeat (first|apply nA_|apply nN_|apply nD_));exact HO_7.out,by repeat (first|(with_reducible first|exact HB.out|apply bA_|apply bN_|apply bD_)|exact HB.out)⟩
end Go.Proofs.Ytainbaehfdhmbaa.PX
set_option linter.unusedVariables false
namespace Go.Proofs.Ytainbaehfdhmbaa.PX
open Go.RowKit Go.Proofs.YtainbaehfdhmbaaW.PrintWords Go.Proofs.YtainbaehfdhmbaaW.PrintLast Go.Proofs.YtainbaehfdhmbaaW.PrintMore Go.Proofs.Ytainbaehfdhmbaa
theorem within4 (a:Int) {n:Int} (h0:0 < n) (h1:n≤1000000):∃ r,0≤r∧r < n∧cadencelaw4_within.f a n=some r:=by
 obtain ⟨r,r0,r1,h⟩:=tmod_in a h0 h1
 refine ⟨r,r0,r1,?_⟩
 unfold cadencelaw4_within.f
 rw [if_neg (by omega),← h]
 split <;> rfl
def five:List ByteArray:=[(⟨#[]⟩:ByteArray),(⟨#[97]⟩:ByteArray),(⟨#[98]⟩:ByteArray),(⟨#[99]⟩:ByteArray),(⟨#[100]⟩:ByteArray)]
theorem small_ev {l:List Raw} (h:RawOk l):∀ (w D:Nat),w≤100→D≤100→∃ t,Ok w D t∧Ev (fun k=>cadencelaw4_Small.f k l (w:Int) (D:Int)) t:=by
 induction h with
 | mk l hl hk ih =>
  intro w D hw hD
  have stop:∀ (t:Tr) (i:Nat),(i < l.length→i < w→D=0)→Ev (fun k=>cadencelaw4_Small.l0 k l (w:Int) (D:Int) t (i:Int)) t:=by
   intro t i hi
   have h1:Ev (fun k=>cadencelaw4_Small.j1 k l (w:Int) (D:Int) t (i:Int) false) t:=by
    refine Ev.step (f:=fun _=>some t) (fun k=>?_) (Ev.now _)
    simp only [cadencelaw4_Small.j1]
    rw [if_neg Bool.false_ne_true]
   refine Ev.step (f:=fun k=>cadencelaw4_Small.j1 k l (w:Int) (D:Int) t (i:Int) false) (fun k=>?_) h1
   simp only [cadencelaw4_Small.l0]
   by_cases c1:(i:Int) < (l.length:Int)
   ·rw [if_pos c1]
    by_cases c2:(i:Int) < (w:Int)
    ·rw [if_pos c2,decide_eq_false (by have:=hi (by omega) (by omega);omega)]
    ·rw [if_neg c2]
   ·rw [if_neg c1]
  have loop:∀ (m i:Nat) (t:Tr),i+m=l.length→i≤w→t.length≤i→Ok w D t→∃ r,Ok w D r∧Ev (fun k=>cadencelaw4_Small.l0 k l (w:Int) (D:Int) t (i:Int)) r:=by
   intro m
   induction m with
   | zero=>intro i t hi _ _ ht;exact ⟨t,ht,stop t i (by omega)⟩
   | succ m ihm =>
    intro i t hi hiw htl ht
    by_cases hc:i < w∧0 < D
    ·obtain ⟨d,rfl⟩:∃ d,D=d+1:=⟨D - 1,by omega⟩
     have hil:i < l.length:=by omega
     obtain ⟨x,hx,hxe⟩:=ih l[i] (List.getElem_mem hil) w d hw (by omega)
     obtain ⟨r,r0,r1,hr⟩:=within4 (l[i].f0.size:Int) (n:=5) (by omega) (by omega)
     obtain ⟨q,hq,hqe⟩:=ihm (i+1) (withT t (five[r.toNat]'(by simp [five];omega)) x) (by omega) (by omega) (by have:=withT_length t (five[r.toNat]'(by simp [five];omega)) x;omega) (ht.withT hx (by have:=withT_length t (five[r.toNat]'(by simp [five];omega)) x;omega))
     refine ⟨q,hq,?_⟩
     have h1:Ev (fun k=>cadencelaw4_Small.j1 k l (w:Int) ((d+1:Nat):Int) t (i:Int) true) q:=by
      refine Ev.step (f:=fun k=>(cadencelaw4_Small.f k l[i].f1 (w:Int) (d:Int)).bind fun u=>(cadenceref2_With.f k t (five[r.toNat]'(by simp [five];omega)) u).bind fun v=>cadencelaw4_Small.l0 k l (w:Int) ((d+1:Nat):Int) v ((i+1:Nat):Int)) (fun k=>?_) (Ev.bind hxe (Ev.bind (with_ev t _ x (by omega)) hqe))
      simp only [cadencelaw4_Small.j1]
      rw [if_pos trivial,Option.bind_some,if_pos (by omega),if_pos (by omega),rdRaw_nat hil,hr,Option.bind_some,if_pos r0,if_pos (by simp;omega),wrap_succ (by omega),show wrap64 (((d+1:Nat):Int) - 1)=(d:Int) by rw [wrap_id (by omega) (by omega)];omega]
      have hn:rdOf ByteArray.empty five r=five[r.toNat]'(by simp [five];omega):=by
       have:=rdOf_nat (xs:=five) (i:=r.toNat) (by simp [five];omega)
       rwa [Int.toNat_of_nonneg r0] at this
      rw [← hn]
      rfl
     refine Ev.step (f:=fun k=>cadencelaw4_Small.j1 k l (w:Int) ((d+1:Nat):Int) t (i:Int) true) (fun k=>?_) h1
     simp only [cadencelaw4_Small.l0]
     rw [if_pos (by omega),if_pos (by omega),decide_eq_true (by omega)]
    ·exact ⟨t,ht,stop t i (by omega)⟩
  obtain ⟨r,hr,he⟩:=loop l.length 0 [] (by omega) (by omega) (by simp) (Ok.nil _ _)
  exact ⟨r,hr,Ev.step (fun k=>by simp only [cadencelaw4_Small.f];rfl) he⟩
end Go.Proofs.Ytainbaehfdhmbaa.PX
namespace Go.Proofs.Ytainbaehfdhmbaa.PX
open Go.RowKit Go.Proofs.YtainbaehfdhmbaaW.PrintWords Go.Proofs.YtainbaehfdhmbaaW.PrintLast Go.Proofs.YtainbaehfdhmbaaW.PrintMore
attribute [local go_sem] max2_int min2_int max_two min_two max_three min_three max_four min_four   
set_option linter.unusedVariables false
set_option linter.unusedSimpArgs false
mutual
def cadencelaw12_MergeGone.j0:Nat→List (S73)→List (S73)→Bool→Bool→Option (Bool)
 | 0,_,_,_,_=>none
 | k+1,x0,x1,x2,x25=>if x25=true then (some true) else ((cadencelaw4_Small.f k x0 4 3).bind fun t481=>((cadencelaw4_Small.f k x1 4 3).bind fun t484=>((some (([(⟨(⟨#[107]⟩:ByteArray),t481⟩:S51),(⟨(⟨#[122]⟩:ByteArray),([]:List (S51))⟩:S51)]:List (S51)):List (S51))).bind fun y487=>((some (([(⟨(⟨#[122]⟩:ByteArray),([]:List (S51))⟩:S51)]:List (S51)):List (S51))).bind fun y490=>((some (([(⟨(⟨#[107]⟩:ByteArray),t484⟩:S51),(⟨(⟨#[122]⟩:ByteArray),([]:List (S51))⟩:S51)]:List (S51)):List (S51))).bind fun y493=>(if x2=true then (cadencelaw12_MergeGone.j1 k t481 t484 y487 y493 y490) else (cadencelaw12_MergeGone.j1 k t481 t484 y487 y490 y493)))))))
def cadencelaw12_MergeGone.j1:Nat→List (S51)→List (S51)→List (S51)→List (S51)→List (S51)→Option (Bool)
 | 0,_,_,_,_,_=>none
 | k+1,x7,x8,x9,x10,x11=>(cadencelaw12_wide.f).bind fun t496=>((cadencelaw12_some.f x9).bind fun bt499=>((cadencelaw12_some.f x10).bind fun bt503=>((cadencelaw12_some.f x11).bind fun bt507=>((merge_Merge.f t496 bt499.1 bt499.2 bt503.1 bt503.2 bt507.1 bt507.2).bind fun bt511=>((cadenceref2_Same.f k x7 x8).bind fun t529=>(if t529=true then (if (bt511.2.2.2.2.2.2.length:Int)=0 then ((cadenceref2_Same.f k bt511.2.1 (([(⟨(⟨#[122]⟩:ByteArray),([]:List (S51))⟩:S51)]:List (S51)))).bind fun t533=>(if t533=true then ((cadenceref2_Same.f k bt511.2.2.2.1 bt511.2.1).bind fun t534=>(if t534=true then ((cadenceref2_Same.f k bt511.2.2.2.2.2.1 bt511.2.1).bind fun t535=>(some t535)) else (none))) else (none))) else (none)) else (if (bt511.2.2.2.2.2.2.length:Int)=1 then (if 0 < (bt511.2.2.2.2.2.2.length:Int) then (if ((rd_T38 bt511.2.2.2.2.2.2 0).f1)=1 then (if (((rd_T38 bt511.2.2.2.2.2.2 0).f0).length:Int)=1 then (if 0 < (((rd_T38 bt511.2.2.2.2.2.2 0).f0).length:Int) then (if (rdOf ByteArray.empty ((rd_T38 bt511.2.2.2.2.2.2 0).f0) 0).toList=([107]:List UInt8) then ((cadenceref2_Same.f k bt511.2.1 x9).bind fun t540=>(if t540=true then ((cadenceref2_Same.f k bt511.2.2.2.1 x10).bind fun t541=>(if t541=true then ((cadenceref2_Same.f k bt511.2.2.2.2.2.1 x11).bind fun t542=>(some t542)) else (none))) else (none))) else (none)) else (none)) else (none)) else (none)) else (none)) else (none))))))))
end
def cadencelaw12_MergeGone.f (k:Nat) (l0:List (S73)) (l1:List (S73)) (a2:Bool):Option (Bool):=(cadencelaw12_known.f).bind fun t478=>(if t478=true then ((cadencelaw2_Few.f k l0).bind fun t479=>(if t479=true then ((cadencelaw2_Few.f k l1).bind fun t480=>(cadencelaw12_MergeGone.j0 k l0 l1 a2 (!t480))) else (cadencelaw12_MergeGone.j0 k l0 l1 a2 true))) else (none))
theorem cadencelaw12_MergeGone.mono_l:∀ k,(∀ y0 y1 y2 y3,LeO (cadencelaw12_MergeGone.j0 k y0 y1 y2 y3) (cadencelaw12_MergeGone.j0 (k+1) y0 y1 y2 y3))∧(∀ y0 y1 y2 y3 y4,LeO (cadencelaw12_MergeGone.j1 k y0 y1 y2 y3 y4) (cadencelaw12_MergeGone.j1 (k+1) y0 y1 y2 y3 y4))
 | 0=>⟨fun _ _ _ _ r h=>by simp [cadencelaw12_MergeGone.j0] at h,fun _ _ _ _ _ r h=>by simp [cadencelaw12_MergeGone.j1] at h⟩
 | k+1=>by
  obtain ⟨ih0,ih1⟩:=cadencelaw12_MergeGone.mono_l k
  refine ⟨?_,?_⟩
  ·intro y0 y1 y2 y3
   unfold cadencelaw12_MergeGone.j0
   repeat' first
   | (with_reducible exact ih0 _ _ _ _)
   | (with_reducible exact ih1 _ _ _ _ _)
   | (with_reducible exact cadencelaw2_Few.mono _ _)
   | (with_reducible exact cadencelaw4_Small.mono _ _ _ _)
   | (with_reducible exact cadenceref2_Same.mono _ _ _)
   | (with_reducible exact LeO.refl _)
   | (with_reducible exact LeO.none _)
   | (with_reducible refine LeO.ite ?_ ?_)
   | (with_reducible refine LeO.bind ?_ (fun _=>?_))
   | exact ih0 _ _ _ _
   | exact ih1 _ _ _ _ _
   | exact cadencelaw2_Few.mono _ _
   | exact cadencelaw4_Small.mono _ _ _ _
   | exact cadenceref2_Same.mono _ _ _
   | exact LeO.none _
   | refine LeO.ite ?_ ?_
   | refine LeO.bind ?_ (fun _=>?_)
  ·intro y0 y1 y2 y3 y4
   unfold cadencelaw12_MergeGone.j1
   repeat' first
   | (with_reducible exact ih0 _ _ _ _)
   | (with_reducible exact ih1 _ _ _ _ _)
   | (with_reducible exact cadencelaw2_Few.mono _ _)
   | (with_reducible exact cadencelaw4_Small.mono _ _ _ _)
   | (with_reducible exact cadenceref2_Same.mono _ _ _)
   | (with_reducible exact LeO.refl _)
   | (with_reducible exact LeO.none _)
   | (with_reducible refine LeO.ite ?_ ?_)
   | (with_reducible refine LeO.bind ?_ (fun _=>?_))
   | exact ih0 _ _ _ _
   | exact ih1 _ _ _ _ _
   | exact cadencelaw2_Few.mono _ _
   | exact cadencelaw4_Small.mono _ _ _ _
   | exact cadenceref2_Same.mono _ _ _
   | exact LeO.none _
   | refine LeO.ite ?_ ?_
   | refine LeO.bind ?_ (fun _=>?_)
theorem cadencelaw12_MergeGone.mono:∀ a0 a1 a2 k,LeO (cadencelaw12_MergeGone.f k a0 a1 a2) (cadencelaw12_MergeGone.f (k+1) a0 a1 a2):=by
 intro a0 a1 a2 k
 obtain ⟨ih0,ih1⟩:=cadencelaw12_MergeGone.mono_l k
 unfold cadencelaw12_MergeGone.f
 repeat' first
   | (with_reducible exact ih0 _ _ _ _)
   | (with_reducible exact ih1 _ _ _ _ _)
   | (with_reducible exact cadencelaw2_Few.mono _ _)
   | (with_reducible exact cadencelaw4_Small.mono _ _ _ _)
   | (with_reducible exact cadenceref2_Same.mono _ _ _)
   | (with_reducible exact LeO.refl _)
   | (with_reducible exact LeO.none _)
   | (with_reducible refine LeO.ite ?_ ?_)
   | (with_reducible refine LeO.bind ?_ (fun _=>?_))
   | exact ih0 _ _ _ _
   | exact ih1 _ _ _ _ _
   | exact cadencelaw2_Few.mono _ _
   | exact cadencelaw4_Small.mono _ _ _ _
   | exact cadenceref2_Same.mono _ _ _
   | exact LeO.none _
   | refine LeO.ite ?_ ?_
   | refine LeO.bind ?_ (fun _=>?_)
set_option maxHeartbeats 8000000 in
set_option maxRecDepth 100000 in
theorem cadencelaw12_MergeGone.calls (k:Nat) (A0:Option Addr) (c0:Nat) (l0:List (S73)) (A1:Option Addr) (c1:Nat) (l1:List (S73)) (a2:Bool) (r:Bool) (w:World) (hr0:Kd.C k73 w A0 l0.length l0) (hc0:l0.length≤c0) (hr1:Kd.C k73 w A1 l1.length l1) (hc1:l1.length≤c1) (h:cadencelaw12_MergeGone.f k l0 l1 a2=some r) :
  Calls Try.prog 6 #[.slice A0 l0.length c0,.slice A1 l1.length c1,.bool a2] w fun e w'=>e=.returned (.bool r)∧Below w.heap.size w w':=by
 have hu51:=Try.underlying51
 have hu26:=Try.underlying26
 have HR0:=Aside0.mk hr0
 have HC0:=Aside0.mk hc0
 clear hr0 hc0
 have HR1:=Aside0.mk hr1
 have HC1:=Aside0.mk hc1
 clear hr1 hc1
 have HB:=Aside0.mk (Below.refl w.heap.size w)
 have H:((cadencelaw12_known.f).bind fun t478=>(if t478=true then ((cadencelaw2_Few.f k l0).bind fun t479=>(if t479=true then ((cadencelaw2_Few.f k l1).bind fun t480=>(cadencelaw12_MergeGone.j0 k l0 l1 a2 (!t480))) else (cadencelaw12_MergeGone.j0 k l0 l1 a2 true))) else (none)))=some r:=h
 clear h
 replace H:=Option.bind_eq_some_iff.mp H
 obtain ⟨t478,A40,H⟩:=H
 replace H:(if t478=true then ((cadencelaw2_Few.f k l0).bind fun t479=>(if t479=true then ((cadencelaw2_Few.f k l1).bind fun t480=>(cadencelaw12_MergeGone.j0 k l0 l1 a2 (!t480))) else (cadencelaw12_MergeGone.j0 k l0 l1 a2 true))) else (none))=some r:=H
 have A4:=Aside0.mk A40
 clear A40
 by_cases c5:t478=true
 ·subst c5
  have H1:((cadencelaw2_Few.f k l0).bind fun t479=>(if t479=true then ((cadencelaw2_Few.f k l1).bind fun t480=>(cadencelaw12_MergeGone.j0 k l0 l1 a2 (!t480))) else (cadencelaw12_MergeGone.j0 k l0 l1 a2 true)))=some r:=by rw [if_pos rfl] at H;exact H
  clear H
  have H:=H1
  clear H1
  have HC6:=Aside0.mk H
  clear H
  go_enter Try.func6,Try.ntmps6
  go_upto_region 3 with (first|((with_reducible refine gate_callee (f:=7) rfl ?_);refine goesL_ (some 16) rfl rfl Try.func7 (by kernel_rfl) rfl #[] rfl (by (try simp only [List.map_toArray,List.map_cons,List.map_nil]);first|done|rfl|(simp only [List.length_drop,List.length_take];rfl)) ?_;(with_reducible refine (cadencelaw12_known.calls  true _ A4.out).mono ?_);rintro e w7 ⟨rfl,hb⟩;refine ⟨_,rfl,?_⟩;have n0_:=Aside0.mk (below_step (by repeat (first|(with_reducible first|exact HB.out|apply bA_|apply bN_|apply bD_)|exact HB.out)) hb);clear HB;have HB:=n0_;clear n0_;(try clear hb);(try clear hb2);(try clear hk);(try clear hi)))
  (try simp only [Act.put,List.setIfInBounds_toArray,List.set_cons_zero,List.set_cons_succ])
  go_cut [25] (fun v25 wc=>∃ (kq:Nat) (x25_5:Bool),v25=.bool x25_5∧Aside0 (cadencelaw12_MergeGone.j0 kq l0 l1 a2 x25_5=some r)∧Aside0 (kq≤k)∧Aside0 (Below w.heap.size w wc))
  case first =>
   have H:=HC6.out
   clear HC6
   replace H:=Option.bind_eq_some_iff.mp H
   obtain ⟨t479,A80,H⟩:=H
   replace H:(if t479=true then ((cadencelaw2_Few.f k l1).bind fun t480=>(cadencelaw12_MergeGone.j0 k l0 l1 a2 (!t480))) else (cadencelaw12_MergeGone.j0 k l0 l1 a2 true))=some r:=H
   have A8:=Aside0.mk A80
   clear A80
   by_cases c9:t479=true
   ·subst c9
    have H1:((cadencelaw2_Few.f k l1).bind fun t480=>(cadencelaw12_MergeGone.j0 k l0 l1 a2 (!t480)))=some r:=by rw [if_pos rfl] at H;exact H
    clear H
    have H:=H1
    clear H1
    replace H:=Option.bind_eq_some_iff.mp H
    obtain ⟨t480,A100,H⟩:=H
    replace H:(cadencelaw12_MergeGone.j0 k l0 l1 a2 (!t480))=some r:=H
    have A10:=Aside0.mk A100
    clear A100
    have H':=Aside0.mk H
    clear H
    go_wp2_with (first|((with_reducible refine gate_callee (f:=13) rfl ?_);refine goesL_ (some 19) rfl rfl Try.func13 (by kernel_rfl) rfl #[.slice A0 l0.length c0] rfl (by (try simp only [List.map_toArray,List.map_cons,List.map_nil]);first|done|rfl|(simp only [List.length_drop,List.length_take];rfl)) ?_;(with_reducible refine (cadencelaw2_Few.calls k _ _ l0 true _ ?side1 ?side2 A8.out).mono ?_);(case side1=>repeat (first|exact (Kd.C_below HR0.out HB.out)|(with_reducible refine cA_ ?_ _)|(with_reducible refine cN_ ?_ _)|(with_reducible refine cD_ ?_)));(case side2=>exact HC0.out);rintro e w' ⟨rfl,⟨nd,rfl⟩⟩;refine ⟨_,rfl,?_⟩)|(go_at_call 13;(with_reducible refine (cadencelaw2_Few.calls k _ _ l1 t480 _ ?side1 ?side2 A10.out).mono ?_);(case side1=>repeat (first|exact (Kd.C_below HR1.out (by repeat (first|(with_reducible first|exact HB.out|apply bA_|apply bN_|apply bD_)|exact HB.out)))|(with_reducible refine cA_ ?_ _)|(with_reducible refine cN_ ?_ _)|(with_reducible refine cD_ ?_)));(case side2=>exact HC1.out);rintro e w' ⟨rfl,⟨nd,rfl⟩⟩))
    go_meet
    case rel=>exact ⟨_,(!t480),(by first|rfl|(simp;done)|(simp [*];done)),H',⟨by first|omega|exact Nat.le_refl _⟩,⟨by repeat (first|(with_reducible first|exact HB.out|apply bA_|apply bN_|apply bD_)|exact HB.out)⟩⟩
   ·replace c9:=Bool.eq_false_iff.mpr c9
    subst c9
    have H1:(cadencelaw12_MergeGone.j0 k l0 l1 a2 true)=some r:=by rw [if_neg (show ¬ (false=true) by decide)] at H;exact H
    clear H
    have H:=H1
    clear H1
    have H':=Aside0.mk H
    clear H
    go_wp2_with (first|((with_reducible refine gate_callee (f:=13) rfl ?_);refine goesL_ (some 19) rfl rfl Try.func13 (by kernel_rfl) rfl #[.slice A0 l0.length c0] rfl (by (try simp only [List.map_toArray,List.map_cons,List.map_nil]);first|done|rfl|(simp only [List.length_drop,List.length_take];rfl)) ?_;(with_reducible refine (cadencelaw2_Few.calls k _ _ l0 false _ ?side1 ?side2 A8.out).mono ?_);(case side1=>repeat (first|exact (Kd.C_below HR0.out HB.out)|(with_reducible refine cA_ ?_ _)|(with_reducible refine cN_ ?_ _)|(with_reducible refine cD_ ?_)));(case side2=>exact HC0.out);rintro e w' ⟨rfl,⟨nd,rfl⟩⟩;refine ⟨_,rfl,?_⟩))
    go_meet
    case rel=>exact ⟨_,(true),(by first|rfl|(simp;done)|(simp [*];done)),H',⟨by first|omega|exact Nat.le_refl _⟩,⟨by repeat (first|(with_reducible first|exact HB.out|apply bA_|apply bN_|apply bD_)|exact HB.out)⟩⟩
  case rest =>
   clear HC6
   try clear c1
   try clear p2
   try clear c5
   try clear c6
   try clear c7
   try clear c9
   obtain ⟨kq,x25_5,rfl,HA,HJ5,HB⟩:=hcut
   cases kq with
   | zero=>exact absurd HA.out (by simp [cadencelaw12_MergeGone.j0])
   | succ kj5 =>
    have H:=HA.out
    clear HA
    simp only [cadencelaw12_MergeGone.j0] at H
    by_cases c11:x25_5=true
    ·subst c11
     have H1:(some true)=some r:=by rw [if_pos rfl] at H;exact H
     clear H
     have H:=H1
     clear H1
     obtain rfl:=Option.some.inj H
     go_wp2
     go_ret
     exact ⟨by first|rfl|(simp [errW_none,errW_some] <;> rfl)|(simp [*,errW_none,errW_some] <;> rfl),by repeat (first|(with_reducible first|exact HB.out|apply bA_|apply bN_|apply bD_)|exact HB.out)⟩
    ·replace c11:=Bool.eq_false_iff.mpr c11
     subst c11
     have H1:((cadencelaw4_Small.f kj5 l0 4 3).bind fun t481=>((cadencelaw4_Small.f kj5 l1 4 3).bind fun t484=>((some (([(⟨(⟨#[107]⟩:ByteArray),t481⟩:S51),(⟨(⟨#[122]⟩:ByteArray),([]:List (S51))⟩:S51)]:List (S51)):List (S51))).bind fun y487=>((some (([(⟨(⟨#[122]⟩:ByteArray),([]:List (S51))⟩:S51)]:List (S51)):List (S51))).bind fun y490=>((some (([(⟨(⟨#[107]⟩:ByteArray),t484⟩:S51),(⟨(⟨#[122]⟩:ByteArray),([]:List (S51))⟩:S51)]:List (S51)):List (S51))).bind fun y493=>(if a2=true then (cadencelaw12_MergeGone.j1 kj5 t481 t484 y487 y493 y490) else (cadencelaw12_MergeGone.j1 kj5 t481 t484 y487 y490 y493)))))))=some r:=by rw [if_neg (show ¬ (false=true) by decide)] at H;exact H
     clear H
     have H:=H1
     clear H1
     replace H:=Option.bind_eq_some_iff.mp H
     obtain ⟨t481,A120,H⟩:=H
     replace H:((cadencelaw4_Small.f kj5 l1 4 3).bind fun t484=>((some (([(⟨(⟨#[107]⟩:ByteArray),t481⟩:S51),(⟨(⟨#[122]⟩:ByteArray),([]:List (S51))⟩:S51)]:List (S51)):List (S51))).bind fun y487=>((some (([(⟨(⟨#[122]⟩:ByteArray),([]:List (S51))⟩:S51)]:List (S51)):List (S51))).bind fun y490=>((some (([(⟨(⟨#[107]⟩:ByteArray),t484⟩:S51),(⟨(⟨#[122]⟩:ByteArray),([]:List (S51))⟩:S51)]:List (S51)):List (S51))).bind fun y493=>(if a2=true then (cadencelaw12_MergeGone.j1 kj5 t481 t484 y487 y493 y490) else (cadencelaw12_MergeGone.j1 kj5 t481 t484 y487 y490 y493))))))=some r:=H
     have A12:=Aside0.mk A120
     clear A120
     replace H:=Option.bind_eq_some_iff.mp H
     obtain ⟨t484,A130,H⟩:=H
     replace H:((some (([(⟨(⟨#[107]⟩:ByteArray),t481⟩:S51),(⟨(⟨#[122]⟩:ByteArray),([]:List (S51))⟩:S51)]:List (S51)):List (S51))).bind fun y487=>((some (([(⟨(⟨#[122]⟩:ByteArray),([]:List (S51))⟩:S51)]:List (S51)):List (S51))).bind fun y490=>((some (([(⟨(⟨#[107]⟩:ByteArray),t484⟩:S51),(⟨(⟨#[122]⟩:ByteArray),([]:List (S51))⟩:S51)]:List (S51)):List (S51))).bind fun y493=>(if a2=true then (cadencelaw12_MergeGone.j1 kj5 t481 t484 y487 y493 y490) else (cadencelaw12_MergeGone.j1 kj5 t481 t484 y487 y490 y493)))))=some r:=H
     have A13:=Aside0.mk A130
     clear A130
     obtain ⟨y487,hy487⟩:∃ y_:List (S51),y_=(([(⟨(⟨#[107]⟩:ByteArray),t481⟩:S51),(⟨(⟨#[122]⟩:ByteArray),([]:List (S51))⟩:S51)]:List (S51))):=⟨_,rfl⟩
     replace H:((some (([(⟨(⟨#[122]⟩:ByteArray),([]:List (S51))⟩:S51)]:List (S51)):List (S51))).bind fun y490=>((some (([(⟨(⟨#[107]⟩:ByteArray),t484⟩:S51),(⟨(⟨#[122]⟩:ByteArray),([]:List (S51))⟩:S51)]:List (S51)):List (S51))).bind fun y493=>(if a2=true then (cadencelaw12_MergeGone.j1 kj5 t481 t484 y487 y493 y490) else (cadencelaw12_MergeGone.j1 kj5 t481 t484 y487 y490 y493))))=some r:=by first|(rw [hy487];with_reducible exact H)|(have H2_:=(Option.bind_some _ _).symm.trans H;rw [hy487];with_reducible exact H2_)|(have H2_:=(Option.bind_some _ _).symm.trans H;with_reducible exact H2_)|with_reducible exact H|(rw [hy487];exact H)|exact H
     have Ny487:=Aside0.mk hy487
     clear hy487
     obtain ⟨y490,hy490⟩:∃ y_:List (S51),y_=(([(⟨(⟨#[122]⟩:ByteArray),([]:List (S51))⟩:S51)]:List (S51))):=⟨_,rfl⟩
     replace H:((some (([(⟨(⟨#[107]⟩:ByteArray),t484⟩:S51),(⟨(⟨#[122]⟩:ByteArray),([]:List (S51))⟩:S51)]:List (S51)):List (S51))).bind fun y493=>(if a2=true then (cadencelaw12_MergeGone.j1 kj5 t481 t484 y487 y493 y490) else (cadencelaw12_MergeGone.j1 kj5 t481 t484 y487 y490 y493)))=some r:=by first|(rw [hy490];with_reducible exact H)|(have H2_:=(Option.bind_some _ _).symm.trans H;rw [hy490];with_reducible exact H2_)|(have H2_:=(Option.bind_some _ _).symm.trans H;with_reducible exact H2_)|with_reducible exact H|(rw [hy490];exact H)|exact H
     have Ny490:=Aside0.mk hy490
     clear hy490
     obtain ⟨y493,hy493⟩:∃ y_:List (S51),y_=(([(⟨(⟨#[107]⟩:ByteArray),t484⟩:S51),(⟨(⟨#[122]⟩:ByteArray),([]:List (S51))⟩:S51)]:List (S51))):=⟨_,rfl⟩
     replace H:(if a2=true then (cadencelaw12_MergeGone.j1 kj5 t481 t484 y487 y493 y490) else (cadencelaw12_MergeGone.j1 kj5 t481 t484 y487 y490 y493))=some r:=by first|(rw [hy493];with_reducible exact H)|(have H2_:=(Option.bind_some _ _).symm.trans H;rw [hy493];with_reducible exact H2_)|(have H2_:=(Option.bind_some _ _).symm.trans H;with_reducible exact H2_)|with_reducible exact H|(rw [hy493];exact H)|exact H
     have Ny493:=Aside0.mk hy493
     clear hy493
     have HC14:=Aside0.mk H
     clear H
     go_upto_if 40 with (first|((with_reducible refine gate_callee (f:=14) rfl ?_);refine goesL_ (some 27) rfl rfl Try.func14 (by kernel_rfl) rfl #[.slice A0 l0.length c0,.int .i64 4,.int .i64 3] rfl (by (try simp only [List.map_toArray,List.map_cons,List.map_nil]);first|done|rfl|(simp only [List.length_drop,List.length_take];rfl)) ?_;(with_reducible refine (cadencelaw4_Small.calls kj5 _ _ l0 4 3 t481 _ ?side1 ?side2 A12.out).mono ?_);(case side1=>repeat (first|exact (Kd.C_below HR0.out HB.out)|(with_reducible refine cA_ ?_ _)|(with_reducible refine cN_ ?_ _)|(with_reducible refine cD_ ?_)));(case side2=>exact HC0.out);rintro e w15 ⟨v482,rfl,ho0,hb⟩;refine ⟨_,rfl,?_⟩;have n0_:=Aside0.mk (Kd.N_lower (Kd.N_mono (ok':=fun k_=>True) ho0 (fun k_ hk_=>trivial)) (below_size (by repeat (first|(with_reducible first|exact HB.out|apply bA_|apply bN_|apply bD_)|exact HB.out))));have n1_:=Aside0.mk (below_step (by repeat (first|(with_reducible first|exact HB.out|apply bA_|apply bN_|apply bD_)|exact HB.out)) hb);clear HB;have HO483:=n0_;have HB:=n1_;clear n0_ n1_;(try clear hb);(try clear hb2);(try clear hk);(try clear hi);(try clear ho0))|((with_reducible refine gate_callee (f:=14) rfl ?_);refine goesL_ (some 29) rfl rfl Try.func14 (by kernel_rfl) rfl #[.slice A1 l1.length c1,.int .i64 4,.int .i64 3] rfl (by (try simp only [List.map_toArray,List.map_cons,List.map_nil]);first|done|rfl|(simp only [List.length_drop,List.length_take];rfl)) ?_;(with_reducible refine (cadencelaw4_Small.calls kj5 _ _ l1 4 3 t484 _ ?side1 ?side2 A13.out).mono ?_);(case side1=>repeat (first|exact (Kd.C_below HR1.out HB.out)|(with_reducible refine cA_ ?_ _)|(with_reducible refine cN_ ?_ _)|(with_reducible refine cD_ ?_)));(case side2=>exact HC1.out);rintro e w16 ⟨v485,rfl,ho0,hb⟩;refine ⟨_,rfl,?_⟩;have n0_:=Aside0.mk (Kd.N_elder' (by (with_reducible repeat (first|apply nA_|apply nN_|apply nD_));exact HO483.out) (by first|exact Kd.N_base ho0|exact Kd.R_base ho0) hb);have n1_:=Aside0.mk (Kd.N_lower (Kd.N_mono (ok':=fun k_=>some k_≠(v482:Value).ownBlock) ho0 (fun k_ hk_=>(Kd.fresh' (Kd.N_lt (by (with_reducible repeat (first|apply nA_|apply nN_|apply nD_));exact HO483.out)) k_ hk_))) (below_size (by repeat (first|(with_reducible first|exact HB.out|apply bA_|apply bN_|apply bD_)|exact HB.out))));have n2_:=Aside0.mk (below_step (by repeat (first|(with_reducible first|exact HB.out|apply bA_|apply bN_|apply bD_)|exact HB.out)) hb);clear HO483;clear HB;have HO483:=n0_;have HO486:=n1_;have HB:=n2_;clear n0_ n1_ n2_;(try clear hb);(try clear hb2);(try clear hk);(try clear hi);(try clear ho0);obtain ⟨Ao17,co17,eo17⟩:=Kd.N_slice HO483.out;subst eo17)|((with_reducible refine gate_dst (N:=33) rfl ?_);(try (refine gate_guard (by rfl) ?_;dsimp only));refine Kd.N_lit k51 _ 51 ?hg (N':=33) ?hd (xs:=([(⟨(⟨#[107]⟩:ByteArray),t481⟩:S51),(⟨(⟨#[122]⟩:ByteArray),([]:List (S51))⟩:S51)]:List (S51))) (inner:=[.string (⟨#[107]⟩:ByteArray),.slice Ao17 t481.length co17,.string (⟨#[122]⟩:ByteArray),.slice none 0 0]) (ok:=(fun k_=>some k_≠(v485:Value).ownBlock)) (okp:=(fun k_=>some k_≠(v485:Value).ownBlock)) ?hr ?hp (fun _ hk=>hk) ((show ∀ k_,w16.heap.size≤k_→(fun k_=>some k_≠(v485:Value).ownBlock) k_ from fun k_ hk=>Kd.fresh' (Kd.N_lt (by (with_reducible repeat (first|apply nA_|apply nN_|apply nD_));exact HO486.out)) k_ hk) _ (Nat.le_refl _)) (Below.refl _ _) (Nat.le_refl _) (by simp) ?_;(case hd=>rfl);(case hg=>rfl);(case hr=>first|(go_simp;done)|(go_simp;rfl));(case hp=>exact (Reps.c2 (show Kd.FK k51 _ _ (⟨(⟨#[107]⟩:ByteArray),t481⟩:S51) [.string (⟨#[107]⟩:ByteArray),.slice Ao17 t481.length co17] from (k51_mkF _ _ (⟨(⟨#[107]⟩:ByteArray),t481⟩:S51) (Kd.N_reads' (Kd.N_mono (ok':=(fun k_=>some k_≠(v485:Value).ownBlock)) (HO483.out) (fun k_ hk=>hk.2))).2.1 (Kd.N_F (Kd.N_mono (ok':=(fun k_=>some k_≠(v485:Value).ownBlock)) (HO483.out) (fun k_ hk=>hk.2))))) (Reps.c2 (show Kd.FK k51 _ _ (⟨(⟨#[122]⟩:ByteArray),([]:List (S51))⟩:S51) [.string (⟨#[122]⟩:ByteArray),.slice none 0 0] from (k51_mkF _ _ (⟨(⟨#[122]⟩:ByteArray),([]:List (S51))⟩:S51) (Nat.le_refl _) (Kd.F_nil _ _ _))) (Reps.none _ _))));intro v488 w18 ho19 hb hg_ hnew_;clear hg_ hnew_;(first|rw [← Ny487.out] at ho19|(simp only [Int.reduceToNat] at ho19;rw [← Ny487.out] at ho19));have n0_:=Aside0.mk (Kd.N_elder' (by (with_reducible repeat (first|apply nA_|apply nN_|apply nD_));exact HO486.out) (Kd.N_base ho19) hb);have n1_:=Aside0.mk (Kd.N_lower ho19 (below_size (by repeat (first|(with_reducible first|exact HB.out|apply bA_|apply bN_|apply bD_)|exact HB.out))));have n2_:=Aside0.mk (below_step (by repeat (first|(with_reducible first|exact HB.out|apply bA_|apply bN_|apply bD_)|exact HB.out)) hb);clear HO486;clear HB;have nk_:=Aside0.mk (Kd.N_mono (ok':=fun _=>True) (Kd.N_below (by (with_reducible repeat (first|apply nA_|apply nN_|apply nD_));exact HO483.out) hb) (fun _ _=>trivial));clear HO483;have HO483:=nk_;clear nk_;have HO486:=n0_;have HO489:=n1_;have HB:=n2_;clear n0_ n1_ n2_;clear hb ho19)|((with_reducible refine gate_dst (N:=35) rfl ?_);(try (refine gate_guard (by rfl) ?_;dsimp only));refine Kd.N_lit k51 _ 51 ?hg (N':=35) ?hd (xs:=([(⟨(⟨#[122]⟩:ByteArray),([]:List (S51))⟩:S51)]:List (S51))) (inner:=[.string (⟨#[122]⟩:ByteArray),.slice none 0 0]) (ok:=(fun k_=>some k_≠(v485:Value).ownBlock∧some k_≠(v488:Value).ownBlock)) (okp:=(fun k_=>some k_≠(v485:Value).ownBlock∧some k_≠(v488:Value).ownBlock)) ?hr ?hp (fun _ hk=>hk) ((show ∀ k_,w18.heap.size≤k_→(fun k_=>some k_≠(v485:Value).ownBlock∧some k_≠(v488:Value).ownBlock) k_ from fun k_ hk=>⟨Kd.fresh' (Kd.N_lt (by (with_reducible repeat (first|apply nA_|apply nN_|apply nD_));exact HO486.out)) k_ hk,Kd.fresh' (Kd.N_lt (by (with_reducible repeat (first|apply nA_|apply nN_|apply nD_));exact HO489.out)) k_ hk⟩) _ (by first|exact Nat.le_refl _|simp [World.setCell])) (Below.refl _ _) (Nat.le_refl _) (by simp) ?_;(case hd=>rfl);(case hg=>rfl);(case hr=>first|(go_simp;done)|(go_simp;rfl));(case hp=>exact (Reps.c2 (show Kd.FK k51 _ _ (⟨(⟨#[122]⟩:ByteArray),([]:List (S51))⟩:S51) [.string (⟨#[122]⟩:ByteArray),.slice none 0 0] from (k51_mkF _ _ (⟨(⟨#[122]⟩:ByteArray),([]:List (S51))⟩:S51) (Nat.le_refl _) (Kd.F_nil _ _ _))) (Reps.none _ _)));intro v491 w20 ho21 hb hg_ hnew_;clear hg_ hnew_;(first|rw [← Ny490.out] at ho21|(simp only [Int.reduceToNat] at ho21;rw [← Ny490.out] at ho21));have n0_:=Aside0.mk (Kd.N_elder' (by (with_reducible repeat (first|apply nA_|apply nN_|apply nD_));exact HO486.out) (Kd.N_base ho21) hb);have n1_:=Aside0.mk (Kd.N_elder' (by (with_reducible repeat (first|apply nA_|apply nN_|apply nD_));exact HO489.out) (Kd.N_base ho21) hb);have n2_:=Aside0.mk (Kd.N_lower ho21 (below_size (by repeat (first|(with_reducible first|exact HB.out|apply bA_|apply bN_|apply bD_)|exact HB.out))));have n3_:=Aside0.mk (below_step (by repeat (first|(with_reducible first|exact HB.out|apply bA_|apply bN_|apply bD_)|exact HB.out)) hb);clear HO486;clear HO489;clear HB;have HO486:=n0_;have HO489:=n1_;have HO492:=n2_;have HB:=n3_;clear n0_ n1_ n2_ n3_;have nk_:=Aside0.mk (Kd.N_mono (ok':=fun _=>True) (Kd.N_below (by (with_reducible repeat (first|apply nA_|apply nN_|apply nD_));exact HO483.out) hb) (fun _ _=>trivial));clear HO483;have HO483:=nk_;clear nk_;clear hb ho21;obtain ⟨Ao22,co22,eo22⟩:=Kd.N_slice HO486.out;subst eo22)|((with_reducible refine gate_dst (N:=39) rfl ?_);(try (refine gate_guard (by rfl) ?_;dsimp only));refine Kd.N_lit k51 _ 51 ?hg (N':=39) ?hd (xs:=([(⟨(⟨#[107]⟩:ByteArray),t484⟩:S51),(⟨(⟨#[122]⟩:ByteArray),([]:List (S51))⟩:S51)]:List (S51))) (inner:=[.string (⟨#[107]⟩:ByteArray),.slice Ao22 t484.length co22,.string (⟨#[122]⟩:ByteArray),.slice none 0 0]) (ok:=(fun k_=>some k_≠(v488:Value).ownBlock∧some k_≠(v491:Value).ownBlock)) (okp:=(fun k_=>some k_≠(v488:Value).ownBlock∧some k_≠(v491:Value).ownBlock)) ?hr ?hp (fun _ hk=>hk) ((show ∀ k_,w20.heap.size≤k_→(fun k_=>some k_≠(v488:Value).ownBlock∧some k_≠(v491:Value).ownBlock) k_ from fun k_ hk=>⟨Kd.fresh' (Kd.N_lt (by (with_reducible repeat (first|apply nA_|apply nN_|apply nD_));exact HO489.out)) k_ hk,Kd.fresh' (Kd.N_lt (by (with_reducible repeat (first|apply nA_|apply nN_|apply nD_));exact HO492.out)) k_ hk⟩) _ (by first|exact Nat.le_refl _|simp [World.setCell])) (Below.refl _ _) (Nat.le_refl _) (by simp) ?_;(case hd=>rfl);(case hg=>rfl);(case hr=>first|(go_simp;done)|(go_simp;rfl));(case hp=>exact (Reps.c2 (show Kd.FK k51 _ _ (⟨(⟨#[107]⟩:ByteArray),t484⟩:S51) [.string (⟨#[107]⟩:ByteArray),.slice Ao22 t484.length co22] from (k51_mkF _ _ (⟨(⟨#[107]⟩:ByteArray),t484⟩:S51) (Kd.N_reads' (Kd.N_mono (ok':=(fun k_=>some k_≠(v488:Value).ownBlock∧some k_≠(v491:Value).ownBlock)) (HO486.out) (fun k_ hk=>⟨hk.1.2,hk.2⟩))).2.1 (Kd.N_F (Kd.N_mono (ok':=(fun k_=>some k_≠(v488:Value).ownBlock∧some k_≠(v491:Value).ownBlock)) (HO486.out) (fun k_ hk=>⟨hk.1.2,hk.2⟩))))) (Reps.c2 (show Kd.FK k51 _ _ (⟨(⟨#[122]⟩:ByteArray),([]:List (S51))⟩:S51) [.string (⟨#[122]⟩:ByteArray),.slice none 0 0] from (k51_mkF _ _ (⟨(⟨#[122]⟩:ByteArray),([]:List (S51))⟩:S51) (Nat.le_refl _) (Kd.F_nil _ _ _))) (Reps.none _ _))));intro v494 w23 ho24 hb hg_ hnew_;clear hg_ hnew_;(first|rw [← Ny493.out] at ho24|(simp only [Int.reduceToNat] at ho24;rw [← Ny493.out] at ho24));have n0_:=Aside0.mk (Kd.N_elder' (by (with_reducible repeat (first|apply nA_|apply nN_|apply nD_));exact HO489.out) (Kd.N_base ho24) hb);have n1_:=Aside0.mk (Kd.N_elder' (by (with_reducible repeat (first|apply nA_|apply nN_|apply nD_));exact HO492.out) (Kd.N_base ho24) hb);have n2_:=Aside0.mk (Kd.N_lower ho24 (below_size (by repeat (first|(with_reducible first|exact HB.out|apply bA_|apply bN_|apply bD_)|exact HB.out))));have n3_:=Aside0.mk (below_step (by repeat (first|(with_reducible first|exact HB.out|apply bA_|apply bN_|apply bD_)|exact HB.out)) hb);clear HO489;clear HO492;clear HB;have nk_:=Aside0.mk (Kd.N_mono (ok':=fun _=>True) (Kd.N_below (by (with_reducible repeat (first|apply nA_|apply nN_|apply nD_));exact HO486.out) hb) (fun _ _=>trivial));clear HO486;have HO486:=nk_;clear nk_;have HO489:=n0_;have HO492:=n1_;have HO495:=n2_;have HB:=n3_;clear n0_ n1_ n2_ n3_;have nk_:=Aside0.mk (Kd.N_mono (ok':=fun _=>True) (Kd.N_below (by (with_reducible repeat (first|apply nA_|apply nN_|apply nD_));exact HO483.out) hb) (fun _ _=>trivial));clear HO483;have HO483:=nk_;clear nk_;clear hb ho24))
     (try simp only [Act.put,List.setIfInBounds_toArray,List.set_cons_zero,List.set_cons_succ])
     go_cut [10,11] (fun v10 v11 wc=>∃ (kq:Nat) (x10_13:List (S51)) (x11_13:List (S51)),Aside0 (cadencelaw12_MergeGone.j1 kq t481 t484 y487 x10_13 x11_13=some r)∧Aside0 (kq≤kj5)∧Aside0 (Kd.N k51 51 wc w.heap.size (fun _=>True) (.slice Ao17 t481.length co17) t481)∧Aside0 (Kd.N k51 51 wc w.heap.size (fun _=>True) (.slice Ao22 t484.length co22) t484)∧Aside0 (Kd.N k51 51 wc w.heap.size (fun k_=>some k_≠((.slice Ao22 t484.length co22):Value).ownBlock∧some k_≠(v10:Value).ownBlock∧some k_≠(v11:Value).ownBlock) v488 y487)∧Aside0 (Kd.N k51 51 wc w.heap.size (fun k_=>some k_≠(v488:Value).ownBlock∧some k_≠(v11:Value).ownBlock) v10 x10_13)∧Aside0 (Kd.N k51 51 wc w.heap.size (fun k_=>some k_≠(v488:Value).ownBlock∧some k_≠(v10:Value).ownBlock) v11 x11_13)∧Aside0 (Below w.heap.size w wc))
     case first =>
      have H:=HC14.out
      clear HC14
      by_cases c25:a2=true
      ·subst c25
       have H1:(cadencelaw12_MergeGone.j1 kj5 t481 t484 y487 y493 y490)=some r:=by rw [if_pos rfl] at H;exact H
       clear H
       have H:=H1
       clear H1
       have H':=Aside0.mk H
       clear H
       go_wp2
       go_meet
       case rel=>exact ⟨_,(y493),(y490),H',⟨by have:=HJ5.out;first|omega|exact Nat.le_refl _⟩,⟨by (with_reducible repeat (first|apply nA_|apply nN_|apply nD_));exact HO483.out⟩,⟨by (with_reducible repeat (first|apply nA_|apply nN_|apply nD_));exact HO486.out⟩,⟨by (with_reducible repeat (first|apply nA_|apply nN_|apply nD_));exact Kd.N_mono HO489.out (fun _ hk=>⟨hk.1.1,⟨hk.2,hk.1.2⟩⟩)⟩,⟨by (with_reducible repeat (first|apply nA_|apply nN_|apply nD_));exact HO495.out⟩,⟨by (with_reducible repeat (first|apply nA_|apply nN_|apply nD_));exact Kd.N_mono HO492.out (fun _ hk=>⟨hk.1.2,hk.2⟩)⟩,⟨by repeat (first|(with_reducible first|exact HB.out|apply bA_|apply bN_|apply bD_)|exact HB.out)⟩⟩
      ·replace c25:=Bool.eq_false_iff.mpr c25
       subst c25
       have H1:(cadencelaw12_MergeGone.j1 kj5 t481 t484 y487 y490 y493)=some r:=by rw [if_neg (show ¬ (false=true) by decide)] at H;exact H
       clear H
       have H:=H1
       clear H1
       have H':=Aside0.mk H
       clear H
       go_wp2
       go_meet
       case rel=>exact ⟨_,(y490),(y493),H',⟨by have:=HJ5.out;first|omega|exact Nat.le_refl _⟩,⟨by (with_reducible repeat (first|apply nA_|apply nN_|apply nD_));exact HO483.out⟩,⟨by (with_reducible repeat (first|apply nA_|apply nN_|apply nD_));exact HO486.out⟩,⟨by (with_reducible repeat (first|apply nA_|apply nN_|apply nD_));exact Kd.N_mono HO489.out (fun _ hk=>⟨hk.1.1,⟨hk.1.2,hk.2⟩⟩)⟩,⟨by (with_reducible repeat (first|apply nA_|apply nN_|apply nD_));exact Kd.N_mono HO492.out (fun _ hk=>⟨hk.1.2,hk.2⟩)⟩,⟨by (with_reducible repeat (first|apply nA_|apply nN_|apply nD_));exact HO495.out⟩,⟨by repeat (first|(with_reducible first|exact HB.out|apply bA_|apply bN_|apply bD_)|exact HB.out)⟩⟩
     case rest =>
      clear HC14
      try clear c1
      try clear c2
      try clear p2
      try clear c5
      try clear c6
      try clear c7
      try clear c9
      try clear c11
      try clear c13
      try clear c14
      try clear c25
      try clear p2
      obtain ⟨kq,x10_13,x11_13,HA,HJ13,HO_7,HO_8,HO_9,HO_10,HO_11,HB⟩:=hcut
      cases kq with
      | zero=>exact absurd HA.out (by simp [cadencelaw12_MergeGone.j1])
      | succ kj13 =>
       have H:=HA.out
       clear HA
       simp only [cadencelaw12_MergeGone.j1] at H
       replace H:=Option.bind_eq_some_iff.mp H
       obtain ⟨t496,A260,H⟩:=H
       replace H:((cadencelaw12_some.f y487).bind fun bt499=>((cadencelaw12_some.f x10_13).bind fun bt503=>((cadencelaw12_some.f x11_13).bind fun bt507=>((merge_Merge.f t496 bt499.1 bt499.2 bt503.1 bt503.2 bt507.1 bt507.2).bind fun bt511=>((cadenceref2_Same.f kj13 t481 t484).bind fun t529=>(if t529=true then (if (bt511.2.2.2.2.2.2.length:Int)=0 then ((cadenceref2_Same.f kj13 bt511.2.1 (([(⟨(⟨#[122]⟩:ByteArray),([]:List (S51))⟩:S51)]:List (S51)))).bind fun t533=>(if t533=true then ((cadenceref2_Same.f kj13 bt511.2.2.2.1 bt511.2.1).bind fun t534=>(if t534=true then ((cadenceref2_Same.f kj13 bt511.2.2.2.2.2.1 bt511.2.1).bind fun t535=>(some t535)) else (none))) else (none))) else (none)) else (if (bt511.2.2.2.2.2.2.length:Int)=1 then (if 0 < (bt511.2.2.2.2.2.2.length:Int) then (if ((rd_T38 bt511.2.2.2.2.2.2 0).f1)=1 then (if (((rd_T38 bt511.2.2.2.2.2.2 0).f0).length:Int)=1 then (if 0 < (((rd_T38 bt511.2.2.2.2.2.2 0).f0).length:Int) then (if (rdOf ByteArray.empty ((rd_T38 bt511.2.2.2.2.2.2 0).f0) 0).toList=([107]:List UInt8) then ((cadenceref2_Same.f kj13 bt511.2.1 y487).bind fun t540=>(if t540=true then ((cadenceref2_Same.f kj13 bt511.2.2.2.1 x10_13).bind fun t541=>(if t541=true then ((cadenceref2_Same.f kj13 bt511.2.2.2.2.2.1 x11_13).bind fun t542=>(some t542)) else (none))) else (none))) else (none)) else (none)) else (none)) else (none)) else (none)) else (none))))))))=some r:=H
       have A26:=Aside0.mk A260
       clear A260
       replace H:=Option.bind_eq_some_iff.mp H
       obtain ⟨⟨t499,t500⟩,A270,H⟩:=H
       replace H:((cadencelaw12_some.f x10_13).bind fun bt503=>((cadencelaw12_some.f x11_13).bind fun bt507=>((merge_Merge.f t496 t499 t500 bt503.1 bt503.2 bt507.1 bt507.2).bind fun bt511=>((cadenceref2_Same.f kj13 t481 t484).bind fun t529=>(if t529=true then (if (bt511.2.2.2.2.2.2.length:Int)=0 then ((cadenceref2_Same.f kj13 bt511.2.1 (([(⟨(⟨#[122]⟩:ByteArray),([]:List (S51))⟩:S51)]:List (S51)))).bind fun t533=>(if t533=true then ((cadenceref2_Same.f kj13 bt511.2.2.2.1 bt511.2.1).bind fun t534=>(if t534=true then ((cadenceref2_Same.f kj13 bt511.2.2.2.2.2.1 bt511.2.1).bind fun t535=>(some t535)) else (none))) else (none))) else (none)) else (if (bt511.2.2.2.2.2.2.length:Int)=1 then (if 0 < (bt511.2.2.2.2.2.2.length:Int) then (if ((rd_T38 bt511.2.2.2.2.2.2 0).f1)=1 then (if (((rd_T38 bt511.2.2.2.2.2.2 0).f0).length:Int)=1 then (if 0 < (((rd_T38 bt511.2.2.2.2.2.2 0).f0).length:Int) then (if (rdOf ByteArray.empty ((rd_T38 bt511.2.2.2.2.2.2 0).f0) 0).toList=([107]:List UInt8) then ((cadenceref2_Same.f kj13 bt511.2.1 y487).bind fun t540=>(if t540=true then ((cadenceref2_Same.f kj13 bt511.2.2.2.1 x10_13).bind fun t541=>(if t541=true then ((cadenceref2_Same.f kj13 bt511.2.2.2.2.2.1 x11_13).bind fun t542=>(some t542)) else (none))) else (none))) else (none)) else (none)) else (none)) else (none)) else (none)) else (none)))))))=some r:=H
       have A27:=Aside0.mk A270
       clear A270
       replace H:=Option.bind_eq_some_iff.mp H
       obtain ⟨⟨t503,t504⟩,A280,H⟩:=H
       replace H:((cadencelaw12_some.f x11_13).bind fun bt507=>((merge_Merge.f t496 t499 t500 t503 t504 bt507.1 bt507.2).bind fun bt511=>((cadenceref2_Same.f kj13 t481 t484).bind fun t529=>(if t529=true then (if (bt511.2.2.2.2.2.2.length:Int)=0 then ((cadenceref2_Same.f kj13 bt511.2.1 (([(⟨(⟨#[122]⟩:ByteArray),([]:List (S51))⟩:S51)]:List (S51)))).bind fun t533=>(if t533=true then ((cadenceref2_Same.f kj13 bt511.2.2.2.1 bt511.2.1).bind fun t534=>(if t534=true then ((cadenceref2_Same.f kj13 bt511.2.2.2.2.2.1 bt511.2.1).bind fun t535=>(some t535)) else (none))) else (none))) else (none)) else (if (bt511.2.2.2.2.2.2.length:Int)=1 then (if 0 < (bt511.2.2.2.2.2.2.length:Int) then (if ((rd_T38 bt511.2.2.2.2.2.2 0).f1)=1 then (if (((rd_T38 bt511.2.2.2.2.2.2 0).f0).length:Int)=1 then (if 0 < (((rd_T38 bt511.2.2.2.2.2.2 0).f0).length:Int) then (if (rdOf ByteArray.empty ((rd_T38 bt511.2.2.2.2.2.2 0).f0) 0).toList=([107]:List UInt8) then ((cadenceref2_Same.f kj13 bt511.2.1 y487).bind fun t540=>(if t540=true then ((cadenceref2_Same.f kj13 bt511.2.2.2.1 x10_13).bind fun t541=>(if t541=true then ((cadenceref2_Same.f kj13 bt511.2.2.2.2.2.1 x11_13).bind fun t542=>(some t542)) else (none))) else (none))) else (none)) else (none)) else (none)) else (none)) else (none)) else (none))))))=some r:=H
       have A28:=Aside0.mk A280
       clear A280
       replace H:=Option.bind_eq_some_iff.mp H
       obtain ⟨⟨t507,t508⟩,A290,H⟩:=H
       replace H:((merge_Merge.f t496 t499 t500 t503 t504 t507 t508).bind fun bt511=>((cadenceref2_Same.f kj13 t481 t484).bind fun t529=>(if t529=true then (if (bt511.2.2.2.2.2.2.length:Int)=0 then ((cadenceref2_Same.f kj13 bt511.2.1 (([(⟨(⟨#[122]⟩:ByteArray),([]:List (S51))⟩:S51)]:List (S51)))).bind fun t533=>(if t533=true then ((cadenceref2_Same.f kj13 bt511.2.2.2.1 bt511.2.1).bind fun t534=>(if t534=true then ((cadenceref2_Same.f kj13 bt511.2.2.2.2.2.1 bt511.2.1).bind fun t535=>(some t535)) else (none))) else (none))) else (none)) else (if (bt511.2.2.2.2.2.2.length:Int)=1 then (if 0 < (bt511.2.2.2.2.2.2.length:Int) then (if ((rd_T38 bt511.2.2.2.2.2.2 0).f1)=1 then (if (((rd_T38 bt511.2.2.2.2.2.2 0).f0).length:Int)=1 then (if 0 < (((rd_T38 bt511.2.2.2.2.2.2 0).f0).length:Int) then (if (rdOf ByteArray.empty ((rd_T38 bt511.2.2.2.2.2.2 0).f0) 0).toList=([107]:List UInt8) then ((cadenceref2_Same.f kj13 bt511.2.1 y487).bind fun t540=>(if t540=true then ((cadenceref2_Same.f kj13 bt511.2.2.2.1 x10_13).bind fun t541=>(if t541=true then ((cadenceref2_Same.f kj13 bt511.2.2.2.2.2.1 x11_13).bind fun t542=>(some t542)) else (none))) else (none))) else (none)) else (none)) else (none)) else (none)) else (none)) else (none)))))=some r:=H
       have A29:=Aside0.mk A290
       clear A290
       replace H:=Option.bind_eq_some_iff.mp H
       obtain ⟨⟨t511,t512,t515,t516,t519,t520,t523⟩,A300,H⟩:=H
       replace H:((cadenceref2_Same.f kj13 t481 t484).bind fun t529=>(if t529=true then (if (t523.length:Int)=0 then ((cadenceref2_Same.f kj13 t512 (([(⟨(⟨#[122]⟩:ByteArray),([]:List (S51))⟩:S51)]:List (S51)))).bind fun t533=>(if t533=true then ((cadenceref2_Same.f kj13 t516 t512).bind fun t534=>(if t534=true then ((cadenceref2_Same.f kj13 t520 t512).bind fun t535=>(some t535)) else (none))) else (none))) else (none)) else (if (t523.length:Int)=1 then (if 0 < (t523.length:Int) then (if ((rd_T38 t523 0).f1)=1 then (if (((rd_T38 t523 0).f0).length:Int)=1 then (if 0 < (((rd_T38 t523 0).f0).length:Int) then (if (rdOf ByteArray.empty ((rd_T38 t523 0).f0) 0).toList=([107]:List UInt8) then ((cadenceref2_Same.f kj13 t512 y487).bind fun t540=>(if t540=true then ((cadenceref2_Same.f kj13 t516 x10_13).bind fun t541=>(if t541=true then ((cadenceref2_Same.f kj13 t520 x11_13).bind fun t542=>(some t542)) else (none))) else (none))) else (none)) else (none)) else (none)) else (none)) else (none)) else (none))))=some r:=H
       have A30:=Aside0.mk A300
       clear A300
       replace H:=Option.bind_eq_some_iff.mp H
       obtain ⟨t529,A310,H⟩:=H
       replace H:(if t529=true then (if (t523.length:Int)=0 then ((cadenceref2_Same.f kj13 t512 (([(⟨(⟨#[122]⟩:ByteArray),([]:List (S51))⟩:S51)]:List (S51)))).bind fun t533=>(if t533=true then ((cadenceref2_Same.f kj13 t516 t512).bind fun t534=>(if t534=true then ((cadenceref2_Same.f kj13 t520 t512).bind fun t535=>(some t535)) else (none))) else (none))) else (none)) else (if (t523.length:Int)=1 then (if 0 < (t523.length:Int) then (if ((rd_T38 t523 0).f1)=1 then (if (((rd_T38 t523 0).f0).length:Int)=1 then (if 0 < (((rd_T38 t523 0).f0).length:Int) then (if (rdOf ByteArray.empty ((rd_T38 t523 0).f0) 0).toList=([107]:List UInt8) then ((cadenceref2_Same.f kj13 t512 y487).bind fun t540=>(if t540=true then ((cadenceref2_Same.f kj13 t516 x10_13).bind fun t541=>(if t541=true then ((cadenceref2_Same.f kj13 t520 x11_13).bind fun t542=>(some t542)) else (none))) else (none))) else (none)) else (none)) else (none)) else (none)) else (none)) else (none)))=some r:=H
       have A31:=Aside0.mk A310
       clear A310
       by_cases c32:t529=true
       ·subst c32
        have H1:(if (t523.length:Int)=0 then ((cadenceref2_Same.f kj13 t512 (([(⟨(⟨#[122]⟩:ByteArray),([]:List (S51))⟩:S51)]:List (S51)))).bind fun t533=>(if t533=true then ((cadenceref2_Same.f kj13 t516 t512).bind fun t534=>(if t534=true then ((cadenceref2_Same.f kj13 t520 t512).bind fun t535=>(some t535)) else (none))) else (none))) else (none))=some r:=by rw [if_pos rfl] at H;exact H
        clear H
        have H:=H1
        clear H1
        by_cases c33:(t523.length:Int)=0
        ·rw [if_pos c33] at H
         have c33b0:((t523.length:Int) == 0)=true:=beq_iff_eq.mpr c33
         have c33b1:((t523.length:Int) != 0)=false:=bne_eq_false_iff_eq.mpr c33
         clear c33
         obtain ⟨y530,hy530⟩:∃ y_:List (S51),y_=(([(⟨(⟨#[122]⟩:ByteArray),([]:List (S51))⟩:S51)]:List (S51))):=⟨_,rfl⟩
         replace H:((cadenceref2_Same.f kj13 t512 y530).bind fun t533=>(if t533=true then ((cadenceref2_Same.f kj13 t516 t512).bind fun t534=>(if t534=true then ((cadenceref2_Same.f kj13 t520 t512).bind fun t535=>(some t535)) else (none))) else (none)))=some r:=by first|(rw [hy530];with_reducible exact H)|(have H2_:=(Option.bind_some _ _).symm.trans H;rw [hy530];with_reducible exact H2_)|(have H2_:=(Option.bind_some _ _).symm.trans H;with_reducible exact H2_)|with_reducible exact H|(rw [hy530];exact H)|exact H
         have Ny530:=Aside0.mk hy530
         clear hy530
         replace H:=Option.bind_eq_some_iff.mp H
         obtain ⟨t533,A340,H⟩:=H
         replace H:(if t533=true then ((cadenceref2_Same.f kj13 t516 t512).bind fun t534=>(if t534=true then ((cadenceref2_Same.f kj13 t520 t512).bind fun t535=>(some t535)) else (none))) else (none))=some r:=H
         have A34:=Aside0.mk A340
         clear A340
         by_cases c35:t533=true
         ·subst c35
          have H1:((cadenceref2_Same.f kj13 t516 t512).bind fun t534=>(if t534=true then ((cadenceref2_Same.f kj13 t520 t512).bind fun t535=>(some t535)) else (none)))=some r:=by rw [if_pos rfl] at H;exact H
          clear H
          have H:=H1
          clear H1
          replace H:=Option.bind_eq_some_iff.mp H
          obtain ⟨t534,A360,H⟩:=H
          replace H:(if t534=true then ((cadenceref2_Same.f kj13 t520 t512).bind fun t535=>(some t535)) else (none))=some r:=H
          have A36:=Aside0.mk A360
          clear A360
          by_cases c37:t534=true
          ·subst c37
           have H1:((cadenceref2_Same.f kj13 t520 t512).bind fun t535=>(some t535))=some r:=by rw [if_pos rfl] at H;exact H
           clear H
           have H:=H1
           clear H1
           replace H:=Option.bind_eq_some_iff.mp H
           obtain ⟨t535,A380,H⟩:=H
           replace H:(some t535)=some r:=H
           have A38:=Aside0.mk A380
           clear A380
           obtain rfl:=Option.some.inj H
           go_wp2_with (first|((with_reducible refine gate_callee (f:=18) rfl ?_);refine goesL_ (some 44) rfl rfl Try.func18 (by kernel_rfl) rfl #[] rfl (by (try simp only [List.map_toArray,List.map_cons,List.map_nil]);first|done|rfl|(simp only [List.length_drop,List.length_take];rfl)) ?_;(with_reducible refine (cadencelaw12_wide.calls  t496 _ A26.out).mono ?_);rintro e w39 ⟨v497,rfl,ho0,hb⟩;refine ⟨_,rfl,?_⟩;have n0_:=Aside0.mk (Kd.N_elder' (by (with_reducible repeat (first|apply nA_|apply nN_|apply nD_));exact HO_7.out) (by first|exact Kd.N_base ho0|exact Kd.R_base ho0) hb);have n1_:=Aside0.mk (Kd.N_elder' (by (with_reducible repeat (first|apply nA_|apply nN_|apply nD_));exact HO_8.out) (by first|exact Kd.N_base ho0|exact Kd.R_base ho0) hb);have n2_:=Aside0.mk (Kd.N_elder' (by (with_reducible repeat (first|apply nA_|apply nN_|apply nD_));exact HO_9.out) (by first|exact Kd.N_base ho0|exact Kd.R_base ho0) hb);have n3_:=Aside0.mk (Kd.N_elder' (by (with_reducible repeat (first|apply nA_|apply nN_|apply nD_));exact HO_10.out) (by first|exact Kd.N_base ho0|exact Kd.R_base ho0) hb);have n4_:=Aside0.mk (Kd.N_elder' (by (with_reducible repeat (first|apply nA_|apply nN_|apply nD_));exact HO_11.out) (by first|exact Kd.N_base ho0|exact Kd.R_base ho0) hb);have n5_:=Aside0.mk (Kd.N_lower (Kd.N_mono (ok':=fun k_=>some k_≠(.slice Ao17 t481.length co17:Value).ownBlock∧some k_≠(.slice Ao22 t484.length co22:Value).ownBlock∧some k_≠(v488:Value).ownBlock∧some k_≠(u10:Value).ownBlock∧some k_≠(u11:Value).ownBlock) ho0 (fun k_ hk_=>⟨(Kd.fresh' (Kd.N_lt (by (with_reducible repeat (first|apply nA_|apply nN_|apply nD_));exact HO_7.out)) k_ hk_),(Kd.fresh' (Kd.N_lt (by (with_reducible repeat (first|apply nA_|apply nN_|apply nD_));exact HO_8.out)) k_ hk_),(Kd.fresh' (Kd.N_lt (by (with_reducible repeat (first|apply nA_|apply nN_|apply nD_));exact HO_9.out)) k_ hk_),(Kd.fresh' (Kd.N_lt (by (with_reducible repeat (first|apply nA_|apply nN_|apply nD_));exact HO_10.out)) k_ hk_),(Kd.fresh' (Kd.N_lt (by (with_reducible repeat (first|apply nA_|apply nN_|apply nD_));exact HO_11.out)) k_ hk_)⟩)) (below_size (by repeat (first|(with_reducible first|exact HB.out|apply bA_|apply bN_|apply bD_)|exact HB.out))));have n6_:=Aside0.mk (below_step (by repeat (first|(with_reducible first|exact HB.out|apply bA_|apply bN_|apply bD_)|exact HB.out)) hb);clear HO_7;clear HO_8;clear HO_9;clear HO_10;clear HO_11;clear HB;have HO_7:=n0_;have HO_8:=n1_;have HO_9:=n2_;have HO_10:=n3_;have HO_11:=n4_;have HO498:=n5_;have HB:=n6_;clear n0_ n1_ n2_ n3_ n4_ n5_ n6_;(try clear hb);(try clear hb2);(try clear hk);(try clear hi);(try clear ho0);obtain ⟨Ao40,co40,eo40⟩:=Kd.N_slice HO_9.out;subst eo40)|((with_reducible refine gate_callee (f:=10) rfl ?_);refine goesL_ (some 46) rfl rfl Try.func10 (by kernel_rfl) rfl #[.slice Ao40 y487.length co40] rfl (by (try simp only [List.map_toArray,List.map_cons,List.map_nil]);first|done|rfl|(simp only [List.length_drop,List.length_take];rfl)) ?_;(with_reducible refine (cadencelaw12_some.calls (fun k_=>((some k_≠(.slice Ao22 t484.length co22:Value).ownBlock∧(some k_≠(u10:Value).ownBlock∧some k_≠(u11:Value).ownBlock))∧some k_≠(v497:Value).ownBlock)) _ _ y487 t499 t500 _ ?side1 A27.out).mono ?_);(case side1=>exact Kd.N_V (HO_9.out));rintro e w41 ⟨v501,rfl,ho0,hb⟩;refine ⟨_,rfl,?_⟩;have n0_:=Aside0.mk (Kd.N_below (by (with_reducible repeat (first|apply nA_|apply nN_|apply nD_));exact HO_7.out) hb);have n1_:=Aside0.mk (Kd.N_below (by (with_reducible repeat (first|apply nA_|apply nN_|apply nD_));exact HO_8.out) hb);have n2_:=Aside0.mk (Kd.N_below (by (with_reducible repeat (first|apply nA_|apply nN_|apply nD_));exact HO_9.out) hb);have n3_:=Aside0.mk (Kd.N_below (by (with_reducible repeat (first|apply nA_|apply nN_|apply nD_));exact HO_10.out) hb);have n4_:=Aside0.mk (Kd.N_below (by (with_reducible repeat (first|apply nA_|apply nN_|apply nD_));exact HO_11.out) hb);have n5_:=Aside0.mk (Kd.N_below (by (with_reducible repeat (first|apply nA_|apply nN_|apply nD_));exact HO498.out) hb);have n6_:=Aside0.mk (Kd.V_lower (Kd.V_mono (ok':=fun k_=>some k_≠(.slice Ao22 t484.length co22:Value).ownBlock∧some k_≠(u10:Value).ownBlock∧some k_≠(u11:Value).ownBlock∧some k_≠(v497:Value).ownBlock) ho0 (fun k_ hk_=>⟨Or.elim hk_ (fun hs_=>hs_.1.1) (fun hn_=>(Kd.fresh' (Kd.N_lt (by (with_reducible repeat (first|apply nA_|apply nN_|apply nD_));exact HO_8.out)) k_ hn_)),Or.elim hk_ (fun hs_=>hs_.1.2.1) (fun hn_=>(Kd.fresh' (Kd.N_lt (by (with_reducible repeat (first|apply nA_|apply nN_|apply nD_));exact HO_10.out)) k_ hn_)),Or.elim hk_ (fun hs_=>hs_.1.2.2) (fun hn_=>(Kd.fresh' (Kd.N_lt (by (with_reducible repeat (first|apply nA_|apply nN_|apply nD_));exact HO_11.out)) k_ hn_)),Or.elim hk_ (fun hs_=>hs_.2) (fun hn_=>(Kd.fresh' (Kd.N_lt (by (with_reducible repeat (first|apply nA_|apply nN_|apply nD_));exact HO498.out)) k_ hn_))⟩)) (below_size (by repeat (first|(with_reducible first|exact HB.out|apply bA_|apply bN_|apply bD_)|exact HB.out))));have n7_:=Aside0.mk (below_step (by repeat (first|(with_reducible first|exact HB.out|apply bA_|apply bN_|apply bD_)|exact HB.out)) hb);clear HO_7;clear HO_8;clear HO_9;clear HO_10;clear HO_11;clear HO498;clear HB;have HO_7:=n0_;have HO_8:=n1_;have HO_9:=n2_;have HO_10:=n3_;have HO_11:=n4_;have HO498:=n5_;have HO502:=n6_;have HB:=n7_;clear n0_ n1_ n2_ n3_ n4_ n5_ n6_ n7_;(try clear hb);(try clear hb2);(try clear hk);(try clear hi);(try clear ho0);obtain ⟨Ao42,co42,eo42⟩:=Kd.N_slice HO_10.out;subst eo42)|((with_reducible refine gate_callee (f:=10) rfl ?_);refine goesL_ (some 48) rfl rfl Try.func10 (by kernel_rfl) rfl #[.slice Ao42 x10_13.length co42] rfl (by (try simp only [List.map_toArray,List.map_cons,List.map_nil]);first|done|rfl|(simp only [List.length_drop,List.length_take];rfl)) ?_;(with_reducible refine (cadencelaw12_some.calls (fun k_=>((some k_≠(.slice Ao40 y487.length co40:Value).ownBlock∧some k_≠(u11:Value).ownBlock)∧some k_≠(v497:Value).ownBlock)) _ _ x10_13 t503 t504 _ ?side1 A28.out).mono ?_);(case side1=>exact Kd.N_V (HO_10.out));rintro e w43 ⟨v505,rfl,ho0,hb⟩;refine ⟨_,rfl,?_⟩;have n0_:=Aside0.mk (Kd.N_below (by (with_reducible repeat (first|apply nA_|apply nN_|apply nD_));exact HO_7.out) hb);have n1_:=Aside0.mk (Kd.N_below (by (with_reducible repeat (first|apply nA_|apply nN_|apply nD_));exact HO_8.out) hb);have n2_:=Aside0.mk (Kd.N_below (by (with_reducible repeat (first|apply nA_|apply nN_|apply nD_));exact HO_9.out) hb);have n3_:=Aside0.mk (Kd.N_below (by (with_reducible repeat (first|apply nA_|apply nN_|apply nD_));exact HO_10.out) hb);have n4_:=Aside0.mk (Kd.N_below (by (with_reducible repeat (first|apply nA_|apply nN_|apply nD_));exact HO_11.out) hb);have n5_:=Aside0.mk (Kd.N_below (by (with_reducible repeat (first|apply nA_|apply nN_|apply nD_));exact HO498.out) hb);have n6_:=Aside0.mk (Kd.V_below (by (with_reducible repeat (first|apply vA_|apply vN_|apply vD_));exact HO502.out) hb);have n7_:=Aside0.mk (Kd.V_lower (Kd.V_mono (ok':=fun k_=>some k_≠(.slice Ao40 y487.length co40:Value).ownBlock∧some k_≠(u11:Value).ownBlock∧some k_≠(v497:Value).ownBlock) ho0 (fun k_ hk_=>⟨Or.elim hk_ (fun hs_=>hs_.1.1) (fun hn_=>(Kd.fresh' (Kd.N_lt (by (with_reducible repeat (first|apply nA_|apply nN_|apply nD_));exact HO_9.out)) k_ hn_)),Or.elim hk_ (fun hs_=>hs_.1.2) (fun hn_=>(Kd.fresh' (Kd.N_lt (by (with_reducible repeat (first|apply nA_|apply nN_|apply nD_));exact HO_11.out)) k_ hn_)),Or.elim hk_ (fun hs_=>hs_.2) (fun hn_=>(Kd.fresh' (Kd.N_lt (by (with_reducible repeat (first|apply nA_|apply nN_|apply nD_));exact HO498.out)) k_ hn_))⟩)) (below_size (by repeat (first|(with_reducible first|exact HB.out|apply bA_|apply bN_|apply bD_)|exact HB.out))));have n8_:=Aside0.mk (below_step (by repeat (first|(with_reducible first|exact HB.out|apply bA_|apply bN_|apply bD_)|exact HB.out)) hb);clear HO_7;clear HO_8;clear HO_9;clear HO_10;clear HO_11;clear HO498;clear HO502;clear HB;have HO_7:=n0_;have HO_8:=n1_;have HO_9:=n2_;have HO_10:=n3_;have HO_11:=n4_;have HO498:=n5_;have HO502:=n6_;have HO506:=n7_;have HB:=n8_;clear n0_ n1_ n2_ n3_ n4_ n5_ n6_ n7_ n8_;(try clear hb);(try clear hb2);(try clear hk);(try clear hi);(try clear ho0);obtain ⟨Ao44,co44,eo44⟩:=Kd.N_slice HO_11.out;subst eo44)|((with_reducible refine gate_callee (f:=10) rfl ?_);refine goesL_ (some 50) rfl rfl Try.func10 (by kernel_rfl) rfl #[.slice Ao44 x11_13.length co44] rfl (by (try simp only [List.map_toArray,List.map_cons,List.map_nil]);first|done|rfl|(simp only [List.length_drop,List.length_take];rfl)) ?_;(with_reducible refine (cadencelaw12_some.calls (fun k_=>((some k_≠(.slice Ao40 y487.length co40:Value).ownBlock∧some k_≠(.slice Ao42 x10_13.length co42:Value).ownBlock)∧some k_≠(v497:Value).ownBlock)) _ _ x11_13 t507 t508 _ ?side1 A29.out).mono ?_);(case side1=>exact Kd.N_V (HO_11.out));rintro e w45 ⟨v509,rfl,ho0,hb⟩;refine ⟨_,rfl,?_⟩;have n0_:=Aside0.mk (Kd.N_below (by (with_reducible repeat (first|apply nA_|apply nN_|apply nD_));exact HO_7.out) hb);have n1_:=Aside0.mk (Kd.N_below (by (with_reducible repeat (first|apply nA_|apply nN_|apply nD_));exact HO_8.out) hb);have n2_:=Aside0.mk (Kd.N_below (by (with_reducible repeat (first|apply nA_|apply nN_|apply nD_));exact HO_9.out) hb);have n3_:=Aside0.mk (Kd.N_below (by (with_reducible repeat (first|apply nA_|apply nN_|apply nD_));exact HO_10.out) hb);have n4_:=Aside0.mk (Kd.N_below (by (with_reducible repeat (first|apply nA_|apply nN_|apply nD_));exact HO_11.out) hb);have n5_:=Aside0.mk (Kd.N_below (by (with_reducible repeat (first|apply nA_|apply nN_|apply nD_));exact HO498.out) hb);have n6_:=Aside0.mk (Kd.V_below (by (with_reducible repeat (first|apply vA_|apply vN_|apply vD_));exact HO502.out) hb);have n7_:=Aside0.mk (Kd.V_below (by (with_reducible repeat (first|apply vA_|apply vN_|apply vD_));exact HO506.out) hb);have n8_:=Aside0.mk (Kd.V_lower (Kd.V_mono (ok':=fun k_=>some k_≠(.slice Ao40 y487.length co40:Value).ownBlock∧some k_≠(.slice Ao42 x10_13.length co42:Value).ownBlock∧some k_≠(v497:Value).ownBlock) ho0 (fun k_ hk_=>⟨Or.elim hk_ (fun hs_=>hs_.1.1) (fun hn_=>(Kd.fresh' (Kd.N_lt (by (with_reducible repeat (first|apply nA_|apply nN_|apply nD_));exact HO_9.out)) k_ hn_)),Or.elim hk_ (fun hs_=>hs_.1.2) (fun hn_=>(Kd.fresh' (Kd.N_lt (by (with_reducible repeat (first|apply nA_|apply nN_|apply nD_));exact HO_10.out)) k_ hn_)),Or.elim hk_ (fun hs_=>hs_.2) (fun hn_=>(Kd.fresh' (Kd.N_lt (by (with_reducible repeat (first|apply nA_|apply nN_|apply nD_));exact HO498.out)) k_ hn_))⟩)) (below_size (by repeat (first|(with_reducible first|exact HB.out|apply bA_|apply bN_|apply bD_)|exact HB.out))));have n9_:=Aside0.mk (below_step (by repeat (first|(with_reducible first|exact HB.out|apply bA_|apply bN_|apply bD_)|exact HB.out)) hb);clear HO_7;clear HO_8;clear HO_9;clear HO_10;clear HO_11;clear HO498;clear HO502;clear HO506;clear HB;have HO_7:=n0_;have HO_8:=n1_;have HO_9:=n2_;have HO_10:=n3_;have HO_11:=n4_;have HO498:=n5_;have HO502:=n6_;have HO506:=n7_;have HO510:=n8_;have HB:=n9_;clear n0_ n1_ n2_ n3_ n4_ n5_ n6_ n7_ n8_ n9_;(try clear hb);(try clear hb2);(try clear hk);(try clear hi);(try clear ho0);obtain ⟨Ao46,co46,eo46⟩:=Kd.N_slice HO498.out;subst eo46;obtain ⟨Ao47,co47,eo47⟩:=Kd.V_slice HO502.out;subst eo47;obtain ⟨Ao48,co48,eo48⟩:=Kd.V_slice HO506.out;subst eo48;obtain ⟨Ao49,co49,eo49⟩:=Kd.V_slice HO510.out;subst eo49)|((with_reducible refine gate_callee (f:=8) rfl ?_);refine goesL_ (some 51) rfl rfl Try.func8 (by kernel_rfl) rfl #[.slice Ao46 t496.length co46,.agg #[.bool t499,.slice Ao47 t500.length co47],.agg #[.bool t503,.slice Ao48 t504.length co48],.agg #[.bool t507,.slice Ao49 t508.length co49]] rfl (by (try simp only [List.map_toArray,List.map_cons,List.map_nil]);first|done|rfl|(simp only [List.length_drop,List.length_take];rfl)) ?_;(with_reducible refine (merge_Merge.calls (fun k_=>(some k_≠(.slice Ao17 t481.length co17:Value).ownBlock∧(some k_≠(.slice Ao22 t484.length co22:Value).ownBlock∧(some k_≠(.slice Ao40 y487.length co40:Value).ownBlock∧(some k_≠(.slice Ao42 x10_13.length co42:Value).ownBlock∧some k_≠(.slice Ao44 x11_13.length co44:Value).ownBlock))))) _ _ t496 t499 (fun k_=>(some k_≠(.slice Ao22 t484.length co22:Value).ownBlock∧(some k_≠(.slice Ao42 x10_13.length co42:Value).ownBlock∧(some k_≠(.slice Ao44 x11_13.length co44:Value).ownBlock∧some k_≠(.slice Ao46 t496.length co46:Value).ownBlock)))) _ _ t500 t503 (fun k_=>(some k_≠(.slice Ao40 y487.length co40:Value).ownBlock∧(some k_≠(.slice Ao44 x11_13.length co44:Value).ownBlock∧some k_≠(.slice Ao46 t496.length co46:Value).ownBlock))) _ _ t504 t507 (fun k_=>(some k_≠(.slice Ao40 y487.length co40:Value).ownBlock∧(some k_≠(.slice Ao42 x10_13.length co42:Value).ownBlock∧some k_≠(.slice Ao46 t496.length co46:Value).ownBlock))) _ _ t508 t511 t512 t515 t516 t519 t520 t523 _ ?side1 ?side2 ?side3 ?side4 A30.out).mono ?_);(case side1=>exact Kd.N_V (HO498.out));(case side2=>exact HO502.out);(case side3=>exact HO506.out);(case side4=>exact HO510.out);rintro e w50 ⟨v513,v517,v521,v524,rfl,ho0,ho1,ho2,ho3,hb⟩;refine ⟨_,rfl,?_⟩;have n0_:=Aside0.mk (Kd.N_elder' (by (with_reducible repeat (first|apply nA_|apply nN_|apply nD_));exact HO_7.out) (Kd.N_base ho3) hb);have n1_:=Aside0.mk (Kd.N_elder' (by (with_reducible repeat (first|apply nA_|apply nN_|apply nD_));exact HO_8.out) (Kd.N_base ho3) hb);have n2_:=Aside0.mk (Kd.N_elder' (by (with_reducible repeat (first|apply nA_|apply nN_|apply nD_));exact HO_9.out) (Kd.N_base ho3) hb);have n3_:=Aside0.mk (Kd.N_elder' (by (with_reducible repeat (first|apply nA_|apply nN_|apply nD_));exact HO_10.out) (Kd.N_base ho3) hb);have n4_:=Aside0.mk (Kd.N_elder' (by (with_reducible repeat (first|apply nA_|apply nN_|apply nD_));exact HO_11.out) (Kd.N_base ho3) hb);have n5_:=Aside0.mk (Kd.N_elder' (by (with_reducible repeat (first|apply nA_|apply nN_|apply nD_));exact HO498.out) (Kd.N_base ho3) hb);have n6_:=Aside0.mk (Kd.V_elder' (by (with_reducible repeat (first|apply vA_|apply vN_|apply vD_));exact HO502.out) (Kd.N_base ho3) hb);have n7_:=Aside0.mk (Kd.V_elder' (by (with_reducible repeat (first|apply vA_|apply vN_|apply vD_));exact HO506.out) (Kd.N_base ho3) hb);have n8_:=Aside0.mk (Kd.V_elder' (by (with_reducible repeat (first|apply vA_|apply vN_|apply vD_));exact HO510.out) (Kd.N_base ho3) hb);have n9_:=Aside0.mk (Kd.V_lower (Kd.V_mono (ok':=fun k_=>some k_≠(v524:Value).ownBlock) ho0 (fun k_ hk_=>hk_.2)) (below_size (by repeat (first|(with_reducible first|exact HB.out|apply bA_|apply bN_|apply bD_)|exact HB.out))));have n10_:=Aside0.mk (Kd.V_lower (Kd.V_mono (ok':=fun k_=>some k_≠(v524:Value).ownBlock) ho1 (fun k_ hk_=>hk_.2)) (below_size (by repeat (first|(with_reducible first|exact HB.out|apply bA_|apply bN_|apply bD_)|exact HB.out))));have n11_:=Aside0.mk (Kd.V_lower (Kd.V_mono (ok':=fun k_=>some k_≠(v524:Value).ownBlock) ho2 (fun k_ hk_=>hk_.2)) (below_size (by repeat (first|(with_reducible first|exact HB.out|apply bA_|apply bN_|apply bD_)|exact HB.out))));have n12_:=Aside0.mk (Kd.N_lower (Kd.N_mono (ok':=fun k_=>True) ho3 (fun k_ hk_=>trivial)) (below_size (by repeat (first|(with_reducible first|exact HB.out|apply bA_|apply bN_|apply bD_)|exact HB.out))));have n13_:=Aside0.mk (below_step (by repeat (first|(with_reducible first|exact HB.out|apply bA_|apply bN_|apply bD_)|exact HB.out)) hb);clear HO_7;clear HO_8;clear HO_9;clear HO_10;clear HO_11;clear HO498;clear HO502;clear HO506;clear HO510;clear HB;have HO_7:=n0_;have HO_8:=n1_;have HO_9:=n2_;have HO_10:=n3_;have HO_11:=n4_;have HO498:=n5_;have HO502:=n6_;have HO506:=n7_;have HO510:=n8_;have HO514:=n9_;have HO518:=n10_;have HO522:=n11_;have HO525:=n12_;have HB:=n13_;clear n0_ n1_ n2_ n3_ n4_ n5_ n6_ n7_ n8_ n9_ n10_ n11_ n12_ n13_;(try clear hb);(try clear hb2);(try clear hk);(try clear hi);(try clear ho0);(try clear ho1);(try clear ho2);(try clear ho3))|((with_reducible refine gate_dst (N:=12) rfl ?_);(try (refine gate_guard (by rfl) ?_;dsimp only));refine box_event ?hg (N:=12) ?hd (cs:=#[.bool false,.slice none 0 0]) (t:=26) ?hr ?_;(case hd=>rfl);(case hg=>rfl);(case hr=>first|(go_simp;done)|(go_simp;rfl));intro gb526 hg w51 hbox hb;have n0_:=Aside0.mk (Kd.N_below (Kd.N_elderB (by (with_reducible repeat (first|apply nA_|apply nN_|apply nD_));exact HO_7.out) gb526 (Nat.le_of_eq hg.symm)) hb);have n1_:=Aside0.mk (Kd.N_below (Kd.N_elderB (by (with_reducible repeat (first|apply nA_|apply nN_|apply nD_));exact HO_8.out) gb526 (Nat.le_of_eq hg.symm)) hb);have n2_:=Aside0.mk (Kd.N_below (Kd.N_elderB (by (with_reducible repeat (first|apply nA_|apply nN_|apply nD_));exact HO_9.out) gb526 (Nat.le_of_eq hg.symm)) hb);have n3_:=Aside0.mk (Kd.N_below (Kd.N_elderB (by (with_reducible repeat (first|apply nA_|apply nN_|apply nD_));exact HO_10.out) gb526 (Nat.le_of_eq hg.symm)) hb);have n4_:=Aside0.mk (Kd.N_below (Kd.N_elderB (by (with_reducible repeat (first|apply nA_|apply nN_|apply nD_));exact HO_11.out) gb526 (Nat.le_of_eq hg.symm)) hb);have n5_:=Aside0.mk (Kd.N_below (Kd.N_elderB (by (with_reducible repeat (first|apply nA_|apply nN_|apply nD_));exact HO498.out) gb526 (Nat.le_of_eq hg.symm)) hb);have n6_:=Aside0.mk (Kd.V_below (Kd.V_elderB (by (with_reducible repeat (first|apply vA_|apply vN_|apply vD_));exact HO502.out) gb526 (Nat.le_of_eq hg.symm)) hb);have n7_:=Aside0.mk (Kd.V_below (Kd.V_elderB (by (with_reducible repeat (first|apply vA_|apply vN_|apply vD_));exact HO506.out) gb526 (Nat.le_of_eq hg.symm)) hb);have n8_:=Aside0.mk (Kd.V_below (Kd.V_elderB (by (with_reducible repeat (first|apply vA_|apply vN_|apply vD_));exact HO510.out) gb526 (Nat.le_of_eq hg.symm)) hb);have n9_:=Aside0.mk (Kd.V_below (Kd.V_elderB (by (with_reducible repeat (first|apply vA_|apply vN_|apply vD_));exact HO514.out) gb526 (Nat.le_of_eq hg.symm)) hb);have n10_:=Aside0.mk (Kd.V_below (Kd.V_elderB (by (with_reducible repeat (first|apply vA_|apply vN_|apply vD_));exact HO518.out) gb526 (Nat.le_of_eq hg.symm)) hb);have n11_:=Aside0.mk (Kd.V_below (Kd.V_elderB (by (with_reducible repeat (first|apply vA_|apply vN_|apply vD_));exact HO522.out) gb526 (Nat.le_of_eq hg.symm)) hb);have n12_:=Aside0.mk (Kd.N_below (Kd.N_elderB (by (with_reducible repeat (first|apply nA_|apply nN_|apply nD_));exact HO525.out) gb526 (Nat.le_of_eq hg.symm)) hb);have n13_:=Aside0.mk (below_step (by repeat (first|(with_reducible first|exact HB.out|apply bA_|apply bN_|apply bD_)|exact HB.out)) hb);have n14_:=Aside0.mk (hbox);have n15_:=Aside0.mk ((by rw [hg];exact (below_size (by repeat (first|(with_reducible first|exact HB.out|apply bA_|apply bN_|apply bD_)|exact HB.out))):w.heap.size≤gb526));have n16_:=Aside0.mk ((by rw [hg];exact (below_size (by repeat (first|(with_reducible first|exact HB.out|apply bA_|apply bN_|apply bD_)|exact HB.out))):w.heap.size≤gb526));clear HO_7;clear HO_8;clear HO_9;clear HO_10;clear HO_11;clear HO498;clear HO502;clear HO506;clear HO510;clear HO514;clear HO518;clear HO522;clear HO525;clear HB;have HO_7:=n0_;have HO_8:=n1_;have HO_9:=n2_;have HO_10:=n3_;have HO_11:=n4_;have HO498:=n5_;have HO502:=n6_;have HO506:=n7_;have HO510:=n8_;have HO514:=n9_;have HO518:=n10_;have HO522:=n11_;have HO525:=n12_;have HB:=n13_;have BK526:=n14_;have GW526:=n15_;have GE526:=n16_;clear n0_ n1_ n2_ n3_ n4_ n5_ n6_ n7_ n8_ n9_ n10_ n11_ n12_ n13_ n14_ n15_ n16_;clear hb hbox hg)|((with_reducible refine gate_dst (N:=13) rfl ?_);(try (refine gate_guard (by rfl) ?_;dsimp only));refine box_event ?hg (N:=13) ?hd (cs:=#[.bool false,.slice none 0 0]) (t:=26) ?hr ?_;(case hd=>rfl);(case hg=>rfl);(case hr=>first|(go_simp;done)|(go_simp;rfl));intro gb527 hg w52 hbox hb;have n0_:=Aside0.mk (Kd.N_below (Kd.N_elderB (by (with_reducible repeat (first|apply nA_|apply nN_|apply nD_));exact HO_7.out) gb527 (Nat.le_of_eq hg.symm)) hb);have n1_:=Aside0.mk (Kd.N_below (Kd.N_elderB (by (with_reducible repeat (first|apply nA_|apply nN_|apply nD_));exact HO_8.out) gb527 (Nat.le_of_eq hg.symm)) hb);have n2_:=Aside0.mk (Kd.N_below (Kd.N_elderB (by (with_reducible repeat (first|apply nA_|apply nN_|apply nD_));exact HO_9.out) gb527 (Nat.le_of_eq hg.symm)) hb);have n3_:=Aside0.mk (Kd.N_below (Kd.N_elderB (by (with_reducible repeat (first|apply nA_|apply nN_|apply nD_));exact HO_10.out) gb527 (Nat.le_of_eq hg.symm)) hb);have n4_:=Aside0.mk (Kd.N_below (Kd.N_elderB (by (with_reducible repeat (first|apply nA_|apply nN_|apply nD_));exact HO_11.out) gb527 (Nat.le_of_eq hg.symm)) hb);have n5_:=Aside0.mk (Kd.N_below (Kd.N_elderB (by (with_reducible repeat (first|apply nA_|apply nN_|apply nD_));exact HO498.out) gb527 (Nat.le_of_eq hg.symm)) hb);have n6_:=Aside0.mk (Kd.V_below (Kd.V_elderB (by (with_reducible repeat (first|apply vA_|apply vN_|apply vD_));exact HO502.out) gb527 (Nat.le_of_eq hg.symm)) hb);have n7_:=Aside0.mk (Kd.V_below (Kd.V_elderB (by (with_reducible repeat (first|apply vA_|apply vN_|apply vD_));exact HO506.out) gb527 (Nat.le_of_eq hg.symm)) hb);have n8_:=Aside0.mk (Kd.V_below (Kd.V_elderB (by (with_reducible repeat (first|apply vA_|apply vN_|apply vD_));exact HO510.out) gb527 (Nat.le_of_eq hg.symm)) hb);have n9_:=Aside0.mk (Kd.V_below (Kd.V_elderB (by (with_reducible repeat (first|apply vA_|apply vN_|apply vD_));exact HO514.out) gb527 (Nat.le_of_eq hg.symm)) hb);have n10_:=Aside0.mk (Kd.V_below (Kd.V_elderB (by (with_reducible repeat (first|apply vA_|apply vN_|apply vD_));exact HO518.out) gb527 (Nat.le_of_eq hg.symm)) hb);have n11_:=Aside0.mk (Kd.V_below (Kd.V_elderB (by (with_reducible repeat (first|apply vA_|apply vN_|apply vD_));exact HO522.out) gb527 (Nat.le_of_eq hg.symm)) hb);have n12_:=Aside0.mk (Kd.N_below (Kd.N_elderB (by (with_reducible repeat (first|apply nA_|apply nN_|apply nD_));exact HO525.out) gb527 (Nat.le_of_eq hg.symm)) hb);have n13_:=Aside0.mk (blk_below (g:=gb526) (o:=.cells #[.bool false,.slice none 0 0] 26 (0,0)) (by (with_reducible repeat (first|refine blk_drewN ?_ _|refine blk_drew ?_|refine blk_alloc ?_ _));exact BK526.out) hb);have n14_:=Aside0.mk (below_step (by repeat (first|(with_reducible first|exact HB.out|apply bA_|apply bN_|apply bD_|refine below_set ?_ GE526.out)|exact HB.out)) hb);have n15_:=Aside0.mk (hbox);have n16_:=Aside0.mk ((by rw [hg];exact (below_size (by repeat (first|(with_reducible first|exact HB.out|apply bA_|apply bN_|apply bD_|refine below_set ?_ GE526.out)|exact HB.out))):w.heap.size≤gb527));have n17_:=Aside0.mk ((by rw [hg];exact (below_size (by repeat (first|(with_reducible first|exact HB.out|apply bA_|apply bN_|apply bD_|refine below_set ?_ GE526.out)|exact HB.out))):w.heap.size≤gb527));have n18_:=Aside0.mk ((by rw [hg];exact Nat.ne_of_lt (blk_lt (g:=gb526) (o:=.cells #[.bool false,.slice none 0 0] 26 (0,0)) (by (with_reducible repeat (first|refine blk_drewN ?_ _|refine blk_drew ?_|refine blk_alloc ?_ _));exact BK526.out)):gb526≠gb527));have n19_:=Aside0.mk ((by rw [hg];exact Nat.ne_of_gt (blk_lt (g:=gb526) (o:=.cells #[.bool false,.slice none 0 0] 26 (0,0)) (by (with_reducible repeat (first|refine blk_drewN ?_ _|refine blk_drew ?_|refine blk_alloc ?_ _));exact BK526.out)):gb527≠gb526));clear HO_7;clear HO_8;clear HO_9;clear HO_10;clear HO_11;clear HO498;clear HO502;clear HO506;clear HO510;clear HO514;clear HO518;clear HO522;clear HO525;clear BK526;clear HB;have HO_7:=n0_;have HO_8:=n1_;have HO_9:=n2_;have HO_10:=n3_;have HO_11:=n4_;have HO498:=n5_;have HO502:=n6_;have HO506:=n7_;have HO510:=n8_;have HO514:=n9_;have HO518:=n10_;have HO522:=n11_;have HO525:=n12_;have BK526:=n13_;have HB:=n14_;have BK527:=n15_;have GW527:=n16_;have GE527:=n17_;have NB526_527:=n18_;have NB527_526:=n19_;clear n0_ n1_ n2_ n3_ n4_ n5_ n6_ n7_ n8_ n9_ n10_ n11_ n12_ n13_ n14_ n15_ n16_ n17_ n18_ n19_;clear hb hbox hg)|((with_reducible refine gate_dst (N:=14) rfl ?_);(try (refine gate_guard (by rfl) ?_;dsimp only));refine box_event ?hg (N:=14) ?hd (cs:=#[.bool false,.slice none 0 0]) (t:=26) ?hr ?_;(case hd=>rfl);(case hg=>rfl);(case hr=>first|(go_simp;done)|(go_simp;rfl));intro gb528 hg w53 hbox hb;have n0_:=Aside0.mk (Kd.N_below (Kd.N_elderB (by (with_reducible repeat (first|apply nA_|apply nN_|apply nD_));exact HO_7.out) gb528 (Nat.le_of_eq hg.symm)) hb);have n1_:=Aside0.mk (Kd.N_below (Kd.N_elderB (by (with_reducible repeat (first|apply nA_|apply nN_|apply nD_));exact HO_8.out) gb528 (Nat.le_of_eq hg.symm)) hb);have n2_:=Aside0.mk (Kd.N_below (Kd.N_elderB (by (with_reducible repeat (first|apply nA_|apply nN_|apply nD_));exact HO_9.out) gb528 (Nat.le_of_eq hg.symm)) hb);have n3_:=Aside0.mk (Kd.N_below (Kd.N_elderB (by (with_reducible repeat (first|apply nA_|apply nN_|apply nD_));exact HO_10.out) gb528 (Nat.le_of_eq hg.symm)) hb);have n4_:=Aside0.mk (Kd.N_below (Kd.N_elderB (by (with_reducible repeat (first|apply nA_|apply nN_|apply nD_));exact HO_11.out) gb528 (Nat.le_of_eq hg.symm)) hb);have n5_:=Aside0.mk (Kd.N_below (Kd.N_elderB (by (with_reducible repeat (first|apply nA_|apply nN_|apply nD_));exact HO498.out) gb528 (Nat.le_of_eq hg.symm)) hb);have n6_:=Aside0.mk (Kd.V_below (Kd.V_elderB (by (with_reducible repeat (first|apply vA_|apply vN_|apply vD_));exact HO502.out) gb528 (Nat.le_of_eq hg.symm)) hb);have n7_:=Aside0.mk (Kd.V_below (Kd.V_elderB (by (with_reducible repeat (first|apply vA_|apply vN_|apply vD_));exact HO506.out) gb528 (Nat.le_of_eq hg.symm)) hb);have n8_:=Aside0.mk (Kd.V_below (Kd.V_elderB (by (with_reducible repeat (first|apply vA_|apply vN_|apply vD_));exact HO510.out) gb528 (Nat.le_of_eq hg.symm)) hb);have n9_:=Aside0.mk (Kd.V_below (Kd.V_elderB (by (with_reducible repeat (first|apply vA_|apply vN_|apply vD_));exact HO514.out) gb528 (Nat.le_of_eq hg.symm)) hb);have n10_:=Aside0.mk (Kd.V_below (Kd.V_elderB (by (with_reducible repeat (first|apply vA_|apply vN_|apply vD_));exact HO518.out) gb528 (Nat.le_of_eq hg.symm)) hb);have n11_:=Aside0.mk (Kd.V_below (Kd.V_elderB (by (with_reducible repeat (first|apply vA_|apply vN_|apply vD_));exact HO522.out) gb528 (Nat.le_of_eq hg.symm)) hb);have n12_:=Aside0.mk (Kd.N_below (Kd.N_elderB (by (with_reducible repeat (first|apply nA_|apply nN_|apply nD_));exact HO525.out) gb528 (Nat.le_of_eq hg.symm)) hb);have n13_:=Aside0.mk (blk_below (g:=gb526) (o:=.cells #[.bool false,.slice none 0 0] 26 (0,0)) (by (with_reducible repeat (first|refine blk_drewN ?_ _|refine blk_drew ?_|refine blk_alloc ?_ _));exact BK526.out) hb);have n14_:=Aside0.mk (blk_below (g:=gb527) (o:=.cells #[.bool false,.slice none 0 0] 26 (0,0)) (by (with_reducible repeat (first|refine blk_drewN ?_ _|refine blk_drew ?_|refine blk_alloc ?_ _));exact BK527.out) hb);have n15_:=Aside0.mk (below_step (by repeat (first|(with_reducible first|exact HB.out|apply bA_|apply bN_|apply bD_|refine below_set ?_ GE526.out|refine below_set ?_ GE527.out)|exact HB.out)) hb);have n16_:=Aside0.mk (hbox);have n17_:=Aside0.mk ((by rw [hg];exact (below_size (by repeat (first|(with_reducible first|exact HB.out|apply bA_|apply bN_|apply bD_|refine below_set ?_ GE526.out|refine below_set ?_ GE527.out)|exact HB.out))):w.heap.size≤gb528));have n18_:=Aside0.mk ((by rw [hg];exact (below_size (by repeat (first|(with_reducible first|exact HB.out|apply bA_|apply bN_|apply bD_|refine below_set ?_ GE526.out|refine below_set ?_ GE527.out)|exact HB.out))):w.heap.size≤gb528));have n19_:=Aside0.mk ((by rw [hg];exact Nat.ne_of_lt (blk_lt (g:=gb526) (o:=.cells #[.bool false,.slice none 0 0] 26 (0,0)) (by (with_reducible repeat (first|refine blk_drewN ?_ _|refine blk_drew ?_|refine blk_alloc ?_ _));exact BK526.out)):gb526≠gb528));have n20_:=Aside0.mk ((by rw [hg];exact Nat.ne_of_gt (blk_lt (g:=gb526) (o:=.cells #[.bool false,.slice none 0 0] 26 (0,0)) (by (with_reducible repeat (first|refine blk_drewN ?_ _|refine blk_drew ?_|refine blk_alloc ?_ _));exact BK526.out)):gb528≠gb526));have n21_:=Aside0.mk ((by rw [hg];exact Nat.ne_of_lt (blk_lt (g:=gb527) (o:=.cells #[.bool false,.slice none 0 0] 26 (0,0)) (by (with_reducible repeat (first|refine blk_drewN ?_ _|refine blk_drew ?_|refine blk_alloc ?_ _));exact BK527.out)):gb527≠gb528));have n22_:=Aside0.mk ((by rw [hg];exact Nat.ne_of_gt (blk_lt (g:=gb527) (o:=.cells #[.bool false,.slice none 0 0] 26 (0,0)) (by (with_reducible repeat (first|refine blk_drewN ?_ _|refine blk_drew ?_|refine blk_alloc ?_ _));exact BK527.out)):gb528≠gb527));clear HO_7;clear HO_8;clear HO_9;clear HO_10;clear HO_11;clear HO498;clear HO502;clear HO506;clear HO510;clear HO514;clear HO518;clear HO522;clear HO525;clear BK526;clear BK527;clear HB;have HO_7:=n0_;have HO_8:=n1_;have HO_9:=n2_;have HO_10:=n3_;have HO_11:=n4_;have HO498:=n5_;have HO502:=n6_;have HO506:=n7_;have HO510:=n8_;have HO514:=n9_;have HO518:=n10_;have HO522:=n11_;have HO525:=n12_;have BK526:=n13_;have BK527:=n14_;have HB:=n15_;have BK528:=n16_;have GW528:=n17_;have GE528:=n18_;have NB526_528:=n19_;have NB528_526:=n20_;have NB527_528:=n21_;have NB528_527:=n22_;clear n0_ n1_ n2_ n3_ n4_ n5_ n6_ n7_ n8_ n9_ n10_ n11_ n12_ n13_ n14_ n15_ n16_ n17_ n18_ n19_ n20_ n21_ n22_;clear hb hbox hg;have hnb54:=NB526_527.out;have hnc54:=NB527_526.out;have hnb55:=NB526_528.out;have hnc55:=NB528_526.out;have hcz56_0:w53.cell? ⟨gb526,0,none⟩=some (.bool false):=(blk_cell BK526.out 0).trans rfl;have hcz56_1:w53.cell? ⟨gb526,1,none⟩=some (.slice none 0 0):=(blk_cell BK526.out 1).trans rfl;have hfz56_0:=blk_frozen BK526.out 0;have hfz56_1:=blk_frozen BK526.out 1;obtain ⟨Ao57,co57,eo57⟩:=Kd.V_slice HO514.out;subst eo57;have hnb58:=NB527_528.out;have hnc58:=NB528_527.out;have hcz59_0:w53.cell? ⟨gb527,0,none⟩=some (.bool false):=(blk_cell BK527.out 0).trans rfl;have hcz59_1:w53.cell? ⟨gb527,1,none⟩=some (.slice none 0 0):=(blk_cell BK527.out 1).trans rfl;have hfz59_0:=blk_frozen BK527.out 0;have hfz59_1:=blk_frozen BK527.out 1;obtain ⟨Ao60,co60,eo60⟩:=Kd.V_slice HO518.out;subst eo60;have hcz61_0:w53.cell? ⟨gb528,0,none⟩=some (.bool false):=(blk_cell BK528.out 0).trans rfl;have hcz61_1:w53.cell? ⟨gb528,1,none⟩=some (.slice none 0 0):=(blk_cell BK528.out 1).trans rfl;have hfz61_0:=blk_frozen BK528.out 0;have hfz61_1:=blk_frozen BK528.out 1;obtain ⟨Ao62,co62,eo62⟩:=Kd.V_slice HO522.out;subst eo62)|((with_reducible refine gate_callee (f:=19) rfl ?_);refine goesL_ (some 58) rfl rfl Try.func19 (by kernel_rfl) rfl #[.slice Ao17 t481.length co17,.slice Ao22 t484.length co22] rfl (by (try simp only [List.map_toArray,List.map_cons,List.map_nil]);first|done|rfl|(simp only [List.length_drop,List.length_take];rfl)) ?_;(with_reducible refine (cadenceref2_Same.calls kj13 _ _ t481 _ _ t484 true _ ?side1 ?side2 ?side3 ?side4 A31.out).mono ?_);(case side1=>refine (Kd.N_reads' (e:=51) (base:=w.heap.size) (ok:=fun k_=>(((((True∧some k_≠(.slice Ao46 t496.length co46:Value).ownBlock)∧some k_≠(v524:Value).ownBlock)∧k_≠gb526)∧k_≠gb527)∧k_≠gb528)) (n:=t481.length) (c:=co17) ?_).2.2;exact (by (with_reducible repeat (first|apply nA_|apply nN_|apply nD_));exact (Kd.N_mono (Kd.N_mono (Kd.N_mono (Kd.N_far (p:=⟨gb528,1,none⟩) (Kd.N_far (p:=⟨gb528,0,none⟩) (Kd.N_far (p:=⟨gb527,1,none⟩) (Kd.N_far (p:=⟨gb527,0,none⟩) (Kd.N_far (p:=⟨gb526,1,none⟩) (Kd.N_far (p:=⟨gb526,0,none⟩) (Kd.N_mono (Kd.N_mono (Kd.N_mono HO_7.out (fun k_ hk=>(⟨hk,hk.1.1.2⟩:_∧k_≠gb526))) (fun k_ hk=>(⟨hk,hk.1.1.2⟩:_∧k_≠gb527))) (fun k_ hk=>(⟨hk,hk.1.1.2⟩:_∧k_≠gb528))) (fun _ hk=>hk.1.1.2) (.bool t511)) (fun _ hk=>hk.1.1.2) (.slice Ao57 t512.length co57)) (fun _ hk=>hk.1.2) (.bool t515)) (fun _ hk=>hk.1.2) (.slice Ao60 t516.length co60)) (fun _ hk=>hk.2) (.bool t519)) (fun _ hk=>hk.2) (.slice Ao62 t520.length co62)) (fun _ h_=>h_.1)) (fun _ h_=>h_.1)) (fun _ h_=>h_.1))));(case side2=>exact (Kd.N_reads' HO_7.out).2.1);(case side3=>refine (Kd.N_reads' (e:=51) (base:=w.heap.size) (ok:=fun k_=>(((((True∧some k_≠(.slice Ao46 t496.length co46:Value).ownBlock)∧some k_≠(v524:Value).ownBlock)∧k_≠gb526)∧k_≠gb527)∧k_≠gb528)) (n:=t484.length) (c:=co22) ?_).2.2;exact (by (with_reducible repeat (first|apply nA_|apply nN_|apply nD_));exact (Kd.N_mono (Kd.N_mono (Kd.N_mono (Kd.N_far (p:=⟨gb528,1,none⟩) (Kd.N_far (p:=⟨gb528,0,none⟩) (Kd.N_far (p:=⟨gb527,1,none⟩) (Kd.N_far (p:=⟨gb527,0,none⟩) (Kd.N_far (p:=⟨gb526,1,none⟩) (Kd.N_far (p:=⟨gb526,0,none⟩) (Kd.N_mono (Kd.N_mono (Kd.N_mono HO_8.out (fun k_ hk=>(⟨hk,hk.1.1.2⟩:_∧k_≠gb526))) (fun k_ hk=>(⟨hk,hk.1.1.2⟩:_∧k_≠gb527))) (fun k_ hk=>(⟨hk,hk.1.1.2⟩:_∧k_≠gb528))) (fun _ hk=>hk.1.1.2) (.bool t511)) (fun _ hk=>hk.1.1.2) (.slice Ao57 t512.length co57)) (fun _ hk=>hk.1.2) (.bool t515)) (fun _ hk=>hk.1.2) (.slice Ao60 t516.length co60)) (fun _ hk=>hk.2) (.bool t519)) (fun _ hk=>hk.2) (.slice Ao62 t520.length co62)) (fun _ h_=>h_.1)) (fun _ h_=>h_.1)) (fun _ h_=>h_.1))));(case side4=>exact (Kd.N_reads' HO_8.out).2.1);rintro e w63 ⟨rfl,hb⟩;refine ⟨_,rfl,?_⟩;have n0_:=Aside0.mk (Kd.N_below (by (with_reducible repeat (first|apply nA_|apply nN_|apply nD_));exact (Kd.N_mono (Kd.N_mono (Kd.N_mono (Kd.N_far (p:=⟨gb528,1,none⟩) (Kd.N_far (p:=⟨gb528,0,none⟩) (Kd.N_far (p:=⟨gb527,1,none⟩) (Kd.N_far (p:=⟨gb527,0,none⟩) (Kd.N_far (p:=⟨gb526,1,none⟩) (Kd.N_far (p:=⟨gb526,0,none⟩) (Kd.N_mono (Kd.N_mono (Kd.N_mono HO_7.out (fun k_ hk=>(⟨hk,hk.1.1.2⟩:_∧k_≠gb526))) (fun k_ hk=>(⟨hk,hk.1.1.2⟩:_∧k_≠gb527))) (fun k_ hk=>(⟨hk,hk.1.1.2⟩:_∧k_≠gb528))) (fun _ hk=>hk.1.1.2) (.bool t511)) (fun _ hk=>hk.1.1.2) (.slice Ao57 t512.length co57)) (fun _ hk=>hk.1.2) (.bool t515)) (fun _ hk=>hk.1.2) (.slice Ao60 t516.length co60)) (fun _ hk=>hk.2) (.bool t519)) (fun _ hk=>hk.2) (.slice Ao62 t520.length co62)) (fun _ h_=>h_.1)) (fun _ h_=>h_.1)) (fun _ h_=>h_.1))) hb);have n1_:=Aside0.mk (Kd.N_below (by (with_reducible repeat (first|apply nA_|apply nN_|apply nD_));exact (Kd.N_mono (Kd.N_mono (Kd.N_mono (Kd.N_far (p:=⟨gb528,1,none⟩) (Kd.N_far (p:=⟨gb528,0,none⟩) (Kd.N_far (p:=⟨gb527,1,none⟩) (Kd.N_far (p:=⟨gb527,0,none⟩) (Kd.N_far (p:=⟨gb526,1,none⟩) (Kd.N_far (p:=⟨gb526,0,none⟩) (Kd.N_mono (Kd.N_mono (Kd.N_mono HO_8.out (fun k_ hk=>(⟨hk,hk.1.1.2⟩:_∧k_≠gb526))) (fun k_ hk=>(⟨hk,hk.1.1.2⟩:_∧k_≠gb527))) (fun k_ hk=>(⟨hk,hk.1.1.2⟩:_∧k_≠gb528))) (fun _ hk=>hk.1.1.2) (.bool t511)) (fun _ hk=>hk.1.1.2) (.slice Ao57 t512.length co57)) (fun _ hk=>hk.1.2) (.bool t515)) (fun _ hk=>hk.1.2) (.slice Ao60 t516.length co60)) (fun _ hk=>hk.2) (.bool t519)) (fun _ hk=>hk.2) (.slice Ao62 t520.length co62)) (fun _ h_=>h_.1)) (fun _ h_=>h_.1)) (fun _ h_=>h_.1))) hb);have n2_:=Aside0.mk (Kd.N_below (by (with_reducible repeat (first|apply nA_|apply nN_|apply nD_));exact (Kd.N_mono (Kd.N_mono (Kd.N_mono (Kd.N_far (p:=⟨gb528,1,none⟩) (Kd.N_far (p:=⟨gb528,0,none⟩) (Kd.N_far (p:=⟨gb527,1,none⟩) (Kd.N_far (p:=⟨gb527,0,none⟩) (Kd.N_far (p:=⟨gb526,1,none⟩) (Kd.N_far (p:=⟨gb526,0,none⟩) (Kd.N_mono (Kd.N_mono (Kd.N_mono HO_9.out (fun k_ hk=>(⟨hk,hk.1.1.2⟩:_∧k_≠gb526))) (fun k_ hk=>(⟨hk,hk.1.1.2⟩:_∧k_≠gb527))) (fun k_ hk=>(⟨hk,hk.1.1.2⟩:_∧k_≠gb528))) (fun _ hk=>hk.1.1.2) (.bool t511)) (fun _ hk=>hk.1.1.2) (.slice Ao57 t512.length co57)) (fun _ hk=>hk.1.2) (.bool t515)) (fun _ hk=>hk.1.2) (.slice Ao60 t516.length co60)) (fun _ hk=>hk.2) (.bool t519)) (fun _ hk=>hk.2) (.slice Ao62 t520.length co62)) (fun _ h_=>h_.1)) (fun _ h_=>h_.1)) (fun _ h_=>h_.1))) hb);have n3_:=Aside0.mk (Kd.N_below (by (with_reducible repeat (first|apply nA_|apply nN_|apply nD_));exact (Kd.N_mono (Kd.N_mono (Kd.N_mono (Kd.N_far (p:=⟨gb528,1,none⟩) (Kd.N_far (p:=⟨gb528,0,none⟩) (Kd.N_far (p:=⟨gb527,1,none⟩) (Kd.N_far (p:=⟨gb527,0,none⟩) (Kd.N_far (p:=⟨gb526,1,none⟩) (Kd.N_far (p:=⟨gb526,0,none⟩) (Kd.N_mono (Kd.N_mono (Kd.N_mono HO_10.out (fun k_ hk=>(⟨hk,hk.1.1.2⟩:_∧k_≠gb526))) (fun k_ hk=>(⟨hk,hk.1.1.2⟩:_∧k_≠gb527))) (fun k_ hk=>(⟨hk,hk.1.1.2⟩:_∧k_≠gb528))) (fun _ hk=>hk.1.1.2) (.bool t511)) (fun _ hk=>hk.1.1.2) (.slice Ao57 t512.length co57)) (fun _ hk=>hk.1.2) (.bool t515)) (fun _ hk=>hk.1.2) (.slice Ao60 t516.length co60)) (fun _ hk=>hk.2) (.bool t519)) (fun _ hk=>hk.2) (.slice Ao62 t520.length co62)) (fun _ h_=>h_.1)) (fun _ h_=>h_.1)) (fun _ h_=>h_.1))) hb);have n4_:=Aside0.mk (Kd.N_below (by (with_reducible repeat (first|apply nA_|apply nN_|apply nD_));exact (Kd.N_mono (Kd.N_mono (Kd.N_mono (Kd.N_far (p:=⟨gb528,1,none⟩) (Kd.N_far (p:=⟨gb528,0,none⟩) (Kd.N_far (p:=⟨gb527,1,none⟩) (Kd.N_far (p:=⟨gb527,0,none⟩) (Kd.N_far (p:=⟨gb526,1,none⟩) (Kd.N_far (p:=⟨gb526,0,none⟩) (Kd.N_mono (Kd.N_mono (Kd.N_mono HO_11.out (fun k_ hk=>(⟨hk,hk.1.1.2⟩:_∧k_≠gb526))) (fun k_ hk=>(⟨hk,hk.1.1.2⟩:_∧k_≠gb527))) (fun k_ hk=>(⟨hk,hk.1.1.2⟩:_∧k_≠gb528))) (fun _ hk=>hk.1.1.2) (.bool t511)) (fun _ hk=>hk.1.1.2) (.slice Ao57 t512.length co57)) (fun _ hk=>hk.1.2) (.bool t515)) (fun _ hk=>hk.1.2) (.slice Ao60 t516.length co60)) (fun _ hk=>hk.2) (.bool t519)) (fun _ hk=>hk.2) (.slice Ao62 t520.length co62)) (fun _ h_=>h_.1)) (fun _ h_=>h_.1)) (fun _ h_=>h_.1))) hb);have n5_:=Aside0.mk (Kd.N_below (by (with_reducible repeat (first|apply nA_|apply nN_|apply nD_));exact (Kd.N_mono (Kd.N_mono (Kd.N_mono (Kd.N_far (p:=⟨gb528,1,none⟩) (Kd.N_far (p:=⟨gb528,0,none⟩) (Kd.N_far (p:=⟨gb527,1,none⟩) (Kd.N_far (p:=⟨gb527,0,none⟩) (Kd.N_far (p:=⟨gb526,1,none⟩) (Kd.N_far (p:=⟨gb526,0,none⟩) (Kd.N_mono (Kd.N_mono (Kd.N_mono HO498.out (fun k_ hk=>(⟨hk,hk.1.1.2⟩:_∧k_≠gb526))) (fun k_ hk=>(⟨hk,hk.1.1.2⟩:_∧k_≠gb527))) (fun k_ hk=>(⟨hk,hk.1.1.2⟩:_∧k_≠gb528))) (fun _ hk=>hk.1.1.2) (.bool t511)) (fun _ hk=>hk.1.1.2) (.slice Ao57 t512.length co57)) (fun _ hk=>hk.1.2) (.bool t515)) (fun _ hk=>hk.1.2) (.slice Ao60 t516.length co60)) (fun _ hk=>hk.2) (.bool t519)) (fun _ hk=>hk.2) (.slice Ao62 t520.length co62)) (fun _ h_=>h_.1)) (fun _ h_=>h_.1)) (fun _ h_=>h_.1))) hb);have n6_:=Aside0.mk (Kd.V_below (by (with_reducible repeat (first|apply vA_|apply vN_|apply vD_));exact (Kd.V_mono (Kd.V_mono (Kd.V_mono (Kd.V_far (p:=⟨gb528,1,none⟩) (Kd.V_far (p:=⟨gb528,0,none⟩) (Kd.V_far (p:=⟨gb527,1,none⟩) (Kd.V_far (p:=⟨gb527,0,none⟩) (Kd.V_far (p:=⟨gb526,1,none⟩) (Kd.V_far (p:=⟨gb526,0,none⟩) (Kd.V_mono (Kd.V_mono (Kd.V_mono HO502.out (fun k_ hk=>(⟨hk,hk.1.1.2⟩:_∧k_≠gb526))) (fun k_ hk=>(⟨hk,hk.1.1.2⟩:_∧k_≠gb527))) (fun k_ hk=>(⟨hk,hk.1.1.2⟩:_∧k_≠gb528))) (fun _ hk=>hk.1.1.2) (.bool t511)) (fun _ hk=>hk.1.1.2) (.slice Ao57 t512.length co57)) (fun _ hk=>hk.1.2) (.bool t515)) (fun _ hk=>hk.1.2) (.slice Ao60 t516.length co60)) (fun _ hk=>hk.2) (.bool t519)) (fun _ hk=>hk.2) (.slice Ao62 t520.length co62)) (fun _ h_=>h_.1)) (fun _ h_=>h_.1)) (fun _ h_=>h_.1))) hb);have n7_:=Aside0.mk (Kd.V_below (by (with_reducible repeat (first|apply vA_|apply vN_|apply vD_));exact (Kd.V_mono (Kd.V_mono (Kd.V_mono (Kd.V_far (p:=⟨gb528,1,none⟩) (Kd.V_far (p:=⟨gb528,0,none⟩) (Kd.V_far (p:=⟨gb527,1,none⟩) (Kd.V_far (p:=⟨gb527,0,none⟩) (Kd.V_far (p:=⟨gb526,1,none⟩) (Kd.V_far (p:=⟨gb526,0,none⟩) (Kd.V_mono (Kd.V_mono (Kd.V_mono HO506.out (fun k_ hk=>(⟨hk,hk.1.1.2⟩:_∧k_≠gb526))) (fun k_ hk=>(⟨hk,hk.1.1.2⟩:_∧k_≠gb527))) (fun k_ hk=>(⟨hk,hk.1.1.2⟩:_∧k_≠gb528))) (fun _ hk=>hk.1.1.2) (.bool t511)) (fun _ hk=>hk.1.1.2) (.slice Ao57 t512.length co57)) (fun _ hk=>hk.1.2) (.bool t515)) (fun _ hk=>hk.1.2) (.slice Ao60 t516.length co60)) (fun _ hk=>hk.2) (.bool t519)) (fun _ hk=>hk.2) (.slice Ao62 t520.length co62)) (fun _ h_=>h_.1)) (fun _ h_=>h_.1)) (fun _ h_=>h_.1))) hb);have n8_:=Aside0.mk (Kd.V_below (by (with_reducible repeat (first|apply vA_|apply vN_|apply vD_));exact (Kd.V_mono (Kd.V_mono (Kd.V_mono (Kd.V_far (p:=⟨gb528,1,none⟩) (Kd.V_far (p:=⟨gb528,0,none⟩) (Kd.V_far (p:=⟨gb527,1,none⟩) (Kd.V_far (p:=⟨gb527,0,none⟩) (Kd.V_far (p:=⟨gb526,1,none⟩) (Kd.V_far (p:=⟨gb526,0,none⟩) (Kd.V_mono (Kd.V_mono (Kd.V_mono HO510.out (fun k_ hk=>(⟨hk,hk.1.1.2⟩:_∧k_≠gb526))) (fun k_ hk=>(⟨hk,hk.1.1.2⟩:_∧k_≠gb527))) (fun k_ hk=>(⟨hk,hk.1.1.2⟩:_∧k_≠gb528))) (fun _ hk=>hk.1.1.2) (.bool t511)) (fun _ hk=>hk.1.1.2) (.slice Ao57 t512.length co57)) (fun _ hk=>hk.1.2) (.bool t515)) (fun _ hk=>hk.1.2) (.slice Ao60 t516.length co60)) (fun _ hk=>hk.2) (.bool t519)) (fun _ hk=>hk.2) (.slice Ao62 t520.length co62)) (fun _ h_=>h_.1)) (fun _ h_=>h_.1)) (fun _ h_=>h_.1))) hb);have n9_:=Aside0.mk (Kd.V_below (by (with_reducible repeat (first|apply vA_|apply vN_|apply vD_));exact (Kd.V_mono (Kd.V_mono (Kd.V_mono (Kd.V_far (p:=⟨gb528,1,none⟩) (Kd.V_far (p:=⟨gb528,0,none⟩) (Kd.V_far (p:=⟨gb527,1,none⟩) (Kd.V_far (p:=⟨gb527,0,none⟩) (Kd.V_far (p:=⟨gb526,1,none⟩) (Kd.V_far (p:=⟨gb526,0,none⟩) (Kd.V_mono (Kd.V_mono (Kd.V_mono HO514.out (fun k_ hk=>(⟨hk,hk.1.1.2⟩:_∧k_≠gb526))) (fun k_ hk=>(⟨hk,hk.1.1.2⟩:_∧k_≠gb527))) (fun k_ hk=>(⟨hk,hk.1.1.2⟩:_∧k_≠gb528))) (fun _ hk=>hk.1.1.2) (.bool t511)) (fun _ hk=>hk.1.1.2) (.slice Ao57 t512.length co57)) (fun _ hk=>hk.1.2) (.bool t515)) (fun _ hk=>hk.1.2) (.slice Ao60 t516.length co60)) (fun _ hk=>hk.2) (.bool t519)) (fun _ hk=>hk.2) (.slice Ao62 t520.length co62)) (fun _ h_=>h_.1)) (fun _ h_=>h_.1)) (fun _ h_=>h_.1))) hb);have n10_:=Aside0.mk (Kd.V_below (by (with_reducible repeat (first|apply vA_|apply vN_|apply vD_));exact (Kd.V_mono (Kd.V_mono (Kd.V_mono (Kd.V_far (p:=⟨gb528,1,none⟩) (Kd.V_far (p:=⟨gb528,0,none⟩) (Kd.V_far (p:=⟨gb527,1,none⟩) (Kd.V_far (p:=⟨gb527,0,none⟩) (Kd.V_far (p:=⟨gb526,1,none⟩) (Kd.V_far (p:=⟨gb526,0,none⟩) (Kd.V_mono (Kd.V_mono (Kd.V_mono HO518.out (fun k_ hk=>(⟨hk,hk.1.1.2⟩:_∧k_≠gb526))) (fun k_ hk=>(⟨hk,hk.1.1.2⟩:_∧k_≠gb527))) (fun k_ hk=>(⟨hk,hk.1.1.2⟩:_∧k_≠gb528))) (fun _ hk=>hk.1.1.2) (.bool t511)) (fun _ hk=>hk.1.1.2) (.slice Ao57 t512.length co57)) (fun _ hk=>hk.1.2) (.bool t515)) (fun _ hk=>hk.1.2) (.slice Ao60 t516.length co60)) (fun _ hk=>hk.2) (.bool t519)) (fun _ hk=>hk.2) (.slice Ao62 t520.length co62)) (fun _ h_=>h_.1)) (fun _ h_=>h_.1)) (fun _ h_=>h_.1))) hb);have n11_:=Aside0.mk (Kd.V_below (by (with_reducible repeat (first|apply vA_|apply vN_|apply vD_));exact (Kd.V_mono (Kd.V_mono (Kd.V_mono (Kd.V_far (p:=⟨gb528,1,none⟩) (Kd.V_far (p:=⟨gb528,0,none⟩) (Kd.V_far (p:=⟨gb527,1,none⟩) (Kd.V_far (p:=⟨gb527,0,none⟩) (Kd.V_far (p:=⟨gb526,1,none⟩) (Kd.V_far (p:=⟨gb526,0,none⟩) (Kd.V_mono (Kd.V_mono (Kd.V_mono HO522.out (fun k_ hk=>(⟨hk,hk.1.1.2⟩:_∧k_≠gb526))) (fun k_ hk=>(⟨hk,hk.1.1.2⟩:_∧k_≠gb527))) (fun k_ hk=>(⟨hk,hk.1.1.2⟩:_∧k_≠gb528))) (fun _ hk=>hk.1.1.2) (.bool t511)) (fun _ hk=>hk.1.1.2) (.slice Ao57 t512.length co57)) (fun _ hk=>hk.1.2) (.bool t515)) (fun _ hk=>hk.1.2) (.slice Ao60 t516.length co60)) (fun _ hk=>hk.2) (.bool t519)) (fun _ hk=>hk.2) (.slice Ao62 t520.length co62)) (fun _ h_=>h_.1)) (fun _ h_=>h_.1)) (fun _ h_=>h_.1))) hb);have n12_:=Aside0.mk (Kd.N_below (by (with_reducible repeat (first|apply nA_|apply nN_|apply nD_));exact (Kd.N_mono (Kd.N_mono (Kd.N_mono (Kd.N_far (p:=⟨gb528,1,none⟩) (Kd.N_far (p:=⟨gb528,0,none⟩) (Kd.N_far (p:=⟨gb527,1,none⟩) (Kd.N_far (p:=⟨gb527,0,none⟩) (Kd.N_far (p:=⟨gb526,1,none⟩) (Kd.N_far (p:=⟨gb526,0,none⟩) (Kd.N_mono (Kd.N_mono (Kd.N_mono HO525.out (fun k_ hk=>(⟨hk,hk.1.1.2⟩:_∧k_≠gb526))) (fun k_ hk=>(⟨hk,hk.1.1.2⟩:_∧k_≠gb527))) (fun k_ hk=>(⟨hk,hk.1.1.2⟩:_∧k_≠gb528))) (fun _ hk=>hk.1.1.2) (.bool t511)) (fun _ hk=>hk.1.1.2) (.slice Ao57 t512.length co57)) (fun _ hk=>hk.1.2) (.bool t515)) (fun _ hk=>hk.1.2) (.slice Ao60 t516.length co60)) (fun _ hk=>hk.2) (.bool t519)) (fun _ hk=>hk.2) (.slice Ao62 t520.length co62)) (fun _ h_=>h_.1)) (fun _ h_=>h_.1)) (fun _ h_=>h_.1))) hb);have n13_:=Aside0.mk (blk_below (g:=gb526) (o:=.cells #[.bool t511,.slice Ao57 t512.length co57] 26 (0,0)) (by (with_reducible repeat (first|refine blk_drewN ?_ _|refine blk_drew ?_|refine blk_alloc ?_ _));refine blk_far ?_ NB526_528.out _;(with_reducible repeat (first|refine blk_drewN ?_ _|refine blk_drew ?_|refine blk_alloc ?_ _));refine blk_far ?_ NB526_528.out _;(with_reducible repeat (first|refine blk_drewN ?_ _|refine blk_drew ?_|refine blk_alloc ?_ _));refine blk_far ?_ NB526_527.out _;(with_reducible repeat (first|refine blk_drewN ?_ _|refine blk_drew ?_|refine blk_alloc ?_ _));refine blk_far ?_ NB526_527.out _;(with_reducible repeat (first|refine blk_drewN ?_ _|refine blk_drew ?_|refine blk_alloc ?_ _));refine blk_put (cs:=#[.bool t511,.slice none 0 0]) ?_ 1 _ rfl;(with_reducible repeat (first|refine blk_drewN ?_ _|refine blk_drew ?_|refine blk_alloc ?_ _));refine blk_put (cs:=#[.bool false,.slice none 0 0]) ?_ 0 _ rfl;(with_reducible repeat (first|refine blk_drewN ?_ _|refine blk_drew ?_|refine blk_alloc ?_ _));exact BK526.out) hb);have n14_:=Aside0.mk (blk_below (g:=gb527) (o:=.cells #[.bool t515,.slice Ao60 t516.length co60] 26 (0,0)) (by (with_reducible repeat (first|refine blk_drewN ?_ _|refine blk_drew ?_|refine blk_alloc ?_ _));refine blk_far ?_ NB527_528.out _;(with_reducible repeat (first|refine blk_drewN ?_ _|refine blk_drew ?_|refine blk_alloc ?_ _));refine blk_far ?_ NB527_528.out _;(with_reducible repeat (first|refine blk_drewN ?_ _|refine blk_drew ?_|refine blk_alloc ?_ _));refine blk_put (cs:=#[.bool t515,.slice none 0 0]) ?_ 1 _ rfl;(with_reducible repeat (first|refine blk_drewN ?_ _|refine blk_drew ?_|refine blk_alloc ?_ _));refine blk_put (cs:=#[.bool false,.slice none 0 0]) ?_ 0 _ rfl;(with_reducible repeat (first|refine blk_drewN ?_ _|refine blk_drew ?_|refine blk_alloc ?_ _));refine blk_far ?_ NB527_526.out _;(with_reducible repeat (first|refine blk_drewN ?_ _|refine blk_drew ?_|refine blk_alloc ?_ _));refine blk_far ?_ NB527_526.out _;(with_reducible repeat (first|refine blk_drewN ?_ _|refine blk_drew ?_|refine blk_alloc ?_ _));exact BK527.out) hb);have n15_:=Aside0.mk (blk_below (g:=gb528) (o:=.cells #[.bool t519,.slice Ao62 t520.length co62] 26 (0,0)) (by (with_reducible repeat (first|refine blk_drewN ?_ _|refine blk_drew ?_|refine blk_alloc ?_ _));refine blk_put (cs:=#[.bool t519,.slice none 0 0]) ?_ 1 _ rfl;(with_reducible repeat (first|refine blk_drewN ?_ _|refine blk_drew ?_|refine blk_alloc ?_ _));refine blk_put (cs:=#[.bool false,.slice none 0 0]) ?_ 0 _ rfl;(with_reducible repeat (first|refine blk_drewN ?_ _|refine blk_drew ?_|refine blk_alloc ?_ _));refine blk_far ?_ NB528_527.out _;(with_reducible repeat (first|refine blk_drewN ?_ _|refine blk_drew ?_|refine blk_alloc ?_ _));refine blk_far ?_ NB528_527.out _;(with_reducible repeat (first|refine blk_drewN ?_ _|refine blk_drew ?_|refine blk_alloc ?_ _));refine blk_far ?_ NB528_526.out _;(with_reducible repeat (first|refine blk_drewN ?_ _|refine blk_drew ?_|refine blk_alloc ?_ _));refine blk_far ?_ NB528_526.out _;(with_reducible repeat (first|refine blk_drewN ?_ _|refine blk_drew ?_|refine blk_alloc ?_ _));exact BK528.out) hb);have n16_:=Aside0.mk (below_step (by repeat (first|(with_reducible first|exact HB.out|apply bA_|apply bN_|apply bD_|refine below_set ?_ GE526.out|refine below_set ?_ GE527.out|refine below_set ?_ GE528.out)|exact HB.out)) hb);clear HO_7;clear HO_8;clear HO_9;clear HO_10;clear HO_11;clear HO498;clear HO502;clear HO506;clear HO510;clear HO514;clear HO518;clear HO522;clear HO525;clear BK526;clear BK527;clear BK528;clear HB;have HO_7:=n0_;have HO_8:=n1_;have HO_9:=n2_;have HO_10:=n3_;have HO_11:=n4_;have HO498:=n5_;have HO502:=n6_;have HO506:=n7_;have HO510:=n8_;have HO514:=n9_;have HO518:=n10_;have HO522:=n11_;have HO525:=n12_;have BK526:=n13_;have BK527:=n14_;have BK528:=n15_;have HB:=n16_;clear n0_ n1_ n2_ n3_ n4_ n5_ n6_ n7_ n8_ n9_ n10_ n11_ n12_ n13_ n14_ n15_ n16_;(try clear hb);(try clear hb2);(try clear hk);(try clear hi);obtain ⟨Ao64,co64,eo64⟩:=Kd.N_slice HO525.out;subst eo64;have hcz65_0:w63.cell? ⟨gb526,0,none⟩=some (.bool t511):=(blk_cell BK526.out 0).trans rfl;have hcz65_1:w63.cell? ⟨gb526,1,none⟩=some (.slice Ao57 t512.length co57):=(blk_cell BK526.out 1).trans rfl;have hfz65_0:=blk_frozen BK526.out 0;have hfz65_1:=blk_frozen BK526.out 1)|((with_reducible refine gate_dst (N:=66) rfl ?_);(try (refine gate_guard (by rfl) ?_;dsimp only));refine Kd.N_lit k51 _ 51 ?hg (N':=66) ?hd (xs:=([(⟨(⟨#[122]⟩:ByteArray),([]:List (S51))⟩:S51)]:List (S51))) (inner:=[.string (⟨#[122]⟩:ByteArray),.slice none 0 0]) (ok:=(fun k_=>some k_≠(.slice Ao17 t481.length co17:Value).ownBlock∧some k_≠(.slice Ao22 t484.length co22:Value).ownBlock∧some k_≠(.slice Ao40 y487.length co40:Value).ownBlock∧some k_≠(.slice Ao42 x10_13.length co42:Value).ownBlock∧some k_≠(.slice Ao44 x11_13.length co44:Value).ownBlock∧some k_≠(.slice Ao46 t496.length co46:Value).ownBlock∧some k_≠(.slice Ao64 t523.length co64:Value).ownBlock∧k_≠gb526∧k_≠gb527∧k_≠gb528)) (okp:=(fun k_=>some k_≠(.slice Ao17 t481.length co17:Value).ownBlock∧some k_≠(.slice Ao22 t484.length co22:Value).ownBlock∧some k_≠(.slice Ao40 y487.length co40:Value).ownBlock∧some k_≠(.slice Ao42 x10_13.length co42:Value).ownBlock∧some k_≠(.slice Ao44 x11_13.length co44:Value).ownBlock∧some k_≠(.slice Ao46 t496.length co46:Value).ownBlock∧some k_≠(.slice Ao64 t523.length co64:Value).ownBlock∧k_≠gb526∧k_≠gb527∧k_≠gb528)) ?hr ?hp (fun _ hk=>hk) ((show ∀ k_,w63.heap.size≤k_→(fun k_=>some k_≠(.slice Ao17 t481.length co17:Value).ownBlock∧some k_≠(.slice Ao22 t484.length co22:Value).ownBlock∧some k_≠(.slice Ao40 y487.length co40:Value).ownBlock∧some k_≠(.slice Ao42 x10_13.length co42:Value).ownBlock∧some k_≠(.slice Ao44 x11_13.length co44:Value).ownBlock∧some k_≠(.slice Ao46 t496.length co46:Value).ownBlock∧some k_≠(.slice Ao64 t523.length co64:Value).ownBlock∧k_≠gb526∧k_≠gb527∧k_≠gb528) k_ from fun k_ hk=>⟨Kd.fresh' (Kd.N_lt (by (with_reducible repeat (first|apply nA_|apply nN_|apply nD_));exact HO_7.out)) k_ hk,Kd.fresh' (Kd.N_lt (by (with_reducible repeat (first|apply nA_|apply nN_|apply nD_));exact HO_8.out)) k_ hk,Kd.fresh' (Kd.N_lt (by (with_reducible repeat (first|apply nA_|apply nN_|apply nD_));exact HO_9.out)) k_ hk,Kd.fresh' (Kd.N_lt (by (with_reducible repeat (first|apply nA_|apply nN_|apply nD_));exact HO_10.out)) k_ hk,Kd.fresh' (Kd.N_lt (by (with_reducible repeat (first|apply nA_|apply nN_|apply nD_));exact HO_11.out)) k_ hk,Kd.fresh' (Kd.N_lt (by (with_reducible repeat (first|apply nA_|apply nN_|apply nD_));exact HO498.out)) k_ hk,Kd.fresh' (Kd.N_lt (by (with_reducible repeat (first|apply nA_|apply nN_|apply nD_));exact HO525.out)) k_ hk,Kd.freshB (g:=gb526) (o:=.cells #[.bool t511,.slice Ao57 t512.length co57] 26 (0,0)) (by (with_reducible repeat (first|refine blk_drewN ?_ _|refine blk_drew ?_|refine blk_alloc ?_ _));exact BK526.out) k_ hk,Kd.freshB (g:=gb527) (o:=.cells #[.bool t515,.slice Ao60 t516.length co60] 26 (0,0)) (by (with_reducible repeat (first|refine blk_drewN ?_ _|refine blk_drew ?_|refine blk_alloc ?_ _));exact BK527.out) k_ hk,Kd.freshB (g:=gb528) (o:=.cells #[.bool t519,.slice Ao62 t520.length co62] 26 (0,0)) (by (with_reducible repeat (first|refine blk_drewN ?_ _|refine blk_drew ?_|refine blk_alloc ?_ _));exact BK528.out) k_ hk⟩) _ (by first|exact Nat.le_refl _|simp [World.setCell])) (Below.refl _ _) (Nat.le_refl _) (by simp) ?_;(case hd=>rfl);(case hg=>rfl);(case hr=>first|(go_simp;done)|(go_simp;rfl));(case hp=>exact (Reps.c2 (show Kd.FK k51 _ _ (⟨(⟨#[122]⟩:ByteArray),([]:List (S51))⟩:S51) [.string (⟨#[122]⟩:ByteArray),.slice none 0 0] from (k51_mkF _ _ (⟨(⟨#[122]⟩:ByteArray),([]:List (S51))⟩:S51) (Nat.le_refl _) (Kd.F_nil _ _ _))) (Reps.none _ _)));intro v531 w66 ho67 hb hg_ hnew_;clear hg_ hnew_;(first|rw [← Ny530.out] at ho67|(simp only [Int.reduceToNat] at ho67;rw [← Ny530.out] at ho67));have n0_:=Aside0.mk (Kd.N_elder' (by (with_reducible repeat (first|apply nA_|apply nN_|apply nD_));exact HO_7.out) (Kd.N_base ho67) hb);have n1_:=Aside0.mk (Kd.N_elder' (by (with_reducible repeat (first|apply nA_|apply nN_|apply nD_));exact HO_8.out) (Kd.N_base ho67) hb);have n2_:=Aside0.mk (Kd.N_elder' (by (with_reducible repeat (first|apply nA_|apply nN_|apply nD_));exact HO_9.out) (Kd.N_base ho67) hb);have n3_:=Aside0.mk (Kd.N_elder' (by (with_reducible repeat (first|apply nA_|apply nN_|apply nD_));exact HO_10.out) (Kd.N_base ho67) hb);have n4_:=Aside0.mk (Kd.N_elder' (by (with_reducible repeat (first|apply nA_|apply nN_|apply nD_));exact HO_11.out) (Kd.N_base ho67) hb);have n5_:=Aside0.mk (Kd.N_elder' (by (with_reducible repeat (first|apply nA_|apply nN_|apply nD_));exact HO498.out) (Kd.N_base ho67) hb);have n6_:=Aside0.mk (Kd.V_elder' (by (with_reducible repeat (first|apply vA_|apply vN_|apply vD_));exact HO502.out) (Kd.N_base ho67) hb);have n7_:=Aside0.mk (Kd.V_elder' (by (with_reducible repeat (first|apply vA_|apply vN_|apply vD_));exact HO506.out) (Kd.N_base ho67) hb);have n8_:=Aside0.mk (Kd.V_elder' (by (with_reducible repeat (first|apply vA_|apply vN_|apply vD_));exact HO510.out) (Kd.N_base ho67) hb);have n9_:=Aside0.mk (Kd.V_elder' (by (with_reducible repeat (first|apply vA_|apply vN_|apply vD_));exact HO514.out) (Kd.N_base ho67) hb);have n10_:=Aside0.mk (Kd.V_elder' (by (with_reducible repeat (first|apply vA_|apply vN_|apply vD_));exact HO518.out) (Kd.N_base ho67) hb);have n11_:=Aside0.mk (Kd.V_elder' (by (with_reducible repeat (first|apply vA_|apply vN_|apply vD_));exact HO522.out) (Kd.N_base ho67) hb);have n12_:=Aside0.mk (Kd.N_elder' (by (with_reducible repeat (first|apply nA_|apply nN_|apply nD_));exact HO525.out) (Kd.N_base ho67) hb);have n13_:=Aside0.mk (Kd.N_lower ho67 (below_size (by repeat (first|(with_reducible first|exact HB.out|apply bA_|apply bN_|apply bD_|refine below_set ?_ GE526.out|refine below_set ?_ GE527.out|refine below_set ?_ GE528.out)|exact HB.out))));have n14_:=Aside0.mk (blk_below (g:=gb526) (o:=.cells #[.bool t511,.slice Ao57 t512.length co57] 26 (0,0)) (by (with_reducible repeat (first|refine blk_drewN ?_ _|refine blk_drew ?_|refine blk_alloc ?_ _));exact BK526.out) hb);have n15_:=Aside0.mk (blk_below (g:=gb527) (o:=.cells #[.bool t515,.slice Ao60 t516.length co60] 26 (0,0)) (by (with_reducible repeat (first|refine blk_drewN ?_ _|refine blk_drew ?_|refine blk_alloc ?_ _));exact BK527.out) hb);have n16_:=Aside0.mk (blk_below (g:=gb528) (o:=.cells #[.bool t519,.slice Ao62 t520.length co62] 26 (0,0)) (by (with_reducible repeat (first|refine blk_drewN ?_ _|refine blk_drew ?_|refine blk_alloc ?_ _));exact BK528.out) hb);have n17_:=Aside0.mk (below_step (by repeat (first|(with_reducible first|exact HB.out|apply bA_|apply bN_|apply bD_|refine below_set ?_ GE526.out|refine below_set ?_ GE527.out|refine below_set ?_ GE528.out)|exact HB.out)) hb);clear HO_7;clear HO_8;clear HO_9;clear HO_10;clear HO_11;clear HO498;clear HO502;clear HO506;clear HO510;clear HO514;clear HO518;clear HO522;clear HO525;clear BK526;clear BK527;clear BK528;clear HB;have HO_7:=n0_;have HO_8:=n1_;have HO_9:=n2_;have HO_10:=n3_;have HO_11:=n4_;have HO498:=n5_;have HO502:=n6_;have HO506:=n7_;have HO510:=n8_;have HO514:=n9_;have HO518:=n10_;have HO522:=n11_;have HO525:=n12_;have HO532:=n13_;have BK526:=n14_;have BK527:=n15_;have BK528:=n16_;have HB:=n17_;clear n0_ n1_ n2_ n3_ n4_ n5_ n6_ n7_ n8_ n9_ n10_ n11_ n12_ n13_ n14_ n15_ n16_ n17_;clear hb ho67;obtain ⟨Ao68,co68,eo68⟩:=Kd.N_slice HO532.out;subst eo68)|(go_at_call 19;(with_reducible refine (cadenceref2_Same.calls kj13 _ _ t512 _ _ y530 true _ ?side1 ?side2 ?side3 ?side4 A34.out).mono ?_);(case side1=>repeat (first|exact (Kd.V_reads' HO514.out).2.2|(with_reducible refine cA_ ?_ _)|(with_reducible refine cN_ ?_ _)|(with_reducible refine cD_ ?_)));(case side2=>exact (Kd.V_reads' HO514.out).2.1);(case side3=>repeat (first|exact (Kd.N_reads' HO532.out).2.2|(with_reducible refine cA_ ?_ _)|(with_reducible refine cN_ ?_ _)|(with_reducible refine cD_ ?_)));(case side4=>exact (Kd.N_reads' HO532.out).2.1);rintro e w69 ⟨rfl,hb⟩;have n0_:=Aside0.mk (Kd.N_below (by (with_reducible repeat (first|apply nA_|apply nN_|apply nD_));exact HO_7.out) hb);have n1_:=Aside0.mk (Kd.N_below (by (with_reducible repeat (first|apply nA_|apply nN_|apply nD_));exact HO_8.out) hb);have n2_:=Aside0.mk (Kd.N_below (by (with_reducible repeat (first|apply nA_|apply nN_|apply nD_));exact HO_9.out) hb);have n3_:=Aside0.mk (Kd.N_below (by (with_reducible repeat (first|apply nA_|apply nN_|apply nD_));exact HO_10.out) hb);have n4_:=Aside0.mk (Kd.N_below (by (with_reducible repeat (first|apply nA_|apply nN_|apply nD_));exact HO_11.out) hb);have n5_:=Aside0.mk (Kd.N_below (by (with_reducible repeat (first|apply nA_|apply nN_|apply nD_));exact HO498.out) hb);have n6_:=Aside0.mk (Kd.V_below (by (with_reducible repeat (first|apply vA_|apply vN_|apply vD_));exact HO502.out) hb);have n7_:=Aside0.mk (Kd.V_below (by (with_reducible repeat (first|apply vA_|apply vN_|apply vD_));exact HO506.out) hb);have n8_:=Aside0.mk (Kd.V_below (by (with_reducible repeat (first|apply vA_|apply vN_|apply vD_));exact HO510.out) hb);have n9_:=Aside0.mk (Kd.V_below (by (with_reducible repeat (first|apply vA_|apply vN_|apply vD_));exact HO514.out) hb);have n10_:=Aside0.mk (Kd.V_below (by (with_reducible repeat (first|apply vA_|apply vN_|apply vD_));exact HO518.out) hb);have n11_:=Aside0.mk (Kd.V_below (by (with_reducible repeat (first|apply vA_|apply vN_|apply vD_));exact HO522.out) hb);have n12_:=Aside0.mk (Kd.N_below (by (with_reducible repeat (first|apply nA_|apply nN_|apply nD_));exact HO525.out) hb);have n13_:=Aside0.mk (Kd.N_below (by (with_reducible repeat (first|apply nA_|apply nN_|apply nD_));exact HO532.out) hb);have n14_:=Aside0.mk (blk_below (g:=gb526) (o:=.cells #[.bool t511,.slice Ao57 t512.length co57] 26 (0,0)) (by (with_reducible repeat (first|refine blk_drewN ?_ _|refine blk_drew ?_|refine blk_alloc ?_ _));exact BK526.out) hb);have n15_:=Aside0.mk (blk_below (g:=gb527) (o:=.cells #[.bool t515,.slice Ao60 t516.length co60] 26 (0,0)) (by (with_reducible repeat (first|refine blk_drewN ?_ _|refine blk_drew ?_|refine blk_alloc ?_ _));exact BK527.out) hb);have n16_:=Aside0.mk (blk_below (g:=gb528) (o:=.cells #[.bool t519,.slice Ao62 t520.length co62] 26 (0,0)) (by (with_reducible repeat (first|refine blk_drewN ?_ _|refine blk_drew ?_|refine blk_alloc ?_ _));exact BK528.out) hb);have n17_:=Aside0.mk (below_step (by repeat (first|(with_reducible first|exact HB.out|apply bA_|apply bN_|apply bD_|refine below_set ?_ GE526.out|refine below_set ?_ GE527.out|refine below_set ?_ GE528.out)|exact HB.out)) hb);clear HO_7;clear HO_8;clear HO_9;clear HO_10;clear HO_11;clear HO498;clear HO502;clear HO506;clear HO510;clear HO514;clear HO518;clear HO522;clear HO525;clear HO532;clear BK526;clear BK527;clear BK528;clear HB;have HO_7:=n0_;have HO_8:=n1_;have HO_9:=n2_;have HO_10:=n3_;have HO_11:=n4_;have HO498:=n5_;have HO502:=n6_;have HO506:=n7_;have HO510:=n8_;have HO514:=n9_;have HO518:=n10_;have HO522:=n11_;have HO525:=n12_;have HO532:=n13_;have BK526:=n14_;have BK527:=n15_;have BK528:=n16_;have HB:=n17_;clear n0_ n1_ n2_ n3_ n4_ n5_ n6_ n7_ n8_ n9_ n10_ n11_ n12_ n13_ n14_ n15_ n16_ n17_;(try clear hb);(try clear hb2);(try clear hk);(try clear hi);have hcz70_0:w69.cell? ⟨gb527,0,none⟩=some (.bool t515):=(blk_cell BK527.out 0).trans rfl;have hcz70_1:w69.cell? ⟨gb527,1,none⟩=some (.slice Ao60 t516.length co60):=(blk_cell BK527.out 1).trans rfl;have hfz70_0:=blk_frozen BK527.out 0;have hfz70_1:=blk_frozen BK527.out 1;have hcz71_0:w69.cell? ⟨gb526,0,none⟩=some (.bool t511):=(blk_cell BK526.out 0).trans rfl;have hcz71_1:w69.cell? ⟨gb526,1,none⟩=some (.slice Ao57 t512.length co57):=(blk_cell BK526.out 1).trans rfl;have hfz71_0:=blk_frozen BK526.out 0;have hfz71_1:=blk_frozen BK526.out 1)|(go_at_call 19;(with_reducible refine (cadenceref2_Same.calls kj13 _ _ t516 _ _ t512 true _ ?side1 ?side2 ?side3 ?side4 A36.out).mono ?_);(case side1=>repeat (first|exact (Kd.V_reads' HO518.out).2.2|(with_reducible refine cA_ ?_ _)|(with_reducible refine cN_ ?_ _)|(with_reducible refine cD_ ?_)));(case side2=>exact (Kd.V_reads' HO518.out).2.1);(case side3=>repeat (first|exact (Kd.V_reads' HO514.out).2.2|(with_reducible refine cA_ ?_ _)|(with_reducible refine cN_ ?_ _)|(with_reducible refine cD_ ?_)));(case side4=>exact (Kd.V_reads' HO514.out).2.1);rintro e w72 ⟨rfl,hb⟩;have n0_:=Aside0.mk (Kd.N_below (by (with_reducible repeat (first|apply nA_|apply nN_|apply nD_));exact HO_7.out) hb);have n1_:=Aside0.mk (Kd.N_below (by (with_reducible repeat (first|apply nA_|apply nN_|apply nD_));exact HO_8.out) hb);have n2_:=Aside0.mk (Kd.N_below (by (with_reducible repeat (first|apply nA_|apply nN_|apply nD_));exact HO_9.out) hb);have n3_:=Aside0.mk (Kd.N_below (by (with_reducible repeat (first|apply nA_|apply nN_|apply nD_));exact HO_10.out) hb);have n4_:=Aside0.mk (Kd.N_below (by (with_reducible repeat (first|apply nA_|apply nN_|apply nD_));exact HO_11.out) hb);have n5_:=Aside0.mk (Kd.N_below (by (with_reducible repeat (first|apply nA_|apply nN_|apply nD_));exact HO498.out) hb);have n6_:=Aside0.mk (Kd.V_below (by (with_reducible repeat (first|apply vA_|apply vN_|apply vD_));exact HO502.out) hb);have n7_:=Aside0.mk (Kd.V_below (by (with_reducible repeat (first|apply vA_|apply vN_|apply vD_));exact HO506.out) hb);have n8_:=Aside0.mk (Kd.V_below (by (with_reducible repeat (first|apply vA_|apply vN_|apply vD_));exact HO510.out) hb);have n9_:=Aside0.mk (Kd.V_below (by (with_reducible repeat (first|apply vA_|apply vN_|apply vD_));exact HO514.out) hb);have n10_:=Aside0.mk (Kd.V_below (by (with_reducible repeat (first|apply vA_|apply vN_|apply vD_));exact HO518.out) hb);have n11_:=Aside0.mk (Kd.V_below (by (with_reducible repeat (first|apply vA_|apply vN_|apply vD_));exact HO522.out) hb);have n12_:=Aside0.mk (Kd.N_below (by (with_reducible repeat (first|apply nA_|apply nN_|apply nD_));exact HO525.out) hb);have n13_:=Aside0.mk (Kd.N_below (by (with_reducible repeat (first|apply nA_|apply nN_|apply nD_));exact HO532.out) hb);have n14_:=Aside0.mk (blk_below (g:=gb526) (o:=.cells #[.bool t511,.slice Ao57 t512.length co57] 26 (0,0)) (by (with_reducible repeat (first|refine blk_drewN ?_ _|refine blk_drew ?_|refine blk_alloc ?_ _));exact BK526.out) hb);have n15_:=Aside0.mk (blk_below (g:=gb527) (o:=.cells #[.bool t515,.slice Ao60 t516.length co60] 26 (0,0)) (by (with_reducible repeat (first|refine blk_drewN ?_ _|refine blk_drew ?_|refine blk_alloc ?_ _));exact BK527.out) hb);have n16_:=Aside0.mk (blk_below (g:=gb528) (o:=.cells #[.bool t519,.slice Ao62 t520.length co62] 26 (0,0)) (by (with_reducible repeat (first|refine blk_drewN ?_ _|refine blk_drew ?_|refine blk_alloc ?_ _));exact BK528.out) hb);have n17_:=Aside0.mk (below_step (by repeat (first|(with_reducible first|exact HB.out|apply bA_|apply bN_|apply bD_|refine below_set ?_ GE526.out|refine below_set ?_ GE527.out|refine below_set ?_ GE528.out)|exact HB.out)) hb);clear HO_7;clear HO_8;clear HO_9;clear HO_10;clear HO_11;clear HO498;clear HO502;clear HO506;clear HO510;clear HO514;clear HO518;clear HO522;clear HO525;clear HO532;clear BK526;clear BK527;clear BK528;clear HB;have HO_7:=n0_;have HO_8:=n1_;have HO_9:=n2_;have HO_10:=n3_;have HO_11:=n4_;have HO498:=n5_;have HO502:=n6_;have HO506:=n7_;have HO510:=n8_;have HO514:=n9_;have HO518:=n10_;have HO522:=n11_;have HO525:=n12_;have HO532:=n13_;have BK526:=n14_;have BK527:=n15_;have BK528:=n16_;have HB:=n17_;clear n0_ n1_ n2_ n3_ n4_ n5_ n6_ n7_ n8_ n9_ n10_ n11_ n12_ n13_ n14_ n15_ n16_ n17_;(try clear hb);(try clear hb2);(try clear hk);(try clear hi);have hcz73_0:w72.cell? ⟨gb528,0,none⟩=some (.bool t519):=(blk_cell BK528.out 0).trans rfl;have hcz73_1:w72.cell? ⟨gb528,1,none⟩=some (.slice Ao62 t520.length co62):=(blk_cell BK528.out 1).trans rfl;have hfz73_0:=blk_frozen BK528.out 0;have hfz73_1:=blk_frozen BK528.out 1;have hcz74_0:w72.cell? ⟨gb526,0,none⟩=some (.bool t511):=(blk_cell BK526.out 0).trans rfl;have hcz74_1:w72.cell? ⟨gb526,1,none⟩=some (.slice Ao57 t512.length co57):=(blk_cell BK526.out 1).trans rfl;have hfz74_0:=blk_frozen BK526.out 0;have hfz74_1:=blk_frozen BK526.out 1)|(go_at_call 19;(with_reducible refine (cadenceref2_Same.calls kj13 _ _ t520 _ _ t512 t535 _ ?side1 ?side2 ?side3 ?side4 A38.out).mono ?_);(case side1=>repeat (first|exact (Kd.V_reads' HO522.out).2.2|(with_reducible refine cA_ ?_ _)|(with_reducible refine cN_ ?_ _)|(with_reducible refine cD_ ?_)));(case side2=>exact (Kd.V_reads' HO522.out).2.1);(case side3=>repeat (first|exact (Kd.V_reads' HO514.out).2.2|(with_reducible refine cA_ ?_ _)|(with_reducible refine cN_ ?_ _)|(with_reducible refine cD_ ?_)));(case side4=>exact (Kd.V_reads' HO514.out).2.1);rintro e w75 ⟨rfl,hb⟩;have n0_:=Aside0.mk (Kd.N_below (by (with_reducible repeat (first|apply nA_|apply nN_|apply nD_));exact HO_7.out) hb);have n1_:=Aside0.mk (Kd.N_below (by (with_reducible repeat (first|apply nA_|apply nN_|apply nD_));exact HO_8.out) hb);have n2_:=Aside0.mk (Kd.N_below (by (with_reducible repeat (first|apply nA_|apply nN_|apply nD_));exact HO_9.out) hb);have n3_:=Aside0.mk (Kd.N_below (by (with_reducible repeat (first|apply nA_|apply nN_|apply nD_));exact HO_10.out) hb);have n4_:=Aside0.mk (Kd.N_below (by (with_reducible repeat (first|apply nA_|apply nN_|apply nD_));exact HO_11.out) hb);have n5_:=Aside0.mk (Kd.N_below (by (with_reducible repeat (first|apply nA_|apply nN_|apply nD_));exact HO498.out) hb);have n6_:=Aside0.mk (Kd.V_below (by (with_reducible repeat (first|apply vA_|apply vN_|apply vD_));exact HO502.out) hb);have n7_:=Aside0.mk (Kd.V_below (by (with_reducible repeat (first|apply vA_|apply vN_|apply vD_));exact HO506.out) hb);have n8_:=Aside0.mk (Kd.V_below (by (with_reducible repeat (first|apply vA_|apply vN_|apply vD_));exact HO510.out) hb);have n9_:=Aside0.mk (Kd.V_below (by (with_reducible repeat (first|apply vA_|apply vN_|apply vD_));exact HO514.out) hb);have n10_:=Aside0.mk (Kd.V_below (by (with_reducible repeat (first|apply vA_|apply vN_|apply vD_));exact HO518.out) hb);have n11_:=Aside0.mk (Kd.V_below (by (with_reducible repeat (first|apply vA_|apply vN_|apply vD_));exact HO522.out) hb);have n12_:=Aside0.mk (Kd.N_below (by (with_reducible repeat (first|apply nA_|apply nN_|apply nD_));exact HO525.out) hb);have n13_:=Aside0.mk (Kd.N_below (by (with_reducible repeat (first|apply nA_|apply nN_|apply nD_));exact HO532.out) hb);have n14_:=Aside0.mk (blk_below (g:=gb526) (o:=.cells #[.bool t511,.slice Ao57 t512.length co57] 26 (0,0)) (by (with_reducible repeat (first|refine blk_drewN ?_ _|refine blk_drew ?_|refine blk_alloc ?_ _));exact BK526.out) hb);have n15_:=Aside0.mk (blk_below (g:=gb527) (o:=.cells #[.bool t515,.slice Ao60 t516.length co60] 26 (0,0)) (by (with_reducible repeat (first|refine blk_drewN ?_ _|refine blk_drew ?_|refine blk_alloc ?_ _));exact BK527.out) hb);have n16_:=Aside0.mk (blk_below (g:=gb528) (o:=.cells #[.bool t519,.slice Ao62 t520.length co62] 26 (0,0)) (by (with_reducible repeat (first|refine blk_drewN ?_ _|refine blk_drew ?_|refine blk_alloc ?_ _));exact BK528.out) hb);have n17_:=Aside0.mk (below_step (by repeat (first|(with_reducible first|exact HB.out|apply bA_|apply bN_|apply bD_|refine below_set ?_ GE526.out|refine below_set ?_ GE527.out|refine below_set ?_ GE528.out)|exact HB.out)) hb);clear HO_7;clear HO_8;clear HO_9;clear HO_10;clear HO_11;clear HO498;clear HO502;clear HO506;clear HO510;clear HO514;clear HO518;clear HO522;clear HO525;clear HO532;clear BK526;clear BK527;clear BK528;clear HB;have HO_7:=n0_;have HO_8:=n1_;have HO_9:=n2_;have HO_10:=n3_;have HO_11:=n4_;have HO498:=n5_;have HO502:=n6_;have HO506:=n7_;have HO510:=n8_;have HO514:=n9_;have HO518:=n10_;have HO522:=n11_;have HO525:=n12_;have HO532:=n13_;have BK526:=n14_;have BK527:=n15_;have BK528:=n16_;have HB:=n17_;clear n0_ n1_ n2_ n3_ n4_ n5_ n6_ n7_ n8_ n9_ n10_ n11_ n12_ n13_ n14_ n15_ n16_ n17_;(try clear hb);(try clear hb2);(try clear hk);(try clear hi)))
           go_ret
           exact ⟨by first|rfl|(simp [errW_none,errW_some] <;> rfl)|(simp [*,errW_none,errW_some] <;> rfl),by repeat (first|(with_reducible first|exact HB.out|apply bA_|apply bN_|apply bD_|refine below_set ?_ GE526.out|refine below_set ?_ GE527.out|refine below_set ?_ GE528.out)|exact HB.out)⟩
          ·replace c37:=Bool.eq_false_iff.mpr c37
           subst c37
           have H1:(none)=some r:=by rw [if_neg (show ¬ (false=true) by decide)] at H;exact H
           clear H
           have H:=H1
           clear H1
           exact absurd H (by simp)
         ·replace c35:=Bool.eq_false_iff.mpr c35
          subst c35
          have H1:(none)=some r:=by rw [if_neg (show ¬ (false=true) by decide)] at H;exact H
          clear H
          have H:=H1
          clear H1
          exact absurd H (by simp)
        ·rw [if_neg c33] at H
         exact absurd H (by simp)
       ·replace c32:=Bool.eq_false_iff.mpr c32
        subst c32
        have H1:(if (t523.length:Int)=1 then (if 0 < (t523.length:Int) then (if ((rd_T38 t523 0).f1)=1 then (if (((rd_T38 t523 0).f0).length:Int)=1 then (if 0 < (((rd_T38 t523 0).f0).length:Int) then (if (rdOf ByteArray.empty ((rd_T38 t523 0).f0) 0).toList=([107]:List UInt8) then ((cadenceref2_Same.f kj13 t512 y487).bind fun t540=>(if t540=true then ((cadenceref2_Same.f kj13 t516 x10_13).bind fun t541=>(if t541=true then ((cadenceref2_Same.f kj13 t520 x11_13).bind fun t542=>(some t542)) else (none))) else (none))) else (none)) else (none)) else (none)) else (none)) else (none)) else (none))=some r:=by rw [if_neg (show ¬ (false=true) by decide)] at H;exact H
        clear H
        have H:=H1
        clear H1
        by_cases c76:(t523.length:Int)=1
        ·rw [if_pos c76] at H
         have c76b0:((t523.length:Int) == 1)=true:=beq_iff_eq.mpr c76
         have c76b1:((t523.length:Int) != 1)=false:=bne_eq_false_iff_eq.mpr c76
         clear c76
         by_cases c77:0 < (t523.length:Int)
         ·rw [if_pos c77] at H
          have c77b0:decide (0 < (t523.length:Int))=true:=decide_eq_true c77
          have c77b1:decide (0 < t523.length)=true:=decide_eq_true (by omega)
          clear c77
          by_cases c78:((rd_T38 t523 0).f1)=1
          ·rw [if_pos c78] at H
           have c78b0:(((rd_T38 t523 0).f1) == 1)=true:=beq_iff_eq.mpr c78
           have c78b1:(((rd_T38 t523 0).f1) != 1)=false:=bne_eq_false_iff_eq.mpr c78
           clear c78
           by_cases c79:(((rd_T38 t523 0).f0).length:Int)=1
           ·rw [if_pos c79] at H
            have c79b0:((((rd_T38 t523 0).f0).length:Int) == 1)=true:=beq_iff_eq.mpr c79
            have c79b1:((((rd_T38 t523 0).f0).length:Int) != 1)=false:=bne_eq_false_iff_eq.mpr c79
            clear c79
            by_cases c80:0 < (((rd_T38 t523 0).f0).length:Int)
            ·rw [if_pos c80] at H
             have c80b0:decide (0 < (((rd_T38 t523 0).f0).length:Int))=true:=decide_eq_true c80
             have c80b1:decide (0 < ((rd_T38 t523 0).f0).length)=true:=decide_eq_true (by omega)
             clear c80
             by_cases c81:(rdOf ByteArray.empty ((rd_T38 t523 0).f0) 0).toList=([107]:List UInt8)
             ·rw [if_pos c81] at H
              have c81b0:((rdOf ByteArray.empty ((rd_T38 t523 0).f0) 0).toList == ([107]:List UInt8))=true:=beq_iff_eq.mpr c81
              have c81b1:((rdOf ByteArray.empty ((rd_T38 t523 0).f0) 0).toList != ([107]:List UInt8))=false:=bne_eq_false_iff_eq.mpr c81
              clear c81
              replace H:=Option.bind_eq_some_iff.mp H
              obtain ⟨t540,A820,H⟩:=H
              replace H:(if t540=true then ((cadenceref2_Same.f kj13 t516 x10_13).bind fun t541=>(if t541=true then ((cadenceref2_Same.f kj13 t520 x11_13).bind fun t542=>(some t542)) else (none))) else (none))=some r:=H
              have A82:=Aside0.mk A820
              clear A820
              by_cases c83:t540=true
              ·subst c83
               have H1:((cadenceref2_Same.f kj13 t516 x10_13).bind fun t541=>(if t541=true then ((cadenceref2_Same.f kj13 t520 x11_13).bind fun t542=>(some t542)) else (none)))=some r:=by rw [if_pos rfl] at H;exact H
               clear H
               have H:=H1
               clear H1
               replace H:=Option.bind_eq_some_iff.mp H
               obtain ⟨t541,A840,H⟩:=H
               replace H:(if t541=true then ((cadenceref2_Same.f kj13 t520 x11_13).bind fun t542=>(some t542)) else (none))=some r:=H
               have A84:=Aside0.mk A840
               clear A840
               by_cases c85:t541=true
               ·subst c85
                have H1:((cadenceref2_Same.f kj13 t520 x11_13).bind fun t542=>(some t542))=some r:=by rw [if_pos rfl] at H;exact H
                clear H
                have H:=H1
                clear H1
                replace H:=Option.bind_eq_some_iff.mp H
                obtain ⟨t542,A860,H⟩:=H
                replace H:(some t542)=some r:=H
                have A86:=Aside0.mk A860
                clear A860
                obtain rfl:=Option.some.inj H
                go_wp2_with (first|((with_reducible refine gate_callee (f:=18) rfl ?_);refine goesL_ (some 44) rfl rfl Try.func18 (by kernel_rfl) rfl #[] rfl (by (try simp only [List.map_toArray,List.map_cons,List.map_nil]);first|done|rfl|(simp only [List.length_drop,List.length_take];rfl)) ?_;(with_reducible refine (cadencelaw12_wide.calls  t496 _ A26.out).mono ?_);rintro e w87 ⟨v497,rfl,ho0,hb⟩;refine ⟨_,rfl,?_⟩;have n0_:=Aside0.mk (Kd.N_elder' (by (with_reducible repeat (first|apply nA_|apply nN_|apply nD_));exact HO_7.out) (by first|exact Kd.N_base ho0|exact Kd.R_base ho0) hb);have n1_:=Aside0.mk (Kd.N_elder' (by (with_reducible repeat (first|apply nA_|apply nN_|apply nD_));exact HO_8.out) (by first|exact Kd.N_base ho0|exact Kd.R_base ho0) hb);have n2_:=Aside0.mk (Kd.N_elder' (by (with_reducible repeat (first|apply nA_|apply nN_|apply nD_));exact HO_9.out) (by first|exact Kd.N_base ho0|exact Kd.R_base ho0) hb);have n3_:=Aside0.mk (Kd.N_elder' (by (with_reducible repeat (first|apply nA_|apply nN_|apply nD_));exact HO_10.out) (by first|exact Kd.N_base ho0|exact Kd.R_base ho0) hb);have n4_:=Aside0.mk (Kd.N_elder' (by (with_reducible repeat (first|apply nA_|apply nN_|apply nD_));exact HO_11.out) (by first|exact Kd.N_base ho0|exact Kd.R_base ho0) hb);have n5_:=Aside0.mk (Kd.N_lower (Kd.N_mono (ok':=fun k_=>some k_≠(.slice Ao17 t481.length co17:Value).ownBlock∧some k_≠(.slice Ao22 t484.length co22:Value).ownBlock∧some k_≠(v488:Value).ownBlock∧some k_≠(u10:Value).ownBlock∧some k_≠(u11:Value).ownBlock) ho0 (fun k_ hk_=>⟨(Kd.fresh' (Kd.N_lt (by (with_reducible repeat (first|apply nA_|apply nN_|apply nD_));exact HO_7.out)) k_ hk_),(Kd.fresh' (Kd.N_lt (by (with_reducible repeat (first|apply nA_|apply nN_|apply nD_));exact HO_8.out)) k_ hk_),(Kd.fresh' (Kd.N_lt (by (with_reducible repeat (first|apply nA_|apply nN_|apply nD_));exact HO_9.out)) k_ hk_),(Kd.fresh' (Kd.N_lt (by (with_reducible repeat (first|apply nA_|apply nN_|apply nD_));exact HO_10.out)) k_ hk_),(Kd.fresh' (Kd.N_lt (by (with_reducible repeat (first|apply nA_|apply nN_|apply nD_));exact HO_11.out)) k_ hk_)⟩)) (below_size (by repeat (first|(with_reducible first|exact HB.out|apply bA_|apply bN_|apply bD_)|exact HB.out))));have n6_:=Aside0.mk (below_step (by repeat (first|(with_reducible first|exact HB.out|apply bA_|apply bN_|apply bD_)|exact HB.out)) hb);clear HO_7;clear HO_8;clear HO_9;clear HO_10;clear HO_11;clear HB;have HO_7:=n0_;have HO_8:=n1_;have HO_9:=n2_;have HO_10:=n3_;have HO_11:=n4_;have HO498:=n5_;have HB:=n6_;clear n0_ n1_ n2_ n3_ n4_ n5_ n6_;(try clear hb);(try clear hb2);(try clear hk);(try clear hi);(try clear ho0);obtain ⟨Ao88,co88,eo88⟩:=Kd.N_slice HO_9.out;subst eo88)|((with_reducible refine gate_callee (f:=10) rfl ?_);refine goesL_ (some 46) rfl rfl Try.func10 (by kernel_rfl) rfl #[.slice Ao88 y487.length co88] rfl (by (try simp only [List.map_toArray,List.map_cons,List.map_nil]);first|done|rfl|(simp only [List.length_drop,List.length_take];rfl)) ?_;(with_reducible refine (cadencelaw12_some.calls (fun k_=>((some k_≠(.slice Ao22 t484.length co22:Value).ownBlock∧(some k_≠(u10:Value).ownBlock∧some k_≠(u11:Value).ownBlock))∧some k_≠(v497:Value).ownBlock)) _ _ y487 t499 t500 _ ?side1 A27.out).mono ?_);(case side1=>exact Kd.N_V (HO_9.out));rintro e w89 ⟨v501,rfl,ho0,hb⟩;refine ⟨_,rfl,?_⟩;have n0_:=Aside0.mk (Kd.N_below (by (with_reducible repeat (first|apply nA_|apply nN_|apply nD_));exact HO_7.out) hb);have n1_:=Aside0.mk (Kd.N_below (by (with_reducible repeat (first|apply nA_|apply nN_|apply nD_));exact HO_8.out) hb);have n2_:=Aside0.mk (Kd.N_below (by (with_reducible repeat (first|apply nA_|apply nN_|apply nD_));exact HO_9.out) hb);have n3_:=Aside0.mk (Kd.N_below (by (with_reducible repeat (first|apply nA_|apply nN_|apply nD_));exact HO_10.out) hb);have n4_:=Aside0.mk (Kd.N_below (by (with_reducible repeat (first|apply nA_|apply nN_|apply nD_));exact HO_11.out) hb);have n5_:=Aside0.mk (Kd.N_below (by (with_reducible repeat (first|apply nA_|apply nN_|apply nD_));exact HO498.out) hb);have n6_:=Aside0.mk (Kd.V_lower (Kd.V_mono (ok':=fun k_=>some k_≠(.slice Ao22 t484.length co22:Value).ownBlock∧some k_≠(u10:Value).ownBlock∧some k_≠(u11:Value).ownBlock∧some k_≠(v497:Value).ownBlock) ho0 (fun k_ hk_=>⟨Or.elim hk_ (fun hs_=>hs_.1.1) (fun hn_=>(Kd.fresh' (Kd.N_lt (by (with_reducible repeat (first|apply nA_|apply nN_|apply nD_));exact HO_8.out)) k_ hn_)),Or.elim hk_ (fun hs_=>hs_.1.2.1) (fun hn_=>(Kd.fresh' (Kd.N_lt (by (with_reducible repeat (first|apply nA_|apply nN_|apply nD_));exact HO_10.out)) k_ hn_)),Or.elim hk_ (fun hs_=>hs_.1.2.2) (fun hn_=>(Kd.fresh' (Kd.N_lt (by (with_reducible repeat (first|apply nA_|apply nN_|apply nD_));exact HO_11.out)) k_ hn_)),Or.elim hk_ (fun hs_=>hs_.2) (fun hn_=>(Kd.fresh' (Kd.N_lt (by (with_reducible repeat (first|apply nA_|apply nN_|apply nD_));exact HO498.out)) k_ hn_))⟩)) (below_size (by repeat (first|(with_reducible first|exact HB.out|apply bA_|apply bN_|apply bD_)|exact HB.out))));have n7_:=Aside0.mk (below_step (by repeat (first|(with_reducible first|exact HB.out|apply bA_|apply bN_|apply bD_)|exact HB.out)) hb);clear HO_7;clear HO_8;clear HO_9;clear HO_10;clear HO_11;clear HO498;clear HB;have HO_7:=n0_;have HO_8:=n1_;have HO_9:=n2_;have HO_10:=n3_;have HO_11:=n4_;have HO498:=n5_;have HO502:=n6_;have HB:=n7_;clear n0_ n1_ n2_ n3_ n4_ n5_ n6_ n7_;(try clear hb);(try clear hb2);(try clear hk);(try clear hi);(try clear ho0);obtain ⟨Ao90,co90,eo90⟩:=Kd.N_slice HO_10.out;subst eo90)|((with_reducible refine gate_callee (f:=10) rfl ?_);refine goesL_ (some 48) rfl rfl Try.func10 (by kernel_rfl) rfl #[.slice Ao90 x10_13.length co90] rfl (by (try simp only [List.map_toArray,List.map_cons,List.map_nil]);first|done|rfl|(simp only [List.length_drop,List.length_take];rfl)) ?_;(with_reducible refine (cadencelaw12_some.calls (fun k_=>((some k_≠(.slice Ao88 y487.length co88:Value).ownBlock∧some k_≠(u11:Value).ownBlock)∧some k_≠(v497:Value).ownBlock)) _ _ x10_13 t503 t504 _ ?side1 A28.out).mono ?_);(case side1=>exact Kd.N_V (HO_10.out));rintro e w91 ⟨v505,rfl,ho0,hb⟩;refine ⟨_,rfl,?_⟩;have n0_:=Aside0.mk (Kd.N_below (by (with_reducible repeat (first|apply nA_|apply nN_|apply nD_));exact HO_7.out) hb);have n1_:=Aside0.mk (Kd.N_below (by (with_reducible repeat (first|apply nA_|apply nN_|apply nD_));exact HO_8.out) hb);have n2_:=Aside0.mk (Kd.N_below (by (with_reducible repeat (first|apply nA_|apply nN_|apply nD_));exact HO_9.out) hb);have n3_:=Aside0.mk (Kd.N_below (by (with_reducible repeat (first|apply nA_|apply nN_|apply nD_));exact HO_10.out) hb);have n4_:=Aside0.mk (Kd.N_below (by (with_reducible repeat (first|apply nA_|apply nN_|apply nD_));exact HO_11.out) hb);have n5_:=Aside0.mk (Kd.N_below (by (with_reducible repeat (first|apply nA_|apply nN_|apply nD_));exact HO498.out) hb);have n6_:=Aside0.mk (Kd.V_below (by (with_reducible repeat (first|apply vA_|apply vN_|apply vD_));exact HO502.out) hb);have n7_:=Aside0.mk (Kd.V_lower (Kd.V_mono (ok':=fun k_=>some k_≠(.slice Ao88 y487.length co88:Value).ownBlock∧some k_≠(u11:Value).ownBlock∧some k_≠(v497:Value).ownBlock) ho0 (fun k_ hk_=>⟨Or.elim hk_ (fun hs_=>hs_.1.1) (fun hn_=>(Kd.fresh' (Kd.N_lt (by (with_reducible repeat (first|apply nA_|apply nN_|apply nD_));exact HO_9.out)) k_ hn_)),Or.elim hk_ (fun hs_=>hs_.1.2) (fun hn_=>(Kd.fresh' (Kd.N_lt (by (with_reducible repeat (first|apply nA_|apply nN_|apply nD_));exact HO_11.out)) k_ hn_)),Or.elim hk_ (fun hs_=>hs_.2) (fun hn_=>(Kd.fresh' (Kd.N_lt (by (with_reducible repeat (first|apply nA_|apply nN_|apply nD_));exact HO498.out)) k_ hn_))⟩)) (below_size (by repeat (first|(with_reducible first|exact HB.out|apply bA_|apply bN_|apply bD_)|exact HB.out))));have n8_:=Aside0.mk (below_step (by repeat (first|(with_reducible first|exact HB.out|apply bA_|apply bN_|apply bD_)|exact HB.out)) hb);clear HO_7;clear HO_8;clear HO_9;clear HO_10;clear HO_11;clear HO498;clear HO502;clear HB;have HO_7:=n0_;have HO_8:=n1_;have HO_9:=n2_;have HO_10:=n3_;have HO_11:=n4_;have HO498:=n5_;have HO502:=n6_;have HO506:=n7_;have HB:=n8_;clear n0_ n1_ n2_ n3_ n4_ n5_ n6_ n7_ n8_;(try clear hb);(try clear hb2);(try clear hk);(try clear hi);(try clear ho0);obtain ⟨Ao92,co92,eo92⟩:=Kd.N_slice HO_11.out;subst eo92)|((with_reducible refine gate_callee (f:=10) rfl ?_);refine goesL_ (some 50) rfl rfl Try.func10 (by kernel_rfl) rfl #[.slice Ao92 x11_13.length co92] rfl (by (try simp only [List.map_toArray,List.map_cons,List.map_nil]);first|done|rfl|(simp only [List.length_drop,List.length_take];rfl)) ?_;(with_reducible refine (cadencelaw12_some.calls (fun k_=>((some k_≠(.slice Ao88 y487.length co88:Value).ownBlock∧some k_≠(.slice Ao90 x10_13.length co90:Value).ownBlock)∧some k_≠(v497:Value).ownBlock)) _ _ x11_13 t507 t508 _ ?side1 A29.out).mono ?_);(case side1=>exact Kd.N_V (HO_11.out));rintro e w93 ⟨v509,rfl,ho0,hb⟩;refine ⟨_,rfl,?_⟩;have n0_:=Aside0.mk (Kd.N_below (by (with_reducible repeat (first|apply nA_|apply nN_|apply nD_));exact HO_7.out) hb);have n1_:=Aside0.mk (Kd.N_below (by (with_reducible repeat (first|apply nA_|apply nN_|apply nD_));exact HO_8.out) hb);have n2_:=Aside0.mk (Kd.N_below (by (with_reducible repeat (first|apply nA_|apply nN_|apply nD_));exact HO_9.out) hb);have n3_:=Aside0.mk (Kd.N_below (by (with_reducible repeat (first|apply nA_|apply nN_|apply nD_));exact HO_10.out) hb);have n4_:=Aside0.mk (Kd.N_below (by (with_reducible repeat (first|apply nA_|apply nN_|apply nD_));exact HO_11.out) hb);have n5_:=Aside0.mk (Kd.N_below (by (with_reducible repeat (first|apply nA_|apply nN_|apply nD_));exact HO498.out) hb);have n6_:=Aside0.mk (Kd.V_below (by (with_reducible repeat (first|apply vA_|apply vN_|apply vD_));exact HO502.out) hb);have n7_:=Aside0.mk (Kd.V_below (by (with_reducible repeat (first|apply vA_|apply vN_|apply vD_));exact HO506.out) hb);have n8_:=Aside0.mk (Kd.V_lower (Kd.V_mono (ok':=fun k_=>some k_≠(.slice Ao88 y487.length co88:Value).ownBlock∧some k_≠(.slice Ao90 x10_13.length co90:Value).ownBlock∧some k_≠(v497:Value).ownBlock) ho0 (fun k_ hk_=>⟨Or.elim hk_ (fun hs_=>hs_.1.1) (fun hn_=>(Kd.fresh' (Kd.N_lt (by (with_reducible repeat (first|apply nA_|apply nN_|apply nD_));exact HO_9.out)) k_ hn_)),Or.elim hk_ (fun hs_=>hs_.1.2) (fun hn_=>(Kd.fresh' (Kd.N_lt (by (with_reducible repeat (first|apply nA_|apply nN_|apply nD_));exact HO_10.out)) k_ hn_)),Or.elim hk_ (fun hs_=>hs_.2) (fun hn_=>(Kd.fresh' (Kd.N_lt (by (with_reducible repeat (first|apply nA_|apply nN_|apply nD_));exact HO498.out)) k_ hn_))⟩)) (below_size (by repeat (first|(with_reducible first|exact HB.out|apply bA_|apply bN_|apply bD_)|exact HB.out))));have n9_:=Aside0.mk (below_step (by repeat (first|(with_reducible first|exact HB.out|apply bA_|apply bN_|apply bD_)|exact HB.out)) hb);clear HO_7;clear HO_8;clear HO_9;clear HO_10;clear HO_11;clear HO498;clear HO502;clear HO506;clear HB;have HO_7:=n0_;have HO_8:=n1_;have HO_9:=n2_;have HO_10:=n3_;have HO_11:=n4_;have HO498:=n5_;have HO502:=n6_;have HO506:=n7_;have HO510:=n8_;have HB:=n9_;clear n0_ n1_ n2_ n3_ n4_ n5_ n6_ n7_ n8_ n9_;(try clear hb);(try clear hb2);(try clear hk);(try clear hi);(try clear ho0);obtain ⟨Ao94,co94,eo94⟩:=Kd.N_slice HO498.out;subst eo94;obtain ⟨Ao95,co95,eo95⟩:=Kd.V_slice HO502.out;subst eo95;obtain ⟨Ao96,co96,eo96⟩:=Kd.V_slice HO506.out;subst eo96;obtain ⟨Ao97,co97,eo97⟩:=Kd.V_slice HO510.out;subst eo97)|((with_reducible refine gate_callee (f:=8) rfl ?_);refine goesL_ (some 51) rfl rfl Try.func8 (by kernel_rfl) rfl #[.slice Ao94 t496.length co94,.agg #[.bool t499,.slice Ao95 t500.length co95],.agg #[.bool t503,.slice Ao96 t504.length co96],.agg #[.bool t507,.slice Ao97 t508.length co97]] rfl (by (try simp only [List.map_toArray,List.map_cons,List.map_nil]);first|done|rfl|(simp only [List.length_drop,List.length_take];rfl)) ?_;(with_reducible refine (merge_Merge.calls (fun k_=>(some k_≠(.slice Ao17 t481.length co17:Value).ownBlock∧(some k_≠(.slice Ao22 t484.length co22:Value).ownBlock∧(some k_≠(.slice Ao88 y487.length co88:Value).ownBlock∧(some k_≠(.slice Ao90 x10_13.length co90:Value).ownBlock∧some k_≠(.slice Ao92 x11_13.length co92:Value).ownBlock))))) _ _ t496 t499 (fun k_=>(some k_≠(.slice Ao22 t484.length co22:Value).ownBlock∧(some k_≠(.slice Ao90 x10_13.length co90:Value).ownBlock∧(some k_≠(.slice Ao92 x11_13.length co92:Value).ownBlock∧some k_≠(.slice Ao94 t496.length co94:Value).ownBlock)))) _ _ t500 t503 (fun k_=>(some k_≠(.slice Ao88 y487.length co88:Value).ownBlock∧(some k_≠(.slice Ao92 x11_13.length co92:Value).ownBlock∧some k_≠(.slice Ao94 t496.length co94:Value).ownBlock))) _ _ t504 t507 (fun k_=>(some k_≠(.slice Ao88 y487.length co88:Value).ownBlock∧(some k_≠(.slice Ao90 x10_13.length co90:Value).ownBlock∧some k_≠(.slice Ao94 t496.length co94:Value).ownBlock))) _ _ t508 t511 t512 t515 t516 t519 t520 t523 _ ?side1 ?side2 ?side3 ?side4 A30.out).mono ?_);(case side1=>exact Kd.N_V (HO498.out));(case side2=>exact HO502.out);(case side3=>exact HO506.out);(case side4=>exact HO510.out);rintro e w98 ⟨v513,v517,v521,v524,rfl,ho0,ho1,ho2,ho3,hb⟩;refine ⟨_,rfl,?_⟩;have n0_:=Aside0.mk (Kd.N_elder' (by (with_reducible repeat (first|apply nA_|apply nN_|apply nD_));exact HO_7.out) (Kd.N_base ho3) hb);have n1_:=Aside0.mk (Kd.N_elder' (by (with_reducible repeat (first|apply nA_|apply nN_|apply nD_));exact HO_8.out) (Kd.N_base ho3) hb);have n2_:=Aside0.mk (Kd.N_elder' (by (with_reducible repeat (first|apply nA_|apply nN_|apply nD_));exact HO_9.out) (Kd.N_base ho3) hb);have n3_:=Aside0.mk (Kd.N_elder' (by (with_reducible repeat (first|apply nA_|apply nN_|apply nD_));exact HO_10.out) (Kd.N_base ho3) hb);have n4_:=Aside0.mk (Kd.N_elder' (by (with_reducible repeat (first|apply nA_|apply nN_|apply nD_));exact HO_11.out) (Kd.N_base ho3) hb);have n5_:=Aside0.mk (Kd.N_elder' (by (with_reducible repeat (first|apply nA_|apply nN_|apply nD_));exact HO498.out) (Kd.N_base ho3) hb);have n6_:=Aside0.mk (Kd.V_elder' (by (with_reducible repeat (first|apply vA_|apply vN_|apply vD_));exact HO502.out) (Kd.N_base ho3) hb);have n7_:=Aside0.mk (Kd.V_elder' (by (with_reducible repeat (first|apply vA_|apply vN_|apply vD_));exact HO506.out) (Kd.N_base ho3) hb);have n8_:=Aside0.mk (Kd.V_elder' (by (with_reducible repeat (first|apply vA_|apply vN_|apply vD_));exact HO510.out) (Kd.N_base ho3) hb);have n9_:=Aside0.mk (Kd.V_lower (Kd.V_mono (ok':=fun k_=>some k_≠(v524:Value).ownBlock) ho0 (fun k_ hk_=>hk_.2)) (below_size (by repeat (first|(with_reducible first|exact HB.out|apply bA_|apply bN_|apply bD_)|exact HB.out))));have n10_:=Aside0.mk (Kd.V_lower (Kd.V_mono (ok':=fun k_=>some k_≠(v524:Value).ownBlock) ho1 (fun k_ hk_=>hk_.2)) (below_size (by repeat (first|(with_reducible first|exact HB.out|apply bA_|apply bN_|apply bD_)|exact HB.out))));have n11_:=Aside0.mk (Kd.V_lower (Kd.V_mono (ok':=fun k_=>some k_≠(v524:Value).ownBlock) ho2 (fun k_ hk_=>hk_.2)) (below_size (by repeat (first|(with_reducible first|exact HB.out|apply bA_|apply bN_|apply bD_)|exact HB.out))));have n12_:=Aside0.mk (Kd.N_lower (Kd.N_mono (ok':=fun k_=>True) ho3 (fun k_ hk_=>trivial)) (below_size (by repeat (first|(with_reducible first|exact HB.out|apply bA_|apply bN_|apply bD_)|exact HB.out))));have n13_:=Aside0.mk (below_step (by repeat (first|(with_reducible first|exact HB.out|apply bA_|apply bN_|apply bD_)|exact HB.out)) hb);clear HO_7;clear HO_8;clear HO_9;clear HO_10;clear HO_11;clear HO498;clear HO502;clear HO506;clear HO510;clear HB;have HO_7:=n0_;have HO_8:=n1_;have HO_9:=n2_;have HO_10:=n3_;have HO_11:=n4_;have HO498:=n5_;have HO502:=n6_;have HO506:=n7_;have HO510:=n8_;have HO514:=n9_;have HO518:=n10_;have HO522:=n11_;have HO525:=n12_;have HB:=n13_;clear n0_ n1_ n2_ n3_ n4_ n5_ n6_ n7_ n8_ n9_ n10_ n11_ n12_ n13_;(try clear hb);(try clear hb2);(try clear hk);(try clear hi);(try clear ho0);(try clear ho1);(try clear ho2);(try clear ho3))|((with_reducible refine gate_dst (N:=12) rfl ?_);(try (refine gate_guard (by rfl) ?_;dsimp only));refine box_event ?hg (N:=12) ?hd (cs:=#[.bool false,.slice none 0 0]) (t:=26) ?hr ?_;(case hd=>rfl);(case hg=>rfl);(case hr=>first|(go_simp;done)|(go_simp;rfl));intro gb526 hg w99 hbox hb;have n0_:=Aside0.mk (Kd.N_below (Kd.N_elderB (by (with_reducible repeat (first|apply nA_|apply nN_|apply nD_));exact HO_7.out) gb526 (Nat.le_of_eq hg.symm)) hb);have n1_:=Aside0.mk (Kd.N_below (Kd.N_elderB (by (with_reducible repeat (first|apply nA_|apply nN_|apply nD_));exact HO_8.out) gb526 (Nat.le_of_eq hg.symm)) hb);have n2_:=Aside0.mk (Kd.N_below (Kd.N_elderB (by (with_reducible repeat (first|apply nA_|apply nN_|apply nD_));exact HO_9.out) gb526 (Nat.le_of_eq hg.symm)) hb);have n3_:=Aside0.mk (Kd.N_below (Kd.N_elderB (by (with_reducible repeat (first|apply nA_|apply nN_|apply nD_));exact HO_10.out) gb526 (Nat.le_of_eq hg.symm)) hb);have n4_:=Aside0.mk (Kd.N_below (Kd.N_elderB (by (with_reducible repeat (first|apply nA_|apply nN_|apply nD_));exact HO_11.out) gb526 (Nat.le_of_eq hg.symm)) hb);have n5_:=Aside0.mk (Kd.N_below (Kd.N_elderB (by (with_reducible repeat (first|apply nA_|apply nN_|apply nD_));exact HO498.out) gb526 (Nat.le_of_eq hg.symm)) hb);have n6_:=Aside0.mk (Kd.V_below (Kd.V_elderB (by (with_reducible repeat (first|apply vA_|apply vN_|apply vD_));exact HO502.out) gb526 (Nat.le_of_eq hg.symm)) hb);have n7_:=Aside0.mk (Kd.V_below (Kd.V_elderB (by (with_reducible repeat (first|apply vA_|apply vN_|apply vD_));exact HO506.out) gb526 (Nat.le_of_eq hg.symm)) hb);have n8_:=Aside0.mk (Kd.V_below (Kd.V_elderB (by (with_reducible repeat (first|apply vA_|apply vN_|apply vD_));exact HO510.out) gb526 (Nat.le_of_eq hg.symm)) hb);have n9_:=Aside0.mk (Kd.V_below (Kd.V_elderB (by (with_reducible repeat (first|apply vA_|apply vN_|apply vD_));exact HO514.out) gb526 (Nat.le_of_eq hg.symm)) hb);have n10_:=Aside0.mk (Kd.V_below (Kd.V_elderB (by (with_reducible repeat (first|apply vA_|apply vN_|apply vD_));exact HO518.out) gb526 (Nat.le_of_eq hg.symm)) hb);have n11_:=Aside0.mk (Kd.V_below (Kd.V_elderB (by (with_reducible repeat (first|apply vA_|apply vN_|apply vD_));exact HO522.out) gb526 (Nat.le_of_eq hg.symm)) hb);have n12_:=Aside0.mk (Kd.N_below (Kd.N_elderB (by (with_reducible repeat (first|apply nA_|apply nN_|apply nD_));exact HO525.out) gb526 (Nat.le_of_eq hg.symm)) hb);have n13_:=Aside0.mk (below_step (by repeat (first|(with_reducible first|exact HB.out|apply bA_|apply bN_|apply bD_)|exact HB.out)) hb);have n14_:=Aside0.mk (hbox);have n15_:=Aside0.mk ((by rw [hg];exact (below_size (by repeat (first|(with_reducible first|exact HB.out|apply bA_|apply bN_|apply bD_)|exact HB.out))):w.heap.size≤gb526));have n16_:=Aside0.mk ((by rw [hg];exact (below_size (by repeat (first|(with_reducible first|exact HB.out|apply bA_|apply bN_|apply bD_)|exact HB.out))):w.heap.size≤gb526));clear HO_7;clear HO_8;clear HO_9;clear HO_10;clear HO_11;clear HO498;clear HO502;clear HO506;clear HO510;clear HO514;clear HO518;clear HO522;clear HO525;clear HB;have HO_7:=n0_;have HO_8:=n1_;have HO_9:=n2_;have HO_10:=n3_;have HO_11:=n4_;have HO498:=n5_;have HO502:=n6_;have HO506:=n7_;have HO510:=n8_;have HO514:=n9_;have HO518:=n10_;have HO522:=n11_;have HO525:=n12_;have HB:=n13_;have BK526:=n14_;have GW526:=n15_;have GE526:=n16_;clear n0_ n1_ n2_ n3_ n4_ n5_ n6_ n7_ n8_ n9_ n10_ n11_ n12_ n13_ n14_ n15_ n16_;clear hb hbox hg)|((with_reducible refine gate_dst (N:=13) rfl ?_);(try (refine gate_guard (by rfl) ?_;dsimp only));refine box_event ?hg (N:=13) ?hd (cs:=#[.bool false,.slice none 0 0]) (t:=26) ?hr ?_;(case hd=>rfl);(case hg=>rfl);(case hr=>first|(go_simp;done)|(go_simp;rfl));intro gb527 hg w100 hbox hb;have n0_:=Aside0.mk (Kd.N_below (Kd.N_elderB (by (with_reducible repeat (first|apply nA_|apply nN_|apply nD_));exact HO_7.out) gb527 (Nat.le_of_eq hg.symm)) hb);have n1_:=Aside0.mk (Kd.N_below (Kd.N_elderB (by (with_reducible repeat (first|apply nA_|apply nN_|apply nD_));exact HO_8.out) gb527 (Nat.le_of_eq hg.symm)) hb);have n2_:=Aside0.mk (Kd.N_below (Kd.N_elderB (by (with_reducible repeat (first|apply nA_|apply nN_|apply nD_));exact HO_9.out) gb527 (Nat.le_of_eq hg.symm)) hb);have n3_:=Aside0.mk (Kd.N_below (Kd.N_elderB (by (with_reducible repeat (first|apply nA_|apply nN_|apply nD_));exact HO_10.out) gb527 (Nat.le_of_eq hg.symm)) hb);have n4_:=Aside0.mk (Kd.N_below (Kd.N_elderB (by (with_reducible repeat (first|apply nA_|apply nN_|apply nD_));exact HO_11.out) gb527 (Nat.le_of_eq hg.symm)) hb);have n5_:=Aside0.mk (Kd.N_below (Kd.N_elderB (by (with_reducible repeat (first|apply nA_|apply nN_|apply nD_));exact HO498.out) gb527 (Nat.le_of_eq hg.symm)) hb);have n6_:=Aside0.mk (Kd.V_below (Kd.V_elderB (by (with_reducible repeat (first|apply vA_|apply vN_|apply vD_));exact HO502.out) gb527 (Nat.le_of_eq hg.symm)) hb);have n7_:=Aside0.mk (Kd.V_below (Kd.V_elderB (by (with_reducible repeat (first|apply vA_|apply vN_|apply vD_));exact HO506.out) gb527 (Nat.le_of_eq hg.symm)) hb);have n8_:=Aside0.mk (Kd.V_below (Kd.V_elderB (by (with_reducible repeat (first|apply vA_|apply vN_|apply vD_));exact HO510.out) gb527 (Nat.le_of_eq hg.symm)) hb);have n9_:=Aside0.mk (Kd.V_below (Kd.V_elderB (by (with_reducible repeat (first|apply vA_|apply vN_|apply vD_));exact HO514.out) gb527 (Nat.le_of_eq hg.symm)) hb);have n10_:=Aside0.mk (Kd.V_below (Kd.V_elderB (by (with_reducible repeat (first|apply vA_|apply vN_|apply vD_));exact HO518.out) gb527 (Nat.le_of_eq hg.symm)) hb);have n11_:=Aside0.mk (Kd.V_below (Kd.V_elderB (by (with_reducible repeat (first|apply vA_|apply vN_|apply vD_));exact HO522.out) gb527 (Nat.le_of_eq hg.symm)) hb);have n12_:=Aside0.mk (Kd.N_below (Kd.N_elderB (by (with_reducible repeat (first|apply nA_|apply nN_|apply nD_));exact HO525.out) gb527 (Nat.le_of_eq hg.symm)) hb);have n13_:=Aside0.mk (blk_below (g:=gb526) (o:=.cells #[.bool false,.slice none 0 0] 26 (0,0)) (by (with_reducible repeat (first|refine blk_drewN ?_ _|refine blk_drew ?_|refine blk_alloc ?_ _));exact BK526.out) hb);have n14_:=Aside0.mk (below_step (by repeat (first|(with_reducible first|exact HB.out|apply bA_|apply bN_|apply bD_|refine below_set ?_ GE526.out)|exact HB.out)) hb);have n15_:=Aside0.mk (hbox);have n16_:=Aside0.mk ((by rw [hg];exact (below_size (by repeat (first|(with_reducible first|exact HB.out|apply bA_|apply bN_|apply bD_|refine below_set ?_ GE526.out)|exact HB.out))):w.heap.size≤gb527));have n17_:=Aside0.mk ((by rw [hg];exact (below_size (by repeat (first|(with_reducible first|exact HB.out|apply bA_|apply bN_|apply bD_|refine below_set ?_ GE526.out)|exact HB.out))):w.heap.size≤gb527));have n18_:=Aside0.mk ((by rw [hg];exact Nat.ne_of_lt (blk_lt (g:=gb526) (o:=.cells #[.bool false,.slice none 0 0] 26 (0,0)) (by (with_reducible repeat (first|refine blk_drewN ?_ _|refine blk_drew ?_|refine blk_alloc ?_ _));exact BK526.out)):gb526≠gb527));have n19_:=Aside0.mk ((by rw [hg];exact Nat.ne_of_gt (blk_lt (g:=gb526) (o:=.cells #[.bool false,.slice none 0 0] 26 (0,0)) (by (with_reducible repeat (first|refine blk_drewN ?_ _|refine blk_drew ?_|refine blk_alloc ?_ _));exact BK526.out)):gb527≠gb526));clear HO_7;clear HO_8;clear HO_9;clear HO_10;clear HO_11;clear HO498;clear HO502;clear HO506;clear HO510;clear HO514;clear HO518;clear HO522;clear HO525;clear BK526;clear HB;have HO_7:=n0_;have HO_8:=n1_;have HO_9:=n2_;have HO_10:=n3_;have HO_11:=n4_;have HO498:=n5_;have HO502:=n6_;have HO506:=n7_;have HO510:=n8_;have HO514:=n9_;have HO518:=n10_;have HO522:=n11_;have HO525:=n12_;have BK526:=n13_;have HB:=n14_;have BK527:=n15_;have GW527:=n16_;have GE527:=n17_;have NB526_527:=n18_;have NB527_526:=n19_;clear n0_ n1_ n2_ n3_ n4_ n5_ n6_ n7_ n8_ n9_ n10_ n11_ n12_ n13_ n14_ n15_ n16_ n17_ n18_ n19_;clear hb hbox hg)|((with_reducible refine gate_dst (N:=14) rfl ?_);(try (refine gate_guard (by rfl) ?_;dsimp only));refine box_event ?hg (N:=14) ?hd (cs:=#[.bool false,.slice none 0 0]) (t:=26) ?hr ?_;(case hd=>rfl);(case hg=>rfl);(case hr=>first|(go_simp;done)|(go_simp;rfl));intro gb528 hg w101 hbox hb;have n0_:=Aside0.mk (Kd.N_below (Kd.N_elderB (by (with_reducible repeat (first|apply nA_|apply nN_|apply nD_));exact HO_7.out) gb528 (Nat.le_of_eq hg.symm)) hb);have n1_:=Aside0.mk (Kd.N_below (Kd.N_elderB (by (with_reducible repeat (first|apply nA_|apply nN_|apply nD_));exact HO_8.out) gb528 (Nat.le_of_eq hg.symm)) hb);have n2_:=Aside0.mk (Kd.N_below (Kd.N_elderB (by (with_reducible repeat (first|apply nA_|apply nN_|apply nD_));exact HO_9.out) gb528 (Nat.le_of_eq hg.symm)) hb);have n3_:=Aside0.mk (Kd.N_below (Kd.N_elderB (by (with_reducible repeat (first|apply nA_|apply nN_|apply nD_));exact HO_10.out) gb528 (Nat.le_of_eq hg.symm)) hb);have n4_:=Aside0.mk (Kd.N_below (Kd.N_elderB (by (with_reducible repeat (first|apply nA_|apply nN_|apply nD_));exact HO_11.out) gb528 (Nat.le_of_eq hg.symm)) hb);have n5_:=Aside0.mk (Kd.N_below (Kd.N_elderB (by (with_reducible repeat (first|apply nA_|apply nN_|apply nD_));exact HO498.out) gb528 (Nat.le_of_eq hg.symm)) hb);have n6_:=Aside0.mk (Kd.V_below (Kd.V_elderB (by (with_reducible repeat (first|apply vA_|apply vN_|apply vD_));exact HO502.out) gb528 (Nat.le_of_eq hg.symm)) hb);have n7_:=Aside0.mk (Kd.V_below (Kd.V_elderB (by (with_reducible repeat (first|apply vA_|apply vN_|apply vD_));exact HO506.out) gb528 (Nat.le_of_eq hg.symm)) hb);have n8_:=Aside0.mk (Kd.V_below (Kd.V_elderB (by (with_reducible repeat (first|apply vA_|apply vN_|apply vD_));exact HO510.out) gb528 (Nat.le_of_eq hg.symm)) hb);have n9_:=Aside0.mk (Kd.V_below (Kd.V_elderB (by (with_reducible repeat (first|apply vA_|apply vN_|apply vD_));exact HO514.out) gb528 (Nat.le_of_eq hg.symm)) hb);have n10_:=Aside0.mk (Kd.V_below (Kd.V_elderB (by (with_reducible repeat (first|apply vA_|apply vN_|apply vD_));exact HO518.out) gb528 (Nat.le_of_eq hg.symm)) hb);have n11_:=Aside0.mk (Kd.V_below (Kd.V_elderB (by (with_reducible repeat (first|apply vA_|apply vN_|apply vD_));exact HO522.out) gb528 (Nat.le_of_eq hg.symm)) hb);have n12_:=Aside0.mk (Kd.N_below (Kd.N_elderB (by (with_reducible repeat (first|apply nA_|apply nN_|apply nD_));exact HO525.out) gb528 (Nat.le_of_eq hg.symm)) hb);have n13_:=Aside0.mk (blk_below (g:=gb526) (o:=.cells #[.bool false,.slice none 0 0] 26 (0,0)) (by (with_reducible repeat (first|refine blk_drewN ?_ _|refine blk_drew ?_|refine blk_alloc ?_ _));exact BK526.out) hb);have n14_:=Aside0.mk (blk_below (g:=gb527) (o:=.cells #[.bool false,.slice none 0 0] 26 (0,0)) (by (with_reducible repeat (first|refine blk_drewN ?_ _|refine blk_drew ?_|refine blk_alloc ?_ _));exact BK527.out) hb);have n15_:=Aside0.mk (below_step (by repeat (first|(with_reducible first|exact HB.out|apply bA_|apply bN_|apply bD_|refine below_set ?_ GE526.out|refine below_set ?_ GE527.out)|exact HB.out)) hb);have n16_:=Aside0.mk (hbox);have n17_:=Aside0.mk ((by rw [hg];exact (below_size (by repeat (first|(with_reducible first|exact HB.out|apply bA_|apply bN_|apply bD_|refine below_set ?_ GE526.out|refine below_set ?_ GE527.out)|exact HB.out))):w.heap.size≤gb528));have n18_:=Aside0.mk ((by rw [hg];exact (below_size (by repeat (first|(with_reducible first|exact HB.out|apply bA_|apply bN_|apply bD_|refine below_set ?_ GE526.out|refine below_set ?_ GE527.out)|exact HB.out))):w.heap.size≤gb528));have n19_:=Aside0.mk ((by rw [hg];exact Nat.ne_of_lt (blk_lt (g:=gb526) (o:=.cells #[.bool false,.slice none 0 0] 26 (0,0)) (by (with_reducible repeat (first|refine blk_drewN ?_ _|refine blk_drew ?_|refine blk_alloc ?_ _));exact BK526.out)):gb526≠gb528));have n20_:=Aside0.mk ((by rw [hg];exact Nat.ne_of_gt (blk_lt (g:=gb526) (o:=.cells #[.bool false,.slice none 0 0] 26 (0,0)) (by (with_reducible repeat (first|refine blk_drewN ?_ _|refine blk_drew ?_|refine blk_alloc ?_ _));exact BK526.out)):gb528≠gb526));have n21_:=Aside0.mk ((by rw [hg];exact Nat.ne_of_lt (blk_lt (g:=gb527) (o:=.cells #[.bool false,.slice none 0 0] 26 (0,0)) (by (with_reducible repeat (first|refine blk_drewN ?_ _|refine blk_drew ?_|refine blk_alloc ?_ _));exact BK527.out)):gb527≠gb528));have n22_:=Aside0.mk ((by rw [hg];exact Nat.ne_of_gt (blk_lt (g:=gb527) (o:=.cells #[.bool false,.slice none 0 0] 26 (0,0)) (by (with_reducible repeat (first|refine blk_drewN ?_ _|refine blk_drew ?_|refine blk_alloc ?_ _));exact BK527.out)):gb528≠gb527));clear HO_7;clear HO_8;clear HO_9;clear HO_10;clear HO_11;clear HO498;clear HO502;clear HO506;clear HO510;clear HO514;clear HO518;clear HO522;clear HO525;clear BK526;clear BK527;clear HB;have HO_7:=n0_;have HO_8:=n1_;have HO_9:=n2_;have HO_10:=n3_;have HO_11:=n4_;have HO498:=n5_;have HO502:=n6_;have HO506:=n7_;have HO510:=n8_;have HO514:=n9_;have HO518:=n10_;have HO522:=n11_;have HO525:=n12_;have BK526:=n13_;have BK527:=n14_;have HB:=n15_;have BK528:=n16_;have GW528:=n17_;have GE528:=n18_;have NB526_528:=n19_;have NB528_526:=n20_;have NB527_528:=n21_;have NB528_527:=n22_;clear n0_ n1_ n2_ n3_ n4_ n5_ n6_ n7_ n8_ n9_ n10_ n11_ n12_ n13_ n14_ n15_ n16_ n17_ n18_ n19_ n20_ n21_ n22_;clear hb hbox hg;have hnb102:=NB526_527.out;have hnc102:=NB527_526.out;have hnb103:=NB526_528.out;have hnc103:=NB528_526.out;have hcz104_0:w101.cell? ⟨gb526,0,none⟩=some (.bool false):=(blk_cell BK526.out 0).trans rfl;have hcz104_1:w101.cell? ⟨gb526,1,none⟩=some (.slice none 0 0):=(blk_cell BK526.out 1).trans rfl;have hfz104_0:=blk_frozen BK526.out 0;have hfz104_1:=blk_frozen BK526.out 1;obtain ⟨Ao105,co105,eo105⟩:=Kd.V_slice HO514.out;subst eo105;have hnb106:=NB527_528.out;have hnc106:=NB528_527.out;have hcz107_0:w101.cell? ⟨gb527,0,none⟩=some (.bool false):=(blk_cell BK527.out 0).trans rfl;have hcz107_1:w101.cell? ⟨gb527,1,none⟩=some (.slice none 0 0):=(blk_cell BK527.out 1).trans rfl;have hfz107_0:=blk_frozen BK527.out 0;have hfz107_1:=blk_frozen BK527.out 1;obtain ⟨Ao108,co108,eo108⟩:=Kd.V_slice HO518.out;subst eo108;have hcz109_0:w101.cell? ⟨gb528,0,none⟩=some (.bool false):=(blk_cell BK528.out 0).trans rfl;have hcz109_1:w101.cell? ⟨gb528,1,none⟩=some (.slice none 0 0):=(blk_cell BK528.out 1).trans rfl;have hfz109_0:=blk_frozen BK528.out 0;have hfz109_1:=blk_frozen BK528.out 1;obtain ⟨Ao110,co110,eo110⟩:=Kd.V_slice HO522.out;subst eo110)|((with_reducible refine gate_callee (f:=19) rfl ?_);refine goesL_ (some 58) rfl rfl Try.func19 (by kernel_rfl) rfl #[.slice Ao17 t481.length co17,.slice Ao22 t484.length co22] rfl (by (try simp only [List.map_toArray,List.map_cons,List.map_nil]);first|done|rfl|(simp only [List.length_drop,List.length_take];rfl)) ?_;(with_reducible refine (cadenceref2_Same.calls kj13 _ _ t481 _ _ t484 false _ ?side1 ?side2 ?side3 ?side4 A31.out).mono ?_);(case side1=>refine (Kd.N_reads' (e:=51) (base:=w.heap.size) (ok:=fun k_=>(((((True∧some k_≠(.slice Ao94 t496.length co94:Value).ownBlock)∧some k_≠(v524:Value).ownBlock)∧k_≠gb526)∧k_≠gb527)∧k_≠gb528)) (n:=t481.length) (c:=co17) ?_).2.2;exact (by (with_reducible repeat (first|apply nA_|apply nN_|apply nD_));exact (Kd.N_mono (Kd.N_mono (Kd.N_mono (Kd.N_far (p:=⟨gb528,1,none⟩) (Kd.N_far (p:=⟨gb528,0,none⟩) (Kd.N_far (p:=⟨gb527,1,none⟩) (Kd.N_far (p:=⟨gb527,0,none⟩) (Kd.N_far (p:=⟨gb526,1,none⟩) (Kd.N_far (p:=⟨gb526,0,none⟩) (Kd.N_mono (Kd.N_mono (Kd.N_mono HO_7.out (fun k_ hk=>(⟨hk,hk.1.1.2⟩:_∧k_≠gb526))) (fun k_ hk=>(⟨hk,hk.1.1.2⟩:_∧k_≠gb527))) (fun k_ hk=>(⟨hk,hk.1.1.2⟩:_∧k_≠gb528))) (fun _ hk=>hk.1.1.2) (.bool t511)) (fun _ hk=>hk.1.1.2) (.slice Ao105 t512.length co105)) (fun _ hk=>hk.1.2) (.bool t515)) (fun _ hk=>hk.1.2) (.slice Ao108 t516.length co108)) (fun _ hk=>hk.2) (.bool t519)) (fun _ hk=>hk.2) (.slice Ao110 t520.length co110)) (fun _ h_=>h_.1)) (fun _ h_=>h_.1)) (fun _ h_=>h_.1))));(case side2=>exact (Kd.N_reads' HO_7.out).2.1);(case side3=>refine (Kd.N_reads' (e:=51) (base:=w.heap.size) (ok:=fun k_=>(((((True∧some k_≠(.slice Ao94 t496.length co94:Value).ownBlock)∧some k_≠(v524:Value).ownBlock)∧k_≠gb526)∧k_≠gb527)∧k_≠gb528)) (n:=t484.length) (c:=co22) ?_).2.2;exact (by (with_reducible repeat (first|apply nA_|apply nN_|apply nD_));exact (Kd.N_mono (Kd.N_mono (Kd.N_mono (Kd.N_far (p:=⟨gb528,1,none⟩) (Kd.N_far (p:=⟨gb528,0,none⟩) (Kd.N_far (p:=⟨gb527,1,none⟩) (Kd.N_far (p:=⟨gb527,0,none⟩) (Kd.N_far (p:=⟨gb526,1,none⟩) (Kd.N_far (p:=⟨gb526,0,none⟩) (Kd.N_mono (Kd.N_mono (Kd.N_mono HO_8.out (fun k_ hk=>(⟨hk,hk.1.1.2⟩:_∧k_≠gb526))) (fun k_ hk=>(⟨hk,hk.1.1.2⟩:_∧k_≠gb527))) (fun k_ hk=>(⟨hk,hk.1.1.2⟩:_∧k_≠gb528))) (fun _ hk=>hk.1.1.2) (.bool t511)) (fun _ hk=>hk.1.1.2) (.slice Ao105 t512.length co105)) (fun _ hk=>hk.1.2) (.bool t515)) (fun _ hk=>hk.1.2) (.slice Ao108 t516.length co108)) (fun _ hk=>hk.2) (.bool t519)) (fun _ hk=>hk.2) (.slice Ao110 t520.length co110)) (fun _ h_=>h_.1)) (fun _ h_=>h_.1)) (fun _ h_=>h_.1))));(case side4=>exact (Kd.N_reads' HO_8.out).2.1);rintro e w111 ⟨rfl,hb⟩;refine ⟨_,rfl,?_⟩;have n0_:=Aside0.mk (Kd.N_below (by (with_reducible repeat (first|apply nA_|apply nN_|apply nD_));exact (Kd.N_mono (Kd.N_mono (Kd.N_mono (Kd.N_far (p:=⟨gb528,1,none⟩) (Kd.N_far (p:=⟨gb528,0,none⟩) (Kd.N_far (p:=⟨gb527,1,none⟩) (Kd.N_far (p:=⟨gb527,0,none⟩) (Kd.N_far (p:=⟨gb526,1,none⟩) (Kd.N_far (p:=⟨gb526,0,none⟩) (Kd.N_mono (Kd.N_mono (Kd.N_mono HO_7.out (fun k_ hk=>(⟨hk,hk.1.1.2⟩:_∧k_≠gb526))) (fun k_ hk=>(⟨hk,hk.1.1.2⟩:_∧k_≠gb527))) (fun k_ hk=>(⟨hk,hk.1.1.2⟩:_∧k_≠gb528))) (fun _ hk=>hk.1.1.2) (.bool t511)) (fun _ hk=>hk.1.1.2) (.slice Ao105 t512.length co105)) (fun _ hk=>hk.1.2) (.bool t515)) (fun _ hk=>hk.1.2) (.slice Ao108 t516.length co108)) (fun _ hk=>hk.2) (.bool t519)) (fun _ hk=>hk.2) (.slice Ao110 t520.length co110)) (fun _ h_=>h_.1)) (fun _ h_=>h_.1)) (fun _ h_=>h_.1))) hb);have n1_:=Aside0.mk (Kd.N_below (by (with_reducible repeat (first|apply nA_|apply nN_|apply nD_));exact (Kd.N_mono (Kd.N_mono (Kd.N_mono (Kd.N_far (p:=⟨gb528,1,none⟩) (Kd.N_far (p:=⟨gb528,0,none⟩) (Kd.N_far (p:=⟨gb527,1,none⟩) (Kd.N_far (p:=⟨gb527,0,none⟩) (Kd.N_far (p:=⟨gb526,1,none⟩) (Kd.N_far (p:=⟨gb526,0,none⟩) (Kd.N_mono (Kd.N_mono (Kd.N_mono HO_8.out (fun k_ hk=>(⟨hk,hk.1.1.2⟩:_∧k_≠gb526))) (fun k_ hk=>(⟨hk,hk.1.1.2⟩:_∧k_≠gb527))) (fun k_ hk=>(⟨hk,hk.1.1.2⟩:_∧k_≠gb528))) (fun _ hk=>hk.1.1.2) (.bool t511)) (fun _ hk=>hk.1.1.2) (.slice Ao105 t512.length co105)) (fun _ hk=>hk.1.2) (.bool t515)) (fun _ hk=>hk.1.2) (.slice Ao108 t516.length co108)) (fun _ hk=>hk.2) (.bool t519)) (fun _ hk=>hk.2) (.slice Ao110 t520.length co110)) (fun _ h_=>h_.1)) (fun _ h_=>h_.1)) (fun _ h_=>h_.1))) hb);have n2_:=Aside0.mk (Kd.N_below (by (with_reducible repeat (first|apply nA_|apply nN_|apply nD_));exact (Kd.N_mono (Kd.N_mono (Kd.N_mono (Kd.N_far (p:=⟨gb528,1,none⟩) (Kd.N_far (p:=⟨gb528,0,none⟩) (Kd.N_far (p:=⟨gb527,1,none⟩) (Kd.N_far (p:=⟨gb527,0,none⟩) (Kd.N_far (p:=⟨gb526,1,none⟩) (Kd.N_far (p:=⟨gb526,0,none⟩) (Kd.N_mono (Kd.N_mono (Kd.N_mono HO_9.out (fun k_ hk=>(⟨hk,hk.1.1.2⟩:_∧k_≠gb526))) (fun k_ hk=>(⟨hk,hk.1.1.2⟩:_∧k_≠gb527))) (fun k_ hk=>(⟨hk,hk.1.1.2⟩:_∧k_≠gb528))) (fun _ hk=>hk.1.1.2) (.bool t511)) (fun _ hk=>hk.1.1.2) (.slice Ao105 t512.length co105)) (fun _ hk=>hk.1.2) (.bool t515)) (fun _ hk=>hk.1.2) (.slice Ao108 t516.length co108)) (fun _ hk=>hk.2) (.bool t519)) (fun _ hk=>hk.2) (.slice Ao110 t520.length co110)) (fun _ h_=>h_.1)) (fun _ h_=>h_.1)) (fun _ h_=>h_.1))) hb);have n3_:=Aside0.mk (Kd.N_below (by (with_reducible repeat (first|apply nA_|apply nN_|apply nD_));exact (Kd.N_mono (Kd.N_mono (Kd.N_mono (Kd.N_far (p:=⟨gb528,1,none⟩) (Kd.N_far (p:=⟨gb528,0,none⟩) (Kd.N_far (p:=⟨gb527,1,none⟩) (Kd.N_far (p:=⟨gb527,0,none⟩) (Kd.N_far (p:=⟨gb526,1,none⟩) (Kd.N_far (p:=⟨gb526,0,none⟩) (Kd.N_mono (Kd.N_mono (Kd.N_mono HO_10.out (fun k_ hk=>(⟨hk,hk.1.1.2⟩:_∧k_≠gb526))) (fun k_ hk=>(⟨hk,hk.1.1.2⟩:_∧k_≠gb527))) (fun k_ hk=>(⟨hk,hk.1.1.2⟩:_∧k_≠gb528))) (fun _ hk=>hk.1.1.2) (.bool t511)) (fun _ hk=>hk.1.1.2) (.slice Ao105 t512.length co105)) (fun _ hk=>hk.1.2) (.bool t515)) (fun _ hk=>hk.1.2) (.slice Ao108 t516.length co108)) (fun _ hk=>hk.2) (.bool t519)) (fun _ hk=>hk.2) (.slice Ao110 t520.length co110)) (fun _ h_=>h_.1)) (fun _ h_=>h_.1)) (fun _ h_=>h_.1))) hb);have n4_:=Aside0.mk (Kd.N_below (by (with_reducible repeat (first|apply nA_|apply nN_|apply nD_));exact (Kd.N_mono (Kd.N_mono (Kd.N_mono (Kd.N_far (p:=⟨gb528,1,none⟩) (Kd.N_far (p:=⟨gb528,0,none⟩) (Kd.N_far (p:=⟨gb527,1,none⟩) (Kd.N_far (p:=⟨gb527,0,none⟩) (Kd.N_far (p:=⟨gb526,1,none⟩) (Kd.N_far (p:=⟨gb526,0,none⟩) (Kd.N_mono (Kd.N_mono (Kd.N_mono HO_11.out (fun k_ hk=>(⟨hk,hk.1.1.2⟩:_∧k_≠gb526))) (fun k_ hk=>(⟨hk,hk.1.1.2⟩:_∧k_≠gb527))) (fun k_ hk=>(⟨hk,hk.1.1.2⟩:_∧k_≠gb528))) (fun _ hk=>hk.1.1.2) (.bool t511)) (fun _ hk=>hk.1.1.2) (.slice Ao105 t512.length co105)) (fun _ hk=>hk.1.2) (.bool t515)) (fun _ hk=>hk.1.2) (.slice Ao108 t516.length co108)) (fun _ hk=>hk.2) (.bool t519)) (fun _ hk=>hk.2) (.slice Ao110 t520.length co110)) (fun _ h_=>h_.1)) (fun _ h_=>h_.1)) (fun _ h_=>h_.1))) hb);have n5_:=Aside0.mk (Kd.N_below (by (with_reducible repeat (first|apply nA_|apply nN_|apply nD_));exact (Kd.N_mono (Kd.N_mono (Kd.N_mono (Kd.N_far (p:=⟨gb528,1,none⟩) (Kd.N_far (p:=⟨gb528,0,none⟩) (Kd.N_far (p:=⟨gb527,1,none⟩) (Kd.N_far (p:=⟨gb527,0,none⟩) (Kd.N_far (p:=⟨gb526,1,none⟩) (Kd.N_far (p:=⟨gb526,0,none⟩) (Kd.N_mono (Kd.N_mono (Kd.N_mono HO498.out (fun k_ hk=>(⟨hk,hk.1.1.2⟩:_∧k_≠gb526))) (fun k_ hk=>(⟨hk,hk.1.1.2⟩:_∧k_≠gb527))) (fun k_ hk=>(⟨hk,hk.1.1.2⟩:_∧k_≠gb528))) (fun _ hk=>hk.1.1.2) (.bool t511)) (fun _ hk=>hk.1.1.2) (.slice Ao105 t512.length co105)) (fun _ hk=>hk.1.2) (.bool t515)) (fun _ hk=>hk.1.2) (.slice Ao108 t516.length co108)) (fun _ hk=>hk.2) (.bool t519)) (fun _ hk=>hk.2) (.slice Ao110 t520.length co110)) (fun _ h_=>h_.1)) (fun _ h_=>h_.1)) (fun _ h_=>h_.1))) hb);have n6_:=Aside0.mk (Kd.V_below (by (with_reducible repeat (first|apply vA_|apply vN_|apply vD_));exact (Kd.V_mono (Kd.V_mono (Kd.V_mono (Kd.V_far (p:=⟨gb528,1,none⟩) (Kd.V_far (p:=⟨gb528,0,none⟩) (Kd.V_far (p:=⟨gb527,1,none⟩) (Kd.V_far (p:=⟨gb527,0,none⟩) (Kd.V_far (p:=⟨gb526,1,none⟩) (Kd.V_far (p:=⟨gb526,0,none⟩) (Kd.V_mono (Kd.V_mono (Kd.V_mono HO502.out (fun k_ hk=>(⟨hk,hk.1.1.2⟩:_∧k_≠gb526))) (fun k_ hk=>(⟨hk,hk.1.1.2⟩:_∧k_≠gb527))) (fun k_ hk=>(⟨hk,hk.1.1.2⟩:_∧k_≠gb528))) (fun _ hk=>hk.1.1.2) (.bool t511)) (fun _ hk=>hk.1.1.2) (.slice Ao105 t512.length co105)) (fun _ hk=>hk.1.2) (.bool t515)) (fun _ hk=>hk.1.2) (.slice Ao108 t516.length co108)) (fun _ hk=>hk.2) (.bool t519)) (fun _ hk=>hk.2) (.slice Ao110 t520.length co110)) (fun _ h_=>h_.1)) (fun _ h_=>h_.1)) (fun _ h_=>h_.1))) hb);have n7_:=Aside0.mk (Kd.V_below (by (with_reducible repeat (first|apply vA_|apply vN_|apply vD_));exact (Kd.V_mono (Kd.V_mono (Kd.V_mono (Kd.V_far (p:=⟨gb528,1,none⟩) (Kd.V_far (p:=⟨gb528,0,none⟩) (Kd.V_far (p:=⟨gb527,1,none⟩) (Kd.V_far (p:=⟨gb527,0,none⟩) (Kd.V_far (p:=⟨gb526,1,none⟩) (Kd.V_far (p:=⟨gb526,0,none⟩) (Kd.V_mono (Kd.V_mono (Kd.V_mono HO506.out (fun k_ hk=>(⟨hk,hk.1.1.2⟩:_∧k_≠gb526))) (fun k_ hk=>(⟨hk,hk.1.1.2⟩:_∧k_≠gb527))) (fun k_ hk=>(⟨hk,hk.1.1.2⟩:_∧k_≠gb528))) (fun _ hk=>hk.1.1.2) (.bool t511)) (fun _ hk=>hk.1.1.2) (.slice Ao105 t512.length co105)) (fun _ hk=>hk.1.2) (.bool t515)) (fun _ hk=>hk.1.2) (.slice Ao108 t516.length co108)) (fun _ hk=>hk.2) (.bool t519)) (fun _ hk=>hk.2) (.slice Ao110 t520.length co110)) (fun _ h_=>h_.1)) (fun _ h_=>h_.1)) (fun _ h_=>h_.1))) hb);have n8_:=Aside0.mk (Kd.V_below (by (with_reducible repeat (first|apply vA_|apply vN_|apply vD_));exact (Kd.V_mono (Kd.V_mono (Kd.V_mono (Kd.V_far (p:=⟨gb528,1,none⟩) (Kd.V_far (p:=⟨gb528,0,none⟩) (Kd.V_far (p:=⟨gb527,1,none⟩) (Kd.V_far (p:=⟨gb527,0,none⟩) (Kd.V_far (p:=⟨gb526,1,none⟩) (Kd.V_far (p:=⟨gb526,0,none⟩) (Kd.V_mono (Kd.V_mono (Kd.V_mono HO510.out (fun k_ hk=>(⟨hk,hk.1.1.2⟩:_∧k_≠gb526))) (fun k_ hk=>(⟨hk,hk.1.1.2⟩:_∧k_≠gb527))) (fun k_ hk=>(⟨hk,hk.1.1.2⟩:_∧k_≠gb528))) (fun _ hk=>hk.1.1.2) (.bool t511)) (fun _ hk=>hk.1.1.2) (.slice Ao105 t512.length co105)) (fun _ hk=>hk.1.2) (.bool t515)) (fun _ hk=>hk.1.2) (.slice Ao108 t516.length co108)) (fun _ hk=>hk.2) (.bool t519)) (fun _ hk=>hk.2) (.slice Ao110 t520.length co110)) (fun _ h_=>h_.1)) (fun _ h_=>h_.1)) (fun _ h_=>h_.1))) hb);have n9_:=Aside0.mk (Kd.V_below (by (with_reducible repeat (first|apply vA_|apply vN_|apply vD_));exact (Kd.V_mono (Kd.V_mono (Kd.V_mono (Kd.V_far (p:=⟨gb528,1,none⟩) (Kd.V_far (p:=⟨gb528,0,none⟩) (Kd.V_far (p:=⟨gb527,1,none⟩) (Kd.V_far (p:=⟨gb527,0,none⟩) (Kd.V_far (p:=⟨gb526,1,none⟩) (Kd.V_far (p:=⟨gb526,0,none⟩) (Kd.V_mono (Kd.V_mono (Kd.V_mono HO514.out (fun k_ hk=>(⟨hk,hk.1.1.2⟩:_∧k_≠gb526))) (fun k_ hk=>(⟨hk,hk.1.1.2⟩:_∧k_≠gb527))) (fun k_ hk=>(⟨hk,hk.1.1.2⟩:_∧k_≠gb528))) (fun _ hk=>hk.1.1.2) (.bool t511)) (fun _ hk=>hk.1.1.2) (.slice Ao105 t512.length co105)) (fun _ hk=>hk.1.2) (.bool t515)) (fun _ hk=>hk.1.2) (.slice Ao108 t516.length co108)) (fun _ hk=>hk.2) (.bool t519)) (fun _ hk=>hk.2) (.slice Ao110 t520.length co110)) (fun _ h_=>h_.1)) (fun _ h_=>h_.1)) (fun _ h_=>h_.1))) hb);have n10_:=Aside0.mk (Kd.V_below (by (with_reducible repeat (first|apply vA_|apply vN_|apply vD_));exact (Kd.V_mono (Kd.V_mono (Kd.V_mono (Kd.V_far (p:=⟨gb528,1,none⟩) (Kd.V_far (p:=⟨gb528,0,none⟩) (Kd.V_far (p:=⟨gb527,1,none⟩) (Kd.V_far (p:=⟨gb527,0,none⟩) (Kd.V_far (p:=⟨gb526,1,none⟩) (Kd.V_far (p:=⟨gb526,0,none⟩) (Kd.V_mono (Kd.V_mono (Kd.V_mono HO518.out (fun k_ hk=>(⟨hk,hk.1.1.2⟩:_∧k_≠gb526))) (fun k_ hk=>(⟨hk,hk.1.1.2⟩:_∧k_≠gb527))) (fun k_ hk=>(⟨hk,hk.1.1.2⟩:_∧k_≠gb528))) (fun _ hk=>hk.1.1.2) (.bool t511)) (fun _ hk=>hk.1.1.2) (.slice Ao105 t512.length co105)) (fun _ hk=>hk.1.2) (.bool t515)) (fun _ hk=>hk.1.2) (.slice Ao108 t516.length co108)) (fun _ hk=>hk.2) (.bool t519)) (fun _ hk=>hk.2) (.slice Ao110 t520.length co110)) (fun _ h_=>h_.1)) (fun _ h_=>h_.1)) (fun _ h_=>h_.1))) hb);have n11_:=Aside0.mk (Kd.V_below (by (with_reducible repeat (first|apply vA_|apply vN_|apply vD_));exact (Kd.V_mono (Kd.V_mono (Kd.V_mono (Kd.V_far (p:=⟨gb528,1,none⟩) (Kd.V_far (p:=⟨gb528,0,none⟩) (Kd.V_far (p:=⟨gb527,1,none⟩) (Kd.V_far (p:=⟨gb527,0,none⟩) (Kd.V_far (p:=⟨gb526,1,none⟩) (Kd.V_far (p:=⟨gb526,0,none⟩) (Kd.V_mono (Kd.V_mono (Kd.V_mono HO522.out (fun k_ hk=>(⟨hk,hk.1.1.2⟩:_∧k_≠gb526))) (fun k_ hk=>(⟨hk,hk.1.1.2⟩:_∧k_≠gb527))) (fun k_ hk=>(⟨hk,hk.1.1.2⟩:_∧k_≠gb528))) (fun _ hk=>hk.1.1.2) (.bool t511)) (fun _ hk=>hk.1.1.2) (.slice Ao105 t512.length co105)) (fun _ hk=>hk.1.2) (.bool t515)) (fun _ hk=>hk.1.2) (.slice Ao108 t516.length co108)) (fun _ hk=>hk.2) (.bool t519)) (fun _ hk=>hk.2) (.slice Ao110 t520.length co110)) (fun _ h_=>h_.1)) (fun _ h_=>h_.1)) (fun _ h_=>h_.1))) hb);have n12_:=Aside0.mk (Kd.N_below (by (with_reducible repeat (first|apply nA_|apply nN_|apply nD_));exact (Kd.N_mono (Kd.N_mono (Kd.N_mono (Kd.N_far (p:=⟨gb528,1,none⟩) (Kd.N_far (p:=⟨gb528,0,none⟩) (Kd.N_far (p:=⟨gb527,1,none⟩) (Kd.N_far (p:=⟨gb527,0,none⟩) (Kd.N_far (p:=⟨gb526,1,none⟩) (Kd.N_far (p:=⟨gb526,0,none⟩) (Kd.N_mono (Kd.N_mono (Kd.N_mono HO525.out (fun k_ hk=>(⟨hk,hk.1.1.2⟩:_∧k_≠gb526))) (fun k_ hk=>(⟨hk,hk.1.1.2⟩:_∧k_≠gb527))) (fun k_ hk=>(⟨hk,hk.1.1.2⟩:_∧k_≠gb528))) (fun _ hk=>hk.1.1.2) (.bool t511)) (fun _ hk=>hk.1.1.2) (.slice Ao105 t512.length co105)) (fun _ hk=>hk.1.2) (.bool t515)) (fun _ hk=>hk.1.2) (.slice Ao108 t516.length co108)) (fun _ hk=>hk.2) (.bool t519)) (fun _ hk=>hk.2) (.slice Ao110 t520.length co110)) (fun _ h_=>h_.1)) (fun _ h_=>h_.1)) (fun _ h_=>h_.1))) hb);have n13_:=Aside0.mk (blk_below (g:=gb526) (o:=.cells #[.bool t511,.slice Ao105 t512.length co105] 26 (0,0)) (by (with_reducible repeat (first|refine blk_drewN ?_ _|refine blk_drew ?_|refine blk_alloc ?_ _));refine blk_far ?_ NB526_528.out _;(with_reducible repeat (first|refine blk_drewN ?_ _|refine blk_drew ?_|refine blk_alloc ?_ _));refine blk_far ?_ NB526_528.out _;(with_reducible repeat (first|refine blk_drewN ?_ _|refine blk_drew ?_|refine blk_alloc ?_ _));refine blk_far ?_ NB526_527.out _;(with_reducible repeat (first|refine blk_drewN ?_ _|refine blk_drew ?_|refine blk_alloc ?_ _));refine blk_far ?_ NB526_527.out _;(with_reducible repeat (first|refine blk_drewN ?_ _|refine blk_drew ?_|refine blk_alloc ?_ _));refine blk_put (cs:=#[.bool t511,.slice none 0 0]) ?_ 1 _ rfl;(with_reducible repeat (first|refine blk_drewN ?_ _|refine blk_drew ?_|refine blk_alloc ?_ _));refine blk_put (cs:=#[.bool false,.slice none 0 0]) ?_ 0 _ rfl;(with_reducible repeat (first|refine blk_drewN ?_ _|refine blk_drew ?_|refine blk_alloc ?_ _));exact BK526.out) hb);have n14_:=Aside0.mk (blk_below (g:=gb527) (o:=.cells #[.bool t515,.slice Ao108 t516.length co108] 26 (0,0)) (by (with_reducible repeat (first|refine blk_drewN ?_ _|refine blk_drew ?_|refine blk_alloc ?_ _));refine blk_far ?_ NB527_528.out _;(with_reducible repeat (first|refine blk_drewN ?_ _|refine blk_drew ?_|refine blk_alloc ?_ _));refine blk_far ?_ NB527_528.out _;(with_reducible repeat (first|refine blk_drewN ?_ _|refine blk_drew ?_|refine blk_alloc ?_ _));refine blk_put (cs:=#[.bool t515,.slice none 0 0]) ?_ 1 _ rfl;(with_reducible repeat (first|refine blk_drewN ?_ _|refine blk_drew ?_|refine blk_alloc ?_ _));refine blk_put (cs:=#[.bool false,.slice none 0 0]) ?_ 0 _ rfl;(with_reducible repeat (first|refine blk_drewN ?_ _|refine blk_drew ?_|refine blk_alloc ?_ _));refine blk_far ?_ NB527_526.out _;(with_reducible repeat (first|refine blk_drewN ?_ _|refine blk_drew ?_|refine blk_alloc ?_ _));refine blk_far ?_ NB527_526.out _;(with_reducible repeat (first|refine blk_drewN ?_ _|refine blk_drew ?_|refine blk_alloc ?_ _));exact BK527.out) hb);have n15_:=Aside0.mk (blk_below (g:=gb528) (o:=.cells #[.bool t519,.slice Ao110 t520.length co110] 26 (0,0)) (by (with_reducible repeat (first|refine blk_drewN ?_ _|refine blk_drew ?_|refine blk_alloc ?_ _));refine blk_put (cs:=#[.bool t519,.slice none 0 0]) ?_ 1 _ rfl;(with_reducible repeat (first|refine blk_drewN ?_ _|refine blk_drew ?_|refine blk_alloc ?_ _));refine blk_put (cs:=#[.bool false,.slice none 0 0]) ?_ 0 _ rfl;(with_reducible repeat (first|refine blk_drewN ?_ _|refine blk_drew ?_|refine blk_alloc ?_ _));refine blk_far ?_ NB528_527.out _;(with_reducible repeat (first|refine blk_drewN ?_ _|refine blk_drew ?_|refine blk_alloc ?_ _));refine blk_far ?_ NB528_527.out _;(with_reducible repeat (first|refine blk_drewN ?_ _|refine blk_drew ?_|refine blk_alloc ?_ _));refine blk_far ?_ NB528_526.out _;(with_reducible repeat (first|refine blk_drewN ?_ _|refine blk_drew ?_|refine blk_alloc ?_ _));refine blk_far ?_ NB528_526.out _;(with_reducible repeat (first|refine blk_drewN ?_ _|refine blk_drew ?_|refine blk_alloc ?_ _));exact BK528.out) hb);have n16_:=Aside0.mk (below_step (by repeat (first|(with_reducible first|exact HB.out|apply bA_|apply bN_|apply bD_|refine below_set ?_ GE526.out|refine below_set ?_ GE527.out|refine below_set ?_ GE528.out)|exact HB.out)) hb);clear HO_7;clear HO_8;clear HO_9;clear HO_10;clear HO_11;clear HO498;clear HO502;clear HO506;clear HO510;clear HO514;clear HO518;clear HO522;clear HO525;clear BK526;clear BK527;clear BK528;clear HB;have HO_7:=n0_;have HO_8:=n1_;have HO_9:=n2_;have HO_10:=n3_;have HO_11:=n4_;have HO498:=n5_;have HO502:=n6_;have HO506:=n7_;have HO510:=n8_;have HO514:=n9_;have HO518:=n10_;have HO522:=n11_;have HO525:=n12_;have BK526:=n13_;have BK527:=n14_;have BK528:=n15_;have HB:=n16_;clear n0_ n1_ n2_ n3_ n4_ n5_ n6_ n7_ n8_ n9_ n10_ n11_ n12_ n13_ n14_ n15_ n16_;(try clear hb);(try clear hb2);(try clear hk);(try clear hi);obtain ⟨Ao112,co112,eo112⟩:=Kd.N_slice HO525.out;subst eo112;have p536:0≤(0:Int):=(by omega);have q536:0 < (t523.length:Int):=of_decide_eq_true (by first|(with_reducible assumption)|assumption);obtain ⟨ad536,A536_0,c536_0,e536,hx536_0,hx536_1,hl536_0,hi536_0⟩:=at_T38 (Kd.N_reads' HO525.out).2.2 0 p536 q536;cases e536;obtain ⟨ce536,hce536,hMe536,hcc536⟩:=Kd.N_get HO525.out z38 0 p536 (by first|exact q536|exact of_decide_eq_true (by first|(with_reducible assumption)|assumption)|(have e_:=(Kd.N_reads' HO525.out).1;omega));obtain ⟨ua536_0,uc536_0,rfl,ul536_0,ge536_0⟩:=k38_openF hMe536;have hv536_0:=hcc536 0 _ rfl;rw [Nat.add_zero] at hv536_0;replace hv536_0:=Option.some.inj (hv536_0.symm.trans hx536_0);injection hv536_0 with hva_ hvn_ hvc_;rw [hva_] at ge536_0;rw [hvc_] at ul536_0;have HL536_0:=Aside0.mk (show Kd.V Kd.string 9 _ w.heap.size _ _ ((rd_T38 t523 0).f0) from Kd.V_mk ul536_0 ge536_0);clear hva_ hvn_ hvc_ ge536_0 ul536_0;clear hcc536 hce536;have qi536:(0 < t523.length)=True:=eq_true (by omega);(try rw [show ((0:Int)).toNat=0 from rfl] at hx536_0);(try rw [show 0 * 2=0 from rfl] at hx536_0);(try rw [Addr.add_zero'] at hx536_0);(try rw [show ((0:Int)).toNat=0 from rfl] at hx536_1);(try rw [show 0 * 2=0 from rfl] at hx536_1);(try rw [Addr.add_zero'] at hx536_1);have HR536_0:=Aside0.mk hi536_0;have HC536_0:=Aside0.mk hl536_0;clear hi536_0 hl536_0;replace p536:=eq_true p536;replace q536:=eq_true q536;have p537:0≤(0:Int):=(by omega);have q537:0 < (t523.length:Int):=of_decide_eq_true (by first|(with_reducible assumption)|assumption);obtain ⟨ad537,A537_0,c537_0,e537,hx537_0,hx537_1,hl537_0,hi537_0⟩:=at_T38 (Kd.N_reads' HO525.out).2.2 0 p537 q537;obtain rfl:ad536=ad537:=(by injection e537);obtain ⟨ce537,hce537,hMe537,hcc537⟩:=Kd.N_get HO525.out z38 0 p537 (by first|exact q537|exact of_decide_eq_true (by first|(with_reducible assumption)|assumption)|(have e_:=(Kd.N_reads' HO525.out).1;omega));obtain ⟨ua537_0,uc537_0,rfl,ul537_0,ge537_0⟩:=k38_openF hMe537;have hv537_0:=hcc537 0 _ rfl;rw [Nat.add_zero] at hv537_0;replace hv537_0:=Option.some.inj (hv537_0.symm.trans hx537_0);injection hv537_0 with hva_ hvn_ hvc_;rw [hva_] at ge537_0;rw [hvc_] at ul537_0;have HL537_0:=Aside0.mk (show Kd.V Kd.string 9 _ w.heap.size _ _ ((rd_T38 t523 0).f0) from Kd.V_mk ul537_0 ge537_0);clear hva_ hvn_ hvc_ ge537_0 ul537_0;clear hcc537 hce537;have qi537:(0 < t523.length)=True:=eq_true (by omega);(try rw [show ((0:Int)).toNat=0 from rfl] at hx537_0);(try rw [show 0 * 2=0 from rfl] at hx537_0);(try rw [Addr.add_zero'] at hx537_0);(try rw [show ((0:Int)).toNat=0 from rfl] at hx537_1);(try rw [show 0 * 2=0 from rfl] at hx537_1);(try rw [Addr.add_zero'] at hx537_1);have HR537_0:=Aside0.mk hi537_0;have HC537_0:=Aside0.mk hl537_0;clear hi537_0 hl537_0;replace p537:=eq_true p537;replace q537:=eq_true q537;have ea_:=Option.some.inj (hx536_0.symm.trans hx537_0);injection ea_ with ea_ en_ ec_;subst ea_;subst ec_;clear en_;have p538:0≤(0:Int):=(by omega);have q538:0 < (t523.length:Int):=of_decide_eq_true (by first|(with_reducible assumption)|assumption);obtain ⟨ad538,A538_0,c538_0,e538,hx538_0,hx538_1,hl538_0,hi538_0⟩:=at_T38 (Kd.N_reads' HO525.out).2.2 0 p538 q538;obtain rfl:ad536=ad538:=(by injection e538);obtain ⟨ce538,hce538,hMe538,hcc538⟩:=Kd.N_get HO525.out z38 0 p538 (by first|exact q538|exact of_decide_eq_true (by first|(with_reducible assumption)|assumption)|(have e_:=(Kd.N_reads' HO525.out).1;omega));obtain ⟨ua538_0,uc538_0,rfl,ul538_0,ge538_0⟩:=k38_openF hMe538;have hv538_0:=hcc538 0 _ rfl;rw [Nat.add_zero] at hv538_0;replace hv538_0:=Option.some.inj (hv538_0.symm.trans hx538_0);injection hv538_0 with hva_ hvn_ hvc_;rw [hva_] at ge538_0;rw [hvc_] at ul538_0;have HL538_0:=Aside0.mk (show Kd.V Kd.string 9 _ w.heap.size _ _ ((rd_T38 t523 0).f0) from Kd.V_mk ul538_0 ge538_0);clear hva_ hvn_ hvc_ ge538_0 ul538_0;clear hcc538 hce538;have qi538:(0 < t523.length)=True:=eq_true (by omega);(try rw [show ((0:Int)).toNat=0 from rfl] at hx538_0);(try rw [show 0 * 2=0 from rfl] at hx538_0);(try rw [Addr.add_zero'] at hx538_0);(try rw [show ((0:Int)).toNat=0 from rfl] at hx538_1);(try rw [show 0 * 2=0 from rfl] at hx538_1);(try rw [Addr.add_zero'] at hx538_1);have HR538_0:=Aside0.mk hi538_0;have HC538_0:=Aside0.mk hl538_0;clear hi538_0 hl538_0;replace p538:=eq_true p538;replace q538:=eq_true q538;have ea_:=Option.some.inj (hx536_0.symm.trans hx538_0);injection ea_ with ea_ en_ ec_;subst ea_;subst ec_;clear en_;have p539:0≤(0:Int):=(by omega);have q539:0 < (((rd_T38 t523 0).f0).length:Int):=of_decide_eq_true (by first|(with_reducible assumption)|assumption);obtain ⟨ad539,e539,hx539_0⟩:=Kd.at_string (by repeat (first|(with_reducible exact HR538_0.out)|(with_reducible refine cA_ ?_ _)|(with_reducible refine cN_ ?_ _)|(with_reducible refine cD_ ?_)|exact HR538_0.out)) 0 p539 q539;cases e539;have qi539:(0 < ((rd_T38 t523 0).f0).length)=True:=eq_true (by omega);(try rw [show ((0:Int)).toNat=0 from rfl] at hx539_0);(try rw [Addr.add_zero'] at hx539_0);replace p539:=eq_true p539;replace q539:=eq_true q539;have hcz113_0:w111.cell? ⟨gb526,0,none⟩=some (.bool t511):=(blk_cell BK526.out 0).trans rfl;have hcz113_1:w111.cell? ⟨gb526,1,none⟩=some (.slice Ao105 t512.length co105):=(blk_cell BK526.out 1).trans rfl;have hfz113_0:=blk_frozen BK526.out 0;have hfz113_1:=blk_frozen BK526.out 1)|(go_at_call 19;(with_reducible refine (cadenceref2_Same.calls kj13 _ _ t512 _ _ y487 true _ ?side1 ?side2 ?side3 ?side4 A82.out).mono ?_);(case side1=>repeat (first|exact (Kd.V_reads' HO514.out).2.2|(with_reducible refine cA_ ?_ _)|(with_reducible refine cN_ ?_ _)|(with_reducible refine cD_ ?_)));(case side2=>exact (Kd.V_reads' HO514.out).2.1);(case side3=>repeat (first|exact (Kd.N_reads' HO_9.out).2.2|(with_reducible refine cA_ ?_ _)|(with_reducible refine cN_ ?_ _)|(with_reducible refine cD_ ?_)));(case side4=>exact (Kd.N_reads' HO_9.out).2.1);rintro e w114 ⟨rfl,hb⟩;have n0_:=Aside0.mk (Kd.N_below (by (with_reducible repeat (first|apply nA_|apply nN_|apply nD_));exact HO_7.out) hb);have n1_:=Aside0.mk (Kd.N_below (by (with_reducible repeat (first|apply nA_|apply nN_|apply nD_));exact HO_8.out) hb);have n2_:=Aside0.mk (Kd.N_below (by (with_reducible repeat (first|apply nA_|apply nN_|apply nD_));exact HO_9.out) hb);have n3_:=Aside0.mk (Kd.N_below (by (with_reducible repeat (first|apply nA_|apply nN_|apply nD_));exact HO_10.out) hb);have n4_:=Aside0.mk (Kd.N_below (by (with_reducible repeat (first|apply nA_|apply nN_|apply nD_));exact HO_11.out) hb);have n5_:=Aside0.mk (Kd.N_below (by (with_reducible repeat (first|apply nA_|apply nN_|apply nD_));exact HO498.out) hb);have n6_:=Aside0.mk (Kd.V_below (by (with_reducible repeat (first|apply vA_|apply vN_|apply vD_));exact HO502.out) hb);have n7_:=Aside0.mk (Kd.V_below (by (with_reducible repeat (first|apply vA_|apply vN_|apply vD_));exact HO506.out) hb);have n8_:=Aside0.mk (Kd.V_below (by (with_reducible repeat (first|apply vA_|apply vN_|apply vD_));exact HO510.out) hb);have n9_:=Aside0.mk (Kd.V_below (by (with_reducible repeat (first|apply vA_|apply vN_|apply vD_));exact HO514.out) hb);have n10_:=Aside0.mk (Kd.V_below (by (with_reducible repeat (first|apply vA_|apply vN_|apply vD_));exact HO518.out) hb);have n11_:=Aside0.mk (Kd.V_below (by (with_reducible repeat (first|apply vA_|apply vN_|apply vD_));exact HO522.out) hb);have n12_:=Aside0.mk (Kd.N_below (by (with_reducible repeat (first|apply nA_|apply nN_|apply nD_));exact HO525.out) hb);have n13_:=Aside0.mk (Kd.V_below (by (with_reducible repeat (first|apply vA_|apply vN_|apply vD_));exact HL536_0.out) hb);have n14_:=Aside0.mk (Kd.V_below (by (with_reducible repeat (first|apply vA_|apply vN_|apply vD_));exact HL537_0.out) hb);have n15_:=Aside0.mk (Kd.V_below (by (with_reducible repeat (first|apply vA_|apply vN_|apply vD_));exact HL538_0.out) hb);have n16_:=Aside0.mk (blk_below (g:=gb526) (o:=.cells #[.bool t511,.slice Ao105 t512.length co105] 26 (0,0)) (by (with_reducible repeat (first|refine blk_drewN ?_ _|refine blk_drew ?_|refine blk_alloc ?_ _));exact BK526.out) hb);have n17_:=Aside0.mk (blk_below (g:=gb527) (o:=.cells #[.bool t515,.slice Ao108 t516.length co108] 26 (0,0)) (by (with_reducible repeat (first|refine blk_drewN ?_ _|refine blk_drew ?_|refine blk_alloc ?_ _));exact BK527.out) hb);have n18_:=Aside0.mk (blk_below (g:=gb528) (o:=.cells #[.bool t519,.slice Ao110 t520.length co110] 26 (0,0)) (by (with_reducible repeat (first|refine blk_drewN ?_ _|refine blk_drew ?_|refine blk_alloc ?_ _));exact BK528.out) hb);have n19_:=Aside0.mk (Kd.C_below (by repeat (first|(with_reducible exact HR536_0.out)|(with_reducible refine cA_ ?_ _)|(with_reducible refine cN_ ?_ _)|(with_reducible refine cD_ ?_)|exact HR536_0.out)) hb);have n20_:=Aside0.mk (Kd.C_below (by repeat (first|(with_reducible exact HR537_0.out)|(with_reducible refine cA_ ?_ _)|(with_reducible refine cN_ ?_ _)|(with_reducible refine cD_ ?_)|exact HR537_0.out)) hb);have n21_:=Aside0.mk (Kd.C_below (by repeat (first|(with_reducible exact HR538_0.out)|(with_reducible refine cA_ ?_ _)|(with_reducible refine cN_ ?_ _)|(with_reducible refine cD_ ?_)|exact HR538_0.out)) hb);have n22_:=Aside0.mk (below_step (by repeat (first|(with_reducible first|exact HB.out|apply bA_|apply bN_|apply bD_|refine below_set ?_ GE526.out|refine below_set ?_ GE527.out|refine below_set ?_ GE528.out)|exact HB.out)) hb);clear HO_7;clear HO_8;clear HO_9;clear HO_10;clear HO_11;clear HO498;clear HO502;clear HO506;clear HO510;clear HO514;clear HO518;clear HO522;clear HO525;clear HL536_0;clear HL537_0;clear HL538_0;clear BK526;clear BK527;clear BK528;clear HR536_0;clear HR537_0;clear HR538_0;clear HB;have HO_7:=n0_;have HO_8:=n1_;have HO_9:=n2_;have HO_10:=n3_;have HO_11:=n4_;have HO498:=n5_;have HO502:=n6_;have HO506:=n7_;have HO510:=n8_;have HO514:=n9_;have HO518:=n10_;have HO522:=n11_;have HO525:=n12_;have HL536_0:=n13_;have HL537_0:=n14_;have HL538_0:=n15_;have BK526:=n16_;have BK527:=n17_;have BK528:=n18_;have HR536_0:=n19_;have HR537_0:=n20_;have HR538_0:=n21_;have HB:=n22_;clear n0_ n1_ n2_ n3_ n4_ n5_ n6_ n7_ n8_ n9_ n10_ n11_ n12_ n13_ n14_ n15_ n16_ n17_ n18_ n19_ n20_ n21_ n22_;(try clear hb);(try clear hb2);(try clear hk);(try clear hi);have hcz115_0:w114.cell? ⟨gb527,0,none⟩=some (.bool t515):=(blk_cell BK527.out 0).trans rfl;have hcz115_1:w114.cell? ⟨gb527,1,none⟩=some (.slice Ao108 t516.length co108):=(blk_cell BK527.out 1).trans rfl;have hfz115_0:=blk_frozen BK527.out 0;have hfz115_1:=blk_frozen BK527.out 1)|(go_at_call 19;(with_reducible refine (cadenceref2_Same.calls kj13 _ _ t516 _ _ x10_13 true _ ?side1 ?side2 ?side3 ?side4 A84.out).mono ?_);(case side1=>repeat (first|exact (Kd.V_reads' HO518.out).2.2|(with_reducible refine cA_ ?_ _)|(with_reducible refine cN_ ?_ _)|(with_reducible refine cD_ ?_)));(case side2=>exact (Kd.V_reads' HO518.out).2.1);(case side3=>repeat (first|exact (Kd.N_reads' HO_10.out).2.2|(with_reducible refine cA_ ?_ _)|(with_reducible refine cN_ ?_ _)|(with_reducible refine cD_ ?_)));(case side4=>exact (Kd.N_reads' HO_10.out).2.1);rintro e w116 ⟨rfl,hb⟩;have n0_:=Aside0.mk (Kd.N_below (by (with_reducible repeat (first|apply nA_|apply nN_|apply nD_));exact HO_7.out) hb);have n1_:=Aside0.mk (Kd.N_below (by (with_reducible repeat (first|apply nA_|apply nN_|apply nD_));exact HO_8.out) hb);have n2_:=Aside0.mk (Kd.N_below (by (with_reducible repeat (first|apply nA_|apply nN_|apply nD_));exact HO_9.out) hb);have n3_:=Aside0.mk (Kd.N_below (by (with_reducible repeat (first|apply nA_|apply nN_|apply nD_));exact HO_10.out) hb);have n4_:=Aside0.mk (Kd.N_below (by (with_reducible repeat (first|apply nA_|apply nN_|apply nD_));exact HO_11.out) hb);have n5_:=Aside0.mk (Kd.N_below (by (with_reducible repeat (first|apply nA_|apply nN_|apply nD_));exact HO498.out) hb);have n6_:=Aside0.mk (Kd.V_below (by (with_reducible repeat (first|apply vA_|apply vN_|apply vD_));exact HO502.out) hb);have n7_:=Aside0.mk (Kd.V_below (by (with_reducible repeat (first|apply vA_|apply vN_|apply vD_));exact HO506.out) hb);have n8_:=Aside0.mk (Kd.V_below (by (with_reducible repeat (first|apply vA_|apply vN_|apply vD_));exact HO510.out) hb);have n9_:=Aside0.mk (Kd.V_below (by (with_reducible repeat (first|apply vA_|apply vN_|apply vD_));exact HO514.out) hb);have n10_:=Aside0.mk (Kd.V_below (by (with_reducible repeat (first|apply vA_|apply vN_|apply vD_));exact HO518.out) hb);have n11_:=Aside0.mk (Kd.V_below (by (with_reducible repeat (first|apply vA_|apply vN_|apply vD_));exact HO522.out) hb);have n12_:=Aside0.mk (Kd.N_below (by (with_reducible repeat (first|apply nA_|apply nN_|apply nD_));exact HO525.out) hb);have n13_:=Aside0.mk (Kd.V_below (by (with_reducible repeat (first|apply vA_|apply vN_|apply vD_));exact HL536_0.out) hb);have n14_:=Aside0.mk (Kd.V_below (by (with_reducible repeat (first|apply vA_|apply vN_|apply vD_));exact HL537_0.out) hb);have n15_:=Aside0.mk (Kd.V_below (by (with_reducible repeat (first|apply vA_|apply vN_|apply vD_));exact HL538_0.out) hb);have n16_:=Aside0.mk (blk_below (g:=gb526) (o:=.cells #[.bool t511,.slice Ao105 t512.length co105] 26 (0,0)) (by (with_reducible repeat (first|refine blk_drewN ?_ _|refine blk_drew ?_|refine blk_alloc ?_ _));exact BK526.out) hb);have n17_:=Aside0.mk (blk_below (g:=gb527) (o:=.cells #[.bool t515,.slice Ao108 t516.length co108] 26 (0,0)) (by (with_reducible repeat (first|refine blk_drewN ?_ _|refine blk_drew ?_|refine blk_alloc ?_ _));exact BK527.out) hb);have n18_:=Aside0.mk (blk_below (g:=gb528) (o:=.cells #[.bool t519,.slice Ao110 t520.length co110] 26 (0,0)) (by (with_reducible repeat (first|refine blk_drewN ?_ _|refine blk_drew ?_|refine blk_alloc ?_ _));exact BK528.out) hb);have n19_:=Aside0.mk (Kd.C_below (by repeat (first|(with_reducible exact HR536_0.out)|(with_reducible refine cA_ ?_ _)|(with_reducible refine cN_ ?_ _)|(with_reducible refine cD_ ?_)|exact HR536_0.out)) hb);have n20_:=Aside0.mk (Kd.C_below (by repeat (first|(with_reducible exact HR537_0.out)|(with_reducible refine cA_ ?_ _)|(with_reducible refine cN_ ?_ _)|(with_reducible refine cD_ ?_)|exact HR537_0.out)) hb);have n21_:=Aside0.mk (Kd.C_below (by repeat (first|(with_reducible exact HR538_0.out)|(with_reducible refine cA_ ?_ _)|(with_reducible refine cN_ ?_ _)|(with_reducible refine cD_ ?_)|exact HR538_0.out)) hb);have n22_:=Aside0.mk (below_step (by repeat (first|(with_reducible first|exact HB.out|apply bA_|apply bN_|apply bD_|refine below_set ?_ GE526.out|refine below_set ?_ GE527.out|refine below_set ?_ GE528.out)|exact HB.out)) hb);clear HO_7;clear HO_8;clear HO_9;clear HO_10;clear HO_11;clear HO498;clear HO502;clear HO506;clear HO510;clear HO514;clear HO518;clear HO522;clear HO525;clear HL536_0;clear HL537_0;clear HL538_0;clear BK526;clear BK527;clear BK528;clear HR536_0;clear HR537_0;clear HR538_0;clear HB;have HO_7:=n0_;have HO_8:=n1_;have HO_9:=n2_;have HO_10:=n3_;have HO_11:=n4_;have HO498:=n5_;have HO502:=n6_;have HO506:=n7_;have HO510:=n8_;have HO514:=n9_;have HO518:=n10_;have HO522:=n11_;have HO525:=n12_;have HL536_0:=n13_;have HL537_0:=n14_;have HL538_0:=n15_;have BK526:=n16_;have BK527:=n17_;have BK528:=n18_;have HR536_0:=n19_;have HR537_0:=n20_;have HR538_0:=n21_;have HB:=n22_;clear n0_ n1_ n2_ n3_ n4_ n5_ n6_ n7_ n8_ n9_ n10_ n11_ n12_ n13_ n14_ n15_ n16_ n17_ n18_ n19_ n20_ n21_ n22_;(try clear hb);(try clear hb2);(try clear hk);(try clear hi);have hcz117_0:w116.cell? ⟨gb528,0,none⟩=some (.bool t519):=(blk_cell BK528.out 0).trans rfl;have hcz117_1:w116.cell? ⟨gb528,1,none⟩=some (.slice Ao110 t520.length co110):=(blk_cell BK528.out 1).trans rfl;have hfz117_0:=blk_frozen BK528.out 0;have hfz117_1:=blk_frozen BK528.out 1)|(go_at_call 19;(with_reducible refine (cadenceref2_Same.calls kj13 _ _ t520 _ _ x11_13 t542 _ ?side1 ?side2 ?side3 ?side4 A86.out).mono ?_);(case side1=>repeat (first|exact (Kd.V_reads' HO522.out).2.2|(with_reducible refine cA_ ?_ _)|(with_reducible refine cN_ ?_ _)|(with_reducible refine cD_ ?_)));(case side2=>exact (Kd.V_reads' HO522.out).2.1);(case side3=>repeat (first|exact (Kd.N_reads' HO_11.out).2.2|(with_reducible refine cA_ ?_ _)|(with_reducible refine cN_ ?_ _)|(with_reducible refine cD_ ?_)));(case side4=>exact (Kd.N_reads' HO_11.out).2.1);rintro e w118 ⟨rfl,hb⟩;have n0_:=Aside0.mk (Kd.N_below (by (with_reducible repeat (first|apply nA_|apply nN_|apply nD_));exact HO_7.out) hb);have n1_:=Aside0.mk (Kd.N_below (by (with_reducible repeat (first|apply nA_|apply nN_|apply nD_));exact HO_8.out) hb);have n2_:=Aside0.mk (Kd.N_below (by (with_reducible repeat (first|apply nA_|apply nN_|apply nD_));exact HO_9.out) hb);have n3_:=Aside0.mk (Kd.N_below (by (with_reducible repeat (first|apply nA_|apply nN_|apply nD_));exact HO_10.out) hb);have n4_:=Aside0.mk (Kd.N_below (by (with_reducible repeat (first|apply nA_|apply nN_|apply nD_));exact HO_11.out) hb);have n5_:=Aside0.mk (Kd.N_below (by (with_reducible repeat (first|apply nA_|apply nN_|apply nD_));exact HO498.out) hb);have n6_:=Aside0.mk (Kd.V_below (by (with_reducible repeat (first|apply vA_|apply vN_|apply vD_));exact HO502.out) hb);have n7_:=Aside0.mk (Kd.V_below (by (with_reducible repeat (first|apply vA_|apply vN_|apply vD_));exact HO506.out) hb);have n8_:=Aside0.mk (Kd.V_below (by (with_reducible repeat (first|apply vA_|apply vN_|apply vD_));exact HO510.out) hb);have n9_:=Aside0.mk (Kd.V_below (by (with_reducible repeat (first|apply vA_|apply vN_|apply vD_));exact HO514.out) hb);have n10_:=Aside0.mk (Kd.V_below (by (with_reducible repeat (first|apply vA_|apply vN_|apply vD_));exact HO518.out) hb);have n11_:=Aside0.mk (Kd.V_below (by (with_reducible repeat (first|apply vA_|apply vN_|apply vD_));exact HO522.out) hb);have n12_:=Aside0.mk (Kd.N_below (by (with_reducible repeat (first|apply nA_|apply nN_|apply nD_));exact HO525.out) hb);have n13_:=Aside0.mk (Kd.V_below (by (with_reducible repeat (first|apply vA_|apply vN_|apply vD_));exact HL536_0.out) hb);have n14_:=Aside0.mk (Kd.V_below (by (with_reducible repeat (first|apply vA_|apply vN_|apply vD_));exact HL537_0.out) hb);have n15_:=Aside0.mk (Kd.V_below (by (with_reducible repeat (first|apply vA_|apply vN_|apply vD_));exact HL538_0.out) hb);have n16_:=Aside0.mk (blk_below (g:=gb526) (o:=.cells #[.bool t511,.slice Ao105 t512.length co105] 26 (0,0)) (by (with_reducible repeat (first|refine blk_drewN ?_ _|refine blk_drew ?_|refine blk_alloc ?_ _));exact BK526.out) hb);have n17_:=Aside0.mk (blk_below (g:=gb527) (o:=.cells #[.bool t515,.slice Ao108 t516.length co108] 26 (0,0)) (by (with_reducible repeat (first|refine blk_drewN ?_ _|refine blk_drew ?_|refine blk_alloc ?_ _));exact BK527.out) hb);have n18_:=Aside0.mk (blk_below (g:=gb528) (o:=.cells #[.bool t519,.slice Ao110 t520.length co110] 26 (0,0)) (by (with_reducible repeat (first|refine blk_drewN ?_ _|refine blk_drew ?_|refine blk_alloc ?_ _));exact BK528.out) hb);have n19_:=Aside0.mk (Kd.C_below (by repeat (first|(with_reducible exact HR536_0.out)|(with_reducible refine cA_ ?_ _)|(with_reducible refine cN_ ?_ _)|(with_reducible refine cD_ ?_)|exact HR536_0.out)) hb);have n20_:=Aside0.mk (Kd.C_below (by repeat (first|(with_reducible exact HR537_0.out)|(with_reducible refine cA_ ?_ _)|(with_reducible refine cN_ ?_ _)|(with_reducible refine cD_ ?_)|exact HR537_0.out)) hb);have n21_:=Aside0.mk (Kd.C_below (by repeat (first|(with_reducible exact HR538_0.out)|(with_reducible refine cA_ ?_ _)|(with_reducible refine cN_ ?_ _)|(with_reducible refine cD_ ?_)|exact HR538_0.out)) hb);have n22_:=Aside0.mk (below_step (by repeat (first|(with_reducible first|exact HB.out|apply bA_|apply bN_|apply bD_|refine below_set ?_ GE526.out|refine below_set ?_ GE527.out|refine below_set ?_ GE528.out)|exact HB.out)) hb);clear HO_7;clear HO_8;clear HO_9;clear HO_10;clear HO_11;clear HO498;clear HO502;clear HO506;clear HO510;clear HO514;clear HO518;clear HO522;clear HO525;clear HL536_0;clear HL537_0;clear HL538_0;clear BK526;clear BK527;clear BK528;clear HR536_0;clear HR537_0;clear HR538_0;clear HB;have HO_7:=n0_;have HO_8:=n1_;have HO_9:=n2_;have HO_10:=n3_;have HO_11:=n4_;have HO498:=n5_;have HO502:=n6_;have HO506:=n7_;have HO510:=n8_;have HO514:=n9_;have HO518:=n10_;have HO522:=n11_;have HO525:=n12_;have HL536_0:=n13_;have HL537_0:=n14_;have HL538_0:=n15_;have BK526:=n16_;have BK527:=n17_;have BK528:=n18_;have HR536_0:=n19_;have HR537_0:=n20_;have HR538_0:=n21_;have HB:=n22_;clear n0_ n1_ n2_ n3_ n4_ n5_ n6_ n7_ n8_ n9_ n10_ n11_ n12_ n13_ n14_ n15_ n16_ n17_ n18_ n19_ n20_ n21_ n22_;(try clear hb);(try clear hb2);(try clear hk);(try clear hi)))
                go_ret
                exact ⟨by first|rfl|(simp [errW_none,errW_some] <;> rfl)|(simp [*,errW_none,errW_some] <;> rfl),by repeat (first|(with_reducible first|exact HB.out|apply bA_|apply bN_|apply bD_|refine below_set ?_ GE526.out|refine below_set ?_ GE527.out|refine below_set ?_ GE528.out)|exact HB.out)⟩
               ·replace c85:=Bool.eq_false_iff.mpr c85
                subst c85
                have H1:(none)=some r:=by rw [if_neg (show ¬ (false=true) by decide)] at H;exact H
                clear H
                have H:=H1
                clear H1
                exact absurd H (by simp)
              ·replace c83:=Bool.eq_false_iff.mpr c83
               subst c83
               have H1:(none)=some r:=by rw [if_neg (show ¬ (false=true) by decide)] at H;exact H
               clear H
               have H:=H1
               clear H1
               exact absurd H (by simp)
             ·rw [if_neg c81] at H
              exact absurd H (by simp)
            ·rw [if_neg c80] at H
             exact absurd H (by simp)
           ·rw [if_neg c79] at H
            exact absurd H (by simp)
          ·rw [if_neg c78] at H
           exact absurd H (by simp)
         ·rw [if_neg c77] at H
          exact absurd H (by simp)
        ·rw [if_neg c76] at H
         exact absurd H (by simp)
 ·replace c5:=Bool.eq_false_iff.mpr c5
  subst c5
  have H1:(none)=some r:=by rw [if_neg (show ¬ (false=true) by decide)] at H;exact H
  clear H
  have H:=H1
  clear H1
  exact absurd H (by simp)
end Go.Proofs.Ytainbaehfdhmbaa.PX
set_option linter.unusedVariables false
set_option linter.unusedSimpArgs false
namespace Go.Proofs.Ytainbaehfdhmbaa.PX
open Go.RowKit Go.Proofs.YtainbaehfdhmbaaW.PrintWords Go.Proofs.YtainbaehfdhmbaaW.PrintLast Go.Proofs.YtainbaehfdhmbaaW.PrintMore Go.Proofs.Ytainbaehfdhmbaa
theorem names_eq {ts : List Tr} {ns : List ByteArray} (h : ns.Pairwise fun x y => tl x < tl y) (hm : ∀ n, n ∈ ns ↔ n ∈ namesOf ts) : namesOf ts = ns := by
  have h1 : ((namesOf ts).map tl) = ns.map tl := by
    refine sorted_ext (List.pairwise_map.2 (names_sorted ts)) (List.pairwise_map.2 h) (fun s => ?_)
    rw [List.mem_map, List.mem_map]
    constructor
    · rintro ⟨n, hn, rfl⟩
      exact ⟨n, (hm n).2 hn, rfl⟩
    · rintro ⟨n, hn, rfl⟩
      exact ⟨n, (hm n).1 hn, rfl⟩
  have h2 := congrArg (List.map ba) h1
  rwa [map_ba_tl, map_ba_tl] at h2
abbrev nK : ByteArray := ⟨#[107]⟩
abbrev nZ : ByteArray := ⟨#[122]⟩
def kz (t : Tr) : Tr := [⟨nK, t⟩, ⟨nZ, []⟩]
def onlyZ : Tr := [⟨nZ, []⟩]
theorem nKZ : nK ≠ nZ := by intro h; injection h with h; revert h; decide
theorem kz_sorted (t : Tr) : Sorted (kz t) := by
  unfold kz Sorted
  rw [List.pairwise_cons]
  refine ⟨fun x hx => ?_, List.pairwise_singleton _ _⟩
  rw [List.mem_singleton] at hx
  subst hx
  show ([107] : Str) < [122]
  decide
theorem z_sorted : Sorted onlyZ := List.pairwise_singleton _ _
theorem kid_kzK (t : Tr) : kid (kz t) nK = some t := kid_mem (kz_sorted t) (z := ⟨nK, t⟩) (List.mem_cons_self ..)
theorem kid_kzZ (t : Tr) : kid (kz t) nZ = some [] := kid_mem (kz_sorted t) (z := ⟨nZ, []⟩) (List.mem_cons_of_mem _ (List.mem_cons_self ..))
theorem kid_zZ : kid onlyZ nZ = some [] := kid_mem z_sorted (z := ⟨nZ, []⟩) (List.mem_cons_self ..)
theorem kid_zK : kid onlyZ nK = none := by
  cases e : kid onlyZ nK with
  | none => rfl
  | some x =>
    have := mem_kid e
    rw [onlyZ, List.mem_singleton] at this
    injection this with h
    exact absurd h nKZ
theorem kid_kz_in {t : Tr} {n : ByteArray} (h : (kid (kz t) n).isSome = true) : n = nK ∨ n = nZ := by
  obtain ⟨x, e⟩ := Option.isSome_iff_exists.1 h
  have := mem_kid e
  rw [kz, List.mem_cons, List.mem_singleton] at this
  rcases this with h | h <;> injection h with h
  · exact .inl h
  · exact .inr h
theorem kid_z_in {n : ByteArray} (h : (kid onlyZ n).isSome = true) : n = nZ := by
  obtain ⟨x, e⟩ := Option.isSome_iff_exists.1 h
  have := mem_kid e
  rw [onlyZ, List.mem_singleton] at this
  injection this
theorem kz_ok {d : Nat} {t : Tr} (h : Ok 10 d t) : Ok 10 (d + 1) (kz t) := by
  refine ⟨by show 2 ≤ 10; omega, kz_sorted t, fun x hx => ?_⟩
  rw [kz, List.mem_cons, List.mem_singleton] at hx
  rcases hx with rfl | rfl
  · exact h
  · exact Ok.nil _ _
theorem z_ok {d : Nat} : Ok 10 (d + 1) onlyZ := by
  refine ⟨by show 1 ≤ 10; omega, z_sorted, fun x hx => ?_⟩
  rw [onlyZ, List.mem_singleton] at hx
  subst hx
  exact Ok.nil _ _
theorem kz_ne {t u : Tr} (h : t ≠ u) : kz t ≠ kz u := fun e => by
  unfold kz at e
  injection e with e1
  injection e1 with _ e2
  exact h e2
theorem kz_z (t : Tr) : kz t ≠ onlyZ := fun e => by
  have := congrArg List.length e
  revert this
  show ¬ (2 : Nat) = 1
  omega
theorem nKZ_sorted : [nK, nZ].Pairwise fun x y => tl x < tl y := by
  rw [List.pairwise_cons]
  refine ⟨fun x hx => ?_, List.pairwise_singleton _ _⟩
  rw [List.mem_singleton] at hx
  subst hx
  show ([107] : Str) < [122]
  decide
theorem gone_names1 (t u : Tr) : namesOf [kz t, onlyZ, kz u] = [nK, nZ] := names_eq nKZ_sorted (fun n => by
  rw [mem_names3 (kz_sorted t) z_sorted (kz_sorted u), List.mem_cons, List.mem_singleton]
  constructor
  · rintro (rfl | rfl)
    · exact .inl (by rw [kid_kzK]; rfl)
    · exact .inl (by rw [kid_kzZ]; rfl)
  · rintro (h | h | h)
    · exact kid_kz_in h
    · exact .inr (kid_z_in h)
    · exact kid_kz_in h)
theorem gone_names2 (t u : Tr) : namesOf [kz t, kz u, onlyZ] = [nK, nZ] := names_eq nKZ_sorted (fun n => by
  rw [mem_names3 (kz_sorted t) (kz_sorted u) z_sorted, List.mem_cons, List.mem_singleton]
  constructor
  · rintro (rfl | rfl)
    · exact .inl (by rw [kid_kzK]; rfl)
    · exact .inl (by rw [kid_kzZ]; rfl)
  · rintro (h | h | h)
    · exact kid_kz_in h
    · exact kid_kz_in h
    · exact .inr (kid_z_in h))
theorem kidO_of {b : Bool} {t : Tr} {n : ByteArray} {x : Tr} (h : kid t n = some x) : kidO (b, t) n = (true, x) := by unfold kidO; simp only [h]; rfl
theorem kidO_no {b : Bool} {t : Tr} {n : ByteArray} (h : kid t n = none) : kidO (b, t) n = (false, []) := by unfold kidO; simp only [h]; rfl
theorem gone_right {t u : Tr} (h : t ≠ u) : mergeM WIDE 5 0 [] (true, kz t) (true, onlyZ) (true, kz u) = (((true, kz t), (true, onlyZ), (true, kz u)), [⟨[nK], 1⟩]) := by
  rw [mergeM_edges WIDE 4 0 [] (fun e => kz_z u (Prod.mk.inj e).2.symm) (fun e => kz_ne h (Prod.mk.inj e).2.symm) (fun e => kz_z t (Prod.mk.inj e).2.symm) rfl rfl, edges_row, if_pos (by rw [wide_level, wide_level]; rfl)]
  have hK : edgeM WIDE 4 0 [] (true, kz t) (true, onlyZ) (true, kz u) nK = (((true, t), (false, []), (true, u)), [⟨[nK], 1⟩]) := by
    unfold edgeM
    rw [wide_to, kidO_of (kid_kzK t), kidO_of (kid_kzK u), kidO_no kid_zK, mergeM_gone _ _ _ _ (fun e => by cases e) (fun e => h (Prod.mk.inj e).2.symm) (fun e => by cases e) rfl]
    rfl
  have hZ : edgeM WIDE 4 0 [] (true, kz t) (true, onlyZ) (true, kz u) nZ = (((true, []), (true, []), (true, [])), []) := by
    unfold edgeM
    rw [wide_to, kidO_of (kid_kzZ t), kidO_of (kid_kzZ u), kidO_of kid_zZ, mergeM_ab]
  rw [gone_names1]
  simp only [rowM, List.flatMap_cons, List.flatMap_nil, hK, hZ]
  rfl
theorem gone_left {t u : Tr} (h : t ≠ u) : mergeM WIDE 5 0 [] (true, kz t) (true, kz u) (true, onlyZ) = (((true, kz t), (true, kz u), (true, onlyZ)), [⟨[nK], 1⟩]) := by
  rw [mergeM_edges WIDE 4 0 [] (fun e => kz_z u (Prod.mk.inj e).2) (fun e => kz_z t (Prod.mk.inj e).2.symm) (fun e => kz_ne h (Prod.mk.inj e).2.symm) rfl rfl, edges_row, if_pos (by rw [wide_level, wide_level]; rfl)]
  have hK : edgeM WIDE 4 0 [] (true, kz t) (true, kz u) (true, onlyZ) nK = (((true, t), (true, u), (false, [])), [⟨[nK], 1⟩]) := by
    unfold edgeM
    rw [wide_to, kidO_of (kid_kzK t), kidO_of (kid_kzK u), kidO_no kid_zK, mergeM_gone _ _ _ _ (fun e => by cases e) (fun e => by cases e) (fun e => h (Prod.mk.inj e).2.symm) rfl]
    rfl
  have hZ : edgeM WIDE 4 0 [] (true, kz t) (true, kz u) (true, onlyZ) nZ = (((true, []), (true, []), (true, [])), []) := by
    unfold edgeM
    rw [wide_to, kidO_of (kid_kzZ t), kidO_of (kid_kzZ u), kidO_of kid_zZ, mergeM_ab]
  rw [gone_names2]
  simp only [rowM, List.flatMap_cons, List.flatMap_nil, hK, hZ]
  rfl
theorem gone_j1 {t u x y : Tr} (ht : Ok 4 3 t) (hu : Ok 4 3 u) (hxy : (x = onlyZ ∧ y = kz u) ∨ (x = kz u ∧ y = onlyZ)) : Ev (fun k => cadencelaw12_MergeGone.j1 k t u (kz t) x y) true := by
  have ht' := ht.wide (show 4 ≤ 10 by omega)
  have hu' := hu.wide (show 4 ≤ 10 by omega)
  have ot : Ok 10 4 (kz t) := kz_ok ht'
  have ou : Ok 10 4 (kz u) := kz_ok hu'
  have oz : Ok 10 4 onlyZ := z_ok
  have ox : Ok 10 4 x := by rcases hxy with ⟨rfl, rfl⟩ | ⟨rfl, rfl⟩ <;> assumption
  have oy : Ok 10 4 y := by rcases hxy with ⟨rfl, rfl⟩ | ⟨rfl, rfl⟩ <;> assumption
  obtain ⟨K0, s0⟩ := same_ev (W := 10) (by omega) ht' hu'
  by_cases h : t = u
  · have hm : mergeM WIDE 5 0 [] (true, kz t) (true, x) (true, y) = (((true, onlyZ), (true, onlyZ), (true, onlyZ)), []) := by
      subst h
      rcases hxy with ⟨rfl, rfl⟩ | ⟨rfl, rfl⟩
      · exact mergeM_bo ..
      · exact mergeM_ao ..
    have hf := merge_f wide_ok (ook ot (by omega)) (ook ox (by omega)) (ook oy (by omega)) hm
    simp only at hf
    obtain ⟨K1, s1⟩ := same_ev (W := 10) (by omega) oz oz
    refine ⟨K0 + K1 + 1, fun k hk => ?_⟩
    obtain ⟨k, rfl⟩ : ∃ m, k = m + 1 := ⟨k - 1, by omega⟩
    replace s0 := s0 k (by omega)
    replace s1 := s1 k (by omega)
    simp only [decide_eq_true h] at s0
    simp only [decide_true] at s1
    have s1' : cadenceref2_Same.f k onlyZ [(⟨nZ, []⟩ : Edge)] = some true := s1
    simp only [cadencelaw12_MergeGone.j1, cadencelaw12_some.f, wide_f, Option.bind_some]
    rw [hf, Option.bind_some, s0, Option.bind_some, if_pos rfl]
    simp only
    rw [if_pos (show ((([] : List Cf).length : Nat) : Int) = 0 from rfl), s1', Option.bind_some, if_pos rfl, s1, Option.bind_some, if_pos rfl]
    rfl
  · have hm : mergeM WIDE 5 0 [] (true, kz t) (true, x) (true, y) = (((true, kz t), (true, x), (true, y)), [⟨[nK], 1⟩]) := by
      rcases hxy with ⟨rfl, rfl⟩ | ⟨rfl, rfl⟩
      · exact gone_right h
      · exact gone_left h
    have hf := merge_f wide_ok (ook ot (by omega)) (ook ox (by omega)) (ook oy (by omega)) hm
    simp only at hf
    obtain ⟨K1, s1⟩ := same_ev (W := 10) (by omega) ot ot
    obtain ⟨K2, s2⟩ := same_ev (W := 10) (by omega) ox ox
    obtain ⟨K3, s3⟩ := same_ev (W := 10) (by omega) oy oy
    refine ⟨K0 + K1 + K2 + K3 + 1, fun k hk => ?_⟩
    obtain ⟨k, rfl⟩ : ∃ m, k = m + 1 := ⟨k - 1, by omega⟩
    replace s0 := s0 k (by omega)
    replace s1 := s1 k (by omega)
    replace s2 := s2 k (by omega)
    replace s3 := s3 k (by omega)
    simp only [decide_eq_false h] at s0
    simp only [decide_true] at s1 s2 s3
    simp only [cadencelaw12_MergeGone.j1, cadencelaw12_some.f, wide_f, Option.bind_some]
    rw [hf, Option.bind_some, s0, Option.bind_some, if_neg Bool.false_ne_true]
    simp only
    rw [if_pos (show (([(⟨[nK], 1⟩ : Cf)].length : Nat) : Int) = 1 from rfl), if_pos (show (0 : Int) < (([(⟨[nK], 1⟩ : Cf)].length : Nat) : Int) from by show (0 : Int) < 1; omega), if_pos (show (rd_T38 [(⟨[nK], 1⟩ : Cf)] 0).f1 = 1 from rfl), if_pos (show (((rd_T38 [(⟨[nK], 1⟩ : Cf)] 0).f0.length : Nat) : Int) = 1 from rfl), if_pos (show (0 : Int) < (((rd_T38 [(⟨[nK], 1⟩ : Cf)] 0).f0.length : Nat) : Int) from by show (0 : Int) < 1; omega), if_pos (show (rdOf ByteArray.empty (rd_T38 [(⟨[nK], 1⟩ : Cf)] 0).f0 0).toList = [107] from by rw [toList_tl]; rfl), s1, Option.bind_some, if_pos rfl, s2, Option.bind_some, if_pos rfl, s3]
    rfl
theorem mergeGone_ev (l m : List Raw) (left : Bool) (hl : RawOk l) (hm : RawOk m) : Ev (fun k => cadencelaw12_MergeGone.f k l m left) true := by
  obtain ⟨b0, f0, e0⟩ := few_ev hl
  obtain ⟨b1, f1, e1⟩ := few_ev hm
  have out : Ev (fun k => cadencelaw12_MergeGone.j0 k l m left true) true := by
    refine Ev.step (f := fun _ => some true) (fun k => ?_) (Ev.now _)
    simp only [cadencelaw12_MergeGone.j0]
    rw [if_pos trivial]
  refine Ev.congr (f := fun k => (cadencelaw2_Few.f k l).bind fun u => (if u = true then (cadencelaw2_Few.f k m).bind fun v => cadencelaw12_MergeGone.j0 k l m left (!v) else cadencelaw12_MergeGone.j0 k l m left true)) (fun k => by unfold cadencelaw12_MergeGone.f; rw [known12]; rfl) (Ev.bind e0 ?_)
  cases b0 with
  | false => exact Ev.congr (fun k => if_neg Bool.false_ne_true) out
  | true =>
    refine Ev.congr (fun k => if_pos rfl) (Ev.bind e1 ?_)
    cases b1 with
    | false => exact out
    | true =>
      clear out f0 f1 e0 e1
      obtain ⟨a, ha, ea⟩ := small_ev hl 4 3 (by omega) (by omega)
      obtain ⟨b, hb, eb⟩ := small_ev hm 4 3 (by omega) (by omega)
      have e : Ev (fun k => if left = true then cadencelaw12_MergeGone.j1 k a b (kz a) (kz b) onlyZ else cadencelaw12_MergeGone.j1 k a b (kz a) onlyZ (kz b)) true := by
        cases left with
        | true => exact Ev.congr (fun k => if_pos rfl) (gone_j1 ha hb (.inr ⟨rfl, rfl⟩))
        | false => exact Ev.congr (fun k => if_neg Bool.false_ne_true) (gone_j1 ha hb (.inl ⟨rfl, rfl⟩))
      refine Ev.step (f := fun k => (cadencelaw4_Small.f k l 4 3).bind fun t => (cadencelaw4_Small.f k m 4 3).bind fun u => if left = true then cadencelaw12_MergeGone.j1 k t u (kz t) (kz u) onlyZ else cadencelaw12_MergeGone.j1 k t u (kz t) onlyZ (kz u)) (fun k => ?_) (Ev.bind ea (Ev.bind eb e))
      show cadencelaw12_MergeGone.j0 (k + 1) l m left false = _
      simp only [cadencelaw12_MergeGone.j0, Option.bind_some]
      rw [if_neg Bool.false_ne_true]
      rfl
end Go.Proofs.Ytainbaehfdhmbaa.PX
