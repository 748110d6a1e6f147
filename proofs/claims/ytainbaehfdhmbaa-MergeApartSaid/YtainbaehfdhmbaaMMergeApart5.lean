/- Texts on the way to 'MergeApart', one behind the other (part 5). -/
import Derived.Test.YtainbaehfdhmbaaMMergeApart1
import Derived.Test.YtainbaehfdhmbaaMMergeApart4
namespace Go.Proofs.Ytainbaehfdhmbaa.PX
open Go.RowKit Go.Proofs.YtainbaehfdhmbaaW.PrintWords Go.Proofs.YtainbaehfdhmbaaW.PrintLast Go.Proofs.YtainbaehfdhmbaaW.PrintMore
attribute [local go_sem] max2_int min2_int max_two min_two max_three min_three max_four min_four   
set_option linter.unusedVariables false
set_option linter.unusedSimpArgs false
mutual
def cadencelaw4_Small.l0:Nat→List (S73)→Int→Int→List (S51)→Int→Option ((List (S51)))
 | 0,_,_,_,_,_=>none
 | k+1,x0,x1,x2,x7,x8=>if x8 < (x0.length:Int) then (if x8 < x1 then (cadencelaw4_Small.j1 k x0 x1 x2 x7 x8 (decide (x2 > 0))) else (cadencelaw4_Small.j1 k x0 x1 x2 x7 x8 false)) else (cadencelaw4_Small.j1 k x0 x1 x2 x7 x8 false)
def cadencelaw4_Small.j1:Nat→List (S73)→Int→Int→List (S51)→Int→Bool→Option ((List (S51)))
 | 0,_,_,_,_,_,_=>none
 | k+1,x0,x1,x2,x7,x8,x21=>if x21=true then ((some (([(⟨#[]⟩:ByteArray),(⟨#[97]⟩:ByteArray),(⟨#[98]⟩:ByteArray),(⟨#[99]⟩:ByteArray),(⟨#[100]⟩:ByteArray)]:List ByteArray):List ByteArray)).bind fun y298=>(if 0≤x8 then (if x8 < (x0.length:Int) then ((cadencelaw4_within.f (((rd_T73 x0 x8).f0).size:Int) 5).bind fun t302=>(if 0≤t302 then (if t302 < (y298.length:Int) then ((cadencelaw4_Small.f k ((rd_T73 x0 x8).f1) x1 (wrap64 (x2 - 1))).bind fun t305=>((cadenceref2_With.f k x7 (rdOf ByteArray.empty y298 t302) t305).bind fun t308=>(cadencelaw4_Small.l0 k x0 x1 x2 t308 (wrap64 (x8+1))))) else (none)) else (none))) else (none)) else (none))) else (some x7)
def cadencelaw4_Small.f:Nat→List (S73)→Int→Int→Option ((List (S51)))
 | 0,_,_,_=>none
 | k+1,l0,a1,a2=>cadencelaw4_Small.l0 k l0 a1 a2 ([]:List (S51)) 0
end
theorem cadencelaw4_Small.mono_l:∀ k,(∀ y0 y1 y2,LeO (cadencelaw4_Small.f k y0 y1 y2) (cadencelaw4_Small.f (k+1) y0 y1 y2))∧(∀ y0 y1 y2 y3 y4,LeO (cadencelaw4_Small.l0 k y0 y1 y2 y3 y4) (cadencelaw4_Small.l0 (k+1) y0 y1 y2 y3 y4))∧(∀ y0 y1 y2 y3 y4 y5,LeO (cadencelaw4_Small.j1 k y0 y1 y2 y3 y4 y5) (cadencelaw4_Small.j1 (k+1) y0 y1 y2 y3 y4 y5))
 | 0=>⟨fun _ _ _ r h=>by simp [cadencelaw4_Small.f] at h,fun _ _ _ _ _ r h=>by simp [cadencelaw4_Small.l0] at h,fun _ _ _ _ _ _ r h=>by simp [cadencelaw4_Small.j1] at h⟩
 | k+1=>by
  obtain ⟨ih0,ih1,ih2⟩:=cadencelaw4_Small.mono_l k
  refine ⟨?_,?_,?_⟩
  ·intro y0 y1 y2
   unfold cadencelaw4_Small.f
   repeat' first
   | (with_reducible exact ih0 _ _ _)
   | (with_reducible exact ih1 _ _ _ _ _)
   | (with_reducible exact ih2 _ _ _ _ _ _)
   | (with_reducible exact cadenceref2_With.mono _ _ _ _)
   | (with_reducible exact LeO.refl _)
   | (with_reducible exact LeO.none _)
   | (with_reducible refine LeO.ite ?_ ?_)
   | (with_reducible refine LeO.bind ?_ (fun _=>?_))
   | exact ih0 _ _ _
   | exact ih1 _ _ _ _ _
   | exact ih2 _ _ _ _ _ _
   | exact cadenceref2_With.mono _ _ _ _
   | exact LeO.none _
   | refine LeO.ite ?_ ?_
   | refine LeO.bind ?_ (fun _=>?_)
  ·intro y0 y1 y2 y3 y4
   unfold cadencelaw4_Small.l0
   repeat' first
   | (with_reducible exact ih0 _ _ _)
   | (with_reducible exact ih1 _ _ _ _ _)
   | (with_reducible exact ih2 _ _ _ _ _ _)
   | (with_reducible exact cadenceref2_With.mono _ _ _ _)
   | (with_reducible exact LeO.refl _)
   | (with_reducible exact LeO.none _)
   | (with_reducible refine LeO.ite ?_ ?_)
   | (with_reducible refine LeO.bind ?_ (fun _=>?_))
   | exact ih0 _ _ _
   | exact ih1 _ _ _ _ _
   | exact ih2 _ _ _ _ _ _
   | exact cadenceref2_With.mono _ _ _ _
   | exact LeO.none _
   | refine LeO.ite ?_ ?_
   | refine LeO.bind ?_ (fun _=>?_)
  ·intro y0 y1 y2 y3 y4 y5
   unfold cadencelaw4_Small.j1
   repeat' first
   | (with_reducible exact ih0 _ _ _)
   | (with_reducible exact ih1 _ _ _ _ _)
   | (with_reducible exact ih2 _ _ _ _ _ _)
   | (with_reducible exact cadenceref2_With.mono _ _ _ _)
   | (with_reducible exact LeO.refl _)
   | (with_reducible exact LeO.none _)
   | (with_reducible refine LeO.ite ?_ ?_)
   | (with_reducible refine LeO.bind ?_ (fun _=>?_))
   | exact ih0 _ _ _
   | exact ih1 _ _ _ _ _
   | exact ih2 _ _ _ _ _ _
   | exact cadenceref2_With.mono _ _ _ _
   | exact LeO.none _
   | refine LeO.ite ?_ ?_
   | refine LeO.bind ?_ (fun _=>?_)
theorem cadencelaw4_Small.mono:∀ a0 a1 a2 k,LeO (cadencelaw4_Small.f k a0 a1 a2) (cadencelaw4_Small.f (k+1) a0 a1 a2):=by
 intro a0 a1 a2 k
 obtain ⟨ih0,ih1,ih2⟩:=cadencelaw4_Small.mono_l k
 exact ih0 a0 a1 a2
def cadencelaw4_Small.T5:Bool × List (List Nat × List Nat):=(true,[([],[]),([],[]),([],[]),([],[]),([2,3],[2,3]),([4],[4]),([5],[5]),([6],[6]),([7],[7]),([1,8],[1,8]),([9],[9]),([],[]),([],[]),([11,12],[11,12]),([13],[13]),([14],[14]),([],[]),([],[]),([17],[17]),([15,16,18,8],[15,16,18]),([0,10,19,19],[0,10,19]),([20,20,0,1,2,3,4,5,6,7,8,9,10,11,12,13,14,15,16,17,18,19,20],[0,20])])
def cadencelaw4_Small.B5:List Nat:=[0,0,0,0,12,28,60,124,252,510,1022,0,0,6144,14336,30720,0,0,131072,522748,1048575,2097151]
theorem cadencelaw4_Small.tab5:rtab .any (opsOf Try.f14 5)=cadencelaw4_Small.T5:=by kernel_rfl
theorem cadencelaw4_Small.bits5:waitsOk cadencelaw4_Small.T5.2 cadencelaw4_Small.B5=true:=by kernel_rfl
set_option maxHeartbeats 8000000 in
set_option maxRecDepth 100000 in
theorem cadencelaw4_Small.calls (k:Nat):∀ (A0:Option Addr) (c0:Nat) (l0:List (S73)) (a1:Int) (a2:Int) (r:List (S51)) (w:World) (hr0:Kd.C k73 w A0 l0.length l0) (hc0:l0.length≤c0) (h:cadencelaw4_Small.f k l0 a1 a2=some r),
  Calls Try.prog 14 #[.slice A0 l0.length c0,.int .i64 a1,.int .i64 a2] w fun e w'=>∃ v0_:Value,e=.returned (v0_)∧Kd.N k51 51 w' w.heap.size (fun k_=>(w.heap.size≤k_)) v0_ r∧Below w.heap.size w w':=by
 induction k using Nat.strongRecOn with
 | _ k ih =>
 intro A0 c0 l0 a1 a2 r w hr0 hc0 h
 cases k with
 | zero=>exact absurd h (by simp [cadencelaw4_Small.f])
 | succ k =>
 simp only [cadencelaw4_Small.f] at h
 have HR0:=Aside0.mk hr0
 have HC0:=Aside0.mk hc0
 clear hr0 hc0
 have HB:=Aside0.mk (Below.refl w.heap.size w)
 have H:(cadencelaw4_Small.l0 k l0 a1 a2 ([]:List (S51)) 0)=some r:=h
 clear h
 have H':=Aside0.mk H
 clear H
 go_enter Try.func14,Try.ntmps14
 go_wp2
 go_loopg [7,8] k (fun kq v7 v8 w'=>∃ (x7_1:List (S51)) (x8_1:Int),v8=.int .i64 x8_1∧Aside0 (cadencelaw4_Small.l0 kq l0 a1 a2 x7_1 x8_1=some r)∧Aside0 (kq≤k)∧Aside0 (Kd.N k51 51 w' w.heap.size (fun k_=>(w.heap.size≤k_)) v7 x7_1)∧Aside0 (Below w.heap.size w w'))
 case atStart=>exact ⟨(([]:List (S51))),(0),(by first|rfl|(simp;done)|(simp [*];done)),H',⟨Nat.le_refl _⟩,⟨by first|exact Kd.R_nil _ _ _ _ _|exact Kd.N_nil _ _ _ _ _|exact Kd.V_nil _ _ _ _ _|exact Kd.Q_nil _ _ _ _ _|exact Kd.S_nil _ _ _ _ _⟩,⟨by repeat (first|(with_reducible first|exact HB.out|apply bA_|apply bN_|apply bD_)|exact HB.out)⟩⟩
 case round =>
  clear H'
  try clear c1
  try clear p2
  obtain ⟨x7_1,x8_1,rfl,HA,HK1,HO_7,HB⟩:=hrel
  cases gk with
  | zero=>exact absurd HA.out (by simp [cadencelaw4_Small.l0])
  | succ k1 =>
   have H:=HA.out
   clear HA
   simp only [cadencelaw4_Small.l0] at H
   have HC4:=Aside0.mk H
   clear H
   go_upto_region 3 with (fail)
   go_cut [21] (fun v21 wc=>∃ (kq:Nat) (x21_3:Bool),v21=.bool x21_3∧Aside0 (cadencelaw4_Small.j1 kq l0 a1 a2 x7_1 x8_1 x21_3=some r)∧Aside0 (kq≤k1)∧Aside0 (Kd.N k51 51 wc w.heap.size (fun k_=>(w.heap.size≤k_)) u7 x7_1)∧Aside0 (Below w.heap.size w wc))
   case first =>
    have H:=HC4.out
    clear HC4
    by_cases c5:x8_1 < (l0.length:Int)
    ·rw [if_pos c5] at H
     have c5b0:decide (x8_1 < (l0.length:Int))=true:=decide_eq_true c5
     clear c5
     (first|rw [c5b0]|(simp only [i64_w,i32_w];rw [c5b0])|skip)
     by_cases c6:x8_1 < a1
     ·rw [if_pos c6] at H
      have c6b0:decide (x8_1 < a1)=true:=decide_eq_true c6
      clear c6
      have H':=Aside0.mk H
      clear H
      go_wp2
      go_meet
      case rel=>exact ⟨_,(decide (a2 > 0)),(by first|rfl|(simp;done)|(simp [*];done)),H',⟨by have:=HK1.out;first|omega|exact Nat.le_refl _⟩,⟨by (with_reducible repeat (first|apply nA_|apply nN_|apply nD_));exact HO_7.out⟩,⟨by repeat (first|(with_reducible first|exact HB.out|apply bA_|apply bN_|apply bD_)|exact HB.out)⟩⟩
     ·rw [if_neg c6] at H
      have c6b0:decide (x8_1 < a1)=false:=decide_eq_false c6
      clear c6
      have H':=Aside0.mk H
      clear H
      go_wp2
      go_meet
      case rel=>exact ⟨_,(false),(by first|rfl|(simp;done)|(simp [*];done)),H',⟨by have:=HK1.out;first|omega|exact Nat.le_refl _⟩,⟨by (with_reducible repeat (first|apply nA_|apply nN_|apply nD_));exact HO_7.out⟩,⟨by repeat (first|(with_reducible first|exact HB.out|apply bA_|apply bN_|apply bD_)|exact HB.out)⟩⟩
    ·rw [if_neg c5] at H
     have c5b0:decide (x8_1 < (l0.length:Int))=false:=decide_eq_false c5
     clear c5
     (first|rw [c5b0]|(simp only [i64_w,i32_w];rw [c5b0])|skip)
     have H':=Aside0.mk H
     clear H
     go_wp2
     go_meet
     case rel=>exact ⟨_,(false),(by first|rfl|(simp;done)|(simp [*];done)),H',⟨by have:=HK1.out;first|omega|exact Nat.le_refl _⟩,⟨by (with_reducible repeat (first|apply nA_|apply nN_|apply nD_));exact HO_7.out⟩,⟨by repeat (first|(with_reducible first|exact HB.out|apply bA_|apply bN_|apply bD_)|exact HB.out)⟩⟩
   case rest =>
    clear HC4
    try clear c1
    try clear p2
    try clear c5
    try clear c5b0
    try clear c6
    try clear c6b0
    try clear p2
    obtain ⟨kq,x21_3,rfl,HA,HJ3,HO_7,HB⟩:=hcut
    cases kq with
    | zero=>exact absurd HA.out (by simp [cadencelaw4_Small.j1])
    | succ kj3 =>
     have H:=HA.out
     clear HA
     simp only [cadencelaw4_Small.j1] at H
     by_cases c7:x21_3=true
     ·subst c7
      have H1:((some (([(⟨#[]⟩:ByteArray),(⟨#[97]⟩:ByteArray),(⟨#[98]⟩:ByteArray),(⟨#[99]⟩:ByteArray),(⟨#[100]⟩:ByteArray)]:List ByteArray):List ByteArray)).bind fun y298=>(if 0≤x8_1 then (if x8_1 < (l0.length:Int) then ((cadencelaw4_within.f (((rd_T73 l0 x8_1).f0).size:Int) 5).bind fun t302=>(if 0≤t302 then (if t302 < (y298.length:Int) then ((cadencelaw4_Small.f kj3 ((rd_T73 l0 x8_1).f1) a1 (wrap64 (a2 - 1))).bind fun t305=>((cadenceref2_With.f kj3 x7_1 (rdOf ByteArray.empty y298 t302) t305).bind fun t308=>(cadencelaw4_Small.l0 kj3 l0 a1 a2 t308 (wrap64 (x8_1+1))))) else (none)) else (none))) else (none)) else (none)))=some r:=by rw [if_pos rfl] at H;exact H
      clear H
      have H:=H1
      clear H1
      obtain ⟨y298,hy298⟩:∃ y_:List ByteArray,y_=(([(⟨#[]⟩:ByteArray),(⟨#[97]⟩:ByteArray),(⟨#[98]⟩:ByteArray),(⟨#[99]⟩:ByteArray),(⟨#[100]⟩:ByteArray)]:List ByteArray)):=⟨_,rfl⟩
      replace H:(if 0≤x8_1 then (if x8_1 < (l0.length:Int) then ((cadencelaw4_within.f (((rd_T73 l0 x8_1).f0).size:Int) 5).bind fun t302=>(if 0≤t302 then (if t302 < (y298.length:Int) then ((cadencelaw4_Small.f kj3 ((rd_T73 l0 x8_1).f1) a1 (wrap64 (a2 - 1))).bind fun t305=>((cadenceref2_With.f kj3 x7_1 (rdOf ByteArray.empty y298 t302) t305).bind fun t308=>(cadencelaw4_Small.l0 kj3 l0 a1 a2 t308 (wrap64 (x8_1+1))))) else (none)) else (none))) else (none)) else (none))=some r:=by first|(rw [hy298];with_reducible exact H)|(have H2_:=(Option.bind_some _ _).symm.trans H;rw [hy298];with_reducible exact H2_)|(have H2_:=(Option.bind_some _ _).symm.trans H;with_reducible exact H2_)|with_reducible exact H|(rw [hy298];exact H)|exact H
      have Ny298:=Aside0.mk hy298
      clear hy298
      by_cases c8:0≤x8_1
      ·rw [if_pos c8] at H
       have c8b0:decide (0≤x8_1)=true:=decide_eq_true c8
       clear c8
       by_cases c9:x8_1 < (l0.length:Int)
       ·rw [if_pos c9] at H
        have c9b0:decide (x8_1 < (l0.length:Int))=true:=decide_eq_true c9
        clear c9
        replace H:=Option.bind_eq_some_iff.mp H
        obtain ⟨t302,A100,H⟩:=H
        replace H:(if 0≤t302 then (if t302 < (y298.length:Int) then ((cadencelaw4_Small.f kj3 ((rd_T73 l0 x8_1).f1) a1 (wrap64 (a2 - 1))).bind fun t305=>((cadenceref2_With.f kj3 x7_1 (rdOf ByteArray.empty y298 t302) t305).bind fun t308=>(cadencelaw4_Small.l0 kj3 l0 a1 a2 t308 (wrap64 (x8_1+1))))) else (none)) else (none))=some r:=H
        have A10:=Aside0.mk A100
        clear A100
        by_cases c11:0≤t302
        ·rw [if_pos c11] at H
         have c11b0:decide (0≤t302)=true:=decide_eq_true c11
         clear c11
         by_cases c12:t302 < (y298.length:Int)
         ·rw [if_pos c12] at H
          have c12b0:decide (t302 < (y298.length:Int))=true:=decide_eq_true c12
          clear c12
          replace H:=Option.bind_eq_some_iff.mp H
          obtain ⟨t305,A130,H⟩:=H
          replace H:((cadenceref2_With.f kj3 x7_1 (rdOf ByteArray.empty y298 t302) t305).bind fun t308=>(cadencelaw4_Small.l0 kj3 l0 a1 a2 t308 (wrap64 (x8_1+1))))=some r:=H
          have A13:=Aside0.mk A130
          clear A130
          replace H:=Option.bind_eq_some_iff.mp H
          obtain ⟨t308,A140,H⟩:=H
          replace H:(cadencelaw4_Small.l0 kj3 l0 a1 a2 t308 (wrap64 (x8_1+1)))=some r:=H
          have A14:=Aside0.mk A140
          clear A140
          have H':=Aside0.mk H
          clear H
          obtain ⟨Ao15,co15,eo15⟩:=Kd.N_slice HO_7.out
          subst eo15
          try go_wp2
          have pi303:(0≤(t302:Int))=True:=eq_true (of_decide_eq_true (by first|(with_reducible assumption)|assumption))
          have qi303:(t302 < (y298.length:Int))=True:=eq_true (of_decide_eq_true (by first|(with_reducible assumption)|assumption))
          have n0_:=Aside0.mk (nD_ HO_7.out)
          have n1_:=Aside0.mk (bD_ HB.out)
          clear HO_7
          clear HB
          have HO_7:=n0_
          have HB:=n1_
          clear n0_ n1_
          have p301:0≤(x8_1:Int):=of_decide_eq_true (by first|(with_reducible assumption)|assumption)
          have q301:x8_1 < (l0.length:Int):=of_decide_eq_true (by first|(with_reducible assumption)|assumption)
          obtain ⟨ad301,A301_1,c301_1,e301,hx301_0,hx301_1,hl301_1,hi301_1⟩:=at_T73 HR0.out x8_1 p301 q301
          have hw301_1:=hx301_1
          have hw301_0:=hx301_0
          cases e301
          replace hx301_0:=(HB.out.cell (World.block_lt_of_cell? w _ hx301_0)).trans hx301_0
          replace hx301_1:=(HB.out.cell (World.block_lt_of_cell? w _ hx301_1)).trans hx301_1
          have HR301_1:=Aside0.mk hi301_1
          have HC301_1:=Aside0.mk hl301_1
          clear hi301_1 hl301_1
          replace p301:=eq_true p301
          replace q301:=eq_true q301
          have p304:0≤(x8_1:Int):=of_decide_eq_true (by first|(with_reducible assumption)|assumption)
          have q304:x8_1 < (l0.length:Int):=of_decide_eq_true (by first|(with_reducible assumption)|assumption)
          obtain ⟨ad304,A304_1,c304_1,e304,hx304_0,hx304_1,hl304_1,hi304_1⟩:=at_T73 HR0.out x8_1 p304 q304
          have hw304_1:=hx304_1
          have hw304_0:=hx304_0
          obtain rfl:ad301=ad304:=(by injection e304)
          replace hx304_0:=(HB.out.cell (World.block_lt_of_cell? w _ hx304_0)).trans hx304_0
          replace hx304_1:=(HB.out.cell (World.block_lt_of_cell? w _ hx304_1)).trans hx304_1
          have HR304_1:=Aside0.mk hi304_1
          have HC304_1:=Aside0.mk hl304_1
          clear hi304_1 hl304_1
          replace p304:=eq_true p304
          replace q304:=eq_true q304
          have ea_:=Option.some.inj (hx301_1.symm.trans hx304_1)
          injection ea_ with ea_ en_ ec_
          subst ea_
          subst ec_
          clear en_
          refine start_ (n:=22) (S:=fun w'=>w'.cell? (ad301.add ((x8_1).toNat * 2))=some (.string ((rd_T73 l0 x8_1).f0))∧w'.cell? ⟨(ad301.add ((x8_1).toNat * 2)).block,(ad301.add ((x8_1).toNat * 2)).off+1,none⟩=some (.slice A301_1 ((rd_T73 l0 x8_1).f1).length c301_1)∧w'.cell? (ad301.add ((x8_1).toNat * 2))=some (.string ((rd_T73 l0 x8_1).f0))∧w'.cell? ⟨(ad301.add ((x8_1).toNat * 2)).block,(ad301.add ((x8_1).toNat * 2)).off+1,none⟩=some (.slice A301_1 ((rd_T73 l0 x8_1).f1).length c301_1)) (ds:=[]) #[false,false,false,false,false,false,false,false,false,false,false,false,false,false,false,false,false,false,false,false,false,false] (by kernel_rfl) rfl rfl ⟨((HB.out.cell (World.block_lt_of_cell? w _ hw301_0)).trans hw301_0),((HB.out.cell (World.block_lt_of_cell? w _ hw301_1)).trans hw301_1),((HB.out.cell (World.block_lt_of_cell? w _ hw304_0)).trans hw304_0),((HB.out.cell (World.block_lt_of_cell? w _ hw304_1)).trans hw304_1)⟩ (fun hHeld=>?_);refine with_tabW cadencelaw4_Small.tab5 cadencelaw4_Small.bits5 (fun HT_ HW_=>?_)
          generalize wc.drew=w16 at HO_7 HB HR301_1 HR304_1 hx301_0 hx301_1 hx304_0 hx304_1 hHeld ⊢
          refine pure_ (i:=0) (N:=some 24) (v:=?_) (a':=?_) #[true,false,false,false,false,false,false,false,false,false,false,false,false,false,false,false,false,false,false,false,false,false] rfl rfl (any_of HT_.out (by kernel_rfl)) (fun _ _ _ h=>h) (Or.inl ⟨by rfl,?_⟩) ?_ ?_
          rotate_left
          ·intro w'
           go_simp
           with_reducible rfl
          rotate_left
          ·simp only [Act.put,List.setIfInBounds_toArray,List.set_cons_zero,List.set_cons_succ,i64_w,i32_w]
           rfl
          refine pure_ (i:=2) (N:=some 26) (v:=?_) (a':=?_) #[true,false,true,false,false,false,false,false,false,false,false,false,false,false,false,false,false,false,false,false,false,false] rfl rfl (any_of HT_.out (by kernel_rfl)) (fun _ _ _ h=>h) (Or.inl ⟨by rfl,?_⟩) ?_ ?_
          rotate_left
          ·intro w'
           go_simp
           with_reducible rfl
          rotate_left
          ·simp only [Act.put,List.setIfInBounds_toArray,List.set_cons_zero,List.set_cons_succ,i64_w,i32_w]
           rfl
          refine pure_ (i:=3) (N:=some 27) (v:=?_) (a':=?_) #[true,false,true,true,false,false,false,false,false,false,false,false,false,false,false,false,false,false,false,false,false,false] rfl rfl (any_of HT_.out (by kernel_rfl)) (fun _ _ _ h=>h) (Or.inl ⟨by rfl,?_⟩) ?_ ?_
          rotate_left
          ·intro w'
           go_simp
           with_reducible rfl
          rotate_left
          ·simp only [Act.put,List.setIfInBounds_toArray,List.set_cons_zero,List.set_cons_succ,i64_w,i32_w]
           rfl
          refine pure_ (i:=4) (N:=some 28) (v:=?_) (a':=?_) #[true,false,true,true,true,false,false,false,false,false,false,false,false,false,false,false,false,false,false,false,false,false] rfl rfl (any_of HT_.out (by kernel_rfl)) (fun _ _ _ h=>h) (Or.inl ⟨by rfl,?_⟩) ?_ ?_
          rotate_left
          ·intro w'
           go_simp
           with_reducible rfl
          rotate_left
          ·simp only [Act.put,List.setIfInBounds_toArray,List.set_cons_zero,List.set_cons_succ,i64_w,i32_w]
           rfl
          refine pure_ (i:=5) (N:=some 29) (v:=?_) (a':=?_) #[true,false,true,true,true,true,false,false,false,false,false,false,false,false,false,false,false,false,false,false,false,false] rfl rfl (any_of HT_.out (by kernel_rfl)) (fun _ _ _ h=>h) (Or.inl ⟨by rfl,?_⟩) ?_ ?_
          rotate_left
          ·intro w'
           go_simp
           with_reducible rfl
          rotate_left
          ·simp only [Act.put,List.setIfInBounds_toArray,List.set_cons_zero,List.set_cons_succ,i64_w,i32_w]
           rfl
          refine pure_ (i:=11) (N:=some 35) (v:=?_) (a':=?_) #[true,false,true,true,true,true,false,false,false,false,false,true,false,false,false,false,false,false,false,false,false,false] rfl rfl (any_of HT_.out (by kernel_rfl)) (fun _ _ _ h=>h) (Or.inl ⟨by rfl,?_⟩) ?_ ?_
          rotate_left
          ·intro w'
           go_simp
           with_reducible rfl
          rotate_left
          ·simp only [Act.put,List.setIfInBounds_toArray,List.set_cons_zero,List.set_cons_succ,i64_w,i32_w]
           rfl
          refine pure_ (i:=12) (N:=some 36) (v:=?_) (a':=?_) #[true,false,true,true,true,true,false,false,false,false,false,true,true,false,false,false,false,false,false,false,false,false] rfl rfl (any_of HT_.out (by kernel_rfl)) (fun _ _ _ h=>h) (Or.inl ⟨by rfl,?_⟩) ?_ ?_
          rotate_left
          ·intro w'
           go_simp
           with_reducible rfl
          rotate_left
          ·simp only [Act.put,List.setIfInBounds_toArray,List.set_cons_zero,List.set_cons_succ,i64_w,i32_w]
           rfl
          refine pure_ (i:=13) (N:=some 37) (v:=?_) (a':=?_) #[true,false,true,true,true,true,false,false,false,false,false,true,true,true,false,false,false,false,false,false,false,false] rfl rfl (any_of HT_.out (by kernel_rfl)) (fun _ _ _ h=>h) (Or.inl ⟨by rfl,?_⟩) ?_ ?_
          rotate_left
          ·intro w'
           go_simp
           with_reducible rfl
          rotate_left
          ·simp only [Act.put,List.setIfInBounds_toArray,List.set_cons_zero,List.set_cons_succ,i64_w,i32_w]
           rfl
          refine pure_ (i:=14) (N:=some 38) (v:=?_) (a':=?_) #[true,false,true,true,true,true,false,false,false,false,false,true,true,true,true,false,false,false,false,false,false,false] rfl rfl (any_of HT_.out (by kernel_rfl)) (fun _ _ _ h=>h) (Or.inl ⟨by rfl,?_⟩) ?_ ?_
          rotate_left
          ·intro w'
           go_simp
           with_reducible rfl
          rotate_left
          ·simp only [Act.put,List.setIfInBounds_toArray,List.set_cons_zero,List.set_cons_succ,i64_w,i32_w]
           rfl
          refine pure_ (i:=16) (N:=some 40) (v:=?_) (a':=?_) #[true,false,true,true,true,true,false,false,false,false,false,true,true,true,true,false,true,false,false,false,false,false] rfl rfl (any_of HT_.out (by kernel_rfl)) (fun _ _ _ h=>h) (Or.inl ⟨by rfl,?_⟩) ?_ ?_
          rotate_left
          ·intro w'
           go_simp
           with_reducible rfl
          rotate_left
          ·simp only [Act.put,List.setIfInBounds_toArray,List.set_cons_zero,List.set_cons_succ,i64_w,i32_w]
           rfl
          refine pure_ (i:=17) (N:=some 41) (v:=?_) (a':=?_) #[true,false,true,true,true,true,false,false,false,false,false,true,true,true,true,false,true,true,false,false,false,false] rfl rfl (any_of HT_.out (by kernel_rfl)) (fun _ _ _ h=>h) (Or.inl ⟨by rfl,?_⟩) ?_ ?_
          rotate_left
          ·intro w'
           go_simp
           with_reducible rfl
          rotate_left
          ·simp only [Act.put,List.setIfInBounds_toArray,List.set_cons_zero,List.set_cons_succ,i64_w,i32_w]
           rfl
          refine pure_ (i:=18) (N:=some 42) (v:=?_) (a':=?_) #[true,false,true,true,true,true,false,false,false,false,false,true,true,true,true,false,true,true,true,false,false,false] rfl rfl (any_of HT_.out (by kernel_rfl)) (fun _ _ _ h=>h) (Or.inl ⟨by rfl,?_⟩) ?_ ?_
          rotate_left
          ·intro w'
           go_simp
           with_reducible rfl
          rotate_left
          ·simp only [Act.put,List.setIfInBounds_toArray,List.set_cons_zero,List.set_cons_succ,i64_w,i32_w]
           rfl
          refine take_ (i:=6) (N:=some 30) (v:=?_) (a':=?_) #[true,false,true,true,true,true,true,false,false,false,false,true,true,true,true,false,true,true,true,false,false,false] rfl rfl (take_ofW HT_.out HW_.out (by kernel_rfl)) (fun _ _ _ h=>h) (Or.inl ⟨by rfl,?_⟩) hHeld ?_ ?_
          rotate_left
          ·rintro w' ⟨s0,s1,s2,s3⟩
           go_simp
           with_reducible rfl
          rotate_left
          ·simp only [Act.put,List.setIfInBounds_toArray,List.set_cons_zero,List.set_cons_succ,i64_w,i32_w]
           rfl
          refine pure_ (i:=7) (N:=some 31) (v:=?_) (a':=?_) #[true,false,true,true,true,true,true,true,false,false,false,true,true,true,true,false,true,true,true,false,false,false] rfl rfl (any_of HT_.out (by kernel_rfl)) (fun _ _ _ h=>h) (Or.inl ⟨by rfl,?_⟩) ?_ ?_
          rotate_left
          ·intro w'
           go_simp
           with_reducible rfl
          rotate_left
          ·simp only [Act.put,List.setIfInBounds_toArray,List.set_cons_zero,List.set_cons_succ,i64_w,i32_w]
           rfl
          refine take_ (i:=15) (N:=some 39) (v:=?_) (a':=?_) #[true,false,true,true,true,true,true,true,false,false,false,true,true,true,true,true,true,true,true,false,false,false] rfl rfl (take_ofW HT_.out HW_.out (by kernel_rfl)) (fun _ _ _ h=>h) (Or.inl ⟨by rfl,?_⟩) hHeld ?_ ?_
          rotate_left
          ·rintro w' ⟨s0,s1,s2,s3⟩
           go_simp
           with_reducible rfl
          rotate_left
          ·simp only [Act.put,List.setIfInBounds_toArray,List.set_cons_zero,List.set_cons_succ,i64_w,i32_w]
           rfl
          refine join_ (σ:=Value × Addr × Value) 2 #[true,true,true,true,true,true,true,true,true,true,true,true,true,true,true,true,true,true,true,true,false,false] (fun s_=>[(25,s_.1),(32,.int .i64 t302),(34,.string (rdOf ByteArray.empty y298 t302)),(43,s_.2.2),(33,.pointer (some (s_.2.1.add (t302).toNat)))]) (fun s_ w'=>(w'.cell? (ad301.add ((x8_1).toNat * 2))=some (.string ((rd_T73 l0 x8_1).f0))∧w'.cell? ⟨(ad301.add ((x8_1).toNat * 2)).block,(ad301.add ((x8_1).toNat * 2)).off+1,none⟩=some (.slice A301_1 ((rd_T73 l0 x8_1).f1).length c301_1)∧w'.cell? (ad301.add ((x8_1).toNat * 2))=some (.string ((rd_T73 l0 x8_1).f0))∧w'.cell? ⟨(ad301.add ((x8_1).toNat * 2)).block,(ad301.add ((x8_1).toNat * 2)).off+1,none⟩=some (.slice A301_1 ((rd_T73 l0 x8_1).f1).length c301_1))∧(Kd.R Kd.string 9 w' w.heap.size (fun k_=>(w.heap.size≤k_)) s_.1 y298)∧(Kd.N k51 51 w' w.heap.size (fun k_=>(w.heap.size≤k_)∧some k_≠(s_.1:Value).ownBlock∧some k_≠(.slice Ao15 x7_1.length co15:Value).ownBlock) s_.2.2 t305)∧(Kd.N k51 51 w' w.heap.size (fun k_=>(w.heap.size≤k_)∧some k_≠(s_.1:Value).ownBlock∧some k_≠(s_.2.2:Value).ownBlock) (.slice Ao15 x7_1.length co15) x7_1)∧(∃ c_,(s_.1:Value)=.slice (some s_.2.1) y298.length c_)∧(Below w.heap.size w w')) ?_ ?_
          rotate_left
          ·intro hJ1_8_10_19
           refine join_ (σ:=Value × Addr) 3 #[true,true,true,true,true,true,true,true,true,true,true,true,true,true,true,true,true,true,true,false,false,false] (fun s_=>[(25,s_.1),(32,.int .i64 t302),(34,.string (rdOf ByteArray.empty y298 t302)),(33,.pointer (some (s_.2.add (t302).toNat)))]) (fun s_ w'=>(w'.cell? (ad301.add ((x8_1).toNat * 2))=some (.string ((rd_T73 l0 x8_1).f0))∧w'.cell? ⟨(ad301.add ((x8_1).toNat * 2)).block,(ad301.add ((x8_1).toNat * 2)).off+1,none⟩=some (.slice A301_1 ((rd_T73 l0 x8_1).f1).length c301_1)∧w'.cell? (ad301.add ((x8_1).toNat * 2))=some (.string ((rd_T73 l0 x8_1).f0))∧w'.cell? ⟨(ad301.add ((x8_1).toNat * 2)).block,(ad301.add ((x8_1).toNat * 2)).off+1,none⟩=some (.slice A301_1 ((rd_T73 l0 x8_1).f1).length c301_1))∧(Kd.R Kd.string 9 w' w.heap.size (fun k_=>(w.heap.size≤k_)) s_.1 y298)∧(Kd.N k51 51 w' w.heap.size (fun k_=>(w.heap.size≤k_)∧some k_≠(s_.1:Value).ownBlock) (.slice Ao15 x7_1.length co15) x7_1)∧(∃ c_,(s_.1:Value)=.slice (some s_.2) y298.length c_)∧(Below w.heap.size w w')) ?_ ?_
           rotate_left
           ·intro hJ1_8_10
            refine join_ (σ:=Value × Addr × Value) 3 #[true,true,true,true,true,true,true,true,true,true,false,true,true,true,true,true,true,true,true,true,false,false] (fun s_=>[(25,s_.1),(32,.int .i64 t302),(43,s_.2.2),(33,.pointer (some (s_.2.1.add (t302).toNat)))]) (fun s_ w'=>(w'.cell? (ad301.add ((x8_1).toNat * 2))=some (.string ((rd_T73 l0 x8_1).f0))∧w'.cell? ⟨(ad301.add ((x8_1).toNat * 2)).block,(ad301.add ((x8_1).toNat * 2)).off+1,none⟩=some (.slice A301_1 ((rd_T73 l0 x8_1).f1).length c301_1)∧w'.cell? (ad301.add ((x8_1).toNat * 2))=some (.string ((rd_T73 l0 x8_1).f0))∧w'.cell? ⟨(ad301.add ((x8_1).toNat * 2)).block,(ad301.add ((x8_1).toNat * 2)).off+1,none⟩=some (.slice A301_1 ((rd_T73 l0 x8_1).f1).length c301_1))∧(Kd.R Kd.string 9 w' w.heap.size (fun k_=>(w.heap.size≤k_)) s_.1 y298)∧(Kd.N k51 51 w' w.heap.size (fun k_=>(w.heap.size≤k_)∧some k_≠(s_.1:Value).ownBlock∧some k_≠(.slice Ao15 x7_1.length co15:Value).ownBlock) s_.2.2 t305)∧(Kd.N k51 51 w' w.heap.size (fun k_=>(w.heap.size≤k_)∧some k_≠(s_.1:Value).ownBlock∧some k_≠(s_.2.2:Value).ownBlock) (.slice Ao15 x7_1.length co15) x7_1)∧(∃ c_,(s_.1:Value)=.slice (some s_.2.1) y298.length c_)∧(Below w.heap.size w w')) ?_ ?_
            rotate_left
            ·intro hJ1_8_19
             refine join_ (σ:=Value × Addr) 4 #[true,true,true,true,true,true,true,true,true,true,false,true,true,true,true,true,true,true,true,false,false,false] (fun s_=>[(25,s_.1),(32,.int .i64 t302),(33,.pointer (some (s_.2.add (t302).toNat)))]) (fun s_ w'=>(w'.cell? (ad301.add ((x8_1).toNat * 2))=some (.string ((rd_T73 l0 x8_1).f0))∧w'.cell? ⟨(ad301.add ((x8_1).toNat * 2)).block,(ad301.add ((x8_1).toNat * 2)).off+1,none⟩=some (.slice A301_1 ((rd_T73 l0 x8_1).f1).length c301_1)∧w'.cell? (ad301.add ((x8_1).toNat * 2))=some (.string ((rd_T73 l0 x8_1).f0))∧w'.cell? ⟨(ad301.add ((x8_1).toNat * 2)).block,(ad301.add ((x8_1).toNat * 2)).off+1,none⟩=some (.slice A301_1 ((rd_T73 l0 x8_1).f1).length c301_1))∧(Kd.R Kd.string 9 w' w.heap.size (fun k_=>(w.heap.size≤k_)) s_.1 y298)∧(Kd.N k51 51 w' w.heap.size (fun k_=>(w.heap.size≤k_)∧some k_≠(s_.1:Value).ownBlock) (.slice Ao15 x7_1.length co15) x7_1)∧(∃ c_,(s_.1:Value)=.slice (some s_.2) y298.length c_)∧(Below w.heap.size w w')) ?_ ?_
             rotate_left
             ·intro hJ1_8
              refine join_ (σ:=Value) 5 #[true,false,true,true,true,true,true,true,true,false,false,true,true,true,true,true,true,true,true,true,false,false] (fun s_=>[(32,.int .i64 t302),(43,s_)]) (fun s_ w'=>(w'.cell? (ad301.add ((x8_1).toNat * 2))=some (.string ((rd_T73 l0 x8_1).f0))∧w'.cell? ⟨(ad301.add ((x8_1).toNat * 2)).block,(ad301.add ((x8_1).toNat * 2)).off+1,none⟩=some (.slice A301_1 ((rd_T73 l0 x8_1).f1).length c301_1)∧w'.cell? (ad301.add ((x8_1).toNat * 2))=some (.string ((rd_T73 l0 x8_1).f0))∧w'.cell? ⟨(ad301.add ((x8_1).toNat * 2)).block,(ad301.add ((x8_1).toNat * 2)).off+1,none⟩=some (.slice A301_1 ((rd_T73 l0 x8_1).f1).length c301_1))∧(Kd.N k51 51 w' w.heap.size (fun k_=>(w.heap.size≤k_)∧some k_≠(.slice Ao15 x7_1.length co15:Value).ownBlock) s_ t305)∧(Kd.N k51 51 w' w.heap.size (fun k_=>(w.heap.size≤k_)∧some k_≠(s_:Value).ownBlock) (.slice Ao15 x7_1.length co15) x7_1)∧(Below w.heap.size w w')) ?_ ?_
              rotate_left
              ·intro hJ8_19
               refine join_ (σ:=Value × Addr) 6 #[true,true,true,true,true,true,true,true,false,false,false,true,true,true,true,true,true,true,true,false,false,false] (fun s_=>[(25,s_.1)]) (fun s_ w'=>(w'.cell? (ad301.add ((x8_1).toNat * 2))=some (.string ((rd_T73 l0 x8_1).f0))∧w'.cell? ⟨(ad301.add ((x8_1).toNat * 2)).block,(ad301.add ((x8_1).toNat * 2)).off+1,none⟩=some (.slice A301_1 ((rd_T73 l0 x8_1).f1).length c301_1)∧w'.cell? (ad301.add ((x8_1).toNat * 2))=some (.string ((rd_T73 l0 x8_1).f0))∧w'.cell? ⟨(ad301.add ((x8_1).toNat * 2)).block,(ad301.add ((x8_1).toNat * 2)).off+1,none⟩=some (.slice A301_1 ((rd_T73 l0 x8_1).f1).length c301_1))∧(Kd.R Kd.string 9 w' w.heap.size (fun k_=>(w.heap.size≤k_)) s_.1 y298)∧(Kd.N k51 51 w' w.heap.size (fun k_=>(w.heap.size≤k_)∧some k_≠(s_.1:Value).ownBlock) (.slice Ao15 x7_1.length co15) x7_1)∧(∃ c_,(s_.1:Value)=.slice (some s_.2) y298.length c_)∧(Below w.heap.size w w')) ?_ ?_
               rotate_left
               ·intro hJ1
                refine join_ (σ:=Unit) 6 #[true,false,true,true,true,true,true,true,true,false,false,true,true,true,true,true,true,true,true,false,false,false] (fun s_=>[(32,.int .i64 t302)]) (fun s_ w'=>(w'.cell? (ad301.add ((x8_1).toNat * 2))=some (.string ((rd_T73 l0 x8_1).f0))∧w'.cell? ⟨(ad301.add ((x8_1).toNat * 2)).block,(ad301.add ((x8_1).toNat * 2)).off+1,none⟩=some (.slice A301_1 ((rd_T73 l0 x8_1).f1).length c301_1)∧w'.cell? (ad301.add ((x8_1).toNat * 2))=some (.string ((rd_T73 l0 x8_1).f0))∧w'.cell? ⟨(ad301.add ((x8_1).toNat * 2)).block,(ad301.add ((x8_1).toNat * 2)).off+1,none⟩=some (.slice A301_1 ((rd_T73 l0 x8_1).f1).length c301_1))∧(Kd.N k51 51 w' w.heap.size (fun k_=>(w.heap.size≤k_)) (.slice Ao15 x7_1.length co15) x7_1)∧(Below w.heap.size w w')) ?_ ?_
                rotate_left
                ·intro hJ8
                 refine two_ (i:=1) (j:=8) (Ni:=some 25) (Nj:=some 32) #[true,true,true,true,true,true,true,true,false,false,false,true,true,true,true,true,true,true,true,false,false,false] #[true,false,true,true,true,true,true,true,true,false,false,true,true,true,true,true,true,true,true,false,false,false] rfl rfl rfl rfl (two_of HT_.out (by kernel_rfl)) (by decide) (by decide) (fun K hK=>?_) (fun K hK=>?_)
                 ·skip
                  refine Kd.R_lit_step Kd.string _ 9 ?hg (N:=25) ?hd (xs:=([(⟨#[]⟩:ByteArray),(⟨#[97]⟩:ByteArray),(⟨#[98]⟩:ByteArray),(⟨#[99]⟩:ByteArray),(⟨#[100]⟩:ByteArray)]:List ByteArray)) (inner:=[.string (⟨#[]⟩:ByteArray),.string (⟨#[97]⟩:ByteArray),.string (⟨#[98]⟩:ByteArray),.string (⟨#[99]⟩:ByteArray),.string (⟨#[100]⟩:ByteArray)]) (ok:=fun _=>True) (okp:=fun _=>True) ?hr ?hp (fun _ hk=>hk) trivial (Below.refl _ _) (Nat.le_refl _) (by simp) ?_;(case hd=>rfl);(case hg=>rfl);(case hr=>first|(go_simp;done)|(go_simp;rfl));(case hp=>exact (Reps.one (show Kd.M Kd.string _ _ _ (⟨#[]⟩:ByteArray) [.string (⟨#[]⟩:ByteArray)] from rfl) (Reps.one (show Kd.M Kd.string _ _ _ (⟨#[97]⟩:ByteArray) [.string (⟨#[97]⟩:ByteArray)] from rfl) (Reps.one (show Kd.M Kd.string _ _ _ (⟨#[98]⟩:ByteArray) [.string (⟨#[98]⟩:ByteArray)] from rfl) (Reps.one (show Kd.M Kd.string _ _ _ (⟨#[99]⟩:ByteArray) [.string (⟨#[99]⟩:ByteArray)] from rfl) (Reps.one (show Kd.M Kd.string _ _ _ (⟨#[100]⟩:ByteArray) [.string (⟨#[100]⟩:ByteArray)] from rfl) (Reps.none _ _)))))))
                  intro v299 w17 ho18 hb hg_ hnew_
                  clear hg_ hnew_
                  (first|rw [← Ny298.out] at ho18|(simp only [Int.reduceToNat] at ho18;rw [← Ny298.out] at ho18))
                  have n0_:=Aside0.mk (Kd.N_elder' (by (with_reducible repeat (first|apply nA_|apply nN_|apply nD_));exact HO_7.out) (Kd.R_base ho18) hb)
                  have n1_:=Aside0.mk (Kd.R_lower (Kd.R_newM (M:=fun k_=>(w.heap.size≤k_)) ho18 (below_size (by repeat (first|(with_reducible first|exact HB.out|apply bA_|apply bN_|apply bD_)|exact HB.out))) (fun k_ h_=>h_)) (below_size (by repeat (first|(with_reducible first|exact HB.out|apply bA_|apply bN_|apply bD_)|exact HB.out))))
                  have n2_:=Aside0.mk (below_step (by repeat (first|(with_reducible first|exact HB.out|apply bA_|apply bN_|apply bD_)|exact HB.out)) hb)
                  clear HO_7
                  clear HB
                  have HO_7:=n0_
                  have HO300:=n1_
                  have HB:=n2_
                  clear n0_ n1_ n2_
                  clear hb ho18
                  obtain ⟨Ao19,co19,eo19⟩:=Kd.R_slice HO300.out
                  subst eo19
                  obtain ⟨ado19,fo19,_⟩:=Kd.at_string (Kd.R_reads' HO300.out).2.2 0 (by decide) (by rw [Ny298.out];simp)
                  cases fo19
                  refine hK.out _ _ ⟨((HB.out.cell (World.block_lt_of_cell? w _ hw301_0)).trans hw301_0),((HB.out.cell (World.block_lt_of_cell? w _ hw301_1)).trans hw301_1),((HB.out.cell (World.block_lt_of_cell? w _ hw304_0)).trans hw304_0),((HB.out.cell (World.block_lt_of_cell? w _ hw304_1)).trans hw304_1)⟩ (fun hHeld=>?_)
                  clear hK K
                  refine norm_ (a':=?_) ?_ ?_
                  rotate_left
                  ·show Act.put _ (some 25) _=_
                   simp only [Act.put,List.setIfInBounds_toArray,List.set_cons_zero,List.set_cons_succ,i64_w,i32_w]
                   rfl
                  exact norm_ (by first|(simp only [putAll,Act.put,List.setIfInBounds_toArray,List.set_cons_zero,List.set_cons_succ];done)|(simp only [putAll,Act.put,List.setIfInBounds_toArray,List.set_cons_zero,List.set_cons_succ];rfl)) (hJ1 (.slice (some ado19) y298.length co19,ado19) _ ⟨hHeld,(by (with_reducible repeat (first|apply rA_|apply rN_|apply rD_));exact Kd.R_mono HO300.out (fun _ hk=>hk.1)),(by (with_reducible repeat (first|apply nA_|apply nN_|apply nD_));exact HO_7.out),⟨_,rfl⟩,(by repeat (first|(with_reducible first|exact HB.out|apply bA_|apply bN_|apply bD_)|exact HB.out))⟩)
                 ·skip
                  refine goes_ Try.func25 (by kernel_rfl) rfl #[.int .i64 (((rd_T73 l0 x8_1).f0).size:Int),.int .i64 5] (by rfl) rfl rfl (by (try simp only [List.map_toArray,List.map_cons,List.map_nil]);first|done|rfl|(simp only [List.length_drop,List.length_take];rfl)) ?_
                  with_reducible refine (cadencelaw4_within.calls (((rd_T73 l0 x8_1).f0).size:Int) 5 t302 _ A10.out).mono ?_
                  rintro e w' ⟨rfl,⟨nd,rfl⟩⟩
                  refine ⟨_,rfl,?_⟩
                  refine hK.out _ _ ⟨((HB.out.cell (World.block_lt_of_cell? w _ hw301_0)).trans hw301_0),((HB.out.cell (World.block_lt_of_cell? w _ hw301_1)).trans hw301_1),((HB.out.cell (World.block_lt_of_cell? w _ hw304_0)).trans hw304_0),((HB.out.cell (World.block_lt_of_cell? w _ hw304_1)).trans hw304_1)⟩ (fun hHeld=>?_)
                  clear hK K
                  refine norm_ (a':=?_) ?_ ?_
                  rotate_left
                  ·show Act.put _ (some 32) _=_
                   simp only [Act.put,List.setIfInBounds_toArray,List.set_cons_zero,List.set_cons_succ,i64_w,i32_w]
                   rfl
                  exact norm_ (by first|(simp only [putAll,Act.put,List.setIfInBounds_toArray,List.set_cons_zero,List.set_cons_succ];done)|(simp only [putAll,Act.put,List.setIfInBounds_toArray,List.set_cons_zero,List.set_cons_succ];rfl)) (hJ8 () _ ⟨hHeld,(by (with_reducible repeat (first|apply nA_|apply nN_|apply nD_));exact HO_7.out),(by repeat (first|(with_reducible first|exact HB.out|apply bA_|apply bN_|apply bD_)|exact HB.out))⟩)
                ·skip
                 rintro _ w17 ⟨hS_,h0_,h1_⟩
                 have n0_:Aside0 (Kd.N k51 51 w17 w.heap.size (fun k_=>(w.heap.size≤k_)) (.slice Ao15 x7_1.length co15) x7_1):=⟨h0_⟩
                 have n1_:Aside0 (Below w.heap.size w w17):=⟨h1_⟩
                 clear HO_7
                 clear HB
                 clear h0_ h1_
                 have HO_7:=n0_
                 have HB:=n1_
                 clear n0_ n1_
                 have hHeld:w17.cell? (ad301.add ((x8_1).toNat * 2))=some (.string ((rd_T73 l0 x8_1).f0))∧w17.cell? ⟨(ad301.add ((x8_1).toNat * 2)).block,(ad301.add ((x8_1).toNat * 2)).off+1,none⟩=some (.slice A301_1 ((rd_T73 l0 x8_1).f1).length c301_1)∧w17.cell? (ad301.add ((x8_1).toNat * 2))=some (.string ((rd_T73 l0 x8_1).f0))∧w17.cell? ⟨(ad301.add ((x8_1).toNat * 2)).block,(ad301.add ((x8_1).toNat * 2)).off+1,none⟩=some (.slice A301_1 ((rd_T73 l0 x8_1).f1).length c301_1):=hS_
                 refine norm_ (a':=?_) ?_ ?_
                 rotate_left
                 ·simp only [putAll,Act.put,List.setIfInBounds_toArray,List.set_cons_zero,List.set_cons_succ]
                  rfl
                 refine two_ (i:=1) (j:=19) (Ni:=some 25) (Nj:=some 43) #[true,true,true,true,true,true,true,true,true,false,false,true,true,true,true,true,true,true,true,false,false,false] #[true,false,true,true,true,true,true,true,true,false,false,true,true,true,true,true,true,true,true,true,false,false] rfl rfl rfl rfl (two_of HT_.out (by kernel_rfl)) (by decide) (by decide) (fun K hK=>?_) (fun K hK=>?_)
                 ·skip
                  refine Kd.R_lit_step Kd.string _ 9 ?hg (N:=25) ?hd (xs:=([(⟨#[]⟩:ByteArray),(⟨#[97]⟩:ByteArray),(⟨#[98]⟩:ByteArray),(⟨#[99]⟩:ByteArray),(⟨#[100]⟩:ByteArray)]:List ByteArray)) (inner:=[.string (⟨#[]⟩:ByteArray),.string (⟨#[97]⟩:ByteArray),.string (⟨#[98]⟩:ByteArray),.string (⟨#[99]⟩:ByteArray),.string (⟨#[100]⟩:ByteArray)]) (ok:=fun _=>True) (okp:=fun _=>True) ?hr ?hp (fun _ hk=>hk) trivial (Below.refl _ _) (Nat.le_refl _) (by simp) ?_;(case hd=>rfl);(case hg=>rfl);(case hr=>first|(go_simp;done)|(go_simp;rfl));(case hp=>exact (Reps.one (show Kd.M Kd.string _ _ _ (⟨#[]⟩:ByteArray) [.string (⟨#[]⟩:ByteArray)] from rfl) (Reps.one (show Kd.M Kd.string _ _ _ (⟨#[97]⟩:ByteArray) [.string (⟨#[97]⟩:ByteArray)] from rfl) (Reps.one (show Kd.M Kd.string _ _ _ (⟨#[98]⟩:ByteArray) [.string (⟨#[98]⟩:ByteArray)] from rfl) (Reps.one (show Kd.M Kd.string _ _ _ (⟨#[99]⟩:ByteArray) [.string (⟨#[99]⟩:ByteArray)] from rfl) (Reps.one (show Kd.M Kd.string _ _ _ (⟨#[100]⟩:ByteArray) [.string (⟨#[100]⟩:ByteArray)] from rfl) (Reps.none _ _)))))))
                  intro v299 w18 ho19 hb hg_ hnew_
                  clear hg_ hnew_
                  (first|rw [← Ny298.out] at ho19|(simp only [Int.reduceToNat] at ho19;rw [← Ny298.out] at ho19))
                  have n0_:=Aside0.mk (Kd.N_elder' (by (with_reducible repeat (first|apply nA_|apply nN_|apply nD_));exact HO_7.out) (Kd.R_base ho19) hb)
                  have n1_:=Aside0.mk (Kd.R_lower (Kd.R_newM (M:=fun k_=>(w.heap.size≤k_)) ho19 (below_size (by repeat (first|(with_reducible first|exact HB.out|apply bA_|apply bN_|apply bD_)|exact HB.out))) (fun k_ h_=>h_)) (below_size (by repeat (first|(with_reducible first|exact HB.out|apply bA_|apply bN_|apply bD_)|exact HB.out))))
                  have n2_:=Aside0.mk (below_step (by repeat (first|(with_reducible first|exact HB.out|apply bA_|apply bN_|apply bD_)|exact HB.out)) hb)
                  clear HO_7
                  clear HB
                  have HO_7:=n0_
                  have HO300:=n1_
                  have HB:=n2_
                  clear n0_ n1_ n2_
                  clear hb ho19
                  obtain ⟨Ao20,co20,eo20⟩:=Kd.R_slice HO300.out
                  subst eo20
                  obtain ⟨ado20,fo20,_⟩:=Kd.at_string (Kd.R_reads' HO300.out).2.2 0 (by decide) (by rw [Ny298.out];simp)
                  cases fo20
                  refine hK.out _ _ ⟨((HB.out.cell (World.block_lt_of_cell? w _ hw301_0)).trans hw301_0),((HB.out.cell (World.block_lt_of_cell? w _ hw301_1)).trans hw301_1),((HB.out.cell (World.block_lt_of_cell? w _ hw304_0)).trans hw304_0),((HB.out.cell (World.block_lt_of_cell? w _ hw304_1)).trans hw304_1)⟩ (fun hHeld=>?_)
                  clear hK K
                  refine norm_ (a':=?_) ?_ ?_
                  rotate_left
                  ·show Act.put _ (some 25) _=_
                   simp only [Act.put,List.setIfInBounds_toArray,List.set_cons_zero,List.set_cons_succ,i64_w,i32_w]
                   rfl
                  refine pure_ (i:=9) (N:=some 33) (v:=?_) (a':=?_) #[true,true,true,true,true,true,true,true,true,true,false,true,true,true,true,true,true,true,true,false,false,false] rfl rfl (any_of HT_.out (by kernel_rfl)) (fun _ _ _ h=>h) (Or.inl ⟨by rfl,?_⟩) ?_ ?_
                  rotate_left
                  ·intro w'
                   go_simp
                   with_reducible rfl
                  rotate_left
                  ·simp only [Act.put,List.setIfInBounds_toArray,List.set_cons_zero,List.set_cons_succ,i64_w,i32_w]
                   rfl
                  exact norm_ (by first|(simp only [putAll,Act.put,List.setIfInBounds_toArray,List.set_cons_zero,List.set_cons_succ];done)|(simp only [putAll,Act.put,List.setIfInBounds_toArray,List.set_cons_zero,List.set_cons_succ];rfl)) (hJ1_8 (.slice (some ado20) y298.length co20,ado20) _ ⟨hHeld,(by (with_reducible repeat (first|apply rA_|apply rN_|apply rD_));exact Kd.R_mono HO300.out (fun _ hk=>hk.1)),(by (with_reducible repeat (first|apply nA_|apply nN_|apply nD_));exact HO_7.out),⟨_,rfl⟩,(by repeat (first|(with_reducible first|exact HB.out|apply bA_|apply bN_|apply bD_)|exact HB.out))⟩)
                 ·skip
                  refine goes_ Try.func14 (by kernel_rfl) rfl #[.slice A301_1 ((rd_T73 l0 x8_1).f1).length c301_1,.int .i64 a1,.int .i64 (wrap64 (a2 - 1))] (by rfl) rfl rfl (by (try simp only [List.map_toArray,List.map_cons,List.map_nil]);first|done|rfl|(simp only [List.length_drop,List.length_take];rfl)) ?_
                  with_reducible refine (ih kj3 (by have:=HK1.out;have:=HJ3.out;omega) _ _ ((rd_T73 l0 x8_1).f1) a1 (wrap64 (a2 - 1)) t305 _ ?side1 ?side2 A13.out).mono ?_
                  (case side1=>repeat (first|exact (Kd.C_below HR304_1.out HB.out)|(with_reducible refine cA_ ?_ _)|(with_reducible refine cN_ ?_ _)|(with_reducible refine cD_ ?_)))
                  (case side2=>exact HC304_1.out)
                  rintro e w18 ⟨v306,rfl,ho0,hb⟩
                  refine ⟨_,rfl,?_⟩
                  have n0_:=Aside0.mk (Kd.N_elder' (by (with_reducible repeat (first|apply nA_|apply nN_|apply nD_));exact HO_7.out) (Kd.N_base ho0) hb)
                  have n1_:=Aside0.mk (Kd.N_lower (Kd.N_mono (ok':=fun k_=>(w.heap.size≤k_)∧some k_≠(.slice Ao15 x7_1.length co15:Value).ownBlock) ho0 (fun k_ hk_=>⟨(Nat.le_trans (below_size (by repeat (first|(with_reducible first|exact HB.out|apply bA_|apply bN_|apply bD_)|exact HB.out))) hk_),(Kd.fresh' (Kd.N_lt (by (with_reducible repeat (first|apply nA_|apply nN_|apply nD_));exact HO_7.out)) k_ hk_)⟩)) (below_size (by repeat (first|(with_reducible first|exact HB.out|apply bA_|apply bN_|apply bD_)|exact HB.out))))
                  have n2_:=Aside0.mk (below_step (by repeat (first|(with_reducible first|exact HB.out|apply bA_|apply bN_|apply bD_)|exact HB.out)) hb)
                  clear HO_7
                  clear HB
                  have HO_7:=n0_
                  have HO307:=n1_
                  have HB:=n2_
                  clear n0_ n1_ n2_
                  (try clear hb)
                  (try clear hb2)
                  (try clear hk)
                  (try clear hi)
                  (try clear ho0)
                  refine hK.out _ _ ⟨((HB.out.cell (World.block_lt_of_cell? w _ hw301_0)).trans hw301_0),((HB.out.cell (World.block_lt_of_cell? w _ hw301_1)).trans hw301_1),((HB.out.cell (World.block_lt_of_cell? w _ hw304_0)).trans hw304_0),((HB.out.cell (World.block_lt_of_cell? w _ hw304_1)).trans hw304_1)⟩ (fun hHeld=>?_)
                  clear hK K
                  refine norm_ (a':=?_) ?_ ?_
                  rotate_left
                  ·show Act.put _ (some 43) _=_
                   simp only [Act.put,List.setIfInBounds_toArray,List.set_cons_zero,List.set_cons_succ,i64_w,i32_w]
                   rfl
                  exact norm_ (by first|(simp only [putAll,Act.put,List.setIfInBounds_toArray,List.set_cons_zero,List.set_cons_succ];done)|(simp only [putAll,Act.put,List.setIfInBounds_toArray,List.set_cons_zero,List.set_cons_succ];rfl)) (hJ8_19 (v306) _ ⟨hHeld,(by (with_reducible repeat (first|apply nA_|apply nN_|apply nD_));exact HO307.out),(by (with_reducible repeat (first|apply nA_|apply nN_|apply nD_));exact HO_7.out),(by repeat (first|(with_reducible first|exact HB.out|apply bA_|apply bN_|apply bD_)|exact HB.out))⟩)
               ·skip
                rintro ⟨v299,adz_v299⟩ w20 ⟨hS_,h0_,h1_,h2_,h3_⟩
                have n0_:Aside0 (Kd.R Kd.string 9 w20 w.heap.size (fun k_=>(w.heap.size≤k_)) v299 y298):=⟨h0_⟩
                have n1_:Aside0 (Kd.N k51 51 w20 w.heap.size (fun k_=>(w.heap.size≤k_)∧some k_≠(v299:Value).ownBlock) (.slice Ao15 x7_1.length co15) x7_1):=⟨h1_⟩
                have n2_:Aside0 (∃ c_,(v299:Value)=.slice (some adz_v299) y298.length c_):=⟨h2_⟩
                have n3_:Aside0 (Below w.heap.size w w20):=⟨h3_⟩
                clear HO_7
                clear HB
                clear h0_ h1_ h2_ h3_
                have HO300:=n0_
                have HO_7:=n1_
                have HA_HO300:=n2_
                have HB:=n3_
                clear n0_ n1_ n2_ n3_
                have hHeld:w20.cell? (ad301.add ((x8_1).toNat * 2))=some (.string ((rd_T73 l0 x8_1).f0))∧w20.cell? ⟨(ad301.add ((x8_1).toNat * 2)).block,(ad301.add ((x8_1).toNat * 2)).off+1,none⟩=some (.slice A301_1 ((rd_T73 l0 x8_1).f1).length c301_1)∧w20.cell? (ad301.add ((x8_1).toNat * 2))=some (.string ((rd_T73 l0 x8_1).f0))∧w20.cell? ⟨(ad301.add ((x8_1).toNat * 2)).block,(ad301.add ((x8_1).toNat * 2)).off+1,none⟩=some (.slice A301_1 ((rd_T73 l0 x8_1).f1).length c301_1):=hS_
                obtain ⟨co21,eo21⟩:=HA_HO300.out
                clear HA_HO300
                subst eo21
                refine norm_ (a':=?_) ?_ ?_
                rotate_left
                ·simp only [putAll,Act.put,List.setIfInBounds_toArray,List.set_cons_zero,List.set_cons_succ]
                 rfl
                refine one_ (i:=8) (N:=some 32) #[true,true,true,true,true,true,true,true,true,false,false,true,true,true,true,true,true,true,true,false,false,false] rfl rfl (one_of HT_.out (by kernel_rfl)) (by decide) (fun K hK=>?_)
                refine goes_ Try.func25 (by kernel_rfl) rfl #[.int .i64 (((rd_T73 l0 x8_1).f0).size:Int),.int .i64 5] (by rfl) rfl rfl (by (try simp only [List.map_toArray,List.map_cons,List.map_nil]);first|done|rfl|(simp only [List.length_drop,List.length_take];rfl)) ?_
                with_reducible refine (cadencelaw4_within.calls (((rd_T73 l0 x8_1).f0).size:Int) 5 t302 _ A10.out).mono ?_
                rintro e w' ⟨rfl,⟨nd,rfl⟩⟩
                refine ⟨_,rfl,?_⟩
                refine hK.out _ _ ⟨((HB.out.cell (World.block_lt_of_cell? w _ hw301_0)).trans hw301_0),((HB.out.cell (World.block_lt_of_cell? w _ hw301_1)).trans hw301_1),((HB.out.cell (World.block_lt_of_cell? w _ hw304_0)).trans hw304_0),((HB.out.cell (World.block_lt_of_cell? w _ hw304_1)).trans hw304_1)⟩ (fun hHeld=>?_)
                clear hK K
                refine norm_ (a':=?_) ?_ ?_
                rotate_left
                ·show Act.put _ (some 32) _=_
                 simp only [Act.put,List.setIfInBounds_toArray,List.set_cons_zero,List.set_cons_succ,i64_w,i32_w]
                 rfl
                refine pure_ (i:=9) (N:=some 33) (v:=?_) (a':=?_) #[true,true,true,true,true,true,true,true,true,true,false,true,true,true,true,true,true,true,true,false,false,false] rfl rfl (any_of HT_.out (by kernel_rfl)) (fun _ _ _ h=>h) (Or.inl ⟨by rfl,?_⟩) ?_ ?_
                rotate_left
                ·intro w'
                 go_simp
                 with_reducible rfl
                rotate_left
                ·simp only [Act.put,List.setIfInBounds_toArray,List.set_cons_zero,List.set_cons_succ,i64_w,i32_w]
                 rfl
                exact norm_ (by first|(simp only [putAll,Act.put,List.setIfInBounds_toArray,List.set_cons_zero,List.set_cons_succ];done)|(simp only [putAll,Act.put,List.setIfInBounds_toArray,List.set_cons_zero,List.set_cons_succ];rfl)) (hJ1_8 (.slice (some adz_v299) y298.length co21,adz_v299) _ ⟨hHeld,(by (with_reducible repeat (first|apply rA_|apply rN_|apply rD_));exact HO300.out),(by (with_reducible repeat (first|apply nA_|apply nN_|apply nD_));exact HO_7.out),⟨_,rfl⟩,(by repeat (first|(with_reducible first|exact HB.out|apply bA_|apply bN_|apply bD_)|exact HB.out))⟩)
              ·skip
               rintro v306 w18 ⟨hS_,h0_,h1_,h2_⟩
               have n0_:Aside0 (Kd.N k51 51 w18 w.heap.size (fun k_=>(w.heap.size≤k_)∧some k_≠(.slice Ao15 x7_1.length co15:Value).ownBlock) v306 t305):=⟨h0_⟩
               have n1_:Aside0 (Kd.N k51 51 w18 w.heap.size (fun k_=>(w.heap.size≤k_)∧some k_≠(v306:Value).ownBlock) (.slice Ao15 x7_1.length co15) x7_1):=⟨h1_⟩
               have n2_:Aside0 (Below w.heap.size w w18):=⟨h2_⟩
               clear HO_7
               clear HB
               clear h0_ h1_ h2_
               have HO307:=n0_
               have HO_7:=n1_
               have HB:=n2_
               clear n0_ n1_ n2_
               have hHeld:w18.cell? (ad301.add ((x8_1).toNat * 2))=some (.string ((rd_T73 l0 x8_1).f0))∧w18.cell? ⟨(ad301.add ((x8_1).toNat * 2)).block,(ad301.add ((x8_1).toNat * 2)).off+1,none⟩=some (.slice A301_1 ((rd_T73 l0 x8_1).f1).length c301_1)∧w18.cell? (ad301.add ((x8_1).toNat * 2))=some (.string ((rd_T73 l0 x8_1).f0))∧w18.cell? ⟨(ad301.add ((x8_1).toNat * 2)).block,(ad301.add ((x8_1).toNat * 2)).off+1,none⟩=some (.slice A301_1 ((rd_T73 l0 x8_1).f1).length c301_1):=hS_
               refine norm_ (a':=?_) ?_ ?_
               rotate_left
               ·simp only [putAll,Act.put,List.setIfInBounds_toArray,List.set_cons_zero,List.set_cons_succ]
                rfl
               refine one_ (i:=1) (N:=some 25) #[true,true,true,true,true,true,true,true,true,false,false,true,true,true,true,true,true,true,true,true,false,false] rfl rfl (one_of HT_.out (by kernel_rfl)) (by decide) (fun K hK=>?_)
               refine Kd.R_lit_step Kd.string _ 9 ?hg (N:=25) ?hd (xs:=([(⟨#[]⟩:ByteArray),(⟨#[97]⟩:ByteArray),(⟨#[98]⟩:ByteArray),(⟨#[99]⟩:ByteArray),(⟨#[100]⟩:ByteArray)]:List ByteArray)) (inner:=[.string (⟨#[]⟩:ByteArray),.string (⟨#[97]⟩:ByteArray),.string (⟨#[98]⟩:ByteArray),.string (⟨#[99]⟩:ByteArray),.string (⟨#[100]⟩:ByteArray)]) (ok:=fun _=>True) (okp:=fun _=>True) ?hr ?hp (fun _ hk=>hk) trivial (Below.refl _ _) (Nat.le_refl _) (by simp) ?_;(case hd=>rfl);(case hg=>rfl);(case hr=>first|(go_simp;done)|(go_simp;rfl));(case hp=>exact (Reps.one (show Kd.M Kd.string _ _ _ (⟨#[]⟩:ByteArray) [.string (⟨#[]⟩:ByteArray)] from rfl) (Reps.one (show Kd.M Kd.string _ _ _ (⟨#[97]⟩:ByteArray) [.string (⟨#[97]⟩:ByteArray)] from rfl) (Reps.one (show Kd.M Kd.string _ _ _ (⟨#[98]⟩:ByteArray) [.string (⟨#[98]⟩:ByteArray)] from rfl) (Reps.one (show Kd.M Kd.string _ _ _ (⟨#[99]⟩:ByteArray) [.string (⟨#[99]⟩:ByteArray)] from rfl) (Reps.one (show Kd.M Kd.string _ _ _ (⟨#[100]⟩:ByteArray) [.string (⟨#[100]⟩:ByteArray)] from rfl) (Reps.none _ _)))))))
               intro v299 w19 ho20 hb hg_ hnew_
               clear hg_ hnew_
               (first|rw [← Ny298.out] at ho20|(simp only [Int.reduceToNat] at ho20;rw [← Ny298.out] at ho20))
               have n0_:=Aside0.mk (Kd.N_elder' (by (with_reducible repeat (first|apply nA_|apply nN_|apply nD_));exact HO_7.out) (Kd.R_base ho20) hb)
               have n1_:=Aside0.mk (Kd.N_elder' (by (with_reducible repeat (first|apply nA_|apply nN_|apply nD_));exact HO307.out) (Kd.R_base ho20) hb)
               have n2_:=Aside0.mk (Kd.R_lower (Kd.R_newM (M:=fun k_=>(w.heap.size≤k_)) ho20 (below_size (by repeat (first|(with_reducible first|exact HB.out|apply bA_|apply bN_|apply bD_)|exact HB.out))) (fun k_ h_=>h_)) (below_size (by repeat (first|(with_reducible first|exact HB.out|apply bA_|apply bN_|apply bD_)|exact HB.out))))
               have n3_:=Aside0.mk (below_step (by repeat (first|(with_reducible first|exact HB.out|apply bA_|apply bN_|apply bD_)|exact HB.out)) hb)
               clear HO_7
               clear HO307
               clear HB
               have HO_7:=n0_
               have HO307:=n1_
               have HO300:=n2_
               have HB:=n3_
               clear n0_ n1_ n2_ n3_
               clear hb ho20
               obtain ⟨Ao21,co21,eo21⟩:=Kd.R_slice HO300.out
               subst eo21
               obtain ⟨ado21,fo21,_⟩:=Kd.at_string (Kd.R_reads' HO300.out).2.2 0 (by decide) (by rw [Ny298.out];simp)
               cases fo21
               refine hK.out _ _ ⟨((HB.out.cell (World.block_lt_of_cell? w _ hw301_0)).trans hw301_0),((HB.out.cell (World.block_lt_of_cell? w _ hw301_1)).trans hw301_1),((HB.out.cell (World.block_lt_of_cell? w _ hw304_0)).trans hw304_0),((HB.out.cell (World.block_lt_of_cell? w _ hw304_1)).trans hw304_1)⟩ (fun hHeld=>?_)
               clear hK K
               refine norm_ (a':=?_) ?_ ?_
               rotate_left
               ·show Act.put _ (some 25) _=_
                simp only [Act.put,List.setIfInBounds_toArray,List.set_cons_zero,List.set_cons_succ,i64_w,i32_w]
                rfl
               refine pure_ (i:=9) (N:=some 33) (v:=?_) (a':=?_) #[true,true,true,true,true,true,true,true,true,true,false,true,true,true,true,true,true,true,true,true,false,false] rfl rfl (any_of HT_.out (by kernel_rfl)) (fun _ _ _ h=>h) (Or.inl ⟨by rfl,?_⟩) ?_ ?_
               rotate_left
               ·intro w'
                go_simp
                with_reducible rfl
               rotate_left
               ·simp only [Act.put,List.setIfInBounds_toArray,List.set_cons_zero,List.set_cons_succ,i64_w,i32_w]
                rfl
               exact norm_ (by first|(simp only [putAll,Act.put,List.setIfInBounds_toArray,List.set_cons_zero,List.set_cons_succ];done)|(simp only [putAll,Act.put,List.setIfInBounds_toArray,List.set_cons_zero,List.set_cons_succ];rfl)) (hJ1_8_19 (.slice (some ado21) y298.length co21,ado21,v306) _ ⟨hHeld,(by (with_reducible repeat (first|apply rA_|apply rN_|apply rD_));exact Kd.R_mono HO300.out (fun _ hk=>hk.1)),(by (with_reducible repeat (first|apply nA_|apply nN_|apply nD_));exact Kd.N_mono HO307.out (fun _ hk=>⟨hk.1.1,⟨hk.2,hk.1.2⟩⟩)),(by (with_reducible repeat (first|apply nA_|apply nN_|apply nD_));exact Kd.N_mono HO_7.out (fun _ hk=>⟨hk.1.1,⟨hk.2,hk.1.2⟩⟩)),⟨_,rfl⟩,(by repeat (first|(with_reducible first|exact HB.out|apply bA_|apply bN_|apply bD_)|exact HB.out))⟩)
             ·skip
              rintro ⟨v299,adz_v299⟩ w20 ⟨hS_,h0_,h1_,h2_,h3_⟩
              have n0_:Aside0 (Kd.R Kd.string 9 w20 w.heap.size (fun k_=>(w.heap.size≤k_)) v299 y298):=⟨h0_⟩
              have n1_:Aside0 (Kd.N k51 51 w20 w.heap.size (fun k_=>(w.heap.size≤k_)∧some k_≠(v299:Value).ownBlock) (.slice Ao15 x7_1.length co15) x7_1):=⟨h1_⟩
              have n2_:Aside0 (∃ c_,(v299:Value)=.slice (some adz_v299) y298.length c_):=⟨h2_⟩
              have n3_:Aside0 (Below w.heap.size w w20):=⟨h3_⟩
              clear HO_7
              clear HB
              clear h0_ h1_ h2_ h3_
              have HO300:=n0_
              have HO_7:=n1_
              have HA_HO300:=n2_
              have HB:=n3_
              clear n0_ n1_ n2_ n3_
              have hHeld:w20.cell? (ad301.add ((x8_1).toNat * 2))=some (.string ((rd_T73 l0 x8_1).f0))∧w20.cell? ⟨(ad301.add ((x8_1).toNat * 2)).block,(ad301.add ((x8_1).toNat * 2)).off+1,none⟩=some (.slice A301_1 ((rd_T73 l0 x8_1).f1).length c301_1)∧w20.cell? (ad301.add ((x8_1).toNat * 2))=some (.string ((rd_T73 l0 x8_1).f0))∧w20.cell? ⟨(ad301.add ((x8_1).toNat * 2)).block,(ad301.add ((x8_1).toNat * 2)).off+1,none⟩=some (.slice A301_1 ((rd_T73 l0 x8_1).f1).length c301_1):=hS_
              obtain ⟨co21,eo21⟩:=HA_HO300.out
              clear HA_HO300
              subst eo21
              refine norm_ (a':=?_) ?_ ?_
              rotate_left
              ·simp only [putAll,Act.put,List.setIfInBounds_toArray,List.set_cons_zero,List.set_cons_succ]
               rfl
              refine two_ (i:=10) (j:=19) (Ni:=some 34) (Nj:=some 43) #[true,true,true,true,true,true,true,true,true,true,true,true,true,true,true,true,true,true,true,false,false,false] #[true,true,true,true,true,true,true,true,true,true,false,true,true,true,true,true,true,true,true,true,false,false] rfl rfl rfl rfl (two_of HT_.out (by kernel_rfl)) (by decide) (by decide) (fun K hK=>?_) (fun K hK=>?_)
              ·skip
               (have p303:0≤(t302:Int):=of_decide_eq_true (by first|(with_reducible assumption)|assumption);have q303:t302 < (y298.length:Int):=of_decide_eq_true (by first|(with_reducible assumption)|assumption);obtain ⟨ad303,e303,hx303_0⟩:=Kd.at_string (Kd.R_reads' HO300.out).2.2 t302 p303 q303;obtain rfl:adz_v299=ad303:=(by injection e303))
               refine value_ (w1:=?_) (v:=?_) (by rfl) rfl ?_ ?_
               rotate_left 2
               ·go_simp
                constructor
                ·rfl
                ·rfl
               clear hx303_0
               refine hK.out _ _ ⟨((HB.out.cell (World.block_lt_of_cell? w _ hw301_0)).trans hw301_0),((HB.out.cell (World.block_lt_of_cell? w _ hw301_1)).trans hw301_1),((HB.out.cell (World.block_lt_of_cell? w _ hw304_0)).trans hw304_0),((HB.out.cell (World.block_lt_of_cell? w _ hw304_1)).trans hw304_1)⟩ (fun hHeld=>?_)
               clear hK K
               refine norm_ (a':=?_) ?_ ?_
               rotate_left
               ·show Act.put _ (some 34) _=_
                simp only [Act.put,List.setIfInBounds_toArray,List.set_cons_zero,List.set_cons_succ,i64_w,i32_w]
                rfl
               exact norm_ (by first|(simp only [putAll,Act.put,List.setIfInBounds_toArray,List.set_cons_zero,List.set_cons_succ];done)|(simp only [putAll,Act.put,List.setIfInBounds_toArray,List.set_cons_zero,List.set_cons_succ];rfl)) (hJ1_8_10 (.slice (some adz_v299) y298.length co21,adz_v299) _ ⟨hHeld,(by (with_reducible repeat (first|apply rA_|apply rN_|apply rD_));exact HO300.out),(by (with_reducible repeat (first|apply nA_|apply nN_|apply nD_));exact HO_7.out),⟨_,rfl⟩,(by repeat (first|(with_reducible first|exact HB.out|apply bA_|apply bN_|apply bD_)|exact HB.out))⟩)
              ·skip
               refine goes_ Try.func14 (by kernel_rfl) rfl #[.slice A301_1 ((rd_T73 l0 x8_1).f1).length c301_1,.int .i64 a1,.int .i64 (wrap64 (a2 - 1))] (by rfl) rfl rfl (by (try simp only [List.map_toArray,List.map_cons,List.map_nil]);first|done|rfl|(simp only [List.length_drop,List.length_take];rfl)) ?_
               with_reducible refine (ih kj3 (by have:=HK1.out;have:=HJ3.out;omega) _ _ ((rd_T73 l0 x8_1).f1) a1 (wrap64 (a2 - 1)) t305 _ ?side1 ?side2 A13.out).mono ?_
               (case side1=>repeat (first|exact (Kd.C_below HR304_1.out HB.out)|(with_reducible refine cA_ ?_ _)|(with_reducible refine cN_ ?_ _)|(with_reducible refine cD_ ?_)))
               (case side2=>exact HC304_1.out)
               rintro e w22 ⟨v306,rfl,ho0,hb⟩
               refine ⟨_,rfl,?_⟩
               have n0_:=Aside0.mk (Kd.N_elder' (by (with_reducible repeat (first|apply nA_|apply nN_|apply nD_));exact HO_7.out) (Kd.N_base ho0) hb)
               have n1_:=Aside0.mk (Kd.R_below (by (with_reducible repeat (first|apply rA_|apply rN_|apply rD_));exact HO300.out) hb)
               have n2_:=Aside0.mk (Kd.N_lower (Kd.N_mono (ok':=fun k_=>(w.heap.size≤k_)∧some k_≠(.slice Ao15 x7_1.length co15:Value).ownBlock∧some k_≠(.slice (some adz_v299) y298.length co21:Value).ownBlock) ho0 (fun k_ hk_=>⟨(Nat.le_trans (below_size (by repeat (first|(with_reducible first|exact HB.out|apply bA_|apply bN_|apply bD_)|exact HB.out))) hk_),(Kd.fresh' (Kd.N_lt (by (with_reducible repeat (first|apply nA_|apply nN_|apply nD_));exact HO_7.out)) k_ hk_),(Kd.fresh' (Kd.R_lt (by (with_reducible repeat (first|apply rA_|apply rN_|apply rD_));exact HO300.out)) k_ hk_)⟩)) (below_size (by repeat (first|(with_reducible first|exact HB.out|apply bA_|apply bN_|apply bD_)|exact HB.out))))
               have n3_:=Aside0.mk (below_step (by repeat (first|(with_reducible first|exact HB.out|apply bA_|apply bN_|apply bD_)|exact HB.out)) hb)
               clear HO_7
               clear HO300
               clear HB
               have HO_7:=n0_
               have HO300:=n1_
               have HO307:=n2_
               have HB:=n3_
               clear n0_ n1_ n2_ n3_
               (try clear hb)
               (try clear hb2)
               (try clear hk)
               (try clear hi)
               (try clear ho0)
               refine hK.out _ _ ⟨((HB.out.cell (World.block_lt_of_cell? w _ hw301_0)).trans hw301_0),((HB.out.cell (World.block_lt_of_cell? w _ hw301_1)).trans hw301_1),((HB.out.cell (World.block_lt_of_cell? w _ hw304_0)).trans hw304_0),((HB.out.cell (World.block_lt_of_cell? w _ hw304_1)).trans hw304_1)⟩ (fun hHeld=>?_)
               clear hK K
               refine norm_ (a':=?_) ?_ ?_
               rotate_left
               ·show Act.put _ (some 43) _=_
                simp only [Act.put,List.setIfInBounds_toArray,List.set_cons_zero,List.set_cons_succ,i64_w,i32_w]
                rfl
               exact norm_ (by first|(simp only [putAll,Act.put,List.setIfInBounds_toArray,List.set_cons_zero,List.set_cons_succ];done)|(simp only [putAll,Act.put,List.setIfInBounds_toArray,List.set_cons_zero,List.set_cons_succ];rfl)) (hJ1_8_19 (.slice (some adz_v299) y298.length co21,adz_v299,v306) _ ⟨hHeld,(by (with_reducible repeat (first|apply rA_|apply rN_|apply rD_));exact HO300.out),(by (with_reducible repeat (first|apply nA_|apply nN_|apply nD_));exact Kd.N_mono HO307.out (fun _ hk=>⟨hk.1,⟨hk.2.2,hk.2.1⟩⟩)),(by (with_reducible repeat (first|apply nA_|apply nN_|apply nD_));exact Kd.N_mono HO_7.out (fun _ hk=>⟨hk.1.1,⟨hk.1.2,hk.2⟩⟩)),⟨_,rfl⟩,(by repeat (first|(with_reducible first|exact HB.out|apply bA_|apply bN_|apply bD_)|exact HB.out))⟩)
            ·skip
             rintro ⟨v299,adz_v299,v306⟩ w21 ⟨hS_,h0_,h1_,h2_,h3_,h4_⟩
             have n0_:Aside0 (Kd.R Kd.string 9 w21 w.heap.size (fun k_=>(w.heap.size≤k_)) v299 y298):=⟨h0_⟩
             have n1_:Aside0 (Kd.N k51 51 w21 w.heap.size (fun k_=>(w.heap.size≤k_)∧some k_≠(v299:Value).ownBlock∧some k_≠(.slice Ao15 x7_1.length co15:Value).ownBlock) v306 t305):=⟨h1_⟩
             have n2_:Aside0 (Kd.N k51 51 w21 w.heap.size (fun k_=>(w.heap.size≤k_)∧some k_≠(v299:Value).ownBlock∧some k_≠(v306:Value).ownBlock) (.slice Ao15 x7_1.length co15) x7_1):=⟨h2_⟩
             have n3_:Aside0 (∃ c_,(v299:Value)=.slice (some adz_v299) y298.length c_):=⟨h3_⟩
             have n4_:Aside0 (Below w.heap.size w w21):=⟨h4_⟩
             clear HO_7
             clear HB
             clear h0_ h1_ h2_ h3_ h4_
             have HO300:=n0_
             have HO307:=n1_
             have HO_7:=n2_
             have HA_HO300:=n3_
             have HB:=n4_
             clear n0_ n1_ n2_ n3_ n4_
             have hHeld:w21.cell? (ad301.add ((x8_1).toNat * 2))=some (.string ((rd_T73 l0 x8_1).f0))∧w21.cell? ⟨(ad301.add ((x8_1).toNat * 2)).block,(ad301.add ((x8_1).toNat * 2)).off+1,none⟩=some (.slice A301_1 ((rd_T73 l0 x8_1).f1).length c301_1)∧w21.cell? (ad301.add ((x8_1).toNat * 2))=some (.string ((rd_T73 l0 x8_1).f0))∧w21.cell? ⟨(ad301.add ((x8_1).toNat * 2)).block,(ad301.add ((x8_1).toNat * 2)).off+1,none⟩=some (.slice A301_1 ((rd_T73 l0 x8_1).f1).length c301_1):=hS_
             obtain ⟨co22,eo22⟩:=HA_HO300.out
             clear HA_HO300
             subst eo22
             refine norm_ (a':=?_) ?_ ?_
             rotate_left
             ·simp only [putAll,Act.put,List.setIfInBounds_toArray,List.set_cons_zero,List.set_cons_succ]
              rfl
             refine one_ (i:=10) (N:=some 34) #[true,true,true,true,true,true,true,true,true,true,true,true,true,true,true,true,true,true,true,true,false,false] rfl rfl (one_of HT_.out (by kernel_rfl)) (by decide) (fun K hK=>?_)
             (have p303:0≤(t302:Int):=of_decide_eq_true (by first|(with_reducible assumption)|assumption);have q303:t302 < (y298.length:Int):=of_decide_eq_true (by first|(with_reducible assumption)|assumption);obtain ⟨ad303,e303,hx303_0⟩:=Kd.at_string (Kd.R_reads' HO300.out).2.2 t302 p303 q303;obtain rfl:adz_v299=ad303:=(by injection e303))
             refine value_ (w1:=?_) (v:=?_) (by rfl) rfl ?_ ?_
             rotate_left 2
             ·go_simp
              constructor
              ·rfl
              ·rfl
             clear hx303_0
             refine hK.out _ _ ⟨((HB.out.cell (World.block_lt_of_cell? w _ hw301_0)).trans hw301_0),((HB.out.cell (World.block_lt_of_cell? w _ hw301_1)).trans hw301_1),((HB.out.cell (World.block_lt_of_cell? w _ hw304_0)).trans hw304_0),((HB.out.cell (World.block_lt_of_cell? w _ hw304_1)).trans hw304_1)⟩ (fun hHeld=>?_)
             clear hK K
             refine norm_ (a':=?_) ?_ ?_
             rotate_left
             ·show Act.put _ (some 34) _=_
              simp only [Act.put,List.setIfInBounds_toArray,List.set_cons_zero,List.set_cons_succ,i64_w,i32_w]
              rfl
             exact norm_ (by first|(simp only [putAll,Act.put,List.setIfInBounds_toArray,List.set_cons_zero,List.set_cons_succ];done)|(simp only [putAll,Act.put,List.setIfInBounds_toArray,List.set_cons_zero,List.set_cons_succ];rfl)) (hJ1_8_10_19 (.slice (some adz_v299) y298.length co22,adz_v299,v306) _ ⟨hHeld,(by (with_reducible repeat (first|apply rA_|apply rN_|apply rD_));exact HO300.out),(by (with_reducible repeat (first|apply nA_|apply nN_|apply nD_));exact HO307.out),(by (with_reducible repeat (first|apply nA_|apply nN_|apply nD_));exact HO_7.out),⟨_,rfl⟩,(by repeat (first|(with_reducible first|exact HB.out|apply bA_|apply bN_|apply bD_)|exact HB.out))⟩)
           ·skip
            rintro ⟨v299,adz_v299⟩ w20 ⟨hS_,h0_,h1_,h2_,h3_⟩
            have n0_:Aside0 (Kd.R Kd.string 9 w20 w.heap.size (fun k_=>(w.heap.size≤k_)) v299 y298):=⟨h0_⟩
            have n1_:Aside0 (Kd.N k51 51 w20 w.heap.size (fun k_=>(w.heap.size≤k_)∧some k_≠(v299:Value).ownBlock) (.slice Ao15 x7_1.length co15) x7_1):=⟨h1_⟩
            have n2_:Aside0 (∃ c_,(v299:Value)=.slice (some adz_v299) y298.length c_):=⟨h2_⟩
            have n3_:Aside0 (Below w.heap.size w w20):=⟨h3_⟩
            clear HO_7
            clear HB
            clear h0_ h1_ h2_ h3_
            have HO300:=n0_
            have HO_7:=n1_
            have HA_HO300:=n2_
            have HB:=n3_
            clear n0_ n1_ n2_ n3_
            have hHeld:w20.cell? (ad301.add ((x8_1).toNat * 2))=some (.string ((rd_T73 l0 x8_1).f0))∧w20.cell? ⟨(ad301.add ((x8_1).toNat * 2)).block,(ad301.add ((x8_1).toNat * 2)).off+1,none⟩=some (.slice A301_1 ((rd_T73 l0 x8_1).f1).length c301_1)∧w20.cell? (ad301.add ((x8_1).toNat * 2))=some (.string ((rd_T73 l0 x8_1).f0))∧w20.cell? ⟨(ad301.add ((x8_1).toNat * 2)).block,(ad301.add ((x8_1).toNat * 2)).off+1,none⟩=some (.slice A301_1 ((rd_T73 l0 x8_1).f1).length c301_1):=hS_
            obtain ⟨co21,eo21⟩:=HA_HO300.out
            clear HA_HO300
            subst eo21
            refine norm_ (a':=?_) ?_ ?_
            rotate_left
            ·simp only [putAll,Act.put,List.setIfInBounds_toArray,List.set_cons_zero,List.set_cons_succ]
             rfl
            refine one_ (i:=19) (N:=some 43) #[true,true,true,true,true,true,true,true,true,true,true,true,true,true,true,true,true,true,true,true,false,false] rfl rfl (one_of HT_.out (by kernel_rfl)) (by decide) (fun K hK=>?_)
            refine goes_ Try.func14 (by kernel_rfl) rfl #[.slice A301_1 ((rd_T73 l0 x8_1).f1).length c301_1,.int .i64 a1,.int .i64 (wrap64 (a2 - 1))] (by rfl) rfl rfl (by (try simp only [List.map_toArray,List.map_cons,List.map_nil]);first|done|rfl|(simp only [List.length_drop,List.length_take];rfl)) ?_
            with_reducible refine (ih kj3 (by have:=HK1.out;have:=HJ3.out;omega) _ _ ((rd_T73 l0 x8_1).f1) a1 (wrap64 (a2 - 1)) t305 _ ?side1 ?side2 A13.out).mono ?_
            (case side1=>repeat (first|exact (Kd.C_below HR304_1.out HB.out)|(with_reducible refine cA_ ?_ _)|(with_reducible refine cN_ ?_ _)|(with_reducible refine cD_ ?_)))
            (case side2=>exact HC304_1.out)
            rintro e w22 ⟨v306,rfl,ho0,hb⟩
            refine ⟨_,rfl,?_⟩
            have n0_:=Aside0.mk (Kd.N_elder' (by (with_reducible repeat (first|apply nA_|apply nN_|apply nD_));exact HO_7.out) (Kd.N_base ho0) hb)
            have n1_:=Aside0.mk (Kd.R_below (by (with_reducible repeat (first|apply rA_|apply rN_|apply rD_));exact HO300.out) hb)
            have n2_:=Aside0.mk (Kd.N_lower (Kd.N_mono (ok':=fun k_=>(w.heap.size≤k_)∧some k_≠(.slice Ao15 x7_1.length co15:Value).ownBlock∧some k_≠(.slice (some adz_v299) y298.length co21:Value).ownBlock) ho0 (fun k_ hk_=>⟨(Nat.le_trans (below_size (by repeat (first|(with_reducible first|exact HB.out|apply bA_|apply bN_|apply bD_)|exact HB.out))) hk_),(Kd.fresh' (Kd.N_lt (by (with_reducible repeat (first|apply nA_|apply nN_|apply nD_));exact HO_7.out)) k_ hk_),(Kd.fresh' (Kd.R_lt (by (with_reducible repeat (first|apply rA_|apply rN_|apply rD_));exact HO300.out)) k_ hk_)⟩)) (below_size (by repeat (first|(with_reducible first|exact HB.out|apply bA_|apply bN_|apply bD_)|exact HB.out))))
            have n3_:=Aside0.mk (below_step (by repeat (first|(with_reducible first|exact HB.out|apply bA_|apply bN_|apply bD_)|exact HB.out)) hb)
            clear HO_7
            clear HO300
            clear HB
            have HO_7:=n0_
            have HO300:=n1_
            have HO307:=n2_
            have HB:=n3_
            clear n0_ n1_ n2_ n3_
            (try clear hb)
            (try clear hb2)
            (try clear hk)
            (try clear hi)
            (try clear ho0)
            refine hK.out _ _ ⟨((HB.out.cell (World.block_lt_of_cell? w _ hw301_0)).trans hw301_0),((HB.out.cell (World.block_lt_of_cell? w _ hw301_1)).trans hw301_1),((HB.out.cell (World.block_lt_of_cell? w _ hw304_0)).trans hw304_0),((HB.out.cell (World.block_lt_of_cell? w _ hw304_1)).trans hw304_1)⟩ (fun hHeld=>?_)
            clear hK K
            refine norm_ (a':=?_) ?_ ?_
            rotate_left
            ·show Act.put _ (some 43) _=_
             simp only [Act.put,List.setIfInBounds_toArray,List.set_cons_zero,List.set_cons_succ,i64_w,i32_w]
             rfl
            exact norm_ (by first|(simp only [putAll,Act.put,List.setIfInBounds_toArray,List.set_cons_zero,List.set_cons_succ];done)|(simp only [putAll,Act.put,List.setIfInBounds_toArray,List.set_cons_zero,List.set_cons_succ];rfl)) (hJ1_8_10_19 (.slice (some adz_v299) y298.length co21,adz_v299,v306) _ ⟨hHeld,(by (with_reducible repeat (first|apply rA_|apply rN_|apply rD_));exact HO300.out),(by (with_reducible repeat (first|apply nA_|apply nN_|apply nD_));exact Kd.N_mono HO307.out (fun _ hk=>⟨hk.1,⟨hk.2.2,hk.2.1⟩⟩)),(by (with_reducible repeat (first|apply nA_|apply nN_|apply nD_));exact Kd.N_mono HO_7.out (fun _ hk=>⟨hk.1.1,⟨hk.1.2,hk.2⟩⟩)),⟨_,rfl⟩,(by repeat (first|(with_reducible first|exact HB.out|apply bA_|apply bN_|apply bD_)|exact HB.out))⟩)
          rintro ⟨v299,adz_v299,v306⟩ w21 ⟨hS_,h0_,h1_,h2_,h3_,h4_⟩
          have n0_:Aside0 (Kd.R Kd.string 9 w21 w.heap.size (fun k_=>(w.heap.size≤k_)) v299 y298):=⟨h0_⟩
          have n1_:Aside0 (Kd.N k51 51 w21 w.heap.size (fun k_=>(w.heap.size≤k_)∧some k_≠(v299:Value).ownBlock∧some k_≠(.slice Ao15 x7_1.length co15:Value).ownBlock) v306 t305):=⟨h1_⟩
          have n2_:Aside0 (Kd.N k51 51 w21 w.heap.size (fun k_=>(w.heap.size≤k_)∧some k_≠(v299:Value).ownBlock∧some k_≠(v306:Value).ownBlock) (.slice Ao15 x7_1.length co15) x7_1):=⟨h2_⟩
          have n3_:Aside0 (∃ c_,(v299:Value)=.slice (some adz_v299) y298.length c_):=⟨h3_⟩
          have n4_:Aside0 (Below w.heap.size w w21):=⟨h4_⟩
          clear HO_7
          clear HB
          clear h0_ h1_ h2_ h3_ h4_
          have HO300:=n0_
          have HO307:=n1_
          have HO_7:=n2_
          have HA_HO300:=n3_
          have HB:=n4_
          clear n0_ n1_ n2_ n3_ n4_
          have hHeld:w21.cell? (ad301.add ((x8_1).toNat * 2))=some (.string ((rd_T73 l0 x8_1).f0))∧w21.cell? ⟨(ad301.add ((x8_1).toNat * 2)).block,(ad301.add ((x8_1).toNat * 2)).off+1,none⟩=some (.slice A301_1 ((rd_T73 l0 x8_1).f1).length c301_1)∧w21.cell? (ad301.add ((x8_1).toNat * 2))=some (.string ((rd_T73 l0 x8_1).f0))∧w21.cell? ⟨(ad301.add ((x8_1).toNat * 2)).block,(ad301.add ((x8_1).toNat * 2)).off+1,none⟩=some (.slice A301_1 ((rd_T73 l0 x8_1).f1).length c301_1):=hS_
          obtain ⟨co22,eo22⟩:=HA_HO300.out
          clear HA_HO300
          subst eo22
          obtain ⟨Ao23,co23,eo23⟩:=Kd.N_slice HO307.out
          (first|subst eo23|(injection eo23 with f1_ f2_ f3_;have f4_:=f1_.symm;have f5_:=f3_.symm;clear f1_ f2_ f3_;subst f4_;subst f5_))
          refine norm_ (a':=?_) ?_ ?_
          rotate_left
          ·simp only [putAll,Act.put,List.setIfInBounds_toArray,List.set_cons_zero,List.set_cons_succ]
           rfl
          refine one_ (i:=20) (N:=some 44) #[true,true,true,true,true,true,true,true,true,true,true,true,true,true,true,true,true,true,true,true,true,false] rfl rfl (one_of HT_.out (by kernel_rfl)) (by decide) (fun K hK=>?_)
          refine goes_ Try.func16 (by kernel_rfl) rfl #[.slice Ao15 x7_1.length co15,.string (rdOf ByteArray.empty y298 t302),.slice Ao23 t305.length co23] (by rfl) rfl rfl (by (try simp only [List.map_toArray,List.map_cons,List.map_nil]);first|done|rfl|(simp only [List.length_drop,List.length_take];rfl)) ?_
          with_reducible refine (cadenceref2_With.calls kj3 (fun k_=>((w.heap.size≤k_)∧(some k_≠(.slice (some adz_v299) y298.length co22:Value).ownBlock∧some k_≠(.slice Ao23 t305.length co23:Value).ownBlock))) _ _ x7_1 (rdOf ByteArray.empty y298 t302) (fun k_=>((w.heap.size≤k_)∧(some k_≠(.slice (some adz_v299) y298.length co22:Value).ownBlock∧some k_≠(.slice Ao15 x7_1.length co15:Value).ownBlock))) _ _ t305 t308 _ ?side1 ?side2 A14.out).mono ?_
          (case side1=>exact Kd.N_V (HO_7.out))
          (case side2=>exact Kd.N_V (HO307.out))
          rintro e w24 ⟨v309,rfl,ho0,hb⟩
          refine ⟨_,rfl,?_⟩
          have n0_:=Aside0.mk (Kd.N_elder' (by (with_reducible repeat (first|apply nA_|apply nN_|apply nD_));exact HO_7.out) (Kd.N_base ho0) hb)
          have n1_:=Aside0.mk (Kd.R_below (by (with_reducible repeat (first|apply rA_|apply rN_|apply rD_));exact HO300.out) hb)
          have n2_:=Aside0.mk (Kd.N_elder' (by (with_reducible repeat (first|apply nA_|apply nN_|apply nD_));exact HO307.out) (Kd.N_base ho0) hb)
          have n3_:=Aside0.mk (Kd.N_lower (Kd.N_mono (ok':=fun k_=>(w.heap.size≤k_)∧some k_≠(.slice (some adz_v299) y298.length co22:Value).ownBlock) ho0 (fun k_ hk_=>⟨Or.elim hk_ (fun hs_=>Or.elim hs_ (fun hs_=>hs_.1) (fun hs_=>hs_.1)) (fun hn_=>(Nat.le_trans (below_size (by repeat (first|(with_reducible first|exact HB.out|apply bA_|apply bN_|apply bD_)|exact HB.out))) hn_)),Or.elim hk_ (fun hs_=>Or.elim hs_ (fun hs_=>hs_.2.1) (fun hs_=>hs_.2.1)) (fun hn_=>(Kd.fresh' (Kd.R_lt (by (with_reducible repeat (first|apply rA_|apply rN_|apply rD_));exact HO300.out)) k_ hn_))⟩)) (below_size (by repeat (first|(with_reducible first|exact HB.out|apply bA_|apply bN_|apply bD_)|exact HB.out))))
          have n4_:=Aside0.mk (below_step (by repeat (first|(with_reducible first|exact HB.out|apply bA_|apply bN_|apply bD_)|exact HB.out)) hb)
          clear HO_7
          clear HO300
          clear HO307
          clear HB
          have HO_7:=n0_
          have HO300:=n1_
          have HO307:=n2_
          have HO310:=n3_
          have HB:=n4_
          clear n0_ n1_ n2_ n3_ n4_
          (try clear hb)
          (try clear hb2)
          (try clear hk)
          (try clear hi)
          (try clear ho0)
          refine hK.out _ _ ⟨((HB.out.cell (World.block_lt_of_cell? w _ hw301_0)).trans hw301_0),((HB.out.cell (World.block_lt_of_cell? w _ hw301_1)).trans hw301_1),((HB.out.cell (World.block_lt_of_cell? w _ hw304_0)).trans hw304_0),((HB.out.cell (World.block_lt_of_cell? w _ hw304_1)).trans hw304_1)⟩ (fun hHeld=>?_)
          clear hK K
          refine norm_ (a':=?_) ?_ ?_
          rotate_left
          ·show Act.put _ (some 44) _=_
           simp only [Act.put,List.setIfInBounds_toArray,List.set_cons_zero,List.set_cons_succ,i64_w,i32_w]
           rfl
          refine pure_ (i:=21) (N:=some 7) (v:=?_) (a':=?_) #[true,true,true,true,true,true,true,true,true,true,true,true,true,true,true,true,true,true,true,true,true,true] rfl rfl (any_of HT_.out (by kernel_rfl)) (fun _ _ _ h=>h) (Or.inl ⟨by rfl,?_⟩) ?_ ?_
          rotate_left
          ·intro w'
           go_simp
           with_reducible rfl
          rotate_left
          ·simp only [Act.put,List.setIfInBounds_toArray,List.set_cons_zero,List.set_cons_succ,i64_w,i32_w]
           rfl
          refine done_ (done_of HT_.out (by kernel_rfl)) ?_
          try go_wp2
          go_roundg kj3
          case measure=>have:=HK1.out;have:=HJ3.out;omega
          case rel=>exact ⟨(t308),(wrap64 (x8_1+1)),(by first|rfl|(simp;done)|(simp [*];done)),H',⟨by have:=HK1.out;have:=HJ3.out;omega⟩,⟨by (with_reducible repeat (first|apply nA_|apply nN_|apply nD_));exact Kd.N_mono HO310.out (fun _ hk=>hk.1)⟩,⟨by repeat (first|(with_reducible first|exact HB.out|apply bA_|apply bN_|apply bD_)|exact HB.out)⟩⟩
         ·rw [if_neg c12] at H
          exact absurd H (by simp)
        ·rw [if_neg c11] at H
         exact absurd H (by simp)
       ·rw [if_neg c9] at H
        exact absurd H (by simp)
      ·rw [if_neg c8] at H
       exact absurd H (by simp)
     ·replace c7:=Bool.eq_false_iff.mpr c7
      subst c7
      have H1:(some x7_1)=some r:=by rw [if_neg (show ¬ (false=true) by decide)] at H;exact H
      clear H
      have H:=H1
      clear H1
      obtain rfl:=Option.some.inj H
      go_wp2
      go_ret
      exact ⟨_,by first|rfl|(simp [errW_none,errW_some] <;> rfl)|(simp [*,errW_none,errW_some] <;> rfl),by (with_reducible repeat (first|apply nA_|apply nN_|apply nD_));exact HO_7.out,by repeat (first|(with_reducible first|exact HB.out|apply bA_|apply bN_|apply bD_)|exact HB.out)⟩
end Go.Proofs.Ytainbaehfdhmbaa.PX
set_option linter.unusedVariables false
namespace Go.Proofs.Ytainbaehfdhmbaa.PX
open Go.RowKit Go.Proofs.YtainbaehfdhmbaaW.PrintWords Go.Proofs.YtainbaehfdhmbaaW.PrintLast Go.Proofs.YtainbaehfdhmbaaW.PrintMore Go.Proofs.Ytainbaehfdhmbaa
theorem within4 (a:Int) {n:Int} (h0:0 < n) (h1:n≤1000000):∃ r,0≤r∧r < n∧cadencelaw4_within.f a n=some r:=by
 obtain ⟨r,r0,r1,h⟩:=tmod_in a h0 h1
 refine ⟨r,r0,r1,?_⟩
 unfold cadencelaw4_within.f
 rw [if_neg (by omega),← h]
 split <;> rfl
def five:List ByteArray:=[(⟨#[]⟩:ByteArray),(⟨#[97]⟩:ByteArray),(⟨#[98]⟩:ByteArray),(⟨#[99]⟩:ByteArray),(⟨#[100]⟩:ByteArray)]
theorem small_ev {l:List Raw} (h:RawOk l):∀ (w D:Nat),w≤100→D≤100→∃ t,Ok w D t∧Ev (fun k=>cadencelaw4_Small.f k l (w:Int) (D:Int)) t:=by
 induction h with
 | mk l hl hk ih =>
  intro w D hw hD
  have stop:∀ (t:Tr) (i:Nat),(i < l.length→i < w→D=0)→Ev (fun k=>cadencelaw4_Small.l0 k l (w:Int) (D:Int) t (i:Int)) t:=by
   intro t i hi
   have h1:Ev (fun k=>cadencelaw4_Small.j1 k l (w:Int) (D:Int) t (i:Int) false) t:=by
    refine Ev.step (f:=fun _=>some t) (fun k=>?_) (Ev.now _)
    simp only [cadencelaw4_Small.j1]
    rw [if_neg Bool.false_ne_true]
   refine Ev.step (f:=fun k=>cadencelaw4_Small.j1 k l (w:Int) (D:Int) t (i:Int) false) (fun k=>?_) h1
   simp only [cadencelaw4_Small.l0]
   by_cases c1:(i:Int) < (l.length:Int)
   ·rw [if_pos c1]
    by_cases c2:(i:Int) < (w:Int)
    ·rw [if_pos c2,decide_eq_false (by have:=hi (by omega) (by omega);omega)]
    ·rw [if_neg c2]
   ·rw [if_neg c1]
  have loop:∀ (m i:Nat) (t:Tr),i+m=l.length→i≤w→t.length≤i→Ok w D t→∃ r,Ok w D r∧Ev (fun k=>cadencelaw4_Small.l0 k l (w:Int) (D:Int) t (i:Int)) r:=by
   intro m
   induction m with
   | zero=>intro i t hi _ _ ht;exact ⟨t,ht,stop t i (by omega)⟩
   | succ m ihm =>
    intro i t hi hiw htl ht
    by_cases hc:i < w∧0 < D
    ·obtain ⟨d,rfl⟩:∃ d,D=d+1:=⟨D - 1,by omega⟩
     have hil:i < l.length:=by omega
     obtain ⟨x,hx,hxe⟩:=ih l[i] (List.getElem_mem hil) w d hw (by omega)
     obtain ⟨r,r0,r1,hr⟩:=within4 (l[i].f0.size:Int) (n:=5) (by omega) (by omega)
     obtain ⟨q,hq,hqe⟩:=ihm (i+1) (withT t (five[r.toNat]'(by simp [five];omega)) x) (by omega) (by omega) (by have:=withT_length t (five[r.toNat]'(by simp [five];omega)) x;omega) (ht.withT hx (by have:=withT_length t (five[r.toNat]'(by simp [five];omega)) x;omega))
     refine ⟨q,hq,?_⟩
     have h1:Ev (fun k=>cadencelaw4_Small.j1 k l (w:Int) ((d+1:Nat):Int) t (i:Int) true) q:=by
      refine Ev.step (f:=fun k=>(cadencelaw4_Small.f k l[i].f1 (w:Int) (d:Int)).bind fun u=>(cadenceref2_With.f k t (five[r.toNat]'(by simp [five];omega)) u).bind fun v=>cadencelaw4_Small.l0 k l (w:Int) ((d+1:Nat):Int) v ((i+1:Nat):Int)) (fun k=>?_) (Ev.bind hxe (Ev.bind (with_ev t _ x (by omega)) hqe))
      simp only [cadencelaw4_Small.j1]
      rw [if_pos trivial,Option.bind_some,if_pos (by omega),if_pos (by omega),rdRaw_nat hil,hr,Option.bind_some,if_pos r0,if_pos (by simp;omega),wrap_succ (by omega),show wrap64 (((d+1:Nat):Int) - 1)=(d:Int) by rw [wrap_id (by omega) (by omega)];omega]
      have hn:rdOf ByteArray.empty five r=five[r.toNat]'(by simp [five];omega):=by
       have:=rdOf_nat (xs:=five) (i:=r.toNat) (by simp [five];omega)
       rwa [Int.toNat_of_nonneg r0] at this
      rw [← hn]
      rfl
     refine Ev.step (f:=fun k=>cadencelaw4_Small.j1 k l (w:Int) ((d+1:Nat):Int) t (i:Int) true) (fun k=>?_) h1
     simp only [cadencelaw4_Small.l0]
     rw [if_pos (by omega),if_pos (by omega),decide_eq_true (by omega)]
    ·exact ⟨t,ht,stop t i (by omega)⟩
  obtain ⟨r,hr,he⟩:=loop l.length 0 [] (by omega) (by omega) (by simp) (Ok.nil _ _)
  exact ⟨r,hr,Ev.step (fun k=>by simp only [cadencelaw4_Small.f];rfl) he⟩
end Go.Proofs.Ytainbaehfdhmbaa.PX
namespace Go.Proofs.Ytainbaehfdhmbaa.PX
open Go.RowKit Go.Proofs.YtainbaehfdhmbaaW.PrintWords Go.Proofs.YtainbaehfdhmbaaW.PrintLast Go.Proofs.YtainbaehfdhmbaaW.PrintMore
attribute [local go_sem] max2_int min2_int max_two min_two max_three min_three max_four min_four   
set_option linter.unusedVariables false
set_option linter.unusedSimpArgs false
def cadenceref2_Without.f (k:Nat) (l0:List (S51)) (a1:ByteArray):Option ((List (S51))):=(cadenceref2_At.f k l0 a1).bind fun bt311=>(if bt311.2=true then (if 0≤bt311.1 then (if bt311.1≤(l0.length:Int) then ((some (l0.take (bt311.1:Int).toNat:List (S51))).bind fun y313=>(if ([]:List (S51)).length+y313.length < 3518437208883 then ((some (([]:List (S51)) ++ y313:List (S51))).bind fun y318=>(if 0≤(wrap64 (bt311.1+1)) then (if (wrap64 (bt311.1+1))≤(l0.length:Int) then ((some (l0.drop ((wrap64 (bt311.1+1)):Int).toNat:List (S51))).bind fun y321=>(if y318.length+y321.length < 3518437208883 then (some (y318 ++ y321)) else (none))) else (none)) else (none))) else (none))) else (none)) else (none)) else (some l0))
theorem cadenceref2_Without.mono:∀ a0 a1 k,LeO (cadenceref2_Without.f k a0 a1) (cadenceref2_Without.f (k+1) a0 a1):=by
 intro a0 a1 k
 unfold cadenceref2_Without.f
 repeat' first
   | (with_reducible exact cadenceref2_At.mono _ _ _)
   | (with_reducible exact LeO.refl _)
   | (with_reducible exact LeO.none _)
   | (with_reducible refine LeO.ite ?_ ?_)
   | (with_reducible refine LeO.bind ?_ (fun _=>?_))
   | exact cadenceref2_At.mono _ _ _
   | exact LeO.none _
   | refine LeO.ite ?_ ?_
   | refine LeO.bind ?_ (fun _=>?_)
set_option maxHeartbeats 8000000 in
set_option maxRecDepth 100000 in
theorem cadenceref2_Without.calls (k:Nat) (P0_:Nat→Prop) (A0:Option Addr) (c0:Nat) (l0:List (S51)) (a1:ByteArray) (r:List (S51)) (w:World) (hs0:Kd.V k51 51 w w.heap.size (fun k_=>P0_ k_) (.slice A0 l0.length c0) l0) (h:cadenceref2_Without.f k l0 a1=some r) :
  Calls Try.prog 17 #[.slice A0 l0.length c0,.string a1] w fun e w'=>∃ v0_:Value,e=.returned (v0_)∧Kd.V k51 51 w' w.heap.size (fun k_=>(P0_ k_∨w.heap.size≤k_)) v0_ r∧Below w.heap.size w w':=by
 have HO0:=Aside0.mk (show Kd.V k51 51 w w.heap.size (fun k_=>(P0_ k_∨w.heap.size≤k_)) (.slice A0 l0.length c0) l0 from Kd.V_mono hs0 (fun k_ hk=>.inl hk))
 have HB:=Aside0.mk (Below.refl w.heap.size w)
 have H:((cadenceref2_At.f k l0 a1).bind fun bt311=>(if bt311.2=true then (if 0≤bt311.1 then (if bt311.1≤(l0.length:Int) then ((some (l0.take (bt311.1:Int).toNat:List (S51))).bind fun y313=>(if ([]:List (S51)).length+y313.length < 3518437208883 then ((some (([]:List (S51)) ++ y313:List (S51))).bind fun y318=>(if 0≤(wrap64 (bt311.1+1)) then (if (wrap64 (bt311.1+1))≤(l0.length:Int) then ((some (l0.drop ((wrap64 (bt311.1+1)):Int).toNat:List (S51))).bind fun y321=>(if y318.length+y321.length < 3518437208883 then (some (y318 ++ y321)) else (none))) else (none)) else (none))) else (none))) else (none)) else (none)) else (some l0)))=some r:=h
 clear h
 replace H:=Option.bind_eq_some_iff.mp H
 obtain ⟨⟨t311,t312⟩,A30,H⟩:=H
 replace H:(if t312=true then (if 0≤t311 then (if t311≤(l0.length:Int) then ((some (l0.take (t311:Int).toNat:List (S51))).bind fun y313=>(if ([]:List (S51)).length+y313.length < 3518437208883 then ((some (([]:List (S51)) ++ y313:List (S51))).bind fun y318=>(if 0≤(wrap64 (t311+1)) then (if (wrap64 (t311+1))≤(l0.length:Int) then ((some (l0.drop ((wrap64 (t311+1)):Int).toNat:List (S51))).bind fun y321=>(if y318.length+y321.length < 3518437208883 then (some (y318 ++ y321)) else (none))) else (none)) else (none))) else (none))) else (none)) else (none)) else (some l0))=some r:=H
 have A3:=Aside0.mk A30
 clear A30
 by_cases c4:t312=true
 ·subst c4
  have H1:(if 0≤t311 then (if t311≤(l0.length:Int) then ((some (l0.take (t311:Int).toNat:List (S51))).bind fun y313=>(if ([]:List (S51)).length+y313.length < 3518437208883 then ((some (([]:List (S51)) ++ y313:List (S51))).bind fun y318=>(if 0≤(wrap64 (t311+1)) then (if (wrap64 (t311+1))≤(l0.length:Int) then ((some (l0.drop ((wrap64 (t311+1)):Int).toNat:List (S51))).bind fun y321=>(if y318.length+y321.length < 3518437208883 then (some (y318 ++ y321)) else (none))) else (none)) else (none))) else (none))) else (none)) else (none))=some r:=by rw [if_pos rfl] at H;exact H
  clear H
  have H:=H1
  clear H1
  by_cases c5:0≤t311
  ·rw [if_pos c5] at H
   have c5b0:=eq_true c5
   have c5b1:decide (0≤t311)=true:=decide_eq_true c5
   clear c5
   by_cases c6:t311≤(l0.length:Int)
   ·rw [if_pos c6] at H
    have c6b0:=eq_true c6
    have c6b1:decide (t311≤(l0.length:Int))=true:=decide_eq_true c6
    clear c6
    obtain ⟨y313,hy313⟩:∃ y_:List (S51),y_=(l0.take (t311:Int).toNat):=⟨_,rfl⟩
    replace H:(if ([]:List (S51)).length+y313.length < 3518437208883 then ((some (([]:List (S51)) ++ y313:List (S51))).bind fun y318=>(if 0≤(wrap64 (t311+1)) then (if (wrap64 (t311+1))≤(l0.length:Int) then ((some (l0.drop ((wrap64 (t311+1)):Int).toNat:List (S51))).bind fun y321=>(if y318.length+y321.length < 3518437208883 then (some (y318 ++ y321)) else (none))) else (none)) else (none))) else (none))=some r:=by first|(rw [hy313];with_reducible exact H)|(have H2_:=(Option.bind_some _ _).symm.trans H;rw [hy313];with_reducible exact H2_)|(have H2_:=(Option.bind_some _ _).symm.trans H;with_reducible exact H2_)|with_reducible exact H|(rw [hy313];exact H)|exact H
    have Ny313:=Aside0.mk hy313
    clear hy313
    by_cases c7:([]:List (S51)).length+y313.length < 3518437208883
    ·rw [if_pos c7] at H
     have LMc7:=Aside0.mk c7
     clear c7
     obtain ⟨y318,hy318⟩:∃ y_:List (S51),y_=(([]:List (S51)) ++ y313):=⟨_,rfl⟩
     replace H:(if 0≤(wrap64 (t311+1)) then (if (wrap64 (t311+1))≤(l0.length:Int) then ((some (l0.drop ((wrap64 (t311+1)):Int).toNat:List (S51))).bind fun y321=>(if y318.length+y321.length < 3518437208883 then (some (y318 ++ y321)) else (none))) else (none)) else (none))=some r:=by first|(rw [hy318];with_reducible exact H)|(have H2_:=(Option.bind_some _ _).symm.trans H;rw [hy318];with_reducible exact H2_)|(have H2_:=(Option.bind_some _ _).symm.trans H;with_reducible exact H2_)|with_reducible exact H|(rw [hy318];exact H)|exact H
     have Ny318:=Aside0.mk hy318
     clear hy318
     obtain ⟨ji8,hji8⟩:∃ j_:Int,(wrap64 (t311+1))=j_:=⟨_,rfl⟩
     replace H:(if 0≤(ji8) then (if (ji8)≤(l0.length:Int) then ((some (l0.drop ((ji8):Int).toNat:List (S51))).bind fun y321=>(if y318.length+y321.length < 3518437208883 then (some (y318 ++ y321)) else (none))) else (none)) else (none))=some r:=by first|(rw [hji8] at H;exact H)|(simp only [hji8] at H ⊢;exact H)
     (try rw [hji8] at A3)
     have hji8w:(IntKind.i64.wrap (t311+1))=ji8:=(i64_w _).trans hji8
     by_cases c9:0≤(ji8)
     ·rw [if_pos c9] at H
      have c9b0:=eq_true c9
      have c9b1:decide (0≤(ji8))=true:=decide_eq_true c9
      clear c9
      by_cases c10:(ji8)≤(l0.length:Int)
      ·rw [if_pos c10] at H
       have c10b0:=eq_true c10
       have c10b1:decide ((ji8)≤(l0.length:Int))=true:=decide_eq_true c10
       clear c10
       obtain ⟨y321,hy321⟩:∃ y_:List (S51),y_=(l0.drop ((ji8):Int).toNat):=⟨_,rfl⟩
       replace H:(if y318.length+y321.length < 3518437208883 then (some (y318 ++ y321)) else (none))=some r:=by first|(rw [hy321];with_reducible exact H)|(have H2_:=(Option.bind_some _ _).symm.trans H;rw [hy321];with_reducible exact H2_)|(have H2_:=(Option.bind_some _ _).symm.trans H;with_reducible exact H2_)|with_reducible exact H|(rw [hy321];exact H)|exact H
       have Ny321:=Aside0.mk hy321
       clear hy321
       by_cases c11:y318.length+y321.length < 3518437208883
       ·rw [if_pos c11] at H
        have LMc11:=Aside0.mk c11
        clear c11
        obtain ⟨y326,hy326⟩:∃ y_:List (S51),y_=(y318 ++ y321):=⟨_,rfl⟩
        replace H:(some y326)=some r:=by first|(rw [hy326];with_reducible exact H)|(have H2_:=(Option.bind_some _ _).symm.trans H;rw [hy326];with_reducible exact H2_)|(have H2_:=(Option.bind_some _ _).symm.trans H;with_reducible exact H2_)|with_reducible exact H|(rw [hy326];exact H)|exact H
        have Ny326:=Aside0.mk hy326
        clear hy326
        obtain rfl:=Option.some.inj H
        go_enter Try.func17,Try.ntmps17
        go_wp2_with (first|((with_reducible refine gate_callee (f:=26) rfl ?_);refine goesL_ (some 11) rfl rfl Try.func26 (by kernel_rfl) rfl #[.slice A0 l0.length c0,.string a1] rfl (by (try simp only [List.map_toArray,List.map_cons,List.map_nil]);first|done|rfl|(simp only [List.length_drop,List.length_take];rfl)) ?_;(with_reducible refine (cadenceref2_At.calls k _ _ l0 a1 t311 true _ ?side1 ?side2 A3.out).mono ?_);(case side1=>repeat (first|exact (Kd.V_reads' HO0.out).2.2|(with_reducible refine cA_ ?_ _)|(with_reducible refine cN_ ?_ _)|(with_reducible refine cD_ ?_)));(case side2=>exact (Kd.V_reads' HO0.out).2.1);rintro e w' ⟨rfl,⟨nd,rfl⟩⟩;refine ⟨_,rfl,?_⟩;have q12:(t311:Int)≤((l0.length:Int):Int):=of_decide_eq_true (by first|(with_reducible assumption)|assumption);obtain ⟨i012,hi012,_,hsz12,_⟩:=info_parts info51;have hroom12:l0.length≤c0:=(Kd.V_reads' HO0.out).2.1;have hC12:Kd.F k51 _ _ A0 l0.length l0:=(Kd.V_at (base:=w.heap.size) HO0.out).2.2;have hcut12:=cut_to (P:=Try.prog) 24 51 .i64 Try.underlying24 hi012 A0 l0.length c0 t311 (of_decide_eq_true (by first|(with_reducible assumption)|assumption)) q12 hroom12;have hr12:=Kd.F_take (m:=(t311:Int).toNat) hC12 (by omega);have hy12:y313.length=(t311:Int).toNat:=(by rw [Ny313.out,List.length_take];omega);rw [← Ny313.out] at hr12;rw [← hy12] at hcut12;have HO317:=Aside0.mk (show Kd.V k51 51 _ w.heap.size _ (.slice A0 y313.length c0) y313 from Kd.V_mk (by omega) hr12);have HC317:=Aside0.mk (show y313.length≤c0 from by omega);clear hr12 hC12 hroom12 hi012 hsz12;have KY12:=Aside0.mk hy12;clear hy12;replace q12:=eq_true q12)|((with_reducible refine gate_builtin (b:=.append) (xs:=#[.tmp 17,.tmp 20]) rfl ?_);at_builtin;refine Kd.N_append_rows k51 (w0:=w) w.heap.size rfl (.tmp 17) (.tmp 20) 24 51 (.agg #[(.string ⟨#[]⟩),(.slice none 0 0)]) 40 rfl Try.underlying24 info51 rfl (by decide) (by omega) (.slice none 0 0) ([]:List (S51)) y313 _ _ _ (fun k_=>(P0_ k_∨w.heap.size≤k_)) (fun k_=>((fun k_=>(P0_ k_∨w.heap.size≤k_))) k_∧some k_≠(.slice none 0 0:Value).ownBlock) rfl rfl ?aO ?aR (fun _ hk=>hk) ?aF ?aB ?aS ?aL ?_;(case aR=>exact (by (with_reducible repeat (first|apply Kd.F_alloc|apply Kd.F_drewN|apply Kd.F_drew));exact Kd.V_F (Kd.V_mono (ok':=(fun k_=>((fun k_=>(P0_ k_∨w.heap.size≤k_))) k_∧some k_≠(.slice none 0 0:Value).ownBlock)) (HO317.out) (fun k_ hk=>⟨hk,(by simp [Value.ownBlock])⟩))));(case aB=>exact (by repeat (first|(with_reducible first|exact HB.out|apply bA_|apply bN_|apply bD_)|exact HB.out)));(case aF=>exact (fun k_ hk=>(.inr (Nat.le_trans (below_size (by repeat (first|(with_reducible first|exact HB.out|apply bA_|apply bN_|apply bD_)|exact HB.out))) hk))));(case aO=>exact ((Kd.N_nil _ _ _ _ (fun k_=>(P0_ k_∨w.heap.size≤k_)))));(case aS=>exact (below_size (by repeat (first|(with_reducible first|exact HB.out|apply bA_|apply bN_|apply bD_)|exact HB.out))));(case aL=>have:=LMc7.out;omega);intro v319 w13 ho hb hg hat;rw [← Ny318.out] at ho;have n0_:=Aside0.mk (Kd.V_afterv (Kd.V_apart_nil (by (with_reducible repeat (first|apply vA_|apply vN_|apply vD_));exact HO0.out)) hg hat);have n1_:=Aside0.mk (Kd.V_afterv (Kd.V_apart_nil (by (with_reducible repeat (first|apply vA_|apply vN_|apply vD_));exact HO317.out)) hg hat);have n2_:=Aside0.mk (hb);have n3_:=Aside0.mk (ho);clear HO0;clear HO317;clear HB;have HO0:=n0_;have HO317:=n1_;have HB:=n2_;have HO320:=n3_;clear n0_ n1_ n2_ n3_;clear ho hb hg hat;have q14:((ji8):Int)≤((l0.length:Int):Int):=of_decide_eq_true (by first|(with_reducible assumption)|assumption);obtain ⟨i014,hi014,_,hsz14,_⟩:=info_parts info51;have hroom14:l0.length≤c0:=(Kd.V_reads' HO0.out).2.1;have hC14:Kd.F k51 _ _ A0 l0.length l0:=(Kd.V_at (base:=w.heap.size) HO0.out).2.2;have q014:(0:Int)≤((ji8):Int):=of_decide_eq_true (by first|(with_reducible assumption)|assumption);have hcut14:=cut_from (P:=Try.prog) 24 51 .i64 Try.underlying24 hi014 2 hsz14 A0 l0.length c0 (ji8) q014 q14;have hr14:=Kd.F_cut (m:=((ji8):Int).toNat) (c:=c0) hC14 (by omega) hroom14;obtain ⟨A14,hA14⟩:∃ A1,A1=(if c0=((ji8):Int).toNat then A0 else (A0:Option Addr).map (·.add (((ji8):Int).toNat * 2))):=⟨_,rfl⟩;obtain ⟨c14,hc14⟩:∃ c1,c1=c0 - ((ji8):Int).toNat:=⟨_,rfl⟩;have hy14:y321.length=l0.length - ((ji8):Int).toNat:=(by rw [Ny321.out,List.length_drop] <;> omega);rw [show (l0).drop ((ji8):Int).toNat=y321 from Ny321.out.symm] at hr14;replace hr14:Kd.F k51 _ _ A14 y321.length y321:=(by rw [hA14];exact hr14);rw [← hy14,← hA14,← hc14] at hcut14;have HO325:=Aside0.mk (show Kd.V k51 51 _ w.heap.size _ (.slice A14 y321.length c14) y321 from Kd.V_mk (by rw [hy14,hc14];exact Nat.sub_le_sub_right hroom14 _) hr14);have HC325:=Aside0.mk (show y321.length≤c14 from by rw [hy14,hc14];exact Nat.sub_le_sub_right hroom14 _);clear hr14 hC14 hroom14 hi014 hsz14 hc14;have KY14:=Aside0.mk hy14;have KA14:=Aside0.mk hA14;clear hy14 hA14;replace q14:=eq_true q14)|((with_reducible refine gate_builtin (b:=.append) (xs:=#[.tmp 22,.tmp 26]) rfl ?_);at_builtin;refine Kd.N_append_rows k51 (w0:=w) w.heap.size rfl (.tmp 22) (.tmp 26) 24 51 (.agg #[(.string ⟨#[]⟩),(.slice none 0 0)]) 40 rfl Try.underlying24 info51 rfl (by decide) (by omega) v319 y318 y321 _ _ _ (fun k_=>(P0_ k_∨w.heap.size≤k_)) (fun k_=>((fun k_=>(P0_ k_∨w.heap.size≤k_))) k_∧some k_≠(v319:Value).ownBlock) rfl rfl ?aO ?aR (fun _ hk=>hk) ?aF ?aB ?aS ?aL ?_;(case aR=>exact (by (with_reducible repeat (first|apply Kd.F_alloc|apply Kd.F_drewN|apply Kd.F_drew));exact Kd.V_F (Kd.V_mono (ok':=(fun k_=>((fun k_=>(P0_ k_∨w.heap.size≤k_))) k_∧some k_≠(v319:Value).ownBlock)) (HO325.out) (fun k_ hk=>⟨hk.1,hk.2⟩))));(case aB=>exact (by repeat (first|(with_reducible first|exact HB.out|apply bA_|apply bN_|apply bD_)|exact HB.out)));(case aF=>exact (fun k_ hk=>(.inr (Nat.le_trans (below_size (by repeat (first|(with_reducible first|exact HB.out|apply bA_|apply bN_|apply bD_)|exact HB.out))) hk))));(case aO=>exact (by (with_reducible repeat (first|apply nA_|apply nN_|apply nD_));exact HO320.out));(case aS=>exact (below_size (by repeat (first|(with_reducible first|exact HB.out|apply bA_|apply bN_|apply bD_)|exact HB.out))));(case aL=>have:=LMc11.out;omega);intro v327 w15 ho hb hg hat;rw [← Ny326.out] at ho;have n0_:=Aside0.mk (Kd.V_afterv (ok:=(fun k_=>(P0_ k_∨w.heap.size≤k_))) (by (with_reducible repeat (first|apply vA_|apply vN_|apply vD_));exact HO0.out) hg hat);have n1_:=Aside0.mk (Kd.V_afterv (ok:=(fun k_=>(P0_ k_∨w.heap.size≤k_))) (by (with_reducible repeat (first|apply vA_|apply vN_|apply vD_));exact HO317.out) hg hat);have n2_:=Aside0.mk (Kd.V_afterv (ok:=(fun k_=>(P0_ k_∨w.heap.size≤k_))) (by (with_reducible repeat (first|apply vA_|apply vN_|apply vD_));exact HO325.out) hg hat);have n3_:=Aside0.mk (hb);have n4_:=Aside0.mk (ho);clear HO0;clear HO317;clear HO325;clear HB;clear HO320;have HO0:=n0_;have HO317:=n1_;have HO325:=n2_;have HB:=n3_;have HO328:=n4_;clear n0_ n1_ n2_ n3_ n4_;clear ho hb hg hat))
        go_ret
        exact ⟨_,by first|rfl|(simp [errW_none,errW_some] <;> rfl)|(simp only [← hji8];first|rfl|(simp [errW_none,errW_some] <;> rfl))|(simp [*,errW_none,errW_some] <;> rfl),Kd.N_V (by (with_reducible repeat (first|apply nA_|apply nN_|apply nD_));exact HO328.out),by repeat (first|(with_reducible first|exact HB.out|apply bA_|apply bN_|apply bD_)|exact HB.out)⟩
       ·rw [if_neg c11] at H
        exact absurd H (by simp)
      ·rw [if_neg c10] at H
       exact absurd H (by simp)
     ·rw [if_neg c9] at H
      exact absurd H (by simp)
    ·rw [if_neg c7] at H
     exact absurd H (by simp)
   ·rw [if_neg c6] at H
    exact absurd H (by simp)
  ·rw [if_neg c5] at H
   exact absurd H (by simp)
 ·replace c4:=Bool.eq_false_iff.mpr c4
  subst c4
  have H1:(some l0)=some r:=by rw [if_neg (show ¬ (false=true) by decide)] at H;exact H
  clear H
  have H:=H1
  clear H1
  obtain rfl:=Option.some.inj H
  go_enter Try.func17,Try.ntmps17
  go_wp2_with (first|((with_reducible refine gate_callee (f:=26) rfl ?_);refine goesL_ (some 11) rfl rfl Try.func26 (by kernel_rfl) rfl #[.slice A0 l0.length c0,.string a1] rfl (by (try simp only [List.map_toArray,List.map_cons,List.map_nil]);first|done|rfl|(simp only [List.length_drop,List.length_take];rfl)) ?_;(with_reducible refine (cadenceref2_At.calls k _ _ l0 a1 t311 false _ ?side1 ?side2 A3.out).mono ?_);(case side1=>repeat (first|exact (Kd.V_reads' HO0.out).2.2|(with_reducible refine cA_ ?_ _)|(with_reducible refine cN_ ?_ _)|(with_reducible refine cD_ ?_)));(case side2=>exact (Kd.V_reads' HO0.out).2.1);rintro e w' ⟨rfl,⟨nd,rfl⟩⟩;refine ⟨_,rfl,?_⟩))
  go_ret
  exact ⟨_,by first|rfl|(simp [errW_none,errW_some] <;> rfl)|(simp [*,errW_none,errW_some] <;> rfl),by (with_reducible repeat (first|apply vA_|apply vN_|apply vD_));exact HO0.out,by repeat (first|(with_reducible first|exact HB.out|apply bA_|apply bN_|apply bD_)|exact HB.out)⟩
end Go.Proofs.Ytainbaehfdhmbaa.PX
namespace Go.Proofs.Ytainbaehfdhmbaa.PX
open Go.RowKit Go.Proofs.YtainbaehfdhmbaaW.PrintWords Go.Proofs.YtainbaehfdhmbaaW.PrintLast Go.Proofs.YtainbaehfdhmbaaW.PrintMore
attribute [local go_sem] max2_int min2_int max_two min_two max_three min_three max_four min_four   
set_option linter.unusedVariables false
set_option linter.unusedSimpArgs false
def cadencelaw12_within.f (a0:Int) (a1:Int):Option (Int):=if a1=0 then (none) else (if (Int.tmod a0 a1) < 0 then (some (wrap64 ((Int.tmod a0 a1)+a1))) else (some (Int.tmod a0 a1)))
set_option maxHeartbeats 8000000 in
set_option maxRecDepth 100000 in
theorem cadencelaw12_within.calls (a0:Int) (a1:Int) (r:Int) (w:World) (h:cadencelaw12_within.f a0 a1=some r) :
  Calls Try.prog 15 #[.int .i64 a0,.int .i64 a1] w fun e w'=>e=.returned (.int .i64 r)∧Drawn0 w w':=by
 have H:(if a1=0 then (none) else (if (Int.tmod a0 a1) < 0 then (some (wrap64 ((Int.tmod a0 a1)+a1))) else (some (Int.tmod a0 a1))))=some r:=h
 clear h
 by_cases c3:a1=0
 ·rw [if_pos c3] at H
  exact absurd H (by simp)
 ·rw [if_neg c3] at H
  have c3b0:(a1 == 0)=false:=beq_eq_false_iff_ne.mpr c3
  have c3b1:(a1 != 0)=true:=bne_iff_ne.mpr c3
  by_cases c4:(Int.tmod a0 a1) < 0
  ·rw [if_pos c4] at H
   have c4b0:decide ((Int.tmod a0 a1) < 0)=true:=decide_eq_true c4
   clear c4
   obtain rfl:=Option.some.inj H
   go_enter Try.func15,Try.ntmps15
   go_wp2
   go_ret
   exact ⟨by first|rfl|(simp;done)|(simp [*];done),by repeat (first|exact Drawn0.refl _|apply Drawn0.step)⟩
  ·rw [if_neg c4] at H
   have c4b0:decide ((Int.tmod a0 a1) < 0)=false:=decide_eq_false c4
   clear c4
   obtain rfl:=Option.some.inj H
   go_enter Try.func15,Try.ntmps15
   go_wp2
   go_ret
   exact ⟨by first|rfl|(simp;done)|(simp [*];done),by repeat (first|exact Drawn0.refl _|apply Drawn0.step)⟩
end Go.Proofs.Ytainbaehfdhmbaa.PX
