/-
  The statement of 'MergeFirst': the Go function returns true at every input, and its arguments read as before.
  Conditions: none.
-/
import Derived.Test.YtainbaehfdhmbaaMMergeFirst1
import Derived.Test.YtainbaehfdhmbaaMMergeFirst3
import Derived.Test.YtainbaehfdhmbaaMMergeFirst4
import Derived.Test.YtainbaehfdhmbaaRows
import Derived.WalkKit
import Derived.ProofKit
import Derived.OpenShut
import Derived.ShutString
import Derived.ChangeOld
import Derived.Below
import Derived.SizedLaws
namespace Go.Proofs.Ytainbaehfdhmbaa.PX
open Go.RowKit Go.Proofs.YtainbaehfdhmbaaW.PrintWords Go.Proofs.YtainbaehfdhmbaaW.PrintLast Go.Proofs.YtainbaehfdhmbaaW.PrintMore
attribute [local go_sem] max2_int min2_int max_two min_two max_three min_three max_four min_four   
set_option linter.unusedVariables false
set_option linter.unusedSimpArgs false
def cadencelaw12_row.l0:Nat→Int→List (S51)→Int→Option ((List (S51)))
 | 0,_,_,_=>none
 | k+1,x0,x3,x4=>if x4 < 3 then ((some (([1,4,16]:List Int):List Int)).bind fun y203=>(if 0≤x4 then (if x4 < (y203.length:Int) then (if (rd y203 x4)=0 then (none) else ((cadencelaw12_within.f (wrap64 (Int.tdiv x0 (rd y203 x4))) 4).bind fun t207=>(if t207 > 0 then ((some (([(⟨#[97]⟩:ByteArray),(⟨#[98]⟩:ByteArray),(⟨#[99]⟩:ByteArray)]:List ByteArray):List ByteArray)).bind fun y208=>(if x4 < (y208.length:Int) then ((cadenceref2_Value.f (strOfNums (([(wrap64 (48+t207)) % 256]:List Int)))).bind fun t215=>((cadenceref2_With.f k x3 (rdOf ByteArray.empty y208 x4) t215).bind fun t218=>(cadencelaw12_row.l0 k x0 t218 (wrap64 (x4+1))))) else (none))) else (cadencelaw12_row.l0 k x0 x3 (wrap64 (x4+1)))))) else (none)) else (none))) else (some x3)
def cadencelaw12_row.f (k:Nat) (a0:Int):Option ((List (S51))):=cadencelaw12_row.l0 k a0 ([]:List (S51)) 0
theorem cadencelaw12_row.mono_l:∀ k,(∀ y0 y1 y2,LeO (cadencelaw12_row.l0 k y0 y1 y2) (cadencelaw12_row.l0 (k+1) y0 y1 y2))
 | 0=>fun _ _ _ r h=>by simp [cadencelaw12_row.l0] at h
 | k+1=>by
  have ih0:=cadencelaw12_row.mono_l k
  ·intro y0 y1 y2
   unfold cadencelaw12_row.l0
   repeat' first
   | (with_reducible exact ih0 _ _ _)
   | (with_reducible exact cadenceref2_With.mono _ _ _ _)
   | (with_reducible exact LeO.refl _)
   | (with_reducible exact LeO.none _)
   | (with_reducible refine LeO.ite ?_ ?_)
   | (with_reducible refine LeO.bind ?_ (fun _=>?_))
   | exact ih0 _ _ _
   | exact cadenceref2_With.mono _ _ _ _
   | exact LeO.none _
   | refine LeO.ite ?_ ?_
   | refine LeO.bind ?_ (fun _=>?_)
theorem cadencelaw12_row.mono:∀ a0 k,LeO (cadencelaw12_row.f k a0) (cadencelaw12_row.f (k+1) a0):=by
 intro a0 k
 have ih0:=cadencelaw12_row.mono_l k
 unfold cadencelaw12_row.f
 repeat' first
   | (with_reducible exact ih0 _ _ _)
   | (with_reducible exact cadenceref2_With.mono _ _ _ _)
   | (with_reducible exact LeO.refl _)
   | (with_reducible exact LeO.none _)
   | (with_reducible refine LeO.ite ?_ ?_)
   | (with_reducible refine LeO.bind ?_ (fun _=>?_))
   | exact ih0 _ _ _
   | exact cadenceref2_With.mono _ _ _ _
   | exact LeO.none _
   | refine LeO.ite ?_ ?_
   | refine LeO.bind ?_ (fun _=>?_)
def cadencelaw12_row.T7:Bool × List (List Nat × List Nat):=(true,[([],[]),([],[]),([],[]),([1,2],[1,2]),([3],[3]),([],[]),([5],[5]),([6],[6]),([7],[7]),([8],[8]),([9],[9]),([0,4,10,10],[0,4,10]),([11,11,0,1,2,3,4,5,6,7,8,9,10,11],[0,11])])
def cadencelaw12_row.B7:List Nat:=[0,0,0,6,14,0,32,96,224,480,992,2047,4095]
theorem cadencelaw12_row.tab7:rtab .any (opsOf Try.f11 7)=cadencelaw12_row.T7:=by kernel_rfl
theorem cadencelaw12_row.bits7:waitsOk cadencelaw12_row.T7.2 cadencelaw12_row.B7=true:=by kernel_rfl
set_option maxHeartbeats 8000000 in
set_option maxRecDepth 100000 in
theorem cadencelaw12_row.calls (k:Nat) (a0:Int) (r:List (S51)) (w:World) (h:cadencelaw12_row.f k a0=some r) :
  Calls Try.prog 11 #[.int .i64 a0] w fun e w'=>∃ v0_:Value,e=.returned (v0_)∧Kd.N k51 51 w' w.heap.size (fun k_=>(w.heap.size≤k_)) v0_ r∧Below w.heap.size w w':=by
 have HB:=Aside0.mk (Below.refl w.heap.size w)
 have H:(cadencelaw12_row.l0 k a0 ([]:List (S51)) 0)=some r:=h
 clear h
 have H':=Aside0.mk H
 clear H
 go_enter Try.func11,Try.ntmps11
 go_wp2
 go_loopg [3,4] k (fun kq v3 v4 w'=>∃ (x3_1:List (S51)) (x4_1:Int),v4=.int .i64 x4_1∧Aside0 (cadencelaw12_row.l0 kq a0 x3_1 x4_1=some r)∧Aside0 (kq≤k)∧Aside0 (Kd.N k51 51 w' w.heap.size (fun k_=>(w.heap.size≤k_)) v3 x3_1)∧Aside0 (Below w.heap.size w w'))
 case atStart=>exact ⟨(([]:List (S51))),(0),(by first|rfl|(simp;done)|(simp [*];done)),H',⟨Nat.le_refl _⟩,⟨by first|exact Kd.R_nil _ _ _ _ _|exact Kd.N_nil _ _ _ _ _|exact Kd.V_nil _ _ _ _ _|exact Kd.Q_nil _ _ _ _ _|exact Kd.S_nil _ _ _ _ _⟩,⟨by repeat (first|(with_reducible first|exact HB.out|apply bA_|apply bN_|apply bD_)|exact HB.out)⟩⟩
 case round =>
  clear H'
  try clear c1
  obtain ⟨x3_1,x4_1,rfl,HA,HK1,HO_3,HB⟩:=hrel
  cases gk with
  | zero=>exact absurd HA.out (by simp [cadencelaw12_row.l0])
  | succ k1 =>
   have H:=HA.out
   clear HA
   simp only [cadencelaw12_row.l0] at H
   by_cases c2:x4_1 < 3
   ·rw [if_pos c2] at H
    have c2b0:decide (x4_1 < 3)=true:=decide_eq_true c2
    clear c2
    obtain ⟨y203,hy203⟩:∃ y_:List Int,y_=(([1,4,16]:List Int)):=⟨_,rfl⟩
    replace H:(if 0≤x4_1 then (if x4_1 < (y203.length:Int) then (if (rd y203 x4_1)=0 then (none) else ((cadencelaw12_within.f (wrap64 (Int.tdiv a0 (rd y203 x4_1))) 4).bind fun t207=>(if t207 > 0 then ((some (([(⟨#[97]⟩:ByteArray),(⟨#[98]⟩:ByteArray),(⟨#[99]⟩:ByteArray)]:List ByteArray):List ByteArray)).bind fun y208=>(if x4_1 < (y208.length:Int) then ((cadenceref2_Value.f (strOfNums (([(wrap64 (48+t207)) % 256]:List Int)))).bind fun t215=>((cadenceref2_With.f k1 x3_1 (rdOf ByteArray.empty y208 x4_1) t215).bind fun t218=>(cadencelaw12_row.l0 k1 a0 t218 (wrap64 (x4_1+1))))) else (none))) else (cadencelaw12_row.l0 k1 a0 x3_1 (wrap64 (x4_1+1)))))) else (none)) else (none))=some r:=by first|(rw [hy203];with_reducible exact H)|(have H2_:=(Option.bind_some _ _).symm.trans H;rw [hy203];with_reducible exact H2_)|(have H2_:=(Option.bind_some _ _).symm.trans H;with_reducible exact H2_)|with_reducible exact H|(rw [hy203];exact H)|exact H
    have Ny203:=Aside0.mk hy203
    clear hy203
    by_cases c3:0≤x4_1
    ·rw [if_pos c3] at H
     have c3b0:decide (0≤x4_1)=true:=decide_eq_true c3
     clear c3
     by_cases c4:x4_1 < (y203.length:Int)
     ·rw [if_pos c4] at H
      have c4b0:decide (x4_1 < (y203.length:Int))=true:=decide_eq_true c4
      clear c4
      by_cases c5:(rd y203 x4_1)=0
      ·rw [if_pos c5] at H
       exact absurd H (by simp)
      ·rw [if_neg c5] at H
       have c5b0:((rd y203 x4_1) == 0)=false:=beq_eq_false_iff_ne.mpr c5
       have c5b1:((rd y203 x4_1) != 0)=true:=bne_iff_ne.mpr c5
       replace H:=Option.bind_eq_some_iff.mp H
       obtain ⟨t207,A60,H⟩:=H
       replace H:(if t207 > 0 then ((some (([(⟨#[97]⟩:ByteArray),(⟨#[98]⟩:ByteArray),(⟨#[99]⟩:ByteArray)]:List ByteArray):List ByteArray)).bind fun y208=>(if x4_1 < (y208.length:Int) then ((cadenceref2_Value.f (strOfNums (([(wrap64 (48+t207)) % 256]:List Int)))).bind fun t215=>((cadenceref2_With.f k1 x3_1 (rdOf ByteArray.empty y208 x4_1) t215).bind fun t218=>(cadencelaw12_row.l0 k1 a0 t218 (wrap64 (x4_1+1))))) else (none))) else (cadencelaw12_row.l0 k1 a0 x3_1 (wrap64 (x4_1+1))))=some r:=H
       have A6:=Aside0.mk A60
       clear A60
       by_cases c7:t207 > 0
       ·rw [if_pos c7] at H
        have c7b0:decide (0 < t207)=true:=decide_eq_true c7
        clear c7
        obtain ⟨y208,hy208⟩:∃ y_:List ByteArray,y_=(([(⟨#[97]⟩:ByteArray),(⟨#[98]⟩:ByteArray),(⟨#[99]⟩:ByteArray)]:List ByteArray)):=⟨_,rfl⟩
        replace H:(if x4_1 < (y208.length:Int) then ((cadenceref2_Value.f (strOfNums (([(wrap64 (48+t207)) % 256]:List Int)))).bind fun t215=>((cadenceref2_With.f k1 x3_1 (rdOf ByteArray.empty y208 x4_1) t215).bind fun t218=>(cadencelaw12_row.l0 k1 a0 t218 (wrap64 (x4_1+1))))) else (none))=some r:=by first|(rw [hy208];with_reducible exact H)|(have H2_:=(Option.bind_some _ _).symm.trans H;rw [hy208];with_reducible exact H2_)|(have H2_:=(Option.bind_some _ _).symm.trans H;with_reducible exact H2_)|with_reducible exact H|(rw [hy208];exact H)|exact H
        have Ny208:=Aside0.mk hy208
        clear hy208
        by_cases c8:x4_1 < (y208.length:Int)
        ·rw [if_pos c8] at H
         have c8b0:decide (x4_1 < (y208.length:Int))=true:=decide_eq_true c8
         clear c8
         obtain ⟨y212,hy212⟩:∃ y_:List Int,y_=(([(wrap64 (48+t207)) % 256]:List Int)):=⟨_,rfl⟩
         replace H:((cadenceref2_Value.f (strOfNums y212)).bind fun t215=>((cadenceref2_With.f k1 x3_1 (rdOf ByteArray.empty y208 x4_1) t215).bind fun t218=>(cadencelaw12_row.l0 k1 a0 t218 (wrap64 (x4_1+1)))))=some r:=by first|(rw [hy212];with_reducible exact H)|(have H2_:=(Option.bind_some _ _).symm.trans H;rw [hy212];with_reducible exact H2_)|(have H2_:=(Option.bind_some _ _).symm.trans H;with_reducible exact H2_)|with_reducible exact H|(rw [hy212];exact H)|exact H
         have Ny212:=Aside0.mk hy212
         clear hy212
         replace H:=Option.bind_eq_some_iff.mp H
         obtain ⟨t215,A90,H⟩:=H
         replace H:((cadenceref2_With.f k1 x3_1 (rdOf ByteArray.empty y208 x4_1) t215).bind fun t218=>(cadencelaw12_row.l0 k1 a0 t218 (wrap64 (x4_1+1))))=some r:=H
         have A9:=Aside0.mk A90
         clear A90
         replace H:=Option.bind_eq_some_iff.mp H
         obtain ⟨t218,A100,H⟩:=H
         replace H:(cadencelaw12_row.l0 k1 a0 t218 (wrap64 (x4_1+1)))=some r:=H
         have A10:=Aside0.mk A100
         clear A100
         have H':=Aside0.mk H
         clear H
         try go_wp2_with (first|((with_reducible refine gate_dst (N:=11) rfl ?_);refine Kd.R_lit (Kd.int .i64) _ 3 ?hg (N:=11) ?hd (xs:=([1,4,16]:List Int)) (inner:=[.int .i64 1,.int .i64 4,.int .i64 16]) (ok:=fun _=>True) (okp:=fun _=>True) ?hr ?hp (fun _ hk=>hk) trivial (Below.refl _ _) (Nat.le_refl _) (by simp) ?_;(case hd=>rfl);(case hg=>rfl);(case hr=>first|(go_simp;done)|(go_simp;rfl));(case hp=>exact (Reps.one (show Kd.M (Kd.int .i64) _ _ _ 1 [.int .i64 1] from rfl) (Reps.one (show Kd.M (Kd.int .i64) _ _ _ 4 [.int .i64 4] from rfl) (Reps.one (show Kd.M (Kd.int .i64) _ _ _ 16 [.int .i64 16] from rfl) (Reps.none _ _)))));intro v204 w11 ho12 hb hg_ hnew_;clear hg_ hnew_;(first|rw [← Ny203.out] at ho12|(simp only [Int.reduceToNat] at ho12;rw [← Ny203.out] at ho12));have n0_:=Aside0.mk (Kd.N_elder' (by (with_reducible repeat (first|apply nA_|apply nN_|apply nD_));exact HO_3.out) (Kd.R_base ho12) hb);have n1_:=Aside0.mk (Kd.R_lower (Kd.R_newM (M:=fun k_=>(w.heap.size≤k_)) ho12 (below_size (by repeat (first|(with_reducible first|exact HB.out|apply bA_|apply bN_|apply bD_)|exact HB.out))) (fun k_ h_=>h_)) (below_size (by repeat (first|(with_reducible first|exact HB.out|apply bA_|apply bN_|apply bD_)|exact HB.out))));have n2_:=Aside0.mk (below_step (by repeat (first|(with_reducible first|exact HB.out|apply bA_|apply bN_|apply bD_)|exact HB.out)) hb);clear HO_3;clear HB;have HO_3:=n0_;have HO205:=n1_;have HB:=n2_;clear n0_ n1_ n2_;clear hb ho12;obtain ⟨Ao13,co13,eo13⟩:=Kd.R_slice HO205.out;subst eo13;have p206:0≤(x4_1:Int):=of_decide_eq_true (by first|(with_reducible assumption)|assumption);have q206:x4_1 < (y203.length:Int):=of_decide_eq_true (by first|(with_reducible assumption)|assumption);obtain ⟨ad206,e206,hx206_0⟩:=Kd.at_int (Kd.R_reads' HO205.out).2.2 x4_1 p206 q206;cases e206;replace p206:=eq_true p206;replace q206:=eq_true q206)|((with_reducible refine gate_callee (f:=15) rfl ?_);refine goesL_ (some 16) rfl rfl Try.func15 (by kernel_rfl) rfl #[.int .i64 (wrap64 (Int.tdiv a0 (rd y203 x4_1))),.int .i64 4] rfl (by (try simp only [List.map_toArray,List.map_cons,List.map_nil]);first|done|rfl|(simp only [List.length_drop,List.length_take];rfl)) ?_;(with_reducible refine (cadencelaw12_within.calls (wrap64 (Int.tdiv a0 (rd y203 x4_1))) 4 t207 _ A6.out).mono ?_);rintro e w' ⟨rfl,⟨nd,rfl⟩⟩;refine ⟨_,rfl,?_⟩;obtain ⟨Ao14,co14,eo14⟩:=Kd.N_slice HO_3.out;subst eo14))
         have pi211:(0≤(x4_1:Int))=True:=eq_true (of_decide_eq_true (by first|(with_reducible assumption)|assumption))
         have qi211:(x4_1 < (y208.length:Int))=True:=eq_true (of_decide_eq_true (by first|(with_reducible assumption)|assumption))
         (try (rw [drewN_self w11];generalize hq_:World.drewN w11 _=w11;have n0_:Aside0 (Kd.R (Kd.int .i64) 3 w11 w.heap.size (fun k_=>(w.heap.size≤k_)) (.slice (some ad206) y203.length co13) y203):=⟨by rw [← hq_];exact (by (with_reducible repeat (first|apply rA_|apply rN_|apply rD_));exact Kd.R_mono HO205.out (fun _ hk=>by first|exact hk.1|exact hk))⟩;have n1_:Aside0 (Kd.N k51 51 w11 w.heap.size (fun k_=>(w.heap.size≤k_)∧some k_≠(.slice (some ad206) y203.length co13:Value).ownBlock) (.slice Ao14 x3_1.length co14) x3_1):=⟨by rw [← hq_];exact (by (with_reducible repeat (first|apply nA_|apply nN_|apply nD_));exact HO_3.out)⟩;have n2_:Aside0 (Below w.heap.size w w11):=⟨by rw [← hq_];exact (by repeat (first|(with_reducible first|exact HB.out|apply bA_|apply bN_|apply bD_)|exact HB.out))⟩;clear HO205 HO_3 HB hq_;have HO205:=n0_;have HO_3:=n1_;have HB:=n2_;clear n0_ n1_ n2_))
         have n0_:=Aside0.mk (nD_ HO_3.out)
         have n1_:=Aside0.mk (rD_ HO205.out)
         have n2_:=Aside0.mk (bD_ HB.out)
         clear HO_3
         clear HO205
         clear HB
         have HO_3:=n0_
         have HO205:=n1_
         have HB:=n2_
         clear n0_ n1_ n2_
         refine start_ (n:=13) (S:=fun w'=>True) (ds:=[]) #[false,false,false,false,false,false,false,false,false,false,false,false,false] (by kernel_rfl) rfl rfl trivial (fun hHeld=>?_);refine with_tabW cadencelaw12_row.tab7 cadencelaw12_row.bits7 (fun HT_ HW_=>?_)
         generalize w11.drew=w15 at HO_3 HO205 HB hHeld ⊢
         refine pure_ (i:=0) (N:=some 19) (v:=?_) (a':=?_) #[true,false,false,false,false,false,false,false,false,false,false,false,false] rfl rfl (any_of HT_.out (by kernel_rfl)) (fun _ _ _ h=>h) (Or.inl ⟨by rfl,?_⟩) ?_ ?_
         rotate_left
         ·intro w'
          go_simp
          with_reducible rfl
         rotate_left
         ·simp only [Act.put,List.setIfInBounds_toArray,List.set_cons_zero,List.set_cons_succ,i64_w,i32_w]
          rfl
         refine pure_ (i:=2) (N:=some 21) (v:=?_) (a':=?_) #[true,false,true,false,false,false,false,false,false,false,false,false,false] rfl rfl (any_of HT_.out (by kernel_rfl)) (fun _ _ _ h=>h) (Or.inl ⟨by rfl,?_⟩) ?_ ?_
         rotate_left
         ·intro w'
          go_simp
          with_reducible rfl
         rotate_left
         ·simp only [Act.put,List.setIfInBounds_toArray,List.set_cons_zero,List.set_cons_succ,i64_w,i32_w]
          rfl
         refine pure_ (i:=5) (N:=some 24) (v:=?_) (a':=?_) #[true,false,true,false,false,true,false,false,false,false,false,false,false] rfl rfl (any_of HT_.out (by kernel_rfl)) (fun _ _ _ h=>h) (Or.inl ⟨by rfl,?_⟩) ?_ ?_
         rotate_left
         ·intro w'
          go_simp
          with_reducible rfl
         rotate_left
         ·simp only [Act.put,List.setIfInBounds_toArray,List.set_cons_zero,List.set_cons_succ,i64_w,i32_w]
          rfl
         refine pure_ (i:=6) (N:=some 25) (v:=?_) (a':=?_) #[true,false,true,false,false,true,true,false,false,false,false,false,false] rfl rfl (any_of HT_.out (by kernel_rfl)) (fun _ _ _ h=>h) (Or.inl ⟨by rfl,?_⟩) ?_ ?_
         rotate_left
         ·intro w'
          go_simp
          with_reducible rfl
         rotate_left
         ·simp only [Act.put,List.setIfInBounds_toArray,List.set_cons_zero,List.set_cons_succ,i64_w,i32_w]
          rfl
         refine pure_ (i:=7) (N:=some 26) (v:=?_) (a':=?_) #[true,false,true,false,false,true,true,true,false,false,false,false,false] rfl rfl (any_of HT_.out (by kernel_rfl)) (fun _ _ _ h=>h) (Or.inl ⟨by rfl,?_⟩) ?_ ?_
         rotate_left
         ·intro w'
          go_simp
          with_reducible rfl
         rotate_left
         ·simp only [Act.put,List.setIfInBounds_toArray,List.set_cons_zero,List.set_cons_succ,i64_w,i32_w]
          rfl
         refine join_ (σ:=Value × Addr × Value × Value) 2 #[true,true,true,true,true,true,true,true,true,true,true,false,false] (fun s_=>[(20,s_.1),(23,.string (rdOf ByteArray.empty y208 x4_1)),(27,s_.2.2.1),(28,.string (strOfNums y212)),(29,s_.2.2.2),(22,.pointer (some (s_.2.1.add (x4_1).toNat)))]) (fun s_ w'=>(Kd.R (Kd.int .i64) 3 w' w.heap.size (fun k_=>(w.heap.size≤k_)) (.slice (some ad206) y203.length co13) y203)∧(Kd.R Kd.string 9 w' w.heap.size (fun k_=>(w.heap.size≤k_)) s_.1 y208)∧(Kd.R (Kd.int .u8) 5 w' w.heap.size (fun k_=>(w.heap.size≤k_)) s_.2.2.1 y212)∧(Kd.N k51 51 w' w.heap.size (fun k_=>(w.heap.size≤k_)∧some k_≠(.slice (some ad206) y203.length co13:Value).ownBlock∧some k_≠(s_.1:Value).ownBlock∧some k_≠(s_.2.2.1:Value).ownBlock∧some k_≠(.slice Ao14 x3_1.length co14:Value).ownBlock) s_.2.2.2 t215)∧(Kd.N k51 51 w' w.heap.size (fun k_=>(w.heap.size≤k_)∧some k_≠(.slice (some ad206) y203.length co13:Value).ownBlock∧some k_≠(s_.1:Value).ownBlock∧some k_≠(s_.2.2.1:Value).ownBlock∧some k_≠(s_.2.2.2:Value).ownBlock) (.slice Ao14 x3_1.length co14) x3_1)∧(∃ c_,(s_.1:Value)=.slice (some s_.2.1) y208.length c_)∧(Below w.heap.size w w')) ?_ ?_
         rotate_left
         ·intro hJ1_4_8_9_10
          refine join_ (σ:=Value × Addr × Value) 3 #[true,true,true,true,true,true,true,true,true,true,false,false,false] (fun s_=>[(20,s_.1),(23,.string (rdOf ByteArray.empty y208 x4_1)),(27,s_.2.2),(28,.string (strOfNums y212)),(22,.pointer (some (s_.2.1.add (x4_1).toNat)))]) (fun s_ w'=>(Kd.R (Kd.int .i64) 3 w' w.heap.size (fun k_=>(w.heap.size≤k_)) (.slice (some ad206) y203.length co13) y203)∧(Kd.R Kd.string 9 w' w.heap.size (fun k_=>(w.heap.size≤k_)) s_.1 y208)∧(Kd.R (Kd.int .u8) 5 w' w.heap.size (fun k_=>(w.heap.size≤k_)) s_.2.2 y212)∧(Kd.N k51 51 w' w.heap.size (fun k_=>(w.heap.size≤k_)∧some k_≠(.slice (some ad206) y203.length co13:Value).ownBlock∧some k_≠(s_.1:Value).ownBlock∧some k_≠(s_.2.2:Value).ownBlock) (.slice Ao14 x3_1.length co14) x3_1)∧(∃ c_,(s_.1:Value)=.slice (some s_.2.1) y208.length c_)∧(Below w.heap.size w w')) ?_ ?_
          rotate_left
          ·intro hJ1_4_8_9
           refine join_ (σ:=Value × Addr × Value × Value) 3 #[true,true,true,true,false,true,true,true,true,true,true,false,false] (fun s_=>[(20,s_.1),(27,s_.2.2.1),(28,.string (strOfNums y212)),(29,s_.2.2.2),(22,.pointer (some (s_.2.1.add (x4_1).toNat)))]) (fun s_ w'=>(Kd.R (Kd.int .i64) 3 w' w.heap.size (fun k_=>(w.heap.size≤k_)) (.slice (some ad206) y203.length co13) y203)∧(Kd.R Kd.string 9 w' w.heap.size (fun k_=>(w.heap.size≤k_)) s_.1 y208)∧(Kd.R (Kd.int .u8) 5 w' w.heap.size (fun k_=>(w.heap.size≤k_)) s_.2.2.1 y212)∧(Kd.N k51 51 w' w.heap.size (fun k_=>(w.heap.size≤k_)∧some k_≠(.slice (some ad206) y203.length co13:Value).ownBlock∧some k_≠(s_.1:Value).ownBlock∧some k_≠(s_.2.2.1:Value).ownBlock∧some k_≠(.slice Ao14 x3_1.length co14:Value).ownBlock) s_.2.2.2 t215)∧(Kd.N k51 51 w' w.heap.size (fun k_=>(w.heap.size≤k_)∧some k_≠(.slice (some ad206) y203.length co13:Value).ownBlock∧some k_≠(s_.1:Value).ownBlock∧some k_≠(s_.2.2.1:Value).ownBlock∧some k_≠(s_.2.2.2:Value).ownBlock) (.slice Ao14 x3_1.length co14) x3_1)∧(∃ c_,(s_.1:Value)=.slice (some s_.2.1) y208.length c_)∧(Below w.heap.size w w')) ?_ ?_
           rotate_left
           ·intro hJ1_8_9_10
            refine join_ (σ:=Value × Addr × Value) 4 #[true,true,true,true,true,true,true,true,true,false,false,false,false] (fun s_=>[(20,s_.1),(23,.string (rdOf ByteArray.empty y208 x4_1)),(27,s_.2.2),(22,.pointer (some (s_.2.1.add (x4_1).toNat)))]) (fun s_ w'=>(Kd.R (Kd.int .i64) 3 w' w.heap.size (fun k_=>(w.heap.size≤k_)) (.slice (some ad206) y203.length co13) y203)∧(Kd.R Kd.string 9 w' w.heap.size (fun k_=>(w.heap.size≤k_)) s_.1 y208)∧(Kd.R (Kd.int .u8) 5 w' w.heap.size (fun k_=>(w.heap.size≤k_)) s_.2.2 y212)∧(Kd.N k51 51 w' w.heap.size (fun k_=>(w.heap.size≤k_)∧some k_≠(.slice (some ad206) y203.length co13:Value).ownBlock∧some k_≠(s_.1:Value).ownBlock∧some k_≠(s_.2.2:Value).ownBlock) (.slice Ao14 x3_1.length co14) x3_1)∧(∃ c_,(s_.1:Value)=.slice (some s_.2.1) y208.length c_)∧(Below w.heap.size w w')) ?_ ?_
            rotate_left
            ·intro hJ1_4_8
             refine join_ (σ:=Value × Addr × Value) 4 #[true,true,true,true,false,true,true,true,true,true,false,false,false] (fun s_=>[(20,s_.1),(27,s_.2.2),(28,.string (strOfNums y212)),(22,.pointer (some (s_.2.1.add (x4_1).toNat)))]) (fun s_ w'=>(Kd.R (Kd.int .i64) 3 w' w.heap.size (fun k_=>(w.heap.size≤k_)) (.slice (some ad206) y203.length co13) y203)∧(Kd.R Kd.string 9 w' w.heap.size (fun k_=>(w.heap.size≤k_)) s_.1 y208)∧(Kd.R (Kd.int .u8) 5 w' w.heap.size (fun k_=>(w.heap.size≤k_)) s_.2.2 y212)∧(Kd.N k51 51 w' w.heap.size (fun k_=>(w.heap.size≤k_)∧some k_≠(.slice (some ad206) y203.length co13:Value).ownBlock∧some k_≠(s_.1:Value).ownBlock∧some k_≠(s_.2.2:Value).ownBlock) (.slice Ao14 x3_1.length co14) x3_1)∧(∃ c_,(s_.1:Value)=.slice (some s_.2.1) y208.length c_)∧(Below w.heap.size w w')) ?_ ?_
             rotate_left
             ·intro hJ1_8_9
              refine join_ (σ:=Value × Value) 5 #[true,false,true,false,false,true,true,true,true,true,true,false,false] (fun s_=>[(27,s_.1),(28,.string (strOfNums y212)),(29,s_.2)]) (fun s_ w'=>(Kd.R (Kd.int .i64) 3 w' w.heap.size (fun k_=>(w.heap.size≤k_)) (.slice (some ad206) y203.length co13) y203)∧(Kd.R (Kd.int .u8) 5 w' w.heap.size (fun k_=>(w.heap.size≤k_)) s_.1 y212)∧(Kd.N k51 51 w' w.heap.size (fun k_=>(w.heap.size≤k_)∧some k_≠(.slice (some ad206) y203.length co13:Value).ownBlock∧some k_≠(s_.1:Value).ownBlock∧some k_≠(.slice Ao14 x3_1.length co14:Value).ownBlock) s_.2 t215)∧(Kd.N k51 51 w' w.heap.size (fun k_=>(w.heap.size≤k_)∧some k_≠(.slice (some ad206) y203.length co13:Value).ownBlock∧some k_≠(s_.1:Value).ownBlock∧some k_≠(s_.2:Value).ownBlock) (.slice Ao14 x3_1.length co14) x3_1)∧(Below w.heap.size w w')) ?_ ?_
              rotate_left
              ·intro hJ8_9_10
               refine join_ (σ:=Value × Addr) 5 #[true,true,true,true,true,true,true,true,false,false,false,false,false] (fun s_=>[(20,s_.1),(23,.string (rdOf ByteArray.empty y208 x4_1)),(22,.pointer (some (s_.2.add (x4_1).toNat)))]) (fun s_ w'=>(Kd.R (Kd.int .i64) 3 w' w.heap.size (fun k_=>(w.heap.size≤k_)) (.slice (some ad206) y203.length co13) y203)∧(Kd.R Kd.string 9 w' w.heap.size (fun k_=>(w.heap.size≤k_)) s_.1 y208)∧(Kd.N k51 51 w' w.heap.size (fun k_=>(w.heap.size≤k_)∧some k_≠(.slice (some ad206) y203.length co13:Value).ownBlock∧some k_≠(s_.1:Value).ownBlock) (.slice Ao14 x3_1.length co14) x3_1)∧(∃ c_,(s_.1:Value)=.slice (some s_.2) y208.length c_)∧(Below w.heap.size w w')) ?_ ?_
               rotate_left
               ·intro hJ1_4
                refine join_ (σ:=Value × Addr × Value) 5 #[true,true,true,true,false,true,true,true,true,false,false,false,false] (fun s_=>[(20,s_.1),(27,s_.2.2),(22,.pointer (some (s_.2.1.add (x4_1).toNat)))]) (fun s_ w'=>(Kd.R (Kd.int .i64) 3 w' w.heap.size (fun k_=>(w.heap.size≤k_)) (.slice (some ad206) y203.length co13) y203)∧(Kd.R Kd.string 9 w' w.heap.size (fun k_=>(w.heap.size≤k_)) s_.1 y208)∧(Kd.R (Kd.int .u8) 5 w' w.heap.size (fun k_=>(w.heap.size≤k_)) s_.2.2 y212)∧(Kd.N k51 51 w' w.heap.size (fun k_=>(w.heap.size≤k_)∧some k_≠(.slice (some ad206) y203.length co13:Value).ownBlock∧some k_≠(s_.1:Value).ownBlock∧some k_≠(s_.2.2:Value).ownBlock) (.slice Ao14 x3_1.length co14) x3_1)∧(∃ c_,(s_.1:Value)=.slice (some s_.2.1) y208.length c_)∧(Below w.heap.size w w')) ?_ ?_
                rotate_left
                ·intro hJ1_8
                 refine join_ (σ:=Value) 6 #[true,false,true,false,false,true,true,true,true,true,false,false,false] (fun s_=>[(27,s_),(28,.string (strOfNums y212))]) (fun s_ w'=>(Kd.R (Kd.int .i64) 3 w' w.heap.size (fun k_=>(w.heap.size≤k_)) (.slice (some ad206) y203.length co13) y203)∧(Kd.R (Kd.int .u8) 5 w' w.heap.size (fun k_=>(w.heap.size≤k_)) s_ y212)∧(Kd.N k51 51 w' w.heap.size (fun k_=>(w.heap.size≤k_)∧some k_≠(.slice (some ad206) y203.length co13:Value).ownBlock∧some k_≠(s_:Value).ownBlock) (.slice Ao14 x3_1.length co14) x3_1)∧(Below w.heap.size w w')) ?_ ?_
                 rotate_left
                 ·intro hJ8_9
                  refine join_ (σ:=Value × Addr) 6 #[true,true,true,true,false,true,true,true,false,false,false,false,false] (fun s_=>[(20,s_.1),(22,.pointer (some (s_.2.add (x4_1).toNat)))]) (fun s_ w'=>(Kd.R (Kd.int .i64) 3 w' w.heap.size (fun k_=>(w.heap.size≤k_)) (.slice (some ad206) y203.length co13) y203)∧(Kd.R Kd.string 9 w' w.heap.size (fun k_=>(w.heap.size≤k_)) s_.1 y208)∧(Kd.N k51 51 w' w.heap.size (fun k_=>(w.heap.size≤k_)∧some k_≠(.slice (some ad206) y203.length co13:Value).ownBlock∧some k_≠(s_.1:Value).ownBlock) (.slice Ao14 x3_1.length co14) x3_1)∧(∃ c_,(s_.1:Value)=.slice (some s_.2) y208.length c_)∧(Below w.heap.size w w')) ?_ ?_
                  rotate_left
                  ·intro hJ1
                   refine join_ (σ:=Value) 7 #[true,false,true,false,false,true,true,true,true,false,false,false,false] (fun s_=>[(27,s_)]) (fun s_ w'=>(Kd.R (Kd.int .i64) 3 w' w.heap.size (fun k_=>(w.heap.size≤k_)) (.slice (some ad206) y203.length co13) y203)∧(Kd.R (Kd.int .u8) 5 w' w.heap.size (fun k_=>(w.heap.size≤k_)) s_ y212)∧(Kd.N k51 51 w' w.heap.size (fun k_=>(w.heap.size≤k_)∧some k_≠(.slice (some ad206) y203.length co13:Value).ownBlock∧some k_≠(s_:Value).ownBlock) (.slice Ao14 x3_1.length co14) x3_1)∧(Below w.heap.size w w')) ?_ ?_
                   rotate_left
                   ·intro hJ8
                    refine two_ (i:=1) (j:=8) (Ni:=some 20) (Nj:=some 27) #[true,true,true,false,false,true,true,true,false,false,false,false,false] #[true,false,true,false,false,true,true,true,true,false,false,false,false] rfl rfl rfl rfl (two_of HT_.out (by kernel_rfl)) (by decide) (by decide) (fun K hK=>?_) (fun K hK=>?_)
                    ·skip
                     refine Kd.R_lit_step Kd.string _ 9 ?hg (N:=20) ?hd (xs:=([(⟨#[97]⟩:ByteArray),(⟨#[98]⟩:ByteArray),(⟨#[99]⟩:ByteArray)]:List ByteArray)) (inner:=[.string (⟨#[97]⟩:ByteArray),.string (⟨#[98]⟩:ByteArray),.string (⟨#[99]⟩:ByteArray)]) (ok:=fun _=>True) (okp:=fun _=>True) ?hr ?hp (fun _ hk=>hk) trivial (Below.refl _ _) (Nat.le_refl _) (by simp) ?_;(case hd=>rfl);(case hg=>rfl);(case hr=>first|(go_simp;done)|(go_simp;rfl));(case hp=>exact (Reps.one (show Kd.M Kd.string _ _ _ (⟨#[97]⟩:ByteArray) [.string (⟨#[97]⟩:ByteArray)] from rfl) (Reps.one (show Kd.M Kd.string _ _ _ (⟨#[98]⟩:ByteArray) [.string (⟨#[98]⟩:ByteArray)] from rfl) (Reps.one (show Kd.M Kd.string _ _ _ (⟨#[99]⟩:ByteArray) [.string (⟨#[99]⟩:ByteArray)] from rfl) (Reps.none _ _)))))
                     intro v209 w16 ho17 hb hg_ hnew_
                     clear hg_ hnew_
                     (first|rw [← Ny208.out] at ho17|(simp only [Int.reduceToNat] at ho17;rw [← Ny208.out] at ho17))
                     have n0_:=Aside0.mk (Kd.N_elder' (by (with_reducible repeat (first|apply nA_|apply nN_|apply nD_));exact HO_3.out) (Kd.R_base ho17) hb)
                     have n1_:=Aside0.mk (Kd.R_below (by (with_reducible repeat (first|apply rA_|apply rN_|apply rD_));exact HO205.out) hb)
                     have n2_:=Aside0.mk (Kd.R_lower (Kd.R_newM (M:=fun k_=>(w.heap.size≤k_)) ho17 (below_size (by repeat (first|(with_reducible first|exact HB.out|apply bA_|apply bN_|apply bD_)|exact HB.out))) (fun k_ h_=>h_)) (below_size (by repeat (first|(with_reducible first|exact HB.out|apply bA_|apply bN_|apply bD_)|exact HB.out))))
                     have n3_:=Aside0.mk (below_step (by repeat (first|(with_reducible first|exact HB.out|apply bA_|apply bN_|apply bD_)|exact HB.out)) hb)
                     clear HO_3
                     clear HO205
                     clear HB
                     have HO_3:=n0_
                     have HO205:=n1_
                     have HO210:=n2_
                     have HB:=n3_
                     clear n0_ n1_ n2_ n3_
                     clear hb ho17
                     obtain ⟨Ao18,co18,eo18⟩:=Kd.R_slice HO210.out
                     subst eo18
                     obtain ⟨ado18,fo18,_⟩:=Kd.at_string (Kd.R_reads' HO210.out).2.2 0 (by decide) (by rw [Ny208.out];simp)
                     cases fo18
                     refine hK.out _ _ trivial (fun hHeld=>?_)
                     clear hK K
                     refine norm_ (a':=?_) ?_ ?_
                     rotate_left
                     ·show Act.put _ (some 20) _=_
                      simp only [Act.put,List.setIfInBounds_toArray,List.set_cons_zero,List.set_cons_succ,i64_w,i32_w]
                      rfl
                     refine pure_ (i:=3) (N:=some 22) (v:=?_) (a':=?_) #[true,true,true,true,false,true,true,true,false,false,false,false,false] rfl rfl (any_of HT_.out (by kernel_rfl)) (fun _ _ _ h=>h) (Or.inl ⟨by rfl,?_⟩) ?_ ?_
                     rotate_left
                     ·intro w'
                      go_simp
                      with_reducible rfl
                     rotate_left
                     ·simp only [Act.put,List.setIfInBounds_toArray,List.set_cons_zero,List.set_cons_succ,i64_w,i32_w]
                      rfl
                     exact norm_ (by first|(simp only [putAll,Act.put,List.setIfInBounds_toArray,List.set_cons_zero,List.set_cons_succ];done)|(simp only [putAll,Act.put,List.setIfInBounds_toArray,List.set_cons_zero,List.set_cons_succ];rfl)) (hJ1 (.slice (some ado18) y208.length co18,ado18) _ ⟨(by (with_reducible repeat (first|apply rA_|apply rN_|apply rD_));exact Kd.R_mono HO205.out (fun _ hk=>by first|exact hk.1|exact hk)),(by (with_reducible repeat (first|apply rA_|apply rN_|apply rD_));exact Kd.R_mono HO210.out (fun _ hk=>by first|exact hk.1|exact hk)),(by (with_reducible repeat (first|apply nA_|apply nN_|apply nD_));exact Kd.N_mono HO_3.out (fun _ hk=>⟨hk.1.1,⟨hk.1.2,hk.2⟩⟩)),⟨_,rfl⟩,(by repeat (first|(with_reducible first|exact HB.out|apply bA_|apply bN_|apply bD_)|exact HB.out))⟩)
                    ·skip
                     refine Kd.R_lit_step (Kd.int .u8) _ 5 ?hg (N:=27) ?hd (xs:=([(wrap64 (48+t207)) % 256]:List Int)) (inner:=[.int .u8 ((wrap64 (48+t207)) % 256)]) (ok:=fun _=>True) (okp:=fun _=>True) ?hr ?hp (fun _ hk=>hk) trivial (Below.refl _ _) (Nat.le_refl _) (by simp) ?_;(case hd=>rfl);(case hg=>rfl);(case hr=>first|(go_simp;done)|(go_simp;rfl));(case hp=>exact (Reps.one (show Kd.M (Kd.int .u8) _ _ _ ((wrap64 (48+t207)) % 256) [.int .u8 ((wrap64 (48+t207)) % 256)] from rfl) (Reps.none _ _)))
                     intro v213 w16 ho17 hb hg_ hnew_
                     clear hg_ hnew_
                     (first|rw [← Ny212.out] at ho17|(simp only [Int.reduceToNat] at ho17;rw [← Ny212.out] at ho17))
                     have n0_:=Aside0.mk (Kd.N_elder' (by (with_reducible repeat (first|apply nA_|apply nN_|apply nD_));exact HO_3.out) (Kd.R_base ho17) hb)
                     have n1_:=Aside0.mk (Kd.R_below (by (with_reducible repeat (first|apply rA_|apply rN_|apply rD_));exact HO205.out) hb)
                     have n2_:=Aside0.mk (Kd.R_lower (Kd.R_newM (M:=fun k_=>(w.heap.size≤k_)) ho17 (below_size (by repeat (first|(with_reducible first|exact HB.out|apply bA_|apply bN_|apply bD_)|exact HB.out))) (fun k_ h_=>h_)) (below_size (by repeat (first|(with_reducible first|exact HB.out|apply bA_|apply bN_|apply bD_)|exact HB.out))))
                     have n3_:=Aside0.mk (below_step (by repeat (first|(with_reducible first|exact HB.out|apply bA_|apply bN_|apply bD_)|exact HB.out)) hb)
                     clear HO_3
                     clear HO205
                     clear HB
                     have HO_3:=n0_
                     have HO205:=n1_
                     have HO214:=n2_
                     have HB:=n3_
                     clear n0_ n1_ n2_ n3_
                     clear hb ho17
                     refine hK.out _ _ trivial (fun hHeld=>?_)
                     clear hK K
                     refine norm_ (a':=?_) ?_ ?_
                     rotate_left
                     ·show Act.put _ (some 27) _=_
                      simp only [Act.put,List.setIfInBounds_toArray,List.set_cons_zero,List.set_cons_succ,i64_w,i32_w]
                      rfl
                     exact norm_ (by first|(simp only [putAll,Act.put,List.setIfInBounds_toArray,List.set_cons_zero,List.set_cons_succ];done)|(simp only [putAll,Act.put,List.setIfInBounds_toArray,List.set_cons_zero,List.set_cons_succ];rfl)) (hJ8 (v213) _ ⟨(by (with_reducible repeat (first|apply rA_|apply rN_|apply rD_));exact Kd.R_mono HO205.out (fun _ hk=>by first|exact hk.1|exact hk)),(by (with_reducible repeat (first|apply rA_|apply rN_|apply rD_));exact Kd.R_mono HO214.out (fun _ hk=>by first|exact hk.1|exact hk)),(by (with_reducible repeat (first|apply nA_|apply nN_|apply nD_));exact Kd.N_mono HO_3.out (fun _ hk=>⟨hk.1.1,⟨hk.1.2,hk.2⟩⟩)),(by repeat (first|(with_reducible first|exact HB.out|apply bA_|apply bN_|apply bD_)|exact HB.out))⟩)
                   ·skip
                    rintro v213 w18 ⟨h0_,h1_,h2_,h3_⟩
                    have n0_:Aside0 (Kd.R (Kd.int .i64) 3 w18 w.heap.size (fun k_=>(w.heap.size≤k_)) (.slice (some ad206) y203.length co13) y203):=⟨h0_⟩
                    have n1_:Aside0 (Kd.R (Kd.int .u8) 5 w18 w.heap.size (fun k_=>(w.heap.size≤k_)) v213 y212):=⟨h1_⟩
                    have n2_:Aside0 (Kd.N k51 51 w18 w.heap.size (fun k_=>(w.heap.size≤k_)∧some k_≠(.slice (some ad206) y203.length co13:Value).ownBlock∧some k_≠(v213:Value).ownBlock) (.slice Ao14 x3_1.length co14) x3_1):=⟨h2_⟩
                    have n3_:Aside0 (Below w.heap.size w w18):=⟨h3_⟩
                    clear HO_3
                    clear HO205
                    clear HB
                    clear h0_ h1_ h2_ h3_
                    have HO205:=n0_
                    have HO214:=n1_
                    have HO_3:=n2_
                    have HB:=n3_
                    clear n0_ n1_ n2_ n3_
                    have hHeld:=trivial
                    refine norm_ (a':=?_) ?_ ?_
                    rotate_left
                    ·simp only [putAll,Act.put,List.setIfInBounds_toArray,List.set_cons_zero,List.set_cons_succ]
                     rfl
                    refine two_ (i:=1) (j:=9) (Ni:=some 20) (Nj:=some 28) #[true,true,true,false,false,true,true,true,true,false,false,false,false] #[true,false,true,false,false,true,true,true,true,true,false,false,false] rfl rfl rfl rfl (two_of HT_.out (by kernel_rfl)) (by decide) (by decide) (fun K hK=>?_) (fun K hK=>?_)
                    ·skip
                     refine Kd.R_lit_step Kd.string _ 9 ?hg (N:=20) ?hd (xs:=([(⟨#[97]⟩:ByteArray),(⟨#[98]⟩:ByteArray),(⟨#[99]⟩:ByteArray)]:List ByteArray)) (inner:=[.string (⟨#[97]⟩:ByteArray),.string (⟨#[98]⟩:ByteArray),.string (⟨#[99]⟩:ByteArray)]) (ok:=fun _=>True) (okp:=fun _=>True) ?hr ?hp (fun _ hk=>hk) trivial (Below.refl _ _) (Nat.le_refl _) (by simp) ?_;(case hd=>rfl);(case hg=>rfl);(case hr=>first|(go_simp;done)|(go_simp;rfl));(case hp=>exact (Reps.one (show Kd.M Kd.string _ _ _ (⟨#[97]⟩:ByteArray) [.string (⟨#[97]⟩:ByteArray)] from rfl) (Reps.one (show Kd.M Kd.string _ _ _ (⟨#[98]⟩:ByteArray) [.string (⟨#[98]⟩:ByteArray)] from rfl) (Reps.one (show Kd.M Kd.string _ _ _ (⟨#[99]⟩:ByteArray) [.string (⟨#[99]⟩:ByteArray)] from rfl) (Reps.none _ _)))))
                     intro v209 w19 ho20 hb hg_ hnew_
                     clear hg_ hnew_
                     (first|rw [← Ny208.out] at ho20|(simp only [Int.reduceToNat] at ho20;rw [← Ny208.out] at ho20))
                     have n0_:=Aside0.mk (Kd.N_elder' (by (with_reducible repeat (first|apply nA_|apply nN_|apply nD_));exact HO_3.out) (Kd.R_base ho20) hb)
                     have n1_:=Aside0.mk (Kd.R_below (by (with_reducible repeat (first|apply rA_|apply rN_|apply rD_));exact HO205.out) hb)
                     have n2_:=Aside0.mk (Kd.R_below (by (with_reducible repeat (first|apply rA_|apply rN_|apply rD_));exact HO214.out) hb)
                     have n3_:=Aside0.mk (Kd.R_lower (Kd.R_newM (M:=fun k_=>(w.heap.size≤k_)) ho20 (below_size (by repeat (first|(with_reducible first|exact HB.out|apply bA_|apply bN_|apply bD_)|exact HB.out))) (fun k_ h_=>h_)) (below_size (by repeat (first|(with_reducible first|exact HB.out|apply bA_|apply bN_|apply bD_)|exact HB.out))))
                     have n4_:=Aside0.mk (below_step (by repeat (first|(with_reducible first|exact HB.out|apply bA_|apply bN_|apply bD_)|exact HB.out)) hb)
                     clear HO_3
                     clear HO205
                     clear HO214
                     clear HB
                     have HO_3:=n0_
                     have HO205:=n1_
                     have HO214:=n2_
                     have HO210:=n3_
                     have HB:=n4_
                     clear n0_ n1_ n2_ n3_ n4_
                     clear hb ho20
                     obtain ⟨Ao21,co21,eo21⟩:=Kd.R_slice HO210.out
                     subst eo21
                     obtain ⟨ado21,fo21,_⟩:=Kd.at_string (Kd.R_reads' HO210.out).2.2 0 (by decide) (by rw [Ny208.out];simp)
                     cases fo21
                     refine hK.out _ _ trivial (fun hHeld=>?_)
                     clear hK K
                     refine norm_ (a':=?_) ?_ ?_
                     rotate_left
                     ·show Act.put _ (some 20) _=_
                      simp only [Act.put,List.setIfInBounds_toArray,List.set_cons_zero,List.set_cons_succ,i64_w,i32_w]
                      rfl
                     refine pure_ (i:=3) (N:=some 22) (v:=?_) (a':=?_) #[true,true,true,true,false,true,true,true,true,false,false,false,false] rfl rfl (any_of HT_.out (by kernel_rfl)) (fun _ _ _ h=>h) (Or.inl ⟨by rfl,?_⟩) ?_ ?_
                     rotate_left
                     ·intro w'
                      go_simp
                      with_reducible rfl
                     rotate_left
                     ·simp only [Act.put,List.setIfInBounds_toArray,List.set_cons_zero,List.set_cons_succ,i64_w,i32_w]
                      rfl
                     exact norm_ (by first|(simp only [putAll,Act.put,List.setIfInBounds_toArray,List.set_cons_zero,List.set_cons_succ];done)|(simp only [putAll,Act.put,List.setIfInBounds_toArray,List.set_cons_zero,List.set_cons_succ];rfl)) (hJ1_8 (.slice (some ado21) y208.length co21,ado21,v213) _ ⟨(by (with_reducible repeat (first|apply rA_|apply rN_|apply rD_));exact HO205.out),(by (with_reducible repeat (first|apply rA_|apply rN_|apply rD_));exact Kd.R_mono HO210.out (fun _ hk=>by first|exact hk.1|exact hk)),(by (with_reducible repeat (first|apply rA_|apply rN_|apply rD_));exact HO214.out),(by (with_reducible repeat (first|apply nA_|apply nN_|apply nD_));exact Kd.N_mono HO_3.out (fun _ hk=>⟨hk.1.1,⟨hk.1.2.1,⟨hk.2,hk.1.2.2⟩⟩⟩)),⟨_,rfl⟩,(by repeat (first|(with_reducible first|exact HB.out|apply bA_|apply bN_|apply bD_)|exact HB.out))⟩)
                    ·skip
                     have hcv19:=own_string (P:=Try.prog) Try.underlying68 Try.underlying5 Try.underlying9 (Kd.own_of_R HO214.out)
                     refine value_ (w1:=?_) (v:=?_) (by rfl) rfl ?_ ?_
                     rotate_left 2
                     ·go_simp
                      constructor
                      ·rfl
                      ·rfl
                     clear hcv19
                     refine hK.out _ _ trivial (fun hHeld=>?_)
                     clear hK K
                     refine norm_ (a':=?_) ?_ ?_
                     rotate_left
                     ·show Act.put _ (some 28) _=_
                      simp only [Act.put,List.setIfInBounds_toArray,List.set_cons_zero,List.set_cons_succ,i64_w,i32_w]
                      rfl
                     exact norm_ (by first|(simp only [putAll,Act.put,List.setIfInBounds_toArray,List.set_cons_zero,List.set_cons_succ];done)|(simp only [putAll,Act.put,List.setIfInBounds_toArray,List.set_cons_zero,List.set_cons_succ];rfl)) (hJ8_9 (v213) _ ⟨(by (with_reducible repeat (first|apply rA_|apply rN_|apply rD_));exact HO205.out),(by (with_reducible repeat (first|apply rA_|apply rN_|apply rD_));exact HO214.out),(by (with_reducible repeat (first|apply nA_|apply nN_|apply nD_));exact HO_3.out),(by repeat (first|(with_reducible first|exact HB.out|apply bA_|apply bN_|apply bD_)|exact HB.out))⟩)
                  ·skip
                   rintro ⟨v209,adz_v209⟩ w19 ⟨h0_,h1_,h2_,h3_,h4_⟩
                   have n0_:Aside0 (Kd.R (Kd.int .i64) 3 w19 w.heap.size (fun k_=>(w.heap.size≤k_)) (.slice (some ad206) y203.length co13) y203):=⟨h0_⟩
                   have n1_:Aside0 (Kd.R Kd.string 9 w19 w.heap.size (fun k_=>(w.heap.size≤k_)) v209 y208):=⟨h1_⟩
                   have n2_:Aside0 (Kd.N k51 51 w19 w.heap.size (fun k_=>(w.heap.size≤k_)∧some k_≠(.slice (some ad206) y203.length co13:Value).ownBlock∧some k_≠(v209:Value).ownBlock) (.slice Ao14 x3_1.length co14) x3_1):=⟨h2_⟩
                   have n3_:Aside0 (∃ c_,(v209:Value)=.slice (some adz_v209) y208.length c_):=⟨h3_⟩
                   have n4_:Aside0 (Below w.heap.size w w19):=⟨h4_⟩
                   clear HO_3
                   clear HO205
                   clear HB
                   clear h0_ h1_ h2_ h3_ h4_
                   have HO205:=n0_
                   have HO210:=n1_
                   have HO_3:=n2_
                   have HA_HO210:=n3_
                   have HB:=n4_
                   clear n0_ n1_ n2_ n3_ n4_
                   have hHeld:=trivial
                   obtain ⟨co20,eo20⟩:=HA_HO210.out
                   clear HA_HO210
                   subst eo20
                   refine norm_ (a':=?_) ?_ ?_
                   rotate_left
                   ·simp only [putAll,Act.put,List.setIfInBounds_toArray,List.set_cons_zero,List.set_cons_succ]
                    rfl
                   refine two_ (i:=4) (j:=8) (Ni:=some 23) (Nj:=some 27) #[true,true,true,true,true,true,true,true,false,false,false,false,false] #[true,true,true,true,false,true,true,true,true,false,false,false,false] rfl rfl rfl rfl (two_of HT_.out (by kernel_rfl)) (by decide) (by decide) (fun K hK=>?_) (fun K hK=>?_)
                   ·skip
                    (have p211:0≤(x4_1:Int):=of_decide_eq_true (by first|(with_reducible assumption)|assumption);have q211:x4_1 < (y208.length:Int):=of_decide_eq_true (by first|(with_reducible assumption)|assumption);obtain ⟨ad211,e211,hx211_0⟩:=Kd.at_string (Kd.R_reads' HO210.out).2.2 x4_1 p211 q211;obtain rfl:adz_v209=ad211:=(by injection e211))
                    refine value_ (w1:=?_) (v:=?_) (by rfl) rfl ?_ ?_
                    rotate_left 2
                    ·go_simp
                     constructor
                     ·rfl
                     ·rfl
                    clear hx211_0
                    refine hK.out _ _ trivial (fun hHeld=>?_)
                    clear hK K
                    refine norm_ (a':=?_) ?_ ?_
                    rotate_left
                    ·show Act.put _ (some 23) _=_
                     simp only [Act.put,List.setIfInBounds_toArray,List.set_cons_zero,List.set_cons_succ,i64_w,i32_w]
                     rfl
                    exact norm_ (by first|(simp only [putAll,Act.put,List.setIfInBounds_toArray,List.set_cons_zero,List.set_cons_succ];done)|(simp only [putAll,Act.put,List.setIfInBounds_toArray,List.set_cons_zero,List.set_cons_succ];rfl)) (hJ1_4 (.slice (some adz_v209) y208.length co20,adz_v209) _ ⟨(by (with_reducible repeat (first|apply rA_|apply rN_|apply rD_));exact HO205.out),(by (with_reducible repeat (first|apply rA_|apply rN_|apply rD_));exact HO210.out),(by (with_reducible repeat (first|apply nA_|apply nN_|apply nD_));exact HO_3.out),⟨_,rfl⟩,(by repeat (first|(with_reducible first|exact HB.out|apply bA_|apply bN_|apply bD_)|exact HB.out))⟩)
                   ·skip
                    refine Kd.R_lit_step (Kd.int .u8) _ 5 ?hg (N:=27) ?hd (xs:=([(wrap64 (48+t207)) % 256]:List Int)) (inner:=[.int .u8 ((wrap64 (48+t207)) % 256)]) (ok:=fun _=>True) (okp:=fun _=>True) ?hr ?hp (fun _ hk=>hk) trivial (Below.refl _ _) (Nat.le_refl _) (by simp) ?_;(case hd=>rfl);(case hg=>rfl);(case hr=>first|(go_simp;done)|(go_simp;rfl));(case hp=>exact (Reps.one (show Kd.M (Kd.int .u8) _ _ _ ((wrap64 (48+t207)) % 256) [.int .u8 ((wrap64 (48+t207)) % 256)] from rfl) (Reps.none _ _)))
                    intro v213 w21 ho22 hb hg_ hnew_
                    clear hg_ hnew_
                    (first|rw [← Ny212.out] at ho22|(simp only [Int.reduceToNat] at ho22;rw [← Ny212.out] at ho22))
                    have n0_:=Aside0.mk (Kd.N_elder' (by (with_reducible repeat (first|apply nA_|apply nN_|apply nD_));exact HO_3.out) (Kd.R_base ho22) hb)
                    have n1_:=Aside0.mk (Kd.R_below (by (with_reducible repeat (first|apply rA_|apply rN_|apply rD_));exact HO205.out) hb)
                    have n2_:=Aside0.mk (Kd.R_below (by (with_reducible repeat (first|apply rA_|apply rN_|apply rD_));exact HO210.out) hb)
                    have n3_:=Aside0.mk (Kd.R_lower (Kd.R_newM (M:=fun k_=>(w.heap.size≤k_)) ho22 (below_size (by repeat (first|(with_reducible first|exact HB.out|apply bA_|apply bN_|apply bD_)|exact HB.out))) (fun k_ h_=>h_)) (below_size (by repeat (first|(with_reducible first|exact HB.out|apply bA_|apply bN_|apply bD_)|exact HB.out))))
                    have n4_:=Aside0.mk (below_step (by repeat (first|(with_reducible first|exact HB.out|apply bA_|apply bN_|apply bD_)|exact HB.out)) hb)
                    clear HO_3
                    clear HO205
                    clear HO210
                    clear HB
                    have HO_3:=n0_
                    have HO205:=n1_
                    have HO210:=n2_
                    have HO214:=n3_
                    have HB:=n4_
                    clear n0_ n1_ n2_ n3_ n4_
                    clear hb ho22
                    refine hK.out _ _ trivial (fun hHeld=>?_)
                    clear hK K
                    refine norm_ (a':=?_) ?_ ?_
                    rotate_left
                    ·show Act.put _ (some 27) _=_
                     simp only [Act.put,List.setIfInBounds_toArray,List.set_cons_zero,List.set_cons_succ,i64_w,i32_w]
                     rfl
                    exact norm_ (by first|(simp only [putAll,Act.put,List.setIfInBounds_toArray,List.set_cons_zero,List.set_cons_succ];done)|(simp only [putAll,Act.put,List.setIfInBounds_toArray,List.set_cons_zero,List.set_cons_succ];rfl)) (hJ1_8 (.slice (some adz_v209) y208.length co20,adz_v209,v213) _ ⟨(by (with_reducible repeat (first|apply rA_|apply rN_|apply rD_));exact HO205.out),(by (with_reducible repeat (first|apply rA_|apply rN_|apply rD_));exact HO210.out),(by (with_reducible repeat (first|apply rA_|apply rN_|apply rD_));exact Kd.R_mono HO214.out (fun _ hk=>by first|exact hk.1|exact hk)),(by (with_reducible repeat (first|apply nA_|apply nN_|apply nD_));exact Kd.N_mono HO_3.out (fun _ hk=>⟨hk.1.1,⟨hk.1.2.1,⟨hk.1.2.2,hk.2⟩⟩⟩)),⟨_,rfl⟩,(by repeat (first|(with_reducible first|exact HB.out|apply bA_|apply bN_|apply bD_)|exact HB.out))⟩)
                 ·skip
                  rintro v213 w19 ⟨h0_,h1_,h2_,h3_⟩
                  have n0_:Aside0 (Kd.R (Kd.int .i64) 3 w19 w.heap.size (fun k_=>(w.heap.size≤k_)) (.slice (some ad206) y203.length co13) y203):=⟨h0_⟩
                  have n1_:Aside0 (Kd.R (Kd.int .u8) 5 w19 w.heap.size (fun k_=>(w.heap.size≤k_)) v213 y212):=⟨h1_⟩
                  have n2_:Aside0 (Kd.N k51 51 w19 w.heap.size (fun k_=>(w.heap.size≤k_)∧some k_≠(.slice (some ad206) y203.length co13:Value).ownBlock∧some k_≠(v213:Value).ownBlock) (.slice Ao14 x3_1.length co14) x3_1):=⟨h2_⟩
                  have n3_:Aside0 (Below w.heap.size w w19):=⟨h3_⟩
                  clear HO_3
                  clear HO205
                  clear HB
                  clear h0_ h1_ h2_ h3_
                  have HO205:=n0_
                  have HO214:=n1_
                  have HO_3:=n2_
                  have HB:=n3_
                  clear n0_ n1_ n2_ n3_
                  have hHeld:=trivial
                  refine norm_ (a':=?_) ?_ ?_
                  rotate_left
                  ·simp only [putAll,Act.put,List.setIfInBounds_toArray,List.set_cons_zero,List.set_cons_succ]
                   rfl
                  refine two_ (i:=1) (j:=10) (Ni:=some 20) (Nj:=some 29) #[true,true,true,false,false,true,true,true,true,true,false,false,false] #[true,false,true,false,false,true,true,true,true,true,true,false,false] rfl rfl rfl rfl (two_of HT_.out (by kernel_rfl)) (by decide) (by decide) (fun K hK=>?_) (fun K hK=>?_)
                  ·skip
                   refine Kd.R_lit_step Kd.string _ 9 ?hg (N:=20) ?hd (xs:=([(⟨#[97]⟩:ByteArray),(⟨#[98]⟩:ByteArray),(⟨#[99]⟩:ByteArray)]:List ByteArray)) (inner:=[.string (⟨#[97]⟩:ByteArray),.string (⟨#[98]⟩:ByteArray),.string (⟨#[99]⟩:ByteArray)]) (ok:=fun _=>True) (okp:=fun _=>True) ?hr ?hp (fun _ hk=>hk) trivial (Below.refl _ _) (Nat.le_refl _) (by simp) ?_;(case hd=>rfl);(case hg=>rfl);(case hr=>first|(go_simp;done)|(go_simp;rfl));(case hp=>exact (Reps.one (show Kd.M Kd.string _ _ _ (⟨#[97]⟩:ByteArray) [.string (⟨#[97]⟩:ByteArray)] from rfl) (Reps.one (show Kd.M Kd.string _ _ _ (⟨#[98]⟩:ByteArray) [.string (⟨#[98]⟩:ByteArray)] from rfl) (Reps.one (show Kd.M Kd.string _ _ _ (⟨#[99]⟩:ByteArray) [.string (⟨#[99]⟩:ByteArray)] from rfl) (Reps.none _ _)))))
                   intro v209 w20 ho21 hb hg_ hnew_
                   clear hg_ hnew_
                   (first|rw [← Ny208.out] at ho21|(simp only [Int.reduceToNat] at ho21;rw [← Ny208.out] at ho21))
                   have n0_:=Aside0.mk (Kd.N_elder' (by (with_reducible repeat (first|apply nA_|apply nN_|apply nD_));exact HO_3.out) (Kd.R_base ho21) hb)
                   have n1_:=Aside0.mk (Kd.R_below (by (with_reducible repeat (first|apply rA_|apply rN_|apply rD_));exact HO205.out) hb)
                   have n2_:=Aside0.mk (Kd.R_below (by (with_reducible repeat (first|apply rA_|apply rN_|apply rD_));exact HO214.out) hb)
                   have n3_:=Aside0.mk (Kd.R_lower (Kd.R_newM (M:=fun k_=>(w.heap.size≤k_)) ho21 (below_size (by repeat (first|(with_reducible first|exact HB.out|apply bA_|apply bN_|apply bD_)|exact HB.out))) (fun k_ h_=>h_)) (below_size (by repeat (first|(with_reducible first|exact HB.out|apply bA_|apply bN_|apply bD_)|exact HB.out))))
                   have n4_:=Aside0.mk (below_step (by repeat (first|(with_reducible first|exact HB.out|apply bA_|apply bN_|apply bD_)|exact HB.out)) hb)
                   clear HO_3
                   clear HO205
                   clear HO214
                   clear HB
                   have HO_3:=n0_
                   have HO205:=n1_
                   have HO214:=n2_
                   have HO210:=n3_
                   have HB:=n4_
                   clear n0_ n1_ n2_ n3_ n4_
                   clear hb ho21
                   obtain ⟨Ao22,co22,eo22⟩:=Kd.R_slice HO210.out
                   subst eo22
                   obtain ⟨ado22,fo22,_⟩:=Kd.at_string (Kd.R_reads' HO210.out).2.2 0 (by decide) (by rw [Ny208.out];simp)
                   cases fo22
                   refine hK.out _ _ trivial (fun hHeld=>?_)
                   clear hK K
                   refine norm_ (a':=?_) ?_ ?_
                   rotate_left
                   ·show Act.put _ (some 20) _=_
                    simp only [Act.put,List.setIfInBounds_toArray,List.set_cons_zero,List.set_cons_succ,i64_w,i32_w]
                    rfl
                   refine pure_ (i:=3) (N:=some 22) (v:=?_) (a':=?_) #[true,true,true,true,false,true,true,true,true,true,false,false,false] rfl rfl (any_of HT_.out (by kernel_rfl)) (fun _ _ _ h=>h) (Or.inl ⟨by rfl,?_⟩) ?_ ?_
                   rotate_left
                   ·intro w'
                    go_simp
                    with_reducible rfl
                   rotate_left
                   ·simp only [Act.put,List.setIfInBounds_toArray,List.set_cons_zero,List.set_cons_succ,i64_w,i32_w]
                    rfl
                   exact norm_ (by first|(simp only [putAll,Act.put,List.setIfInBounds_toArray,List.set_cons_zero,List.set_cons_succ];done)|(simp only [putAll,Act.put,List.setIfInBounds_toArray,List.set_cons_zero,List.set_cons_succ];rfl)) (hJ1_8_9 (.slice (some ado22) y208.length co22,ado22,v213) _ ⟨(by (with_reducible repeat (first|apply rA_|apply rN_|apply rD_));exact HO205.out),(by (with_reducible repeat (first|apply rA_|apply rN_|apply rD_));exact Kd.R_mono HO210.out (fun _ hk=>by first|exact hk.1|exact hk)),(by (with_reducible repeat (first|apply rA_|apply rN_|apply rD_));exact HO214.out),(by (with_reducible repeat (first|apply nA_|apply nN_|apply nD_));exact Kd.N_mono HO_3.out (fun _ hk=>⟨hk.1.1,⟨hk.1.2.1,⟨hk.2,hk.1.2.2⟩⟩⟩)),⟨_,rfl⟩,(by repeat (first|(with_reducible first|exact HB.out|apply bA_|apply bN_|apply bD_)|exact HB.out))⟩)
                  ·skip
                   refine goes_ Try.func20 (by kernel_rfl) rfl #[.string (strOfNums y212)] (by rfl) rfl rfl (by (try simp only [List.map_toArray,List.map_cons,List.map_nil]);first|done|rfl|(simp only [List.length_drop,List.length_take];rfl)) ?_
                   with_reducible refine (cadenceref2_Value.calls (strOfNums y212) t215 _ A9.out).mono ?_
                   rintro e w20 ⟨v216,rfl,ho0,hb⟩
                   refine ⟨_,rfl,?_⟩
                   have n0_:=Aside0.mk (Kd.N_elder' (by (with_reducible repeat (first|apply nA_|apply nN_|apply nD_));exact HO_3.out) (by first|exact Kd.N_base ho0|exact Kd.R_base ho0) hb)
                   have n1_:=Aside0.mk (Kd.R_below (by (with_reducible repeat (first|apply rA_|apply rN_|apply rD_));exact HO205.out) hb)
                   have n2_:=Aside0.mk (Kd.R_below (by (with_reducible repeat (first|apply rA_|apply rN_|apply rD_));exact HO214.out) hb)
                   have n3_:=Aside0.mk (Kd.N_lower (Kd.N_mono (ok':=fun k_=>(w.heap.size≤k_)∧some k_≠(.slice Ao14 x3_1.length co14:Value).ownBlock∧some k_≠(.slice (some ad206) y203.length co13:Value).ownBlock∧some k_≠(v213:Value).ownBlock) (Kd.R_N (Kd.R_bound ho0)) (fun k_ hk_=>⟨(Nat.le_trans (below_size (by repeat (first|(with_reducible first|exact HB.out|apply bA_|apply bN_|apply bD_)|exact HB.out))) hk_.2.1),(Kd.fresh' (Kd.N_lt (by (with_reducible repeat (first|apply nA_|apply nN_|apply nD_));exact HO_3.out)) k_ hk_.2.1),(Kd.fresh' (Kd.R_lt (by (with_reducible repeat (first|apply rA_|apply rN_|apply rD_));exact HO205.out)) k_ hk_.2.1),(Kd.fresh' (Kd.R_lt (by (with_reducible repeat (first|apply rA_|apply rN_|apply rD_));exact HO214.out)) k_ hk_.2.1)⟩)) (below_size (by repeat (first|(with_reducible first|exact HB.out|apply bA_|apply bN_|apply bD_)|exact HB.out))))
                   have n4_:=Aside0.mk (below_step (by repeat (first|(with_reducible first|exact HB.out|apply bA_|apply bN_|apply bD_)|exact HB.out)) hb)
                   clear HO_3
                   clear HO205
                   clear HO214
                   clear HB
                   have HO_3:=n0_
                   have HO205:=n1_
                   have HO214:=n2_
                   have HO217:=n3_
                   have HB:=n4_
                   clear n0_ n1_ n2_ n3_ n4_
                   (try clear hb)
                   (try clear hb2)
                   (try clear hk)
                   (try clear hi)
                   (try clear ho0)
                   refine hK.out _ _ trivial (fun hHeld=>?_)
                   clear hK K
                   refine norm_ (a':=?_) ?_ ?_
                   rotate_left
                   ·show Act.put _ (some 29) _=_
                    simp only [Act.put,List.setIfInBounds_toArray,List.set_cons_zero,List.set_cons_succ,i64_w,i32_w]
                    rfl
                   exact norm_ (by first|(simp only [putAll,Act.put,List.setIfInBounds_toArray,List.set_cons_zero,List.set_cons_succ];done)|(simp only [putAll,Act.put,List.setIfInBounds_toArray,List.set_cons_zero,List.set_cons_succ];rfl)) (hJ8_9_10 (v213,v216) _ ⟨(by (with_reducible repeat (first|apply rA_|apply rN_|apply rD_));exact HO205.out),(by (with_reducible repeat (first|apply rA_|apply rN_|apply rD_));exact HO214.out),(by (with_reducible repeat (first|apply nA_|apply nN_|apply nD_));exact Kd.N_mono HO217.out (fun _ hk=>⟨hk.1,⟨hk.2.2.1,⟨hk.2.2.2,hk.2.1⟩⟩⟩)),(by (with_reducible repeat (first|apply nA_|apply nN_|apply nD_));exact Kd.N_mono HO_3.out (fun _ hk=>⟨hk.1.1,⟨hk.1.2.1,⟨hk.1.2.2,hk.2⟩⟩⟩)),(by repeat (first|(with_reducible first|exact HB.out|apply bA_|apply bN_|apply bD_)|exact HB.out))⟩)
                ·skip
                 rintro ⟨v209,adz_v209,v213⟩ w21 ⟨h0_,h1_,h2_,h3_,h4_,h5_⟩
                 have n0_:Aside0 (Kd.R (Kd.int .i64) 3 w21 w.heap.size (fun k_=>(w.heap.size≤k_)) (.slice (some ad206) y203.length co13) y203):=⟨h0_⟩
                 have n1_:Aside0 (Kd.R Kd.string 9 w21 w.heap.size (fun k_=>(w.heap.size≤k_)) v209 y208):=⟨h1_⟩
                 have n2_:Aside0 (Kd.R (Kd.int .u8) 5 w21 w.heap.size (fun k_=>(w.heap.size≤k_)) v213 y212):=⟨h2_⟩
                 have n3_:Aside0 (Kd.N k51 51 w21 w.heap.size (fun k_=>(w.heap.size≤k_)∧some k_≠(.slice (some ad206) y203.length co13:Value).ownBlock∧some k_≠(v209:Value).ownBlock∧some k_≠(v213:Value).ownBlock) (.slice Ao14 x3_1.length co14) x3_1):=⟨h3_⟩
                 have n4_:Aside0 (∃ c_,(v209:Value)=.slice (some adz_v209) y208.length c_):=⟨h4_⟩
                 have n5_:Aside0 (Below w.heap.size w w21):=⟨h5_⟩
                 clear HO_3
                 clear HO205
                 clear HB
                 clear h0_ h1_ h2_ h3_ h4_ h5_
                 have HO205:=n0_
                 have HO210:=n1_
                 have HO214:=n2_
                 have HO_3:=n3_
                 have HA_HO210:=n4_
                 have HB:=n5_
                 clear n0_ n1_ n2_ n3_ n4_ n5_
                 have hHeld:=trivial
                 obtain ⟨co22,eo22⟩:=HA_HO210.out
                 clear HA_HO210
                 subst eo22
                 refine norm_ (a':=?_) ?_ ?_
                 rotate_left
                 ·simp only [putAll,Act.put,List.setIfInBounds_toArray,List.set_cons_zero,List.set_cons_succ]
                  rfl
                 refine two_ (i:=4) (j:=9) (Ni:=some 23) (Nj:=some 28) #[true,true,true,true,true,true,true,true,true,false,false,false,false] #[true,true,true,true,false,true,true,true,true,true,false,false,false] rfl rfl rfl rfl (two_of HT_.out (by kernel_rfl)) (by decide) (by decide) (fun K hK=>?_) (fun K hK=>?_)
                 ·skip
                  (have p211:0≤(x4_1:Int):=of_decide_eq_true (by first|(with_reducible assumption)|assumption);have q211:x4_1 < (y208.length:Int):=of_decide_eq_true (by first|(with_reducible assumption)|assumption);obtain ⟨ad211,e211,hx211_0⟩:=Kd.at_string (Kd.R_reads' HO210.out).2.2 x4_1 p211 q211;obtain rfl:adz_v209=ad211:=(by injection e211))
                  refine value_ (w1:=?_) (v:=?_) (by rfl) rfl ?_ ?_
                  rotate_left 2
                  ·go_simp
                   constructor
                   ·rfl
                   ·rfl
                  clear hx211_0
                  refine hK.out _ _ trivial (fun hHeld=>?_)
                  clear hK K
                  refine norm_ (a':=?_) ?_ ?_
                  rotate_left
                  ·show Act.put _ (some 23) _=_
                   simp only [Act.put,List.setIfInBounds_toArray,List.set_cons_zero,List.set_cons_succ,i64_w,i32_w]
                   rfl
                  exact norm_ (by first|(simp only [putAll,Act.put,List.setIfInBounds_toArray,List.set_cons_zero,List.set_cons_succ];done)|(simp only [putAll,Act.put,List.setIfInBounds_toArray,List.set_cons_zero,List.set_cons_succ];rfl)) (hJ1_4_8 (.slice (some adz_v209) y208.length co22,adz_v209,v213) _ ⟨(by (with_reducible repeat (first|apply rA_|apply rN_|apply rD_));exact HO205.out),(by (with_reducible repeat (first|apply rA_|apply rN_|apply rD_));exact HO210.out),(by (with_reducible repeat (first|apply rA_|apply rN_|apply rD_));exact HO214.out),(by (with_reducible repeat (first|apply nA_|apply nN_|apply nD_));exact HO_3.out),⟨_,rfl⟩,(by repeat (first|(with_reducible first|exact HB.out|apply bA_|apply bN_|apply bD_)|exact HB.out))⟩)
                 ·skip
                  have hcv23:=own_string (P:=Try.prog) Try.underlying68 Try.underlying5 Try.underlying9 (Kd.own_of_R HO214.out)
                  refine value_ (w1:=?_) (v:=?_) (by rfl) rfl ?_ ?_
                  rotate_left 2
                  ·go_simp
                   constructor
                   ·rfl
                   ·rfl
                  clear hcv23
                  refine hK.out _ _ trivial (fun hHeld=>?_)
                  clear hK K
                  refine norm_ (a':=?_) ?_ ?_
                  rotate_left
                  ·show Act.put _ (some 28) _=_
                   simp only [Act.put,List.setIfInBounds_toArray,List.set_cons_zero,List.set_cons_succ,i64_w,i32_w]
                   rfl
                  exact norm_ (by first|(simp only [putAll,Act.put,List.setIfInBounds_toArray,List.set_cons_zero,List.set_cons_succ];done)|(simp only [putAll,Act.put,List.setIfInBounds_toArray,List.set_cons_zero,List.set_cons_succ];rfl)) (hJ1_8_9 (.slice (some adz_v209) y208.length co22,adz_v209,v213) _ ⟨(by (with_reducible repeat (first|apply rA_|apply rN_|apply rD_));exact HO205.out),(by (with_reducible repeat (first|apply rA_|apply rN_|apply rD_));exact HO210.out),(by (with_reducible repeat (first|apply rA_|apply rN_|apply rD_));exact HO214.out),(by (with_reducible repeat (first|apply nA_|apply nN_|apply nD_));exact HO_3.out),⟨_,rfl⟩,(by repeat (first|(with_reducible first|exact HB.out|apply bA_|apply bN_|apply bD_)|exact HB.out))⟩)
               ·skip
                rintro ⟨v209,adz_v209⟩ w19 ⟨h0_,h1_,h2_,h3_,h4_⟩
                have n0_:Aside0 (Kd.R (Kd.int .i64) 3 w19 w.heap.size (fun k_=>(w.heap.size≤k_)) (.slice (some ad206) y203.length co13) y203):=⟨h0_⟩
                have n1_:Aside0 (Kd.R Kd.string 9 w19 w.heap.size (fun k_=>(w.heap.size≤k_)) v209 y208):=⟨h1_⟩
                have n2_:Aside0 (Kd.N k51 51 w19 w.heap.size (fun k_=>(w.heap.size≤k_)∧some k_≠(.slice (some ad206) y203.length co13:Value).ownBlock∧some k_≠(v209:Value).ownBlock) (.slice Ao14 x3_1.length co14) x3_1):=⟨h2_⟩
                have n3_:Aside0 (∃ c_,(v209:Value)=.slice (some adz_v209) y208.length c_):=⟨h3_⟩
                have n4_:Aside0 (Below w.heap.size w w19):=⟨h4_⟩
                clear HO_3
                clear HO205
                clear HB
                clear h0_ h1_ h2_ h3_ h4_
                have HO205:=n0_
                have HO210:=n1_
                have HO_3:=n2_
                have HA_HO210:=n3_
                have HB:=n4_
                clear n0_ n1_ n2_ n3_ n4_
                have hHeld:=trivial
                obtain ⟨co20,eo20⟩:=HA_HO210.out
                clear HA_HO210
                subst eo20
                refine norm_ (a':=?_) ?_ ?_
                rotate_left
                ·simp only [putAll,Act.put,List.setIfInBounds_toArray,List.set_cons_zero,List.set_cons_succ]
                 rfl
                refine one_ (i:=8) (N:=some 27) #[true,true,true,true,true,true,true,true,true,false,false,false,false] rfl rfl (one_of HT_.out (by kernel_rfl)) (by decide) (fun K hK=>?_)
                refine Kd.R_lit_step (Kd.int .u8) _ 5 ?hg (N:=27) ?hd (xs:=([(wrap64 (48+t207)) % 256]:List Int)) (inner:=[.int .u8 ((wrap64 (48+t207)) % 256)]) (ok:=fun _=>True) (okp:=fun _=>True) ?hr ?hp (fun _ hk=>hk) trivial (Below.refl _ _) (Nat.le_refl _) (by simp) ?_;(case hd=>rfl);(case hg=>rfl);(case hr=>first|(go_simp;done)|(go_simp;rfl));(case hp=>exact (Reps.one (show Kd.M (Kd.int .u8) _ _ _ ((wrap64 (48+t207)) % 256) [.int .u8 ((wrap64 (48+t207)) % 256)] from rfl) (Reps.none _ _)))
                intro v213 w21 ho22 hb hg_ hnew_
                clear hg_ hnew_
                (first|rw [← Ny212.out] at ho22|(simp only [Int.reduceToNat] at ho22;rw [← Ny212.out] at ho22))
                have n0_:=Aside0.mk (Kd.N_elder' (by (with_reducible repeat (first|apply nA_|apply nN_|apply nD_));exact HO_3.out) (Kd.R_base ho22) hb)
                have n1_:=Aside0.mk (Kd.R_below (by (with_reducible repeat (first|apply rA_|apply rN_|apply rD_));exact HO205.out) hb)
                have n2_:=Aside0.mk (Kd.R_below (by (with_reducible repeat (first|apply rA_|apply rN_|apply rD_));exact HO210.out) hb)
                have n3_:=Aside0.mk (Kd.R_lower (Kd.R_newM (M:=fun k_=>(w.heap.size≤k_)) ho22 (below_size (by repeat (first|(with_reducible first|exact HB.out|apply bA_|apply bN_|apply bD_)|exact HB.out))) (fun k_ h_=>h_)) (below_size (by repeat (first|(with_reducible first|exact HB.out|apply bA_|apply bN_|apply bD_)|exact HB.out))))
                have n4_:=Aside0.mk (below_step (by repeat (first|(with_reducible first|exact HB.out|apply bA_|apply bN_|apply bD_)|exact HB.out)) hb)
                clear HO_3
                clear HO205
                clear HO210
                clear HB
                have HO_3:=n0_
                have HO205:=n1_
                have HO210:=n2_
                have HO214:=n3_
                have HB:=n4_
                clear n0_ n1_ n2_ n3_ n4_
                clear hb ho22
                refine hK.out _ _ trivial (fun hHeld=>?_)
                clear hK K
                refine norm_ (a':=?_) ?_ ?_
                rotate_left
                ·show Act.put _ (some 27) _=_
                 simp only [Act.put,List.setIfInBounds_toArray,List.set_cons_zero,List.set_cons_succ,i64_w,i32_w]
                 rfl
                exact norm_ (by first|(simp only [putAll,Act.put,List.setIfInBounds_toArray,List.set_cons_zero,List.set_cons_succ];done)|(simp only [putAll,Act.put,List.setIfInBounds_toArray,List.set_cons_zero,List.set_cons_succ];rfl)) (hJ1_4_8 (.slice (some adz_v209) y208.length co20,adz_v209,v213) _ ⟨(by (with_reducible repeat (first|apply rA_|apply rN_|apply rD_));exact HO205.out),(by (with_reducible repeat (first|apply rA_|apply rN_|apply rD_));exact HO210.out),(by (with_reducible repeat (first|apply rA_|apply rN_|apply rD_));exact Kd.R_mono HO214.out (fun _ hk=>by first|exact hk.1|exact hk)),(by (with_reducible repeat (first|apply nA_|apply nN_|apply nD_));exact Kd.N_mono HO_3.out (fun _ hk=>⟨hk.1.1,⟨hk.1.2.1,⟨hk.1.2.2,hk.2⟩⟩⟩)),⟨_,rfl⟩,(by repeat (first|(with_reducible first|exact HB.out|apply bA_|apply bN_|apply bD_)|exact HB.out))⟩)
              ·skip
               rintro ⟨v213,v216⟩ w20 ⟨h0_,h1_,h2_,h3_,h4_⟩
               have n0_:Aside0 (Kd.R (Kd.int .i64) 3 w20 w.heap.size (fun k_=>(w.heap.size≤k_)) (.slice (some ad206) y203.length co13) y203):=⟨h0_⟩
               have n1_:Aside0 (Kd.R (Kd.int .u8) 5 w20 w.heap.size (fun k_=>(w.heap.size≤k_)) v213 y212):=⟨h1_⟩
               have n2_:Aside0 (Kd.N k51 51 w20 w.heap.size (fun k_=>(w.heap.size≤k_)∧some k_≠(.slice (some ad206) y203.length co13:Value).ownBlock∧some k_≠(v213:Value).ownBlock∧some k_≠(.slice Ao14 x3_1.length co14:Value).ownBlock) v216 t215):=⟨h2_⟩
               have n3_:Aside0 (Kd.N k51 51 w20 w.heap.size (fun k_=>(w.heap.size≤k_)∧some k_≠(.slice (some ad206) y203.length co13:Value).ownBlock∧some k_≠(v213:Value).ownBlock∧some k_≠(v216:Value).ownBlock) (.slice Ao14 x3_1.length co14) x3_1):=⟨h3_⟩
               have n4_:Aside0 (Below w.heap.size w w20):=⟨h4_⟩
               clear HO_3
               clear HO205
               clear HB
               clear h0_ h1_ h2_ h3_ h4_
               have HO205:=n0_
               have HO214:=n1_
               have HO217:=n2_
               have HO_3:=n3_
               have HB:=n4_
               clear n0_ n1_ n2_ n3_ n4_
               have hHeld:=trivial
               refine norm_ (a':=?_) ?_ ?_
               rotate_left
               ·simp only [putAll,Act.put,List.setIfInBounds_toArray,List.set_cons_zero,List.set_cons_succ]
                rfl
               refine one_ (i:=1) (N:=some 20) #[true,true,true,false,false,true,true,true,true,true,true,false,false] rfl rfl (one_of HT_.out (by kernel_rfl)) (by decide) (fun K hK=>?_)
               refine Kd.R_lit_step Kd.string _ 9 ?hg (N:=20) ?hd (xs:=([(⟨#[97]⟩:ByteArray),(⟨#[98]⟩:ByteArray),(⟨#[99]⟩:ByteArray)]:List ByteArray)) (inner:=[.string (⟨#[97]⟩:ByteArray),.string (⟨#[98]⟩:ByteArray),.string (⟨#[99]⟩:ByteArray)]) (ok:=fun _=>True) (okp:=fun _=>True) ?hr ?hp (fun _ hk=>hk) trivial (Below.refl _ _) (Nat.le_refl _) (by simp) ?_;(case hd=>rfl);(case hg=>rfl);(case hr=>first|(go_simp;done)|(go_simp;rfl));(case hp=>exact (Reps.one (show Kd.M Kd.string _ _ _ (⟨#[97]⟩:ByteArray) [.string (⟨#[97]⟩:ByteArray)] from rfl) (Reps.one (show Kd.M Kd.string _ _ _ (⟨#[98]⟩:ByteArray) [.string (⟨#[98]⟩:ByteArray)] from rfl) (Reps.one (show Kd.M Kd.string _ _ _ (⟨#[99]⟩:ByteArray) [.string (⟨#[99]⟩:ByteArray)] from rfl) (Reps.none _ _)))))
               intro v209 w21 ho22 hb hg_ hnew_
               clear hg_ hnew_
               (first|rw [← Ny208.out] at ho22|(simp only [Int.reduceToNat] at ho22;rw [← Ny208.out] at ho22))
               have n0_:=Aside0.mk (Kd.N_elder' (by (with_reducible repeat (first|apply nA_|apply nN_|apply nD_));exact HO_3.out) (Kd.R_base ho22) hb)
               have n1_:=Aside0.mk (Kd.R_below (by (with_reducible repeat (first|apply rA_|apply rN_|apply rD_));exact HO205.out) hb)
               have n2_:=Aside0.mk (Kd.R_below (by (with_reducible repeat (first|apply rA_|apply rN_|apply rD_));exact HO214.out) hb)
               have n3_:=Aside0.mk (Kd.N_elder' (by (with_reducible repeat (first|apply nA_|apply nN_|apply nD_));exact HO217.out) (Kd.R_base ho22) hb)
               have n4_:=Aside0.mk (Kd.R_lower (Kd.R_newM (M:=fun k_=>(w.heap.size≤k_)) ho22 (below_size (by repeat (first|(with_reducible first|exact HB.out|apply bA_|apply bN_|apply bD_)|exact HB.out))) (fun k_ h_=>h_)) (below_size (by repeat (first|(with_reducible first|exact HB.out|apply bA_|apply bN_|apply bD_)|exact HB.out))))
               have n5_:=Aside0.mk (below_step (by repeat (first|(with_reducible first|exact HB.out|apply bA_|apply bN_|apply bD_)|exact HB.out)) hb)
               clear HO_3
               clear HO205
               clear HO214
               clear HO217
               clear HB
               have HO_3:=n0_
               have HO205:=n1_
               have HO214:=n2_
               have HO217:=n3_
               have HO210:=n4_
               have HB:=n5_
               clear n0_ n1_ n2_ n3_ n4_ n5_
               clear hb ho22
               obtain ⟨Ao23,co23,eo23⟩:=Kd.R_slice HO210.out
               subst eo23
               obtain ⟨ado23,fo23,_⟩:=Kd.at_string (Kd.R_reads' HO210.out).2.2 0 (by decide) (by rw [Ny208.out];simp)
               cases fo23
               refine hK.out _ _ trivial (fun hHeld=>?_)
               clear hK K
               refine norm_ (a':=?_) ?_ ?_
               rotate_left
               ·show Act.put _ (some 20) _=_
                simp only [Act.put,List.setIfInBounds_toArray,List.set_cons_zero,List.set_cons_succ,i64_w,i32_w]
                rfl
               refine pure_ (i:=3) (N:=some 22) (v:=?_) (a':=?_) #[true,true,true,true,false,true,true,true,true,true,true,false,false] rfl rfl (any_of HT_.out (by kernel_rfl)) (fun _ _ _ h=>h) (Or.inl ⟨by rfl,?_⟩) ?_ ?_
               rotate_left
               ·intro w'
                go_simp
                with_reducible rfl
               rotate_left
               ·simp only [Act.put,List.setIfInBounds_toArray,List.set_cons_zero,List.set_cons_succ,i64_w,i32_w]
                rfl
               exact norm_ (by first|(simp only [putAll,Act.put,List.setIfInBounds_toArray,List.set_cons_zero,List.set_cons_succ];done)|(simp only [putAll,Act.put,List.setIfInBounds_toArray,List.set_cons_zero,List.set_cons_succ];rfl)) (hJ1_8_9_10 (.slice (some ado23) y208.length co23,ado23,v213,v216) _ ⟨(by (with_reducible repeat (first|apply rA_|apply rN_|apply rD_));exact HO205.out),(by (with_reducible repeat (first|apply rA_|apply rN_|apply rD_));exact Kd.R_mono HO210.out (fun _ hk=>by first|exact hk.1|exact hk)),(by (with_reducible repeat (first|apply rA_|apply rN_|apply rD_));exact HO214.out),(by (with_reducible repeat (first|apply nA_|apply nN_|apply nD_));exact Kd.N_mono HO217.out (fun _ hk=>⟨hk.1.1,⟨hk.1.2.1,⟨hk.2,⟨hk.1.2.2.1,hk.1.2.2.2⟩⟩⟩⟩)),(by (with_reducible repeat (first|apply nA_|apply nN_|apply nD_));exact Kd.N_mono HO_3.out (fun _ hk=>⟨hk.1.1,⟨hk.1.2.1,⟨hk.2,⟨hk.1.2.2.1,hk.1.2.2.2⟩⟩⟩⟩)),⟨_,rfl⟩,(by repeat (first|(with_reducible first|exact HB.out|apply bA_|apply bN_|apply bD_)|exact HB.out))⟩)
             ·skip
              rintro ⟨v209,adz_v209,v213⟩ w22 ⟨h0_,h1_,h2_,h3_,h4_,h5_⟩
              have n0_:Aside0 (Kd.R (Kd.int .i64) 3 w22 w.heap.size (fun k_=>(w.heap.size≤k_)) (.slice (some ad206) y203.length co13) y203):=⟨h0_⟩
              have n1_:Aside0 (Kd.R Kd.string 9 w22 w.heap.size (fun k_=>(w.heap.size≤k_)) v209 y208):=⟨h1_⟩
              have n2_:Aside0 (Kd.R (Kd.int .u8) 5 w22 w.heap.size (fun k_=>(w.heap.size≤k_)) v213 y212):=⟨h2_⟩
              have n3_:Aside0 (Kd.N k51 51 w22 w.heap.size (fun k_=>(w.heap.size≤k_)∧some k_≠(.slice (some ad206) y203.length co13:Value).ownBlock∧some k_≠(v209:Value).ownBlock∧some k_≠(v213:Value).ownBlock) (.slice Ao14 x3_1.length co14) x3_1):=⟨h3_⟩
              have n4_:Aside0 (∃ c_,(v209:Value)=.slice (some adz_v209) y208.length c_):=⟨h4_⟩
              have n5_:Aside0 (Below w.heap.size w w22):=⟨h5_⟩
              clear HO_3
              clear HO205
              clear HB
              clear h0_ h1_ h2_ h3_ h4_ h5_
              have HO205:=n0_
              have HO210:=n1_
              have HO214:=n2_
              have HO_3:=n3_
              have HA_HO210:=n4_
              have HB:=n5_
              clear n0_ n1_ n2_ n3_ n4_ n5_
              have hHeld:=trivial
              obtain ⟨co23,eo23⟩:=HA_HO210.out
              clear HA_HO210
              subst eo23
              refine norm_ (a':=?_) ?_ ?_
              rotate_left
              ·simp only [putAll,Act.put,List.setIfInBounds_toArray,List.set_cons_zero,List.set_cons_succ]
               rfl
              refine two_ (i:=4) (j:=10) (Ni:=some 23) (Nj:=some 29) #[true,true,true,true,true,true,true,true,true,true,false,false,false] #[true,true,true,true,false,true,true,true,true,true,true,false,false] rfl rfl rfl rfl (two_of HT_.out (by kernel_rfl)) (by decide) (by decide) (fun K hK=>?_) (fun K hK=>?_)
              ·skip
               (have p211:0≤(x4_1:Int):=of_decide_eq_true (by first|(with_reducible assumption)|assumption);have q211:x4_1 < (y208.length:Int):=of_decide_eq_true (by first|(with_reducible assumption)|assumption);obtain ⟨ad211,e211,hx211_0⟩:=Kd.at_string (Kd.R_reads' HO210.out).2.2 x4_1 p211 q211;obtain rfl:adz_v209=ad211:=(by injection e211))
               refine value_ (w1:=?_) (v:=?_) (by rfl) rfl ?_ ?_
               rotate_left 2
               ·go_simp
                constructor
                ·rfl
                ·rfl
               clear hx211_0
               refine hK.out _ _ trivial (fun hHeld=>?_)
               clear hK K
               refine norm_ (a':=?_) ?_ ?_
               rotate_left
               ·show Act.put _ (some 23) _=_
                simp only [Act.put,List.setIfInBounds_toArray,List.set_cons_zero,List.set_cons_succ,i64_w,i32_w]
                rfl
               exact norm_ (by first|(simp only [putAll,Act.put,List.setIfInBounds_toArray,List.set_cons_zero,List.set_cons_succ];done)|(simp only [putAll,Act.put,List.setIfInBounds_toArray,List.set_cons_zero,List.set_cons_succ];rfl)) (hJ1_4_8_9 (.slice (some adz_v209) y208.length co23,adz_v209,v213) _ ⟨(by (with_reducible repeat (first|apply rA_|apply rN_|apply rD_));exact HO205.out),(by (with_reducible repeat (first|apply rA_|apply rN_|apply rD_));exact HO210.out),(by (with_reducible repeat (first|apply rA_|apply rN_|apply rD_));exact HO214.out),(by (with_reducible repeat (first|apply nA_|apply nN_|apply nD_));exact HO_3.out),⟨_,rfl⟩,(by repeat (first|(with_reducible first|exact HB.out|apply bA_|apply bN_|apply bD_)|exact HB.out))⟩)
              ·skip
               refine goes_ Try.func20 (by kernel_rfl) rfl #[.string (strOfNums y212)] (by rfl) rfl rfl (by (try simp only [List.map_toArray,List.map_cons,List.map_nil]);first|done|rfl|(simp only [List.length_drop,List.length_take];rfl)) ?_
               with_reducible refine (cadenceref2_Value.calls (strOfNums y212) t215 _ A9.out).mono ?_
               rintro e w24 ⟨v216,rfl,ho0,hb⟩
               refine ⟨_,rfl,?_⟩
               have n0_:=Aside0.mk (Kd.N_elder' (by (with_reducible repeat (first|apply nA_|apply nN_|apply nD_));exact HO_3.out) (by first|exact Kd.N_base ho0|exact Kd.R_base ho0) hb)
               have n1_:=Aside0.mk (Kd.R_below (by (with_reducible repeat (first|apply rA_|apply rN_|apply rD_));exact HO205.out) hb)
               have n2_:=Aside0.mk (Kd.R_below (by (with_reducible repeat (first|apply rA_|apply rN_|apply rD_));exact HO210.out) hb)
               have n3_:=Aside0.mk (Kd.R_below (by (with_reducible repeat (first|apply rA_|apply rN_|apply rD_));exact HO214.out) hb)
               have n4_:=Aside0.mk (Kd.N_lower (Kd.N_mono (ok':=fun k_=>(w.heap.size≤k_)∧some k_≠(.slice Ao14 x3_1.length co14:Value).ownBlock∧some k_≠(.slice (some ad206) y203.length co13:Value).ownBlock∧some k_≠(.slice (some adz_v209) y208.length co23:Value).ownBlock∧some k_≠(v213:Value).ownBlock) (Kd.R_N (Kd.R_bound ho0)) (fun k_ hk_=>⟨(Nat.le_trans (below_size (by repeat (first|(with_reducible first|exact HB.out|apply bA_|apply bN_|apply bD_)|exact HB.out))) hk_.2.1),(Kd.fresh' (Kd.N_lt (by (with_reducible repeat (first|apply nA_|apply nN_|apply nD_));exact HO_3.out)) k_ hk_.2.1),(Kd.fresh' (Kd.R_lt (by (with_reducible repeat (first|apply rA_|apply rN_|apply rD_));exact HO205.out)) k_ hk_.2.1),(Kd.fresh' (Kd.R_lt (by (with_reducible repeat (first|apply rA_|apply rN_|apply rD_));exact HO210.out)) k_ hk_.2.1),(Kd.fresh' (Kd.R_lt (by (with_reducible repeat (first|apply rA_|apply rN_|apply rD_));exact HO214.out)) k_ hk_.2.1)⟩)) (below_size (by repeat (first|(with_reducible first|exact HB.out|apply bA_|apply bN_|apply bD_)|exact HB.out))))
               have n5_:=Aside0.mk (below_step (by repeat (first|(with_reducible first|exact HB.out|apply bA_|apply bN_|apply bD_)|exact HB.out)) hb)
               clear HO_3
               clear HO205
               clear HO210
               clear HO214
               clear HB
               have HO_3:=n0_
               have HO205:=n1_
               have HO210:=n2_
               have HO214:=n3_
               have HO217:=n4_
               have HB:=n5_
               clear n0_ n1_ n2_ n3_ n4_ n5_
               (try clear hb)
               (try clear hb2)
               (try clear hk)
               (try clear hi)
               (try clear ho0)
               refine hK.out _ _ trivial (fun hHeld=>?_)
               clear hK K
               refine norm_ (a':=?_) ?_ ?_
               rotate_left
               ·show Act.put _ (some 29) _=_
                simp only [Act.put,List.setIfInBounds_toArray,List.set_cons_zero,List.set_cons_succ,i64_w,i32_w]
                rfl
               exact norm_ (by first|(simp only [putAll,Act.put,List.setIfInBounds_toArray,List.set_cons_zero,List.set_cons_succ];done)|(simp only [putAll,Act.put,List.setIfInBounds_toArray,List.set_cons_zero,List.set_cons_succ];rfl)) (hJ1_8_9_10 (.slice (some adz_v209) y208.length co23,adz_v209,v213,v216) _ ⟨(by (with_reducible repeat (first|apply rA_|apply rN_|apply rD_));exact HO205.out),(by (with_reducible repeat (first|apply rA_|apply rN_|apply rD_));exact HO210.out),(by (with_reducible repeat (first|apply rA_|apply rN_|apply rD_));exact HO214.out),(by (with_reducible repeat (first|apply nA_|apply nN_|apply nD_));exact Kd.N_mono HO217.out (fun _ hk=>⟨hk.1,⟨hk.2.2.1,⟨hk.2.2.2.1,⟨hk.2.2.2.2,hk.2.1⟩⟩⟩⟩)),(by (with_reducible repeat (first|apply nA_|apply nN_|apply nD_));exact Kd.N_mono HO_3.out (fun _ hk=>⟨hk.1.1,⟨hk.1.2.1,⟨hk.1.2.2.1,⟨hk.1.2.2.2,hk.2⟩⟩⟩⟩)),⟨_,rfl⟩,(by repeat (first|(with_reducible first|exact HB.out|apply bA_|apply bN_|apply bD_)|exact HB.out))⟩)
            ·skip
             rintro ⟨v209,adz_v209,v213⟩ w21 ⟨h0_,h1_,h2_,h3_,h4_,h5_⟩
             have n0_:Aside0 (Kd.R (Kd.int .i64) 3 w21 w.heap.size (fun k_=>(w.heap.size≤k_)) (.slice (some ad206) y203.length co13) y203):=⟨h0_⟩
             have n1_:Aside0 (Kd.R Kd.string 9 w21 w.heap.size (fun k_=>(w.heap.size≤k_)) v209 y208):=⟨h1_⟩
             have n2_:Aside0 (Kd.R (Kd.int .u8) 5 w21 w.heap.size (fun k_=>(w.heap.size≤k_)) v213 y212):=⟨h2_⟩
             have n3_:Aside0 (Kd.N k51 51 w21 w.heap.size (fun k_=>(w.heap.size≤k_)∧some k_≠(.slice (some ad206) y203.length co13:Value).ownBlock∧some k_≠(v209:Value).ownBlock∧some k_≠(v213:Value).ownBlock) (.slice Ao14 x3_1.length co14) x3_1):=⟨h3_⟩
             have n4_:Aside0 (∃ c_,(v209:Value)=.slice (some adz_v209) y208.length c_):=⟨h4_⟩
             have n5_:Aside0 (Below w.heap.size w w21):=⟨h5_⟩
             clear HO_3
             clear HO205
             clear HB
             clear h0_ h1_ h2_ h3_ h4_ h5_
             have HO205:=n0_
             have HO210:=n1_
             have HO214:=n2_
             have HO_3:=n3_
             have HA_HO210:=n4_
             have HB:=n5_
             clear n0_ n1_ n2_ n3_ n4_ n5_
             have hHeld:=trivial
             obtain ⟨co22,eo22⟩:=HA_HO210.out
             clear HA_HO210
             subst eo22
             refine norm_ (a':=?_) ?_ ?_
             rotate_left
             ·simp only [putAll,Act.put,List.setIfInBounds_toArray,List.set_cons_zero,List.set_cons_succ]
              rfl
             refine one_ (i:=9) (N:=some 28) #[true,true,true,true,true,true,true,true,true,true,false,false,false] rfl rfl (one_of HT_.out (by kernel_rfl)) (by decide) (fun K hK=>?_)
             have hcv23:=own_string (P:=Try.prog) Try.underlying68 Try.underlying5 Try.underlying9 (Kd.own_of_R HO214.out)
             refine value_ (w1:=?_) (v:=?_) (by rfl) rfl ?_ ?_
             rotate_left 2
             ·go_simp
              constructor
              ·rfl
              ·rfl
             clear hcv23
             refine hK.out _ _ trivial (fun hHeld=>?_)
             clear hK K
             refine norm_ (a':=?_) ?_ ?_
             rotate_left
             ·show Act.put _ (some 28) _=_
              simp only [Act.put,List.setIfInBounds_toArray,List.set_cons_zero,List.set_cons_succ,i64_w,i32_w]
              rfl
             exact norm_ (by first|(simp only [putAll,Act.put,List.setIfInBounds_toArray,List.set_cons_zero,List.set_cons_succ];done)|(simp only [putAll,Act.put,List.setIfInBounds_toArray,List.set_cons_zero,List.set_cons_succ];rfl)) (hJ1_4_8_9 (.slice (some adz_v209) y208.length co22,adz_v209,v213) _ ⟨(by (with_reducible repeat (first|apply rA_|apply rN_|apply rD_));exact HO205.out),(by (with_reducible repeat (first|apply rA_|apply rN_|apply rD_));exact HO210.out),(by (with_reducible repeat (first|apply rA_|apply rN_|apply rD_));exact HO214.out),(by (with_reducible repeat (first|apply nA_|apply nN_|apply nD_));exact HO_3.out),⟨_,rfl⟩,(by repeat (first|(with_reducible first|exact HB.out|apply bA_|apply bN_|apply bD_)|exact HB.out))⟩)
           ·skip
            rintro ⟨v209,adz_v209,v213,v216⟩ w23 ⟨h0_,h1_,h2_,h3_,h4_,h5_,h6_⟩
            have n0_:Aside0 (Kd.R (Kd.int .i64) 3 w23 w.heap.size (fun k_=>(w.heap.size≤k_)) (.slice (some ad206) y203.length co13) y203):=⟨h0_⟩
            have n1_:Aside0 (Kd.R Kd.string 9 w23 w.heap.size (fun k_=>(w.heap.size≤k_)) v209 y208):=⟨h1_⟩
            have n2_:Aside0 (Kd.R (Kd.int .u8) 5 w23 w.heap.size (fun k_=>(w.heap.size≤k_)) v213 y212):=⟨h2_⟩
            have n3_:Aside0 (Kd.N k51 51 w23 w.heap.size (fun k_=>(w.heap.size≤k_)∧some k_≠(.slice (some ad206) y203.length co13:Value).ownBlock∧some k_≠(v209:Value).ownBlock∧some k_≠(v213:Value).ownBlock∧some k_≠(.slice Ao14 x3_1.length co14:Value).ownBlock) v216 t215):=⟨h3_⟩
            have n4_:Aside0 (Kd.N k51 51 w23 w.heap.size (fun k_=>(w.heap.size≤k_)∧some k_≠(.slice (some ad206) y203.length co13:Value).ownBlock∧some k_≠(v209:Value).ownBlock∧some k_≠(v213:Value).ownBlock∧some k_≠(v216:Value).ownBlock) (.slice Ao14 x3_1.length co14) x3_1):=⟨h4_⟩
            have n5_:Aside0 (∃ c_,(v209:Value)=.slice (some adz_v209) y208.length c_):=⟨h5_⟩
            have n6_:Aside0 (Below w.heap.size w w23):=⟨h6_⟩
            clear HO_3
            clear HO205
            clear HB
            clear h0_ h1_ h2_ h3_ h4_ h5_ h6_
            have HO205:=n0_
            have HO210:=n1_
            have HO214:=n2_
            have HO217:=n3_
            have HO_3:=n4_
            have HA_HO210:=n5_
            have HB:=n6_
            clear n0_ n1_ n2_ n3_ n4_ n5_ n6_
            have hHeld:=trivial
            obtain ⟨co24,eo24⟩:=HA_HO210.out
            clear HA_HO210
            subst eo24
            refine norm_ (a':=?_) ?_ ?_
            rotate_left
            ·simp only [putAll,Act.put,List.setIfInBounds_toArray,List.set_cons_zero,List.set_cons_succ]
             rfl
            refine one_ (i:=4) (N:=some 23) #[true,true,true,true,true,true,true,true,true,true,true,false,false] rfl rfl (one_of HT_.out (by kernel_rfl)) (by decide) (fun K hK=>?_)
            (have p211:0≤(x4_1:Int):=of_decide_eq_true (by first|(with_reducible assumption)|assumption);have q211:x4_1 < (y208.length:Int):=of_decide_eq_true (by first|(with_reducible assumption)|assumption);obtain ⟨ad211,e211,hx211_0⟩:=Kd.at_string (Kd.R_reads' HO210.out).2.2 x4_1 p211 q211;obtain rfl:adz_v209=ad211:=(by injection e211))
            refine value_ (w1:=?_) (v:=?_) (by rfl) rfl ?_ ?_
            rotate_left 2
            ·go_simp
             constructor
             ·rfl
             ·rfl
            clear hx211_0
            refine hK.out _ _ trivial (fun hHeld=>?_)
            clear hK K
            refine norm_ (a':=?_) ?_ ?_
            rotate_left
            ·show Act.put _ (some 23) _=_
             simp only [Act.put,List.setIfInBounds_toArray,List.set_cons_zero,List.set_cons_succ,i64_w,i32_w]
             rfl
            exact norm_ (by first|(simp only [putAll,Act.put,List.setIfInBounds_toArray,List.set_cons_zero,List.set_cons_succ];done)|(simp only [putAll,Act.put,List.setIfInBounds_toArray,List.set_cons_zero,List.set_cons_succ];rfl)) (hJ1_4_8_9_10 (.slice (some adz_v209) y208.length co24,adz_v209,v213,v216) _ ⟨(by (with_reducible repeat (first|apply rA_|apply rN_|apply rD_));exact HO205.out),(by (with_reducible repeat (first|apply rA_|apply rN_|apply rD_));exact HO210.out),(by (with_reducible repeat (first|apply rA_|apply rN_|apply rD_));exact HO214.out),(by (with_reducible repeat (first|apply nA_|apply nN_|apply nD_));exact HO217.out),(by (with_reducible repeat (first|apply nA_|apply nN_|apply nD_));exact HO_3.out),⟨_,rfl⟩,(by repeat (first|(with_reducible first|exact HB.out|apply bA_|apply bN_|apply bD_)|exact HB.out))⟩)
          ·skip
           rintro ⟨v209,adz_v209,v213⟩ w22 ⟨h0_,h1_,h2_,h3_,h4_,h5_⟩
           have n0_:Aside0 (Kd.R (Kd.int .i64) 3 w22 w.heap.size (fun k_=>(w.heap.size≤k_)) (.slice (some ad206) y203.length co13) y203):=⟨h0_⟩
           have n1_:Aside0 (Kd.R Kd.string 9 w22 w.heap.size (fun k_=>(w.heap.size≤k_)) v209 y208):=⟨h1_⟩
           have n2_:Aside0 (Kd.R (Kd.int .u8) 5 w22 w.heap.size (fun k_=>(w.heap.size≤k_)) v213 y212):=⟨h2_⟩
           have n3_:Aside0 (Kd.N k51 51 w22 w.heap.size (fun k_=>(w.heap.size≤k_)∧some k_≠(.slice (some ad206) y203.length co13:Value).ownBlock∧some k_≠(v209:Value).ownBlock∧some k_≠(v213:Value).ownBlock) (.slice Ao14 x3_1.length co14) x3_1):=⟨h3_⟩
           have n4_:Aside0 (∃ c_,(v209:Value)=.slice (some adz_v209) y208.length c_):=⟨h4_⟩
           have n5_:Aside0 (Below w.heap.size w w22):=⟨h5_⟩
           clear HO_3
           clear HO205
           clear HB
           clear h0_ h1_ h2_ h3_ h4_ h5_
           have HO205:=n0_
           have HO210:=n1_
           have HO214:=n2_
           have HO_3:=n3_
           have HA_HO210:=n4_
           have HB:=n5_
           clear n0_ n1_ n2_ n3_ n4_ n5_
           have hHeld:=trivial
           obtain ⟨co23,eo23⟩:=HA_HO210.out
           clear HA_HO210
           subst eo23
           refine norm_ (a':=?_) ?_ ?_
           rotate_left
           ·simp only [putAll,Act.put,List.setIfInBounds_toArray,List.set_cons_zero,List.set_cons_succ]
            rfl
           refine one_ (i:=10) (N:=some 29) #[true,true,true,true,true,true,true,true,true,true,true,false,false] rfl rfl (one_of HT_.out (by kernel_rfl)) (by decide) (fun K hK=>?_)
           refine goes_ Try.func20 (by kernel_rfl) rfl #[.string (strOfNums y212)] (by rfl) rfl rfl (by (try simp only [List.map_toArray,List.map_cons,List.map_nil]);first|done|rfl|(simp only [List.length_drop,List.length_take];rfl)) ?_
           with_reducible refine (cadenceref2_Value.calls (strOfNums y212) t215 _ A9.out).mono ?_
           rintro e w24 ⟨v216,rfl,ho0,hb⟩
           refine ⟨_,rfl,?_⟩
           have n0_:=Aside0.mk (Kd.N_elder' (by (with_reducible repeat (first|apply nA_|apply nN_|apply nD_));exact HO_3.out) (by first|exact Kd.N_base ho0|exact Kd.R_base ho0) hb)
           have n1_:=Aside0.mk (Kd.R_below (by (with_reducible repeat (first|apply rA_|apply rN_|apply rD_));exact HO205.out) hb)
           have n2_:=Aside0.mk (Kd.R_below (by (with_reducible repeat (first|apply rA_|apply rN_|apply rD_));exact HO210.out) hb)
           have n3_:=Aside0.mk (Kd.R_below (by (with_reducible repeat (first|apply rA_|apply rN_|apply rD_));exact HO214.out) hb)
           have n4_:=Aside0.mk (Kd.N_lower (Kd.N_mono (ok':=fun k_=>(w.heap.size≤k_)∧some k_≠(.slice Ao14 x3_1.length co14:Value).ownBlock∧some k_≠(.slice (some ad206) y203.length co13:Value).ownBlock∧some k_≠(.slice (some adz_v209) y208.length co23:Value).ownBlock∧some k_≠(v213:Value).ownBlock) (Kd.R_N (Kd.R_bound ho0)) (fun k_ hk_=>⟨(Nat.le_trans (below_size (by repeat (first|(with_reducible first|exact HB.out|apply bA_|apply bN_|apply bD_)|exact HB.out))) hk_.2.1),(Kd.fresh' (Kd.N_lt (by (with_reducible repeat (first|apply nA_|apply nN_|apply nD_));exact HO_3.out)) k_ hk_.2.1),(Kd.fresh' (Kd.R_lt (by (with_reducible repeat (first|apply rA_|apply rN_|apply rD_));exact HO205.out)) k_ hk_.2.1),(Kd.fresh' (Kd.R_lt (by (with_reducible repeat (first|apply rA_|apply rN_|apply rD_));exact HO210.out)) k_ hk_.2.1),(Kd.fresh' (Kd.R_lt (by (with_reducible repeat (first|apply rA_|apply rN_|apply rD_));exact HO214.out)) k_ hk_.2.1)⟩)) (below_size (by repeat (first|(with_reducible first|exact HB.out|apply bA_|apply bN_|apply bD_)|exact HB.out))))
           have n5_:=Aside0.mk (below_step (by repeat (first|(with_reducible first|exact HB.out|apply bA_|apply bN_|apply bD_)|exact HB.out)) hb)
           clear HO_3
           clear HO205
           clear HO210
           clear HO214
           clear HB
           have HO_3:=n0_
           have HO205:=n1_
           have HO210:=n2_
           have HO214:=n3_
           have HO217:=n4_
           have HB:=n5_
           clear n0_ n1_ n2_ n3_ n4_ n5_
           (try clear hb)
           (try clear hb2)
           (try clear hk)
           (try clear hi)
           (try clear ho0)
           refine hK.out _ _ trivial (fun hHeld=>?_)
           clear hK K
           refine norm_ (a':=?_) ?_ ?_
           rotate_left
           ·show Act.put _ (some 29) _=_
            simp only [Act.put,List.setIfInBounds_toArray,List.set_cons_zero,List.set_cons_succ,i64_w,i32_w]
            rfl
           exact norm_ (by first|(simp only [putAll,Act.put,List.setIfInBounds_toArray,List.set_cons_zero,List.set_cons_succ];done)|(simp only [putAll,Act.put,List.setIfInBounds_toArray,List.set_cons_zero,List.set_cons_succ];rfl)) (hJ1_4_8_9_10 (.slice (some adz_v209) y208.length co23,adz_v209,v213,v216) _ ⟨(by (with_reducible repeat (first|apply rA_|apply rN_|apply rD_));exact HO205.out),(by (with_reducible repeat (first|apply rA_|apply rN_|apply rD_));exact HO210.out),(by (with_reducible repeat (first|apply rA_|apply rN_|apply rD_));exact HO214.out),(by (with_reducible repeat (first|apply nA_|apply nN_|apply nD_));exact Kd.N_mono HO217.out (fun _ hk=>⟨hk.1,⟨hk.2.2.1,⟨hk.2.2.2.1,⟨hk.2.2.2.2,hk.2.1⟩⟩⟩⟩)),(by (with_reducible repeat (first|apply nA_|apply nN_|apply nD_));exact Kd.N_mono HO_3.out (fun _ hk=>⟨hk.1.1,⟨hk.1.2.1,⟨hk.1.2.2.1,⟨hk.1.2.2.2,hk.2⟩⟩⟩⟩)),⟨_,rfl⟩,(by repeat (first|(with_reducible first|exact HB.out|apply bA_|apply bN_|apply bD_)|exact HB.out))⟩)
         rintro ⟨v209,adz_v209,v213,v216⟩ w23 ⟨h0_,h1_,h2_,h3_,h4_,h5_,h6_⟩
         have n0_:Aside0 (Kd.R (Kd.int .i64) 3 w23 w.heap.size (fun k_=>(w.heap.size≤k_)) (.slice (some ad206) y203.length co13) y203):=⟨h0_⟩
         have n1_:Aside0 (Kd.R Kd.string 9 w23 w.heap.size (fun k_=>(w.heap.size≤k_)) v209 y208):=⟨h1_⟩
         have n2_:Aside0 (Kd.R (Kd.int .u8) 5 w23 w.heap.size (fun k_=>(w.heap.size≤k_)) v213 y212):=⟨h2_⟩
         have n3_:Aside0 (Kd.N k51 51 w23 w.heap.size (fun k_=>(w.heap.size≤k_)∧some k_≠(.slice (some ad206) y203.length co13:Value).ownBlock∧some k_≠(v209:Value).ownBlock∧some k_≠(v213:Value).ownBlock∧some k_≠(.slice Ao14 x3_1.length co14:Value).ownBlock) v216 t215):=⟨h3_⟩
         have n4_:Aside0 (Kd.N k51 51 w23 w.heap.size (fun k_=>(w.heap.size≤k_)∧some k_≠(.slice (some ad206) y203.length co13:Value).ownBlock∧some k_≠(v209:Value).ownBlock∧some k_≠(v213:Value).ownBlock∧some k_≠(v216:Value).ownBlock) (.slice Ao14 x3_1.length co14) x3_1):=⟨h4_⟩
         have n5_:Aside0 (∃ c_,(v209:Value)=.slice (some adz_v209) y208.length c_):=⟨h5_⟩
         have n6_:Aside0 (Below w.heap.size w w23):=⟨h6_⟩
         clear HO_3
         clear HO205
         clear HB
         clear h0_ h1_ h2_ h3_ h4_ h5_ h6_
         have HO205:=n0_
         have HO210:=n1_
         have HO214:=n2_
         have HO217:=n3_
         have HO_3:=n4_
         have HA_HO210:=n5_
         have HB:=n6_
         clear n0_ n1_ n2_ n3_ n4_ n5_ n6_
         have hHeld:=trivial
         obtain ⟨co24,eo24⟩:=HA_HO210.out
         clear HA_HO210
         subst eo24
         obtain ⟨Ao25,co25,eo25⟩:=Kd.N_slice HO217.out
         (first|subst eo25|(injection eo25 with f1_ f2_ f3_;have f4_:=f1_.symm;have f5_:=f3_.symm;clear f1_ f2_ f3_;subst f4_;subst f5_))
         refine norm_ (a':=?_) ?_ ?_
         rotate_left
         ·simp only [putAll,Act.put,List.setIfInBounds_toArray,List.set_cons_zero,List.set_cons_succ]
          rfl
         refine one_ (i:=11) (N:=some 30) #[true,true,true,true,true,true,true,true,true,true,true,true,false] rfl rfl (one_of HT_.out (by kernel_rfl)) (by decide) (fun K hK=>?_)
         refine goes_ Try.func16 (by kernel_rfl) rfl #[.slice Ao14 x3_1.length co14,.string (rdOf ByteArray.empty y208 x4_1),.slice Ao25 t215.length co25] (by rfl) rfl rfl (by (try simp only [List.map_toArray,List.map_cons,List.map_nil]);first|done|rfl|(simp only [List.length_drop,List.length_take];rfl)) ?_
         with_reducible refine (cadenceref2_With.calls k1 (fun k_=>((w.heap.size≤k_)∧(some k_≠(.slice (some ad206) y203.length co13:Value).ownBlock∧(some k_≠(.slice (some adz_v209) y208.length co24:Value).ownBlock∧(some k_≠(v213:Value).ownBlock∧some k_≠(.slice Ao25 t215.length co25:Value).ownBlock))))) _ _ x3_1 (rdOf ByteArray.empty y208 x4_1) (fun k_=>((w.heap.size≤k_)∧(some k_≠(.slice (some ad206) y203.length co13:Value).ownBlock∧(some k_≠(.slice (some adz_v209) y208.length co24:Value).ownBlock∧(some k_≠(v213:Value).ownBlock∧some k_≠(.slice Ao14 x3_1.length co14:Value).ownBlock))))) _ _ t215 t218 _ ?side1 ?side2 A10.out).mono ?_
         (case side1=>exact Kd.N_V (HO_3.out))
         (case side2=>exact Kd.N_V (HO217.out))
         rintro e w26 ⟨v219,rfl,ho0,hb⟩
         refine ⟨_,rfl,?_⟩
         have n0_:=Aside0.mk (Kd.N_elder' (by (with_reducible repeat (first|apply nA_|apply nN_|apply nD_));exact HO_3.out) (by first|exact Kd.N_base ho0|exact Kd.R_base ho0) hb)
         have n1_:=Aside0.mk (Kd.R_below (by (with_reducible repeat (first|apply rA_|apply rN_|apply rD_));exact HO205.out) hb)
         have n2_:=Aside0.mk (Kd.R_below (by (with_reducible repeat (first|apply rA_|apply rN_|apply rD_));exact HO210.out) hb)
         have n3_:=Aside0.mk (Kd.R_below (by (with_reducible repeat (first|apply rA_|apply rN_|apply rD_));exact HO214.out) hb)
         have n4_:=Aside0.mk (Kd.N_elder' (by (with_reducible repeat (first|apply nA_|apply nN_|apply nD_));exact HO217.out) (by first|exact Kd.N_base ho0|exact Kd.R_base ho0) hb)
         have n5_:=Aside0.mk (Kd.N_lower (Kd.N_mono (ok':=fun k_=>(w.heap.size≤k_)∧some k_≠(.slice (some ad206) y203.length co13:Value).ownBlock∧some k_≠(.slice (some adz_v209) y208.length co24:Value).ownBlock∧some k_≠(v213:Value).ownBlock) ho0 (fun k_ hk_=>⟨Or.elim hk_ (fun hs_=>Or.elim hs_ (fun hs_=>hs_.1) (fun hs_=>hs_.1)) (fun hn_=>(Nat.le_trans (below_size (by repeat (first|(with_reducible first|exact HB.out|apply bA_|apply bN_|apply bD_)|exact HB.out))) hn_)),Or.elim hk_ (fun hs_=>Or.elim hs_ (fun hs_=>hs_.2.1) (fun hs_=>hs_.2.1)) (fun hn_=>(Kd.fresh' (Kd.R_lt (by (with_reducible repeat (first|apply rA_|apply rN_|apply rD_));exact HO205.out)) k_ hn_)),Or.elim hk_ (fun hs_=>Or.elim hs_ (fun hs_=>hs_.2.2.1) (fun hs_=>hs_.2.2.1)) (fun hn_=>(Kd.fresh' (Kd.R_lt (by (with_reducible repeat (first|apply rA_|apply rN_|apply rD_));exact HO210.out)) k_ hn_)),Or.elim hk_ (fun hs_=>Or.elim hs_ (fun hs_=>hs_.2.2.2.1) (fun hs_=>hs_.2.2.2.1)) (fun hn_=>(Kd.fresh' (Kd.R_lt (by (with_reducible repeat (first|apply rA_|apply rN_|apply rD_));exact HO214.out)) k_ hn_))⟩)) (below_size (by repeat (first|(with_reducible first|exact HB.out|apply bA_|apply bN_|apply bD_)|exact HB.out))))
         have n6_:=Aside0.mk (below_step (by repeat (first|(with_reducible first|exact HB.out|apply bA_|apply bN_|apply bD_)|exact HB.out)) hb)
         clear HO_3
         clear HO205
         clear HO210
         clear HO214
         clear HO217
         clear HB
         have HO_3:=n0_
         have HO205:=n1_
         have HO210:=n2_
         have HO214:=n3_
         have HO217:=n4_
         have HO220:=n5_
         have HB:=n6_
         clear n0_ n1_ n2_ n3_ n4_ n5_ n6_
         (try clear hb)
         (try clear hb2)
         (try clear hk)
         (try clear hi)
         (try clear ho0)
         refine hK.out _ _ trivial (fun hHeld=>?_)
         clear hK K
         refine norm_ (a':=?_) ?_ ?_
         rotate_left
         ·show Act.put _ (some 30) _=_
          simp only [Act.put,List.setIfInBounds_toArray,List.set_cons_zero,List.set_cons_succ,i64_w,i32_w]
          rfl
         refine pure_ (i:=12) (N:=some 3) (v:=?_) (a':=?_) #[true,true,true,true,true,true,true,true,true,true,true,true,true] rfl rfl (any_of HT_.out (by kernel_rfl)) (fun _ _ _ h=>h) (Or.inl ⟨by rfl,?_⟩) ?_ ?_
         rotate_left
         ·intro w'
          go_simp
          with_reducible rfl
         rotate_left
         ·simp only [Act.put,List.setIfInBounds_toArray,List.set_cons_zero,List.set_cons_succ,i64_w,i32_w]
          rfl
         refine done_ (done_of HT_.out (by kernel_rfl)) ?_
         try go_wp2
         go_roundg k1
         case measure=>have:=HK1.out;omega
         case rel=>exact ⟨(t218),(wrap64 (x4_1+1)),(by first|rfl|(simp;done)|(simp [*];done)),H',⟨by have:=HK1.out;omega⟩,⟨by (with_reducible repeat (first|apply nA_|apply nN_|apply nD_));exact Kd.N_mono HO220.out (fun _ hk=>by first|exact hk.1|exact hk)⟩,⟨by repeat (first|(with_reducible first|exact HB.out|apply bA_|apply bN_|apply bD_)|exact HB.out)⟩⟩
        ·rw [if_neg c8] at H
         exact absurd H (by simp)
       ·rw [if_neg c7] at H
        have c7b0:decide (0 < t207)=false:=decide_eq_false c7
        clear c7
        have H':=Aside0.mk H
        clear H
        go_wp2_with (first|((with_reducible refine gate_dst (N:=11) rfl ?_);refine Kd.R_lit (Kd.int .i64) _ 3 ?hg (N:=11) ?hd (xs:=([1,4,16]:List Int)) (inner:=[.int .i64 1,.int .i64 4,.int .i64 16]) (ok:=fun _=>True) (okp:=fun _=>True) ?hr ?hp (fun _ hk=>hk) trivial (Below.refl _ _) (Nat.le_refl _) (by simp) ?_;(case hd=>rfl);(case hg=>rfl);(case hr=>first|(go_simp;done)|(go_simp;rfl));(case hp=>exact (Reps.one (show Kd.M (Kd.int .i64) _ _ _ 1 [.int .i64 1] from rfl) (Reps.one (show Kd.M (Kd.int .i64) _ _ _ 4 [.int .i64 4] from rfl) (Reps.one (show Kd.M (Kd.int .i64) _ _ _ 16 [.int .i64 16] from rfl) (Reps.none _ _)))));intro v204 w27 ho28 hb hg_ hnew_;clear hg_ hnew_;(first|rw [← Ny203.out] at ho28|(simp only [Int.reduceToNat] at ho28;rw [← Ny203.out] at ho28));have n0_:=Aside0.mk (Kd.N_elder' (by (with_reducible repeat (first|apply nA_|apply nN_|apply nD_));exact HO_3.out) (Kd.R_base ho28) hb);have n1_:=Aside0.mk (Kd.R_lower (Kd.R_newM (M:=fun k_=>(w.heap.size≤k_)) ho28 (below_size (by repeat (first|(with_reducible first|exact HB.out|apply bA_|apply bN_|apply bD_)|exact HB.out))) (fun k_ h_=>h_)) (below_size (by repeat (first|(with_reducible first|exact HB.out|apply bA_|apply bN_|apply bD_)|exact HB.out))));have n2_:=Aside0.mk (below_step (by repeat (first|(with_reducible first|exact HB.out|apply bA_|apply bN_|apply bD_)|exact HB.out)) hb);clear HO_3;clear HB;have HO_3:=n0_;have HO205:=n1_;have HB:=n2_;clear n0_ n1_ n2_;clear hb ho28;obtain ⟨Ao29,co29,eo29⟩:=Kd.R_slice HO205.out;subst eo29;have p206:0≤(x4_1:Int):=of_decide_eq_true (by first|(with_reducible assumption)|assumption);have q206:x4_1 < (y203.length:Int):=of_decide_eq_true (by first|(with_reducible assumption)|assumption);obtain ⟨ad206,e206,hx206_0⟩:=Kd.at_int (Kd.R_reads' HO205.out).2.2 x4_1 p206 q206;cases e206;replace p206:=eq_true p206;replace q206:=eq_true q206)|((with_reducible refine gate_callee (f:=15) rfl ?_);refine goesL_ (some 16) rfl rfl Try.func15 (by kernel_rfl) rfl #[.int .i64 (wrap64 (Int.tdiv a0 (rd y203 x4_1))),.int .i64 4] rfl (by (try simp only [List.map_toArray,List.map_cons,List.map_nil]);first|done|rfl|(simp only [List.length_drop,List.length_take];rfl)) ?_;(with_reducible refine (cadencelaw12_within.calls (wrap64 (Int.tdiv a0 (rd y203 x4_1))) 4 t207 _ A6.out).mono ?_);rintro e w' ⟨rfl,⟨nd,rfl⟩⟩;refine ⟨_,rfl,?_⟩))
        go_roundg k1
        case measure=>have:=HK1.out;omega
        case rel=>exact ⟨(x3_1),(wrap64 (x4_1+1)),(by first|rfl|(simp;done)|(simp [*];done)),H',⟨by have:=HK1.out;omega⟩,⟨by (with_reducible repeat (first|apply nA_|apply nN_|apply nD_));exact Kd.N_mono HO_3.out (fun _ hk=>by first|exact hk.1|exact hk)⟩,⟨by repeat (first|(with_reducible first|exact HB.out|apply bA_|apply bN_|apply bD_)|exact HB.out)⟩⟩
     ·rw [if_neg c4] at H
      exact absurd H (by simp)
    ·rw [if_neg c3] at H
     exact absurd H (by simp)
   ·rw [if_neg c2] at H
    have c2b0:decide (x4_1 < 3)=false:=decide_eq_false c2
    clear c2
    obtain rfl:=Option.some.inj H
    go_wp2
    go_ret
    exact ⟨_,by first|rfl|(simp [errW_none,errW_some] <;> rfl)|(simp [*,errW_none,errW_some] <;> rfl),by (with_reducible repeat (first|apply nA_|apply nN_|apply nD_));exact HO_3.out,by repeat (first|(with_reducible first|exact HB.out|apply bA_|apply bN_|apply bD_)|exact HB.out)⟩
end Go.Proofs.Ytainbaehfdhmbaa.PX
namespace Go.Proofs.Ytainbaehfdhmbaa.PX
open Go.RowKit Go.Proofs.YtainbaehfdhmbaaW.PrintWords Go.Proofs.YtainbaehfdhmbaaW.PrintLast Go.Proofs.YtainbaehfdhmbaaW.PrintMore
attribute [local go_sem] max2_int min2_int max_two min_two max_three min_three max_four min_four   
set_option linter.unusedVariables false
set_option linter.unusedSimpArgs false
def cadencelaw12_value.f (k:Nat) (l0:List (S51)) (a1:ByteArray):Option (ByteArray):=(cadenceref2_Kid.f k l0 a1).bind fun bt224=>(if bt224.2=true then (if (bt224.1.length:Int)=1 then (if 0 < (bt224.1.length:Int) then (some ((rd_T51 bt224.1 0).f0)) else (none)) else (some (⟨#[]⟩:ByteArray))) else (some (⟨#[]⟩:ByteArray)))
theorem cadencelaw12_value.mono:∀ a0 a1 k,LeO (cadencelaw12_value.f k a0 a1) (cadencelaw12_value.f (k+1) a0 a1):=by
 intro a0 a1 k
 unfold cadencelaw12_value.f
 repeat' first
   | (with_reducible exact cadenceref2_Kid.mono _ _ _)
   | (with_reducible exact LeO.refl _)
   | (with_reducible exact LeO.none _)
   | (with_reducible refine LeO.ite ?_ ?_)
   | (with_reducible refine LeO.bind ?_ (fun _=>?_))
   | exact cadenceref2_Kid.mono _ _ _
   | exact LeO.none _
   | refine LeO.ite ?_ ?_
   | refine LeO.bind ?_ (fun _=>?_)
set_option maxHeartbeats 8000000 in
set_option maxRecDepth 100000 in
theorem cadencelaw12_value.calls (k:Nat) (A0:Option Addr) (c0:Nat) (l0:List (S51)) (a1:ByteArray) (r:ByteArray) (w:World) (hr0:Kd.C k51 w A0 l0.length l0) (hc0:l0.length≤c0) (h:cadencelaw12_value.f k l0 a1=some r) :
  Calls Try.prog 12 #[.slice A0 l0.length c0,.string a1] w fun e w'=>e=.returned (.string r)∧Below w.heap.size w w':=by
 have HR0:=Aside0.mk hr0
 have HC0:=Aside0.mk hc0
 clear hr0 hc0
 have HB:=Aside0.mk (Below.refl w.heap.size w)
 have H:((cadenceref2_Kid.f k l0 a1).bind fun bt224=>(if bt224.2=true then (if (bt224.1.length:Int)=1 then (if 0 < (bt224.1.length:Int) then (some ((rd_T51 bt224.1 0).f0)) else (none)) else (some (⟨#[]⟩:ByteArray))) else (some (⟨#[]⟩:ByteArray))))=some r:=h
 clear h
 replace H:=Option.bind_eq_some_iff.mp H
 obtain ⟨⟨t224,t227⟩,A30,H⟩:=H
 replace H:(if t227=true then (if (t224.length:Int)=1 then (if 0 < (t224.length:Int) then (some ((rd_T51 t224 0).f0)) else (none)) else (some (⟨#[]⟩:ByteArray))) else (some (⟨#[]⟩:ByteArray)))=some r:=H
 have A3:=Aside0.mk A30
 clear A30
 by_cases c4:t227=true
 ·subst c4
  have H1:(if (t224.length:Int)=1 then (if 0 < (t224.length:Int) then (some ((rd_T51 t224 0).f0)) else (none)) else (some (⟨#[]⟩:ByteArray)))=some r:=by rw [if_pos rfl] at H;exact H
  clear H
  have H:=H1
  clear H1
  by_cases c5:(t224.length:Int)=1
  ·rw [if_pos c5] at H
   have c5b0:((t224.length:Int) == 1)=true:=beq_iff_eq.mpr c5
   have c5b1:((t224.length:Int) != 1)=false:=bne_eq_false_iff_eq.mpr c5
   clear c5
   by_cases c6:0 < (t224.length:Int)
   ·rw [if_pos c6] at H
    have c6b0:decide (0 < (t224.length:Int))=true:=decide_eq_true c6
    have c6b1:decide (0 < t224.length)=true:=decide_eq_true (by omega)
    clear c6
    obtain rfl:=Option.some.inj H
    go_enter Try.func12,Try.ntmps12
    go_wp2_with (first|((with_reducible refine gate_callee (f:=23) rfl ?_);refine goesL_ (some 10) rfl rfl Try.func23 (by kernel_rfl) rfl #[.slice A0 l0.length c0,.string a1] rfl (by (try simp only [List.map_toArray,List.map_cons,List.map_nil]);first|done|rfl|(simp only [List.length_drop,List.length_take];rfl)) ?_;(with_reducible refine (cadenceref2_Kid.calls k (fun k_=>k_ < w.heap.size) _ _ l0 a1 t224 true _ ?side1 A3.out).mono ?_);(case side1=>exact Kd.V_mk HC0.out (Kd.F_below (Kd.C_F k51_heap HR0.out) (by repeat (first|(with_reducible first|exact HB.out|apply bA_|apply bN_|apply bD_)|exact HB.out))));rintro e w7 ⟨v225,rfl,ho0,hb⟩;refine ⟨_,rfl,?_⟩;have n0_:=Aside0.mk (Kd.V_lower (Kd.V_mono (ok':=fun k_=>True) ho0 (fun k_ hk_=>trivial)) (below_size (by repeat (first|(with_reducible first|exact HB.out|apply bA_|apply bN_|apply bD_)|exact HB.out))));have n1_:=Aside0.mk (below_step (by repeat (first|(with_reducible first|exact HB.out|apply bA_|apply bN_|apply bD_)|exact HB.out)) hb);clear HB;have HO226:=n0_;have HB:=n1_;clear n0_ n1_;(try clear hb);(try clear hb2);(try clear hk);(try clear hi);(try clear ho0);obtain ⟨Ao8,co8,eo8⟩:=Kd.V_slice HO226.out;subst eo8;have p228:0≤(0:Int):=(by omega);have q228:0 < (t224.length:Int):=of_decide_eq_true (by first|(with_reducible assumption)|assumption);obtain ⟨ad228,A228_1,c228_1,e228,hx228_0,hx228_1,hl228_1,hi228_1⟩:=at_T51 (Kd.V_reads' HO226.out).2.2 0 p228 q228;cases e228;obtain ⟨ce228,hce228,hMe228,hcc228⟩:=Kd.V_get HO226.out z51 0 p228 (by first|exact q228|exact of_decide_eq_true (by first|(with_reducible assumption)|assumption)|(have e_:=(Kd.V_reads' HO226.out).1;omega));obtain ⟨ua228_1,uc228_1,rfl,ul228_1,ge228_1⟩:=k51_openF hMe228;have hv228_1:=hcc228 1 _ rfl;rw [add_field _ _ 1 (by omega)] at hv228_1;replace hv228_1:=Option.some.inj (hv228_1.symm.trans hx228_1);injection hv228_1 with hva_ hvn_ hvc_;rw [hva_] at ge228_1;rw [hvc_] at ul228_1;have HL228_1:=Aside0.mk (show Kd.V k51 51 _ w.heap.size _ _ ((rd_T51 t224 0).f1) from Kd.V_mk ul228_1 ge228_1);clear hva_ hvn_ hvc_ ge228_1 ul228_1;clear hcc228 hce228;have qi228:(0 < t224.length)=True:=eq_true (by omega);(try rw [show ((0:Int)).toNat=0 from rfl] at hx228_0);(try rw [show 0 * 2=0 from rfl] at hx228_0);(try rw [Addr.add_zero'] at hx228_0);(try rw [show ((0:Int)).toNat=0 from rfl] at hx228_1);(try rw [show 0 * 2=0 from rfl] at hx228_1);(try rw [Addr.add_zero'] at hx228_1);have HR228_1:=Aside0.mk hi228_1;have HC228_1:=Aside0.mk hl228_1;clear hi228_1 hl228_1;replace p228:=eq_true p228;replace q228:=eq_true q228))
    go_ret
    exact ⟨by first|rfl|(simp [errW_none,errW_some] <;> rfl)|(simp [*,errW_none,errW_some] <;> rfl),by repeat (first|(with_reducible first|exact HB.out|apply bA_|apply bN_|apply bD_)|exact HB.out)⟩
   ·rw [if_neg c6] at H
    exact absurd H (by simp)
  ·rw [if_neg c5] at H
   have c5b0:((t224.length:Int) == 1)=false:=beq_eq_false_iff_ne.mpr c5
   have c5b1:((t224.length:Int) != 1)=true:=bne_iff_ne.mpr c5
   obtain rfl:=Option.some.inj H
   go_enter Try.func12,Try.ntmps12
   go_wp2_with (first|((with_reducible refine gate_callee (f:=23) rfl ?_);refine goesL_ (some 10) rfl rfl Try.func23 (by kernel_rfl) rfl #[.slice A0 l0.length c0,.string a1] rfl (by (try simp only [List.map_toArray,List.map_cons,List.map_nil]);first|done|rfl|(simp only [List.length_drop,List.length_take];rfl)) ?_;(with_reducible refine (cadenceref2_Kid.calls k (fun k_=>k_ < w.heap.size) _ _ l0 a1 t224 true _ ?side1 A3.out).mono ?_);(case side1=>exact Kd.V_mk HC0.out (Kd.F_below (Kd.C_F k51_heap HR0.out) (by repeat (first|(with_reducible first|exact HB.out|apply bA_|apply bN_|apply bD_)|exact HB.out))));rintro e w9 ⟨v225,rfl,ho0,hb⟩;refine ⟨_,rfl,?_⟩;have n0_:=Aside0.mk (Kd.V_lower (Kd.V_mono (ok':=fun k_=>True) ho0 (fun k_ hk_=>trivial)) (below_size (by repeat (first|(with_reducible first|exact HB.out|apply bA_|apply bN_|apply bD_)|exact HB.out))));have n1_:=Aside0.mk (below_step (by repeat (first|(with_reducible first|exact HB.out|apply bA_|apply bN_|apply bD_)|exact HB.out)) hb);clear HB;have HO226:=n0_;have HB:=n1_;clear n0_ n1_;(try clear hb);(try clear hb2);(try clear hk);(try clear hi);(try clear ho0);obtain ⟨Ao10,co10,eo10⟩:=Kd.V_slice HO226.out;subst eo10))
   go_ret
   exact ⟨by first|rfl|(simp [errW_none,errW_some] <;> rfl)|(simp [*,errW_none,errW_some] <;> rfl),by repeat (first|(with_reducible first|exact HB.out|apply bA_|apply bN_|apply bD_)|exact HB.out)⟩
 ·replace c4:=Bool.eq_false_iff.mpr c4
  subst c4
  have H1:(some (⟨#[]⟩:ByteArray))=some r:=by rw [if_neg (show ¬ (false=true) by decide)] at H;exact H
  clear H
  have H:=H1
  clear H1
  obtain rfl:=Option.some.inj H
  go_enter Try.func12,Try.ntmps12
  go_wp2_with (first|((with_reducible refine gate_callee (f:=23) rfl ?_);refine goesL_ (some 10) rfl rfl Try.func23 (by kernel_rfl) rfl #[.slice A0 l0.length c0,.string a1] rfl (by (try simp only [List.map_toArray,List.map_cons,List.map_nil]);first|done|rfl|(simp only [List.length_drop,List.length_take];rfl)) ?_;(with_reducible refine (cadenceref2_Kid.calls k (fun k_=>k_ < w.heap.size) _ _ l0 a1 t224 false _ ?side1 A3.out).mono ?_);(case side1=>exact Kd.V_mk HC0.out (Kd.F_below (Kd.C_F k51_heap HR0.out) (by repeat (first|(with_reducible first|exact HB.out|apply bA_|apply bN_|apply bD_)|exact HB.out))));rintro e w11 ⟨v225,rfl,ho0,hb⟩;refine ⟨_,rfl,?_⟩;have n0_:=Aside0.mk (Kd.V_lower (Kd.V_mono (ok':=fun k_=>True) ho0 (fun k_ hk_=>trivial)) (below_size (by repeat (first|(with_reducible first|exact HB.out|apply bA_|apply bN_|apply bD_)|exact HB.out))));have n1_:=Aside0.mk (below_step (by repeat (first|(with_reducible first|exact HB.out|apply bA_|apply bN_|apply bD_)|exact HB.out)) hb);clear HB;have HO226:=n0_;have HB:=n1_;clear n0_ n1_;(try clear hb);(try clear hb2);(try clear hk);(try clear hi);(try clear ho0)))
  go_ret
  exact ⟨by first|rfl|(simp [errW_none,errW_some] <;> rfl)|(simp [*,errW_none,errW_some] <;> rfl),by repeat (first|(with_reducible first|exact HB.out|apply bA_|apply bN_|apply bD_)|exact HB.out)⟩
end Go.Proofs.Ytainbaehfdhmbaa.PX
set_option linter.unusedVariables false
set_option linter.unusedSimpArgs false
namespace Go.Proofs.Ytainbaehfdhmbaa.PX
open Go.RowKit Go.Proofs.YtainbaehfdhmbaaW.PrintWords Go.Proofs.YtainbaehfdhmbaaW.PrintLast Go.Proofs.YtainbaehfdhmbaaW.PrintMore Go.Proofs.Ytainbaehfdhmbaa
theorem toL_iff (a b : ByteArray) : a.toList = b.toList ↔ a = b := by
  rw [toList_tl, toList_tl]
  exact ⟨tl_inj, fun h => by rw [h]⟩
theorem toL_nil (a : ByteArray) : a.toList = [] ↔ tl a = [] := by rw [toList_tl]
theorem value_ev (t : Tr) (n : ByteArray) (hl : t.length ≤ 1000000000000) : Ev (fun k => cadencelaw12_value.f k t n) (valO (kidO (true, t) n)) := by
  refine Ev.bind (kid_ev t n hl) (Ev.fixed ?_)
  unfold kidO
  simp only
  generalize (kid t n).getD [] = x
  generalize (kid t n).isSome = b
  cases b with
  | false =>
    rw [if_neg Bool.false_ne_true]
    rfl
  | true =>
    rw [if_pos rfl]
    match x with
    | [] => rfl
    | [e] => rfl
    | e :: e' :: x =>
      rw [if_neg (by simp only [List.length_cons]; omega)]
      rfl
theorem within12_4 (a : Int) : ∃ r, cadencelaw12_within.f a 4 = some r := by
  unfold cadencelaw12_within.f
  rw [if_neg (by omega)]
  split
  · exact ⟨_, rfl⟩
  · exact ⟨_, rfl⟩
structure RInv (i : Nat) (t : Tr) : Prop where
  ok : Ok 10 2 t
  len : t.length ≤ i
  cell : ∀ n, Cell (kidO (true, t) n)
  names : ∀ n, (kid t n).isSome = true → n ∈ NS3.take i
theorem row_loop (n : Int) : ∀ (d i : Nat) (t : Tr), i + d = 3 → RInv i t → ∃ t', RowOk t' ∧ Ev (fun k => cadencelaw12_row.l0 k n t (i : Int)) t' := by
  intro d
  induction d with
  | zero =>
    intro i t hi h
    refine ⟨t, ⟨h.ok, h.cell, fun m hm => List.mem_of_mem_take (h.names m hm)⟩, Ev.up ?_⟩
    simp only [cadencelaw12_row.l0]
    exact Ev.congr (fun k => if_neg (by omega)) (Ev.now _)
  | succ d ih =>
    intro i t hi h
    have hlt : i < NS3.length := by show i < 3; omega
    have hr : rdOf ByteArray.empty NS3 (i : Int) = NS3[i] := rdOf_nat hlt
    have hw : wrap64 ((i : Int) + 1) = ((i + 1 : Nat) : Int) := wrap_succ (by omega)
    have hrd : ¬ rd [1, 4, 16] (i : Int) = 0 := by
      rcases (by omega : i = 0 ∨ i = 1 ∨ i = 2) with rfl | rfl | rfl <;> decide
    have hN : ((NS3.length : Nat) : Int) = 3 := rfl
    have hM : ((([1, 4, 16] : List Int).length : Nat) : Int) = 3 := rfl
    obtain ⟨r, hrr⟩ := within12_4 (wrap64 (Int.tdiv n (rd [1, 4, 16] (i : Int))))
    by_cases hp : r > 0
    · have hs : tl (strOfNums [wrap64 (48 + r) % 256]) ≠ [] := by
        show (strOfNums [wrap64 (48 + r) % 256]).data.toList ≠ []
        rw [strOfNums_data]
        simp
      have hx : Ok 10 1 [(⟨strOfNums [wrap64 (48 + r) % 256], []⟩ : Edge)] := ⟨by show 1 ≤ 10; omega, single_sorted _, fun z hz => by
        rw [List.mem_singleton] at hz
        subst hz
        exact Ok.nil _ _⟩
      have hwl := withT_length t NS3[i] [(⟨strOfNums [wrap64 (48 + r) % 256], []⟩ : Edge)]
      have hl := h.len
      have hnew : RInv (i + 1) (withT t NS3[i] [(⟨strOfNums [wrap64 (48 + r) % 256], []⟩ : Edge)]) := by
        refine ⟨h.ok.withT hx (by omega), by omega, fun m => ?_, fun m hm => ?_⟩
        · by_cases e : m = NS3[i]
          · exact .inr ⟨_, hs, by unfold kidO; simp only; rw [kid_withT h.ok.sorted, if_pos e]; rfl⟩
          · have := h.cell m
            unfold kidO at this ⊢
            simp only at this ⊢
            rw [kid_withT h.ok.sorted, if_neg e]
            exact this
        · rw [kid_withT h.ok.sorted] at hm
          rw [List.take_succ_eq_append_getElem hlt, List.mem_append, List.mem_singleton]
          by_cases e : m = NS3[i]
          · exact .inr e
          · rw [if_neg e] at hm
            exact .inl (h.names m hm)
      obtain ⟨t', ht', et⟩ := ih (i + 1) _ (by omega) hnew
      refine ⟨t', ht', Ev.up ?_⟩
      simp only [cadencelaw12_row.l0, Option.bind_some, hr, hw]
      refine Ev.congr (fun k => if_pos (by omega)) (Ev.congr (fun k => if_pos (by omega)) (Ev.congr (fun k => if_pos (by rw [hM]; omega)) (Ev.congr (fun k => if_neg hrd) ?_)))
      simp only [hrr, Option.bind_some, cadenceref2_Value.f]
      exact Ev.congr (fun k => if_pos hp) (Ev.congr (fun k => if_pos (by rw [hN]; omega)) (Ev.bind (with_ev t _ _ (by omega)) et))
    · obtain ⟨t', ht', et⟩ := ih (i + 1) t (by omega) ⟨h.ok, by have := h.len; omega, h.cell, fun m hm => by
        rw [List.take_succ_eq_append_getElem hlt, List.mem_append]
        exact .inl (h.names m hm)⟩
      refine ⟨t', ht', Ev.up ?_⟩
      simp only [cadencelaw12_row.l0, Option.bind_some, hr, hw]
      refine Ev.congr (fun k => if_pos (by omega)) (Ev.congr (fun k => if_pos (by omega)) (Ev.congr (fun k => if_pos (by rw [hM]; omega)) (Ev.congr (fun k => if_neg hrd) ?_)))
      simp only [hrr, Option.bind_some]
      exact Ev.congr (fun k => if_neg hp) et
theorem row_ev (n : Int) : ∃ t, RowOk t ∧ Ev (fun k => cadencelaw12_row.f k n) t :=
  row_loop n 3 0 [] (by omega) ⟨Ok.nil _ _, Nat.le_refl _, fun _ => .inl rfl, fun m hm => by cases hm⟩
theorem resC_len (n : ByteArray) (o a b : OT) : (resC n o a b).2.length ≤ 1 := by
  unfold resC
  split
  · simp
  · split
    · simp
    · split
      · simp
      · simp
def cntC (C : ByteArray → List Cf) (i : Nat) : Nat := ((NS3.take i).flatMap C).length
theorem cntC_succ (C : ByteArray → List Cf) {i : Nat} (h : i < NS3.length) : cntC C (i + 1) = cntC C i + (C NS3[i]).length := by
  unfold cntC
  rw [List.take_succ_eq_append_getElem h, List.flatMap_append, List.length_append, List.flatMap_cons, List.flatMap_nil, List.append_nil]
theorem cntC_le (C : ByteArray → List Cf) (hC : ∀ n, (C n).length ≤ 1) : ∀ i, cntC C i ≤ i
  | 0 => Nat.le_refl _
  | i + 1 => by
    by_cases h : i < NS3.length
    · rw [cntC_succ C h]
      have := cntC_le C hC i
      have := hC NS3[i]
      omega
    · have := cntC_le C hC i
      unfold cntC at this ⊢
      rw [List.take_of_length_le (by omega)] at this ⊢
      omega
theorem cntC_all (C : ByteArray → List Cf) : cntC C 3 = (NS3.flatMap C).length := rfl
theorem cntC_at (C : ByteArray → List Cf) {i : Nat} (h : i < NS3.length) {c : Cf} (hc : C NS3[i] = [c]) : cntC C i < (NS3.flatMap C).length ∧ rd_T38 (NS3.flatMap C) (cntC C i : Int) = c := by
  have e : NS3.flatMap C = (NS3.take i).flatMap C ++ (c :: (NS3.drop (i + 1)).flatMap C) := by
    have h1 : NS3 = NS3.take i ++ NS3[i] :: NS3.drop (i + 1) := by rw [List.getElem_cons_drop, List.take_append_drop]
    have h2 := congrArg (List.flatMap C) h1
    exact h2.trans (by rw [List.flatMap_append, List.flatMap_cons, hc]; rfl)
  have hcn : cntC C i = ((NS3.take i).flatMap C).length := rfl
  rw [e]
  constructor
  · rw [List.length_append, List.length_cons, hcn]
    omega
  · unfold rd_T38
    rw [Int.toNat_natCast, List.getD_eq_getElem?_getD, List.getElem?_append_right (by rw [hcn]; exact Nat.le_refl _), hcn, Nat.sub_self]
    rfl
end Go.Proofs.Ytainbaehfdhmbaa.PX
namespace Go.Proofs.Ytainbaehfdhmbaa.PX
open Go.RowKit Go.Proofs.YtainbaehfdhmbaaW.PrintWords Go.Proofs.YtainbaehfdhmbaaW.PrintLast Go.Proofs.YtainbaehfdhmbaaW.PrintMore
attribute [local go_sem] max2_int min2_int max_two min_two max_three min_three max_four min_four   
set_option linter.unusedVariables false
set_option linter.unusedSimpArgs false
mutual
def cadencelaw12_MergeFirst.l0:Nat→Int→Int→List (S38)→Int→Int→Bool→List (S51)→Bool→List (S51)→Bool→List (S51)→Option (Bool)
 | 0,_,_,_,_,_,_,_,_,_,_,_=>none
 | k+1,x0,x1,x8,x9,x10,x460000,x460001,x461000,x461001,x462000,x462001=>if x10 < 3 then ((some (([(⟨#[97]⟩:ByteArray),(⟨#[98]⟩:ByteArray),(⟨#[99]⟩:ByteArray)]:List ByteArray):List ByteArray)).bind fun y462=>(if 0≤x10 then (if x10 < (y462.length:Int) then ((cadencelaw12_row.f k x0).bind fun t466=>((cadencelaw12_value.f k t466 (rdOf ByteArray.empty y462 x10)).bind fun t469=>((cadencelaw12_row.f k x1).bind fun t470=>((cadencelaw12_value.f k t470 (rdOf ByteArray.empty y462 x10)).bind fun t473=>((cadencelaw12_value.f k x460001 (rdOf ByteArray.empty y462 x10)).bind fun t474=>((cadencelaw12_value.f k x461001 (rdOf ByteArray.empty y462 x10)).bind fun t475=>((cadencelaw12_value.f k x462001 (rdOf ByteArray.empty y462 x10)).bind fun t476=>(if t469.toList=([]:List UInt8) then (cadencelaw12_MergeFirst.j1 k x0 x1 x8 x9 x10 t469 t473 t474 t475 t476 false x460000 x460001 x461000 x461001 x462000 x462001) else (if t473.toList=([]:List UInt8) then (cadencelaw12_MergeFirst.j1 k x0 x1 x8 x9 x10 t469 t473 t474 t475 t476 false x460000 x460001 x461000 x461001 x462000 x462001) else (cadencelaw12_MergeFirst.j1 k x0 x1 x8 x9 x10 t469 t473 t474 t475 t476 (t469.toList != t473.toList) x460000 x460001 x461000 x461001 x462000 x462001)))))))))) else (none)) else (none))) else (if x9=(x8.length:Int) then (if x460000=true then (if x461000=true then (some x462000) else (none)) else (none)) else (none))
def cadencelaw12_MergeFirst.j1:Nat→Int→Int→List (S38)→Int→Int→ByteArray→ByteArray→ByteArray→ByteArray→ByteArray→Bool→Bool→List (S51)→Bool→List (S51)→Bool→List (S51)→Option (Bool)
 | 0,_,_,_,_,_,_,_,_,_,_,_,_,_,_,_,_,_=>none
 | k+1,x0,x1,x8,x9,x10,x12,x13,x14,x15,x16,x72,x460000,x460001,x461000,x461001,x462000,x462001=>if x72=true then (if x9 ≥ (x8.length:Int) then (none) else (if 0≤x9 then (if x9 < (x8.length:Int) then (if ((rd_T38 x8 x9).f1)=2 then (if x14.toList=([]:List UInt8) then (if x15.toList=x12.toList then (if x16.toList=x13.toList then (cadencelaw12_MergeFirst.l0 k x0 x1 x8 (wrap64 (x9+1)) (wrap64 (x10+1)) x460000 x460001 x461000 x461001 x462000 x462001) else (none)) else (none)) else (none)) else (none)) else (none)) else (none))) else (if x12.toList=([]:List UInt8) then (if x14.toList=x13.toList then (if x15.toList=x13.toList then (if x16.toList=x13.toList then (cadencelaw12_MergeFirst.l0 k x0 x1 x8 x9 (wrap64 (x10+1)) x460000 x460001 x461000 x461001 x462000 x462001) else (none)) else (none)) else (none)) else (if x14.toList=x12.toList then (if x15.toList=x12.toList then (if x16.toList=x12.toList then (cadencelaw12_MergeFirst.l0 k x0 x1 x8 x9 (wrap64 (x10+1)) x460000 x460001 x461000 x461001 x462000 x462001) else (none)) else (none)) else (none)))
end
def cadencelaw12_MergeFirst.f (k:Nat) (a0:Int) (a1:Int):Option (Bool):=(cadencelaw12_known.f).bind fun t426=>(if t426=true then ((cadencelaw12_one.f).bind fun t427=>((cadencelaw12_row.f k a0).bind fun t430=>((cadencelaw12_some.f t430).bind fun bt433=>((cadencelaw12_row.f k a1).bind fun t437=>((cadencelaw12_some.f t437).bind fun bt440=>((merge_Merge.f t427 false ([]:List (S51)) bt433.1 bt433.2 bt440.1 bt440.2).bind fun bt444=>(cadencelaw12_MergeFirst.l0 k a0 a1 bt444.2.2.2.2.2.2 0 0 bt444.1 bt444.2.1 bt444.2.2.1 bt444.2.2.2.1 bt444.2.2.2.2.1 bt444.2.2.2.2.2.1))))))) else (none))
theorem cadencelaw12_MergeFirst.mono_l:∀ k,(∀ y0 y1 y2 y3 y4 y5 y6 y7 y8 y9 y10,LeO (cadencelaw12_MergeFirst.l0 k y0 y1 y2 y3 y4 y5 y6 y7 y8 y9 y10) (cadencelaw12_MergeFirst.l0 (k+1) y0 y1 y2 y3 y4 y5 y6 y7 y8 y9 y10))∧(∀ y0 y1 y2 y3 y4 y5 y6 y7 y8 y9 y10 y11 y12 y13 y14 y15 y16,LeO (cadencelaw12_MergeFirst.j1 k y0 y1 y2 y3 y4 y5 y6 y7 y8 y9 y10 y11 y12 y13 y14 y15 y16) (cadencelaw12_MergeFirst.j1 (k+1) y0 y1 y2 y3 y4 y5 y6 y7 y8 y9 y10 y11 y12 y13 y14 y15 y16))
 | 0=>⟨fun _ _ _ _ _ _ _ _ _ _ _ r h=>by simp [cadencelaw12_MergeFirst.l0] at h,fun _ _ _ _ _ _ _ _ _ _ _ _ _ _ _ _ _ r h=>by simp [cadencelaw12_MergeFirst.j1] at h⟩
 | k+1=>by
  obtain ⟨ih0,ih1⟩:=cadencelaw12_MergeFirst.mono_l k
  refine ⟨?_,?_⟩
  ·intro y0 y1 y2 y3 y4 y5 y6 y7 y8 y9 y10
   unfold cadencelaw12_MergeFirst.l0
   repeat' first
   | (with_reducible exact ih0 _ _ _ _ _ _ _ _ _ _ _)
   | (with_reducible exact ih1 _ _ _ _ _ _ _ _ _ _ _ _ _ _ _ _ _)
   | (with_reducible exact cadencelaw12_row.mono _ _)
   | (with_reducible exact cadencelaw12_value.mono _ _ _)
   | (with_reducible exact LeO.refl _)
   | (with_reducible exact LeO.none _)
   | (with_reducible refine LeO.ite ?_ ?_)
   | (with_reducible refine LeO.bind ?_ (fun _=>?_))
   | exact ih0 _ _ _ _ _ _ _ _ _ _ _
   | exact ih1 _ _ _ _ _ _ _ _ _ _ _ _ _ _ _ _ _
   | exact cadencelaw12_row.mono _ _
   | exact cadencelaw12_value.mono _ _ _
   | exact LeO.none _
   | refine LeO.ite ?_ ?_
   | refine LeO.bind ?_ (fun _=>?_)
  ·intro y0 y1 y2 y3 y4 y5 y6 y7 y8 y9 y10 y11 y12 y13 y14 y15 y16
   unfold cadencelaw12_MergeFirst.j1
   repeat' first
   | (with_reducible exact ih0 _ _ _ _ _ _ _ _ _ _ _)
   | (with_reducible exact ih1 _ _ _ _ _ _ _ _ _ _ _ _ _ _ _ _ _)
   | (with_reducible exact cadencelaw12_row.mono _ _)
   | (with_reducible exact cadencelaw12_value.mono _ _ _)
   | (with_reducible exact LeO.refl _)
   | (with_reducible exact LeO.none _)
   | (with_reducible refine LeO.ite ?_ ?_)
   | (with_reducible refine LeO.bind ?_ (fun _=>?_))
   | exact ih0 _ _ _ _ _ _ _ _ _ _ _
   | exact ih1 _ _ _ _ _ _ _ _ _ _ _ _ _ _ _ _ _
   | exact cadencelaw12_row.mono _ _
   | exact cadencelaw12_value.mono _ _ _
   | exact LeO.none _
   | refine LeO.ite ?_ ?_
   | refine LeO.bind ?_ (fun _=>?_)
theorem cadencelaw12_MergeFirst.mono:∀ a0 a1 k,LeO (cadencelaw12_MergeFirst.f k a0 a1) (cadencelaw12_MergeFirst.f (k+1) a0 a1):=by
 intro a0 a1 k
 obtain ⟨ih0,ih1⟩:=cadencelaw12_MergeFirst.mono_l k
 unfold cadencelaw12_MergeFirst.f
 repeat' first
   | (with_reducible exact ih0 _ _ _ _ _ _ _ _ _ _ _)
   | (with_reducible exact ih1 _ _ _ _ _ _ _ _ _ _ _ _ _ _ _ _ _)
   | (with_reducible exact cadencelaw12_row.mono _ _)
   | (with_reducible exact cadencelaw12_value.mono _ _ _)
   | (with_reducible exact LeO.refl _)
   | (with_reducible exact LeO.none _)
   | (with_reducible refine LeO.ite ?_ ?_)
   | (with_reducible refine LeO.bind ?_ (fun _=>?_))
   | exact ih0 _ _ _ _ _ _ _ _ _ _ _
   | exact ih1 _ _ _ _ _ _ _ _ _ _ _ _ _ _ _ _ _
   | exact cadencelaw12_row.mono _ _
   | exact cadencelaw12_value.mono _ _ _
   | exact LeO.none _
   | refine LeO.ite ?_ ?_
   | refine LeO.bind ?_ (fun _=>?_)
def cadencelaw12_MergeFirst.T10:Bool × List (List Nat × List Nat):=(true,[([],[]),([0],[0]),([],[]),([1,2],[1,2]),([],[]),([4],[4]),([],[]),([5,6,3],[5,6]),([],[]),([8],[8]),([],[]),([9,10,7],[9,10]),([3,11,0,1,2,3],[3]),([7,12,0,1,2,3,4,5,6,7,12],[7]),([11,13,0,1,2,3,4,5,6,7,8,9,10,11,12,13],[11])])
def cadencelaw12_MergeFirst.B10:List Nat:=[0,1,0,7,0,16,0,127,0,256,0,2047,4095,8191,16383]
theorem cadencelaw12_MergeFirst.tab10:rtab .any (opsOf Try.f5 10)=cadencelaw12_MergeFirst.T10:=by kernel_rfl
theorem cadencelaw12_MergeFirst.bits10:waitsOk cadencelaw12_MergeFirst.T10.2 cadencelaw12_MergeFirst.B10=true:=by kernel_rfl
set_option maxHeartbeats 8000000 in
set_option maxRecDepth 100000 in
theorem cadencelaw12_MergeFirst.calls (k:Nat) (a0:Int) (a1:Int) (r:Bool) (w:World) (h:cadencelaw12_MergeFirst.f k a0 a1=some r) :
  Calls Try.prog 5 #[.int .i64 a0,.int .i64 a1] w fun e w'=>e=.returned (.bool r)∧Below w.heap.size w w':=by
 have hu26:=Try.underlying26
 have HB:=Aside0.mk (Below.refl w.heap.size w)
 have H:((cadencelaw12_known.f).bind fun t426=>(if t426=true then ((cadencelaw12_one.f).bind fun t427=>((cadencelaw12_row.f k a0).bind fun t430=>((cadencelaw12_some.f t430).bind fun bt433=>((cadencelaw12_row.f k a1).bind fun t437=>((cadencelaw12_some.f t437).bind fun bt440=>((merge_Merge.f t427 false ([]:List (S51)) bt433.1 bt433.2 bt440.1 bt440.2).bind fun bt444=>(cadencelaw12_MergeFirst.l0 k a0 a1 bt444.2.2.2.2.2.2 0 0 bt444.1 bt444.2.1 bt444.2.2.1 bt444.2.2.2.1 bt444.2.2.2.2.1 bt444.2.2.2.2.2.1))))))) else (none)))=some r:=h
 clear h
 replace H:=Option.bind_eq_some_iff.mp H
 obtain ⟨t426,A30,H⟩:=H
 replace H:(if t426=true then ((cadencelaw12_one.f).bind fun t427=>((cadencelaw12_row.f k a0).bind fun t430=>((cadencelaw12_some.f t430).bind fun bt433=>((cadencelaw12_row.f k a1).bind fun t437=>((cadencelaw12_some.f t437).bind fun bt440=>((merge_Merge.f t427 false ([]:List (S51)) bt433.1 bt433.2 bt440.1 bt440.2).bind fun bt444=>(cadencelaw12_MergeFirst.l0 k a0 a1 bt444.2.2.2.2.2.2 0 0 bt444.1 bt444.2.1 bt444.2.2.1 bt444.2.2.2.1 bt444.2.2.2.2.1 bt444.2.2.2.2.2.1))))))) else (none))=some r:=H
 have A3:=Aside0.mk A30
 clear A30
 by_cases c4:t426=true
 ·subst c4
  have H1:((cadencelaw12_one.f).bind fun t427=>((cadencelaw12_row.f k a0).bind fun t430=>((cadencelaw12_some.f t430).bind fun bt433=>((cadencelaw12_row.f k a1).bind fun t437=>((cadencelaw12_some.f t437).bind fun bt440=>((merge_Merge.f t427 false ([]:List (S51)) bt433.1 bt433.2 bt440.1 bt440.2).bind fun bt444=>(cadencelaw12_MergeFirst.l0 k a0 a1 bt444.2.2.2.2.2.2 0 0 bt444.1 bt444.2.1 bt444.2.2.1 bt444.2.2.2.1 bt444.2.2.2.2.1 bt444.2.2.2.2.2.1)))))))=some r:=by rw [if_pos rfl] at H;exact H
  clear H
  have H:=H1
  clear H1
  replace H:=Option.bind_eq_some_iff.mp H
  obtain ⟨t427,A50,H⟩:=H
  replace H:((cadencelaw12_row.f k a0).bind fun t430=>((cadencelaw12_some.f t430).bind fun bt433=>((cadencelaw12_row.f k a1).bind fun t437=>((cadencelaw12_some.f t437).bind fun bt440=>((merge_Merge.f t427 false ([]:List (S51)) bt433.1 bt433.2 bt440.1 bt440.2).bind fun bt444=>(cadencelaw12_MergeFirst.l0 k a0 a1 bt444.2.2.2.2.2.2 0 0 bt444.1 bt444.2.1 bt444.2.2.1 bt444.2.2.2.1 bt444.2.2.2.2.1 bt444.2.2.2.2.2.1))))))=some r:=H
  have A5:=Aside0.mk A50
  clear A50
  replace H:=Option.bind_eq_some_iff.mp H
  obtain ⟨t430,A60,H⟩:=H
  replace H:((cadencelaw12_some.f t430).bind fun bt433=>((cadencelaw12_row.f k a1).bind fun t437=>((cadencelaw12_some.f t437).bind fun bt440=>((merge_Merge.f t427 false ([]:List (S51)) bt433.1 bt433.2 bt440.1 bt440.2).bind fun bt444=>(cadencelaw12_MergeFirst.l0 k a0 a1 bt444.2.2.2.2.2.2 0 0 bt444.1 bt444.2.1 bt444.2.2.1 bt444.2.2.2.1 bt444.2.2.2.2.1 bt444.2.2.2.2.2.1)))))=some r:=H
  have A6:=Aside0.mk A60
  clear A60
  replace H:=Option.bind_eq_some_iff.mp H
  obtain ⟨⟨t433,t434⟩,A70,H⟩:=H
  replace H:((cadencelaw12_row.f k a1).bind fun t437=>((cadencelaw12_some.f t437).bind fun bt440=>((merge_Merge.f t427 false ([]:List (S51)) t433 t434 bt440.1 bt440.2).bind fun bt444=>(cadencelaw12_MergeFirst.l0 k a0 a1 bt444.2.2.2.2.2.2 0 0 bt444.1 bt444.2.1 bt444.2.2.1 bt444.2.2.2.1 bt444.2.2.2.2.1 bt444.2.2.2.2.2.1))))=some r:=H
  have A7:=Aside0.mk A70
  clear A70
  replace H:=Option.bind_eq_some_iff.mp H
  obtain ⟨t437,A80,H⟩:=H
  replace H:((cadencelaw12_some.f t437).bind fun bt440=>((merge_Merge.f t427 false ([]:List (S51)) t433 t434 bt440.1 bt440.2).bind fun bt444=>(cadencelaw12_MergeFirst.l0 k a0 a1 bt444.2.2.2.2.2.2 0 0 bt444.1 bt444.2.1 bt444.2.2.1 bt444.2.2.2.1 bt444.2.2.2.2.1 bt444.2.2.2.2.2.1)))=some r:=H
  have A8:=Aside0.mk A80
  clear A80
  replace H:=Option.bind_eq_some_iff.mp H
  obtain ⟨⟨t440,t441⟩,A90,H⟩:=H
  replace H:((merge_Merge.f t427 false ([]:List (S51)) t433 t434 t440 t441).bind fun bt444=>(cadencelaw12_MergeFirst.l0 k a0 a1 bt444.2.2.2.2.2.2 0 0 bt444.1 bt444.2.1 bt444.2.2.1 bt444.2.2.2.1 bt444.2.2.2.2.1 bt444.2.2.2.2.2.1))=some r:=H
  have A9:=Aside0.mk A90
  clear A90
  replace H:=Option.bind_eq_some_iff.mp H
  obtain ⟨⟨t444,t445,t448,t449,t452,t453,t456⟩,A100,H⟩:=H
  replace H:(cadencelaw12_MergeFirst.l0 k a0 a1 t456 0 0 t444 t445 t448 t449 t452 t453)=some r:=H
  have A10:=Aside0.mk A100
  clear A100
  have H':=Aside0.mk H
  clear H
  go_enter Try.func5,Try.ntmps5
  go_wp2_with (first|((with_reducible refine gate_callee (f:=7) rfl ?_);refine goesL_ (some 18) rfl rfl Try.func7 (by kernel_rfl) rfl #[] rfl (by (try simp only [List.map_toArray,List.map_cons,List.map_nil]);first|done|rfl|(simp only [List.length_drop,List.length_take];rfl)) ?_;(with_reducible refine (cadencelaw12_known.calls  true _ A3.out).mono ?_);rintro e w11 ⟨rfl,hb⟩;refine ⟨_,rfl,?_⟩;have n0_:=Aside0.mk (below_step (by repeat (first|(with_reducible first|exact HB.out|apply bA_|apply bN_|apply bD_)|exact HB.out)) hb);clear HB;have HB:=n0_;clear n0_;(try clear hb);(try clear hb2);(try clear hk);(try clear hi))|((with_reducible refine gate_callee (f:=9) rfl ?_);refine goesL_ (some 21) rfl rfl Try.func9 (by kernel_rfl) rfl #[] rfl (by (try simp only [List.map_toArray,List.map_cons,List.map_nil]);first|done|rfl|(simp only [List.length_drop,List.length_take];rfl)) ?_;(with_reducible refine (cadencelaw12_one.calls  t427 _ A5.out).mono ?_);rintro e w12 ⟨v428,rfl,ho0,hb⟩;refine ⟨_,rfl,?_⟩;have n0_:=Aside0.mk (Kd.N_lower (Kd.N_mono (ok':=fun k_=>True) ho0 (fun k_ hk_=>trivial)) (below_size (by repeat (first|(with_reducible first|exact HB.out|apply bA_|apply bN_|apply bD_)|exact HB.out))));have n1_:=Aside0.mk (below_step (by repeat (first|(with_reducible first|exact HB.out|apply bA_|apply bN_|apply bD_)|exact HB.out)) hb);clear HB;have HO429:=n0_;have HB:=n1_;clear n0_ n1_;(try clear hb);(try clear hb2);(try clear hk);(try clear hi);(try clear ho0))|((with_reducible refine gate_callee (f:=11) rfl ?_);refine goesL_ (some 24) rfl rfl Try.func11 (by kernel_rfl) rfl #[.int .i64 a0] rfl (by (try simp only [List.map_toArray,List.map_cons,List.map_nil]);first|done|rfl|(simp only [List.length_drop,List.length_take];rfl)) ?_;(with_reducible refine (cadencelaw12_row.calls k a0 t430 _ A6.out).mono ?_);rintro e w13 ⟨v431,rfl,ho0,hb⟩;refine ⟨_,rfl,?_⟩;have n0_:=Aside0.mk (Kd.N_elder' (by (with_reducible repeat (first|apply nA_|apply nN_|apply nD_));exact HO429.out) (Kd.N_base ho0) hb);have n1_:=Aside0.mk (Kd.N_lower (Kd.N_mono (ok':=fun k_=>some k_≠(v428:Value).ownBlock) ho0 (fun k_ hk_=>(Kd.fresh' (Kd.N_lt (by (with_reducible repeat (first|apply nA_|apply nN_|apply nD_));exact HO429.out)) k_ hk_))) (below_size (by repeat (first|(with_reducible first|exact HB.out|apply bA_|apply bN_|apply bD_)|exact HB.out))));have n2_:=Aside0.mk (below_step (by repeat (first|(with_reducible first|exact HB.out|apply bA_|apply bN_|apply bD_)|exact HB.out)) hb);clear HO429;clear HB;have HO429:=n0_;have HO432:=n1_;have HB:=n2_;clear n0_ n1_ n2_;(try clear hb);(try clear hb2);(try clear hk);(try clear hi);(try clear ho0);obtain ⟨Ao14,co14,eo14⟩:=Kd.N_slice HO432.out;subst eo14)|((with_reducible refine gate_callee (f:=10) rfl ?_);refine goesL_ (some 25) rfl rfl Try.func10 (by kernel_rfl) rfl #[.slice Ao14 t430.length co14] rfl (by (try simp only [List.map_toArray,List.map_cons,List.map_nil]);first|done|rfl|(simp only [List.length_drop,List.length_take];rfl)) ?_;(with_reducible refine (cadencelaw12_some.calls (fun k_=>some k_≠(v428:Value).ownBlock) _ _ t430 t433 t434 _ ?side1 A7.out).mono ?_);(case side1=>exact Kd.N_V (HO432.out));rintro e w15 ⟨v435,rfl,ho0,hb⟩;refine ⟨_,rfl,?_⟩;have n0_:=Aside0.mk (Kd.N_below (by (with_reducible repeat (first|apply nA_|apply nN_|apply nD_));exact HO429.out) hb);have n1_:=Aside0.mk (Kd.N_below (by (with_reducible repeat (first|apply nA_|apply nN_|apply nD_));exact HO432.out) hb);have n2_:=Aside0.mk (Kd.V_lower (Kd.V_mono (ok':=fun k_=>some k_≠(v428:Value).ownBlock) ho0 (fun k_ hk_=>Or.elim hk_ (fun hs_=>hs_) (fun hn_=>(Kd.fresh' (Kd.N_lt (by (with_reducible repeat (first|apply nA_|apply nN_|apply nD_));exact HO429.out)) k_ hn_)))) (below_size (by repeat (first|(with_reducible first|exact HB.out|apply bA_|apply bN_|apply bD_)|exact HB.out))));have n3_:=Aside0.mk (below_step (by repeat (first|(with_reducible first|exact HB.out|apply bA_|apply bN_|apply bD_)|exact HB.out)) hb);clear HO429;clear HO432;clear HB;have HO429:=n0_;have HO432:=n1_;have HO436:=n2_;have HB:=n3_;clear n0_ n1_ n2_ n3_;(try clear hb);(try clear hb2);(try clear hk);(try clear hi);(try clear ho0))|((with_reducible refine gate_callee (f:=11) rfl ?_);refine goesL_ (some 27) rfl rfl Try.func11 (by kernel_rfl) rfl #[.int .i64 a1] rfl (by (try simp only [List.map_toArray,List.map_cons,List.map_nil]);first|done|rfl|(simp only [List.length_drop,List.length_take];rfl)) ?_;(with_reducible refine (cadencelaw12_row.calls k a1 t437 _ A8.out).mono ?_);rintro e w16 ⟨v438,rfl,ho0,hb⟩;refine ⟨_,rfl,?_⟩;have n0_:=Aside0.mk (Kd.N_elder' (by (with_reducible repeat (first|apply nA_|apply nN_|apply nD_));exact HO429.out) (Kd.N_base ho0) hb);have n1_:=Aside0.mk (Kd.N_elder' (by (with_reducible repeat (first|apply nA_|apply nN_|apply nD_));exact HO432.out) (Kd.N_base ho0) hb);have n2_:=Aside0.mk (Kd.V_elder' (by (with_reducible repeat (first|apply vA_|apply vN_|apply vD_));exact HO436.out) (Kd.N_base ho0) hb);have n3_:=Aside0.mk (Kd.N_lower (Kd.N_mono (ok':=fun k_=>some k_≠(v428:Value).ownBlock∧some k_≠(.slice Ao14 t430.length co14:Value).ownBlock) ho0 (fun k_ hk_=>⟨(Kd.fresh' (Kd.N_lt (by (with_reducible repeat (first|apply nA_|apply nN_|apply nD_));exact HO429.out)) k_ hk_),(Kd.fresh' (Kd.N_lt (by (with_reducible repeat (first|apply nA_|apply nN_|apply nD_));exact HO432.out)) k_ hk_)⟩)) (below_size (by repeat (first|(with_reducible first|exact HB.out|apply bA_|apply bN_|apply bD_)|exact HB.out))));have n4_:=Aside0.mk (below_step (by repeat (first|(with_reducible first|exact HB.out|apply bA_|apply bN_|apply bD_)|exact HB.out)) hb);clear HO429;clear HO432;clear HO436;clear HB;have HO429:=n0_;have HO432:=n1_;have HO436:=n2_;have HO439:=n3_;have HB:=n4_;clear n0_ n1_ n2_ n3_ n4_;(try clear hb);(try clear hb2);(try clear hk);(try clear hi);(try clear ho0);obtain ⟨Ao17,co17,eo17⟩:=Kd.N_slice HO439.out;subst eo17)|((with_reducible refine gate_callee (f:=10) rfl ?_);refine goesL_ (some 28) rfl rfl Try.func10 (by kernel_rfl) rfl #[.slice Ao17 t437.length co17] rfl (by (try simp only [List.map_toArray,List.map_cons,List.map_nil]);first|done|rfl|(simp only [List.length_drop,List.length_take];rfl)) ?_;(with_reducible refine (cadencelaw12_some.calls (fun k_=>(some k_≠(v428:Value).ownBlock∧some k_≠(.slice Ao14 t430.length co14:Value).ownBlock)) _ _ t437 t440 t441 _ ?side1 A9.out).mono ?_);(case side1=>exact Kd.N_V (HO439.out));rintro e w18 ⟨v442,rfl,ho0,hb⟩;refine ⟨_,rfl,?_⟩;have n0_:=Aside0.mk (Kd.N_below (by (with_reducible repeat (first|apply nA_|apply nN_|apply nD_));exact HO429.out) hb);have n1_:=Aside0.mk (Kd.N_below (by (with_reducible repeat (first|apply nA_|apply nN_|apply nD_));exact HO432.out) hb);have n2_:=Aside0.mk (Kd.V_below (by (with_reducible repeat (first|apply vA_|apply vN_|apply vD_));exact HO436.out) hb);have n3_:=Aside0.mk (Kd.N_below (by (with_reducible repeat (first|apply nA_|apply nN_|apply nD_));exact HO439.out) hb);have n4_:=Aside0.mk (Kd.V_lower (Kd.V_mono (ok':=fun k_=>some k_≠(v428:Value).ownBlock∧some k_≠(.slice Ao14 t430.length co14:Value).ownBlock) ho0 (fun k_ hk_=>⟨Or.elim hk_ (fun hs_=>hs_.1) (fun hn_=>(Kd.fresh' (Kd.N_lt (by (with_reducible repeat (first|apply nA_|apply nN_|apply nD_));exact HO429.out)) k_ hn_)),Or.elim hk_ (fun hs_=>hs_.2) (fun hn_=>(Kd.fresh' (Kd.N_lt (by (with_reducible repeat (first|apply nA_|apply nN_|apply nD_));exact HO432.out)) k_ hn_))⟩)) (below_size (by repeat (first|(with_reducible first|exact HB.out|apply bA_|apply bN_|apply bD_)|exact HB.out))));have n5_:=Aside0.mk (below_step (by repeat (first|(with_reducible first|exact HB.out|apply bA_|apply bN_|apply bD_)|exact HB.out)) hb);clear HO429;clear HO432;clear HO436;clear HO439;clear HB;have HO429:=n0_;have HO432:=n1_;have HO436:=n2_;have HO439:=n3_;have HO443:=n4_;have HB:=n5_;clear n0_ n1_ n2_ n3_ n4_ n5_;(try clear hb);(try clear hb2);(try clear hk);(try clear hi);(try clear ho0);obtain ⟨Ao19,co19,eo19⟩:=Kd.N_slice HO429.out;subst eo19;obtain ⟨Ao20,co20,eo20⟩:=Kd.V_slice HO436.out;subst eo20;obtain ⟨Ao21,co21,eo21⟩:=Kd.V_slice HO443.out;subst eo21)|((with_reducible refine gate_callee (f:=8) rfl ?_);refine goesL_ (some 29) rfl rfl Try.func8 (by kernel_rfl) rfl #[.slice Ao19 t427.length co19,.agg #[.bool false,.slice none 0 0],.agg #[.bool t433,.slice Ao20 t434.length co20],.agg #[.bool t440,.slice Ao21 t441.length co21]] rfl (by (try simp only [List.map_toArray,List.map_cons,List.map_nil]);first|done|rfl|(simp only [List.length_drop,List.length_take];rfl)) ?_;(refine (merge_Merge.calls (fun k_=>((True∧some k_≠(.slice Ao14 t430.length co14:Value).ownBlock)∧some k_≠(.slice Ao17 t437.length co17:Value).ownBlock)) _ _ t427 false (fun k_=>False) _ _ ([]:List (S51)) t433 (fun k_=>(some k_≠(.slice Ao19 t427.length co19:Value).ownBlock∧some k_≠(.slice Ao17 t437.length co17:Value).ownBlock)) _ _ t434 t440 (fun k_=>(some k_≠(.slice Ao19 t427.length co19:Value).ownBlock∧some k_≠(.slice Ao14 t430.length co14:Value).ownBlock)) _ _ t441 t444 t445 t448 t449 t452 t453 t456 _ ?side1 ?side2 ?side3 ?side4 A10.out).mono ?_);(case side1=>exact Kd.N_V (HO429.out));(case side2=>exact Kd.V_nil _ _ _ _ _);(case side3=>exact HO436.out);(case side4=>exact HO443.out);rintro e w22 ⟨v446,v450,v454,v457,rfl,ho0,ho1,ho2,ho3,hb⟩;refine ⟨_,rfl,?_⟩;have n0_:=Aside0.mk (Kd.N_elder' (by (with_reducible repeat (first|apply nA_|apply nN_|apply nD_));exact HO429.out) (Kd.N_base ho3) hb);have n1_:=Aside0.mk (Kd.N_elder' (by (with_reducible repeat (first|apply nA_|apply nN_|apply nD_));exact HO432.out) (Kd.N_base ho3) hb);have n2_:=Aside0.mk (Kd.V_elder' (by (with_reducible repeat (first|apply vA_|apply vN_|apply vD_));exact HO436.out) (Kd.N_base ho3) hb);have n3_:=Aside0.mk (Kd.N_elder' (by (with_reducible repeat (first|apply nA_|apply nN_|apply nD_));exact HO439.out) (Kd.N_base ho3) hb);have n4_:=Aside0.mk (Kd.V_elder' (by (with_reducible repeat (first|apply vA_|apply vN_|apply vD_));exact HO443.out) (Kd.N_base ho3) hb);have n5_:=Aside0.mk (Kd.V_lower (Kd.V_mono (ok':=fun k_=>some k_≠(v457:Value).ownBlock) ho0 (fun k_ hk_=>hk_.2)) (below_size (by repeat (first|(with_reducible first|exact HB.out|apply bA_|apply bN_|apply bD_)|exact HB.out))));have n6_:=Aside0.mk (Kd.V_lower (Kd.V_mono (ok':=fun k_=>some k_≠(v457:Value).ownBlock) ho1 (fun k_ hk_=>hk_.2)) (below_size (by repeat (first|(with_reducible first|exact HB.out|apply bA_|apply bN_|apply bD_)|exact HB.out))));have n7_:=Aside0.mk (Kd.V_lower (Kd.V_mono (ok':=fun k_=>some k_≠(v457:Value).ownBlock) ho2 (fun k_ hk_=>hk_.2)) (below_size (by repeat (first|(with_reducible first|exact HB.out|apply bA_|apply bN_|apply bD_)|exact HB.out))));have n8_:=Aside0.mk (Kd.N_lower (Kd.N_mono (ok':=fun k_=>True) ho3 (fun k_ hk_=>trivial)) (below_size (by repeat (first|(with_reducible first|exact HB.out|apply bA_|apply bN_|apply bD_)|exact HB.out))));have n9_:=Aside0.mk (below_step (by repeat (first|(with_reducible first|exact HB.out|apply bA_|apply bN_|apply bD_)|exact HB.out)) hb);clear HO429;clear HO432;clear HO436;clear HO439;clear HO443;clear HB;have HO429:=n0_;have HO432:=n1_;have HO436:=n2_;have HO439:=n3_;have HO443:=n4_;have HO447:=n5_;have HO451:=n6_;have HO455:=n7_;have HO458:=n8_;have HB:=n9_;clear n0_ n1_ n2_ n3_ n4_ n5_ n6_ n7_ n8_ n9_;(try clear hb);(try clear hb2);(try clear hk);(try clear hi);(try clear ho0);(try clear ho1);(try clear ho2);(try clear ho3))|((with_reducible refine gate_dst (N:=5) rfl ?_);refine box_event ?hg (N:=5) ?hd (cs:=#[.bool false,.slice none 0 0]) (t:=26) ?hr ?_;(case hd=>rfl);(case hg=>rfl);(case hr=>first|(go_simp;done)|(go_simp;rfl));intro gb459 hg w23 hbox hb;have n0_:=Aside0.mk (Kd.N_below (Kd.N_elderB (by (with_reducible repeat (first|apply nA_|apply nN_|apply nD_));exact HO429.out) gb459 (Nat.le_of_eq hg.symm)) hb);have n1_:=Aside0.mk (Kd.N_below (Kd.N_elderB (by (with_reducible repeat (first|apply nA_|apply nN_|apply nD_));exact HO432.out) gb459 (Nat.le_of_eq hg.symm)) hb);have n2_:=Aside0.mk (Kd.V_below (Kd.V_elderB (by (with_reducible repeat (first|apply vA_|apply vN_|apply vD_));exact HO436.out) gb459 (Nat.le_of_eq hg.symm)) hb);have n3_:=Aside0.mk (Kd.N_below (Kd.N_elderB (by (with_reducible repeat (first|apply nA_|apply nN_|apply nD_));exact HO439.out) gb459 (Nat.le_of_eq hg.symm)) hb);have n4_:=Aside0.mk (Kd.V_below (Kd.V_elderB (by (with_reducible repeat (first|apply vA_|apply vN_|apply vD_));exact HO443.out) gb459 (Nat.le_of_eq hg.symm)) hb);have n5_:=Aside0.mk (Kd.V_below (Kd.V_elderB (by (with_reducible repeat (first|apply vA_|apply vN_|apply vD_));exact HO447.out) gb459 (Nat.le_of_eq hg.symm)) hb);have n6_:=Aside0.mk (Kd.V_below (Kd.V_elderB (by (with_reducible repeat (first|apply vA_|apply vN_|apply vD_));exact HO451.out) gb459 (Nat.le_of_eq hg.symm)) hb);have n7_:=Aside0.mk (Kd.V_below (Kd.V_elderB (by (with_reducible repeat (first|apply vA_|apply vN_|apply vD_));exact HO455.out) gb459 (Nat.le_of_eq hg.symm)) hb);have n8_:=Aside0.mk (Kd.N_below (Kd.N_elderB (by (with_reducible repeat (first|apply nA_|apply nN_|apply nD_));exact HO458.out) gb459 (Nat.le_of_eq hg.symm)) hb);have n9_:=Aside0.mk (below_step (by repeat (first|(with_reducible first|exact HB.out|apply bA_|apply bN_|apply bD_)|exact HB.out)) hb);have n10_:=Aside0.mk (hbox);have n11_:=Aside0.mk ((by rw [hg];exact (below_size (by repeat (first|(with_reducible first|exact HB.out|apply bA_|apply bN_|apply bD_)|exact HB.out))):w.heap.size≤gb459));have n12_:=Aside0.mk ((by rw [hg];exact (below_size (by repeat (first|(with_reducible first|exact HB.out|apply bA_|apply bN_|apply bD_)|exact HB.out))):w.heap.size≤gb459));clear HO429;clear HO432;clear HO436;clear HO439;clear HO443;clear HO447;clear HO451;clear HO455;clear HO458;clear HB;have HO429:=n0_;have HO432:=n1_;have HO436:=n2_;have HO439:=n3_;have HO443:=n4_;have HO447:=n5_;have HO451:=n6_;have HO455:=n7_;have HO458:=n8_;have HB:=n9_;have BK459:=n10_;have GW459:=n11_;have GE459:=n12_;clear n0_ n1_ n2_ n3_ n4_ n5_ n6_ n7_ n8_ n9_ n10_ n11_ n12_;clear hb hbox hg)|((with_reducible refine gate_dst (N:=6) rfl ?_);refine box_event ?hg (N:=6) ?hd (cs:=#[.bool false,.slice none 0 0]) (t:=26) ?hr ?_;(case hd=>rfl);(case hg=>rfl);(case hr=>first|(go_simp;done)|(go_simp;rfl));intro gb460 hg w24 hbox hb;have n0_:=Aside0.mk (Kd.N_below (Kd.N_elderB (by (with_reducible repeat (first|apply nA_|apply nN_|apply nD_));exact HO429.out) gb460 (Nat.le_of_eq hg.symm)) hb);have n1_:=Aside0.mk (Kd.N_below (Kd.N_elderB (by (with_reducible repeat (first|apply nA_|apply nN_|apply nD_));exact HO432.out) gb460 (Nat.le_of_eq hg.symm)) hb);have n2_:=Aside0.mk (Kd.V_below (Kd.V_elderB (by (with_reducible repeat (first|apply vA_|apply vN_|apply vD_));exact HO436.out) gb460 (Nat.le_of_eq hg.symm)) hb);have n3_:=Aside0.mk (Kd.N_below (Kd.N_elderB (by (with_reducible repeat (first|apply nA_|apply nN_|apply nD_));exact HO439.out) gb460 (Nat.le_of_eq hg.symm)) hb);have n4_:=Aside0.mk (Kd.V_below (Kd.V_elderB (by (with_reducible repeat (first|apply vA_|apply vN_|apply vD_));exact HO443.out) gb460 (Nat.le_of_eq hg.symm)) hb);have n5_:=Aside0.mk (Kd.V_below (Kd.V_elderB (by (with_reducible repeat (first|apply vA_|apply vN_|apply vD_));exact HO447.out) gb460 (Nat.le_of_eq hg.symm)) hb);have n6_:=Aside0.mk (Kd.V_below (Kd.V_elderB (by (with_reducible repeat (first|apply vA_|apply vN_|apply vD_));exact HO451.out) gb460 (Nat.le_of_eq hg.symm)) hb);have n7_:=Aside0.mk (Kd.V_below (Kd.V_elderB (by (with_reducible repeat (first|apply vA_|apply vN_|apply vD_));exact HO455.out) gb460 (Nat.le_of_eq hg.symm)) hb);have n8_:=Aside0.mk (Kd.N_below (Kd.N_elderB (by (with_reducible repeat (first|apply nA_|apply nN_|apply nD_));exact HO458.out) gb460 (Nat.le_of_eq hg.symm)) hb);have n9_:=Aside0.mk (blk_below (g:=gb459) (o:=.cells #[.bool false,.slice none 0 0] 26 (0,0)) (by (with_reducible repeat (first|refine blk_drewN ?_ _|refine blk_drew ?_|refine blk_alloc ?_ _));exact BK459.out) hb);have n10_:=Aside0.mk (below_step (by repeat (first|(with_reducible first|exact HB.out|apply bA_|apply bN_|apply bD_|refine below_set ?_ GE459.out)|exact HB.out)) hb);have n11_:=Aside0.mk (hbox);have n12_:=Aside0.mk ((by rw [hg];exact (below_size (by repeat (first|(with_reducible first|exact HB.out|apply bA_|apply bN_|apply bD_|refine below_set ?_ GE459.out)|exact HB.out))):w.heap.size≤gb460));have n13_:=Aside0.mk ((by rw [hg];exact (below_size (by repeat (first|(with_reducible first|exact HB.out|apply bA_|apply bN_|apply bD_|refine below_set ?_ GE459.out)|exact HB.out))):w.heap.size≤gb460));have n14_:=Aside0.mk ((by rw [hg];exact Nat.ne_of_lt (blk_lt (g:=gb459) (o:=.cells #[.bool false,.slice none 0 0] 26 (0,0)) (by (with_reducible repeat (first|refine blk_drewN ?_ _|refine blk_drew ?_|refine blk_alloc ?_ _));exact BK459.out)):gb459≠gb460));have n15_:=Aside0.mk ((by rw [hg];exact Nat.ne_of_gt (blk_lt (g:=gb459) (o:=.cells #[.bool false,.slice none 0 0] 26 (0,0)) (by (with_reducible repeat (first|refine blk_drewN ?_ _|refine blk_drew ?_|refine blk_alloc ?_ _));exact BK459.out)):gb460≠gb459));clear HO429;clear HO432;clear HO436;clear HO439;clear HO443;clear HO447;clear HO451;clear HO455;clear HO458;clear BK459;clear HB;have HO429:=n0_;have HO432:=n1_;have HO436:=n2_;have HO439:=n3_;have HO443:=n4_;have HO447:=n5_;have HO451:=n6_;have HO455:=n7_;have HO458:=n8_;have BK459:=n9_;have HB:=n10_;have BK460:=n11_;have GW460:=n12_;have GE460:=n13_;have NB459_460:=n14_;have NB460_459:=n15_;clear n0_ n1_ n2_ n3_ n4_ n5_ n6_ n7_ n8_ n9_ n10_ n11_ n12_ n13_ n14_ n15_;clear hb hbox hg)|((with_reducible refine gate_dst (N:=7) rfl ?_);refine box_event ?hg (N:=7) ?hd (cs:=#[.bool false,.slice none 0 0]) (t:=26) ?hr ?_;(case hd=>rfl);(case hg=>rfl);(case hr=>first|(go_simp;done)|(go_simp;rfl));intro gb461 hg w25 hbox hb;have n0_:=Aside0.mk (Kd.N_below (Kd.N_elderB (by (with_reducible repeat (first|apply nA_|apply nN_|apply nD_));exact HO429.out) gb461 (Nat.le_of_eq hg.symm)) hb);have n1_:=Aside0.mk (Kd.N_below (Kd.N_elderB (by (with_reducible repeat (first|apply nA_|apply nN_|apply nD_));exact HO432.out) gb461 (Nat.le_of_eq hg.symm)) hb);have n2_:=Aside0.mk (Kd.V_below (Kd.V_elderB (by (with_reducible repeat (first|apply vA_|apply vN_|apply vD_));exact HO436.out) gb461 (Nat.le_of_eq hg.symm)) hb);have n3_:=Aside0.mk (Kd.N_below (Kd.N_elderB (by (with_reducible repeat (first|apply nA_|apply nN_|apply nD_));exact HO439.out) gb461 (Nat.le_of_eq hg.symm)) hb);have n4_:=Aside0.mk (Kd.V_below (Kd.V_elderB (by (with_reducible repeat (first|apply vA_|apply vN_|apply vD_));exact HO443.out) gb461 (Nat.le_of_eq hg.symm)) hb);have n5_:=Aside0.mk (Kd.V_below (Kd.V_elderB (by (with_reducible repeat (first|apply vA_|apply vN_|apply vD_));exact HO447.out) gb461 (Nat.le_of_eq hg.symm)) hb);have n6_:=Aside0.mk (Kd.V_below (Kd.V_elderB (by (with_reducible repeat (first|apply vA_|apply vN_|apply vD_));exact HO451.out) gb461 (Nat.le_of_eq hg.symm)) hb);have n7_:=Aside0.mk (Kd.V_below (Kd.V_elderB (by (with_reducible repeat (first|apply vA_|apply vN_|apply vD_));exact HO455.out) gb461 (Nat.le_of_eq hg.symm)) hb);have n8_:=Aside0.mk (Kd.N_below (Kd.N_elderB (by (with_reducible repeat (first|apply nA_|apply nN_|apply nD_));exact HO458.out) gb461 (Nat.le_of_eq hg.symm)) hb);have n9_:=Aside0.mk (blk_below (g:=gb459) (o:=.cells #[.bool false,.slice none 0 0] 26 (0,0)) (by (with_reducible repeat (first|refine blk_drewN ?_ _|refine blk_drew ?_|refine blk_alloc ?_ _));exact BK459.out) hb);have n10_:=Aside0.mk (blk_below (g:=gb460) (o:=.cells #[.bool false,.slice none 0 0] 26 (0,0)) (by (with_reducible repeat (first|refine blk_drewN ?_ _|refine blk_drew ?_|refine blk_alloc ?_ _));exact BK460.out) hb);have n11_:=Aside0.mk (below_step (by repeat (first|(with_reducible first|exact HB.out|apply bA_|apply bN_|apply bD_|refine below_set ?_ GE459.out|refine below_set ?_ GE460.out)|exact HB.out)) hb);have n12_:=Aside0.mk (hbox);have n13_:=Aside0.mk ((by rw [hg];exact (below_size (by repeat (first|(with_reducible first|exact HB.out|apply bA_|apply bN_|apply bD_|refine below_set ?_ GE459.out|refine below_set ?_ GE460.out)|exact HB.out))):w.heap.size≤gb461));have n14_:=Aside0.mk ((by rw [hg];exact (below_size (by repeat (first|(with_reducible first|exact HB.out|apply bA_|apply bN_|apply bD_|refine below_set ?_ GE459.out|refine below_set ?_ GE460.out)|exact HB.out))):w.heap.size≤gb461));have n15_:=Aside0.mk ((by rw [hg];exact Nat.ne_of_lt (blk_lt (g:=gb459) (o:=.cells #[.bool false,.slice none 0 0] 26 (0,0)) (by (with_reducible repeat (first|refine blk_drewN ?_ _|refine blk_drew ?_|refine blk_alloc ?_ _));exact BK459.out)):gb459≠gb461));have n16_:=Aside0.mk ((by rw [hg];exact Nat.ne_of_gt (blk_lt (g:=gb459) (o:=.cells #[.bool false,.slice none 0 0] 26 (0,0)) (by (with_reducible repeat (first|refine blk_drewN ?_ _|refine blk_drew ?_|refine blk_alloc ?_ _));exact BK459.out)):gb461≠gb459));have n17_:=Aside0.mk ((by rw [hg];exact Nat.ne_of_lt (blk_lt (g:=gb460) (o:=.cells #[.bool false,.slice none 0 0] 26 (0,0)) (by (with_reducible repeat (first|refine blk_drewN ?_ _|refine blk_drew ?_|refine blk_alloc ?_ _));exact BK460.out)):gb460≠gb461));have n18_:=Aside0.mk ((by rw [hg];exact Nat.ne_of_gt (blk_lt (g:=gb460) (o:=.cells #[.bool false,.slice none 0 0] 26 (0,0)) (by (with_reducible repeat (first|refine blk_drewN ?_ _|refine blk_drew ?_|refine blk_alloc ?_ _));exact BK460.out)):gb461≠gb460));clear HO429;clear HO432;clear HO436;clear HO439;clear HO443;clear HO447;clear HO451;clear HO455;clear HO458;clear BK459;clear BK460;clear HB;have HO429:=n0_;have HO432:=n1_;have HO436:=n2_;have HO439:=n3_;have HO443:=n4_;have HO447:=n5_;have HO451:=n6_;have HO455:=n7_;have HO458:=n8_;have BK459:=n9_;have BK460:=n10_;have HB:=n11_;have BK461:=n12_;have GW461:=n13_;have GE461:=n14_;have NB459_461:=n15_;have NB461_459:=n16_;have NB460_461:=n17_;have NB461_460:=n18_;clear n0_ n1_ n2_ n3_ n4_ n5_ n6_ n7_ n8_ n9_ n10_ n11_ n12_ n13_ n14_ n15_ n16_ n17_ n18_;clear hb hbox hg;have hnb26:=NB459_460.out;have hnc26:=NB460_459.out;have hnb27:=NB459_461.out;have hnc27:=NB461_459.out;have hcz28_0:w25.cell? ⟨gb459,0,none⟩=some (.bool false):=(blk_cell BK459.out 0).trans rfl;have hcz28_1:w25.cell? ⟨gb459,1,none⟩=some (.slice none 0 0):=(blk_cell BK459.out 1).trans rfl;have hfz28_0:=blk_frozen BK459.out 0;have hfz28_1:=blk_frozen BK459.out 1;obtain ⟨Ao29,co29,eo29⟩:=Kd.V_slice HO447.out;subst eo29;have hnb30:=NB460_461.out;have hnc30:=NB461_460.out;have hcz31_0:w25.cell? ⟨gb460,0,none⟩=some (.bool false):=(blk_cell BK460.out 0).trans rfl;have hcz31_1:w25.cell? ⟨gb460,1,none⟩=some (.slice none 0 0):=(blk_cell BK460.out 1).trans rfl;have hfz31_0:=blk_frozen BK460.out 0;have hfz31_1:=blk_frozen BK460.out 1;obtain ⟨Ao32,co32,eo32⟩:=Kd.V_slice HO451.out;subst eo32;have hcz33_0:w25.cell? ⟨gb461,0,none⟩=some (.bool false):=(blk_cell BK461.out 0).trans rfl;have hcz33_1:w25.cell? ⟨gb461,1,none⟩=some (.slice none 0 0):=(blk_cell BK461.out 1).trans rfl;have hfz33_0:=blk_frozen BK461.out 0;have hfz33_1:=blk_frozen BK461.out 1;obtain ⟨Ao34,co34,eo34⟩:=Kd.V_slice HO455.out;subst eo34))
  go_loopg [9,10] k (fun kq v9 v10 w'=>∃ (x9_1:Int) (x10_1:Int),v9=.int .i64 x9_1∧v10=.int .i64 x10_1∧Aside0 (cadencelaw12_MergeFirst.l0 kq a0 a1 t456 x9_1 x10_1 t444 t445 t448 t449 t452 t453=some r)∧Aside0 (kq≤k)∧Aside0 (Kd.N k38 38 w' w.heap.size (fun k_=>k_≠gb459∧k_≠gb460∧k_≠gb461) v457 t456)∧Aside0 (Kd.V k51 51 w' w.heap.size (fun k_=>some k_≠(v457:Value).ownBlock∧k_≠gb459∧k_≠gb460∧k_≠gb461) (.slice Ao29 t445.length co29) t445)∧Aside0 (Kd.V k51 51 w' w.heap.size (fun k_=>some k_≠(v457:Value).ownBlock∧k_≠gb459∧k_≠gb460∧k_≠gb461) (.slice Ao32 t449.length co32) t449)∧Aside0 (Kd.V k51 51 w' w.heap.size (fun k_=>some k_≠(v457:Value).ownBlock∧k_≠gb459∧k_≠gb460∧k_≠gb461) (.slice Ao34 t453.length co34) t453)∧Aside0 (w'.heap[gb459]? = some (.cells #[.bool t444,(.slice Ao29 t445.length co29)] 26 (0,0)))∧Aside0 (w'.heap[gb460]? = some (.cells #[.bool t448,(.slice Ao32 t449.length co32)] 26 (0,0)))∧Aside0 (w'.heap[gb461]? = some (.cells #[.bool t452,(.slice Ao34 t453.length co34)] 26 (0,0)))∧Aside0 (Below w.heap.size w w'))
  case atStart=>exact ⟨(0),(0),(by first|rfl|(simp;done)|(simp [*];done)),(by first|rfl|(simp;done)|(simp [*];done)),H',⟨Nat.le_refl _⟩,⟨by (with_reducible repeat (first|apply nA_|apply nN_|apply nD_));exact Kd.N_mono (Kd.N_far (p:=⟨gb461,1,none⟩) (Kd.N_far (p:=⟨gb461,0,none⟩) (Kd.N_far (p:=⟨gb460,1,none⟩) (Kd.N_far (p:=⟨gb460,0,none⟩) (Kd.N_far (p:=⟨gb459,1,none⟩) (Kd.N_far (p:=⟨gb459,0,none⟩) (Kd.N_mono (Kd.N_mono (Kd.N_mono HO458.out (fun k_ hk=>(⟨hk,hk.1.1.2⟩:_∧k_≠gb459))) (fun k_ hk=>(⟨hk,hk.1.1.2⟩:_∧k_≠gb460))) (fun k_ hk=>(⟨hk,hk.1.1.2⟩:_∧k_≠gb461))) (fun _ hk=>hk.1.1.2) (.bool t444)) (fun _ hk=>hk.1.1.2) (.slice Ao29 t445.length co29)) (fun _ hk=>hk.1.2) (.bool t448)) (fun _ hk=>hk.1.2) (.slice Ao32 t449.length co32)) (fun _ hk=>hk.2) (.bool t452)) (fun _ hk=>hk.2) (.slice Ao34 t453.length co34)) (fun _ hk=>⟨hk.1.1.1.1.1.2,⟨hk.1.1.1.1.2,hk.1.1.1.2⟩⟩)⟩,⟨by (with_reducible repeat (first|apply vA_|apply vN_|apply vD_));exact Kd.V_mono (Kd.V_far (p:=⟨gb461,1,none⟩) (Kd.V_far (p:=⟨gb461,0,none⟩) (Kd.V_far (p:=⟨gb460,1,none⟩) (Kd.V_far (p:=⟨gb460,0,none⟩) (Kd.V_far (p:=⟨gb459,1,none⟩) (Kd.V_far (p:=⟨gb459,0,none⟩) (Kd.V_mono (Kd.V_mono (Kd.V_mono HO447.out (fun k_ hk=>(⟨hk,hk.1.1.2⟩:_∧k_≠gb459))) (fun k_ hk=>(⟨hk,hk.1.1.2⟩:_∧k_≠gb460))) (fun k_ hk=>(⟨hk,hk.1.1.2⟩:_∧k_≠gb461))) (fun _ hk=>hk.1.1.2) (.bool t444)) (fun _ hk=>hk.1.1.2) (.slice Ao29 t445.length co29)) (fun _ hk=>hk.1.2) (.bool t448)) (fun _ hk=>hk.1.2) (.slice Ao32 t449.length co32)) (fun _ hk=>hk.2) (.bool t452)) (fun _ hk=>hk.2) (.slice Ao34 t453.length co34)) (fun _ hk=>⟨hk.1.1.1.1.1.1,⟨hk.1.1.1.1.1.2,⟨hk.1.1.1.1.2,hk.1.1.1.2⟩⟩⟩)⟩,⟨by (with_reducible repeat (first|apply vA_|apply vN_|apply vD_));exact Kd.V_mono (Kd.V_far (p:=⟨gb461,1,none⟩) (Kd.V_far (p:=⟨gb461,0,none⟩) (Kd.V_far (p:=⟨gb460,1,none⟩) (Kd.V_far (p:=⟨gb460,0,none⟩) (Kd.V_far (p:=⟨gb459,1,none⟩) (Kd.V_far (p:=⟨gb459,0,none⟩) (Kd.V_mono (Kd.V_mono (Kd.V_mono HO451.out (fun k_ hk=>(⟨hk,hk.1.1.2⟩:_∧k_≠gb459))) (fun k_ hk=>(⟨hk,hk.1.1.2⟩:_∧k_≠gb460))) (fun k_ hk=>(⟨hk,hk.1.1.2⟩:_∧k_≠gb461))) (fun _ hk=>hk.1.1.2) (.bool t444)) (fun _ hk=>hk.1.1.2) (.slice Ao29 t445.length co29)) (fun _ hk=>hk.1.2) (.bool t448)) (fun _ hk=>hk.1.2) (.slice Ao32 t449.length co32)) (fun _ hk=>hk.2) (.bool t452)) (fun _ hk=>hk.2) (.slice Ao34 t453.length co34)) (fun _ hk=>⟨hk.1.1.1.1.1.1,⟨hk.1.1.1.1.1.2,⟨hk.1.1.1.1.2,hk.1.1.1.2⟩⟩⟩)⟩,⟨by (with_reducible repeat (first|apply vA_|apply vN_|apply vD_));exact Kd.V_mono (Kd.V_far (p:=⟨gb461,1,none⟩) (Kd.V_far (p:=⟨gb461,0,none⟩) (Kd.V_far (p:=⟨gb460,1,none⟩) (Kd.V_far (p:=⟨gb460,0,none⟩) (Kd.V_far (p:=⟨gb459,1,none⟩) (Kd.V_far (p:=⟨gb459,0,none⟩) (Kd.V_mono (Kd.V_mono (Kd.V_mono HO455.out (fun k_ hk=>(⟨hk,hk.1.1.2⟩:_∧k_≠gb459))) (fun k_ hk=>(⟨hk,hk.1.1.2⟩:_∧k_≠gb460))) (fun k_ hk=>(⟨hk,hk.1.1.2⟩:_∧k_≠gb461))) (fun _ hk=>hk.1.1.2) (.bool t444)) (fun _ hk=>hk.1.1.2) (.slice Ao29 t445.length co29)) (fun _ hk=>hk.1.2) (.bool t448)) (fun _ hk=>hk.1.2) (.slice Ao32 t449.length co32)) (fun _ hk=>hk.2) (.bool t452)) (fun _ hk=>hk.2) (.slice Ao34 t453.length co34)) (fun _ hk=>⟨hk.1.1.1.1.1.1,⟨hk.1.1.1.1.1.2,⟨hk.1.1.1.1.2,hk.1.1.1.2⟩⟩⟩)⟩,⟨by (with_reducible repeat (first|refine blk_drewN ?_ _|refine blk_drew ?_|refine blk_alloc ?_ _));refine blk_far ?_ NB459_461.out _;(with_reducible repeat (first|refine blk_drewN ?_ _|refine blk_drew ?_|refine blk_alloc ?_ _));refine blk_far ?_ NB459_461.out _;(with_reducible repeat (first|refine blk_drewN ?_ _|refine blk_drew ?_|refine blk_alloc ?_ _));refine blk_far ?_ NB459_460.out _;(with_reducible repeat (first|refine blk_drewN ?_ _|refine blk_drew ?_|refine blk_alloc ?_ _));refine blk_far ?_ NB459_460.out _;(with_reducible repeat (first|refine blk_drewN ?_ _|refine blk_drew ?_|refine blk_alloc ?_ _));refine blk_put (cs:=#[.bool t444,.slice none 0 0]) ?_ 1 _ rfl;(with_reducible repeat (first|refine blk_drewN ?_ _|refine blk_drew ?_|refine blk_alloc ?_ _));refine blk_put (cs:=#[.bool false,.slice none 0 0]) ?_ 0 _ rfl;(with_reducible repeat (first|refine blk_drewN ?_ _|refine blk_drew ?_|refine blk_alloc ?_ _));exact BK459.out⟩,⟨by (with_reducible repeat (first|refine blk_drewN ?_ _|refine blk_drew ?_|refine blk_alloc ?_ _));refine blk_far ?_ NB460_461.out _;(with_reducible repeat (first|refine blk_drewN ?_ _|refine blk_drew ?_|refine blk_alloc ?_ _));refine blk_far ?_ NB460_461.out _;(with_reducible repeat (first|refine blk_drewN ?_ _|refine blk_drew ?_|refine blk_alloc ?_ _));refine blk_put (cs:=#[.bool t448,.slice none 0 0]) ?_ 1 _ rfl;(with_reducible repeat (first|refine blk_drewN ?_ _|refine blk_drew ?_|refine blk_alloc ?_ _));refine blk_put (cs:=#[.bool false,.slice none 0 0]) ?_ 0 _ rfl;(with_reducible repeat (first|refine blk_drewN ?_ _|refine blk_drew ?_|refine blk_alloc ?_ _));refine blk_far ?_ NB460_459.out _;(with_reducible repeat (first|refine blk_drewN ?_ _|refine blk_drew ?_|refine blk_alloc ?_ _));refine blk_far ?_ NB460_459.out _;(with_reducible repeat (first|refine blk_drewN ?_ _|refine blk_drew ?_|refine blk_alloc ?_ _));exact BK460.out⟩,⟨by (with_reducible repeat (first|refine blk_drewN ?_ _|refine blk_drew ?_|refine blk_alloc ?_ _));refine blk_put (cs:=#[.bool t452,.slice none 0 0]) ?_ 1 _ rfl;(with_reducible repeat (first|refine blk_drewN ?_ _|refine blk_drew ?_|refine blk_alloc ?_ _));refine blk_put (cs:=#[.bool false,.slice none 0 0]) ?_ 0 _ rfl;(with_reducible repeat (first|refine blk_drewN ?_ _|refine blk_drew ?_|refine blk_alloc ?_ _));refine blk_far ?_ NB461_460.out _;(with_reducible repeat (first|refine blk_drewN ?_ _|refine blk_drew ?_|refine blk_alloc ?_ _));refine blk_far ?_ NB461_460.out _;(with_reducible repeat (first|refine blk_drewN ?_ _|refine blk_drew ?_|refine blk_alloc ?_ _));refine blk_far ?_ NB461_459.out _;(with_reducible repeat (first|refine blk_drewN ?_ _|refine blk_drew ?_|refine blk_alloc ?_ _));refine blk_far ?_ NB461_459.out _;(with_reducible repeat (first|refine blk_drewN ?_ _|refine blk_drew ?_|refine blk_alloc ?_ _));exact BK461.out⟩,⟨by repeat (first|(with_reducible first|exact HB.out|apply bA_|apply bN_|apply bD_|refine below_set ?_ GE459.out|refine below_set ?_ GE460.out|refine below_set ?_ GE461.out)|exact HB.out)⟩⟩
  case round =>
   clear H'
   try clear c1
   try clear c2
   try clear p2
   try clear c3
   try clear c4
   try clear c5
   try clear c7
   try clear c8
   try clear c9
   try clear c10
   try clear c11
   try clear c26
   try clear c27
   try clear c30
   try clear hcz28_0
   try clear hcz28_1
   try clear hcz31_0
   try clear hcz31_1
   try clear hcz33_0
   try clear hcz33_1
   try clear hfz28_0
   try clear hfz28_1
   try clear hfz31_0
   try clear hfz31_1
   try clear hfz33_0
   try clear hfz33_1
   obtain ⟨x9_1,x10_1,rfl,rfl,HA,HK1,HO_8,HO_460001,HO_461001,HO_462001,BK459,BK460,BK461,HB⟩:=hrel
   cases gk with
   | zero=>exact absurd HA.out (by simp [cadencelaw12_MergeFirst.l0])
   | succ k1 =>
    have H:=HA.out
    clear HA
    simp only [cadencelaw12_MergeFirst.l0] at H
    by_cases c35:x10_1 < 3
    ·rw [if_pos c35] at H
     have c35b0:decide (x10_1 < 3)=true:=decide_eq_true c35
     clear c35
     obtain ⟨y462,hy462⟩:∃ y_:List ByteArray,y_=(([(⟨#[97]⟩:ByteArray),(⟨#[98]⟩:ByteArray),(⟨#[99]⟩:ByteArray)]:List ByteArray)):=⟨_,rfl⟩
     replace H:(if 0≤x10_1 then (if x10_1 < (y462.length:Int) then ((cadencelaw12_row.f k1 a0).bind fun t466=>((cadencelaw12_value.f k1 t466 (rdOf ByteArray.empty y462 x10_1)).bind fun t469=>((cadencelaw12_row.f k1 a1).bind fun t470=>((cadencelaw12_value.f k1 t470 (rdOf ByteArray.empty y462 x10_1)).bind fun t473=>((cadencelaw12_value.f k1 t445 (rdOf ByteArray.empty y462 x10_1)).bind fun t474=>((cadencelaw12_value.f k1 t449 (rdOf ByteArray.empty y462 x10_1)).bind fun t475=>((cadencelaw12_value.f k1 t453 (rdOf ByteArray.empty y462 x10_1)).bind fun t476=>(if t469.toList=([]:List UInt8) then (cadencelaw12_MergeFirst.j1 k1 a0 a1 t456 x9_1 x10_1 t469 t473 t474 t475 t476 false t444 t445 t448 t449 t452 t453) else (if t473.toList=([]:List UInt8) then (cadencelaw12_MergeFirst.j1 k1 a0 a1 t456 x9_1 x10_1 t469 t473 t474 t475 t476 false t444 t445 t448 t449 t452 t453) else (cadencelaw12_MergeFirst.j1 k1 a0 a1 t456 x9_1 x10_1 t469 t473 t474 t475 t476 (t469.toList != t473.toList) t444 t445 t448 t449 t452 t453)))))))))) else (none)) else (none))=some r:=by first|(rw [hy462];with_reducible exact H)|(have H2_:=(Option.bind_some _ _).symm.trans H;rw [hy462];with_reducible exact H2_)|(have H2_:=(Option.bind_some _ _).symm.trans H;with_reducible exact H2_)|with_reducible exact H|(rw [hy462];exact H)|exact H
     have Ny462:=Aside0.mk hy462
     clear hy462
     by_cases c36:0≤x10_1
     ·rw [if_pos c36] at H
      have c36b0:decide (0≤x10_1)=true:=decide_eq_true c36
      clear c36
      by_cases c37:x10_1 < (y462.length:Int)
      ·rw [if_pos c37] at H
       have c37b0:decide (x10_1 < (y462.length:Int))=true:=decide_eq_true c37
       clear c37
       replace H:=Option.bind_eq_some_iff.mp H
       obtain ⟨t466,A380,H⟩:=H
       replace H:((cadencelaw12_value.f k1 t466 (rdOf ByteArray.empty y462 x10_1)).bind fun t469=>((cadencelaw12_row.f k1 a1).bind fun t470=>((cadencelaw12_value.f k1 t470 (rdOf ByteArray.empty y462 x10_1)).bind fun t473=>((cadencelaw12_value.f k1 t445 (rdOf ByteArray.empty y462 x10_1)).bind fun t474=>((cadencelaw12_value.f k1 t449 (rdOf ByteArray.empty y462 x10_1)).bind fun t475=>((cadencelaw12_value.f k1 t453 (rdOf ByteArray.empty y462 x10_1)).bind fun t476=>(if t469.toList=([]:List UInt8) then (cadencelaw12_MergeFirst.j1 k1 a0 a1 t456 x9_1 x10_1 t469 t473 t474 t475 t476 false t444 t445 t448 t449 t452 t453) else (if t473.toList=([]:List UInt8) then (cadencelaw12_MergeFirst.j1 k1 a0 a1 t456 x9_1 x10_1 t469 t473 t474 t475 t476 false t444 t445 t448 t449 t452 t453) else (cadencelaw12_MergeFirst.j1 k1 a0 a1 t456 x9_1 x10_1 t469 t473 t474 t475 t476 (t469.toList != t473.toList) t444 t445 t448 t449 t452 t453)))))))))=some r:=H
       have A38:=Aside0.mk A380
       clear A380
       replace H:=Option.bind_eq_some_iff.mp H
       obtain ⟨t469,A390,H⟩:=H
       replace H:((cadencelaw12_row.f k1 a1).bind fun t470=>((cadencelaw12_value.f k1 t470 (rdOf ByteArray.empty y462 x10_1)).bind fun t473=>((cadencelaw12_value.f k1 t445 (rdOf ByteArray.empty y462 x10_1)).bind fun t474=>((cadencelaw12_value.f k1 t449 (rdOf ByteArray.empty y462 x10_1)).bind fun t475=>((cadencelaw12_value.f k1 t453 (rdOf ByteArray.empty y462 x10_1)).bind fun t476=>(if t469.toList=([]:List UInt8) then (cadencelaw12_MergeFirst.j1 k1 a0 a1 t456 x9_1 x10_1 t469 t473 t474 t475 t476 false t444 t445 t448 t449 t452 t453) else (if t473.toList=([]:List UInt8) then (cadencelaw12_MergeFirst.j1 k1 a0 a1 t456 x9_1 x10_1 t469 t473 t474 t475 t476 false t444 t445 t448 t449 t452 t453) else (cadencelaw12_MergeFirst.j1 k1 a0 a1 t456 x9_1 x10_1 t469 t473 t474 t475 t476 (t469.toList != t473.toList) t444 t445 t448 t449 t452 t453))))))))=some r:=H
       have A39:=Aside0.mk A390
       clear A390
       replace H:=Option.bind_eq_some_iff.mp H
       obtain ⟨t470,A400,H⟩:=H
       replace H:((cadencelaw12_value.f k1 t470 (rdOf ByteArray.empty y462 x10_1)).bind fun t473=>((cadencelaw12_value.f k1 t445 (rdOf ByteArray.empty y462 x10_1)).bind fun t474=>((cadencelaw12_value.f k1 t449 (rdOf ByteArray.empty y462 x10_1)).bind fun t475=>((cadencelaw12_value.f k1 t453 (rdOf ByteArray.empty y462 x10_1)).bind fun t476=>(if t469.toList=([]:List UInt8) then (cadencelaw12_MergeFirst.j1 k1 a0 a1 t456 x9_1 x10_1 t469 t473 t474 t475 t476 false t444 t445 t448 t449 t452 t453) else (if t473.toList=([]:List UInt8) then (cadencelaw12_MergeFirst.j1 k1 a0 a1 t456 x9_1 x10_1 t469 t473 t474 t475 t476 false t444 t445 t448 t449 t452 t453) else (cadencelaw12_MergeFirst.j1 k1 a0 a1 t456 x9_1 x10_1 t469 t473 t474 t475 t476 (t469.toList != t473.toList) t444 t445 t448 t449 t452 t453)))))))=some r:=H
       have A40:=Aside0.mk A400
       clear A400
       replace H:=Option.bind_eq_some_iff.mp H
       obtain ⟨t473,A410,H⟩:=H
       replace H:((cadencelaw12_value.f k1 t445 (rdOf ByteArray.empty y462 x10_1)).bind fun t474=>((cadencelaw12_value.f k1 t449 (rdOf ByteArray.empty y462 x10_1)).bind fun t475=>((cadencelaw12_value.f k1 t453 (rdOf ByteArray.empty y462 x10_1)).bind fun t476=>(if t469.toList=([]:List UInt8) then (cadencelaw12_MergeFirst.j1 k1 a0 a1 t456 x9_1 x10_1 t469 t473 t474 t475 t476 false t444 t445 t448 t449 t452 t453) else (if t473.toList=([]:List UInt8) then (cadencelaw12_MergeFirst.j1 k1 a0 a1 t456 x9_1 x10_1 t469 t473 t474 t475 t476 false t444 t445 t448 t449 t452 t453) else (cadencelaw12_MergeFirst.j1 k1 a0 a1 t456 x9_1 x10_1 t469 t473 t474 t475 t476 (t469.toList != t473.toList) t444 t445 t448 t449 t452 t453))))))=some r:=H
       have A41:=Aside0.mk A410
       clear A410
       replace H:=Option.bind_eq_some_iff.mp H
       obtain ⟨t474,A420,H⟩:=H
       replace H:((cadencelaw12_value.f k1 t449 (rdOf ByteArray.empty y462 x10_1)).bind fun t475=>((cadencelaw12_value.f k1 t453 (rdOf ByteArray.empty y462 x10_1)).bind fun t476=>(if t469.toList=([]:List UInt8) then (cadencelaw12_MergeFirst.j1 k1 a0 a1 t456 x9_1 x10_1 t469 t473 t474 t475 t476 false t444 t445 t448 t449 t452 t453) else (if t473.toList=([]:List UInt8) then (cadencelaw12_MergeFirst.j1 k1 a0 a1 t456 x9_1 x10_1 t469 t473 t474 t475 t476 false t444 t445 t448 t449 t452 t453) else (cadencelaw12_MergeFirst.j1 k1 a0 a1 t456 x9_1 x10_1 t469 t473 t474 t475 t476 (t469.toList != t473.toList) t444 t445 t448 t449 t452 t453)))))=some r:=H
       have A42:=Aside0.mk A420
       clear A420
       replace H:=Option.bind_eq_some_iff.mp H
       obtain ⟨t475,A430,H⟩:=H
       replace H:((cadencelaw12_value.f k1 t453 (rdOf ByteArray.empty y462 x10_1)).bind fun t476=>(if t469.toList=([]:List UInt8) then (cadencelaw12_MergeFirst.j1 k1 a0 a1 t456 x9_1 x10_1 t469 t473 t474 t475 t476 false t444 t445 t448 t449 t452 t453) else (if t473.toList=([]:List UInt8) then (cadencelaw12_MergeFirst.j1 k1 a0 a1 t456 x9_1 x10_1 t469 t473 t474 t475 t476 false t444 t445 t448 t449 t452 t453) else (cadencelaw12_MergeFirst.j1 k1 a0 a1 t456 x9_1 x10_1 t469 t473 t474 t475 t476 (t469.toList != t473.toList) t444 t445 t448 t449 t452 t453))))=some r:=H
       have A43:=Aside0.mk A430
       clear A430
       replace H:=Option.bind_eq_some_iff.mp H
       obtain ⟨t476,A440,H⟩:=H
       replace H:(if t469.toList=([]:List UInt8) then (cadencelaw12_MergeFirst.j1 k1 a0 a1 t456 x9_1 x10_1 t469 t473 t474 t475 t476 false t444 t445 t448 t449 t452 t453) else (if t473.toList=([]:List UInt8) then (cadencelaw12_MergeFirst.j1 k1 a0 a1 t456 x9_1 x10_1 t469 t473 t474 t475 t476 false t444 t445 t448 t449 t452 t453) else (cadencelaw12_MergeFirst.j1 k1 a0 a1 t456 x9_1 x10_1 t469 t473 t474 t475 t476 (t469.toList != t473.toList) t444 t445 t448 t449 t452 t453)))=some r:=H
       have A44:=Aside0.mk A440
       clear A440
       have HC45:=Aside0.mk H
       clear H
       try go_wp2_with (first|((with_reducible refine gate_dst (N:=38) rfl ?_);refine Kd.R_lit Kd.string _ 9 ?hg (N:=38) ?hd (xs:=([(⟨#[97]⟩:ByteArray),(⟨#[98]⟩:ByteArray),(⟨#[99]⟩:ByteArray)]:List ByteArray)) (inner:=[.string (⟨#[97]⟩:ByteArray),.string (⟨#[98]⟩:ByteArray),.string (⟨#[99]⟩:ByteArray)]) (ok:=fun _=>True) (okp:=fun _=>True) ?hr ?hp (fun _ hk=>hk) trivial (Below.refl _ _) (Nat.le_refl _) (by simp) ?_;(case hd=>rfl);(case hg=>rfl);(case hr=>first|(go_simp;done)|(go_simp;rfl));(case hp=>exact (Reps.one (show Kd.M Kd.string _ _ _ (⟨#[97]⟩:ByteArray) [.string (⟨#[97]⟩:ByteArray)] from rfl) (Reps.one (show Kd.M Kd.string _ _ _ (⟨#[98]⟩:ByteArray) [.string (⟨#[98]⟩:ByteArray)] from rfl) (Reps.one (show Kd.M Kd.string _ _ _ (⟨#[99]⟩:ByteArray) [.string (⟨#[99]⟩:ByteArray)] from rfl) (Reps.none _ _)))));intro v463 w46 ho47 hb hg_ hnew_;clear hg_ hnew_;(first|rw [← Ny462.out] at ho47|(simp only [Int.reduceToNat] at ho47;rw [← Ny462.out] at ho47));have n0_:=Aside0.mk (Kd.N_elder' (by (with_reducible repeat (first|apply nA_|apply nN_|apply nD_));exact HO_8.out) (Kd.R_base ho47) hb);have n1_:=Aside0.mk (Kd.V_elder' (by (with_reducible repeat (first|apply vA_|apply vN_|apply vD_));exact HO_460001.out) (Kd.R_base ho47) hb);have n2_:=Aside0.mk (Kd.V_elder' (by (with_reducible repeat (first|apply vA_|apply vN_|apply vD_));exact HO_461001.out) (Kd.R_base ho47) hb);have n3_:=Aside0.mk (Kd.V_elder' (by (with_reducible repeat (first|apply vA_|apply vN_|apply vD_));exact HO_462001.out) (Kd.R_base ho47) hb);have n4_:=Aside0.mk (Kd.R_lower ho47 (below_size (by repeat (first|(with_reducible first|exact HB.out|apply bA_|apply bN_|apply bD_|refine below_set ?_ GE459.out|refine below_set ?_ GE460.out|refine below_set ?_ GE461.out)|exact HB.out))));have n5_:=Aside0.mk (blk_below (g:=gb459) (o:=.cells #[.bool t444,.slice Ao29 t445.length co29] 26 (0,0)) (by (with_reducible repeat (first|refine blk_drewN ?_ _|refine blk_drew ?_|refine blk_alloc ?_ _));exact BK459.out) hb);have n6_:=Aside0.mk (blk_below (g:=gb460) (o:=.cells #[.bool t448,.slice Ao32 t449.length co32] 26 (0,0)) (by (with_reducible repeat (first|refine blk_drewN ?_ _|refine blk_drew ?_|refine blk_alloc ?_ _));exact BK460.out) hb);have n7_:=Aside0.mk (blk_below (g:=gb461) (o:=.cells #[.bool t452,.slice Ao34 t453.length co34] 26 (0,0)) (by (with_reducible repeat (first|refine blk_drewN ?_ _|refine blk_drew ?_|refine blk_alloc ?_ _));exact BK461.out) hb);have n8_:=Aside0.mk (below_step (by repeat (first|(with_reducible first|exact HB.out|apply bA_|apply bN_|apply bD_|refine below_set ?_ GE459.out|refine below_set ?_ GE460.out|refine below_set ?_ GE461.out)|exact HB.out)) hb);clear HO_8;clear HO_460001;clear HO_461001;clear HO_462001;clear BK459;clear BK460;clear BK461;clear HB;have HO_8:=n0_;have HO_460001:=n1_;have HO_461001:=n2_;have HO_462001:=n3_;have HO464:=n4_;have BK459:=n5_;have BK460:=n6_;have BK461:=n7_;have HB:=n8_;clear n0_ n1_ n2_ n3_ n4_ n5_ n6_ n7_ n8_;clear hb ho47;obtain ⟨Ao48,co48,eo48⟩:=Kd.R_slice HO464.out;subst eo48;have p465:0≤(x10_1:Int):=of_decide_eq_true (by first|(with_reducible assumption)|assumption);have q465:x10_1 < (y462.length:Int):=of_decide_eq_true (by first|(with_reducible assumption)|assumption);obtain ⟨ad465,e465,hx465_0⟩:=Kd.at_string (Kd.R_reads' HO464.out).2.2 x10_1 p465 q465;cases e465;replace p465:=eq_true p465;replace q465:=eq_true q465)|((with_reducible refine gate_callee (f:=11) rfl ?_);refine goesL_ (some 43) rfl rfl Try.func11 (by kernel_rfl) rfl #[.int .i64 a0] rfl (by (try simp only [List.map_toArray,List.map_cons,List.map_nil]);first|done|rfl|(simp only [List.length_drop,List.length_take];rfl)) ?_;(with_reducible refine (cadencelaw12_row.calls k1 a0 t466 _ A38.out).mono ?_);rintro e w49 ⟨v467,rfl,ho0,hb⟩;refine ⟨_,rfl,?_⟩;have n0_:=Aside0.mk (Kd.N_elder' (by (with_reducible repeat (first|apply nA_|apply nN_|apply nD_));exact HO_8.out) (Kd.N_base ho0) hb);have n1_:=Aside0.mk (Kd.V_elder' (by (with_reducible repeat (first|apply vA_|apply vN_|apply vD_));exact HO_460001.out) (Kd.N_base ho0) hb);have n2_:=Aside0.mk (Kd.V_elder' (by (with_reducible repeat (first|apply vA_|apply vN_|apply vD_));exact HO_461001.out) (Kd.N_base ho0) hb);have n3_:=Aside0.mk (Kd.V_elder' (by (with_reducible repeat (first|apply vA_|apply vN_|apply vD_));exact HO_462001.out) (Kd.N_base ho0) hb);have n4_:=Aside0.mk (Kd.R_below (by (with_reducible repeat (first|apply rA_|apply rN_|apply rD_));exact HO464.out) hb);have n5_:=Aside0.mk (Kd.N_lower (Kd.N_mono (ok':=fun k_=>some k_≠(v457:Value).ownBlock∧some k_≠(.slice (some ad465) y462.length co48:Value).ownBlock∧k_≠gb459∧k_≠gb460∧k_≠gb461) ho0 (fun k_ hk_=>⟨(Kd.fresh' (Kd.N_lt (by (with_reducible repeat (first|apply nA_|apply nN_|apply nD_));exact HO_8.out)) k_ hk_),(Kd.fresh' (Kd.R_lt (by (with_reducible repeat (first|apply rA_|apply rN_|apply rD_));exact HO464.out)) k_ hk_),(Kd.freshB (g:=gb459) (o:=.cells #[.bool t444,.slice Ao29 t445.length co29] 26 (0,0)) (by (with_reducible repeat (first|refine blk_drewN ?_ _|refine blk_drew ?_|refine blk_alloc ?_ _));exact BK459.out) k_ hk_),(Kd.freshB (g:=gb460) (o:=.cells #[.bool t448,.slice Ao32 t449.length co32] 26 (0,0)) (by (with_reducible repeat (first|refine blk_drewN ?_ _|refine blk_drew ?_|refine blk_alloc ?_ _));exact BK460.out) k_ hk_),(Kd.freshB (g:=gb461) (o:=.cells #[.bool t452,.slice Ao34 t453.length co34] 26 (0,0)) (by (with_reducible repeat (first|refine blk_drewN ?_ _|refine blk_drew ?_|refine blk_alloc ?_ _));exact BK461.out) k_ hk_)⟩)) (below_size (by repeat (first|(with_reducible first|exact HB.out|apply bA_|apply bN_|apply bD_|refine below_set ?_ GE459.out|refine below_set ?_ GE460.out|refine below_set ?_ GE461.out)|exact HB.out))));have n6_:=Aside0.mk (blk_below (g:=gb459) (o:=.cells #[.bool t444,.slice Ao29 t445.length co29] 26 (0,0)) (by (with_reducible repeat (first|refine blk_drewN ?_ _|refine blk_drew ?_|refine blk_alloc ?_ _));exact BK459.out) hb);have n7_:=Aside0.mk (blk_below (g:=gb460) (o:=.cells #[.bool t448,.slice Ao32 t449.length co32] 26 (0,0)) (by (with_reducible repeat (first|refine blk_drewN ?_ _|refine blk_drew ?_|refine blk_alloc ?_ _));exact BK460.out) hb);have n8_:=Aside0.mk (blk_below (g:=gb461) (o:=.cells #[.bool t452,.slice Ao34 t453.length co34] 26 (0,0)) (by (with_reducible repeat (first|refine blk_drewN ?_ _|refine blk_drew ?_|refine blk_alloc ?_ _));exact BK461.out) hb);have n9_:=Aside0.mk (below_step (by repeat (first|(with_reducible first|exact HB.out|apply bA_|apply bN_|apply bD_|refine below_set ?_ GE459.out|refine below_set ?_ GE460.out|refine below_set ?_ GE461.out)|exact HB.out)) hb);clear HO_8;clear HO_460001;clear HO_461001;clear HO_462001;clear HO464;clear BK459;clear BK460;clear BK461;clear HB;have HO_8:=n0_;have HO_460001:=n1_;have HO_461001:=n2_;have HO_462001:=n3_;have HO464:=n4_;have HO468:=n5_;have BK459:=n6_;have BK460:=n7_;have BK461:=n8_;have HB:=n9_;clear n0_ n1_ n2_ n3_ n4_ n5_ n6_ n7_ n8_ n9_;(try clear hb);(try clear hb2);(try clear hk);(try clear hi);(try clear ho0);obtain ⟨Ao50,co50,eo50⟩:=Kd.N_slice HO468.out;subst eo50)|((with_reducible refine gate_callee (f:=12) rfl ?_);refine goesL_ (some 45) rfl rfl Try.func12 (by kernel_rfl) rfl #[.slice Ao50 t466.length co50,.string (rdOf ByteArray.empty y462 x10_1)] rfl (by (try simp only [List.map_toArray,List.map_cons,List.map_nil]);first|done|rfl|(simp only [List.length_drop,List.length_take];rfl)) ?_;(with_reducible refine (cadencelaw12_value.calls k1 _ _ t466 (rdOf ByteArray.empty y462 x10_1) t469 _ ?side1 ?side2 A39.out).mono ?_);(case side1=>repeat (first|exact (Kd.N_reads' HO468.out).2.2|(with_reducible refine cA_ ?_ _)|(with_reducible refine cN_ ?_ _)|(with_reducible refine cD_ ?_)));(case side2=>exact (Kd.N_reads' HO468.out).2.1);rintro e w51 ⟨rfl,hb⟩;refine ⟨_,rfl,?_⟩;have n0_:=Aside0.mk (Kd.N_below (by (with_reducible repeat (first|apply nA_|apply nN_|apply nD_));exact HO_8.out) hb);have n1_:=Aside0.mk (Kd.V_below (by (with_reducible repeat (first|apply vA_|apply vN_|apply vD_));exact HO_460001.out) hb);have n2_:=Aside0.mk (Kd.V_below (by (with_reducible repeat (first|apply vA_|apply vN_|apply vD_));exact HO_461001.out) hb);have n3_:=Aside0.mk (Kd.V_below (by (with_reducible repeat (first|apply vA_|apply vN_|apply vD_));exact HO_462001.out) hb);have n4_:=Aside0.mk (Kd.R_below (by (with_reducible repeat (first|apply rA_|apply rN_|apply rD_));exact HO464.out) hb);have n5_:=Aside0.mk (Kd.N_below (by (with_reducible repeat (first|apply nA_|apply nN_|apply nD_));exact HO468.out) hb);have n6_:=Aside0.mk (blk_below (g:=gb459) (o:=.cells #[.bool t444,.slice Ao29 t445.length co29] 26 (0,0)) (by (with_reducible repeat (first|refine blk_drewN ?_ _|refine blk_drew ?_|refine blk_alloc ?_ _));exact BK459.out) hb);have n7_:=Aside0.mk (blk_below (g:=gb460) (o:=.cells #[.bool t448,.slice Ao32 t449.length co32] 26 (0,0)) (by (with_reducible repeat (first|refine blk_drewN ?_ _|refine blk_drew ?_|refine blk_alloc ?_ _));exact BK460.out) hb);have n8_:=Aside0.mk (blk_below (g:=gb461) (o:=.cells #[.bool t452,.slice Ao34 t453.length co34] 26 (0,0)) (by (with_reducible repeat (first|refine blk_drewN ?_ _|refine blk_drew ?_|refine blk_alloc ?_ _));exact BK461.out) hb);have n9_:=Aside0.mk (below_step (by repeat (first|(with_reducible first|exact HB.out|apply bA_|apply bN_|apply bD_|refine below_set ?_ GE459.out|refine below_set ?_ GE460.out|refine below_set ?_ GE461.out)|exact HB.out)) hb);clear HO_8;clear HO_460001;clear HO_461001;clear HO_462001;clear HO464;clear HO468;clear BK459;clear BK460;clear BK461;clear HB;have HO_8:=n0_;have HO_460001:=n1_;have HO_461001:=n2_;have HO_462001:=n3_;have HO464:=n4_;have HO468:=n5_;have BK459:=n6_;have BK460:=n7_;have BK461:=n8_;have HB:=n9_;clear n0_ n1_ n2_ n3_ n4_ n5_ n6_ n7_ n8_ n9_;(try clear hb);(try clear hb2);(try clear hk);(try clear hi))|((with_reducible refine gate_callee (f:=11) rfl ?_);refine goesL_ (some 47) rfl rfl Try.func11 (by kernel_rfl) rfl #[.int .i64 a1] rfl (by (try simp only [List.map_toArray,List.map_cons,List.map_nil]);first|done|rfl|(simp only [List.length_drop,List.length_take];rfl)) ?_;(with_reducible refine (cadencelaw12_row.calls k1 a1 t470 _ A40.out).mono ?_);rintro e w52 ⟨v471,rfl,ho0,hb⟩;refine ⟨_,rfl,?_⟩;have n0_:=Aside0.mk (Kd.N_elder' (by (with_reducible repeat (first|apply nA_|apply nN_|apply nD_));exact HO_8.out) (Kd.N_base ho0) hb);have n1_:=Aside0.mk (Kd.V_elder' (by (with_reducible repeat (first|apply vA_|apply vN_|apply vD_));exact HO_460001.out) (Kd.N_base ho0) hb);have n2_:=Aside0.mk (Kd.V_elder' (by (with_reducible repeat (first|apply vA_|apply vN_|apply vD_));exact HO_461001.out) (Kd.N_base ho0) hb);have n3_:=Aside0.mk (Kd.V_elder' (by (with_reducible repeat (first|apply vA_|apply vN_|apply vD_));exact HO_462001.out) (Kd.N_base ho0) hb);have n4_:=Aside0.mk (Kd.R_below (by (with_reducible repeat (first|apply rA_|apply rN_|apply rD_));exact HO464.out) hb);have n5_:=Aside0.mk (Kd.N_elder' (by (with_reducible repeat (first|apply nA_|apply nN_|apply nD_));exact HO468.out) (Kd.N_base ho0) hb);have n6_:=Aside0.mk (Kd.N_lower (Kd.N_mono (ok':=fun k_=>some k_≠(v457:Value).ownBlock∧some k_≠(.slice (some ad465) y462.length co48:Value).ownBlock∧some k_≠(.slice Ao50 t466.length co50:Value).ownBlock∧k_≠gb459∧k_≠gb460∧k_≠gb461) ho0 (fun k_ hk_=>⟨(Kd.fresh' (Kd.N_lt (by (with_reducible repeat (first|apply nA_|apply nN_|apply nD_));exact HO_8.out)) k_ hk_),(Kd.fresh' (Kd.R_lt (by (with_reducible repeat (first|apply rA_|apply rN_|apply rD_));exact HO464.out)) k_ hk_),(Kd.fresh' (Kd.N_lt (by (with_reducible repeat (first|apply nA_|apply nN_|apply nD_));exact HO468.out)) k_ hk_),(Kd.freshB (g:=gb459) (o:=.cells #[.bool t444,.slice Ao29 t445.length co29] 26 (0,0)) (by (with_reducible repeat (first|refine blk_drewN ?_ _|refine blk_drew ?_|refine blk_alloc ?_ _));exact BK459.out) k_ hk_),(Kd.freshB (g:=gb460) (o:=.cells #[.bool t448,.slice Ao32 t449.length co32] 26 (0,0)) (by (with_reducible repeat (first|refine blk_drewN ?_ _|refine blk_drew ?_|refine blk_alloc ?_ _));exact BK460.out) k_ hk_),(Kd.freshB (g:=gb461) (o:=.cells #[.bool t452,.slice Ao34 t453.length co34] 26 (0,0)) (by (with_reducible repeat (first|refine blk_drewN ?_ _|refine blk_drew ?_|refine blk_alloc ?_ _));exact BK461.out) k_ hk_)⟩)) (below_size (by repeat (first|(with_reducible first|exact HB.out|apply bA_|apply bN_|apply bD_|refine below_set ?_ GE459.out|refine below_set ?_ GE460.out|refine below_set ?_ GE461.out)|exact HB.out))));have n7_:=Aside0.mk (blk_below (g:=gb459) (o:=.cells #[.bool t444,.slice Ao29 t445.length co29] 26 (0,0)) (by (with_reducible repeat (first|refine blk_drewN ?_ _|refine blk_drew ?_|refine blk_alloc ?_ _));exact BK459.out) hb);have n8_:=Aside0.mk (blk_below (g:=gb460) (o:=.cells #[.bool t448,.slice Ao32 t449.length co32] 26 (0,0)) (by (with_reducible repeat (first|refine blk_drewN ?_ _|refine blk_drew ?_|refine blk_alloc ?_ _));exact BK460.out) hb);have n9_:=Aside0.mk (blk_below (g:=gb461) (o:=.cells #[.bool t452,.slice Ao34 t453.length co34] 26 (0,0)) (by (with_reducible repeat (first|refine blk_drewN ?_ _|refine blk_drew ?_|refine blk_alloc ?_ _));exact BK461.out) hb);have n10_:=Aside0.mk (below_step (by repeat (first|(with_reducible first|exact HB.out|apply bA_|apply bN_|apply bD_|refine below_set ?_ GE459.out|refine below_set ?_ GE460.out|refine below_set ?_ GE461.out)|exact HB.out)) hb);clear HO_8;clear HO_460001;clear HO_461001;clear HO_462001;clear HO464;clear HO468;clear BK459;clear BK460;clear BK461;clear HB;have HO_8:=n0_;have HO_460001:=n1_;have HO_461001:=n2_;have HO_462001:=n3_;have HO464:=n4_;have HO468:=n5_;have HO472:=n6_;have BK459:=n7_;have BK460:=n8_;have BK461:=n9_;have HB:=n10_;clear n0_ n1_ n2_ n3_ n4_ n5_ n6_ n7_ n8_ n9_ n10_;(try clear hb);(try clear hb2);(try clear hk);(try clear hi);(try clear ho0);obtain ⟨Ao53,co53,eo53⟩:=Kd.N_slice HO472.out;subst eo53)|((with_reducible refine gate_callee (f:=12) rfl ?_);refine goesL_ (some 49) rfl rfl Try.func12 (by kernel_rfl) rfl #[.slice Ao53 t470.length co53,.string (rdOf ByteArray.empty y462 x10_1)] rfl (by (try simp only [List.map_toArray,List.map_cons,List.map_nil]);first|done|rfl|(simp only [List.length_drop,List.length_take];rfl)) ?_;(with_reducible refine (cadencelaw12_value.calls k1 _ _ t470 (rdOf ByteArray.empty y462 x10_1) t473 _ ?side1 ?side2 A41.out).mono ?_);(case side1=>repeat (first|exact (Kd.N_reads' HO472.out).2.2|(with_reducible refine cA_ ?_ _)|(with_reducible refine cN_ ?_ _)|(with_reducible refine cD_ ?_)));(case side2=>exact (Kd.N_reads' HO472.out).2.1);rintro e w54 ⟨rfl,hb⟩;refine ⟨_,rfl,?_⟩;have n0_:=Aside0.mk (Kd.N_below (by (with_reducible repeat (first|apply nA_|apply nN_|apply nD_));exact HO_8.out) hb);have n1_:=Aside0.mk (Kd.V_below (by (with_reducible repeat (first|apply vA_|apply vN_|apply vD_));exact HO_460001.out) hb);have n2_:=Aside0.mk (Kd.V_below (by (with_reducible repeat (first|apply vA_|apply vN_|apply vD_));exact HO_461001.out) hb);have n3_:=Aside0.mk (Kd.V_below (by (with_reducible repeat (first|apply vA_|apply vN_|apply vD_));exact HO_462001.out) hb);have n4_:=Aside0.mk (Kd.R_below (by (with_reducible repeat (first|apply rA_|apply rN_|apply rD_));exact HO464.out) hb);have n5_:=Aside0.mk (Kd.N_below (by (with_reducible repeat (first|apply nA_|apply nN_|apply nD_));exact HO468.out) hb);have n6_:=Aside0.mk (Kd.N_below (by (with_reducible repeat (first|apply nA_|apply nN_|apply nD_));exact HO472.out) hb);have n7_:=Aside0.mk (blk_below (g:=gb459) (o:=.cells #[.bool t444,.slice Ao29 t445.length co29] 26 (0,0)) (by (with_reducible repeat (first|refine blk_drewN ?_ _|refine blk_drew ?_|refine blk_alloc ?_ _));exact BK459.out) hb);have n8_:=Aside0.mk (blk_below (g:=gb460) (o:=.cells #[.bool t448,.slice Ao32 t449.length co32] 26 (0,0)) (by (with_reducible repeat (first|refine blk_drewN ?_ _|refine blk_drew ?_|refine blk_alloc ?_ _));exact BK460.out) hb);have n9_:=Aside0.mk (blk_below (g:=gb461) (o:=.cells #[.bool t452,.slice Ao34 t453.length co34] 26 (0,0)) (by (with_reducible repeat (first|refine blk_drewN ?_ _|refine blk_drew ?_|refine blk_alloc ?_ _));exact BK461.out) hb);have n10_:=Aside0.mk (below_step (by repeat (first|(with_reducible first|exact HB.out|apply bA_|apply bN_|apply bD_|refine below_set ?_ GE459.out|refine below_set ?_ GE460.out|refine below_set ?_ GE461.out)|exact HB.out)) hb);clear HO_8;clear HO_460001;clear HO_461001;clear HO_462001;clear HO464;clear HO468;clear HO472;clear BK459;clear BK460;clear BK461;clear HB;have HO_8:=n0_;have HO_460001:=n1_;have HO_461001:=n2_;have HO_462001:=n3_;have HO464:=n4_;have HO468:=n5_;have HO472:=n6_;have BK459:=n7_;have BK460:=n8_;have BK461:=n9_;have HB:=n10_;clear n0_ n1_ n2_ n3_ n4_ n5_ n6_ n7_ n8_ n9_ n10_;(try clear hb);(try clear hb2);(try clear hk);(try clear hi)))
       have n0_:=Aside0.mk (nD_ HO_8.out)
       have n1_:=Aside0.mk (vD_ HO_460001.out)
       have n2_:=Aside0.mk (vD_ HO_461001.out)
       have n3_:=Aside0.mk (vD_ HO_462001.out)
       have n4_:=Aside0.mk (rD_ HO464.out)
       have n5_:=Aside0.mk (nD_ HO468.out)
       have n6_:=Aside0.mk (nD_ HO472.out)
       have n7_:=Aside0.mk (blk_drew BK459.out)
       have n8_:=Aside0.mk (blk_drew BK460.out)
       have n9_:=Aside0.mk (blk_drew BK461.out)
       have n10_:=Aside0.mk (bD_ HB.out)
       clear HO_8
       clear HO_460001
       clear HO_461001
       clear HO_462001
       clear HO464
       clear HO468
       clear HO472
       clear BK459
       clear BK460
       clear BK461
       clear HB
       have HO_8:=n0_
       have HO_460001:=n1_
       have HO_461001:=n2_
       have HO_462001:=n3_
       have HO464:=n4_
       have HO468:=n5_
       have HO472:=n6_
       have BK459:=n7_
       have BK460:=n8_
       have BK461:=n9_
       have HB:=n10_
       clear n0_ n1_ n2_ n3_ n4_ n5_ n6_ n7_ n8_ n9_ n10_
       refine start_ (n:=15) (S:=fun w'=>w'.cell? ⟨gb459,0,none⟩=some (.bool t444)∧w'.cell? ⟨gb459,1,none⟩=some (.slice Ao29 t445.length co29)∧w'.cell? ⟨gb460,0,none⟩=some (.bool t448)∧w'.cell? ⟨gb460,1,none⟩=some (.slice Ao32 t449.length co32)∧w'.cell? ⟨gb461,0,none⟩=some (.bool t452)∧w'.cell? ⟨gb461,1,none⟩=some (.slice Ao34 t453.length co34)) (ds:=[]) #[false,false,false,false,false,false,false,false,false,false,false,false,false,false,false] (by kernel_rfl) rfl rfl ⟨(blk_cell BK459.out 0).trans rfl,(blk_cell BK459.out 1).trans rfl,(blk_cell BK460.out 0).trans rfl,(blk_cell BK460.out 1).trans rfl,(blk_cell BK461.out 0).trans rfl,(blk_cell BK461.out 1).trans rfl⟩ (fun hHeld=>?_);refine with_tabW cadencelaw12_MergeFirst.tab10 cadencelaw12_MergeFirst.bits10 (fun HT_ HW_=>?_)
       generalize w54.drew=w55 at HO_8 HO_460001 HO_461001 HO_462001 HO464 HO468 HO472 BK459 BK460 BK461 HB hHeld ⊢
       refine pure_ (i:=0) (N:=some 50) (v:=?_) (a':=?_) #[true,false,false,false,false,false,false,false,false,false,false,false,false,false,false] rfl rfl (any_of HT_.out (by kernel_rfl)) (fun _ _ _ h=>h) (Or.inl ⟨by rfl,?_⟩) ?_ ?_
       rotate_left
       ·intro w'
        go_simp
        with_reducible rfl
       rotate_left
       ·simp only [Act.put,List.setIfInBounds_toArray,List.set_cons_zero,List.set_cons_succ,i64_w,i32_w]
        rfl
       refine pure_ (i:=2) (N:=some 52) (v:=?_) (a':=?_) #[true,false,true,false,false,false,false,false,false,false,false,false,false,false,false] rfl rfl (any_of HT_.out (by kernel_rfl)) (fun _ _ _ h=>h) (Or.inl ⟨by rfl,?_⟩) ?_ ?_
       rotate_left
       ·intro w'
        go_simp
        with_reducible rfl
       rotate_left
       ·simp only [Act.put,List.setIfInBounds_toArray,List.set_cons_zero,List.set_cons_succ,i64_w,i32_w]
        rfl
       refine pure_ (i:=4) (N:=some 54) (v:=?_) (a':=?_) #[true,false,true,false,true,false,false,false,false,false,false,false,false,false,false] rfl rfl (any_of HT_.out (by kernel_rfl)) (fun _ _ _ h=>h) (Or.inl ⟨by rfl,?_⟩) ?_ ?_
       rotate_left
       ·intro w'
        go_simp
        with_reducible rfl
       rotate_left
       ·simp only [Act.put,List.setIfInBounds_toArray,List.set_cons_zero,List.set_cons_succ,i64_w,i32_w]
        rfl
       refine pure_ (i:=6) (N:=some 56) (v:=?_) (a':=?_) #[true,false,true,false,true,false,true,false,false,false,false,false,false,false,false] rfl rfl (any_of HT_.out (by kernel_rfl)) (fun _ _ _ h=>h) (Or.inl ⟨by rfl,?_⟩) ?_ ?_
       rotate_left
       ·intro w'
        go_simp
        with_reducible rfl
       rotate_left
       ·simp only [Act.put,List.setIfInBounds_toArray,List.set_cons_zero,List.set_cons_succ,i64_w,i32_w]
        rfl
       refine pure_ (i:=8) (N:=some 58) (v:=?_) (a':=?_) #[true,false,true,false,true,false,true,false,true,false,false,false,false,false,false] rfl rfl (any_of HT_.out (by kernel_rfl)) (fun _ _ _ h=>h) (Or.inl ⟨by rfl,?_⟩) ?_ ?_
       rotate_left
       ·intro w'
        go_simp
        with_reducible rfl
       rotate_left
       ·simp only [Act.put,List.setIfInBounds_toArray,List.set_cons_zero,List.set_cons_succ,i64_w,i32_w]
        rfl
       refine pure_ (i:=10) (N:=some 60) (v:=?_) (a':=?_) #[true,false,true,false,true,false,true,false,true,false,true,false,false,false,false] rfl rfl (any_of HT_.out (by kernel_rfl)) (fun _ _ _ h=>h) (Or.inl ⟨by rfl,?_⟩) ?_ ?_
       rotate_left
       ·intro w'
        go_simp
        with_reducible rfl
       rotate_left
       ·simp only [Act.put,List.setIfInBounds_toArray,List.set_cons_zero,List.set_cons_succ,i64_w,i32_w]
        rfl
       refine take_ (i:=1) (N:=some 51) (v:=?_) (a':=?_) #[true,true,true,false,true,false,true,false,true,false,true,false,false,false,false] rfl rfl (take_ofW HT_.out HW_.out (by kernel_rfl)) (fun _ _ _ h=>h) (Or.inl ⟨by rfl,?_⟩) hHeld ?_ ?_
       rotate_left
       ·rintro w' ⟨s0,s1,s2,s3,s4,s5⟩
        go_simp
        with_reducible rfl
       rotate_left
       ·simp only [Act.put,List.setIfInBounds_toArray,List.set_cons_zero,List.set_cons_succ,i64_w,i32_w]
        rfl
       refine take_ (i:=5) (N:=some 55) (v:=?_) (a':=?_) #[true,true,true,false,true,true,true,false,true,false,true,false,false,false,false] rfl rfl (take_ofW HT_.out HW_.out (by kernel_rfl)) (fun _ _ _ h=>h) (Or.inl ⟨by rfl,?_⟩) hHeld ?_ ?_
       rotate_left
       ·rintro w' ⟨s0,s1,s2,s3,s4,s5⟩
        go_simp
        with_reducible rfl
       rotate_left
       ·simp only [Act.put,List.setIfInBounds_toArray,List.set_cons_zero,List.set_cons_succ,i64_w,i32_w]
        rfl
       refine take_ (i:=9) (N:=some 59) (v:=?_) (a':=?_) #[true,true,true,false,true,true,true,false,true,true,true,false,false,false,false] rfl rfl (take_ofW HT_.out HW_.out (by kernel_rfl)) (fun _ _ _ h=>h) (Or.inl ⟨by rfl,?_⟩) hHeld ?_ ?_
       rotate_left
       ·rintro w' ⟨s0,s1,s2,s3,s4,s5⟩
        go_simp
        with_reducible rfl
       rotate_left
       ·simp only [Act.put,List.setIfInBounds_toArray,List.set_cons_zero,List.set_cons_succ,i64_w,i32_w]
        rfl
       refine one_ (i:=3) (N:=some 53) #[true,true,true,true,true,true,true,false,true,true,true,false,false,false,false] rfl rfl (one_of HT_.out (by kernel_rfl)) (by decide) (fun K hK=>?_)
       refine goes_ Try.func12 (by kernel_rfl) rfl #[.slice Ao29 t445.length co29,.string (rdOf ByteArray.empty y462 x10_1)] (by rfl) rfl rfl (by (try simp only [List.map_toArray,List.map_cons,List.map_nil]);first|done|rfl|(simp only [List.length_drop,List.length_take];rfl)) ?_
       with_reducible refine (cadencelaw12_value.calls k1 _ _ t445 (rdOf ByteArray.empty y462 x10_1) t474 _ ?side1 ?side2 A42.out).mono ?_
       (case side1=>repeat (first|exact (Kd.V_reads' HO_460001.out).2.2|(with_reducible refine cA_ ?_ _)|(with_reducible refine cN_ ?_ _)|(with_reducible refine cD_ ?_)))
       (case side2=>exact (Kd.V_reads' HO_460001.out).2.1)
       rintro e w56 ⟨rfl,hb⟩
       refine ⟨_,rfl,?_⟩
       have n0_:=Aside0.mk (Kd.N_below (by (with_reducible repeat (first|apply nA_|apply nN_|apply nD_));exact HO_8.out) hb)
       have n1_:=Aside0.mk (Kd.V_below (by (with_reducible repeat (first|apply vA_|apply vN_|apply vD_));exact HO_460001.out) hb)
       have n2_:=Aside0.mk (Kd.V_below (by (with_reducible repeat (first|apply vA_|apply vN_|apply vD_));exact HO_461001.out) hb)
       have n3_:=Aside0.mk (Kd.V_below (by (with_reducible repeat (first|apply vA_|apply vN_|apply vD_));exact HO_462001.out) hb)
       have n4_:=Aside0.mk (Kd.R_below (by (with_reducible repeat (first|apply rA_|apply rN_|apply rD_));exact HO464.out) hb)
       have n5_:=Aside0.mk (Kd.N_below (by (with_reducible repeat (first|apply nA_|apply nN_|apply nD_));exact HO468.out) hb)
       have n6_:=Aside0.mk (Kd.N_below (by (with_reducible repeat (first|apply nA_|apply nN_|apply nD_));exact HO472.out) hb)
       have n7_:=Aside0.mk (blk_below (g:=gb459) (o:=.cells #[.bool t444,.slice Ao29 t445.length co29] 26 (0,0)) (by (with_reducible repeat (first|refine blk_drewN ?_ _|refine blk_drew ?_|refine blk_alloc ?_ _));exact BK459.out) hb)
       have n8_:=Aside0.mk (blk_below (g:=gb460) (o:=.cells #[.bool t448,.slice Ao32 t449.length co32] 26 (0,0)) (by (with_reducible repeat (first|refine blk_drewN ?_ _|refine blk_drew ?_|refine blk_alloc ?_ _));exact BK460.out) hb)
       have n9_:=Aside0.mk (blk_below (g:=gb461) (o:=.cells #[.bool t452,.slice Ao34 t453.length co34] 26 (0,0)) (by (with_reducible repeat (first|refine blk_drewN ?_ _|refine blk_drew ?_|refine blk_alloc ?_ _));exact BK461.out) hb)
       have n10_:=Aside0.mk (below_step (by repeat (first|(with_reducible first|exact HB.out|apply bA_|apply bN_|apply bD_|refine below_set ?_ GE459.out|refine below_set ?_ GE460.out|refine below_set ?_ GE461.out)|exact HB.out)) hb)
       clear HO_8
       clear HO_460001
       clear HO_461001
       clear HO_462001
       clear HO464
       clear HO468
       clear HO472
       clear BK459
       clear BK460
       clear BK461
       clear HB
       have HO_8:=n0_
       have HO_460001:=n1_
       have HO_461001:=n2_
       have HO_462001:=n3_
       have HO464:=n4_
       have HO468:=n5_
       have HO472:=n6_
       have BK459:=n7_
       have BK460:=n8_
       have BK461:=n9_
       have HB:=n10_
       clear n0_ n1_ n2_ n3_ n4_ n5_ n6_ n7_ n8_ n9_ n10_
       (try clear hb)
       (try clear hb2)
       (try clear hk)
       (try clear hi)
       refine hK.out _ _ ⟨(blk_cell BK459.out 0).trans rfl,(blk_cell BK459.out 1).trans rfl,(blk_cell BK460.out 0).trans rfl,(blk_cell BK460.out 1).trans rfl,(blk_cell BK461.out 0).trans rfl,(blk_cell BK461.out 1).trans rfl⟩ (fun hHeld=>?_)
       clear hK K
       refine norm_ (a':=?_) ?_ ?_
       rotate_left
       ·show Act.put _ (some 53) _=_
        simp only [Act.put,List.setIfInBounds_toArray,List.set_cons_zero,List.set_cons_succ,i64_w,i32_w]
        rfl
       refine one_ (i:=7) (N:=some 57) #[true,true,true,true,true,true,true,true,true,true,true,false,false,false,false] rfl rfl (one_of HT_.out (by kernel_rfl)) (by decide) (fun K hK=>?_)
       refine goes_ Try.func12 (by kernel_rfl) rfl #[.slice Ao32 t449.length co32,.string (rdOf ByteArray.empty y462 x10_1)] (by rfl) rfl rfl (by (try simp only [List.map_toArray,List.map_cons,List.map_nil]);first|done|rfl|(simp only [List.length_drop,List.length_take];rfl)) ?_
       with_reducible refine (cadencelaw12_value.calls k1 _ _ t449 (rdOf ByteArray.empty y462 x10_1) t475 _ ?side1 ?side2 A43.out).mono ?_
       (case side1=>repeat (first|exact (Kd.V_reads' HO_461001.out).2.2|(with_reducible refine cA_ ?_ _)|(with_reducible refine cN_ ?_ _)|(with_reducible refine cD_ ?_)))
       (case side2=>exact (Kd.V_reads' HO_461001.out).2.1)
       rintro e w57 ⟨rfl,hb⟩
       refine ⟨_,rfl,?_⟩
       have n0_:=Aside0.mk (Kd.N_below (by (with_reducible repeat (first|apply nA_|apply nN_|apply nD_));exact HO_8.out) hb)
       have n1_:=Aside0.mk (Kd.V_below (by (with_reducible repeat (first|apply vA_|apply vN_|apply vD_));exact HO_460001.out) hb)
       have n2_:=Aside0.mk (Kd.V_below (by (with_reducible repeat (first|apply vA_|apply vN_|apply vD_));exact HO_461001.out) hb)
       have n3_:=Aside0.mk (Kd.V_below (by (with_reducible repeat (first|apply vA_|apply vN_|apply vD_));exact HO_462001.out) hb)
       have n4_:=Aside0.mk (Kd.R_below (by (with_reducible repeat (first|apply rA_|apply rN_|apply rD_));exact HO464.out) hb)
       have n5_:=Aside0.mk (Kd.N_below (by (with_reducible repeat (first|apply nA_|apply nN_|apply nD_));exact HO468.out) hb)
       have n6_:=Aside0.mk (Kd.N_below (by (with_reducible repeat (first|apply nA_|apply nN_|apply nD_));exact HO472.out) hb)
       have n7_:=Aside0.mk (blk_below (g:=gb459) (o:=.cells #[.bool t444,.slice Ao29 t445.length co29] 26 (0,0)) (by (with_reducible repeat (first|refine blk_drewN ?_ _|refine blk_drew ?_|refine blk_alloc ?_ _));exact BK459.out) hb)
       have n8_:=Aside0.mk (blk_below (g:=gb460) (o:=.cells #[.bool t448,.slice Ao32 t449.length co32] 26 (0,0)) (by (with_reducible repeat (first|refine blk_drewN ?_ _|refine blk_drew ?_|refine blk_alloc ?_ _));exact BK460.out) hb)
       have n9_:=Aside0.mk (blk_below (g:=gb461) (o:=.cells #[.bool t452,.slice Ao34 t453.length co34] 26 (0,0)) (by (with_reducible repeat (first|refine blk_drewN ?_ _|refine blk_drew ?_|refine blk_alloc ?_ _));exact BK461.out) hb)
       have n10_:=Aside0.mk (below_step (by repeat (first|(with_reducible first|exact HB.out|apply bA_|apply bN_|apply bD_|refine below_set ?_ GE459.out|refine below_set ?_ GE460.out|refine below_set ?_ GE461.out)|exact HB.out)) hb)
       clear HO_8
       clear HO_460001
       clear HO_461001
       clear HO_462001
       clear HO464
       clear HO468
       clear HO472
       clear BK459
       clear BK460
       clear BK461
       clear HB
       have HO_8:=n0_
       have HO_460001:=n1_
       have HO_461001:=n2_
       have HO_462001:=n3_
       have HO464:=n4_
       have HO468:=n5_
       have HO472:=n6_
       have BK459:=n7_
       have BK460:=n8_
       have BK461:=n9_
       have HB:=n10_
       clear n0_ n1_ n2_ n3_ n4_ n5_ n6_ n7_ n8_ n9_ n10_
       (try clear hb)
       (try clear hb2)
       (try clear hk)
       (try clear hi)
       refine hK.out _ _ ⟨(blk_cell BK459.out 0).trans rfl,(blk_cell BK459.out 1).trans rfl,(blk_cell BK460.out 0).trans rfl,(blk_cell BK460.out 1).trans rfl,(blk_cell BK461.out 0).trans rfl,(blk_cell BK461.out 1).trans rfl⟩ (fun hHeld=>?_)
       clear hK K
       refine norm_ (a':=?_) ?_ ?_
       rotate_left
       ·show Act.put _ (some 57) _=_
        simp only [Act.put,List.setIfInBounds_toArray,List.set_cons_zero,List.set_cons_succ,i64_w,i32_w]
        rfl
       refine one_ (i:=11) (N:=some 61) #[true,true,true,true,true,true,true,true,true,true,true,true,false,false,false] rfl rfl (one_of HT_.out (by kernel_rfl)) (by decide) (fun K hK=>?_)
       refine goes_ Try.func12 (by kernel_rfl) rfl #[.slice Ao34 t453.length co34,.string (rdOf ByteArray.empty y462 x10_1)] (by rfl) rfl rfl (by (try simp only [List.map_toArray,List.map_cons,List.map_nil]);first|done|rfl|(simp only [List.length_drop,List.length_take];rfl)) ?_
       with_reducible refine (cadencelaw12_value.calls k1 _ _ t453 (rdOf ByteArray.empty y462 x10_1) t476 _ ?side1 ?side2 A44.out).mono ?_
       (case side1=>repeat (first|exact (Kd.V_reads' HO_462001.out).2.2|(with_reducible refine cA_ ?_ _)|(with_reducible refine cN_ ?_ _)|(with_reducible refine cD_ ?_)))
       (case side2=>exact (Kd.V_reads' HO_462001.out).2.1)
       rintro e w58 ⟨rfl,hb⟩
       refine ⟨_,rfl,?_⟩
       have n0_:=Aside0.mk (Kd.N_below (by (with_reducible repeat (first|apply nA_|apply nN_|apply nD_));exact HO_8.out) hb)
       have n1_:=Aside0.mk (Kd.V_below (by (with_reducible repeat (first|apply vA_|apply vN_|apply vD_));exact HO_460001.out) hb)
       have n2_:=Aside0.mk (Kd.V_below (by (with_reducible repeat (first|apply vA_|apply vN_|apply vD_));exact HO_461001.out) hb)
       have n3_:=Aside0.mk (Kd.V_below (by (with_reducible repeat (first|apply vA_|apply vN_|apply vD_));exact HO_462001.out) hb)
       have n4_:=Aside0.mk (Kd.R_below (by (with_reducible repeat (first|apply rA_|apply rN_|apply rD_));exact HO464.out) hb)
       have n5_:=Aside0.mk (Kd.N_below (by (with_reducible repeat (first|apply nA_|apply nN_|apply nD_));exact HO468.out) hb)
       have n6_:=Aside0.mk (Kd.N_below (by (with_reducible repeat (first|apply nA_|apply nN_|apply nD_));exact HO472.out) hb)
       have n7_:=Aside0.mk (blk_below (g:=gb459) (o:=.cells #[.bool t444,.slice Ao29 t445.length co29] 26 (0,0)) (by (with_reducible repeat (first|refine blk_drewN ?_ _|refine blk_drew ?_|refine blk_alloc ?_ _));exact BK459.out) hb)
       have n8_:=Aside0.mk (blk_below (g:=gb460) (o:=.cells #[.bool t448,.slice Ao32 t449.length co32] 26 (0,0)) (by (with_reducible repeat (first|refine blk_drewN ?_ _|refine blk_drew ?_|refine blk_alloc ?_ _));exact BK460.out) hb)
       have n9_:=Aside0.mk (blk_below (g:=gb461) (o:=.cells #[.bool t452,.slice Ao34 t453.length co34] 26 (0,0)) (by (with_reducible repeat (first|refine blk_drewN ?_ _|refine blk_drew ?_|refine blk_alloc ?_ _));exact BK461.out) hb)
       have n10_:=Aside0.mk (below_step (by repeat (first|(with_reducible first|exact HB.out|apply bA_|apply bN_|apply bD_|refine below_set ?_ GE459.out|refine below_set ?_ GE460.out|refine below_set ?_ GE461.out)|exact HB.out)) hb)
       clear HO_8
       clear HO_460001
       clear HO_461001
       clear HO_462001
       clear HO464
       clear HO468
       clear HO472
       clear BK459
       clear BK460
       clear BK461
       clear HB
       have HO_8:=n0_
       have HO_460001:=n1_
       have HO_461001:=n2_
       have HO_462001:=n3_
       have HO464:=n4_
       have HO468:=n5_
       have HO472:=n6_
       have BK459:=n7_
       have BK460:=n8_
       have BK461:=n9_
       have HB:=n10_
       clear n0_ n1_ n2_ n3_ n4_ n5_ n6_ n7_ n8_ n9_ n10_
       (try clear hb)
       (try clear hb2)
       (try clear hk)
       (try clear hi)
       refine hK.out _ _ ⟨(blk_cell BK459.out 0).trans rfl,(blk_cell BK459.out 1).trans rfl,(blk_cell BK460.out 0).trans rfl,(blk_cell BK460.out 1).trans rfl,(blk_cell BK461.out 0).trans rfl,(blk_cell BK461.out 1).trans rfl⟩ (fun hHeld=>?_)
       clear hK K
       refine norm_ (a':=?_) ?_ ?_
       rotate_left
       ·show Act.put _ (some 61) _=_
        simp only [Act.put,List.setIfInBounds_toArray,List.set_cons_zero,List.set_cons_succ,i64_w,i32_w]
        rfl
       refine pure_ (i:=12) (N:=some 14) (v:=?_) (a':=?_) #[true,true,true,true,true,true,true,true,true,true,true,true,true,false,false] rfl rfl (any_of HT_.out (by kernel_rfl)) (fun _ _ _ h=>h) (Or.inl ⟨by rfl,?_⟩) ?_ ?_
       rotate_left
       ·intro w'
        go_simp
        with_reducible rfl
       rotate_left
       ·simp only [Act.put,List.setIfInBounds_toArray,List.set_cons_zero,List.set_cons_succ,i64_w,i32_w]
        rfl
       refine pure_ (i:=13) (N:=some 15) (v:=?_) (a':=?_) #[true,true,true,true,true,true,true,true,true,true,true,true,true,true,false] rfl rfl (any_of HT_.out (by kernel_rfl)) (fun _ _ _ h=>h) (Or.inl ⟨by rfl,?_⟩) ?_ ?_
       rotate_left
       ·intro w'
        go_simp
        with_reducible rfl
       rotate_left
       ·simp only [Act.put,List.setIfInBounds_toArray,List.set_cons_zero,List.set_cons_succ,i64_w,i32_w]
        rfl
       refine pure_ (i:=14) (N:=some 16) (v:=?_) (a':=?_) #[true,true,true,true,true,true,true,true,true,true,true,true,true,true,true] rfl rfl (any_of HT_.out (by kernel_rfl)) (fun _ _ _ h=>h) (Or.inl ⟨by rfl,?_⟩) ?_ ?_
       rotate_left
       ·intro w'
        go_simp
        with_reducible rfl
       rotate_left
       ·simp only [Act.put,List.setIfInBounds_toArray,List.set_cons_zero,List.set_cons_succ,i64_w,i32_w]
        rfl
       refine done_ (done_of HT_.out (by kernel_rfl)) ?_
       go_upto_region 11 with (fail)
       go_cut [72] (fun v72 wc=>∃ (kq:Nat) (x72_44:Bool),v72=.bool x72_44∧Aside0 (cadencelaw12_MergeFirst.j1 kq a0 a1 t456 x9_1 x10_1 t469 t473 t474 t475 t476 x72_44 t444 t445 t448 t449 t452 t453=some r)∧Aside0 (kq≤k1)∧Aside0 (Kd.N k38 38 wc w.heap.size (fun k_=>k_≠gb459∧k_≠gb460∧k_≠gb461) v457 t456)∧Aside0 (Kd.V k51 51 wc w.heap.size (fun k_=>some k_≠(v457:Value).ownBlock∧k_≠gb459∧k_≠gb460∧k_≠gb461) (.slice Ao29 t445.length co29) t445)∧Aside0 (Kd.V k51 51 wc w.heap.size (fun k_=>some k_≠(v457:Value).ownBlock∧k_≠gb459∧k_≠gb460∧k_≠gb461) (.slice Ao32 t449.length co32) t449)∧Aside0 (Kd.V k51 51 wc w.heap.size (fun k_=>some k_≠(v457:Value).ownBlock∧k_≠gb459∧k_≠gb460∧k_≠gb461) (.slice Ao34 t453.length co34) t453)∧Aside0 (wc.heap[gb459]? = some (.cells #[.bool t444,(.slice Ao29 t445.length co29)] 26 (0,0)))∧Aside0 (wc.heap[gb460]? = some (.cells #[.bool t448,(.slice Ao32 t449.length co32)] 26 (0,0)))∧Aside0 (wc.heap[gb461]? = some (.cells #[.bool t452,(.slice Ao34 t453.length co34)] 26 (0,0)))∧Aside0 (Below w.heap.size w wc))
       case first =>
        have H:=HC45.out
        clear HC45
        by_cases c59:t469.toList=([]:List UInt8)
        ·rw [if_pos c59] at H
         have c59b0:(t469.toList == ([]:List UInt8))=true:=beq_iff_eq.mpr c59
         have c59b1:(t469.toList != ([]:List UInt8))=false:=bne_eq_false_iff_eq.mpr c59
         clear c59
         (first|rw [c59b0]|(simp only [i64_w,i32_w];rw [c59b0])|skip)
         have H':=Aside0.mk H
         clear H
         go_wp2
         go_meet
         case rel=>exact ⟨_,(false),(by first|rfl|(simp;done)|(simp [*];done)),H',⟨by have:=HK1.out;first|omega|exact Nat.le_refl _⟩,⟨by (with_reducible repeat (first|apply nA_|apply nN_|apply nD_));exact Kd.N_mono HO_8.out (fun _ hk=>⟨hk.1.1.1.1,⟨hk.1.1.1.2.1,hk.1.1.1.2.2⟩⟩)⟩,⟨by (with_reducible repeat (first|apply vA_|apply vN_|apply vD_));exact Kd.V_mono HO_460001.out (fun _ hk=>⟨hk.1.1.1.1,⟨hk.1.1.1.2.1,⟨hk.1.1.1.2.2.1,hk.1.1.1.2.2.2⟩⟩⟩)⟩,⟨by (with_reducible repeat (first|apply vA_|apply vN_|apply vD_));exact Kd.V_mono HO_461001.out (fun _ hk=>⟨hk.1.1.1.1,⟨hk.1.1.1.2.1,⟨hk.1.1.1.2.2.1,hk.1.1.1.2.2.2⟩⟩⟩)⟩,⟨by (with_reducible repeat (first|apply vA_|apply vN_|apply vD_));exact Kd.V_mono HO_462001.out (fun _ hk=>⟨hk.1.1.1.1,⟨hk.1.1.1.2.1,⟨hk.1.1.1.2.2.1,hk.1.1.1.2.2.2⟩⟩⟩)⟩,⟨by (with_reducible repeat (first|refine blk_drewN ?_ _|refine blk_drew ?_|refine blk_alloc ?_ _));exact BK459.out⟩,⟨by (with_reducible repeat (first|refine blk_drewN ?_ _|refine blk_drew ?_|refine blk_alloc ?_ _));exact BK460.out⟩,⟨by (with_reducible repeat (first|refine blk_drewN ?_ _|refine blk_drew ?_|refine blk_alloc ?_ _));exact BK461.out⟩,⟨by repeat (first|(with_reducible first|exact HB.out|apply bA_|apply bN_|apply bD_|refine below_set ?_ GE459.out|refine below_set ?_ GE460.out|refine below_set ?_ GE461.out)|exact HB.out)⟩⟩
        ·rw [if_neg c59] at H
         have c59b0:(t469.toList == ([]:List UInt8))=false:=beq_eq_false_iff_ne.mpr c59
         have c59b1:(t469.toList != ([]:List UInt8))=true:=bne_iff_ne.mpr c59
         (first|rw [c59b0]|(simp only [i64_w,i32_w];rw [c59b0])|skip)
         by_cases c60:t473.toList=([]:List UInt8)
         ·rw [if_pos c60] at H
          have c60b0:(t473.toList == ([]:List UInt8))=true:=beq_iff_eq.mpr c60
          have c60b1:(t473.toList != ([]:List UInt8))=false:=bne_eq_false_iff_eq.mpr c60
          clear c60
          have H':=Aside0.mk H
          clear H
          go_wp2
          go_meet
          case rel=>exact ⟨_,(false),(by first|rfl|(simp;done)|(simp [*];done)),H',⟨by have:=HK1.out;first|omega|exact Nat.le_refl _⟩,⟨by (with_reducible repeat (first|apply nA_|apply nN_|apply nD_));exact Kd.N_mono HO_8.out (fun _ hk=>⟨hk.1.1.1.1,⟨hk.1.1.1.2.1,hk.1.1.1.2.2⟩⟩)⟩,⟨by (with_reducible repeat (first|apply vA_|apply vN_|apply vD_));exact Kd.V_mono HO_460001.out (fun _ hk=>⟨hk.1.1.1.1,⟨hk.1.1.1.2.1,⟨hk.1.1.1.2.2.1,hk.1.1.1.2.2.2⟩⟩⟩)⟩,⟨by (with_reducible repeat (first|apply vA_|apply vN_|apply vD_));exact Kd.V_mono HO_461001.out (fun _ hk=>⟨hk.1.1.1.1,⟨hk.1.1.1.2.1,⟨hk.1.1.1.2.2.1,hk.1.1.1.2.2.2⟩⟩⟩)⟩,⟨by (with_reducible repeat (first|apply vA_|apply vN_|apply vD_));exact Kd.V_mono HO_462001.out (fun _ hk=>⟨hk.1.1.1.1,⟨hk.1.1.1.2.1,⟨hk.1.1.1.2.2.1,hk.1.1.1.2.2.2⟩⟩⟩)⟩,⟨by (with_reducible repeat (first|refine blk_drewN ?_ _|refine blk_drew ?_|refine blk_alloc ?_ _));exact BK459.out⟩,⟨by (with_reducible repeat (first|refine blk_drewN ?_ _|refine blk_drew ?_|refine blk_alloc ?_ _));exact BK460.out⟩,⟨by (with_reducible repeat (first|refine blk_drewN ?_ _|refine blk_drew ?_|refine blk_alloc ?_ _));exact BK461.out⟩,⟨by repeat (first|(with_reducible first|exact HB.out|apply bA_|apply bN_|apply bD_|refine below_set ?_ GE459.out|refine below_set ?_ GE460.out|refine below_set ?_ GE461.out)|exact HB.out)⟩⟩
         ·rw [if_neg c60] at H
          have c60b0:(t473.toList == ([]:List UInt8))=false:=beq_eq_false_iff_ne.mpr c60
          have c60b1:(t473.toList != ([]:List UInt8))=true:=bne_iff_ne.mpr c60
          have H':=Aside0.mk H
          clear H
          go_wp2
          go_meet
          case rel=>exact ⟨_,((t469.toList != t473.toList)),(by first|rfl|(simp;done)|(simp [*];done)),H',⟨by have:=HK1.out;first|omega|exact Nat.le_refl _⟩,⟨by (with_reducible repeat (first|apply nA_|apply nN_|apply nD_));exact Kd.N_mono HO_8.out (fun _ hk=>⟨hk.1.1.1.1,⟨hk.1.1.1.2.1,hk.1.1.1.2.2⟩⟩)⟩,⟨by (with_reducible repeat (first|apply vA_|apply vN_|apply vD_));exact Kd.V_mono HO_460001.out (fun _ hk=>⟨hk.1.1.1.1,⟨hk.1.1.1.2.1,⟨hk.1.1.1.2.2.1,hk.1.1.1.2.2.2⟩⟩⟩)⟩,⟨by (with_reducible repeat (first|apply vA_|apply vN_|apply vD_));exact Kd.V_mono HO_461001.out (fun _ hk=>⟨hk.1.1.1.1,⟨hk.1.1.1.2.1,⟨hk.1.1.1.2.2.1,hk.1.1.1.2.2.2⟩⟩⟩)⟩,⟨by (with_reducible repeat (first|apply vA_|apply vN_|apply vD_));exact Kd.V_mono HO_462001.out (fun _ hk=>⟨hk.1.1.1.1,⟨hk.1.1.1.2.1,⟨hk.1.1.1.2.2.1,hk.1.1.1.2.2.2⟩⟩⟩)⟩,⟨by (with_reducible repeat (first|refine blk_drewN ?_ _|refine blk_drew ?_|refine blk_alloc ?_ _));exact BK459.out⟩,⟨by (with_reducible repeat (first|refine blk_drewN ?_ _|refine blk_drew ?_|refine blk_alloc ?_ _));exact BK460.out⟩,⟨by (with_reducible repeat (first|refine blk_drewN ?_ _|refine blk_drew ?_|refine blk_alloc ?_ _));exact BK461.out⟩,⟨by repeat (first|(with_reducible first|exact HB.out|apply bA_|apply bN_|apply bD_|refine below_set ?_ GE459.out|refine below_set ?_ GE460.out|refine below_set ?_ GE461.out)|exact HB.out)⟩⟩
       case rest =>
        clear HC45
        try clear c1
        try clear c2
        try clear p2
        try clear c3
        try clear c4
        try clear p4
        try clear q4
        try clear hx4
        try clear c5
        try clear c6
        try clear c7
        try clear c8
        try clear c9
        try clear c10
        try clear c11
        try clear c12
        try clear c26
        try clear c27
        try clear c30
        try clear c35
        try clear c35b0
        try clear c36
        try clear c36b0
        try clear c37
        try clear c37b0
        try clear p46
        try clear q46
        try clear hx46
        try clear c59
        try clear c59b0
        try clear c59b1
        try clear c60
        try clear c60b0
        try clear c60b1
        try clear hcz28_0
        try clear hcz28_1
        try clear hcz31_0
        try clear hcz31_1
        try clear hcz33_0
        try clear hcz33_1
        try clear hfz28_0
        try clear hfz28_1
        try clear hfz31_0
        try clear hfz31_1
        try clear hfz33_0
        try clear hfz33_1
        try clear hx465_0
        try clear p2
        try clear p465
        try clear q465
        obtain ⟨kq,x72_44,rfl,HA,HJ44,HO_8,HO_460001,HO_461001,HO_462001,BK459,BK460,BK461,HB⟩:=hcut
        cases kq with
        | zero=>exact absurd HA.out (by simp [cadencelaw12_MergeFirst.j1])
        | succ kj44 =>
         have H:=HA.out
         clear HA
         simp only [cadencelaw12_MergeFirst.j1] at H
         by_cases c61:x72_44=true
         ·subst c61
          have H1:(if x9_1 ≥ (t456.length:Int) then (none) else (if 0≤x9_1 then (if x9_1 < (t456.length:Int) then (if ((rd_T38 t456 x9_1).f1)=2 then (if t474.toList=([]:List UInt8) then (if t475.toList=t469.toList then (if t476.toList=t473.toList then (cadencelaw12_MergeFirst.l0 kj44 a0 a1 t456 (wrap64 (x9_1+1)) (wrap64 (x10_1+1)) t444 t445 t448 t449 t452 t453) else (none)) else (none)) else (none)) else (none)) else (none)) else (none)))=some r:=by rw [if_pos rfl] at H;exact H
          clear H
          have H:=H1
          clear H1
          by_cases c62:x9_1 ≥ (t456.length:Int)
          ·rw [if_pos c62] at H
           exact absurd H (by simp)
          ·rw [if_neg c62] at H
           have c62b0:decide ((t456.length:Int)≤x9_1)=false:=decide_eq_false c62
           clear c62
           by_cases c63:0≤x9_1
           ·rw [if_pos c63] at H
            have c63b0:decide (0≤x9_1)=true:=decide_eq_true c63
            clear c63
            by_cases c64:x9_1 < (t456.length:Int)
            ·rw [if_pos c64] at H
             have c64b0:decide (x9_1 < (t456.length:Int))=true:=decide_eq_true c64
             clear c64
             by_cases c65:((rd_T38 t456 x9_1).f1)=2
             ·rw [if_pos c65] at H
              have c65b0:(((rd_T38 t456 x9_1).f1) == 2)=true:=beq_iff_eq.mpr c65
              have c65b1:(((rd_T38 t456 x9_1).f1) != 2)=false:=bne_eq_false_iff_eq.mpr c65
              clear c65
              by_cases c66:t474.toList=([]:List UInt8)
              ·rw [if_pos c66] at H
               have c66b0:(t474.toList == ([]:List UInt8))=true:=beq_iff_eq.mpr c66
               have c66b1:(t474.toList != ([]:List UInt8))=false:=bne_eq_false_iff_eq.mpr c66
               clear c66
               by_cases c67:t475.toList=t469.toList
               ·rw [if_pos c67] at H
                have c67b0:(t475.toList == t469.toList)=true:=beq_iff_eq.mpr c67
                have c67b1:(t475.toList != t469.toList)=false:=bne_eq_false_iff_eq.mpr c67
                clear c67
                by_cases c68:t476.toList=t473.toList
                ·rw [if_pos c68] at H
                 have c68b0:(t476.toList == t473.toList)=true:=beq_iff_eq.mpr c68
                 have c68b1:(t476.toList != t473.toList)=false:=bne_eq_false_iff_eq.mpr c68
                 clear c68
                 have H':=Aside0.mk H
                 clear H
                 obtain ⟨Ao69,co69,eo69⟩:=Kd.N_slice HO_8.out
                 subst eo69
                 have p477:0≤(x9_1:Int):=of_decide_eq_true (by first|(with_reducible assumption)|assumption)
                 have q477:x9_1 < (t456.length:Int):=of_decide_eq_true (by first|(with_reducible assumption)|assumption)
                 obtain ⟨ad477,A477_0,c477_0,e477,hx477_0,hx477_1,hl477_0,hi477_0⟩:=at_T38 (Kd.N_reads' HO_8.out).2.2 x9_1 p477 q477
                 cases e477
                 obtain ⟨ce477,hce477,hMe477,hcc477⟩:=Kd.N_get HO_8.out z38 x9_1 p477 (by first|exact q477|exact of_decide_eq_true (by first|(with_reducible assumption)|assumption)|(have e_:=(Kd.N_reads' HO_8.out).1;omega))
                 obtain ⟨ua477_0,uc477_0,rfl,ul477_0,ge477_0⟩:=k38_openF hMe477
                 have hv477_0:=hcc477 0 _ rfl
                 rw [Nat.add_zero] at hv477_0
                 replace hv477_0:=Option.some.inj (hv477_0.symm.trans hx477_0)
                 injection hv477_0 with hva_ hvn_ hvc_
                 rw [hva_] at ge477_0
                 rw [hvc_] at ul477_0
                 have HL477_0:=Aside0.mk (show Kd.V Kd.string 9 _ w.heap.size _ _ ((rd_T38 t456 x9_1).f0) from Kd.V_mk ul477_0 ge477_0)
                 clear hva_ hvn_ hvc_ ge477_0 ul477_0
                 clear hcc477 hce477
                 have HR477_0:=Aside0.mk hi477_0
                 have HC477_0:=Aside0.mk hl477_0
                 clear hi477_0 hl477_0
                 replace p477:=eq_true p477
                 replace q477:=eq_true q477
                 go_wp2
                 go_roundg kj44
                 case measure=>have:=HK1.out;have:=HJ44.out;omega
                 case rel=>exact ⟨(wrap64 (x9_1+1)),(wrap64 (x10_1+1)),(by first|rfl|(simp;done)|(simp [*];done)),(by first|rfl|(simp;done)|(simp [*];done)),H',⟨by have:=HK1.out;have:=HJ44.out;omega⟩,⟨by (with_reducible repeat (first|apply nA_|apply nN_|apply nD_));exact HO_8.out⟩,⟨by (with_reducible repeat (first|apply vA_|apply vN_|apply vD_));exact HO_460001.out⟩,⟨by (with_reducible repeat (first|apply vA_|apply vN_|apply vD_));exact HO_461001.out⟩,⟨by (with_reducible repeat (first|apply vA_|apply vN_|apply vD_));exact HO_462001.out⟩,⟨by (with_reducible repeat (first|refine blk_drewN ?_ _|refine blk_drew ?_|refine blk_alloc ?_ _));exact BK459.out⟩,⟨by (with_reducible repeat (first|refine blk_drewN ?_ _|refine blk_drew ?_|refine blk_alloc ?_ _));exact BK460.out⟩,⟨by (with_reducible repeat (first|refine blk_drewN ?_ _|refine blk_drew ?_|refine blk_alloc ?_ _));exact BK461.out⟩,⟨by repeat (first|(with_reducible first|exact HB.out|apply bA_|apply bN_|apply bD_|refine below_set ?_ GE459.out|refine below_set ?_ GE460.out|refine below_set ?_ GE461.out)|exact HB.out)⟩⟩
                ·rw [if_neg c68] at H
                 exact absurd H (by simp)
               ·rw [if_neg c67] at H
                exact absurd H (by simp)
              ·rw [if_neg c66] at H
               exact absurd H (by simp)
             ·rw [if_neg c65] at H
              exact absurd H (by simp)
            ·rw [if_neg c64] at H
             exact absurd H (by simp)
           ·rw [if_neg c63] at H
            exact absurd H (by simp)
         ·replace c61:=Bool.eq_false_iff.mpr c61
          subst c61
          have H1:(if t469.toList=([]:List UInt8) then (if t474.toList=t473.toList then (if t475.toList=t473.toList then (if t476.toList=t473.toList then (cadencelaw12_MergeFirst.l0 kj44 a0 a1 t456 x9_1 (wrap64 (x10_1+1)) t444 t445 t448 t449 t452 t453) else (none)) else (none)) else (none)) else (if t474.toList=t469.toList then (if t475.toList=t469.toList then (if t476.toList=t469.toList then (cadencelaw12_MergeFirst.l0 kj44 a0 a1 t456 x9_1 (wrap64 (x10_1+1)) t444 t445 t448 t449 t452 t453) else (none)) else (none)) else (none)))=some r:=by rw [if_neg (show ¬ (false=true) by decide)] at H;exact H
          clear H
          have H:=H1
          clear H1
          by_cases c70:t469.toList=([]:List UInt8)
          ·rw [if_pos c70] at H
           have c70b0:(t469.toList == ([]:List UInt8))=true:=beq_iff_eq.mpr c70
           have c70b1:(t469.toList != ([]:List UInt8))=false:=bne_eq_false_iff_eq.mpr c70
           clear c70
           by_cases c71:t474.toList=t473.toList
           ·rw [if_pos c71] at H
            have c71b0:(t474.toList == t473.toList)=true:=beq_iff_eq.mpr c71
            have c71b1:(t474.toList != t473.toList)=false:=bne_eq_false_iff_eq.mpr c71
            clear c71
            by_cases c72:t475.toList=t473.toList
            ·rw [if_pos c72] at H
             have c72b0:(t475.toList == t473.toList)=true:=beq_iff_eq.mpr c72
             have c72b1:(t475.toList != t473.toList)=false:=bne_eq_false_iff_eq.mpr c72
             clear c72
             by_cases c73:t476.toList=t473.toList
             ·rw [if_pos c73] at H
              have c73b0:(t476.toList == t473.toList)=true:=beq_iff_eq.mpr c73
              have c73b1:(t476.toList != t473.toList)=false:=bne_eq_false_iff_eq.mpr c73
              clear c73
              have H':=Aside0.mk H
              clear H
              go_wp2
              go_roundg kj44
              case measure=>have:=HK1.out;have:=HJ44.out;omega
              case rel=>exact ⟨(x9_1),(wrap64 (x10_1+1)),(by first|rfl|(simp;done)|(simp [*];done)),(by first|rfl|(simp;done)|(simp [*];done)),H',⟨by have:=HK1.out;have:=HJ44.out;omega⟩,⟨by (with_reducible repeat (first|apply nA_|apply nN_|apply nD_));exact HO_8.out⟩,⟨by (with_reducible repeat (first|apply vA_|apply vN_|apply vD_));exact HO_460001.out⟩,⟨by (with_reducible repeat (first|apply vA_|apply vN_|apply vD_));exact HO_461001.out⟩,⟨by (with_reducible repeat (first|apply vA_|apply vN_|apply vD_));exact HO_462001.out⟩,⟨by (with_reducible repeat (first|refine blk_drewN ?_ _|refine blk_drew ?_|refine blk_alloc ?_ _));exact BK459.out⟩,⟨by (with_reducible repeat (first|refine blk_drewN ?_ _|refine blk_drew ?_|refine blk_alloc ?_ _));exact BK460.out⟩,⟨by (with_reducible repeat (first|refine blk_drewN ?_ _|refine blk_drew ?_|refine blk_alloc ?_ _));exact BK461.out⟩,⟨by repeat (first|(with_reducible first|exact HB.out|apply bA_|apply bN_|apply bD_|refine below_set ?_ GE459.out|refine below_set ?_ GE460.out|refine below_set ?_ GE461.out)|exact HB.out)⟩⟩
             ·rw [if_neg c73] at H
              exact absurd H (by simp)
            ·rw [if_neg c72] at H
             exact absurd H (by simp)
           ·rw [if_neg c71] at H
            exact absurd H (by simp)
          ·rw [if_neg c70] at H
           have c70b0:(t469.toList == ([]:List UInt8))=false:=beq_eq_false_iff_ne.mpr c70
           have c70b1:(t469.toList != ([]:List UInt8))=true:=bne_iff_ne.mpr c70
           by_cases c74:t474.toList=t469.toList
           ·rw [if_pos c74] at H
            have c74b0:(t474.toList == t469.toList)=true:=beq_iff_eq.mpr c74
            have c74b1:(t474.toList != t469.toList)=false:=bne_eq_false_iff_eq.mpr c74
            clear c74
            by_cases c75:t475.toList=t469.toList
            ·rw [if_pos c75] at H
             have c75b0:(t475.toList == t469.toList)=true:=beq_iff_eq.mpr c75
             have c75b1:(t475.toList != t469.toList)=false:=bne_eq_false_iff_eq.mpr c75
             clear c75
             by_cases c76:t476.toList=t469.toList
             ·rw [if_pos c76] at H
              have c76b0:(t476.toList == t469.toList)=true:=beq_iff_eq.mpr c76
              have c76b1:(t476.toList != t469.toList)=false:=bne_eq_false_iff_eq.mpr c76
              clear c76
              have H':=Aside0.mk H
              clear H
              go_wp2
              go_roundg kj44
              case measure=>have:=HK1.out;have:=HJ44.out;omega
              case rel=>exact ⟨(x9_1),(wrap64 (x10_1+1)),(by first|rfl|(simp;done)|(simp [*];done)),(by first|rfl|(simp;done)|(simp [*];done)),H',⟨by have:=HK1.out;have:=HJ44.out;omega⟩,⟨by (with_reducible repeat (first|apply nA_|apply nN_|apply nD_));exact HO_8.out⟩,⟨by (with_reducible repeat (first|apply vA_|apply vN_|apply vD_));exact HO_460001.out⟩,⟨by (with_reducible repeat (first|apply vA_|apply vN_|apply vD_));exact HO_461001.out⟩,⟨by (with_reducible repeat (first|apply vA_|apply vN_|apply vD_));exact HO_462001.out⟩,⟨by (with_reducible repeat (first|refine blk_drewN ?_ _|refine blk_drew ?_|refine blk_alloc ?_ _));exact BK459.out⟩,⟨by (with_reducible repeat (first|refine blk_drewN ?_ _|refine blk_drew ?_|refine blk_alloc ?_ _));exact BK460.out⟩,⟨by (with_reducible repeat (first|refine blk_drewN ?_ _|refine blk_drew ?_|refine blk_alloc ?_ _));exact BK461.out⟩,⟨by repeat (first|(with_reducible first|exact HB.out|apply bA_|apply bN_|apply bD_|refine below_set ?_ GE459.out|refine below_set ?_ GE460.out|refine below_set ?_ GE461.out)|exact HB.out)⟩⟩
             ·rw [if_neg c76] at H
              exact absurd H (by simp)
            ·rw [if_neg c75] at H
             exact absurd H (by simp)
           ·rw [if_neg c74] at H
            exact absurd H (by simp)
      ·rw [if_neg c37] at H
       exact absurd H (by simp)
     ·rw [if_neg c36] at H
      exact absurd H (by simp)
    ·rw [if_neg c35] at H
     have c35b0:decide (x10_1 < 3)=false:=decide_eq_false c35
     clear c35
     by_cases c77:x9_1=(t456.length:Int)
     ·rw [if_pos c77] at H
      have c77b0:(x9_1 == (t456.length:Int))=true:=beq_iff_eq.mpr c77
      have c77b1:(x9_1 != (t456.length:Int))=false:=bne_eq_false_iff_eq.mpr c77
      clear c77
      by_cases c78:t444=true
      ·subst c78
       have H1:(if t448=true then (some t452) else (none))=some r:=by rw [if_pos rfl] at H;exact H
       clear H
       have H:=H1
       clear H1
       by_cases c79:t448=true
       ·subst c79
        have H1:(some t452)=some r:=by rw [if_pos rfl] at H;exact H
        clear H
        have H:=H1
        clear H1
        obtain rfl:=Option.some.inj H
        obtain ⟨Ao80,co80,eo80⟩:=Kd.N_slice HO_8.out
        subst eo80
        have hnb81:=NB459_460.out
        have hnc81:=NB460_459.out
        have hnb82:=NB459_461.out
        have hnc82:=NB461_459.out
        have hcz83_0:wr.cell? ⟨gb459,0,none⟩=some (.bool true):=(blk_cell BK459.out 0).trans rfl
        have hcz83_1:wr.cell? ⟨gb459,1,none⟩=some (.slice Ao29 t445.length co29):=(blk_cell BK459.out 1).trans rfl
        have hfz83_0:=blk_frozen BK459.out 0
        have hfz83_1:=blk_frozen BK459.out 1
        have hnb84:=NB460_461.out
        have hnc84:=NB461_460.out
        have hcz85_0:wr.cell? ⟨gb460,0,none⟩=some (.bool true):=(blk_cell BK460.out 0).trans rfl
        have hcz85_1:wr.cell? ⟨gb460,1,none⟩=some (.slice Ao32 t449.length co32):=(blk_cell BK460.out 1).trans rfl
        have hfz85_0:=blk_frozen BK460.out 0
        have hfz85_1:=blk_frozen BK460.out 1
        have hcz86_0:wr.cell? ⟨gb461,0,none⟩=some (.bool t452):=(blk_cell BK461.out 0).trans rfl
        have hcz86_1:wr.cell? ⟨gb461,1,none⟩=some (.slice Ao34 t453.length co34):=(blk_cell BK461.out 1).trans rfl
        have hfz86_0:=blk_frozen BK461.out 0
        have hfz86_1:=blk_frozen BK461.out 1
        go_wp2
        go_ret
        exact ⟨by first|rfl|(simp [errW_none,errW_some] <;> rfl)|(simp [*,errW_none,errW_some] <;> rfl),by repeat (first|(with_reducible first|exact HB.out|apply bA_|apply bN_|apply bD_|refine below_set ?_ GE459.out|refine below_set ?_ GE460.out|refine below_set ?_ GE461.out)|exact HB.out)⟩
       ·replace c79:=Bool.eq_false_iff.mpr c79
        subst c79
        have H1:(none)=some r:=by rw [if_neg (show ¬ (false=true) by decide)] at H;exact H
        clear H
        have H:=H1
        clear H1
        exact absurd H (by simp)
      ·replace c78:=Bool.eq_false_iff.mpr c78
       subst c78
       have H1:(none)=some r:=by rw [if_neg (show ¬ (false=true) by decide)] at H;exact H
       clear H
       have H:=H1
       clear H1
       exact absurd H (by simp)
     ·rw [if_neg c77] at H
      exact absurd H (by simp)
 ·replace c4:=Bool.eq_false_iff.mpr c4
  subst c4
  have H1:(none)=some r:=by rw [if_neg (show ¬ (false=true) by decide)] at H;exact H
  clear H
  have H:=H1
  clear H1
  exact absurd H (by simp)
end Go.Proofs.Ytainbaehfdhmbaa.PX
set_option linter.unusedVariables false
set_option linter.unusedSimpArgs false
namespace Go.Proofs.Ytainbaehfdhmbaa.PX
open Go.RowKit Go.Proofs.YtainbaehfdhmbaaW.PrintWords Go.Proofs.YtainbaehfdhmbaaW.PrintLast Go.Proofs.YtainbaehfdhmbaaW.PrintMore Go.Proofs.Ytainbaehfdhmbaa
theorem first_loop {n0 n1 : Int} {a b x y z : Tr} (ha : RowOk a) (hb : RowOk b) (ea : Ev (fun k => cadencelaw12_row.f k n0) a) (eb : Ev (fun k => cadencelaw12_row.f k n1) b)
    (lx : x.length ≤ 1000) (ly : y.length ≤ 1000) (lz : z.length ≤ 1000)
    (hres : ∀ n, (kidO (true, x) n, kidO (true, y) n, kidO (true, z) n) = (resC n (false, []) (kidO (true, a) n) (kidO (true, b) n)).1) :
    ∀ (d i : Nat), i + d = 3 → Ev (fun k => cadencelaw12_MergeFirst.l0 k n0 n1 (NS3.flatMap fun n => (resC n (false, []) (kidO (true, a) n) (kidO (true, b) n)).2) (cntC (fun n => (resC n (false, []) (kidO (true, a) n) (kidO (true, b) n)).2) i : Int) (i : Int) true x true y true z) true := by
  obtain ⟨C, hC⟩ : ∃ C : ByteArray → List Cf, C = fun n => (resC n (false, []) (kidO (true, a) n) (kidO (true, b) n)).2 := ⟨_, rfl⟩
  rw [← hC]
  intro d
  induction d with
  | zero =>
    intro i hi
    have e3 : i = 3 := by omega
    subst e3
    refine Ev.up ?_
    simp only [cadencelaw12_MergeFirst.l0]
    exact Ev.congr (fun k => if_neg (by omega)) (Ev.congr (fun k => if_pos (by rw [cntC_all])) (Ev.congr (fun k => if_pos trivial) (Ev.congr (fun k => if_pos trivial) (Ev.now _))))
  | succ d ih =>
    intro i hi
    have hlt : i < NS3.length := by show i < 3; omega
    have hr : rdOf ByteArray.empty NS3 (i : Int) = NS3[i] := rdOf_nat hlt
    have hw : wrap64 ((i : Int) + 1) = ((i + 1 : Nat) : Int) := wrap_succ (by omega)
    have hN : ((NS3.length : Nat) : Int) = 3 := rfl
    have hcl : cntC C i ≤ i := cntC_le C (fun n => by rw [hC]; exact resC_len ..) i
    have hwc : wrap64 ((cntC C i : Int) + 1) = ((cntC C i + 1 : Nat) : Int) := wrap_succ (by omega)
    have hs := cntC_succ C hlt
    have h0 := ih (i + 1) (by omega)
    have hCn : C NS3[i] = (resC NS3[i] (false, []) (kidO (true, a) NS3[i]) (kidO (true, b) NS3[i])).2 := by rw [hC]
    have hrn := hres NS3[i]
    have ca := ha.cell NS3[i]
    have cb := hb.cell NS3[i]
    have la := ha.ok.length
    have lb := hb.ok.length
    have at_ : ∀ c, C NS3[i] = [c] → cntC C i < (NS3.flatMap C).length ∧ rd_T38 (NS3.flatMap C) (cntC C i : Int) = c := fun c hc => cntC_at C hlt hc
    refine Ev.up ?_
    simp only [cadencelaw12_MergeFirst.l0, Option.bind_some, hr, hw]
    refine Ev.congr (fun k => if_pos (by omega)) (Ev.congr (fun k => if_pos (by omega)) (Ev.congr (fun k => if_pos (by rw [hN]; omega)) ?_))
    refine Ev.bind ea (Ev.bind (value_ev a NS3[i] (by omega)) (Ev.bind eb (Ev.bind (value_ev b NS3[i] (by omega)) (Ev.bind (value_ev x NS3[i] (by omega)) (Ev.bind (value_ev y NS3[i] (by omega)) (Ev.bind (value_ev z NS3[i] (by omega)) ?_))))))
    generalize kidO (true, a) NS3[i] = Q at hCn hrn ca ⊢
    generalize kidO (true, b) NS3[i] = R at hCn hrn cb ⊢
    have hP : valO (false, []) = (⟨#[]⟩ : ByteArray) := rfl
    unfold resC at hCn hrn
    rw [hP] at hCn hrn
    have hE : ∀ s : ByteArray, (⟨#[]⟩ : ByteArray) = s ↔ tl s = [] := fun s => ⟨fun e => by rw [← e]; rfl, fun e => tl_inj (by rw [e]; rfl)⟩
    by_cases h1 : valO Q = valO R
    · rw [if_pos h1] at hCn hrn
      injection hrn with e1 hrn
      injection hrn with e2 e3
      rw [e1, e2, e3, ← h1]
      rw [hs, hCn, List.length_nil, Nat.add_zero] at h0
      have j1 : Ev (fun k => cadencelaw12_MergeFirst.j1 k n0 n1 (NS3.flatMap C) (cntC C i : Int) (i : Int) (valO Q) (valO Q) (valO Q) (valO Q) (valO Q) false true x true y true z) true := by
        refine Ev.up ?_
        simp only [cadencelaw12_MergeFirst.j1, hw]
        refine Ev.congr (fun k => if_neg (by simp)) ?_
        by_cases h4 : (valO Q).toList = []
        · exact Ev.congr (fun k => if_pos h4) (Ev.congr (fun k => if_pos trivial) (Ev.congr (fun k => if_pos trivial) (Ev.congr (fun k => if_pos trivial) h0)))
        · exact Ev.congr (fun k => if_neg h4) (Ev.congr (fun k => if_pos trivial) (Ev.congr (fun k => if_pos trivial) (Ev.congr (fun k => if_pos trivial) h0)))
      by_cases h4 : (valO Q).toList = []
      · exact Ev.congr (fun k => if_pos h4) j1
      · refine Ev.congr (fun k => if_neg h4) (Ev.congr (fun k => if_neg h4) ?_)
        rw [show ((valO Q).toList != (valO Q).toList) = false from by simp]
        exact j1
    rw [if_neg h1] at hCn hrn
    by_cases h2 : tl (valO Q) = []
    · rw [if_pos ((hE _).2 h2)] at hCn hrn
      injection hrn with e1 hrn
      injection hrn with e2 e3
      rw [e1, e2, e3]
      rw [hs, hCn, List.length_nil, Nat.add_zero] at h0
      refine Ev.congr (fun k => if_pos ((toL_nil _).2 h2)) (Ev.up ?_)
      simp only [cadencelaw12_MergeFirst.j1, hw]
      exact Ev.congr (fun k => if_neg (by simp)) (Ev.congr (fun k => if_pos ((toL_nil _).2 h2)) (Ev.congr (fun k => if_pos trivial) (Ev.congr (fun k => if_pos trivial) (Ev.congr (fun k => if_pos trivial) h0))))
    rw [if_neg (fun e => h2 ((hE _).1 e))] at hCn hrn
    refine Ev.congr (fun k => if_neg (fun e => h2 ((toL_nil _).1 e))) ?_
    by_cases h3 : tl (valO R) = []
    · rw [if_pos ((hE _).2 h3)] at hCn hrn
      injection hrn with e1 hrn
      injection hrn with e2 e3
      rw [e1, e2, e3]
      rw [hs, hCn, List.length_nil, Nat.add_zero] at h0
      refine Ev.congr (fun k => if_pos ((toL_nil _).2 h3)) (Ev.up ?_)
      simp only [cadencelaw12_MergeFirst.j1, hw]
      exact Ev.congr (fun k => if_neg (by simp)) (Ev.congr (fun k => if_neg (fun e => h2 ((toL_nil _).1 e))) (Ev.congr (fun k => if_pos trivial) (Ev.congr (fun k => if_pos trivial) (Ev.congr (fun k => if_pos trivial) h0))))
    rw [if_neg (fun e => h3 ((hE _).1 e)), if_neg (fun e => e.elim h2 h3)] at hCn
    rw [if_neg (fun e => h3 ((hE _).1 e))] at hrn
    refine Ev.congr (fun k => if_neg (fun e => h3 ((toL_nil _).1 e))) ?_
    injection hrn with e1 hrn
    injection hrn with e2 e3
    rw [e1, e2, e3]
    obtain ⟨hc1, hc2⟩ := at_ _ hCn
    rw [hs, hCn, List.length_singleton] at h0
    refine Ev.up ?_
    simp only [cadencelaw12_MergeFirst.j1, hw, hwc]
    refine Ev.congr (fun k => if_pos (by rw [bne_iff_ne]; exact fun e => h1 ((toL_iff _ _).1 e))) (Ev.congr (fun k => if_neg (by omega)) (Ev.congr (fun k => if_pos (by omega)) (Ev.congr (fun k => if_pos (by omega)) (Ev.congr (fun k => if_pos (by rw [hc2])) (Ev.congr (fun k => if_pos ((toL_nil _).2 rfl)) (Ev.congr (fun k => if_pos trivial) (Ev.congr (fun k => if_pos trivial) h0)))))))
theorem mergeFirst_ev (n0 n1 : Int) : Ev (fun k => cadencelaw12_MergeFirst.f k n0 n1) true := by
  obtain ⟨a, ha, ea⟩ := row_ev n0
  obtain ⟨b, hb, eb⟩ := row_ev n1
  have hn : RowOk [] := ⟨Ok.nil _ _, fun _ => .inl rfl, fun m hm => by cases hm⟩
  obtain ⟨x, y, z, l, hm, lx, ly, lz, hres, hl⟩ := merge_rows (o := (false, [])) ⟨.inr rfl, hn⟩ ha hb
  have hf := merge_f one_ok ook_none (ook (d := 2) ha.ok (by omega)) (ook (d := 2) hb.ok (by omega)) hm
  simp only at hf
  have lp := first_loop ha hb ea eb lx ly lz hres 3 0 (by omega)
  have hl' : l = NS3.flatMap fun n => (resC n (false, []) (kidO (true, a) n) (kidO (true, b) n)).2 := hl
  rw [← hl'] at lp
  have lp : Ev (fun k => cadencelaw12_MergeFirst.l0 k n0 n1 l 0 0 true x true y true z) true := lp
  unfold cadencelaw12_MergeFirst.f
  simp only [known12, Option.bind_some, one_f, cadencelaw12_some.f]
  refine Ev.congr (fun k => if_pos trivial) (Ev.bind ea (Ev.bind eb ?_))
  simp only [hf, Option.bind_some]
  exact lp
end Go.Proofs.Ytainbaehfdhmbaa.PX
set_option linter.unusedVariables false
set_option linter.unusedSimpArgs false
namespace Go.Proofs.Ytainbaehfdhmbaa.mergeFirst
open Go.ChangeShapes Go.WideShapes Go.ChangeAt Go.RowKit
open Go.ChangeMaps (open_string shut_string)
open Go.Proofs.Ytainbaehfdhmbaa.PX
theorem own : ownKnob Try.prog.godebug = none := by kernel_rfl
theorem laidOut : laidOutB Try.prog = true := by kernel_rfl
set_option maxRecDepth 100000 in
theorem lifted (os : Os) (started : os.Started) (H : Type) (enc : TypeId × Value → H) :
    ReturnsInHanded {} Try.checked os 5 .any (Rows.mergeFirstSpec.pre6 enc Try.prog Try.f5 Rows.mergeFirstRow.domain false) (Rows.mergeFirstSpec.post enc Try.prog Try.f5 false true false false) := by
  refine returnsInHanded_of_change_sized (C := Try.checked) own started (by kernel_rfl) Try.func5
    (ChangeSpec.witness6 (enc := enc) (C := Try.checked) false ⟨#[], #[.int .i64 0, .int .i64 0], []⟩ 8 (by kernel_rfl) (by kernel_rfl) (by kernel_rfl) (by kernel_rfl)) ?_
  intro W base args ds gs before hval0 hW hcnd hsz0 _
  have hsz : (DataW.weightsEach Try.prog (Try.f5.params.toList ++ Rows.mergeFirstSpec.plain.varTypes Try.prog) (ds ++ gs)).all (· ≤ reachBytes) = true := hsz0
  have hval : ∀ (j : Nat) t v, Try.f5.params[j]? = some t → args[j]? = some v → Value.okWide Try.prog W .any base t v := hval0
  have hW' := hW
  obtain ⟨p, q, hA0, hV, rfl, hfz, hnd⟩ := hW
  have hA : DataW.TrodAll enc Try.prog W 0 (fun _ => true) true Try.f5.params.toList args.toList ds p := hA0
  rw [Try.params5] at hA hval hsz
  obtain ⟨v0, vs0, d0, ds0, p0, q0, hargs, rfl, rfl, h0, r0⟩ := trodAll_cons hA
  obtain ⟨v1, vs1, d1, ds1, p1, q1, rfl, rfl, rfl, h1, r1⟩ := trodAll_cons r0
  obtain ⟨rfl, rfl, rfl⟩ := trodAll_nil r1
  obtain rfl : args = #[v0, v1] := by cases args; simp_all
  obtain ⟨rfl, rfl⟩ := trodVars_none hV
  have lt0 : ∀ x ∈ p0, x.block < W.heap.size := by obtain ⟨m, hm⟩ := h0; exact DataW.trod_lt m _ _ _ hm
  have k0 := h0
  have lt1 : ∀ x ∈ p1, x.block < W.heap.size := by obtain ⟨m, hm⟩ := h1; exact DataW.trod_lt m _ _ _ hm
  have k1 := h1
  obtain ⟨x0, rfl, _, _, w0⟩ := open_int Try.underlying3 (hval 0 3 v0 rfl rfl) h0
  obtain ⟨x1, rfl, _, _, w1⟩ := open_int Try.underlying3 (hval 1 3 v1 rfl rfl) h1
  clear hA0 hval0 hsz0 hsz
  obtain ⟨k, hk⟩ := (mergeFirst_ev x0 x1).rounds
  refine (cadencelaw12_MergeFirst.calls k x0 x1 true W hk).mono fun e W' ⟨he, bel⟩ => ?_
  subst he
  exact ⟨_, rfl, _, _, _, [], _, [], hW', trodAll_mk1 (shut_bool Try.underlying4 _), (trodAll_cons_mk (Below.trod laidOut (by kernel_rfl) (of_decide_eq_true (by kernel_rfl)) k0 bel lt0) (trodAll_cons_mk (Below.trod laidOut (by kernel_rfl) (of_decide_eq_true (by kernel_rfl)) k1 bel lt1) trodAll_mk0)), rfl, bel.frame _, fun h => by cases h⟩
theorem over : Rows.mergeFirstRow.holds Try.pinned (OpenSpec.ofChange Rows.mergeFirstSpec) :=
  OpenClaim.holds_of_wide 5 Try.f5 rfl rfl rfl rfl rfl rfl rfl ⟨rfl, rfl, rfl, rfl, rfl⟩ rfl rfl rfl rfl rfl (by kernel_rfl) Try.func5 (by kernel_rfl)
    (of_decide_eq_true (by kernel_rfl)) (by unfold Func.isWrapper; first | (rw [if_pos (by decide +kernel)]; kernel_rfl) | (rw [if_neg (by decide +kernel)]; exact ⟨rfl, rfl⟩))
    (fun os started H enc _ => lifted os started H enc)
theorem proved : Rows.MergeFirstSaid := over
#print axioms proved
end Go.Proofs.Ytainbaehfdhmbaa.mergeFirst
