/- Texts on the way to 'MergeRows', one behind the other (part 5). -/
import Derived.Test.YtainbaehfdhmbaaMMergeRows1
import Derived.Test.YtainbaehfdhmbaaMMergeRows3
import Derived.Test.YtainbaehfdhmbaaMMergeRows4
namespace Go.Proofs.Ytainbaehfdhmbaa.PX
open Go.RowKit Go.Proofs.YtainbaehfdhmbaaW.PrintWords Go.Proofs.YtainbaehfdhmbaaW.PrintLast Go.Proofs.YtainbaehfdhmbaaW.PrintMore
attribute [local go_sem] max2_int min2_int max_two min_two max_three min_three max_four min_four   
set_option linter.unusedVariables false
set_option linter.unusedSimpArgs false
def cadencelaw12_row.l0:Nat→Int→List (S51)→Int→Option ((List (S51)))
 | 0,_,_,_=>none
 | k+1,x0,x3,x4=>if x4 < 3 then ((some (([1,4,16]:List Int):List Int)).bind fun y203=>(if 0≤x4 then (if x4 < (y203.length:Int) then (if (rd y203 x4)=0 then (none) else ((cadencelaw12_within.f (wrap64 (Int.tdiv x0 (rd y203 x4))) 4).bind fun t207=>(if t207 > 0 then ((some (([(⟨#[97]⟩:ByteArray),(⟨#[98]⟩:ByteArray),(⟨#[99]⟩:ByteArray)]:List ByteArray):List ByteArray)).bind fun y208=>(if x4 < (y208.length:Int) then ((cadenceref2_Value.f (strOfNums (([(wrap64 (48+t207)) % 256]:List Int)))).bind fun t215=>((cadenceref2_With.f k x3 (rdOf ByteArray.empty y208 x4) t215).bind fun t218=>(cadencelaw12_row.l0 k x0 t218 (wrap64 (x4+1))))) else (none))) else (cadencelaw12_row.l0 k x0 x3 (wrap64 (x4+1)))))) else (none)) else (none))) else (some x3)
def cadencelaw12_row.f (k:Nat) (a0:Int):Option ((List (S51))):=cadencelaw12_row.l0 k a0 ([]:List (S51)) 0
theorem cadencelaw12_row.mono_l:∀ k,(∀ y0 y1 y2,LeO (cadencelaw12_row.l0 k y0 y1 y2) (cadencelaw12_row.l0 (k+1) y0 y1 y2))
 | 0=>fun _ _ _ r h=>by simp [cadencelaw12_row.l0] at h
 | k+1=>by
  have ih0:=cadencelaw12_row.mono_l k
  ·intro y0 y1 y2
   unfold cadencelaw12_row.l0
   repeat' first
   | (with_reducible exact ih0 _ _ _)
   | (with_reducible exact cadenceref2_With.mono _ _ _ _)
   | (with_reducible exact LeO.refl _)
   | (with_reducible exact LeO.none _)
   | (with_reducible refine LeO.ite ?_ ?_)
   | (with_reducible refine LeO.bind ?_ (fun _=>?_))
   | exact ih0 _ _ _
   | exact cadenceref2_With.mono _ _ _ _
   | exact LeO.none _
   | refine LeO.ite ?_ ?_
   | refine LeO.bind ?_ (fun _=>?_)
theorem cadencelaw12_row.mono:∀ a0 k,LeO (cadencelaw12_row.f k a0) (cadencelaw12_row.f (k+1) a0):=by
 intro a0 k
 have ih0:=cadencelaw12_row.mono_l k
 unfold cadencelaw12_row.f
 repeat' first
   | (with_reducible exact ih0 _ _ _)
   | (with_reducible exact cadenceref2_With.mono _ _ _ _)
   | (with_reducible exact LeO.refl _)
   | (with_reducible exact LeO.none _)
   | (with_reducible refine LeO.ite ?_ ?_)
   | (with_reducible refine LeO.bind ?_ (fun _=>?_))
   | exact ih0 _ _ _
   | exact cadenceref2_With.mono _ _ _ _
   | exact LeO.none _
   | refine LeO.ite ?_ ?_
   | refine LeO.bind ?_ (fun _=>?_)
def cadencelaw12_row.T7:Bool × List (List Nat × List Nat):=(true,[([],[]),([],[]),([],[]),([1,2],[1,2]),([3],[3]),([],[]),([5],[5]),([6],[6]),([7],[7]),([8],[8]),([9],[9]),([0,4,10,10],[0,4,10]),([11,11,0,1,2,3,4,5,6,7,8,9,10,11],[0,11])])
def cadencelaw12_row.B7:List Nat:=[0,0,0,6,14,0,32,96,224,480,992,2047,4095]
theorem cadencelaw12_row.tab7:rtab .any (opsOf Try.f11 7)=cadencelaw12_row.T7:=by kernel_rfl
theorem cadencelaw12_row.bits7:waitsOk cadencelaw12_row.T7.2 cadencelaw12_row.B7=true:=by kernel_rfl
set_option maxHeartbeats 8000000 in
set_option maxRecDepth 100000 in
theorem cadencelaw12_row.calls (k:Nat) (a0:Int) (r:List (S51)) (w:World) (h:cadencelaw12_row.f k a0=some r) :
  Calls Try.prog 11 #[.int .i64 a0] w fun e w'=>∃ v0_:Value,e=.returned (v0_)∧Kd.N k51 51 w' w.heap.size (fun k_=>(w.heap.size≤k_)) v0_ r∧Below w.heap.size w w':=by
 have HB:=Aside0.mk (Below.refl w.heap.size w)
 have H:(cadencelaw12_row.l0 k a0 ([]:List (S51)) 0)=some r:=h
 clear h
 have H':=Aside0.mk H
 clear H
 go_enter Try.func11,Try.ntmps11
 go_wp2
 go_loopg [3,4] k (fun kq v3 v4 w'=>∃ (x3_1:List (S51)) (x4_1:Int),v4=.int .i64 x4_1∧Aside0 (cadencelaw12_row.l0 kq a0 x3_1 x4_1=some r)∧Aside0 (kq≤k)∧Aside0 (Kd.N k51 51 w' w.heap.size (fun k_=>(w.heap.size≤k_)) v3 x3_1)∧Aside0 (Below w.heap.size w w'))
 case atStart=>exact ⟨(([]:List (S51))),(0),(by first|rfl|(simp;done)|(simp [*];done)),H',⟨Nat.le_refl _⟩,⟨by first|exact Kd.R_nil _ _ _ _ _|exact Kd.N_nil _ _ _ _ _|exact Kd.V_nil _ _ _ _ _|exact Kd.Q_nil _ _ _ _ _|exact Kd.S_nil _ _ _ _ _⟩,⟨by repeat (first|(with_reducible first|exact HB.out|apply bA_|apply bN_|apply bD_)|exact HB.out)⟩⟩
 case round =>
  clear H'
  try clear c1
  obtain ⟨x3_1,x4_1,rfl,HA,HK1,HO_3,HB⟩:=hrel
  cases gk with
  | zero=>exact absurd HA.out (by simp [cadencelaw12_row.l0])
  | succ k1 =>
   have H:=HA.out
   clear HA
   simp only [cadencelaw12_row.l0] at H
   by_cases c2:x4_1 < 3
   ·rw [if_pos c2] at H
    have c2b0:decide (x4_1 < 3)=true:=decide_eq_true c2
    clear c2
    obtain ⟨y203,hy203⟩:∃ y_:List Int,y_=(([1,4,16]:List Int)):=⟨_,rfl⟩
    replace H:(if 0≤x4_1 then (if x4_1 < (y203.length:Int) then (if (rd y203 x4_1)=0 then (none) else ((cadencelaw12_within.f (wrap64 (Int.tdiv a0 (rd y203 x4_1))) 4).bind fun t207=>(if t207 > 0 then ((some (([(⟨#[97]⟩:ByteArray),(⟨#[98]⟩:ByteArray),(⟨#[99]⟩:ByteArray)]:List ByteArray):List ByteArray)).bind fun y208=>(if x4_1 < (y208.length:Int) then ((cadenceref2_Value.f (strOfNums (([(wrap64 (48+t207)) % 256]:List Int)))).bind fun t215=>((cadenceref2_With.f k1 x3_1 (rdOf ByteArray.empty y208 x4_1) t215).bind fun t218=>(cadencelaw12_row.l0 k1 a0 t218 (wrap64 (x4_1+1))))) else (none))) else (cadencelaw12_row.l0 k1 a0 x3_1 (wrap64 (x4_1+1)))))) else (none)) else (none))=some r:=by first|(rw [hy203];with_reducible exact H)|(have H2_:=(Option.bind_some _ _).symm.trans H;rw [hy203];with_reducible exact H2_)|(have H2_:=(Option.bind_some _ _).symm.trans H;with_reducible exact H2_)|with_reducible exact H|(rw [hy203];exact H)|exact H
    have Ny203:=Aside0.mk hy203
    clear hy203
    by_cases c3:0≤x4_1
    ·rw [if_pos c3] at H
     have c3b0:decide (0≤x4_1)=true:=decide_eq_true c3
     clear c3
     by_cases c4:x4_1 < (y203.length:Int)
     ·rw [if_pos c4] at H
      have c4b0:decide (x4_1 < (y203.length:Int))=true:=decide_eq_true c4
      clear c4
      by_cases c5:(rd y203 x4_1)=0
      ·rw [if_pos c5] at H
       exact absurd H (by simp)
      ·rw [if_neg c5] at H
       have c5b0:((rd y203 x4_1) == 0)=false:=beq_eq_false_iff_ne.mpr c5
       have c5b1:((rd y203 x4_1) != 0)=true:=bne_iff_ne.mpr c5
       replace H:=Option.bind_eq_some_iff.mp H
       obtain ⟨t207,A60,H⟩:=H
       replace H:(if t207 > 0 then ((some (([(⟨#[97]⟩:ByteArray),(⟨#[98]⟩:ByteArray),(⟨#[99]⟩:ByteArray)]:List ByteArray):List ByteArray)).bind fun y208=>(if x4_1 < (y208.length:Int) then ((cadenceref2_Value.f (strOfNums (([(wrap64 (48+t207)) % 256]:List Int)))).bind fun t215=>((cadenceref2_With.f k1 x3_1 (rdOf ByteArray.empty y208 x4_1) t215).bind fun t218=>(cadencelaw12_row.l0 k1 a0 t218 (wrap64 (x4_1+1))))) else (none))) else (cadencelaw12_row.l0 k1 a0 x3_1 (wrap64 (x4_1+1))))=some r:=H
       have A6:=Aside0.mk A60
       clear A60
       by_cases c7:t207 > 0
       ·rw [if_pos c7] at H
        have c7b0:decide (0 < t207)=true:=decide_eq_true c7
        clear c7
        obtain ⟨y208,hy208⟩:∃ y_:List ByteArray,y_=(([(⟨#[97]⟩:ByteArray),(⟨#[98]⟩:ByteArray),(⟨#[99]⟩:ByteArray)]:List ByteArray)):=⟨_,rfl⟩
        replace H:(if x4_1 < (y208.length:Int) then ((cadenceref2_Value.f (strOfNums (([(wrap64 (48+t207)) % 256]:List Int)))).bind fun t215=>((cadenceref2_With.f k1 x3_1 (rdOf ByteArray.empty y208 x4_1) t215).bind fun t218=>(cadencelaw12_row.l0 k1 a0 t218 (wrap64 (x4_1+1))))) else (none))=some r:=by first|(rw [hy208];with_reducible exact H)|(have H2_:=(Option.bind_some _ _).symm.trans H;rw [hy208];with_reducible exact H2_)|(have H2_:=(Option.bind_some _ _).symm.trans H;with_reducible exact H2_)|with_reducible exact H|(rw [hy208];exact H)|exact H
        have Ny208:=Aside0.mk hy208
        clear hy208
        by_cases c8:x4_1 < (y208.length:Int)
        ·rw [if_pos c8] at H
         have c8b0:decide (x4_1 < (y208.length:Int))=true:=decide_eq_true c8
         clear c8
         obtain ⟨y212,hy212⟩:∃ y_:List Int,y_=(([(wrap64 (48+t207)) % 256]:List Int)):=⟨_,rfl⟩
         replace H:((cadenceref2_Value.f (strOfNums y212)).bind fun t215=>((cadenceref2_With.f k1 x3_1 (rdOf ByteArray.empty y208 x4_1) t215).bind fun t218=>(cadencelaw12_row.l0 k1 a0 t218 (wrap64 (x4_1+1)))))=some r:=by first|(rw [hy212];with_reducible exact H)|(have H2_:=(Option.bind_some _ _).symm.trans H;rw [hy212];with_reducible exact H2_)|(have H2_:=(Option.bind_some _ _).symm.trans H;with_reducible exact H2_)|with_reducible exact H|(rw [hy212];exact H)|exact H
         have Ny212:=Aside0.mk hy212
         clear hy212
         replace H:=Option.bind_eq_some_iff.mp H
         obtain ⟨t215,A90,H⟩:=H
         replace H:((cadenceref2_With.f k1 x3_1 (rdOf ByteArray.empty y208 x4_1) t215).bind fun t218=>(cadencelaw12_row.l0 k1 a0 t218 (wrap64 (x4_1+1))))=some r:=H
         have A9:=Aside0.mk A90
         clear A90
         replace H:=Option.bind_eq_some_iff.mp H
         obtain ⟨t218,A100,H⟩:=H
         replace H:(cadencelaw12_row.l0 k1 a0 t218 (wrap64 (x4_1+1)))=some r:=H
         have A10:=Aside0.mk A100
         clear A100
         have H':=Aside0.mk H
         clear H
         try go_wp2_with (first|((with_reducible refine gate_dst (N:=11) rfl ?_);refine Kd.R_lit (Kd.int .i64) _ 3 ?hg (N:=11) ?hd (xs:=([1,4,16]:List Int)) (inner:=[.int .i64 1,.int .i64 4,.int .i64 16]) (ok:=fun _=>True) (okp:=fun _=>True) ?hr ?hp (fun _ hk=>hk) trivial (Below.refl _ _) (Nat.le_refl _) (by simp) ?_;(case hd=>rfl);(case hg=>rfl);(case hr=>first|(go_simp;done)|(go_simp;rfl));(case hp=>exact (Reps.one (show Kd.M (Kd.int .i64) _ _ _ 1 [.int .i64 1] from rfl) (Reps.one (show Kd.M (Kd.int .i64) _ _ _ 4 [.int .i64 4] from rfl) (Reps.one (show Kd.M (Kd.int .i64) _ _ _ 16 [.int .i64 16] from rfl) (Reps.none _ _)))));intro v204 w11 ho12 hb hg_ hnew_;clear hg_ hnew_;(first|rw [← Ny203.out] at ho12|(simp only [Int.reduceToNat] at ho12;rw [← Ny203.out] at ho12));have n0_:=Aside0.mk (Kd.N_elder' (by (with_reducible repeat (first|apply nA_|apply nN_|apply nD_));exact HO_3.out) (Kd.R_base ho12) hb);have n1_:=Aside0.mk (Kd.R_lower (Kd.R_newM (M:=fun k_=>(w.heap.size≤k_)) ho12 (below_size (by repeat (first|(with_reducible first|exact HB.out|apply bA_|apply bN_|apply bD_)|exact HB.out))) (fun k_ h_=>h_)) (below_size (by repeat (first|(with_reducible first|exact HB.out|apply bA_|apply bN_|apply bD_)|exact HB.out))));have n2_:=Aside0.mk (below_step (by repeat (first|(with_reducible first|exact HB.out|apply bA_|apply bN_|apply bD_)|exact HB.out)) hb);clear HO_3;clear HB;have HO_3:=n0_;have HO205:=n1_;have HB:=n2_;clear n0_ n1_ n2_;clear hb ho12;obtain ⟨Ao13,co13,eo13⟩:=Kd.R_slice HO205.out;subst eo13;have p206:0≤(x4_1:Int):=of_decide_eq_true (by first|(with_reducible assumption)|assumption);have q206:x4_1 < (y203.length:Int):=of_decide_eq_true (by first|(with_reducible assumption)|assumption);obtain ⟨ad206,e206,hx206_0⟩:=Kd.at_int (Kd.R_reads' HO205.out).2.2 x4_1 p206 q206;cases e206;replace p206:=eq_true p206;replace q206:=eq_true q206)|((with_reducible refine gate_callee (f:=15) rfl ?_);refine goesL_ (some 16) rfl rfl Try.func15 (by kernel_rfl) rfl #[.int .i64 (wrap64 (Int.tdiv a0 (rd y203 x4_1))),.int .i64 4] rfl (by (try simp only [List.map_toArray,List.map_cons,List.map_nil]);first|done|rfl|(simp only [List.length_drop,List.length_take];rfl)) ?_;(with_reducible refine (cadencelaw12_within.calls (wrap64 (Int.tdiv a0 (rd y203 x4_1))) 4 t207 _ A6.out).mono ?_);rintro e w' ⟨rfl,⟨nd,rfl⟩⟩;refine ⟨_,rfl,?_⟩;obtain ⟨Ao14,co14,eo14⟩:=Kd.N_slice HO_3.out;subst eo14))
         have pi211:(0≤(x4_1:Int))=True:=eq_true (of_decide_eq_true (by first|(with_reducible assumption)|assumption))
         have qi211:(x4_1 < (y208.length:Int))=True:=eq_true (of_decide_eq_true (by first|(with_reducible assumption)|assumption))
         (try (rw [drewN_self w11];generalize hq_:World.drewN w11 _=w11;have n0_:Aside0 (Kd.R (Kd.int .i64) 3 w11 w.heap.size (fun k_=>(w.heap.size≤k_)) (.slice (some ad206) y203.length co13) y203):=⟨by rw [← hq_];exact (by (with_reducible repeat (first|apply rA_|apply rN_|apply rD_));exact Kd.R_mono HO205.out (fun _ hk=>by first|exact hk.1|exact hk))⟩;have n1_:Aside0 (Kd.N k51 51 w11 w.heap.size (fun k_=>(w.heap.size≤k_)∧some k_≠(.slice (some ad206) y203.length co13:Value).ownBlock) (.slice Ao14 x3_1.length co14) x3_1):=⟨by rw [← hq_];exact (by (with_reducible repeat (first|apply nA_|apply nN_|apply nD_));exact HO_3.out)⟩;have n2_:Aside0 (Below w.heap.size w w11):=⟨by rw [← hq_];exact (by repeat (first|(with_reducible first|exact HB.out|apply bA_|apply bN_|apply bD_)|exact HB.out))⟩;clear HO205 HO_3 HB hq_;have HO205:=n0_;have HO_3:=n1_;have HB:=n2_;clear n0_ n1_ n2_))
         have n0_:=Aside0.mk (nD_ HO_3.out)
         have n1_:=Aside0.mk (rD_ HO205.out)
         have n2_:=Aside0.mk (bD_ HB.out)
         clear HO_3
         clear HO205
         clear HB
         have HO_3:=n0_
         have HO205:=n1_
         have HB:=n2_
         clear n0_ n1_ n2_
         refine start_ (n:=13) (S:=fun w'=>True) (ds:=[]) #[false,false,false,false,false,false,false,false,false,false,false,false,false] (by kernel_rfl) rfl rfl trivial (fun hHeld=>?_);refine with_tabW cadencelaw12_row.tab7 cadencelaw12_row.bits7 (fun HT_ HW_=>?_)
         generalize w11.drew=w15 at HO_3 HO205 HB hHeld ⊢
         refine pure_ (i:=0) (N:=some 19) (v:=?_) (a':=?_) #[true,false,false,false,false,false,false,false,false,false,false,false,false] rfl rfl (any_of HT_.out (by kernel_rfl)) (fun _ _ _ h=>h) (Or.inl ⟨by rfl,?_⟩) ?_ ?_
         rotate_left
         ·intro w'
          go_simp
          with_reducible rfl
         rotate_left
         ·simp only [Act.put,List.setIfInBounds_toArray,List.set_cons_zero,List.set_cons_succ,i64_w,i32_w]
          rfl
         refine pure_ (i:=2) (N:=some 21) (v:=?_) (a':=?_) #[true,false,true,false,false,false,false,false,false,false,false,false,false] rfl rfl (any_of HT_.out (by kernel_rfl)) (fun _ _ _ h=>h) (Or.inl ⟨by rfl,?_⟩) ?_ ?_
         rotate_left
         ·intro w'
          go_simp
          with_reducible rfl
         rotate_left
         ·simp only [Act.put,List.setIfInBounds_toArray,List.set_cons_zero,List.set_cons_succ,i64_w,i32_w]
          rfl
         refine pure_ (i:=5) (N:=some 24) (v:=?_) (a':=?_) #[true,false,true,false,false,true,false,false,false,false,false,false,false] rfl rfl (any_of HT_.out (by kernel_rfl)) (fun _ _ _ h=>h) (Or.inl ⟨by rfl,?_⟩) ?_ ?_
         rotate_left
         ·intro w'
          go_simp
          with_reducible rfl
         rotate_left
         ·simp only [Act.put,List.setIfInBounds_toArray,List.set_cons_zero,List.set_cons_succ,i64_w,i32_w]
          rfl
         refine pure_ (i:=6) (N:=some 25) (v:=?_) (a':=?_) #[true,false,true,false,false,true,true,false,false,false,false,false,false] rfl rfl (any_of HT_.out (by kernel_rfl)) (fun _ _ _ h=>h) (Or.inl ⟨by rfl,?_⟩) ?_ ?_
         rotate_left
         ·intro w'
          go_simp
          with_reducible rfl
         rotate_left
         ·simp only [Act.put,List.setIfInBounds_toArray,List.set_cons_zero,List.set_cons_succ,i64_w,i32_w]
          rfl
         refine pure_ (i:=7) (N:=some 26) (v:=?_) (a':=?_) #[true,false,true,false,false,true,true,true,false,false,false,false,false] rfl rfl (any_of HT_.out (by kernel_rfl)) (fun _ _ _ h=>h) (Or.inl ⟨by rfl,?_⟩) ?_ ?_
         rotate_left
         ·intro w'
          go_simp
          with_reducible rfl
         rotate_left
         ·simp only [Act.put,List.setIfInBounds_toArray,List.set_cons_zero,List.set_cons_succ,i64_w,i32_w]
          rfl
         refine join_ (σ:=Value × Addr × Value × Value) 2 #[true,true,true,true,true,true,true,true,true,true,true,false,false] (fun s_=>[(20,s_.1),(23,.string (rdOf ByteArray.empty y208 x4_1)),(27,s_.2.2.1),(28,.string (strOfNums y212)),(29,s_.2.2.2),(22,.pointer (some (s_.2.1.add (x4_1).toNat)))]) (fun s_ w'=>(Kd.R (Kd.int .i64) 3 w' w.heap.size (fun k_=>(w.heap.size≤k_)) (.slice (some ad206) y203.length co13) y203)∧(Kd.R Kd.string 9 w' w.heap.size (fun k_=>(w.heap.size≤k_)) s_.1 y208)∧(Kd.R (Kd.int .u8) 5 w' w.heap.size (fun k_=>(w.heap.size≤k_)) s_.2.2.1 y212)∧(Kd.N k51 51 w' w.heap.size (fun k_=>(w.heap.size≤k_)∧some k_≠(.slice (some ad206) y203.length co13:Value).ownBlock∧some k_≠(s_.1:Value).ownBlock∧some k_≠(s_.2.2.1:Value).ownBlock∧some k_≠(.slice Ao14 x3_1.length co14:Value).ownBlock) s_.2.2.2 t215)∧(Kd.N k51 51 w' w.heap.size (fun k_=>(w.heap.size≤k_)∧some k_≠(.slice (some ad206) y203.length co13:Value).ownBlock∧some k_≠(s_.1:Value).ownBlock∧some k_≠(s_.2.2.1:Value).ownBlock∧some k_≠(s_.2.2.2:Value).ownBlock) (.slice Ao14 x3_1.length co14) x3_1)∧(∃ c_,(s_.1:Value)=.slice (some s_.2.1) y208.length c_)∧(Below w.heap.size w w')) ?_ ?_
         rotate_left
         ·intro hJ1_4_8_9_10
          refine join_ (σ:=Value × Addr × Value) 3 #[true,true,true,true,true,true,true,true,true,true,false,false,false] (fun s_=>[(20,s_.1),(23,.string (rdOf ByteArray.empty y208 x4_1)),(27,s_.2.2),(28,.string (strOfNums y212)),(22,.pointer (some (s_.2.1.add (x4_1).toNat)))]) (fun s_ w'=>(Kd.R (Kd.int .i64) 3 w' w.heap.size (fun k_=>(w.heap.size≤k_)) (.slice (some ad206) y203.length co13) y203)∧(Kd.R Kd.string 9 w' w.heap.size (fun k_=>(w.heap.size≤k_)) s_.1 y208)∧(Kd.R (Kd.int .u8) 5 w' w.heap.size (fun k_=>(w.heap.size≤k_)) s_.2.2 y212)∧(Kd.N k51 51 w' w.heap.size (fun k_=>(w.heap.size≤k_)∧some k_≠(.slice (some ad206) y203.length co13:Value).ownBlock∧some k_≠(s_.1:Value).ownBlock∧some k_≠(s_.2.2:Value).ownBlock) (.slice Ao14 x3_1.length co14) x3_1)∧(∃ c_,(s_.1:Value)=.slice (some s_.2.1) y208.length c_)∧(Below w.heap.size w w')) ?_ ?_
          rotate_left
          ·intro hJ1_4_8_9
           refine join_ (σ:=Value × Addr × Value × Value) 3 #[true,true,true,true,false,true,true,true,true,true,true,false,false] (fun s_=>[(20,s_.1),(27,s_.2.2.1),(28,.string (strOfNums y212)),(29,s_.2.2.2),(22,.pointer (some (s_.2.1.add (x4_1).toNat)))]) (fun s_ w'=>(Kd.R (Kd.int .i64) 3 w' w.heap.size (fun k_=>(w.heap.size≤k_)) (.slice (some ad206) y203.length co13) y203)∧(Kd.R Kd.string 9 w' w.heap.size (fun k_=>(w.heap.size≤k_)) s_.1 y208)∧(Kd.R (Kd.int .u8) 5 w' w.heap.size (fun k_=>(w.heap.size≤k_)) s_.2.2.1 y212)∧(Kd.N k51 51 w' w.heap.size (fun k_=>(w.heap.size≤k_)∧some k_≠(.slice (some ad206) y203.length co13:Value).ownBlock∧some k_≠(s_.1:Value).ownBlock∧some k_≠(s_.2.2.1:Value).ownBlock∧some k_≠(.slice Ao14 x3_1.length co14:Value).ownBlock) s_.2.2.2 t215)∧(Kd.N k51 51 w' w.heap.size (fun k_=>(w.heap.size≤k_)∧some k_≠(.slice (some ad206) y203.length co13:Value).ownBlock∧some k_≠(s_.1:Value).ownBlock∧some k_≠(s_.2.2.1:Value).ownBlock∧some k_≠(s_.2.2.2:Value).ownBlock) (.slice Ao14 x3_1.length co14) x3_1)∧(∃ c_,(s_.1:Value)=.slice (some s_.2.1) y208.length c_)∧(Below w.heap.size w w')) ?_ ?_
           rotate_left
           ·intro hJ1_8_9_10
            refine join_ (σ:=Value × Addr × Value) 4 #[true,true,true,true,true,true,true,true,true,false,false,false,false] (fun s_=>[(20,s_.1),(23,.string (rdOf ByteArray.empty y208 x4_1)),(27,s_.2.2),(22,.pointer (some (s_.2.1.add (x4_1).toNat)))]) (fun s_ w'=>(Kd.R (Kd.int .i64) 3 w' w.heap.size (fun k_=>(w.heap.size≤k_)) (.slice (some ad206) y203.length co13) y203)∧(Kd.R Kd.string 9 w' w.heap.size (fun k_=>(w.heap.size≤k_)) s_.1 y208)∧(Kd.R (Kd.int .u8) 5 w' w.heap.size (fun k_=>(w.heap.size≤k_)) s_.2.2 y212)∧(Kd.N k51 51 w' w.heap.size (fun k_=>(w.heap.size≤k_)∧some k_≠(.slice (some ad206) y203.length co13:Value).ownBlock∧some k_≠(s_.1:Value).ownBlock∧some k_≠(s_.2.2:Value).ownBlock) (.slice Ao14 x3_1.length co14) x3_1)∧(∃ c_,(s_.1:Value)=.slice (some s_.2.1) y208.length c_)∧(Below w.heap.size w w')) ?_ ?_
            rotate_left
            ·intro hJ1_4_8
             refine join_ (σ:=Value × Addr × Value) 4 #[true,true,true,true,false,true,true,true,true,true,false,false,false] (fun s_=>[(20,s_.1),(27,s_.2.2),(28,.string (strOfNums y212)),(22,.pointer (some (s_.2.1.add (x4_1).toNat)))]) (fun s_ w'=>(Kd.R (Kd.int .i64) 3 w' w.heap.size (fun k_=>(w.heap.size≤k_)) (.slice (some ad206) y203.length co13) y203)∧(Kd.R Kd.string 9 w' w.heap.size (fun k_=>(w.heap.size≤k_)) s_.1 y208)∧(Kd.R (Kd.int .u8) 5 w' w.heap.size (fun k_=>(w.heap.size≤k_)) s_.2.2 y212)∧(Kd.N k51 51 w' w.heap.size (fun k_=>(w.heap.size≤k_)∧some k_≠(.slice (some ad206) y203.length co13:Value).ownBlock∧some k_≠(s_.1:Value).ownBlock∧some k_≠(s_.2.2:Value).ownBlock) (.slice Ao14 x3_1.length co14) x3_1)∧(∃ c_,(s_.1:Value)=.slice (some s_.2.1) y208.length c_)∧(Below w.heap.size w w')) ?_ ?_
             rotate_left
             ·intro hJ1_8_9
              refine join_ (σ:=Value × Value) 5 #[true,false,true,false,false,true,true,true,true,true,true,false,false] (fun s_=>[(27,s_.1),(28,.string (strOfNums y212)),(29,s_.2)]) (fun s_ w'=>(Kd.R (Kd.int .i64) 3 w' w.heap.size (fun k_=>(w.heap.size≤k_)) (.slice (some ad206) y203.length co13) y203)∧(Kd.R (Kd.int .u8) 5 w' w.heap.size (fun k_=>(w.heap.size≤k_)) s_.1 y212)∧(Kd.N k51 51 w' w.heap.size (fun k_=>(w.heap.size≤k_)∧some k_≠(.slice (some ad206) y203.length co13:Value).ownBlock∧some k_≠(s_.1:Value).ownBlock∧some k_≠(.slice Ao14 x3_1.length co14:Value).ownBlock) s_.2 t215)∧(Kd.N k51 51 w' w.heap.size (fun k_=>(w.heap.size≤k_)∧some k_≠(.slice (some ad206) y203.length co13:Value).ownBlock∧some k_≠(s_.1:Value).ownBlock∧some k_≠(s_.2:Value).ownBlock) (.slice Ao14 x3_1.length co14) x3_1)∧(Below w.heap.size w w')) ?_ ?_
              rotate_left
              ·intro hJ8_9_10
               refine join_ (σ:=Value × Addr) 5 #[true,true,true,true,true,true,true,true,false,false,false,false,false] (fun s_=>[(20,s_.1),(23,.string (rdOf ByteArray.empty y208 x4_1)),(22,.pointer (some (s_.2.add (x4_1).toNat)))]) (fun s_ w'=>(Kd.R (Kd.int .i64) 3 w' w.heap.size (fun k_=>(w.heap.size≤k_)) (.slice (some ad206) y203.length co13) y203)∧(Kd.R Kd.string 9 w' w.heap.size (fun k_=>(w.heap.size≤k_)) s_.1 y208)∧(Kd.N k51 51 w' w.heap.size (fun k_=>(w.heap.size≤k_)∧some k_≠(.slice (some ad206) y203.length co13:Value).ownBlock∧some k_≠(s_.1:Value).ownBlock) (.slice Ao14 x3_1.length co14) x3_1)∧(∃ c_,(s_.1:Value)=.slice (some s_.2) y208.length c_)∧(Below w.heap.size w w')) ?_ ?_
               rotate_left
               ·intro hJ1_4
                refine join_ (σ:=Value × Addr × Value) 5 #[true,true,true,true,false,true,true,true,true,false,false,false,false] (fun s_=>[(20,s_.1),(27,s_.2.2),(22,.pointer (some (s_.2.1.add (x4_1).toNat)))]) (fun s_ w'=>(Kd.R (Kd.int .i64) 3 w' w.heap.size (fun k_=>(w.heap.size≤k_)) (.slice (some ad206) y203.length co13) y203)∧(Kd.R Kd.string 9 w' w.heap.size (fun k_=>(w.heap.size≤k_)) s_.1 y208)∧(Kd.R (Kd.int .u8) 5 w' w.heap.size (fun k_=>(w.heap.size≤k_)) s_.2.2 y212)∧(Kd.N k51 51 w' w.heap.size (fun k_=>(w.heap.size≤k_)∧some k_≠(.slice (some ad206) y203.length co13:Value).ownBlock∧some k_≠(s_.1:Value).ownBlock∧some k_≠(s_.2.2:Value).ownBlock) (.slice Ao14 x3_1.length co14) x3_1)∧(∃ c_,(s_.1:Value)=.slice (some s_.2.1) y208.length c_)∧(Below w.heap.size w w')) ?_ ?_
                rotate_left
                ·intro hJ1_8
                 refine join_ (σ:=Value) 6 #[true,false,true,false,false,true,true,true,true,true,false,false,false] (fun s_=>[(27,s_),(28,.string (strOfNums y212))]) (fun s_ w'=>(Kd.R (Kd.int .i64) 3 w' w.heap.size (fun k_=>(w.heap.size≤k_)) (.slice (some ad206) y203.length co13) y203)∧(Kd.R (Kd.int .u8) 5 w' w.heap.size (fun k_=>(w.heap.size≤k_)) s_ y212)∧(Kd.N k51 51 w' w.heap.size (fun k_=>(w.heap.size≤k_)∧some k_≠(.slice (some ad206) y203.length co13:Value).ownBlock∧some k_≠(s_:Value).ownBlock) (.slice Ao14 x3_1.length co14) x3_1)∧(Below w.heap.size w w')) ?_ ?_
                 rotate_left
                 ·intro hJ8_9
                  refine join_ (σ:=Value × Addr) 6 #[true,true,true,true,false,true,true,true,false,false,false,false,false] (fun s_=>[(20,s_.1),(22,.pointer (some (s_.2.add (x4_1).toNat)))]) (fun s_ w'=>(Kd.R (Kd.int .i64) 3 w' w.heap.size (fun k_=>(w.heap.size≤k_)) (.slice (some ad206) y203.length co13) y203)∧(Kd.R Kd.string 9 w' w.heap.size (fun k_=>(w.heap.size≤k_)) s_.1 y208)∧(Kd.N k51 51 w' w.heap.size (fun k_=>(w.heap.size≤k_)∧some k_≠(.slice (some ad206) y203.length co13:Value).ownBlock∧some k_≠(s_.1:Value).ownBlock) (.slice Ao14 x3_1.length co14) x3_1)∧(∃ c_,(s_.1:Value)=.slice (some s_.2) y208.length c_)∧(Below w.heap.size w w')) ?_ ?_
                  rotate_left
                  ·intro hJ1
                   refine join_ (σ:=Value) 7 #[true,false,true,false,false,true,true,true,true,false,false,false,false] (fun s_=>[(27,s_)]) (fun s_ w'=>(Kd.R (Kd.int .i64) 3 w' w.heap.size (fun k_=>(w.heap.size≤k_)) (.slice (some ad206) y203.length co13) y203)∧(Kd.R (Kd.int .u8) 5 w' w.heap.size (fun k_=>(w.heap.size≤k_)) s_ y212)∧(Kd.N k51 51 w' w.heap.size (fun k_=>(w.heap.size≤k_)∧some k_≠(.slice (some ad206) y203.length co13:Value).ownBlock∧some k_≠(s_:Value).ownBlock) (.slice Ao14 x3_1.length co14) x3_1)∧(Below w.heap.size w w')) ?_ ?_
                   rotate_left
                   ·intro hJ8
                    refine two_ (i:=1) (j:=8) (Ni:=some 20) (Nj:=some 27) #[true,true,true,false,false,true,true,true,false,false,false,false,false] #[true,false,true,false,false,true,true,true,true,false,false,false,false] rfl rfl rfl rfl (two_of HT_.out (by kernel_rfl)) (by decide) (by decide) (fun K hK=>?_) (fun K hK=>?_)
                    ·skip
                     refine Kd.R_lit_step Kd.string _ 9 ?hg (N:=20) ?hd (xs:=([(⟨#[97]⟩:ByteArray),(⟨#[98]⟩:ByteArray),(⟨#[99]⟩:ByteArray)]:List ByteArray)) (inner:=[.string (⟨#[97]⟩:ByteArray),.string (⟨#[98]⟩:ByteArray),.string (⟨#[99]⟩:ByteArray)]) (ok:=fun _=>True) (okp:=fun _=>True) ?hr ?hp (fun _ hk=>hk) trivial (Below.refl _ _) (Nat.le_refl _) (by simp) ?_;(case hd=>rfl);(case hg=>rfl);(case hr=>first|(go_simp;done)|(go_simp;rfl));(case hp=>exact (Reps.one (show Kd.M Kd.string _ _ _ (⟨#[97]⟩:ByteArray) [.string (⟨#[97]⟩:ByteArray)] from rfl) (Reps.one (show Kd.M Kd.string _ _ _ (⟨#[98]⟩:ByteArray) [.string (⟨#[98]⟩:ByteArray)] from rfl) (Reps.one (show Kd.M Kd.string _ _ _ (⟨#[99]⟩:ByteArray) [.string (⟨#[99]⟩:ByteArray)] from rfl) (Reps.none _ _)))))
                     intro v209 w16 ho17 hb hg_ hnew_
                     clear hg_ hnew_
                     (first|rw [← Ny208.out] at ho17|(simp only [Int.reduceToNat] at ho17;rw [← Ny208.out] at ho17))
                     have n0_:=Aside0.mk (Kd.N_elder' (by (with_reducible repeat (first|apply nA_|apply nN_|apply nD_));exact HO_3.out) (Kd.R_base ho17) hb)
                     have n1_:=Aside0.mk (Kd.R_below (by (with_reducible repeat (first|apply rA_|apply rN_|apply rD_));exact HO205.out) hb)
                     have n2_:=Aside0.mk (Kd.R_lower (Kd.R_newM (M:=fun k_=>(w.heap.size≤k_)) ho17 (below_size (by repeat (first|(with_reducible first|exact HB.out|apply bA_|apply bN_|apply bD_)|exact HB.out))) (fun k_ h_=>h_)) (below_size (by repeat (first|(with_reducible first|exact HB.out|apply bA_|apply bN_|apply bD_)|exact HB.out))))
                     have n3_:=Aside0.mk (below_step (by repeat (first|(with_reducible first|exact HB.out|apply bA_|apply bN_|apply bD_)|exact HB.out)) hb)
                     clear HO_3
                     clear HO205
                     clear HB
                     have HO_3:=n0_
                     have HO205:=n1_
                     have HO210:=n2_
                     have HB:=n3_
                     clear n0_ n1_ n2_ n3_
                     clear hb ho17
                     obtain ⟨Ao18,co18,eo18⟩:=Kd.R_slice HO210.out
                     subst eo18
                     obtain ⟨ado18,fo18,_⟩:=Kd.at_string (Kd.R_reads' HO210.out).2.2 0 (by decide) (by rw [Ny208.out];simp)
                     cases fo18
                     refine hK.out _ _ trivial (fun hHeld=>?_)
                     clear hK K
                     refine norm_ (a':=?_) ?_ ?_
                     rotate_left
                     ·show Act.put _ (some 20) _=_
                      simp only [Act.put,List.setIfInBounds_toArray,List.set_cons_zero,List.set_cons_succ,i64_w,i32_w]
                      rfl
                     refine pure_ (i:=3) (N:=some 22) (v:=?_) (a':=?_) #[true,true,true,true,false,true,true,true,false,false,false,false,false] rfl rfl (any_of HT_.out (by kernel_rfl)) (fun _ _ _ h=>h) (Or.inl ⟨by rfl,?_⟩) ?_ ?_
                     rotate_left
                     ·intro w'
                      go_simp
                      with_reducible rfl
                     rotate_left
                     ·simp only [Act.put,List.setIfInBounds_toArray,List.set_cons_zero,List.set_cons_succ,i64_w,i32_w]
                      rfl
                     exact norm_ (by first|(simp only [putAll,Act.put,List.setIfInBounds_toArray,List.set_cons_zero,List.set_cons_succ];done)|(simp only [putAll,Act.put,List.setIfInBounds_toArray,List.set_cons_zero,List.set_cons_succ];rfl)) (hJ1 (.slice (some ado18) y208.length co18,ado18) _ ⟨(by (with_reducible repeat (first|apply rA_|apply rN_|apply rD_));exact Kd.R_mono HO205.out (fun _ hk=>by first|exact hk.1|exact hk)),(by (with_reducible repeat (first|apply rA_|apply rN_|apply rD_));exact Kd.R_mono HO210.out (fun _ hk=>by first|exact hk.1|exact hk)),(by (with_reducible repeat (first|apply nA_|apply nN_|apply nD_));exact Kd.N_mono HO_3.out (fun _ hk=>⟨hk.1.1,⟨hk.1.2,hk.2⟩⟩)),⟨_,rfl⟩,(by repeat (first|(with_reducible first|exact HB.out|apply bA_|apply bN_|apply bD_)|exact HB.out))⟩)
                    ·skip
                     refine Kd.R_lit_step (Kd.int .u8) _ 5 ?hg (N:=27) ?hd (xs:=([(wrap64 (48+t207)) % 256]:List Int)) (inner:=[.int .u8 ((wrap64 (48+t207)) % 256)]) (ok:=fun _=>True) (okp:=fun _=>True) ?hr ?hp (fun _ hk=>hk) trivial (Below.refl _ _) (Nat.le_refl _) (by simp) ?_;(case hd=>rfl);(case hg=>rfl);(case hr=>first|(go_simp;done)|(go_simp;rfl));(case hp=>exact (Reps.one (show Kd.M (Kd.int .u8) _ _ _ ((wrap64 (48+t207)) % 256) [.int .u8 ((wrap64 (48+t207)) % 256)] from rfl) (Reps.none _ _)))
                     intro v213 w16 ho17 hb hg_ hnew_
                     clear hg_ hnew_
                     (first|rw [← Ny212.out] at ho17|(simp only [Int.reduceToNat] at ho17;rw [← Ny212.out] at ho17))
                     have n0_:=Aside0.mk (Kd.N_elder' (by (with_reducible repeat (first|apply nA_|apply nN_|apply nD_));exact HO_3.out) (Kd.R_base ho17) hb)
                     have n1_:=Aside0.mk (Kd.R_below (by (with_reducible repeat (first|apply rA_|apply rN_|apply rD_));exact HO205.out) hb)
                     have n2_:=Aside0.mk (Kd.R_lower (Kd.R_newM (M:=fun k_=>(w.heap.size≤k_)) ho17 (below_size (by repeat (first|(with_reducible first|exact HB.out|apply bA_|apply bN_|apply bD_)|exact HB.out))) (fun k_ h_=>h_)) (below_size (by repeat (first|(with_reducible first|exact HB.out|apply bA_|apply bN_|apply bD_)|exact HB.out))))
                     have n3_:=Aside0.mk (below_step (by repeat (first|(with_reducible first|exact HB.out|apply bA_|apply bN_|apply bD_)|exact HB.out)) hb)
                     clear HO_3
                     clear HO205
                     clear HB
                     have HO_3:=n0_
                     have HO205:=n1_
                     have HO214:=n2_
                     have HB:=n3_
                     clear n0_ n1_ n2_ n3_
                     clear hb ho17
                     refine hK.out _ _ trivial (fun hHeld=>?_)
                     clear hK K
                     refine norm_ (a':=?_) ?_ ?_
                     rotate_left
                     ·show Act.put _ (some 27) _=_
                      simp only [Act.put,List.setIfInBounds_toArray,List.set_cons_zero,List.set_cons_succ,i64_w,i32_w]
                      rfl
                     exact norm_ (by first|(simp only [putAll,Act.put,List.setIfInBounds_toArray,List.set_cons_zero,List.set_cons_succ];done)|(simp only [putAll,Act.put,List.setIfInBounds_toArray,List.set_cons_zero,List.set_cons_succ];rfl)) (hJ8 (v213) _ ⟨(by (with_reducible repeat (first|apply rA_|apply rN_|apply rD_));exact Kd.R_mono HO205.out (fun _ hk=>by first|exact hk.1|exact hk)),(by (with_reducible repeat (first|apply rA_|apply rN_|apply rD_));exact Kd.R_mono HO214.out (fun _ hk=>by first|exact hk.1|exact hk)),(by (with_reducible repeat (first|apply nA_|apply nN_|apply nD_));exact Kd.N_mono HO_3.out (fun _ hk=>⟨hk.1.1,⟨hk.1.2,hk.2⟩⟩)),(by repeat (first|(with_reducible first|exact HB.out|apply bA_|apply bN_|apply bD_)|exact HB.out))⟩)
                   ·skip
                    rintro v213 w18 ⟨h0_,h1_,h2_,h3_⟩
                    have n0_:Aside0 (Kd.R (Kd.int .i64) 3 w18 w.heap.size (fun k_=>(w.heap.size≤k_)) (.slice (some ad206) y203.length co13) y203):=⟨h0_⟩
                    have n1_:Aside0 (Kd.R (Kd.int .u8) 5 w18 w.heap.size (fun k_=>(w.heap.size≤k_)) v213 y212):=⟨h1_⟩
                    have n2_:Aside0 (Kd.N k51 51 w18 w.heap.size (fun k_=>(w.heap.size≤k_)∧some k_≠(.slice (some ad206) y203.length co13:Value).ownBlock∧some k_≠(v213:Value).ownBlock) (.slice Ao14 x3_1.length co14) x3_1):=⟨h2_⟩
                    have n3_:Aside0 (Below w.heap.size w w18):=⟨h3_⟩
                    clear HO_3
                    clear HO205
                    clear HB
                    clear h0_ h1_ h2_ h3_
                    have HO205:=n0_
                    have HO214:=n1_
                    have HO_3:=n2_
                    have HB:=n3_
                    clear n0_ n1_ n2_ n3_
                    have hHeld:=trivial
                    refine norm_ (a':=?_) ?_ ?_
                    rotate_left
                    ·simp only [putAll,Act.put,List.setIfInBounds_toArray,List.set_cons_zero,List.set_cons_succ]
                     rfl
                    refine two_ (i:=1) (j:=9) (Ni:=some 20) (Nj:=some 28) #[true,true,true,false,false,true,true,true,true,false,false,false,false] #[true,false,true,false,false,true,true,true,true,true,false,false,false] rfl rfl rfl rfl (two_of HT_.out (by kernel_rfl)) (by decide) (by decide) (fun K hK=>?_) (fun K hK=>?_)
                    ·skip
                     refine Kd.R_lit_step Kd.string _ 9 ?hg (N:=20) ?hd (xs:=([(⟨#[97]⟩:ByteArray),(⟨#[98]⟩:ByteArray),(⟨#[99]⟩:ByteArray)]:List ByteArray)) (inner:=[.string (⟨#[97]⟩:ByteArray),.string (⟨#[98]⟩:ByteArray),.string (⟨#[99]⟩:ByteArray)]) (ok:=fun _=>True) (okp:=fun _=>True) ?hr ?hp (fun _ hk=>hk) trivial (Below.refl _ _) (Nat.le_refl _) (by simp) ?_;(case hd=>rfl);(case hg=>rfl);(case hr=>first|(go_simp;done)|(go_simp;rfl));(case hp=>exact (Reps.one (show Kd.M Kd.string _ _ _ (⟨#[97]⟩:ByteArray) [.string (⟨#[97]⟩:ByteArray)] from rfl) (Reps.one (show Kd.M Kd.string _ _ _ (⟨#[98]⟩:ByteArray) [.string (⟨#[98]⟩:ByteArray)] from rfl) (Reps.one (show Kd.M Kd.string _ _ _ (⟨#[99]⟩:ByteArray) [.string (⟨#[99]⟩:ByteArray)] from rfl) (Reps.none _ _)))))
                     intro v209 w19 ho20 hb hg_ hnew_
                     clear hg_ hnew_
                     (first|rw [← Ny208.out] at ho20|(simp only [Int.reduceToNat] at ho20;rw [← Ny208.out] at ho20))
                     have n0_:=Aside0.mk (Kd.N_elder' (by (with_reducible repeat (first|apply nA_|apply nN_|apply nD_));exact HO_3.out) (Kd.R_base ho20) hb)
                     have n1_:=Aside0.mk (Kd.R_below (by (with_reducible repeat (first|apply rA_|apply rN_|apply rD_));exact HO205.out) hb)
                     have n2_:=Aside0.mk (Kd.R_below (by (with_reducible repeat (first|apply rA_|apply rN_|apply rD_));exact HO214.out) hb)
                     have n3_:=Aside0.mk (Kd.R_lower (Kd.R_newM (M:=fun k_=>(w.heap.size≤k_)) ho20 (below_size (by repeat (first|(with_reducible first|exact HB.out|apply bA_|apply bN_|apply bD_)|exact HB.out))) (fun k_ h_=>h_)) (below_size (by repeat (first|(with_reducible first|exact HB.out|apply bA_|apply bN_|apply bD_)|exact HB.out))))
                     have n4_:=Aside0.mk (below_step (by repeat (first|(with_reducible first|exact HB.out|apply bA_|apply bN_|apply bD_)|exact HB.out)) hb)
                     clear HO_3
                     clear HO205
                     clear HO214
                     clear HB
                     have HO_3:=n0_
                     have HO205:=n1_
                     have HO214:=n2_
                     have HO210:=n3_
                     have HB:=n4_
                     clear n0_ n1_ n2_ n3_ n4_
                     clear hb ho20
                     obtain ⟨Ao21,co21,eo21⟩:=Kd.R_slice HO210.out
                     subst eo21
                     obtain ⟨ado21,fo21,_⟩:=Kd.at_string (Kd.R_reads' HO210.out).2.2 0 (by decide) (by rw [Ny208.out];simp)
                     cases fo21
                     refine hK.out _ _ trivial (fun hHeld=>?_)
                     clear hK K
                     refine norm_ (a':=?_) ?_ ?_
                     rotate_left
                     ·show Act.put _ (some 20) _=_
                      simp only [Act.put,List.setIfInBounds_toArray,List.set_cons_zero,List.set_cons_succ,i64_w,i32_w]
                      rfl
                     refine pure_ (i:=3) (N:=some 22) (v:=?_) (a':=?_) #[true,true,true,true,false,true,true,true,true,false,false,false,false] rfl rfl (any_of HT_.out (by kernel_rfl)) (fun _ _ _ h=>h) (Or.inl ⟨by rfl,?_⟩) ?_ ?_
                     rotate_left
                     ·intro w'
                      go_simp
                      with_reducible rfl
                     rotate_left
                     ·simp only [Act.put,List.setIfInBounds_toArray,List.set_cons_zero,List.set_cons_succ,i64_w,i32_w]
                      rfl
                     exact norm_ (by first|(simp only [putAll,Act.put,List.setIfInBounds_toArray,List.set_cons_zero,List.set_cons_succ];done)|(simp only [putAll,Act.put,List.setIfInBounds_toArray,List.set_cons_zero,List.set_cons_succ];rfl)) (hJ1_8 (.slice (some ado21) y208.length co21,ado21,v213) _ ⟨(by (with_reducible repeat (first|apply rA_|apply rN_|apply rD_));exact HO205.out),(by (with_reducible repeat (first|apply rA_|apply rN_|apply rD_));exact Kd.R_mono HO210.out (fun _ hk=>by first|exact hk.1|exact hk)),(by (with_reducible repeat (first|apply rA_|apply rN_|apply rD_));exact HO214.out),(by (with_reducible repeat (first|apply nA_|apply nN_|apply nD_));exact Kd.N_mono HO_3.out (fun _ hk=>⟨hk.1.1,⟨hk.1.2.1,⟨hk.2,hk.1.2.2⟩⟩⟩)),⟨_,rfl⟩,(by repeat (first|(with_reducible first|exact HB.out|apply bA_|apply bN_|apply bD_)|exact HB.out))⟩)
                    ·skip
                     have hcv19:=own_string (P:=Try.prog) Try.underlying68 Try.underlying5 Try.underlying9 (Kd.own_of_R HO214.out)
                     refine value_ (w1:=?_) (v:=?_) (by rfl) rfl ?_ ?_
                     rotate_left 2
                     ·go_simp
                      constructor
                      ·rfl
                      ·rfl
                     clear hcv19
                     refine hK.out _ _ trivial (fun hHeld=>?_)
                     clear hK K
                     refine norm_ (a':=?_) ?_ ?_
                     rotate_left
                     ·show Act.put _ (some 28) _=_
                      simp only [Act.put,List.setIfInBounds_toArray,List.set_cons_zero,List.set_cons_succ,i64_w,i32_w]
                      rfl
                     exact norm_ (by first|(simp only [putAll,Act.put,List.setIfInBounds_toArray,List.set_cons_zero,List.set_cons_succ];done)|(simp only [putAll,Act.put,List.setIfInBounds_toArray,List.set_cons_zero,List.set_cons_succ];rfl)) (hJ8_9 (v213) _ ⟨(by (with_reducible repeat (first|apply rA_|apply rN_|apply rD_));exact HO205.out),(by (with_reducible repeat (first|apply rA_|apply rN_|apply rD_));exact HO214.out),(by (with_reducible repeat (first|apply nA_|apply nN_|apply nD_));exact HO_3.out),(by repeat (first|(with_reducible first|exact HB.out|apply bA_|apply bN_|apply bD_)|exact HB.out))⟩)
                  ·skip
                   rintro ⟨v209,adz_v209⟩ w19 ⟨h0_,h1_,h2_,h3_,h4_⟩
                   have n0_:Aside0 (Kd.R (Kd.int .i64) 3 w19 w.heap.size (fun k_=>(w.heap.size≤k_)) (.slice (some ad206) y203.length co13) y203):=⟨h0_⟩
                   have n1_:Aside0 (Kd.R Kd.string 9 w19 w.heap.size (fun k_=>(w.heap.size≤k_)) v209 y208):=⟨h1_⟩
                   have n2_:Aside0 (Kd.N k51 51 w19 w.heap.size (fun k_=>(w.heap.size≤k_)∧some k_≠(.slice (some ad206) y203.length co13:Value).ownBlock∧some k_≠(v209:Value).ownBlock) (.slice Ao14 x3_1.length co14) x3_1):=⟨h2_⟩
                   have n3_:Aside0 (∃ c_,(v209:Value)=.slice (some adz_v209) y208.length c_):=⟨h3_⟩
                   have n4_:Aside0 (Below w.heap.size w w19):=⟨h4_⟩
                   clear HO_3
                   clear HO205
                   clear HB
                   clear h0_ h1_ h2_ h3_ h4_
                   have HO205:=n0_
                   have HO210:=n1_
                   have HO_3:=n2_
                   have HA_HO210:=n3_
                   have HB:=n4_
                   clear n0_ n1_ n2_ n3_ n4_
                   have hHeld:=trivial
                   obtain ⟨co20,eo20⟩:=HA_HO210.out
                   clear HA_HO210
                   subst eo20
                   refine norm_ (a':=?_) ?_ ?_
                   rotate_left
                   ·simp only [putAll,Act.put,List.setIfInBounds_toArray,List.set_cons_zero,List.set_cons_succ]
                    rfl
                   refine two_ (i:=4) (j:=8) (Ni:=some 23) (Nj:=some 27) #[true,true,true,true,true,true,true,true,false,false,false,false,false] #[true,true,true,true,false,true,true,true,true,false,false,false,false] rfl rfl rfl rfl (two_of HT_.out (by kernel_rfl)) (by decide) (by decide) (fun K hK=>?_) (fun K hK=>?_)
                   ·skip
                    (have p211:0≤(x4_1:Int):=of_decide_eq_true (by first|(with_reducible assumption)|assumption);have q211:x4_1 < (y208.length:Int):=of_decide_eq_true (by first|(with_reducible assumption)|assumption);obtain ⟨ad211,e211,hx211_0⟩:=Kd.at_string (Kd.R_reads' HO210.out).2.2 x4_1 p211 q211;obtain rfl:adz_v209=ad211:=(by injection e211))
                    refine value_ (w1:=?_) (v:=?_) (by rfl) rfl ?_ ?_
                    rotate_left 2
                    ·go_simp
                     constructor
                     ·rfl
                     ·rfl
                    clear hx211_0
                    refine hK.out _ _ trivial (fun hHeld=>?_)
                    clear hK K
                    refine norm_ (a':=?_) ?_ ?_
                    rotate_left
                    ·show Act.put _ (some 23) _=_
                     simp only [Act.put,List.setIfInBounds_toArray,List.set_cons_zero,List.set_cons_succ,i64_w,i32_w]
                     rfl
                    exact norm_ (by first|(simp only [putAll,Act.put,List.setIfInBounds_toArray,List.set_cons_zero,List.set_cons_succ];done)|(simp only [putAll,Act.put,List.setIfInBounds_toArray,List.set_cons_zero,List.set_cons_succ];rfl)) (hJ1_4 (.slice (some adz_v209) y208.length co20,adz_v209) _ ⟨(by (with_reducible repeat (first|apply rA_|apply rN_|apply rD_));exact HO205.out),(by (with_reducible repeat (first|apply rA_|apply rN_|apply rD_));exact HO210.out),(by (with_reducible repeat (first|apply nA_|apply nN_|apply nD_));exact HO_3.out),⟨_,rfl⟩,(by repeat (first|(with_reducible first|exact HB.out|apply bA_|apply bN_|apply bD_)|exact HB.out))⟩)
                   ·skip
                    refine Kd.R_lit_step (Kd.int .u8) _ 5 ?hg (N:=27) ?hd (xs:=([(wrap64 (48+t207)) % 256]:List Int)) (inner:=[.int .u8 ((wrap64 (48+t207)) % 256)]) (ok:=fun _=>True) (okp:=fun _=>True) ?hr ?hp (fun _ hk=>hk) trivial (Below.refl _ _) (Nat.le_refl _) (by simp) ?_;(case hd=>rfl);(case hg=>rfl);(case hr=>first|(go_simp;done)|(go_simp;rfl));(case hp=>exact (Reps.one (show Kd.M (Kd.int .u8) _ _ _ ((wrap64 (48+t207)) % 256) [.int .u8 ((wrap64 (48+t207)) % 256)] from rfl) (Reps.none _ _)))
                    intro v213 w21 ho22 hb hg_ hnew_
                    clear hg_ hnew_
                    (first|rw [← Ny212.out] at ho22|(simp only [Int.reduceToNat] at ho22;rw [← Ny212.out] at ho22))
                    have n0_:=Aside0.mk (Kd.N_elder' (by (with_reducible repeat (first|apply nA_|apply nN_|apply nD_));exact HO_3.out) (Kd.R_base ho22) hb)
                    have n1_:=Aside0.mk (Kd.R_below (by (with_reducible repeat (first|apply rA_|apply rN_|apply rD_));exact HO205.out) hb)
                    have n2_:=Aside0.mk (Kd.R_below (by (with_reducible repeat (first|apply rA_|apply rN_|apply rD_));exact HO210.out) hb)
                    have n3_:=Aside0.mk (Kd.R_lower (Kd.R_newM (M:=fun k_=>(w.heap.size≤k_)) ho22 (below_size (by repeat (first|(with_reducible first|exact HB.out|apply bA_|apply bN_|apply bD_)|exact HB.out))) (fun k_ h_=>h_)) (below_size (by repeat (first|(with_reducible first|exact HB.out|apply bA_|apply bN_|apply bD_)|exact HB.out))))
                    have n4_:=Aside0.mk (below_step (by repeat (first|(with_reducible first|exact HB.out|apply bA_|apply bN_|apply bD_)|exact HB.out)) hb)
                    clear HO_3
                    clear HO205
                    clear HO210
                    clear HB
                    have HO_3:=n0_
                    have HO205:=n1_
                    have HO210:=n2_
                    have HO214:=n3_
                    have HB:=n4_
                    clear n0_ n1_ n2_ n3_ n4_
                    clear hb ho22
                    refine hK.out _ _ trivial (fun hHeld=>?_)
                    clear hK K
                    refine norm_ (a':=?_) ?_ ?_
                    rotate_left
                    ·show Act.put _ (some 27) _=_
                     simp only [Act.put,List.setIfInBounds_toArray,List.set_cons_zero,List.set_cons_succ,i64_w,i32_w]
                     rfl
                    exact norm_ (by first|(simp only [putAll,Act.put,List.setIfInBounds_toArray,List.set_cons_zero,List.set_cons_succ];done)|(simp only [putAll,Act.put,List.setIfInBounds_toArray,List.set_cons_zero,List.set_cons_succ];rfl)) (hJ1_8 (.slice (some adz_v209) y208.length co20,adz_v209,v213) _ ⟨(by (with_reducible repeat (first|apply rA_|apply rN_|apply rD_));exact HO205.out),(by (with_reducible repeat (first|apply rA_|apply rN_|apply rD_));exact HO210.out),(by (with_reducible repeat (first|apply rA_|apply rN_|apply rD_));exact Kd.R_mono HO214.out (fun _ hk=>by first|exact hk.1|exact hk)),(by (with_reducible repeat (first|apply nA_|apply nN_|apply nD_));exact Kd.N_mono HO_3.out (fun _ hk=>⟨hk.1.1,⟨hk.1.2.1,⟨hk.1.2.2,hk.2⟩⟩⟩)),⟨_,rfl⟩,(by repeat (first|(with_reducible first|exact HB.out|apply bA_|apply bN_|apply bD_)|exact HB.out))⟩)
                 ·skip
                  rintro v213 w19 ⟨h0_,h1_,h2_,h3_⟩
                  have n0_:Aside0 (Kd.R (Kd.int .i64) 3 w19 w.heap.size (fun k_=>(w.heap.size≤k_)) (.slice (some ad206) y203.length co13) y203):=⟨h0_⟩
                  have n1_:Aside0 (Kd.R (Kd.int .u8) 5 w19 w.heap.size (fun k_=>(w.heap.size≤k_)) v213 y212):=⟨h1_⟩
                  have n2_:Aside0 (Kd.N k51 51 w19 w.heap.size (fun k_=>(w.heap.size≤k_)∧some k_≠(.slice (some ad206) y203.length co13:Value).ownBlock∧some k_≠(v213:Value).ownBlock) (.slice Ao14 x3_1.length co14) x3_1):=⟨h2_⟩
                  have n3_:Aside0 (Below w.heap.size w w19):=⟨h3_⟩
                  clear HO_3
                  clear HO205
                  clear HB
                  clear h0_ h1_ h2_ h3_
                  have HO205:=n0_
                  have HO214:=n1_
                  have HO_3:=n2_
                  have HB:=n3_
                  clear n0_ n1_ n2_ n3_
                  have hHeld:=trivial
                  refine norm_ (a':=?_) ?_ ?_
                  rotate_left
                  ·simp only [putAll,Act.put,List.setIfInBounds_toArray,List.set_cons_zero,List.set_cons_succ]
                   rfl
                  refine two_ (i:=1) (j:=10) (Ni:=some 20) (Nj:=some 29) #[true,true,true,false,false,true,true,true,true,true,false,false,false] #[true,false,true,false,false,true,true,true,true,true,true,false,false] rfl rfl rfl rfl (two_of HT_.out (by kernel_rfl)) (by decide) (by decide) (fun K hK=>?_) (fun K hK=>?_)
                  ·skip
                   refine Kd.R_lit_step Kd.string _ 9 ?hg (N:=20) ?hd (xs:=([(⟨#[97]⟩:ByteArray),(⟨#[98]⟩:ByteArray),(⟨#[99]⟩:ByteArray)]:List ByteArray)) (inner:=[.string (⟨#[97]⟩:ByteArray),.string (⟨#[98]⟩:ByteArray),.string (⟨#[99]⟩:ByteArray)]) (ok:=fun _=>True) (okp:=fun _=>True) ?hr ?hp (fun _ hk=>hk) trivial (Below.refl _ _) (Nat.le_refl _) (by simp) ?_;(case hd=>rfl);(case hg=>rfl);(case hr=>first|(go_simp;done)|(go_simp;rfl));(case hp=>exact (Reps.one (show Kd.M Kd.string _ _ _ (⟨#[97]⟩:ByteArray) [.string (⟨#[97]⟩:ByteArray)] from rfl) (Reps.one (show Kd.M Kd.string _ _ _ (⟨#[98]⟩:ByteArray) [.string (⟨#[98]⟩:ByteArray)] from rfl) (Reps.one (show Kd.M Kd.string _ _ _ (⟨#[99]⟩:ByteArray) [.string (⟨#[99]⟩:ByteArray)] from rfl) (Reps.none _ _)))))
                   intro v209 w20 ho21 hb hg_ hnew_
                   clear hg_ hnew_
                   (first|rw [← Ny208.out] at ho21|(simp only [Int.reduceToNat] at ho21;rw [← Ny208.out] at ho21))
                   have n0_:=Aside0.mk (Kd.N_elder' (by (with_reducible repeat (first|apply nA_|apply nN_|apply nD_));exact HO_3.out) (Kd.R_base ho21) hb)
                   have n1_:=Aside0.mk (Kd.R_below (by (with_reducible repeat (first|apply rA_|apply rN_|apply rD_));exact HO205.out) hb)
                   have n2_:=Aside0.mk (Kd.R_below (by (with_reducible repeat (first|apply rA_|apply rN_|apply rD_));exact HO214.out) hb)
                   have n3_:=Aside0.mk (Kd.R_lower (Kd.R_newM (M:=fun k_=>(w.heap.size≤k_)) ho21 (below_size (by repeat (first|(with_reducible first|exact HB.out|apply bA_|apply bN_|apply bD_)|exact HB.out))) (fun k_ h_=>h_)) (below_size (by repeat (first|(with_reducible first|exact HB.out|apply bA_|apply bN_|apply bD_)|exact HB.out))))
                   have n4_:=Aside0.mk (below_step (by repeat (first|(with_reducible first|exact HB.out|apply bA_|apply bN_|apply bD_)|exact HB.out)) hb)
                   clear HO_3
                   clear HO205
                   clear HO214
                   clear HB
                   have HO_3:=n0_
                   have HO205:=n1_
                   have HO214:=n2_
                   have HO210:=n3_
                   have HB:=n4_
                   clear n0_ n1_ n2_ n3_ n4_
                   clear hb ho21
                   obtain ⟨Ao22,co22,eo22⟩:=Kd.R_slice HO210.out
                   subst eo22
                   obtain ⟨ado22,fo22,_⟩:=Kd.at_string (Kd.R_reads' HO210.out).2.2 0 (by decide) (by rw [Ny208.out];simp)
                   cases fo22
                   refine hK.out _ _ trivial (fun hHeld=>?_)
                   clear hK K
                   refine norm_ (a':=?_) ?_ ?_
                   rotate_left
                   ·show Act.put _ (some 20) _=_
                    simp only [Act.put,List.setIfInBounds_toArray,List.set_cons_zero,List.set_cons_succ,i64_w,i32_w]
                    rfl
                   refine pure_ (i:=3) (N:=some 22) (v:=?_) (a':=?_) #[true,true,true,true,false,true,true,true,true,true,false,false,false] rfl rfl (any_of HT_.out (by kernel_rfl)) (fun _ _ _ h=>h) (Or.inl ⟨by rfl,?_⟩) ?_ ?_
                   rotate_left
                   ·intro w'
                    go_simp
                    with_reducible rfl
                   rotate_left
                   ·simp only [Act.put,List.setIfInBounds_toArray,List.set_cons_zero,List.set_cons_succ,i64_w,i32_w]
                    rfl
                   exact norm_ (by first|(simp only [putAll,Act.put,List.setIfInBounds_toArray,List.set_cons_zero,List.set_cons_succ];done)|(simp only [putAll,Act.put,List.setIfInBounds_toArray,List.set_cons_zero,List.set_cons_succ];rfl)) (hJ1_8_9 (.slice (some ado22) y208.length co22,ado22,v213) _ ⟨(by (with_reducible repeat (first|apply rA_|apply rN_|apply rD_));exact HO205.out),(by (with_reducible repeat (first|apply rA_|apply rN_|apply rD_));exact Kd.R_mono HO210.out (fun _ hk=>by first|exact hk.1|exact hk)),(by (with_reducible repeat (first|apply rA_|apply rN_|apply rD_));exact HO214.out),(by (with_reducible repeat (first|apply nA_|apply nN_|apply nD_));exact Kd.N_mono HO_3.out (fun _ hk=>⟨hk.1.1,⟨hk.1.2.1,⟨hk.2,hk.1.2.2⟩⟩⟩)),⟨_,rfl⟩,(by repeat (first|(with_reducible first|exact HB.out|apply bA_|apply bN_|apply bD_)|exact HB.out))⟩)
                  ·skip
                   refine goes_ Try.func20 (by kernel_rfl) rfl #[.string (strOfNums y212)] (by rfl) rfl rfl (by (try simp only [List.map_toArray,List.map_cons,List.map_nil]);first|done|rfl|(simp only [List.length_drop,List.length_take];rfl)) ?_
                   with_reducible refine (cadenceref2_Value.calls (strOfNums y212) t215 _ A9.out).mono ?_
                   rintro e w20 ⟨v216,rfl,ho0,hb⟩
                   refine ⟨_,rfl,?_⟩
                   have n0_:=Aside0.mk (Kd.N_elder' (by (with_reducible repeat (first|apply nA_|apply nN_|apply nD_));exact HO_3.out) (by first|exact Kd.N_base ho0|exact Kd.R_base ho0) hb)
                   have n1_:=Aside0.mk (Kd.R_below (by (with_reducible repeat (first|apply rA_|apply rN_|apply rD_));exact HO205.out) hb)
                   have n2_:=Aside0.mk (Kd.R_below (by (with_reducible repeat (first|apply rA_|apply rN_|apply rD_));exact HO214.out) hb)
                   have n3_:=Aside0.mk (Kd.N_lower (Kd.N_mono (ok':=fun k_=>(w.heap.size≤k_)∧some k_≠(.slice Ao14 x3_1.length co14:Value).ownBlock∧some k_≠(.slice (some ad206) y203.length co13:Value).ownBlock∧some k_≠(v213:Value).ownBlock) (Kd.R_N (Kd.R_bound ho0)) (fun k_ hk_=>⟨(Nat.le_trans (below_size (by repeat (first|(with_reducible first|exact HB.out|apply bA_|apply bN_|apply bD_)|exact HB.out))) hk_.2.1),(Kd.fresh' (Kd.N_lt (by (with_reducible repeat (first|apply nA_|apply nN_|apply nD_));exact HO_3.out)) k_ hk_.2.1),(Kd.fresh' (Kd.R_lt (by (with_reducible repeat (first|apply rA_|apply rN_|apply rD_));exact HO205.out)) k_ hk_.2.1),(Kd.fresh' (Kd.R_lt (by (with_reducible repeat (first|apply rA_|apply rN_|apply rD_));exact HO214.out)) k_ hk_.2.1)⟩)) (below_size (by repeat (first|(with_reducible first|exact HB.out|apply bA_|apply bN_|apply bD_)|exact HB.out))))
                   have n4_:=Aside0.mk (below_step (by repeat (first|(with_reducible first|exact HB.out|apply bA_|apply bN_|apply bD_)|exact HB.out)) hb)
                   clear HO_3
                   clear HO205
                   clear HO214
                   clear HB
                   have HO_3:=n0_
                   have HO205:=n1_
                   have HO214:=n2_
                   have HO217:=n3_
                   have HB:=n4_
                   clear n0_ n1_ n2_ n3_ n4_
                   (try clear hb)
                   (try clear hb2)
                   (try clear hk)
                   (try clear hi)
                   (try clear ho0)
                   refine hK.out _ _ trivial (fun hHeld=>?_)
                   clear hK K
                   refine norm_ (a':=?_) ?_ ?_
                   rotate_left
                   ·show Act.put _ (some 29) _=_
                    simp only [Act.put,List.setIfInBounds_toArray,List.set_cons_zero,List.set_cons_succ,i64_w,i32_w]
                    rfl
                   exact norm_ (by first|(simp only [putAll,Act.put,List.setIfInBounds_toArray,List.set_cons_zero,List.set_cons_succ];done)|(simp only [putAll,Act.put,List.setIfInBounds_toArray,List.set_cons_zero,List.set_cons_succ];rfl)) (hJ8_9_10 (v213,v216) _ ⟨(by (with_reducible repeat (first|apply rA_|apply rN_|apply rD_));exact HO205.out),(by (with_reducible repeat (first|apply rA_|apply rN_|apply rD_));exact HO214.out),(by (with_reducible repeat (first|apply nA_|apply nN_|apply nD_));exact Kd.N_mono HO217.out (fun _ hk=>⟨hk.1,⟨hk.2.2.1,⟨hk.2.2.2,hk.2.1⟩⟩⟩)),(by (with_reducible repeat (first|apply nA_|apply nN_|apply nD_));exact Kd.N_mono HO_3.out (fun _ hk=>⟨hk.1.1,⟨hk.1.2.1,⟨hk.1.2.2,hk.2⟩⟩⟩)),(by repeat (first|(with_reducible first|exact HB.out|apply bA_|apply bN_|apply bD_)|exact HB.out))⟩)
                ·skip
                 rintro ⟨v209,adz_v209,v213⟩ w21 ⟨h0_,h1_,h2_,h3_,h4_,h5_⟩
                 have n0_:Aside0 (Kd.R (Kd.int .i64) 3 w21 w.heap.size (fun k_=>(w.heap.size≤k_)) (.slice (some ad206) y203.length co13) y203):=⟨h0_⟩
                 have n1_:Aside0 (Kd.R Kd.string 9 w21 w.heap.size (fun k_=>(w.heap.size≤k_)) v209 y208):=⟨h1_⟩
                 have n2_:Aside0 (Kd.R (Kd.int .u8) 5 w21 w.heap.size (fun k_=>(w.heap.size≤k_)) v213 y212):=⟨h2_⟩
                 have n3_:Aside0 (Kd.N k51 51 w21 w.heap.size (fun k_=>(w.heap.size≤k_)∧some k_≠(.slice (some ad206) y203.length co13:Value).ownBlock∧some k_≠(v209:Value).ownBlock∧some k_≠(v213:Value).ownBlock) (.slice Ao14 x3_1.length co14) x3_1):=⟨h3_⟩
                 have n4_:Aside0 (∃ c_,(v209:Value)=.slice (some adz_v209) y208.length c_):=⟨h4_⟩
                 have n5_:Aside0 (Below w.heap.size w w21):=⟨h5_⟩
                 clear HO_3
                 clear HO205
                 clear HB
                 clear h0_ h1_ h2_ h3_ h4_ h5_
                 have HO205:=n0_
                 have HO210:=n1_
                 have HO214:=n2_
                 have HO_3:=n3_
                 have HA_HO210:=n4_
                 have HB:=n5_
                 clear n0_ n1_ n2_ n3_ n4_ n5_
                 have hHeld:=trivial
                 obtain ⟨co22,eo22⟩:=HA_HO210.out
                 clear HA_HO210
                 subst eo22
                 refine norm_ (a':=?_) ?_ ?_
                 rotate_left
                 ·simp only [putAll,Act.put,List.setIfInBounds_toArray,List.set_cons_zero,List.set_cons_succ]
                  rfl
                 refine two_ (i:=4) (j:=9) (Ni:=some 23) (Nj:=some 28) #[true,true,true,true,true,true,true,true,true,false,false,false,false] #[true,true,true,true,false,true,true,true,true,true,false,false,false] rfl rfl rfl rfl (two_of HT_.out (by kernel_rfl)) (by decide) (by decide) (fun K hK=>?_) (fun K hK=>?_)
                 ·skip
                  (have p211:0≤(x4_1:Int):=of_decide_eq_true (by first|(with_reducible assumption)|assumption);have q211:x4_1 < (y208.length:Int):=of_decide_eq_true (by first|(with_reducible assumption)|assumption);obtain ⟨ad211,e211,hx211_0⟩:=Kd.at_string (Kd.R_reads' HO210.out).2.2 x4_1 p211 q211;obtain rfl:adz_v209=ad211:=(by injection e211))
                  refine value_ (w1:=?_) (v:=?_) (by rfl) rfl ?_ ?_
                  rotate_left 2
                  ·go_simp
                   constructor
                   ·rfl
                   ·rfl
                  clear hx211_0
                  refine hK.out _ _ trivial (fun hHeld=>?_)
                  clear hK K
                  refine norm_ (a':=?_) ?_ ?_
                  rotate_left
                  ·show Act.put _ (some 23) _=_
                   simp only [Act.put,List.setIfInBounds_toArray,List.set_cons_zero,List.set_cons_succ,i64_w,i32_w]
                   rfl
                  exact norm_ (by first|(simp only [putAll,Act.put,List.setIfInBounds_toArray,List.set_cons_zero,List.set_cons_succ];done)|(simp only [putAll,Act.put,List.setIfInBounds_toArray,List.set_cons_zero,List.set_cons_succ];rfl)) (hJ1_4_8 (.slice (some adz_v209) y208.length co22,adz_v209,v213) _ ⟨(by (with_reducible repeat (first|apply rA_|apply rN_|apply rD_));exact HO205.out),(by (with_reducible repeat (first|apply rA_|apply rN_|apply rD_));exact HO210.out),(by (with_reducible repeat (first|apply rA_|apply rN_|apply rD_));exact HO214.out),(by (with_reducible repeat (first|apply nA_|apply nN_|apply nD_));exact HO_3.out),⟨_,rfl⟩,(by repeat (first|(with_reducible first|exact HB.out|apply bA_|apply bN_|apply bD_)|exact HB.out))⟩)
                 ·skip
                  have hcv23:=own_string (P:=Try.prog) Try.underlying68 Try.underlying5 Try.underlying9 (Kd.own_of_R HO214.out)
                  refine value_ (w1:=?_) (v:=?_) (by rfl) rfl ?_ ?_
                  rotate_left 2
                  ·go_simp
                   constructor
                   ·rfl
                   ·rfl
                  clear hcv23
                  refine hK.out _ _ trivial (fun hHeld=>?_)
                  clear hK K
                  refine norm_ (a':=?_) ?_ ?_
                  rotate_left
                  ·show Act.put _ (some 28) _=_
                   simp only [Act.put,List.setIfInBounds_toArray,List.set_cons_zero,List.set_cons_succ,i64_w,i32_w]
                   rfl
                  exact norm_ (by first|(simp only [putAll,Act.put,List.setIfInBounds_toArray,List.set_cons_zero,List.set_cons_succ];done)|(simp only [putAll,Act.put,List.setIfInBounds_toArray,List.set_cons_zero,List.set_cons_succ];rfl)) (hJ1_8_9 (.slice (some adz_v209) y208.length co22,adz_v209,v213) _ ⟨(by (with_reducible repeat (first|apply rA_|apply rN_|apply rD_));exact HO205.out),(by (with_reducible repeat (first|apply rA_|apply rN_|apply rD_));exact HO210.out),(by (with_reducible repeat (first|apply rA_|apply rN_|apply rD_));exact HO214.out),(by (with_reducible repeat (first|apply nA_|apply nN_|apply nD_));exact HO_3.out),⟨_,rfl⟩,(by repeat (first|(with_reducible first|exact HB.out|apply bA_|apply bN_|apply bD_)|exact HB.out))⟩)
               ·skip
                rintro ⟨v209,adz_v209⟩ w19 ⟨h0_,h1_,h2_,h3_,h4_⟩
                have n0_:Aside0 (Kd.R (Kd.int .i64) 3 w19 w.heap.size (fun k_=>(w.heap.size≤k_)) (.slice (some ad206) y203.length co13) y203):=⟨h0_⟩
                have n1_:Aside0 (Kd.R Kd.string 9 w19 w.heap.size (fun k_=>(w.heap.size≤k_)) v209 y208):=⟨h1_⟩
                have n2_:Aside0 (Kd.N k51 51 w19 w.heap.size (fun k_=>(w.heap.size≤k_)∧some k_≠(.slice (some ad206) y203.length co13:Value).ownBlock∧some k_≠(v209:Value).ownBlock) (.slice Ao14 x3_1.length co14) x3_1):=⟨h2_⟩
                have n3_:Aside0 (∃ c_,(v209:Value)=.slice (some adz_v209) y208.length c_):=⟨h3_⟩
                have n4_:Aside0 (Below w.heap.size w w19):=⟨h4_⟩
                clear HO_3
                clear HO205
                clear HB
                clear h0_ h1_ h2_ h3_ h4_
                have HO205:=n0_
                have HO210:=n1_
                have HO_3:=n2_
                have HA_HO210:=n3_
                have HB:=n4_
                clear n0_ n1_ n2_ n3_ n4_
                have hHeld:=trivial
                obtain ⟨co20,eo20⟩:=HA_HO210.out
                clear HA_HO210
                subst eo20
                refine norm_ (a':=?_) ?_ ?_
                rotate_left
                ·simp only [putAll,Act.put,List.setIfInBounds_toArray,List.set_cons_zero,List.set_cons_succ]
                 rfl
                refine one_ (i:=8) (N:=some 27) #[true,true,true,true,true,true,true,true,true,false,false,false,false] rfl rfl (one_of HT_.out (by kernel_rfl)) (by decide) (fun K hK=>?_)
                refine Kd.R_lit_step (Kd.int .u8) _ 5 ?hg (N:=27) ?hd (xs:=([(wrap64 (48+t207)) % 256]:List Int)) (inner:=[.int .u8 ((wrap64 (48+t207)) % 256)]) (ok:=fun _=>True) (okp:=fun _=>True) ?hr ?hp (fun _ hk=>hk) trivial (Below.refl _ _) (Nat.le_refl _) (by simp) ?_;(case hd=>rfl);(case hg=>rfl);(case hr=>first|(go_simp;done)|(go_simp;rfl));(case hp=>exact (Reps.one (show Kd.M (Kd.int .u8) _ _ _ ((wrap64 (48+t207)) % 256) [.int .u8 ((wrap64 (48+t207)) % 256)] from rfl) (Reps.none _ _)))
                intro v213 w21 ho22 hb hg_ hnew_
                clear hg_ hnew_
                (first|rw [← Ny212.out] at ho22|(simp only [Int.reduceToNat] at ho22;rw [← Ny212.out] at ho22))
                have n0_:=Aside0.mk (Kd.N_elder' (by (with_reducible repeat (first|apply nA_|apply nN_|apply nD_));exact HO_3.out) (Kd.R_base ho22) hb)
                have n1_:=Aside0.mk (Kd.R_below (by (with_reducible repeat (first|apply rA_|apply rN_|apply rD_));exact HO205.out) hb)
                have n2_:=Aside0.mk (Kd.R_below (by (with_reducible repeat (first|apply rA_|apply rN_|apply rD_));exact HO210.out) hb)
                have n3_:=Aside0.mk (Kd.R_lower (Kd.R_newM (M:=fun k_=>(w.heap.size≤k_)) ho22 (below_size (by repeat (first|(with_reducible first|exact HB.out|apply bA_|apply bN_|apply bD_)|exact HB.out))) (fun k_ h_=>h_)) (below_size (by repeat (first|(with_reducible first|exact HB.out|apply bA_|apply bN_|apply bD_)|exact HB.out))))
                have n4_:=Aside0.mk (below_step (by repeat (first|(with_reducible first|exact HB.out|apply bA_|apply bN_|apply bD_)|exact HB.out)) hb)
                clear HO_3
                clear HO205
                clear HO210
                clear HB
                have HO_3:=n0_
                have HO205:=n1_
                have HO210:=n2_
                have HO214:=n3_
                have HB:=n4_
                clear n0_ n1_ n2_ n3_ n4_
                clear hb ho22
                refine hK.out _ _ trivial (fun hHeld=>?_)
                clear hK K
                refine norm_ (a':=?_) ?_ ?_
                rotate_left
                ·show Act.put _ (some 27) _=_
                 simp only [Act.put,List.setIfInBounds_toArray,List.set_cons_zero,List.set_cons_succ,i64_w,i32_w]
                 rfl
                exact norm_ (by first|(simp only [putAll,Act.put,List.setIfInBounds_toArray,List.set_cons_zero,List.set_cons_succ];done)|(simp only [putAll,Act.put,List.setIfInBounds_toArray,List.set_cons_zero,List.set_cons_succ];rfl)) (hJ1_4_8 (.slice (some adz_v209) y208.length co20,adz_v209,v213) _ ⟨(by (with_reducible repeat (first|apply rA_|apply rN_|apply rD_));exact HO205.out),(by (with_reducible repeat (first|apply rA_|apply rN_|apply rD_));exact HO210.out),(by (with_reducible repeat (first|apply rA_|apply rN_|apply rD_));exact Kd.R_mono HO214.out (fun _ hk=>by first|exact hk.1|exact hk)),(by (with_reducible repeat (first|apply nA_|apply nN_|apply nD_));exact Kd.N_mono HO_3.out (fun _ hk=>⟨hk.1.1,⟨hk.1.2.1,⟨hk.1.2.2,hk.2⟩⟩⟩)),⟨_,rfl⟩,(by repeat (first|(with_reducible first|exact HB.out|apply bA_|apply bN_|apply bD_)|exact HB.out))⟩)
              ·skip
               rintro ⟨v213,v216⟩ w20 ⟨h0_,h1_,h2_,h3_,h4_⟩
               have n0_:Aside0 (Kd.R (Kd.int .i64) 3 w20 w.heap.size (fun k_=>(w.heap.size≤k_)) (.slice (some ad206) y203.length co13) y203):=⟨h0_⟩
               have n1_:Aside0 (Kd.R (Kd.int .u8) 5 w20 w.heap.size (fun k_=>(w.heap.size≤k_)) v213 y212):=⟨h1_⟩
               have n2_:Aside0 (Kd.N k51 51 w20 w.heap.size (fun k_=>(w.heap.size≤k_)∧some k_≠(.slice (some ad206) y203.length co13:Value).ownBlock∧some k_≠(v213:Value).ownBlock∧some k_≠(.slice Ao14 x3_1.length co14:Value).ownBlock) v216 t215):=⟨h2_⟩
               have n3_:Aside0 (Kd.N k51 51 w20 w.heap.size (fun k_=>(w.heap.size≤k_)∧some k_≠(.slice (some ad206) y203.length co13:Value).ownBlock∧some k_≠(v213:Value).ownBlock∧some k_≠(v216:Value).ownBlock) (.slice Ao14 x3_1.length co14) x3_1):=⟨h3_⟩
               have n4_:Aside0 (Below w.heap.size w w20):=⟨h4_⟩
               clear HO_3
               clear HO205
               clear HB
               clear h0_ h1_ h2_ h3_ h4_
               have HO205:=n0_
               have HO214:=n1_
               have HO217:=n2_
               have HO_3:=n3_
               have HB:=n4_
               clear n0_ n1_ n2_ n3_ n4_
               have hHeld:=trivial
               refine norm_ (a':=?_) ?_ ?_
               rotate_left
               ·simp only [putAll,Act.put,List.setIfInBounds_toArray,List.set_cons_zero,List.set_cons_succ]
                rfl
               refine one_ (i:=1) (N:=some 20) #[true,true,true,false,false,true,true,true,true,true,true,false,false] rfl rfl (one_of HT_.out (by kernel_rfl)) (by decide) (fun K hK=>?_)
               refine Kd.R_lit_step Kd.string _ 9 ?hg (N:=20) ?hd (xs:=([(⟨#[97]⟩:ByteArray),(⟨#[98]⟩:ByteArray),(⟨#[99]⟩:ByteArray)]:List ByteArray)) (inner:=[.string (⟨#[97]⟩:ByteArray),.string (⟨#[98]⟩:ByteArray),.string (⟨#[99]⟩:ByteArray)]) (ok:=fun _=>True) (okp:=fun _=>True) ?hr ?hp (fun _ hk=>hk) trivial (Below.refl _ _) (Nat.le_refl _) (by simp) ?_;(case hd=>rfl);(case hg=>rfl);(case hr=>first|(go_simp;done)|(go_simp;rfl));(case hp=>exact (Reps.one (show Kd.M Kd.string _ _ _ (⟨#[97]⟩:ByteArray) [.string (⟨#[97]⟩:ByteArray)] from rfl) (Reps.one (show Kd.M Kd.string _ _ _ (⟨#[98]⟩:ByteArray) [.string (⟨#[98]⟩:ByteArray)] from rfl) (Reps.one (show Kd.M Kd.string _ _ _ (⟨#[99]⟩:ByteArray) [.string (⟨#[99]⟩:ByteArray)] from rfl) (Reps.none _ _)))))
               intro v209 w21 ho22 hb hg_ hnew_
               clear hg_ hnew_
               (first|rw [← Ny208.out] at ho22|(simp only [Int.reduceToNat] at ho22;rw [← Ny208.out] at ho22))
               have n0_:=Aside0.mk (Kd.N_elder' (by (with_reducible repeat (first|apply nA_|apply nN_|apply nD_));exact HO_3.out) (Kd.R_base ho22) hb)
               have n1_:=Aside0.mk (Kd.R_below (by (with_reducible repeat (first|apply rA_|apply rN_|apply rD_));exact HO205.out) hb)
               have n2_:=Aside0.mk (Kd.R_below (by (with_reducible repeat (first|apply rA_|apply rN_|apply rD_));exact HO214.out) hb)
               have n3_:=Aside0.mk (Kd.N_elder' (by (with_reducible repeat (first|apply nA_|apply nN_|apply nD_));exact HO217.out) (Kd.R_base ho22) hb)
               have n4_:=Aside0.mk (Kd.R_lower (Kd.R_newM (M:=fun k_=>(w.heap.size≤k_)) ho22 (below_size (by repeat (first|(with_reducible first|exact HB.out|apply bA_|apply bN_|apply bD_)|exact HB.out))) (fun k_ h_=>h_)) (below_size (by repeat (first|(with_reducible first|exact HB.out|apply bA_|apply bN_|apply bD_)|exact HB.out))))
               have n5_:=Aside0.mk (below_step (by repeat (first|(with_reducible first|exact HB.out|apply bA_|apply bN_|apply bD_)|exact HB.out)) hb)
               clear HO_3
               clear HO205
               clear HO214
               clear HO217
               clear HB
               have HO_3:=n0_
               have HO205:=n1_
               have HO214:=n2_
               have HO217:=n3_
               have HO210:=n4_
               have HB:=n5_
               clear n0_ n1_ n2_ n3_ n4_ n5_
               clear hb ho22
               obtain ⟨Ao23,co23,eo23⟩:=Kd.R_slice HO210.out
               subst eo23
               obtain ⟨ado23,fo23,_⟩:=Kd.at_string (Kd.R_reads' HO210.out).2.2 0 (by decide) (by rw [Ny208.out];simp)
               cases fo23
               refine hK.out _ _ trivial (fun hHeld=>?_)
               clear hK K
               refine norm_ (a':=?_) ?_ ?_
               rotate_left
               ·show Act.put _ (some 20) _=_
                simp only [Act.put,List.setIfInBounds_toArray,List.set_cons_zero,List.set_cons_succ,i64_w,i32_w]
                rfl
               refine pure_ (i:=3) (N:=some 22) (v:=?_) (a':=?_) #[true,true,true,true,false,true,true,true,true,true,true,false,false] rfl rfl (any_of HT_.out (by kernel_rfl)) (fun _ _ _ h=>h) (Or.inl ⟨by rfl,?_⟩) ?_ ?_
               rotate_left
               ·intro w'
                go_simp
                with_reducible rfl
               rotate_left
               ·simp only [Act.put,List.setIfInBounds_toArray,List.set_cons_zero,List.set_cons_succ,i64_w,i32_w]
                rfl
               exact norm_ (by first|(simp only [putAll,Act.put,List.setIfInBounds_toArray,List.set_cons_zero,List.set_cons_succ];done)|(simp only [putAll,Act.put,List.setIfInBounds_toArray,List.set_cons_zero,List.set_cons_succ];rfl)) (hJ1_8_9_10 (.slice (some ado23) y208.length co23,ado23,v213,v216) _ ⟨(by (with_reducible repeat (first|apply rA_|apply rN_|apply rD_));exact HO205.out),(by (with_reducible repeat (first|apply rA_|apply rN_|apply rD_));exact Kd.R_mono HO210.out (fun _ hk=>by first|exact hk.1|exact hk)),(by (with_reducible repeat (first|apply rA_|apply rN_|apply rD_));exact HO214.out),(by (with_reducible repeat (first|apply nA_|apply nN_|apply nD_));exact Kd.N_mono HO217.out (fun _ hk=>⟨hk.1.1,⟨hk.1.2.1,⟨hk.2,⟨hk.1.2.2.1,hk.1.2.2.2⟩⟩⟩⟩)),(by (with_reducible repeat (first|apply nA_|apply nN_|apply nD_));exact Kd.N_mono HO_3.out (fun _ hk=>⟨hk.1.1,⟨hk.1.2.1,⟨hk.2,⟨hk.1.2.2.1,hk.1.2.2.2⟩⟩⟩⟩)),⟨_,rfl⟩,(by repeat (first|(with_reducible first|exact HB.out|apply bA_|apply bN_|apply bD_)|exact HB.out))⟩)
             ·skip
              rintro ⟨v209,adz_v209,v213⟩ w22 ⟨h0_,h1_,h2_,h3_,h4_,h5_⟩
              have n0_:Aside0 (Kd.R (Kd.int .i64) 3 w22 w.heap.size (fun k_=>(w.heap.size≤k_)) (.slice (some ad206) y203.length co13) y203):=⟨h0_⟩
              have n1_:Aside0 (Kd.R Kd.string 9 w22 w.heap.size (fun k_=>(w.heap.size≤k_)) v209 y208):=⟨h1_⟩
              have n2_:Aside0 (Kd.R (Kd.int .u8) 5 w22 w.heap.size (fun k_=>(w.heap.size≤k_)) v213 y212):=⟨h2_⟩
              have n3_:Aside0 (Kd.N k51 51 w22 w.heap.size (fun k_=>(w.heap.size≤k_)∧some k_≠(.slice (some ad206) y203.length co13:Value).ownBlock∧some k_≠(v209:Value).ownBlock∧some k_≠(v213:Value).ownBlock) (.slice Ao14 x3_1.length co14) x3_1):=⟨h3_⟩
              have n4_:Aside0 (∃ c_,(v209:Value)=.slice (some adz_v209) y208.length c_):=⟨h4_⟩
              have n5_:Aside0 (Below w.heap.size w w22):=⟨h5_⟩
              clear HO_3
              clear HO205
              clear HB
              clear h0_ h1_ h2_ h3_ h4_ h5_
              have HO205:=n0_
              have HO210:=n1_
              have HO214:=n2_
              have HO_3:=n3_
              have HA_HO210:=n4_
              have HB:=n5_
              clear n0_ n1_ n2_ n3_ n4_ n5_
              have hHeld:=trivial
              obtain ⟨co23,eo23⟩:=HA_HO210.out
              clear HA_HO210
              subst eo23
              refine norm_ (a':=?_) ?_ ?_
              rotate_left
              ·simp only [putAll,Act.put,List.setIfInBounds_toArray,List.set_cons_zero,List.set_cons_succ]
               rfl
              refine two_ (i:=4) (j:=10) (Ni:=some 23) (Nj:=some 29) #[true,true,true,true,true,true,true,true,true,true,false,false,false] #[true,true,true,true,false,true,true,true,true,true,true,false,false] rfl rfl rfl rfl (two_of HT_.out (by kernel_rfl)) (by decide) (by decide) (fun K hK=>?_) (fun K hK=>?_)
              ·skip
               (have p211:0≤(x4_1:Int):=of_decide_eq_true (by first|(with_reducible assumption)|assumption);have q211:x4_1 < (y208.length:Int):=of_decide_eq_true (by first|(with_reducible assumption)|assumption);obtain ⟨ad211,e211,hx211_0⟩:=Kd.at_string (Kd.R_reads' HO210.out).2.2 x4_1 p211 q211;obtain rfl:adz_v209=ad211:=(by injection e211))
               refine value_ (w1:=?_) (v:=?_) (by rfl) rfl ?_ ?_
               rotate_left 2
               ·go_simp
                constructor
                ·rfl
                ·rfl
               clear hx211_0
               refine hK.out _ _ trivial (fun hHeld=>?_)
               clear hK K
               refine norm_ (a':=?_) ?_ ?_
               rotate_left
               ·show Act.put _ (some 23) _=_
                simp only [Act.put,List.setIfInBounds_toArray,List.set_cons_zero,List.set_cons_succ,i64_w,i32_w]
                rfl
               exact norm_ (by first|(simp only [putAll,Act.put,List.setIfInBounds_toArray,List.set_cons_zero,List.set_cons_succ];done)|(simp only [putAll,Act.put,List.setIfInBounds_toArray,List.set_cons_zero,List.set_cons_succ];rfl)) (hJ1_4_8_9 (.slice (some adz_v209) y208.length co23,adz_v209,v213) _ ⟨(by (with_reducible repeat (first|apply rA_|apply rN_|apply rD_));exact HO205.out),(by (with_reducible repeat (first|apply rA_|apply rN_|apply rD_));exact HO210.out),(by (with_reducible repeat (first|apply rA_|apply rN_|apply rD_));exact HO214.out),(by (with_reducible repeat (first|apply nA_|apply nN_|apply nD_));exact HO_3.out),⟨_,rfl⟩,(by repeat (first|(with_reducible first|exact HB.out|apply bA_|apply bN_|apply bD_)|exact HB.out))⟩)
              ·skip
               refine goes_ Try.func20 (by kernel_rfl) rfl #[.string (strOfNums y212)] (by rfl) rfl rfl (by (try simp only [List.map_toArray,List.map_cons,List.map_nil]);first|done|rfl|(simp only [List.length_drop,List.length_take];rfl)) ?_
               with_reducible refine (cadenceref2_Value.calls (strOfNums y212) t215 _ A9.out).mono ?_
               rintro e w24 ⟨v216,rfl,ho0,hb⟩
               refine ⟨_,rfl,?_⟩
               have n0_:=Aside0.mk (Kd.N_elder' (by (with_reducible repeat (first|apply nA_|apply nN_|apply nD_));exact HO_3.out) (by first|exact Kd.N_base ho0|exact Kd.R_base ho0) hb)
               have n1_:=Aside0.mk (Kd.R_below (by (with_reducible repeat (first|apply rA_|apply rN_|apply rD_));exact HO205.out) hb)
               have n2_:=Aside0.mk (Kd.R_below (by (with_reducible repeat (first|apply rA_|apply rN_|apply rD_));exact HO210.out) hb)
               have n3_:=Aside0.mk (Kd.R_below (by (with_reducible repeat (first|apply rA_|apply rN_|apply rD_));exact HO214.out) hb)
               have n4_:=Aside0.mk (Kd.N_lower (Kd.N_mono (ok':=fun k_=>(w.heap.size≤k_)∧some k_≠(.slice Ao14 x3_1.length co14:Value).ownBlock∧some k_≠(.slice (some ad206) y203.length co13:Value).ownBlock∧some k_≠(.slice (some adz_v209) y208.length co23:Value).ownBlock∧some k_≠(v213:Value).ownBlock) (Kd.R_N (Kd.R_bound ho0)) (fun k_ hk_=>⟨(Nat.le_trans (below_size (by repeat (first|(with_reducible first|exact HB.out|apply bA_|apply bN_|apply bD_)|exact HB.out))) hk_.2.1),(Kd.fresh' (Kd.N_lt (by (with_reducible repeat (first|apply nA_|apply nN_|apply nD_));exact HO_3.out)) k_ hk_.2.1),(Kd.fresh' (Kd.R_lt (by (with_reducible repeat (first|apply rA_|apply rN_|apply rD_));exact HO205.out)) k_ hk_.2.1),(Kd.fresh' (Kd.R_lt (by (with_reducible repeat (first|apply rA_|apply rN_|apply rD_));exact HO210.out)) k_ hk_.2.1),(Kd.fresh' (Kd.R_lt (by (with_reducible repeat (first|apply rA_|apply rN_|apply rD_));exact HO214.out)) k_ hk_.2.1)⟩)) (below_size (by repeat (first|(with_reducible first|exact HB.out|apply bA_|apply bN_|apply bD_)|exact HB.out))))
               have n5_:=Aside0.mk (below_step (by repeat (first|(with_reducible first|exact HB.out|apply bA_|apply bN_|apply bD_)|exact HB.out)) hb)
               clear HO_3
               clear HO205
               clear HO210
               clear HO214
               clear HB
               have HO_3:=n0_
               have HO205:=n1_
               have HO210:=n2_
               have HO214:=n3_
               have HO217:=n4_
               have HB:=n5_
               clear n0_ n1_ n2_ n3_ n4_ n5_
               (try clear hb)
               (try clear hb2)
               (try clear hk)
               (try clear hi)
               (try clear ho0)
               refine hK.out _ _ trivial (fun hHeld=>?_)
               clear hK K
               refine norm_ (a':=?_) ?_ ?_
               rotate_left
               ·show Act.put _ (some 29) _=_
                simp only [Act.put,List.setIfInBounds_toArray,List.set_cons_zero,List.set_cons_succ,i64_w,i32_w]
                rfl
               exact norm_ (by first|(simp only [putAll,Act.put,List.setIfInBounds_toArray,List.set_cons_zero,List.set_cons_succ];done)|(simp only [putAll,Act.put,List.setIfInBounds_toArray,List.set_cons_zero,List.set_cons_succ];rfl)) (hJ1_8_9_10 (.slice (some adz_v209) y208.length co23,adz_v209,v213,v216) _ ⟨(by (with_reducible repeat (first|apply rA_|apply rN_|apply rD_));exact HO205.out),(by (with_reducible repeat (first|apply rA_|apply rN_|apply rD_));exact HO210.out),(by (with_reducible repeat (first|apply rA_|apply rN_|apply rD_));exact HO214.out),(by (with_reducible repeat (first|apply nA_|apply nN_|apply nD_));exact Kd.N_mono HO217.out (fun _ hk=>⟨hk.1,⟨hk.2.2.1,⟨hk.2.2.2.1,⟨hk.2.2.2.2,hk.2.1⟩⟩⟩⟩)),(by (with_reducible repeat (first|apply nA_|apply nN_|apply nD_));exact Kd.N_mono HO_3.out (fun _ hk=>⟨hk.1.1,⟨hk.1.2.1,⟨hk.1.2.2.1,⟨hk.1.2.2.2,hk.2⟩⟩⟩⟩)),⟨_,rfl⟩,(by repeat (first|(with_reducible first|exact HB.out|apply bA_|apply bN_|apply bD_)|exact HB.out))⟩)
            ·skip
             rintro ⟨v209,adz_v209,v213⟩ w21 ⟨h0_,h1_,h2_,h3_,h4_,h5_⟩
             have n0_:Aside0 (Kd.R (Kd.int .i64) 3 w21 w.heap.size (fun k_=>(w.heap.size≤k_)) (.slice (some ad206) y203.length co13) y203):=⟨h0_⟩
             have n1_:Aside0 (Kd.R Kd.string 9 w21 w.heap.size (fun k_=>(w.heap.size≤k_)) v209 y208):=⟨h1_⟩
             have n2_:Aside0 (Kd.R (Kd.int .u8) 5 w21 w.heap.size (fun k_=>(w.heap.size≤k_)) v213 y212):=⟨h2_⟩
             have n3_:Aside0 (Kd.N k51 51 w21 w.heap.size (fun k_=>(w.heap.size≤k_)∧some k_≠(.slice (some ad206) y203.length co13:Value).ownBlock∧some k_≠(v209:Value).ownBlock∧some k_≠(v213:Value).ownBlock) (.slice Ao14 x3_1.length co14) x3_1):=⟨h3_⟩
             have n4_:Aside0 (∃ c_,(v209:Value)=.slice (some adz_v209) y208.length c_):=⟨h4_⟩
             have n5_:Aside0 (Below w.heap.size w w21):=⟨h5_⟩
             clear HO_3
             clear HO205
             clear HB
             clear h0_ h1_ h2_ h3_ h4_ h5_
             have HO205:=n0_
             have HO210:=n1_
             have HO214:=n2_
             have HO_3:=n3_
             have HA_HO210:=n4_
             have HB:=n5_
             clear n0_ n1_ n2_ n3_ n4_ n5_
             have hHeld:=trivial
             obtain ⟨co22,eo22⟩:=HA_HO210.out
             clear HA_HO210
             subst eo22
             refine norm_ (a':=?_) ?_ ?_
             rotate_left
             ·simp only [putAll,Act.put,List.setIfInBounds_toArray,List.set_cons_zero,List.set_cons_succ]
              rfl
             refine one_ (i:=9) (N:=some 28) #[true,true,true,true,true,true,true,true,true,true,false,false,false] rfl rfl (one_of HT_.out (by kernel_rfl)) (by decide) (fun K hK=>?_)
             have hcv23:=own_string (P:=Try.prog) Try.underlying68 Try.underlying5 Try.underlying9 (Kd.own_of_R HO214.out)
             refine value_ (w1:=?_) (v:=?_) (by rfl) rfl ?_ ?_
             rotate_left 2
             ·go_simp
              constructor
              ·rfl
              ·rfl
             clear hcv23
             refine hK.out _ _ trivial (fun hHeld=>?_)
             clear hK K
             refine norm_ (a':=?_) ?_ ?_
             rotate_left
             ·show Act.put _ (some 28) _=_
              simp only [Act.put,List.setIfInBounds_toArray,List.set_cons_zero,List.set_cons_succ,i64_w,i32_w]
              rfl
             exact norm_ (by first|(simp only [putAll,Act.put,List.setIfInBounds_toArray,List.set_cons_zero,List.set_cons_succ];done)|(simp only [putAll,Act.put,List.setIfInBounds_toArray,List.set_cons_zero,List.set_cons_succ];rfl)) (hJ1_4_8_9 (.slice (some adz_v209) y208.length co22,adz_v209,v213) _ ⟨(by (with_reducible repeat (first|apply rA_|apply rN_|apply rD_));exact HO205.out),(by (with_reducible repeat (first|apply rA_|apply rN_|apply rD_));exact HO210.out),(by (with_reducible repeat (first|apply rA_|apply rN_|apply rD_));exact HO214.out),(by (with_reducible repeat (first|apply nA_|apply nN_|apply nD_));exact HO_3.out),⟨_,rfl⟩,(by repeat (first|(with_reducible first|exact HB.out|apply bA_|apply bN_|apply bD_)|exact HB.out))⟩)
           ·skip
            rintro ⟨v209,adz_v209,v213,v216⟩ w23 ⟨h0_,h1_,h2_,h3_,h4_,h5_,h6_⟩
            have n0_:Aside0 (Kd.R (Kd.int .i64) 3 w23 w.heap.size (fun k_=>(w.heap.size≤k_)) (.slice (some ad206) y203.length co13) y203):=⟨h0_⟩
            have n1_:Aside0 (Kd.R Kd.string 9 w23 w.heap.size (fun k_=>(w.heap.size≤k_)) v209 y208):=⟨h1_⟩
            have n2_:Aside0 (Kd.R (Kd.int .u8) 5 w23 w.heap.size (fun k_=>(w.heap.size≤k_)) v213 y212):=⟨h2_⟩
            have n3_:Aside0 (Kd.N k51 51 w23 w.heap.size (fun k_=>(w.heap.size≤k_)∧some k_≠(.slice (some ad206) y203.length co13:Value).ownBlock∧some k_≠(v209:Value).ownBlock∧some k_≠(v213:Value).ownBlock∧some k_≠(.slice Ao14 x3_1.length co14:Value).ownBlock) v216 t215):=⟨h3_⟩
            have n4_:Aside0 (Kd.N k51 51 w23 w.heap.size (fun k_=>(w.heap.size≤k_)∧some k_≠(.slice (some ad206) y203.length co13:Value).ownBlock∧some k_≠(v209:Value).ownBlock∧some k_≠(v213:Value).ownBlock∧some k_≠(v216:Value).ownBlock) (.slice Ao14 x3_1.length co14) x3_1):=⟨h4_⟩
            have n5_:Aside0 (∃ c_,(v209:Value)=.slice (some adz_v209) y208.length c_):=⟨h5_⟩
            have n6_:Aside0 (Below w.heap.size w w23):=⟨h6_⟩
            clear HO_3
            clear HO205
            clear HB
            clear h0_ h1_ h2_ h3_ h4_ h5_ h6_
            have HO205:=n0_
            have HO210:=n1_
            have HO214:=n2_
            have HO217:=n3_
            have HO_3:=n4_
            have HA_HO210:=n5_
            have HB:=n6_
            clear n0_ n1_ n2_ n3_ n4_ n5_ n6_
            have hHeld:=trivial
            obtain ⟨co24,eo24⟩:=HA_HO210.out
            clear HA_HO210
            subst eo24
            refine norm_ (a':=?_) ?_ ?_
            rotate_left
            ·simp only [putAll,Act.put,List.setIfInBounds_toArray,List.set_cons_zero,List.set_cons_succ]
             rfl
            refine one_ (i:=4) (N:=some 23) #[true,true,true,true,true,true,true,true,true,true,true,false,false] rfl rfl (one_of HT_.out (by kernel_rfl)) (by decide) (fun K hK=>?_)
            (have p211:0≤(x4_1:Int):=of_decide_eq_true (by first|(with_reducible assumption)|assumption);have q211:x4_1 < (y208.length:Int):=of_decide_eq_true (by first|(with_reducible assumption)|assumption);obtain ⟨ad211,e211,hx211_0⟩:=Kd.at_string (Kd.R_reads' HO210.out).2.2 x4_1 p211 q211;obtain rfl:adz_v209=ad211:=(by injection e211))
            refine value_ (w1:=?_) (v:=?_) (by rfl) rfl ?_ ?_
            rotate_left 2
            ·go_simp
             constructor
             ·rfl
             ·rfl
            clear hx211_0
            refine hK.out _ _ trivial (fun hHeld=>?_)
            clear hK K
            refine norm_ (a':=?_) ?_ ?_
            rotate_left
            ·show Act.put _ (some 23) _=_
             simp only [Act.put,List.setIfInBounds_toArray,List.set_cons_zero,List.set_cons_succ,i64_w,i32_w]
             rfl
            exact norm_ (by first|(simp only [putAll,Act.put,List.setIfInBounds_toArray,List.set_cons_zero,List.set_cons_succ];done)|(simp only [putAll,Act.put,List.setIfInBounds_toArray,List.set_cons_zero,List.set_cons_succ];rfl)) (hJ1_4_8_9_10 (.slice (some adz_v209) y208.length co24,adz_v209,v213,v216) _ ⟨(by (with_reducible repeat (first|apply rA_|apply rN_|apply rD_));exact HO205.out),(by (with_reducible repeat (first|apply rA_|apply rN_|apply rD_));exact HO210.out),(by (with_reducible repeat (first|apply rA_|apply rN_|apply rD_));exact HO214.out),(by (with_reducible repeat (first|apply nA_|apply nN_|apply nD_));exact HO217.out),(by (with_reducible repeat (first|apply nA_|apply nN_|apply nD_));exact HO_3.out),⟨_,rfl⟩,(by repeat (first|(with_reducible first|exact HB.out|apply bA_|apply bN_|apply bD_)|exact HB.out))⟩)
          ·skip
           rintro ⟨v209,adz_v209,v213⟩ w22 ⟨h0_,h1_,h2_,h3_,h4_,h5_⟩
           have n0_:Aside0 (Kd.R (Kd.int .i64) 3 w22 w.heap.size (fun k_=>(w.heap.size≤k_)) (.slice (some ad206) y203.length co13) y203):=⟨h0_⟩
           have n1_:Aside0 (Kd.R Kd.string 9 w22 w.heap.size (fun k_=>(w.heap.size≤k_)) v209 y208):=⟨h1_⟩
           have n2_:Aside0 (Kd.R (Kd.int .u8) 5 w22 w.heap.size (fun k_=>(w.heap.size≤k_)) v213 y212):=⟨h2_⟩
           have n3_:Aside0 (Kd.N k51 51 w22 w.heap.size (fun k_=>(w.heap.size≤k_)∧some k_≠(.slice (some ad206) y203.length co13:Value).ownBlock∧some k_≠(v209:Value).ownBlock∧some k_≠(v213:Value).ownBlock) (.slice Ao14 x3_1.length co14) x3_1):=⟨h3_⟩
           have n4_:Aside0 (∃ c_,(v209:Value)=.slice (some adz_v209) y208.length c_):=⟨h4_⟩
           have n5_:Aside0 (Below w.heap.size w w22):=⟨h5_⟩
           clear HO_3
           clear HO205
           clear HB
           clear h0_ h1_ h2_ h3_ h4_ h5_
           have HO205:=n0_
           have HO210:=n1_
           have HO214:=n2_
           have HO_3:=n3_
           have HA_HO210:=n4_
           have HB:=n5_
           clear n0_ n1_ n2_ n3_ n4_ n5_
           have hHeld:=trivial
           obtain ⟨co23,eo23⟩:=HA_HO210.out
           clear HA_HO210
           subst eo23
           refine norm_ (a':=?_) ?_ ?_
           rotate_left
           ·simp only [putAll,Act.put,List.setIfInBounds_toArray,List.set_cons_zero,List.set_cons_succ]
            rfl
           refine one_ (i:=10) (N:=some 29) #[true,true,true,true,true,true,true,true,true,true,true,false,false] rfl rfl (one_of HT_.out (by kernel_rfl)) (by decide) (fun K hK=>?_)
           refine goes_ Try.func20 (by kernel_rfl) rfl #[.string (strOfNums y212)] (by rfl) rfl rfl (by (try simp only [List.map_toArray,List.map_cons,List.map_nil]);first|done|rfl|(simp only [List.length_drop,List.length_take];rfl)) ?_
           with_reducible refine (cadenceref2_Value.calls (strOfNums y212) t215 _ A9.out).mono ?_
           rintro e w24 ⟨v216,rfl,ho0,hb⟩
           refine ⟨_,rfl,?_⟩
           have n0_:=Aside0.mk (Kd.N_elder' (by (with_reducible repeat (first|apply nA_|apply nN_|apply nD_));exact HO_3.out) (by first|exact Kd.N_base ho0|exact Kd.R_base ho0) hb)
           have n1_:=Aside0.mk (Kd.R_below (by (with_reducible repeat (first|apply rA_|apply rN_|apply rD_));exact HO205.out) hb)
           have n2_:=Aside0.mk (Kd.R_below (by (with_reducible repeat (first|apply rA_|apply rN_|apply rD_));exact HO210.out) hb)
           have n3_:=Aside0.mk (Kd.R_below (by (with_reducible repeat (first|apply rA_|apply rN_|apply rD_));exact HO214.out) hb)
           have n4_:=Aside0.mk (Kd.N_lower (Kd.N_mono (ok':=fun k_=>(w.heap.size≤k_)∧some k_≠(.slice Ao14 x3_1.length co14:Value).ownBlock∧some k_≠(.slice (some ad206) y203.length co13:Value).ownBlock∧some k_≠(.slice (some adz_v209) y208.length co23:Value).ownBlock∧some k_≠(v213:Value).ownBlock) (Kd.R_N (Kd.R_bound ho0)) (fun k_ hk_=>⟨(Nat.le_trans (below_size (by repeat (first|(with_reducible first|exact HB.out|apply bA_|apply bN_|apply bD_)|exact HB.out))) hk_.2.1),(Kd.fresh' (Kd.N_lt (by (with_reducible repeat (first|apply nA_|apply nN_|apply nD_));exact HO_3.out)) k_ hk_.2.1),(Kd.fresh' (Kd.R_lt (by (with_reducible repeat (first|apply rA_|apply rN_|apply rD_));exact HO205.out)) k_ hk_.2.1),(Kd.fresh' (Kd.R_lt (by (with_reducible repeat (first|apply rA_|apply rN_|apply rD_));exact HO210.out)) k_ hk_.2.1),(Kd.fresh' (Kd.R_lt (by (with_reducible repeat (first|apply rA_|apply rN_|apply rD_));exact HO214.out)) k_ hk_.2.1)⟩)) (below_size (by repeat (first|(with_reducible first|exact HB.out|apply bA_|apply bN_|apply bD_)|exact HB.out))))
           have n5_:=Aside0.mk (below_step (by repeat (first|(with_reducible first|exact HB.out|apply bA_|apply bN_|apply bD_)|exact HB.out)) hb)
           clear HO_3
           clear HO205
           clear HO210
           clear HO214
           clear HB
           have HO_3:=n0_
           have HO205:=n1_
           have HO210:=n2_
           have HO214:=n3_
           have HO217:=n4_
           have HB:=n5_
           clear n0_ n1_ n2_ n3_ n4_ n5_
           (try clear hb)
           (try clear hb2)
           (try clear hk)
           (try clear hi)
           (try clear ho0)
           refine hK.out _ _ trivial (fun hHeld=>?_)
           clear hK K
           refine norm_ (a':=?_) ?_ ?_
           rotate_left
           ·show Act.put _ (some 29) _=_
            simp only [Act.put,List.setIfInBounds_toArray,List.set_cons_zero,List.set_cons_succ,i64_w,i32_w]
            rfl
           exact norm_ (by first|(simp only [putAll,Act.put,List.setIfInBounds_toArray,List.set_cons_zero,List.set_cons_succ];done)|(simp only [putAll,Act.put,List.setIfInBounds_toArray,List.set_cons_zero,List.set_cons_succ];rfl)) (hJ1_4_8_9_10 (.slice (some adz_v209) y208.length co23,adz_v209,v213,v216) _ ⟨(by (with_reducible repeat (first|apply rA_|apply rN_|apply rD_));exact HO205.out),(by (with_reducible repeat (first|apply rA_|apply rN_|apply rD_));exact HO210.out),(by (with_reducible repeat (first|apply rA_|apply rN_|apply rD_));exact HO214.out),(by (with_reducible repeat (first|apply nA_|apply nN_|apply nD_));exact Kd.N_mono HO217.out (fun _ hk=>⟨hk.1,⟨hk.2.2.1,⟨hk.2.2.2.1,⟨hk.2.2.2.2,hk.2.1⟩⟩⟩⟩)),(by (with_reducible repeat (first|apply nA_|apply nN_|apply nD_));exact Kd.N_mono HO_3.out (fun _ hk=>⟨hk.1.1,⟨hk.1.2.1,⟨hk.1.2.2.1,⟨hk.1.2.2.2,hk.2⟩⟩⟩⟩)),⟨_,rfl⟩,(by repeat (first|(with_reducible first|exact HB.out|apply bA_|apply bN_|apply bD_)|exact HB.out))⟩)
         rintro ⟨v209,adz_v209,v213,v216⟩ w23 ⟨h0_,h1_,h2_,h3_,h4_,h5_,h6_⟩
         have n0_:Aside0 (Kd.R (Kd.int .i64) 3 w23 w.heap.size (fun k_=>(w.heap.size≤k_)) (.slice (some ad206) y203.length co13) y203):=⟨h0_⟩
         have n1_:Aside0 (Kd.R Kd.string 9 w23 w.heap.size (fun k_=>(w.heap.size≤k_)) v209 y208):=⟨h1_⟩
         have n2_:Aside0 (Kd.R (Kd.int .u8) 5 w23 w.heap.size (fun k_=>(w.heap.size≤k_)) v213 y212):=⟨h2_⟩
         have n3_:Aside0 (Kd.N k51 51 w23 w.heap.size (fun k_=>(w.heap.size≤k_)∧some k_≠(.slice (some ad206) y203.length co13:Value).ownBlock∧some k_≠(v209:Value).ownBlock∧some k_≠(v213:Value).ownBlock∧some k_≠(.slice Ao14 x3_1.length co14:Value).ownBlock) v216 t215):=⟨h3_⟩
         have n4_:Aside0 (Kd.N k51 51 w23 w.heap.size (fun k_=>(w.heap.size≤k_)∧some k_≠(.slice (some ad206) y203.length co13:Value).ownBlock∧some k_≠(v209:Value).ownBlock∧some k_≠(v213:Value).ownBlock∧some k_≠(v216:Value).ownBlock) (.slice Ao14 x3_1.length co14) x3_1):=⟨h4_⟩
         have n5_:Aside0 (∃ c_,(v209:Value)=.slice (some adz_v209) y208.length c_):=⟨h5_⟩
         have n6_:Aside0 (Below w.heap.size w w23):=⟨h6_⟩
         clear HO_3
         clear HO205
         clear HB
         clear h0_ h1_ h2_ h3_ h4_ h5_ h6_
         have HO205:=n0_
         have HO210:=n1_
         have HO214:=n2_
         have HO217:=n3_
         have HO_3:=n4_
         have HA_HO210:=n5_
         have HB:=n6_
         clear n0_ n1_ n2_ n3_ n4_ n5_ n6_
         have hHeld:=trivial
         obtain ⟨co24,eo24⟩:=HA_HO210.out
         clear HA_HO210
         subst eo24
         obtain ⟨Ao25,co25,eo25⟩:=Kd.N_slice HO217.out
         (first|subst eo25|(injection eo25 with f1_ f2_ f3_;have f4_:=f1_.symm;have f5_:=f3_.symm;clear f1_ f2_ f3_;subst f4_;subst f5_))
         refine norm_ (a':=?_) ?_ ?_
         rotate_left
         ·simp only [putAll,Act.put,List.setIfInBounds_toArray,List.set_cons_zero,List.set_cons_succ]
          rfl
         refine one_ (i:=11) (N:=some 30) #[true,true,true,true,true,true,true,true,true,true,true,true,false] rfl rfl (one_of HT_.out (by kernel_rfl)) (by decide) (fun K hK=>?_)
         refine goes_ Try.func16 (by kernel_rfl) rfl #[.slice Ao14 x3_1.length co14,.string (rdOf ByteArray.empty y208 x4_1),.slice Ao25 t215.length co25] (by rfl) rfl rfl (by (try simp only [List.map_toArray,List.map_cons,List.map_nil]);first|done|rfl|(simp only [List.length_drop,List.length_take];rfl)) ?_
         with_reducible refine (cadenceref2_With.calls k1 (fun k_=>((w.heap.size≤k_)∧(some k_≠(.slice (some ad206) y203.length co13:Value).ownBlock∧(some k_≠(.slice (some adz_v209) y208.length co24:Value).ownBlock∧(some k_≠(v213:Value).ownBlock∧some k_≠(.slice Ao25 t215.length co25:Value).ownBlock))))) _ _ x3_1 (rdOf ByteArray.empty y208 x4_1) (fun k_=>((w.heap.size≤k_)∧(some k_≠(.slice (some ad206) y203.length co13:Value).ownBlock∧(some k_≠(.slice (some adz_v209) y208.length co24:Value).ownBlock∧(some k_≠(v213:Value).ownBlock∧some k_≠(.slice Ao14 x3_1.length co14:Value).ownBlock))))) _ _ t215 t218 _ ?side1 ?side2 A10.out).mono ?_
         (case side1=>exact Kd.N_V (HO_3.out))
         (case side2=>exact Kd.N_V (HO217.out))
         rintro e w26 ⟨v219,rfl,ho0,hb⟩
         refine ⟨_,rfl,?_⟩
         have n0_:=Aside0.mk (Kd.N_elder' (by (with_reducible repeat (first|apply nA_|apply nN_|apply nD_));exact HO_3.out) (by first|exact Kd.N_base ho0|exact Kd.R_base ho0) hb)
         have n1_:=Aside0.mk (Kd.R_below (by (with_reducible repeat (first|apply rA_|apply rN_|apply rD_));exact HO205.out) hb)
         have n2_:=Aside0.mk (Kd.R_below (by (with_reducible repeat (first|apply rA_|apply rN_|apply rD_));exact HO210.out) hb)
         have n3_:=Aside0.mk (Kd.R_below (by (with_reducible repeat (first|apply rA_|apply rN_|apply rD_));exact HO214.out) hb)
         have n4_:=Aside0.mk (Kd.N_elder' (by (with_reducible repeat (first|apply nA_|apply nN_|apply nD_));exact HO217.out) (by first|exact Kd.N_base ho0|exact Kd.R_base ho0) hb)
         have n5_:=Aside0.mk (Kd.N_lower (Kd.N_mono (ok':=fun k_=>(w.heap.size≤k_)∧some k_≠(.slice (some ad206) y203.length co13:Value).ownBlock∧some k_≠(.slice (some adz_v209) y208.length co24:Value).ownBlock∧some k_≠(v213:Value).ownBlock) ho0 (fun k_ hk_=>⟨Or.elim hk_ (fun hs_=>Or.elim hs_ (fun hs_=>hs_.1) (fun hs_=>hs_.1)) (fun hn_=>(Nat.le_trans (below_size (by repeat (first|(with_reducible first|exact HB.out|apply bA_|apply bN_|apply bD_)|exact HB.out))) hn_)),Or.elim hk_ (fun hs_=>Or.elim hs_ (fun hs_=>hs_.2.1) (fun hs_=>hs_.2.1)) (fun hn_=>(Kd.fresh' (Kd.R_lt (by (with_reducible repeat (first|apply rA_|apply rN_|apply rD_));exact HO205.out)) k_ hn_)),Or.elim hk_ (fun hs_=>Or.elim hs_ (fun hs_=>hs_.2.2.1) (fun hs_=>hs_.2.2.1)) (fun hn_=>(Kd.fresh' (Kd.R_lt (by (with_reducible repeat (first|apply rA_|apply rN_|apply rD_));exact HO210.out)) k_ hn_)),Or.elim hk_ (fun hs_=>Or.elim hs_ (fun hs_=>hs_.2.2.2.1) (fun hs_=>hs_.2.2.2.1)) (fun hn_=>(Kd.fresh' (Kd.R_lt (by (with_reducible repeat (first|apply rA_|apply rN_|apply rD_));exact HO214.out)) k_ hn_))⟩)) (below_size (by repeat (first|(with_reducible first|exact HB.out|apply bA_|apply bN_|apply bD_)|exact HB.out))))
         have n6_:=Aside0.mk (below_step (by repeat (first|(with_reducible first|exact HB.out|apply bA_|apply bN_|apply bD_)|exact HB.out)) hb)
         clear HO_3
         clear HO205
         clear HO210
         clear HO214
         clear HO217
         clear HB
         have HO_3:=n0_
         have HO205:=n1_
         have HO210:=n2_
         have HO214:=n3_
         have HO217:=n4_
         have HO220:=n5_
         have HB:=n6_
         clear n0_ n1_ n2_ n3_ n4_ n5_ n6_
         (try clear hb)
         (try clear hb2)
         (try clear hk)
         (try clear hi)
         (try clear ho0)
         refine hK.out _ _ trivial (fun hHeld=>?_)
         clear hK K
         refine norm_ (a':=?_) ?_ ?_
         rotate_left
         ·show Act.put _ (some 30) _=_
          simp only [Act.put,List.setIfInBounds_toArray,List.set_cons_zero,List.set_cons_succ,i64_w,i32_w]
          rfl
         refine pure_ (i:=12) (N:=some 3) (v:=?_) (a':=?_) #[true,true,true,true,true,true,true,true,true,true,true,true,true] rfl rfl (any_of HT_.out (by kernel_rfl)) (fun _ _ _ h=>h) (Or.inl ⟨by rfl,?_⟩) ?_ ?_
         rotate_left
         ·intro w'
          go_simp
          with_reducible rfl
         rotate_left
         ·simp only [Act.put,List.setIfInBounds_toArray,List.set_cons_zero,List.set_cons_succ,i64_w,i32_w]
          rfl
         refine done_ (done_of HT_.out (by kernel_rfl)) ?_
         try go_wp2
         go_roundg k1
         case measure=>have:=HK1.out;omega
         case rel=>exact ⟨(t218),(wrap64 (x4_1+1)),(by first|rfl|(simp;done)|(simp [*];done)),H',⟨by have:=HK1.out;omega⟩,⟨by (with_reducible repeat (first|apply nA_|apply nN_|apply nD_));exact Kd.N_mono HO220.out (fun _ hk=>by first|exact hk.1|exact hk)⟩,⟨by repeat (first|(with_reducible first|exact HB.out|apply bA_|apply bN_|apply bD_)|exact HB.out)⟩⟩
        ·rw [if_neg c8] at H
         exact absurd H (by simp)
       ·rw [if_neg c7] at H
        have c7b0:decide (0 < t207)=false:=decide_eq_false c7
        clear c7
        have H':=Aside0.mk H
        clear H
        go_wp2_with (first|((with_reducible refine gate_dst (N:=11) rfl ?_);refine Kd.R_lit (Kd.int .i64) _ 3 ?hg (N:=11) ?hd (xs:=([1,4,16]:List Int)) (inner:=[.int .i64 1,.int .i64 4,.int .i64 16]) (ok:=fun _=>True) (okp:=fun _=>True) ?hr ?hp (fun _ hk=>hk) trivial (Below.refl _ _) (Nat.le_refl _) (by simp) ?_;(case hd=>rfl);(case hg=>rfl);(case hr=>first|(go_simp;done)|(go_simp;rfl));(case hp=>exact (Reps.one (show Kd.M (Kd.int .i64) _ _ _ 1 [.int .i64 1] from rfl) (Reps.one (show Kd.M (Kd.int .i64) _ _ _ 4 [.int .i64 4] from rfl) (Reps.one (show Kd.M (Kd.int .i64) _ _ _ 16 [.int .i64 16] from rfl) (Reps.none _ _)))));intro v204 w27 ho28 hb hg_ hnew_;clear hg_ hnew_;(first|rw [← Ny203.out] at ho28|(simp only [Int.reduceToNat] at ho28;rw [← Ny203.out] at ho28));have n0_:=Aside0.mk (Kd.N_elder' (by (with_reducible repeat (first|apply nA_|apply nN_|apply nD_));exact HO_3.out) (Kd.R_base ho28) hb);have n1_:=Aside0.mk (Kd.R_lower (Kd.R_newM (M:=fun k_=>(w.heap.size≤k_)) ho28 (below_size (by repeat (first|(with_reducible first|exact HB.out|apply bA_|apply bN_|apply bD_)|exact HB.out))) (fun k_ h_=>h_)) (below_size (by repeat (first|(with_reducible first|exact HB.out|apply bA_|apply bN_|apply bD_)|exact HB.out))));have n2_:=Aside0.mk (below_step (by repeat (first|(with_reducible first|exact HB.out|apply bA_|apply bN_|apply bD_)|exact HB.out)) hb);clear HO_3;clear HB;have HO_3:=n0_;have HO205:=n1_;have HB:=n2_;clear n0_ n1_ n2_;clear hb ho28;obtain ⟨Ao29,co29,eo29⟩:=Kd.R_slice HO205.out;subst eo29;have p206:0≤(x4_1:Int):=of_decide_eq_true (by first|(with_reducible assumption)|assumption);have q206:x4_1 < (y203.length:Int):=of_decide_eq_true (by first|(with_reducible assumption)|assumption);obtain ⟨ad206,e206,hx206_0⟩:=Kd.at_int (Kd.R_reads' HO205.out).2.2 x4_1 p206 q206;cases e206;replace p206:=eq_true p206;replace q206:=eq_true q206)|((with_reducible refine gate_callee (f:=15) rfl ?_);refine goesL_ (some 16) rfl rfl Try.func15 (by kernel_rfl) rfl #[.int .i64 (wrap64 (Int.tdiv a0 (rd y203 x4_1))),.int .i64 4] rfl (by (try simp only [List.map_toArray,List.map_cons,List.map_nil]);first|done|rfl|(simp only [List.length_drop,List.length_take];rfl)) ?_;(with_reducible refine (cadencelaw12_within.calls (wrap64 (Int.tdiv a0 (rd y203 x4_1))) 4 t207 _ A6.out).mono ?_);rintro e w' ⟨rfl,⟨nd,rfl⟩⟩;refine ⟨_,rfl,?_⟩))
        go_roundg k1
        case measure=>have:=HK1.out;omega
        case rel=>exact ⟨(x3_1),(wrap64 (x4_1+1)),(by first|rfl|(simp;done)|(simp [*];done)),H',⟨by have:=HK1.out;omega⟩,⟨by (with_reducible repeat (first|apply nA_|apply nN_|apply nD_));exact Kd.N_mono HO_3.out (fun _ hk=>by first|exact hk.1|exact hk)⟩,⟨by repeat (first|(with_reducible first|exact HB.out|apply bA_|apply bN_|apply bD_)|exact HB.out)⟩⟩
     ·rw [if_neg c4] at H
      exact absurd H (by simp)
    ·rw [if_neg c3] at H
     exact absurd H (by simp)
   ·rw [if_neg c2] at H
    have c2b0:decide (x4_1 < 3)=false:=decide_eq_false c2
    clear c2
    obtain rfl:=Option.some.inj H
    go_wp2
    go_ret
    exact ⟨_,by first|rfl|(simp [errW_none,errW_some] <;> rfl)|(simp [*,errW_none,errW_some] <;> rfl),by (with_reducible repeat (first|apply nA_|apply nN_|apply nD_));exact HO_3.out,by repeat (first|(with_reducible first|exact HB.out|apply bA_|apply bN_|apply bD_)|exact HB.out)⟩
end Go.Proofs.Ytainbaehfdhmbaa.PX
namespace Go.Proofs.Ytainbaehfdhmbaa.PX
open Go.RowKit Go.Proofs.YtainbaehfdhmbaaW.PrintWords Go.Proofs.YtainbaehfdhmbaaW.PrintLast Go.Proofs.YtainbaehfdhmbaaW.PrintMore
attribute [local go_sem] max2_int min2_int max_two min_two max_three min_three max_four min_four   
set_option linter.unusedVariables false
set_option linter.unusedSimpArgs false
def cadencelaw12_value.f (k:Nat) (l0:List (S51)) (a1:ByteArray):Option (ByteArray):=(cadenceref2_Kid.f k l0 a1).bind fun bt224=>(if bt224.2=true then (if (bt224.1.length:Int)=1 then (if 0 < (bt224.1.length:Int) then (some ((rd_T51 bt224.1 0).f0)) else (none)) else (some (⟨#[]⟩:ByteArray))) else (some (⟨#[]⟩:ByteArray)))
theorem cadencelaw12_value.mono:∀ a0 a1 k,LeO (cadencelaw12_value.f k a0 a1) (cadencelaw12_value.f (k+1) a0 a1):=by
 intro a0 a1 k
 unfold cadencelaw12_value.f
 repeat' first
   | (with_reducible exact cadenceref2_Kid.mono _ _ _)
   | (with_reducible exact LeO.refl _)
   | (with_reducible exact LeO.none _)
   | (with_reducible refine LeO.ite ?_ ?_)
   | (with_reducible refine LeO.bind ?_ (fun _=>?_))
   | exact cadenceref2_Kid.mono _ _ _
   | exact LeO.none _
   | refine LeO.ite ?_ ?_
   | refine LeO.bind ?_ (fun _=>?_)
set_option maxHeartbeats 8000000 in
set_option maxRecDepth 100000 in
theorem cadencelaw12_value.calls (k:Nat) (A0:Option Addr) (c0:Nat) (l0:List (S51)) (a1:ByteArray) (r:ByteArray) (w:World) (hr0:Kd.C k51 w A0 l0.length l0) (hc0:l0.length≤c0) (h:cadencelaw12_value.f k l0 a1=some r) :
  Calls Try.prog 12 #[.slice A0 l0.length c0,.string a1] w fun e w'=>e=.returned (.string r)∧Below w.heap.size w w':=by
 have HR0:=Aside0.mk hr0
 have HC0:=Aside0.mk hc0
 clear hr0 hc0
 have HB:=Aside0.mk (Below.refl w.heap.size w)
 have H:((cadenceref2_Kid.f k l0 a1).bind fun bt224=>(if bt224.2=true then (if (bt224.1.length:Int)=1 then (if 0 < (bt224.1.length:Int) then (some ((rd_T51 bt224.1 0).f0)) else (none)) else (some (⟨#[]⟩:ByteArray))) else (some (⟨#[]⟩:ByteArray))))=some r:=h
 clear h
 replace H:=Option.bind_eq_some_iff.mp H
 obtain ⟨⟨t224,t227⟩,A30,H⟩:=H
 replace H:(if t227=true then (if (t224.length:Int)=1 then (if 0 < (t224.length:Int) then (some ((rd_T51 t224 0).f0)) else (none)) else (some (⟨#[]⟩:ByteArray))) else (some (⟨#[]⟩:ByteArray)))=some r:=H
 have A3:=Aside0.mk A30
 clear A30
 by_cases c4:t227=true
 ·subst c4
  have H1:(if (t224.length:Int)=1 then (if 0 < (t224.length:Int) then (some ((rd_T51 t224 0).f0)) else (none)) else (some (⟨#[]⟩:ByteArray)))=some r:=by rw [if_pos rfl] at H;exact H
  clear H
  have H:=H1
  clear H1
  by_cases c5:(t224.length:Int)=1
  ·rw [if_pos c5] at H
   have c5b0:((t224.length:Int) == 1)=true:=beq_iff_eq.mpr c5
   have c5b1:((t224.length:Int) != 1)=false:=bne_eq_false_iff_eq.mpr c5
   clear c5
   by_cases c6:0 < (t224.length:Int)
   ·rw [if_pos c6] at H
    have c6b0:decide (0 < (t224.length:Int))=true:=decide_eq_true c6
    have c6b1:decide (0 < t224.length)=true:=decide_eq_true (by omega)
    clear c6
    obtain rfl:=Option.some.inj H
    go_enter Try.func12,Try.ntmps12
    go_wp2_with (first|((with_reducible refine gate_callee (f:=23) rfl ?_);refine goesL_ (some 10) rfl rfl Try.func23 (by kernel_rfl) rfl #[.slice A0 l0.length c0,.string a1] rfl (by (try simp only [List.map_toArray,List.map_cons,List.map_nil]);first|done|rfl|(simp only [List.length_drop,List.length_take];rfl)) ?_;(with_reducible refine (cadenceref2_Kid.calls k (fun k_=>k_ < w.heap.size) _ _ l0 a1 t224 true _ ?side1 A3.out).mono ?_);(case side1=>exact Kd.V_mk HC0.out (Kd.F_below (Kd.C_F k51_heap HR0.out) (by repeat (first|(with_reducible first|exact HB.out|apply bA_|apply bN_|apply bD_)|exact HB.out))));rintro e w7 ⟨v225,rfl,ho0,hb⟩;refine ⟨_,rfl,?_⟩;have n0_:=Aside0.mk (Kd.V_lower (Kd.V_mono (ok':=fun k_=>True) ho0 (fun k_ hk_=>trivial)) (below_size (by repeat (first|(with_reducible first|exact HB.out|apply bA_|apply bN_|apply bD_)|exact HB.out))));have n1_:=Aside0.mk (below_step (by repeat (first|(with_reducible first|exact HB.out|apply bA_|apply bN_|apply bD_)|exact HB.out)) hb);clear HB;have HO226:=n0_;have HB:=n1_;clear n0_ n1_;(try clear hb);(try clear hb2);(try clear hk);(try clear hi);(try clear ho0);obtain ⟨Ao8,co8,eo8⟩:=Kd.V_slice HO226.out;subst eo8;have p228:0≤(0:Int):=(by omega);have q228:0 < (t224.length:Int):=of_decide_eq_true (by first|(with_reducible assumption)|assumption);obtain ⟨ad228,A228_1,c228_1,e228,hx228_0,hx228_1,hl228_1,hi228_1⟩:=at_T51 (Kd.V_reads' HO226.out).2.2 0 p228 q228;cases e228;obtain ⟨ce228,hce228,hMe228,hcc228⟩:=Kd.V_get HO226.out z51 0 p228 (by first|exact q228|exact of_decide_eq_true (by first|(with_reducible assumption)|assumption)|(have e_:=(Kd.V_reads' HO226.out).1;omega));obtain ⟨ua228_1,uc228_1,rfl,ul228_1,ge228_1⟩:=k51_openF hMe228;have hv228_1:=hcc228 1 _ rfl;rw [add_field _ _ 1 (by omega)] at hv228_1;replace hv228_1:=Option.some.inj (hv228_1.symm.trans hx228_1);injection hv228_1 with hva_ hvn_ hvc_;rw [hva_] at ge228_1;rw [hvc_] at ul228_1;have HL228_1:=Aside0.mk (show Kd.V k51 51 _ w.heap.size _ _ ((rd_T51 t224 0).f1) from Kd.V_mk ul228_1 ge228_1);clear hva_ hvn_ hvc_ ge228_1 ul228_1;clear hcc228 hce228;have qi228:(0 < t224.length)=True:=eq_true (by omega);(try rw [show ((0:Int)).toNat=0 from rfl] at hx228_0);(try rw [show 0 * 2=0 from rfl] at hx228_0);(try rw [Addr.add_zero'] at hx228_0);(try rw [show ((0:Int)).toNat=0 from rfl] at hx228_1);(try rw [show 0 * 2=0 from rfl] at hx228_1);(try rw [Addr.add_zero'] at hx228_1);have HR228_1:=Aside0.mk hi228_1;have HC228_1:=Aside0.mk hl228_1;clear hi228_1 hl228_1;replace p228:=eq_true p228;replace q228:=eq_true q228))
    go_ret
    exact ⟨by first|rfl|(simp [errW_none,errW_some] <;> rfl)|(simp [*,errW_none,errW_some] <;> rfl),by repeat (first|(with_reducible first|exact HB.out|apply bA_|apply bN_|apply bD_)|exact HB.out)⟩
   ·rw [if_neg c6] at H
    exact absurd H (by simp)
  ·rw [if_neg c5] at H
   have c5b0:((t224.length:Int) == 1)=false:=beq_eq_false_iff_ne.mpr c5
   have c5b1:((t224.length:Int) != 1)=true:=bne_iff_ne.mpr c5
   obtain rfl:=Option.some.inj H
   go_enter Try.func12,Try.ntmps12
   go_wp2_with (first|((with_reducible refine gate_callee (f:=23) rfl ?_);refine goesL_ (some 10) rfl rfl Try.func23 (by kernel_rfl) rfl #[.slice A0 l0.length c0,.string a1] rfl (by (try simp only [List.map_toArray,List.map_cons,List.map_nil]);first|done|rfl|(simp only [List.length_drop,List.length_take];rfl)) ?_;(with_reducible refine (cadenceref2_Kid.calls k (fun k_=>k_ < w.heap.size) _ _ l0 a1 t224 true _ ?side1 A3.out).mono ?_);(case side1=>exact Kd.V_mk HC0.out (Kd.F_below (Kd.C_F k51_heap HR0.out) (by repeat (first|(with_reducible first|exact HB.out|apply bA_|apply bN_|apply bD_)|exact HB.out))));rintro e w9 ⟨v225,rfl,ho0,hb⟩;refine ⟨_,rfl,?_⟩;have n0_:=Aside0.mk (Kd.V_lower (Kd.V_mono (ok':=fun k_=>True) ho0 (fun k_ hk_=>trivial)) (below_size (by repeat (first|(with_reducible first|exact HB.out|apply bA_|apply bN_|apply bD_)|exact HB.out))));have n1_:=Aside0.mk (below_step (by repeat (first|(with_reducible first|exact HB.out|apply bA_|apply bN_|apply bD_)|exact HB.out)) hb);clear HB;have HO226:=n0_;have HB:=n1_;clear n0_ n1_;(try clear hb);(try clear hb2);(try clear hk);(try clear hi);(try clear ho0);obtain ⟨Ao10,co10,eo10⟩:=Kd.V_slice HO226.out;subst eo10))
   go_ret
   exact ⟨by first|rfl|(simp [errW_none,errW_some] <;> rfl)|(simp [*,errW_none,errW_some] <;> rfl),by repeat (first|(with_reducible first|exact HB.out|apply bA_|apply bN_|apply bD_)|exact HB.out)⟩
 ·replace c4:=Bool.eq_false_iff.mpr c4
  subst c4
  have H1:(some (⟨#[]⟩:ByteArray))=some r:=by rw [if_neg (show ¬ (false=true) by decide)] at H;exact H
  clear H
  have H:=H1
  clear H1
  obtain rfl:=Option.some.inj H
  go_enter Try.func12,Try.ntmps12
  go_wp2_with (first|((with_reducible refine gate_callee (f:=23) rfl ?_);refine goesL_ (some 10) rfl rfl Try.func23 (by kernel_rfl) rfl #[.slice A0 l0.length c0,.string a1] rfl (by (try simp only [List.map_toArray,List.map_cons,List.map_nil]);first|done|rfl|(simp only [List.length_drop,List.length_take];rfl)) ?_;(with_reducible refine (cadenceref2_Kid.calls k (fun k_=>k_ < w.heap.size) _ _ l0 a1 t224 false _ ?side1 A3.out).mono ?_);(case side1=>exact Kd.V_mk HC0.out (Kd.F_below (Kd.C_F k51_heap HR0.out) (by repeat (first|(with_reducible first|exact HB.out|apply bA_|apply bN_|apply bD_)|exact HB.out))));rintro e w11 ⟨v225,rfl,ho0,hb⟩;refine ⟨_,rfl,?_⟩;have n0_:=Aside0.mk (Kd.V_lower (Kd.V_mono (ok':=fun k_=>True) ho0 (fun k_ hk_=>trivial)) (below_size (by repeat (first|(with_reducible first|exact HB.out|apply bA_|apply bN_|apply bD_)|exact HB.out))));have n1_:=Aside0.mk (below_step (by repeat (first|(with_reducible first|exact HB.out|apply bA_|apply bN_|apply bD_)|exact HB.out)) hb);clear HB;have HO226:=n0_;have HB:=n1_;clear n0_ n1_;(try clear hb);(try clear hb2);(try clear hk);(try clear hi);(try clear ho0)))
  go_ret
  exact ⟨by first|rfl|(simp [errW_none,errW_some] <;> rfl)|(simp [*,errW_none,errW_some] <;> rfl),by repeat (first|(with_reducible first|exact HB.out|apply bA_|apply bN_|apply bD_)|exact HB.out)⟩
end Go.Proofs.Ytainbaehfdhmbaa.PX
set_option linter.unusedVariables false
set_option linter.unusedSimpArgs false
namespace Go.Proofs.Ytainbaehfdhmbaa.PX
open Go.RowKit Go.Proofs.YtainbaehfdhmbaaW.PrintWords Go.Proofs.YtainbaehfdhmbaaW.PrintLast Go.Proofs.YtainbaehfdhmbaaW.PrintMore Go.Proofs.Ytainbaehfdhmbaa
theorem toL_iff (a b : ByteArray) : a.toList = b.toList ↔ a = b := by
  rw [toList_tl, toList_tl]
  exact ⟨tl_inj, fun h => by rw [h]⟩
theorem toL_nil (a : ByteArray) : a.toList = [] ↔ tl a = [] := by rw [toList_tl]
theorem value_ev (t : Tr) (n : ByteArray) (hl : t.length ≤ 1000000000000) : Ev (fun k => cadencelaw12_value.f k t n) (valO (kidO (true, t) n)) := by
  refine Ev.bind (kid_ev t n hl) (Ev.fixed ?_)
  unfold kidO
  simp only
  generalize (kid t n).getD [] = x
  generalize (kid t n).isSome = b
  cases b with
  | false =>
    rw [if_neg Bool.false_ne_true]
    rfl
  | true =>
    rw [if_pos rfl]
    match x with
    | [] => rfl
    | [e] => rfl
    | e :: e' :: x =>
      rw [if_neg (by simp only [List.length_cons]; omega)]
      rfl
theorem within12_4 (a : Int) : ∃ r, cadencelaw12_within.f a 4 = some r := by
  unfold cadencelaw12_within.f
  rw [if_neg (by omega)]
  split
  · exact ⟨_, rfl⟩
  · exact ⟨_, rfl⟩
structure RInv (i : Nat) (t : Tr) : Prop where
  ok : Ok 10 2 t
  len : t.length ≤ i
  cell : ∀ n, Cell (kidO (true, t) n)
  names : ∀ n, (kid t n).isSome = true → n ∈ NS3.take i
theorem row_loop (n : Int) : ∀ (d i : Nat) (t : Tr), i + d = 3 → RInv i t → ∃ t', RowOk t' ∧ Ev (fun k => cadencelaw12_row.l0 k n t (i : Int)) t' := by
  intro d
  induction d with
  | zero =>
    intro i t hi h
    refine ⟨t, ⟨h.ok, h.cell, fun m hm => List.mem_of_mem_take (h.names m hm)⟩, Ev.up ?_⟩
    simp only [cadencelaw12_row.l0]
    exact Ev.congr (fun k => if_neg (by omega)) (Ev.now _)
  | succ d ih =>
    intro i t hi h
    have hlt : i < NS3.length := by show i < 3; omega
    have hr : rdOf ByteArray.empty NS3 (i : Int) = NS3[i] := rdOf_nat hlt
    have hw : wrap64 ((i : Int) + 1) = ((i + 1 : Nat) : Int) := wrap_succ (by omega)
    have hrd : ¬ rd [1, 4, 16] (i : Int) = 0 := by
      rcases (by omega : i = 0 ∨ i = 1 ∨ i = 2) with rfl | rfl | rfl <;> decide
    have hN : ((NS3.length : Nat) : Int) = 3 := rfl
    have hM : ((([1, 4, 16] : List Int).length : Nat) : Int) = 3 := rfl
    obtain ⟨r, hrr⟩ := within12_4 (wrap64 (Int.tdiv n (rd [1, 4, 16] (i : Int))))
    by_cases hp : r > 0
    · have hs : tl (strOfNums [wrap64 (48 + r) % 256]) ≠ [] := by
        show (strOfNums [wrap64 (48 + r) % 256]).data.toList ≠ []
        rw [strOfNums_data]
        simp
      have hx : Ok 10 1 [(⟨strOfNums [wrap64 (48 + r) % 256], []⟩ : Edge)] := ⟨by show 1 ≤ 10; omega, single_sorted _, fun z hz => by
        rw [List.mem_singleton] at hz
        subst hz
        exact Ok.nil _ _⟩
      have hwl := withT_length t NS3[i] [(⟨strOfNums [wrap64 (48 + r) % 256], []⟩ : Edge)]
      have hl := h.len
      have hnew : RInv (i + 1) (withT t NS3[i] [(⟨strOfNums [wrap64 (48 + r) % 256], []⟩ : Edge)]) := by
        refine ⟨h.ok.withT hx (by omega), by omega, fun m => ?_, fun m hm => ?_⟩
        · by_cases e : m = NS3[i]
          · exact .inr ⟨_, hs, by unfold kidO; simp only; rw [kid_withT h.ok.sorted, if_pos e]; rfl⟩
          · have := h.cell m
            unfold kidO at this ⊢
            simp only at this ⊢
            rw [kid_withT h.ok.sorted, if_neg e]
            exact this
        · rw [kid_withT h.ok.sorted] at hm
          rw [List.take_succ_eq_append_getElem hlt, List.mem_append, List.mem_singleton]
          by_cases e : m = NS3[i]
          · exact .inr e
          · rw [if_neg e] at hm
            exact .inl (h.names m hm)
      obtain ⟨t', ht', et⟩ := ih (i + 1) _ (by omega) hnew
      refine ⟨t', ht', Ev.up ?_⟩
      simp only [cadencelaw12_row.l0, Option.bind_some, hr, hw]
      refine Ev.congr (fun k => if_pos (by omega)) (Ev.congr (fun k => if_pos (by omega)) (Ev.congr (fun k => if_pos (by rw [hM]; omega)) (Ev.congr (fun k => if_neg hrd) ?_)))
      simp only [hrr, Option.bind_some, cadenceref2_Value.f]
      exact Ev.congr (fun k => if_pos hp) (Ev.congr (fun k => if_pos (by rw [hN]; omega)) (Ev.bind (with_ev t _ _ (by omega)) et))
    · obtain ⟨t', ht', et⟩ := ih (i + 1) t (by omega) ⟨h.ok, by have := h.len; omega, h.cell, fun m hm => by
        rw [List.take_succ_eq_append_getElem hlt, List.mem_append]
        exact .inl (h.names m hm)⟩
      refine ⟨t', ht', Ev.up ?_⟩
      simp only [cadencelaw12_row.l0, Option.bind_some, hr, hw]
      refine Ev.congr (fun k => if_pos (by omega)) (Ev.congr (fun k => if_pos (by omega)) (Ev.congr (fun k => if_pos (by rw [hM]; omega)) (Ev.congr (fun k => if_neg hrd) ?_)))
      simp only [hrr, Option.bind_some]
      exact Ev.congr (fun k => if_neg hp) et
theorem row_ev (n : Int) : ∃ t, RowOk t ∧ Ev (fun k => cadencelaw12_row.f k n) t :=
  row_loop n 3 0 [] (by omega) ⟨Ok.nil _ _, Nat.le_refl _, fun _ => .inl rfl, fun m hm => by cases hm⟩
theorem resC_len (n : ByteArray) (o a b : OT) : (resC n o a b).2.length ≤ 1 := by
  unfold resC
  split
  · simp
  · split
    · simp
    · split
      · simp
      · simp
def cntC (C : ByteArray → List Cf) (i : Nat) : Nat := ((NS3.take i).flatMap C).length
theorem cntC_succ (C : ByteArray → List Cf) {i : Nat} (h : i < NS3.length) : cntC C (i + 1) = cntC C i + (C NS3[i]).length := by
  unfold cntC
  rw [List.take_succ_eq_append_getElem h, List.flatMap_append, List.length_append, List.flatMap_cons, List.flatMap_nil, List.append_nil]
theorem cntC_le (C : ByteArray → List Cf) (hC : ∀ n, (C n).length ≤ 1) : ∀ i, cntC C i ≤ i
  | 0 => Nat.le_refl _
  | i + 1 => by
    by_cases h : i < NS3.length
    · rw [cntC_succ C h]
      have := cntC_le C hC i
      have := hC NS3[i]
      omega
    · have := cntC_le C hC i
      unfold cntC at this ⊢
      rw [List.take_of_length_le (by omega)] at this ⊢
      omega
theorem cntC_all (C : ByteArray → List Cf) : cntC C 3 = (NS3.flatMap C).length := rfl
theorem cntC_at (C : ByteArray → List Cf) {i : Nat} (h : i < NS3.length) {c : Cf} (hc : C NS3[i] = [c]) : cntC C i < (NS3.flatMap C).length ∧ rd_T38 (NS3.flatMap C) (cntC C i : Int) = c := by
  have e : NS3.flatMap C = (NS3.take i).flatMap C ++ (c :: (NS3.drop (i + 1)).flatMap C) := by
    have h1 : NS3 = NS3.take i ++ NS3[i] :: NS3.drop (i + 1) := by rw [List.getElem_cons_drop, List.take_append_drop]
    have h2 := congrArg (List.flatMap C) h1
    exact h2.trans (by rw [List.flatMap_append, List.flatMap_cons, hc]; rfl)
  have hcn : cntC C i = ((NS3.take i).flatMap C).length := rfl
  rw [e]
  constructor
  · rw [List.length_append, List.length_cons, hcn]
    omega
  · unfold rd_T38
    rw [Int.toNat_natCast, List.getD_eq_getElem?_getD, List.getElem?_append_right (by rw [hcn]; exact Nat.le_refl _), hcn, Nat.sub_self]
    rfl
end Go.Proofs.Ytainbaehfdhmbaa.PX
