/- Texts on the way to 'MergeRows', one behind the other (part 4). -/
import Derived.Test.YtainbaehfdhmbaaMMergeRows1
import Derived.Test.YtainbaehfdhmbaaMMergeRows3
import Derived.Test.YtainbaehfdhmbaaMMergeRows2
namespace Go.Proofs.Ytainbaehfdhmbaa.PX
open Go.RowKit Go.Proofs.YtainbaehfdhmbaaW.PrintWords Go.Proofs.YtainbaehfdhmbaaW.PrintLast Go.Proofs.YtainbaehfdhmbaaW.PrintMore
attribute [local go_sem] max2_int min2_int max_two min_two max_three min_three max_four min_four   
set_option linter.unusedVariables false
set_option linter.unusedSimpArgs false
def cadencelaw12_known.f  : Option (Bool):=(some (([(⟨(([(⟨(⟨true,([]:List ByteArray)⟩:S54),0,false⟩:S56)]:List (S56))),false,false⟩:S59)]:List (S59)):List (S59))).bind fun y108=>((merge_Merge.f y108 false ([]:List (S51)) false ([]:List (S51)) false ([]:List (S51))).bind fun bt111=>((cadencelaw12_some.f ([]:List (S51))).bind fun bt129=>((cadenceref2_Value.f (⟨#[118]⟩:ByteArray)).bind fun t133=>((cadencelaw12_some.f t133).bind fun bt136=>((cadencelaw12_some.f ([]:List (S51))).bind fun bt140=>((merge_Merge.f y108 bt129.1 bt129.2 bt136.1 bt136.2 bt140.1 bt140.2).bind fun bt144=>(if bt111.1=true then (none) else (if bt111.2.2.1=true then (none) else (if bt111.2.2.2.2.1=true then (none) else (if (bt111.2.2.2.2.2.2.length:Int)=0 then (if bt144.1=true then (if bt144.2.2.1=true then (if bt144.2.2.2.2.1=true then (if (bt144.2.2.2.2.2.1.length:Int)=1 then (some ((bt144.2.2.2.2.2.2.length:Int) == 0)) else (none)) else (none)) else (none)) else (none)) else (none)))))))))))
set_option maxHeartbeats 8000000 in
set_option maxRecDepth 100000 in
theorem cadencelaw12_known.calls  (r:Bool) (w:World) (h:cadencelaw12_known.f  = some r) :
  Calls Try.prog 7 #[] w fun e w'=>e=.returned (.bool r)∧Below w.heap.size w w':=by
 have hu54:=Try.underlying54
 have hu56:=Try.underlying56
 have hu59:=Try.underlying59
 have hu26:=Try.underlying26
 have HB:=Aside0.mk (Below.refl w.heap.size w)
 have H:((some (([(⟨(([(⟨(⟨true,([]:List ByteArray)⟩:S54),0,false⟩:S56)]:List (S56))),false,false⟩:S59)]:List (S59)):List (S59))).bind fun y108=>((merge_Merge.f y108 false ([]:List (S51)) false ([]:List (S51)) false ([]:List (S51))).bind fun bt111=>((cadencelaw12_some.f ([]:List (S51))).bind fun bt129=>((cadenceref2_Value.f (⟨#[118]⟩:ByteArray)).bind fun t133=>((cadencelaw12_some.f t133).bind fun bt136=>((cadencelaw12_some.f ([]:List (S51))).bind fun bt140=>((merge_Merge.f y108 bt129.1 bt129.2 bt136.1 bt136.2 bt140.1 bt140.2).bind fun bt144=>(if bt111.1=true then (none) else (if bt111.2.2.1=true then (none) else (if bt111.2.2.2.2.1=true then (none) else (if (bt111.2.2.2.2.2.2.length:Int)=0 then (if bt144.1=true then (if bt144.2.2.1=true then (if bt144.2.2.2.2.1=true then (if (bt144.2.2.2.2.2.1.length:Int)=1 then (some ((bt144.2.2.2.2.2.2.length:Int) == 0)) else (none)) else (none)) else (none)) else (none)) else (none))))))))))))=some r:=h
 clear h
 obtain ⟨y105,hy105⟩:∃ y_:List (S56),y_=(([(⟨(⟨true,([]:List ByteArray)⟩:S54),0,false⟩:S56)]:List (S56))):=⟨_,rfl⟩
 replace H:((some (([(⟨y105,false,false⟩:S59)]:List (S59)):List (S59))).bind fun y108=>((merge_Merge.f y108 false ([]:List (S51)) false ([]:List (S51)) false ([]:List (S51))).bind fun bt111=>((cadencelaw12_some.f ([]:List (S51))).bind fun bt129=>((cadenceref2_Value.f (⟨#[118]⟩:ByteArray)).bind fun t133=>((cadencelaw12_some.f t133).bind fun bt136=>((cadencelaw12_some.f ([]:List (S51))).bind fun bt140=>((merge_Merge.f y108 bt129.1 bt129.2 bt136.1 bt136.2 bt140.1 bt140.2).bind fun bt144=>(if bt111.1=true then (none) else (if bt111.2.2.1=true then (none) else (if bt111.2.2.2.2.1=true then (none) else (if (bt111.2.2.2.2.2.2.length:Int)=0 then (if bt144.1=true then (if bt144.2.2.1=true then (if bt144.2.2.2.2.1=true then (if (bt144.2.2.2.2.2.1.length:Int)=1 then (some ((bt144.2.2.2.2.2.2.length:Int) == 0)) else (none)) else (none)) else (none)) else (none)) else (none))))))))))))=some r:=by first|(rw [hy105];with_reducible exact H)|(have H2_:=(Option.bind_some _ _).symm.trans H;rw [hy105];with_reducible exact H2_)|(have H2_:=(Option.bind_some _ _).symm.trans H;with_reducible exact H2_)|with_reducible exact H|(rw [hy105];exact H)|exact H
 have Ny105:=Aside0.mk hy105
 clear hy105
 obtain ⟨y108,hy108⟩:∃ y_:List (S59),y_=(([(⟨y105,false,false⟩:S59)]:List (S59))):=⟨_,rfl⟩
 replace H:((merge_Merge.f y108 false ([]:List (S51)) false ([]:List (S51)) false ([]:List (S51))).bind fun bt111=>((cadencelaw12_some.f ([]:List (S51))).bind fun bt129=>((cadenceref2_Value.f (⟨#[118]⟩:ByteArray)).bind fun t133=>((cadencelaw12_some.f t133).bind fun bt136=>((cadencelaw12_some.f ([]:List (S51))).bind fun bt140=>((merge_Merge.f y108 bt129.1 bt129.2 bt136.1 bt136.2 bt140.1 bt140.2).bind fun bt144=>(if bt111.1=true then (none) else (if bt111.2.2.1=true then (none) else (if bt111.2.2.2.2.1=true then (none) else (if (bt111.2.2.2.2.2.2.length:Int)=0 then (if bt144.1=true then (if bt144.2.2.1=true then (if bt144.2.2.2.2.1=true then (if (bt144.2.2.2.2.2.1.length:Int)=1 then (some ((bt144.2.2.2.2.2.2.length:Int) == 0)) else (none)) else (none)) else (none)) else (none)) else (none)))))))))))=some r:=by first|(rw [hy108];with_reducible exact H)|(have H2_:=(Option.bind_some _ _).symm.trans H;rw [hy108];with_reducible exact H2_)|(have H2_:=(Option.bind_some _ _).symm.trans H;with_reducible exact H2_)|with_reducible exact H|(rw [hy108];exact H)|exact H
 have Ny108:=Aside0.mk hy108
 clear hy108
 replace H:=Option.bind_eq_some_iff.mp H
 obtain ⟨⟨t111,t112,t115,t116,t119,t120,t123⟩,A10,H⟩:=H
 replace H:((cadencelaw12_some.f ([]:List (S51))).bind fun bt129=>((cadenceref2_Value.f (⟨#[118]⟩:ByteArray)).bind fun t133=>((cadencelaw12_some.f t133).bind fun bt136=>((cadencelaw12_some.f ([]:List (S51))).bind fun bt140=>((merge_Merge.f y108 bt129.1 bt129.2 bt136.1 bt136.2 bt140.1 bt140.2).bind fun bt144=>(if t111=true then (none) else (if t115=true then (none) else (if t119=true then (none) else (if (t123.length:Int)=0 then (if bt144.1=true then (if bt144.2.2.1=true then (if bt144.2.2.2.2.1=true then (if (bt144.2.2.2.2.2.1.length:Int)=1 then (some ((bt144.2.2.2.2.2.2.length:Int) == 0)) else (none)) else (none)) else (none)) else (none)) else (none))))))))))=some r:=H
 have A1:=Aside0.mk A10
 clear A10
 replace H:=Option.bind_eq_some_iff.mp H
 obtain ⟨⟨t129,t130⟩,A20,H⟩:=H
 replace H:((cadenceref2_Value.f (⟨#[118]⟩:ByteArray)).bind fun t133=>((cadencelaw12_some.f t133).bind fun bt136=>((cadencelaw12_some.f ([]:List (S51))).bind fun bt140=>((merge_Merge.f y108 t129 t130 bt136.1 bt136.2 bt140.1 bt140.2).bind fun bt144=>(if t111=true then (none) else (if t115=true then (none) else (if t119=true then (none) else (if (t123.length:Int)=0 then (if bt144.1=true then (if bt144.2.2.1=true then (if bt144.2.2.2.2.1=true then (if (bt144.2.2.2.2.2.1.length:Int)=1 then (some ((bt144.2.2.2.2.2.2.length:Int) == 0)) else (none)) else (none)) else (none)) else (none)) else (none)))))))))=some r:=H
 have A2:=Aside0.mk A20
 clear A20
 replace H:=Option.bind_eq_some_iff.mp H
 obtain ⟨t133,A30,H⟩:=H
 replace H:((cadencelaw12_some.f t133).bind fun bt136=>((cadencelaw12_some.f ([]:List (S51))).bind fun bt140=>((merge_Merge.f y108 t129 t130 bt136.1 bt136.2 bt140.1 bt140.2).bind fun bt144=>(if t111=true then (none) else (if t115=true then (none) else (if t119=true then (none) else (if (t123.length:Int)=0 then (if bt144.1=true then (if bt144.2.2.1=true then (if bt144.2.2.2.2.1=true then (if (bt144.2.2.2.2.2.1.length:Int)=1 then (some ((bt144.2.2.2.2.2.2.length:Int) == 0)) else (none)) else (none)) else (none)) else (none)) else (none))))))))=some r:=H
 have A3:=Aside0.mk A30
 clear A30
 replace H:=Option.bind_eq_some_iff.mp H
 obtain ⟨⟨t136,t137⟩,A40,H⟩:=H
 replace H:((cadencelaw12_some.f ([]:List (S51))).bind fun bt140=>((merge_Merge.f y108 t129 t130 t136 t137 bt140.1 bt140.2).bind fun bt144=>(if t111=true then (none) else (if t115=true then (none) else (if t119=true then (none) else (if (t123.length:Int)=0 then (if bt144.1=true then (if bt144.2.2.1=true then (if bt144.2.2.2.2.1=true then (if (bt144.2.2.2.2.2.1.length:Int)=1 then (some ((bt144.2.2.2.2.2.2.length:Int) == 0)) else (none)) else (none)) else (none)) else (none)) else (none)))))))=some r:=H
 have A4:=Aside0.mk A40
 clear A40
 replace H:=Option.bind_eq_some_iff.mp H
 obtain ⟨⟨t140,t141⟩,A50,H⟩:=H
 replace H:((merge_Merge.f y108 t129 t130 t136 t137 t140 t141).bind fun bt144=>(if t111=true then (none) else (if t115=true then (none) else (if t119=true then (none) else (if (t123.length:Int)=0 then (if bt144.1=true then (if bt144.2.2.1=true then (if bt144.2.2.2.2.1=true then (if (bt144.2.2.2.2.2.1.length:Int)=1 then (some ((bt144.2.2.2.2.2.2.length:Int) == 0)) else (none)) else (none)) else (none)) else (none)) else (none))))))=some r:=H
 have A5:=Aside0.mk A50
 clear A50
 replace H:=Option.bind_eq_some_iff.mp H
 obtain ⟨⟨t144,t145,t148,t149,t152,t153,t156⟩,A60,H⟩:=H
 replace H:(if t111=true then (none) else (if t115=true then (none) else (if t119=true then (none) else (if (t123.length:Int)=0 then (if t144=true then (if t148=true then (if t152=true then (if (t153.length:Int)=1 then (some ((t156.length:Int) == 0)) else (none)) else (none)) else (none)) else (none)) else (none)))))=some r:=H
 have A6:=Aside0.mk A60
 clear A60
 by_cases c7:t111=true
 ·subst c7
  have H1:(none)=some r:=by rw [if_pos rfl] at H;exact H
  clear H
  have H:=H1
  clear H1
  exact absurd H (by simp)
 ·replace c7:=Bool.eq_false_iff.mpr c7
  subst c7
  have H1:(if t115=true then (none) else (if t119=true then (none) else (if (t123.length:Int)=0 then (if t144=true then (if t148=true then (if t152=true then (if (t153.length:Int)=1 then (some ((t156.length:Int) == 0)) else (none)) else (none)) else (none)) else (none)) else (none))))=some r:=by rw [if_neg (show ¬ (false=true) by decide)] at H;exact H
  clear H
  have H:=H1
  clear H1
  by_cases c8:t115=true
  ·subst c8
   have H1:(none)=some r:=by rw [if_pos rfl] at H;exact H
   clear H
   have H:=H1
   clear H1
   exact absurd H (by simp)
  ·replace c8:=Bool.eq_false_iff.mpr c8
   subst c8
   have H1:(if t119=true then (none) else (if (t123.length:Int)=0 then (if t144=true then (if t148=true then (if t152=true then (if (t153.length:Int)=1 then (some ((t156.length:Int) == 0)) else (none)) else (none)) else (none)) else (none)) else (none)))=some r:=by rw [if_neg (show ¬ (false=true) by decide)] at H;exact H
   clear H
   have H:=H1
   clear H1
   by_cases c9:t119=true
   ·subst c9
    have H1:(none)=some r:=by rw [if_pos rfl] at H;exact H
    clear H
    have H:=H1
    clear H1
    exact absurd H (by simp)
   ·replace c9:=Bool.eq_false_iff.mpr c9
    subst c9
    have H1:(if (t123.length:Int)=0 then (if t144=true then (if t148=true then (if t152=true then (if (t153.length:Int)=1 then (some ((t156.length:Int) == 0)) else (none)) else (none)) else (none)) else (none)) else (none))=some r:=by rw [if_neg (show ¬ (false=true) by decide)] at H;exact H
    clear H
    have H:=H1
    clear H1
    by_cases c10:(t123.length:Int)=0
    ·rw [if_pos c10] at H
     have c10b0:((t123.length:Int) == 0)=true:=beq_iff_eq.mpr c10
     have c10b1:((t123.length:Int) != 0)=false:=bne_eq_false_iff_eq.mpr c10
     clear c10
     by_cases c11:t144=true
     ·subst c11
      have H1:(if t148=true then (if t152=true then (if (t153.length:Int)=1 then (some ((t156.length:Int) == 0)) else (none)) else (none)) else (none))=some r:=by rw [if_pos rfl] at H;exact H
      clear H
      have H:=H1
      clear H1
      by_cases c12:t148=true
      ·subst c12
       have H1:(if t152=true then (if (t153.length:Int)=1 then (some ((t156.length:Int) == 0)) else (none)) else (none))=some r:=by rw [if_pos rfl] at H;exact H
       clear H
       have H:=H1
       clear H1
       by_cases c13:t152=true
       ·subst c13
        have H1:(if (t153.length:Int)=1 then (some ((t156.length:Int) == 0)) else (none))=some r:=by rw [if_pos rfl] at H;exact H
        clear H
        have H:=H1
        clear H1
        by_cases c14:(t153.length:Int)=1
        ·rw [if_pos c14] at H
         have c14b0:((t153.length:Int) == 1)=true:=beq_iff_eq.mpr c14
         have c14b1:((t153.length:Int) != 1)=false:=bne_eq_false_iff_eq.mpr c14
         clear c14
         obtain rfl:=Option.some.inj H
         go_enter Try.func7,Try.ntmps7
         go_wp2_with (first|((with_reducible refine gate_dst (N:=12) rfl ?_);(try (refine gate_guard (by rfl) ?_;dsimp only));refine Kd.N_lit k56 _ 56 ?hg (N':=12) ?hd (xs:=([(⟨(⟨true,([]:List ByteArray)⟩:S54),0,false⟩:S56)]:List (S56))) (inner:=[.bool true,.slice none 0 0,.int .i64 0,.bool false]) (ok:=(fun _=>True)) (okp:=(fun _=>True)) ?hr ?hp (fun _ hk=>hk) ((show ∀ k_,w.heap.size≤k_→(fun _=>True) k_ from fun k_ hk=>trivial) _ (Nat.le_refl _)) (Below.refl _ _) (Nat.le_refl _) (by simp) ?_;(case hd=>rfl);(case hg=>rfl);(case hr=>first|(go_simp;done)|(go_simp;rfl));(case hp=>exact (Reps.c4 (show Kd.FK k56 _ _ (⟨(⟨true,([]:List ByteArray)⟩:S54),0,false⟩:S56) [.bool true,.slice none 0 0,.int .i64 0,.bool false] from (k56_mkF _ _ (⟨(⟨true,([]:List ByteArray)⟩:S54),0,false⟩:S56) (Nat.le_refl _) (Kd.F_nil _ _ _))) (Reps.none _ _)));intro v106 w15 ho16 hb hg_ hnew_;clear hg_ hnew_;(first|rw [← Ny105.out] at ho16|(simp only [Int.reduceToNat] at ho16;rw [← Ny105.out] at ho16));have n0_:=Aside0.mk (Kd.N_lower ho16 (below_size (by repeat (first|(with_reducible first|exact HB.out|apply bA_|apply bN_|apply bD_)|exact HB.out))));have n1_:=Aside0.mk (below_step (by repeat (first|(with_reducible first|exact HB.out|apply bA_|apply bN_|apply bD_)|exact HB.out)) hb);clear HB;have HO107:=n0_;have HB:=n1_;clear n0_ n1_;clear hb ho16;obtain ⟨Ao17,co17,eo17⟩:=Kd.N_slice HO107.out;subst eo17)|((with_reducible refine gate_dst (N:=14) rfl ?_);(try (refine gate_guard (by rfl) ?_;dsimp only));refine Kd.N_lit k59 _ 59 ?hg (N':=14) ?hd (xs:=([(⟨y105,false,false⟩:S59)]:List (S59))) (inner:=[.slice Ao17 y105.length co17,.bool false,.bool false]) (ok:=(fun _=>True)) (okp:=(fun _=>True)) ?hr ?hp (fun _ hk=>hk) ((show ∀ k_,w15.heap.size≤k_→(fun _=>True) k_ from fun k_ hk=>trivial) _ (Nat.le_refl _)) (Below.refl _ _) (Nat.le_refl _) (by simp) ?_;(case hd=>rfl);(case hg=>rfl);(case hr=>first|(go_simp;done)|(go_simp;rfl));(case hp=>exact (Reps.c3 (show Kd.FK k59 _ _ (⟨y105,false,false⟩:S59) [.slice Ao17 y105.length co17,.bool false,.bool false] from (k59_mkF _ _ (⟨y105,false,false⟩:S59) (Kd.N_reads' (Kd.N_mono (ok':=(fun _=>True)) (HO107.out) (fun k_ hk=>trivial))).2.1 (Kd.N_F (Kd.N_mono (ok':=(fun _=>True)) (HO107.out) (fun k_ hk=>trivial))))) (Reps.none _ _)));intro v109 w18 ho19 hb hg_ hnew_;clear hg_ hnew_;(first|rw [← Ny108.out] at ho19|(simp only [Int.reduceToNat] at ho19;rw [← Ny108.out] at ho19));have n0_:=Aside0.mk (Kd.N_lower ho19 (below_size (by repeat (first|(with_reducible first|exact HB.out|apply bA_|apply bN_|apply bD_)|exact HB.out))));have n1_:=Aside0.mk (below_step (by repeat (first|(with_reducible first|exact HB.out|apply bA_|apply bN_|apply bD_)|exact HB.out)) hb);clear HB;clear HO107;have HO110:=n0_;have HB:=n1_;clear n0_ n1_;clear hb ho19;obtain ⟨Ao20,co20,eo20⟩:=Kd.N_slice HO110.out;subst eo20)|((with_reducible refine gate_callee (f:=8) rfl ?_);refine goesL_ (some 20) rfl rfl Try.func8 (by kernel_rfl) rfl #[.slice Ao20 y108.length co20,.agg #[.bool false,.slice none 0 0],.agg #[.bool false,.slice none 0 0],.agg #[.bool false,.slice none 0 0]] rfl (by (try simp only [List.map_toArray,List.map_cons,List.map_nil]);first|done|rfl|(simp only [List.length_drop,List.length_take];rfl)) ?_;(refine (merge_Merge.calls (fun k_=>True) _ _ y108 false (fun k_=>False) _ _ ([]:List (S51)) false (fun k_=>False) _ _ ([]:List (S51)) false (fun k_=>False) _ _ ([]:List (S51)) false t112 false t116 false t120 t123 _ ?side1 ?side2 ?side3 ?side4 A1.out).mono ?_);(case side1=>exact Kd.N_V (HO110.out));(case side2=>exact Kd.V_nil _ _ _ _ _);(case side3=>exact Kd.V_nil _ _ _ _ _);(case side4=>exact Kd.V_nil _ _ _ _ _);rintro e w21 ⟨v113,v117,v121,v124,rfl,ho0,ho1,ho2,ho3,hb⟩;refine ⟨_,rfl,?_⟩;have n0_:=Aside0.mk (Kd.N_elder' (by (with_reducible repeat (first|apply nA_|apply nN_|apply nD_));exact HO110.out) (Kd.N_base ho3) hb);have n1_:=Aside0.mk (Kd.V_lower (Kd.V_mono (ok':=fun k_=>some k_≠(v124:Value).ownBlock) ho0 (fun k_ hk_=>hk_.2)) (below_size (by repeat (first|(with_reducible first|exact HB.out|apply bA_|apply bN_|apply bD_)|exact HB.out))));have n2_:=Aside0.mk (Kd.V_lower (Kd.V_mono (ok':=fun k_=>some k_≠(v124:Value).ownBlock) ho1 (fun k_ hk_=>hk_.2)) (below_size (by repeat (first|(with_reducible first|exact HB.out|apply bA_|apply bN_|apply bD_)|exact HB.out))));have n3_:=Aside0.mk (Kd.V_lower (Kd.V_mono (ok':=fun k_=>some k_≠(v124:Value).ownBlock) ho2 (fun k_ hk_=>hk_.2)) (below_size (by repeat (first|(with_reducible first|exact HB.out|apply bA_|apply bN_|apply bD_)|exact HB.out))));have n4_:=Aside0.mk (Kd.N_lower (Kd.N_mono (ok':=fun k_=>True) ho3 (fun k_ hk_=>trivial)) (below_size (by repeat (first|(with_reducible first|exact HB.out|apply bA_|apply bN_|apply bD_)|exact HB.out))));have n5_:=Aside0.mk (below_step (by repeat (first|(with_reducible first|exact HB.out|apply bA_|apply bN_|apply bD_)|exact HB.out)) hb);clear HO110;clear HB;have HO110:=n0_;have HO114:=n1_;have HO118:=n2_;have HO122:=n3_;have HO125:=n4_;have HB:=n5_;clear n0_ n1_ n2_ n3_ n4_ n5_;(try clear hb);(try clear hb2);(try clear hk);(try clear hi);(try clear ho0);(try clear ho1);(try clear ho2);(try clear ho3))|((with_reducible refine gate_dst (N:=2) rfl ?_);(try (refine gate_guard (by rfl) ?_;dsimp only));refine box_event ?hg (N:=2) ?hd (cs:=#[.bool false,.slice none 0 0]) (t:=26) ?hr ?_;(case hd=>rfl);(case hg=>rfl);(case hr=>first|(go_simp;done)|(go_simp;rfl));intro gb126 hg w22 hbox hb;have n0_:=Aside0.mk (Kd.N_below (Kd.N_elderB (by (with_reducible repeat (first|apply nA_|apply nN_|apply nD_));exact HO110.out) gb126 (Nat.le_of_eq hg.symm)) hb);have n1_:=Aside0.mk (Kd.V_below (Kd.V_elderB (by (with_reducible repeat (first|apply vA_|apply vN_|apply vD_));exact HO114.out) gb126 (Nat.le_of_eq hg.symm)) hb);have n2_:=Aside0.mk (Kd.V_below (Kd.V_elderB (by (with_reducible repeat (first|apply vA_|apply vN_|apply vD_));exact HO118.out) gb126 (Nat.le_of_eq hg.symm)) hb);have n3_:=Aside0.mk (Kd.V_below (Kd.V_elderB (by (with_reducible repeat (first|apply vA_|apply vN_|apply vD_));exact HO122.out) gb126 (Nat.le_of_eq hg.symm)) hb);have n4_:=Aside0.mk (Kd.N_below (Kd.N_elderB (by (with_reducible repeat (first|apply nA_|apply nN_|apply nD_));exact HO125.out) gb126 (Nat.le_of_eq hg.symm)) hb);have n5_:=Aside0.mk (below_step (by repeat (first|(with_reducible first|exact HB.out|apply bA_|apply bN_|apply bD_)|exact HB.out)) hb);have n6_:=Aside0.mk (hbox);have n7_:=Aside0.mk ((by rw [hg];exact (below_size (by repeat (first|(with_reducible first|exact HB.out|apply bA_|apply bN_|apply bD_)|exact HB.out))):w.heap.size≤gb126));have n8_:=Aside0.mk ((by rw [hg];exact (below_size (by repeat (first|(with_reducible first|exact HB.out|apply bA_|apply bN_|apply bD_)|exact HB.out))):w.heap.size≤gb126));clear HO110;clear HO114;clear HO118;clear HO122;clear HO125;clear HB;have HO110:=n0_;have HO114:=n1_;have HO118:=n2_;have HO122:=n3_;have HO125:=n4_;have HB:=n5_;have BK126:=n6_;have GW126:=n7_;have GE126:=n8_;clear n0_ n1_ n2_ n3_ n4_ n5_ n6_ n7_ n8_;clear hb hbox hg)|((with_reducible refine gate_dst (N:=3) rfl ?_);(try (refine gate_guard (by rfl) ?_;dsimp only));refine box_event ?hg (N:=3) ?hd (cs:=#[.bool false,.slice none 0 0]) (t:=26) ?hr ?_;(case hd=>rfl);(case hg=>rfl);(case hr=>first|(go_simp;done)|(go_simp;rfl));intro gb127 hg w23 hbox hb;have n0_:=Aside0.mk (Kd.N_below (Kd.N_elderB (by (with_reducible repeat (first|apply nA_|apply nN_|apply nD_));exact HO110.out) gb127 (Nat.le_of_eq hg.symm)) hb);have n1_:=Aside0.mk (Kd.V_below (Kd.V_elderB (by (with_reducible repeat (first|apply vA_|apply vN_|apply vD_));exact HO114.out) gb127 (Nat.le_of_eq hg.symm)) hb);have n2_:=Aside0.mk (Kd.V_below (Kd.V_elderB (by (with_reducible repeat (first|apply vA_|apply vN_|apply vD_));exact HO118.out) gb127 (Nat.le_of_eq hg.symm)) hb);have n3_:=Aside0.mk (Kd.V_below (Kd.V_elderB (by (with_reducible repeat (first|apply vA_|apply vN_|apply vD_));exact HO122.out) gb127 (Nat.le_of_eq hg.symm)) hb);have n4_:=Aside0.mk (Kd.N_below (Kd.N_elderB (by (with_reducible repeat (first|apply nA_|apply nN_|apply nD_));exact HO125.out) gb127 (Nat.le_of_eq hg.symm)) hb);have n5_:=Aside0.mk (blk_below (g:=gb126) (o:=.cells #[.bool false,.slice none 0 0] 26 (0,0)) (by (with_reducible repeat (first|refine blk_drewN ?_ _|refine blk_drew ?_|refine blk_alloc ?_ _));exact BK126.out) hb);have n6_:=Aside0.mk (below_step (by repeat (first|(with_reducible first|exact HB.out|apply bA_|apply bN_|apply bD_|refine below_set ?_ GE126.out)|exact HB.out)) hb);have n7_:=Aside0.mk (hbox);have n8_:=Aside0.mk ((by rw [hg];exact (below_size (by repeat (first|(with_reducible first|exact HB.out|apply bA_|apply bN_|apply bD_|refine below_set ?_ GE126.out)|exact HB.out))):w.heap.size≤gb127));have n9_:=Aside0.mk ((by rw [hg];exact (below_size (by repeat (first|(with_reducible first|exact HB.out|apply bA_|apply bN_|apply bD_|refine below_set ?_ GE126.out)|exact HB.out))):w.heap.size≤gb127));have n10_:=Aside0.mk ((by rw [hg];exact Nat.ne_of_lt (blk_lt (g:=gb126) (o:=.cells #[.bool false,.slice none 0 0] 26 (0,0)) (by (with_reducible repeat (first|refine blk_drewN ?_ _|refine blk_drew ?_|refine blk_alloc ?_ _));exact BK126.out)):gb126≠gb127));have n11_:=Aside0.mk ((by rw [hg];exact Nat.ne_of_gt (blk_lt (g:=gb126) (o:=.cells #[.bool false,.slice none 0 0] 26 (0,0)) (by (with_reducible repeat (first|refine blk_drewN ?_ _|refine blk_drew ?_|refine blk_alloc ?_ _));exact BK126.out)):gb127≠gb126));clear HO110;clear HO114;clear HO118;clear HO122;clear HO125;clear BK126;clear HB;have HO110:=n0_;have HO114:=n1_;have HO118:=n2_;have HO122:=n3_;have HO125:=n4_;have BK126:=n5_;have HB:=n6_;have BK127:=n7_;have GW127:=n8_;have GE127:=n9_;have NB126_127:=n10_;have NB127_126:=n11_;clear n0_ n1_ n2_ n3_ n4_ n5_ n6_ n7_ n8_ n9_ n10_ n11_;clear hb hbox hg)|((with_reducible refine gate_dst (N:=4) rfl ?_);(try (refine gate_guard (by rfl) ?_;dsimp only));refine box_event ?hg (N:=4) ?hd (cs:=#[.bool false,.slice none 0 0]) (t:=26) ?hr ?_;(case hd=>rfl);(case hg=>rfl);(case hr=>first|(go_simp;done)|(go_simp;rfl));intro gb128 hg w24 hbox hb;have n0_:=Aside0.mk (Kd.N_below (Kd.N_elderB (by (with_reducible repeat (first|apply nA_|apply nN_|apply nD_));exact HO110.out) gb128 (Nat.le_of_eq hg.symm)) hb);have n1_:=Aside0.mk (Kd.V_below (Kd.V_elderB (by (with_reducible repeat (first|apply vA_|apply vN_|apply vD_));exact HO114.out) gb128 (Nat.le_of_eq hg.symm)) hb);have n2_:=Aside0.mk (Kd.V_below (Kd.V_elderB (by (with_reducible repeat (first|apply vA_|apply vN_|apply vD_));exact HO118.out) gb128 (Nat.le_of_eq hg.symm)) hb);have n3_:=Aside0.mk (Kd.V_below (Kd.V_elderB (by (with_reducible repeat (first|apply vA_|apply vN_|apply vD_));exact HO122.out) gb128 (Nat.le_of_eq hg.symm)) hb);have n4_:=Aside0.mk (Kd.N_below (Kd.N_elderB (by (with_reducible repeat (first|apply nA_|apply nN_|apply nD_));exact HO125.out) gb128 (Nat.le_of_eq hg.symm)) hb);have n5_:=Aside0.mk (blk_below (g:=gb126) (o:=.cells #[.bool false,.slice none 0 0] 26 (0,0)) (by (with_reducible repeat (first|refine blk_drewN ?_ _|refine blk_drew ?_|refine blk_alloc ?_ _));exact BK126.out) hb);have n6_:=Aside0.mk (blk_below (g:=gb127) (o:=.cells #[.bool false,.slice none 0 0] 26 (0,0)) (by (with_reducible repeat (first|refine blk_drewN ?_ _|refine blk_drew ?_|refine blk_alloc ?_ _));exact BK127.out) hb);have n7_:=Aside0.mk (below_step (by repeat (first|(with_reducible first|exact HB.out|apply bA_|apply bN_|apply bD_|refine below_set ?_ GE126.out|refine below_set ?_ GE127.out)|exact HB.out)) hb);have n8_:=Aside0.mk (hbox);have n9_:=Aside0.mk ((by rw [hg];exact (below_size (by repeat (first|(with_reducible first|exact HB.out|apply bA_|apply bN_|apply bD_|refine below_set ?_ GE126.out|refine below_set ?_ GE127.out)|exact HB.out))):w.heap.size≤gb128));have n10_:=Aside0.mk ((by rw [hg];exact (below_size (by repeat (first|(with_reducible first|exact HB.out|apply bA_|apply bN_|apply bD_|refine below_set ?_ GE126.out|refine below_set ?_ GE127.out)|exact HB.out))):w.heap.size≤gb128));have n11_:=Aside0.mk ((by rw [hg];exact Nat.ne_of_lt (blk_lt (g:=gb126) (o:=.cells #[.bool false,.slice none 0 0] 26 (0,0)) (by (with_reducible repeat (first|refine blk_drewN ?_ _|refine blk_drew ?_|refine blk_alloc ?_ _));exact BK126.out)):gb126≠gb128));have n12_:=Aside0.mk ((by rw [hg];exact Nat.ne_of_gt (blk_lt (g:=gb126) (o:=.cells #[.bool false,.slice none 0 0] 26 (0,0)) (by (with_reducible repeat (first|refine blk_drewN ?_ _|refine blk_drew ?_|refine blk_alloc ?_ _));exact BK126.out)):gb128≠gb126));have n13_:=Aside0.mk ((by rw [hg];exact Nat.ne_of_lt (blk_lt (g:=gb127) (o:=.cells #[.bool false,.slice none 0 0] 26 (0,0)) (by (with_reducible repeat (first|refine blk_drewN ?_ _|refine blk_drew ?_|refine blk_alloc ?_ _));exact BK127.out)):gb127≠gb128));have n14_:=Aside0.mk ((by rw [hg];exact Nat.ne_of_gt (blk_lt (g:=gb127) (o:=.cells #[.bool false,.slice none 0 0] 26 (0,0)) (by (with_reducible repeat (first|refine blk_drewN ?_ _|refine blk_drew ?_|refine blk_alloc ?_ _));exact BK127.out)):gb128≠gb127));clear HO110;clear HO114;clear HO118;clear HO122;clear HO125;clear BK126;clear BK127;clear HB;have HO110:=n0_;have HO114:=n1_;have HO118:=n2_;have HO122:=n3_;have HO125:=n4_;have BK126:=n5_;have BK127:=n6_;have HB:=n7_;have BK128:=n8_;have GW128:=n9_;have GE128:=n10_;have NB126_128:=n11_;have NB128_126:=n12_;have NB127_128:=n13_;have NB128_127:=n14_;clear n0_ n1_ n2_ n3_ n4_ n5_ n6_ n7_ n8_ n9_ n10_ n11_ n12_ n13_ n14_;clear hb hbox hg;have hnb25:=NB126_127.out;have hnc25:=NB127_126.out;have hnb26:=NB126_128.out;have hnc26:=NB128_126.out;have hcz27_0:w24.cell? ⟨gb126,0,none⟩=some (.bool false):=(blk_cell BK126.out 0).trans rfl;have hcz27_1:w24.cell? ⟨gb126,1,none⟩=some (.slice none 0 0):=(blk_cell BK126.out 1).trans rfl;have hfz27_0:=blk_frozen BK126.out 0;have hfz27_1:=blk_frozen BK126.out 1;obtain ⟨Ao28,co28,eo28⟩:=Kd.V_slice HO114.out;subst eo28)|((with_reducible refine gate_store (t:=26) (p:=2) rfl ?_);refine store_event (t:=26) (p:=2) (v:=?vo_w29) (w1:=((w24.setCell ⟨gb126,0,none⟩ (.bool false)).setCell ⟨gb126,1,none⟩ (.slice Ao28 t112.length co28))) ?hg ?ho ?hn ?hr ?_;(case ho=>rfl);(case hg=>rfl);(case hn=>rfl);(case hr=>first|(go_simp;done)|(go_simp;rfl));intro w29 hw;have n0_:Aside0 (Kd.N k59 59 w29 w.heap.size (fun k_=>some k_≠(v124:Value).ownBlock∧k_≠gb126∧k_≠gb127∧k_≠gb128) (.slice Ao20 y108.length co20) y108):=⟨(by rw [hw];exact (by (with_reducible repeat (first|apply nA_|apply nN_|apply nD_));exact Kd.N_mono (Kd.N_far (p:=⟨gb126,1,none⟩) (Kd.N_far (p:=⟨gb126,0,none⟩) (Kd.N_mono HO110.out (fun k_ hk=>(⟨hk,hk.1.1.2⟩:_∧k_≠gb126))) (fun _ hk=>hk.2) (.bool false)) (fun _ hk=>hk.2) (.slice Ao28 t112.length co28)) (fun _ hk=>⟨hk.1.1.1.1.2,⟨hk.1.1.1.2,⟨hk.1.1.2,hk.1.2⟩⟩⟩)))⟩;have n1_:Aside0 (Kd.V k51 51 w29 w.heap.size (fun k_=>some k_≠(v124:Value).ownBlock∧k_≠gb126∧k_≠gb127∧k_≠gb128) (.slice Ao28 t112.length co28) t112):=⟨(by rw [hw];exact (by (with_reducible repeat (first|apply vA_|apply vN_|apply vD_));exact Kd.V_mono (Kd.V_far (p:=⟨gb126,1,none⟩) (Kd.V_far (p:=⟨gb126,0,none⟩) (Kd.V_mono HO114.out (fun k_ hk=>(⟨hk,hk.1.1.2⟩:_∧k_≠gb126))) (fun _ hk=>hk.2) (.bool false)) (fun _ hk=>hk.2) (.slice Ao28 t112.length co28)) (fun _ hk=>⟨hk.1.1.1.1,⟨hk.1.1.1.2,⟨hk.1.1.2,hk.1.2⟩⟩⟩)))⟩;have n2_:Aside0 (Kd.V k51 51 w29 w.heap.size (fun k_=>some k_≠(v124:Value).ownBlock∧k_≠gb126∧k_≠gb127∧k_≠gb128) v117 t116):=⟨(by rw [hw];exact (by (with_reducible repeat (first|apply vA_|apply vN_|apply vD_));exact Kd.V_mono (Kd.V_far (p:=⟨gb126,1,none⟩) (Kd.V_far (p:=⟨gb126,0,none⟩) (Kd.V_mono HO118.out (fun k_ hk=>(⟨hk,hk.1.1.2⟩:_∧k_≠gb126))) (fun _ hk=>hk.2) (.bool false)) (fun _ hk=>hk.2) (.slice Ao28 t112.length co28)) (fun _ hk=>⟨hk.1.1.1.1,⟨hk.1.1.1.2,⟨hk.1.1.2,hk.1.2⟩⟩⟩)))⟩;have n3_:Aside0 (Kd.V k51 51 w29 w.heap.size (fun k_=>some k_≠(v124:Value).ownBlock∧k_≠gb126∧k_≠gb127∧k_≠gb128) v121 t120):=⟨(by rw [hw];exact (by (with_reducible repeat (first|apply vA_|apply vN_|apply vD_));exact Kd.V_mono (Kd.V_far (p:=⟨gb126,1,none⟩) (Kd.V_far (p:=⟨gb126,0,none⟩) (Kd.V_mono HO122.out (fun k_ hk=>(⟨hk,hk.1.1.2⟩:_∧k_≠gb126))) (fun _ hk=>hk.2) (.bool false)) (fun _ hk=>hk.2) (.slice Ao28 t112.length co28)) (fun _ hk=>⟨hk.1.1.1.1,⟨hk.1.1.1.2,⟨hk.1.1.2,hk.1.2⟩⟩⟩)))⟩;have n4_:Aside0 (Kd.N k38 38 w29 w.heap.size (fun k_=>k_≠gb126∧k_≠gb127∧k_≠gb128) v124 t123):=⟨(by rw [hw];exact (by (with_reducible repeat (first|apply nA_|apply nN_|apply nD_));exact Kd.N_mono (Kd.N_far (p:=⟨gb126,1,none⟩) (Kd.N_far (p:=⟨gb126,0,none⟩) (Kd.N_mono HO125.out (fun k_ hk=>(⟨hk,hk.1.1.2⟩:_∧k_≠gb126))) (fun _ hk=>hk.2) (.bool false)) (fun _ hk=>hk.2) (.slice Ao28 t112.length co28)) (fun _ hk=>⟨hk.1.1.1.2,⟨hk.1.1.2,hk.1.2⟩⟩)))⟩;have n5_:Aside0 (w29.heap[gb126]? = some (.cells #[.bool false,.slice Ao28 t112.length co28] 26 (0,0))):=⟨(by rw [hw];exact (by (with_reducible repeat (first|refine blk_drewN ?_ _|refine blk_drew ?_|refine blk_alloc ?_ _));refine blk_put (cs:=#[.bool false,.slice none 0 0]) ?_ 1 _ rfl;(with_reducible repeat (first|refine blk_drewN ?_ _|refine blk_drew ?_|refine blk_alloc ?_ _));refine blk_put (cs:=#[.bool false,.slice none 0 0]) ?_ 0 _ rfl;(with_reducible repeat (first|refine blk_drewN ?_ _|refine blk_drew ?_|refine blk_alloc ?_ _));exact BK126.out))⟩;have n6_:Aside0 (w29.heap[gb127]? = some (.cells #[.bool false,.slice none 0 0] 26 (0,0))):=⟨(by rw [hw];exact (by (with_reducible repeat (first|refine blk_drewN ?_ _|refine blk_drew ?_|refine blk_alloc ?_ _));refine blk_far ?_ NB127_126.out _;(with_reducible repeat (first|refine blk_drewN ?_ _|refine blk_drew ?_|refine blk_alloc ?_ _));refine blk_far ?_ NB127_126.out _;(with_reducible repeat (first|refine blk_drewN ?_ _|refine blk_drew ?_|refine blk_alloc ?_ _));exact BK127.out))⟩;have n7_:Aside0 (w29.heap[gb128]? = some (.cells #[.bool false,.slice none 0 0] 26 (0,0))):=⟨(by rw [hw];exact (by (with_reducible repeat (first|refine blk_drewN ?_ _|refine blk_drew ?_|refine blk_alloc ?_ _));refine blk_far ?_ NB128_126.out _;(with_reducible repeat (first|refine blk_drewN ?_ _|refine blk_drew ?_|refine blk_alloc ?_ _));refine blk_far ?_ NB128_126.out _;(with_reducible repeat (first|refine blk_drewN ?_ _|refine blk_drew ?_|refine blk_alloc ?_ _));exact BK128.out))⟩;have n8_:Aside0 (Below w.heap.size w w29):=⟨(by rw [hw];exact (by repeat (first|(with_reducible first|exact HB.out|apply bA_|apply bN_|apply bD_|refine below_set ?_ GE126.out|refine below_set ?_ GE127.out|refine below_set ?_ GE128.out)|exact HB.out)))⟩;clear hw;clear HO110;clear HO114;clear HO118;clear HO122;clear HO125;clear BK126;clear BK127;clear BK128;clear HB;have HO110:=n0_;have HO114:=n1_;have HO118:=n2_;have HO122:=n3_;have HO125:=n4_;have BK126:=n5_;have BK127:=n6_;have BK128:=n7_;have HB:=n8_;clear n0_ n1_ n2_ n3_ n4_ n5_ n6_ n7_ n8_;have hnb30:=NB127_128.out;have hnc30:=NB128_127.out;have hcz31_0:w29.cell? ⟨gb127,0,none⟩=some (.bool false):=(blk_cell BK127.out 0).trans rfl;have hcz31_1:w29.cell? ⟨gb127,1,none⟩=some (.slice none 0 0):=(blk_cell BK127.out 1).trans rfl;have hfz31_0:=blk_frozen BK127.out 0;have hfz31_1:=blk_frozen BK127.out 1;obtain ⟨Ao32,co32,eo32⟩:=Kd.V_slice HO118.out;subst eo32)|((with_reducible refine gate_store (t:=26) (p:=3) rfl ?_);refine store_event (t:=26) (p:=3) (v:=?vo_w33) (w1:=((w29.setCell ⟨gb127,0,none⟩ (.bool false)).setCell ⟨gb127,1,none⟩ (.slice Ao32 t116.length co32))) ?hg ?ho ?hn ?hr ?_;(case ho=>rfl);(case hg=>rfl);(case hn=>rfl);(case hr=>first|(go_simp;done)|(go_simp;rfl));intro w33 hw;have n0_:Aside0 (Kd.N k59 59 w33 w.heap.size (fun k_=>some k_≠(v124:Value).ownBlock∧k_≠gb126∧k_≠gb127∧k_≠gb128) (.slice Ao20 y108.length co20) y108):=⟨(by rw [hw];exact (by (with_reducible repeat (first|apply nA_|apply nN_|apply nD_));exact Kd.N_mono (Kd.N_far (p:=⟨gb127,1,none⟩) (Kd.N_far (p:=⟨gb127,0,none⟩) (Kd.N_mono HO110.out (fun k_ hk=>(⟨hk,hk.2.2.1⟩:_∧k_≠gb127))) (fun _ hk=>hk.2) (.bool false)) (fun _ hk=>hk.2) (.slice Ao32 t116.length co32)) (fun _ hk=>⟨hk.1.1,⟨hk.1.2.1,⟨hk.1.2.2.1,hk.1.2.2.2⟩⟩⟩)))⟩;have n1_:Aside0 (Kd.V k51 51 w33 w.heap.size (fun k_=>some k_≠(v124:Value).ownBlock∧k_≠gb126∧k_≠gb127∧k_≠gb128) (.slice Ao28 t112.length co28) t112):=⟨(by rw [hw];exact (by (with_reducible repeat (first|apply vA_|apply vN_|apply vD_));exact Kd.V_mono (Kd.V_far (p:=⟨gb127,1,none⟩) (Kd.V_far (p:=⟨gb127,0,none⟩) (Kd.V_mono HO114.out (fun k_ hk=>(⟨hk,hk.2.2.1⟩:_∧k_≠gb127))) (fun _ hk=>hk.2) (.bool false)) (fun _ hk=>hk.2) (.slice Ao32 t116.length co32)) (fun _ hk=>⟨hk.1.1,⟨hk.1.2.1,⟨hk.1.2.2.1,hk.1.2.2.2⟩⟩⟩)))⟩;have n2_:Aside0 (Kd.V k51 51 w33 w.heap.size (fun k_=>some k_≠(v124:Value).ownBlock∧k_≠gb126∧k_≠gb127∧k_≠gb128) (.slice Ao32 t116.length co32) t116):=⟨(by rw [hw];exact (by (with_reducible repeat (first|apply vA_|apply vN_|apply vD_));exact Kd.V_mono (Kd.V_far (p:=⟨gb127,1,none⟩) (Kd.V_far (p:=⟨gb127,0,none⟩) (Kd.V_mono HO118.out (fun k_ hk=>(⟨hk,hk.2.2.1⟩:_∧k_≠gb127))) (fun _ hk=>hk.2) (.bool false)) (fun _ hk=>hk.2) (.slice Ao32 t116.length co32)) (fun _ hk=>⟨hk.1.1,⟨hk.1.2.1,⟨hk.1.2.2.1,hk.1.2.2.2⟩⟩⟩)))⟩;have n3_:Aside0 (Kd.V k51 51 w33 w.heap.size (fun k_=>some k_≠(v124:Value).ownBlock∧k_≠gb126∧k_≠gb127∧k_≠gb128) v121 t120):=⟨(by rw [hw];exact (by (with_reducible repeat (first|apply vA_|apply vN_|apply vD_));exact Kd.V_mono (Kd.V_far (p:=⟨gb127,1,none⟩) (Kd.V_far (p:=⟨gb127,0,none⟩) (Kd.V_mono HO122.out (fun k_ hk=>(⟨hk,hk.2.2.1⟩:_∧k_≠gb127))) (fun _ hk=>hk.2) (.bool false)) (fun _ hk=>hk.2) (.slice Ao32 t116.length co32)) (fun _ hk=>⟨hk.1.1,⟨hk.1.2.1,⟨hk.1.2.2.1,hk.1.2.2.2⟩⟩⟩)))⟩;have n4_:Aside0 (Kd.N k38 38 w33 w.heap.size (fun k_=>k_≠gb126∧k_≠gb127∧k_≠gb128) v124 t123):=⟨(by rw [hw];exact (by (with_reducible repeat (first|apply nA_|apply nN_|apply nD_));exact Kd.N_mono (Kd.N_far (p:=⟨gb127,1,none⟩) (Kd.N_far (p:=⟨gb127,0,none⟩) (Kd.N_mono HO125.out (fun k_ hk=>(⟨hk,hk.2.1⟩:_∧k_≠gb127))) (fun _ hk=>hk.2) (.bool false)) (fun _ hk=>hk.2) (.slice Ao32 t116.length co32)) (fun _ hk=>⟨hk.1.1,⟨hk.1.2.1,hk.1.2.2⟩⟩)))⟩;have n5_:Aside0 (w33.heap[gb126]? = some (.cells #[.bool false,.slice Ao28 t112.length co28] 26 (0,0))):=⟨(by rw [hw];exact (by (with_reducible repeat (first|refine blk_drewN ?_ _|refine blk_drew ?_|refine blk_alloc ?_ _));refine blk_far ?_ NB126_127.out _;(with_reducible repeat (first|refine blk_drewN ?_ _|refine blk_drew ?_|refine blk_alloc ?_ _));refine blk_far ?_ NB126_127.out _;(with_reducible repeat (first|refine blk_drewN ?_ _|refine blk_drew ?_|refine blk_alloc ?_ _));exact BK126.out))⟩;have n6_:Aside0 (w33.heap[gb127]? = some (.cells #[.bool false,.slice Ao32 t116.length co32] 26 (0,0))):=⟨(by rw [hw];exact (by (with_reducible repeat (first|refine blk_drewN ?_ _|refine blk_drew ?_|refine blk_alloc ?_ _));refine blk_put (cs:=#[.bool false,.slice none 0 0]) ?_ 1 _ rfl;(with_reducible repeat (first|refine blk_drewN ?_ _|refine blk_drew ?_|refine blk_alloc ?_ _));refine blk_put (cs:=#[.bool false,.slice none 0 0]) ?_ 0 _ rfl;(with_reducible repeat (first|refine blk_drewN ?_ _|refine blk_drew ?_|refine blk_alloc ?_ _));exact BK127.out))⟩;have n7_:Aside0 (w33.heap[gb128]? = some (.cells #[.bool false,.slice none 0 0] 26 (0,0))):=⟨(by rw [hw];exact (by (with_reducible repeat (first|refine blk_drewN ?_ _|refine blk_drew ?_|refine blk_alloc ?_ _));refine blk_far ?_ NB128_127.out _;(with_reducible repeat (first|refine blk_drewN ?_ _|refine blk_drew ?_|refine blk_alloc ?_ _));refine blk_far ?_ NB128_127.out _;(with_reducible repeat (first|refine blk_drewN ?_ _|refine blk_drew ?_|refine blk_alloc ?_ _));exact BK128.out))⟩;have n8_:Aside0 (Below w.heap.size w w33):=⟨(by rw [hw];exact (by repeat (first|(with_reducible first|exact HB.out|apply bA_|apply bN_|apply bD_|refine below_set ?_ GE126.out|refine below_set ?_ GE127.out|refine below_set ?_ GE128.out)|exact HB.out)))⟩;clear hw;clear HO110;clear HO114;clear HO118;clear HO122;clear HO125;clear BK126;clear BK127;clear BK128;clear HB;have HO110:=n0_;have HO114:=n1_;have HO118:=n2_;have HO122:=n3_;have HO125:=n4_;have BK126:=n5_;have BK127:=n6_;have BK128:=n7_;have HB:=n8_;clear n0_ n1_ n2_ n3_ n4_ n5_ n6_ n7_ n8_;have hcz34_0:w33.cell? ⟨gb128,0,none⟩=some (.bool false):=(blk_cell BK128.out 0).trans rfl;have hcz34_1:w33.cell? ⟨gb128,1,none⟩=some (.slice none 0 0):=(blk_cell BK128.out 1).trans rfl;have hfz34_0:=blk_frozen BK128.out 0;have hfz34_1:=blk_frozen BK128.out 1;obtain ⟨Ao35,co35,eo35⟩:=Kd.V_slice HO122.out;subst eo35)|((with_reducible refine gate_store (t:=26) (p:=4) rfl ?_);refine store_event (t:=26) (p:=4) (v:=?vo_w36) (w1:=((w33.setCell ⟨gb128,0,none⟩ (.bool false)).setCell ⟨gb128,1,none⟩ (.slice Ao35 t120.length co35))) ?hg ?ho ?hn ?hr ?_;(case ho=>rfl);(case hg=>rfl);(case hn=>rfl);(case hr=>first|(go_simp;done)|(go_simp;rfl));intro w36 hw;have n0_:Aside0 (Kd.N k59 59 w36 w.heap.size (fun k_=>some k_≠(v124:Value).ownBlock∧k_≠gb126∧k_≠gb127∧k_≠gb128) (.slice Ao20 y108.length co20) y108):=⟨(by rw [hw];exact (by (with_reducible repeat (first|apply nA_|apply nN_|apply nD_));exact Kd.N_mono (Kd.N_far (p:=⟨gb128,1,none⟩) (Kd.N_far (p:=⟨gb128,0,none⟩) (Kd.N_mono HO110.out (fun k_ hk=>(⟨hk,hk.2.2.2⟩:_∧k_≠gb128))) (fun _ hk=>hk.2) (.bool false)) (fun _ hk=>hk.2) (.slice Ao35 t120.length co35)) (fun _ hk=>⟨hk.1.1,⟨hk.1.2.1,⟨hk.1.2.2.1,hk.1.2.2.2⟩⟩⟩)))⟩;have n1_:Aside0 (Kd.V k51 51 w36 w.heap.size (fun k_=>some k_≠(v124:Value).ownBlock∧k_≠gb126∧k_≠gb127∧k_≠gb128) (.slice Ao28 t112.length co28) t112):=⟨(by rw [hw];exact (by (with_reducible repeat (first|apply vA_|apply vN_|apply vD_));exact Kd.V_mono (Kd.V_far (p:=⟨gb128,1,none⟩) (Kd.V_far (p:=⟨gb128,0,none⟩) (Kd.V_mono HO114.out (fun k_ hk=>(⟨hk,hk.2.2.2⟩:_∧k_≠gb128))) (fun _ hk=>hk.2) (.bool false)) (fun _ hk=>hk.2) (.slice Ao35 t120.length co35)) (fun _ hk=>⟨hk.1.1,⟨hk.1.2.1,⟨hk.1.2.2.1,hk.1.2.2.2⟩⟩⟩)))⟩;have n2_:Aside0 (Kd.V k51 51 w36 w.heap.size (fun k_=>some k_≠(v124:Value).ownBlock∧k_≠gb126∧k_≠gb127∧k_≠gb128) (.slice Ao32 t116.length co32) t116):=⟨(by rw [hw];exact (by (with_reducible repeat (first|apply vA_|apply vN_|apply vD_));exact Kd.V_mono (Kd.V_far (p:=⟨gb128,1,none⟩) (Kd.V_far (p:=⟨gb128,0,none⟩) (Kd.V_mono HO118.out (fun k_ hk=>(⟨hk,hk.2.2.2⟩:_∧k_≠gb128))) (fun _ hk=>hk.2) (.bool false)) (fun _ hk=>hk.2) (.slice Ao35 t120.length co35)) (fun _ hk=>⟨hk.1.1,⟨hk.1.2.1,⟨hk.1.2.2.1,hk.1.2.2.2⟩⟩⟩)))⟩;have n3_:Aside0 (Kd.V k51 51 w36 w.heap.size (fun k_=>some k_≠(v124:Value).ownBlock∧k_≠gb126∧k_≠gb127∧k_≠gb128) (.slice Ao35 t120.length co35) t120):=⟨(by rw [hw];exact (by (with_reducible repeat (first|apply vA_|apply vN_|apply vD_));exact Kd.V_mono (Kd.V_far (p:=⟨gb128,1,none⟩) (Kd.V_far (p:=⟨gb128,0,none⟩) (Kd.V_mono HO122.out (fun k_ hk=>(⟨hk,hk.2.2.2⟩:_∧k_≠gb128))) (fun _ hk=>hk.2) (.bool false)) (fun _ hk=>hk.2) (.slice Ao35 t120.length co35)) (fun _ hk=>⟨hk.1.1,⟨hk.1.2.1,⟨hk.1.2.2.1,hk.1.2.2.2⟩⟩⟩)))⟩;have n4_:Aside0 (Kd.N k38 38 w36 w.heap.size (fun k_=>k_≠gb126∧k_≠gb127∧k_≠gb128) v124 t123):=⟨(by rw [hw];exact (by (with_reducible repeat (first|apply nA_|apply nN_|apply nD_));exact Kd.N_mono (Kd.N_far (p:=⟨gb128,1,none⟩) (Kd.N_far (p:=⟨gb128,0,none⟩) (Kd.N_mono HO125.out (fun k_ hk=>(⟨hk,hk.2.2⟩:_∧k_≠gb128))) (fun _ hk=>hk.2) (.bool false)) (fun _ hk=>hk.2) (.slice Ao35 t120.length co35)) (fun _ hk=>⟨hk.1.1,⟨hk.1.2.1,hk.1.2.2⟩⟩)))⟩;have n5_:Aside0 (w36.heap[gb126]? = some (.cells #[.bool false,.slice Ao28 t112.length co28] 26 (0,0))):=⟨(by rw [hw];exact (by (with_reducible repeat (first|refine blk_drewN ?_ _|refine blk_drew ?_|refine blk_alloc ?_ _));refine blk_far ?_ NB126_128.out _;(with_reducible repeat (first|refine blk_drewN ?_ _|refine blk_drew ?_|refine blk_alloc ?_ _));refine blk_far ?_ NB126_128.out _;(with_reducible repeat (first|refine blk_drewN ?_ _|refine blk_drew ?_|refine blk_alloc ?_ _));exact BK126.out))⟩;have n6_:Aside0 (w36.heap[gb127]? = some (.cells #[.bool false,.slice Ao32 t116.length co32] 26 (0,0))):=⟨(by rw [hw];exact (by (with_reducible repeat (first|refine blk_drewN ?_ _|refine blk_drew ?_|refine blk_alloc ?_ _));refine blk_far ?_ NB127_128.out _;(with_reducible repeat (first|refine blk_drewN ?_ _|refine blk_drew ?_|refine blk_alloc ?_ _));refine blk_far ?_ NB127_128.out _;(with_reducible repeat (first|refine blk_drewN ?_ _|refine blk_drew ?_|refine blk_alloc ?_ _));exact BK127.out))⟩;have n7_:Aside0 (w36.heap[gb128]? = some (.cells #[.bool false,.slice Ao35 t120.length co35] 26 (0,0))):=⟨(by rw [hw];exact (by (with_reducible repeat (first|refine blk_drewN ?_ _|refine blk_drew ?_|refine blk_alloc ?_ _));refine blk_put (cs:=#[.bool false,.slice none 0 0]) ?_ 1 _ rfl;(with_reducible repeat (first|refine blk_drewN ?_ _|refine blk_drew ?_|refine blk_alloc ?_ _));refine blk_put (cs:=#[.bool false,.slice none 0 0]) ?_ 0 _ rfl;(with_reducible repeat (first|refine blk_drewN ?_ _|refine blk_drew ?_|refine blk_alloc ?_ _));exact BK128.out))⟩;have n8_:Aside0 (Below w.heap.size w w36):=⟨(by rw [hw];exact (by repeat (first|(with_reducible first|exact HB.out|apply bA_|apply bN_|apply bD_|refine below_set ?_ GE126.out|refine below_set ?_ GE127.out|refine below_set ?_ GE128.out)|exact HB.out)))⟩;clear hw;clear HO110;clear HO114;clear HO118;clear HO122;clear HO125;clear BK126;clear BK127;clear BK128;clear HB;have HO110:=n0_;have HO114:=n1_;have HO118:=n2_;have HO122:=n3_;have HO125:=n4_;have BK126:=n5_;have BK127:=n6_;have BK128:=n7_;have HB:=n8_;clear n0_ n1_ n2_ n3_ n4_ n5_ n6_ n7_ n8_)|((with_reducible refine gate_callee (f:=10) rfl ?_);refine goesL_ (some 27) rfl rfl Try.func10 (by kernel_rfl) rfl #[.slice none 0 0] rfl (by (try simp only [List.map_toArray,List.map_cons,List.map_nil]);first|done|rfl|(simp only [List.length_drop,List.length_take];rfl)) ?_;(refine (cadencelaw12_some.calls (fun k_=>False) _ _ ([]:List (S51)) t129 t130 _ ?side1 A2.out).mono ?_);(case side1=>exact Kd.V_nil _ _ _ _ _);rintro e w37 ⟨v131,rfl,ho0,hb⟩;refine ⟨_,rfl,?_⟩;have n0_:=Aside0.mk (Kd.N_below (by (with_reducible repeat (first|apply nA_|apply nN_|apply nD_));exact HO110.out) hb);have n1_:=Aside0.mk (Kd.V_below (by (with_reducible repeat (first|apply vA_|apply vN_|apply vD_));exact HO114.out) hb);have n2_:=Aside0.mk (Kd.V_below (by (with_reducible repeat (first|apply vA_|apply vN_|apply vD_));exact HO118.out) hb);have n3_:=Aside0.mk (Kd.V_below (by (with_reducible repeat (first|apply vA_|apply vN_|apply vD_));exact HO122.out) hb);have n4_:=Aside0.mk (Kd.N_below (by (with_reducible repeat (first|apply nA_|apply nN_|apply nD_));exact HO125.out) hb);have n5_:=Aside0.mk (Kd.V_lower (Kd.V_mono (ok':=fun k_=>some k_≠(.slice Ao20 y108.length co20:Value).ownBlock∧some k_≠(v124:Value).ownBlock∧k_≠gb126∧k_≠gb127∧k_≠gb128) ho0 (fun k_ hk_=>⟨Or.elim hk_ (fun hs_=>(hs_).elim) (fun hn_=>(Kd.fresh' (Kd.N_lt (by (with_reducible repeat (first|apply nA_|apply nN_|apply nD_));exact HO110.out)) k_ hn_)),Or.elim hk_ (fun hs_=>(hs_).elim) (fun hn_=>(Kd.fresh' (Kd.N_lt (by (with_reducible repeat (first|apply nA_|apply nN_|apply nD_));exact HO125.out)) k_ hn_)),Or.elim hk_ (fun hs_=>(hs_).elim) (fun hn_=>(Kd.freshB (g:=gb126) (o:=.cells #[.bool false,.slice Ao28 t112.length co28] 26 (0,0)) (by (with_reducible repeat (first|refine blk_drewN ?_ _|refine blk_drew ?_|refine blk_alloc ?_ _));exact BK126.out) k_ hn_)),Or.elim hk_ (fun hs_=>(hs_).elim) (fun hn_=>(Kd.freshB (g:=gb127) (o:=.cells #[.bool false,.slice Ao32 t116.length co32] 26 (0,0)) (by (with_reducible repeat (first|refine blk_drewN ?_ _|refine blk_drew ?_|refine blk_alloc ?_ _));exact BK127.out) k_ hn_)),Or.elim hk_ (fun hs_=>(hs_).elim) (fun hn_=>(Kd.freshB (g:=gb128) (o:=.cells #[.bool false,.slice Ao35 t120.length co35] 26 (0,0)) (by (with_reducible repeat (first|refine blk_drewN ?_ _|refine blk_drew ?_|refine blk_alloc ?_ _));exact BK128.out) k_ hn_))⟩)) (below_size (by repeat (first|(with_reducible first|exact HB.out|apply bA_|apply bN_|apply bD_|refine below_set ?_ GE126.out|refine below_set ?_ GE127.out|refine below_set ?_ GE128.out)|exact HB.out))));have n6_:=Aside0.mk (blk_below (g:=gb126) (o:=.cells #[.bool false,.slice Ao28 t112.length co28] 26 (0,0)) (by (with_reducible repeat (first|refine blk_drewN ?_ _|refine blk_drew ?_|refine blk_alloc ?_ _));exact BK126.out) hb);have n7_:=Aside0.mk (blk_below (g:=gb127) (o:=.cells #[.bool false,.slice Ao32 t116.length co32] 26 (0,0)) (by (with_reducible repeat (first|refine blk_drewN ?_ _|refine blk_drew ?_|refine blk_alloc ?_ _));exact BK127.out) hb);have n8_:=Aside0.mk (blk_below (g:=gb128) (o:=.cells #[.bool false,.slice Ao35 t120.length co35] 26 (0,0)) (by (with_reducible repeat (first|refine blk_drewN ?_ _|refine blk_drew ?_|refine blk_alloc ?_ _));exact BK128.out) hb);have n9_:=Aside0.mk (below_step (by repeat (first|(with_reducible first|exact HB.out|apply bA_|apply bN_|apply bD_|refine below_set ?_ GE126.out|refine below_set ?_ GE127.out|refine below_set ?_ GE128.out)|exact HB.out)) hb);clear HO110;clear HO114;clear HO118;clear HO122;clear HO125;clear BK126;clear BK127;clear BK128;clear HB;have HO110:=n0_;have HO114:=n1_;have HO118:=n2_;have HO122:=n3_;have HO125:=n4_;have HO132:=n5_;have BK126:=n6_;have BK127:=n7_;have BK128:=n8_;have HB:=n9_;clear n0_ n1_ n2_ n3_ n4_ n5_ n6_ n7_ n8_ n9_;(try clear hb);(try clear hb2);(try clear hk);(try clear hi);(try clear ho0))|((with_reducible refine gate_callee (f:=20) rfl ?_);refine goesL_ (some 28) rfl rfl Try.func20 (by kernel_rfl) rfl #[.string (⟨#[118]⟩:ByteArray)] rfl (by (try simp only [List.map_toArray,List.map_cons,List.map_nil]);first|done|rfl|(simp only [List.length_drop,List.length_take];rfl)) ?_;(with_reducible refine (cadenceref2_Value.calls (⟨#[118]⟩:ByteArray) t133 _ A3.out).mono ?_);rintro e w38 ⟨v134,rfl,ho0,hb⟩;refine ⟨_,rfl,?_⟩;have n0_:=Aside0.mk (Kd.N_elder' (by (with_reducible repeat (first|apply nA_|apply nN_|apply nD_));exact HO110.out) (by first|exact Kd.N_base ho0|exact Kd.R_base ho0) hb);have n1_:=Aside0.mk (Kd.V_elder' (by (with_reducible repeat (first|apply vA_|apply vN_|apply vD_));exact HO114.out) (by first|exact Kd.N_base ho0|exact Kd.R_base ho0) hb);have n2_:=Aside0.mk (Kd.V_elder' (by (with_reducible repeat (first|apply vA_|apply vN_|apply vD_));exact HO118.out) (by first|exact Kd.N_base ho0|exact Kd.R_base ho0) hb);have n3_:=Aside0.mk (Kd.V_elder' (by (with_reducible repeat (first|apply vA_|apply vN_|apply vD_));exact HO122.out) (by first|exact Kd.N_base ho0|exact Kd.R_base ho0) hb);have n4_:=Aside0.mk (Kd.N_elder' (by (with_reducible repeat (first|apply nA_|apply nN_|apply nD_));exact HO125.out) (by first|exact Kd.N_base ho0|exact Kd.R_base ho0) hb);have n5_:=Aside0.mk (Kd.V_elder' (by (with_reducible repeat (first|apply vA_|apply vN_|apply vD_));exact HO132.out) (by first|exact Kd.N_base ho0|exact Kd.R_base ho0) hb);have n6_:=Aside0.mk (Kd.N_lower (Kd.N_mono (ok':=fun k_=>some k_≠(.slice Ao20 y108.length co20:Value).ownBlock∧some k_≠(v124:Value).ownBlock∧k_≠gb126∧k_≠gb127∧k_≠gb128) (Kd.R_N (Kd.R_bound ho0)) (fun k_ hk_=>⟨(Kd.fresh' (Kd.N_lt (by (with_reducible repeat (first|apply nA_|apply nN_|apply nD_));exact HO110.out)) k_ hk_.2.1),(Kd.fresh' (Kd.N_lt (by (with_reducible repeat (first|apply nA_|apply nN_|apply nD_));exact HO125.out)) k_ hk_.2.1),(Kd.freshB (g:=gb126) (o:=.cells #[.bool false,.slice Ao28 t112.length co28] 26 (0,0)) (by (with_reducible repeat (first|refine blk_drewN ?_ _|refine blk_drew ?_|refine blk_alloc ?_ _));exact BK126.out) k_ hk_.2.1),(Kd.freshB (g:=gb127) (o:=.cells #[.bool false,.slice Ao32 t116.length co32] 26 (0,0)) (by (with_reducible repeat (first|refine blk_drewN ?_ _|refine blk_drew ?_|refine blk_alloc ?_ _));exact BK127.out) k_ hk_.2.1),(Kd.freshB (g:=gb128) (o:=.cells #[.bool false,.slice Ao35 t120.length co35] 26 (0,0)) (by (with_reducible repeat (first|refine blk_drewN ?_ _|refine blk_drew ?_|refine blk_alloc ?_ _));exact BK128.out) k_ hk_.2.1)⟩)) (below_size (by repeat (first|(with_reducible first|exact HB.out|apply bA_|apply bN_|apply bD_|refine below_set ?_ GE126.out|refine below_set ?_ GE127.out|refine below_set ?_ GE128.out)|exact HB.out))));have n7_:=Aside0.mk (blk_below (g:=gb126) (o:=.cells #[.bool false,.slice Ao28 t112.length co28] 26 (0,0)) (by (with_reducible repeat (first|refine blk_drewN ?_ _|refine blk_drew ?_|refine blk_alloc ?_ _));exact BK126.out) hb);have n8_:=Aside0.mk (blk_below (g:=gb127) (o:=.cells #[.bool false,.slice Ao32 t116.length co32] 26 (0,0)) (by (with_reducible repeat (first|refine blk_drewN ?_ _|refine blk_drew ?_|refine blk_alloc ?_ _));exact BK127.out) hb);have n9_:=Aside0.mk (blk_below (g:=gb128) (o:=.cells #[.bool false,.slice Ao35 t120.length co35] 26 (0,0)) (by (with_reducible repeat (first|refine blk_drewN ?_ _|refine blk_drew ?_|refine blk_alloc ?_ _));exact BK128.out) hb);have n10_:=Aside0.mk (below_step (by repeat (first|(with_reducible first|exact HB.out|apply bA_|apply bN_|apply bD_|refine below_set ?_ GE126.out|refine below_set ?_ GE127.out|refine below_set ?_ GE128.out)|exact HB.out)) hb);clear HO110;clear HO114;clear HO118;clear HO122;clear HO125;clear HO132;clear BK126;clear BK127;clear BK128;clear HB;have HO110:=n0_;have HO114:=n1_;have HO118:=n2_;have HO122:=n3_;have HO125:=n4_;have HO132:=n5_;have HO135:=n6_;have BK126:=n7_;have BK127:=n8_;have BK128:=n9_;have HB:=n10_;clear n0_ n1_ n2_ n3_ n4_ n5_ n6_ n7_ n8_ n9_ n10_;(try clear hb);(try clear hb2);(try clear hk);(try clear hi);(try clear ho0);obtain ⟨Ao39,co39,eo39⟩:=Kd.N_slice HO135.out;subst eo39)|((with_reducible refine gate_callee (f:=10) rfl ?_);refine goesL_ (some 29) rfl rfl Try.func10 (by kernel_rfl) rfl #[.slice Ao39 t133.length co39] rfl (by (try simp only [List.map_toArray,List.map_cons,List.map_nil]);first|done|rfl|(simp only [List.length_drop,List.length_take];rfl)) ?_;(with_reducible refine (cadencelaw12_some.calls (fun k_=>(some k_≠(.slice Ao20 y108.length co20:Value).ownBlock∧(some k_≠(v124:Value).ownBlock∧(k_≠gb126∧(k_≠gb127∧k_≠gb128))))) _ _ t133 t136 t137 _ ?side1 A4.out).mono ?_);(case side1=>exact Kd.N_V (HO135.out));rintro e w40 ⟨v138,rfl,ho0,hb⟩;refine ⟨_,rfl,?_⟩;have n0_:=Aside0.mk (Kd.N_below (by (with_reducible repeat (first|apply nA_|apply nN_|apply nD_));exact HO110.out) hb);have n1_:=Aside0.mk (Kd.V_below (by (with_reducible repeat (first|apply vA_|apply vN_|apply vD_));exact HO114.out) hb);have n2_:=Aside0.mk (Kd.V_below (by (with_reducible repeat (first|apply vA_|apply vN_|apply vD_));exact HO118.out) hb);have n3_:=Aside0.mk (Kd.V_below (by (with_reducible repeat (first|apply vA_|apply vN_|apply vD_));exact HO122.out) hb);have n4_:=Aside0.mk (Kd.N_below (by (with_reducible repeat (first|apply nA_|apply nN_|apply nD_));exact HO125.out) hb);have n5_:=Aside0.mk (Kd.V_below (by (with_reducible repeat (first|apply vA_|apply vN_|apply vD_));exact HO132.out) hb);have n6_:=Aside0.mk (Kd.N_below (by (with_reducible repeat (first|apply nA_|apply nN_|apply nD_));exact HO135.out) hb);have n7_:=Aside0.mk (Kd.V_lower (Kd.V_mono (ok':=fun k_=>some k_≠(.slice Ao20 y108.length co20:Value).ownBlock∧some k_≠(v124:Value).ownBlock∧k_≠gb126∧k_≠gb127∧k_≠gb128) ho0 (fun k_ hk_=>⟨Or.elim hk_ (fun hs_=>hs_.1) (fun hn_=>(Kd.fresh' (Kd.N_lt (by (with_reducible repeat (first|apply nA_|apply nN_|apply nD_));exact HO110.out)) k_ hn_)),Or.elim hk_ (fun hs_=>hs_.2.1) (fun hn_=>(Kd.fresh' (Kd.N_lt (by (with_reducible repeat (first|apply nA_|apply nN_|apply nD_));exact HO125.out)) k_ hn_)),Or.elim hk_ (fun hs_=>hs_.2.2.1) (fun hn_=>(Kd.freshB (g:=gb126) (o:=.cells #[.bool false,.slice Ao28 t112.length co28] 26 (0,0)) (by (with_reducible repeat (first|refine blk_drewN ?_ _|refine blk_drew ?_|refine blk_alloc ?_ _));exact BK126.out) k_ hn_)),Or.elim hk_ (fun hs_=>hs_.2.2.2.1) (fun hn_=>(Kd.freshB (g:=gb127) (o:=.cells #[.bool false,.slice Ao32 t116.length co32] 26 (0,0)) (by (with_reducible repeat (first|refine blk_drewN ?_ _|refine blk_drew ?_|refine blk_alloc ?_ _));exact BK127.out) k_ hn_)),Or.elim hk_ (fun hs_=>hs_.2.2.2.2) (fun hn_=>(Kd.freshB (g:=gb128) (o:=.cells #[.bool false,.slice Ao35 t120.length co35] 26 (0,0)) (by (with_reducible repeat (first|refine blk_drewN ?_ _|refine blk_drew ?_|refine blk_alloc ?_ _));exact BK128.out) k_ hn_))⟩)) (below_size (by repeat (first|(with_reducible first|exact HB.out|apply bA_|apply bN_|apply bD_|refine below_set ?_ GE126.out|refine below_set ?_ GE127.out|refine below_set ?_ GE128.out)|exact HB.out))));have n8_:=Aside0.mk (blk_below (g:=gb126) (o:=.cells #[.bool false,.slice Ao28 t112.length co28] 26 (0,0)) (by (with_reducible repeat (first|refine blk_drewN ?_ _|refine blk_drew ?_|refine blk_alloc ?_ _));exact BK126.out) hb);have n9_:=Aside0.mk (blk_below (g:=gb127) (o:=.cells #[.bool false,.slice Ao32 t116.length co32] 26 (0,0)) (by (with_reducible repeat (first|refine blk_drewN ?_ _|refine blk_drew ?_|refine blk_alloc ?_ _));exact BK127.out) hb);have n10_:=Aside0.mk (blk_below (g:=gb128) (o:=.cells #[.bool false,.slice Ao35 t120.length co35] 26 (0,0)) (by (with_reducible repeat (first|refine blk_drewN ?_ _|refine blk_drew ?_|refine blk_alloc ?_ _));exact BK128.out) hb);have n11_:=Aside0.mk (below_step (by repeat (first|(with_reducible first|exact HB.out|apply bA_|apply bN_|apply bD_|refine below_set ?_ GE126.out|refine below_set ?_ GE127.out|refine below_set ?_ GE128.out)|exact HB.out)) hb);clear HO110;clear HO114;clear HO118;clear HO122;clear HO125;clear HO132;clear HO135;clear BK126;clear BK127;clear BK128;clear HB;have HO110:=n0_;have HO114:=n1_;have HO118:=n2_;have HO122:=n3_;have HO125:=n4_;have HO132:=n5_;have HO135:=n6_;have HO139:=n7_;have BK126:=n8_;have BK127:=n9_;have BK128:=n10_;have HB:=n11_;clear n0_ n1_ n2_ n3_ n4_ n5_ n6_ n7_ n8_ n9_ n10_ n11_;(try clear hb);(try clear hb2);(try clear hk);(try clear hi);(try clear ho0))|((with_reducible refine gate_callee (f:=10) rfl ?_);refine goesL_ (some 30) rfl rfl Try.func10 (by kernel_rfl) rfl #[.slice none 0 0] rfl (by (try simp only [List.map_toArray,List.map_cons,List.map_nil]);first|done|rfl|(simp only [List.length_drop,List.length_take];rfl)) ?_;(refine (cadencelaw12_some.calls (fun k_=>False) _ _ ([]:List (S51)) t140 t141 _ ?side1 A5.out).mono ?_);(case side1=>exact Kd.V_nil _ _ _ _ _);rintro e w41 ⟨v142,rfl,ho0,hb⟩;refine ⟨_,rfl,?_⟩;have n0_:=Aside0.mk (Kd.N_below (by (with_reducible repeat (first|apply nA_|apply nN_|apply nD_));exact HO110.out) hb);have n1_:=Aside0.mk (Kd.V_below (by (with_reducible repeat (first|apply vA_|apply vN_|apply vD_));exact HO114.out) hb);have n2_:=Aside0.mk (Kd.V_below (by (with_reducible repeat (first|apply vA_|apply vN_|apply vD_));exact HO118.out) hb);have n3_:=Aside0.mk (Kd.V_below (by (with_reducible repeat (first|apply vA_|apply vN_|apply vD_));exact HO122.out) hb);have n4_:=Aside0.mk (Kd.N_below (by (with_reducible repeat (first|apply nA_|apply nN_|apply nD_));exact HO125.out) hb);have n5_:=Aside0.mk (Kd.V_below (by (with_reducible repeat (first|apply vA_|apply vN_|apply vD_));exact HO132.out) hb);have n6_:=Aside0.mk (Kd.N_below (by (with_reducible repeat (first|apply nA_|apply nN_|apply nD_));exact HO135.out) hb);have n7_:=Aside0.mk (Kd.V_below (by (with_reducible repeat (first|apply vA_|apply vN_|apply vD_));exact HO139.out) hb);have n8_:=Aside0.mk (Kd.V_lower (Kd.V_mono (ok':=fun k_=>some k_≠(.slice Ao20 y108.length co20:Value).ownBlock∧some k_≠(v124:Value).ownBlock∧some k_≠(.slice Ao39 t133.length co39:Value).ownBlock∧k_≠gb126∧k_≠gb127∧k_≠gb128) ho0 (fun k_ hk_=>⟨Or.elim hk_ (fun hs_=>(hs_).elim) (fun hn_=>(Kd.fresh' (Kd.N_lt (by (with_reducible repeat (first|apply nA_|apply nN_|apply nD_));exact HO110.out)) k_ hn_)),Or.elim hk_ (fun hs_=>(hs_).elim) (fun hn_=>(Kd.fresh' (Kd.N_lt (by (with_reducible repeat (first|apply nA_|apply nN_|apply nD_));exact HO125.out)) k_ hn_)),Or.elim hk_ (fun hs_=>(hs_).elim) (fun hn_=>(Kd.fresh' (Kd.N_lt (by (with_reducible repeat (first|apply nA_|apply nN_|apply nD_));exact HO135.out)) k_ hn_)),Or.elim hk_ (fun hs_=>(hs_).elim) (fun hn_=>(Kd.freshB (g:=gb126) (o:=.cells #[.bool false,.slice Ao28 t112.length co28] 26 (0,0)) (by (with_reducible repeat (first|refine blk_drewN ?_ _|refine blk_drew ?_|refine blk_alloc ?_ _));exact BK126.out) k_ hn_)),Or.elim hk_ (fun hs_=>(hs_).elim) (fun hn_=>(Kd.freshB (g:=gb127) (o:=.cells #[.bool false,.slice Ao32 t116.length co32] 26 (0,0)) (by (with_reducible repeat (first|refine blk_drewN ?_ _|refine blk_drew ?_|refine blk_alloc ?_ _));exact BK127.out) k_ hn_)),Or.elim hk_ (fun hs_=>(hs_).elim) (fun hn_=>(Kd.freshB (g:=gb128) (o:=.cells #[.bool false,.slice Ao35 t120.length co35] 26 (0,0)) (by (with_reducible repeat (first|refine blk_drewN ?_ _|refine blk_drew ?_|refine blk_alloc ?_ _));exact BK128.out) k_ hn_))⟩)) (below_size (by repeat (first|(with_reducible first|exact HB.out|apply bA_|apply bN_|apply bD_|refine below_set ?_ GE126.out|refine below_set ?_ GE127.out|refine below_set ?_ GE128.out)|exact HB.out))));have n9_:=Aside0.mk (blk_below (g:=gb126) (o:=.cells #[.bool false,.slice Ao28 t112.length co28] 26 (0,0)) (by (with_reducible repeat (first|refine blk_drewN ?_ _|refine blk_drew ?_|refine blk_alloc ?_ _));exact BK126.out) hb);have n10_:=Aside0.mk (blk_below (g:=gb127) (o:=.cells #[.bool false,.slice Ao32 t116.length co32] 26 (0,0)) (by (with_reducible repeat (first|refine blk_drewN ?_ _|refine blk_drew ?_|refine blk_alloc ?_ _));exact BK127.out) hb);have n11_:=Aside0.mk (blk_below (g:=gb128) (o:=.cells #[.bool false,.slice Ao35 t120.length co35] 26 (0,0)) (by (with_reducible repeat (first|refine blk_drewN ?_ _|refine blk_drew ?_|refine blk_alloc ?_ _));exact BK128.out) hb);have n12_:=Aside0.mk (below_step (by repeat (first|(with_reducible first|exact HB.out|apply bA_|apply bN_|apply bD_|refine below_set ?_ GE126.out|refine below_set ?_ GE127.out|refine below_set ?_ GE128.out)|exact HB.out)) hb);clear HO110;clear HO114;clear HO118;clear HO122;clear HO125;clear HO132;clear HO135;clear HO139;clear BK126;clear BK127;clear BK128;clear HB;have HO110:=n0_;have HO114:=n1_;have HO118:=n2_;have HO122:=n3_;have HO125:=n4_;have HO132:=n5_;have HO135:=n6_;have HO139:=n7_;have HO143:=n8_;have BK126:=n9_;have BK127:=n10_;have BK128:=n11_;have HB:=n12_;clear n0_ n1_ n2_ n3_ n4_ n5_ n6_ n7_ n8_ n9_ n10_ n11_ n12_;(try clear hb);(try clear hb2);(try clear hk);(try clear hi);(try clear ho0);obtain ⟨Ao42,co42,eo42⟩:=Kd.V_slice HO132.out;subst eo42;obtain ⟨Ao43,co43,eo43⟩:=Kd.V_slice HO139.out;subst eo43;obtain ⟨Ao44,co44,eo44⟩:=Kd.V_slice HO143.out;subst eo44)|((with_reducible refine gate_callee (f:=8) rfl ?_);refine goesL_ (some 31) rfl rfl Try.func8 (by kernel_rfl) rfl #[.slice Ao20 y108.length co20,.agg #[.bool t129,.slice Ao42 t130.length co42],.agg #[.bool t136,.slice Ao43 t137.length co43],.agg #[.bool t140,.slice Ao44 t141.length co44]] rfl (by (try simp only [List.map_toArray,List.map_cons,List.map_nil]);first|done|rfl|(simp only [List.length_drop,List.length_take];rfl)) ?_;(with_reducible refine (merge_Merge.calls (fun k_=>((some k_≠(v124:Value).ownBlock∧(k_≠gb126∧(k_≠gb127∧k_≠gb128)))∧some k_≠(.slice Ao39 t133.length co39:Value).ownBlock)) _ _ y108 t129 (fun k_=>((some k_≠(.slice Ao20 y108.length co20:Value).ownBlock∧(some k_≠(v124:Value).ownBlock∧(k_≠gb126∧(k_≠gb127∧k_≠gb128))))∧some k_≠(.slice Ao39 t133.length co39:Value).ownBlock)) _ _ t130 t136 (fun k_=>(some k_≠(.slice Ao20 y108.length co20:Value).ownBlock∧(some k_≠(v124:Value).ownBlock∧(k_≠gb126∧(k_≠gb127∧k_≠gb128))))) _ _ t137 t140 (fun k_=>(some k_≠(.slice Ao20 y108.length co20:Value).ownBlock∧(some k_≠(v124:Value).ownBlock∧(some k_≠(.slice Ao39 t133.length co39:Value).ownBlock∧(k_≠gb126∧(k_≠gb127∧k_≠gb128)))))) _ _ t141 true t145 true t149 true t153 t156 _ ?side1 ?side2 ?side3 ?side4 A6.out).mono ?_);(case side1=>exact Kd.N_V (HO110.out));(case side2=>exact HO132.out);(case side3=>exact HO139.out);(case side4=>exact HO143.out);rintro e w45 ⟨v146,v150,v154,v157,rfl,ho0,ho1,ho2,ho3,hb⟩;refine ⟨_,rfl,?_⟩;have n0_:=Aside0.mk (Kd.N_elder' (by (with_reducible repeat (first|apply nA_|apply nN_|apply nD_));exact HO110.out) (Kd.N_base ho3) hb);have n1_:=Aside0.mk (Kd.V_elder' (by (with_reducible repeat (first|apply vA_|apply vN_|apply vD_));exact HO114.out) (Kd.N_base ho3) hb);have n2_:=Aside0.mk (Kd.V_elder' (by (with_reducible repeat (first|apply vA_|apply vN_|apply vD_));exact HO118.out) (Kd.N_base ho3) hb);have n3_:=Aside0.mk (Kd.V_elder' (by (with_reducible repeat (first|apply vA_|apply vN_|apply vD_));exact HO122.out) (Kd.N_base ho3) hb);have n4_:=Aside0.mk (Kd.N_elder' (by (with_reducible repeat (first|apply nA_|apply nN_|apply nD_));exact HO125.out) (Kd.N_base ho3) hb);have n5_:=Aside0.mk (Kd.V_elder' (by (with_reducible repeat (first|apply vA_|apply vN_|apply vD_));exact HO132.out) (Kd.N_base ho3) hb);have n6_:=Aside0.mk (Kd.N_elder' (by (with_reducible repeat (first|apply nA_|apply nN_|apply nD_));exact HO135.out) (Kd.N_base ho3) hb);have n7_:=Aside0.mk (Kd.V_elder' (by (with_reducible repeat (first|apply vA_|apply vN_|apply vD_));exact HO139.out) (Kd.N_base ho3) hb);have n8_:=Aside0.mk (Kd.V_elder' (by (with_reducible repeat (first|apply vA_|apply vN_|apply vD_));exact HO143.out) (Kd.N_base ho3) hb);have n9_:=Aside0.mk (Kd.V_lower (Kd.V_mono (ok':=fun k_=>some k_≠(v157:Value).ownBlock∧some k_≠(v124:Value).ownBlock∧k_≠gb126∧k_≠gb127∧k_≠gb128) ho0 (fun k_ hk_=>⟨hk_.2,Or.elim hk_.1 (fun hs_=>Or.elim hs_ (fun hs_=>hs_.1.1) (fun hs_=>Or.elim hs_ (fun hs_=>hs_.1.2.1) (fun hs_=>Or.elim hs_ (fun hs_=>hs_.2.1) (fun hs_=>hs_.2.1)))) (fun hn_=>(Kd.fresh' (Kd.N_lt (by (with_reducible repeat (first|apply nA_|apply nN_|apply nD_));exact HO125.out)) k_ hn_)),Or.elim hk_.1 (fun hs_=>Or.elim hs_ (fun hs_=>hs_.1.2.1) (fun hs_=>Or.elim hs_ (fun hs_=>hs_.1.2.2.1) (fun hs_=>Or.elim hs_ (fun hs_=>hs_.2.2.1) (fun hs_=>hs_.2.2.2.1)))) (fun hn_=>(Kd.freshB (g:=gb126) (o:=.cells #[.bool false,.slice Ao28 t112.length co28] 26 (0,0)) (by (with_reducible repeat (first|refine blk_drewN ?_ _|refine blk_drew ?_|refine blk_alloc ?_ _));exact BK126.out) k_ hn_)),Or.elim hk_.1 (fun hs_=>Or.elim hs_ (fun hs_=>hs_.1.2.2.1) (fun hs_=>Or.elim hs_ (fun hs_=>hs_.1.2.2.2.1) (fun hs_=>Or.elim hs_ (fun hs_=>hs_.2.2.2.1) (fun hs_=>hs_.2.2.2.2.1)))) (fun hn_=>(Kd.freshB (g:=gb127) (o:=.cells #[.bool false,.slice Ao32 t116.length co32] 26 (0,0)) (by (with_reducible repeat (first|refine blk_drewN ?_ _|refine blk_drew ?_|refine blk_alloc ?_ _));exact BK127.out) k_ hn_)),Or.elim hk_.1 (fun hs_=>Or.elim hs_ (fun hs_=>hs_.1.2.2.2) (fun hs_=>Or.elim hs_ (fun hs_=>hs_.1.2.2.2.2) (fun hs_=>Or.elim hs_ (fun hs_=>hs_.2.2.2.2) (fun hs_=>hs_.2.2.2.2.2)))) (fun hn_=>(Kd.freshB (g:=gb128) (o:=.cells #[.bool false,.slice Ao35 t120.length co35] 26 (0,0)) (by (with_reducible repeat (first|refine blk_drewN ?_ _|refine blk_drew ?_|refine blk_alloc ?_ _));exact BK128.out) k_ hn_))⟩)) (below_size (by repeat (first|(with_reducible first|exact HB.out|apply bA_|apply bN_|apply bD_|refine below_set ?_ GE126.out|refine below_set ?_ GE127.out|refine below_set ?_ GE128.out)|exact HB.out))));have n10_:=Aside0.mk (Kd.V_lower (Kd.V_mono (ok':=fun k_=>some k_≠(v157:Value).ownBlock∧some k_≠(v124:Value).ownBlock∧k_≠gb126∧k_≠gb127∧k_≠gb128) ho1 (fun k_ hk_=>⟨hk_.2,Or.elim hk_.1 (fun hs_=>Or.elim hs_ (fun hs_=>hs_.1.1) (fun hs_=>Or.elim hs_ (fun hs_=>hs_.1.2.1) (fun hs_=>Or.elim hs_ (fun hs_=>hs_.2.1) (fun hs_=>hs_.2.1)))) (fun hn_=>(Kd.fresh' (Kd.N_lt (by (with_reducible repeat (first|apply nA_|apply nN_|apply nD_));exact HO125.out)) k_ hn_)),Or.elim hk_.1 (fun hs_=>Or.elim hs_ (fun hs_=>hs_.1.2.1) (fun hs_=>Or.elim hs_ (fun hs_=>hs_.1.2.2.1) (fun hs_=>Or.elim hs_ (fun hs_=>hs_.2.2.1) (fun hs_=>hs_.2.2.2.1)))) (fun hn_=>(Kd.freshB (g:=gb126) (o:=.cells #[.bool false,.slice Ao28 t112.length co28] 26 (0,0)) (by (with_reducible repeat (first|refine blk_drewN ?_ _|refine blk_drew ?_|refine blk_alloc ?_ _));exact BK126.out) k_ hn_)),Or.elim hk_.1 (fun hs_=>Or.elim hs_ (fun hs_=>hs_.1.2.2.1) (fun hs_=>Or.elim hs_ (fun hs_=>hs_.1.2.2.2.1) (fun hs_=>Or.elim hs_ (fun hs_=>hs_.2.2.2.1) (fun hs_=>hs_.2.2.2.2.1)))) (fun hn_=>(Kd.freshB (g:=gb127) (o:=.cells #[.bool false,.slice Ao32 t116.length co32] 26 (0,0)) (by (with_reducible repeat (first|refine blk_drewN ?_ _|refine blk_drew ?_|refine blk_alloc ?_ _));exact BK127.out) k_ hn_)),Or.elim hk_.1 (fun hs_=>Or.elim hs_ (fun hs_=>hs_.1.2.2.2) (fun hs_=>Or.elim hs_ (fun hs_=>hs_.1.2.2.2.2) (fun hs_=>Or.elim hs_ (fun hs_=>hs_.2.2.2.2) (fun hs_=>hs_.2.2.2.2.2)))) (fun hn_=>(Kd.freshB (g:=gb128) (o:=.cells #[.bool false,.slice Ao35 t120.length co35] 26 (0,0)) (by (with_reducible repeat (first|refine blk_drewN ?_ _|refine blk_drew ?_|refine blk_alloc ?_ _));exact BK128.out) k_ hn_))⟩)) (below_size (by repeat (first|(with_reducible first|exact HB.out|apply bA_|apply bN_|apply bD_|refine below_set ?_ GE126.out|refine below_set ?_ GE127.out|refine below_set ?_ GE128.out)|exact HB.out))));have n11_:=Aside0.mk (Kd.V_lower (Kd.V_mono (ok':=fun k_=>some k_≠(v157:Value).ownBlock∧some k_≠(v124:Value).ownBlock∧k_≠gb126∧k_≠gb127∧k_≠gb128) ho2 (fun k_ hk_=>⟨hk_.2,Or.elim hk_.1 (fun hs_=>Or.elim hs_ (fun hs_=>hs_.1.1) (fun hs_=>Or.elim hs_ (fun hs_=>hs_.1.2.1) (fun hs_=>Or.elim hs_ (fun hs_=>hs_.2.1) (fun hs_=>hs_.2.1)))) (fun hn_=>(Kd.fresh' (Kd.N_lt (by (with_reducible repeat (first|apply nA_|apply nN_|apply nD_));exact HO125.out)) k_ hn_)),Or.elim hk_.1 (fun hs_=>Or.elim hs_ (fun hs_=>hs_.1.2.1) (fun hs_=>Or.elim hs_ (fun hs_=>hs_.1.2.2.1) (fun hs_=>Or.elim hs_ (fun hs_=>hs_.2.2.1) (fun hs_=>hs_.2.2.2.1)))) (fun hn_=>(Kd.freshB (g:=gb126) (o:=.cells #[.bool false,.slice Ao28 t112.length co28] 26 (0,0)) (by (with_reducible repeat (first|refine blk_drewN ?_ _|refine blk_drew ?_|refine blk_alloc ?_ _));exact BK126.out) k_ hn_)),Or.elim hk_.1 (fun hs_=>Or.elim hs_ (fun hs_=>hs_.1.2.2.1) (fun hs_=>Or.elim hs_ (fun hs_=>hs_.1.2.2.2.1) (fun hs_=>Or.elim hs_ (fun hs_=>hs_.2.2.2.1) (fun hs_=>hs_.2.2.2.2.1)))) (fun hn_=>(Kd.freshB (g:=gb127) (o:=.cells #[.bool false,.slice Ao32 t116.length co32] 26 (0,0)) (by (with_reducible repeat (first|refine blk_drewN ?_ _|refine blk_drew ?_|refine blk_alloc ?_ _));exact BK127.out) k_ hn_)),Or.elim hk_.1 (fun hs_=>Or.elim hs_ (fun hs_=>hs_.1.2.2.2) (fun hs_=>Or.elim hs_ (fun hs_=>hs_.1.2.2.2.2) (fun hs_=>Or.elim hs_ (fun hs_=>hs_.2.2.2.2) (fun hs_=>hs_.2.2.2.2.2)))) (fun hn_=>(Kd.freshB (g:=gb128) (o:=.cells #[.bool false,.slice Ao35 t120.length co35] 26 (0,0)) (by (with_reducible repeat (first|refine blk_drewN ?_ _|refine blk_drew ?_|refine blk_alloc ?_ _));exact BK128.out) k_ hn_))⟩)) (below_size (by repeat (first|(with_reducible first|exact HB.out|apply bA_|apply bN_|apply bD_|refine below_set ?_ GE126.out|refine below_set ?_ GE127.out|refine below_set ?_ GE128.out)|exact HB.out))));have n12_:=Aside0.mk (Kd.N_lower (Kd.N_mono (ok':=fun k_=>some k_≠(v124:Value).ownBlock∧k_≠gb126∧k_≠gb127∧k_≠gb128) ho3 (fun k_ hk_=>⟨Or.elim hk_ (fun hs_=>Or.elim hs_ (fun hs_=>hs_.1.1) (fun hs_=>Or.elim hs_ (fun hs_=>hs_.1.2.1) (fun hs_=>Or.elim hs_ (fun hs_=>hs_.2.1) (fun hs_=>hs_.2.1)))) (fun hn_=>(Kd.fresh' (Kd.N_lt (by (with_reducible repeat (first|apply nA_|apply nN_|apply nD_));exact HO125.out)) k_ hn_)),Or.elim hk_ (fun hs_=>Or.elim hs_ (fun hs_=>hs_.1.2.1) (fun hs_=>Or.elim hs_ (fun hs_=>hs_.1.2.2.1) (fun hs_=>Or.elim hs_ (fun hs_=>hs_.2.2.1) (fun hs_=>hs_.2.2.2.1)))) (fun hn_=>(Kd.freshB (g:=gb126) (o:=.cells #[.bool false,.slice Ao28 t112.length co28] 26 (0,0)) (by (with_reducible repeat (first|refine blk_drewN ?_ _|refine blk_drew ?_|refine blk_alloc ?_ _));exact BK126.out) k_ hn_)),Or.elim hk_ (fun hs_=>Or.elim hs_ (fun hs_=>hs_.1.2.2.1) (fun hs_=>Or.elim hs_ (fun hs_=>hs_.1.2.2.2.1) (fun hs_=>Or.elim hs_ (fun hs_=>hs_.2.2.2.1) (fun hs_=>hs_.2.2.2.2.1)))) (fun hn_=>(Kd.freshB (g:=gb127) (o:=.cells #[.bool false,.slice Ao32 t116.length co32] 26 (0,0)) (by (with_reducible repeat (first|refine blk_drewN ?_ _|refine blk_drew ?_|refine blk_alloc ?_ _));exact BK127.out) k_ hn_)),Or.elim hk_ (fun hs_=>Or.elim hs_ (fun hs_=>hs_.1.2.2.2) (fun hs_=>Or.elim hs_ (fun hs_=>hs_.1.2.2.2.2) (fun hs_=>Or.elim hs_ (fun hs_=>hs_.2.2.2.2) (fun hs_=>hs_.2.2.2.2.2)))) (fun hn_=>(Kd.freshB (g:=gb128) (o:=.cells #[.bool false,.slice Ao35 t120.length co35] 26 (0,0)) (by (with_reducible repeat (first|refine blk_drewN ?_ _|refine blk_drew ?_|refine blk_alloc ?_ _));exact BK128.out) k_ hn_))⟩)) (below_size (by repeat (first|(with_reducible first|exact HB.out|apply bA_|apply bN_|apply bD_|refine below_set ?_ GE126.out|refine below_set ?_ GE127.out|refine below_set ?_ GE128.out)|exact HB.out))));have n13_:=Aside0.mk (blk_below (g:=gb126) (o:=.cells #[.bool false,.slice Ao28 t112.length co28] 26 (0,0)) (by (with_reducible repeat (first|refine blk_drewN ?_ _|refine blk_drew ?_|refine blk_alloc ?_ _));exact BK126.out) hb);have n14_:=Aside0.mk (blk_below (g:=gb127) (o:=.cells #[.bool false,.slice Ao32 t116.length co32] 26 (0,0)) (by (with_reducible repeat (first|refine blk_drewN ?_ _|refine blk_drew ?_|refine blk_alloc ?_ _));exact BK127.out) hb);have n15_:=Aside0.mk (blk_below (g:=gb128) (o:=.cells #[.bool false,.slice Ao35 t120.length co35] 26 (0,0)) (by (with_reducible repeat (first|refine blk_drewN ?_ _|refine blk_drew ?_|refine blk_alloc ?_ _));exact BK128.out) hb);have n16_:=Aside0.mk (below_step (by repeat (first|(with_reducible first|exact HB.out|apply bA_|apply bN_|apply bD_|refine below_set ?_ GE126.out|refine below_set ?_ GE127.out|refine below_set ?_ GE128.out)|exact HB.out)) hb);clear HO110;clear HO114;clear HO118;clear HO122;clear HO125;clear HO132;clear HO135;clear HO139;clear HO143;clear BK126;clear BK127;clear BK128;clear HB;have HO110:=n0_;have HO114:=n1_;have HO118:=n2_;have HO122:=n3_;have HO125:=n4_;have HO132:=n5_;have HO135:=n6_;have HO139:=n7_;have HO143:=n8_;have HO147:=n9_;have HO151:=n10_;have HO155:=n11_;have HO158:=n12_;have BK126:=n13_;have BK127:=n14_;have BK128:=n15_;have HB:=n16_;clear n0_ n1_ n2_ n3_ n4_ n5_ n6_ n7_ n8_ n9_ n10_ n11_ n12_ n13_ n14_ n15_ n16_;(try clear hb);(try clear hb2);(try clear hk);(try clear hi);(try clear ho0);(try clear ho1);(try clear ho2);(try clear ho3))|((with_reducible refine gate_dst (N:=6) rfl ?_);(try (refine gate_guard (by rfl) ?_;dsimp only));refine box_event ?hg (N:=6) ?hd (cs:=#[.bool false,.slice none 0 0]) (t:=26) ?hr ?_;(case hd=>rfl);(case hg=>rfl);(case hr=>first|(go_simp;done)|(go_simp;rfl));intro gb159 hg w46 hbox hb;have n0_:=Aside0.mk (Kd.N_below (Kd.N_elderB (by (with_reducible repeat (first|apply nA_|apply nN_|apply nD_));exact HO110.out) gb159 (Nat.le_of_eq hg.symm)) hb);have n1_:=Aside0.mk (Kd.V_below (Kd.V_elderB (by (with_reducible repeat (first|apply vA_|apply vN_|apply vD_));exact HO114.out) gb159 (Nat.le_of_eq hg.symm)) hb);have n2_:=Aside0.mk (Kd.V_below (Kd.V_elderB (by (with_reducible repeat (first|apply vA_|apply vN_|apply vD_));exact HO118.out) gb159 (Nat.le_of_eq hg.symm)) hb);have n3_:=Aside0.mk (Kd.V_below (Kd.V_elderB (by (with_reducible repeat (first|apply vA_|apply vN_|apply vD_));exact HO122.out) gb159 (Nat.le_of_eq hg.symm)) hb);have n4_:=Aside0.mk (Kd.N_below (Kd.N_elderB (by (with_reducible repeat (first|apply nA_|apply nN_|apply nD_));exact HO125.out) gb159 (Nat.le_of_eq hg.symm)) hb);have n5_:=Aside0.mk (Kd.V_below (Kd.V_elderB (by (with_reducible repeat (first|apply vA_|apply vN_|apply vD_));exact HO132.out) gb159 (Nat.le_of_eq hg.symm)) hb);have n6_:=Aside0.mk (Kd.N_below (Kd.N_elderB (by (with_reducible repeat (first|apply nA_|apply nN_|apply nD_));exact HO135.out) gb159 (Nat.le_of_eq hg.symm)) hb);have n7_:=Aside0.mk (Kd.V_below (Kd.V_elderB (by (with_reducible repeat (first|apply vA_|apply vN_|apply vD_));exact HO139.out) gb159 (Nat.le_of_eq hg.symm)) hb);have n8_:=Aside0.mk (Kd.V_below (Kd.V_elderB (by (with_reducible repeat (first|apply vA_|apply vN_|apply vD_));exact HO143.out) gb159 (Nat.le_of_eq hg.symm)) hb);have n9_:=Aside0.mk (Kd.V_below (Kd.V_elderB (by (with_reducible repeat (first|apply vA_|apply vN_|apply vD_));exact HO147.out) gb159 (Nat.le_of_eq hg.symm)) hb);have n10_:=Aside0.mk (Kd.V_below (Kd.V_elderB (by (with_reducible repeat (first|apply vA_|apply vN_|apply vD_));exact HO151.out) gb159 (Nat.le_of_eq hg.symm)) hb);have n11_:=Aside0.mk (Kd.V_below (Kd.V_elderB (by (with_reducible repeat (first|apply vA_|apply vN_|apply vD_));exact HO155.out) gb159 (Nat.le_of_eq hg.symm)) hb);have n12_:=Aside0.mk (Kd.N_below (Kd.N_elderB (by (with_reducible repeat (first|apply nA_|apply nN_|apply nD_));exact HO158.out) gb159 (Nat.le_of_eq hg.symm)) hb);have n13_:=Aside0.mk (blk_below (g:=gb126) (o:=.cells #[.bool false,.slice Ao28 t112.length co28] 26 (0,0)) (by (with_reducible repeat (first|refine blk_drewN ?_ _|refine blk_drew ?_|refine blk_alloc ?_ _));exact BK126.out) hb);have n14_:=Aside0.mk (blk_below (g:=gb127) (o:=.cells #[.bool false,.slice Ao32 t116.length co32] 26 (0,0)) (by (with_reducible repeat (first|refine blk_drewN ?_ _|refine blk_drew ?_|refine blk_alloc ?_ _));exact BK127.out) hb);have n15_:=Aside0.mk (blk_below (g:=gb128) (o:=.cells #[.bool false,.slice Ao35 t120.length co35] 26 (0,0)) (by (with_reducible repeat (first|refine blk_drewN ?_ _|refine blk_drew ?_|refine blk_alloc ?_ _));exact BK128.out) hb);have n16_:=Aside0.mk (below_step (by repeat (first|(with_reducible first|exact HB.out|apply bA_|apply bN_|apply bD_|refine below_set ?_ GE126.out|refine below_set ?_ GE127.out|refine below_set ?_ GE128.out)|exact HB.out)) hb);have n17_:=Aside0.mk (hbox);have n18_:=Aside0.mk ((by rw [hg];exact (below_size (by repeat (first|(with_reducible first|exact HB.out|apply bA_|apply bN_|apply bD_|refine below_set ?_ GE126.out|refine below_set ?_ GE127.out|refine below_set ?_ GE128.out)|exact HB.out))):w.heap.size≤gb159));have n19_:=Aside0.mk ((by rw [hg];exact (below_size (by repeat (first|(with_reducible first|exact HB.out|apply bA_|apply bN_|apply bD_|refine below_set ?_ GE126.out|refine below_set ?_ GE127.out|refine below_set ?_ GE128.out)|exact HB.out))):w.heap.size≤gb159));have n20_:=Aside0.mk ((by rw [hg];exact Nat.ne_of_lt (blk_lt (g:=gb126) (o:=.cells #[.bool false,.slice Ao28 t112.length co28] 26 (0,0)) (by (with_reducible repeat (first|refine blk_drewN ?_ _|refine blk_drew ?_|refine blk_alloc ?_ _));exact BK126.out)):gb126≠gb159));have n21_:=Aside0.mk ((by rw [hg];exact Nat.ne_of_gt (blk_lt (g:=gb126) (o:=.cells #[.bool false,.slice Ao28 t112.length co28] 26 (0,0)) (by (with_reducible repeat (first|refine blk_drewN ?_ _|refine blk_drew ?_|refine blk_alloc ?_ _));exact BK126.out)):gb159≠gb126));have n22_:=Aside0.mk ((by rw [hg];exact Nat.ne_of_lt (blk_lt (g:=gb127) (o:=.cells #[.bool false,.slice Ao32 t116.length co32] 26 (0,0)) (by (with_reducible repeat (first|refine blk_drewN ?_ _|refine blk_drew ?_|refine blk_alloc ?_ _));exact BK127.out)):gb127≠gb159));have n23_:=Aside0.mk ((by rw [hg];exact Nat.ne_of_gt (blk_lt (g:=gb127) (o:=.cells #[.bool false,.slice Ao32 t116.length co32] 26 (0,0)) (by (with_reducible repeat (first|refine blk_drewN ?_ _|refine blk_drew ?_|refine blk_alloc ?_ _));exact BK127.out)):gb159≠gb127));have n24_:=Aside0.mk ((by rw [hg];exact Nat.ne_of_lt (blk_lt (g:=gb128) (o:=.cells #[.bool false,.slice Ao35 t120.length co35] 26 (0,0)) (by (with_reducible repeat (first|refine blk_drewN ?_ _|refine blk_drew ?_|refine blk_alloc ?_ _));exact BK128.out)):gb128≠gb159));have n25_:=Aside0.mk ((by rw [hg];exact Nat.ne_of_gt (blk_lt (g:=gb128) (o:=.cells #[.bool false,.slice Ao35 t120.length co35] 26 (0,0)) (by (with_reducible repeat (first|refine blk_drewN ?_ _|refine blk_drew ?_|refine blk_alloc ?_ _));exact BK128.out)):gb159≠gb128));clear HO110;clear HO114;clear HO118;clear HO122;clear HO125;clear HO132;clear HO135;clear HO139;clear HO143;clear HO147;clear HO151;clear HO155;clear HO158;clear BK126;clear BK127;clear BK128;clear HB;have HO110:=n0_;have HO114:=n1_;have HO118:=n2_;have HO122:=n3_;have HO125:=n4_;have HO132:=n5_;have HO135:=n6_;have HO139:=n7_;have HO143:=n8_;have HO147:=n9_;have HO151:=n10_;have HO155:=n11_;have HO158:=n12_;have BK126:=n13_;have BK127:=n14_;have BK128:=n15_;have HB:=n16_;have BK159:=n17_;have GW159:=n18_;have GE159:=n19_;have NB126_159:=n20_;have NB159_126:=n21_;have NB127_159:=n22_;have NB159_127:=n23_;have NB128_159:=n24_;have NB159_128:=n25_;clear n0_ n1_ n2_ n3_ n4_ n5_ n6_ n7_ n8_ n9_ n10_ n11_ n12_ n13_ n14_ n15_ n16_ n17_ n18_ n19_ n20_ n21_ n22_ n23_ n24_ n25_;clear hb hbox hg)|((with_reducible refine gate_dst (N:=7) rfl ?_);(try (refine gate_guard (by rfl) ?_;dsimp only));refine box_event ?hg (N:=7) ?hd (cs:=#[.bool false,.slice none 0 0]) (t:=26) ?hr ?_;(case hd=>rfl);(case hg=>rfl);(case hr=>first|(go_simp;done)|(go_simp;rfl));intro gb160 hg w47 hbox hb;have n0_:=Aside0.mk (Kd.N_below (Kd.N_elderB (by (with_reducible repeat (first|apply nA_|apply nN_|apply nD_));exact HO110.out) gb160 (Nat.le_of_eq hg.symm)) hb);have n1_:=Aside0.mk (Kd.V_below (Kd.V_elderB (by (with_reducible repeat (first|apply vA_|apply vN_|apply vD_));exact HO114.out) gb160 (Nat.le_of_eq hg.symm)) hb);have n2_:=Aside0.mk (Kd.V_below (Kd.V_elderB (by (with_reducible repeat (first|apply vA_|apply vN_|apply vD_));exact HO118.out) gb160 (Nat.le_of_eq hg.symm)) hb);have n3_:=Aside0.mk (Kd.V_below (Kd.V_elderB (by (with_reducible repeat (first|apply vA_|apply vN_|apply vD_));exact HO122.out) gb160 (Nat.le_of_eq hg.symm)) hb);have n4_:=Aside0.mk (Kd.N_below (Kd.N_elderB (by (with_reducible repeat (first|apply nA_|apply nN_|apply nD_));exact HO125.out) gb160 (Nat.le_of_eq hg.symm)) hb);have n5_:=Aside0.mk (Kd.V_below (Kd.V_elderB (by (with_reducible repeat (first|apply vA_|apply vN_|apply vD_));exact HO132.out) gb160 (Nat.le_of_eq hg.symm)) hb);have n6_:=Aside0.mk (Kd.N_below (Kd.N_elderB (by (with_reducible repeat (first|apply nA_|apply nN_|apply nD_));exact HO135.out) gb160 (Nat.le_of_eq hg.symm)) hb);have n7_:=Aside0.mk (Kd.V_below (Kd.V_elderB (by (with_reducible repeat (first|apply vA_|apply vN_|apply vD_));exact HO139.out) gb160 (Nat.le_of_eq hg.symm)) hb);have n8_:=Aside0.mk (Kd.V_below (Kd.V_elderB (by (with_reducible repeat (first|apply vA_|apply vN_|apply vD_));exact HO143.out) gb160 (Nat.le_of_eq hg.symm)) hb);have n9_:=Aside0.mk (Kd.V_below (Kd.V_elderB (by (with_reducible repeat (first|apply vA_|apply vN_|apply vD_));exact HO147.out) gb160 (Nat.le_of_eq hg.symm)) hb);have n10_:=Aside0.mk (Kd.V_below (Kd.V_elderB (by (with_reducible repeat (first|apply vA_|apply vN_|apply vD_));exact HO151.out) gb160 (Nat.le_of_eq hg.symm)) hb);have n11_:=Aside0.mk (Kd.V_below (Kd.V_elderB (by (with_reducible repeat (first|apply vA_|apply vN_|apply vD_));exact HO155.out) gb160 (Nat.le_of_eq hg.symm)) hb);have n12_:=Aside0.mk (Kd.N_below (Kd.N_elderB (by (with_reducible repeat (first|apply nA_|apply nN_|apply nD_));exact HO158.out) gb160 (Nat.le_of_eq hg.symm)) hb);have n13_:=Aside0.mk (blk_below (g:=gb126) (o:=.cells #[.bool false,.slice Ao28 t112.length co28] 26 (0,0)) (by (with_reducible repeat (first|refine blk_drewN ?_ _|refine blk_drew ?_|refine blk_alloc ?_ _));exact BK126.out) hb);have n14_:=Aside0.mk (blk_below (g:=gb127) (o:=.cells #[.bool false,.slice Ao32 t116.length co32] 26 (0,0)) (by (with_reducible repeat (first|refine blk_drewN ?_ _|refine blk_drew ?_|refine blk_alloc ?_ _));exact BK127.out) hb);have n15_:=Aside0.mk (blk_below (g:=gb128) (o:=.cells #[.bool false,.slice Ao35 t120.length co35] 26 (0,0)) (by (with_reducible repeat (first|refine blk_drewN ?_ _|refine blk_drew ?_|refine blk_alloc ?_ _));exact BK128.out) hb);have n16_:=Aside0.mk (blk_below (g:=gb159) (o:=.cells #[.bool false,.slice none 0 0] 26 (0,0)) (by (with_reducible repeat (first|refine blk_drewN ?_ _|refine blk_drew ?_|refine blk_alloc ?_ _));exact BK159.out) hb);have n17_:=Aside0.mk (below_step (by repeat (first|(with_reducible first|exact HB.out|apply bA_|apply bN_|apply bD_|refine below_set ?_ GE126.out|refine below_set ?_ GE127.out|refine below_set ?_ GE128.out|refine below_set ?_ GE159.out)|exact HB.out)) hb);have n18_:=Aside0.mk (hbox);have n19_:=Aside0.mk ((by rw [hg];exact (below_size (by repeat (first|(with_reducible first|exact HB.out|apply bA_|apply bN_|apply bD_|refine below_set ?_ GE126.out|refine below_set ?_ GE127.out|refine below_set ?_ GE128.out|refine below_set ?_ GE159.out)|exact HB.out))):w.heap.size≤gb160));have n20_:=Aside0.mk ((by rw [hg];exact (below_size (by repeat (first|(with_reducible first|exact HB.out|apply bA_|apply bN_|apply bD_|refine below_set ?_ GE126.out|refine below_set ?_ GE127.out|refine below_set ?_ GE128.out|refine below_set ?_ GE159.out)|exact HB.out))):w.heap.size≤gb160));have n21_:=Aside0.mk ((by rw [hg];exact Nat.ne_of_lt (blk_lt (g:=gb126) (o:=.cells #[.bool false,.slice Ao28 t112.length co28] 26 (0,0)) (by (with_reducible repeat (first|refine blk_drewN ?_ _|refine blk_drew ?_|refine blk_alloc ?_ _));exact BK126.out)):gb126≠gb160));have n22_:=Aside0.mk ((by rw [hg];exact Nat.ne_of_gt (blk_lt (g:=gb126) (o:=.cells #[.bool false,.slice Ao28 t112.length co28] 26 (0,0)) (by (with_reducible repeat (first|refine blk_drewN ?_ _|refine blk_drew ?_|refine blk_alloc ?_ _));exact BK126.out)):gb160≠gb126));have n23_:=Aside0.mk ((by rw [hg];exact Nat.ne_of_lt (blk_lt (g:=gb127) (o:=.cells #[.bool false,.slice Ao32 t116.length co32] 26 (0,0)) (by (with_reducible repeat (first|refine blk_drewN ?_ _|refine blk_drew ?_|refine blk_alloc ?_ _));exact BK127.out)):gb127≠gb160));have n24_:=Aside0.mk ((by rw [hg];exact Nat.ne_of_gt (blk_lt (g:=gb127) (o:=.cells #[.bool false,.slice Ao32 t116.length co32] 26 (0,0)) (by (with_reducible repeat (first|refine blk_drewN ?_ _|refine blk_drew ?_|refine blk_alloc ?_ _));exact BK127.out)):gb160≠gb127));have n25_:=Aside0.mk ((by rw [hg];exact Nat.ne_of_lt (blk_lt (g:=gb128) (o:=.cells #[.bool false,.slice Ao35 t120.length co35] 26 (0,0)) (by (with_reducible repeat (first|refine blk_drewN ?_ _|refine blk_drew ?_|refine blk_alloc ?_ _));exact BK128.out)):gb128≠gb160));have n26_:=Aside0.mk ((by rw [hg];exact Nat.ne_of_gt (blk_lt (g:=gb128) (o:=.cells #[.bool false,.slice Ao35 t120.length co35] 26 (0,0)) (by (with_reducible repeat (first|refine blk_drewN ?_ _|refine blk_drew ?_|refine blk_alloc ?_ _));exact BK128.out)):gb160≠gb128));have n27_:=Aside0.mk ((by rw [hg];exact Nat.ne_of_lt (blk_lt (g:=gb159) (o:=.cells #[.bool false,.slice none 0 0] 26 (0,0)) (by (with_reducible repeat (first|refine blk_drewN ?_ _|refine blk_drew ?_|refine blk_alloc ?_ _));exact BK159.out)):gb159≠gb160));have n28_:=Aside0.mk ((by rw [hg];exact Nat.ne_of_gt (blk_lt (g:=gb159) (o:=.cells #[.bool false,.slice none 0 0] 26 (0,0)) (by (with_reducible repeat (first|refine blk_drewN ?_ _|refine blk_drew ?_|refine blk_alloc ?_ _));exact BK159.out)):gb160≠gb159));clear HO110;clear HO114;clear HO118;clear HO122;clear HO125;clear HO132;clear HO135;clear HO139;clear HO143;clear HO147;clear HO151;clear HO155;clear HO158;clear BK126;clear BK127;clear BK128;clear BK159;clear HB;have HO110:=n0_;have HO114:=n1_;have HO118:=n2_;have HO122:=n3_;have HO125:=n4_;have HO132:=n5_;have HO135:=n6_;have HO139:=n7_;have HO143:=n8_;have HO147:=n9_;have HO151:=n10_;have HO155:=n11_;have HO158:=n12_;have BK126:=n13_;have BK127:=n14_;have BK128:=n15_;have BK159:=n16_;have HB:=n17_;have BK160:=n18_;have GW160:=n19_;have GE160:=n20_;have NB126_160:=n21_;have NB160_126:=n22_;have NB127_160:=n23_;have NB160_127:=n24_;have NB128_160:=n25_;have NB160_128:=n26_;have NB159_160:=n27_;have NB160_159:=n28_;clear n0_ n1_ n2_ n3_ n4_ n5_ n6_ n7_ n8_ n9_ n10_ n11_ n12_ n13_ n14_ n15_ n16_ n17_ n18_ n19_ n20_ n21_ n22_ n23_ n24_ n25_ n26_ n27_ n28_;clear hb hbox hg)|((with_reducible refine gate_dst (N:=8) rfl ?_);(try (refine gate_guard (by rfl) ?_;dsimp only));refine box_event ?hg (N:=8) ?hd (cs:=#[.bool false,.slice none 0 0]) (t:=26) ?hr ?_;(case hd=>rfl);(case hg=>rfl);(case hr=>first|(go_simp;done)|(go_simp;rfl));intro gb161 hg w48 hbox hb;have n0_:=Aside0.mk (Kd.N_below (Kd.N_elderB (by (with_reducible repeat (first|apply nA_|apply nN_|apply nD_));exact HO110.out) gb161 (Nat.le_of_eq hg.symm)) hb);have n1_:=Aside0.mk (Kd.V_below (Kd.V_elderB (by (with_reducible repeat (first|apply vA_|apply vN_|apply vD_));exact HO114.out) gb161 (Nat.le_of_eq hg.symm)) hb);have n2_:=Aside0.mk (Kd.V_below (Kd.V_elderB (by (with_reducible repeat (first|apply vA_|apply vN_|apply vD_));exact HO118.out) gb161 (Nat.le_of_eq hg.symm)) hb);have n3_:=Aside0.mk (Kd.V_below (Kd.V_elderB (by (with_reducible repeat (first|apply vA_|apply vN_|apply vD_));exact HO122.out) gb161 (Nat.le_of_eq hg.symm)) hb);have n4_:=Aside0.mk (Kd.N_below (Kd.N_elderB (by (with_reducible repeat (first|apply nA_|apply nN_|apply nD_));exact HO125.out) gb161 (Nat.le_of_eq hg.symm)) hb);have n5_:=Aside0.mk (Kd.V_below (Kd.V_elderB (by (with_reducible repeat (first|apply vA_|apply vN_|apply vD_));exact HO132.out) gb161 (Nat.le_of_eq hg.symm)) hb);have n6_:=Aside0.mk (Kd.N_below (Kd.N_elderB (by (with_reducible repeat (first|apply nA_|apply nN_|apply nD_));exact HO135.out) gb161 (Nat.le_of_eq hg.symm)) hb);have n7_:=Aside0.mk (Kd.V_below (Kd.V_elderB (by (with_reducible repeat (first|apply vA_|apply vN_|apply vD_));exact HO139.out) gb161 (Nat.le_of_eq hg.symm)) hb);have n8_:=Aside0.mk (Kd.V_below (Kd.V_elderB (by (with_reducible repeat (first|apply vA_|apply vN_|apply vD_));exact HO143.out) gb161 (Nat.le_of_eq hg.symm)) hb);have n9_:=Aside0.mk (Kd.V_below (Kd.V_elderB (by (with_reducible repeat (first|apply vA_|apply vN_|apply vD_));exact HO147.out) gb161 (Nat.le_of_eq hg.symm)) hb);have n10_:=Aside0.mk (Kd.V_below (Kd.V_elderB (by (with_reducible repeat (first|apply vA_|apply vN_|apply vD_));exact HO151.out) gb161 (Nat.le_of_eq hg.symm)) hb);have n11_:=Aside0.mk (Kd.V_below (Kd.V_elderB (by (with_reducible repeat (first|apply vA_|apply vN_|apply vD_));exact HO155.out) gb161 (Nat.le_of_eq hg.symm)) hb);have n12_:=Aside0.mk (Kd.N_below (Kd.N_elderB (by (with_reducible repeat (first|apply nA_|apply nN_|apply nD_));exact HO158.out) gb161 (Nat.le_of_eq hg.symm)) hb);have n13_:=Aside0.mk (blk_below (g:=gb126) (o:=.cells #[.bool false,.slice Ao28 t112.length co28] 26 (0,0)) (by (with_reducible repeat (first|refine blk_drewN ?_ _|refine blk_drew ?_|refine blk_alloc ?_ _));exact BK126.out) hb);have n14_:=Aside0.mk (blk_below (g:=gb127) (o:=.cells #[.bool false,.slice Ao32 t116.length co32] 26 (0,0)) (by (with_reducible repeat (first|refine blk_drewN ?_ _|refine blk_drew ?_|refine blk_alloc ?_ _));exact BK127.out) hb);have n15_:=Aside0.mk (blk_below (g:=gb128) (o:=.cells #[.bool false,.slice Ao35 t120.length co35] 26 (0,0)) (by (with_reducible repeat (first|refine blk_drewN ?_ _|refine blk_drew ?_|refine blk_alloc ?_ _));exact BK128.out) hb);have n16_:=Aside0.mk (blk_below (g:=gb159) (o:=.cells #[.bool false,.slice none 0 0] 26 (0,0)) (by (with_reducible repeat (first|refine blk_drewN ?_ _|refine blk_drew ?_|refine blk_alloc ?_ _));exact BK159.out) hb);have n17_:=Aside0.mk (blk_below (g:=gb160) (o:=.cells #[.bool false,.slice none 0 0] 26 (0,0)) (by (with_reducible repeat (first|refine blk_drewN ?_ _|refine blk_drew ?_|refine blk_alloc ?_ _));exact BK160.out) hb);have n18_:=Aside0.mk (below_step (by repeat (first|(with_reducible first|exact HB.out|apply bA_|apply bN_|apply bD_|refine below_set ?_ GE126.out|refine below_set ?_ GE127.out|refine below_set ?_ GE128.out|refine below_set ?_ GE159.out|refine below_set ?_ GE160.out)|exact HB.out)) hb);have n19_:=Aside0.mk (hbox);have n20_:=Aside0.mk ((by rw [hg];exact (below_size (by repeat (first|(with_reducible first|exact HB.out|apply bA_|apply bN_|apply bD_|refine below_set ?_ GE126.out|refine below_set ?_ GE127.out|refine below_set ?_ GE128.out|refine below_set ?_ GE159.out|refine below_set ?_ GE160.out)|exact HB.out))):w.heap.size≤gb161));have n21_:=Aside0.mk ((by rw [hg];exact (below_size (by repeat (first|(with_reducible first|exact HB.out|apply bA_|apply bN_|apply bD_|refine below_set ?_ GE126.out|refine below_set ?_ GE127.out|refine below_set ?_ GE128.out|refine below_set ?_ GE159.out|refine below_set ?_ GE160.out)|exact HB.out))):w.heap.size≤gb161));have n22_:=Aside0.mk ((by rw [hg];exact Nat.ne_of_lt (blk_lt (g:=gb126) (o:=.cells #[.bool false,.slice Ao28 t112.length co28] 26 (0,0)) (by (with_reducible repeat (first|refine blk_drewN ?_ _|refine blk_drew ?_|refine blk_alloc ?_ _));exact BK126.out)):gb126≠gb161));have n23_:=Aside0.mk ((by rw [hg];exact Nat.ne_of_gt (blk_lt (g:=gb126) (o:=.cells #[.bool false,.slice Ao28 t112.length co28] 26 (0,0)) (by (with_reducible repeat (first|refine blk_drewN ?_ _|refine blk_drew ?_|refine blk_alloc ?_ _));exact BK126.out)):gb161≠gb126));have n24_:=Aside0.mk ((by rw [hg];exact Nat.ne_of_lt (blk_lt (g:=gb127) (o:=.cells #[.bool false,.slice Ao32 t116.length co32] 26 (0,0)) (by (with_reducible repeat (first|refine blk_drewN ?_ _|refine blk_drew ?_|refine blk_alloc ?_ _));exact BK127.out)):gb127≠gb161));have n25_:=Aside0.mk ((by rw [hg];exact Nat.ne_of_gt (blk_lt (g:=gb127) (o:=.cells #[.bool false,.slice Ao32 t116.length co32] 26 (0,0)) (by (with_reducible repeat (first|refine blk_drewN ?_ _|refine blk_drew ?_|refine blk_alloc ?_ _));exact BK127.out)):gb161≠gb127));have n26_:=Aside0.mk ((by rw [hg];exact Nat.ne_of_lt (blk_lt (g:=gb128) (o:=.cells #[.bool false,.slice Ao35 t120.length co35] 26 (0,0)) (by (with_reducible repeat (first|refine blk_drewN ?_ _|refine blk_drew ?_|refine blk_alloc ?_ _));exact BK128.out)):gb128≠gb161));have n27_:=Aside0.mk ((by rw [hg];exact Nat.ne_of_gt (blk_lt (g:=gb128) (o:=.cells #[.bool false,.slice Ao35 t120.length co35] 26 (0,0)) (by (with_reducible repeat (first|refine blk_drewN ?_ _|refine blk_drew ?_|refine blk_alloc ?_ _));exact BK128.out)):gb161≠gb128));have n28_:=Aside0.mk ((by rw [hg];exact Nat.ne_of_lt (blk_lt (g:=gb159) (o:=.cells #[.bool false,.slice none 0 0] 26 (0,0)) (by (with_reducible repeat (first|refine blk_drewN ?_ _|refine blk_drew ?_|refine blk_alloc ?_ _));exact BK159.out)):gb159≠gb161));have n29_:=Aside0.mk ((by rw [hg];exact Nat.ne_of_gt (blk_lt (g:=gb159) (o:=.cells #[.bool false,.slice none 0 0] 26 (0,0)) (by (with_reducible repeat (first|refine blk_drewN ?_ _|refine blk_drew ?_|refine blk_alloc ?_ _));exact BK159.out)):gb161≠gb159));have n30_:=Aside0.mk ((by rw [hg];exact Nat.ne_of_lt (blk_lt (g:=gb160) (o:=.cells #[.bool false,.slice none 0 0] 26 (0,0)) (by (with_reducible repeat (first|refine blk_drewN ?_ _|refine blk_drew ?_|refine blk_alloc ?_ _));exact BK160.out)):gb160≠gb161));have n31_:=Aside0.mk ((by rw [hg];exact Nat.ne_of_gt (blk_lt (g:=gb160) (o:=.cells #[.bool false,.slice none 0 0] 26 (0,0)) (by (with_reducible repeat (first|refine blk_drewN ?_ _|refine blk_drew ?_|refine blk_alloc ?_ _));exact BK160.out)):gb161≠gb160));clear HO110;clear HO114;clear HO118;clear HO122;clear HO125;clear HO132;clear HO135;clear HO139;clear HO143;clear HO147;clear HO151;clear HO155;clear HO158;clear BK126;clear BK127;clear BK128;clear BK159;clear BK160;clear HB;have HO110:=n0_;have HO114:=n1_;have HO118:=n2_;have HO122:=n3_;have HO125:=n4_;have HO132:=n5_;have HO135:=n6_;have HO139:=n7_;have HO143:=n8_;have HO147:=n9_;have HO151:=n10_;have HO155:=n11_;have HO158:=n12_;have BK126:=n13_;have BK127:=n14_;have BK128:=n15_;have BK159:=n16_;have BK160:=n17_;have HB:=n18_;have BK161:=n19_;have GW161:=n20_;have GE161:=n21_;have NB126_161:=n22_;have NB161_126:=n23_;have NB127_161:=n24_;have NB161_127:=n25_;have NB128_161:=n26_;have NB161_128:=n27_;have NB159_161:=n28_;have NB161_159:=n29_;have NB160_161:=n30_;have NB161_160:=n31_;clear n0_ n1_ n2_ n3_ n4_ n5_ n6_ n7_ n8_ n9_ n10_ n11_ n12_ n13_ n14_ n15_ n16_ n17_ n18_ n19_ n20_ n21_ n22_ n23_ n24_ n25_ n26_ n27_ n28_ n29_ n30_ n31_;clear hb hbox hg;have hnb49:=NB159_126.out;have hnc49:=NB126_159.out;have hnb50:=NB159_127.out;have hnc50:=NB127_159.out;have hnb51:=NB159_128.out;have hnc51:=NB128_159.out;have hnb52:=NB159_160.out;have hnc52:=NB160_159.out;have hnb53:=NB159_161.out;have hnc53:=NB161_159.out;have hcz54_0:w48.cell? ⟨gb159,0,none⟩=some (.bool false):=(blk_cell BK159.out 0).trans rfl;have hcz54_1:w48.cell? ⟨gb159,1,none⟩=some (.slice none 0 0):=(blk_cell BK159.out 1).trans rfl;have hfz54_0:=blk_frozen BK159.out 0;have hfz54_1:=blk_frozen BK159.out 1;obtain ⟨Ao55,co55,eo55⟩:=Kd.V_slice HO147.out;subst eo55;have hnb56:=NB160_126.out;have hnc56:=NB126_160.out;have hnb57:=NB160_127.out;have hnc57:=NB127_160.out;have hnb58:=NB160_128.out;have hnc58:=NB128_160.out;have hnb59:=NB160_161.out;have hnc59:=NB161_160.out;have hcz60_0:w48.cell? ⟨gb160,0,none⟩=some (.bool false):=(blk_cell BK160.out 0).trans rfl;have hcz60_1:w48.cell? ⟨gb160,1,none⟩=some (.slice none 0 0):=(blk_cell BK160.out 1).trans rfl;have hfz60_0:=blk_frozen BK160.out 0;have hfz60_1:=blk_frozen BK160.out 1;obtain ⟨Ao61,co61,eo61⟩:=Kd.V_slice HO151.out;subst eo61;have hnb62:=NB161_126.out;have hnc62:=NB126_161.out;have hnb63:=NB161_127.out;have hnc63:=NB127_161.out;have hnb64:=NB161_128.out;have hnc64:=NB128_161.out;have hcz65_0:w48.cell? ⟨gb161,0,none⟩=some (.bool false):=(blk_cell BK161.out 0).trans rfl;have hcz65_1:w48.cell? ⟨gb161,1,none⟩=some (.slice none 0 0):=(blk_cell BK161.out 1).trans rfl;have hfz65_0:=blk_frozen BK161.out 0;have hfz65_1:=blk_frozen BK161.out 1;obtain ⟨Ao66,co66,eo66⟩:=Kd.V_slice HO155.out;subst eo66;have hcz67_0:w48.cell? ⟨gb126,0,none⟩=some (.bool false):=(blk_cell BK126.out 0).trans rfl;have hcz67_1:w48.cell? ⟨gb126,1,none⟩=some (.slice Ao28 t112.length co28):=(blk_cell BK126.out 1).trans rfl;have hfz67_0:=blk_frozen BK126.out 0;have hfz67_1:=blk_frozen BK126.out 1;have hcz68_0:w48.cell? ⟨gb127,0,none⟩=some (.bool false):=(blk_cell BK127.out 0).trans rfl;have hcz68_1:w48.cell? ⟨gb127,1,none⟩=some (.slice Ao32 t116.length co32):=(blk_cell BK127.out 1).trans rfl;have hfz68_0:=blk_frozen BK127.out 0;have hfz68_1:=blk_frozen BK127.out 1;have hcz69_0:w48.cell? ⟨gb128,0,none⟩=some (.bool false):=(blk_cell BK128.out 0).trans rfl;have hcz69_1:w48.cell? ⟨gb128,1,none⟩=some (.slice Ao35 t120.length co35):=(blk_cell BK128.out 1).trans rfl;have hfz69_0:=blk_frozen BK128.out 0;have hfz69_1:=blk_frozen BK128.out 1;obtain ⟨Ao70,co70,eo70⟩:=Kd.N_slice HO125.out;subst eo70;obtain ⟨Ao71,co71,eo71⟩:=Kd.N_slice HO158.out;subst eo71))
         go_ret
         exact ⟨by first|rfl|(simp [errW_none,errW_some] <;> rfl)|(simp [*,errW_none,errW_some] <;> rfl),by repeat (first|(with_reducible first|exact HB.out|apply bA_|apply bN_|apply bD_|refine below_set ?_ GE126.out|refine below_set ?_ GE127.out|refine below_set ?_ GE128.out|refine below_set ?_ GE159.out|refine below_set ?_ GE160.out|refine below_set ?_ GE161.out)|exact HB.out)⟩
        ·rw [if_neg c14] at H
         exact absurd H (by simp)
       ·replace c13:=Bool.eq_false_iff.mpr c13
        subst c13
        have H1:(none)=some r:=by rw [if_neg (show ¬ (false=true) by decide)] at H;exact H
        clear H
        have H:=H1
        clear H1
        exact absurd H (by simp)
      ·replace c12:=Bool.eq_false_iff.mpr c12
       subst c12
       have H1:(none)=some r:=by rw [if_neg (show ¬ (false=true) by decide)] at H;exact H
       clear H
       have H:=H1
       clear H1
       exact absurd H (by simp)
     ·replace c11:=Bool.eq_false_iff.mpr c11
      subst c11
      have H1:(none)=some r:=by rw [if_neg (show ¬ (false=true) by decide)] at H;exact H
      clear H
      have H:=H1
      clear H1
      exact absurd H (by simp)
    ·rw [if_neg c10] at H
     exact absurd H (by simp)
end Go.Proofs.Ytainbaehfdhmbaa.PX
namespace Go.Proofs.Ytainbaehfdhmbaa.PX
open Go.RowKit Go.Proofs.YtainbaehfdhmbaaW.PrintWords Go.Proofs.YtainbaehfdhmbaaW.PrintLast Go.Proofs.YtainbaehfdhmbaaW.PrintMore
attribute [local go_sem] max2_int min2_int max_two min_two max_three min_three max_four min_four   
set_option linter.unusedVariables false
set_option linter.unusedSimpArgs false
def cadencelaw12_wide.f  : Option ((List (S59))):=some (([(⟨(([(⟨(⟨true,([]:List ByteArray)⟩:S54),0,false⟩:S56)]:List (S56))),false,false⟩:S59)]:List (S59)))
set_option maxHeartbeats 8000000 in
set_option maxRecDepth 100000 in
theorem cadencelaw12_wide.calls  (r:List (S59)) (w:World) (h:cadencelaw12_wide.f  = some r) :
  Calls Try.prog 18 #[] w fun e w'=>∃ v0_:Value,e=.returned (v0_)∧Kd.N k59 59 w' w.heap.size (fun k_=>(w.heap.size≤k_)) v0_ r∧Below w.heap.size w w':=by
 have hu54:=Try.underlying54
 have hu56:=Try.underlying56
 have hu59:=Try.underlying59
 have HB:=Aside0.mk (Below.refl w.heap.size w)
 have H:(some (([(⟨(([(⟨(⟨true,([]:List ByteArray)⟩:S54),0,false⟩:S56)]:List (S56))),false,false⟩:S59)]:List (S59))))=some r:=h
 clear h
 obtain ⟨y329,hy329⟩:∃ y_:List (S56),y_=(([(⟨(⟨true,([]:List ByteArray)⟩:S54),0,false⟩:S56)]:List (S56))):=⟨_,rfl⟩
 replace H:(some (([(⟨y329,false,false⟩:S59)]:List (S59))))=some r:=by first|(rw [hy329];with_reducible exact H)|(have H2_:=(Option.bind_some _ _).symm.trans H;rw [hy329];with_reducible exact H2_)|(have H2_:=(Option.bind_some _ _).symm.trans H;with_reducible exact H2_)|with_reducible exact H|(rw [hy329];exact H)|exact H
 have Ny329:=Aside0.mk hy329
 clear hy329
 obtain ⟨y332,hy332⟩:∃ y_:List (S59),y_=(([(⟨y329,false,false⟩:S59)]:List (S59))):=⟨_,rfl⟩
 replace H:(some y332)=some r:=by first|(rw [hy332];with_reducible exact H)|(have H2_:=(Option.bind_some _ _).symm.trans H;rw [hy332];with_reducible exact H2_)|(have H2_:=(Option.bind_some _ _).symm.trans H;with_reducible exact H2_)|with_reducible exact H|(rw [hy332];exact H)|exact H
 have Ny332:=Aside0.mk hy332
 clear hy332
 obtain rfl:=Option.some.inj H
 go_enter Try.func18,Try.ntmps18
 go_wp2_with (first|((with_reducible refine gate_dst (N:=3) rfl ?_);refine Kd.N_lit k56 _ 56 ?hg (N':=3) ?hd (xs:=([(⟨(⟨true,([]:List ByteArray)⟩:S54),0,false⟩:S56)]:List (S56))) (inner:=[.bool true,.slice none 0 0,.int .i64 0,.bool false]) (ok:=(fun k_=>(w.heap.size≤k_))) (okp:=(fun k_=>(w.heap.size≤k_))) ?hr ?hp (fun _ hk=>hk) ((show ∀ k_,w.heap.size≤k_→(fun k_=>(w.heap.size≤k_)) k_ from fun k_ hk=>(Nat.le_trans (below_size (by repeat (first|(with_reducible first|exact HB.out|apply bA_|apply bN_|apply bD_)|exact HB.out))) hk)) _ (Nat.le_refl _)) (Below.refl _ _) (Nat.le_refl _) (by simp) ?_;(case hd=>rfl);(case hg=>rfl);(case hr=>first|(go_simp;done)|(go_simp;rfl));(case hp=>exact (Reps.c4 (show Kd.FK k56 _ _ (⟨(⟨true,([]:List ByteArray)⟩:S54),0,false⟩:S56) [.bool true,.slice none 0 0,.int .i64 0,.bool false] from (k56_mkF _ _ (⟨(⟨true,([]:List ByteArray)⟩:S54),0,false⟩:S56) (Nat.le_refl _) (Kd.F_nil _ _ _))) (Reps.none _ _)));intro v330 w1 ho2 hb hg_ hnew_;clear hg_ hnew_;(first|rw [← Ny329.out] at ho2|(simp only [Int.reduceToNat] at ho2;rw [← Ny329.out] at ho2));have n0_:=Aside0.mk (Kd.N_lower ho2 (below_size (by repeat (first|(with_reducible first|exact HB.out|apply bA_|apply bN_|apply bD_)|exact HB.out))));have n1_:=Aside0.mk (below_step (by repeat (first|(with_reducible first|exact HB.out|apply bA_|apply bN_|apply bD_)|exact HB.out)) hb);clear HB;have HO331:=n0_;have HB:=n1_;clear n0_ n1_;clear hb ho2;obtain ⟨Ao3,co3,eo3⟩:=Kd.N_slice HO331.out;subst eo3)|((with_reducible refine gate_dst (N:=5) rfl ?_);refine Kd.N_lit k59 _ 59 ?hg (N':=5) ?hd (xs:=([(⟨y329,false,false⟩:S59)]:List (S59))) (inner:=[.slice Ao3 y329.length co3,.bool false,.bool false]) (ok:=(fun k_=>(w.heap.size≤k_))) (okp:=(fun k_=>(w.heap.size≤k_))) ?hr ?hp (fun _ hk=>hk) ((show ∀ k_,w1.heap.size≤k_→(fun k_=>(w.heap.size≤k_)) k_ from fun k_ hk=>(Nat.le_trans (below_size (by repeat (first|(with_reducible first|exact HB.out|apply bA_|apply bN_|apply bD_)|exact HB.out))) hk)) _ (Nat.le_refl _)) (Below.refl _ _) (Nat.le_refl _) (by simp) ?_;(case hd=>rfl);(case hg=>rfl);(case hr=>first|(go_simp;done)|(go_simp;rfl));(case hp=>exact (Reps.c3 (show Kd.FK k59 _ _ (⟨y329,false,false⟩:S59) [.slice Ao3 y329.length co3,.bool false,.bool false] from (k59_mkF _ _ (⟨y329,false,false⟩:S59) (Kd.N_reads' (Kd.N_mono (ok':=(fun k_=>(w.heap.size≤k_))) (HO331.out) (fun k_ hk=>hk))).2.1 (Kd.N_F (Kd.N_mono (ok':=(fun k_=>(w.heap.size≤k_))) (HO331.out) (fun k_ hk=>hk))))) (Reps.none _ _)));intro v333 w4 ho5 hb hg_ hnew_;clear hg_ hnew_;(first|rw [← Ny332.out] at ho5|(simp only [Int.reduceToNat] at ho5;rw [← Ny332.out] at ho5));have n0_:=Aside0.mk (Kd.N_lower ho5 (below_size (by repeat (first|(with_reducible first|exact HB.out|apply bA_|apply bN_|apply bD_)|exact HB.out))));have n1_:=Aside0.mk (below_step (by repeat (first|(with_reducible first|exact HB.out|apply bA_|apply bN_|apply bD_)|exact HB.out)) hb);clear HB;clear HO331;have HO334:=n0_;have HB:=n1_;clear n0_ n1_;clear hb ho5))
 go_ret
 exact ⟨_,by first|rfl|(simp [errW_none,errW_some] <;> rfl)|(simp [*,errW_none,errW_some] <;> rfl),by (with_reducible repeat (first|apply nA_|apply nN_|apply nD_));exact HO334.out,by repeat (first|(with_reducible first|exact HB.out|apply bA_|apply bN_|apply bD_)|exact HB.out)⟩
end Go.Proofs.Ytainbaehfdhmbaa.PX
set_option linter.unusedVariables false
set_option linter.unusedSimpArgs false
namespace Go.Proofs.Ytainbaehfdhmbaa.PX
open Go.RowKit Go.Proofs.YtainbaehfdhmbaaW.PrintWords Go.Proofs.YtainbaehfdhmbaaW.PrintLast Go.Proofs.YtainbaehfdhmbaaW.PrintMore Go.Proofs.Ytainbaehfdhmbaa
def WIDE : Sc := [⟨[⟨⟨true, []⟩, 0, false⟩], false, false⟩]
theorem wide_ok : ScOk WIDE := by
  refine ⟨by decide, fun d hd => ?_⟩
  rw [WIDE, List.mem_singleton] at hd
  subst hd
  refine ⟨by show [(_ : S56)].length ≤ _; rw [List.length_singleton]; omega, fun f hf => ?_⟩
  rw [List.mem_singleton] at hf
  subst hf
  show ([] : List ByteArray).length ≤ _
  rw [List.length_nil]
  omega
theorem merge_f {s : Sc} (hs : ScOk s) {o a b : OT} (ho : OOk 10 5 o) (ha : OOk 10 5 a) (hb : OOk 10 5 b) {r : T3 × List Cf} (h : mergeM s 5 0 [] o a b = r) :
    merge_Merge.f s o.1 o.2 a.1 a.2 b.1 b.2 = some (r.1.1.1, r.1.1.2, r.1.2.1.1, r.1.2.1.2, r.1.2.2.1, r.1.2.2.2, r.2) := by
  subst h
  unfold merge_Merge.f
  rw [if_pos ⟨hs, ho, ha, hb⟩]
theorem ook {d : Nat} {t : Tr} (h : Ok 10 d t) (hd : d ≤ 5) : OOk 10 5 (true, t) := ⟨h.le hd, fun e => by cases e⟩
theorem ook_none : OOk 10 5 (false, []) := ⟨Ok.nil _ _, fun _ => rfl⟩
theorem known12 : cadencelaw12_known.f = some true := by
  have h1 := merge_f wide_ok ook_none ook_none ook_none (mergeM_ab WIDE 5 0 [] (false, []) (false, []))
  have hv : Ok 10 5 [(⟨⟨#[118]⟩, []⟩ : Edge)] := ⟨by show 1 ≤ 10; omega, List.pairwise_singleton _ _, fun x hx => by
    rw [List.mem_singleton] at hx
    subst hx
    exact Ok.nil _ _⟩
  have h2 := merge_f wide_ok (ook (Ok.nil 10 5) (Nat.le_refl _)) (ook hv (Nat.le_refl _)) (ook (Ok.nil 10 5) (Nat.le_refl _)) (mergeM_bo WIDE 5 0 [] (true, []) (true, [(⟨⟨#[118]⟩, []⟩ : Edge)]))
  simp only at h1 h2
  unfold WIDE at h1 h2
  unfold cadencelaw12_known.f cadencelaw12_some.f cadenceref2_Value.f
  simp only [Option.bind_some]
  rw [h1, Option.bind_some, h2, Option.bind_some]
  rfl
end Go.Proofs.Ytainbaehfdhmbaa.PX
namespace Go.Proofs.Ytainbaehfdhmbaa.PX
open Go.RowKit Go.Proofs.YtainbaehfdhmbaaW.PrintWords Go.Proofs.YtainbaehfdhmbaaW.PrintLast Go.Proofs.YtainbaehfdhmbaaW.PrintMore
attribute [local go_sem] max2_int min2_int max_two min_two max_three min_three max_four min_four   
set_option linter.unusedVariables false
set_option linter.unusedSimpArgs false
def cadencelaw12_one.f  : Option ((List (S59))):=some (([(⟨(([(⟨(⟨true,([]:List ByteArray)⟩:S54),1,false⟩:S56)]:List (S56))),false,false⟩:S59),(⟨(([(⟨(⟨true,([]:List ByteArray)⟩:S54),2,false⟩:S56)]:List (S56))),true,false⟩:S59),(⟨([]:List (S56)),false,false⟩:S59)]:List (S59)))
set_option maxHeartbeats 8000000 in
set_option maxRecDepth 100000 in
theorem cadencelaw12_one.calls  (r:List (S59)) (w:World) (h:cadencelaw12_one.f  = some r) :
  Calls Try.prog 9 #[] w fun e w'=>∃ v0_:Value,e=.returned (v0_)∧Kd.N k59 59 w' w.heap.size (fun k_=>(w.heap.size≤k_)) v0_ r∧Below w.heap.size w w':=by
 have hu54:=Try.underlying54
 have hu56:=Try.underlying56
 have hu59:=Try.underlying59
 have HB:=Aside0.mk (Below.refl w.heap.size w)
 have H:(some (([(⟨(([(⟨(⟨true,([]:List ByteArray)⟩:S54),1,false⟩:S56)]:List (S56))),false,false⟩:S59),(⟨(([(⟨(⟨true,([]:List ByteArray)⟩:S54),2,false⟩:S56)]:List (S56))),true,false⟩:S59),(⟨([]:List (S56)),false,false⟩:S59)]:List (S59))))=some r:=h
 clear h
 obtain ⟨y163,hy163⟩:∃ y_:List (S56),y_=(([(⟨(⟨true,([]:List ByteArray)⟩:S54),1,false⟩:S56)]:List (S56))):=⟨_,rfl⟩
 replace H:(some (([(⟨y163,false,false⟩:S59),(⟨(([(⟨(⟨true,([]:List ByteArray)⟩:S54),2,false⟩:S56)]:List (S56))),true,false⟩:S59),(⟨([]:List (S56)),false,false⟩:S59)]:List (S59))))=some r:=by first|(rw [hy163];with_reducible exact H)|(have H2_:=(Option.bind_some _ _).symm.trans H;rw [hy163];with_reducible exact H2_)|(have H2_:=(Option.bind_some _ _).symm.trans H;with_reducible exact H2_)|with_reducible exact H|(rw [hy163];exact H)|exact H
 have Ny163:=Aside0.mk hy163
 clear hy163
 obtain ⟨y166,hy166⟩:∃ y_:List (S56),y_=(([(⟨(⟨true,([]:List ByteArray)⟩:S54),2,false⟩:S56)]:List (S56))):=⟨_,rfl⟩
 replace H:(some (([(⟨y163,false,false⟩:S59),(⟨y166,true,false⟩:S59),(⟨([]:List (S56)),false,false⟩:S59)]:List (S59))))=some r:=by first|(rw [hy166];with_reducible exact H)|(have H2_:=(Option.bind_some _ _).symm.trans H;rw [hy166];with_reducible exact H2_)|(have H2_:=(Option.bind_some _ _).symm.trans H;with_reducible exact H2_)|with_reducible exact H|(rw [hy166];exact H)|exact H
 have Ny166:=Aside0.mk hy166
 clear hy166
 obtain ⟨y169,hy169⟩:∃ y_:List (S59),y_=(([(⟨y163,false,false⟩:S59),(⟨y166,true,false⟩:S59),(⟨([]:List (S56)),false,false⟩:S59)]:List (S59))):=⟨_,rfl⟩
 replace H:(some y169)=some r:=by first|(rw [hy169];with_reducible exact H)|(have H2_:=(Option.bind_some _ _).symm.trans H;rw [hy169];with_reducible exact H2_)|(have H2_:=(Option.bind_some _ _).symm.trans H;with_reducible exact H2_)|with_reducible exact H|(rw [hy169];exact H)|exact H
 have Ny169:=Aside0.mk hy169
 clear hy169
 obtain rfl:=Option.some.inj H
 go_enter Try.func9,Try.ntmps9
 go_wp2_with (first|((with_reducible refine gate_dst (N:=1) rfl ?_);refine box_event ?hg (N:=1) ?hd (cs:=#[.bool false,.slice none 0 0]) (t:=54) ?hr ?_;(case hd=>rfl);(case hg=>rfl);(case hr=>first|(go_simp;done)|(go_simp;rfl));intro gb162 hg w1 hbox hb;have n0_:=Aside0.mk (below_step (by repeat (first|(with_reducible first|exact HB.out|apply bA_|apply bN_|apply bD_)|exact HB.out)) hb);have n1_:=Aside0.mk (hbox);have n2_:=Aside0.mk ((by rw [hg];exact (below_size (by repeat (first|(with_reducible first|exact HB.out|apply bA_|apply bN_|apply bD_)|exact HB.out))):w.heap.size≤gb162));have n3_:=Aside0.mk ((by rw [hg];exact (below_size (by repeat (first|(with_reducible first|exact HB.out|apply bA_|apply bN_|apply bD_)|exact HB.out))):w.heap.size≤gb162));clear HB;have HB:=n0_;have BK162:=n1_;have GW162:=n2_;have GE162:=n3_;clear n0_ n1_ n2_ n3_;clear hb hbox hg;have hcz2_0:w1.cell? ⟨gb162,0,none⟩=some (.bool false):=(blk_cell BK162.out 0).trans rfl;have hcz2_1:w1.cell? ⟨gb162,1,none⟩=some (.slice none 0 0):=(blk_cell BK162.out 1).trans rfl;have hfz2_0:=blk_frozen BK162.out 0;have hfz2_1:=blk_frozen BK162.out 1)|((with_reducible refine gate_dst (N:=5) rfl ?_);refine Kd.N_lit k56 _ 56 ?hg (N':=5) ?hd (xs:=([(⟨(⟨true,([]:List ByteArray)⟩:S54),1,false⟩:S56)]:List (S56))) (inner:=[.bool true,.slice none 0 0,.int .i64 1,.bool false]) (ok:=(fun k_=>(w.heap.size≤k_)∧k_≠gb162)) (okp:=(fun k_=>(w.heap.size≤k_)∧k_≠gb162)) ?hr ?hp (fun _ hk=>hk) ((show ∀ k_,w1.heap.size≤k_→(fun k_=>(w.heap.size≤k_)∧k_≠gb162) k_ from fun k_ hk=>⟨(Nat.le_trans (below_size (by repeat (first|(with_reducible first|exact HB.out|apply bA_|apply bN_|apply bD_|refine below_set ?_ GE162.out)|exact HB.out))) hk),(by first|exact Kd.freshB (g:=gb162) (o:=.cells #[.bool true,.slice none 0 0] 54 (0,0)) (by (with_reducible repeat (first|refine blk_drewN ?_ _|refine blk_drew ?_|refine blk_alloc ?_ _));refine blk_put (cs:=#[.bool true,.slice none 0 0]) ?_ 1 _ rfl;(with_reducible repeat (first|refine blk_drewN ?_ _|refine blk_drew ?_|refine blk_alloc ?_ _));refine blk_put (cs:=#[.bool false,.slice none 0 0]) ?_ 0 _ rfl;(with_reducible repeat (first|refine blk_drewN ?_ _|refine blk_drew ?_|refine blk_alloc ?_ _));exact BK162.out) k_ hk|exact Kd.freshB BK162.out k_ hk)⟩) _ (by first|exact Nat.le_refl _|simp [World.setCell])) (Below.refl _ _) (Nat.le_refl _) (by simp) ?_;(case hd=>rfl);(case hg=>rfl);(case hr=>first|(go_simp;done)|(go_simp;rfl));(case hp=>exact (Reps.c4 (show Kd.FK k56 _ _ (⟨(⟨true,([]:List ByteArray)⟩:S54),1,false⟩:S56) [.bool true,.slice none 0 0,.int .i64 1,.bool false] from (k56_mkF _ _ (⟨(⟨true,([]:List ByteArray)⟩:S54),1,false⟩:S56) (Nat.le_refl _) (Kd.F_nil _ _ _))) (Reps.none _ _)));intro v164 w3 ho4 hb hg_ hnew_;clear hg_ hnew_;(first|rw [← Ny163.out] at ho4|(simp only [Int.reduceToNat] at ho4;rw [← Ny163.out] at ho4));have n0_:=Aside0.mk (Kd.N_lower ho4 (below_size (by repeat (first|(with_reducible first|exact HB.out|apply bA_|apply bN_|apply bD_|refine below_set ?_ GE162.out)|exact HB.out))));have n1_:=Aside0.mk (blk_below (g:=gb162) (o:=.cells #[.bool true,.slice none 0 0] 54 (0,0)) (by (with_reducible repeat (first|refine blk_drewN ?_ _|refine blk_drew ?_|refine blk_alloc ?_ _));refine blk_put (cs:=#[.bool true,.slice none 0 0]) ?_ 1 _ rfl;(with_reducible repeat (first|refine blk_drewN ?_ _|refine blk_drew ?_|refine blk_alloc ?_ _));refine blk_put (cs:=#[.bool false,.slice none 0 0]) ?_ 0 _ rfl;(with_reducible repeat (first|refine blk_drewN ?_ _|refine blk_drew ?_|refine blk_alloc ?_ _));exact BK162.out) hb);have n2_:=Aside0.mk (below_step (by repeat (first|(with_reducible first|exact HB.out|apply bA_|apply bN_|apply bD_|refine below_set ?_ GE162.out)|exact HB.out)) hb);clear BK162;clear HB;have HO165:=n0_;have BK162:=n1_;have HB:=n2_;clear n0_ n1_ n2_;clear hb ho4;obtain ⟨Ao5,co5,eo5⟩:=Kd.N_slice HO165.out;subst eo5;have hcz6_0:w3.cell? ⟨gb162,0,none⟩=some (.bool true):=(blk_cell BK162.out 0).trans rfl;have hcz6_1:w3.cell? ⟨gb162,1,none⟩=some (.slice none 0 0):=(blk_cell BK162.out 1).trans rfl;have hfz6_0:=blk_frozen BK162.out 0;have hfz6_1:=blk_frozen BK162.out 1)|((with_reducible refine gate_dst (N:=9) rfl ?_);refine Kd.N_lit k56 _ 56 ?hg (N':=9) ?hd (xs:=([(⟨(⟨true,([]:List ByteArray)⟩:S54),2,false⟩:S56)]:List (S56))) (inner:=[.bool true,.slice none 0 0,.int .i64 2,.bool false]) (ok:=(fun k_=>(w.heap.size≤k_)∧some k_≠(.slice Ao5 y163.length co5:Value).ownBlock∧k_≠gb162)) (okp:=(fun k_=>(w.heap.size≤k_)∧some k_≠(.slice Ao5 y163.length co5:Value).ownBlock∧k_≠gb162)) ?hr ?hp (fun _ hk=>hk) ((show ∀ k_,w3.heap.size≤k_→(fun k_=>(w.heap.size≤k_)∧some k_≠(.slice Ao5 y163.length co5:Value).ownBlock∧k_≠gb162) k_ from fun k_ hk=>⟨(Nat.le_trans (below_size (by repeat (first|(with_reducible first|exact HB.out|apply bA_|apply bN_|apply bD_|refine below_set ?_ GE162.out)|exact HB.out))) hk),Kd.fresh' (Kd.N_lt (by (with_reducible repeat (first|apply nA_|apply nN_|apply nD_));exact HO165.out)) k_ hk,Kd.freshB (g:=gb162) (o:=.cells #[.bool true,.slice none 0 0] 54 (0,0)) (by (with_reducible repeat (first|refine blk_drewN ?_ _|refine blk_drew ?_|refine blk_alloc ?_ _));exact BK162.out) k_ hk⟩) _ (by first|exact Nat.le_refl _|simp [World.setCell])) (Below.refl _ _) (Nat.le_refl _) (by simp) ?_;(case hd=>rfl);(case hg=>rfl);(case hr=>first|(go_simp;done)|(go_simp;rfl));(case hp=>exact (Reps.c4 (show Kd.FK k56 _ _ (⟨(⟨true,([]:List ByteArray)⟩:S54),2,false⟩:S56) [.bool true,.slice none 0 0,.int .i64 2,.bool false] from (k56_mkF _ _ (⟨(⟨true,([]:List ByteArray)⟩:S54),2,false⟩:S56) (Nat.le_refl _) (Kd.F_nil _ _ _))) (Reps.none _ _)));intro v167 w7 ho8 hb hg_ hnew_;clear hg_ hnew_;(first|rw [← Ny166.out] at ho8|(simp only [Int.reduceToNat] at ho8;rw [← Ny166.out] at ho8));have n0_:=Aside0.mk (Kd.N_elder' (by (with_reducible repeat (first|apply nA_|apply nN_|apply nD_));exact HO165.out) (Kd.N_base ho8) hb);have n1_:=Aside0.mk (Kd.N_lower ho8 (below_size (by repeat (first|(with_reducible first|exact HB.out|apply bA_|apply bN_|apply bD_|refine below_set ?_ GE162.out)|exact HB.out))));have n2_:=Aside0.mk (blk_below (g:=gb162) (o:=.cells #[.bool true,.slice none 0 0] 54 (0,0)) (by (with_reducible repeat (first|refine blk_drewN ?_ _|refine blk_drew ?_|refine blk_alloc ?_ _));exact BK162.out) hb);have n3_:=Aside0.mk (below_step (by repeat (first|(with_reducible first|exact HB.out|apply bA_|apply bN_|apply bD_|refine below_set ?_ GE162.out)|exact HB.out)) hb);clear HO165;clear BK162;clear HB;have HO165:=n0_;have HO168:=n1_;have BK162:=n2_;have HB:=n3_;clear n0_ n1_ n2_ n3_;clear hb ho8;obtain ⟨Ao9,co9,eo9⟩:=Kd.N_slice HO168.out;subst eo9)|((with_reducible refine gate_dst (N:=12) rfl ?_);refine Kd.N_lit k59 _ 59 ?hg (N':=12) ?hd (xs:=([(⟨y163,false,false⟩:S59),(⟨y166,true,false⟩:S59),(⟨([]:List (S56)),false,false⟩:S59)]:List (S59))) (inner:=[.slice Ao5 y163.length co5,.bool false,.bool false,.slice Ao9 y166.length co9,.bool true,.bool false,.slice none 0 0,.bool false,.bool false]) (ok:=(fun k_=>(w.heap.size≤k_)∧k_≠gb162)) (okp:=(fun k_=>(w.heap.size≤k_)∧k_≠gb162)) ?hr ?hp (fun _ hk=>hk) ((show ∀ k_,w7.heap.size≤k_→(fun k_=>(w.heap.size≤k_)∧k_≠gb162) k_ from fun k_ hk=>⟨(Nat.le_trans (below_size (by repeat (first|(with_reducible first|exact HB.out|apply bA_|apply bN_|apply bD_|refine below_set ?_ GE162.out)|exact HB.out))) hk),Kd.freshB (g:=gb162) (o:=.cells #[.bool true,.slice none 0 0] 54 (0,0)) (by (with_reducible repeat (first|refine blk_drewN ?_ _|refine blk_drew ?_|refine blk_alloc ?_ _));exact BK162.out) k_ hk⟩) _ (by first|exact Nat.le_refl _|simp [World.setCell])) (Below.refl _ _) (Nat.le_refl _) (by simp) ?_;(case hd=>rfl);(case hg=>rfl);(case hr=>first|(go_simp;done)|(go_simp;rfl));(case hp=>exact (Reps.c3 (show Kd.FK k59 _ _ (⟨y163,false,false⟩:S59) [.slice Ao5 y163.length co5,.bool false,.bool false] from (k59_mkF _ _ (⟨y163,false,false⟩:S59) (Kd.N_reads' (Kd.N_mono (ok':=(fun k_=>(w.heap.size≤k_)∧k_≠gb162)) (HO165.out) (fun k_ hk=>⟨hk.1.1,hk.1.2⟩))).2.1 (Kd.N_F (Kd.N_mono (ok':=(fun k_=>(w.heap.size≤k_)∧k_≠gb162)) (HO165.out) (fun k_ hk=>⟨hk.1.1,hk.1.2⟩))))) (Reps.c3 (show Kd.FK k59 _ _ (⟨y166,true,false⟩:S59) [.slice Ao9 y166.length co9,.bool true,.bool false] from (k59_mkF _ _ (⟨y166,true,false⟩:S59) (Kd.N_reads' (Kd.N_mono (ok':=(fun k_=>(w.heap.size≤k_)∧k_≠gb162)) (HO168.out) (fun k_ hk=>⟨hk.1,hk.2.2⟩))).2.1 (Kd.N_F (Kd.N_mono (ok':=(fun k_=>(w.heap.size≤k_)∧k_≠gb162)) (HO168.out) (fun k_ hk=>⟨hk.1,hk.2.2⟩))))) (Reps.c3 (show Kd.FK k59 _ _ (⟨([]:List (S56)),false,false⟩:S59) [.slice none 0 0,.bool false,.bool false] from (k59_mkF _ _ (⟨([]:List (S56)),false,false⟩:S59) (Nat.le_refl _) (Kd.F_nil _ _ _))) (Reps.none _ _)))));intro v170 w10 ho11 hb hg_ hnew_;clear hg_ hnew_;(first|rw [← Ny169.out] at ho11|(simp only [Int.reduceToNat] at ho11;rw [← Ny169.out] at ho11));have n0_:=Aside0.mk (Kd.N_lower ho11 (below_size (by repeat (first|(with_reducible first|exact HB.out|apply bA_|apply bN_|apply bD_|refine below_set ?_ GE162.out)|exact HB.out))));have n1_:=Aside0.mk (blk_below (g:=gb162) (o:=.cells #[.bool true,.slice none 0 0] 54 (0,0)) (by (with_reducible repeat (first|refine blk_drewN ?_ _|refine blk_drew ?_|refine blk_alloc ?_ _));exact BK162.out) hb);have n2_:=Aside0.mk (below_step (by repeat (first|(with_reducible first|exact HB.out|apply bA_|apply bN_|apply bD_|refine below_set ?_ GE162.out)|exact HB.out)) hb);clear BK162;clear HB;clear HO165;clear HO168;have HO171:=n0_;have BK162:=n1_;have HB:=n2_;clear n0_ n1_ n2_;clear hb ho11))
 go_ret
 exact ⟨_,by first|rfl|(simp [errW_none,errW_some] <;> rfl)|(simp [*,errW_none,errW_some] <;> rfl),by (with_reducible repeat (first|apply nA_|apply nN_|apply nD_));exact Kd.N_mono HO171.out (fun _ hk=>hk.1),by repeat (first|(with_reducible first|exact HB.out|apply bA_|apply bN_|apply bD_|refine below_set ?_ GE162.out)|exact HB.out)⟩
end Go.Proofs.Ytainbaehfdhmbaa.PX
set_option linter.unusedVariables false
set_option linter.unusedSimpArgs false
namespace Go.Proofs.Ytainbaehfdhmbaa.PX
open Go.RowKit Go.Proofs.YtainbaehfdhmbaaW.PrintWords Go.Proofs.YtainbaehfdhmbaaW.PrintLast Go.Proofs.YtainbaehfdhmbaaW.PrintMore Go.Proofs.Ytainbaehfdhmbaa
def ONE : Sc := [⟨[⟨⟨true, []⟩, 1, false⟩], false, false⟩, ⟨[⟨⟨true, []⟩, 2, false⟩], true, false⟩, ⟨[], false, false⟩]
theorem one_f : cadencelaw12_one.f = some ONE := rfl
theorem one_ok : ScOk ONE := by
  have e : ([] : List ByteArray).length ≤ 1000000000000 := by rw [List.length_nil]; omega
  refine ⟨by show 3 ≤ 1000000000000; omega, fun d hd => ?_⟩
  rw [ONE, List.mem_cons, List.mem_cons, List.mem_singleton] at hd
  rcases hd with rfl | rfl | rfl
  · refine ⟨by show 1 ≤ 1000000000000; omega, fun f hf => ?_⟩
    rw [List.mem_singleton] at hf
    subst hf
    exact e
  · refine ⟨by show 1 ≤ 1000000000000; omega, fun f hf => ?_⟩
    rw [List.mem_singleton] at hf
    subst hf
    exact e
  · refine ⟨by show 0 ≤ 1000000000000; omega, fun f hf => ?_⟩
    cases hf
theorem one_to0 (n : ByteArray) : toM ONE 0 n = 1 := by
  unfold toM
  rw [if_neg (by show ¬ ((0 : Int) < 0 ∨ ((3 : Nat) : Int) ≤ 0); omega)]
  rfl
theorem one_level0 (t : Tr) : levelM ONE 0 t = true := by
  unfold levelM
  rw [if_neg (by show ¬ ((0 : Int) < 0 ∨ ((3 : Nat) : Int) ≤ 0); omega)]
  rw [if_neg (by show ¬ ((false && !decide (t.length = 1)) || (false && decide (t.length = 0))) = true; simp)]
  have h : (t.any fun x => decide (toM ONE 0 x.f0 < 0)) = false := by
    rw [List.any_eq_false]
    intro x _
    rw [one_to0]
    simp
  rw [h]
  rfl
theorem one_level1 {t : Tr} (h : t.length ≠ 1) : levelM ONE 1 t = false := by
  unfold levelM
  rw [if_neg (by show ¬ ((1 : Int) < 0 ∨ ((3 : Nat) : Int) ≤ 1); omega)]
  rw [if_pos (by show ((true && !decide (t.length = 1)) || (false && decide (t.length = 0))) = true; simp [h])]
def Cell (c : OT) : Prop := c = (false, []) ∨ ∃ s : ByteArray, tl s ≠ [] ∧ c = (true, [(⟨s, []⟩ : Edge)])
def valO (c : OT) : ByteArray := match c with
  | (true, [e]) => e.f0
  | _ => ⟨#[]⟩
theorem val_none {c : OT} (h : Cell c) : tl (valO c) = [] ↔ c = (false, []) := by
  rcases h with rfl | ⟨s, hs, rfl⟩
  · exact ⟨fun _ => rfl, fun _ => rfl⟩
  · exact ⟨fun e => absurd e hs, fun e => by cases e⟩
theorem val_inj {c d : OT} (hc : Cell c) (hd : Cell d) : valO c = valO d ↔ c = d := by
  constructor
  · intro h
    rcases hc with rfl | ⟨s, hs, rfl⟩
    · exact ((val_none hd).1 (by rw [← h]; rfl)).symm
    · rcases hd with rfl | ⟨u, hu, rfl⟩
      · exact absurd (show tl (valO (true, [(⟨s, []⟩ : Edge)])) = [] by rw [h]; rfl) hs
      · rw [show s = u from h]
  · intro h
    rw [h]
def resC (n : ByteArray) (o a b : OT) : T3 × List Cf :=
  if valO a = valO b then ((a, a, a), [])
  else if valO o = valO a then ((b, b, b), [])
  else if valO o = valO b then ((a, a, a), [])
  else ((o, a, b), [⟨[n], if tl (valO a) = [] ∨ tl (valO b) = [] then 1 else 2⟩])
theorem single_sorted (e : Edge) : Sorted [e] := List.pairwise_singleton _ _
theorem kid_single (s : ByteArray) : kid [(⟨s, []⟩ : Edge)] s = some [] := kid_mem (single_sorted _) (z := ⟨s, []⟩) (List.mem_cons_self ..)
theorem kid_single_no {s u : ByteArray} (h : s ≠ u) : kid [(⟨s, []⟩ : Edge)] u = none := by
  cases e : kid [(⟨s, []⟩ : Edge)] u with
  | none => rfl
  | some x =>
    have := mem_kid e
    rw [List.mem_singleton] at this
    injection this with h1
    exact absurd h1.symm h
theorem kidO_single (s : ByteArray) : kidO (true, [(⟨s, []⟩ : Edge)]) s = (true, []) := by unfold kidO; simp only [kid_single]; rfl
theorem kidO_single_no {s u : ByteArray} (h : s ≠ u) : kidO (true, [(⟨s, []⟩ : Edge)]) u = (false, []) := by unfold kidO; simp only [kid_single_no h]; rfl
theorem cell_sorted {c : OT} (h : Cell c) : Sorted c.2 := by
  rcases h with rfl | ⟨s, _, rfl⟩
  · exact List.Pairwise.nil
  · exact single_sorted _
theorem cell_kid_no {c : OT} (h : Cell c) {s : ByteArray} (hs : tl s ≠ []) (hne : valO c ≠ s) : kidO c s = (false, []) := by
  rcases h with rfl | ⟨u, hu, rfl⟩
  · rfl
  · exact kidO_single_no hne
theorem mem_two {l : List Edge} {x y : Edge} (hx : x ∈ l) (hy : y ∈ l) (h : x ≠ y) : l.length ≠ 1 := fun e => by
  obtain ⟨z, rfl⟩ := List.length_eq_one_iff.1 e
  rw [List.mem_singleton] at hx hy
  exact h (hx.trans hy.symm)
theorem one_cell (k : Nat) (n : ByteArray) {o a b : OT} (ho : Cell o) (ha : Cell a) (hb : Cell b) : mergeM ONE (k + 2) 1 [n] o a b = resC n o a b := by
  unfold resC
  by_cases h1 : a = b
  · subst h1
    rw [if_pos rfl, mergeM_ab]
  rw [if_neg (fun e => h1 ((val_inj ha hb).1 e))]
  by_cases h2 : o = a
  · subst h2
    rw [if_pos rfl, mergeM_ao]
  rw [if_neg (fun e => h2 ((val_inj ho ha).1 e))]
  by_cases h3 : o = b
  · subst h3
    rw [if_pos rfl, mergeM_bo]
  rw [if_neg (fun e => h3 ((val_inj ho hb).1 e))]
  by_cases hn : tl (valO a) = [] ∨ tl (valO b) = []
  · rw [if_pos hn]
    refine mergeM_gone _ _ _ _ h1 (Ne.symm h3) (Ne.symm h2) ?_
    rcases hn with hn | hn
    · rw [(val_none ha).1 hn]
      rfl
    · rw [(val_none hb).1 hn, Bool.or_eq_true]
      exact .inr rfl
  · rw [if_neg hn]
    have hn1 : tl (valO a) ≠ [] := fun e => hn (.inl e)
    have hn2 : tl (valO b) ≠ [] := fun e => hn (.inr e)
    have hoa : valO o ≠ valO a := fun e => h2 ((val_inj ho ha).1 e)
    have hob : valO o ≠ valO b := fun e => h3 ((val_inj ho hb).1 e)
    have so := cell_sorted ho
    rcases ha with rfl | ⟨s, hs, rfl⟩
    · exact absurd rfl hn1
    rcases hb with rfl | ⟨u, hu, rfl⟩
    · exact absurd rfl hn2
    have hsu : s ≠ u := fun e => h1 (by rw [e])
    rw [mergeM_edges ONE (k + 1) 1 [n] h1 (Ne.symm h3) (Ne.symm h2) rfl rfl, edges_row, if_neg]
    rw [one_level1]
    · simp
    · have e1 : edgeM ONE (k + 1) 1 [n] o (true, [(⟨s, []⟩ : Edge)]) (true, [(⟨u, []⟩ : Edge)]) s = (((true, []), (true, []), (true, [])), []) := by
        unfold edgeM
        rw [kidO_single, kidO_single_no (Ne.symm hsu), cell_kid_no ho hs hoa, mergeM_bo]
      have e2 : edgeM ONE (k + 1) 1 [n] o (true, [(⟨s, []⟩ : Edge)]) (true, [(⟨u, []⟩ : Edge)]) u = (((true, []), (true, []), (true, [])), []) := by
        unfold edgeM
        rw [kidO_single, kidO_single_no hsu, cell_kid_no ho hu hob, mergeM_ao]
      have m1 : s ∈ namesOf [o.2, [(⟨s, []⟩ : Edge)], [(⟨u, []⟩ : Edge)]] := (mem_names3 so (single_sorted _) (single_sorted _)).2 (.inr (.inl (by rw [kid_single]; rfl)))
      have m2 : u ∈ namesOf [o.2, [(⟨s, []⟩ : Edge)], [(⟨u, []⟩ : Edge)]] := (mem_names3 so (single_sorted _) (single_sorted _)).2 (.inr (.inr (by rw [kid_single]; rfl)))
      refine mem_two (x := ⟨s, []⟩) (y := ⟨u, []⟩) (mem_row.2 ⟨m1, ?_, ?_⟩) (mem_row.2 ⟨m2, ?_, ?_⟩) (fun e => hsu (by injection e))
      · show (edgeM ONE (k + 1) 1 [n] o (true, [(⟨s, []⟩ : Edge)]) (true, [(⟨u, []⟩ : Edge)]) s).1.2.1.1 = true
        rw [e1]
      · show ([] : Tr) = (edgeM ONE (k + 1) 1 [n] o (true, [(⟨s, []⟩ : Edge)]) (true, [(⟨u, []⟩ : Edge)]) s).1.2.1.2
        rw [e1]
      · show (edgeM ONE (k + 1) 1 [n] o (true, [(⟨s, []⟩ : Edge)]) (true, [(⟨u, []⟩ : Edge)]) u).1.2.1.1 = true
        rw [e2]
      · show ([] : Tr) = (edgeM ONE (k + 1) 1 [n] o (true, [(⟨s, []⟩ : Edge)]) (true, [(⟨u, []⟩ : Edge)]) u).1.2.1.2
        rw [e2]
abbrev NS3 : List ByteArray := [⟨#[97]⟩, ⟨#[98]⟩, ⟨#[99]⟩]
theorem ns3_sorted : NS3.Pairwise fun x y => tl x < tl y := by
  have h : (NS3.map tl).Pairwise (· < ·) := by show ([[97], [98], [99]] : List Str).Pairwise (· < ·); decide
  exact List.pairwise_map.1 h
structure RowOk (t : Tr) : Prop where
  ok : Ok 10 2 t
  cell : ∀ n, Cell (kidO (true, t) n)
  names : ∀ n, (kid t n).isSome = true → n ∈ NS3
theorem resC_same (n : ByteArray) (o a : OT) : resC n o a a = ((a, a, a), []) := by unfold resC; rw [if_pos rfl]
theorem resC_ao (n : ByteArray) (a b : OT) (ha : Cell a) (hb : Cell b) : resC n a a b = ((b, b, b), []) := by
  unfold resC
  by_cases h : valO a = valO b
  · rw [if_pos h, (val_inj ha hb).1 h]
  · rw [if_neg h, if_pos rfl]
theorem resC_bo (n : ByteArray) (a b : OT) (ha : Cell a) (hb : Cell b) : resC n b a b = ((a, a, a), []) := by
  unfold resC
  by_cases h : valO a = valO b
  · rw [if_pos h]
  · rw [if_neg h, if_neg (fun e => h e.symm), if_pos rfl]
theorem flatMap_sub {α : Type} (f : ByteArray → List α) {L M : List ByteArray} (hL : L.Pairwise fun x y => tl x < tl y) (hM : M.Pairwise fun x y => tl x < tl y) (hs : ∀ n ∈ L, n ∈ M) (hn : ∀ n ∈ M, n ∉ L → f n = []) : L.flatMap f = M.flatMap f := by
  have e : L = M.filter fun n => decide (n ∈ L) := by
    have h1 : L.map tl = (M.filter fun n => decide (n ∈ L)).map tl := by
      refine sorted_ext (List.pairwise_map.2 hL) (List.pairwise_map.2 (hM.filter _)) (fun s => ?_)
      rw [List.mem_map, List.mem_map]
      constructor
      · rintro ⟨n, h, rfl⟩
        exact ⟨n, List.mem_filter.2 ⟨hs n h, decide_eq_true h⟩, rfl⟩
      · rintro ⟨n, h, rfl⟩
        exact ⟨n, of_decide_eq_true (List.mem_filter.1 h).2, rfl⟩
    have h2 := congrArg (List.map ba) h1
    rwa [map_ba_tl, map_ba_tl] at h2
  clear hs
  have key : ∀ M : List ByteArray, (∀ n ∈ M, n ∉ L → f n = []) → (M.filter fun n => decide (n ∈ L)).flatMap f = M.flatMap f := by
    intro M hn
    induction M with
    | nil => rfl
    | cons m M ih =>
      have ih := ih (fun n hm => hn n (List.mem_cons_of_mem _ hm))
      by_cases h : m ∈ L
      · rw [List.filter_cons_of_pos (p := fun n => decide (n ∈ L)) (by simp [h]), List.flatMap_cons, List.flatMap_cons, ih]
      · rw [List.filter_cons_of_neg (p := fun n => decide (n ∈ L)) (by simp [h]), List.flatMap_cons, ih, hn m (List.mem_cons_self ..) h, List.nil_append]
  rw [e, key M hn]
theorem merge_rows {o : OT} {a b : Tr} (ho : (o.1 = true ∨ o = (false, [])) ∧ RowOk o.2) (ha : RowOk a) (hb : RowOk b) :
    ∃ x y z : Tr, ∃ l, mergeM ONE 5 0 [] o (true, a) (true, b) = (((true, x), (true, y), (true, z)), l) ∧ x.length ≤ 1000 ∧ y.length ≤ 1000 ∧ z.length ≤ 1000 ∧
      (∀ n, (kidO (true, x) n, kidO (true, y) n, kidO (true, z) n) = (resC n (kidO o n) (kidO (true, a) n) (kidO (true, b) n)).1) ∧ l = NS3.flatMap fun n => (resC n (kidO o n) (kidO (true, a) n) (kidO (true, b) n)).2 := by
  obtain ⟨o1, o⟩ := o
  obtain ⟨ho1, ho⟩ := ho
  simp only at ho1 ho
  have co : ∀ n, Cell (kidO (o1, o) n) := ho.cell
  by_cases h1 : a = b
  · subst h1
    refine ⟨a, a, a, [], mergeM_ab .., by have := ha.ok.length; omega, by have := ha.ok.length; omega, by have := ha.ok.length; omega, fun n => by rw [resC_same], ?_⟩
    simp only [resC_same]
    exact (List.flatMap_eq_nil_iff.2 (fun _ _ => rfl)).symm
  by_cases h2 : (true, b) = (o1, o)
  · injection h2 with e1 e2
    subst e1
    subst e2
    refine ⟨a, a, a, [], mergeM_bo .., by have := ha.ok.length; omega, by have := ha.ok.length; omega, by have := ha.ok.length; omega, fun n => by rw [resC_bo _ _ _ (ha.cell n) (hb.cell n)], ?_⟩
    simp only [fun n => resC_bo n _ _ (ha.cell n) (hb.cell n)]
    exact (List.flatMap_eq_nil_iff.2 (fun _ _ => rfl)).symm
  by_cases h3 : (true, a) = (o1, o)
  · injection h3 with e1 e2
    subst e1
    subst e2
    refine ⟨b, b, b, [], mergeM_ao .., by have := hb.ok.length; omega, by have := hb.ok.length; omega, by have := hb.ok.length; omega, fun n => by rw [resC_ao _ _ _ (ha.cell n) (hb.cell n)], ?_⟩
    simp only [fun n => resC_ao n _ _ (ha.cell n) (hb.cell n)]
    exact (List.flatMap_eq_nil_iff.2 (fun _ _ => rfl)).symm
  have hm := mergeM_edges ONE 4 0 [] (o := (o1, o)) (a := (true, a)) (b := (true, b)) (fun e => h1 (Prod.mk.inj e).2) h2 h3 rfl rfl
  rw [edges_row, if_pos (by rw [one_level0, one_level0]; rfl)] at hm
  have hE : ∀ n, edgeM ONE 4 0 [] (o1, o) (true, a) (true, b) n = resC n (kidO (o1, o) n) (kidO (true, a) n) (kidO (true, b) n) := fun n => by
    unfold edgeM
    rw [one_to0]
    exact one_cell 2 n (co n) (ha.cell n) (hb.cell n)
  simp only [hE] at hm
  have hin : ∀ n, n ∈ namesOf [o, a, b] ↔ (kid o n).isSome = true ∨ (kid a n).isSome = true ∨ (kid b n).isSome = true := fun n => mem_names3 ho.ok.sorted ha.ok.sorted hb.ok.sorted
  have hno : ∀ n, n ∉ namesOf [o, a, b] → resC n (kidO (o1, o) n) (kidO (true, a) n) (kidO (true, b) n) = (((false, []), (false, []), (false, [])), []) := fun n hn => by
    rw [hin] at hn
    have e1 : kidO (o1, o) n = (false, []) := by unfold kidO; cases e : kid o n with | none => rfl | some _ => exact absurd (.inl (by rw [e]; rfl)) hn
    have e2 : kidO (true, a) n = (false, []) := by unfold kidO; cases e : kid a n with | none => rfl | some _ => exact absurd (.inr (.inl (by rw [e]; rfl))) hn
    have e3 : kidO (true, b) n = (false, []) := by unfold kidO; cases e : kid b n with | none => rfl | some _ => exact absurd (.inr (.inr (by rw [e]; rfl))) hn
    rw [e1, e2, e3, resC_same]
  have hlen : ∀ g : ByteArray → OT, (rowM (namesOf [o, a, b]) g).length ≤ 1000 := fun g => by
    have h1 : ∀ ns : List ByteArray, (rowM ns g).length ≤ ns.length := fun ns => by
      induction ns with
      | nil => exact Nat.le_refl _
      | cons n ns ih =>
        show (withE [] n (g n).1 (g n).2 ++ rowM ns g).length ≤ _
        rw [List.length_append, List.length_cons]
        have : (withE [] n (g n).1 (g n).2).length ≤ 1 := by unfold withE; split <;> simp
        omega
    have h2 := namesOf_length [o, a, b]
    have h3 := ho.ok.length
    have h4 := ha.ok.length
    have h5 := hb.ok.length
    simp only [nms, List.flatMap_cons, List.flatMap_nil, List.length_append, List.length_map, List.length_nil] at h2
    exact Nat.le_trans (h1 _) (by omega)
  have hkid : ∀ (g : ByteArray → OT) (n : ByteArray), (n ∉ namesOf [o, a, b] → g n = (false, [])) → (∀ n, Cell (g n)) → kidO (true, rowM (namesOf [o, a, b]) g) n = g n := fun g n hg hc => by
    have hs := row_sorted (g := g) (names_sorted [o, a, b])
    by_cases hm : n ∈ namesOf [o, a, b]
    · rcases hc n with e | ⟨s, hs', e⟩
      · rw [e]
        unfold kidO
        cases hk : kid (rowM (namesOf [o, a, b]) g) n with
        | none => rfl
        | some x =>
          have := (mem_row.1 (mem_kid hk)).2.1
          simp only [e] at this
          cases this
      · have hk := kid_mem hs (mem_row.2 ⟨hm, by rw [e], rfl⟩ : (⟨n, (g n).2⟩ : Edge) ∈ rowM (namesOf [o, a, b]) g)
        unfold kidO
        simp only at hk ⊢
        rw [hk, e]
        rfl
    · rw [hg hm]
      unfold kidO
      cases hk : kid (rowM (namesOf [o, a, b]) g) n with
      | none => rfl
      | some x => exact absurd (mem_row.1 (mem_kid hk)).1 hm
  have hc3 : ∀ n, Cell (resC n (kidO (o1, o) n) (kidO (true, a) n) (kidO (true, b) n)).1.1 ∧ Cell (resC n (kidO (o1, o) n) (kidO (true, a) n) (kidO (true, b) n)).1.2.1 ∧ Cell (resC n (kidO (o1, o) n) (kidO (true, a) n) (kidO (true, b) n)).1.2.2 := fun n => by
    have h1 := co n
    have h2 := ha.cell n
    have h3 := hb.cell n
    unfold resC
    split
    · exact ⟨h2, h2, h2⟩
    · split
      · exact ⟨h3, h3, h3⟩
      · split
        · exact ⟨h2, h2, h2⟩
        · exact ⟨h1, h2, h3⟩
  refine ⟨_, _, _, _, hm, hlen _, hlen _, hlen _, fun n => ?_, ?_⟩
  · rw [hkid _ n (fun h => by rw [hno n h]) (fun n => (hc3 n).1), hkid _ n (fun h => by rw [hno n h]) (fun n => (hc3 n).2.1), hkid _ n (fun h => by rw [hno n h]) (fun n => (hc3 n).2.2)]
  · refine flatMap_sub _ (names_sorted _) ns3_sorted (fun n hn => ?_) (fun n _ h => by rw [hno n h])
    rcases (hin n).1 hn with h | h | h
    · exact ho.names n h
    · exact ha.names n h
    · exact hb.names n h
end Go.Proofs.Ytainbaehfdhmbaa.PX
namespace Go.Proofs.Ytainbaehfdhmbaa.PX
open Go.RowKit Go.Proofs.YtainbaehfdhmbaaW.PrintWords Go.Proofs.YtainbaehfdhmbaaW.PrintLast Go.Proofs.YtainbaehfdhmbaaW.PrintMore
attribute [local go_sem] max2_int min2_int max_two min_two max_three min_three max_four min_four   
set_option linter.unusedVariables false
set_option linter.unusedSimpArgs false
def cadenceref2_At.l0:Nat→List (S51)→ByteArray→Int→Option (Int × Bool)
 | 0,_,_,_=>none
 | k+1,x0,x1,x6=>if x6 < (x0.length:Int) then (if 0≤x6 then (if (Op.bytesLess (((rd_T51 x0 x6).f0).toList) x1.toList)=true then (cadenceref2_At.l0 k x0 x1 (wrap64 (x6+1))) else (some (x6,(((rd_T51 x0 x6).f0).toList == x1.toList)))) else (none)) else (some (x6,false))
def cadenceref2_At.f (k:Nat) (l0:List (S51)) (a1:ByteArray):Option (Int × Bool):=cadenceref2_At.l0 k l0 a1 0
theorem cadenceref2_At.mono_l:∀ k,(∀ y0 y1 y2,LeO (cadenceref2_At.l0 k y0 y1 y2) (cadenceref2_At.l0 (k+1) y0 y1 y2))
 | 0=>fun _ _ _ r h=>by simp [cadenceref2_At.l0] at h
 | k+1=>by
  have ih0:=cadenceref2_At.mono_l k
  ·intro y0 y1 y2
   unfold cadenceref2_At.l0
   repeat' first
   | (with_reducible exact ih0 _ _ _)
   | (with_reducible exact LeO.refl _)
   | (with_reducible exact LeO.none _)
   | (with_reducible refine LeO.ite ?_ ?_)
   | (with_reducible refine LeO.bind ?_ (fun _=>?_))
   | exact ih0 _ _ _
   | exact LeO.none _
   | refine LeO.ite ?_ ?_
   | refine LeO.bind ?_ (fun _=>?_)
theorem cadenceref2_At.mono:∀ a0 a1 k,LeO (cadenceref2_At.f k a0 a1) (cadenceref2_At.f (k+1) a0 a1):=by
 intro a0 a1 k
 have ih0:=cadenceref2_At.mono_l k
 unfold cadenceref2_At.f
 repeat' first
   | (with_reducible exact ih0 _ _ _)
   | (with_reducible exact LeO.refl _)
   | (with_reducible exact LeO.none _)
   | (with_reducible refine LeO.ite ?_ ?_)
   | (with_reducible refine LeO.bind ?_ (fun _=>?_))
   | exact ih0 _ _ _
   | exact LeO.none _
   | refine LeO.ite ?_ ?_
   | refine LeO.bind ?_ (fun _=>?_)
set_option maxHeartbeats 8000000 in
set_option maxRecDepth 100000 in
theorem cadenceref2_At.calls (k:Nat) (A0:Option Addr) (c0:Nat) (l0:List (S51)) (a1:ByteArray) (r1:Int) (r2:Bool) (w:World) (hr0:Kd.C k51 w A0 l0.length l0) (hc0:l0.length≤c0) (h:cadenceref2_At.f k l0 a1=some (r1,r2)) :
  Calls Try.prog 26 #[.slice A0 l0.length c0,.string a1] w fun e w'=>e=.returned (.tuple #[.int .i64 r1,.bool r2])∧Drawn0 w w':=by
 have HR0:=Aside0.mk hr0
 have HC0:=Aside0.mk hc0
 clear hr0 hc0
 have H:(cadenceref2_At.l0 k l0 a1 0)=some (r1,r2):=h
 clear h
 have H':=Aside0.mk H
 clear H
 go_enter Try.func26,Try.ntmps26
 go_wp2
 repeat (go_quiet (fail);try go_wp2)
 go_loopg [6] k (fun kq v6 w'=>∃ (x6_1:Int),v6=.int .i64 x6_1∧Aside0 (cadenceref2_At.l0 kq l0 a1 x6_1=some (r1,r2))∧Aside0 (kq≤k)∧Drawn0 w w')
 case atStart=>exact ⟨(0),(by first|rfl|(simp;done)|(simp [*];done)),H',⟨Nat.le_refl _⟩,by repeat (first|exact Drawn0.refl _|apply Drawn0.step)⟩
 case round =>
  clear H'
  try clear c2
  try clear p2
  obtain ⟨x6_1,rfl,HA,HK1,⟨m1,rfl⟩⟩:=hrel
  cases gk with
  | zero=>exact absurd HA.out (by simp [cadenceref2_At.l0])
  | succ k1 =>
   have H:=HA.out
   clear HA
   simp only [cadenceref2_At.l0] at H
   by_cases c3:x6_1 < (l0.length:Int)
   ·rw [if_pos c3] at H
    have c3b0:decide (x6_1 < (l0.length:Int))=true:=decide_eq_true c3
    clear c3
    by_cases c4:0≤x6_1
    ·rw [if_pos c4] at H
     have c4b0:decide (0≤x6_1)=true:=decide_eq_true c4
     clear c4
     by_cases c5:(Op.bytesLess (((rd_T51 l0 x6_1).f0).toList) a1.toList)=true
     ·rw [if_pos c5] at H
      have c5b0:(Op.bytesLess (((rd_T51 l0 x6_1).f0).toList) a1.toList)=true:=c5
      clear c5
      have H':=Aside0.mk H
      clear H
      have p172:0≤(x6_1:Int):=of_decide_eq_true (by first|(with_reducible assumption)|assumption)
      have q172:x6_1 < (l0.length:Int):=of_decide_eq_true (by first|(with_reducible assumption)|assumption)
      obtain ⟨ad172,A172_1,c172_1,e172,hx172_0,hx172_1,hl172_1,hi172_1⟩:=at_T51 HR0.out x6_1 p172 q172
      cases e172
      have HR172_1:=Aside0.mk hi172_1
      have HC172_1:=Aside0.mk hl172_1
      clear hi172_1 hl172_1
      replace p172:=eq_true p172
      replace q172:=eq_true q172
      go_wp2
      repeat (go_quiet (fail);try go_wp2)
      go_roundg k1
      case measure=>have:=HK1.out;omega
      case rel=>exact ⟨(wrap64 (x6_1+1)),(by first|rfl|(simp;done)|(simp [*];done)),H',⟨by have:=HK1.out;omega⟩,by repeat (first|exact Drawn0.refl _|apply Drawn0.step)⟩
     ·rw [if_neg c5] at H
      have c5b0:(Op.bytesLess (((rd_T51 l0 x6_1).f0).toList) a1.toList)=false:=by simpa using c5
      clear c5
      simp only [Option.some.injEq,Prod.mk.injEq] at H
      obtain ⟨rfl,rfl⟩:=H
      have p172:0≤(x6_1:Int):=of_decide_eq_true (by first|(with_reducible assumption)|assumption)
      have q172:x6_1 < (l0.length:Int):=of_decide_eq_true (by first|(with_reducible assumption)|assumption)
      obtain ⟨ad172,A172_1,c172_1,e172,hx172_0,hx172_1,hl172_1,hi172_1⟩:=at_T51 HR0.out x6_1 p172 q172
      cases e172
      have HR172_1:=Aside0.mk hi172_1
      have HC172_1:=Aside0.mk hl172_1
      clear hi172_1 hl172_1
      replace p172:=eq_true p172
      replace q172:=eq_true q172
      have p173:0≤(x6_1:Int):=of_decide_eq_true (by first|(with_reducible assumption)|assumption)
      have q173:x6_1 < (l0.length:Int):=of_decide_eq_true (by first|(with_reducible assumption)|assumption)
      obtain ⟨ad173,A173_1,c173_1,e173,hx173_0,hx173_1,hl173_1,hi173_1⟩:=at_T51 HR0.out x6_1 p173 q173
      obtain rfl:ad172=ad173:=(by injection e173)
      have HR173_1:=Aside0.mk hi173_1
      have HC173_1:=Aside0.mk hl173_1
      clear hi173_1 hl173_1
      replace p173:=eq_true p173
      replace q173:=eq_true q173
      have ea_:=Option.some.inj (hx172_1.symm.trans hx173_1)
      injection ea_ with ea_ en_ ec_
      subst ea_
      subst ec_
      clear en_
      go_wp2
      repeat (go_quiet (fail);try go_wp2)
      go_ret2
      exact ⟨by first|rfl|(simp;done)|(simp [*];done),by repeat (first|exact Drawn0.refl _|apply Drawn0.step)⟩
    ·rw [if_neg c4] at H
     exact absurd H (by simp)
   ·rw [if_neg c3] at H
    have c3b0:decide (x6_1 < (l0.length:Int))=false:=decide_eq_false c3
    clear c3
    simp only [Option.some.injEq,Prod.mk.injEq] at H
    obtain ⟨rfl,rfl⟩:=H
    go_wp2
    repeat (go_quiet (fail);try go_wp2)
    go_ret2
    exact ⟨by first|rfl|(simp;done)|(simp [*];done),by repeat (first|exact Drawn0.refl _|apply Drawn0.step)⟩
end Go.Proofs.Ytainbaehfdhmbaa.PX
namespace Go.Proofs.Ytainbaehfdhmbaa.PX
open Go.RowKit Go.Proofs.YtainbaehfdhmbaaW.PrintWords Go.Proofs.YtainbaehfdhmbaaW.PrintLast Go.Proofs.YtainbaehfdhmbaaW.PrintMore
attribute [local go_sem] max2_int min2_int max_two min_two max_three min_three max_four min_four   
set_option linter.unusedVariables false
set_option linter.unusedSimpArgs false
def cadenceref2_With.f (k:Nat) (l0:List (S51)) (a1:ByteArray) (l2:List (S51)):Option ((List (S51))):=(cadenceref2_At.f k l0 a1).bind fun bt174=>(if 0≤bt174.1 then (if bt174.1≤(l0.length:Int) then ((some (l0.take (bt174.1:Int).toNat:List (S51))).bind fun y176=>(if ([]:List (S51)).length+y176.length < 3518437208883 then ((some (([]:List (S51)) ++ y176:List (S51))).bind fun y181=>(if y181.length < 3518437208883 then ((some (y181 ++ [(⟨a1,l2⟩:S51)]:List (S51))).bind fun y184=>(if bt174.2=true then (if 0≤(wrap64 (bt174.1+1)) then (if (wrap64 (bt174.1+1))≤(l0.length:Int) then ((some (l0.drop ((wrap64 (bt174.1+1)):Int).toNat:List (S51))).bind fun y187=>(if y184.length+y187.length < 3518437208883 then (some (y184 ++ y187)) else (none))) else (none)) else (none)) else ((some (l0.drop (bt174.1:Int).toNat:List (S51))).bind fun y195=>(if y184.length+y195.length < 3518437208883 then (some (y184 ++ y195)) else (none))))) else (none))) else (none))) else (none)) else (none))
theorem cadenceref2_With.mono:∀ a0 a1 a2 k,LeO (cadenceref2_With.f k a0 a1 a2) (cadenceref2_With.f (k+1) a0 a1 a2):=by
 intro a0 a1 a2 k
 unfold cadenceref2_With.f
 repeat' first
   | (with_reducible exact cadenceref2_At.mono _ _ _)
   | (with_reducible exact LeO.refl _)
   | (with_reducible exact LeO.none _)
   | (with_reducible refine LeO.ite ?_ ?_)
   | (with_reducible refine LeO.bind ?_ (fun _=>?_))
   | exact cadenceref2_At.mono _ _ _
   | exact LeO.none _
   | refine LeO.ite ?_ ?_
   | refine LeO.bind ?_ (fun _=>?_)
set_option maxHeartbeats 8000000 in
set_option maxRecDepth 100000 in
theorem cadenceref2_With.calls (k:Nat) (P0_:Nat→Prop) (A0:Option Addr) (c0:Nat) (l0:List (S51)) (a1:ByteArray) (P2_:Nat→Prop) (A2:Option Addr) (c2:Nat) (l2:List (S51)) (r:List (S51)) (w:World) (hs0:Kd.V k51 51 w w.heap.size (fun k_=>P0_ k_) (.slice A0 l0.length c0) l0) (hs2:Kd.V k51 51 w w.heap.size (fun k_=>P2_ k_) (.slice A2 l2.length c2) l2) (h:cadenceref2_With.f k l0 a1 l2=some r) :
  Calls Try.prog 16 #[.slice A0 l0.length c0,.string a1,.slice A2 l2.length c2] w fun e w'=>∃ v0_:Value,e=.returned (v0_)∧Kd.N k51 51 w' w.heap.size (fun k_=>((P0_ k_∨P2_ k_)∨w.heap.size≤k_)) v0_ r∧Below w.heap.size w w':=by
 have hu51:=Try.underlying51
 have HO0:=Aside0.mk (show Kd.V k51 51 w w.heap.size (fun k_=>((P0_ k_∨P2_ k_)∨w.heap.size≤k_)) (.slice A0 l0.length c0) l0 from Kd.V_mono hs0 (fun k_ hk=>.inl (.inl hk)))
 have HO2:=Aside0.mk (show Kd.V k51 51 w w.heap.size (fun k_=>((P0_ k_∨P2_ k_)∨w.heap.size≤k_)) (.slice A2 l2.length c2) l2 from Kd.V_mono hs2 (fun k_ hk=>.inl (.inr hk)))
 have HB:=Aside0.mk (Below.refl w.heap.size w)
 have H:((cadenceref2_At.f k l0 a1).bind fun bt174=>(if 0≤bt174.1 then (if bt174.1≤(l0.length:Int) then ((some (l0.take (bt174.1:Int).toNat:List (S51))).bind fun y176=>(if ([]:List (S51)).length+y176.length < 3518437208883 then ((some (([]:List (S51)) ++ y176:List (S51))).bind fun y181=>(if y181.length < 3518437208883 then ((some (y181 ++ [(⟨a1,l2⟩:S51)]:List (S51))).bind fun y184=>(if bt174.2=true then (if 0≤(wrap64 (bt174.1+1)) then (if (wrap64 (bt174.1+1))≤(l0.length:Int) then ((some (l0.drop ((wrap64 (bt174.1+1)):Int).toNat:List (S51))).bind fun y187=>(if y184.length+y187.length < 3518437208883 then (some (y184 ++ y187)) else (none))) else (none)) else (none)) else ((some (l0.drop (bt174.1:Int).toNat:List (S51))).bind fun y195=>(if y184.length+y195.length < 3518437208883 then (some (y184 ++ y195)) else (none))))) else (none))) else (none))) else (none)) else (none)))=some r:=h
 clear h
 replace H:=Option.bind_eq_some_iff.mp H
 obtain ⟨⟨t174,t175⟩,A40,H⟩:=H
 replace H:(if 0≤t174 then (if t174≤(l0.length:Int) then ((some (l0.take (t174:Int).toNat:List (S51))).bind fun y176=>(if ([]:List (S51)).length+y176.length < 3518437208883 then ((some (([]:List (S51)) ++ y176:List (S51))).bind fun y181=>(if y181.length < 3518437208883 then ((some (y181 ++ [(⟨a1,l2⟩:S51)]:List (S51))).bind fun y184=>(if t175=true then (if 0≤(wrap64 (t174+1)) then (if (wrap64 (t174+1))≤(l0.length:Int) then ((some (l0.drop ((wrap64 (t174+1)):Int).toNat:List (S51))).bind fun y187=>(if y184.length+y187.length < 3518437208883 then (some (y184 ++ y187)) else (none))) else (none)) else (none)) else ((some (l0.drop (t174:Int).toNat:List (S51))).bind fun y195=>(if y184.length+y195.length < 3518437208883 then (some (y184 ++ y195)) else (none))))) else (none))) else (none))) else (none)) else (none))=some r:=H
 have A4:=Aside0.mk A40
 clear A40
 by_cases c5:0≤t174
 ·rw [if_pos c5] at H
  have c5b0:=eq_true c5
  have c5b1:decide (0≤t174)=true:=decide_eq_true c5
  clear c5
  by_cases c6:t174≤(l0.length:Int)
  ·rw [if_pos c6] at H
   have c6b0:=eq_true c6
   have c6b1:decide (t174≤(l0.length:Int))=true:=decide_eq_true c6
   clear c6
   obtain ⟨y176,hy176⟩:∃ y_:List (S51),y_=(l0.take (t174:Int).toNat):=⟨_,rfl⟩
   replace H:(if ([]:List (S51)).length+y176.length < 3518437208883 then ((some (([]:List (S51)) ++ y176:List (S51))).bind fun y181=>(if y181.length < 3518437208883 then ((some (y181 ++ [(⟨a1,l2⟩:S51)]:List (S51))).bind fun y184=>(if t175=true then (if 0≤(wrap64 (t174+1)) then (if (wrap64 (t174+1))≤(l0.length:Int) then ((some (l0.drop ((wrap64 (t174+1)):Int).toNat:List (S51))).bind fun y187=>(if y184.length+y187.length < 3518437208883 then (some (y184 ++ y187)) else (none))) else (none)) else (none)) else ((some (l0.drop (t174:Int).toNat:List (S51))).bind fun y195=>(if y184.length+y195.length < 3518437208883 then (some (y184 ++ y195)) else (none))))) else (none))) else (none))=some r:=by first|(rw [hy176];with_reducible exact H)|(have H2_:=(Option.bind_some _ _).symm.trans H;rw [hy176];with_reducible exact H2_)|(have H2_:=(Option.bind_some _ _).symm.trans H;with_reducible exact H2_)|with_reducible exact H|(rw [hy176];exact H)|exact H
   have Ny176:=Aside0.mk hy176
   clear hy176
   by_cases c7:([]:List (S51)).length+y176.length < 3518437208883
   ·rw [if_pos c7] at H
    have LMc7:=Aside0.mk c7
    clear c7
    obtain ⟨y181,hy181⟩:∃ y_:List (S51),y_=(([]:List (S51)) ++ y176):=⟨_,rfl⟩
    replace H:(if y181.length < 3518437208883 then ((some (y181 ++ [(⟨a1,l2⟩:S51)]:List (S51))).bind fun y184=>(if t175=true then (if 0≤(wrap64 (t174+1)) then (if (wrap64 (t174+1))≤(l0.length:Int) then ((some (l0.drop ((wrap64 (t174+1)):Int).toNat:List (S51))).bind fun y187=>(if y184.length+y187.length < 3518437208883 then (some (y184 ++ y187)) else (none))) else (none)) else (none)) else ((some (l0.drop (t174:Int).toNat:List (S51))).bind fun y195=>(if y184.length+y195.length < 3518437208883 then (some (y184 ++ y195)) else (none))))) else (none))=some r:=by first|(rw [hy181];with_reducible exact H)|(have H2_:=(Option.bind_some _ _).symm.trans H;rw [hy181];with_reducible exact H2_)|(have H2_:=(Option.bind_some _ _).symm.trans H;with_reducible exact H2_)|with_reducible exact H|(rw [hy181];exact H)|exact H
    have Ny181:=Aside0.mk hy181
    clear hy181
    by_cases c8:y181.length < 3518437208883
    ·rw [if_pos c8] at H
     have LMc8:=Aside0.mk c8
     clear c8
     obtain ⟨y184,hy184⟩:∃ y_:List (S51),y_=(y181 ++ [(⟨a1,l2⟩:S51)]):=⟨_,rfl⟩
     replace H:(if t175=true then (if 0≤(wrap64 (t174+1)) then (if (wrap64 (t174+1))≤(l0.length:Int) then ((some (l0.drop ((wrap64 (t174+1)):Int).toNat:List (S51))).bind fun y187=>(if y184.length+y187.length < 3518437208883 then (some (y184 ++ y187)) else (none))) else (none)) else (none)) else ((some (l0.drop (t174:Int).toNat:List (S51))).bind fun y195=>(if y184.length+y195.length < 3518437208883 then (some (y184 ++ y195)) else (none))))=some r:=by first|(rw [hy184];with_reducible exact H)|(have H2_:=(Option.bind_some _ _).symm.trans H;rw [hy184];with_reducible exact H2_)|(have H2_:=(Option.bind_some _ _).symm.trans H;with_reducible exact H2_)|with_reducible exact H|(rw [hy184];exact H)|exact H
     have Ny184:=Aside0.mk hy184
     clear hy184
     by_cases c9:t175=true
     ·subst c9
      have H1:(if 0≤(wrap64 (t174+1)) then (if (wrap64 (t174+1))≤(l0.length:Int) then ((some (l0.drop ((wrap64 (t174+1)):Int).toNat:List (S51))).bind fun y187=>(if y184.length+y187.length < 3518437208883 then (some (y184 ++ y187)) else (none))) else (none)) else (none))=some r:=by rw [if_pos rfl] at H;exact H
      clear H
      have H:=H1
      clear H1
      obtain ⟨ji10,hji10⟩:∃ j_:Int,(wrap64 (t174+1))=j_:=⟨_,rfl⟩
      replace H:(if 0≤(ji10) then (if (ji10)≤(l0.length:Int) then ((some (l0.drop ((ji10):Int).toNat:List (S51))).bind fun y187=>(if y184.length+y187.length < 3518437208883 then (some (y184 ++ y187)) else (none))) else (none)) else (none))=some r:=by first|(rw [hji10] at H;exact H)|(simp only [hji10] at H ⊢;exact H)
      (try rw [hji10] at A4)
      have hji10w:(IntKind.i64.wrap (t174+1))=ji10:=(i64_w _).trans hji10
      by_cases c11:0≤(ji10)
      ·rw [if_pos c11] at H
       have c11b0:=eq_true c11
       have c11b1:decide (0≤(ji10))=true:=decide_eq_true c11
       clear c11
       by_cases c12:(ji10)≤(l0.length:Int)
       ·rw [if_pos c12] at H
        have c12b0:=eq_true c12
        have c12b1:decide ((ji10)≤(l0.length:Int))=true:=decide_eq_true c12
        clear c12
        obtain ⟨y187,hy187⟩:∃ y_:List (S51),y_=(l0.drop ((ji10):Int).toNat):=⟨_,rfl⟩
        replace H:(if y184.length+y187.length < 3518437208883 then (some (y184 ++ y187)) else (none))=some r:=by first|(rw [hy187];with_reducible exact H)|(have H2_:=(Option.bind_some _ _).symm.trans H;rw [hy187];with_reducible exact H2_)|(have H2_:=(Option.bind_some _ _).symm.trans H;with_reducible exact H2_)|with_reducible exact H|(rw [hy187];exact H)|exact H
        have Ny187:=Aside0.mk hy187
        clear hy187
        by_cases c13:y184.length+y187.length < 3518437208883
        ·rw [if_pos c13] at H
         have LMc13:=Aside0.mk c13
         clear c13
         obtain ⟨y192,hy192⟩:∃ y_:List (S51),y_=(y184 ++ y187):=⟨_,rfl⟩
         replace H:(some y192)=some r:=by first|(rw [hy192];with_reducible exact H)|(have H2_:=(Option.bind_some _ _).symm.trans H;rw [hy192];with_reducible exact H2_)|(have H2_:=(Option.bind_some _ _).symm.trans H;with_reducible exact H2_)|with_reducible exact H|(rw [hy192];exact H)|exact H
         have Ny192:=Aside0.mk hy192
         clear hy192
         obtain rfl:=Option.some.inj H
         go_enter Try.func16,Try.ntmps16
         go_wp2_with (first|((with_reducible refine gate_callee (f:=26) rfl ?_);refine goesL_ (some 13) rfl rfl Try.func26 (by kernel_rfl) rfl #[.slice A0 l0.length c0,.string a1] rfl (by (try simp only [List.map_toArray,List.map_cons,List.map_nil]);first|done|rfl|(simp only [List.length_drop,List.length_take];rfl)) ?_;(with_reducible refine (cadenceref2_At.calls k _ _ l0 a1 t174 true _ ?side1 ?side2 A4.out).mono ?_);(case side1=>repeat (first|exact (Kd.V_reads' HO0.out).2.2|(with_reducible refine cA_ ?_ _)|(with_reducible refine cN_ ?_ _)|(with_reducible refine cD_ ?_)));(case side2=>exact (Kd.V_reads' HO0.out).2.1);rintro e w' ⟨rfl,⟨nd,rfl⟩⟩;refine ⟨_,rfl,?_⟩;have q14:(t174:Int)≤((l0.length:Int):Int):=of_decide_eq_true (by first|(with_reducible assumption)|assumption);obtain ⟨i014,hi014,_,hsz14,_⟩:=info_parts info51;have hroom14:l0.length≤c0:=(Kd.V_reads' HO0.out).2.1;have hC14:Kd.F k51 _ _ A0 l0.length l0:=(Kd.V_at (base:=w.heap.size) HO0.out).2.2;have hcut14:=cut_to (P:=Try.prog) 24 51 .i64 Try.underlying24 hi014 A0 l0.length c0 t174 (of_decide_eq_true (by first|(with_reducible assumption)|assumption)) q14 hroom14;have hr14:=Kd.F_take (m:=(t174:Int).toNat) hC14 (by omega);have hy14:y176.length=(t174:Int).toNat:=(by rw [Ny176.out,List.length_take];omega);rw [← Ny176.out] at hr14;rw [← hy14] at hcut14;have HO180:=Aside0.mk (show Kd.V k51 51 _ w.heap.size _ (.slice A0 y176.length c0) y176 from Kd.V_mk (by omega) hr14);have HC180:=Aside0.mk (show y176.length≤c0 from by omega);clear hr14 hC14 hroom14 hi014 hsz14;have KY14:=Aside0.mk hy14;clear hy14;replace q14:=eq_true q14)|((with_reducible refine gate_builtin (b:=.append) (xs:=#[.tmp 16,.tmp 19]) rfl ?_);at_builtin;refine Kd.N_append_rows k51 (w0:=w) w.heap.size rfl (.tmp 16) (.tmp 19) 24 51 (.agg #[(.string ⟨#[]⟩),(.slice none 0 0)]) 40 rfl Try.underlying24 info51 rfl (by decide) (by omega) (.slice none 0 0) ([]:List (S51)) y176 _ _ _ (fun k_=>((P0_ k_∨P2_ k_)∨w.heap.size≤k_)) (fun k_=>((fun k_=>((P0_ k_∨P2_ k_)∨w.heap.size≤k_))) k_∧some k_≠(.slice none 0 0:Value).ownBlock) rfl rfl ?aO ?aR (fun _ hk=>hk) ?aF ?aB ?aS ?aL ?_;(case aR=>exact (by (with_reducible repeat (first|apply Kd.F_alloc|apply Kd.F_drewN|apply Kd.F_drew));exact Kd.V_F (Kd.V_mono (ok':=(fun k_=>((fun k_=>((P0_ k_∨P2_ k_)∨w.heap.size≤k_))) k_∧some k_≠(.slice none 0 0:Value).ownBlock)) (HO180.out) (fun k_ hk=>⟨hk,(by simp [Value.ownBlock])⟩))));(case aB=>exact (by repeat (first|(with_reducible first|exact HB.out|apply bA_|apply bN_|apply bD_)|exact HB.out)));(case aF=>exact (fun k_ hk=>(.inr (Nat.le_trans (below_size (by repeat (first|(with_reducible first|exact HB.out|apply bA_|apply bN_|apply bD_)|exact HB.out))) hk))));(case aO=>exact ((Kd.N_nil _ _ _ _ (fun k_=>((P0_ k_∨P2_ k_)∨w.heap.size≤k_)))));(case aS=>exact (below_size (by repeat (first|(with_reducible first|exact HB.out|apply bA_|apply bN_|apply bD_)|exact HB.out))));(case aL=>have:=LMc7.out;omega);intro v182 w15 ho hb hg hat;rw [← Ny181.out] at ho;have n0_:=Aside0.mk (Kd.V_afterv (Kd.V_apart_nil (by (with_reducible repeat (first|apply vA_|apply vN_|apply vD_));exact HO0.out)) hg hat);have n1_:=Aside0.mk (Kd.V_afterv (Kd.V_apart_nil (by (with_reducible repeat (first|apply vA_|apply vN_|apply vD_));exact HO2.out)) hg hat);have n2_:=Aside0.mk (Kd.V_afterv (Kd.V_apart_nil (by (with_reducible repeat (first|apply vA_|apply vN_|apply vD_));exact HO180.out)) hg hat);have n3_:=Aside0.mk (hb);have n4_:=Aside0.mk (ho);clear HO0;clear HO2;clear HO180;clear HB;have HO0:=n0_;have HO2:=n1_;have HO180:=n2_;have HB:=n3_;have HO183:=n4_;clear n0_ n1_ n2_ n3_ n4_;clear ho hb hg hat)|((with_reducible refine gate_builtin (b:=.append) (xs:=#[.tmp 21,.tmp 25]) rfl ?_);at_builtin;refine Kd.N_append k51 (w0:=w) w.heap.size rfl (.tmp 21) (.tmp 25) 24 51 (.agg #[(.string ⟨#[]⟩),(.slice none 0 0)]) 40 rfl Try.underlying24 info51 rfl (by decide) (by omega) v182 y181 (⟨a1,l2⟩:S51) [.string a1,.slice A2 l2.length c2] (fun k_=>((P0_ k_∨P2_ k_)∨w.heap.size≤k_)) (fun k_=>((fun k_=>((P0_ k_∨P2_ k_)∨w.heap.size≤k_))) k_∧some k_≠(v182:Value).ownBlock) rfl rfl ?aP (fun _ hk=>hk) ?aF ?aO ?aB ?aS ?aL ?_;(case aP=>exact (k51_mkF _ _ (⟨a1,l2⟩:S51) (Kd.V_reads' (Kd.V_mono (ok':=(fun k_=>((fun k_=>((P0_ k_∨P2_ k_)∨w.heap.size≤k_))) k_∧some k_≠(v182:Value).ownBlock)) (HO2.out) (fun k_ hk=>⟨hk.1,hk.2⟩))).2.1 (Kd.V_F (Kd.V_mono (ok':=(fun k_=>((fun k_=>((P0_ k_∨P2_ k_)∨w.heap.size≤k_))) k_∧some k_≠(v182:Value).ownBlock)) (HO2.out) (fun k_ hk=>⟨hk.1,hk.2⟩)))));(case aB=>exact (by repeat (first|(with_reducible first|exact HB.out|apply bA_|apply bN_|apply bD_)|exact HB.out)));(case aF=>exact (fun k_ hk=>(.inr (Nat.le_trans (below_size (by repeat (first|(with_reducible first|exact HB.out|apply bA_|apply bN_|apply bD_)|exact HB.out))) hk))));(case aO=>exact (by (with_reducible repeat (first|apply nA_|apply nN_|apply nD_));exact HO183.out));(case aS=>exact (below_size (by repeat (first|(with_reducible first|exact HB.out|apply bA_|apply bN_|apply bD_)|exact HB.out))));(case aL=>have:=LMc8.out;omega);intro v185 w16 ho hb hg hat;rw [← Ny184.out] at ho;have n0_:=Aside0.mk (Kd.V_afterv (ok:=(fun k_=>((P0_ k_∨P2_ k_)∨w.heap.size≤k_))) (by (with_reducible repeat (first|apply vA_|apply vN_|apply vD_));exact HO0.out) hg hat);have n1_:=Aside0.mk (Kd.V_afterv (ok:=(fun k_=>((P0_ k_∨P2_ k_)∨w.heap.size≤k_))) (by (with_reducible repeat (first|apply vA_|apply vN_|apply vD_));exact HO2.out) hg hat);have n2_:=Aside0.mk (Kd.V_afterv (ok:=(fun k_=>((P0_ k_∨P2_ k_)∨w.heap.size≤k_))) (by (with_reducible repeat (first|apply vA_|apply vN_|apply vD_));exact HO180.out) hg hat);have n3_:=Aside0.mk (hb);have n4_:=Aside0.mk (ho);clear HO0;clear HO2;clear HO180;clear HB;clear HO183;have HO0:=n0_;have HO2:=n1_;have HO180:=n2_;have HB:=n3_;have HO186:=n4_;clear n0_ n1_ n2_ n3_ n4_;clear ho hb hg hat;have q17:((ji10):Int)≤((l0.length:Int):Int):=of_decide_eq_true (by first|(with_reducible assumption)|assumption);obtain ⟨i017,hi017,_,hsz17,_⟩:=info_parts info51;have hroom17:l0.length≤c0:=(Kd.V_reads' HO0.out).2.1;have hC17:Kd.F k51 _ _ A0 l0.length l0:=(Kd.V_at (base:=w.heap.size) HO0.out).2.2;have q017:(0:Int)≤((ji10):Int):=of_decide_eq_true (by first|(with_reducible assumption)|assumption);have hcut17:=cut_from (P:=Try.prog) 24 51 .i64 Try.underlying24 hi017 2 hsz17 A0 l0.length c0 (ji10) q017 q17;have hr17:=Kd.F_cut (m:=((ji10):Int).toNat) (c:=c0) hC17 (by omega) hroom17;obtain ⟨A17,hA17⟩:∃ A1,A1=(if c0=((ji10):Int).toNat then A0 else (A0:Option Addr).map (·.add (((ji10):Int).toNat * 2))):=⟨_,rfl⟩;obtain ⟨c17,hc17⟩:∃ c1,c1=c0 - ((ji10):Int).toNat:=⟨_,rfl⟩;have hy17:y187.length=l0.length - ((ji10):Int).toNat:=(by rw [Ny187.out,List.length_drop] <;> omega);rw [show (l0).drop ((ji10):Int).toNat=y187 from Ny187.out.symm] at hr17;replace hr17:Kd.F k51 _ _ A17 y187.length y187:=(by rw [hA17];exact hr17);rw [← hy17,← hA17,← hc17] at hcut17;have HO191:=Aside0.mk (show Kd.V k51 51 _ w.heap.size _ (.slice A17 y187.length c17) y187 from Kd.V_mk (by rw [hy17,hc17];exact Nat.sub_le_sub_right hroom17 _) hr17);have HC191:=Aside0.mk (show y187.length≤c17 from by rw [hy17,hc17];exact Nat.sub_le_sub_right hroom17 _);clear hr17 hC17 hroom17 hi017 hsz17 hc17;have KY17:=Aside0.mk hy17;have KA17:=Aside0.mk hA17;clear hy17 hA17;replace q17:=eq_true q17)|((with_reducible refine gate_builtin (b:=.append) (xs:=#[.tmp 30,.tmp 33]) rfl ?_);at_builtin;refine Kd.N_append_rows k51 (w0:=w) w.heap.size rfl (.tmp 30) (.tmp 33) 24 51 (.agg #[(.string ⟨#[]⟩),(.slice none 0 0)]) 40 rfl Try.underlying24 info51 rfl (by decide) (by omega) v185 y184 y187 _ _ _ (fun k_=>((P0_ k_∨P2_ k_)∨w.heap.size≤k_)) (fun k_=>((fun k_=>((P0_ k_∨P2_ k_)∨w.heap.size≤k_))) k_∧some k_≠(v185:Value).ownBlock) rfl rfl ?aO ?aR (fun _ hk=>hk) ?aF ?aB ?aS ?aL ?_;(case aR=>exact (by (with_reducible repeat (first|apply Kd.F_alloc|apply Kd.F_drewN|apply Kd.F_drew));exact Kd.V_F (Kd.V_mono (ok':=(fun k_=>((fun k_=>((P0_ k_∨P2_ k_)∨w.heap.size≤k_))) k_∧some k_≠(v185:Value).ownBlock)) (HO191.out) (fun k_ hk=>⟨hk.1,hk.2⟩))));(case aB=>exact (by repeat (first|(with_reducible first|exact HB.out|apply bA_|apply bN_|apply bD_)|exact HB.out)));(case aF=>exact (fun k_ hk=>(.inr (Nat.le_trans (below_size (by repeat (first|(with_reducible first|exact HB.out|apply bA_|apply bN_|apply bD_)|exact HB.out))) hk))));(case aO=>exact (by (with_reducible repeat (first|apply nA_|apply nN_|apply nD_));exact HO186.out));(case aS=>exact (below_size (by repeat (first|(with_reducible first|exact HB.out|apply bA_|apply bN_|apply bD_)|exact HB.out))));(case aL=>have:=LMc13.out;omega);intro v193 w18 ho hb hg hat;rw [← Ny192.out] at ho;have n0_:=Aside0.mk (Kd.V_afterv (ok:=(fun k_=>((P0_ k_∨P2_ k_)∨w.heap.size≤k_))) (by (with_reducible repeat (first|apply vA_|apply vN_|apply vD_));exact HO0.out) hg hat);have n1_:=Aside0.mk (Kd.V_afterv (ok:=(fun k_=>((P0_ k_∨P2_ k_)∨w.heap.size≤k_))) (by (with_reducible repeat (first|apply vA_|apply vN_|apply vD_));exact HO2.out) hg hat);have n2_:=Aside0.mk (Kd.V_afterv (ok:=(fun k_=>((P0_ k_∨P2_ k_)∨w.heap.size≤k_))) (by (with_reducible repeat (first|apply vA_|apply vN_|apply vD_));exact HO180.out) hg hat);have n3_:=Aside0.mk (Kd.V_afterv (ok:=(fun k_=>((P0_ k_∨P2_ k_)∨w.heap.size≤k_))) (by (with_reducible repeat (first|apply vA_|apply vN_|apply vD_));exact HO191.out) hg hat);have n4_:=Aside0.mk (hb);have n5_:=Aside0.mk (ho);clear HO0;clear HO2;clear HO180;clear HO191;clear HB;clear HO186;have HO0:=n0_;have HO2:=n1_;have HO180:=n2_;have HO191:=n3_;have HB:=n4_;have HO194:=n5_;clear n0_ n1_ n2_ n3_ n4_ n5_;clear ho hb hg hat))
         go_ret
         exact ⟨_,by first|rfl|(simp [errW_none,errW_some] <;> rfl)|(simp only [← hji10];first|rfl|(simp [errW_none,errW_some] <;> rfl))|(simp [*,errW_none,errW_some] <;> rfl),by (with_reducible repeat (first|apply nA_|apply nN_|apply nD_));exact HO194.out,by repeat (first|(with_reducible first|exact HB.out|apply bA_|apply bN_|apply bD_)|exact HB.out)⟩
        ·rw [if_neg c13] at H
         exact absurd H (by simp)
       ·rw [if_neg c12] at H
        exact absurd H (by simp)
      ·rw [if_neg c11] at H
       exact absurd H (by simp)
     ·replace c9:=Bool.eq_false_iff.mpr c9
      subst c9
      have H1:((some (l0.drop (t174:Int).toNat:List (S51))).bind fun y195=>(if y184.length+y195.length < 3518437208883 then (some (y184 ++ y195)) else (none)))=some r:=by rw [if_neg (show ¬ (false=true) by decide)] at H;exact H
      clear H
      have H:=H1
      clear H1
      have c19b0:=eq_true (of_decide_eq_true (by first|(with_reducible assumption)|assumption):0≤t174)
      have c20b0:=eq_true (of_decide_eq_true (by first|(with_reducible assumption)|assumption):t174≤(l0.length:Int))
      obtain ⟨y195,hy195⟩:∃ y_:List (S51),y_=(l0.drop (t174:Int).toNat):=⟨_,rfl⟩
      replace H:(if y184.length+y195.length < 3518437208883 then (some (y184 ++ y195)) else (none))=some r:=by first|(rw [hy195];with_reducible exact H)|(have H2_:=(Option.bind_some _ _).symm.trans H;rw [hy195];with_reducible exact H2_)|(have H2_:=(Option.bind_some _ _).symm.trans H;with_reducible exact H2_)|with_reducible exact H|(rw [hy195];exact H)|exact H
      have Ny195:=Aside0.mk hy195
      clear hy195
      by_cases c21:y184.length+y195.length < 3518437208883
      ·rw [if_pos c21] at H
       have LMc21:=Aside0.mk c21
       clear c21
       obtain ⟨y200,hy200⟩:∃ y_:List (S51),y_=(y184 ++ y195):=⟨_,rfl⟩
       replace H:(some y200)=some r:=by first|(rw [hy200];with_reducible exact H)|(have H2_:=(Option.bind_some _ _).symm.trans H;rw [hy200];with_reducible exact H2_)|(have H2_:=(Option.bind_some _ _).symm.trans H;with_reducible exact H2_)|with_reducible exact H|(rw [hy200];exact H)|exact H
       have Ny200:=Aside0.mk hy200
       clear hy200
       obtain rfl:=Option.some.inj H
       go_enter Try.func16,Try.ntmps16
       go_wp2_with (first|((with_reducible refine gate_callee (f:=26) rfl ?_);refine goesL_ (some 13) rfl rfl Try.func26 (by kernel_rfl) rfl #[.slice A0 l0.length c0,.string a1] rfl (by (try simp only [List.map_toArray,List.map_cons,List.map_nil]);first|done|rfl|(simp only [List.length_drop,List.length_take];rfl)) ?_;(with_reducible refine (cadenceref2_At.calls k _ _ l0 a1 t174 false _ ?side1 ?side2 A4.out).mono ?_);(case side1=>repeat (first|exact (Kd.V_reads' HO0.out).2.2|(with_reducible refine cA_ ?_ _)|(with_reducible refine cN_ ?_ _)|(with_reducible refine cD_ ?_)));(case side2=>exact (Kd.V_reads' HO0.out).2.1);rintro e w' ⟨rfl,⟨nd,rfl⟩⟩;refine ⟨_,rfl,?_⟩;have q22:(t174:Int)≤((l0.length:Int):Int):=of_decide_eq_true (by first|(with_reducible assumption)|assumption);obtain ⟨i022,hi022,_,hsz22,_⟩:=info_parts info51;have hroom22:l0.length≤c0:=(Kd.V_reads' HO0.out).2.1;have hC22:Kd.F k51 _ _ A0 l0.length l0:=(Kd.V_at (base:=w.heap.size) HO0.out).2.2;have hcut22:=cut_to (P:=Try.prog) 24 51 .i64 Try.underlying24 hi022 A0 l0.length c0 t174 (of_decide_eq_true (by first|(with_reducible assumption)|assumption)) q22 hroom22;have hr22:=Kd.F_take (m:=(t174:Int).toNat) hC22 (by omega);have hy22:y176.length=(t174:Int).toNat:=(by rw [Ny176.out,List.length_take];omega);rw [← Ny176.out] at hr22;rw [← hy22] at hcut22;have HO180:=Aside0.mk (show Kd.V k51 51 _ w.heap.size _ (.slice A0 y176.length c0) y176 from Kd.V_mk (by omega) hr22);have HC180:=Aside0.mk (show y176.length≤c0 from by omega);clear hr22 hC22 hroom22 hi022 hsz22;have KY22:=Aside0.mk hy22;clear hy22;replace q22:=eq_true q22)|((with_reducible refine gate_builtin (b:=.append) (xs:=#[.tmp 16,.tmp 19]) rfl ?_);at_builtin;refine Kd.N_append_rows k51 (w0:=w) w.heap.size rfl (.tmp 16) (.tmp 19) 24 51 (.agg #[(.string ⟨#[]⟩),(.slice none 0 0)]) 40 rfl Try.underlying24 info51 rfl (by decide) (by omega) (.slice none 0 0) ([]:List (S51)) y176 _ _ _ (fun k_=>((P0_ k_∨P2_ k_)∨w.heap.size≤k_)) (fun k_=>((fun k_=>((P0_ k_∨P2_ k_)∨w.heap.size≤k_))) k_∧some k_≠(.slice none 0 0:Value).ownBlock) rfl rfl ?aO ?aR (fun _ hk=>hk) ?aF ?aB ?aS ?aL ?_;(case aR=>exact (by (with_reducible repeat (first|apply Kd.F_alloc|apply Kd.F_drewN|apply Kd.F_drew));exact Kd.V_F (Kd.V_mono (ok':=(fun k_=>((fun k_=>((P0_ k_∨P2_ k_)∨w.heap.size≤k_))) k_∧some k_≠(.slice none 0 0:Value).ownBlock)) (HO180.out) (fun k_ hk=>⟨hk,(by simp [Value.ownBlock])⟩))));(case aB=>exact (by repeat (first|(with_reducible first|exact HB.out|apply bA_|apply bN_|apply bD_)|exact HB.out)));(case aF=>exact (fun k_ hk=>(.inr (Nat.le_trans (below_size (by repeat (first|(with_reducible first|exact HB.out|apply bA_|apply bN_|apply bD_)|exact HB.out))) hk))));(case aO=>exact ((Kd.N_nil _ _ _ _ (fun k_=>((P0_ k_∨P2_ k_)∨w.heap.size≤k_)))));(case aS=>exact (below_size (by repeat (first|(with_reducible first|exact HB.out|apply bA_|apply bN_|apply bD_)|exact HB.out))));(case aL=>have:=LMc7.out;omega);intro v182 w23 ho hb hg hat;rw [← Ny181.out] at ho;have n0_:=Aside0.mk (Kd.V_afterv (Kd.V_apart_nil (by (with_reducible repeat (first|apply vA_|apply vN_|apply vD_));exact HO0.out)) hg hat);have n1_:=Aside0.mk (Kd.V_afterv (Kd.V_apart_nil (by (with_reducible repeat (first|apply vA_|apply vN_|apply vD_));exact HO2.out)) hg hat);have n2_:=Aside0.mk (Kd.V_afterv (Kd.V_apart_nil (by (with_reducible repeat (first|apply vA_|apply vN_|apply vD_));exact HO180.out)) hg hat);have n3_:=Aside0.mk (hb);have n4_:=Aside0.mk (ho);clear HO0;clear HO2;clear HO180;clear HB;have HO0:=n0_;have HO2:=n1_;have HO180:=n2_;have HB:=n3_;have HO183:=n4_;clear n0_ n1_ n2_ n3_ n4_;clear ho hb hg hat)|((with_reducible refine gate_builtin (b:=.append) (xs:=#[.tmp 21,.tmp 25]) rfl ?_);at_builtin;refine Kd.N_append k51 (w0:=w) w.heap.size rfl (.tmp 21) (.tmp 25) 24 51 (.agg #[(.string ⟨#[]⟩),(.slice none 0 0)]) 40 rfl Try.underlying24 info51 rfl (by decide) (by omega) v182 y181 (⟨a1,l2⟩:S51) [.string a1,.slice A2 l2.length c2] (fun k_=>((P0_ k_∨P2_ k_)∨w.heap.size≤k_)) (fun k_=>((fun k_=>((P0_ k_∨P2_ k_)∨w.heap.size≤k_))) k_∧some k_≠(v182:Value).ownBlock) rfl rfl ?aP (fun _ hk=>hk) ?aF ?aO ?aB ?aS ?aL ?_;(case aP=>exact (k51_mkF _ _ (⟨a1,l2⟩:S51) (Kd.V_reads' (Kd.V_mono (ok':=(fun k_=>((fun k_=>((P0_ k_∨P2_ k_)∨w.heap.size≤k_))) k_∧some k_≠(v182:Value).ownBlock)) (HO2.out) (fun k_ hk=>⟨hk.1,hk.2⟩))).2.1 (Kd.V_F (Kd.V_mono (ok':=(fun k_=>((fun k_=>((P0_ k_∨P2_ k_)∨w.heap.size≤k_))) k_∧some k_≠(v182:Value).ownBlock)) (HO2.out) (fun k_ hk=>⟨hk.1,hk.2⟩)))));(case aB=>exact (by repeat (first|(with_reducible first|exact HB.out|apply bA_|apply bN_|apply bD_)|exact HB.out)));(case aF=>exact (fun k_ hk=>(.inr (Nat.le_trans (below_size (by repeat (first|(with_reducible first|exact HB.out|apply bA_|apply bN_|apply bD_)|exact HB.out))) hk))));(case aO=>exact (by (with_reducible repeat (first|apply nA_|apply nN_|apply nD_));exact HO183.out));(case aS=>exact (below_size (by repeat (first|(with_reducible first|exact HB.out|apply bA_|apply bN_|apply bD_)|exact HB.out))));(case aL=>have:=LMc8.out;omega);intro v185 w24 ho hb hg hat;rw [← Ny184.out] at ho;have n0_:=Aside0.mk (Kd.V_afterv (ok:=(fun k_=>((P0_ k_∨P2_ k_)∨w.heap.size≤k_))) (by (with_reducible repeat (first|apply vA_|apply vN_|apply vD_));exact HO0.out) hg hat);have n1_:=Aside0.mk (Kd.V_afterv (ok:=(fun k_=>((P0_ k_∨P2_ k_)∨w.heap.size≤k_))) (by (with_reducible repeat (first|apply vA_|apply vN_|apply vD_));exact HO2.out) hg hat);have n2_:=Aside0.mk (Kd.V_afterv (ok:=(fun k_=>((P0_ k_∨P2_ k_)∨w.heap.size≤k_))) (by (with_reducible repeat (first|apply vA_|apply vN_|apply vD_));exact HO180.out) hg hat);have n3_:=Aside0.mk (hb);have n4_:=Aside0.mk (ho);clear HO0;clear HO2;clear HO180;clear HB;clear HO183;have HO0:=n0_;have HO2:=n1_;have HO180:=n2_;have HB:=n3_;have HO186:=n4_;clear n0_ n1_ n2_ n3_ n4_;clear ho hb hg hat;have q25:(t174:Int)≤((l0.length:Int):Int):=of_decide_eq_true (by first|(with_reducible assumption)|assumption);obtain ⟨i025,hi025,_,hsz25,_⟩:=info_parts info51;have hroom25:l0.length≤c0:=(Kd.V_reads' HO0.out).2.1;have hC25:Kd.F k51 _ _ A0 l0.length l0:=(Kd.V_at (base:=w.heap.size) HO0.out).2.2;have q025:(0:Int)≤(t174:Int):=of_decide_eq_true (by first|(with_reducible assumption)|assumption);have hcut25:=cut_from (P:=Try.prog) 24 51 .i64 Try.underlying24 hi025 2 hsz25 A0 l0.length c0 t174 q025 q25;have hr25:=Kd.F_cut (m:=(t174:Int).toNat) (c:=c0) hC25 (by omega) hroom25;obtain ⟨A25,hA25⟩:∃ A1,A1=(if c0=(t174:Int).toNat then A0 else (A0:Option Addr).map (·.add ((t174:Int).toNat * 2))):=⟨_,rfl⟩;obtain ⟨c25,hc25⟩:∃ c1,c1=c0 - (t174:Int).toNat:=⟨_,rfl⟩;have hy25:y195.length=l0.length - (t174:Int).toNat:=(by rw [Ny195.out,List.length_drop] <;> omega);rw [show (l0).drop (t174:Int).toNat=y195 from Ny195.out.symm] at hr25;replace hr25:Kd.F k51 _ _ A25 y195.length y195:=(by rw [hA25];exact hr25);rw [← hy25,← hA25,← hc25] at hcut25;have HO199:=Aside0.mk (show Kd.V k51 51 _ w.heap.size _ (.slice A25 y195.length c25) y195 from Kd.V_mk (by rw [hy25,hc25];exact Nat.sub_le_sub_right hroom25 _) hr25);have HC199:=Aside0.mk (show y195.length≤c25 from by rw [hy25,hc25];exact Nat.sub_le_sub_right hroom25 _);clear hr25 hC25 hroom25 hi025 hsz25 hc25;have KY25:=Aside0.mk hy25;have KA25:=Aside0.mk hA25;clear hy25 hA25;replace q25:=eq_true q25)|((with_reducible refine gate_builtin (b:=.append) (xs:=#[.tmp 30,.tmp 33]) rfl ?_);at_builtin;refine Kd.N_append_rows k51 (w0:=w) w.heap.size rfl (.tmp 30) (.tmp 33) 24 51 (.agg #[(.string ⟨#[]⟩),(.slice none 0 0)]) 40 rfl Try.underlying24 info51 rfl (by decide) (by omega) v185 y184 y195 _ _ _ (fun k_=>((P0_ k_∨P2_ k_)∨w.heap.size≤k_)) (fun k_=>((fun k_=>((P0_ k_∨P2_ k_)∨w.heap.size≤k_))) k_∧some k_≠(v185:Value).ownBlock) rfl rfl ?aO ?aR (fun _ hk=>hk) ?aF ?aB ?aS ?aL ?_;(case aR=>exact (by (with_reducible repeat (first|apply Kd.F_alloc|apply Kd.F_drewN|apply Kd.F_drew));exact Kd.V_F (Kd.V_mono (ok':=(fun k_=>((fun k_=>((P0_ k_∨P2_ k_)∨w.heap.size≤k_))) k_∧some k_≠(v185:Value).ownBlock)) (HO199.out) (fun k_ hk=>⟨hk.1,hk.2⟩))));(case aB=>exact (by repeat (first|(with_reducible first|exact HB.out|apply bA_|apply bN_|apply bD_)|exact HB.out)));(case aF=>exact (fun k_ hk=>(.inr (Nat.le_trans (below_size (by repeat (first|(with_reducible first|exact HB.out|apply bA_|apply bN_|apply bD_)|exact HB.out))) hk))));(case aO=>exact (by (with_reducible repeat (first|apply nA_|apply nN_|apply nD_));exact HO186.out));(case aS=>exact (below_size (by repeat (first|(with_reducible first|exact HB.out|apply bA_|apply bN_|apply bD_)|exact HB.out))));(case aL=>have:=LMc21.out;omega);intro v201 w26 ho hb hg hat;rw [← Ny200.out] at ho;have n0_:=Aside0.mk (Kd.V_afterv (ok:=(fun k_=>((P0_ k_∨P2_ k_)∨w.heap.size≤k_))) (by (with_reducible repeat (first|apply vA_|apply vN_|apply vD_));exact HO0.out) hg hat);have n1_:=Aside0.mk (Kd.V_afterv (ok:=(fun k_=>((P0_ k_∨P2_ k_)∨w.heap.size≤k_))) (by (with_reducible repeat (first|apply vA_|apply vN_|apply vD_));exact HO2.out) hg hat);have n2_:=Aside0.mk (Kd.V_afterv (ok:=(fun k_=>((P0_ k_∨P2_ k_)∨w.heap.size≤k_))) (by (with_reducible repeat (first|apply vA_|apply vN_|apply vD_));exact HO180.out) hg hat);have n3_:=Aside0.mk (Kd.V_afterv (ok:=(fun k_=>((P0_ k_∨P2_ k_)∨w.heap.size≤k_))) (by (with_reducible repeat (first|apply vA_|apply vN_|apply vD_));exact HO199.out) hg hat);have n4_:=Aside0.mk (hb);have n5_:=Aside0.mk (ho);clear HO0;clear HO2;clear HO180;clear HO199;clear HB;clear HO186;have HO0:=n0_;have HO2:=n1_;have HO180:=n2_;have HO199:=n3_;have HB:=n4_;have HO202:=n5_;clear n0_ n1_ n2_ n3_ n4_ n5_;clear ho hb hg hat))
       go_ret
       exact ⟨_,by first|rfl|(simp [errW_none,errW_some] <;> rfl)|(simp [*,errW_none,errW_some] <;> rfl),by (with_reducible repeat (first|apply nA_|apply nN_|apply nD_));exact HO202.out,by repeat (first|(with_reducible first|exact HB.out|apply bA_|apply bN_|apply bD_)|exact HB.out)⟩
      ·rw [if_neg c21] at H
       exact absurd H (by simp)
    ·rw [if_neg c8] at H
     exact absurd H (by simp)
   ·rw [if_neg c7] at H
    exact absurd H (by simp)
  ·rw [if_neg c6] at H
   exact absurd H (by simp)
 ·rw [if_neg c5] at H
  exact absurd H (by simp)
end Go.Proofs.Ytainbaehfdhmbaa.PX
set_option linter.unusedVariables false
namespace Go.Proofs.Ytainbaehfdhmbaa.PX
open Go.RowKit Go.Proofs.YtainbaehfdhmbaaW.PrintWords Go.Proofs.YtainbaehfdhmbaaW.PrintLast Go.Proofs.YtainbaehfdhmbaaW.PrintMore Go.Proofs.Ytainbaehfdhmbaa
theorem at_ev (t:Tr) (n:ByteArray) (hl:t.length≤1000000000000):Ev (fun k=>cadenceref2_At.f k t n) ((pos t n:Nat),hasAt t n):=by
 have loop:∀ (d i:Nat),i+d=t.length→(∀ j (h:j < t.length),j < i→tl t[j].f0 < tl n)→Ev (fun k=>cadenceref2_At.l0 k t n (i:Int)) ((pos t n:Nat),hasAt t n):=by
  intro d
  induction d with
  | zero =>
   intro i hi hb
   have e:∀ k,cadenceref2_At.l0 (k+1) t n (i:Int)=some ((i:Int),false):=fun k=>by
    simp only [cadenceref2_At.l0]
    rw [if_neg (by omega)]
   have hp:pos t n=i:=by
    have h1:=pos_le t n
    refine Nat.le_antisymm (by omega) (Nat.le_of_not_lt fun hlt=>?_)
    have hh:=hasAt_pos t n
    have h2:=hb (pos t n) (by omega) hlt
    exact absurd h2 (pos_not t n (by omega))
   have hh:hasAt t n=false:=by rw [hasAt_pos,dif_neg (by omega)]
   rw [hp,hh]
   exact Ev.step e (Ev.now _)
  | succ d ihd =>
   intro i hi hb
   have hil:i < t.length:=by omega
   by_cases hlt:tl t[i].f0 < tl n
   ·have e:∀ k,cadenceref2_At.l0 (k+1) t n (i:Int)=cadenceref2_At.l0 k t n ((i+1:Nat):Int):=fun k=>by
     simp only [cadenceref2_At.l0]
     rw [if_pos (by omega),if_pos (by omega),rdT_nat hil,if_pos ((less_iff _ _).2 hlt),wrap_succ (by omega)]
    refine Ev.step e (ihd (i+1) (by omega) fun j hj hji=>?_)
    rcases Nat.lt_or_ge j i with h|h
    ·exact hb j hj h
    ·obtain rfl:j=i:=by omega
     exact hlt
   ·have e:∀ k,cadenceref2_At.l0 (k+1) t n (i:Int)=some ((i:Int),decide (t[i].f0=n)):=fun k=>by
     simp only [cadenceref2_At.l0]
     rw [if_pos (by omega),if_pos (by omega),rdT_nat hil,if_neg (fun h=>hlt ((less_iff _ _).1 h)),same_eq]
    have hp:pos t n=i:=by
     rcases Nat.lt_trichotomy (pos t n) i with h|h|h
     ·exact absurd (hb _ (by omega) h) (pos_not t n (by omega))
     ·exact h
     ·exact absurd (pos_below t n i hil h) hlt
    have hh:hasAt t n=decide (t[i].f0=n):=by
     rw [hasAt_pos,dif_pos (by omega)]
     simp only [hp]
    rw [hp,hh]
    exact Ev.step e (Ev.now _)
 exact loop t.length 0 (by omega) (fun j _ h=>absurd h (Nat.not_lt_zero _))
theorem with_ev (t:Tr) (n:ByteArray) (x:Tr) (hl:t.length≤1000000000000):Ev (fun k=>cadenceref2_With.f k t n x) (withT t n x):=by
 obtain ⟨K,hK⟩:=at_ev t n hl
 refine ⟨K,fun k hk=>?_⟩
 replace hK:cadenceref2_At.f k t n=some (((pos t n:Nat):Int),hasAt t n):=hK k hk
 show cadenceref2_With.f k t n x=some (withT t n x)
 have hp:=pos_le t n
 have h1:(0:Int)≤(pos t n:Nat):=by omega
 have h2:((pos t n:Nat):Int)≤(t.length:Int):=by omega
 have h3:([]:Tr).length+(t.take (pos t n)).length < 3518437208883:=by rw [List.length_take,List.length_nil];omega
 have h4:(t.take (pos t n)).length < 3518437208883:=by rw [List.length_take];omega
 unfold cadenceref2_With.f
 rw [hK,Option.bind_some,if_pos h1,if_pos h2,Int.toNat_natCast,Option.bind_some,if_pos h3,Option.bind_some,List.nil_append,if_pos h4,Option.bind_some,withT_eq]
 cases e:hasAt t n with
 | true =>
  have hlt:pos t n < t.length:=by
   rw [hasAt_kid] at e
   obtain ⟨x,hx⟩:=Option.isSome_iff_exists.1 e
   exact (kid_pos t n x hx).1
  have h5:(0:Int)≤((pos t n+1:Nat):Int):=by omega
  have h6:((pos t n+1:Nat):Int)≤(t.length:Int):=by omega
  have h7:(t.take (pos t n) ++ [(⟨n,x⟩:Edge)]).length+(t.drop (pos t n+1)).length < 3518437208883:=by rw [List.length_append,List.length_take,List.length_drop,List.length_singleton];omega
  rw [if_pos rfl,wrap_succ (by omega),if_pos h5,if_pos h6,Int.toNat_natCast,Option.bind_some,if_pos h7,if_pos rfl,List.append_assoc]
  rfl
 | false =>
  have h7:(t.take (pos t n) ++ [(⟨n,x⟩:Edge)]).length+(t.drop (pos t n)).length < 3518437208883:=by rw [List.length_append,List.length_take,List.length_drop,List.length_singleton];omega
  rw [if_neg Bool.false_ne_true,Option.bind_some,if_pos h7,if_neg Bool.false_ne_true,List.append_assoc]
  rfl
end Go.Proofs.Ytainbaehfdhmbaa.PX
namespace Go.Proofs.Ytainbaehfdhmbaa.PX
open Go.RowKit Go.Proofs.YtainbaehfdhmbaaW.PrintWords Go.Proofs.YtainbaehfdhmbaaW.PrintLast Go.Proofs.YtainbaehfdhmbaaW.PrintMore
attribute [local go_sem] max2_int min2_int max_two min_two max_three min_three max_four min_four   
set_option linter.unusedVariables false
set_option linter.unusedSimpArgs false
mutual
def cadenceref2_Same.l0:Nat→List (S51)→List (S51)→Int→Option (Bool)
 | 0,_,_,_=>none
 | k+1,x0,x1,x5=>if x5 < (x0.length:Int) then (if 0≤x5 then (if x5 < (x1.length:Int) then (if ((rd_T51 x0 x5).f0).toList=((rd_T51 x1 x5).f0).toList then ((cadenceref2_Same.f k ((rd_T51 x0 x5).f1) ((rd_T51 x1 x5).f1)).bind fun t339=>(if t339=true then (cadenceref2_Same.l0 k x0 x1 (wrap64 (x5+1))) else (some false))) else (some false)) else (none)) else (none)) else (some true)
def cadenceref2_Same.f:Nat→List (S51)→List (S51)→Option (Bool)
 | 0,_,_=>none
 | k+1,l0,l1=>if (l0.length:Int)=(l1.length:Int) then (cadenceref2_Same.l0 k l0 l1 0) else (some false)
end
theorem cadenceref2_Same.mono_l:∀ k,(∀ y0 y1,LeO (cadenceref2_Same.f k y0 y1) (cadenceref2_Same.f (k+1) y0 y1))∧(∀ y0 y1 y2,LeO (cadenceref2_Same.l0 k y0 y1 y2) (cadenceref2_Same.l0 (k+1) y0 y1 y2))
 | 0=>⟨fun _ _ r h=>by simp [cadenceref2_Same.f] at h,fun _ _ _ r h=>by simp [cadenceref2_Same.l0] at h⟩
 | k+1=>by
  obtain ⟨ih0,ih1⟩:=cadenceref2_Same.mono_l k
  refine ⟨?_,?_⟩
  ·intro y0 y1
   unfold cadenceref2_Same.f
   repeat' first
   | (with_reducible exact ih0 _ _)
   | (with_reducible exact ih1 _ _ _)
   | (with_reducible exact LeO.refl _)
   | (with_reducible exact LeO.none _)
   | (with_reducible refine LeO.ite ?_ ?_)
   | (with_reducible refine LeO.bind ?_ (fun _=>?_))
   | exact ih0 _ _
   | exact ih1 _ _ _
   | exact LeO.none _
   | refine LeO.ite ?_ ?_
   | refine LeO.bind ?_ (fun _=>?_)
  ·intro y0 y1 y2
   unfold cadenceref2_Same.l0
   repeat' first
   | (with_reducible exact ih0 _ _)
   | (with_reducible exact ih1 _ _ _)
   | (with_reducible exact LeO.refl _)
   | (with_reducible exact LeO.none _)
   | (with_reducible refine LeO.ite ?_ ?_)
   | (with_reducible refine LeO.bind ?_ (fun _=>?_))
   | exact ih0 _ _
   | exact ih1 _ _ _
   | exact LeO.none _
   | refine LeO.ite ?_ ?_
   | refine LeO.bind ?_ (fun _=>?_)
theorem cadenceref2_Same.mono:∀ a0 a1 k,LeO (cadenceref2_Same.f k a0 a1) (cadenceref2_Same.f (k+1) a0 a1):=by
 intro a0 a1 k
 obtain ⟨ih0,ih1⟩:=cadenceref2_Same.mono_l k
 exact ih0 a0 a1
def cadenceref2_Same.T6:Bool × List (List Nat × List Nat):=(true,[([],[]),([],[]),([0,1],[0,1]),([2],[2]),([3],[3]),([],[]),([],[]),([5,6],[5,6]),([7],[7]),([8],[8]),([4,9],[4,9]),([10],[10]),([11],[11]),([11],[11]),([12,13,11],[11,12,13]),([14,11],[11,14]),([15,11],[11,15]),([11],[11]),([11],[11]),([17,18,11],[11,17,18]),([19,11],[11,19]),([20,11],[11,20]),([16,21,11,11],[11,16,21]),([22,11],[11,22]),([11,23],[11,23])])
def cadenceref2_Same.B6:List Nat:=[0,0,3,7,15,0,0,96,224,480,1023,2047,4095,4095,16383,32767,65535,4095,4095,397311,921599,1970175,4194303,8388607,16777215]
theorem cadenceref2_Same.tab6:rtab .any (opsOf Try.f19 6)=cadenceref2_Same.T6:=by kernel_rfl
theorem cadenceref2_Same.bits6:waitsOk cadenceref2_Same.T6.2 cadenceref2_Same.B6=true:=by kernel_rfl
set_option maxHeartbeats 8000000 in
set_option maxRecDepth 100000 in
theorem cadenceref2_Same.calls (k:Nat):∀ (A0:Option Addr) (c0:Nat) (l0:List (S51)) (A1:Option Addr) (c1:Nat) (l1:List (S51)) (r:Bool) (w:World) (hr0:Kd.C k51 w A0 l0.length l0) (hc0:l0.length≤c0) (hr1:Kd.C k51 w A1 l1.length l1) (hc1:l1.length≤c1) (h:cadenceref2_Same.f k l0 l1=some r),
  Calls Try.prog 19 #[.slice A0 l0.length c0,.slice A1 l1.length c1] w fun e w'=>e=.returned (.bool r)∧Below w.heap.size w w':=by
 induction k using Nat.strongRecOn with
 | _ k ih =>
 intro A0 c0 l0 A1 c1 l1 r w hr0 hc0 hr1 hc1 h
 cases k with
 | zero=>exact absurd h (by simp [cadenceref2_Same.f])
 | succ k =>
 simp only [cadenceref2_Same.f] at h
 have HR0:=Aside0.mk hr0
 have HC0:=Aside0.mk hc0
 clear hr0 hc0
 have HR1:=Aside0.mk hr1
 have HC1:=Aside0.mk hc1
 clear hr1 hc1
 have HB:=Aside0.mk (Below.refl w.heap.size w)
 have H:(if (l0.length:Int)=(l1.length:Int) then (cadenceref2_Same.l0 k l0 l1 0) else (some false))=some r:=h
 clear h
 by_cases c3:(l0.length:Int)=(l1.length:Int)
 ·rw [if_pos c3] at H
  have c3b0:((l0.length:Int) == (l1.length:Int))=true:=beq_iff_eq.mpr c3
  have c3b1:((l0.length:Int) != (l1.length:Int))=false:=bne_eq_false_iff_eq.mpr c3
  have c3b2:(l0.length == l1.length)=true:=by first|simpa using c3|(simp at c3 ⊢;omega)
  clear c3
  have H':=Aside0.mk H
  clear H
  go_enter Try.func19,Try.ntmps19
  go_wp2
  go_loopg [5] k (fun kq v5 w'=>∃ (x5_1:Int),v5=.int .i64 x5_1∧Aside0 (cadenceref2_Same.l0 kq l0 l1 x5_1=some r)∧Aside0 (kq≤k)∧Aside0 (Below w.heap.size w w'))
  case atStart=>exact ⟨(0),(by first|rfl|(simp;done)|(simp [*];done)),H',⟨Nat.le_refl _⟩,⟨by repeat (first|(with_reducible first|exact HB.out|apply bA_|apply bN_|apply bD_)|exact HB.out)⟩⟩
  case round =>
   clear H'
   try clear c1
   try clear p2
   try clear c3
   try clear c3b0
   try clear c3b1
   try clear c3b2
   obtain ⟨x5_1,rfl,HA,HK1,HB⟩:=hrel
   cases gk with
   | zero=>exact absurd HA.out (by simp [cadenceref2_Same.l0])
   | succ k1 =>
    have H:=HA.out
    clear HA
    simp only [cadenceref2_Same.l0] at H
    by_cases c4:x5_1 < (l0.length:Int)
    ·rw [if_pos c4] at H
     have c4b0:decide (x5_1 < (l0.length:Int))=true:=decide_eq_true c4
     clear c4
     by_cases c5:0≤x5_1
     ·rw [if_pos c5] at H
      have c5b0:decide (0≤x5_1)=true:=decide_eq_true c5
      clear c5
      by_cases c6:x5_1 < (l1.length:Int)
      ·rw [if_pos c6] at H
       have c6b0:decide (x5_1 < (l1.length:Int))=true:=decide_eq_true c6
       clear c6
       by_cases c7:((rd_T51 l0 x5_1).f0).toList=((rd_T51 l1 x5_1).f0).toList
       ·rw [if_pos c7] at H
        have c7b0:(((rd_T51 l0 x5_1).f0).toList == ((rd_T51 l1 x5_1).f0).toList)=true:=beq_iff_eq.mpr c7
        have c7b1:(((rd_T51 l0 x5_1).f0).toList != ((rd_T51 l1 x5_1).f0).toList)=false:=bne_eq_false_iff_eq.mpr c7
        clear c7
        replace H:=Option.bind_eq_some_iff.mp H
        obtain ⟨t339,A80,H⟩:=H
        replace H:(if t339=true then (cadenceref2_Same.l0 k1 l0 l1 (wrap64 (x5_1+1))) else (some false))=some r:=H
        have A8:=Aside0.mk A80
        clear A80
        by_cases c9:t339=true
        ·subst c9
         have H1:(cadenceref2_Same.l0 k1 l0 l1 (wrap64 (x5_1+1)))=some r:=by rw [if_pos rfl] at H;exact H
         clear H
         have H:=H1
         clear H1
         have H':=Aside0.mk H
         clear H
         try go_wp2
         have n0_:=Aside0.mk (bD_ HB.out)
         clear HB
         have HB:=n0_
         clear n0_
         have p335:0≤(x5_1:Int):=of_decide_eq_true (by first|(with_reducible assumption)|assumption)
         have q335:x5_1 < (l0.length:Int):=of_decide_eq_true (by first|(with_reducible assumption)|assumption)
         obtain ⟨ad335,A335_1,c335_1,e335,hx335_0,hx335_1,hl335_1,hi335_1⟩:=at_T51 HR0.out x5_1 p335 q335
         have hw335_1:=hx335_1
         have hw335_0:=hx335_0
         cases e335
         replace hx335_0:=(HB.out.cell (World.block_lt_of_cell? w _ hx335_0)).trans hx335_0
         replace hx335_1:=(HB.out.cell (World.block_lt_of_cell? w _ hx335_1)).trans hx335_1
         have HR335_1:=Aside0.mk hi335_1
         have HC335_1:=Aside0.mk hl335_1
         clear hi335_1 hl335_1
         replace p335:=eq_true p335
         replace q335:=eq_true q335
         have p336:0≤(x5_1:Int):=of_decide_eq_true (by first|(with_reducible assumption)|assumption)
         have q336:x5_1 < (l1.length:Int):=of_decide_eq_true (by first|(with_reducible assumption)|assumption)
         obtain ⟨ad336,A336_1,c336_1,e336,hx336_0,hx336_1,hl336_1,hi336_1⟩:=at_T51 HR1.out x5_1 p336 q336
         have hw336_1:=hx336_1
         have hw336_0:=hx336_0
         cases e336
         replace hx336_0:=(HB.out.cell (World.block_lt_of_cell? w _ hx336_0)).trans hx336_0
         replace hx336_1:=(HB.out.cell (World.block_lt_of_cell? w _ hx336_1)).trans hx336_1
         have HR336_1:=Aside0.mk hi336_1
         have HC336_1:=Aside0.mk hl336_1
         clear hi336_1 hl336_1
         replace p336:=eq_true p336
         replace q336:=eq_true q336
         have p337:0≤(x5_1:Int):=of_decide_eq_true (by first|(with_reducible assumption)|assumption)
         have q337:x5_1 < (l0.length:Int):=of_decide_eq_true (by first|(with_reducible assumption)|assumption)
         obtain ⟨ad337,A337_1,c337_1,e337,hx337_0,hx337_1,hl337_1,hi337_1⟩:=at_T51 HR0.out x5_1 p337 q337
         have hw337_1:=hx337_1
         have hw337_0:=hx337_0
         obtain rfl:ad335=ad337:=(by injection e337)
         replace hx337_0:=(HB.out.cell (World.block_lt_of_cell? w _ hx337_0)).trans hx337_0
         replace hx337_1:=(HB.out.cell (World.block_lt_of_cell? w _ hx337_1)).trans hx337_1
         have HR337_1:=Aside0.mk hi337_1
         have HC337_1:=Aside0.mk hl337_1
         clear hi337_1 hl337_1
         replace p337:=eq_true p337
         replace q337:=eq_true q337
         have ea_:=Option.some.inj (hx335_1.symm.trans hx337_1)
         injection ea_ with ea_ en_ ec_
         subst ea_
         subst ec_
         clear en_
         have p338:0≤(x5_1:Int):=of_decide_eq_true (by first|(with_reducible assumption)|assumption)
         have q338:x5_1 < (l1.length:Int):=of_decide_eq_true (by first|(with_reducible assumption)|assumption)
         obtain ⟨ad338,A338_1,c338_1,e338,hx338_0,hx338_1,hl338_1,hi338_1⟩:=at_T51 HR1.out x5_1 p338 q338
         have hw338_1:=hx338_1
         have hw338_0:=hx338_0
         obtain rfl:ad336=ad338:=(by injection e338)
         replace hx338_0:=(HB.out.cell (World.block_lt_of_cell? w _ hx338_0)).trans hx338_0
         replace hx338_1:=(HB.out.cell (World.block_lt_of_cell? w _ hx338_1)).trans hx338_1
         have HR338_1:=Aside0.mk hi338_1
         have HC338_1:=Aside0.mk hl338_1
         clear hi338_1 hl338_1
         replace p338:=eq_true p338
         replace q338:=eq_true q338
         have ea_:=Option.some.inj (hx336_1.symm.trans hx338_1)
         injection ea_ with ea_ en_ ec_
         subst ea_
         subst ec_
         clear en_
         refine start_ (n:=25) (S:=fun w'=>w'.cell? (ad335.add ((x5_1).toNat * 2))=some (.string ((rd_T51 l0 x5_1).f0))∧w'.cell? ⟨(ad335.add ((x5_1).toNat * 2)).block,(ad335.add ((x5_1).toNat * 2)).off+1,none⟩=some (.slice A335_1 ((rd_T51 l0 x5_1).f1).length c335_1)∧w'.cell? (ad336.add ((x5_1).toNat * 2))=some (.string ((rd_T51 l1 x5_1).f0))∧w'.cell? ⟨(ad336.add ((x5_1).toNat * 2)).block,(ad336.add ((x5_1).toNat * 2)).off+1,none⟩=some (.slice A336_1 ((rd_T51 l1 x5_1).f1).length c336_1)∧w'.cell? (ad335.add ((x5_1).toNat * 2))=some (.string ((rd_T51 l0 x5_1).f0))∧w'.cell? ⟨(ad335.add ((x5_1).toNat * 2)).block,(ad335.add ((x5_1).toNat * 2)).off+1,none⟩=some (.slice A335_1 ((rd_T51 l0 x5_1).f1).length c335_1)∧w'.cell? (ad336.add ((x5_1).toNat * 2))=some (.string ((rd_T51 l1 x5_1).f0))∧w'.cell? ⟨(ad336.add ((x5_1).toNat * 2)).block,(ad336.add ((x5_1).toNat * 2)).off+1,none⟩=some (.slice A336_1 ((rd_T51 l1 x5_1).f1).length c336_1)) (ds:=[]) #[false,false,false,false,false,false,false,false,false,false,false,false,false,false,false,false,false,false,false,false,false,false,false,false,false] (by kernel_rfl) rfl rfl ⟨((HB.out.cell (World.block_lt_of_cell? w _ hw335_0)).trans hw335_0),((HB.out.cell (World.block_lt_of_cell? w _ hw335_1)).trans hw335_1),((HB.out.cell (World.block_lt_of_cell? w _ hw336_0)).trans hw336_0),((HB.out.cell (World.block_lt_of_cell? w _ hw336_1)).trans hw336_1),((HB.out.cell (World.block_lt_of_cell? w _ hw337_0)).trans hw337_0),((HB.out.cell (World.block_lt_of_cell? w _ hw337_1)).trans hw337_1),((HB.out.cell (World.block_lt_of_cell? w _ hw338_0)).trans hw338_0),((HB.out.cell (World.block_lt_of_cell? w _ hw338_1)).trans hw338_1)⟩ (fun hHeld=>?_);refine with_tabW cadenceref2_Same.tab6 cadenceref2_Same.bits6 (fun HT_ HW_=>?_)
         generalize wr.drew=w10 at HB HR335_1 HR336_1 HR337_1 HR338_1 hx335_0 hx335_1 hx336_0 hx336_1 hx337_0 hx337_1 hx338_0 hx338_1 hHeld ⊢
         refine pure_ (i:=0) (N:=some 17) (v:=?_) (a':=?_) #[true,false,false,false,false,false,false,false,false,false,false,false,false,false,false,false,false,false,false,false,false,false,false,false,false] rfl rfl (any_of HT_.out (by kernel_rfl)) (fun _ _ _ h=>h) (Or.inl ⟨by rfl,?_⟩) ?_ ?_
         rotate_left
         ·intro w'
          go_simp
          with_reducible rfl
         rotate_left
         ·simp only [Act.put,List.setIfInBounds_toArray,List.set_cons_zero,List.set_cons_succ,i64_w,i32_w]
          rfl
         refine pure_ (i:=1) (N:=some 18) (v:=?_) (a':=?_) #[true,true,false,false,false,false,false,false,false,false,false,false,false,false,false,false,false,false,false,false,false,false,false,false,false] rfl rfl (any_of HT_.out (by kernel_rfl)) (fun _ _ _ h=>h) (Or.inl ⟨by rfl,?_⟩) ?_ ?_
         rotate_left
         ·intro w'
          go_simp
          with_reducible rfl
         rotate_left
         ·simp only [Act.put,List.setIfInBounds_toArray,List.set_cons_zero,List.set_cons_succ,i64_w,i32_w]
          rfl
         refine pure_ (i:=2) (N:=some 19) (v:=?_) (a':=?_) #[true,true,true,false,false,false,false,false,false,false,false,false,false,false,false,false,false,false,false,false,false,false,false,false,false] rfl rfl (any_of HT_.out (by kernel_rfl)) (fun _ _ _ h=>h) (Or.inl ⟨by rfl,?_⟩) ?_ ?_
         rotate_left
         ·intro w'
          go_simp
          with_reducible rfl
         rotate_left
         ·simp only [Act.put,List.setIfInBounds_toArray,List.set_cons_zero,List.set_cons_succ,i64_w,i32_w]
          rfl
         refine pure_ (i:=3) (N:=some 20) (v:=?_) (a':=?_) #[true,true,true,true,false,false,false,false,false,false,false,false,false,false,false,false,false,false,false,false,false,false,false,false,false] rfl rfl (any_of HT_.out (by kernel_rfl)) (fun _ _ _ h=>h) (Or.inl ⟨by rfl,?_⟩) ?_ ?_
         rotate_left
         ·intro w'
          go_simp
          with_reducible rfl
         rotate_left
         ·simp only [Act.put,List.setIfInBounds_toArray,List.set_cons_zero,List.set_cons_succ,i64_w,i32_w]
          rfl
         refine pure_ (i:=5) (N:=some 22) (v:=?_) (a':=?_) #[true,true,true,true,false,true,false,false,false,false,false,false,false,false,false,false,false,false,false,false,false,false,false,false,false] rfl rfl (any_of HT_.out (by kernel_rfl)) (fun _ _ _ h=>h) (Or.inl ⟨by rfl,?_⟩) ?_ ?_
         rotate_left
         ·intro w'
          go_simp
          with_reducible rfl
         rotate_left
         ·simp only [Act.put,List.setIfInBounds_toArray,List.set_cons_zero,List.set_cons_succ,i64_w,i32_w]
          rfl
         refine pure_ (i:=6) (N:=some 23) (v:=?_) (a':=?_) #[true,true,true,true,false,true,true,false,false,false,false,false,false,false,false,false,false,false,false,false,false,false,false,false,false] rfl rfl (any_of HT_.out (by kernel_rfl)) (fun _ _ _ h=>h) (Or.inl ⟨by rfl,?_⟩) ?_ ?_
         rotate_left
         ·intro w'
          go_simp
          with_reducible rfl
         rotate_left
         ·simp only [Act.put,List.setIfInBounds_toArray,List.set_cons_zero,List.set_cons_succ,i64_w,i32_w]
          rfl
         refine pure_ (i:=7) (N:=some 24) (v:=?_) (a':=?_) #[true,true,true,true,false,true,true,true,false,false,false,false,false,false,false,false,false,false,false,false,false,false,false,false,false] rfl rfl (any_of HT_.out (by kernel_rfl)) (fun _ _ _ h=>h) (Or.inl ⟨by rfl,?_⟩) ?_ ?_
         rotate_left
         ·intro w'
          go_simp
          with_reducible rfl
         rotate_left
         ·simp only [Act.put,List.setIfInBounds_toArray,List.set_cons_zero,List.set_cons_succ,i64_w,i32_w]
          rfl
         refine pure_ (i:=8) (N:=some 25) (v:=?_) (a':=?_) #[true,true,true,true,false,true,true,true,true,false,false,false,false,false,false,false,false,false,false,false,false,false,false,false,false] rfl rfl (any_of HT_.out (by kernel_rfl)) (fun _ _ _ h=>h) (Or.inl ⟨by rfl,?_⟩) ?_ ?_
         rotate_left
         ·intro w'
          go_simp
          with_reducible rfl
         rotate_left
         ·simp only [Act.put,List.setIfInBounds_toArray,List.set_cons_zero,List.set_cons_succ,i64_w,i32_w]
          rfl
         refine take_ (i:=4) (N:=some 21) (v:=?_) (a':=?_) #[true,true,true,true,true,true,true,true,true,false,false,false,false,false,false,false,false,false,false,false,false,false,false,false,false] rfl rfl (take_ofW HT_.out HW_.out (by kernel_rfl)) (fun _ _ _ h=>h) (Or.inl ⟨by rfl,?_⟩) hHeld ?_ ?_
         rotate_left
         ·rintro w' ⟨s0,s1,s2,s3,s4,s5,s6,s7⟩
          go_simp
          with_reducible rfl
         rotate_left
         ·simp only [Act.put,List.setIfInBounds_toArray,List.set_cons_zero,List.set_cons_succ,i64_w,i32_w]
          rfl
         refine take_ (i:=9) (N:=some 26) (v:=?_) (a':=?_) #[true,true,true,true,true,true,true,true,true,true,false,false,false,false,false,false,false,false,false,false,false,false,false,false,false] rfl rfl (take_ofW HT_.out HW_.out (by kernel_rfl)) (fun _ _ _ h=>h) (Or.inl ⟨by rfl,?_⟩) hHeld ?_ ?_
         rotate_left
         ·rintro w' ⟨s0,s1,s2,s3,s4,s5,s6,s7⟩
          go_simp
          with_reducible rfl
         rotate_left
         ·simp only [Act.put,List.setIfInBounds_toArray,List.set_cons_zero,List.set_cons_succ,i64_w,i32_w]
          rfl
         refine pure_ (i:=10) (N:=some 27) (v:=?_) (a':=?_) #[true,true,true,true,true,true,true,true,true,true,true,false,false,false,false,false,false,false,false,false,false,false,false,false,false] rfl rfl (any_of HT_.out (by kernel_rfl)) (fun _ _ _ h=>h) (Or.inl ⟨by rfl,?_⟩) ?_ ?_
         rotate_left
         ·intro w'
          go_simp
          with_reducible rfl
         rotate_left
         ·simp only [Act.put,List.setIfInBounds_toArray,List.set_cons_zero,List.set_cons_succ,i64_w,i32_w]
          rfl
         refine pure_ (i:=11) (N:=some 28) (v:=?_) (a':=?_) #[true,true,true,true,true,true,true,true,true,true,true,true,false,false,false,false,false,false,false,false,false,false,false,false,false] rfl rfl (any_of HT_.out (by kernel_rfl)) (fun _ _ _ h=>h) (Or.inl ⟨by rfl,?_⟩) ?_ ?_
         rotate_left
         ·intro w'
          go_simp
          with_reducible rfl
         rotate_left
         ·simp only [Act.put,List.setIfInBounds_toArray,List.set_cons_zero,List.set_cons_succ,i64_w,i32_w]
          rfl
         refine pure_ (i:=12) (N:=some 29) (v:=?_) (a':=?_) #[true,true,true,true,true,true,true,true,true,true,true,true,true,false,false,false,false,false,false,false,false,false,false,false,false] rfl rfl (any_of HT_.out (by kernel_rfl)) (fun _ _ _ h=>h) (Or.inl ⟨by rfl,?_⟩) ?_ ?_
         rotate_left
         ·intro w'
          go_simp
          with_reducible rfl
         rotate_left
         ·simp only [Act.put,List.setIfInBounds_toArray,List.set_cons_zero,List.set_cons_succ,i64_w,i32_w]
          rfl
         refine pure_ (i:=13) (N:=some 30) (v:=?_) (a':=?_) #[true,true,true,true,true,true,true,true,true,true,true,true,true,true,false,false,false,false,false,false,false,false,false,false,false] rfl rfl (any_of HT_.out (by kernel_rfl)) (fun _ _ _ h=>h) (Or.inl ⟨by rfl,?_⟩) ?_ ?_
         rotate_left
         ·intro w'
          go_simp
          with_reducible rfl
         rotate_left
         ·simp only [Act.put,List.setIfInBounds_toArray,List.set_cons_zero,List.set_cons_succ,i64_w,i32_w]
          rfl
         refine pure_ (i:=14) (N:=some 31) (v:=?_) (a':=?_) #[true,true,true,true,true,true,true,true,true,true,true,true,true,true,true,false,false,false,false,false,false,false,false,false,false] rfl rfl (any_of HT_.out (by kernel_rfl)) (fun _ _ _ h=>h) (Or.inl ⟨by rfl,?_⟩) ?_ ?_
         rotate_left
         ·intro w'
          go_simp
          with_reducible rfl
         rotate_left
         ·simp only [Act.put,List.setIfInBounds_toArray,List.set_cons_zero,List.set_cons_succ,i64_w,i32_w]
          rfl
         refine pure_ (i:=15) (N:=some 32) (v:=?_) (a':=?_) #[true,true,true,true,true,true,true,true,true,true,true,true,true,true,true,true,false,false,false,false,false,false,false,false,false] rfl rfl (any_of HT_.out (by kernel_rfl)) (fun _ _ _ h=>h) (Or.inl ⟨by rfl,?_⟩) ?_ ?_
         rotate_left
         ·intro w'
          go_simp
          with_reducible rfl
         rotate_left
         ·simp only [Act.put,List.setIfInBounds_toArray,List.set_cons_zero,List.set_cons_succ,i64_w,i32_w]
          rfl
         refine pure_ (i:=17) (N:=some 34) (v:=?_) (a':=?_) #[true,true,true,true,true,true,true,true,true,true,true,true,true,true,true,true,false,true,false,false,false,false,false,false,false] rfl rfl (any_of HT_.out (by kernel_rfl)) (fun _ _ _ h=>h) (Or.inl ⟨by rfl,?_⟩) ?_ ?_
         rotate_left
         ·intro w'
          go_simp
          with_reducible rfl
         rotate_left
         ·simp only [Act.put,List.setIfInBounds_toArray,List.set_cons_zero,List.set_cons_succ,i64_w,i32_w]
          rfl
         refine pure_ (i:=18) (N:=some 35) (v:=?_) (a':=?_) #[true,true,true,true,true,true,true,true,true,true,true,true,true,true,true,true,false,true,true,false,false,false,false,false,false] rfl rfl (any_of HT_.out (by kernel_rfl)) (fun _ _ _ h=>h) (Or.inl ⟨by rfl,?_⟩) ?_ ?_
         rotate_left
         ·intro w'
          go_simp
          with_reducible rfl
         rotate_left
         ·simp only [Act.put,List.setIfInBounds_toArray,List.set_cons_zero,List.set_cons_succ,i64_w,i32_w]
          rfl
         refine pure_ (i:=19) (N:=some 36) (v:=?_) (a':=?_) #[true,true,true,true,true,true,true,true,true,true,true,true,true,true,true,true,false,true,true,true,false,false,false,false,false] rfl rfl (any_of HT_.out (by kernel_rfl)) (fun _ _ _ h=>h) (Or.inl ⟨by rfl,?_⟩) ?_ ?_
         rotate_left
         ·intro w'
          go_simp
          with_reducible rfl
         rotate_left
         ·simp only [Act.put,List.setIfInBounds_toArray,List.set_cons_zero,List.set_cons_succ,i64_w,i32_w]
          rfl
         refine pure_ (i:=20) (N:=some 37) (v:=?_) (a':=?_) #[true,true,true,true,true,true,true,true,true,true,true,true,true,true,true,true,false,true,true,true,true,false,false,false,false] rfl rfl (any_of HT_.out (by kernel_rfl)) (fun _ _ _ h=>h) (Or.inl ⟨by rfl,?_⟩) ?_ ?_
         rotate_left
         ·intro w'
          go_simp
          with_reducible rfl
         rotate_left
         ·simp only [Act.put,List.setIfInBounds_toArray,List.set_cons_zero,List.set_cons_succ,i64_w,i32_w]
          rfl
         refine take_ (i:=16) (N:=some 33) (v:=?_) (a':=?_) #[true,true,true,true,true,true,true,true,true,true,true,true,true,true,true,true,true,true,true,true,true,false,false,false,false] rfl rfl (take_ofW HT_.out HW_.out (by kernel_rfl)) (fun _ _ _ h=>h) (Or.inl ⟨by rfl,?_⟩) hHeld ?_ ?_
         rotate_left
         ·rintro w' ⟨s0,s1,s2,s3,s4,s5,s6,s7⟩
          go_simp
          with_reducible rfl
         rotate_left
         ·simp only [Act.put,List.setIfInBounds_toArray,List.set_cons_zero,List.set_cons_succ,i64_w,i32_w]
          rfl
         refine take_ (i:=21) (N:=some 38) (v:=?_) (a':=?_) #[true,true,true,true,true,true,true,true,true,true,true,true,true,true,true,true,true,true,true,true,true,true,false,false,false] rfl rfl (take_ofW HT_.out HW_.out (by kernel_rfl)) (fun _ _ _ h=>h) (Or.inl ⟨by rfl,?_⟩) hHeld ?_ ?_
         rotate_left
         ·rintro w' ⟨s0,s1,s2,s3,s4,s5,s6,s7⟩
          go_simp
          with_reducible rfl
         rotate_left
         ·simp only [Act.put,List.setIfInBounds_toArray,List.set_cons_zero,List.set_cons_succ,i64_w,i32_w]
          rfl
         refine one_ (i:=22) (N:=some 39) #[true,true,true,true,true,true,true,true,true,true,true,true,true,true,true,true,true,true,true,true,true,true,true,false,false] rfl rfl (one_of HT_.out (by kernel_rfl)) (by decide) (fun K hK=>?_)
         refine goes_ Try.func19 (by kernel_rfl) rfl #[.slice A335_1 ((rd_T51 l0 x5_1).f1).length c335_1,.slice A336_1 ((rd_T51 l1 x5_1).f1).length c336_1] (by rfl) rfl rfl (by (try simp only [List.map_toArray,List.map_cons,List.map_nil]);first|done|rfl|(simp only [List.length_drop,List.length_take];rfl)) ?_
         with_reducible refine (ih k1 (by have:=HK1.out;omega) _ _ ((rd_T51 l0 x5_1).f1) _ _ ((rd_T51 l1 x5_1).f1) true _ ?side1 ?side2 ?side3 ?side4 A8.out).mono ?_
         (case side1=>repeat (first|exact (Kd.C_below HR337_1.out HB.out)|(with_reducible refine cA_ ?_ _)|(with_reducible refine cN_ ?_ _)|(with_reducible refine cD_ ?_)))
         (case side2=>exact HC337_1.out)
         (case side3=>repeat (first|exact (Kd.C_below HR338_1.out HB.out)|(with_reducible refine cA_ ?_ _)|(with_reducible refine cN_ ?_ _)|(with_reducible refine cD_ ?_)))
         (case side4=>exact HC338_1.out)
         rintro e w11 ⟨rfl,hb⟩
         refine ⟨_,rfl,?_⟩
         have n0_:=Aside0.mk (below_step (by repeat (first|(with_reducible first|exact HB.out|apply bA_|apply bN_|apply bD_)|exact HB.out)) hb)
         clear HB
         have HB:=n0_
         clear n0_
         (try clear hb)
         (try clear hb2)
         (try clear hk)
         (try clear hi)
         refine hK.out _ _ ⟨((HB.out.cell (World.block_lt_of_cell? w _ hw335_0)).trans hw335_0),((HB.out.cell (World.block_lt_of_cell? w _ hw335_1)).trans hw335_1),((HB.out.cell (World.block_lt_of_cell? w _ hw336_0)).trans hw336_0),((HB.out.cell (World.block_lt_of_cell? w _ hw336_1)).trans hw336_1),((HB.out.cell (World.block_lt_of_cell? w _ hw337_0)).trans hw337_0),((HB.out.cell (World.block_lt_of_cell? w _ hw337_1)).trans hw337_1),((HB.out.cell (World.block_lt_of_cell? w _ hw338_0)).trans hw338_0),((HB.out.cell (World.block_lt_of_cell? w _ hw338_1)).trans hw338_1)⟩ (fun hHeld=>?_)
         clear hK K
         refine norm_ (a':=?_) ?_ ?_
         rotate_left
         ·show Act.put _ (some 39) _=_
          simp only [Act.put,List.setIfInBounds_toArray,List.set_cons_zero,List.set_cons_succ,i64_w,i32_w]
          rfl
         refine pure_ (i:=23) (N:=some 40) (v:=?_) (a':=?_) #[true,true,true,true,true,true,true,true,true,true,true,true,true,true,true,true,true,true,true,true,true,true,true,true,false] rfl rfl (any_of HT_.out (by kernel_rfl)) (fun _ _ _ h=>h) (Or.inl ⟨by rfl,?_⟩) ?_ ?_
         rotate_left
         ·intro w'
          go_simp
          with_reducible rfl
         rotate_left
         ·simp only [Act.put,List.setIfInBounds_toArray,List.set_cons_zero,List.set_cons_succ,i64_w,i32_w]
          rfl
         refine pure_ (i:=24) (N:=some 41) (v:=?_) (a':=?_) #[true,true,true,true,true,true,true,true,true,true,true,true,true,true,true,true,true,true,true,true,true,true,true,true,true] rfl rfl (any_of HT_.out (by kernel_rfl)) (fun _ _ _ h=>h) (Or.inl ⟨by rfl,?_⟩) ?_ ?_
         rotate_left
         ·intro w'
          go_simp
          with_reducible rfl
         rotate_left
         ·simp only [Act.put,List.setIfInBounds_toArray,List.set_cons_zero,List.set_cons_succ,i64_w,i32_w]
          rfl
         refine done_ (done_of HT_.out (by kernel_rfl)) ?_
         try go_wp2
         go_roundg k1
         case measure=>have:=HK1.out;omega
         case rel=>exact ⟨(wrap64 (x5_1+1)),(by first|rfl|(simp;done)|(simp [*];done)),H',⟨by have:=HK1.out;omega⟩,⟨by repeat (first|(with_reducible first|exact HB.out|apply bA_|apply bN_|apply bD_)|exact HB.out)⟩⟩
        ·replace c9:=Bool.eq_false_iff.mpr c9
         subst c9
         have H1:(some false)=some r:=by rw [if_neg (show ¬ (false=true) by decide)] at H;exact H
         clear H
         have H:=H1
         clear H1
         obtain rfl:=Option.some.inj H
         try go_wp2
         have n0_:=Aside0.mk (bD_ HB.out)
         clear HB
         have HB:=n0_
         clear n0_
         have p335:0≤(x5_1:Int):=of_decide_eq_true (by first|(with_reducible assumption)|assumption)
         have q335:x5_1 < (l0.length:Int):=of_decide_eq_true (by first|(with_reducible assumption)|assumption)
         obtain ⟨ad335,A335_1,c335_1,e335,hx335_0,hx335_1,hl335_1,hi335_1⟩:=at_T51 HR0.out x5_1 p335 q335
         have hw335_1:=hx335_1
         have hw335_0:=hx335_0
         cases e335
         replace hx335_0:=(HB.out.cell (World.block_lt_of_cell? w _ hx335_0)).trans hx335_0
         replace hx335_1:=(HB.out.cell (World.block_lt_of_cell? w _ hx335_1)).trans hx335_1
         have HR335_1:=Aside0.mk hi335_1
         have HC335_1:=Aside0.mk hl335_1
         clear hi335_1 hl335_1
         replace p335:=eq_true p335
         replace q335:=eq_true q335
         have p336:0≤(x5_1:Int):=of_decide_eq_true (by first|(with_reducible assumption)|assumption)
         have q336:x5_1 < (l1.length:Int):=of_decide_eq_true (by first|(with_reducible assumption)|assumption)
         obtain ⟨ad336,A336_1,c336_1,e336,hx336_0,hx336_1,hl336_1,hi336_1⟩:=at_T51 HR1.out x5_1 p336 q336
         have hw336_1:=hx336_1
         have hw336_0:=hx336_0
         cases e336
         replace hx336_0:=(HB.out.cell (World.block_lt_of_cell? w _ hx336_0)).trans hx336_0
         replace hx336_1:=(HB.out.cell (World.block_lt_of_cell? w _ hx336_1)).trans hx336_1
         have HR336_1:=Aside0.mk hi336_1
         have HC336_1:=Aside0.mk hl336_1
         clear hi336_1 hl336_1
         replace p336:=eq_true p336
         replace q336:=eq_true q336
         have p337:0≤(x5_1:Int):=of_decide_eq_true (by first|(with_reducible assumption)|assumption)
         have q337:x5_1 < (l0.length:Int):=of_decide_eq_true (by first|(with_reducible assumption)|assumption)
         obtain ⟨ad337,A337_1,c337_1,e337,hx337_0,hx337_1,hl337_1,hi337_1⟩:=at_T51 HR0.out x5_1 p337 q337
         have hw337_1:=hx337_1
         have hw337_0:=hx337_0
         obtain rfl:ad335=ad337:=(by injection e337)
         replace hx337_0:=(HB.out.cell (World.block_lt_of_cell? w _ hx337_0)).trans hx337_0
         replace hx337_1:=(HB.out.cell (World.block_lt_of_cell? w _ hx337_1)).trans hx337_1
         have HR337_1:=Aside0.mk hi337_1
         have HC337_1:=Aside0.mk hl337_1
         clear hi337_1 hl337_1
         replace p337:=eq_true p337
         replace q337:=eq_true q337
         have ea_:=Option.some.inj (hx335_1.symm.trans hx337_1)
         injection ea_ with ea_ en_ ec_
         subst ea_
         subst ec_
         clear en_
         have p338:0≤(x5_1:Int):=of_decide_eq_true (by first|(with_reducible assumption)|assumption)
         have q338:x5_1 < (l1.length:Int):=of_decide_eq_true (by first|(with_reducible assumption)|assumption)
         obtain ⟨ad338,A338_1,c338_1,e338,hx338_0,hx338_1,hl338_1,hi338_1⟩:=at_T51 HR1.out x5_1 p338 q338
         have hw338_1:=hx338_1
         have hw338_0:=hx338_0
         obtain rfl:ad336=ad338:=(by injection e338)
         replace hx338_0:=(HB.out.cell (World.block_lt_of_cell? w _ hx338_0)).trans hx338_0
         replace hx338_1:=(HB.out.cell (World.block_lt_of_cell? w _ hx338_1)).trans hx338_1
         have HR338_1:=Aside0.mk hi338_1
         have HC338_1:=Aside0.mk hl338_1
         clear hi338_1 hl338_1
         replace p338:=eq_true p338
         replace q338:=eq_true q338
         have ea_:=Option.some.inj (hx336_1.symm.trans hx338_1)
         injection ea_ with ea_ en_ ec_
         subst ea_
         subst ec_
         clear en_
         refine start_ (n:=25) (S:=fun w'=>w'.cell? (ad335.add ((x5_1).toNat * 2))=some (.string ((rd_T51 l0 x5_1).f0))∧w'.cell? ⟨(ad335.add ((x5_1).toNat * 2)).block,(ad335.add ((x5_1).toNat * 2)).off+1,none⟩=some (.slice A335_1 ((rd_T51 l0 x5_1).f1).length c335_1)∧w'.cell? (ad336.add ((x5_1).toNat * 2))=some (.string ((rd_T51 l1 x5_1).f0))∧w'.cell? ⟨(ad336.add ((x5_1).toNat * 2)).block,(ad336.add ((x5_1).toNat * 2)).off+1,none⟩=some (.slice A336_1 ((rd_T51 l1 x5_1).f1).length c336_1)∧w'.cell? (ad335.add ((x5_1).toNat * 2))=some (.string ((rd_T51 l0 x5_1).f0))∧w'.cell? ⟨(ad335.add ((x5_1).toNat * 2)).block,(ad335.add ((x5_1).toNat * 2)).off+1,none⟩=some (.slice A335_1 ((rd_T51 l0 x5_1).f1).length c335_1)∧w'.cell? (ad336.add ((x5_1).toNat * 2))=some (.string ((rd_T51 l1 x5_1).f0))∧w'.cell? ⟨(ad336.add ((x5_1).toNat * 2)).block,(ad336.add ((x5_1).toNat * 2)).off+1,none⟩=some (.slice A336_1 ((rd_T51 l1 x5_1).f1).length c336_1)) (ds:=[]) #[false,false,false,false,false,false,false,false,false,false,false,false,false,false,false,false,false,false,false,false,false,false,false,false,false] (by kernel_rfl) rfl rfl ⟨((HB.out.cell (World.block_lt_of_cell? w _ hw335_0)).trans hw335_0),((HB.out.cell (World.block_lt_of_cell? w _ hw335_1)).trans hw335_1),((HB.out.cell (World.block_lt_of_cell? w _ hw336_0)).trans hw336_0),((HB.out.cell (World.block_lt_of_cell? w _ hw336_1)).trans hw336_1),((HB.out.cell (World.block_lt_of_cell? w _ hw337_0)).trans hw337_0),((HB.out.cell (World.block_lt_of_cell? w _ hw337_1)).trans hw337_1),((HB.out.cell (World.block_lt_of_cell? w _ hw338_0)).trans hw338_0),((HB.out.cell (World.block_lt_of_cell? w _ hw338_1)).trans hw338_1)⟩ (fun hHeld=>?_);refine with_tabW cadenceref2_Same.tab6 cadenceref2_Same.bits6 (fun HT_ HW_=>?_)
         generalize wr.drew=w12 at HB HR335_1 HR336_1 HR337_1 HR338_1 hx335_0 hx335_1 hx336_0 hx336_1 hx337_0 hx337_1 hx338_0 hx338_1 hHeld ⊢
         refine pure_ (i:=0) (N:=some 17) (v:=?_) (a':=?_) #[true,false,false,false,false,false,false,false,false,false,false,false,false,false,false,false,false,false,false,false,false,false,false,false,false] rfl rfl (any_of HT_.out (by kernel_rfl)) (fun _ _ _ h=>h) (Or.inl ⟨by rfl,?_⟩) ?_ ?_
         rotate_left
         ·intro w'
          go_simp
          with_reducible rfl
         rotate_left
         ·simp only [Act.put,List.setIfInBounds_toArray,List.set_cons_zero,List.set_cons_succ,i64_w,i32_w]
          rfl
         refine pure_ (i:=1) (N:=some 18) (v:=?_) (a':=?_) #[true,true,false,false,false,false,false,false,false,false,false,false,false,false,false,false,false,false,false,false,false,false,false,false,false] rfl rfl (any_of HT_.out (by kernel_rfl)) (fun _ _ _ h=>h) (Or.inl ⟨by rfl,?_⟩) ?_ ?_
         rotate_left
         ·intro w'
          go_simp
          with_reducible rfl
         rotate_left
         ·simp only [Act.put,List.setIfInBounds_toArray,List.set_cons_zero,List.set_cons_succ,i64_w,i32_w]
          rfl
         refine pure_ (i:=2) (N:=some 19) (v:=?_) (a':=?_) #[true,true,true,false,false,false,false,false,false,false,false,false,false,false,false,false,false,false,false,false,false,false,false,false,false] rfl rfl (any_of HT_.out (by kernel_rfl)) (fun _ _ _ h=>h) (Or.inl ⟨by rfl,?_⟩) ?_ ?_
         rotate_left
         ·intro w'
          go_simp
          with_reducible rfl
         rotate_left
         ·simp only [Act.put,List.setIfInBounds_toArray,List.set_cons_zero,List.set_cons_succ,i64_w,i32_w]
          rfl
         refine pure_ (i:=3) (N:=some 20) (v:=?_) (a':=?_) #[true,true,true,true,false,false,false,false,false,false,false,false,false,false,false,false,false,false,false,false,false,false,false,false,false] rfl rfl (any_of HT_.out (by kernel_rfl)) (fun _ _ _ h=>h) (Or.inl ⟨by rfl,?_⟩) ?_ ?_
         rotate_left
         ·intro w'
          go_simp
          with_reducible rfl
         rotate_left
         ·simp only [Act.put,List.setIfInBounds_toArray,List.set_cons_zero,List.set_cons_succ,i64_w,i32_w]
          rfl
         refine pure_ (i:=5) (N:=some 22) (v:=?_) (a':=?_) #[true,true,true,true,false,true,false,false,false,false,false,false,false,false,false,false,false,false,false,false,false,false,false,false,false] rfl rfl (any_of HT_.out (by kernel_rfl)) (fun _ _ _ h=>h) (Or.inl ⟨by rfl,?_⟩) ?_ ?_
         rotate_left
         ·intro w'
          go_simp
          with_reducible rfl
         rotate_left
         ·simp only [Act.put,List.setIfInBounds_toArray,List.set_cons_zero,List.set_cons_succ,i64_w,i32_w]
          rfl
         refine pure_ (i:=6) (N:=some 23) (v:=?_) (a':=?_) #[true,true,true,true,false,true,true,false,false,false,false,false,false,false,false,false,false,false,false,false,false,false,false,false,false] rfl rfl (any_of HT_.out (by kernel_rfl)) (fun _ _ _ h=>h) (Or.inl ⟨by rfl,?_⟩) ?_ ?_
         rotate_left
         ·intro w'
          go_simp
          with_reducible rfl
         rotate_left
         ·simp only [Act.put,List.setIfInBounds_toArray,List.set_cons_zero,List.set_cons_succ,i64_w,i32_w]
          rfl
         refine pure_ (i:=7) (N:=some 24) (v:=?_) (a':=?_) #[true,true,true,true,false,true,true,true,false,false,false,false,false,false,false,false,false,false,false,false,false,false,false,false,false] rfl rfl (any_of HT_.out (by kernel_rfl)) (fun _ _ _ h=>h) (Or.inl ⟨by rfl,?_⟩) ?_ ?_
         rotate_left
         ·intro w'
          go_simp
          with_reducible rfl
         rotate_left
         ·simp only [Act.put,List.setIfInBounds_toArray,List.set_cons_zero,List.set_cons_succ,i64_w,i32_w]
          rfl
         refine pure_ (i:=8) (N:=some 25) (v:=?_) (a':=?_) #[true,true,true,true,false,true,true,true,true,false,false,false,false,false,false,false,false,false,false,false,false,false,false,false,false] rfl rfl (any_of HT_.out (by kernel_rfl)) (fun _ _ _ h=>h) (Or.inl ⟨by rfl,?_⟩) ?_ ?_
         rotate_left
         ·intro w'
          go_simp
          with_reducible rfl
         rotate_left
         ·simp only [Act.put,List.setIfInBounds_toArray,List.set_cons_zero,List.set_cons_succ,i64_w,i32_w]
          rfl
         refine take_ (i:=4) (N:=some 21) (v:=?_) (a':=?_) #[true,true,true,true,true,true,true,true,true,false,false,false,false,false,false,false,false,false,false,false,false,false,false,false,false] rfl rfl (take_ofW HT_.out HW_.out (by kernel_rfl)) (fun _ _ _ h=>h) (Or.inl ⟨by rfl,?_⟩) hHeld ?_ ?_
         rotate_left
         ·rintro w' ⟨s0,s1,s2,s3,s4,s5,s6,s7⟩
          go_simp
          with_reducible rfl
         rotate_left
         ·simp only [Act.put,List.setIfInBounds_toArray,List.set_cons_zero,List.set_cons_succ,i64_w,i32_w]
          rfl
         refine take_ (i:=9) (N:=some 26) (v:=?_) (a':=?_) #[true,true,true,true,true,true,true,true,true,true,false,false,false,false,false,false,false,false,false,false,false,false,false,false,false] rfl rfl (take_ofW HT_.out HW_.out (by kernel_rfl)) (fun _ _ _ h=>h) (Or.inl ⟨by rfl,?_⟩) hHeld ?_ ?_
         rotate_left
         ·rintro w' ⟨s0,s1,s2,s3,s4,s5,s6,s7⟩
          go_simp
          with_reducible rfl
         rotate_left
         ·simp only [Act.put,List.setIfInBounds_toArray,List.set_cons_zero,List.set_cons_succ,i64_w,i32_w]
          rfl
         refine pure_ (i:=10) (N:=some 27) (v:=?_) (a':=?_) #[true,true,true,true,true,true,true,true,true,true,true,false,false,false,false,false,false,false,false,false,false,false,false,false,false] rfl rfl (any_of HT_.out (by kernel_rfl)) (fun _ _ _ h=>h) (Or.inl ⟨by rfl,?_⟩) ?_ ?_
         rotate_left
         ·intro w'
          go_simp
          with_reducible rfl
         rotate_left
         ·simp only [Act.put,List.setIfInBounds_toArray,List.set_cons_zero,List.set_cons_succ,i64_w,i32_w]
          rfl
         refine pure_ (i:=11) (N:=some 28) (v:=?_) (a':=?_) #[true,true,true,true,true,true,true,true,true,true,true,true,false,false,false,false,false,false,false,false,false,false,false,false,false] rfl rfl (any_of HT_.out (by kernel_rfl)) (fun _ _ _ h=>h) (Or.inl ⟨by rfl,?_⟩) ?_ ?_
         rotate_left
         ·intro w'
          go_simp
          with_reducible rfl
         rotate_left
         ·simp only [Act.put,List.setIfInBounds_toArray,List.set_cons_zero,List.set_cons_succ,i64_w,i32_w]
          rfl
         refine pure_ (i:=12) (N:=some 29) (v:=?_) (a':=?_) #[true,true,true,true,true,true,true,true,true,true,true,true,true,false,false,false,false,false,false,false,false,false,false,false,false] rfl rfl (any_of HT_.out (by kernel_rfl)) (fun _ _ _ h=>h) (Or.inl ⟨by rfl,?_⟩) ?_ ?_
         rotate_left
         ·intro w'
          go_simp
          with_reducible rfl
         rotate_left
         ·simp only [Act.put,List.setIfInBounds_toArray,List.set_cons_zero,List.set_cons_succ,i64_w,i32_w]
          rfl
         refine pure_ (i:=13) (N:=some 30) (v:=?_) (a':=?_) #[true,true,true,true,true,true,true,true,true,true,true,true,true,true,false,false,false,false,false,false,false,false,false,false,false] rfl rfl (any_of HT_.out (by kernel_rfl)) (fun _ _ _ h=>h) (Or.inl ⟨by rfl,?_⟩) ?_ ?_
         rotate_left
         ·intro w'
          go_simp
          with_reducible rfl
         rotate_left
         ·simp only [Act.put,List.setIfInBounds_toArray,List.set_cons_zero,List.set_cons_succ,i64_w,i32_w]
          rfl
         refine pure_ (i:=14) (N:=some 31) (v:=?_) (a':=?_) #[true,true,true,true,true,true,true,true,true,true,true,true,true,true,true,false,false,false,false,false,false,false,false,false,false] rfl rfl (any_of HT_.out (by kernel_rfl)) (fun _ _ _ h=>h) (Or.inl ⟨by rfl,?_⟩) ?_ ?_
         rotate_left
         ·intro w'
          go_simp
          with_reducible rfl
         rotate_left
         ·simp only [Act.put,List.setIfInBounds_toArray,List.set_cons_zero,List.set_cons_succ,i64_w,i32_w]
          rfl
         refine pure_ (i:=15) (N:=some 32) (v:=?_) (a':=?_) #[true,true,true,true,true,true,true,true,true,true,true,true,true,true,true,true,false,false,false,false,false,false,false,false,false] rfl rfl (any_of HT_.out (by kernel_rfl)) (fun _ _ _ h=>h) (Or.inl ⟨by rfl,?_⟩) ?_ ?_
         rotate_left
         ·intro w'
          go_simp
          with_reducible rfl
         rotate_left
         ·simp only [Act.put,List.setIfInBounds_toArray,List.set_cons_zero,List.set_cons_succ,i64_w,i32_w]
          rfl
         refine pure_ (i:=17) (N:=some 34) (v:=?_) (a':=?_) #[true,true,true,true,true,true,true,true,true,true,true,true,true,true,true,true,false,true,false,false,false,false,false,false,false] rfl rfl (any_of HT_.out (by kernel_rfl)) (fun _ _ _ h=>h) (Or.inl ⟨by rfl,?_⟩) ?_ ?_
         rotate_left
         ·intro w'
          go_simp
          with_reducible rfl
         rotate_left
         ·simp only [Act.put,List.setIfInBounds_toArray,List.set_cons_zero,List.set_cons_succ,i64_w,i32_w]
          rfl
         refine pure_ (i:=18) (N:=some 35) (v:=?_) (a':=?_) #[true,true,true,true,true,true,true,true,true,true,true,true,true,true,true,true,false,true,true,false,false,false,false,false,false] rfl rfl (any_of HT_.out (by kernel_rfl)) (fun _ _ _ h=>h) (Or.inl ⟨by rfl,?_⟩) ?_ ?_
         rotate_left
         ·intro w'
          go_simp
          with_reducible rfl
         rotate_left
         ·simp only [Act.put,List.setIfInBounds_toArray,List.set_cons_zero,List.set_cons_succ,i64_w,i32_w]
          rfl
         refine pure_ (i:=19) (N:=some 36) (v:=?_) (a':=?_) #[true,true,true,true,true,true,true,true,true,true,true,true,true,true,true,true,false,true,true,true,false,false,false,false,false] rfl rfl (any_of HT_.out (by kernel_rfl)) (fun _ _ _ h=>h) (Or.inl ⟨by rfl,?_⟩) ?_ ?_
         rotate_left
         ·intro w'
          go_simp
          with_reducible rfl
         rotate_left
         ·simp only [Act.put,List.setIfInBounds_toArray,List.set_cons_zero,List.set_cons_succ,i64_w,i32_w]
          rfl
         refine pure_ (i:=20) (N:=some 37) (v:=?_) (a':=?_) #[true,true,true,true,true,true,true,true,true,true,true,true,true,true,true,true,false,true,true,true,true,false,false,false,false] rfl rfl (any_of HT_.out (by kernel_rfl)) (fun _ _ _ h=>h) (Or.inl ⟨by rfl,?_⟩) ?_ ?_
         rotate_left
         ·intro w'
          go_simp
          with_reducible rfl
         rotate_left
         ·simp only [Act.put,List.setIfInBounds_toArray,List.set_cons_zero,List.set_cons_succ,i64_w,i32_w]
          rfl
         refine take_ (i:=16) (N:=some 33) (v:=?_) (a':=?_) #[true,true,true,true,true,true,true,true,true,true,true,true,true,true,true,true,true,true,true,true,true,false,false,false,false] rfl rfl (take_ofW HT_.out HW_.out (by kernel_rfl)) (fun _ _ _ h=>h) (Or.inl ⟨by rfl,?_⟩) hHeld ?_ ?_
         rotate_left
         ·rintro w' ⟨s0,s1,s2,s3,s4,s5,s6,s7⟩
          go_simp
          with_reducible rfl
         rotate_left
         ·simp only [Act.put,List.setIfInBounds_toArray,List.set_cons_zero,List.set_cons_succ,i64_w,i32_w]
          rfl
         refine take_ (i:=21) (N:=some 38) (v:=?_) (a':=?_) #[true,true,true,true,true,true,true,true,true,true,true,true,true,true,true,true,true,true,true,true,true,true,false,false,false] rfl rfl (take_ofW HT_.out HW_.out (by kernel_rfl)) (fun _ _ _ h=>h) (Or.inl ⟨by rfl,?_⟩) hHeld ?_ ?_
         rotate_left
         ·rintro w' ⟨s0,s1,s2,s3,s4,s5,s6,s7⟩
          go_simp
          with_reducible rfl
         rotate_left
         ·simp only [Act.put,List.setIfInBounds_toArray,List.set_cons_zero,List.set_cons_succ,i64_w,i32_w]
          rfl
         refine one_ (i:=22) (N:=some 39) #[true,true,true,true,true,true,true,true,true,true,true,true,true,true,true,true,true,true,true,true,true,true,true,false,false] rfl rfl (one_of HT_.out (by kernel_rfl)) (by decide) (fun K hK=>?_)
         refine goes_ Try.func19 (by kernel_rfl) rfl #[.slice A335_1 ((rd_T51 l0 x5_1).f1).length c335_1,.slice A336_1 ((rd_T51 l1 x5_1).f1).length c336_1] (by rfl) rfl rfl (by (try simp only [List.map_toArray,List.map_cons,List.map_nil]);first|done|rfl|(simp only [List.length_drop,List.length_take];rfl)) ?_
         with_reducible refine (ih k1 (by have:=HK1.out;omega) _ _ ((rd_T51 l0 x5_1).f1) _ _ ((rd_T51 l1 x5_1).f1) false _ ?side1 ?side2 ?side3 ?side4 A8.out).mono ?_
         (case side1=>repeat (first|exact (Kd.C_below HR337_1.out HB.out)|(with_reducible refine cA_ ?_ _)|(with_reducible refine cN_ ?_ _)|(with_reducible refine cD_ ?_)))
         (case side2=>exact HC337_1.out)
         (case side3=>repeat (first|exact (Kd.C_below HR338_1.out HB.out)|(with_reducible refine cA_ ?_ _)|(with_reducible refine cN_ ?_ _)|(with_reducible refine cD_ ?_)))
         (case side4=>exact HC338_1.out)
         rintro e w13 ⟨rfl,hb⟩
         refine ⟨_,rfl,?_⟩
         have n0_:=Aside0.mk (below_step (by repeat (first|(with_reducible first|exact HB.out|apply bA_|apply bN_|apply bD_)|exact HB.out)) hb)
         clear HB
         have HB:=n0_
         clear n0_
         (try clear hb)
         (try clear hb2)
         (try clear hk)
         (try clear hi)
         refine hK.out _ _ ⟨((HB.out.cell (World.block_lt_of_cell? w _ hw335_0)).trans hw335_0),((HB.out.cell (World.block_lt_of_cell? w _ hw335_1)).trans hw335_1),((HB.out.cell (World.block_lt_of_cell? w _ hw336_0)).trans hw336_0),((HB.out.cell (World.block_lt_of_cell? w _ hw336_1)).trans hw336_1),((HB.out.cell (World.block_lt_of_cell? w _ hw337_0)).trans hw337_0),((HB.out.cell (World.block_lt_of_cell? w _ hw337_1)).trans hw337_1),((HB.out.cell (World.block_lt_of_cell? w _ hw338_0)).trans hw338_0),((HB.out.cell (World.block_lt_of_cell? w _ hw338_1)).trans hw338_1)⟩ (fun hHeld=>?_)
         clear hK K
         refine norm_ (a':=?_) ?_ ?_
         rotate_left
         ·show Act.put _ (some 39) _=_
          simp only [Act.put,List.setIfInBounds_toArray,List.set_cons_zero,List.set_cons_succ,i64_w,i32_w]
          rfl
         refine pure_ (i:=23) (N:=some 40) (v:=?_) (a':=?_) #[true,true,true,true,true,true,true,true,true,true,true,true,true,true,true,true,true,true,true,true,true,true,true,true,false] rfl rfl (any_of HT_.out (by kernel_rfl)) (fun _ _ _ h=>h) (Or.inl ⟨by rfl,?_⟩) ?_ ?_
         rotate_left
         ·intro w'
          go_simp
          with_reducible rfl
         rotate_left
         ·simp only [Act.put,List.setIfInBounds_toArray,List.set_cons_zero,List.set_cons_succ,i64_w,i32_w]
          rfl
         refine pure_ (i:=24) (N:=some 41) (v:=?_) (a':=?_) #[true,true,true,true,true,true,true,true,true,true,true,true,true,true,true,true,true,true,true,true,true,true,true,true,true] rfl rfl (any_of HT_.out (by kernel_rfl)) (fun _ _ _ h=>h) (Or.inl ⟨by rfl,?_⟩) ?_ ?_
         rotate_left
         ·intro w'
          go_simp
          with_reducible rfl
         rotate_left
         ·simp only [Act.put,List.setIfInBounds_toArray,List.set_cons_zero,List.set_cons_succ,i64_w,i32_w]
          rfl
         refine done_ (done_of HT_.out (by kernel_rfl)) ?_
         try go_wp2
         go_ret
         exact ⟨by first|rfl|(simp [errW_none,errW_some] <;> rfl)|(simp [*,errW_none,errW_some] <;> rfl),by repeat (first|(with_reducible first|exact HB.out|apply bA_|apply bN_|apply bD_)|exact HB.out)⟩
       ·rw [if_neg c7] at H
        have c7b0:(((rd_T51 l0 x5_1).f0).toList == ((rd_T51 l1 x5_1).f0).toList)=false:=beq_eq_false_iff_ne.mpr c7
        have c7b1:(((rd_T51 l0 x5_1).f0).toList != ((rd_T51 l1 x5_1).f0).toList)=true:=bne_iff_ne.mpr c7
        obtain rfl:=Option.some.inj H
        try go_wp2
        have n0_:=Aside0.mk (bD_ HB.out)
        clear HB
        have HB:=n0_
        clear n0_
        have p335:0≤(x5_1:Int):=of_decide_eq_true (by first|(with_reducible assumption)|assumption)
        have q335:x5_1 < (l0.length:Int):=of_decide_eq_true (by first|(with_reducible assumption)|assumption)
        obtain ⟨ad335,A335_1,c335_1,e335,hx335_0,hx335_1,hl335_1,hi335_1⟩:=at_T51 HR0.out x5_1 p335 q335
        have hw335_1:=hx335_1
        have hw335_0:=hx335_0
        cases e335
        replace hx335_0:=(HB.out.cell (World.block_lt_of_cell? w _ hx335_0)).trans hx335_0
        replace hx335_1:=(HB.out.cell (World.block_lt_of_cell? w _ hx335_1)).trans hx335_1
        have HR335_1:=Aside0.mk hi335_1
        have HC335_1:=Aside0.mk hl335_1
        clear hi335_1 hl335_1
        replace p335:=eq_true p335
        replace q335:=eq_true q335
        have p336:0≤(x5_1:Int):=of_decide_eq_true (by first|(with_reducible assumption)|assumption)
        have q336:x5_1 < (l1.length:Int):=of_decide_eq_true (by first|(with_reducible assumption)|assumption)
        obtain ⟨ad336,A336_1,c336_1,e336,hx336_0,hx336_1,hl336_1,hi336_1⟩:=at_T51 HR1.out x5_1 p336 q336
        have hw336_1:=hx336_1
        have hw336_0:=hx336_0
        cases e336
        replace hx336_0:=(HB.out.cell (World.block_lt_of_cell? w _ hx336_0)).trans hx336_0
        replace hx336_1:=(HB.out.cell (World.block_lt_of_cell? w _ hx336_1)).trans hx336_1
        have HR336_1:=Aside0.mk hi336_1
        have HC336_1:=Aside0.mk hl336_1
        clear hi336_1 hl336_1
        replace p336:=eq_true p336
        replace q336:=eq_true q336
        refine start_ (n:=25) (S:=fun w'=>w'.cell? (ad335.add ((x5_1).toNat * 2))=some (.string ((rd_T51 l0 x5_1).f0))∧w'.cell? ⟨(ad335.add ((x5_1).toNat * 2)).block,(ad335.add ((x5_1).toNat * 2)).off+1,none⟩=some (.slice A335_1 ((rd_T51 l0 x5_1).f1).length c335_1)∧w'.cell? (ad336.add ((x5_1).toNat * 2))=some (.string ((rd_T51 l1 x5_1).f0))∧w'.cell? ⟨(ad336.add ((x5_1).toNat * 2)).block,(ad336.add ((x5_1).toNat * 2)).off+1,none⟩=some (.slice A336_1 ((rd_T51 l1 x5_1).f1).length c336_1)) (ds:=[]) #[false,false,false,false,false,false,false,false,false,false,false,false,false,false,false,false,false,false,false,false,false,false,false,false,false] (by kernel_rfl) rfl rfl ⟨((HB.out.cell (World.block_lt_of_cell? w _ hw335_0)).trans hw335_0),((HB.out.cell (World.block_lt_of_cell? w _ hw335_1)).trans hw335_1),((HB.out.cell (World.block_lt_of_cell? w _ hw336_0)).trans hw336_0),((HB.out.cell (World.block_lt_of_cell? w _ hw336_1)).trans hw336_1)⟩ (fun hHeld=>?_);refine with_tabW cadenceref2_Same.tab6 cadenceref2_Same.bits6 (fun HT_ HW_=>?_)
        generalize wr.drew=w14 at HB HR335_1 HR336_1 hx335_0 hx335_1 hx336_0 hx336_1 hHeld ⊢
        refine pure_ (i:=0) (N:=some 17) (v:=?_) (a':=?_) #[true,false,false,false,false,false,false,false,false,false,false,false,false,false,false,false,false,false,false,false,false,false,false,false,false] rfl rfl (any_of HT_.out (by kernel_rfl)) (fun _ _ _ h=>h) (Or.inl ⟨by rfl,?_⟩) ?_ ?_
        rotate_left
        ·intro w'
         go_simp
         with_reducible rfl
        rotate_left
        ·simp only [Act.put,List.setIfInBounds_toArray,List.set_cons_zero,List.set_cons_succ,i64_w,i32_w]
         rfl
        refine pure_ (i:=1) (N:=some 18) (v:=?_) (a':=?_) #[true,true,false,false,false,false,false,false,false,false,false,false,false,false,false,false,false,false,false,false,false,false,false,false,false] rfl rfl (any_of HT_.out (by kernel_rfl)) (fun _ _ _ h=>h) (Or.inl ⟨by rfl,?_⟩) ?_ ?_
        rotate_left
        ·intro w'
         go_simp
         with_reducible rfl
        rotate_left
        ·simp only [Act.put,List.setIfInBounds_toArray,List.set_cons_zero,List.set_cons_succ,i64_w,i32_w]
         rfl
        refine pure_ (i:=2) (N:=some 19) (v:=?_) (a':=?_) #[true,true,true,false,false,false,false,false,false,false,false,false,false,false,false,false,false,false,false,false,false,false,false,false,false] rfl rfl (any_of HT_.out (by kernel_rfl)) (fun _ _ _ h=>h) (Or.inl ⟨by rfl,?_⟩) ?_ ?_
        rotate_left
        ·intro w'
         go_simp
         with_reducible rfl
        rotate_left
        ·simp only [Act.put,List.setIfInBounds_toArray,List.set_cons_zero,List.set_cons_succ,i64_w,i32_w]
         rfl
        refine pure_ (i:=3) (N:=some 20) (v:=?_) (a':=?_) #[true,true,true,true,false,false,false,false,false,false,false,false,false,false,false,false,false,false,false,false,false,false,false,false,false] rfl rfl (any_of HT_.out (by kernel_rfl)) (fun _ _ _ h=>h) (Or.inl ⟨by rfl,?_⟩) ?_ ?_
        rotate_left
        ·intro w'
         go_simp
         with_reducible rfl
        rotate_left
        ·simp only [Act.put,List.setIfInBounds_toArray,List.set_cons_zero,List.set_cons_succ,i64_w,i32_w]
         rfl
        refine pure_ (i:=5) (N:=some 22) (v:=?_) (a':=?_) #[true,true,true,true,false,true,false,false,false,false,false,false,false,false,false,false,false,false,false,false,false,false,false,false,false] rfl rfl (any_of HT_.out (by kernel_rfl)) (fun _ _ _ h=>h) (Or.inl ⟨by rfl,?_⟩) ?_ ?_
        rotate_left
        ·intro w'
         go_simp
         with_reducible rfl
        rotate_left
        ·simp only [Act.put,List.setIfInBounds_toArray,List.set_cons_zero,List.set_cons_succ,i64_w,i32_w]
         rfl
        refine pure_ (i:=6) (N:=some 23) (v:=?_) (a':=?_) #[true,true,true,true,false,true,true,false,false,false,false,false,false,false,false,false,false,false,false,false,false,false,false,false,false] rfl rfl (any_of HT_.out (by kernel_rfl)) (fun _ _ _ h=>h) (Or.inl ⟨by rfl,?_⟩) ?_ ?_
        rotate_left
        ·intro w'
         go_simp
         with_reducible rfl
        rotate_left
        ·simp only [Act.put,List.setIfInBounds_toArray,List.set_cons_zero,List.set_cons_succ,i64_w,i32_w]
         rfl
        refine pure_ (i:=7) (N:=some 24) (v:=?_) (a':=?_) #[true,true,true,true,false,true,true,true,false,false,false,false,false,false,false,false,false,false,false,false,false,false,false,false,false] rfl rfl (any_of HT_.out (by kernel_rfl)) (fun _ _ _ h=>h) (Or.inl ⟨by rfl,?_⟩) ?_ ?_
        rotate_left
        ·intro w'
         go_simp
         with_reducible rfl
        rotate_left
        ·simp only [Act.put,List.setIfInBounds_toArray,List.set_cons_zero,List.set_cons_succ,i64_w,i32_w]
         rfl
        refine pure_ (i:=8) (N:=some 25) (v:=?_) (a':=?_) #[true,true,true,true,false,true,true,true,true,false,false,false,false,false,false,false,false,false,false,false,false,false,false,false,false] rfl rfl (any_of HT_.out (by kernel_rfl)) (fun _ _ _ h=>h) (Or.inl ⟨by rfl,?_⟩) ?_ ?_
        rotate_left
        ·intro w'
         go_simp
         with_reducible rfl
        rotate_left
        ·simp only [Act.put,List.setIfInBounds_toArray,List.set_cons_zero,List.set_cons_succ,i64_w,i32_w]
         rfl
        refine take_ (i:=4) (N:=some 21) (v:=?_) (a':=?_) #[true,true,true,true,true,true,true,true,true,false,false,false,false,false,false,false,false,false,false,false,false,false,false,false,false] rfl rfl (take_ofW HT_.out HW_.out (by kernel_rfl)) (fun _ _ _ h=>h) (Or.inl ⟨by rfl,?_⟩) hHeld ?_ ?_
        rotate_left
        ·rintro w' ⟨s0,s1,s2,s3⟩
         go_simp
         with_reducible rfl
        rotate_left
        ·simp only [Act.put,List.setIfInBounds_toArray,List.set_cons_zero,List.set_cons_succ,i64_w,i32_w]
         rfl
        refine take_ (i:=9) (N:=some 26) (v:=?_) (a':=?_) #[true,true,true,true,true,true,true,true,true,true,false,false,false,false,false,false,false,false,false,false,false,false,false,false,false] rfl rfl (take_ofW HT_.out HW_.out (by kernel_rfl)) (fun _ _ _ h=>h) (Or.inl ⟨by rfl,?_⟩) hHeld ?_ ?_
        rotate_left
        ·rintro w' ⟨s0,s1,s2,s3⟩
         go_simp
         with_reducible rfl
        rotate_left
        ·simp only [Act.put,List.setIfInBounds_toArray,List.set_cons_zero,List.set_cons_succ,i64_w,i32_w]
         rfl
        refine pure_ (i:=10) (N:=some 27) (v:=?_) (a':=?_) #[true,true,true,true,true,true,true,true,true,true,true,false,false,false,false,false,false,false,false,false,false,false,false,false,false] rfl rfl (any_of HT_.out (by kernel_rfl)) (fun _ _ _ h=>h) (Or.inl ⟨by rfl,?_⟩) ?_ ?_
        rotate_left
        ·intro w'
         go_simp
         with_reducible rfl
        rotate_left
        ·simp only [Act.put,List.setIfInBounds_toArray,List.set_cons_zero,List.set_cons_succ,i64_w,i32_w]
         rfl
        refine pure_ (i:=11) (N:=some 28) (v:=?_) (a':=?_) #[true,true,true,true,true,true,true,true,true,true,true,true,false,false,false,false,false,false,false,false,false,false,false,false,false] rfl rfl (any_of HT_.out (by kernel_rfl)) (fun _ _ _ h=>h) (Or.inl ⟨by rfl,?_⟩) ?_ ?_
        rotate_left
        ·intro w'
         go_simp
         with_reducible rfl
        rotate_left
        ·simp only [Act.put,List.setIfInBounds_toArray,List.set_cons_zero,List.set_cons_succ,i64_w,i32_w]
         rfl
        refine pure_ (i:=12) (N:=some 29) (v:=undef) (a':=?_) #[true,true,true,true,true,true,true,true,true,true,true,true,true,false,false,false,false,false,false,false,false,false,false,false,false] rfl rfl (any_of HT_.out (by kernel_rfl)) (fun _ _ _ h=>h) (Or.inr ⟨by rfl,rfl⟩) ?_ ?_
        rotate_left
        ·simp only [Act.put,List.setIfInBounds_toArray,List.set_cons_zero,List.set_cons_succ,i64_w,i32_w]
         rfl
        refine pure_ (i:=13) (N:=some 30) (v:=undef) (a':=?_) #[true,true,true,true,true,true,true,true,true,true,true,true,true,true,false,false,false,false,false,false,false,false,false,false,false] rfl rfl (any_of HT_.out (by kernel_rfl)) (fun _ _ _ h=>h) (Or.inr ⟨by rfl,rfl⟩) ?_ ?_
        rotate_left
        ·simp only [Act.put,List.setIfInBounds_toArray,List.set_cons_zero,List.set_cons_succ,i64_w,i32_w]
         rfl
        refine pure_ (i:=14) (N:=some 31) (v:=undef) (a':=?_) #[true,true,true,true,true,true,true,true,true,true,true,true,true,true,true,false,false,false,false,false,false,false,false,false,false] rfl rfl (any_of HT_.out (by kernel_rfl)) (fun _ _ _ h=>h) (Or.inr ⟨by rfl,rfl⟩) ?_ ?_
        rotate_left
        ·simp only [Act.put,List.setIfInBounds_toArray,List.set_cons_zero,List.set_cons_succ,i64_w,i32_w]
         rfl
        refine pure_ (i:=15) (N:=some 32) (v:=undef) (a':=?_) #[true,true,true,true,true,true,true,true,true,true,true,true,true,true,true,true,false,false,false,false,false,false,false,false,false] rfl rfl (any_of HT_.out (by kernel_rfl)) (fun _ _ _ h=>h) (Or.inr ⟨by rfl,rfl⟩) ?_ ?_
        rotate_left
        ·simp only [Act.put,List.setIfInBounds_toArray,List.set_cons_zero,List.set_cons_succ,i64_w,i32_w]
         rfl
        refine pure_ (i:=16) (N:=some 33) (v:=undef) (a':=?_) #[true,true,true,true,true,true,true,true,true,true,true,true,true,true,true,true,true,false,false,false,false,false,false,false,false] rfl rfl (any_of HT_.out (by kernel_rfl)) (fun _ _ _ h=>h) (Or.inr ⟨by rfl,rfl⟩) ?_ ?_
        rotate_left
        ·simp only [Act.put,List.setIfInBounds_toArray,List.set_cons_zero,List.set_cons_succ,i64_w,i32_w]
         rfl
        refine pure_ (i:=17) (N:=some 34) (v:=undef) (a':=?_) #[true,true,true,true,true,true,true,true,true,true,true,true,true,true,true,true,true,true,false,false,false,false,false,false,false] rfl rfl (any_of HT_.out (by kernel_rfl)) (fun _ _ _ h=>h) (Or.inr ⟨by rfl,rfl⟩) ?_ ?_
        rotate_left
        ·simp only [Act.put,List.setIfInBounds_toArray,List.set_cons_zero,List.set_cons_succ,i64_w,i32_w]
         rfl
        refine pure_ (i:=18) (N:=some 35) (v:=undef) (a':=?_) #[true,true,true,true,true,true,true,true,true,true,true,true,true,true,true,true,true,true,true,false,false,false,false,false,false] rfl rfl (any_of HT_.out (by kernel_rfl)) (fun _ _ _ h=>h) (Or.inr ⟨by rfl,rfl⟩) ?_ ?_
        rotate_left
        ·simp only [Act.put,List.setIfInBounds_toArray,List.set_cons_zero,List.set_cons_succ,i64_w,i32_w]
         rfl
        refine pure_ (i:=19) (N:=some 36) (v:=undef) (a':=?_) #[true,true,true,true,true,true,true,true,true,true,true,true,true,true,true,true,true,true,true,true,false,false,false,false,false] rfl rfl (any_of HT_.out (by kernel_rfl)) (fun _ _ _ h=>h) (Or.inr ⟨by rfl,rfl⟩) ?_ ?_
        rotate_left
        ·simp only [Act.put,List.setIfInBounds_toArray,List.set_cons_zero,List.set_cons_succ,i64_w,i32_w]
         rfl
        refine pure_ (i:=20) (N:=some 37) (v:=undef) (a':=?_) #[true,true,true,true,true,true,true,true,true,true,true,true,true,true,true,true,true,true,true,true,true,false,false,false,false] rfl rfl (any_of HT_.out (by kernel_rfl)) (fun _ _ _ h=>h) (Or.inr ⟨by rfl,rfl⟩) ?_ ?_
        rotate_left
        ·simp only [Act.put,List.setIfInBounds_toArray,List.set_cons_zero,List.set_cons_succ,i64_w,i32_w]
         rfl
        refine pure_ (i:=21) (N:=some 38) (v:=undef) (a':=?_) #[true,true,true,true,true,true,true,true,true,true,true,true,true,true,true,true,true,true,true,true,true,true,false,false,false] rfl rfl (any_of HT_.out (by kernel_rfl)) (fun _ _ _ h=>h) (Or.inr ⟨by rfl,rfl⟩) ?_ ?_
        rotate_left
        ·simp only [Act.put,List.setIfInBounds_toArray,List.set_cons_zero,List.set_cons_succ,i64_w,i32_w]
         rfl
        refine pure_ (i:=22) (N:=some 39) (v:=undef) (a':=?_) #[true,true,true,true,true,true,true,true,true,true,true,true,true,true,true,true,true,true,true,true,true,true,true,false,false] rfl rfl (any_of HT_.out (by kernel_rfl)) (fun _ _ _ h=>h) (Or.inr ⟨by rfl,rfl⟩) ?_ ?_
        rotate_left
        ·simp only [Act.put,List.setIfInBounds_toArray,List.set_cons_zero,List.set_cons_succ,i64_w,i32_w]
         rfl
        refine pure_ (i:=23) (N:=some 40) (v:=undef) (a':=?_) #[true,true,true,true,true,true,true,true,true,true,true,true,true,true,true,true,true,true,true,true,true,true,true,true,false] rfl rfl (any_of HT_.out (by kernel_rfl)) (fun _ _ _ h=>h) (Or.inr ⟨by rfl,rfl⟩) ?_ ?_
        rotate_left
        ·simp only [Act.put,List.setIfInBounds_toArray,List.set_cons_zero,List.set_cons_succ,i64_w,i32_w]
         rfl
        refine pure_ (i:=24) (N:=some 41) (v:=?_) (a':=?_) #[true,true,true,true,true,true,true,true,true,true,true,true,true,true,true,true,true,true,true,true,true,true,true,true,true] rfl rfl (any_of HT_.out (by kernel_rfl)) (fun _ _ _ h=>h) (Or.inl ⟨by rfl,?_⟩) ?_ ?_
        rotate_left
        ·intro w'
         go_simp
         with_reducible rfl
        rotate_left
        ·simp only [Act.put,List.setIfInBounds_toArray,List.set_cons_zero,List.set_cons_succ,i64_w,i32_w]
         rfl
        refine done_ (done_of HT_.out (by kernel_rfl)) ?_
        try go_wp2
        go_ret
        exact ⟨by first|rfl|(simp [errW_none,errW_some] <;> rfl)|(simp [*,errW_none,errW_some] <;> rfl),by repeat (first|(with_reducible first|exact HB.out|apply bA_|apply bN_|apply bD_)|exact HB.out)⟩
      ·rw [if_neg c6] at H
       exact absurd H (by simp)
     ·rw [if_neg c5] at H
      exact absurd H (by simp)
    ·rw [if_neg c4] at H
     have c4b0:decide (x5_1 < (l0.length:Int))=false:=decide_eq_false c4
     clear c4
     obtain rfl:=Option.some.inj H
     go_wp2
     go_ret
     exact ⟨by first|rfl|(simp [errW_none,errW_some] <;> rfl)|(simp [*,errW_none,errW_some] <;> rfl),by repeat (first|(with_reducible first|exact HB.out|apply bA_|apply bN_|apply bD_)|exact HB.out)⟩
 ·rw [if_neg c3] at H
  have c3b0:((l0.length:Int) == (l1.length:Int))=false:=beq_eq_false_iff_ne.mpr c3
  have c3b1:((l0.length:Int) != (l1.length:Int))=true:=bne_iff_ne.mpr c3
  have c3b2:(l0.length == l1.length)=false:=by first|simpa using c3|(simp at c3 ⊢;omega)
  obtain rfl:=Option.some.inj H
  go_enter Try.func19,Try.ntmps19
  go_wp2
  go_ret
  exact ⟨by first|rfl|(simp [errW_none,errW_some] <;> rfl)|(simp [*,errW_none,errW_some] <;> rfl),by repeat (first|(with_reducible first|exact HB.out|apply bA_|apply bN_|apply bD_)|exact HB.out)⟩
end Go.Proofs.Ytainbaehfdhmbaa.PX
set_option linter.unusedVariables false
namespace Go.Proofs.Ytainbaehfdhmbaa.PX
open Go.RowKit Go.Proofs.YtainbaehfdhmbaaW.PrintWords Go.Proofs.YtainbaehfdhmbaaW.PrintLast Go.Proofs.YtainbaehfdhmbaaW.PrintMore Go.Proofs.Ytainbaehfdhmbaa
end Go.Proofs.Ytainbaehfdhmbaa.PX
namespace Go.Proofs.Ytainbaehfdhmbaa.PX
open Go.RowKit Go.Proofs.YtainbaehfdhmbaaW.PrintWords Go.Proofs.YtainbaehfdhmbaaW.PrintLast Go.Proofs.YtainbaehfdhmbaaW.PrintMore
attribute [local go_sem] max2_int min2_int max_two min_two max_three min_three max_four min_four   
set_option linter.unusedVariables false
set_option linter.unusedSimpArgs false
def cadenceref2_Kid.f (k:Nat) (l0:List (S51)) (a1:ByteArray):Option ((List (S51)) × Bool):=(cadenceref2_At.f k l0 a1).bind fun bt221=>(if bt221.2=true then (if 0≤bt221.1 then (if bt221.1 < (l0.length:Int) then (some ((rd_T51 l0 bt221.1).f1,true)) else (none)) else (none)) else (some (([]:List (S51)),false)))
theorem cadenceref2_Kid.mono:∀ a0 a1 k,LeO (cadenceref2_Kid.f k a0 a1) (cadenceref2_Kid.f (k+1) a0 a1):=by
 intro a0 a1 k
 unfold cadenceref2_Kid.f
 repeat' first
   | (with_reducible exact cadenceref2_At.mono _ _ _)
   | (with_reducible exact LeO.refl _)
   | (with_reducible exact LeO.none _)
   | (with_reducible refine LeO.ite ?_ ?_)
   | (with_reducible refine LeO.bind ?_ (fun _=>?_))
   | exact cadenceref2_At.mono _ _ _
   | exact LeO.none _
   | refine LeO.ite ?_ ?_
   | refine LeO.bind ?_ (fun _=>?_)
set_option maxHeartbeats 8000000 in
set_option maxRecDepth 100000 in
theorem cadenceref2_Kid.calls (k:Nat) (P0_:Nat→Prop) (A0:Option Addr) (c0:Nat) (l0:List (S51)) (a1:ByteArray) (r1:List (S51)) (r2:Bool) (w:World) (hs0:Kd.V k51 51 w w.heap.size (fun k_=>P0_ k_) (.slice A0 l0.length c0) l0) (h:cadenceref2_Kid.f k l0 a1=some (r1,r2)) :
  Calls Try.prog 23 #[.slice A0 l0.length c0,.string a1] w fun e w'=>∃ v0_:Value,e=.returned (.tuple #[v0_,.bool r2])∧Kd.V k51 51 w' w.heap.size (fun k_=>(P0_ k_∨w.heap.size≤k_)) v0_ r1∧Below w.heap.size w w':=by
 have HO0:=Aside0.mk (show Kd.V k51 51 w w.heap.size (fun k_=>(P0_ k_∨w.heap.size≤k_)) (.slice A0 l0.length c0) l0 from Kd.V_mono hs0 (fun k_ hk=>.inl hk))
 have HB:=Aside0.mk (Below.refl w.heap.size w)
 have H:((cadenceref2_At.f k l0 a1).bind fun bt221=>(if bt221.2=true then (if 0≤bt221.1 then (if bt221.1 < (l0.length:Int) then (some ((rd_T51 l0 bt221.1).f1,true)) else (none)) else (none)) else (some (([]:List (S51)),false))))=some (r1,r2):=h
 clear h
 replace H:=Option.bind_eq_some_iff.mp H
 obtain ⟨⟨t221,t222⟩,A30,H⟩:=H
 replace H:(if t222=true then (if 0≤t221 then (if t221 < (l0.length:Int) then (some ((rd_T51 l0 t221).f1,true)) else (none)) else (none)) else (some (([]:List (S51)),false)))=some (r1,r2):=H
 have A3:=Aside0.mk A30
 clear A30
 by_cases c4:t222=true
 ·subst c4
  have H1:(if 0≤t221 then (if t221 < (l0.length:Int) then (some ((rd_T51 l0 t221).f1,true)) else (none)) else (none))=some (r1,r2):=by rw [if_pos rfl] at H;exact H
  clear H
  have H:=H1
  clear H1
  by_cases c5:0≤t221
  ·rw [if_pos c5] at H
   have c5b0:decide (0≤t221)=true:=decide_eq_true c5
   clear c5
   by_cases c6:t221 < (l0.length:Int)
   ·rw [if_pos c6] at H
    have c6b0:decide (t221 < (l0.length:Int))=true:=decide_eq_true c6
    clear c6
    simp only [Option.some.injEq,Prod.mk.injEq] at H
    obtain ⟨rfl,rfl⟩:=H
    go_enter Try.func23,Try.ntmps23
    go_wp2_with (first|((with_reducible refine gate_callee (f:=26) rfl ?_);refine goesL_ (some 11) rfl rfl Try.func26 (by kernel_rfl) rfl #[.slice A0 l0.length c0,.string a1] rfl (by (try simp only [List.map_toArray,List.map_cons,List.map_nil]);first|done|rfl|(simp only [List.length_drop,List.length_take];rfl)) ?_;(with_reducible refine (cadenceref2_At.calls k _ _ l0 a1 t221 true _ ?side1 ?side2 A3.out).mono ?_);(case side1=>repeat (first|exact (Kd.V_reads' HO0.out).2.2|(with_reducible refine cA_ ?_ _)|(with_reducible refine cN_ ?_ _)|(with_reducible refine cD_ ?_)));(case side2=>exact (Kd.V_reads' HO0.out).2.1);rintro e w' ⟨rfl,⟨nd,rfl⟩⟩;refine ⟨_,rfl,?_⟩;have p223:0≤(t221:Int):=of_decide_eq_true (by first|(with_reducible assumption)|assumption);have q223:t221 < (l0.length:Int):=of_decide_eq_true (by first|(with_reducible assumption)|assumption);obtain ⟨ad223,A223_1,c223_1,e223,hx223_0,hx223_1,hl223_1,hi223_1⟩:=at_T51 (Kd.V_reads' HO0.out).2.2 t221 p223 q223;cases e223;obtain ⟨ce223,hce223,hMe223,hcc223⟩:=Kd.V_get HO0.out z51 t221 p223 (by first|exact q223|exact of_decide_eq_true (by first|(with_reducible assumption)|assumption)|(have e_:=(Kd.V_reads' HO0.out).1;omega));obtain ⟨ua223_1,uc223_1,rfl,ul223_1,ge223_1⟩:=k51_openF hMe223;have hv223_1:=hcc223 1 _ rfl;rw [add_field _ _ 1 (by omega)] at hv223_1;replace hv223_1:=Option.some.inj (hv223_1.symm.trans hx223_1);injection hv223_1 with hva_ hvn_ hvc_;rw [hva_] at ge223_1;rw [hvc_] at ul223_1;have HL223_1:=Aside0.mk (show Kd.V k51 51 _ w.heap.size _ _ ((rd_T51 l0 t221).f1) from Kd.V_mk ul223_1 ge223_1);clear hva_ hvn_ hvc_ ge223_1 ul223_1;clear hcc223 hce223;have HR223_1:=Aside0.mk hi223_1;have HC223_1:=Aside0.mk hl223_1;clear hi223_1 hl223_1;replace p223:=eq_true p223;replace q223:=eq_true q223))
    go_ret2
    exact ⟨_,by first|rfl|(simp [errW_none,errW_some] <;> rfl)|(simp [*,errW_none,errW_some] <;> rfl),by (with_reducible repeat (first|apply vA_|apply vN_|apply vD_));exact HL223_1.out,by repeat (first|(with_reducible first|exact HB.out|apply bA_|apply bN_|apply bD_)|exact HB.out)⟩
   ·rw [if_neg c6] at H
    exact absurd H (by simp)
  ·rw [if_neg c5] at H
   exact absurd H (by simp)
 ·replace c4:=Bool.eq_false_iff.mpr c4
  subst c4
  have H1:(some (([]:List (S51)),false))=some (r1,r2):=by rw [if_neg (show ¬ (false=true) by decide)] at H;exact H
  clear H
  have H:=H1
  clear H1
  simp only [Option.some.injEq,Prod.mk.injEq] at H
  obtain ⟨rfl,rfl⟩:=H
  go_enter Try.func23,Try.ntmps23
  go_wp2_with (first|((with_reducible refine gate_callee (f:=26) rfl ?_);refine goesL_ (some 11) rfl rfl Try.func26 (by kernel_rfl) rfl #[.slice A0 l0.length c0,.string a1] rfl (by (try simp only [List.map_toArray,List.map_cons,List.map_nil]);first|done|rfl|(simp only [List.length_drop,List.length_take];rfl)) ?_;(with_reducible refine (cadenceref2_At.calls k _ _ l0 a1 t221 false _ ?side1 ?side2 A3.out).mono ?_);(case side1=>repeat (first|exact (Kd.V_reads' HO0.out).2.2|(with_reducible refine cA_ ?_ _)|(with_reducible refine cN_ ?_ _)|(with_reducible refine cD_ ?_)));(case side2=>exact (Kd.V_reads' HO0.out).2.1);rintro e w' ⟨rfl,⟨nd,rfl⟩⟩;refine ⟨_,rfl,?_⟩))
  go_ret2
  exact ⟨_,by first|rfl|(simp [errW_none,errW_some] <;> rfl)|(simp [*,errW_none,errW_some] <;> rfl),Kd.V_mono (Kd.R_V (base:=w.heap.size) (ok:=fun k_=>w.heap.size≤k_) (by first|exact Kd.R_nil _ _ _ _ _|exact Kd.N_nil _ _ _ _ _|exact Kd.V_nil _ _ _ _ _|exact Kd.Q_nil _ _ _ _ _|exact Kd.S_nil _ _ _ _ _)) (fun k_ hk=>by first|exact ⟨(.inr (hk.1)),hk.2⟩|exact (.inr (hk))),by repeat (first|(with_reducible first|exact HB.out|apply bA_|apply bN_|apply bD_)|exact HB.out)⟩
end Go.Proofs.Ytainbaehfdhmbaa.PX
set_option linter.unusedVariables false
namespace Go.Proofs.Ytainbaehfdhmbaa.PX
open Go.RowKit Go.Proofs.YtainbaehfdhmbaaW.PrintWords Go.Proofs.YtainbaehfdhmbaaW.PrintLast Go.Proofs.YtainbaehfdhmbaaW.PrintMore Go.Proofs.Ytainbaehfdhmbaa
theorem kid_ev (t:Tr) (n:ByteArray) (hl:t.length≤1000000000000):Ev (fun k=>cadenceref2_Kid.f k t n) ((kid t n).getD [],(kid t n).isSome):=by
 refine Ev.bind (at_ev t n hl) (Ev.fixed ?_)
 dsimp only
 rw [hasAt_kid]
 cases e:kid t n with
 | none=>rfl
 | some x =>
  obtain ⟨h1,_,h3⟩:=kid_pos t n x e
  rw [Option.isSome_some,if_pos rfl,if_pos (by omega),if_pos (by omega),rdT_nat h1,h3]
  rfl
end Go.Proofs.Ytainbaehfdhmbaa.PX
namespace Go.Proofs.Ytainbaehfdhmbaa.PX
open Go.RowKit Go.Proofs.YtainbaehfdhmbaaW.PrintWords Go.Proofs.YtainbaehfdhmbaaW.PrintLast Go.Proofs.YtainbaehfdhmbaaW.PrintMore
attribute [local go_sem] max2_int min2_int max_two min_two max_three min_three max_four min_four   
set_option linter.unusedVariables false
set_option linter.unusedSimpArgs false
def cadencelaw12_within.f (a0:Int) (a1:Int):Option (Int):=if a1=0 then (none) else (if (Int.tmod a0 a1) < 0 then (some (wrap64 ((Int.tmod a0 a1)+a1))) else (some (Int.tmod a0 a1)))
set_option maxHeartbeats 8000000 in
set_option maxRecDepth 100000 in
theorem cadencelaw12_within.calls (a0:Int) (a1:Int) (r:Int) (w:World) (h:cadencelaw12_within.f a0 a1=some r) :
  Calls Try.prog 15 #[.int .i64 a0,.int .i64 a1] w fun e w'=>e=.returned (.int .i64 r)∧Drawn0 w w':=by
 have H:(if a1=0 then (none) else (if (Int.tmod a0 a1) < 0 then (some (wrap64 ((Int.tmod a0 a1)+a1))) else (some (Int.tmod a0 a1))))=some r:=h
 clear h
 by_cases c3:a1=0
 ·rw [if_pos c3] at H
  exact absurd H (by simp)
 ·rw [if_neg c3] at H
  have c3b0:(a1 == 0)=false:=beq_eq_false_iff_ne.mpr c3
  have c3b1:(a1 != 0)=true:=bne_iff_ne.mpr c3
  by_cases c4:(Int.tmod a0 a1) < 0
  ·rw [if_pos c4] at H
   have c4b0:decide ((Int.tmod a0 a1) < 0)=true:=decide_eq_true c4
   clear c4
   obtain rfl:=Option.some.inj H
   go_enter Try.func15,Try.ntmps15
   go_wp2
   go_ret
   exact ⟨by first|rfl|(simp;done)|(simp [*];done),by repeat (first|exact Drawn0.refl _|apply Drawn0.step)⟩
  ·rw [if_neg c4] at H
   have c4b0:decide ((Int.tmod a0 a1) < 0)=false:=decide_eq_false c4
   clear c4
   obtain rfl:=Option.some.inj H
   go_enter Try.func15,Try.ntmps15
   go_wp2
   go_ret
   exact ⟨by first|rfl|(simp;done)|(simp [*];done),by repeat (first|exact Drawn0.refl _|apply Drawn0.step)⟩
end Go.Proofs.Ytainbaehfdhmbaa.PX
