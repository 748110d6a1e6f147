/- Texts on the way to 'SchemaChecks', one behind the other (part 4). -/
import Derived.Test.YtoihiehoolehiaaMSchemaChecks1
import Derived.Test.YtoihiehoolehiaaMSchemaChecks3
import Derived.Shelf.Abstract
namespace Go.Proofs.Ytoihiehoolehiaa.PX
open Go.RowKit Go.Proofs.YtoihiehoolehiaaW.PrintWords Go.Proofs.YtoihiehoolehiaaW.PrintLast Go.Proofs.YtoihiehoolehiaaW.PrintMore
attribute [local go_sem] max2_int min2_int max_two min_two max_three min_three max_four min_four   
set_option linter.unusedVariables false
set_option linter.unusedSimpArgs false
attribute [local go_sem] run_field_87_0
def slices_BinarySearch_string_string.l0:Nat→List ByteArray→ByteArray→Int→Int→Int→Option (Int × Bool)
 | 0,_,_,_,_,_=>none
 | k+1,x0,x1,x6,x7,x8=>if x7 < x8 then (if 0≤(wrap64 ((IntKind.u64.wrap (wrap64 (x7+x8))) / 2)) then (if (wrap64 ((IntKind.u64.wrap (wrap64 (x7+x8))) / 2)) < (x0.length:Int) then ((cmp_Less_string.f (rdOf ByteArray.empty x0 (wrap64 ((IntKind.u64.wrap (wrap64 (x7+x8))) / 2))) x1).bind fun t349=>(if t349=true then (slices_BinarySearch_string_string.l0 k x0 x1 x6 (wrap64 ((wrap64 ((IntKind.u64.wrap (wrap64 (x7+x8))) / 2))+1)) x8) else (slices_BinarySearch_string_string.l0 k x0 x1 x6 x7 (wrap64 ((IntKind.u64.wrap (wrap64 (x7+x8))) / 2))))) else (none)) else (none)) else (if x7 < x6 then (if 0≤x7 then (if x7 < (x0.length:Int) then (if (rdOf ByteArray.empty x0 x7).toList=x1.toList then (some (x7,true)) else ((slices_isNaN_string.f (rdOf ByteArray.empty x0 x7)).bind fun t352=>(if t352=true then ((slices_isNaN_string.f x1).bind fun t353=>(some (x7,t353))) else (some (x7,false))))) else (none)) else (none)) else (some (x7,false)))
def slices_BinarySearch_string_string.f (k:Nat) (l0:List ByteArray) (a1:ByteArray):Option (Int × Bool):=slices_BinarySearch_string_string.l0 k l0 a1 (l0.length:Int) 0 (l0.length:Int)
theorem slices_BinarySearch_string_string.mono_l:∀ k,(∀ y0 y1 y2 y3 y4,LeO (slices_BinarySearch_string_string.l0 k y0 y1 y2 y3 y4) (slices_BinarySearch_string_string.l0 (k+1) y0 y1 y2 y3 y4))
 | 0=>fun _ _ _ _ _ r h=>by simp [slices_BinarySearch_string_string.l0] at h
 | k+1=>by
  have ih0:=slices_BinarySearch_string_string.mono_l k
  ·intro y0 y1 y2 y3 y4
   unfold slices_BinarySearch_string_string.l0
   repeat' first
   | (with_reducible exact ih0 _ _ _ _ _)
   | (with_reducible exact LeO.refl _)
   | (with_reducible exact LeO.none _)
   | (with_reducible refine LeO.ite ?_ ?_)
   | (with_reducible refine LeO.bind ?_ (fun _=>?_))
   | exact ih0 _ _ _ _ _
   | exact LeO.none _
   | refine LeO.ite ?_ ?_
   | refine LeO.bind ?_ (fun _=>?_)
theorem slices_BinarySearch_string_string.mono:∀ a0 a1 k,LeO (slices_BinarySearch_string_string.f k a0 a1) (slices_BinarySearch_string_string.f (k+1) a0 a1):=by
 intro a0 a1 k
 have ih0:=slices_BinarySearch_string_string.mono_l k
 unfold slices_BinarySearch_string_string.f
 repeat' first
   | (with_reducible exact ih0 _ _ _ _ _)
   | (with_reducible exact LeO.refl _)
   | (with_reducible exact LeO.none _)
   | (with_reducible refine LeO.ite ?_ ?_)
   | (with_reducible refine LeO.bind ?_ (fun _=>?_))
   | exact ih0 _ _ _ _ _
   | exact LeO.none _
   | refine LeO.ite ?_ ?_
   | refine LeO.bind ?_ (fun _=>?_)
set_option maxHeartbeats 8000000 in
set_option maxRecDepth 100000 in
theorem slices_BinarySearch_string_string.calls (k:Nat) (A0:Option Addr) (c0:Nat) (l0:List ByteArray) (a1:ByteArray) (r1:Int) (r2:Bool) (w:World) (hr0:Kd.C Kd.string w A0 l0.length l0) (hc0:l0.length≤c0) (h:slices_BinarySearch_string_string.f k l0 a1=some (r1,r2)) :
  Calls Try.prog 69 #[.slice A0 l0.length c0,.string a1] w fun e w'=>e=.returned (.tuple #[.int .i64 r1,.bool r2])∧Drawn0 w w':=by
 have HR0:=Az.mk hr0
 have HC0:=Az.mk hc0
 clear hr0 hc0
 have H:(slices_BinarySearch_string_string.l0 k l0 a1 (l0.length:Int) 0 (l0.length:Int))=some (r1,r2):=h
 clear h
 have H':=Az.mk H
 clear H
 go_enter Try.func69,Try.ntmps69
 go_wp2
 go_loopg [7,8] k (fun kq v7 v8 w'=>∃ (x7_1:Int) (x8_1:Int),v7=.int .i64 x7_1∧v8=.int .i64 x8_1∧Az (slices_BinarySearch_string_string.l0 kq l0 a1 (l0.length:Int) x7_1 x8_1=some (r1,r2))∧Az (kq≤k)∧Drawn0 w w')
 case atStart=>exact ⟨(0),((l0.length:Int)),(by first|rfl|(simp;done)|(simp [*];done)),(by first|rfl|(simp;done)|(simp [*];done)),H',⟨Nat.le_refl _⟩,by repeat (first|exact Drawn0.refl _|apply Drawn0.step)⟩
 case round =>
  clear H'
  try clear p2
  obtain ⟨x7_1,x8_1,rfl,rfl,HA,HK1,⟨m1,rfl⟩⟩:=hrel
  cases gk with
  | zero=>exact absurd HA.out (by simp [slices_BinarySearch_string_string.l0])
  | succ k1 =>
   have H:=HA.out
   clear HA
   simp only [slices_BinarySearch_string_string.l0] at H
   by_cases c3:x7_1 < x8_1
   ·rw [if_pos c3] at H
    have c3b0:decide (x7_1 < x8_1)=true:=decide_eq_true c3
    clear c3
    obtain ⟨ji4,hji4⟩:∃ j_:Int,(wrap64 ((IntKind.u64.wrap (wrap64 (x7_1+x8_1))) / 2))=j_:=⟨_,rfl⟩
    replace H:(if 0≤(ji4) then (if (ji4) < (l0.length:Int) then ((cmp_Less_string.f (rdOf ByteArray.empty l0 (ji4)) a1).bind fun t349=>(if t349=true then (slices_BinarySearch_string_string.l0 k1 l0 a1 (l0.length:Int) (wrap64 ((ji4)+1)) x8_1) else (slices_BinarySearch_string_string.l0 k1 l0 a1 (l0.length:Int) x7_1 ji4))) else (none)) else (none))=some (r1,r2):=by first|(rw [hji4] at H;exact H)|(simp only [hji4] at H ⊢;exact H)
    have hji4w:(IntKind.i64.wrap ((IntKind.u64.wrap (wrap64 (x7_1+x8_1))) / 2))=ji4:=(i64_w _).trans hji4
    by_cases c5:0≤(ji4)
    ·rw [if_pos c5] at H
     have c5b0:decide (0≤(ji4))=true:=decide_eq_true c5
     clear c5
     by_cases c6:(ji4) < (l0.length:Int)
     ·rw [if_pos c6] at H
      have c6b0:decide ((ji4) < (l0.length:Int))=true:=decide_eq_true c6
      clear c6
      replace H:=Option.bind_eq_some_iff.mp H
      obtain ⟨t349,A70,H⟩:=H
      replace H:(if t349=true then (slices_BinarySearch_string_string.l0 k1 l0 a1 (l0.length:Int) (wrap64 ((ji4)+1)) x8_1) else (slices_BinarySearch_string_string.l0 k1 l0 a1 (l0.length:Int) x7_1 ji4))=some (r1,r2):=H
      have A7:=Az.mk A70
      clear A70
      by_cases c8:t349=true
      ·subst c8
       have H1:(slices_BinarySearch_string_string.l0 k1 l0 a1 (l0.length:Int) (wrap64 ((ji4)+1)) x8_1)=some (r1,r2):=by rw [if_pos rfl] at H;exact H
       clear H
       have H:=H1
       clear H1
       have H':=Az.mk H
       clear H
       have p348:0≤((ji4):Int):=of_decide_eq_true (by first|(with_reducible assumption)|assumption)
       have q348:(ji4) < (l0.length:Int):=of_decide_eq_true (by first|(with_reducible assumption)|assumption)
       obtain ⟨ad348,e348,hx348_0⟩:=Kd.at_string HR0.out (ji4) p348 q348
       cases e348
       replace p348:=eq_true p348
       replace q348:=eq_true q348
       go_wp2_with (first|((with_reducible refine gate_callee (f:=72) rfl ?_);refine goesL_ (some 27) rfl rfl Try.func72 (by kernel_rfl) rfl #[.string (rdOf ByteArray.empty l0 (ji4)),.string a1] rfl (by (try simp only [List.map_toArray,List.map_cons,List.map_nil]);first|done|(simp only [hji4];rfl)|rfl|(simp only [List.length_drop,List.length_take];rfl)) ?_;(with_reducible refine (cmp_Less_string.calls (rdOf ByteArray.empty l0 (ji4)) a1 true _ A7.out).mono ?_);rintro e w' ⟨rfl,⟨nd,rfl⟩⟩;refine ⟨_,rfl,?_⟩))
       go_roundg k1
       case measure=>have:=HK1.out;omega
       case rel=>exact ⟨(wrap64 ((ji4)+1)),(x8_1),(by first|rfl|(simp;done)|(simp only [← hji4] <;> (first|rfl|simp))|(simp [*];done)),(by first|rfl|(simp;done)|(simp [*];done)),H',⟨by have:=HK1.out;omega⟩,by repeat (first|exact Drawn0.refl _|apply Drawn0.step)⟩
      ·replace c8:=Bool.eq_false_iff.mpr c8
       subst c8
       have H1:(slices_BinarySearch_string_string.l0 k1 l0 a1 (l0.length:Int) x7_1 ji4)=some (r1,r2):=by rw [if_neg (show ¬ (false=true) by decide)] at H;exact H
       clear H
       have H:=H1
       clear H1
       have H':=Az.mk H
       clear H
       have p348:0≤((ji4):Int):=of_decide_eq_true (by first|(with_reducible assumption)|assumption)
       have q348:(ji4) < (l0.length:Int):=of_decide_eq_true (by first|(with_reducible assumption)|assumption)
       obtain ⟨ad348,e348,hx348_0⟩:=Kd.at_string HR0.out (ji4) p348 q348
       cases e348
       replace p348:=eq_true p348
       replace q348:=eq_true q348
       go_wp2_with (first|((with_reducible refine gate_callee (f:=72) rfl ?_);refine goesL_ (some 27) rfl rfl Try.func72 (by kernel_rfl) rfl #[.string (rdOf ByteArray.empty l0 (ji4)),.string a1] rfl (by (try simp only [List.map_toArray,List.map_cons,List.map_nil]);first|done|(simp only [hji4];rfl)|rfl|(simp only [List.length_drop,List.length_take];rfl)) ?_;(with_reducible refine (cmp_Less_string.calls (rdOf ByteArray.empty l0 (ji4)) a1 false _ A7.out).mono ?_);rintro e w' ⟨rfl,⟨nd,rfl⟩⟩;refine ⟨_,rfl,?_⟩))
       go_roundg k1
       case measure=>have:=HK1.out;omega
       case rel=>exact ⟨(x7_1),(ji4),(by first|rfl|(simp;done)|(simp [*];done)),(by first|rfl|(simp;done)|(simp only [← hji4] <;> (first|rfl|simp))|(simp [*];done)),H',⟨by have:=HK1.out;omega⟩,by repeat (first|exact Drawn0.refl _|apply Drawn0.step)⟩
     ·rw [if_neg c6] at H
      exact absurd H (by simp)
    ·rw [if_neg c5] at H
     exact absurd H (by simp)
   ·rw [if_neg c3] at H
    have c3b0:decide (x7_1 < x8_1)=false:=decide_eq_false c3
    clear c3
    by_cases c9:x7_1 < (l0.length:Int)
    ·rw [if_pos c9] at H
     have c9b0:decide (x7_1 < (l0.length:Int))=true:=decide_eq_true c9
     clear c9
     by_cases c10:0≤x7_1
     ·rw [if_pos c10] at H
      have c10b0:decide (0≤x7_1)=true:=decide_eq_true c10
      clear c10
      by_cases c11:x7_1 < (l0.length:Int)
      ·rw [if_pos c11] at H
       have c11b0:decide (x7_1 < (l0.length:Int))=true:=decide_eq_true c11
       clear c11
       by_cases c12:(rdOf ByteArray.empty l0 x7_1).toList=a1.toList
       ·rw [if_pos c12] at H
        have c12b0:((rdOf ByteArray.empty l0 x7_1).toList == a1.toList)=true:=beq_iff_eq.mpr c12
        have c12b1:((rdOf ByteArray.empty l0 x7_1).toList != a1.toList)=false:=bne_eq_false_iff_eq.mpr c12
        clear c12
        simp only [Option.some.injEq,Prod.mk.injEq] at H
        obtain ⟨rfl,rfl⟩:=H
        have p350:0≤(x7_1:Int):=of_decide_eq_true (by first|(with_reducible assumption)|assumption)
        have q350:x7_1 < (l0.length:Int):=of_decide_eq_true (by first|(with_reducible assumption)|assumption)
        obtain ⟨ad350,e350,hx350_0⟩:=Kd.at_string HR0.out x7_1 p350 q350
        cases e350
        replace p350:=eq_true p350
        replace q350:=eq_true q350
        go_wp2
        go_ret2
        exact ⟨by first|rfl|(simp;done)|(simp [*];done),by repeat (first|exact Drawn0.refl _|apply Drawn0.step)⟩
       ·rw [if_neg c12] at H
        have c12b0:((rdOf ByteArray.empty l0 x7_1).toList == a1.toList)=false:=beq_eq_false_iff_ne.mpr c12
        have c12b1:((rdOf ByteArray.empty l0 x7_1).toList != a1.toList)=true:=bne_iff_ne.mpr c12
        replace H:=Option.bind_eq_some_iff.mp H
        obtain ⟨t352,A130,H⟩:=H
        replace H:(if t352=true then ((slices_isNaN_string.f a1).bind fun t353=>(some (x7_1,t353))) else (some (x7_1,false)))=some (r1,r2):=H
        have A13:=Az.mk A130
        clear A130
        by_cases c14:t352=true
        ·subst c14
         have H1:((slices_isNaN_string.f a1).bind fun t353=>(some (x7_1,t353)))=some (r1,r2):=by rw [if_pos rfl] at H;exact H
         clear H
         have H:=H1
         clear H1
         replace H:=Option.bind_eq_some_iff.mp H
         obtain ⟨t353,A150,H⟩:=H
         replace H:(some (x7_1,t353))=some (r1,r2):=H
         have A15:=Az.mk A150
         clear A150
         simp only [Option.some.injEq,Prod.mk.injEq] at H
         obtain ⟨rfl,rfl⟩:=H
         have p350:0≤(x7_1:Int):=of_decide_eq_true (by first|(with_reducible assumption)|assumption)
         have q350:x7_1 < (l0.length:Int):=of_decide_eq_true (by first|(with_reducible assumption)|assumption)
         obtain ⟨ad350,e350,hx350_0⟩:=Kd.at_string HR0.out x7_1 p350 q350
         cases e350
         replace p350:=eq_true p350
         replace q350:=eq_true q350
         have p351:0≤(x7_1:Int):=of_decide_eq_true (by first|(with_reducible assumption)|assumption)
         have q351:x7_1 < (l0.length:Int):=of_decide_eq_true (by first|(with_reducible assumption)|assumption)
         obtain ⟨ad351,e351,hx351_0⟩:=Kd.at_string HR0.out x7_1 p351 q351
         obtain rfl:ad350=ad351:=(by injection e351)
         replace p351:=eq_true p351
         replace q351:=eq_true q351
         go_wp2_with (first|(go_at_call 73;(with_reducible refine (slices_isNaN_string.calls (rdOf ByteArray.empty l0 x7_1) true _ A13.out).mono ?_);rintro e w' ⟨rfl,⟨nd,rfl⟩⟩)|(go_at_call 73;(with_reducible refine (slices_isNaN_string.calls a1 t353 _ A15.out).mono ?_);rintro e w' ⟨rfl,⟨nd,rfl⟩⟩))
         go_ret2
         exact ⟨by first|rfl|(simp;done)|(simp [*];done),by repeat (first|exact Drawn0.refl _|apply Drawn0.step)⟩
        ·replace c14:=Bool.eq_false_iff.mpr c14
         subst c14
         have H1:(some (x7_1,false))=some (r1,r2):=by rw [if_neg (show ¬ (false=true) by decide)] at H;exact H
         clear H
         have H:=H1
         clear H1
         simp only [Option.some.injEq,Prod.mk.injEq] at H
         obtain ⟨rfl,rfl⟩:=H
         have p350:0≤(x7_1:Int):=of_decide_eq_true (by first|(with_reducible assumption)|assumption)
         have q350:x7_1 < (l0.length:Int):=of_decide_eq_true (by first|(with_reducible assumption)|assumption)
         obtain ⟨ad350,e350,hx350_0⟩:=Kd.at_string HR0.out x7_1 p350 q350
         cases e350
         replace p350:=eq_true p350
         replace q350:=eq_true q350
         have p351:0≤(x7_1:Int):=of_decide_eq_true (by first|(with_reducible assumption)|assumption)
         have q351:x7_1 < (l0.length:Int):=of_decide_eq_true (by first|(with_reducible assumption)|assumption)
         obtain ⟨ad351,e351,hx351_0⟩:=Kd.at_string HR0.out x7_1 p351 q351
         obtain rfl:ad350=ad351:=(by injection e351)
         replace p351:=eq_true p351
         replace q351:=eq_true q351
         go_wp2_with (first|(go_at_call 73;(with_reducible refine (slices_isNaN_string.calls (rdOf ByteArray.empty l0 x7_1) false _ A13.out).mono ?_);rintro e w' ⟨rfl,⟨nd,rfl⟩⟩))
         go_ret2
         exact ⟨by first|rfl|(simp;done)|(simp [*];done),by repeat (first|exact Drawn0.refl _|apply Drawn0.step)⟩
      ·rw [if_neg c11] at H
       exact absurd H (by simp)
     ·rw [if_neg c10] at H
      exact absurd H (by simp)
    ·rw [if_neg c9] at H
     have c9b0:decide (x7_1 < (l0.length:Int))=false:=decide_eq_false c9
     clear c9
     simp only [Option.some.injEq,Prod.mk.injEq] at H
     obtain ⟨rfl,rfl⟩:=H
     go_wp2
     go_ret2
     exact ⟨by first|rfl|(simp;done)|(simp [*];done),by repeat (first|exact Drawn0.refl _|apply Drawn0.step)⟩
end Go.Proofs.Ytoihiehoolehiaa.PX
namespace Go.Proofs.Ytoihiehoolehiaa.PX
open Go.RowKit Go.Proofs.YtoihiehoolehiaaW.PrintWords Go.Proofs.YtoihiehoolehiaaW.PrintLast Go.Proofs.YtoihiehoolehiaaW.PrintMore
attribute [local go_sem] max2_int min2_int max_two min_two max_three min_three max_four min_four   
set_option linter.unusedVariables false
set_option linter.unusedSimpArgs false
attribute [local go_sem] run_field_87_0
def names_set_string_only.l0:Nat→Bool→List ByteArray→List ByteArray→Int→Int→List ByteArray→Option (List ByteArray)
 | 0,_,_,_,_,_,_=>none
 | k+1,x2,x7,x13,x14,x15,x356000=>if x15 < x14 then (if 0≤x15 then (if x15 < (x13.length:Int) then ((slices_BinarySearch_string_string.f k x356000 (rdOf ByteArray.empty x13 x15)).bind fun bt358=>(if (bt358.2 == x2)=true then (if x7.length < 8796093022208 then (names_set_string_only.l0 k x2 (x7 ++ [rdOf ByteArray.empty x13 x15]) x13 x14 (wrap64 (x15+1)) x356000) else (none)) else (names_set_string_only.l0 k x2 x7 x13 x14 (wrap64 (x15+1)) x356000))) else (none)) else (none)) else ((names_of_string.f x7).bind fun t363=>(some t363))
def names_set_string_only.f (k:Nat) (l0_0:List ByteArray) (l1_0:List ByteArray) (a2:Bool):Option (List ByteArray):=names_set_string_only.l0 k a2 ([]:List ByteArray) l0_0 (l0_0.length:Int) 0 l1_0
theorem names_set_string_only.mono_l:∀ k,(∀ y0 y1 y2 y3 y4 y5,LeO (names_set_string_only.l0 k y0 y1 y2 y3 y4 y5) (names_set_string_only.l0 (k+1) y0 y1 y2 y3 y4 y5))
 | 0=>fun _ _ _ _ _ _ r h=>by simp [names_set_string_only.l0] at h
 | k+1=>by
  have ih0:=names_set_string_only.mono_l k
  ·intro y0 y1 y2 y3 y4 y5
   unfold names_set_string_only.l0
   repeat' first
   | (with_reducible exact ih0 _ _ _ _ _ _)
   | (with_reducible exact slices_BinarySearch_string_string.mono _ _ _)
   | (with_reducible exact LeO.refl _)
   | (with_reducible exact LeO.none _)
   | (with_reducible refine LeO.ite ?_ ?_)
   | (with_reducible refine LeO.bind ?_ (fun _=>?_))
   | exact ih0 _ _ _ _ _ _
   | exact slices_BinarySearch_string_string.mono _ _ _
   | exact LeO.none _
   | refine LeO.ite ?_ ?_
   | refine LeO.bind ?_ (fun _=>?_)
theorem names_set_string_only.mono:∀ a0 a1 a2 k,LeO (names_set_string_only.f k a0 a1 a2) (names_set_string_only.f (k+1) a0 a1 a2):=by
 intro a0 a1 a2 k
 have ih0:=names_set_string_only.mono_l k
 unfold names_set_string_only.f
 repeat' first
   | (with_reducible exact ih0 _ _ _ _ _ _)
   | (with_reducible exact slices_BinarySearch_string_string.mono _ _ _)
   | (with_reducible exact LeO.refl _)
   | (with_reducible exact LeO.none _)
   | (with_reducible refine LeO.ite ?_ ?_)
   | (with_reducible refine LeO.bind ?_ (fun _=>?_))
   | exact ih0 _ _ _ _ _ _
   | exact slices_BinarySearch_string_string.mono _ _ _
   | exact LeO.none _
   | refine LeO.ite ?_ ?_
   | refine LeO.bind ?_ (fun _=>?_)
set_option maxHeartbeats 8000000 in
set_option maxRecDepth 100000 in
theorem names_set_string_only.calls (k:Nat) (A0_0:Option Addr) (c0_0:Nat) (l0_0:List ByteArray) (A1_0:Option Addr) (c1_0:Nat) (l1_0:List ByteArray) (a2:Bool) (r:List ByteArray) (w:World) (hr0_0:Kd.C Kd.string w A0_0 l0_0.length l0_0) (hc0_0:l0_0.length≤c0_0) (hr1_0:Kd.C Kd.string w A1_0 l1_0.length l1_0) (hc1_0:l1_0.length≤c1_0) (h:names_set_string_only.f k l0_0 l1_0 a2=some r) :
  Calls Try.prog 63 #[.agg #[.slice A0_0 l0_0.length c0_0],.agg #[.slice A1_0 l1_0.length c1_0],.bool a2] w fun e w'=>∃ v0_:Value,e=.returned (.agg #[v0_])∧Kd.R Kd.string 9 w' w.heap.size (fun _=>True) v0_ r∧Below w.heap.size w w':=by
 have hu87:=Try.underlying87
 have HR0_0:=Az.mk hr0_0
 have HC0_0:=Az.mk hc0_0
 clear hr0_0 hc0_0
 have HR1_0:=Az.mk hr1_0
 have HC1_0:=Az.mk hc1_0
 clear hr1_0 hc1_0
 have HB:=Az.mk (Below.refl w.heap.size w)
 have H:(names_set_string_only.l0 k a2 ([]:List ByteArray) l0_0 (l0_0.length:Int) 0 l1_0)=some r:=h
 clear h
 have H':=Az.mk H
 clear H
 go_enter Try.func63,Try.ntmps63
 go_wp2_with (first|((with_reducible refine gate_dst (N:=3) rfl ?_);refine box_event ?hg (N:=3) ?hd (cs:=#[.slice A0_0 l0_0.length c0_0]) (t:=87) ?hr ?_;(case hd=>rfl);(case hg=>rfl);(case hr=>first|(go_simp;done)|(go_simp;rfl));intro gb354 hg w4 hbox hb;have n0_:=Az.mk (below_step (by repeat (first|(with_reducible first|exact HB.out|apply bA_|apply bN_|apply bD_)|exact HB.out)) hb);have n1_:=Az.mk (hbox);have n2_:=Az.mk ((by rw [hg];exact (be_ (by repeat (first|(with_reducible first|exact HB.out|apply bA_|apply bN_|apply bD_)|exact HB.out))):w.heap.size≤gb354));have n3_:=Az.mk ((by rw [hg];exact (be_ (by repeat (first|(with_reducible first|exact HB.out|apply bA_|apply bN_|apply bD_)|exact HB.out))):w.heap.size≤gb354));clear HB;have HB:=n0_;have BK354:=n1_;have GW354:=n2_;have GE354:=n3_;clear n0_ n1_ n2_ n3_;clear hb hbox hg)|((with_reducible refine gate_dst (N:=4) rfl ?_);refine box_event ?hg (N:=4) ?hd (cs:=#[.slice A1_0 l1_0.length c1_0]) (t:=87) ?hr ?_;(case hd=>rfl);(case hg=>rfl);(case hr=>first|(go_simp;done)|(go_simp;rfl));intro gb355 hg w5 hbox hb;have n0_:=Az.mk (bb_ (g:=gb354) (o:=.cells #[.slice A0_0 l0_0.length c0_0] 87 (0,0)) (by (with_reducible repeat (first|refine bq_ ?_ _|refine bw_ ?_|refine bz_ ?_ _));exact BK354.out) hb);have n1_:=Az.mk (below_step (by repeat (first|(with_reducible first|exact HB.out|apply bA_|apply bN_|apply bD_|refine bs_ ?_ GE354.out)|exact HB.out)) hb);have n2_:=Az.mk (hbox);have n3_:=Az.mk ((by rw [hg];exact (be_ (by repeat (first|(with_reducible first|exact HB.out|apply bA_|apply bN_|apply bD_|refine bs_ ?_ GE354.out)|exact HB.out))):w.heap.size≤gb355));have n4_:=Az.mk ((by rw [hg];exact (be_ (by repeat (first|(with_reducible first|exact HB.out|apply bA_|apply bN_|apply bD_|refine bs_ ?_ GE354.out)|exact HB.out))):w.heap.size≤gb355));have n5_:=Az.mk ((by rw [hg];exact Nat.ne_of_lt (blk_lt (g:=gb354) (o:=.cells #[.slice A0_0 l0_0.length c0_0] 87 (0,0)) (by (with_reducible repeat (first|refine bq_ ?_ _|refine bw_ ?_|refine bz_ ?_ _));exact BK354.out)):gb354≠gb355));have n6_:=Az.mk ((by rw [hg];exact Nat.ne_of_gt (blk_lt (g:=gb354) (o:=.cells #[.slice A0_0 l0_0.length c0_0] 87 (0,0)) (by (with_reducible repeat (first|refine bq_ ?_ _|refine bw_ ?_|refine bz_ ?_ _));exact BK354.out)):gb355≠gb354));clear BK354;clear HB;have BK354:=n0_;have HB:=n1_;have BK355:=n2_;have GW355:=n3_;have GE355:=n4_;have NB354_355:=n5_;have NB355_354:=n6_;clear n0_ n1_ n2_ n3_ n4_ n5_ n6_;clear hb hbox hg)|((with_reducible refine gate_dst (N:=6) rfl ?_);refine box_event ?hg (N:=6) ?hd (cs:=#[.slice none 0 0]) (t:=87) ?hr ?_;(case hd=>rfl);(case hg=>rfl);(case hr=>first|(go_simp;done)|(go_simp;rfl));intro gb356 hg w6 hbox hb;have n0_:=Az.mk (bb_ (g:=gb354) (o:=.cells #[.slice A0_0 l0_0.length c0_0] 87 (0,0)) (by (with_reducible repeat (first|refine bq_ ?_ _|refine bw_ ?_|refine bz_ ?_ _));exact BK354.out) hb);have n1_:=Az.mk (bb_ (g:=gb355) (o:=.cells #[.slice A1_0 l1_0.length c1_0] 87 (0,0)) (by (with_reducible repeat (first|refine bq_ ?_ _|refine bw_ ?_|refine bz_ ?_ _));exact BK355.out) hb);have n2_:=Az.mk (below_step (by repeat (first|(with_reducible first|exact HB.out|apply bA_|apply bN_|apply bD_|refine bs_ ?_ GE354.out|refine bs_ ?_ GE355.out)|exact HB.out)) hb);have n3_:=Az.mk (hbox);have n4_:=Az.mk ((by rw [hg];exact (be_ (by repeat (first|(with_reducible first|exact HB.out|apply bA_|apply bN_|apply bD_|refine bs_ ?_ GE354.out|refine bs_ ?_ GE355.out)|exact HB.out))):w.heap.size≤gb356));have n5_:=Az.mk ((by rw [hg];exact (be_ (by repeat (first|(with_reducible first|exact HB.out|apply bA_|apply bN_|apply bD_|refine bs_ ?_ GE354.out|refine bs_ ?_ GE355.out)|exact HB.out))):w.heap.size≤gb356));have n6_:=Az.mk ((by rw [hg];exact Nat.ne_of_lt (blk_lt (g:=gb354) (o:=.cells #[.slice A0_0 l0_0.length c0_0] 87 (0,0)) (by (with_reducible repeat (first|refine bq_ ?_ _|refine bw_ ?_|refine bz_ ?_ _));exact BK354.out)):gb354≠gb356));have n7_:=Az.mk ((by rw [hg];exact Nat.ne_of_gt (blk_lt (g:=gb354) (o:=.cells #[.slice A0_0 l0_0.length c0_0] 87 (0,0)) (by (with_reducible repeat (first|refine bq_ ?_ _|refine bw_ ?_|refine bz_ ?_ _));exact BK354.out)):gb356≠gb354));have n8_:=Az.mk ((by rw [hg];exact Nat.ne_of_lt (blk_lt (g:=gb355) (o:=.cells #[.slice A1_0 l1_0.length c1_0] 87 (0,0)) (by (with_reducible repeat (first|refine bq_ ?_ _|refine bw_ ?_|refine bz_ ?_ _));exact BK355.out)):gb355≠gb356));have n9_:=Az.mk ((by rw [hg];exact Nat.ne_of_gt (blk_lt (g:=gb355) (o:=.cells #[.slice A1_0 l1_0.length c1_0] 87 (0,0)) (by (with_reducible repeat (first|refine bq_ ?_ _|refine bw_ ?_|refine bz_ ?_ _));exact BK355.out)):gb356≠gb355));clear BK354;clear BK355;clear HB;have BK354:=n0_;have BK355:=n1_;have HB:=n2_;have BK356:=n3_;have GW356:=n4_;have GE356:=n5_;have NB354_356:=n6_;have NB356_354:=n7_;have NB355_356:=n8_;have NB356_355:=n9_;clear n0_ n1_ n2_ n3_ n4_ n5_ n6_ n7_ n8_ n9_;clear hb hbox hg;have hnb7:=NB354_355.out;have hnc7:=NB355_354.out;have hnb8:=NB354_356.out;have hnc8:=NB356_354.out;have hcz9_0:w6.cell? ⟨gb354,0,none⟩=some (.slice A0_0 l0_0.length c0_0):=(bc_ BK354.out 0).trans rfl;have hfz9_0:=bf_ BK354.out 0))
 go_loopg [7,15] k (fun kq v7 v15 w'=>∃ (x7_1:List ByteArray) (x15_1:Int),v15=.int .i64 x15_1∧Az (names_set_string_only.l0 kq a2 x7_1 l0_0 (l0_0.length:Int) x15_1 l1_0=some r)∧Az (kq≤k)∧Az (Kd.R Kd.string 9 w' w.heap.size (fun _=>True) v7 x7_1)∧Az (w'.heap[gb354]? = some (.cells #[(.slice A0_0 l0_0.length c0_0)] 87 (0,0)))∧Az (w'.heap[gb355]? = some (.cells #[(.slice A1_0 l1_0.length c1_0)] 87 (0,0)))∧Az (w'.heap[gb356]? = some (.cells #[(.slice none 0 0)] 87 (0,0)))∧Az (Below w.heap.size w w'))
 case atStart=>exact ⟨(([]:List ByteArray)),(0),(by first|rfl|(simp;done)|(simp [*];done)),H',⟨Nat.le_refl _⟩,⟨by first|exact Kd.R_nil _ _ _ _ _|exact Kd.N_nil _ _ _ _ _|exact Kd.V_nil _ _ _ _ _|exact Kd.Q_nil _ _ _ _ _|exact Kd.S_nil _ _ _ _ _⟩,⟨by (with_reducible repeat (first|refine bq_ ?_ _|refine bw_ ?_|refine bz_ ?_ _));exact BK354.out⟩,⟨by (with_reducible repeat (first|refine bq_ ?_ _|refine bw_ ?_|refine bz_ ?_ _));exact BK355.out⟩,⟨by (with_reducible repeat (first|refine bq_ ?_ _|refine bw_ ?_|refine bz_ ?_ _));exact BK356.out⟩,⟨by repeat (first|(with_reducible first|exact HB.out|apply bA_|apply bN_|apply bD_|refine bs_ ?_ GE354.out|refine bs_ ?_ GE355.out|refine bs_ ?_ GE356.out)|exact HB.out)⟩⟩
 case round =>
  clear H'
  try clear c1
  try clear p2
  try clear c6
  try clear c7
  try clear c8
  try clear hcz9_0
  try clear hfz9_0
  obtain ⟨x7_1,x15_1,rfl,HA,HK1,HO_7,BK354,BK355,BK356,HB⟩:=hrel
  cases gk with
  | zero=>exact absurd HA.out (by simp [names_set_string_only.l0])
  | succ k1 =>
   have H:=HA.out
   clear HA
   simp only [names_set_string_only.l0] at H
   by_cases c10:x15_1 < (l0_0.length:Int)
   ·rw [if_pos c10] at H
    have c10b0:decide (x15_1 < (l0_0.length:Int))=true:=decide_eq_true c10
    clear c10
    by_cases c11:0≤x15_1
    ·rw [if_pos c11] at H
     have c11b0:decide (0≤x15_1)=true:=decide_eq_true c11
     clear c11
     by_cases c12:x15_1 < (l0_0.length:Int)
     ·rw [if_pos c12] at H
      have c12b0:decide (x15_1 < (l0_0.length:Int))=true:=decide_eq_true c12
      clear c12
      replace H:=Option.bind_eq_some_iff.mp H
      obtain ⟨⟨t358,t359⟩,A130,H⟩:=H
      replace H:(if (t359 == a2)=true then (if x7_1.length < 8796093022208 then (names_set_string_only.l0 k1 a2 (x7_1 ++ [rdOf ByteArray.empty l0_0 x15_1]) l0_0 (l0_0.length:Int) (wrap64 (x15_1+1)) l1_0) else (none)) else (names_set_string_only.l0 k1 a2 x7_1 l0_0 (l0_0.length:Int) (wrap64 (x15_1+1)) l1_0))=some r:=H
      have A13:=Az.mk A130
      clear A130
      by_cases c14:(t359 == a2)=true
      ·rw [if_pos c14] at H
       have c14b0:(t359 == a2)=true:=c14
       (try (have c14b1:decide (t359=a2)=true:=by simpa using c14))
       (try (have c14b2:(t359 == a2)=true:=by simpa using c14))
       clear c14
       by_cases c15:x7_1.length < 8796093022208
       ·rw [if_pos c15] at H
        have LMc15:=Az.mk c15
        clear c15
        obtain ⟨y360,hy360⟩:∃ y_:List ByteArray,y_=(x7_1 ++ [rdOf ByteArray.empty l0_0 x15_1]):=⟨_,rfl⟩
        replace H:(names_set_string_only.l0 k1 a2 y360 l0_0 (l0_0.length:Int) (wrap64 (x15_1+1)) l1_0)=some r:=by first|(rw [hy360];with_reducible exact H)|(have H2_:=(Option.bind_some _ _).symm.trans H;rw [hy360];with_reducible exact H2_)|(have H2_:=(Option.bind_some _ _).symm.trans H;with_reducible exact H2_)|with_reducible exact H|(rw [hy360];exact H)|exact H
        have Ny360:=Az.mk hy360
        clear hy360
        have H':=Az.mk H
        clear H
        have p357:0≤(x15_1:Int):=of_decide_eq_true (by first|(with_reducible assumption)|assumption)
        have q357:x15_1 < (l0_0.length:Int):=of_decide_eq_true (by first|(with_reducible assumption)|assumption)
        obtain ⟨ad357,e357,hx357_0⟩:=Kd.at_string HR0_0.out x15_1 p357 q357
        cases e357
        replace hx357_0:=(HB.out.cell (World.block_lt_of_cell? w _ hx357_0)).trans hx357_0
        replace p357:=eq_true p357
        replace q357:=eq_true q357
        have hnb16:=NB355_354.out
        have hnc16:=NB354_355.out
        have hnb17:=NB355_356.out
        have hnc17:=NB356_355.out
        have hcz18_0:wr.cell? ⟨gb355,0,none⟩=some (.slice A1_0 l1_0.length c1_0):=(bc_ BK355.out 0).trans rfl
        have hfz18_0:=bf_ BK355.out 0
        go_wp2_with (first|((with_reducible refine gate_callee (f:=69) rfl ?_);refine goesL_ (some 23) rfl rfl Try.func69 (by kernel_rfl) rfl #[.slice A1_0 l1_0.length c1_0,.string (rdOf ByteArray.empty l0_0 x15_1)] rfl (by (try simp only [List.map_toArray,List.map_cons,List.map_nil]);first|done|rfl|(simp only [List.length_drop,List.length_take];rfl)) ?_;(with_reducible refine (slices_BinarySearch_string_string.calls k1 _ _ l1_0 (rdOf ByteArray.empty l0_0 x15_1) t358 t359 _ ?side1 ?side2 A13.out).mono ?_);(case side1=>repeat (first|exact (Kd.C_below HR1_0.out HB.out)|(with_reducible refine cA_ ?_ _)|(with_reducible refine cN_ ?_ _)|(with_reducible refine cD_ ?_)));(case side2=>exact HC1_0.out);rintro e w' ⟨rfl,⟨nd,rfl⟩⟩;refine ⟨_,rfl,?_⟩)|((with_reducible refine gate_builtin (b:=.append) (xs:=#[.tmp 29,.tmp 31]) rfl ?_);at_builtin;refine Kd.R_append Kd.string (w0:=w) w.heap.size rfl (.tmp 29) (.tmp 31) 36 9 (.string ⟨#[]⟩) 16 rfl Try.underlying36 info9 rfl (by decide) (by omega) u7 x7_1 (rdOf ByteArray.empty l0_0 x15_1) [.string (rdOf ByteArray.empty l0_0 x15_1)] (fun _=>True) (fun _=>False) rfl rfl ?aP (fun _ hk=>hk.elim) ?aF ?aO ?aB ?aS ?aL ?_;(case aP=>exact rfl);(case aB=>exact (by repeat (first|(with_reducible first|exact HB.out|apply bA_|apply bN_|apply bD_|refine bs_ ?_ GE354.out|refine bs_ ?_ GE355.out|refine bs_ ?_ GE356.out)|exact HB.out)));(case aF=>exact (fun _ _=>trivial));(case aO=>exact (by (with_reducible repeat (first|apply rA_|apply rN_|apply rD_));exact HO_7.out));(case aS=>exact (be_ (by repeat (first|(with_reducible first|exact HB.out|apply bA_|apply bN_|apply bD_|refine bs_ ?_ GE354.out|refine bs_ ?_ GE355.out|refine bs_ ?_ GE356.out)|exact HB.out))));(case aL=>have:=LMc15.out;omega);intro v361 w19 ho hb hg hat;rw [← Ny360.out] at ho;have n0_:=Az.mk (blk_grown (g:=gb354) (o:=.cells #[.slice (some ad357) l0_0.length c0_0] 87 (0,0)) (by (with_reducible repeat (first|refine bq_ ?_ _|refine bw_ ?_|refine bz_ ?_ _));exact BK354.out) hg (Kd.R_ne HO_7.out BK354.out (by decide)));have n1_:=Az.mk (blk_grown (g:=gb355) (o:=.cells #[.slice A1_0 l1_0.length c1_0] 87 (0,0)) (by (with_reducible repeat (first|refine bq_ ?_ _|refine bw_ ?_|refine bz_ ?_ _));exact BK355.out) hg (Kd.R_ne HO_7.out BK355.out (by decide)));have n2_:=Az.mk (blk_grown (g:=gb356) (o:=.cells #[.slice none 0 0] 87 (0,0)) (by (with_reducible repeat (first|refine bq_ ?_ _|refine bw_ ?_|refine bz_ ?_ _));exact BK356.out) hg (Kd.R_ne HO_7.out BK356.out (by decide)));have n3_:=Az.mk (hb);have n4_:=Az.mk (ho);clear BK354;clear BK355;clear BK356;clear HB;clear HO_7;have BK354:=n0_;have BK355:=n1_;have BK356:=n2_;have HB:=n3_;have HO362:=n4_;clear n0_ n1_ n2_ n3_ n4_;clear ho hb hg hat))
        go_roundg k1
        case measure=>have:=HK1.out;omega
        case rel=>exact ⟨(y360),(wrap64 (x15_1+1)),(by first|rfl|(simp;done)|(simp [*];done)),H',⟨by have:=HK1.out;omega⟩,⟨by (with_reducible repeat (first|apply rA_|apply rN_|apply rD_));exact HO362.out⟩,⟨by (with_reducible repeat (first|refine bq_ ?_ _|refine bw_ ?_|refine bz_ ?_ _));exact BK354.out⟩,⟨by (with_reducible repeat (first|refine bq_ ?_ _|refine bw_ ?_|refine bz_ ?_ _));exact BK355.out⟩,⟨by (with_reducible repeat (first|refine bq_ ?_ _|refine bw_ ?_|refine bz_ ?_ _));exact BK356.out⟩,⟨by repeat (first|(with_reducible first|exact HB.out|apply bA_|apply bN_|apply bD_|refine bs_ ?_ GE354.out|refine bs_ ?_ GE355.out|refine bs_ ?_ GE356.out)|exact HB.out)⟩⟩
       ·rw [if_neg c15] at H
        exact absurd H (by simp)
      ·rw [if_neg c14] at H
       have c14b0:(t359 == a2)=false:=by simpa using c14
       (try (have c14b1:decide (t359=a2)=false:=by simpa using c14))
       (try (have c14b2:(t359 == a2)=false:=by simpa using c14))
       (try (have c14b3:¬ (t359=a2):=by simpa using c14))
       clear c14
       have H':=Az.mk H
       clear H
       have p357:0≤(x15_1:Int):=of_decide_eq_true (by first|(with_reducible assumption)|assumption)
       have q357:x15_1 < (l0_0.length:Int):=of_decide_eq_true (by first|(with_reducible assumption)|assumption)
       obtain ⟨ad357,e357,hx357_0⟩:=Kd.at_string HR0_0.out x15_1 p357 q357
       cases e357
       replace hx357_0:=(HB.out.cell (World.block_lt_of_cell? w _ hx357_0)).trans hx357_0
       replace p357:=eq_true p357
       replace q357:=eq_true q357
       have hnb20:=NB355_354.out
       have hnc20:=NB354_355.out
       have hnb21:=NB355_356.out
       have hnc21:=NB356_355.out
       have hcz22_0:wr.cell? ⟨gb355,0,none⟩=some (.slice A1_0 l1_0.length c1_0):=(bc_ BK355.out 0).trans rfl
       have hfz22_0:=bf_ BK355.out 0
       go_wp2_with (first|((with_reducible refine gate_callee (f:=69) rfl ?_);refine goesL_ (some 23) rfl rfl Try.func69 (by kernel_rfl) rfl #[.slice A1_0 l1_0.length c1_0,.string (rdOf ByteArray.empty l0_0 x15_1)] rfl (by (try simp only [List.map_toArray,List.map_cons,List.map_nil]);first|done|rfl|(simp only [List.length_drop,List.length_take];rfl)) ?_;(with_reducible refine (slices_BinarySearch_string_string.calls k1 _ _ l1_0 (rdOf ByteArray.empty l0_0 x15_1) t358 t359 _ ?side1 ?side2 A13.out).mono ?_);(case side1=>repeat (first|exact (Kd.C_below HR1_0.out HB.out)|(with_reducible refine cA_ ?_ _)|(with_reducible refine cN_ ?_ _)|(with_reducible refine cD_ ?_)));(case side2=>exact HC1_0.out);rintro e w' ⟨rfl,⟨nd,rfl⟩⟩;refine ⟨_,rfl,?_⟩))
       go_roundg k1
       case measure=>have:=HK1.out;omega
       case rel=>exact ⟨(x7_1),(wrap64 (x15_1+1)),(by first|rfl|(simp;done)|(simp [*];done)),H',⟨by have:=HK1.out;omega⟩,⟨by (with_reducible repeat (first|apply rA_|apply rN_|apply rD_));exact HO_7.out⟩,⟨by (with_reducible repeat (first|refine bq_ ?_ _|refine bw_ ?_|refine bz_ ?_ _));exact BK354.out⟩,⟨by (with_reducible repeat (first|refine bq_ ?_ _|refine bw_ ?_|refine bz_ ?_ _));exact BK355.out⟩,⟨by (with_reducible repeat (first|refine bq_ ?_ _|refine bw_ ?_|refine bz_ ?_ _));exact BK356.out⟩,⟨by repeat (first|(with_reducible first|exact HB.out|apply bA_|apply bN_|apply bD_|refine bs_ ?_ GE354.out|refine bs_ ?_ GE355.out|refine bs_ ?_ GE356.out)|exact HB.out)⟩⟩
     ·rw [if_neg c12] at H
      exact absurd H (by simp)
    ·rw [if_neg c11] at H
     exact absurd H (by simp)
   ·rw [if_neg c10] at H
    have c10b0:decide (x15_1 < (l0_0.length:Int))=false:=decide_eq_false c10
    clear c10
    replace H:=Option.bind_eq_some_iff.mp H
    obtain ⟨t363,A230,H⟩:=H
    replace H:(some t363)=some r:=H
    have A23:=Az.mk A230
    clear A230
    obtain rfl:=Option.some.inj H
    obtain ⟨Ao24,co24,eo24⟩:=Kd.R_slice HO_7.out
    subst eo24
    go_wp2_with (first|((with_reducible refine gate_callee (f:=61) rfl ?_);refine goesL_ (some 35) rfl rfl Try.func61 (by kernel_rfl) rfl #[.slice Ao24 x7_1.length co24] rfl (by (try simp only [List.map_toArray,List.map_cons,List.map_nil]);first|done|rfl|(simp only [List.length_drop,List.length_take];rfl)) ?_;(with_reducible refine (names_of_string.calls _ _ x7_1 t363 _ ?side1 ?side2 A23.out).mono ?_);(case side1=>repeat (first|exact (Kd.R_reads' HO_7.out).2.2|(with_reducible refine cA_ ?_ _)|(with_reducible refine cN_ ?_ _)|(with_reducible refine cD_ ?_)));(case side2=>exact (Kd.R_reads' HO_7.out).2.1);rintro e w25 ⟨v364,rfl,ho0,hb⟩;refine ⟨_,rfl,?_⟩;have n0_:=Az.mk (Kd.R_elder' (by (with_reducible repeat (first|apply rA_|apply rN_|apply rD_));exact HO_7.out) (Kd.R_base ho0) hb);have n1_:=Az.mk (Kd.R_lower (Kd.R_new' ho0 (Kd.R_lt (by (with_reducible repeat (first|apply rA_|apply rN_|apply rD_));exact HO_7.out))) (be_ (by repeat (first|(with_reducible first|exact HB.out|apply bA_|apply bN_|apply bD_|refine bs_ ?_ GE354.out|refine bs_ ?_ GE355.out|refine bs_ ?_ GE356.out)|exact HB.out))));have n2_:=Az.mk (bb_ (g:=gb354) (o:=.cells #[.slice A0_0 l0_0.length c0_0] 87 (0,0)) (by (with_reducible repeat (first|refine bq_ ?_ _|refine bw_ ?_|refine bz_ ?_ _));exact BK354.out) hb);have n3_:=Az.mk (bb_ (g:=gb355) (o:=.cells #[.slice A1_0 l1_0.length c1_0] 87 (0,0)) (by (with_reducible repeat (first|refine bq_ ?_ _|refine bw_ ?_|refine bz_ ?_ _));exact BK355.out) hb);have n4_:=Az.mk (bb_ (g:=gb356) (o:=.cells #[.slice none 0 0] 87 (0,0)) (by (with_reducible repeat (first|refine bq_ ?_ _|refine bw_ ?_|refine bz_ ?_ _));exact BK356.out) hb);have n5_:=Az.mk (below_step (by repeat (first|(with_reducible first|exact HB.out|apply bA_|apply bN_|apply bD_|refine bs_ ?_ GE354.out|refine bs_ ?_ GE355.out|refine bs_ ?_ GE356.out)|exact HB.out)) hb);clear HO_7;clear BK354;clear BK355;clear BK356;clear HB;have HO_7:=n0_;have HO365:=n1_;have BK354:=n2_;have BK355:=n3_;have BK356:=n4_;have HB:=n5_;clear n0_ n1_ n2_ n3_ n4_ n5_;(try clear hb);(try clear hb2);(try clear hk);(try clear hi);(try clear ho0);obtain ⟨Ao26,co26,eo26⟩:=Kd.R_slice HO365.out;subst eo26;have hnb27:=NB356_354.out;have hnc27:=NB354_356.out;have hnb28:=NB356_355.out;have hnc28:=NB355_356.out;have hcz29_0:w25.cell? ⟨gb356,0,none⟩=some (.slice none 0 0):=(bc_ BK356.out 0).trans rfl;have hfz29_0:=bf_ BK356.out 0))
    refine bodyPost_ret (results_cell_row rfl _ _ gb356 87 #[.slice Ao26 t363.length co26] (0,0) _ rfl (by (with_reducible repeat (first|refine bq_ ?_ _|refine bw_ ?_|refine bz_ ?_ _));refine blk_put (cs:=#[.slice none 0 0]) ?_ 0 _ rfl;(with_reducible repeat (first|refine bq_ ?_ _|refine bw_ ?_|refine bz_ ?_ _));exact BK356.out) Try.underlying87 rfl (by kernel_rfl)) rfl ?_
    exact ⟨_,by first|rfl|(simp [errW_none,errW_some] <;> rfl)|(simp [*,errW_none,errW_some] <;> rfl),by (with_reducible repeat (first|apply rA_|apply rN_|apply rD_));exact Kd.R_mono (Kd.R_far (p:=⟨gb356,0,none⟩) (Kd.R_types HO365.out BK356.out (by decide)) (fun _ hk=>hk.2) (.slice Ao26 t363.length co26)) (fun _ hk=>trivial),by repeat (first|(with_reducible first|exact HB.out|apply bA_|apply bN_|apply bD_|refine bs_ ?_ GE354.out|refine bs_ ?_ GE355.out|refine bs_ ?_ GE356.out)|exact HB.out)⟩
end Go.Proofs.Ytoihiehoolehiaa.PX
namespace Go.Proofs.Ytoihiehoolehiaa.PX
open Go.RowKit Go.Proofs.YtoihiehoolehiaaW.PrintWords Go.Proofs.YtoihiehoolehiaaW.PrintLast Go.Proofs.YtoihiehoolehiaaW.PrintMore
attribute [local go_sem] max2_int min2_int max_two min_two max_three min_three max_four min_four   
set_option linter.unusedVariables false
set_option linter.unusedSimpArgs false
attribute [local go_sem] run_field_87_0
def names_Both.j0:Nat→Bool→Bool→List ByteArray→Bool→List ByteArray→List ByteArray→List ByteArray→Option (Bool × List ByteArray)
 | 0,_,_,_,_,_,_,_=>none
 | k+1,x13,x367000,x367001,x368000,x368001,x376000,x377000=>if x13=true then ((names_set_string_with.f x376000 x377000).bind fun t377=>(some (true,t377))) else (if x367000=true then ((names_set_string_only.f k x377000 x376000 false).bind fun t380=>(some (false,t380))) else (if x368000=true then ((names_set_string_only.f k x376000 x377000 false).bind fun t383=>(some (false,t383))) else ((names_set_string_only.f k x376000 x377000 true).bind fun t386=>(some (false,t386)))))
def names_Both.f (k:Nat) (a0_0:Bool) (l0_1:List ByteArray) (a1_0:Bool) (l1_1:List ByteArray):Option (Bool × List ByteArray):=(names_of_string.f l0_1).bind fun t369=>((names_of_string.f l1_1).bind fun t372=>(if a0_0=true then (names_Both.j0 k a1_0 a0_0 l0_1 a1_0 l1_1 t369 t372) else (names_Both.j0 k false a0_0 l0_1 a1_0 l1_1 t369 t372)))
theorem names_Both.mono_l:∀ k,(∀ y0 y1 y2 y3 y4 y5 y6,LeO (names_Both.j0 k y0 y1 y2 y3 y4 y5 y6) (names_Both.j0 (k+1) y0 y1 y2 y3 y4 y5 y6))
 | 0=>fun _ _ _ _ _ _ _ r h=>by simp [names_Both.j0] at h
 | k+1=>by
  have ih0:=names_Both.mono_l k
  ·intro y0 y1 y2 y3 y4 y5 y6
   unfold names_Both.j0
   repeat' first
   | (with_reducible exact ih0 _ _ _ _ _ _ _)
   | (with_reducible exact names_set_string_only.mono _ _ _ _)
   | (with_reducible exact LeO.refl _)
   | (with_reducible exact LeO.none _)
   | (with_reducible refine LeO.ite ?_ ?_)
   | (with_reducible refine LeO.bind ?_ (fun _=>?_))
   | exact ih0 _ _ _ _ _ _ _
   | exact names_set_string_only.mono _ _ _ _
   | exact LeO.none _
   | refine LeO.ite ?_ ?_
   | refine LeO.bind ?_ (fun _=>?_)
theorem names_Both.mono:∀ a0 a1 a2 a3 k,LeO (names_Both.f k a0 a1 a2 a3) (names_Both.f (k+1) a0 a1 a2 a3):=by
 intro a0 a1 a2 a3 k
 have ih0:=names_Both.mono_l k
 unfold names_Both.f
 repeat' first
   | (with_reducible exact ih0 _ _ _ _ _ _ _)
   | (with_reducible exact names_set_string_only.mono _ _ _ _)
   | (with_reducible exact LeO.refl _)
   | (with_reducible exact LeO.none _)
   | (with_reducible refine LeO.ite ?_ ?_)
   | (with_reducible refine LeO.bind ?_ (fun _=>?_))
   | exact ih0 _ _ _ _ _ _ _
   | exact names_set_string_only.mono _ _ _ _
   | exact LeO.none _
   | refine LeO.ite ?_ ?_
   | refine LeO.bind ?_ (fun _=>?_)
def names_Both.T1:Bool × List (List Nat × List Nat):=(true,[([],[]),([0],[0]),([1],[1]),([],[]),([3],[3]),([4,2],[4]),([],[]),([],[]),([6,2,5,0,1,2,6,7],[2,6]),([7,5,8,0,1,2,3,4,5,6,7,8],[5,7])])
def names_Both.B1:List Nat:=[0,1,3,0,8,31,0,0,255,511]
theorem names_Both.tab1:rtab .any (opsOf Try.f49 1)=names_Both.T1:=by kernel_rfl
theorem names_Both.bits1:waitsOk names_Both.T1.2 names_Both.B1=true:=by kernel_rfl
set_option maxHeartbeats 8000000 in
set_option maxRecDepth 100000 in
theorem names_Both.calls (k:Nat) (a0_0:Bool) (A0_1:Option Addr) (c0_1:Nat) (l0_1:List ByteArray) (a1_0:Bool) (A1_1:Option Addr) (c1_1:Nat) (l1_1:List ByteArray) (r1:Bool) (r2:List ByteArray) (w:World) (hr0_1:Kd.C Kd.string w A0_1 l0_1.length l0_1) (hc0_1:l0_1.length≤c0_1) (hr1_1:Kd.C Kd.string w A1_1 l1_1.length l1_1) (hc1_1:l1_1.length≤c1_1) (h:names_Both.f k a0_0 l0_1 a1_0 l1_1=some (r1,r2)) :
  Calls Try.prog 49 #[.agg #[.bool a0_0,.slice A0_1 l0_1.length c0_1],.agg #[.bool a1_0,.slice A1_1 l1_1.length c1_1]] w fun e w'=>∃ v1_:Value,e=.returned (.agg #[.bool r1,v1_])∧Kd.R Kd.string 9 w' w.heap.size (fun _=>True) v1_ r2∧Below w.heap.size w w':=by
 have hu38:=Try.underlying38
 have hu87:=Try.underlying87
 have HR0_1:=Az.mk hr0_1
 have HC0_1:=Az.mk hc0_1
 clear hr0_1 hc0_1
 have HR1_1:=Az.mk hr1_1
 have HC1_1:=Az.mk hc1_1
 clear hr1_1 hc1_1
 have HB:=Az.mk (Below.refl w.heap.size w)
 have H:((names_of_string.f l0_1).bind fun t369=>((names_of_string.f l1_1).bind fun t372=>(if a0_0=true then (names_Both.j0 k a1_0 a0_0 l0_1 a1_0 l1_1 t369 t372) else (names_Both.j0 k false a0_0 l0_1 a1_0 l1_1 t369 t372))))=some (r1,r2):=h
 clear h
 replace H:=Option.bind_eq_some_iff.mp H
 obtain ⟨t369,A30,H⟩:=H
 replace H:((names_of_string.f l1_1).bind fun t372=>(if a0_0=true then (names_Both.j0 k a1_0 a0_0 l0_1 a1_0 l1_1 t369 t372) else (names_Both.j0 k false a0_0 l0_1 a1_0 l1_1 t369 t372)))=some (r1,r2):=H
 have A3:=Az.mk A30
 clear A30
 replace H:=Option.bind_eq_some_iff.mp H
 obtain ⟨t372,A40,H⟩:=H
 replace H:(if a0_0=true then (names_Both.j0 k a1_0 a0_0 l0_1 a1_0 l1_1 t369 t372) else (names_Both.j0 k false a0_0 l0_1 a1_0 l1_1 t369 t372))=some (r1,r2):=H
 have A4:=Az.mk A40
 clear A40
 have HC5:=Az.mk H
 clear H
 go_enter Try.func49,Try.ntmps49
 try go_wp2_with (first|((with_reducible refine gate_dst (N:=2) rfl ?_);refine box_event ?hg (N:=2) ?hd (cs:=#[.bool a0_0,.slice A0_1 l0_1.length c0_1]) (t:=38) ?hr ?_;(case hd=>rfl);(case hg=>rfl);(case hr=>first|(go_simp;done)|(go_simp;rfl));intro gb366 hg w6 hbox hb;have n0_:=Az.mk (below_step (by repeat (first|(with_reducible first|exact HB.out|apply bA_|apply bN_|apply bD_)|exact HB.out)) hb);have n1_:=Az.mk (hbox);have n2_:=Az.mk ((by rw [hg];exact (be_ (by repeat (first|(with_reducible first|exact HB.out|apply bA_|apply bN_|apply bD_)|exact HB.out))):w.heap.size≤gb366));have n3_:=Az.mk ((by rw [hg];exact (be_ (by repeat (first|(with_reducible first|exact HB.out|apply bA_|apply bN_|apply bD_)|exact HB.out))):w.heap.size≤gb366));clear HB;have HB:=n0_;have BK366:=n1_;have GW366:=n2_;have GE366:=n3_;clear n0_ n1_ n2_ n3_;clear hb hbox hg)|((with_reducible refine gate_dst (N:=3) rfl ?_);refine box_event ?hg (N:=3) ?hd (cs:=#[.bool a1_0,.slice A1_1 l1_1.length c1_1]) (t:=38) ?hr ?_;(case hd=>rfl);(case hg=>rfl);(case hr=>first|(go_simp;done)|(go_simp;rfl));intro gb367 hg w7 hbox hb;have n0_:=Az.mk (bb_ (g:=gb366) (o:=.cells #[.bool a0_0,.slice A0_1 l0_1.length c0_1] 38 (0,0)) (by (with_reducible repeat (first|refine bq_ ?_ _|refine bw_ ?_|refine bz_ ?_ _));exact BK366.out) hb);have n1_:=Az.mk (below_step (by repeat (first|(with_reducible first|exact HB.out|apply bA_|apply bN_|apply bD_|refine bs_ ?_ GE366.out)|exact HB.out)) hb);have n2_:=Az.mk (hbox);have n3_:=Az.mk ((by rw [hg];exact (be_ (by repeat (first|(with_reducible first|exact HB.out|apply bA_|apply bN_|apply bD_|refine bs_ ?_ GE366.out)|exact HB.out))):w.heap.size≤gb367));have n4_:=Az.mk ((by rw [hg];exact (be_ (by repeat (first|(with_reducible first|exact HB.out|apply bA_|apply bN_|apply bD_|refine bs_ ?_ GE366.out)|exact HB.out))):w.heap.size≤gb367));have n5_:=Az.mk ((by rw [hg];exact Nat.ne_of_lt (blk_lt (g:=gb366) (o:=.cells #[.bool a0_0,.slice A0_1 l0_1.length c0_1] 38 (0,0)) (by (with_reducible repeat (first|refine bq_ ?_ _|refine bw_ ?_|refine bz_ ?_ _));exact BK366.out)):gb366≠gb367));have n6_:=Az.mk ((by rw [hg];exact Nat.ne_of_gt (blk_lt (g:=gb366) (o:=.cells #[.bool a0_0,.slice A0_1 l0_1.length c0_1] 38 (0,0)) (by (with_reducible repeat (first|refine bq_ ?_ _|refine bw_ ?_|refine bz_ ?_ _));exact BK366.out)):gb367≠gb366));clear BK366;clear HB;have BK366:=n0_;have HB:=n1_;have BK367:=n2_;have GW367:=n3_;have GE367:=n4_;have NB366_367:=n5_;have NB367_366:=n6_;clear n0_ n1_ n2_ n3_ n4_ n5_ n6_;clear hb hbox hg)|((with_reducible refine gate_dst (N:=4) rfl ?_);refine box_event ?hg (N:=4) ?hd (cs:=#[.bool false,.slice none 0 0]) (t:=38) ?hr ?_;(case hd=>rfl);(case hg=>rfl);(case hr=>first|(go_simp;done)|(go_simp;rfl));intro gb368 hg w8 hbox hb;have n0_:=Az.mk (bb_ (g:=gb366) (o:=.cells #[.bool a0_0,.slice A0_1 l0_1.length c0_1] 38 (0,0)) (by (with_reducible repeat (first|refine bq_ ?_ _|refine bw_ ?_|refine bz_ ?_ _));exact BK366.out) hb);have n1_:=Az.mk (bb_ (g:=gb367) (o:=.cells #[.bool a1_0,.slice A1_1 l1_1.length c1_1] 38 (0,0)) (by (with_reducible repeat (first|refine bq_ ?_ _|refine bw_ ?_|refine bz_ ?_ _));exact BK367.out) hb);have n2_:=Az.mk (below_step (by repeat (first|(with_reducible first|exact HB.out|apply bA_|apply bN_|apply bD_|refine bs_ ?_ GE366.out|refine bs_ ?_ GE367.out)|exact HB.out)) hb);have n3_:=Az.mk (hbox);have n4_:=Az.mk ((by rw [hg];exact (be_ (by repeat (first|(with_reducible first|exact HB.out|apply bA_|apply bN_|apply bD_|refine bs_ ?_ GE366.out|refine bs_ ?_ GE367.out)|exact HB.out))):w.heap.size≤gb368));have n5_:=Az.mk ((by rw [hg];exact (be_ (by repeat (first|(with_reducible first|exact HB.out|apply bA_|apply bN_|apply bD_|refine bs_ ?_ GE366.out|refine bs_ ?_ GE367.out)|exact HB.out))):w.heap.size≤gb368));have n6_:=Az.mk ((by rw [hg];exact Nat.ne_of_lt (blk_lt (g:=gb366) (o:=.cells #[.bool a0_0,.slice A0_1 l0_1.length c0_1] 38 (0,0)) (by (with_reducible repeat (first|refine bq_ ?_ _|refine bw_ ?_|refine bz_ ?_ _));exact BK366.out)):gb366≠gb368));have n7_:=Az.mk ((by rw [hg];exact Nat.ne_of_gt (blk_lt (g:=gb366) (o:=.cells #[.bool a0_0,.slice A0_1 l0_1.length c0_1] 38 (0,0)) (by (with_reducible repeat (first|refine bq_ ?_ _|refine bw_ ?_|refine bz_ ?_ _));exact BK366.out)):gb368≠gb366));have n8_:=Az.mk ((by rw [hg];exact Nat.ne_of_lt (blk_lt (g:=gb367) (o:=.cells #[.bool a1_0,.slice A1_1 l1_1.length c1_1] 38 (0,0)) (by (with_reducible repeat (first|refine bq_ ?_ _|refine bw_ ?_|refine bz_ ?_ _));exact BK367.out)):gb367≠gb368));have n9_:=Az.mk ((by rw [hg];exact Nat.ne_of_gt (blk_lt (g:=gb367) (o:=.cells #[.bool a1_0,.slice A1_1 l1_1.length c1_1] 38 (0,0)) (by (with_reducible repeat (first|refine bq_ ?_ _|refine bw_ ?_|refine bz_ ?_ _));exact BK367.out)):gb368≠gb367));clear BK366;clear BK367;clear HB;have BK366:=n0_;have BK367:=n1_;have HB:=n2_;have BK368:=n3_;have GW368:=n4_;have GE368:=n5_;have NB366_368:=n6_;have NB368_366:=n7_;have NB367_368:=n8_;have NB368_367:=n9_;clear n0_ n1_ n2_ n3_ n4_ n5_ n6_ n7_ n8_ n9_;clear hb hbox hg))
 have n0_:=Az.mk (bw_ BK366.out)
 have n1_:=Az.mk (bw_ BK367.out)
 have n2_:=Az.mk (bw_ BK368.out)
 have n3_:=Az.mk (bD_ HB.out)
 clear BK366
 clear BK367
 clear BK368
 clear HB
 have BK366:=n0_
 have BK367:=n1_
 have BK368:=n2_
 have HB:=n3_
 clear n0_ n1_ n2_ n3_
 refine start_ (n:=10) (S:=fun w'=>w'.cell? ⟨gb366,0,none⟩=some (.bool a0_0)∧w'.cell? ⟨gb366,1,none⟩=some (.slice A0_1 l0_1.length c0_1)∧w'.cell? ⟨gb367,0,none⟩=some (.bool a1_0)∧w'.cell? ⟨gb367,1,none⟩=some (.slice A1_1 l1_1.length c1_1)) (ds:=[]) #[false,false,false,false,false,false,false,false,false,false] (by kernel_rfl) rfl rfl ⟨(bc_ BK366.out 0).trans rfl,(bc_ BK366.out 1).trans rfl,(bc_ BK367.out 0).trans rfl,(bc_ BK367.out 1).trans rfl⟩ (fun hHeld=>?_);refine with_tabW names_Both.tab1 names_Both.bits1 (fun HT_ HW_=>?_)
 generalize w8.drew=w9 at BK366 BK367 BK368 HB hHeld ⊢
 refine pure_ (i:=0) (N:=some 7) (v:=?_) (a':=?_) #[true,false,false,false,false,false,false,false,false,false] rfl rfl (any_of HT_.out (by kernel_rfl)) (fun _ _ _ h=>h) (Or.inl ⟨by rfl,?_⟩) ?_ ?_
 rotate_left
 ·intro w'
  go_simp
  with_reducible rfl
 rotate_left
 ·simp only [Act.put,sA_,sB_,sC_,i64_w,i32_w]
  rfl
 refine pure_ (i:=3) (N:=some 10) (v:=?_) (a':=?_) #[true,false,false,true,false,false,false,false,false,false] rfl rfl (any_of HT_.out (by kernel_rfl)) (fun _ _ _ h=>h) (Or.inl ⟨by rfl,?_⟩) ?_ ?_
 rotate_left
 ·intro w'
  go_simp
  with_reducible rfl
 rotate_left
 ·simp only [Act.put,sA_,sB_,sC_,i64_w,i32_w]
  rfl
 refine take_ (i:=1) (N:=some 8) (v:=?_) (a':=?_) #[true,true,false,true,false,false,false,false,false,false] rfl rfl (take_ofW HT_.out HW_.out (by kernel_rfl)) (fun _ _ _ h=>h) (Or.inl ⟨by rfl,?_⟩) hHeld ?_ ?_
 rotate_left
 ·rintro w' ⟨s0,s1,s2,s3⟩
  go_simp
  with_reducible rfl
 rotate_left
 ·simp only [Act.put,sA_,sB_,sC_,i64_w,i32_w]
  rfl
 refine take_ (i:=4) (N:=some 11) (v:=?_) (a':=?_) #[true,true,false,true,true,false,false,false,false,false] rfl rfl (take_ofW HT_.out HW_.out (by kernel_rfl)) (fun _ _ _ h=>h) (Or.inl ⟨by rfl,?_⟩) hHeld ?_ ?_
 rotate_left
 ·rintro w' ⟨s0,s1,s2,s3⟩
  go_simp
  with_reducible rfl
 rotate_left
 ·simp only [Act.put,sA_,sB_,sC_,i64_w,i32_w]
  rfl
 refine join_ (σ:=Value × Value × Nat × Nat) 2 #[true,true,true,true,true,true,true,true,false,false] (fun s_=>[(9,.agg #[s_.1]),(12,.agg #[s_.2.1]),(5,.pointer (some ⟨s_.2.2.1,0,none⟩)),(6,.pointer (some ⟨s_.2.2.2,0,none⟩))]) (fun s_ w'=>(w'.cell? ⟨gb366,0,none⟩=some (.bool a0_0)∧w'.cell? ⟨gb366,1,none⟩=some (.slice A0_1 l0_1.length c0_1)∧w'.cell? ⟨gb367,0,none⟩=some (.bool a1_0)∧w'.cell? ⟨gb367,1,none⟩=some (.slice A1_1 l1_1.length c1_1))∧(Kd.R Kd.string 9 w' w.heap.size (fun k_=>some k_≠(s_.2.1:Value).ownBlock) s_.1 t369)∧(Kd.R Kd.string 9 w' w.heap.size (fun k_=>some k_≠(s_.1:Value).ownBlock) s_.2.1 t372)∧(w'.heap[gb366]? = some (.cells #[.bool a0_0,.slice A0_1 l0_1.length c0_1] 38 (0,0)))∧(w'.heap[gb367]? = some (.cells #[.bool a1_0,.slice A1_1 l1_1.length c1_1] 38 (0,0)))∧(w'.heap[gb368]? = some (.cells #[.bool false,.slice none 0 0] 38 (0,0)))∧(w'.heap[s_.2.2.1]? = some (.cells #[.slice none 0 0] 87 (0,0)))∧(w'.heap[s_.2.2.2]? = some (.cells #[.slice none 0 0] 87 (0,0)))∧(w.heap.size≤s_.2.2.1)∧(w.heap.size≤s_.2.2.1)∧(gb366≠s_.2.2.1)∧(s_.2.2.1≠gb366)∧(gb367≠s_.2.2.1)∧(s_.2.2.1≠gb367)∧(gb368≠s_.2.2.1)∧(s_.2.2.1≠gb368)∧(s_.2.2.2≠s_.2.2.1)∧(s_.2.2.1≠s_.2.2.2)∧(w.heap.size≤s_.2.2.2)∧(w.heap.size≤s_.2.2.2)∧(gb366≠s_.2.2.2)∧(s_.2.2.2≠gb366)∧(gb367≠s_.2.2.2)∧(s_.2.2.2≠gb367)∧(gb368≠s_.2.2.2)∧(s_.2.2.2≠gb368)∧(Below w.heap.size w w')) ?_ ?_
 rotate_left
 ·intro hJ2_5_6_7
  refine join_ (σ:=Value × Value × Nat) 3 #[true,true,true,true,true,true,true,false,false,false] (fun s_=>[(9,.agg #[s_.1]),(12,.agg #[s_.2.1]),(5,.pointer (some ⟨s_.2.2,0,none⟩))]) (fun s_ w'=>(w'.cell? ⟨gb366,0,none⟩=some (.bool a0_0)∧w'.cell? ⟨gb366,1,none⟩=some (.slice A0_1 l0_1.length c0_1)∧w'.cell? ⟨gb367,0,none⟩=some (.bool a1_0)∧w'.cell? ⟨gb367,1,none⟩=some (.slice A1_1 l1_1.length c1_1))∧(Kd.R Kd.string 9 w' w.heap.size (fun k_=>some k_≠(s_.2.1:Value).ownBlock) s_.1 t369)∧(Kd.R Kd.string 9 w' w.heap.size (fun k_=>some k_≠(s_.1:Value).ownBlock) s_.2.1 t372)∧(w'.heap[gb366]? = some (.cells #[.bool a0_0,.slice A0_1 l0_1.length c0_1] 38 (0,0)))∧(w'.heap[gb367]? = some (.cells #[.bool a1_0,.slice A1_1 l1_1.length c1_1] 38 (0,0)))∧(w'.heap[gb368]? = some (.cells #[.bool false,.slice none 0 0] 38 (0,0)))∧(w'.heap[s_.2.2]? = some (.cells #[.slice none 0 0] 87 (0,0)))∧(w.heap.size≤s_.2.2)∧(w.heap.size≤s_.2.2)∧(gb366≠s_.2.2)∧(s_.2.2≠gb366)∧(gb367≠s_.2.2)∧(s_.2.2≠gb367)∧(gb368≠s_.2.2)∧(s_.2.2≠gb368)∧(Below w.heap.size w w')) ?_ ?_
  rotate_left
  ·intro hJ2_5_6
   refine join_ (σ:=Value × Value × Nat) 3 #[true,true,true,true,true,true,false,true,false,false] (fun s_=>[(9,.agg #[s_.1]),(12,.agg #[s_.2.1]),(6,.pointer (some ⟨s_.2.2,0,none⟩))]) (fun s_ w'=>(w'.cell? ⟨gb366,0,none⟩=some (.bool a0_0)∧w'.cell? ⟨gb366,1,none⟩=some (.slice A0_1 l0_1.length c0_1)∧w'.cell? ⟨gb367,0,none⟩=some (.bool a1_0)∧w'.cell? ⟨gb367,1,none⟩=some (.slice A1_1 l1_1.length c1_1))∧(Kd.R Kd.string 9 w' w.heap.size (fun k_=>some k_≠(s_.2.1:Value).ownBlock) s_.1 t369)∧(Kd.R Kd.string 9 w' w.heap.size (fun k_=>some k_≠(s_.1:Value).ownBlock) s_.2.1 t372)∧(w'.heap[gb366]? = some (.cells #[.bool a0_0,.slice A0_1 l0_1.length c0_1] 38 (0,0)))∧(w'.heap[gb367]? = some (.cells #[.bool a1_0,.slice A1_1 l1_1.length c1_1] 38 (0,0)))∧(w'.heap[gb368]? = some (.cells #[.bool false,.slice none 0 0] 38 (0,0)))∧(w'.heap[s_.2.2]? = some (.cells #[.slice none 0 0] 87 (0,0)))∧(w.heap.size≤s_.2.2)∧(w.heap.size≤s_.2.2)∧(gb366≠s_.2.2)∧(s_.2.2≠gb366)∧(gb367≠s_.2.2)∧(s_.2.2≠gb367)∧(gb368≠s_.2.2)∧(s_.2.2≠gb368)∧(Below w.heap.size w w')) ?_ ?_
   rotate_left
   ·intro hJ2_5_7
    refine join_ (σ:=Value × Nat × Nat) 3 #[true,true,true,true,true,false,true,true,false,false] (fun s_=>[(9,.agg #[s_.1]),(5,.pointer (some ⟨s_.2.1,0,none⟩)),(6,.pointer (some ⟨s_.2.2,0,none⟩))]) (fun s_ w'=>(w'.cell? ⟨gb366,0,none⟩=some (.bool a0_0)∧w'.cell? ⟨gb366,1,none⟩=some (.slice A0_1 l0_1.length c0_1)∧w'.cell? ⟨gb367,0,none⟩=some (.bool a1_0)∧w'.cell? ⟨gb367,1,none⟩=some (.slice A1_1 l1_1.length c1_1))∧(Kd.R Kd.string 9 w' w.heap.size (fun _=>True) s_.1 t369)∧(w'.heap[gb366]? = some (.cells #[.bool a0_0,.slice A0_1 l0_1.length c0_1] 38 (0,0)))∧(w'.heap[gb367]? = some (.cells #[.bool a1_0,.slice A1_1 l1_1.length c1_1] 38 (0,0)))∧(w'.heap[gb368]? = some (.cells #[.bool false,.slice none 0 0] 38 (0,0)))∧(w'.heap[s_.2.1]? = some (.cells #[.slice none 0 0] 87 (0,0)))∧(w'.heap[s_.2.2]? = some (.cells #[.slice none 0 0] 87 (0,0)))∧(w.heap.size≤s_.2.1)∧(w.heap.size≤s_.2.1)∧(gb366≠s_.2.1)∧(s_.2.1≠gb366)∧(gb367≠s_.2.1)∧(s_.2.1≠gb367)∧(gb368≠s_.2.1)∧(s_.2.1≠gb368)∧(s_.2.2≠s_.2.1)∧(s_.2.1≠s_.2.2)∧(w.heap.size≤s_.2.2)∧(w.heap.size≤s_.2.2)∧(gb366≠s_.2.2)∧(s_.2.2≠gb366)∧(gb367≠s_.2.2)∧(s_.2.2≠gb367)∧(gb368≠s_.2.2)∧(s_.2.2≠gb368)∧(Below w.heap.size w w')) ?_ ?_
    rotate_left
    ·intro hJ2_6_7
     refine join_ (σ:=Value × Value) 4 #[true,true,true,true,true,true,false,false,false,false] (fun s_=>[(9,.agg #[s_.1]),(12,.agg #[s_.2])]) (fun s_ w'=>(w'.cell? ⟨gb366,0,none⟩=some (.bool a0_0)∧w'.cell? ⟨gb366,1,none⟩=some (.slice A0_1 l0_1.length c0_1)∧w'.cell? ⟨gb367,0,none⟩=some (.bool a1_0)∧w'.cell? ⟨gb367,1,none⟩=some (.slice A1_1 l1_1.length c1_1))∧(Kd.R Kd.string 9 w' w.heap.size (fun k_=>some k_≠(s_.2:Value).ownBlock) s_.1 t369)∧(Kd.R Kd.string 9 w' w.heap.size (fun k_=>some k_≠(s_.1:Value).ownBlock) s_.2 t372)∧(w'.heap[gb366]? = some (.cells #[.bool a0_0,.slice A0_1 l0_1.length c0_1] 38 (0,0)))∧(w'.heap[gb367]? = some (.cells #[.bool a1_0,.slice A1_1 l1_1.length c1_1] 38 (0,0)))∧(w'.heap[gb368]? = some (.cells #[.bool false,.slice none 0 0] 38 (0,0)))∧(Below w.heap.size w w')) ?_ ?_
     rotate_left
     ·intro hJ2_5
      refine join_ (σ:=Value × Nat) 4 #[true,true,true,true,true,false,true,false,false,false] (fun s_=>[(9,.agg #[s_.1]),(5,.pointer (some ⟨s_.2,0,none⟩))]) (fun s_ w'=>(w'.cell? ⟨gb366,0,none⟩=some (.bool a0_0)∧w'.cell? ⟨gb366,1,none⟩=some (.slice A0_1 l0_1.length c0_1)∧w'.cell? ⟨gb367,0,none⟩=some (.bool a1_0)∧w'.cell? ⟨gb367,1,none⟩=some (.slice A1_1 l1_1.length c1_1))∧(Kd.R Kd.string 9 w' w.heap.size (fun _=>True) s_.1 t369)∧(w'.heap[gb366]? = some (.cells #[.bool a0_0,.slice A0_1 l0_1.length c0_1] 38 (0,0)))∧(w'.heap[gb367]? = some (.cells #[.bool a1_0,.slice A1_1 l1_1.length c1_1] 38 (0,0)))∧(w'.heap[gb368]? = some (.cells #[.bool false,.slice none 0 0] 38 (0,0)))∧(w'.heap[s_.2]? = some (.cells #[.slice none 0 0] 87 (0,0)))∧(w.heap.size≤s_.2)∧(w.heap.size≤s_.2)∧(gb366≠s_.2)∧(s_.2≠gb366)∧(gb367≠s_.2)∧(s_.2≠gb367)∧(gb368≠s_.2)∧(s_.2≠gb368)∧(Below w.heap.size w w')) ?_ ?_
      rotate_left
      ·intro hJ2_6
       refine join_ (σ:=Value × Nat) 4 #[true,true,true,true,true,false,false,true,false,false] (fun s_=>[(9,.agg #[s_.1]),(6,.pointer (some ⟨s_.2,0,none⟩))]) (fun s_ w'=>(w'.cell? ⟨gb366,0,none⟩=some (.bool a0_0)∧w'.cell? ⟨gb366,1,none⟩=some (.slice A0_1 l0_1.length c0_1)∧w'.cell? ⟨gb367,0,none⟩=some (.bool a1_0)∧w'.cell? ⟨gb367,1,none⟩=some (.slice A1_1 l1_1.length c1_1))∧(Kd.R Kd.string 9 w' w.heap.size (fun _=>True) s_.1 t369)∧(w'.heap[gb366]? = some (.cells #[.bool a0_0,.slice A0_1 l0_1.length c0_1] 38 (0,0)))∧(w'.heap[gb367]? = some (.cells #[.bool a1_0,.slice A1_1 l1_1.length c1_1] 38 (0,0)))∧(w'.heap[gb368]? = some (.cells #[.bool false,.slice none 0 0] 38 (0,0)))∧(w'.heap[s_.2]? = some (.cells #[.slice none 0 0] 87 (0,0)))∧(w.heap.size≤s_.2)∧(w.heap.size≤s_.2)∧(gb366≠s_.2)∧(s_.2≠gb366)∧(gb367≠s_.2)∧(s_.2≠gb367)∧(gb368≠s_.2)∧(s_.2≠gb368)∧(Below w.heap.size w w')) ?_ ?_
       rotate_left
       ·intro hJ2_7
        refine join_ (σ:=Nat × Nat) 4 #[true,true,false,true,true,false,true,true,false,false] (fun s_=>[(5,.pointer (some ⟨s_.1,0,none⟩)),(6,.pointer (some ⟨s_.2,0,none⟩))]) (fun s_ w'=>(w'.cell? ⟨gb366,0,none⟩=some (.bool a0_0)∧w'.cell? ⟨gb366,1,none⟩=some (.slice A0_1 l0_1.length c0_1)∧w'.cell? ⟨gb367,0,none⟩=some (.bool a1_0)∧w'.cell? ⟨gb367,1,none⟩=some (.slice A1_1 l1_1.length c1_1))∧(w'.heap[gb366]? = some (.cells #[.bool a0_0,.slice A0_1 l0_1.length c0_1] 38 (0,0)))∧(w'.heap[gb367]? = some (.cells #[.bool a1_0,.slice A1_1 l1_1.length c1_1] 38 (0,0)))∧(w'.heap[gb368]? = some (.cells #[.bool false,.slice none 0 0] 38 (0,0)))∧(w'.heap[s_.1]? = some (.cells #[.slice none 0 0] 87 (0,0)))∧(w'.heap[s_.2]? = some (.cells #[.slice none 0 0] 87 (0,0)))∧(w.heap.size≤s_.1)∧(w.heap.size≤s_.1)∧(gb366≠s_.1)∧(s_.1≠gb366)∧(gb367≠s_.1)∧(s_.1≠gb367)∧(gb368≠s_.1)∧(s_.1≠gb368)∧(s_.2≠s_.1)∧(s_.1≠s_.2)∧(w.heap.size≤s_.2)∧(w.heap.size≤s_.2)∧(gb366≠s_.2)∧(s_.2≠gb366)∧(gb367≠s_.2)∧(s_.2≠gb367)∧(gb368≠s_.2)∧(s_.2≠gb368)∧(Below w.heap.size w w')) ?_ ?_
        rotate_left
        ·intro hJ6_7
         refine join_ (σ:=Value) 5 #[true,true,true,true,true,false,false,false,false,false] (fun s_=>[(9,.agg #[s_])]) (fun s_ w'=>(w'.cell? ⟨gb366,0,none⟩=some (.bool a0_0)∧w'.cell? ⟨gb366,1,none⟩=some (.slice A0_1 l0_1.length c0_1)∧w'.cell? ⟨gb367,0,none⟩=some (.bool a1_0)∧w'.cell? ⟨gb367,1,none⟩=some (.slice A1_1 l1_1.length c1_1))∧(Kd.R Kd.string 9 w' w.heap.size (fun _=>True) s_ t369)∧(w'.heap[gb366]? = some (.cells #[.bool a0_0,.slice A0_1 l0_1.length c0_1] 38 (0,0)))∧(w'.heap[gb367]? = some (.cells #[.bool a1_0,.slice A1_1 l1_1.length c1_1] 38 (0,0)))∧(w'.heap[gb368]? = some (.cells #[.bool false,.slice none 0 0] 38 (0,0)))∧(Below w.heap.size w w')) ?_ ?_
         rotate_left
         ·intro hJ2
          refine join_ (σ:=Nat) 5 #[true,true,false,true,true,false,true,false,false,false] (fun s_=>[(5,.pointer (some ⟨s_,0,none⟩))]) (fun s_ w'=>(w'.cell? ⟨gb366,0,none⟩=some (.bool a0_0)∧w'.cell? ⟨gb366,1,none⟩=some (.slice A0_1 l0_1.length c0_1)∧w'.cell? ⟨gb367,0,none⟩=some (.bool a1_0)∧w'.cell? ⟨gb367,1,none⟩=some (.slice A1_1 l1_1.length c1_1))∧(w'.heap[gb366]? = some (.cells #[.bool a0_0,.slice A0_1 l0_1.length c0_1] 38 (0,0)))∧(w'.heap[gb367]? = some (.cells #[.bool a1_0,.slice A1_1 l1_1.length c1_1] 38 (0,0)))∧(w'.heap[gb368]? = some (.cells #[.bool false,.slice none 0 0] 38 (0,0)))∧(w'.heap[s_]? = some (.cells #[.slice none 0 0] 87 (0,0)))∧(w.heap.size≤s_)∧(w.heap.size≤s_)∧(gb366≠s_)∧(s_≠gb366)∧(gb367≠s_)∧(s_≠gb367)∧(gb368≠s_)∧(s_≠gb368)∧(Below w.heap.size w w')) ?_ ?_
          rotate_left
          ·intro hJ6
           refine join_ (σ:=Nat) 5 #[true,true,false,true,true,false,false,true,false,false] (fun s_=>[(6,.pointer (some ⟨s_,0,none⟩))]) (fun s_ w'=>(w'.cell? ⟨gb366,0,none⟩=some (.bool a0_0)∧w'.cell? ⟨gb366,1,none⟩=some (.slice A0_1 l0_1.length c0_1)∧w'.cell? ⟨gb367,0,none⟩=some (.bool a1_0)∧w'.cell? ⟨gb367,1,none⟩=some (.slice A1_1 l1_1.length c1_1))∧(w'.heap[gb366]? = some (.cells #[.bool a0_0,.slice A0_1 l0_1.length c0_1] 38 (0,0)))∧(w'.heap[gb367]? = some (.cells #[.bool a1_0,.slice A1_1 l1_1.length c1_1] 38 (0,0)))∧(w'.heap[gb368]? = some (.cells #[.bool false,.slice none 0 0] 38 (0,0)))∧(w'.heap[s_]? = some (.cells #[.slice none 0 0] 87 (0,0)))∧(w.heap.size≤s_)∧(w.heap.size≤s_)∧(gb366≠s_)∧(s_≠gb366)∧(gb367≠s_)∧(s_≠gb367)∧(gb368≠s_)∧(s_≠gb368)∧(Below w.heap.size w w')) ?_ ?_
           rotate_left
           ·intro hJ7
            refine three_ (i:=2) (j:=6) (k:=7) (Ni:=some 9) (Nj:=some 5) (Nk:=some 6) #[true,true,true,true,true,false,false,false,false,false] #[true,true,false,true,true,false,true,false,false,false] #[true,true,false,true,true,false,false,true,false,false] rfl rfl rfl rfl rfl rfl (three_of HT_.out (by kernel_rfl)) (by decide) (by decide) (by decide) (fun K hK=>?_) (fun K hK=>?_) (fun K hK=>?_)
            ·skip
             refine goes_ Try.func61 (by kernel_rfl) rfl #[.slice A0_1 l0_1.length c0_1] (by rfl) rfl rfl (by (try simp only [List.map_toArray,List.map_cons,List.map_nil]);first|done|rfl|(simp only [List.length_drop,List.length_take];rfl)) ?_
             with_reducible refine (names_of_string.calls _ _ l0_1 t369 _ ?side1 ?side2 A3.out).mono ?_
             (case side1=>repeat (first|exact (Kd.C_below HR0_1.out HB.out)|(with_reducible refine cA_ ?_ _)|(with_reducible refine cN_ ?_ _)|(with_reducible refine cD_ ?_)))
             (case side2=>exact HC0_1.out)
             rintro e w10 ⟨v370,rfl,ho0,hb⟩
             refine ⟨_,rfl,?_⟩
             have n0_:=Az.mk (Kd.R_lower ho0 (be_ (by repeat (first|(with_reducible first|exact HB.out|apply bA_|apply bN_|apply bD_|refine bs_ ?_ GE366.out|refine bs_ ?_ GE367.out|refine bs_ ?_ GE368.out)|exact HB.out))))
             have n1_:=Az.mk (bb_ (g:=gb366) (o:=.cells #[.bool a0_0,.slice A0_1 l0_1.length c0_1] 38 (0,0)) (by (with_reducible repeat (first|refine bq_ ?_ _|refine bw_ ?_|refine bz_ ?_ _));exact BK366.out) hb)
             have n2_:=Az.mk (bb_ (g:=gb367) (o:=.cells #[.bool a1_0,.slice A1_1 l1_1.length c1_1] 38 (0,0)) (by (with_reducible repeat (first|refine bq_ ?_ _|refine bw_ ?_|refine bz_ ?_ _));exact BK367.out) hb)
             have n3_:=Az.mk (bb_ (g:=gb368) (o:=.cells #[.bool false,.slice none 0 0] 38 (0,0)) (by (with_reducible repeat (first|refine bq_ ?_ _|refine bw_ ?_|refine bz_ ?_ _));exact BK368.out) hb)
             have n4_:=Az.mk (below_step (by repeat (first|(with_reducible first|exact HB.out|apply bA_|apply bN_|apply bD_|refine bs_ ?_ GE366.out|refine bs_ ?_ GE367.out|refine bs_ ?_ GE368.out)|exact HB.out)) hb)
             clear BK366
             clear BK367
             clear BK368
             clear HB
             have HO371:=n0_
             have BK366:=n1_
             have BK367:=n2_
             have BK368:=n3_
             have HB:=n4_
             clear n0_ n1_ n2_ n3_ n4_
             (try clear hb)
             (try clear hb2)
             (try clear hk)
             (try clear hi)
             (try clear ho0)
             refine hK.out _ _ ⟨(bc_ BK366.out 0).trans rfl,(bc_ BK366.out 1).trans rfl,(bc_ BK367.out 0).trans rfl,(bc_ BK367.out 1).trans rfl⟩ (fun hHeld=>?_)
             clear hK K
             refine norm_ (a':=?_) ?_ ?_
             rotate_left
             ·show Act.put _ (some 9) _=_
              simp only [Act.put,sA_,sB_,sC_,i64_w,i32_w]
              rfl
             exact norm_ (by first|(simp only [putAll,Act.put,sA_,sB_,sC_];done)|(simp only [putAll,Act.put,sA_,sB_,sC_];rfl)) (hJ2 (v370) _ ⟨hHeld,(by (with_reducible repeat (first|apply rA_|apply rN_|apply rD_));exact HO371.out),(by (with_reducible repeat (first|refine bq_ ?_ _|refine bw_ ?_|refine bz_ ?_ _));exact BK366.out),(by (with_reducible repeat (first|refine bq_ ?_ _|refine bw_ ?_|refine bz_ ?_ _));exact BK367.out),(by (with_reducible repeat (first|refine bq_ ?_ _|refine bw_ ?_|refine bz_ ?_ _));exact BK368.out),(by repeat (first|(with_reducible first|exact HB.out|apply bA_|apply bN_|apply bD_|refine bs_ ?_ GE366.out|refine bs_ ?_ GE367.out|refine bs_ ?_ GE368.out)|exact HB.out))⟩)
            ·skip
             refine box_step ?hg (N:=5) ?hd (cs:=#[.slice none 0 0]) (t:=87) ?hr ?_;(case hd=>rfl);(case hg=>rfl);(case hr=>first|(go_simp;done)|(go_simp;rfl))
             intro gb375 hg w10 hbox hb
             have n0_:=Az.mk (bb_ (g:=gb366) (o:=.cells #[.bool a0_0,.slice A0_1 l0_1.length c0_1] 38 (0,0)) (by (with_reducible repeat (first|refine bq_ ?_ _|refine bw_ ?_|refine bz_ ?_ _));exact BK366.out) hb)
             have n1_:=Az.mk (bb_ (g:=gb367) (o:=.cells #[.bool a1_0,.slice A1_1 l1_1.length c1_1] 38 (0,0)) (by (with_reducible repeat (first|refine bq_ ?_ _|refine bw_ ?_|refine bz_ ?_ _));exact BK367.out) hb)
             have n2_:=Az.mk (bb_ (g:=gb368) (o:=.cells #[.bool false,.slice none 0 0] 38 (0,0)) (by (with_reducible repeat (first|refine bq_ ?_ _|refine bw_ ?_|refine bz_ ?_ _));exact BK368.out) hb)
             have n3_:=Az.mk (below_step (by repeat (first|(with_reducible first|exact HB.out|apply bA_|apply bN_|apply bD_|refine bs_ ?_ GE366.out|refine bs_ ?_ GE367.out|refine bs_ ?_ GE368.out)|exact HB.out)) hb)
             have n4_:=Az.mk (hbox)
             have n5_:=Az.mk ((by rw [hg];exact (be_ (by repeat (first|(with_reducible first|exact HB.out|apply bA_|apply bN_|apply bD_|refine bs_ ?_ GE366.out|refine bs_ ?_ GE367.out|refine bs_ ?_ GE368.out)|exact HB.out))):w.heap.size≤gb375))
             have n6_:=Az.mk ((by rw [hg];exact (be_ (by repeat (first|(with_reducible first|exact HB.out|apply bA_|apply bN_|apply bD_|refine bs_ ?_ GE366.out|refine bs_ ?_ GE367.out|refine bs_ ?_ GE368.out)|exact HB.out))):w.heap.size≤gb375))
             have n7_:=Az.mk ((by rw [hg];exact Nat.ne_of_lt (blk_lt (g:=gb366) (o:=.cells #[.bool a0_0,.slice A0_1 l0_1.length c0_1] 38 (0,0)) (by (with_reducible repeat (first|refine bq_ ?_ _|refine bw_ ?_|refine bz_ ?_ _));exact BK366.out)):gb366≠gb375))
             have n8_:=Az.mk ((by rw [hg];exact Nat.ne_of_gt (blk_lt (g:=gb366) (o:=.cells #[.bool a0_0,.slice A0_1 l0_1.length c0_1] 38 (0,0)) (by (with_reducible repeat (first|refine bq_ ?_ _|refine bw_ ?_|refine bz_ ?_ _));exact BK366.out)):gb375≠gb366))
             have n9_:=Az.mk ((by rw [hg];exact Nat.ne_of_lt (blk_lt (g:=gb367) (o:=.cells #[.bool a1_0,.slice A1_1 l1_1.length c1_1] 38 (0,0)) (by (with_reducible repeat (first|refine bq_ ?_ _|refine bw_ ?_|refine bz_ ?_ _));exact BK367.out)):gb367≠gb375))
             have n10_:=Az.mk ((by rw [hg];exact Nat.ne_of_gt (blk_lt (g:=gb367) (o:=.cells #[.bool a1_0,.slice A1_1 l1_1.length c1_1] 38 (0,0)) (by (with_reducible repeat (first|refine bq_ ?_ _|refine bw_ ?_|refine bz_ ?_ _));exact BK367.out)):gb375≠gb367))
             have n11_:=Az.mk ((by rw [hg];exact Nat.ne_of_lt (blk_lt (g:=gb368) (o:=.cells #[.bool false,.slice none 0 0] 38 (0,0)) (by (with_reducible repeat (first|refine bq_ ?_ _|refine bw_ ?_|refine bz_ ?_ _));exact BK368.out)):gb368≠gb375))
             have n12_:=Az.mk ((by rw [hg];exact Nat.ne_of_gt (blk_lt (g:=gb368) (o:=.cells #[.bool false,.slice none 0 0] 38 (0,0)) (by (with_reducible repeat (first|refine bq_ ?_ _|refine bw_ ?_|refine bz_ ?_ _));exact BK368.out)):gb375≠gb368))
             clear BK366
             clear BK367
             clear BK368
             clear HB
             have BK366:=n0_
             have BK367:=n1_
             have BK368:=n2_
             have HB:=n3_
             have BK375:=n4_
             have GW375:=n5_
             have GE375:=n6_
             have NB366_375:=n7_
             have NB375_366:=n8_
             have NB367_375:=n9_
             have NB375_367:=n10_
             have NB368_375:=n11_
             have NB375_368:=n12_
             clear n0_ n1_ n2_ n3_ n4_ n5_ n6_ n7_ n8_ n9_ n10_ n11_ n12_
             clear hb hbox hg
             refine hK.out _ _ ⟨(bc_ BK366.out 0).trans rfl,(bc_ BK366.out 1).trans rfl,(bc_ BK367.out 0).trans rfl,(bc_ BK367.out 1).trans rfl⟩ (fun hHeld=>?_)
             clear hK K
             refine norm_ (a':=?_) ?_ ?_
             rotate_left
             ·show Act.put _ (some 5) _=_
              simp only [Act.put,sA_,sB_,sC_,i64_w,i32_w]
              rfl
             exact norm_ (by first|(simp only [putAll,Act.put,sA_,sB_,sC_];done)|(simp only [putAll,Act.put,sA_,sB_,sC_];rfl)) (hJ6 (gb375) _ ⟨hHeld,(by (with_reducible repeat (first|refine bq_ ?_ _|refine bw_ ?_|refine bz_ ?_ _));exact BK366.out),(by (with_reducible repeat (first|refine bq_ ?_ _|refine bw_ ?_|refine bz_ ?_ _));exact BK367.out),(by (with_reducible repeat (first|refine bq_ ?_ _|refine bw_ ?_|refine bz_ ?_ _));exact BK368.out),(by (with_reducible repeat (first|refine bq_ ?_ _|refine bw_ ?_|refine bz_ ?_ _));exact BK375.out),GW375.out,GE375.out,NB366_375.out,NB375_366.out,NB367_375.out,NB375_367.out,NB368_375.out,NB375_368.out,(by repeat (first|(with_reducible first|exact HB.out|apply bA_|apply bN_|apply bD_|refine bs_ ?_ GE366.out|refine bs_ ?_ GE367.out|refine bs_ ?_ GE368.out|refine bs_ ?_ GE375.out)|exact HB.out))⟩)
            ·skip
             refine box_step ?hg (N:=6) ?hd (cs:=#[.slice none 0 0]) (t:=87) ?hr ?_;(case hd=>rfl);(case hg=>rfl);(case hr=>first|(go_simp;done)|(go_simp;rfl))
             intro gb376 hg w10 hbox hb
             have n0_:=Az.mk (bb_ (g:=gb366) (o:=.cells #[.bool a0_0,.slice A0_1 l0_1.length c0_1] 38 (0,0)) (by (with_reducible repeat (first|refine bq_ ?_ _|refine bw_ ?_|refine bz_ ?_ _));exact BK366.out) hb)
             have n1_:=Az.mk (bb_ (g:=gb367) (o:=.cells #[.bool a1_0,.slice A1_1 l1_1.length c1_1] 38 (0,0)) (by (with_reducible repeat (first|refine bq_ ?_ _|refine bw_ ?_|refine bz_ ?_ _));exact BK367.out) hb)
             have n2_:=Az.mk (bb_ (g:=gb368) (o:=.cells #[.bool false,.slice none 0 0] 38 (0,0)) (by (with_reducible repeat (first|refine bq_ ?_ _|refine bw_ ?_|refine bz_ ?_ _));exact BK368.out) hb)
             have n3_:=Az.mk (below_step (by repeat (first|(with_reducible first|exact HB.out|apply bA_|apply bN_|apply bD_|refine bs_ ?_ GE366.out|refine bs_ ?_ GE367.out|refine bs_ ?_ GE368.out)|exact HB.out)) hb)
             have n4_:=Az.mk (hbox)
             have n5_:=Az.mk ((by rw [hg];exact (be_ (by repeat (first|(with_reducible first|exact HB.out|apply bA_|apply bN_|apply bD_|refine bs_ ?_ GE366.out|refine bs_ ?_ GE367.out|refine bs_ ?_ GE368.out)|exact HB.out))):w.heap.size≤gb376))
             have n6_:=Az.mk ((by rw [hg];exact (be_ (by repeat (first|(with_reducible first|exact HB.out|apply bA_|apply bN_|apply bD_|refine bs_ ?_ GE366.out|refine bs_ ?_ GE367.out|refine bs_ ?_ GE368.out)|exact HB.out))):w.heap.size≤gb376))
             have n7_:=Az.mk ((by rw [hg];exact Nat.ne_of_lt (blk_lt (g:=gb366) (o:=.cells #[.bool a0_0,.slice A0_1 l0_1.length c0_1] 38 (0,0)) (by (with_reducible repeat (first|refine bq_ ?_ _|refine bw_ ?_|refine bz_ ?_ _));exact BK366.out)):gb366≠gb376))
             have n8_:=Az.mk ((by rw [hg];exact Nat.ne_of_gt (blk_lt (g:=gb366) (o:=.cells #[.bool a0_0,.slice A0_1 l0_1.length c0_1] 38 (0,0)) (by (with_reducible repeat (first|refine bq_ ?_ _|refine bw_ ?_|refine bz_ ?_ _));exact BK366.out)):gb376≠gb366))
             have n9_:=Az.mk ((by rw [hg];exact Nat.ne_of_lt (blk_lt (g:=gb367) (o:=.cells #[.bool a1_0,.slice A1_1 l1_1.length c1_1] 38 (0,0)) (by (with_reducible repeat (first|refine bq_ ?_ _|refine bw_ ?_|refine bz_ ?_ _));exact BK367.out)):gb367≠gb376))
             have n10_:=Az.mk ((by rw [hg];exact Nat.ne_of_gt (blk_lt (g:=gb367) (o:=.cells #[.bool a1_0,.slice A1_1 l1_1.length c1_1] 38 (0,0)) (by (with_reducible repeat (first|refine bq_ ?_ _|refine bw_ ?_|refine bz_ ?_ _));exact BK367.out)):gb376≠gb367))
             have n11_:=Az.mk ((by rw [hg];exact Nat.ne_of_lt (blk_lt (g:=gb368) (o:=.cells #[.bool false,.slice none 0 0] 38 (0,0)) (by (with_reducible repeat (first|refine bq_ ?_ _|refine bw_ ?_|refine bz_ ?_ _));exact BK368.out)):gb368≠gb376))
             have n12_:=Az.mk ((by rw [hg];exact Nat.ne_of_gt (blk_lt (g:=gb368) (o:=.cells #[.bool false,.slice none 0 0] 38 (0,0)) (by (with_reducible repeat (first|refine bq_ ?_ _|refine bw_ ?_|refine bz_ ?_ _));exact BK368.out)):gb376≠gb368))
             clear BK366
             clear BK367
             clear BK368
             clear HB
             have BK366:=n0_
             have BK367:=n1_
             have BK368:=n2_
             have HB:=n3_
             have BK376:=n4_
             have GW376:=n5_
             have GE376:=n6_
             have NB366_376:=n7_
             have NB376_366:=n8_
             have NB367_376:=n9_
             have NB376_367:=n10_
             have NB368_376:=n11_
             have NB376_368:=n12_
             clear n0_ n1_ n2_ n3_ n4_ n5_ n6_ n7_ n8_ n9_ n10_ n11_ n12_
             clear hb hbox hg
             refine hK.out _ _ ⟨(bc_ BK366.out 0).trans rfl,(bc_ BK366.out 1).trans rfl,(bc_ BK367.out 0).trans rfl,(bc_ BK367.out 1).trans rfl⟩ (fun hHeld=>?_)
             clear hK K
             refine norm_ (a':=?_) ?_ ?_
             rotate_left
             ·show Act.put _ (some 6) _=_
              simp only [Act.put,sA_,sB_,sC_,i64_w,i32_w]
              rfl
             exact norm_ (by first|(simp only [putAll,Act.put,sA_,sB_,sC_];done)|(simp only [putAll,Act.put,sA_,sB_,sC_];rfl)) (hJ7 (gb376) _ ⟨hHeld,(by (with_reducible repeat (first|refine bq_ ?_ _|refine bw_ ?_|refine bz_ ?_ _));exact BK366.out),(by (with_reducible repeat (first|refine bq_ ?_ _|refine bw_ ?_|refine bz_ ?_ _));exact BK367.out),(by (with_reducible repeat (first|refine bq_ ?_ _|refine bw_ ?_|refine bz_ ?_ _));exact BK368.out),(by (with_reducible repeat (first|refine bq_ ?_ _|refine bw_ ?_|refine bz_ ?_ _));exact BK376.out),GW376.out,GE376.out,NB366_376.out,NB376_366.out,NB367_376.out,NB376_367.out,NB368_376.out,NB376_368.out,(by repeat (first|(with_reducible first|exact HB.out|apply bA_|apply bN_|apply bD_|refine bs_ ?_ GE366.out|refine bs_ ?_ GE367.out|refine bs_ ?_ GE368.out|refine bs_ ?_ GE376.out)|exact HB.out))⟩)
           ·skip
            rintro gb376 w11 ⟨hS_,h0_,h1_,h2_,h3_,h4_,h5_,h6_,h7_,h8_,h9_,h10_,h11_,h12_⟩
            have n0_:Az (w11.heap[gb366]? = some (.cells #[.bool a0_0,.slice A0_1 l0_1.length c0_1] 38 (0,0))):=⟨h0_⟩
            have n1_:Az (w11.heap[gb367]? = some (.cells #[.bool a1_0,.slice A1_1 l1_1.length c1_1] 38 (0,0))):=⟨h1_⟩
            have n2_:Az (w11.heap[gb368]? = some (.cells #[.bool false,.slice none 0 0] 38 (0,0))):=⟨h2_⟩
            have n3_:Az (w11.heap[gb376]? = some (.cells #[.slice none 0 0] 87 (0,0))):=⟨h3_⟩
            have n4_:Az (w.heap.size≤gb376):=⟨h4_⟩
            have n5_:Az (w.heap.size≤gb376):=⟨h5_⟩
            have n6_:Az (gb366≠gb376):=⟨h6_⟩
            have n7_:Az (gb376≠gb366):=⟨h7_⟩
            have n8_:Az (gb367≠gb376):=⟨h8_⟩
            have n9_:Az (gb376≠gb367):=⟨h9_⟩
            have n10_:Az (gb368≠gb376):=⟨h10_⟩
            have n11_:Az (gb376≠gb368):=⟨h11_⟩
            have n12_:Az (Below w.heap.size w w11):=⟨h12_⟩
            clear BK366
            clear BK367
            clear BK368
            clear HB
            clear h0_ h1_ h2_ h3_ h4_ h5_ h6_ h7_ h8_ h9_ h10_ h11_ h12_
            have BK366:=n0_
            have BK367:=n1_
            have BK368:=n2_
            have BK376:=n3_
            have GW376:=n4_
            have GE376:=n5_
            have NB366_376:=n6_
            have NB376_366:=n7_
            have NB367_376:=n8_
            have NB376_367:=n9_
            have NB368_376:=n10_
            have NB376_368:=n11_
            have HB:=n12_
            clear n0_ n1_ n2_ n3_ n4_ n5_ n6_ n7_ n8_ n9_ n10_ n11_ n12_
            have hHeld:w11.cell? ⟨gb366,0,none⟩=some (.bool a0_0)∧w11.cell? ⟨gb366,1,none⟩=some (.slice A0_1 l0_1.length c0_1)∧w11.cell? ⟨gb367,0,none⟩=some (.bool a1_0)∧w11.cell? ⟨gb367,1,none⟩=some (.slice A1_1 l1_1.length c1_1):=hS_
            refine norm_ (a':=?_) ?_ ?_
            rotate_left
            ·simp only [putAll,Act.put,sA_,sB_,sC_]
             rfl
            refine two_ (i:=2) (j:=6) (Ni:=some 9) (Nj:=some 5) #[true,true,true,true,true,false,false,true,false,false] #[true,true,false,true,true,false,true,true,false,false] rfl rfl rfl rfl (two_of HT_.out (by kernel_rfl)) (by decide) (by decide) (fun K hK=>?_) (fun K hK=>?_)
            ·skip
             refine goes_ Try.func61 (by kernel_rfl) rfl #[.slice A0_1 l0_1.length c0_1] (by rfl) rfl rfl (by (try simp only [List.map_toArray,List.map_cons,List.map_nil]);first|done|rfl|(simp only [List.length_drop,List.length_take];rfl)) ?_
             with_reducible refine (names_of_string.calls _ _ l0_1 t369 _ ?side1 ?side2 A3.out).mono ?_
             (case side1=>repeat (first|exact (Kd.C_below HR0_1.out HB.out)|(with_reducible refine cA_ ?_ _)|(with_reducible refine cN_ ?_ _)|(with_reducible refine cD_ ?_)))
             (case side2=>exact HC0_1.out)
             rintro e w12 ⟨v370,rfl,ho0,hb⟩
             refine ⟨_,rfl,?_⟩
             have n0_:=Az.mk (Kd.R_lower ho0 (be_ (by repeat (first|(with_reducible first|exact HB.out|apply bA_|apply bN_|apply bD_|refine bs_ ?_ GE366.out|refine bs_ ?_ GE367.out|refine bs_ ?_ GE368.out|refine bs_ ?_ GE376.out)|exact HB.out))))
             have n1_:=Az.mk (bb_ (g:=gb366) (o:=.cells #[.bool a0_0,.slice A0_1 l0_1.length c0_1] 38 (0,0)) (by (with_reducible repeat (first|refine bq_ ?_ _|refine bw_ ?_|refine bz_ ?_ _));exact BK366.out) hb)
             have n2_:=Az.mk (bb_ (g:=gb367) (o:=.cells #[.bool a1_0,.slice A1_1 l1_1.length c1_1] 38 (0,0)) (by (with_reducible repeat (first|refine bq_ ?_ _|refine bw_ ?_|refine bz_ ?_ _));exact BK367.out) hb)
             have n3_:=Az.mk (bb_ (g:=gb368) (o:=.cells #[.bool false,.slice none 0 0] 38 (0,0)) (by (with_reducible repeat (first|refine bq_ ?_ _|refine bw_ ?_|refine bz_ ?_ _));exact BK368.out) hb)
             have n4_:=Az.mk (bb_ (g:=gb376) (o:=.cells #[.slice none 0 0] 87 (0,0)) (by (with_reducible repeat (first|refine bq_ ?_ _|refine bw_ ?_|refine bz_ ?_ _));exact BK376.out) hb)
             have n5_:=Az.mk (below_step (by repeat (first|(with_reducible first|exact HB.out|apply bA_|apply bN_|apply bD_|refine bs_ ?_ GE366.out|refine bs_ ?_ GE367.out|refine bs_ ?_ GE368.out|refine bs_ ?_ GE376.out)|exact HB.out)) hb)
             clear BK366
             clear BK367
             clear BK368
             clear BK376
             clear HB
             have HO371:=n0_
             have BK366:=n1_
             have BK367:=n2_
             have BK368:=n3_
             have BK376:=n4_
             have HB:=n5_
             clear n0_ n1_ n2_ n3_ n4_ n5_
             (try clear hb)
             (try clear hb2)
             (try clear hk)
             (try clear hi)
             (try clear ho0)
             refine hK.out _ _ ⟨(bc_ BK366.out 0).trans rfl,(bc_ BK366.out 1).trans rfl,(bc_ BK367.out 0).trans rfl,(bc_ BK367.out 1).trans rfl⟩ (fun hHeld=>?_)
             clear hK K
             refine norm_ (a':=?_) ?_ ?_
             rotate_left
             ·show Act.put _ (some 9) _=_
              simp only [Act.put,sA_,sB_,sC_,i64_w,i32_w]
              rfl
             exact norm_ (by first|(simp only [putAll,Act.put,sA_,sB_,sC_];done)|(simp only [putAll,Act.put,sA_,sB_,sC_];rfl)) (hJ2_7 (v370,gb376) _ ⟨hHeld,(by (with_reducible repeat (first|apply rA_|apply rN_|apply rD_));exact HO371.out),(by (with_reducible repeat (first|refine bq_ ?_ _|refine bw_ ?_|refine bz_ ?_ _));exact BK366.out),(by (with_reducible repeat (first|refine bq_ ?_ _|refine bw_ ?_|refine bz_ ?_ _));exact BK367.out),(by (with_reducible repeat (first|refine bq_ ?_ _|refine bw_ ?_|refine bz_ ?_ _));exact BK368.out),(by (with_reducible repeat (first|refine bq_ ?_ _|refine bw_ ?_|refine bz_ ?_ _));exact BK376.out),GW376.out,GE376.out,NB366_376.out,NB376_366.out,NB367_376.out,NB376_367.out,NB368_376.out,NB376_368.out,(by repeat (first|(with_reducible first|exact HB.out|apply bA_|apply bN_|apply bD_|refine bs_ ?_ GE366.out|refine bs_ ?_ GE367.out|refine bs_ ?_ GE368.out|refine bs_ ?_ GE376.out)|exact HB.out))⟩)
            ·skip
             refine box_step ?hg (N:=5) ?hd (cs:=#[.slice none 0 0]) (t:=87) ?hr ?_;(case hd=>rfl);(case hg=>rfl);(case hr=>first|(go_simp;done)|(go_simp;rfl))
             intro gb375 hg w12 hbox hb
             have n0_:=Az.mk (bb_ (g:=gb366) (o:=.cells #[.bool a0_0,.slice A0_1 l0_1.length c0_1] 38 (0,0)) (by (with_reducible repeat (first|refine bq_ ?_ _|refine bw_ ?_|refine bz_ ?_ _));exact BK366.out) hb)
             have n1_:=Az.mk (bb_ (g:=gb367) (o:=.cells #[.bool a1_0,.slice A1_1 l1_1.length c1_1] 38 (0,0)) (by (with_reducible repeat (first|refine bq_ ?_ _|refine bw_ ?_|refine bz_ ?_ _));exact BK367.out) hb)
             have n2_:=Az.mk (bb_ (g:=gb368) (o:=.cells #[.bool false,.slice none 0 0] 38 (0,0)) (by (with_reducible repeat (first|refine bq_ ?_ _|refine bw_ ?_|refine bz_ ?_ _));exact BK368.out) hb)
             have n3_:=Az.mk (bb_ (g:=gb376) (o:=.cells #[.slice none 0 0] 87 (0,0)) (by (with_reducible repeat (first|refine bq_ ?_ _|refine bw_ ?_|refine bz_ ?_ _));exact BK376.out) hb)
             have n4_:=Az.mk (below_step (by repeat (first|(with_reducible first|exact HB.out|apply bA_|apply bN_|apply bD_|refine bs_ ?_ GE366.out|refine bs_ ?_ GE367.out|refine bs_ ?_ GE368.out|refine bs_ ?_ GE376.out)|exact HB.out)) hb)
             have n5_:=Az.mk (hbox)
             have n6_:=Az.mk ((by rw [hg];exact (be_ (by repeat (first|(with_reducible first|exact HB.out|apply bA_|apply bN_|apply bD_|refine bs_ ?_ GE366.out|refine bs_ ?_ GE367.out|refine bs_ ?_ GE368.out|refine bs_ ?_ GE376.out)|exact HB.out))):w.heap.size≤gb375))
             have n7_:=Az.mk ((by rw [hg];exact (be_ (by repeat (first|(with_reducible first|exact HB.out|apply bA_|apply bN_|apply bD_|refine bs_ ?_ GE366.out|refine bs_ ?_ GE367.out|refine bs_ ?_ GE368.out|refine bs_ ?_ GE376.out)|exact HB.out))):w.heap.size≤gb375))
             have n8_:=Az.mk ((by rw [hg];exact Nat.ne_of_lt (blk_lt (g:=gb366) (o:=.cells #[.bool a0_0,.slice A0_1 l0_1.length c0_1] 38 (0,0)) (by (with_reducible repeat (first|refine bq_ ?_ _|refine bw_ ?_|refine bz_ ?_ _));exact BK366.out)):gb366≠gb375))
             have n9_:=Az.mk ((by rw [hg];exact Nat.ne_of_gt (blk_lt (g:=gb366) (o:=.cells #[.bool a0_0,.slice A0_1 l0_1.length c0_1] 38 (0,0)) (by (with_reducible repeat (first|refine bq_ ?_ _|refine bw_ ?_|refine bz_ ?_ _));exact BK366.out)):gb375≠gb366))
             have n10_:=Az.mk ((by rw [hg];exact Nat.ne_of_lt (blk_lt (g:=gb367) (o:=.cells #[.bool a1_0,.slice A1_1 l1_1.length c1_1] 38 (0,0)) (by (with_reducible repeat (first|refine bq_ ?_ _|refine bw_ ?_|refine bz_ ?_ _));exact BK367.out)):gb367≠gb375))
             have n11_:=Az.mk ((by rw [hg];exact Nat.ne_of_gt (blk_lt (g:=gb367) (o:=.cells #[.bool a1_0,.slice A1_1 l1_1.length c1_1] 38 (0,0)) (by (with_reducible repeat (first|refine bq_ ?_ _|refine bw_ ?_|refine bz_ ?_ _));exact BK367.out)):gb375≠gb367))
             have n12_:=Az.mk ((by rw [hg];exact Nat.ne_of_lt (blk_lt (g:=gb368) (o:=.cells #[.bool false,.slice none 0 0] 38 (0,0)) (by (with_reducible repeat (first|refine bq_ ?_ _|refine bw_ ?_|refine bz_ ?_ _));exact BK368.out)):gb368≠gb375))
             have n13_:=Az.mk ((by rw [hg];exact Nat.ne_of_gt (blk_lt (g:=gb368) (o:=.cells #[.bool false,.slice none 0 0] 38 (0,0)) (by (with_reducible repeat (first|refine bq_ ?_ _|refine bw_ ?_|refine bz_ ?_ _));exact BK368.out)):gb375≠gb368))
             have n14_:=Az.mk ((by rw [hg];exact Nat.ne_of_lt (blk_lt (g:=gb376) (o:=.cells #[.slice none 0 0] 87 (0,0)) (by (with_reducible repeat (first|refine bq_ ?_ _|refine bw_ ?_|refine bz_ ?_ _));exact BK376.out)):gb376≠gb375))
             have n15_:=Az.mk ((by rw [hg];exact Nat.ne_of_gt (blk_lt (g:=gb376) (o:=.cells #[.slice none 0 0] 87 (0,0)) (by (with_reducible repeat (first|refine bq_ ?_ _|refine bw_ ?_|refine bz_ ?_ _));exact BK376.out)):gb375≠gb376))
             clear BK366
             clear BK367
             clear BK368
             clear BK376
             clear HB
             have BK366:=n0_
             have BK367:=n1_
             have BK368:=n2_
             have BK376:=n3_
             have HB:=n4_
             have BK375:=n5_
             have GW375:=n6_
             have GE375:=n7_
             have NB366_375:=n8_
             have NB375_366:=n9_
             have NB367_375:=n10_
             have NB375_367:=n11_
             have NB368_375:=n12_
             have NB375_368:=n13_
             have NB376_375:=n14_
             have NB375_376:=n15_
             clear n0_ n1_ n2_ n3_ n4_ n5_ n6_ n7_ n8_ n9_ n10_ n11_ n12_ n13_ n14_ n15_
             clear hb hbox hg
             refine hK.out _ _ ⟨(bc_ BK366.out 0).trans rfl,(bc_ BK366.out 1).trans rfl,(bc_ BK367.out 0).trans rfl,(bc_ BK367.out 1).trans rfl⟩ (fun hHeld=>?_)
             clear hK K
             refine norm_ (a':=?_) ?_ ?_
             rotate_left
             ·show Act.put _ (some 5) _=_
              simp only [Act.put,sA_,sB_,sC_,i64_w,i32_w]
              rfl
             exact norm_ (by first|(simp only [putAll,Act.put,sA_,sB_,sC_];done)|(simp only [putAll,Act.put,sA_,sB_,sC_];rfl)) (hJ6_7 (gb375,gb376) _ ⟨hHeld,(by (with_reducible repeat (first|refine bq_ ?_ _|refine bw_ ?_|refine bz_ ?_ _));exact BK366.out),(by (with_reducible repeat (first|refine bq_ ?_ _|refine bw_ ?_|refine bz_ ?_ _));exact BK367.out),(by (with_reducible repeat (first|refine bq_ ?_ _|refine bw_ ?_|refine bz_ ?_ _));exact BK368.out),(by (with_reducible repeat (first|refine bq_ ?_ _|refine bw_ ?_|refine bz_ ?_ _));exact BK375.out),(by (with_reducible repeat (first|refine bq_ ?_ _|refine bw_ ?_|refine bz_ ?_ _));exact BK376.out),GW375.out,GE375.out,NB366_375.out,NB375_366.out,NB367_375.out,NB375_367.out,NB368_375.out,NB375_368.out,NB376_375.out,NB375_376.out,GW376.out,GE376.out,NB366_376.out,NB376_366.out,NB367_376.out,NB376_367.out,NB368_376.out,NB376_368.out,(by repeat (first|(with_reducible first|exact HB.out|apply bA_|apply bN_|apply bD_|refine bs_ ?_ GE366.out|refine bs_ ?_ GE367.out|refine bs_ ?_ GE368.out|refine bs_ ?_ GE376.out|refine bs_ ?_ GE375.out)|exact HB.out))⟩)
          ·skip
           rintro gb375 w11 ⟨hS_,h0_,h1_,h2_,h3_,h4_,h5_,h6_,h7_,h8_,h9_,h10_,h11_,h12_⟩
           have n0_:Az (w11.heap[gb366]? = some (.cells #[.bool a0_0,.slice A0_1 l0_1.length c0_1] 38 (0,0))):=⟨h0_⟩
           have n1_:Az (w11.heap[gb367]? = some (.cells #[.bool a1_0,.slice A1_1 l1_1.length c1_1] 38 (0,0))):=⟨h1_⟩
           have n2_:Az (w11.heap[gb368]? = some (.cells #[.bool false,.slice none 0 0] 38 (0,0))):=⟨h2_⟩
           have n3_:Az (w11.heap[gb375]? = some (.cells #[.slice none 0 0] 87 (0,0))):=⟨h3_⟩
           have n4_:Az (w.heap.size≤gb375):=⟨h4_⟩
           have n5_:Az (w.heap.size≤gb375):=⟨h5_⟩
           have n6_:Az (gb366≠gb375):=⟨h6_⟩
           have n7_:Az (gb375≠gb366):=⟨h7_⟩
           have n8_:Az (gb367≠gb375):=⟨h8_⟩
           have n9_:Az (gb375≠gb367):=⟨h9_⟩
           have n10_:Az (gb368≠gb375):=⟨h10_⟩
           have n11_:Az (gb375≠gb368):=⟨h11_⟩
           have n12_:Az (Below w.heap.size w w11):=⟨h12_⟩
           clear BK366
           clear BK367
           clear BK368
           clear HB
           clear h0_ h1_ h2_ h3_ h4_ h5_ h6_ h7_ h8_ h9_ h10_ h11_ h12_
           have BK366:=n0_
           have BK367:=n1_
           have BK368:=n2_
           have BK375:=n3_
           have GW375:=n4_
           have GE375:=n5_
           have NB366_375:=n6_
           have NB375_366:=n7_
           have NB367_375:=n8_
           have NB375_367:=n9_
           have NB368_375:=n10_
           have NB375_368:=n11_
           have HB:=n12_
           clear n0_ n1_ n2_ n3_ n4_ n5_ n6_ n7_ n8_ n9_ n10_ n11_ n12_
           have hHeld:w11.cell? ⟨gb366,0,none⟩=some (.bool a0_0)∧w11.cell? ⟨gb366,1,none⟩=some (.slice A0_1 l0_1.length c0_1)∧w11.cell? ⟨gb367,0,none⟩=some (.bool a1_0)∧w11.cell? ⟨gb367,1,none⟩=some (.slice A1_1 l1_1.length c1_1):=hS_
           refine norm_ (a':=?_) ?_ ?_
           rotate_left
           ·simp only [putAll,Act.put,sA_,sB_,sC_]
            rfl
           refine two_ (i:=2) (j:=7) (Ni:=some 9) (Nj:=some 6) #[true,true,true,true,true,false,true,false,false,false] #[true,true,false,true,true,false,true,true,false,false] rfl rfl rfl rfl (two_of HT_.out (by kernel_rfl)) (by decide) (by decide) (fun K hK=>?_) (fun K hK=>?_)
           ·skip
            refine goes_ Try.func61 (by kernel_rfl) rfl #[.slice A0_1 l0_1.length c0_1] (by rfl) rfl rfl (by (try simp only [List.map_toArray,List.map_cons,List.map_nil]);first|done|rfl|(simp only [List.length_drop,List.length_take];rfl)) ?_
            with_reducible refine (names_of_string.calls _ _ l0_1 t369 _ ?side1 ?side2 A3.out).mono ?_
            (case side1=>repeat (first|exact (Kd.C_below HR0_1.out HB.out)|(with_reducible refine cA_ ?_ _)|(with_reducible refine cN_ ?_ _)|(with_reducible refine cD_ ?_)))
            (case side2=>exact HC0_1.out)
            rintro e w12 ⟨v370,rfl,ho0,hb⟩
            refine ⟨_,rfl,?_⟩
            have n0_:=Az.mk (Kd.R_lower ho0 (be_ (by repeat (first|(with_reducible first|exact HB.out|apply bA_|apply bN_|apply bD_|refine bs_ ?_ GE366.out|refine bs_ ?_ GE367.out|refine bs_ ?_ GE368.out|refine bs_ ?_ GE375.out)|exact HB.out))))
            have n1_:=Az.mk (bb_ (g:=gb366) (o:=.cells #[.bool a0_0,.slice A0_1 l0_1.length c0_1] 38 (0,0)) (by (with_reducible repeat (first|refine bq_ ?_ _|refine bw_ ?_|refine bz_ ?_ _));exact BK366.out) hb)
            have n2_:=Az.mk (bb_ (g:=gb367) (o:=.cells #[.bool a1_0,.slice A1_1 l1_1.length c1_1] 38 (0,0)) (by (with_reducible repeat (first|refine bq_ ?_ _|refine bw_ ?_|refine bz_ ?_ _));exact BK367.out) hb)
            have n3_:=Az.mk (bb_ (g:=gb368) (o:=.cells #[.bool false,.slice none 0 0] 38 (0,0)) (by (with_reducible repeat (first|refine bq_ ?_ _|refine bw_ ?_|refine bz_ ?_ _));exact BK368.out) hb)
            have n4_:=Az.mk (bb_ (g:=gb375) (o:=.cells #[.slice none 0 0] 87 (0,0)) (by (with_reducible repeat (first|refine bq_ ?_ _|refine bw_ ?_|refine bz_ ?_ _));exact BK375.out) hb)
            have n5_:=Az.mk (below_step (by repeat (first|(with_reducible first|exact HB.out|apply bA_|apply bN_|apply bD_|refine bs_ ?_ GE366.out|refine bs_ ?_ GE367.out|refine bs_ ?_ GE368.out|refine bs_ ?_ GE375.out)|exact HB.out)) hb)
            clear BK366
            clear BK367
            clear BK368
            clear BK375
            clear HB
            have HO371:=n0_
            have BK366:=n1_
            have BK367:=n2_
            have BK368:=n3_
            have BK375:=n4_
            have HB:=n5_
            clear n0_ n1_ n2_ n3_ n4_ n5_
            (try clear hb)
            (try clear hb2)
            (try clear hk)
            (try clear hi)
            (try clear ho0)
            refine hK.out _ _ ⟨(bc_ BK366.out 0).trans rfl,(bc_ BK366.out 1).trans rfl,(bc_ BK367.out 0).trans rfl,(bc_ BK367.out 1).trans rfl⟩ (fun hHeld=>?_)
            clear hK K
            refine norm_ (a':=?_) ?_ ?_
            rotate_left
            ·show Act.put _ (some 9) _=_
             simp only [Act.put,sA_,sB_,sC_,i64_w,i32_w]
             rfl
            exact norm_ (by first|(simp only [putAll,Act.put,sA_,sB_,sC_];done)|(simp only [putAll,Act.put,sA_,sB_,sC_];rfl)) (hJ2_6 (v370,gb375) _ ⟨hHeld,(by (with_reducible repeat (first|apply rA_|apply rN_|apply rD_));exact HO371.out),(by (with_reducible repeat (first|refine bq_ ?_ _|refine bw_ ?_|refine bz_ ?_ _));exact BK366.out),(by (with_reducible repeat (first|refine bq_ ?_ _|refine bw_ ?_|refine bz_ ?_ _));exact BK367.out),(by (with_reducible repeat (first|refine bq_ ?_ _|refine bw_ ?_|refine bz_ ?_ _));exact BK368.out),(by (with_reducible repeat (first|refine bq_ ?_ _|refine bw_ ?_|refine bz_ ?_ _));exact BK375.out),GW375.out,GE375.out,NB366_375.out,NB375_366.out,NB367_375.out,NB375_367.out,NB368_375.out,NB375_368.out,(by repeat (first|(with_reducible first|exact HB.out|apply bA_|apply bN_|apply bD_|refine bs_ ?_ GE366.out|refine bs_ ?_ GE367.out|refine bs_ ?_ GE368.out|refine bs_ ?_ GE375.out)|exact HB.out))⟩)
           ·skip
            refine box_step ?hg (N:=6) ?hd (cs:=#[.slice none 0 0]) (t:=87) ?hr ?_;(case hd=>rfl);(case hg=>rfl);(case hr=>first|(go_simp;done)|(go_simp;rfl))
            intro gb376 hg w12 hbox hb
            have n0_:=Az.mk (bb_ (g:=gb366) (o:=.cells #[.bool a0_0,.slice A0_1 l0_1.length c0_1] 38 (0,0)) (by (with_reducible repeat (first|refine bq_ ?_ _|refine bw_ ?_|refine bz_ ?_ _));exact BK366.out) hb)
            have n1_:=Az.mk (bb_ (g:=gb367) (o:=.cells #[.bool a1_0,.slice A1_1 l1_1.length c1_1] 38 (0,0)) (by (with_reducible repeat (first|refine bq_ ?_ _|refine bw_ ?_|refine bz_ ?_ _));exact BK367.out) hb)
            have n2_:=Az.mk (bb_ (g:=gb368) (o:=.cells #[.bool false,.slice none 0 0] 38 (0,0)) (by (with_reducible repeat (first|refine bq_ ?_ _|refine bw_ ?_|refine bz_ ?_ _));exact BK368.out) hb)
            have n3_:=Az.mk (bb_ (g:=gb375) (o:=.cells #[.slice none 0 0] 87 (0,0)) (by (with_reducible repeat (first|refine bq_ ?_ _|refine bw_ ?_|refine bz_ ?_ _));exact BK375.out) hb)
            have n4_:=Az.mk (below_step (by repeat (first|(with_reducible first|exact HB.out|apply bA_|apply bN_|apply bD_|refine bs_ ?_ GE366.out|refine bs_ ?_ GE367.out|refine bs_ ?_ GE368.out|refine bs_ ?_ GE375.out)|exact HB.out)) hb)
            have n5_:=Az.mk (hbox)
            have n6_:=Az.mk ((by rw [hg];exact (be_ (by repeat (first|(with_reducible first|exact HB.out|apply bA_|apply bN_|apply bD_|refine bs_ ?_ GE366.out|refine bs_ ?_ GE367.out|refine bs_ ?_ GE368.out|refine bs_ ?_ GE375.out)|exact HB.out))):w.heap.size≤gb376))
            have n7_:=Az.mk ((by rw [hg];exact (be_ (by repeat (first|(with_reducible first|exact HB.out|apply bA_|apply bN_|apply bD_|refine bs_ ?_ GE366.out|refine bs_ ?_ GE367.out|refine bs_ ?_ GE368.out|refine bs_ ?_ GE375.out)|exact HB.out))):w.heap.size≤gb376))
            have n8_:=Az.mk ((by rw [hg];exact Nat.ne_of_lt (blk_lt (g:=gb366) (o:=.cells #[.bool a0_0,.slice A0_1 l0_1.length c0_1] 38 (0,0)) (by (with_reducible repeat (first|refine bq_ ?_ _|refine bw_ ?_|refine bz_ ?_ _));exact BK366.out)):gb366≠gb376))
            have n9_:=Az.mk ((by rw [hg];exact Nat.ne_of_gt (blk_lt (g:=gb366) (o:=.cells #[.bool a0_0,.slice A0_1 l0_1.length c0_1] 38 (0,0)) (by (with_reducible repeat (first|refine bq_ ?_ _|refine bw_ ?_|refine bz_ ?_ _));exact BK366.out)):gb376≠gb366))
            have n10_:=Az.mk ((by rw [hg];exact Nat.ne_of_lt (blk_lt (g:=gb367) (o:=.cells #[.bool a1_0,.slice A1_1 l1_1.length c1_1] 38 (0,0)) (by (with_reducible repeat (first|refine bq_ ?_ _|refine bw_ ?_|refine bz_ ?_ _));exact BK367.out)):gb367≠gb376))
            have n11_:=Az.mk ((by rw [hg];exact Nat.ne_of_gt (blk_lt (g:=gb367) (o:=.cells #[.bool a1_0,.slice A1_1 l1_1.length c1_1] 38 (0,0)) (by (with_reducible repeat (first|refine bq_ ?_ _|refine bw_ ?_|refine bz_ ?_ _));exact BK367.out)):gb376≠gb367))
            have n12_:=Az.mk ((by rw [hg];exact Nat.ne_of_lt (blk_lt (g:=gb368) (o:=.cells #[.bool false,.slice none 0 0] 38 (0,0)) (by (with_reducible repeat (first|refine bq_ ?_ _|refine bw_ ?_|refine bz_ ?_ _));exact BK368.out)):gb368≠gb376))
            have n13_:=Az.mk ((by rw [hg];exact Nat.ne_of_gt (blk_lt (g:=gb368) (o:=.cells #[.bool false,.slice none 0 0] 38 (0,0)) (by (with_reducible repeat (first|refine bq_ ?_ _|refine bw_ ?_|refine bz_ ?_ _));exact BK368.out)):gb376≠gb368))
            have n14_:=Az.mk ((by rw [hg];exact Nat.ne_of_lt (blk_lt (g:=gb375) (o:=.cells #[.slice none 0 0] 87 (0,0)) (by (with_reducible repeat (first|refine bq_ ?_ _|refine bw_ ?_|refine bz_ ?_ _));exact BK375.out)):gb375≠gb376))
            have n15_:=Az.mk ((by rw [hg];exact Nat.ne_of_gt (blk_lt (g:=gb375) (o:=.cells #[.slice none 0 0] 87 (0,0)) (by (with_reducible repeat (first|refine bq_ ?_ _|refine bw_ ?_|refine bz_ ?_ _));exact BK375.out)):gb376≠gb375))
            clear BK366
            clear BK367
            clear BK368
            clear BK375
            clear HB
            have BK366:=n0_
            have BK367:=n1_
            have BK368:=n2_
            have BK375:=n3_
            have HB:=n4_
            have BK376:=n5_
            have GW376:=n6_
            have GE376:=n7_
            have NB366_376:=n8_
            have NB376_366:=n9_
            have NB367_376:=n10_
            have NB376_367:=n11_
            have NB368_376:=n12_
            have NB376_368:=n13_
            have NB375_376:=n14_
            have NB376_375:=n15_
            clear n0_ n1_ n2_ n3_ n4_ n5_ n6_ n7_ n8_ n9_ n10_ n11_ n12_ n13_ n14_ n15_
            clear hb hbox hg
            refine hK.out _ _ ⟨(bc_ BK366.out 0).trans rfl,(bc_ BK366.out 1).trans rfl,(bc_ BK367.out 0).trans rfl,(bc_ BK367.out 1).trans rfl⟩ (fun hHeld=>?_)
            clear hK K
            refine norm_ (a':=?_) ?_ ?_
            rotate_left
            ·show Act.put _ (some 6) _=_
             simp only [Act.put,sA_,sB_,sC_,i64_w,i32_w]
             rfl
            exact norm_ (by first|(simp only [putAll,Act.put,sA_,sB_,sC_];done)|(simp only [putAll,Act.put,sA_,sB_,sC_];rfl)) (hJ6_7 (gb375,gb376) _ ⟨hHeld,(by (with_reducible repeat (first|refine bq_ ?_ _|refine bw_ ?_|refine bz_ ?_ _));exact BK366.out),(by (with_reducible repeat (first|refine bq_ ?_ _|refine bw_ ?_|refine bz_ ?_ _));exact BK367.out),(by (with_reducible repeat (first|refine bq_ ?_ _|refine bw_ ?_|refine bz_ ?_ _));exact BK368.out),(by (with_reducible repeat (first|refine bq_ ?_ _|refine bw_ ?_|refine bz_ ?_ _));exact BK375.out),(by (with_reducible repeat (first|refine bq_ ?_ _|refine bw_ ?_|refine bz_ ?_ _));exact BK376.out),GW375.out,GE375.out,NB366_375.out,NB375_366.out,NB367_375.out,NB375_367.out,NB368_375.out,NB375_368.out,NB376_375.out,NB375_376.out,GW376.out,GE376.out,NB366_376.out,NB376_366.out,NB367_376.out,NB376_367.out,NB368_376.out,NB376_368.out,(by repeat (first|(with_reducible first|exact HB.out|apply bA_|apply bN_|apply bD_|refine bs_ ?_ GE366.out|refine bs_ ?_ GE367.out|refine bs_ ?_ GE368.out|refine bs_ ?_ GE375.out|refine bs_ ?_ GE376.out)|exact HB.out))⟩)
         ·skip
          rintro v370 w11 ⟨hS_,h0_,h1_,h2_,h3_,h4_⟩
          have n0_:Az (Kd.R Kd.string 9 w11 w.heap.size (fun _=>True) v370 t369):=⟨h0_⟩
          have n1_:Az (w11.heap[gb366]? = some (.cells #[.bool a0_0,.slice A0_1 l0_1.length c0_1] 38 (0,0))):=⟨h1_⟩
          have n2_:Az (w11.heap[gb367]? = some (.cells #[.bool a1_0,.slice A1_1 l1_1.length c1_1] 38 (0,0))):=⟨h2_⟩
          have n3_:Az (w11.heap[gb368]? = some (.cells #[.bool false,.slice none 0 0] 38 (0,0))):=⟨h3_⟩
          have n4_:Az (Below w.heap.size w w11):=⟨h4_⟩
          clear BK366
          clear BK367
          clear BK368
          clear HB
          clear h0_ h1_ h2_ h3_ h4_
          have HO371:=n0_
          have BK366:=n1_
          have BK367:=n2_
          have BK368:=n3_
          have HB:=n4_
          clear n0_ n1_ n2_ n3_ n4_
          have hHeld:w11.cell? ⟨gb366,0,none⟩=some (.bool a0_0)∧w11.cell? ⟨gb366,1,none⟩=some (.slice A0_1 l0_1.length c0_1)∧w11.cell? ⟨gb367,0,none⟩=some (.bool a1_0)∧w11.cell? ⟨gb367,1,none⟩=some (.slice A1_1 l1_1.length c1_1):=hS_
          refine norm_ (a':=?_) ?_ ?_
          rotate_left
          ·simp only [putAll,Act.put,sA_,sB_,sC_]
           rfl
          refine three_ (i:=5) (j:=6) (k:=7) (Ni:=some 12) (Nj:=some 5) (Nk:=some 6) #[true,true,true,true,true,true,false,false,false,false] #[true,true,true,true,true,false,true,false,false,false] #[true,true,true,true,true,false,false,true,false,false] rfl rfl rfl rfl rfl rfl (three_of HT_.out (by kernel_rfl)) (by decide) (by decide) (by decide) (fun K hK=>?_) (fun K hK=>?_) (fun K hK=>?_)
          ·skip
           refine goes_ Try.func61 (by kernel_rfl) rfl #[.slice A1_1 l1_1.length c1_1] (by rfl) rfl rfl (by (try simp only [List.map_toArray,List.map_cons,List.map_nil]);first|done|rfl|(simp only [List.length_drop,List.length_take];rfl)) ?_
           with_reducible refine (names_of_string.calls _ _ l1_1 t372 _ ?side1 ?side2 A4.out).mono ?_
           (case side1=>repeat (first|exact (Kd.C_below HR1_1.out HB.out)|(with_reducible refine cA_ ?_ _)|(with_reducible refine cN_ ?_ _)|(with_reducible refine cD_ ?_)))
           (case side2=>exact HC1_1.out)
           rintro e w12 ⟨v373,rfl,ho0,hb⟩
           refine ⟨_,rfl,?_⟩
           have n0_:=Az.mk (Kd.R_elder' (by (with_reducible repeat (first|apply rA_|apply rN_|apply rD_));exact HO371.out) (Kd.R_base ho0) hb)
           have n1_:=Az.mk (Kd.R_lower (Kd.R_new' ho0 (Kd.R_lt (by (with_reducible repeat (first|apply rA_|apply rN_|apply rD_));exact HO371.out))) (be_ (by repeat (first|(with_reducible first|exact HB.out|apply bA_|apply bN_|apply bD_|refine bs_ ?_ GE366.out|refine bs_ ?_ GE367.out|refine bs_ ?_ GE368.out)|exact HB.out))))
           have n2_:=Az.mk (bb_ (g:=gb366) (o:=.cells #[.bool a0_0,.slice A0_1 l0_1.length c0_1] 38 (0,0)) (by (with_reducible repeat (first|refine bq_ ?_ _|refine bw_ ?_|refine bz_ ?_ _));exact BK366.out) hb)
           have n3_:=Az.mk (bb_ (g:=gb367) (o:=.cells #[.bool a1_0,.slice A1_1 l1_1.length c1_1] 38 (0,0)) (by (with_reducible repeat (first|refine bq_ ?_ _|refine bw_ ?_|refine bz_ ?_ _));exact BK367.out) hb)
           have n4_:=Az.mk (bb_ (g:=gb368) (o:=.cells #[.bool false,.slice none 0 0] 38 (0,0)) (by (with_reducible repeat (first|refine bq_ ?_ _|refine bw_ ?_|refine bz_ ?_ _));exact BK368.out) hb)
           have n5_:=Az.mk (below_step (by repeat (first|(with_reducible first|exact HB.out|apply bA_|apply bN_|apply bD_|refine bs_ ?_ GE366.out|refine bs_ ?_ GE367.out|refine bs_ ?_ GE368.out)|exact HB.out)) hb)
           clear HO371
           clear BK366
           clear BK367
           clear BK368
           clear HB
           have HO371:=n0_
           have HO374:=n1_
           have BK366:=n2_
           have BK367:=n3_
           have BK368:=n4_
           have HB:=n5_
           clear n0_ n1_ n2_ n3_ n4_ n5_
           (try clear hb)
           (try clear hb2)
           (try clear hk)
           (try clear hi)
           (try clear ho0)
           refine hK.out _ _ ⟨(bc_ BK366.out 0).trans rfl,(bc_ BK366.out 1).trans rfl,(bc_ BK367.out 0).trans rfl,(bc_ BK367.out 1).trans rfl⟩ (fun hHeld=>?_)
           clear hK K
           refine norm_ (a':=?_) ?_ ?_
           rotate_left
           ·show Act.put _ (some 12) _=_
            simp only [Act.put,sA_,sB_,sC_,i64_w,i32_w]
            rfl
           exact norm_ (by first|(simp only [putAll,Act.put,sA_,sB_,sC_];done)|(simp only [putAll,Act.put,sA_,sB_,sC_];rfl)) (hJ2_5 (v370,v373) _ ⟨hHeld,(by (with_reducible repeat (first|apply rA_|apply rN_|apply rD_));exact Kd.R_mono HO371.out (fun _ hk=>hk.2)),(by (with_reducible repeat (first|apply rA_|apply rN_|apply rD_));exact Kd.R_mono HO374.out (fun _ hk=>hk.2)),(by (with_reducible repeat (first|refine bq_ ?_ _|refine bw_ ?_|refine bz_ ?_ _));exact BK366.out),(by (with_reducible repeat (first|refine bq_ ?_ _|refine bw_ ?_|refine bz_ ?_ _));exact BK367.out),(by (with_reducible repeat (first|refine bq_ ?_ _|refine bw_ ?_|refine bz_ ?_ _));exact BK368.out),(by repeat (first|(with_reducible first|exact HB.out|apply bA_|apply bN_|apply bD_|refine bs_ ?_ GE366.out|refine bs_ ?_ GE367.out|refine bs_ ?_ GE368.out)|exact HB.out))⟩)
          ·skip
           refine box_step ?hg (N:=5) ?hd (cs:=#[.slice none 0 0]) (t:=87) ?hr ?_;(case hd=>rfl);(case hg=>rfl);(case hr=>first|(go_simp;done)|(go_simp;rfl))
           intro gb375 hg w12 hbox hb
           have n0_:=Az.mk (Kd.R_below (by (with_reducible repeat (first|apply rA_|apply rN_|apply rD_));exact HO371.out) hb)
           have n1_:=Az.mk (bb_ (g:=gb366) (o:=.cells #[.bool a0_0,.slice A0_1 l0_1.length c0_1] 38 (0,0)) (by (with_reducible repeat (first|refine bq_ ?_ _|refine bw_ ?_|refine bz_ ?_ _));exact BK366.out) hb)
           have n2_:=Az.mk (bb_ (g:=gb367) (o:=.cells #[.bool a1_0,.slice A1_1 l1_1.length c1_1] 38 (0,0)) (by (with_reducible repeat (first|refine bq_ ?_ _|refine bw_ ?_|refine bz_ ?_ _));exact BK367.out) hb)
           have n3_:=Az.mk (bb_ (g:=gb368) (o:=.cells #[.bool false,.slice none 0 0] 38 (0,0)) (by (with_reducible repeat (first|refine bq_ ?_ _|refine bw_ ?_|refine bz_ ?_ _));exact BK368.out) hb)
           have n4_:=Az.mk (below_step (by repeat (first|(with_reducible first|exact HB.out|apply bA_|apply bN_|apply bD_|refine bs_ ?_ GE366.out|refine bs_ ?_ GE367.out|refine bs_ ?_ GE368.out)|exact HB.out)) hb)
           have n5_:=Az.mk (hbox)
           have n6_:=Az.mk ((by rw [hg];exact (be_ (by repeat (first|(with_reducible first|exact HB.out|apply bA_|apply bN_|apply bD_|refine bs_ ?_ GE366.out|refine bs_ ?_ GE367.out|refine bs_ ?_ GE368.out)|exact HB.out))):w.heap.size≤gb375))
           have n7_:=Az.mk ((by rw [hg];exact (be_ (by repeat (first|(with_reducible first|exact HB.out|apply bA_|apply bN_|apply bD_|refine bs_ ?_ GE366.out|refine bs_ ?_ GE367.out|refine bs_ ?_ GE368.out)|exact HB.out))):w.heap.size≤gb375))
           have n8_:=Az.mk ((by rw [hg];exact Nat.ne_of_lt (blk_lt (g:=gb366) (o:=.cells #[.bool a0_0,.slice A0_1 l0_1.length c0_1] 38 (0,0)) (by (with_reducible repeat (first|refine bq_ ?_ _|refine bw_ ?_|refine bz_ ?_ _));exact BK366.out)):gb366≠gb375))
           have n9_:=Az.mk ((by rw [hg];exact Nat.ne_of_gt (blk_lt (g:=gb366) (o:=.cells #[.bool a0_0,.slice A0_1 l0_1.length c0_1] 38 (0,0)) (by (with_reducible repeat (first|refine bq_ ?_ _|refine bw_ ?_|refine bz_ ?_ _));exact BK366.out)):gb375≠gb366))
           have n10_:=Az.mk ((by rw [hg];exact Nat.ne_of_lt (blk_lt (g:=gb367) (o:=.cells #[.bool a1_0,.slice A1_1 l1_1.length c1_1] 38 (0,0)) (by (with_reducible repeat (first|refine bq_ ?_ _|refine bw_ ?_|refine bz_ ?_ _));exact BK367.out)):gb367≠gb375))
           have n11_:=Az.mk ((by rw [hg];exact Nat.ne_of_gt (blk_lt (g:=gb367) (o:=.cells #[.bool a1_0,.slice A1_1 l1_1.length c1_1] 38 (0,0)) (by (with_reducible repeat (first|refine bq_ ?_ _|refine bw_ ?_|refine bz_ ?_ _));exact BK367.out)):gb375≠gb367))
           have n12_:=Az.mk ((by rw [hg];exact Nat.ne_of_lt (blk_lt (g:=gb368) (o:=.cells #[.bool false,.slice none 0 0] 38 (0,0)) (by (with_reducible repeat (first|refine bq_ ?_ _|refine bw_ ?_|refine bz_ ?_ _));exact BK368.out)):gb368≠gb375))
           have n13_:=Az.mk ((by rw [hg];exact Nat.ne_of_gt (blk_lt (g:=gb368) (o:=.cells #[.bool false,.slice none 0 0] 38 (0,0)) (by (with_reducible repeat (first|refine bq_ ?_ _|refine bw_ ?_|refine bz_ ?_ _));exact BK368.out)):gb375≠gb368))
           clear HO371
           clear BK366
           clear BK367
           clear BK368
           clear HB
           have HO371:=n0_
           have BK366:=n1_
           have BK367:=n2_
           have BK368:=n3_
           have HB:=n4_
           have BK375:=n5_
           have GW375:=n6_
           have GE375:=n7_
           have NB366_375:=n8_
           have NB375_366:=n9_
           have NB367_375:=n10_
           have NB375_367:=n11_
           have NB368_375:=n12_
           have NB375_368:=n13_
           clear n0_ n1_ n2_ n3_ n4_ n5_ n6_ n7_ n8_ n9_ n10_ n11_ n12_ n13_
           clear hb hbox hg
           refine hK.out _ _ ⟨(bc_ BK366.out 0).trans rfl,(bc_ BK366.out 1).trans rfl,(bc_ BK367.out 0).trans rfl,(bc_ BK367.out 1).trans rfl⟩ (fun hHeld=>?_)
           clear hK K
           refine norm_ (a':=?_) ?_ ?_
           rotate_left
           ·show Act.put _ (some 5) _=_
            simp only [Act.put,sA_,sB_,sC_,i64_w,i32_w]
            rfl
           exact norm_ (by first|(simp only [putAll,Act.put,sA_,sB_,sC_];done)|(simp only [putAll,Act.put,sA_,sB_,sC_];rfl)) (hJ2_6 (v370,gb375) _ ⟨hHeld,(by (with_reducible repeat (first|apply rA_|apply rN_|apply rD_));exact HO371.out),(by (with_reducible repeat (first|refine bq_ ?_ _|refine bw_ ?_|refine bz_ ?_ _));exact BK366.out),(by (with_reducible repeat (first|refine bq_ ?_ _|refine bw_ ?_|refine bz_ ?_ _));exact BK367.out),(by (with_reducible repeat (first|refine bq_ ?_ _|refine bw_ ?_|refine bz_ ?_ _));exact BK368.out),(by (with_reducible repeat (first|refine bq_ ?_ _|refine bw_ ?_|refine bz_ ?_ _));exact BK375.out),GW375.out,GE375.out,NB366_375.out,NB375_366.out,NB367_375.out,NB375_367.out,NB368_375.out,NB375_368.out,(by repeat (first|(with_reducible first|exact HB.out|apply bA_|apply bN_|apply bD_|refine bs_ ?_ GE366.out|refine bs_ ?_ GE367.out|refine bs_ ?_ GE368.out|refine bs_ ?_ GE375.out)|exact HB.out))⟩)
          ·skip
           refine box_step ?hg (N:=6) ?hd (cs:=#[.slice none 0 0]) (t:=87) ?hr ?_;(case hd=>rfl);(case hg=>rfl);(case hr=>first|(go_simp;done)|(go_simp;rfl))
           intro gb376 hg w12 hbox hb
           have n0_:=Az.mk (Kd.R_below (by (with_reducible repeat (first|apply rA_|apply rN_|apply rD_));exact HO371.out) hb)
           have n1_:=Az.mk (bb_ (g:=gb366) (o:=.cells #[.bool a0_0,.slice A0_1 l0_1.length c0_1] 38 (0,0)) (by (with_reducible repeat (first|refine bq_ ?_ _|refine bw_ ?_|refine bz_ ?_ _));exact BK366.out) hb)
           have n2_:=Az.mk (bb_ (g:=gb367) (o:=.cells #[.bool a1_0,.slice A1_1 l1_1.length c1_1] 38 (0,0)) (by (with_reducible repeat (first|refine bq_ ?_ _|refine bw_ ?_|refine bz_ ?_ _));exact BK367.out) hb)
           have n3_:=Az.mk (bb_ (g:=gb368) (o:=.cells #[.bool false,.slice none 0 0] 38 (0,0)) (by (with_reducible repeat (first|refine bq_ ?_ _|refine bw_ ?_|refine bz_ ?_ _));exact BK368.out) hb)
           have n4_:=Az.mk (below_step (by repeat (first|(with_reducible first|exact HB.out|apply bA_|apply bN_|apply bD_|refine bs_ ?_ GE366.out|refine bs_ ?_ GE367.out|refine bs_ ?_ GE368.out)|exact HB.out)) hb)
           have n5_:=Az.mk (hbox)
           have n6_:=Az.mk ((by rw [hg];exact (be_ (by repeat (first|(with_reducible first|exact HB.out|apply bA_|apply bN_|apply bD_|refine bs_ ?_ GE366.out|refine bs_ ?_ GE367.out|refine bs_ ?_ GE368.out)|exact HB.out))):w.heap.size≤gb376))
           have n7_:=Az.mk ((by rw [hg];exact (be_ (by repeat (first|(with_reducible first|exact HB.out|apply bA_|apply bN_|apply bD_|refine bs_ ?_ GE366.out|refine bs_ ?_ GE367.out|refine bs_ ?_ GE368.out)|exact HB.out))):w.heap.size≤gb376))
           have n8_:=Az.mk ((by rw [hg];exact Nat.ne_of_lt (blk_lt (g:=gb366) (o:=.cells #[.bool a0_0,.slice A0_1 l0_1.length c0_1] 38 (0,0)) (by (with_reducible repeat (first|refine bq_ ?_ _|refine bw_ ?_|refine bz_ ?_ _));exact BK366.out)):gb366≠gb376))
           have n9_:=Az.mk ((by rw [hg];exact Nat.ne_of_gt (blk_lt (g:=gb366) (o:=.cells #[.bool a0_0,.slice A0_1 l0_1.length c0_1] 38 (0,0)) (by (with_reducible repeat (first|refine bq_ ?_ _|refine bw_ ?_|refine bz_ ?_ _));exact BK366.out)):gb376≠gb366))
           have n10_:=Az.mk ((by rw [hg];exact Nat.ne_of_lt (blk_lt (g:=gb367) (o:=.cells #[.bool a1_0,.slice A1_1 l1_1.length c1_1] 38 (0,0)) (by (with_reducible repeat (first|refine bq_ ?_ _|refine bw_ ?_|refine bz_ ?_ _));exact BK367.out)):gb367≠gb376))
           have n11_:=Az.mk ((by rw [hg];exact Nat.ne_of_gt (blk_lt (g:=gb367) (o:=.cells #[.bool a1_0,.slice A1_1 l1_1.length c1_1] 38 (0,0)) (by (with_reducible repeat (first|refine bq_ ?_ _|refine bw_ ?_|refine bz_ ?_ _));exact BK367.out)):gb376≠gb367))
           have n12_:=Az.mk ((by rw [hg];exact Nat.ne_of_lt (blk_lt (g:=gb368) (o:=.cells #[.bool false,.slice none 0 0] 38 (0,0)) (by (with_reducible repeat (first|refine bq_ ?_ _|refine bw_ ?_|refine bz_ ?_ _));exact BK368.out)):gb368≠gb376))
           have n13_:=Az.mk ((by rw [hg];exact Nat.ne_of_gt (blk_lt (g:=gb368) (o:=.cells #[.bool false,.slice none 0 0] 38 (0,0)) (by (with_reducible repeat (first|refine bq_ ?_ _|refine bw_ ?_|refine bz_ ?_ _));exact BK368.out)):gb376≠gb368))
           clear HO371
           clear BK366
           clear BK367
           clear BK368
           clear HB
           have HO371:=n0_
           have BK366:=n1_
           have BK367:=n2_
           have BK368:=n3_
           have HB:=n4_
           have BK376:=n5_
           have GW376:=n6_
           have GE376:=n7_
           have NB366_376:=n8_
           have NB376_366:=n9_
           have NB367_376:=n10_
           have NB376_367:=n11_
           have NB368_376:=n12_
           have NB376_368:=n13_
           clear n0_ n1_ n2_ n3_ n4_ n5_ n6_ n7_ n8_ n9_ n10_ n11_ n12_ n13_
           clear hb hbox hg
           refine hK.out _ _ ⟨(bc_ BK366.out 0).trans rfl,(bc_ BK366.out 1).trans rfl,(bc_ BK367.out 0).trans rfl,(bc_ BK367.out 1).trans rfl⟩ (fun hHeld=>?_)
           clear hK K
           refine norm_ (a':=?_) ?_ ?_
           rotate_left
           ·show Act.put _ (some 6) _=_
            simp only [Act.put,sA_,sB_,sC_,i64_w,i32_w]
            rfl
           exact norm_ (by first|(simp only [putAll,Act.put,sA_,sB_,sC_];done)|(simp only [putAll,Act.put,sA_,sB_,sC_];rfl)) (hJ2_7 (v370,gb376) _ ⟨hHeld,(by (with_reducible repeat (first|apply rA_|apply rN_|apply rD_));exact HO371.out),(by (with_reducible repeat (first|refine bq_ ?_ _|refine bw_ ?_|refine bz_ ?_ _));exact BK366.out),(by (with_reducible repeat (first|refine bq_ ?_ _|refine bw_ ?_|refine bz_ ?_ _));exact BK367.out),(by (with_reducible repeat (first|refine bq_ ?_ _|refine bw_ ?_|refine bz_ ?_ _));exact BK368.out),(by (with_reducible repeat (first|refine bq_ ?_ _|refine bw_ ?_|refine bz_ ?_ _));exact BK376.out),GW376.out,GE376.out,NB366_376.out,NB376_366.out,NB367_376.out,NB376_367.out,NB368_376.out,NB376_368.out,(by repeat (first|(with_reducible first|exact HB.out|apply bA_|apply bN_|apply bD_|refine bs_ ?_ GE366.out|refine bs_ ?_ GE367.out|refine bs_ ?_ GE368.out|refine bs_ ?_ GE376.out)|exact HB.out))⟩)
        ·skip
         rintro ⟨gb375,gb376⟩ w12 ⟨hS_,h0_,h1_,h2_,h3_,h4_,h5_,h6_,h7_,h8_,h9_,h10_,h11_,h12_,h13_,h14_,h15_,h16_,h17_,h18_,h19_,h20_,h21_,h22_,h23_⟩
         have n0_:Az (w12.heap[gb366]? = some (.cells #[.bool a0_0,.slice A0_1 l0_1.length c0_1] 38 (0,0))):=⟨h0_⟩
         have n1_:Az (w12.heap[gb367]? = some (.cells #[.bool a1_0,.slice A1_1 l1_1.length c1_1] 38 (0,0))):=⟨h1_⟩
         have n2_:Az (w12.heap[gb368]? = some (.cells #[.bool false,.slice none 0 0] 38 (0,0))):=⟨h2_⟩
         have n3_:Az (w12.heap[gb375]? = some (.cells #[.slice none 0 0] 87 (0,0))):=⟨h3_⟩
         have n4_:Az (w12.heap[gb376]? = some (.cells #[.slice none 0 0] 87 (0,0))):=⟨h4_⟩
         have n5_:Az (w.heap.size≤gb375):=⟨h5_⟩
         have n6_:Az (w.heap.size≤gb375):=⟨h6_⟩
         have n7_:Az (gb366≠gb375):=⟨h7_⟩
         have n8_:Az (gb375≠gb366):=⟨h8_⟩
         have n9_:Az (gb367≠gb375):=⟨h9_⟩
         have n10_:Az (gb375≠gb367):=⟨h10_⟩
         have n11_:Az (gb368≠gb375):=⟨h11_⟩
         have n12_:Az (gb375≠gb368):=⟨h12_⟩
         have n13_:Az (gb376≠gb375):=⟨h13_⟩
         have n14_:Az (gb375≠gb376):=⟨h14_⟩
         have n15_:Az (w.heap.size≤gb376):=⟨h15_⟩
         have n16_:Az (w.heap.size≤gb376):=⟨h16_⟩
         have n17_:Az (gb366≠gb376):=⟨h17_⟩
         have n18_:Az (gb376≠gb366):=⟨h18_⟩
         have n19_:Az (gb367≠gb376):=⟨h19_⟩
         have n20_:Az (gb376≠gb367):=⟨h20_⟩
         have n21_:Az (gb368≠gb376):=⟨h21_⟩
         have n22_:Az (gb376≠gb368):=⟨h22_⟩
         have n23_:Az (Below w.heap.size w w12):=⟨h23_⟩
         clear BK366
         clear BK367
         clear BK368
         clear HB
         clear h0_ h1_ h2_ h3_ h4_ h5_ h6_ h7_ h8_ h9_ h10_ h11_ h12_ h13_ h14_ h15_ h16_ h17_ h18_ h19_ h20_ h21_ h22_ h23_
         have BK366:=n0_
         have BK367:=n1_
         have BK368:=n2_
         have BK375:=n3_
         have BK376:=n4_
         have GW375:=n5_
         have GE375:=n6_
         have NB366_375:=n7_
         have NB375_366:=n8_
         have NB367_375:=n9_
         have NB375_367:=n10_
         have NB368_375:=n11_
         have NB375_368:=n12_
         have NB376_375:=n13_
         have NB375_376:=n14_
         have GW376:=n15_
         have GE376:=n16_
         have NB366_376:=n17_
         have NB376_366:=n18_
         have NB367_376:=n19_
         have NB376_367:=n20_
         have NB368_376:=n21_
         have NB376_368:=n22_
         have HB:=n23_
         clear n0_ n1_ n2_ n3_ n4_ n5_ n6_ n7_ n8_ n9_ n10_ n11_ n12_ n13_ n14_ n15_ n16_ n17_ n18_ n19_ n20_ n21_ n22_ n23_
         have hHeld:w12.cell? ⟨gb366,0,none⟩=some (.bool a0_0)∧w12.cell? ⟨gb366,1,none⟩=some (.slice A0_1 l0_1.length c0_1)∧w12.cell? ⟨gb367,0,none⟩=some (.bool a1_0)∧w12.cell? ⟨gb367,1,none⟩=some (.slice A1_1 l1_1.length c1_1):=hS_
         refine norm_ (a':=?_) ?_ ?_
         rotate_left
         ·simp only [putAll,Act.put,sA_,sB_,sC_]
          rfl
         refine one_ (i:=2) (N:=some 9) #[true,true,true,true,true,false,true,true,false,false] rfl rfl (one_of HT_.out (by kernel_rfl)) (by decide) (fun K hK=>?_)
         refine goes_ Try.func61 (by kernel_rfl) rfl #[.slice A0_1 l0_1.length c0_1] (by rfl) rfl rfl (by (try simp only [List.map_toArray,List.map_cons,List.map_nil]);first|done|rfl|(simp only [List.length_drop,List.length_take];rfl)) ?_
         with_reducible refine (names_of_string.calls _ _ l0_1 t369 _ ?side1 ?side2 A3.out).mono ?_
         (case side1=>repeat (first|exact (Kd.C_below HR0_1.out HB.out)|(with_reducible refine cA_ ?_ _)|(with_reducible refine cN_ ?_ _)|(with_reducible refine cD_ ?_)))
         (case side2=>exact HC0_1.out)
         rintro e w13 ⟨v370,rfl,ho0,hb⟩
         refine ⟨_,rfl,?_⟩
         have n0_:=Az.mk (Kd.R_lower ho0 (be_ (by repeat (first|(with_reducible first|exact HB.out|apply bA_|apply bN_|apply bD_|refine bs_ ?_ GE366.out|refine bs_ ?_ GE367.out|refine bs_ ?_ GE368.out|refine bs_ ?_ GE375.out|refine bs_ ?_ GE376.out)|exact HB.out))))
         have n1_:=Az.mk (bb_ (g:=gb366) (o:=.cells #[.bool a0_0,.slice A0_1 l0_1.length c0_1] 38 (0,0)) (by (with_reducible repeat (first|refine bq_ ?_ _|refine bw_ ?_|refine bz_ ?_ _));exact BK366.out) hb)
         have n2_:=Az.mk (bb_ (g:=gb367) (o:=.cells #[.bool a1_0,.slice A1_1 l1_1.length c1_1] 38 (0,0)) (by (with_reducible repeat (first|refine bq_ ?_ _|refine bw_ ?_|refine bz_ ?_ _));exact BK367.out) hb)
         have n3_:=Az.mk (bb_ (g:=gb368) (o:=.cells #[.bool false,.slice none 0 0] 38 (0,0)) (by (with_reducible repeat (first|refine bq_ ?_ _|refine bw_ ?_|refine bz_ ?_ _));exact BK368.out) hb)
         have n4_:=Az.mk (bb_ (g:=gb375) (o:=.cells #[.slice none 0 0] 87 (0,0)) (by (with_reducible repeat (first|refine bq_ ?_ _|refine bw_ ?_|refine bz_ ?_ _));exact BK375.out) hb)
         have n5_:=Az.mk (bb_ (g:=gb376) (o:=.cells #[.slice none 0 0] 87 (0,0)) (by (with_reducible repeat (first|refine bq_ ?_ _|refine bw_ ?_|refine bz_ ?_ _));exact BK376.out) hb)
         have n6_:=Az.mk (below_step (by repeat (first|(with_reducible first|exact HB.out|apply bA_|apply bN_|apply bD_|refine bs_ ?_ GE366.out|refine bs_ ?_ GE367.out|refine bs_ ?_ GE368.out|refine bs_ ?_ GE375.out|refine bs_ ?_ GE376.out)|exact HB.out)) hb)
         clear BK366
         clear BK367
         clear BK368
         clear BK375
         clear BK376
         clear HB
         have HO371:=n0_
         have BK366:=n1_
         have BK367:=n2_
         have BK368:=n3_
         have BK375:=n4_
         have BK376:=n5_
         have HB:=n6_
         clear n0_ n1_ n2_ n3_ n4_ n5_ n6_
         (try clear hb)
         (try clear hb2)
         (try clear hk)
         (try clear hi)
         (try clear ho0)
         refine hK.out _ _ ⟨(bc_ BK366.out 0).trans rfl,(bc_ BK366.out 1).trans rfl,(bc_ BK367.out 0).trans rfl,(bc_ BK367.out 1).trans rfl⟩ (fun hHeld=>?_)
         clear hK K
         refine norm_ (a':=?_) ?_ ?_
         rotate_left
         ·show Act.put _ (some 9) _=_
          simp only [Act.put,sA_,sB_,sC_,i64_w,i32_w]
          rfl
         exact norm_ (by first|(simp only [putAll,Act.put,sA_,sB_,sC_];done)|(simp only [putAll,Act.put,sA_,sB_,sC_];rfl)) (hJ2_6_7 (v370,gb375,gb376) _ ⟨hHeld,(by (with_reducible repeat (first|apply rA_|apply rN_|apply rD_));exact HO371.out),(by (with_reducible repeat (first|refine bq_ ?_ _|refine bw_ ?_|refine bz_ ?_ _));exact BK366.out),(by (with_reducible repeat (first|refine bq_ ?_ _|refine bw_ ?_|refine bz_ ?_ _));exact BK367.out),(by (with_reducible repeat (first|refine bq_ ?_ _|refine bw_ ?_|refine bz_ ?_ _));exact BK368.out),(by (with_reducible repeat (first|refine bq_ ?_ _|refine bw_ ?_|refine bz_ ?_ _));exact BK375.out),(by (with_reducible repeat (first|refine bq_ ?_ _|refine bw_ ?_|refine bz_ ?_ _));exact BK376.out),GW375.out,GE375.out,NB366_375.out,NB375_366.out,NB367_375.out,NB375_367.out,NB368_375.out,NB375_368.out,NB376_375.out,NB375_376.out,GW376.out,GE376.out,NB366_376.out,NB376_366.out,NB367_376.out,NB376_367.out,NB368_376.out,NB376_368.out,(by repeat (first|(with_reducible first|exact HB.out|apply bA_|apply bN_|apply bD_|refine bs_ ?_ GE366.out|refine bs_ ?_ GE367.out|refine bs_ ?_ GE368.out|refine bs_ ?_ GE375.out|refine bs_ ?_ GE376.out)|exact HB.out))⟩)
       ·skip
        rintro ⟨v370,gb376⟩ w12 ⟨hS_,h0_,h1_,h2_,h3_,h4_,h5_,h6_,h7_,h8_,h9_,h10_,h11_,h12_,h13_⟩
        have n0_:Az (Kd.R Kd.string 9 w12 w.heap.size (fun _=>True) v370 t369):=⟨h0_⟩
        have n1_:Az (w12.heap[gb366]? = some (.cells #[.bool a0_0,.slice A0_1 l0_1.length c0_1] 38 (0,0))):=⟨h1_⟩
        have n2_:Az (w12.heap[gb367]? = some (.cells #[.bool a1_0,.slice A1_1 l1_1.length c1_1] 38 (0,0))):=⟨h2_⟩
        have n3_:Az (w12.heap[gb368]? = some (.cells #[.bool false,.slice none 0 0] 38 (0,0))):=⟨h3_⟩
        have n4_:Az (w12.heap[gb376]? = some (.cells #[.slice none 0 0] 87 (0,0))):=⟨h4_⟩
        have n5_:Az (w.heap.size≤gb376):=⟨h5_⟩
        have n6_:Az (w.heap.size≤gb376):=⟨h6_⟩
        have n7_:Az (gb366≠gb376):=⟨h7_⟩
        have n8_:Az (gb376≠gb366):=⟨h8_⟩
        have n9_:Az (gb367≠gb376):=⟨h9_⟩
        have n10_:Az (gb376≠gb367):=⟨h10_⟩
        have n11_:Az (gb368≠gb376):=⟨h11_⟩
        have n12_:Az (gb376≠gb368):=⟨h12_⟩
        have n13_:Az (Below w.heap.size w w12):=⟨h13_⟩
        clear BK366
        clear BK367
        clear BK368
        clear HB
        clear h0_ h1_ h2_ h3_ h4_ h5_ h6_ h7_ h8_ h9_ h10_ h11_ h12_ h13_
        have HO371:=n0_
        have BK366:=n1_
        have BK367:=n2_
        have BK368:=n3_
        have BK376:=n4_
        have GW376:=n5_
        have GE376:=n6_
        have NB366_376:=n7_
        have NB376_366:=n8_
        have NB367_376:=n9_
        have NB376_367:=n10_
        have NB368_376:=n11_
        have NB376_368:=n12_
        have HB:=n13_
        clear n0_ n1_ n2_ n3_ n4_ n5_ n6_ n7_ n8_ n9_ n10_ n11_ n12_ n13_
        have hHeld:w12.cell? ⟨gb366,0,none⟩=some (.bool a0_0)∧w12.cell? ⟨gb366,1,none⟩=some (.slice A0_1 l0_1.length c0_1)∧w12.cell? ⟨gb367,0,none⟩=some (.bool a1_0)∧w12.cell? ⟨gb367,1,none⟩=some (.slice A1_1 l1_1.length c1_1):=hS_
        refine norm_ (a':=?_) ?_ ?_
        rotate_left
        ·simp only [putAll,Act.put,sA_,sB_,sC_]
         rfl
        refine two_ (i:=5) (j:=6) (Ni:=some 12) (Nj:=some 5) #[true,true,true,true,true,true,false,true,false,false] #[true,true,true,true,true,false,true,true,false,false] rfl rfl rfl rfl (two_of HT_.out (by kernel_rfl)) (by decide) (by decide) (fun K hK=>?_) (fun K hK=>?_)
        ·skip
         refine goes_ Try.func61 (by kernel_rfl) rfl #[.slice A1_1 l1_1.length c1_1] (by rfl) rfl rfl (by (try simp only [List.map_toArray,List.map_cons,List.map_nil]);first|done|rfl|(simp only [List.length_drop,List.length_take];rfl)) ?_
         with_reducible refine (names_of_string.calls _ _ l1_1 t372 _ ?side1 ?side2 A4.out).mono ?_
         (case side1=>repeat (first|exact (Kd.C_below HR1_1.out HB.out)|(with_reducible refine cA_ ?_ _)|(with_reducible refine cN_ ?_ _)|(with_reducible refine cD_ ?_)))
         (case side2=>exact HC1_1.out)
         rintro e w13 ⟨v373,rfl,ho0,hb⟩
         refine ⟨_,rfl,?_⟩
         have n0_:=Az.mk (Kd.R_elder' (by (with_reducible repeat (first|apply rA_|apply rN_|apply rD_));exact HO371.out) (Kd.R_base ho0) hb)
         have n1_:=Az.mk (Kd.R_lower (Kd.R_new' ho0 (Kd.R_lt (by (with_reducible repeat (first|apply rA_|apply rN_|apply rD_));exact HO371.out))) (be_ (by repeat (first|(with_reducible first|exact HB.out|apply bA_|apply bN_|apply bD_|refine bs_ ?_ GE366.out|refine bs_ ?_ GE367.out|refine bs_ ?_ GE368.out|refine bs_ ?_ GE376.out)|exact HB.out))))
         have n2_:=Az.mk (bb_ (g:=gb366) (o:=.cells #[.bool a0_0,.slice A0_1 l0_1.length c0_1] 38 (0,0)) (by (with_reducible repeat (first|refine bq_ ?_ _|refine bw_ ?_|refine bz_ ?_ _));exact BK366.out) hb)
         have n3_:=Az.mk (bb_ (g:=gb367) (o:=.cells #[.bool a1_0,.slice A1_1 l1_1.length c1_1] 38 (0,0)) (by (with_reducible repeat (first|refine bq_ ?_ _|refine bw_ ?_|refine bz_ ?_ _));exact BK367.out) hb)
         have n4_:=Az.mk (bb_ (g:=gb368) (o:=.cells #[.bool false,.slice none 0 0] 38 (0,0)) (by (with_reducible repeat (first|refine bq_ ?_ _|refine bw_ ?_|refine bz_ ?_ _));exact BK368.out) hb)
         have n5_:=Az.mk (bb_ (g:=gb376) (o:=.cells #[.slice none 0 0] 87 (0,0)) (by (with_reducible repeat (first|refine bq_ ?_ _|refine bw_ ?_|refine bz_ ?_ _));exact BK376.out) hb)
         have n6_:=Az.mk (below_step (by repeat (first|(with_reducible first|exact HB.out|apply bA_|apply bN_|apply bD_|refine bs_ ?_ GE366.out|refine bs_ ?_ GE367.out|refine bs_ ?_ GE368.out|refine bs_ ?_ GE376.out)|exact HB.out)) hb)
         clear HO371
         clear BK366
         clear BK367
         clear BK368
         clear BK376
         clear HB
         have HO371:=n0_
         have HO374:=n1_
         have BK366:=n2_
         have BK367:=n3_
         have BK368:=n4_
         have BK376:=n5_
         have HB:=n6_
         clear n0_ n1_ n2_ n3_ n4_ n5_ n6_
         (try clear hb)
         (try clear hb2)
         (try clear hk)
         (try clear hi)
         (try clear ho0)
         refine hK.out _ _ ⟨(bc_ BK366.out 0).trans rfl,(bc_ BK366.out 1).trans rfl,(bc_ BK367.out 0).trans rfl,(bc_ BK367.out 1).trans rfl⟩ (fun hHeld=>?_)
         clear hK K
         refine norm_ (a':=?_) ?_ ?_
         rotate_left
         ·show Act.put _ (some 12) _=_
          simp only [Act.put,sA_,sB_,sC_,i64_w,i32_w]
          rfl
         exact norm_ (by first|(simp only [putAll,Act.put,sA_,sB_,sC_];done)|(simp only [putAll,Act.put,sA_,sB_,sC_];rfl)) (hJ2_5_7 (v370,v373,gb376) _ ⟨hHeld,(by (with_reducible repeat (first|apply rA_|apply rN_|apply rD_));exact Kd.R_mono HO371.out (fun _ hk=>hk.2)),(by (with_reducible repeat (first|apply rA_|apply rN_|apply rD_));exact Kd.R_mono HO374.out (fun _ hk=>hk.2)),(by (with_reducible repeat (first|refine bq_ ?_ _|refine bw_ ?_|refine bz_ ?_ _));exact BK366.out),(by (with_reducible repeat (first|refine bq_ ?_ _|refine bw_ ?_|refine bz_ ?_ _));exact BK367.out),(by (with_reducible repeat (first|refine bq_ ?_ _|refine bw_ ?_|refine bz_ ?_ _));exact BK368.out),(by (with_reducible repeat (first|refine bq_ ?_ _|refine bw_ ?_|refine bz_ ?_ _));exact BK376.out),GW376.out,GE376.out,NB366_376.out,NB376_366.out,NB367_376.out,NB376_367.out,NB368_376.out,NB376_368.out,(by repeat (first|(with_reducible first|exact HB.out|apply bA_|apply bN_|apply bD_|refine bs_ ?_ GE366.out|refine bs_ ?_ GE367.out|refine bs_ ?_ GE368.out|refine bs_ ?_ GE376.out)|exact HB.out))⟩)
        ·skip
         refine box_step ?hg (N:=5) ?hd (cs:=#[.slice none 0 0]) (t:=87) ?hr ?_;(case hd=>rfl);(case hg=>rfl);(case hr=>first|(go_simp;done)|(go_simp;rfl))
         intro gb375 hg w13 hbox hb
         have n0_:=Az.mk (Kd.R_below (by (with_reducible repeat (first|apply rA_|apply rN_|apply rD_));exact HO371.out) hb)
         have n1_:=Az.mk (bb_ (g:=gb366) (o:=.cells #[.bool a0_0,.slice A0_1 l0_1.length c0_1] 38 (0,0)) (by (with_reducible repeat (first|refine bq_ ?_ _|refine bw_ ?_|refine bz_ ?_ _));exact BK366.out) hb)
         have n2_:=Az.mk (bb_ (g:=gb367) (o:=.cells #[.bool a1_0,.slice A1_1 l1_1.length c1_1] 38 (0,0)) (by (with_reducible repeat (first|refine bq_ ?_ _|refine bw_ ?_|refine bz_ ?_ _));exact BK367.out) hb)
         have n3_:=Az.mk (bb_ (g:=gb368) (o:=.cells #[.bool false,.slice none 0 0] 38 (0,0)) (by (with_reducible repeat (first|refine bq_ ?_ _|refine bw_ ?_|refine bz_ ?_ _));exact BK368.out) hb)
         have n4_:=Az.mk (bb_ (g:=gb376) (o:=.cells #[.slice none 0 0] 87 (0,0)) (by (with_reducible repeat (first|refine bq_ ?_ _|refine bw_ ?_|refine bz_ ?_ _));exact BK376.out) hb)
         have n5_:=Az.mk (below_step (by repeat (first|(with_reducible first|exact HB.out|apply bA_|apply bN_|apply bD_|refine bs_ ?_ GE366.out|refine bs_ ?_ GE367.out|refine bs_ ?_ GE368.out|refine bs_ ?_ GE376.out)|exact HB.out)) hb)
         have n6_:=Az.mk (hbox)
         have n7_:=Az.mk ((by rw [hg];exact (be_ (by repeat (first|(with_reducible first|exact HB.out|apply bA_|apply bN_|apply bD_|refine bs_ ?_ GE366.out|refine bs_ ?_ GE367.out|refine bs_ ?_ GE368.out|refine bs_ ?_ GE376.out)|exact HB.out))):w.heap.size≤gb375))
         have n8_:=Az.mk ((by rw [hg];exact (be_ (by repeat (first|(with_reducible first|exact HB.out|apply bA_|apply bN_|apply bD_|refine bs_ ?_ GE366.out|refine bs_ ?_ GE367.out|refine bs_ ?_ GE368.out|refine bs_ ?_ GE376.out)|exact HB.out))):w.heap.size≤gb375))
         have n9_:=Az.mk ((by rw [hg];exact Nat.ne_of_lt (blk_lt (g:=gb366) (o:=.cells #[.bool a0_0,.slice A0_1 l0_1.length c0_1] 38 (0,0)) (by (with_reducible repeat (first|refine bq_ ?_ _|refine bw_ ?_|refine bz_ ?_ _));exact BK366.out)):gb366≠gb375))
         have n10_:=Az.mk ((by rw [hg];exact Nat.ne_of_gt (blk_lt (g:=gb366) (o:=.cells #[.bool a0_0,.slice A0_1 l0_1.length c0_1] 38 (0,0)) (by (with_reducible repeat (first|refine bq_ ?_ _|refine bw_ ?_|refine bz_ ?_ _));exact BK366.out)):gb375≠gb366))
         have n11_:=Az.mk ((by rw [hg];exact Nat.ne_of_lt (blk_lt (g:=gb367) (o:=.cells #[.bool a1_0,.slice A1_1 l1_1.length c1_1] 38 (0,0)) (by (with_reducible repeat (first|refine bq_ ?_ _|refine bw_ ?_|refine bz_ ?_ _));exact BK367.out)):gb367≠gb375))
         have n12_:=Az.mk ((by rw [hg];exact Nat.ne_of_gt (blk_lt (g:=gb367) (o:=.cells #[.bool a1_0,.slice A1_1 l1_1.length c1_1] 38 (0,0)) (by (with_reducible repeat (first|refine bq_ ?_ _|refine bw_ ?_|refine bz_ ?_ _));exact BK367.out)):gb375≠gb367))
         have n13_:=Az.mk ((by rw [hg];exact Nat.ne_of_lt (blk_lt (g:=gb368) (o:=.cells #[.bool false,.slice none 0 0] 38 (0,0)) (by (with_reducible repeat (first|refine bq_ ?_ _|refine bw_ ?_|refine bz_ ?_ _));exact BK368.out)):gb368≠gb375))
         have n14_:=Az.mk ((by rw [hg];exact Nat.ne_of_gt (blk_lt (g:=gb368) (o:=.cells #[.bool false,.slice none 0 0] 38 (0,0)) (by (with_reducible repeat (first|refine bq_ ?_ _|refine bw_ ?_|refine bz_ ?_ _));exact BK368.out)):gb375≠gb368))
         have n15_:=Az.mk ((by rw [hg];exact Nat.ne_of_lt (blk_lt (g:=gb376) (o:=.cells #[.slice none 0 0] 87 (0,0)) (by (with_reducible repeat (first|refine bq_ ?_ _|refine bw_ ?_|refine bz_ ?_ _));exact BK376.out)):gb376≠gb375))
         have n16_:=Az.mk ((by rw [hg];exact Nat.ne_of_gt (blk_lt (g:=gb376) (o:=.cells #[.slice none 0 0] 87 (0,0)) (by (with_reducible repeat (first|refine bq_ ?_ _|refine bw_ ?_|refine bz_ ?_ _));exact BK376.out)):gb375≠gb376))
         clear HO371
         clear BK366
         clear BK367
         clear BK368
         clear BK376
         clear HB
         have HO371:=n0_
         have BK366:=n1_
         have BK367:=n2_
         have BK368:=n3_
         have BK376:=n4_
         have HB:=n5_
         have BK375:=n6_
         have GW375:=n7_
         have GE375:=n8_
         have NB366_375:=n9_
         have NB375_366:=n10_
         have NB367_375:=n11_
         have NB375_367:=n12_
         have NB368_375:=n13_
         have NB375_368:=n14_
         have NB376_375:=n15_
         have NB375_376:=n16_
         clear n0_ n1_ n2_ n3_ n4_ n5_ n6_ n7_ n8_ n9_ n10_ n11_ n12_ n13_ n14_ n15_ n16_
         clear hb hbox hg
         refine hK.out _ _ ⟨(bc_ BK366.out 0).trans rfl,(bc_ BK366.out 1).trans rfl,(bc_ BK367.out 0).trans rfl,(bc_ BK367.out 1).trans rfl⟩ (fun hHeld=>?_)
         clear hK K
         refine norm_ (a':=?_) ?_ ?_
         rotate_left
         ·show Act.put _ (some 5) _=_
          simp only [Act.put,sA_,sB_,sC_,i64_w,i32_w]
          rfl
         exact norm_ (by first|(simp only [putAll,Act.put,sA_,sB_,sC_];done)|(simp only [putAll,Act.put,sA_,sB_,sC_];rfl)) (hJ2_6_7 (v370,gb375,gb376) _ ⟨hHeld,(by (with_reducible repeat (first|apply rA_|apply rN_|apply rD_));exact HO371.out),(by (with_reducible repeat (first|refine bq_ ?_ _|refine bw_ ?_|refine bz_ ?_ _));exact BK366.out),(by (with_reducible repeat (first|refine bq_ ?_ _|refine bw_ ?_|refine bz_ ?_ _));exact BK367.out),(by (with_reducible repeat (first|refine bq_ ?_ _|refine bw_ ?_|refine bz_ ?_ _));exact BK368.out),(by (with_reducible repeat (first|refine bq_ ?_ _|refine bw_ ?_|refine bz_ ?_ _));exact BK375.out),(by (with_reducible repeat (first|refine bq_ ?_ _|refine bw_ ?_|refine bz_ ?_ _));exact BK376.out),GW375.out,GE375.out,NB366_375.out,NB375_366.out,NB367_375.out,NB375_367.out,NB368_375.out,NB375_368.out,NB376_375.out,NB375_376.out,GW376.out,GE376.out,NB366_376.out,NB376_366.out,NB367_376.out,NB376_367.out,NB368_376.out,NB376_368.out,(by repeat (first|(with_reducible first|exact HB.out|apply bA_|apply bN_|apply bD_|refine bs_ ?_ GE366.out|refine bs_ ?_ GE367.out|refine bs_ ?_ GE368.out|refine bs_ ?_ GE376.out|refine bs_ ?_ GE375.out)|exact HB.out))⟩)
      ·skip
       rintro ⟨v370,gb375⟩ w12 ⟨hS_,h0_,h1_,h2_,h3_,h4_,h5_,h6_,h7_,h8_,h9_,h10_,h11_,h12_,h13_⟩
       have n0_:Az (Kd.R Kd.string 9 w12 w.heap.size (fun _=>True) v370 t369):=⟨h0_⟩
       have n1_:Az (w12.heap[gb366]? = some (.cells #[.bool a0_0,.slice A0_1 l0_1.length c0_1] 38 (0,0))):=⟨h1_⟩
       have n2_:Az (w12.heap[gb367]? = some (.cells #[.bool a1_0,.slice A1_1 l1_1.length c1_1] 38 (0,0))):=⟨h2_⟩
       have n3_:Az (w12.heap[gb368]? = some (.cells #[.bool false,.slice none 0 0] 38 (0,0))):=⟨h3_⟩
       have n4_:Az (w12.heap[gb375]? = some (.cells #[.slice none 0 0] 87 (0,0))):=⟨h4_⟩
       have n5_:Az (w.heap.size≤gb375):=⟨h5_⟩
       have n6_:Az (w.heap.size≤gb375):=⟨h6_⟩
       have n7_:Az (gb366≠gb375):=⟨h7_⟩
       have n8_:Az (gb375≠gb366):=⟨h8_⟩
       have n9_:Az (gb367≠gb375):=⟨h9_⟩
       have n10_:Az (gb375≠gb367):=⟨h10_⟩
       have n11_:Az (gb368≠gb375):=⟨h11_⟩
       have n12_:Az (gb375≠gb368):=⟨h12_⟩
       have n13_:Az (Below w.heap.size w w12):=⟨h13_⟩
       clear BK366
       clear BK367
       clear BK368
       clear HB
       clear h0_ h1_ h2_ h3_ h4_ h5_ h6_ h7_ h8_ h9_ h10_ h11_ h12_ h13_
       have HO371:=n0_
       have BK366:=n1_
       have BK367:=n2_
       have BK368:=n3_
       have BK375:=n4_
       have GW375:=n5_
       have GE375:=n6_
       have NB366_375:=n7_
       have NB375_366:=n8_
       have NB367_375:=n9_
       have NB375_367:=n10_
       have NB368_375:=n11_
       have NB375_368:=n12_
       have HB:=n13_
       clear n0_ n1_ n2_ n3_ n4_ n5_ n6_ n7_ n8_ n9_ n10_ n11_ n12_ n13_
       have hHeld:w12.cell? ⟨gb366,0,none⟩=some (.bool a0_0)∧w12.cell? ⟨gb366,1,none⟩=some (.slice A0_1 l0_1.length c0_1)∧w12.cell? ⟨gb367,0,none⟩=some (.bool a1_0)∧w12.cell? ⟨gb367,1,none⟩=some (.slice A1_1 l1_1.length c1_1):=hS_
       refine norm_ (a':=?_) ?_ ?_
       rotate_left
       ·simp only [putAll,Act.put,sA_,sB_,sC_]
        rfl
       refine two_ (i:=5) (j:=7) (Ni:=some 12) (Nj:=some 6) #[true,true,true,true,true,true,true,false,false,false] #[true,true,true,true,true,false,true,true,false,false] rfl rfl rfl rfl (two_of HT_.out (by kernel_rfl)) (by decide) (by decide) (fun K hK=>?_) (fun K hK=>?_)
       ·skip
        refine goes_ Try.func61 (by kernel_rfl) rfl #[.slice A1_1 l1_1.length c1_1] (by rfl) rfl rfl (by (try simp only [List.map_toArray,List.map_cons,List.map_nil]);first|done|rfl|(simp only [List.length_drop,List.length_take];rfl)) ?_
        with_reducible refine (names_of_string.calls _ _ l1_1 t372 _ ?side1 ?side2 A4.out).mono ?_
        (case side1=>repeat (first|exact (Kd.C_below HR1_1.out HB.out)|(with_reducible refine cA_ ?_ _)|(with_reducible refine cN_ ?_ _)|(with_reducible refine cD_ ?_)))
        (case side2=>exact HC1_1.out)
        rintro e w13 ⟨v373,rfl,ho0,hb⟩
        refine ⟨_,rfl,?_⟩
        have n0_:=Az.mk (Kd.R_elder' (by (with_reducible repeat (first|apply rA_|apply rN_|apply rD_));exact HO371.out) (Kd.R_base ho0) hb)
        have n1_:=Az.mk (Kd.R_lower (Kd.R_new' ho0 (Kd.R_lt (by (with_reducible repeat (first|apply rA_|apply rN_|apply rD_));exact HO371.out))) (be_ (by repeat (first|(with_reducible first|exact HB.out|apply bA_|apply bN_|apply bD_|refine bs_ ?_ GE366.out|refine bs_ ?_ GE367.out|refine bs_ ?_ GE368.out|refine bs_ ?_ GE375.out)|exact HB.out))))
        have n2_:=Az.mk (bb_ (g:=gb366) (o:=.cells #[.bool a0_0,.slice A0_1 l0_1.length c0_1] 38 (0,0)) (by (with_reducible repeat (first|refine bq_ ?_ _|refine bw_ ?_|refine bz_ ?_ _));exact BK366.out) hb)
        have n3_:=Az.mk (bb_ (g:=gb367) (o:=.cells #[.bool a1_0,.slice A1_1 l1_1.length c1_1] 38 (0,0)) (by (with_reducible repeat (first|refine bq_ ?_ _|refine bw_ ?_|refine bz_ ?_ _));exact BK367.out) hb)
        have n4_:=Az.mk (bb_ (g:=gb368) (o:=.cells #[.bool false,.slice none 0 0] 38 (0,0)) (by (with_reducible repeat (first|refine bq_ ?_ _|refine bw_ ?_|refine bz_ ?_ _));exact BK368.out) hb)
        have n5_:=Az.mk (bb_ (g:=gb375) (o:=.cells #[.slice none 0 0] 87 (0,0)) (by (with_reducible repeat (first|refine bq_ ?_ _|refine bw_ ?_|refine bz_ ?_ _));exact BK375.out) hb)
        have n6_:=Az.mk (below_step (by repeat (first|(with_reducible first|exact HB.out|apply bA_|apply bN_|apply bD_|refine bs_ ?_ GE366.out|refine bs_ ?_ GE367.out|refine bs_ ?_ GE368.out|refine bs_ ?_ GE375.out)|exact HB.out)) hb)
        clear HO371
        clear BK366
        clear BK367
        clear BK368
        clear BK375
        clear HB
        have HO371:=n0_
        have HO374:=n1_
        have BK366:=n2_
        have BK367:=n3_
        have BK368:=n4_
        have BK375:=n5_
        have HB:=n6_
        clear n0_ n1_ n2_ n3_ n4_ n5_ n6_
        (try clear hb)
        (try clear hb2)
        (try clear hk)
        (try clear hi)
        (try clear ho0)
        refine hK.out _ _ ⟨(bc_ BK366.out 0).trans rfl,(bc_ BK366.out 1).trans rfl,(bc_ BK367.out 0).trans rfl,(bc_ BK367.out 1).trans rfl⟩ (fun hHeld=>?_)
        clear hK K
        refine norm_ (a':=?_) ?_ ?_
        rotate_left
        ·show Act.put _ (some 12) _=_
         simp only [Act.put,sA_,sB_,sC_,i64_w,i32_w]
         rfl
        exact norm_ (by first|(simp only [putAll,Act.put,sA_,sB_,sC_];done)|(simp only [putAll,Act.put,sA_,sB_,sC_];rfl)) (hJ2_5_6 (v370,v373,gb375) _ ⟨hHeld,(by (with_reducible repeat (first|apply rA_|apply rN_|apply rD_));exact Kd.R_mono HO371.out (fun _ hk=>hk.2)),(by (with_reducible repeat (first|apply rA_|apply rN_|apply rD_));exact Kd.R_mono HO374.out (fun _ hk=>hk.2)),(by (with_reducible repeat (first|refine bq_ ?_ _|refine bw_ ?_|refine bz_ ?_ _));exact BK366.out),(by (with_reducible repeat (first|refine bq_ ?_ _|refine bw_ ?_|refine bz_ ?_ _));exact BK367.out),(by (with_reducible repeat (first|refine bq_ ?_ _|refine bw_ ?_|refine bz_ ?_ _));exact BK368.out),(by (with_reducible repeat (first|refine bq_ ?_ _|refine bw_ ?_|refine bz_ ?_ _));exact BK375.out),GW375.out,GE375.out,NB366_375.out,NB375_366.out,NB367_375.out,NB375_367.out,NB368_375.out,NB375_368.out,(by repeat (first|(with_reducible first|exact HB.out|apply bA_|apply bN_|apply bD_|refine bs_ ?_ GE366.out|refine bs_ ?_ GE367.out|refine bs_ ?_ GE368.out|refine bs_ ?_ GE375.out)|exact HB.out))⟩)
       ·skip
        refine box_step ?hg (N:=6) ?hd (cs:=#[.slice none 0 0]) (t:=87) ?hr ?_;(case hd=>rfl);(case hg=>rfl);(case hr=>first|(go_simp;done)|(go_simp;rfl))
        intro gb376 hg w13 hbox hb
        have n0_:=Az.mk (Kd.R_below (by (with_reducible repeat (first|apply rA_|apply rN_|apply rD_));exact HO371.out) hb)
        have n1_:=Az.mk (bb_ (g:=gb366) (o:=.cells #[.bool a0_0,.slice A0_1 l0_1.length c0_1] 38 (0,0)) (by (with_reducible repeat (first|refine bq_ ?_ _|refine bw_ ?_|refine bz_ ?_ _));exact BK366.out) hb)
        have n2_:=Az.mk (bb_ (g:=gb367) (o:=.cells #[.bool a1_0,.slice A1_1 l1_1.length c1_1] 38 (0,0)) (by (with_reducible repeat (first|refine bq_ ?_ _|refine bw_ ?_|refine bz_ ?_ _));exact BK367.out) hb)
        have n3_:=Az.mk (bb_ (g:=gb368) (o:=.cells #[.bool false,.slice none 0 0] 38 (0,0)) (by (with_reducible repeat (first|refine bq_ ?_ _|refine bw_ ?_|refine bz_ ?_ _));exact BK368.out) hb)
        have n4_:=Az.mk (bb_ (g:=gb375) (o:=.cells #[.slice none 0 0] 87 (0,0)) (by (with_reducible repeat (first|refine bq_ ?_ _|refine bw_ ?_|refine bz_ ?_ _));exact BK375.out) hb)
        have n5_:=Az.mk (below_step (by repeat (first|(with_reducible first|exact HB.out|apply bA_|apply bN_|apply bD_|refine bs_ ?_ GE366.out|refine bs_ ?_ GE367.out|refine bs_ ?_ GE368.out|refine bs_ ?_ GE375.out)|exact HB.out)) hb)
        have n6_:=Az.mk (hbox)
        have n7_:=Az.mk ((by rw [hg];exact (be_ (by repeat (first|(with_reducible first|exact HB.out|apply bA_|apply bN_|apply bD_|refine bs_ ?_ GE366.out|refine bs_ ?_ GE367.out|refine bs_ ?_ GE368.out|refine bs_ ?_ GE375.out)|exact HB.out))):w.heap.size≤gb376))
        have n8_:=Az.mk ((by rw [hg];exact (be_ (by repeat (first|(with_reducible first|exact HB.out|apply bA_|apply bN_|apply bD_|refine bs_ ?_ GE366.out|refine bs_ ?_ GE367.out|refine bs_ ?_ GE368.out|refine bs_ ?_ GE375.out)|exact HB.out))):w.heap.size≤gb376))
        have n9_:=Az.mk ((by rw [hg];exact Nat.ne_of_lt (blk_lt (g:=gb366) (o:=.cells #[.bool a0_0,.slice A0_1 l0_1.length c0_1] 38 (0,0)) (by (with_reducible repeat (first|refine bq_ ?_ _|refine bw_ ?_|refine bz_ ?_ _));exact BK366.out)):gb366≠gb376))
        have n10_:=Az.mk ((by rw [hg];exact Nat.ne_of_gt (blk_lt (g:=gb366) (o:=.cells #[.bool a0_0,.slice A0_1 l0_1.length c0_1] 38 (0,0)) (by (with_reducible repeat (first|refine bq_ ?_ _|refine bw_ ?_|refine bz_ ?_ _));exact BK366.out)):gb376≠gb366))
        have n11_:=Az.mk ((by rw [hg];exact Nat.ne_of_lt (blk_lt (g:=gb367) (o:=.cells #[.bool a1_0,.slice A1_1 l1_1.length c1_1] 38 (0,0)) (by (with_reducible repeat (first|refine bq_ ?_ _|refine bw_ ?_|refine bz_ ?_ _));exact BK367.out)):gb367≠gb376))
        have n12_:=Az.mk ((by rw [hg];exact Nat.ne_of_gt (blk_lt (g:=gb367) (o:=.cells #[.bool a1_0,.slice A1_1 l1_1.length c1_1] 38 (0,0)) (by (with_reducible repeat (first|refine bq_ ?_ _|refine bw_ ?_|refine bz_ ?_ _));exact BK367.out)):gb376≠gb367))
        have n13_:=Az.mk ((by rw [hg];exact Nat.ne_of_lt (blk_lt (g:=gb368) (o:=.cells #[.bool false,.slice none 0 0] 38 (0,0)) (by (with_reducible repeat (first|refine bq_ ?_ _|refine bw_ ?_|refine bz_ ?_ _));exact BK368.out)):gb368≠gb376))
        have n14_:=Az.mk ((by rw [hg];exact Nat.ne_of_gt (blk_lt (g:=gb368) (o:=.cells #[.bool false,.slice none 0 0] 38 (0,0)) (by (with_reducible repeat (first|refine bq_ ?_ _|refine bw_ ?_|refine bz_ ?_ _));exact BK368.out)):gb376≠gb368))
        have n15_:=Az.mk ((by rw [hg];exact Nat.ne_of_lt (blk_lt (g:=gb375) (o:=.cells #[.slice none 0 0] 87 (0,0)) (by (with_reducible repeat (first|refine bq_ ?_ _|refine bw_ ?_|refine bz_ ?_ _));exact BK375.out)):gb375≠gb376))
        have n16_:=Az.mk ((by rw [hg];exact Nat.ne_of_gt (blk_lt (g:=gb375) (o:=.cells #[.slice none 0 0] 87 (0,0)) (by (with_reducible repeat (first|refine bq_ ?_ _|refine bw_ ?_|refine bz_ ?_ _));exact BK375.out)):gb376≠gb375))
        clear HO371
        clear BK366
        clear BK367
        clear BK368
        clear BK375
        clear HB
        have HO371:=n0_
        have BK366:=n1_
        have BK367:=n2_
        have BK368:=n3_
        have BK375:=n4_
        have HB:=n5_
        have BK376:=n6_
        have GW376:=n7_
        have GE376:=n8_
        have NB366_376:=n9_
        have NB376_366:=n10_
        have NB367_376:=n11_
        have NB376_367:=n12_
        have NB368_376:=n13_
        have NB376_368:=n14_
        have NB375_376:=n15_
        have NB376_375:=n16_
        clear n0_ n1_ n2_ n3_ n4_ n5_ n6_ n7_ n8_ n9_ n10_ n11_ n12_ n13_ n14_ n15_ n16_
        clear hb hbox hg
        refine hK.out _ _ ⟨(bc_ BK366.out 0).trans rfl,(bc_ BK366.out 1).trans rfl,(bc_ BK367.out 0).trans rfl,(bc_ BK367.out 1).trans rfl⟩ (fun hHeld=>?_)
        clear hK K
        refine norm_ (a':=?_) ?_ ?_
        rotate_left
        ·show Act.put _ (some 6) _=_
         simp only [Act.put,sA_,sB_,sC_,i64_w,i32_w]
         rfl
        exact norm_ (by first|(simp only [putAll,Act.put,sA_,sB_,sC_];done)|(simp only [putAll,Act.put,sA_,sB_,sC_];rfl)) (hJ2_6_7 (v370,gb375,gb376) _ ⟨hHeld,(by (with_reducible repeat (first|apply rA_|apply rN_|apply rD_));exact HO371.out),(by (with_reducible repeat (first|refine bq_ ?_ _|refine bw_ ?_|refine bz_ ?_ _));exact BK366.out),(by (with_reducible repeat (first|refine bq_ ?_ _|refine bw_ ?_|refine bz_ ?_ _));exact BK367.out),(by (with_reducible repeat (first|refine bq_ ?_ _|refine bw_ ?_|refine bz_ ?_ _));exact BK368.out),(by (with_reducible repeat (first|refine bq_ ?_ _|refine bw_ ?_|refine bz_ ?_ _));exact BK375.out),(by (with_reducible repeat (first|refine bq_ ?_ _|refine bw_ ?_|refine bz_ ?_ _));exact BK376.out),GW375.out,GE375.out,NB366_375.out,NB375_366.out,NB367_375.out,NB375_367.out,NB368_375.out,NB375_368.out,NB376_375.out,NB375_376.out,GW376.out,GE376.out,NB366_376.out,NB376_366.out,NB367_376.out,NB376_367.out,NB368_376.out,NB376_368.out,(by repeat (first|(with_reducible first|exact HB.out|apply bA_|apply bN_|apply bD_|refine bs_ ?_ GE366.out|refine bs_ ?_ GE367.out|refine bs_ ?_ GE368.out|refine bs_ ?_ GE375.out|refine bs_ ?_ GE376.out)|exact HB.out))⟩)
     ·skip
      rintro ⟨v370,v373⟩ w12 ⟨hS_,h0_,h1_,h2_,h3_,h4_,h5_⟩
      have n0_:Az (Kd.R Kd.string 9 w12 w.heap.size (fun k_=>some k_≠(v373:Value).ownBlock) v370 t369):=⟨h0_⟩
      have n1_:Az (Kd.R Kd.string 9 w12 w.heap.size (fun k_=>some k_≠(v370:Value).ownBlock) v373 t372):=⟨h1_⟩
      have n2_:Az (w12.heap[gb366]? = some (.cells #[.bool a0_0,.slice A0_1 l0_1.length c0_1] 38 (0,0))):=⟨h2_⟩
      have n3_:Az (w12.heap[gb367]? = some (.cells #[.bool a1_0,.slice A1_1 l1_1.length c1_1] 38 (0,0))):=⟨h3_⟩
      have n4_:Az (w12.heap[gb368]? = some (.cells #[.bool false,.slice none 0 0] 38 (0,0))):=⟨h4_⟩
      have n5_:Az (Below w.heap.size w w12):=⟨h5_⟩
      clear BK366
      clear BK367
      clear BK368
      clear HB
      clear h0_ h1_ h2_ h3_ h4_ h5_
      have HO371:=n0_
      have HO374:=n1_
      have BK366:=n2_
      have BK367:=n3_
      have BK368:=n4_
      have HB:=n5_
      clear n0_ n1_ n2_ n3_ n4_ n5_
      have hHeld:w12.cell? ⟨gb366,0,none⟩=some (.bool a0_0)∧w12.cell? ⟨gb366,1,none⟩=some (.slice A0_1 l0_1.length c0_1)∧w12.cell? ⟨gb367,0,none⟩=some (.bool a1_0)∧w12.cell? ⟨gb367,1,none⟩=some (.slice A1_1 l1_1.length c1_1):=hS_
      refine norm_ (a':=?_) ?_ ?_
      rotate_left
      ·simp only [putAll,Act.put,sA_,sB_,sC_]
       rfl
      refine two_ (i:=6) (j:=7) (Ni:=some 5) (Nj:=some 6) #[true,true,true,true,true,true,true,false,false,false] #[true,true,true,true,true,true,false,true,false,false] rfl rfl rfl rfl (two_of HT_.out (by kernel_rfl)) (by decide) (by decide) (fun K hK=>?_) (fun K hK=>?_)
      ·skip
       refine box_step ?hg (N:=5) ?hd (cs:=#[.slice none 0 0]) (t:=87) ?hr ?_;(case hd=>rfl);(case hg=>rfl);(case hr=>first|(go_simp;done)|(go_simp;rfl))
       intro gb375 hg w13 hbox hb
       have n0_:=Az.mk (Kd.R_below (by (with_reducible repeat (first|apply rA_|apply rN_|apply rD_));exact HO371.out) hb)
       have n1_:=Az.mk (Kd.R_below (by (with_reducible repeat (first|apply rA_|apply rN_|apply rD_));exact HO374.out) hb)
       have n2_:=Az.mk (bb_ (g:=gb366) (o:=.cells #[.bool a0_0,.slice A0_1 l0_1.length c0_1] 38 (0,0)) (by (with_reducible repeat (first|refine bq_ ?_ _|refine bw_ ?_|refine bz_ ?_ _));exact BK366.out) hb)
       have n3_:=Az.mk (bb_ (g:=gb367) (o:=.cells #[.bool a1_0,.slice A1_1 l1_1.length c1_1] 38 (0,0)) (by (with_reducible repeat (first|refine bq_ ?_ _|refine bw_ ?_|refine bz_ ?_ _));exact BK367.out) hb)
       have n4_:=Az.mk (bb_ (g:=gb368) (o:=.cells #[.bool false,.slice none 0 0] 38 (0,0)) (by (with_reducible repeat (first|refine bq_ ?_ _|refine bw_ ?_|refine bz_ ?_ _));exact BK368.out) hb)
       have n5_:=Az.mk (below_step (by repeat (first|(with_reducible first|exact HB.out|apply bA_|apply bN_|apply bD_|refine bs_ ?_ GE366.out|refine bs_ ?_ GE367.out|refine bs_ ?_ GE368.out)|exact HB.out)) hb)
       have n6_:=Az.mk (hbox)
       have n7_:=Az.mk ((by rw [hg];exact (be_ (by repeat (first|(with_reducible first|exact HB.out|apply bA_|apply bN_|apply bD_|refine bs_ ?_ GE366.out|refine bs_ ?_ GE367.out|refine bs_ ?_ GE368.out)|exact HB.out))):w.heap.size≤gb375))
       have n8_:=Az.mk ((by rw [hg];exact (be_ (by repeat (first|(with_reducible first|exact HB.out|apply bA_|apply bN_|apply bD_|refine bs_ ?_ GE366.out|refine bs_ ?_ GE367.out|refine bs_ ?_ GE368.out)|exact HB.out))):w.heap.size≤gb375))
       have n9_:=Az.mk ((by rw [hg];exact Nat.ne_of_lt (blk_lt (g:=gb366) (o:=.cells #[.bool a0_0,.slice A0_1 l0_1.length c0_1] 38 (0,0)) (by (with_reducible repeat (first|refine bq_ ?_ _|refine bw_ ?_|refine bz_ ?_ _));exact BK366.out)):gb366≠gb375))
       have n10_:=Az.mk ((by rw [hg];exact Nat.ne_of_gt (blk_lt (g:=gb366) (o:=.cells #[.bool a0_0,.slice A0_1 l0_1.length c0_1] 38 (0,0)) (by (with_reducible repeat (first|refine bq_ ?_ _|refine bw_ ?_|refine bz_ ?_ _));exact BK366.out)):gb375≠gb366))
       have n11_:=Az.mk ((by rw [hg];exact Nat.ne_of_lt (blk_lt (g:=gb367) (o:=.cells #[.bool a1_0,.slice A1_1 l1_1.length c1_1] 38 (0,0)) (by (with_reducible repeat (first|refine bq_ ?_ _|refine bw_ ?_|refine bz_ ?_ _));exact BK367.out)):gb367≠gb375))
       have n12_:=Az.mk ((by rw [hg];exact Nat.ne_of_gt (blk_lt (g:=gb367) (o:=.cells #[.bool a1_0,.slice A1_1 l1_1.length c1_1] 38 (0,0)) (by (with_reducible repeat (first|refine bq_ ?_ _|refine bw_ ?_|refine bz_ ?_ _));exact BK367.out)):gb375≠gb367))
       have n13_:=Az.mk ((by rw [hg];exact Nat.ne_of_lt (blk_lt (g:=gb368) (o:=.cells #[.bool false,.slice none 0 0] 38 (0,0)) (by (with_reducible repeat (first|refine bq_ ?_ _|refine bw_ ?_|refine bz_ ?_ _));exact BK368.out)):gb368≠gb375))
       have n14_:=Az.mk ((by rw [hg];exact Nat.ne_of_gt (blk_lt (g:=gb368) (o:=.cells #[.bool false,.slice none 0 0] 38 (0,0)) (by (with_reducible repeat (first|refine bq_ ?_ _|refine bw_ ?_|refine bz_ ?_ _));exact BK368.out)):gb375≠gb368))
       clear HO371
       clear HO374
       clear BK366
       clear BK367
       clear BK368
       clear HB
       have HO371:=n0_
       have HO374:=n1_
       have BK366:=n2_
       have BK367:=n3_
       have BK368:=n4_
       have HB:=n5_
       have BK375:=n6_
       have GW375:=n7_
       have GE375:=n8_
       have NB366_375:=n9_
       have NB375_366:=n10_
       have NB367_375:=n11_
       have NB375_367:=n12_
       have NB368_375:=n13_
       have NB375_368:=n14_
       clear n0_ n1_ n2_ n3_ n4_ n5_ n6_ n7_ n8_ n9_ n10_ n11_ n12_ n13_ n14_
       clear hb hbox hg
       refine hK.out _ _ ⟨(bc_ BK366.out 0).trans rfl,(bc_ BK366.out 1).trans rfl,(bc_ BK367.out 0).trans rfl,(bc_ BK367.out 1).trans rfl⟩ (fun hHeld=>?_)
       clear hK K
       refine norm_ (a':=?_) ?_ ?_
       rotate_left
       ·show Act.put _ (some 5) _=_
        simp only [Act.put,sA_,sB_,sC_,i64_w,i32_w]
        rfl
       exact norm_ (by first|(simp only [putAll,Act.put,sA_,sB_,sC_];done)|(simp only [putAll,Act.put,sA_,sB_,sC_];rfl)) (hJ2_5_6 (v370,v373,gb375) _ ⟨hHeld,(by (with_reducible repeat (first|apply rA_|apply rN_|apply rD_));exact HO371.out),(by (with_reducible repeat (first|apply rA_|apply rN_|apply rD_));exact HO374.out),(by (with_reducible repeat (first|refine bq_ ?_ _|refine bw_ ?_|refine bz_ ?_ _));exact BK366.out),(by (with_reducible repeat (first|refine bq_ ?_ _|refine bw_ ?_|refine bz_ ?_ _));exact BK367.out),(by (with_reducible repeat (first|refine bq_ ?_ _|refine bw_ ?_|refine bz_ ?_ _));exact BK368.out),(by (with_reducible repeat (first|refine bq_ ?_ _|refine bw_ ?_|refine bz_ ?_ _));exact BK375.out),GW375.out,GE375.out,NB366_375.out,NB375_366.out,NB367_375.out,NB375_367.out,NB368_375.out,NB375_368.out,(by repeat (first|(with_reducible first|exact HB.out|apply bA_|apply bN_|apply bD_|refine bs_ ?_ GE366.out|refine bs_ ?_ GE367.out|refine bs_ ?_ GE368.out|refine bs_ ?_ GE375.out)|exact HB.out))⟩)
      ·skip
       refine box_step ?hg (N:=6) ?hd (cs:=#[.slice none 0 0]) (t:=87) ?hr ?_;(case hd=>rfl);(case hg=>rfl);(case hr=>first|(go_simp;done)|(go_simp;rfl))
       intro gb376 hg w13 hbox hb
       have n0_:=Az.mk (Kd.R_below (by (with_reducible repeat (first|apply rA_|apply rN_|apply rD_));exact HO371.out) hb)
       have n1_:=Az.mk (Kd.R_below (by (with_reducible repeat (first|apply rA_|apply rN_|apply rD_));exact HO374.out) hb)
       have n2_:=Az.mk (bb_ (g:=gb366) (o:=.cells #[.bool a0_0,.slice A0_1 l0_1.length c0_1] 38 (0,0)) (by (with_reducible repeat (first|refine bq_ ?_ _|refine bw_ ?_|refine bz_ ?_ _));exact BK366.out) hb)
       have n3_:=Az.mk (bb_ (g:=gb367) (o:=.cells #[.bool a1_0,.slice A1_1 l1_1.length c1_1] 38 (0,0)) (by (with_reducible repeat (first|refine bq_ ?_ _|refine bw_ ?_|refine bz_ ?_ _));exact BK367.out) hb)
       have n4_:=Az.mk (bb_ (g:=gb368) (o:=.cells #[.bool false,.slice none 0 0] 38 (0,0)) (by (with_reducible repeat (first|refine bq_ ?_ _|refine bw_ ?_|refine bz_ ?_ _));exact BK368.out) hb)
       have n5_:=Az.mk (below_step (by repeat (first|(with_reducible first|exact HB.out|apply bA_|apply bN_|apply bD_|refine bs_ ?_ GE366.out|refine bs_ ?_ GE367.out|refine bs_ ?_ GE368.out)|exact HB.out)) hb)
       have n6_:=Az.mk (hbox)
       have n7_:=Az.mk ((by rw [hg];exact (be_ (by repeat (first|(with_reducible first|exact HB.out|apply bA_|apply bN_|apply bD_|refine bs_ ?_ GE366.out|refine bs_ ?_ GE367.out|refine bs_ ?_ GE368.out)|exact HB.out))):w.heap.size≤gb376))
       have n8_:=Az.mk ((by rw [hg];exact (be_ (by repeat (first|(with_reducible first|exact HB.out|apply bA_|apply bN_|apply bD_|refine bs_ ?_ GE366.out|refine bs_ ?_ GE367.out|refine bs_ ?_ GE368.out)|exact HB.out))):w.heap.size≤gb376))
       have n9_:=Az.mk ((by rw [hg];exact Nat.ne_of_lt (blk_lt (g:=gb366) (o:=.cells #[.bool a0_0,.slice A0_1 l0_1.length c0_1] 38 (0,0)) (by (with_reducible repeat (first|refine bq_ ?_ _|refine bw_ ?_|refine bz_ ?_ _));exact BK366.out)):gb366≠gb376))
       have n10_:=Az.mk ((by rw [hg];exact Nat.ne_of_gt (blk_lt (g:=gb366) (o:=.cells #[.bool a0_0,.slice A0_1 l0_1.length c0_1] 38 (0,0)) (by (with_reducible repeat (first|refine bq_ ?_ _|refine bw_ ?_|refine bz_ ?_ _));exact BK366.out)):gb376≠gb366))
       have n11_:=Az.mk ((by rw [hg];exact Nat.ne_of_lt (blk_lt (g:=gb367) (o:=.cells #[.bool a1_0,.slice A1_1 l1_1.length c1_1] 38 (0,0)) (by (with_reducible repeat (first|refine bq_ ?_ _|refine bw_ ?_|refine bz_ ?_ _));exact BK367.out)):gb367≠gb376))
       have n12_:=Az.mk ((by rw [hg];exact Nat.ne_of_gt (blk_lt (g:=gb367) (o:=.cells #[.bool a1_0,.slice A1_1 l1_1.length c1_1] 38 (0,0)) (by (with_reducible repeat (first|refine bq_ ?_ _|refine bw_ ?_|refine bz_ ?_ _));exact BK367.out)):gb376≠gb367))
       have n13_:=Az.mk ((by rw [hg];exact Nat.ne_of_lt (blk_lt (g:=gb368) (o:=.cells #[.bool false,.slice none 0 0] 38 (0,0)) (by (with_reducible repeat (first|refine bq_ ?_ _|refine bw_ ?_|refine bz_ ?_ _));exact BK368.out)):gb368≠gb376))
       have n14_:=Az.mk ((by rw [hg];exact Nat.ne_of_gt (blk_lt (g:=gb368) (o:=.cells #[.bool false,.slice none 0 0] 38 (0,0)) (by (with_reducible repeat (first|refine bq_ ?_ _|refine bw_ ?_|refine bz_ ?_ _));exact BK368.out)):gb376≠gb368))
       clear HO371
       clear HO374
       clear BK366
       clear BK367
       clear BK368
       clear HB
       have HO371:=n0_
       have HO374:=n1_
       have BK366:=n2_
       have BK367:=n3_
       have BK368:=n4_
       have HB:=n5_
       have BK376:=n6_
       have GW376:=n7_
       have GE376:=n8_
       have NB366_376:=n9_
       have NB376_366:=n10_
       have NB367_376:=n11_
       have NB376_367:=n12_
       have NB368_376:=n13_
       have NB376_368:=n14_
       clear n0_ n1_ n2_ n3_ n4_ n5_ n6_ n7_ n8_ n9_ n10_ n11_ n12_ n13_ n14_
       clear hb hbox hg
       refine hK.out _ _ ⟨(bc_ BK366.out 0).trans rfl,(bc_ BK366.out 1).trans rfl,(bc_ BK367.out 0).trans rfl,(bc_ BK367.out 1).trans rfl⟩ (fun hHeld=>?_)
       clear hK K
       refine norm_ (a':=?_) ?_ ?_
       rotate_left
       ·show Act.put _ (some 6) _=_
        simp only [Act.put,sA_,sB_,sC_,i64_w,i32_w]
        rfl
       exact norm_ (by first|(simp only [putAll,Act.put,sA_,sB_,sC_];done)|(simp only [putAll,Act.put,sA_,sB_,sC_];rfl)) (hJ2_5_7 (v370,v373,gb376) _ ⟨hHeld,(by (with_reducible repeat (first|apply rA_|apply rN_|apply rD_));exact HO371.out),(by (with_reducible repeat (first|apply rA_|apply rN_|apply rD_));exact HO374.out),(by (with_reducible repeat (first|refine bq_ ?_ _|refine bw_ ?_|refine bz_ ?_ _));exact BK366.out),(by (with_reducible repeat (first|refine bq_ ?_ _|refine bw_ ?_|refine bz_ ?_ _));exact BK367.out),(by (with_reducible repeat (first|refine bq_ ?_ _|refine bw_ ?_|refine bz_ ?_ _));exact BK368.out),(by (with_reducible repeat (first|refine bq_ ?_ _|refine bw_ ?_|refine bz_ ?_ _));exact BK376.out),GW376.out,GE376.out,NB366_376.out,NB376_366.out,NB367_376.out,NB376_367.out,NB368_376.out,NB376_368.out,(by repeat (first|(with_reducible first|exact HB.out|apply bA_|apply bN_|apply bD_|refine bs_ ?_ GE366.out|refine bs_ ?_ GE367.out|refine bs_ ?_ GE368.out|refine bs_ ?_ GE376.out)|exact HB.out))⟩)
    ·skip
     rintro ⟨v370,gb375,gb376⟩ w13 ⟨hS_,h0_,h1_,h2_,h3_,h4_,h5_,h6_,h7_,h8_,h9_,h10_,h11_,h12_,h13_,h14_,h15_,h16_,h17_,h18_,h19_,h20_,h21_,h22_,h23_,h24_⟩
     have n0_:Az (Kd.R Kd.string 9 w13 w.heap.size (fun _=>True) v370 t369):=⟨h0_⟩
     have n1_:Az (w13.heap[gb366]? = some (.cells #[.bool a0_0,.slice A0_1 l0_1.length c0_1] 38 (0,0))):=⟨h1_⟩
     have n2_:Az (w13.heap[gb367]? = some (.cells #[.bool a1_0,.slice A1_1 l1_1.length c1_1] 38 (0,0))):=⟨h2_⟩
     have n3_:Az (w13.heap[gb368]? = some (.cells #[.bool false,.slice none 0 0] 38 (0,0))):=⟨h3_⟩
     have n4_:Az (w13.heap[gb375]? = some (.cells #[.slice none 0 0] 87 (0,0))):=⟨h4_⟩
     have n5_:Az (w13.heap[gb376]? = some (.cells #[.slice none 0 0] 87 (0,0))):=⟨h5_⟩
     have n6_:Az (w.heap.size≤gb375):=⟨h6_⟩
     have n7_:Az (w.heap.size≤gb375):=⟨h7_⟩
     have n8_:Az (gb366≠gb375):=⟨h8_⟩
     have n9_:Az (gb375≠gb366):=⟨h9_⟩
     have n10_:Az (gb367≠gb375):=⟨h10_⟩
     have n11_:Az (gb375≠gb367):=⟨h11_⟩
     have n12_:Az (gb368≠gb375):=⟨h12_⟩
     have n13_:Az (gb375≠gb368):=⟨h13_⟩
     have n14_:Az (gb376≠gb375):=⟨h14_⟩
     have n15_:Az (gb375≠gb376):=⟨h15_⟩
     have n16_:Az (w.heap.size≤gb376):=⟨h16_⟩
     have n17_:Az (w.heap.size≤gb376):=⟨h17_⟩
     have n18_:Az (gb366≠gb376):=⟨h18_⟩
     have n19_:Az (gb376≠gb366):=⟨h19_⟩
     have n20_:Az (gb367≠gb376):=⟨h20_⟩
     have n21_:Az (gb376≠gb367):=⟨h21_⟩
     have n22_:Az (gb368≠gb376):=⟨h22_⟩
     have n23_:Az (gb376≠gb368):=⟨h23_⟩
     have n24_:Az (Below w.heap.size w w13):=⟨h24_⟩
     clear BK366
     clear BK367
     clear BK368
     clear HB
     clear h0_ h1_ h2_ h3_ h4_ h5_ h6_ h7_ h8_ h9_ h10_ h11_ h12_ h13_ h14_ h15_ h16_ h17_ h18_ h19_ h20_ h21_ h22_ h23_ h24_
     have HO371:=n0_
     have BK366:=n1_
     have BK367:=n2_
     have BK368:=n3_
     have BK375:=n4_
     have BK376:=n5_
     have GW375:=n6_
     have GE375:=n7_
     have NB366_375:=n8_
     have NB375_366:=n9_
     have NB367_375:=n10_
     have NB375_367:=n11_
     have NB368_375:=n12_
     have NB375_368:=n13_
     have NB376_375:=n14_
     have NB375_376:=n15_
     have GW376:=n16_
     have GE376:=n17_
     have NB366_376:=n18_
     have NB376_366:=n19_
     have NB367_376:=n20_
     have NB376_367:=n21_
     have NB368_376:=n22_
     have NB376_368:=n23_
     have HB:=n24_
     clear n0_ n1_ n2_ n3_ n4_ n5_ n6_ n7_ n8_ n9_ n10_ n11_ n12_ n13_ n14_ n15_ n16_ n17_ n18_ n19_ n20_ n21_ n22_ n23_ n24_
     have hHeld:w13.cell? ⟨gb366,0,none⟩=some (.bool a0_0)∧w13.cell? ⟨gb366,1,none⟩=some (.slice A0_1 l0_1.length c0_1)∧w13.cell? ⟨gb367,0,none⟩=some (.bool a1_0)∧w13.cell? ⟨gb367,1,none⟩=some (.slice A1_1 l1_1.length c1_1):=hS_
     refine norm_ (a':=?_) ?_ ?_
     rotate_left
     ·simp only [putAll,Act.put,sA_,sB_,sC_]
      rfl
     refine one_ (i:=5) (N:=some 12) #[true,true,true,true,true,true,true,true,false,false] rfl rfl (one_of HT_.out (by kernel_rfl)) (by decide) (fun K hK=>?_)
     refine goes_ Try.func61 (by kernel_rfl) rfl #[.slice A1_1 l1_1.length c1_1] (by rfl) rfl rfl (by (try simp only [List.map_toArray,List.map_cons,List.map_nil]);first|done|rfl|(simp only [List.length_drop,List.length_take];rfl)) ?_
     with_reducible refine (names_of_string.calls _ _ l1_1 t372 _ ?side1 ?side2 A4.out).mono ?_
     (case side1=>repeat (first|exact (Kd.C_below HR1_1.out HB.out)|(with_reducible refine cA_ ?_ _)|(with_reducible refine cN_ ?_ _)|(with_reducible refine cD_ ?_)))
     (case side2=>exact HC1_1.out)
     rintro e w14 ⟨v373,rfl,ho0,hb⟩
     refine ⟨_,rfl,?_⟩
     have n0_:=Az.mk (Kd.R_elder' (by (with_reducible repeat (first|apply rA_|apply rN_|apply rD_));exact HO371.out) (Kd.R_base ho0) hb)
     have n1_:=Az.mk (Kd.R_lower (Kd.R_new' ho0 (Kd.R_lt (by (with_reducible repeat (first|apply rA_|apply rN_|apply rD_));exact HO371.out))) (be_ (by repeat (first|(with_reducible first|exact HB.out|apply bA_|apply bN_|apply bD_|refine bs_ ?_ GE366.out|refine bs_ ?_ GE367.out|refine bs_ ?_ GE368.out|refine bs_ ?_ GE375.out|refine bs_ ?_ GE376.out)|exact HB.out))))
     have n2_:=Az.mk (bb_ (g:=gb366) (o:=.cells #[.bool a0_0,.slice A0_1 l0_1.length c0_1] 38 (0,0)) (by (with_reducible repeat (first|refine bq_ ?_ _|refine bw_ ?_|refine bz_ ?_ _));exact BK366.out) hb)
     have n3_:=Az.mk (bb_ (g:=gb367) (o:=.cells #[.bool a1_0,.slice A1_1 l1_1.length c1_1] 38 (0,0)) (by (with_reducible repeat (first|refine bq_ ?_ _|refine bw_ ?_|refine bz_ ?_ _));exact BK367.out) hb)
     have n4_:=Az.mk (bb_ (g:=gb368) (o:=.cells #[.bool false,.slice none 0 0] 38 (0,0)) (by (with_reducible repeat (first|refine bq_ ?_ _|refine bw_ ?_|refine bz_ ?_ _));exact BK368.out) hb)
     have n5_:=Az.mk (bb_ (g:=gb375) (o:=.cells #[.slice none 0 0] 87 (0,0)) (by (with_reducible repeat (first|refine bq_ ?_ _|refine bw_ ?_|refine bz_ ?_ _));exact BK375.out) hb)
     have n6_:=Az.mk (bb_ (g:=gb376) (o:=.cells #[.slice none 0 0] 87 (0,0)) (by (with_reducible repeat (first|refine bq_ ?_ _|refine bw_ ?_|refine bz_ ?_ _));exact BK376.out) hb)
     have n7_:=Az.mk (below_step (by repeat (first|(with_reducible first|exact HB.out|apply bA_|apply bN_|apply bD_|refine bs_ ?_ GE366.out|refine bs_ ?_ GE367.out|refine bs_ ?_ GE368.out|refine bs_ ?_ GE375.out|refine bs_ ?_ GE376.out)|exact HB.out)) hb)
     clear HO371
     clear BK366
     clear BK367
     clear BK368
     clear BK375
     clear BK376
     clear HB
     have HO371:=n0_
     have HO374:=n1_
     have BK366:=n2_
     have BK367:=n3_
     have BK368:=n4_
     have BK375:=n5_
     have BK376:=n6_
     have HB:=n7_
     clear n0_ n1_ n2_ n3_ n4_ n5_ n6_ n7_
     (try clear hb)
     (try clear hb2)
     (try clear hk)
     (try clear hi)
     (try clear ho0)
     refine hK.out _ _ ⟨(bc_ BK366.out 0).trans rfl,(bc_ BK366.out 1).trans rfl,(bc_ BK367.out 0).trans rfl,(bc_ BK367.out 1).trans rfl⟩ (fun hHeld=>?_)
     clear hK K
     refine norm_ (a':=?_) ?_ ?_
     rotate_left
     ·show Act.put _ (some 12) _=_
      simp only [Act.put,sA_,sB_,sC_,i64_w,i32_w]
      rfl
     exact norm_ (by first|(simp only [putAll,Act.put,sA_,sB_,sC_];done)|(simp only [putAll,Act.put,sA_,sB_,sC_];rfl)) (hJ2_5_6_7 (v370,v373,gb375,gb376) _ ⟨hHeld,(by (with_reducible repeat (first|apply rA_|apply rN_|apply rD_));exact Kd.R_mono HO371.out (fun _ hk=>hk.2)),(by (with_reducible repeat (first|apply rA_|apply rN_|apply rD_));exact Kd.R_mono HO374.out (fun _ hk=>hk.2)),(by (with_reducible repeat (first|refine bq_ ?_ _|refine bw_ ?_|refine bz_ ?_ _));exact BK366.out),(by (with_reducible repeat (first|refine bq_ ?_ _|refine bw_ ?_|refine bz_ ?_ _));exact BK367.out),(by (with_reducible repeat (first|refine bq_ ?_ _|refine bw_ ?_|refine bz_ ?_ _));exact BK368.out),(by (with_reducible repeat (first|refine bq_ ?_ _|refine bw_ ?_|refine bz_ ?_ _));exact BK375.out),(by (with_reducible repeat (first|refine bq_ ?_ _|refine bw_ ?_|refine bz_ ?_ _));exact BK376.out),GW375.out,GE375.out,NB366_375.out,NB375_366.out,NB367_375.out,NB375_367.out,NB368_375.out,NB375_368.out,NB376_375.out,NB375_376.out,GW376.out,GE376.out,NB366_376.out,NB376_366.out,NB367_376.out,NB376_367.out,NB368_376.out,NB376_368.out,(by repeat (first|(with_reducible first|exact HB.out|apply bA_|apply bN_|apply bD_|refine bs_ ?_ GE366.out|refine bs_ ?_ GE367.out|refine bs_ ?_ GE368.out|refine bs_ ?_ GE375.out|refine bs_ ?_ GE376.out)|exact HB.out))⟩)
   ·skip
    rintro ⟨v370,v373,gb376⟩ w13 ⟨hS_,h0_,h1_,h2_,h3_,h4_,h5_,h6_,h7_,h8_,h9_,h10_,h11_,h12_,h13_,h14_⟩
    have n0_:Az (Kd.R Kd.string 9 w13 w.heap.size (fun k_=>some k_≠(v373:Value).ownBlock) v370 t369):=⟨h0_⟩
    have n1_:Az (Kd.R Kd.string 9 w13 w.heap.size (fun k_=>some k_≠(v370:Value).ownBlock) v373 t372):=⟨h1_⟩
    have n2_:Az (w13.heap[gb366]? = some (.cells #[.bool a0_0,.slice A0_1 l0_1.length c0_1] 38 (0,0))):=⟨h2_⟩
    have n3_:Az (w13.heap[gb367]? = some (.cells #[.bool a1_0,.slice A1_1 l1_1.length c1_1] 38 (0,0))):=⟨h3_⟩
    have n4_:Az (w13.heap[gb368]? = some (.cells #[.bool false,.slice none 0 0] 38 (0,0))):=⟨h4_⟩
    have n5_:Az (w13.heap[gb376]? = some (.cells #[.slice none 0 0] 87 (0,0))):=⟨h5_⟩
    have n6_:Az (w.heap.size≤gb376):=⟨h6_⟩
    have n7_:Az (w.heap.size≤gb376):=⟨h7_⟩
    have n8_:Az (gb366≠gb376):=⟨h8_⟩
    have n9_:Az (gb376≠gb366):=⟨h9_⟩
    have n10_:Az (gb367≠gb376):=⟨h10_⟩
    have n11_:Az (gb376≠gb367):=⟨h11_⟩
    have n12_:Az (gb368≠gb376):=⟨h12_⟩
    have n13_:Az (gb376≠gb368):=⟨h13_⟩
    have n14_:Az (Below w.heap.size w w13):=⟨h14_⟩
    clear BK366
    clear BK367
    clear BK368
    clear HB
    clear h0_ h1_ h2_ h3_ h4_ h5_ h6_ h7_ h8_ h9_ h10_ h11_ h12_ h13_ h14_
    have HO371:=n0_
    have HO374:=n1_
    have BK366:=n2_
    have BK367:=n3_
    have BK368:=n4_
    have BK376:=n5_
    have GW376:=n6_
    have GE376:=n7_
    have NB366_376:=n8_
    have NB376_366:=n9_
    have NB367_376:=n10_
    have NB376_367:=n11_
    have NB368_376:=n12_
    have NB376_368:=n13_
    have HB:=n14_
    clear n0_ n1_ n2_ n3_ n4_ n5_ n6_ n7_ n8_ n9_ n10_ n11_ n12_ n13_ n14_
    have hHeld:w13.cell? ⟨gb366,0,none⟩=some (.bool a0_0)∧w13.cell? ⟨gb366,1,none⟩=some (.slice A0_1 l0_1.length c0_1)∧w13.cell? ⟨gb367,0,none⟩=some (.bool a1_0)∧w13.cell? ⟨gb367,1,none⟩=some (.slice A1_1 l1_1.length c1_1):=hS_
    refine norm_ (a':=?_) ?_ ?_
    rotate_left
    ·simp only [putAll,Act.put,sA_,sB_,sC_]
     rfl
    refine one_ (i:=6) (N:=some 5) #[true,true,true,true,true,true,true,true,false,false] rfl rfl (one_of HT_.out (by kernel_rfl)) (by decide) (fun K hK=>?_)
    refine box_step ?hg (N:=5) ?hd (cs:=#[.slice none 0 0]) (t:=87) ?hr ?_;(case hd=>rfl);(case hg=>rfl);(case hr=>first|(go_simp;done)|(go_simp;rfl))
    intro gb375 hg w14 hbox hb
    have n0_:=Az.mk (Kd.R_below (by (with_reducible repeat (first|apply rA_|apply rN_|apply rD_));exact HO371.out) hb)
    have n1_:=Az.mk (Kd.R_below (by (with_reducible repeat (first|apply rA_|apply rN_|apply rD_));exact HO374.out) hb)
    have n2_:=Az.mk (bb_ (g:=gb366) (o:=.cells #[.bool a0_0,.slice A0_1 l0_1.length c0_1] 38 (0,0)) (by (with_reducible repeat (first|refine bq_ ?_ _|refine bw_ ?_|refine bz_ ?_ _));exact BK366.out) hb)
    have n3_:=Az.mk (bb_ (g:=gb367) (o:=.cells #[.bool a1_0,.slice A1_1 l1_1.length c1_1] 38 (0,0)) (by (with_reducible repeat (first|refine bq_ ?_ _|refine bw_ ?_|refine bz_ ?_ _));exact BK367.out) hb)
    have n4_:=Az.mk (bb_ (g:=gb368) (o:=.cells #[.bool false,.slice none 0 0] 38 (0,0)) (by (with_reducible repeat (first|refine bq_ ?_ _|refine bw_ ?_|refine bz_ ?_ _));exact BK368.out) hb)
    have n5_:=Az.mk (bb_ (g:=gb376) (o:=.cells #[.slice none 0 0] 87 (0,0)) (by (with_reducible repeat (first|refine bq_ ?_ _|refine bw_ ?_|refine bz_ ?_ _));exact BK376.out) hb)
    have n6_:=Az.mk (below_step (by repeat (first|(with_reducible first|exact HB.out|apply bA_|apply bN_|apply bD_|refine bs_ ?_ GE366.out|refine bs_ ?_ GE367.out|refine bs_ ?_ GE368.out|refine bs_ ?_ GE376.out)|exact HB.out)) hb)
    have n7_:=Az.mk (hbox)
    have n8_:=Az.mk ((by rw [hg];exact (be_ (by repeat (first|(with_reducible first|exact HB.out|apply bA_|apply bN_|apply bD_|refine bs_ ?_ GE366.out|refine bs_ ?_ GE367.out|refine bs_ ?_ GE368.out|refine bs_ ?_ GE376.out)|exact HB.out))):w.heap.size≤gb375))
    have n9_:=Az.mk ((by rw [hg];exact (be_ (by repeat (first|(with_reducible first|exact HB.out|apply bA_|apply bN_|apply bD_|refine bs_ ?_ GE366.out|refine bs_ ?_ GE367.out|refine bs_ ?_ GE368.out|refine bs_ ?_ GE376.out)|exact HB.out))):w.heap.size≤gb375))
    have n10_:=Az.mk ((by rw [hg];exact Nat.ne_of_lt (blk_lt (g:=gb366) (o:=.cells #[.bool a0_0,.slice A0_1 l0_1.length c0_1] 38 (0,0)) (by (with_reducible repeat (first|refine bq_ ?_ _|refine bw_ ?_|refine bz_ ?_ _));exact BK366.out)):gb366≠gb375))
    have n11_:=Az.mk ((by rw [hg];exact Nat.ne_of_gt (blk_lt (g:=gb366) (o:=.cells #[.bool a0_0,.slice A0_1 l0_1.length c0_1] 38 (0,0)) (by (with_reducible repeat (first|refine bq_ ?_ _|refine bw_ ?_|refine bz_ ?_ _));exact BK366.out)):gb375≠gb366))
    have n12_:=Az.mk ((by rw [hg];exact Nat.ne_of_lt (blk_lt (g:=gb367) (o:=.cells #[.bool a1_0,.slice A1_1 l1_1.length c1_1] 38 (0,0)) (by (with_reducible repeat (first|refine bq_ ?_ _|refine bw_ ?_|refine bz_ ?_ _));exact BK367.out)):gb367≠gb375))
    have n13_:=Az.mk ((by rw [hg];exact Nat.ne_of_gt (blk_lt (g:=gb367) (o:=.cells #[.bool a1_0,.slice A1_1 l1_1.length c1_1] 38 (0,0)) (by (with_reducible repeat (first|refine bq_ ?_ _|refine bw_ ?_|refine bz_ ?_ _));exact BK367.out)):gb375≠gb367))
    have n14_:=Az.mk ((by rw [hg];exact Nat.ne_of_lt (blk_lt (g:=gb368) (o:=.cells #[.bool false,.slice none 0 0] 38 (0,0)) (by (with_reducible repeat (first|refine bq_ ?_ _|refine bw_ ?_|refine bz_ ?_ _));exact BK368.out)):gb368≠gb375))
    have n15_:=Az.mk ((by rw [hg];exact Nat.ne_of_gt (blk_lt (g:=gb368) (o:=.cells #[.bool false,.slice none 0 0] 38 (0,0)) (by (with_reducible repeat (first|refine bq_ ?_ _|refine bw_ ?_|refine bz_ ?_ _));exact BK368.out)):gb375≠gb368))
    have n16_:=Az.mk ((by rw [hg];exact Nat.ne_of_lt (blk_lt (g:=gb376) (o:=.cells #[.slice none 0 0] 87 (0,0)) (by (with_reducible repeat (first|refine bq_ ?_ _|refine bw_ ?_|refine bz_ ?_ _));exact BK376.out)):gb376≠gb375))
    have n17_:=Az.mk ((by rw [hg];exact Nat.ne_of_gt (blk_lt (g:=gb376) (o:=.cells #[.slice none 0 0] 87 (0,0)) (by (with_reducible repeat (first|refine bq_ ?_ _|refine bw_ ?_|refine bz_ ?_ _));exact BK376.out)):gb375≠gb376))
    clear HO371
    clear HO374
    clear BK366
    clear BK367
    clear BK368
    clear BK376
    clear HB
    have HO371:=n0_
    have HO374:=n1_
    have BK366:=n2_
    have BK367:=n3_
    have BK368:=n4_
    have BK376:=n5_
    have HB:=n6_
    have BK375:=n7_
    have GW375:=n8_
    have GE375:=n9_
    have NB366_375:=n10_
    have NB375_366:=n11_
    have NB367_375:=n12_
    have NB375_367:=n13_
    have NB368_375:=n14_
    have NB375_368:=n15_
    have NB376_375:=n16_
    have NB375_376:=n17_
    clear n0_ n1_ n2_ n3_ n4_ n5_ n6_ n7_ n8_ n9_ n10_ n11_ n12_ n13_ n14_ n15_ n16_ n17_
    clear hb hbox hg
    refine hK.out _ _ ⟨(bc_ BK366.out 0).trans rfl,(bc_ BK366.out 1).trans rfl,(bc_ BK367.out 0).trans rfl,(bc_ BK367.out 1).trans rfl⟩ (fun hHeld=>?_)
    clear hK K
    refine norm_ (a':=?_) ?_ ?_
    rotate_left
    ·show Act.put _ (some 5) _=_
     simp only [Act.put,sA_,sB_,sC_,i64_w,i32_w]
     rfl
    exact norm_ (by first|(simp only [putAll,Act.put,sA_,sB_,sC_];done)|(simp only [putAll,Act.put,sA_,sB_,sC_];rfl)) (hJ2_5_6_7 (v370,v373,gb375,gb376) _ ⟨hHeld,(by (with_reducible repeat (first|apply rA_|apply rN_|apply rD_));exact HO371.out),(by (with_reducible repeat (first|apply rA_|apply rN_|apply rD_));exact HO374.out),(by (with_reducible repeat (first|refine bq_ ?_ _|refine bw_ ?_|refine bz_ ?_ _));exact BK366.out),(by (with_reducible repeat (first|refine bq_ ?_ _|refine bw_ ?_|refine bz_ ?_ _));exact BK367.out),(by (with_reducible repeat (first|refine bq_ ?_ _|refine bw_ ?_|refine bz_ ?_ _));exact BK368.out),(by (with_reducible repeat (first|refine bq_ ?_ _|refine bw_ ?_|refine bz_ ?_ _));exact BK375.out),(by (with_reducible repeat (first|refine bq_ ?_ _|refine bw_ ?_|refine bz_ ?_ _));exact BK376.out),GW375.out,GE375.out,NB366_375.out,NB375_366.out,NB367_375.out,NB375_367.out,NB368_375.out,NB375_368.out,NB376_375.out,NB375_376.out,GW376.out,GE376.out,NB366_376.out,NB376_366.out,NB367_376.out,NB376_367.out,NB368_376.out,NB376_368.out,(by repeat (first|(with_reducible first|exact HB.out|apply bA_|apply bN_|apply bD_|refine bs_ ?_ GE366.out|refine bs_ ?_ GE367.out|refine bs_ ?_ GE368.out|refine bs_ ?_ GE376.out|refine bs_ ?_ GE375.out)|exact HB.out))⟩)
  ·skip
   rintro ⟨v370,v373,gb375⟩ w13 ⟨hS_,h0_,h1_,h2_,h3_,h4_,h5_,h6_,h7_,h8_,h9_,h10_,h11_,h12_,h13_,h14_⟩
   have n0_:Az (Kd.R Kd.string 9 w13 w.heap.size (fun k_=>some k_≠(v373:Value).ownBlock) v370 t369):=⟨h0_⟩
   have n1_:Az (Kd.R Kd.string 9 w13 w.heap.size (fun k_=>some k_≠(v370:Value).ownBlock) v373 t372):=⟨h1_⟩
   have n2_:Az (w13.heap[gb366]? = some (.cells #[.bool a0_0,.slice A0_1 l0_1.length c0_1] 38 (0,0))):=⟨h2_⟩
   have n3_:Az (w13.heap[gb367]? = some (.cells #[.bool a1_0,.slice A1_1 l1_1.length c1_1] 38 (0,0))):=⟨h3_⟩
   have n4_:Az (w13.heap[gb368]? = some (.cells #[.bool false,.slice none 0 0] 38 (0,0))):=⟨h4_⟩
   have n5_:Az (w13.heap[gb375]? = some (.cells #[.slice none 0 0] 87 (0,0))):=⟨h5_⟩
   have n6_:Az (w.heap.size≤gb375):=⟨h6_⟩
   have n7_:Az (w.heap.size≤gb375):=⟨h7_⟩
   have n8_:Az (gb366≠gb375):=⟨h8_⟩
   have n9_:Az (gb375≠gb366):=⟨h9_⟩
   have n10_:Az (gb367≠gb375):=⟨h10_⟩
   have n11_:Az (gb375≠gb367):=⟨h11_⟩
   have n12_:Az (gb368≠gb375):=⟨h12_⟩
   have n13_:Az (gb375≠gb368):=⟨h13_⟩
   have n14_:Az (Below w.heap.size w w13):=⟨h14_⟩
   clear BK366
   clear BK367
   clear BK368
   clear HB
   clear h0_ h1_ h2_ h3_ h4_ h5_ h6_ h7_ h8_ h9_ h10_ h11_ h12_ h13_ h14_
   have HO371:=n0_
   have HO374:=n1_
   have BK366:=n2_
   have BK367:=n3_
   have BK368:=n4_
   have BK375:=n5_
   have GW375:=n6_
   have GE375:=n7_
   have NB366_375:=n8_
   have NB375_366:=n9_
   have NB367_375:=n10_
   have NB375_367:=n11_
   have NB368_375:=n12_
   have NB375_368:=n13_
   have HB:=n14_
   clear n0_ n1_ n2_ n3_ n4_ n5_ n6_ n7_ n8_ n9_ n10_ n11_ n12_ n13_ n14_
   have hHeld:w13.cell? ⟨gb366,0,none⟩=some (.bool a0_0)∧w13.cell? ⟨gb366,1,none⟩=some (.slice A0_1 l0_1.length c0_1)∧w13.cell? ⟨gb367,0,none⟩=some (.bool a1_0)∧w13.cell? ⟨gb367,1,none⟩=some (.slice A1_1 l1_1.length c1_1):=hS_
   refine norm_ (a':=?_) ?_ ?_
   rotate_left
   ·simp only [putAll,Act.put,sA_,sB_,sC_]
    rfl
   refine one_ (i:=7) (N:=some 6) #[true,true,true,true,true,true,true,true,false,false] rfl rfl (one_of HT_.out (by kernel_rfl)) (by decide) (fun K hK=>?_)
   refine box_step ?hg (N:=6) ?hd (cs:=#[.slice none 0 0]) (t:=87) ?hr ?_;(case hd=>rfl);(case hg=>rfl);(case hr=>first|(go_simp;done)|(go_simp;rfl))
   intro gb376 hg w14 hbox hb
   have n0_:=Az.mk (Kd.R_below (by (with_reducible repeat (first|apply rA_|apply rN_|apply rD_));exact HO371.out) hb)
   have n1_:=Az.mk (Kd.R_below (by (with_reducible repeat (first|apply rA_|apply rN_|apply rD_));exact HO374.out) hb)
   have n2_:=Az.mk (bb_ (g:=gb366) (o:=.cells #[.bool a0_0,.slice A0_1 l0_1.length c0_1] 38 (0,0)) (by (with_reducible repeat (first|refine bq_ ?_ _|refine bw_ ?_|refine bz_ ?_ _));exact BK366.out) hb)
   have n3_:=Az.mk (bb_ (g:=gb367) (o:=.cells #[.bool a1_0,.slice A1_1 l1_1.length c1_1] 38 (0,0)) (by (with_reducible repeat (first|refine bq_ ?_ _|refine bw_ ?_|refine bz_ ?_ _));exact BK367.out) hb)
   have n4_:=Az.mk (bb_ (g:=gb368) (o:=.cells #[.bool false,.slice none 0 0] 38 (0,0)) (by (with_reducible repeat (first|refine bq_ ?_ _|refine bw_ ?_|refine bz_ ?_ _));exact BK368.out) hb)
   have n5_:=Az.mk (bb_ (g:=gb375) (o:=.cells #[.slice none 0 0] 87 (0,0)) (by (with_reducible repeat (first|refine bq_ ?_ _|refine bw_ ?_|refine bz_ ?_ _));exact BK375.out) hb)
   have n6_:=Az.mk (below_step (by repeat (first|(with_reducible first|exact HB.out|apply bA_|apply bN_|apply bD_|refine bs_ ?_ GE366.out|refine bs_ ?_ GE367.out|refine bs_ ?_ GE368.out|refine bs_ ?_ GE375.out)|exact HB.out)) hb)
   have n7_:=Az.mk (hbox)
   have n8_:=Az.mk ((by rw [hg];exact (be_ (by repeat (first|(with_reducible first|exact HB.out|apply bA_|apply bN_|apply bD_|refine bs_ ?_ GE366.out|refine bs_ ?_ GE367.out|refine bs_ ?_ GE368.out|refine bs_ ?_ GE375.out)|exact HB.out))):w.heap.size≤gb376))
   have n9_:=Az.mk ((by rw [hg];exact (be_ (by repeat (first|(with_reducible first|exact HB.out|apply bA_|apply bN_|apply bD_|refine bs_ ?_ GE366.out|refine bs_ ?_ GE367.out|refine bs_ ?_ GE368.out|refine bs_ ?_ GE375.out)|exact HB.out))):w.heap.size≤gb376))
   have n10_:=Az.mk ((by rw [hg];exact Nat.ne_of_lt (blk_lt (g:=gb366) (o:=.cells #[.bool a0_0,.slice A0_1 l0_1.length c0_1] 38 (0,0)) (by (with_reducible repeat (first|refine bq_ ?_ _|refine bw_ ?_|refine bz_ ?_ _));exact BK366.out)):gb366≠gb376))
   have n11_:=Az.mk ((by rw [hg];exact Nat.ne_of_gt (blk_lt (g:=gb366) (o:=.cells #[.bool a0_0,.slice A0_1 l0_1.length c0_1] 38 (0,0)) (by (with_reducible repeat (first|refine bq_ ?_ _|refine bw_ ?_|refine bz_ ?_ _));exact BK366.out)):gb376≠gb366))
   have n12_:=Az.mk ((by rw [hg];exact Nat.ne_of_lt (blk_lt (g:=gb367) (o:=.cells #[.bool a1_0,.slice A1_1 l1_1.length c1_1] 38 (0,0)) (by (with_reducible repeat (first|refine bq_ ?_ _|refine bw_ ?_|refine bz_ ?_ _));exact BK367.out)):gb367≠gb376))
   have n13_:=Az.mk ((by rw [hg];exact Nat.ne_of_gt (blk_lt (g:=gb367) (o:=.cells #[.bool a1_0,.slice A1_1 l1_1.length c1_1] 38 (0,0)) (by (with_reducible repeat (first|refine bq_ ?_ _|refine bw_ ?_|refine bz_ ?_ _));exact BK367.out)):gb376≠gb367))
   have n14_:=Az.mk ((by rw [hg];exact Nat.ne_of_lt (blk_lt (g:=gb368) (o:=.cells #[.bool false,.slice none 0 0] 38 (0,0)) (by (with_reducible repeat (first|refine bq_ ?_ _|refine bw_ ?_|refine bz_ ?_ _));exact BK368.out)):gb368≠gb376))
   have n15_:=Az.mk ((by rw [hg];exact Nat.ne_of_gt (blk_lt (g:=gb368) (o:=.cells #[.bool false,.slice none 0 0] 38 (0,0)) (by (with_reducible repeat (first|refine bq_ ?_ _|refine bw_ ?_|refine bz_ ?_ _));exact BK368.out)):gb376≠gb368))
   have n16_:=Az.mk ((by rw [hg];exact Nat.ne_of_lt (blk_lt (g:=gb375) (o:=.cells #[.slice none 0 0] 87 (0,0)) (by (with_reducible repeat (first|refine bq_ ?_ _|refine bw_ ?_|refine bz_ ?_ _));exact BK375.out)):gb375≠gb376))
   have n17_:=Az.mk ((by rw [hg];exact Nat.ne_of_gt (blk_lt (g:=gb375) (o:=.cells #[.slice none 0 0] 87 (0,0)) (by (with_reducible repeat (first|refine bq_ ?_ _|refine bw_ ?_|refine bz_ ?_ _));exact BK375.out)):gb376≠gb375))
   clear HO371
   clear HO374
   clear BK366
   clear BK367
   clear BK368
   clear BK375
   clear HB
   have HO371:=n0_
   have HO374:=n1_
   have BK366:=n2_
   have BK367:=n3_
   have BK368:=n4_
   have BK375:=n5_
   have HB:=n6_
   have BK376:=n7_
   have GW376:=n8_
   have GE376:=n9_
   have NB366_376:=n10_
   have NB376_366:=n11_
   have NB367_376:=n12_
   have NB376_367:=n13_
   have NB368_376:=n14_
   have NB376_368:=n15_
   have NB375_376:=n16_
   have NB376_375:=n17_
   clear n0_ n1_ n2_ n3_ n4_ n5_ n6_ n7_ n8_ n9_ n10_ n11_ n12_ n13_ n14_ n15_ n16_ n17_
   clear hb hbox hg
   refine hK.out _ _ ⟨(bc_ BK366.out 0).trans rfl,(bc_ BK366.out 1).trans rfl,(bc_ BK367.out 0).trans rfl,(bc_ BK367.out 1).trans rfl⟩ (fun hHeld=>?_)
   clear hK K
   refine norm_ (a':=?_) ?_ ?_
   rotate_left
   ·show Act.put _ (some 6) _=_
    simp only [Act.put,sA_,sB_,sC_,i64_w,i32_w]
    rfl
   exact norm_ (by first|(simp only [putAll,Act.put,sA_,sB_,sC_];done)|(simp only [putAll,Act.put,sA_,sB_,sC_];rfl)) (hJ2_5_6_7 (v370,v373,gb375,gb376) _ ⟨hHeld,(by (with_reducible repeat (first|apply rA_|apply rN_|apply rD_));exact HO371.out),(by (with_reducible repeat (first|apply rA_|apply rN_|apply rD_));exact HO374.out),(by (with_reducible repeat (first|refine bq_ ?_ _|refine bw_ ?_|refine bz_ ?_ _));exact BK366.out),(by (with_reducible repeat (first|refine bq_ ?_ _|refine bw_ ?_|refine bz_ ?_ _));exact BK367.out),(by (with_reducible repeat (first|refine bq_ ?_ _|refine bw_ ?_|refine bz_ ?_ _));exact BK368.out),(by (with_reducible repeat (first|refine bq_ ?_ _|refine bw_ ?_|refine bz_ ?_ _));exact BK375.out),(by (with_reducible repeat (first|refine bq_ ?_ _|refine bw_ ?_|refine bz_ ?_ _));exact BK376.out),GW375.out,GE375.out,NB366_375.out,NB375_366.out,NB367_375.out,NB375_367.out,NB368_375.out,NB375_368.out,NB376_375.out,NB375_376.out,GW376.out,GE376.out,NB366_376.out,NB376_366.out,NB367_376.out,NB376_367.out,NB368_376.out,NB376_368.out,(by repeat (first|(with_reducible first|exact HB.out|apply bA_|apply bN_|apply bD_|refine bs_ ?_ GE366.out|refine bs_ ?_ GE367.out|refine bs_ ?_ GE368.out|refine bs_ ?_ GE375.out|refine bs_ ?_ GE376.out)|exact HB.out))⟩)
 rintro ⟨v370,v373,gb375,gb376⟩ w14 ⟨hS_,h0_,h1_,h2_,h3_,h4_,h5_,h6_,h7_,h8_,h9_,h10_,h11_,h12_,h13_,h14_,h15_,h16_,h17_,h18_,h19_,h20_,h21_,h22_,h23_,h24_,h25_⟩
 have n0_:Az (Kd.R Kd.string 9 w14 w.heap.size (fun k_=>some k_≠(v373:Value).ownBlock) v370 t369):=⟨h0_⟩
 have n1_:Az (Kd.R Kd.string 9 w14 w.heap.size (fun k_=>some k_≠(v370:Value).ownBlock) v373 t372):=⟨h1_⟩
 have n2_:Az (w14.heap[gb366]? = some (.cells #[.bool a0_0,.slice A0_1 l0_1.length c0_1] 38 (0,0))):=⟨h2_⟩
 have n3_:Az (w14.heap[gb367]? = some (.cells #[.bool a1_0,.slice A1_1 l1_1.length c1_1] 38 (0,0))):=⟨h3_⟩
 have n4_:Az (w14.heap[gb368]? = some (.cells #[.bool false,.slice none 0 0] 38 (0,0))):=⟨h4_⟩
 have n5_:Az (w14.heap[gb375]? = some (.cells #[.slice none 0 0] 87 (0,0))):=⟨h5_⟩
 have n6_:Az (w14.heap[gb376]? = some (.cells #[.slice none 0 0] 87 (0,0))):=⟨h6_⟩
 have n7_:Az (w.heap.size≤gb375):=⟨h7_⟩
 have n8_:Az (w.heap.size≤gb375):=⟨h8_⟩
 have n9_:Az (gb366≠gb375):=⟨h9_⟩
 have n10_:Az (gb375≠gb366):=⟨h10_⟩
 have n11_:Az (gb367≠gb375):=⟨h11_⟩
 have n12_:Az (gb375≠gb367):=⟨h12_⟩
 have n13_:Az (gb368≠gb375):=⟨h13_⟩
 have n14_:Az (gb375≠gb368):=⟨h14_⟩
 have n15_:Az (gb376≠gb375):=⟨h15_⟩
 have n16_:Az (gb375≠gb376):=⟨h16_⟩
 have n17_:Az (w.heap.size≤gb376):=⟨h17_⟩
 have n18_:Az (w.heap.size≤gb376):=⟨h18_⟩
 have n19_:Az (gb366≠gb376):=⟨h19_⟩
 have n20_:Az (gb376≠gb366):=⟨h20_⟩
 have n21_:Az (gb367≠gb376):=⟨h21_⟩
 have n22_:Az (gb376≠gb367):=⟨h22_⟩
 have n23_:Az (gb368≠gb376):=⟨h23_⟩
 have n24_:Az (gb376≠gb368):=⟨h24_⟩
 have n25_:Az (Below w.heap.size w w14):=⟨h25_⟩
 clear BK366
 clear BK367
 clear BK368
 clear HB
 clear h0_ h1_ h2_ h3_ h4_ h5_ h6_ h7_ h8_ h9_ h10_ h11_ h12_ h13_ h14_ h15_ h16_ h17_ h18_ h19_ h20_ h21_ h22_ h23_ h24_ h25_
 have HO371:=n0_
 have HO374:=n1_
 have BK366:=n2_
 have BK367:=n3_
 have BK368:=n4_
 have BK375:=n5_
 have BK376:=n6_
 have GW375:=n7_
 have GE375:=n8_
 have NB366_375:=n9_
 have NB375_366:=n10_
 have NB367_375:=n11_
 have NB375_367:=n12_
 have NB368_375:=n13_
 have NB375_368:=n14_
 have NB376_375:=n15_
 have NB375_376:=n16_
 have GW376:=n17_
 have GE376:=n18_
 have NB366_376:=n19_
 have NB376_366:=n20_
 have NB367_376:=n21_
 have NB376_367:=n22_
 have NB368_376:=n23_
 have NB376_368:=n24_
 have HB:=n25_
 clear n0_ n1_ n2_ n3_ n4_ n5_ n6_ n7_ n8_ n9_ n10_ n11_ n12_ n13_ n14_ n15_ n16_ n17_ n18_ n19_ n20_ n21_ n22_ n23_ n24_ n25_
 have hHeld:w14.cell? ⟨gb366,0,none⟩=some (.bool a0_0)∧w14.cell? ⟨gb366,1,none⟩=some (.slice A0_1 l0_1.length c0_1)∧w14.cell? ⟨gb367,0,none⟩=some (.bool a1_0)∧w14.cell? ⟨gb367,1,none⟩=some (.slice A1_1 l1_1.length c1_1):=hS_
 obtain ⟨Ao15,co15,eo15⟩:=Kd.R_slice HO371.out
 (first|subst eo15|(injection eo15 with f1_ f2_ f3_;have f4_:=f1_.symm;have f5_:=f3_.symm;clear f1_ f2_ f3_;subst f4_;subst f5_))
 obtain ⟨Ao17,co17,eo17⟩:=Kd.R_slice HO374.out
 (first|subst eo17|(injection eo17 with f1_ f2_ f3_;have f4_:=f1_.symm;have f5_:=f3_.symm;clear f1_ f2_ f3_;subst f4_;subst f5_))
 refine norm_ (a':=?_) ?_ ?_
 rotate_left
 ·simp only [putAll,Act.put,sA_,sB_,sC_]
  rfl
 refine one_ (i:=8) (N:=none) #[true,true,true,true,true,true,true,true,true,false] rfl rfl (one_of HT_.out (by kernel_rfl)) (by decide) (fun K hK=>?_)
 have hs16:w14.cell? ⟨gb375,0,none⟩=some (.slice none 0 0):=(bc_ BK375.out 0).trans rfl
 have hfs16:=bf_ BK375.out 0
 have hns16_0:=NB366_375.out
 have hns16_1:=NB367_375.out
 have hns16_2:=NB368_375.out
 have hns16_4:=NB376_375.out
 have hms16_0:=NB375_366.out
 have hms16_1:=NB375_367.out
 have hms16_2:=NB375_368.out
 have hms16_4:=NB375_376.out
 refine skip_ (w1:=?_) (by rfl) rfl ?_ ?_
 rotate_left
 ·go_simp
  rfl
 refine hK.out _ _ ⟨((cell_far (p:=⟨gb375,_,none⟩) NB366_375.out _).trans (hHeld.1)),((cell_far (p:=⟨gb375,_,none⟩) NB366_375.out _).trans (hHeld.2.1)),((cell_far (p:=⟨gb375,_,none⟩) NB367_375.out _).trans (hHeld.2.2.1)),((cell_far (p:=⟨gb375,_,none⟩) NB367_375.out _).trans (hHeld.2.2.2))⟩ (fun hHeld=>?_)
 clear hK K
 refine one_ (i:=9) (N:=none) #[true,true,true,true,true,true,true,true,true,true] rfl rfl (one_of HT_.out (by kernel_rfl)) (by decide) (fun K hK=>?_)
 have hs18:w14.cell? ⟨gb376,0,none⟩=some (.slice none 0 0):=(bc_ BK376.out 0).trans rfl
 have hfs18:=bf_ BK376.out 0
 have hns18_0:=NB366_376.out
 have hns18_1:=NB367_376.out
 have hns18_2:=NB368_376.out
 have hns18_3:=NB375_376.out
 have hms18_0:=NB376_366.out
 have hms18_1:=NB376_367.out
 have hms18_2:=NB376_368.out
 have hms18_3:=NB376_375.out
 refine skip_ (w1:=?_) (by rfl) rfl ?_ ?_
 rotate_left
 ·go_simp
  rfl
 refine hK.out _ _ ⟨((cell_far (p:=⟨gb376,_,none⟩) NB366_376.out _).trans (hHeld.1)),((cell_far (p:=⟨gb376,_,none⟩) NB366_376.out _).trans (hHeld.2.1)),((cell_far (p:=⟨gb376,_,none⟩) NB367_376.out _).trans (hHeld.2.2.1)),((cell_far (p:=⟨gb376,_,none⟩) NB367_376.out _).trans (hHeld.2.2.2))⟩ (fun hHeld=>?_)
 clear hK K
 refine done_ (done_of HT_.out (by kernel_rfl)) ?_
 go_upto_region 2 with (fail)
 go_cut [13] (fun v13 wc=>∃ (kq:Nat) (x13_4:Bool),v13=.bool x13_4∧Az (names_Both.j0 kq x13_4 a0_0 l0_1 a1_0 l1_1 t369 t372=some (r1,r2))∧Az (kq≤k)∧Az (Kd.R Kd.string 9 wc w.heap.size (fun k_=>some k_≠((.slice Ao17 t372.length co17):Value).ownBlock) (.slice Ao15 t369.length co15) t369)∧Az (Kd.R Kd.string 9 wc w.heap.size (fun k_=>some k_≠((.slice Ao15 t369.length co15):Value).ownBlock) (.slice Ao17 t372.length co17) t372)∧Az (wc.heap[gb366]? = some (.cells #[.bool a0_0,(.slice A0_1 l0_1.length c0_1)] 38 (0,0)))∧Az (wc.heap[gb367]? = some (.cells #[.bool a1_0,(.slice A1_1 l1_1.length c1_1)] 38 (0,0)))∧Az (wc.heap[gb368]? = some (.cells #[.bool false,(.slice none 0 0)] 38 (0,0)))∧Az (wc.heap[gb375]? = some (.cells #[(.slice Ao15 t369.length co15)] 87 (0,0)))∧Az (wc.heap[gb376]? = some (.cells #[(.slice Ao17 t372.length co17)] 87 (0,0)))∧Az (Below w.heap.size w wc))
 case first =>
  have H:=HC5.out
  clear HC5
  by_cases c19:a0_0=true
  ·subst c19
   have H1:(names_Both.j0 k a1_0 true l0_1 a1_0 l1_1 t369 t372)=some (r1,r2):=by rw [if_pos rfl] at H;exact H
   clear H
   have H:=H1
   clear H1
   have H':=Az.mk H
   clear H
   have hnb20:=NB366_367.out
   have hnc20:=NB367_366.out
   have hnb21:=NB366_368.out
   have hnc21:=NB368_366.out
   have hnb22:=NB366_375.out
   have hnc22:=NB375_366.out
   have hnb23:=NB366_376.out
   have hnc23:=NB376_366.out
   have hcz24_0:w14.cell? ⟨gb366,0,none⟩=some (.bool true):=(bc_ BK366.out 0).trans rfl
   have hcz24_1:w14.cell? ⟨gb366,1,none⟩=some (.slice A0_1 l0_1.length c0_1):=(bc_ BK366.out 1).trans rfl
   have hfz24_0:=bf_ BK366.out 0
   have hfz24_1:=bf_ BK366.out 1
   have hnb25:=NB367_368.out
   have hnc25:=NB368_367.out
   have hnb26:=NB367_375.out
   have hnc26:=NB375_367.out
   have hnb27:=NB367_376.out
   have hnc27:=NB376_367.out
   have hcz28_0:w14.cell? ⟨gb367,0,none⟩=some (.bool a1_0):=(bc_ BK367.out 0).trans rfl
   have hcz28_1:w14.cell? ⟨gb367,1,none⟩=some (.slice A1_1 l1_1.length c1_1):=(bc_ BK367.out 1).trans rfl
   have hfz28_0:=bf_ BK367.out 0
   have hfz28_1:=bf_ BK367.out 1
   go_wp2
   go_meet
   case rel=>exact ⟨_,(a1_0),(by first|rfl|(simp;done)|(simp [*];done)),H',⟨by first|omega|exact Nat.le_refl _⟩,⟨by (with_reducible repeat (first|apply rA_|apply rN_|apply rD_));exact Kd.R_mono (Kd.R_far (p:=⟨gb376,0,none⟩) (Kd.R_far (p:=⟨gb375,0,none⟩) (Kd.R_types (Kd.R_types HO371.out BK375.out (by decide)) BK376.out (by decide)) (fun _ hk=>hk.1.2) (.slice Ao15 t369.length co15)) (fun _ hk=>hk.2) (.slice Ao17 t372.length co17)) (fun _ hk=>hk.1.1)⟩,⟨by (with_reducible repeat (first|apply rA_|apply rN_|apply rD_));exact Kd.R_mono (Kd.R_far (p:=⟨gb376,0,none⟩) (Kd.R_far (p:=⟨gb375,0,none⟩) (Kd.R_types (Kd.R_types HO374.out BK375.out (by decide)) BK376.out (by decide)) (fun _ hk=>hk.1.2) (.slice Ao15 t369.length co15)) (fun _ hk=>hk.2) (.slice Ao17 t372.length co17)) (fun _ hk=>hk.1.1)⟩,⟨by (with_reducible repeat (first|refine bq_ ?_ _|refine bw_ ?_|refine bz_ ?_ _));refine blk_far ?_ NB366_376.out _;(with_reducible repeat (first|refine bq_ ?_ _|refine bw_ ?_|refine bz_ ?_ _));refine blk_far ?_ NB366_375.out _;(with_reducible repeat (first|refine bq_ ?_ _|refine bw_ ?_|refine bz_ ?_ _));exact BK366.out⟩,⟨by (with_reducible repeat (first|refine bq_ ?_ _|refine bw_ ?_|refine bz_ ?_ _));refine blk_far ?_ NB367_376.out _;(with_reducible repeat (first|refine bq_ ?_ _|refine bw_ ?_|refine bz_ ?_ _));refine blk_far ?_ NB367_375.out _;(with_reducible repeat (first|refine bq_ ?_ _|refine bw_ ?_|refine bz_ ?_ _));exact BK367.out⟩,⟨by (with_reducible repeat (first|refine bq_ ?_ _|refine bw_ ?_|refine bz_ ?_ _));refine blk_far ?_ NB368_376.out _;(with_reducible repeat (first|refine bq_ ?_ _|refine bw_ ?_|refine bz_ ?_ _));refine blk_far ?_ NB368_375.out _;(with_reducible repeat (first|refine bq_ ?_ _|refine bw_ ?_|refine bz_ ?_ _));exact BK368.out⟩,⟨by (with_reducible repeat (first|refine bq_ ?_ _|refine bw_ ?_|refine bz_ ?_ _));refine blk_far ?_ NB375_376.out _;(with_reducible repeat (first|refine bq_ ?_ _|refine bw_ ?_|refine bz_ ?_ _));refine blk_put (cs:=#[.slice none 0 0]) ?_ 0 _ rfl;(with_reducible repeat (first|refine bq_ ?_ _|refine bw_ ?_|refine bz_ ?_ _));exact BK375.out⟩,⟨by (with_reducible repeat (first|refine bq_ ?_ _|refine bw_ ?_|refine bz_ ?_ _));refine blk_put (cs:=#[.slice none 0 0]) ?_ 0 _ rfl;(with_reducible repeat (first|refine bq_ ?_ _|refine bw_ ?_|refine bz_ ?_ _));refine blk_far ?_ NB376_375.out _;(with_reducible repeat (first|refine bq_ ?_ _|refine bw_ ?_|refine bz_ ?_ _));exact BK376.out⟩,⟨by repeat (first|(with_reducible first|exact HB.out|apply bA_|apply bN_|apply bD_|refine bs_ ?_ GE366.out|refine bs_ ?_ GE367.out|refine bs_ ?_ GE368.out|refine bs_ ?_ GE375.out|refine bs_ ?_ GE376.out)|exact HB.out)⟩⟩
  ·replace c19:=Bool.eq_false_iff.mpr c19
   subst c19
   have H1:(names_Both.j0 k false false l0_1 a1_0 l1_1 t369 t372)=some (r1,r2):=by rw [if_neg (show ¬ (false=true) by decide)] at H;exact H
   clear H
   have H:=H1
   clear H1
   have H':=Az.mk H
   clear H
   have hnb29:=NB366_367.out
   have hnc29:=NB367_366.out
   have hnb30:=NB366_368.out
   have hnc30:=NB368_366.out
   have hnb31:=NB366_375.out
   have hnc31:=NB375_366.out
   have hnb32:=NB366_376.out
   have hnc32:=NB376_366.out
   have hcz33_0:w14.cell? ⟨gb366,0,none⟩=some (.bool false):=(bc_ BK366.out 0).trans rfl
   have hcz33_1:w14.cell? ⟨gb366,1,none⟩=some (.slice A0_1 l0_1.length c0_1):=(bc_ BK366.out 1).trans rfl
   have hfz33_0:=bf_ BK366.out 0
   have hfz33_1:=bf_ BK366.out 1
   go_wp2
   go_meet
   case rel=>exact ⟨_,(false),(by first|rfl|(simp;done)|(simp [*];done)),H',⟨by first|omega|exact Nat.le_refl _⟩,⟨by (with_reducible repeat (first|apply rA_|apply rN_|apply rD_));exact Kd.R_mono (Kd.R_far (p:=⟨gb376,0,none⟩) (Kd.R_far (p:=⟨gb375,0,none⟩) (Kd.R_types (Kd.R_types HO371.out BK375.out (by decide)) BK376.out (by decide)) (fun _ hk=>hk.1.2) (.slice Ao15 t369.length co15)) (fun _ hk=>hk.2) (.slice Ao17 t372.length co17)) (fun _ hk=>hk.1.1)⟩,⟨by (with_reducible repeat (first|apply rA_|apply rN_|apply rD_));exact Kd.R_mono (Kd.R_far (p:=⟨gb376,0,none⟩) (Kd.R_far (p:=⟨gb375,0,none⟩) (Kd.R_types (Kd.R_types HO374.out BK375.out (by decide)) BK376.out (by decide)) (fun _ hk=>hk.1.2) (.slice Ao15 t369.length co15)) (fun _ hk=>hk.2) (.slice Ao17 t372.length co17)) (fun _ hk=>hk.1.1)⟩,⟨by (with_reducible repeat (first|refine bq_ ?_ _|refine bw_ ?_|refine bz_ ?_ _));refine blk_far ?_ NB366_376.out _;(with_reducible repeat (first|refine bq_ ?_ _|refine bw_ ?_|refine bz_ ?_ _));refine blk_far ?_ NB366_375.out _;(with_reducible repeat (first|refine bq_ ?_ _|refine bw_ ?_|refine bz_ ?_ _));exact BK366.out⟩,⟨by (with_reducible repeat (first|refine bq_ ?_ _|refine bw_ ?_|refine bz_ ?_ _));refine blk_far ?_ NB367_376.out _;(with_reducible repeat (first|refine bq_ ?_ _|refine bw_ ?_|refine bz_ ?_ _));refine blk_far ?_ NB367_375.out _;(with_reducible repeat (first|refine bq_ ?_ _|refine bw_ ?_|refine bz_ ?_ _));exact BK367.out⟩,⟨by (with_reducible repeat (first|refine bq_ ?_ _|refine bw_ ?_|refine bz_ ?_ _));refine blk_far ?_ NB368_376.out _;(with_reducible repeat (first|refine bq_ ?_ _|refine bw_ ?_|refine bz_ ?_ _));refine blk_far ?_ NB368_375.out _;(with_reducible repeat (first|refine bq_ ?_ _|refine bw_ ?_|refine bz_ ?_ _));exact BK368.out⟩,⟨by (with_reducible repeat (first|refine bq_ ?_ _|refine bw_ ?_|refine bz_ ?_ _));refine blk_far ?_ NB375_376.out _;(with_reducible repeat (first|refine bq_ ?_ _|refine bw_ ?_|refine bz_ ?_ _));refine blk_put (cs:=#[.slice none 0 0]) ?_ 0 _ rfl;(with_reducible repeat (first|refine bq_ ?_ _|refine bw_ ?_|refine bz_ ?_ _));exact BK375.out⟩,⟨by (with_reducible repeat (first|refine bq_ ?_ _|refine bw_ ?_|refine bz_ ?_ _));refine blk_put (cs:=#[.slice none 0 0]) ?_ 0 _ rfl;(with_reducible repeat (first|refine bq_ ?_ _|refine bw_ ?_|refine bz_ ?_ _));refine blk_far ?_ NB376_375.out _;(with_reducible repeat (first|refine bq_ ?_ _|refine bw_ ?_|refine bz_ ?_ _));exact BK376.out⟩,⟨by repeat (first|(with_reducible first|exact HB.out|apply bA_|apply bN_|apply bD_|refine bs_ ?_ GE366.out|refine bs_ ?_ GE367.out|refine bs_ ?_ GE368.out|refine bs_ ?_ GE375.out|refine bs_ ?_ GE376.out)|exact HB.out)⟩⟩
 case rest =>
  clear HC5
  try clear c1
  try clear c2
  try clear p2
  try clear c3
  try clear c6
  try clear c19
  try clear c20
  try clear c21
  try clear c22
  try clear c23
  try clear c25
  try clear c26
  try clear c27
  try clear c29
  try clear c30
  try clear c31
  try clear c32
  try clear hcz24_0
  try clear hcz24_1
  try clear hcz28_0
  try clear hcz28_1
  try clear hcz33_0
  try clear hcz33_1
  try clear hfz24_0
  try clear hfz24_1
  try clear hfz28_0
  try clear hfz28_1
  try clear hfz33_0
  try clear hfz33_1
  obtain ⟨kq,x13_4,rfl,HA,HJ4,HO_376000,HO_377000,BK366,BK367,BK368,BK375,BK376,HB⟩:=hcut
  cases kq with
  | zero=>exact absurd HA.out (by simp [names_Both.j0])
  | succ kj4 =>
   have H:=HA.out
   clear HA
   simp only [names_Both.j0] at H
   by_cases c34:x13_4=true
   ·subst c34
    have H1:((names_set_string_with.f t369 t372).bind fun t377=>(some (true,t377)))=some (r1,r2):=by rw [if_pos rfl] at H;exact H
    clear H
    have H:=H1
    clear H1
    replace H:=Option.bind_eq_some_iff.mp H
    obtain ⟨t377,A350,H⟩:=H
    replace H:(some (true,t377))=some (r1,r2):=H
    have A35:=Az.mk A350
    clear A350
    simp only [Option.some.injEq,Prod.mk.injEq] at H
    obtain ⟨rfl,rfl⟩:=H
    have hnb36:=NB375_366.out
    have hnc36:=NB366_375.out
    have hnb37:=NB375_367.out
    have hnc37:=NB367_375.out
    have hnb38:=NB375_368.out
    have hnc38:=NB368_375.out
    have hnb39:=NB375_376.out
    have hnc39:=NB376_375.out
    have hcz40_0:wc.cell? ⟨gb375,0,none⟩=some (.slice Ao15 t369.length co15):=(bc_ BK375.out 0).trans rfl
    have hfz40_0:=bf_ BK375.out 0
    have hnb41:=NB376_366.out
    have hnc41:=NB366_376.out
    have hnb42:=NB376_367.out
    have hnc42:=NB367_376.out
    have hnb43:=NB376_368.out
    have hnc43:=NB368_376.out
    have hcz44_0:wc.cell? ⟨gb376,0,none⟩=some (.slice Ao17 t372.length co17):=(bc_ BK376.out 0).trans rfl
    have hfz44_0:=bf_ BK376.out 0
    go_wp2_with (first|((with_reducible refine gate_callee (f:=62) rfl ?_);refine goesL_ (some 22) rfl rfl Try.func62 (by kernel_rfl) rfl #[.agg #[.slice Ao15 t369.length co15],.agg #[.slice Ao17 t372.length co17]] rfl (by (try simp only [List.map_toArray,List.map_cons,List.map_nil]);first|done|rfl|(simp only [List.length_drop,List.length_take];rfl)) ?_;(with_reducible refine (names_set_string_with.calls _ _ t369 _ _ t372 t377 _ ?side1 ?side2 ?side3 ?side4 A35.out).mono ?_);(case side1=>repeat (first|exact (Kd.R_reads' HO_376000.out).2.2|(with_reducible refine cA_ ?_ _)|(with_reducible refine cN_ ?_ _)|(with_reducible refine cD_ ?_)));(case side2=>exact (Kd.R_reads' HO_376000.out).2.1);(case side3=>repeat (first|exact (Kd.R_reads' HO_377000.out).2.2|(with_reducible refine cA_ ?_ _)|(with_reducible refine cN_ ?_ _)|(with_reducible refine cD_ ?_)));(case side4=>exact (Kd.R_reads' HO_377000.out).2.1);rintro e w45 ⟨v378,rfl,ho0,hb⟩;refine ⟨_,rfl,?_⟩;have n0_:=Az.mk (Kd.R_elder' (by (with_reducible repeat (first|apply rA_|apply rN_|apply rD_));exact HO_376000.out) (Kd.R_base ho0) hb);have n1_:=Az.mk (Kd.R_elder' (by (with_reducible repeat (first|apply rA_|apply rN_|apply rD_));exact HO_377000.out) (Kd.R_base ho0) hb);have n2_:=Az.mk (Kd.R_lower (Kd.R_new' (Kd.R_new' ho0 (Kd.R_lt (by (with_reducible repeat (first|apply rA_|apply rN_|apply rD_));exact HO_376000.out))) (Kd.R_lt (by (with_reducible repeat (first|apply rA_|apply rN_|apply rD_));exact HO_377000.out))) (be_ (by repeat (first|(with_reducible first|exact HB.out|apply bA_|apply bN_|apply bD_|refine bs_ ?_ GE366.out|refine bs_ ?_ GE367.out|refine bs_ ?_ GE368.out|refine bs_ ?_ GE375.out|refine bs_ ?_ GE376.out)|exact HB.out))));have n3_:=Az.mk (bb_ (g:=gb366) (o:=.cells #[.bool a0_0,.slice A0_1 l0_1.length c0_1] 38 (0,0)) (by (with_reducible repeat (first|refine bq_ ?_ _|refine bw_ ?_|refine bz_ ?_ _));exact BK366.out) hb);have n4_:=Az.mk (bb_ (g:=gb367) (o:=.cells #[.bool a1_0,.slice A1_1 l1_1.length c1_1] 38 (0,0)) (by (with_reducible repeat (first|refine bq_ ?_ _|refine bw_ ?_|refine bz_ ?_ _));exact BK367.out) hb);have n5_:=Az.mk (bb_ (g:=gb368) (o:=.cells #[.bool false,.slice none 0 0] 38 (0,0)) (by (with_reducible repeat (first|refine bq_ ?_ _|refine bw_ ?_|refine bz_ ?_ _));exact BK368.out) hb);have n6_:=Az.mk (bb_ (g:=gb375) (o:=.cells #[.slice Ao15 t369.length co15] 87 (0,0)) (by (with_reducible repeat (first|refine bq_ ?_ _|refine bw_ ?_|refine bz_ ?_ _));exact BK375.out) hb);have n7_:=Az.mk (bb_ (g:=gb376) (o:=.cells #[.slice Ao17 t372.length co17] 87 (0,0)) (by (with_reducible repeat (first|refine bq_ ?_ _|refine bw_ ?_|refine bz_ ?_ _));exact BK376.out) hb);have n8_:=Az.mk (below_step (by repeat (first|(with_reducible first|exact HB.out|apply bA_|apply bN_|apply bD_|refine bs_ ?_ GE366.out|refine bs_ ?_ GE367.out|refine bs_ ?_ GE368.out|refine bs_ ?_ GE375.out|refine bs_ ?_ GE376.out)|exact HB.out)) hb);clear HO_376000;clear HO_377000;clear BK366;clear BK367;clear BK368;clear BK375;clear BK376;clear HB;have HO_376000:=n0_;have HO_377000:=n1_;have HO379:=n2_;have BK366:=n3_;have BK367:=n4_;have BK368:=n5_;have BK375:=n6_;have BK376:=n7_;have HB:=n8_;clear n0_ n1_ n2_ n3_ n4_ n5_ n6_ n7_ n8_;(try clear hb);(try clear hb2);(try clear hk);(try clear hi);(try clear ho0);obtain ⟨Ao46,co46,eo46⟩:=Kd.R_slice HO379.out;subst eo46;have hnb47:=NB368_366.out;have hnc47:=NB366_368.out;have hnb48:=NB368_367.out;have hnc48:=NB367_368.out;have hcz49_0:w45.cell? ⟨gb368,0,none⟩=some (.bool false):=(bc_ BK368.out 0).trans rfl;have hcz49_1:w45.cell? ⟨gb368,1,none⟩=some (.slice none 0 0):=(bc_ BK368.out 1).trans rfl;have hfz49_0:=bf_ BK368.out 0;have hfz49_1:=bf_ BK368.out 1))
    refine bodyPost_ret (results_cell_row rfl _ _ gb368 38 #[.bool true,.slice Ao46 t377.length co46] (0,0) _ rfl (by (with_reducible repeat (first|refine bq_ ?_ _|refine bw_ ?_|refine bz_ ?_ _));refine blk_put (cs:=#[.bool true,.slice none 0 0]) ?_ 1 _ rfl;(with_reducible repeat (first|refine bq_ ?_ _|refine bw_ ?_|refine bz_ ?_ _));refine blk_put (cs:=#[.bool false,.slice none 0 0]) ?_ 0 _ rfl;(with_reducible repeat (first|refine bq_ ?_ _|refine bw_ ?_|refine bz_ ?_ _));exact BK368.out) Try.underlying38 rfl (by kernel_rfl)) rfl ?_
    exact ⟨_,by first|rfl|(simp [errW_none,errW_some] <;> rfl)|(simp [*,errW_none,errW_some] <;> rfl),by (with_reducible repeat (first|apply rA_|apply rN_|apply rD_));exact Kd.R_mono (Kd.R_far (p:=⟨gb368,1,none⟩) (Kd.R_far (p:=⟨gb368,0,none⟩) (Kd.R_types HO379.out BK368.out (by decide)) (fun _ hk=>hk.2) (.bool true)) (fun _ hk=>hk.2) (.slice Ao46 t377.length co46)) (fun _ hk=>trivial),by repeat (first|(with_reducible first|exact HB.out|apply bA_|apply bN_|apply bD_|refine bs_ ?_ GE366.out|refine bs_ ?_ GE367.out|refine bs_ ?_ GE368.out|refine bs_ ?_ GE375.out|refine bs_ ?_ GE376.out)|exact HB.out)⟩
   ·replace c34:=Bool.eq_false_iff.mpr c34
    subst c34
    have H1:(if a0_0=true then ((names_set_string_only.f kj4 t372 t369 false).bind fun t380=>(some (false,t380))) else (if a1_0=true then ((names_set_string_only.f kj4 t369 t372 false).bind fun t383=>(some (false,t383))) else ((names_set_string_only.f kj4 t369 t372 true).bind fun t386=>(some (false,t386)))))=some (r1,r2):=by rw [if_neg (show ¬ (false=true) by decide)] at H;exact H
    clear H
    have H:=H1
    clear H1
    by_cases c50:a0_0=true
    ·subst c50
     have H1:((names_set_string_only.f kj4 t372 t369 false).bind fun t380=>(some (false,t380)))=some (r1,r2):=by rw [if_pos rfl] at H;exact H
     clear H
     have H:=H1
     clear H1
     replace H:=Option.bind_eq_some_iff.mp H
     obtain ⟨t380,A510,H⟩:=H
     replace H:(some (false,t380))=some (r1,r2):=H
     have A51:=Az.mk A510
     clear A510
     simp only [Option.some.injEq,Prod.mk.injEq] at H
     obtain ⟨rfl,rfl⟩:=H
     have hnb52:=NB366_367.out
     have hnc52:=NB367_366.out
     have hnb53:=NB366_368.out
     have hnc53:=NB368_366.out
     have hnb54:=NB366_375.out
     have hnc54:=NB375_366.out
     have hnb55:=NB366_376.out
     have hnc55:=NB376_366.out
     have hcz56_0:wc.cell? ⟨gb366,0,none⟩=some (.bool true):=(bc_ BK366.out 0).trans rfl
     have hcz56_1:wc.cell? ⟨gb366,1,none⟩=some (.slice A0_1 l0_1.length c0_1):=(bc_ BK366.out 1).trans rfl
     have hfz56_0:=bf_ BK366.out 0
     have hfz56_1:=bf_ BK366.out 1
     have hnb57:=NB376_367.out
     have hnc57:=NB367_376.out
     have hnb58:=NB376_368.out
     have hnc58:=NB368_376.out
     have hnb59:=NB376_375.out
     have hnc59:=NB375_376.out
     have hcz60_0:wc.cell? ⟨gb376,0,none⟩=some (.slice Ao17 t372.length co17):=(bc_ BK376.out 0).trans rfl
     have hfz60_0:=bf_ BK376.out 0
     have hnb61:=NB375_367.out
     have hnc61:=NB367_375.out
     have hnb62:=NB375_368.out
     have hnc62:=NB368_375.out
     have hcz63_0:wc.cell? ⟨gb375,0,none⟩=some (.slice Ao15 t369.length co15):=(bc_ BK375.out 0).trans rfl
     have hfz63_0:=bf_ BK375.out 0
     go_wp2_with (first|((with_reducible refine gate_callee (f:=63) rfl ?_);refine goesL_ (some 30) rfl rfl Try.func63 (by kernel_rfl) rfl #[.agg #[.slice Ao17 t372.length co17],.agg #[.slice Ao15 t369.length co15],.bool false] rfl (by (try simp only [List.map_toArray,List.map_cons,List.map_nil]);first|done|rfl|(simp only [List.length_drop,List.length_take];rfl)) ?_;(with_reducible refine (names_set_string_only.calls kj4 _ _ t372 _ _ t369 false t380 _ ?side1 ?side2 ?side3 ?side4 A51.out).mono ?_);(case side1=>repeat (first|exact (Kd.R_reads' HO_377000.out).2.2|(with_reducible refine cA_ ?_ _)|(with_reducible refine cN_ ?_ _)|(with_reducible refine cD_ ?_)));(case side2=>exact (Kd.R_reads' HO_377000.out).2.1);(case side3=>repeat (first|exact (Kd.R_reads' HO_376000.out).2.2|(with_reducible refine cA_ ?_ _)|(with_reducible refine cN_ ?_ _)|(with_reducible refine cD_ ?_)));(case side4=>exact (Kd.R_reads' HO_376000.out).2.1);rintro e w64 ⟨v381,rfl,ho0,hb⟩;refine ⟨_,rfl,?_⟩;have n0_:=Az.mk (Kd.R_elder' (by (with_reducible repeat (first|apply rA_|apply rN_|apply rD_));exact HO_376000.out) (Kd.R_base ho0) hb);have n1_:=Az.mk (Kd.R_elder' (by (with_reducible repeat (first|apply rA_|apply rN_|apply rD_));exact HO_377000.out) (Kd.R_base ho0) hb);have n2_:=Az.mk (Kd.R_lower (Kd.R_new' (Kd.R_new' ho0 (Kd.R_lt (by (with_reducible repeat (first|apply rA_|apply rN_|apply rD_));exact HO_376000.out))) (Kd.R_lt (by (with_reducible repeat (first|apply rA_|apply rN_|apply rD_));exact HO_377000.out))) (be_ (by repeat (first|(with_reducible first|exact HB.out|apply bA_|apply bN_|apply bD_|refine bs_ ?_ GE366.out|refine bs_ ?_ GE367.out|refine bs_ ?_ GE368.out|refine bs_ ?_ GE375.out|refine bs_ ?_ GE376.out)|exact HB.out))));have n3_:=Az.mk (bb_ (g:=gb366) (o:=.cells #[.bool true,.slice A0_1 l0_1.length c0_1] 38 (0,0)) (by (with_reducible repeat (first|refine bq_ ?_ _|refine bw_ ?_|refine bz_ ?_ _));exact BK366.out) hb);have n4_:=Az.mk (bb_ (g:=gb367) (o:=.cells #[.bool a1_0,.slice A1_1 l1_1.length c1_1] 38 (0,0)) (by (with_reducible repeat (first|refine bq_ ?_ _|refine bw_ ?_|refine bz_ ?_ _));exact BK367.out) hb);have n5_:=Az.mk (bb_ (g:=gb368) (o:=.cells #[.bool false,.slice none 0 0] 38 (0,0)) (by (with_reducible repeat (first|refine bq_ ?_ _|refine bw_ ?_|refine bz_ ?_ _));exact BK368.out) hb);have n6_:=Az.mk (bb_ (g:=gb375) (o:=.cells #[.slice Ao15 t369.length co15] 87 (0,0)) (by (with_reducible repeat (first|refine bq_ ?_ _|refine bw_ ?_|refine bz_ ?_ _));exact BK375.out) hb);have n7_:=Az.mk (bb_ (g:=gb376) (o:=.cells #[.slice Ao17 t372.length co17] 87 (0,0)) (by (with_reducible repeat (first|refine bq_ ?_ _|refine bw_ ?_|refine bz_ ?_ _));exact BK376.out) hb);have n8_:=Az.mk (below_step (by repeat (first|(with_reducible first|exact HB.out|apply bA_|apply bN_|apply bD_|refine bs_ ?_ GE366.out|refine bs_ ?_ GE367.out|refine bs_ ?_ GE368.out|refine bs_ ?_ GE375.out|refine bs_ ?_ GE376.out)|exact HB.out)) hb);clear HO_376000;clear HO_377000;clear BK366;clear BK367;clear BK368;clear BK375;clear BK376;clear HB;have HO_376000:=n0_;have HO_377000:=n1_;have HO382:=n2_;have BK366:=n3_;have BK367:=n4_;have BK368:=n5_;have BK375:=n6_;have BK376:=n7_;have HB:=n8_;clear n0_ n1_ n2_ n3_ n4_ n5_ n6_ n7_ n8_;(try clear hb);(try clear hb2);(try clear hk);(try clear hi);(try clear ho0);obtain ⟨Ao65,co65,eo65⟩:=Kd.R_slice HO382.out;subst eo65;have hnb66:=NB368_367.out;have hnc66:=NB367_368.out;have hcz67_0:w64.cell? ⟨gb368,0,none⟩=some (.bool false):=(bc_ BK368.out 0).trans rfl;have hcz67_1:w64.cell? ⟨gb368,1,none⟩=some (.slice none 0 0):=(bc_ BK368.out 1).trans rfl;have hfz67_0:=bf_ BK368.out 0;have hfz67_1:=bf_ BK368.out 1))
     refine bodyPost_ret (results_cell_row rfl _ _ gb368 38 #[.bool false,.slice Ao65 t380.length co65] (0,0) _ rfl (by (with_reducible repeat (first|refine bq_ ?_ _|refine bw_ ?_|refine bz_ ?_ _));refine blk_put (cs:=#[.bool false,.slice none 0 0]) ?_ 1 _ rfl;(with_reducible repeat (first|refine bq_ ?_ _|refine bw_ ?_|refine bz_ ?_ _));refine blk_put (cs:=#[.bool false,.slice none 0 0]) ?_ 0 _ rfl;(with_reducible repeat (first|refine bq_ ?_ _|refine bw_ ?_|refine bz_ ?_ _));exact BK368.out) Try.underlying38 rfl (by kernel_rfl)) rfl ?_
     exact ⟨_,by first|rfl|(simp [errW_none,errW_some] <;> rfl)|(simp [*,errW_none,errW_some] <;> rfl),by (with_reducible repeat (first|apply rA_|apply rN_|apply rD_));exact Kd.R_mono (Kd.R_far (p:=⟨gb368,1,none⟩) (Kd.R_far (p:=⟨gb368,0,none⟩) (Kd.R_types HO382.out BK368.out (by decide)) (fun _ hk=>hk.2) (.bool false)) (fun _ hk=>hk.2) (.slice Ao65 t380.length co65)) (fun _ hk=>trivial),by repeat (first|(with_reducible first|exact HB.out|apply bA_|apply bN_|apply bD_|refine bs_ ?_ GE366.out|refine bs_ ?_ GE367.out|refine bs_ ?_ GE368.out|refine bs_ ?_ GE375.out|refine bs_ ?_ GE376.out)|exact HB.out)⟩
    ·replace c50:=Bool.eq_false_iff.mpr c50
     subst c50
     have H1:(if a1_0=true then ((names_set_string_only.f kj4 t369 t372 false).bind fun t383=>(some (false,t383))) else ((names_set_string_only.f kj4 t369 t372 true).bind fun t386=>(some (false,t386))))=some (r1,r2):=by rw [if_neg (show ¬ (false=true) by decide)] at H;exact H
     clear H
     have H:=H1
     clear H1
     by_cases c68:a1_0=true
     ·subst c68
      have H1:((names_set_string_only.f kj4 t369 t372 false).bind fun t383=>(some (false,t383)))=some (r1,r2):=by rw [if_pos rfl] at H;exact H
      clear H
      have H:=H1
      clear H1
      replace H:=Option.bind_eq_some_iff.mp H
      obtain ⟨t383,A690,H⟩:=H
      replace H:(some (false,t383))=some (r1,r2):=H
      have A69:=Az.mk A690
      clear A690
      simp only [Option.some.injEq,Prod.mk.injEq] at H
      obtain ⟨rfl,rfl⟩:=H
      have hnb70:=NB366_367.out
      have hnc70:=NB367_366.out
      have hnb71:=NB366_368.out
      have hnc71:=NB368_366.out
      have hnb72:=NB366_375.out
      have hnc72:=NB375_366.out
      have hnb73:=NB366_376.out
      have hnc73:=NB376_366.out
      have hcz74_0:wc.cell? ⟨gb366,0,none⟩=some (.bool false):=(bc_ BK366.out 0).trans rfl
      have hcz74_1:wc.cell? ⟨gb366,1,none⟩=some (.slice A0_1 l0_1.length c0_1):=(bc_ BK366.out 1).trans rfl
      have hfz74_0:=bf_ BK366.out 0
      have hfz74_1:=bf_ BK366.out 1
      have hnb75:=NB367_368.out
      have hnc75:=NB368_367.out
      have hnb76:=NB367_375.out
      have hnc76:=NB375_367.out
      have hnb77:=NB367_376.out
      have hnc77:=NB376_367.out
      have hcz78_0:wc.cell? ⟨gb367,0,none⟩=some (.bool true):=(bc_ BK367.out 0).trans rfl
      have hcz78_1:wc.cell? ⟨gb367,1,none⟩=some (.slice A1_1 l1_1.length c1_1):=(bc_ BK367.out 1).trans rfl
      have hfz78_0:=bf_ BK367.out 0
      have hfz78_1:=bf_ BK367.out 1
      have hnb79:=NB375_368.out
      have hnc79:=NB368_375.out
      have hnb80:=NB375_376.out
      have hnc80:=NB376_375.out
      have hcz81_0:wc.cell? ⟨gb375,0,none⟩=some (.slice Ao15 t369.length co15):=(bc_ BK375.out 0).trans rfl
      have hfz81_0:=bf_ BK375.out 0
      have hnb82:=NB376_368.out
      have hnc82:=NB368_376.out
      have hcz83_0:wc.cell? ⟨gb376,0,none⟩=some (.slice Ao17 t372.length co17):=(bc_ BK376.out 0).trans rfl
      have hfz83_0:=bf_ BK376.out 0
      go_wp2_with (first|((with_reducible refine gate_callee (f:=63) rfl ?_);refine goesL_ (some 38) rfl rfl Try.func63 (by kernel_rfl) rfl #[.agg #[.slice Ao15 t369.length co15],.agg #[.slice Ao17 t372.length co17],.bool false] rfl (by (try simp only [List.map_toArray,List.map_cons,List.map_nil]);first|done|rfl|(simp only [List.length_drop,List.length_take];rfl)) ?_;(with_reducible refine (names_set_string_only.calls kj4 _ _ t369 _ _ t372 false t383 _ ?side1 ?side2 ?side3 ?side4 A69.out).mono ?_);(case side1=>repeat (first|exact (Kd.R_reads' HO_376000.out).2.2|(with_reducible refine cA_ ?_ _)|(with_reducible refine cN_ ?_ _)|(with_reducible refine cD_ ?_)));(case side2=>exact (Kd.R_reads' HO_376000.out).2.1);(case side3=>repeat (first|exact (Kd.R_reads' HO_377000.out).2.2|(with_reducible refine cA_ ?_ _)|(with_reducible refine cN_ ?_ _)|(with_reducible refine cD_ ?_)));(case side4=>exact (Kd.R_reads' HO_377000.out).2.1);rintro e w84 ⟨v384,rfl,ho0,hb⟩;refine ⟨_,rfl,?_⟩;have n0_:=Az.mk (Kd.R_elder' (by (with_reducible repeat (first|apply rA_|apply rN_|apply rD_));exact HO_376000.out) (Kd.R_base ho0) hb);have n1_:=Az.mk (Kd.R_elder' (by (with_reducible repeat (first|apply rA_|apply rN_|apply rD_));exact HO_377000.out) (Kd.R_base ho0) hb);have n2_:=Az.mk (Kd.R_lower (Kd.R_new' (Kd.R_new' ho0 (Kd.R_lt (by (with_reducible repeat (first|apply rA_|apply rN_|apply rD_));exact HO_376000.out))) (Kd.R_lt (by (with_reducible repeat (first|apply rA_|apply rN_|apply rD_));exact HO_377000.out))) (be_ (by repeat (first|(with_reducible first|exact HB.out|apply bA_|apply bN_|apply bD_|refine bs_ ?_ GE366.out|refine bs_ ?_ GE367.out|refine bs_ ?_ GE368.out|refine bs_ ?_ GE375.out|refine bs_ ?_ GE376.out)|exact HB.out))));have n3_:=Az.mk (bb_ (g:=gb366) (o:=.cells #[.bool false,.slice A0_1 l0_1.length c0_1] 38 (0,0)) (by (with_reducible repeat (first|refine bq_ ?_ _|refine bw_ ?_|refine bz_ ?_ _));exact BK366.out) hb);have n4_:=Az.mk (bb_ (g:=gb367) (o:=.cells #[.bool true,.slice A1_1 l1_1.length c1_1] 38 (0,0)) (by (with_reducible repeat (first|refine bq_ ?_ _|refine bw_ ?_|refine bz_ ?_ _));exact BK367.out) hb);have n5_:=Az.mk (bb_ (g:=gb368) (o:=.cells #[.bool false,.slice none 0 0] 38 (0,0)) (by (with_reducible repeat (first|refine bq_ ?_ _|refine bw_ ?_|refine bz_ ?_ _));exact BK368.out) hb);have n6_:=Az.mk (bb_ (g:=gb375) (o:=.cells #[.slice Ao15 t369.length co15] 87 (0,0)) (by (with_reducible repeat (first|refine bq_ ?_ _|refine bw_ ?_|refine bz_ ?_ _));exact BK375.out) hb);have n7_:=Az.mk (bb_ (g:=gb376) (o:=.cells #[.slice Ao17 t372.length co17] 87 (0,0)) (by (with_reducible repeat (first|refine bq_ ?_ _|refine bw_ ?_|refine bz_ ?_ _));exact BK376.out) hb);have n8_:=Az.mk (below_step (by repeat (first|(with_reducible first|exact HB.out|apply bA_|apply bN_|apply bD_|refine bs_ ?_ GE366.out|refine bs_ ?_ GE367.out|refine bs_ ?_ GE368.out|refine bs_ ?_ GE375.out|refine bs_ ?_ GE376.out)|exact HB.out)) hb);clear HO_376000;clear HO_377000;clear BK366;clear BK367;clear BK368;clear BK375;clear BK376;clear HB;have HO_376000:=n0_;have HO_377000:=n1_;have HO385:=n2_;have BK366:=n3_;have BK367:=n4_;have BK368:=n5_;have BK375:=n6_;have BK376:=n7_;have HB:=n8_;clear n0_ n1_ n2_ n3_ n4_ n5_ n6_ n7_ n8_;(try clear hb);(try clear hb2);(try clear hk);(try clear hi);(try clear ho0);obtain ⟨Ao85,co85,eo85⟩:=Kd.R_slice HO385.out;subst eo85;have hcz86_0:w84.cell? ⟨gb368,0,none⟩=some (.bool false):=(bc_ BK368.out 0).trans rfl;have hcz86_1:w84.cell? ⟨gb368,1,none⟩=some (.slice none 0 0):=(bc_ BK368.out 1).trans rfl;have hfz86_0:=bf_ BK368.out 0;have hfz86_1:=bf_ BK368.out 1))
      refine bodyPost_ret (results_cell_row rfl _ _ gb368 38 #[.bool false,.slice Ao85 t383.length co85] (0,0) _ rfl (by (with_reducible repeat (first|refine bq_ ?_ _|refine bw_ ?_|refine bz_ ?_ _));refine blk_put (cs:=#[.bool false,.slice none 0 0]) ?_ 1 _ rfl;(with_reducible repeat (first|refine bq_ ?_ _|refine bw_ ?_|refine bz_ ?_ _));refine blk_put (cs:=#[.bool false,.slice none 0 0]) ?_ 0 _ rfl;(with_reducible repeat (first|refine bq_ ?_ _|refine bw_ ?_|refine bz_ ?_ _));exact BK368.out) Try.underlying38 rfl (by kernel_rfl)) rfl ?_
      exact ⟨_,by first|rfl|(simp [errW_none,errW_some] <;> rfl)|(simp [*,errW_none,errW_some] <;> rfl),by (with_reducible repeat (first|apply rA_|apply rN_|apply rD_));exact Kd.R_mono (Kd.R_far (p:=⟨gb368,1,none⟩) (Kd.R_far (p:=⟨gb368,0,none⟩) (Kd.R_types HO385.out BK368.out (by decide)) (fun _ hk=>hk.2) (.bool false)) (fun _ hk=>hk.2) (.slice Ao85 t383.length co85)) (fun _ hk=>trivial),by repeat (first|(with_reducible first|exact HB.out|apply bA_|apply bN_|apply bD_|refine bs_ ?_ GE366.out|refine bs_ ?_ GE367.out|refine bs_ ?_ GE368.out|refine bs_ ?_ GE375.out|refine bs_ ?_ GE376.out)|exact HB.out)⟩
     ·replace c68:=Bool.eq_false_iff.mpr c68
      subst c68
      have H1:((names_set_string_only.f kj4 t369 t372 true).bind fun t386=>(some (false,t386)))=some (r1,r2):=by rw [if_neg (show ¬ (false=true) by decide)] at H;exact H
      clear H
      have H:=H1
      clear H1
      replace H:=Option.bind_eq_some_iff.mp H
      obtain ⟨t386,A870,H⟩:=H
      replace H:(some (false,t386))=some (r1,r2):=H
      have A87:=Az.mk A870
      clear A870
      simp only [Option.some.injEq,Prod.mk.injEq] at H
      obtain ⟨rfl,rfl⟩:=H
      have hnb88:=NB366_367.out
      have hnc88:=NB367_366.out
      have hnb89:=NB366_368.out
      have hnc89:=NB368_366.out
      have hnb90:=NB366_375.out
      have hnc90:=NB375_366.out
      have hnb91:=NB366_376.out
      have hnc91:=NB376_366.out
      have hcz92_0:wc.cell? ⟨gb366,0,none⟩=some (.bool false):=(bc_ BK366.out 0).trans rfl
      have hcz92_1:wc.cell? ⟨gb366,1,none⟩=some (.slice A0_1 l0_1.length c0_1):=(bc_ BK366.out 1).trans rfl
      have hfz92_0:=bf_ BK366.out 0
      have hfz92_1:=bf_ BK366.out 1
      have hnb93:=NB367_368.out
      have hnc93:=NB368_367.out
      have hnb94:=NB367_375.out
      have hnc94:=NB375_367.out
      have hnb95:=NB367_376.out
      have hnc95:=NB376_367.out
      have hcz96_0:wc.cell? ⟨gb367,0,none⟩=some (.bool false):=(bc_ BK367.out 0).trans rfl
      have hcz96_1:wc.cell? ⟨gb367,1,none⟩=some (.slice A1_1 l1_1.length c1_1):=(bc_ BK367.out 1).trans rfl
      have hfz96_0:=bf_ BK367.out 0
      have hfz96_1:=bf_ BK367.out 1
      have hnb97:=NB375_368.out
      have hnc97:=NB368_375.out
      have hnb98:=NB375_376.out
      have hnc98:=NB376_375.out
      have hcz99_0:wc.cell? ⟨gb375,0,none⟩=some (.slice Ao15 t369.length co15):=(bc_ BK375.out 0).trans rfl
      have hfz99_0:=bf_ BK375.out 0
      have hnb100:=NB376_368.out
      have hnc100:=NB368_376.out
      have hcz101_0:wc.cell? ⟨gb376,0,none⟩=some (.slice Ao17 t372.length co17):=(bc_ BK376.out 0).trans rfl
      have hfz101_0:=bf_ BK376.out 0
      go_wp2_with (first|((with_reducible refine gate_callee (f:=63) rfl ?_);refine goesL_ (some 43) rfl rfl Try.func63 (by kernel_rfl) rfl #[.agg #[.slice Ao15 t369.length co15],.agg #[.slice Ao17 t372.length co17],.bool true] rfl (by (try simp only [List.map_toArray,List.map_cons,List.map_nil]);first|done|rfl|(simp only [List.length_drop,List.length_take];rfl)) ?_;(with_reducible refine (names_set_string_only.calls kj4 _ _ t369 _ _ t372 true t386 _ ?side1 ?side2 ?side3 ?side4 A87.out).mono ?_);(case side1=>repeat (first|exact (Kd.R_reads' HO_376000.out).2.2|(with_reducible refine cA_ ?_ _)|(with_reducible refine cN_ ?_ _)|(with_reducible refine cD_ ?_)));(case side2=>exact (Kd.R_reads' HO_376000.out).2.1);(case side3=>repeat (first|exact (Kd.R_reads' HO_377000.out).2.2|(with_reducible refine cA_ ?_ _)|(with_reducible refine cN_ ?_ _)|(with_reducible refine cD_ ?_)));(case side4=>exact (Kd.R_reads' HO_377000.out).2.1);rintro e w102 ⟨v387,rfl,ho0,hb⟩;refine ⟨_,rfl,?_⟩;have n0_:=Az.mk (Kd.R_elder' (by (with_reducible repeat (first|apply rA_|apply rN_|apply rD_));exact HO_376000.out) (Kd.R_base ho0) hb);have n1_:=Az.mk (Kd.R_elder' (by (with_reducible repeat (first|apply rA_|apply rN_|apply rD_));exact HO_377000.out) (Kd.R_base ho0) hb);have n2_:=Az.mk (Kd.R_lower (Kd.R_new' (Kd.R_new' ho0 (Kd.R_lt (by (with_reducible repeat (first|apply rA_|apply rN_|apply rD_));exact HO_376000.out))) (Kd.R_lt (by (with_reducible repeat (first|apply rA_|apply rN_|apply rD_));exact HO_377000.out))) (be_ (by repeat (first|(with_reducible first|exact HB.out|apply bA_|apply bN_|apply bD_|refine bs_ ?_ GE366.out|refine bs_ ?_ GE367.out|refine bs_ ?_ GE368.out|refine bs_ ?_ GE375.out|refine bs_ ?_ GE376.out)|exact HB.out))));have n3_:=Az.mk (bb_ (g:=gb366) (o:=.cells #[.bool false,.slice A0_1 l0_1.length c0_1] 38 (0,0)) (by (with_reducible repeat (first|refine bq_ ?_ _|refine bw_ ?_|refine bz_ ?_ _));exact BK366.out) hb);have n4_:=Az.mk (bb_ (g:=gb367) (o:=.cells #[.bool false,.slice A1_1 l1_1.length c1_1] 38 (0,0)) (by (with_reducible repeat (first|refine bq_ ?_ _|refine bw_ ?_|refine bz_ ?_ _));exact BK367.out) hb);have n5_:=Az.mk (bb_ (g:=gb368) (o:=.cells #[.bool false,.slice none 0 0] 38 (0,0)) (by (with_reducible repeat (first|refine bq_ ?_ _|refine bw_ ?_|refine bz_ ?_ _));exact BK368.out) hb);have n6_:=Az.mk (bb_ (g:=gb375) (o:=.cells #[.slice Ao15 t369.length co15] 87 (0,0)) (by (with_reducible repeat (first|refine bq_ ?_ _|refine bw_ ?_|refine bz_ ?_ _));exact BK375.out) hb);have n7_:=Az.mk (bb_ (g:=gb376) (o:=.cells #[.slice Ao17 t372.length co17] 87 (0,0)) (by (with_reducible repeat (first|refine bq_ ?_ _|refine bw_ ?_|refine bz_ ?_ _));exact BK376.out) hb);have n8_:=Az.mk (below_step (by repeat (first|(with_reducible first|exact HB.out|apply bA_|apply bN_|apply bD_|refine bs_ ?_ GE366.out|refine bs_ ?_ GE367.out|refine bs_ ?_ GE368.out|refine bs_ ?_ GE375.out|refine bs_ ?_ GE376.out)|exact HB.out)) hb);clear HO_376000;clear HO_377000;clear BK366;clear BK367;clear BK368;clear BK375;clear BK376;clear HB;have HO_376000:=n0_;have HO_377000:=n1_;have HO388:=n2_;have BK366:=n3_;have BK367:=n4_;have BK368:=n5_;have BK375:=n6_;have BK376:=n7_;have HB:=n8_;clear n0_ n1_ n2_ n3_ n4_ n5_ n6_ n7_ n8_;(try clear hb);(try clear hb2);(try clear hk);(try clear hi);(try clear ho0);obtain ⟨Ao103,co103,eo103⟩:=Kd.R_slice HO388.out;subst eo103;have hcz104_0:w102.cell? ⟨gb368,0,none⟩=some (.bool false):=(bc_ BK368.out 0).trans rfl;have hcz104_1:w102.cell? ⟨gb368,1,none⟩=some (.slice none 0 0):=(bc_ BK368.out 1).trans rfl;have hfz104_0:=bf_ BK368.out 0;have hfz104_1:=bf_ BK368.out 1))
      refine bodyPost_ret (results_cell_row rfl _ _ gb368 38 #[.bool false,.slice Ao103 t386.length co103] (0,0) _ rfl (by (with_reducible repeat (first|refine bq_ ?_ _|refine bw_ ?_|refine bz_ ?_ _));refine blk_put (cs:=#[.bool false,.slice none 0 0]) ?_ 1 _ rfl;(with_reducible repeat (first|refine bq_ ?_ _|refine bw_ ?_|refine bz_ ?_ _));refine blk_put (cs:=#[.bool false,.slice none 0 0]) ?_ 0 _ rfl;(with_reducible repeat (first|refine bq_ ?_ _|refine bw_ ?_|refine bz_ ?_ _));exact BK368.out) Try.underlying38 rfl (by kernel_rfl)) rfl ?_
      exact ⟨_,by first|rfl|(simp [errW_none,errW_some] <;> rfl)|(simp [*,errW_none,errW_some] <;> rfl),by (with_reducible repeat (first|apply rA_|apply rN_|apply rD_));exact Kd.R_mono (Kd.R_far (p:=⟨gb368,1,none⟩) (Kd.R_far (p:=⟨gb368,0,none⟩) (Kd.R_types HO388.out BK368.out (by decide)) (fun _ hk=>hk.2) (.bool false)) (fun _ hk=>hk.2) (.slice Ao103 t386.length co103)) (fun _ hk=>trivial),by repeat (first|(with_reducible first|exact HB.out|apply bA_|apply bN_|apply bD_|refine bs_ ?_ GE366.out|refine bs_ ?_ GE367.out|refine bs_ ?_ GE368.out|refine bs_ ?_ GE375.out|refine bs_ ?_ GE376.out)|exact HB.out)⟩
end Go.Proofs.Ytoihiehoolehiaa.PX
namespace Go.Proofs.Ytoihiehoolehiaa.PX
open Go.RowKit Go.Proofs.YtoihiehoolehiaaW.PrintWords Go.Proofs.YtoihiehoolehiaaW.PrintLast Go.Proofs.YtoihiehoolehiaaW.PrintMore
attribute [local go_sem] max2_int min2_int max_two min_two max_three min_three max_four min_four   
set_option linter.unusedVariables false
set_option linter.unusedSimpArgs false
attribute [local go_sem] run_field_87_0
def names_None.f (a0_0:Bool) (l0_1:List ByteArray):Option (Bool):=if a0_0=true then (some false) else (some ((l0_1.length:Int) == 0))
set_option maxHeartbeats 8000000 in
set_option maxRecDepth 100000 in
theorem names_None.calls (a0_0:Bool) (A0_1:Option Addr) (c0_1:Nat) (l0_1:List ByteArray) (r:Bool) (w:World) (hr0_1:Kd.C Kd.string w A0_1 l0_1.length l0_1) (hc0_1:l0_1.length≤c0_1) (h:names_None.f a0_0 l0_1=some r) :
  Calls Try.prog 48 #[.agg #[.bool a0_0,.slice A0_1 l0_1.length c0_1]] w fun e w'=>e=.returned (.bool r)∧Below w.heap.size w w':=by
 have hu38:=Try.underlying38
 have HR0_1:=Az.mk hr0_1
 have HC0_1:=Az.mk hc0_1
 clear hr0_1 hc0_1
 have HB:=Az.mk (Below.refl w.heap.size w)
 have H:(if a0_0=true then (some false) else (some ((l0_1.length:Int) == 0)))=some r:=h
 clear h
 by_cases c2:a0_0=true
 ·subst c2
  have H1:(some false)=some r:=by rw [if_pos rfl] at H;exact H
  clear H
  have H:=H1
  clear H1
  obtain rfl:=Option.some.inj H
  go_enter Try.func48,Try.ntmps48
  go_wp2_with (first|((with_reducible refine gate_dst (N:=1) rfl ?_);(try (refine gate_guard (by rfl) ?_;dsimp only));refine box_event ?hg (N:=1) ?hd (cs:=#[.bool true,.slice A0_1 l0_1.length c0_1]) (t:=38) ?hr ?_;(case hd=>rfl);(case hg=>rfl);(case hr=>first|(go_simp;done)|(go_simp;rfl));intro gb389 hg w3 hbox hb;have n0_:=Az.mk (below_step (by repeat (first|(with_reducible first|exact HB.out|apply bA_|apply bN_|apply bD_)|exact HB.out)) hb);have n1_:=Az.mk (hbox);have n2_:=Az.mk ((by rw [hg];exact (be_ (by repeat (first|(with_reducible first|exact HB.out|apply bA_|apply bN_|apply bD_)|exact HB.out))):w.heap.size≤gb389));have n3_:=Az.mk ((by rw [hg];exact (be_ (by repeat (first|(with_reducible first|exact HB.out|apply bA_|apply bN_|apply bD_)|exact HB.out))):w.heap.size≤gb389));clear HB;have HB:=n0_;have BK389:=n1_;have GW389:=n2_;have GE389:=n3_;clear n0_ n1_ n2_ n3_;clear hb hbox hg;have hcz4_0:w3.cell? ⟨gb389,0,none⟩=some (.bool true):=(bc_ BK389.out 0).trans rfl;have hcz4_1:w3.cell? ⟨gb389,1,none⟩=some (.slice A0_1 l0_1.length c0_1):=(bc_ BK389.out 1).trans rfl;have hfz4_0:=bf_ BK389.out 0;have hfz4_1:=bf_ BK389.out 1))
  go_ret
  exact ⟨by first|rfl|(simp [errW_none,errW_some] <;> rfl)|(simp [*,errW_none,errW_some] <;> rfl),by repeat (first|(with_reducible first|exact HB.out|apply bA_|apply bN_|apply bD_|refine bs_ ?_ GE389.out)|exact HB.out)⟩
 ·replace c2:=Bool.eq_false_iff.mpr c2
  subst c2
  have H1:(some ((l0_1.length:Int) == 0))=some r:=by rw [if_neg (show ¬ (false=true) by decide)] at H;exact H
  clear H
  have H:=H1
  clear H1
  obtain rfl:=Option.some.inj H
  go_enter Try.func48,Try.ntmps48
  go_wp2_with (first|((with_reducible refine gate_dst (N:=1) rfl ?_);(try (refine gate_guard (by rfl) ?_;dsimp only));refine box_event ?hg (N:=1) ?hd (cs:=#[.bool false,.slice A0_1 l0_1.length c0_1]) (t:=38) ?hr ?_;(case hd=>rfl);(case hg=>rfl);(case hr=>first|(go_simp;done)|(go_simp;rfl));intro gb389 hg w5 hbox hb;have n0_:=Az.mk (below_step (by repeat (first|(with_reducible first|exact HB.out|apply bA_|apply bN_|apply bD_)|exact HB.out)) hb);have n1_:=Az.mk (hbox);have n2_:=Az.mk ((by rw [hg];exact (be_ (by repeat (first|(with_reducible first|exact HB.out|apply bA_|apply bN_|apply bD_)|exact HB.out))):w.heap.size≤gb389));have n3_:=Az.mk ((by rw [hg];exact (be_ (by repeat (first|(with_reducible first|exact HB.out|apply bA_|apply bN_|apply bD_)|exact HB.out))):w.heap.size≤gb389));clear HB;have HB:=n0_;have BK389:=n1_;have GW389:=n2_;have GE389:=n3_;clear n0_ n1_ n2_ n3_;clear hb hbox hg;have hcz6_0:w5.cell? ⟨gb389,0,none⟩=some (.bool false):=(bc_ BK389.out 0).trans rfl;have hcz6_1:w5.cell? ⟨gb389,1,none⟩=some (.slice A0_1 l0_1.length c0_1):=(bc_ BK389.out 1).trans rfl;have hfz6_0:=bf_ BK389.out 0;have hfz6_1:=bf_ BK389.out 1))
  go_ret
  exact ⟨by first|rfl|(simp [errW_none,errW_some] <;> rfl)|(simp [*,errW_none,errW_some] <;> rfl),by repeat (first|(with_reducible first|exact HB.out|apply bA_|apply bN_|apply bD_|refine bs_ ?_ GE389.out)|exact HB.out)⟩
end Go.Proofs.Ytoihiehoolehiaa.PX
set_option linter.unusedVariables false
set_option linter.unusedSimpArgs false
namespace Go.Proofs.Ytoihiehoolehiaa.PX
open Go.RowKit Go.Proofs.YtoihiehoolehiaaW.PrintWords Go.Proofs.YtoihiehoolehiaaW.PrintLast Go.Proofs.YtoihiehoolehiaaW.PrintMore Go.Proofs.Ytoihiehoolehiaa
def setB (l:List ByteArray):List ByteArray:=(ofL (l.map tl)).map ba
theorem setB_mem {l:List ByteArray} {x:ByteArray} : x ∈ setB l ↔ x ∈ l:=by
 unfold setB
 rw [List.mem_map]
 constructor
 ·rintro ⟨s,hs,rfl⟩
  obtain ⟨y,hy,rfl⟩:=List.mem_map.1 (ofL_mem.1 hs)
  rwa [ba_tl]
 ·intro h
  exact ⟨tl x,ofL_mem.2 (List.mem_map_of_mem h),ba_tl x⟩
theorem setB_sorted (l:List ByteArray):(setB l).Pairwise fun x y=>tl x < tl y:=by
 unfold setB
 rw [List.pairwise_map]
 exact (ofL_sorted _).imp fun {a b} h=>by rw [tl_ba,tl_ba];exact h
theorem setB_length (l:List ByteArray):(setB l).length≤l.length:=by
 unfold setB
 rw [List.length_map]
 exact Nat.le_trans (ofL_length_le _) (by simp)
theorem setB_has (l:List ByteArray) (x:ByteArray):hasL (setB l) x=hasL l x:=by
 rw [Bool.eq_iff_iff,hasL_iff,hasL_iff,setB_mem]
theorem of_eq (l:List ByteArray) (hl:l.length≤1000000000000):names_of_string.f l=some (setB l):=by
 have hc:∀ x:List ByteArray,x.length≤1000000000000→slices_Clone_string_string.f x=some x:=fun x hx=>by
  unfold slices_Clone_string_string.f
  simp only [Option.bind_some,List.length_nil,List.nil_append]
  rw [if_pos (by omega)]
 have h1:(sortB l).length≤1000000000000:=by rw [sortB_length];exact hl
 have e:compactB (sortB l)=setB l:=by
  unfold compactB sortB setB ofL
  rw [map_tl_ba]
 have h2:(compactB (sortB l)).length≤1000000000000:=by rw [e];exact Nat.le_trans (setB_length l) hl
 unfold names_of_string.f
 rw [hc l hl]
 simp only [Option.bind_some,slices_Sort_string_string.f,slices_Compact_string_string.f]
 rw [if_pos hl]
 simp only [Option.bind_some]
 rw [if_pos h1]
 simp only [Option.bind_some]
 rw [hc _ h2,e]
 rfl
theorem wrap_mid {a b:Nat} (h:a+b < 4000000000000):wrap64 ((IntKind.u64.wrap (wrap64 ((a:Int)+(b:Int)))) / 2)=(((a+b) / 2:Nat):Int):=by
 rw [show wrap64 ((a:Int)+(b:Int))=((a+b:Nat):Int) by unfold wrap64;omega]
 rw [IntKind.wrap_u64,show ((a+b:Nat):Int) % 18446744073709551616=((a+b:Nat):Int) by omega]
 unfold wrap64
 omega
theorem bs_ev (l:List ByteArray) (a:ByteArray) (hs:l.Pairwise fun x y=>tl x < tl y) (hl:l.length≤1000000000000):∀ (d lo hi:Nat),hi - lo≤d→lo≤hi→hi≤l.length→(∀ j (h:j < l.length),j < lo→tl l[j] < tl a)→(∀ j (h:j < l.length),hi≤j→¬ tl l[j] < tl a)→∃ p:Int,Ev (fun k=>slices_BinarySearch_string_string.l0 k l a (l.length:Int) (lo:Int) (hi:Int)) (p,hasL l a)
 | d,lo,hi,hd,h1,h2,h3,h4=>by
  by_cases hlt:lo < hi
  ·have hm:(lo+hi) / 2 < l.length:=by omega
   have hf:∀ s:ByteArray,(s.toList != s.toList)=false:=fun s=>by simp
   have e:∀ k,slices_BinarySearch_string_string.l0 (k+1) l a (l.length:Int) (lo:Int) (hi:Int)=if tl l[(lo+hi) / 2] < tl a then slices_BinarySearch_string_string.l0 k l a (l.length:Int) (((lo+hi) / 2+1:Nat):Int) (hi:Int) else slices_BinarySearch_string_string.l0 k l a (l.length:Int) (lo:Int) (((lo+hi) / 2:Nat):Int):=by
    intro k
    simp only [slices_BinarySearch_string_string.l0]
    rw [if_pos (by omega),wrap_mid (by omega),if_pos (by omega),if_pos (by omega),rdOf_nat hm,wrap_succ (by omega)]
    simp only [cmp_Less_string.f,cmp_isNaN_string.f,hf,Option.bind_some]
    rw [if_neg (by simp)]
    simp only [Option.bind_some,less_iff]
   by_cases hc:tl l[(lo+hi) / 2] < tl a
   ·obtain ⟨p,hp⟩:=bs_ev l a hs hl (d - 1) ((lo+hi) / 2+1) hi (by omega) (by omega) h2 (fun j hj hj'=>by
     rcases Nat.lt_or_ge j ((lo+hi) / 2) with h|h
     ·exact List.lt_trans ((List.pairwise_iff_getElem.1 hs) _ _ hj hm h) hc
     ·have:j=(lo+hi) / 2:=by omega
      subst this
      exact hc) h4
    exact ⟨p,Ev.step (fun k=>(e k).trans (if_pos hc)) hp⟩
   ·obtain ⟨p,hp⟩:=bs_ev l a hs hl (d - 1) lo ((lo+hi) / 2) (by omega) (by omega) (by omega) h3 (fun j hj hj' hj2=>by
     rcases Nat.lt_or_ge ((lo+hi) / 2) j with h|h
     ·exact hc (List.lt_trans ((List.pairwise_iff_getElem.1 hs) _ _ hm hj h) hj2)
     ·have:j=(lo+hi) / 2:=by omega
      subst this
      exact hc hj2)
    exact ⟨p,Ev.step (fun k=>(e k).trans (if_neg hc)) hp⟩
  ·obtain rfl:lo=hi:=by omega
   refine ⟨(lo:Int),Ev.step (f:=fun _=>some ((lo:Int),hasL l a)) (fun k=>?_) (Ev.now _)⟩
   have hf:∀ s:ByteArray,(s.toList != s.toList)=false:=fun s=>by simp
   simp only [slices_BinarySearch_string_string.l0]
   rw [if_neg (by omega)]
   by_cases hll:lo < l.length
   ·rw [if_pos (by omega),if_pos (by omega),if_pos (by omega),rdOf_nat hll]
    by_cases ha:l[lo]=a
    ·rw [if_pos (by rw [ha]),(hasL_iff l a).2 (ha ▸ List.getElem_mem hll)]
    ·rw [if_neg (fun x=>ha (tl_inj (by rwa [toList_tl,toList_tl] at x)))]
     simp only [slices_isNaN_string.f,hf,Option.bind_some]
     rw [if_neg (by simp),show hasL l a=false from ?_]
     refine Bool.eq_false_iff.2 fun h=>?_
     obtain ⟨j,hj,rfl⟩:=List.mem_iff_getElem.1 ((hasL_iff l a).1 h)
     rcases Nat.lt_trichotomy j lo with h|h|h
     ·exact List.lt_irrefl _ (h3 j hj h)
     ·subst h;exact ha rfl
     ·exact h4 lo hll (Nat.le_refl _) ((List.pairwise_iff_getElem.1 hs) _ _ hll hj h)
   ·rw [if_neg (by omega),show hasL l a=false from ?_]
    refine Bool.eq_false_iff.2 fun h=>?_
    obtain ⟨j,hj,rfl⟩:=List.mem_iff_getElem.1 ((hasL_iff l a).1 h)
    exact List.lt_irrefl _ (h3 j hj (by omega))
termination_by d lo hi=>hi - lo
theorem only_ev (b:Bool) (x y:List ByteArray) (hy:y.Pairwise fun x y=>tl x < tl y) (hl:x.length≤1000000000) (hly:y.length≤1000000000):Ev (fun k=>names_set_string_only.f k x y b) (setB (x.filter fun z=>hasL y z == b)):=by
 have loop:∀ (d i:Nat) (out:List ByteArray),x.length - i≤d→i≤x.length→out.length≤i→Ev (fun k=>names_set_string_only.l0 k b out x (x.length:Int) (i:Int) y) (setB (out ++ (x.drop i).filter fun z=>hasL y z == b)):=by
  intro d
  induction d with
  | zero =>
   intro i out hd hi ho
   obtain rfl:i=x.length:=by omega
   refine Ev.step (f:=fun _=>some (setB (out ++ (x.drop x.length).filter fun z=>hasL y z == b))) (fun k=>?_) (Ev.now _)
   simp only [names_set_string_only.l0]
   rw [if_neg (by omega),of_eq _ (by omega),List.drop_length]
   simp
  | succ d ih =>
   intro i out hd hi ho
   by_cases h:i < x.length
   ·obtain ⟨p,K,hp⟩:=bs_ev y x[i] hy (by omega) _ 0 y.length (Nat.le_refl _) (Nat.zero_le _) (Nat.le_refl _) (fun j _ hj=>absurd hj (Nat.not_lt_zero _)) (fun j h hj=>absurd h (by omega))
    have hdrop:x.drop i=x[i] :: x.drop (i+1):=List.drop_eq_getElem_cons h
    have e:∀ k,K≤k→names_set_string_only.l0 (k+1) b out x (x.length:Int) (i:Int) y=names_set_string_only.l0 k b (if (hasL y x[i] == b)=true then out ++ [x[i]] else out) x (x.length:Int) ((i+1:Nat):Int) y:=by
     intro k hk
     have hp:slices_BinarySearch_string_string.l0 k y x[i] (y.length:Int) 0 (y.length:Int)=some (p,hasL y x[i]):=hp k hk
     simp only [names_set_string_only.l0]
     rw [if_pos (by omega),if_pos (by omega),if_pos (by omega),rdOf_nat h,wrap_succ (by omega),slices_BinarySearch_string_string.f,hp]
     simp only [Option.bind_some]
     by_cases hq:(hasL y x[i] == b)=true
     ·rw [if_pos hq,if_pos (by omega),if_pos hq]
     ·rw [if_neg hq,if_neg hq]
    have hst:=ih (i+1) (if (hasL y x[i] == b)=true then out ++ [x[i]] else out) (by omega) (by omega) (by split <;> (try rw [List.length_append,List.length_singleton]) <;> omega)
    have e2:(if (hasL y x[i] == b)=true then out ++ [x[i]] else out) ++ (x.drop (i+1)).filter (fun z=>hasL y z == b)=out ++ (x.drop i).filter fun z=>hasL y z == b:=by
     rw [hdrop,List.filter_cons]
     split <;> simp
    rw [e2] at hst
    obtain ⟨K2,hs⟩:=hst
    refine ⟨max K K2+1,fun k hk=>?_⟩
    obtain ⟨k,rfl⟩:∃ k',k=k'+1:=⟨k - 1,by omega⟩
    exact (e k (by omega)).trans (hs k (by omega))
   ·obtain rfl:i=x.length:=by omega
    refine Ev.step (f:=fun _=>some (setB (out ++ (x.drop x.length).filter fun z=>hasL y z == b))) (fun k=>?_) (Ev.now _)
    simp only [names_set_string_only.l0]
    rw [if_neg (by omega),of_eq _ (by omega),List.drop_length]
    simp
 have:=loop x.length 0 [] (by omega) (Nat.zero_le _) (Nat.le_refl _)
 exact this
theorem with_eq (x y:List ByteArray) (hl:x.length≤1000000000) (hly:y.length≤1000000000):names_set_string_with.f x y=some (setB (x ++ y)):=by
 unfold names_set_string_with.f slices_Clone_string_string.f
 simp only [Option.bind_some,List.length_nil,List.nil_append]
 rw [if_pos (by omega)]
 simp only [Option.bind_some]
 rw [if_pos (by omega),of_eq _ (by simp;omega)]
 rfl
def bothM (a b:S38):S38 :=
 if a.f0=true then
  if b.f0=true then ⟨true,setB (setB a.f1 ++ setB b.f1)⟩ else ⟨false,setB ((setB b.f1).filter fun z=>hasL a.f1 z == false)⟩
 else if b.f0=true then ⟨false,setB ((setB a.f1).filter fun z=>hasL b.f1 z == false)⟩ else ⟨false,setB ((setB a.f1).filter fun z=>hasL b.f1 z == true)⟩
theorem both_ev (a b:S38) (ha:a.f1.length≤1000000000) (hb:b.f1.length≤1000000000):Ev (fun k=>names_Both.f k a.f0 a.f1 b.f0 b.f1) ((bothM a b).f0,(bothM a b).f1):=by
 have la:=setB_length a.f1
 have lb:=setB_length b.f1
 obtain ⟨K1,h1⟩:=only_ev false (setB b.f1) (setB a.f1) (setB_sorted _) (by omega) (by omega)
 obtain ⟨K2,h2⟩:=only_ev false (setB a.f1) (setB b.f1) (setB_sorted _) (by omega) (by omega)
 obtain ⟨K3,h3⟩:=only_ev true (setB a.f1) (setB b.f1) (setB_sorted _) (by omega) (by omega)
 refine ⟨K1+K2+K3+1,fun k hk=>?_⟩
 obtain ⟨k,rfl⟩:∃ k',k=k'+1:=⟨k - 1,by omega⟩
 have h1:names_set_string_only.f k (setB b.f1) (setB a.f1) false=_:=h1 k (by omega)
 have h2:names_set_string_only.f k (setB a.f1) (setB b.f1) false=_:=h2 k (by omega)
 have h3:names_set_string_only.f k (setB a.f1) (setB b.f1) true=_:=h3 k (by omega)
 simp only [setB_has] at h1 h2 h3
 show names_Both.f (k+1) a.f0 a.f1 b.f0 b.f1=_
 unfold names_Both.f
 rw [of_eq _ (by omega),of_eq _ (by omega)]
 simp only [Option.bind_some,names_Both.j0]
 rw [h1,h2,h3,with_eq _ _ (by omega) (by omega)]
 unfold bothM
 cases a.f0 <;> cases b.f0 <;> simp
def noneM (a:S38):Bool:=!a.f0 && a.f1.isEmpty
theorem none_eq (a:S38):names_None.f a.f0 a.f1=some (noneM a):=by
 unfold names_None.f noneM
 cases a.f0 with
 | true=>rfl
 | false=>cases a.f1 <;> simp <;> omega
def apartN (a b:S38):Bool:=noneM (bothM a b)
end Go.Proofs.Ytoihiehoolehiaa.PX
set_option linter.unusedVariables false
set_option linter.unusedSimpArgs false
namespace Go.Proofs.Ytoihiehoolehiaa.PX
open Go.RowKit Go.Proofs.YtoihiehoolehiaaW.PrintWords Go.Proofs.YtoihiehoolehiaaW.PrintLast Go.Proofs.YtoihiehoolehiaaW.PrintMore Go.Proofs.Ytoihiehoolehiaa
def Srt (l:List ByteArray):Prop:=l.Pairwise fun x y=>tl x < tl y
theorem srt_nil:Srt []:=List.Pairwise.nil
theorem lt_of_not {a b:ByteArray} (h1:¬ tl a < tl b) (h2:a≠b):tl b < tl a:=by
 rcases Std.lt_trichotomy (tl a) (tl b) with h|h|h
 ·exact absurd h h1
 ·exact absurd (tl_inj h) h2
 ·exact h
theorem lt_tr {a b c:ByteArray} (h1:tl a < tl b) (h2:tl b < tl c):tl a < tl c:=List.lt_trans h1 h2
structure PutR (l:List ByteArray) (a:ByteArray) (r:List ByteArray):Prop where
 mem:∀ x,x ∈ r ↔ x=a∨x ∈ l
 srt:Srt l→Srt r
 len:r.length≤l.length+1
theorem put_ins {l:List ByteArray} {a:ByteArray} {i:Nat} (hi:i≤l.length) (h1:∀ j (h:j < l.length),j < i→tl l[j] < tl a) (h2:∀ h:i < l.length,tl a < tl l[i]):PutR l a (l.take i ++ [a] ++ l.drop i):=by
 refine ⟨fun x=>?_,fun hs=>?_,by simp;omega⟩
 ·rw [List.mem_append,List.mem_append,List.mem_singleton]
  have:x ∈ l ↔ x ∈ l.take i∨x ∈ l.drop i:=by
   conv=>lhs;rw [← List.take_append_drop i l]
   rw [List.mem_append]
  rw [this]
  constructor
  ·rintro ((h|h)|h)
   ·exact .inr (.inl h)
   ·exact .inl h
   ·exact .inr (.inr h)
  ·rintro (h|h|h)
   ·exact .inl (.inr h)
   ·exact .inl (.inl h)
   ·exact .inr h
 ·have hlow:∀ x ∈ l.take i,tl x < tl a:=fun x hx=>by
   obtain ⟨j,hj,rfl⟩:=List.mem_iff_getElem.1 hx
   rw [List.length_take] at hj
   rw [List.getElem_take]
   exact h1 j (by omega) (by omega)
  have hhigh:∀ x ∈ l.drop i,tl a < tl x:=fun x hx=>by
   obtain ⟨j,hj,rfl⟩:=List.mem_iff_getElem.1 hx
   rw [List.length_drop] at hj
   rw [List.getElem_drop]
   have h3:=h2 (by omega)
   by_cases h0:j=0
   ·subst h0;exact h3
   ·exact lt_tr h3 (List.pairwise_iff_getElem.1 hs i (i+j) (by omega) (by omega) (by omega))
  unfold Srt at hs ⊢
  rw [List.append_assoc,List.pairwise_append]
  refine ⟨hs.sublist (List.take_sublist _ _),?_,fun x hx y hy=>?_⟩
  ·rw [List.singleton_append,List.pairwise_cons]
   exact ⟨hhigh,hs.sublist (List.drop_sublist _ _)⟩
  ·rw [List.singleton_append] at hy
   rcases List.mem_cons.1 hy with rfl|hy
   ·exact hlow x hx
   ·exact lt_tr (hlow x hx) (hhigh y hy)
theorem put3_ev2 (l:List ByteArray) (a:ByteArray) (hl:l.length≤1000000000000):∃ r,PutR l a r∧Ev (fun k=>cadenceref3_put.f k l a) r:=by
 have loop:∀ d i,i+d=l.length→(∀ j (h:j < l.length),j < i→tl l[j] < tl a)→∃ r,PutR l a r∧Ev (fun k=>cadenceref3_put.l0 k l a (i:Int)) r:=by
  intro d
  induction d with
  | zero =>
   intro i hi hlow
   refine ⟨l.take i ++ [a] ++ l.drop i,put_ins (by omega) hlow (fun h=>by omega),Ev.step (f:=fun _=>some (l.take i ++ [a] ++ l.drop i)) (fun k=>?_) (Ev.now _)⟩
   rw [cadenceref3_put.l0,if_neg (by omega),if_pos (by omega),if_pos (by omega),Int.toNat_natCast]
   simp only [Option.bind_some,List.nil_append,List.length_nil,Nat.zero_add]
   rw [if_pos (by rw [List.length_take];omega),if_pos (by rw [List.length_take];omega),if_pos (by simp;omega)]
  | succ d ih =>
   intro i hi hlow
   have hil:i < l.length:=by omega
   by_cases hlt:Op.bytesLess l[i].toList a.toList=true
   ·obtain ⟨r,hr,he⟩:=ih (i+1) (by omega) (fun j h hj=>by
     by_cases e:j=i
     ·subst e;exact (less_iff _ _).1 hlt
     ·exact hlow j h (by omega))
    refine ⟨r,hr,Ev.step (fun k=>?_) he⟩
    rw [cadenceref3_put.l0,if_pos (by omega),if_pos (by omega),rdOf_nat hil,if_pos hlt,wrap_succ (by omega)]
   ·by_cases he:l[i].toList=a.toList
    ·have hla:l[i]=a:=tl_inj (by rw [← toList_tl,← toList_tl,he])
     refine ⟨l,⟨fun x=>⟨.inr,?_⟩,id,by omega⟩,Ev.step (f:=fun _=>some l) (fun k=>?_) (Ev.now _)⟩
     ·rintro (h|h)
      ·rw [h,← hla];exact List.getElem_mem hil
      ·exact h
     ·rw [cadenceref3_put.l0,if_pos (by omega),if_pos (by omega),rdOf_nat hil,if_neg hlt,if_pos he]
    ·refine ⟨l.take i ++ [a] ++ l.drop i,put_ins (by omega) hlow (fun h=>lt_of_not (fun h=>hlt ((less_iff _ _).2 h)) (fun h=>he (by rw [h]))),Ev.step (f:=fun _=>some (l.take i ++ [a] ++ l.drop i)) (fun k=>?_) (Ev.now _)⟩
     rw [cadenceref3_put.l0,if_pos (by omega),if_pos (by omega),rdOf_nat hil,if_neg hlt,if_neg he,if_pos (by omega),Int.toNat_natCast]
     simp only [Option.bind_some,List.nil_append,List.length_nil,Nat.zero_add]
     rw [if_pos (by rw [List.length_take];omega),if_pos (by rw [List.length_take];omega),if_pos (by simp;omega)]
 obtain ⟨r,hr,he⟩:=loop l.length 0 (by omega) (fun j h hj=>by omega)
 exact ⟨r,hr,he⟩
def isB (b:Bool) (l:List ByteArray) (x:ByteArray):Bool:=hasL l x != b
theorem pick_loop2 (all:List ByteArray) (a0:Bool) (la:List ByteArray) (b0:Bool) (lb:List ByteArray) (g:Bool) (hall:all.length≤1000000000) (hla:la.length≤1000000000) (hlb:lb.length≤1000000000) :
  ∀ d i (out:List ByteArray),i+d=all.length→out.length≤i→Srt out→(∀ x,x ∈ out ↔ x ∈ all.take i∧((isB a0 la x && isB b0 lb x) != g)=true) →
   ∃ r:Bool × List ByteArray,r.1=g∧r.2.length≤all.length∧Srt r.2∧(∀ x,x ∈ r.2 ↔ x ∈ all∧((isB a0 la x && isB b0 lb x) != g)=true)∧Ev (fun k=>cadenceref3_pick.l0 k all (i:Int) a0 la b0 lb g out) r:=by
 intro d
 induction d with
 | zero =>
  intro i out hi ho hs hm
  refine ⟨(g,out),rfl,by show out.length≤_;omega,hs,fun x=>by rw [hm x,List.take_of_length_le (by omega)],Ev.step (f:=fun _=>some (g,out)) (fun k=>?_) (Ev.now _)⟩
  rw [cadenceref3_pick.l0,if_neg (by omega)]
 | succ d ih =>
  intro i out hi ho hs hm
  have hil:i < all.length:=by omega
  have htk:∀ x,x ∈ all.take (i+1) ↔ x ∈ all.take i∨x=all[i]:=fun x=>by
   rw [List.take_succ_eq_append_getElem hil,List.mem_append,List.mem_singleton]
  have hj:∀ x:Bool,x=(isB a0 la all[i] && isB b0 lb all[i])→∃ r:Bool × List ByteArray,r.1=g∧r.2.length≤all.length∧Srt r.2∧(∀ x,x ∈ r.2 ↔ x ∈ all∧((isB a0 la x && isB b0 lb x) != g)=true)∧Ev (fun k=>cadenceref3_pick.j1 k all (i:Int) x a0 la b0 lb g out) r:=by
   intro x hxe
   by_cases hx:(x != g)=true
   ·obtain ⟨q,hq,K1,h1⟩:=put3_ev2 out all[i] (by omega)
    obtain ⟨r,h2,h3,h3',h3'',K2,h4⟩:=ih (i+1) q (by omega) (by have:=hq.len;omega) (hq.srt hs) (fun y=>by
     rw [hq.mem,hm,htk]
     constructor
     ·rintro (rfl|⟨h1,h2⟩)
      ·exact ⟨.inr rfl,by rw [← hxe];exact hx⟩
      ·exact ⟨.inl h1,h2⟩
     ·rintro ⟨h1|rfl,h2⟩
      ·exact .inr ⟨h1,h2⟩
      ·exact .inl rfl)
    refine ⟨r,h2,h3,h3',h3'',K1+K2+1,fun k hk=>?_⟩
    obtain ⟨k,rfl⟩:∃ k',k=k'+1:=⟨k - 1,by omega⟩
    have h1:cadenceref3_put.f k out all[i]=some q:=h1 k (by omega)
    have h4:cadenceref3_pick.l0 k all ((i+1:Nat):Int) a0 la b0 lb g q=some r:=h4 k (by omega)
    show cadenceref3_pick.j1 (k+1) all (i:Int) x a0 la b0 lb g out=some r
    rw [cadenceref3_pick.j1,if_pos hx,if_pos (by omega),if_pos (by omega),rdOf_nat hil,h1,Option.bind_some,wrap_succ (by omega),h4]
   ·obtain ⟨r,h2,h3,h3',h3'',h4⟩:=ih (i+1) out (by omega) (by omega) hs (fun y=>by
     rw [hm,htk]
     constructor
     ·rintro ⟨h1,h2⟩
      exact ⟨.inl h1,h2⟩
     ·rintro ⟨h1|rfl,h2⟩
      ·exact ⟨h1,h2⟩
      ·rw [← hxe] at h2
       exact absurd h2 hx)
    refine ⟨r,h2,h3,h3',h3'',Ev.step (fun k=>?_) h4⟩
    rw [cadenceref3_pick.j1,if_neg hx,wrap_succ (by omega)]
  obtain ⟨K1,h1⟩:=has3_ev a0 la all[i] (by omega)
  by_cases hA:(hasL la all[i] != a0)=true
  ·obtain ⟨K2,h2⟩:=has3_ev b0 lb all[i] (by omega)
   obtain ⟨r,h3,h4,h4',h4'',K3,h5⟩:=hj (hasL lb all[i] != b0) (by unfold isB;rw [hA,Bool.true_and])
   refine ⟨r,h3,h4,h4',h4'',K1+K2+K3+1,fun k hk=>?_⟩
   obtain ⟨k,rfl⟩:∃ k',k=k'+1:=⟨k - 1,by omega⟩
   have h1:cadenceref3_Has.f k a0 la all[i]=some _:=h1 k (by omega)
   have h2:cadenceref3_Has.f k b0 lb all[i]=some _:=h2 k (by omega)
   have h5:cadenceref3_pick.j1 k all (i:Int) (hasL lb all[i] != b0) a0 la b0 lb g out=some r:=h5 k (by omega)
   show cadenceref3_pick.l0 (k+1) all (i:Int) a0 la b0 lb g out=some r
   rw [cadenceref3_pick.l0,if_pos (by omega),if_pos (by omega),rdOf_nat hil,h1,Option.bind_some,if_pos hA,h2,Option.bind_some,h5]
  ·obtain ⟨r,h3,h4,h4',h4'',K3,h5⟩:=hj false (by unfold isB;rw [Bool.eq_false_iff.2 hA,Bool.false_and])
   refine ⟨r,h3,h4,h4',h4'',K1+K3+1,fun k hk=>?_⟩
   obtain ⟨k,rfl⟩:∃ k',k=k'+1:=⟨k - 1,by omega⟩
   have h1:cadenceref3_Has.f k a0 la all[i]=some _:=h1 k (by omega)
   have h5:cadenceref3_pick.j1 k all (i:Int) false a0 la b0 lb g out=some r:=h5 k (by omega)
   show cadenceref3_pick.l0 (k+1) all (i:Int) a0 la b0 lb g out=some r
   rw [cadenceref3_pick.l0,if_pos (by omega),if_pos (by omega),rdOf_nat hil,h1,Option.bind_some,if_neg hA,h5]
structure BothR (a0:Bool) (la:List ByteArray) (b0:Bool) (lb:List ByteArray) (r:Bool × List ByteArray):Prop where
 all:r.1=(a0 && b0)
 len:r.2.length≤la.length+lb.length
 srt:Srt r.2
 mem:∀ x,x ∈ r.2 ↔ (x ∈ la∨x ∈ lb)∧((isB a0 la x && isB b0 lb x) != (a0 && b0))=true
theorem hasL_mem {l:List ByteArray} {x:ByteArray} : hasL l x=true ↔ x ∈ l:=hasL_iff l x
theorem isB_out {b:Bool} {l:List ByteArray} {x:ByteArray} (h:x ∉ l):isB b l x=b:=by
 unfold isB
 have:hasL l x=false:=by
  cases e:hasL l x with
  | false=>rfl
  | true=>exact absurd (hasL_mem.1 e) h
 rw [this]
 cases b <;> rfl
theorem isB_in {b:Bool} {l:List ByteArray} {x:ByteArray} (h:x ∈ l):isB b l x = !b:=by
 unfold isB
 rw [hasL_mem.2 h]
 cases b <;> rfl
theorem BothR.is {a0:Bool} {la:List ByteArray} {b0:Bool} {lb:List ByteArray} {r:Bool × List ByteArray} (h:BothR a0 la b0 lb r) (x:ByteArray):isB r.1 r.2 x=(isB a0 la x && isB b0 lb x):=by
 by_cases hx:x ∈ r.2
 ·rw [isB_in hx,h.all]
  have:=((h.mem x).1 hx).2
  revert this
  cases (isB a0 la x && isB b0 lb x) <;> cases (a0 && b0) <;> simp
 ·rw [isB_out hx,h.all]
  by_cases hm:x ∈ la∨x ∈ lb
  ·have:¬ ((isB a0 la x && isB b0 lb x) != (a0 && b0))=true:=fun h2=>hx ((h.mem x).2 ⟨hm,h2⟩)
   revert this
   cases (isB a0 la x && isB b0 lb x) <;> cases (a0 && b0) <;> simp
  ·rw [isB_out (fun h=>hm (.inl h)),isB_out (fun h=>hm (.inr h))]
theorem both3_ev2 (a0:Bool) (la:List ByteArray) (b0:Bool) (lb:List ByteArray) (hla:la.length≤1000000) (hlb:lb.length≤1000000) :
  ∃ r:Bool × List ByteArray,BothR a0 la b0 lb r∧Ev (fun k=>cadenceref3_Both.f k a0 la b0 lb) r:=by
 have hl:(la ++ lb).length=la.length+lb.length:=List.length_append
 have hg:(if a0=true then b0 else false)=(a0 && b0):=by cases a0 <;> rfl
 obtain ⟨r,h1,h2,h2',h2'',K,h3⟩:=pick_loop2 (la ++ lb) a0 la b0 lb (if a0=true then b0 else false) (by omega) (by omega) (by omega) _ 0 [] (Nat.zero_add _) (Nat.le_refl _) srt_nil (fun x=>by simp)
 refine ⟨r,⟨by rw [h1,hg],by omega,h2',fun x=>by rw [h2'',List.mem_append,hg]⟩,K,fun k hk=>?_⟩
 have h3:cadenceref3_pick.l0 k (la ++ lb) 0 a0 la b0 lb (if a0=true then b0 else false) []=some r:=h3 k hk
 show cadenceref3_Both.f k a0 la b0 lb=some r
 rw [cadenceref3_Both.f,cadenceref3_pick.f,if_pos rfl]
 simp only [Option.bind_some,List.nil_append,List.length_nil,Nat.zero_add]
 cases a0 with
 | true =>
  rw [if_pos rfl] at h3
  rw [if_pos rfl,if_pos (by omega),if_pos (by omega),h3]
  rfl
 | false =>
  rw [if_neg Bool.false_ne_true] at h3
  rw [if_neg Bool.false_ne_true,if_pos (by omega),if_pos (by omega),h3]
  rfl
structure NotR (a0:Bool) (la:List ByteArray) (r:Bool × List ByteArray):Prop where
 all:r.1 = !a0
 len:r.2.length≤la.length
 mem:∀ x,x ∈ r.2 ↔ x ∈ la
theorem NotR.is {a0:Bool} {la:List ByteArray} {r:Bool × List ByteArray} (h:NotR a0 la r) (x:ByteArray):isB r.1 r.2 x = !isB a0 la x:=by
 by_cases hx:x ∈ la
 ·rw [isB_in ((h.mem x).2 hx),isB_in hx,h.all]
 ·rw [isB_out (fun h'=>hx ((h.mem x).1 h')),isB_out hx,h.all]
theorem not3_ev2 (a0:Bool) (la:List ByteArray) (hla:la.length≤1000000):∃ r:Bool × List ByteArray,NotR a0 la r∧Ev (fun k=>cadenceref3_Not.f k a0 la) r:=by
 have loop:∀ d i (out:List ByteArray),i+d=la.length→out.length≤i→(∀ x,x ∈ out ↔ x ∈ la.take i)→∃ r:Bool × List ByteArray,NotR a0 la r∧Ev (fun k=>cadenceref3_Not.l0 k (i:Int) a0 la (!a0) out) r:=by
  intro d
  induction d with
  | zero =>
   intro i out hi ho hm
   refine ⟨(!a0,out),⟨rfl,by show out.length≤_;omega,fun x=>by rw [hm x,List.take_of_length_le (by omega)]⟩,Ev.step (f:=fun _=>some (!a0,out)) (fun k=>?_) (Ev.now _)⟩
   rw [cadenceref3_Not.l0,if_neg (by omega)]
  | succ d ih =>
   intro i out hi ho hm
   have hil:i < la.length:=by omega
   obtain ⟨q,hq,h1⟩:=put3_ev2 out la[i] (by omega)
   obtain ⟨r,h2,h3⟩:=ih (i+1) q (by omega) (by have:=hq.len;omega) (fun x=>by
    rw [hq.mem,hm,List.take_succ_eq_append_getElem hil,List.mem_append,List.mem_singleton]
    exact Or.comm)
   refine ⟨r,h2,Ev.step (f:=fun k=>(cadenceref3_put.f k out la[i]).bind fun t=>cadenceref3_Not.l0 k ((i+1:Nat):Int) a0 la (!a0) t) (fun k=>?_) (Ev.bind h1 h3)⟩
   rw [cadenceref3_Not.l0,if_pos (by omega),if_pos (by omega),rdOf_nat hil,wrap_succ (by omega)]
 obtain ⟨r,h1,h2⟩:=loop _ 0 [] (Nat.zero_add _) (Nat.le_refl _) (fun x=>by simp)
 exact ⟨r,h1,h2⟩
theorem make3_ev2 (b:Bool) (l:List ByteArray) (hl:l.length≤1000000):∃ r:Bool × List ByteArray,r.1=b∧r.2.length≤6∧(∀ x ∈ r.2,x ∈ five)∧Ev (fun k=>cadencelaw3_Make.f k b l) r:=by
 have stop:∀ i (out:List ByteArray),out.length≤i→i≤6→(∀ x ∈ out,x ∈ five)→(l.length≤i∨6≤i)→∃ r:Bool × List ByteArray,r.1=b∧r.2.length≤6∧(∀ x ∈ r.2,x ∈ five)∧Ev (fun k=>cadencelaw3_Make.l0 k (i:Int) b l b out) r:=by
  intro i out ho h6 hf hi
  refine ⟨(b,out),rfl,by show out.length≤_;omega,hf,Ev.step (f:=fun _=>some (b,out)) (fun k=>?_) (Ev.now _)⟩
  rw [cadencelaw3_Make.l0]
  by_cases h:i < l.length
  ·rw [if_pos (by omega),if_neg (by omega)]
  ·rw [if_neg (by omega)]
 have loop:∀ d i (out:List ByteArray),i+d=6→out.length≤i→(∀ x ∈ out,x ∈ five)→∃ r:Bool × List ByteArray,r.1=b∧r.2.length≤6∧(∀ x ∈ r.2,x ∈ five)∧Ev (fun k=>cadencelaw3_Make.l0 k (i:Int) b l b out) r:=by
  intro d
  induction d with
  | zero=>intro i out hi ho hf;exact stop i out ho (by omega) hf (.inr (by omega))
  | succ d ih =>
   intro i out hi ho hf
   by_cases hil:i < l.length
   ·obtain ⟨t,t0,t1,ht⟩:=within3 (l[i].size:Int)
    have hin:rdOf ByteArray.empty five t ∈ five:=by
     obtain ⟨n,rfl⟩:∃ n:Nat,t=n:=⟨t.toNat,by omega⟩
     rw [rdOf_nat (by simp [five];omega)]
     exact List.getElem_mem _
    obtain ⟨r,h0,h1,h1',h2⟩:=ih (i+1) (out ++ [rdOf ByteArray.empty five t]) (by omega) (by simp;omega) (fun x hx=>by
     rcases List.mem_append.1 hx with hx|hx
     ·exact hf x hx
     ·rw [List.mem_singleton.1 hx];exact hin)
    refine ⟨r,h0,h1,h1',Ev.step (fun k=>?_) h2⟩
    rw [cadencelaw3_Make.l0,if_pos (by omega),if_pos (by omega),Option.bind_some,if_pos (by omega),rdOf_nat hil,ht,Option.bind_some,if_pos t0,if_pos (by simp;omega),if_pos (by omega),wrap_succ (by omega)]
    rfl
   ·exact stop i out ho (by omega) hf (.inl (by omega))
 obtain ⟨r,h0,h1,h1',h2⟩:=loop _ 0 [] (Nat.zero_add _) (Nat.le_refl _) (fun x hx=>by cases hx)
 exact ⟨r,h0,h1,h1',h2⟩
theorem bothM_is (a b:S38) (x:ByteArray):isB (bothM a b).f0 (bothM a b).f1 x=(isB a.f0 a.f1 x && isB b.f0 b.f1 x):=by
 have e:∀ l:List ByteArray,∀ x,(x ∈ l)=(hasL l x=true):=fun l x=>propext hasL_mem.symm
 unfold isB bothM
 cases ha:a.f0 <;> cases hb:b.f0 <;> simp only [Bool.false_eq_true,if_false,if_true,setB_has] <;> rw [Bool.eq_iff_iff]
 all_goals simp only [bne_iff_ne,ne_eq,Bool.and_eq_true,Bool.not_eq_true,Bool.not_eq_false]
 ·rw [hasL_mem,List.mem_filter,setB_mem,e a.f1 x]
  cases hasL a.f1 x <;> cases hasL b.f1 x <;> simp
 ·rw [hasL_mem,List.mem_filter,setB_mem,e a.f1 x]
  cases hasL a.f1 x <;> cases hasL b.f1 x <;> simp
 ·rw [hasL_mem,List.mem_filter,setB_mem,e b.f1 x]
  cases hasL a.f1 x <;> cases hasL b.f1 x <;> simp
 ·rw [← Bool.not_eq_true,hasL_mem,List.mem_append,setB_mem,setB_mem,e a.f1 x,e b.f1 x]
  cases hasL a.f1 x <;> cases hasL b.f1 x <;> simp
theorem none_iff (b:Bool) (l:List ByteArray):(!b && l.isEmpty)=true ↔ ∀ x,isB b l x=false:=by
 cases b with
 | false =>
  simp only [Bool.not_false,Bool.true_and]
  constructor
  ·intro h x
   rw [List.isEmpty_iff.1 h]
   exact isB_out (by simp)
  ·intro h
   cases l with
   | nil=>rfl
   | cons y l =>
    have:=h y
    rw [isB_in (by simp)] at this
    cases this
 | true =>
  simp only [Bool.not_true,Bool.false_and,Bool.false_eq_true,false_iff]
  intro h
  have hx:∃ x:ByteArray,x ∉ l:=by
   have key:∀ l:List ByteArray,∃ n,∀ y ∈ l,(tl y).length < n:=by
    intro l
    induction l with
    | nil=>exact ⟨0,by simp⟩
    | cons y l ih =>
     obtain ⟨n,hn⟩:=ih
     refine ⟨max n ((tl y).length+1),fun z hz=>?_⟩
     rcases List.mem_cons.1 hz with rfl|hz
     ·omega
     ·have:=hn z hz;omega
   obtain ⟨n,hn⟩:=key l
   refine ⟨ba (List.replicate n 0),fun hm=>?_⟩
   have:=hn _ hm
   rw [tl_ba,List.length_replicate] at this
   omega
  obtain ⟨x,hx⟩:=hx
  have:=h x
  rw [isB_out hx] at this
  cases this
theorem apartN_iff (a b:S38):apartN a b=true ↔ ∀ x,(isB a.f0 a.f1 x && isB b.f0 b.f1 x)=false:=by
 unfold apartN noneM
 rw [none_iff]
 exact ⟨fun h x=>by rw [← bothM_is];exact h x,fun h x=>by rw [bothM_is];exact h x⟩
theorem BothR.none {a b:S38} {r:Bool × List ByteArray} (h:BothR a.f0 a.f1 b.f0 b.f1 r):(!r.1 && r.2.isEmpty)=apartN a b:=by
 rw [Bool.eq_iff_iff,none_iff,apartN_iff]
 exact ⟨fun h2 x=>by rw [← h.is];exact h2 x,fun h2 x=>by rw [h.is];exact h2 x⟩
end Go.Proofs.Ytoihiehoolehiaa.PX
set_option linter.unusedVariables false
set_option linter.unusedSimpArgs false
namespace Go.Proofs.Ytoihiehoolehiaa.PX
open Go.RowKit Go.Proofs.YtoihiehoolehiaaW.PrintWords Go.Proofs.YtoihiehoolehiaaW.PrintLast Go.Proofs.YtoihiehoolehiaaW.PrintMore Go.Proofs.Ytoihiehoolehiaa Go.Shelf
theorem firstS (g:Nat) (lb:Array Value) (eg:∀ args w,(callFunc g args).run Try.prog w=.ok (.enter g args) w) (A:Option Addr) (c:Nat) (l:List ByteArray) (p:Nat→Bool) (w:World) (hC:Kd.C Kd.string w A l.length l) (hl:l.length≤1000000000000)
  (hp:∀ i (h:i < l.length) (W:World),Below w.heap.size w W→Calls Try.prog g (#[.string l[i]] ++ lb) W fun e w'=>e=.returned (.bool (p i))∧Below W.heap.size W w') :
  Calls Try.prog 50 #[.slice A l.length c,.func (.func g) #[] lb] w fun e w'=>e=.returned (.int .i64 (idxN p l.length))∧Below w.heap.size w w':=by
 have hc:=idxS g lb eg A c l p w hC hl hp
 clear hC hp
 generalize l.length=n at hc hl ⊢
 generalize idxN p n=r at hc ⊢
 go_enter Try.func50,Try.ntmps50
 go_wp2_with (go_at_call 64;refine hc.mono ?_;rintro e w' ⟨rfl,hb'⟩)
 go_ret
 exact ⟨rfl,hb'⟩
end Go.Proofs.Ytoihiehoolehiaa.PX
set_option linter.unusedVariables false
set_option linter.unusedSimpArgs false
namespace Go.Proofs.Ytoihiehoolehiaa.PX
open Go.RowKit Go.Proofs.YtoihiehoolehiaaW.PrintWords Go.Proofs.YtoihiehoolehiaaW.PrintLast Go.Proofs.YtoihiehoolehiaaW.PrintMore Go.Proofs.Ytoihiehoolehiaa Go.Shelf
def fieldM (n:Nat) (ahead:List S40) (f:S40):Int :=
 if 20 < f.f0.f1.length then 4
 else if (f.f0.f1.any fun x=>decide (80 < x.size))=true then 5
 else if f.f1 < 0∨(n:Int)≤f.f1 then 1
 else if (f.f2 && f.f0.f0)=true then 3
 else if (ahead.any fun o=>!apartN o.f0 f.f0)=true then 7 else 0
theorem idx_any {α:Type} (l:List α) (q:α→Bool):decide (0≤idxN (fun i=>(l[i]?).elim false q) l.length)=l.any q:=anyN_list l q
set_option maxHeartbeats 4000000 in
set_option maxRecDepth 100000 in
theorem long_pred (x:ByteArray) (W:World) :
  Calls Try.prog 46 #[.string x] W fun e w'=>e=.returned (.bool (decide (80 < x.size)))∧Below W.heap.size W w':=by
 go_enter Try.func46,Try.ntmps46
 go_wp2
 go_ret
 refine ⟨?_,Below.refl _ _⟩
 rw [← show decide (80 < (x.size:Int))=decide (80 < x.size) by rw [decide_eq_decide];omega]
 rfl
set_option maxHeartbeats 4000000 in
set_option maxRecDepth 100000 in
theorem twice_pred (B:Nat) (o f:S40) (A1 A2:Option Addr) (c1 c2:Nat) (W:World) (hB0:W.cell? ⟨B,0,none⟩=some (.bool f.f0.f0)) (hB1:W.cell? ⟨B,1,none⟩=some (.slice A2 f.f0.f1.length c2)) (hC2:Kd.C Kd.string W A2 f.f0.f1.length f.f0.f1) (hc2:f.f0.f1.length≤c2) (hC:Kd.C Kd.string W A1 o.f0.f1.length o.f0.f1) (hc:o.f0.f1.length≤c1) (hl:o.f0.f1.length≤1000000000) (hl2:f.f0.f1.length≤1000000000) :
  Calls Try.prog 47 #[.agg #[.bool o.f0.f0,.slice A1 o.f0.f1.length c1,.int .i64 o.f1,.bool o.f2],.pointer (some ⟨B,0,none⟩)] W fun e w'=>e=.returned (.bool (!apartN o.f0 f.f0))∧Below W.heap.size W w':=by
 obtain ⟨k,hk⟩:=Ev.both (both_ev o.f0 f.f0 hl hl2)
 change names_Both.f k o.f0.f0 o.f0.f1 f.f0.f0 f.f0.f1=some _ at hk
 have hu:=Try.underlying40
 have hu2:=Try.underlying38
 have q0:=Lib.cell?_alloc_some (.cells #[.bool o.f0.f0,.slice A1 o.f0.f1.length c1,.int .i64 o.f1,.bool o.f2] 40) hB0
 have q1:=Lib.cell?_alloc_some (.cells #[.bool o.f0.f0,.slice A1 o.f0.f1.length c1,.int .i64 o.f1,.bool o.f2] 40) hB1
 have hcall:=names_Both.calls k o.f0.f0 A1 c1 o.f0.f1 f.f0.f0 A2 c2 f.f0.f1 _ _ (W.alloc (.cells #[.bool o.f0.f0,.slice A1 o.f0.f1.length c1,.int .i64 o.f1,.bool o.f2] 40)) (Kd.C_alloc hC _) hc (Kd.C_alloc hC2 _) hc2 hk
 have hn:=none_eq (bothM o.f0 f.f0)
 have HN:Az (∀ (v1_:Value) (w':World),Kd.R Kd.string 9 w' (W.alloc (.cells #[.bool o.f0.f0,.slice A1 o.f0.f1.length c1,.int .i64 o.f1,.bool o.f2] 40)).heap.size (fun _=>True) v1_ (bothM o.f0 f.f0).f1→Calls Try.prog 48 #[.agg #[.bool (bothM o.f0 f.f0).f0,v1_]] w' fun e w''=>e=.returned (.bool (apartN o.f0 f.f0))∧Below w'.heap.size w' w''):=⟨fun v1_ w' hR=>by
  obtain ⟨A,c,rfl⟩:=Kd.R_slice hR
  obtain ⟨_,hcc,hRC⟩:=Kd.R_reads' hR
  exact (names_None.calls _ A c _ _ w' hRC hcc hn).mono fun e w'' h=>⟨h.1,h.2⟩⟩
 generalize apartN o.f0 f.f0=r at HN ⊢
 generalize bothM o.f0 f.f0=q at hcall HN
 clear hk hC hC2 hB0 hB1 hn
 generalize o.f0.f0=y0 at *
 generalize o.f0.f1.length=m at *
 generalize o.f1=y1 at *
 generalize o.f2=y2 at *
 generalize f.f0.f0=z0 at *
 generalize f.f0.f1.length=m2 at *
 go_enter Try.func47,Try.ntmps47
 go_wp2_with (first
  | (go_at_call 49;go_loud (refine hcall.mono ?_;rintro e w' ⟨v1_,rfl,hR,hb'⟩;have hN:=HN.out v1_ w' hR))
  | (go_at_call 48;go_loud (refine hN.mono ?_;rintro e w'' ⟨rfl,hb''⟩)))
 go_ret
 exact ⟨rfl,below_then (below_then (below_alloc (Below.refl _ _) _) (by simp) hb') (Nat.le_trans (by simp) hb'.size) hb''⟩
def FieldOk (f:S40):Prop:=f.f0.f1.length≤1000000000
instance (f:S40):Decidable (FieldOk f):=by unfold FieldOk;exact inferInstance
set_option maxHeartbeats 16000000 in
set_option maxRecDepth 100000 in
theorem field_calls (A0:Option Addr) (c0 n:Nat) (A1:Option Addr) (c1:Nat) (l1:List S40) (f:S40) (A2:Option Addr) (c2:Nat) (w:World) (hr1:Kd.C k40 w A1 l1.length l1) (hc1:l1.length≤c1) (hr2:Kd.C Kd.string w A2 f.f0.f1.length f.f0.f1) (hc2:f.f0.f1.length≤c2) (hl1:l1.length≤1000000000000) (hok:FieldOk f) (hoks:∀ o ∈ l1,FieldOk o) :
  Calls Try.prog 27 #[.slice A0 n c0,.slice A1 l1.length c1,.agg #[.bool f.f0.f0,.slice A2 f.f0.f1.length c2,.int .i64 f.f1,.bool f.f2]] w fun e w'=>e=.returned (.int .i64 (fieldM n l1 f))∧Below w.heap.size w w':=by
 have eg:∀ args w,(callFunc 46 args).run Try.prog w=.ok (.enter 46 args) w:=enters_of Try.func46 (by kernel_rfl) rfl
 have eg2:∀ args w,(callFunc 47 args).run Try.prog w=.ok (.enter 47 args) w:=enters_of Try.func47 (by kernel_rfl) rfl
 unfold FieldOk at hok
 obtain ⟨r1,er1⟩:∃ r1,idxN (fun i=>(f.f0.f1[i]?).elim false fun x=>decide (80 < x.size)) f.f0.f1.length=r1:=⟨_,rfl⟩
 obtain ⟨r2,er2⟩:∃ r2,idxN (fun i=>(l1[i]?).elim false fun o=>!apartN o.f0 f.f0) l1.length=r2:=⟨_,rfl⟩
 have e1:=idx_any f.f0.f1 fun x=>decide (80 < x.size)
 have e2:=idx_any l1 fun o=>!apartN o.f0 f.f0
 rw [er1] at e1
 rw [er2] at e2
 have HS:Az (∀ W,Below w.heap.size w W→W.cell? ⟨w.heap.size,0,none⟩=some (.bool f.f0.f0)→W.cell? ⟨w.heap.size,1,none⟩=some (.slice A2 f.f0.f1.length c2)→W.cell? ⟨w.heap.size,2,none⟩=some (.int .i64 f.f1)→W.cell? ⟨w.heap.size,3,none⟩=some (.bool f.f2)→Calls Try.prog 50 #[.slice A2 f.f0.f1.length c2,.func (.func 46) #[] #[]] W fun e w'=>e=.returned (.int .i64 r1)∧Below W.heap.size W w'∧w'.cell? ⟨w.heap.size,0,none⟩=some (.bool f.f0.f0)∧w'.cell? ⟨w.heap.size,1,none⟩=some (.slice A2 f.f0.f1.length c2)∧w'.cell? ⟨w.heap.size,2,none⟩=some (.int .i64 f.f1)∧w'.cell? ⟨w.heap.size,3,none⟩=some (.bool f.f2)):=⟨fun W hW q0 q1 q2 q3=>by
  have:=firstS 46 #[] eg A2 c2 f.f0.f1 (fun i=>(f.f0.f1[i]?).elim false fun x=>decide (80 < x.size)) W (Kd.C_below hr2 hW) (by omega) (fun i hi W' hW'=>by
   have:=long_pred (f.f0.f1[i]) W'
   rw [List.getElem?_eq_getElem hi]
   exact this)
  rw [er1] at this
  exact this.mono fun e w' h=>⟨h.1,h.2,(h.2.cell (World.block_lt_of_cell? _ _ q0)).trans q0,(h.2.cell (World.block_lt_of_cell? _ _ q1)).trans q1,(h.2.cell (World.block_lt_of_cell? _ _ q2)).trans q2,(h.2.cell (World.block_lt_of_cell? _ _ q3)).trans q3⟩⟩
 have HF:Az (∀ W,Below w.heap.size w W→W.cell? ⟨w.heap.size,0,none⟩=some (.bool f.f0.f0)→W.cell? ⟨w.heap.size,1,none⟩=some (.slice A2 f.f0.f1.length c2)→Calls Try.prog 39 #[.slice A1 l1.length c1,.func (.func 47) #[] #[.pointer (some ⟨w.heap.size,0,none⟩)]] W fun e w'=>e=.returned (.int .i64 r2)∧Below W.heap.size W w'):=⟨fun W hW q0 q1=>by
  have:=firstF 47 #[.pointer (some ⟨w.heap.size,0,none⟩)] eg2 A1 c1 l1 (fun i=>(l1[i]?).elim false fun o=>!apartN o.f0 f.f0) W (Kd.C_below hr1 hW) hl1
   (fun i hi W' B1 c3 hW' hC hc=>by
    have h0:=(hW'.cell (World.block_lt_of_cell? _ _ q0)).trans q0
    have h1:=(hW'.cell (World.block_lt_of_cell? _ _ q1)).trans q1
    have:=twice_pred w.heap.size (l1[i]) f B1 A2 c3 c2 W' h0 h1 (Kd.C_below (Kd.C_below hr2 hW) hW') hc2 (Kd.C_below hC hW') hc (hoks _ (List.getElem_mem hi)) hok
    rw [List.getElem?_eq_getElem hi]
    exact this)
  rw [er2] at this
  exact this⟩
 unfold fieldM
 clear hr1 hr2 hok hoks eg eg2 er1 er2 hl1 hc1 hc2
 generalize (f.f0.f1.any fun x=>decide (80 < x.size))=b1 at e1 ⊢
 generalize (l1.any fun o=>!apartN o.f0 f.f0)=b2 at e2 ⊢
 generalize f.f0.f0=y0 at *
 generalize f.f0.f1.length=m at *
 generalize f.f1=y1 at *
 generalize f.f2=y2 at *
 generalize l1.length=n1 at *
 have hu:=Try.underlying40
 have hu2:=Try.underlying38
 by_cases g1:20 < m
 ·rw [if_pos g1]
  go_enter Try.func27,Try.ntmps27
  go_wp2
  go_ret
  exact ⟨rfl,below_alloc (Below.refl _ _) _⟩
 rw [if_neg g1]
 cases b1 with
 | true =>
  have e1:0≤r1:=of_decide_eq_true e1
  rw [if_pos rfl]
  go_enter Try.func27,Try.ntmps27
  go_wp2_with (go_at_call 50;go_loud (refine (HS.out _ ?s0 ?s1 ?s2 ?s3 ?s4).mono ?_;(case s0=>exact below_alloc (Below.refl _ _) _);(case s1=>exact cell_new _ _ _ _ _ rfl rfl);(case s2=>exact cell_new _ _ _ _ _ rfl rfl);(case s3=>exact cell_new _ _ _ _ _ rfl rfl);(case s4=>exact cell_new _ _ _ _ _ rfl rfl);rintro e w' ⟨rfl,hb',z0,z1,z2,z3⟩))
  go_ret
  exact ⟨rfl,below_then (below_alloc (Below.refl _ _) _) (by simp) hb'⟩
 | false =>
 have e1:¬ 0≤r1:=of_decide_eq_false e1
 rw [if_neg (by simp)]
 by_cases g2:y1 < 0
 ·rw [if_pos (.inl g2)]
  go_enter Try.func27,Try.ntmps27
  go_wp2_with (go_at_call 50;go_loud (refine (HS.out _ ?s0 ?s1 ?s2 ?s3 ?s4).mono ?_;(case s0=>exact below_alloc (Below.refl _ _) _);(case s1=>exact cell_new _ _ _ _ _ rfl rfl);(case s2=>exact cell_new _ _ _ _ _ rfl rfl);(case s3=>exact cell_new _ _ _ _ _ rfl rfl);(case s4=>exact cell_new _ _ _ _ _ rfl rfl);rintro e w' ⟨rfl,hb',z0,z1,z2,z3⟩))
  go_ret
  exact ⟨rfl,below_then (below_alloc (Below.refl _ _) _) (by simp) hb'⟩
 by_cases g3:(n:Int)≤y1
 ·rw [if_pos (.inr g3)]
  go_enter Try.func27,Try.ntmps27
  go_wp2_with (go_at_call 50;go_loud (refine (HS.out _ ?s0 ?s1 ?s2 ?s3 ?s4).mono ?_;(case s0=>exact below_alloc (Below.refl _ _) _);(case s1=>exact cell_new _ _ _ _ _ rfl rfl);(case s2=>exact cell_new _ _ _ _ _ rfl rfl);(case s3=>exact cell_new _ _ _ _ _ rfl rfl);(case s4=>exact cell_new _ _ _ _ _ rfl rfl);rintro e w' ⟨rfl,hb',z0,z1,z2,z3⟩))
  go_ret
  exact ⟨rfl,below_then (below_alloc (Below.refl _ _) _) (by simp) hb'⟩
 rw [if_neg (by omega)]
 cases b2 with
 | true =>
  have e2:0≤r2:=of_decide_eq_true e2
  cases y2 <;> cases y0 <;> (
   go_enter Try.func27,Try.ntmps27
   go_wp2_with (first
    | (go_at_call 50;refine (HS.out _ ?s0 ?s1 ?s2 ?s3 ?s4).mono ?_;(case s0=>exact below_alloc (Below.refl _ _) _);(case s1=>exact cell_new _ _ _ _ _ rfl rfl);(case s2=>exact cell_new _ _ _ _ _ rfl rfl);(case s3=>exact cell_new _ _ _ _ _ rfl rfl);(case s4=>exact cell_new _ _ _ _ _ rfl rfl);rintro e w' ⟨rfl,hb',z0,z1,z2,z3⟩)
    | (go_at_call 39;refine (HF.out _ (below_then (below_alloc (Below.refl _ _) _) (by simp) hb') z0 z1).mono ?_;rintro e w'' ⟨rfl,hb''⟩))
   go_ret
   first
    | exact ⟨rfl,below_then (below_alloc (Below.refl _ _) _) (by simp) hb'⟩
    | exact ⟨rfl,below_then (below_then (below_alloc (Below.refl _ _) _) (by simp) hb') (Nat.le_trans (by simp) hb'.size) hb''⟩)
 | false =>
  have e2:¬ 0≤r2:=of_decide_eq_false e2
  cases y2 <;> cases y0 <;> (
   go_enter Try.func27,Try.ntmps27
   go_wp2_with (first
    | (go_at_call 50;refine (HS.out _ ?s0 ?s1 ?s2 ?s3 ?s4).mono ?_;(case s0=>exact below_alloc (Below.refl _ _) _);(case s1=>exact cell_new _ _ _ _ _ rfl rfl);(case s2=>exact cell_new _ _ _ _ _ rfl rfl);(case s3=>exact cell_new _ _ _ _ _ rfl rfl);(case s4=>exact cell_new _ _ _ _ _ rfl rfl);rintro e w' ⟨rfl,hb',z0,z1,z2,z3⟩)
    | (go_at_call 39;refine (HF.out _ (below_then (below_alloc (Below.refl _ _) _) (by simp) hb') z0 z1).mono ?_;rintro e w'' ⟨rfl,hb''⟩))
   go_ret
   first
    | exact ⟨rfl,below_then (below_alloc (Below.refl _ _) _) (by simp) hb'⟩
    | exact ⟨rfl,below_then (below_then (below_alloc (Below.refl _ _) _) (by simp) hb') (Nat.le_trans (by simp) hb'.size) hb''⟩)
def schema_field.f (l0:Sc) (l1:List S40) (a2_0:Bool) (l2_1:List ByteArray) (a2_2:Int) (a2_3:Bool):Option Int:=if l1.length≤1000000000000∧l2_1.length≤1000000000∧(∀ o ∈ l1,FieldOk o) then some (fieldM l0.length l1 ⟨⟨a2_0,l2_1⟩,a2_2,a2_3⟩) else none
theorem schema_field.calls (A0:Option Addr) (c0:Nat) (l0:List S33) (A1:Option Addr) (c1:Nat) (l1:List S40) (a2_0:Bool) (A2_1:Option Addr) (c2_1:Nat) (l2_1:List ByteArray) (a2_2:Int) (a2_3:Bool) (r:Int) (w:World) (hr0:Kd.C k33 w A0 l0.length l0) (hc0:l0.length≤c0) (hr1:Kd.C k40 w A1 l1.length l1) (hc1:l1.length≤c1) (hr2_1:Kd.C Kd.string w A2_1 l2_1.length l2_1) (hc2_1:l2_1.length≤c2_1) (h:schema_field.f l0 l1 a2_0 l2_1 a2_2 a2_3=some r) :
  Calls Try.prog 27 #[.slice A0 l0.length c0,.slice A1 l1.length c1,.agg #[.bool a2_0,.slice A2_1 l2_1.length c2_1,.int .i64 a2_2,.bool a2_3]] w fun e w'=>e=.returned (.int .i64 r)∧Below w.heap.size w w':=by
 unfold schema_field.f at h
 split at h
 case isFalse=>cases h
 rename_i hok
 obtain rfl:=Option.some.inj h
 exact field_calls A0 c0 l0.length A1 c1 l1 ⟨⟨a2_0,l2_1⟩,a2_2,a2_3⟩ A2_1 c2_1 w hr1 hc1 hr2_1 hc2_1 hok.1 hok.2.1 hok.2.2
end Go.Proofs.Ytoihiehoolehiaa.PX
