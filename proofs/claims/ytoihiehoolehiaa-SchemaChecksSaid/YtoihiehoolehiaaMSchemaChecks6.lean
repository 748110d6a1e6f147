/-
  The statement of 'SchemaChecks': the Go function returns true at every input, and its arguments read as before.
  Conditions: none.
-/
import Derived.Test.YtoihiehoolehiaaMSchemaChecks5
import Derived.WalkKit
import Derived.Orders
import Derived.KernelRfl
import Derived.Test.YtoihiehoolehiaaRows
import Derived.ProofKit
import Derived.OpenShut
import Derived.ShutString
import Derived.ChangeOld
import Derived.Below
import Derived.SizedLaws
set_option linter.unusedVariables false
set_option linter.unusedSimpArgs false
namespace Go.Proofs.Ytoihiehoolehiaa.Bk.Vc
open Go.RowKit
inductive Fact where
 | is (v:Value)
 | fits (F:Nat→Value→World→Prop)
def Fact.holds:Fact→Nat→Value→World→Prop
 | .is v,_,u,_=>u=v
 | .fits F,k,u,w=>F k u w
structure Frames where
 Le:World→World→Prop
 LeC:Nat→World→World→Prop
 G:Nat→World→Prop
 chain:List Nat
def Fact.stable (Φ:Frames):Fact→Prop
 | .is _=>True
 | .fits F=>(∀ k u w w',Φ.G k w→Φ.Le w w'→F k u w→F k u w')∧(∀ k u w w',Φ.G k w→Φ.LeC k w w'→Φ.G (k+1) w'→F k u w→F (k+1) u w')
abbrev Done:=List (Option Nat × Fact)
def lk:Done→Nat→Option Fact
 | [],_=>none
 | (some d,f) :: r,t=>if d=t then some f else lk r t
 | (none,_) :: r,t=>lk r t
def factOf (done:Done) (a:Act):Operand→Fact
 | .tmp t=>match lk done t with|some f=>f|none=>.is (a.tmps.getD t undef)
 | .const v=>.is v
 | .global g=>.is (.pointer (some ⟨g,0,none⟩))
 | .func f=>.is (.func (.func f) #[] #[])
def dstOf (ops:Array Oper) (g:Nat):Option Nat:=(ops[g]?).bind (·.dst)
def guardFact (done:Done) (a:Act) (ops:Array Oper) (g:Nat):Fact :=
 match dstOf ops g with
 | some d=>factOf done a (.tmp d)
 | none=>.is undef
def okUpon (P:Program) (F:Fact) (J:World→World→Prop) (k:Nat) (w:World):Result Next→Prop
 | .ok (.value v) w'=>F.holds k v w'∧J w w'
 | .ok .skip w'=>F.holds k undef w'∧J w w'
 | .ok (.enter f args) w1=>Calls P f args w1 fun e w'=>∃ v,e=.returned v∧F.holds k v w'∧J w w'
 | _=>False
def factsHold (done:Done) (a:Act) (ρ:Operand→Value) (k:Nat) (w:World):List Operand→Prop
 | []=>True
 | x :: r=>(factOf done a x).holds k (ρ x) w∧factsHold done a ρ k w r
def bit (b:Array Nat) (i j:Nat):Bool:=(b.getD i 0).testBit j
structure Frames.I (Φ:Frames) (b:Array Nat) (i k:Nat) (w:World):Prop where
 g:Φ.G k w
 eq:∀ m,Φ.chain.idxOf? i=some m→k=m
 le:∀ m c,Φ.chain[m]? = some c→bit b c i=true→k≤m
 lt:∀ m c,Φ.chain[m]? = some c→bit b i c=true→m < k
 top:k≤Φ.chain.length
def Frames.J (Φ:Frames) (i k:Nat):World→World→Prop:=fun w w'=>match Φ.chain.idxOf? i with|some _=>Φ.LeC k w w'∧Φ.G (k+1) w'|none=>Φ.Le w w'
def Frames.next (Φ:Frames) (i k:Nat):Nat:=match Φ.chain.idxOf? i with|some _=>k+1|none=>k
def StepOb (P:Program) (ops:Array Oper) (a:Act) (Φ:Frames) (b:Array Nat) (i:Nat) (done:Done) (o:Oper) (F:Fact):Prop :=
 ∀ (ρ:Operand→Value) (k:Nat) (w:World),Φ.I b i k w→factsHold done a ρ k w o.op.operands.toList →
  match o.guard with
  | none=>okUpon P F (Φ.J i k) (Φ.next i k) w ((execOp ρ o).run P w)
  | some (g,want)=>∀ vg,(guardFact done a ops g).holds k vg w →
   (vg=.bool want→okUpon P F (Φ.J i k) (Φ.next i k) w ((execOp ρ o).run P w))∧(vg≠.bool want→F.holds (Φ.next i k) undef w∧Φ.J i k w w)
def finish (Q:Act→Prop) (k:Nat) (w:World):Done→Act→Prop
 | [],a=>Q a
 | (none,_) :: r,a=>finish Q k w r a
 | (some d,.is v) :: r,a=>finish Q k w r (a.put (some d) v)
 | (some d,.fits F) :: r,a=>∀ u,F k u w→finish Q k w r (a.put (some d) u)
def Walk (P:Program) (ops:Array Oper) (a:Act) (Φ:Frames) (b:Array Nat) (Q:Act→World→Prop):Nat→Done→List Oper→Prop
 | _,done,[]=>∀ w,Φ.G Φ.chain.length w→finish (fun a'=>Q a' w) Φ.chain.length w done.reverse a
 | i,done,o :: l=>∃ F:Fact,F.stable Φ∧StepOb P ops a Φ b i done o F∧Walk P ops a Φ b Q (i+1) ((o.dst,F) :: done) l
def tmpsOf (ops:Array Oper) (o:Oper):List Nat :=
 (o.op.operands.toList.filterMap fun | .tmp t=>some t|_=>none) ++ (match o.guard with|some (g,_)=>(dstOf ops g).toList|none=>[])
def okEdges (ops:Array Oper) (b:Array Nat) (i:Nat) (o:Oper):Bool :=
 (o.after.all fun e=>!Region.binds .any e || Nat.blt e.on i) &&
 ((List.range ops.size).all fun j=>!bit b i j || o.after.any fun e=>Region.binds .any e && (Nat.beq e.on j || bit b e.on j))
def okTmps (ops:Array Oper) (b:Array Nat) (size:Nat) (i:Nat) (o:Oper):Bool :=
 (match o.dst with|some d=>Nat.blt d size|none=>true) &&
 ((List.range ops.size).all fun j=>Nat.beq j i || match dstOf ops j with
  | none=>true
  | some d=>(match o.dst with|some d'=>!Nat.beq d d'|none=>true) && (!(tmpsOf ops o).contains d || bif Nat.blt j i then bit b i j else bit b j i))
def chainOk (b:Array Nat) (n:Nat):List Nat→Bool
 | []=>true
 | [c]=>Nat.blt c n
 | c :: d :: r=>Nat.blt c d && bit b d c && chainOk b n (d :: r)
def okB (ops:Array Oper) (b:Array Nat) (chain:List Nat) (size:Nat):Bool :=
 ((List.range ops.size).all fun i=>match ops[i]? with
  | none=>true
  | some o=>okEdges ops b i o && okTmps ops b size i o) && chainOk b ops.size chain
section
variable {P:Program} {ops:Array Oper} {b:Array Nat} {chain:List Nat} {size:Nat}
theorem okB_at (h:okB ops b chain size=true) {i:Nat} {o:Oper} (hi:ops[i]? = some o):okEdges ops b i o=true∧okTmps ops b size i o=true:=by
 simp only [okB,Bool.and_eq_true,List.all_eq_true,List.mem_range] at h
 have h1:=h.1 i (Array.getElem?_eq_some_iff.1 hi).1
 simp only [hi,Bool.and_eq_true] at h1
 exact h1
theorem edge_lt (h:okB ops b chain size=true) {i:Nat} {o:Oper} (hi:ops[i]? = some o) {e:Edge} (he:e ∈ o.after) (hb:Region.binds .any e=true):e.on < i:=by
 have h1:=(okB_at h hi).1
 simp only [okEdges,Bool.and_eq_true] at h1
 have h2:=Array.all_eq_true_iff_forall_mem.1 h1.1 e he
 simpa [hb,Nat.blt_eq] using h2
theorem bit_edge (h:okB ops b chain size=true) {i j:Nat} {o:Oper} (hi:ops[i]? = some o) (hj:j < ops.size) (hbit:bit b i j=true) :
  ∃ e ∈ o.after,Region.binds .any e=true∧(e.on=j∨bit b e.on j=true):=by
 have h1:=(okB_at h hi).1
 simp only [okEdges,Bool.and_eq_true,List.all_eq_true,List.mem_range] at h1
 have h2:=h1.2 j hj
 simp only [hbit,Bool.not_true,Bool.false_or] at h2
 obtain ⟨e,he,h3⟩:=Array.any_eq_true'.1 h2
 simp only [Bool.and_eq_true,Bool.or_eq_true,Nat.beq_eq] at h3
 exact ⟨e,he,h3.1,h3.2⟩
def Closed (ops:Array Oper) (L:Nat→Bool):Prop:=∀ i o,ops[i]? = some o→L i=true→∀ e ∈ o.after,Region.binds .any e=true→L e.on=true
theorem listed_of_bit (h:okB ops b chain size=true) {L:Nat→Bool} (hc:Closed ops L) (j:Nat) (hj:j < ops.size) :
  ∀ (i:Nat) (o:Oper),ops[i]? = some o→(∀ e ∈ o.after,Region.binds .any e=true→L e.on=true)→bit b i j=true→L j=true:=by
 intro i
 induction i using Nat.strongRecOn with
 | _ i ih =>
  intro o hi hall hbit
  obtain ⟨e,he,hb,h1⟩:=bit_edge h hi hj hbit
  rcases h1 with rfl|h1
  ·exact hall e he hb
  ·have hlt:=edge_lt h hi he hb
   have hil:=(Array.getElem?_eq_some_iff.1 hi).1
   have hon:ops[e.on]? = some ops[e.on]:=Array.getElem?_eq_getElem (by omega)
   exact ih e.on hlt _ hon (hc e.on _ hon (hall e he hb)) h1
theorem uniq (h:okB ops b chain size=true) {i j d:Nat} (hi:dstOf ops i=some d) (hj:dstOf ops j=some d):i=j:=by
 by_cases hne:j=i
 ·exact hne.symm
 ·exfalso
  unfold dstOf at hi hj
  obtain ⟨o,ho,hd⟩:=Option.bind_eq_some_iff.1 hi
  have h1:=(okB_at h ho).2
  simp only [okTmps,Bool.and_eq_true,List.all_eq_true,List.mem_range] at h1
  obtain ⟨oj,hoj,hdj⟩:=Option.bind_eq_some_iff.1 hj
  have h2:=h1.2 j (Array.getElem?_eq_some_iff.1 hoj).1
  simp only [dstOf,hj,hd,Bool.or_eq_true,Nat.beq_eq,hne,false_or,Bool.and_eq_true] at h2
  have:=h2.1
  simp at this
theorem dst_lt (h:okB ops b chain size=true) {i d:Nat} (hi:dstOf ops i=some d):d < size:=by
 unfold dstOf at hi
 obtain ⟨o,ho,hd⟩:=Option.bind_eq_some_iff.1 hi
 have h1:=(okB_at h ho).2
 simp only [okTmps,Bool.and_eq_true,hd,Nat.blt_eq] at h1
 exact h1.1
theorem ordered (h:okB ops b chain size=true) {i j d:Nat} {o:Oper} (hi:ops[i]? = some o) (hj:dstOf ops j=some d) (hne:j≠i) (hd:d ∈ tmpsOf ops o) :
  (j < i∧bit b i j=true)∨(i < j∧bit b j i=true):=by
 have h1:=(okB_at h hi).2
 simp only [okTmps,Bool.and_eq_true,List.all_eq_true,List.mem_range] at h1
 have hjl:j < ops.size:=by
  unfold dstOf at hj
  obtain ⟨oj,hoj,_⟩:=Option.bind_eq_some_iff.1 hj
  exact (Array.getElem?_eq_some_iff.1 hoj).1
 have h2:=h1.2 j hjl
 simp only [hj,Bool.or_eq_true,Nat.beq_eq,hne,false_or,Bool.and_eq_true] at h2
 have h3:=h2.2
 have hd':(tmpsOf ops o).contains d=true:=by simpa using hd
 simp only [hd',Bool.not_true,Bool.false_eq_true,false_or] at h3
 by_cases hlt:j < i
 ·have:Nat.blt j i=true:=by simpa [Nat.blt_eq] using hlt
  rw [this] at h3
  exact .inl ⟨hlt,h3⟩
 ·have:Nat.blt j i=false:=by
   cases hb:Nat.blt j i
   ·rfl
   ·rw [Nat.blt_eq] at hb;exact absurd hb hlt
  rw [this] at h3
  exact .inr ⟨by omega,h3⟩
def doneOf (ops:Array Oper) (Fs:Nat→Fact):Nat→Done
 | 0=>[]
 | k+1=>(dstOf ops k,Fs k) :: doneOf ops Fs k
theorem lk_none {Fs:Nat→Fact} {t:Nat} : ∀ k,(∀ j,j < k→dstOf ops j≠some t)→lk (doneOf ops Fs k) t=none
 | 0,_=>rfl
 | k+1,h=>by
  have ih:=lk_none (Fs:=Fs) k (fun j hj=>h j (by omega))
  unfold doneOf
  cases hd:dstOf ops k with
  | none=>simpa [lk] using ih
  | some d =>
   have hne:d≠t:=fun e=>h k (by omega) (by rw [hd,e])
   simpa [lk,hne] using ih
theorem lk_some (h:okB ops b chain size=true) {Fs:Nat→Fact} {t j:Nat} (hj:dstOf ops j=some t):∀ k,j < k→lk (doneOf ops Fs k) t=some (Fs j)
 | 0,hlt=>absurd hlt (by omega)
 | k+1,hlt=>by
  unfold doneOf
  by_cases hk:k=j
  ·subst hk
   simp [lk,hj]
  ·have ih:=lk_some h (Fs:=Fs) hj k (by omega)
   cases hd:dstOf ops k with
   | none=>simpa [lk] using ih
   | some d =>
    have hne:d≠t:=fun e=>hk (uniq h (by rw [hd,e]) hj)
    simpa [lk,hne] using ih
theorem walk_gives {a:Act} {Φ:Frames} {Q:Act→World→Prop} : ∀ (l:List Oper) (k:Nat) (Fs₀:Nat→Fact),(∀ j,l[j]? = ops[k+j]?)→k+l.length=ops.size →
  Walk P ops a Φ b Q k (doneOf ops Fs₀ k) l →
  ∃ Fs:Nat→Fact,(∀ j,j < k→Fs j=Fs₀ j)∧(∀ i o,k≤i→ops[i]? = some o→(Fs i).stable Φ∧StepOb P ops a Φ b i (doneOf ops Fs i) o (Fs i)) ∧
   ∀ w,Φ.G Φ.chain.length w→finish (fun a'=>Q a' w) Φ.chain.length w (doneOf ops Fs ops.size).reverse a
 | [],k,Fs₀,hl,hk,h=>by
  refine ⟨Fs₀,fun _ _=>rfl,fun i o hi ho=>?_,?_⟩
  ·have:=(Array.getElem?_eq_some_iff.1 ho).1
   simp at hk
   omega
  ·have hk':k=ops.size:=by simpa using hk
   rw [← hk']
   exact h
 | o :: l,k,Fs₀,hl,hk,h=>by
  have h0:ops[k]? = some o:=by simpa using (hl 0).symm
  obtain ⟨F,hst,hob,hw⟩:=h
  let Fs₁:Nat→Fact:=fun j=>if j=k then F else Fs₀ j
  have hdone:∀ m,m≤k→doneOf ops Fs₁ m=doneOf ops Fs₀ m:=by
   intro m
   induction m with
   | zero=>intro _;rfl
   | succ m ihm =>
    intro hm
    have:Fs₁ m=Fs₀ m:=by simp [Fs₁,show m≠k by omega]
    simp only [doneOf,this,ihm (by omega)]
  have hstep:doneOf ops Fs₁ (k+1)=(o.dst,F) :: doneOf ops Fs₀ k:=by
   have:Fs₁ k=F:=by simp [Fs₁]
   simp only [doneOf,this,hdone k (Nat.le_refl _),dstOf,h0,Option.bind_some]
  rw [← hstep] at hw
  obtain ⟨Fs,hsame,hall,hfin⟩:=walk_gives l (k+1) Fs₁ (fun j=>by have:=hl (j+1);simpa [Nat.add_assoc,Nat.add_comm 1 j] using this) (by simp at hk;omega) hw
  have hFk:Fs k=F:=by rw [hsame k (by omega)];simp [Fs₁]
  have hFd:∀ m,m≤k→doneOf ops Fs m=doneOf ops Fs₀ m:=by
   intro m
   induction m with
   | zero=>intro _;rfl
   | succ m ihm =>
    intro hm
    have h1:Fs m=Fs₀ m:=by rw [hsame m (by omega)];simp [Fs₁,show m≠k by omega]
    simp only [doneOf,h1,ihm (by omega)]
  refine ⟨Fs,fun j hj=>?_,fun i oi hi hoi=>?_,hfin⟩
  ·rw [hsame j (by omega)]
   simp [Fs₁,show j≠k by omega]
  ·by_cases hik:i=k
   ·subst hik
    rw [h0] at hoi
    injection hoi with hoi
    subst hoi
    rw [hFk,hFd i (Nat.le_refl _)]
    exact ⟨hst,hob⟩
   ·exact hall i oi (by omega) hoi
theorem count_of {p:Nat→Bool} : ∀ (c:List Nat) (k:Nat),k≤c.length→(∀ m (hm:m < c.length),p c[m]=decide (m < k))→(c.filter p).length=k
 | [],k,hk,_=>by simp at hk;simp [hk]
 | x :: c,0,_,h=>by
  have h0:=h 0 (by simp)
  simp at h0
  rw [List.filter_cons,if_neg (by simp [h0])]
  exact count_of c 0 (Nat.zero_le _) fun m hm=>by have:=h (m+1) (by simpa using hm);simpa using this
 | x :: c,k+1,hk,h=>by
  have h0:=h 0 (by simp)
  simp at h0
  rw [List.filter_cons,if_pos h0,List.length_cons]
  rw [count_of c k (by simpa using hk) fun m hm=>by have:=h (m+1) (by simpa using hm);simpa using this]
theorem chain_facts:∀ (c:List Nat),chainOk b ops.size c=true→(∀ m (hm:m < c.length),c[m] < ops.size)∧(∀ m (hm:m+1 < c.length),bit b c[m+1] (c[m]'(by omega))=true)∧∀ m m' (hm:m' < c.length) (hlt:m < m'),c[m]'(by omega) < c[m']
 | [],_=>⟨fun m hm=>by simp at hm,fun m hm=>by simp at hm,fun m m' hm=>by simp at hm⟩
 | [x],h=>by
  simp only [chainOk,Nat.blt_eq] at h
  refine ⟨fun m hm=>?_,fun m hm=>by simp at hm,fun m m' hm hlt=>by simp at hm;omega⟩
  have:m=0:=by simpa using hm
  subst this
  exact h
 | x :: y :: r,h=>by
  simp only [chainOk,Bool.and_eq_true,Nat.blt_eq] at h
  obtain ⟨⟨hxy,hb⟩,hr⟩:=h
  obtain ⟨h1,h2,h3⟩:=chain_facts (y :: r) hr
  refine ⟨fun m hm=>?_,fun m hm=>?_,fun m m' hm hlt=>?_⟩
  ·cases m with
   | zero=>have:=h1 0 (by simp);simp at this ⊢;omega
   | succ m=>exact h1 m (by simpa using hm)
  ·cases m with
   | zero=>exact hb
   | succ m=>exact h2 m (by simpa using hm)
  ·cases m' with
   | zero=>omega
   | succ m' =>
    cases m with
    | zero =>
     have hm':m' < (y :: r).length:=by simpa using hm
     by_cases h0:m'=0
     ·subst h0;exact hxy
     ·have:=h3 0 m' hm' (by omega)
      simp at this ⊢
      omega
    | succ m=>exact h3 m m' (by simpa using hm) (by omega)
end
end Go.Proofs.Ytoihiehoolehiaa.Bk.Vc
namespace Go.Proofs.Ytoihiehoolehiaa.Bk.Vc
open Go.RowKit
section
variable {P:Program} {ops:Array Oper} {b:Array Nat} {size:Nat}
def cnt (Φ:Frames) (listed:Array Bool):Nat:=(Φ.chain.filter fun c=>listed.getD c false).length
structure Inv (ops:Array Oper) (a:Act) (Φ:Frames) (Fs:Nat→Fact) (listed:Array Bool) (a':Act) (w:World):Prop where
 lsize:listed.size=ops.size
 closed:Closed ops fun i=>listed.getD i false
 size:a'.tmps.size=a.tmps.size
 defers:a'.defers=a.defers
 base:∀ t,(∀ j,listed.getD j false=true→dstOf ops j≠some t)→a'.tmps[t]? = a.tmps[t]?
 facts:∀ j d,listed.getD j false=true→dstOf ops j=some d→(Fs j).holds (cnt Φ listed) (a'.tmps.getD d undef) w
 stage:Φ.G (cnt Φ listed) w
theorem getD_base {a a':Act} {t:Nat} (h:a'.tmps[t]? = a.tmps[t]?):a'.tmps.getD t undef=a.tmps.getD t undef:=by
 simp only [Array.getD_eq_getD_getElem?,h]
theorem listed_true {listed:Array Bool} {i:Nat} (h:listed.getD i true=false):listed.getD i false=false:=by
 rcases Nat.lt_or_ge i listed.size with h'|h'
 ·simp [h'] at h ⊢;exact h
 ·simp [Array.getElem?_eq_none h'] at h
theorem tmp_fact {a a':Act} {w:World} {Φ:Frames} {Fs:Nat→Fact} {listed:Array Bool} {i t:Nat} {o:Oper} (h:okB ops b Φ.chain size=true) (hI:Inv ops a Φ Fs listed a' w)
  (hi:ops[i]? = some o) (hun:listed.getD i false=false) (hall:∀ e ∈ o.after,Region.binds .any e=true→listed.getD e.on false=true) (ht:t ∈ tmpsOf ops o) :
  (factOf (doneOf ops Fs i) a (.tmp t)).holds (cnt Φ listed) (a'.tmps.getD t undef) w:=by
 by_cases hw:∃ j,dstOf ops j=some t
 ·obtain ⟨j,hj⟩:=hw
  by_cases hji:j=i
  ·subst hji
   have hn:lk (doneOf ops Fs j) t=none:=lk_none j fun j' hj' e=>by have:=uniq h e hj;omega
   have hb:a'.tmps[t]? = a.tmps[t]?:=hI.base t fun j' hl e=>by have:=uniq h e hj;subst this;rw [hun] at hl;cases hl
   simp only [factOf,hn,Fact.holds]
   exact getD_base hb
  ·rcases ordered h hi hj hji ht with ⟨hlt,hbit⟩|⟨hlt,hbit⟩
   ·have hjl:j < ops.size:=by have:=(Array.getElem?_eq_some_iff.1 hi).1;omega
    have hlj:listed.getD j false=true:=listed_of_bit h hI.closed j hjl i o hi hall hbit
    simp only [factOf,lk_some h hj i hlt]
    exact hI.facts j t hlj hj
   ·have hn:lk (doneOf ops Fs i) t=none:=lk_none i fun j' hj' e=>by have:=uniq h e hj;omega
    have hb:a'.tmps[t]? = a.tmps[t]?:=hI.base t fun j' hl e=>by
     have hjj:=uniq h e hj
     subst hjj
     have hil:=(Array.getElem?_eq_some_iff.1 hi).1
     unfold dstOf at hj
     obtain ⟨oj,hoj,_⟩:=Option.bind_eq_some_iff.1 hj
     have:=listed_of_bit h hI.closed i hil j' oj hoj (fun e he hb=>hI.closed j' oj hoj hl e he hb) hbit
     rw [hun] at this
     cases this
    simp only [factOf,hn,Fact.holds]
    exact getD_base hb
 ·have hno:∀ j,dstOf ops j≠some t:=fun j e=>hw ⟨j,e⟩
  have hn:lk (doneOf ops Fs i) t=none:=lk_none i fun j _=>hno j
  simp only [factOf,hn,Fact.holds]
  exact getD_base (hI.base t fun j _=>hno j)
theorem put_size (a:Act) (d:Option Tmp) (v:Value):(a.put d v).tmps.size=a.tmps.size:=by cases d <;> simp [Act.put]
theorem put_defers_same (a:Act) (d:Option Tmp) (v:Value):(a.put d v).defers=a.defers:=by cases d <;> rfl
theorem initial {p:Nat→Bool} : ∀ (c:List Nat),(∀ m (hm:m+1 < c.length),p c[m+1]=true→p (c[m]'(by omega))=true)→∀ m (hm:m < c.length),p c[m]=decide (m < (c.filter p).length)
 | [],_,m,hm=>by simp at hm
 | x :: c,h,m,hm=>by
  have ht:∀ m (hm:m+1 < c.length),p c[m+1]=true→p (c[m]'(by omega))=true:=fun m hm hp=>by
   have:=h (m+1) (by simpa using hm)
   simp only [List.getElem_cons_succ] at this
   exact this hp
  cases hx:p x with
  | true =>
   rw [List.filter_cons,if_pos hx,List.length_cons]
   cases m with
   | zero=>simp [hx]
   | succ m =>
    have:=initial c ht m (by simpa using hm)
    simp [this]
  | false =>
   have hall:∀ m (hm:m < (x :: c).length),p (x :: c)[m]=false:=by
    intro m
    induction m with
    | zero=>intro _;simpa using hx
    | succ m ih =>
     intro hm
     cases hc:p (x :: c)[m+1] with
     | false=>rfl
     | true =>
      have h1:=h m hm hc
      have h2:=ih (by omega)
      rw [h2] at h1
      cases h1
   have hnil:(x :: c).filter p = []:=List.filter_eq_nil_iff.2 fun y hy=>by
    obtain ⟨k,hk,rfl⟩:=List.getElem_of_mem hy
    rw [hall k hk]
    simp
   rw [hnil,hall m hm]
   simp
theorem stage_prefix {a a':Act} {w:World} {Φ:Frames} {Fs:Nat→Fact} {listed:Array Bool} (h:okB ops b Φ.chain size=true) (hI:Inv ops a Φ Fs listed a' w) :
  ∀ m (hm:m < Φ.chain.length),listed.getD Φ.chain[m] false=decide (m < cnt Φ listed):=by
 have hch:chainOk b ops.size Φ.chain=true:=by
  have:=h
  simp only [okB,Bool.and_eq_true] at this
  exact this.2
 obtain ⟨c1,c2,c3⟩:=chain_facts Φ.chain hch
 refine initial (p:=fun c=>listed.getD c false) Φ.chain fun m hm hl=>?_
 have hx:=c1 (m+1) hm
 have ho:ops[Φ.chain[m+1]]? = some ops[Φ.chain[m+1]]:=Array.getElem?_eq_getElem hx
 exact listed_of_bit h hI.closed _ (c1 m (by omega)) _ _ ho (fun e he hbd=>hI.closed _ _ ho hl e he hbd) (c2 m hm)
theorem stage_at {a a':Act} {w:World} {Φ:Frames} {Fs:Nat→Fact} {listed:Array Bool} {i:Nat} {o:Oper} (h:okB ops b Φ.chain size=true) (hI:Inv ops a Φ Fs listed a' w)
  (hi:ops[i]? = some o) (hun:listed.getD i false=false) (hall:∀ e ∈ o.after,Region.binds .any e=true→listed.getD e.on false=true):Φ.I b i (cnt Φ listed) w:=by
 have hch:chainOk b ops.size Φ.chain=true:=by
  have:=h
  simp only [okB,Bool.and_eq_true] at this
  exact this.2
 obtain ⟨c1,c2,c3⟩:=chain_facts Φ.chain hch
 have hp:=stage_prefix h hI
 have hle:∀ m c,Φ.chain[m]? = some c→bit b c i=true→cnt Φ listed≤m:=by
  intro m c hc hb
  obtain ⟨hm,rfl⟩:=List.getElem?_eq_some_iff.1 hc
  have hx:=c1 m hm
  have ho:ops[Φ.chain[m]]? = some ops[Φ.chain[m]]:=Array.getElem?_eq_getElem hx
  cases hl:listed.getD Φ.chain[m] false with
  | true =>
   have:=listed_of_bit h hI.closed i (Array.getElem?_eq_some_iff.1 hi).1 _ _ ho (fun e he hbd=>hI.closed _ _ ho hl e he hbd) hb
   exact absurd (hun.symm.trans this) (by simp)
  | false =>
   have:=hp m hm
   rw [hl] at this
   simpa using this.symm
 have hlt:∀ m c,Φ.chain[m]? = some c→bit b i c=true→m < cnt Φ listed:=by
  intro m c hc hb
  obtain ⟨hm,rfl⟩:=List.getElem?_eq_some_iff.1 hc
  have h1:listed.getD Φ.chain[m] false=true:=listed_of_bit h hI.closed _ (c1 m hm) i o hi hall hb
  have:=hp m hm
  rw [h1] at this
  simpa using this.symm
 refine ⟨hI.stage,fun m hk=>?_,hle,hlt,List.length_filter_le _ _⟩
 rw [List.idxOf?_eq_some_iff] at hk
 obtain ⟨hm,he,_⟩:=hk
 have hmi:Φ.chain[m]=i:=by simpa using he
 have h1:cnt Φ listed≤m:=by
  have:=hp m hm
  rw [hmi,hun] at this
  simpa using this.symm
 cases m with
 | zero=>omega
 | succ m =>
  have hb:=c2 m hm
  rw [hmi] at hb
  have:=hlt m _ (List.getElem?_eq_getElem (by omega)) hb
  omega
theorem cnt_next {a a':Act} {w:World} {Φ:Frames} {Fs:Nat→Fact} {listed:Array Bool} {i:Nat} {o:Oper} (h:okB ops b Φ.chain size=true) (hI:Inv ops a Φ Fs listed a' w)
  (hi:ops[i]? = some o) (hun:listed.getD i false=false) (hall:∀ e ∈ o.after,Region.binds .any e=true→listed.getD e.on false=true) :
  cnt Φ (listed.setIfInBounds i true)=Φ.next i (cnt Φ listed):=by
 have hil:i < listed.size:=by have:=(Array.getElem?_eq_some_iff.1 hi).1;rw [hI.lsize];exact this
 have hset:∀ c,(listed.setIfInBounds i true).getD c false=(decide (c=i) || listed.getD c false):=fun c=>by
  by_cases hc:i=c
  ·subst hc;simp [hil]
  ·rw [getD_set_ne false hc];simp [Ne.symm hc]
 have hat:=stage_at h hI hi hun hall
 have hp:=stage_prefix h hI
 unfold Frames.next
 cases hk:Φ.chain.idxOf? i with
 | none =>
  have hni:i ∉ Φ.chain:=by
   intro hm
   rw [List.idxOf?_eq_none_iff] at hk
   exact absurd hm (by simpa using hk)
  have hsame:(Φ.chain.filter fun c=>(listed.setIfInBounds i true).getD c false)=Φ.chain.filter fun c=>listed.getD c false :=
   List.filter_congr fun c hc=>by
    have:c≠i:=fun e=>hni (e ▸ hc)
    rw [hset c]
    simp [this]
  unfold cnt
  rw [hsame]
 | some m =>
  have hkm:=hat.eq m hk
  rw [List.idxOf?_eq_some_iff] at hk
  obtain ⟨hm,he,_⟩:=hk
  have hmi:Φ.chain[m]=i:=by simpa using he
  have hch:chainOk b ops.size Φ.chain=true:=by
   have:=h
   simp only [okB,Bool.and_eq_true] at this
   exact this.2
  obtain ⟨c1,c2,c3⟩:=chain_facts Φ.chain hch
  simp only []
  rw [hkm] at hp ⊢
  refine count_of _ (m+1) (by omega) fun m' hm'=>?_
  rw [hset,hp m' hm']
  by_cases h1:m' < m
  ·simp [h1,show m' < m+1 by omega]
  ·by_cases h2:m'=m
   ·subst h2;simp [hmi]
   ·have h3:=c3 m m' hm' (by omega)
    rw [hmi] at h3
    have h4:Φ.chain[m']≠i:=by omega
    simp [h4,show ¬ m' < m+1 by omega]
    omega
theorem inv_next {a a':Act} {w w1:World} {Φ:Frames} {Fs:Nat→Fact} {listed:Array Bool} {i:Nat} {o:Oper} {v:Value} (h:okB ops b Φ.chain a.tmps.size=true)
  (hG:∀ k w w',Φ.Le w w'→Φ.G k w→Φ.G k w') (hst:∀ i o,ops[i]? = some o→(Fs i).stable Φ) (hI:Inv ops a Φ Fs listed a' w)
  (hi:ops[i]? = some o) (hun:listed.getD i false=false) (hall:∀ e ∈ o.after,Region.binds .any e=true→listed.getD e.on false=true)
  (hF:(Fs i).holds (Φ.next i (cnt Φ listed)) v w1) (hJ:Φ.J i (cnt Φ listed) w w1):Inv ops a Φ Fs (listed.setIfInBounds i true) (a'.put o.dst v) w1:=by
 have hil:i < listed.size:=by have:=(Array.getElem?_eq_some_iff.1 hi).1;rw [hI.lsize];exact this
 have hcn:=cnt_next h hI hi hun hall
 have hset:∀ c,(listed.setIfInBounds i true).getD c false=true→c=i∨listed.getD c false=true:=fun c hc=>by
  by_cases hci:i=c
  ·exact .inl hci.symm
  ·rw [getD_set_ne false hci] at hc;exact .inr hc
 have hdi:dstOf ops i=o.dst:=by simp [dstOf,hi]
 have hstage:Φ.G (cnt Φ (listed.setIfInBounds i true)) w1:=by
  rw [hcn]
  unfold Frames.J at hJ
  unfold Frames.next
  cases hk:Φ.chain.idxOf? i with
  | none=>rw [hk] at hJ;exact hG _ _ _ hJ hI.stage
  | some m=>rw [hk] at hJ;exact hJ.2
 have hkeep:∀ (f:Fact) u,f.stable Φ→f.holds (cnt Φ listed) u w→f.holds (cnt Φ (listed.setIfInBounds i true)) u w1:=by
  intro f u hs hh
  cases f with
  | is v=>exact hh
  | fits F =>
   rw [hcn]
   unfold Frames.J at hJ
   unfold Frames.next
   cases hk:Φ.chain.idxOf? i with
   | none=>rw [hk] at hJ;exact hs.1 _ _ _ _ hI.stage hJ hh
   | some m=>rw [hk] at hJ;exact hs.2 _ _ _ _ hI.stage hJ.1 hJ.2 hh
 refine ⟨by simp [hI.lsize],fun j oj hj hl e he hb=>?_,by rw [put_size];exact hI.size,by rw [put_defers_same];exact hI.defers,fun t ht=>?_,fun j d hl hd=>?_,hstage⟩
 ·rcases hset j hl with rfl|hl
  ·rw [hi] at hj
   injection hj with hj
   subst hj
   exact getD_set_true (hall e he hb)
  ·exact getD_set_true (hI.closed j oj hj hl e he hb)
 ·have hb:=hI.base t fun j hl=>ht j (getD_set_true hl)
  have hne:o.dst≠some t:=by
   rw [← hdi]
   exact ht i (by simp [hil])
  cases hd:o.dst with
  | none=>exact hb
  | some d =>
   have:d≠t:=fun e=>hne (by rw [hd,e])
   simp only [Act.put,Array.getElem?_setIfInBounds_ne this]
   exact hb
 ·by_cases hji:j=i
  ·subst hji
   rw [hdi] at hd
   have hlt:d < a'.tmps.size:=by rw [hI.size];exact dst_lt h (hdi.trans hd)
   simp only [hd,Act.put]
   have:(a'.tmps.setIfInBounds d v).getD d undef=v:=by simp [hlt]
   rw [this,hcn]
   exact hF
  ·have hl':listed.getD j false=true:=by
    rcases hset j hl with e|hl'
    ·exact absurd e hji
    ·exact hl'
   have hold:=hI.facts j d hl' hd
   have hval:(a'.put o.dst v).tmps.getD d undef=a'.tmps.getD d undef:=by
    cases hd':o.dst with
    | none=>rfl
    | some d' =>
     have:d'≠d:=fun e=>hji (uniq h hd (by rw [hdi,hd',e]))
     simp only [Act.put,Array.getD_eq_getD_getElem?,Array.getElem?_setIfInBounds_ne this]
   rw [hval]
   have hjs:∃ oj,ops[j]? = some oj:=by
    unfold dstOf at hd
    obtain ⟨oj,hoj,_⟩:=Option.bind_eq_some_iff.1 hd
    exact ⟨oj,hoj⟩
   obtain ⟨oj,hoj⟩:=hjs
   exact hkeep _ _ (hst j oj hoj) hold
theorem facts_all {a a':Act} {w:World} {Φ:Frames} {Fs:Nat→Fact} {listed:Array Bool} {i:Nat} {o:Oper} (h:okB ops b Φ.chain size=true) (hI:Inv ops a Φ Fs listed a' w)
  (hi:ops[i]? = some o) (hun:listed.getD i false=false) (hall:∀ e ∈ o.after,Region.binds .any e=true→listed.getD e.on false=true) :
  ∀ xs:List Operand,(∀ x ∈ xs,x ∈ o.op.operands)→factsHold (doneOf ops Fs i) a a'.eval (cnt Φ listed) w xs
 | [],_=>trivial
 | x :: r,hx=>by
  refine ⟨?_,facts_all h hI hi hun hall r fun y hy=>hx y (List.mem_cons_of_mem _ hy)⟩
  cases x with
  | tmp t=>exact tmp_fact h hI hi hun hall (List.mem_append_left _ (List.mem_filterMap.2 ⟨.tmp t,by simpa using hx _ (List.mem_cons_self ..),rfl⟩))
  | const v=>rfl
  | global g=>rfl
  | func f=>rfl
theorem count_set {listed:Array Bool} {i:Nat} (hi:i < listed.size) (hun:listed.getD i false=false) :
  (listed.toList.count false)=((listed.setIfInBounds i true).toList.count false)+1:=by
 have h0:listed.toList[i]'(by simpa using hi)=false:=by simpa [hi] using hun
 rw [Array.toList_setIfInBounds,List.count_set (by simpa using hi)]
 simp only [h0]
 have h1:0 < listed.toList.count false:=List.count_pos_iff.2 (h0 ▸ List.getElem_mem _)
 have e1:(false == false)=true:=rfl
 have e2:(true == false)=false:=rfl
 simp only [e1,e2,if_true,Bool.false_eq_true,if_false]
 omega
theorem ready_nil {a a':Act} {w:World} {Φ:Frames} {Fs:Nat→Fact} {listed:Array Bool} (h:okB ops b Φ.chain size=true) (hI:Inv ops a Φ Fs listed a' w)
  (hr:Region.ready .any ops listed = []):∀ i,i < ops.size→listed.getD i false=true:=by
 intro i
 induction i using Nat.strongRecOn with
 | _ i ih =>
  intro hi
  cases hc:listed.getD i false
  ·exfalso
   have hon:ops[i]? = some ops[i]:=Array.getElem?_eq_getElem hi
   have hm:i ∈ Region.ready .any ops listed:=mem_ready.2 ⟨by
    have hil:i < listed.size:=by rw [hI.lsize];exact hi
    simp [hil] at hc ⊢
    exact hc,_,hon,fun e he hb=>ih e.on (edge_lt h hon he hb) (by have:=edge_lt h hon he hb;omega)⟩
   rw [hr] at hm
   cases hm
  ·rfl
theorem finish_gives {chain:List Nat} {a a':Act} {st:Nat} {w:World} {Fs:Nat→Fact} {Q:Act→Prop} (h:okB ops b chain a.tmps.size=true)
  (hsz:a'.tmps.size=a.tmps.size) (hdf:a'.defers=a.defers) (hbase:∀ t,(∀ j,j < ops.size→dstOf ops j≠some t)→a'.tmps[t]? = a.tmps[t]?)
  (hfacts:∀ j d,j < ops.size→dstOf ops j=some d→(Fs j).holds st (a'.tmps.getD d undef) w) :
  ∀ (n k:Nat) (x:Act),k+n=ops.size→x.tmps.size=a.tmps.size→x.defers=a.defers →
   (∀ t,(∀ j,k≤j→j < ops.size→dstOf ops j≠some t)→x.tmps[t]? = a'.tmps[t]?) →
   finish Q st w ((List.range' k n).map fun j=>(dstOf ops j,Fs j)) x→Q a'
 | 0,k,x,hk,hs,hd,hx,hfin=>by
  have:x=a':=by
   obtain ⟨xt,xd⟩:=x
   obtain ⟨at',ad⟩:=a'
   have e1:xt=at':=Array.ext_getElem? fun t=>hx t fun j h1 h2=>by omega
   have e2:xd=ad:=by simp at hd hdf;rw [hd,hdf]
   rw [e1,e2]
  rw [← this]
  exact hfin
 | n+1,k,x,hk,hs,hd,hx,hfin=>by
  simp only [List.range'_succ,List.map_cons] at hfin
  have step:∀ d v,dstOf ops k=some d→a'.tmps.getD d undef=v→finish Q st w ((List.range' (k+1) n).map fun j=>(dstOf ops j,Fs j)) (x.put (some d) v)→Q a':=by
   intro d v hdk hv hf
   refine finish_gives h hsz hdf hbase hfacts n (k+1) (x.put (some d) v) (by omega) (by rw [put_size];exact hs) (by rw [put_defers_same];exact hd) (fun t ht=>?_) hf
   by_cases htd:d=t
   ·subst htd
    have hlt:d < x.tmps.size:=by rw [hs];exact dst_lt h hdk
    have hlt':d < a'.tmps.size:=by rw [hsz];exact dst_lt h hdk
    simp only [Act.put]
    rw [Array.getElem?_setIfInBounds_self_of_lt hlt,← hv]
    simp [hlt']
   ·simp only [Act.put,Array.getElem?_setIfInBounds_ne htd]
    exact hx t fun j h1 h2=>by
     by_cases hjk:j=k
     ·subst hjk;rw [hdk];intro e;injection e with e;exact htd e
     ·exact ht j (by omega) h2
  cases hdk:dstOf ops k with
  | none =>
   rw [hdk] at hfin
   simp only [finish] at hfin
   refine finish_gives h hsz hdf hbase hfacts n (k+1) x (by omega) hs hd (fun t ht=>hx t fun j h1 h2=>?_) hfin
   by_cases hjk:j=k
   ·subst hjk;rw [hdk];intro e;cases e
   ·exact ht j (by omega) h2
  | some d =>
   rw [hdk] at hfin
   have hf:=hfacts k d (by omega) hdk
   cases hF:Fs k with
   | is v =>
    rw [hF] at hfin hf
    simp only [finish] at hfin
    exact step d v hdk hf hfin
   | fits F =>
    rw [hF] at hfin hf
    simp only [finish] at hfin
    exact step d _ hdk rfl (hfin _ hf)
theorem doneOf_reverse (Fs:Nat→Fact):∀ n,(doneOf ops Fs n).reverse=(List.range' 0 n).map fun j=>(dstOf ops j,Fs j)
 | 0=>rfl
 | n+1=>by
  rw [doneOf,List.reverse_cons,doneOf_reverse Fs n,List.range'_concat,List.map_append]
  simp
theorem rep_false (n i:Nat):(Array.replicate n false).getD i false=false:=by
 rcases Nat.lt_or_ge i n with h|h
 ·simp [h]
 ·simp [Array.getElem?_eq_none,h]
theorem undef_ne (b:Bool):undef≠Value.bool b:=by unfold undef;intro h;cases h
theorem walk_any {a:Act} {Φ:Frames} {Fs:Nat→Fact} {Q:Exit→Act→World→Prop} (h:okB ops b Φ.chain a.tmps.size=true)
  (hG:∀ k w w',Φ.Le w w'→Φ.G k w→Φ.G k w')
  (hob:∀ i o,ops[i]? = some o→(Fs i).stable Φ∧StepOb P ops a Φ b i (doneOf ops Fs i) o (Fs i))
  (hfin:∀ w,Φ.G Φ.chain.length w→finish (fun a'=>Q .normal a' w) Φ.chain.length w (doneOf ops Fs ops.size).reverse a) :
  ∀ (fuel:Nat) (listed:Array Bool) (a':Act) (w:World),listed.toList.count false=fuel→Inv ops a Φ Fs listed a' w→wpAny P .any ops Q fuel listed a' w:=by
 have done:∀ (listed:Array Bool) (a':Act) (w:World),Inv ops a Φ Fs listed a' w→Region.ready .any ops listed = []→Q .normal a' w:=by
  intro listed a' w hI hr
  have hall:=ready_nil h hI hr
  have hcl:cnt Φ listed=Φ.chain.length:=by
   have hch:chainOk b ops.size Φ.chain=true:=by
    have:=h
    simp only [okB,Bool.and_eq_true] at this
    exact this.2
   have hc:=(chain_facts Φ.chain hch).1
   have:(Φ.chain.filter fun c=>listed.getD c false)=Φ.chain:=List.filter_eq_self.2 fun c hc'=>by
    obtain ⟨m,hm,he⟩:=List.getElem_of_mem hc'
    exact hall c (he ▸ hc m hm)
   unfold cnt
   rw [this]
  have hstage:Φ.G Φ.chain.length w:=hcl ▸ hI.stage
  have hf:=hfin w hstage
  rw [doneOf_reverse] at hf
  refine finish_gives (Q:=fun a'=>Q .normal a' w) h hI.size hI.defers (fun t ht=>hI.base t fun j hl=>?_) (fun j d hj hd=>hcl ▸ hI.facts j d (hall j hj) hd) ops.size 0 a (by omega) rfl rfl (fun t ht=>?_) hf
  ·intro e
   have hjl:j < ops.size:=by
    unfold dstOf at e
    obtain ⟨oj,hoj,_⟩:=Option.bind_eq_some_iff.1 e
    exact (Array.getElem?_eq_some_iff.1 hoj).1
   exact ht j hjl e
  ·exact (hI.base t fun j hl e=>by
    have hjl:j < ops.size:=by
     unfold dstOf at e
     obtain ⟨oj,hoj,_⟩:=Option.bind_eq_some_iff.1 e
     exact (Array.getElem?_eq_some_iff.1 hoj).1
    exact ht j (by omega) hjl e).symm
 intro fuel
 induction fuel with
 | zero =>
  intro listed a' w hc hI
  have hnil:Region.ready .any ops listed = []:=by
   cases hr:Region.ready .any ops listed with
   | nil=>rfl
   | cons x xs =>
    exfalso
    have hm:x ∈ Region.ready .any ops listed:=by rw [hr];simp
    obtain ⟨hx,ox,hox,_⟩:=mem_ready.1 hm
    have hlt:x < listed.size:=by rw [hI.lsize];exact (Array.getElem?_eq_some_iff.1 hox).1
    have:=count_set hlt (listed_true hx)
    omega
  exact ⟨hnil,done listed a' w hI hnil⟩
 | succ fuel ih =>
  intro listed a' w hc hI
  refine ⟨done listed a' w hI,fun i hm=>?_⟩
  obtain ⟨hun',o,hi,hall⟩:=mem_ready.1 hm
  have hun:=listed_true hun'
  have hlt:i < listed.size:=by rw [hI.lsize];exact (Array.getElem?_eq_some_iff.1 hi).1
  have hcount:(listed.setIfInBounds i true).toList.count false=fuel:=by have:=count_set hlt hun;omega
  obtain ⟨hst,hob'⟩:=hob i o hi
  have hIi:=stage_at h hI hi hun hall
  have hfs:=facts_all h hI hi hun hall o.op.operands.toList (fun x hx=>by simpa using hx)
  have hsteps:=hob' a'.eval _ w hIi hfs
  have next:∀ v w1,(Fs i).holds (Φ.next i (cnt Φ listed)) v w1→Φ.J i (cnt Φ listed) w w1→wpAny P .any ops Q fuel (listed.setIfInBounds i true) (a'.put o.dst v) w1:=fun v w1 hF hJ =>
   ih _ _ _ hcount (inv_next h hG (fun j oj hj=>(hob j oj hj).1) hI hi hun hall hF hJ)
  have run:okUpon P (Fs i) (Φ.J i (cnt Φ listed)) (Φ.next i (cnt Φ listed)) w ((execOp a'.eval o).run P w)→Oper.wp P o a' w (wpAny P .any ops Q fuel (listed.setIfInBounds i true)) Q:=by
   intro hok
   unfold Oper.wp
   generalize (execOp a'.eval o).run P w=r at *
   cases r with
   | ok n w1 =>
    cases n <;> simp only [okUpon] at hok <;> simp only [Oper.upon]
    case value v=>exact next v w1 hok.1 hok.2
    case skip=>exact next undef w1 hok.1 hok.2
    case enter f args=>exact hok.mono fun e w2 ⟨v,he,h1,h2⟩=>by subst he;exact next v w2 h1 h2
   | halt x w1=>simp only [okUpon] at hok
  unfold wpOp
  simp only [hi]
  cases hg:o.guard with
  | none =>
   simp only [hg] at hsteps
   simp only [Region.wanted,hg,if_true]
   exact .inl (run hsteps)
  | some gw =>
   obtain ⟨g,want⟩:=gw
   simp only [hg] at hsteps
   cases hd:dstOf ops g with
   | none =>
    have hy:yielded ops a'.tmps g=none:=by simp only [dstOf] at hd;simp [yielded,hd]
    have hw:Region.wanted o (yielded ops a'.tmps)=false:=by simp [Region.wanted,hg,hy]
    obtain ⟨_,h2⟩:=hsteps undef (by simp only [guardFact,hd];rfl)
    obtain ⟨hF,hJ⟩:=h2 (undef_ne want)
    rw [hw]
    exact next undef w hF hJ
   | some d =>
    have hdt:d ∈ tmpsOf ops o:=List.mem_append_right _ (by simp [hg,hd])
    have hfg:=tmp_fact h hI hi hun hall hdt
    obtain ⟨h1,h2⟩:=hsteps (a'.tmps.getD d undef) (by simp only [guardFact,hd];exact hfg)
    have hd':=hd
    simp only [dstOf] at hd'
    by_cases hv:a'.tmps.getD d undef=.bool want
    ·have hw:Region.wanted o (yielded ops a'.tmps)=true:=by
      have:a'.tmps[d]? = some (.bool want):=by
       rcases Nat.lt_or_ge d a'.tmps.size with h'|h'
       ·simp [h'] at hv ⊢;exact hv
       ·simp [Array.getElem?_eq_none h'] at hv
        exact absurd hv (undef_ne want)
      simp [Region.wanted,hg,yielded,hd',this]
     rw [hw]
     exact .inl (run (h1 hv))
    ·have hw:Region.wanted o (yielded ops a'.tmps)=false:=by
      simp only [Region.wanted,hg,yielded,hd',Option.bind_some]
      rcases Nat.lt_or_ge d a'.tmps.size with h'|h'
      ·have hx:a'.tmps[d]? = some (a'.tmps.getD d undef):=by simp [h']
       rw [hx]
       cases hval:a'.tmps.getD d undef <;> simp_all
      ·simp [Array.getElem?_eq_none h']
     obtain ⟨hF,hJ⟩:=h2 hv
     rw [hw]
     exact next undef w hF hJ
theorem wp_region_facts {id:Nat} {l:List Oper} {a:Act} {w:World} {Q:Exit→Act→World→Prop} (Φ:Frames) (hm:P.follows .mixedOrders=true)
  (h:okB l.toArray (Region.before l.toArray) Φ.chain a.tmps.size=true) (hG:∀ k w w',Φ.Le w w'→Φ.G k w→Φ.G k w') (h0:Φ.G 0 w.drew)
  (hw:Walk P l.toArray a Φ (Region.before l.toArray) (fun a' w'=>Q .normal a' w') 0 [] l):(Code.region id l.toArray true).wp P Q a w:=by
 refine wp_region_any hm ?_
 obtain ⟨Fs,_,hall,hfin⟩:=walk_gives (P:=P) (ops:=l.toArray) (b:=Region.before l.toArray) (a:=a) (Φ:=Φ) (Q:=fun a' w'=>Q .normal a' w') l 0 (fun _=>.is undef) (fun j=>by simp) (by simp) hw
 refine walk_any h hG (fun i o hi=>hall i o (Nat.zero_le _) hi) hfin _ _ a w.drew (by simp) ⟨by simp,fun i o hi hl=>?_,rfl,rfl,fun t _=>rfl,fun j d hl=>?_,?_⟩
 ·exact absurd ((rep_false _ _).symm.trans hl) (by simp)
 ·exact absurd ((rep_false _ _).symm.trans hl) (by simp)
 ·have:(Φ.chain.filter fun c=>(Array.replicate l.toArray.size false).getD c false) = []:=List.filter_eq_nil_iff.2 fun c _=>by rw [rep_false];simp
  unfold cnt
  rw [this]
  exact h0
def At (m:Nat) (F:Value→World→Prop):Nat→Value→World→Prop:=fun k v w=>m≤k∧(k≤m→F v w)
theorem At.stable {Φ:Frames} {m:Nat} {F:Value→World→Prop} (h:∀ u w w',Φ.Le w w'→F u w→F u w'):(Fact.fits (At m F)).stable Φ :=
 ⟨fun k u w w' _ hl hf=>⟨hf.1,fun hk=>h u w w' hl (hf.2 hk)⟩,fun k u w w' _ _ _ hf=>⟨Nat.le_succ_of_le hf.1,fun hk=>by have:=hf.1;omega⟩⟩
def All (F:Value→World→Prop):Nat→Value→World→Prop:=fun _ v w=>F v w
theorem All.stable {Φ:Frames} {F:Value→World→Prop} (h:∀ u w w',Φ.Le w w'→F u w→F u w') (hc:∀ k u w w',Φ.G k w→Φ.LeC k w w'→F u w→F u w'):(Fact.fits (All F)).stable Φ :=
 ⟨fun _ u w w' _ hl hf=>h u w w' hl hf,fun k u w w' hg hl _ hf=>hc k u w w' hg hl hf⟩
section
variable {a:Act} {Φ:Frames} {Q:Act→World→Prop} {i:Nat} {done:Done} {o:Oper} {l:List Oper}
def known (done:Done) (a:Act) (x:Operand):Value:=match factOf done a x with | .is v=>v | .fits _=>undef
def isKnown (done:Done) (a:Act) (x:Operand):Bool:=match factOf done a x with | .is _=>true | .fits _=>false
theorem known_tmp (done:Done) (a:Act) (t:Tmp):known done a (.tmp t)=match lk done t with|some (.is v)=>v|some (.fits _)=>undef|none=>a.tmps.getD t undef:=by
 simp only [known,factOf]
 cases lk done t with
 | none=>rfl
 | some f=>cases f <;> rfl
theorem known_const (done:Done) (a:Act) (v:Value):known done a (.const v)=v:=rfl
theorem known_func (done:Done) (a:Act) (f:FuncId):known done a (.func f)=.func (.func f) #[] #[]:=rfl
theorem known_global (done:Done) (a:Act) (g:Nat):known done a (.global g)=.pointer (some ⟨g,0,none⟩):=rfl
theorem known_facts {ρ:Operand→Value} {k:Nat} {w:World} : ∀ {xs:List Operand},xs.all (isKnown done a)=true→factsHold done a ρ k w xs→∀ x ∈ xs,ρ x=known done a x
 | [],_,_,x,hx=>by cases hx
 | y :: r,hk,hf,x,hx=>by
  simp only [List.all_cons,Bool.and_eq_true] at hk
  cases hx with
  | head =>
   have h1:=hf.1
   have h2:=hk.1
   unfold isKnown at h2
   unfold known
   cases hfx:factOf done a y with
   | is v=>rw [hfx] at h1;exact h1
   | fits F=>rw [hfx] at h2;cases h2
  | tail _ hm=>exact known_facts hk.2 hf.2 x hm
def noSel:Op→Bool
 | .select ..=>false
 | _=>true
theorem noSel_spec {op:Op} (h:noSel op=true) (cs:Array SelectCase) (b:Bool):op≠.select cs b:=by
 intro e;subst e;cases h
theorem known_exec {ρ:Operand→Value} {k:Nat} {w:World} (hs:noSel o.op=true) (hk:o.op.operands.toList.all (isKnown done a)=true) (hf:factsHold done a ρ k w o.op.operands.toList):execOp ρ o=execOp (known done a) o :=
 execOp_congr o (noSel_spec hs) fun x hx=>known_facts hk hf x (by simpa using hx)
def GuardYes (ops:Array Oper) (done:Done) (a:Act) (o:Oper):Prop :=
 o.guard=none∨∃ g want,o.guard=some (g,want)∧guardFact done a ops g=.is (.bool want)
theorem GuardYes.no (h:o.guard=none):GuardYes ops done a o:=.inl h
theorem GuardYes.yes {g:Nat} {want:Bool} (h:o.guard=some (g,want)) (hf:guardFact done a ops g=.is (.bool want)):GuardYes ops done a o:=.inr ⟨g,want,h,hf⟩
theorem StepOb.of {F:Fact} (hg:GuardYes ops done a o)
  (h:∀ ρ k w,Φ.I b i k w→factsHold done a ρ k w o.op.operands.toList→okUpon P F (Φ.J i k) (Φ.next i k) w ((execOp ρ o).run P w)):StepOb P ops a Φ b i done o F:=by
 intro ρ k w hI hf
 rcases hg with hg|⟨g,want,hg,hgf⟩
 ·simp only [hg]
  exact h ρ k w hI hf
 ·simp only [hg,hgf,Fact.holds]
  rintro vg rfl
  exact ⟨fun _=>h ρ k w hI hf,fun hn=>absurd rfl hn⟩
theorem Walk.pure {v:Value} (hle:∀ w,Φ.Le w w) (hch:Φ.chain.idxOf? i=none) (hg:GuardYes ops done a o) (hs:noSel o.op=true) (hk:o.op.operands.toList.all (isKnown done a)=true)
  (h:∀ k w,Φ.I b i k w→(execOp (known done a) o).run P w=.ok (.value v) w)
  (hw:Walk P ops a Φ b Q (i+1) ((o.dst,.is v) :: done) l):Walk P ops a Φ b Q i done (o :: l):=by
 refine ⟨.is v,trivial,StepOb.of hg fun ρ k w hI hf=>?_,hw⟩
 simp only [known_exec hs hk hf,h k w hI,okUpon,Fact.holds,true_and]
 unfold Frames.J
 rw [hch]
 exact hle w
theorem Walk.skip {bb:Bool} {g:Nat} {want:Bool} (hle:∀ w,Φ.Le w w) (hch:Φ.chain.idxOf? i=none) (hg:o.guard=some (g,want)) (hgf:guardFact done a ops g=.is (.bool bb)) (hb:bb≠want)
  (hw:Walk P ops a Φ b Q (i+1) ((o.dst,.is undef) :: done) l):Walk P ops a Φ b Q i done (o :: l):=by
 refine ⟨.is undef,trivial,fun ρ k w hI hf=>?_,hw⟩
 simp only [hg,hgf,Fact.holds]
 rintro vg rfl
 refine ⟨fun h=>absurd (by injection h) hb,fun _=>⟨trivial,?_⟩⟩
 unfold Frames.J
 rw [hch]
 exact hle w
theorem Walk.call (F:Fact) (hst:F.stable Φ) (hg:GuardYes ops done a o) (hs:noSel o.op=true) (hk:o.op.operands.toList.all (isKnown done a)=true)
  (h:∀ k w,Φ.I b i k w→okUpon P F (Φ.J i k) (Φ.next i k) w ((execOp (known done a) o).run P w))
  (hw:Walk P ops a Φ b Q (i+1) ((o.dst,F) :: done) l):Walk P ops a Φ b Q i done (o :: l) :=
 ⟨F,hst,StepOb.of hg fun ρ k w hI hf=>by rw [known_exec hs hk hf];exact h k w hI,hw⟩
theorem Walk.str {d:Option Tmp} {src dst e:TypeId} {x:Operand} {ty:TypeId} {pos:String} {af:Array Edge} {gd:Option (Nat × Bool)} (bs:List UInt8)
  (hle:∀ w,Φ.Le w w) (hch:Φ.chain.idxOf? i=none) (hg:GuardYes ops done a ⟨d,.convert src dst x,ty,pos,af,gd⟩)
  (hs:P.underlying src=some (.slice e)) (he:P.underlying e=some (.int .u8)) (hd:P.underlying dst=some .string)
  (hf:∀ k w u,Φ.I b i k w→(factOf done a x).holds k u w→∃ A n c,u=.slice A n c∧Hid (bs.length=n)∧Rd w A (bs.map bv))
  (hw:Walk P ops a Φ b Q (i+1) ((d,.is (.string ⟨bs.toArray⟩)) :: done) l):Walk P ops a Φ b Q i done (⟨d,.convert src dst x,ty,pos,af,gd⟩ :: l):=by
 refine ⟨.is (.string ⟨bs.toArray⟩),trivial,StepOb.of hg fun ρ k w hI hfs=>?_,hw⟩
 obtain ⟨A,n,c,hu,hn,hb⟩:=hf k w (ρ x) hI hfs.1
 have hr:=run_str (P:=P) hb src dst e n c hn.out.symm hs he hd
 simp only [execOp,hu,Sem.run_bind,hr,Result.andThen_ok,Sem.run_pure,okUpon,Fact.holds,true_and]
 unfold Frames.J
 rw [hch]
 exact hle w
theorem Walk.any (F:Fact) (hst:F.stable Φ) (hg:GuardYes ops done a o)
  (h:∀ ρ k w,Φ.I b i k w→factsHold done a ρ k w o.op.operands.toList→okUpon P F (Φ.J i k) (Φ.next i k) w ((execOp ρ o).run P w))
  (hw:Walk P ops a Φ b Q (i+1) ((o.dst,F) :: done) l):Walk P ops a Φ b Q i done (o :: l) :=
 ⟨F,hst,StepOb.of hg h,hw⟩
end
end
end Go.Proofs.Ytoihiehoolehiaa.Bk.Vc
set_option linter.unusedVariables false
set_option linter.unusedSimpArgs false
namespace Go.Proofs.Ytoihiehoolehiaa.Bk.Vc
open Go.RowKit
section
variable {P:Program} {ops:Array Oper} {b:Array Nat} {chain:List Nat} {size:Nat}
theorem walk_gives_to {a:Act} {Φ:Frames} {Q:Act→World→Prop} {m:Nat} : ∀ (l:List Oper) (k:Nat) (Fs₀:Nat→Fact),(∀ j,j < l.length→l[j]? = ops[k+j]?)→k+l.length=m→m≤ops.size →
  Walk P ops a Φ b Q k (doneOf ops Fs₀ k) l →
  ∃ Fs:Nat→Fact,(∀ j,j < k∨m≤j→Fs j=Fs₀ j)∧(∀ i o,k≤i→i < m→ops[i]? = some o→(Fs i).stable Φ∧StepOb P ops a Φ b i (doneOf ops Fs i) o (Fs i)) ∧
   ∀ w,Φ.G Φ.chain.length w→finish (fun a'=>Q a' w) Φ.chain.length w (doneOf ops Fs m).reverse a
 | [],k,Fs₀,hl,hk,hm,h=>by
  refine ⟨Fs₀,fun _ _=>rfl,fun i o hi him ho=>?_,?_⟩
  ·simp at hk
   omega
  ·have hk':k=m:=by simpa using hk
   rw [← hk']
   exact h
 | o :: l,k,Fs₀,hl,hk,hmo,h=>by
  have h0:ops[k]? = some o:=by simpa using (hl 0 (by simp)).symm
  obtain ⟨F,hst,hob,hw⟩:=h
  let Fs₁:Nat→Fact:=fun j=>if j=k then F else Fs₀ j
  have hdone:∀ m,m≤k→doneOf ops Fs₁ m=doneOf ops Fs₀ m:=by
   intro m
   induction m with
   | zero=>intro _;rfl
   | succ m ihm =>
    intro hm
    have:Fs₁ m=Fs₀ m:=by simp [Fs₁,show m≠k by omega]
    simp only [doneOf,this,ihm (by omega)]
  have hstep:doneOf ops Fs₁ (k+1)=(o.dst,F) :: doneOf ops Fs₀ k:=by
   have:Fs₁ k=F:=by simp [Fs₁]
   simp only [doneOf,this,hdone k (Nat.le_refl _),dstOf,h0,Option.bind_some]
  rw [← hstep] at hw
  obtain ⟨Fs,hsame,hall,hfin⟩:=walk_gives_to l (k+1) Fs₁ (fun j hj=>by have:=hl (j+1) (by simpa using hj);simpa [Nat.add_assoc,Nat.add_comm 1 j] using this) (by simp at hk;omega) hmo hw
  have hFk:Fs k=F:=by rw [hsame k (.inl (by omega))];simp [Fs₁]
  have hFd:∀ m,m≤k→doneOf ops Fs m=doneOf ops Fs₀ m:=by
   intro m
   induction m with
   | zero=>intro _;rfl
   | succ m ihm =>
    intro hm
    have h1:Fs m=Fs₀ m:=by rw [hsame m (.inl (by omega))];simp [Fs₁,show m≠k by omega]
    simp only [doneOf,h1,ihm (by omega)]
  refine ⟨Fs,fun j hj=>?_,fun i oi hi him hoi=>?_,hfin⟩
  ·have hj':j≠k:=by simp at hk;omega
   rw [hsame j (by omega)]
   simp [Fs₁,hj']
  ·by_cases hik:i=k
   ·subst hik
    rw [h0] at hoi
    injection hoi with hoi
    subst hoi
    rw [hFk,hFd i (Nat.le_refl _)]
    exact ⟨hst,hob⟩
   ·exact hall i oi (by omega) him hoi
theorem finish_gives_to {chain:List Nat} {a a':Act} {st:Nat} {w:World} {Fs:Nat→Fact} {Q:Act→Prop} {m:Nat} (hm:m≤ops.size) (h:okB ops b chain a.tmps.size=true)
  (hsz:a'.tmps.size=a.tmps.size) (hdf:a'.defers=a.defers) (hbase:∀ t,(∀ j,j < m→dstOf ops j≠some t)→a'.tmps[t]? = a.tmps[t]?)
  (hfacts:∀ j d,j < m→dstOf ops j=some d→(Fs j).holds st (a'.tmps.getD d undef) w) :
  ∀ (n k:Nat) (x:Act),k+n=m→x.tmps.size=a.tmps.size→x.defers=a.defers →
   (∀ t,(∀ j,k≤j→j < m→dstOf ops j≠some t)→x.tmps[t]? = a'.tmps[t]?) →
   finish Q st w ((List.range' k n).map fun j=>(dstOf ops j,Fs j)) x→Q a'
 | 0,k,x,hk,hs,hd,hx,hfin=>by
  have:x=a':=by
   obtain ⟨xt,xd⟩:=x
   obtain ⟨at',ad⟩:=a'
   have e1:xt=at':=Array.ext_getElem? fun t=>hx t fun j h1 h2=>by omega
   have e2:xd=ad:=by simp at hd hdf;rw [hd,hdf]
   rw [e1,e2]
  rw [← this]
  exact hfin
 | n+1,k,x,hk,hs,hd,hx,hfin=>by
  simp only [List.range'_succ,List.map_cons] at hfin
  have step:∀ d v,dstOf ops k=some d→a'.tmps.getD d undef=v→finish Q st w ((List.range' (k+1) n).map fun j=>(dstOf ops j,Fs j)) (x.put (some d) v)→Q a':=by
   intro d v hdk hv hf
   refine finish_gives_to hm h hsz hdf hbase hfacts n (k+1) (x.put (some d) v) (by omega) (by rw [put_size];exact hs) (by rw [put_defers_same];exact hd) (fun t ht=>?_) hf
   by_cases htd:d=t
   ·subst htd
    have hlt:d < x.tmps.size:=by rw [hs];exact dst_lt h hdk
    have hlt':d < a'.tmps.size:=by rw [hsz];exact dst_lt h hdk
    simp only [Act.put]
    rw [Array.getElem?_setIfInBounds_self_of_lt hlt,← hv]
    simp [hlt']
   ·simp only [Act.put,Array.getElem?_setIfInBounds_ne htd]
    exact hx t fun j h1 h2=>by
     by_cases hjk:j=k
     ·subst hjk;rw [hdk];intro e;injection e with e;exact htd e
     ·exact ht j (by omega) h2
  cases hdk:dstOf ops k with
  | none =>
   rw [hdk] at hfin
   simp only [finish] at hfin
   refine finish_gives_to hm h hsz hdf hbase hfacts n (k+1) x (by omega) hs hd (fun t ht=>hx t fun j h1 h2=>?_) hfin
   by_cases hjk:j=k
   ·subst hjk;rw [hdk];intro e;cases e
   ·exact ht j (by omega) h2
  | some d =>
   rw [hdk] at hfin
   have hf:=hfacts k d (by omega) hdk
   cases hF:Fs k with
   | is v =>
    rw [hF] at hfin hf
    simp only [finish] at hfin
    exact step d v hdk hf hfin
   | fits F =>
    rw [hF] at hfin hf
    simp only [finish] at hfin
    exact step d _ hdk rfl (hfin _ hf)
def tailOk (ops:Array Oper) (b:Array Nat) (m:Nat):Bool:=(List.range ops.size).all fun i=>Nat.blt i m || (List.range i).all fun j=>bit b i j
theorem tailOk_at {m:Nat} (h:tailOk ops b m=true) {i j:Nat} (hi:i < ops.size) (hm:m≤i) (hj:j < i):bit b i j=true:=by
 simp only [tailOk,List.all_eq_true,List.mem_range,Bool.or_eq_true,Nat.blt_eq] at h
 rcases h i hi with h|h
 ·omega
 ·exact h j hj
theorem drop_cons_of {l:List Oper} {k:Nat} (h:k < l.length):∃ o,l[k]? = some o∧l.drop k=o :: l.drop (k+1) :=
 ⟨l[k],List.getElem?_eq_getElem h,List.drop_eq_getElem_cons h⟩
theorem tail_any {Q:Exit→Act→World→Prop} {l:List Oper} {m:Nat} (h:okB l.toArray b chain size=true) (ht:tailOk l.toArray b m=true) :
  ∀ (n k:Nat) (listed:Array Bool) (a:Act) (w:World),k+n=l.length→m≤k→listed.size=l.length→(∀ j,j < l.length→listed.getD j false=decide (j < k)) →
   wpList P l.toArray Q (l.drop k) a w→wpAny P .any l.toArray Q n listed a w
 | 0,k,listed,a,w,hk,hmk,hs,hl,hw=>by
  have e:l.drop k = []:=List.drop_eq_nil_of_le (by omega)
  rw [e] at hw
  refine ⟨?_,hw⟩
  cases hr:Region.ready .any l.toArray listed with
  | nil=>rfl
  | cons x xs =>
   exfalso
   have hm:x ∈ Region.ready .any l.toArray listed:=by rw [hr];simp
   obtain ⟨hx,ox,hox,_⟩:=mem_ready.1 hm
   have hlt:x < l.length:=by simpa using (Array.getElem?_eq_some_iff.1 hox).1
   have h1:=hl x hlt
   rw [listed_true hx] at h1
   simp at h1
   omega
 | n+1,k,listed,a,w,hk,hmk,hs,hl,hw=>by
  have hkl:k < l.length:=by omega
  obtain ⟨o,ho,hd⟩:=drop_cons_of hkl
  have hoa:l.toArray[k]? = some o:=by simpa using ho
  have hcl:Closed l.toArray fun i=>listed.getD i false:=by
   intro i oi hi hli e he hb
   have hil:i < l.length:=by simpa using (Array.getElem?_eq_some_iff.1 hi).1
   have h1:=hl i hil
   simp only at hli ⊢
   rw [hli] at h1
   have h2:=edge_lt h hi he hb
   rw [hl e.on (by omega)]
   simp at h1 ⊢
   omega
  have hready:k ∈ Region.ready .any l.toArray listed:=by
   refine mem_ready.2 ⟨?_,o,hoa,fun e he hb=>?_⟩
   ·have:=hl k hkl
    have hk':k < listed.size:=by omega
    simp [hk'] at this ⊢
    exact this
   ·have h2:=edge_lt h hoa he hb
    rw [hl e.on (by omega)]
    simpa using h2
  refine ⟨fun hr=>by rw [hr] at hready;simp at hready,fun i hi=>?_⟩
  obtain ⟨hun',oi,hoi,hall⟩:=mem_ready.1 hi
  have hun:=listed_true hun'
  have hil:i < l.length:=by simpa using (Array.getElem?_eq_some_iff.1 hoi).1
  have hik:i=k:=by
   have h1:=hl i hil
   rw [hun] at h1
   have hki:k≤i:=by simpa using h1.symm
   rcases Nat.lt_or_ge k i with hlt|hge
   ·have hbit:=tailOk_at ht (show i < l.toArray.size by rw [List.size_toArray];exact hil) (by omega) hlt
    have:=listed_of_bit h hcl k (show k < l.toArray.size by rw [List.size_toArray];exact hkl) i oi hoi hall hbit
    rw [hl k hkl] at this
    simp at this
   ·omega
  subst hik
  have next:∀ a' w',wpList P l.toArray Q (l.drop (i+1)) a' w'→wpAny P .any l.toArray Q n (listed.setIfInBounds i true) a' w':=fun a' w' hw' =>
   tail_any h ht n (i+1) _ a' w' (by omega) (by omega) (by simpa using hs) (fun j hj=>by
    by_cases hji:i=j
    ·subst hji
     have:i < listed.size:=by omega
     simp [this]
    ·rw [getD_set_ne false hji,hl j hj]
     simp
     omega) hw'
  rw [hd] at hw
  have e:wpOp P l.toArray Q i (wpList P l.toArray Q (l.drop (i+1))) a w:=by
   unfold wpOp
   simp only [hoa]
   exact hw
  exact wpOp_mono next e
def Makes (P:Program) (o:Oper):Prop:=o.guard=none∧∀ ρ w n w',(execOp ρ o).run P w=.ok n w'→n=.value (.pointer (some ⟨w.heap.size,0,none⟩))∧w.heap.size < w'.heap.size
def Apart (ops:Array Oper) (news:List Nat) (a:Act):Prop:=∀ i ∈ news,∀ j ∈ news,i≠j→∀ d d',dstOf ops i=some d→dstOf ops j=some d'→a.tmps.getD d undef≠a.tmps.getD d' undef
structure Fresh (ops:Array Oper) (news:List Nat) (listed:Array Bool) (a:Act) (w:World):Prop where
 at_:∀ i ∈ news,listed.getD i false=true→∀ d,dstOf ops i=some d→∃ g,a.tmps.getD d undef=.pointer (some ⟨g,0,none⟩)∧g < w.heap.size
 apart:∀ i ∈ news,∀ j ∈ news,i≠j→listed.getD i false=true→listed.getD j false=true→∀ d d',dstOf ops i=some d→dstOf ops j=some d'→a.tmps.getD d undef≠a.tmps.getD d' undef
theorem put_other {a:Act} {d d':Nat} {v:Value} (h:d'≠d):(a.put (some d') v).tmps.getD d undef=a.tmps.getD d undef:=by
 simp only [Act.put,Array.getD_eq_getD_getElem?,Array.getElem?_setIfInBounds_ne h]
theorem put_self' {a:Act} {d:Nat} {v:Value} (h:d < a.tmps.size):(a.put (some d) v).tmps.getD d undef=v:=by
 simp [Act.put,h]
theorem Fresh.next {news:List Nat} {listed:Array Bool} {a:Act} {w w1:World} {i:Nat} {o:Oper} {v:Value} (h:okB ops b chain size=true) (hs:a.tmps.size=size) (hF:Fresh ops news listed a w)
  (hi:ops[i]? = some o) (hz:w.heap.size≤w1.heap.size) (hv:i ∈ news→v=.pointer (some ⟨w.heap.size,0,none⟩)∧w.heap.size < w1.heap.size) (hil:i < listed.size) :
  Fresh ops news (listed.setIfInBounds i true) (a.put o.dst v) w1:=by
 have hset:∀ c,(listed.setIfInBounds i true).getD c false=true→c≠i→listed.getD c false=true:=fun c hc hci=>by
  rwa [getD_set_ne false (fun e=>hci e.symm)] at hc
 have hdi:dstOf ops i=o.dst:=by simp [dstOf,hi]
 have old:∀ j d,j≠i→dstOf ops j=some d→(a.put o.dst v).tmps.getD d undef=a.tmps.getD d undef:=by
  intro j d hj hd
  cases ho:o.dst with
  | none=>rfl
  | some d'=>exact put_other (fun e=>hj (uniq h hd (by rw [hdi,ho,e])))
 have new:∀ d,dstOf ops i=some d→(a.put o.dst v).tmps.getD d undef=v:=by
  intro d hd
  rw [hdi] at hd
  rw [hd]
  exact put_self' (by rw [hs];exact dst_lt h (hdi.trans hd))
 refine ⟨fun j hj hl d hd=>?_,fun j hj k hk hne hl hl' d d' hd hd'=>?_⟩
 ·by_cases hji:j=i
  ·subst hji
   obtain ⟨e,hlt⟩:=hv hj
   exact ⟨_,(new d hd).trans e,hlt⟩
  ·obtain ⟨g,e,hlt⟩:=hF.at_ j hj (hset j hl hji) d hd
   exact ⟨g,(old j d hji hd).trans e,by omega⟩
 ·by_cases hji:j=i
  ·subst hji
   obtain ⟨e,hlt⟩:=hv hj
   obtain ⟨g,e',hlt'⟩:=hF.at_ k hk (hset k hl' (fun e=>hne e.symm)) d' hd'
   rw [new d hd,old k d' (fun e=>hne e.symm) hd',e,e']
   intro h0
   injection h0 with h0
   injection h0 with h0
   injection h0 with h0
   omega
  ·by_cases hki:k=i
   ·subst hki
    obtain ⟨e,hlt⟩:=hv hk
    obtain ⟨g,e',hlt'⟩:=hF.at_ j hj (hset j hl hji) d hd
    rw [new d' hd',old j d hji hd,e,e']
    intro h0
    injection h0 with h0
    injection h0 with h0
    injection h0 with h0
    omega
   ·rw [old j d hji hd,old k d' hki hd']
    exact hF.apart j hj k hk hne (hset j hl hji) (hset k hl' hki) d d' hd hd'
theorem count_tail {listed:Array Bool} {m n:Nat} (hs:listed.size=n) (hm:m≤n) (hl:∀ j,j < n→listed.getD j false=decide (j < m)):listed.toList.count false=n - m:=by
 have e:listed.toList=List.replicate m true ++ List.replicate (n - m) false:=by
  apply List.ext_getElem
  ·simp;omega
  ·intro j h1 h2
   have hj:j < n:=by simpa [hs] using h1
   have:=hl j hj
   have hjl:j < listed.size:=by omega
   simp [hjl] at this
   rw [List.getElem_append]
   split
   ·rename_i h3
    simp at h3
    simp [this,h3]
   ·rename_i h3
    simp at h3
    simp [this]
    omega
 rw [e,List.count_append,List.count_replicate,List.count_replicate]
 simp
theorem walk_split {a:Act} {Φ:Frames} {Fs:Nat→Fact} {Q:Exit→Act→World→Prop} {l:List Oper} {m:Nat} {news:List Nat} (hops:ops=l.toArray) (h:okB ops b Φ.chain a.tmps.size=true)
  (ht:tailOk ops b m=true) (hml:m≤l.length) (hcm:∀ c ∈ Φ.chain,c < m) (hnm:∀ i ∈ news,∃ o,ops[i]? = some o∧Makes P o)
  (hsz:∀ w w',Φ.Le w w'→w.heap.size≤w'.heap.size) (hszC:∀ k w w',Φ.LeC k w w'→w.heap.size≤w'.heap.size) (hnews:∀ i ∈ news,i < m)
  (hG:∀ k w w',Φ.Le w w'→Φ.G k w→Φ.G k w') (hst:∀ i o,ops[i]? = some o→(Fs i).stable Φ)
  (hob:∀ i o,i < m→ops[i]? = some o→(Fs i).stable Φ∧StepOb P ops a Φ b i (doneOf ops Fs i) o (Fs i))
  (hfin:∀ w,Φ.G Φ.chain.length w→finish (fun a'=>Apart ops news a'→wpList P ops Q (l.drop m) a' w) Φ.chain.length w (doneOf ops Fs m).reverse a) :
  ∀ (fuel:Nat) (listed:Array Bool) (a':Act) (w:World),listed.toList.count false=fuel→Inv ops a Φ Fs listed a' w→Fresh ops news listed a' w →
   (∀ i,m≤i→i < l.length→listed.getD i false=false)→wpAny P .any ops Q fuel listed a' w:=by
 have hz0:ops.size=l.length:=by rw [hops,List.size_toArray]
 intro fuel
 induction fuel with
 | zero =>
  intro listed a' w hc hI hF hpre
  have hsl:listed.size=l.length:=by rw [hI.lsize,hz0]
  by_cases hall:∀ i,i < m→listed.getD i false=true
  ·have hld:∀ j,j < l.length→listed.getD j false=decide (j < m):=by
    intro j hj
    by_cases hjm:j < m
    ·rw [hall j hjm];simp [hjm]
    ·rw [hpre j (by omega) hj];simp [hjm]
   have hcnt:=count_tail hsl hml hld
   have hcl:cnt Φ listed=Φ.chain.length:=by
    have:(Φ.chain.filter fun c=>listed.getD c false)=Φ.chain:=List.filter_eq_self.2 fun c hc'=>hall c (hcm c hc')
    unfold cnt
    rw [this]
   have hf:=hfin w (hcl ▸ hI.stage)
   rw [doneOf_reverse] at hf
   have hf:=finish_gives_to (Q:=fun a'=>Apart ops news a'→wpList P ops Q (l.drop m) a' w) (m:=m) (by omega) h hI.size hI.defers
    (fun t ht'=>hI.base t fun j hl e=>by
     have hjl:j < l.length:=by
      unfold dstOf at e
      obtain ⟨oj,hoj,_⟩:=Option.bind_eq_some_iff.1 e
      have:=(Array.getElem?_eq_some_iff.1 hoj).1;omega
     rw [hld j hjl] at hl
     exact ht' j (by simpa using hl) e)
    (fun j d hj hd=>hcl ▸ hI.facts j d (hall j hj) hd) m 0 a (by omega) rfl rfl
    (fun t ht'=>(hI.base t fun j hl e=>by
     have hjl:j < l.length:=by
      unfold dstOf at e
      obtain ⟨oj,hoj,_⟩:=Option.bind_eq_some_iff.1 e
      have:=(Array.getElem?_eq_some_iff.1 hoj).1;omega
     rw [hld j hjl] at hl
     exact ht' j (by omega) (by simpa using hl) e).symm) hf
   have hf:=hf (fun i hi j hj hne d d' hd hd'=>hF.apart i hi j hj hne (hall i (hnews i hi)) (hall j (hnews j hj)) d d' hd hd')
   subst hops
   exact tail_any h ht _ m listed a' w (by omega) (Nat.le_refl _) hsl hld hf
  ·exfalso
   apply hall
   intro i hi
   cases hx:listed.getD i false with
   | true=>rfl
   | false =>
    have:=count_set (by omega) hx
    omega
 | succ fuel ih =>
  intro listed a' w hc hI hF hpre
  have hsl:listed.size=l.length:=by rw [hI.lsize,hz0]
  by_cases hall:∀ i,i < m→listed.getD i false=true
  ·have hld:∀ j,j < l.length→listed.getD j false=decide (j < m):=by
    intro j hj
    by_cases hjm:j < m
    ·rw [hall j hjm];simp [hjm]
    ·rw [hpre j (by omega) hj];simp [hjm]
   have hcnt:=count_tail hsl hml hld
   have hcl:cnt Φ listed=Φ.chain.length:=by
    have:(Φ.chain.filter fun c=>listed.getD c false)=Φ.chain:=List.filter_eq_self.2 fun c hc'=>hall c (hcm c hc')
    unfold cnt
    rw [this]
   have hf:=hfin w (hcl ▸ hI.stage)
   rw [doneOf_reverse] at hf
   have hf:=finish_gives_to (Q:=fun a'=>Apart ops news a'→wpList P ops Q (l.drop m) a' w) (m:=m) (by omega) h hI.size hI.defers
    (fun t ht'=>hI.base t fun j hl e=>by
     have hjl:j < l.length:=by
      unfold dstOf at e
      obtain ⟨oj,hoj,_⟩:=Option.bind_eq_some_iff.1 e
      have:=(Array.getElem?_eq_some_iff.1 hoj).1;omega
     rw [hld j hjl] at hl
     exact ht' j (by simpa using hl) e)
    (fun j d hj hd=>hcl ▸ hI.facts j d (hall j hj) hd) m 0 a (by omega) rfl rfl
    (fun t ht'=>(hI.base t fun j hl e=>by
     have hjl:j < l.length:=by
      unfold dstOf at e
      obtain ⟨oj,hoj,_⟩:=Option.bind_eq_some_iff.1 e
      have:=(Array.getElem?_eq_some_iff.1 hoj).1;omega
     rw [hld j hjl] at hl
     exact ht' j (by omega) (by simpa using hl) e).symm) hf
   have hf:=hf (fun i hi j hj hne d d' hd hd'=>hF.apart i hi j hj hne (hall i (hnews i hi)) (hall j (hnews j hj)) d d' hd hd')
   subst hops
   exact tail_any h ht _ m listed a' w (by omega) (Nat.le_refl _) hsl hld hf
  ·refine ⟨fun hr=>absurd (fun i hi=>ready_nil h hI hr i (by omega)) hall,fun i hm=>?_⟩
   obtain ⟨hun',o,hi,hall'⟩:=mem_ready.1 hm
   have hun:=listed_true hun'
   have hlt:i < listed.size:=by rw [hI.lsize];exact (Array.getElem?_eq_some_iff.1 hi).1
   have hcount:(listed.setIfInBounds i true).toList.count false=fuel:=by have:=count_set hlt hun;omega
   have him:i < m:=by
    rcases Nat.lt_or_ge i m with h'|h'
    ·exact h'
    ·exfalso
     apply hall
     intro j hj
     exact listed_of_bit h hI.closed j (by omega) i o hi hall' (tailOk_at ht (Array.getElem?_eq_some_iff.1 hi).1 h' (by omega))
   obtain ⟨_,hob'⟩:=hob i o him hi
   have hIi:=stage_at h hI hi hun hall'
   have hfs:=facts_all h hI hi hun hall' o.op.operands.toList (fun x hx=>by simpa using hx)
   have hsteps:=hob' a'.eval _ w hIi hfs
   have hmk:i ∈ news→∀ n w',(execOp a'.eval o).run P w=.ok n w'→n=.value (.pointer (some ⟨w.heap.size,0,none⟩))∧w.heap.size < w'.heap.size:=fun hi'=>by
    obtain ⟨o',ho',hm'⟩:=hnm i hi'
    rw [hi] at ho'
    injection ho' with ho'
    subst ho'
    exact hm'.2 _ _
   have hng:i ∈ news→o.guard=none:=fun hi'=>by
    obtain ⟨o',ho',hm'⟩:=hnm i hi'
    rw [hi] at ho'
    injection ho' with ho'
    subst ho'
    exact hm'.1
   have hJz:∀ w1,Φ.J i (cnt Φ listed) w w1→w.heap.size≤w1.heap.size:=fun w1 hJ=>by
    unfold Frames.J at hJ
    cases hk:Φ.chain.idxOf? i with
    | none=>rw [hk] at hJ;exact hsz _ _ hJ
    | some x=>rw [hk] at hJ;exact hszC _ _ _ hJ.1
   have next:∀ v w1,(Fs i).holds (Φ.next i (cnt Φ listed)) v w1→Φ.J i (cnt Φ listed) w w1→(i ∈ news→v=.pointer (some ⟨w.heap.size,0,none⟩)∧w.heap.size < w1.heap.size)→wpAny P .any ops Q fuel (listed.setIfInBounds i true) (a'.put o.dst v) w1:=fun v w1 hFv hJ hv =>
    ih _ _ _ hcount (inv_next h hG hst hI hi hun hall' hFv hJ) (hF.next h hI.size hi (hJz w1 hJ) hv hlt) (fun j hj hjl=>by rw [getD_set_ne false (by omega)];exact hpre j hj hjl)
   have run:okUpon P (Fs i) (Φ.J i (cnt Φ listed)) (Φ.next i (cnt Φ listed)) w ((execOp a'.eval o).run P w)→Oper.wp P o a' w (wpAny P .any ops Q fuel (listed.setIfInBounds i true)) Q:=by
    intro hok
    unfold Oper.wp
    generalize (execOp a'.eval o).run P w=r at *
    cases r with
    | ok n w1 =>
     cases n <;> simp only [okUpon] at hok <;> simp only [Oper.upon]
     case value v=>exact next v w1 hok.1 hok.2 (fun hi'=>by obtain ⟨e,hlt'⟩:=hmk hi' _ _ rfl;injection e with e;exact ⟨e,hlt'⟩)
     case skip=>exact next undef w1 hok.1 hok.2 (fun hi'=>by obtain ⟨e,_⟩:=hmk hi' _ _ rfl;cases e)
     case enter f args=>exact hok.mono fun e w2 ⟨v,he,h1,h2⟩=>by subst he;exact next v w2 h1 h2 (fun hi'=>by obtain ⟨e,_⟩:=hmk hi' _ _ rfl;cases e)
    | halt x w1=>simp only [okUpon] at hok
   unfold wpOp
   simp only [hi]
   cases hg:o.guard with
   | none =>
    simp only [hg] at hsteps
    simp only [Region.wanted,hg,if_true]
    exact .inl (run hsteps)
   | some gw =>
    obtain ⟨g,want⟩:=gw
    simp only [hg] at hsteps
    cases hd:dstOf ops g with
    | none =>
     have hy:yielded ops a'.tmps g=none:=by simp only [dstOf] at hd;simp [yielded,hd]
     have hw:Region.wanted o (yielded ops a'.tmps)=false:=by simp [Region.wanted,hg,hy]
     obtain ⟨_,h2⟩:=hsteps undef (by simp only [guardFact,hd];rfl)
     obtain ⟨hF',hJ⟩:=h2 (undef_ne want)
     rw [hw]
     exact next undef w hF' hJ (fun hi'=>by have:=hng hi';rw [hg] at this;cases this)
    | some d =>
     have hdt:d ∈ tmpsOf ops o:=List.mem_append_right _ (by simp [hg,hd])
     have hfg:=tmp_fact h hI hi hun hall' hdt
     obtain ⟨h1,h2⟩:=hsteps (a'.tmps.getD d undef) (by simp only [guardFact,hd];exact hfg)
     have hd':=hd
     simp only [dstOf] at hd'
     by_cases hv:a'.tmps.getD d undef=.bool want
     ·have hw:Region.wanted o (yielded ops a'.tmps)=true:=by
       have:a'.tmps[d]? = some (.bool want):=by
        rcases Nat.lt_or_ge d a'.tmps.size with h'|h'
        ·simp [h'] at hv ⊢;exact hv
        ·simp [Array.getElem?_eq_none h'] at hv
         exact absurd hv (undef_ne want)
       simp [Region.wanted,hg,yielded,hd',this]
      rw [hw]
      exact .inl (run (h1 hv))
     ·have hw:Region.wanted o (yielded ops a'.tmps)=false:=by
       simp only [Region.wanted,hg,yielded,hd',Option.bind_some]
       rcases Nat.lt_or_ge d a'.tmps.size with h'|h'
       ·have hx:a'.tmps[d]? = some (a'.tmps.getD d undef):=by simp [h']
        rw [hx]
        cases hval:a'.tmps.getD d undef <;> simp_all
       ·simp [Array.getElem?_eq_none h']
      obtain ⟨hF',hJ⟩:=h2 hv
      rw [hw]
      exact next undef w hF' hJ (fun hi'=>by have:=hng hi';rw [hg] at this;cases this)
theorem wp_region_split {id:Nat} {l:List Oper} {a:Act} {w:World} {Q:Exit→Act→World→Prop} (Φ:Frames) (m:Nat) (news:List Nat) (hm:P.follows .mixedOrders=true)
  (h:okB l.toArray (Region.before l.toArray) Φ.chain a.tmps.size=true) (ht:tailOk l.toArray (Region.before l.toArray) m=true) (hml:m≤l.length) (hcm:∀ c ∈ Φ.chain,c < m)
  (hnm:∀ i ∈ news,∃ o,l.toArray[i]? = some o∧Makes P o) (hnews:∀ i ∈ news,i < m)
  (hsz:∀ w w',Φ.Le w w'→w.heap.size≤w'.heap.size) (hszC:∀ k w w',Φ.LeC k w w'→w.heap.size≤w'.heap.size)
  (hG:∀ k w w',Φ.Le w w'→Φ.G k w→Φ.G k w') (h0:Φ.G 0 w.drew)
  (hw:Walk P l.toArray a Φ (Region.before l.toArray) (fun a' w'=>Apart l.toArray news a'→wpList P l.toArray Q (l.drop m) a' w') 0 [] (l.take m)):(Code.region id l.toArray true).wp P Q a w:=by
 refine wp_region_any hm ?_
 have hlt:(l.take m).length=m:=by rw [List.length_take];omega
 obtain ⟨Fs,hrest,hall,hfin⟩:=walk_gives_to (P:=P) (ops:=l.toArray) (b:=Region.before l.toArray) (a:=a) (Φ:=Φ) (m:=m) (l.take m) 0 (fun _=>.is undef) (fun j hj=>by rw [hlt] at hj;simp [List.getElem?_take_of_lt hj]) (by omega) (by rw [List.size_toArray];exact hml) hw
 refine walk_split rfl h ht hml hcm hnm hsz hszC hnews hG (fun i o hi=>?_) (fun i o him hi=>hall i o (Nat.zero_le _) him hi) hfin _ _ a w.drew (by simp) ⟨by simp,fun i o hi hl=>?_,rfl,rfl,fun t _=>rfl,fun j d hl=>?_,?_⟩ ⟨fun i _ hl=>?_,fun i _ j _ _ hl=>?_⟩ (fun i _ _=>rep_false _ _)
 ·by_cases him:i < m
  ·exact (hall i o (Nat.zero_le _) him hi).1
  ·rw [hrest i (.inr (by omega))]
   trivial
 ·exact absurd ((rep_false _ _).symm.trans hl) (by simp)
 ·exact absurd ((rep_false _ _).symm.trans hl) (by simp)
 ·have:(Φ.chain.filter fun c=>(Array.replicate l.toArray.size false).getD c false) = []:=List.filter_eq_nil_iff.2 fun c _=>by rw [rep_false];simp
  unfold cnt
  rw [this]
  exact h0
 ·exact absurd ((rep_false _ _).symm.trans hl) (by simp)
 ·exact absurd ((rep_false _ _).symm.trans hl) (by simp)
end
end Go.Proofs.Ytoihiehoolehiaa.Bk.Vc
set_option linter.unusedVariables false
set_option linter.unusedSimpArgs false
set_option maxRecDepth 100000
namespace Go.Proofs.Ytoihiehoolehiaa.Bk
open Go.RowKit Go.Proofs.YtoihiehoolehiaaW.PrintWords Go.Proofs.YtoihiehoolehiaaW.PrintLast Go.Proofs.YtoihiehoolehiaaW.PrintMore Go.Proofs.Ytoihiehoolehiaa.PX
attribute [local go_sem] Vc.known_tmp Vc.known_const Vc.known_func Vc.known_global Vc.lk Vc.okUpon Vc.Fact.holds
theorem mod_nat (a:Int) (n:Nat) (h:0 < n):∃ i:Nat,i < n∧a % (n:Int)=(i:Int):=by
 have h1:=Int.emod_nonneg a (show (n:Int)≠0 by omega)
 have h2:=Int.emod_lt_of_pos a (show (0:Int) < n by omega)
 exact ⟨(a % (n:Int)).toNat,by omega,by omega⟩
theorem part_mod (k t:Nat) (h:t < 4):(k * 4+t) % 4=t:=by omega
set_option maxHeartbeats 16000000 in
theorem walk4 (W:World) (A0:Option Addr) (c0:Nat) (s:Sc) (hl0:s.length≤c0) (hC:Kd.C k33 W A0 s.length s) (hs:ScIn s)
  (x1:Int) (b10 : -9223372036854775808≤x1) (b11:x1≤9223372036854775807) (x2:Int) (b20 : -9223372036854775808≤x2) (b21:x2≤9223372036854775807)
  (x3:Int) (b30 : -9223372036854775808≤x3) (b31:x3≤9223372036854775807) (x4:Int) (b40 : -9223372036854775808≤x4) (b41:x4≤9223372036854775807) :
  Calls Try.prog 3 #[.slice A0 s.length c0,.int .i64 x1,.int .i64 x2,.int .i64 x3,.int .i64 x4] W fun e W'=>e=.returned (.bool true)∧Gr W W':=by
 have HK:=Lib.hid (show Calls Try.prog 8 #[] W fun e w'=>e=.returned (.bool true)∧Gr W w' from by
  obtain ⟨k,hk⟩:=known4.rounds
  exact (cadencelaw4_known.calls k true W hk).mono fun e w' h=>⟨h.1,h.2⟩)
 obtain ⟨b,hb,hEv⟩:=few4_ev hs
 obtain ⟨kf,hkf⟩:=hEv.rounds
 have HF:=Lib.hid (fun W1 (hg:Gr W W1)=>show Calls Try.prog 9 #[.slice A0 s.length c0] W1 fun e w'=>e=.returned (.bool b)∧Gr W1 w' from (cadencelaw4_Few.calls kf A0 c0 s b W1 (Kd.C_below hC hg) hl0 hkf).mono fun e w' h=>⟨h.1,h.2.below⟩)
 obtain ⟨n0,hn0⟩:∃ n0,s.length=n0:=⟨_,rfl⟩
 cases b with
 | false =>
  rw [hn0] at HF ⊢
  clear hC hs hb hEv hkf
  go_enter Try.func3,Try.ntmps3
  go_wp2_with (first
   | (go_at_call 8;refine HK.out.mono ?_;rintro e w1 ⟨rfl,hg1⟩;replace hg1:=Lib.hid hg1)
   | (go_at_call 9;refine (HF.out _ hg1.out).mono ?_;rintro e w2 ⟨rfl,hg2⟩;replace hg2:=Lib.hid (hg1.out.trans' hg2)))
  go_ret
  exact ⟨rfl,hg2.out⟩
 | true =>
  have hsm:=hb rfl
  obtain ⟨r,hr,hEv2⟩:=make4_ev2 s hsm
  obtain ⟨km,hkm⟩:=hEv2.rounds
  have HM:=Lib.hid (fun W1 (hg:Gr W W1)=>(cadencelaw4_Make.calls km A0 c0 s r W1 (Kd.C_below hC hg) hl0 hkm))
  have HCs:=Lib.hid (fun W1 (hg:Gr W W1)=>checks_of hn0 (Kd.C_below hC hg) hl0 (fun d hd=>⟨by have:=(hsm.2 d hd).1;omega,fun f hf=>by have:=(hsm.2 d hd).2 f hf;omega⟩))
  have hck0:=check_good hr
  have hlo:=hr.lo
  have hhi:=hr.hi
  have hlr:∀ d ∈ r,d.f0.length≤3∧∀ f ∈ d.f0,f.f0.f1.length≤100:=fun d hd=>⟨(hr.df d hd).1,fun f hf=>by have:=((hr.df d hd).2.ok f hf).len;omega⟩
  have hl5:∀ d ∈ r,∀ f ∈ d.f0,f.f0.f1.length≤5:=fun d hd f hf=>by have:=((hr.df d hd).2.ok f hf).len;omega
  have hsm2:Sml r:=fun d hd=>⟨by have:=(hlr d hd).1;omega,fun f hf=>by have:=(hlr d hd).2 f hf;omega⟩
  obtain ⟨e1,he1⟩:∃ e1,checkM s=e1:=⟨_,rfl⟩
  rw [he1] at HCs
  have e0:(e1 == e1)=true:=by simp
  obtain ⟨n,hN⟩:∃ n,r.length=n:=⟨_,rfl⟩
  obtain ⟨i,hi',hie⟩:=mod_nat x2 n (by omega)
  have hi:i < r.length:=by omega
  have HWd:=Lib.hid (fun W=>hie ▸ within1_any x2 n W b20 b21 (by omega) (by omega))
  obtain ⟨z,hz6,hze⟩:=mod_nat x1 6 (by omega)
  have HW6:=Lib.hid (fun W=>(show x1 % 6=(z:Int) from hze) ▸ within1_any x1 6 W b10 b11 (by omega) (by omega))
  obtain ⟨z9,hz9,hz9e⟩:=mod_nat x4 9 (by omega)
  have HW9:=Lib.hid (fun W=>(show x4 % 9=(z9:Int) from hz9e) ▸ within1_any x4 9 W b40 b41 (by omega) (by omega))
  obtain ⟨nF,hnF⟩:∃ nF,r[i].f0.length=nF:=⟨_,rfl⟩
  have hnF3:nF≤3:=by have:=(hlr r[i] (List.getElem_mem hi)).1;omega
  rw [hn0] at HF HM ⊢
  have hn4:n≤4:=by omega
  have hn1:1≤n:=by omega
  replace hn0:=Lib.hid hn0
  replace hlo:=Lib.hid hlo
  clear hC hs hb hEv hkf hEv2 hkm hr hhi he1 hie hze hz9e hsm
  by_cases hF0:nF=0
  ·go_enter Try.func3,Try.ntmps3
   go_wp2_with (first
    | (go_at_call 8;refine HK.out.mono ?_;rintro e w1 ⟨rfl,hg1⟩;replace hg1:=Lib.hid hg1)
    | (go_at_call 9;refine (HF.out _ hg1.out).mono ?_;rintro e w2 ⟨rfl,hg2⟩;replace hg2:=Lib.hid (hg1.out.trans' hg2))
    | (go_at_call 10;refine (HM.out _ hg2.out).mono ?_;rintro e w3 ⟨v0,rfl,hR,hg3⟩
       obtain ⟨gT,cT,rfl,hcT,hat⟩:=made_at hR (by omega)
       obtain ⟨_,_,hCm⟩:=Kd.R_reads' hR
       have HCm:=Lib.hid (fun W1 (hg:Gr w3 W1)=>(checks_of hN (Kd.C_below hCm hg) hcT hsm2).1)
       rw [hck0] at HCm
       rw [hN] at hR hcT ⊢
       have hR3:=Lib.hid hR
       have hat3:=Lib.hid hat
       have hs2:=Lib.hid hg2.out.size
       replace hg3:=Lib.hid (hg2.out.trans' hg3)
       clear hR hat hCm HM)
    | (go_at_call 11;refine (HCm.out _ (hg4.out.trans' hg5.out)).mono ?_;rintro e w6 ⟨rfl,hg6⟩;have hg36:=Lib.hid ((hg4.out.trans' hg5.out).trans' hg6);clear hg6)
    | (go_at_call 11;refine ((HCs.out _ hg3.out).1).mono ?_;rintro e w4 ⟨rfl,hg4⟩;replace hg4:=Lib.hid hg4)
    | (go_at_call 12;refine ((HCs.out _ hg3.out).2 _ hg4.out).mono ?_;rintro e w5 ⟨rfl,hg5⟩;replace hg5:=Lib.hid hg5)
    | (go_at_call 13;refine (HWd.out _).mono ?_;rintro e w8 ⟨rfl,hw8⟩;subst hw8;obtain ⟨AF,cF,hxF,hatk⟩:=hat3.out i hi;rw [hnF] at hxF;have y0:=hg36.out.cell hxF;replace hatk:=Lib.hid hatk;clear hxF))
   go_ret
   exact ⟨rfl,hg3.out.trans' hg36.out⟩
  obtain ⟨kk,hkk,hkke⟩:=mod_nat x3 nF (by omega)
  have HWk:=Lib.hid (fun W=>hkke ▸ within1_any x3 nF W b30 b31 (by omega) (by omega))
  have hF0':((nF:Int) == 0)=false:=by simp;omega
  clear hkke
  go_enter Try.func3,Try.ntmps3
  go_wp2_with (first
   | (go_at_call 8;refine HK.out.mono ?_;rintro e w1 ⟨rfl,hg1⟩;replace hg1:=Lib.hid hg1)
   | (go_at_call 9;refine (HF.out _ hg1.out).mono ?_;rintro e w2 ⟨rfl,hg2⟩;replace hg2:=Lib.hid (hg1.out.trans' hg2))
   | (go_at_call 10;refine (HM.out _ hg2.out).mono ?_;rintro e w3 ⟨v0,rfl,hR,hg3⟩
      obtain ⟨gT,cT,rfl,hcT,hat⟩:=made_at hR (by omega)
      obtain ⟨_,_,hCm⟩:=Kd.R_reads' hR
      have HCm:=Lib.hid (fun W1 (hg:Gr w3 W1)=>(checks_of hN (Kd.C_below hCm hg) hcT hsm2).1)
      rw [hck0] at HCm
      rw [hN] at hR hcT ⊢
      have hR3:=Lib.hid hR
      have hat3:=Lib.hid hat
      have hs2:=Lib.hid hg2.out.size
      replace hg3:=Lib.hid (hg2.out.trans' hg3)
      clear hR hat hCm HM)
   | (go_at_call 11;refine (HCm.out _ (hg4.out.trans' hg5.out)).mono ?_;rintro e w6 ⟨rfl,hg6⟩;have hg36:=Lib.hid ((hg4.out.trans' hg5.out).trans' hg6);clear hg6)
   | (go_at_call 11;refine ((HCs.out _ hg3.out).1).mono ?_;rintro e w4 ⟨rfl,hg4⟩;replace hg4:=Lib.hid hg4)
   | (go_at_call 12;refine ((HCs.out _ hg3.out).2 _ hg4.out).mono ?_;rintro e w5 ⟨rfl,hg5⟩;replace hg5:=Lib.hid hg5)
   | (go_at_call 13;refine (HWd.out _).mono ?_;rintro e w8 ⟨rfl,hw8⟩;subst hw8;obtain ⟨AF,cF,hxF,hatk⟩:=hat3.out i hi;rw [hnF] at hxF;have y0:=hg36.out.cell hxF;replace hatk:=Lib.hid hatk;clear hxF))
  obtain ⟨gF,cur,AL,cL,rfl,hbF,hhF,q0,q1,q2,q3,hlL,hCL⟩:=hatk.out kk (by rw [hnF];exact hkk)
  obtain ⟨l,hl⟩:∃ l,r[i].f0[kk].f0.f1=l:=⟨_,rfl⟩
  have hl100:l.length≤100:=by rw [← hl];exact (hlr r[i] (List.getElem_mem hi)).2 _ (List.getElem_mem _)
  replace hl5:l.length≤5:=by rw [← hl];exact hl5 r[i] (List.getElem_mem hi) _ (List.getElem_mem _)
  rw [hl] at q1 hlL hCL
  obtain ⟨bA,hbA⟩:∃ bA,r[i].f0[kk].f0.f0=bA:=⟨_,rfl⟩
  obtain ⟨zT,hzT⟩:∃ zT,r[i].f0[kk].f1=zT:=⟨_,rfl⟩
  obtain ⟨bN,hbN⟩:∃ bN,r[i].f0[kk].f2=bN:=⟨_,rfl⟩
  rw [hbA] at q0
  rw [hzT] at q2
  rw [hbN] at q3
  have hrow3:Row w3 gF 40 cur.toList:=by unfold Row;simpa using hhF
  have y0d:w6.drew.cell? ⟨gT,i * 3,none⟩=some (.slice (some ⟨gF,0,none⟩) nF cF):=y0
  clear hatk hbA hzT hbN hl hat3
  refine Vc.wp_region_facts ⟨fun W W'=>W=W',fun _ _ _=>True,fun _ W=>W=w6.drew,[]⟩ (by kernel_rfl) (by kernel_rfl) (fun _ _ _ h h'=>h ▸ h') rfl ?_
  repeat
   refine Vc.Walk.pure (v:=?_) (fun _=>rfl) rfl (by first|exact Vc.GuardYes.no rfl|exact Vc.GuardYes.yes rfl rfl) rfl rfl ?_ ?_
   rotate_left
   ·intro _ W hI
    (have e:=(show W=w6.drew from hI.g);clear hI;subst e)
    go_simp
    exact rfl
  refine Vc.Walk.call (.is (.int .i64 (kk:Int))) trivial (.no rfl) rfl rfl ?_ ?_
  ·intro k0 W1 hI
   clear hI
   go_simp
   refine (HWk.out W1).mono ?_
   rintro e W' ⟨rfl,rfl⟩
   exact ⟨_,rfl,rfl,rfl⟩
  repeat
   refine Vc.Walk.pure (v:=?_) (fun _=>rfl) rfl (by first|exact Vc.GuardYes.no rfl|exact Vc.GuardYes.yes rfl rfl) rfl rfl ?_ ?_
   rotate_left
   ·intro _ W hI
    (clear hI)
    go_simp
    exact rfl
  rintro w7 hw7
  replace hw7:w7=w6.drew:=hw7
  have hg67:Gr w6 w7:=hw7 ▸ Gr.draw _
  simp only [List.reverse_cons,List.reverse_nil,List.nil_append,List.cons_append,Vc.finish,Act.put,List.setIfInBounds_toArray,List.set_cons_zero,List.set_cons_succ]
  have hg37:=hg36.out.trans' hg67
  have hg7:=Lib.hid (hg3.out.trans' hg37)
  have hrow7:=hrow3.gr hg37
  have hh7:w7.heap[gF]? = some (.cells cur 40 (0,0)):=by have:=hrow7;unfold Row at this;simpa using this
  have hR7:=Lib.hid (Kd.R_below hR3.out hg37)
  have p0:=hg37.cell q0
  have p1:=hg37.cell q1
  have p2:=hg37.cell q2
  have p3:=hg37.cell q3
  have hfz:=hrow7.frozen
  have hgF7:=Lib.hid hrow7.lt
  have hgFW:=Lib.hid (show W.heap.size≤gF from Nat.le_trans hg2.out.size hbF)
  have hCL7:=Lib.hid (Kd.C_below hCL hg37)
  have hset:=Lib.hid (fun (u:Value) (j:Nat) w1 w2 (h1:Gr w7 w1) (h2:Gr (w1.setCell ⟨gF,j,none⟩ u) w2)=>show Gr W w2 from (Gr.grownBk (hg7.out.trans' h1) (only_set w1 gF j u) (fun g e=>by injection e with e;have:=hgFW.out;omega)).trans' h2)
  replace hh7:=Lib.hid hh7
  replace hlr:=Lib.hid hlr
  replace hrow7:=Lib.hid hrow7
  clear q0 q1 q2 q3 hrow3 hhF hCL hg67 hg36 hg37 hbF hR3 y0 y0d hw7 HK HF HCs HCm HWd HWk hg1 hg2 hg3 hg4 hg5 hN hsm2 hck0 hs2
  rcases (by omega:z=0∨z=1∨z=2∨z=3∨z=4∨z=5) with rfl|rfl|rfl|rfl|rfl|rfl
  ·obtain ⟨q,h1,h2⟩:=both_turned (j:=kk * 4+2) hR7.out hh7.out hlr.out (turned_set p2 (.int .i64 x4)) (by rw [part_mod kk 2 (by omega)];exact .inr (.inr (.inl ⟨rfl,_,rfl⟩)))
   replace h1:=Lib.hid h1
   replace h2:=Lib.hid h2
   have e2:(q == q)=true:=by simp
   have hz0:=hfz (kk * 4+2)
   go_wp2_with (first
    | (go_at_call 13;refine (HW6.out _).mono ?_;rintro e w8 ⟨rfl,hw8⟩;subst hw8)
    | (go_at_call 11;refine h1.out.mono ?_;rintro e w21 ⟨rfl,hg21⟩;replace hg21:=Lib.hid hg21)
    | (go_at_call 12;refine (h2.out _ hg21.out).mono ?_;rintro e w22 ⟨rfl,hg22⟩))
   go_ret
   exact ⟨rfl,hset.out (.int .i64 x4) (kk * 4+2) _ _ (Gr.rfl' _) (hg21.out.trans' hg22)⟩
  ·obtain ⟨q,h1,h2⟩:=both_turned (j:=kk * 4) hR7.out hh7.out hlr.out (turned_set p0 (.bool (!bA))) (by rw [show kk * 4 % 4=0 by omega];exact .inl ⟨rfl,_,rfl⟩)
   replace h1:=Lib.hid h1
   replace h2:=Lib.hid h2
   have e2:(q == q)=true:=by simp
   have hz0:=hfz (kk * 4)
   go_wp2_with (first
    | (go_at_call 13;refine (HW6.out _).mono ?_;rintro e w8 ⟨rfl,hw8⟩;subst hw8)
    | (go_at_call 11;refine h1.out.mono ?_;rintro e w21 ⟨rfl,hg21⟩;replace hg21:=Lib.hid hg21)
    | (go_at_call 12;refine (h2.out _ hg21.out).mono ?_;rintro e w22 ⟨rfl,hg22⟩))
   go_ret
   exact ⟨rfl,hset.out (.bool (!bA)) (kk * 4) _ _ (Gr.rfl' _) (hg21.out.trans' hg22)⟩
  ·obtain ⟨q,h1,h2⟩:=both_turned (j:=kk * 4+3) hR7.out hh7.out hlr.out (turned_set p3 (.bool true)) (by rw [part_mod kk 3 (by omega)];exact .inr (.inr (.inr ⟨rfl,_,rfl⟩)))
   replace h1:=Lib.hid h1
   replace h2:=Lib.hid h2
   have e2:(q == q)=true:=by simp
   have hz0:=hfz (kk * 4+3)
   go_wp2_with (first
    | (go_at_call 13;refine (HW6.out _).mono ?_;rintro e w8 ⟨rfl,hw8⟩;subst hw8)
    | (go_at_call 11;refine h1.out.mono ?_;rintro e w21 ⟨rfl,hg21⟩;replace hg21:=Lib.hid hg21)
    | (go_at_call 12;refine (h2.out _ hg21.out).mono ?_;rintro e w22 ⟨rfl,hg22⟩))
   go_ret
   exact ⟨rfl,hset.out (.bool true) (kk * 4+3) _ _ (Gr.rfl' _) (hg21.out.trans' hg22)⟩
  ·obtain ⟨i0,hi0,hz0,hz1,hz2⟩:=info_parts info_str
   have hll:=Lib.hid (show (l.map Value.string).length=l.length * 1 by rw [List.length_map,Nat.mul_one])
   have hfz1:=hfz (kk * 4+1)
   have y0:=(Gr.alloc1 w7 (.cells #[] 9)).cell p1
   go_wp2_with (first
    | (go_at_call 13;refine (HW6.out _).mono ?_;rintro e w8 ⟨rfl,hw8⟩;subst hw8)
    | (at_builtin;with_reducible refine wpList_append (o:=⟨some 92,_,_,_,_,_⟩) _ rfl _ _ 36 rfl w7.heap.size 9 i0 _ 1 16 Try.underlying36 hi0 hz0 hz1 hz2 rfl (by omega) A1 l.length c1 (l.map Value.string) rfl (ho1.out.gr (Gr.alloc1 _ _)) _ 2 2 ([⟨#[97]⟩,⟨#[113]⟩].map Value.string) rfl rfl (Rd.new w1 _ _) (by simp [Value.oneCell']) (by omega) (by unfold maxLen;omega) hsz1.out ?_
       intro A2 c2 w21 ho2 hk2
       have hg2:=Gr.grownBk (hg1.out.trans' (Gr.alloc1 w1 (.cells #[.string ⟨#[97]⟩,.string ⟨#[113]⟩] 9))) hk2.grown (fun g e=>(ho1.out.blk g e).1)
       rw [← List.map_append] at ho2
       have y2:=hg2.cell p1
       have z2:=(hrow7.out.gr hg2).frozen (kk * 4+1)
       obtain ⟨q,h1,h2⟩:=app_both hR7.out hh7.out hlr.out (turned_refl p1) p1 (part_mod kk 1 (by omega)) hg2 (by rw [List.length_append];rfl) ho2 hgF7.out (by rw [List.length_append];simp only [List.length_cons,List.length_nil];omega)
       replace h1:=Lib.hid h1
       replace h2:=Lib.hid h2
       have e2:(q == q)=true:=by simp
       replace hg2:=Lib.hid hg2
       clear ho2 hk2 ho1)
    | (at_builtin;with_reducible refine wpList_append (o:=⟨some 90,_,_,_,_,_⟩) _ rfl _ _ 36 rfl w7.heap.size 9 i0 _ 1 16 Try.underlying36 hi0 hz0 hz1 hz2 rfl (by omega) (some ⟨w7.heap.size,0,none⟩) 0 0 [] rfl (Own.empty w7 _ 1) AL l.length cL (l.map Value.string) rfl hll.out ((rd_of_C hCL7.out).gr (Gr.alloc1 _ _)) (str_one l) (by omega) (by unfold maxLen;omega) (by simp) ?_
       intro A1 c1 w1 ho1 hk1
       have hg1:=Gr.grownBk (Gr.alloc1 w7 (.cells #[] 9)) hk1.grown (fun g e=>by injection e with e;rw [← e];exact Nat.le_refl _)
       rw [Nat.zero_add,List.nil_append] at ho1
       replace ho1:=Lib.hid ho1
       have y1:=hg1.cell p1
       have z1:=(hrow7.out.gr hg1).frozen (kk * 4+1)
       replace hg1:=Lib.hid hg1
       have hsz1:=Lib.hid (Nat.le_trans hg1.out.size (Gr.alloc1 w1 (.cells #[.string ⟨#[97]⟩,.string ⟨#[113]⟩] 9)).size)
       clear hk1 y0)
    | (go_at_call 11;refine h1.out.mono ?_;rintro e w30 ⟨rfl,hg30⟩;replace hg30:=Lib.hid hg30)
    | (go_at_call 12;refine (h2.out _ hg30.out).mono ?_;rintro e w31 ⟨rfl,hg31⟩))
   go_ret
   exact ⟨rfl,hset.out _ (kk * 4+1) _ _ hg2.out (hg30.out.trans' hg31)⟩
  ·obtain ⟨i0,hi0,hz0,hz1,hz2⟩:=info_parts info_str
   have hll:=Lib.hid (show (l.map Value.string).length=l.length * 1 by rw [List.length_map,Nat.mul_one])
   have hfz1:=hfz (kk * 4+1)
   have y0:=(Gr.alloc1 w7 (.cells #[] 9)).cell p1
   go_wp2_with (first
    | (go_at_call 13;have hq9:=ho1.out.le;clear hq9;refine (HW9.out _).mono ?_;rintro e w9 ⟨rfl,hw9⟩;subst hw9
       obtain ⟨zs,Wm,-,hmk,hcv,hgm,-,-⟩:=mk_str w1 (75+(z9:Int)) (75+z9) (by omega) (by omega)
       replace hgm:=Lib.hid (hgm.trans' (Gr.alloc1 Wm (.cells #[.string ⟨zs.toArray⟩] 9)))
       have hsz1:=Lib.hid (Nat.le_trans hg1.out.size hgm.out.size))
    | (go_at_call 13;refine (HW6.out _).mono ?_;rintro e w8 ⟨rfl,hw8⟩;subst hw8)
    | (at_builtin;with_reducible refine wpList_append (o:=⟨some 112,_,_,_,_,_⟩) _ rfl _ _ 36 rfl w7.heap.size 9 i0 _ 1 16 Try.underlying36 hi0 hz0 hz1 hz2 rfl (by omega) A1 l.length c1 (l.map Value.string) rfl (ho1.out.gr hgm.out) _ 1 1 ([⟨zs.toArray⟩].map Value.string) rfl rfl (Rd.new Wm _ _) (by simp [Value.oneCell']) (by omega) (by unfold maxLen;omega) hsz1.out ?_
       intro A2 c2 w21 ho2 hk2
       have hg2:=Gr.grownBk (hg1.out.trans' hgm.out) hk2.grown (fun g e=>(ho1.out.blk g e).1)
       rw [← List.map_append] at ho2
       have y2:=hg2.cell p1
       have z2:=(hrow7.out.gr hg2).frozen (kk * 4+1)
       obtain ⟨q,h1,h2⟩:=app_both hR7.out hh7.out hlr.out (turned_refl p1) p1 (part_mod kk 1 (by omega)) hg2 (by rw [List.length_append];rfl) ho2 hgF7.out (by rw [List.length_append];simp only [List.length_cons,List.length_nil];omega)
       replace h1:=Lib.hid h1
       replace h2:=Lib.hid h2
       have e2:(q == q)=true:=by simp
       replace hg2:=Lib.hid hg2
       clear ho2 hk2 ho1)
    | (at_builtin;with_reducible refine wpList_append (o:=⟨some 105,_,_,_,_,_⟩) _ rfl _ _ 36 rfl w7.heap.size 9 i0 _ 1 16 Try.underlying36 hi0 hz0 hz1 hz2 rfl (by omega) (some ⟨w7.heap.size,0,none⟩) 0 0 [] rfl (Own.empty w7 _ 1) AL l.length cL (l.map Value.string) rfl hll.out ((rd_of_C hCL7.out).gr (Gr.alloc1 _ _)) (str_one l) (by omega) (by unfold maxLen;omega) (by simp) ?_
       intro A1 c1 w1 ho1 hk1
       have hg1:=Gr.grownBk (Gr.alloc1 w7 (.cells #[] 9)) hk1.grown (fun g e=>by injection e with e;rw [← e];exact Nat.le_refl _)
       rw [Nat.zero_add,List.nil_append] at ho1
       replace ho1:=Lib.hid ho1
       have y1:=hg1.cell p1
       have z1:=(hrow7.out.gr hg1).frozen (kk * 4+1)
       replace hg1:=Lib.hid hg1
       clear hk1 y0)
    | (go_at_call 11;refine h1.out.mono ?_;rintro e w30 ⟨rfl,hg30⟩;replace hg30:=Lib.hid hg30)
    | (go_at_call 12;refine (h2.out _ hg30.out).mono ?_;rintro e w31 ⟨rfl,hg31⟩))
   go_ret
   exact ⟨rfl,hset.out _ (kk * 4+1) _ _ hg2.out (hg30.out.trans' hg31)⟩
  ·obtain ⟨i0,hi0,hz0,hz1,hz2⟩:=info_parts info_str
   go_wp2_with (go_at_call 13;refine (HW6.out _).mono ?_;rintro e w8 ⟨rfl,hw8⟩;subst hw8)
   go_loopw [14] (fun i wr=>∃ m:Nat,m≤14+z9∧i=.int .i64 m∧∃ A c l',l'.length=l.length+m∧l.length+m≤c∧Hid (Turned w7 wr gF (kk * 4+1) (.slice A (l.length+m) c))∧Hid (Kd.C Kd.string wr A l'.length l')∧∃ ys,Hid (Row wr gF 40 ys)) (fun i _=>14+z9 - (intOf i).toNat)
   case atStart=>exact ⟨0,by omega,rfl,AL,cL,l,rfl,hlL,Lib.hid (turned_refl p1),hCL7,_,hrow7⟩
   case round =>
    obtain ⟨m,hm,rfl,A,c,l',hl',hlc,hT,hC,ys,hys⟩:=hrel
    have q1:=hT.out.same _ p1
    have zr:=hys.out.frozen (kk * 4+1)
    by_cases hlt:m < 14+z9
    ·have hlt2:(m:Int) < 14+(z9:Int):=by omega
     have hcc:((97:Int)+m) % 256=97+m:=by omega
     obtain ⟨cc,hc8⟩:∃ cc:UInt8,cc=UInt8.ofNat (97+m):=⟨_,rfl⟩
     have hwr:IntKind.u8.wrap (IntKind.i64.wrap (97+(m:Int)))=97+(m:Int):=wrap_char m (by omega)
     have hrd:∀ W:World,Rd (W.alloc (.cells #[.int .u8 (IntKind.u8.wrap (IntKind.i64.wrap (97+(m:Int))))] 5)) (some ⟨W.heap.size,0,none⟩) ([cc].map bv):=fun W=>by
      rw [hwr]
      have e : [cc].map bv = [.int .u8 (97+(m:Int))]:=by
       have h2:cc.toNat=97+m:=by rw [hc8,UInt8.toNat_ofNat'];omega
       simp only [List.map_cons,List.map_nil,bv,h2]
       simp
      rw [e]
      exact Rd.new W [.int .u8 (97+(m:Int))] 5
     replace hrd:=Lib.hid hrd
     clear hc8 hwr
     go_wp2_with (go_at_call 13;refine (HW9.out _).mono ?_;rintro e w9 ⟨rfl,hw9⟩;subst hw9)
     refine Vc.wp_region_split ⟨Gr,fun _ W W'=>∃ A,(∀ g,blkOf A=some g→wr.heap.size≤g)∧W.grownBy W' (blkOf A),fun _ W=>Gr wr W,[15]⟩ 19 [] (by kernel_rfl) (by kernel_rfl) (by kernel_rfl) (by decide) (by simp) (by simp) (by simp) (fun _ _ h=>h.size) (fun _ _ _ ⟨_,_,h⟩=>h.size) (fun _ _ _ h h'=>h'.trans' h) (Gr.draw _) ?_
     repeat
      refine Vc.Walk.pure (v:=?_) (fun _=>Gr.rfl' _) rfl (by first|exact Vc.GuardYes.no rfl|exact Vc.GuardYes.yes rfl rfl) rfl rfl ?_ ?_
      rotate_left
      ·intro _ W hI
       (clear hI)
       go_simp
       exact rfl
     refine Vc.Walk.call (.fits (Vc.At 0 fun v W=>∃ g,v=.slice (some ⟨g,0,none⟩) 0 0∧Own W wr.heap.size 9 1 (some ⟨g,0,none⟩) 0 0 [])) (Vc.At.stable (fun u W W' hl hf=>by obtain ⟨g,e,h⟩:=hf;exact ⟨g,e,h.gr hl⟩)) (.no rfl) rfl rfl ?_ ?_
     ·intro k W hI
      have hk:=hI.le 0 15 rfl (by kernel_rfl)
      obtain rfl:k=0:=by omega
      have hg:=hI.g
      clear hI
      have hgs:=hg.size
      go_simp
      exact ⟨⟨Nat.le_refl _,fun _=>⟨_,rfl,(Own.empty W _ _).more (fun g hg=>by cases hg;exact hgs)⟩⟩,Gr.alloc1 _ _⟩
     repeat
      refine Vc.Walk.pure (v:=?_) (fun _=>Gr.rfl' _) rfl (by first|exact Vc.GuardYes.no rfl|exact Vc.GuardYes.yes rfl rfl) rfl rfl ?_ ?_
      rotate_left
      ·intro _ W hI
       (have y1:=hI.g.cell q1;clear hI)
       go_simp
       exact rfl
     refine Vc.Walk.any (.fits (Vc.At 0 fun v W=>∃ A3 c3,v=.slice A3 (l.length+m) c3∧Own W wr.heap.size 9 1 A3 (l.length+m) c3 (l'.map Value.string))) (Vc.At.stable (fun u W W' hl hf=>by obtain ⟨A3,c3,e,h⟩:=hf;exact ⟨A3,c3,e,h.gr hl⟩)) (.no rfl) ?_ ?_
     ·intro ρ k W hI hf
      have hk:=hI.le 0 15 rfl (by kernel_rfl)
      obtain rfl:k=0:=by omega
      have hg:=hI.g
      obtain ⟨⟨_,hf1⟩,hρ2,_⟩:=hf
      obtain ⟨ga,hρ1,hoa⟩:=hf1 (Nat.le_refl _)
      have e1:ρ (.tmp 126)=.slice (some ⟨ga,0,none⟩) 0 0:=hρ1
      have e2:ρ (.tmp 131)=.slice A (l.length+m) c:=hρ2
      obtain ⟨A3,c3,W',hrun,ho3,hk3⟩:=run_append (P:=Try.prog) W wr.heap.size 36 36 9 i0 _ 1 16 Try.underlying36 hi0 hz0 hz1 hz2 rfl (by omega) (some ⟨ga,0,none⟩) 0 0 [] hoa A (l.length+m) c (l'.map Value.string) (by rw [List.length_map,hl',Nat.mul_one]) ((rd_of_C hC.out).gr hg) (str_one l') (by omega) (by unfold maxLen;omega) hg.size
      have hgr:=gr_of_empty hoa hk3
      rw [Nat.zero_add] at hrun ho3
      clear hI hf1 hρ1 hρ2 hk3
      unfold execOp
      simp only [resolve,invoke,builtin,Sem.run_bind,Sem.run_pure,Result.andThen_ok,List.map_toArray,List.map_cons,List.map_nil,e1,e2,hrun,Vc.okUpon]
      exact ⟨⟨Nat.le_refl _,fun _=>⟨_,_,rfl,by simpa using ho3⟩⟩,hgr⟩
     repeat
      refine Vc.Walk.pure (v:=?_) (fun _=>Gr.rfl' _) rfl (by first|exact Vc.GuardYes.no rfl|exact Vc.GuardYes.yes rfl rfl) rfl rfl ?_ ?_
      rotate_left
      ·intro _ W hI
       (clear hI)
       go_simp
       exact rfl
     refine Vc.Walk.call (.fits (Vc.At 0 fun v W=>∃ A n c,v=.slice A n c∧Hid ([cc].length=n)∧Rd W A ([cc].map bv))) (Vc.At.stable (fun u W W' hl hf=>by obtain ⟨A,n,c,e,h,h'⟩:=hf;exact ⟨A,n,c,e,h,h'.gr hl⟩)) (.no rfl) rfl rfl ?_ ?_
     ·intro k W hI
      have hk:=hI.le 0 15 rfl (by kernel_rfl)
      obtain rfl:k=0:=by omega
      clear hI
      go_simp
      refine ⟨⟨Nat.le_refl _,fun _=>?_⟩,Gr.alloc1 _ _⟩
      exact ⟨_,_,⟨_,rfl⟩,Lib.hid rfl,hrd.out W⟩
     refine Vc.Walk.str [cc] (fun _=>Gr.rfl' _) rfl (.no rfl) Try.underlying41 Try.underlying5 Try.underlying9 (fun k W u hI h=>h.2 (hI.le 0 15 rfl (by kernel_rfl))) ?_
     refine Vc.Walk.call (.is (.string ((⟨#[120]⟩:ByteArray) ++ (⟨#[cc]⟩:ByteArray)))) trivial (.no rfl) rfl rfl ?_ ?_
     ·intro k W hI
      clear hI
      go_simp
      first|exact ⟨rfl,Gr.rfl' _⟩|exact Gr.rfl' _
     refine Vc.Walk.call (.fits (Vc.At 0 fun v W=>∃ g,v=.slice (some ⟨g,0,none⟩) 1 1∧Row W g 9 [.string ((⟨#[120]⟩:ByteArray) ++ (⟨#[cc]⟩:ByteArray))])) (Vc.At.stable (fun u W W' hl hf=>by obtain ⟨g,e,hR⟩:=hf;exact ⟨g,e,hR.gr hl⟩)) (.no rfl) rfl rfl ?_ ?_
     ·intro k W hI
      have hk:=hI.le 0 15 rfl (by kernel_rfl)
      obtain rfl:k=0:=by omega
      clear hI
      go_simp
      exact ⟨⟨Nat.le_refl _,fun _=>⟨_,rfl,Row.new W _ [.string ((⟨#[120]⟩:ByteArray) ++ (⟨#[cc]⟩:ByteArray))]⟩⟩,Gr.alloc1 _ _⟩
     refine Vc.Walk.any (.fits (Vc.At 1 fun v W=>∃ A2 c2,v=.slice A2 (l.length+m+1) c2∧Own W wr.heap.size 9 1 A2 (l.length+m+1) c2 ((l' ++ [((⟨#[120]⟩:ByteArray) ++ (⟨#[cc]⟩:ByteArray))]).map Value.string))) (Vc.At.stable (fun u W W' hl hf=>by obtain ⟨A2,c2,e,h⟩:=hf;exact ⟨A2,c2,e,h.gr hl⟩)) (.no rfl) ?_ ?_
     ·intro ρ k W hI hf
      obtain rfl:=hI.eq 0 rfl
      have hg:=hI.g
      obtain ⟨⟨_,hf0⟩,⟨_,hf1⟩,_⟩:=hf
      obtain ⟨A3,c3,hρ1,ho3⟩:=hf0 (Nat.le_refl _)
      obtain ⟨g,hρ2,hR⟩:=hf1 (Nat.le_refl _)
      have e1:ρ (.tmp 132)=.slice A3 (l.length+m) c3:=hρ1
      have e2:ρ (.tmp 139)=.slice (some ⟨g,0,none⟩) 1 1:=hρ2
      obtain ⟨A2,c2,W',hrun,ho2,hk2⟩:=run_append (P:=Try.prog) W wr.heap.size 36 36 9 i0 _ 1 16 Try.underlying36 hi0 hz0 hz1 hz2 rfl (by omega) A3 (l.length+m) c3 (l'.map Value.string) ho3 (some ⟨g,0,none⟩) 1 1 [.string ((⟨#[120]⟩:ByteArray) ++ (⟨#[cc]⟩:ByteArray))] rfl (Rd.of_row' hR) (by simp [Value.oneCell']) (by omega) (by unfold maxLen;omega) hg.size
      have hbl:∀ g,blkOf A3=some g→wr.heap.size≤g:=fun g hg=>(ho3.blk g hg).1
      clear hI hf0 hf1 hρ1 hρ2
      unfold execOp
      simp only [resolve,invoke,builtin,Sem.run_bind,Sem.run_pure,Result.andThen_ok,List.map_toArray,List.map_cons,List.map_nil,e1,e2,hrun,Vc.okUpon]
      exact ⟨⟨Nat.le_refl _,fun _=>⟨_,_,rfl,by rw [List.map_append];exact ho2⟩⟩,⟨A3,hbl,hk2.grown⟩,Gr.grownBk hg hk2.grown hbl⟩
     repeat
      refine Vc.Walk.pure (v:=?_) (fun _=>Gr.rfl' _) rfl (by first|exact Vc.GuardYes.no rfl|exact Vc.GuardYes.yes rfl rfl) rfl rfl ?_ ?_
      rotate_left
      ·intro _ W hI
       (clear hI)
       go_simp
       exact rfl
     intro W hW
     have hW:Gr wr W:=hW
     simp only [List.reverse_cons,List.reverse_nil,List.nil_append,List.cons_append,Vc.finish,Act.put,List.setIfInBounds_toArray,List.set_cons_zero,List.set_cons_succ]
     rintro u126 _ u132 _ u136 _ u139 _ u140 ⟨_,hu⟩ -
     obtain ⟨A2,c2,rfl,ho2⟩:=hu (Nat.le_refl _)
     simp only [List.drop_succ_cons,List.drop_zero]
     have y2:=hW.cell q1
     have z2:=(hys.out.gr hW).frozen (kk * 4+1)
     have hgr7:=hT.out.gr.size
     have hgB:gF < wr.heap.size:=Nat.lt_of_lt_of_le hgF7.out hgr7
     have hrn:=Lib.hid (app_rd ho2 hgB (j:=kk * 4+1) (.slice A2 (l.length+m+1) c2))
     have hle2:=ho2.le.1
     have hys2:=Lib.hid ((hys.out.gr hW).set (kk * 4+1) (.slice A2 (l.length+m+1) c2))
     have hT2:=Lib.hid (turned_step hT.out p1 hW (.slice A2 (l.length+m+1) c2))
     replace hW:=Lib.hid hW
     clear hu ho2 hgr7
     go_wp2_with fail
     go_roundw
     case rel=>exact ⟨m+1,by omega,by go_num,A2,c2,l' ++ [((⟨#[120]⟩:ByteArray) ++ (⟨#[cc]⟩:ByteArray))],by rw [List.length_append,hl'];rfl,hle2,hT2,Lib.hid (C_of_rd hrn.out (by rw [List.length_append,hl'];simp only [List.length_cons,List.length_nil];omega)),_,hys2⟩
     case measure=>simp [intOf];omega
    ·have hlt2:¬ ((m:Int) < 14+(z9:Int)):=by omega
     obtain ⟨q,h1,h2⟩:=both_turned hR7.out hh7.out hlr.out hT.out (by rw [part_mod kk 1 (by omega)];exact .inr (.inl ⟨rfl,A,c,l',by rw [hl'],by omega,hC.out,by omega⟩))
     replace h1:=Lib.hid h1
     replace h2:=Lib.hid h2
     have e2:(q == q)=true:=by simp
     clear q1 zr
     go_wp2_with (first
      | (go_at_call 11;refine h1.out.mono ?_;rintro e w30 ⟨rfl,hg30⟩;replace hg30:=Lib.hid hg30)
      | (go_at_call 12;refine (h2.out _ hg30.out).mono ?_;rintro e w31 ⟨rfl,hg31⟩)
      | (go_at_call 13;refine (HW9.out _).mono ?_;rintro e w9 ⟨rfl,hw9⟩;subst hw9))
     go_ret
     exact ⟨rfl,(Gr.grownBk hg7.out hT.out.gr (fun g e=>by injection e with e;have:=hgFW.out;omega)).trans' (hg30.out.trans' hg31)⟩
end Go.Proofs.Ytoihiehoolehiaa.Bk
set_option linter.unusedVariables false
set_option linter.unusedSimpArgs false
namespace Go.Proofs.Ytoihiehoolehiaa.schemaChecks
open Go.ChangeShapes Go.WideShapes Go.ChangeAt Go.RowKit
open Go.ChangeMaps (open_string shut_string)
open Go.Proofs.Ytoihiehoolehiaa.PX
theorem int_bounds {n : Int} (h : (Lit.int .i64 n).wf = true) : -9223372036854775808 ≤ n ∧ n ≤ 9223372036854775807 := by
  simp [Lit.wf, IntKind.min, IntKind.max, IntKind.signed, IntKind.bits] at h
  omega
theorem own : ownKnob Try.prog.godebug = none := by kernel_rfl
theorem laidOut : laidOutB Try.prog = true := by kernel_rfl
set_option maxRecDepth 100000 in
theorem lifted (os : Os) (started : os.Started) (H : Type) (enc : TypeId × Value → H) :
    ReturnsInHanded {} Try.checked os 3 .any (Rows.schemaChecksSpec.pre6 enc Try.prog Try.f3 Rows.schemaChecksRow.domain false) (Rows.schemaChecksSpec.post enc Try.prog Try.f3 false true false false) := by
  refine returnsInHanded_of_change_sized (C := Try.checked) own started (by kernel_rfl) Try.func3
    (ChangeSpec.witness6 (enc := enc) (C := Try.checked) false ⟨#[], #[.slice none 0 0, .int .i64 0, .int .i64 0, .int .i64 0, .int .i64 0], []⟩ 8 (by kernel_rfl) (by kernel_rfl) (by kernel_rfl) (by kernel_rfl)) ?_
  intro W base args ds gs before hval0 hW hcnd hsz0 _
  have hsz : (DataW.weightsEach Try.prog (Try.f3.params.toList ++ Rows.schemaChecksSpec.plain.varTypes Try.prog) (ds ++ gs)).all (· ≤ reachBytes) = true := hsz0
  have hval : ∀ (j : Nat) t v, Try.f3.params[j]? = some t → args[j]? = some v → Value.okWide Try.prog W .any base t v := hval0
  have hW' := hW
  obtain ⟨p, q, hA0, hV, rfl, hfz, hnd⟩ := hW
  have hA : DataW.TrodAll enc Try.prog W 0 (fun _ => true) true Try.f3.params.toList args.toList ds p := hA0
  rw [Try.params3] at hA hval hsz
  obtain ⟨v0, vs0, d0, ds0, p0, q0, hargs, rfl, rfl, h0, r0⟩ := trodAll_cons hA
  obtain ⟨v1, vs1, d1, ds1, p1, q1, rfl, rfl, rfl, h1, r1⟩ := trodAll_cons r0
  obtain ⟨v2, vs2, d2, ds2, p2, q2, rfl, rfl, rfl, h2, r2⟩ := trodAll_cons r1
  obtain ⟨v3, vs3, d3, ds3, p3, q3, rfl, rfl, rfl, h3, r3⟩ := trodAll_cons r2
  obtain ⟨v4, vs4, d4, ds4, p4, q4, rfl, rfl, rfl, h4, r4⟩ := trodAll_cons r3
  obtain ⟨rfl, rfl, rfl⟩ := trodAll_nil r4
  obtain rfl : args = #[v0, v1, v2, v3, v4] := by cases args; simp_all
  obtain ⟨rfl, rfl⟩ := trodVars_none hV
  have lt0 : ∀ x ∈ p0, x.block < W.heap.size := by obtain ⟨m, hm⟩ := h0; exact DataW.trod_lt m _ _ _ hm
  have k0 := h0
  have lt1 : ∀ x ∈ p1, x.block < W.heap.size := by obtain ⟨m, hm⟩ := h1; exact DataW.trod_lt m _ _ _ hm
  have k1 := h1
  have lt2 : ∀ x ∈ p2, x.block < W.heap.size := by obtain ⟨m, hm⟩ := h2; exact DataW.trod_lt m _ _ _ hm
  have k2 := h2
  have lt3 : ∀ x ∈ p3, x.block < W.heap.size := by obtain ⟨m, hm⟩ := h3; exact DataW.trod_lt m _ _ _ hm
  have k3 := h3
  have lt4 : ∀ x ∈ p4, x.block < W.heap.size := by obtain ⟨m, hm⟩ := h4; exact DataW.trod_lt m _ _ _ hm
  have k4 := h4
  obtain ⟨a0, c0, x0, rfl, L0, C0, R0⟩ := open_schemaK (okWide_slice Try.underlying23 (hval 0 23 v0 rfl rfl)) h0 hsz (j := 0) rfl rfl
  obtain ⟨x1, rfl, _, _, w1⟩ := open_int Try.underlying3 (hval 1 3 v1 rfl rfl) h1
  obtain ⟨x2, rfl, _, _, w2⟩ := open_int Try.underlying3 (hval 2 3 v2 rfl rfl) h2
  obtain ⟨x3, rfl, _, _, w3⟩ := open_int Try.underlying3 (hval 3 3 v3 rfl rfl) h3
  obtain ⟨x4, rfl, _, _, w4⟩ := open_int Try.underlying3 (hval 4 3 v4 rfl rfl) h4
  clear hA0 hval0 hsz0 hsz
  refine (Bk.walk4 W a0 c0 x0 L0 C0 R0 x1 (int_bounds w1).1 (int_bounds w1).2 x2 (int_bounds w2).1 (int_bounds w2).2 x3 (int_bounds w3).1 (int_bounds w3).2 x4 (int_bounds w4).1 (int_bounds w4).2).mono fun e W' ⟨he, bel⟩ => ?_
  subst he
  exact ⟨_, rfl, _, _, _, [], _, [], hW', trodAll_mk1 (shut_bool Try.underlying4 _), (trodAll_cons_mk (Below.trod laidOut (by kernel_rfl) (of_decide_eq_true (by kernel_rfl)) k0 bel lt0) (trodAll_cons_mk (Below.trod laidOut (by kernel_rfl) (of_decide_eq_true (by kernel_rfl)) k1 bel lt1) (trodAll_cons_mk (Below.trod laidOut (by kernel_rfl) (of_decide_eq_true (by kernel_rfl)) k2 bel lt2) (trodAll_cons_mk (Below.trod laidOut (by kernel_rfl) (of_decide_eq_true (by kernel_rfl)) k3 bel lt3) (trodAll_cons_mk (Below.trod laidOut (by kernel_rfl) (of_decide_eq_true (by kernel_rfl)) k4 bel lt4) trodAll_mk0))))), rfl, bel.frame _, fun h => by cases h⟩
theorem over : Rows.schemaChecksRow.holds Try.pinned (OpenSpec.ofChange Rows.schemaChecksSpec) :=
  OpenClaim.holds_of_wide 3 Try.f3 rfl rfl rfl rfl rfl rfl rfl ⟨rfl, rfl, rfl, rfl, rfl⟩ rfl rfl rfl rfl rfl (by kernel_rfl) Try.func3 (by kernel_rfl)
    (of_decide_eq_true (by kernel_rfl)) (by unfold Func.isWrapper; first | (rw [if_pos (by decide +kernel)]; kernel_rfl) | (rw [if_neg (by decide +kernel)]; exact ⟨rfl, rfl⟩))
    (fun os started H enc _ => lifted os started H enc)
theorem proved : Rows.SchemaChecksSaid := over
#print axioms proved
end Go.Proofs.Ytoihiehoolehiaa.schemaChecks
