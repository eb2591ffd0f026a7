import Derived.Test.YtekaeegjohanjaaGreatDoorGAE
import Derived.KernelRfl
import Derived.Test.YtekaeegjohanjaaGreatDoorAbH
import Derived.Shelf.Small.Strs
import Derived.Test.YtekaeegjohanjaaGreatDoorProg
import Derived.Test.YtekaeegjohanjaaGreatDoorGAA
import Derived.Test.YtekaeegjohanjaaGreatDoorAbI
import Derived.Sort.Walk0
set_option linter.all false
namespace Go.Proofs
open Go Go.Abs
set_option maxRecDepth 100000
set_option linter.unusedSimpArgs false
structure OpA where
 kind:Int
 key:List UInt8
 val:List UInt8
 stamp:Int
 test:Int
 most:Int
abbrev OpA.cells(x:OpA):List AV:= [.v (.int .i64 x.kind), .v (.string (bs x.key)), .v (.string (bs x.val)), .v (.int .i64 x.stamp), .v (.int .i64 x.test), .v (.int .i64 x.most)]
theorem opIn_call(G:Nat→Option AV) (n a b:Int)(h:AH) (K:AV→AH→Prop)(hk:K (.v (.bool (decide (a≤n)&&decide (n≤b)))) h):SCall Tryz.prog G 126 [.v (.int .i64 n), .v (.int .i64 a), .v (.int .i64 b)] h K:=by
 refine Tryz.c126 G _ _ _ h K fun hlow=>?_
 unfold Tryz.r126
 by_cases h1:a≤n
 ·rw[decide_eq_true h1,Bool.true_and]at hk
  simp (disch:=omega)only[go_sem]
  exact ret_same hk
 ·rw[decide_eq_false h1,Bool.false_and]at hk
  simp (disch:=omega)only[go_sem]
  exact ret_same hk
def keyOk(s:List UInt8):Bool:=decide (1≤(s.length:Int))&&decide ((s.length:Int)≤64)
theorem opKey_call(G:Nat→Option AV) (s:List UInt8)(h:AH) (K:AV→AH→Prop)(hk:K (.v (.bool (keyOk s))) h):SCall Tryz.prog G 125 [.v (.string (bs s))] h K:=by
 refine Tryz.c125 G _ h K fun hlow=>?_
 unfold Tryz.r125
 simp (disch:=omega)only[go_sem]
 refine⟨opIn_call G _ _ _ _ _ ?_⟩
 have e:keyOk s=decide (1≤(s.length:Int)∧(s.length:Int)≤64):=by unfold keyOk;simp
 rw[e]at hk
 simp (disch:=omega)only[go_sem]
 exact ret_same hk
theorem neqOp(k:Int)(a b:ByteArray) (s t m:Int):aBin Tryz.prog .neq 89 (.agg [.v (.int .i64 k), .v (.string a), .v (.string b), .v (.int .i64 s), .v (.int .i64 t), .v (.int .i64 m)]) (.agg [.v (.int .i64 0), .v (.string (ByteArray.mk #[])), .v (.string (ByteArray.mk #[])), .v (.int .i64 0), .v (.int .i64 0), .v (.int .i64 0)]) =
  some (.v (.bool (!(k==0&&(a.toList==(ByteArray.mk #[]).toList&&(b.toList==(ByteArray.mk #[]).toList&&(s==0&&(t==0&&(m==0&&true))))))))):=by kernel_rfl
def OpA.base(x:OpA):Bool:=keyOk x.key&&(decide (0≤x.test)&&decide (x.test≤1099511627776))
def OpA.ok(x:OpA):Bool:=
 if x.kind=1∨x.kind=2∨x.kind=3 then x.base&&decide ((x.val.length:Int)≤8192)&&(decide (1≤x.stamp)&&decide (x.stamp≤1099511627776))&&(decide (x.kind≠1)||x.test==0)&&x.most==0
 else if x.kind=4∨x.kind=5 then x.base&&x.val == []&&x.stamp==0&&x.most==0
 else if x.kind=6 then decide ((x.key.length:Int)≤64)&&(decide (1≤x.most)&&decide (x.most≤100))&&x.val == []&&x.stamp==0&&x.test==0
 else false
def OpA.zero(y:OpA):Bool:=y.kind==0&&(y.key == []&&(y.val == []&&(y.stamp==0&&(y.test==0&&(y.most==0&&true)))))
theorem op_j28(x y:OpA)(h:AH) (K:AV→AH→Prop)(hlow:LowH h.length h)(b:Bool)(hk:K (.v (.int .i64 (if b&&y.zero then 0 else 80))) h) :
  Tryz.r78_j28 K h (h.length+1) b (h ++ [some (.cells 89 6 [x.cells] 0),some (.cells 89 6 [y.cells] 0)]):=by
 unfold Tryz.r78_j28
 cases b with
 | false=>
  simp (disch:=omega)only[go_sem]
  exact ret_tail hlow .v hk
 | true=>
  have e:=neqOp y.kind (bs y.key) (bs y.val) y.stamp y.test y.most
  simp only[bs_toList,show(ByteArray.mk #[]).toList = [] from bs_toList []]at e
  have e2:(y.kind==0&&(y.key == []&&(y.val == []&&(y.stamp==0&&(y.test==0&&(y.most==0&&true))))))=y.zero:=rfl
  rw[e2]at e
  cases hz:y.zero with
  | false=>
   rw[hz]at e hk
   simp (disch:=omega)only[go_sem,e,Bool.not_false]
   exact ret_tail hlow .v hk
  | true=>
   rw[hz]at e hk
   simp (disch:=omega)only[go_sem,e,Bool.not_true]
   exact ret_tail hlow .v hk
theorem op_j38(G:Nat→Option AV)(x:OpA)(h:AH) (K:AV→AH→Prop)(hlow:LowH h.length h)(hvl:x.val.length≤4611686018427387904)(b16:Bool)(hb:b16=x.base)(h3:x.kind=1∨x.kind=2∨x.kind=3)(hk:K (.v (.int .i64 (if x.ok then 0 else 80))) h) :
  Tryz.r78_j38 G h K h.length b16 (h.length+1) x.kind true (h ++ [some (.cells 89 6 [x.cells] 0),some (.cells 89 6 [OpA.cells ⟨0, [],x.val,x.stamp,x.test,x.most⟩] 0)]):=by
 unfold Tryz.r78_j38
 have e0:(ByteArray.mk #[])=bs []:=rfl
 have hok:x.ok=(x.base&&decide ((x.val.length:Int)≤8192)&&(decide (1≤x.stamp)&&decide (x.stamp≤1099511627776))&&(decide (x.kind≠1)||x.test==0)&&x.most==0):=by
  unfold OpA.ok
  rw[if_pos h3]
 rw[← hb]at hok
 have leaf:∀ b57:Bool,b57=(b16&&decide ((x.val.length:Int)≤8192)&&(decide (1≤x.stamp)&&decide (x.stamp≤1099511627776))) →
   Tryz.r78_j28 K h (h.length+1) b57 (h ++ [some (.cells 89 6 [x.cells] 0),some (.cells 89 6 [OpA.cells ⟨0, [], [],0,if x.kind=1 then x.test else 0,x.most⟩] 0)]):=by
  intro b57 h57
  rw[← h57]at hok
  refine op_j28 x ⟨0, [], [],0,if x.kind=1 then x.test else 0,x.most⟩ h K hlow b57 ?_
  rw[hok]at hk
  have:(b57&&(decide (x.kind≠1)||x.test==0)&&x.most==0)=(b57&&OpA.zero ⟨0, [], [],0,if x.kind=1 then x.test else 0,x.most⟩):=by
   by_cases h1:x.kind=1 <;> simp[OpA.zero,h1,Bool.and_assoc]
  rw[this]at hk
  exact hk
 by_cases h1:x.kind=1
 all_goals
  simp only[h1,if_true,if_false]at leaf
  cases b16 with
  | false=>
   have l:=leaf false rfl
   simp (disch:=omega)only[go_sem,e0]
   exact l
  | true=>
   by_cases hv:(x.val.length:Int)≤8192
   ·simp (disch:=omega)only[go_sem,e0]
    refine⟨opIn_call G _ _ _ _ _ ?_⟩
    have l:=leaf (decide (1≤x.stamp)&&decide (x.stamp≤1099511627776)) (by rw[decide_eq_true hv];rfl)
    generalize (decide (1≤x.stamp)&&decide (x.stamp≤1099511627776))=b57 at l ⊢
    simp (disch:=omega)only[go_sem,e0]
    exact l
   ·have l:=leaf false (by rw[decide_eq_false hv];rfl)
    simp (disch:=omega)only[go_sem,e0]
    exact l
theorem op_j67(G:Nat→Option AV)(x:OpA)(h:AH) (K:AV→AH→Prop)(hlow:LowH h.length h)(hkl:x.key.length≤4611686018427387904)(b16 b65:Bool)(hb:b16=x.base)(h3:¬ (x.kind=1∨x.kind=2∨x.kind=3))(hb65:b65=decide (x.kind=4∨x.kind=5))(hk:K (.v (.int .i64 (if x.ok then 0 else 80))) h) :
  Tryz.r78_j67 K h G h.length b16 (h.length+1) x.kind b65 (h ++ [some (.cells 89 6 [x.cells] 0),some (.cells 89 6 [OpA.cells ⟨0, [],x.val,x.stamp,x.test,x.most⟩] 0)]):=by
 unfold Tryz.r78_j67
 unfold OpA.ok at hk
 rw[if_neg h3]at hk
 by_cases h45:x.kind=4∨x.kind=5
 ·rw[decide_eq_true h45]at hb65
  rw[if_pos h45,← hb]at hk
  subst hb65
  have l:=op_j28 x ⟨0, [],x.val,x.stamp,0,x.most⟩ h K hlow b16 (by
   have:(b16&&OpA.zero ⟨0, [],x.val,x.stamp,0,x.most⟩)=(b16&&x.val == []&&x.stamp==0&&x.most==0):=by simp[OpA.zero,Bool.and_assoc]
   rw[this];exact hk)
  simp (disch:=omega)only[go_sem]
  exact l
 ·rw[decide_eq_false h45]at hb65
  rw[if_neg h45]at hk
  subst hb65
  by_cases h6:x.kind=6
  ·rw[if_pos h6]at hk
   have leaf:∀ b80:Bool,b80=(decide ((x.key.length:Int)≤64)&&(decide (1≤x.most)&&decide (x.most≤100))) →
     Tryz.r78_j28 K h (h.length+1) b80 (h ++ [some (.cells 89 6 [x.cells] 0),some (.cells 89 6 [OpA.cells ⟨0, [],x.val,x.stamp,x.test,0⟩] 0)]):=by
    intro b80 h80
    refine op_j28 x ⟨0, [],x.val,x.stamp,x.test,0⟩ h K hlow b80 ?_
    rw[← h80]at hk
    have:(b80&&OpA.zero ⟨0, [],x.val,x.stamp,x.test,0⟩)=(b80&&x.val == []&&x.stamp==0&&x.test==0):=by simp[OpA.zero,Bool.and_assoc]
    rw[this];exact hk
   by_cases hl:(x.key.length:Int)≤64
   ·simp (disch:=omega)only[go_sem]
    refine⟨opIn_call G _ _ _ _ _ ?_⟩
    have l:=leaf (decide (1≤x.most)&&decide (x.most≤100)) (by rw[decide_eq_true hl];rfl)
    generalize (decide (1≤x.most)&&decide (x.most≤100))=b80 at l ⊢
    simp (disch:=omega)only[go_sem]
    exact l
   ·have l:=leaf false (by rw[decide_eq_false hl];rfl)
    simp (disch:=omega)only[go_sem]
    exact l
  ·rw[if_neg h6]at hk
   simp (disch:=omega)only[go_sem]
   exact ret_tail hlow .v hk
theorem opCheck_call (G : Nat → Option AV) (x : OpA) (h : AH) (K : AV → AH → Prop) (hkl : x.key.length ≤ 4611686018427387904) (hvl : x.val.length ≤ 4611686018427387904)
    (hk : K (.v (.int .i64 (if x.ok then 0 else 80))) h) : SCall Tryz.prog G 78 [.agg x.cells] h K := by
  refine Tryz.c78 G _ h K fun hlow => ?_
  unfold Tryz.r78
  have e0 : (ByteArray.mk #[]) = bs [] := rfl
  simp (disch := omega) only [go_sem, Nat.reduceAdd]
  refine ⟨opKey_call G x.key _ _ ?_⟩
  have hb : OpA.base x = (keyOk x.key && (decide (0 ≤ x.test) && decide (x.test ≤ 1099511627776))) := rfl
  have j38 : ∀ (b16 b : Bool), b16 = x.base → b = decide (x.kind = 1 ∨ x.kind = 2 ∨ x.kind = 3) → Tryz.r78_j38 G h K h.length b16 (h.length + 1) x.kind b (h ++ [some (.cells 89 6 [x.cells] 0), some (.cells 89 6 [OpA.cells ⟨0, [], x.val, x.stamp, x.test, x.most⟩] 0)]) := by
    intro b16 b h16 hbb
    by_cases h3 : x.kind = 1 ∨ x.kind = 2 ∨ x.kind = 3
    · rw [hbb, decide_eq_true h3]
      exact op_j38 G x h K hlow hvl b16 h16 h3 hk
    · rw [hbb, decide_eq_false h3]
      unfold Tryz.r78_j38
      by_cases h4 : x.kind = 4
      · have l := op_j67 G x h K hlow hkl b16 true h16 h3 (by rw [decide_eq_true (.inl h4)]) hk
        simp (disch := omega) only [go_sem]
        rw [decide_eq_true h4]
        exact l
      · have l := op_j67 G x h K hlow hkl b16 (decide (x.kind = 5)) h16 h3 (by by_cases h5 : x.kind = 5 <;> simp [h4, h5]) hk
        simp (disch := omega) only [go_sem]
        exact l
  have go : ∀ b16 : Bool, b16 = x.base → condB (x.kind == 1) (Tryz.r78_j38 G h K h.length b16 (h.length + 1) x.kind (x.kind == 1) (h ++ [some (.cells 89 6 [x.cells] 0), some (.cells 89 6 [OpA.cells ⟨0, [], x.val, x.stamp, x.test, x.most⟩] 0)]))
        (condB (x.kind == 2) (Tryz.r78_j38 G h K h.length b16 (h.length + 1) x.kind (x.kind == 2) (h ++ [some (.cells 89 6 [x.cells] 0), some (.cells 89 6 [OpA.cells ⟨0, [], x.val, x.stamp, x.test, x.most⟩] 0)]))
        (Tryz.r78_j38 G h K h.length b16 (h.length + 1) x.kind (x.kind == 3) (h ++ [some (.cells 89 6 [x.cells] 0), some (.cells 89 6 [OpA.cells ⟨0, [], x.val, x.stamp, x.test, x.most⟩] 0)]))) := by
    intro b16 h16
    by_cases h1 : x.kind = 1
    · have l := j38 b16 true h16 (by rw [decide_eq_true (.inl h1)])
      rw [show (x.kind == 1) = true by simp [h1], condB_true]
      exact l
    · by_cases h2 : x.kind = 2
      · have l := j38 b16 true h16 (by rw [decide_eq_true (.inr (.inl h2))])
        rw [show (x.kind == 1) = false by simp [h1], condB_false, show (x.kind == 2) = true by simp [h2], condB_true]
        exact l
      · have l := j38 b16 (x.kind == 3) h16 (by by_cases h3 : x.kind = 3 <;> simp [h1, h2, h3])
        rw [show (x.kind == 1) = false by simp [h1], condB_false, show (x.kind == 2) = false by simp [h2], condB_false]
        exact l
  have walk : ∀ b16 : Bool, b16 = x.base →
      okV (aLoad Tryz.prog (h ++ [some (.cells 89 6 [x.cells] 0)]) 89 (.ptr h.length 0 0 0)) fun v17 =>
      newO (.cells 89 6 [[(.v (.int .i64 0)), (.v (.string (ByteArray.mk #[]))), (.v (.string (ByteArray.mk #[]))), (.v (.int .i64 0)), (.v (.int .i64 0)), (.v (.int .i64 0))]] 0) (h ++ [some (.cells 89 6 [x.cells] 0)]) fun i18 h19 =>
      storeR Tryz.prog h19 (fun v20 h21 => storeR Tryz.prog h21 (fun v22 h23 => storeR Tryz.prog h23 (fun v24 h25 =>
        okInt .i64 (aLoad Tryz.prog h25 3 (.ptr h.length 0 0 0)) fun n35 =>
        condB (n35 == 1) (Tryz.r78_j38 G h K h.length b16 i18 n35 (n35 == 1) h25)
        (condB (n35 == 2) (Tryz.r78_j38 G h K h.length b16 i18 n35 (n35 == 2) h25)
        (Tryz.r78_j38 G h K h.length b16 i18 n35 (n35 == 3) h25))) 3 (.v (.int .i64 0)) (.ptr i18 0 0 0)) 9 (.v (.string (ByteArray.mk #[]))) (.ptr i18 0 0 1)) 89 v17 (.ptr i18 0 0 0) := by
    intro b16 h16
    have l := go b16 h16
    generalize hA : Tryz.r78_j38 G h K h.length b16 = A at l ⊢
    by_cases h1 : x.kind = 1
    · rw [show (x.kind == 1) = true by simp [h1], condB_true] at l
      simp (disch := omega) only [go_sem, e0, Nat.reduceAdd, show (x.kind == 1) = true by simp [h1]]
      exact l
    · rw [show (x.kind == 1) = false by simp [h1], condB_false] at l
      by_cases h2 : x.kind = 2
      · rw [show (x.kind == 2) = true by simp [h2], condB_true] at l
        simp (disch := omega) only [go_sem, e0, Nat.reduceAdd, show (x.kind == 1) = false by simp [h1], show (x.kind == 2) = true by simp [h2]]
        exact l
      · rw [show (x.kind == 2) = false by simp [h2], condB_false] at l
        rw [show (x.kind == 3) = decide (x.kind = 3) by by_cases h : x.kind = 3 <;> simp [h]] at l
        simp (disch := omega) only [go_sem, e0, Nat.reduceAdd, show (x.kind == 1) = false by simp [h1], show (x.kind == 2) = false by simp [h2]]
        exact l
  cases hkey : keyOk x.key with
  | false =>
    have l := walk false (by rw [hb, hkey]; rfl)
    simp (disch := omega) only [okBool_mk, rGq_ft, rGe_ft, pickR_bool, cond_false]
    exact l
  | true =>
    simp (disch := omega) only [go_sem, Nat.reduceAdd]
    refine ⟨opIn_call G _ _ _ _ _ ?_⟩
    have hb2 : (decide (0 ≤ x.test) && decide (x.test ≤ 1099511627776)) = x.base := by rw [hb, hkey, Bool.true_and]
    generalize (decide (0 ≤ x.test) && decide (x.test ≤ 1099511627776)) = b16 at hb2 ⊢
    have l := walk b16 hb2
    simp (disch := omega) only [okBool_mk, pickR_bool, cond_true]
    exact l
end Go.Proofs
namespace Go.Proofs
open Go Go.Abs
set_option maxRecDepth 100000
set_option linter.unusedSimpArgs false
theorem opIndex_call(G:Nat→Option AV) (a:AV) (ops:List OpA)(g:FuncId) (fi ca:List AV)(p:OpA→Bool)(h:AH) (K:AV→AH→Prop)(ha:Sees h 6 a (ops.map OpA.cells))(hl:ops.length≤1000000000000)
  (hc:∀ x∈ops,∀(K:AV→AH→Prop),K (.v (.bool (p x))) h→SCall Tryz.prog G g (fi ++ .agg x.cells::ca) h K)
  (hk1:∀(k:Nat) x,ops[k]? = some x→p x=true→(∀ y∈ops.take k,p y=false)→K (.v (.int .i64 k)) h)
  (hk2:(∀ x∈ops,p x=false)→K (.v (.int .i64 (-1))) h):SCall Tryz.prog G 76 [a, .fn (.func g) fi ca] h K:=by
 refine Tryz.c76 G _ _ h K fun hlow=>?_
 unfold Tryz.r76
 have la:=ha.len (P:=Tryz.prog) (t:=72) Tryz.und72
 rw[List.length_map]at la
 simp (disch:=omega)only[go_sem,la]
 unfold Tryz.r76_l2_1
 refine⟨fun m vs h'=>∃ k:Nat,k≤ops.length∧m=ops.length-k∧h'=h∧(∀ y∈ops.take k,p y=false)∧vs = [.v (.int .i64 k)],ops.length,⟨0,by omega,rfl,rfl,by simp,rfl⟩,?_⟩
 rintro m h' hl1 hlow2 n ⟨k,hkk,rfl,rfl,hno,hvs⟩
 simp only[List.cons.injEq,AV.v.injEq,Value.int.injEq,true_and,and_true]at hvs
 subst hvs
 by_cases hkl:k<ops.length
 ·obtain⟨x,hx⟩:∃ x,ops[k]? = some x:=⟨_,List.getElem?_eq_getElem hkl⟩
  obtain⟨q,q1,q2,_⟩:=ha.iaAll (P:=Tryz.prog) (ty:=72) (k:= .i64) (i:=k) (r:=x.cells) Tryz.und72 Tryz.siz89 (by omega) (by simp[hx])
  have q1:=q1 []
  have q2:=q2 []
  rw[List.append_nil]at q1 q2
  have ew:IntKind.i64.wrap ((k:Int)+1)=((k+1:Nat):Int):=by rw[wrap64_of (by omega) (by omega)];omega
  simp (disch:=omega)only[go_sem,q1,q2]
  refine⟨hc x (List.mem_of_getElem? hx) _ ?_⟩
  cases hp:p x with
  | true=>
   simp (disch:=omega)only[go_sem]
   exact ret_same (hk1 k x hx hp hno)
  | false=>
   simp (disch:=omega)only[go_sem,ew]
   refine next_keep (ops.length-(k+1)) (by omega) (Nat.le_refl _) ⟨k+1,by omega,rfl,rfl,?_,rfl⟩
   intro y hy
   rw[List.take_add_one,hx]at hy
   simp only[Option.toList_some,List.mem_append,List.mem_singleton]at hy
   rcases hy with hy|rfl
   ·exact hno y hy
   ·exact hp
 ·simp (disch:=omega)only[go_sem]
  have:k=ops.length:=by omega
  subst this
  rw[List.take_length]at hno
  exact ret_same (hk2 hno)
end Go.Proofs
namespace Go.Proofs
open Go Go.Abs
set_option maxRecDepth 100000
set_option linter.unusedSimpArgs false
end Go.Proofs
namespace Go.Proofs
open Go Go.Abs
set_option maxRecDepth 100000
set_option linter.unusedSimpArgs false
end Go.Proofs
namespace Go.Proofs
open Go Go.Abs
set_option maxRecDepth 100000
set_option linter.unusedSimpArgs false
def But(i:Nat)(h h':AH):Prop:=h.length≤h'.length∧∀ j,j<h.length→j≠i→h'[j]? = h[j]?
theorem But.refl{i:Nat} {h:AH} : But i h h:=⟨Nat.le_refl _,fun _ _ _=>rfl⟩
theorem But.trans{i:Nat} {a b c:AH} (x:But i a b)(y:But i b c):But i a c:=⟨Nat.le_trans x.1 y.1,fun j hj hi=>by
 have:=x.1
 rw[y.2 j (by omega) hi,x.2 j hj hi]⟩
theorem But.app{i:Nat} {h:AH} (t:AH):But i h (h++t):=⟨by simp,fun j hj _=>List.getElem?_append_left hj⟩
theorem But.set{i:Nat} {h:AH} {o:Option AO} : But i h (h.set i o):=⟨by simp,fun j _ hi=>List.getElem?_set_ne (Ne.symm hi)⟩
theorem But.grew{h h':AH} {i:Nat} (b:But i h h') {h0:AH} (g:Grew h0 h)(hi:h0.length≤i):Grew h0 h':=by
 obtain⟨t,rfl⟩:=g.ex
 have hl:=b.1
 rw[List.length_append]at hl
 refine⟨h'.drop h0.length,?_⟩
 conv=>lhs;rw[← List.take_append_drop h0.length h']
 congr 1
 refine List.ext_getElem? fun j=>?_
 rw[List.getElem?_take]
 split
 ·rename_i hj
  rw[b.2 j (by simp;omega) (by omega),List.getElem?_append_left hj]
 ·rename_i hj;rw[List.getElem?_eq_none (by omega)]
end Go.Proofs
namespace Go.Proofs
open Go.Shelf
def Tryz.layCompare_ren:Go.Shelf.Ren:=⟨fun|106=>66|213=>116|265=>158|n=>n,fun|9=>9|3=>3|n=>n,fun|n=>n⟩
theorem Tryz.layCompare:Go.Proofs.Lays.n106 Tryz.prog Tryz.layCompare_ren:= {
 mixed:=by kernel_rfl
 f106:=Tryz.func66.trans (congrArg some (by kernel_rfl))
 f213:=Tryz.func116.trans (congrArg some (by kernel_rfl))
 f265:=Tryz.func158.trans (congrArg some (by kernel_rfl))
 t3:=Tryz.underlying3
 a3:=Tryz.isAgg3
 z3:=Tryz.sizeOf3
 v3:=Tryz.zeroValue3
 t9:=Tryz.underlying9
 a9:=Tryz.isAgg9
 z9:=Tryz.sizeOf9
 v9:=Tryz.zeroValue9 }
end Go.Proofs
namespace Go.Proofs
open Go Go.Abs
set_option maxRecDepth 100000
set_option linter.unusedSimpArgs false
theorem Compare_call(G:Nat→Option AV) (a b:List UInt8)(h:AH) (K:AV→AH→Prop)(hk:K (.v (.int .i64 (if bl a b=true then -1 else if a=b then 0 else 1))) h):SCall Tryz.prog G 66 [.v (.string (bs a)), .v (.string (bs b))] h K:=by
 rw[← cmpB]at hk
 refine scall_grown (xs:= [.string (bs a), .string (bs b)]) (by kernel_rfl) (y:= .int .i64 (Lib.compareBytes a b)) rfl ?_ hk
 rintro w ⟨ρ,hr⟩
 refine(Any.strings_Compare Tryz.layCompare (bs a) (bs b) w).mono ?_
 rintro e w' ⟨rfl,rfl⟩
 exact⟨by simp[bs],0, #[],rfl⟩
abbrev RowA.cells(r:RowA):List AV:= [.v (.string (bs r.key)), .v (.int .i64 r.stamp), .v (.string (bs r.val))]
theorem atCmp_call(G:Nat→Option AV)(r:RowA) (k:List UInt8)(h:AH) (K:AV→AH→Prop)(hk:∀ t,K (.v (.int .i64 (if bl r.key k=true then -1 else if r.key=k then 0 else 1))) (h++t)):SCall Tryz.prog G 131 [.agg r.cells, .v (.string (bs k))] h K:=by
 refine Tryz.c131 G _ _ h K fun hlow=>?_
 unfold Tryz.r131
 simp (disch:=omega)only[go_sem,Nat.reduceAdd]
 refine⟨Compare_call G _ _ _ _ ?_⟩
 simp (disch:=omega)only[go_sem,Nat.reduceAdd]
 exact ret_keep (hk _)
theorem tbSearch_call(G:Nat→Option AV) (v:AV) (l:List RowA) (k:List UInt8)(h:AH) (K:AV→AH→Prop)(hs:Sees h 3 v (l.map RowA.cells))(hr:Rise l)(hl:l.length≤1000000000)
  (hk:K (.tup [.v (.int .i64 (lbK l k)), .v (.bool (hasK l k))]) h):SCall Tryz.prog G 130 [v, .v (.string (bs k)), .fn (.func 131) [] []] h K:=by
 refine Tryz.c130 G _ _ _ h K fun hlow=>?_
 unfold Tryz.r130
 have la:aLen Tryz.prog h 47 v=some (.v (.int .i64 l.length)):=by
  have:=hs.len (P:=Tryz.prog) (t:=47) Tryz.und47
  rw[List.length_map]at this
  exact this
 simp (disch:=omega)only[go_sem,la]
 unfold Tryz.r130_l3_1
 refine⟨fun m vs h'=>∃ i j:Nat,i≤j∧j≤l.length∧m=j-i∧h'=h∧(∀ q r,q<i→l[q]? = some r→bl r.key k=true)∧(∀ q r,j≤q→l[q]? = some r→bl r.key k=false)∧vs = [.v (.int .i64 i), .v (.int .i64 j)],l.length,⟨0,l.length,by omega,by omega,rfl,rfl,by simp,(by intro q p hq hp;rw[List.getElem?_eq_none hq]at hp;cases hp),rfl⟩,?_⟩
 rintro m h' hl1 hlow2 n n' ⟨i,j,hij,hj,rfl,rfl,hlo,hhi,hvs⟩
 simp only[List.cons.injEq,AV.v.injEq,Value.int.injEq,true_and,and_true]at hvs
 obtain⟨rfl,rfl⟩:=hvs
 have row:∀ {q:Nat} {r:RowA},l[q]? = some r→∃ w,aIA Tryz.prog h' 47 v (.v (.int .i64 (q:Int)))=some w∧Go.Abs.rowAt h' w=some (r.cells,0):=fun {q r} hq=>hs.ia (P:=Tryz.prog) (t:=47) (k:= .i64) (i:=(q:Int)) (r:=r.cells) Tryz.und47 Tryz.siz131 (by omega) (by simp[hq])
 by_cases hlt:i<j
 ·have e1:IntKind.i64.wrap ((i:Int)+(j:Int))=((i+j:Nat):Int):=by rw[wrap64_of (by omega) (by omega)];omega
  have e2:IntKind.u64.wrap ((i+j:Nat):Int)=((i+j:Nat):Int):=by
   simp[IntKind.wrap,IntKind.bits,IntKind.signed];omega
  have e3:(((i+j:Nat):Int)).fdiv 2=(((i+j) / 2:Nat):Int):=by
   rw[Int.fdiv_eq_ediv_of_nonneg _ (by omega)];omega
  have e4:IntKind.i64.wrap ((((i+j) / 2:Nat)):Int)=(((i+j) / 2:Nat):Int):=wrap64_of (by omega) (by omega)
  have hmid:(i+j) / 2<l.length:=by omega
  obtain⟨p,hp⟩:∃ p,l[(i+j) / 2]? = some p:=⟨_,List.getElem?_eq_getElem hmid⟩
  obtain⟨q,q1,q2⟩:=row hp
  have hlow3:∀ a b:Nat,∀ v ∈ [AV.v (.int .i64 (a:Int)),AV.v (.int .i64 (b:Int))],Low h'.length v:=by
   intro a b v hv
   simp at hv
   rcases hv with rfl|rfl <;> exact .v
  simp (disch:=omega)only[go_sem,e1,e2, ↓shr_half,e3,e4,q1,q2]
  refine⟨atCmp_call G p k _ _ fun t=>?_⟩
  obtain⟨m1,m2⟩:=List.getElem?_eq_some_iff.mp hp
  cases hc:bl p.key k with
  | true=>
   simp (disch:=omega)only[go_sem,e4,if_true]
   have e5:(((i+j) / 2:Nat):Int)+1=(((i+j) / 2+1:Nat):Int):=by omega
   rw[e5]
   refine next_drop (j-((i+j) / 2+1)) (by omega) (Nat.le_refl _) hlow (hlow3 _ _) ⟨(i+j) / 2+1,j,by omega,hj,rfl,rfl,?_,hhi,rfl⟩
   intro q r hq hrq
   by_cases he:q=(i+j) / 2
   ·subst he;rw[hp]at hrq;cases hrq;exact hc
   ·obtain⟨k1,k2⟩:=List.getElem?_eq_some_iff.mp hrq
    have:=List.pairwise_iff_getElem.mp hr q ((i+j) / 2) k1 m1 (by omega)
    rw[k2,m2]at this
    exact bl_trans this hc
  | false=>
   have ec:¬ (if p.key=k then(0:Int)else 1)<0:=by split <;> omega
   simp (disch:=omega)only[go_sem,e4,if_false,Bool.false_eq_true,ec,decide_false]
   refine next_drop ((i+j) / 2-i) (by omega) (Nat.le_refl _) hlow (hlow3 _ _) ⟨i,(i+j) / 2,by omega,by omega,rfl,rfl,hlo,?_,rfl⟩
   intro q r hq hrq
   by_cases he:q=(i+j) / 2
   ·subst he;rw[hp]at hrq;cases hrq;exact hc
   ·obtain⟨k1,k2⟩:=List.getElem?_eq_some_iff.mp hrq
    have:=List.pairwise_iff_getElem.mp hr ((i+j) / 2) q m1 k1 (by omega)
    rw[k2,m2]at this
    cases hd:bl r.key k with
    | false=>rfl
    | true=>rw[bl_trans this hd]at hc;cases hc
 ·have hij':i=j:=by omega
  subst hij'
  have hlb:lbK l k=i:=lbK_eq hj hlo (fun r hr=>hhi i r (Nat.le_refl _) hr)
  unfold hasK at hk
  rw[hlb]at hk
  by_cases hir:i<l.length
  ·obtain⟨p,hp⟩:∃ p,l[i]? = some p:=⟨_,List.getElem?_eq_getElem hir⟩
   obtain⟨q,q1,q2⟩:=row hp
   rw[hp]at hk
   simp (disch:=omega)only[go_sem,q1,q2]
   refine⟨atCmp_call G p k _ _ fun t=>?_⟩
   have hne:=hhi i p (Nat.le_refl _) hp
   simp only[hne,Bool.false_eq_true,if_false]
   by_cases he:p.key=k
   ·simp only[he,Option.any_some,decide_true]at hk
    simp (disch:=omega)only[go_sem,he,if_true]
    exact ret_tail hlow (by simp[low_tup,low_v]) hk
   ·simp only[he,Option.any_some,decide_false]at hk
    simp (disch:=omega)only[go_sem,he,if_false]
    exact ret_tail hlow (by simp[low_tup,low_v]) hk
  ·have hn:l[i]? = none:=List.getElem?_eq_none (by omega)
   rw[hn]at hk
   simp (disch:=omega)only[go_sem]
   exact ret_same hk
end Go.Proofs
namespace Go.Proofs
open Go Go.Abs
set_option maxRecDepth 100000
set_option linter.unusedSimpArgs false
def KeepT(h H:AH):Prop:=h.length≤H.length∧∀(j:Nat)(r:List (List AV)) (g:Nat),h[j]? = some (some (.cells 131 3 r g))→H[j]? = some (some (.cells 131 3 r g))
theorem KeepT.refl(h:AH):KeepT h h:=⟨Nat.le_refl _,fun _ _ _ h=>h⟩
theorem KeepT.app(a t:AH):KeepT a (a++t):=⟨by simp,fun j r g h=>by rw[List.getElem?_append_left (List.getElem?_eq_some_iff.mp h).1];exact h⟩
theorem KeepT.grew{a b:AH} (g:Grew a b):KeepT a b:=by obtain⟨t,rfl⟩:=g.ex;exact .app _ _
structure TabAt (h:AH) (p:Nat) (l:List RowA):Prop where
 ex:∃ a,h[p]? = some (some (.cells 160 1 [[a]] 0))∧Own 131 3 h a (l.map RowA.cells)
 rise:Rise l
 len:l.length≤1000000
theorem TabAt.lt{h:AH} {p:Nat} {l:List RowA} (T:TabAt h p l):p<h.length:=by
 obtain⟨a,ho,_⟩:=T.ex
 exact(List.getElem?_eq_some_iff.mp ho).1
theorem TabAt.keep{h h':AH} {p:Nat} {l:List RowA} (T:TabAt h p l)(hp:h'[p]? = h[p]?)(k:KeepT h h'):TabAt h' p l:=by
 obtain⟨a,ho,s⟩:=T.ex
 exact⟨⟨a,hp.trans ho,s.keep k.2⟩,T.rise,T.len⟩
theorem TabAt.grew{h h':AH} {p:Nat} {l:List RowA} (T:TabAt h p l)(g:Grew h h'):TabAt h' p l:=by
 have hl:=T.lt
 obtain⟨t,rfl⟩:=g.ex
 exact T.keep (List.getElem?_append_left hl) (KeepT.app _ _)
theorem TabAt.wKeep{h h':AH} {p:Nat} {l:List RowA} (T:TabAt h p l)(b:But p h h'):KeepT h h':=by
 obtain⟨a,ho,_⟩:=T.ex
 refine⟨b.1,fun j r g hj=>?_⟩
 rw[b.2 j (List.getElem?_eq_some_iff.mp hj).1 ?_]
 ·exact hj
 ·rintro rfl
  rw[ho]at hj
  cases hj
theorem TabAt.but{h h':AH} {p q:Nat} {l m:List RowA} (T:TabAt h p l)(U:TabAt h q m)(b:But q h h')(hne:p≠q):TabAt h' p l:=
 T.keep (b.2 p T.lt hne) (U.wKeep b)
theorem tbNew_call(G:Nat→Option AV)(h:AH) (K:AV→AH→Prop)(hk:TabAt (h ++ [some (.cells 160 1 [[.v (.slice none 0 0)]] 0)]) h.length []→K (.ptr h.length 0 0 0) (h ++ [some (.cells 160 1 [[.v (.slice none 0 0)]] 0)])):SCall Tryz.prog G 41 [] h K:=by
 refine Tryz.c41 G h K fun hlow=>?_
 unfold Tryz.r41
 simp (disch:=omega)only[go_sem]
 exact ret_keep (hk ⟨⟨_,by simp, .nil⟩,List.Pairwise.nil,by simp⟩)
theorem tbAt_call(G:Nat→Option AV) (p:Nat) (l:List RowA) (k:List UInt8)(h:AH) (K:AV→AH→Prop)(T:TabAt h p l)
  (hk:K (.tup [.v (.int .i64 (lbK l k)), .v (.bool (hasK l k))]) h):SCall Tryz.prog G 89 [.ptr p 0 0 0, .v (.string (bs k))] h K:=by
 refine Tryz.c89 G _ _ h K fun hlow=>?_
 unfold Tryz.r89
 obtain⟨a,ho,s⟩:=T.ex
 have hl:=T.len
 have a1:=s.one
 have a2:=s.cells
 simp (disch:=omega)only[go_sem,ho,a1,a2]
 refine⟨tbSearch_call G a l k h _ s.sees T.rise (by omega) ?_⟩
 simp (disch:=omega)only[go_sem,extV]
 exact ret_same hk
theorem tbLen_call(G:Nat→Option AV) (p:Nat) (l:List RowA)(h:AH) (K:AV→AH→Prop)(T:TabAt h p l)(hk:K (.v (.int .i64 l.length)) h):SCall Tryz.prog G 62 [.ptr p 0 0 0] h K:=by
 refine Tryz.c62 G _ h K fun hlow=>?_
 unfold Tryz.r62
 obtain⟨a,ho,s⟩:=T.ex
 have a1:=s.one
 have a2:=s.cells
 have la:=s.sees.len (P:=Tryz.prog) (t:=47) Tryz.und47
 rw[List.length_map]at la
 simp (disch:=omega)only[go_sem,ho,a1,a2,la]
 exact ret_same hk
theorem tbSplice_call(G:Nat→Option AV) (p:Nat) (l new:List RowA) (m n:Nat) (x:AV)(h:AH) (K:AV→AH→Prop)(T:TabAt h p l)(hm:m≤l.length)(hn:n≤l.length)(hx:Sees h 3 x (new.map RowA.cells))(hxs:¬ ∃ s,x = .v (.string s))(hnl:new.length≤1000000)
  (hr:Rise (l.take m++new++l.drop n))(hlen:(l.take m++new++l.drop n).length≤1000000)
  (hk:∀ h',TabAt h' p (l.take m++new++l.drop n)→But p h h'→K (.tup []) h'):SCall Tryz.prog G 134 [.ptr p 0 0 0, .v (.int .i64 m), .v (.int .i64 n),x] h K:=by
 refine Tryz.c134 G _ _ _ _ h K fun hlow=>?_
 unfold Tryz.r134
 obtain⟨a,ho,s⟩:=T.ex
 have pl:=T.lt
 have hl:=T.len
 have a1:=s.one
 have a2:=s.cells
 obtain⟨x1,e1,hf⟩:=s.full (h0:=h) (P:=Tryz.prog) (t:=47) (k:= .i64) (k':= .i64) Tryz.und47 Tryz.siz131 (m:=m) (by simpa using hm)
 obtain⟨x2,e2,ht⟩:=s.from (P:=Tryz.prog) (t:=47) (k:= .i64) Tryz.und47 Tryz.siz131 (m:=n) (by simpa using hn)
 have e2':=e2 []
 rw[List.append_nil]at e2'
 simp (disch:=omega)only[go_sem,ho,a1,a2,e1,e2']
 have tl:(l.map RowA.cells |>.take m).length≤1000000:=by simp;omega
 refine hf.append (Nat.le_refl _) Tryz.und47 Tryz.azero131 Tryz.byt131 (by exact Tryz.plainSrc47) hx.src (by simp) hxs (by simp;omega) (by simp;omega) fun v11 h12 hf2 hle st ty=>?_
 obtain⟨t1,rfl⟩:=ext_of hle st
 have ho':∀ t:AH,(h++t)[p]? = _:=fun t=>(List.getElem?_append_left pl).trans ho
 simp (disch:=omega)only[go_sem,ho',a1,a2,e2]
 refine hf2.append hle Tryz.und47 Tryz.azero131 Tryz.byt131 (by exact Tryz.plainSrc47) (ht.more t1).sees.src ht.rowsLen (by
  rintro⟨s,rfl⟩
  cases ht) (by simp;omega) (by simp;omega) fun v13 h14 hf3 hle2 st2 ty2=>?_
 obtain⟨t2,rfl⟩:=ext_of (h:=h) (by omega) (fun j hj=>(st2 j hj).trans (List.getElem?_append_left hj))
 have v1:=hf3.one
 have v2:=hf3.cells
 simp (disch:=omega)only[go_sem,ho',v1,v2,Nat.one_ne_zero,if_false]
 refine ret_keep (hk _ ⟨⟨v13,by rw[List.getElem?_set_self (by simp;omega)],?_⟩,hr,hlen⟩ ⟨by simp,fun j hj hne=>?_⟩)
 ·have eR:(l.take m++new++l.drop n).map RowA.cells=(l.map RowA.cells).take m++new.map RowA.cells++(l.map RowA.cells).drop n:=by simp
  rw[eR]
  refine hf3.own.keep fun id r g hi=>?_
  rw[List.getElem?_set_ne]
  ·exact hi
  ·rintro rfl
   rw[ho']at hi
   cases hi
 ·rw[List.getElem?_set_ne (Ne.symm hne),List.getElem?_append_left hj]
end Go.Proofs
namespace Go.Proofs
open Go Go.Abs
set_option maxRecDepth 100000
set_option linter.unusedSimpArgs false
theorem rowClone_call(G:Nat→Option AV) (a:AV) (l:List RowA)(h:AH) (K:AV→AH→Prop)(ha:Own 131 3 h a (l.map RowA.cells))(hl:l.length≤1000000000)
  (hk:∀ v h',AccR 131 3 h v h' (l.map RowA.cells)→K v h'):SCall Tryz.prog G 94 [a] h K:=by
 refine Tryz.c94 G _ h K fun hlow=>?_
 unfold Tryz.r94
 refine ha.sees.isNil Tryz.und47 ha.nn ?_ ?_
 ·intro hx
  simp (disch:=omega)only[go_sem]
  refine ret_keep (hk _ _ ?_)
  have:=AccR.nil (e:=131) (n:=3) (h:=h) (t:= [])
  rw[List.append_nil]at this
  rw[hx]
  exact this
 ·intro _
  simp (disch:=omega)only[go_sem]
  have h0:AccR 131 3 h (.sl h.length 0 0 0 none) (h ++ [some (.cells 131 3 [] 0)]) []:= @AccR.obj 131 3 h [] [] 0 [] (by simp)
  refine h0.append (new:=l.map RowA.cells) Tryz.und47 Tryz.azero131 Tryz.byt131 (by exact Tryz.plainSrc47) (ha.more _).sees.src (by simp) (by
   rintro⟨s,rfl⟩
   cases ha) (by simp;omega) (by simp;omega) ?_
  intro x' h'' hc _ _
  exact ret_keep (hk _ _ hc)
def endsK(l:List RowA) (a b:List UInt8):Nat × Nat:=(lbK l a,max (lbK l a) (if b = []then l.length else lbK l b))
theorem endsK_le(l:List RowA) (a b:List UInt8):(endsK l a b).1≤(endsK l a b).2∧(endsK l a b).2≤l.length:=by
 have h1:=lbK_le l a
 have h2:=lbK_le l b
 unfold endsK
 simp only
 split <;> omega
theorem tbEnds_call(G:Nat→Option AV) (p:Nat) (l:List RowA) (a b:List UInt8)(h:AH) (K:AV→AH→Prop)(T:TabAt h p l)
  (hk:K (.tup [.v (.int .i64 (endsK l a b).1), .v (.int .i64 (endsK l a b).2)]) h):SCall Tryz.prog G 93 [.ptr p 0 0 0, .agg [.v (.string (bs a)), .v (.string (bs b))]] h K:=by
 refine Tryz.c93 G _ _ h K fun hlow=>?_
 unfold Tryz.r93
 obtain⟨x,ho,s⟩:=T.ex
 have pl:=T.lt
 have hl:=T.len
 have a1:=s.one
 have a2:=s.cells
 have ho':∀ t:AH,(h++t)[p]? = _:=fun t=>(List.getElem?_append_left pl).trans ho
 have la:∀ t,aLen Tryz.prog (h++t) 47 x=some (.v (.int .i64 l.length)):=fun t=>by
  have:=(s.more t).sees.len (P:=Tryz.prog) (t:=47) Tryz.und47
  rw[List.length_map]at this
  exact this
 have hmax:∀ x y:Nat,(if(x:Int)<(y:Int)then(y:Int)else(x:Int))=((max x y:Nat):Int):=fun x y=>by split <;> omega
 have hmax2:∀ x y:Nat,(if(y:Int) > (x:Int)then(y:Int)else(x:Int))=((max x y:Nat):Int):=fun x y=>by split <;> omega
 simp (disch:=omega)only[go_sem,Nat.reduceAdd]
 refine⟨tbAt_call G p l a _ _ (T.grew (Grew.app _)) ?_⟩
 unfold endsK at hk
 have hbe:(b == [])=decide (b = []):=by cases b <;> rfl
 by_cases hb:b = []
 ·subst hb
  simp only[if_true]at hk
  simp (disch:=omega)only[go_sem,extV,ho',a1,a2,la,Nat.reduceAdd,bs_toList,show(ByteArray.mk #[]).toList = [] from bs_toList [],beq_self_eq_true,Bool.not_true,aMinMax,if_true,hmax,hmax2]
  exact ret_tail hlow (by simp[low_tup,low_v]) hk
 ·rw[if_neg hb]at hk
  have hbf:(b == [])=false:=by rw[hbe];simp[hb]
  simp (disch:=omega)only[go_sem,extV,ho',a1,a2,la,Nat.reduceAdd,bs_toList,show(ByteArray.mk #[]).toList = [] from bs_toList [],hbf,Bool.not_false]
  refine⟨tbAt_call G p l b _ _ (T.grew (Grew.app _)) ?_⟩
  simp (disch:=omega)only[go_sem,extV,aMinMax,if_true,hmax,hmax2]
  exact ret_tail hlow (by simp[low_tup,low_v]) hk
theorem tbRows_call(G:Nat→Option AV) (p:Nat) (l:List RowA) (a b:List UInt8)(h:AH) (K:AV→AH→Prop)(T:TabAt h p l)
  (hk:∀ v h',AccR 131 3 h v h' (((l.drop (endsK l a b).1).take ((endsK l a b).2-(endsK l a b).1)).map RowA.cells)→K v h'):SCall Tryz.prog G 44 [.ptr p 0 0 0, .agg [.v (.string (bs a)), .v (.string (bs b))]] h K:=by
 refine Tryz.c44 G _ _ h K fun hlow=>?_
 unfold Tryz.r44
 obtain⟨x,ho,s⟩:=T.ex
 have pl:=T.lt
 have hl:=T.len
 have a1:=s.one
 have a2:=s.cells
 have hel:=endsK_le l a b
 have ho':∀ t:AH,(h++t)[p]? = _:=fun t=>(List.getElem?_append_left pl).trans ho
 simp (disch:=omega)only[go_sem,Nat.reduceAdd]
 refine⟨tbEnds_call G p l a b _ _ (T.grew (Grew.app _)) ?_⟩
 generalize endsK l a b=ft at hel hk
 obtain⟨f,t⟩:=ft
 obtain⟨x',e',so⟩:=s.cut (P:=Tryz.prog) (t:=47) (k:= .i64) (k':= .i64) Tryz.und47 Tryz.siz131 (lo:=f) (hi:=t) hel.1 (by simpa using hel.2)
 simp (disch:=omega)only[go_sem,extV,ho',a1,a2,Nat.reduceAdd,e']
 have so2:Own 131 3 h x' (((l.drop f).take (t-f)).map RowA.cells):=by simpa using so
 refine⟨rowClone_call G x' _ _ _ (so2.more _) (by simp;omega) fun v h' acc=>?_⟩
 simp (disch:=omega)only[go_sem]
 exact ret_keep (hk v h' acc.base)
theorem tbDrop_call(G:Nat→Option AV) (p:Nat) (l:List RowA) (a b:List UInt8)(h:AH) (K:AV→AH→Prop)(T:TabAt h p l)
  (hk:∀ h',TabAt h' p (l.take (endsK l a b).1++l.drop (endsK l a b).2)→But p h h'→K (.v (.int .i64 (((endsK l a b).2-(endsK l a b).1:Nat):Int))) h'):SCall Tryz.prog G 223 [.ptr p 0 0 0, .agg [.v (.string (bs a)), .v (.string (bs b))]] h K:=by
 refine Tryz.c223 G _ _ h K fun hlow=>?_
 unfold Tryz.r223
 have hl:=T.len
 have hel:=endsK_le l a b
 simp (disch:=omega)only[go_sem,Nat.reduceAdd]
 refine⟨tbEnds_call G p l a b _ _ (T.grew (Grew.app _)) ?_⟩
 generalize endsK l a b=ft at hel hk
 obtain⟨f,t⟩:=ft
 simp only at hel hk
 simp (disch:=omega)only[go_sem,extV,Nat.reduceAdd]
 have hsub:List.Sublist (l.take f ++ []++l.drop t) l:=by
  have h1:l.drop t=(l.drop f).drop (t-f):=by rw[List.drop_drop];congr 1;omega
  have h2:=List.Sublist.append (List.Sublist.refl (l.take f)) (List.drop_sublist (t-f) (l.drop f))
  rw[List.take_append_drop]at h2
  rw[List.append_nil,h1]
  exact h2
 refine⟨tbSplice_call G p l [] f t _ _ _ (T.grew (Grew.app _)) (by omega) hel.2 Sees.nil (by simp) (by simp) (List.Pairwise.sublist hsub T.rise) (Nat.le_trans hsub.length_le T.len) fun h' T' b'=>?_⟩
 rw[List.append_nil]at T'
 have ew:IntKind.i64.wrap ((t:Int)-(f:Int))=((t-f:Nat):Int):=by rw[wrap64_of (by omega) (by omega)];omega
 simp (disch:=omega)only[go_sem,ew]
 exact ret_keep (hk h' T' ((But.app _).trans b'))
end Go.Proofs
namespace Go.Proofs
open Go Go.Abs
set_option maxRecDepth 100000
set_option linter.unusedSimpArgs false
theorem rowIndex_call(G:Nat→Option AV) (a:AV) (ops:List RowA)(g:FuncId) (fi ca:List AV)(p:RowA→Bool)(h:AH) (K:AV→AH→Prop)(ha:Sees h 3 a (ops.map RowA.cells))(hl:ops.length≤1000000000000)
  (hc:∀ x∈ops,∀(K:AV→AH→Prop),K (.v (.bool (p x))) h→SCall Tryz.prog G g (fi ++ .agg x.cells::ca) h K)
  (hk1:∀(k:Nat) x,ops[k]? = some x→p x=true→(∀ y∈ops.take k,p y=false)→K (.v (.int .i64 k)) h)
  (hk2:(∀ x∈ops,p x=false)→K (.v (.int .i64 (-1))) h):SCall Tryz.prog G 129 [a, .fn (.func g) fi ca] h K:=by
 refine Tryz.c129 G _ _ h K fun hlow=>?_
 unfold Tryz.r129
 have la:=ha.len (P:=Tryz.prog) (t:=47) Tryz.und47
 rw[List.length_map]at la
 simp (disch:=omega)only[go_sem,la]
 unfold Tryz.r129_l2_1
 refine⟨fun m vs h'=>∃ k:Nat,k≤ops.length∧m=ops.length-k∧h'=h∧(∀ y∈ops.take k,p y=false)∧vs = [.v (.int .i64 k)],ops.length,⟨0,by omega,rfl,rfl,by simp,rfl⟩,?_⟩
 rintro m h' hl1 hlow2 n ⟨k,hkk,rfl,rfl,hno,hvs⟩
 simp only[List.cons.injEq,AV.v.injEq,Value.int.injEq,true_and,and_true]at hvs
 subst hvs
 by_cases hkl:k<ops.length
 ·obtain⟨x,hx⟩:∃ x,ops[k]? = some x:=⟨_,List.getElem?_eq_getElem hkl⟩
  obtain⟨q,q1,q2,_⟩:=ha.iaAll (P:=Tryz.prog) (ty:=47) (k:= .i64) (i:=k) (r:=x.cells) Tryz.und47 Tryz.siz131 (by omega) (by simp[hx])
  have q1:=q1 []
  have q2:=q2 []
  rw[List.append_nil]at q1 q2
  have ew:IntKind.i64.wrap ((k:Int)+1)=((k+1:Nat):Int):=by rw[wrap64_of (by omega) (by omega)];omega
  simp (disch:=omega)only[go_sem,q1,q2]
  refine⟨hc x (List.mem_of_getElem? hx) _ ?_⟩
  cases hp:p x with
  | true=>
   simp (disch:=omega)only[go_sem]
   exact ret_same (hk1 k x hx hp hno)
  | false=>
   simp (disch:=omega)only[go_sem,ew]
   refine next_keep (ops.length-(k+1)) (by omega) (Nat.le_refl _) ⟨k+1,by omega,rfl,rfl,?_,rfl⟩
   intro y hy
   rw[List.take_add_one,hx]at hy
   simp only[Option.toList_some,List.mem_append,List.mem_singleton]at hy
   rcases hy with hy|rfl
   ·exact hno y hy
   ·exact hp
 ·simp (disch:=omega)only[go_sem]
  have:k=ops.length:=by omega
  subst this
  rw[List.take_length]at hno
  exact ret_same (hk2 hno)
theorem rowContains_call(G:Nat→Option AV) (a:AV) (ops:List RowA)(g:FuncId) (fi ca:List AV)(p:RowA→Bool)(h:AH) (K:AV→AH→Prop)(ha:Sees h 3 a (ops.map RowA.cells))(hl:ops.length≤1000000000000)
  (hc:∀ x∈ops,∀(K:AV→AH→Prop),K (.v (.bool (p x))) h→SCall Tryz.prog G g (fi ++ .agg x.cells::ca) h K)
  (hk:K (.v (.bool (ops.any p))) h):SCall Tryz.prog G 83 [a, .fn (.func g) fi ca] h K:=by
 refine Tryz.c83 G _ _ h K fun hlow=>?_
 unfold Tryz.r83
 refine⟨rowIndex_call G a ops g fi ca p h _ ha hl hc (fun k x hx hp _=>?_) (fun hno=>?_)⟩
 ·have:ops.any p=true:=List.any_eq_true.mpr ⟨x,List.mem_of_getElem? hx,hp⟩
  rw[this]at hk
  simp (disch:=omega)only[go_sem]
  exact ret_same hk
 ·have:ops.any p=false:=by rw[List.any_eq_false];intro x hx;rw[hno x hx];decide
  rw[this]at hk
  simp (disch:=omega)only[go_sem]
  exact ret_same hk
theorem row_call(G:Nat→Option AV)(r:RowA)(h:AH) (K:AV→AH→Prop)(hkl:r.key.length≤4611686018427387904)(hvl:r.val.length≤4611686018427387904)(hk:K (.v (.bool r.may)) h):SCall Tryz.prog G 85 [.agg r.cells] h K:=by
 refine Tryz.c85 G _ h K fun hlow=>?_
 unfold Tryz.r85
 have e0:(ByteArray.mk #[]).toList = []:=bs_toList []
 unfold RowA.may at hk
 by_cases h1:r.key = []
 ·have hb:(r.key == [])=true:=by simp[h1]
  rw[show decide (r.key ≠ [])=false by simp[h1],Bool.false_and]at hk
  simp (disch:=omega)only[go_sem,Nat.reduceAdd,bs_toList,e0,hb,Bool.not_true]
  exact ret_tail hlow .v hk
 have hb:(r.key == [])=false:=by simpa using h1
 rw[show decide (r.key ≠ [])=true by simp[h1],Bool.true_and]at hk
 by_cases h2:(r.key.length:Int)≤64
 ·rw[decide_eq_true h2,Bool.true_and]at hk
  by_cases h3:1≤r.stamp
  ·rw[decide_eq_true h3,Bool.true_and]at hk
   by_cases h4:r.stamp≤1099511627776
   ·rw[decide_eq_true h4,Bool.true_and]at hk
    simp (disch:=omega)only[go_sem,Nat.reduceAdd,bs_toList,e0,hb,Bool.not_false]
    exact ret_tail hlow .v hk
   ·rw[decide_eq_false h4,Bool.false_and]at hk
    simp (disch:=omega)only[go_sem,Nat.reduceAdd,bs_toList,e0,hb,Bool.not_false]
    exact ret_tail hlow .v hk
  ·rw[decide_eq_false h3,Bool.false_and]at hk
   simp (disch:=omega)only[go_sem,Nat.reduceAdd,bs_toList,e0,hb,Bool.not_false]
   exact ret_tail hlow .v hk
 ·rw[decide_eq_false h2,Bool.false_and]at hk
  simp (disch:=omega)only[go_sem,Nat.reduceAdd,bs_toList,e0,hb,Bool.not_false]
  exact ret_tail hlow .v hk
theorem take1_call(G:Nat→Option AV)(r:RowA)(h:AH) (K:AV→AH→Prop)(hkl:r.key.length≤4611686018427387904)(hvl:r.val.length≤4611686018427387904)(hk:K (.v (.bool (!r.may))) h):SCall Tryz.prog G 84 [.agg r.cells] h K:=by
 refine Tryz.c84 G _ h K fun hlow=>?_
 unfold Tryz.r84
 simp (disch:=omega)only[go_sem,Nat.reduceAdd]
 refine⟨row_call G r _ _ hkl hvl ?_⟩
 simp (disch:=omega)only[go_sem,Nat.reduceAdd]
 exact ret_tail hlow .v hk
theorem cmpOr_call(G:Nat→Option AV) (i:Nat) (x y:Int)(h:AH) (K:AV→AH→Prop)(ho:h[i]? = some (some (.cells 3 1 [[.v (.int .i64 x)], [.v (.int .i64 y)]] 0)))(hy:y≠0)(hk:K (.v (.int .i64 (if x≠0 then x else y))) h):SCall Tryz.prog G 88 [.sl i 0 0 2 none] h K:=by
 refine Tryz.c88 G _ h K fun hlow=>?_
 unfold Tryz.r88
 simp (disch:=omega)only[go_sem]
 unfold Tryz.r88_l3_1
 refine⟨fun m vs h'=>∃ k:Nat,k≤1∧m=1-k∧h'=h∧(k=1→x=0)∧vs = [.v (.int .i64 k)],1,⟨0,by omega,rfl,rfl,by simp,rfl⟩,?_⟩
 rintro m h' hl1 hlow2 n ⟨k,hkk,rfl,rfl,hx,hvs⟩
 simp only[List.cons.injEq,AV.v.injEq,Value.int.injEq,true_and,and_true]at hvs
 subst hvs
 have e1:IntKind.i64.wrap ((0:Int)+1)=1:=rfl
 by_cases h0:k=0
 ·subst h0
  simp only[Int.natCast_zero,Int.ofNat_zero]
  by_cases hx0:x=0
  ·simp (disch:=omega)only[go_sem,ho,hx0]
   exact next_keep 0 (by omega) (Nat.le_refl _) ⟨1,by omega,rfl,rfl,fun _=>hx0,by simp⟩
  ·rw[if_pos hx0]at hk
   simp (disch:=omega)only[go_sem,ho]
   exact ret_same hk
 ·have:k=1:=by omega
  subst this
  rw[if_neg (by simp[hx rfl])]at hk
  simp only[Int.natCast_one]
  simp (disch:=omega)only[go_sem,ho]
  exact ret_same hk
theorem take2_call(G:Nat→Option AV)(a b:RowA)(h:AH) (K:AV→AH→Prop)(hk:∀ n t,(decide (n<0) = !bl b.key a.key)→K (.v (.int .i64 n)) (h++t)):SCall Tryz.prog G 87 [.agg a.cells, .agg b.cells] h K:=by
 refine Tryz.c87 G _ _ h K fun hlow=>?_
 unfold Tryz.r87
 simp (disch:=omega)only[go_sem,Nat.reduceAdd]
 refine⟨Compare_call G _ _ _ _ ?_⟩
 simp (disch:=omega)only[go_sem,Nat.reduceAdd]
 refine⟨cmpOr_call G (h.length+2) (if bl a.key b.key=true then -1 else if a.key=b.key then 0 else 1) (-1) _ _ (by simp) (by omega) ?_⟩
 simp (disch:=omega)only[go_sem,Nat.reduceAdd]
 refine ret_keep (hk _ _ ?_)
 rcases bl_total a.key b.key with h1|h1|h1
 ·rw[if_pos h1,bl_asymm h1];rfl
 ·rw[h1,bl_irrefl];simp
 ·rw[bl_asymm h1,h1]
  have:a.key≠b.key:=fun e=>by rw[e,bl_irrefl]at h1;cases h1
  simp[this]
theorem rowSorted_call(G:Nat→Option AV) (x:AV) (l:List RowA)(h:AH) (K:AV→AH→Prop)(hx:Sees h 3 x (l.map RowA.cells))(hl:l.length≤1000000000)
  (hk1:Rise l→K (.v (.bool true)) h)(hk2:¬ Rise l→K (.v (.bool false)) h):SCall Tryz.prog G 86 [x, .fn (.func 87) [] []] h K:=by
 refine Tryz.c86 G _ _ h K fun hlow=>?_
 unfold Tryz.r86
 have la:=hx.len (P:=Tryz.prog) (t:=47) Tryz.und47
 rw[List.length_map]at la
 have e0:IntKind.i64.wrap ((l.length:Int)-1)=(l.length:Int)-1:=wrap64_of (by omega) (by omega)
 simp (disch:=omega)only[go_sem,la,e0]
 unfold Tryz.r86_l2_1
 refine⟨fun m vs h'=>∃ k:Int, -1≤k∧k≤(l.length:Int)-1∧m=(k+1).toNat∧h'=h∧(∀(i:Nat) (a b:RowA),k≤(i:Int)→l[i]? = some a→l[i+1]? = some b→bl a.key b.key=true)∧vs = [.v (.int .i64 k)],l.length,⟨(l.length:Int)-1,by omega,by omega,by omega,rfl,?_,rfl⟩,?_⟩
 ·intro i a b hi ha hb
  have:=(List.getElem?_eq_some_iff.mp hb).1
  omega
 rintro m h' hl1 hlow2 k ⟨n,hk0,hkl,rfl,rfl,hno,hvs⟩
 simp only[List.cons.injEq,AV.v.injEq,Value.int.injEq,true_and,and_true]at hvs
 subst hvs
 have row:∀ {q:Int} {r:RowA},0≤q→l[q.toNat]? = some r→∃ w,aIA Tryz.prog h' 47 x (.v (.int .i64 q))=some w∧Go.Abs.rowAt h' w=some (r.cells,0):=fun {q r} h0 hq=>hx.ia (P:=Tryz.prog) (t:=47) (k:= .i64) (i:=q) (r:=r.cells) Tryz.und47 Tryz.siz131 h0 (by simp[hq])
 by_cases hpos:0<k
 ·have ew:IntKind.i64.wrap (k-1)=k-1:=wrap64_of (by omega) (by omega)
  obtain⟨b,hb⟩:∃ b,l[k.toNat]? = some b:=⟨_,List.getElem?_eq_getElem (by omega)⟩
  obtain⟨a,ha⟩:∃ a,l[(k-1).toNat]? = some a:=⟨_,List.getElem?_eq_getElem (by omega)⟩
  obtain⟨q,q1,q2⟩:=row (by omega) hb
  obtain⟨w,w1,w2⟩:=row (by omega) ha
  simp (disch:=omega)only[go_sem,q1,q2,w1,w2,ew]
  refine⟨take2_call G b a _ _ fun n t hn=>?_⟩
  cases hc:bl a.key b.key with
  | true=>
   rw[hc]at hn
   have hn:¬ n<0:=by simpa using hn
   simp (disch:=omega)only[go_sem]
   refine next_drop (k-1+1).toNat (by omega) (Nat.le_refl _) hlow (by simp[low_v]) ⟨k-1,by omega,by omega,rfl,rfl,?_,rfl⟩
   intro i a' b' hi ha' hb'
   by_cases he:(i:Int)=k-1
   ·have e1:(k-1).toNat=i:=by omega
    have e2:k.toNat=i+1:=by omega
    rw[e1,ha']at ha
    rw[e2,hb']at hb
    obtain rfl:=Option.some.inj ha
    obtain rfl:=Option.some.inj hb
    exact hc
   ·exact hno i a' b' (by omega) ha' hb'
  | false=>
   rw[hc]at hn
   have hn:n<0:=by simpa using hn
   simp (disch:=omega)only[go_sem]
   refine ret_tail hlow .v (hk2 fun hr=>?_)
   have:=rise_adj.mp hr (k-1).toNat a b ha (by rw[show(k-1).toNat+1=k.toNat by omega];exact hb)
   rw[hc]at this
   cases this
 ·simp (disch:=omega)only[go_sem]
  exact ret_same (hk1 (rise_adj.mpr fun i a b ha hb=>hno i a b (by omega) ha hb))
end Go.Proofs
namespace Go.Proofs
open Go Go.Abs
set_option maxRecDepth 100000
set_option linter.unusedSimpArgs false
theorem buildTab{a:AV} (a1:a.one=true)(a2:a.cells = [a]):aBuild Tryz.prog 160 [(0,some a)]=some (.agg [a]):=by
 unfold aBuild
 have hz:zer Tryz.prog 160=some (.agg [.v (.slice none 0 0)]):=by kernel_rfl
 rw[hz,Tryz.und160]
 simp[aFill,placeOf,setAt,chk,a1,a2,Tryz.siz47]
theorem fillRow{r:RowA} {x y:ByteArray} : rowsFill 3 (List.replicate 1 [.v (.string x), .v (.int .i64 0), .v (.string y)]) [(0,some (.agg r.cells))]=some [r.cells]:=by
 simp[rowsFill,AV.one,AV.cells,chk]
theorem tbTake_call(G:Nat→Option AV) (p:Nat) (l new:List RowA) (x:AV)(h:AH) (K:AV→AH→Prop)(T:TabAt h p l)(hx:∀ H,KeepT h H→Sees H 3 x (new.map RowA.cells))(hnl:new.length≤1000000)(hb:∀ r∈new,r.key.length≤4611686018427387904∧r.val.length≤4611686018427387904)
  (hk80:(new.any fun r=> !r.may)=true→K (.v (.int .i64 80)) h)
  (hk4:(new.any fun r=> !r.may)=false→¬ Rise new→K (.v (.int .i64 4)) h)
  (hk22:(new.any fun r=> !r.may)=false→Rise new→4096<(takeM l new).length→K (.v (.int .i64 22)) h)
  (hk0:(new.any fun r=> !r.may)=false→Rise new→(takeM l new).length≤4096→∀ h',TabAt h' p (takeM l new)→But p h h'→K (.v (.int .i64 0)) h'):SCall Tryz.prog G 42 [.ptr p 0 0 0,x] h K:=by
 refine Tryz.c42 G _ _ h K fun hlow=>?_
 unfold Tryz.r42
 obtain⟨a,ho,s⟩:=T.ex
 have pl:=T.lt
 have hl:=T.len
 have a1:=s.one
 have a2:=s.cells
 have e0:(ByteArray.mk #[])=bs []:=rfl
 refine⟨rowContains_call G x new _ [] [] (fun r=> !r.may) h _ (hx h (KeepT.refl h)) (by omega) (fun r hr K hK=>take1_call G r _ K (hb r hr).1 (hb r hr).2 hK) ?_⟩
 cases hany:new.any fun r=> !r.may with
 | true=>
  simp (disch:=omega)only[go_sem]
  exact ret_same (hk80 hany)
 | false=>
 simp (disch:=omega)only[go_sem]
 refine⟨rowSorted_call G x new h _ (hx h (KeepT.refl h)) (by omega) (fun hr=>?_) (fun hr=>?_)⟩
 rotate_left
 ·simp (disch:=omega)only[go_sem,Bool.not_false]
  exact ret_same (hk4 hany hr)
 have la:=s.sees.len (P:=Tryz.prog) (t:=47) Tryz.und47
 rw[List.length_map]at la
 have lx:∀ H,KeepT h H→aLen Tryz.prog H 47 x=some (.v (.int .i64 new.length)):=fun H k=>by
  have:=(hx H k).len (P:=Tryz.prog) (t:=47) Tryz.und47
  rw[List.length_map]at this
  exact this
 have lx0:=lx h (KeepT.refl h)
 have lxt:∀ t,aLen Tryz.prog (h++t) 47 x=some (.v (.int .i64 new.length)):=fun t=>lx _ (KeepT.app _ _)
 have ho':∀ t:AH,(h++t)[p]? = _:=fun t=>(List.getElem?_append_left pl).trans ho
 have ew:IntKind.i64.wrap ((l.length:Int)+(new.length:Int))=((l.length+new.length:Nat):Int):=by rw[wrap64_of (by omega) (by omega)];omega
 simp (disch:=omega)only[go_sem,Bool.not_true,ho,ho',a1,a2,la,lx0,lxt,ew,e0,Nat.one_ne_zero,if_false]
 unfold Tryz.r42_l8_17
 have m0:Half 131 3 h (h ++ [some (.cells 131 3 (List.replicate (l.length+new.length) [.v (.string (bs [])), .v (.int .i64 0), .v (.string (bs []))]) 0)]) (.sl h.length 0 0 0 none) []:= @Half.mine 131 3 h _ h.length 0 [] _ (Nat.le_refl _) (by simp) (by simp;rfl)
 refine⟨fun m vs H=>∃(k:Nat) (v21 v22:AV) (rest out:List RowA),k≤new.length∧m=new.length-k∧Half 131 3 h H v21 (out.map RowA.cells)∧Grew h H∧Own 131 3 h v22 (rest.map RowA.cells)∧out++takeM rest (new.drop k)=takeM l new∧(out.length+rest.length≤l.length+k∧rest.length≤l.length)∧Rise rest∧vs = [v21,v22, .v (.int .i64 k)],new.length,⟨0,_,_,l, [],by omega,by simp,by simpa using m0,Grew.app _,s,by simp,⟨by simp,by simp⟩,T.rise,rfl⟩,?_⟩
 rintro m H hl1 hlow2 v21' v22' n ⟨k,v21,v22,rest,out,hkk,rfl,mi,g,so,hq,⟨hlen,hrl⟩,hrise,hvs⟩
 simp only[List.cons.injEq,AV.v.injEq,Value.int.injEq,true_and,and_true]at hvs
 obtain⟨rfl,rfl,rfl⟩:=hvs
 have gl:=g.len
 obtain⟨tt,htt⟩:=g.ex
 have soH:∀ t,Own 131 3 (H++t) v22' (rest.map RowA.cells):=fun t=>by rw[htt,List.append_assoc];exact so.more _
 have r1:=so.one
 have r2:=so.cells
 by_cases hkl:k<new.length
 rotate_left
 ·have:k=new.length:=by omega
  subst this
  rw[List.drop_length]at hq
  simp only[takeM]at hq
  simp (disch:=omega)only[go_sem]
  have soH0:=soH []
  rw[List.append_nil]at soH0
  refine mi.append gl Tryz.und47 Tryz.azero131 Tryz.byt131 (by exact Tryz.plainSrc47) soH0.sees.src so.rowsLen (by
   rintro⟨s,rfl⟩
   cases so) (by simp;omega) (by simp;omega) fun v60 h61 hf3 hle st _=>?_
  have hf3:Half 131 3 h h61 v60 ((takeM l new).map RowA.cells):=by rw[← hq];simpa using hf3
  obtain⟨t2,rfl⟩:=ext_of (h:=h) (h':=h61) (by omega) (fun j hj=>by rw[st j hj,htt,List.getElem?_append_left hj])
  have v1:=hf3.one
  have v2:=hf3.cells
  have lo:=hf3.own.sees.len (P:=Tryz.prog) (t:=47) Tryz.und47
  rw[List.length_map]at lo
  by_cases hbig:4096<(takeM l new).length
  ·simp (disch:=omega)only[go_sem,lo]
   exact ret_tail hlow .v (hk22 hany hr hbig)
  ·simp (disch:=omega)only[go_sem,lo,ho',v1,v2,Nat.one_ne_zero,if_false]
   refine ret_keep (hk0 hany hr (by omega) _ ⟨⟨v60,by rw[List.getElem?_set_self (by simp;omega)],?_⟩,takeM_rise T.rise hr,by omega⟩ ⟨by simp,fun j hj hne=>?_⟩)
   ·refine hf3.own.keep fun id r g hi=>?_
    rw[List.getElem?_set_ne]
    ·exact hi
    ·rintro rfl
     rw[ho']at hi
     cases hi
   ·rw[List.getElem?_set_ne (Ne.symm hne),List.getElem?_append_left hj]
 obtain⟨r,hrk⟩:∃ r,new[k]? = some r:=⟨_,List.getElem?_eq_getElem hkl⟩
 have kH:KeepT h H:=KeepT.grew g
 obtain⟨q,q1,q2⟩:=(hx H kH).ia (P:=Tryz.prog) (t:=47) (k:= .i64) (i:=(k:Int)) (r:=r.cells) Tryz.und47 Tryz.siz131 (by omega) (by simp[hrk])
 have hdrop:new.drop k=r::new.drop (k+1):=by
  obtain⟨h1,h2⟩:=List.getElem?_eq_some_iff.mp hrk
  rw[← h2,List.getElem_cons_drop]
 rw[hdrop]at hq
 simp only[takeM]at hq
 have hlb:=lbK_le rest r.key
 have hhi:=hiK_le rest r.key
 have ewk:IntKind.i64.wrap ((k:Int)+1)=((k+1:Nat):Int):=by rw[wrap64_of (by omega) (by omega)];omega
 have ewl:IntKind.i64.wrap ((lbK rest r.key:Int)+1)=((lbK rest r.key+1:Nat):Int):=by rw[wrap64_of (by omega) (by omega)];omega
 simp (disch:=omega)only[go_sem,q1,q2,e0,Nat.reduceAdd,Nat.one_ne_zero,if_false,buildTab r1 r2,r1,r2]
 have last:∀ v H',Half 131 3 h H' v ((out++rest.take (lbK rest r.key) ++ [r]).map RowA.cells)→H.length≤H'.length→(∀ j,j<h.length→H'[j]? = H[j]?)→Tryz.r42_j40 (.ptr p 0 0 0) x (h ++ [some (AO.cells 131 3 (List.replicate (l.length+new.length) [.v (.string (bs [])), .v (.int .i64 0), .v (.string (bs []))]) 0)]) new.length (fun m vs H=>∃(k:Nat) (v21 v22:AV) (rest out:List RowA),k≤new.length∧m=new.length-k∧Half 131 3 h H v21 (out.map RowA.cells)∧Grew h H∧Own 131 3 h v22 (rest.map RowA.cells)∧out++takeM rest (new.drop k)=takeM l new∧(out.length+rest.length≤l.length+k∧rest.length≤l.length)∧Rise rest∧vs = [v21,v22, .v (.int .i64 k)]) (new.length-k) v22' k (lbK rest r.key) (hasK rest r.key) v H':=by
  intro v H' hf hle st
  obtain⟨t2,ht2⟩:=ext_of (h:=h) (h':=H') (by omega) (fun j hj=>by rw[st j hj,htt,List.getElem?_append_left hj])
  have h1le:(h ++ [some (AO.cells 131 3 (List.replicate (l.length+new.length) [.v (.string (bs [])), .v (.int .i64 0), .v (.string (bs []))]) 0)]).length≤H'.length:=Nat.le_trans hl1 hle
  unfold Tryz.r42_j40
  have fin:∀(d:Nat) (w:AV),d=hiK rest r.key→Own 131 3 h w ((rest.map RowA.cells).drop d)→nextR (h ++ [some (AO.cells 131 3 (List.replicate (l.length+new.length) [.v (.string (bs [])), .v (.int .i64 0), .v (.string (bs []))]) 0)]) (fun m vs H=>∃(k:Nat) (v21 v22:AV) (rest out:List RowA),k≤new.length∧m=new.length-k∧Half 131 3 h H v21 (out.map RowA.cells)∧Grew h H∧Own 131 3 h v22 (rest.map RowA.cells)∧out++takeM rest (new.drop k)=takeM l new∧(out.length+rest.length≤l.length+k∧rest.length≤l.length)∧Rise rest∧vs = [v21,v22, .v (.int .i64 k)]) (new.length-k) [some (.ptr p 0 0 0),some x,some (.v (.int .i64 new.length))] [some (.ptr p 0 0 0),some x,some (.v (.int .i64 new.length))] [v,w, .v (.int .i64 ((k+1:Nat):Int))] H':=by
   rintro d w rfl hw
   refine next_keep (new.length-(k+1)) (by omega) h1le ⟨k+1,v,w,rest.drop (hiK rest r.key),out++rest.take (lbK rest r.key) ++ [r],by omega,rfl,hf,⟨t2,ht2⟩,by simpa using hw,?_,?_,hrise.drop _,rfl⟩
   ·rw[← hq];simp
   ·have:lbK rest r.key≤hiK rest r.key:=by unfold hiK;omega
    refine⟨?_,by rw[List.length_drop];omega⟩
    simp only[List.length_append,List.length_take,List.length_drop,List.length_cons,List.length_nil]
    omega
  cases hh:hasK rest r.key with
  | true=>
   have e1:hiK rest r.key=lbK rest r.key+1:=by unfold hiK;rw[hh];rfl
   obtain⟨w,w1,w2⟩:=so.from (P:=Tryz.prog) (t:=47) (k:= .i64) Tryz.und47 Tryz.siz131 (m:=lbK rest r.key+1) (by simp;omega)
   have w1:=w1 t2
   rw[← ht2]at w1
   simp (disch:=omega)only[go_sem,ewl,ewk,w1]
   exact fin _ w e1.symm w2
  | false=>
   have e1:hiK rest r.key=lbK rest r.key:=by unfold hiK;rw[hh];rfl
   obtain⟨w,w1,w2⟩:=so.from (P:=Tryz.prog) (t:=47) (k:= .i64) Tryz.und47 Tryz.siz131 (m:=lbK rest r.key) (by simp;omega)
   have w1:=w1 t2
   rw[← ht2]at w1
   simp (disch:=omega)only[go_sem,ewk,w1]
   exact fin _ w e1.symm w2
 have rlen:rest.length≤2000000:=by omega
 refine⟨tbAt_call G (H.length+1) rest r.key _ _ ⟨⟨v22',by simp,soH _⟩,hrise,by omega⟩ ?_⟩
 obtain⟨x1,eU,sU⟩:=(soH [some (AO.cells 131 3 [r.cells] 0),some (AO.cells 160 1 [[v22']] 0)]).upto (P:=Tryz.prog) (t:=47) (k:= .i64) Tryz.und47 Tryz.siz131 (m:=lbK rest r.key) (by simp;omega)
 have eU0:=eU []
 rw[List.append_nil]at eU0
 have m2:Half 131 3 h (H ++ [some (AO.cells 131 3 [r.cells] 0),some (AO.cells 160 1 [[v22']] 0)]) v21' (out.map RowA.cells):=mi.more _
 have oi:(H ++ [some (AO.cells 131 3 [r.cells] 0),some (AO.cells 160 1 [[v22']] 0)])[H.length]? = some (some (AO.cells 131 3 [r.cells] 0)):=by simp
 have offi:Off v21' H.length:=mi.off (Nat.le_refl _)
 have st2:∀ j,j<h.length→(H ++ [some (AO.cells 131 3 [r.cells] 0),some (AO.cells 160 1 [[v22']] 0)])[j]? = H[j]?:=fun j hj=>List.getElem?_append_left (by omega)
 have hH2:H.length+2=(H ++ [some (AO.cells 131 3 [r.cells] 0),some (AO.cells 160 1 [[v22']] 0)]).length:=by simp
 simp (disch:=omega)only[go_sem,extV]
 generalize (H ++ [some (AO.cells 131 3 [r.cells] 0),some (AO.cells 160 1 [[v22']] 0)])=H2 at eU eU0 sU m2 oi st2 hH2 ⊢
 have oi':∀ t:AH,(H2++t)[H.length]? = _:=fun t=>(List.getElem?_append_left (List.getElem?_eq_some_iff.mp oi).1).trans oi
 refine⟨?_,?_⟩
 ·simp (disch:=omega)only[go_sem,eU0,oi,Nat.reduceAdd]
  refine m2.append (by omega) Tryz.und47 Tryz.azero131 Tryz.byt131 (by exact Tryz.plainSrc47) sU.sees.src sU.rowsLen (by
   rintro⟨s,rfl⟩
   cases sU) (by simp;omega) (by simp;omega) fun v44 h45 hf2 hle st so2=>?_
  obtain⟨g45,_⟩:=so2 H.length (by omega) offi
  rw[oi]at g45
  simp (disch:=omega)only[go_sem,g45,Nat.reduceAdd,fillRow]
  refine(hf2.more _).append (new:= [r.cells]) (by simp;omega) Tryz.und47 Tryz.azero131 Tryz.byt131 (by exact Tryz.plainSrc47) (by simp[srcRows,rowsOf,chk]) (by simp) (by rintro⟨s,hs⟩;cases hs) (by simp;omega) (by simp;omega) fun v49 h50 hf3 hle3 st3 _=>?_
  simp only[List.length_append,List.length_cons,List.length_nil]at hle3
  refine last v49 h50 (by simpa using hf3) (by omega) fun j hj=>?_
  rw[st3 j hj,List.getElem?_append_left (by omega),st j hj,st2 j hj]
 ·simp (disch:=omega)only[go_sem,eU0,eU,oi,Nat.reduceAdd,fillRow]
  refine(m2.more _).append (by simp;omega) Tryz.und47 Tryz.azero131 Tryz.byt131 (by exact Tryz.plainSrc47) (sU.more _).sees.src sU.rowsLen (by
   rintro⟨s,rfl⟩
   cases sU) (by simp;omega) (by simp;omega) fun v56 h57 hf2 hle st so2=>?_
  simp only[List.length_append,List.length_cons,List.length_nil]at hle
  obtain⟨g57,_⟩:=so2 H.length (by simp;omega) offi
  rw[oi']at g57
  obtain⟨gr57,_⟩:=so2 H2.length (by simp) (m2.off (Nat.le_refl _))
  rw[List.getElem?_append_right (Nat.le_refl _),Nat.sub_self,List.getElem?_cons_zero]at gr57
  simp (disch:=omega)only[go_sem,g57,Nat.reduceAdd]
  refine hf2.append (new:= [r.cells]) (by omega) Tryz.und47 Tryz.azero131 Tryz.byt131 (by exact Tryz.plainSrc47) (by simp[srcRows,rowsOf,chk,gr57]) (by simp) (by rintro⟨s,hs⟩;cases hs) (by simp;omega) (by simp;omega) fun v58 h59 hf3 hle3 st3 _=>?_
  refine last v58 h59 (by simpa using hf3) (by omega) fun j hj=>?_
  rw[st3 j hj,st j hj,List.getElem?_append_left (by omega),st2 j hj]
end Go.Proofs
namespace Go.Proofs
open Go Go.Abs
set_option maxRecDepth 100000
set_option linter.unusedSimpArgs false
structure ResA where
 code:Int
 stamp:Int
 val:List UInt8
abbrev ResA.cells(x:ResA):List AV:= [.v (.int .i64 x.code), .v (.int .i64 x.stamp), .v (.string (bs x.val)), .v (.slice none 0 0)]
end Go.Proofs
namespace Go.Proofs
open Go Go.Abs
set_option maxRecDepth 100000
set_option linter.unusedSimpArgs false
def stampK(l:List RowA) (k:List UInt8):Int:=(l.getD (lbK l k) ⟨[],0, []⟩).stamp
def valK(l:List RowA) (k:List UInt8):List UInt8:=(l.getD (lbK l k) ⟨[],0, []⟩).val
def writeK(l:List RowA)(x:OpA):ResA × List RowA:=
 if hasK l x.key=true then
  if x.kind=1 then(⟨90,stampK l x.key, []⟩,l)
  else if(x.test≠0∧x.test≠stampK l x.key)∨x.stamp≤stampK l x.key then(⟨92,stampK l x.key, []⟩,l)
  else if 4096<x.val.length then(⟨93,0, []⟩,l)
  else(⟨0,x.stamp, []⟩,putK l ⟨x.key,x.stamp,x.val⟩)
 else if x.kind=2∨x.test≠0 then(⟨91,0, []⟩,l)
 else if 4096<x.val.length then(⟨93,0, []⟩,l)
 else if 4096≤l.length then(⟨22,0, []⟩,l)
 else(⟨0,x.stamp, []⟩,putK l ⟨x.key,x.stamp,x.val⟩)
def oneK(l:List RowA)(x:OpA):ResA × List RowA:=
 if x.kind=4∨x.kind=5 then
  if hasK l x.key=false then(⟨91,0, []⟩,l)
  else if x.test≠0∧x.test≠stampK l x.key then(⟨92,stampK l x.key, []⟩,l)
  else if x.kind=5 then(⟨0,stampK l x.key,valK l x.key⟩,l)
  else(⟨0,stampK l x.key, []⟩,delK l x.key)
 else writeK l x
theorem refused_call(G:Nat→Option AV) (c s:Int)(h:AH) (K:AV→AH→Prop)(hk:∀ t,K (.agg (ResA.cells ⟨c,s, []⟩)) (h++t)):SCall Tryz.prog G 133 [.v (.int .i64 c), .v (.int .i64 s)] h K:=by
 refine Tryz.c133 G _ _ h K fun hlow=>?_
 unfold Tryz.r133
 simp (disch:=omega)only[go_sem,Nat.reduceAdd]
 exact ret_keep (hk _)
theorem rowOf{h:AH} {a:AV} {l:List RowA} (s:Own 131 3 h a (l.map RowA.cells)) {i:Nat} {r:RowA} (hi:l[i]? = some r) :
  ∃ q u,(∀ t,aIA Tryz.prog (h++t) 47 a (.v (.int .i64 (i:Int)))=some q)∧(∀ t,Go.Abs.rowAt (h++t) q=some (r.cells,0))∧aFA Tryz.prog 131 1 q=some u∧∀ t,aLoad Tryz.prog (h++t) 3 u=some (.v (.int .i64 r.stamp)):=by
 obtain⟨q,q1,q2,q3⟩:=s.sees.iaAll (P:=Tryz.prog) (ty:=47) (k:= .i64) (i:=(i:Int)) (r:=r.cells) Tryz.und47 Tryz.siz131 (by omega) (by simp[hi])
 obtain⟨u,u1,u2⟩:=q3 131 1 1 1 false Tryz.fld131_1 (by decide)
 refine⟨q,u,q1,q2,u1,fun t=>?_⟩
 have:=u2 t
 simp (disch:=omega)only[go_sem,this]
theorem TabAt.setO{h:AH} {p i:Nat} {l:List RowA} (T:TabAt h p l) {e:TypeId} {n g:Nat} {r:List (List AV)} {o:Option AO} (hi:h[i]? = some (some (.cells e n r g)))(h1:e≠160)(h2:e≠131):TabAt (h.set i o) p l:=by
 obtain⟨x,hx,_⟩:=T.ex
 have ne:∀ {j:Nat} {e':TypeId} {n' g':Nat} {r':List (List AV)},h[j]? = some (some (.cells e' n' r' g'))→e≠e'→(h.set i o)[j]? = h[j]?:=fun {j e' n' g' r'} hj he=>by
  refine List.getElem?_set_ne ?_
  rintro rfl
  rw[hi]at hj
  cases hj
  exact he rfl
 exact T.keep (ne hx h1) ⟨by simp,fun j r g hj=>(ne hj h2).trans hj⟩
theorem But.setN{p i:Nat} {h h':AH} {o:Option AO} (b:But p h h')(hi:h.length≤i):But p h (h'.set i o):=⟨by rw[List.length_set];exact b.1,fun j hj hn=>by rw[List.getElem?_set_ne (by omega)];exact b.2 j hj hn⟩
theorem tbWrite_call(G:Nat→Option AV) (p:Nat) (l:List RowA)(x:OpA)(h:AH) (K:AV→AH→Prop)(T:TabAt h p l)(hlen:l.length≤100000)(hvl:x.val.length≤4611686018427387904)
  (hk:∀ h',TabAt h' p (writeK l x).2→But p h h'→K (.agg (writeK l x).1.cells) h'):SCall Tryz.prog G 132 [.ptr p 0 0 0, .agg x.cells] h K:=by
 refine Tryz.c132 G _ _ h K fun hlow=>?_
 unfold Tryz.r132
 obtain⟨a,ho,s⟩:=T.ex
 have pl:=T.lt
 have a1:=s.one
 have a2:=s.cells
 have e0:(ByteArray.mk #[])=bs []:=rfl
 have ho':∀ t:AH,(h++t)[p]? = _:=fun t=>(List.getElem?_append_left pl).trans ho
 have hlb:=lbK_le l x.key
 have la:∀ t,aLen Tryz.prog (h++t) 47 a=some (.v (.int .i64 l.length)):=fun t=>by
  have:=(s.more t).sees.len (P:=Tryz.prog) (t:=47) Tryz.und47
  rw[List.length_map]at this
  exact this
 have ew:IntKind.i64.wrap ((lbK l x.key:Int)+1)=((lbK l x.key+1:Nat):Int):=by rw[wrap64_of (by omega) (by omega)];omega
 have stay:∀ t,TabAt (h++t) p l∧But p h (h++t):=fun t=>⟨T.grew (Grew.app t),But.app t⟩
 simp (disch:=omega)only[go_sem,Nat.reduceAdd]
 refine⟨tbAt_call G p l x.key _ _ (T.grew (Grew.app _)) ?_⟩
 unfold writeK at hk
 unfold Tryz.r132_j11
 have kinds:∀ n:Int,(x.kind==n)=decide (x.kind=n):=fun n=>by by_cases h:x.kind=n <;> simp[h]
 have put:∀(t:AH) (to:Nat) (id:Nat) (K':AV→AH→Prop),to=hiK l x.key→(h++t)[id]? = some (some (.cells 131 3 [RowA.cells ⟨x.key,x.stamp,x.val⟩] 0))→l.length<100001→(∀ h',TabAt h' p (putK l ⟨x.key,x.stamp,x.val⟩)→But p (h++t) h'→K' (.tup []) h') →
   SCall Tryz.prog G 134 [.ptr p 0 0 0, .v (.int .i64 (lbK l x.key)), .v (.int .i64 (to:Nat)), .sl id 0 0 1 none] (h++t) K':=fun t to id K' hto hid _ hK=>by
  subst hto
  have e:l.take (lbK l x.key) ++ [⟨x.key,x.stamp,x.val⟩]++l.drop (hiK l x.key)=putK l ⟨x.key,x.stamp,x.val⟩:=by unfold putK;simp
  refine tbSplice_call G p l [⟨x.key,x.stamp,x.val⟩] (lbK l x.key) (hiK l x.key) _ _ _ (stay t).1 hlb (hiK_le l x.key) (Sees.all (rows:= [RowA.cells ⟨x.key,x.stamp,x.val⟩]) (by simp) hid) (by rintro⟨s,hs⟩;cases hs) (by simp) (by rw[e];exact putK_rise T.rise _) (by rw[e];have:=putK_len l ⟨x.key,x.stamp,x.val⟩;omega) fun h' T' b'=>hK h' (by rw[e]at T';exact T') b'
 have eqI:∀ a b:Int,(a==b)=decide (a=b):=fun a b=>by by_cases h:a=b <;> simp[h]
 have neI:∀ a b:Int,(a != b)=decide (a≠b):=fun a b=>by by_cases h:a=b <;> simp[h]
 cases hh:hasK l x.key with
 | true=>
  obtain⟨r,hr1,hr2⟩:=hasK_iff.mp hh
  have hst:stampK l x.key=r.stamp:=by unfold stampK;rw[getD_of hr1]
  have hhi:hiK l x.key=lbK l x.key+1:=by unfold hiK;rw[hh];rfl
  rw[hh,hst]at hk
  simp only[if_true]at hk
  obtain⟨q,u,q1,q2,u1,u2⟩:=rowOf s hr1
  by_cases k1:x.kind=1
  ·rw[if_pos k1]at hk
   simp (disch:=omega)only[go_sem,extV,hh,ho',a1,a2,la,q1,q2,u1,u2,ew,k1,beq_self_eq_true,Nat.one_ne_zero,if_false,Nat.reduceAdd]
   refine⟨refused_call G _ _ _ _ fun t=>?_⟩
   simp (disch:=omega)only[go_sem,Nat.reduceAdd]
   exact ret_keep (hk _ (stay _).1 (stay _).2)
  rw[if_neg k1]at hk
  have k1':(x.kind==1)=false:=by simpa using k1
  by_cases k2:(x.test≠0∧x.test≠r.stamp)∨x.stamp≤r.stamp
  ·rw[if_pos k2]at hk
   have fin:∀ t,RetR h K (.agg (ResA.cells ⟨92,r.stamp, []⟩)) (h++t):=fun t=>ret_keep (hk _ (stay _).1 (stay _).2)
   by_cases t0:x.test=0
   ·have s1:x.stamp≤r.stamp:=by rcases k2 with⟨h1,_⟩|h1;exact absurd t0 h1;exact h1
    simp (disch:=omega)only[go_sem,extV,hh,ho',a1,a2,la,q1,q2,u1,u2,ew,k1',t0,beq_self_eq_true,bne_self_eq_false,Bool.not_true,Bool.not_false,Nat.one_ne_zero,if_false,Nat.reduceAdd]
    refine⟨refused_call G _ _ _ _ fun t=>?_⟩
    simp (disch:=omega)only[go_sem,Nat.reduceAdd]
    exact fin _
   ·have t0':(x.test != 0)=true:=by simpa using t0
    by_cases ts:x.test=r.stamp
    ·have ts':(x.test != r.stamp)=false:=by simpa using ts
     have s1:x.stamp≤r.stamp:=by rcases k2 with⟨_,h1⟩|h1;exact absurd ts h1;exact h1
     simp (disch:=omega)only[go_sem,extV,hh,ho',a1,a2,la,q1,q2,u1,u2,ew,k1',t0',ts',beq_self_eq_true,bne_self_eq_false,Bool.not_true,Bool.not_false,Nat.one_ne_zero,if_false,Nat.reduceAdd]
     refine⟨refused_call G _ _ _ _ fun t=>?_⟩
     simp (disch:=omega)only[go_sem,Nat.reduceAdd]
     exact fin _
    ·have ts':(x.test != r.stamp)=true:=by simpa using ts
     simp (disch:=omega)only[go_sem,extV,hh,ho',a1,a2,la,q1,q2,u1,u2,ew,k1',t0',ts',beq_self_eq_true,bne_self_eq_false,Bool.not_true,Bool.not_false,Nat.one_ne_zero,if_false,Nat.reduceAdd]
     refine⟨refused_call G _ _ _ _ fun t=>?_⟩
     simp (disch:=omega)only[go_sem,Nat.reduceAdd]
     exact fin _
  ·rw[if_neg k2]at hk
   have s1:¬ x.stamp≤r.stamp:=fun h=>k2 (.inr h)
   have tz:x.test=0∨x.test=r.stamp:=by
    by_cases t0:x.test=0
    ·exact .inl t0
    ·by_cases ts:x.test=r.stamp
     ·exact .inr ts
     ·exact absurd (.inl ⟨t0,ts⟩) k2
   by_cases hv:4096<x.val.length
   ·rw[if_pos hv]at hk
    have fin:∀ t,RetR h K (.agg (ResA.cells ⟨93,0, []⟩)) (h++t):=fun t=>ret_keep (hk _ (stay _).1 (stay _).2)
    by_cases t0:x.test=0
    ·simp (disch:=omega)only[go_sem,extV,hh,ho',a1,a2,la,q1,q2,u1,u2,ew,k1',t0,beq_self_eq_true,bne_self_eq_false,Bool.not_true,Bool.not_false,Nat.one_ne_zero,if_false,Nat.reduceAdd]
     refine⟨refused_call G _ _ _ _ fun t=>?_⟩
     simp (disch:=omega)only[go_sem,Nat.reduceAdd]
     exact fin _
    ·have t0':(x.test != 0)=true:=by simpa using t0
     have ts':(x.test != r.stamp)=false:=by rcases tz with h|h;exact absurd h t0;simpa using h
     simp (disch:=omega)only[go_sem,extV,hh,ho',a1,a2,la,q1,q2,u1,u2,ew,k1',t0',ts',beq_self_eq_true,bne_self_eq_false,Bool.not_true,Bool.not_false,Nat.one_ne_zero,if_false,Nat.reduceAdd]
     refine⟨refused_call G _ _ _ _ fun t=>?_⟩
     simp (disch:=omega)only[go_sem,Nat.reduceAdd]
     exact fin _
   ·rw[if_neg hv]at hk
    by_cases t0:x.test=0
    ·simp (disch:=omega)only[go_sem,extV,hh,ho',a1,a2,la,q1,q2,u1,u2,ew,k1',t0,beq_self_eq_true,bne_self_eq_false,Bool.not_true,Bool.not_false,Nat.one_ne_zero,if_false,Nat.reduceAdd]
     refine⟨put _ (lbK l x.key+1) _ _ (by omega) (by simp) (by omega) fun h' T' b'=>?_⟩
     have b1:=(But.app _).trans b'
     have g1:h'[h.length]? = some (some (.cells 89 6 [x.cells] 0)):=(b'.2 h.length (by simp) (by omega)).trans (by simp)
     have g2:h'[h.length+1]? = some (some (.cells 157 4 [[.v (.int .i64 0), .v (.int .i64 0), .v (.string (bs [])), .v (.slice none 0 0)]] 0)):=(b'.2 (h.length+1) (by simp) (by omega)).trans (by simp[e0])
     have g3:∀ o,(h'.set (h.length+1) o)[h.length+1]? = some o:=fun o=>List.getElem?_set_self (List.getElem?_eq_some_iff.mp g2).1
     simp (disch:=omega)only[go_sem,g1,g2,g3,Nat.reduceAdd]
     exact ret_keep (hk _ (T'.setO g2 (by decide) (by decide)) (b1.setN (by omega)))
    ·have t0':(x.test != 0)=true:=by simpa using t0
     have ts':(x.test != r.stamp)=false:=by rcases tz with h|h;exact absurd h t0;simpa using h
     simp (disch:=omega)only[go_sem,extV,hh,ho',a1,a2,la,q1,q2,u1,u2,ew,k1',t0',ts',beq_self_eq_true,bne_self_eq_false,Bool.not_true,Bool.not_false,Nat.one_ne_zero,if_false,Nat.reduceAdd]
     refine⟨put _ (lbK l x.key+1) _ _ (by omega) (by simp) (by omega) fun h' T' b'=>?_⟩
     have b1:=(But.app _).trans b'
     have g1:h'[h.length]? = some (some (.cells 89 6 [x.cells] 0)):=(b'.2 h.length (by simp) (by omega)).trans (by simp)
     have g2:h'[h.length+1]? = some (some (.cells 157 4 [[.v (.int .i64 0), .v (.int .i64 0), .v (.string (bs [])), .v (.slice none 0 0)]] 0)):=(b'.2 (h.length+1) (by simp) (by omega)).trans (by simp[e0])
     have g3:∀ o,(h'.set (h.length+1) o)[h.length+1]? = some o:=fun o=>List.getElem?_set_self (List.getElem?_eq_some_iff.mp g2).1
     simp (disch:=omega)only[go_sem,g1,g2,g3,Nat.reduceAdd]
     exact ret_keep (hk _ (T'.setO g2 (by decide) (by decide)) (b1.setN (by omega)))
 | false=>
  have hhi:hiK l x.key=lbK l x.key:=by unfold hiK;rw[hh];rfl
  rw[hh]at hk
  simp only[Bool.false_eq_true,if_false]at hk
  by_cases k2:x.kind=2∨x.test≠0
  ·rw[if_pos k2]at hk
   have fin:∀ t,RetR h K (.agg (ResA.cells ⟨91,0, []⟩)) (h++t):=fun t=>ret_keep (hk _ (stay _).1 (stay _).2)
   by_cases k1:x.kind=2
   ·simp (disch:=omega)only[go_sem,extV,hh,ho',a1,a2,la,ew,k1,beq_self_eq_true,bne_self_eq_false,Bool.not_true,Bool.not_false,Nat.one_ne_zero,if_false,Nat.reduceAdd]
    refine⟨refused_call G _ _ _ _ fun t=>?_⟩
    simp (disch:=omega)only[go_sem,Nat.reduceAdd]
    exact fin _
   ·have k1':(x.kind==2)=false:=by simpa using k1
    have t0':(x.test != 0)=true:=by rcases k2 with h|h;exact absurd h k1;simpa using h
    simp (disch:=omega)only[go_sem,extV,hh,ho',a1,a2,la,ew,k1',t0',beq_self_eq_true,bne_self_eq_false,Bool.not_true,Bool.not_false,Nat.one_ne_zero,if_false,Nat.reduceAdd]
    refine⟨refused_call G _ _ _ _ fun t=>?_⟩
    simp (disch:=omega)only[go_sem,Nat.reduceAdd]
    exact fin _
  rw[if_neg k2]at hk
  have k1':(x.kind==2)=false:=by simp;exact fun h=>k2 (.inl h)
  have t0:x.test=0:=Decidable.byContradiction fun h=>k2 (.inr h)
  by_cases hv:4096<x.val.length
  ·rw[if_pos hv]at hk
   have fin:∀ t,RetR h K (.agg (ResA.cells ⟨93,0, []⟩)) (h++t):=fun t=>ret_keep (hk _ (stay _).1 (stay _).2)
   simp (disch:=omega)only[go_sem,extV,hh,ho',a1,a2,la,ew,k1',t0,beq_self_eq_true,bne_self_eq_false,Bool.not_true,Bool.not_false,Nat.one_ne_zero,if_false,Nat.reduceAdd]
   refine⟨refused_call G _ _ _ _ fun t=>?_⟩
   simp (disch:=omega)only[go_sem,Nat.reduceAdd]
   exact fin _
  rw[if_neg hv]at hk
  by_cases hf:4096≤l.length
  ·rw[if_pos hf]at hk
   have fin:∀ t,RetR h K (.agg (ResA.cells ⟨22,0, []⟩)) (h++t):=fun t=>ret_keep (hk _ (stay _).1 (stay _).2)
   simp (disch:=omega)only[go_sem,extV,hh,ho',a1,a2,la,ew,k1',t0,beq_self_eq_true,bne_self_eq_false,Bool.not_true,Bool.not_false,Nat.one_ne_zero,if_false,Nat.reduceAdd]
   refine⟨refused_call G _ _ _ _ fun t=>?_⟩
   simp (disch:=omega)only[go_sem,Nat.reduceAdd]
   exact fin _
  rw[if_neg hf]at hk
  simp (disch:=omega)only[go_sem,extV,hh,ho',a1,a2,la,ew,k1',t0,beq_self_eq_true,bne_self_eq_false,Bool.not_true,Bool.not_false,Nat.one_ne_zero,if_false,Nat.reduceAdd]
  refine⟨put _ (lbK l x.key) _ _ (by omega) (by simp) (by omega) fun h' T' b'=>?_⟩
  have b1:=(But.app _).trans b'
  have g1:h'[h.length]? = some (some (.cells 89 6 [x.cells] 0)):=(b'.2 h.length (by simp) (by omega)).trans (by simp)
  have g2:h'[h.length+1]? = some (some (.cells 157 4 [[.v (.int .i64 0), .v (.int .i64 0), .v (.string (bs [])), .v (.slice none 0 0)]] 0)):=(b'.2 (h.length+1) (by simp) (by omega)).trans (by simp[e0])
  have g3:∀ o,(h'.set (h.length+1) o)[h.length+1]? = some o:=fun o=>List.getElem?_set_self (List.getElem?_eq_some_iff.mp g2).1
  simp (disch:=omega)only[go_sem,g1,g2,g3,Nat.reduceAdd]
  exact ret_keep (hk _ (T'.setO g2 (by decide) (by decide)) (b1.setN (by omega)))
end Go.Proofs
namespace Go.Proofs
open Go Go.Abs
set_option maxRecDepth 100000
set_option linter.unusedSimpArgs false
theorem tbOne_call(G:Nat→Option AV) (p:Nat) (l:List RowA)(x:OpA)(h:AH) (K:AV→AH→Prop)(T:TabAt h p l)(hlen:l.length≤100000)(hvl:x.val.length≤4611686018427387904)(h6:x.kind≠6)
  (hk:∀ h',TabAt h' p (oneK l x).2→But p h h'→K (.agg (oneK l x).1.cells) h'):SCall Tryz.prog G 92 [.ptr p 0 0 0, .agg x.cells] h K:=by
 refine Tryz.c92 G _ _ h K fun hlow=>?_
 unfold Tryz.r92
 obtain⟨a,ho,s⟩:=T.ex
 have pl:=T.lt
 have a1:=s.one
 have a2:=s.cells
 have e0:(ByteArray.mk #[])=bs []:=rfl
 have ho':∀ t:AH,(h++t)[p]? = _:=fun t=>(List.getElem?_append_left pl).trans ho
 have hlb:=lbK_le l x.key
 have ew:IntKind.i64.wrap ((lbK l x.key:Int)+1)=((lbK l x.key+1:Nat):Int):=by rw[wrap64_of (by omega) (by omega)];omega
 have stay:∀ t,TabAt (h++t) p l∧But p h (h++t):=fun t=>⟨T.grew (Grew.app t),But.app t⟩
 have k6:(x.kind==6)=false:=by simpa using h6
 simp (disch:=omega)only[go_sem,Nat.reduceAdd]
 refine⟨tbAt_call G p l x.key _ _ (T.grew (Grew.app _)) ?_⟩
 unfold oneK at hk
 by_cases k45:x.kind=4∨x.kind=5
 rotate_left
 ·rw[if_neg k45]at hk
  have k4:(x.kind==4)=false:=by simp;exact fun h=>k45 (.inl h)
  have k5:(x.kind==5)=false:=by simp;exact fun h=>k45 (.inr h)
  simp (disch:=omega)only[go_sem,extV,k6,k4,k5,Nat.reduceAdd]
  refine⟨tbWrite_call G p l x _ _ (stay _).1 hlen hvl fun h' T' b'=>?_⟩
  have g2:h'[h.length+1]? = some (some (.cells 157 4 [[.v (.int .i64 0), .v (.int .i64 0), .v (.string (bs [])), .v (.slice none 0 0)]] 0)):=(b'.2 (h.length+1) (by simp) (by omega)).trans (by simp[e0])
  have g3:∀ o,(h'.set (h.length+1) o)[h.length+1]? = some o:=fun o=>List.getElem?_set_self (List.getElem?_eq_some_iff.mp g2).1
  simp (disch:=omega)only[go_sem,g2,g3,Nat.reduceAdd]
  exact ret_keep (hk _ (T'.setO g2 (by decide) (by decide)) (((stay _).2.trans b').setN (by omega)))
 rw[if_pos k45]at hk
 have key:Tryz.r92_j10 K h G (.ptr p 0 0 0) h.length (h.length+1) (lbK l x.key) (hasK l x.key) (h ++ [some (AO.cells 89 6 [x.cells] 0),some (AO.cells 157 4 [[.v (.int .i64 0), .v (.int .i64 0), .v (.string (ByteArray.mk #[])), .v (.slice none 0 0)]] 0)]):=by
  unfold Tryz.r92_j10
  cases hh:hasK l x.key with
  | false=>
   rw[if_pos hh]at hk
   simp (disch:=omega)only[go_sem,Bool.not_false]
   refine⟨refused_call G _ _ _ _ fun t=>?_⟩
   simp (disch:=omega)only[go_sem,Nat.reduceAdd]
   exact ret_keep (hk _ (stay _).1 (stay _).2)
  | true=>
  rw[if_neg (by simp[hh])]at hk
  obtain⟨r,hr1,hr2⟩:=hasK_iff.mp hh
  have hst:stampK l x.key=r.stamp:=by unfold stampK;rw[getD_of hr1]
  have hva:valK l x.key=r.val:=by unfold valK;rw[getD_of hr1]
  have hhi:hiK l x.key=lbK l x.key+1:=by unfold hiK;rw[hh];rfl
  rw[hst,hva]at hk
  obtain⟨q,u,q1,q2,u1,u2⟩:=rowOf s hr1
  have cond:∀(t:AH),(x.test≠0∧x.test≠r.stamp)→RetR h K (.agg (ResA.cells ⟨92,r.stamp, []⟩)) (h++t):=fun t hc=>by
   rw[if_pos hc]at hk
   exact ret_keep (hk _ (stay _).1 (stay _).2)
  by_cases t0:x.test=0
  ·rw[if_neg (by simp[t0])]at hk
   by_cases k5:x.kind=5
   ·rw[if_pos k5]at hk
    simp (disch:=omega)only[go_sem,ho',a1,a2,q1,q2,u1,u2,t0,k5,e0,Bool.not_true,bne_self_eq_false,beq_self_eq_true,Nat.reduceAdd]
    exact ret_keep (hk _ (stay _).1 (stay _).2)
   ·rw[if_neg k5]at hk
    have k5':(x.kind==5)=false:=by simpa using k5
    simp (disch:=omega)only[go_sem,ho',a1,a2,q1,q2,u1,u2,t0,k5',e0,ew,Bool.not_true,bne_self_eq_false,Nat.one_ne_zero,if_false,Nat.reduceAdd]
    have e:l.take (lbK l x.key) ++ []++l.drop (hiK l x.key)=delK l x.key:=by unfold delK;simp
    rw[← hhi]
    refine⟨tbSplice_call G p l [] (lbK l x.key) (hiK l x.key) _ _ _ (stay _).1 hlb (hiK_le l x.key) Sees.nil (by rintro⟨s,hs⟩;cases hs) (by simp) (by rw[e];exact delK_rise T.rise _) (by rw[e];have:=delK_len l x.key;omega) fun h' T' b'=>?_⟩
    rw[e]at T'
    have g2:h'[h.length+1]? = some (some (.cells 157 4 [[.v (.int .i64 0), .v (.int .i64 0), .v (.string (bs [])), .v (.slice none 0 0)]] 0)):=(b'.2 (h.length+1) (by simp) (by omega)).trans (by simp[e0])
    have g4:h'[h.length+2]? = some (some (.cells 131 3 [r.cells] 0)):=(b'.2 (h.length+2) (by simp) (by omega)).trans (by simp)
    have g3:∀ o,(h'.set (h.length+1) o)[h.length+1]? = some o:=fun o=>List.getElem?_set_self (List.getElem?_eq_some_iff.mp g2).1
    simp (disch:=omega)only[go_sem,g2,g3,g4,e0,Nat.reduceAdd]
    exact ret_keep (hk _ (T'.setO g2 (by decide) (by decide)) (((stay _).2.trans b').setN (by omega)))
  ·have t0':(x.test != 0)=true:=by simpa using t0
   by_cases ts:x.test=r.stamp
   ·have ts':(x.test != r.stamp)=false:=by simpa using ts
    rw[if_neg (by simp[ts])]at hk
    by_cases k5:x.kind=5
    ·rw[if_pos k5]at hk
     simp (disch:=omega)only[go_sem,ho',a1,a2,q1,q2,u1,u2,t0',ts',k5,e0,Bool.not_true,beq_self_eq_true,Nat.reduceAdd]
     exact ret_keep (hk _ (stay _).1 (stay _).2)
    ·rw[if_neg k5]at hk
     have k5':(x.kind==5)=false:=by simpa using k5
     simp (disch:=omega)only[go_sem,ho',a1,a2,q1,q2,u1,u2,t0',ts',k5',e0,ew,Bool.not_true,Nat.one_ne_zero,if_false,Nat.reduceAdd]
     have e:l.take (lbK l x.key) ++ []++l.drop (hiK l x.key)=delK l x.key:=by unfold delK;simp
     rw[← hhi]
     refine⟨tbSplice_call G p l [] (lbK l x.key) (hiK l x.key) _ _ _ (stay _).1 hlb (hiK_le l x.key) Sees.nil (by rintro⟨s,hs⟩;cases hs) (by simp) (by rw[e];exact delK_rise T.rise _) (by rw[e];have:=delK_len l x.key;omega) fun h' T' b'=>?_⟩
     rw[e]at T'
     have g2:h'[h.length+1]? = some (some (.cells 157 4 [[.v (.int .i64 0), .v (.int .i64 0), .v (.string (bs [])), .v (.slice none 0 0)]] 0)):=(b'.2 (h.length+1) (by simp) (by omega)).trans (by simp[e0])
     have g4:h'[h.length+2]? = some (some (.cells 131 3 [r.cells] 0)):=(b'.2 (h.length+2) (by simp) (by omega)).trans (by simp)
     have g3:∀ o,(h'.set (h.length+1) o)[h.length+1]? = some o:=fun o=>List.getElem?_set_self (List.getElem?_eq_some_iff.mp g2).1
     simp (disch:=omega)only[go_sem,g2,g3,g4,e0,Nat.reduceAdd]
     exact ret_keep (hk _ (T'.setO g2 (by decide) (by decide)) (((stay _).2.trans b').setN (by omega)))
   ·have ts':(x.test != r.stamp)=true:=by simpa using ts
    simp (disch:=omega)only[go_sem,ho',a1,a2,q1,q2,u1,u2,t0',ts',e0,Bool.not_true,Nat.reduceAdd]
    refine⟨refused_call G _ _ _ _ fun t=>?_⟩
    simp (disch:=omega)only[go_sem,Nat.reduceAdd]
    exact cond _ ⟨t0,ts⟩
 rcases k45 with k4|k5
 ·have k4':(x.kind==4)=true:=by simpa using k4
  simp (disch:=omega)only[go_sem,extV,k6,k4',Nat.reduceAdd]
  exact key
 ·have k5':(x.kind==5)=true:=by simpa using k5
  have k4':(x.kind==4)=false:=by simp[k5]
  simp (disch:=omega)only[go_sem,extV,k6,k4',k5',Nat.reduceAdd]
  exact key
end Go.Proofs
namespace Go.Proofs
open Go Go.Abs
set_option maxRecDepth 100000
set_option linter.unusedSimpArgs false
def rowsK:List RowA→List OpA→List RowA
 | l, []=>l
 | l,x::xs=>rowsK (oneK l x).2 xs
def resL:List RowA→List OpA→List ResA
 | _, []=> []
 | l,x::xs=>(oneK l x).1::resL (oneK l x).2 xs
theorem rowsK_snoc:∀(a:List OpA) (l:List RowA)(x:OpA),rowsK l (a ++ [x])=(oneK (rowsK l a) x).2
 | [],_,_=>rfl
 | _::a,_,x=>rowsK_snoc a _ x
theorem resL_snoc:∀(a:List OpA) (l:List RowA)(x:OpA),resL l (a ++ [x])=resL l a ++ [(oneK (rowsK l a) x).1]
 | [],_,_=>rfl
 | y::a,l,x=>by
  show(oneK l y).1::resL (oneK l y).2 (a ++ [x])=_
  rw[resL_snoc a _ x]
  rfl
theorem resL_len:∀(a:List OpA) (l:List RowA),(resL l a).length=a.length
 | [],_=>rfl
 | _::a,l=>by simp[resL,resL_len a]
theorem writeK_rise{l:List RowA} (h:Rise l)(x:OpA):Rise (writeK l x).2:=by
 unfold writeK
 repeat' split
 all_goals first|exact h|exact putK_rise h _
theorem oneK_rise{l:List RowA} (h:Rise l)(x:OpA):Rise (oneK l x).2:=by
 unfold oneK
 repeat' split
 all_goals first|exact h|exact delK_rise h _|exact writeK_rise h x
theorem writeK_len(l:List RowA)(x:OpA):(writeK l x).2.length≤l.length+1:=by
 unfold writeK
 repeat' split
 all_goals first|exact Nat.le_succ _|exact putK_len _ _
theorem oneK_len(l:List RowA)(x:OpA):(oneK l x).2.length≤l.length+1:=by
 unfold oneK
 repeat' split
 all_goals first|exact Nat.le_succ _|exact Nat.le_trans (delK_len _ _) (Nat.le_succ _)|exact writeK_len l x
theorem rowsK_len:∀(a:List OpA) (l:List RowA),(rowsK l a).length≤l.length+a.length
 | [],_=>Nat.le_refl _
 | x::a,l=>by
  have h1:=rowsK_len a (oneK l x).2
  have h2:=oneK_len l x
  simp only[rowsK,List.length_cons]
  omega
theorem tbFork_call(G:Nat→Option AV) (p:Nat) (l:List RowA)(h:AH) (K:AV→AH→Prop)(T:TabAt h p l)(hk:∀ o,TabAt (h ++ [o]) h.length l→K (.ptr h.length 0 0 0) (h ++ [o])):SCall Tryz.prog G 91 [.ptr p 0 0 0] h K:=by
 refine Tryz.c91 G _ h K fun hlow=>?_
 unfold Tryz.r91
 obtain⟨a,ho,s⟩:=T.ex
 have a1:=s.one
 have a2:=s.cells
 have la:=s.sees.len (P:=Tryz.prog) (t:=47) Tryz.und47
 rw[List.length_map]at la
 obtain⟨x1,e1,hf⟩:=s.full (h0:=h) (P:=Tryz.prog) (t:=47) (k:= .i64) (k':= .i64) Tryz.und47 Tryz.siz131 (m:=l.length) (by simp)
 rw[List.take_of_length_le (by simp)]at hf
 have x1o:=hf.one
 have x1c:=hf.cells
 have bt:=buildTab x1o x1c
 simp (disch:=omega)only[go_sem,ho,a1,a2,la,e1,bt,x1o,x1c]
 exact ret_keep (hk _ ⟨⟨x1,by simp,hf.own.more _⟩,T.rise,T.len⟩)
theorem fillRes{r:ResA} {y:ByteArray} {z:AV} : rowsFill 4 (List.replicate 1 [.v (.int .i64 0), .v (.int .i64 0), .v (.string y),z]) [(0,some (.agg r.cells))]=some [r.cells]:=by
 simp[rowsFill,AV.one,AV.cells,chk]
theorem tbDo1_call(G:Nat→Option AV)(x:OpA)(h:AH) (K:AV→AH→Prop)(hkl:x.key.length≤4611686018427387904)(hvl:x.val.length≤4611686018427387904)
  (hk:K (.v (.bool (!x.ok))) h):SCall Tryz.prog G 90 [.agg x.cells] h K:=by
 refine Tryz.c90 G _ h K fun hlow=>?_
 unfold Tryz.r90
 simp (disch:=omega)only[go_sem,Nat.reduceAdd]
 refine⟨opCheck_call G x _ _ hkl hvl ?_⟩
 cases ho:x.ok with
 | true=>
  rw[ho]at hk
  simp (disch:=omega)only[go_sem,if_true]
  exact ret_tail hlow .v hk
 | false=>
  rw[ho]at hk
  simp (disch:=omega)only[go_sem,if_false,Bool.false_eq_true]
  exact ret_tail hlow .v hk
structure OpsOk (ops:List OpA):Prop where
 one:1≤ops.length
 most:ops.length≤32
 ok:∀ x∈ops,x.ok=true
 k6:∀ x∈ops,x.kind≠6
 kl:∀ x∈ops,x.key.length≤4611686018427387904∧x.val.length≤4611686018427387904
theorem seesLenT{P:Program} {t e:TypeId} {n:Nat} {h:AH} {a:AV} {rows:List (List AV)} (s:Sees h n a rows)(hu:und P t = .slice e)(H:AH):aLen P H t a=some (.v (.int .i64 rows.length)):=by
 obtain⟨_,⟨rfl,rfl⟩|⟨f,nn,rfl⟩|⟨id,gen,off,cap,e',rs,rfl,_⟩⟩:=s
 ·rw[aLen_nil,hu];rfl
 ·rw[aLen_lst,hu];rfl
 ·rw[aLen_sl,hu];rfl
theorem tbDo_call(G:Nat→Option AV) (p:Nat) (l:List RowA) (a1:AV) (ops:List OpA)(h:AH) (K:AV→AH→Prop)(T:TabAt h p l)(hlen:l.length≤10000)(ha:∀ H,Grew h H→Sees H 6 a1 (ops.map OpA.cells))(oo:OpsOk ops)
  (hkF:∀(i:Nat)(x:OpA),ops[i]? = some x→1<ops.length→(oneK (rowsK l (ops.take i)) x).1.code≠0→(∀ r∈resL l (ops.take i),r.code=0)→∀ h',Grew h h'→K (.tup [.v (.slice none 0 0), .agg [.v (.int .i64 (i:Int)), .v (.int .i64 (oneK (rowsK l (ops.take i)) x).1.code)]]) h')
  (hk0:(1<ops.length→∀ r∈resL l ops,r.code=0)→∀ v h',TabAt h' p (rowsK l ops)→But p h h'→Mine 157 4 h' v ((resL l ops).map ResA.cells)→K (.tup [v, .agg [.v (.int .i64 0), .v (.int .i64 0)]]) h') :
  SCall Tryz.prog G 43 [.ptr p 0 0 0,a1] h K:=by
 refine Tryz.c43 G _ _ h K fun hlow=>?_
 unfold Tryz.r43
 have e0:(ByteArray.mk #[])=bs []:=rfl
 obtain⟨n1,n2,nok,n6,nkl⟩:=oo
 have la:∀ H,aLen Tryz.prog H 72 a1=some (.v (.int .i64 ops.length)):=fun H=>by
  have:=seesLenT (ha h ⟨[],by simp⟩) (P:=Tryz.prog) (t:=72) Tryz.und72 H
  rw[List.length_map]at this
  exact this
 simp (disch:=omega)only[go_sem,la]
 refine⟨opIndex_call G a1 ops 90 [] [] (fun x=> !x.ok) _ _ (ha _ (Grew.app _)) (by omega) (fun x hx K hK=>tbDo1_call G x _ K (nkl x hx).1 (nkl x hx).2 hK) (fun k x hx hbad _=>?_) (fun _=>?_)⟩
 ·have:=nok x (List.mem_of_getElem? hx)
  simp[this]at hbad
 simp (disch:=omega)only[go_sem]
 refine⟨tbFork_call G p l _ _ (T.grew (Grew.app _)) fun o Tu=>?_⟩
 simp (disch:=omega)only[go_sem,la]
 generalize hH0:h ++ [some (AO.cells 80 2 [[AV.v (.int .i64 0),AV.v (.int .i64 0)]] 0),o]=H0
 have g0:Grew h H0:=by rw[← hH0];exact Grew.app _
 have hl0:H0.length=h.length+2:=by rw[← hH0];simp
 have oF:H0[h.length]? = some (some (.cells 80 2 [[.v (.int .i64 0), .v (.int .i64 0)]] 0)):=by rw[← hH0];simp
 have Tu:TabAt H0 (h.length+1) l:=by rw[← hH0];simpa using Tu
 have Tp:=T.grew g0
 have pl:=T.lt
 clear hH0
 unfold Tryz.r43_l9_22
 refine⟨fun m vs H=>∃(k:Nat) (v:AV),k≤ops.length∧m=ops.length-k∧TabAt H (h.length+1) (rowsK l (ops.take k))∧But (h.length+1) H0 H∧Mine 157 4 H v ((resL l (ops.take k)).map ResA.cells)∧(∀ j,j<H0.length→Off v j)∧(1<ops.length→∀ r∈resL l (ops.take k),r.code=0)∧vs = [v, .v (.int .i64 k)],
  ops.length,⟨0,_,by omega,rfl,Tu,But.refl,by simpa[resL]using Mine.nil,(fun id _ _ g o l c hx=>by cases hx),by simp[resL],rfl⟩,?_⟩
 rintro m H hl1 hlow2 v' n ⟨k,v,hkk,rfl,TH,bH,mi,offs,hz,hvs⟩
 simp only[List.cons.injEq,AV.v.injEq,Value.int.injEq,true_and,and_true]at hvs
 obtain⟨rfl,rfl⟩:=hvs
 have bHl:=bH.1
 by_cases hkl:k<ops.length
 ·obtain⟨x,hx⟩:∃ x,ops[k]? = some x:=⟨_,List.getElem?_eq_getElem hkl⟩
  have hxm:=List.mem_of_getElem? hx
  have tk:ops.take (k+1)=ops.take k ++ [x]:=by rw[List.take_add_one,hx];rfl
  have ew:IntKind.i64.wrap ((k:Int)+1)=((k+1:Nat):Int):=by rw[wrap64_of (by omega) (by omega)];omega
  obtain⟨q,q1,q2⟩:=(ha H (bH.grew g0 (by omega))).ia (P:=Tryz.prog) (t:=72) (k:= .i64) (i:=(k:Int)) (r:=x.cells) Tryz.und72 Tryz.siz89 (by omega) (by simp[hx])
  have hrl:=rowsK_len (ops.take k) l
  rw[List.length_take]at hrl
  simp (disch:=omega)only[go_sem,q1,q2,Nat.reduceAdd]
  refine⟨tbOne_call G (h.length+1) (rowsK l (ops.take k)) x _ _ (TH.grew (Grew.app _)) (by omega) (nkl x hxm).2 (n6 x hxm) fun H2 T2 b2=>?_⟩
  have bq:=(But.app (i:=h.length+1) [some (AO.cells 89 6 [x.cells] 0)]).trans b2
  have b02:=bH.trans bq
  have mi2:Mine 157 4 H2 v' ((resL l (ops.take k)).map ResA.cells):=mi.keep fun id r g hi _=>by
   obtain⟨y,hy,_⟩:=TH.ex
   rw[bq.2 id (List.getElem?_eq_some_iff.mp hi).1 ?_]
   ·exact hi
   ·rintro rfl
    rw[hy]at hi
    cases hi
  have oF2:H2[h.length]? = some (some (.cells 80 2 [[.v (.int .i64 0), .v (.int .i64 0)]] 0)):=by
   rw[b02.2 h.length (by omega) (by omega)];exact oF
  have bql:=bq.1
  have g3:∀ t o,((H2++t).set h.length o)[h.length]? = some o:=fun t o=>List.getElem?_set_self (by simp;omega)
  have oF2':∀ t,(H2++t)[h.length]? = some (some (.cells 80 2 [[.v (.int .i64 0), .v (.int .i64 0)]] 0)):=fun t=>by
   rw[List.getElem?_append_left (by omega)];exact oF2
  have below2:∀ j,j<h.length→H2[j]? = h[j]?:=fun j hj=>by
   rw[b02.2 j (by omega) (by omega)]
   obtain⟨t,rfl⟩:=g0.ex
   exact List.getElem?_append_left hj
  have hlr:(resL l (ops.take k)).length=k:=by rw[resL_len,List.length_take];omega
  have cs:∀ n:Int,((oneK (rowsK l (ops.take k)) x).1.code != n)=decide ((oneK (rowsK l (ops.take k)) x).1.code≠n):=fun n=>by by_cases h:(oneK (rowsK l (ops.take k)) x).1.code=n <;> simp[h]
  by_cases hc:(oneK (rowsK l (ops.take k)) x).1.code=0
  ·have hc':((oneK (rowsK l (ops.take k)) x).1.code != 0)=false:=by simp[hc]
   have fr:=fillRes (r:=(oneK (rowsK l (ops.take k)) x).1) (y:=bs []) (z:= .v (.slice none 0 0))
   simp (disch:=omega)only[go_sem,la,ew,e0,hc',fr,oF2',g3,fillRes,Nat.reduceAdd]
   refine(mi2.more _).pushAt (i:=H2.length+1) (g:=0) (row:=(oneK (rowsK l (ops.take k)) x).1.cells) (e':=157) (by simp) Tryz.und78 Tryz.azero157 Tryz.byt157 (by exact Tryz.plainSrc78) rfl (by rw[List.length_map,hlr];omega) (by rw[List.length_map,hlr];omega) fun v57 H3 m3 hle3 st3=>?_
   simp only[List.length_append,List.length_cons,List.length_nil]at hle3
   have same:∀ j,j<H2.length→Off v' j→H3[j]? = H2[j]? ∧ Off v57 j:=fun j hj ho=>by
    obtain⟨e1,e2⟩:=st3 j (by simp;omega) ho
    rw[e1,List.getElem?_append_left hj]
    exact⟨rfl,e2⟩
   rw[ew]
   refine next_keep (ops.length-(k+1)) (by omega) (by omega) ⟨k+1,v57,by omega,rfl,?_,⟨by omega,fun j hj hne=>?_⟩,?_,fun j hj=>(same j (by omega) (offs j hj)).2,?_,rfl⟩
   ·rw[tk,rowsK_snoc]
    obtain⟨y,hy,_⟩:=T2.ex
    exact T2.keep (same _ T2.lt (mi2.offType hy (by decide))).1 ⟨by omega,fun j r g hj=>by
     rw[(same j (List.getElem?_eq_some_iff.mp hj).1 (mi2.offType hj (by decide))).1];exact hj⟩
   ·rw[(same j (by omega) (offs j hj)).1]
    exact b02.2 j hj hne
   ·rw[tk,resL_snoc,List.map_append]
    exact m3
   ·intro hm r hr
    rw[tk,resL_snoc,List.mem_append,List.mem_singleton]at hr
    rcases hr with hr|rfl
    ·exact hz hm r hr
    ·exact hc
  ·have hc':((oneK (rowsK l (ops.take k)) x).1.code != 0)=true:=by simpa using hc
   have fr:=fillRes (r:=(oneK (rowsK l (ops.take k)) x).1) (y:=bs []) (z:= .v (.slice none 0 0))
   by_cases hm:1<ops.length
   ·simp (disch:=omega)only[go_sem,la,ew,e0,hc',fr,oF2',g3,fillRes,Nat.reduceAdd]
    refine ret_keep (hkF k x hx hm hc (hz hm) _ (Grew.mk (ext_of (by rw[List.length_set];simp;omega) fun j hj=>?_)))
    rw[List.getElem?_set_ne (by omega),List.getElem?_append_left (by omega)]
    exact below2 j hj
   ·simp (disch:=omega)only[go_sem,la,ew,e0,hc',fr,oF2',g3,fillRes,Nat.reduceAdd]
    refine(mi2.more _).pushAt (i:=H2.length+1) (g:=0) (row:=(oneK (rowsK l (ops.take k)) x).1.cells) (e':=157) (by simp) Tryz.und78 Tryz.azero157 Tryz.byt157 (by exact Tryz.plainSrc78) rfl (by rw[List.length_map,hlr];omega) (by rw[List.length_map,hlr];omega) fun v57 H3 m3 hle3 st3=>?_
    simp only[List.length_append,List.length_cons,List.length_nil]at hle3
    have same:∀ j,j<H2.length→Off v' j→H3[j]? = H2[j]? ∧ Off v57 j:=fun j hj ho=>by
     obtain⟨e1,e2⟩:=st3 j (by simp;omega) ho
     rw[e1,List.getElem?_append_left hj]
     exact⟨rfl,e2⟩
    rw[ew]
    refine next_keep (ops.length-(k+1)) (by omega) (by omega) ⟨k+1,v57,by omega,rfl,?_,⟨by omega,fun j hj hne=>?_⟩,?_,fun j hj=>(same j (by omega) (offs j hj)).2,?_,rfl⟩
    ·rw[tk,rowsK_snoc]
     obtain⟨y,hy,_⟩:=T2.ex
     exact T2.keep (same _ T2.lt (mi2.offType hy (by decide))).1 ⟨by omega,fun j r g hj=>by
      rw[(same j (List.getElem?_eq_some_iff.mp hj).1 (mi2.offType hj (by decide))).1];exact hj⟩
    ·rw[(same j (by omega) (offs j hj)).1]
     exact b02.2 j hj hne
    ·rw[tk,resL_snoc,List.map_append]
     exact m3
    ·intro hm r hr
     rw[tk,resL_snoc,List.mem_append,List.mem_singleton]at hr
     rcases hr with hr|rfl
     ·exact hz hm r hr
     ·exact absurd hm ‹¬ 1<ops.length›
 ·have hke:k=ops.length:=by omega
  subst hke
  rw[List.take_of_length_le (by omega)]at TH mi hz
  obtain⟨w,hw,sw⟩:=TH.ex
  have w1:=sw.one
  have w2:=sw.cells
  obtain⟨y,hy,_⟩:=Tp.ex
  have hpH:H[p]? = some (some (.cells 160 1 [[y]] 0)):=by rw[bH.2 p (by omega) (by omega)];exact hy
  have oFH:H[h.length]? = some (some (.cells 80 2 [[.v (.int .i64 0), .v (.int .i64 0)]] 0)):=by rw[bH.2 h.length (by omega) (by omega)];exact oF
  have g3:∀ o,(H.set p o)[h.length]? = some (some (.cells 80 2 [[.v (.int .i64 0), .v (.int .i64 0)]] 0)):=fun o=>by rw[List.getElem?_set_ne (by omega)];exact oFH
  have g4:∀ o o',((H.set p o).set h.length o')[h.length]? = some o':=fun o o'=>List.getElem?_set_self (by rw[List.length_set];omega)
  simp (disch:=omega)only[go_sem,hw,w1,w2,hpH,g3,g4,Nat.one_ne_zero,if_false,Nat.reduceAdd]
  have ke:∀ {j:Nat} {e:TypeId} {n g:Nat} {r:List (List AV)} (o o':Option AO),H[j]? = some (some (.cells e n r g))→e≠160→e≠80→((H.set p o).set h.length o')[j]? = some (some (.cells e n r g)):=fun o o' hj h1 h2=>by
   rw[List.getElem?_set_ne,List.getElem?_set_ne]
   ·exact hj
   ·rintro rfl
    rw[hpH]at hj
    cases hj
    exact h1 rfl
   ·rintro rfl
    rw[oFH]at hj
    cases hj
    exact h2 rfl
  refine ret_keep (hk0 (fun hm=>hz hm) _ _ ⟨⟨w,?_,sw.keep fun id r g hi=>ke _ _ hi (by decide) (by decide)⟩,TH.rise,TH.len⟩ ⟨by simp;omega,fun j hj hne=>?_⟩ (mi.keep fun id r g hi _=>ke _ _ hi (by decide) (by decide)))
  ·rw[List.getElem?_set_ne (by omega),List.getElem?_set_self (by omega)]
  ·rw[List.getElem?_set_ne (by omega),List.getElem?_set_ne (Ne.symm hne),bH.2 j (by omega) (by omega)]
   obtain⟨t,rfl⟩:=g0.ex
   exact List.getElem?_append_left hj
def failL:List ResA→Nat→Option (Nat × Int)
 | [],_=>none
 | r::rs,i=>if r.code≠0 then some (i,r.code)else failL rs (i+1)
theorem failL_none:∀(rs:List ResA) (i:Nat),(∀ r∈rs,r.code=0)→failL rs i=none
 | [],_,_=>rfl
 | r::rs,i,h=>by
  rw[failL,if_neg (by simp[h r (by simp)]),failL_none rs (i+1) fun x hx=>h x (by simp[hx])]
theorem failL_at:∀(a:List ResA)(r:ResA) (b:List ResA) (i:Nat),(∀ x∈a,x.code=0)→r.code≠0→failL (a++r::b) i=some (i+a.length,r.code)
 | [],r,b,i,_,h=>by simp[failL,h]
 | x::a,r,b,i,h0,h=>by
  rw[List.cons_append,failL,if_neg (by simp[h0 x (by simp)]),failL_at a r b (i+1) (fun y hy=>h0 y (by simp[hy])) h,List.length_cons]
  congr 2
  omega
theorem resL_append:∀(a b:List OpA) (l:List RowA),resL l (a++b)=resL l a++resL (rowsK l a) b
 | [],_,_=>rfl
 | x::a,b,l=>by
  show(oneK l x).1::resL (oneK l x).2 (a++b)=_
  rw[resL_append a b _]
  rfl
def doK(l:List RowA) (ops:List OpA):(Int × Int) × List ResA × List RowA:=
 match (if 1<ops.length then failL (resL l ops) 0 else none)with
 | some (i,c)=>(((i:Int),c), [],l)
 | none=>((0,0),resL l ops,rowsK l ops)
theorem doK_fail{l:List RowA} {ops:List OpA} {i:Nat} {x:OpA} (hx:ops[i]? = some x)(hm:1<ops.length)(hc:(oneK (rowsK l (ops.take i)) x).1.code≠0)(hz:∀ r∈resL l (ops.take i),r.code=0):doK l ops=(((i:Int),(oneK (rowsK l (ops.take i)) x).1.code), [],l):=by
 have hi:=(List.getElem?_eq_some_iff.mp hx).1
 have e:ops=ops.take i++x::ops.drop (i+1):=by
  obtain⟨h1,h2⟩:=List.getElem?_eq_some_iff.mp hx
  conv=>lhs;rw[← List.take_append_drop i ops]
  rw[← List.getElem_cons_drop h1,h2]
 have hr:resL l ops=resL l (ops.take i)++(oneK (rowsK l (ops.take i)) x).1::resL (oneK (rowsK l (ops.take i)) x).2 (ops.drop (i+1)):=by
  conv=>lhs;rw[e]
  rw[resL_append]
  rfl
 have hf:failL (resL l ops) 0=some (i,(oneK (rowsK l (ops.take i)) x).1.code):=by
  rw[hr,failL_at _ _ _ _ hz hc,resL_len,List.length_take]
  congr 2
  omega
 unfold doK
 rw[if_pos hm,hf]
theorem doK_ok{l:List RowA} {ops:List OpA} (h:1<ops.length→∀ r∈resL l ops,r.code=0):doK l ops=((0,0),resL l ops,rowsK l ops):=by
 unfold doK
 by_cases hm:1<ops.length
 ·rw[if_pos hm,failL_none _ _ (h hm)]
 ·rw[if_neg hm]
end Go.Proofs
namespace Go.Abs
section
variable {P:Program} {h:AH} {ty e:TypeId} {n:Nat} {a:AV} {rows:List (List AV)}
theorem Sees.cut(s:Sees h n a rows)(hu:und P ty = .slice e)(hn:siz P e=some n) {k k':IntKind} {lo hi:Nat} (hlo:lo≤hi)(hhi:hi≤rows.length) :
  ∃ a',(∀ t,aSlice P (h++t) ty a (some (some (.v (.int k lo)))) (some (some (.v (.int k' hi)))) none=some a')∧Sees h n a' ((rows.drop lo).take (hi-lo)):=by
 obtain⟨hr,⟨rfl,rfl⟩|⟨f,nn,rfl⟩|⟨id,gen,off,cap,e',rs,rfl,h1,h2,h3,h5⟩⟩:=s
 ·have h0:hi=0:=by simpa using hhi
  subst h0
  have:lo=0:=by omega
  subst this
  refine⟨.v (.slice none 0 0),fun t=>?_,⟨by simp, .inl ⟨rfl,by simp⟩⟩⟩
  simp[aSlice,hu,hn,bnd,chk]
 ·refine⟨.lst ((rows.drop lo).take (hi-lo)) (f&&((hi:Int)==(rows.length:Int))) nn,fun t=>?_,Sees.lst fun r hm=>hr r (List.mem_of_mem_drop (List.mem_of_mem_take hm))⟩
  simp only[aSlice,hu,hn,bnd,chk]
  rw[if_pos ⟨by omega,by omega,by omega,hr⟩]
  simp
 ·have h1':∀ t:AH,(h++t)[id]? = some (some (.cells e' n rs gen)):=fun t=>by rw[List.getElem?_append_left (List.getElem?_eq_some_iff.mp h1).1];exact h1
  refine⟨.sl id gen (off+lo) (hi-lo) (cap.map (· - lo)),fun t=>?_,?_⟩
  ·have hroom:((rows.length:Nat):Int)≤roomOf rs off rows.length cap:=by
    cases cap with
    | none=>simp only[roomOf];omega
    | some c=>simp only[roomOf];have:=h5 c rfl;omega
   simp only[aSlice,hu,hn,bnd,h1',chk]
   rw[if_pos ⟨trivial,trivial,by omega,by omega,by omega⟩]
   simp
  ·have hlen:((rows.drop lo).take (hi-lo)).length=hi-lo:=by simp;omega
   refine⟨fun r hm=>hr r (List.mem_of_mem_drop (List.mem_of_mem_take hm)), .inr (.inr ⟨id,gen,off+lo,cap.map (· - lo),e',rs,by rw[hlen],h1,by rw[hlen];omega,?_,?_⟩)⟩
   ·have h3':(rows.drop lo).take (hi-lo)=(((rs.drop off).take rows.length).drop lo).take (hi-lo):=by rw[h3]
    rw[hlen,← List.drop_drop,h3',List.drop_take,List.take_take,Nat.min_eq_left (by omega)]
   ·intro c hc
    rw[hlen]
    cases cap with
    | none=>cases hc
    | some c0=>
     simp only[Option.map_some,Option.some.injEq]at hc
     have:=h5 c0 rfl
     omega
end
end Go.Abs
namespace Go.Proofs
open Go Go.Abs
set_option maxRecDepth 100000
set_option linter.unusedSimpArgs false
theorem less_trans{a b c:List UInt8} (h1:Op.bytesLess a b=true)(h2:Op.bytesLess b c=true):Op.bytesLess a c=true:=by
 rw[bytesLess_eq]at *
 exact decide_eq_true (List.lt_trans (of_decide_eq_true h1) (of_decide_eq_true h2))
def goodAt(keys:List (List UInt8)) (k:Nat):Bool:= !(keys.getD k [] == [])&&decide ((keys.getD k []).length≤64)&&(decide (k=0)||Op.bytesLess (keys.getD (k-1) []) (keys.getD k []))
def riseB(keys:List (List UInt8)):Bool:=(List.range keys.length).all (goodAt keys)
theorem riseB_iff{keys:List (List UInt8)} : riseB keys=true↔∀ k,k<keys.length→goodAt keys k=true:=by
 unfold riseB
 simp
theorem rise_less {keys : List (List UInt8)} (h : riseB keys = true) {i : Nat} : ∀ {j : Nat}, i < j → j < keys.length → Op.bytesLess (keys.getD i []) (keys.getD j []) = true := by
  intro j
  induction j with
  | zero => intro h; omega
  | succ j ih =>
    intro hij hj
    have hg := riseB_iff.mp h (j + 1) hj
    unfold goodAt at hg
    simp only [Bool.and_eq_true, Bool.or_eq_true, decide_eq_true_eq, Nat.add_sub_cancel] at hg
    have h3 : Op.bytesLess (keys.getD j []) (keys.getD (j + 1) []) = true := by rcases hg.2 with h | h; · omega
                                                                                · exact h
    by_cases he : i = j
    · subst he; exact h3
    · exact less_trans (ih (by omega) (by omega)) h3
theorem rise_call(G:Nat→Option AV) (a:AV)(keys:List (List UInt8))(h:AH) (K:AV→AH→Prop)(ha:Sees h 1 a (keys.map srow))(hl:keys.length≤17592186044415)(hkl:∀ k∈keys,k.length≤4611686018427387904)
  (hk:K (.v (.bool (riseB keys))) h):SCall Tryz.prog G 118 [a] h K:=by
 refine Tryz.c118 G _ h K fun hlow=>?_
 unfold Tryz.r118
 have lc:aLen Tryz.prog h 142 a=some (.v (.int .i64 keys.length)):=by
  have:=ha.len (P:=Tryz.prog) (t:=142) Tryz.und142
  rw[List.length_map]at this
  exact this
 have e0:(ByteArray.mk #[])=bs []:=rfl
 simp (disch:=omega)only[go_sem,lc]
 unfold Tryz.r118_l2_1
 refine⟨fun m vs h'=>∃ k:Nat,k≤keys.length∧m=keys.length-k∧h'=h∧(∀ j,j<k→goodAt keys j=true)∧vs = [.v (.int .i64 k)],keys.length,⟨0,by omega,rfl,rfl,by simp,rfl⟩,?_⟩
 rintro m h' hl1 hlow2 n ⟨k,hk1,rfl,rfl,hgood,hvs⟩
 simp only[List.cons.injEq,AV.v.injEq,Value.int.injEq,true_and,and_true]at hvs
 obtain rfl:=hvs
 by_cases hkk:k<keys.length
 rotate_left
 ·have:riseB keys=true:=riseB_iff.mpr fun j hj=>hgood j (by omega)
  rw[this]at hk
  simp (disch:=omega)only[go_sem]
  exact ret_same hk
 obtain⟨s,hs⟩:∃ s,keys[k]? = some s:=⟨_,List.getElem?_eq_getElem hkk⟩
 have hsg:keys.getD k []=s:=by rw[List.getD_eq_getElem?_getD,hs];rfl
 have hsl:=hkl s (List.mem_of_getElem? hs)
 obtain⟨q,q1,q2⟩:=strAt ha hs
 have bad:goodAt keys k=false→RetR h' K (.v (.bool false)) h':=fun hg=>by
  have:riseB keys=false:=by
   cases hr:riseB keys with
   | false=>rfl
   | true=>rw[riseB_iff.mp hr k hkk]at hg;cases hg
  rw[this]at hk
  exact ret_same hk
 have ew:IntKind.i64.wrap ((k:Int)+1)=((k+1:Nat):Int):=by rw[wrap64_of (by omega) (by omega)];omega
 unfold goodAt at bad
 rw[hsg]at bad
 by_cases h1:s = []
 ·subst h1
  simp (disch:=omega)only[go_sem,lc,q1,q2,e0,bs_toList,beq_self_eq_true]
  exact bad rfl
 have h1':(s == [])=false:=by simp[h1]
 by_cases h2:s.length > 64
 ·simp (disch:=omega)only[go_sem,lc,q1,q2,e0,bs_toList,h1']
  exact bad (by simp[h1];omega)
 by_cases h3:k=0
 ·subst h3
  simp (disch:=omega)only[go_sem,lc,q1,q2,e0,bs_toList,h1',ew]
  refine next_keep (keys.length-1) (by omega) (Nat.le_refl _) ⟨1,by omega,rfl,rfl,?_,rfl⟩
  intro j hj
  have:j=0:=by omega
  subst this
  unfold goodAt
  rw[hsg]
  simp[h1]
  omega
 obtain⟨u,hu⟩:∃ u,keys[k-1]? = some u:=⟨_,List.getElem?_eq_getElem (by omega)⟩
 have hug:keys.getD (k-1) []=u:=by rw[List.getD_eq_getElem?_getD,hu];rfl
 obtain⟨p,p1,p2⟩:=strAt ha hu
 have ek:((k-1:Nat):Int)=(k:Int)-1:=by omega
 have e3:IntKind.i64.wrap ((k:Int)-1)=(k:Int)-1:=wrap64_of (by omega) (by omega)
 rw[ek]at p1
 rw[hug]at bad
 cases hb:Op.bytesLess u s with
 | false=>
  simp (disch:=omega)only[go_sem,lc,q1,q2,e0,bs_toList,h1',ew,e3,p1,p2,hb]
  exact bad (by simp[h1,h3,hb])
 | true=>
  simp (disch:=omega)only[go_sem,lc,q1,q2,e0,bs_toList,h1',ew,e3,p1,p2,hb]
  refine next_keep (keys.length-(k+1)) (by omega) (Nat.le_refl _) ⟨k+1,by omega,rfl,rfl,?_,rfl⟩
  intro j hj
  by_cases hjk:j=k
  ·subst hjk
   unfold goodAt
   rw[hsg,hug]
   simp[h1,hb]
   omega
  ·exact hgood j (by omega)
theorem isNaN1_call(G:Nat→Option AV) (s:List UInt8)(h:AH) (K:AV→AH→Prop)(hk:K (.v (.bool false)) h):SCall Tryz.prog G 173 [.v (.string (bs s))] h K:=by
 refine Tryz.c173 G _ h K fun hlow=>?_
 unfold Tryz.r173
 simp (disch:=omega)only[go_sem,beq_self_eq_true]
 exact ret_same hk
theorem isNaN2_call(G:Nat→Option AV) (s:List UInt8)(h:AH) (K:AV→AH→Prop)(hk:K (.v (.bool false)) h):SCall Tryz.prog G 161 [.v (.string (bs s))] h K:=by
 refine Tryz.c161 G _ h K fun hlow=>?_
 unfold Tryz.r161
 simp (disch:=omega)only[go_sem,beq_self_eq_true]
 exact ret_same hk
theorem Less_call(G:Nat→Option AV) (a b:List UInt8)(h:AH) (K:AV→AH→Prop)(hk:K (.v (.bool (Op.bytesLess a b))) h):SCall Tryz.prog G 160 [.v (.string (bs a)), .v (.string (bs b))] h K:=by
 refine Tryz.c160 G _ _ h K fun hlow=>?_
 unfold Tryz.r160
 simp (disch:=omega)only[go_sem]
 refine⟨isNaN1_call G a _ _ ?_⟩
 simp (disch:=omega)only[go_sem,bs_toList]
 exact ret_same hk
structure LbAt (keys:List (List UInt8)) (cur:List UInt8) (k:Nat):Prop where
 le:k≤keys.length
 lo:∀ j,j<k→Op.bytesLess (keys.getD j []) cur=true
 hi:∀ j,k≤j→j<keys.length→Op.bytesLess (keys.getD j []) cur=false
theorem bsearch_call(G:Nat→Option AV) (a:AV)(keys:List (List UInt8)) (cur:List UInt8)(h:AH) (K:AV→AH→Prop)(ha:Sees h 1 a (keys.map srow))(hl:keys.length≤17592186044415)(hr:riseB keys=true)
  (hk:∀ k b,LbAt keys cur k→K (.tup [.v (.int .i64 (k:Nat)), .v (.bool b)]) h):SCall Tryz.prog G 119 [a, .v (.string (bs cur))] h K:=by
 refine Tryz.c119 G _ _ h K fun hlow=>?_
 unfold Tryz.r119
 have lc:aLen Tryz.prog h 142 a=some (.v (.int .i64 keys.length)):=by
  have:=ha.len (P:=Tryz.prog) (t:=142) Tryz.und142
  rw[List.length_map]at this
  exact this
 simp (disch:=omega)only[go_sem,lc]
 unfold Tryz.r119_l3_1
 refine⟨fun m vs h'=>∃ i j:Nat,i≤j∧j≤keys.length∧m=j-i∧h'=h∧(∀ k,k<i→Op.bytesLess (keys.getD k []) cur=true)∧(∀ k,j≤k→k<keys.length→Op.bytesLess (keys.getD k []) cur=false)∧vs = [.v (.int .i64 i), .v (.int .i64 j)],keys.length,⟨0,keys.length,by omega,by omega,rfl,rfl,by simp,(by intro k hk hp;omega),rfl⟩,?_⟩
 rintro m h' hl1 hlow2 n n' ⟨i,j,hij,hj,rfl,rfl,hlo,hhi,hvs⟩
 simp only[List.cons.injEq,AV.v.injEq,Value.int.injEq,true_and,and_true]at hvs
 obtain⟨rfl,rfl⟩:=hvs
 by_cases hlt:i<j
 ·have e1:IntKind.i64.wrap ((i:Int)+(j:Int))=((i+j:Nat):Int):=by rw[wrap64_of (by omega) (by omega)];omega
  have e2:IntKind.u64.wrap ((i+j:Nat):Int)=((i+j:Nat):Int):=by
   simp[IntKind.wrap,IntKind.bits,IntKind.signed];omega
  have e3:(((i+j:Nat):Int)).fdiv 2=(((i+j) / 2:Nat):Int):=by
   rw[Int.fdiv_eq_ediv_of_nonneg _ (by omega)];omega
  have e4:IntKind.i64.wrap ((((i+j) / 2:Nat)):Int)=(((i+j) / 2:Nat):Int):=wrap64_of (by omega) (by omega)
  have hmid:(i+j) / 2<keys.length:=by omega
  obtain⟨p,hp⟩:∃ p,keys[(i+j) / 2]? = some p:=⟨_,List.getElem?_eq_getElem hmid⟩
  have hpg:keys.getD ((i+j) / 2) []=p:=by rw[List.getD_eq_getElem?_getD,hp];rfl
  obtain⟨q,q1,q2⟩:=strAt ha hp
  simp (disch:=omega)only[go_sem,e1,e2, ↓shr_half,e3,e4,q1,q2]
  refine⟨Less_call G p cur _ _ ?_⟩
  cases hc:Op.bytesLess p cur with
  | true=>
   simp (disch:=omega)only[go_sem,e4]
   have e5:(((i+j) / 2:Nat):Int)+1=(((i+j) / 2+1:Nat):Int):=by omega
   rw[e5]
   refine next_keep (j-((i+j) / 2+1)) (by omega) (Nat.le_refl _) ⟨(i+j) / 2+1,j,by omega,hj,rfl,rfl,?_,hhi,rfl⟩
   intro k hk'
   by_cases he:k=(i+j) / 2
   ·subst he;rw[hpg];exact hc
   ·have:=rise_less hr (i:=k) (j:=(i+j) / 2) (by omega) hmid
    rw[hpg]at this
    exact less_trans this hc
  | false=>
   simp (disch:=omega)only[go_sem,e4]
   refine next_keep ((i+j) / 2-i) (by omega) (Nat.le_refl _) ⟨i,(i+j) / 2,by omega,by omega,rfl,rfl,hlo,?_,rfl⟩
   intro k hk' hkl
   by_cases he:k=(i+j) / 2
   ·subst he;rw[hpg];exact hc
   ·have:=rise_less hr (i:=(i+j) / 2) (j:=k) (by omega) hkl
    rw[hpg]at this
    cases hd:Op.bytesLess (keys.getD k []) cur with
    | false=>rfl
    | true=>rw[less_trans this hd]at hc;cases hc
 ·have hij2:i=j:=by omega
  subst hij2
  have lb:LbAt keys cur i:=⟨hj,hlo,hhi⟩
  by_cases hin:i<keys.length
  ·obtain⟨p,hp⟩:∃ p,keys[i]? = some p:=⟨_,List.getElem?_eq_getElem hin⟩
   obtain⟨q,q1,q2⟩:=strAt ha hp
   by_cases he:p=cur
   ·simp (disch:=omega)only[go_sem,q1,q2,bs_toList,he,beq_self_eq_true]
    exact ret_same (hk _ _ lb)
   ·have he':(p==cur)=false:=by simp[he]
    simp (disch:=omega)only[go_sem,q1,q2,bs_toList,he']
    refine⟨isNaN2_call G p _ _ ?_⟩
    simp (disch:=omega)only[go_sem,q1,q2,bs_toList,he']
    exact ret_same (hk _ _ lb)
  ·simp (disch:=omega)only[go_sem]
   exact ret_same (hk _ _ lb)
end Go.Proofs
