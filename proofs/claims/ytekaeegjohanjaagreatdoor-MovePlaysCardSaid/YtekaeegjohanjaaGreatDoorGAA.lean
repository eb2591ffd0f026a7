import Derived.Test.YtekaeegjohanjaaGreatDoorAbH
import Derived.Test.YtekaeegjohanjaaGreatDoorAbG
import Derived.Sort.Statements
import Derived.Sort.Walk0
import Derived.Lib.Bytealg
set_option linter.all false
namespace Go.Proofs
open Go Go.Abs
set_option maxRecDepth 100000
def u64(n:Int):Nat:=(IntKind.u64.wrap n).toNat
structure Fld where
 text:Bool
 n:Int
 s:List UInt8
def s64(n:Nat):Int:=IntKind.i64.wrap (n:Int)
end Go.Proofs
namespace Go.Proofs
open Go Go.Abs
abbrev Pt:=Int × Int × Int
def cmpI(x y:Int):Int:=if x<y then -1 else if x > y then 1 else 0
def or3(a b c:Int):Int:=if a≠0 then a else if b≠0 then b else c
def ptCmp(p q:Pt):Int:=or3 (cmpI p.1 q.1) (cmpI p.2.1 q.2.1) (cmpI p.2.2 q.2.2)
def ptLtP(p q:Pt):Prop:=p.1<q.1∨(p.1=q.1∧(p.2.1<q.2.1∨(p.2.1=q.2.1∧p.2.2<q.2.2)))
instance (p q:Pt):Decidable (ptLtP p q):=by unfold ptLtP;infer_instance
theorem ptCmp_lt(p q:Pt):ptCmp p q<0↔ptLtP p q:=by
 unfold ptCmp ptLtP or3 cmpI
 by_cases h1:p.1<q.1
 ·simp[h1]
 ·by_cases h2:p.1 > q.1
  ·have:p.1≠q.1:=by omega
   simp[h1,h2,this]
  ·have:p.1=q.1:=by omega
   by_cases h3:p.2.1<q.2.1
   ·simp[this,h3]
   ·by_cases h4:p.2.1 > q.2.1
    ·have h5:p.2.1≠q.2.1:=by omega
     simp[this,h3,h4,h5]
    ·have h5:p.2.1=q.2.1:=by omega
     by_cases h6:p.2.2<q.2.2
     ·simp[this,h5,h6]
     ·by_cases h7:p.2.2 > q.2.2 <;> simp[this,h5,h6,h7]
def ptLe(p q:Pt):Prop:=¬ ptLtP q p
theorem ptLe_trans{p q r:Pt} (h1:ptLe p q)(h2:ptLe q r):ptLe p r:=by unfold ptLe ptLtP at *;omega
theorem ptLe_anti{p q:Pt} (h1:ptLe p q)(h2:ptLe q p):p=q:=by
 obtain⟨a,b,c⟩:=p
 obtain⟨a',b',c'⟩:=q
 unfold ptLe ptLtP at *
 simp only at h1 h2
 have e1:a=a':=by omega
 have e2:b=b':=by omega
 have e3:c=c':=by omega
 rw[e1,e2,e3]
theorem ptLe_at{p q:Pt} (h:ptLe p q):p.1≤q.1:=by unfold ptLe ptLtP at h;omega
theorem sorted_one{l1 l2:List Pt} (hp:l1.Perm l2)(h1:l1.Pairwise ptLe)(h2:l2.Pairwise ptLe):l1=l2:=by
 induction l1 generalizing l2 with
 | nil=>exact(List.Perm.nil_eq hp)
 | cons a l1 ih=>
  cases l2 with
  | nil=>exact absurd hp.length_eq (by simp)
  | cons b l2=>
   have hab:a=b:=by
    have ha:a∈b::l2:=hp.mem_iff.mp (by simp)
    have hb:b∈a::l1:=hp.mem_iff.mpr (by simp)
    rcases List.mem_cons.mp ha with rfl|ha
    ·rfl
    ·rcases List.mem_cons.mp hb with rfl|hb
     ·rfl
     ·exact ptLe_anti ((List.pairwise_cons.mp h1).1 b hb) ((List.pairwise_cons.mp h2).1 a ha)
   subst hab
   rw[ih (List.perm_cons a |>.mp hp) (List.pairwise_cons.mp h1).2 (List.pairwise_cons.mp h2).2]
def insPt(p:Pt):List Pt→List Pt
 | []=> [p]
 | q::l=>if ptLtP p q then p::q::l else q::insPt p l
theorem insPt_perm(p:Pt):∀ l,(insPt p l).Perm (p::l)
 | []=>List.Perm.refl _
 | q::l=>by
  unfold insPt
  split
  ·exact List.Perm.refl _
  ·exact((insPt_perm p l).cons q).trans (List.Perm.swap p q l)
theorem insPt_sorted(p:Pt):∀ l,l.Pairwise ptLe→(insPt p l).Pairwise ptLe
 | [],_=>by simp[insPt]
 | q::l,h=>by
  unfold insPt
  obtain⟨h1,h2⟩:=List.pairwise_cons.mp h
  split
  ·rename_i hlt
   refine List.pairwise_cons.mpr ⟨fun r hr=>?_,h⟩
   have hpq:ptLe p q:=by unfold ptLe ptLtP at *;omega
   rcases List.mem_cons.mp hr with rfl|hr
   ·exact hpq
   ·exact ptLe_trans hpq (h1 r hr)
  ·rename_i hlt
   refine List.pairwise_cons.mpr ⟨fun r hr=>?_,insPt_sorted p l h2⟩
   rcases List.mem_cons.mp ((insPt_perm p l).mem_iff.mp hr)with rfl|hr
   ·exact hlt
   ·exact h1 r hr
def sortPt:List Pt→List Pt
 | []=> []
 | p::l=>insPt p (sortPt l)
theorem sortPt_perm:∀ l,(sortPt l).Perm l
 | []=>List.Perm.refl _
 | p::l=>(insPt_perm p _).trans ((sortPt_perm l).cons p)
theorem sortPt_sorted:∀ l,(sortPt l).Pairwise ptLe
 | []=>List.Pairwise.nil
 | p::l=>insPt_sorted p _ (sortPt_sorted l)
theorem sortPt_one{l l':List Pt} (hp:l'.Perm l)(hs:l'.Pairwise ptLe):l'=sortPt l:=
 sorted_one (hp.trans (sortPt_perm l).symm) hs (sortPt_sorted l)
def xorU(a b:Int):Int:=IntKind.u64.wrap ((BitVec.ofInt 64 a ^^^ BitVec.ofInt 64 b).toNat)
def hashStep(x:Int) (b:UInt8):Int:=IntKind.u64.wrap (xorU x (b.toNat:Int)*1099511628211)
def hashEnd(x:Int):Int:=
 xorU (IntKind.u64.wrap (xorU x (x.fdiv 8589934592)*18397679294719823053)) ((IntKind.u64.wrap (xorU x (x.fdiv 8589934592)*18397679294719823053)).fdiv 8589934592)
def hashI(s:List UInt8):Int:=hashEnd (s.foldl hashStep 14695981039346656037)
variable (dig:Int→List UInt8)
def labelOf(c i:Nat):List UInt8:=dig c++46::dig i
def ptAt(c i:Nat):Pt:=(hashI (labelOf dig c i),(c:Int),(i:Int))
def ptsOf(c n:Nat):List Pt:=(List.range n).map (ptAt dig c)
def ptsTo(ws:List Int):Nat→List Pt
 | 0=> []
 | c+1=>ptsTo ws c++ptsOf dig c (ws.getD c 0).toNat
def pts(ws:List Int):List Pt:=ptsTo dig ws ws.length
def ring(ws:List Int):List Pt:=sortPt (pts dig ws)
theorem ptsOf_succ(c n:Nat):ptsOf dig c (n+1)=ptsOf dig c n ++ [ptAt dig c n]:=by
 simp[ptsOf,List.range_succ]
theorem ptsOf_length(c n:Nat):(ptsOf dig c n).length=n:=by simp[ptsOf]
theorem ptsTo_length{ws:List Int} (hw:∀ w∈ws,w≤128):∀ c,c≤ws.length→(ptsTo dig ws c).length≤128*c
 | 0,_=>by simp[ptsTo]
 | c+1,hc=>by
  have:=ptsTo_length hw c (by omega)
  have h1:ws.getD c 0=ws[c]:=by simp[List.getD_eq_getElem?_getD,List.getElem?_eq_getElem (show c<ws.length by omega)]
  have h2:=hw ws[c] (List.getElem_mem _)
  rw[← h1]at h2
  simp only[ptsTo,List.length_append,ptsOf_length]
  omega
theorem mem_ptsTo{ws:List Int} {p:Pt} : ∀ {c:Nat},p∈ptsTo dig ws c↔∃ a i:Nat,a<c∧(i:Int)<ws.getD a 0∧p=ptAt dig a i
 | 0=>by simp[ptsTo]
 | c+1=>by
  simp only[ptsTo,List.mem_append,mem_ptsTo (c:=c),ptsOf,List.mem_map,List.mem_range]
  constructor
  ·rintro(⟨a,i,h1,h2,h3⟩|⟨i,h1,h2⟩)
   ·exact⟨a,i,by omega,h2,h3⟩
   ·exact⟨c,i,by omega,by omega,h2.symm⟩
  ·rintro⟨a,i,h1,h2,rfl⟩
   by_cases h:a=c
   ·subst h;exact .inr ⟨i,by omega,rfl⟩
   ·exact .inl ⟨a,i,by omega,h2,rfl⟩
theorem mem_ring{ws:List Int} {p:Pt} : p∈ring dig ws↔∃ a i:Nat,a<ws.length∧(i:Int)<ws.getD a 0∧p=ptAt dig a i:=by
 unfold ring
 rw[(sortPt_perm _).mem_iff]
 exact mem_ptsTo dig
def lb(r:List Pt) (h:Int):Nat:=r.findIdx fun p=>decide (h≤p.1)
def ofH(r:List Pt) (h:Int):Int:=(r.getD (lb r h % r.length) (0,0,0)).2.1
def ofK(ws:List Int) (key:List UInt8):Int:=ofH (ring dig ws) (hashI key)
def Tells(r:List Pt) (h:Int)(p:Pt):Prop:=
 p∈r∧((h≤p.1∧∀ q∈r,h≤q.1→ptLe p q)∨((∀ q∈r,q.1<h)∧∀ q∈r,ptLe p q))
theorem tells_at{r:List Pt} (hs:r.Pairwise ptLe)(h0:r ≠ []) (h:Int):Tells r h (r.getD (lb r h % r.length) (0,0,0)):=by
 have hpos:0<r.length:=List.length_pos_iff.mpr h0
 have hle:∀(i j:Nat) (hi:i<r.length) (hj:j<r.length),i≤j→ptLe r[i] r[j]:=by
  intro i j hi hj hij
  by_cases he:i=j
  ·subst he;unfold ptLe ptLtP;omega
  ·exact List.pairwise_iff_getElem.mp hs i j hi hj (by omega)
 by_cases hl:lb r h<r.length
 ·have hm:lb r h % r.length=lb r h:=Nat.mod_eq_of_lt hl
  have hg:r.getD (lb r h) (0,0,0)=r[lb r h]:=by simp[List.getD_eq_getElem?_getD,List.getElem?_eq_getElem hl]
  rw[hm,hg]
  have h1:h≤(r[lb r h]).1:=by
   have:=List.findIdx_getElem (p:=fun p:Pt=>decide (h≤p.1)) (xs:=r) (w:=hl)
   exact of_decide_eq_true this
  refine⟨List.getElem_mem _, .inl ⟨h1,fun q hq hhq=>?_⟩⟩
  obtain⟨j,hj,rfl⟩:=List.mem_iff_getElem.mp hq
  by_cases hlt:j<lb r h
  ·have:=List.not_of_lt_findIdx (p:=fun p:Pt=>decide (h≤p.1)) (xs:=r) hlt
   simp at this
   omega
  ·exact hle _ _ hl hj (by omega)
 ·have hll:lb r h=r.length:=by
   have:=List.findIdx_le_length (p:=fun p:Pt=>decide (h≤p.1)) (xs:=r)
   unfold lb at *;omega
  have hm:lb r h % r.length=0:=by rw[hll,Nat.mod_self]
  have hg:r.getD 0 (0,0,0)=r[0]:=by simp[List.getD_eq_getElem?_getD,List.getElem?_eq_getElem hpos]
  rw[hm,hg]
  refine⟨List.getElem_mem _, .inr ⟨fun q hq=>?_,fun q hq=>?_⟩⟩
  ·obtain⟨j,hj,rfl⟩:=List.mem_iff_getElem.mp hq
   have:=List.not_of_lt_findIdx (p:=fun p:Pt=>decide (h≤p.1)) (xs:=r) (i:=j) (by unfold lb at hll;omega)
   simp at this
   omega
  ·obtain⟨j,hj,rfl⟩:=List.mem_iff_getElem.mp hq
   exact hle _ _ hpos hj (by omega)
end Go.Proofs
namespace Go.Proofs
open Go Go.Abs
def posAt(x:Int) (l:List Pt):Nat:=l.findIdx fun q=>decide (x<q.1)
theorem insPt_pos(p:Pt):∀(l:List Pt),(∀ q∈l,q.1=p.1→¬ ptLtP p q)→l.Pairwise ptLe→insPt p l=l.take (posAt p.1 l)++p::l.drop (posAt p.1 l)
 | [],_,_=>rfl
 | q::l,h,hs=>by
  unfold insPt
  by_cases hlt:p.1<q.1
  ·have:ptLtP p q:= .inl hlt
   rw[if_pos this]
   have e:posAt p.1 (q::l)=0:=by unfold posAt;rw[List.findIdx_cons];simp[hlt]
   rw[e];rfl
  ·have hn:¬ ptLtP p q:=by
    by_cases he:q.1=p.1
    ·exact h q (by simp) he
    ·unfold ptLtP;omega
   rw[if_neg hn]
   have e:posAt p.1 (q::l)=posAt p.1 l+1:=by unfold posAt;rw[List.findIdx_cons];simp[hlt]
   rw[e,insPt_pos p l (fun r hr=>h r (by simp[hr])) (List.pairwise_cons.mp hs).2]
   rfl
theorem sortPt_snoc(l:List Pt)(p:Pt):sortPt (l ++ [p])=insPt p (sortPt l):=by
 refine(sortPt_one (l:=l ++ [p]) ?_ (insPt_sorted p _ (sortPt_sorted l))).symm
 refine(insPt_perm p _).trans ?_
 refine((sortPt_perm l).cons p).trans ?_
 exact(List.perm_append_singleton p l).symm
theorem sortPt_next(dig:Int→List UInt8) (ws:List Int) (c i:Nat):sortPt (ptsTo dig ws c++ptsOf dig c (i+1)) =
  (sortPt (ptsTo dig ws c++ptsOf dig c i)).take (posAt (ptAt dig c i).1 (sortPt (ptsTo dig ws c++ptsOf dig c i)))++ptAt dig c i::(sortPt (ptsTo dig ws c++ptsOf dig c i)).drop (posAt (ptAt dig c i).1 (sortPt (ptsTo dig ws c++ptsOf dig c i))):=by
 rw[ptsOf_succ,← List.append_assoc,sortPt_snoc]
 refine insPt_pos _ _ ?_ (sortPt_sorted _)
 intro q hq he
 have hq:=(sortPt_perm _).mem_iff.mp hq
 rcases List.mem_append.mp hq with hq|hq
 ·obtain⟨a,j,h1,_,rfl⟩:=(mem_ptsTo dig).mp hq
  unfold ptLtP ptAt
  unfold ptAt at he
  simp only at he ⊢
  omega
 ·simp only[ptsOf,List.mem_map,List.mem_range]at hq
  obtain⟨j,hj,rfl⟩:=hq
  unfold ptLtP ptAt
  unfold ptAt at he
  simp only at he ⊢
  omega
end Go.Proofs
namespace Go.Proofs
open Go
abbrev bl(a b:List UInt8):Bool:=Op.bytesLess a b
theorem bl_irrefl(a:List UInt8):bl a a=false:=by
 unfold bl
 rw[bytesLess_eq]
 exact decide_eq_false (List.lt_irrefl a)
theorem bl_trans{a b c:List UInt8} (h1:bl a b=true)(h2:bl b c=true):bl a c=true:=by
 unfold bl at *
 rw[bytesLess_eq]at *
 exact decide_eq_true (List.lt_trans (of_decide_eq_true h1) (of_decide_eq_true h2))
theorem bl_asymm{a b:List UInt8} (h:bl a b=true):bl b a=false:=by
 cases hb:bl b a with
 | false=>rfl
 | true=>have:=bl_trans h hb;rw[bl_irrefl]at this;cases this
theorem cmpB:∀ a b:List UInt8,Lib.compareBytes a b=if bl a b=true then -1 else if a=b then 0 else 1
 | [], []=>rfl
 | [],_::_=>rfl
 | _::_, []=>rfl
 | x::a,y::b=>by
  have ih:=cmpB a b
  simp only[Lib.compareBytes,bl,Op.bytesLess]at ih ⊢
  by_cases h1:x<y
  ·simp[h1]
  ·by_cases h2:y<x
   ·have hne:x≠y:=fun e=>UInt8.lt_irrefl x (by rw[e]at h2 ⊢;exact h2)
    simp[h1,h2,hne]
   ·have he:x=y:=UInt8.le_antisymm (UInt8.not_lt.mp h2) (UInt8.not_lt.mp h1)
    subst he
    simp only[h1,if_false]
    rw[ih]
    simp
theorem bl_total(a b:List UInt8):bl a b=true∨a=b∨bl b a=true:=by
 have anti:∀ a b:List UInt8,Lib.compareBytes a b = - Lib.compareBytes b a:=by
  intro a
  induction a with
  | nil=>intro b;cases b <;> rfl
  | cons x a ih=>
   intro b
   cases b with
   | nil=>rfl
   | cons y b=>
    simp only[Lib.compareBytes]
    by_cases h1:x<y
    ·have h2:¬ y<x:=fun h=>UInt8.lt_irrefl x (UInt8.lt_trans h1 h)
     simp[h1,h2]
    ·by_cases h2:y<x
     ·simp[h1,h2]
     ·simp[h1,h2,ih b]
 have h:=anti a b
 rw[cmpB,cmpB]at h
 by_cases h1:bl a b=true
 ·exact .inl h1
 ·by_cases h2:a=b
  ·exact .inr (.inl h2)
  ·by_cases h3:bl b a=true
   ·exact .inr (.inr h3)
   ·rw[if_neg h1,if_neg h2,if_neg h3,if_neg (Ne.symm h2)]at h
    omega
theorem bl_neg{a b:List UInt8} (h:bl a b=false)(hne:a≠b):bl b a=true:=by
 rcases bl_total a b with h1|h1|h1
 ·rw[h]at h1;cases h1
 ·exact absurd h1 hne
 ·exact h1
theorem bl_next{a b:List UInt8} : bl a (b ++ [0])=(bl a b||decide (a=b)):=by
 induction a generalizing b with
 | nil=>cases b <;> simp[bl,Op.bytesLess]
 | cons x a ih=>
  cases b with
  | nil=>
   have h0:¬ x<0:=by
    intro h
    have:=UInt8.lt_iff_toNat_lt.mp h
    simp at this
   simp[bl,Op.bytesLess,h0]
  | cons y b=>
   have ih:=ih (b:=b)
   simp only[bl]at ih
   simp only[bl,List.cons_append,Op.bytesLess,ih]
   by_cases h1:x<y
   ·simp[h1]
   ·by_cases h2:x=y
    ·subst h2;simp[h1]
    ·have h3:(x==y)=false:=by simpa using h2
     simp[h1,h2,h3]
structure RowA where
 key:List UInt8
 stamp:Int
 val:List UInt8
def Rise(l:List RowA):Prop:=l.Pairwise fun a b=>bl a.key b.key=true
def lbK(l:List RowA) (k:List UInt8):Nat:=l.findIdx fun r=> !bl r.key k
def hasK(l:List RowA) (k:List UInt8):Bool:=(l[lbK l k]?).any fun r=>decide (r.key=k)
theorem lbK_le(l:List RowA) (k:List UInt8):lbK l k≤l.length:=List.findIdx_le_length
theorem lbK_lo{l:List RowA} {k:List UInt8} {i:Nat} {r:RowA} (hi:i<lbK l k)(hr:l[i]? = some r):bl r.key k=true:=by
 have h:=List.not_of_lt_findIdx hi
 obtain⟨h1,h2⟩:=List.getElem?_eq_some_iff.mp hr
 rw[h2]at h
 simpa using h
theorem lbK_hi{l:List RowA} (hs:Rise l) {k:List UInt8} {i:Nat} {r:RowA} (hi:lbK l k≤i)(hr:l[i]? = some r):bl r.key k=false:=by
 obtain⟨h1,h2⟩:=List.getElem?_eq_some_iff.mp hr
 have hlt:lbK l k<l.length:=by omega
 have h3:bl (l[lbK l k]).key k=false:=by
  have h4:=List.findIdx_getElem (w:=hlt)
  change (!bl (l[lbK l k]).key k)=true at h4
  simpa using h4
 by_cases he:lbK l k=i
 ·subst he;rw[h2]at h3;exact h3
 ·have:=List.pairwise_iff_getElem.mp hs (lbK l k) i hlt h1 (by omega)
  rw[h2]at this
  cases hb:bl r.key k with
  | false=>rfl
  | true=>rw[bl_trans this hb]at h3;cases h3
theorem lbK_eq{l:List RowA} {k:List UInt8} {i:Nat} (hi:i≤l.length)(hlo:∀ j r,j<i→l[j]? = some r→bl r.key k=true)(hhi:∀ r,l[i]? = some r→bl r.key k=false):lbK l k=i:=by
 unfold lbK
 by_cases hir:i<l.length
 ·rw[List.findIdx_eq hir]
  refine⟨by simpa using hhi _ (List.getElem?_eq_getElem hir),fun j hj=>?_⟩
  have:=hlo j _ hj (List.getElem?_eq_getElem (by omega))
  simpa using this
 ·have hie:i=l.length:=by omega
  rw[hie]
  apply List.findIdx_eq_length.mpr
  intro r hr
  obtain⟨j,hj,rfl⟩:=List.mem_iff_getElem.mp hr
  have:=hlo j _ (by omega) (List.getElem?_eq_getElem hj)
  simpa using this
def hiK(l:List RowA) (k:List UInt8):Nat:=lbK l k+if hasK l k then 1 else 0
theorem hasK_iff{l:List RowA} {k:List UInt8} : hasK l k=true↔∃ r,l[lbK l k]? = some r∧r.key=k:=by
 unfold hasK
 cases h:l[lbK l k]? with
 | none=>simp
 | some r=>simp
theorem hiK_le(l:List RowA) (k:List UInt8):hiK l k≤l.length:=by
 unfold hiK
 have:=lbK_le l k
 cases h:hasK l k with
 | false=>simpa using this
 | true=>
  obtain⟨r,h1,_⟩:=hasK_iff.mp h
  have:=(List.getElem?_eq_some_iff.mp h1).1
  simp;omega
theorem hasK_mem{l:List RowA} (hs:Rise l) {k:List UInt8} : hasK l k=true↔∃ r∈l,r.key=k:=by
 rw[hasK_iff]
 constructor
 ·rintro⟨r,h1,h2⟩
  exact⟨r,List.mem_of_getElem? h1,h2⟩
 ·rintro⟨r,h1,h2⟩
  obtain⟨i,hi⟩:=List.mem_iff_getElem?.mp h1
  have hil:=(List.getElem?_eq_some_iff.mp hi).1
  refine⟨r,?_,h2⟩
  have:lbK l k=i:=by
   refine lbK_eq (by omega) (fun j x hj hx=>?_) (fun x hx=>?_)
   ·obtain⟨a1,a2⟩:=List.getElem?_eq_some_iff.mp hx
    obtain⟨b1,b2⟩:=List.getElem?_eq_some_iff.mp hi
    have:=List.pairwise_iff_getElem.mp hs j i a1 b1 hj
    rw[a2,b2,h2]at this
    exact this
   ·rw[hi]at hx
    obtain rfl:=Option.some.inj hx
    rw[h2];exact bl_irrefl k
  rw[this];exact hi
theorem lbK_next{l:List RowA} (hs:Rise l) (k:List UInt8):lbK l (k ++ [0])=hiK l k:=by
 refine lbK_eq (hiK_le l k) (fun j r hj hr=>?_) (fun r hr=>?_)
 ·rw[bl_next]
  unfold hiK at hj
  by_cases hlt:j<lbK l k
  ·rw[lbK_lo hlt hr];rfl
  ·cases h:hasK l k with
   | false=>rw[h]at hj;simp at hj;omega
   | true=>
    rw[h]at hj
    obtain⟨x,h1,h2⟩:=hasK_iff.mp h
    have:j=lbK l k:=by simp at hj;omega
    rw[this,h1]at hr
    obtain rfl:=Option.some.inj hr
    simp[h2]
 ·rw[bl_next]
  have hge:lbK l k≤hiK l k:=by unfold hiK;omega
  have h1:=lbK_hi hs hge hr
  rw[h1,Bool.false_or]
  apply decide_eq_false
  intro he
  have hm:hasK l k=true:=(hasK_mem hs).mpr ⟨r,List.mem_of_getElem? hr,he⟩
  obtain⟨x,x1,x2⟩:=hasK_iff.mp hm
  obtain⟨a1,a2⟩:=List.getElem?_eq_some_iff.mp x1
  obtain⟨b1,b2⟩:=List.getElem?_eq_some_iff.mp hr
  have:=List.pairwise_iff_getElem.mp hs (lbK l k) (hiK l k) a1 b1 (by unfold hiK;rw[hm];simp)
  rw[a2,b2,x2,he,bl_irrefl]at this
  cases this
def putK(l:List RowA)(r:RowA):List RowA:=l.take (lbK l r.key)++r::l.drop (hiK l r.key)
def delK(l:List RowA) (k:List UInt8):List RowA:=l.take (lbK l k)++l.drop (hiK l k)
theorem Rise.take{l:List RowA} (h:Rise l) (n:Nat):Rise (l.take n):=List.Pairwise.sublist (List.take_sublist n l) h
theorem Rise.drop{l:List RowA} (h:Rise l) (n:Nat):Rise (l.drop n):=List.Pairwise.sublist (List.drop_sublist n l) h
theorem delK_rise{l:List RowA} (h:Rise l) (k:List UInt8):Rise (delK l k):=by
 have hsub:List.Sublist (delK l k) l:=by
  unfold delK
  have h1:l.drop (hiK l k)=(l.drop (lbK l k)).drop (hiK l k-lbK l k):=by
   rw[List.drop_drop];congr 1;unfold hiK;omega
  have h2:=List.Sublist.append (List.Sublist.refl (l.take (lbK l k))) (List.drop_sublist (hiK l k-lbK l k) (l.drop (lbK l k)))
  rw[List.take_append_drop]at h2
  rw[h1]
  exact h2
 exact List.Pairwise.sublist hsub h
theorem below_lo{l:List RowA} {k:List UInt8} : ∀ r∈l.take (lbK l k),bl r.key k=true:=by
 intro r hr
 obtain⟨i,hi⟩:=List.mem_iff_getElem?.mp hr
 rw[List.getElem?_take]at hi
 split at hi
 ·rename_i hlt;exact lbK_lo hlt hi
 ·cases hi
theorem above_hi{l:List RowA} (hs:Rise l) {k:List UInt8} : ∀ r∈l.drop (hiK l k),bl k r.key=true:=by
 intro r hr
 obtain⟨i,hi⟩:=List.mem_iff_getElem?.mp hr
 rw[List.getElem?_drop]at hi
 have h1:bl r.key k=false:=lbK_hi hs (by unfold hiK;omega) hi
 refine bl_neg h1 fun he=>?_
 have hm:hasK l k=true:=(hasK_mem hs).mpr ⟨r,List.mem_of_getElem? hi,he⟩
 obtain⟨x,x1,x2⟩:=hasK_iff.mp hm
 obtain⟨a1,a2⟩:=List.getElem?_eq_some_iff.mp x1
 obtain⟨b1,b2⟩:=List.getElem?_eq_some_iff.mp hi
 have:=List.pairwise_iff_getElem.mp hs (lbK l k) (hiK l k+i) a1 b1 (by unfold hiK;rw[hm];simp;omega)
 rw[a2,b2,x2,he,bl_irrefl]at this
 cases this
theorem putK_rise{l:List RowA} (h:Rise l)(r:RowA):Rise (putK l r):=by
 unfold putK Rise
 rw[List.pairwise_append]
 refine⟨h.take _,?_,?_⟩
 ·rw[List.pairwise_cons]
  exact⟨fun x hx=>above_hi h x hx,h.drop _⟩
 ·intro a ha b hb
  have h1:=below_lo a ha
  rcases List.mem_cons.mp hb with rfl|hb
  ·exact h1
  ·exact bl_trans h1 (above_hi h b hb)
theorem mem_delK{l:List RowA} (h:Rise l) {k:List UInt8} {r:RowA} : r∈delK l k↔r∈l∧r.key≠k:=by
 unfold delK
 rw[List.mem_append]
 constructor
 ·rintro(hr|hr)
  ·refine⟨List.mem_of_mem_take hr,fun he=>?_⟩
   have:=below_lo r hr
   rw[he,bl_irrefl]at this;cases this
  ·refine⟨List.mem_of_mem_drop hr,fun he=>?_⟩
   have:=above_hi h r hr
   rw[he,bl_irrefl]at this;cases this
 ·rintro⟨hr,hne⟩
  obtain⟨i,hi⟩:=List.mem_iff_getElem?.mp hr
  by_cases h1:i<lbK l k
  ·exact .inl (List.mem_iff_getElem?.mpr ⟨i,by rw[List.getElem?_take_of_lt h1];exact hi⟩)
  ·have h2:hiK l k≤i:=by
    unfold hiK
    cases hk:hasK l k with
    | false=>simp;omega
    | true=>
     obtain⟨x,x1,x2⟩:=hasK_iff.mp hk
     have:i≠lbK l k:=fun he=>by
      rw[he,x1]at hi
      exact hne (by rw[← Option.some.inj hi];exact x2)
     simp;omega
   exact .inr (List.mem_iff_getElem?.mpr ⟨i-hiK l k,by rw[List.getElem?_drop,show hiK l k+(i-hiK l k)=i by omega];exact hi⟩)
theorem mem_putK{l:List RowA} (h:Rise l) {r x:RowA} : x∈putK l r↔x=r∨(x∈l∧x.key≠r.key):=by
 rw[← mem_delK h]
 unfold putK delK
 simp only[List.mem_append,List.mem_cons]
 constructor
 ·rintro(h|h|h)
  ·exact .inr (.inl h)
  ·exact .inl h
  ·exact .inr (.inr h)
 ·rintro(h|h|h)
  ·exact .inr (.inl h)
  ·exact .inl h
  ·exact .inr (.inr h)
def takeM:List RowA→List RowA→List RowA
 | old, []=>old
 | old,r::rs=>old.take (lbK old r.key)++r::takeM (old.drop (hiK old r.key)) rs
theorem takeM_mem:∀ {new old:List RowA} {x:RowA},x∈takeM old new→x∈new∨x∈old
 | [],_,_,h=> .inr h
 | r::rs,old,x,h=>by
  simp only[takeM,List.mem_append,List.mem_cons]at h
  rcases h with h|rfl|h
  ·exact .inr (List.mem_of_mem_take h)
  ·exact .inl (by simp)
  ·rcases takeM_mem h with h|h
   ·exact .inl (by simp[h])
   ·exact .inr (List.mem_of_mem_drop h)
theorem takeM_rise:∀ {new old:List RowA},Rise old→Rise new→Rise (takeM old new)
 | [],_,h,_=>h
 | r::rs,old,h,hn=>by
  have hn':=List.pairwise_cons.mp hn
  have up:∀ x∈takeM (old.drop (hiK old r.key)) rs,bl r.key x.key=true:=by
   intro x hx
   rcases takeM_mem hx with hx|hx
   ·exact hn'.1 x hx
   ·exact above_hi h x hx
  unfold Rise takeM
  rw[List.pairwise_append]
  refine⟨h.take _,List.pairwise_cons.mpr ⟨up,takeM_rise (h.drop _) hn'.2⟩,?_⟩
  intro a ha b hb
  have h1:=below_lo a ha
  rcases List.mem_cons.mp hb with rfl|hb
  ·exact h1
  ·exact bl_trans h1 (up b hb)
theorem takeM_len:∀ {new old:List RowA},(takeM old new).length≤old.length+new.length
 | [],_=>by simp[takeM]
 | r::rs,old=>by
  have h:=takeM_len (new:=rs) (old:=old.drop (hiK old r.key))
  have h2:=lbK_le old r.key
  have h3:lbK old r.key≤hiK old r.key:=by unfold hiK;omega
  have h4:=hiK_le old r.key
  simp only[takeM,List.length_append,List.length_cons,List.length_take,List.length_drop]at h ⊢
  omega
theorem takeM_one(l:List RowA)(r:RowA):takeM l [r]=putK l r:=by simp[takeM,putK]
theorem takeM_nil(l:List RowA):takeM [] l=l:=by
 induction l with
 | nil=>rfl
 | cons r l ih=>simp[takeM,ih]
def RowA.may(r:RowA):Bool:=decide (r.key ≠ [])&&(decide ((r.key.length:Int)≤64)&&(decide (1≤r.stamp)&&(decide (r.stamp≤1099511627776)&&decide ((r.val.length:Int)≤4096))))
theorem rise_adj{l:List RowA} : Rise l↔∀ i a b,l[i]? = some a→l[i+1]? = some b→bl a.key b.key=true:=by
 constructor
 ·intro h i a b ha hb
  obtain⟨a1,a2⟩:=List.getElem?_eq_some_iff.mp ha
  obtain⟨b1,b2⟩:=List.getElem?_eq_some_iff.mp hb
  have:=List.pairwise_iff_getElem.mp h i (i+1) a1 b1 (by omega)
  rw[a2,b2]at this
  exact this
 ·intro h
  refine List.pairwise_iff_getElem.mpr ?_
  intro i j hi hj hij
  obtain⟨d,rfl⟩:∃ d,j=i+1+d:=⟨j-i-1,by omega⟩
  clear hij
  induction d with
  | zero=>exact h i _ _ (List.getElem?_eq_getElem hi) (List.getElem?_eq_getElem hj)
  | succ d ih=>
   have h1:=ih (by omega)
   have h2:=h (i+1+d) _ _ (List.getElem?_eq_getElem (by omega)) (List.getElem?_eq_getElem hj)
   exact bl_trans h1 h2
end Go.Proofs
namespace Go.Proofs
open Go
abbrev Deco:=RowA × Nat
def dlt(a b:Deco):Prop:=bl a.1.key b.1.key=true∨(a.1.key=b.1.key∧a.2<b.2)
theorem dlt_trans{a b c:Deco} (h1:dlt a b)(h2:dlt b c):dlt a c:=by
 rcases h1 with h1|⟨h1,h1'⟩ <;> rcases h2 with h2|⟨h2,h2'⟩
 ·exact .inl (bl_trans h1 h2)
 ·exact .inl (by rw[← h2];exact h1)
 ·exact .inl (by rw[h1];exact h2)
 ·exact .inr ⟨h1.trans h2,by omega⟩
theorem dlt_irrefl(a:Deco):¬ dlt a a:=by
 rintro(h|⟨_,h⟩)
 ·rw[bl_irrefl]at h;cases h
 ·omega
theorem dlt_right{x y:Deco} (h:x.2<y.2)(hb:bl y.1.key x.1.key=true):dlt y x:= .inl hb
theorem dlt_left{x y:Deco} (h:x.2<y.2)(hb:bl y.1.key x.1.key=false):dlt x y:=by
 rcases bl_total x.1.key y.1.key with h1|h1|h1
 ·exact .inl h1
 ·exact .inr ⟨h1,h⟩
 ·rw[h1]at hb;cases hb
def SortedD(l:List Deco):Prop:=l.Pairwise dlt
theorem SortedD.take{l:List Deco} (h:SortedD l) (n:Nat):SortedD (l.take n):=List.Pairwise.sublist (List.take_sublist n l) h
theorem SortedD.drop{l:List Deco} (h:SortedD l) (n:Nat):SortedD (l.drop n):=List.Pairwise.sublist (List.drop_sublist n l) h
theorem SortedD.at{l:List Deco} (h:SortedD l) {i j:Nat} {x y:Deco} (hij:i<j)(hx:l[i]? = some x)(hy:l[j]? = some y):dlt x y:=by
 obtain⟨a1,a2⟩:=List.getElem?_eq_some_iff.mp hx
 obtain⟨b1,b2⟩:=List.getElem?_eq_some_iff.mp hy
 have:=List.pairwise_iff_getElem.mp h i j a1 b1 hij
 rw[a2,b2]at this
 exact this
theorem put_sorted{l:List Deco} (h:SortedD l) {x:Deco} {p:Nat} (hlo:∀ k y,k<p→l[k]? = some y→dlt y x)(hhi:∀ k y,p≤k→l[k]? = some y→dlt x y):SortedD (l.take p++x::l.drop p):=by
 unfold SortedD
 rw[List.pairwise_append]
 have up:∀ y∈l.drop p,dlt x y:=by
  intro y hy
  obtain⟨i,hi⟩:=List.mem_iff_getElem?.mp hy
  rw[List.getElem?_drop]at hi
  exact hhi _ y (by omega) hi
 refine⟨h.take p,List.pairwise_cons.mpr ⟨up,h.drop p⟩,?_⟩
 intro a ha b hb
 have h1:dlt a x:=by
  obtain⟨i,hi⟩:=List.mem_iff_getElem?.mp ha
  rw[List.getElem?_take]at hi
  split at hi
  ·rename_i hlt;exact hlo i a hlt hi
  ·cases hi
 rcases List.mem_cons.mp hb with rfl|hb
 ·exact h1
 ·exact dlt_trans h1 (up b hb)
theorem put_perm{l:List Deco} {x:Deco} {p:Nat} : (l.take p++x::l.drop p).Perm (x::l):=by
 have:=List.perm_middle (a:=x) (l₁:=l.take p) (l₂:=l.drop p)
 rw[List.take_append_drop]at this
 exact this
theorem all_below{l r:List Deco} (hl:SortedD l)(hr:SortedD r)(h:∀ x y,l[l.length-1]? = some x→r[0]? = some y→dlt x y):∀ x∈l,∀ y∈r,dlt x y:=by
 intro x hx y hy
 obtain⟨i,hi⟩:=List.mem_iff_getElem?.mp hx
 obtain⟨j,hj⟩:=List.mem_iff_getElem?.mp hy
 have hil:=(List.getElem?_eq_some_iff.mp hi).1
 have hjl:=(List.getElem?_eq_some_iff.mp hj).1
 obtain⟨u,hu⟩:∃ u,l[l.length-1]? = some u:=⟨_,List.getElem?_eq_getElem (by omega)⟩
 obtain⟨v,hv⟩:∃ v,r[0]? = some v:=⟨_,List.getElem?_eq_getElem (by omega)⟩
 have huv:=h u v hu hv
 have h1:x=u∨dlt x u:=by
  by_cases he:i=l.length-1
  ·subst he;rw[hi]at hu;exact .inl (Option.some.inj hu)
  ·exact .inr (hl.at (by omega) hi hu)
 have h2:v=y∨dlt v y:=by
  by_cases he:j=0
  ·subst he;rw[hj]at hv;exact .inl (Option.some.inj hv).symm
  ·exact .inr (hr.at (by omega) hv hj)
 rcases h1 with rfl|h1 <;> rcases h2 with rfl|h2
 ·exact huv
 ·exact dlt_trans huv h2
 ·exact dlt_trans h1 huv
 ·exact dlt_trans h1 (dlt_trans huv h2)
theorem merge_sorted{L1 L2 R1 R2 S1 S2:List Deco} (hL:SortedD (L1++L2))(hR:SortedD (R1++R2))(h1:∀ x∈L1,∀ y∈R2,dlt x y)(h2:∀ y∈R1,∀ x∈L2,dlt y x)(p1:S1.Perm (L1++R1))(s1:SortedD S1)(p2:S2.Perm (L2++R2))(s2:SortedD S2) :
  SortedD (S1++S2)∧(S1++S2).Perm ((L1++L2)++(R1++R2)):=by
 have hL':=(List.pairwise_append.mp hL).2.2
 have hR':=(List.pairwise_append.mp hR).2.2
 refine⟨List.pairwise_append.mpr ⟨s1,s2,fun a ha b hb=>?_⟩,?_⟩
 ·have ha:=(List.Perm.mem_iff p1).mp ha
  have hb:=(List.Perm.mem_iff p2).mp hb
  rcases List.mem_append.mp ha with ha|ha <;> rcases List.mem_append.mp hb with hb|hb
  ·exact hL' a ha b hb
  ·exact h1 a ha b hb
  ·exact h2 a ha b hb
  ·exact hR' a ha b hb
 ·refine(List.Perm.append p1 p2).trans ?_
  have:((L1++R1)++(L2++R2)).Perm ((L1++L2)++(R1++R2)):=by
   rw[List.append_assoc,List.append_assoc]
   refine List.Perm.append_left L1 ?_
   rw[← List.append_assoc,← List.append_assoc]
   exact List.Perm.append_right R2 List.perm_append_comm
  exact this
end Go.Proofs
namespace Go.Proofs
def Ahead(B C:List Deco):Prop:=∀ x∈B,∀ y∈C,x.2<y.2
theorem Ahead.perm{B C B' C':List Deco} (h:Ahead B C)(pb:B'.Perm B)(pc:C'.Perm C):Ahead B' C':=fun x hx y hy=>h x ((List.Perm.mem_iff pb).mp hx) y ((List.Perm.mem_iff pc).mp hy)
structure Blk (O:List Deco) (k:Nat)(F:List (List Deco)) (Lt:List Deco):Prop where
 full:∀ B∈F,B.length=k∧SortedD B
 last:Lt.length≤k∧SortedD Lt
 apart:(F ++ [Lt]).Pairwise Ahead
 perm:(F.flatten++Lt).Perm O
theorem full_len{k:Nat} : ∀ {F:List (List Deco)},(∀ B∈F,B.length=k)→F.flatten.length=k*F.length
 | [],_=>by simp
 | B::F,h=>by
  have ih:=full_len (F:=F) fun C hC=>h C (by simp[hC])
  rw[List.flatten_cons,List.length_append,ih,h B (by simp),List.length_cons,Nat.mul_succ]
  omega
structure Pass (O:List Deco) (k:Nat)(F1 F2:List (List Deco)) (Lt:List Deco):Prop where
 done:∀ B∈F1,B.length=2*k∧SortedD B
 full:∀ B∈F2,B.length=k∧SortedD B
 last:Lt.length≤k∧SortedD Lt
 apart:(F1++(F2 ++ [Lt])).Pairwise Ahead
 perm:(F1.flatten++(F2.flatten++Lt)).Perm O
theorem Pass.start{O:List Deco} {k:Nat} {F:List (List Deco)} {Lt:List Deco} (b:Blk O k F Lt):Pass O k [] F Lt:=
 ⟨by simp,b.full,b.last,by simpa using b.apart,by simpa using b.perm⟩
theorem Pass.step{O:List Deco} {k:Nat} {F1 F2:List (List Deco)} {B C S Lt:List Deco} (p:Pass O k F1 (B::C::F2) Lt)(hS:S.Perm (B++C))(sS:SortedD S):Pass O k (F1 ++ [S]) F2 Lt:=by
 obtain⟨h1,h2,h3,h4,h5⟩:=p
 have hB:=h2 B (by simp)
 have hC:=h2 C (by simp)
 refine⟨?_,fun D hD=>h2 D (by simp[hD]),h3,?_,?_⟩
 ·intro D hD
  rcases List.mem_append.mp hD with hD|hD
  ·exact h1 D hD
  ·rw[List.mem_singleton]at hD
   subst hD
   have:=hS.length_eq
   rw[List.length_append]at this
   exact⟨by omega,sS⟩
 ·rw[List.append_assoc,List.pairwise_append]
  rw[List.pairwise_append]at h4
  obtain⟨q1,q2,q3⟩:=h4
  simp only[List.cons_append,List.pairwise_cons]at q2
  obtain⟨r1,r2,r3⟩:=q2
  refine⟨q1,List.pairwise_cons.mpr ⟨fun D hD x hx y hy=>?_,r3⟩,fun D hD E hE x hx y hy=>?_⟩
  ·rcases List.mem_append.mp ((List.Perm.mem_iff hS).mp hx)with hx|hx
   ·exact r1 D (List.mem_cons_of_mem _ hD) x hx y hy
   ·exact r2 D hD x hx y hy
  ·rcases List.mem_cons.mp hE with rfl|hE
   ·rcases List.mem_append.mp ((List.Perm.mem_iff hS).mp hy)with hy|hy
    ·exact q3 D hD B (by simp) x hx y hy
    ·exact q3 D hD C (by simp) x hx y hy
   ·exact q3 D hD E (List.mem_cons_of_mem _ (List.mem_cons_of_mem _ hE)) x hx y hy
 ·refine List.Perm.trans ?_ h5
  simp only[List.flatten_append,List.flatten_cons,List.flatten_nil,List.append_nil,List.append_assoc]
  refine List.Perm.append_left _ ?_
  have:=List.Perm.append_right (F2.flatten++Lt) hS
  simpa using this
theorem Pass.stepLast{O:List Deco} {k:Nat} {F1:List (List Deco)} {B S Lt:List Deco} (p:Pass O k F1 [B] Lt)(hS:S.Perm (B++Lt))(sS:SortedD S):Blk O (2*k) F1 S:=by
 obtain⟨h1,h2,h3,h4,h5⟩:=p
 have hB:=h2 B (by simp)
 refine⟨h1,?_,?_,?_⟩
 ·have:=hS.length_eq
  rw[List.length_append]at this
  exact⟨by omega,sS⟩
 ·rw[List.pairwise_append]at h4 ⊢
  obtain⟨q1,q2,q3⟩:=h4
  refine⟨q1,List.pairwise_singleton _ _,fun D hD E hE x hx y hy=>?_⟩
  rw[List.mem_singleton]at hE
  subst hE
  rcases List.mem_append.mp ((List.Perm.mem_iff hS).mp hy)with hy|hy
  ·exact q3 D hD B (by simp) x hx y hy
  ·exact q3 D hD Lt (by simp) x hx y hy
 ·refine List.Perm.trans ?_ h5
  refine List.Perm.append_left _ ?_
  simpa using hS
theorem Pass.stop{O:List Deco} {k:Nat} {F1:List (List Deco)} {Lt:List Deco} (p:Pass O k F1 [] Lt):Blk O (2*k) F1 Lt:=
 ⟨p.done,⟨by have:=p.last.1;omega,p.last.2⟩,by simpa using p.apart,by simpa using p.perm⟩
theorem Blk.all{O:List Deco} {k:Nat} {F:List (List Deco)} {Lt:List Deco} (b:Blk O k F Lt)(hk:0<k)(hO:O.length≤k):SortedD (F.flatten++Lt):=by
 have hl:=b.perm.length_eq
 rw[List.length_append,full_len fun B hB=>(b.full B hB).1]at hl
 match F with
 | []=>simpa using b.last.2
 | [B]=>
  have h1:=(b.full B (by simp)).1
  simp only[List.length_cons,List.length_nil]at hl
  have:Lt = []:=List.length_eq_zero_iff.mp (by omega)
  subst this
  simpa using(b.full B (by simp)).2
 | B::C::F=>
  simp only[List.length_cons,Nat.mul_succ]at hl
  omega
theorem Pass.lift{O:List Deco} {k:Nat} {F1:List (List Deco)} {B Lt:List Deco} (p:Pass O k F1 [B] Lt)(hl:Lt.length=k):Pass O k F1 [B,Lt] []:=by
 obtain⟨h1,h2,h3,h4,h5⟩:=p
 refine⟨h1,?_,⟨by simp,List.Pairwise.nil⟩,?_,by simpa using h5⟩
 ·intro C hC
  rcases List.mem_cons.mp hC with rfl|hC
  ·exact h2 _ (by simp)
  ·rw[List.mem_singleton]at hC
   subst hC
   exact⟨hl,h3.2⟩
 ·have e:F1++([B,Lt] ++ [[]])=(F1++([B] ++ [Lt])) ++ [[]]:=by simp
  rw[e,List.pairwise_append]
  refine⟨h4,List.pairwise_singleton _ _,fun D _ E hE x _ y hy=>?_⟩
  rw[List.mem_singleton]at hE
  subst hE
  cases hy
end Go.Proofs
namespace Go.Proofs
open Go
theorem rise_key{l:List RowA} (h:Rise l) {a b:RowA} (ha:a∈l)(hb:b∈l)(hk:a.key=b.key):a=b:=by
 obtain⟨i,hi⟩:=List.mem_iff_getElem?.mp ha
 obtain⟨j,hj⟩:=List.mem_iff_getElem?.mp hb
 obtain⟨i1,i2⟩:=List.getElem?_eq_some_iff.mp hi
 obtain⟨j1,j2⟩:=List.getElem?_eq_some_iff.mp hj
 rcases Nat.lt_trichotomy i j with hlt|he|hlt
 ·have:=List.pairwise_iff_getElem.mp h i j i1 j1 hlt
  rw[i2,j2,hk,bl_irrefl]at this;cases this
 ·subst he;rw[hi]at hj;exact Option.some.inj hj
 ·have:=List.pairwise_iff_getElem.mp h j i j1 i1 hlt
  rw[i2,j2,hk,bl_irrefl]at this;cases this
theorem rise_ext:∀ {a b:List RowA},Rise a→Rise b→(∀ r,r∈a↔r∈b)→a=b
 | [], [],_,_,_=>rfl
 | [],y::b,_,_,h=>by have:=(h y).mpr (by simp);cases this
 | x::a, [],_,_,h=>by have:=(h x).mp (by simp);cases this
 | x::a,y::b,ha,hb,h=>by
  have ha':=List.pairwise_cons.mp ha
  have hb':=List.pairwise_cons.mp hb
  have hxy:x=y:=by
   rcases List.mem_cons.mp ((h x).mp (by simp))with e|hx
   ·exact e
   ·rcases List.mem_cons.mp ((h y).mpr (by simp))with e|hy
    ·exact e.symm
    ·have h1:=hb'.1 x hx
     rw[bl_asymm (ha'.1 y hy)]at h1
     cases h1
  subst hxy
  congr 1
  refine rise_ext ha'.2 hb'.2 fun r=>⟨fun hr=>?_,fun hr=>?_⟩
  ·rcases List.mem_cons.mp ((h r).mp (by simp[hr]))with e|hx
   ·subst e;have:=ha'.1 r hr;rw[bl_irrefl]at this;cases this
   ·exact hx
  ·rcases List.mem_cons.mp ((h r).mpr (by simp[hr]))with e|hx
   ·subst e;have:=hb'.1 r hr;rw[bl_irrefl]at this;cases this
   ·exact hx
def KeysU(l:List RowA):Prop:=l.Pairwise fun a b=>a.key≠b.key
theorem Rise.keysU{l:List RowA} (h:Rise l):KeysU l:=List.Pairwise.imp (fun hab he=>by rw[he,bl_irrefl]at hab;cases hab) h
theorem KeysU.perm{a b:List RowA} (p:a.Perm b)(h:KeysU a):KeysU b:=List.Perm.pairwise p h (fun h e=>h e.symm)
def AllOf(ls:List (List RowA)) (T:List RowA):Prop:=∃ S:List Deco,S.Perm ls.flatten.zipIdx∧SortedD S∧T=S.map fun x=>x.1
theorem AllOf.perm{ls:List (List RowA)} {T:List RowA} (a:AllOf ls T):T.Perm ls.flatten:=by
 obtain⟨S,p,_,rfl⟩:=a
 have:=p.map fun x:Deco=>x.1
 rwa [List.zipIdx_map_fst]at this
theorem AllOf.len{ls:List (List RowA)} {T:List RowA} (a:AllOf ls T):T.length=ls.flatten.length:=a.perm.length_eq
theorem AllOf.mem{ls:List (List RowA)} {T:List RowA} (a:AllOf ls T) {r:RowA} : r∈T↔r∈ls.flatten:=a.perm.mem_iff
theorem AllOf.rise{ls:List (List RowA)} {T:List RowA} (a:AllOf ls T)(u:KeysU ls.flatten):Rise T:=by
 have uT:=KeysU.perm a.perm.symm u
 obtain⟨S,p,s,rfl⟩:=a
 unfold Rise
 unfold KeysU at uT
 rw[List.pairwise_map]at uT ⊢
 refine List.Pairwise.imp ?_ (List.Pairwise.and s uT)
 rintro x y ⟨h1|h1,h2⟩
 ·exact h1
 ·exact absurd h1.1 h2
theorem sortedD_ext:∀ {a b:List Deco},SortedD a→SortedD b→a.Perm b→a=b:=by
 intro a
 induction a with
 | nil=>intro b _ _ p;exact(List.Perm.nil_eq p)
 | cons x a ih=>
  intro b sa sb p
  cases b with
  | nil=>exact absurd p.length_eq (by simp)
  | cons y b=>
   have ha:=List.pairwise_cons.mp sa
   have hb:=List.pairwise_cons.mp sb
   have hxy:x=y:=by
    rcases List.mem_cons.mp (p.mem_iff.mp (List.mem_cons_self (a:=x) (l:=a)))with e|hx
    ·exact e
    ·rcases List.mem_cons.mp (p.mem_iff.mpr (List.mem_cons_self (a:=y) (l:=b)))with e|hy
     ·exact e.symm
     ·exact absurd (dlt_trans (ha.1 y hy) (hb.1 x hx)) (dlt_irrefl x)
   subst hxy
   rw[ih ha.2 hb.2 (List.Perm.cons_inv p)]
theorem AllOf.uniq{ls:List (List RowA)} {T U:List RowA} (a:AllOf ls T)(b:AllOf ls U):T=U:=by
 obtain⟨S,p,s,rfl⟩:=a
 obtain⟨S',p',s',rfl⟩:=b
 rw[sortedD_ext s s' (p.trans p'.symm)]
def ApartO(own:List UInt8→Int)(ls:List (List RowA)):Prop:=∀(i:Nat) (l:List RowA),ls[i]? = some l→∀ r∈l,own r.key=i
def AllRise(ls:List (List RowA)):Prop:=∀(i:Nat) (l:List RowA),ls[i]? = some l→Rise l
theorem apart_keysU{own:List UInt8→Int} {ls:List (List RowA)} (hr:AllRise ls)(ha:ApartO own ls):KeysU ls.flatten:=by
 unfold KeysU
 rw[List.pairwise_flatten]
 refine⟨fun l hl=>?_,?_⟩
 ·obtain⟨i,hi⟩:=List.mem_iff_getElem?.mp hl
  exact(hr i l hi).keysU
 ·rw[List.pairwise_iff_getElem]
  intro i j hi hj hij a ha' b hb' he
  have h1:=ha i _ (List.getElem?_eq_getElem hi) a ha'
  have h2:=ha j _ (List.getElem?_eq_getElem hj) b hb'
  rw[he]at h1
  omega
def splitK(own:List UInt8→Int) (n:Nat) (S:List RowA):List (List RowA):=(List.range n).map fun(i:Nat)=>S.filter fun r=>decide (own r.key=(i:Int))
theorem splitK_len(own:List UInt8→Int) (n:Nat) (S:List RowA):(splitK own n S).length=n:=by simp[splitK]
theorem splitK_get{own:List UInt8→Int} {n i:Nat} {S:List RowA} (hi:i<n):(splitK own n S)[i]? = some (S.filter fun r=>decide (own r.key=(i:Int))):=by
 simp[splitK,hi]
theorem splitK_at{own:List UInt8→Int} {n i:Nat} {S l:List RowA} (h:(splitK own n S)[i]? = some l):i<n∧l=S.filter fun r=>decide (own r.key=(i:Int)):=by
 have hi:i<n:=by
  have:=(List.getElem?_eq_some_iff.mp h).1
  rwa [splitK_len]at this
 rw[splitK_get hi]at h
 exact⟨hi,(Option.some.inj h).symm⟩
theorem splitK_mem{own:List UInt8→Int} {n i:Nat} {S l:List RowA} (h:(splitK own n S)[i]? = some l) {r:RowA} : r∈l↔r∈S∧own r.key=i:=by
 obtain⟨_,rfl⟩:=splitK_at h
 simp
theorem splitK_apart(own:List UInt8→Int) (n:Nat) (S:List RowA):ApartO own (splitK own n S):=fun _ _ h _ hr=>((splitK_mem h).mp hr).2
theorem splitK_rise{own:List UInt8→Int} {n:Nat} {S:List RowA} (hS:Rise S):AllRise (splitK own n S):=fun i l h=>by
 obtain⟨_,rfl⟩:=splitK_at h
 exact List.Pairwise.sublist List.filter_sublist hS
theorem splitK_flat{own:List UInt8→Int} {n:Nat} {S:List RowA} (ho:∀ r∈S,0≤own r.key∧own r.key<n) {r:RowA} : r∈(splitK own n S).flatten↔r∈S:=by
 rw[List.mem_flatten]
 constructor
 ·rintro⟨l,hl,hr⟩
  obtain⟨i,hi⟩:=List.mem_iff_getElem?.mp hl
  exact((splitK_mem hi).mp hr).1
 ·intro hr
  obtain⟨h1,h2⟩:=ho r hr
  have hi:(own r.key).toNat<n:=by omega
  exact⟨_,List.mem_of_getElem? (splitK_get hi),(splitK_mem (splitK_get hi)).mpr ⟨hr,by omega⟩⟩
theorem all_split{own:List UInt8→Int} {n:Nat} {S T:List RowA} (hS:Rise S)(ho:∀ r∈S,0≤own r.key∧own r.key<n)(a:AllOf (splitK own n S) T):T=S:=
 rise_ext (a.rise (apart_keysU (splitK_rise hS) (splitK_apart own n S))) hS fun _=>a.mem.trans (splitK_flat ho)
theorem split_all{own:List UInt8→Int} {ls:List (List RowA)} {T:List RowA} (hr:AllRise ls)(ha:ApartO own ls)(a:AllOf ls T):Rise T∧ls=splitK own ls.length T∧∀ r∈T,0≤own r.key∧own r.key<ls.length:=by
 have hT:=a.rise (apart_keysU hr ha)
 have mem:∀ {i l r},ls[i]? = some l→r∈l→r∈T:=fun hi h=>a.mem.mpr (List.mem_flatten.mpr ⟨_,List.mem_of_getElem? hi,h⟩)
 have at':∀ {r},r∈T→∃(i:Nat) (l:List RowA),ls[i]? = some l∧r∈l∧own r.key=i:=fun hr=>by
  obtain⟨l,hl,h⟩:=List.mem_flatten.mp (a.mem.mp hr)
  obtain⟨i,hi⟩:=List.mem_iff_getElem?.mp hl
  exact⟨i,l,hi,h,ha i l hi _ h⟩
 refine⟨hT,?_,fun r hr'=>?_⟩
 ·refine List.ext_getElem? fun i=>?_
  by_cases hi:i<ls.length
  ·rw[splitK_get hi,List.getElem?_eq_getElem hi]
   congr 1
   have hg:=List.getElem?_eq_getElem hi
   refine rise_ext (hr i _ hg) (List.Pairwise.sublist List.filter_sublist hT) fun r=>?_
   rw[List.mem_filter,decide_eq_true_iff]
   constructor
   ·intro h
    exact⟨mem hg h,ha i _ hg r h⟩
   ·rintro⟨h1,h2⟩
    obtain⟨j,l,h3,h4,h5⟩:=at' h1
    have:i=j:=by omega
    subst this
    rw[hg]at h3
    rw[Option.some.inj h3]
    exact h4
  ·rw[List.getElem?_eq_none (by omega),List.getElem?_eq_none (by rw[splitK_len];omega)]
 ·obtain⟨i,l,h3,_,h5⟩:=at' hr'
  have:=(List.getElem?_eq_some_iff.mp h3).1
  omega
def dropAll(ls:List (List RowA))(D:List (Nat × List UInt8)):List (List RowA):=D.foldl (fun ls d=>ls.set d.1 (delK (ls.getD d.1 []) d.2)) ls
theorem dropAll_len:∀(D:List (Nat × List UInt8))(ls:List (List RowA)),(dropAll ls D).length=ls.length
 | [],_=>rfl
 | d::D,ls=>by
  have:=dropAll_len D (ls.set d.1 (delK (ls.getD d.1 []) d.2))
  rw[List.length_set]at this
  exact this
theorem dropAll_snoc(D:List (Nat × List UInt8)) (d:Nat × List UInt8)(ls:List (List RowA)):dropAll ls (D ++ [d])=(dropAll ls D).set d.1 (delK ((dropAll ls D).getD d.1 []) d.2):=by
 unfold dropAll
 rw[List.foldl_append]
 rfl
def putAll(ls:List (List RowA))(E:List (Nat × RowA)):List (List RowA):=E.foldl (fun ls e=>ls.set e.1 (putK (ls.getD e.1 []) e.2)) ls
theorem putAll_len:∀(E:List (Nat × RowA))(ls:List (List RowA)),(putAll ls E).length=ls.length
 | [],_=>rfl
 | e::E,ls=>by
  have:=putAll_len E (ls.set e.1 (putK (ls.getD e.1 []) e.2))
  rw[List.length_set]at this
  exact this
theorem putAll_snoc(E:List (Nat × RowA)) (e:Nat × RowA)(ls:List (List RowA)):putAll ls (E ++ [e])=(putAll ls E).set e.1 (putK ((putAll ls E).getD e.1 []) e.2):=by
 unfold putAll
 rw[List.foldl_append]
 rfl
theorem getD_of{α:Type} {l:List α} {i:Nat} {x d:α} (h:l[i]? = some x):l.getD i d=x:=by rw[List.getD_eq_getElem?_getD,h];rfl
theorem dropAll_at:∀(D:List (Nat × List UInt8))(ls:List (List RowA)) (i:Nat) (l:List RowA),AllRise ls→(dropAll ls D)[i]? = some l→Rise l∧∃ l0,ls[i]? = some l0∧∀ r,r∈l↔r∈l0∧∀ d∈D,d.1=i→r.key≠d.2
 | [],ls,i,l,hr,h=>⟨hr i l h,l,h,fun r=>by simp⟩
 | d::D,ls,i,l,hr,h=>by
  have hset:∀ j m,(ls.set d.1 (delK (ls.getD d.1 []) d.2))[j]? = some m→(j=d.1∧∃ m0,ls[j]? = some m0∧m=delK m0 d.2)∨(j≠d.1∧ls[j]? = some m):=by
   intro j m hm
   by_cases hj:j=d.1
   ·subst hj
    have hlt:d.1<ls.length:=by
     have:=(List.getElem?_eq_some_iff.mp hm).1
     rwa [List.length_set]at this
    rw[List.getElem?_set_self hlt]at hm
    have hg:=List.getElem?_eq_getElem hlt
    exact .inl ⟨rfl,_,hg,by rw[← Option.some.inj hm,getD_of hg]⟩
   ·rw[List.getElem?_set_ne (Ne.symm hj)]at hm
    exact .inr ⟨hj,hm⟩
  have hr':AllRise (ls.set d.1 (delK (ls.getD d.1 []) d.2)):=fun j m hm=>by
   rcases hset j m hm with⟨_,m0,h0,rfl⟩|⟨_,h0⟩
   ·exact delK_rise (hr j m0 h0) d.2
   ·exact hr j m h0
  obtain⟨h1,l1,h2,h3⟩:=dropAll_at D _ i l hr' h
  refine⟨h1,?_⟩
  rcases hset i l1 h2 with⟨hi,m0,h0,rfl⟩|⟨hi,h0⟩
  ·refine⟨m0,h0,fun r=>?_⟩
   rw[h3,mem_delK (hr i m0 h0)]
   constructor
   ·rintro⟨⟨a,b⟩,c⟩
    refine⟨a,fun d' hd' he=>?_⟩
    rcases List.mem_cons.mp hd' with rfl|hd'
    ·exact b
    ·exact c d' hd' he
   ·rintro⟨a,b⟩
    exact⟨⟨a,b d (by simp) hi.symm⟩,fun d' hd'=>b d' (by simp[hd'])⟩
  ·refine⟨l1,h0,fun r=>?_⟩
   rw[h3]
   constructor
   ·rintro⟨a,c⟩
    refine⟨a,fun d' hd' he=>?_⟩
    rcases List.mem_cons.mp hd' with rfl|hd'
    ·exact absurd he.symm hi
    ·exact c d' hd' he
   ·rintro⟨a,b⟩
    exact⟨a,fun d' hd'=>b d' (by simp[hd'])⟩
theorem putAll_at:∀(E:List (Nat × RowA))(ls:List (List RowA)) (i:Nat) (l:List RowA),AllRise ls→KeysU (E.map fun e=>e.2)→(putAll ls E)[i]? = some l→Rise l∧∃ l0,ls[i]? = some l0∧∀ r,r∈l↔(r∈l0∧∀ e∈E,e.1=i→r.key≠e.2.key)∨∃ e∈E,e.1=i∧e.2=r
 | [],ls,i,l,hr,_,h=>⟨hr i l h,l,h,fun r=>by simp⟩
 | e::E,ls,i,l,hr,hu,h=>by
  have hset:∀ j m,(ls.set e.1 (putK (ls.getD e.1 []) e.2))[j]? = some m→(j=e.1∧∃ m0,ls[j]? = some m0∧m=putK m0 e.2)∨(j≠e.1∧ls[j]? = some m):=by
   intro j m hm
   by_cases hj:j=e.1
   ·subst hj
    have hlt:e.1<ls.length:=by
     have:=(List.getElem?_eq_some_iff.mp hm).1
     rwa [List.length_set]at this
    rw[List.getElem?_set_self hlt]at hm
    have hg:=List.getElem?_eq_getElem hlt
    exact .inl ⟨rfl,_,hg,by rw[← Option.some.inj hm,getD_of hg]⟩
   ·rw[List.getElem?_set_ne (Ne.symm hj)]at hm
    exact .inr ⟨hj,hm⟩
  have hr':AllRise (ls.set e.1 (putK (ls.getD e.1 []) e.2)):=fun j m hm=>by
   rcases hset j m hm with⟨_,m0,h0,rfl⟩|⟨_,h0⟩
   ·exact putK_rise (hr j m0 h0) e.2
   ·exact hr j m h0
  have hu2:=List.pairwise_cons.mp (show KeysU (e.2::E.map fun e=>e.2) from hu)
  obtain⟨h1,l1,h2,h3⟩:=putAll_at E _ i l hr' hu2.2 h
  refine⟨h1,?_⟩
  rcases hset i l1 h2 with⟨hi,m0,h0,rfl⟩|⟨hi,h0⟩
  ·refine⟨m0,h0,fun r=>?_⟩
   rw[h3,mem_putK (hr i m0 h0)]
   constructor
   ·rintro(⟨rfl|⟨a,b⟩,c⟩|⟨e',he',h4,h5⟩)
    ·exact .inr ⟨e,by simp,hi.symm,rfl⟩
    ·refine .inl ⟨a,fun e' he' hx=>?_⟩
     rcases List.mem_cons.mp he' with rfl|he'
     ·exact b
     ·exact c e' he' hx
    ·exact .inr ⟨e',by simp[he'],h4,h5⟩
   ·rintro(⟨a,b⟩|⟨e',he',h4,h5⟩)
    ·exact .inl ⟨.inr ⟨a,b e (by simp) hi.symm⟩,fun e' he'=>b e' (by simp[he'])⟩
    ·rcases List.mem_cons.mp he' with rfl|he'
     ·refine .inl ⟨.inl h5.symm,fun e'' he'' _=>?_⟩
      rw[← h5]
      exact hu2.1 _ (List.mem_map.mpr ⟨e'',he'',rfl⟩)
     ·exact .inr ⟨e',he',h4,h5⟩
  ·refine⟨l1,h0,fun r=>?_⟩
   rw[h3]
   constructor
   ·rintro(⟨a,c⟩|⟨e',he',h4,h5⟩)
    ·refine .inl ⟨a,fun e' he' hx=>?_⟩
     rcases List.mem_cons.mp he' with rfl|he'
     ·exact absurd hx.symm hi
     ·exact c e' he' hx
    ·exact .inr ⟨e',by simp[he'],h4,h5⟩
   ·rintro(⟨a,b⟩|⟨e',he',h4,h5⟩)
    ·exact .inl ⟨a,fun e' he'=>b e' (by simp[he'])⟩
    ·rcases List.mem_cons.mp he' with rfl|he'
     ·exact absurd h4.symm hi
     ·exact .inr ⟨e',he',h4,h5⟩
theorem step_split{own own':List UInt8→Int} {n:Nat} {S M:List RowA} (hS:Rise S)(ho:∀ r∈S,0≤own r.key∧own r.key<n)(ho':∀ r∈S,0≤own' r.key∧own' r.key<n)(hM:∀ r∈M,r∈S)(hu:KeysU M)(hst:∀ r∈S,r∉M→own r.key=own' r.key) :
  putAll (dropAll (splitK own n S) (M.map fun r=>((own r.key).toNat,r.key))) (M.map fun r=>((own' r.key).toNat,r))=splitK own' n S:=by
 refine List.ext_getElem? fun i=>?_
 by_cases hi:i<n
 ·have hlt:i<(putAll (dropAll (splitK own n S) (M.map fun r=>((own r.key).toNat,r.key))) (M.map fun r=>((own' r.key).toNat,r))).length:=by
   rw[putAll_len,dropAll_len,splitK_len];exact hi
  have hg:=List.getElem?_eq_getElem hlt
  rw[splitK_get hi,hg]
  congr 1
  have hrD:AllRise (dropAll (splitK own n S) (M.map fun r=>((own r.key).toNat,r.key))):=fun j m hm=>(dropAll_at _ _ j m (splitK_rise hS) hm).1
  have hu':KeysU ((M.map fun r=>((own' r.key).toNat,r)).map fun e=>e.2):=by
   rw[List.map_map]
   simpa[Function.comp_def]using hu
  obtain⟨h1,l1,h2,h3⟩:=putAll_at _ _ i _ hrD hu' hg
  obtain⟨_,l0,h4,h5⟩:=dropAll_at _ _ i l1 (splitK_rise hS) h2
  refine rise_ext h1 (List.Pairwise.sublist List.filter_sublist hS) fun r=>?_
  rw[List.mem_filter,decide_eq_true_iff,h3,h5,splitK_mem h4]
  constructor
  ·rintro(⟨⟨⟨a,b⟩,c⟩,d⟩|⟨e,he,h6,h7⟩)
   ·by_cases hm:r∈M
    ·exact absurd rfl (c (i,r.key) (List.mem_map.mpr ⟨r,hm,by rw[b];rfl⟩) rfl)
    ·exact⟨a,by rw[← hst r a hm];exact b⟩
   ·obtain⟨r',hr',rfl⟩:=List.mem_map.mp he
    simp only at h6 h7
    subst h7
    have:=ho' r' (hM r' hr')
    exact⟨hM r' hr',by omega⟩
  ·rintro⟨a,b⟩
   by_cases hm:r∈M
   ·exact .inr ⟨((own' r.key).toNat,r),List.mem_map.mpr ⟨r,hm,rfl⟩,by simp only;omega,rfl⟩
   ·refine .inl ⟨⟨⟨a,by rw[hst r a hm];exact b⟩,fun d hd _ he=>?_⟩,fun e he _ hk=>?_⟩
    ·obtain⟨r',hr',rfl⟩:=List.mem_map.mp hd
     simp only at he
     exact hm (rise_key hS a (hM r' hr') he▸hr')
    ·obtain⟨r',hr',rfl⟩:=List.mem_map.mp he
     simp only at hk
     exact hm (rise_key hS a (hM r' hr') hk▸hr')
 ·rw[List.getElem?_eq_none (by rw[putAll_len,dropAll_len,splitK_len];omega),List.getElem?_eq_none (by rw[splitK_len];omega)]
def mvN(f g:List UInt8→Int) (S:List RowA) (lo:Nat):Nat→List Nat
 | 0=> []
 | k+1=>mvN f g S lo k++if f ((S.map RowA.key).getD (lo+k) [])≠g ((S.map RowA.key).getD (lo+k) [])then [lo+k]else []
theorem mem_mvN{f g:List UInt8→Int} {S:List RowA} {lo:Nat} : ∀ {k j:Nat},j∈mvN f g S lo k↔(lo≤j∧j<lo+k)∧f ((S.map RowA.key).getD j [])≠g ((S.map RowA.key).getD j [])
 | 0,j=>by simp[mvN];omega
 | k+1,j=>by
  rw[mvN,List.mem_append,mem_mvN]
  constructor
  ·rintro(⟨a,b⟩|h)
   ·exact⟨by omega,b⟩
   ·split at h
    ·rename_i hc
     rw[List.mem_singleton]at h
     subst h
     exact⟨by omega,hc⟩
    ·cases h
  ·rintro⟨a,b⟩
   by_cases hj:j=lo+k
   ·subst hj
    rw[if_pos b]
    exact .inr (by simp)
   ·exact .inl ⟨by omega,b⟩
theorem mvN_up{f g:List UInt8→Int} {S:List RowA} {lo:Nat} : ∀ k,(mvN f g S lo k).Pairwise (fun a b=>a<b)
 | 0=>List.Pairwise.nil
 | k+1=>by
  rw[mvN,List.pairwise_append]
  refine⟨mvN_up k,by split <;> simp,fun a ha b hb=>?_⟩
  have:=(mem_mvN.mp ha).1
  split at hb
  ·rw[List.mem_singleton]at hb;omega
  ·cases hb
theorem mvN_len{f g:List UInt8→Int} {S:List RowA} {lo:Nat} : ∀ k,(mvN f g S lo k).length≤k
 | 0=>by simp[mvN]
 | k+1=>by
  have:=mvN_len (f:=f) (g:=g) (S:=S) (lo:=lo) k
  simp only[mvN,List.length_append]
  split <;> simp <;> omega
def mvRows(f g:List UInt8→Int) (S:List RowA) (lo k:Nat):List RowA:=(mvN f g S lo k).map fun j=>S.getD j ⟨[],0, []⟩
theorem mvRows_mem{f g:List UInt8→Int} {S:List RowA} {lo k:Nat} (hk:lo+k≤S.length) {r:RowA} : r∈mvRows f g S lo k↔∃ j,S[j]? = some r∧lo≤j∧j<lo+k∧f r.key≠g r.key:=by
 unfold mvRows
 rw[List.mem_map]
 constructor
 ·rintro⟨j,hj,rfl⟩
  obtain⟨⟨a,b⟩,c⟩:=mem_mvN.mp hj
  have hlt:j<S.length:=by omega
  have hg:=List.getElem?_eq_getElem hlt
  have hk':(S.map RowA.key).getD j []=S[j].key:=getD_of (by rw[List.getElem?_map,hg];rfl)
  rw[hk']at c
  exact⟨j,by rw[getD_of hg];exact hg,a,b,by rw[getD_of hg];exact c⟩
 ·rintro⟨j,hj,a,b,c⟩
  refine⟨j,mem_mvN.mpr ⟨⟨a,b⟩,?_⟩,getD_of hj⟩
  rw[getD_of (x:=r.key) (by rw[List.getElem?_map,hj];rfl)]
  exact c
theorem rise_at{S:List RowA} (hS:Rise S) {i j:Nat} {a b:RowA} (hi:S[i]? = some a)(hj:S[j]? = some b)(hij:i<j):bl a.key b.key=true:=by
 obtain⟨i1,i2⟩:=List.getElem?_eq_some_iff.mp hi
 obtain⟨j1,j2⟩:=List.getElem?_eq_some_iff.mp hj
 have:=List.pairwise_iff_getElem.mp hS i j i1 j1 hij
 rwa [i2,j2]at this
theorem mvRows_keysU{f g:List UInt8→Int} {S:List RowA} {lo k:Nat} (hS:Rise S)(hk:lo+k≤S.length):KeysU (mvRows f g S lo k):=by
 unfold KeysU mvRows
 rw[List.pairwise_map]
 refine List.Pairwise.imp_of_mem ?_ (mvN_up k)
 intro a b ha hb hab he
 have h1:=(mem_mvN.mp ha).1
 have h2:=(mem_mvN.mp hb).1
 have ga:=List.getElem?_eq_getElem (show a<S.length by omega)
 have gb:=List.getElem?_eq_getElem (show b<S.length by omega)
 rw[getD_of ga,getD_of gb]at he
 have:=rise_at hS ga gb hab
 rw[he,bl_irrefl]at this
 cases this
def ownC(f g:List UInt8→Int)(fin:Bool) (cur:List UInt8) (key:List UInt8):Int:=if fin=true∨bl key cur=true then g key else f key
theorem next_stay{f g:List UInt8→Int} {S:List RowA} {cur:List UInt8} {lo k:Nat} (hS:Rise S)(hk:lo+k≤S.length)(hlo:∀ j,j<lo→bl ((S.map RowA.key).getD j []) cur=true)(hhi:∀ j,lo≤j→j<S.length→bl ((S.map RowA.key).getD j []) cur=false) :
  (∀ r∈S,r∉mvRows f g S lo k→ownC f g false cur r.key=ownC f g (!decide (lo+k<S.length)) ((S.map RowA.key).getD (lo+k) []) r.key) ∧
  (∀ r∈mvRows f g S lo k,ownC f g false cur r.key=f r.key∧ownC f g (!decide (lo+k<S.length)) ((S.map RowA.key).getD (lo+k) []) r.key=g r.key):=by
 have key:∀ {j:Nat} {r:RowA},S[j]? = some r→(S.map RowA.key).getD j []=r.key:=fun h=>getD_of (by rw[List.getElem?_map,h];rfl)
 have now:∀ {j:Nat} {r:RowA},S[j]? = some r→ownC f g false cur r.key=if j<lo then g r.key else f r.key:=fun {j r} h=>by
  have hl:=(List.getElem?_eq_some_iff.mp h).1
  unfold ownC
  by_cases hj:j<lo
  ·have:=hlo j hj;rw[key h]at this
   rw[if_pos hj,if_pos (.inr this)]
  ·have:=hhi j (by omega) hl;rw[key h]at this
   rw[if_neg hj,if_neg (by rw[this];simp)]
 have then':∀ {j:Nat} {r:RowA},S[j]? = some r→ownC f g (!decide (lo+k<S.length)) ((S.map RowA.key).getD (lo+k) []) r.key=if j<lo+k then g r.key else f r.key:=fun {j r} h=>by
  have hl:=(List.getElem?_eq_some_iff.mp h).1
  unfold ownC
  by_cases hm:lo+k<S.length
  ·have gm:=List.getElem?_eq_getElem hm
   rw[key gm,decide_eq_true hm]
   by_cases hj:j<lo+k
   ·rw[if_pos hj,if_pos (.inr (rise_at hS h gm hj))]
   ·have hb:bl r.key S[lo+k].key=false:=by
     rcases Nat.lt_or_ge (lo+k) j with h1|h1
     ·exact bl_asymm (rise_at hS gm h h1)
     ·have:j=lo+k:=by omega
      subst this
      rw[gm]at h
      rw[← Option.some.inj h]
      exact bl_irrefl _
    rw[if_neg hj,if_neg (by rw[hb];simp)]
  ·rw[decide_eq_false hm,if_pos (.inl rfl),if_pos (by omega)]
 refine⟨fun r hr hm=>?_,fun r hr=>?_⟩
 ·obtain⟨j,hj⟩:=List.mem_iff_getElem?.mp hr
  rw[now hj,then' hj]
  by_cases h1:j<lo
  ·rw[if_pos h1,if_pos (by omega)]
  ·rw[if_neg h1]
   by_cases h2:j<lo+k
   ·rw[if_pos h2]
    by_cases h3:f r.key=g r.key
    ·exact h3
    ·exact absurd ((mvRows_mem hk).mpr ⟨j,hj,by omega,h2,h3⟩) hm
   ·rw[if_neg h2]
 ·obtain⟨j,hj,h1,h2,h3⟩:=(mvRows_mem hk).mp hr
  rw[now hj,then' hj,if_neg (by omega),if_pos h2]
  exact⟨rfl,rfl⟩
theorem set_le{ls:List (List RowA)} {i:Nat} {m:List RowA} {B:Nat} (h:∀(i:Nat) (l:List RowA),ls[i]? = some l→l.length≤B)(hm:i<ls.length→m.length≤B):∀(j:Nat) (l:List RowA),(ls.set i m)[j]? = some l→l.length≤B:=fun j l hl=>by
 by_cases hj:i=j
 ·subst hj
  have hlt:i<ls.length:=by
   have:=(List.getElem?_eq_some_iff.mp hl).1
   rwa [List.length_set]at this
  rw[List.getElem?_set_self hlt]at hl
  rw[← Option.some.inj hl]
  exact hm hlt
 ·rw[List.getElem?_set_ne hj]at hl
  exact h j l hl
theorem delK_len(l:List RowA) (k:List UInt8):(delK l k).length≤l.length:=by
 unfold delK
 rw[List.length_append,List.length_take,List.length_drop]
 have h1:=lbK_le l k
 have h2:=hiK_le l k
 have h3:lbK l k≤hiK l k:=by unfold hiK;omega
 omega
theorem putK_len(l:List RowA)(r:RowA):(putK l r).length≤l.length+1:=by
 rw[← takeM_one]
 exact takeM_len
theorem dropAll_le{B:Nat} : ∀(D:List (Nat × List UInt8))(ls:List (List RowA)),(∀(i:Nat) (l:List RowA),ls[i]? = some l→l.length≤B)→∀(i:Nat) (l:List RowA),(dropAll ls D)[i]? = some l→l.length≤B
 | [],_,h=>h
 | d::D,ls,h=>dropAll_le D _ (set_le h fun hlt=>by
   have hg:=List.getElem?_eq_getElem hlt
   rw[getD_of hg]
   exact Nat.le_trans (delK_len _ _) (h _ _ hg))
theorem putAll_le:∀(E:List (Nat × RowA)) (B:Nat)(ls:List (List RowA)),(∀(i:Nat) (l:List RowA),ls[i]? = some l→l.length≤B)→∀(i:Nat) (l:List RowA),(putAll ls E)[i]? = some l→l.length≤B+E.length
 | [],_,_,h=>h
 | e::E,B,ls,h=>fun i l hl=>by
   have:=putAll_le E (B+1) (ls.set e.1 (putK (ls.getD e.1 []) e.2)) (set_le (fun i l hl=>by have:=h i l hl;omega) fun hlt=>by
    have hg:=List.getElem?_eq_getElem hlt
    rw[getD_of hg]
    have:=h _ _ hg
    have:=putK_len ls[e.1] e.2
    omega) i l hl
   rw[List.length_cons]
   omega
theorem putK_may{S:List RowA} {r:RowA} (hS:Rise S)(h:∀ x∈S,x.may=true)(hr:r.may=true):∀ x∈putK S r,x.may=true:=fun x hx=>by
 rcases(mem_putK hS).mp hx with rfl|⟨h1,_⟩
 ·exact hr
 ·exact h x h1
theorem split_may{own:List UInt8→Int} {n:Nat} {S:List RowA} (h:∀ x∈S,x.may=true):∀ l∈splitK own n S,∀ r∈l,r.may=true:=fun l hl r hr=>by
 obtain⟨i,hi⟩:=List.mem_iff_getElem?.mp hl
 exact h r ((splitK_mem hi).mp hr).1
theorem split_flat_len{own:List UInt8→Int} {n:Nat} {S:List RowA} (hS:Rise S)(ho:∀ r∈S,0≤own r.key∧own r.key<n):(splitK own n S).flatten.length=S.length:=by
 have hu:=apart_keysU (splitK_rise hS) (splitK_apart own n S)
 have nd:∀ {l:List RowA},KeysU l→l.Nodup:=fun h=>List.Pairwise.imp (fun hab he=>hab (by rw[he])) h
 exact((List.perm_ext_iff_of_nodup (nd hu) (nd hS.keysU)).mpr fun _=>splitK_flat ho).length_eq
theorem filter_le{own:List UInt8→Int} {n:Nat} {S l:List RowA} (hl:l∈splitK own n S):l.length≤S.length:=by
 obtain⟨i,hi⟩:=List.mem_iff_getElem?.mp hl
 obtain⟨_,rfl⟩:=splitK_at hi
 exact List.length_filter_le _ _
end Go.Proofs
namespace Go.Proofs
open Go
inductive Picks:List (List RowA)→List RowA→Prop
 | nil {ls:List (List RowA)} : (∀ l∈ls,l = [])→Picks ls []
 | cons {A B:List (List RowA)} {r:RowA} {t T:List RowA} : (∀ l∈A,∀ x u,l=x::u→bl r.key x.key=true)→(∀ l∈B,∀ x u,l=x::u→bl x.key r.key=false)→Picks (A++t::B) T→Picks (A++(r::t)::B) (r::T)
theorem zipIdx_lt{l:List RowA} {n:Nat} {x:Deco} (h:x∈l.zipIdx n):n≤x.2∧x.2<n+l.length∧x.1∈l:=by
 obtain⟨a,b⟩:=x
 have:=List.mem_zipIdx h
 refine⟨this.1,by omega,?_⟩
 rw[this.2.2]
 exact List.getElem_mem _
theorem zipIdx_up(l:List RowA):∀ n,(l.zipIdx n).map (fun x:Deco=>((x.1,x.2+1):Deco))=l.zipIdx (n+1):=by
 induction l with
 | nil=>intro n;rfl
 | cons a l ih=>intro n;rw[List.zipIdx_cons,List.zipIdx_cons,List.map_cons,ih]
def liftD(p:Nat)(x:Deco):Deco:=if x.2<p then x else(x.1,x.2+1)
theorem liftD_dlt{p:Nat} {x y:Deco} (h:dlt x y):dlt (liftD p x) (liftD p y):=by
 have h1:(liftD p x).1=x.1:=by unfold liftD;split <;> rfl
 have h2:(liftD p y).1=y.1:=by unfold liftD;split <;> rfl
 rcases h with h|h
 ·exact .inl (by rw[h1,h2];exact h)
 ·refine .inr ⟨by rw[h1,h2];exact h.1,?_⟩
  have:=h.2
  unfold liftD
  split <;> split <;> (try dsimp only) <;> omega
theorem head_le{r:RowA} {l:List RowA} (hr:Rise l)(h:∀ x u,l=x::u→bl r.key x.key=true):∀ x∈l,bl r.key x.key=true:=by
 intro x hx
 cases l with
 | nil=>cases hx
 | cons y u=>
  have h0:=h y u rfl
  rcases List.mem_cons.mp hx with rfl|hx
  ·exact h0
  ·exact bl_trans h0 ((List.pairwise_cons.mp hr).1 x hx)
theorem head_ge{r:RowA} {l:List RowA} (hr:Rise l)(h:∀ x u,l=x::u→bl x.key r.key=false):∀ x∈l,bl r.key x.key=true∨r.key=x.key:=by
 intro x hx
 cases l with
 | nil=>cases hx
 | cons y u=>
  have h0:=h y u rfl
  have h1:bl r.key y.key=true∨r.key=y.key:=by
   by_cases he:r.key=y.key
   ·exact .inr he
   ·exact .inl (bl_neg h0 (Ne.symm he))
  rcases List.mem_cons.mp hx with rfl|hx
  ·exact h1
  ·have h2:=(List.pairwise_cons.mp hr).1 x hx
   rcases h1 with h1|h1
   ·exact .inl (bl_trans h1 h2)
   ·rw[h1];exact .inl h2
theorem Picks.all{ls:List (List RowA)} {T:List RowA} (p:Picks ls T):(∀ l∈ls,Rise l)→AllOf ls T:=by
 induction p with
 | @nil ls h=>
  intro _
  have:ls.flatten = []:=by
   rw[List.flatten_eq_nil_iff]
   exact h
  exact⟨[],by rw[this];exact List.Perm.refl _,List.Pairwise.nil,rfl⟩
 | @cons A B r t T hA hB _ ih=>
  intro hr
  have hrt:Rise (r::t):=hr _ (by simp)
  have hrA:∀ l∈A,Rise l:=fun l hl=>hr l (by simp[hl])
  have hrB:∀ l∈B,Rise l:=fun l hl=>hr l (by simp[hl])
  obtain⟨S,pS,sS,rfl⟩:=ih fun l hl=>by
   rcases List.mem_append.mp hl with hl|hl
   ·exact hrA l hl
   ·rcases List.mem_cons.mp hl with rfl|hl
    ·exact(List.pairwise_cons.mp hrt).2
    ·exact hrB l hl
  have e1:(A++t::B).flatten.zipIdx=A.flatten.zipIdx++(t++B.flatten).zipIdx A.flatten.length:=by
   rw[List.flatten_append,List.flatten_cons,List.zipIdx_append]
   simp
  have e2:(A++(r::t)::B).flatten.zipIdx=A.flatten.zipIdx++(r,A.flatten.length)::(t++B.flatten).zipIdx (A.flatten.length+1):=by
   rw[List.flatten_append,List.flatten_cons,List.zipIdx_append,List.cons_append,List.zipIdx_cons]
   simp
  rw[e1]at pS
  have pM:=pS.map (liftD A.flatten.length)
  have m1:(A.flatten.zipIdx).map (liftD A.flatten.length)=A.flatten.zipIdx:=by
   conv=>rhs;rw[← List.map_id (A.flatten.zipIdx)]
   refine List.map_congr_left fun x hx=>?_
   have:=zipIdx_lt hx
   unfold liftD
   rw[if_pos (by omega)]
   rfl
  have m2:((t++B.flatten).zipIdx A.flatten.length).map (liftD A.flatten.length)=(t++B.flatten).zipIdx (A.flatten.length+1):=by
   rw[← zipIdx_up]
   refine List.map_congr_left fun x hx=>?_
   have:=zipIdx_lt hx
   unfold liftD
   rw[if_neg (by omega)]
  rw[List.map_append,m1,m2]at pM
  refine⟨(r,A.flatten.length)::S.map (liftD A.flatten.length),?_,?_,?_⟩
  ·rw[e2]
   exact(pM.cons _).trans List.perm_middle.symm
  ·refine List.pairwise_cons.mpr ⟨fun x hx=>?_,?_⟩
   ·have hx:=pM.mem_iff.mp hx
    rcases List.mem_append.mp hx with hx|hx
    ·obtain⟨h1,h2,h3⟩:=zipIdx_lt hx
     obtain⟨l,hl,hxl⟩:=List.mem_flatten.mp h3
     exact .inl (head_le (hrA l hl) (hA l hl) _ hxl)
    ·obtain⟨h1,h2,h3⟩:=zipIdx_lt hx
     have hor:bl r.key x.1.key=true∨r.key=x.1.key:=by
      rcases List.mem_append.mp h3 with h3|h3
      ·exact .inl ((List.pairwise_cons.mp hrt).1 _ h3)
      ·obtain⟨l,hl,hxl⟩:=List.mem_flatten.mp h3
       exact head_ge (hrB l hl) (hB l hl) _ hxl
     rcases hor with h|h
     ·exact .inl h
     ·exact .inr ⟨h,by simp only;omega⟩
   ·exact(List.pairwise_map.mpr (List.Pairwise.imp (fun h=>liftD_dlt h) sS))
  ·rw[List.map_cons,List.map_map]
   congr 1
   refine List.map_congr_left fun x _=>?_
   show x.1=(liftD _ x).1
   unfold liftD
   split <;> rfl
def restK(ls:List (List RowA)) (N:List Nat):List (List RowA):=List.zipWith (fun l n=>l.drop n) ls N
theorem restK_get{ls:List (List RowA)} {N:List Nat} {i:Nat} {l:List RowA} {n:Nat} (hl:ls[i]? = some l)(hn:N[i]? = some n):(restK ls N)[i]? = some (l.drop n):=by
 unfold restK
 rw[List.getElem?_zipWith,hl,hn]
theorem restK_set{ls:List (List RowA)} {N:List Nat} {i:Nat} {l:List RowA} {n:Nat} (hl:ls[i]? = some l)(hlen:ls.length=N.length):restK ls (N.set i n)=(restK ls N).set i (l.drop n):=by
 refine List.ext_getElem? fun j=>?_
 have hi:=(List.getElem?_eq_some_iff.mp hl).1
 by_cases hj:i=j
 ·subst hj
  rw[List.getElem?_set_self (by unfold restK;simp;omega),restK_get hl (List.getElem?_set_self (by omega))]
 ·rw[List.getElem?_set_ne hj]
  unfold restK
  rw[List.getElem?_zipWith,List.getElem?_zipWith,List.getElem?_set_ne hj]
theorem restK_zero(ls:List (List RowA)):restK ls (List.replicate ls.length 0)=ls:=by
 refine List.ext_getElem? fun j=>?_
 by_cases hj:j<ls.length
 ·rw[restK_get (List.getElem?_eq_getElem hj) (by rw[List.getElem?_replicate,if_pos hj]),List.getElem?_eq_getElem hj]
  rfl
 ·rw[List.getElem?_eq_none (by unfold restK;simp;omega),List.getElem?_eq_none (by omega)]
def BestB(R:List (List RowA)) (k:Nat) (b:Int):Prop:=
 (b = -1∧∀ l∈R.take k,l = [])∨(∃(o:Nat)(r:RowA) (t:List RowA),b=(o:Int)∧o<k∧R[o]? = some (r::t)∧(∀ i l x u,i<o→R[i]? = some l→l=x::u→bl r.key x.key=true)∧(∀ i l x u,o<i→i<k→R[i]? = some l→l=x::u→bl x.key r.key=false))
theorem BestB.pick{R:List (List RowA)} {o:Nat} {r:RowA} {t:List RowA} (h:BestB R R.length (o:Int))(hr:R[o]? = some (r::t)) {T:List RowA} (p:Picks (R.set o t) T):Picks R (r::T):=by
 rcases h with⟨h,_⟩|⟨o',r',t',e,ho,hg,hA,hB⟩
 ·omega
 obtain rfl:o=o':=by omega
 rw[hr]at hg
 obtain⟨rfl,rfl⟩:=List.cons.inj (Option.some.inj hg)
 obtain⟨hlt,he⟩:=List.getElem?_eq_some_iff.mp hr
 have e1:R=R.take o++(r::t)::R.drop (o+1):=by
  rw[← he,List.getElem_cons_drop,List.take_append_drop]
 have e2:R.set o t=R.take o++t::R.drop (o+1):=List.set_eq_take_append_cons_drop.trans (by rw[if_pos hlt])
 rw[e2]at p
 rw[e1]
 refine .cons (fun l hl x u hx=>?_) (fun l hl x u hx=>?_) p
 ·obtain⟨i,hi⟩:=List.mem_iff_getElem?.mp hl
  have hil:=(List.getElem?_eq_some_iff.mp hi).1
  rw[List.length_take]at hil
  rw[List.getElem?_take_of_lt (by omega)]at hi
  exact hA i l x u (by omega) hi hx
 ·obtain⟨i,hi⟩:=List.mem_iff_getElem?.mp hl
  rw[List.getElem?_drop]at hi
  have hil:=(List.getElem?_eq_some_iff.mp hi).1
  exact hB (o+1+i) l x u (by omega) (by omega) hi hx
theorem BestB.none{R:List (List RowA)} (h:BestB R R.length (-1)):Picks R []:=by
 rcases h with⟨_,h⟩|⟨o',r',t',e,_⟩
 ·rw[List.take_length]at h
  exact .nil h
 ·omega
theorem BestB.skip{R:List (List RowA)} {k:Nat} {b:Int} (h:BestB R k b)(hk:R[k]? = some []):BestB R (k+1) b:=by
 rcases h with⟨h,h2⟩|⟨o',r',t',e,ho,hg,hA,hB⟩
 ·refine .inl ⟨h,fun l hl=>?_⟩
  rw[List.take_add_one,hk]at hl
  rcases List.mem_append.mp hl with hl|hl
  ·exact h2 l hl
  ·simpa using hl
 ·refine .inr ⟨o',r',t',e,by omega,hg,hA,fun i l x u h1 h2 hi hx=>?_⟩
  by_cases hik:i=k
  ·subst hik
   rw[hk]at hi
   rw[← Option.some.inj hi]at hx
   cases hx
  ·exact hB i l x u h1 (by omega) hi hx
theorem BestB.first{R:List (List RowA)} {k:Nat} (h:BestB R k (-1)) {r:RowA} {t:List RowA} (hk:R[k]? = some (r::t)):BestB R (k+1) (k:Int):=by
 rcases h with⟨h,h2⟩|⟨o',r',t',e,ho,hg,hA,hB⟩
 ·refine .inr ⟨k,r,t,rfl,by omega,hk,fun i l x u hi hl hx=>?_,fun i l x u h1 h2=>by omega⟩
  have:l∈R.take k:=List.mem_of_getElem? (show(R.take k)[i]? = some l by rw[List.getElem?_take_of_lt hi];exact hl)
  rw[h2 l this]at hx
  cases hx
 ·omega
theorem BestB.less{R:List (List RowA)} {k o:Nat} (h:BestB R k (o:Int)) {r s:RowA} {t u:List RowA} (ho:R[o]? = some (s::u))(hk:R[k]? = some (r::t))(hb:bl r.key s.key=true):BestB R (k+1) (k:Int):=by
 rcases h with⟨h,h2⟩|⟨o',r',t',e,ho',hg,hA,hB⟩
 ·omega
 obtain rfl:o=o':=by omega
 rw[ho]at hg
 obtain⟨rfl,rfl⟩:=List.cons.inj (Option.some.inj hg)
 refine .inr ⟨k,r,t,rfl,by omega,hk,fun i l x u hi hl hx=>?_,fun i l x u h1 h2=>by omega⟩
 rcases Nat.lt_trichotomy i o with h|h|h
 ·exact bl_trans hb (hA i l x u h hl hx)
 ·subst h
  rw[ho]at hl
  rw[← Option.some.inj hl]at hx
  obtain⟨rfl,rfl⟩:=List.cons.inj hx
  exact hb
 ·have h3:=hB i l x u h hi hl hx
  by_cases he:x.key=s.key
  ·rw[he];exact hb
  ·exact bl_trans hb (bl_neg h3 he)
theorem BestB.keep{R:List (List RowA)} {k o:Nat} (h:BestB R k (o:Int)) {r s:RowA} {t u:List RowA} (ho:R[o]? = some (s::u))(hk:R[k]? = some (r::t))(hb:bl r.key s.key=false):BestB R (k+1) (o:Int):=by
 rcases h with⟨h,h2⟩|⟨o',r',t',e,ho',hg,hA,hB⟩
 ·omega
 obtain rfl:o=o':=by omega
 rw[ho]at hg
 obtain⟨rfl,rfl⟩:=List.cons.inj (Option.some.inj hg)
 refine .inr ⟨o,s,u,rfl,by omega,ho,hA,fun i l x v h1 h2 hi hx=>?_⟩
 by_cases hik:i=k
 ·subst hik
  rw[hk]at hi
  rw[← Option.some.inj hi]at hx
  obtain⟨rfl,rfl⟩:=List.cons.inj hx
  exact hb
 ·exact hB i l x v h1 (by omega) hi hx
theorem BestB.zero(R:List (List RowA)):BestB R 0 (-1):= .inl ⟨rfl,by simp⟩
end Go.Proofs
