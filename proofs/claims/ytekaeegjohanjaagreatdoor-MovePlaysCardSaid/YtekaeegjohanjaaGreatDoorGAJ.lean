import Derived.Test.YtekaeegjohanjaaGreatDoorGAI
set_option linter.all false
namespace Go.Proofs
open Go Go.Abs
set_option maxRecDepth 100000
set_option linter.unusedSimpArgs false
def DoR(c:Chg)(ls:List (List RowA)) (ops:List OpA) (rs:List ResA) (f1 f2:Int)(ls':List (List RowA)):Prop:=
 (c.ok=false∧rs = []∧f1=0∧f2=70∧ls'=ls) ∨
 (c.ok=true∧ls.length≠c.will.wts.length∧rs = []∧f1=0∧f2=4∧ls'=ls) ∨
 (c.ok=true∧ls.length=c.will.wts.length∧(ops.length<1∨32<ops.length)∧rs = []∧f1=0∧f2=80∧ls'=ls) ∨
 (c.ok=true∧ls.length=c.will.wts.length∧1≤ops.length∧ops.length≤32∧∃(i:Nat)(x:OpA),ops[i]? = some x∧x.mvBad=true∧(∀ y∈ops.take i,y.mvBad=false)∧rs = []∧f1=i∧f2=80∧ls'=ls) ∨
 (c.ok=true∧ls.length=c.will.wts.length∧OpsOk ops∧∃(i:Nat)(x y:OpA),ops[i]? = some x∧ops[0]? = some y∧c.owner x.key≠c.owner y.key∧(∀ z∈ops.take i,c.owner z.key=c.owner y.key)∧rs = []∧f1=i∧f2=220∧ls'=ls) ∨
 (c.ok=true∧ls.length=c.will.wts.length∧OpsOk ops∧∃(o:Nat) (l:List RowA),ls[o]? = some l∧(∀ x∈ops,c.owner x.key=o)∧rs=(doK l ops).2.1∧f1=(doK l ops).1.1∧f2=(doK l ops).1.2∧ls'=ls.set o (doK l ops).2.2)
theorem opsOk_good{ops:List OpA} (oo:OpsOk ops) {x:OpA} (hx:x∈ops):x.mvBad=false:=by
 unfold OpA.mvBad
 have h1:=oo.ok x hx
 have h2:=oo.k6 x hx
 simp[h1,h2]
theorem first_at{α:Type} {p:α→Prop} {l:List α} {i j:Nat} {x y:α} (hx:l[i]? = some x)(hy:l[j]? = some y)(px:p x)(py:p y)(bx:∀ z∈l.take i,¬ p z)(by':∀ z∈l.take j,¬ p z):i=j:=by
 rcases Nat.lt_trichotomy i j with h|h|h
 ·exact absurd px (by' x (List.mem_of_getElem? (show(l.take j)[i]? = some x by rw[List.getElem?_take_of_lt h];exact hx)))
 ·exact h
 ·exact absurd py (bx y (List.mem_of_getElem? (show(l.take i)[j]? = some y by rw[List.getElem?_take_of_lt h];exact hy)))
theorem DoR.uniq{c:Chg} {ls:List (List RowA)} {ops:List OpA} {rs rs':List ResA} {f1 f2 f1' f2':Int} {l l':List (List RowA)} (a:DoR c ls ops rs f1 f2 l)(b:DoR c ls ops rs' f1' f2' l'):rs'=rs∧f1'=f1∧f2'=f2∧l'=l:=by
 rcases a with⟨h1,rfl,rfl,rfl,rfl⟩|⟨h1,h2,rfl,rfl,rfl,rfl⟩|⟨h1,h2,h3,rfl,rfl,rfl,rfl⟩|⟨h1,h2,h3,h4,i,x,hx,hb,hlo,rfl,rfl,rfl,rfl⟩|⟨h1,h2,oo,i,x,y,hx,hy,hne,hlo,rfl,rfl,rfl,rfl⟩|⟨h1,h2,oo,o,m,hm,ho,rfl,rfl,rfl,rfl⟩
 ·rcases b with⟨k1,rfl,rfl,rfl,rfl⟩|⟨k1,_⟩|⟨k1,_⟩|⟨k1,_⟩|⟨k1,_⟩|⟨k1,_⟩
  ·exact⟨rfl,rfl,rfl,rfl⟩
  all_goals rw[h1]at k1;cases k1
 ·rcases b with⟨k1,_⟩|⟨k1,_,rfl,rfl,rfl,rfl⟩|⟨k1,k2,_⟩|⟨k1,k2,_⟩|⟨k1,k2,_⟩|⟨k1,k2,_⟩
  ·rw[h1]at k1;cases k1
  ·exact⟨rfl,rfl,rfl,rfl⟩
  all_goals exact absurd k2 h2
 ·rcases b with⟨k1,_⟩|⟨k1,k2,_⟩|⟨k1,k2,k3,rfl,rfl,rfl,rfl⟩|⟨k1,k2,k3,k4,_⟩|⟨k1,k2,oo,_⟩|⟨k1,k2,oo,_⟩
  ·rw[h1]at k1;cases k1
  ·exact absurd h2 k2
  ·exact⟨rfl,rfl,rfl,rfl⟩
  ·omega
  all_goals
   obtain⟨o1,o2,_⟩:=oo
   omega
 ·rcases b with⟨k1,_⟩|⟨k1,k2,_⟩|⟨k1,k2,k3,_⟩|⟨k1,k2,k3,k4,j,y,hy,hb',hlo',rfl,rfl,rfl,rfl⟩|⟨k1,k2,oo,_⟩|⟨k1,k2,oo,_⟩
  ·rw[h1]at k1;cases k1
  ·exact absurd h2 k2
  ·omega
  ·have:=first_at (p:=fun z:OpA=>z.mvBad=true) hx hy hb hb' (fun z hz h=>by rw[hlo z hz]at h;cases h) (fun z hz h=>by rw[hlo' z hz]at h;cases h)
   subst this
   exact⟨rfl,rfl,rfl,rfl⟩
  all_goals
   have:=opsOk_good oo (List.mem_of_getElem? hx)
   rw[hb]at this
   cases this
 ·rcases b with⟨k1,_⟩|⟨k1,k2,_⟩|⟨k1,k2,k3,_⟩|⟨k1,k2,k3,k4,j,z,hz,hb',_⟩|⟨k1,k2,oo',j,x',y',hx',hy',hne',hlo',rfl,rfl,rfl,rfl⟩|⟨k1,k2,oo',o,m,hm,ho,_⟩
  ·rw[h1]at k1;cases k1
  ·exact absurd h2 k2
  ·obtain⟨o1,o2,_⟩:=oo
   omega
  ·have:=opsOk_good oo (List.mem_of_getElem? hz)
   rw[hb']at this
   cases this
  ·rw[hy]at hy'
   obtain rfl:=Option.some.inj hy'
   have:=first_at (p:=fun z:OpA=>c.owner z.key≠c.owner y.key) hx hx' hne hne' (fun z hz h=>h (hlo z hz)) (fun z hz h=>h (hlo' z hz))
   subst this
   exact⟨rfl,rfl,rfl,rfl⟩
  ·exact absurd ((ho x (List.mem_of_getElem? hx)).trans (ho y (List.mem_of_getElem? hy)).symm) hne
 ·rcases b with⟨k1,_⟩|⟨k1,k2,_⟩|⟨k1,k2,k3,_⟩|⟨k1,k2,k3,k4,j,z,hz,hb',_⟩|⟨k1,k2,oo',j,x',y',hx',hy',hne',_⟩|⟨k1,k2,oo',o',m',hm',ho',rfl,rfl,rfl,rfl⟩
  ·rw[h1]at k1;cases k1
  ·exact absurd h2 k2
  ·obtain⟨o1,o2,_⟩:=oo
   omega
  ·have:=opsOk_good oo (List.mem_of_getElem? hz)
   rw[hb']at this
   cases this
  ·exact absurd ((ho x' (List.mem_of_getElem? hx')).trans (ho y' (List.mem_of_getElem? hy')).symm) hne'
  ·obtain⟨o1,o2,_⟩:=oo
   have hg:=List.getElem?_eq_getElem (show 0<ops.length by omega)
   have e:=(ho _ (List.mem_of_getElem? hg)).symm.trans (ho' _ (List.mem_of_getElem? hg))
   obtain rfl:o=o':=by omega
   rw[hm]at hm'
   obtain rfl:=Option.some.inj hm'
   exact⟨rfl,rfl,rfl,rfl⟩
theorem mvDoR_call(G:Nat→Option AV)(hG:GTab G)(c:Chg) (W1 W2 a a2:AV) (ps:List Nat)(ls:List (List RowA)) (ops:List OpA)(h:AH) (K:AV→AH→Prop)(k1:∀ H,Wt H W1 c.was.wts)(k2:∀ H,Wt H W2 c.will.wts)(l1:c.was.wts.length≤17592186044415)(l2:c.will.wts.length≤17592186044415)(hcl:c.cur.length≤4611686018427387904)
  (T:TabsAt h a ps ls)(hnd:ps.Nodup)(hl:ls.length≤1000)(hkey:∀ l∈ls,∀ r∈l,r.key.length≤4611686018427387904)(hlen:∀ l∈ls,l.length≤10000)
  (ha:∀ H,Grew h H→Sees H 6 a2 (ops.map OpA.cells))(hol:ops.length≤4611686018427387904)(hkl:∀ x∈ops,x.key.length≤4611686018427387904∧x.val.length≤4611686018427387904)
  (hk:∀ rs f1 f2 ls' v h',DoR c ls ops rs f1 f2 ls'→TabsAt h' a ps ls'→Buts ps h h'→Mine 157 4 h' v (rs.map ResA.cells)→K (.tup [v, .agg [.v (.int .i64 f1), .v (.int .i64 f2)]]) h') :
  SCall Tryz.prog G 36 [.agg (c.cells W1 W2),a,a2] h K:=by
 refine mvDoG_call G hG c W1 W2 a a2 ps ls ops h K (fun H _=>k1 H) (fun H _=>k2 H) l1 l2 hcl T hnd hl hkey hlen ha hol hkl (fun h1 t=>?_) (fun h1 h2 t=>?_) (fun h1 h2 h3 t=>?_) (fun h1 h2 h3 h4 i x hx hb hlo t=>?_) (fun h1 h2 oo i x y hx hy hne hlo t=>?_) (fun h1 h2 oo o l hl ho v h' T' b' mv=>?_)
 ·exact hk [] 0 70 ls _ _ (.inl ⟨h1,rfl,rfl,rfl,rfl⟩) (T.grew (Grew.app t)) (Buts.grew (Grew.app t)) .nil
 ·exact hk [] 0 4 ls _ _ (.inr (.inl ⟨h1,h2,rfl,rfl,rfl,rfl⟩)) (T.grew (Grew.app t)) (Buts.grew (Grew.app t)) .nil
 ·exact hk [] 0 80 ls _ _ (.inr (.inr (.inl ⟨h1,h2,h3,rfl,rfl,rfl,rfl⟩))) (T.grew (Grew.app t)) (Buts.grew (Grew.app t)) .nil
 ·exact hk [] i 80 ls _ _ (.inr (.inr (.inr (.inl ⟨h1,h2,h3,h4,i,x,hx,hb,hlo,rfl,rfl,rfl,rfl⟩)))) (T.grew (Grew.app t)) (Buts.grew (Grew.app t)) .nil
 ·exact hk [] i 220 ls _ _ (.inr (.inr (.inr (.inr (.inl ⟨h1,h2,oo,i,x,y,hx,hy,hne,hlo,rfl,rfl,rfl,rfl⟩))))) (T.grew (Grew.app t)) (Buts.grew (Grew.app t)) .nil
 ·exact hk _ _ _ _ v h' (.inr (.inr (.inr (.inr (.inr ⟨h1,h2,oo,o,l,hl,ho,rfl,rfl,rfl,rfl⟩))))) T' b' mv
theorem refDoR_call(G:Nat→Option AV)(c:Chg) (W1 W2 a a2:AV) (qs:List Nat)(ls:List (List RowA)) (ops:List OpA)(h:AH) (K:AV→AH→Prop)(k1:∀ h,Wt h W1 c.was.wts)(k2:∀ h,Wt h W2 c.will.wts)(l1:c.was.wts.length≤17592186044415)(l2:c.will.wts.length≤17592186044415)(hcl:c.cur.length≤4611686018427387904)
  (T:RTabs h a qs ls)(hnd:qs.Nodup)(hl:ls.length≤1000)(hkey:∀ l∈ls,∀ r∈l,r.key.length≤4611686018427387904)(hlen:∀ l∈ls,l.length≤10000)
  (ha:∀ H,Buts qs h H→Sees H 6 a2 (ops.map OpA.cells))(hol:ops.length≤4611686018427387904)(hkl:∀ x∈ops,x.key.length≤4611686018427387904∧x.val.length≤4611686018427387904)
  (hk:∀ rs f1 f2 ls' v h',DoR c ls ops rs f1 f2 ls'→RTabs h' a qs ls'→Buts qs h h'→Mine 157 4 h' v (rs.map ResA.cells)→K (.tup [v, .agg [.v (.int .i64 f1), .v (.int .i64 f2)]]) h') :
  SCall Tryz.prog G 37 [.agg (c.cells W1 W2),a,a2] h K:=by
 refine refDo22_call G c W1 W2 a a2 qs ls ops h K k1 k2 l1 l2 hcl T hnd hl hkey hlen ha hol hkl (fun h1 H g=>?_) (fun h1 h2 H g=>?_) (fun h1 h2 h3 H g=>?_) (fun h1 h2 h3 h4 i x hx hb hlo H g=>?_) (fun h1 h2 oo i x y hx hy hne hlo H g=>?_) (fun h1 h2 oo o l hl ho v h' T' b' mv=>?_)
 ·exact hk [] 0 70 ls _ _ (.inl ⟨h1,rfl,rfl,rfl,rfl⟩) (T.grew g) (Buts.grew g) .nil
 ·exact hk [] 0 4 ls _ _ (.inr (.inl ⟨h1,h2,rfl,rfl,rfl,rfl⟩)) (T.grew g) (Buts.grew g) .nil
 ·exact hk [] 0 80 ls _ _ (.inr (.inr (.inl ⟨h1,h2,h3,rfl,rfl,rfl,rfl⟩))) (T.grew g) (Buts.grew g) .nil
 ·exact hk [] i 80 ls _ _ (.inr (.inr (.inr (.inl ⟨h1,h2,h3,h4,i,x,hx,hb,hlo,rfl,rfl,rfl,rfl⟩)))) (T.grew g) (Buts.grew g) .nil
 ·exact hk [] i 220 ls _ _ (.inr (.inr (.inr (.inr (.inl ⟨h1,h2,oo,i,x,y,hx,hy,hne,hlo,rfl,rfl,rfl,rfl⟩))))) (T.grew g) (Buts.grew g) .nil
 ·exact hk _ _ _ _ v h' (.inr (.inr (.inr (.inr (.inr ⟨h1,h2,oo,o,l,hl,ho,rfl,rfl,rfl,rfl⟩))))) T' b' mv
end Go.Proofs
namespace Go.Proofs
open Go Go.Abs
set_option maxRecDepth 100000
set_option linter.unusedSimpArgs false
structure ActA where
 n:Int
 ops:List OpA
 av:AV
abbrev ActA.cells(x:ActA):List AV:= [.v (.int .i64 x.n),x.av]
structure ActA.Ok (x:ActA):Prop where
 rng : -9223372036854775808≤x.n∧x.n≤9223372036854775807
 sees:∀ h,Sees h 6 x.av (x.ops.map OpA.cells)
 len:x.ops.length≤2199023255488
 kl:∀ o∈x.ops,o.key.length≤140737488351232∧o.val.length≤140737488351232
 one:x.av.one=true
 cel:x.av.cells = [x.av]
 nn:∀ r f,x.av ≠ .lst r f false
 ns:¬ ∃ s,x.av = .v (.string s)
theorem in_op{r:List AV} (h:In Tryz.prog 89 r):∃ x:OpA,r=x.cells∧x.key.length≤140737488351232∧x.val.length≤140737488351232:=by
 obtain⟨hl,hf⟩:=in_struct Tryz.und89 h
 rw[show Tryz.prog.cellsOf 89=6 by kernel_rfl]at hl
 have c3:Tryz.prog.cellsOf 3=1:=by kernel_rfl
 have c9:Tryz.prog.cellsOf 9=1:=by kernel_rfl
 have hr:reachBytes=140737488351232+0:=by decide
 match r,hl with
 | [x0,x1,x2,x3,x4,x5],_=>
  simp only[List.mem_cons,List.not_mem_nil,or_false,forall_eq_or_imp,forall_eq,c3,c9,List.drop_zero,List.drop_succ_cons,List.take_succ_cons,List.take_zero]at hf
  obtain⟨f0,f1,f2,f3,f4,f5⟩:=hf
  obtain⟨n0,h0,_⟩:=in_int Tryz.und3 f0
  obtain⟨s,h1,h2⟩:=in_str Tryz.und9 f1
  obtain⟨u,h4,h5⟩:=in_str Tryz.und9 f2
  obtain⟨n3,h6,_⟩:=in_int Tryz.und3 f3
  obtain⟨n4,h7,_⟩:=in_int Tryz.und3 f4
  obtain⟨n5,h8,_⟩:=in_int Tryz.und3 f5
  simp only[List.cons.injEq,and_true]at h0 h1 h4 h6 h7 h8
  have h9:s.data.toList.length=s.size:=rfl
  have h10:u.data.toList.length=u.size:=rfl
  exact⟨⟨n0,s.data.toList,u.data.toList,n3,n4,n5⟩,by rw[h0,h1,h4,h6,h7,h8],by simp only;omega,by simp only;omega⟩
theorem in_ops{xs:List AV} (hx:In Tryz.prog 72 xs):∃(a:AV) (ops:List OpA),xs = [a]∧a.one=true∧a.cells = [a]∧(∀ h,Sees h 6 a (ops.map OpA.cells))∧ops.length≤2199023255488∧(∀ r∈ops,r.key.length≤140737488351232∧r.val.length≤140737488351232)∧(¬ ∃ s,a = .v (.string s))∧∀ r f,a ≠ .lst r f false:=by
 have hr:reachBytes=140737488351232+0:=by decide
 rcases in_slice Tryz.und72 hx with rfl|⟨rows,rfl,h1,h2,h3,h4⟩
 ·exact⟨_, [],rfl,rfl,rfl,fun h=>Sees.nil,by simp,by simp,(by rintro⟨s,hs⟩;cases hs),by simp⟩
 ·have hb:Tryz.prog.bytesOf 89=64:=by kernel_rfl
  rw[hb]at h3
  have key:∀ rows:List (List AV),(∀ r∈rows,In Tryz.prog 89 r)→∃ l:List OpA,rows=l.map OpA.cells∧l.length=rows.length∧∀ r∈l,r.key.length≤140737488351232∧r.val.length≤140737488351232:=by
   intro rows
   induction rows with
   | nil=>intro _;exact⟨[],rfl,rfl,by simp⟩
   | cons r rows ih=>
    intro h
    obtain⟨x,x1,x2,x3⟩:=in_op (h r (by simp))
    obtain⟨l,k1,k2,k3⟩:=ih fun r hr=>h r (by simp[hr])
    refine⟨x::l,by rw[x1,k1];rfl,by simp[k2],fun y hy=>?_⟩
    rcases List.mem_cons.mp hy with rfl|hy
    ·exact⟨x2,x3⟩
    ·exact k3 y hy
  obtain⟨l,k1,k2,k3⟩:=key rows h2
  refine⟨_,l,rfl,rfl,rfl,fun h=>?_,by omega,k3,(by rintro⟨s,hs⟩;cases hs),by simp⟩
  rw[k1]
  exact Sees.lst (by intro r hr;obtain⟨z,_,rfl⟩:=List.mem_map.mp hr;rfl)
theorem in_acts{xs:List AV} (hx:In Tryz.prog 64 xs):∃(a:AV) (acts:List ActA),xs = [a]∧(∀ h,Sees h 2 a (acts.map ActA.cells))∧acts.length≤8796093022207∧∀ x∈acts,x.Ok:=by
 have hr:reachBytes=140737488351232+0:=by decide
 rcases in_slice Tryz.und64 hx with rfl|⟨rows,rfl,h1,h2,h3,h4⟩
 ·exact⟨_, [],rfl,fun h=>Sees.nil,by simp,by simp⟩
 ·have hb:Tryz.prog.bytesOf 74=32:=by kernel_rfl
  rw[hb]at h3
  have c3:Tryz.prog.cellsOf 3=1:=by kernel_rfl
  have c9:Tryz.prog.cellsOf 72=1:=by kernel_rfl
  have key:∀ rows:List (List AV),(∀ r∈rows,In Tryz.prog 74 r)→∃ l:List ActA,rows=l.map ActA.cells∧l.length=rows.length∧∀ x∈l,x.Ok:=by
   intro rows
   induction rows with
   | nil=>intro _;exact⟨[],rfl,rfl,by simp⟩
   | cons r rows ih=>
    intro h
    obtain⟨hl,hf⟩:=in_struct Tryz.und74 (h r (by simp))
    rw[show Tryz.prog.cellsOf 74=2 by kernel_rfl]at hl
    obtain⟨l,k1,k2,k3⟩:=ih fun r hr=>h r (by simp[hr])
    match r,hl with
    | [x0,x1],_=>
     simp only[List.mem_cons,List.not_mem_nil,or_false,forall_eq_or_imp,forall_eq,c3,c9,List.drop_zero,List.drop_succ_cons,List.take_succ_cons,List.take_zero]at hf
     obtain⟨f0,f1⟩:=hf
     obtain⟨n,h0,hn⟩:=in_int Tryz.und3 f0
     obtain⟨b,ops,h5,o1,o2,o3,o4,o5,o6,o7⟩:=in_ops f1
     simp only[List.cons.injEq,and_true]at h0 h5
     refine⟨⟨n,ops,b⟩::l,by rw[h0,h5,k1];rfl,by simp[k2],fun y hy=>?_⟩
     rcases List.mem_cons.mp hy with rfl|hy
     ·exact⟨int_range hn,o3,(by simp only;omega),o5,o1,o2,o7,o6⟩
     ·exact k3 y hy
  obtain⟨l,k1,k2,k3⟩:=key rows h2
  refine⟨_,l,rfl,fun h=>?_,by omega,k3⟩
  rw[k1]
  exact Sees.lst (by intro r hr;obtain⟨z,_,rfl⟩:=List.mem_map.mp hr;rfl)
end Go.Proofs
namespace Go.Proofs
open Go Go.Abs
set_option maxRecDepth 100000
set_option linter.unusedSimpArgs false
theorem neqFault(a b a' b':Int):aBin Tryz.prog .neq 80 (.agg [.v (.int .i64 a), .v (.int .i64 b)]) (.agg [.v (.int .i64 a'), .v (.int .i64 b')])=some (.v (.bool (!(a==a'&&(b==b'&&true))))):=by kernel_rfl
section
variable (G:Nat→Option AV)(c0:Chg) (W1 W2 a2 v19:AV) (u i8:Nat) (ps:List Nat) (acts:List ActA)(h h32:AH) (K:AV→AH→Prop)
end
end Go.Proofs
namespace Go.Proofs
open Go Go.Abs
set_option maxRecDepth 100000
set_option linter.unusedSimpArgs false
open Classical in
noncomputable def checkE (c:Chg) (ls:List (List RowA)):Int:=if c.ok=false then 70 else if ls.length≠c.will.wts.length then 4 else if ApartT c ls then 0 else 220
theorem mvCheckE_call(G:Nat→Option AV)(hG:GTab G)(c:Chg) (W1 W2 a:AV) (ps:List Nat)(ls:List (List RowA))(h:AH) (K:AV→AH→Prop)(k1:Wt h W1 c.was.wts)(k2:Wt h W2 c.will.wts)(hl1:c.was.wts.length≤17592186044415)(hl2:c.will.wts.length≤17592186044415)(hcl:c.cur.length≤4611686018427387904)(T:TabsAt h a ps ls)(hl:ls.length≤1000)(hnd:ps.Nodup)(hkey:∀ l∈ls,∀ r∈l,r.key.length≤4611686018427387904)
  (hk:K (.v (.int .i64 (checkE c ls))) h):SCall Tryz.prog G 24 [.agg (c.cells W1 W2),a] h K:=by
 unfold checkE at hk
 refine mvCheck_call G hG c W1 W2 a ps ls h K k1 k2 hl1 hl2 hcl T hl hnd hkey (fun h1=>?_) (fun h1 h2=>?_) (fun h1 h2 h3=>?_) (fun h1 h2 h3=>?_)
 ·rw[if_pos h1]at hk;exact hk
 ·rw[if_neg (by simp[h1]),if_pos h2]at hk;exact hk
 ·rw[if_neg (by simp[h1]),if_neg (by simp[h2]),if_neg h3]at hk;exact hk
 ·rw[if_neg (by simp[h1]),if_neg (by simp[h2]),if_pos h3]at hk;exact hk
theorem refCheckE_call(G:Nat→Option AV)(c:Chg) (W1 W2 b:AV) (qs:List Nat)(ls:List (List RowA))(h:AH) (K:AV→AH→Prop)(k1:Wt h W1 c.was.wts)(k2:Wt h W2 c.will.wts)(hl1:c.was.wts.length≤17592186044415)(hl2:c.will.wts.length≤17592186044415)(hcl:c.cur.length≤4611686018427387904)(T:RTabs h b qs ls)(hl:ls.length≤1000)(hkey:∀ l∈ls,∀ r∈l,r.key.length≤4611686018427387904)
  (hk:∀ t,K (.v (.int .i64 (checkE c ls))) (h++t)):SCall Tryz.prog G 32 [.agg (c.cells W1 W2),b] h K:=by
 unfold checkE at hk
 refine refCheck22_call G c W1 W2 b qs ls h K k1 k2 hl1 hl2 hcl T hl hkey (fun h1=>?_) (fun h1 h2=>?_) (fun h1 h2 h3=>?_) (fun h1 h2 h3=>?_)
 ·rw[if_pos h1]at hk;exact hk
 ·rw[if_neg (by simp[h1]),if_pos h2]at hk;exact hk
 ·rw[if_neg (by simp[h1]),if_neg (by simp[h2]),if_neg h3]at hk;exact hk
 ·rw[if_neg (by simp[h1]),if_neg (by simp[h2]),if_pos h3]at hk;exact hk
theorem neqErr(e:Int):aBin Tryz.prog .neq 24 (.v (.int .i64 e)) (.v (.int .i64 e))=some (.v (.bool false)):=by
 have:(e != e)=false:=by simp
 have h:aBin Tryz.prog .neq 24 (.v (.int .i64 e)) (.v (.int .i64 e))=some (.v (.bool (e != e))):=by kernel_rfl
 rw[h,this]
theorem neqInt(e:Int):aBin Tryz.prog .neq 3 (.v (.int .i64 e)) (.v (.int .i64 e))=some (.v (.bool false)):=by
 have:(e != e)=false:=by simp
 have h:aBin Tryz.prog .neq 3 (.v (.int .i64 e)) (.v (.int .i64 e))=some (.v (.bool (e != e))):=by kernel_rfl
 rw[h,this]
theorem StepErr.uniq{c:Chg} {ls:List (List RowA)} {m e e':Int} (a:StepErr c ls m e)(b:StepErr c ls m e'):e'=e:=by
 unfold StepErr at a b
 rcases a with⟨h1,rfl⟩|⟨h1,h2,rfl⟩|⟨h1,h2,h3,rfl⟩|⟨h1,h2,h3,h4,rfl⟩ <;> rcases b with⟨k1,rfl⟩|⟨k1,k2,rfl⟩|⟨k1,k2,k3,rfl⟩|⟨k1,k2,k3,k4,rfl⟩ <;> first|rfl|(rw[h1]at k1;cases k1;done)|exact absurd k2 h2|exact absurd h2 k2|exact absurd k3 h3|exact absurd h3 k3
theorem StepErr.no{c:Chg} {ls:List (List RowA)} {m e:Int} (a:StepErr c ls m e)(h1:c.ok=true)(h2:ls.length=c.will.wts.length)(h3:ApartT c ls)(h4:c.fin=false)(h5:1≤m):False:=by
 rcases a with⟨k1,_⟩|⟨_,k2,_⟩|⟨_,_,k3,_⟩|⟨_,_,_,k4,_⟩
 ·rw[h1]at k1;cases k1
 ·exact k2 h2
 ·exact k3 h3
 ·rcases k4 with k4|k4
  ·rw[h4]at k4;cases k4
  ·omega
theorem StepErr.ne{c:Chg} {ls:List (List RowA)} {m e:Int} (a:StepErr c ls m e):(e==0)=false:=by
 rcases a with⟨_,rfl⟩|⟨_,_,rfl⟩|⟨_,_,_,rfl⟩|⟨_,_,_,_,rfl⟩ <;> rfl
theorem RTabs.butsT{h H:AH} {a v:AV} {ps qs:List Nat} {ls ms:List (List RowA)} (R:RTabs h v qs ms)(T:TabsAt h a ps ls)(b:Buts ps h H):RTabs H v qs ms:=by
 refine⟨R.own.keep fun id r g hi=>T.keepO b (by decide) hi,R.len,fun i p l hp hl=>?_⟩
 have Tp:=R.tab i p l hp hl
 obtain⟨x,hx,_⟩:=Tp.ex
 exact Tp.keep ((T.keepO b (by decide) hx).trans hx.symm) ⟨b.1,fun id r g hi=>T.keepO b (by decide) hi⟩
theorem TabsAt.butsR{h H:AH} {a v:AV} {ps qs:List Nat} {ls ms:List (List RowA)} (T:TabsAt h a ps ls)(R:RTabs h v qs ms)(b:Buts qs h H):TabsAt H a ps ls:=by
 refine⟨T.own.keep fun id r g hi=>R.keepO b (by decide) hi,T.len,fun i p l hp hl=>?_⟩
 have Tp:=T.tab i p l hp hl
 obtain⟨x,hx,_⟩:=Tp.ex
 exact Tp.keep ((R.keepO b (by decide) hx).trans hx.symm) ⟨b.1,fun id r g hi=>R.keepO b (by decide) hi⟩
structure PlaySt (H:AH)(c0:Chg) (W1 W2 v12 v13:AV) (i24 i26:Nat) (ps qs:List Nat)(ls:List (List RowA))(c:Chg):Prop where
 oM:H[i24]? = some (some (.cells 49 6 [c.cells W1 W2] 0))
 oR:H[i26]? = some (some (.cells 68 6 [c.cells W1 W2] 0))
 T:TabsAt H v12 ps ls
 R:RTabs H v13 qs ls
 w1:c.was=c0.was
 w2:c.will=c0.will
 cur:c.cur.length≤4611686018427387904
 may:∀ l∈ls,∀ r∈l,r.may=true
 few:ls.length≤12
theorem PlaySt.grew{H H':AH} {c0 c:Chg} {W1 W2 v12 v13:AV} {i24 i26:Nat} {ps qs:List Nat} {ls:List (List RowA)} (k:PlaySt H c0 W1 W2 v12 v13 i24 i26 ps qs ls c)(g:Grew H H'):PlaySt H' c0 W1 W2 v12 v13 i24 i26 ps qs ls c:=
 ⟨g.get k.oM,g.get k.oR,k.T.grew g,k.R.grew g,k.w1,k.w2,k.cur,k.may,k.few⟩
theorem set_flat_len{α:Type} {R:List (List α)} {o:Nat} {l m:List α} (h:R[o]? = some l):(R.set o m).flatten.length+l.length=R.flatten.length+m.length:=by
 obtain⟨hlt,he⟩:=List.getElem?_eq_some_iff.mp h
 have e1:R=R.take o++l::R.drop (o+1):=by
  rw[← he,List.getElem_cons_drop,List.take_append_drop]
 have e2:R.set o m=R.take o++m::R.drop (o+1):=List.set_eq_take_append_cons_drop.trans (by rw[if_pos hlt])
 rw[e2]
 conv=>rhs;rw[e1]
 simp only[List.flatten_append,List.flatten_cons,List.length_append]
 omega
theorem DoR.out{c:Chg} {ls:List (List RowA)} {ops:List OpA} {rs:List ResA} {f1 f2:Int} {ls':List (List RowA)} (d:DoR c ls ops rs f1 f2 ls')(hr:AllRise ls)(hm:∀ l∈ls,∀ r∈l,r.may=true):ls'.length=ls.length∧(∀ l∈ls',∀ r∈l,r.may=true)∧ls'.flatten.length≤ls.flatten.length+32∧rs.length≤32:=by
 rcases d with⟨_,rfl,_,_,rfl⟩|⟨_,_,rfl,_,_,rfl⟩|⟨_,_,_,rfl,_,_,rfl⟩|⟨_,_,_,_,_,_,_,_,_,rfl,_,_,rfl⟩|⟨_,_,_,_,_,_,_,_,_,_,rfl,_,_,rfl⟩|⟨_,_,oo,o,l,hl,_,rfl,_,_,rfl⟩
 iterate 5 exact⟨rfl,hm,by omega,by simp⟩
 have hrl:=hr o l hl
 have hml:=hm l (List.mem_of_getElem? hl)
 have h1:=doK_may ops hrl hml fun y hy=>⟨oo.ok y hy,oo.k6 y hy⟩
 have h2:=doK_len ops l
 have h3:=doK_resl ops l
 have h4:=set_flat_len (m:=(doK l ops).2.2) hl
 have h5:=oo.most
 refine⟨by rw[List.length_set],fun k hk r hr=>?_,by omega,by omega⟩
 rcases List.mem_or_eq_of_mem_set hk with hk|rfl
 ·exact hm k hk r hr
 ·exact h1 r hr
section
variable (G:Nat→Option AV)(c0:Chg) (W1 W2 a1 v12 v13:AV) (i24 i26:Nat) (ps qs:List Nat)(h h75:AH) (K:AV→AH→Prop)
theorem playJoin(hG:GTab G)(k1:∀ h,Wt h W1 c0.was.wts)(k2:∀ h,Wt h W2 c0.will.wts)(l1:c0.was.wts.length≤17592186044415)(l2:c0.will.wts.length≤17592186044415)(hnd:ps.Nodup) (I79:Nat→List AV→AH→Prop) (m81 n:Nat)(hn:n≤40)(H:AH)(ls:List (List RowA))(c:Chg)(st:PlaySt H c0 W1 W2 v12 v13 i24 i26 ps qs ls c)(htot:ls.flatten.length≤2000)
  (hnext:∀ H' ks,PlaySt H' c0 W1 W2 v12 v13 i24 i26 ps qs ls c→H.length≤H'.length→nextR h75 I79 m81 ks ks [.v (.int .i64 ((n+1:Nat):Int))] H') :
  Tryz.r5_j91 K h G a1 v12 v13 i24 i26 h75 I79 m81 (n:Int) H:=by
 unfold Tryz.r5_j91
 have w11:=(k1 H).one
 have w12:=(k1 H).cells
 have w21:=(k2 H).one
 have w22:=(k2 H).cells
 have k1':∀ H,Wt H W1 c.was.wts:=fun H=>by rw[st.w1];exact k1 H
 have k2':∀ H,Wt H W2 c.will.wts:=fun H=>by rw[st.w2];exact k2 H
 have hl1:c.was.wts.length≤17592186044415:=by rw[st.w1];exact l1
 have hl2:c.will.wts.length≤17592186044415:=by rw[st.w2];exact l2
 have few:=st.few
 have ew:IntKind.i64.wrap ((n:Int)+1)=((n+1:Nat):Int):=by rw[wrap64_of (by omega) (by omega)];omega
 have hkey:∀ l∈ls,∀ r∈l,r.key.length≤4611686018427387904:=fun l hl r hr=>by have:=(may_len (st.may l hl r hr)).2.1;omega
 refine⟨sameTables_call G v12 v13 ps qs ls H _ st.T st.R (by omega) (fun l hl=>by have:=mem_flat_le hl;omega) fun H1 g1=>?_⟩
 have st1:=st.grew g1
 have oM:=st1.oM
 have oR:=st1.oR
 simp (disch:=omega)only[go_sem,Bool.not_true,oM,oR,w11,w12,w21,w22]
 refine⟨mvCheckE_call G hG c W1 W2 v12 ps ls H1 _ (k1' _) (k2' _) hl1 hl2 st.cur st1.T (by omega) hnd hkey ?_⟩
 simp (disch:=omega)only[go_sem,oR,w11,w12,w21,w22]
 refine⟨refCheckE_call G c W1 W2 v13 qs ls H1 _ (k1' _) (k2' _) hl1 hl2 st.cur st1.R (by omega) hkey fun t=>?_⟩
 simp (disch:=omega)only[go_sem,neqErr,ew]
 exact hnext _ _ (st1.grew (Grew.app t)) (by have:=g1.len;simp;omega)
theorem playLoop(acts:List ActA)(hG:GTab G)(k1:∀ h,Wt h W1 c0.was.wts)(k2:∀ h,Wt h W2 c0.will.wts)(l1:c0.was.wts.length≤17592186044415)(l2:c0.will.wts.length≤17592186044415)(hnd:ps.Nodup)(hndq:qs.Nodup)(ha:∀ h,Sees h 2 a1 (acts.map ActA.cells))(hal:acts.length≤8796093022207)(haok:∀ x∈acts,x.Ok)(ls:List (List RowA))(c:Chg)(st:PlaySt h75 c0 W1 W2 v12 v13 i24 i26 ps qs ls c)(htot:ls.flatten.length≤720)(hk:∀ H,K (.v (.bool true)) H) :
  Tryz.r5_l10_79 K h G a1 v12 v13 i24 i26 h75 0:=by
 unfold Tryz.r5_l10_79
 have e0:(ByteArray.mk #[])=bs []:=rfl
 have la:∀ H,aLen Tryz.prog H 64 a1=some (.v (.int .i64 acts.length)):=fun H=>by
  have:=(ha H).len (P:=Tryz.prog) (t:=64) Tryz.und64
  rw[List.length_map]at this
  exact this
 refine⟨fun m vs H=>∃(n:Nat) (ls:List (List RowA)) (c:Chg),n≤40∧n≤acts.length∧m=40-n∧PlaySt H c0 W1 W2 v12 v13 i24 i26 ps qs ls c∧ls.flatten.length≤720+32*n∧vs = [.v (.int .i64 n)],40,⟨0,ls,c,by omega,by omega,rfl,st,by omega,rfl⟩,?_⟩
 clear st htot
 clear ls c
 rintro m H hl1 hlow2 y ⟨n,ls,c,hn,hna,rfl,st,hSl,hvs⟩
 simp only[List.cons.injEq,AV.v.injEq,Value.int.injEq,true_and,and_true]at hvs
 subst hvs
 by_cases hlt:n<acts.length
 rotate_left
 ·simp (disch:=omega)only[go_sem,la]
  refine⟨mvWorks_call G hG _ _ fun H' gW=>?_⟩
  simp (disch:=omega)only[go_sem]
  exact ret_keep (hk _)
 by_cases h40:n<40
 rotate_left
 ·simp (disch:=omega)only[go_sem,la]
  refine⟨mvWorks_call G hG _ _ fun H' gW=>?_⟩
  simp (disch:=omega)only[go_sem]
  exact ret_keep (hk _)
 obtain⟨x,hx⟩:∃ x,acts[n]? = some x:=⟨_,List.getElem?_eq_getElem hlt⟩
 have xok:=haok x (List.mem_of_getElem? hx)
 have x1:=xok.one
 have x2:=xok.cel
 have w11:=(k1 H).one
 have w12:=(k1 H).cells
 have w21:=(k2 H).one
 have w22:=(k2 H).cells
 have k1':∀ H,Wt H W1 c.was.wts:=fun H=>by rw[st.w1];exact k1 H
 have k2':∀ H,Wt H W2 c.will.wts:=fun H=>by rw[st.w2];exact k2 H
 have hl1':c.was.wts.length≤17592186044415:=by rw[st.w1];exact l1
 have hl2':c.will.wts.length≤17592186044415:=by rw[st.w2];exact l2
 have few:=st.few
 have hcur:=st.cur
 have hkey:∀ l∈ls,∀ r∈l,r.key.length≤4611686018427387904:=fun l hl r hr=>by have:=(may_len (st.may l hl r hr)).2.1;omega
 have hlen:∀ l∈ls,l.length≤10000:=fun l hl=>by have:=mem_flat_le hl;omega
 obtain⟨q,q1,q2,q3⟩:=(ha []).iaAll (P:=Tryz.prog) (ty:=64) (k:= .i64) (i:=(n:Int)) (r:=x.cells) Tryz.und64 Tryz.siz74 (by omega) (by simp[hx])
 obtain⟨v,v1,v2⟩:=q3 74 0 0 1 false Tryz.fld74_0 (by decide)
 obtain⟨u,u1,u2⟩:=q3 74 1 1 1 false Tryz.fld74_1 (by decide)
 have q1:∀ H,aIA Tryz.prog H 64 a1 (.v (.int .i64 (n:Int)))=some q:=fun H=>q1 H
 have v2:∀ H,aLoad Tryz.prog H 3 v=some (.v (.int .i64 x.n)):=fun H=>by
  have:=v2 H
  rw[List.nil_append]at this
  simp (disch:=omega)only[go_sem,this]
 have u2:∀ H,aLoad Tryz.prog H 72 u=some x.av:=fun H=>by
  have:=u2 H
  rw[List.nil_append]at this
  simp (disch:=omega)only[go_sem,this]
 have lo:∀ H,aLen Tryz.prog H 72 x.av=some (.v (.int .i64 x.ops.length)):=fun H=>by
  have:=(xok.sees H).len (P:=Tryz.prog) (t:=72) Tryz.und72
  rw[List.length_map]at this
  exact this
 have oM:=st.oM
 have oR:=st.oR
 have join:∀(I79:Nat→List AV→AH→Prop) (H':AH) (ls':List (List RowA)) (c':Chg),PlaySt H' c0 W1 W2 v12 v13 i24 i26 ps qs ls' c'→ls'.flatten.length≤720+32*(n+1)→(∀ H'' ks,PlaySt H'' c0 W1 W2 v12 v13 i24 i26 ps qs ls' c'→H'.length≤H''.length→nextR h75 I79 (40-n) ks ks [.v (.int .i64 ((n+1:Nat):Int))] H'')→Tryz.r5_j91 K h G a1 v12 v13 i24 i26 h75 I79 (40-n) (n:Int) H':=fun I79 H' ls' c' st' hl hnext=>
  playJoin G c0 W1 W2 a1 v12 v13 i24 i26 ps qs h h75 K hG k1 k2 l1 l2 hnd I79 (40-n) n (by omega) H' ls' c' st' (by omega) hnext
 have hsplit:((x.n != 0)=true∧True)∨((x.n != 0)=false∧((x.ops.length:Int)==0)=true)∨((x.n != 0)=false∧((x.ops.length:Int)==0)=false):=by
  cases (x.n != 0) <;> cases ((x.ops.length:Int)==0) <;> simp
 rcases hsplit with⟨z,l0⟩|⟨z,l0⟩|⟨z,l0⟩
 rotate_left 2
 ·have oM':∀ t,(H++t)[i24]? = some (some (.cells 49 6 [c.cells W1 W2] 0)):=fun t=>(Grew.app (h:=H) t).get oM
  simp (disch:=omega)only[go_sem,la,q1,v1,v2,u1,u2,lo,z,l0,oM,oM',w11,w12,w21,w22]
  have olen:=xok.len
  refine(Mine.obj (rows:= []) (id:=H.length) (g:=0) (by simp) (by simp:(H ++ [some (AO.cells 89 6 [] 0)])[H.length]? = _):Mine 89 6 (H ++ [some (AO.cells 89 6 [] 0)]) (.sl H.length 0 0 0 none) []).append (new:=x.ops.map OpA.cells) Tryz.und72 Tryz.azero89 Tryz.byt89 (by exact Tryz.plainSrc72) (xok.sees _).src (by simp) (fun hs=>absurd hs xok.ns) (by simp;omega) (by simp;omega) fun w H1 m1 hle1 st1=>?_
  simp only[List.length_append,List.length_cons,List.length_nil,List.nil_append]at hle1 m1
  have b1:∀ j,j<H.length→H1[j]? = H[j]? ∧ Off w j:=fun j hj=>by
   obtain⟨e1,e2⟩:=st1 j (by simp;omega) (fun id g o l c hx hid=>by simp only[AV.sl.injEq]at hx;omega)
   rw[e1,List.getElem?_append_left hj]
   exact⟨rfl,e2⟩
  have g1:Grew H H1:=Grew.mk (ext_of (by omega) fun j hj=>(b1 j hj).1)
  have sa:=st.grew g1
  have oM1:=sa.oM
  have y1:=m1.one
  have y2:=m1.cells
  have hkl:∀ o∈x.ops,o.key.length≤4611686018427387904∧o.val.length≤4611686018427387904:=fun o ho=>by have:=xok.kl o ho;omega
  simp (disch:=omega)only[go_sem,oM1,w11,w12,w21,w22]
  refine⟨mvDoR_call G hG c W1 W2 v12 w ps ls x.ops H1 _ k1' k2' hl1' hl2' (by omega) sa.T hnd (by omega) hkey hlen (fun H' g=>by obtain⟨t,rfl⟩:=g.ex;exact m1.sees.app t) (by omega) hkl fun rs f1 f2 ls1 v2' H2 dr T2 b2 mv=>?_⟩
  have hrise:AllRise ls:=fun i l hi=>by
   have:=(List.getElem?_eq_some_iff.mp hi).1
   have hpl:=st.T.len
   obtain⟨p,hp⟩:∃ p,ps[i]? = some p:=⟨_,List.getElem?_eq_getElem (by omega)⟩
   exact(st.T.tab i p l hp hi).rise
  obtain⟨d1,d2,d3,d4⟩:=dr.out hrise st.may
  have R2:=sa.R.butsT sa.T b2
  have oM2':=sa.T.keepO b2 (by decide) sa.oM
  have oR2':=sa.T.keepO b2 (by decide) sa.oR
  have oM2:∀ t,(H2++t)[i24]? = some (some (.cells 49 6 [c.cells W1 W2] 0)):=fun t=>(Grew.app (h:=H2) t).get oM2'
  have oR2:∀ t,(H2++t)[i26]? = some (some (.cells 68 6 [c.cells W1 W2] 0)):=fun t=>(Grew.app (h:=H2) t).get oR2'
  have n1:=mv.one
  have n2:=mv.cells
  simp (disch:=omega)only[go_sem,extV,q1,v1,v2,u1,u2,oM2,oR2,n1,n2,w11,w12,w21,w22,Nat.reduceAdd]
  obtain⟨H3,hH3⟩:∃ X,H2 ++ [some (AO.cells 80 2 [[.v (.int .i64 f1), .v (.int .i64 f2)]] 0)]=X:=⟨_,rfl⟩
  have g3:Grew H2 H3:=by rw[← hH3];exact Grew.app _
  have o214:H3[H2.length]? = some (some (.cells 80 2 [[.v (.int .i64 f1), .v (.int .i64 f2)]] 0)):=by rw[← hH3];simp
  have mv3:Mine 157 4 H3 v2' (rs.map ResA.cells):=by rw[← hH3];exact mv.more _
  rw[hH3]
  have R3:=R2.grew g3
  refine⟨refDoR_call G c W1 W2 v13 x.av qs ls x.ops H3 _ k1' k2' hl1' hl2' (by omega) R3 hndq (by omega) hkey hlen (fun H _=>xok.sees H) (by omega) hkl fun rs' f1' f2' ls2 v3 H4 dr' R4 b4 mv4=>?_⟩
  obtain⟨rfl,rfl,rfl,rfl⟩:=dr.uniq dr'
  have T4:=(T2.grew g3).butsR R3 b4
  have oM4':=R3.keepO b4 (by decide) (g3.get oM2')
  have oR4':=R3.keepO b4 (by decide) (g3.get oR2')
  have o214':=R3.keepO b4 (by decide) o214
  have mv34:Mine 157 4 H4 v2' (rs'.map ResA.cells):=mv3.keep fun id r g hi _=>R3.keepO b4 (by decide) hi
  have oM4:∀ t,(H4++t)[i24]? = some (some (.cells 49 6 [c.cells W1 W2] 0)):=fun t=>(Grew.app (h:=H4) t).get oM4'
  have oR4:∀ t,(H4++t)[i26]? = some (some (.cells 68 6 [c.cells W1 W2] 0)):=fun t=>(Grew.app (h:=H4) t).get oR4'
  have o214t:∀ t,(H4++t)[H2.length]? = some (some (.cells 80 2 [[.v (.int .i64 f1'), .v (.int .i64 f2')]] 0)):=fun t=>(Grew.app (h:=H4) t).get o214'
  have p1:=mv4.one
  have p2:=mv4.cells
  simp (disch:=omega)only[go_sem,extV,q1,v1,v2,u1,u2,oM4,oR4,o214t,p1,p2,w11,w12,w21,w22,Nat.reduceAdd]
  refine⟨sameRes_call G v2' v3 rs' _ _ (mv34.sees.app _) (mv4.sees.app _) (by omega) ?_⟩
  simp (disch:=omega)only[go_sem,Bool.not_true,o214t,neqFault,beq_self_eq_true,Bool.and_true]
  have b2l:=b2.1
  have g3l:=g3.len
  have b4l:=b4.1
  exact join _ _ ls2 c ((⟨oM4',oR4',T4,R4,st.w1,st.w2,st.cur,d2,by omega⟩:PlaySt H4 c0 W1 W2 v12 v13 i24 i26 ps qs ls2 c).grew (Grew.app _)) (by omega) fun H'' ks st' hle=>next_keep (40-(n+1)) (by omega) (by simp only[List.length_append]at hle;omega) ⟨n+1,ls2,c,by omega,by omega,rfl,st',by omega,rfl⟩
 all_goals
  simp (disch:=omega)only[go_sem,la,q1,v1,v2,u1,u2,lo,z,l0,oM,w11,w12,w21,w22]
  have hrg:=xok.rng
  refine⟨mvStep_call G hG c W1 W2 v12 ps ls x.n H _ (fun H _=>k1' H) (fun H _=>k2' H) hl1' hl2' (by omega) hrg.1 hrg.2 st.T hnd (by omega) st.may (by omega) (fun e t hE=>?_) (fun ho he hap hf hm S aS f lb H1 T1 b1=>?_)⟩
  ·obtain⟨H1,hH1⟩:∃ X,H++t=X:=⟨_,rfl⟩
   have g1:Grew H H1:=by rw[← hH1];exact Grew.app t
   rw[hH1]
   have st1:=st.grew g1
   have oM1:∀ t,(H1++t)[i24]? = some (some (.cells 49 6 [c.cells W1 W2] 0)):=fun t=>(Grew.app (h:=H1) t).get st1.oM
   have oR1:∀ t,(H1++t)[i26]? = some (some (.cells 68 6 [c.cells W1 W2] 0)):=fun t=>(Grew.app (h:=H1) t).get st1.oR
   simp (disch:=omega)only[go_sem,extV,q1,v1,v2,oM1,oR1,w11,w12,w21,w22,e0,Nat.reduceAdd]
   obtain⟨H2,hH2⟩:∃ X,H1 ++ [some (AO.cells 49 6 [zeroChg.cells nilA nilA] 0)]=X:=⟨_,rfl⟩
   have g2:Grew H1 H2:=by rw[← hH2];exact Grew.app _
   have o160:H2[H1.length]? = some (some (.cells 49 6 [zeroChg.cells nilA nilA] 0)):=by rw[← hH2];simp
   unfold Chg.cells at hH2
   rw[hH2]
   have st2:=st1.grew g2
   refine⟨refStep_call G c W1 W2 v13 qs ls x.n H2 _ k1' k2' hl1' hl2' (by omega) hrg.2 st2.R hndq (by omega) st.may (by omega) (fun e' H3 g3 hE'=>?_) (fun ho he hap hf hm S aS f lb H3 T3 b3=>(hE.no ho he hap hf hm).elim)⟩
   obtain rfl:=hE.uniq hE'
   have st3:=st2.grew g3
   have oM3:∀ t,(H3++t)[i24]? = some (some (.cells 49 6 [c.cells W1 W2] 0)):=fun t=>(Grew.app (h:=H3) t).get st3.oM
   have oR3:∀ t,(H3++t)[i26]? = some (some (.cells 68 6 [c.cells W1 W2] 0)):=fun t=>(Grew.app (h:=H3) t).get st3.oR
   have o163:∀ t,(H3++t)[H1.length]? = some (some (.cells 49 6 [zeroChg.cells nilA nilA] 0)):=fun t=>(Grew.app (h:=H3) t).get (g3.get o160)
   simp (disch:=omega)only[go_sem,q1,v1,v2,oM3,oR3,o163,w11,w12,w21,w22,e0,Nat.reduceAdd]
   refine⟨sameChange_call G zeroChg nilA nilA _ _ (fun H=>⟨Sees.nil,rfl,rfl⟩) (fun H=>⟨Sees.nil,rfl,rfl⟩) (by simp[zeroChg]) (by simp[zeroChg]) fun t5=>?_⟩
   have hne:=hE.ne
   simp (disch:=omega)only[go_sem,Bool.not_true,neqInt,neqErr,hne]
   have q1l:=g1.len
   have q2l:=g2.len
   have q3l:=g3.len
   exact join _ _ ls c (st3.grew (Grew.app _)) (by omega) fun H'' ks st' hle=>next_keep (40-(n+1)) (by omega) (by simp only[List.length_append]at hle;omega) ⟨n+1,ls,c,by omega,by omega,rfl,st',by omega,rfl⟩
  ·have hrise:AllRise ls:=fun i l hi=>by
    have:=(List.getElem?_eq_some_iff.mp hi).1
    have hpl:=st.T.len
    obtain⟨p,hp⟩:∃ p,ps[i]? = some p:=⟨_,List.getElem?_eq_getElem (by omega)⟩
    exact(st.T.tab i p l hp hi).rise
   obtain⟨hS,hls,hown⟩:=split_all (own:=c.owner) hrise hap aS
   have hSm:∀ r∈S,r.may=true:=fun r hr=>by
    obtain⟨l,hl1,hl2⟩:=List.mem_flatten.mp (aS.mem.mp hr)
    exact st.may l hl1 r hl2
   have rng1:∀ r∈S,0≤(c.step S f x.n).owner r.key∧(c.step S f x.n).owner r.key<ls.length:=fun r _=>by
    have:=owner_of ho r.key
    unfold Chg.owner Chg.step
    simp only
    split <;> omega
   have cur1:(c.step S f x.n).cur.length≤64:=by
    show((S.map RowA.key).getD (f+nextM (S.map RowA.key) x.n f) []).length≤64
    rw[List.getD_eq_getElem?_getD,List.getElem?_map]
    cases hg:S[f+nextM (S.map RowA.key) x.n f]? with
    | none=>simp
    | some r=>exact(may_len (hSm r (List.mem_of_getElem? hg))).2.1
   have flat1:(splitK (c.step S f x.n).owner ls.length S).flatten.length=ls.flatten.length:=by rw[split_flat_len hS rng1,aS.len]
   have was1:(c.step S f x.n).was=c.was:=rfl
   have will1:(c.step S f x.n).will=c.will:=rfl
   obtain⟨c1,hc1⟩:∃ X,c.step S f x.n=X:=⟨_,rfl⟩
   obtain⟨cnt,hcnt⟩:∃ X:Int,((mvN (ofK Lib.itoa c.was.wts) (ofK Lib.itoa c.will.wts) S f (nextM (S.map RowA.key) x.n f)).length:Int)=X:=⟨_,rfl⟩
   rw[hc1]at T1 rng1 cur1 flat1 was1 will1
   rw[hc1,hcnt]
   have k1s:∀ H,Wt H W1 c1.was.wts:=fun H=>by rw[was1];exact k1' H
   have k2s:∀ H,Wt H W2 c1.will.wts:=fun H=>by rw[will1];exact k2' H
   have R1:=st.R.butsT st.T b1
   have oM1':=st.T.keepO b1 (by decide) st.oM
   have oR1':=st.T.keepO b1 (by decide) st.oR
   have oM1:∀ t,(H1++t)[i24]? = some (some (.cells 49 6 [c.cells W1 W2] 0)):=fun t=>(Grew.app (h:=H1) t).get oM1'
   have oR1:∀ t,(H1++t)[i26]? = some (some (.cells 68 6 [c.cells W1 W2] 0)):=fun t=>(Grew.app (h:=H1) t).get oR1'
   simp (disch:=omega)only[go_sem,extV,q1,v1,v2,oM1,oR1,w11,w12,w21,w22,e0,Nat.reduceAdd]
   obtain⟨H2,hH2⟩:∃ X,H1 ++ [some (AO.cells 49 6 [c1.cells W1 W2] 0)]=X:=⟨_,rfl⟩
   have g2:Grew H1 H2:=by rw[← hH2];exact Grew.app _
   have o160:H2[H1.length]? = some (some (.cells 49 6 [c1.cells W1 W2] 0)):=by rw[← hH2];simp
   unfold Chg.cells at hH2
   rw[hH2]
   have R2:=R1.grew g2
   refine⟨refStep_call G c W1 W2 v13 qs ls x.n H2 _ k1' k2' hl1' hl2' (by omega) hrg.2 R2 hndq (by omega) st.may (by omega) (fun e' H3 g3 hE'=>(hE'.no ho he hap hf hm).elim) (fun _ _ _ _ _ S' aS' f' lb' H3 T3 b3=>?_)⟩
   obtain rfl:=aS.uniq aS'
   obtain rfl:=lb.uniq lb'
   rw[hc1]at T3
   rw[hc1,hcnt]
   have T3M:=(T1.grew g2).butsR R2 b3
   have oM3':=R2.keepO b3 (by decide) (g2.get oM1')
   have oR3':=R2.keepO b3 (by decide) (g2.get oR1')
   have o163':=R2.keepO b3 (by decide) o160
   have oM3:∀ t,(H3++t)[i24]? = some (some (.cells 49 6 [c.cells W1 W2] 0)):=fun t=>(Grew.app (h:=H3) t).get oM3'
   have oR3:∀ t,(H3++t)[i26]? = some (some (.cells 68 6 [c.cells W1 W2] 0)):=fun t=>(Grew.app (h:=H3) t).get oR3'
   have o163:∀ t,(H3++t)[H1.length]? = some (some (.cells 49 6 [c1.cells W1 W2] 0)):=fun t=>(Grew.app (h:=H3) t).get o163'
   simp (disch:=omega)only[go_sem,extV,q1,v1,v2,oM3,oR3,o163,w11,w12,w21,w22,e0,Nat.reduceAdd]
   refine⟨sameChange_call G c1 W1 W2 _ _ k1s k2s (by rw[was1];omega) (by rw[will1];omega) fun t5=>?_⟩
   obtain⟨H5,hH5⟩:∃ X,H3 ++ [some (AO.cells 68 6 [c1.cells W1 W2] 0)]++t5=X:=⟨_,rfl⟩
   have g5:Grew H3 H5:=by rw[← hH5,List.append_assoc];exact Grew.app _
   have o175:H5[H3.length]? = some (some (.cells 68 6 [c1.cells W1 W2] 0)):=by rw[← hH5];simp
   unfold Chg.cells at hH5
   rw[hH5]
   have ltM:=(List.getElem?_eq_some_iff.mp oM3').1
   have ltR:=(List.getElem?_eq_some_iff.mp oR3').1
   have q5l:=g5.len
   have neMR:i24≠i26:=by
    rintro rfl
    rw[oM3']at oR3'
    cases oR3'
   have oM5:=g5.get oM3'
   have oR5:=g5.get oR3'
   have o165:=g5.get o163'
   have s1:∀ o,(H5.set i24 o)[H3.length]? = some (some (.cells 68 6 [c1.cells W1 W2] 0)):=fun o=>(List.getElem?_set_ne (by omega)).trans o175
   have s2:∀ o,(H5.set i24 o)[i26]? = some (some (.cells 68 6 [c.cells W1 W2] 0)):=fun o=>(List.getElem?_set_ne neMR).trans oR5
   simp (disch:=omega)only[go_sem,Bool.not_true,neqInt,neqErr,oM5,oR5,o165,o175,s1,s2,w11,w12,w21,w22]
   have b1l:=b1.1
   have q2l:=g2.len
   have b3l:=b3.1
   refine join _ _ (splitK c1.owner ls.length S) c1 ⟨(List.getElem?_set_ne (Ne.symm neMR)).trans (List.getElem?_set_self (by omega)),List.getElem?_set_self (by rw[List.length_set];omega),((T3M.grew g5).put oM5 (by decide) (by decide) (by decide)).put (s2 _) (by decide) (by decide) (by decide),((T3.grew g5).put oM5 (by decide) (by decide) (by decide)).put (s2 _) (by decide) (by decide) (by decide),was1.trans st.w1,will1.trans st.w2,by omega,split_may hSm,by rw[splitK_len];exact few⟩ (by omega) fun H'' ks st' hle=>?_
   exact next_keep (40-(n+1)) (by omega) (by simp only[List.length_set]at hle;omega) ⟨n+1,_,c1,by omega,by omega,rfl,st',by omega,rfl⟩
end
end Go.Proofs
