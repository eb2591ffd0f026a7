import Derived.Test.YtekaeegjohanjaaGreatDoorGAH
import Derived.Test.YtekaeegjohanjaaGreatDoorGAE
import Derived.Test.YtekaeegjohanjaaGreatDoorGAG
import Derived.Test.YtekaeegjohanjaaGreatDoorGAA
import Derived.Test.YtekaeegjohanjaaGreatDoorGAF
set_option linter.all false
namespace Go.Proofs
open Go Go.Abs
set_option maxRecDepth 100000
set_option linter.unusedSimpArgs false
theorem RTab.setO{h:AH} {p i:Nat} {l:List RowA} (T:RTab h p l) {e:TypeId} {n g:Nat} {r:List (List AV)} {o:Option AO} (hi:h[i]? = some (some (.cells e n r g)))(h1:e≠149)(h2:e≠131):RTab (h.set i o) p l:=by
 obtain⟨x,hx,_⟩:=T.ex
 have ne:∀ {j:Nat} {e':TypeId} {n' g':Nat} {r':List (List AV)},h[j]? = some (some (.cells e' n' r' g'))→e≠e'→(h.set i o)[j]? = h[j]?:=fun {j e' n' g' r'} hj he=>by
  refine List.getElem?_set_ne ?_
  rintro rfl
  rw[hi]at hj
  cases hj
  exact he rfl
 exact T.keep (ne hx h1) ⟨by simp,fun j r g hj=>(ne hj h2).trans hj⟩
theorem refDrop_call(G:Nat→Option AV) (p:Nat) (l:List RowA) (k:List UInt8)(h:AH) (K:AV→AH→Prop)(T:RTab h p l)(hlen:l.length≤100000)(hh:hasK l k=true)(hk:∀ h',RTab h' p (delK l k)→But p h h'→K (.tup []) h'):SCall Tryz.prog G 164 [.ptr p 0 0 0, .v (.int .i64 (lbK l k:Nat))] h K:=by
 refine Tryz.c164 G _ _ h K fun hlow=>?_
 unfold Tryz.r164
 obtain⟨a,ho,s⟩:=T.ex
 have pl:=T.lt
 have a1:=s.one
 have a2:=s.cells
 have hlb:=lbK_le l k
 have hhl:=hiK_le l k
 have hhi:hiK l k=lbK l k+1:=by unfold hiK;rw[hh];rfl
 have ew:IntKind.i64.wrap ((lbK l k:Int)+1)=((lbK l k+1:Nat):Int):=by rw[wrap64_of (by omega) (by omega)];omega
 obtain⟨x1,e1,s1⟩:=s.upto (P:=Tryz.prog) (t:=47) (k:= .i64) Tryz.und47 Tryz.siz131 (m:=lbK l k) (by simpa using hlb)
 obtain⟨x2,e2,s2⟩:=s.from (P:=Tryz.prog) (t:=47) (k:= .i64) Tryz.und47 Tryz.siz131 (m:=lbK l k+1) (by simp;omega)
 have e1':=e1 []
 have e2':=e2 []
 rw[List.append_nil]at e1' e2'
 have ho':∀ t:AH,(h++t)[p]? = _:=fun t=>(List.getElem?_append_left pl).trans ho
 simp (disch:=omega)only[go_sem,ho,ho',a1,a2,e1',e2',e1,e2,ew]
 refine(Mine.obj (rows:= []) (id:=h.length) (g:=0) (by simp) (by simp:(h ++ [some (AO.cells 131 3 [] 0)])[h.length]? = _):Mine 131 3 (h ++ [some (AO.cells 131 3 [] 0)]) (.sl h.length 0 0 0 none) []).append (new:=(l.map RowA.cells).take (lbK l k)) Tryz.und47 Tryz.azero131 Tryz.byt131 (by exact Tryz.plainSrc47) (s1.more _).sees.src s1.rowsLen (by rintro⟨y,rfl⟩;cases s1) (by simp;omega) (by simp;omega) fun x3 H1 m1 hle1 st1=>?_
 simp only[List.length_append,List.length_cons,List.length_nil,List.nil_append]at hle1 m1
 have b1:∀ j,j<h.length→H1[j]? = h[j]? ∧ Off x3 j:=fun j hj=>by
  obtain⟨c1,c2⟩:=st1 j (by simp;omega) (fun id g o l c hx hid=>by simp only[AV.sl.injEq]at hx;omega)
  rw[c1,List.getElem?_append_left hj]
  exact⟨rfl,c2⟩
 have g1:Grew h H1:=Grew.mk (ext_of (by omega) fun j hj=>(b1 j hj).1)
 have ho1:H1[p]? = _:=(b1 p pl).1.trans ho
 have e2'':aSlice Tryz.prog H1 47 a (some (some (.v (.int .i64 ((lbK l k+1:Nat):Int))))) none none=some x2:=by obtain⟨t,rfl⟩:=g1.ex;exact e2 t
 have s2':Own 131 3 H1 x2 ((l.map RowA.cells).drop (lbK l k+1)):=by obtain⟨t,rfl⟩:=g1.ex;exact s2.more t
 simp (disch:=omega)only[go_sem,ho1,a1,a2,e2'',ew]
 refine m1.append (new:=(l.map RowA.cells).drop (lbK l k+1)) Tryz.und47 Tryz.azero131 Tryz.byt131 (by exact Tryz.plainSrc47) s2'.sees.src s2'.rowsLen (by rintro⟨y,rfl⟩;cases s2') (by simp;omega) (by simp;omega) fun x5 H3 m3 hle3 st3=>?_
 have b3:∀ j,j<h.length→H3[j]? = h[j]?:=fun j hj=>by
  rw[(st3 j (by omega) (b1 j hj).2).1]
  exact(b1 j hj).1
 have ho3:H3[p]? = _:=(b3 p pl).trans ho
 have v1:=m3.one
 have v2:=m3.cells
 simp (disch:=omega)only[go_sem,ho3,v1,v2,Nat.one_ne_zero,if_false]
 have eR:(delK l k).map RowA.cells=(l.map RowA.cells).take (lbK l k)++(l.map RowA.cells).drop (lbK l k+1):=by unfold delK;rw[hhi];simp
 rw[← eR]at m3
 obtain⟨c1,c2⟩:=rtStore (a:=a) T (by omega) b3 m3 (delK_rise T.rise k) (by have:=delK_len l k;omega)
 exact ret_keep (hk _ c1 c2)
abbrev res0:List AV:= [.v (.int .i64 0), .v (.int .i64 0), .v (.string (bs [])), .v (.slice none 0 0)]
theorem refAdd_call(G:Nat→Option AV) (p:Nat) (l:List RowA)(x:OpA)(h:AH) (K:AV→AH→Prop)(T:RTab h p l)(hlen:l.length≤100000)(hvl:x.val.length≤4611686018427387904)
  (hk1:4096<x.val.length→∀ t,K (.agg (ResA.cells ⟨93,0, []⟩)) (h++t))
  (hk2:¬ 4096<x.val.length→4096≤l.length→∀ t,K (.agg (ResA.cells ⟨22,0, []⟩)) (h++t))
  (hk3:¬ 4096<x.val.length→¬ 4096≤l.length→∀ h',RTab h' p (putK l ⟨x.key,x.stamp,x.val⟩)→But p h h'→K (.agg (ResA.cells ⟨0,x.stamp, []⟩)) h'):SCall Tryz.prog G 175 [.ptr p 0 0 0, .agg x.cells] h K:=by
 refine Tryz.c175 G _ _ h K fun hlow=>?_
 unfold Tryz.r175
 obtain⟨a,ho,s⟩:=T.ex
 have pl:=T.lt
 have a1:=s.one
 have a2:=s.cells
 have e0:(ByteArray.mk #[])=bs []:=rfl
 have ho':∀ t:AH,(h++t)[p]? = _:=fun t=>(List.getElem?_append_left pl).trans ho
 have la:∀ t,aLen Tryz.prog (h++t) 47 a=some (.v (.int .i64 l.length)):=fun t=>by
  have:=(s.more t).sees.len (P:=Tryz.prog) (t:=47) Tryz.und47
  rw[List.length_map]at this
  exact this
 by_cases hv:4096<x.val.length
 ·simp (disch:=omega)only[go_sem,Nat.reduceAdd]
  exact ret_keep (hk1 hv _)
 by_cases hf:4096≤l.length
 ·simp (disch:=omega)only[go_sem,ho',a1,a2,la,Nat.reduceAdd]
  exact ret_keep (hk2 hv hf _)
 simp (disch:=omega)only[go_sem,ho',a1,a2,la,Nat.reduceAdd]
 refine⟨refput_call G p l ⟨x.key,x.stamp,x.val⟩ _ _ (T.grew (Grew.app _)) hlen fun h' T' b'=>?_⟩
 have g1:h'[h.length]? = some (some (.cells 89 6 [x.cells] 0)):=(b'.2 h.length (by simp) (by omega)).trans (by simp)
 have g2:h'[h.length+1]? = some (some (.cells 157 4 [res0] 0)):=(b'.2 (h.length+1) (by simp) (by omega)).trans (by simp[e0])
 have g3:∀ o,(h'.set (h.length+1) o)[h.length+1]? = some o:=fun o=>List.getElem?_set_self (List.getElem?_eq_some_iff.mp g2).1
 simp (disch:=omega)only[go_sem,g1,g2,g3,Nat.reduceAdd]
 exact ret_keep (hk3 hv hf _ (T'.setO g2 (by decide) (by decide)) (((But.app _).trans b').setN (by omega)))
theorem refChange_call(G:Nat→Option AV) (p:Nat) (l:List RowA)(x:OpA)(r:RowA)(h:AH) (K:AV→AH→Prop)(T:RTab h p l)(hlen:l.length≤100000)(hvl:x.val.length≤4611686018427387904)
  (hk1:(x.test≠0∧x.test≠r.stamp)∨x.stamp≤r.stamp→∀ t,K (.agg (ResA.cells ⟨92,r.stamp, []⟩)) (h++t))
  (hk2:¬ ((x.test≠0∧x.test≠r.stamp)∨x.stamp≤r.stamp)→4096<x.val.length→∀ t,K (.agg (ResA.cells ⟨93,0, []⟩)) (h++t))
  (hk3:¬ ((x.test≠0∧x.test≠r.stamp)∨x.stamp≤r.stamp)→¬ 4096<x.val.length→∀ h',RTab h' p (putK l ⟨x.key,x.stamp,x.val⟩)→But p h h'→K (.agg (ResA.cells ⟨0,x.stamp, []⟩)) h'):SCall Tryz.prog G 174 [.ptr p 0 0 0, .agg x.cells, .agg r.cells] h K:=by
 refine Tryz.c174 G _ _ _ h K fun hlow=>?_
 unfold Tryz.r174
 have e0:(ByteArray.mk #[])=bs []:=rfl
 have pl:=T.lt
 by_cases k2:(x.test≠0∧x.test≠r.stamp)∨x.stamp≤r.stamp
 ·by_cases t0:x.test=0
  ·have s1:x.stamp≤r.stamp:=by rcases k2 with⟨h1,_⟩|h1;exact absurd t0 h1;exact h1
   simp (disch:=omega)only[go_sem,t0,bne_self_eq_false,Nat.reduceAdd]
   exact ret_keep (hk1 k2 _)
  ·have t0':(x.test != 0)=true:=by simpa using t0
   by_cases ts:x.test=r.stamp
   ·have ts':(x.test != r.stamp)=false:=by simpa using ts
    have s1:x.stamp≤r.stamp:=by rcases k2 with⟨_,h1⟩|h1;exact absurd ts h1;exact h1
    simp (disch:=omega)only[go_sem,t0',ts',Nat.reduceAdd]
    exact ret_keep (hk1 k2 _)
   ·have ts':(x.test != r.stamp)=true:=by simpa using ts
    simp (disch:=omega)only[go_sem,t0',ts',Nat.reduceAdd]
    exact ret_keep (hk1 k2 _)
 have s1:¬ x.stamp≤r.stamp:=fun h=>k2 (.inr h)
 have tz:x.test=0∨x.test=r.stamp:=by
  by_cases t0:x.test=0
  ·exact .inl t0
  ·by_cases ts:x.test=r.stamp
   ·exact .inr ts
   ·exact absurd (.inl ⟨t0,ts⟩) k2
 have last:∀ h',RTab h' p (putK l ⟨x.key,x.stamp,x.val⟩)→But p (h ++ [some (AO.cells 89 6 [x.cells] 0),some (AO.cells 131 3 [r.cells] 0),some (AO.cells 157 4 [res0] 0)]) h'→h'[h.length]? = some (some (.cells 89 6 [x.cells] 0))∧h'[h.length+2]? = some (some (.cells 157 4 [res0] 0)):=fun h' T' b'=>
  ⟨(b'.2 h.length (by simp) (by omega)).trans (by simp),(b'.2 (h.length+2) (by simp) (by omega)).trans (by simp)⟩
 by_cases hv:4096<x.val.length
 ·by_cases t0:x.test=0
  ·simp (disch:=omega)only[go_sem,t0,bne_self_eq_false,Nat.reduceAdd]
   exact ret_keep (hk2 k2 hv _)
  ·have t0':(x.test != 0)=true:=by simpa using t0
   have ts':(x.test != r.stamp)=false:=by rcases tz with h|h;exact absurd h t0;simpa using h
   simp (disch:=omega)only[go_sem,t0',ts',Nat.reduceAdd]
   exact ret_keep (hk2 k2 hv _)
 ·by_cases t0:x.test=0
  ·simp (disch:=omega)only[go_sem,t0,e0,bne_self_eq_false,Nat.reduceAdd]
   refine⟨refput_call G p l ⟨x.key,x.stamp,x.val⟩ _ _ (T.grew (Grew.app _)) hlen fun h' T' b'=>?_⟩
   have g1:=(b'.2 h.length (by simp) (by omega)).trans (show _=some (some (.cells 89 6 [x.cells] 0)) from by simp[t0])
   have g2:=(b'.2 (h.length+2) (by simp) (by omega)).trans (show _=some (some (.cells 157 4 [res0] 0)) from by simp)
   have g3:∀ o,(h'.set (h.length+2) o)[h.length+2]? = some o:=fun o=>List.getElem?_set_self (List.getElem?_eq_some_iff.mp g2).1
   simp (disch:=omega)only[go_sem,g1,g2,g3,e0,Nat.reduceAdd]
   exact ret_keep (hk3 k2 hv _ (T'.setO g2 (by decide) (by decide)) (((But.app _).trans b').setN (by omega)))
  ·have t0':(x.test != 0)=true:=by simpa using t0
   have ts':(x.test != r.stamp)=false:=by rcases tz with h|h;exact absurd h t0;simpa using h
   simp (disch:=omega)only[go_sem,t0',ts',e0,Nat.reduceAdd]
   refine⟨refput_call G p l ⟨x.key,x.stamp,x.val⟩ _ _ (T.grew (Grew.app _)) hlen fun h' T' b'=>?_⟩
   have g1:=(b'.2 h.length (by simp) (by omega)).trans (show _=some (some (.cells 89 6 [x.cells] 0)) from by simp)
   have g2:=(b'.2 (h.length+2) (by simp) (by omega)).trans (show _=some (some (.cells 157 4 [res0] 0)) from by simp)
   have g3:∀ o,(h'.set (h.length+2) o)[h.length+2]? = some o:=fun o=>List.getElem?_set_self (List.getElem?_eq_some_iff.mp g2).1
   simp (disch:=omega)only[go_sem,g1,g2,g3,e0,Nat.reduceAdd]
   exact ret_keep (hk3 k2 hv _ (T'.setO g2 (by decide) (by decide)) (((But.app _).trans b').setN (by omega)))
end Go.Proofs
namespace Go.Proofs
open Go Go.Abs
set_option maxRecDepth 100000
set_option linter.unusedSimpArgs false
theorem refWrite_call(G:Nat→Option AV) (p:Nat) (l:List RowA)(x:OpA)(h:AH) (K:AV→AH→Prop)(T:RTab h p l)(hlen:l.length≤100000)(hvl:x.val.length≤4611686018427387904)(h123:x.kind=1∨x.kind=2∨x.kind=3)(h1:x.kind=1→x.test=0)
  (hk:∀ h',RTab h' p (writeK l x).2→But p h h'→K (.agg (writeK l x).1.cells) h'):SCall Tryz.prog G 163 [.ptr p 0 0 0, .agg x.cells] h K:=by
 refine Tryz.c163 G _ _ h K fun hlow=>?_
 unfold Tryz.r163
 obtain⟨a,ho,s⟩:=T.ex
 have pl:=T.lt
 have a1:=s.one
 have a2:=s.cells
 have e0:(ByteArray.mk #[])=bs []:=rfl
 have ho':∀ t:AH,(h++t)[p]? = _:=fun t=>(List.getElem?_append_left pl).trans ho
 have stay:∀ t,RTab (h++t) p l∧But p h (h++t):=fun t=>⟨T.grew (Grew.app t),But.app t⟩
 simp (disch:=omega)only[go_sem,Nat.reduceAdd]
 refine⟨refFind_call G p l x.key _ _ (T.grew (Grew.app _)) ?_⟩
 unfold writeK at hk
 have back:∀(H:AH) (l':List RowA) (r:ResA),RTab H p l'→But p (h ++ [some (AO.cells 89 6 [x.cells] 0),some (AO.cells 157 4 [res0] 0)]) H→(RTab (H.set (h.length+1) (some (AO.cells 157 4 [r.cells] 0))) p l'→But p h (H.set (h.length+1) (some (AO.cells 157 4 [r.cells] 0)))→K (.agg r.cells) (H.set (h.length+1) (some (AO.cells 157 4 [r.cells] 0))))→H[h.length+1]? = some (some (AO.cells 157 4 [res0] 0))∧RetR h K (.agg r.cells) (H.set (h.length+1) (some (AO.cells 157 4 [r.cells] 0))):=fun H l' r T' b' hK=>by
  have g2:H[h.length+1]? = some (some (.cells 157 4 [res0] 0)):=(b'.2 (h.length+1) (by simp) (by omega)).trans (by simp)
  exact⟨g2,ret_keep (hK (T'.setO g2 (by decide) (by decide)) (((But.app _).trans b').setN (by omega)))⟩
 cases hh:hasK l x.key with
 | true=>
  obtain⟨r,hr1,hr2⟩:=hasK_iff.mp hh
  have hst:stampK l x.key=r.stamp:=by unfold stampK;rw[getD_of hr1]
  rw[hh,hst]at hk
  simp only[if_true]at hk
  obtain⟨q,u,q1,q2,u1,u2⟩:=rowOf s hr1
  by_cases k1:x.kind=1
  ·rw[if_pos k1]at hk
   have k1':(x.kind==1)=true:=by simpa using k1
   simp (disch:=omega)only[go_sem,extV,ho',a1,a2,q1,q2,u1,u2,k1',Nat.reduceAdd]
   exact ret_keep (hk _ (stay _).1 (stay _).2)
  rw[if_neg k1]at hk
  have k1':(x.kind==1)=false:=by simpa using k1
  simp (disch:=omega)only[go_sem,extV,ho',a1,a2,q1,q2,u1,u2,k1',e0,Nat.reduceAdd]
  refine⟨refChange_call G p l x r _ _ (stay _).1 hlen hvl (fun hc t=>?_) (fun hc hv t=>?_) (fun hc hv H T' b'=>?_)⟩
  ·rw[if_pos hc]at hk
   have g2:=(show(h ++ [some (AO.cells 89 6 [x.cells] 0),some (AO.cells 157 4 [res0] 0)]++t)[h.length+1]? = some (some (.cells 157 4 [res0] 0)) from by simp)
   simp (disch:=omega)only[go_sem,Nat.reduceAdd]
   exact ret_keep (hk _ (stay _).1 (stay _).2)
  ·rw[if_neg hc,if_pos hv]at hk
   simp (disch:=omega)only[go_sem,Nat.reduceAdd]
   exact ret_keep (hk _ (stay _).1 (stay _).2)
  ·rw[if_neg hc,if_neg hv]at hk
   obtain⟨g2,c2⟩:=back H _ ⟨0,x.stamp, []⟩ T' b' (hk _)
   have g3:∀ o,(H.set (h.length+1) o)[h.length+1]? = some o:=fun o=>List.getElem?_set_self (List.getElem?_eq_some_iff.mp g2).1
   simp (disch:=omega)only[go_sem,g2,g3,Nat.reduceAdd]
   exact c2
 | false=>
  rw[hh]at hk
  simp only[Bool.false_eq_true,if_false]at hk
  by_cases k2:x.kind=2∨x.test≠0
  ·rw[if_pos k2]at hk
   by_cases c2:x.kind=2
   ·have c2':(x.kind==2)=true:=by simpa using c2
    simp (disch:=omega)only[go_sem,extV,c2',Nat.reduceAdd]
    exact ret_keep (hk _ (stay _).1 (stay _).2)
   ·have c2':(x.kind==2)=false:=by simpa using c2
    have t0:x.test≠0:=by rcases k2 with h|h;exact absurd h c2;exact h
    have t0':(x.test != 0)=true:=by simpa using t0
    have c3:x.kind=3:=by
     rcases h123 with h|h|h
     ·exact absurd (h1 h) t0
     ·exact absurd h c2
     ·exact h
    have c3':(x.kind==3)=true:=by simpa using c3
    simp (disch:=omega)only[go_sem,extV,c2',c3',t0',Nat.reduceAdd]
    exact ret_keep (hk _ (stay _).1 (stay _).2)
  rw[if_neg k2]at hk
  have c2':(x.kind==2)=false:=by simp;exact fun h=>k2 (.inl h)
  have t0:x.test=0:=Decidable.byContradiction fun h=>k2 (.inr h)
  by_cases c3:x.kind=3
  ·have c3':(x.kind==3)=true:=by simpa using c3
   have t0':(x.test != 0)=false:=by simp[t0]
   simp (disch:=omega)only[go_sem,extV,c2',c3',t0',e0,Nat.reduceAdd]
   refine⟨refAdd_call G p l x _ _ (stay _).1 hlen hvl (fun hv t=>?_) (fun hv hf t=>?_) (fun hv hf H T' b'=>?_)⟩
   ·rw[if_pos hv]at hk
    simp (disch:=omega)only[go_sem,Nat.reduceAdd]
    exact ret_keep (hk _ (stay _).1 (stay _).2)
   ·rw[if_neg hv,if_pos hf]at hk
    simp (disch:=omega)only[go_sem,Nat.reduceAdd]
    exact ret_keep (hk _ (stay _).1 (stay _).2)
   ·rw[if_neg hv,if_neg hf]at hk
    obtain⟨g2,c2⟩:=back H _ ⟨0,x.stamp, []⟩ T' b' (hk _)
    have g3:∀ o,(H.set (h.length+1) o)[h.length+1]? = some o:=fun o=>List.getElem?_set_self (List.getElem?_eq_some_iff.mp g2).1
    simp (disch:=omega)only[go_sem,g2,g3,Nat.reduceAdd]
    exact c2
  ·have c3':(x.kind==3)=false:=by simpa using c3
   simp (disch:=omega)only[go_sem,extV,c2',c3',e0,Nat.reduceAdd]
   refine⟨refAdd_call G p l x _ _ (stay _).1 hlen hvl (fun hv t=>?_) (fun hv hf t=>?_) (fun hv hf H T' b'=>?_)⟩
   ·rw[if_pos hv]at hk
    simp (disch:=omega)only[go_sem,Nat.reduceAdd]
    exact ret_keep (hk _ (stay _).1 (stay _).2)
   ·rw[if_neg hv,if_pos hf]at hk
    simp (disch:=omega)only[go_sem,Nat.reduceAdd]
    exact ret_keep (hk _ (stay _).1 (stay _).2)
   ·rw[if_neg hv,if_neg hf]at hk
    obtain⟨g2,c2⟩:=back H _ ⟨0,x.stamp, []⟩ T' b' (hk _)
    have g3:∀ o,(H.set (h.length+1) o)[h.length+1]? = some o:=fun o=>List.getElem?_set_self (List.getElem?_eq_some_iff.mp g2).1
    simp (disch:=omega)only[go_sem,g2,g3,Nat.reduceAdd]
    exact c2
theorem refOne_call(G:Nat→Option AV) (p:Nat) (l:List RowA)(x:OpA)(h:AH) (K:AV→AH→Prop)(T:RTab h p l)(hlen:l.length≤100000)(hvl:x.val.length≤4611686018427387904)(ok:x.ok=true)(h6:x.kind≠6)
  (hk:∀ h',RTab h' p (oneK l x).2→But p h h'→K (.agg (oneK l x).1.cells) h'):SCall Tryz.prog G 128 [.ptr p 0 0 0, .agg x.cells] h K:=by
 refine Tryz.c128 G _ _ h K fun hlow=>?_
 unfold Tryz.r128
 obtain⟨a,ho,s⟩:=T.ex
 have pl:=T.lt
 have a1:=s.one
 have a2:=s.cells
 have e0:(ByteArray.mk #[])=bs []:=rfl
 have ho':∀ t:AH,(h++t)[p]? = _:=fun t=>(List.getElem?_append_left pl).trans ho
 have stay:∀ t,RTab (h++t) p l∧But p h (h++t):=fun t=>⟨T.grew (Grew.app t),But.app t⟩
 have k6:(x.kind==6)=false:=by simpa using h6
 have back:∀(H:AH) (l':List RowA) (r:ResA),RTab H p l'→∀ t,But p (h++some (AO.cells 89 6 [x.cells] 0)::some (AO.cells 157 4 [res0] 0)::t) H→(∀ o,RTab (H.set (h.length+1) o) p l'→But p h (H.set (h.length+1) o)→K (.agg r.cells) (H.set (h.length+1) o))→H[h.length+1]? = some (some (AO.cells 157 4 [res0] 0))∧∀ o,RetR h K (.agg r.cells) (H.set (h.length+1) o):=fun H l' r T' t b' hK=>by
  have g2:H[h.length+1]? = some (some (.cells 157 4 [res0] 0)):=(b'.2 (h.length+1) (by simp) (by omega)).trans (by simp)
  exact⟨g2,fun o=>ret_keep (hK o (T'.setO g2 (by decide) (by decide)) (((But.app _).trans b').setN (by omega)))⟩
 unfold oneK at hk
 by_cases k45:x.kind=4∨x.kind=5
 rotate_left
 ·rw[if_neg k45]at hk
  have k4:(x.kind==4)=false:=by simp;exact fun h=>k45 (.inl h)
  have k5:(x.kind==5)=false:=by simp;exact fun h=>k45 (.inr h)
  have h123:x.kind=1∨x.kind=2∨x.kind=3:=by
   by_cases h:x.kind=1∨x.kind=2∨x.kind=3
   ·exact h
   ·unfold OpA.ok at ok
    rw[if_neg h,if_neg k45,if_neg h6]at ok
    cases ok
  have h1:x.kind=1→x.test=0:=fun h1=>by
   unfold OpA.ok at ok
   rw[if_pos h123]at ok
   simp only[Bool.and_eq_true,Bool.or_eq_true,decide_eq_true_eq,beq_iff_eq]at ok
   rcases ok.1.2 with h|h
   ·exact absurd h1 h
   ·exact h
  simp (disch:=omega)only[go_sem,k6,k4,k5,e0,Nat.reduceAdd]
  refine⟨refWrite_call G p l x _ _ (stay _).1 hlen hvl h123 h1 fun H T' b'=>?_⟩
  obtain⟨g2,c2⟩:=back H _ _ T' _ b' (fun o=>hk _)
  have g3:∀ o,(H.set (h.length+1) o)[h.length+1]? = some o:=fun o=>List.getElem?_set_self (List.getElem?_eq_some_iff.mp g2).1
  simp (disch:=omega)only[go_sem,g2,g3,Nat.reduceAdd]
  exact c2 _
 rw[if_pos k45]at hk
 rcases k45 with k4|k5
 ·have k4':(x.kind==4)=true:=by simpa using k4
  have k5':(x.kind==5)=false:=by simp[k4]
  simp (disch:=omega)only[go_sem,k6,k4',e0,Nat.reduceAdd]
  refine⟨refFind_call G p l x.key _ _ (stay _).1 ?_⟩
  cases hh:hasK l x.key with
  | false=>
   rw[if_pos hh]at hk
   simp (disch:=omega)only[go_sem,extV,Bool.not_false,e0,Nat.reduceAdd]
   exact ret_keep (hk _ (stay _).1 (stay _).2)
  | true=>
  rw[if_neg (by simp[hh])]at hk
  obtain⟨r,hr1,hr2⟩:=hasK_iff.mp hh
  have hst:stampK l x.key=r.stamp:=by unfold stampK;rw[getD_of hr1]
  have hva:valK l x.key=r.val:=by unfold valK;rw[getD_of hr1]
  rw[hst,hva]at hk
  obtain⟨q,u,q1,q2,u1,u2⟩:=rowOf s hr1
  by_cases t0:x.test=0
  ·have t0':(x.test != 0)=false:=by simp[t0]
   rw[if_neg (by simp[t0])]at hk
   rw[if_neg (by omega)]at hk
   simp (disch:=omega)only[go_sem,extV,ho',a1,a2,q1,q2,u1,u2,k5',e0,t0',Bool.not_true,Nat.reduceAdd]
   refine⟨refDrop_call G p l x.key _ _ (stay _).1 hlen hh fun H T' b'=>?_⟩
   obtain⟨g2,c2⟩:=back H _ ⟨0,r.stamp, []⟩ T' _ b' (fun o=>hk _)
   have g4:H[h.length+2]? = some (some (.cells 131 3 [r.cells] 0)):=(b'.2 (h.length+2) (by simp) (by omega)).trans (by simp)
   have g3:∀ o,(H.set (h.length+1) o)[h.length+1]? = some o:=fun o=>List.getElem?_set_self (List.getElem?_eq_some_iff.mp g2).1
   simp (disch:=omega)only[go_sem,g2,g3,g4,e0,Nat.reduceAdd]
   exact c2 _
  ·have t0':(x.test != 0)=true:=by simpa using t0
   by_cases ts:x.test=r.stamp
   ·have ts':(x.test != r.stamp)=false:=by simpa using ts
    rw[if_neg (by simp[ts])]at hk
    rw[if_neg (by omega)]at hk
    simp (disch:=omega)only[go_sem,extV,ho',a1,a2,q1,q2,u1,u2,k5',e0,t0',ts',Bool.not_true,Nat.reduceAdd]
    refine⟨refDrop_call G p l x.key _ _ (stay _).1 hlen hh fun H T' b'=>?_⟩
    obtain⟨g2,c2⟩:=back H _ ⟨0,r.stamp, []⟩ T' _ b' (fun o=>hk _)
    have g4:H[h.length+2]? = some (some (.cells 131 3 [r.cells] 0)):=(b'.2 (h.length+2) (by simp) (by omega)).trans (by simp)
    have g3:∀ o,(H.set (h.length+1) o)[h.length+1]? = some o:=fun o=>List.getElem?_set_self (List.getElem?_eq_some_iff.mp g2).1
    simp (disch:=omega)only[go_sem,g2,g3,g4,e0,Nat.reduceAdd]
    exact c2 _
   ·have ts':(x.test != r.stamp)=true:=by simpa using ts
    rw[if_pos ⟨t0,ts⟩]at hk
    simp (disch:=omega)only[go_sem,extV,ho',a1,a2,q1,q2,u1,u2,k5',e0,t0',ts',Bool.not_true,Nat.reduceAdd]
    exact ret_keep (hk _ (stay _).1 (stay _).2)
 ·have k5':(x.kind==5)=true:=by simpa using k5
  have k4':(x.kind==4)=false:=by simp[k5]
  simp (disch:=omega)only[go_sem,k6,k4',k5',e0,Nat.reduceAdd]
  refine⟨refFind_call G p l x.key _ _ (stay _).1 ?_⟩
  cases hh:hasK l x.key with
  | false=>
   rw[if_pos hh]at hk
   simp (disch:=omega)only[go_sem,extV,Bool.not_false,e0,Nat.reduceAdd]
   exact ret_keep (hk _ (stay _).1 (stay _).2)
  | true=>
  rw[if_neg (by simp[hh])]at hk
  obtain⟨r,hr1,hr2⟩:=hasK_iff.mp hh
  have hst:stampK l x.key=r.stamp:=by unfold stampK;rw[getD_of hr1]
  have hva:valK l x.key=r.val:=by unfold valK;rw[getD_of hr1]
  rw[hst,hva]at hk
  obtain⟨q,u,q1,q2,u1,u2⟩:=rowOf s hr1
  by_cases t0:x.test=0
  ·have t0':(x.test != 0)=false:=by simp[t0]
   rw[if_neg (by simp[t0])]at hk
   rw[if_pos k5]at hk
   simp (disch:=omega)only[go_sem,extV,ho',a1,a2,q1,q2,u1,u2,k5',e0,t0',Bool.not_true,Nat.reduceAdd]
   exact ret_keep (hk _ (stay _).1 (stay _).2)
  ·have t0':(x.test != 0)=true:=by simpa using t0
   by_cases ts:x.test=r.stamp
   ·have ts':(x.test != r.stamp)=false:=by simpa using ts
    rw[if_neg (by simp[ts])]at hk
    rw[if_pos k5]at hk
    simp (disch:=omega)only[go_sem,extV,ho',a1,a2,q1,q2,u1,u2,k5',e0,t0',ts',Bool.not_true,Nat.reduceAdd]
    exact ret_keep (hk _ (stay _).1 (stay _).2)
   ·have ts':(x.test != r.stamp)=true:=by simpa using ts
    rw[if_pos ⟨t0,ts⟩]at hk
    simp (disch:=omega)only[go_sem,extV,ho',a1,a2,q1,q2,u1,u2,k5',e0,t0',ts',Bool.not_true,Nat.reduceAdd]
    exact ret_keep (hk _ (stay _).1 (stay _).2)
end Go.Proofs
namespace Go.Proofs
open Go Go.Abs
set_option maxRecDepth 100000
set_option linter.unusedSimpArgs false
theorem refFault_call(G:Nat→Option AV) (a c:Int)(h:AH) (K:AV→AH→Prop)(hk:∀ t,K (.agg [.v (.int .i64 a), .v (.int .i64 c)]) (h++t)):SCall Tryz.prog G 79 [.v (.int .i64 a), .v (.int .i64 c)] h K:=by
 refine Tryz.c79 G _ _ h K fun hlow=>?_
 unfold Tryz.r79
 simp (disch:=omega)only[go_sem,Nat.reduceAdd]
 exact ret_keep (hk _)
theorem refDoK_call(G:Nat→Option AV) (p:Nat) (l:List RowA) (a1:AV) (ops:List OpA)(h:AH) (K:AV→AH→Prop)(T:RTab h p l)(hlen:l.length≤10000)(ha:∀ H,But p h H→Sees H 6 a1 (ops.map OpA.cells))(oo:OpsOk ops)
  (hk:∀ v h',RTab h' p (doK l ops).2.2→But p h h'→Mine 157 4 h' v ((doK l ops).2.1.map ResA.cells)→K (.tup [v, .agg [.v (.int .i64 (doK l ops).1.1), .v (.int .i64 (doK l ops).1.2)]]) h') :
  SCall Tryz.prog G 81 [.ptr p 0 0 0,a1] h K:=by
 refine Tryz.c81 G _ _ h K fun hlow=>?_
 unfold Tryz.r81
 have e0:(ByteArray.mk #[])=bs []:=rfl
 obtain⟨n1,n2,nok,n6,nkl⟩:=oo
 have la:∀ H,aLen Tryz.prog H 72 a1=some (.v (.int .i64 ops.length)):=fun H=>by
  have:=seesLenT (ha h But.refl) (P:=Tryz.prog) (t:=72) Tryz.und72 H
  rw[List.length_map]at this
  exact this
 simp (disch:=omega)only[go_sem,la]
 generalize hH0:h ++ [some (AO.cells 80 2 [[AV.v (.int .i64 0),AV.v (.int .i64 0)]] 0)]=H0
 have g0:Grew h H0:=by rw[← hH0];exact Grew.app _
 have hl0:H0.length=h.length+1:=by rw[← hH0];simp
 have oF:H0[h.length]? = some (some (.cells 80 2 [[.v (.int .i64 0), .v (.int .i64 0)]] 0)):=by rw[← hH0];simp
 have T0:=T.grew g0
 have pl:=T.lt
 clear hH0
 have rowAt:∀ {k:Nat} {x:OpA},ops[k]? = some x→∀ H,But p h H→∃ q,aIA Tryz.prog H 72 a1 (.v (.int .i64 (k:Int)))=some q∧Go.Abs.rowAt H q=some (x.cells,0):=fun {k x} hx H b=>(ha H b).ia (P:=Tryz.prog) (t:=72) (k:= .i64) (i:=(k:Int)) (r:=x.cells) Tryz.und72 Tryz.siz89 (by omega) (by simp[hx])
 have toBut:∀ {H':AH},Buts [p] h H'→But p h H':=fun b=>⟨b.1,fun j hj hne=>b.2 j hj (by simpa using hne)⟩
 unfold Tryz.r81_l4_15
 refine⟨fun m vs H=>∃ k:Nat,k≤ops.length∧m=ops.length-k∧H=H0∧vs = [.v (.int .i64 k)],ops.length,⟨0,by omega,rfl,rfl,rfl⟩,?_⟩
 rintro m H hl1 hlow2 n ⟨k,hkk,rfl,rfl,hvs⟩
 simp only[List.cons.injEq,AV.v.injEq,Value.int.injEq,true_and,and_true]at hvs
 subst hvs
 by_cases hkl:k<ops.length
 ·obtain⟨x,hx⟩:∃ x,ops[k]? = some x:=⟨_,List.getElem?_eq_getElem hkl⟩
  have hxm:=List.mem_of_getElem? hx
  have ew:IntKind.i64.wrap ((k:Int)+1)=((k+1:Nat):Int):=by rw[wrap64_of (by omega) (by omega)];omega
  obtain⟨q,q1,q2⟩:=rowAt hx H (toBut (Buts.grew g0))
  simp (disch:=omega)only[go_sem,la,q1,q2]
  refine⟨refMay08_call G x H _ (nkl x hxm).1 (nkl x hxm).2 ?_⟩
  rw[nok x hxm]
  simp (disch:=omega)only[go_sem,Bool.not_true,ew]
  exact next_keep (ops.length-(k+1)) (by omega) (Nat.le_refl _) ⟨k+1,by omega,rfl,rfl,rfl⟩
 have hnotR:∀ {l':List RowA} {H':AH} (_:RTab H p l') (_:But p H H') {j:Nat} {e:TypeId} {n' g:Nat} {r:List (List AV)},e≠149→H[j]? = some (some (.cells e n' r g))→H'[j]? = some (some (.cells e n' r g)):=fun {l' H'} U bb {j e n' g r} he hj=>by
  obtain⟨y,hy,_⟩:=U.ex
  exact butKeep bb hy he hj
 by_cases h1:ops.length=1
 ·obtain⟨x,rfl⟩:∃ x,ops = [x]:=by
   match ops,h1 with
   | [x],_=>exact⟨x,rfl⟩
  have hd:doK l [x]=((0,0), [(oneK l x).1],(oneK l x).2):=by unfold doK;rfl
  rw[hd]at hk
  obtain⟨q,q1,q2⟩:=rowAt (k:=0) (x:=x) rfl H (toBut (Buts.grew g0))
  have q1:aIA Tryz.prog H 72 a1 (.v (.int .i64 0))=some q:=q1
  have l1:((([x]:List OpA).length:Int)==1)=true:=rfl
  simp (disch:=omega)only[go_sem,la,l1,q1,q2]
  refine⟨refOne_call G p l x H _ T0 (by omega) (nkl x (by simp)).2 (nok x (by simp)) (n6 x (by simp)) fun H1 T1 b1=>?_⟩
  have oF1:=hnotR T0 b1 (by decide) oF
  have bl1:=b1.1
  have oF1':∀ t,(H1++t)[h.length]? = some (some (.cells 80 2 [[.v (.int .i64 0), .v (.int .i64 0)]] 0)):=fun t=>by
   rw[List.getElem?_append_left (by omega)];exact oF1
  have g3:∀ t o,((H1++t).set h.length o)[h.length]? = some o:=fun t o=>List.getElem?_set_self (by simp;omega)
  have fr:=fillRes (r:=(oneK l x).1) (y:=bs []) (z:= .v (.slice none 0 0))
  simp (disch:=omega)only[go_sem,e0,fr,oF1',g3,Nat.reduceAdd]
  refine ret_keep (hk _ _ ((T1.grew (Grew.app _)).setO (oF1' _) (by decide) (by decide)) ((((Buts.grew g0 (ps:= [p])).trans ((Buts.but b1 (by simp)).trans (Buts.grew (Grew.app _)))).set (Nat.le_refl _)) |> fun b=>⟨b.1,fun j hj hne=>b.2 j hj (by simpa using hne)⟩) ?_)
  have mob:∀ HX:AH,HX[H1.length+1]? = some (some (AO.cells 157 4 [(oneK l x).1.cells] 0))→Mine 157 4 HX (.sl (H1.length+1) 0 0 1 none) [(oneK l x).1.cells]:=fun HX hX=>Mine.obj (rows:= [(oneK l x).1.cells]) (fun r hr=>by rw[List.mem_singleton]at hr;rw[hr];rfl) hX
  refine mob _ ?_
  rw[List.getElem?_set_ne (by omega)]
  simp
 have l1:((ops.length:Int)==1)=false:=by
  rw[beq_eq_false_iff_ne];omega
 obtain⟨a,hoa,sa⟩:=T0.ex
 have w1:=sa.one
 have w2:=sa.cells
 simp (disch:=omega)only[go_sem,la,l1,hoa,w1,w2]
 unfold Tryz.r81_l14_50
 refine⟨fun m vs H'=>∃(k:Nat) (v:AV),k≤ops.length∧m=ops.length-k∧RTab H' p (rowsK l (ops.take k))∧But p H H'∧Mine 157 4 H' v ((resL l (ops.take k)).map ResA.cells)∧(∀ j,j<H.length→Off v j)∧(∀ r∈resL l (ops.take k),r.code=0)∧vs = [v, .v (.int .i64 k)],
  ops.length,⟨0,_,by omega,rfl,T0,But.refl,by simpa[resL]using Mine.nil,(fun j _=>offNil j),by simp[resL],rfl⟩,?_⟩
 rintro m H1 hl2 hlow3 v' n ⟨k',v,hkk',rfl,T1,b1,mi,offs,hz,hvs⟩
 simp only[List.cons.injEq,AV.v.injEq,Value.int.injEq,true_and,and_true]at hvs
 obtain⟨rfl,rfl⟩:=hvs
 have bl1:=b1.1
 have toBut:∀ {H':AH},Buts [p] h H'→But p h H':=fun b=>⟨b.1,fun j hj hne=>b.2 j hj (by simpa using hne)⟩
 have base:∀ {H':AH},But p H H'→Buts [p] h H':=fun b=>(Buts.grew g0).trans (Buts.but b (by simp))
 by_cases hkl':k'<ops.length
 rotate_left
 ·have hke:k'=ops.length:=by omega
  subst hke
  rw[List.take_of_length_le (by omega)]at T1 mi hz
  rw[doK_ok (fun _=>hz)]at hk
  have oF1:=hnotR T0 b1 (by decide) oF
  have g3:∀ o,(H1.set h.length o)[h.length]? = some o:=fun o=>List.getElem?_set_self (by omega)
  simp (disch:=omega)only[go_sem,la,oF1,g3,Nat.reduceAdd]
  refine ret_keep (hk _ _ (T1.setO oF1 (by decide) (by decide)) (toBut ((base b1).set (Nat.le_refl _))) (mi.keep fun id r g hi _=>?_))
  rw[List.getElem?_set_ne]
  ·exact hi
  ·rintro rfl
   rw[oF1]at hi
   cases hi
 obtain⟨x,hx⟩:∃ x,ops[k']? = some x:=⟨_,List.getElem?_eq_getElem hkl'⟩
 have hxm:=List.mem_of_getElem? hx
 have tk:ops.take (k'+1)=ops.take k' ++ [x]:=by rw[List.take_add_one,hx];rfl
 have ew:IntKind.i64.wrap ((k':Int)+1)=((k'+1:Nat):Int):=by rw[wrap64_of (by omega) (by omega)];omega
 obtain⟨q,q1,q2⟩:=rowAt hx H1 (toBut (base b1))
 have hrl:=rowsK_len (ops.take k') l
 rw[List.length_take]at hrl
 simp (disch:=omega)only[go_sem,la,q1,q2]
 refine⟨refOne_call G p (rowsK l (ops.take k')) x H1 _ T1 (by omega) (nkl x hxm).2 (nok x hxm) (n6 x hxm) fun H2 T2 b2=>?_⟩
 have b02:=b1.trans b2
 have bl2:=b2.1
 have oF2:=hnotR T0 b02 (by decide) oF
 have oF2':∀ t,(H2++t)[h.length]? = some (some (.cells 80 2 [[.v (.int .i64 0), .v (.int .i64 0)]] 0)):=fun t=>by
  rw[List.getElem?_append_left (by omega)];exact oF2
 obtain⟨y2,oT2,_⟩:=T2.ex
 have oT2':∀ t,(H2++t)[p]? = some (some (.cells 149 1 [[y2]] 0)):=fun t=>by
  rw[List.getElem?_append_left (List.getElem?_eq_some_iff.mp oT2).1];exact oT2
 have mi2:Mine 157 4 H2 v' ((resL l (ops.take k')).map ResA.cells):=by
  obtain⟨y,hy,_⟩:=T1.ex
  exact mi.keep fun id r g hi _=>butKeep b2 hy (by decide) hi
 have hlr:(resL l (ops.take k')).length=k':=by rw[resL_len,List.length_take];omega
 by_cases hc:(oneK (rowsK l (ops.take k')) x).1.code=0
 ·have hc':((oneK (rowsK l (ops.take k')) x).1.code != 0)=false:=by simp[hc]
  have fr:=fillRes (r:=(oneK (rowsK l (ops.take k')) x).1) (y:=bs []) (z:= .v (.slice none 0 0))
  simp (disch:=omega)only[go_sem,la,e0,hc',fr,Nat.reduceAdd]
  refine(mi2.more _).pushAt (i:=H2.length+1) (g:=0) (row:=(oneK (rowsK l (ops.take k')) x).1.cells) (e':=157) (by simp) Tryz.und78 Tryz.azero157 Tryz.byt157 (by exact Tryz.plainSrc78) rfl (by rw[List.length_map,hlr];omega) (by rw[List.length_map,hlr];omega) fun v57 H3 m3 hle3 st3=>?_
  simp only[List.length_append,List.length_cons,List.length_nil]at hle3
  have same:∀ j,j<H2.length→Off v' j→H3[j]? = H2[j]? ∧ Off v57 j:=fun j hj ho=>by
   obtain⟨e1,e2⟩:=st3 j (by simp;omega) ho
   rw[e1,List.getElem?_append_left hj]
   exact⟨rfl,e2⟩
  rw[ew]
  refine next_keep (ops.length-(k'+1)) (by omega) (by omega) ⟨k'+1,v57,by omega,rfl,?_,⟨by omega,fun j hj hne=>?_⟩,?_,fun j hj=>(same j (by omega) (offs j hj)).2,?_,rfl⟩
  ·rw[tk,rowsK_snoc]
   refine T2.keep (same _ T2.lt (mi2.offType oT2 (by decide))).1 ⟨by omega,fun j r g hj=>by
    rw[(same j (List.getElem?_eq_some_iff.mp hj).1 (mi2.offType hj (by decide))).1];exact hj⟩
  ·rw[(same j (by omega) (offs j hj)).1]
   exact b02.2 j hj hne
  ·rw[tk,resL_snoc,List.map_append]
   exact m3
  ·intro r hr
   rw[tk,resL_snoc,List.mem_append,List.mem_singleton]at hr
   rcases hr with hr|rfl
   ·exact hz r hr
   ·exact hc
 ·have hc':((oneK (rowsK l (ops.take k')) x).1.code != 0)=true:=by simpa using hc
  rw[doK_fail hx (by omega) hc hz]at hk
  have g5:∀ t o,((H2++t).set p o)[H2.length]? = (H2++t)[H2.length]?:=fun t o=>List.getElem?_set_ne (by have:=T2.lt;omega)
  simp (disch:=omega)only[go_sem,la,e0,hc',oT2',w1,w2,g5,Nat.one_ne_zero,if_false,Nat.reduceAdd]
  refine⟨refFault_call G _ _ _ _ fun t=>?_⟩
  have plt:=T.lt
  have nep:p≠h.length:=by omega
  have oF3:∀(y:AO) (t t':AH),((H2++t).set p (some y)++t')[h.length]? = some (some (.cells 80 2 [[.v (.int .i64 0), .v (.int .i64 0)]] 0)):=fun y t t'=>by
   rw[List.getElem?_append_left (by simp;omega),List.getElem?_set_ne nep];exact oF2' t
  have g3:∀(y:AO) (t t':AH) o,(((H2++t).set p (some y)++t').set h.length o)[h.length]? = some o:=fun y t t' o=>List.getElem?_set_self (by simp;omega)
  simp (disch:=omega)only[go_sem,oF3,g3,Nat.reduceAdd]
  have kp2:∀(id:Nat) (r:List (List AV)) (g:Nat),H[id]? = some (some (AO.cells 131 3 r g))→H2[id]? = some (some (AO.cells 131 3 r g)):=fun id r g hi=>hnotR (e:=131) T0 b02 (by decide) hi
  refine ret_keep (hk _ _ ?_ ?_ (by simpa using Mine.nil))
  ·refine⟨⟨a,?_,sa.keep fun id r g hi=>?_⟩,T0.rise,T0.len⟩
   ·rw[List.getElem?_set_ne (Ne.symm nep),List.getElem?_append_left (by simp;omega)]
    exact List.getElem?_set_self (by simp;omega)
   ·have hid:=(List.getElem?_eq_some_iff.mp hi).1
    rw[List.getElem?_set_ne (by rintro rfl;rw[oF]at hi;cases hi),List.getElem?_append_left (by simp;omega),List.getElem?_set_ne (by rintro rfl;rw[hoa]at hi;cases hi),List.getElem?_append_left (by omega)]
    exact kp2 id r g hi
  ·refine⟨by simp;omega,fun j hj hne=>?_⟩
   rw[List.getElem?_set_ne (by omega),List.getElem?_append_left (by simp;omega),List.getElem?_set_ne (Ne.symm hne),List.getElem?_append_left (by omega),b02.2 j (by omega) hne]
   obtain⟨t9,rfl⟩:=g0.ex
   exact List.getElem?_append_left hj
end Go.Proofs
namespace Go.Proofs
open Go Go.Abs
set_option maxRecDepth 100000
set_option linter.unusedSimpArgs false
theorem RTabs.at{h:AH} {b:AV} {qs:List Nat} {ls:List (List RowA)} (T:RTabs h b qs ls) {i q:Nat} (hq:qs[i]? = some q):∃ w,(∀ t,aIA Tryz.prog (h++t) 65 b (.v (.int .i64 (i:Int)))=some w)∧∀ t,aLoad Tryz.prog (h++t) 147 w=some (.ptr q 0 0 0):=by
 obtain⟨w,w1,w2,_⟩:=T.own.sees.iaAll (P:=Tryz.prog) (ty:=65) (k:= .i64) (i:=(i:Int)) (r:=prow q) Tryz.und65 Tryz.siz147 (by omega) (by simp[hq])
 refine⟨w,w1,fun t=>?_⟩
 have:=w2 t
 simp (disch:=omega)only[go_sem,this]
theorem RTabs.at0{h:AH} {b:AV} {qs:List Nat} {ls:List (List RowA)} (T:RTabs h b qs ls) {i q:Nat} (hq:qs[i]? = some q):∃ w,aIA Tryz.prog h 65 b (.v (.int .i64 (i:Int)))=some w∧aLoad Tryz.prog h 147 w=some (.ptr q 0 0 0):=by
 obtain⟨w,w1,w2⟩:=T.at hq
 have w1:=w1 []
 have w2:=w2 []
 rw[List.append_nil]at w1 w2
 exact⟨w,w1,w2⟩
theorem RTab.at{h:AH} {q:Nat} {l:List RowA} (T:RTab h q l):∃ y,h[q]? = some (some (.cells 149 1 [[y]] 0))∧Own 131 3 h y (l.map RowA.cells)∧y.one=true∧y.cells = [y]∧aLen Tryz.prog h 47 y=some (.v (.int .i64 l.length)):=by
 obtain⟨y,hy,s⟩:=T.ex
 have:=s.sees.len (P:=Tryz.prog) (t:=47) Tryz.und47
 rw[List.length_map]at this
 exact⟨y,hy,s,s.one,s.cells,this⟩
theorem refCheck22_call(G:Nat→Option AV)(c:Chg) (W1 W2 b:AV) (qs:List Nat)(ls:List (List RowA))(h:AH) (K:AV→AH→Prop)(k1:Wt h W1 c.was.wts)(k2:Wt h W2 c.will.wts)(hl1:c.was.wts.length≤17592186044415)(hl2:c.will.wts.length≤17592186044415)(hcl:c.cur.length≤4611686018427387904)(T:RTabs h b qs ls)(hl:ls.length≤1000)(hkey:∀ l∈ls,∀ r∈l,r.key.length≤4611686018427387904)
  (hkL:c.ok=false→∀ t,K (.v (.int .i64 70)) (h++t))(hkS:c.ok=true→ls.length≠c.will.wts.length→∀ t,K (.v (.int .i64 4)) (h++t))(hkC:c.ok=true→ls.length=c.will.wts.length→¬ ApartT c ls→∀ t,K (.v (.int .i64 220)) (h++t))(hk0:c.ok=true→ls.length=c.will.wts.length→ApartT c ls→∀ t,K (.v (.int .i64 0)) (h++t)):SCall Tryz.prog G 32 [.agg (c.cells W1 W2),b] h K:=by
 refine Tryz.c32 G _ _ h K fun hlow=>?_
 unfold Tryz.r32
 have w11:=k1.one
 have w12:=k1.cells
 have w21:=k2.one
 have w22:=k2.cells
 have hlen:=T.len
 simp (disch:=omega)only[go_sem,w11,w12,w21,w22,Nat.reduceAdd]
 refine⟨refChgMay_call G c W1 W2 _ _ (k1.app _) (k2.app _) (by omega) (by omega) hcl ?_⟩
 cases hok:c.ok with
 | false=>
  simp (disch:=omega)only[go_sem,Bool.not_false]
  exact ret_keep (hkL hok _)
 | true=>
 have k2H:=k2.app [some (AO.cells 68 6 [c.cells W1 W2] 0)]
 have l2:=k2H.ints.len (P:=Tryz.prog) (t:=31) Tryz.und31
 rw[List.length_map]at l2
 have T':=T.grew (Grew.app [some (AO.cells 68 6 [c.cells W1 W2] 0)])
 have lb:=T'.own.sees.len (P:=Tryz.prog) (t:=65) Tryz.und65
 rw[List.length_map]at lb
 by_cases hs:ls.length=c.will.wts.length
 rotate_left
 ·have hne:((qs.length:Int) != (c.will.wts.length:Int))=true:=by simp;omega
  simp (disch:=omega)only[go_sem,Bool.not_true,lb,w21,w22,l2,hne]
  exact ret_keep (hkS hok hs _)
 have hne:((qs.length:Int) != (c.will.wts.length:Int))=false:=by simp;omega
 simp (disch:=omega)only[go_sem,Bool.not_true,lb,w21,w22,l2,hne]
 have o0:(h ++ [some (AO.cells 68 6 [c.cells W1 W2] 0)])[h.length]? = some (some (.cells 68 6 [c.cells W1 W2] 0)):=by simp
 have k1H:=k1.app [some (AO.cells 68 6 [c.cells W1 W2] 0)]
 obtain⟨H,hH⟩:∃ X,h ++ [some (AO.cells 68 6 [c.cells W1 W2] 0)]=X:=⟨_,rfl⟩
 rw[hH]at l2 lb T' k1H k2H o0
 simp only[hH]
 unfold Tryz.r32_l6_9
 refine⟨fun m vs H'=>∃ k:Nat,k≤qs.length∧m=qs.length-k∧H'=H∧(∀(i:Nat) (l:List RowA),i<k→ls[i]? = some l→∀ r∈l,c.owner r.key=i)∧vs = [.v (.int .i64 k)],qs.length,⟨0,by omega,rfl,rfl,(fun i l hi=>absurd hi (Nat.not_lt_zero _)),rfl⟩,?_⟩
 rintro m H1 hl1' hlow2 n ⟨k,hkk,rfl,rfl,hown,hvs⟩
 simp only[List.cons.injEq,AV.v.injEq,Value.int.injEq,true_and,and_true]at hvs
 subst hvs
 by_cases hkl:k<qs.length
 rotate_left
 ·simp (disch:=omega)only[go_sem,lb]
  have:=hk0 hok hs (fun i l hi=>hown i l (by have:=(List.getElem?_eq_some_iff.mp hi).1;omega) hi) [some (AO.cells 68 6 [c.cells W1 W2] 0)]
  rw[hH]at this
  exact ret_keep this
 obtain⟨l,hlk⟩:∃ l,ls[k]? = some l:=⟨_,List.getElem?_eq_getElem (by omega)⟩
 obtain⟨q,hqk⟩:∃ q,qs[k]? = some q:=⟨_,List.getElem?_eq_getElem hkl⟩
 have TH:=T'.tab k q l hqk hlk
 obtain⟨y,hy,s,y1,y2,y3⟩:=TH.at
 obtain⟨w,x1,x2⟩:=T'.at0 hqk
 have hll:=TH.len
 simp (disch:=omega)only[go_sem,lb]
 unfold Tryz.r32_l9_15
 refine⟨fun m vs H'=>∃ j:Nat,j≤l.length∧m=l.length-j∧H'=H1∧(∀ r∈l.take j,c.owner r.key=k)∧vs = [.v (.int .i64 j)],l.length,⟨0,by omega,rfl,rfl,by simp,rfl⟩,?_⟩
 rintro m H3 hl3 hlow3 n ⟨j,hj,rfl,rfl,hj2,hvs⟩
 simp only[List.cons.injEq,AV.v.injEq,Value.int.injEq,true_and,and_true]at hvs
 subst hvs
 by_cases hjl:j<l.length
 ·obtain⟨r,hr⟩:∃ r,l[j]? = some r:=⟨_,List.getElem?_eq_getElem hjl⟩
  have hrm:=List.mem_of_getElem? hr
  obtain⟨p,u,p1,p2,u1,u2⟩:=keyOf s.sees hr
  have p1:=p1 []
  have u2:=u2 []
  rw[List.append_nil]at p1 u2
  have ewj:IntKind.i64.wrap ((j:Int)+1)=((j+1:Nat):Int):=by rw[wrap64_of (by omega) (by omega)];omega
  simp (disch:=omega)only[go_sem,x1,x2,hy,y1,y2,y3,p1,u1,u2,o0,w11,w12,w21,w22]
  refine⟨refOwner_call G c r.key W1 W2 _ _ k1H k2H (by omega) (by omega) hcl (hkey l (List.mem_of_getElem? hlk) r hrm) ?_⟩
  by_cases ho:c.owner r.key=(k:Int)
  ·have hz:(c.owner r.key != (k:Int))=false:=by simp[ho]
   simp (disch:=omega)only[go_sem,extV,hok,if_true,hz,ewj]
   refine next_keep (l.length-(j+1)) (by omega) (Nat.le_refl _) ⟨j+1,by omega,rfl,rfl,?_,rfl⟩
   intro x hx
   rw[List.take_add_one,hr]at hx
   simp only[Option.toList_some,List.mem_append,List.mem_singleton]at hx
   rcases hx with hx|rfl
   ·exact hj2 x hx
   ·exact ho
  ·have hz:(c.owner r.key != (k:Int))=true:=by simp[ho]
   simp (disch:=omega)only[go_sem,extV,hok,if_true,hz]
   have:=hkC hok hs (fun hap=>ho (hap k l hlk r hrm)) [some (AO.cells 68 6 [c.cells W1 W2] 0)]
   rw[hH]at this
   exact ret_keep this
 ·have ewk:IntKind.i64.wrap ((k:Int)+1)=((k+1:Nat):Int):=by rw[wrap64_of (by omega) (by omega)];omega
  have:j=l.length:=by omega
  subst this
  rw[List.take_length]at hj2
  simp (disch:=omega)only[go_sem,x1,x2,hy,y1,y2,y3,ewk]
  refine next_keep (qs.length-(k+1)) (by omega) (Nat.le_refl _) ⟨k+1,by omega,rfl,rfl,fun i l' hi hli=>?_,rfl⟩
  by_cases hik:i=k
  ·subst hik
   rw[hlk]at hli
   obtain rfl:=Option.some.inj hli
   exact hj2
  ·exact hown i l' (by omega) hli
end Go.Proofs
namespace Go.Proofs
open Go Go.Abs
set_option maxRecDepth 100000
set_option linter.unusedSimpArgs false
theorem set_flat{α:Type} {R:List (List α)} {o:Nat} {r:α} {t:List α} (h:R[o]? = some (r::t)):(R.set o t).flatten.length+1=R.flatten.length:=by
 obtain⟨hlt,he⟩:=List.getElem?_eq_some_iff.mp h
 have e1:R=R.take o++(r::t)::R.drop (o+1):=by
  rw[← he,List.getElem_cons_drop,List.take_append_drop]
 have e2:R.set o t=R.take o++t::R.drop (o+1):=List.set_eq_take_append_cons_drop.trans (by rw[if_pos hlt])
 rw[e2]
 conv=>rhs;rw[e1]
 simp only[List.flatten_append,List.flatten_cons,List.length_append,List.length_cons]
 omega
theorem refAll_call(G:Nat→Option AV) (b:AV) (qs:List Nat)(ls:List (List RowA))(h:AH) (K:AV→AH→Prop)(T:RTabs h b qs ls)(hl:ls.length≤1000)(htot:ls.flatten.length≤10000000)
  (hk:∀(S:List RowA) v h',AllOf ls S→Mine 131 3 h' v (S.map RowA.cells)→Grew h h'→(∀ j,j<h.length→Off v j)→K v h'):SCall Tryz.prog G 33 [b] h K:=by
 refine Tryz.c33 G _ h K fun hlow=>?_
 unfold Tryz.r33
 have hlen:=T.len
 have lb0:=T.own.sees.len (P:=Tryz.prog) (t:=65) Tryz.und65
 rw[List.length_map]at lb0
 have rise:∀ l∈ls,Rise l:=fun l hl=>by
  obtain⟨i,hi⟩:=List.mem_iff_getElem?.mp hl
  obtain⟨p,hp⟩:∃ p,qs[i]? = some p:=⟨_,List.getElem?_eq_getElem (by have:=(List.getElem?_eq_some_iff.mp hi).1;omega)⟩
  exact(T.tab i p l hp hi).rise
 have e0:(ByteArray.mk #[])=bs []:=rfl
 simp (disch:=omega)only[go_sem,lb0,Int.toNat_natCast,Nat.reduceAdd]
 unfold Tryz.r33_l3_3
 have z0:(List.replicate qs.length [AV.v (.int .i64 0)])=(((List.replicate ls.length 0).map fun(n:Nat)=>(n:Int)).map irow):=by rw[hlen];simp
 refine⟨fun m vs H=>∃(N:List Nat) (v:AV) (S:List RowA),N.length=ls.length∧m=(restK ls N).flatten.length∧S.length+m=ls.flatten.length∧H[h.length]? = some (some (.cells 3 1 ((N.map fun(n:Nat)=>(n:Int)).map irow) 0))∧Grew h H∧Mine 131 3 H v (S.map RowA.cells)∧(∀ j,j≤h.length→Off v j)∧(∀ U,Picks (restK ls N) U→Picks ls (S++U))∧vs = [v],
  ls.flatten.length,⟨List.replicate ls.length 0,_, [],by simp,by rw[restK_zero],by simp,by rw[← z0];simp,Grew.app _,by simpa using Mine.nil,fun j _=>offNil j,fun U hU=>by rw[restK_zero]at hU;simpa using hU,rfl⟩,?_⟩
 rintro m H hl1 hlow2 v' ⟨N,v,S,hN,rfl,htl,oN,g,mv,offs,hP,hvs⟩
 simp only[List.cons.injEq,and_true]at hvs
 subst hvs
 have gl:=g.len
 have TH:=T.grew g
 have lb:=TH.own.sees.len (P:=Tryz.prog) (t:=65) Tryz.und65
 rw[List.length_map]at lb
 have Rl:(restK ls N).length=ls.length:=by unfold restK;simp;omega
 have iaN:∀ k:Nat,k<ls.length→aIA Tryz.prog H 31 (.sl h.length 0 0 qs.length none) (.v (.int .i64 (k:Int)))=some (.ptr h.length 0 k 0):=fun k hk=>longIA oN (by simp;omega) (by omega)
 have ldN:∀(k n:Nat),N[k]? = some n→Go.Abs.rowAt H (.ptr h.length 0 k 0)=some (irow (n:Int),0):=fun k n hn=>longLd oN (by simp[hn])
 unfold Tryz.r33_l5_8
 refine⟨fun m vs H'=>∃(k:Nat) (bst:Int),k≤ls.length∧m=ls.length-k∧H'=H∧BestB (restK ls N) k bst∧vs = [.v (.int .i64 bst), .v (.int .i64 k)],ls.length,⟨0, -1,by omega,rfl,rfl,BestB.zero _,rfl⟩,?_⟩
 rintro m H1 hl2 hlow3 n12 n13 ⟨k,bst,hkk,rfl,rfl,hB,hvs⟩
 simp only[List.cons.injEq,AV.v.injEq,Value.int.injEq,true_and,and_true]at hvs
 obtain⟨rfl,rfl⟩:=hvs
 by_cases hkl:k<ls.length
 ·obtain⟨l,hlk⟩:∃ l,ls[k]? = some l:=⟨_,List.getElem?_eq_getElem hkl⟩
  obtain⟨q,hqk⟩:∃ q,qs[k]? = some q:=⟨_,List.getElem?_eq_getElem (by omega)⟩
  obtain⟨n,hnk⟩:∃ n,N[k]? = some n:=⟨_,List.getElem?_eq_getElem (by omega)⟩
  have U:=TH.tab k q l hqk hlk
  obtain⟨y,hy,s,y1,y2,y3⟩:=U.at
  obtain⟨w,x1,x2⟩:=TH.at0 hqk
  have hll:=U.len
  have a1:=iaN k hkl
  have a2:=ldN k n hnk
  have ew:IntKind.i64.wrap ((k:Int)+1)=((k+1:Nat):Int):=by rw[wrap64_of (by omega) (by omega)];omega
  have hR:=restK_get hlk hnk
  by_cases hnl:n<l.length
  rotate_left
  ·rw[List.drop_eq_nil_of_le (by omega)]at hR
   simp (disch:=omega)only[go_sem,lb,a1,a2,x1,x2,hy,y1,y2,y3,ew]
   exact next_keep (ls.length-(k+1)) (by omega) (Nat.le_refl _) ⟨k+1,n12,by omega,rfl,rfl,hB.skip hR,rfl⟩
  obtain⟨r,hr⟩:∃ r,l[n]? = some r:=⟨_,List.getElem?_eq_getElem hnl⟩
  have hR:(restK ls N)[k]? = some (r::l.drop (n+1)):=by
   rw[hR]
   obtain⟨g1,g2⟩:=List.getElem?_eq_some_iff.mp hr
   rw[← List.getElem_cons_drop g1,g2]
  by_cases hb0:n12<0
  ·have hm1:n12 = -1:=by
    rcases hB with⟨h,_⟩|⟨o,_,_,h,_⟩ <;> omega
   subst hm1
   simp (disch:=omega)only[go_sem,lb,a1,a2,x1,x2,hy,y1,y2,y3,ew]
   exact next_keep (ls.length-(k+1)) (by omega) (Nat.le_refl _) ⟨k+1,(k:Int),by omega,rfl,rfl,hB.first hR,rfl⟩
  obtain⟨o,rfl⟩:∃ o:Nat,n12=o:=⟨n12.toNat,by omega⟩
  obtain⟨ho,r',t',hRo⟩:o<k∧∃ r' t',(restK ls N)[o]? = some (r'::t'):=by
   rcases hB with⟨h,_⟩|⟨o',r',t',h,h1,h2,_⟩
   ·omega
   ·obtain rfl:o=o':=by omega
    exact⟨h1,r',t',h2⟩
  obtain⟨l',hlo⟩:∃ l,ls[o]? = some l:=⟨_,List.getElem?_eq_getElem (by omega)⟩
  obtain⟨q',hqo⟩:∃ q,qs[o]? = some q:=⟨_,List.getElem?_eq_getElem (by omega)⟩
  obtain⟨n',hno⟩:∃ n,N[o]? = some n:=⟨_,List.getElem?_eq_getElem (by omega)⟩
  have hro:l'[n']? = some r':=by
   have:=restK_get hlo hno
   rw[hRo]at this
   have:=congrArg (fun x=>x[0]?) (Option.some.inj this)
   simpa using this.symm
  obtain⟨y',hy',s',z1,z2,z3⟩:=(TH.tab o q' l' hqo hlo).at
  obtain⟨w',x1',x2'⟩:=TH.at0 hqo
  have a1':=iaN o (by omega)
  have a2':=ldN o n' hno
  obtain⟨p,u,p1,_,u1,u2⟩:=keyOf s.sees hr
  obtain⟨p',u',p1',_,u1',u2'⟩:=keyOf s'.sees hro
  have p1:=p1 []
  have u2:=u2 []
  have p1':=p1' []
  have u2':=u2' []
  rw[List.append_nil]at p1 u2 p1' u2'
  cases hbl:bl r.key r'.key with
  | true=>
   have hbl':Op.bytesLess r.key r'.key=true:=hbl
   simp (disch:=omega)only[go_sem,lb,a1,a2,x1,x2,hy,y1,y2,y3,a1',a2',x1',x2',hy',z1,z2,z3,p1,u1,u2,p1',u1',u2',bs_toList,hbl',ew]
   exact next_keep (ls.length-(k+1)) (by omega) (Nat.le_refl _) ⟨k+1,(k:Int),by omega,rfl,rfl,hB.less hRo hR hbl,rfl⟩
  | false=>
   have hbl':Op.bytesLess r.key r'.key=false:=hbl
   simp (disch:=omega)only[go_sem,lb,a1,a2,x1,x2,hy,y1,y2,y3,a1',a2',x1',x2',hy',z1,z2,z3,p1,u1,u2,p1',u1',u2',bs_toList,hbl',ew]
   exact next_keep (ls.length-(k+1)) (by omega) (Nat.le_refl _) ⟨k+1,(o:Int),by omega,rfl,rfl,hB.keep hRo hR hbl,rfl⟩
 have hke:k=(restK ls N).length:=by omega
 subst hke
 by_cases hb0:n12<0
 ·have hm1:n12 = -1:=by
   rcases hB with⟨h,_⟩|⟨o,_,_,h,_⟩ <;> omega
  subst hm1
  simp (disch:=omega)only[go_sem,lb]
  have:=hP [] hB.none
  rw[List.append_nil]at this
  exact ret_keep (hk S v' _ (this.all rise) mv g fun j hj=>offs j (by omega))
 obtain⟨o,rfl⟩:∃ o:Nat,n12=o:=⟨n12.toNat,by omega⟩
 obtain⟨ho,r',t',hRo⟩:o<(restK ls N).length∧∃ r' t',(restK ls N)[o]? = some (r'::t'):=by
  rcases hB with⟨h,_⟩|⟨o',r',t',h,h1,h2,_⟩
  ·omega
  ·obtain rfl:o=o':=by omega
   exact⟨h1,r',t',h2⟩
 obtain⟨l',hlo⟩:∃ l,ls[o]? = some l:=⟨_,List.getElem?_eq_getElem (by omega)⟩
 obtain⟨q',hqo⟩:∃ q,qs[o]? = some q:=⟨_,List.getElem?_eq_getElem (by omega)⟩
 obtain⟨n',hno⟩:∃ n,N[o]? = some n:=⟨_,List.getElem?_eq_getElem (by omega)⟩
 have hRe:=restK_get hlo hno
 have hro:l'[n']? = some r':=by
  have:=hRe
  rw[hRo]at this
  have:=congrArg (fun x=>x[0]?) (Option.some.inj this)
  simpa using this.symm
 have ht':t'=l'.drop (n'+1):=by
  obtain⟨g1,g2⟩:=List.getElem?_eq_some_iff.mp hro
  rw[hRo,← List.getElem_cons_drop g1]at hRe
  exact(List.cons.inj (Option.some.inj hRe)).2
 obtain⟨y',hy',s',z1,z2,z3⟩:=(TH.tab o q' l' hqo hlo).at
 obtain⟨w',x1',x2'⟩:=TH.at0 hqo
 have hll':=(TH.tab o q' l' hqo hlo).len
 have hnl':=(List.getElem?_eq_some_iff.mp hro).1
 have a1':=iaN o (by omega)
 have a2':=ldN o n' hno
 obtain⟨p',u',p1',p2',u1',u2'⟩:=keyOf s'.sees hro
 have p1':=p1' []
 have p2':=p2' []
 rw[List.append_nil]at p1' p2'
 have fr:=fillRow (r:=r') (x:=bs []) (y:=bs [])
 have hfl:=set_flat hRo
 simp (disch:=omega)only[go_sem,lb,a1',a2',x1',x2',hy',z1,z2,z3,p1',p2',e0,fr]
 refine(mv.more _).pushAt (i:=H1.length) (g:=0) (row:=r'.cells) (e':=131) (by simp) Tryz.und47 Tryz.azero131 Tryz.byt131 (by exact Tryz.plainSrc47) rfl (by rw[List.length_map];omega) (by rw[List.length_map];omega) fun v3 H3 m3 hle3 st3=>?_
 simp only[List.length_append,List.length_cons,List.length_nil]at hle3
 have below:∀ j,j≤h.length→H3[j]? = H1[j]? ∧ Off v3 j:=fun j hj=>by
  have hil:=(List.getElem?_eq_some_iff.mp oN).1
  obtain⟨c1,c2⟩:=st3 j (by simp;omega) (offs j hj)
  rw[c1,List.getElem?_append_left (by omega)]
  exact⟨rfl,c2⟩
 have oN3:H3[h.length]? = some (some (.cells 3 1 ((N.map fun(n:Nat)=>(n:Int)).map irow) 0)):=by rw[(below _ (Nat.le_refl _)).1];exact oN
 have iaN3:aIA Tryz.prog H3 31 (.sl h.length 0 0 qs.length none) (.v (.int .i64 (o:Int)))=some (.ptr h.length 0 o 0):=longIA oN3 (by simp;omega) (by omega)
 have ldN3:Go.Abs.rowAt H3 (.ptr h.length 0 o 0)=some (irow (n':Int),0):=longLd oN3 (by simp[hno])
 have ewn:IntKind.i64.wrap ((n':Int)+1)=((n'+1:Nat):Int):=by rw[wrap64_of (by omega) (by omega)];omega
 simp (disch:=omega)only[go_sem,iaN3,ldN3,ewn]
 refine longSt oN3 (by simp;omega) ?_
 have hil3:=(List.getElem?_eq_some_iff.mp oN3).1
 have eN:((N.map fun(n:Nat)=>(n:Int)).set o ((n'+1:Nat):Int))=((N.set o (n'+1)).map fun(n:Nat)=>(n:Int)):=by rw[List.map_set]
 rw[eN]
 have hset:=restK_set (n:=n'+1) hlo hN.symm
 rw[← ht']at hset
 refine next_keep (restK ls (N.set o (n'+1))).flatten.length (by rw[hset];omega) (by rw[List.length_set];omega) ⟨N.set o (n'+1),v3,S ++ [r'],by rw[List.length_set];exact hN,rfl,by rw[hset,List.length_append];simp only[List.length_singleton];omega,List.getElem?_set_self hil3,?_,?_,fun j hj=>(below j hj).2,fun U hU=>?_,rfl⟩
 ·refine Grew.mk (ext_of (by rw[List.length_set];omega) fun j hj=>?_)
  rw[List.getElem?_set_ne (by omega),(below j (by omega)).1]
  obtain⟨t,rfl⟩:=g.ex
  exact List.getElem?_append_left hj
 ·rw[List.map_append]
  refine m3.keep fun id r g' hi _=>?_
  rw[List.getElem?_set_ne]
  ·exact hi
  ·rintro rfl
   rw[oN3]at hi
   cases hi
 ·rw[hset]at hU
  have:=hP (r'::U) (hB.pick hRo hU)
  rw[List.append_assoc]
  exact this
end Go.Proofs
namespace Go.Proofs
open Go Go.Abs
set_option maxRecDepth 100000
set_option linter.unusedSimpArgs false
theorem RTabs.keepO{h h':AH} {a:AV} {ps:List Nat} {ls:List (List RowA)} (T:RTabs h a ps ls)(b:Buts ps h h') {j:Nat} {e:TypeId} {n g:Nat} {r:List (List AV)} (he:e≠149)(hj:h[j]? = some (some (.cells e n r g))):h'[j]? = some (some (.cells e n r g)):=by
 rw[b.2 j (List.getElem?_eq_some_iff.mp hj).1 ?_]
 ·exact hj
 ·intro hm
  obtain⟨i,hi⟩:=List.mem_iff_getElem?.mp hm
  have hil:=(List.getElem?_eq_some_iff.mp hi).1
  have hlen:=T.len
  obtain⟨l,hl⟩:∃ l,ls[i]? = some l:=⟨_,List.getElem?_eq_getElem (by omega)⟩
  obtain⟨y,hy,_⟩:=(T.tab i j l hi hl).ex
  rw[hy]at hj
  cases hj
  exact he rfl
theorem RTabs.set{h h':AH} {a:AV} {ps:List Nat} {ls:List (List RowA)} (T:RTabs h a ps ls)(hnd:ps.Nodup) {i p:Nat} {l':List RowA} (hp:ps[i]? = some p)(b:But p h h')(Tp:RTab h' p l'):RTabs h' a ps (ls.set i l'):=by
 have hil:=(List.getElem?_eq_some_iff.mp hp).1
 have hlen:=T.len
 obtain⟨l,hl⟩:∃ l,ls[i]? = some l:=⟨_,List.getElem?_eq_getElem (by omega)⟩
 have Ti:=T.tab i p l hp hl
 refine⟨?_,by rw[List.length_set];exact hlen,fun j q m hq hm=>?_⟩
 ·refine T.own.keep fun id r g hi=>?_
  exact T.keepO (Buts.but b (List.mem_of_getElem? hp)) (by decide) hi
 ·by_cases hij:i=j
  ·subst hij
   rw[hp]at hq
   obtain rfl:=Option.some.inj hq
   rw[List.getElem?_set_self (by omega)]at hm
   obtain rfl:=Option.some.inj hm
   exact Tp
  ·rw[List.getElem?_set_ne hij]at hm
   refine(T.tab j q m hq hm).keep (b.2 q (T.tab j q m hq hm).lt fun e=>?_) (Ti.wKeep b)
   subst e
   obtain⟨a1,a2⟩:=List.getElem?_eq_some_iff.mp hp
   obtain⟨b1,b2⟩:=List.getElem?_eq_some_iff.mp hq
   rcases Nat.lt_or_ge i j with hlt|hge
   ·have:=(List.pairwise_iff_getElem.mp hnd) i j a1 b1 hlt
    rw[a2,b2]at this
    exact this rfl
   ·have:=(List.pairwise_iff_getElem.mp hnd) j i b1 a1 (by omega)
    rw[a2,b2]at this
    exact this rfl
theorem RTabs.put{h:AH} {a:AV} {ps:List Nat} {ls:List (List RowA)} (T:RTabs h a ps ls) {j:Nat} {e:TypeId} {n g:Nat} {r:List (List AV)} {o:Option AO} (hj:h[j]? = some (some (.cells e n r g)))(h1:e≠149)(h2:e≠131)(h3:e≠147):RTabs (h.set j o) a ps ls:=by
 have other:∀ {id:Nat} {e':TypeId} {n' g':Nat} {r':List (List AV)},h[id]? = some (some (.cells e' n' r' g'))→e'≠e→(h.set j o)[id]? = h[id]?:=fun {id e' n' g' r'} hi he=>by
  refine List.getElem?_set_ne ?_
  rintro rfl
  rw[hj]at hi
  cases hi
  exact he rfl
 refine⟨T.own.keep fun id r' g' hi=>(other hi (Ne.symm h3)).trans hi,T.len,fun i p l hp hl=>?_⟩
 have Tp:=T.tab i p l hp hl
 obtain⟨x,hx,_⟩:=Tp.ex
 exact Tp.keep (other hx (Ne.symm h1)) ⟨by simp,fun id r' g' hi=>(other hi (Ne.symm h2)).trans hi⟩
theorem slIA{h:AH} {i k n:Nat} {L:List (List AV)} (o:h[i]? = some (some (.cells 47 1 L 0)))(hn:n=L.length)(hk:k<n):aIA Tryz.prog h 44 (.sl i 0 0 n none) (.v (.int .i64 (k:Int)))=some (.ptr i 0 k 0):=by
 subst hn
 unfold aIA
 rw[Tryz.und44]
 simp only[Tryz.siz47,o,chk]
 rw[if_pos ⟨trivial,trivial,by omega,by omega⟩]
 simp
theorem slSt{h:AH} {i k:Nat} {L:List (List AV)} {y:AV} {K:AV→AH→Prop} (o:h[i]? = some (some (.cells 47 1 L 0)))(hk:k<L.length)(y1:y.one=true)(y2:y.cells = [y])(hK:∀ x,K (.tup []) (h.set i (some (.cells 47 1 (L.set k x) 0)))):storeC Tryz.prog h K 47 y i 0 k 0 h[i]?:=by
 have hy':=List.getElem?_eq_getElem hk
 rw[o]
 simp only[storeC,hy',okP,y2]
 exact⟨⟨trivial,y1,Tryz.siz47,Nat.le_refl 1⟩,hK _⟩
theorem refTakeOut_call(G:Nat→Option AV) (p:Nat) (l:List RowA)(r:RowA)(h:AH) (K:AV→AH→Prop)(T:RTab h p l)(hlen:l.length≤100000)(hr:r∈l)(hk:∀ h',RTab h' p (delK l r.key)→But p h h'→K (.agg r.cells) h'):SCall Tryz.prog G 73 [.ptr p 0 0 0, .v (.string (bs r.key))] h K:=by
 refine Tryz.c73 G _ _ h K fun hlow=>?_
 unfold Tryz.r73
 have e0:(ByteArray.mk #[])=bs []:=rfl
 have pl:=T.lt
 obtain⟨a,ho,s⟩:=T.ex
 have a1:=s.one
 have a2:=s.cells
 have hh:hasK l r.key=true:=by
  obtain⟨i,hi⟩:=List.mem_iff_getElem?.mp hr
  refine hasK_iff.mpr ⟨r,?_,rfl⟩
  have:lbK l r.key=i:=lbK_eq (Nat.le_of_lt (List.getElem?_eq_some_iff.mp hi).1) (fun j x hj hx=>rise_at T.rise hx hi hj) (fun x hx=>by rw[hi]at hx;rw[← Option.some.inj hx];exact bl_irrefl _)
  rw[this]
  exact hi
 obtain⟨r',hr1,hr2⟩:=hasK_iff.mp hh
 have hrr:r'=r:=rise_key T.rise (List.mem_of_getElem? hr1) hr hr2
 subst hrr
 have hlb:=lbK_le l r'.key
 have hhl:=hiK_le l r'.key
 have hhi:hiK l r'.key=lbK l r'.key+1:=by unfold hiK;rw[hh];rfl
 have hlt:=(List.getElem?_eq_some_iff.mp hr1).1
 have ew:IntKind.i64.wrap ((lbK l r'.key:Int)+1)=((lbK l r'.key+1:Nat):Int):=by rw[wrap64_of (by omega) (by omega)];omega
 obtain⟨q,u,q1,q2,u1,u2⟩:=keyOf s.sees hr1
 obtain⟨x1,e1,s1⟩:=s.upto (P:=Tryz.prog) (t:=47) (k:= .i64) Tryz.und47 Tryz.siz131 (m:=lbK l r'.key) (by simpa using hlb)
 obtain⟨x2,e2,s2⟩:=s.from (P:=Tryz.prog) (t:=47) (k:= .i64) Tryz.und47 Tryz.siz131 (m:=lbK l r'.key+1) (by simp;omega)
 have ho':∀ t:AH,(h++t)[p]? = _:=fun t=>(List.getElem?_append_left pl).trans ho
 simp (disch:=omega)only[go_sem,Nat.reduceAdd]
 refine⟨refFind_call G p l r'.key _ _ (T.grew (Grew.app _)) ?_⟩
 rw[hh]
 simp (disch:=omega)only[go_sem,extV,ho',a1,a2,q1,q2,e1,e2,ew,e0,Nat.reduceAdd,Nat.one_ne_zero,if_false]
 have eL:(h ++ [some (AO.cells 131 3 [[AV.v (.string (bs [])),AV.v (.int .i64 0),AV.v (.string (bs []))]] 0)]).length=h.length+1:=by simp
 rw[eL]
 obtain⟨H0,hH0⟩:∃ X,h ++ [some (AO.cells 131 3 [[AV.v (.string (bs [])),AV.v (.int .i64 0),AV.v (.string (bs []))]] 0),some (AO.cells 131 3 [r'.cells] 0),some (AO.cells 131 3 [] 0)]=X:=⟨_,rfl⟩
 have g0:Grew h H0:=by rw[← hH0];exact Grew.app _
 have hl0:H0.length=h.length+3:=by rw[← hH0];simp
 have o0:H0[h.length]? = some (some (.cells 131 3 [[AV.v (.string (bs [])),AV.v (.int .i64 0),AV.v (.string (bs []))]] 0)):=by rw[← hH0];simp
 have o1:H0[h.length+1]? = some (some (.cells 131 3 [r'.cells] 0)):=by rw[← hH0];simp
 have o2:H0[h.length+2]? = some (some (.cells 131 3 [] 0)):=by rw[← hH0];simp
 have s1':Own 131 3 H0 x1 ((l.map RowA.cells).take (lbK l r'.key)):=by rw[← hH0];exact s1.more _
 have b0:∀ j,j<h.length→H0[j]? = h[j]?:=fun j hj=>by rw[← hH0];exact List.getElem?_append_left hj
 have hH0':=hH0
 unfold RowA.cells at hH0'
 rw[hH0']
 refine(Mine.obj (rows:= []) (id:=h.length+2) (g:=0) (by simp) o2:Mine 131 3 H0 (.sl (h.length+2) 0 0 0 none) []).append (new:=(l.map RowA.cells).take (lbK l r'.key)) Tryz.und47 Tryz.azero131 Tryz.byt131 (by exact Tryz.plainSrc47) s1'.sees.src s1.rowsLen (by rintro⟨y,rfl⟩;cases s1) (by simp;omega) (by simp;omega) fun x3 H1 m1 hle1 st1=>?_
 simp only[List.nil_append]at m1
 have b1:∀ j,j<h.length+2→H1[j]? = H0[j]? ∧ Off x3 j:=fun j hj=>st1 j (by omega) (fun id g o l c hx hid=>by simp only[AV.sl.injEq]at hx;omega)
 have g1:Grew h H1:=Grew.mk (ext_of (by omega) fun j hj=>(b1 j (by omega)).1.trans (b0 j hj))
 have ho1:H1[p]? = _:=(b1 p (by omega)).1.trans ((b0 p pl).trans ho)
 have e2'':aSlice Tryz.prog H1 47 a (some (some (.v (.int .i64 ((lbK l r'.key+1:Nat):Int))))) none none=some x2:=by obtain⟨t,rfl⟩:=g1.ex;exact e2 t
 have s2':Own 131 3 H1 x2 ((l.map RowA.cells).drop (lbK l r'.key+1)):=by obtain⟨t,rfl⟩:=g1.ex;exact s2.more t
 simp (disch:=omega)only[go_sem,ho1,a1,a2,e2'',ew]
 refine m1.append (new:=(l.map RowA.cells).drop (lbK l r'.key+1)) Tryz.und47 Tryz.azero131 Tryz.byt131 (by exact Tryz.plainSrc47) s2'.sees.src s2'.rowsLen (by rintro⟨y,rfl⟩;cases s2') (by simp;omega) (by simp;omega) fun x5 H3 m3 hle3 st3=>?_
 have b3:∀ j,j<h.length+2→H3[j]? = H0[j]? ∧ Off x5 j:=fun j hj=>by
  obtain⟨c1,c2⟩:=st3 j (by omega) (b1 j hj).2
  exact⟨c1.trans (b1 j hj).1,c2⟩
 have ho3:H3[p]? = _:=(b3 p (by omega)).1.trans ((b0 p pl).trans ho)
 have v1:=m3.one
 have v2:=m3.cells
 have o03:H3[h.length]? = _:=(b3 _ (by omega)).1.trans o0
 have o13:H3[h.length+1]? = _:=(b3 _ (by omega)).1.trans o1
 have np0:p≠h.length:=by omega
 have np1:p≠h.length+1:=by omega
 have g5:∀ o,(H3.set p o)[h.length]? = some (some (.cells 131 3 [[AV.v (.string (bs [])),AV.v (.int .i64 0),AV.v (.string (bs []))]] 0)):=fun o=>(List.getElem?_set_ne np0).trans o03
 have g6:∀ o,(H3.set p o)[h.length+1]? = some (some (.cells 131 3 [r'.cells] 0)):=fun o=>(List.getElem?_set_ne np1).trans o13
 have g7:∀ o o',((H3.set p o).set h.length o')[h.length]? = some o':=fun o o'=>List.getElem?_set_self (by rw[List.length_set];omega)
 simp (disch:=omega)only[go_sem,ho3,v1,v2,g5,g6,g7,e0,Nat.one_ne_zero,if_false]
 have eR:(delK l r'.key).map RowA.cells=(l.map RowA.cells).take (lbK l r'.key)++(l.map RowA.cells).drop (lbK l r'.key+1):=by unfold delK;rw[hhi];simp
 rw[← eR]at m3
 rw[List.set_comm _ _ np0]
 have m4:∀ o,Mine 131 3 (H3.set h.length o) x5 ((delK l r'.key).map RowA.cells):=fun o=>m3.keep fun id r g hi hn=>(List.getElem?_set_ne (fun(e:h.length=id)=>hn (e▸(b3 h.length (by omega)).2))).trans hi
 obtain⟨c1,c2⟩:=rtStore (a:=a) T (H:=H3.set h.length (some (.cells 131 3 [r'.cells] 0))) (by rw[List.length_set];omega) (fun j hj=>(List.getElem?_set_ne (by omega)).trans ((b3 j (by omega)).1.trans (b0 j hj))) (m4 _) (delK_rise T.rise r'.key) (by have:=delK_len l r'.key;omega)
 exact ret_keep (hk _ c1 c2)
end Go.Proofs
namespace Go.Proofs
open Go Go.Abs
set_option maxRecDepth 100000
set_option linter.unusedSimpArgs false
theorem splitK_congr{own own':List UInt8→Int} {n:Nat} {S:List RowA} (h:∀ r∈S,own r.key=own' r.key):splitK own n S=splitK own' n S:=by
 unfold splitK
 refine List.map_congr_left fun i _=>List.filter_congr fun r hr=>?_
 rw[h r hr]
theorem one_move{own own':List UInt8→Int} {n:Nat} {S:List RowA} {r:RowA} (hS:Rise S)(ho:∀ r∈S,0≤own r.key∧own r.key<n)(ho':∀ r∈S,0≤own' r.key∧own' r.key<n)(hr:r∈S)(hst:∀ x∈S,x≠r→own x.key=own' x.key) {a b:Nat} (ha:own r.key=(a:Int))(hb:own' r.key=(b:Int)) {l m:List RowA} (hl:(splitK own n S)[a]? = some l)(hm:((splitK own n S).set a (delK l r.key))[b]? = some m) :
  ((splitK own n S).set a (delK l r.key)).set b (putK m r)=splitK own' n S:=by
 have:=step_split (M:= [r]) hS ho ho' (fun x hx=>by rw[List.mem_singleton]at hx;rw[hx];exact hr) (List.pairwise_singleton _ _) (fun x hx hn=>hst x hx fun e=>hn (by simp[e]))
 simp only[List.map_cons,List.map_nil,putAll,dropAll,List.foldl_cons,List.foldl_nil,ha,hb,Int.toNat_natCast]at this
 rw[getD_of hl,getD_of hm]at this
 exact this
theorem lb_ex{S:List RowA} (hS:Rise S) (cur:List UInt8):LbAt (S.map RowA.key) cur (lbK S cur):=by
 have at':∀ j,j<S.length→∃ r,S[j]? = some r∧(S.map RowA.key).getD j []=r.key:=fun j hj=>by
  have hg:=List.getElem?_eq_getElem hj
  exact⟨_,hg,getD_of (by rw[List.getElem?_map,hg];rfl)⟩
 have hle:=lbK_le S cur
 refine⟨by rw[List.length_map];exact hle,fun j hj=>?_,fun j h1 h2=>?_⟩
 ·obtain⟨r,h3,h4⟩:=at' j (by omega)
  rw[h4]
  exact lbK_lo hj h3
 ·rw[List.length_map]at h2
  obtain⟨r,h3,h4⟩:=at' j h2
  rw[h4]
  exact lbK_hi hS h1 h3
def ownJ(own own':List UInt8→Int) (M:List RowA) (j:Nat) (k:List UInt8):Int:=if k∈(M.take j).map RowA.key then own' k else own k
theorem refMoves(G:Nat→Option AV) (K:AV→AH→Prop)(h HC:AH) (i0 i2 i4 i51:Nat) (b v32 v47 W1 W2:AV)(c:Chg) (cur':List UInt8)(fin':Bool) (qs:List Nat) (R M:List RowA) (mv:List Nat)
  (T:RTabs HC b qs (splitK c.owner qs.length R))(hnd:qs.Nodup)(hq:qs.length≤1000)(hR:Rise R)(hRl:R.length≤2000)(hRk:∀ r∈R,r.key.length≤64)
  (base:Buts qs h HC)(hi0:h.length≤i0)(hi2:h.length≤i2)(hi02:i0≠i2)
  (o0:HC[i0]? = some (some (.cells 68 6 [c.cells W1 W2] 0)))(o2:HC[i2]? = some (some (.cells 68 6 [zeroChg.cells nilA nilA] 0)))
  (k1:∀ h,Wt h W1 c.was.wts)(k2:∀ h,Wt h W2 c.will.wts)(l1:c.was.wts.length≤17592186044415)(l2:c.will.wts.length≤17592186044415)(r1:ringOk c.was.wts=true)(r2:ringOk c.will.wts=true)
  (s32:Mine 9 1 HC v32 (R.map fun r=>srow r.key))(s47:Mine 3 1 HC v47 (mv.map fun(n:Nat)=>irow (n:Int)))
  (hMl:M.length=mv.length)(hml:mv.length≤2000)(hMat:∀(k j:Nat),mv[k]? = some j→∃ r,M[k]? = some r∧R[j]? = some r)(hu:KeysU M)
  (ho:∀ r∈R,0≤c.owner r.key∧c.owner r.key<qs.length)(ho':∀ r∈R,0≤({ c with cur:=cur',fin:=fin' } : Chg).owner r.key∧({ c with cur:=cur',fin:=fin' } : Chg).owner r.key<qs.length)
  (st1:∀ r∈R,r∉M→c.owner r.key=({ c with cur:=cur',fin:=fin' } : Chg).owner r.key)
  (st2:∀ r∈M,c.owner r.key=ofK Lib.itoa c.was.wts r.key∧({ c with cur:=cur',fin:=fin' } : Chg).owner r.key=ofK Lib.itoa c.will.wts r.key)
  (hk:∀ H,RTabs H b qs (splitK ({ c with cur:=cur',fin:=fin' } : Chg).owner qs.length R)→Buts qs h H→K (.tup [.agg (({ c with cur:=cur',fin:=fin' } : Chg).cells W1 W2), .v (.int .i64 (mv.length:Int)), .v (.int .i64 0)]) H) :
  Tryz.r34_l20_67 h K G b i0 i2 i4 v32 (bs cur') v47 fin' (qs.length:Int) i51 HC 0:=by
 unfold Tryz.r34_l20_67
 have w11:=(k1 []).one
 have w12:=(k1 []).cells
 have w21:=(k2 []).one
 have w22:=(k2 []).cells
 have e0:(ByteArray.mk #[])=bs []:=rfl
 generalize hc':({ c with cur:=cur',fin:=fin' } : Chg)=c' at ho' st1 st2 hk
 have l47:∀ H,aLen Tryz.prog H 31 v47=some (.v (.int .i64 mv.length)):=fun H=>by
  have:=mineLen s47 (P:=Tryz.prog) (t:=31) Tryz.und31 H
  rw[List.length_map]at this
  exact this
 have start:splitK (ownJ c.owner c'.owner M 0) qs.length R=splitK c.owner qs.length R:=splitK_congr fun r _=>by unfold ownJ;simp
 have hoJ:∀ j,∀ r∈R,0≤ownJ c.owner c'.owner M j r.key∧ownJ c.owner c'.owner M j r.key<qs.length:=fun j r hr=>by
  unfold ownJ
  split
  ·exact ho' r hr
  ·exact ho r hr
 refine⟨fun m vs H=>∃ j:Nat,j≤mv.length∧m=mv.length-j∧RTabs H b qs (splitK (ownJ c.owner c'.owner M j) qs.length R)∧Buts qs HC H∧vs = [.v (.int .i64 j)],mv.length,⟨0,by omega,rfl,by rw[start];exact T,Buts.refl,rfl⟩,?_⟩
 rintro m H hl1 hlow2 n ⟨j,hj,rfl,TH,bH,hvs⟩
 simp only[List.cons.injEq,AV.v.injEq,Value.int.injEq,true_and,and_true]at hvs
 subst hvs
 have o0H:=T.keepO bH (by decide) o0
 have o2H:=T.keepO bH (by decide) o2
 by_cases hjl:j<mv.length
 ·obtain⟨x,hx⟩:∃ x,mv[j]? = some x:=⟨_,List.getElem?_eq_getElem hjl⟩
  obtain⟨r,hrM,hrR⟩:=hMat j x hx
  have hrm:=List.mem_of_getElem? hrR
  have hrMm:=List.mem_of_getElem? hrM
  have hxl:=(List.getElem?_eq_some_iff.mp hrR).1
  have hrk:=hRk r hrm
  have ewj:IntKind.i64.wrap ((j:Int)+1)=((j+1:Nat):Int):=by rw[wrap64_of (by omega) (by omega)];omega
  have s47H:=(s47.keep (h':=H) fun id r g hi _=>T.keepO bH (by decide) hi).sees
  have s32H:=(s32.keep (h':=H) fun id r g hi _=>T.keepO bH (by decide) hi).sees
  obtain⟨q1,q2,q3⟩:=s47H.ia (P:=Tryz.prog) (t:=31) (k:= .i64) (i:=(j:Int)) (r:=irow (x:Int)) Tryz.und31 Tryz.siz3 (by omega) (by simp[hx])
  obtain⟨z1,z2,z3⟩:=s32H.ia (P:=Tryz.prog) (t:=142) (k:= .i64) (i:=(x:Int)) (r:=srow r.key) Tryz.und142 Tryz.siz9 (by omega) (by rw[List.getElem?_map,Int.toNat_natCast,hrR];rfl)
  have rngA:=ho r hrm
  have rngB:=ho' r hrm
  obtain⟨eA,eB⟩:=st2 r hrMm
  rw[eA]at rngA
  rw[eB]at rngB
  generalize ha:ofK Lib.itoa c.was.wts r.key=fa at rngA eA
  generalize hb:ofK Lib.itoa c.will.wts r.key=fb at rngB eB
  obtain⟨na,rfl⟩:∃ n:Nat,fa=n:=⟨fa.toNat,by omega⟩
  obtain⟨nb,rfl⟩:∃ n:Nat,fb=n:=⟨fb.toNat,by omega⟩
  have notin:r.key∉(M.take j).map RowA.key:=fun hin=>by
   obtain⟨y,hy,hyk⟩:=List.mem_map.mp hin
   obtain⟨i,hi⟩:=List.mem_iff_getElem?.mp hy
   have hil:=(List.getElem?_eq_some_iff.mp hi).1
   rw[List.length_take]at hil
   rw[List.getElem?_take_of_lt (by omega)]at hi
   obtain⟨i1,i2⟩:=List.getElem?_eq_some_iff.mp hi
   obtain⟨j1,j2⟩:=List.getElem?_eq_some_iff.mp hrM
   have:=List.pairwise_iff_getElem.mp hu i j i1 j1 (by omega)
   rw[i2,j2]at this
   exact this hyk
  have tk:M.take (j+1)=M.take j ++ [r]:=by rw[List.take_add_one,hrM];rfl
  have eJ:ownJ c.owner c'.owner M j r.key=(na:Int):=by unfold ownJ;rw[if_neg notin];exact eA
  have eJ':ownJ c.owner c'.owner M (j+1) r.key=(nb:Int):=by unfold ownJ;rw[tk,if_pos (by simp)];exact eB
  have hlen:=TH.len
  obtain⟨p,hp⟩:∃ p,qs[na]? = some p:=⟨_,List.getElem?_eq_getElem (by omega)⟩
  obtain⟨l,hl⟩:∃ l,(splitK (ownJ c.owner c'.owner M j) qs.length R)[na]? = some l:=⟨_,List.getElem?_eq_getElem (by omega)⟩
  have hll:=filter_le (List.mem_of_getElem? hl)
  have hrl:r∈l:=(splitK_mem hl).mpr ⟨hrm,eJ⟩
  obtain⟨w,x1,x2⟩:=TH.at0 hp
  simp (disch:=omega)only[go_sem,l47,q2,q3,z2,z3,o0H,w11,w12,w21,w22]
  refine⟨refOf_call G W1 c.was.wts r.key H _ (k1 H).ints (by omega) (by omega) ?_⟩
  simp (disch:=omega)only[go_sem,extV,r1,if_true,ha,o0H,w11,w12,w21,w22]
  refine⟨refOf_call G W2 c.will.wts r.key H _ (k2 H).ints (by omega) (by omega) ?_⟩
  simp (disch:=omega)only[go_sem,extV,r2,if_true,hb,x1,x2]
  refine⟨refTakeOut_call G p l r H _ (TH.tab na p l hp hl) (by omega) hrl fun H1 U1 b1=>?_⟩
  have T1:=TH.set hnd hp b1 U1
  have T1g:=T1.grew (Grew.app [some (AO.cells 131 3 [r.cells] 0)])
  obtain⟨p2,hp2⟩:∃ p,qs[nb]? = some p:=⟨_,List.getElem?_eq_getElem (by omega)⟩
  obtain⟨l',hl'⟩:∃ l2,((splitK (ownJ c.owner c'.owner M j) qs.length R).set na (delK l r.key))[nb]? = some l2:=⟨_,List.getElem?_eq_getElem (show nb<((splitK (ownJ c.owner c'.owner M j) qs.length R).set na (delK l r.key)).length by rw[List.length_set];omega)⟩
  obtain⟨w',x1',x2'⟩:=T1.at hp2
  have hll':l'.length≤2000:=by
   by_cases hab:na=nb
   ·subst hab
    rw[List.getElem?_set_self (by omega)]at hl'
    rw[← Option.some.inj hl']
    have:=delK_len l r.key
    omega
   ·rw[List.getElem?_set_ne hab]at hl'
    have:=filter_le (List.mem_of_getElem? hl')
    omega
  simp (disch:=omega)only[go_sem,e0,x1',x2',Nat.reduceAdd]
  refine⟨refPut_call G p2 l' r _ _ (T1g.tab nb p2 l' hp2 hl') (by omega) fun H2 U2 b2=>?_⟩
  have T2:=T1g.set hnd hp2 b2 U2
  rw[one_move (own':=ownJ c.owner c'.owner M (j+1)) hR (hoJ j) (hoJ (j+1)) hrm (fun y hy hne=>?_) eJ eJ' hl hl']at T2
  ·simp (disch:=omega)only[go_sem,ewj]
   refine next_keep (mv.length-(j+1)) (by omega) (by have:=b1.1;have:=b2.1;simp at this;omega) ⟨j+1,by omega,rfl,T2,(bH.trans (Buts.but b1 (List.mem_of_getElem? hp))).trans ((Buts.grew (Grew.app _)).trans (Buts.but b2 (List.mem_of_getElem? hp2))),rfl⟩
  ·have hyk:y.key≠r.key:=fun e=>hne (rise_key hR hy hrm e)
   unfold ownJ
   rw[tk]
   have:(y.key∈(M.take j ++ [r]).map RowA.key)=(y.key∈(M.take j).map RowA.key):=by simp[hyk]
   simp only[this]
 have hje:j=mv.length:=by omega
 subst hje
 have fin:splitK (ownJ c.owner c'.owner M mv.length) qs.length R=splitK c'.owner qs.length R:=splitK_congr fun r hr=>by
  unfold ownJ
  rw[List.take_of_length_le (by omega)]
  split
  ·rfl
  ·next hn=>exact st1 r hr fun hm=>hn (List.mem_map.mpr ⟨r,hm,rfl⟩)
 rw[fin]at TH
 have lb:=TH.own.sees.len (P:=Tryz.prog) (t:=65) Tryz.und65
 rw[List.length_map]at lb
 simp (disch:=omega)only[go_sem,l47]
 unfold Tryz.r34_l28_100
 refine⟨fun m vs H'=>∃ k:Nat,k≤qs.length∧m=qs.length-k∧H'=H∧vs = [.v (.int .i64 k)],qs.length,⟨0,by omega,rfl,rfl,rfl⟩,?_⟩
 rintro m H3 hl3 hlow3 n ⟨k,hkk,rfl,rfl,hvs⟩
 simp only[List.cons.injEq,AV.v.injEq,Value.int.injEq,true_and,and_true]at hvs
 subst hvs
 have hlen:=TH.len
 by_cases hkl:k<qs.length
 ·obtain⟨p,hp⟩:∃ p,qs[k]? = some p:=⟨_,List.getElem?_eq_getElem hkl⟩
  obtain⟨l,hl⟩:∃ l,(splitK c'.owner qs.length R)[k]? = some l:=⟨_,List.getElem?_eq_getElem (by omega)⟩
  have hll:=filter_le (List.mem_of_getElem? hl)
  have ew:IntKind.i64.wrap ((k:Int)+1)=((k+1:Nat):Int):=by rw[wrap64_of (by omega) (by omega)];omega
  obtain⟨y,hy,s,y1,y2,y3⟩:=(TH.tab k p l hp hl).at
  obtain⟨w,x1,x2⟩:=TH.at0 hp
  simp (disch:=omega)only[go_sem,lb,x1,x2,hy,y1,y2,y3,ew]
  exact next_keep (qs.length-(k+1)) (by omega) (Nat.le_refl _) ⟨k+1,by omega,rfl,rfl,rfl⟩
 have ll0:=(List.getElem?_eq_some_iff.mp o0H).1
 have ll2:=(List.getElem?_eq_some_iff.mp o2H).1
 have g1:∀ o,(H3.set i0 o)[i0]? = some o:=fun o=>List.getElem?_set_self ll0
 have g2:∀ o,(H3.set i0 o)[i2]? = some (some (.cells 68 6 [zeroChg.cells nilA nilA] 0)):=fun o=>(List.getElem?_set_ne hi02).trans o2H
 have g3:∀ o o',((H3.set i0 o).set i2 o')[i2]? = some o':=fun o o'=>List.getElem?_set_self (by rw[List.length_set];exact ll2)
 simp (disch:=omega)only[go_sem,lb,o0H,g1,g2,g3,List.set_set,l47,w11,w12,w21,w22]
 subst hc'
 refine ret_keep ?_
 refine hk _ ?_ (((base.trans bH).set hi0).set hi2)
 exact(TH.put o0H (by decide) (by decide) (by decide)).put (g2 _) (by decide) (by decide) (by decide)
end Go.Proofs
namespace Go.Proofs
open Go Go.Abs
set_option maxRecDepth 100000
set_option linter.unusedSimpArgs false
theorem refStep_call(G:Nat→Option AV)(c:Chg) (W1 W2 b:AV) (qs:List Nat)(ls:List (List RowA)) (most:Int)(h:AH) (K:AV→AH→Prop)(k1:∀ h,Wt h W1 c.was.wts)(k2:∀ h,Wt h W2 c.will.wts)(l1:c.was.wts.length≤17592186044415)(l2:c.will.wts.length≤17592186044415)(hcl:c.cur.length≤4611686018427387904)(hm2:most≤9223372036854775807)
  (T:RTabs h b qs ls)(hnd:qs.Nodup)(hl:ls.length≤1000)(hmay:∀ l∈ls,∀ r∈l,r.may=true)(htot:ls.flatten.length≤2000)
  (hkE:∀ e h',Grew h h'→StepErr c ls most e→K (.tup [.agg (zeroChg.cells nilA nilA), .v (.int .i64 0), .v (.int .i64 e)]) h')
  (hk0:c.ok=true→ls.length=c.will.wts.length→ApartT c ls→c.fin=false→1≤most→∀ S,AllOf ls S→∀ f,LbAt (S.map RowA.key) c.cur f→∀ H,RTabs H b qs (splitK (c.step S f most).owner ls.length S)→Buts qs h H →
   K (.tup [.agg ((c.step S f most).cells W1 W2), .v (.int .i64 ((mvN (ofK Lib.itoa c.was.wts) (ofK Lib.itoa c.will.wts) S f (nextM (S.map RowA.key) most f)).length:Int)), .v (.int .i64 0)]) H) :
  SCall Tryz.prog G 34 [.agg (c.cells W1 W2),b, .v (.int .i64 most)] h K:=by
 refine Tryz.c34 G _ _ _ h K fun hlow=>?_
 unfold Tryz.r34
 have w11:=(k1 []).one
 have w12:=(k1 []).cells
 have w21:=(k2 []).one
 have w22:=(k2 []).cells
 have e0:(ByteArray.mk #[])=bs []:=rfl
 simp (disch:=omega)only[go_sem,w11,w12,w21,w22,e0,Nat.reduceAdd]
 have eL1:(h ++ [some (AO.cells 68 6 [c.cells W1 W2] 0)]).length=h.length+1:=by simp
 have eL2:(h ++ [some (AO.cells 68 6 [c.cells W1 W2] 0),some (AO.cells 68 6 [[AV.v (.int .i64 0),AV.v (.slice none 0 0),AV.v (.int .i64 0),AV.v (.slice none 0 0),AV.v (.string (bs [])),AV.v (.bool false)]] 0)]).length=h.length+2:=by simp
 obtain⟨H0,hH0⟩:∃ X,h ++ [some (AO.cells 68 6 [c.cells W1 W2] 0),some (AO.cells 68 6 [[AV.v (.int .i64 0),AV.v (.slice none 0 0),AV.v (.int .i64 0),AV.v (.slice none 0 0),AV.v (.string (bs [])),AV.v (.bool false)]] 0),some (AO.cells 68 6 [[AV.v (.int .i64 0),AV.v (.slice none 0 0),AV.v (.int .i64 0),AV.v (.slice none 0 0),AV.v (.string (bs [])),AV.v (.bool false)]] 0)]=X:=⟨_,rfl⟩
 have g0:Grew h H0:=by rw[← hH0];exact Grew.app _
 have hl0:H0.length=h.length+3:=by rw[← hH0];simp
 have o0:H0[h.length]? = some (some (.cells 68 6 [c.cells W1 W2] 0)):=by rw[← hH0];simp
 have o2:H0[h.length+1]? = some (some (.cells 68 6 [zeroChg.cells nilA nilA] 0)):=by rw[← hH0];simp;exact⟨rfl,rfl,rfl,rfl⟩
 have o4:H0[h.length+2]? = some (some (.cells 68 6 [zeroChg.cells nilA nilA] 0)):=by rw[← hH0];simp;exact⟨rfl,rfl,rfl,rfl⟩
 rw[eL1,eL2,hH0]
 have T0:=T.grew g0
 have P2:=fun t=>(Grew.app (h:=H0) t).get o2
 have P4:=fun t=>(Grew.app (h:=H0) t).get o4
 have G3:∀ t o,((H0++t).set (h.length+1) o)[h.length+1]? = some o:=fun t o=>List.getElem?_set_self (by simp;omega)
 have bad:∀ e t o,StepErr c ls most e→RetR h K (.tup [.agg (zeroChg.cells nilA nilA), .v (.int .i64 0), .v (.int .i64 e)]) ((H0++t).set (h.length+1) o):=fun e t o hE=>ret_keep (hkE e _ ((g0.trans (Grew.app t)).set (by omega)) hE)
 refine⟨refCheck22_call G c W1 W2 b qs ls H0 _ (k1 _) (k2 _) l1 l2 hcl T0 hl (fun l hl r hr=>by have:=(may_len (hmay l hl r hr)).2.1;omega) (fun ho t=>?_) (fun ho hne t=>?_) (fun ho he hna t=>?_) (fun ho he hap t=>?_)⟩
 ·simp (disch:=omega)only[go_sem,P2,P4,G3]
  exact bad 70 t _ (.inl ⟨ho,rfl⟩)
 ·simp (disch:=omega)only[go_sem,P2,P4,G3]
  exact bad 4 t _ (.inr (.inl ⟨ho,hne,rfl⟩))
 ·simp (disch:=omega)only[go_sem,P2,P4,G3]
  exact bad 220 t _ (.inr (.inr (.inl ⟨ho,he,hna,rfl⟩)))
 have o0t:=(Grew.app (h:=H0) t).get o0
 cases hf:c.fin with
 | true=>
  simp (disch:=omega)only[go_sem,o0t,w11,w12,w21,w22,hf,P2,P4,G3]
  exact bad 1 t _ (.inr (.inr (.inr ⟨ho,he,hap, .inl hf,rfl⟩)))
 | false=>
 by_cases hm:most<1
 ·simp (disch:=omega)only[go_sem,o0t,w11,w12,w21,w22,hf,P2,P4,G3]
  exact bad 1 t _ (.inr (.inr (.inr ⟨ho,he,hap, .inr hm,rfl⟩)))
 simp (disch:=omega)only[go_sem,o0t,w11,w12,w21,w22,hf]
 have T1:=T0.grew (Grew.app t)
 refine⟨refAll_call G b qs ls _ _ T1 hl (by omega) fun R v26 H aR mS gS offS=>?_⟩
 have hlen:=T.len
 have hrise:AllRise ls:=fun i l hi=>by
  have:=(List.getElem?_eq_some_iff.mp hi).1
  obtain⟨p,hp⟩:∃ p,qs[i]? = some p:=⟨_,List.getElem?_eq_getElem (by omega)⟩
  exact(T.tab i p l hp hi).rise
 obtain⟨hR,hls,hown⟩:=split_all (own:=c.owner) hrise hap aR
 have hRl:R.length≤2000:=by rw[aR.len];exact htot
 have hRmay:∀ r∈R,r.may=true:=fun r hr=>by
  obtain⟨l,hl1,hl2⟩:=List.mem_flatten.mp (aR.mem.mp hr)
  exact hmay l hl1 r hl2
 have la:=mS.sees.len (P:=Tryz.prog) (t:=47) Tryz.und47
 rw[List.length_map]at la
 have g0S:Grew H0 H:=(Grew.app t).trans gS
 have gh:Grew h H:=g0.trans g0S
 have o0S:=g0S.get o0
 have o2S:=g0S.get o2
 unfold Tryz.r34_l10_28
 refine⟨fun m vs H'=>∃(k:Nat) (x:AV),k≤R.length∧m=R.length-k∧Mine 9 1 H' x ((R.take k).map fun r=>srow r.key)∧Grew H H'∧(∀ j,j<H.length→Off x j)∧vs = [x, .v (.int .i64 k)],R.length,⟨0,_,by omega,rfl,by simpa using Mine.nil,⟨[],by simp⟩,(fun id _ _ g o l c hx=>by cases hx),rfl⟩,?_⟩
 rintro m H1 hl1 hlow2 x' n ⟨k,x,hkk,rfl,mi,g,offs,hvs⟩
 simp only[List.cons.injEq,AV.v.injEq,Value.int.injEq,true_and,and_true]at hvs
 obtain⟨rfl,rfl⟩:=hvs
 have gl:=g.len
 by_cases hkl:k<R.length
 ·obtain⟨r,hr⟩:∃ r,R[k]? = some r:=⟨_,List.getElem?_eq_getElem hkl⟩
  have ew:IntKind.i64.wrap ((k:Int)+1)=((k+1:Nat):Int):=by rw[wrap64_of (by omega) (by omega)];omega
  have mS1:Mine 131 3 H1 v26 (R.map RowA.cells):=by obtain⟨t,rfl⟩:=g.ex;exact mS.more t
  have la1:=mS1.sees.len (P:=Tryz.prog) (t:=47) Tryz.und47
  rw[List.length_map]at la1
  obtain⟨q,u,q1,q2,u1,u2⟩:=keyOf mS1.sees hr
  have q1:=q1 []
  have u2:=u2 []
  rw[List.append_nil]at q1 u2
  simp (disch:=omega)only[go_sem,la1,q1,u1,u2,e0,Nat.reduceAdd]
  have hlx:((R.take k).map fun r=>srow r.key).length=k:=by simp;omega
  refine(mi.more _).pushAt (i:=H1.length) (g:=0) (row:=srow r.key) (e':=9) (by simp) Tryz.und142 Tryz.azero9 Tryz.byt9 (by exact Tryz.plainSrc142) rfl (by rw[hlx];omega) (by rw[hlx];omega) fun v' H' m' hle st=>?_
  simp only[List.length_append,List.length_cons,List.length_nil]at hle
  have below:∀ j,j<H.length→H'[j]? = H1[j]? ∧ Off v' j:=fun j hj=>by
   obtain⟨e1,e2⟩:=st j (by simp;omega) (offs j hj)
   rw[e1,List.getElem?_append_left (by omega)]
   exact⟨rfl,e2⟩
  obtain⟨t2,ht2⟩:=g.ex
  rw[ew]
  refine next_keep (R.length-(k+1)) (by omega) (by omega) ⟨k+1,v',by omega,rfl,?_,Grew.mk (ext_of (h:=H) (h':=H') (by omega) fun j hj=>by rw[(below j hj).1,ht2,List.getElem?_append_left hj]),fun j hj=>(below j hj).2,rfl⟩
  rw[List.take_add_one,hr]
  simpa using m'
 have hke:k=R.length:=by omega
 subst hke
 rw[List.take_length]at mi
 have o01:=g.get o0S
 have mS1:Mine 131 3 H1 v26 (R.map RowA.cells):=by obtain⟨t,rfl⟩:=g.ex;exact mS.more t
 have la1:=mS1.sees.len (P:=Tryz.prog) (t:=47) Tryz.und47
 rw[List.length_map]at la1
 have mKeys:Sees H1 1 x' ((R.map RowA.key).map srow):=by
  have:=mi.sees
  rw[List.map_map]
  exact this
 simp (disch:=omega)only[go_sem,la1,o01,w11,w12,w21,w22]
 obtain⟨ro1,ro2,ro3,ro4⟩:=ok_rings ho
 have hkr:=rise_keys hR hRmay
 have lbf:=lb_ex hR c.cur
 generalize lbK R c.cur=f at lbf
 refine⟨refNextG_call G c W1 W2 x' (R.map RowA.key) most f H1 _ k1 k2 (by omega) (by omega) (by omega) mKeys (by rw[List.length_map];omega) (fun k hk=>by
   obtain⟨r,hr,rfl⟩:=List.mem_map.mp hk
   have:=(may_len (hRmay r hr)).2.1
   omega) hm2 (fun _ _ _ _=>lbf) (fun hbad=>by rw[ho]at hbad;cases hbad) (fun _ hbad=>by
   rcases hbad with hbad|hbad
   ·exact absurd hbad hm
   ·rw[hkr]at hbad;cases hbad) (fun _ _ _ hbad=>by rw[hf]at hbad;cases hbad) (fun _ _ _ _ v45 H2 acc=>?_)⟩
 rw[mvFrom_mvN]at acc
 rw[List.length_map]
 have m45:=acc.toMine
 rw[List.map_map]at m45
 have g2:Grew H1 H2:=Grew.mk acc.tail
 have fle:=lbf.le
 rw[List.length_map]at fle
 have fm:f+nextM (R.map RowA.key) most f≤R.length:=by
  unfold nextM
  rw[List.length_map]
  omega
 have stay:=next_stay (f:=ofK Lib.itoa c.was.wts) (g:=ofK Lib.itoa c.will.wts) (cur:=c.cur) hR fm lbf.lo (fun j h1 h2=>lbf.hi j h1 (by rw[List.length_map];exact h2))
 have hmvl:(mvN (ofK Lib.itoa c.was.wts) (ofK Lib.itoa c.will.wts) R f (nextM (R.map RowA.key) most f)).length≤R.length:=by
  have:=mvN_len (f:=ofK Lib.itoa c.was.wts) (g:=ofK Lib.itoa c.will.wts) (S:=R) (lo:=f) (nextM (R.map RowA.key) most f)
  omega
 have hk0':=hk0 ho he hap hf (by omega) R aR f lbf
 unfold Chg.step at hk0'
 generalize hcu:(R.map RowA.key).getD (f+nextM (R.map RowA.key) most f) []=cur' at stay hk0'
 generalize hfi:(!decide (f+nextM (R.map RowA.key) most f<R.length))=fin' at stay hk0'
 have gh2:Grew h H2:=(gh.trans g).trans g2
 have TH2:=T.grew gh2
 have lb2:=TH2.own.sees.len (P:=Tryz.prog) (t:=65) Tryz.und65
 rw[List.length_map]at lb2
 simp (disch:=omega)only[go_sem,extV,lb2,Int.toNat_natCast]
 have ownE:∀ k,c.owner k=ownC (ofK Lib.itoa c.was.wts) (ofK Lib.itoa c.will.wts) false c.cur k:=fun k=>by
  unfold Chg.owner ownC
  rw[hf]
 have hMM:(mvRows (ofK Lib.itoa c.was.wts) (ofK Lib.itoa c.will.wts) R f (nextM (R.map RowA.key) most f))=(mvN (ofK Lib.itoa c.was.wts) (ofK Lib.itoa c.will.wts) R f (nextM (R.map RowA.key) most f)).map fun j=>R.getD j ⟨[],0, []⟩:=rfl
 have hu:=mvRows_keysU (f:=ofK Lib.itoa c.was.wts) (g:=ofK Lib.itoa c.will.wts) hR fm
 have hMat:∀(k j:Nat),(mvN (ofK Lib.itoa c.was.wts) (ofK Lib.itoa c.will.wts) R f (nextM (R.map RowA.key) most f))[k]? = some j→∃ r,(mvRows (ofK Lib.itoa c.was.wts) (ofK Lib.itoa c.will.wts) R f (nextM (R.map RowA.key) most f))[k]? = some r∧R[j]? = some r:=fun k j hj=>by
  have hjm:=List.mem_of_getElem? hj
  have hjl:=(mem_mvN.mp hjm).1
  have hg:=List.getElem?_eq_getElem (show j<R.length by omega)
  refine⟨R[j],?_,hg⟩
  rw[hMM,List.getElem?_map,hj]
  simp only[Option.map_some]
  rw[getD_of hg]
 have hMl:(mvRows (ofK Lib.itoa c.was.wts) (ofK Lib.itoa c.will.wts) R f (nextM (R.map RowA.key) most f)).length=(mvN (ofK Lib.itoa c.was.wts) (ofK Lib.itoa c.will.wts) R f (nextM (R.map RowA.key) most f)).length:=by rw[hMM,List.length_map]
 generalize mvRows (ofK Lib.itoa c.was.wts) (ofK Lib.itoa c.will.wts) R f (nextM (R.map RowA.key) most f)=M at stay hu hMat hMl
 generalize hmv:mvN (ofK Lib.itoa c.was.wts) (ofK Lib.itoa c.will.wts) R f (nextM (R.map RowA.key) most f)=mv at m45 hmvl hk0' hMat hMl
 have gHX:Grew H (H2 ++ [some (AO.cells 47 1 (List.replicate qs.length [AV.v (.slice none 0 0)]) 0)]):=(g.trans g2).trans (Grew.app _)
 have hHX:∃ X,H2 ++ [some (AO.cells 47 1 (List.replicate qs.length [AV.v (.slice none 0 0)]) 0)]=X:=⟨_,rfl⟩
 obtain⟨HX,hHX⟩:=hHX
 rw[hHX]at gHX
 simp only[hHX]
 have oX:HX[H2.length]? = some (some (.cells 47 1 (List.replicate qs.length [AV.v (.slice none 0 0)]) 0)):=by rw[← hHX];simp
 have hlX:HX.length=H2.length+1:=by rw[← hHX];simp
 have ghX:Grew h HX:=gh.trans gHX
 have TX:=T.grew ghX
 have mX:Mine 3 1 HX v45 (mv.map fun(n:Nat)=>irow (n:Int)):=by rw[← hHX];exact m45.more _
 have sX:Mine 9 1 HX x' (R.map fun r=>srow r.key):=by rw[← hHX];obtain⟨t,rfl⟩:=g2.ex;exact(mi.more t).more _
 have o0X:=gHX.get o0S
 have o2X:=gHX.get o2S
 unfold Tryz.r34_l16_53
 refine⟨fun m vs H'=>∃(k:Nat) (L:List (List AV)),k≤qs.length∧m=qs.length-k∧L.length=qs.length∧H'[H2.length]? = some (some (.cells 47 1 L 0))∧But H2.length HX H'∧vs = [.v (.int .i64 k)],qs.length,⟨0,_,by omega,rfl,by simp,oX,But.refl,rfl⟩,?_⟩
 rintro m H3 hl3 hlow3 n ⟨k,L,hkk,rfl,hL,oL,bL,hvs⟩
 simp only[List.cons.injEq,AV.v.injEq,Value.int.injEq,true_and,and_true]at hvs
 subst hvs
 have T3:=TX.butO bL oX (by decide) (by decide) (by decide)
 have lb3:=T3.own.sees.len (P:=Tryz.prog) (t:=65) Tryz.und65
 rw[List.length_map]at lb3
 by_cases hkl:k<qs.length
 ·obtain⟨p,hp⟩:∃ p,qs[k]? = some p:=⟨_,List.getElem?_eq_getElem hkl⟩
  obtain⟨l,hlk⟩:∃ l,ls[k]? = some l:=⟨_,List.getElem?_eq_getElem (by omega)⟩
  have ew:IntKind.i64.wrap ((k:Int)+1)=((k+1:Nat):Int):=by rw[wrap64_of (by omega) (by omega)];omega
  obtain⟨y,hy,s,y1,y2,y3⟩:=(T3.tab k p l hp hlk).at
  obtain⟨w,x1,x2⟩:=T3.at0 hp
  have ia:=slIA (n:=qs.length) (k:=k) oL hL.symm hkl
  simp (disch:=omega)only[go_sem,lb3,x1,x2,hy,y1,y2,y3,ia,Int.toNat_natCast,Nat.one_ne_zero,if_false]
  refine slSt (k:=k) oL (show k<L.length by omega) y1 y2 fun z=>?_
  have il:=(List.getElem?_eq_some_iff.mp oL).1
  rw[ew]
  refine next_keep (qs.length-(k+1)) (by omega) (by rw[List.length_set];omega) ⟨k+1,L.set k z,by omega,rfl,by rw[List.length_set];exact hL,List.getElem?_set_self il,⟨by rw[List.length_set];exact bL.1,fun j hj hne=>?_⟩,rfl⟩
  rw[List.getElem?_set_ne (Ne.symm hne)]
  exact bL.2 j hj hne
 simp (disch:=omega)only[go_sem,lb3]
 have hq:ls.length=qs.length:=hlen.symm
 rw[hq]at hls hown hk0'
 rw[hls]at T3
 refine refMoves G K h H3 h.length (h.length+1) (h.length+2) H2.length b x' v45 W1 W2 c cur' fin' qs R M mv T3 hnd (by omega) hR hRl (fun r hr=>(may_len (hRmay r hr)).2.1) ((Buts.grew ghX).butF bL gh2.len) (Nat.le_refl _) (Nat.le_succ _) (by omega) (butKeep bL oX (by decide) o0X) (butKeep bL oX (by decide) o2X) k1 k2 l1 l2 ro1 ro2 (sX.keep fun id r g hi _=>butKeep bL oX (by decide) hi) (mX.keep fun id r g hi _=>butKeep bL oX (by decide) hi) hMl (by omega) hMat hu hown (fun r _=>?_) (fun r hr hrm=>by rw[ownE];exact stay.1 r hr hrm) (fun r hr=>by rw[ownE];exact stay.2 r hr) hk0'
 have:=owner_of ho r.key
 unfold Chg.owner
 simp only
 split <;> omega
end Go.Proofs
namespace Go.Proofs
open Go Go.Abs
set_option maxRecDepth 100000
set_option linter.unusedSimpArgs false
def OpA.mvBad(x:OpA):Bool:= !x.ok||x.kind==6
theorem mvDo1_call(G:Nat→Option AV)(x:OpA)(h:AH) (K:AV→AH→Prop)(hkl:x.key.length≤4611686018427387904)(hvl:x.val.length≤4611686018427387904)
  (hk:K (.v (.bool x.mvBad)) h):SCall Tryz.prog G 77 [.agg x.cells] h K:=by
 refine Tryz.c77 G _ h K fun hlow=>?_
 unfold Tryz.r77
 unfold OpA.mvBad at hk
 simp (disch:=omega)only[go_sem,Nat.reduceAdd]
 refine⟨opCheck_call G x _ _ hkl hvl ?_⟩
 cases ho:x.ok with
 | true=>
  rw[ho]at hk
  cases h6:x.kind==6 with
  | true=>
   rw[h6]at hk
   simp (disch:=omega)only[go_sem,if_true,h6]
   exact ret_tail hlow .v hk
  | false=>
   rw[h6]at hk
   simp (disch:=omega)only[go_sem,if_true,h6]
   exact ret_tail hlow .v hk
 | false=>
  rw[ho]at hk
  simp (disch:=omega)only[go_sem,if_false,Bool.false_eq_true]
  exact ret_tail hlow .v hk
theorem mvDo_call(G:Nat→Option AV)(hG:GTab G)(c:Chg) (W1 W2 a a2:AV) (ps:List Nat)(ls:List (List RowA)) (ops:List OpA)(h:AH) (K:AV→AH→Prop)(k1:∀ H,Buts ps h H→Wt H W1 c.was.wts)(k2:∀ H,Buts ps h H→Wt H W2 c.will.wts)(l1:c.was.wts.length≤17592186044415)(l2:c.will.wts.length≤17592186044415)(hcl:c.cur.length≤4611686018427387904)
  (T:TabsAt h a ps ls)(hnd:ps.Nodup)(hl:ls.length≤1000)(hkey:∀ l∈ls,∀ r∈l,r.key.length≤4611686018427387904)(hlen:∀ l∈ls,l.length≤10000)(hok:c.ok=true)(hln:ls.length=c.will.wts.length)
  (ha:∀ H,Grew h H→Sees H 6 a2 (ops.map OpA.cells))(hol:ops.length≤4611686018427387904)(hkl:∀ x∈ops,x.key.length≤4611686018427387904∧x.val.length≤4611686018427387904)
  (hkL:(ops.length<1∨32<ops.length)→∀ t,K (.tup [nilA, .agg [.v (.int .i64 0), .v (.int .i64 80)]]) (h++t))
  (hkB:1≤ops.length→ops.length≤32→∀(i:Nat) x,ops[i]? = some x→x.mvBad=true→(∀ y∈ops.take i,y.mvBad=false)→∀ t,K (.tup [nilA, .agg [.v (.int .i64 (i:Int)), .v (.int .i64 80)]]) (h++t))
  (hkC:OpsOk ops→∀(i:Nat) x y,ops[i]? = some x→ops[0]? = some y→c.owner x.key≠c.owner y.key→(∀ z∈ops.take i,c.owner z.key=c.owner y.key)→∀ t,K (.tup [nilA, .agg [.v (.int .i64 (i:Int)), .v (.int .i64 220)]]) (h++t))
  (hkF:OpsOk ops→∀(o:Nat) l,ls[o]? = some l→(∀ x∈ops,c.owner x.key=o)→∀(i:Nat)(x:OpA),ops[i]? = some x→1<ops.length→(oneK (rowsK l (ops.take i)) x).1.code≠0→(∀ r∈resL l (ops.take i),r.code=0)→∀ h',Grew h h'→K (.tup [nilA, .agg [.v (.int .i64 (i:Int)), .v (.int .i64 (oneK (rowsK l (ops.take i)) x).1.code)]]) h')
  (hk0:OpsOk ops→∀(o:Nat) l,ls[o]? = some l→(∀ x∈ops,c.owner x.key=o)→(1<ops.length→∀ r∈resL l ops,r.code=0)→∀ v h',TabsAt h' a ps (ls.set o (rowsK l ops))→Buts ps h h'→Mine 157 4 h' v ((resL l ops).map ResA.cells)→K (.tup [v, .agg [.v (.int .i64 0), .v (.int .i64 0)]]) h') :
  SCall Tryz.prog G 36 [.agg (c.cells W1 W2),a,a2] h K:=by
 refine Tryz.c36 G _ _ _ h K fun hlow=>?_
 unfold Tryz.r36
 have w11:=(k1 h Buts.refl).one
 have w12:=(k1 h Buts.refl).cells
 have w21:=(k2 h Buts.refl).one
 have w22:=(k2 h Buts.refl).cells
 have e0:(ByteArray.mk #[])=bs []:=rfl
 have la:∀ H,aLen Tryz.prog H 72 a2=some (.v (.int .i64 ops.length)):=fun H=>by
  have:=seesLenT (ha h ⟨[],by simp⟩) (P:=Tryz.prog) (t:=72) Tryz.und72 H
  rw[List.length_map]at this
  exact this
 simp (disch:=omega)only[go_sem,w11,w12,w21,w22,Nat.reduceAdd]
 refine⟨mvCheck_call G hG c W1 W2 a ps ls _ _ (k1 _ (Buts.grew (Grew.app _))) (k2 _ (Buts.grew (Grew.app _))) l1 l2 hcl (T.grew (Grew.app _)) hl hnd hkey (fun ho=>by rw[hok]at ho;cases ho) (fun _ hne=>absurd hln hne) (fun _ _ _=>?_) (fun _ _ _=>?_)⟩
 all_goals
  by_cases hb1:ops.length<1
  ·simp (disch:=omega)only[go_sem,la,Nat.reduceAdd]
   exact ret_keep (hkL (.inl hb1) _)
  by_cases hb2:32<ops.length
  ·simp (disch:=omega)only[go_sem,la,Nat.reduceAdd]
   exact ret_keep (hkL (.inr hb2) _)
  simp (disch:=omega)only[go_sem,la,Nat.reduceAdd]
  refine⟨opIndex_call G a2 ops 77 [] [] OpA.mvBad _ _ (ha _ (Grew.app _)) (by omega) (fun x hx K hK=>mvDo1_call G x _ K (hkl x hx).1 (hkl x hx).2 hK) (fun k x hx hbad hlo=>?_) (fun hall=>?_)⟩
  ·simp (disch:=omega)only[go_sem,Nat.reduceAdd]
   exact ret_keep (hkB (by omega) (by omega) k x hx hbad hlo _)
  have oo:OpsOk ops:=⟨by omega,by omega,fun x hx=>by have:=hall x hx;unfold OpA.mvBad at this;simp at this;exact this.1,fun x hx=>by have:=hall x hx;unfold OpA.mvBad at this;simp at this;exact this.2,hkl⟩
  obtain⟨y,hy⟩:∃ y,ops[0]? = some y:=⟨_,List.getElem?_eq_getElem (by omega)⟩
  obtain⟨q,q1,q2,q3⟩:=(ha _ (Grew.app [some (AO.cells 49 6 [c.cells W1 W2] 0),some (AO.cells 80 2 [[.v (.int .i64 0), .v (.int .i64 0)]] 0)])).iaAll (P:=Tryz.prog) (ty:=72) (k:= .i64) (i:=0) (r:=y.cells) Tryz.und72 Tryz.siz89 (by omega) (by simp[hy])
  obtain⟨u,u1,u2⟩:=q3 89 1 1 1 false Tryz.fld89_1 (by decide)
  have q1:=q1 []
  have u2:=u2 []
  rw[List.append_nil]at q1 u2
  have u2:aLoad Tryz.prog (h ++ [some (AO.cells 49 6 [c.cells W1 W2] 0),some (AO.cells 80 2 [[.v (.int .i64 0), .v (.int .i64 0)]] 0)]) 9 u=some (.v (.string (bs y.key))):=by
   simp (disch:=omega)only[go_sem,u2]
  simp (disch:=omega)only[go_sem,q1,u1,u2,w11,w12,w21,w22,Nat.reduceAdd]
  refine⟨Owner_call G hG c y.key W1 W2 _ _ (k1 _ (Buts.grew (Grew.app _))) (k2 _ (Buts.grew (Grew.app _))) (by omega) (by omega) hcl (hkl y (List.mem_of_getElem? hy)).1 ?_⟩
  simp (disch:=omega)only[go_sem,extV,hok,if_true,la]
  unfold Tryz.r36_l11_42
  refine⟨fun m vs H=>∃ k:Nat,k≤ops.length∧m=ops.length-k∧Grew (h ++ [some (AO.cells 49 6 [c.cells W1 W2] 0),some (AO.cells 80 2 [[.v (.int .i64 0), .v (.int .i64 0)]] 0)]) H∧(∀ z∈ops.take k,c.owner z.key=c.owner y.key)∧vs = [.v (.int .i64 k)],
   ops.length,⟨0,by omega,rfl,⟨[],by simp⟩,by simp,rfl⟩,?_⟩
  rintro m H hl1 hlow2 n ⟨k,hkk,rfl,g,hlo,hvs⟩
  simp only[List.cons.injEq,AV.v.injEq,Value.int.injEq,true_and,and_true]at hvs
  subst hvs
  have gh:=(Grew.app (h:=h) [some (AO.cells 49 6 [c.cells W1 W2] 0),some (AO.cells 80 2 [[.v (.int .i64 0), .v (.int .i64 0)]] 0)]).trans g
  have o0:=fun t=>(g.trans (Grew.app t)).get (i:=h.length) (o:=some (.cells 49 6 [c.cells W1 W2] 0)) (by simp)
  have o2:=fun t=>(g.trans (Grew.app t)).get (i:=h.length+1) (o:=some (.cells 80 2 [[.v (.int .i64 0), .v (.int .i64 0)]] 0)) (by simp)
  have o2':=g.get (i:=h.length+1) (o:=some (.cells 80 2 [[.v (.int .i64 0), .v (.int .i64 0)]] 0)) (by simp)
  have lt2:=(List.getElem?_eq_some_iff.mp o2').1
  have g3:∀ t o,((H++t).set (h.length+1) o)[h.length+1]? = some o:=fun t o=>List.getElem?_set_self (by simp;omega)
  by_cases hkn:k<ops.length
  ·obtain⟨x,hx⟩:∃ x,ops[k]? = some x:=⟨_,List.getElem?_eq_getElem hkn⟩
   have ew:IntKind.i64.wrap ((k:Int)+1)=((k+1:Nat):Int):=by rw[wrap64_of (by omega) (by omega)];omega
   obtain⟨w,v1,v2⟩:=(ha H gh).ia (P:=Tryz.prog) (t:=72) (k:= .i64) (i:=(k:Int)) (r:=x.cells) Tryz.und72 Tryz.siz89 (by omega) (by simp[hx])
   simp (disch:=omega)only[go_sem,v1,v2,o0,w11,w12,w21,w22,Nat.reduceAdd]
   refine⟨Owner_call G hG c x.key W1 W2 _ _ (k1 _ (Buts.grew (gh.trans (Grew.app _)))) (k2 _ (Buts.grew (gh.trans (Grew.app _)))) (by omega) (by omega) hcl (hkl x (List.mem_of_getElem? hx)).1 ?_⟩
   by_cases he:c.owner x.key=c.owner y.key
   ·have hz:(c.owner x.key != c.owner y.key)=false:=by simp[he]
    simp (disch:=omega)only[go_sem,extV,hok,if_true,hz,ew]
    refine next_keep (ops.length-(k+1)) (by omega) (by have:=g.len;simp;omega) ⟨k+1,by omega,rfl,g.trans (Grew.app _),fun z hz'=>?_,rfl⟩
    rw[List.take_add_one,hx]at hz'
    simp only[Option.toList_some,List.mem_append,List.mem_singleton]at hz'
    rcases hz' with hz'|rfl
    ·exact hlo z hz'
    ·exact he
   ·have hz:(c.owner x.key != c.owner y.key)=true:=by simpa using he
    simp (disch:=omega)only[go_sem,extV,hok,if_true,hz,o2,g3]
    have gf:=(gh.trans (Grew.app (h:=H) [some (AO.cells 89 6 [x.cells] 0)]))
    have gs:∀ o,Grew h ((H ++ [some (AO.cells 89 6 [x.cells] 0)]).set (h.length+1) o):=fun o=>gf.set (by omega)
    obtain⟨t,ht⟩:=(gs (some (AO.cells 80 2 [[.v (.int .i64 (k:Int)), .v (.int .i64 220)]] 0))).ex
    refine ret_keep ?_
    have:=hkC oo k x y hx hy he hlo t
    rw[← ht]at this
    exact this
  ·have hke:k=ops.length:=by omega
   subst hke
   rw[List.take_length]at hlo
   have rng:=owner_rng hok y.key
   generalize hov:c.owner y.key=ov at rng hlo
   obtain⟨o,rfl⟩:∃ n:Nat,ov=n:=⟨ov.toNat,by omega⟩
   have hpl:=T.len
   obtain⟨p,hp⟩:∃ p,ps[o]? = some p:=⟨_,List.getElem?_eq_getElem (by omega)⟩
   obtain⟨l,hlo'⟩:∃ l,ls[o]? = some l:=⟨_,List.getElem?_eq_getElem (by omega)⟩
   have TH:=T.grew gh
   obtain⟨z,z1,z2,_⟩:=TH.own.sees.iaAll (P:=Tryz.prog) (ty:=51) (k:= .i64) (i:=(o:Int)) (r:=prow p) Tryz.und51 Tryz.siz87 (by omega) (by simp[hp])
   have z1':=z1 []
   have z2':=z2 []
   rw[List.append_nil]at z1' z2'
   simp (disch:=omega)only[go_sem,z1',z2']
   refine⟨tbDo_call G p l a2 ops H _ (TH.tab o p l hp hlo') (hlen l (List.mem_of_getElem? hlo')) (fun H' g'=>ha H' (gh.trans g')) oo (fun i x hx hm hc hz h' g'=>?_) (fun hz v h' T' b' mv=>?_)⟩
   ·have o3:=g'.get o2'
    have lt3:=(List.getElem?_eq_some_iff.mp o3).1
    have g4:∀ o,(h'.set (h.length+1) o)[h.length+1]? = some o:=fun o=>List.getElem?_set_self lt3
    simp (disch:=omega)only[go_sem,extV,o3,g4]
    exact ret_keep (hkF oo o l hlo' hlo i x hx hm hc hz _ ((gh.trans g').set (by omega)))
   ·have hne:h.length+1≠p:=fun e=>by
     obtain⟨y,hy,_⟩:=(TH.tab o p l hp hlo').ex
     rw[e]at o2'
     rw[hy]at o2'
     cases o2'
    have o3:h'[h.length+1]? = some (some (.cells 80 2 [[.v (.int .i64 0), .v (.int .i64 0)]] 0)):=by rw[b'.2 _ lt2 hne];exact o2'
    have lt3:=(List.getElem?_eq_some_iff.mp o3).1
    have g4:∀ o,(h'.set (h.length+1) o)[h.length+1]? = some o:=fun o=>List.getElem?_set_self lt3
    have v1:=mv.one
    have v2:=mv.cells
    simp (disch:=omega)only[go_sem,extV,o3,g4,v1,v2]
    have TS:=TH.set hnd hp b' T'
    refine ret_keep (hk0 oo o l hlo' hlo hz v _ (TS.put o3 (by decide) (by decide) (by decide)) (((Buts.grew gh).trans (Buts.but b' (List.mem_of_getElem? hp))).set (by omega)) (mv.keep fun id r g hi _=>?_))
    rw[List.getElem?_set_ne]
    ·exact hi
    ·rintro rfl
     rw[o3]at hi
     cases hi
theorem mvDoK_call(G:Nat→Option AV)(hG:GTab G)(c:Chg) (W1 W2 a a2:AV) (ps:List Nat)(ls:List (List RowA)) (ops:List OpA)(h:AH) (K:AV→AH→Prop)(k1:∀ H,Buts ps h H→Wt H W1 c.was.wts)(k2:∀ H,Buts ps h H→Wt H W2 c.will.wts)(l1:c.was.wts.length≤17592186044415)(l2:c.will.wts.length≤17592186044415)(hcl:c.cur.length≤4611686018427387904)
  (T:TabsAt h a ps ls)(hnd:ps.Nodup)(hl:ls.length≤1000)(hkey:∀ l∈ls,∀ r∈l,r.key.length≤4611686018427387904)(hlen:∀ l∈ls,l.length≤10000)(hok:c.ok=true)(hln:ls.length=c.will.wts.length)
  (ha:∀ H,Grew h H→Sees H 6 a2 (ops.map OpA.cells))(hol:ops.length≤4611686018427387904)(hkl:∀ x∈ops,x.key.length≤4611686018427387904∧x.val.length≤4611686018427387904)
  (hkL:(ops.length<1∨32<ops.length)→∀ t,K (.tup [nilA, .agg [.v (.int .i64 0), .v (.int .i64 80)]]) (h++t))
  (hkB:1≤ops.length→ops.length≤32→∀(i:Nat) x,ops[i]? = some x→x.mvBad=true→(∀ y∈ops.take i,y.mvBad=false)→∀ t,K (.tup [nilA, .agg [.v (.int .i64 (i:Int)), .v (.int .i64 80)]]) (h++t))
  (hkC:OpsOk ops→∀(i:Nat) x y,ops[i]? = some x→ops[0]? = some y→c.owner x.key≠c.owner y.key→(∀ z∈ops.take i,c.owner z.key=c.owner y.key)→∀ t,K (.tup [nilA, .agg [.v (.int .i64 (i:Int)), .v (.int .i64 220)]]) (h++t))
  (hkR:OpsOk ops→∀(o:Nat) l,ls[o]? = some l→(∀ x∈ops,c.owner x.key=o)→∀ v h',TabsAt h' a ps (ls.set o (doK l ops).2.2)→Buts ps h h'→Mine 157 4 h' v ((doK l ops).2.1.map ResA.cells)→K (.tup [v, .agg [.v (.int .i64 (doK l ops).1.1), .v (.int .i64 (doK l ops).1.2)]]) h') :
  SCall Tryz.prog G 36 [.agg (c.cells W1 W2),a,a2] h K:=by
 refine mvDo_call G hG c W1 W2 a a2 ps ls ops h K k1 k2 l1 l2 hcl T hnd hl hkey hlen hok hln ha hol hkl hkL hkB hkC (fun oo o l hl ho i x hx hm hc hz h' g=>?_) (fun oo o l hl ho hz v h' T' b' mv=>?_)
 ·have hr:=hkR oo o l hl ho
  rw[doK_fail hx hm hc hz]at hr
  have hs:ls.set o l=ls:=by
   refine List.ext_getElem? fun j=>?_
   by_cases hj:o=j
   ·subst hj
    rw[List.getElem?_set_self (List.getElem?_eq_some_iff.mp hl).1,hl]
   ·rw[List.getElem?_set_ne hj]
  rw[hs]at hr
  exact hr _ _ (T.grew g) (Buts.grew g) .nil
 ·have hr:=hkR oo o l hl ho
  rw[doK_ok hz]at hr
  exact hr _ _ T' b' mv
end Go.Proofs
namespace Go.Proofs
open Go Go.Abs
set_option maxRecDepth 100000
set_option linter.unusedSimpArgs false
theorem mvDoG_call(G:Nat→Option AV)(hG:GTab G)(c:Chg) (W1 W2 a a2:AV) (ps:List Nat)(ls:List (List RowA)) (ops:List OpA)(h:AH) (K:AV→AH→Prop)(k1:∀ H,Buts ps h H→Wt H W1 c.was.wts)(k2:∀ H,Buts ps h H→Wt H W2 c.will.wts)(l1:c.was.wts.length≤17592186044415)(l2:c.will.wts.length≤17592186044415)(hcl:c.cur.length≤4611686018427387904)
  (T:TabsAt h a ps ls)(hnd:ps.Nodup)(hl:ls.length≤1000)(hkey:∀ l∈ls,∀ r∈l,r.key.length≤4611686018427387904)(hlen:∀ l∈ls,l.length≤10000)
  (ha:∀ H,Grew h H→Sees H 6 a2 (ops.map OpA.cells))(hol:ops.length≤4611686018427387904)(hkl:∀ x∈ops,x.key.length≤4611686018427387904∧x.val.length≤4611686018427387904)
  (hkX:c.ok=false→∀ t,K (.tup [nilA, .agg [.v (.int .i64 0), .v (.int .i64 70)]]) (h++t))
  (hkY:c.ok=true→ls.length≠c.will.wts.length→∀ t,K (.tup [nilA, .agg [.v (.int .i64 0), .v (.int .i64 4)]]) (h++t))
  (hkL:c.ok=true→ls.length=c.will.wts.length→(ops.length<1∨32<ops.length)→∀ t,K (.tup [nilA, .agg [.v (.int .i64 0), .v (.int .i64 80)]]) (h++t))
  (hkB:c.ok=true→ls.length=c.will.wts.length→1≤ops.length→ops.length≤32→∀(i:Nat) x,ops[i]? = some x→x.mvBad=true→(∀ y∈ops.take i,y.mvBad=false)→∀ t,K (.tup [nilA, .agg [.v (.int .i64 (i:Int)), .v (.int .i64 80)]]) (h++t))
  (hkC:c.ok=true→ls.length=c.will.wts.length→OpsOk ops→∀(i:Nat) x y,ops[i]? = some x→ops[0]? = some y→c.owner x.key≠c.owner y.key→(∀ z∈ops.take i,c.owner z.key=c.owner y.key)→∀ t,K (.tup [nilA, .agg [.v (.int .i64 (i:Int)), .v (.int .i64 220)]]) (h++t))
  (hkR:c.ok=true→ls.length=c.will.wts.length→OpsOk ops→∀(o:Nat) l,ls[o]? = some l→(∀ x∈ops,c.owner x.key=o)→∀ v h',TabsAt h' a ps (ls.set o (doK l ops).2.2)→Buts ps h h'→Mine 157 4 h' v ((doK l ops).2.1.map ResA.cells)→K (.tup [v, .agg [.v (.int .i64 (doK l ops).1.1), .v (.int .i64 (doK l ops).1.2)]]) h') :
  SCall Tryz.prog G 36 [.agg (c.cells W1 W2),a,a2] h K:=by
 by_cases hok:c.ok=true
 ·by_cases hln:ls.length=c.will.wts.length
  ·exact mvDoK_call G hG c W1 W2 a a2 ps ls ops h K k1 k2 l1 l2 hcl T hnd hl hkey hlen hok hln ha hol hkl (hkL hok hln) (hkB hok hln) (hkC hok hln) (hkR hok hln)
  ·refine Tryz.c36 G _ _ _ h K fun hlow=>?_
   unfold Tryz.r36
   have w11:=(k1 h Buts.refl).one
   have w12:=(k1 h Buts.refl).cells
   have w21:=(k2 h Buts.refl).one
   have w22:=(k2 h Buts.refl).cells
   simp (disch:=omega)only[go_sem,w11,w12,w21,w22,Nat.reduceAdd]
   refine⟨mvCheck_call G hG c W1 W2 a ps ls _ _ (k1 _ (Buts.grew (Grew.app _))) (k2 _ (Buts.grew (Grew.app _))) l1 l2 hcl (T.grew (Grew.app _)) hl hnd hkey (fun ho=>by rw[hok]at ho;cases ho) (fun ho hne=>?_) (fun _ he _=>absurd he hln) (fun _ he _=>absurd he hln)⟩
   simp (disch:=omega)only[go_sem,Nat.reduceAdd]
   exact ret_keep (hkY hok hln _)
 ·have hof:c.ok=false:=by simpa using hok
  refine Tryz.c36 G _ _ _ h K fun hlow=>?_
  unfold Tryz.r36
  have w11:=(k1 h Buts.refl).one
  have w12:=(k1 h Buts.refl).cells
  have w21:=(k2 h Buts.refl).one
  have w22:=(k2 h Buts.refl).cells
  simp (disch:=omega)only[go_sem,w11,w12,w21,w22,Nat.reduceAdd]
  refine⟨mvCheck_call G hG c W1 W2 a ps ls _ _ (k1 _ (Buts.grew (Grew.app _))) (k2 _ (Buts.grew (Grew.app _))) l1 l2 hcl (T.grew (Grew.app _)) hl hnd hkey (fun ho=>?_) (fun ho _=>absurd ho hok) (fun ho _ _=>absurd ho hok) (fun ho _ _=>absurd ho hok)⟩
  simp (disch:=omega)only[go_sem,Nat.reduceAdd]
  exact ret_keep (hkX hof _)
theorem refDo22_call(G:Nat→Option AV)(c:Chg) (W1 W2 a a2:AV) (qs:List Nat)(ls:List (List RowA)) (ops:List OpA)(h:AH) (K:AV→AH→Prop)(k1:∀ h,Wt h W1 c.was.wts)(k2:∀ h,Wt h W2 c.will.wts)(l1:c.was.wts.length≤17592186044415)(l2:c.will.wts.length≤17592186044415)(hcl:c.cur.length≤4611686018427387904)
  (T:RTabs h a qs ls)(hnd:qs.Nodup)(hl:ls.length≤1000)(hkey:∀ l∈ls,∀ r∈l,r.key.length≤4611686018427387904)(hlen:∀ l∈ls,l.length≤10000)
  (ha:∀ H,Buts qs h H→Sees H 6 a2 (ops.map OpA.cells))(hol:ops.length≤4611686018427387904)(hkl:∀ x∈ops,x.key.length≤4611686018427387904∧x.val.length≤4611686018427387904)
  (hkX:c.ok=false→∀ h',Grew h h'→K (.tup [nilA, .agg [.v (.int .i64 0), .v (.int .i64 70)]]) h')
  (hkY:c.ok=true→ls.length≠c.will.wts.length→∀ h',Grew h h'→K (.tup [nilA, .agg [.v (.int .i64 0), .v (.int .i64 4)]]) h')
  (hkL:c.ok=true→ls.length=c.will.wts.length→(ops.length<1∨32<ops.length)→∀ h',Grew h h'→K (.tup [nilA, .agg [.v (.int .i64 0), .v (.int .i64 80)]]) h')
  (hkB:c.ok=true→ls.length=c.will.wts.length→1≤ops.length→ops.length≤32→∀(i:Nat) x,ops[i]? = some x→x.mvBad=true→(∀ y∈ops.take i,y.mvBad=false)→∀ h',Grew h h'→K (.tup [nilA, .agg [.v (.int .i64 (i:Int)), .v (.int .i64 80)]]) h')
  (hkC:c.ok=true→ls.length=c.will.wts.length→OpsOk ops→∀(i:Nat) x y,ops[i]? = some x→ops[0]? = some y→c.owner x.key≠c.owner y.key→(∀ z∈ops.take i,c.owner z.key=c.owner y.key)→∀ h',Grew h h'→K (.tup [nilA, .agg [.v (.int .i64 (i:Int)), .v (.int .i64 220)]]) h')
  (hkR:c.ok=true→ls.length=c.will.wts.length→OpsOk ops→∀(o:Nat) l,ls[o]? = some l→(∀ x∈ops,c.owner x.key=o)→∀ v h',RTabs h' a qs (ls.set o (doK l ops).2.2)→Buts qs h h'→Mine 157 4 h' v ((doK l ops).2.1.map ResA.cells)→K (.tup [v, .agg [.v (.int .i64 (doK l ops).1.1), .v (.int .i64 (doK l ops).1.2)]]) h') :
  SCall Tryz.prog G 37 [.agg (c.cells W1 W2),a,a2] h K:=by
 refine Tryz.c37 G _ _ _ h K fun hlow=>?_
 unfold Tryz.r37
 have w11:=(k1 h).one
 have w12:=(k1 h).cells
 have w21:=(k2 h).one
 have w22:=(k2 h).cells
 have e0:(ByteArray.mk #[])=bs []:=rfl
 have la:∀ H,aLen Tryz.prog H 72 a2=some (.v (.int .i64 ops.length)):=fun H=>by
  have:=seesLenT (ha h Buts.refl) (P:=Tryz.prog) (t:=72) Tryz.und72 H
  rw[List.length_map]at this
  exact this
 have rowAt:∀ {k:Nat} {x:OpA},ops[k]? = some x→∀ H,Buts qs h H→∃ q u,aIA Tryz.prog H 72 a2 (.v (.int .i64 (k:Int)))=some q∧Go.Abs.rowAt H q=some (x.cells,0)∧aFA Tryz.prog 89 1 q=some u∧aLoad Tryz.prog H 9 u=some (.v (.string (bs x.key)))∧∃ u0,aFA Tryz.prog 89 0 q=some u0∧aLoad Tryz.prog H 3 u0=some (.v (.int .i64 x.kind)):=fun {k x} hx H b=>by
  obtain⟨q,q1,q2,q3⟩:=(ha H b).iaAll (P:=Tryz.prog) (ty:=72) (k:= .i64) (i:=(k:Int)) (r:=x.cells) Tryz.und72 Tryz.siz89 (by omega) (by simp[hx])
  obtain⟨u,u1,u2⟩:=q3 89 1 1 1 false Tryz.fld89_1 (by decide)
  obtain⟨u0,v1,v2⟩:=q3 89 0 0 1 false Tryz.fld89_0 (by decide)
  have q1:=q1 []
  have q2:=q2 []
  have u2:=u2 []
  have v2:=v2 []
  rw[List.append_nil]at q1 q2 u2 v2
  refine⟨q,u,q1,q2,u1,?_,u0,v1,?_⟩
  ·simp (disch:=omega)only[go_sem,u2]
  ·simp (disch:=omega)only[go_sem,v2]
 simp (disch:=omega)only[go_sem,w11,w12,w21,w22,Nat.reduceAdd]
 obtain⟨H0,hH0⟩:∃ X,h ++ [some (AO.cells 68 6 [c.cells W1 W2] 0),some (AO.cells 80 2 [[AV.v (.int .i64 0),AV.v (.int .i64 0)]] 0)]=X:=⟨_,rfl⟩
 have eL1:(h ++ [some (AO.cells 68 6 [c.cells W1 W2] 0)]).length=h.length+1:=by simp
 have g0:Grew h H0:=by rw[← hH0];exact Grew.app _
 have hl0:H0.length=h.length+2:=by rw[← hH0];simp
 have o0:H0[h.length]? = some (some (.cells 68 6 [c.cells W1 W2] 0)):=by rw[← hH0];simp
 have o2:H0[h.length+1]? = some (some (.cells 80 2 [[AV.v (.int .i64 0),AV.v (.int .i64 0)]] 0)):=by rw[← hH0];simp
 rw[eL1,hH0]
 have P2:=fun t=>(Grew.app (h:=H0) t).get o2
 have P0:=fun t=>(Grew.app (h:=H0) t).get o0
 have G3:∀ t o,((H0++t).set (h.length+1) o)[h.length+1]? = some o:=fun t o=>List.getElem?_set_self (by simp;omega)
 have GR:∀ t o,Grew h ((H0++t).set (h.length+1) o):=fun t o=>(g0.trans (Grew.app t)).set (by omega)
 refine⟨refCheck22_call G c W1 W2 a qs ls H0 _ (k1 _) (k2 _) l1 l2 hcl (T.grew g0) hl hkey (fun ho t=>?_) (fun ho hne t=>?_) (fun hok hln hna t=>?_) (fun hok hln hap t=>?_)⟩
 ·simp (disch:=omega)only[go_sem,Nat.reduceAdd]
  refine⟨refFault_call G _ _ _ _ fun t'=>?_⟩
  rw[List.append_assoc]
  simp (disch:=omega)only[go_sem,P2,G3]
  exact ret_keep (hkX ho _ (GR _ _))
 ·simp (disch:=omega)only[go_sem,Nat.reduceAdd]
  refine⟨refFault_call G _ _ _ _ fun t'=>?_⟩
  rw[List.append_assoc]
  simp (disch:=omega)only[go_sem,P2,G3]
  exact ret_keep (hkY ho hne _ (GR _ _))
 all_goals
  by_cases hb1:ops.length<1
  ·simp (disch:=omega)only[go_sem,la,Nat.reduceAdd]
   refine⟨refFault_call G _ _ _ _ fun t'=>?_⟩
   rw[List.append_assoc]
   simp (disch:=omega)only[go_sem,P2,G3]
   exact ret_keep (hkL hok hln (.inl hb1) _ (GR _ _))
  by_cases hb2:32<ops.length
  ·simp (disch:=omega)only[go_sem,la,Nat.reduceAdd]
   refine⟨refFault_call G _ _ _ _ fun t'=>?_⟩
   rw[List.append_assoc]
   simp (disch:=omega)only[go_sem,P2,G3]
   exact ret_keep (hkL hok hln (.inr hb2) _ (GR _ _))
  simp (disch:=omega)only[go_sem,la,Nat.reduceAdd]
  unfold Tryz.r37_l7_31
  refine⟨fun m vs H=>∃ k:Nat,k≤ops.length∧m=ops.length-k∧H=H0++t∧(∀ y∈ops.take k,y.mvBad=false)∧vs = [.v (.int .i64 k)],ops.length,⟨0,by omega,rfl,rfl,by simp,rfl⟩,?_⟩
  rintro m H hl1 hlow2 n ⟨k,hkk,rfl,rfl,hlo,hvs⟩
  simp only[List.cons.injEq,AV.v.injEq,Value.int.injEq,true_and,and_true]at hvs
  subst hvs
  by_cases hkn:k<ops.length
  ·obtain⟨x,hx⟩:∃ x,ops[k]? = some x:=⟨_,List.getElem?_eq_getElem hkn⟩
   have ew:IntKind.i64.wrap ((k:Int)+1)=((k+1:Nat):Int):=by rw[wrap64_of (by omega) (by omega)];omega
   obtain⟨q,u,q1,q2,u1,u2,u0,v1,v2⟩:=rowAt hx _ (Buts.grew (g0.trans (Grew.app t)))
   have hxk:=hkl x (List.mem_of_getElem? hx)
   simp (disch:=omega)only[go_sem,la,q1,q2]
   refine⟨refMay08_call G x _ _ hxk.1 hxk.2 ?_⟩
   have stepOk:x.mvBad=false→∀ z∈ops.take (k+1),z.mvBad=false:=fun hb z hz=>by
    rw[List.take_add_one,hx]at hz
    simp only[Option.toList_some,List.mem_append,List.mem_singleton]at hz
    rcases hz with hz|rfl
    ·exact hlo z hz
    ·exact hb
   cases hxo:x.ok with
   | false=>
    simp (disch:=omega)only[go_sem,Bool.not_false,la,Nat.reduceAdd]
    refine⟨refFault_call G _ _ _ _ fun t'=>?_⟩
    rw[List.append_assoc]
    simp (disch:=omega)only[go_sem,P2,G3]
    exact ret_keep (hkB hok hln (by omega) (by omega) k x hx (by unfold OpA.mvBad;rw[hxo];rfl) hlo _ (GR _ _))
   | true=>
   cases h6:x.kind==6 with
   | true=>
    simp (disch:=omega)only[go_sem,Bool.not_true,la,q1,v1,v2,h6,Nat.reduceAdd]
    refine⟨refFault_call G _ _ _ _ fun t'=>?_⟩
    rw[List.append_assoc]
    simp (disch:=omega)only[go_sem,P2,G3]
    exact ret_keep (hkB hok hln (by omega) (by omega) k x hx (by unfold OpA.mvBad;rw[hxo,h6];rfl) hlo _ (GR _ _))
   | false=>
    simp (disch:=omega)only[go_sem,Bool.not_true,la,q1,v1,v2,h6,ew]
    exact next_keep (ops.length-(k+1)) (by omega) (Nat.le_refl _) ⟨k+1,by omega,rfl,rfl,stepOk (by unfold OpA.mvBad;rw[hxo,h6];rfl),rfl⟩
  have hke:k=ops.length:=by omega
  subst hke
  rw[List.take_length]at hlo
  have oo:OpsOk ops:=⟨by omega,by omega,fun x hx=>by have:=hlo x hx;unfold OpA.mvBad at this;simp at this;exact this.1,fun x hx=>by have:=hlo x hx;unfold OpA.mvBad at this;simp at this;exact this.2,hkl⟩
  obtain⟨y,hy⟩:∃ y,ops[0]? = some y:=⟨_,List.getElem?_eq_getElem (by omega)⟩
  obtain⟨q,u,q1,q2,u1,u2,_⟩:=rowAt hy _ (Buts.grew (g0.trans (Grew.app t)))
  have q1:aIA Tryz.prog (H0++t) 72 a2 (.v (.int .i64 0))=some q:=q1
  simp (disch:=omega)only[go_sem,la,q1,u1,u2,P0,w11,w12,w21,w22]
  refine⟨refOwner_call G c y.key W1 W2 _ _ (k1 _) (k2 _) (by omega) (by omega) hcl (hkl y (List.mem_of_getElem? hy)).1 ?_⟩
  simp (disch:=omega)only[go_sem,extV,hok,if_true]
  unfold Tryz.r37_l13_68
  refine⟨fun m vs H=>∃ k:Nat,k≤ops.length∧m=ops.length-k∧H=H0++t∧(∀ z∈ops.take k,c.owner z.key=c.owner y.key)∧vs = [.v (.int .i64 k)],ops.length,⟨0,by omega,rfl,rfl,by simp,rfl⟩,?_⟩
  rintro m H hl1 hlow2 n ⟨k,hkk,rfl,rfl,hlo2,hvs⟩
  simp only[List.cons.injEq,AV.v.injEq,Value.int.injEq,true_and,and_true]at hvs
  subst hvs
  by_cases hkn:k<ops.length
  ·obtain⟨x,hx⟩:∃ x,ops[k]? = some x:=⟨_,List.getElem?_eq_getElem hkn⟩
   have ew:IntKind.i64.wrap ((k:Int)+1)=((k+1:Nat):Int):=by rw[wrap64_of (by omega) (by omega)];omega
   obtain⟨q',u',q1',q2',u1',u2',_⟩:=rowAt hx _ (Buts.grew (g0.trans (Grew.app t)))
   simp (disch:=omega)only[go_sem,la,q1',u1',u2',P0,w11,w12,w21,w22]
   refine⟨refOwner_call G c x.key W1 W2 _ _ (k1 _) (k2 _) (by omega) (by omega) hcl (hkl x (List.mem_of_getElem? hx)).1 ?_⟩
   by_cases he:c.owner x.key=c.owner y.key
   ·have hz:(c.owner x.key != c.owner y.key)=false:=by simp[he]
    simp (disch:=omega)only[go_sem,extV,hok,if_true,hz,ew]
    refine next_keep (ops.length-(k+1)) (by omega) (Nat.le_refl _) ⟨k+1,by omega,rfl,rfl,fun z hz'=>?_,rfl⟩
    rw[List.take_add_one,hx]at hz'
    simp only[Option.toList_some,List.mem_append,List.mem_singleton]at hz'
    rcases hz' with hz'|rfl
    ·exact hlo2 z hz'
    ·exact he
   ·have hz:(c.owner x.key != c.owner y.key)=true:=by simpa using he
    simp (disch:=omega)only[go_sem,extV,hok,if_true,hz,Nat.reduceAdd]
    refine⟨refFault_call G _ _ _ _ fun t'=>?_⟩
    rw[List.append_assoc]
    simp (disch:=omega)only[go_sem,P2,G3]
    exact ret_keep (hkC hok hln oo k x y hx hy he hlo2 _ (GR _ _))
  have hke:k=ops.length:=by omega
  subst hke
  rw[List.take_length]at hlo2
  have rng:=owner_rng hok y.key
  generalize hov:c.owner y.key=ov at rng hlo2
  obtain⟨o,rfl⟩:∃ n:Nat,ov=n:=⟨ov.toNat,by omega⟩
  have hpl:=T.len
  obtain⟨p,hp⟩:∃ p,qs[o]? = some p:=⟨_,List.getElem?_eq_getElem (by omega)⟩
  obtain⟨l,hlo'⟩:∃ l,ls[o]? = some l:=⟨_,List.getElem?_eq_getElem (by omega)⟩
  have TH:=T.grew (g0.trans (Grew.app t))
  obtain⟨w,z1,z2⟩:=TH.at0 hp
  have Tp:=TH.tab o p l hp hlo'
  simp (disch:=omega)only[go_sem,la,z1,z2]
  refine⟨refDoK_call G p l a2 ops _ _ Tp (hlen l (List.mem_of_getElem? hlo')) (fun H' b'=>ha H' ((Buts.grew (g0.trans (Grew.app t))).trans (Buts.but b' (List.mem_of_getElem? hp)))) oo fun v h' T' b' mv=>?_⟩
  obtain⟨yt,hyt,_⟩:=Tp.ex
  have o3:=butKeep b' hyt (by decide) (P2 t)
  have lt3:=(List.getElem?_eq_some_iff.mp o3).1
  have g4:∀ o,(h'.set (h.length+1) o)[h.length+1]? = some o:=fun o=>List.getElem?_set_self lt3
  have v1:=mv.one
  have v2:=mv.cells
  simp (disch:=omega)only[go_sem,extV,o3,g4,v1,v2]
  have TS:=TH.set hnd hp b' T'
  refine ret_keep (hkR hok hln oo o l hlo' hlo2 v _ (TS.put o3 (by decide) (by decide) (by decide)) (((Buts.grew (g0.trans (Grew.app t))).trans (Buts.but b' (List.mem_of_getElem? hp))).set (by omega)) (mv.keep fun id r g hi _=>?_))
  rw[List.getElem?_set_ne]
  ·exact hi
  ·rintro rfl
   rw[o3]at hi
   cases hi
end Go.Proofs
namespace Go.Proofs
open Go Go.Abs
set_option maxRecDepth 100000
set_option linter.unusedSimpArgs false
theorem sameChange_call(G:Nat→Option AV)(c:Chg) (W1 W2:AV)(h:AH) (K:AV→AH→Prop)(k1:∀ h,Wt h W1 c.was.wts)(k2:∀ h,Wt h W2 c.will.wts)(hl1:c.was.wts.length≤4611686018427387904)(hl2:c.will.wts.length≤4611686018427387904)
  (hk:∀ t,K (.v (.bool true)) (h++t)):SCall Tryz.prog G 35 [.agg (c.cells W1 W2), .agg (c.cells W1 W2)] h K:=by
 refine Tryz.c35 G _ _ h K fun hlow=>?_
 unfold Tryz.r35
 have w11:=(k1 h).one
 have w12:=(k1 h).cells
 have w21:=(k2 h).one
 have w22:=(k2 h).cells
 have hs:(c.cur==c.cur)=true:=by simp
 have ss:∀ l:Lay,l.same l=true:=fun l=>by unfold Lay.same;simp
 have eqF:aBin Tryz.prog .eql 4 (.v (.bool false)) (.v (.bool false))=some (.v (.bool true)):=by kernel_rfl
 have eqT:aBin Tryz.prog .eql 4 (.v (.bool true)) (.v (.bool true))=some (.v (.bool true)):=by kernel_rfl
 cases hf:c.fin with
 | _=>
  simp (disch:=omega)only[go_sem,w11,w12,w21,w22,bs_toList,hs,hf,eqF,eqT,Nat.reduceAdd]
  refine⟨refEqual_call G c.was c.was W1 W1 _ _ (k1 _) (k1 _) hl1 ?_⟩
  rw[ss]
  simp (disch:=omega)only[go_sem,w11,w12,w21,w22]
  refine⟨refEqual_call G c.will c.will W2 W2 _ _ (k2 _) (k2 _) hl2 ?_⟩
  rw[ss]
  simp (disch:=omega)only[go_sem,w11,w12,w21,w22]
  exact ret_keep (hk _)
theorem sameTables_call(G:Nat→Option AV) (a b:AV) (ps qs:List Nat)(ls:List (List RowA))(h:AH) (K:AV→AH→Prop)(T:TabsAt h a ps ls)(R:RTabs h b qs ls)(hl:ls.length≤1000)(hlen:∀ l∈ls,l.length≤10000)
  (hk:∀ h',Grew h h'→K (.v (.bool true)) h'):SCall Tryz.prog G 39 [a,b] h K:=by
 refine Tryz.c39 G _ _ h K fun hlow=>?_
 unfold Tryz.r39
 unfold Tryz.r39_l2_0
 have e0:(ByteArray.mk #[])=bs []:=rfl
 have lp:=T.len
 have lq:=R.len
 refine⟨fun m vs H=>∃ k:Nat,k≤ls.length∧m=ls.length-k∧Grew h H∧vs = [.v (.int .i64 k)],ls.length,⟨0,by omega,rfl,⟨[],by simp⟩,rfl⟩,?_⟩
 rintro m H hl1 hlow2 n ⟨k,hkk,rfl,g,hvs⟩
 simp only[List.cons.injEq,AV.v.injEq,Value.int.injEq,true_and,and_true]at hvs
 subst hvs
 have TH:=T.grew g
 have RH:=R.grew g
 have la:=TH.own.sees.len (P:=Tryz.prog) (t:=51) Tryz.und51
 rw[List.length_map]at la
 by_cases hkl:k<ls.length
 rotate_left
 ·simp (disch:=omega)only[go_sem,la]
  exact ret_keep (hk _ g)
 obtain⟨l,hlk⟩:∃ l,ls[k]? = some l:=⟨_,List.getElem?_eq_getElem hkl⟩
 obtain⟨p,hpk⟩:∃ p,ps[k]? = some p:=⟨_,List.getElem?_eq_getElem (by omega)⟩
 obtain⟨q,hqk⟩:∃ q,qs[k]? = some q:=⟨_,List.getElem?_eq_getElem (by omega)⟩
 have hll:=hlen l (List.mem_of_getElem? hlk)
 have ew:IntKind.i64.wrap ((k:Int)+1)=((k+1:Nat):Int):=by rw[wrap64_of (by omega) (by omega)];omega
 obtain⟨z,z1,z2,_⟩:=TH.own.sees.iaAll (P:=Tryz.prog) (ty:=51) (k:= .i64) (i:=(k:Int)) (r:=prow p) Tryz.und51 Tryz.siz87 (by omega) (by simp[hpk])
 have z1':=z1 []
 have z2':=z2 []
 rw[List.append_nil]at z1' z2'
 obtain⟨w,x1,x2⟩:=RH.at0 hqk
 obtain⟨y,hy,s,y1,y2,y3⟩:=(RH.tab k q l hqk hlk).at
 simp (disch:=omega)only[go_sem,la,z1',z2',x1,x2,hy,y1,y2,e0]
 refine⟨tbRows_call G p l [] [] H _ (TH.tab k p l hpk hlk) fun v33 H2 acc=>?_⟩
 rw[endsK_nil]at acc
 simp only[List.drop_zero,Nat.sub_zero,List.take_length]at acc
 have g2:Grew H H2:=Grew.mk acc.tail
 have RH2:=RH.grew g2
 obtain⟨w',x1',x2'⟩:=RH2.at0 hqk
 obtain⟨t2,ht2⟩:=g2.ex
 obtain⟨wt,xt1,xt2⟩:=RH.at hqk
 have e1:=xt1 []
 rw[List.append_nil,x1]at e1
 obtain rfl:=Option.some.inj e1
 have xt1:=xt1 t2
 have xt2:=xt2 t2
 rw[← ht2]at xt1 xt2
 have hy2:=g2.get hy
 have s2:Own 131 3 H2 y (l.map RowA.cells):=by rw[ht2];exact s.more t2
 simp (disch:=omega)only[go_sem,xt1,xt2,hy2,y1,y2]
 refine⟨sameRows_call G v33 y l H2 _ acc.sees s2.sees (by omega) ?_⟩
 simp (disch:=omega)only[go_sem,Bool.not_true,ew]
 exact next_keep (ls.length-(k+1)) (by omega) (Nat.le_trans hl1 g2.len) ⟨k+1,by omega,rfl,g.trans g2,rfl⟩
end Go.Proofs
namespace Go.Proofs
open Go Go.Abs
set_option maxRecDepth 100000
set_option linter.unusedSimpArgs false
theorem resOf{h:AH} {a:AV} {l:List ResA} (s:Sees h 4 a (l.map ResA.cells)) {i:Nat} {r:ResA} (hi:l[i]? = some r) :
  ∃ q u0 u1 u2 u3,aIA Tryz.prog h 78 a (.v (.int .i64 (i:Int)))=some q∧aFA Tryz.prog 157 0 q=some u0∧aFA Tryz.prog 157 1 q=some u1∧aFA Tryz.prog 157 2 q=some u2∧aFA Tryz.prog 157 3 q=some u3 ∧
   aLoad Tryz.prog h 24 u0=some (.v (.int .i64 r.code))∧aLoad Tryz.prog h 3 u1=some (.v (.int .i64 r.stamp))∧aLoad Tryz.prog h 9 u2=some (.v (.string (bs r.val)))∧aLoad Tryz.prog h 47 u3=some (.v (.slice none 0 0)):=by
 obtain⟨q,q1,q2,q3⟩:=s.iaAll (P:=Tryz.prog) (ty:=78) (k:= .i64) (i:=(i:Int)) (r:=r.cells) Tryz.und78 Tryz.siz157 (by omega) (by simp[hi])
 obtain⟨u0,a0,b0⟩:=q3 157 0 0 1 false Tryz.fld157_0 (by decide)
 obtain⟨u1,a1,b1⟩:=q3 157 1 1 1 false Tryz.fld157_1 (by decide)
 obtain⟨u2,a2,b2⟩:=q3 157 2 2 1 false Tryz.fld157_2 (by decide)
 obtain⟨u3,a3,b3⟩:=q3 157 3 3 1 false Tryz.fld157_3 (by decide)
 have q1:=q1 []
 have b0:=b0 []
 have b1:=b1 []
 have b2:=b2 []
 have b3:=b3 []
 rw[List.append_nil]at q1 b0 b1 b2 b3
 refine⟨q,u0,u1,u2,u3,q1,a0,a1,a2,a3,?_,?_,?_,?_⟩
 ·simp (disch:=omega)only[go_sem,b0]
 ·simp (disch:=omega)only[go_sem,b1]
 ·simp (disch:=omega)only[go_sem,b2]
 ·simp (disch:=omega)only[go_sem,b3]
theorem sameRes_call(G:Nat→Option AV) (a b:AV) (xs:List ResA)(h:AH) (K:AV→AH→Prop)(ha:Sees h 4 a (xs.map ResA.cells))(hb:Sees h 4 b (xs.map ResA.cells))(hl:xs.length≤1000000)(hk:K (.v (.bool true)) h):SCall Tryz.prog G 38 [a,b] h K:=by
 refine Tryz.c38 G _ _ h K fun hlow=>?_
 unfold Tryz.r38
 have la:=ha.len (P:=Tryz.prog) (t:=78) Tryz.und78
 have lb:=hb.len (P:=Tryz.prog) (t:=78) Tryz.und78
 rw[List.length_map]at la lb
 simp (disch:=omega)only[go_sem,la,lb]
 unfold Tryz.r38_l4_2
 refine⟨fun m vs h'=>∃ k:Nat,k≤xs.length∧m=xs.length-k∧h'=h∧vs = [.v (.int .i64 k)],xs.length,⟨0,by omega,rfl,rfl,rfl⟩,?_⟩
 rintro m h' hl1 hlow2 n ⟨k,hkk,rfl,rfl,hvs⟩
 simp only[List.cons.injEq,AV.v.injEq,Value.int.injEq,true_and,and_true]at hvs
 subst hvs
 by_cases hlt:k<xs.length
 rotate_left
 ·simp (disch:=omega)only[go_sem,la]
  exact ret_same hk
 obtain⟨x,hx⟩:∃ x,xs[k]? = some x:=⟨_,List.getElem?_eq_getElem hlt⟩
 have ew:IntKind.i64.wrap ((k:Int)+1)=((k+1:Nat):Int):=by rw[wrap64_of (by omega) (by omega)];omega
 obtain⟨q,u0,u1,u2,u3,q1,a0,a1,a2,a3,c0,c1,c2,c3⟩:=resOf ha hx
 obtain⟨r,w0,w1,w2,w3,r1,b0,b1,b2,b3,d0,d1,d2,d3⟩:=resOf hb hx
 simp (disch:=omega)only[go_sem,la,q1,a0,a1,a2,a3,c0,c1,c2,c3,r1,b0,b1,b2,b3,d0,d1,d2,d3,beq_self_eq_true,bne_self_eq_false,Bool.not_true,ew,Nat.reduceAdd]
 refine⟨sameRows_call G _ _ [] _ _ Sees.nil Sees.nil (by simp) ?_⟩
 simp (disch:=omega)only[go_sem,Bool.not_true,ew]
 refine next_keep (xs.length-(k+1)) (by omega) (Nat.le_refl _) ⟨k+1,by omega,rfl,rfl,rfl⟩
section
variable {own:List UInt8→Int} {o:Nat} {S:List RowA}
end
theorem doK_len(ops:List OpA) (S:List RowA):(doK S ops).2.2.length≤S.length+ops.length:=by
 unfold doK
 split
 ·exact Nat.le_add_right _ _
 ·exact rowsK_len ops S
theorem doK_resl(ops:List OpA) (S:List RowA):(doK S ops).2.1.length≤ops.length:=by
 unfold doK
 split
 ·exact Nat.zero_le _
 ·exact Nat.le_of_eq (resL_len ops S)
theorem keyOk_may{k:List UInt8} (h:keyOk k=true):k ≠ []∧k.length≤64:=by
 unfold keyOk at h
 simp only[Bool.and_eq_true,decide_eq_true_eq]at h
 refine⟨fun e=>?_,by omega⟩
 rw[e]at h
 simp at h
theorem writeK_may{l:List RowA} (hS:Rise l)(h:∀ r∈l,r.may=true) {x:OpA} (ok:x.ok=true)(h45:¬ (x.kind=4∨x.kind=5))(h6:x.kind≠6):∀ r∈(writeK l x).2,r.may=true:=by
 unfold OpA.ok at ok
 by_cases h123:x.kind=1∨x.kind=2∨x.kind=3
 ·rw[if_pos h123]at ok
  simp only[Bool.and_eq_true,decide_eq_true_eq,OpA.base]at ok
  have hkey:=keyOk_may ok.1.1.1.1.1
  have hput:¬ 4096<x.val.length→∀ r∈putK l ⟨x.key,x.stamp,x.val⟩,r.may=true:=fun hv=>by
   refine putK_may hS h ?_
   unfold RowA.may
   simp only[Bool.and_eq_true,decide_eq_true_eq]
   exact⟨hkey.1,by omega,ok.1.1.2.1,ok.1.1.2.2,by omega⟩
  unfold writeK
  repeat' split
  all_goals first|exact h|(apply hput;assumption)
 ·rw[if_neg h123,if_neg h45,if_neg h6]at ok
  cases ok
theorem oneK_may{l:List RowA} (hS:Rise l)(h:∀ r∈l,r.may=true) {x:OpA} (ok:x.ok=true)(h6:x.kind≠6):∀ r∈(oneK l x).2,r.may=true:=by
 have hdel:∀ r∈delK l x.key,r.may=true:=fun r hr=>h r ((mem_delK hS).mp hr).1
 unfold oneK
 repeat' split
 all_goals first|exact h|exact hdel|(exact writeK_may hS h ok (by assumption) h6)
theorem rowsK_may:∀(ops:List OpA) {S:List RowA},Rise S→(∀ r∈S,r.may=true)→(∀ x∈ops,x.ok=true∧x.kind≠6)→∀ r∈rowsK S ops,r.may=true
 | [],_,_,h,_=>h
 | x::ops,_,hS,h,ho=>rowsK_may ops (oneK_rise hS x) (oneK_may hS h (ho x (by simp)).1 (ho x (by simp)).2) (fun y hy=>ho y (by simp[hy]))
theorem doK_may(ops:List OpA) {S:List RowA} (hS:Rise S)(h:∀ r∈S,r.may=true)(ho:∀ x∈ops,x.ok=true∧x.kind≠6):∀ r∈(doK S ops).2.2,r.may=true:=by
 unfold doK
 split
 ·exact h
 ·exact rowsK_may ops hS h ho
end Go.Proofs
