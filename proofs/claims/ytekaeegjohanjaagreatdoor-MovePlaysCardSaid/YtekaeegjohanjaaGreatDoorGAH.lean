import Derived.Test.YtekaeegjohanjaaGreatDoorGAG
import Derived.Test.YtekaeegjohanjaaGreatDoorGAA
import Derived.Test.YtekaeegjohanjaaGreatDoorGAF
import Derived.Test.YtekaeegjohanjaaGreatDoorGAE
set_option linter.all false
namespace Go.Proofs
open Go Go.Abs
set_option maxRecDepth 100000
set_option linter.unusedSimpArgs false
theorem shelfSiz:siz Tryz.prog 141=some 1:=by kernel_rfl
theorem shelfDrop : methOf Tryz.prog 87 "Drop" = some 223 := by kernel_rfl
theorem addZero(k:List UInt8)(hk:k.length≤1000000):aBin Tryz.prog .add 9 (.v (.string (bs k))) (.v (.string (ByteArray.mk #[0])))=some (.v (.string (bs (k ++ [0])))):=by
 have e0:(ByteArray.mk #[0])=bs [0]:=rfl
 rw[e0]
 have hb:bs k++bs [0]=bs (k ++ [0]):=by
  apply ByteArray.ext
  simp[bs]
 simp (disch:=omega)only[go_sem,hb]
theorem stepDrop(G:Nat→Option AV) (K:AV→AH→Prop)(h h115:AH) (i0 i2:Nat) (a v20 v27 v45 v53 v77 v78:AV)(s44:ByteArray)(b46:Bool) (ps:List Nat)(ls:List (List RowA))(keys:List (List UInt8)) (mv:List Nat)(D:List (Nat × List UInt8))(T:TabsAt h115 a ps ls)(hnd:ps.Nodup)(hm9:mv.length≤1000000)(hp9:ps.length≤1000000)(hk9:keys.length≤1000000)
  (s45:∀ H,Buts ps h115 H→Ints H v45 (mv.map fun(n:Nat)=>(n:Int)))(s77:∀ H,Buts ps h115 H→Ints H v77 (D.map fun d=>(d.1:Int)))(s53:∀ H,Buts ps h115 H→Sees H 1 v53 (ps.map irowS))(s27:∀ H,Buts ps h115 H→Sees H 1 v27 (keys.map srow))
  (hD:D.length=mv.length)(hkey:∀(j m:Nat) (d:Nat × List UInt8),mv[j]? = some m→D[j]? = some d→keys[m]? = some d.2∧d.1<ps.length∧d.2.length≤1000000)
  (hk:∀ H,TabsAt H a ps (dropAll ls D)→Buts ps h115 H→Tryz.r28_l41_142 K h G i0 i2 v20 s44 v45 b46 v53 v78 H mv.length 0) :
  Tryz.r28_l36_121 G h K i0 i2 v20 v27 s44 v45 b46 v53 v77 v78 h115 mv.length 0:=by
 unfold Tryz.r28_l36_121
 refine⟨fun m vs H=>∃ j:Nat,j≤mv.length∧m=mv.length-j∧TabsAt H a ps (dropAll ls (D.take j))∧Buts ps h115 H∧vs = [.v (.int .i64 j)],mv.length,⟨0,by omega,rfl,by simpa[dropAll]using T,Buts.refl,rfl⟩,?_⟩
 rintro m H hl1 hlow2 n ⟨j,hj,rfl,TH,bH,hvs⟩
 simp only[List.cons.injEq,AV.v.injEq,Value.int.injEq,true_and,and_true]at hvs
 subst hvs
 by_cases hjl:j<mv.length
 ·obtain⟨x,hx⟩:∃ x,mv[j]? = some x:=⟨_,List.getElem?_eq_getElem hjl⟩
  obtain⟨d,hd⟩:∃ d,D[j]? = some d:=⟨_,List.getElem?_eq_getElem (by omega)⟩
  obtain⟨y1,y2,y3⟩:=hkey j x d hx hd
  obtain⟨p,hp⟩:∃ p,ps[d.1]? = some p:=⟨_,List.getElem?_eq_getElem y2⟩
  have hlen:=TH.len
  obtain⟨l,hl⟩:∃ l,(dropAll ls (D.take j))[d.1]? = some l:=⟨_,List.getElem?_eq_getElem (by omega)⟩
  have ewj:IntKind.i64.wrap ((j:Int)+1)=((j+1:Nat):Int):=by rw[wrap64_of (by omega) (by omega)];omega
  obtain⟨q1,q2,q3⟩:=(s45 H bH).ia (P:=Tryz.prog) (t:=31) (k:= .i64) (i:=(j:Int)) (r:=irow (x:Int)) Tryz.und31 Tryz.siz3 (by omega) (by simp[hx])
  obtain⟨u1,u2,u3⟩:=(s77 H bH).ia (P:=Tryz.prog) (t:=31) (k:= .i64) (i:=(j:Int)) (r:=irow (d.1:Int)) Tryz.und31 Tryz.siz3 (by omega) (by simp[hd])
  obtain⟨w1,w2,w3⟩:=(s53 H bH).ia (P:=Tryz.prog) (t:=137) (k:= .i64) (i:=(d.1:Int)) (r:=irowS p) Tryz.und137 (by kernel_rfl:siz Tryz.prog 141=some 1) (by omega) (by simp[hp])
  obtain⟨z1,z2,z3⟩:=(s27 H bH).ia (P:=Tryz.prog) (t:=142) (k:= .i64) (i:=(x:Int)) (r:=srow d.2) Tryz.und142 Tryz.siz9 (by omega) (by rw[List.getElem?_map,Int.toNat_natCast,y1];rfl)
  have ld:aLoad Tryz.prog H 141 w1=some (.ifc 87 (.ptr p 0 0 0)):=by
   simp (disch:=omega)only[go_sem,w3,shelfSiz]
   rfl
  have zz:∀ K':AV→Prop,okV (aIA Tryz.prog H 142 v27 (.v (.int .i64 (x:Int)))) K'=K' z1:=fun K'=>by rw[z2];exact okV_some
  simp (disch:=omega)only[go_sem,q2,q3,u2,u3,w2, ↓ld,z2,z3,addZero d.2 y3,shelfDrop]
  refine⟨tbDel_call G p l d.2 H _ (TH.tab d.1 p l hp hl) fun n' H' T' b'=>?_⟩
  simp (disch:=omega)only[go_sem,ewj]
  have TS:=TH.set hnd hp b' T'
  refine next_keep (mv.length-(j+1)) (by omega) (Nat.le_trans hl1 b'.1) ⟨j+1,by omega,rfl,?_,bH.trans (Buts.but b' (List.mem_of_getElem? hp)),rfl⟩
  rw[List.take_add_one,hd]
  simp only[Option.toList_some]
  rw[dropAll_snoc,List.getD_eq_getElem?_getD,hl]
  exact TS
 ·have:j=mv.length:=by omega
  subst this
  rw[List.take_of_length_le (by omega)]at TH
  have lm:=(s45 H bH).len (P:=Tryz.prog) (t:=31) Tryz.und31
  rw[List.length_map,List.length_map]at lm
  have c:=hk H TH bH
  simp (disch:=omega)only[go_sem,lm]
  exact c
end Go.Proofs
namespace Go.Proofs
open Go Go.Abs
set_option maxRecDepth 100000
set_option linter.unusedSimpArgs false
theorem mineOwn{e:TypeId} {n:Nat} {h:AH} {x:AV} {rows:List (List AV)} (m:Mine e n h x rows):Own e n h x rows:=by
 cases m with
 | nil=>exact .nil
 | @obj id g rows hr ho=>exact .sl hr ho (by simp) (by simp) (fun c hc=>by cases hc)
theorem shelfTake : methOf Tryz.prog 87 "Take" = some 42 := by kernel_rfl
theorem TabsAt.put{h:AH} {a:AV} {ps:List Nat} {ls:List (List RowA)} (T:TabsAt h a ps ls) {j:Nat} {e:TypeId} {n g:Nat} {r:List (List AV)} {o:Option AO} (hj:h[j]? = some (some (.cells e n r g)))(h1:e≠160)(h2:e≠131)(h3:e≠87):TabsAt (h.set j o) a ps ls:=by
 have other:∀ {id:Nat} {e':TypeId} {n' g':Nat} {r':List (List AV)},h[id]? = some (some (.cells e' n' r' g'))→e'≠e→(h.set j o)[id]? = h[id]?:=fun {id e' n' g' r'} hi he=>by
  refine List.getElem?_set_ne ?_
  rintro rfl
  rw[hj]at hi
  cases hi
  exact he rfl
 refine⟨T.own.keep fun id r' g' hi=>(other hi (Ne.symm h3)).trans hi,T.len,fun i p l hp hl=>?_⟩
 have Tp:=T.tab i p l hp hl
 obtain⟨x,hx,_⟩:=Tp.ex
 exact Tp.keep (other hx (Ne.symm h1)) ⟨by simp,fun id r' g' hi=>(other hi (Ne.symm h2)).trans hi⟩
theorem Buts.set{ps:List Nat} {h H:AH} (b:Buts ps h H) {j:Nat} {o:Option AO} (hj:h.length≤j):Buts ps h (H.set j o):=⟨by rw[List.length_set];exact b.1,fun i hi hp=>by rw[List.getElem?_set_ne (by omega)];exact b.2 i hi hp⟩
theorem stepTake(G:Nat→Option AV) (K:AV→AH→Prop)(h h124:AH) (i0 i2:Nat) (a v20 v45 v53 v78:AV) (W1 W2:AV)(c:Chg) (cur':List UInt8)(b46:Bool) (ps:List Nat)(ls:List (List RowA)) (S:List RowA) (mv:List Nat)(E:List (Nat × RowA))(T:TabsAt h124 a ps ls)(hnd:ps.Nodup)(hm9:mv.length≤1000000)(hp9:ps.length≤1000000)(hS9:S.length≤1000000)
  (hbase:Buts ps h h124)(hi0:h.length≤i0)(hi2:h.length≤i2)(hi02:i0≠i2)
  (o0:h124[i0]? = some (some (.cells 49 6 [c.cells W1 W2] 0)))(o2:h124[i2]? = some (some (.cells 49 6 [zeroChg.cells nilA nilA] 0)))
  (w11:W1.one=true)(w12:W1.cells = [W1])(w21:W2.one=true)(w22:W2.cells = [W2])
  (l45:∀ H,aLen Tryz.prog H 31 v45=some (.v (.int .i64 mv.length)))
  (s45:∀ H,Buts ps h124 H→Ints H v45 (mv.map fun(n:Nat)=>(n:Int)))(s78:∀ H,Buts ps h124 H→Ints H v78 (E.map fun d=>(d.1:Int)))(s53:∀ H,Buts ps h124 H→Sees H 1 v53 (ps.map irowS))(s20:∀ H,Buts ps h124 H→Own 131 3 H v20 (S.map RowA.cells))
  (hE:E.length=mv.length)(hkey:∀(j m:Nat) (d:Nat × RowA),mv[j]? = some m→E[j]? = some d→S[m]? = some d.2∧d.1<ps.length∧d.2.may=true)
  (hcap:∀(j i:Nat) (l:List RowA),(putAll ls (E.take j))[i]? = some l→l.length≤4095)
  (hk:∀ H,TabsAt H a ps (putAll ls E)→Buts ps h H→K (.tup [.agg (({ c with cur:=cur',fin:=b46 } : Chg).cells W1 W2), .v (.int .i64 mv.length), .v (.int .i64 0)]) H) :
  Tryz.r28_l41_142 K h G i0 i2 v20 (bs cur') v45 b46 v53 v78 h124 mv.length 0:=by
 unfold Tryz.r28_l41_142
 refine⟨fun m vs H=>∃ j:Nat,j≤mv.length∧m=mv.length-j∧TabsAt H a ps (putAll ls (E.take j))∧Buts ps h124 H∧vs = [.v (.int .i64 j)],mv.length,⟨0,by omega,rfl,by simpa[putAll]using T,Buts.refl,rfl⟩,?_⟩
 rintro m H hl1 hlow2 n ⟨j,hj,rfl,TH,bH,hvs⟩
 simp only[List.cons.injEq,AV.v.injEq,Value.int.injEq,true_and,and_true]at hvs
 subst hvs
 by_cases hjl:j<mv.length
 ·obtain⟨x,hx⟩:∃ x,mv[j]? = some x:=⟨_,List.getElem?_eq_getElem hjl⟩
  obtain⟨d,hd⟩:∃ d,E[j]? = some d:=⟨_,List.getElem?_eq_getElem (by omega)⟩
  obtain⟨y1,y2,y3⟩:=hkey j x d hx hd
  obtain⟨p,hp⟩:∃ p,ps[d.1]? = some p:=⟨_,List.getElem?_eq_getElem y2⟩
  have hlen:=TH.len
  obtain⟨l,hl⟩:∃ l,(putAll ls (E.take j))[d.1]? = some l:=⟨_,List.getElem?_eq_getElem (by omega)⟩
  have hcl:=hcap j d.1 l hl
  have xlt:=(List.getElem?_eq_some_iff.mp y1).1
  have ewj:IntKind.i64.wrap ((j:Int)+1)=((j+1:Nat):Int):=by rw[wrap64_of (by omega) (by omega)];omega
  have ewx:IntKind.i64.wrap ((x:Int)+1)=((x+1:Nat):Int):=by rw[wrap64_of (by omega) (by omega)];omega
  obtain⟨q1,q2,q3⟩:=(s45 H bH).ia (P:=Tryz.prog) (t:=31) (k:= .i64) (i:=(j:Int)) (r:=irow (x:Int)) Tryz.und31 Tryz.siz3 (by omega) (by simp[hx])
  obtain⟨u1,u2,u3⟩:=(s78 H bH).ia (P:=Tryz.prog) (t:=31) (k:= .i64) (i:=(j:Int)) (r:=irow (d.1:Int)) Tryz.und31 Tryz.siz3 (by omega) (by simp[hd])
  obtain⟨w1,w2,w3⟩:=(s53 H bH).ia (P:=Tryz.prog) (t:=137) (k:= .i64) (i:=(d.1:Int)) (r:=irowS p) Tryz.und137 (by kernel_rfl:siz Tryz.prog 141=some 1) (by omega) (by simp[hp])
  obtain⟨z1,z2,z3⟩:=(s20 H bH).cut (P:=Tryz.prog) (t:=47) (k:= .i64) (k':= .i64) Tryz.und47 Tryz.siz131 (lo:=x) (hi:=x+1) (by omega) (by simp;omega)
  have z2:=z2 []
  rw[List.append_nil]at z2
  have ld:aLoad Tryz.prog H 141 w1=some (.ifc 87 (.ptr p 0 0 0)):=by
   simp (disch:=omega)only[go_sem,w3,shelfSiz]
   rfl
  simp (disch:=omega)only[go_sem,q2,q3,u2,u3,w2, ↓ld,ewx,z2,shelfTake]
  have hone:((S.map RowA.cells).drop x).take (x+1-x) = [d.2].map RowA.cells:=by
   rw[show x+1-x=1 by omega]
   have hg:(S.map RowA.cells)[x]? = some d.2.cells:=by simp[y1]
   obtain⟨g1,g2⟩:=List.getElem?_eq_some_iff.mp hg
   rw[← List.getElem_cons_drop g1,g2]
   simp
  rw[hone]at z3
  have hmay:d.2.may=true:=y3
  have hklen:d.2.key.length≤64∧d.2.val.length≤4096:=by
   unfold RowA.may at hmay
   simp only[Bool.and_eq_true,decide_eq_true_eq]at hmay
   omega
  have hput:(takeM l [d.2]).length≤4096:=by
   have:=takeM_len (new:= [d.2]) (old:=l)
   simp only[List.length_singleton]at this
   omega
  refine⟨tbTake_call G p l [d.2] z1 H _ (TH.tab d.1 p l hp hl) (fun H' kt=>(z3.keep kt.2).sees) (by simp) (by simp;omega) (fun hbad=>by simp[hmay]at hbad) (fun _ hbad=>absurd (List.pairwise_singleton _ _) hbad) (fun _ _ hbad=>by omega) (fun _ _ _ H' T' b'=>?_)⟩
  simp (disch:=omega)only[go_sem,ewj]
  rw[takeM_one]at T'
  have TS:=TH.set hnd hp b' T'
  refine next_keep (mv.length-(j+1)) (by omega) (Nat.le_trans hl1 b'.1) ⟨j+1,by omega,rfl,?_,bH.trans (Buts.but b' (List.mem_of_getElem? hp)),rfl⟩
  rw[List.take_add_one,hd]
  simp only[Option.toList_some]
  rw[putAll_snoc,List.getD_eq_getElem?_getD,hl]
  exact TS
 ·have:j=mv.length:=by omega
  subst this
  rw[List.take_of_length_le (by omega)]at TH
  have q0:=T.keepO bH (by decide) o0
  have q2:=T.keepO bH (by decide) o2
  have l0:=(List.getElem?_eq_some_iff.mp q0).1
  have l2:=(List.getElem?_eq_some_iff.mp q2).1
  have g1:∀ o,(H.set i0 o)[i0]? = some o:=fun o=>List.getElem?_set_self l0
  have g2:∀ o,(H.set i0 o)[i2]? = some (some (.cells 49 6 [zeroChg.cells nilA nilA] 0)):=fun o=>(List.getElem?_set_ne hi02).trans q2
  have g3:∀ o o',((H.set i0 o).set i2 o')[i2]? = some o':=fun o o'=>List.getElem?_set_self (by rw[List.length_set];exact l2)
  simp (disch:=omega)only[go_sem,q0,g1,g2,g3,List.set_set,l45,w11,w12,w21,w22]
  refine ret_keep ?_
  refine hk _ ?_ (((hbase.trans bH).set hi0).set hi2)
  exact(TH.put q0 (by decide) (by decide) (by decide)).put (g2 _) (by decide) (by decide) (by decide)
end Go.Proofs
namespace Go.Proofs
open Go Go.Abs
set_option maxRecDepth 100000
set_option linter.unusedSimpArgs false
structure RTab (h:AH) (q:Nat) (l:List RowA):Prop where
 ex:∃ a,h[q]? = some (some (.cells 149 1 [[a]] 0))∧Own 131 3 h a (l.map RowA.cells)
 rise:Rise l
 len:l.length≤1000000
theorem RTab.lt{h:AH} {p:Nat} {l:List RowA} (T:RTab h p l):p<h.length:=by
 obtain⟨a,ho,_⟩:=T.ex
 exact(List.getElem?_eq_some_iff.mp ho).1
theorem RTab.keep{h h':AH} {p:Nat} {l:List RowA} (T:RTab h p l)(hp:h'[p]? = h[p]?)(k:KeepT h h'):RTab h' p l:=by
 obtain⟨a,ho,s⟩:=T.ex
 exact⟨⟨a,hp.trans ho,s.keep k.2⟩,T.rise,T.len⟩
theorem RTab.grew{h h':AH} {p:Nat} {l:List RowA} (T:RTab h p l)(g:Grew h h'):RTab h' p l:=by
 have hl:=T.lt
 obtain⟨t,rfl⟩:=g.ex
 exact T.keep (List.getElem?_append_left hl) (KeepT.app _ _)
theorem RTab.wKeep{h h':AH} {p:Nat} {l:List RowA} (T:RTab h p l)(b:But p h h'):KeepT h h':=by
 obtain⟨a,ho,_⟩:=T.ex
 refine⟨b.1,fun j r g hj=>?_⟩
 rw[b.2 j (List.getElem?_eq_some_iff.mp hj).1 ?_]
 ·exact hj
 ·rintro rfl
  rw[ho]at hj
  cases hj
theorem keyOf{h:AH} {a:AV} {l:List RowA} (s:Sees h 3 a (l.map RowA.cells)) {i:Nat} {r:RowA} (hi:l[i]? = some r) :
  ∃ q u,(∀ t,aIA Tryz.prog (h++t) 47 a (.v (.int .i64 (i:Int)))=some q)∧(∀ t,Go.Abs.rowAt (h++t) q=some (r.cells,0))∧aFA Tryz.prog 131 0 q=some u∧∀ t,aLoad Tryz.prog (h++t) 9 u=some (.v (.string (bs r.key))):=by
 obtain⟨q,q1,q2,q3⟩:=s.iaAll (P:=Tryz.prog) (ty:=47) (k:= .i64) (i:=(i:Int)) (r:=r.cells) Tryz.und47 Tryz.siz131 (by omega) (by simp[hi])
 obtain⟨u,u1,u2⟩:=q3 131 0 0 1 false Tryz.fld131_0 (by decide)
 refine⟨q,u,q1,q2,u1,fun t=>?_⟩
 have:=u2 t
 simp (disch:=omega)only[go_sem,this]
theorem refFind_call(G:Nat→Option AV) (p:Nat) (l:List RowA) (k:List UInt8)(h:AH) (K:AV→AH→Prop)(T:RTab h p l)(hk:K (.tup [.v (.int .i64 (lbK l k)), .v (.bool (hasK l k))]) h):SCall Tryz.prog G 122 [.ptr p 0 0 0, .v (.string (bs k))] h K:=by
 refine Tryz.c122 G _ _ h K fun hlow=>?_
 unfold Tryz.r122
 unfold Tryz.r122_l2_0
 obtain⟨a,ho,s⟩:=T.ex
 have hl:=T.len
 have a1:=s.one
 have a2:=s.cells
 have la:=s.sees.len (P:=Tryz.prog) (t:=47) Tryz.und47
 rw[List.length_map]at la
 refine⟨fun m vs h'=>∃ i:Nat,i≤l.length∧m=l.length-i∧h'=h∧(∀ j r,j<i→l[j]? = some r→bl r.key k=true)∧vs = [.v (.int .i64 i)],l.length,⟨0,by omega,rfl,rfl,(fun j r hj=>absurd hj (Nat.not_lt_zero _)),rfl⟩,?_⟩
 rintro m h' hl1 hlow2 n ⟨i,hi,rfl,rfl,hlo,hvs⟩
 simp only[List.cons.injEq,AV.v.injEq,Value.int.injEq,true_and,and_true]at hvs
 subst hvs
 have ew:IntKind.i64.wrap ((i:Int)+1)=((i+1:Nat):Int):=by rw[wrap64_of (by omega) (by omega)];omega
 by_cases hil:i<l.length
 ·obtain⟨r,hr⟩:∃ r,l[i]? = some r:=⟨_,List.getElem?_eq_getElem hil⟩
  obtain⟨q,u,q1,q2,u1,u2⟩:=keyOf s.sees hr
  have q1:=q1 []
  have q2:=q2 []
  have u2:=u2 []
  rw[List.append_nil]at q1 q2 u2
  cases hb:Op.bytesLess r.key k with
  | true=>
   simp (disch:=omega)only[go_sem,ho,a1,a2,la,q1,u1,u2,bs_toList,hb,ew]
   refine next_keep (l.length-(i+1)) (by omega) (Nat.le_refl _) ⟨i+1,by omega,rfl,rfl,fun j x hj hx=>?_,rfl⟩
   by_cases hji:j=i
   ·subst hji
    rw[hr]at hx
    rw[← Option.some.inj hx]
    exact hb
   ·exact hlo j x (by omega) hx
  | false=>
   have hlb:lbK l k=i:=lbK_eq hi hlo fun x hx=>by rw[hr]at hx;rw[← Option.some.inj hx];exact hb
   have hha:hasK l k=decide (r.key=k):=by unfold hasK;rw[hlb,hr];rfl
   rw[hlb,hha]at hk
   have he:(r.key==k)=decide (r.key=k):=by by_cases h:r.key=k <;> simp[h]
   simp (disch:=omega)only[go_sem,ho,a1,a2,la,q1,u1,u2,bs_toList,hb,he,if_true]
   exact ret_same hk
 ·have hie:i=l.length:=by omega
  subst hie
  have hlb:lbK l k=l.length:=lbK_eq hi hlo fun x hx=>by rw[List.getElem?_eq_none (by omega)]at hx;cases hx
  have hha:hasK l k=false:=by unfold hasK;rw[hlb,List.getElem?_eq_none (by omega)];rfl
  rw[hlb,hha]at hk
  simp (disch:=omega)only[go_sem,ho,a1,a2,la,Bool.false_eq_true,if_false]
  exact ret_same hk
theorem offNil(j:Nat):Off (.v (.slice none 0 0)) j:=fun id g o l c hx=>by cases hx
theorem rtStore{h H:AH} {p:Nat} {l m:List RowA} {a x:AV} (T:RTab h p l)(hle:h.length≤H.length)(same:∀ j,j<h.length→H[j]? = h[j]?)(hx:Mine 131 3 H x (m.map RowA.cells))(hr:Rise m)(hm:m.length≤1000000):RTab (H.set p (some (.cells 149 1 [[x]] 0))) p m∧But p h (H.set p (some (.cells 149 1 [[x]] 0))):=by
 have pl:=T.lt
 obtain⟨y,hy,_⟩:=T.ex
 have hp:H[p]? = some (some (.cells 149 1 [[y]] 0)):=by rw[same p pl];exact hy
 refine⟨⟨⟨x,List.getElem?_set_self (by omega),(mineOwn hx).keep fun id r g hi=>?_⟩,hr,hm⟩,by rw[List.length_set];exact hle,fun j hj hne=>?_⟩
 ·rw[List.getElem?_set_ne]
  ·exact hi
  ·rintro rfl
   rw[hp]at hi
   cases hi
 ·rw[List.getElem?_set_ne (Ne.symm hne)]
  exact same j hj
theorem refput_call(G:Nat→Option AV) (p:Nat) (l:List RowA)(r:RowA)(h:AH) (K:AV→AH→Prop)(T:RTab h p l)(hlen:l.length≤100000)(hk:∀ h',RTab h' p (putK l r)→But p h h'→K (.tup []) h'):SCall Tryz.prog G 123 [.ptr p 0 0 0, .agg r.cells] h K:=by
 refine Tryz.c123 G _ _ h K fun hlow=>?_
 unfold Tryz.r123
 obtain⟨a,ho,s⟩:=T.ex
 have pl:=T.lt
 have a1:=s.one
 have a2:=s.cells
 have e0:(ByteArray.mk #[])=bs []:=rfl
 have hlb:=lbK_le l r.key
 have hhl:=hiK_le l r.key
 have ho1:(h ++ [some (AO.cells 131 3 [r.cells] 0)])[p]? = _:=(List.getElem?_append_left pl).trans ho
 obtain⟨x1,e1,s1⟩:=(s.more [some (AO.cells 131 3 [r.cells] 0)]).upto (P:=Tryz.prog) (t:=47) (k:= .i64) Tryz.und47 Tryz.siz131 (m:=lbK l r.key) (by simpa using hlb)
 have e1:=e1 []
 rw[List.append_nil]at e1
 simp (disch:=omega)only[go_sem,Nat.reduceAdd]
 refine⟨refFind_call G p l r.key _ _ (T.grew (Grew.app _)) ?_⟩
 simp (disch:=omega)only[go_sem,extV,ho1,a1,a2,e1]
 refine(Mine.nil (h:=h ++ [some (AO.cells 131 3 [r.cells] 0)])).append (new:=(l.map RowA.cells).take (lbK l r.key)) Tryz.und47 Tryz.azero131 Tryz.byt131 (by exact Tryz.plainSrc47) s1.sees.src s1.rowsLen (by rintro⟨y,rfl⟩;cases s1) (by simp;omega) (by simp;omega) fun x2 H1 m1 hle1 st1=>?_
 simp only[List.length_append,List.length_cons,List.length_nil]at hle1
 have b1:∀ j,j<h.length+1→H1[j]? = (h ++ [some (AO.cells 131 3 [r.cells] 0)])[j]? ∧ Off x2 j:=fun j hj=>st1 j (by simp;omega) (offNil j)
 have oR:H1[h.length]? = some (some (.cells 131 3 [r.cells] 0)):=by rw[(b1 h.length (by omega)).1];simp
 have fr:=fillRow (r:=r) (x:=bs []) (y:=bs [])
 have m1':Mine 131 3 H1 x2 ((l.take (lbK l r.key)).map RowA.cells):=by simpa using m1
 simp (disch:=omega)only[go_sem,oR,fr,e0,Nat.reduceAdd]
 refine(m1'.more _).pushAt (i:=H1.length) (g:=0) (row:=r.cells) (e':=131) (by simp) Tryz.und47 Tryz.azero131 Tryz.byt131 (by exact Tryz.plainSrc47) rfl (by simp;omega) (by simp;omega) fun x3 H2 m2 hle2 st2=>?_
 simp only[List.length_append,List.length_cons,List.length_nil]at hle2
 have b2:∀ j,j<h.length→H2[j]? = h[j]? ∧ Off x3 j:=fun j hj=>by
  obtain⟨c1,c2⟩:=st2 j (by simp;omega) (b1 j (by omega)).2
  rw[c1,List.getElem?_append_left (by omega),(b1 j (by omega)).1,List.getElem?_append_left hj]
  exact⟨rfl,c2⟩
 have ho2:H2[p]? = _:=(b2 p pl).1.trans ho
 have s2:Own 131 3 H2 a (l.map RowA.cells):=s.keep fun id r' g hi=>(b2 id (List.getElem?_eq_some_iff.mp hi).1).1.trans hi
 obtain⟨x4,e4,s4⟩:=s2.from (P:=Tryz.prog) (t:=47) (k:= .i64) Tryz.und47 Tryz.siz131 (m:=hiK l r.key) (by simpa using hhl)
 have e4:=e4 []
 rw[List.append_nil]at e4
 have key:∀ n:Nat,n=hiK l r.key→Tryz.r123_j21 K h (.ptr p 0 0 0) x3 (n:Int) H2:=by
  rintro n rfl
  unfold Tryz.r123_j21
  simp (disch:=omega)only[go_sem,ho2,a1,a2,e4]
  refine m2.append (new:=(l.map RowA.cells).drop (hiK l r.key)) Tryz.und47 Tryz.azero131 Tryz.byt131 (by exact Tryz.plainSrc47) s4.sees.src s4.rowsLen (by rintro⟨y,rfl⟩;cases s4) (by simp;omega) (by simp;omega) fun x5 H3 m3 hle3 st3=>?_
  have b3:∀ j,j<h.length→H3[j]? = h[j]?:=fun j hj=>by
   rw[(st3 j (by omega) (b2 j hj).2).1]
   exact(b2 j hj).1
  have ho3:H3[p]? = _:=(b3 p pl).trans ho
  have v1:=m3.one
  have v2:=m3.cells
  simp (disch:=omega)only[go_sem,ho3,v1,v2,Nat.one_ne_zero,if_false]
  have eR:(putK l r).map RowA.cells=(l.take (lbK l r.key)).map RowA.cells ++ [r.cells]++(l.map RowA.cells).drop (hiK l r.key):=by unfold putK;simp
  rw[← eR]at m3
  obtain⟨c1,c2⟩:=rtStore (a:=a) T (by omega) b3 m3 (putK_rise T.rise r) (by have:=putK_len l r;omega)
  exact ret_keep (hk _ c1 c2)
 have ew:IntKind.i64.wrap ((lbK l r.key:Int)+1)=((lbK l r.key+1:Nat):Int):=by rw[wrap64_of (by omega) (by omega)];omega
 cases hh:hasK l r.key with
 | true=>
  have hhi:lbK l r.key+1=hiK l r.key:=by unfold hiK;rw[hh];rfl
  simp (disch:=omega)only[go_sem,ew]
  exact key _ hhi
 | false=>
  have hhi:lbK l r.key=hiK l r.key:=by unfold hiK;rw[hh];rfl
  simp (disch:=omega)only[go_sem]
  exact key _ hhi
theorem refPut_call(G:Nat→Option AV) (p:Nat) (l:List RowA)(r:RowA)(h:AH) (K:AV→AH→Prop)(T:RTab h p l)(hlen:l.length≤100000)(hk:∀ h',RTab h' p (putK l r)→But p h h'→K (.tup []) h'):SCall Tryz.prog G 74 [.ptr p 0 0 0, .agg r.cells] h K:=by
 refine Tryz.c74 G _ _ h K fun hlow=>?_
 unfold Tryz.r74
 simp (disch:=omega)only[go_sem,Nat.reduceAdd]
 refine⟨refput_call G p l r _ _ (T.grew (Grew.app _)) hlen fun h' T' b'=>?_⟩
 simp (disch:=omega)only[go_sem]
 exact ret_keep (hk h' T' ((But.app _).trans b'))
theorem refMayRow_call(G:Nat→Option AV)(r:RowA)(h:AH) (K:AV→AH→Prop)(hkl:r.key.length≤4611686018427387904)(hm:r.may=true)(hk:K (.v (.bool true)) h):SCall Tryz.prog G 121 [.agg r.cells] h K:=by
 refine Tryz.c121 G _ h K fun hlow=>?_
 unfold Tryz.r121
 have hm':=hm
 unfold RowA.may at hm'
 simp only[Bool.and_eq_true,decide_eq_true_eq]at hm'
 simp (disch:=omega)only[go_sem,Nat.reduceAdd]
 refine⟨Key_call G r.key _ _ hkl ?_⟩
 have h1:(r.key == [])=false:=by simpa using hm'.1
 have h2:decide (r.key.length≤64)=true:=by simp;omega
 rw[h1,h2]
 have h3:decide ((r.val.length:Int)≤4096)=true:=decide_eq_true (by omega)
 simp (disch:=omega)only[go_sem,Bool.not_false,Bool.and_self,h3]
 exact ret_tail hlow .v hk
theorem putK_end{l:List RowA} {r:RowA} (h:∀ x∈l,bl x.key r.key=true):putK l r=l ++ [r]:=by
 have h1:lbK l r.key=l.length:=lbK_eq (Nat.le_refl _) (fun j x hj hx=>h x (List.mem_of_getElem? hx)) (fun x hx=>by rw[List.getElem?_eq_none (by omega)]at hx;cases hx)
 have h2:hasK l r.key=false:=by unfold hasK;rw[h1,List.getElem?_eq_none (by omega)];rfl
 unfold putK hiK
 rw[h1,h2]
 simp
theorem refTake_call(G:Nat→Option AV) (p:Nat) (x:AV) (rows:List RowA)(h:AH) (K:AV→AH→Prop)(T:RTab h p [])(hx:∀ h,Sees h 3 x (rows.map RowA.cells))(hr:Rise rows)(hm:∀ r∈rows,r.may=true)(hl:rows.length≤4096)
  (hk:∀ h',RTab h' p rows→But p h h'→K (.v (.int .i64 0)) h'):SCall Tryz.prog G 71 [.ptr p 0 0 0,x] h K:=by
 refine Tryz.c71 G _ _ h K fun hlow=>?_
 unfold Tryz.r71
 unfold Tryz.r71_l2_0
 have la:∀ H,aLen Tryz.prog H 47 x=some (.v (.int .i64 rows.length)):=fun H=>by
  have:=(hx H).len (P:=Tryz.prog) (t:=47) Tryz.und47
  rw[List.length_map]at this
  exact this
 have kl:∀ r∈rows,r.key.length≤64:=fun r hr'=>by
  have:=hm r hr'
  unfold RowA.may at this
  simp only[Bool.and_eq_true,decide_eq_true_eq]at this
  omega
 refine⟨fun m vs h'=>∃ i:Nat,i≤rows.length∧m=rows.length-i∧h'=h∧vs = [.v (.int .i64 i)],rows.length,⟨0,by omega,rfl,rfl,rfl⟩,?_⟩
 rintro m h' hl1 hlow2 n ⟨i,hi,rfl,rfl,hvs⟩
 simp only[List.cons.injEq,AV.v.injEq,Value.int.injEq,true_and,and_true]at hvs
 subst hvs
 by_cases hil:i<rows.length
 ·obtain⟨r,hri⟩:∃ r,rows[i]? = some r:=⟨_,List.getElem?_eq_getElem hil⟩
  have hrm:=List.mem_of_getElem? hri
  have ew:IntKind.i64.wrap ((i:Int)+1)=((i+1:Nat):Int):=by rw[wrap64_of (by omega) (by omega)];omega
  obtain⟨q,u,q1,q2,u1,u2⟩:=keyOf (hx []) hri
  have q1:∀ H,aIA Tryz.prog H 47 x (.v (.int .i64 (i:Int)))=some q:=fun H=>q1 H
  have q2:∀ H,Go.Abs.rowAt H q=some (r.cells,0):=fun H=>q2 H
  simp (disch:=omega)only[go_sem,la,q1,q2]
  refine⟨refMayRow_call G r _ _ (by have:=kl r hrm;omega) (hm r hrm) ?_⟩
  simp (disch:=omega)only[go_sem,Bool.not_true,ew]
  exact next_keep (rows.length-(i+1)) (by omega) (Nat.le_refl _) ⟨i+1,by omega,rfl,rfl,rfl⟩
 have hie:i=rows.length:=by omega
 subst hie
 simp (disch:=omega)only[go_sem,la]
 unfold Tryz.r71_l8_11
 refine⟨fun m vs H=>∃ i:Nat,i≤rows.length∧m=rows.length-i∧H=h'∧vs = [.v (.int .i64 i), .v (.int .i64 i)],rows.length,⟨0,by omega,rfl,rfl,rfl⟩,?_⟩
 rintro m H hl3 hlow3 n n' ⟨i,hi,rfl,rfl,hvs⟩
 simp only[List.cons.injEq,AV.v.injEq,Value.int.injEq,true_and,and_true]at hvs
 obtain⟨rfl,rfl⟩:=hvs
 obtain⟨y,ho,s⟩:=T.ex
 have y1:=s.one
 have y2:=s.cells
 have ly:=s.sees.len (P:=Tryz.prog) (t:=47) Tryz.und47
 by_cases hil:i<rows.length
 ·obtain⟨r,hri⟩:∃ r,rows[i]? = some r:=⟨_,List.getElem?_eq_getElem hil⟩
  have ew:IntKind.i64.wrap ((i:Int)+1)=((i+1:Nat):Int):=by rw[wrap64_of (by omega) (by omega)];omega
  obtain⟨q,u,q1,q2,u1,u2⟩:=keyOf (hx []) hri
  have q1:∀ H,aIA Tryz.prog H 47 x (.v (.int .i64 (i:Int)))=some q:=fun H=>q1 H
  have u2:∀ H,aLoad Tryz.prog H 9 u=some (.v (.string (bs r.key))):=fun H=>u2 H
  have fin:SCall Tryz.prog G 122 [.ptr p 0 0 0, .v (.string (bs r.key))] H (fun v46 h47=>okInt .i64 (extV 0 v46) fun _=>okBool (extV 1 v46) fun b49=>condB (!b49)
    (nextR H (fun m vs H_1=>∃ i:Nat,i≤rows.length∧m=rows.length-i∧H_1=H∧vs = [.v (.int .i64 i), .v (.int .i64 i)]) (rows.length-i) [some (.ptr p 0 0 0),some x] [some (.ptr p 0 0 0),some x] [.v (.int .i64 (IntKind.i64.wrap ((i:Int)+1))), .v (.int .i64 (IntKind.i64.wrap ((i:Int)+1)))] h47)
    (nextR H (fun m vs H_1=>∃ i:Nat,i≤rows.length∧m=rows.length-i∧H_1=H∧vs = [.v (.int .i64 i), .v (.int .i64 i)]) (rows.length-i) [some (.ptr p 0 0 0),some x] [some (.ptr p 0 0 0),some x] [.v (.int .i64 i), .v (.int .i64 (IntKind.i64.wrap ((i:Int)+1)))] h47)):=by
   refine refFind_call G p [] r.key H _ T ?_
   have e1:hasK [] r.key=false:=rfl
   simp (disch:=omega)only[go_sem,extV,e1,Bool.not_false,ew]
   exact next_keep (rows.length-(i+1)) (by omega) (Nat.le_refl _) ⟨i+1,by omega,rfl,rfl,rfl⟩
  by_cases h0:i=0
  ·simp (disch:=omega)only[go_sem,la,q1,u1,u2]
   exact⟨fin⟩
  ·obtain⟨r',hri'⟩:∃ r,rows[i-1]? = some r:=⟨_,List.getElem?_eq_getElem (by omega)⟩
   obtain⟨q',u',q1',q2',u1',u2'⟩:=keyOf (hx []) hri'
   have q1':∀ H,aIA Tryz.prog H 47 x (.v (.int .i64 ((i-1:Nat):Int)))=some q':=fun H=>q1' H
   have u2':∀ H,aLoad Tryz.prog H 9 u'=some (.v (.string (bs r'.key))):=fun H=>u2' H
   have ew2:IntKind.i64.wrap ((i:Int)-1)=((i-1:Nat):Int):=by rw[wrap64_of (by omega) (by omega)];omega
   have hb:Op.bytesLess r'.key r.key=true:=rise_at hr hri' hri (by omega)
   have hb2:Op.bytesLess r.key r'.key=false:=bl_asymm hb
   simp (disch:=omega)only[go_sem,la,q1,u1,u2,q1',u1',u2',ew2,bs_toList,hb,hb2,Bool.not_true,Bool.not_false]
   exact⟨fin⟩
 have hie:i=rows.length:=by omega
 subst hie
 simp only[List.map_nil,List.length_nil]at ly
 have ewr:IntKind.i64.wrap (((0:Nat):Int)+(rows.length:Int))=(rows.length:Int):=by rw[wrap64_of (by omega) (by omega)];omega
 simp (disch:=omega)only[go_sem,la,ho,y1,y2,ly,ewr]
 unfold Tryz.r71_l18_54
 refine⟨fun m vs H'=>∃ i:Nat,i≤rows.length∧m=rows.length-i∧RTab H' p (rows.take i)∧But p H H'∧vs = [.v (.int .i64 i)],rows.length,⟨0,by omega,rfl,T,But.refl,rfl⟩,?_⟩
 rintro m H' hl4 hlow4 n ⟨i,hi,rfl,T',b',hvs⟩
 simp only[List.cons.injEq,AV.v.injEq,Value.int.injEq,true_and,and_true]at hvs
 subst hvs
 by_cases hil:i<rows.length
 ·obtain⟨r,hri⟩:∃ r,rows[i]? = some r:=⟨_,List.getElem?_eq_getElem hil⟩
  have ew:IntKind.i64.wrap ((i:Int)+1)=((i+1:Nat):Int):=by rw[wrap64_of (by omega) (by omega)];omega
  obtain⟨q,u,q1,q2,u1,u2⟩:=keyOf (hx []) hri
  have q1:∀ H,aIA Tryz.prog H 47 x (.v (.int .i64 (i:Int)))=some q:=fun H=>q1 H
  have q2:∀ H,Go.Abs.rowAt H q=some (r.cells,0):=fun H=>q2 H
  have hput:putK (rows.take i) r=rows.take (i+1):=by
   rw[putK_end,List.take_add_one,hri]
   ·rfl
   ·intro z hz
    obtain⟨j,hj⟩:=List.mem_iff_getElem?.mp hz
    rw[List.getElem?_take]at hj
    split at hj
    ·rename_i hji
     exact rise_at hr hj hri hji
    ·cases hj
  simp (disch:=omega)only[go_sem,la,q1,q2]
  refine⟨refput_call G p (rows.take i) r H' _ T' (by rw[List.length_take];omega) fun h2 T2 b2=>?_⟩
  rw[hput]at T2
  simp (disch:=omega)only[go_sem,ew]
  exact next_keep (rows.length-(i+1)) (by omega) (by have:=b'.1;have:=b2.1;omega) ⟨i+1,by omega,rfl,T2,b'.trans b2,rfl⟩
 ·have hie:i=rows.length:=by omega
  subst hie
  rw[List.take_length]at T'
  simp (disch:=omega)only[go_sem,la]
  exact ret_keep (hk H' T' b')
end Go.Proofs
namespace Go.Proofs
open Go Go.Abs
set_option maxRecDepth 100000
set_option linter.unusedSimpArgs false
structure StepCtx (H:AH) (i0 i2:Nat) (a v20 v27 v45 v53 W1 W2:AV)(c:Chg) (ps:List Nat)(ls:List (List RowA)) (S:List RowA) (mv:List Nat):Prop where
 o0:H[i0]? = some (some (.cells 49 6 [c.cells W1 W2] 0))
 o2:H[i2]? = some (some (.cells 49 6 [zeroChg.cells nilA nilA] 0))
 s20:Own 131 3 H v20 (S.map RowA.cells)
 s27:Mine 9 1 H v27 (S.map fun r=>srow r.key)
 s45:Mine 3 1 H v45 (mv.map fun(n:Nat)=>irow (n:Int))
 s53:Mine 141 1 H v53 (ps.map irowS)
 T:TabsAt H a ps ls
theorem butKeep{h H:AH} {i:Nat} (b:But i h H) {e e':TypeId} {n n' g g':Nat} {r r':List (List AV)} (oi:h[i]? = some (some (.cells e n r g)))(he:e'≠e) {j:Nat} (hj:h[j]? = some (some (.cells e' n' r' g'))):H[j]? = some (some (.cells e' n' r' g')):=by
 rw[b.2 j (List.getElem?_eq_some_iff.mp hj).1 ?_]
 ·exact hj
 ·rintro rfl
  rw[oi]at hj
  cases hj
  exact he rfl
theorem TabsAt.butO{h H:AH} {a:AV} {ps:List Nat} {ls:List (List RowA)} (T:TabsAt h a ps ls) {i:Nat} (b:But i h H) {e:TypeId} {n g:Nat} {r:List (List AV)} (oi:h[i]? = some (some (.cells e n r g)))(h1:e≠160)(h2:e≠131)(h3:e≠87):TabsAt H a ps ls:=by
 refine⟨T.own.keep fun id r' g' hi=>butKeep b oi (Ne.symm h3) hi,T.len,fun k p l hp hl=>?_⟩
 have Tp:=T.tab k p l hp hl
 obtain⟨x,hx,_⟩:=Tp.ex
 refine Tp.keep ?_ ⟨b.1,fun id r' g' hi=>butKeep b oi (Ne.symm h2) hi⟩
 rw[hx]
 exact butKeep b oi (Ne.symm h1) hx
section
variable {H H':AH} {i0 i2:Nat} {a v20 v27 v45 v53 W1 W2:AV} {c:Chg} {ps:List Nat} {ls:List (List RowA)} {S:List RowA} {mv:List Nat}
theorem StepCtx.but(C:StepCtx H i0 i2 a v20 v27 v45 v53 W1 W2 c ps ls S mv) {i:Nat} {r:List (List AV)} (b:But i H H')(oi:H[i]? = some (some (.cells 3 1 r 0)))(off:Off v45 i):StepCtx H' i0 i2 a v20 v27 v45 v53 W1 W2 c ps ls S mv where
 o0:=butKeep b oi (by decide) C.o0
 o2:=butKeep b oi (by decide) C.o2
 s20:=C.s20.keep fun id r g hi=>butKeep b oi (by decide) hi
 s27:=C.s27.keep fun id r g hi _=>butKeep b oi (by decide) hi
 s45:=C.s45.keep fun id r g hi hn=>by
  rw[b.2 id (List.getElem?_eq_some_iff.mp hi).1 (fun e=>hn (e▸off))]
  exact hi
 s53:=C.s53.keep fun id r g hi _=>butKeep b oi (by decide) hi
 T:=C.T.butO b oi (by decide) (by decide) (by decide)
theorem StepCtx.grew(C:StepCtx H i0 i2 a v20 v27 v45 v53 W1 W2 c ps ls S mv)(t:AH):StepCtx (H++t) i0 i2 a v20 v27 v45 v53 W1 W2 c ps ls S mv where
 o0:=by rw[List.getElem?_append_left (List.getElem?_eq_some_iff.mp C.o0).1];exact C.o0
 o2:=by rw[List.getElem?_append_left (List.getElem?_eq_some_iff.mp C.o2).1];exact C.o2
 s20:=C.s20.more t
 s27:=C.s27.more t
 s45:=C.s45.more t
 s53:=C.s53.more t
 T:=C.T.grew (Grew.app t)
end
theorem mineLen{P:Program} {t e:TypeId} {n:Nat} {h:AH} {x:AV} {rows:List (List AV)} (m:Mine e n h x rows)(hu:und P t = .slice e)(H:AH):aLen P H t x=some (.v (.int .i64 rows.length)):=by
 cases m with
 | nil=>rw[aLen_nil,hu];rfl
 | obj=>rw[aLen_sl,hu];rfl
theorem Buts.butF{ps:List Nat} {h a b:AH} {i:Nat} (x:Buts ps h a)(y:But i a b)(hi:h.length≤i):Buts ps h b:=⟨Nat.le_trans x.1 y.1,fun j hj hp=>by
 have:=x.1
 rw[y.2 j (by omega) (by omega),x.2 j hj hp]⟩
theorem longIA{h:AH} {i k n:Nat} {L:List Int} (o:h[i]? = some (some (.cells 3 1 (L.map irow) 0)))(hn:n=L.length)(hk:k<n):aIA Tryz.prog h 31 (.sl i 0 0 n none) (.v (.int .i64 (k:Int)))=some (.ptr i 0 k 0):=by
 subst hn
 unfold aIA
 rw[Tryz.und31]
 simp only[Tryz.siz3,o,chk]
 rw[if_pos ⟨trivial,trivial,by omega,by omega⟩]
 simp
theorem longLd{h:AH} {i k:Nat} {L:List Int} {x:Int} (o:h[i]? = some (some (.cells 3 1 (L.map irow) 0)))(hx:L[k]? = some x):Go.Abs.rowAt h (.ptr i 0 k 0)=some (irow x,0):=by
 unfold Go.Abs.rowAt
 simp only[o,chk]
 simp[hx]
theorem longSt{h:AH} {i k:Nat} {L:List Int} {x:Int} {K:AV→AH→Prop} (o:h[i]? = some (some (.cells 3 1 (L.map irow) 0)))(hk:k<L.length)(hK:K (.tup []) (h.set i (some (.cells 3 1 ((L.set k x).map irow) 0)))):storeC Tryz.prog h K 3 (.v (.int .i64 x)) i 0 k 0 h[i]?:=by
 obtain⟨y,hy⟩:∃ y,L[k]? = some y:=⟨_,List.getElem?_eq_getElem hk⟩
 have hy':(L.map irow)[k]? = some (irow y):=by simp[hy]
 rw[o]
 simp only[storeC,hy',okP]
 refine⟨⟨trivial,rfl,Tryz.siz3,Nat.le_refl 1⟩,?_⟩
 rw[List.map_set]at hK
 exact hK
theorem mem_set_bnd{L:List Int} {k:Nat} {x lo hi:Int} (h:∀ z∈L,lo≤z∧z≤hi)(hx:lo≤x∧x≤hi):∀ z∈L.set k x,lo≤z∧z≤hi:=fun z hz=>by
 rcases List.mem_or_eq_of_mem_set hz with h1|h1
 ·exact h z h1
 ·rw[h1];exact hx
theorem mostF:∀(xs:List Int) (x:Int),xs.foldl (fun a b=>if a<b then b else a) x∈x::xs
 | [],x=>by simp
 | y::xs,x=>by
  have:=mostF xs (if x<y then y else x)
  rw[List.foldl_cons]
  rcases List.mem_cons.mp this with h|h
  ·rw[h];split <;> simp
  ·simp[h]
theorem mostI_mem{L:List Int} (h:L ≠ []):mostI L∈L:=by
 cases L with
 | nil=>exact absurd rfl h
 | cons x xs=>exact mostF xs x
theorem stepMove(G:Nat→Option AV)(hG:GTab G) (K:AV→AH→Prop)(h h62:AH) (i0 i2 i56:Nat) (a v20 v27 v45 v53 W1 W2:AV)(c:Chg)(s44:ByteArray)(b46:Bool) (ps:List Nat)(ls:List (List RowA)) (S M:List RowA) (mv:List Nat) (L0:List Int)
  (C:StepCtx h62 i0 i2 a v20 v27 v45 v53 W1 W2 c ps ls S mv)(o56:h62[i56]? = some (some (.cells 3 1 (L0.map irow) 0)))(off:Off v45 i56)(hL0:L0.length=ps.length)(hb0:∀ z∈L0,0≤z∧z≤2000)
  (k1:∀ H,But i56 h62 H→Wt H W1 c.was.wts)(k2:∀ H,But i56 h62 H→Wt H W2 c.will.wts)(l1:c.was.wts.length≤17592186044415)(l2:c.will.wts.length≤17592186044415)(r1:ringOk c.was.wts=true)(r2:ringOk c.will.wts=true)
  (hm9:mv.length≤2000)(hp9:ps.length≤1000000)(hp1:1≤ps.length)(hMl:M.length=mv.length)(hkl:∀ r∈S,r.key.length≤64)
  (hM:∀(k j:Nat),mv[k]? = some j→∃ r,M[k]? = some r∧S[j]? = some r)
  (hr:∀ r∈S,(0≤ofK Lib.itoa c.was.wts r.key∧ofK Lib.itoa c.was.wts r.key<ps.length)∧(0≤ofK Lib.itoa c.will.wts r.key∧ofK Lib.itoa c.will.wts r.key<ps.length))
  (hk:∀ H x y,But i56 h62 H→StepCtx H i0 i2 a v20 v27 v45 v53 W1 W2 c ps ls S mv→Mine 3 1 H x ((M.map fun r=>ofK Lib.itoa c.was.wts r.key).map irow)→Mine 3 1 H y ((M.map fun r=>ofK Lib.itoa c.will.wts r.key).map irow) →
   Tryz.r28_l36_121 G h K i0 i2 v20 v27 s44 v45 b46 v53 x y H mv.length 0) :
  Tryz.r28_l25_73 K h G i0 i2 v20 v27 s44 v45 b46 v53 (ps.length:Int) i56 h62 mv.length (.v (.slice none 0 0)) (.v (.slice none 0 0)) 0:=by
 unfold Tryz.r28_l25_73
 have il:=(List.getElem?_eq_some_iff.mp o56).1
 refine⟨fun m vs H=>∃(k:Nat) (L:List Int) (x y:AV),k≤mv.length∧m=mv.length-k∧L.length=ps.length∧(∀ z∈L, -(k:Int)≤z∧z≤2000+(k:Int))∧H[i56]? = some (some (.cells 3 1 (L.map irow) 0))∧But i56 h62 H ∧
  Mine 3 1 H x (((M.take k).map fun r=>ofK Lib.itoa c.was.wts r.key).map irow)∧Mine 3 1 H y (((M.take k).map fun r=>ofK Lib.itoa c.will.wts r.key).map irow)∧(∀ j,j<h62.length→Off x j∧Off y j)∧(∀ j,Off x j∨Off y j)∧vs = [x,y, .v (.int .i64 k)],
  mv.length,⟨0,L0,_,_,by omega,rfl,hL0,by simpa using hb0,o56,But.refl,by simpa using Mine.nil,by simpa using Mine.nil,(fun j _=>⟨(fun id g o l c hx=>by cases hx),(fun id g o l c hx=>by cases hx)⟩),(fun j=> .inl (fun id g o l c hx=>by cases hx)),rfl⟩,?_⟩
 rintro m H hl1 hlow2 x y n ⟨k,L,x',y',hkk,rfl,hL,hb,oH,bH,mx,my,offs,dis,hvs⟩
 simp only[List.cons.injEq,AV.v.injEq,Value.int.injEq,true_and,and_true]at hvs
 obtain⟨rfl,rfl,rfl⟩:=hvs
 have CH:=C.but bH o56 off
 by_cases hkl':k<mv.length
 ·obtain⟨j,hj⟩:∃ j,mv[k]? = some j:=⟨_,List.getElem?_eq_getElem hkl'⟩
  obtain⟨r,hrM,hrS⟩:=hM k j hj
  have hrm:=List.mem_of_getElem? hrS
  obtain⟨⟨a1,a2⟩,⟨b1,b2⟩⟩:=hr r hrm
  have hkey:=hkl r hrm
  generalize ha:ofK Lib.itoa c.was.wts r.key=fa at a1 a2
  generalize hbb:ofK Lib.itoa c.will.wts r.key=fb at b1 b2
  obtain⟨na,rfl⟩:∃ n:Nat,fa=n:=⟨fa.toNat,by omega⟩
  obtain⟨nb,rfl⟩:∃ n:Nat,fb=n:=⟨fb.toNat,by omega⟩
  have ewk:IntKind.i64.wrap ((k:Int)+1)=((k+1:Nat):Int):=by rw[wrap64_of (by omega) (by omega)];omega
  have ml:=CH.s45.sees
  obtain⟨q1,q2,q3⟩:=ml.ia (P:=Tryz.prog) (t:=31) (k:= .i64) (i:=(k:Int)) (r:=irow (j:Int)) Tryz.und31 Tryz.siz3 (by omega) (by simp[hj])
  obtain⟨z1,z2,z3⟩:=CH.s27.sees.ia (P:=Tryz.prog) (t:=142) (k:= .i64) (i:=(j:Int)) (r:=srow r.key) Tryz.und142 Tryz.siz9 (by omega) (by rw[List.getElem?_map,Int.toNat_natCast,hrS];rfl)
  have o0:=CH.o0
  have w11:=(k1 H bH).one
  have w12:=(k1 H bH).cells
  have w21:=(k2 H bH).one
  have w22:=(k2 H bH).cells
  simp (disch:=omega)only[go_sem,q2,q3,z2,z3,o0,w11,w12,w21,w22]
  refine⟨Of_call G hG W1 c.was.wts r.key H _ (k1 H bH).ints (by omega) (by omega) ?_⟩
  simp (disch:=omega)only[go_sem,extV,r1,if_true,q2,q3,z2,z3,o0,w11,w12,w21,w22,ha]
  refine⟨Of_call G hG W2 c.will.wts r.key H _ (k2 H bH).ints (by omega) (by omega) ?_⟩
  simp (disch:=omega)only[go_sem,extV,r2,if_true,hbb]
  have ilH:=(List.getElem?_eq_some_iff.mp oH).1
  have hMl':(M.take k).length=k:=by rw[List.length_take];omega
  have lx:((((M.take k).map fun r=>ofK Lib.itoa c.was.wts r.key).map irow)).length=k:=by simp;omega
  have ly:((((M.take k).map fun r=>ofK Lib.itoa c.will.wts r.key).map irow)).length=k:=by simp;omega
  refine(mx.more _).pushAt (i:=H.length) (g:=0) (row:=irow (na:Int)) (e':=3) (by simp) Tryz.und31 Tryz.azero3 Tryz.byt3 (by exact Tryz.plainSrc31) rfl (by rw[lx];omega) (by rw[lx];omega) fun v98 H2 m1 hle1 st1=>?_
  simp only[List.length_append,List.length_cons,List.length_nil]at hle1
  have my2:Mine 3 1 H2 y (((M.take k).map fun r=>ofK Lib.itoa c.will.wts r.key).map irow):=my.keep fun id r' g' hi hn=>by
   have hid:=(List.getElem?_eq_some_iff.mp hi).1
   have hof:Off x id:=(dis id).resolve_right hn
   rw[(st1 id (by simp;omega) hof).1,List.getElem?_append_left hid]
   exact hi
  simp (disch:=omega)only[go_sem]
  refine(my2.more _).pushAt (i:=H2.length) (g:=0) (row:=irow (nb:Int)) (e':=3) (by simp) Tryz.und31 Tryz.azero3 Tryz.byt3 (by exact Tryz.plainSrc31) rfl (by rw[ly];omega) (by rw[ly];omega) fun v102 H4 m2 hle2 st2=>?_
  simp only[List.length_append,List.length_cons,List.length_nil]at hle2
  have dis1:∀ j,Off v98 j∨Off y j:=fun j=>by
   by_cases hjl:j<(H ++ [some (AO.cells 3 1 [irow (na:Int)] 0)]).length
   ·rcases dis j with h1|h1
    ·exact .inl (st1 j hjl h1).2
    ·exact .inr h1
   ·simp at hjl
    exact .inr (my.off (by omega))
  have dis2:∀ j,Off v98 j∨Off v102 j:=fun j=>by
   by_cases hjl:j<(H2 ++ [some (AO.cells 3 1 [irow (nb:Int)] 0)]).length
   ·rcases dis1 j with h1|h1
    ·exact .inl h1
    ·exact .inr (st2 j hjl h1).2
   ·simp at hjl
    exact .inl (m1.off (by omega))
  have m1':Mine 3 1 H4 v98 (((M.take k).map fun r=>ofK Lib.itoa c.was.wts r.key).map irow ++ [irow (na:Int)]):=m1.keep fun id r' g' hi hn=>by
   have hid:=(List.getElem?_eq_some_iff.mp hi).1
   have hof:Off y id:=(dis1 id).resolve_left hn
   rw[(st2 id (by simp;omega) hof).1,List.getElem?_append_left hid]
   exact hi
  have below:∀ j,j<h62.length→H4[j]? = H[j]? ∧ Off v98 j∧Off v102 j:=fun j hj=>by
   have hb1:=bH.1
   obtain⟨e1,e2⟩:=st1 j (by simp;omega) (offs j hj).1
   obtain⟨e3,e4⟩:=st2 j (by simp;omega) (offs j hj).2
   rw[e3,List.getElem?_append_left (by omega),e1,List.getElem?_append_left (by omega)]
   exact⟨rfl,e2,e4⟩
  have oH4:H4[i56]? = some (some (.cells 3 1 (L.map irow) 0)):=by rw[(below i56 il).1];exact oH
  obtain⟨xa,hxa⟩:∃ z,L[na]? = some z:=⟨_,List.getElem?_eq_getElem (by omega)⟩
  have bxa:=hb xa (List.mem_of_getElem? hxa)
  have ia1:=longIA (n:=ps.length) (k:=na) oH4 hL.symm (by omega)
  have ld1:=longLd (k:=na) oH4 hxa
  have ew1:IntKind.i64.wrap (xa-1)=xa-1:=wrap64_of (by omega) (by omega)
  simp (disch:=omega)only[go_sem,ia1,ld1,ew1]
  refine longSt oH4 (by omega) ?_
  have il4:=(List.getElem?_eq_some_iff.mp oH4).1
  have oH5:(H4.set i56 (some (AO.cells 3 1 ((L.set na (xa-1)).map irow) 0)))[i56]? = some (some (.cells 3 1 ((L.set na (xa-1)).map irow) 0)):=List.getElem?_set_self il4
  obtain⟨xb,hxb⟩:∃ z,(L.set na (xa-1))[nb]? = some z:=⟨_,List.getElem?_eq_getElem (by rw[List.length_set];omega)⟩
  have hb1:∀ z∈L.set na (xa-1), -(k:Int)-1≤z∧z≤2000+(k:Int):=mem_set_bnd (fun z hz=>by have:=hb z hz;omega) (by omega)
  have bxb:=hb1 xb (List.mem_of_getElem? hxb)
  have ia2:=longIA (n:=ps.length) (k:=nb) oH5 (by rw[List.length_set];exact hL.symm) (by omega)
  have ld2:=longLd (k:=nb) oH5 hxb
  have ew2:IntKind.i64.wrap (xb+1)=xb+1:=wrap64_of (by omega) (by omega)
  simp (disch:=omega)only[go_sem,ia2,ld2,ew2]
  refine longSt oH5 (by rw[List.length_set];omega) ?_
  rw[List.set_set,ewk]
  have tk:M.take (k+1)=M.take k ++ [r]:=by rw[List.take_add_one,hrM];rfl
  refine next_keep (mv.length-(k+1)) (by omega) (by rw[List.length_set];have:=bH.1;omega) ⟨k+1,(L.set na (xa-1)).set nb (xb+1),v98,v102,by omega,rfl,by simp[hL],?_,List.getElem?_set_self il4,?_,?_,?_,fun j hj=>⟨(below j hj).2.1,(below j hj).2.2⟩,dis2,rfl⟩
  ·exact mem_set_bnd (fun z hz=>by have:=hb1 z hz;omega) (by omega)
  ·refine⟨by rw[List.length_set];have:=bH.1;omega,fun j hj hne=>?_⟩
   rw[List.getElem?_set_ne (Ne.symm hne),(below j hj).1]
   exact bH.2 j hj hne
  ·rw[tk]
   simp only[List.map_append,List.map_cons,List.map_nil,ha]
   exact m1'.set (below i56 il).2.1
  ·rw[tk]
   simp only[List.map_append,List.map_cons,List.map_nil,hbb]
   exact m2.set (below i56 il).2.2
 ·have hke:k=mv.length:=by omega
  subst hke
  rw[List.take_of_length_le (by omega)]at mx my
  simp (disch:=omega)only[go_sem]
  have sL:Ints H (.sl i56 0 0 ps.length none) L:=by
   have:=Sees.all (h:=H) (n:=1) (rows:=L.map irow) (by intro r hr;obtain⟨z,_,rfl⟩:=List.mem_map.mp hr;rfl) oH
   rw[List.length_map,hL]at this
   exact this
  refine⟨Max_call G _ L H _ sL (by omega) (by omega) ?_⟩
  have hmost:mostI L≤4096:=by
   have hmem:mostI L∈L:=mostI_mem (by intro h0;subst h0;simp at hL;omega)
   have:=hb _ hmem
   omega
  simp (disch:=omega)only[go_sem]
  have lm:=CH.s45.sees.len (P:=Tryz.prog) (t:=31) Tryz.und31
  rw[List.length_map]at lm
  simp (disch:=omega)only[go_sem,lm]
  exact hk H x y bH CH mx my
end Go.Proofs
namespace Go.Proofs
open Go Go.Abs
set_option maxRecDepth 100000
set_option linter.unusedSimpArgs false
theorem shelfLen : methOf Tryz.prog 87 "Len" = some 62 := by kernel_rfl
theorem stepLen(G:Nat→Option AV) (K:AV→AH→Prop)(h h57:AH) (i0 i2 i56:Nat) (a v20 v27 v45 v53 W1 W2:AV)(c:Chg)(s44:ByteArray)(b46:Bool) (ps:List Nat)(ls:List (List RowA)) (S:List RowA) (mv:List Nat)
  (C:StepCtx h57 i0 i2 a v20 v27 v45 v53 W1 W2 c ps ls S mv)(o56:h57[i56]? = some (some (.cells 3 1 ((List.replicate ps.length (0:Int)).map irow) 0)))(off:Off v45 i56)(hp9:ps.length≤1000000)(hcap:∀ l∈ls,l.length≤2000)
  (hk:∀(H:AH) (L:List Int),But i56 h57 H→StepCtx H i0 i2 a v20 v27 v45 v53 W1 W2 c ps ls S mv→H[i56]? = some (some (.cells 3 1 (L.map irow) 0))→L.length=ps.length→(∀ z∈L,0≤z∧z≤2000) →
   Tryz.r28_l25_73 K h G i0 i2 v20 v27 s44 v45 b46 v53 (ps.length:Int) i56 H mv.length (.v (.slice none 0 0)) (.v (.slice none 0 0)) 0) :
  Tryz.r28_l19_59 G h K i0 i2 v20 v27 s44 v45 b46 v53 (ps.length:Int) i56 h57 (ps.length:Int) 0:=by
 unfold Tryz.r28_l19_59
 refine⟨fun m vs H=>∃(k:Nat) (L:List Int),k≤ps.length∧m=ps.length-k∧L.length=ps.length∧(∀ z∈L,0≤z∧z≤2000)∧H[i56]? = some (some (.cells 3 1 (L.map irow) 0))∧But i56 h57 H∧vs = [.v (.int .i64 k)],
  ps.length,⟨0,List.replicate ps.length 0,by omega,rfl,by simp,(fun z hz=>by rw[(List.mem_replicate.mp hz).2];omega),o56,But.refl,rfl⟩,?_⟩
 rintro m H hl1 hlow2 n ⟨k,L,hkk,rfl,hL,hb,oH,bH,hvs⟩
 simp only[List.cons.injEq,AV.v.injEq,Value.int.injEq,true_and,and_true]at hvs
 subst hvs
 have CH:=C.but bH o56 off
 by_cases hkl:k<ps.length
 ·obtain⟨p,hp⟩:∃ p,ps[k]? = some p:=⟨_,List.getElem?_eq_getElem hkl⟩
  have hlen:=CH.T.len
  obtain⟨l,hl⟩:∃ l,ls[k]? = some l:=⟨_,List.getElem?_eq_getElem (by omega)⟩
  have hll:=hcap l (List.mem_of_getElem? hl)
  obtain⟨w1,w2,w3⟩:=CH.s53.sees.ia (P:=Tryz.prog) (t:=137) (k:= .i64) (i:=(k:Int)) (r:=irowS p) Tryz.und137 (by kernel_rfl:siz Tryz.prog 141=some 1) (by omega) (by simp[hp])
  have ld:aLoad Tryz.prog H 141 w1=some (.ifc 87 (.ptr p 0 0 0)):=by
   simp (disch:=omega)only[go_sem,w3,shelfSiz]
   rfl
  have ewk:IntKind.i64.wrap ((k:Int)+1)=((k+1:Nat):Int):=by rw[wrap64_of (by omega) (by omega)];omega
  simp (disch:=omega)only[go_sem,w2, ↓ld,shelfLen]
  refine⟨tbLen_call G p l H _ (CH.T.tab k p l hp hl) ?_⟩
  have ia1:=longIA (n:=ps.length) (k:=k) oH hL.symm (by omega)
  simp (disch:=omega)only[go_sem,ia1]
  refine longSt oH (by omega) ?_
  have il:=(List.getElem?_eq_some_iff.mp oH).1
  rw[ewk]
  refine next_keep (ps.length-(k+1)) (by omega) (by rw[List.length_set];have:=bH.1;omega) ⟨k+1,L.set k l.length,by omega,rfl,by simp[hL],mem_set_bnd hb (by omega),List.getElem?_set_self il,?_,rfl⟩
  refine⟨by rw[List.length_set];exact bH.1,fun j hj hne=>?_⟩
  rw[List.getElem?_set_ne (Ne.symm hne)]
  exact bH.2 j hj hne
 ·have lm:=CH.s45.sees.len (P:=Tryz.prog) (t:=31) Tryz.und31
  rw[List.length_map]at lm
  simp (disch:=omega)only[go_sem,lm]
  exact hk H L bH CH oH hL hb
def StepErr(c:Chg)(ls:List (List RowA)) (most:Int) (e:Int):Prop:=
 (c.ok=false∧e=70)∨(c.ok=true∧ls.length≠c.will.wts.length∧e=4)∨(c.ok=true∧ls.length=c.will.wts.length∧¬ ApartT c ls∧e=220)∨(c.ok=true∧ls.length=c.will.wts.length∧ApartT c ls∧(c.fin=true∨most<1)∧e=1)
theorem mvFrom_mvN(f g:List UInt8→Int) (S:List RowA) (lo:Nat):∀ k,mvFrom f g (S.map RowA.key) lo k=(mvN f g S lo k).map fun(n:Nat)=>(n:Int)
 | 0=>rfl
 | k+1=>by
  rw[mvFrom,mvN,mvFrom_mvN f g S lo k,List.map_append]
  congr 1
  split <;> rfl
def Chg.step(c:Chg) (S:List RowA) (f:Nat) (most:Int):Chg:= { c with cur:=(S.map RowA.key).getD (f+nextM (S.map RowA.key) most f) [],fin:= !decide (f+nextM (S.map RowA.key) most f<S.length) }
theorem rise_keys{S:List RowA} (hS:Rise S)(hm:∀ r∈S,r.may=true):riseB (S.map RowA.key)=true:=by
 unfold riseB
 rw[List.all_eq_true]
 intro k hk
 rw[List.mem_range,List.length_map]at hk
 have hg:=List.getElem?_eq_getElem hk
 have e1:(S.map RowA.key).getD k []=S[k].key:=getD_of (by rw[List.getElem?_map,hg];rfl)
 have hmay:=hm _ (List.getElem_mem hk)
 unfold RowA.may at hmay
 simp only[Bool.and_eq_true,decide_eq_true_eq]at hmay
 unfold goodAt
 rw[e1]
 have h1:(S[k].key == [])=false:=by simpa using hmay.1
 have h2:S[k].key.length≤64:=by omega
 rw[h1,decide_eq_true h2]
 by_cases h0:k=0
 ·simp[h0]
 ·have hg2:=List.getElem?_eq_getElem (show k-1<S.length by omega)
  have e2:(S.map RowA.key).getD (k-1) []=S[k-1].key:=getD_of (by rw[List.getElem?_map,hg2];rfl)
  rw[e2]
  have:=rise_at hS hg2 hg (by omega)
  unfold bl at this
  rw[this]
  simp
end Go.Proofs
namespace Go.Proofs
open Go Go.Abs
set_option maxRecDepth 100000
set_option linter.unusedSimpArgs false
theorem mem_flat_le{α:Type} : ∀ {ls:List (List α)} {l:List α},l∈ls→l.length≤ls.flatten.length
 | m::ls,l,h=>by
  rw[List.flatten_cons,List.length_append]
  rcases List.mem_cons.mp h with rfl|h
  ·omega
  ·have:=mem_flat_le h
   omega
theorem may_len{r:RowA} (h:r.may=true):r.key ≠ []∧r.key.length≤64∧r.val.length≤4096:=by
 unfold RowA.may at h
 simp only[Bool.and_eq_true,decide_eq_true_eq]at h
 exact⟨h.1,by omega,by omega⟩
theorem ok_rings{c:Chg} (h:c.ok=true):ringOk c.was.wts=true∧ringOk c.will.wts=true∧c.was.wts.length≤c.will.wts.length∧c.cur.length≤64:=by
 unfold Chg.ok Lay.ok at h
 simp only[Bool.and_eq_true,decide_eq_true_eq]at h
 exact⟨h.1.1.1.1.1.2,h.1.1.1.1.2.2,h.1.1.2,h.1.2⟩
theorem owner_of{c:Chg} (h:c.ok=true) (k:List UInt8):(0≤ofK Lib.itoa c.was.wts k∧ofK Lib.itoa c.was.wts k<c.will.wts.length)∧(0≤ofK Lib.itoa c.will.wts k∧ofK Lib.itoa c.will.wts k<c.will.wts.length):=by
 obtain⟨h1,h2,h3,_⟩:=ok_rings h
 obtain⟨x,x1,_,x2⟩:=ofK_at (dig:=Lib.itoa) (key:=k) h1
 obtain⟨y,y1,_,y2⟩:=ofK_at (dig:=Lib.itoa) (key:=k) h2
 rw[x2,y2]
 omega
theorem owner_rng{c:Chg} (h:c.ok=true) (k:List UInt8):0≤c.owner k∧c.owner k<c.will.wts.length:=by
 have:=owner_of h k
 unfold Chg.owner
 split <;> omega
theorem mvStep_call(G:Nat→Option AV)(hG:GTab G)(c:Chg) (W1 W2 a:AV) (ps:List Nat)(ls:List (List RowA)) (most:Int)(h:AH) (K:AV→AH→Prop)(k1:∀ H,Buts ps h H→Wt H W1 c.was.wts)(k2:∀ H,Buts ps h H→Wt H W2 c.will.wts)(l1:c.was.wts.length≤17592186044415)(l2:c.will.wts.length≤17592186044415)(hcl:c.cur.length≤4611686018427387904)(hm1 : -9223372036854775808≤most)(hm2:most≤9223372036854775807)
  (T:TabsAt h a ps ls)(hnd:ps.Nodup)(hl:ls.length≤1000)(hmay:∀ l∈ls,∀ r∈l,r.may=true)(htot:ls.flatten.length≤2000)
  (hkE:∀ e t,StepErr c ls most e→K (.tup [.agg (zeroChg.cells nilA nilA), .v (.int .i64 0), .v (.int .i64 e)]) (h++t))
  (hk0:c.ok=true→ls.length=c.will.wts.length→ApartT c ls→c.fin=false→1≤most→∀ S,AllOf ls S→∀ f,LbAt (S.map RowA.key) c.cur f→∀ H,TabsAt H a ps (splitK (c.step S f most).owner ls.length S)→Buts ps h H →
   K (.tup [.agg ((c.step S f most).cells W1 W2), .v (.int .i64 ((mvN (ofK Lib.itoa c.was.wts) (ofK Lib.itoa c.will.wts) S f (nextM (S.map RowA.key) most f)).length:Int)), .v (.int .i64 0)]) H) :
  SCall Tryz.prog G 28 [.agg (c.cells W1 W2),a, .v (.int .i64 most)] h K:=by
 refine Tryz.c28 G _ _ _ h K fun hlow=>?_
 unfold Tryz.r28
 have w11:=(k1 h Buts.refl).one
 have w12:=(k1 h Buts.refl).cells
 have w21:=(k2 h Buts.refl).one
 have w22:=(k2 h Buts.refl).cells
 have e0:(ByteArray.mk #[])=bs []:=rfl
 simp (disch:=omega)only[go_sem,w11,w12,w21,w22,Nat.reduceAdd]
 refine⟨mvCheck_call G hG c W1 W2 a ps ls _ _ (k1 _ (Buts.grew (Grew.app _))) (k2 _ (Buts.grew (Grew.app _))) l1 l2 hcl (T.grew (Grew.app _)) hl hnd (fun l hl r hr=>by have:=(may_len (hmay l hl r hr)).2.1;omega) (fun ho=>?_) (fun ho hne=>?_) (fun ho he hna=>?_) (fun ho he hap=>?_)⟩
 ·simp (disch:=omega)only[go_sem,w11,w12,w21,w22,Nat.reduceAdd]
  exact ret_keep (hkE 70 _ (.inl ⟨ho,rfl⟩))
 ·simp (disch:=omega)only[go_sem,w11,w12,w21,w22,Nat.reduceAdd]
  exact ret_keep (hkE 4 _ (.inr (.inl ⟨ho,hne,rfl⟩)))
 ·simp (disch:=omega)only[go_sem,w11,w12,w21,w22,Nat.reduceAdd]
  exact ret_keep (hkE 220 _ (.inr (.inr (.inl ⟨ho,he,hna,rfl⟩))))
 cases hf:c.fin with
 | true=>
  simp (disch:=omega)only[go_sem,w11,w12,w21,w22,Nat.reduceAdd,hf]
  exact ret_keep (hkE 1 _ (.inr (.inr (.inr ⟨ho,he,hap, .inl hf,rfl⟩))))
 | false=>
 by_cases hm:most<1
 ·simp (disch:=omega)only[go_sem,w11,w12,w21,w22,Nat.reduceAdd,hf]
  exact ret_keep (hkE 1 _ (.inr (.inr (.inr ⟨ho,he,hap, .inr hm,rfl⟩))))
 simp (disch:=omega)only[go_sem,w11,w12,w21,w22,Nat.reduceAdd,hf]
 refine⟨all_call G a ps ls _ _ (T.grew (Grew.app _)) hl (by omega) fun SD v20 H pS sS mS gS offS=>?_⟩
 have aR:AllOf ls (fst SD):=⟨SD,pS,sS,rfl⟩
 generalize fst SD=R at aR mS
 have hlen:=T.len
 have hrise:AllRise ls:=fun i l hi=>by
  have:=(List.getElem?_eq_some_iff.mp hi).1
  obtain⟨p,hp⟩:∃ p,ps[i]? = some p:=⟨_,List.getElem?_eq_getElem (by omega)⟩
  exact(T.tab i p l hp hi).rise
 obtain⟨hR,hls,hown⟩:=split_all (own:=c.owner) hrise hap aR
 have hRl:R.length≤2000:=by rw[aR.len];exact htot
 have hRmay:∀ r∈R,r.may=true:=fun r hr=>by
  obtain⟨l,hl1,hl2⟩:=List.mem_flatten.mp (aR.mem.mp hr)
  exact hmay l hl1 r hl2
 have la:=mS.sees.len (P:=Tryz.prog) (t:=47) Tryz.und47
 rw[List.length_map]at la
 simp (disch:=omega)only[go_sem,la]
 have gh:Grew h H:=(Grew.app _).trans gS
 have o0:H[h.length]? = some (some (.cells 49 6 [c.cells W1 W2] 0)):=gS.get (by simp[hf])
 have o2:H[h.length+1]? = some (some (.cells 49 6 [zeroChg.cells nilA nilA] 0)):=gS.get (by simp[e0];exact⟨rfl,rfl,rfl,rfl⟩)
 unfold Tryz.r28_l9_23
 refine⟨fun m vs H'=>∃(k:Nat) (x:AV),k≤R.length∧m=R.length-k∧Mine 9 1 H' x ((R.take k).map fun r=>srow r.key)∧Grew H H'∧(∀ j,j<H.length→Off x j)∧vs = [x, .v (.int .i64 k)],R.length,⟨0,_,by omega,rfl,by simpa using Mine.nil,⟨[],by simp⟩,(fun id _ _ g o l c hx=>by cases hx),rfl⟩,?_⟩
 rintro m H1 hl1 hlow2 x' n ⟨k,x,hkk,rfl,mi,g,offs,hvs⟩
 simp only[List.cons.injEq,AV.v.injEq,Value.int.injEq,true_and,and_true]at hvs
 obtain⟨rfl,rfl⟩:=hvs
 have gl:=g.len
 by_cases hkl:k<R.length
 ·obtain⟨r,hr⟩:∃ r,R[k]? = some r:=⟨_,List.getElem?_eq_getElem hkl⟩
  have ew:IntKind.i64.wrap ((k:Int)+1)=((k+1:Nat):Int):=by rw[wrap64_of (by omega) (by omega)];omega
  have mS1:Mine 131 3 H1 v20 (R.map RowA.cells):=by obtain⟨t,rfl⟩:=g.ex;exact mS.more t
  obtain⟨w,w1,w2⟩:=mS1.sees.ia (P:=Tryz.prog) (t:=47) (k:= .i64) (i:=(k:Int)) (r:=r.cells) Tryz.und47 Tryz.siz131 (by omega) (by simp[hr])
  simp (disch:=omega)only[go_sem,w1,w2,Nat.reduceAdd]
  have hlx:((R.take k).map fun r=>srow r.key).length=k:=by simp;omega
  refine(mi.more _).pushAt (i:=H1.length+1) (g:=0) (row:=srow r.key) (e':=9) (by simp) Tryz.und142 Tryz.azero9 Tryz.byt9 (by exact Tryz.plainSrc142) rfl (by rw[hlx];omega) (by rw[hlx];omega) fun v' H' m' hle st=>?_
  simp only[List.length_append,List.length_cons,List.length_nil]at hle
  have below:∀ j,j<H.length→H'[j]? = H1[j]? ∧ Off v' j:=fun j hj=>by
   obtain⟨e1,e2⟩:=st j (by simp;omega) (offs j hj)
   rw[e1,List.getElem?_append_left (by omega)]
   exact⟨rfl,e2⟩
  obtain⟨t2,ht2⟩:=g.ex
  rw[ew]
  refine next_keep (R.length-(k+1)) (by omega) (by omega) ⟨k+1,v',by omega,rfl,?_,Grew.mk (ext_of (h:=H) (h':=H') (by omega) fun j hj=>by rw[(below j hj).1,ht2,List.getElem?_append_left hj]),fun j hj=>(below j hj).2,rfl⟩
  rw[List.take_add_one,hr]
  simpa using m'
 have hke:k=R.length:=by omega
 subst hke
 rw[List.take_length]at mi
 have o01:=g.get o0
 have mKeys:Sees H1 1 x' ((R.map RowA.key).map srow):=by
  have:=mi.sees
  rw[List.map_map]
  exact this
 simp (disch:=omega)only[go_sem,o01,w11,w12,w21,w22]
 obtain⟨ro1,ro2,ro3,ro4⟩:=ok_rings ho
 have hkr:=rise_keys hR hRmay
 refine⟨NextG_call G hG c W1 W2 x' (R.map RowA.key) most H1 _ (k1 _ (Buts.grew (gh.trans g))) (k2 _ (Buts.grew (gh.trans g))) (by omega) (by omega) (by omega) mKeys (by rw[List.length_map];omega) (fun k hk=>by
   obtain⟨r,hr,rfl⟩:=List.mem_map.mp hk
   have:=(may_len (hRmay r hr)).2.1
   omega) hm1 hm2 (fun hbad=>by rw[ho]at hbad;cases hbad) (fun _ hbad=>by
   rcases hbad with hbad|hbad
   ·exact absurd hbad hm
   ·rw[hkr]at hbad;cases hbad) (fun _ _ _ hbad=>by rw[hf]at hbad;cases hbad) (fun _ _ _ _ f v45 H2 lbf acc=>?_)⟩
 rw[mvFrom_mvN]at acc
 rw[List.length_map]
 have m45:=acc.toMine
 have g2:Grew H1 H2:=Grew.mk acc.tail
 have fle:=lbf.le
 rw[List.length_map]at fle
 have fm:f+nextM (R.map RowA.key) most f≤R.length:=by
  unfold nextM
  rw[List.length_map]
  omega
 have stay:=next_stay (f:=ofK Lib.itoa c.was.wts) (g:=ofK Lib.itoa c.will.wts) (cur:=c.cur) hR fm lbf.lo (fun j h1 h2=>lbf.hi j h1 (by rw[List.length_map];exact h2))
 have hmvl:(mvN (ofK Lib.itoa c.was.wts) (ofK Lib.itoa c.will.wts) R f (nextM (R.map RowA.key) most f)).length≤R.length:=by
  have:=mvN_len (f:=ofK Lib.itoa c.was.wts) (g:=ofK Lib.itoa c.will.wts) (S:=R) (lo:=f) (nextM (R.map RowA.key) most f)
  omega
 have hk0':=hk0 ho he hap hf (by omega) R aR f lbf
 unfold Chg.step at hk0'
 generalize hcu:(R.map RowA.key).getD (f+nextM (R.map RowA.key) most f) []=cur' at stay hk0'
 generalize hfi:(!decide (f+nextM (R.map RowA.key) most f<R.length))=fin' at stay hk0'
 simp (disch:=omega)only[go_sem,extV]
 have gh2:Grew h H2:=(gh.trans g).trans g2
 refine⟨shelves_call G a ps ls H2 _ (T.grew gh2) hl hnd fun v53 H3 m53 g3 off3=>?_⟩
 have l53:=m53.sees.len (P:=Tryz.prog) (t:=137) Tryz.und137
 rw[List.length_map]at l53
 have l53':∀ t,aLen Tryz.prog (H3++t) 137 v53=some (.v (.int .i64 ps.length)):=fun t=>by
  have:=(m53.more t).sees.len (P:=Tryz.prog) (t:=137) Tryz.und137
  rw[List.length_map]at this
  exact this
 simp (disch:=omega)only[go_sem,extV,l53,l53']
 have gh3:Grew h H3:=gh2.trans g3
 have hi56:h.length≤H3.length:=gh3.len
 have off45:Off v45 H3.length:=by
  have m:=m45
  obtain⟨t,rfl⟩:=g3.ex
  exact(m.more t).off (Nat.le_refl _)
 have CC:StepCtx H3 h.length (h.length+1) a v20 x' v45 v53 W1 W2 c ps ls R (mvN (ofK Lib.itoa c.was.wts) (ofK Lib.itoa c.will.wts) R f (nextM (R.map RowA.key) most f)):=by
  have gH1:=g2.trans g3
  have gH:=g.trans gH1
  refine⟨gH.get o0,gH.get o2,?_,?_,?_,m53,T.grew gh3⟩
  ·obtain⟨t,rfl⟩:=gH.ex;exact(mineOwn mS).more t
  ·obtain⟨t,rfl⟩:=gH1.ex;exact mi.more t
  ·obtain⟨t,rfl⟩:=g3.ex
   have:=m45.more t
   rw[List.map_map]at this
   exact this
 generalize hmv:mvN (ofK Lib.itoa c.was.wts) (ofK Lib.itoa c.will.wts) R f (nextM (R.map RowA.key) most f)=mv at CC hmvl hk0'
 have hlw:1≤ps.length:=by
  have:=(ringOk_out ro2).1
  omega
 have ownE:∀ k,c.owner k=ownC (ofK Lib.itoa c.was.wts) (ofK Lib.itoa c.will.wts) false c.cur k:=fun k=>by
  unfold Chg.owner ownC
  rw[hf]
 have hMM:(mvRows (ofK Lib.itoa c.was.wts) (ofK Lib.itoa c.will.wts) R f (nextM (R.map RowA.key) most f))=mv.map fun j=>R.getD j ⟨[],0, []⟩:=by unfold mvRows;rw[hmv]
 have hu:=mvRows_keysU (f:=ofK Lib.itoa c.was.wts) (g:=ofK Lib.itoa c.will.wts) hR fm
 have hMR:∀ r∈mvRows (ofK Lib.itoa c.was.wts) (ofK Lib.itoa c.will.wts) R f (nextM (R.map RowA.key) most f),r∈R:=fun r hr=>by
  obtain⟨j,hj,_⟩:=(mvRows_mem fm).mp hr
  exact List.mem_of_getElem? hj
 have hMat:∀(k j:Nat),mv[k]? = some j→∃ r,(mvRows (ofK Lib.itoa c.was.wts) (ofK Lib.itoa c.will.wts) R f (nextM (R.map RowA.key) most f))[k]? = some r∧R[j]? = some r:=fun k j hj=>by
  have hjm:=List.mem_of_getElem? hj
  rw[← hmv]at hjm
  have hjl:=(mem_mvN.mp hjm).1
  have hg:=List.getElem?_eq_getElem (show j<R.length by omega)
  refine⟨R[j],?_,hg⟩
  rw[hMM,List.getElem?_map,hj]
  simp only[Option.map_some]
  rw[getD_of hg]
 have hMl:(mvRows (ofK Lib.itoa c.was.wts) (ofK Lib.itoa c.will.wts) R f (nextM (R.map RowA.key) most f)).length=mv.length:=by rw[hMM,List.length_map]
 generalize mvRows (ofK Lib.itoa c.was.wts) (ofK Lib.itoa c.will.wts) R f (nextM (R.map RowA.key) most f)=M at stay hu hMR hMat hMl
 have hps:ls.length=ps.length:=hlen.symm
 refine stepLen G K h (H3 ++ [some (AO.cells 3 1 (List.replicate ps.length [AV.v (.int .i64 0)]) 0)]) h.length (h.length+1) H3.length a v20 x' v45 v53 W1 W2 c (bs cur') fin' ps ls R mv (CC.grew _) (by simp) off45 (by omega) (fun l hl=>by have:=mem_flat_le hl;omega) fun H5 L b5 C5 o5 hL5 hb5=>?_
 have bs4:Buts ps h (H3 ++ [some (AO.cells 3 1 (List.replicate ps.length [AV.v (.int .i64 0)]) 0)]):=Buts.grew (gh3.trans (Grew.app _))
 have bs5:=bs4.butF b5 hi56
 refine stepMove G hG K h H5 h.length (h.length+1) H3.length a v20 x' v45 v53 W1 W2 c (bs cur') fin' ps ls R M mv L C5 o5 off45 hL5 hb5 (fun H b=>k1 H (bs5.butF b hi56)) (fun H b=>k2 H (bs5.butF b hi56)) l1 l2 ro1 ro2 (by omega) (by omega) hlw hMl (fun r hr=>(may_len (hRmay r hr)).2.1) hMat (fun r hr=>by have:=owner_of ho r.key;omega) fun H6 x y b6 C6 mx my=>?_
 have bs6:=bs5.butF b6 hi56
 have T6:=C6.T
 have hown':∀ r∈R,0≤({ c with cur:=cur',fin:=fin' } : Chg).owner r.key∧({ c with cur:=cur',fin:=fin' } : Chg).owner r.key<ls.length:=fun r _=>by
  have:=owner_of ho r.key
  unfold Chg.owner
  simp only
  split <;> omega
 have eD:((M.map fun r=>((c.owner r.key).toNat,r.key)).map fun d=>(d.1:Int))=M.map fun r=>ofK Lib.itoa c.was.wts r.key:=by
  rw[List.map_map]
  refine List.map_congr_left fun r hr=>?_
  have h1:=(stay.2 r hr).1
  have h2:=hown r (hMR r hr)
  rw[← ownE]at h1
  simp only[Function.comp_apply]
  omega
 have eE:((M.map fun r=>((({ c with cur:=cur',fin:=fin' } : Chg).owner r.key).toNat,r)).map fun d=>(d.1:Int))=M.map fun r=>ofK Lib.itoa c.will.wts r.key:=by
  rw[List.map_map]
  refine List.map_congr_left fun r hr=>?_
  have h1:=(stay.2 r hr).2
  have h2:=hown' r (hMR r hr)
  have h3:({ c with cur:=cur',fin:=fin' } : Chg).owner r.key=ofK Lib.itoa c.will.wts r.key:=h1
  simp only[Function.comp_apply]
  omega
 have s45:∀ H,Buts ps H6 H→Ints H v45 (mv.map fun(n:Nat)=>(n:Int)):=fun H b=>by
  have:=(C6.s45.keep (h':=H) fun id r g hi _=>T6.keepO b (by decide) hi).sees
  unfold Ints
  rw[List.map_map]
  exact this
 have s77:∀ H,Buts ps H6 H→Ints H x ((M.map fun r=>((c.owner r.key).toNat,r.key)).map fun d=>(d.1:Int)):=fun H b=>by
  rw[eD]
  exact(mx.keep (h':=H) fun id r g hi _=>T6.keepO b (by decide) hi).sees
 have s78:∀ H,Buts ps H6 H→Ints H y ((M.map fun r=>((({ c with cur:=cur',fin:=fin' } : Chg).owner r.key).toNat,r)).map fun d=>(d.1:Int)):=fun H b=>by
  rw[eE]
  exact(my.keep (h':=H) fun id r g hi _=>T6.keepO b (by decide) hi).sees
 have s53:∀ H,Buts ps H6 H→Sees H 1 v53 (ps.map irowS):=fun H b=>(C6.s53.keep (h':=H) fun id r g hi _=>T6.keepO b (by decide) hi).sees
 have s27:∀ H,Buts ps H6 H→Sees H 1 x' ((R.map RowA.key).map srow):=fun H b=>by
  have:=(C6.s27.keep (h':=H) fun id r g hi _=>T6.keepO b (by decide) hi).sees
  rw[List.map_map]
  exact this
 refine stepDrop G K h H6 h.length (h.length+1) a v20 x' v45 v53 x y (bs cur') fin' ps ls (R.map RowA.key) mv (M.map fun r=>((c.owner r.key).toNat,r.key)) T6 hnd (by omega) (by omega) (by rw[List.length_map];omega) s45 s77 s53 s27 (by rw[List.length_map];exact hMl) (fun j m d hj hd=>?_) fun H7 T7 b7=>?_
 ·obtain⟨r,hr1,hr2⟩:=hMat j m hj
  rw[List.getElem?_map,hr1]at hd
  obtain rfl:=Option.some.inj hd
  have h1:=hown r (List.mem_of_getElem? hr2)
  have h2:=(may_len (hRmay r (List.mem_of_getElem? hr2))).2.1
  refine⟨by rw[List.getElem?_map,hr2];rfl,by simp only;omega,by simp only;omega⟩
 ·have hfinal:putAll (dropAll ls (M.map fun r=>((c.owner r.key).toNat,r.key))) (M.map fun r=>((({ c with cur:=cur',fin:=fin' } : Chg).owner r.key).toNat,r))=splitK ({ c with cur:=cur',fin:=fin' } : Chg).owner ls.length R:=by
   have:=step_split (own:=c.owner) (own':=({ c with cur:=cur',fin:=fin' } : Chg).owner) (n:=ls.length) hR hown hown' hMR hu (fun r hr hrm=>by rw[ownE];exact stay.1 r hr hrm)
   rw[← hls]at this
   exact this
  refine stepTake G K h H7 h.length (h.length+1) a v20 v45 v53 y W1 W2 c cur' fin' ps _ R mv (M.map fun r=>((({ c with cur:=cur',fin:=fin' } : Chg).owner r.key).toNat,r)) T7 hnd (by omega) (by omega) (by omega) (bs6.trans b7) (Nat.le_refl _) (Nat.le_succ _) (by omega) (T6.keepO b7 (by decide) C6.o0) (T6.keepO b7 (by decide) C6.o2) w11 w12 w21 w22 (fun H=>by have:=mineLen C6.s45 (P:=Tryz.prog) (t:=31) Tryz.und31 H;rw[List.length_map]at this;exact this)
   (fun H b=>s45 H (b7.trans b)) (fun H b=>s78 H (b7.trans b)) (fun H b=>s53 H (b7.trans b)) (fun H b=>C6.s20.keep fun id r g hi=>T6.keepO (b7.trans b) (by decide) hi) (by rw[List.length_map];exact hMl) (fun j m d hj hd=>?_) (fun j i l hl=>?_) fun H8 T8 b8=>?_
  ·obtain⟨r,hr1,hr2⟩:=hMat j m hj
   rw[List.getElem?_map,hr1]at hd
   obtain rfl:=Option.some.inj hd
   have h1:=hown' r (List.mem_of_getElem? hr2)
   exact⟨hr2,by simp only;omega,hRmay r (List.mem_of_getElem? hr2)⟩
  ·have h1:=putAll_le _ 2000 _ (dropAll_le (M.map fun r=>((c.owner r.key).toNat,r.key)) ls fun i l hl=>by have:=mem_flat_le (List.mem_of_getElem? hl);omega) i l hl
   rw[List.length_take,List.length_map]at h1
   omega
  ·rw[hfinal]at T8
   exact hk0' H8 T8 b8
end Go.Proofs
namespace Go.Proofs
open Go Go.Abs
set_option maxRecDepth 100000
set_option linter.unusedSimpArgs false
theorem neqRow(a b a' b':ByteArray) (s s':Int):aBin Tryz.prog .neq 131 (.agg [.v (.string a), .v (.int .i64 s), .v (.string b)]) (.agg [.v (.string a'), .v (.int .i64 s'), .v (.string b')]) =
  some (.v (.bool (!(a.toList==a'.toList&&(s==s'&&(b.toList==b'.toList&&true)))))):=by kernel_rfl
theorem sameRows_call(G:Nat→Option AV) (a b:AV) (xs:List RowA)(h:AH) (K:AV→AH→Prop)(ha:Sees h 3 a (xs.map RowA.cells))(hb:Sees h 3 b (xs.map RowA.cells))(hl:xs.length≤1000000)(hk:K (.v (.bool true)) h):SCall Tryz.prog G 25 [a,b] h K:=by
 refine Tryz.c25 G _ _ h K fun hlow=>?_
 unfold Tryz.r25
 have la:=ha.len (P:=Tryz.prog) (t:=47) Tryz.und47
 have lb:=hb.len (P:=Tryz.prog) (t:=47) Tryz.und47
 rw[List.length_map]at la lb
 simp (disch:=omega)only[go_sem,la,lb]
 unfold Tryz.r25_l4_2
 refine⟨fun m vs h'=>∃ k:Nat,k≤xs.length∧m=xs.length-k∧h'=h∧vs = [.v (.int .i64 k)],xs.length,⟨0,by omega,rfl,rfl,rfl⟩,?_⟩
 rintro m h' hl1 hlow2 n ⟨k,hkk,rfl,rfl,hvs⟩
 simp only[List.cons.injEq,AV.v.injEq,Value.int.injEq,true_and,and_true]at hvs
 subst hvs
 by_cases hlt:k<xs.length
 rotate_left
 ·simp (disch:=omega)only[go_sem,la]
  exact ret_same hk
 obtain⟨x,hx⟩:∃ x,xs[k]? = some x:=⟨_,List.getElem?_eq_getElem hlt⟩
 have ew:IntKind.i64.wrap ((k:Int)+1)=((k+1:Nat):Int):=by rw[wrap64_of (by omega) (by omega)];omega
 obtain⟨q,q1,q2⟩:=ha.ia (P:=Tryz.prog) (t:=47) (k:= .i64) (i:=(k:Int)) (r:=x.cells) Tryz.und47 Tryz.siz131 (by omega) (by simp[hx])
 obtain⟨w,w1,w2⟩:=hb.ia (P:=Tryz.prog) (t:=47) (k:= .i64) (i:=(k:Int)) (r:=x.cells) Tryz.und47 Tryz.siz131 (by omega) (by simp[hx])
 simp (disch:=omega)only[go_sem,la,q1,q2,w1,w2,neqRow,beq_self_eq_true,Bool.and_true,Bool.not_true,ew,Nat.reduceAdd]
 refine next_keep (xs.length-(k+1)) (by omega) (Nat.le_refl _) ⟨k+1,by omega,rfl,rfl,rfl⟩
abbrev planCells(c:Chg) (W1 W2 R:AV):List AV:= [.v (.int .i64 c.was.ver),W1, .v (.int .i64 c.will.ver),W2, .v (.string (bs c.cur)), .v (.bool c.fin),R]
theorem plTheirs_call(G:Nat→Option AV)(c:Chg) (W1 W2 R:AV)(h:AH) (K:AV→AH→Prop)(n1:W1.one=true)(c1:W1.cells = [W1])(n2:W2.one=true)(c2:W2.cells = [W2])(n3:R.one=true)(c3:R.cells = [R])
  (hk:∀ t,K (.agg (c.cells W1 W2)) (h++t)):SCall Tryz.prog G 21 [.agg (planCells c W1 W2 R)] h K:=by
 refine Tryz.c21 G _ h K fun hlow=>?_
 unfold Tryz.r21
 simp (disch:=omega)only[go_sem,n1,n2,n3,c1,c2,c3]
 rw[buildTheirs rfl rfl]
 simp (disch:=omega)only[go_sem,n1,n2,n3,c1,c2,c3,Nat.reduceAdd]
 exact ret_keep (hk _)
theorem fillPtr{p:AV} (h:p.one=true)(hc:p.cells = [p]):rowsFill 1 (List.replicate 1 [AV.v (.pointer none)]) [(0,some p)]=some [[p]]:=by
 simp[rowsFill,h,hc,chk]
end Go.Proofs
namespace Go.Proofs
open Go Go.Abs
set_option maxRecDepth 100000
set_option linter.unusedSimpArgs false
theorem TabsAt.wtO{H H':AH} {a:AV} {ps:List Nat} {ls:List (List RowA)} (T:TabsAt H a ps ls) {i:Nat} {ws:List Int} (o:H[i]? = some (some (.cells 3 1 (ws.map irow) 0)))(b:Buts ps H H') {n:Nat} (hn:n=ws.length):Wt H' (.sl i 0 0 n none) ws:=by
 subst hn
 have:=Sees.all (h:=H') (n:=1) (rows:=ws.map irow) (by intro r hr;obtain⟨z,_,rfl⟩:=List.mem_map.mp hr;rfl) (T.keepO b (by decide) o)
 rw[List.length_map]at this
 exact⟨this,rfl,rfl⟩
theorem of10(k:List UInt8):ofK Lib.itoa [1,0] k=0:=by
 obtain⟨c,c1,c2,c3⟩:=ofK_at (dig:=Lib.itoa) (ws:= [1,0]) (key:=k) (by decide)
 rw[c3]
 match c,c1,c2 with
 | 0,_,_=>rfl
 | 1,_,c2=>simp at c2
theorem of01(k:List UInt8):ofK Lib.itoa [0,1] k=1:=by
 obtain⟨c,c1,c2,c3⟩:=ofK_at (dig:=Lib.itoa) (ws:= [0,1]) (key:=k) (by decide)
 rw[c3]
 match c,c1,c2 with
 | 0,_,c2=>simp at c2
 | 1,_,_=>rfl
theorem fillPtr2{p q:AV} (h:p.one=true)(hc:p.cells = [p])(h':q.one=true)(hc':q.cells = [q]):rowsFill 1 (List.replicate 2 [AV.v (.pointer none)]) [(0,some p),(1,some q)]=some [[p], [q]]:=by
 simp[rowsFill,h,hc,h',hc',chk,List.replicate]
theorem fillRows3{a b c:RowA} {x y:ByteArray} : rowsFill 3 (List.replicate 3 [.v (.string x), .v (.int .i64 0), .v (.string y)]) [(0,some (.agg a.cells)),(1,some (.agg b.cells)),(2,some (.agg c.cells))]=some [a.cells,b.cells,c.cells]:=by
 simp[rowsFill,AV.one,AV.cells,chk,List.replicate]
abbrev rA:RowA:=⟨[97],1, []⟩
abbrev rB:RowA:=⟨[98],1, []⟩
abbrev rC:RowA:=⟨[99],1, []⟩
abbrev cW0:Chg:=⟨⟨1, [1,0]⟩,⟨2, [0,1]⟩, [],false⟩
abbrev cW1:Chg:=⟨⟨1, [1,0]⟩,⟨2, [0,1]⟩, [99],false⟩
abbrev cW2:Chg:=⟨⟨1, [1,0]⟩,⟨2, [0,1]⟩, [],true⟩
theorem rABC:Rise [rA,rB,rC]:=by
 unfold Rise
 decide
theorem ownW0(k:List UInt8):cW0.owner k=0:=by
 unfold Chg.owner
 have:Op.bytesLess k []=false:=by cases k <;> rfl
 rw[if_neg (by simp[this])]
 exact of10 k
theorem ownW1(k:List UInt8):cW1.owner k=if bl k [99]=true then 1 else 0:=by
 unfold Chg.owner
 simp only[of10,of01,Bool.false_eq_true,false_or]
theorem ownW2(k:List UInt8):cW2.owner k=1:=by
 unfold Chg.owner
 rw[if_pos (.inl rfl)]
 exact of01 k
theorem splitW0:splitK cW0.owner 2 [rA,rB,rC] = [[rA,rB,rC], []]:=by simp[splitK,List.range,List.range.loop,ownW0]
theorem splitW1:splitK cW1.owner 2 [rA,rB,rC] = [[rC], [rA,rB]]:=by
 have a:cW1.owner [97]=1:=by rw[ownW1];rfl
 have b:cW1.owner [98]=1:=by rw[ownW1];rfl
 have c:cW1.owner [99]=0:=by rw[ownW1];rfl
 simp[splitK,List.range,List.range.loop,a,b,c]
theorem splitW2:splitK cW2.owner 2 [rA,rB,rC] = [[], [rA,rB,rC]]:=by simp[splitK,List.range,List.range.loop,ownW2]
theorem mvWorks_call(G:Nat→Option AV)(hG:GTab G)(h:AH) (K:AV→AH→Prop)(hk:∀ H,Grew h H→K (.v (.bool true)) H):SCall Tryz.prog G 20 [] h K:=by
 refine Tryz.c20 G h K fun hlow=>?_
 unfold Tryz.r20
 have e97:(ByteArray.mk #[97])=bs [97]:=rfl
 have e98:(ByteArray.mk #[98])=bs [98]:=rfl
 have e99:(ByteArray.mk #[99])=bs [99]:=rfl
 have e0:(ByteArray.mk #[])=bs []:=rfl
 simp (disch:=omega)only[go_sem,e97,e98,e99,e0,Nat.reduceAdd]
 generalize hH0:(h ++ [some (AO.cells 3 1 [[AV.v (.int .i64 1)], [AV.v (.int .i64 0)]] 0),some (AO.cells 3 1 [[AV.v (.int .i64 0)], [AV.v (.int .i64 1)]] 0),some (AO.cells 49 6 [[AV.v (.int .i64 1),AV.sl h.length 0 0 2 none,AV.v (.int .i64 2),AV.sl (h.length+1) 0 0 2 none,AV.v (.string (bs [])),AV.v (.bool false)]] 0)])=H0
 have g0:Grew h H0:=by rw[← hH0];exact Grew.app _
 have oX:H0[h.length]? = some (some (.cells 3 1 (([1,0]:List Int).map irow) 0)):=by rw[← hH0];simp
 have oY:H0[h.length+1]? = some (some (.cells 3 1 (([0,1]:List Int).map irow) 0)):=by rw[← hH0];simp
 have oC:H0[h.length+2]? = some (some (.cells 49 6 [cW0.cells (.sl h.length 0 0 2 none) (.sl (h.length+1) 0 0 2 none)] 0)):=by rw[← hH0];simp
 have hl0:H0.length=h.length+3:=by rw[← hH0];simp
 clear hH0
 refine⟨tbNew_call G H0 _ fun T0=>?_⟩
 generalize hH1:H0 ++ [some (AO.cells 160 1 [[AV.v (.slice none 0 0)]] 0)]=H1 at T0
 have g1:Grew H0 H1:=by rw[← hH1];exact Grew.app _
 have hl1:H1.length=H0.length+1:=by rw[← hH1];simp
 clear hH1
 simp (disch:=omega)only[go_sem,e97,e98,e99,e0,Nat.reduceAdd]
 refine⟨tbNew_call G H1 _ fun T1=>?_⟩
 generalize hH2:H1 ++ [some (AO.cells 160 1 [[AV.v (.slice none 0 0)]] 0)]=H2 at T1
 have g2:Grew H1 H2:=by rw[← hH2];exact Grew.app _
 have hl2:H2.length=H1.length+1:=by rw[← hH2];simp
 clear hH2
 have T0:=T0.grew g2
 have ft:=fillPtr2 (p:= .ptr H0.length 0 0 0) (q:= .ptr H1.length 0 0 0) rfl rfl rfl rfl
 have fr:rowsFill 3 (List.replicate 3 [.v (.string (bs [])), .v (.int .i64 0), .v (.string (bs []))]) [(0,some (.agg [.v (.string (bs [97])), .v (.int .i64 1), .v (.string (bs []))])),(1,some (.agg [.v (.string (bs [98])), .v (.int .i64 1), .v (.string (bs []))])),(2,some (.agg [.v (.string (bs [99])), .v (.int .i64 1), .v (.string (bs []))]))]=some [rA.cells,rB.cells,rC.cells]:=fillRows3 (a:=rA) (b:=rB) (c:=rC)
 generalize hH3:H2 ++ [some (AO.cells 87 1 [[AV.ptr H0.length 0 0 0], [AV.ptr H1.length 0 0 0]] 0)]=H3
 have g3:Grew H2 H3:=by rw[← hH3];exact Grew.app _
 have oL:H3[H2.length]? = some (some (.cells 87 1 ([H0.length,H1.length].map prow) 0)):=by rw[← hH3];simp
 have TS3:TabsAt H3 (.sl H2.length 0 0 2 none) [H0.length,H1.length] [[], []]:=by
  refine⟨.sl (rows:= [H0.length,H1.length].map prow) (by simp) oL (by simp) (by simp) (fun c hc=>by cases hc),rfl,fun i p l hp hl=>?_⟩
  match i with
  | 0=>simp at hp hl;rw[← hp,hl];exact T0.grew g3
  | 1=>simp at hp hl;rw[← hp,hl];exact T1.grew g3
  | i+2=>simp at hp
 have hnd : [H0.length,H1.length].Nodup:=by simp;omega
 obtain⟨z0,z1,z2,_⟩:=TS3.own.sees.iaAll (P:=Tryz.prog) (ty:=51) (k:= .i64) (i:=0) (r:=prow H0.length) Tryz.und51 Tryz.siz87 (by omega) (by simp)
 have z1':=z1 []
 have z2':=z2 []
 rw[List.append_nil]at z1' z2'
 simp (disch:=omega)only[go_sem,e97,e98,e99,e0,Nat.reduceAdd,ft,fr,hH3,z1',z2',z1,z2,ptrEq0]
 have T03:=(TS3.tab 0 _ _ rfl rfl).grew (Grew.app [some (AO.cells 131 3 [rA.cells,rB.cells,rC.cells] 0)])
 refine⟨tbTake_call G H0.length [] [rA,rB,rC] (.sl H3.length 0 0 3 none) _ _ T03 (fun H' kt=>?_) (by simp) (by simp) (fun hbad=>?_) (fun _ hbad=>absurd rABC hbad) (fun _ _ hbad=>?_) (fun _ _ _ H5 T' b'=>?_)⟩
 ·exact Sees.all (rows:= [rA,rB,rC].map RowA.cells) (by intro r hr;obtain⟨z,_,rfl⟩:=List.mem_map.mp hr;rfl) (kt.2 _ _ _ (by simp))
 ·exact absurd hbad (by decide)
 ·rw[takeM_nil]at hbad;simp at hbad
 rw[takeM_nil]at T'
 have TS5:=(TS3.grew (Grew.app [some (AO.cells 131 3 [rA.cells,rB.cells,rC.cells] 0)])).set hnd (i:=0) rfl b' T'
 simp only[List.set_cons_zero]at TS5
 have g25:Buts [H0.length,H1.length] H0 H5:=(Buts.grew (((g1.trans g2).trans g3).trans (Grew.app _))).trans (Buts.but b' (by simp))
 have TS0:TabsAt H5 (.sl H2.length 0 0 2 none) [H0.length,H1.length] [[rA,rB,rC], []]:=TS5
 have keep0:∀ {H:AH} {j:Nat} {e:TypeId} {n g:Nat} {r:List (List AV)},Buts [H0.length,H1.length] H0 H→H0[j]? = some (some (.cells e n r g))→H[j]? = some (some (.cells e n r g)):=fun b hj=>by
  have hjl:=(List.getElem?_eq_some_iff.mp hj).1
  rw[b.2 _ hjl (by simp;omega)]
  exact hj
 have wX:∀ H,Buts [H0.length,H1.length] H0 H→Wt H (.sl h.length 0 0 2 none) [1,0]:=fun H b=>⟨Sees.all (rows:=([1,0]:List Int).map irow) (by simp) (keep0 b oX),rfl,rfl⟩
 have wY:∀ H,Buts [H0.length,H1.length] H0 H→Wt H (.sl (h.length+1) 0 0 2 none) [0,1]:=fun H b=>⟨Sees.all (rows:=([0,1]:List Int).map irow) (by simp) (keep0 b oY),rfl,rfl⟩
 have oC5:=keep0 g25 oC
 have hbt:∀ {H:AH} (x:Grew H0 H),Buts [H0.length,H1.length] H0 H:=fun g=>Buts.grew g
 simp (disch:=omega)only[go_sem,oC5,Nat.reduceAdd]
 have okW0:cW0.ok=true:=by decide
 have okW1:cW1.ok=true:=by decide
 have hmay:∀ r ∈ [rA,rB,rC],r.may=true:=by decide
 have ls0 : [[rA,rB,rC], []]=splitK cW0.owner 2 [rA,rB,rC]:=splitW0.symm
 have range:∀(c:Chg),c=cW0∨c=cW1→∀ r ∈ [rA,rB,rC],0≤c.owner r.key∧c.owner r.key<(2:Nat):=fun c hc r _=>by
  rcases hc with rfl|rfl
  ·rw[ownW0];omega
  ·rw[ownW1];split <;> omega
 refine⟨mvStep_call G hG cW0 (.sl h.length 0 0 2 none) (.sl (h.length+1) 0 0 2 none) (.sl H2.length 0 0 2 none) [H0.length,H1.length] _ 2 H5 _ (fun H b=>wX H (g25.trans b)) (fun H b=>wY H (g25.trans b)) (by decide) (by decide) (by decide) (by decide) (by decide) TS0 hnd (by decide) (by decide) (by decide) (fun e t hbad=>?_) (fun _ _ _ _ _ S aS f lb H6 T6 b6=>?_)⟩
 ·exfalso
  unfold StepErr at hbad
  rcases hbad with⟨hx,_⟩|⟨_,hx,_⟩|⟨_,_,hx,_⟩|⟨_,_,_,hx,_⟩
  ·rw[okW0]at hx;cases hx
  ·exact hx rfl
  ·exact hx (by rw[ls0];exact splitK_apart _ _ _)
  ·rcases hx with hx|hx
   ·cases hx
   ·omega
 have hS:S = [rA,rB,rC]:=all_split rABC (range cW0 (.inl rfl)) (by rw[← ls0];exact aS)
 subst hS
 have hf:f=0:=lb.uniq ⟨Nat.zero_le _,fun j hj=>absurd hj (Nat.not_lt_zero _),fun j _ hj=>by
  generalize ([rA,rB,rC].map RowA.key).getD j []=x
  cases x <;> rfl⟩
 subst hf
 have st:cW0.step [rA,rB,rC] 0 2=cW1:=rfl
 rw[st]at T6
 rw[st]
 have sp:splitK cW1.owner [[rA,rB,rC], []].length [rA,rB,rC] = [[rC], [rA,rB]]:=splitW1
 rw[sp]at T6
 have mvl:(mvN (ofK Lib.itoa cW0.was.wts) (ofK Lib.itoa cW0.will.wts) [rA,rB,rC] 0 (nextM ([rA,rB,rC].map RowA.key) 2 0)).length=2:=by
  have:nextM ([rA,rB,rC].map RowA.key) 2 0=2:=by decide
  rw[this]
  simp[mvN,of10,of01]
 rw[mvl]
 have b06:=g25.trans b6
 have oX6:=keep0 b06 oX
 have oY6:=keep0 b06 oY
 have oC6:=keep0 b06 oC
 have lt6:=(List.getElem?_eq_some_iff.mp oC6).1
 generalize hH7:H6.set (h.length+2) (some (AO.cells 49 6 [cW1.cells (.sl h.length 0 0 2 none) (.sl (h.length+1) 0 0 2 none)] 0))=H7
 have T7:TabsAt H7 (.sl H2.length 0 0 2 none) [H0.length,H1.length] [[rC], [rA,rB]]:=by rw[← hH7];exact T6.put oC6 (by decide) (by decide) (by decide)
 have oX7:H7[h.length]? = some (some (.cells 3 1 (([1,0]:List Int).map irow) 0)):=by rw[← hH7,List.getElem?_set_ne (by omega)];exact oX6
 have oY7:H7[h.length+1]? = some (some (.cells 3 1 (([0,1]:List Int).map irow) 0)):=by rw[← hH7,List.getElem?_set_ne (by omega)];exact oY6
 have oC7:H7[h.length+2]? = some (some (.cells 49 6 [cW1.cells (.sl h.length 0 0 2 none) (.sl (h.length+1) 0 0 2 none)] 0)):=by rw[← hH7];exact List.getElem?_set_self lt6
 have b07:∀ j,j<h.length→H7[j]? = h[j]?:=fun j hj=>by
  rw[← hH7,List.getElem?_set_ne (by omega),b06.2 j (by omega) (by simp;omega)]
  obtain⟨t,ht⟩:=g0.ex
  rw[ht]
  exact List.getElem?_append_left hj
 have l07:H0.length≤H7.length:=by rw[← hH7,List.length_set];exact b06.1
 obtain⟨y0,y1,y2,_⟩:=T7.own.sees.iaAll (P:=Tryz.prog) (ty:=51) (k:= .i64) (i:=0) (r:=prow H0.length) Tryz.und51 Tryz.siz87 (by omega) (by simp)
 have y1':=y1 []
 have y2':=y2 []
 rw[List.append_nil]at y1' y2'
 simp (disch:=omega)only[go_sem,e97,e98,e99,e0,extV,oC6,hH7,oC7,Nat.reduceAdd,bs_toList,beq_self_eq_true,Bool.not_true,y1',y2']
 refine⟨tbLen_call G H0.length [rC] H7 _ (T7.tab 0 _ _ rfl rfl) ?_⟩
 simp (disch:=omega)only[go_sem,oC7,Nat.reduceAdd,show(([rC]:List RowA).length:Int)=1 from rfl]
 refine⟨mvStep_call G hG cW1 (.sl h.length 0 0 2 none) (.sl (h.length+1) 0 0 2 none) (.sl H2.length 0 0 2 none) [H0.length,H1.length] _ 2 H7 _ (fun H b=>T7.wtO (ws:= [1,0]) oX7 b rfl) (fun H b=>T7.wtO (ws:= [0,1]) oY7 b rfl) (by decide) (by decide) (by decide) (by decide) (by decide) T7 hnd (by decide) (by decide) (by decide) (fun e t hbad=>?_) (fun _ _ _ _ _ S aS f lb H8 T8 b8=>?_)⟩
 ·exfalso
  unfold StepErr at hbad
  rcases hbad with⟨hx,_⟩|⟨_,hx,_⟩|⟨_,_,hx,_⟩|⟨_,_,_,hx,_⟩
  ·rw[okW1]at hx;cases hx
  ·exact hx rfl
  ·exact hx (by rw[← splitW1];exact splitK_apart _ _ _)
  ·rcases hx with hx|hx
   ·cases hx
   ·omega
 have hS:S = [rA,rB,rC]:=all_split rABC (range cW1 (.inr rfl)) (by rw[splitW1];exact aS)
 subst hS
 have hf:f=2:=lb.uniq ⟨by decide,fun j hj=>by
  match j,hj with
  | 0,_=>rfl
  | 1,_=>rfl,fun j hj hj2=>by
  have hj3:j<3:=hj2
  have:j=2:=by omega
  subst this
  rfl⟩
 subst hf
 have st:cW1.step [rA,rB,rC] 2 2=cW2:=rfl
 rw[st]at T8
 rw[st]
 have sp:splitK cW2.owner [[rC], [rA,rB]].length [rA,rB,rC] = [[], [rA,rB,rC]]:=splitW2
 rw[sp]at T8
 have mvl:(mvN (ofK Lib.itoa cW1.was.wts) (ofK Lib.itoa cW1.will.wts) [rA,rB,rC] 2 (nextM ([rA,rB,rC].map RowA.key) 2 2)).length=1:=by
  have:nextM ([rA,rB,rC].map RowA.key) 2 2=1:=by decide
  rw[this]
  simp[mvN,of10,of01]
 rw[mvl]
 have oC8:=T7.keepO b8 (by decide) oC7
 have lt8:=(List.getElem?_eq_some_iff.mp oC8).1
 generalize hH9:H8.set (h.length+2) (some (AO.cells 49 6 [cW2.cells (.sl h.length 0 0 2 none) (.sl (h.length+1) 0 0 2 none)] 0))=H9
 have T9:TabsAt H9 (.sl H2.length 0 0 2 none) [H0.length,H1.length] [[], [rA,rB,rC]]:=by rw[← hH9];exact T8.put oC8 (by decide) (by decide) (by decide)
 have oC9:H9[h.length+2]? = some (some (.cells 49 6 [cW2.cells (.sl h.length 0 0 2 none) (.sl (h.length+1) 0 0 2 none)] 0)):=by rw[← hH9];exact List.getElem?_set_self lt8
 have b09:∀ j,j<h.length→H9[j]? = h[j]?:=fun j hj=>by
  rw[← hH9,List.getElem?_set_ne (by omega),b8.2 j (by omega) (by simp;omega)]
  exact b07 j hj
 have l09:H0.length≤H9.length:=by rw[← hH9,List.length_set];have:=b8.1;omega
 obtain⟨x0,x1,x2,_⟩:=T9.own.sees.iaAll (P:=Tryz.prog) (ty:=51) (k:= .i64) (i:=1) (r:=prow H1.length) Tryz.und51 Tryz.siz87 (by omega) (by simp)
 have x1':=x1 []
 have x2':=x2 []
 rw[List.append_nil]at x1' x2'
 simp (disch:=omega)only[go_sem,e97,e98,e99,e0,extV,oC8,hH9,oC9,Nat.reduceAdd,bs_toList,beq_self_eq_true,Bool.not_true,x1',x2']
 refine⟨tbLen_call G H1.length [rA,rB,rC] H9 _ (T9.tab 1 _ _ rfl rfl) ?_⟩
 simp (disch:=omega)only[go_sem,Nat.reduceAdd,show(([rA,rB,rC]:List RowA).length:Int)=3 from rfl]
 exact ret_keep (hk _ (Grew.mk (ext_of (by omega) b09)))
end Go.Proofs
namespace Go.Proofs
open Go Go.Abs
set_option maxRecDepth 100000
set_option linter.unusedSimpArgs false
theorem int_range{n:Int} (h:(Lit.int .i64 n).wf=true) : -9223372036854775808≤n∧n≤9223372036854775807:=by
 simp only[Lit.wf,Bool.and_eq_true,decide_eq_true_eq]at h
 have e1:IntKind.i64.min = -9223372036854775808:=by decide
 have e2:IntKind.i64.max=9223372036854775807:=by decide
 rw[e1,e2]at h
 exact h
end Go.Proofs
namespace Go.Proofs
open Go Go.Abs
set_option maxRecDepth 100000
set_option linter.unusedSimpArgs false
theorem in_row{r:List AV} (h:In Tryz.prog 131 r):∃ x:RowA,r=x.cells∧x.key.length≤140737488351232∧x.val.length≤140737488351232:=by
 obtain⟨hl,hf⟩:=in_struct Tryz.und131 h
 rw[show Tryz.prog.cellsOf 131=3 by kernel_rfl]at hl
 have c3:Tryz.prog.cellsOf 3=1:=by kernel_rfl
 have c9:Tryz.prog.cellsOf 9=1:=by kernel_rfl
 have hr:reachBytes=140737488351232+0:=by decide
 match r,hl with
 | [x0,x1,x2],_=>
  simp only[List.mem_cons,List.not_mem_nil,or_false,forall_eq_or_imp,forall_eq,c3,c9,List.drop_zero,List.drop_succ_cons,List.take_succ_cons,List.take_zero]at hf
  obtain⟨f0,f1,f2⟩:=hf
  obtain⟨s,h1,h2⟩:=in_str Tryz.und9 f0
  obtain⟨n,h3,_⟩:=in_int Tryz.und3 f1
  obtain⟨u,h4,h5⟩:=in_str Tryz.und9 f2
  simp only[List.cons.injEq,and_true]at h1 h3 h4
  have h9:s.data.toList.length=s.size:=rfl
  have h8:u.data.toList.length=u.size:=rfl
  exact⟨⟨s.data.toList,n,u.data.toList⟩,by rw[h1,h3,h4],by simp only;omega,by simp only;omega⟩
theorem in_rows{xs:List AV} (hx:In Tryz.prog 47 xs):∃(a:AV) (rows:List RowA),xs = [a]∧a.one=true∧a.cells = [a]∧(∀ h,Sees h 3 a (rows.map RowA.cells))∧rows.length≤8796093022207∧(∀ r∈rows,r.key.length≤140737488351232∧r.val.length≤140737488351232)∧(¬ ∃ s,a = .v (.string s))∧∀ r f,a ≠ .lst r f false:=by
 have hr:reachBytes=140737488351232+0:=by decide
 rcases in_slice Tryz.und47 hx with rfl|⟨rows,rfl,h1,h2,h3,h4⟩
 ·exact⟨_, [],rfl,rfl,rfl,fun h=>Sees.nil,by simp,by simp,(by rintro⟨s,hs⟩;cases hs),by simp⟩
 ·have hb:Tryz.prog.bytesOf 131=40:=by kernel_rfl
  rw[hb]at h3
  have key:∀ rows:List (List AV),(∀ r∈rows,In Tryz.prog 131 r)→∃ l:List RowA,rows=l.map RowA.cells∧l.length=rows.length∧∀ r∈l,r.key.length≤140737488351232∧r.val.length≤140737488351232:=by
   intro rows
   induction rows with
   | nil=>intro _;exact⟨[],rfl,rfl,by simp⟩
   | cons r rows ih=>
    intro h
    obtain⟨x,x1,x2,x3⟩:=in_row (h r (by simp))
    obtain⟨l,k1,k2,k3⟩:=ih fun r hr=>h r (by simp[hr])
    refine⟨x::l,by rw[x1,k1];rfl,by simp[k2],fun y hy=>?_⟩
    rcases List.mem_cons.mp hy with rfl|hy
    ·exact⟨x2,x3⟩
    ·exact k3 y hy
  obtain⟨l,k1,k2,k3⟩:=key rows h2
  refine⟨_,l,rfl,rfl,rfl,fun h=>?_,by omega,k3,(by rintro⟨s,hs⟩;cases hs),by simp⟩
  rw[k1]
  exact Sees.lst (by intro r hr;obtain⟨z,_,rfl⟩:=List.mem_map.mp hr;rfl)
theorem in_rowss{xs:List AV} (hx:In Tryz.prog 44 xs):∃(a:AV) (rs:List AV)(ls:List (List RowA)),xs = [a]∧a.one=true∧a.cells = [a]∧(∀ h,Sees h 1 a (rs.map fun r=> [r]))∧rs.length=ls.length∧ls.length≤8796093022207∧(∀ r f,a ≠ .lst r f false) ∧
  ∀(i:Nat) (r:AV) (l:List RowA),rs[i]? = some r→ls[i]? = some l→(∀ h,Sees h 3 r (l.map RowA.cells))∧l.length≤8796093022207∧(¬ ∃ s,r = .v (.string s))∧∀ x∈l,x.key.length≤140737488351232∧x.val.length≤140737488351232:=by
 have hr:reachBytes=140737488351232+0:=by decide
 rcases in_slice Tryz.und44 hx with rfl|⟨rows,rfl,h1,h2,h3,h4⟩
 ·exact⟨_, [], [],rfl,rfl,rfl,fun h=>Sees.nil,rfl,by simp,by simp,fun i r l h=>by cases h⟩
 ·have hb:Tryz.prog.bytesOf 47=24:=by kernel_rfl
  rw[hb]at h3
  have key:∀ rows:List (List AV),(∀ r∈rows,In Tryz.prog 47 r)→∃(rs:List AV) (ls:List (List RowA)),rows=rs.map (fun r=> [r])∧rs.length=rows.length∧rs.length=ls.length∧∀(i:Nat) (r:AV) (l:List RowA),rs[i]? = some r→ls[i]? = some l→(∀ h,Sees h 3 r (l.map RowA.cells))∧l.length≤8796093022207∧(¬ ∃ s,r = .v (.string s))∧∀ x∈l,x.key.length≤140737488351232∧x.val.length≤140737488351232:=by
   intro rows
   induction rows with
   | nil=>intro _;exact⟨[], [],rfl,rfl,rfl,fun i r l h=>by cases h⟩
   | cons r rows ih=>
    intro h
    obtain⟨a,l,x1,x2,x3,x4,x5,x6,x7,x8⟩:=in_rows (h r (by simp))
    obtain⟨rs,ls,k1,k2,k3,k4⟩:=ih fun r hr=>h r (by simp[hr])
    refine⟨a::rs,l::ls,by rw[x1,k1];rfl,by simp[k2],by simp[k3],fun i r' l' hi hi'=>?_⟩
    cases i with
    | zero=>
     simp only[List.getElem?_cons_zero,Option.some.injEq]at hi hi'
     subst hi hi'
     exact⟨x4,x5,x7,x6⟩
    | succ i=>
     simp only[List.getElem?_cons_succ]at hi hi'
     exact k4 i r' l' hi hi'
  obtain⟨rs,ls,k1,k2,k3,k4⟩:=key rows h2
  refine⟨_,rs,ls,rfl,rfl,rfl,fun h=>?_,k3,by omega,by simp,k4⟩
  rw[k1]
  exact Sees.lst (by intro r hr;obtain⟨z,_,rfl⟩:=List.mem_map.mp hr;rfl)
theorem in_plan{xs:List AV} (hx:In Tryz.prog 46 xs):∃(c:Chg) (W1 W2 R:AV),xs=planCells c W1 W2 R∧(∀ h,Wt h W1 c.was.wts)∧(∀ h,Wt h W2 c.will.wts)∧c.was.wts.length≤17592186044415∧c.will.wts.length≤17592186044415∧c.cur.length≤140737488351232∧In Tryz.prog 44 [R]:=by
 obtain⟨hl,hf⟩:=in_struct Tryz.und46 hx
 rw[show Tryz.prog.cellsOf 46=7 by kernel_rfl]at hl
 have cL:Tryz.prog.cellsOf 43=2:=by kernel_rfl
 have c3:Tryz.prog.cellsOf 3=1:=by kernel_rfl
 have c31:Tryz.prog.cellsOf 31=1:=by kernel_rfl
 have c9:Tryz.prog.cellsOf 9=1:=by kernel_rfl
 have c4:Tryz.prog.cellsOf 4=1:=by kernel_rfl
 have cR:Tryz.prog.cellsOf 44=1:=by kernel_rfl
 have hr:reachBytes=140737488351232+0:=by decide
 match xs,hl with
 | [x0,x1,x2,x3,x4,x5,x6],_=>
  simp only[List.mem_cons,List.not_mem_nil,or_false,forall_eq_or_imp,forall_eq,cL,c9,c4,cR,List.drop_zero,List.drop_succ_cons,List.take_succ_cons,List.take_zero]at hf
  obtain⟨f0,f1,f2,f3,f4⟩:=hf
  obtain⟨_,g0⟩:=in_struct Tryz.und43 f0
  obtain⟨_,g1⟩:=in_struct Tryz.und43 f1
  simp only[List.mem_cons,List.not_mem_nil,or_false,forall_eq_or_imp,forall_eq,c3,c31,List.drop_zero,List.drop_succ_cons,List.take_succ_cons,List.take_zero]at g0 g1
  obtain⟨n0,h0,_⟩:=in_int Tryz.und3 g0.1
  obtain⟨n2,h2,_⟩:=in_int Tryz.und3 g1.1
  obtain⟨a,ws,h1,a1,a2,a3,a4,_⟩:=in_weights g0.2
  obtain⟨b,us,h3,b1,b2,b3,b4,_⟩:=in_weights g1.2
  obtain⟨s,h4,h5⟩:=in_str Tryz.und9 f2
  obtain⟨z,h6⟩:=in_bool Tryz.und4 f3
  simp only[List.cons.injEq,and_true]at h0 h1 h2 h3 h4 h6
  have h9:s.data.toList.length=s.size:=rfl
  exact⟨⟨⟨n0,ws⟩,⟨n2,us⟩,s.data.toList,z⟩,a,b,x6,by rw[h0,h1,h2,h3,h4,h6],fun h=>⟨a3 h,a1,a2⟩,fun h=>⟨b3 h,b1,b2⟩,a4,b4,(by simp only;omega),f4⟩
theorem argPlan{xs:List AV} : argA Tryz.prog 46 xs = .agg xs:=by unfold argA;rw[Tryz.und46]
end Go.Proofs
namespace Go.Proofs
open Go Go.Abs
set_option maxRecDepth 100000
set_option linter.unusedSimpArgs false
def smallB(ls:List (List RowA)):Bool:=decide (ls.length≤12)&&ls.all fun l=>decide (l.length≤60)
structure RowsAt (R:AV) (rs:List AV)(ls:List (List RowA)):Prop where
 one:R.one=true
 cel:R.cells = [R]
 sees:∀ h,Sees h 1 R (rs.map fun r=> [r])
 len:rs.length=ls.length
 few:ls.length≤8796093022207
 row:∀(i:Nat) (r:AV) (l:List RowA),rs[i]? = some r→ls[i]? = some l→(∀ h,Sees h 3 r (l.map RowA.cells))∧l.length≤8796093022207∧(¬ ∃ s,r = .v (.string s))∧∀ x∈l,x.key.length≤140737488351232∧x.val.length≤140737488351232
theorem RowsAt.at{R:AV} {rs:List AV} {ls:List (List RowA)} (T:RowsAt R rs ls) {i:Nat} {l:List RowA} (hl:ls[i]? = some l):∃ q r,rs[i]? = some r∧(∀ H,aIA Tryz.prog H 44 R (.v (.int .i64 (i:Int)))=some q)∧(∀ H,aLoad Tryz.prog H 47 q=some r)∧(∀ H,aLen Tryz.prog H 47 r=some (.v (.int .i64 l.length)))∧(∀ h,Sees h 3 r (l.map RowA.cells))∧(¬ ∃ s,r = .v (.string s))∧∀ x∈l,x.key.length≤140737488351232∧x.val.length≤140737488351232:=by
 have hil:=(List.getElem?_eq_some_iff.mp hl).1
 have hlen:=T.len
 obtain⟨r,hr⟩:∃ r,rs[i]? = some r:=⟨_,List.getElem?_eq_getElem (by omega)⟩
 obtain⟨h1,h2,h3,h4⟩:=T.row i r l hr hl
 obtain⟨q,q1,q2,_⟩:=(T.sees []).iaAll (P:=Tryz.prog) (ty:=44) (k:= .i64) (i:=(i:Int)) (r:= [r]) Tryz.und44 Tryz.siz47 (by omega) (by simp[hr])
 refine⟨q,r,hr,fun H=>q1 H,fun H=>?_,fun H=>?_,h1,h3,h4⟩
 ·have:=q2 H
  rw[List.nil_append]at this
  simp (disch:=omega)only[go_sem,this]
 ·have:=(h1 H).len (P:=Tryz.prog) (t:=47) Tryz.und47
  rw[List.length_map]at this
  exact this
theorem small_call(G:Nat→Option AV)(c:Chg) (W1 W2 R:AV) (rs:List AV)(ls:List (List RowA))(h:AH) (K:AV→AH→Prop)(n1:W1.one=true)(c1:W1.cells = [W1])(n2:W2.one=true)(c2:W2.cells = [W2])(T:RowsAt R rs ls)
  (hk:K (.v (.bool (smallB ls))) h):SCall Tryz.prog G 29 [.agg (planCells c W1 W2 R)] h K:=by
 refine Tryz.c29 G _ h K fun hlow=>?_
 unfold Tryz.r29
 have n3:=T.one
 have c3:=T.cel
 have hlen:=T.len
 have hfew:=T.few
 have lR:∀ H,aLen Tryz.prog H 44 R=some (.v (.int .i64 ls.length)):=fun H=>by
  have:=(T.sees H).len (P:=Tryz.prog) (t:=44) Tryz.und44
  rw[List.length_map,hlen]at this
  exact this
 unfold smallB at hk
 by_cases h12:ls.length > 12
 ·rw[decide_eq_false (by omega),Bool.false_and]at hk
  simp (disch:=omega)only[go_sem,n1,n2,n3,c1,c2,c3,lR]
  exact ret_tail hlow .v hk
 rw[decide_eq_true (by omega),Bool.true_and]at hk
 simp (disch:=omega)only[go_sem,n1,n2,n3,c1,c2,c3,lR]
 unfold Tryz.r29_l4_4
 refine⟨fun m vs H=>∃ k:Nat,k≤ls.length∧m=ls.length-k∧H=h ++ [some (AO.cells 46 7 [planCells c W1 W2 R] 0)]∧(∀ l∈ls.take k,l.length≤60)∧vs = [.v (.int .i64 k)],ls.length,⟨0,by omega,rfl,rfl,by simp,rfl⟩,?_⟩
 rintro m H hl1 hlow2 n ⟨k,hkk,rfl,rfl,hlo,hvs⟩
 simp only[List.cons.injEq,AV.v.injEq,Value.int.injEq,true_and,and_true]at hvs
 subst hvs
 by_cases hkl:k<ls.length
 ·obtain⟨l,hl⟩:∃ l,ls[k]? = some l:=⟨_,List.getElem?_eq_getElem hkl⟩
  have ew:IntKind.i64.wrap ((k:Int)+1)=((k+1:Nat):Int):=by rw[wrap64_of (by omega) (by omega)];omega
  obtain⟨q,r,_,q1,q2,q3,_⟩:=T.at hl
  by_cases h60:l.length > 60
  ·have hall:(ls.all fun l=>decide (l.length≤60))=false:=by
    rw[List.all_eq_false]
    exact⟨l,List.mem_of_getElem? hl,by simpa using h60⟩
   rw[hall]at hk
   simp (disch:=omega)only[go_sem,n1,n2,n3,c1,c2,c3,lR,q1,q2,q3]
   exact ret_tail hlow .v hk
  ·simp (disch:=omega)only[go_sem,n1,n2,n3,c1,c2,c3,lR,q1,q2,q3,ew]
   refine next_keep (ls.length-(k+1)) (by omega) (Nat.le_refl _) ⟨k+1,by omega,rfl,rfl,fun x hx=>?_,rfl⟩
   rw[List.take_add_one,hl]at hx
   simp only[Option.toList_some,List.mem_append,List.mem_singleton]at hx
   rcases hx with hx|rfl
   ·exact hlo x hx
   ·omega
 ·have hke:k=ls.length:=by omega
  subst hke
  rw[List.take_length]at hlo
  have hall:(ls.all fun l=>decide (l.length≤60))=true:=List.all_eq_true.mpr fun l hl=>by simpa using hlo l hl
  rw[hall]at hk
  simp (disch:=omega)only[go_sem,n1,n2,n3,c1,c2,c3,lR]
  exact ret_tail hlow .v hk
theorem plOurs_call(G:Nat→Option AV)(c:Chg) (W1 W2 R:AV)(h:AH) (K:AV→AH→Prop)(n1:W1.one=true)(c1:W1.cells = [W1])(n2:W2.one=true)(c2:W2.cells = [W2])(n3:R.one=true)(c3:R.cells = [R])
  (hk:∀ t,K (.agg (c.cells W1 W2)) (h++t)):SCall Tryz.prog G 31 [.agg (planCells c W1 W2 R)] h K:=by
 refine Tryz.c31 G _ h K fun hlow=>?_
 unfold Tryz.r31
 simp (disch:=omega)only[go_sem,n1,n2,n3,c1,c2,c3]
 rw[buildOurs rfl rfl]
 simp (disch:=omega)only[go_sem,n1,n2,n3,c1,c2,c3,Nat.reduceAdd]
 exact ret_keep (hk _)
structure RTabs (h:AH) (b:AV) (qs:List Nat)(ls:List (List RowA)):Prop where
 own:Own 147 1 h b (qs.map prow)
 len:qs.length=ls.length
 tab:∀(i q:Nat) (l:List RowA),qs[i]? = some q→ls[i]? = some l→RTab h q l
theorem RTabs.grew{h h':AH} {a:AV} {ps:List Nat} {ls:List (List RowA)} (T:RTabs h a ps ls)(g:Grew h h'):RTabs h' a ps ls:=
 ⟨by obtain⟨t,rfl⟩:=g.ex;exact T.own.more t,T.len,fun i p l h1 h2=>(T.tab i p l h1 h2).grew g⟩
theorem RTabs.butO{h H:AH} {a:AV} {ps:List Nat} {ls:List (List RowA)} (T:RTabs h a ps ls) {i:Nat} (b:But i h H) {e:TypeId} {n g:Nat} {r:List (List AV)} (oi:h[i]? = some (some (.cells e n r g)))(h1:e≠149)(h2:e≠131)(h3:e≠147):RTabs H a ps ls:=by
 refine⟨T.own.keep fun id r' g' hi=>butKeep b oi (Ne.symm h3) hi,T.len,fun k p l hp hl=>?_⟩
 have Tp:=T.tab k p l hp hl
 obtain⟨x,hx,_⟩:=Tp.ex
 refine Tp.keep ?_ ⟨b.1,fun id r' g' hi=>butKeep b oi (Ne.symm h2) hi⟩
 rw[hx]
 exact butKeep b oi (Ne.symm h1) hx
theorem RTabs.butR{h h':AH} {a:AV} {ps:List Nat} {ls:List (List RowA)} {q:Nat} {m:List RowA} (T:RTabs h a ps ls)(U:RTab h q m)(b:But q h h')(hq:q∉ps):RTabs h' a ps ls:=by
 obtain⟨y,hy,_⟩:=U.ex
 refine⟨T.own.keep fun id r g hi=>?_,T.len,fun i p l hp hl=>(T.tab i p l hp hl).keep (b.2 p (T.tab i p l hp hl).lt fun e=>hq (e▸List.mem_of_getElem? hp)) (U.wKeep b)⟩
 rw[b.2 id (List.getElem?_eq_some_iff.mp hi).1 ?_]
 ·exact hi
 ·rintro rfl
  rw[hy]at hi
  cases hi
def PlanOk(ls:List (List RowA)):Prop:=∀ l∈ls,Rise l∧(∀ r∈l,r.may=true)∧l.length≤4096
theorem tables_call(G:Nat→Option AV)(c:Chg) (W1 W2 R:AV) (rs:List AV)(ls:List (List RowA))(h:AH) (K:AV→AH→Prop)(n1:W1.one=true)(c1:W1.cells = [W1])(n2:W2.one=true)(c2:W2.cells = [W2])(T:RowsAt R rs ls)(hsm:∀ l∈ls,l.length≤60)
  (hkN:∀ t,K (.tup [.v (.slice none 0 0), .v (.slice none 0 0), .v (.bool false)]) (h++t))
  (hk1:∀ x y ps qs H,PlanOk ls→Mine 87 1 H x (ps.map prow)→Mine 147 1 H y (qs.map prow)→TabsAt H x ps ls→RTabs H y qs ls→ps.Nodup→qs.Nodup→(∀ p∈ps,h.length≤p)→(∀ q∈qs,h.length≤q)→Grew h H→(∀ j,j<h.length→Off x j)→(∀ j,j<h.length→Off y j)→K (.tup [x,y, .v (.bool true)]) H) :
  SCall Tryz.prog G 30 [.agg (planCells c W1 W2 R)] h K:=by
 refine Tryz.c30 G _ h K fun hlow=>?_
 unfold Tryz.r30
 have n3:=T.one
 have c3:=T.cel
 have hlen:=T.len
 have hfew:=T.few
 have lR:∀ H,aLen Tryz.prog H 44 R=some (.v (.int .i64 ls.length)):=fun H=>by
  have:=(T.sees H).len (P:=Tryz.prog) (t:=44) Tryz.und44
  rw[List.length_map,hlen]at this
  exact this
 simp (disch:=omega)only[go_sem,n1,n2,n3,c1,c2,c3]
 generalize hH0:h ++ [some (AO.cells 46 7 [planCells c W1 W2 R] 0)]=H0
 have g0:Grew h H0:=by rw[← hH0];exact Grew.app _
 have oP:H0[h.length]? = some (some (.cells 46 7 [planCells c W1 W2 R] 0)):=by rw[← hH0];simp
 unfold Tryz.r30_l4_2
 refine⟨fun m vs H=>∃(k:Nat) (x y:AV) (ps qs:List Nat),k≤ls.length∧m=ls.length-k∧PlanOk (ls.take k)∧Mine 87 1 H x (ps.map prow)∧Mine 147 1 H y (qs.map prow)∧TabsAt H x ps (ls.take k)∧RTabs H y qs (ls.take k)∧ps.Nodup∧qs.Nodup∧(∀ p∈ps,h.length≤p∧p<H.length)∧(∀ q∈qs,h.length≤q∧q<H.length)∧Grew H0 H∧(∀ j,j<H0.length→Off x j∧Off y j)∧vs = [x,y, .v (.int .i64 k)],
  ls.length,⟨0,_,_, [], [],by omega,rfl,(fun l hl=>by simp at hl),by simpa using Mine.nil,by simpa using Mine.nil,⟨.nil,rfl,fun i p l hp=>by cases hp⟩,⟨.nil,rfl,fun i p l hp=>by cases hp⟩,List.nodup_nil,List.nodup_nil,by simp,by simp,⟨[],by simp⟩,fun j _=>⟨offNil j,offNil j⟩,rfl⟩,?_⟩
 rintro m H hl1 hlow2 x y n ⟨k,x',y',ps,qs,hkk,rfl,hok,mx,my,TS,RS,hps,hqs,hpb,hqb,g,offs,hvs⟩
 simp only[List.cons.injEq,AV.v.injEq,Value.int.injEq,true_and,and_true]at hvs
 obtain⟨rfl,rfl,rfl⟩:=hvs
 have gl:=g.len
 have g0l:=g0.len
 have oPH:=g.get oP
 have fin:∀ H',Grew h H'→K (.tup [.v (.slice none 0 0), .v (.slice none 0 0), .v (.bool false)]) H':=fun H' g=>by obtain⟨t,rfl⟩:=g.ex;exact hkN t
 by_cases hkl:k<ls.length
 rotate_left
 ·have hke:k=ls.length:=by omega
  subst hke
  rw[List.take_length]at hok TS RS
  have x1:=mx.one
  have x2:=mx.cells
  have y1:=my.one
  have y2:=my.cells
  simp (disch:=omega)only[go_sem,oPH,n1,n2,n3,c1,c2,c3,lR]
  exact ret_keep (hk1 x y ps qs H hok mx my TS RS hps hqs (fun p hp=>(hpb p hp).1) (fun q hq=>(hqb q hq).1) (g0.trans g) (fun j hj=>(offs j (by omega)).1) (fun j hj=>(offs j (by omega)).2))
 obtain⟨l,hl⟩:∃ l,ls[k]? = some l:=⟨_,List.getElem?_eq_getElem hkl⟩
 have ew:IntKind.i64.wrap ((k:Int)+1)=((k+1:Nat):Int):=by rw[wrap64_of (by omega) (by omega)];omega
 obtain⟨q,r,_,q1,q2,q3,rsees,rns,rkl⟩:=T.at hl
 have lfew:=hsm l (List.mem_of_getElem? hl)
 simp (disch:=omega)only[go_sem,oPH,n1,n2,n3,c1,c2,c3,lR]
 refine⟨tbNew_call G H _ fun T0=>?_⟩
 generalize hH1:H ++ [some (AO.cells 160 1 [[AV.v (.slice none 0 0)]] 0)]=H1 at T0
 have g1:Grew H H1:=by rw[← hH1];exact Grew.app _
 have hl1':H1.length=H.length+1:=by rw[← hH1];simp
 clear hH1
 have oP1:∀ t,(H1++t)[h.length]? = some (some (.cells 46 7 [planCells c W1 W2 R] 0)):=fun t=>(g1.trans (Grew.app t)).get oPH
 simp (disch:=omega)only[go_sem,oP1,n1,n2,n3,c1,c2,c3,q1,q2,ptrEq0]
 generalize hH2:H1 ++ [some (AO.cells 149 1 [[AV.v (.slice none 0 0)]] 0)]=H2
 have g2:Grew H1 H2:=by rw[← hH2];exact Grew.app _
 have hl2':H2.length=H.length+2:=by rw[← hH2];simp;omega
 have Q0:RTab H2 H1.length []:=⟨⟨_,by rw[← hH2];simp, .nil⟩,List.Pairwise.nil,by simp⟩
 clear hH2
 have T2:=T0.grew g2
 have g02:=g1.trans g2
 refine⟨tbTake_call G H.length [] l r H2 _ T2 (fun H' _=>rsees H') (by omega) (fun z hz=>by have:=rkl z hz;omega) (fun hbad=>?_) (fun _ hbad=>?_) (fun _ _ hbad=>?_) (fun hm hr h4 H3 T3 b3=>?_)⟩
 ·simp (disch:=omega)only[go_sem]
  exact ret_keep (fin _ ((g0.trans g).trans g02))
 ·simp (disch:=omega)only[go_sem]
  exact ret_keep (fin _ ((g0.trans g).trans g02))
 ·simp (disch:=omega)only[go_sem]
  exact ret_keep (fin _ ((g0.trans g).trans g02))
 rw[takeM_nil]at T3 h4
 have hmay:∀ z∈l,z.may=true:=fun z hz=>by
  cases hzz:z.may with
  | true=>rfl
  | false=>
   have:(l.any fun r=> !r.may)=true:=List.any_eq_true.mpr ⟨z,hz,by simp[hzz]⟩
   rw[hm]at this;cases this
 have hpnot:H.length∉ps:=fun hp=>by have:=(hpb _ hp).2;omega
 have hqnot:H1.length∉qs:=fun hq=>by have:=(hqb _ hq).2;omega
 obtain⟨yT,oT2,_⟩:=T2.ex
 obtain⟨yQ,oQ2,_⟩:=Q0.ex
 have Q3:RTab H3 H1.length []:=Q0.keep (by rw[b3.2 _ Q0.lt (by omega)]) (T2.wKeep b3)
 have hbl3:=b3.1
 have TS3:TabsAt H3 x ps (ls.take k):=by
  have:=TS.grew g02
  refine⟨this.own.keep fun id r g hi=>butKeep b3 oT2 (by decide) hi,this.len,fun i p l hp hl=>(this.tab i p l hp hl).but T2 b3 fun e=>hpnot (e▸List.mem_of_getElem? hp)⟩
 have RS3:=(RS.grew g02).butO b3 oT2 (by decide) (by decide) (by decide)
 have oP3:H3[h.length]? = some (some (.cells 46 7 [planCells c W1 W2 R] 0)):=butKeep b3 oT2 (by decide) (g02.get oPH)
 simp (disch:=omega)only[go_sem,oP3,n1,n2,n3,c1,c2,c3,q1,q2]
 refine⟨refTake_call G H1.length r l H3 _ Q3 rsees hr hmay h4 fun H4 Q4 b4=>?_⟩
 obtain⟨yQ3,oQ3,_⟩:=Q3.ex
 have hbl4:=b4.1
 have TS4:=TS3.butO b4 oQ3 (by decide) (by decide) (by decide)
 have T4:TabAt H4 H.length l:=T3.keep (by rw[b4.2 _ T3.lt (by omega)]) (Q3.wKeep b4)
 have RS4:=RS3.butR Q3 b4 hqnot
 have mx4:Mine 87 1 H4 x (ps.map prow):=(show Mine 87 1 H2 x (ps.map prow) from by obtain⟨t,rfl⟩:=g02.ex;exact mx.more t).keep fun id r g hi _=>butKeep b4 oQ3 (by decide) (butKeep b3 oT2 (by decide) hi)
 have my4:Mine 147 1 H4 y (qs.map prow):=(show Mine 147 1 H2 y (qs.map prow) from by obtain⟨t,rfl⟩:=g02.ex;exact my.more t).keep fun id r g hi _=>butKeep b4 oQ3 (by decide) (butKeep b3 oT2 (by decide) hi)
 have below4:∀ j,j<H0.length→H4[j]? = H[j]?:=fun j hj=>by
  rw[b4.2 j (by omega) (by omega),b3.2 j (by omega) (by omega)]
  obtain⟨t,rfl⟩:=g02.ex
  exact List.getElem?_append_left (by omega)
 have plen:ps.length=k:=by have:=TS.len;rw[List.length_take]at this;omega
 have qlen:qs.length=k:=by have:=RS.len;rw[List.length_take]at this;omega
 simp (disch:=omega)only[go_sem,fillPtr (p:= .ptr H.length 0 0 0) rfl rfl]
 refine(mx4.more _).pushAt (i:=H4.length) (g:=0) (row:=prow H.length) (e':=87) (by simp) Tryz.und51 Tryz.azero87 Tryz.byt87 (by exact Tryz.plainSrc51) rfl (by rw[List.length_map];omega) (by rw[List.length_map];omega) fun x5 H5 m5 hle5 st5=>?_
 simp only[List.length_append,List.length_cons,List.length_nil]at hle5
 have same5:∀ {j:Nat} {e:TypeId} {n g:Nat} {r:List (List AV)},e≠87→H4[j]? = some (some (.cells e n r g))→H5[j]? = some (some (.cells e n r g)):=fun {j e n g r} he hj=>by
  have hjl:=(List.getElem?_eq_some_iff.mp hj).1
  rw[(st5 j (by simp;omega) (mx4.offType hj he)).1,List.getElem?_append_left hjl]
  exact hj
 have my5:Mine 147 1 H5 y (qs.map prow):=my4.keep fun id r g hi _=>same5 (by decide) hi
 have below5:∀ j,j<H0.length→H5[j]? = H[j]? ∧ Off x5 j:=fun j hj=>by
  obtain⟨e1,e2⟩:=st5 j (by simp;omega) (offs j hj).1
  rw[e1,List.getElem?_append_left (by omega),below4 j hj]
  exact⟨rfl,e2⟩
 simp (disch:=omega)only[go_sem]
 refine(my5.more _).pushAt (i:=H5.length) (g:=0) (row:=prow H1.length) (e':=147) (by simp) Tryz.und65 Tryz.azero147 Tryz.byt147 (by exact Tryz.plainSrc65) rfl (by rw[List.length_map];omega) (by rw[List.length_map];omega) fun y6 H6 m6 hle6 st6=>?_
 simp only[List.length_append,List.length_cons,List.length_nil]at hle6
 have same6:∀ {j:Nat} {e:TypeId} {n g:Nat} {r:List (List AV)},e≠147→H5[j]? = some (some (.cells e n r g))→H6[j]? = some (some (.cells e n r g)):=fun {j e n g r} he hj=>by
  have hjl:=(List.getElem?_eq_some_iff.mp hj).1
  rw[(st6 j (by simp;omega) (my5.offType hj he)).1,List.getElem?_append_left hjl]
  exact hj
 have both:∀ {j:Nat} {e:TypeId} {n g:Nat} {r:List (List AV)},e≠87→e≠147→H4[j]? = some (some (.cells e n r g))→H6[j]? = some (some (.cells e n r g)):=fun h1 h2 hj=>same6 h2 (same5 h1 hj)
 have m5':Mine 87 1 H6 x5 (ps.map prow ++ [prow H.length]):=m5.keep fun id r g hi _=>same6 (by decide) hi
 have below6:∀ j,j<H0.length→H6[j]? = H[j]? ∧ Off y6 j:=fun j hj=>by
  obtain⟨e1,e2⟩:=st6 j (by simp;omega) (offs j hj).2
  rw[e1,List.getElem?_append_left (by omega),(below5 j hj).1]
  exact⟨rfl,e2⟩
 have tk:ls.take (k+1)=ls.take k ++ [l]:=by rw[List.take_add_one,hl];rfl
 have keepT6:KeepT H4 H6:=⟨by omega,fun j r g hj=>both (by decide) (by decide) hj⟩
 have tab6:∀ p l,TabAt H4 p l→TabAt H6 p l:=fun p l U=>by
  obtain⟨z,hz,_⟩:=U.ex
  exact U.keep ((both (by decide) (by decide) hz).trans hz.symm) keepT6
 have rtab6:∀ p l,RTab H4 p l→RTab H6 p l:=fun p l U=>by
  obtain⟨z,hz,_⟩:=U.ex
  exact U.keep ((both (by decide) (by decide) hz).trans hz.symm) keepT6
 obtain⟨t2,ht2⟩:=g.ex
 have mx6:Mine 87 1 H6 x5 ((ps ++ [H.length]).map prow):=by rw[List.map_append];exact m5'
 have my6:Mine 147 1 H6 y6 ((qs ++ [H1.length]).map prow):=by rw[List.map_append];exact m6
 have tklen:(ls.take k).length=k:=by rw[List.length_take];omega
 rw[ew]
 refine next_keep (ls.length-(k+1)) (by omega) (by omega) ⟨k+1,x5,y6,ps ++ [H.length],qs ++ [H1.length],by omega,rfl,?_,mx6,my6,⟨mineOwn mx6,by rw[tk];simp[plen,tklen],?_⟩,⟨mineOwn my6,by rw[tk];simp[qlen,tklen],?_⟩,?_,?_,?_,?_,Grew.mk (ext_of (h:=H0) (h':=H6) (by omega) fun j hj=>by rw[(below6 j hj).1,ht2,List.getElem?_append_left hj]),fun j hj=>⟨(below5 j hj).2,(below6 j hj).2⟩,rfl⟩
 ·intro z hz
  rw[tk,List.mem_append,List.mem_singleton]at hz
  rcases hz with hz|rfl
  ·exact hok z hz
  ·exact⟨hr,hmay,h4⟩
 ·intro i p z hp hz
  rw[tk]at hz
  by_cases hik:i<k
  ·rw[List.getElem?_append_left (by omega)]at hp hz
   exact tab6 p z (TS4.tab i p z hp hz)
  ·rw[List.getElem?_append_right (by omega)]at hp hz
   rw[plen]at hp
   rw[tklen]at hz
   have hi0:i-k=0:=by
    have:=(List.getElem?_eq_some_iff.mp hp).1
    simp at this
    omega
   rw[hi0]at hp hz
   simp at hp hz
   rw[← hp,← hz]
   exact tab6 _ _ T4
 ·intro i p z hp hz
  rw[tk]at hz
  by_cases hik:i<k
  ·rw[List.getElem?_append_left (by omega)]at hp hz
   exact rtab6 p z (RS4.tab i p z hp hz)
  ·rw[List.getElem?_append_right (by omega)]at hp hz
   rw[qlen]at hp
   rw[tklen]at hz
   have hi0:i-k=0:=by
    have:=(List.getElem?_eq_some_iff.mp hp).1
    simp at this
    omega
   rw[hi0]at hp hz
   simp at hp hz
   rw[← hp,← hz]
   exact rtab6 _ _ Q4
 ·rw[List.nodup_append]
  refine⟨hps,by simp,fun a ha b hb=>?_⟩
  rw[List.mem_singleton]at hb
  have:=(hpb a ha).2
  omega
 ·rw[List.nodup_append]
  refine⟨hqs,by simp,fun a ha b hb=>?_⟩
  rw[List.mem_singleton]at hb
  have:=(hqb a ha).2
  omega
 ·intro p hp
  rcases List.mem_append.mp hp with hp|hp
  ·have:=hpb p hp;omega
  ·rw[List.mem_singleton]at hp;omega
 ·intro p hp
  rcases List.mem_append.mp hp with hp|hp
  ·have:=hqb p hp;omega
  ·rw[List.mem_singleton]at hp;omega
end Go.Proofs
namespace Go.Proofs
open Go Go.Abs
set_option maxRecDepth 100000
set_option linter.unusedSimpArgs false
theorem refIn_call(G:Nat→Option AV) (n a b:Int)(h:AH) (K:AV→AH→Prop)(hk:K (.v (.bool (decide (a≤n)&&decide (n≤b)))) h):SCall Tryz.prog G 127 [.v (.int .i64 n), .v (.int .i64 a), .v (.int .i64 b)] h K:=by
 refine Tryz.c127 G _ _ _ h K fun hlow=>?_
 unfold Tryz.r127
 by_cases h1:a≤n
 ·rw[decide_eq_true h1,Bool.true_and]at hk
  simp (disch:=omega)only[go_sem]
  exact ret_same hk
 ·rw[decide_eq_false h1,Bool.false_and]at hk
  simp (disch:=omega)only[go_sem]
  exact ret_same hk
theorem keyOk_eq(s:List UInt8):(!(s == [])&&decide (s.length≤64))=keyOk s:=by
 unfold keyOk
 cases s with
 | nil=>rfl
 | cons a s=>
  have h1:decide (1≤(((a::s).length:Nat):Int))=true:=decide_eq_true (by rw[List.length_cons];omega)
  have h2:decide ((((a::s).length:Nat):Int)≤64)=decide ((a::s).length≤64):=by
   by_cases h:(a::s).length≤64
   ·rw[decide_eq_true h,decide_eq_true (by omega)]
   ·rw[decide_eq_false h,decide_eq_false (by omega)]
  rw[h1,h2]
  rfl
theorem refMay08_call(G:Nat→Option AV)(x:OpA)(h:AH) (K:AV→AH→Prop)(hkl:x.key.length≤4611686018427387904)(hvl:x.val.length≤4611686018427387904)(hk:K (.v (.bool x.ok)) h):SCall Tryz.prog G 80 [.agg x.cells] h K:=by
 refine Tryz.c80 G _ h K fun hlow=>?_
 unfold Tryz.r80
 have e0:(ByteArray.mk #[])=bs []:=rfl
 have fin:∀(b:Bool) t,b=x.ok→RetR h K (.v (.bool b)) (h++t):=fun b t hb=>by
  rw[hb];exact ret_tail hlow .v hk
 have fin0:∀(b:Bool),b=x.ok→RetR h K (.v (.bool b)) h:=fun b hb=>by
  rw[hb];exact ret_same hk
 by_cases h123:x.kind=1∨x.kind=2∨x.kind=3
 ·have hok:x.ok=(keyOk x.key&&(decide ((x.val.length:Int)≤8192)&&((decide (1≤x.stamp)&&decide (x.stamp≤1099511627776))&&((decide (0≤x.test)&&decide (x.test≤1099511627776))&&((decide (x.kind≠1)||x.test==0)&&x.most==0))))):=by
   unfold OpA.ok OpA.base
   rw[if_pos h123]
   ac_rfl
  have key:∀ n b,x.kind=n→b=true→Tryz.r80_j5 G h K h.length n b (h ++ [some (AO.cells 89 6 [x.cells] 0)]):=by
   rintro n b rfl rfl
   unfold Tryz.r80_j5
   simp (disch:=omega)only[go_sem,e0,bs_toList,Nat.reduceAdd]
   refine⟨Key_call G x.key _ _ hkl ?_⟩
   rw[keyOk_eq]
   cases hb1:keyOk x.key with
   | false=>
    simp (disch:=omega)only[go_sem,e0,bs_toList,Nat.reduceAdd]
    exact fin false _ (by rw[hok,hb1];rfl)
   | true=>
   rw[hb1,Bool.true_and]at hok
   by_cases hb2:(x.val.length:Int)≤8192
   rotate_left
   ·simp (disch:=omega)only[go_sem,e0,bs_toList,Nat.reduceAdd]
    exact fin false _ (by rw[hok,decide_eq_false hb2];rfl)
   rw[decide_eq_true hb2,Bool.true_and]at hok
   simp (disch:=omega)only[go_sem,e0,bs_toList,Nat.reduceAdd]
   refine⟨refIn_call G x.stamp 1 1099511627776 _ _ ?_⟩
   cases hb3:(decide (1≤x.stamp)&&decide (x.stamp≤1099511627776))with
   | false=>
    simp (disch:=omega)only[go_sem,e0,bs_toList,Nat.reduceAdd]
    exact fin false _ (by rw[hok,hb3];rfl)
   | true=>
   rw[hb3,Bool.true_and]at hok
   simp (disch:=omega)only[go_sem,e0,bs_toList,Nat.reduceAdd]
   refine⟨refIn_call G x.test 0 1099511627776 _ _ ?_⟩
   cases hb4:(decide (0≤x.test)&&decide (x.test≤1099511627776))with
   | false=>
    simp (disch:=omega)only[go_sem,e0,bs_toList,Nat.reduceAdd]
    exact fin false _ (by rw[hok,hb4];rfl)
   | true=>
   rw[hb4,Bool.true_and]at hok
   by_cases k1:x.kind=1
   ·rw[decide_eq_false (by simp[k1]),Bool.false_or]at hok
    have k1':(x.kind==1)=true:=by simpa using k1
    cases t0:x.test==0 with
    | true=>
     have t0':(x.test != 0)=false:=by simp at t0;simp[t0]
     rw[t0,Bool.true_and]at hok
     simp (disch:=omega)only[go_sem,e0,bs_toList,k1',t0',Bool.not_false,Nat.reduceAdd]
     exact fin _ _ hok.symm
    | false=>
     have t0':(x.test != 0)=true:=by simp at t0;simp[t0]
     rw[t0,Bool.false_and]at hok
     simp (disch:=omega)only[go_sem,e0,bs_toList,k1',t0',Bool.not_true,Nat.reduceAdd]
     exact fin false _ hok.symm
   ·rw[decide_eq_true k1,Bool.true_or,Bool.true_and]at hok
    have k1':(x.kind==1)=false:=by simpa using k1
    simp (disch:=omega)only[go_sem,e0,bs_toList,k1',Bool.not_false,Nat.reduceAdd]
    exact fin _ _ hok.symm
  rcases h123 with h1|h1|h1
  ·have c1:(x.kind==1)=true:=by simpa using h1
   simp (disch:=omega)only[go_sem,e0,bs_toList,c1,Nat.reduceAdd]
   exact key _ _ rfl rfl
  ·have c1:(x.kind==1)=false:=by simp[h1]
   have c2:(x.kind==2)=true:=by simpa using h1
   simp (disch:=omega)only[go_sem,e0,bs_toList,c1,c2,Nat.reduceAdd]
   exact key _ _ rfl rfl
  ·have c1:(x.kind==1)=false:=by simp[h1]
   have c2:(x.kind==2)=false:=by simp[h1]
   have c3:(x.kind==3)=true:=by simpa using h1
   simp (disch:=omega)only[go_sem,e0,bs_toList,c1,c2,c3,Nat.reduceAdd]
   exact key _ _ rfl rfl
 have c1:(x.kind==1)=false:=by simp;exact fun h=>h123 (.inl h)
 have c2:(x.kind==2)=false:=by simp;exact fun h=>h123 (.inr (.inl h))
 have c3:(x.kind==3)=false:=by simp;exact fun h=>h123 (.inr (.inr h))
 simp (disch:=omega)only[go_sem,e0,bs_toList,c1,c2,c3,Nat.reduceAdd]
 unfold Tryz.r80_j5
 by_cases h45:x.kind=4∨x.kind=5
 ·have hok:x.ok=(keyOk x.key&&((decide (0≤x.test)&&decide (x.test≤1099511627776))&&((x.val == [])&&((x.stamp==0)&&(x.most==0))))):=by
   unfold OpA.ok OpA.base
   rw[if_neg h123,if_pos h45]
   ac_rfl
  have key:∀ n b,x.kind=n→b=true→Tryz.r80_j69 K h G h.length n b (h ++ [some (AO.cells 89 6 [x.cells] 0)]):=by
   rintro n b rfl rfl
   unfold Tryz.r80_j69
   simp (disch:=omega)only[go_sem,e0,bs_toList,Nat.reduceAdd]
   refine⟨Key_call G x.key _ _ hkl ?_⟩
   rw[keyOk_eq]
   cases hb1:keyOk x.key with
   | false=>
    simp (disch:=omega)only[go_sem,e0,bs_toList,Nat.reduceAdd]
    exact fin false _ (by rw[hok,hb1];rfl)
   | true=>
   rw[hb1,Bool.true_and]at hok
   simp (disch:=omega)only[go_sem,e0,bs_toList,Nat.reduceAdd]
   refine⟨refIn_call G x.test 0 1099511627776 _ _ ?_⟩
   cases hb4:(decide (0≤x.test)&&decide (x.test≤1099511627776))with
   | false=>
    simp (disch:=omega)only[go_sem,e0,bs_toList,Nat.reduceAdd]
    exact fin false _ (by rw[hok,hb4];rfl)
   | true=>
   rw[hb4,Bool.true_and]at hok
   cases hv:x.val == []with
   | false=>
    simp (disch:=omega)only[go_sem,e0,bs_toList,hv,Nat.reduceAdd]
    exact fin false _ (by rw[hok,hv];rfl)
   | true=>
   rw[hv,Bool.true_and]at hok
   cases hs:x.stamp==0 with
   | false=>
    simp (disch:=omega)only[go_sem,e0,bs_toList,hv,hs,Nat.reduceAdd]
    exact fin false _ (by rw[hok,hs];rfl)
   | true=>
    rw[hs,Bool.true_and]at hok
    simp (disch:=omega)only[go_sem,e0,bs_toList,hv,hs,Nat.reduceAdd]
    exact fin _ _ hok.symm
  rcases h45 with h1|h1
  ·have c4:(x.kind==4)=true:=by simpa using h1
   simp (disch:=omega)only[go_sem,e0,bs_toList,c4,Nat.reduceAdd]
   exact key _ _ rfl rfl
  ·have c4:(x.kind==4)=false:=by simp[h1]
   have c5:(x.kind==5)=true:=by simpa using h1
   simp (disch:=omega)only[go_sem,e0,bs_toList,c4,c5,Nat.reduceAdd]
   exact key _ _ rfl rfl
 have c4:(x.kind==4)=false:=by simp;exact fun h=>h45 (.inl h)
 have c5:(x.kind==5)=false:=by simp;exact fun h=>h45 (.inr h)
 unfold Tryz.r80_j69
 by_cases h6:x.kind=6
 ·have c6:(x.kind==6)=true:=by simpa using h6
  have hok:x.ok=(decide ((x.key.length:Int)≤64)&&((decide (1≤x.most)&&decide (x.most≤100))&&((x.val == [])&&((x.stamp==0)&&(x.test==0))))):=by
   unfold OpA.ok OpA.base
   rw[if_neg h123,if_neg h45,if_pos h6]
   ac_rfl
  by_cases hb2:(x.key.length:Int)≤64
  rotate_left
  ·simp (disch:=omega)only[go_sem,e0,bs_toList,c4,c5,c6,Nat.reduceAdd]
   exact fin false _ (by rw[hok,decide_eq_false hb2];rfl)
  rw[decide_eq_true hb2,Bool.true_and]at hok
  simp (disch:=omega)only[go_sem,e0,bs_toList,c4,c5,c6,Nat.reduceAdd]
  refine⟨refIn_call G x.most 1 100 _ _ ?_⟩
  cases hb3:(decide (1≤x.most)&&decide (x.most≤100))with
  | false=>
   simp (disch:=omega)only[go_sem,e0,bs_toList,Nat.reduceAdd]
   exact fin false _ (by rw[hok,hb3];rfl)
  | true=>
  rw[hb3,Bool.true_and]at hok
  cases hv:x.val == []with
  | false=>
   simp (disch:=omega)only[go_sem,e0,bs_toList,hv,Nat.reduceAdd]
   exact fin false _ (by rw[hok,hv];rfl)
  | true=>
  rw[hv,Bool.true_and]at hok
  cases hs:x.stamp==0 with
  | false=>
   simp (disch:=omega)only[go_sem,e0,bs_toList,hv,hs,Nat.reduceAdd]
   exact fin false _ (by rw[hok,hs];rfl)
  | true=>
   rw[hs,Bool.true_and]at hok
   simp (disch:=omega)only[go_sem,e0,bs_toList,hv,hs,Nat.reduceAdd]
   exact fin _ _ hok.symm
 ·have c6:(x.kind==6)=false:=by simpa using h6
  simp (disch:=omega)only[go_sem,e0,bs_toList,c4,c5,c6,Nat.reduceAdd]
  exact fin false _ (by unfold OpA.ok;rw[if_neg h123,if_neg h45,if_neg h6])
end Go.Proofs
