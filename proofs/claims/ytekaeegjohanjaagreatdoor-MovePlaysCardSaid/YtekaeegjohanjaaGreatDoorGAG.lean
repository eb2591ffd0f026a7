import Derived.Test.YtekaeegjohanjaaGreatDoorGAF
import Derived.Test.YtekaeegjohanjaaGreatDoorGAA
import Derived.Test.YtekaeegjohanjaaGreatDoorGAD
import Derived.Test.YtekaeegjohanjaaGreatDoorGAE
set_option linter.all false
namespace Go.Proofs
open Go Go.Abs
set_option maxRecDepth 100000
set_option linter.unusedSimpArgs false
theorem LbAt.uniq{keys:List (List UInt8)} {cur:List UInt8} {k k':Nat} (a:LbAt keys cur k)(b:LbAt keys cur k'):k=k':=by
 rcases Nat.lt_trichotomy k k' with h|h|h
 ·have h1:=b.lo k h
  have:=b.le
  rw[a.hi k (Nat.le_refl _) (by omega)]at h1;cases h1
 ·exact h
 ·have h1:=a.lo k' h
  have:=a.le
  rw[b.hi k' (Nat.le_refl _) (by omega)]at h1;cases h1
def mvFrom(f g:List UInt8→Int)(keys:List (List UInt8)) (lo:Nat):Nat→List Int
 | 0=> []
 | k+1=>mvFrom f g keys lo k++if f (keys.getD (lo+k) [])≠g (keys.getD (lo+k) [])then [((lo+k:Nat):Int)]else []
theorem mvFrom_len(f g:List UInt8→Int)(keys:List (List UInt8)) (lo:Nat):∀ k,(mvFrom f g keys lo k).length≤k
 | 0=>by simp[mvFrom]
 | k+1=>by
  have:=mvFrom_len f g keys lo k
  simp only[mvFrom,List.length_append]
  split <;> simp <;> omega
theorem getD_cut{keys:List (List UInt8)} {lo m k:Nat} (hk:k<m):((keys.drop lo).take m).getD k []=keys.getD (lo+k) []:=by
 rw[List.getD_eq_getElem?_getD,List.getD_eq_getElem?_getD,List.getElem?_take_of_lt hk,List.getElem?_drop]
theorem movedTo_cut(f g:List UInt8→Int)(keys:List (List UInt8)) (lo m:Nat):∀ k,k≤m→(movedTo f g ((keys.drop lo).take m) k).map (fun x=>(lo:Int)+x)=mvFrom f g keys lo k
 | 0,_=>rfl
 | k+1,hk=>by
  simp only[movedTo,mvFrom,List.map_append,movedTo_cut f g keys lo m k (by omega),getD_cut (keys:=keys) (lo:=lo) (show k<m by omega)]
  congr 1
  split
  ·simp
  ·rfl
def nextM(keys:List (List UInt8)) (most:Int) (f:Nat):Nat:=min most.toNat (keys.length-f)
theorem lowNext(n:Nat)(s:ByteArray)(d:Bool) (e:Int):Low n (.tup [.v (.string s), .v (.slice none 0 0), .v (.bool d), .v (.int .i64 e)]):= .tup (by intro v hv;simp at hv;rcases hv with rfl|rfl|rfl|rfl <;> exact .v)
theorem next_loop(G:Nat→Option AV) (a1 v32:AV)(keys:List (List UInt8)) (f m:Nat) (L:List Int)(h H:AH) (K:AV→AH→Prop)(ha:Sees H 1 a1 (keys.map srow))(hs:Ints H v32 L)(hL:L.length≤m)(hLm:∀ x∈L,0≤x∧x<m)(hfm:f+m≤keys.length)(hl:keys.length≤8796093022207)
  (hk:∀ v h',AccR 3 1 H v h' ((L.map (fun x=>(f:Int)+x)).map irow)→K (.tup [.v (.string (bs (keys.getD (f+m) []))),v, .v (.bool (!decide (f+m<keys.length))), .v (.int .i64 0)]) h'):Tryz.r69_l12_35 K h a1 (f:Nat) (m:Nat) H v32 L.length (.v (.slice none 0 0)) 0:=by
 unfold Tryz.r69_l12_35
 have e0:(ByteArray.mk #[])=bs []:=rfl
 refine⟨fun mm vs h'=>∃(k:Nat) (v:AV),k≤L.length∧mm=L.length-k∧AccR 3 1 H v h' (((L.take k).map (fun x=>(f:Int)+x)).map irow)∧vs = [v, .v (.int .i64 k)],L.length,⟨0,_,by omega,rfl,(by have:=AccR.nil (e:=3) (n:=1) (h:=H) (t:= []);rw[List.append_nil]at this;exact this),rfl⟩,?_⟩
 rintro mm h' hl1 hlow2 v n ⟨k,v',hk1',rfl,acc,hvs⟩
 simp only[List.cons.injEq,AV.v.injEq,Value.int.injEq,true_and,and_true]at hvs
 obtain⟨rfl,rfl⟩:=hvs
 have up:∀ {n:Nat} {a:AV} {rows:List (List AV)},Sees H n a rows→Sees h' n a rows:=by
  obtain⟨tl,rfl⟩:=acc.tail
  exact fun s=>s.app tl
 have ewm:IntKind.i64.wrap ((f:Int)+(m:Int))=((f+m:Nat):Int):=by rw[wrap64_of (by omega) (by omega)];omega
 by_cases hkk:k<L.length
 ·obtain⟨x,hx⟩:∃ x,L[k]? = some x:=⟨_,List.getElem?_eq_getElem hkk⟩
  have hxm:=hLm x (List.mem_of_getElem? hx)
  obtain⟨q,q1,q2,_⟩:=(up hs).iaAll (P:=Tryz.prog) (ty:=31) (k:= .i64) (i:=k) (r:=irow x) Tryz.und31 Tryz.siz3 (by omega) (by simp[hx])
  have q1:=q1 []
  have q2:=q2 []
  rw[List.append_nil]at q1 q2
  have ew:IntKind.i64.wrap ((k:Int)+1)=((k+1:Nat):Int):=by rw[wrap64_of (by omega) (by omega)];omega
  have ex:IntKind.i64.wrap ((f:Int)+x)=(f:Int)+x:=wrap64_of (by omega) (by omega)
  simp (disch:=omega)only[go_sem,q1,q2,ex,ew]
  refine acc.push rfl Tryz.und31 Tryz.azero3 Tryz.byt3 (by exact Tryz.plainSrc31) rfl ?_ ?_ ?_
  ·simp;omega
  ·simp;omega
  intro x' h'' acc3 hle3 _
  rw[ew]
  refine next_keep (L.length-(k+1)) (by omega) (by omega) ⟨k+1,x',by omega,rfl,?_,rfl⟩
  rw[List.take_add_one,hx]
  simpa using acc3
 ·have hke:k=L.length:=by omega
  subst hke
  rw[List.take_length]at acc
  have lc:aLen Tryz.prog h' 142 a1=some (.v (.int .i64 keys.length)):=by
   have:=(up ha).len (P:=Tryz.prog) (t:=142) Tryz.und142
   rw[List.length_map]at this
   exact this
  have hk:=hk _ _ acc
  by_cases hb:f+m<keys.length
  ·obtain⟨s,hs⟩:∃ s,keys[f+m]? = some s:=⟨_,List.getElem?_eq_getElem hb⟩
   have hsg:keys.getD (f+m) []=s:=by rw[List.getD_eq_getElem?_getD,hs];rfl
   obtain⟨q,q1,q2⟩:=strAt (up ha) hs
   rw[hsg,decide_eq_true hb]at hk
   simp (disch:=omega)only[go_sem,ewm,lc,q1,q2]
   exact ret_keep hk
  ·have hsg:keys.getD (f+m) [] = []:=by rw[List.getD_eq_getElem?_getD,List.getElem?_eq_none (by omega)];rfl
   rw[hsg,decide_eq_false hb]at hk
   simp (disch:=omega)only[go_sem,ewm,lc,e0]
   exact ret_keep hk
theorem NextG_call(G:Nat→Option AV)(hG:GTab G)(c:Chg) (W1 W2 a1:AV)(keys:List (List UInt8)) (most:Int)(h:AH) (K:AV→AH→Prop)(k1:Wt h W1 c.was.wts)(k2:Wt h W2 c.will.wts)(l1:c.was.wts.length≤17592186044415)(l2:c.will.wts.length≤17592186044415)(lcu:c.cur.length≤4611686018427387904)(ha:Sees h 1 a1 (keys.map srow))(hl:keys.length≤8796093022207)(hkl:∀ k∈keys,k.length≤4611686018427387904)
  (hm1 : -9223372036854775808≤most)(hm2:most≤9223372036854775807)
  (hk0:c.ok=false→K (.tup [.v (.string (bs [])), .v (.slice none 0 0), .v (.bool false), .v (.int .i64 70)]) h)
  (hk1:c.ok=true→(most<1∨riseB keys=false)→K (.tup [.v (.string (bs [])), .v (.slice none 0 0), .v (.bool false), .v (.int .i64 1)]) h)
  (hk2:c.ok=true→1≤most→riseB keys=true→c.fin=true→K (.tup [.v (.string (bs [])), .v (.slice none 0 0), .v (.bool true), .v (.int .i64 0)]) h)
  (hk3:c.ok=true→1≤most→riseB keys=true→c.fin=false→∀ f v h',LbAt keys c.cur f→AccR 3 1 h v h' ((mvFrom (ofK Lib.itoa c.was.wts) (ofK Lib.itoa c.will.wts) keys f (nextM keys most f)).map irow) →
   K (.tup [.v (.string (bs (keys.getD (f+nextM keys most f) []))),v, .v (.bool (!decide (f+nextM keys most f<keys.length))), .v (.int .i64 0)]) h'):SCall Tryz.prog G 69 [.agg (c.cells W1 W2),a1, .v (.int .i64 most)] h K:=by
 refine Tryz.c69 G _ _ _ h K fun hlow=>?_
 unfold Tryz.r69
 have n1:=k1.one
 have n2:=k2.one
 have c1:=k1.cells
 have c2:=k2.cells
 have e0:(ByteArray.mk #[])=bs []:=rfl
 have lc:∀ t,aLen Tryz.prog (h++t) 142 a1=some (.v (.int .i64 keys.length)):=fun t=>by
  have:=(ha.app t).len (P:=Tryz.prog) (t:=142) Tryz.und142
  rw[List.length_map]at this
  exact this
 simp (disch:=omega)only[go_sem,n1,n2,c1,c2,Nat.reduceAdd]
 refine⟨chgCheck_call G c W1 W2 _ _ (k1.app _) (k2.app _) (by omega) (by omega) (by omega) ?_⟩
 cases ho:c.ok with
 | false=>
  simp (disch:=omega)only[go_sem,if_false,Bool.false_eq_true,e0]
  exact ret_tail hlow (lowNext _ _ _ _) (hk0 ho)
 | true=>
 by_cases hm:most<1
 ·simp (disch:=omega)only[go_sem,if_true,e0]
  exact ret_tail hlow (lowNext _ _ _ _) (hk1 ho (.inl hm))
 simp (disch:=omega)only[go_sem,if_true,e0]
 refine⟨rise_call G a1 keys _ _ (ha.app _) (by omega) hkl ?_⟩
 cases hr:riseB keys with
 | false=>
  simp (disch:=omega)only[go_sem]
  exact ret_tail hlow (lowNext _ _ _ _) (hk1 ho (.inr hr))
 | true=>
 cases hf:c.fin with
 | true=>
  simp (disch:=omega)only[go_sem,hf]
  exact ret_tail hlow (lowNext _ _ _ _) (hk2 ho (by omega) hr hf)
 | false=>
 simp (disch:=omega)only[go_sem,hf]
 refine⟨bsearch_call G a1 keys c.cur _ _ (ha.app _) (by omega) hr fun f b lb=>?_⟩
 have hfl:=lb.le
 have ew:IntKind.i64.wrap ((keys.length:Int)-(f:Int))=((keys.length-f:Nat):Int):=by rw[wrap64_of (by omega) (by omega)];omega
 have emin:aMinMax false [some (.v (.int .i64 most)),some (.v (.int .i64 ((keys.length-f:Nat):Int)))]=some (.v (.int .i64 (nextM keys most f:Nat))):=by
  have:(nextM keys most f:Int)=if((keys.length-f:Nat):Int)<most then((keys.length-f:Nat):Int)else most:=by unfold nextM;omega
  rw[this]
  rfl
 have hml:nextM keys most f≤keys.length-f:=by unfold nextM;omega
 have ewm:IntKind.i64.wrap ((f:Int)+(nextM keys most f:Nat))=((f+nextM keys most f:Nat):Int):=by rw[wrap64_of (by omega) (by omega)];omega
 obtain⟨a',sl1,sl2⟩:=(ha.app [some (AO.cells 49 6 [c.cells W1 W2] 0)]).cut (P:=Tryz.prog) (ty:=142) (k:= .i64) (k':= .i64) (lo:=f) (hi:=f+nextM keys most f) Tryz.und142 Tryz.siz9 (by omega) (by simp;omega)
 have sl1:=sl1 []
 rw[List.append_nil]at sl1
 rw[Nat.add_sub_cancel_left,← List.map_drop,← List.map_take]at sl2
 simp (disch:=omega)only[go_sem,lc,ew,emin,ewm,sl1,n1,n2,c1,c2]
 obtain⟨o1,o2,_⟩:=chgOk_out ho
 have r1:=(layVer o1).2.2
 have r2:=(layVer o2).2.2
 have hlen:((keys.drop f).take (nextM keys most f)).length=nextM keys most f:=by simp;omega
 refine⟨Moved_call G hG W1 W2 a' c.was.wts c.will.wts ((keys.drop f).take (nextM keys most f)) _ _ (k1.app _).ints (k2.app _).ints sl2 (by omega) (by omega) (by omega) (fun k hk=>hkl k (List.mem_of_mem_drop (List.mem_of_mem_take hk))) (fun h=>by rw[r1,r2]at h;cases h) fun _ v h' acc=>?_⟩
 have lv:aLen Tryz.prog h' 31 v=some (.v (.int .i64 (movedI (ofK Lib.itoa c.was.wts) (ofK Lib.itoa c.will.wts) ((keys.drop f).take (nextM keys most f))).length)):=by
  have:=acc.len (P:=Tryz.prog) (t:=31) Tryz.und31
  rw[List.length_map]at this
  exact this
 simp (disch:=omega)only[go_sem,lv]
 have ha':Sees h' 1 a1 (keys.map srow):=by obtain⟨t,rfl⟩:=acc.tail;exact(ha.app _).app t
 have hml2:=movedTo_len (ofK Lib.itoa c.was.wts) (ofK Lib.itoa c.will.wts) ((keys.drop f).take (nextM keys most f)) ((keys.drop f).take (nextM keys most f)).length
 refine next_loop G a1 v keys f (nextM keys most f) _ h h' K ha' acc.sees (by unfold movedI;omega) (fun x hx=>?_) (by omega) hl fun v2 h2 acc2=>?_
 ·obtain⟨i,rfl,hi,_⟩:=mem_movedTo.mp hx
  omega
 ·have e1:(movedI (ofK Lib.itoa c.was.wts) (ofK Lib.itoa c.will.wts) ((keys.drop f).take (nextM keys most f))).map (fun x=>(f:Int)+x)=mvFrom (ofK Lib.itoa c.was.wts) (ofK Lib.itoa c.will.wts) keys f (nextM keys most f):=by
   unfold movedI
   rw[hlen]
   exact movedTo_cut _ _ keys f _ _ (Nat.le_refl _)
  rw[e1]at acc2
  obtain⟨t,et⟩:=acc.tail
  rw[et,List.append_assoc]at acc2
  exact hk3 ho (by omega) hr hf f v2 h2 lb acc2.base
theorem Key_call(G:Nat→Option AV) (s:List UInt8)(h:AH) (K:AV→AH→Prop)(hsl:s.length≤4611686018427387904)(hk:K (.v (.bool (!(s == [])&&decide (s.length≤64)))) h):SCall Tryz.prog G 124 [.v (.string (bs s))] h K:=by
 refine Tryz.c124 G _ h K fun hlow=>?_
 unfold Tryz.r124
 have e0:(ByteArray.mk #[])=bs []:=rfl
 by_cases h1:s = []
 ·subst h1
  simp (disch:=omega)only[go_sem,e0,bs_toList,beq_self_eq_true]
  exact ret_same hk
 ·have h1':(s == [])=false:=by simp[h1]
  have e:decide ((s.length:Int)≤64)=decide (s.length≤64):=by by_cases h:s.length≤64 <;> simp[h] <;> omega
  rw[h1',Bool.not_false,Bool.true_and,← e]at hk
  simp (disch:=omega)only[go_sem,e0,bs_toList,h1']
  exact ret_same hk
theorem seesLen{P:Program} {t e:TypeId} {n:Nat} {h:AH} {a:AV} {rows:List (List AV)} (s:Sees h n a rows)(hu:und P t = .slice e)(H:AH):aLen P H t a=some (.v (.int .i64 rows.length)):=by
 obtain⟨_,⟨rfl,rfl⟩|⟨f,nn,rfl⟩|⟨id,gen,off,cap,e',rs,rfl,_⟩⟩:=s
 ·rw[aLen_nil,hu];rfl
 ·rw[aLen_lst,hu];rfl
 ·rw[aLen_sl,hu];rfl
theorem refNext_loop(G:Nat→Option AV)(c:Chg) (W1 W2 a1:AV)(keys:List (List UInt8)) (most:Int) (f i0:Nat)(h H:AH) (K:AV→AH→Prop)(k1:∀ h,Wt h W1 c.was.wts)(k2:∀ h,Wt h W2 c.will.wts)(l1:c.was.wts.length≤17592186044415)(l2:c.will.wts.length≤17592186044415)(ha:Sees H 1 a1 (keys.map srow))(hl:keys.length≤8796093022207)(hkl:∀ k∈keys,k.length≤4611686018427387904)
  (hm1:1≤most)(hm2:most≤9223372036854775807)(ho:c.ok=true)(g0:H[i0]? = some (some (.cells 68 6 [c.cells W1 W2] 0)))(hHl:h.length≤H.length)
  (hlb:c.fin=false→LbAt keys c.cur f)
  (hk2:c.fin=true→∀ v h',AccR 3 1 H v h' ([]:List (List AV))→K (.tup [.v (.string (bs [])),v, .v (.bool true), .v (.int .i64 0)]) h')
  (hk3:c.fin=false→∀ v h',AccR 3 1 H v h' ((mvFrom (ofK Lib.itoa c.was.wts) (ofK Lib.itoa c.will.wts) keys f (nextM keys most f)).map irow) →
   K (.tup [.v (.string (bs (keys.getD (f+nextM keys most f) []))),v, .v (.bool (!decide (f+nextM keys most f<keys.length))), .v (.int .i64 0)]) h'):Tryz.r72_l13_48 K h G a1 (.v (.int .i64 most)) i0 H (.v (.slice none 0 0)) 0 0:=by
 unfold Tryz.r72_l13_48
 have n1:=(k1 h).one
 have n2:=(k2 h).one
 have c1:=(k1 h).cells
 have c2:=(k2 h).cells
 have e0:(ByteArray.mk #[])=bs []:=rfl
 have lc:∀ h,aLen Tryz.prog h 142 a1=some (.v (.int .i64 keys.length)):=fun h=>by
  have:=seesLen ha (P:=Tryz.prog) (t:=142) Tryz.und142 h
  rw[List.length_map]at this
  exact this
 have nilAcc:AccR 3 1 H (.v (.slice none 0 0)) H ([]:List (List AV)):=by have:=AccR.nil (e:=3) (n:=1) (h:=H) (t:= []);rw[List.append_nil]at this;exact this
 obtain⟨o1,o2,_⟩:=chgOk_out ho
 have r1:=(layVer o1).2.2
 have r2:=(layVer o2).2.2
 refine⟨fun mm vs h'=>∃(i:Nat) (v:AV),i≤keys.length∧mm=keys.length-i∧(c.fin=true→i=0)∧((i-f:Nat):Int)≤most∧AccR 3 1 H v h' ((mvFrom (ofK Lib.itoa c.was.wts) (ofK Lib.itoa c.will.wts) keys f (i-f)).map irow)∧vs = [v, .v (.int .i64 (i-f:Nat)), .v (.int .i64 i)],keys.length,⟨0,_,by omega,rfl,fun _=>rfl,by omega,(by rw[Nat.zero_sub];exact nilAcc),by rw[Nat.zero_sub];rfl⟩,?_⟩
 rintro mm h' hl1 hlow2 v n n' ⟨i,v',hi,rfl,hfin,him,acc,hvs⟩
 simp only[List.cons.injEq,AV.v.injEq,Value.int.injEq,true_and,and_true]at hvs
 obtain⟨rfl,rfl,rfl⟩:=hvs
 have g1:h'[i0]? = some (some (.cells 68 6 [c.cells W1 W2] 0)):=by
  obtain⟨tl,rfl⟩:=acc.tail
  rw[List.getElem?_append_left (List.getElem?_eq_some_iff.mp g0).1]
  exact g0
 cases hf:c.fin with
 | true=>
  obtain rfl:=hfin hf
  rw[Nat.zero_sub]at acc
  have hk:=hk2 hf v h' acc
  by_cases hkk:0<keys.length
  ·simp (disch:=omega)only[go_sem,lc,g1,hf,e0]
   exact ret_keep hk
  ·simp (disch:=omega)only[go_sem,lc,g1,hf,e0]
   exact ret_keep hk
 | false=>
 have lb:=hlb hf
 have hfl:=lb.le
 by_cases hkk:i<keys.length
 rotate_left
 ·have hil:i=keys.length:=by omega
  subst hil
  have hnm:nextM keys most f=keys.length-f:=by unfold nextM;omega
  have hk:=hk3 hf v h' (by rw[hnm];exact acc)
  have hsg:keys.getD (f+nextM keys most f) [] = []:=by rw[List.getD_eq_getElem?_getD,List.getElem?_eq_none (by omega)];rfl
  rw[hsg,decide_eq_false (by omega)]at hk
  simp (disch:=omega)only[go_sem,lc,g1,hf,e0]
  exact ret_keep hk
 obtain⟨s,hs⟩:∃ s,keys[i]? = some s:=⟨_,List.getElem?_eq_getElem hkk⟩
 have hsg:keys.getD i []=s:=by rw[List.getD_eq_getElem?_getD,hs];rfl
 have hsl:=hkl s (List.mem_of_getElem? hs)
 obtain⟨q,q1,q2⟩:=strAt (show Sees h' 1 a1 (keys.map srow) from by obtain⟨tl,rfl⟩:=acc.tail;exact ha.app tl) hs
 have ew:IntKind.i64.wrap ((i:Int)+1)=((i+1:Nat):Int):=by rw[wrap64_of (by omega) (by omega)];omega
 by_cases hif:i<f
 ·have hb:=lb.lo i hif
  rw[hsg]at hb
  simp (disch:=omega)only[go_sem,lc,g1,hf,e0,q1,q2,bs_toList,hb,ew]
  have z0:i-f=0:=by omega
  have z1:i+1-f=0:=by omega
  rw[z0]at acc
  refine next_keep (keys.length-(i+1)) (by omega) hl1 ⟨i+1,v,by omega,rfl,(fun h=>by cases h),by omega,(by rw[z1];exact acc),by rw[z0,z1]⟩
 have hb:=lb.hi i (by omega) hkk
 rw[hsg]at hb
 by_cases him2:((i-f:Nat):Int)=most
 ·have hnm:nextM keys most f=i-f:=by unfold nextM;omega
  have hk:=hk3 hf v h' (by rw[hnm];exact acc)
  have hfi:f+nextM keys most f=i:=by omega
  rw[hfi,hsg,decide_eq_true hkk]at hk
  simp (disch:=omega)only[go_sem,lc,g1,hf,e0,q1,q2,bs_toList,hb,ew,him2]
  exact ret_keep hk
 have ew2:IntKind.i64.wrap (((i-f:Nat):Int)+1)=((i+1-f:Nat):Int):=by rw[wrap64_of (by omega) (by omega)];omega
 have hml:=mvFrom_len (ofK Lib.itoa c.was.wts) (ofK Lib.itoa c.will.wts) keys f (i-f)
 simp (disch:=omega)only[go_sem,lc,g1,hf,e0,q1,q2,bs_toList,hb,ew,n1,n2,c1,c2]
 refine⟨refOf_call G W1 c.was.wts s _ _ (k1 _).ints (by omega) hsl ?_⟩
 simp (disch:=omega)only[go_sem,r1,if_true,g1,q1,q2,n1,n2,c1,c2]
 refine⟨refOf_call G W2 c.will.wts s _ _ (k2 _).ints (by omega) hsl ?_⟩
 have es:i+1-f=(i-f)+1:=by omega
 have ei:f+(i-f)=i:=by omega
 by_cases hne:ofK Lib.itoa c.was.wts s=ofK Lib.itoa c.will.wts s
 ·simp (disch:=omega)only[go_sem,r2,if_true,hne,ew,ew2]
  refine next_keep (keys.length-(i+1)) (by omega) hl1 ⟨i+1,v,by omega,rfl,(fun h=>by cases h),by omega,?_,rfl⟩
  rw[es]
  simp only[mvFrom,ei,hsg,hne,ne_eq,not_true_eq_false,if_false,List.append_nil]
  exact acc
 ·simp (disch:=omega)only[go_sem,r2,if_true,hne,ew,ew2]
  refine acc.push rfl Tryz.und31 Tryz.azero3 Tryz.byt3 (by exact Tryz.plainSrc31) rfl ?_ ?_ ?_
  ·simp;omega
  ·simp;omega
  intro x' h'' acc3 hle3 _
  rw[ew2,ew]
  refine next_keep (keys.length-(i+1)) (by omega) (by omega) ⟨i+1,x',by omega,rfl,(fun h=>by cases h),by omega,?_,rfl⟩
  rw[es]
  simp only[mvFrom,ei,hsg,hne,ne_eq,not_false_eq_true,if_true,List.map_append,List.map_cons,List.map_nil]
  exact acc3
theorem refNextG_call(G:Nat→Option AV)(c:Chg) (W1 W2 a1:AV)(keys:List (List UInt8)) (most:Int) (f:Nat)(h:AH) (K:AV→AH→Prop)(k1:∀ h,Wt h W1 c.was.wts)(k2:∀ h,Wt h W2 c.will.wts)(l1:c.was.wts.length≤17592186044415)(l2:c.will.wts.length≤17592186044415)(lcu:c.cur.length≤4611686018427387904)(ha:Sees h 1 a1 (keys.map srow))(hl:keys.length≤8796093022207)(hkl:∀ k∈keys,k.length≤4611686018427387904)
  (hm2:most≤9223372036854775807)
  (hlb:c.ok=true→1≤most→riseB keys=true→c.fin=false→LbAt keys c.cur f)
  (hk0:c.ok=false→K (.tup [.v (.string (bs [])), .v (.slice none 0 0), .v (.bool false), .v (.int .i64 70)]) h)
  (hk1:c.ok=true→(most<1∨riseB keys=false)→K (.tup [.v (.string (bs [])), .v (.slice none 0 0), .v (.bool false), .v (.int .i64 1)]) h)
  (hk2:c.ok=true→1≤most→riseB keys=true→c.fin=true→∀ v h',AccR 3 1 h v h' ([]:List (List AV))→K (.tup [.v (.string (bs [])),v, .v (.bool true), .v (.int .i64 0)]) h')
  (hk3:c.ok=true→1≤most→riseB keys=true→c.fin=false→∀ v h',AccR 3 1 h v h' ((mvFrom (ofK Lib.itoa c.was.wts) (ofK Lib.itoa c.will.wts) keys f (nextM keys most f)).map irow) →
   K (.tup [.v (.string (bs (keys.getD (f+nextM keys most f) []))),v, .v (.bool (!decide (f+nextM keys most f<keys.length))), .v (.int .i64 0)]) h'):SCall Tryz.prog G 72 [.agg (c.cells W1 W2),a1, .v (.int .i64 most)] h K:=by
 refine Tryz.c72 G _ _ _ h K fun hlow=>?_
 unfold Tryz.r72
 have n1:=(k1 h).one
 have n2:=(k2 h).one
 have c1:=(k1 h).cells
 have c2:=(k2 h).cells
 have e0:(ByteArray.mk #[])=bs []:=rfl
 have lc:∀ h,aLen Tryz.prog h 142 a1=some (.v (.int .i64 keys.length)):=fun h=>by
  have:=seesLen ha (P:=Tryz.prog) (t:=142) Tryz.und142 h
  rw[List.length_map]at this
  exact this
 simp (disch:=omega)only[go_sem,n1,n2,c1,c2,Nat.reduceAdd]
 refine⟨refChgMay_call G c W1 W2 _ _ (k1 _) (k2 _) (by omega) (by omega) (by omega) ?_⟩
 cases ho:c.ok with
 | false=>
  simp (disch:=omega)only[go_sem,e0]
  exact ret_tail hlow (lowNext _ _ _ _) (hk0 ho)
 | true=>
 by_cases hm:most<1
 ·simp (disch:=omega)only[go_sem,e0]
  exact ret_tail hlow (lowNext _ _ _ _) (hk1 ho (.inl hm))
 simp (disch:=omega)only[go_sem,e0]
 generalize hH:h ++ [some (AO.cells 68 6 [c.cells W1 W2] 0)]=H
 have g0:H[h.length]? = some (some (.cells 68 6 [c.cells W1 W2] 0)):=by rw[← hH];simp
 have haH:Sees H 1 a1 (keys.map srow):=by rw[← hH];exact ha.app _
 unfold Tryz.r72_l6_7
 refine⟨fun m vs h'=>∃ k:Nat,k≤keys.length∧m=keys.length-k∧h'=H∧(∀ j,j<k→goodAt keys j=true)∧vs = [.v (.int .i64 k)],keys.length,⟨0,by omega,rfl,rfl,by simp,rfl⟩,?_⟩
 rintro m h' hl1 hlow2 n ⟨k,hkk1,rfl,rfl,hgood,hvs⟩
 simp only[List.cons.injEq,AV.v.injEq,Value.int.injEq,true_and,and_true]at hvs
 obtain rfl:=hvs
 by_cases hkk:k<keys.length
 rotate_left
 ·have hr:riseB keys=true:=riseB_iff.mpr fun j hj=>hgood j (by omega)
  simp (disch:=omega)only[go_sem,lc]
  refine refNext_loop G c W1 W2 a1 keys most f h.length h h' K k1 k2 l1 l2 haH hl hkl (by omega) hm2 ho g0 (by rw[← hH];simp) (fun hf=>hlb ho (by omega) hr hf) (fun hf v h2 acc=>?_) (fun hf v h2 acc=>?_)
  ·rw[← hH]at acc
   exact hk2 ho (by omega) hr hf v h2 acc.base
  ·rw[← hH]at acc
   exact hk3 ho (by omega) hr hf v h2 acc.base
 obtain⟨s,hs⟩:∃ s,keys[k]? = some s:=⟨_,List.getElem?_eq_getElem hkk⟩
 have hsg:keys.getD k []=s:=by rw[List.getD_eq_getElem?_getD,hs];rfl
 have hsl:=hkl s (List.mem_of_getElem? hs)
 obtain⟨q,q1,q2⟩:=strAt haH hs
 have bad:goodAt keys k=false→RetR h K (.tup [.v (.string (bs [])), .v (.slice none 0 0), .v (.bool false), .v (.int .i64 1)]) h':=fun hg=>by
  have hr:riseB keys=false:=by
   cases hr:riseB keys with
   | false=>rfl
   | true=>rw[riseB_iff.mp hr k hkk]at hg;cases hg
  rw[← hH]
  exact ret_tail hlow (lowNext _ _ _ _) (hk1 ho (.inr hr))
 have ew:IntKind.i64.wrap ((k:Int)+1)=((k+1:Nat):Int):=by rw[wrap64_of (by omega) (by omega)];omega
 simp (disch:=omega)only[go_sem,lc,q1,q2,e0]
 refine⟨Key_call G s _ _ hsl ?_⟩
 have hgk:goodAt keys k=((!(s == [])&&decide (s.length≤64))&&(decide (k=0)||Op.bytesLess (keys.getD (k-1) []) s)):=by unfold goodAt;rw[hsg]
 cases hkey:(!(s == [])&&decide (s.length≤64))with
 | false=>
  rw[hkey,Bool.false_and]at hgk
  simp (disch:=omega)only[go_sem,lc,q1,q2,e0]
  exact bad hgk
 | true=>
 rw[hkey,Bool.true_and]at hgk
 by_cases h3:k=0
 ·subst h3
  simp (disch:=omega)only[go_sem,lc,q1,q2,e0,bs_toList,ew]
  refine next_keep (keys.length-1) (by omega) (Nat.le_refl _) ⟨1,by omega,rfl,rfl,?_,rfl⟩
  intro j hj
  have:j=0:=by omega
  subst this
  rw[hgk];rfl
 obtain⟨u,hu⟩:∃ u,keys[k-1]? = some u:=⟨_,List.getElem?_eq_getElem (by omega)⟩
 have hug:keys.getD (k-1) []=u:=by rw[List.getD_eq_getElem?_getD,hu];rfl
 obtain⟨p,p1,p2⟩:=strAt haH hu
 have ek:((k-1:Nat):Int)=(k:Int)-1:=by omega
 have e3:IntKind.i64.wrap ((k:Int)-1)=(k:Int)-1:=wrap64_of (by omega) (by omega)
 rw[ek]at p1
 rw[hug,decide_eq_false h3,Bool.false_or]at hgk
 cases hb:Op.bytesLess u s with
 | false=>
  simp (disch:=omega)only[go_sem,lc,q1,q2,e0,bs_toList,ew,e3,p1,p2,hb]
  exact bad (by rw[hgk,hb])
 | true=>
  simp (disch:=omega)only[go_sem,lc,q1,q2,e0,bs_toList,ew,e3,p1,p2,hb]
  refine next_keep (keys.length-(k+1)) (by omega) (Nat.le_refl _) ⟨k+1,by omega,rfl,rfl,?_,rfl⟩
  intro j hj
  by_cases hjk:j=k
  ·subst hjk;rw[hgk,hb]
  ·exact hgood j (by omega)
end Go.Proofs
namespace Go.Proofs
open Go Go.Abs
set_option maxRecDepth 100000
set_option linter.unusedSimpArgs false
theorem all1_call(G:Nat→Option AV)(a b:RowA)(h:AH) (K:AV→AH→Prop)(hk:∀ n t,(decide (n<0)=bl a.key b.key)→K (.v (.int .i64 n)) (h++t)):SCall Tryz.prog G 65 [.agg a.cells, .agg b.cells] h K:=by
 refine Tryz.c65 G _ _ h K fun hlow=>?_
 unfold Tryz.r65
 simp (disch:=omega)only[go_sem,Nat.reduceAdd]
 refine⟨Compare_call G _ _ _ _ ?_⟩
 simp (disch:=omega)only[go_sem,Nat.reduceAdd]
 refine ret_keep (hk _ _ ?_)
 rcases bl_total a.key b.key with h1|h1|h1
 ·rw[if_pos h1,h1];rfl
 ·rw[h1,bl_irrefl];simp
 ·rw[bl_asymm h1]
  have:a.key≠b.key:=fun e=>by rw[e,bl_irrefl]at h1;cases h1
  simp[this]
abbrev RowsIn(h:AH) (id g:Nat) (l:List RowA):Prop:=h[id]? = some (some (.cells 131 3 (l.map RowA.cells) g))
abbrev dat(id g:Nat) (n:Nat):AV:= .sl id g 0 n none
theorem RowsIn.ia{h:AH} {id g:Nat} {l:List RowA} (o:RowsIn h id g l) {k:Nat} (hk:k<l.length) {n:Nat} (hn:n=l.length):aIA Tryz.prog h 47 (dat id g n) (.v (.int .i64 (k:Int)))=some (.ptr id g k 0):=by
 subst hn
 unfold aIA
 rw[Tryz.und47]
 simp only[Tryz.siz131,o,chk]
 rw[if_pos ⟨trivial,trivial,by omega,by omega⟩]
 simp
theorem RowsIn.ld{h:AH} {id g:Nat} {l:List RowA} (o:RowsIn h id g l) {k:Nat} {r:RowA} (hr:l[k]? = some r):Go.Abs.rowAt h (.ptr id g k 0)=some (r.cells,0):=by
 unfold Go.Abs.rowAt
 simp only[o,chk]
 simp[hr]
theorem RowsIn.st{h:AH} {id g:Nat} {l:List RowA} (o:RowsIn h id g l) {k:Nat} (hk:k<l.length) {r:RowA} {K:AV→AH→Prop} (hK:K (.tup []) (h.set id (some (.cells 131 3 ((l.set k r).map RowA.cells) g)))):storeC Tryz.prog h K 131 (.agg r.cells) id g k 0 h[id]?:=by
 obtain⟨x,hx⟩:∃ x,l[k]? = some x:=⟨_,List.getElem?_eq_getElem hk⟩
 have hx':(l.map RowA.cells)[k]? = some x.cells:=by simp[hx]
 rw[o]
 simp only[storeC,hx',okP]
 refine⟨⟨trivial,rfl,Tryz.siz131,Nat.le_refl 3⟩,?_⟩
 rw[List.map_set]at hK
 exact hK
theorem set_same{h:AH} {id:Nat} {o:Option AO} (ho:h[id]? = some o):h.set id o=h:=by
 refine List.ext_getElem? fun j=>?_
 by_cases hj:id=j
 ·subst hj
  rw[List.getElem?_set_self (List.getElem?_eq_some_iff.mp ho).1,ho]
 ·rw[List.getElem?_set_ne hj]
theorem swapRange_call(G:Nat→Option AV) (f:AV) (id g:Nat) (T A M B U:List RowA)(h:AH) (K:AV→AH→Prop)(o:RowsIn h id g (T++A++M++B++U))(hab:A.length=B.length)(hl:(T++A++M++B++U).length≤1000000000)
  {n i j k:Nat} (hn:n=(T++A++M++B++U).length) (hi:i=T.length) (hj:j=T.length+A.length+M.length) (hk':k=A.length)
  (hk:K (.tup []) (h.set id (some (.cells 131 3 ((T++B++M++A++U).map RowA.cells) g)))):SCall Tryz.prog G 180 [dat id g n, .v (.int .i64 i), .v (.int .i64 j), .v (.int .i64 k),f] h K:=by
 subst hi hj hk'
 refine Tryz.c180 G _ _ _ _ _ h K fun hlow=>?_
 unfold Tryz.r180
 unfold Tryz.r180_l1_0
 have il:=(List.getElem?_eq_some_iff.mp o).1
 simp only[List.length_append]at hl hn
 refine⟨fun m vs h'=>∃ q:Nat,q≤A.length∧m=A.length-q∧h'=h.set id (some (.cells 131 3 ((T++(B.take q++A.drop q)++M++(A.take q++B.drop q)++U).map RowA.cells) g))∧vs = [.v (.int .i64 q)],A.length,⟨0,by omega,rfl,?_,rfl⟩,?_⟩
 ·simp only[List.take_zero,List.drop_zero,List.nil_append]
  exact(set_same o).symm
 rintro m h' hl1 hlow2 n4 ⟨q,hq,rfl,rfl,hvs⟩
 simp only[List.cons.injEq,AV.v.injEq,Value.int.injEq,true_and,and_true]at hvs
 obtain rfl:=hvs
 by_cases hlt:q<A.length
 ·obtain⟨a,ha⟩:∃ a,A[q]? = some a:=⟨_,List.getElem?_eq_getElem hlt⟩
  obtain⟨b,hb⟩:∃ b,B[q]? = some b:=⟨_,List.getElem?_eq_getElem (by omega)⟩
  have hcl:(T++(B.take q++A.drop q)++M++(A.take q++B.drop q)++U).length=n:=by
   simp only[List.length_append,List.length_take,List.length_drop];omega
  have c1:(T++(B.take q++A.drop q)++M++(A.take q++B.drop q)++U)[T.length+q]? = some a:=by
   have e:T++(B.take q++A.drop q)++M++(A.take q++B.drop q)++U=(T++B.take q)++(A.drop q++(M++(A.take q++B.drop q)++U)):=by simp
   rw[e,List.getElem?_append_right (by simp;omega),List.getElem?_append_left (by simp;omega),List.getElem?_drop]
   rw[show q+(T.length+q-(T++B.take q).length)=q by simp;omega]
   exact ha
  have c2:(T++(B.take q++A.drop q)++M++(A.take q++B.drop q)++U)[T.length+A.length+M.length+q]? = some b:=by
   have e:T++(B.take q++A.drop q)++M++(A.take q++B.drop q)++U=(T++(B.take q++A.drop q)++M++A.take q)++(B.drop q++U):=by simp
   rw[e,List.getElem?_append_right (by simp;omega),List.getElem?_append_left (by simp;omega),List.getElem?_drop]
   rw[show q+(T.length+A.length+M.length+q-(T++(B.take q++A.drop q)++M++A.take q).length)=q by simp;omega]
   exact hb
  have nx:((T++(B.take q++A.drop q)++M++(A.take q++B.drop q)++U).set (T.length+q) b).set (T.length+A.length+M.length+q) a=T++(B.take (q+1)++A.drop (q+1))++M++(A.take (q+1)++B.drop (q+1))++U:=by
   have dA:A.drop q=a::A.drop (q+1):=by
    obtain⟨h1,h2⟩:=List.getElem?_eq_some_iff.mp ha
    rw[← h2,List.getElem_cons_drop]
   have dB:B.drop q=b::B.drop (q+1):=by
    obtain⟨h1,h2⟩:=List.getElem?_eq_some_iff.mp hb
    rw[← h2,List.getElem_cons_drop]
   have tA:A.take (q+1)=A.take q ++ [a]:=by rw[List.take_add_one,ha];rfl
   have tB:B.take (q+1)=B.take q ++ [b]:=by rw[List.take_add_one,hb];rfl
   rw[dA,dB,tA,tB]
   have e1:T++(B.take q++a::A.drop (q+1))++M++(A.take q++b::B.drop (q+1))++U=(T++B.take q)++a::(A.drop (q+1)++M++(A.take q++b::B.drop (q+1))++U):=by simp
   have e2:(T++B.take q)++b::(A.drop (q+1)++M++(A.take q++b::B.drop (q+1))++U)=(T++B.take q++b::(A.drop (q+1)++M++A.take q))++b::(B.drop (q+1)++U):=by simp
   rw[e1,List.set_append_right _ _ (by simp;omega),show T.length+q-(T++B.take q).length=0 by simp;omega,List.set_cons_zero,e2,List.set_append_right _ _ (by simp;omega)]
   rw[show T.length+A.length+M.length+q-(T++B.take q++b::(A.drop (q+1)++M++A.take q)).length=0 by simp;omega,List.set_cons_zero]
   simp
  generalize hcur:T++(B.take q++A.drop q)++M++(A.take q++B.drop q)++U=cur at hcl c1 c2 nx
  have o1:RowsIn (h.set id (some (.cells 131 3 (cur.map RowA.cells) g))) id g cur:=List.getElem?_set_self il
  have ia1:=o1.ia (k:=T.length+q) (n:=n) (by omega) hcl.symm
  have ia2:=o1.ia (k:=T.length+A.length+M.length+q) (n:=n) (by omega) hcl.symm
  have ld1:=o1.ld c1
  have ld2:=o1.ld c2
  have w1:IntKind.i64.wrap (((T.length+A.length+M.length:Nat):Int)+(q:Int))=((T.length+A.length+M.length+q:Nat):Int):=by rw[wrap64_of (by omega) (by omega)];omega
  have w2:IntKind.i64.wrap ((T.length:Int)+(q:Int))=((T.length+q:Nat):Int):=by rw[wrap64_of (by omega) (by omega)];omega
  simp (disch:=omega)only[go_sem,w1,w2,ia1,ia2,ld1,ld2]
  refine o1.st (k:=T.length+q) (r:=b) (by omega) ?_
  have o2:RowsIn ((h.set id (some (.cells 131 3 (cur.map RowA.cells) g))).set id (some (.cells 131 3 ((cur.set (T.length+q) b).map RowA.cells) g))) id g (cur.set (T.length+q) b):=List.getElem?_set_self (by simp;omega)
  have ia3:=o2.ia (k:=T.length+A.length+M.length+q) (n:=n) (by simp;omega) (by simp;omega)
  simp (disch:=omega)only[go_sem,w1,w2,ia3]
  refine o2.st (k:=T.length+A.length+M.length+q) (r:=a) (by simp;omega) ?_
  have ew:IntKind.i64.wrap ((q:Int)+1)=((q+1:Nat):Int):=by rw[wrap64_of (by omega) (by omega)];omega
  rw[List.set_set,List.set_set,nx,ew]
  refine next_keep (A.length-(q+1)) (by omega) (by simp) ⟨q+1,by omega,rfl,rfl,rfl⟩
 ·have:q=A.length:=by omega
  subst this
  simp (disch:=omega)only[go_sem]
  refine ret_keep ?_
  have e:T++(B.take A.length++A.drop A.length)++M++(A.take A.length++B.drop A.length)++U=T++B++M++A++U:=by
   rw[List.take_length,List.drop_length,hab,List.take_length,List.drop_length,List.append_nil,List.append_nil]
  rw[← e]at hk
  simpa using hk
end Go.Proofs
namespace Go.Proofs
open Go Go.Abs
set_option maxRecDepth 100000
set_option linter.unusedSimpArgs false
theorem rotate_call(G:Nat→Option AV) (f:AV) (id g:Nat) (T A B U:List RowA)(h:AH) (K:AV→AH→Prop)(o:RowsIn h id g (T++A++B++U))(hA:A ≠ [])(hB:B ≠ [])(hl:(T++A++B++U).length≤1000000000)
  {n a m b:Nat} (hn:n=(T++A++B++U).length) (ha:a=T.length) (hm:m=T.length+A.length) (hb:b=T.length+A.length+B.length)
  (hk:K (.tup []) (h.set id (some (.cells 131 3 ((T++B++A++U).map RowA.cells) g)))):SCall Tryz.prog G 172 [dat id g n, .v (.int .i64 a), .v (.int .i64 m), .v (.int .i64 b),f] h K:=by
 subst ha hm hb
 refine Tryz.c172 G _ _ _ _ _ h K fun hlow=>?_
 unfold Tryz.r172
 have il:=(List.getElem?_eq_some_iff.mp o).1
 have hA1:0<A.length:=List.length_pos_iff.mpr hA
 have hB1:0<B.length:=List.length_pos_iff.mpr hB
 simp only[List.length_append]at hl hn
 have w1:IntKind.i64.wrap (((T.length+A.length:Nat):Int)-(T.length:Int))=(A.length:Int):=by rw[wrap64_of (by omega) (by omega)];omega
 have w2:IntKind.i64.wrap (((T.length+A.length+B.length:Nat):Int)-((T.length+A.length:Nat):Int))=(B.length:Int):=by rw[wrap64_of (by omega) (by omega)];omega
 simp (disch:=omega)only[go_sem,w1,w2]
 unfold Tryz.r172_l2_4
 refine⟨fun q vs h'=>∃ P A' B' Q:List RowA,q=A'.length+B'.length∧0<A'.length∧0<B'.length∧P.length+A'.length=A.length∧P++B'++A'++Q=B++A∧h'=h.set id (some (.cells 131 3 ((T++P++A'++B'++Q++U).map RowA.cells) g))∧vs = [.v (.int .i64 A'.length), .v (.int .i64 B'.length)],A.length+B.length,⟨[],A,B, [],rfl,hA1,hB1,by simp,by simp,?_,rfl⟩,?_⟩
 ·have e:T ++ []++A++B ++ []++U=T++A++B++U:=by simp
  rw[e];exact(set_same o).symm
 rintro q h' hl1 hlow2 n8 n9 ⟨P,A',B',Q,rfl,ha',hb',hP,hq,hH,hvs⟩
 simp only[List.cons.injEq,AV.v.injEq,Value.int.injEq,true_and,and_true]at hvs
 obtain⟨rfl,rfl⟩:=hvs
 have hql:=congrArg List.length hq
 simp only[List.length_append]at hql
 have wm:IntKind.i64.wrap (((T.length+A.length:Nat):Int)-(A'.length:Int))=(((T++P).length:Nat):Int):=by rw[wrap64_of (by omega) (by omega),List.length_append];omega
 have o1:RowsIn h' id g (T++P++A'++B'++Q++U):=by rw[hH];exact List.getElem?_set_self il
 have sH:∀ x:Option AO,h'.set id x=h.set id x:=fun x=>by rw[hH,List.set_set]
 clear hH
 by_cases he:A'.length=B'.length
 ·have hz:((A'.length:Int) != (B'.length:Int))=false:=by simp[he]
  simp (disch:=omega)only[go_sem,hz,wm]
  refine⟨swapRange_call G f id g (T++P) A' [] B' (Q++U) _ _ (by
   have e:T++P++A' ++ []++B'++(Q++U)=T++P++A'++B'++Q++U:=by simp
   rw[e];exact o1) he (by simp;omega) (by simp;omega) (by simp) (by simp;omega) rfl ?_⟩
  rw[sH]
  refine ret_keep ?_
  have e:T++P++B' ++ []++A'++(Q++U)=T++B++A++U:=by
   have:T++P++B' ++ []++A'++(Q++U)=T++(P++B'++A'++Q)++U:=by simp
   rw[this,hq];simp
  rw[e]
  exact hk
 ·have hz:((A'.length:Int) != (B'.length:Int))=true:=by simp;omega
  by_cases hgt:A'.length > B'.length
  ·have wd:IntKind.i64.wrap ((A'.length:Int)-(B'.length:Int))=(((A'.drop B'.length).length:Nat):Int):=by rw[wrap64_of (by omega) (by omega),List.length_drop];omega
   simp (disch:=omega)only[go_sem,hz,wm,wd]
   have eA:A'.take B'.length++A'.drop B'.length=A':=List.take_append_drop _ _
   have tl:(A'.take B'.length).length=B'.length:=by simp;omega
   refine⟨swapRange_call G f id g (T++P) (A'.take B'.length) (A'.drop B'.length) B' (Q++U) _ _ (by
    have e:T++P++A'.take B'.length++A'.drop B'.length++B'++(Q++U)=T++P++A'++B'++Q++U:=by
     rw[show T++P++A'.take B'.length++A'.drop B'.length++B'++(Q++U)=T++P++(A'.take B'.length++A'.drop B'.length)++B'++Q++U by simp,eA]
    rw[e];exact o1) tl (by simp;omega) (by simp;omega) (by simp) (by simp;omega) tl.symm ?_⟩
   rw[sH]
   refine next_keep ((A'.drop B'.length).length+(A'.take B'.length).length) (by simp;omega) (by simp) ⟨P++B',A'.drop B'.length,A'.take B'.length,Q,rfl,by simp;omega,by omega,by simp;omega,?_,?_,by rw[tl,wd]⟩
   ·rw[← hq,show P++B'++A'.take B'.length++A'.drop B'.length++Q=P++B'++(A'.take B'.length++A'.drop B'.length)++Q by simp,eA]
   ·have e:T++P++B'++A'.drop B'.length++A'.take B'.length++(Q++U)=T++(P++B')++A'.drop B'.length++A'.take B'.length++Q++U:=by simp
    rw[e]
  ·have wd:IntKind.i64.wrap ((B'.length:Int)-(A'.length:Int))=(((B'.take (B'.length-A'.length)).length:Nat):Int):=by rw[wrap64_of (by omega) (by omega),List.length_take];omega
   have w3:IntKind.i64.wrap (((T.length+A.length:Nat):Int)+(B'.length:Int))=((T.length+A.length+B'.length:Nat):Int):=by rw[wrap64_of (by omega) (by omega)];omega
   have w4:IntKind.i64.wrap (((T.length+A.length+B'.length:Nat):Int)-(A'.length:Int))=(((T++P).length+A'.length+(B'.take (B'.length-A'.length)).length:Nat):Int):=by rw[wrap64_of (by omega) (by omega),List.length_append,List.length_take];omega
   simp (disch:=omega)only[go_sem,hz,wm,wd,w3,w4]
   have eB:B'.take (B'.length-A'.length)++B'.drop (B'.length-A'.length)=B':=List.take_append_drop _ _
   have dl:(B'.drop (B'.length-A'.length)).length=A'.length:=by simp;omega
   refine⟨swapRange_call G f id g (T++P) A' (B'.take (B'.length-A'.length)) (B'.drop (B'.length-A'.length)) (Q++U) _ _ (by
    have e:T++P++A'++B'.take (B'.length-A'.length)++B'.drop (B'.length-A'.length)++(Q++U)=T++P++A'++B'++Q++U:=by
     rw[show T++P++A'++B'.take (B'.length-A'.length)++B'.drop (B'.length-A'.length)++(Q++U)=T++P++A'++(B'.take (B'.length-A'.length)++B'.drop (B'.length-A'.length))++Q++U by simp,eB]
    rw[e];exact o1) dl.symm (by simp;omega) (by simp;omega) (by simp) (by simp) rfl ?_⟩
   rw[sH]
   refine next_keep ((B'.drop (B'.length-A'.length)).length+(B'.take (B'.length-A'.length)).length) (by simp;omega) (by simp) ⟨P,B'.drop (B'.length-A'.length),B'.take (B'.length-A'.length),A'++Q,rfl,by omega,by simp;omega,by omega,?_,?_,by rw[dl,wd]⟩
   ·rw[← hq,show P++B'.take (B'.length-A'.length)++B'.drop (B'.length-A'.length)++(A'++Q)=P++(B'.take (B'.length-A'.length)++B'.drop (B'.length-A'.length))++A'++Q by simp,eB]
   ·have e:T++P++B'.drop (B'.length-A'.length)++B'.take (B'.length-A'.length)++A'++(Q++U)=T++P++B'.drop (B'.length-A'.length)++B'.take (B'.length-A'.length)++(A'++Q)++U:=by simp
    rw[e]
end Go.Proofs
namespace Go.Proofs
open Go Go.Abs
set_option maxRecDepth 100000
set_option linter.unusedSimpArgs false
theorem swap2{X Y:List RowA} {u v:RowA} : ((X++u::v::Y).set X.length v).set (X.length+1) u=X++v::u::Y:=by
 rw[List.set_append_right _ _ (Nat.le_refl _),Nat.sub_self,List.set_cons_zero,List.set_append_right _ _ (by omega),show X.length+1-X.length=1 by omega]
 rfl
theorem swap2'{X Y:List RowA} {u v:RowA} : ((X++u::v::Y).set (X.length+1) u).set X.length v=X++v::u::Y:=by
 rw[List.set_append_right _ _ (by omega),show X.length+1-X.length=1 by omega,List.set_append_right _ _ (Nat.le_refl _),Nat.sub_self]
 rfl
theorem at0{X Y:List RowA} {u v:RowA} : (X++u::v::Y)[X.length]? = some u:=by simp
theorem at1{X Y:List RowA} {u v:RowA} : (X++u::v::Y)[X.length+1]? = some v:=by
 rw[List.getElem?_append_right (by omega),show X.length+1-X.length=1 by omega];rfl
theorem shiftR(id g:Nat) (P R1 Q:List RowA)(x:RowA)(h h7:AH) (K:AV→AH→Prop)(o:RowsIn h7 id g (P++x::(R1++Q)))(hl:(P++x::(R1++Q)).length≤1000000000) {n a i:Nat} (hn:n=(P++x::(R1++Q)).length)(ha:a=P.length)(hi:i=P.length+1+R1.length)
  (hk:K (.tup []) (h7.set id (some (.cells 131 3 ((P++R1++x::Q).map RowA.cells) g)))):Tryz.r157_l9_20 K h (dat id g n) h7 i a:=by
 subst ha hi
 unfold Tryz.r157_l9_20
 have il:=(List.getElem?_eq_some_iff.mp o).1
 simp only[List.length_append,List.length_cons]at hl hn
 refine⟨fun m vs h'=>∃ q:Nat,q≤R1.length∧m=R1.length-q∧h'=h7.set id (some (.cells 131 3 ((P++R1.take q++x::(R1.drop q++Q)).map RowA.cells) g))∧vs = [.v (.int .i64 ((P.length+q:Nat):Int))],R1.length,⟨0,by omega,rfl,?_,rfl⟩,?_⟩
 ·simp only[List.take_zero,List.drop_zero,List.append_nil]
  exact(set_same o).symm
 rintro m h' hl1 hlow2 n4 ⟨q,hq,rfl,hH,hvs⟩
 simp only[List.cons.injEq,AV.v.injEq,Value.int.injEq,true_and,and_true]at hvs
 subst hvs
 have oH:RowsIn h' id g (P++R1.take q++x::(R1.drop q++Q)):=by rw[hH];exact List.getElem?_set_self il
 have sH:∀ z:Option AO,h'.set id z=h7.set id z:=fun z=>by rw[hH,List.set_set]
 have w0:IntKind.i64.wrap (((P.length+1+R1.length:Nat):Int)-1)=((P.length+R1.length:Nat):Int):=by rw[wrap64_of (by omega) (by omega)];omega
 have w1:IntKind.i64.wrap (((P.length+q:Nat):Int)+1)=((P.length+q+1:Nat):Int):=by rw[wrap64_of (by omega) (by omega)];omega
 by_cases hlt:q<R1.length
 ·obtain⟨y,hy⟩:∃ y,R1[q]? = some y:=⟨_,List.getElem?_eq_getElem hlt⟩
  have dR:R1.drop q=y::R1.drop (q+1):=by
   obtain⟨h1,h2⟩:=List.getElem?_eq_some_iff.mp hy
   rw[← h2,List.getElem_cons_drop]
  have tR:R1.take (q+1)=R1.take q ++ [y]:=by rw[List.take_add_one,hy];rfl
  have eX:(P++R1.take q).length=P.length+q:=by simp;omega
  rw[dR]at oH
  have oH:RowsIn h' id g ((P++R1.take q)++x::y::(R1.drop (q+1)++Q)):=oH
  have ln:((P++R1.take q)++x::y::(R1.drop (q+1)++Q)).length=n:=by
   simp only[List.length_append,List.length_cons,List.length_take,List.length_drop];omega
  have i0:=oH.ia (k:=P.length+q) (n:=n) (by omega) ln.symm
  have i1:=oH.ia (k:=P.length+q+1) (n:=n) (by omega) ln.symm
  have l0:=oH.ld (k:=P.length+q) (r:=x) (by rw[← eX];exact at0)
  have l1:=oH.ld (k:=P.length+q+1) (r:=y) (by rw[← eX];exact at1)
  simp (disch:=omega)only[go_sem,w0,w1,i0,i1,l0,l1]
  refine oH.st (k:=P.length+q) (r:=y) (by omega) ?_
  have o2:RowsIn (h'.set id (some (.cells 131 3 ((((P++R1.take q)++x::y::(R1.drop (q+1)++Q)).set (P.length+q) y).map RowA.cells) g))) id g (((P++R1.take q)++x::y::(R1.drop (q+1)++Q)).set (P.length+q) y):=List.getElem?_set_self (List.getElem?_eq_some_iff.mp oH).1
  have i3:=o2.ia (k:=P.length+q+1) (n:=n) (by rw[List.length_set];omega) (by rw[List.length_set];exact ln.symm)
  simp (disch:=omega)only[okV_some,w1,i3,storeR_eq,storeV_ptr]
  refine o2.st (k:=P.length+q+1) (r:=x) (by rw[List.length_set];omega) ?_
  have sw:=swap2 (X:=P++R1.take q) (Y:=R1.drop (q+1)++Q) (u:=x) (v:=y)
  rw[eX]at sw
  rw[List.set_set,sH,sw]
  refine next_keep (R1.length-(q+1)) (by omega) (by simp) ⟨q+1,by omega,rfl,?_,rfl⟩
  rw[tR]
  simp
 ·have:q=R1.length:=by omega
  subst this
  simp (disch:=omega)only[go_sem,w0]
  refine ret_keep ?_
  rw[hH]
  simpa using hk
theorem shiftL(id g:Nat) (P L2 Q:List RowA)(y:RowA)(h h7:AH) (K:AV→AH→Prop)(o:RowsIn h7 id g (P++L2++y::Q))(hl:(P++L2++y::Q).length≤1000000000) {n a i:Nat} (hn:n=(P++L2++y::Q).length)(ha:a=P.length+L2.length)(hi:i=P.length)
  (hk:K (.tup []) (h7.set id (some (.cells 131 3 ((P++y::(L2++Q)).map RowA.cells) g)))):Tryz.r157_l21_58 K h (dat id g n) h7 i a:=by
 subst ha hi
 unfold Tryz.r157_l21_58
 have il:=(List.getElem?_eq_some_iff.mp o).1
 simp only[List.length_append,List.length_cons]at hl hn
 refine⟨fun m vs h'=>∃ q:Nat,q≤L2.length∧m=q∧h'=h7.set id (some (.cells 131 3 ((P++L2.take q++y::(L2.drop q++Q)).map RowA.cells) g))∧vs = [.v (.int .i64 ((P.length+q:Nat):Int))],L2.length,⟨L2.length,by omega,rfl,?_,rfl⟩,?_⟩
 ·simp only[List.take_length,List.drop_length,List.nil_append]
  exact(set_same o).symm
 rintro m h' hl1 hlow2 n4 ⟨q,hq,rfl,hH,hvs⟩
 simp only[List.cons.injEq,AV.v.injEq,Value.int.injEq,true_and,and_true]at hvs
 subst hvs
 have oH:RowsIn h' id g (P++L2.take m++y::(L2.drop m++Q)):=by rw[hH];exact List.getElem?_set_self il
 have sH:∀ z:Option AO,h'.set id z=h7.set id z:=fun z=>by rw[hH,List.set_set]
 by_cases hlt:0<m
 ·obtain⟨q,rfl⟩:∃ q,m=q+1:=⟨m-1,by omega⟩
  have w1:IntKind.i64.wrap (((P.length+(q+1):Nat):Int)-1)=((P.length+q:Nat):Int):=by rw[wrap64_of (by omega) (by omega)];omega
  obtain⟨x,hx⟩:∃ x,L2[q]? = some x:=⟨_,List.getElem?_eq_getElem (by omega)⟩
  have dL:L2.drop q=x::L2.drop (q+1):=by
   obtain⟨h1,h2⟩:=List.getElem?_eq_some_iff.mp hx
   rw[← h2,List.getElem_cons_drop]
  have tL:L2.take (q+1)=L2.take q ++ [x]:=by rw[List.take_add_one,hx];rfl
  have eX:(P++L2.take q).length=P.length+q:=by simp;omega
  rw[tL]at oH
  have oH:RowsIn h' id g ((P++L2.take q)++x::y::(L2.drop (q+1)++Q)):=by simpa using oH
  have ln:((P++L2.take q)++x::y::(L2.drop (q+1)++Q)).length=n:=by
   simp only[List.length_append,List.length_cons,List.length_take,List.length_drop];omega
  have i0:=oH.ia (k:=P.length+q) (n:=n) (by omega) ln.symm
  have i1:=oH.ia (k:=P.length+(q+1)) (n:=n) (by omega) ln.symm
  have l0:=oH.ld (k:=P.length+q) (r:=x) (by rw[← eX];exact at0)
  have l1:=oH.ld (k:=P.length+(q+1)) (r:=y) (by rw[← Nat.add_assoc,← eX];exact at1)
  simp (disch:=omega)only[go_sem,w1,i0,i1,l0,l1]
  refine oH.st (k:=P.length+(q+1)) (r:=x) (by omega) ?_
  have o2:RowsIn (h'.set id (some (.cells 131 3 ((((P++L2.take q)++x::y::(L2.drop (q+1)++Q)).set (P.length+(q+1)) x).map RowA.cells) g))) id g (((P++L2.take q)++x::y::(L2.drop (q+1)++Q)).set (P.length+(q+1)) x):=List.getElem?_set_self (List.getElem?_eq_some_iff.mp oH).1
  have i3:=o2.ia (k:=P.length+q) (n:=n) (by rw[List.length_set];omega) (by rw[List.length_set];exact ln.symm)
  simp (disch:=omega)only[okV_some,w1,i3,storeR_eq,storeV_ptr]
  refine o2.st (k:=P.length+q) (r:=y) (by rw[List.length_set];omega) ?_
  have sw:=swap2' (X:=P++L2.take q) (Y:=L2.drop (q+1)++Q) (u:=x) (v:=y)
  rw[eX]at sw
  rw[List.set_set,sH,← Nat.add_assoc,sw]
  refine next_keep q (by omega) (by simp) ⟨q,by omega,rfl,?_,rfl⟩
  rw[dL]
  simp
 ·have:m=0:=by omega
  subst this
  simp (disch:=omega)only[go_sem]
  refine ret_keep ?_
  rw[hH]
  simpa using hk
end Go.Proofs
namespace Go.Proofs
open Go Go.Abs
set_option maxRecDepth 100000
set_option linter.unusedSimpArgs false
abbrev fnA:AV:= .fn (.func 65) [] []
abbrev fst(l:List Deco):List RowA:=l.map (·.1)
theorem half_e{i j:Nat} (h:i+j≤2000000000):IntKind.i64.wrap ((i:Int)+(j:Int))=((i+j:Nat):Int)∧IntKind.u64.wrap ((i+j:Nat):Int)=((i+j:Nat):Int)∧(((i+j:Nat):Int)).fdiv 2=(((i+j) / 2:Nat):Int)∧IntKind.i64.wrap ((((i+j) / 2:Nat)):Int)=(((i+j) / 2:Nat):Int):=by
 refine⟨by rw[wrap64_of (by omega) (by omega)];omega,?_,?_,wrap64_of (by omega) (by omega)⟩
 ·simp[IntKind.wrap,IntKind.bits,IntKind.signed];omega
 ·rw[Int.fdiv_eq_ediv_of_nonneg _ (by omega)];omega
theorem low2{h:AH} (a b:Int):∀ v ∈ [AV.v (.int .i64 a),AV.v (.int .i64 b)],Low h.length v:=by
 intro v hv
 simp at hv
 rcases hv with rfl|rfl <;> exact .v
theorem searchR(G:Nat→Option AV) (id g:Nat) (T U:List RowA)(x:Deco) (R:List Deco)(h:AH) (K:AV→AH→Prop)(hlow:LowH h.length h)(sR:SortedD R)(hlt:∀ y∈R,x.2<y.2)(o:RowsIn h id g (T++x.1::(fst R++U)))(hl:(T++x.1::(fst R++U)).length≤1000000000)
  {n a m b:Nat} (hn:n=(T++x.1::(fst R++U)).length) (ha:a=T.length) (hm:m=T.length+1) (hb:b=T.length+1+R.length)
  (hk:∀ S:List Deco,S.Perm (x::R)→SortedD S→K (.tup []) (h.set id (some (.cells 131 3 ((T++fst S++U).map RowA.cells) g)))):Tryz.r157_l3_4 h K G (dat id g n) (.v (.int .i64 a)) fnA m b:=by
 subst ha hm hb
 unfold Tryz.r157_l3_4
 have hl0:=hl
 simp only[List.length_append,List.length_cons,List.length_map]at hl hn
 refine⟨fun q vs h'=>∃ i j:Nat,i≤j∧j≤R.length∧q=j-i∧h'=h∧(∀ k y,k<i→R[k]? = some y→dlt y x)∧(∀ k y,j≤k→R[k]? = some y→dlt x y)∧vs = [.v (.int .i64 ((T.length+1+i:Nat):Int)), .v (.int .i64 ((T.length+1+j:Nat):Int))],R.length,⟨0,R.length,by omega,by omega,rfl,rfl,by omega,(by intro k y hk' hy;rw[List.getElem?_eq_none hk']at hy;cases hy),rfl⟩,?_⟩
 rintro q h' hl1 hlow2 n8 n9 ⟨i,j,hij,hj,rfl,rfl,hlo,hhi,hvs⟩
 simp only[List.cons.injEq,AV.v.injEq,Value.int.injEq,true_and,and_true]at hvs
 obtain⟨rfl,rfl⟩:=hvs
 by_cases hc:i<j
 ·obtain⟨e1,e2,e3,e4⟩:=half_e (i:=T.length+1+i) (j:=T.length+1+j) (by omega)
  have emid:(T.length+1+i+(T.length+1+j)) / 2=T.length+1+(i+j) / 2:=by omega
  rw[emid]at e3 e4
  obtain⟨y,hy⟩:∃ y,R[(i+j) / 2]? = some y:=⟨_,List.getElem?_eq_getElem (by omega)⟩
  have c0:(T++x.1::(fst R++U))[T.length]? = some x.1:=by simp
  have c1:(T++x.1::(fst R++U))[T.length+1+(i+j) / 2]? = some y.1:=by
   rw[List.getElem?_append_right (by omega),show T.length+1+(i+j) / 2-T.length=(i+j) / 2+1 by omega,List.getElem?_cons_succ,List.getElem?_append_left (by simp;omega),List.getElem?_map,hy];rfl
  have i0:=o.ia (k:=T.length) (n:=n) (by simp) (by simp;omega)
  have i1:=o.ia (k:=T.length+1+(i+j) / 2) (n:=n) (by simp;omega) (by simp;omega)
  have l0:=o.ld c0
  have l1:=o.ld c1
  have e5:IntKind.i64.wrap (((T.length+1+(i+j) / 2:Nat):Int)+1)=((T.length+1+((i+j) / 2+1):Nat):Int):=by rw[wrap64_of (by omega) (by omega)];omega
  generalize dat id g n=D at i0 i1 ⊢
  simp (disch:=omega)only[go_sem,e1,e2, ↓shr_half,e3,e4,i0,i1,l0,l1]
  refine⟨all1_call G y.1 x.1 _ _ fun z t hz=>?_⟩
  have hyx:=hlt y (List.mem_of_getElem? hy)
  cases hbl:bl y.1.key x.1.key with
  | true=>
   rw[hbl]at hz
   have hz:z<0:=by simpa using hz
   simp (disch:=omega)only[go_sem,e4,e5]
   refine next_drop (j-((i+j) / 2+1)) (by omega) (Nat.le_refl _) hlow2 (low2 _ _) ⟨(i+j) / 2+1,j,by omega,hj,rfl,rfl,?_,hhi,rfl⟩
   intro k w hk' hw
   by_cases he:k=(i+j) / 2
   ·subst he;rw[hy]at hw;obtain rfl:=Option.some.inj hw;exact dlt_right hyx hbl
   ·exact dlt_trans (sR.at (by omega) hw hy) (dlt_right hyx hbl)
  | false=>
   rw[hbl]at hz
   have hz:¬ z<0:=by simpa using hz
   simp (disch:=omega)only[go_sem,e4]
   refine next_drop ((i+j) / 2-i) (by omega) (Nat.le_refl _) hlow2 (low2 _ _) ⟨i,(i+j) / 2,by omega,by omega,rfl,rfl,hlo,?_,rfl⟩
   intro k w hk' hw
   by_cases he:k=(i+j) / 2
   ·subst he;rw[hy]at hw;obtain rfl:=Option.some.inj hw;exact dlt_left hyx hbl
   ·exact dlt_trans (dlt_left hyx hbl) (sR.at (by omega) hy hw)
 ·have:j=i:=by omega
  subst this
  have hk:=hk (R.take j++x::R.drop j) put_perm (put_sorted sR hlo hhi)
  simp (disch:=omega)only[go_sem]
  have eR:fst R=(fst R).take j++(fst R).drop j:=(List.take_append_drop _ _).symm
  have eo:T++x.1::((fst R).take j++((fst R).drop j++U))=T++x.1::(fst R++U):=by
   rw[← List.append_assoc ((fst R).take j),← eR]
  refine shiftR id g T ((fst R).take j) ((fst R).drop j++U) x.1 h' h' K (by rw[eo];exact o) (by rw[eo];exact hl0) (by rw[eo];simp;omega) rfl (by simp;omega) ?_
  have e:T++(fst R).take j++x.1::((fst R).drop j++U)=T++fst (R.take j++x::R.drop j)++U:=by simp[fst]
  rw[e]
  exact hk
theorem searchL(G:Nat→Option AV) (id g:Nat) (T U:List RowA)(y:Deco) (L:List Deco)(h:AH) (K:AV→AH→Prop)(hlow:LowH h.length h)(sL:SortedD L)(hlt:∀ x∈L,x.2<y.2)(o:RowsIn h id g (T++fst L++y.1::U))(hl:(T++fst L++y.1::U).length≤1000000000)
  {n a m:Nat} (hn:n=(T++fst L++y.1::U).length) (ha:a=T.length) (hm:m=T.length+L.length)
  (hk:∀ S:List Deco,S.Perm (L ++ [y])→SortedD S→K (.tup []) (h.set id (some (.cells 131 3 ((T++fst S++U).map RowA.cells) g)))):Tryz.r157_l15_42 h K G (dat id g n) (.v (.int .i64 m)) fnA a m:=by
 subst ha hm
 unfold Tryz.r157_l15_42
 have hl0:=hl
 simp only[List.length_append,List.length_cons,List.length_map]at hl hn
 refine⟨fun q vs h'=>∃ i j:Nat,i≤j∧j≤L.length∧q=j-i∧h'=h∧(∀ k x,k<i→L[k]? = some x→dlt x y)∧(∀ k x,j≤k→L[k]? = some x→dlt y x)∧vs = [.v (.int .i64 ((T.length+i:Nat):Int)), .v (.int .i64 ((T.length+j:Nat):Int))],L.length,⟨0,L.length,by omega,by omega,rfl,rfl,by omega,(by intro k x hk' hx;rw[List.getElem?_eq_none hk']at hx;cases hx),rfl⟩,?_⟩
 rintro q h' hl1 hlow2 n8 n9 ⟨i,j,hij,hj,rfl,rfl,hlo,hhi,hvs⟩
 simp only[List.cons.injEq,AV.v.injEq,Value.int.injEq,true_and,and_true]at hvs
 obtain⟨rfl,rfl⟩:=hvs
 by_cases hc:i<j
 ·obtain⟨e1,e2,e3,e4⟩:=half_e (i:=T.length+i) (j:=T.length+j) (by omega)
  have emid:(T.length+i+(T.length+j)) / 2=T.length+(i+j) / 2:=by omega
  rw[emid]at e3 e4
  obtain⟨x,hx⟩:∃ x,L[(i+j) / 2]? = some x:=⟨_,List.getElem?_eq_getElem (by omega)⟩
  have c0:(T++fst L++y.1::U)[T.length+L.length]? = some y.1:=by
   rw[List.getElem?_append_right (by simp),show T.length+L.length-(T++fst L).length=0 by simp];rfl
  have c1:(T++fst L++y.1::U)[T.length+(i+j) / 2]? = some x.1:=by
   rw[List.getElem?_append_left (by simp;omega),List.getElem?_append_right (by omega),show T.length+(i+j) / 2-T.length=(i+j) / 2 by omega,List.getElem?_map,hx];rfl
  have i0:=o.ia (k:=T.length+L.length) (n:=n) (by simp) (by simp;omega)
  have i1:=o.ia (k:=T.length+(i+j) / 2) (n:=n) (by simp;omega) (by simp;omega)
  have l0:=o.ld c0
  have l1:=o.ld c1
  have e5:IntKind.i64.wrap (((T.length+(i+j) / 2:Nat):Int)+1)=((T.length+((i+j) / 2+1):Nat):Int):=by rw[wrap64_of (by omega) (by omega)];omega
  generalize dat id g n=D at i0 i1 ⊢
  simp (disch:=omega)only[go_sem,e1,e2, ↓shr_half,e3,e4,i0,i1,l0,l1]
  refine⟨all1_call G y.1 x.1 _ _ fun z t hz=>?_⟩
  have hyx:=hlt x (List.mem_of_getElem? hx)
  cases hbl:bl y.1.key x.1.key with
  | false=>
   rw[hbl]at hz
   have hz:¬ z<0:=by simpa using hz
   simp (disch:=omega)only[go_sem,e4,e5,Bool.not_false]
   refine next_drop (j-((i+j) / 2+1)) (by omega) (Nat.le_refl _) hlow2 (low2 _ _) ⟨(i+j) / 2+1,j,by omega,hj,rfl,rfl,?_,hhi,rfl⟩
   intro k w hk' hw
   by_cases he:k=(i+j) / 2
   ·subst he;rw[hx]at hw;obtain rfl:=Option.some.inj hw;exact dlt_left hyx hbl
   ·exact dlt_trans (sL.at (by omega) hw hx) (dlt_left hyx hbl)
  | true=>
   rw[hbl]at hz
   have hz:z<0:=by simpa using hz
   simp (disch:=omega)only[go_sem,e4,Bool.not_true]
   refine next_drop ((i+j) / 2-i) (by omega) (Nat.le_refl _) hlow2 (low2 _ _) ⟨i,(i+j) / 2,by omega,by omega,rfl,rfl,hlo,?_,rfl⟩
   intro k w hk' hw
   by_cases he:k=(i+j) / 2
   ·subst he;rw[hx]at hw;obtain rfl:=Option.some.inj hw;exact dlt_right hyx hbl
   ·exact dlt_trans (dlt_right hyx hbl) (sL.at (by omega) hx hw)
 ·have:j=i:=by omega
  subst this
  have hk:=hk (L.take j++y::L.drop j) (put_perm.trans (List.perm_append_comm (l₁:= [y]) (l₂:=L))) (put_sorted sL hlo hhi)
  simp (disch:=omega)only[go_sem]
  have eL:fst L=(fst L).take j++(fst L).drop j:=(List.take_append_drop _ _).symm
  have eo:(T++(fst L).take j)++(fst L).drop j++y.1::U=T++fst L++y.1::U:=by
   rw[List.append_assoc T,← eL]
  refine shiftL id g (T++(fst L).take j) ((fst L).drop j) U y.1 h' h' K (by rw[eo];exact o) (by rw[eo];exact hl0) (by rw[eo];simp;omega) (by simp;omega) (by simp;omega) ?_
  have e:T++(fst L).take j++y.1::((fst L).drop j++U)=T++fst (L.take j++y::L.drop j)++U:=by simp[fst]
  rw[e]
  exact hk
end Go.Proofs
namespace Go.Proofs
open Go Go.Abs
set_option maxRecDepth 100000
set_option linter.unusedSimpArgs false
theorem fst_len{l:List Deco} : (fst l).length=l.length:=List.length_map _
theorem fst_nil{l:List Deco} : fst l = []↔l = []:=List.map_eq_nil_iff
def MergeOk(G:Nat→Option AV) (id g N:Nat):Prop:=∀(L R:List Deco) (T U:List RowA)(h:AH) (K:AV→AH→Prop),L.length+R.length≤N→L ≠ []→R ≠ []→SortedD L→SortedD R→(∀ x∈L,∀ y∈R,x.2<y.2)→RowsIn h id g (T++fst L++fst R++U)→(T++fst L++fst R++U).length≤1000000000→∀ n a m b:Nat,n=(T++fst L++fst R++U).length→a=T.length→m=T.length+L.length→b=T.length+L.length+R.length →
  (∀ S:List Deco,S.Perm (L++R)→SortedD S→K (.tup []) (h.set id (some (.cells 131 3 ((T++fst S++U).map RowA.cells) g))))→SCall Tryz.prog G 157 [dat id g n, .v (.int .i64 a), .v (.int .i64 m), .v (.int .i64 b),fnA] h K
theorem symFin(G:Nat→Option AV) (id g N:Nat)(ih:MergeOk G id g N) (L1 L2 R1 R2 S1:List Deco) (T U:List RowA)(h H:AH) (K:AV→AH→Prop) (n a m b mid r:Nat)
  (sLR1:SortedD (L1++L2))(sLR2:SortedD (R1++R2))(b1:∀ x∈L1,∀ y∈R2,dlt x y)(b2:∀ y∈R1,∀ x∈L2,dlt y x)(q22:∀ x∈L2,∀ y∈R2,x.2<y.2)(hN:L2.length+R2.length≤N)
  (hn:n=T.length+L1.length+L2.length+R1.length+R2.length+U.length)(hn9:n≤1000000000)(ha:a=T.length)(hr:r=a+L1.length)(hm:m=a+L1.length+L2.length)(hmid:mid=r+R1.length)(hb:b=m+R1.length+R2.length)
  (p1:S1.Perm (L1++R1))(s1:SortedD S1)(oH:RowsIn H id g (T++fst S1++fst L2++fst R2++U))(sH:∀ z:Option AO,H.set id z=h.set id z)
  (hk:∀ S:List Deco,S.Perm ((L1++L2)++(R1++R2))→SortedD S→K (.tup []) (h.set id (some (.cells 131 3 ((T++fst S++U).map RowA.cells) g)))) :
  Tryz.r157_j99 K h G (dat id g n) (.v (.int .i64 b)) fnA mid m r H:=by
 unfold Tryz.r157_j99
 have lS:=p1.length_eq
 rw[List.length_append]at lS
 have e4:IntKind.i64.wrap (mid:Int)=(mid:Int):=wrap64_of (by omega) (by omega)
 have wn:IntKind.i64.wrap ((mid:Int)+(m:Int))=((mid+m:Nat):Int):=by rw[wrap64_of (by omega) (by omega)];omega
 have we:IntKind.i64.wrap (((mid+m:Nat):Int)-(r:Int))=((m+(mid-r):Nat):Int):=by rw[wrap64_of (by omega) (by omega)];omega
 by_cases hcond:0<L2.length∧0<R2.length
 ·have cc:callR Tryz.prog G 157 [dat id g n, .v (.int .i64 (mid:Int)), .v (.int .i64 ((m+(mid-r):Nat):Int)), .v (.int .i64 (b:Int)),fnA] H (fun v h'=>RetR h K (.tup []) h'):=by
   refine⟨ih L2 R2 (T++fst S1) U H _ hN (List.length_pos_iff.mp hcond.1) (List.length_pos_iff.mp hcond.2) (List.pairwise_append.mp sLR1).2.1 (List.pairwise_append.mp sLR2).2.1 q22 oH (by simp only[List.length_append,fst_len];omega) n mid (m+(mid-r)) b (by simp only[List.length_append,fst_len];omega) (by simp only[List.length_append,fst_len];omega) (by simp only[List.length_append,fst_len];omega) (by simp only[List.length_append,fst_len];omega) fun S2 p2 s2=>?_⟩
   obtain⟨m1,m2⟩:=merge_sorted sLR1 sLR2 b1 b2 p1 s1 p2 s2
   rw[sH]
   refine ret_keep ?_
   have e:T++fst S1++fst S2++U=T++fst (S1++S2)++U:=by simp[fst]
   rw[e]
   exact hk _ m2 m1
  generalize dat id g n=D at cc ⊢
  simp (disch:=omega)only[go_sem,e4,wn,we]
  exact cc
 ·have s2:SortedD (L2++R2):=by
   by_cases h0:0<L2.length
   ·have:R2 = []:=List.length_eq_zero_iff.mp (by omega)
    subst this;rw[List.append_nil];exact(List.pairwise_append.mp sLR1).2.1
   ·have:L2 = []:=List.length_eq_zero_iff.mp (by omega)
    subst this;exact(List.pairwise_append.mp sLR2).2.1
  obtain⟨m1,m2⟩:=merge_sorted sLR1 sLR2 b1 b2 p1 s1 (List.Perm.refl _) s2
  have e:T++fst S1++fst L2++fst R2++U=T++fst (S1++(L2++R2))++U:=by simp[fst]
  have hfin:K (.tup []) H:=by
   have:=hk _ m2 m1
   rw[← e,← sH,set_same oH]at this
   exact this
  by_cases h0:0<L2.length
  ·simp (disch:=omega)only[go_sem,e4,wn,we]
   exact ret_keep hfin
  ·simp (disch:=omega)only[go_sem,e4,wn,we]
   exact ret_keep hfin
theorem symRest(G:Nat→Option AV) (id g N:Nat)(ih:MergeOk G id g N) (L1 L2 R1 R2:List Deco) (T U:List RowA)(h H:AH) (K:AV→AH→Prop) (n a m b mid r:Nat)
  (sLR1:SortedD (L1++L2))(sLR2:SortedD (R1++R2))(b1:∀ x∈L1,∀ y∈R2,dlt x y)(b2:∀ y∈R1,∀ x∈L2,dlt y x)(q11:∀ x∈L1,∀ y∈R1,x.2<y.2)(q22:∀ x∈L2,∀ y∈R2,x.2<y.2)(hN1:L1.length+R1.length≤N)(hN:L2.length+R2.length≤N)
  (hn:n=T.length+L1.length+L2.length+R1.length+R2.length+U.length)(hn9:n≤1000000000)(ha:a=T.length)(hr:r=a+L1.length)(hm:m=a+L1.length+L2.length)(hmid:mid=r+R1.length)(hb:b=m+R1.length+R2.length)
  (oH:RowsIn H id g (T++fst L1++fst R1++(fst L2++fst R2++U)))(sH:∀ z:Option AO,H.set id z=h.set id z)
  (hk:∀ S:List Deco,S.Perm ((L1++L2)++(R1++R2))→SortedD S→K (.tup []) (h.set id (some (.cells 131 3 ((T++fst S++U).map RowA.cells) g)))) :
  Tryz.r157_j98 G h K (dat id g n) (.v (.int .i64 a)) (.v (.int .i64 b)) fnA mid m r H:=by
 unfold Tryz.r157_j98
 have e4:IntKind.i64.wrap (mid:Int)=(mid:Int):=wrap64_of (by omega) (by omega)
 have fin:=fun S1 p1 s1 H oH sH=>symFin G id g N ih L1 L2 R1 R2 S1 T U h H K n a m b mid r sLR1 sLR2 b1 b2 q22 hN hn hn9 ha hr hm hmid hb p1 s1 oH sH hk
 by_cases hcond:0<L1.length∧0<R1.length
 ·have cc:callR Tryz.prog G 157 [dat id g n, .v (.int .i64 (a:Int)), .v (.int .i64 (r:Int)), .v (.int .i64 (mid:Int)),fnA] H (fun v h'=>Tryz.r157_j99 K h G (dat id g n) (.v (.int .i64 b)) fnA mid m r h'):=by
   refine⟨ih L1 R1 T (fst L2++fst R2++U) H _ hN1 (List.length_pos_iff.mp hcond.1) (List.length_pos_iff.mp hcond.2) (List.pairwise_append.mp sLR1).1 (List.pairwise_append.mp sLR2).1 q11 oH (by simp only[List.length_append,fst_len];omega) n a r mid (by simp only[List.length_append,fst_len];omega) ha (by omega) (by omega) fun S1 p1 s1=>?_⟩
   have ilH:=(List.getElem?_eq_some_iff.mp oH).1
   have e:T++fst S1++(fst L2++fst R2++U)=T++fst S1++fst L2++fst R2++U:=by simp
   rw[e]
   exact fin S1 p1 s1 _ (List.getElem?_set_self ilH) (fun z=>by rw[List.set_set,sH])
  generalize dat id g n=D at cc ⊢
  simp (disch:=omega)only[go_sem,e4]
  exact cc
 ·have s1:SortedD (L1++R1):=by
   by_cases h0:0<L1.length
   ·have:R1 = []:=List.length_eq_zero_iff.mp (by omega)
    subst this;rw[List.append_nil];exact(List.pairwise_append.mp sLR1).1
   ·have:L1 = []:=List.length_eq_zero_iff.mp (by omega)
    subst this;exact(List.pairwise_append.mp sLR2).1
  have e:T++fst L1++fst R1++(fst L2++fst R2++U)=T++fst (L1++R1)++fst L2++fst R2++U:=by simp[fst]
  rw[e]at oH
  have f:=fin (L1++R1) (List.Perm.refl _) s1 H oH sH
  by_cases h0:0<L1.length
  ·simp (disch:=omega)only[go_sem,e4]
   exact f
  ·simp (disch:=omega)only[go_sem,e4]
   exact f
end Go.Proofs
namespace Go.Proofs
open Go Go.Abs
set_option maxRecDepth 100000
set_option linter.unusedSimpArgs false
structure PartAt (L R:List Deco) (a mid s0 r0 s:Nat):Prop where
 lo:s=s0∨∃ x y,L[s-1-a]? = some x∧R[mid-s]? = some y∧dlt x y
 hi:s=r0∨∃ x y,L[s-a]? = some x∧R[mid-1-s]? = some y∧dlt y x
theorem symLoop(G:Nat→Option AV) (id g:Nat) (L R:List Deco) (T U:List RowA)(h:AH) (K:AV→AH→Prop)(hlr:∀ x∈L,∀ y∈R,x.2<y.2)(o:RowsIn h id g (T++fst L++fst R++U)) (n a m b mid s0 r0:Nat)(hn0:n=(T++fst L++fst R++U).length)(hn:n=T.length+L.length+R.length+U.length)(hn9:n≤1000000000)(ha:a=T.length)(hm:m=T.length+L.length)(hb:b=T.length+L.length+R.length)
  (hs0:a≤s0)(hsr:s0≤r0)(hrm:r0≤m)(hrmid:r0≤mid)(hsb:mid≤s0+R.length)(hmb:mid≤b)
  (hrot:∀ s,s0≤s→s≤r0→PartAt L R a mid s0 r0 s→s<m→s<mid→callR Tryz.prog G 172 [dat id g n, .v (.int .i64 (s:Int)), .v (.int .i64 (m:Int)), .v (.int .i64 ((m+(mid-s):Nat):Int)),fnA] h (fun _ H=>Tryz.r157_j98 G h K (dat id g n) (.v (.int .i64 a)) (.v (.int .i64 b)) fnA mid m s H))
  (hno:∀ s,s0≤s→s≤r0→PartAt L R a mid s0 r0 s→¬ (s<m∧s<mid)→Tryz.r157_j98 G h K (dat id g n) (.v (.int .i64 a)) (.v (.int .i64 b)) fnA mid m s h) :
  Tryz.r157_l33_83 K h G (dat id g n) (.v (.int .i64 a)) (.v (.int .i64 m)) (.v (.int .i64 b)) fnA mid m h s0 r0:=by
 unfold Tryz.r157_l33_83
 have e4:IntKind.i64.wrap (mid:Int)=(mid:Int):=wrap64_of (by omega) (by omega)
 have wn:IntKind.i64.wrap ((mid:Int)+(m:Int))=((mid+m:Nat):Int):=by rw[wrap64_of (by omega) (by omega)];omega
 refine⟨fun q vs h'=>∃ s r:Nat,s0≤s∧s≤r∧r≤r0∧q=r-s∧h'=h∧(s=s0∨∃ x y,L[s-1-a]? = some x∧R[mid-s]? = some y∧dlt x y)∧(r=r0∨∃ x y,L[r-a]? = some x∧R[mid-1-r]? = some y∧dlt y x)∧vs = [.v (.int .i64 s), .v (.int .i64 r)],r0-s0,⟨s0,r0,by omega,hsr,by omega,rfl,rfl, .inl rfl, .inl rfl,rfl⟩,?_⟩
 rintro q h' hl1' hlow2 n87 n88 ⟨s,r,hss,hsr',hrr,rfl,rfl,hlo,hhi,hvs⟩
 simp only[List.cons.injEq,AV.v.injEq,Value.int.injEq,true_and,and_true]at hvs
 obtain⟨rfl,rfl⟩:=hvs
 by_cases hc:s<r
 ·clear hrot hno
  obtain⟨f1,f2,f3,f4⟩:=half_e (i:=s) (j:=r) (by omega)
  obtain⟨c,hcm⟩:∃ c,(s+r) / 2=c:=⟨_,rfl⟩
  rw[hcm]at f3 f4
  have hcs:s≤c:=by omega
  have hcr:c<r:=by omega
  clear hcm
  have wp:IntKind.i64.wrap (((mid+m:Nat):Int)-1)=((mid+m-1:Nat):Int):=by rw[wrap64_of (by omega) (by omega)];omega
  have wc:IntKind.i64.wrap (((mid+m-1:Nat):Int)-(c:Int))=((m+(mid-1-c):Nat):Int):=by rw[wrap64_of (by omega) (by omega)];omega
  have f5:IntKind.i64.wrap ((c:Int)+1)=((c+1:Nat):Int):=by rw[wrap64_of (by omega) (by omega)];omega
  obtain⟨x,hx⟩:∃ x,L[c-a]? = some x:=⟨_,List.getElem?_eq_getElem (by omega)⟩
  obtain⟨y,hy⟩:∃ y,R[mid-1-c]? = some y:=⟨_,List.getElem?_eq_getElem (by omega)⟩
  have c0:(T++fst L++fst R++U)[c]? = some x.1:=by
   rw[List.append_assoc,List.append_assoc,List.getElem?_append_right (by omega),List.getElem?_append_left (by rw[fst_len];omega),List.getElem?_map,← ha,hx];rfl
  have c1:(T++fst L++fst R++U)[m+(mid-1-c)]? = some y.1:=by
   rw[List.append_assoc,List.getElem?_append_right (by rw[List.length_append,fst_len];omega),List.getElem?_append_left (by rw[List.length_append,fst_len,fst_len];omega),List.getElem?_map,show m+(mid-1-c)-(T++fst L).length=mid-1-c by rw[List.length_append,fst_len];omega,hy];rfl
  have i0:=o.ia (k:=c) (n:=n) (by simp only[List.length_append,fst_len];omega) hn0
  have i1:=o.ia (k:=m+(mid-1-c)) (n:=n) (by simp only[List.length_append,fst_len];omega) hn0
  have l0:=o.ld c0
  have l1:=o.ld c1
  have hyx:=hlr x (List.mem_of_getElem? hx) y (List.mem_of_getElem? hy)
  have lt1:((s:Int)<(r:Int)):=by omega
  generalize dat id g n=D at i0 i1 ⊢
  clear c0 c1 hn0 hlr o
  simp (disch:=omega)only[go_sem,f1,f2, ↓shr_half,f3,f4,e4,wn,wp,wc,i0,i1,l0,l1]
  refine⟨all1_call G y.1 x.1 _ _ fun z t hz=>?_⟩
  cases hbl:bl y.1.key x.1.key with
  | false=>
   rw[hbl]at hz
   have hz:¬ z<0:=by simpa using hz
   simp (disch:=omega)only[go_sem,f4,f5,Bool.not_false]
   exact next_drop (r-(c+1)) (by omega) (Nat.le_refl _) hlow2 (low2 _ _) ⟨c+1,r,by omega,by omega,by omega,rfl,rfl, .inr ⟨x,y,by rw[show c+1-1-a=c-a by omega];exact hx,by rw[show mid-(c+1)=mid-1-c by omega];exact hy,dlt_left hyx hbl⟩,hhi,rfl⟩
  | true=>
   rw[hbl]at hz
   have hz:z<0:=by simpa using hz
   simp (disch:=omega)only[go_sem,f4,Bool.not_true]
   exact next_drop (c-s) (by omega) (Nat.le_refl _) hlow2 (low2 _ _) ⟨s,c,by omega,by omega,by omega,rfl,rfl,hlo, .inr ⟨x,y,hx,hy,dlt_right hyx hbl⟩,rfl⟩
 ·have:r=s:=by omega
  subst this
  have we:IntKind.i64.wrap (((mid+m:Nat):Int)-(r:Int))=((m+(mid-r):Nat):Int):=by rw[wrap64_of (by omega) (by omega)];omega
  by_cases h1:r<m
  ·by_cases h2:r<mid
   ·have c:=hrot r hss hrr ⟨hlo,hhi⟩ h1 h2
    clear hrot hno o hlr
    generalize dat id g n=D at c ⊢
    simp (disch:=omega)only[go_sem,e4,wn,we]
    exact c
   ·have c:=hno r hss hrr ⟨hlo,hhi⟩ (fun h=>h2 h.2)
    clear hrot hno o hlr
    generalize dat id g n=D at c ⊢
    simp (disch:=omega)only[go_sem,e4,wn,we]
    exact c
  ·have c:=hno r hss hrr ⟨hlo,hhi⟩ (fun h=>h1 h.1)
   clear hrot hno o hlr
   generalize dat id g n=D at c ⊢
   simp (disch:=omega)only[go_sem,e4,wn,we]
   exact c
theorem part_below{L R:List Deco} {a m mid s0 r0 s:Nat} (sL:SortedD L)(sR:SortedD R)(p:PartAt L R a mid s0 r0 s)(h0:s0≤s)(h1:s≤r0)(hs0:a≤s0)(hm:m=a+L.length)(hrm:r0≤m)(hrmid:r0≤mid)(hs1:s0=a∨mid=s0+R.length)(hr1:r0=m∨r0=mid) :
  (∀ x∈L.take (s-a),∀ y∈R.drop (mid-s),dlt x y)∧(∀ y∈R.take (mid-s),∀ x∈L.drop (s-a),dlt y x):=by
 refine⟨all_below (sL.take _) (sR.drop _) fun x y hx hy=>?_,all_below (sR.take _) (sL.drop _) fun y x hy hx=>?_⟩
 ·rw[List.getElem?_drop,Nat.add_zero]at hy
  rw[List.length_take,List.getElem?_take]at hx
  have hyl:=(List.getElem?_eq_some_iff.mp hy).1
  split at hx
  ·rename_i hlt
   rcases p.lo with rfl|⟨x',y',hx',hy',hd⟩
   ·rcases hs1 with hs1|hs1 <;> omega
   ·rw[show min (s-a) L.length-1=s-1-a by omega,hx']at hx
    rw[hy']at hy
    obtain rfl:=Option.some.inj hx
    obtain rfl:=Option.some.inj hy
    exact hd
  ·cases hx
 ·rw[List.getElem?_drop,Nat.add_zero]at hx
  have hxl:=(List.getElem?_eq_some_iff.mp hx).1
  rw[List.length_take,List.getElem?_take]at hy
  split at hy
  ·rename_i hlt
   have hyl:=(List.getElem?_eq_some_iff.mp hy).1
   rcases p.hi with rfl|⟨x',y',hx',hy',hd⟩
   ·rcases hr1 with hr1|hr1 <;> omega
   ·have hyl':=(List.getElem?_eq_some_iff.mp hy').1
    by_cases hle:mid-s≤R.length
    ·rw[show min (mid-s) R.length-1=mid-1-s by omega,hy']at hy
     rw[hx']at hx
     obtain rfl:=Option.some.inj hx
     obtain rfl:=Option.some.inj hy
     exact hd
    ·omega
  ·cases hy
end Go.Proofs
namespace Go.Proofs
open Go Go.Abs
set_option maxRecDepth 100000
set_option linter.unusedSimpArgs false
theorem symGen(G:Nat→Option AV) (id g N:Nat)(ih:MergeOk G id g N) (L R:List Deco) (T U:List RowA)(h:AH) (K:AV→AH→Prop) (n a m b mid s0 r0:Nat)(hN:L.length+R.length≤N+1)(hL:2≤L.length)(hR:2≤R.length)(sL:SortedD L)(sR:SortedD R)(hlr:∀ x∈L,∀ y∈R,x.2<y.2)(o:RowsIn h id g (T++fst L++fst R++U))(hn0:n=(T++fst L++fst R++U).length)(hn9:n≤1000000000)(ha:a=T.length)(hm:m=T.length+L.length)(hb:b=T.length+L.length+R.length)
  (hk:∀ S:List Deco,S.Perm (L++R)→SortedD S→K (.tup []) (h.set id (some (.cells 131 3 ((T++fst S++U).map RowA.cells) g))))
  (hmid:(a+b) / 2=mid)(hs0:a≤s0)(hsr:s0≤r0)(hrm:r0≤m)(hrmid:r0≤mid)(hsb:mid≤s0+R.length)(hs1:s0=a∨mid=s0+R.length)(hr1:r0=m∨r0=mid) :
  Tryz.r157_l33_83 K h G (dat id g n) (.v (.int .i64 a)) (.v (.int .i64 m)) (.v (.int .i64 b)) fnA mid m h s0 r0:=by
 have hn:n=T.length+L.length+R.length+U.length:=by rw[hn0];simp only[List.length_append,fst_len]
 have il:=(List.getElem?_eq_some_iff.mp o).1
 have rest:∀ s,s0≤s→s≤r0→PartAt L R a mid s0 r0 s→∀ H,RowsIn H id g (T++fst (L.take (s-a))++fst (R.take (mid-s))++(fst (L.drop (s-a))++fst (R.drop (mid-s))++U))→(∀ z:Option AO,H.set id z=h.set id z)→Tryz.r157_j98 G h K (dat id g n) (.v (.int .i64 a)) (.v (.int .i64 b)) fnA mid m s H:=by
  intro s h0 h1 p H oH sH
  obtain⟨b1,b2⟩:=part_below sL sR p h0 h1 hs0 (by omega) hrm hrmid hs1 hr1
  have eL:L.take (s-a)++L.drop (s-a)=L:=List.take_append_drop _ _
  have eR:R.take (mid-s)++R.drop (mid-s)=R:=List.take_append_drop _ _
  have lL1:(L.take (s-a)).length=s-a:=by rw[List.length_take];omega
  have lL2:(L.drop (s-a)).length=m-s:=by rw[List.length_drop];omega
  have lR1:(R.take (mid-s)).length=mid-s:=by rw[List.length_take];omega
  have lR2:(R.drop (mid-s)).length=R.length-(mid-s):=List.length_drop
  exact symRest G id g N ih (L.take (s-a)) (L.drop (s-a)) (R.take (mid-s)) (R.drop (mid-s)) T U h H K n a m b mid s (by rw[eL];exact sL) (by rw[eR];exact sR) b1 b2 (fun x hx y hy=>hlr x (List.mem_of_mem_take hx) y (List.mem_of_mem_take hy)) (fun x hx y hy=>hlr x (List.mem_of_mem_drop hx) y (List.mem_of_mem_drop hy)) (by omega) (by omega) (by omega) hn9 ha (by omega) (by omega) (by omega) (by omega) oH sH (fun S p s=>hk S (by rw[eL,eR]at p;exact p) s)
 refine symLoop G id g L R T U h K hlr o n a m b mid s0 r0 hn0 hn hn9 ha hm hb hs0 hsr hrm hrmid hsb (by omega) (fun s h0 h1 p hm1 hm2=>?_) (fun s h0 h1 p hnot=>?_)
 ·have eL:fst L=fst (L.take (s-a))++fst (L.drop (s-a)):=by rw[← List.map_append,List.take_append_drop]
  have eR:fst R=fst (R.take (mid-s))++fst (R.drop (mid-s)):=by rw[← List.map_append,List.take_append_drop]
  have lL1:(L.take (s-a)).length=s-a:=by rw[List.length_take];omega
  have lL2:(L.drop (s-a)).length=m-s:=by rw[List.length_drop];omega
  have lR1:(R.take (mid-s)).length=mid-s:=by rw[List.length_take];omega
  have lR2:(R.drop (mid-s)).length=R.length-(mid-s):=List.length_drop
  refine⟨rotate_call G fnA id g (T++fst (L.take (s-a))) (fst (L.drop (s-a))) (fst (R.take (mid-s))) (fst (R.drop (mid-s))++U) h _ ?_ ?_ ?_ ?_ ?_ ?_ ?_ ?_ ?_⟩
  ·have e:T++fst (L.take (s-a))++fst (L.drop (s-a))++fst (R.take (mid-s))++(fst (R.drop (mid-s))++U)=T++fst L++fst R++U:=by
    rw[eL,eR];simp only[List.append_assoc]
   rw[e];exact o
  ·rw[Ne,fst_nil];exact List.length_pos_iff.mp (by omega)
  ·rw[Ne,fst_nil];exact List.length_pos_iff.mp (by omega)
  ·simp only[List.length_append,fst_len];omega
  ·simp only[List.length_append,fst_len];omega
  ·simp only[List.length_append,fst_len];omega
  ·simp only[List.length_append,fst_len];omega
  ·simp only[List.length_append,fst_len];omega
  ·have e:T++fst (L.take (s-a))++fst (R.take (mid-s))++fst (L.drop (s-a))++(fst (R.drop (mid-s))++U)=T++fst (L.take (s-a))++fst (R.take (mid-s))++(fst (L.drop (s-a))++fst (R.drop (mid-s))++U):=by simp only[List.append_assoc]
   rw[e]
   exact rest s h0 h1 p _ (List.getElem?_set_self il) (fun z=>by rw[List.set_set])
 ·have eL:fst L=fst (L.take (s-a))++fst (L.drop (s-a)):=by rw[← List.map_append,List.take_append_drop]
  have eR:fst R=fst (R.take (mid-s))++fst (R.drop (mid-s)):=by rw[← List.map_append,List.take_append_drop]
  refine rest s h0 h1 p h ?_ (fun _=>rfl)
  have e:T++fst L++fst R++U=T++fst (L.take (s-a))++fst (R.take (mid-s))++(fst (L.drop (s-a))++fst (R.drop (mid-s))++U):=by
   by_cases hc:s<m
   ·have:R.take (mid-s) = []:=by rw[show mid-s=0 by omega];rfl
    rw[eL,eR,this]
    simp only[fst,List.map_nil,List.append_nil,List.nil_append,List.append_assoc]
   ·have:L.drop (s-a) = []:=List.drop_eq_nil_of_le (by omega)
    rw[eL,eR,this]
    simp only[fst,List.map_nil,List.append_nil,List.nil_append,List.append_assoc]
  rw[← e]
  exact o
theorem symMerge_ok(G:Nat→Option AV) (id g:Nat):∀ N:Nat,MergeOk G id g N
 | 0=>by
  intro L R T U h K hN hL
  have:=List.length_pos_iff.mpr hL
  omega
 | N+1=>by
  intro L R T U h K hN hL hR sL sR hlr o hl n a m b hn0 ha hm hb hk
  have ih:=symMerge_ok G id g N
  refine Tryz.c157 G _ _ _ _ _ h K fun hlow=>?_
  unfold Tryz.r157
  have hL1:=List.length_pos_iff.mpr hL
  have hR1:=List.length_pos_iff.mpr hR
  have hl0:=hl
  have hn:n=T.length+L.length+R.length+U.length:=by rw[hn0];simp only[List.length_append,fst_len]
  have hn9:n≤1000000000:=by rw[hn0];exact hl
  have w1:IntKind.i64.wrap ((m:Int)-(a:Int))=(L.length:Int):=by rw[wrap64_of (by omega) (by omega)];omega
  have w2:IntKind.i64.wrap ((b:Int)-(m:Int))=(R.length:Int):=by rw[wrap64_of (by omega) (by omega)];omega
  by_cases hl1:L.length=1
  ·have z0:((L.length:Int)==1)=true:=by simp[hl1]
   obtain⟨x,rfl⟩:=List.length_eq_one_iff.mp hl1
   have e:T++fst [x]++fst R++U=T++x.1::(fst R++U):=by simp[fst]
   rw[e]at o hl0 hn0
   have c:=searchR G id g T U x R h K hlow sR (fun y hy=>hlr x (by simp) y hy) o hl0 hn0 ha (by simpa using hm) (by simpa using hb) (fun S p s=>hk S (by simpa using p) s)
   generalize dat id g n=D at c ⊢
   simp only[okInt_mk,w1,z0,condB_true]
   exact c
  have z1:((L.length:Int)==1)=false:=by simp;omega
  by_cases hr1:R.length=1
  ·have z0:((R.length:Int)==1)=true:=by simp[hr1]
   obtain⟨y,rfl⟩:=List.length_eq_one_iff.mp hr1
   have e:T++fst L++fst [y]++U=T++fst L++y.1::U:=by simp[fst]
   rw[e]at o hl0 hn0
   have c:=searchL G id g T U y L h K hlow sL (fun x hx=>hlr x hx y (by simp)) o hl0 hn0 ha hm (fun S p s=>hk S p s)
   generalize dat id g n=D at c ⊢
   simp only[okInt_mk,w1,w2,z1,z0,condB_true,condB_false]
   exact c
  have z2:((R.length:Int)==1)=false:=by simp;omega
  obtain⟨e1,e2,e3,e4⟩:=half_e (i:=a) (j:=b) (by omega)
  obtain⟨mid,hmid⟩:∃ mid,(a+b) / 2=mid:=⟨_,rfl⟩
  rw[hmid]at e3 e4
  have wn:IntKind.i64.wrap ((mid:Int)+(m:Int))=((mid+m:Nat):Int):=by rw[wrap64_of (by omega) (by omega)];omega
  have gen:=fun s0 r0=>symGen G id g N ih L R T U h K n a m b mid s0 r0 hN (by omega) (by omega) sL sR hlr o hn0 hn9 ha hm hb hk hmid
  by_cases hbig:m > mid
  ·have ws:IntKind.i64.wrap (((mid+m:Nat):Int)-(b:Int))=((mid+m-b:Nat):Int):=by rw[wrap64_of (by omega) (by omega)];omega
   have c:=gen (mid+m-b) mid (by omega) (by omega) (by omega) (by omega) (by omega) (.inr (by omega)) (.inr rfl)
   clear gen ih hk o hlr sL sR
   generalize dat id g n=D at c ⊢
   simp (disch:=omega)only[go_sem,w1,w2,z1,z2,e1,e2, ↓shr_half,e3,e4,wn,ws]
   exact c
  ·have c:=gen a m (by omega) (by omega) (by omega) (by omega) (by omega) (.inl rfl) (.inl rfl)
   clear gen ih hk o hlr sL sR
   generalize dat id g n=D at c ⊢
   simp (disch:=omega)only[go_sem,w1,w2,z1,z2,e1,e2, ↓shr_half,e3,e4,wn]
   exact c
end Go.Proofs
namespace Go.Proofs
open Go Go.Abs
set_option maxRecDepth 100000
set_option linter.unusedSimpArgs false
theorem RowsIn.app{h:AH} {id g:Nat} {l:List RowA} (o:RowsIn h id g l)(t:AH):RowsIn (h++t) id g l:=(List.getElem?_append_left (List.getElem?_eq_some_iff.mp o).1).trans o
theorem insIn(G:Nat→Option AV) (id g:Nat) (T V:List RowA) (S:List Deco)(y:Deco)(h h4:AH) (I1:Nat→List AV→AH→Prop) (m3:Nat)(sS:SortedD S)(hlt:∀ x∈S,x.2<y.2)(o:RowsIn h4 id g (T++fst S++y.1::V)) {n a i:Nat} {b:AV} (hn0:n=(T++fst S++y.1::V).length)(hn9:n≤1000000000)(ha:a=T.length)(hi:i=T.length+S.length)
  (hk:∀ S':List Deco,S'.Perm (y::S)→SortedD S'→∀ H,RowsIn H id g (T++fst S'++V)→But id h4 H→nextR h I1 m3 [some (dat id g n),some (.v (.int .i64 a)),some b,some fnA] [some (dat id g n),some (.v (.int .i64 a)),some b,some fnA] [.v (.int .i64 ((i:Int)+1))] H) :
  Tryz.r156_l4_7 h G (dat id g n) (.v (.int .i64 a)) b fnA I1 m3 h4 i i:=by
 unfold Tryz.r156_l4_7
 have hn:n=T.length+S.length+1+V.length:=by rw[hn0];simp only[List.length_append,fst_len,List.length_cons];omega
 refine⟨fun q vs H=>∃ j:Nat,j≤S.length∧q=j∧RowsIn H id g (T++fst (S.take j)++y.1::(fst (S.drop j)++V))∧But id h4 H∧(∀ k x,j≤k→S[k]? = some x→dlt y x)∧vs = [.v (.int .i64 ((T.length+j:Nat):Int))],S.length,⟨S.length,by omega,rfl,?_,But.refl,(by intro k x hk' hx;rw[List.getElem?_eq_none hk']at hx;cases hx),by rw[hi]⟩,?_⟩
 ·rw[List.take_length,List.drop_length];exact o
 rintro q H hl1 hlow2 n11 ⟨j,hj,rfl,oH,bH,hhi,hvs⟩
 simp only[List.cons.injEq,AV.v.injEq,Value.int.injEq,true_and,and_true]at hvs
 subst hvs
 have stop:∀ H',RowsIn H' id g (T++fst (S.take q)++y.1::(fst (S.drop q)++V))→But id h4 H'→(∀ k x,k<q→S[k]? = some x→dlt x y)→nextR h I1 m3 [some (dat id g n),some (.v (.int .i64 a)),some b,some fnA] [some (dat id g n),some (.v (.int .i64 a)),some b,some fnA] [.v (.int .i64 ((i:Int)+1))] H':=fun H' oH' bH' hlo=>by
  refine hk (S.take q++y::S.drop q) put_perm (put_sorted sS hlo hhi) H' ?_ bH'
  have e:T++fst (S.take q++y::S.drop q)++V=T++fst (S.take q)++y.1::(fst (S.drop q)++V):=by simp[fst]
  rw[e];exact oH'
 by_cases h0:0<q
 ·obtain⟨p,rfl⟩:∃ p,q=p+1:=⟨q-1,by omega⟩
  obtain⟨x,hx⟩:∃ x,S[p]? = some x:=⟨_,List.getElem?_eq_getElem (by omega)⟩
  have tS:fst (S.take (p+1))=fst (S.take p) ++ [x.1]:=by rw[List.take_add_one,hx];simp[fst]
  have dS:fst (S.drop p)=x.1::fst (S.drop (p+1)):=by
   obtain⟨h1,h2⟩:=List.getElem?_eq_some_iff.mp hx
   rw[← List.getElem_cons_drop (h:=h1),h2];rfl
  have lX:(T++fst (S.take p)).length=T.length+p:=by rw[List.length_append,fst_len,List.length_take];omega
  have eo:T++fst (S.take (p+1))++y.1::(fst (S.drop (p+1))++V)=(T++fst (S.take p))++x.1::y.1::(fst (S.drop (p+1))++V):=by rw[tS];simp
  have oH2:=oH
  rw[eo]at oH2
  have ln:((T++fst (S.take p))++x.1::y.1::(fst (S.drop (p+1))++V)).length=n:=by
   simp only[List.length_append,List.length_cons,fst_len,List.length_take,List.length_drop];omega
  have w1:IntKind.i64.wrap (((T.length+(p+1):Nat):Int)-1)=((T.length+p:Nat):Int):=by rw[wrap64_of (by omega) (by omega)];omega
  have w2:aBin Tryz.prog .sub 3 (.v (.int .i64 ((T.length+(p+1):Nat):Int))) (.v (.int .i64 1))=some (.v (.int .i64 ((T.length+p:Nat):Int))):=by
   simp only[aBin,aInt,chk,if_true,w1]
  have ev:∀ t,aIA Tryz.prog (H++t) 47 (dat id g n) (.v (.int .i64 ((T.length+p:Nat):Int)))=some (.ptr id g (T.length+p) 0):=fun t=>(oH2.app t).ia (by omega) ln.symm
  have ew:∀ t,aIA Tryz.prog (H++t) 47 (dat id g n) (.v (.int .i64 ((T.length+(p+1):Nat):Int)))=some (.ptr id g (T.length+(p+1)) 0):=fun t=>(oH2.app t).ia (by omega) ln.symm
  have ev0:=ev []
  have ew0:=ew []
  rw[List.append_nil]at ev0 ew0
  have lv:∀ t,Go.Abs.rowAt (H++t) (.ptr id g (T.length+p) 0)=some (x.1.cells,0):=fun t=>(oH2.app t).ld (by rw[← lX];exact at0)
  have lw:∀ t,Go.Abs.rowAt (H++t) (.ptr id g (T.length+(p+1)) 0)=some (y.1.cells,0):=fun t=>(oH2.app t).ld (by rw[← Nat.add_assoc,← lX];exact at1)
  have lv0:=lv []
  have lw0:=lw []
  rw[List.append_nil]at lv0 lw0
  have o3:∀ t:AH,RowsIn (H++t) id g ((T++fst (S.take p))++x.1::y.1::(fst (S.drop (p+1))++V)):=fun t=>oH2.app t
  have hxy:=hlt x (List.mem_of_getElem? hx)
  have ei:∀(H2:AH) (l:List RowA),RowsIn H2 id g l→l.length=n→aIA Tryz.prog H2 47 (dat id g n) (.v (.int .i64 ((T.length+p:Nat):Int)))=some (.ptr id g (T.length+p) 0):=fun H2 l ho hl=>ho.ia (by omega) hl.symm
  generalize dat id g n=D at ev ew ev0 ew0 ei stop ⊢
  simp (disch:=omega)only[go_sem, ↓w2,w1,ev0,ew0,lv0,lw0]
  refine⟨all1_call G y.1 x.1 _ _ fun z t hz=>?_⟩
  cases hbl:bl y.1.key x.1.key with
  | false=>
   rw[hbl]at hz
   have hz:¬ z<0:=by simpa using hz
   simp (disch:=omega)only[go_sem]
   refine stop _ (oH.app t) (bH.trans (But.app t)) fun k u hk' hu=>?_
   by_cases he:k=p
   ·subst he;rw[hx]at hu;obtain rfl:=Option.some.inj hu;exact dlt_left hxy hbl
   ·exact dlt_trans (sS.at (by omega) hu hx) (dlt_left hxy hbl)
  | true=>
   rw[hbl]at hz
   have hz:z<0:=by simpa using hz
   simp (disch:=omega)only[go_sem,w1,ev,ew,lv,lw]
   refine(o3 t).st (k:=T.length+(p+1)) (r:=x.1) (by omega) ?_
   have o4:RowsIn ((H++t).set id (some (.cells 131 3 ((((T++fst (S.take p))++x.1::y.1::(fst (S.drop (p+1))++V)).set (T.length+(p+1)) x.1).map RowA.cells) g))) id g (((T++fst (S.take p))++x.1::y.1::(fst (S.drop (p+1))++V)).set (T.length+(p+1)) x.1):=List.getElem?_set_self (List.getElem?_eq_some_iff.mp (o3 t)).1
   have i4:=ei _ _ o4 (by rw[List.length_set];exact ln)
   simp (disch:=omega)only[okV_some,w1,i4,storeR_eq,storeV_ptr]
   refine o4.st (k:=T.length+p) (r:=y.1) (by rw[List.length_set];omega) ?_
   have sw:=swap2' (X:=T++fst (S.take p)) (Y:=fst (S.drop (p+1))++V) (u:=x.1) (v:=y.1)
   rw[lX]at sw
   rw[List.set_set,← Nat.add_assoc,sw]
   refine next_keep p (by omega) (by simp;omega) ⟨p,by omega,rfl,?_,(bH.trans (But.app t)).trans But.set,?_,rfl⟩
   ·rw[dS]
    exact List.getElem?_set_self (List.getElem?_eq_some_iff.mp (o3 t)).1
   ·intro k u hk' hu
    by_cases he:k=p
    ·subst he;rw[hx]at hu;obtain rfl:=Option.some.inj hu;exact dlt_right hxy hbl
    ·exact hhi k u (by omega) hu
 ·have:q=0:=by omega
  subst this
  have s0:=stop H oH bH (by omega)
  generalize dat id g n=D at s0 ⊢
  simp (disch:=omega)only[go_sem]
  exact s0
end Go.Proofs
namespace Go.Proofs
open Go Go.Abs
set_option maxRecDepth 100000
set_option linter.unusedSimpArgs false
theorem insSort_call(G:Nat→Option AV) (id g:Nat) (T U:List RowA) (X:List Deco)(h:AH) (K:AV→AH→Prop)(hX:X.Pairwise fun x y=>x.2<y.2)(o:RowsIn h id g (T++fst X++U)) {n a b:Nat} (hn0:n=(T++fst X++U).length)(hn9:n≤1000000000)(ha:a=T.length)(hb:b=T.length+X.length)
  (hk:∀(S:List Deco) h',S.Perm X→SortedD S→RowsIn h' id g (T++fst S++U)→But id h h'→K (.tup []) h'):SCall Tryz.prog G 156 [dat id g n, .v (.int .i64 a), .v (.int .i64 b),fnA] h K:=by
 refine Tryz.c156 G _ _ _ _ h K fun hlow=>?_
 unfold Tryz.r156
 have hn:n=T.length+X.length+U.length:=by rw[hn0];simp only[List.length_append,fst_len]
 have w0:IntKind.i64.wrap ((a:Int)+1)=((T.length+1:Nat):Int):=by rw[wrap64_of (by omega) (by omega)];omega
 simp only[okInt_mk,w0]
 unfold Tryz.r156_l1_1
 by_cases hz:X = []
 ·subst hz
  refine⟨fun q vs H=>q=0∧H=h∧vs = [.v (.int .i64 ((T.length+1:Nat):Int))],0,⟨rfl,rfl,rfl⟩,?_⟩
  rintro q H hl1 hlow2 n5 ⟨rfl,rfl,hvs⟩
  simp only[List.cons.injEq,AV.v.injEq,Value.int.injEq,true_and,and_true]at hvs
  subst hvs
  have c:=hk [] H (List.Perm.refl _) List.Pairwise.nil o But.refl
  simp only[List.length_nil,Nat.add_zero]at hb
  have hlt:decide (((T.length+1:Nat):Int)<(b:Int))=false:=decide_eq_false (by omega)
  simp only[okInt_mk,hlt,condB_false]
  exact ret_keep c
 have hX1:=List.length_pos_iff.mpr hz
 refine⟨fun q vs H=>∃(p:Nat) (S:List Deco),1≤p∧p≤X.length∧q=X.length-p∧S.Perm (X.take p)∧SortedD S∧RowsIn H id g (T++fst S++(fst (X.drop p)++U))∧But id h H∧vs = [.v (.int .i64 ((T.length+p:Nat):Int))],X.length-1,⟨1,X.take 1,by omega,by omega,rfl,List.Perm.refl _,?_,?_,But.refl,rfl⟩,?_⟩
 ·match X,hX1 with
  | x::_,_=>exact List.pairwise_singleton _ _
 ·have e:T++fst (X.take 1)++(fst (X.drop 1)++U)=T++fst X++U:=by
   have:fst X=fst (X.take 1)++fst (X.drop 1):=by rw[← List.map_append,List.take_append_drop]
   rw[this];simp only[List.append_assoc]
  rw[e];exact o
 rintro q H hl1 hlow2 n5 ⟨p,S,hp1,hp,rfl,pS,sS,oH,bH,hvs⟩
 simp only[List.cons.injEq,AV.v.injEq,Value.int.injEq,true_and,and_true]at hvs
 subst hvs
 have lS:=pS.length_eq
 rw[List.length_take]at lS
 by_cases hlt:p<X.length
 ·obtain⟨y,hy⟩:∃ y,X[p]? = some y:=⟨_,List.getElem?_eq_getElem hlt⟩
  have dX:X.drop p=y::X.drop (p+1):=by
   obtain⟨h1,h2⟩:=List.getElem?_eq_some_iff.mp hy
   rw[← h2,List.getElem_cons_drop]
  have tX:X.take (p+1)=X.take p ++ [y]:=by rw[List.take_add_one,hy];rfl
  have hlo:∀ x∈S,x.2<y.2:=by
   intro x hx
   have hx:=(List.Perm.mem_iff pS).mp hx
   obtain⟨i,hi⟩:=List.mem_iff_getElem?.mp hx
   rw[List.getElem?_take]at hi
   split at hi
   ·rename_i hip
    obtain⟨a1,a2⟩:=List.getElem?_eq_some_iff.mp hi
    obtain⟨b1,b2⟩:=List.getElem?_eq_some_iff.mp hy
    have:=List.pairwise_iff_getElem.mp hX i p a1 b1 hip
    rw[a2,b2]at this
    exact this
   ·cases hi
  have eo:T++fst S++(fst (X.drop p)++U)=T++fst S++y.1::(fst (X.drop (p+1))++U):=by rw[dX];rfl
  rw[eo]at oH
  have hd:decide (((T.length+p:Nat):Int)<(b:Int))=true:=decide_eq_true (by omega)
  simp only[okInt_mk,hd,condB_true]
  refine insIn G id g T (fst (X.drop (p+1))++U) S y h H _ _ sS hlo oH (by simp only[List.length_append,List.length_cons,fst_len,List.length_drop];omega) hn9 ha (by omega) fun S' p' s' H' oH' bH'=>?_
  have en:((T.length+p:Nat):Int)+1=((T.length+(p+1):Nat):Int):=by omega
  rw[en]
  have hle:h.length≤H'.length:=Nat.le_trans hl1 bH'.1
  refine next_keep (X.length-(p+1)) (by omega) hle ⟨p+1,S',by omega,by omega,rfl,?_,s',oH',bH.trans bH',rfl⟩
  rw[tX]
  exact p'.trans ((List.Perm.cons y pS).trans (List.perm_append_comm (l₁:= [y]) (l₂:=X.take p)))
 ·have:p=X.length:=by omega
  subst this
  rw[List.take_length]at pS
  rw[List.drop_length]at oH
  have c:=hk S H pS sS oH bH
  have hd:decide (((T.length+X.length:Nat):Int)<(b:Int))=false:=decide_eq_false (by omega)
  simp only[okInt_mk,hd,condB_false]
  exact ret_keep c
end Go.Proofs
namespace Go.Proofs
open Go Go.Abs
set_option maxRecDepth 100000
set_option linter.unusedSimpArgs false
theorem stablePass(G:Nat→Option AV) (id g:Nat) (O:List Deco)(F:List (List Deco)) (Lt:List Deco) (k n:Nat)(h11 h15:AH) (I12:Nat→List AV→AH→Prop) (m14:Nat)(hO:O.length=n)(hn9:n≤1000000000)(hk0:0<k)(hkn:k<n)(b:Blk O k F Lt)(o:RowsIn h15 id g (fst (F.flatten++Lt)))
  (hk:∀ F' Lt' H',Blk O (2*k) F' Lt'→RowsIn H' id g (fst (F'.flatten++Lt'))→But id h15 H'→nextR h11 I12 m14 [some (dat id g n),some (.v (.int .i64 n)),some fnA] [some (dat id g n),some (.v (.int .i64 n)),some fnA] [.v (.int .i64 ((2*k:Nat):Int))] H') :
  Tryz.r115_l9_18 G (dat id g n) (.v (.int .i64 n)) fnA h11 I12 m14 h15 k 0 ((2*k:Nat):Int):=by
 unfold Tryz.r115_l9_18
 refine⟨fun q vs H=>∃(F1 F2:List (List Deco)) (Lt:List Deco),Pass O k F1 F2 Lt∧q=n-2*k*F1.length∧RowsIn H id g (fst (F1.flatten++(F2.flatten++Lt)))∧But id h15 H∧vs = [.v (.int .i64 ((2*k*F1.length:Nat):Int)), .v (.int .i64 ((2*k*F1.length+2*k:Nat):Int))],n,⟨[],F,Lt,Pass.start b,by simp,by simpa using o,But.refl,by simp⟩,?_⟩
 rintro q H hl1 hlow2 n22 n23 ⟨F1,F2,Lt,p,rfl,oH,bH,hvs⟩
 simp only[List.cons.injEq,AV.v.injEq,Value.int.injEq,true_and,and_true]at hvs
 obtain⟨rfl,rfl⟩:=hvs
 have len:=p.perm.length_eq
 rw[List.length_append,List.length_append,full_len (fun B hB=>(p.done B hB).1),full_len (fun B hB=>(p.full B hB).1),hO]at len
 have l1:F1.flatten.length=2*k*F1.length:=full_len fun B hB=>(p.done B hB).1
 generalize hA:2*k*F1.length=A at *
 have hlast:=p.last.1
 have wa:IntKind.i64.wrap ((A:Int)+(k:Int))=((A+k:Nat):Int):=by rw[wrap64_of (by omega) (by omega)];omega
 have w2:IntKind.i64.wrap (2*(k:Int))=((2*k:Nat):Int):=by rw[wrap64_of (by omega) (by omega)];omega
 have wb:IntKind.i64.wrap (((A+2*k:Nat):Int)+((2*k:Nat):Int))=((A+2*k+2*k:Nat):Int):=by rw[wrap64_of (by omega) (by omega)];omega
 have wk:IntKind.i64.wrap ((k:Int)*2)=((2*k:Nat):Int):=by rw[wrap64_of (by omega) (by omega)];omega
 have two:∀(B C:List Deco) (F2:List (List Deco)) (Lt:List Deco),Pass O k F1 (B::C::F2) Lt→RowsIn H id g (fst (F1.flatten++((B::C::F2).flatten++Lt)))→∀ K:AV→AH→Prop,(∀(S:List Deco) (H':AH),Pass O k (F1 ++ [S]) F2 Lt→RowsIn H' id g (fst ((F1 ++ [S]).flatten++(F2.flatten++Lt)))→But id H H'→K (.tup []) H')→callR Tryz.prog G 157 [dat id g n, .v (.int .i64 (A:Int)), .v (.int .i64 ((A+k:Nat):Int)), .v (.int .i64 ((A+2*k:Nat):Int)),fnA] H K:=by
  intro B C F2 Lt p oH K hK
  have hB:=p.full B (by simp)
  have hC:=p.full C (by simp)
  have len:=p.perm.length_eq
  rw[List.length_append,List.length_append,full_len (fun B hB=>(p.full B hB).1),hO,l1]at len
  simp only[List.length_cons,Nat.mul_succ]at len
  have hap:Ahead B C:=by
   have:=(List.pairwise_append.mp p.apart).2.1
   simp only[List.cons_append,List.pairwise_cons]at this
   exact this.1 C (by simp)
  have e:fst (F1.flatten++((B::C::F2).flatten++Lt))=fst F1.flatten++fst B++fst C++fst (F2.flatten++Lt):=by simp[fst]
  rw[e]at oH
  have il:=(List.getElem?_eq_some_iff.mp oH).1
  have ln:(fst F1.flatten++fst B++fst C++fst (F2.flatten++Lt)).length=n:=by
   simp only[List.length_append,fst_len,full_len (fun B hB=>(p.full B (List.mem_cons_of_mem _ (List.mem_cons_of_mem _ hB))).1)];omega
  refine⟨symMerge_ok G id g (B.length+C.length) B C (fst F1.flatten) (fst (F2.flatten++Lt)) H _ (Nat.le_refl _) (List.length_pos_iff.mp (by omega)) (List.length_pos_iff.mp (by omega)) hB.2 hC.2 hap oH (by omega) n A (A+k) (A+2*k) ln.symm (by rw[fst_len];omega) (by rw[fst_len];omega) (by rw[fst_len];omega) fun S pS sS=>?_⟩
  refine hK S _ (p.step pS sS) ?_ But.set
  have e2:fst ((F1 ++ [S]).flatten++(F2.flatten++Lt))=fst F1.flatten++fst S++fst (F2.flatten++Lt):=by simp[fst]
  rw[e2]
  exact List.getElem?_set_self il
 have nxt:∀(S:List Deco) (F2:List (List Deco)) (Lt:List Deco) (H':AH),Pass O k (F1 ++ [S]) F2 Lt→RowsIn H' id g (fst ((F1 ++ [S]).flatten++(F2.flatten++Lt)))→But id H H'→A+2*k≤n→∀ ks,nextR h15 (fun q vs H=>∃(F1 F2:List (List Deco)) (Lt:List Deco),Pass O k F1 F2 Lt∧q=n-2*k*F1.length∧RowsIn H id g (fst (F1.flatten++(F2.flatten++Lt)))∧But id h15 H∧vs = [.v (.int .i64 ((2*k*F1.length:Nat):Int)), .v (.int .i64 ((2*k*F1.length+2*k:Nat):Int))]) (n-A) ks ks [.v (.int .i64 ((A+2*k:Nat):Int)), .v (.int .i64 ((A+2*k+2*k:Nat):Int))] H':=by
  intro S F2 Lt H' p' o' b' hle ks
  have e:2*k*(F1 ++ [S]).length=A+2*k:=by rw[List.length_append,List.length_cons,List.length_nil,Nat.mul_add,hA];omega
  exact next_keep (n-(A+2*k)) (by omega) (Nat.le_trans hl1 b'.1) ⟨F1 ++ [S],F2,Lt,p',by rw[e],o',bH.trans b',by rw[e]⟩
 by_cases hc:A+2*k≤n
 ·have hd:decide (((A+2*k:Nat):Int)≤(n:Int))=true:=decide_eq_true (by omega)
  match F2,p,oH,len with
  | [],p,oH,len=>simp only[List.length_nil,Nat.mul_zero]at len;omega
  | [B],p,oH,len=>
   simp only[List.length_cons,List.length_nil,Nat.zero_add,Nat.mul_one]at len
   have hl:Lt.length=k:=by omega
   simp only[okInt_mk,hd,condB_true,wa,w2,wb]
   exact two B Lt [] [] (p.lift hl) (by simpa using oH) _ (fun S H' p' o' b'=>nxt S [] [] H' p' o' b' hc _)
  | B::C::F2,p,oH,len=>
   simp only[okInt_mk,hd,condB_true,wa,w2,wb]
   exact two B C F2 Lt p oH _ (fun S H' p' o' b'=>nxt S F2 Lt H' p' o' b' hc _)
 ·have hd:decide (((A+2*k:Nat):Int)≤(n:Int))=false:=decide_eq_false (by omega)
  match F2,p,oH,len with
  | [],p,oH,len=>
   simp only[List.length_nil,Nat.mul_zero]at len
   have hd2:decide (((A+k:Nat):Int)<(n:Int))=false:=decide_eq_false (by omega)
   have c:=hk F1 Lt H p.stop (by simpa using oH) bH
   simp only[okInt_mk,hd,condB_false,wa,hd2,wk]
   exact c
  | [B],p,oH,len=>
   simp only[List.length_cons,List.length_nil,Nat.zero_add,Nat.mul_one]at len
   have hB:=p.full B (by simp)
   by_cases hz:Lt = []
   ·subst hz
    have hd2:decide (((A+k:Nat):Int)<(n:Int))=false:=decide_eq_false (by simp only[List.length_nil]at len;omega)
    have c:=hk F1 B H (p.stepLast (S:=B) (by simp) hB.2) (by simpa using oH) bH
    simp only[okInt_mk,hd,condB_false,wa,hd2,wk]
    exact c
   ·have hz1:=List.length_pos_iff.mpr hz
    have hd2:decide (((A+k:Nat):Int)<(n:Int))=true:=decide_eq_true (by omega)
    have hap:Ahead B Lt:=by
     have:=(List.pairwise_append.mp p.apart).2.1
     simp only[List.cons_append,List.nil_append,List.pairwise_cons]at this
     exact this.1 Lt (by simp)
    have e:fst (F1.flatten++([B].flatten++Lt))=fst F1.flatten++fst B++fst Lt ++ []:=by simp[fst]
    rw[e]at oH
    have il:=(List.getElem?_eq_some_iff.mp oH).1
    have ln:(fst F1.flatten++fst B++fst Lt ++ []).length=n:=by simp only[List.length_append,fst_len,List.length_nil];omega
    have c:callR Tryz.prog G 157 [dat id g n, .v (.int .i64 (A:Int)), .v (.int .i64 ((A+k:Nat):Int)), .v (.int .i64 (n:Int)),fnA] H (fun _ H'=>nextR h11 I12 m14 [some (dat id g n),some (.v (.int .i64 n)),some fnA] [some (dat id g n),some (.v (.int .i64 n)),some fnA] [.v (.int .i64 ((2*k:Nat):Int))] H'):=by
     refine⟨symMerge_ok G id g (B.length+Lt.length) B Lt (fst F1.flatten) [] H _ (Nat.le_refl _) (List.length_pos_iff.mp (by omega)) hz hB.2 p.last.2 hap oH (by omega) n A (A+k) n ln.symm (by rw[fst_len];omega) (by rw[fst_len];omega) (by rw[fst_len];omega) fun S pS sS=>?_⟩
     refine hk F1 S _ (p.stepLast pS sS) ?_ (bH.trans But.set)
     have e2:fst (F1.flatten++S)=fst F1.flatten++fst S ++ []:=by simp[fst]
     rw[e2]
     exact List.getElem?_set_self il
    simp only[okInt_mk,hd,condB_false,wa,hd2,condB_true,wk]
    exact c
  | B::C::F2,p,oH,len=>simp only[List.length_cons,Nat.mul_succ]at len;omega
end Go.Proofs
namespace Go.Proofs
open Go Go.Abs
set_option maxRecDepth 100000
set_option linter.unusedSimpArgs false
theorem stableCmp_call(G:Nat→Option AV) (id g:Nat) (O:List Deco) (n:Nat)(h:AH) (K:AV→AH→Prop)(hO:O.Pairwise fun x y=>x.2<y.2)(hn:n=O.length)(hn9:n≤100000000)(o:RowsIn h id g (fst O))
  (hk:∀(S:List Deco) h',S.Perm O→SortedD S→RowsIn h' id g (fst S)→But id h h'→K (.tup []) h'):SCall Tryz.prog G 115 [dat id g n, .v (.int .i64 n),fnA] h K:=by
 refine Tryz.c115 G _ _ _ h K fun hlow=>?_
 unfold Tryz.r115
 unfold Tryz.r115_l2_0
 refine⟨fun q vs H=>∃ F:List (List Deco),(∀ B∈F,B.length=20∧SortedD B)∧20*F.length≤n∧q=n-20*F.length∧(F ++ [O.drop (20*F.length)]).Pairwise Ahead∧(F.flatten++O.drop (20*F.length)).Perm O∧RowsIn H id g (fst (F.flatten++O.drop (20*F.length)))∧But id h H∧vs = [.v (.int .i64 ((20*F.length:Nat):Int)), .v (.int .i64 ((20*F.length+20:Nat):Int))],n,⟨[],by simp,by simp,by simp,by simp,by simp,by simpa using o,But.refl,by simp⟩,?_⟩
 rintro q H hl1 hlow2 n4 n5 ⟨F,hF,hle,rfl,hap,hperm,oH,bH,hvs⟩
 simp only[List.cons.injEq,AV.v.injEq,Value.int.injEq,true_and,and_true]at hvs
 obtain⟨rfl,rfl⟩:=hvs
 have l1:F.flatten.length=20*F.length:=full_len fun B hB=>(hF B hB).1
 generalize hA:20*F.length=A at *
 have wb:IntKind.i64.wrap (((A+20:Nat):Int)+20)=((A+20+20:Nat):Int):=by rw[wrap64_of (by omega) (by omega)];omega
 have pd:(O.drop A).Pairwise fun x y=>x.2<y.2:=List.Pairwise.sublist (List.drop_sublist _ _) hO
 by_cases hc:A+20≤n
 ·have hd:decide (((A+20:Nat):Int)≤(n:Int))=true:=decide_eq_true (by omega)
  have eD:O.drop A=(O.drop A).take 20++O.drop (A+20):=by
   have:=List.take_append_drop 20 (O.drop A)
   rw[List.drop_drop]at this
   exact this.symm
  have lX:((O.drop A).take 20).length=20:=by rw[List.length_take,List.length_drop];omega
  have ahead:Ahead ((O.drop A).take 20) (O.drop (A+20)):=by
   rw[eD,List.pairwise_append]at pd
   exact fun x hx y hy=>pd.2.2 x hx y hy
  have eo:fst (F.flatten++O.drop A)=fst F.flatten++fst ((O.drop A).take 20)++fst (O.drop (A+20)):=by
   conv=>lhs;rw[eD]
   simp only[fst,List.map_append,List.append_assoc]
  rw[eo]at oH
  simp only[okInt_mk,hd,condB_true,wb]
  refine⟨insSort_call G id g (fst F.flatten) (fst (O.drop (A+20))) ((O.drop A).take 20) H _ (List.Pairwise.sublist (List.take_sublist _ _) pd) oH (n:=n) (a:=A) (b:=A+20) (by simp only[List.length_append,fst_len,List.length_drop];omega) (by omega) (by rw[fst_len];omega) (by rw[fst_len];omega) fun S H' pS sS oH' bH'=>?_⟩
  have lS:S.length=20:=by rw[pS.length_eq];exact lX
  have e20:20*(F ++ [S]).length=A+20:=by rw[List.length_append,List.length_cons,List.length_nil];omega
  refine next_keep (n-(A+20)) (by omega) (Nat.le_trans hl1 bH'.1) ⟨F ++ [S],?_,by omega,by rw[e20],?_,?_,?_,bH.trans bH',by rw[e20]⟩
  ·intro B hB
   rcases List.mem_append.mp hB with hB|hB
   ·exact hF B hB
   ·rw[List.mem_singleton]at hB
    subst hB
    exact⟨lS,sS⟩
  ·rw[e20,List.append_assoc,List.pairwise_append]
   rw[List.pairwise_append]at hap
   refine⟨hap.1,List.pairwise_cons.mpr ⟨fun D hD=>?_,List.pairwise_singleton _ _⟩,fun D hD E hE x hx y hy=>?_⟩
   ·have hD:D ∈ [O.drop (A+20)]:=hD
    rw[List.mem_singleton]at hD
    subst hD
    exact ahead.perm pS (List.Perm.refl _)
   ·have hm:=hap.2.2 D hD (O.drop A) (by simp) x hx
    rcases List.mem_cons.mp hE with rfl|hE
    ·exact hm y (List.mem_of_mem_take ((List.Perm.mem_iff pS).mp hy))
    ·have hE:E ∈ [O.drop (A+20)]:=hE
     rw[List.mem_singleton]at hE
     subst hE
     refine hm y ?_
     rw[eD]
     exact List.mem_append_right _ hy
  ·rw[e20]
   refine List.Perm.trans ?_ hperm
   rw[List.flatten_append,List.flatten_cons,List.flatten_nil,List.append_nil,List.append_assoc]
   refine List.Perm.append_left _ ?_
   conv=>rhs;rw[eD]
   exact List.Perm.append_right _ pS
  ·rw[e20]
   have e:fst ((F ++ [S]).flatten++O.drop (A+20))=fst F.flatten++fst S++fst (O.drop (A+20)):=by simp[fst]
   rw[e];exact oH'
 ·have hd:decide (((A+20:Nat):Int)≤(n:Int))=false:=decide_eq_false (by omega)
  have eo:fst (F.flatten++O.drop A)=fst F.flatten++fst (O.drop A) ++ []:=by simp[fst]
  rw[eo]at oH
  simp only[okInt_mk,hd,condB_false]
  refine⟨insSort_call G id g (fst F.flatten) [] (O.drop A) H _ pd oH (n:=n) (a:=A) (b:=n) (by simp only[List.length_append,fst_len,List.length_drop,List.length_nil];omega) (by omega) (by rw[fst_len];omega) (by rw[fst_len,List.length_drop];omega) fun S h11 pS sS o11 b11=>?_⟩
  have lS:S.length=n-A:=by rw[pS.length_eq,List.length_drop];omega
  have b0:Blk O 20 F S:=⟨hF,⟨by omega,sS⟩,by
   rw[List.pairwise_append]at hap ⊢
   refine⟨hap.1,List.pairwise_singleton _ _,fun D hD E hE=>?_⟩
   rw[List.mem_singleton]at hE
   subst hE
   exact Ahead.perm (hap.2.2 D hD (O.drop A) (by simp)) (List.Perm.refl _) pS,(List.Perm.append_left _ pS).trans hperm⟩
  have o0:RowsIn h11 id g (fst (F.flatten++S)):=by
   have e:fst (F.flatten++S)=fst F.flatten++fst S ++ []:=by simp[fst]
   rw[e];exact o11
  have bh:But id h h11:=bH.trans b11
  unfold Tryz.r115_l7_12
  refine⟨fun q vs H=>∃(k:Nat) (F:List (List Deco)) (Lt:List Deco),20≤k∧k≤2*n+20∧q=3*n+100-k∧Blk O k F Lt∧RowsIn H id g (fst (F.flatten++Lt))∧But id h H∧vs = [.v (.int .i64 (k:Int))],3*n+80,⟨20,F,S,by omega,by omega,by omega,b0,o0,bh,rfl⟩,?_⟩
  rintro q H2 hl2 hlow3 n16 ⟨k,F2,Lt,hk20,hk2n,rfl,bk,oH2,bH2,hvs⟩
  simp only[List.cons.injEq,AV.v.injEq,Value.int.injEq,true_and,and_true]at hvs
  subst hvs
  have w2:IntKind.i64.wrap (2*(k:Int))=((2*k:Nat):Int):=by rw[wrap64_of (by omega) (by omega)];omega
  by_cases hkn:k<n
  ·have hd2:decide ((k:Int)<(n:Int))=true:=decide_eq_true (by omega)
   simp only[okInt_mk,hd2,condB_true,w2]
   refine stablePass G id g O F2 Lt k n h11 H2 _ _ hn.symm (by omega) (by omega) hkn bk oH2 fun F' Lt' H' b' o' bb=>?_
   exact next_keep (3*n+100-2*k) (by omega) (Nat.le_trans hl2 bb.1) ⟨2*k,F',Lt',by omega,by omega,rfl,b',o',bH2.trans bb,rfl⟩
  ·have hd2:decide ((k:Int)<(n:Int))=false:=decide_eq_false (by omega)
   have c:=hk _ H2 bk.perm (bk.all (by omega) (by omega)) oH2 bH2
   simp only[okInt_mk,hd2,condB_false]
   exact ret_keep c
theorem sortRows_call(G:Nat→Option AV) (id g:Nat) (O:List Deco) (n:Nat)(h:AH) (K:AV→AH→Prop)(hO:O.Pairwise fun x y=>x.2<y.2)(hn:n=O.length)(hn9:n≤100000000)(o:RowsIn h id g (fst O))
  (hk:∀(S:List Deco) h',S.Perm O→SortedD S→RowsIn h' id g (fst S)→But id h h'→K (.tup []) h'):SCall Tryz.prog G 64 [dat id g n,fnA] h K:=by
 refine Tryz.c64 G _ _ h K fun hlow=>?_
 unfold Tryz.r64
 have la:aLen Tryz.prog h 47 (dat id g n)=some (.v (.int .i64 (n:Int))):=by
  have e:((fst O).map RowA.cells).length=n:=by rw[List.length_map,fst_len,hn]
  have:=(Sees.all (e:=131) (n:=3) (rows:=(fst O).map RowA.cells) (fun r hr=>by obtain⟨x,_,rfl⟩:=List.mem_map.mp hr;rfl) o).len (P:=Tryz.prog) (t:=47) Tryz.und47
  rw[e]at this
  exact this
 simp only[la,okInt_mk]
 refine⟨stableCmp_call G id g O n h _ hO hn hn9 o fun S h' p s o' b=>?_⟩
 exact ret_keep (hk S h' p s o' b)
end Go.Proofs
namespace Go.Proofs
open Go Go.Abs
set_option maxRecDepth 100000
set_option linter.unusedSimpArgs false
theorem insNil_call(G:Nat→Option AV)(h:AH) (K:AV→AH→Prop)(hk:K (.tup []) h):SCall Tryz.prog G 156 [.v (.slice none 0 0), .v (.int .i64 0), .v (.int .i64 0),fnA] h K:=by
 refine Tryz.c156 G _ _ _ _ h K fun hlow=>?_
 unfold Tryz.r156
 simp (disch:=omega)only[go_sem]
 unfold Tryz.r156_l1_1
 refine⟨fun q vs H=>q=0∧H=h∧vs = [.v (.int .i64 1)],0,⟨rfl,rfl,rfl⟩,?_⟩
 rintro q H hl1 hlow2 n5 ⟨rfl,rfl,hvs⟩
 simp only[List.cons.injEq,AV.v.injEq,Value.int.injEq,true_and,and_true]at hvs
 subst hvs
 simp (disch:=omega)only[go_sem]
 exact ret_same hk
theorem sortNil_call(G:Nat→Option AV)(h:AH) (K:AV→AH→Prop)(hk:K (.tup []) h):SCall Tryz.prog G 64 [.v (.slice none 0 0),fnA] h K:=by
 refine Tryz.c64 G _ _ h K fun hlow=>?_
 unfold Tryz.r64
 have st:SCall Tryz.prog G 115 [.v (.slice none 0 0), .v (.int .i64 0),fnA] h (fun _ h2=>RetR h K (.tup []) h2):=by
  refine Tryz.c115 G _ _ _ h _ fun hlow=>?_
  unfold Tryz.r115
  unfold Tryz.r115_l2_0
  refine⟨fun q vs H=>q=0∧H=h∧vs = [.v (.int .i64 0), .v (.int .i64 20)],0,⟨rfl,rfl,rfl⟩,?_⟩
  rintro q H hl1 hlow2 n4 n5 ⟨rfl,rfl,hvs⟩
  simp only[List.cons.injEq,AV.v.injEq,Value.int.injEq,true_and,and_true]at hvs
  obtain⟨rfl,rfl⟩:=hvs
  simp (disch:=omega)only[go_sem]
  refine⟨insNil_call G H _ ?_⟩
  unfold Tryz.r115_l7_12
  refine⟨fun q vs H'=>q=0∧H'=H∧vs = [.v (.int .i64 20)],0,⟨rfl,rfl,rfl⟩,?_⟩
  rintro q H' hl2 hlow3 n6 ⟨rfl,rfl,hvs⟩
  simp only[List.cons.injEq,AV.v.injEq,Value.int.injEq,true_and,and_true]at hvs
  subst hvs
  simp (disch:=omega)only[go_sem]
  exact ret_same (ret_same hk)
 simp (disch:=omega)only[go_sem,aLen_nil]
 exact⟨st⟩
theorem zip_rise{α:Type} : ∀(l:List α) (n:Nat),(l.zipIdx n).Pairwise (fun x y=>x.2<y.2)
 | [],_=>List.Pairwise.nil
 | a::l,n=>by
  rw[List.zipIdx_cons,List.pairwise_cons]
  refine⟨fun y hy=>?_,zip_rise l (n+1)⟩
  have:=List.le_snd_of_mem_zipIdx hy
  simp only
  omega
abbrev prow(p:Nat):List AV:= [.ptr p 0 0 0]
structure TabsAt (h:AH) (a:AV) (ps:List Nat)(ls:List (List RowA)):Prop where
 own:Own 87 1 h a (ps.map prow)
 len:ps.length=ls.length
 tab:∀(i p:Nat) (l:List RowA),ps[i]? = some p→ls[i]? = some l→TabAt h p l
theorem TabsAt.grew{h h':AH} {a:AV} {ps:List Nat} {ls:List (List RowA)} (T:TabsAt h a ps ls)(g:Grew h h'):TabsAt h' a ps ls:=
 ⟨by obtain⟨t,rfl⟩:=g.ex;exact T.own.more t,T.len,fun i p l h1 h2=>(T.tab i p l h1 h2).grew g⟩
theorem lbK_nil(l:List RowA):lbK l []=0:=by
 refine lbK_eq (Nat.zero_le _) (fun j r hj=>absurd hj (Nat.not_lt_zero _)) (fun r _=>?_)
 cases r.key <;> rfl
theorem endsK_nil(l:List RowA):endsK l [] []=(0,l.length):=by
 unfold endsK
 rw[lbK_nil]
 simp
theorem ptrNeq(p:Nat):aBin Tryz.prog .neq 87 (.ptr p 0 0 0) (.v (.pointer none))=some (.v (.bool true)):=by kernel_rfl
theorem all_call(G:Nat→Option AV) (a:AV) (ps:List Nat)(ls:List (List RowA))(h:AH) (K:AV→AH→Prop)(T:TabsAt h a ps ls)(hl:ls.length≤1000)(htot:ls.flatten.length≤10000000)
  (hk:∀(S:List Deco) v h',S.Perm ls.flatten.zipIdx→SortedD S→Mine 131 3 h' v ((fst S).map RowA.cells)→Grew h h'→(∀ j,j<h.length→Off v j)→K v h'):SCall Tryz.prog G 23 [a] h K:=by
 refine Tryz.c23 G _ h K fun hlow=>?_
 unfold Tryz.r23
 have e0:(ByteArray.mk #[])=bs []:=rfl
 have la:=T.own.sees.len (P:=Tryz.prog) (t:=51) Tryz.und51
 rw[List.length_map]at la
 simp (disch:=omega)only[go_sem,la]
 unfold Tryz.r23_l3_1
 refine⟨fun m vs H=>∃(k:Nat) (x:AV),k≤ls.length∧m=ls.length-k∧Mine 131 3 H x ((ls.take k).flatten.map RowA.cells)∧Grew h H∧(∀ j,j<h.length→Off x j)∧vs = [x, .v (.int .i64 k)],ls.length,⟨0,_,by omega,rfl,by simpa using Mine.nil,⟨[],by simp⟩,(fun id _ _ g o l c hx=>by cases hx),rfl⟩,?_⟩
 rintro m H hl1 hlow2 x' n ⟨k,x,hkk,rfl,mi,g,offs,hvs⟩
 simp only[List.cons.injEq,AV.v.injEq,Value.int.injEq,true_and,and_true]at hvs
 obtain⟨rfl,rfl⟩:=hvs
 have hlen:=T.len
 have gl:=g.len
 by_cases hkl:k<ls.length
 ·obtain⟨l,hlk⟩:∃ l,ls[k]? = some l:=⟨_,List.getElem?_eq_getElem hkl⟩
  obtain⟨p,hpk⟩:∃ p,ps[k]? = some p:=⟨_,List.getElem?_eq_getElem (by omega)⟩
  have TH:=(T.tab k p l hpk hlk).grew g
  have ew:IntKind.i64.wrap ((k:Int)+1)=((k+1:Nat):Int):=by rw[wrap64_of (by omega) (by omega)];omega
  obtain⟨q,q1,q2,_⟩:=(T.grew g).own.sees.iaAll (P:=Tryz.prog) (ty:=51) (k:= .i64) (i:=(k:Int)) (r:=prow p) Tryz.und51 Tryz.siz87 (by omega) (by simp[hpk])
  have q1:=q1 []
  have q2:=q2 []
  rw[List.append_nil]at q1 q2
  simp (disch:=omega)only[go_sem,q1,q2,e0]
  simp (disch:=omega)only[ptrNeq,okBool_mk,condB_true]
  refine⟨tbRows_call G p l [] [] H _ TH fun v h11 acc=>?_⟩
  rw[endsK_nil]at acc
  simp only[List.drop_zero,Nat.sub_zero,List.take_length]at acc
  obtain⟨t,rfl⟩:=acc.tail
  have tlen:(ls.take (k+1)).flatten.length≤10000000:=by
   refine Nat.le_trans ?_ htot
   have:ls.flatten=(ls.take (k+1)).flatten++(ls.drop (k+1)).flatten:=by rw[← List.flatten_append,List.take_append_drop]
   rw[this,List.length_append];omega
  have tk:(ls.take (k+1)).flatten=(ls.take k).flatten++l:=by rw[List.take_add_one,hlk];simp
  rw[tk,List.length_append]at tlen
  refine(mi.more t).append (new:=l.map RowA.cells) Tryz.und47 Tryz.azero131 Tryz.byt131 (by exact Tryz.plainSrc47) acc.sees.src (by simp) (by
   rintro⟨s,rfl⟩
   cases acc) (by simp only[List.length_map];omega) (by simp only[List.length_map];omega) fun v' h' m' hle st=>?_
  simp only[List.length_append]at hle
  have below:∀ j,j<h.length→h'[j]? = H[j]? ∧ Off v' j:=fun j hj=>by
   obtain⟨e1,e2⟩:=st j (by simp;omega) (offs j hj)
   rw[e1,List.getElem?_append_left (by omega)]
   exact⟨rfl,e2⟩
  obtain⟨t2,ht2⟩:=g.ex
  rw[ew]
  refine next_keep (ls.length-(k+1)) (by omega) (by omega) ⟨k+1,v',by omega,rfl,?_,Grew.mk (ext_of (h:=h) (h':=h') (by omega) fun j hj=>by rw[(below j hj).1,ht2,List.getElem?_append_left hj]),fun j hj=>(below j hj).2,rfl⟩
  rw[tk,List.map_append]
  exact m'
 ·have:k=ls.length:=by omega
  subst this
  rw[List.take_length]at mi
  simp (disch:=omega)only[go_sem]
  have hO:=zip_rise ls.flatten 0
  have fO:fst ls.flatten.zipIdx=ls.flatten:=by
   unfold fst
   exact List.zipIdx_map_fst 0 ls.flatten
  have lO:ls.flatten.zipIdx.length=ls.flatten.length:=List.length_zipIdx
  generalize hR:ls.flatten.map RowA.cells=rows at mi
  cases mi with
  | nil=>
   have hz:ls.flatten = []:=List.map_eq_nil_iff.mp hR
   refine⟨sortNil_call G H _ ?_⟩
   exact ret_keep (hk [] _ H (by rw[hz];exact List.Perm.refl _) List.Pairwise.nil .nil g offs)
  | @obj id gg rows hr ho=>
   subst hR
   have e:AV.sl id gg 0 (ls.flatten.map RowA.cells).length none=dat id gg ls.flatten.length:=by rw[List.length_map]
   rw[e]
   refine⟨sortRows_call G id gg ls.flatten.zipIdx ls.flatten.length H _ hO lO.symm (by omega) (by rw[fO];exact ho) fun S h' pS sS oS bS=>?_⟩
   have lS:S.length=ls.flatten.length:=by rw[pS.length_eq];exact lO
   have hid:∀ j,j<h.length→j≠id:=fun j hj=>fun e=>offs j hj id gg 0 _ none rfl e.symm
   obtain⟨t2,ht2⟩:=g.ex
   have m':Mine 131 3 h' (.sl id gg 0 ((fst S).map RowA.cells).length none) ((fst S).map RowA.cells):= .obj (fun r hr=>by obtain⟨x,_,rfl⟩:=List.mem_map.mp hr;rfl) oS
   have e2:AV.sl id gg 0 ((fst S).map RowA.cells).length none=dat id gg ls.flatten.length:=by rw[List.length_map,fst_len,lS]
   rw[e2]at m'
   refine ret_keep (hk S _ h' pS sS m' (Grew.mk (ext_of (h:=h) (h':=h') (by have:=bS.1;omega) fun j hj=>by rw[bS.2 j (by omega) (hid j hj),ht2,List.getElem?_append_left hj])) fun j hj=>?_)
   intro id' g' o' l' c' hx hj'
   simp only[AV.sl.injEq]at hx
   exact hid j hj (by omega)
end Go.Proofs
namespace Go.Proofs
open Go Go.Abs
set_option maxRecDepth 100000
set_option linter.unusedSimpArgs false
theorem tabIndex_call(G:Nat→Option AV) (a:AV) (l:List Nat) (p:Nat)(h:AH) (K:AV→AH→Prop)(ha:Sees h 1 a (l.map prow))(hl:l.length≤1000000)(hp:∃ x,h[p]? = some (some (.cells 160 1 [[x]] 0)))(hall:∀ q∈l,∃ x,h[q]? = some (some (.cells 160 1 [[x]] 0)))
  (hk1:p∈l→∀ i:Nat,i<l.length→K (.v (.int .i64 (i:Int))) h)(hk2:p∉l→K (.v (.int .i64 (-1))) h):SCall Tryz.prog G 159 [a, .ptr p 0 0 0] h K:=by
 refine Tryz.c159 G _ _ h K fun hlow=>?_
 unfold Tryz.r159
 have la:=ha.len (P:=Tryz.prog) (t:=51) Tryz.und51
 rw[List.length_map]at la
 simp (disch:=omega)only[go_sem,la]
 unfold Tryz.r159_l2_1
 refine⟨fun m vs h'=>∃ k:Nat,k≤l.length∧m=l.length-k∧h'=h∧p∉l.take k∧vs = [.v (.int .i64 k)],l.length,⟨0,by omega,rfl,rfl,by simp,rfl⟩,?_⟩
 rintro m h' hl1 hlow2 n ⟨k,hkk,rfl,rfl,hno,hvs⟩
 simp only[List.cons.injEq,AV.v.injEq,Value.int.injEq,true_and,and_true]at hvs
 subst hvs
 by_cases hkl:k<l.length
 ·obtain⟨q,hq⟩:∃ q,l[k]? = some q:=⟨_,List.getElem?_eq_getElem hkl⟩
  obtain⟨w,w1,w2,_⟩:=ha.iaAll (P:=Tryz.prog) (ty:=51) (k:= .i64) (i:=k) (r:=prow q) Tryz.und51 Tryz.siz87 (by omega) (by simp[hq])
  have w1:=w1 []
  have w2:=w2 []
  rw[List.append_nil]at w1 w2
  have ew:IntKind.i64.wrap ((k:Int)+1)=((k+1:Nat):Int):=by rw[wrap64_of (by omega) (by omega)];omega
  simp (disch:=omega)only[go_sem,w1,w2]
  by_cases he:p=q
  ·subst he
   refine binR_ptrSame (u:=160) (s:=1) (by exact Tryz.und87) (by exact Tryz.siz160) (by decide) ?_
   simp (disch:=omega)only[go_sem]
   exact ret_same (hk1 (List.mem_of_getElem? hq) k hkl)
  ·obtain⟨x,hx⟩:=hp
   obtain⟨y,hy⟩:=hall q (List.mem_of_getElem? hq)
   refine binR_ptr (g0:=0) (g0':=0) (u:=160) (s:=1) (by exact Tryz.und87) (by exact Tryz.siz160) (by decide) hx hy ⟨by simp,by decide⟩ ⟨by simp,by decide⟩ he ?_
   simp (disch:=omega)only[go_sem,ew]
   refine next_keep (l.length-(k+1)) (by omega) (Nat.le_refl _) ⟨k+1,by omega,rfl,rfl,?_,rfl⟩
   rw[List.take_add_one,hq]
   simp only[Option.toList_some,List.mem_append,List.mem_singleton,not_or]
   exact⟨hno,he⟩
 ·simp (disch:=omega)only[go_sem]
  refine ret_same (hk2 ?_)
  rw[List.take_of_length_le (by omega)]at hno
  exact hno
theorem tabContains_call(G:Nat→Option AV) (a:AV) (l:List Nat) (p:Nat)(h:AH) (K:AV→AH→Prop)(ha:Sees h 1 a (l.map prow))(hl:l.length≤1000000)(hp:∃ x,h[p]? = some (some (.cells 160 1 [[x]] 0)))(hall:∀ q∈l,∃ x,h[q]? = some (some (.cells 160 1 [[x]] 0)))
  (hk:K (.v (.bool (decide (p∈l)))) h):SCall Tryz.prog G 117 [a, .ptr p 0 0 0] h K:=by
 refine Tryz.c117 G _ _ h K fun hlow=>?_
 unfold Tryz.r117
 refine⟨tabIndex_call G a l p h _ ha hl hp hall (fun hm i _=>?_) (fun hm=>?_)⟩
 ·rw[decide_eq_true hm]at hk
  simp (disch:=omega)only[go_sem]
  exact ret_same hk
 ·rw[decide_eq_false hm]at hk
  simp (disch:=omega)only[go_sem]
  exact ret_same hk
theorem ptrEq0(p:Nat):aBin Tryz.prog .eql 87 (.ptr p 0 0 0) (.v (.pointer none))=some (.v (.bool false)):=by kernel_rfl
theorem shelfZero:aZero Tryz.prog 141=some (1, .v .nilIface):=by kernel_rfl
theorem shelfByt:byt Tryz.prog 141=some 16:=by kernel_rfl
theorem shelfPlain:plainSrc Tryz.prog 137=true:=by kernel_rfl
abbrev irowS(p:Nat):List AV:= [.ifc 87 (.ptr p 0 0 0)]
theorem shelves_call(G:Nat→Option AV) (a:AV) (ps:List Nat)(ls:List (List RowA))(h:AH) (K:AV→AH→Prop)(T:TabsAt h a ps ls)(hl:ls.length≤1000)(hnd:ps.Nodup)
  (hk:∀ v h',Mine 141 1 h' v (ps.map irowS)→Grew h h'→(∀ j,j<h.length→Off v j)→K (.tup [v, .v (.bool true)]) h'):SCall Tryz.prog G 67 [a] h K:=by
 refine Tryz.c67 G _ h K fun hlow=>?_
 unfold Tryz.r67
 have la:=T.own.sees.len (P:=Tryz.prog) (t:=51) Tryz.und51
 rw[List.length_map]at la
 simp (disch:=omega)only[go_sem,la]
 unfold Tryz.r67_l3_1
 refine⟨fun m vs H=>∃(k:Nat) (x:AV),k≤ps.length∧m=ps.length-k∧Mine 141 1 H x ((ps.take k).map irowS)∧Grew h H∧(∀ j,j<h.length→Off x j)∧vs = [x, .v (.int .i64 k)],ps.length,⟨0,_,by omega,rfl,by simpa using Mine.nil,⟨[],by simp⟩,(fun id _ _ g o l c hx=>by cases hx),rfl⟩,?_⟩
 rintro m H hl1 hlow2 x' n ⟨k,x,hkk,rfl,mi,g,offs,hvs⟩
 simp only[List.cons.injEq,AV.v.injEq,Value.int.injEq,true_and,and_true]at hvs
 obtain⟨rfl,rfl⟩:=hvs
 have hlen:=T.len
 have gl:=g.len
 by_cases hkl:k<ps.length
 rotate_left
 ·have:k=ps.length:=by omega
  subst this
  rw[List.take_length]at mi
  have m1:=mi.one
  have m2:=mi.cells
  simp (disch:=omega)only[go_sem]
  exact ret_keep (hk _ _ mi g offs)
 obtain⟨p,hpk⟩:∃ p,ps[k]? = some p:=⟨_,List.getElem?_eq_getElem hkl⟩
 have TG:=T.grew g
 have ew:IntKind.i64.wrap ((k:Int)+1)=((k+1:Nat):Int):=by rw[wrap64_of (by omega) (by omega)];omega
 have tobj:∀(i q:Nat),ps[i]? = some q→∃ x,H[q]? = some (some (.cells 160 1 [[x]] 0)):=fun i q hi=>by
  obtain⟨l,hl'⟩:∃ l,ls[i]? = some l:=⟨_,List.getElem?_eq_getElem (by have:=(List.getElem?_eq_some_iff.mp hi).1;omega)⟩
  obtain⟨y,hy,_⟩:=(TG.tab i q l hi hl').ex
  exact⟨y,hy⟩
 obtain⟨q,q1,q2,_⟩:=TG.own.sees.iaAll (P:=Tryz.prog) (ty:=51) (k:= .i64) (i:=(k:Int)) (r:=prow p) Tryz.und51 Tryz.siz87 (by omega) (by simp[hpk])
 have q1:=q1 []
 have q2:=q2 []
 rw[List.append_nil]at q1 q2
 obtain⟨c,c1,c2⟩:=TG.own.upto (P:=Tryz.prog) (t:=51) (k:= .i64) Tryz.und51 Tryz.siz87 (m:=k) (by simp;omega)
 have c1:=c1 []
 rw[List.append_nil]at c1
 have hnot:p∉ps.take k:=by
  intro hm
  obtain⟨i,hi⟩:=List.mem_iff_getElem?.mp hm
  rw[List.getElem?_take]at hi
  split at hi
  ·rename_i hik
   obtain⟨a1,a2⟩:=List.getElem?_eq_some_iff.mp hi
   obtain⟨b1,b2⟩:=List.getElem?_eq_some_iff.mp hpk
   have:=(List.pairwise_iff_getElem.mp hnd) i k a1 b1 hik
   rw[a2,b2]at this
   exact this rfl
  ·cases hi
 simp (disch:=omega)only[go_sem, ↓ptrEq0,ptrEq0,q1,q2,c1]
 refine⟨tabContains_call G c (ps.take k) p H _ (by rw[List.map_take];exact c2.sees) (by rw[List.length_take];omega) (tobj k p hpk) (fun q hq=>?_) ?_⟩
 ·obtain⟨i,hi⟩:=List.mem_iff_getElem?.mp hq
  rw[List.getElem?_take]at hi
  split at hi
  ·exact tobj i q hi
  ·cases hi
 rw[decide_eq_false hnot]
 simp (disch:=omega)only[go_sem]
 refine(mi.more _).pushAt (i:=H.length) (g:=0) (row:=irowS p) (e':=141) (by simp) Tryz.und137 shelfZero shelfByt shelfPlain rfl (by rw[List.length_map,List.length_take];omega) (by rw[List.length_map,List.length_take];omega) fun v' H' m' hle st=>?_
 simp only[List.length_append,List.length_cons,List.length_nil]at hle
 have below:∀ j,j<h.length→H'[j]? = H[j]? ∧ Off v' j:=fun j hj=>by
  obtain⟨e1,e2⟩:=st j (by simp;omega) (offs j hj)
  rw[e1,List.getElem?_append_left (by omega)]
  exact⟨rfl,e2⟩
 obtain⟨t2,ht2⟩:=g.ex
 refine next_keep (ps.length-(k+1)) (by omega) (by omega) ⟨k+1,v',by omega,rfl,?_,Grew.mk (ext_of (h:=h) (h':=H') (by omega) fun j hj=>by rw[(below j hj).1,ht2,List.getElem?_append_left hj]),fun j hj=>(below j hj).2,by simp⟩
 rw[List.take_add_one,hpk]
 simpa using m'
end Go.Proofs
namespace Go.Proofs
open Go Go.Abs
set_option maxRecDepth 100000
set_option linter.unusedSimpArgs false
theorem shelfRows : methOf Tryz.prog 87 "Rows" = some 44 := by kernel_rfl
def ApartT(c:Chg)(ls:List (List RowA)):Prop:=∀(i:Nat) (l:List RowA),ls[i]? = some l→∀ r∈l,c.owner r.key=i
theorem mvCheck_call(G:Nat→Option AV)(hG:GTab G)(c:Chg) (W1 W2 a:AV) (ps:List Nat)(ls:List (List RowA))(h:AH) (K:AV→AH→Prop)(k1:Wt h W1 c.was.wts)(k2:Wt h W2 c.will.wts)(hl1:c.was.wts.length≤17592186044415)(hl2:c.will.wts.length≤17592186044415)(hcl:c.cur.length≤4611686018427387904)(T:TabsAt h a ps ls)(hl:ls.length≤1000)(hnd:ps.Nodup)(hkey:∀ l∈ls,∀ r∈l,r.key.length≤4611686018427387904)
  (hkL:c.ok=false→K (.v (.int .i64 70)) h)(hkS:c.ok=true→ls.length≠c.will.wts.length→K (.v (.int .i64 4)) h)(hkC:c.ok=true→ls.length=c.will.wts.length→¬ ApartT c ls→K (.v (.int .i64 220)) h)(hk0:c.ok=true→ls.length=c.will.wts.length→ApartT c ls→K (.v (.int .i64 0)) h):SCall Tryz.prog G 24 [.agg (c.cells W1 W2),a] h K:=by
 refine Tryz.c24 G _ _ h K fun hlow=>?_
 unfold Tryz.r24
 have w11:=k1.one
 have w12:=k1.cells
 have w21:=k2.one
 have w22:=k2.cells
 have hlen:=T.len
 simp (disch:=omega)only[go_sem,w11,w12,w21,w22,Nat.reduceAdd]
 refine⟨chgCheck_call G c W1 W2 _ _ (k1.app _) (k2.app _) (by omega) (by omega) hcl ?_⟩
 cases hok:c.ok with
 | false=>
  simp (disch:=omega)only[go_sem,if_false,Bool.false_eq_true]
  exact ret_tail hlow .v (hkL hok)
 | true=>
 simp (disch:=omega)only[go_sem,if_true]
 refine⟨shelves_call G a ps ls _ _ (T.grew (Grew.app _)) hl hnd fun v H mv g offs=>?_⟩
 have gh:Grew h H:=(Grew.app _).trans g
 have o0:=g.get (i:=h.length) (o:=some (.cells 49 6 [c.cells W1 W2] 0)) (by simp)
 have lv:=mv.sees.len (P:=Tryz.prog) (t:=137) Tryz.und137
 rw[List.length_map]at lv
 have k2H:=gh.wt k2
 have l2:=k2H.ints.len (P:=Tryz.prog) (t:=31) Tryz.und31
 rw[List.length_map]at l2
 have v1:=mv.one
 have v2:=mv.cells
 by_cases hs:ls.length=c.will.wts.length
 rotate_left
 ·have hne:aBin Tryz.prog .neq 3 (.v (.int .i64 (ps.length:Int))) (.v (.int .i64 (c.will.wts.length:Int)))=some (.v (.bool true)):=by
   have:((ps.length:Int) != (c.will.wts.length:Int))=true:=by simp;omega
   simp only[aBin,aInt,chk,if_true,this]
  simp (disch:=omega)only[go_sem,extV,Bool.not_true,lv,o0,w21,w22,l2,hne]
  exact gh.ret hlow .v (hkS hok hs) rfl
 ·have hne:aBin Tryz.prog .neq 3 (.v (.int .i64 (ps.length:Int))) (.v (.int .i64 (c.will.wts.length:Int)))=some (.v (.bool false)):=by
   have:((ps.length:Int) != (c.will.wts.length:Int))=false:=by simp;omega
   simp only[aBin,aInt,chk,if_true,this]
  simp (disch:=omega)only[go_sem,extV,Bool.not_true,lv,o0,w21,w22,l2,hne]
  have e0:(ByteArray.mk #[])=bs []:=rfl
  unfold Tryz.r24_l8_26
  refine⟨fun m vs H'=>∃ k:Nat,k≤ps.length∧m=ps.length-k∧Grew H H'∧(∀(i:Nat) (l:List RowA),i<k→ls[i]? = some l→∀ r∈l,c.owner r.key=i)∧vs = [.v (.int .i64 k)],ps.length,⟨0,by omega,rfl,⟨[],by simp⟩,(fun i l hi=>absurd hi (Nat.not_lt_zero _)),rfl⟩,?_⟩
  rintro m H1 hl1' hlow2 n ⟨k,hkk,rfl,g1,hown,hvs⟩
  simp only[List.cons.injEq,AV.v.injEq,Value.int.injEq,true_and,and_true]at hvs
  subst hvs
  by_cases hkl:k<ps.length
  rotate_left
  ·simp (disch:=omega)only[go_sem]
   exact(gh.trans g1).ret hlow .v (hk0 hok hs fun i l hi=>hown i l (by have:=(List.getElem?_eq_some_iff.mp hi).1;omega) hi) rfl
  obtain⟨l,hlk⟩:∃ l,ls[k]? = some l:=⟨_,List.getElem?_eq_getElem (by omega)⟩
  obtain⟨p,hpk⟩:∃ p,ps[k]? = some p:=⟨_,List.getElem?_eq_getElem hkl⟩
  have TH:=(T.tab k p l hpk hlk).grew (gh.trans g1)
  have mv1:Mine 141 1 H1 v (ps.map irowS):=by obtain⟨t,rfl⟩:=g1.ex;exact mv.more t
  obtain⟨q,q1,q2,_⟩:=mv1.sees.iaAll (P:=Tryz.prog) (ty:=137) (k:= .i64) (i:=(k:Int)) (r:=irowS p) Tryz.und137 (by kernel_rfl:siz Tryz.prog 141=some 1) (by omega) (by simp[hpk])
  have q1:=q1 []
  have q2:=q2 []
  rw[List.append_nil]at q1 q2
  simp (disch:=omega)only[go_sem,q1,q2,e0,shelfRows]
  refine⟨tbRows_call G p l [] [] H1 _ TH fun v33 H2 acc=>?_⟩
  rw[endsK_nil]at acc
  simp only[List.drop_zero,Nat.sub_zero,List.take_length]at acc
  have g2:Grew H1 H2:=Grew.mk acc.tail
  have g12:=g1.trans g2
  have la:=acc.sees.len (P:=Tryz.prog) (t:=47) Tryz.und47
  rw[List.length_map]at la
  have hll:=TH.len
  simp (disch:=omega)only[go_sem,la]
  unfold Tryz.r24_l11_36
  refine⟨fun m vs H'=>∃ j:Nat,j≤l.length∧m=l.length-j∧H'=H2∧(∀ r∈l.take j,c.owner r.key=k)∧vs = [.v (.int .i64 j)],l.length,⟨0,by omega,rfl,rfl,by simp,rfl⟩,?_⟩
  rintro m H3 hl3 hlow3 n ⟨j,hj,rfl,rfl,hj2,hvs⟩
  simp only[List.cons.injEq,AV.v.injEq,Value.int.injEq,true_and,and_true]at hvs
  subst hvs
  by_cases hjl:j<l.length
  ·obtain⟨r,hr⟩:∃ r,l[j]? = some r:=⟨_,List.getElem?_eq_getElem hjl⟩
   have hrm:=List.mem_of_getElem? hr
   obtain⟨w,w1,w2⟩:=acc.sees.ia (P:=Tryz.prog) (t:=47) (k:= .i64) (i:=(j:Int)) (r:=r.cells) Tryz.und47 Tryz.siz131 (by omega) (by simp[hr])
   have o1:=(g12.gets o0)
   have ewj:IntKind.i64.wrap ((j:Int)+1)=((j+1:Nat):Int):=by rw[wrap64_of (by omega) (by omega)];omega
   simp (disch:=omega)only[go_sem,w1,w2,e0,o1,w11,w12,w21,w22,Nat.reduceAdd]
   refine⟨Owner_call G hG c r.key W1 W2 _ _ (((gh.trans g12).wt k1).app _) (((gh.trans g12).wt k2).app _) (by omega) (by omega) hcl (hkey l (List.mem_of_getElem? hlk) r hrm) ?_⟩
   by_cases ho:c.owner r.key=(k:Int)
   ·have hz:(c.owner r.key != (k:Int))=false:=by simp[ho]
    simp (disch:=omega)only[go_sem,extV,hok,if_true,hz,ewj]
    refine next_drop (l.length-(j+1)) (by omega) (Nat.le_refl _) hlow3 (by simp[low_v]) ⟨j+1,by omega,rfl,rfl,?_,rfl⟩
    intro x hx
    rw[List.take_add_one,hr]at hx
    simp only[Option.toList_some,List.mem_append,List.mem_singleton]at hx
    rcases hx with hx|rfl
    ·exact hj2 x hx
    ·exact ho
   ·have hz:(c.owner r.key != (k:Int))=true:=by simp[ho]
    simp (disch:=omega)only[go_sem,extV,hok,if_true,hz]
    exact((gh.trans g12).trans (Grew.app _)).ret hlow .v (hkC hok hs fun hap=>ho (hap k l hlk r hrm)) rfl
  ·have ewk:IntKind.i64.wrap ((k:Int)+1)=((k+1:Nat):Int):=by rw[wrap64_of (by omega) (by omega)];omega
   have:j=l.length:=by omega
   subst this
   rw[List.take_length]at hj2
   simp (disch:=omega)only[go_sem,ewk]
   refine next_keep (ps.length-(k+1)) (by omega) g12.len ⟨k+1,by omega,rfl,g12,fun i l' hi hli=>?_,rfl⟩
   by_cases hik:i=k
   ·subst hik
    rw[hlk]at hli
    obtain rfl:=Option.some.inj hli
    exact hj2
   ·exact hown i l' (by omega) hli
end Go.Proofs
namespace Go.Proofs
open Go Go.Abs
set_option maxRecDepth 100000
set_option linter.unusedSimpArgs false
def Buts(ps:List Nat)(h h':AH):Prop:=h.length≤h'.length∧∀ j,j<h.length→j∉ps→h'[j]? = h[j]?
theorem Buts.refl{ps:List Nat} {h:AH} : Buts ps h h:=⟨Nat.le_refl _,fun _ _ _=>rfl⟩
theorem Buts.trans{ps:List Nat} {a b c:AH} (x:Buts ps a b)(y:Buts ps b c):Buts ps a c:=⟨Nat.le_trans x.1 y.1,fun j hj hp=>by
 have:=x.1
 rw[y.2 j (by omega) hp,x.2 j hj hp]⟩
theorem Buts.grew{ps:List Nat} {h h':AH} (g:Grew h h'):Buts ps h h':=by
 obtain⟨t,rfl⟩:=g.ex
 exact⟨by simp,fun j hj _=>List.getElem?_append_left hj⟩
theorem Buts.but{ps:List Nat} {h h':AH} {p:Nat} (b:But p h h')(hp:p∈ps):Buts ps h h':=⟨b.1,fun j hj hn=>b.2 j hj (fun e=>hn (e▸hp))⟩
theorem TabsAt.keepO{h h':AH} {a:AV} {ps:List Nat} {ls:List (List RowA)} (T:TabsAt h a ps ls)(b:Buts ps h h') {j:Nat} {e:TypeId} {n g:Nat} {r:List (List AV)} (he:e≠160)(hj:h[j]? = some (some (.cells e n r g))):h'[j]? = some (some (.cells e n r g)):=by
 rw[b.2 j (List.getElem?_eq_some_iff.mp hj).1 ?_]
 ·exact hj
 ·intro hm
  obtain⟨i,hi⟩:=List.mem_iff_getElem?.mp hm
  have hil:=(List.getElem?_eq_some_iff.mp hi).1
  have hlen:=T.len
  obtain⟨l,hl⟩:∃ l,ls[i]? = some l:=⟨_,List.getElem?_eq_getElem (by omega)⟩
  obtain⟨x,hx,_⟩:=(T.tab i j l hi hl).ex
  rw[hx]at hj
  cases hj
  exact he rfl
theorem TabsAt.set{h h':AH} {a:AV} {ps:List Nat} {ls:List (List RowA)} (T:TabsAt h a ps ls)(hnd:ps.Nodup) {i p:Nat} {l':List RowA} (hp:ps[i]? = some p)(b:But p h h')(Tp:TabAt h' p l'):TabsAt h' a ps (ls.set i l'):=by
 have hil:=(List.getElem?_eq_some_iff.mp hp).1
 have hlen:=T.len
 obtain⟨l,hl⟩:∃ l,ls[i]? = some l:=⟨_,List.getElem?_eq_getElem (by omega)⟩
 have Ti:=T.tab i p l hp hl
 refine⟨?_,by rw[List.length_set];exact hlen,fun j q m hq hm=>?_⟩
 ·refine T.own.keep fun id r g hi=>?_
  exact T.keepO (Buts.but b (List.mem_of_getElem? hp)) (by decide) hi
 ·by_cases hij:i=j
  ·subst hij
   rw[hp]at hq
   obtain rfl:=Option.some.inj hq
   rw[List.getElem?_set_self (by omega)]at hm
   obtain rfl:=Option.some.inj hm
   exact Tp
  ·rw[List.getElem?_set_ne hij]at hm
   refine(T.tab j q m hq hm).but Ti b fun e=>?_
   subst e
   obtain⟨a1,a2⟩:=List.getElem?_eq_some_iff.mp hp
   obtain⟨b1,b2⟩:=List.getElem?_eq_some_iff.mp hq
   rcases Nat.lt_or_ge i j with hlt|hge
   ·have:=(List.pairwise_iff_getElem.mp hnd) i j a1 b1 hlt
    rw[a2,b2]at this
    exact this rfl
   ·have:=(List.pairwise_iff_getElem.mp hnd) j i b1 a1 (by omega)
    rw[a2,b2]at this
    exact this rfl
theorem endsK_one{l:List RowA} (h:Rise l) (k:List UInt8):endsK l k (k ++ [0])=(lbK l k,hiK l k):=by
 unfold endsK
 rw[if_neg (by simp),lbK_next h]
 have:lbK l k≤hiK l k:=by unfold hiK;omega
 rw[Nat.max_eq_right this]
theorem tbDel_call(G:Nat→Option AV) (p:Nat) (l:List RowA) (k:List UInt8)(h:AH) (K:AV→AH→Prop)(T:TabAt h p l)(hk:∀ n h',TabAt h' p (delK l k)→But p h h'→K (.v (.int .i64 n)) h'):SCall Tryz.prog G 223 [.ptr p 0 0 0, .agg [.v (.string (bs k)), .v (.string (bs (k ++ [0])))]] h K:=by
 refine tbDrop_call G p l k (k ++ [0]) h K T fun h' T' b'=>?_
 rw[endsK_one T.rise]at T' ⊢
 exact hk _ h' T' b'
end Go.Proofs
