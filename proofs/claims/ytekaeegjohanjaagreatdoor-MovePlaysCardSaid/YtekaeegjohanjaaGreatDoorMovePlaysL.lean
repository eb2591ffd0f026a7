import Derived.Test.YtekaeegjohanjaaGreatDoorGAJ
set_option linter.all false
namespace Go.Proofs
open Go Go.Abs
set_option maxRecDepth 100000
set_option linter.unusedSimpArgs false
theorem flat_le{α:Type} {B:Nat} : ∀ {ls:List (List α)},(∀ l∈ls,l.length≤B)→ls.flatten.length≤ls.length*B
 | [],_=>by simp
 | l::ls,h=>by
  have h1:=h l (by simp)
  have h2:=flat_le (ls:=ls) fun m hm=>h m (by simp[hm])
  rw[List.flatten_cons,List.length_append,List.length_cons,Nat.succ_mul]
  omega
theorem playLaw(G:Nat→Option AV)(hG:GTab G)(c:Chg) (W1 W2 R a1:AV) (rs:List AV)(ls:List (List RowA)) (acts:List ActA)(h:AH) (K:AV→AH→Prop)(k1:∀ h,Wt h W1 c.was.wts)(k2:∀ h,Wt h W2 c.will.wts)(l1:c.was.wts.length≤17592186044415)(l2:c.will.wts.length≤17592186044415)(l3:c.cur.length≤140737488351232)
  (RA:RowsAt R rs ls)(ha:∀ h,Sees h 2 a1 (acts.map ActA.cells))(hal:acts.length≤8796093022207)(haok:∀ x∈acts,x.Ok)(hk:∀ H,K (.v (.bool true)) H) :
  SCall Tryz.prog G 5 [.agg (planCells c W1 W2 R),a1] h K:=by
 refine Tryz.c5 G _ _ h K fun hlow=>?_
 unfold Tryz.r5
 have w11:=(k1 h).one
 have w12:=(k1 h).cells
 have w21:=(k2 h).one
 have w22:=(k2 h).cells
 have n3:=RA.one
 have c3:=RA.cel
 have e0:(ByteArray.mk #[])=bs []:=rfl
 simp (disch:=omega)only[go_sem,w11,w12,w21,w22,n3,c3,Nat.reduceAdd]
 obtain⟨H0,hH0⟩:∃ X,h ++ [some (AO.cells 46 7 [planCells c W1 W2 R] 0)]=X:=⟨_,rfl⟩
 have oP0:∀ t,(H0++t)[h.length]? = some (some (.cells 46 7 [planCells c W1 W2 R] 0)):=fun t=>(Grew.app (h:=H0) t).get (by rw[← hH0];simp)
 have oP00:=oP0 []
 rw[List.append_nil]at oP00
 rw[hH0]
 refine⟨small_call G c W1 W2 R rs ls H0 _ w11 w12 w21 w22 RA ?_⟩
 cases hsm:smallB ls with
 | false=>
  simp (disch:=omega)only[go_sem,Bool.not_false]
  refine⟨mvWorks_call G hG _ _ fun H g=>?_⟩
  simp (disch:=omega)only[go_sem]
  exact ret_keep (hk _)
 | true=>
 unfold smallB at hsm
 rw[Bool.and_eq_true,decide_eq_true_eq,List.all_eq_true]at hsm
 obtain⟨few,hs60⟩:=hsm
 have hs60:∀ l∈ls,l.length≤60:=fun l hl=>by simpa using hs60 l hl
 have hflat:=flat_le hs60
 have hflat:ls.flatten.length≤720:=by have:=Nat.mul_le_mul_right 60 few;omega
 simp (disch:=omega)only[go_sem,Bool.not_true,oP00,w11,w12,w21,w22,n3,c3]
 refine⟨tables_call G c W1 W2 R rs ls H0 _ w11 w12 w21 w22 RA hs60 (fun t=>?_) (fun x y ps qs H1 ok mx my T1 R1 hps hqs hpb hqb g1 offx offy=>?_)⟩
 ·simp (disch:=omega)only[go_sem,extV,Bool.not_false]
  refine⟨mvWorks_call G hG _ _ fun H g=>?_⟩
  simp (disch:=omega)only[go_sem]
  exact ret_keep (hk _)
 have x1:=mx.one
 have x2:=mx.cells
 have y1:=my.one
 have y2:=my.cells
 have oP1:=g1.get oP00
 simp (disch:=omega)only[go_sem,extV,x1,x2,y1,y2,Bool.not_true,oP1,w11,w12,w21,w22,n3,c3]
 refine⟨plTheirs_call G c W1 W2 R _ _ w11 w12 w21 w22 n3 c3 fun t2=>?_⟩
 obtain⟨H2,hH2⟩:∃ X,H1++t2=X:=⟨_,rfl⟩
 have g2:Grew H1 H2:=by rw[← hH2];exact Grew.app _
 rw[hH2]
 have oP2:=g2.get oP1
 simp (disch:=omega)only[go_sem,oP2,w11,w12,w21,w22,n3,c3]
 refine⟨plOurs_call G c W1 W2 R _ _ w11 w12 w21 w22 n3 c3 fun t3=>?_⟩
 obtain⟨H3,hH3⟩:∃ X,H2++t3=X:=⟨_,rfl⟩
 have g3:Grew H2 H3:=by rw[← hH3];exact Grew.app _
 rw[hH3]
 have oP3:∀ t,(H3++t)[h.length]? = some (some (.cells 46 7 [planCells c W1 W2 R] 0)):=fun t=>(Grew.app (h:=H3) t).get (g3.get oP2)
 simp (disch:=omega)only[go_sem,oP3,w11,w12,w21,w22,n3,c3,e0,Nat.reduceAdd]
 have eL:(H3 ++ [some (AO.cells 49 6 [[AV.v (.int .i64 0),AV.v (.slice none 0 0),AV.v (.int .i64 0),AV.v (.slice none 0 0),AV.v (.string (bs [])),AV.v (.bool false)]] 0)]).length=H3.length+1:=by simp
 rw[eL]
 obtain⟨H4,hH4⟩:∃ X,H3 ++ [some (AO.cells 49 6 [c.cells W1 W2] 0),some (AO.cells 68 6 [c.cells W1 W2] 0)]=X:=⟨_,rfl⟩
 have g4:Grew H3 H4:=by rw[← hH4];exact Grew.app _
 have oM4:H4[H3.length]? = some (some (.cells 49 6 [c.cells W1 W2] 0)):=by rw[← hH4];simp
 have oR4:H4[H3.length+1]? = some (some (.cells 68 6 [c.cells W1 W2] 0)):=by rw[← hH4];simp
 unfold Chg.cells at hH4
 rw[hH4]
 have g14:Grew H1 H4:=(g2.trans g3).trans g4
 have may:∀ l∈ls,∀ r∈l,r.may=true:=fun l hl=>(ok l hl).2.1
 have hkey:∀ l∈ls,∀ r∈l,r.key.length≤4611686018427387904:=fun l hl r hr=>by have:=(may_len (may l hl r hr)).2.1;omega
 have st4:PlaySt H4 c W1 W2 x y H3.length (H3.length+1) ps qs ls c:=⟨oM4,oR4,T1.grew g14,R1.grew g14,rfl,rfl,by omega,may,few⟩
 refine⟨mvCheckE_call G hG c W1 W2 x ps ls H4 _ (k1 _) (k2 _) l1 l2 (by omega) st4.T (by omega) hps hkey ?_⟩
 simp (disch:=omega)only[go_sem,oR4,w11,w12,w21,w22]
 refine⟨refCheckE_call G c W1 W2 y qs ls H4 _ (k1 _) (k2 _) l1 l2 (by omega) st4.R (by omega) hkey fun t5=>?_⟩
 obtain⟨H5,hH5⟩:∃ X,H4++t5=X:=⟨_,rfl⟩
 have g5:Grew H4 H5:=by rw[← hH5];exact Grew.app _
 rw[hH5]
 have st5:=st4.grew g5
 simp (disch:=omega)only[go_sem,neqErr]
 refine⟨all_call G x ps ls H5 _ st5.T (by omega) (by omega) fun SD v62 H6 pS sS mS gS offS=>?_⟩
 have aS:AllOf ls (fst SD):=⟨SD,pS,sS,rfl⟩
 generalize fst SD=S at aS mS
 have st6:=st5.grew gS
 simp (disch:=omega)only[go_sem]
 refine⟨refAll_call G y qs ls H6 _ st6.R (by omega) (by omega) fun S' v68 H7 aS' mS' g7 off7=>?_⟩
 obtain rfl:=aS.uniq aS'
 have st7:=st6.grew g7
 have mS7:Mine 131 3 H7 v62 (S.map RowA.cells):=by obtain⟨t,rfl⟩:=g7.ex;exact mS.more t
 simp (disch:=omega)only[go_sem]
 refine⟨sameRows_call G v62 v68 S H7 _ mS7.sees mS'.sees (by rw[aS.len];omega) ?_⟩
 simp (disch:=omega)only[go_sem,Bool.not_true]
 exact playLoop G c W1 W2 a1 x y H3.length (H3.length+1) ps qs h H7 K acts hG k1 k2 l1 l2 hps hqs ha hal haok ls c st7 hflat hk
theorem Tryz.lawMovePlays{G:Nat→Option AV} (hG:GTab G) (xs ys:List AV)(hx:In Tryz.prog 46 xs)(hy:In Tryz.prog 64 ys):SCall Tryz.prog G 5 [argA Tryz.prog 46 xs,argA Tryz.prog 64 ys] [] fun v _=>v = .v (.bool true):=by
 obtain⟨c,W1,W2,R,rfl,k1,k2,l1,l2,l3,hR⟩:=in_plan hx
 obtain⟨r,rs,ls,hr0,r1,r2,r3,r4,r5,_,r6⟩:=in_rowss hR
 obtain rfl:R=r:=by simpa using hr0
 obtain⟨b,acts,rfl,b1,b2,b3⟩:=in_acts hy
 have argActs:argA Tryz.prog 64 [b]=b:=by unfold argA;rw[Tryz.und64]
 rw[argPlan,argActs]
 exact playLaw G hG c W1 W2 R b rs ls acts [] _ k1 k2 l1 l2 l3 ⟨r1,r2,r3,r4,r5,r6⟩ b1 b2 b3 fun _=>rfl
end Go.Proofs
