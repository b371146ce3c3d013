/- Contracts of functions over plain data. -/
import Derived.Test.YtmhiemakdfkmeaaGreatS3
set_option linter.all false
set_option autoImplicit true
set_option relaxedAutoImplicit true
namespace Go.Sh
def uS(o:Option St):St:=o.getD ⟨[],[]⟩
def dW(h:o.isSome=true):o=some (uS o):=by cases o with|none=>cases h|some s=>rfl
def fh(ops:Array Oper)(k:Nat):Option Tmp:=(ops[k]?).bind (·.dst)
def so{st:St}(h:(aQ L st).isSome=true): ∃l,aN st.tmps.length L st=some (l,st.H)/\uS (aQ L st)=sp st.tmps.length l st.H:=by
 have h1:aN st.tmps.length L st=some (jY L 0 st.tmps,st.H):=by
  unfold aQ Bm at h
  unfold aN
  split at h
  .rename_i h1
   simp only at h
   split at h
   .rename_i h2;simp[h1,h2]
   .cases h
  .cases h
 exact⟨_,h1,by rw[ar h1];rfl⟩
section
variable {P:Program} {pu:Bool} {st:St} {ops:Array Oper} {k:Nat} {Q:St->Prop}
def SW.r{Q:Exit->St->Prop}(j:Nat)(L:List Nat)(hn:SW P pu (BG j c) (uS ((Sh.tD P j c st).bind (aQ L))) Q)(h:((Sh.tD P j c st).bind (aQ L)).isSome=true:=by kernel_rfl):SW P pu c st Q:=by
 obtain⟨iB,h1,h2⟩:=g_6.1 (dW h)
 exact SW.tD j c _ iB h1 (SW.aF L h2 hn)
def aa.s(aX L:List Nat)(j:Nat)(hn:aa P pu ops (k+j) (uS ((dX P aX ops j k st).bind (aQ L))) Q)(h:((dX P aX ops j k st).bind (aQ L)).isSome=true:=by kernel_rfl):aa P pu ops k st Q:=
 aa.Ct aX L j (dW h) hn
def bb.s(aX L:List Nat)(j:Nat)(hn:bb P ops m (k+j) (uS ((cq P aX ops j k st).bind (aQ L))) Q)(hm:decide (k+j<=m)=true:=by kernel_rfl)(h:((cq P aX ops j k st).bind (aQ L)).isSome=true:=by kernel_rfl):bb P ops m k st Q:=
 bb.Mr aX L j hm (dW h) hn
def aA.s(aX L:List Nat)(j:Nat)(hn:aA P ops (k+j) (uS ((cq P aX ops j k st).bind (aQ L))) Q)(h:((cq P aX ops j k st).bind (aQ L)).isSome=true:=by kernel_rfl):aA P ops k st Q:=by
 obtain⟨iB,h1,h2⟩:=g_6.1 (dW h)
 exact aA.oF j h1 (aA.aF L h2 hn)
def au.s(L:List Nat)(hn:au P ops (k+1) (uS ((qV P ops k st).bind (aQ L))) Q)(h:((qV P ops k st).bind (aQ L)).isSome=true:=by kernel_rfl):au P ops k st Q:=by
 obtain⟨iB,h1,h2⟩:=g_6.1 (dW h)
 obtain⟨l,h3,h4⟩:=so (L:=L) (st:=iB) (by rw[h2];rfl)
 rw[h1,k_2]at hn
 rw[h4]at hn
 exact au.sg _ _ L l (by rw[h1];exact h3) hn
def aa.o{s:SV}(L:List Nat)(hb:ax P ops k st (fh ops k) s)(hn:aa P pu ops (k+1) (uS (aQ L (st.put (fh ops k) s))) Q)(h:(aQ L (st.put (fh ops k) s)).isSome=true:=by kernel_rfl):aa P pu ops k st Q:=aa.at_ L hb (dW h) hn
def au.o{s:SV}(L:List Nat)(hb:ax P ops k st (fh ops k) s)(hn:au P ops (k+1) (uS (aQ L (st.put (fh ops k) s))) Q)(h:(aQ L (st.put (fh ops k) s)).isSome=true:=by kernel_rfl):au P ops k st Q:=by
 obtain⟨l,h1,h2⟩:=so h
 rw[h2]at hn
 exact au.on _ _ L l hb h1 hn
def aa.h(L:List Nat)(hp:SC P false f args H0 r H')(hn:aa P false ops (k+1) (uS (aQ L ⟨(st.put (fh ops k) r).tmps,H'⟩)) Q)(hH:st.H=H0:=by kernel_rfl)(h:cU P ops k st []=some (fh ops k,f,args,[],[]):=by kernel_rfl)
  (hr:(mz r&&st.tmps.all dN)=true:=by kernel_rfl) (hs:(aQ L ⟨(st.put (fh ops k) r).tmps,H'⟩).isSome=true:=by kernel_rfl):aa P false ops k st Q:=by
 obtain⟨l,h1,h2⟩:=so hs
 rw[h2]at hn
 subst hH
 exact aa.NB _ L l hp h hr h1 hn
def aa.q(L:List Nat)(hp:SC P true f args H0 r H')(hn:aa P pu ops (k+1) (uS (aQ L (st.put (fh ops k) r))) Q)(hH:jG ls st.H=H0:=by kernel_rfl)
  (h:cU P ops k st []=some (fh ops k,f,args,ls,[]):=by kernel_rfl) (hr:(mz r&&(ls.isEmpty||kx r))=true:=by kernel_rfl) (hs:(aQ L (st.put (fh ops k) r)).isSome=true:=by kernel_rfl):aa P pu ops k st Q:=by
 subst hH
 generalize hd:fh ops k=d at *
 unfold cU at h
 split at h
 .rename_i o ho
  split at h
  .rename_i c hop
   split at h
   .rename_i cs hcs
    simp only[g_4,g_8]at h
    obtain⟨h0,rfl,rfl,rfl,e2⟩:=h
    subst h0
    obtain⟨h1,h2⟩:=aL ho
    rw[g_3]at hr
    obtain⟨f0,a0,l1,g0⟩:=cs
    cases e2
    unfold aa
    rw[drop_cons h1]
    refine OW.HS [] h2 hop hcs (by rw[tT];exact hp) hr.1 (by have:=hr.2;rw[p_2]at this;exact this) ?_
    exact aa.aF _ (dW hs) hn
   .cases h
  .cases h
 .cases h
def aA.q(L:List Nat)(hp:SC P true f args H0 r H')(hn:aA P ops (k+1) (uS (aQ L (st.put (fh ops k) r))) Q)(hH:jG ls st.H=H0:=by kernel_rfl)
  (h:cU P ops k st []=some (fh ops k,f,args,ls,[]):=by kernel_rfl) (hr:(C8 r).isSome=true:=by kernel_rfl) (hs:(aQ L (st.put (fh ops k) r)).isSome=true:=by kernel_rfl):aA P ops k st Q:=by
 subst hH
 generalize hd:fh ops k=d at *
 unfold cU at h
 split at h
 .rename_i o ho
  split at h
  .rename_i c hop
   split at h
   .rename_i cs hcs
    simp only[g_4,g_8]at h
    obtain⟨h0,rfl,rfl,rfl,e2⟩:=h
    subst h0
    obtain⟨h1,h2⟩:=aL ho
    obtain⟨v,hv⟩:=j_8.1 hr
    refine aA.call (ls:=cs.ls) h1 h2 hop ?_ (by rw[<-tT]at hp;exact hp) hv (aA.aF _ (dW hs) hn)
    rw[hcs,<-e2]
   .cases h
  .cases h
 .cases h
def aa.hP(n:Nat)(l:List (Nat×SV))(hp:SC P false f args H0 r H')(hn:aa P false ops (k+1) (sp n l H') Q)(hH:st.H=H0:=by kernel_rfl)(h:cU P ops k st []=some (fh ops k,f,args,[],[]):=by kernel_rfl)
  (hr:(mz r&&st.tmps.all dN)=true:=by kernel_rfl) (hs:aN n (l.map (·.1)) ⟨(st.put (fh ops k) r).tmps,H'⟩=some (l,H'):=by kernel_rfl):aa P false ops k st Q:=by
 subst hH
 exact aa.NB n _ l hp h hr hs hn
def aa.qP(n:Nat)(H:List aD)(l:List (Nat×SV))(hp:SC P true f args H0 r H0)(hn:aa P pu ops (k+1) (sp n l H) Q)(hH:jG ls st.H=H0:=by kernel_rfl)
  (h:cU P ops k st []=some (fh ops k,f,args,ls,[]):=by kernel_rfl) (hr:(mz r&&(ls.isEmpty||kx r))=true:=by kernel_rfl) (hs:aN n (l.map (·.1)) (st.put (fh ops k) r)=some (l,H):=by kernel_rfl):aa P pu ops k st Q:=by
 have e:=ar hs
 exact aa.q _ hp (by rw[e];exact hn) hH h hr (by rw[e];rfl)
def SW.b{α:Type}{c:Operand}{x y:Code}{Q:Exit->St->Prop}{b:Bool}{A B r:α}(h:(bif b then A else B)=r)(hT:A=r->SW P pu x st Q)(hF:B=r->SW P pu y st Q)(hc:bu st c=some (.bool b):=by kernel_rfl):SW P pu (.cond c x y) st Q:=
 SW.BN hc (λe=>hT (eQ e h)) (λe=>hF (eR e h))
end
def w8: ∀(n t:Nat) (l:List SV),l.length<=n->fU (List.range' t n) t l=l
 |_,_,[],_=>by simp[fU]
 |n+1,t,s::r,h=>by
  rw[List.range'_succ]
  simp only[fU,if_true,List.cons.injEq,true_and]
  exact w8 n (t+1) r (by simpa using h)
def sd: ∀(n t:Nat),rising (List.range' t n)=true
 |0,_=>rfl
 |1,_=>rfl
 |n+2,t=>by
  rw[List.range'_succ,List.range'_succ,rising,<-List.range'_succ,sd (n+1) (t+1)];simp
def HB: ∀l:List SV,∃N,∀n,N<=n->pC (List.range' 0 n) l=true
 |[]=>⟨0,λ_ _=>rfl⟩
 |s::r=>by
  obtain⟨N,h⟩:=HB r
  cases e:dep s with
  |none=>exact⟨N,λn hn=>by simp[pC,e,h n hn]⟩
  |some k=>exact⟨N+k+1,λn hn=>by simp[pC,e,h n ω];omega⟩
def eN(st:St): ∃L,aQ L st=some st:=by
 obtain⟨N,h⟩:=HB st.tmps
 refine⟨List.range' 0 (N+st.tmps.length),?_⟩
 have e:=w8 (N+st.tmps.length) 0 st.tmps ω
 unfold aQ Bm
 simp only[sd,e,h (N+st.tmps.length) ω,if_true]
def fB(st:St): ∃L l,aN st.tmps.length L st=some (l,st.H)/\sp st.tmps.length l st.H=st:=by
 obtain⟨L,h⟩:=eN st
 obtain⟨l,h1,h2⟩:=so (L:=L) (st:=st) (by rw[h];rfl)
 rw[h]at h2
 exact⟨L,l,h1,h2.symm⟩
abbrev Ix:=Option Tmp->(St->St)->St->St
def eV(s:SV):Ix:=λd _ st=>st.put d s
def eH(s:SV)(H:List aD):Ix:=λd _ st=>⟨(st.put d s).tmps,H⟩
def eA(t w:Nat)(zs:List D):Ix:=λd _ st=>(st.take t).put d (.own w zs)
def eF(t:Nat):Ix:=λ_ f st=>f (st.freeze t)
def Mv(P:Program)(aX:List Nat)(ops:Array Oper)(i:Nat)(st:St):St:=uS (dX P aX (eZ ops i) 1 0 st)
def NV(P:Program)(aX:List Nat)(ops:Array Oper)(ev:List (Nat×Ix))(i:Nat)(st:St):St:=match ev.lookup i with
 |some e=>e (fh ops i) (Mv P aX ops i) st
 |none=>Mv P aX ops i st
def Jx(P:Program)(aX:List Nat)(ops:Array Oper)(ev:List (Nat×Ix))(M:Nat)(st0:St):Nat->Nat->St
 |0,_=>st0
 |k+1,m=>if m.testBit k&&!M.testBit k then NV P aX ops ev k (Jx P aX ops ev M st0 k m)else Jx P aX ops ev M st0 k m
def Nw(ops:Array Oper)(m:Nat):List Nat:=Region.ready .any ops (fi ops.size m)
def Jj(ops:Array Oper)(ms:List Nat):List (Nat×Nat):=ms.flatMap λm=>(Nw ops m).map λi=>(m,i)
def CX(x:Nat):List Nat->List Nat
 |[]=>[x]
 |y::r=>if x==y then y::r else y::CX x r
def Ja(ps:List (Nat×Nat)):List Nat:=ps.foldr (λp r=>CX (p.1|||2 ^ p.2) r) []
def LO(ops:Array Oper):Nat->List Nat->List (Nat×Nat)
 |0,_=>[]
 |d+1,ms=>Jj ops ms++LO ops d (Ja (Jj ops ms))
def Mw(ops:Array Oper):Nat->List Nat->Bool
 |0,ms=>ms.all (λm=>m==2 ^ ops.size - 1)&&(Nw ops (2 ^ ops.size - 1)).isEmpty
 |d+1,ms=>ms.all (λm=>!(Nw ops m).isEmpty)&&Mw ops d (Ja (Jj ops ms))
def MF(ps:List (Nat×Nat))(i:Nat):List Nat:=ps.filterMap λp=>if p.2==i then some p.1 else none
def Bq: ∀{r:List Nat},y∈r->y∈CX x r
 |z::r,h=>by
  simp only[CX];split
  .exact h
  .rcases h_9.1 h with h|h
   .exact h▸q_2
   .exact k_8 _ (Bq h)
def Br: ∀{r:List Nat},x∈CX x r
 |[]=>q_2
 |z::r=>by
  simp only[CX];split
  .rename_i e;rw[beq_iff_eq]at e;exact e▸q_2
  .exact k_8 _ Br
def AY: ∀{ps:List (Nat×Nat)},p∈ps->(p.1|||2 ^ p.2)∈Ja ps
 |q::ps,h=>by
  show _∈CX _ (Ja ps)
  rcases h_9.1 h with h|h
  .exact h▸Br
  .exact Bq (AY h)
def ED{p:Nat->Prop}: ∀{l:List Nat},(∀i∈l,p i)->FN l p
 |[],_=>trivial
 |i::r,h=>⟨h i q_2,ED λj hj=>h j (k_8 _ hj)⟩
def mapA{α β:Type}(f:α->β):List α->List β
 |[]=>[]
 |x::r=>f x::mapA f r
def wT{α β:Type}(f:α->β):List α->List β
 |[]=>[]
 |x::r=>f x::wT f r
def mU{α β:Type}{f g:α->β}: ∀{l:List α},mapA f l=wT g l-> ∀x∈l,f x=g x
 |y::r,h,x,hx=>by
  injection h with h1 h2
  rcases h_9.1 hx with rfl|hx
  .exact h1
  .exact mU h2 x hx
section
variable {P:Program} {pu:Bool} {ops:Array Oper} {aX:List Nat} {ev:List (Nat×Ix)} {M d:Nat} {st0:St}
def GJ{i:Nat}:(eZ ops i).size<=1:=by unfold eZ;split<;>simp
def aa.one{i:Nat}{Q:St->Prop}(h:Q st):aa P pu (eZ ops i) (0+1) st Q:=aa.fin (eq_true GJ) h
def vD{i:Nat}:fh (eZ ops i) 0=fh ops i:=by unfold eZ fh;split<;>simp_all
def OX.Ko(hg:ops.all (λo=>o.guard.isNone)=true){S:Nat->St}: ∀(d:Nat) (ms:List Nat),Mw ops d ms=true->
  (∀p∈LO ops d ms,aa P pu (eZ ops p.2) 0 (S p.1) (λs=>s=S (p.1|||2 ^ p.2)))-> ∀m∈ms,OX P pu ops d m (S m) (S (2 ^ ops.size - 1))
 |0,ms,hk,_,m,hm=>by
  simp only[Mw,g_3,h_2,beq_iff_eq,List.isEmpty_iff]at hk
  rw[hk.1 m hm]
  exact OX.fin hk.2
 |d+1,ms,hk,h,m,hm=>by
  simp only[Mw,g_3,h_2]at hk
  cases e:Nw ops m with
  |nil=>have:=hk.1 m hm;rw[e]at this;cases this
  |cons i0 is=>
   refine OX.step hg e (ED λi hi=>?_)
   have hp:(m,i)∈Jj ops ms:=List.mem_flatMap.2 ⟨m,hm,v_9.2 ⟨i,by rw[e];exact hi,rfl⟩⟩
   refine OW.mono (h (m,i) (k_7.2 (.inl hp))) λs hs=>?_
   rw[hs]
   exact OX.Ko hg d _ hk.2 (λp q=>h p (k_7.2 (.inr q))) _ (AY hp)
def LN(P:Program)(pu:Bool)(ops:Array Oper)(aX:List Nat)(ps:List (Nat×Nat))(S:Nat->St):List (Nat×Ix)->Prop
 |[]=>True
 |(i,e)::r=>(∀m∈MF ps i,aa P pu (eZ ops i) 0 (S m) (λs=>s=e (fh ops i) (Mv P aX ops i) (S m)))/\LN P pu ops aX ps S r
def Ca{S:Nat->St}{i:Nat}: ∀{ev:List (Nat×Ix)},LN P pu ops aX ps S ev->ev.lookup i=some e-> ∀m∈MF ps i,aa P pu (eZ ops i) 0 (S m) (λs=>s=e (fh ops i) (Mv P aX ops i) (S m))
 |(j,f)::r,h,he=>by
  rw[List.lookup_cons]at he
  split at he
  .rename_i hj;rw[beq_iff_eq]at hj;cases he;subst hj;exact h.1
  .exact Ca h.2 he
def OX.auto(aX:List Nat)(ev:List (Nat×Ix))
  (hE:LN P pu ops aX (LO ops d [M]) (Jx P aX ops ev M st0 ops.size) ev)
  (hg:ops.all (λo=>o.guard.isNone)=true:=by kernel_rfl) (hk:Mw ops d [M]=true:=by kernel_rfl)
  (h0:Jx P aX ops ev M st0 ops.size M=st0:=by kernel_rfl)
  (hP:(LO ops d [M]).all (λp=>(ev.lookup p.2).isSome||(dX P aX (eZ ops p.2) 1 0 (Jx P aX ops ev M st0 ops.size p.1)).isSome)=true:=by kernel_rfl)
  (hS:mapA (λp=>NV P aX ops ev p.2 (Jx P aX ops ev M st0 ops.size p.1)) (LO ops d [M])=wT (λp=>Jx P aX ops ev M st0 ops.size (p.1|||2 ^ p.2)) (LO ops d [M]):=by kernel_rfl)
  (hF:aN n (ll.map (·.1)) (Jx P aX ops ev M st0 ops.size (2 ^ ops.size - 1))=some (ll,H):=by kernel_rfl):OX P pu ops d M st0 (sp n ll H):=by
 have key:=OX.Ko (P:=P) (pu:=pu) hg (S:=Jx P aX ops ev M st0 ops.size) d [M] hk (λp hp=>?_) M q_2
 .rw[h0]at key
  intro a w g hr R hR
  exact key a w g hr R λa' w' g' r f=>hR a' w' g' (r.aQ (ar hF)) f
 .rw[<-mU hS p hp]
  unfold NV
  cases e:ev.lookup p.2 with
  |some f=>exact Ca hE e p.1 (List.mem_filterMap.2 ⟨p,hp,ψ⟩)
  |none=>
   have h1:=h_2.1 hP p hp
   rw[e,Option.isSome_none,Bool.false_or]at h1
   exact aa.oF (aX:=aX) 1 (dW h1) (aa.one rfl)
variable {S:Nat->St} {i:Nat} {ms:List Nat} {f:St->St}
def EV.b(h: ∀m∈ms,ax P (eZ ops i) 0 (S m) (fh (eZ ops i) 0) s): ∀m∈ms,aa P pu (eZ ops i) 0 (S m) (λs'=>s'=eV s (fh ops i) f (S m)):=λm hm=>by
 obtain⟨o,h1,h2,h3,h4,e⟩:=h m hm
 exact aa.b h1 h2 h3 h4 (by rw[e,vD];rfl) (aa.one rfl)
def EV.c(hp:PC P g args r)(ls:List Loc:=[])(h:mapA (λm=>cU P (eZ ops i) 0 (S m) []) ms=wT (λm=>some (fh (eZ ops i) 0,g,args,ls,[])) ms:=by kernel_rfl)(hr:(mz r&&(ls.isEmpty||kx r))=true:=by kernel_rfl):
  ∀m∈ms,aa P pu (eZ ops i) 0 (S m) (λs'=>s'=eV r (fh ops i) f (S m)):=λm hm=>by
 obtain⟨L,e⟩:=eN ((S m).put (fh (eZ ops i) 0) r)
 exact aa.BU [] L hp (mU h m hm) hr e (aa.one (by rw[vD];rfl))
def EV.h(hp:SC P false g args H r H')(hH:mapA (λm=>(S m).H) ms=wT (λ_=>H) ms:=by kernel_rfl)
  (h:mapA (λm=>cU P (eZ ops i) 0 (S m) []) ms=wT (λm=>some (fh (eZ ops i) 0,g,args,[],[])) ms:=by kernel_rfl) (hr:(mz r&&ms.all λm=>(S m).tmps.all dN)=true:=by kernel_rfl):
  ∀m∈ms,aa P false (eZ ops i) 0 (S m) (λs'=>s'=eH r H' (fh ops i) f (S m)):=λm hm=>by
 rw[g_3,h_2]at hr
 have e:(S m).H=H:=mU hH m hm
 subst e
 obtain⟨L,l,e1,e2⟩:=fB ⟨((S m).put (fh (eZ ops i) 0) r).tmps,H'⟩
 exact aa.NB _ L l hp (mU h m hm) (by rw[hr.1,hr.2 m hm];rfl) e1 (aa.one (by rw[eH,<-vD (ops:=ops) (i:=i)];exact e2))
def EV.a(hz:xs++ys=zs)(hc:zs.length<=room)(hd:(fh (eZ ops i) 0).isSome=true:=by kernel_rfl)(h:mapA (λm=>B1 P (eZ ops i) 0 (S m)) ms=wT (λ_=>some (t,(fh (eZ ops i) 0).getD 0,w,xs,ys)) ms:=by kernel_rfl):
  ∀m∈ms,aa P pu (eZ ops i) 0 (S m) (λs'=>s'=eA t w zs (fh ops i) f (S m)):=λm hm=>by
 obtain⟨k,hk⟩:=j_8.1 hd
 have h1:=mU h m hm
 rw[hk]at h1
 obtain⟨L,e⟩:=eN (((S m).take t).put (some k) (.own w zs))
 exact aa.append L h1 hz hc e (aa.one (by rw[<-vD,hk];rfl))
def EV.z(h:(ms.all λm=>(dX P aX (eZ ops i) 1 0 ((S m).freeze t)).isSome)=true:=by kernel_rfl):
  ∀m∈ms,aa P pu (eZ ops i) 0 (S m) (λs'=>s'=eF t (fh ops i) (Mv P aX ops i) (S m)):=λm hm=>
 aa.freeze t rfl (aa.oF 1 (dW (h_2.1 h m hm)) (aa.one rfl))
def EV.cN{α:Type}{c:Cc α}{x:α}(hx:aR c H0 j off=some x)(h:mapA (λm=>Hc P (eZ ops i) 0 (S m) (c.enc x)) ms=wT (λ_=>some (fh (eZ ops i) 0,j,off,H0,s)) ms:=by kernel_rfl): ∀m∈ms,aa P pu (eZ ops i) 0 (S m) (λs'=>s'=eV s (fh ops i) f (S m)):=EV.b λm hm=>ax.cN hx (mU h m hm)
def EV.gK{α:Type}{c:Cd α}{xs:List α}(hx:aW n' c H0 j off=some xs)(h:mapA (λm=>wZ P (eZ ops i) 0 (S m)) ms=wT (λ_=>some (fh (eZ ops i) 0,j,off,H0)) ms:=by kernel_rfl): ∀m∈ms,aa P pu (eZ ops i) 0 (S m) (λs'=>s'=eV (.bp (.an j off) n' (xs.map c.enc)) (fh ops i) f (S m)):=EV.b λm hm=>ax.gK hx (mU h m hm)
def EV.dS(hp:p=some j)(h:mapA (λm=>KX (eZ ops i) 0 (S m)) ms=wT (λ_=>some (fh (eZ ops i) 0,cP.enc p)) ms:=by kernel_rfl): ∀m∈ms,aa P pu (eZ ops i) 0 (S m) (λs'=>s'=eV (.d (.ptr j 0)) (fh ops i) f (S m)):=EV.b λm hm=>ax.dS hp (mU h m hm)
def EV.slice{α:Type}{enc:α->D}{xs:List α}(hc:kn xs j k=true)(h:mapA (λm=>Kz P (eZ ops i) 0 (S m) xs.length) ms=wT (λ_=>some (fh (eZ ops i) 0,l,n,xs.map enc,j,k)) ms:=by kernel_rfl): ∀m∈ms,aa P pu (eZ ops i) 0 (S m) (λs'=>s'=eV (kT l n ((sl xs j k).map enc)) (fh ops i) f (S m)):=EV.b λm hm=>ax.slice hc (mU h m hm)
end
def bI{α β:Type}{o:Option α}{f:α->Option β}{r:β}{p:Prop}(h:o.bind f=some r)(k: ∀x,o=some x->f x=some r->p):p:=by
 obtain⟨x,h1,h2⟩:=bP h
 exact k x h1 h2
def lj{α:Type}{o:Option α}{r:α}{p:Prop}(h:dx c o=some r)(k:c=true->o=some r->p):p:=k (sU h).1 (sU h).2
section
variable {P:Program} {pu:Bool} {st:St} {ops:Array Oper} {k n:Nat} {α β γ:Type}
def iI{a r:α}(h:some a=some r):a=r:=by cases h;rfl
def ER(l:List (Nat×Nat))(h1:xV P rs (st.iS l)=some r:=by kernel_rfl)(h2:st.H=H:=by kernel_rfl):bW P rs H r .ret st:=bW.ret l h1 h2
def E0(h1:xV P rs st=some r:=by kernel_rfl)(h2:st.H=H:=by kernel_rfl):bW P rs H r .ret st:=bW.ret [] h1 h2
def EN(h1:xV P rs st=some r:=by kernel_rfl)(h2:st.H=H:=by kernel_rfl):bW P rs H r .normal st:=bW.normal [] h1 h2
def EL(h1:xV P rs st=some r:=by kernel_rfl):Dt P rs r .ret st:=Dt.ret [] h1
def LQ{l:α->List (Nat×SV)}{Hf:α->Hp}{v:α}{o:α⊕β}(h:some (Sum.inl v)=some o)(hk:aN n L st=some (l v,Hf v):=by kernel_rfl): ∃y,o=.inl y/\aN n L st=some (l y,Hf y):=by
 cases h;exact⟨v,rfl,hk⟩
def LR{E:β->Prop}{v:β}{o:α⊕β}(h:some (Sum.inr v)=some o)(k:E v): ∃b,o=.inr b/\E b:=by
 cases h;exact⟨v,rfl,k⟩
def JQ{l:α->List (Nat×SV)}{Hf:α->Hp}{jp:α->γ}{o:γ}{v:α}(ll:List (Nat×Nat))(h:jp v=o)(hk:aN n L (st.iS ll)=some (l v,Hf v):=by kernel_rfl): ∃v ll,aN n L (st.iS ll)=some (l v,Hf v)/\jp v=o:=⟨v,ll,hk,h⟩
def SW.J{Q:Exit->St->Prop}{b:α->γ}{a:(α->γ)->γ}{r:γ}(n:Nat)(H:Hp)(L:List Nat)(l:α->List (Nat×SV))(h:aP b a=r)(hj: ∀v,b v=r->SW P pu y (sp n (l v) H) Q)
  (hx: ∀jp:α->γ,a jp=r->SW P pu x st (thenS (λs=> ∃v ll,aN n L (s.iS ll)=some (l v,H)/\jp v=r) Q)):SW P pu (.seq x y) st Q:=SW.jn n H L l (λv=>b v=r) hj (hx b h)
def SW.JH{Q:Exit->St->Prop}{b:α->γ}{a:(α->γ)->γ}{r:γ}(n:Nat)(L:List Nat)(l:α->List (Nat×SV))(Hf:α->Hp)(h:aP b a=r)(hj: ∀v,b v=r->SW P pu y (sp n (l v) (Hf v)) Q)
  (hx: ∀jp:α->γ,a jp=r->SW P pu x st (thenS (λs=> ∃v ll,aN n L (s.iS ll)=some (l v,Hf v)/\jp v=r) Q)):SW P pu (.seq x y) st Q:=SW.OR n L l Hf (λv=>b v=r) hj (hx b h)
def aa.b2{Q:St->Prop}{b:Bool}{A B r:α}(S:Bool->St)(h:(bif b then A else B)=r)(hT:A=r->aa P pu ops k (S true) Q)(hF:B=r->aa P pu ops k (S false) Q)(h0:st=S b:=by kernel_rfl):aa P pu ops k st Q:=
 aa.case b S h0 (λe=>hT (eQ e h)) (λe=>hF (eR e h))
def bb.b2{m:Nat}{Q:St->Prop}{b:Bool}{A B r:α}(S:Bool->St)(h:(bif b then A else B)=r)(hT:A=r->bb P ops m k (S true) Q)(hF:B=r->bb P ops m k (S false) Q)(h0:st=S b:=by kernel_rfl):bb P ops m k st Q:=
 bb.case b S h0 (λe=>hT (eQ e h)) (λe=>hF (eR e h))
def aA.b2{Q:St->Prop}{b:Bool}{A B r:α}(S:Bool->St)(h:(bif b then A else B)=r)(hT:A=r->aA P ops k (S true) Q)(hF:B=r->aA P ops k (S false) Q)(h0:st=S b:=by kernel_rfl):aA P ops k st Q:=
 aA.case b S h0 (λe=>hT (eQ e h)) (λe=>hF (eR e h))
end
def rJ:Nat->List SV->List Nat
 |_,[]=>[]
 |i,s::r=>match s with
  |.undef=>rJ (i+1) r
  |_=>if dN s then i::rJ (i+1) r else rJ (i+1) r
def Eu(st:St):St:=uS (aQ (rJ 0 st.tmps) st)
section
variable {P:Program} {pu:Bool} {st:St} {ops:Array Oper} {k:Nat} {Q:St->Prop}
def SW.t{Q:Exit->St->Prop}(j:Nat)(hn:SW P pu (BG j c) (uS (Sh.tD P j c st)) Q)(h:(Sh.tD P j c st).isSome=true:=by kernel_rfl):SW P pu c st Q:=SW.tD j c _ _ (dW h) hn
def aa.ts(aX:List Nat)(j:Nat)(hn:aa P pu ops (k+j) (uS (dX P aX ops j k st)) Q)(h:(dX P aX ops j k st).isSome=true:=by kernel_rfl):aa P pu ops k st Q:=aa.oF j (dW h) hn
def aa.t(j:Nat)(hn:aa P pu ops (k+j) (uS (dX P [] ops j k st)) Q)(h:(dX P [] ops j k st).isSome=true:=by kernel_rfl):aa P pu ops k st Q:=aa.oF j (dW h) hn
def bb.t(j:Nat)(hn:bb P ops m (k+j) (uS (cq P [] ops j k st)) Q)(hm:decide (k+j<=m)=true:=by kernel_rfl)(h:(cq P [] ops j k st).isSome=true:=by kernel_rfl):bb P ops m k st Q:=by
 obtain⟨L,e⟩:=eN (uS (cq P [] ops j k st))
 exact bb.Mr [] L j hm (by rw[dW h,k_2];exact e) hn
def aA.t(j:Nat)(hn:aA P ops (k+j) (uS (cq P [] ops j k st)) Q)(h:(cq P [] ops j k st).isSome=true:=by kernel_rfl):aA P ops k st Q:=aA.oF j (dW h) hn
def au.t(hn:au P ops (k+1) (uS (qV P ops k st)) Q)(h:(qV P ops k st).isSome=true:=by kernel_rfl):au P ops k st Q:=by
 obtain⟨L,l,e1,e2⟩:=fB (uS (qV P ops k st))
 exact au.sg _ _ L l (by rw[dW h,k_2];exact e1) (by rw[e2];exact hn)
def aa.p{s:SV}(hb:ax P ops k st (fh ops k) s)(hn:aa P pu ops (k+1) (st.put (fh ops k) s) Q):aa P pu ops k st Q:=by
 obtain⟨o,h1,h2,h3,h4,h5⟩:=hb
 exact aa.b h1 h2 h3 h4 (by rw[h5]) hn
def bb.p{m:Nat}{s:SV}(hb:ax P ops k st (fh ops k) s)(hn:bb P ops m (k+1) (st.put (fh ops k) s) Q)(hm:decide (k<m)=true:=by kernel_rfl):bb P ops m k st Q:=by
 obtain⟨L,e⟩:=eN (st.put (fh ops k) s)
 exact bb.O0 L hm hb e hn
def aA.p{s:SV}(hb:ax P ops k st (fh ops k) s)(hn:aA P ops (k+1) (st.put (fh ops k) s) Q):aA P ops k st Q:=by
 obtain⟨L,l,e1,e2⟩:=fB (st.put (fh ops k) s)
 exact aA.on _ _ L l hb e1 (by rw[e2];exact hn)
def au.p{s:SV}(hb:ax P ops k st (fh ops k) s)(hn:au P ops (k+1) (st.put (fh ops k) s) Q):au P ops k st Q:=by
 obtain⟨L,l,e1,e2⟩:=fB (st.put (fh ops k) s)
 exact au.on _ _ L l hb e1 (by rw[e2];exact hn)
def aa.d(hp:PC P f args r)(hn:aa P pu ops (k+1) (st.put (fh ops k) r) Q)(h:cU P ops k st []=some (fh ops k,f,args,[],[]):=by kernel_rfl)(hr:mz r=true:=by kernel_rfl):aa P pu ops k st Q:=by
 obtain⟨L,l,e1,e2⟩:=fB (st.put (fh ops k) r)
 exact aa.cl _ _ [] L l hp h (by rw[hr];rfl) e1 (by rw[e2];exact hn)
def aA.d(hp:PC P f args r)(hn:aA P ops (k+1) (st.put (fh ops k) r) Q)(h:cU P ops k st []=some (fh ops k,f,args,[],[]):=by kernel_rfl)(hr:(C8 r).isSome=true:=by kernel_rfl):aA P ops k st Q:=by
 obtain⟨L,l,e1,e2⟩:=fB (st.put (fh ops k) r)
 exact aA.cl _ _ L l hp h hr e1 (by rw[e2];exact hn)
def aa.g(hp:SC P true f args H0 r H')(hn:aa P pu ops (k+1) (st.put (fh ops k) r) Q)(hH:jG ls st.H=H0:=by kernel_rfl)
  (h:cU P ops k st []=some (fh ops k,f,args,ls,[]):=by kernel_rfl) (hr:(mz r&&(ls.isEmpty||kx r))=true:=by kernel_rfl):aa P pu ops k st Q:=by
 obtain⟨L,e⟩:=eN (st.put (fh ops k) r)
 exact aa.q L hp (by rw[e];exact hn) hH h hr (by rw[e];rfl)
def aA.g(hp:SC P true f args H0 r H')(hn:aA P ops (k+1) (st.put (fh ops k) r) Q)(hH:jG ls st.H=H0:=by kernel_rfl)
  (h:cU P ops k st []=some (fh ops k,f,args,ls,[]):=by kernel_rfl) (hr:(C8 r).isSome=true:=by kernel_rfl):aA P ops k st Q:=by
 obtain⟨L,e⟩:=eN (st.put (fh ops k) r)
 exact aA.q L hp (by rw[e];exact hn) hH h hr (by rw[e];rfl)
def aa.f{f:FuncId}{args:List SV}{r:SV}{H0 H':List aD}(hp:SC P false f args H0 r H')(hn:aa P false ops (k+1) ⟨((Eu st).put (fh ops k) r).tmps,H'⟩ Q)(hk:(aQ (rJ 0 st.tmps) st).isSome=true:=by kernel_rfl)(hH:(Eu st).H=H0:=by kernel_rfl)
  (h:cU P ops k (Eu st) []=some (fh ops k,f,args,[],[]):=by kernel_rfl) (hr:(mz r&&(Eu st).tmps.all dN)=true:=by kernel_rfl):aa P false ops k st Q:=by
 obtain⟨L,e⟩:=eN ⟨((Eu st).put (fh ops k) r).tmps,H'⟩
 exact aa.aF (st':=Eu st) _ (dW hk) (aa.h L hp (by rw[e];exact hn) hH h hr (by rw[e];rfl))
end
section
variable {P:Program} {pu:Bool} {st:St} {ops:Array Oper} {k:Nat} {Q:St->Prop} {α:Type} {c:Cd α} {n' i off:Nat} {H0 H:Hp}
def SW.kk{c:Code}{Q:Exit->St->Prop}(n:Nat)(H:Hp)(l:List (Nat×SV))(hn:SW P pu c (sp n l H) Q)(h:aN n (l.map (·.1)) st=some (l,H):=by kernel_rfl):SW P pu c st Q:=SW.kp n H _ l h hn
def aa.hs{x:α}(hx:cH c H0 i off x=some H)(hn:aa P false ops (k+1) (st.hp H) Q)(h:AB P ops k st=some (i,off,c.enc x,H0):=by kernel_rfl):aa P false ops k st Q:=by
 obtain⟨L,l,e1,e2⟩:=fB (st.hp H)
 exact aa.bE _ _ L l hx h e1 (by rw[<-e2]at hn;exact hn)
def aa.nw{ob:aD}{q:Hp×Nat}(nl:List (Nat×Nat×Bool))(hq:kW H0 ob=some q)(hn:aa P false ops (k+1) ((st.hp q.1).put (fh ops k) (.d (.ptr q.2 0))) Q)(h:newAt P ops k st nl=some (fh ops k,ob,H0,false):=by kernel_rfl):aa P false ops k st Q:=by
 obtain⟨L,e⟩:=eN ((st.hp q.1).put (fh ops k) (.d (.ptr q.2 0)))
 obtain⟨l,e1,e2⟩:=so (L:=L) (by rw[e];rfl)
 rw[e]at e2
 have hH:((st.hp q.1).put (fh ops k) (.d (.ptr q.2 0))).H=q.1:=by unfold St.put;split<;>(try split)<;>(try split)<;>rfl
 rw[hH]at e1 e2
 exact aa.oh (b:=false) _ _ nl L l hq h rfl e1 (by rw[<-show _=sp _ l q.1 from e2];exact hn)
def aa.tk{q:List α×Hp}(hx:cw n' c H0 i off=some q)(hn:aa P false ops (k+1) ⟨((Eu st).put (some ((fh ops k).getD 0)) (.own n' (q.1.map c.enc))).tmps,q.2⟩ Q)(hk:(aQ (rJ 0 st.tmps) st).isSome=true:=by kernel_rfl)
  (h:Gf P ops k (Eu st)=some ((fh ops k).getD 0,i,off,H0):=by kernel_rfl):aa P false ops k st Q:=by
 obtain⟨L,l,e1,e2⟩:=fB ⟨((Eu st).put (some ((fh ops k).getD 0)) (.own n' (q.1.map c.enc))).tmps,q.2⟩
 exact aa.aF (st':=Eu st) _ (dW hk) (aa.Mi _ L l hx h e1 (by rw[<-e2]at hn;exact hn))
def aa.gv{xs:List α}(s:Nat)(hx:bT n' c H0 i off xs=some H)(hn:aa P false ops (k+1) ⟨((Eu st).take s).tmps,H⟩ Q)(hk:(aQ (rJ 0 st.tmps) st).isSome=true:=by kernel_rfl)
  (h:Hq P ops k (Eu st)=some (s,i,off,n',xs.map c.enc,H0):=by kernel_rfl):aa P false ops k st Q:=by
 obtain⟨L,l,e1,e2⟩:=fB ⟨((Eu st).take s).tmps,H⟩
 exact aa.aF (st':=Eu st) _ (dW hk) (aa.NR _ L l hx h e1 (by rw[<-e2]at hn;exact hn))
def aa.ap(s w:Nat)(zs:List Go.Sh.D)(hz:xs++ys=zs)(hc:zs.length<=room)(hn:aa P pu ops (k+1) ((st.take s).put (some ((fh ops k).getD 0)) (.own w zs)) Q)(h:B1 P ops k st=some (s,(fh ops k).getD 0,w,xs,ys):=by kernel_rfl):aa P pu ops k st Q:=by
 obtain⟨L,e⟩:=eN ((st.take s).put (some ((fh ops k).getD 0)) (.own w zs))
 exact aa.append L h hz hc e hn
def aa.fr(t:Nat)(hn:aa P pu ops k (st.freeze t) Q):aa P pu ops k st Q:=aa.freeze t rfl hn
def aA.D(hq:Q st)(h:decide (ops.size<=k)=true:=by kernel_rfl):aA P ops k st Q:=aA.done h hq
def au.D(hq:Q st)(h:decide (ops.size<=k)=true:=by kernel_rfl):au P ops k st Q:=au.done h hq
def bb.D(hq:Q st)(h:decide (m<=k)=true:=by kernel_rfl):bb P ops m k st Q:=bb.done h hq
def SW.qq{Q:Exit->St->Prop}{id:Nat}{l:List Oper}(h:aA P l.toArray 0 st (Q .normal))(hm:P.follows .mixedOrders=true:=by kernel_rfl)(hB:Region.lexB .any l.toArray=true:=by kernel_rfl):SW P pu (.region id l.toArray true) st Q:=SW.IT hm hB h
def SW.V{Q:Exit->St->Prop}{id:Nat}{l:List Oper}(h:bb P l.toArray l.toArray.size 0 st (Q .normal))(hm:P.follows .mixedOrders=true:=by kernel_rfl)(hB:Region.lexB .any l.toArray=true:=by kernel_rfl):SW P pu (.region id l.toArray true) st Q:=SW.Gs hm hB h
def SW.N{c:Operand}{Q:Exit->St->Prop}(h:SW P pu y st Q)(hc:bu st c=some (.bool false):=by kernel_rfl):SW P pu (.cond c x y) st Q:=SW.za hc h
end
end Go.Sh
