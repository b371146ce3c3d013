/- Contracts of functions over plain data. -/
import Derived.Test.YtmhiemakdfkmeaaGreatS3
set_option linter.all false
set_option autoImplicit true
set_option relaxedAutoImplicit true
namespace Go.Sh
def Bn: ∀(n t:Nat) (l:List SV),l.length<=n->jb (List.range' t n) t l=l
 |_,_,[],_=>by simp[jb]
 |n+1,t,s::r,h=>by
  rw[List.range'_succ]
  simp only[jb,if_true,List.cons.injEq,true_and]
  exact Bn n (t+1) r (by simpa using h)
def vT: ∀(n t:Nat),rising (List.range' t n)=true
 |0,_=>rfl
 |1,_=>rfl
 |n+2,t=>by
  rw[List.range'_succ,List.range'_succ,rising,<-List.range'_succ,vT (n+1) (t+1)];simp
def Ou: ∀l:List SV,∃N,∀n,N<=n->sC (List.range' 0 n) l=true
 |[]=>⟨0,λ_ _=>rfl⟩
 |s::r=>by
  obtain⟨N,h⟩:=Ou r
  cases e:dep s with
  |none=>exact⟨N,λn hn=>by simp[sC,e,h n hn]⟩
  |some k=>exact⟨N+k+1,λn hn=>by simp[sC,e,h n ω];omega⟩
def gH(st:St): ∃L,bC L st=some st:=by
 obtain⟨N,h⟩:=Ou st.tmps
 refine⟨List.range' 0 (N+st.tmps.length),?_⟩
 have e:=Bn (N+st.tmps.length) 0 st.tmps ω
 unfold bC GJ
 simp only[vT,e,h (N+st.tmps.length) ω,if_true]
def ic(st:St): ∃L l,bu st.tmps.length L st=some (l,st.H)/\sp st.tmps.length l st.H=st:=by
 obtain⟨L,h⟩:=gH st
 obtain⟨l,h1,h2⟩:=wb (L:=L) (st:=st) (by rw[h];rfl)
 rw[h]at h2
 exact⟨L,l,h1,h2.symm⟩
abbrev PW:=Option Tmp->(St->St)->St->St
def eV(s:SV):PW:=λd _ st=>st.put d s
def eH(s:SV)(H:List aN):PW:=λd _ st=>⟨(st.put d s).tmps,H⟩
def eA(t w:Nat)(zs:List D):PW:=λd _ st=>(st.take t).put d (.own w zs)
def eF(t:Nat):PW:=λ_ f st=>f (st.freeze t)
def TB(P:Program)(bO:List Nat)(ops:Array Oper)(i:Nat)(st:St):St:=uS (fX P bO (gM ops i) 1 0 st)
def UN(P:Program)(bO:List Nat)(ops:Array Oper)(ev:List (Nat×PW))(i:Nat)(st:St):St:=match ev.lookup i with
 |some e=>e (gV ops i) (TB P bO ops i) st
 |none=>TB P bO ops i st
def QJ(P:Program)(bO:List Nat)(ops:Array Oper)(ev:List (Nat×PW))(M:Nat)(st0:St):Nat->Nat->St
 |0,_=>st0
 |k+1,m=>if m.testBit k&&!M.testBit k then UN P bO ops ev k (QJ P bO ops ev M st0 k m)else QJ P bO ops ev M st0 k m
def Uv(ops:Array Oper)(m:Nat):List Nat:=Region.ready .any ops (gU ops.size m)
def Qw(ops:Array Oper)(ms:List Nat):List (Nat×Nat):=ms.flatMap λm=>(Uv ops m).map λi=>(m,i)
def Jg(x:Nat):List Nat->List Nat
 |[]=>[x]
 |y::r=>if x==y then y::r else y::Jg x r
def Qo(ps:List (Nat×Nat)):List Nat:=ps.foldr (λp r=>Jg (p.1|||2 ^ p.2) r) []
def Tf(ops:Array Oper):Nat->List Nat->List (Nat×Nat)
 |0,_=>[]
 |d+1,ms=>Qw ops ms++Tf ops d (Qo (Qw ops ms))
def TC(ops:Array Oper):Nat->List Nat->Bool
 |0,ms=>ms.all (λm=>m==2 ^ ops.size - 1)&&(Uv ops (2 ^ ops.size - 1)).isEmpty
 |d+1,ms=>ms.all (λm=>!(Uv ops m).isEmpty)&&TC ops d (Qo (Qw ops ms))
def TJ(ps:List (Nat×Nat))(i:Nat):List Nat:=ps.filterMap λp=>if p.2==i then some p.1 else none
def GN: ∀{r:List Nat},y∈r->y∈Jg x r
 |z::r,h=>by
  simp only[Jg];split
  .exact h
  .rcases h_8.1 h with h|h
   .exact h▸q_5
   .exact m_1 _ (GN h)
def GO: ∀{r:List Nat},x∈Jg x r
 |[]=>q_5
 |z::r=>by
  simp only[Jg];split
  .rename_i e;rw[beq_iff_eq]at e;exact e▸q_5
  .exact m_1 _ GO
def Gr: ∀{ps:List (Nat×Nat)},p∈ps->(p.1|||2 ^ p.2)∈Qo ps
 |q::ps,h=>by
  show _∈Jg _ (Qo ps)
  rcases h_8.1 h with h|h
  .exact h▸GO
  .exact GN (Gr h)
def Ls{p:Nat->Prop}: ∀{l:List Nat},(∀i∈l,p i)->J3 l p
 |[],_=>trivial
 |i::r,h=>⟨h i q_5,Ls λj hj=>h j (m_1 _ hj)⟩
def mapA{α β:Type}(f:α->β):List α->List β
 |[]=>[]
 |x::r=>f x::mapA f r
def Bb{α β:Type}(f:α->β):List α->List β
 |[]=>[]
 |x::r=>f x::Bb f r
def pN{α β:Type}{f g:α->β}: ∀{l:List α},mapA f l=Bb g l-> ∀x∈l,f x=g x
 |y::r,h,x,hx=>by
  injection h with h1 h2
  rcases h_8.1 hx with rfl|hx
  .exact h1
  .exact pN h2 x hx
section
variable {P:Program} {pu:Bool} {ops:Array Oper} {bO:List Nat} {ev:List (Nat×PW)} {M d:Nat} {st0:St}
def NL{i:Nat}:(gM ops i).size<=1:=by unfold gM;split<;>simp
def qz{i:Nat}{Q:St->Prop}(h:Q st):cf P pu (gM ops i) (0+1) st Q:=Ig (eq_true NL) h
def zW{i:Nat}:gV (gM ops i) 0=gV ops i:=by unfold gM gV;split<;>simp_all
def DY(hg:ops.all (λo=>o.guard.isNone)=true){S:Nat->St}: ∀(d:Nat) (ms:List Nat),TC ops d ms=true->
  (∀p∈Tf ops d ms,cf P pu (gM ops p.2) 0 (S p.1) (λs=>s=S (p.1|||2 ^ p.2)))-> ∀m∈ms,OX P pu ops d m (S m) (S (2 ^ ops.size - 1))
 |0,ms,hk,_,m,hm=>by
  simp only[TC,g_3,h_4,beq_iff_eq,List.isEmpty_iff]at hk
  rw[hk.1 m hm]
  exact pA hk.2
 |d+1,ms,hk,h,m,hm=>by
  simp only[TC,g_3,h_4]at hk
  cases e:Uv ops m with
  |nil=>have:=hk.1 m hm;rw[e]at this;cases this
  |cons i0 is=>
   refine Ic hg e (Ls λi hi=>?_)
   have hp:(m,i)∈Qw ops ms:=List.mem_flatMap.2 ⟨m,hm,w_0.2 ⟨i,by rw[e];exact hi,rfl⟩⟩
   refine OW.mono (h (m,i) (k_9.2 (.inl hp))) λs hs=>?_
   rw[hs]
   exact DY hg d _ hk.2 (λp q=>h p (k_9.2 (.inr q))) _ (Gr hp)
def Td(P:Program)(pu:Bool)(ops:Array Oper)(bO:List Nat)(ps:List (Nat×Nat))(S:Nat->St):List (Nat×PW)->Prop
 |[]=>True
 |(i,e)::r=>(∀m∈TJ ps i,cf P pu (gM ops i) 0 (S m) (λs=>s=e (gV ops i) (TB P bO ops i) (S m)))/\Td P pu ops bO ps S r
def Iw{S:Nat->St}{i:Nat}: ∀{ev:List (Nat×PW)},Td P pu ops bO ps S ev->ev.lookup i=some e-> ∀m∈TJ ps i,cf P pu (gM ops i) 0 (S m) (λs=>s=e (gV ops i) (TB P bO ops i) (S m))
 |(j,f)::r,h,he=>by
  rw[List.lookup_cons]at he
  split at he
  .rename_i hj;rw[beq_iff_eq]at hj;cases he;subst hj;exact h.1
  .exact Iw h.2 he
def nA(bO:List Nat)(ev:List (Nat×PW))
  (hE:Td P pu ops bO (Tf ops d [M]) (QJ P bO ops ev M st0 ops.size) ev)
  (hg:ops.all (λo=>o.guard.isNone)=true:=by kernel_rfl) (hk:TC ops d [M]=true:=by kernel_rfl)
  (h0:QJ P bO ops ev M st0 ops.size M=st0:=by kernel_rfl)
  (hP:(Tf ops d [M]).all (λp=>(ev.lookup p.2).isSome||(fX P bO (gM ops p.2) 1 0 (QJ P bO ops ev M st0 ops.size p.1)).isSome)=true:=by kernel_rfl)
  (hS:mapA (λp=>UN P bO ops ev p.2 (QJ P bO ops ev M st0 ops.size p.1)) (Tf ops d [M])=Bb (λp=>QJ P bO ops ev M st0 ops.size (p.1|||2 ^ p.2)) (Tf ops d [M]):=by kernel_rfl)
  (hF:bu n (ll.map (·.1)) (QJ P bO ops ev M st0 ops.size (2 ^ ops.size - 1))=some (ll,H):=by kernel_rfl):OX P pu ops d M st0 (sp n ll H):=by
 have key:=DY (P:=P) (pu:=pu) hg (S:=QJ P bO ops ev M st0 ops.size) d [M] hk (λp hp=>?_) M q_5
 .rw[h0]at key
  intro a w g hr R hR
  exact key a w g hr R λa' w' g' r f=>hR a' w' g' (r.bC (aL hF)) f
 .rw[<-pN hS p hp]
  unfold UN
  cases e:ev.lookup p.2 with
  |some f=>exact Iw hE e p.1 (List.mem_filterMap.2 ⟨p,hp,ψ⟩)
  |none=>
   have h1:=h_4.1 hP p hp
   rw[e,Option.isSome_none,Bool.false_or]at h1
   exact qy (bO:=bO) 1 (fW h1) (qz rfl)
variable {S:Nat->St} {i:Nat} {ms:List Nat} {f:St->St}
def Lq(h: ∀m∈ms,pP P (gM ops i) 0 (S m) (gV (gM ops i) 0) s): ∀m∈ms,cf P pu (gM ops i) 0 (S m) (λs'=>s'=eV s (gV ops i) f (S m)):=λm hm=>by
 obtain⟨o,h1,h2,h3,h4,e⟩:=h m hm
 exact Fy h1 h2 h3 h4 (by rw[e,zW];rfl) (qz rfl)
def Cn(hp:PC P g args r)(ls:List Loc:=[])(h:mapA (λm=>eg P (gM ops i) 0 (S m) []) ms=Bb (λm=>some (gV (gM ops i) 0,g,args,ls,[])) ms:=by kernel_rfl)(hr:(pg r&&(ls.isEmpty||mP r))=true:=by kernel_rfl):
  ∀m∈ms,cf P pu (gM ops i) 0 (S m) (λs'=>s'=eV r (gV ops i) f (S m)):=λm hm=>by
 obtain⟨L,e⟩:=gH ((S m).put (gV (gM ops i) 0) r)
 exact Cf [] L hp (pN h m hm) hr e (qz (by rw[zW];rfl))
def RQ(hp:SC P false g args H r H')(hH:mapA (λm=>(S m).H) ms=Bb (λ_=>H) ms:=by kernel_rfl)
  (h:mapA (λm=>eg P (gM ops i) 0 (S m) []) ms=Bb (λm=>some (gV (gM ops i) 0,g,args,[],[])) ms:=by kernel_rfl) (hr:(pg r&&ms.all λm=>(S m).tmps.all er)=true:=by kernel_rfl):
  ∀m∈ms,cf P false (gM ops i) 0 (S m) (λs'=>s'=eH r H' (gV ops i) f (S m)):=λm hm=>by
 rw[g_3,h_4]at hr
 have e:(S m).H=H:=pN hH m hm
 subst e
 obtain⟨L,l,e1,e2⟩:=ic ⟨((S m).put (gV (gM ops i) 0) r).tmps,H'⟩
 exact w8 _ L l hp (pN h m hm) (by rw[hr.1,hr.2 m hm];rfl) e1 (qz (by rw[eH,<-zW (ops:=ops) (i:=i)];exact e2))
def Ee(hz:xs++ys=zs)(hc:zs.length<=room)(hd:(gV (gM ops i) 0).isSome=true:=by kernel_rfl)(h:mapA (λm=>Hu P (gM ops i) 0 (S m)) ms=Bb (λ_=>some (t,(gV (gM ops i) 0).getD 0,w,xs,ys)) ms:=by kernel_rfl):
  ∀m∈ms,cf P pu (gM ops i) 0 (S m) (λs'=>s'=eA t w zs (gV ops i) f (S m)):=λm hm=>by
 obtain⟨k,hk⟩:=k_1.1 hd
 have h1:=pN h m hm
 rw[hk]at h1
 obtain⟨L,e⟩:=gH (((S m).take t).put (some k) (.own w zs))
 exact tq L h1 hz hc e (qz (by rw[<-zW,hk];rfl))
def zo(h:(ms.all λm=>(fX P bO (gM ops i) 1 0 ((S m).freeze t)).isSome)=true:=by kernel_rfl):
  ∀m∈ms,cf P pu (gM ops i) 0 (S m) (λs'=>s'=eF t (gV ops i) (TB P bO ops i) (S m)):=λm hm=>
 tn t rfl (qy 1 (fW (h_4.1 h m hm)) (qz rfl))
def Ac{α:Type}{c:Cc α}{x:α}(hx:bE c H0 j off=some x)(h:mapA (λm=>N5 P (gM ops i) 0 (S m) (c.enc x)) ms=Bb (λ_=>some (gV (gM ops i) 0,j,off,H0,s)) ms:=by kernel_rfl): ∀m∈ms,cf P pu (gM ops i) 0 (S m) (λs'=>s'=eV s (gV ops i) f (S m)):=Lq λm hm=>aF hx (pN h m hm)
def Rf{α:Type}{c:Cd α}{xs:List α}(hx:bL n' c H0 j off=some xs)(h:mapA (λm=>Bi P (gM ops i) 0 (S m)) ms=Bb (λ_=>some (gV (gM ops i) 0,j,off,H0)) ms:=by kernel_rfl): ∀m∈ms,cf P pu (gM ops i) 0 (S m) (λs'=>s'=eV (.cq (.au j off) n' (xs.map c.enc)) (gV ops i) f (S m)):=Lq λm hm=>aY hx (pN h m hm)
def PI(hp:p=some j)(h:mapA (λm=>Sm (gM ops i) 0 (S m)) ms=Bb (λ_=>some (gV (gM ops i) 0,cP.enc p)) ms:=by kernel_rfl): ∀m∈ms,cf P pu (gM ops i) 0 (S m) (λs'=>s'=eV (.d (.ptr j 0)) (gV ops i) f (S m)):=Lq λm hm=>bh hp (pN h m hm)
def yw{α:Type}{enc:α->D}{xs:List α}(hc:mJ xs j k=true)(h:mapA (λm=>R7 P (gM ops i) 0 (S m) xs.length) ms=Bb (λ_=>some (gV (gM ops i) 0,l,n,xs.map enc,j,k)) ms:=by kernel_rfl): ∀m∈ms,cf P pu (gM ops i) 0 (S m) (λs'=>s'=eV (nq l n ((sl xs j k).map enc)) (gV ops i) f (S m)):=Lq λm hm=>iD hc (pN h m hm)
end
def bI{α β:Type}{o:Option α}{f:α->Option β}{r:β}{p:Prop}(h:o.bind f=some r)(k: ∀x,o=some x->f x=some r->p):p:=by
 obtain⟨x,h1,h2⟩:=bS h
 exact k x h1 h2
def nJ{α:Type}{o:Option α}{r:α}{p:Prop}(h:ff c o=some r)(k:c=true->o=some r->p):p:=k (rh h).1 (rh h).2
section
variable {P:Program} {pu:Bool} {st:St} {ops:Array Oper} {k n:Nat} {α β γ:Type}
def iI{a r:α}(h:some a=some r):a=r:=by cases h;rfl
def ER(l:List (Nat×Nat))(h1:CA P rs (st.kX l)=some r:=by kernel_rfl)(h2:st.H=H:=by kernel_rfl):dw P rs H r .ret st:=dw.ret l h1 h2
def E0(h1:CA P rs st=some r:=by kernel_rfl)(h2:st.H=H:=by kernel_rfl):dw P rs H r .ret st:=dw.ret [] h1 h2
def EN(h1:CA P rs st=some r:=by kernel_rfl)(h2:st.H=H:=by kernel_rfl):dw P rs H r .normal st:=dw.normal [] h1 h2
def EL(h1:CA P rs st=some r:=by kernel_rfl):J1 P rs r .ret st:=J1.ret [] h1
def LQ{l:α->List (Nat×SV)}{Hf:α->Hp}{v:α}{o:α⊕β}(h:some (Sum.inl v)=some o)(hk:bu n L st=some (l v,Hf v):=by kernel_rfl): ∃y,o=.inl y/\bu n L st=some (l y,Hf y):=by
 cases h;exact⟨v,rfl,hk⟩
def LR{E:β->Prop}{v:β}{o:α⊕β}(h:some (Sum.inr v)=some o)(k:E v): ∃b,o=.inr b/\E b:=by
 cases h;exact⟨v,rfl,k⟩
def JQ{l:α->List (Nat×SV)}{Hf:α->Hp}{jp:α->γ}{o:γ}{v:α}(ll:List (Nat×Nat))(h:jp v=o)(hk:bu n L (st.kX ll)=some (l v,Hf v):=by kernel_rfl): ∃v ll,bu n L (st.kX ll)=some (l v,Hf v)/\jp v=o:=⟨v,ll,hk,h⟩
def gr{Q:Exit->St->Prop}{b:α->γ}{a:(α->γ)->γ}{r:γ}(n:Nat)(H:Hp)(L:List Nat)(l:α->List (Nat×SV))(h:bz b a=r)(hj: ∀v,b v=r->SW P pu y (sp n (l v) H) Q)
  (hx: ∀jp:α->γ,a jp=r->SW P pu x st (thenS (λs=> ∃v ll,bu n L (s.kX ll)=some (l v,H)/\jp v=r) Q)):SW P pu (.seq x y) st Q:=S4 n H L l (λv=>b v=r) hj (hx b h)
def sY{Q:Exit->St->Prop}{b:α->γ}{a:(α->γ)->γ}{r:γ}(n:Nat)(L:List Nat)(l:α->List (Nat×SV))(Hf:α->Hp)(h:bz b a=r)(hj: ∀v,b v=r->SW P pu y (sp n (l v) (Hf v)) Q)
  (hx: ∀jp:α->γ,a jp=r->SW P pu x st (thenS (λs=> ∃v ll,bu n L (s.kX ll)=some (l v,Hf v)/\jp v=r) Q)):SW P pu (.seq x y) st Q:=QZ n L l Hf (λv=>b v=r) hj (hx b h)
def cn{Q:St->Prop}{b:Bool}{A B r:α}(S:Bool->St)(h:(bif b then A else B)=r)(hT:A=r->cf P pu ops k (S true) Q)(hF:B=r->cf P pu ops k (S false) Q)(h0:st=S b:=by kernel_rfl):cf P pu ops k st Q:=
 MO b S h0 (λe=>hT (fh e h)) (λe=>hF (fi e h))
def xa{m:Nat}{Q:St->Prop}{b:Bool}{A B r:α}(S:Bool->St)(h:(bif b then A else B)=r)(hT:A=r->lh P ops m k (S true) Q)(hF:B=r->lh P ops m k (S false) Q)(h0:st=S b:=by kernel_rfl):lh P ops m k st Q:=
 MV b S h0 (λe=>hT (fh e h)) (λe=>hF (fi e h))
def dV{Q:St->Prop}{b:Bool}{A B r:α}(S:Bool->St)(h:(bif b then A else B)=r)(hT:A=r->jj P ops k (S true) Q)(hF:B=r->jj P ops k (S false) Q)(h0:st=S b:=by kernel_rfl):jj P ops k st Q:=
 D8 b S h0 (λe=>hT (fh e h)) (λe=>hF (fi e h))
end
def vu:Nat->List SV->List Nat
 |_,[]=>[]
 |i,s::r=>match s with
  |.undef=>vu (i+1) r
  |_=>if er s then i::vu (i+1) r else vu (i+1) r
def Lb(st:St):St:=uS (bC (vu 0 st.tmps) st)
section
variable {P:Program} {pu:Bool} {st:St} {ops:Array Oper} {k:Nat} {Q:St->Prop}
def ar{Q:Exit->St->Prop}(j:Nat)(hn:SW P pu (Ha j c) (uS (Sh.Gc P j c st)) Q)(h:(Sh.Gc P j c st).isSome=true:=by kernel_rfl):SW P pu c st Q:=wT j c _ _ (fW h) hn
def aS(bO:List Nat)(j:Nat)(hn:cf P pu ops (k+j) (uS (fX P bO ops j k st)) Q)(h:(fX P bO ops j k st).isSome=true:=by kernel_rfl):cf P pu ops k st Q:=qy j (fW h) hn
def aa(j:Nat)(hn:cf P pu ops (k+j) (uS (fX P [] ops j k st)) Q)(h:(fX P [] ops j k st).isSome=true:=by kernel_rfl):cf P pu ops k st Q:=qy j (fW h) hn
def bp(j:Nat)(hn:lh P ops m (k+j) (uS (dJ P [] ops j k st)) Q)(hm:decide (k+j<=m)=true:=by kernel_rfl)(h:(dJ P [] ops j k st).isSome=true:=by kernel_rfl):lh P ops m k st Q:=by
 obtain⟨L,e⟩:=gH (uS (dJ P [] ops j k st))
 exact Ec [] L j hm (by rw[fW h,j_5];exact e) hn
def aE(j:Nat)(hn:jj P ops (k+j) (uS (dJ P [] ops j k st)) Q)(h:(dJ P [] ops j k st).isSome=true:=by kernel_rfl):jj P ops k st Q:=Ch j (fW h) hn
def aB(hn:lH P ops (k+1) (uS (uT P ops k st)) Q)(h:(uT P ops k st).isSome=true:=by kernel_rfl):lH P ops k st Q:=by
 obtain⟨L,l,e1,e2⟩:=ic (uS (uT P ops k st))
 exact dp _ _ L l (by rw[fW h,j_5];exact e1) (by rw[e2];exact hn)
def ax{s:SV}(hb:pP P ops k st (gV ops k) s)(hn:cf P pu ops (k+1) (st.put (gV ops k) s) Q):cf P pu ops k st Q:=by
 obtain⟨o,h1,h2,h3,h4,h5⟩:=hb
 exact Fy h1 h2 h3 h4 (by rw[h5]) hn
def bU{m:Nat}{s:SV}(hb:pP P ops k st (gV ops k) s)(hn:lh P ops m (k+1) (st.put (gV ops k) s) Q)(hm:decide (k<m)=true:=by kernel_rfl):lh P ops m k st Q:=by
 obtain⟨L,e⟩:=gH (st.put (gV ops k) s)
 exact PA L hm hb e hn
def bn{s:SV}(hb:pP P ops k st (gV ops k) s)(hn:jj P ops (k+1) (st.put (gV ops k) s) Q):jj P ops k st Q:=by
 obtain⟨L,l,e1,e2⟩:=ic (st.put (gV ops k) s)
 exact Q5 _ _ L l hb e1 (by rw[e2];exact hn)
def cl{s:SV}(hb:pP P ops k st (gV ops k) s)(hn:lH P ops (k+1) (st.put (gV ops k) s) Q):lH P ops k st Q:=by
 obtain⟨L,l,e1,e2⟩:=ic (st.put (gV ops k) s)
 exact jN _ _ L l hb e1 (by rw[e2];exact hn)
def bJ(hp:PC P f args r)(hn:cf P pu ops (k+1) (st.put (gV ops k) r) Q)(h:eg P ops k st []=some (gV ops k,f,args,[],[]):=by kernel_rfl)(hr:pg r=true:=by kernel_rfl):cf P pu ops k st Q:=by
 obtain⟨L,l,e1,e2⟩:=ic (st.put (gV ops k) r)
 exact iz _ _ [] L l hp h (by rw[hr];rfl) e1 (by rw[e2];exact hn)
def fc(hp:PC P f args r)(hn:jj P ops (k+1) (st.put (gV ops k) r) Q)(h:eg P ops k st []=some (gV ops k,f,args,[],[]):=by kernel_rfl)(hr:(Jp r).isSome=true:=by kernel_rfl):jj P ops k st Q:=by
 obtain⟨L,l,e1,e2⟩:=ic (st.put (gV ops k) r)
 exact Q6 _ _ L l hp h hr e1 (by rw[e2];exact hn)
def mc(hp:SC P true f args H0 r H')(hn:cf P pu ops (k+1) (st.put (gV ops k) r) Q)(hH:lU ls st.H=H0:=by kernel_rfl)
  (h:eg P ops k st []=some (gV ops k,f,args,ls,[]):=by kernel_rfl) (hr:(pg r&&(ls.isEmpty||mP r))=true:=by kernel_rfl):cf P pu ops k st Q:=by
 obtain⟨L,e⟩:=gH (st.put (gV ops k) r)
 exact Pq L hp (by rw[e];exact hn) hH h hr (by rw[e];rfl)
def iB(hp:SC P true f args H0 r H')(hn:jj P ops (k+1) (st.put (gV ops k) r) Q)(hH:lU ls st.H=H0:=by kernel_rfl)
  (h:eg P ops k st []=some (gV ops k,f,args,ls,[]):=by kernel_rfl) (hr:(Jp r).isSome=true:=by kernel_rfl):jj P ops k st Q:=by
 obtain⟨L,e⟩:=gH (st.put (gV ops k) r)
 exact S7 L hp (by rw[e];exact hn) hH h hr (by rw[e];rfl)
def b8{f:FuncId}{args:List SV}{r:SV}{H0 H':List aN}(hp:SC P false f args H0 r H')(hn:cf P false ops (k+1) ⟨((Lb st).put (gV ops k) r).tmps,H'⟩ Q)(hk:(bC (vu 0 st.tmps) st).isSome=true:=by kernel_rfl)(hH:(Lb st).H=H0:=by kernel_rfl)
  (h:eg P ops k (Lb st) []=some (gV ops k,f,args,[],[]):=by kernel_rfl) (hr:(pg r&&(Lb st).tmps.all er)=true:=by kernel_rfl):cf P false ops k st Q:=by
 obtain⟨L,e⟩:=gH ⟨((Lb st).put (gV ops k) r).tmps,H'⟩
 exact da (st':=Lb st) _ (fW hk) (S6 L hp (by rw[e];exact hn) hH h hr (by rw[e];rfl))
end
section
variable {P:Program} {pu:Bool} {st:St} {ops:Array Oper} {k:Nat} {Q:St->Prop} {α:Type} {c:Cd α} {n' i off:Nat} {H0 H:Hp}
def aI{c:Code}{Q:Exit->St->Prop}(n:Nat)(H:Hp)(l:List (Nat×SV))(hn:SW P pu c (sp n l H) Q)(h:bu n (l.map (·.1)) st=some (l,H):=by kernel_rfl):SW P pu c st Q:=BZ n H _ l h hn
def ga{x:α}(hx:ee c H0 i off x=some H)(hn:cf P false ops (k+1) (st.hp H) Q)(h:F5 P ops k st=some (i,off,c.enc x,H0):=by kernel_rfl):cf P false ops k st Q:=by
 obtain⟨L,l,e1,e2⟩:=ic (st.hp H)
 exact nB _ _ L l hx h e1 (by rw[<-e2]at hn;exact hn)
def w6{ob:aN}{q:Hp×Nat}(nl:List (Nat×Nat×Bool))(hq:nv H0 ob=some q)(hn:cf P false ops (k+1) ((st.hp q.1).put (gV ops k) (.d (.ptr q.2 0))) Q)(h:newAt P ops k st nl=some (gV ops k,ob,H0,false):=by kernel_rfl):cf P false ops k st Q:=by
 obtain⟨L,e⟩:=gH ((st.hp q.1).put (gV ops k) (.d (.ptr q.2 0)))
 obtain⟨l,e1,e2⟩:=wb (L:=L) (by rw[e];rfl)
 rw[e]at e2
 have hH:((st.hp q.1).put (gV ops k) (.d (.ptr q.2 0))).H=q.1:=by unfold St.put;split<;>(try split)<;>(try split)<;>rfl
 rw[hH]at e1 e2
 exact qB (b:=false) _ _ nl L l hq h rfl e1 (by rw[<-show _=sp _ l q.1 from e2];exact hn)
def m9{q:List α×Hp}(hx:dQ n' c H0 i off=some q)(hn:cf P false ops (k+1) ⟨((Lb st).put (some ((gV ops k).getD 0)) (.own n' (q.1.map c.enc))).tmps,q.2⟩ Q)(hk:(bC (vu 0 st.tmps) st).isSome=true:=by kernel_rfl)
  (h:No P ops k (Lb st)=some ((gV ops k).getD 0,i,off,H0):=by kernel_rfl):cf P false ops k st Q:=by
 obtain⟨L,l,e1,e2⟩:=ic ⟨((Lb st).put (some ((gV ops k).getD 0)) (.own n' (q.1.map c.enc))).tmps,q.2⟩
 exact da (st':=Lb st) _ (fW hk) (tf _ L l hx h e1 (by rw[<-e2]at hn;exact hn))
def fF{xs:List α}(s:Nat)(hx:dh n' c H0 i off xs=some H)(hn:cf P false ops (k+1) ⟨((Lb st).take s).tmps,H⟩ Q)(hk:(bC (vu 0 st.tmps) st).isSome=true:=by kernel_rfl)
  (h:Oi P ops k (Lb st)=some (s,i,off,n',xs.map c.enc,H0):=by kernel_rfl):cf P false ops k st Q:=by
 obtain⟨L,l,e1,e2⟩:=ic ⟨((Lb st).take s).tmps,H⟩
 exact da (st':=Lb st) _ (fW hk) (Cb _ L l hx h e1 (by rw[<-e2]at hn;exact hn))
def gb(s w:Nat)(zs:List Go.Sh.D)(hz:xs++ys=zs)(hc:zs.length<=room)(hn:cf P pu ops (k+1) ((st.take s).put (some ((gV ops k).getD 0)) (.own w zs)) Q)(h:Hu P ops k st=some (s,(gV ops k).getD 0,w,xs,ys):=by kernel_rfl):cf P pu ops k st Q:=by
 obtain⟨L,e⟩:=gH ((st.take s).put (some ((gV ops k).getD 0)) (.own w zs))
 exact tq L h hz hc e hn
def tZ(t:Nat)(hn:cf P pu ops k (st.freeze t) Q):cf P pu ops k st Q:=tn t rfl hn
def bG(hq:Q st)(h:decide (ops.size<=k)=true:=by kernel_rfl):jj P ops k st Q:=MT h hq
def dX(hq:Q st)(h:decide (ops.size<=k)=true:=by kernel_rfl):lH P ops k st Q:=JV h hq
def cd(hq:Q st)(h:decide (m<=k)=true:=by kernel_rfl):lh P ops m k st Q:=MU h hq
def fL{Q:Exit->St->Prop}{id:Nat}{l:List Oper}(h:jj P l.toArray 0 st (Q .normal))(hm:P.follows .mixedOrders=true:=by kernel_rfl)(hB:Region.lexB .any l.toArray=true:=by kernel_rfl):SW P pu (.region id l.toArray true) st Q:=HD hm hB h
def zj{Q:Exit->St->Prop}{id:Nat}{l:List Oper}(h:lh P l.toArray l.toArray.size 0 st (Q .normal))(hm:P.follows .mixedOrders=true:=by kernel_rfl)(hB:Region.lexB .any l.toArray=true:=by kernel_rfl):SW P pu (.region id l.toArray true) st Q:=Fh hm hB h
def jK{c:Operand}{Q:Exit->St->Prop}(h:SW P pu y st Q)(hc:cx st c=some (.bool false):=by kernel_rfl):SW P pu (.cond c x y) st Q:=yh hc h
def aV{st st':St}{d m:Nat}(i0:Nat)(is:List Nat)(hs:J3 (i0::is) (λi=>cf P pu (gM ops i) 0 st (λs=>OX P pu ops d (m|||2 ^ i) s st')))(hg:ops.all (λo=>o.guard.isNone)=true:=by kernel_rfl)
  (h:Region.ready .any ops (gU ops.size m)=i0::is:=by kernel_rfl):OX P pu ops (d+1) m st st':=Ic hg h hs
end
def CX{σ ε:Type}(C:σ->Gh->World->Prop)(D:ε->Gh->World->Prop):σ×ε->Gh->World->Prop:=λs g w=>C s.1 g w/\D s.2 g w
def RX{σ:Type}(ε:Type)(R:σ->Gh->World->σ->Gh->World->Prop):σ×ε->Gh->World->σ×ε->Gh->World->Prop:=λs g w s' g' w'=>R s.1 g w s'.1 g' w'
section
variable {σ ε:Type} {P:Program} {pu:Bool} {C:σ->Gh->World->Prop} {R:σ->Gh->World->σ->Gh->World->Prop} {D:ε->Gh->World->Prop} {s:σ} {e:ε} {st:St} {ops:Array Oper} {d m i k:Nat} {K:σ×ε->St->Prop}
def Vx(hC:GC pu C R)(hD: ∀{s g w s' g' w'} {e:ε},R s g w s' g' w'->D e g w->D e g' w'):GC pu (CX C D) (RX ε R):=
 ⟨λh f=>let⟨a,b⟩:=hC.fr h.1 f;⟨⟨a,hD b h.2⟩,b⟩,hC.refl,hC.trans⟩
def iW.up(hD: ∀{s g w s' g' w'} {e:ε},R s g w s' g' w'->D e g w->D e g' w')(h:iW P C R ops i s st (λs' st'=>K (s',e) st')):iW P (CX C D) (RX ε R) ops i (s,e) st K:=
 λa w g hr hc N X hN=>h a w g hr hc.1 N X λs' st' a' w' g' k r c f=>hN (s',e) st' a' w' g' k r ⟨c,hD f hc.2⟩ f
def Q2{Q:σ×ε->Exit->St->Prop}{c:Code}(hD: ∀{s g w s' g' w'} {e:ε},R s g w s' g' w'->D e g w->D e g' w')(h:rq P C R s c st (λs' x st'=>Q (s',e) x st')):rq P (CX C D) (RX ε R) (s,e) c st Q:=
 λa w g hr hc=>Code.wp_mono (λx a' w' hh=>by
  obtain⟨s',st',g',q,r,c',f⟩:=hh
  exact⟨(s',e),st',g',q,r,⟨c',hD f hc.2⟩,f⟩) (h a w g hr hc.1)
end
abbrev ES:=List (Go.Value×List D)
def CE(di n:Nat)(E:ES)(g:Gh)(w:World):Prop:= ∀(p:Nat) (u:Go.Value) (xs:List D),E[p]? =some (u,xs)->cy g w (.au di (p+1)) u n xs
section
variable {P:Program} {oi di n:Nat} {dd:D} {s:Go.Value×KS} {E:ES} {st:St} {g g' g3:Gh} {w w' w3:World}
def CE.bg(h:CE di n E g w)(h0:aO .free g w g' w')(h1: ∀c,aO (.bN (.au di (c+1))) g w g' w')(hρ:eB g g'):CE di n E g' w':=
 λp u xs hp=>(h p u xs hp).bg h0 (h1 p) hρ
def CE.fr(hne:di≠oi): ∀{s:Go.Value×KS} {g w} {s':Go.Value×KS} {g' w'} {E:ES},RK oi s g w s' g' w'->CE di n E g w->CE di n E g' w':=
 λf h=>h.bg f.free (λc=>f.au di (c+1) hne) (λj k hj=>by rw[f.qH];exact hj)
abbrev Lr(oi di n:Nat)(dd:D):=CX (CK oi di dd) (CE di n)
abbrev Tg(oi:Nat):=RX ES (RK oi)
def jH(hne:di≠oi):GC true (Lr oi di n dd) (Tg oi):=Vx rE (CE.fr hne)
def NA(st:St)(t off:Nat):Option (List SV×Nat×List D):=match st.tmps[t]? with
 |some (.box cs)=>match cs[off]? with
  |some (.own n xs)=>if st.tmps.all (zB t off)=true then some (cs,n,xs)else none
  |_=>none
 |_=>none
def MH{Q:(Go.Value×KS)×ES->Exit->St->Prop}{c:Code}{cs:List SV}{xs:List D}(t off:Nat)(h:NA st t off=some (cs,n,xs))
  (hn: ∀u,rq P (Lr oi di n dd) (Tg oi) (s,E++[(u,xs)]) c (st.set t (.box (cs.set off (.d (.raw u))))) Q):rq P (Lr oi di n dd) (Tg oi) (s,E) c st Q:=by
 unfold NA at h
 split at h
 .rename_i cs' hs
  split at h
  .rename_i n' xs' hc
   split at h
   .rename_i hq
    cases h
    intro a w g hr hC
    let rn:Own->Own:=λo=>if o=.bN (.cell t off)then .bN (.au di (E.length+1))else o
    have hk: ∀o',o'≠.bN (.cell t off)->aO o' g w (g.br rn) w:=λo' h=>aO.br (by simp[rn,h])
    obtain⟨kk,c0,T0,f1,f2,f3,f4,f5⟩:=hr.tmp t _ hs
    obtain⟨u,u1,u2,u3⟩:=f5 off _ hc
    have hrel:Rel (st.set t (.box (cs.set off (.d (.raw u))))) a w (g.br rn):=by
     refine bc hr (by simp only[St.set,k_6];exact hr.len) hr.dS (λ_ _ h=>h) (λt' sv hts=>?_) (hr.hp.bg (λo' ho'=>hk o' (λe=>by subst e;exact ho')) (λ_ _ h=>h) rfl)
     simp only[St.set]at hts
     by_cases es:t=t'
     .subst es
      rw[g_0 (aU hs)]at hts
      cases hts
      refine .inr (.inl ⟨kk,c0,T0,f1,by simp[Gh.br,f2,rn],f3,by simpa using f4,λj s' hj=>?_⟩)
      by_cases ej:off=j
      .subst ej
       rw[g_0 (aU hc)]at hj
       cases hj
       exact⟨u,u1,Rd.raw u3,u3⟩
      .rw[g_1 ej]at hj
       obtain⟨v,v1,v2,v3⟩:=f5 j s' hj
       exact⟨v,v1,v2.bg (hk _ ψ) (hk _ χ) (λ_ _ h=>h),v3⟩
     .rw[g_1 es]at hts
      have hnc:zB t off sv=true:=h_4.1 hq sv (h_2.2 ⟨t',hts⟩)
      refine .inr (.inr ⟨hts,rfl,λo' ho'=>hk o' (λe2=>?_),λs0 e0=>⟨rfl,λy hy hb=>?_⟩⟩)
      .subst e2
       cases sv<;>simp[jQ]at ho'
       .subst ho';simp[zB]at hnc
       .subst ho';simp[zB]at hnc
       .exact es ho'
      .by_cases e3:t=s0
       .subst e3
        rw[hs]at hy
        cases hy
        exact⟨.box (cs.set off (.d (.raw u))),by simp only[St.set];grind,rfl⟩
       .exact⟨y,by simp only[St.set];grind,rfl⟩
    have hfr:xg oi g w (g.br rn) w:=⟨h_0 _,hk _ ψ,hk _ ψ,rfl,λj _=>hk _ ψ,λj c hj=>hk _ ψ,fK.refl _⟩
    have hE:CE di n (E++[(u,xs)]) (g.br rn) w:=by
     intro p u' xs' hp
     rcases Nat.lt_trichotomy p E.length with h|h|h
     .rw[h_6 h]at hp
      exact(hC.2 p u' xs' hp).bg (hk _ ψ) (hk _ ψ) (λ_ _ h=>h)
     .subst h
      simp at hp
      obtain⟨rfl,rfl⟩:=hp
      exact cy.br (by simp[rn]) (by simp[rn]) u2
     .rw[List.getElem?_eq_none χ]at hp
      cases hp
    have hK:CK oi di dd s (g.br rn) w:=hC.1.bg (hk _ ψ) (hk _ ψ) (hk _ ψ) (λc=>hk _ ψ) rfl
    refine Code.wp_mono (λe a' w' hh=>?_) (hn u a w (g.br rn) hrel ⟨hK,hE⟩)
    obtain⟨s',st',g',q,r,c',f⟩:=hh
    exact⟨s',st',g',q,r,c',xg.trans hfr f⟩
   .cases h
  .cases h
 .cases h
def Vj(P:Program)(oi di n:Nat)(dd:D)(f:FuncId)(args:List SV)(H:List aN)(s:(Go.Value×KS)×ES)(Post:(Go.Value×KS)×ES->List aN->Int->Prop):Prop:=
 ∀(w:World) (g:Gh) (vs:Array Go.Value),Lr oi di n dd s g w->jM g w vs args->RH g w H->Calls P f vs w λe w'=> ∃g' s' H' r,e=.returned (.int .i64 r)/\Post s' H' r/\RH g' w' H'/\Lr oi di n dd s' g' w'/\xg oi g w g' w'
def CE.br(h:CE di n E g w):CE di n E (g.br (aC [] [])) w:=h.bg (aO.br rfl) (λc=>aO.br rfl) (λ_ _ h=>h)
def PM(hf:xg oi (g.br (aC [] [])) w g3 w3)(h:CE di n E g3 w3):CE di n E ⟨im w.heap.size 0 g.ow g3.ow,g3.ρ⟩ w3:=by
 have hk3: ∀o,iZ o=true->zb 0 o=o->aO o g3 w3 ⟨im w.heap.size 0 g.ow g3.ow,g3.ρ⟩ w3:=λo ho hb k b h1 h2=>by
  refine⟨?_,h2⟩
  have:=uW (t:=0) hf.fr (λe=>by subst e;cases ho) h1 (λe=>by subst e;cases ho)
  rw[this,hb]
 have hfree:aO .free g3 w3 ⟨im w.heap.size 0 g.ow g3.ow,g3.ρ⟩ w3:=λk b h1 h2=>⟨uW (t:=0) hf.fr ψ h1 (λ_=>rfl),h2⟩
 exact h.bg hfree (λc=>hk3 _ rfl rfl) (λ_ _ h=>h)
def Jt{s s':(Go.Value×KS)×ES}(hf:xg oi (g.br (aC [] [])) w g3 w3)(hH:RH g3 w3 H')(hC:Lr oi di n dd s g w)(hC3:Lr oi di n dd s' g3 w3):
  ∃G:Gh,xg oi g w G w3/\RH G w3 H'/\CK oi di dd s'.1 G w3/\CE di n s'.2 G w3/\ ∀o,iZ o=false->aO o g w G w3:=by
 obtain⟨p1,p2⟩:=mS 0 hf.fr hH
 have hsh: ∀o,iZ o=true->(aC [] [] o=o)->(zb 0 o=o)->aO o (g.br (aC [] [])) w g3 w3->aO o g w ⟨im w.heap.size 0 g.ow g3.ow,g3.ρ⟩ w3:=λo ho hc hb hk k b h1 h2=>by
  obtain⟨x,y⟩:=hk k b (by simp[Gh.br,h1,hc]) h2
  refine⟨?_,y⟩
  have:=uW (t:=0) hf.fr (λe=>by subst e;cases ho) x (λe=>by subst e;cases ho)
  rw[this,hb]
 have hk3: ∀o,iZ o=true->zb 0 o=o->aO o g3 w3 ⟨im w.heap.size 0 g.ow g3.ow,g3.ρ⟩ w3:=λo ho hb k b h1 h2=>by
  refine⟨?_,h2⟩
  have:=uW (t:=0) hf.fr (λe=>by subst e;cases ho) h1 (λe=>by subst e;cases ho)
  rw[this,hb]
 have hfree:aO .free g3 w3 ⟨im w.heap.size 0 g.ow g3.ow,g3.ρ⟩ w3:=λk b h1 h2=>⟨uW (t:=0) hf.fr ψ h1 (λ_=>rfl),h2⟩
 refine⟨_,⟨p1.size,p1.free,p1.out,hf.qH,λj hj=>hsh _ rfl rfl rfl (hf.obj j hj),λj c hj=>hsh _ rfl rfl rfl (hf.au j c hj),p1.os⟩,p2,?_,PM hf hC3.2,λo ho=>Bo hf.fr ho⟩
 obtain⟨⟨kv,c,T,fz,a1,a2,a3,a4,a5⟩,b,⟨k,c',T',fz',v',d1,d2,d3,d4,d5,d6⟩⟩:=hC3.1
 refine⟨⟨kv,c,T,fz,a1,(hk3 _ rfl rfl kv _ a2 a3).1,a3,a4,a5⟩,λp u ks hp=>(b p u ks hp).bg hfree (hk3 _ rfl rfl) (λ_ _ h=>h),k,c',T',fz',v',d1,?_,d3,d4,d5,d6.bg hfree (λ_ _ h=>h)⟩
 obtain⟨-,-,k0,c0,T0,fz0,v0,e1,e2,e3,-⟩:=hC.1
 have hkk:k0=k:=by
  have h1:g3.ρ[di]? =some k0:=by rw[hf.qH];exact e1
  grind
 subst hkk
 exact(p1.out k0 _ e2 e3).1
variable {ops:Array Oper} {i:Nat} {K:(Go.Value×KS)×ES->St->Prop}
def zm{s:(Go.Value×KS)×ES}{Post:(Go.Value×KS)×ES->List aN->Int->Prop}(hp:Vj P oi di n dd f args st.H s Post)(h:eg P ops i st []=some (o',f,args,[],[]))(hn:st.tmps.all (rM oi)=true)
  (hk: ∀s' H' r,Post s' H' r->K s' ⟨(st.put o' (vI r)).tmps,H'⟩):iW P (Lr oi di n dd) (Tg oi) ops i s st K:=by
 unfold eg at h
 split at h
 .rename_i o ho
  split at h
  .rename_i c hop
   split at h
   .rename_i cs hcs
    simp only[g_2,g_8]at h
    obtain⟨rfl,rfl,rfl,e1,e2⟩:=h
    obtain⟨h1,h2⟩:=bo ho
    obtain⟨f0,a0,l0,g0⟩:=cs
    cases e1;cases e2
    intro a w g hr hc N R' hN
    obtain⟨vs,k1,k2,k3⟩:=ya hr hop hcs
    unfold wpOpIn
    rw[h1]
    simp only[bt hr h2,if_true]
    refine⟨λf _=>trivial,?_⟩
    show Oper.uponIn _ _ _ _ _ _ _ ((execOp a.eval o).run P w)
    rw[k1]
    simp only[Oper.uponIn]
    refine⟨(λh=>nomatch h),callsIn_wide.2 ((hp w _ vs ⟨hc.1.br,CE.br hc.2⟩ k2 k3).mono λe w' hh=>?_)⟩
    obtain⟨g3,s',H',r,rfl,hP,q1,q2,q3⟩:=hh
    obtain⟨G,p1,p2,p3,p4,p5⟩:=Jt q3 q1 hc q2
    exact hN s' _ _ w' G (hk s' H' r hP) (HT hr hn p2 p1 p5 .int) ⟨p3,p4⟩ p1
   .cases h
  .cases h
 .cases h
def HO{s:(Go.Value×KS)×ES}{Post:(Go.Value×KS)×ES->List aN->Int->Prop}(hf:P.funcs[f]? =some fn)(hb:fn.body=some c)(hr:fn.results= #[.tmp t])
  (h:rq P (Lr oi di n dd) (Tg oi) s c (k8 fn.ntmps args H) (λs' e st'=>(e=.normal\/e=.ret)/\ ∃r,Post s' st'.H r/\st'.tmps[t]? =some (vI r))):Vj P oi di n dd f args H s Post:=by
 intro w g vs hC ha hH
 refine calls_of_wp hf hb (Code.wp_mono (λe a' w' hh=>?_) (h _ _ g (oD ha hH fn.ntmps) hC))
 obtain⟨s',st',g',⟨he,z,hP,hv⟩,r,c1,f1⟩:=hh
 have hrd:Rd g' w' (valOf a' t) (.int .i64 z):=r.tmp t _ hv
 have hval:valOf a' t=.int .i64 z:=by generalize valOf a' t=u at hrd;cases hrd;rfl
 have hres:(results fn a'.tmps).run P w'=.ok (.int .i64 z) w':=by
  have:=ln (P:=P) (fn:=fn) (tm:=a'.tmps) (w:=w') (vs:=[.int .i64 z]) (by simp[hr]) (λj rv hj=>by
   rw[hr]at hj
   cases j with
   |zero=>
    simp only[List.getElem?_toArray,j_3,g_2]at hj
    subst hj
    exact⟨_,rfl,by simp only[kU];exact congrArg (λv=>Result.ok v w') hval⟩
   |succ j=>simp at hj)
  simpa using this
 rcases he with rfl|rfl
 .exact⟨r.dS,_,hres,g',s',st'.H,z,rfl,hP,r.hp,c1,f1⟩
 .exact⟨r.dS,_,hres,g',s',st'.H,z,rfl,hP,r.hp,c1,f1⟩
end
abbrev LS:=List (Loc×Go.Value×Nat×List D)
def CZ(s:LS)(g:Gh)(w:World):Prop:= ∀(p:Nat) (o:Loc) (u:Go.Value) (n:Nat) (xs:List D),s[p]? =some (o,u,n,xs)->(∃i j,o=.au i j)/\cy g w o u n xs
def RZ:LS->Gh->World->LS->Gh->World->Prop:=λ_ g w _ g' w'=>Fr false g w g' w'
section
variable {P:Program} {s:LS} {st:St} {g g':Gh} {w w':World} {Q:LS->Exit->St->Prop} {c:Code} {ops:Array Oper} {d m i k p n:Nat} {K:LS->St->Prop} {o:Loc} {u:Go.Value} {xs:List D}
def CZ.bg(h:CZ s g w)(h0:aO .free g w g' w')(h1: ∀i j,aO (.bN (.au i j)) g w g' w')(hρ:eB g g'):CZ s g' w':=λp o u n xs hp=>by
 obtain⟨⟨i,j,rfl⟩,h2⟩:=h p o u n xs hp
 exact⟨⟨i,j,rfl⟩,h2.bg h0 (h1 i j) hρ⟩
def Fr.off(f:Fr true g w g' w'):Fr false g w g' w':=⟨f.size,f.free,f.out,f.qH,nofun,nofun,nofun,f.os⟩
def pR:GC true CZ RZ:=⟨λh f=>⟨h.bg f.free (f.au rfl) f.qH,f.off⟩,Fr.refl _ _ _,Fr.trans⟩
def CZ.nil:CZ [] g w:=λp o u n xs h=>by simp at h
def Pk(h:SW P false c st (Q [])):rq P CZ RZ [] c st Q:=λa w g hr hc=>
 Code.wp_mono (λe a' w' ⟨st',g',q,r,f⟩=>⟨[],st',g',q,r,CZ.nil,f⟩) (h a w g hr)
def JG{Q:Exit->St->Prop}(h:rq P CZ RZ [] c st (λ_ e st=>Q e st)):SW P false c st Q:=λa w g hr=>
 Code.wp_mono (λe a' w' ⟨s',st',g',q,r,c',f⟩=>⟨st',g',q,r,f⟩) (h a w g hr CZ.nil)
def Rel.view{t:Nat}(hr:Rel st a w g)(hc:CZ s g w)(hp:s[p]? =some (o,u,n,xs))(ht:st.tmps[t]? =some (.d (.raw u))):Rel (st.set t (.cq o n xs)) a w g:=by
 refine bc hr (by simp[St.set,hr.len]) hr.dS (λ_ _ h=>h) (λt' sv hs=>?_) hr.hp
 by_cases e:t=t'
 .subst e
  simp only[St.set]at hs
  rw[g_0 (aU ht)]at hs
  cases hs
  refine .inr (.inl ?_)
  have hv:Rd g w (valOf a t) (.raw u):=hr.tmp t _ ht
  have hv2:valOf a t=u:=by generalize valOf a t=z at hv;cases hv;rfl
  show eZ g w (some o) (valOf a t) n xs
  rw[hv2]
  exact(hc p o u n xs hp).2.oJ
 .simp only[St.set]at hs
  rw[g_1 e]at hs
  refine .inr (.inr ⟨hs,rfl,λo' _=>aO.refl _ _ _,λs0 e0=>⟨rfl,λy hy hb=>⟨y,?_,rfl⟩⟩⟩)
  have hne:t≠s0:=λe3=>by
   subst e3
   rw[ht]at hy
   cases hy
   simp[gl]at hb
  show((st.set t _).tmps)[s0]? =some y
  simp only[St.set]
  rw[g_1 hne]
  exact hy
def OV(P:Program)(ops:Array Oper)(k:Nat)(s:LS)(st:St)(K:LS->St->Prop):Prop:=
 ∀a w g,Rel st a w g->CZ s g w-> ∀X:Exit->Act->World->Prop,(∀s' st' a' w' g',K s' st'->Rel st' a' w' g'->CZ s' g' w'->Fr false g w g' w'->X .normal a' w')->wpList P ops X (ops.toList.drop k) a w
def nc(hk:K s st)(h:decide (ops.size<=k)=true:=by kernel_rfl):OV P ops k s st K:=λa w g hr hc X hX=>by
 rw[p_0 (by simpa using of_decide_eq_true h)]
 exact hX s st a w g hk hr hc (Fr.refl _ _ _)
def OV.val{o:Oper}{x:SV}(ho:fR ops k st=some o)(h: ∀a w g,Rel st a w g->CZ s g w-> ∃v,(execOp a.eval o).run P w=.ok (.value v) w/\BV g w st a v x)(hl:kx o.dst x=true)(hk:OV P ops (k+1) s (st.put o.dst x) K):OV P ops k s st K:=by
 obtain⟨h1,h2⟩:=bo ho
 intro a w g hr hc X hX
 obtain⟨v,e1,e2⟩:=h a w g hr hc
 rw[drop_cons h1]
 unfold wpList
 rw[bt hr h2,if_pos rfl]
 refine .inl ?_
 unfold Oper.wp
 rw[e1,Oper.upon_value]
 exact hk _ w g (hr.wa e2 hl) hc X hX
def Q4{o:Oper}{s':LS}{st':St}(ho:fR ops k st=some o)(h: ∀a w g,Rel st a w g->CZ s g w-> ∃w',(execOp a.eval o).run P w=.ok .skip w'/\Rel st' (a.put o.dst undef) w' g/\CZ s' g w'/\Fr false g w g w')(hk:OV P ops (k+1) s' st' K):OV P ops k s st K:=by
 obtain⟨h1,h2⟩:=bo ho
 intro a w g hr hc X hX
 obtain⟨w',e1,e2,e3,e4⟩:=h a w g hr hc
 rw[drop_cons h1]
 unfold wpList
 rw[bt hr h2,if_pos rfl]
 refine .inl ?_
 unfold Oper.wp
 rw[e1,Oper.upon_skip]
 exact hk _ w' g e2 e3 X λs2 iY a2 w2 g2 q r c f=>hX s2 iY a2 w2 g2 q r c (e4.trans f)
def Fz(n:Nat)(H:List aN)(L:List Nat)(ll:List (Nat×SV))(h:OV P ops k s (sp n ll H) K)(cR:bu n L st=some (ll,H):=by kernel_rfl):OV P ops k s st K:=
 λa w g hr hc=>h a w g (hr.bC (aL cR)) hc
def Ab{j:Int}(h:zR P ops i st=some (o',.raw u,j,n))(hp:s[p]? =some (o,u,n,xs))(h0:0<=j)(h1:j.toNat<xs.length)
  (hk:OV P ops (i+1) s (st.put o' (.d (.raw (lG u (j.toNat * n))))) K):OV P ops i s st K:=by
 unfold zR at h
 split at h
 .rename_i o1 ho
  split at h
  .rename_i T x ix hop
   split at h
   .rename_i v ik j' hx hi
    split at h
    .rename_i hT
     simp only[g_2,g_8]at h
     obtain⟨rfl,rfl,rfl,rfl⟩:=h
     refine OV.val ho (λa w g hr hc=>?_) rfl hk
     have hO:=(hc p _ _ _ _ hp).2
     obtain⟨km,off,cap,c,T0,us,e1,e2,e3,e4,e5,e6,e7,e8⟩:=hO.block (λe=>by subst e;simp at h1)
     obtain⟨e,he1,he2⟩:=oX hT
     have hrx:=cw hr hx
     have hev:a.eval x=u:=by
      generalize a.eval x=z at hrx
      cases hrx;rfl
     have hei:=jF hr hi
     have hpt:lG u (j'.toNat * fy P T)=.pointer (some ⟨km,off+j'.toNat * fy P T,none⟩):=by rw[e1];simp only[lG,Addr.add_lit]
     refine⟨_,?_,(show Rd g w (lG u (j'.toNat * fy P T)) (.raw (lG u (j'.toNat * fy P T)))from .raw (by rw[hpt];rfl))⟩
     unfold execOp
     rw[hop]
     simp only[hev,hei,e1]
     rw[Sem.run_bind,nY he1 (by rw[<-he2];exact hT) h0 ω]
     rw[<-e1,hpt,he2]
     rfl
    .cases h
   .cases h
  .cases h
 .cases h
def FA{m:Nat}(h:zU P ops i st=some (o',.raw (lG u m),fo))(hp:s[p]? =some (o,u,n,xs))(hne:xs≠[])
  (hk:OV P ops (i+1) s (st.put o' (.d (.raw (lG u (m+fo))))) K):OV P ops i s st K:=by
 unfold zU at h
 split at h
 .rename_i o1 ho
  split at h
  .rename_i S x f hop
   split at h
   .rename_i v fo' hx hfo
    simp only[g_2,g_8]at h
    obtain⟨rfl,rfl,rfl⟩:=h
    refine OV.val ho (λa w g hr hc=>?_) rfl hk
    have hO:=(hc p _ _ _ _ hp).2
    obtain⟨km,off,cap,c,T0,us,e1,-⟩:=hO.block hne
    have hrx:=cw hr hx
    have hev:a.eval x=lG u m:=by
     generalize a.eval x=z at hrx
     cases hrx;rfl
    have hp: ∀m,lG u m=.pointer (some ⟨km,off+m,none⟩):=λm=>by rw[e1];simp only[lG,Addr.add_lit]
    refine⟨_,?_,(show Rd g w (lG u (m+fo')) (.raw (lG u (m+fo')))from .raw (by rw[hp];rfl))⟩
    unfold execOp
    rw[hop]
    simp only[hev,hp]
    rw[Sem.run_bind,kA hfo]
    rw[Nat.add_assoc]
    rfl
   .cases h
  .cases h
 .cases h
def IN(x:D)(q:Nat)(y:D):D:=match x with
 |.agg cs=>.agg (cs.set q y)
 |_=>y
def Kd(P:Program)(ops:Array Oper)(k:Nat)(st:St):Option (D×IntKind×Int):=match fR ops k st with
 |some o=>match o.op with
  |.store T x y=>if(!(P.underlying T).isNone&&P.cellsOf T==1&&o.dst.isNone)=true then match cx st x,cx st y with
   |some v,some (.int ik z)=>some (v,ik,z)
   |_,_=>none
   else none
  |_=>none
 |none=>none
def IM{x:D}(hq:q<x.cells.length)(hy:y.cells=[y]):(IN x q y).cells=x.cells.set q y:=by
 unfold IN
 split
 .rfl
 .rename_i h
  have:x.cells=[x]:=by cases x<;>first|rfl|exact absurd rfl (h _)
  rw[this]at hq ⊢
  simp at hq
  subst hq
  simp[hy]
def xk{sv:SV}{i j t:Nat}(h:er sv=true): ¬jQ t sv (.bN (.au i j)):=by
 intro hu
 cases sv<;>simp[jQ]at hu
 .subst hu;simp[er]at h
 .subst hu;simp[er]at h
def Aa{j q:Nat}{x:D}(h:Kd P ops i st=some (.raw (lG u (j * n+q)),ik,z))(hp:s[p]? =some (o,u,n,xs))(hx:xs[j]? =some x)(hq:q<x.cells.length)(hd:(s.map (·.1)).Nodup)
  (hH: ∀i j,o=.au i j->st.H[i]? =some .hole) (hn:st.tmps.all er=true) (hk:OV P ops (i+1) (s.set p (o,u,n,xs.set j (IN x q (.int ik z)))) st K):OV P ops i s st K:=by
 unfold Kd at h
 split at h
 .rename_i o1 ho
  split at h
  .rename_i T a1 a2 hop
   split at h
   .rename_i hT
    simp only[g_3,k_4,beq_iff_eq,m_2]at hT
    split at h
    .rename_i v ik' z' hv1 hv2
     simp only[g_2,g_8]at h
     obtain⟨rfl,rfl,rfl⟩:=h
     refine Q4 ho (λa w g hr hc=>?_) hk
     obtain⟨⟨oi,oj,rfl⟩,hO⟩:=hc p _ _ _ _ hp
     obtain⟨km,off,cap,c,T0,us,e1,e2,e3,e4,e5,e6,e7,e8⟩:=hO.block (λe=>by subst e;simp at hx)
     have hcl:x.cells.length=n:=e6 j _ hx
     have hjl:j<xs.length:=aU hx
     have hrx:=cw hr hv1
     have hev:a.eval a1=.pointer (some ⟨km,off+(j * n+q),none⟩):=by
      generalize a.eval a1=y at hrx
      cases hrx
      rw[e1];simp only[lG,Addr.add_lit]
     have hry:=cw hr hv2
     have hevy:a.eval a2=.int ik' z':=by
      generalize a.eval a2=y at hry
      cases hry;rfl
     have hpn:j * n+n<=xs.length * n:=by
      have:=h_7 n (show j+1<=xs.length by omega)
      grind
     have hcap:xs.length * n<=cap * n:=h_7 n e4
     have hin:off+(j * n+q)+0+1<=c.size:=by omega
     obtain⟨w',r1,r2,r3,c',r4,r5,r6⟩:=cm (P:=P) km (off+(j * n+q)) T0 [.int ik' z'] 0 c w e3 (by simpa using hin) (by simp[Value.oneCell'])
     have hos:=cK (P:=P) km (off+(j * n+q)) T0 [.int ik' z'] 0 c w w' e3 (by simpa using hin) (by simp[Value.oneCell']) r1
     have hkp: ∀o',o'≠.bN (.au oi oj)->aO o' g w g w':=λo' h2=>aO.block e2 h2 r3
     have kp: ∀{v:Go.Value} {d:D},Rd g w v d->Rd g w' v d:=λh=>h.bg (hkp _ ψ) (λ_ _ h=>h)
     have hfr:Fr false g w g w':=⟨by rw[r2];exact h_0 _,hkp _ ψ,hkp _ ψ,λ_ _ h=>h,nofun,nofun,nofun,hos⟩
     have au:=IM (y:=.int ik' z') hq rfl
     have hmain:cy g w' (.au oi oj) u n (xs.set j (IN x q (.int ik' z'))):=by
      refine .inr ⟨km,off,cap,c',T0,λi1 j1=>if i1=j/\j1=q then .int ik' z' else us i1 j1,by rw[e1];simp,e2,r4,by simpa using e4,by rw[r5];exact e5,λi1 y hy=>?_,λi1 y hy j1 z1 hz=>?_,λi1 y hy j1 z1 hz=>?_⟩
      .by_cases hi:j=i1
       .subst hi
        rw[g_0 hjl]at hy
        cases hy
        rw[au,k_6];exact hcl
       .rw[g_1 hi]at hy
        exact e6 i1 y hy
      .have hjn:j1<n:=by
        have:=aU hz
        by_cases hi:j=i1
        .subst hi
         rw[g_0 hjl]at hy
         cases hy
         rw[au,k_6]at this
         omega
        .rw[g_1 hi]at hy
         rw[e6 i1 y hy]at this
         exact this
       have hil:i1<xs.length:=by have:=aU hy;simpa using this
       rw[r6]
       dsimp only
       by_cases hij:i1=j/\j1=q
       .rw[if_pos hij,if_pos (by obtain⟨rfl,rfl⟩:=hij;simp;omega)]
        rw[show off+i1 * n+j1 - (off+(j * n+q)+0)=0 by rw[hij.1,hij.2];omega]
        exact⟨rfl,rfl⟩
       .have hne: ¬(off+(j * n+q)+0<=off+i1 * n+j1/\off+i1 * n+j1<off+(j * n+q)+0+1):=by
         intro hh
         have hEq:i1 * n+j1=j * n+q:=by omega
         have hqn:q<n:=by omega
         have h1:(i1 * n+j1) / n=i1:=by rw[Nat.mul_comm,Nat.mul_add_div ω];simp[Nat.div_eq_of_lt hjn]
         have h2:(j * n+q) / n=j:=by rw[Nat.mul_comm,Nat.mul_add_div ω];simp[Nat.div_eq_of_lt hqn]
         have h3:i1=j:=by rw[<-h1,hEq,h2]
         subst h3
         exact hij ⟨rfl,ω⟩
        rw[if_neg (by simpa using hne),if_neg hij]
        by_cases hi:j=i1
        .subst hi
         rw[g_0 hjl]at hy
         cases hy
         rw[au,g_1 (λe=>hij ⟨rfl,e.symm⟩)]at hz
         exact e7 j _ hx j1 z1 hz
        .rw[g_1 hi]at hy
         exact e7 i1 y hy j1 z1 hz
      .dsimp only
       by_cases hi:j=i1
       .subst hi
        rw[g_0 hjl]at hy
        cases hy
        rw[au]at hz
        by_cases hj:j1=q
        .subst hj
         rw[g_0 hq]at hz
         cases hz
         rw[if_pos ⟨rfl,rfl⟩]
         exact .int
        .rw[g_1 (λe=>hj e.symm)]at hz
         rw[if_neg (λe=>hj e.2)]
         exact kp (e8 j _ hx j1 z1 hz)
       .rw[g_1 hi]at hy
        rw[if_neg (λe=>hi e.1.symm)]
        exact kp (e8 i1 y hy j1 z1 hz)
     have hrel:Rel st (a.put o1.dst undef) w' g:=by
      rw[hT.2]
      refine bc hr hr.len hr.dS (λ_ _ h=>h) (λt sv hts=>?_) ⟨hr.hp.1,λi' o' hi'=>?_⟩
      .have hnh:er sv=true:=h_4.1 hn sv (h_2.2 ⟨t,hts⟩)
       exact .inr (.inr ⟨hts,rfl,λo' ho'=>hkp o' (λe2=>by subst e2;exact xk hnh ho'),λs0 e0=>⟨rfl,λy hy hb=>⟨y,hy,rfl⟩⟩⟩)
      .by_cases e:oi=i'
       .subst e
        rw[hH _ _ rfl]at hi'
        cases hi'
        trivial
       .exact(hr.hp.2 i' o' hi').nO (hkp _ ψ) (hkp _ ψ) (λj=>hkp _ (λe2=>by cases e2;exact e rfl)) (λ_ _ h=>h)
     have hC':CZ (s.set p (.au oi oj,u,n,xs.set j (IN x q (.int ik' z')))) g w':=by
      intro p' o' u' n' xs' hp'
      by_cases e:p=p'
      .subst e
       rw[g_0 (aU hp)]at hp'
       cases hp'
       exact⟨⟨_,_,rfl⟩,hmain⟩
      .rw[g_1 e]at hp'
       obtain⟨h1,h2⟩:=hc p' o' u' n' xs' hp'
       refine⟨h1,h2.bg (hkp _ ψ) (hkp _ (λe3=>?_)) (λ_ _ h=>h)⟩
       cases e3
       have m1:(s.map (·.1))[p]? =some (.au oi oj):=by rw[h_1,hp];rfl
       have m2:(s.map (·.1))[p']? =some (.au oi oj):=by rw[h_1,hp'];rfl
       exact e ((List.getElem?_inj (aU m1) hd).1 (m1.trans m2.symm))
     have hex:(execOp a.eval o1).run P w=.ok .skip w':=by
      unfold execOp;rw[hop]
      simp only[Instr.storeAt,Sem.run_bind,hev,Instr.sureAddr,Sem.run_pure,Result.andThen_ok,storeVar,gA hT.1.1]
      rw[hevy]
      simp only[Value.cells]
      simp[hT.1.2,r1]
     exact⟨w',hex,hrel,hC',hfr⟩
    .cases h
   .cases h
  .cases h
 .cases h
def CZ.free{H:List aN}(hc:CZ s g w)(hH: ∀(p:Nat) (o:Loc) (u:Go.Value) (n:Nat) (xs:List D),s[p]? =some (o,u,n,xs)-> ∀i j,o=.au i j->H[i]? =some .hole):
  ∃g',g'.ρ=g.ρ/\(∀o,(∀i j,o≠.bN (.au i j))->aO o g w g' w)/\(∀i,H[i]? ≠some .hole-> ∀j,aO (.bN (.au i j)) g w g' w)/\
   ∀(p:Nat) (o:Loc) (u:Go.Value) (n:Nat) (xs:List D),s[p]? =some (o,u,n,xs)->Rd g' w u (.list n xs):=by
 let rn:Own->Own:=λo=>if ∃e∈s,o=.bN e.1 then .free else o
 have hk: ∀o,(¬ ∃e∈s,o=.bN e.1)->aO o g w (g.br rn) w:=λo h1=>aO.br (by simp only[rn];rw[if_neg h1])
 have hh: ∀e∈s,∃i j,e.1=.au i j/\H[i]? =some .hole:=λe he=>by
  obtain⟨p,hp⟩:=h_2.1 he
  obtain⟨o,u,n,xs⟩:=e
  obtain⟨⟨i,j,rfl⟩,-⟩:=hc p o u n xs hp
  exact⟨i,j,rfl,hH p _ u n xs hp i j rfl⟩
 refine⟨g.br rn,rfl,λo h1=>hk o (λ⟨e,he,h2⟩=>?_),λi hi j=>hk _ (λ⟨e,he,h2⟩=>?_),λp o u n xs hp=>
  eZ.free (l:=o) (by simp only[rn];rw[if_neg (λ⟨e,_,h⟩=>by cases h)]) (by simp only[rn];rw[if_pos ⟨_,h_2.2 ⟨p,hp⟩,rfl⟩]) (hc p o u n xs hp).2.oJ⟩
 .obtain⟨i,j,h3,-⟩:=hh e he
  exact h1 i j (by rw[h2,h3])
 .obtain⟨i1,j1,h3,h4⟩:=hh e he
  rw[h3]at h2
  cases h2
  exact hi h4
def RH.GW{H:List aN}(h:RH g w H)(hρ:g'.ρ=g.ρ)(h1: ∀o,(∀i j,o≠.bN (.au i j))->aO o g w g' w)(h2: ∀i,H[i]? ≠some .hole-> ∀j,aO (.bN (.au i j)) g w g' w):RH g' w H:=
 ⟨by rw[hρ];exact h.1,λi o hi=>by
  by_cases e:H[i]? =some .hole
  .rw[e]at hi;cases hi;trivial
  .exact(h.2 i o hi).nO (h1 _ ψ) (h1 _ ψ) (h2 i e) (λ_ _ h=>by rw[hρ];exact h)⟩
def Fr.GW(hρ:g'.ρ=g.ρ)(h1: ∀o,(∀i j,o≠.bN (.au i j))->aO o g w g' w):Fr false g w g' w:=
 ⟨h_0 _,h1 _ ψ,h1 _ ψ,λ_ _ h=>by rw[hρ];exact h,nofun,nofun,nofun,⟨rfl,rfl⟩⟩
def MG{v:Go.Value}{d:D}(t:Nat)(ht:st.tmps[t]? =some (.d (.raw v)))(hH: ∀(p:Nat) (o:Loc) (u:Go.Value) (n:Nat) (xs:List D),s[p]? =some (o,u,n,xs)-> ∀i j,o=.au i j->st.H[i]? =some .hole)(hn:st.tmps.all er=true)
  (hd: ∀g w,(∀(p:Nat) (o:Loc) (u:Go.Value) (n:Nat) (xs:List D),s[p]? =some (o,u,n,xs)->Rd g w u (.list n xs))->Rd g w v d) (h:rq P CZ RZ [] c (st.set t (.d d)) Q):rq P CZ RZ s c st Q:=by
 intro a w g hr hc
 obtain⟨g',hρ,h1,h2,hall⟩:=hc.free hH
 have hrel:Rel (st.set t (.d d)) a w g':=by
  refine bc hr (by simp[St.set,hr.len]) hr.dS (λ_ _ h=>by rw[hρ];exact h) (λt' sv hs=>?_) (hr.hp.GW hρ h1 h2)
  by_cases e:t=t'
  .subst e
   simp only[St.set]at hs
   rw[g_0 (aU ht)]at hs
   cases hs
   refine .inr (.inl ?_)
   have hv:Rd g w (valOf a t) (.raw v):=hr.tmp t _ ht
   have hv2:valOf a t=v:=by generalize valOf a t=z at hv;cases hv;rfl
   show Rd _ _ (valOf a t) _
   rw[hv2]
   exact hd _ _ hall
  .simp only[St.set]at hs
   rw[g_1 e]at hs
   have hnh:er sv=true:=h_4.1 hn sv (h_2.2 ⟨t',hs⟩)
   refine .inr (.inr ⟨hs,rfl,λo' ho'=>h1 o' (λi j e2=>by subst e2;exact xk hnh ho'),λs0 e0=>⟨rfl,λy hy hb=>⟨y,?_,rfl⟩⟩⟩)
   have hne:t≠s0:=λe3=>by
    subst e3
    rw[ht]at hy
    cases hy
    simp[gl]at hb
   show((st.set t _).tmps)[s0]? =some y
   simp only[St.set]
   rw[g_1 hne]
   exact hy
 exact Code.wp_mono (λe a' w' ⟨s',st',g2,q,r,c',f⟩=>⟨s',st',g2,q,r,c',(Fr.GW hρ h1).trans f⟩) (h a w _ hrel CZ.nil)
def UD(P:Program)(f:FuncId)(args:List SV)(H H':List aN)(Post:Go.Value->LS->Prop):Prop:=
 ∀(w:World) (g:Gh) (vs:Array Go.Value),jM g w vs args->RH g w H->Calls P f vs w λe w'=> ∃v g' ls,e=.returned v/\v.oneCell'=true/\Post v ls/\RH g' w' H'/\CZ ls g' w'/\Fr false g w g' w'
def JK{H H':List aN}{Post:Go.Value->LS->Prop}{r:D}(h:UD P f args H H' Post)(hd: ∀v ls,Post v ls->(∀(p:Nat) (o:Loc) (u:Go.Value) (n:Nat) (xs:List D),ls[p]? =some (o,u,n,xs)-> ∀i j,o=.au i j->H'[i]? =some .hole)/\
  ∀g w,(∀(p:Nat) (o:Loc) (u:Go.Value) (n:Nat) (xs:List D),ls[p]? =some (o,u,n,xs)->Rd g w u (.list n xs))->Rd g w v r):SC P false f args H (.d r) H':=λw g vs ha hH=>
 (h w g vs ha hH).mono λe w' hh=>by
  obtain⟨v,g',ls,rfl,-,hP,q1,q2,q3⟩:=hh
  obtain⟨k1,k2⟩:=hd v ls hP
  obtain⟨g2,hρ,h1,h2,hall⟩:=q2.free k1
  exact⟨v,g2,rfl,k2 _ _ hall,q1.GW hρ h1 h2,q3.trans (Fr.GW hρ h1)⟩
def HU{a:Go.Act}{H':List aN}{d0:Option Tmp}{v:Go.Value}{r:D}(hr:Rel st a w g)(hn:st.tmps.all er=true)(hH:RH g' w' H')(hρ:eB g g')
  (hkp: ∀o,iZ o=false->aO o g w g' w') (hv:Rd g' w' v r):Rel ⟨(st.put d0 (.d r)).tmps,H'⟩ (a.put d0 v) w' g':=by
 refine bc hr (by rw[eb];simp only[cU];exact hr.len) (by rw[put_defers];exact hr.dS) hρ (λt s hs=>?_) hH
 by_cases hdt:d0=some t
 .simp only at hs
  rw[hdt]at hs ⊢
  obtain⟨rfl,hlt⟩:=bY hs
  refine .inr (.inl ?_)
  rw[bW (by rw[hr.len];exact hlt)]
  exact hv
 .simp only at hs
  have hput:s=.undef\/(st.tmps[t]? =some s/\ ∀t0 old,d0=some t0->st.tmps[t0]? =some old->uB old=true->dM t0 s=false):=by
   cases hdst:d0 with
   |none=>rw[hdst]at hs;exact .inr ⟨hs,ψ⟩
   |some t0=>
    rw[hdst]at hs hdt
    rcases eu (λe=>hdt (by rw[e])) hs with h|⟨h1,h2⟩
    .exact .inl h
    grind
  rcases hput with rfl|⟨hs3,hs2⟩
  .exact .inl rfl
  .have hnh:er s=true:=h_4.1 hn s (h_2.2 ⟨t,hs3⟩)
   refine .inr (.inr ⟨hs3,cr hdt,λo' ho'=>?_,λs0 e=>?_⟩)
   .cases o' with
    |obj i=>exact absurd ho' nh
    |bN l=>
     cases l with
     |au i j=>exact absurd ho' (xk hnh)
     |_=>exact hkp _ rfl
    |_=>exact hkp _ rfl
   .obtain⟨x0,hx0,hb0⟩:=kM (hr.tmp t _ hs3) e
    have hd0:d0≠some s0:=λe2=>by
     have:=hs2 s0 _ e2 hx0 (gI hb0)
     rw[cH e]at this
     cases this
    exact⟨cr hd0,λx hx hb=>⟨x,eY hx hb hd0,rfl⟩⟩
def Ib{H':List aN}{Post:Go.Value->LS->Prop}(hp:UD P f args st.H H' Post)(h:eg P ops i st []=some (o',f,args,[],[]))(hn:st.tmps.all er=true)
  (hk: ∀v ls,Post v ls->K ls ⟨(st.put o' (.d (.raw v))).tmps,H'⟩):iW P CZ RZ ops i [] st K:=by
 unfold eg at h
 split at h
 .rename_i o ho
  split at h
  .rename_i c hop
   split at h
   .rename_i cs hcs
    simp only[g_2,g_8]at h
    obtain⟨rfl,rfl,rfl,e1,e2⟩:=h
    obtain⟨h1,h2⟩:=bo ho
    obtain⟨f0,a0,l0,g0⟩:=cs
    cases e1;cases e2
    intro a w g hr hc N R' hN
    obtain⟨vs,k1,k2,k3⟩:=ya hr hop hcs
    unfold wpOpIn
    rw[h1]
    simp only[bt hr h2,if_true]
    refine⟨λf _=>trivial,?_⟩
    show Oper.uponIn _ _ _ _ _ _ _ ((execOp a.eval o).run P w)
    rw[k1]
    simp only[Oper.uponIn]
    refine⟨(λh=>nomatch h),callsIn_wide.2 ((hp w _ vs k2 k3).mono λe w' hh=>?_)⟩
    obtain⟨v,g3,ls,rfl,hv,hP,q1,q2,q3⟩:=hh
    obtain⟨p1,p2⟩:=mS 0 q3 q1
    have hk3: ∀o,iZ o=true->zb 0 o=o->aO o g3 w' ⟨im w.heap.size 0 g.ow g3.ow,g3.ρ⟩ w':=λo ho hb k b h1 h2=>by
     refine⟨?_,h2⟩
     have:=uW (t:=0) q3 (λe=>by subst e;cases ho) h1 (λe=>by subst e;cases ho)
     rw[this,hb]
    have hfree:aO .free g3 w' ⟨im w.heap.size 0 g.ow g3.ow,g3.ρ⟩ w':=λk b h1 h2=>⟨uW (t:=0) q3 ψ h1 (λ_=>rfl),h2⟩
    exact hN ls _ _ w' _ (hk v ls hP) (HU hr hn p2 p1.qH (λo ho=>Bo q3 ho) (.raw hv)) (q2.bg hfree (λi j=>hk3 _ rfl rfl) (λ_ _ h=>h)) p1
   .cases h
  .cases h
 .cases h
end
abbrev SN:=((Go.Value×KS)×ES)⊕LS
def RR(oi di n:Nat)(dd:D):SN->Gh->World->Prop:=λs=>match s with
 |.inl s=>Lr oi di n dd s
 |.inr s=>CZ s
def RL:SN->Gh->World->SN->Gh->World->Prop:=λ_ g w _ g' w'=>Fr false g w g' w'
section
variable {P:Program} {oi di n:Nat} {dd:D} {st:St} {Q:SN->Exit->St->Prop} {c:Code}
def EP(hne:di≠oi):GC true (RR oi di n dd) RL:=
 ⟨λ{s} _ _ _ _ h f=>by
  cases s with
  |inl s=>exact⟨((jH hne).fr h f).1,f.off⟩
  |inr s=>exact⟨(pR.fr h f).1,f.off⟩,Fr.refl _ _ _,Fr.trans⟩
def HL{s:(Go.Value×KS)×ES}(h:rq P (Lr oi di n dd) (Tg oi) s c st (λs' e st'=>Q (.inl s') e st')):rq P (RR oi di n dd) RL (.inl s) c st Q:=λa w g hr hc=>
 Code.wp_mono (λe a' w' ⟨s',st',g',q,r,c',f⟩=>⟨.inl s',st',g',q,r,c',xg.fr f⟩) (h a w g hr hc)
def qw(h:SW P false c st (Q (.inr []))):rq P (RR oi di n dd) RL (.inr []) c st Q:=λa w g hr hc=>
 Code.wp_mono (λe a' w' ⟨st',g',q,r,f⟩=>⟨.inr [],st',g',q,r,CZ.nil,f⟩) (h a w g hr)
def JJ{s:(Go.Value×KS)×ES}{xs:List D}{m:Nat}(ls:LS)(hH:st.H[oi]? =some (.cells [.own m xs]))(hl: ∀g w,Lr oi di n dd s g w->cy g w (.au oi 0) s.1.1 m xs->CZ ls g w)
  (h:rq P (RR oi di n dd) RL (.inr ls) c ⟨st.tmps,st.H.set oi .hole⟩ Q):rq P (RR oi di n dd) RL (.inl s) c st Q:=λa w g hr hc=>by
 obtain⟨kv,cv,Tv,-,-,-,-,-,hO⟩:=xc hr.hp hc.1 hH
 have hrel:Rel ⟨st.tmps,st.H.set oi .hole⟩ a w g:=⟨hr.len,hr.dS,hr.tmp,by simpa using hr.hp.1,λi o hi=>by
  simp only at hi
  by_cases e:oi=i
  .subst e
   rw[g_0 (aU hH)]at hi
   cases hi
   trivial
  .rw[g_1 e]at hi
   exact hr.hp.2 i o hi⟩
 exact h a w g hrel (hl g w hc hO)
def HP{H H':List aN}{Post:Go.Value->LS->Prop}(hf:P.funcs[f]? =some fn)(hb:fn.body=some c)(hr:fn.results= #[.tmp t])
  (h:rq P (RR oi di n dd) RL (.inr []) c (k8 fn.ntmps args H) (λs' e st'=>(e=.normal\/e=.ret)/\ ∃v ls,s'=.inr ls/\Post v ls/\st'.H=H'/\st'.tmps[t]? =some (.d (.raw v)))):UD P f args H H' Post:=by
 intro w g vs ha hH
 refine calls_of_wp hf hb (Code.wp_mono (λe a' w' hh=>?_) (h _ _ g (oD ha hH fn.ntmps) CZ.nil))
 obtain⟨s',st',g',⟨he,v,ls,rfl,hP,rfl,hv⟩,r,c1,f1⟩:=hh
 have hrd:Rd g' w' (valOf a' t) (.raw v):=r.tmp t _ hv
 obtain⟨hval,au⟩:valOf a' t=v/\v.oneCell'=true:=by generalize valOf a' t=u at hrd;cases hrd;exact⟨rfl,by assumption⟩
 have hres:(results fn a'.tmps).run P w'=.ok v w':=by
  have:=ln (P:=P) (fn:=fn) (tm:=a'.tmps) (w:=w') (vs:=[v]) (by simp[hr]) (λj rv hj=>by
   rw[hr]at hj
   cases j with
   |zero=>
    simp only[List.getElem?_toArray,j_3,g_2]at hj
    subst hj
    exact⟨_,rfl,by simp only[kU];exact congrArg (λv=>Result.ok v w') hval⟩
   |succ j=>simp at hj)
  simpa using this
 rcases he with rfl|rfl
 .exact⟨r.dS,_,hres,v,g',ls,rfl,au,hP,r.hp,c1,f1⟩
 .exact⟨r.dS,_,hres,v,g',ls,rfl,au,hP,r.hp,c1,f1⟩
end
section
variable {P:Program} {s:LS} {st:St} {ops:Array Oper} {m k n:Nat} {K:St->Prop}
def OZ(P:Program)(ops:Array Oper)(m k:Nat)(s:LS)(st:St)(K:St->Prop):Prop:=
 ∀a w g,Rel st a w g->CZ s g w-> ∀Qc:Act->Prop,(∀st' a' g',K st'->Rel st' a' w g'->CZ s g' w->Fr false g w g' w->Qc a')->wpStill P ops w Qc ((ops.toList.take m).drop k) a
def rR{w:World}{Q:Act->Prop}: ∀(l1 l2:List Oper),wpStill P ops w Q (l1++l2)=wpStill P ops w (wpStill P ops w Q l2) l1
 |[],l2=>rfl
 |o::l1,l2=>by
  funext a
  show(if _ then Oper.still P o a w (wpStill P ops w Q (l1++l2))else wpStill P ops w Q (l1++l2) (a.put o.dst undef))=_
  rw[rR l1 l2]
  rfl
def nE{w:World}{X:Exit->Act->World->Prop}{l2:List Oper}: ∀(l1:List Oper) (a:Act),wpStill P ops w (λa'=>wpList P ops X l2 a' w) l1 a->wpList P ops X (l1++l2) a w
 |[],a,h=>h
 |o::l1,a,h=>by
  show(if _ then _\/_ else _)
  have h:(if Region.wanted o (yielded ops a.tmps)then o.still P a w (wpStill P ops w (λa'=>wpList P ops X l2 a' w) l1)else wpStill P ops w (λa'=>wpList P ops X l2 a' w) l1 (a.put o.dst undef)):=h
  split
  .rename_i hw
   rw[if_pos hw]at h
   exact .inl (Oper.wp_of_still (λa' h'=>nE l1 a' h') h)
  .rename_i hw
   rw[if_neg hw]at h
   exact nE l1 _ h
def m8(hk:K st)(h:decide (m<=k)=true:=by kernel_rfl):OZ P ops m k s st K:=λa w g hr hc Qc hq=>by
 rw[p_0 (by have:=of_decide_eq_true h;simp;omega)]
 exact hq st a g hk hr hc (Fr.refl _ _ _)
def OZ.F(j:Nat)(h:lh P ops (k+j) k st (λjh=>OZ P ops m (k+j) s jh K))(hm:decide (k+j<=m/\m<=ops.size)=true:=by kernel_rfl):OZ P ops m k s st K:=by
 obtain⟨h1,h2⟩:=of_decide_eq_true hm
 intro a w g hr hc Qc hq
 have e:(ops.toList.take m).drop k=(ops.toList.take (k+j)).drop k++(ops.toList.take m).drop (k+j):=by
  have e1:ops.toList.take (k+j)=(ops.toList.take m).take (k+j):=by rw[List.take_take,p_7 h1]
  rw[e1]
  have hl:(ops.toList.take m).length=m:=by simp;omega
  generalize ops.toList.take m=l at hl
  rw[<-List.drop_append_of_le_length χ,m_8]
 rw[e,rR]
 exact h a w g hr _ λjh a1 g1 q1 r1 f1=>q1 a1 w g1 r1 (pR.fr hc (f1 true)).1 Qc λiY a2 g2 q2 r2 c2 f2=>hq iY a2 g2 q2 r2 c2 ((f1 false).trans f2)
def OZ.view{p:Nat}{o:Loc}{u:Go.Value}{w:Nat}{xs:List D}(t:Nat)(hp:s[p]? =some (o,u,w,xs))(h:OZ P ops m k s (st.set t (.cq o w xs)) K)(ht:st.tmps[t]? =some (.d (.raw u)):=by kernel_rfl):OZ P ops m k s st K:=
 λa w g hr hc=>h a w g (hr.view hc hp ht) hc
def CZ.drew{g:Gh}{w:World}(h:CZ s g w):CZ s g w.drew:=(pR.fr h (Fr.drew (pu:=true))).1
def rp{id:Nat}{l:List Oper}{Q:LS->Exit->St->Prop}(n:Nat)(hm:P.follows .mixedOrders=true)(hB:Region.lexTailB .any l.toArray n=true)(h:OZ P l.toArray n 0 s st (λjh=>OV P l.toArray n s jh (λs' st'=>Q s' .normal st'))):
  rq P CZ RZ s (.region id l.toArray true) st Q:=by
 intro a w g hr hc
 refine wp_region_still_tail n hm hB ?_
 exact h a w.drew g hr.drew hc.drew _ λjh a1 g1 q1 r1 c1 f1=>q1 a1 w.drew g1 r1 c1 _ λs' st' a' w' g' q r c f=>⟨s',st',g',q,r,c,(Fr.drew.trans f1).trans f⟩
def gJ{id:Nat}{l:List Oper}{Q:LS->Exit->St->Prop}(n:Nat)(h:OZ P l.toArray n 0 s st (λjh=>OV P l.toArray n s jh (λs' st'=>Q s' .normal st'))):rq P CZ RZ s (.region id l.toArray false) st Q:=by
 intro a w g hr hc
 refine wp_region_lit ?_
 have:=nE (P:=P) (ops:=l.toArray) (X:=λe a' w'=> ∃s' st' g',Q s' e st'/\Rel st' a' w' g'/\CZ s' g' w'/\RZ s g w s' g' w') (l2:=l.drop n) (l.take n) a (h a w g hr hc _ λjh a1 g1 q1 r1 c1 f1=>q1 a1 w g1 r1 c1 _ λs' st' a' w' g' q r c f=>⟨s',st',g',q,r,c,f1.trans f⟩)
 rw[m_8]at this
 exact this
def DV{x y:Code}{Q:LS->Exit->St->Prop}(J:LS->St->Prop)(h1:rq P CZ RZ s x st (FR J Q))(h2: ∀s' st',J s' st'->rq P CZ RZ s' y st' Q):rq P CZ RZ s (.seq x y) st Q:=
 bQ pR λa w g hr hc=>Code.wp_mono (λe a' w' ⟨s',st',g',q,r,c,f⟩=>⟨s',st',g',by cases e<;>first|exact h2 _ _ q|exact q,r,c,f⟩) (h1 a w g hr hc)
end
end Go.Sh
