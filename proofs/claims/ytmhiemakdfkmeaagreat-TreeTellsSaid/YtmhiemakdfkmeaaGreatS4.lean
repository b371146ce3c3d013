/- Contracts of functions over plain data. -/
import Derived.Test.YtmhiemakdfkmeaaGreatS3
set_option linter.all false
set_option autoImplicit true
set_option relaxedAutoImplicit true
namespace Go.Sh
def uS(o:Option St):St:=o.getD ⟨[],[]⟩
def fR(h:o.isSome=true):o=some (uS o):=by cases o with|none=>cases h|some s=>rfl
def gW(ops:Array Oper)(k:Nat):Option Tmp:=(ops[k]?).bind (·.dst)
def wb{st:St}(h:(bC L st).isSome=true): ∃l,bx st.tmps.length L st=some (l,st.H)/\uS (bC L st)=sp st.tmps.length l st.H:=by
 have h1:bx st.tmps.length L st=some (mQ L 0 st.tmps,st.H):=by
  unfold bC Gu at h
  unfold bx
  split at h
  .rename_i h1
   simp only at h
   split at h
   .rename_i h2;simp[h1,h2]
   .cases h
  .cases h
 exact⟨_,h1,by rw[aO h1];rfl⟩
section
variable {P:Program} {pu:Bool} {st:St} {ops:Array Oper} {k:Nat} {Q:St->Prop}
def mS{Q:Exit->St->Prop}(j:Nat)(L:List Nat)(hn:SW P pu (GR j c) (uS ((Sh.FT P j c st).bind (bC L))) Q)(h:((Sh.FT P j c st).bind (bC L)).isSome=true:=by kernel_rfl):SW P pu c st Q:=by
 obtain⟨kE,h1,h2⟩:=g_6.1 (fR h)
 exact wY j c _ kE h1 (B3 L h2 hn)
def aU(bP L:List Nat)(j:Nat)(hn:bX P pu ops (k+j) (uS ((fS P bP ops j k st).bind (bC L))) Q)(h:((fS P bP ops j k st).bind (bC L)).isSome=true:=by kernel_rfl):bX P pu ops k st Q:=
 uj bP L j (fR h) hn
def pE(bP L:List Nat)(j:Nat)(hn:lM P ops m (k+j) (uS ((dJ P bP ops j k st).bind (bC L))) Q)(hm:decide (k+j<=m)=true:=by kernel_rfl)(h:((dJ P bP ops j k st).bind (bC L)).isSome=true:=by kernel_rfl):lM P ops m k st Q:=
 DT bP L j hm (fR h) hn
def dt(bP L:List Nat)(j:Nat)(hn:jR P ops (k+j) (uS ((dJ P bP ops j k st).bind (bC L))) Q)(h:((dJ P bP ops j k st).bind (bC L)).isSome=true:=by kernel_rfl):jR P ops k st Q:=by
 obtain⟨kE,h1,h2⟩:=g_6.1 (fR h)
 exact Cg j h1 (qV L h2 hn)
def KK(L:List Nat)(hn:lQ P ops (k+1) (uS ((u6 P ops k st).bind (bC L))) Q)(h:((u6 P ops k st).bind (bC L)).isSome=true:=by kernel_rfl):lQ P ops k st Q:=by
 obtain⟨kE,h1,h2⟩:=g_6.1 (fR h)
 obtain⟨l,h3,h4⟩:=wb (L:=L) (st:=kE) (by rw[h2];rfl)
 rw[h1,k_2]at hn
 rw[h4]at hn
 exact du _ _ L l (by rw[h1];exact h3) hn
def qd{s:SV}(L:List Nat)(hb:qY P ops k st (gW ops k) s)(hn:bX P pu ops (k+1) (uS (bC L (st.put (gW ops k) s))) Q)(h:(bC L (st.put (gW ops k) s)).isSome=true:=by kernel_rfl):bX P pu ops k st Q:=HO L hb (fR h) hn
def KM{s:SV}(L:List Nat)(hb:qY P ops k st (gW ops k) s)(hn:lQ P ops (k+1) (uS (bC L (st.put (gW ops k) s))) Q)(h:(bC L (st.put (gW ops k) s)).isSome=true:=by kernel_rfl):lQ P ops k st Q:=by
 obtain⟨l,h1,h2⟩:=wb h
 rw[h2]at hn
 exact jO _ _ L l hb h1 hn
def Si(L:List Nat)(hp:SC P false f args H0 r H')(hn:bX P false ops (k+1) (uS (bC L ⟨(st.put (gW ops k) r).tmps,H'⟩)) Q)(hH:st.H=H0:=by kernel_rfl)(h:ew P ops k st []=some (gW ops k,f,args,[],[]):=by kernel_rfl)
  (hr:(pG r&&st.tmps.all fF)=true:=by kernel_rfl) (hs:(bC L ⟨(st.put (gW ops k) r).tmps,H'⟩).isSome=true:=by kernel_rfl):bX P false ops k st Q:=by
 obtain⟨l,h1,h2⟩:=wb hs
 rw[h2]at hn
 subst hH
 exact xe _ L l hp h hr h1 hn
def O8(L:List Nat)(hp:SC P true f args H0 r H')(hn:bX P pu ops (k+1) (uS (bC L (st.put (gW ops k) r))) Q)(hH:mj ls st.H=H0:=by kernel_rfl)
  (h:ew P ops k st []=some (gW ops k,f,args,ls,[]):=by kernel_rfl) (hr:(pG r&&(ls.isEmpty||ng r))=true:=by kernel_rfl) (hs:(bC L (st.put (gW ops k) r)).isSome=true:=by kernel_rfl):bX P pu ops k st Q:=by
 subst hH
 generalize hd:gW ops k=d at *
 unfold ew at h
 split at h
 .rename_i o ho
  split at h
  .rename_i c hop
   split at h
   .rename_i cs hcs
    simp only[g_4,g_8]at h
    obtain⟨h0,rfl,rfl,rfl,e2⟩:=h
    subst h0
    obtain⟨h1,h2⟩:=bu ho
    rw[g_3]at hr
    obtain⟨f0,a0,l1,g0⟩:=cs
    cases e2
    unfold bX
    rw[drop_cons h1]
    refine yu [] h2 hop hcs (by rw[xR];exact hp) hr.1 (by have:=hr.2;rw[p_3]at this;exact this) ?_
    exact cX _ (fR hs) hn
   .cases h
  .cases h
 .cases h
def Sj(L:List Nat)(hp:SC P true f args H0 r H')(hn:jR P ops (k+1) (uS (bC L (st.put (gW ops k) r))) Q)(hH:mj ls st.H=H0:=by kernel_rfl)
  (h:ew P ops k st []=some (gW ops k,f,args,ls,[]):=by kernel_rfl) (hr:(IX r).isSome=true:=by kernel_rfl) (hs:(bC L (st.put (gW ops k) r)).isSome=true:=by kernel_rfl):jR P ops k st Q:=by
 subst hH
 generalize hd:gW ops k=d at *
 unfold ew at h
 split at h
 .rename_i o ho
  split at h
  .rename_i c hop
   split at h
   .rename_i cs hcs
    simp only[g_4,g_8]at h
    obtain⟨h0,rfl,rfl,rfl,e2⟩:=h
    subst h0
    obtain⟨h1,h2⟩:=bu ho
    obtain⟨v,hv⟩:=j_8.1 hr
    refine DQ (ls:=cs.ls) h1 h2 hop ?_ (by rw[<-xR]at hp;exact hp) hv (qV _ (fR hs) hn)
    rw[hcs,<-e2]
   .cases h
  .cases h
 .cases h
def xc(n:Nat)(l:List (Nat×SV))(hp:SC P false f args H0 r H')(hn:bX P false ops (k+1) (sp n l H') Q)(hH:st.H=H0:=by kernel_rfl)(h:ew P ops k st []=some (gW ops k,f,args,[],[]):=by kernel_rfl)
  (hr:(pG r&&st.tmps.all fF)=true:=by kernel_rfl) (hs:bx n (l.map (·.1)) ⟨(st.put (gW ops k) r).tmps,H'⟩=some (l,H'):=by kernel_rfl):bX P false ops k st Q:=by
 subst hH
 exact xe n _ l hp h hr hs hn
def KE(n:Nat)(H:List aT)(l:List (Nat×SV))(hp:SC P true f args H0 r H0)(hn:bX P pu ops (k+1) (sp n l H) Q)(hH:mj ls st.H=H0:=by kernel_rfl)
  (h:ew P ops k st []=some (gW ops k,f,args,ls,[]):=by kernel_rfl) (hr:(pG r&&(ls.isEmpty||ng r))=true:=by kernel_rfl) (hs:bx n (l.map (·.1)) (st.put (gW ops k) r)=some (l,H):=by kernel_rfl):bX P pu ops k st Q:=by
 have e:=aO hs
 exact O8 _ hp (by rw[e];exact hn) hH h hr (by rw[e];rfl)
def aQ{α:Type}{c:Operand}{x y:Code}{Q:Exit->St->Prop}{b:Bool}{A B r:α}(h:(bif b then A else B)=r)(hT:A=r->SW P pu x st Q)(hF:B=r->SW P pu y st Q)(hc:cu st c=some (.bool b):=by kernel_rfl):SW P pu (.cond c x y) st Q:=
 DG hc (λe=>hT (fP e h)) (λe=>hF (fQ e h))
end
def Bx: ∀(n t:Nat) (l:List SV),l.length<=n->ji (List.range' t n) t l=l
 |_,_,[],_=>by simp[ji]
 |n+1,t,s::r,h=>by
  rw[List.range'_succ]
  simp only[ji,if_true,List.cons.injEq,true_and]
  exact Bx n (t+1) r (by simpa using h)
def vX: ∀(n t:Nat),rising (List.range' t n)=true
 |0,_=>rfl
 |1,_=>rfl
 |n+2,t=>by
  rw[List.range'_succ,List.range'_succ,rising,<-List.range'_succ,vX (n+1) (t+1)];simp
def Oc: ∀l:List SV,∃N,∀n,N<=n->sX (List.range' 0 n) l=true
 |[]=>⟨0,λ_ _=>rfl⟩
 |s::r=>by
  obtain⟨N,h⟩:=Oc r
  cases e:dep s with
  |none=>exact⟨N,λn hn=>by simp[sX,e,h n hn]⟩
  |some k=>exact⟨N+k+1,λn hn=>by simp[sX,e,h n ω];omega⟩
def gH(st:St): ∃L,bC L st=some st:=by
 obtain⟨N,h⟩:=Oc st.tmps
 refine⟨List.range' 0 (N+st.tmps.length),?_⟩
 have e:=Bx (N+st.tmps.length) 0 st.tmps ω
 unfold bC Gu
 simp only[vX,e,h (N+st.tmps.length) ω,if_true]
def iB(st:St): ∃L l,bx st.tmps.length L st=some (l,st.H)/\sp st.tmps.length l st.H=st:=by
 obtain⟨L,h⟩:=gH st
 obtain⟨l,h1,h2⟩:=wb (L:=L) (st:=st) (by rw[h];rfl)
 rw[h]at h2
 exact⟨L,l,h1,h2.symm⟩
abbrev Pu:=Option Tmp->(St->St)->St->St
def eV(s:SV):Pu:=λd _ st=>st.put d s
def eH(s:SV)(H:List aT):Pu:=λd _ st=>⟨(st.put d s).tmps,H⟩
def eA(t w:Nat)(zs:List D):Pu:=λd _ st=>(st.take t).put d (.own w zs)
def eF(t:Nat):Pu:=λ_ f st=>f (st.freeze t)
def SO(P:Program)(bP:List Nat)(ops:Array Oper)(i:Nat)(st:St):St:=uS (fS P bP (gM ops i) 1 0 st)
def TQ(P:Program)(bP:List Nat)(ops:Array Oper)(ev:List (Nat×Pu))(i:Nat)(st:St):St:=match ev.lookup i with
 |some e=>e (gW ops i) (SO P bP ops i) st
 |none=>SO P bP ops i st
def Qn(P:Program)(bP:List Nat)(ops:Array Oper)(ev:List (Nat×Pu))(M:Nat)(st0:St):Nat->Nat->St
 |0,_=>st0
 |k+1,m=>if m.testBit k&&!M.testBit k then TQ P bP ops ev k (Qn P bP ops ev M st0 k m)else Qn P bP ops ev M st0 k m
def TB(ops:Array Oper)(m:Nat):List Nat:=Region.ready .any ops (gU ops.size m)
def Qa(ops:Array Oper)(ms:List Nat):List (Nat×Nat):=ms.flatMap λm=>(TB ops m).map λi=>(m,i)
def IL(x:Nat):List Nat->List Nat
 |[]=>[x]
 |y::r=>if x==y then y::r else y::IL x r
def PZ(ps:List (Nat×Nat)):List Nat:=ps.foldr (λp r=>IL (p.1|||2 ^ p.2) r) []
def So(ops:Array Oper):Nat->List Nat->List (Nat×Nat)
 |0,_=>[]
 |d+1,ms=>Qa ops ms++So ops d (PZ (Qa ops ms))
def SP(ops:Array Oper):Nat->List Nat->Bool
 |0,ms=>ms.all (λm=>m==2 ^ ops.size - 1)&&(TB ops (2 ^ ops.size - 1)).isEmpty
 |d+1,ms=>ms.all (λm=>!(TB ops m).isEmpty)&&SP ops d (PZ (Qa ops ms))
def SY(ps:List (Nat×Nat))(i:Nat):List Nat:=ps.filterMap λp=>if p.2==i then some p.1 else none
def Gy: ∀{r:List Nat},y∈r->y∈IL x r
 |z::r,h=>by
  simp only[IL];split
  .exact h
  .rcases j_0.1 h with h|h
   .exact h▸q_3
   .exact k_8 _ (Gy h)
def Gz: ∀{r:List Nat},x∈IL x r
 |[]=>q_3
 |z::r=>by
  simp only[IL];split
  .rename_i e;rw[beq_iff_eq]at e;exact e▸q_3
  .exact k_8 _ Gz
def Gc: ∀{ps:List (Nat×Nat)},p∈ps->(p.1|||2 ^ p.2)∈PZ ps
 |q::ps,h=>by
  show _∈IL _ (PZ ps)
  rcases j_0.1 h with h|h
  .exact h▸Gz
  .exact Gy (Gc h)
def KQ{p:Nat->Prop}: ∀{l:List Nat},(∀i∈l,p i)->JB l p
 |[],_=>trivial
 |i::r,h=>⟨h i q_3,KQ λj hj=>h j (k_8 _ hj)⟩
def mapA{α β:Type}(f:α->β):List α->List β
 |[]=>[]
 |x::r=>f x::mapA f r
def Bj{α β:Type}(f:α->β):List α->List β
 |[]=>[]
 |x::r=>f x::Bj f r
def qb{α β:Type}{f g:α->β}: ∀{l:List α},mapA f l=Bj g l-> ∀x∈l,f x=g x
 |y::r,h,x,hx=>by
  injection h with h1 h2
  rcases j_0.1 hx with rfl|hx
  .exact h1
  .exact qb h2 x hx
section
variable {P:Program} {pu:Bool} {ops:Array Oper} {bP:List Nat} {ev:List (Nat×Pu)} {M d:Nat} {st0:St}
def Nq{i:Nat}:(gM ops i).size<=1:=by unfold gM;split<;>simp
def qR{i:Nat}{Q:St->Prop}(h:Q st):bX P pu (gM ops i) (0+1) st Q:=HM (eq_true Nq) h
def zY{i:Nat}:gW (gM ops i) 0=gW ops i:=by unfold gM gW;split<;>simp_all
def DK(hg:ops.all (λo=>o.guard.isNone)=true){S:Nat->St}: ∀(d:Nat) (ms:List Nat),SP ops d ms=true->
  (∀p∈So ops d ms,bX P pu (gM ops p.2) 0 (S p.1) (λs=>s=S (p.1|||2 ^ p.2)))-> ∀m∈ms,OX P pu ops d m (S m) (S (2 ^ ops.size - 1))
 |0,ms,hk,_,m,hm=>by
  simp only[SP,g_3,h_2,beq_iff_eq,List.isEmpty_iff]at hk
  rw[hk.1 m hm]
  exact oI hk.2
 |d+1,ms,hk,h,m,hm=>by
  simp only[SP,g_3,h_2]at hk
  cases e:TB ops m with
  |nil=>have:=hk.1 m hm;rw[e]at this;cases this
  |cons i0 is=>
   refine HK hg e (KQ λi hi=>?_)
   have hp:(m,i)∈Qa ops ms:=List.mem_flatMap.2 ⟨m,hm,v_9.2 ⟨i,by rw[e];exact hi,rfl⟩⟩
   refine OW.mono (h (m,i) (k_7.2 (.inl hp))) λs hs=>?_
   rw[hs]
   exact DK hg d _ hk.2 (λp q=>h p (k_7.2 (.inr q))) _ (Gc hp)
def Sn(P:Program)(pu:Bool)(ops:Array Oper)(bP:List Nat)(ps:List (Nat×Nat))(S:Nat->St):List (Nat×Pu)->Prop
 |[]=>True
 |(i,e)::r=>(∀m∈SY ps i,bX P pu (gM ops i) 0 (S m) (λs=>s=e (gW ops i) (SO P bP ops i) (S m)))/\Sn P pu ops bP ps S r
def Ia{S:Nat->St}{i:Nat}: ∀{ev:List (Nat×Pu)},Sn P pu ops bP ps S ev->ev.lookup i=some e-> ∀m∈SY ps i,bX P pu (gM ops i) 0 (S m) (λs=>s=e (gW ops i) (SO P bP ops i) (S m))
 |(j,f)::r,h,he=>by
  rw[List.lookup_cons]at he
  split at he
  .rename_i hj;rw[beq_iff_eq]at hj;cases he;subst hj;exact h.1
  .exact Ia h.2 he
def mD(bP:List Nat)(ev:List (Nat×Pu))
  (hE:Sn P pu ops bP (So ops d [M]) (Qn P bP ops ev M st0 ops.size) ev)
  (hg:ops.all (λo=>o.guard.isNone)=true:=by kernel_rfl) (hk:SP ops d [M]=true:=by kernel_rfl)
  (h0:Qn P bP ops ev M st0 ops.size M=st0:=by kernel_rfl)
  (hP:(So ops d [M]).all (λp=>(ev.lookup p.2).isSome||(fS P bP (gM ops p.2) 1 0 (Qn P bP ops ev M st0 ops.size p.1)).isSome)=true:=by kernel_rfl)
  (hS:mapA (λp=>TQ P bP ops ev p.2 (Qn P bP ops ev M st0 ops.size p.1)) (So ops d [M])=Bj (λp=>Qn P bP ops ev M st0 ops.size (p.1|||2 ^ p.2)) (So ops d [M]):=by kernel_rfl)
  (hF:bx n (ll.map (·.1)) (Qn P bP ops ev M st0 ops.size (2 ^ ops.size - 1))=some (ll,H):=by kernel_rfl):OX P pu ops d M st0 (sp n ll H):=by
 have key:=DK (P:=P) (pu:=pu) hg (S:=Qn P bP ops ev M st0 ops.size) d [M] hk (λp hp=>?_) M q_3
 .rw[h0]at key
  intro a w g hr R hR
  exact key a w g hr R λa' w' g' r f=>hR a' w' g' (r.bC (aO hF)) f
 .rw[<-qb hS p hp]
  unfold TQ
  cases e:ev.lookup p.2 with
  |some f=>exact Ia hE e p.1 (List.mem_filterMap.2 ⟨p,hp,ψ⟩)
  |none=>
   have h1:=h_2.1 hP p hp
   rw[e,Option.isSome_none,Bool.false_or]at h1
   exact qQ (bP:=bP) 1 (fR h1) (qR rfl)
variable {S:Nat->St} {i:Nat} {ms:List Nat} {f:St->St}
def KP(h: ∀m∈ms,qY P (gM ops i) 0 (S m) (gW (gM ops i) 0) s): ∀m∈ms,bX P pu (gM ops i) 0 (S m) (λs'=>s'=eV s (gW ops i) f (S m)):=λm hm=>by
 obtain⟨o,h1,h2,h3,h4,e⟩:=h m hm
 exact Fj h1 h2 h3 h4 (by rw[e,zY];rfl) (qR rfl)
def zt(hp:PC P g args r)(ls:List Loc:=[])(h:mapA (λm=>ew P (gM ops i) 0 (S m) []) ms=Bj (λm=>some (gW (gM ops i) 0,g,args,ls,[])) ms:=by kernel_rfl)(hr:(pG r&&(ls.isEmpty||ng r))=true:=by kernel_rfl):
  ∀m∈ms,bX P pu (gM ops i) 0 (S m) (λs'=>s'=eV r (gW ops i) f (S m)):=λm hm=>by
 obtain⟨L,e⟩:=gH ((S m).put (gW (gM ops i) 0) r)
 exact Ce [] L hp (qb h m hm) hr e (qR (by rw[zY];rfl))
def Ri(hp:SC P false g args H r H')(hH:mapA (λm=>(S m).H) ms=Bj (λ_=>H) ms:=by kernel_rfl)
  (h:mapA (λm=>ew P (gM ops i) 0 (S m) []) ms=Bj (λm=>some (gW (gM ops i) 0,g,args,[],[])) ms:=by kernel_rfl) (hr:(pG r&&ms.all λm=>(S m).tmps.all fF)=true:=by kernel_rfl):
  ∀m∈ms,bX P false (gM ops i) 0 (S m) (λs'=>s'=eH r H' (gW ops i) f (S m)):=λm hm=>by
 rw[g_3,h_2]at hr
 have e:(S m).H=H:=qb hH m hm
 subst e
 obtain⟨L,l,e1,e2⟩:=iB ⟨((S m).put (gW (gM ops i) 0) r).tmps,H'⟩
 exact xe _ L l hp (qb h m hm) (by rw[hr.1,hr.2 m hm];rfl) e1 (qR (by rw[eH,<-zY (ops:=ops) (i:=i)];exact e2))
def DV(hz:xs++ys=zs)(hc:zs.length<=room)(hd:(gW (gM ops i) 0).isSome=true:=by kernel_rfl)(h:mapA (λm=>Hi P (gM ops i) 0 (S m)) ms=Bj (λ_=>some (t,(gW (gM ops i) 0).getD 0,w,xs,ys)) ms:=by kernel_rfl):
  ∀m∈ms,bX P pu (gM ops i) 0 (S m) (λs'=>s'=eA t w zs (gW ops i) f (S m)):=λm hm=>by
 obtain⟨k,hk⟩:=j_8.1 hd
 have h1:=qb h m hm
 rw[hk]at h1
 obtain⟨L,e⟩:=gH (((S m).take t).put (some k) (.own w zs))
 exact tF L h1 hz hc e (qR (by rw[<-zY,hk];rfl))
def zr(h:(ms.all λm=>(fS P bP (gM ops i) 1 0 ((S m).freeze t)).isSome)=true:=by kernel_rfl):
  ∀m∈ms,bX P pu (gM ops i) 0 (S m) (λs'=>s'=eF t (gW ops i) (SO P bP ops i) (S m)):=λm hm=>
 tE t rfl (qQ 1 (fR (h_2.1 h m hm)) (qR rfl))
def uo{α:Type}{c:Cc α}{x:α}(hx:bz c H0 j off=some x)(h:mapA (λm=>NM P (gM ops i) 0 (S m) (c.enc x)) ms=Bj (λ_=>some (gW (gM ops i) 0,j,off,H0,s)) ms:=by kernel_rfl): ∀m∈ms,bX P pu (gM ops i) 0 (S m) (λs'=>s'=eV s (gW ops i) f (S m)):=KP λm hm=>aA hx (qb h m hm)
def KO{α:Type}{c:Cd α}{xs:List α}(hx:bG n' c H0 j off=some xs)(h:mapA (λm=>Bq P (gM ops i) 0 (S m)) ms=Bj (λ_=>some (gW (gM ops i) 0,j,off,H0)) ms:=by kernel_rfl): ∀m∈ms,bX P pu (gM ops i) 0 (S m) (λs'=>s'=eV (.bS (.az j off) n' (xs.map c.enc)) (gW ops i) f (S m)):=KP λm hm=>aV hx (qb h m hm)
def HX(hp:p=some j)(h:mapA (λm=>RA (gM ops i) 0 (S m)) ms=Bj (λ_=>some (gW (gM ops i) 0,cP.enc p)) ms:=by kernel_rfl): ∀m∈ms,bX P pu (gM ops i) 0 (S m) (λs'=>s'=eV (.d (.ptr j 0)) (gW ops i) f (S m)):=KP λm hm=>ba hp (qb h m hm)
def yz{α:Type}{enc:α->D}{xs:List α}(hc:m7 xs j k=true)(h:mapA (λm=>Ro P (gM ops i) 0 (S m) xs.length) ms=Bj (λ_=>some (gW (gM ops i) 0,l,n,xs.map enc,j,k)) ms:=by kernel_rfl): ∀m∈ms,bX P pu (gM ops i) 0 (S m) (λs'=>s'=eV (nP l n ((sl xs j k).map enc)) (gW ops i) f (S m)):=KP λm hm=>iJ hc (qb h m hm)
end
def bI{α β:Type}{o:Option α}{f:α->Option β}{r:β}{p:Prop}(h:o.bind f=some r)(k: ∀x,o=some x->f x=some r->p):p:=by
 obtain⟨x,h1,h2⟩:=cW h
 exact k x h1 h2
def nj{α:Type}{o:Option α}{r:α}{p:Prop}(h:et c o=some r)(k:c=true->o=some r->p):p:=k (wP h).1 (wP h).2
section
variable {P:Program} {pu:Bool} {st:St} {ops:Array Oper} {k n:Nat} {α β γ:Type}
def iI{a r:α}(h:some a=some r):a=r:=by cases h;rfl
def ER(l:List (Nat×Nat))(h1:Cz P rs (st.k8 l)=some r:=by kernel_rfl)(h2:st.H=H:=by kernel_rfl):dp P rs H r .ret st:=dp.ret l h1 h2
def E0(h1:Cz P rs st=some r:=by kernel_rfl)(h2:st.H=H:=by kernel_rfl):dp P rs H r .ret st:=dp.ret [] h1 h2
def EN(h1:Cz P rs st=some r:=by kernel_rfl)(h2:st.H=H:=by kernel_rfl):dp P rs H r .normal st:=dp.normal [] h1 h2
def EL(h1:Cz P rs st=some r:=by kernel_rfl):JA P rs r .ret st:=JA.ret [] h1
def LQ{l:α->List (Nat×SV)}{Hf:α->Hp}{v:α}{o:α⊕β}(h:some (Sum.inl v)=some o)(hk:bx n L st=some (l v,Hf v):=by kernel_rfl): ∃y,o=.inl y/\bx n L st=some (l y,Hf y):=by
 cases h;exact⟨v,rfl,hk⟩
def LR{E:β->Prop}{v:β}{o:α⊕β}(h:some (Sum.inr v)=some o)(k:E v): ∃b,o=.inr b/\E b:=by
 cases h;exact⟨v,rfl,k⟩
def JQ{l:α->List (Nat×SV)}{Hf:α->Hp}{jp:α->γ}{o:γ}{v:α}(ll:List (Nat×Nat))(h:jp v=o)(hk:bx n L (st.k8 ll)=some (l v,Hf v):=by kernel_rfl): ∃v ll,bx n L (st.k8 ll)=some (l v,Hf v)/\jp v=o:=⟨v,ll,hk,h⟩
def eb{Q:Exit->St->Prop}{b:α->γ}{a:(α->γ)->γ}{r:γ}(n:Nat)(H:Hp)(L:List Nat)(l:α->List (Nat×SV))(h:bp b a=r)(hj: ∀v,b v=r->SW P pu y (sp n (l v) H) Q)
  (hx: ∀jp:α->γ,a jp=r->SW P pu x st (thenS (λs=> ∃v ll,bx n L (s.k8 ll)=some (l v,H)/\jp v=r) Q)):SW P pu (.seq x y) st Q:=Sf n H L l (λv=>b v=r) hj (hx b h)
def tu{Q:Exit->St->Prop}{b:α->γ}{a:(α->γ)->γ}{r:γ}(n:Nat)(L:List Nat)(l:α->List (Nat×SV))(Hf:α->Hp)(h:bp b a=r)(hj: ∀v,b v=r->SW P pu y (sp n (l v) (Hf v)) Q)
  (hx: ∀jp:α->γ,a jp=r->SW P pu x st (thenS (λs=> ∃v ll,bx n L (s.k8 ll)=some (l v,Hf v)/\jp v=r) Q)):SW P pu (.seq x y) st Q:=QD n L l Hf (λv=>b v=r) hj (hx b h)
def bE{Q:St->Prop}{b:Bool}{A B r:α}(S:Bool->St)(h:(bif b then A else B)=r)(hT:A=r->bX P pu ops k (S true) Q)(hF:B=r->bX P pu ops k (S false) Q)(h0:st=S b:=by kernel_rfl):bX P pu ops k st Q:=
 Mp b S h0 (λe=>hT (fP e h)) (λe=>hF (fQ e h))
def xg{m:Nat}{Q:St->Prop}{b:Bool}{A B r:α}(S:Bool->St)(h:(bif b then A else B)=r)(hT:A=r->lM P ops m k (S true) Q)(hF:B=r->lM P ops m k (S false) Q)(h0:st=S b:=by kernel_rfl):lM P ops m k st Q:=
 Mv b S h0 (λe=>hT (fP e h)) (λe=>hF (fQ e h))
def dP{Q:St->Prop}{b:Bool}{A B r:α}(S:Bool->St)(h:(bif b then A else B)=r)(hT:A=r->jR P ops k (S true) Q)(hF:B=r->jR P ops k (S false) Q)(h0:st=S b:=by kernel_rfl):jR P ops k st Q:=
 DP b S h0 (λe=>hT (fP e h)) (λe=>hF (fQ e h))
end
def vC:Nat->List SV->List Nat
 |_,[]=>[]
 |i,s::r=>match s with
  |.undef=>vC (i+1) r
  |_=>if fF s then i::vC (i+1) r else vC (i+1) r
def Kz(st:St):St:=uS (bC (vC 0 st.tmps) st)
section
variable {P:Program} {pu:Bool} {st:St} {ops:Array Oper} {k:Nat} {Q:St->Prop}
def au{Q:Exit->St->Prop}(j:Nat)(hn:SW P pu (GR j c) (uS (Sh.FT P j c st)) Q)(h:(Sh.FT P j c st).isSome=true:=by kernel_rfl):SW P pu c st Q:=wY j c _ _ (fR h) hn
def aP(bP:List Nat)(j:Nat)(hn:bX P pu ops (k+j) (uS (fS P bP ops j k st)) Q)(h:(fS P bP ops j k st).isSome=true:=by kernel_rfl):bX P pu ops k st Q:=qQ j (fR h) hn
def aa(j:Nat)(hn:bX P pu ops (k+j) (uS (fS P [] ops j k st)) Q)(h:(fS P [] ops j k st).isSome=true:=by kernel_rfl):bX P pu ops k st Q:=qQ j (fR h) hn
def bW(j:Nat)(hn:lM P ops m (k+j) (uS (dJ P [] ops j k st)) Q)(hm:decide (k+j<=m)=true:=by kernel_rfl)(h:(dJ P [] ops j k st).isSome=true:=by kernel_rfl):lM P ops m k st Q:=by
 obtain⟨L,e⟩:=gH (uS (dJ P [] ops j k st))
 exact DT [] L j hm (by rw[fR h,k_2];exact e) hn
def aF(j:Nat)(hn:jR P ops (k+j) (uS (dJ P [] ops j k st)) Q)(h:(dJ P [] ops j k st).isSome=true:=by kernel_rfl):jR P ops k st Q:=Cg j (fR h) hn
def aC(hn:lQ P ops (k+1) (uS (u6 P ops k st)) Q)(h:(u6 P ops k st).isSome=true:=by kernel_rfl):lQ P ops k st Q:=by
 obtain⟨L,l,e1,e2⟩:=iB (uS (u6 P ops k st))
 exact du _ _ L l (by rw[fR h,k_2];exact e1) (by rw[e2];exact hn)
def aw{s:SV}(hb:qY P ops k st (gW ops k) s)(hn:bX P pu ops (k+1) (st.put (gW ops k) s) Q):bX P pu ops k st Q:=by
 obtain⟨o,h1,h2,h3,h4,h5⟩:=hb
 exact Fj h1 h2 h3 h4 (by rw[h5]) hn
def cH{m:Nat}{s:SV}(hb:qY P ops k st (gW ops k) s)(hn:lM P ops m (k+1) (st.put (gW ops k) s) Q)(hm:decide (k<m)=true:=by kernel_rfl):lM P ops m k st Q:=by
 obtain⟨L,e⟩:=gH (st.put (gW ops k) s)
 exact Pj L hm hb e hn
def bm{s:SV}(hb:qY P ops k st (gW ops k) s)(hn:jR P ops (k+1) (st.put (gW ops k) s) Q):jR P ops k st Q:=by
 obtain⟨L,l,e1,e2⟩:=iB (st.put (gW ops k) s)
 exact QH _ _ L l hb e1 (by rw[e2];exact hn)
def cd{s:SV}(hb:qY P ops k st (gW ops k) s)(hn:lQ P ops (k+1) (st.put (gW ops k) s) Q):lQ P ops k st Q:=by
 obtain⟨L,l,e1,e2⟩:=iB (st.put (gW ops k) s)
 exact jO _ _ L l hb e1 (by rw[e2];exact hn)
def bw(hp:PC P f args r)(hn:bX P pu ops (k+1) (st.put (gW ops k) r) Q)(h:ew P ops k st []=some (gW ops k,f,args,[],[]):=by kernel_rfl)(hr:pG r=true:=by kernel_rfl):bX P pu ops k st Q:=by
 obtain⟨L,l,e1,e2⟩:=iB (st.put (gW ops k) r)
 exact eO _ _ [] L l hp h (by rw[hr];rfl) e1 (by rw[e2];exact hn)
def fk(hp:PC P f args r)(hn:jR P ops (k+1) (st.put (gW ops k) r) Q)(h:ew P ops k st []=some (gW ops k,f,args,[],[]):=by kernel_rfl)(hr:(IX r).isSome=true:=by kernel_rfl):jR P ops k st Q:=by
 obtain⟨L,l,e1,e2⟩:=iB (st.put (gW ops k) r)
 exact QI _ _ L l hp h hr e1 (by rw[e2];exact hn)
def jf(hp:SC P true f args H0 r H')(hn:bX P pu ops (k+1) (st.put (gW ops k) r) Q)(hH:mj ls st.H=H0:=by kernel_rfl)
  (h:ew P ops k st []=some (gW ops k,f,args,ls,[]):=by kernel_rfl) (hr:(pG r&&(ls.isEmpty||ng r))=true:=by kernel_rfl):bX P pu ops k st Q:=by
 obtain⟨L,e⟩:=gH (st.put (gW ops k) r)
 exact O8 L hp (by rw[e];exact hn) hH h hr (by rw[e];rfl)
def jN(hp:SC P true f args H0 r H')(hn:jR P ops (k+1) (st.put (gW ops k) r) Q)(hH:mj ls st.H=H0:=by kernel_rfl)
  (h:ew P ops k st []=some (gW ops k,f,args,ls,[]):=by kernel_rfl) (hr:(IX r).isSome=true:=by kernel_rfl):jR P ops k st Q:=by
 obtain⟨L,e⟩:=gH (st.put (gW ops k) r)
 exact Sj L hp (by rw[e];exact hn) hH h hr (by rw[e];rfl)
def bJ{f:FuncId}{args:List SV}{r:SV}{H0 H':List aT}(hp:SC P false f args H0 r H')(hn:bX P false ops (k+1) ⟨((Kz st).put (gW ops k) r).tmps,H'⟩ Q)(hk:(bC (vC 0 st.tmps) st).isSome=true:=by kernel_rfl)(hH:(Kz st).H=H0:=by kernel_rfl)
  (h:ew P ops k (Kz st) []=some (gW ops k,f,args,[],[]):=by kernel_rfl) (hr:(pG r&&(Kz st).tmps.all fF)=true:=by kernel_rfl):bX P false ops k st Q:=by
 obtain⟨L,e⟩:=gH ⟨((Kz st).put (gW ops k) r).tmps,H'⟩
 exact cX (st':=Kz st) _ (fR hk) (Si L hp (by rw[e];exact hn) hH h hr (by rw[e];rfl))
end
section
variable {P:Program} {pu:Bool} {st:St} {ops:Array Oper} {k:Nat} {Q:St->Prop} {α:Type} {c:Cd α} {n' i off:Nat} {H0 H:Hp}
def aH{c:Code}{Q:Exit->St->Prop}(n:Nat)(H:Hp)(l:List (Nat×SV))(hn:SW P pu c (sp n l H) Q)(h:bx n (l.map (·.1)) st=some (l,H):=by kernel_rfl):SW P pu c st Q:=EY n H _ l h hn
def fW{x:α}(hx:dW c H0 i off x=some H)(hn:bX P false ops (k+1) (st.hp H) Q)(h:FI P ops k st=some (i,off,c.enc x,H0):=by kernel_rfl):bX P false ops k st Q:=by
 obtain⟨L,l,e1,e2⟩:=iB (st.hp H)
 exact nY _ _ L l hx h e1 (by rw[<-e2]at hn;exact hn)
def xb{ob:aT}{q:Hp×Nat}(nl:List (Nat×Nat×Bool))(hq:ko H0 ob=some q)(hn:bX P false ops (k+1) ((st.hp q.1).put (gW ops k) (.d (.ptr q.2 0))) Q)(h:newAt P ops k st nl=some (gW ops k,ob,H0,false):=by kernel_rfl):bX P false ops k st Q:=by
 obtain⟨L,e⟩:=gH ((st.hp q.1).put (gW ops k) (.d (.ptr q.2 0)))
 obtain⟨l,e1,e2⟩:=wb (L:=L) (by rw[e];rfl)
 rw[e]at e2
 have hH:((st.hp q.1).put (gW ops k) (.d (.ptr q.2 0))).H=q.1:=by unfold St.put;split<;>(try split)<;>(try split)<;>rfl
 rw[hH]at e1 e2
 exact qT (b:=false) _ _ nl L l hq h rfl e1 (by rw[<-show _=sp _ l q.1 from e2];exact hn)
def jn{q:List α×Hp}(hx:db n' c H0 i off=some q)(hn:bX P false ops (k+1) ⟨((Kz st).put (some ((gW ops k).getD 0)) (.own n' (q.1.map c.enc))).tmps,q.2⟩ Q)(hk:(bC (vC 0 st.tmps) st).isSome=true:=by kernel_rfl)
  (h:MV P ops k (Kz st)=some ((gW ops k).getD 0,i,off,H0):=by kernel_rfl):bX P false ops k st Q:=by
 obtain⟨L,l,e1,e2⟩:=iB ⟨((Kz st).put (some ((gW ops k).getD 0)) (.own n' (q.1.map c.enc))).tmps,q.2⟩
 exact cX (st':=Kz st) _ (fR hk) (mE _ L l hx h e1 (by rw[<-e2]at hn;exact hn))
def fw{xs:List α}(s:Nat)(hx:cz n' c H0 i off xs=some H)(hn:bX P false ops (k+1) ⟨((Kz st).take s).tmps,H⟩ Q)(hk:(bC (vC 0 st.tmps) st).isSome=true:=by kernel_rfl)
  (h:N1 P ops k (Kz st)=some (s,i,off,n',xs.map c.enc,H0):=by kernel_rfl):bX P false ops k st Q:=by
 obtain⟨L,l,e1,e2⟩:=iB ⟨((Kz st).take s).tmps,H⟩
 exact cX (st':=Kz st) _ (fR hk) (tD _ L l hx h e1 (by rw[<-e2]at hn;exact hn))
def fx(s w:Nat)(zs:List Go.Sh.D)(hz:xs++ys=zs)(hc:zs.length<=room)(hn:bX P pu ops (k+1) ((st.take s).put (some ((gW ops k).getD 0)) (.own w zs)) Q)(h:Hi P ops k st=some (s,(gW ops k).getD 0,w,xs,ys):=by kernel_rfl):bX P pu ops k st Q:=by
 obtain⟨L,e⟩:=gH ((st.take s).put (some ((gW ops k).getD 0)) (.own w zs))
 exact tF L h hz hc e hn
def uk(t:Nat)(hn:bX P pu ops k (st.freeze t) Q):bX P pu ops k st Q:=tE t rfl hn
def bF(hq:Q st)(h:decide (ops.size<=k)=true:=by kernel_rfl):jR P ops k st Q:=Ms h hq
def dZ(hq:Q st)(h:decide (ops.size<=k)=true:=by kernel_rfl):lQ P ops k st Q:=Jw h hq
def gI(hq:Q st)(h:decide (m<=k)=true:=by kernel_rfl):lM P ops m k st Q:=Mu h hq
def fM{Q:Exit->St->Prop}{id:Nat}{l:List Oper}(h:jR P l.toArray 0 st (Q .normal))(hm:P.follows .mixedOrders=true:=by kernel_rfl)(hB:Region.lexB .any l.toArray=true:=by kernel_rfl):SW P pu (.region id l.toArray true) st Q:=Hq hm hB h
def zl{Q:Exit->St->Prop}{id:Nat}{l:List Oper}(h:lM P l.toArray l.toArray.size 0 st (Q .normal))(hm:P.follows .mixedOrders=true:=by kernel_rfl)(hB:Region.lexB .any l.toArray=true:=by kernel_rfl):SW P pu (.region id l.toArray true) st Q:=EX hm hB h
def iV{c:Operand}{Q:Exit->St->Prop}(h:SW P pu y st Q)(hc:cu st c=some (.bool false):=by kernel_rfl):SW P pu (.cond c x y) st Q:=yj hc h
def aR{st st':St}{d m:Nat}(i0:Nat)(is:List Nat)(hs:JB (i0::is) (λi=>bX P pu (gM ops i) 0 st (λs=>OX P pu ops d (m|||2 ^ i) s st')))(hg:ops.all (λo=>o.guard.isNone)=true:=by kernel_rfl)
  (h:Region.ready .any ops (gU ops.size m)=i0::is:=by kernel_rfl):OX P pu ops (d+1) m st st':=HK hg h hs
end
end Go.Sh
