/- Plain laws: what the functions tell. -/
import Derived.Test.YtmhiemakdfkmeaaGreatF3
set_option linter.all false
set_option autoImplicit true
set_option relaxedAutoImplicit true
namespace Go.Sh
def Ev{α:Type}(f:Nat->Option α)(r:α):Prop:= ∃N,∀n,N<=n->f n=some r
def Ev.of{α:Type}{f:Nat->Option α}{r:α}(h: ∀n,f n=some r):Ev f r:=⟨0,λn _=>h n⟩
def Ev.pure{α:Type}(r:α):Ev (λ_=>some r) r:=.of λ_=>rfl
def Ev.bind{α β:Type}{f:Nat->Option α}{g:Nat->α->Option β}{a:α}{r:β}(h1:Ev f a)(h2:Ev (λn=>g n a) r):Ev (λn=>(f n).bind (g n)) r:=by
 obtain⟨N,hN⟩:=h1
 obtain⟨M,hM⟩:=h2
 refine⟨max N M,λn hn=>?_⟩
 grind
def Ev.congr{α:Type}{f g:Nat->Option α}{r:α}(h: ∀n,f n=g n)(h1:Ev g r):Ev f r:=by
 obtain⟨N,hN⟩:=h1
 exact⟨N,λn hn=>(h n).trans (hN n hn)⟩
def Ev.t{α:Type}{f g:Nat->Option α}{r:α}(hc:c=true)(h:Ev f r):Ev (λn=>bif c then f n else g n) r:=by subst hc;exact h
def Ev.f{α:Type}{f g:Nat->Option α}{r:α}(hc:c=false)(h:Ev g r):Ev (λn=>bif c then f n else g n) r:=by subst hc;exact h
def Ev.ite{α:Type}{f g:Nat->Option α}{r:α}(h1:c=true->Ev f r)(h2:c=false->Ev g r):Ev (λn=>bif c then f n else g n) r:=by
 cases c
 .exact h2 rfl
 .exact h1 rfl
def Ev.ff{α:Type}{f:Nat->Option α}{r:α}(hc:c=true)(h:Ev f r):Ev (λn=>Go.Sh.ff c (f n)) r:=by subst hc;exact h
def Ev.bz{α β:Type}{b:Nat->α->Option β}{a:Nat->(α->Option β)->Option β}{r:β}(h:Ev (λn=>a n (b n)) r):Ev (λn=>Go.Sh.bz (b n) (a n)) r:=h
def Ev.ae{α β:Type}{x:Option α}{a:α}{g:Nat->α->Option β}{r:β}(hx:x=some a)(h:Ev (λn=>g n a) r):Ev (λn=>x.bind (g n)) r:=by subst hx;exact h
def Ev.VA{α:Type}{f:Nat->Option α}{r r':α}(h:Ev f r)(h':Ev f r'):r=r':=by
 obtain⟨N,hN⟩:=h
 obtain⟨M,hM⟩:=h'
 exact Option.some.inj ((hN (max N M) ω).symm.trans (hM (max N M) ω))
def mi{γ β:Type}(step:Nat->γ->Option (γ⊕β))(x:γ)(out:β):Prop:= ∃N,∀F n,N<=F->N<=n->Go.Sh.iter (step F) n x=some out
def mi.next{γ β:Type}{step:Nat->γ->Option (γ⊕β)}{x y:γ}{out:β}(h1:Ev (λn=>step n x) (.inl y))(h2:mi step y out):mi step x out:=by
 obtain⟨N,hN⟩:=h1
 obtain⟨M,hM⟩:=h2
 refine⟨max N M+1,λF n hF hn=>?_⟩
 obtain⟨n,rfl⟩: ∃n',n=n'+1:=⟨n - 1,ω⟩
 have:=hN F ω
 simp only at this
 simp only[Go.Sh.iter,this]
 exact hM F n ω ω
def mi.stop{γ β:Type}{step:Nat->γ->Option (γ⊕β)}{x:γ}{out:β}(h1:Ev (λn=>step n x) (.inr out)):mi step x out:=by
 obtain⟨N,hN⟩:=h1
 refine⟨N+1,λF n hF hn=>?_⟩
 obtain⟨n,rfl⟩: ∃n',n=n'+1:=⟨n - 1,ω⟩
 have:=hN F ω
 simp only at this
 simp only[Go.Sh.iter,this]
def mi.ev{γ β:Type}{step:Nat->γ->Option (γ⊕β)}{x:γ}{out:β}(h:mi step x out):Ev (λn=>Go.Sh.iter (step n) n x) out:=by
 obtain⟨N,hN⟩:=h
 exact⟨N,λn hn=>hN n n hn hn⟩
def gL{γ β:Type}{step:Nat->γ->Option (γ⊕β)}(A:Nat->γ)(out:Nat->β)(len:Nat)
  (hs: ∀k,k<len->(Ev (λn=>step n (A k)) (.inl (A (k+1)))/\out (k+1)=out k)\/Ev (λn=>step n (A k)) (.inr (out k)))
  (he:Ev (λn=>step n (A len)) (.inr (out len))) (k:Nat) (hk:k<=len):mi step (A k) (out k):=by
 obtain⟨d,rfl⟩: ∃d,len=k+d:=⟨len - k,ω⟩
 induction d generalizing k with
 |zero=>exact .stop he
 |succ d ih=>
  rcases hs k ω with⟨h1,h2⟩|h1
  .rw[<-h2]
   have e:k+(d+1)=(k+1)+d:=by omega
   rw[e]at hs he
   exact .next h1 (ih (k+1) hs he ω)
  .exact .stop h1
def fe{α:Type}{l:List α}{k:Nat}{x:α}(h:l[k]? =some x):idx l (k:Int)=some x:=by
 unfold idx;grind
def eo(h0: -9223372036854775808<=x)(h1:x<9223372036854775808):IntKind.wrap .i64 x=x:=by
 unfold IntKind.wrap
 simp[IntKind.bits,IntKind.signed]
 omega
def gu{a b:Nat}(h:a<b):decide ((a:Int)<(b:Int))=true:=by simp;omega
def oY{a b:Nat}(h:b<=a):decide ((a:Int)<(b:Int))=false:=by simp;omega
def eC{k:Nat}(h:k<1000000000):IntKind.wrap .i64 ((k:Int)+1)=((k+1:Nat):Int):=by rw[eo ω ω];rfl
def aH{α:Type}{l:List α}{k:Nat}(h:k<l.length):idx l (k:Int)=some l[k]:=fe (g_6 h)
def aZ{α:Type}{l:List α}{k:Nat}(h:k<l.length):l.drop k=l[k]::l.drop (k+1):=p_9 h
def vd(v:Value):Bool:=decide (v.S.length<=200)
def mE(r:List Value):Bool:=decide (r.length<=20)&&r.all vd
def Qd(l:List (List Value))(hl:l.length<1000):Ev (λf=>sB f l) (l.all mE):=by
 have main:mi (λf=>nr f l) (0:Int) (if l.all mE then .inl ()else .inr false:Unit⊕Bool):=by
  refine gL (A:=λk=>(k:Int)) (out:=λk=>(if(l.drop k).all mE then .inl ()else .inr false:Unit⊕Bool)) l.length (λk hk=>?_) ?_ 0 ω
  .unfold nr
   have inner:l[k].length<=20->mi (λf=>nu f l (k:Int)) (0:Int) (if l[k].all vd then .inl ()else .inr false:Unit⊕Bool):=by
    intro h20
    refine gL (A:=λj=>(j:Int)) (out:=λj=>(if(l[k].drop j).all vd then .inl ()else .inr false:Unit⊕Bool)) l[k].length (λj hj=>?_) ?_ 0 ω
    .unfold nu
     by_cases hs:vd l[k][j]=true
     .refine .inl ⟨.ae (aH hk)<|.t (gu hj)<|.ae (aH hk)<|.ae (aH hj)<|.f ?_ ?_,by rw[aZ hj,v_1,hs,j_8]⟩
      .simp only[vd,decide_eq_true_eq]at hs;simp;omega
      .rw[eC ω];exact .pure _
     .refine .inr (.ae (aH hk)<|.t (gu hj)<|.ae (aH hk)<|.ae (aH hj)<|.t ?_ ?_)
      .simp only[vd,decide_eq_true_eq]at hs;simp;omega
      .rw[aZ hj,v_1,q_2.2 hs];exact .pure _
    .unfold nu
     refine .ae (aH hk)<|.f (oY (h_0 _)) ?_
     simp only[p_3,List.all_nil,if_true];exact .pure _
   by_cases h20:l[k].length<=20
   .by_cases hs:l[k].all vd=true
    .refine .inl ⟨.t (gu hk)<|.ae (aH hk)<|.f χ<|.bind (inner h20).ev ?_,by rw[aZ hk,v_1];simp only[mE,h20,decide_true,hs,j_8]⟩
     simp only[hs,if_true,w_7]
     rw[eC ω];exact .pure _
    .refine .inr (.t (gu hk)<|.ae (aH hk)<|.f χ<|.bind (inner h20).ev ?_)
     rw[aZ hk,v_1,mE,q_2.2 hs]
     simp only[w_4,m_3,g_7,if_false,Sum.elim_inr]
     exact .pure _
   .refine .inr (.t (gu hk)<|.ae (aH hk)<|.t χ ?_)
    rw[aZ hk,v_1,mE,decide_eq_false h20]
    simp only[m_3,g_7,if_false]
    exact .pure _
  .unfold nr
   refine .f (oY (h_0 _)) ?_
   simp only[p_3,List.all_nil,if_true];exact .pure _
 unfold sB
 refine .bind main.ev ?_
 cases h:l.all mE
 .simp only[g_7,if_false,Sum.elim_inr];exact .pure _
 .simp only[if_true,w_7];exact .pure _
def Gq(k:Int):Bool:=k==1||k==2
def qI(s:az):Bool:=decide (1<=s.aG.length)&&decide (s.aG.length<=8)&&s.Down.length==s.aG.length&&decide (1<=s.eD)&&decide (s.eD<=3)&&s.aG.all Gq
def zA(v:Value):Bool:=if v.Kind=1 then decide (-1000000000<=v.N)&&decide (v.N<=1000000000)&&v.S==[]else if v.Kind=2 then v.N==0&&decide (v.S.length<=40)else false
def bR:List Int->List Value->Bool
 |[],[]=>true
 |k::ks,v::vs=>(v.Kind==k&&zA v)&&bR ks vs
 |_,_=>false
def gk: ∀{ks:List Int} {vs:List Value},bR ks vs=true->ks.length=vs.length
 |[],[],_=>rfl
 |k::ks,v::vs,h=>by
  simp only[bR,g_3]at h
  simp[gk h.2]
def lX: ∀{ks:List Int} {vs:List Value} (h:bR ks vs=true) (i:Nat) (h1:i<ks.length) (h2:i<vs.length),vs[i].Kind=ks[i]/\zA vs[i]=true
 |k::ks,v::vs,h,i,h1,h2=>by
  simp only[bR,g_3,beq_iff_eq]at h
  cases i with
  |zero=>exact h.1
  |succ i=>exact lX h.2 i (by simpa using h1) (by simpa using h2)
 |[],[],_,_,h1,_=>absurd h1 ψ
def Au(n:Nat)(k:Int):tC n k=some (!Gq k):=rfl
def LG(s:az):Ev (λf=>vJ f s) (qI s):=by
 unfold vJ qI
 by_cases h1:1<=s.aG.length
 case neg=>refine .f χ ?_;rw[decide_eq_false h1];exact .pure _
 refine .t χ ?_
 by_cases h2:s.aG.length<=8
 case neg=>refine .f χ ?_;rw[decide_eq_false h2];simp only[w_4,m_3];exact .pure _
 refine .t χ ?_
 rw[decide_eq_true h1,decide_eq_true h2]
 have e1:((s.Down.length:Int)==(s.aG.length:Int))=(s.Down.length==s.aG.length):=by
  rw[Bool.eq_iff_iff];simp;omega
 have e2:decide (s.eD>=1)=decide (1<=s.eD):=rfl
 rw[e1,e2]
 simp only[j_8]
 cases hc:(s.Down.length==s.aG.length&&decide (1<=s.eD))&&decide (s.eD<=3)
 .exact .f rfl (.pure _)
 .refine .t rfl ?_
  have main:mi (λf=>cX f s.aG) (0:Int) (match s.aG.findIdx? (λk=>!Gq k)with|some i=>.inr (i:Int)|none=>.inl ():Unit⊕Int):=by
   refine gL (A:=λk=>(k:Int)) (out:=λk=>(match(s.aG.drop k).findIdx? (λk=>!Gq k)with|some i=>.inr ((k+i:Nat):Int)|none=>.inl ():Unit⊕Int)) s.aG.length (λk hk=>?_) ?_ 0 ω|>λh=>by simpa using h
   .unfold cX
    cases hk':Gq s.aG[k]
    .refine .inr (.t (gu hk)<|.ae (aH hk)<|.bind (.of λn=>Au n _)<|.t (by rw[hk'];rfl) ?_)
     rw[aZ hk,List.findIdx?_cons,hk']
     exact .pure _
    .refine .inl ⟨.t (gu hk)<|.ae (aH hk)<|.bind (.of λn=>Au n _)<|.f (by rw[hk'];rfl) ?_,?_⟩
     .rw[eC ω];exact .pure _
     .rw[aZ hk,List.findIdx?_cons,hk']
      grind
   .unfold cX
    refine .f (oY (h_0 _)) ?_
    simp only[p_3,List.findIdx?_nil];exact .pure _
  have hall:s.aG.all Gq=(s.aG.findIdx? (λk=>!Gq k)).isNone:=by
   grind
  have h3:Ev (λf=>dD f s.aG) (match s.aG.findIdx? (λk=>!Gq k)with|some i=>(i:Int)|none=> -1):=by
   unfold dD
   refine .bind main.ev ?_
   cases s.aG.findIdx? (λk=>!Gq k)<;>exact .pure _
  have h4:Ev (λf=>cY f s.aG) (!(s.aG.all Gq)):=by
   unfold cY
   refine .bind h3 ?_
   rw[hall]
   cases s.aG.findIdx? (λk=>!Gq k)with
   |none=>exact .pure _
   |some i=>exact .congr (λ_=>by simp) (.pure _)
  refine .bind h4 ?_
  rw[Bool.not_not,j_8];exact .pure _
def Dg(s:az)(hl:s.aG.length<1000):Ev (λf=>tK f s) (qI s):=by
 have main:mi (λf=>oO f s) (0:Int) (if s.aG.all Gq then .inl ()else .inr false:Unit⊕Bool):=by
  refine gL (A:=λk=>(k:Int)) (out:=λk=>(if(s.aG.drop k).all Gq then .inl ()else .inr false:Unit⊕Bool)) s.aG.length (λk hk=>?_) ?_ 0 ω
  .unfold oO
   have hd:=aZ hk
   by_cases h1:s.aG[k]=1
   .refine .inl ⟨.t (gu hk)<|.ae (aH hk)<|.f (by simp[h1]) ?_,by rw[hd,v_1];simp[Gq,h1]⟩
    rw[eC ω];exact .pure _
   .by_cases h2:s.aG[k]=2
    .refine .inl ⟨.t (gu hk)<|.ae (aH hk)<|.t (by simp[h1])<|.ae (aH hk)<|.f (by simp[h2]) ?_,by rw[hd,v_1];simp[Gq,h2]⟩
     rw[eC ω];exact .pure _
    .refine .inr (.t (gu hk)<|.ae (aH hk)<|.t (by simp[h1])<|.ae (aH hk)<|.t (by simp[h2]) ?_)
     rw[hd,v_1]
     simp only[Gq,beq_eq_false_iff_ne.2 h1,beq_eq_false_iff_ne.2 h2,Bool.or_self,m_3,g_7,if_false]
     exact .pure _
  .unfold oO
   refine .f (oY (h_0 _)) ?_
   simp only[p_3,List.all_nil,if_true];exact .pure _
 unfold tK qI
 refine .bind main.ev ?_
 cases h:s.aG.all Gq
 .simp only[g_7,if_false,Sum.elim_inr,w_4];exact .pure _
 .simp only[if_true,w_7,Bool.and_true]
  by_cases h1:1<=s.aG.length
  case neg=>refine .f χ ?_;rw[decide_eq_false h1];exact .pure _
  refine .t χ ?_
  by_cases h2:s.aG.length<=8
  case neg=>refine .f χ ?_;rw[decide_eq_false h2];simp only[w_4,m_3];exact .pure _
  refine .t χ ?_
  rw[decide_eq_true h1,decide_eq_true h2]
  have e1:((s.Down.length:Int)==(s.aG.length:Int))=(s.Down.length==s.aG.length):=by
   rw[Bool.eq_iff_iff];simp;omega
  rw[e1]
  exact .pure _
def Dx(f:Nat)(v:Value):iM f v=some (zA v):=by
 unfold iM lx pq m6 mZ mY lx zA
 by_cases h1:v.Kind=1
 .grind
 .by_cases h2:v.Kind=2
  .simp only[h2]
   cases h:v.N==0<;>simp
   omega
  grind
def Df(f:Nat)(v:Value):jx f v=some (zA v):=by
 unfold jx zA
 by_cases h1:v.Kind=1
 .simp[h1]
 .by_cases h2:v.Kind=2
  .simp only[h2]
   cases h:v.N==0<;>simp
   omega
  grind
def wH(s:az)(r:List Value)(hl:r.length<1000):Ev (λf=>uY f s r) (bR s.aG r):=by
 unfold uY
 by_cases hlen:r.length=s.aG.length
 case neg=>
  refine .t χ ?_
  have:bR s.aG r=false:=by
   cases h:bR s.aG r with
   |false=>rfl
   |true=>exact absurd (gk h).symm hlen
  rw[this];exact .pure _
 refine .f χ ?_
 have main:mi (λf=>pW f r) (s.aG,s.Down,s.eD,(0:Int)) (if bR s.aG r then .inl ()else .inr false:Unit⊕Bool):=by
  refine gL (A:=λk=>(s.aG,s.Down,s.eD,(k:Int))) (out:=λk=>(if bR (s.aG.drop k) (r.drop k)then .inl ()else .inr false:Unit⊕Bool)) r.length (λk hk=>?_) ?_ 0 ω
  .unfold pW
   have hk2:k<s.aG.length:=by omega
   by_cases h1:r[k].Kind=s.aG[k]
   .cases h2:zA r[k]
    .refine .inr (.t (gu hk)<|.ae (aH hk)<|.ae (aH hk2)<|.f (by simp[h1])<|.bind (.of λn=>Dx n _)<|.t (by rw[h2];rfl) ?_)
     rw[aZ hk,aZ hk2,bR,h2]
     simp only[w_4,m_3,g_7,if_false]
     exact .pure _
    .refine .inl ⟨.t (gu hk)<|.ae (aH hk)<|.ae (aH hk2)<|.f (by simp[h1])<|.bind (.of λn=>Dx n _)<|.f (by rw[h2];rfl) ?_,?_⟩
     .rw[eC ω];exact .pure _
     .rw[aZ hk,aZ hk2,bR,h2,h1,BEq.rfl,j_8,j_8]
   .refine .inr (.t (gu hk)<|.ae (aH hk)<|.ae (aH hk2)<|.t (by simp[h1]) ?_)
    rw[aZ hk,aZ hk2,bR,beq_eq_false_iff_ne.2 h1]
    simp only[m_3,g_7,if_false]
    exact .pure _
  .unfold pW
   refine .f (oY (h_0 _)) ?_
   rw[p_3,hlen,p_3]
   exact .pure _
 refine .bind main.ev ?_
 cases bR s.aG r
 .simp only[g_7,if_false,Sum.elim_inr];exact .pure _
 .simp only[if_true,w_7];exact .pure _
def zO(s:az)(r:List Value)(hs:qI s=true)(hl:r.length<1000):Ev (λf=>rD f s r) (bR s.aG r):=by
 have hs8:s.aG.length<=8:=by simp only[qI,g_3,decide_eq_true_eq]at hs;omega
 have mainV:mi (λf=>iK f r) (0:Int) (if r.all zA then .inl ()else .inr false:Unit⊕Bool):=by
  refine gL (A:=λk=>(k:Int)) (out:=λk=>(if(r.drop k).all zA then .inl ()else .inr false:Unit⊕Bool)) r.length (λk hk=>?_) ?_ 0 ω
  .unfold iK
   cases h2:zA r[k]
   .refine .inr (.t (gu hk)<|.ae (aH hk)<|.bind (.of λn=>Df n _)<|.t (by rw[h2];rfl) ?_)
    rw[aZ hk,v_1,h2]
    simp only[m_3,g_7,if_false];exact .pure _
   .refine .inl ⟨.t (gu hk)<|.ae (aH hk)<|.bind (.of λn=>Df n _)<|.f (by rw[h2];rfl) ?_,by rw[aZ hk,v_1,h2,j_8]⟩
    rw[eC ω];exact .pure _
  .unfold iK
   refine .f (oY (h_0 _)) ?_
   simp only[p_3,List.all_nil,if_true];exact .pure _
 have hV:Ev (λf=>lQ f r) (r.all zA&&decide (r.length<=8)):=by
  unfold lQ
  refine .bind mainV.ev ?_
  cases r.all zA
  .simp only[g_7,if_false,Sum.elim_inr,m_3];exact .pure _
  .simp only[if_true,w_7,j_8]
   exact .congr (λ_=>by rw[show decide ((r.length:Int)<=8)=decide (r.length<=8)by rw[decide_eq_decide];omega]) (.pure _)
 have hall:bR s.aG r=true->r.all zA=true:=λh=>by
  rw[h_4]
  intro x hx
  obtain⟨i,hi,rfl⟩:=List.mem_iff_getElem.1 hx
  exact(lX h i (by rw[gk h];exact hi) hi).2
 unfold rD
 refine .bz<|.bind hV ?_
 by_cases hlen:r.length=s.aG.length
 case neg=>
  have:bR s.aG r=false:=by
   cases h:bR s.aG r with
   |false=>rfl
   |true=>exact absurd (gk h).symm hlen
  rw[this]
  refine .ite (λ_=>.t rfl (.pure _)) (λ_=>.t χ (.pure _))
 cases hv:r.all zA
 .have:bR s.aG r=false:=by
   grind
  rw[this]
  exact .t rfl (.t rfl (.pure _))
 refine .f χ<|.f χ ?_
 have main:mi (λf=>sg f s r) (0:Int) (if bR s.aG r then .inl ()else .inr false:Unit⊕Bool):=by
  refine gL (A:=λk=>(k:Int)) (out:=λk=>(if bR (s.aG.drop k) (r.drop k)then .inl ()else .inr false:Unit⊕Bool)) r.length (λk hk=>?_) ?_ 0 ω
  .unfold sg
   have hk2:k<s.aG.length:=by omega
   have h2:zA r[k]=true:=h_4.1 hv _ (j_0 hk)
   by_cases h1:r[k].Kind=s.aG[k]
   .refine .inl ⟨.t (gu hk)<|.ae (aH hk)<|.ae (aH hk2)<|.f (by simp[h1]) ?_,?_⟩
    .rw[eC ω];exact .pure _
    .rw[aZ hk,aZ hk2,bR,h2,h1,BEq.rfl,j_8,j_8]
   .refine .inr (.t (gu hk)<|.ae (aH hk)<|.ae (aH hk2)<|.t (by simp[h1]) ?_)
    rw[aZ hk,aZ hk2,bR,beq_eq_false_iff_ne.2 h1]
    simp only[m_3,g_7,if_false]
    exact .pure _
  .unfold sg
   refine .f (oY (h_0 _)) ?_
   rw[p_3,hlen,p_3]
   exact .pure _
 refine .bind main.ev ?_
 cases bR s.aG r
 .simp only[g_7,if_false,Sum.elim_inr];exact .pure _
 .simp only[if_true,w_7];exact .pure _
def tG(x:Int):Int:=if x<0 then -1 else if 0<x then 1 else 0
def sign_eq(f:Nat)(x:Int):qg f x=some (tG x):=by
 unfold qg tG
 grind
def zP(f:Nat)(a b:Int):oR f a b=some (tG (a - b)):=by
 unfold oR tG
 grind
def pre:List UInt8->List UInt8->Option Int
 |x::xs,y::ys=>if x=y then pre xs ys else some (if x<y then -1 else 1)
 |_,_=>none
def EZ: ∀a b:List UInt8,Lib.compareBytes a b=(pre a b).getD (tG ((a.length:Int) - b.length))
 |[],[]=>rfl
 |[],y::ys=>by
  simp only[Lib.compareBytes,pre,Option.getD_none,tG,v_3,j_4]
  rw[if_pos ω]
 |x::xs,[]=>by
  simp only[Lib.compareBytes,pre,Option.getD_none,tG,v_3,j_4]
  grind
 |x::xs,y::ys=>by
  simp only[Lib.compareBytes,pre]
  by_cases h:x=y
  .subst h
   simp only[UInt8.lt_irrefl,if_false,if_true]
   rw[EZ xs ys]
   grind
  grind
def FT(a b:List UInt8)(ha:a.length<1000)(hb:b.length<1000):Ev (λf=>qf f a b) (Lib.compareBytes a b):=by
 have main:mi (λf=>lP f a b) (0:Int) (match pre a b with|some c=>.inr c|none=>.inl ():Unit⊕Int):=by
  refine gL (A:=λk=>(k:Int)) (out:=λk=>(match pre (a.drop k) (b.drop k)with|some c=>.inr c|none=>.inl ():Unit⊕Int)) (min a.length b.length) (λk hk=>?_) ?_ 0 ω
  .have h1:k<a.length:=by omega
   have h2:k<b.length:=by omega
   unfold lP
   by_cases he:a[k]=b[k]
   .refine .inl ⟨.bz<|.t (gu h1)<|.t (gu h2)<|.ae (aH h1)<|.ae (aH h2)<|.f (by simp[he]) ?_,?_⟩
    .rw[eC ω];exact .pure _
    .rw[aZ h1,aZ h2,pre,if_pos he]
   .have hne:a[k].toNat≠b[k].toNat:=λe=>he (UInt8.toNat_inj.1 e)
    have b1:=a[k].toNat_lt
    have b2:=b[k].toNat_lt
    refine .inr (.bz<|.t (gu h1)<|.t (gu h2)<|.ae (aH h1)<|.ae (aH h2)<|.t χ<|.ae (aH h1)<|.ae (aH h2)<|.bind (.of λn=>sign_eq n _) ?_)
    have e:tG (IntKind.wrap .i64 ((IntKind.wrap .i64 (a[k].toNat:Int)) - (IntKind.wrap .i64 (b[k].toNat:Int))))=if a[k]<b[k]then -1 else 1:=by
     rw[eo (x:=(a[k].toNat:Int)) ω ω,eo (x:=(b[k].toNat:Int)) ω ω,eo ω ω,tG]
     by_cases hl:a[k]<b[k]
     .have:=UInt8.lt_iff_toNat_lt.1 hl
      rw[if_pos hl,if_pos ω]
     .have: ¬a[k].toNat<b[k].toNat:=λh=>hl (UInt8.lt_iff_toNat_lt.2 h)
      grind
    rw[e,aZ h1,aZ h2,pre,if_neg he]
    exact .pure _
  .unfold lP
   have hp:pre (a.drop (min a.length b.length)) (b.drop (min a.length b.length))=none:=by
    by_cases h:a.length<=b.length
    .rw[p_7 h,p_3];unfold pre;rfl
    .rw[Nat.min_eq_right ω,p_3];cases List.drop b.length a<;>rfl
   rw[hp]
   refine .bz ?_
   by_cases h:a.length<=b.length
   .rw[p_7 h]
    exact .f (oY (h_0 _))<|.f rfl (.pure _)
   .rw[Nat.min_eq_right ω]
    exact .t (gu ω)<|.f (oY (h_0 _)) (.pure _)
 unfold qf
 refine .bind main.ev ?_
 rw[EZ]
 cases pre a b with
 |some c=>exact .pure _
 |none=>
  refine .bind (.of λn=>sign_eq n _) ?_
  rw[eo ω ω];exact .pure _
def iO(v w:Value):Int:=if v.Kind=1 then v.N - w.N else Lib.compareBytes v.S w.S
def sM(d:Bool)(v w:Value):Int:=if d then iO w v else iO v w
def dN:List Bool->List Value->List Value->Int
 |d::ds,v::vs,w::ws=>if sM d v w=0 then dN ds vs ws else sM d v w
 |_,_,_=>0
def QK(a b:List UInt8):tG (Lib.compareBytes a b)=Lib.compareBytes a b:=by
 rw[EZ]
 cases h:pre a b with
 |none=>simp only[Option.getD_none,tG];split<;>(try split)<;>simp_all
 |some c=>
  have: ∀a b:List UInt8,∀c,pre a b=some c->c= -1\/c=1:=by
   intro a
   induction a with
   |nil=>intro b c h;simp[pre]at h
   |cons x xs ih=>
    intro b c h
    cases b with
    |nil=>simp[pre]at h
    |cons y ys=>
     simp only[pre]at h
     grind
  rcases this a b c h with rfl|rfl<;>rfl
def wM: ∀a b:List UInt8,Lib.compareBytes b a= - Lib.compareBytes a b
 |[],[]=>rfl
 |[],y::ys=>rfl
 |x::xs,[]=>rfl
 |x::xs,y::ys=>by
  simp only[Lib.compareBytes]
  by_cases h:x<y
  .grind
  .by_cases h2:y<x
   .simp[h,h2]
   .simp[h,h2,wM xs ys]
def P8(x:Int):tG (-x)= - tG x:=by unfold tG;grind
def R8(x:Int):(tG x<0)<->x<0:=by unfold tG;split<;>(try split)<;>omega
def qb(x:Int):(tG x=0)<->x=0:=by unfold tG;split<;>(try split)<;>omega
def sm(h:zA v=true):(v.Kind=1/\ -1000000000<=v.N/\v.N<=1000000000/\v.S=[])\/(v.Kind=2/\v.N=0/\v.S.length<=40):=by
 unfold zA at h
 grind
def vt(hv:zA v=true)(hw:zA w=true)(hk:v.Kind=w.Kind):Ev (λf=>lr f v w) (tG (iO v w)):=by
 unfold lr
 refine .bind (.of λn=>zP n _ _) ?_
 have h0:tG (v.Kind - w.Kind)=0:=by rw[hk,Int.sub_self];rfl
 rw[h0]
 refine .f rfl<|.bind (.of λn=>zP n _ _) ?_
 rcases sm hv with⟨k1,n1,n2,s1⟩|⟨k1,n1,s1⟩<;>rcases sm hw with⟨k2,m1,m2,s2⟩|⟨k2,m1,s2⟩
 .rw[iO,if_pos k1]
  by_cases hz:v.N - w.N=0
  .rw[hz]
   refine .f rfl<|.bind (FT _ _ (by rw[s1];decide) (by rw[s2];decide)) ?_
   rw[s1,s2];exact .pure _
  .exact .t (by simp;rwa [qb]) (.pure _)
 .omega
 .omega
 .rw[iO,if_neg ω,n1,m1,QK]
  exact .f rfl<|.bind (FT _ _ ω ω) (.pure _)
def Gn(s:az)(hd:s.Down.length=s.aG.length)(ha:bR s.aG a=true)(hb:bR s.aG b=true)(hl:s.aG.length<=8):
  Ev (λf=>tM f s a b) (tG (dN s.Down a b)):=by
 have la:=gk ha
 have lb:=gk hb
 have main:mi (λf=>oQ f s a b) (0:Int) (if dN s.Down a b=0 then .inl ()else .inr (tG (dN s.Down a b)):Unit⊕Int):=by
  refine gL (A:=λk=>(k:Int)) (out:=λk=>(if dN (s.Down.drop k) (a.drop k) (b.drop k)=0 then .inl ()else .inr (tG (dN (s.Down.drop k) (a.drop k) (b.drop k))):Unit⊕Int)) a.length (λk hk=>?_) ?_ 0 ω
  .have k1:k<s.aG.length:=by omega
   have k2:k<b.length:=by omega
   have k3:k<s.Down.length:=by omega
   obtain⟨a1,a2⟩:=lX ha k k1 hk
   obtain⟨b1,b2⟩:=lX hb k k1 k2
   have hc:=vt a2 b2 (a1.trans b1.symm)
   have hneg:iO b[k] a[k]= - iO a[k] b[k]:=by
    unfold iO
    rw[a1,b1]
    split
    .omega
    .exact wM _ _
   have hs1: -2<tG (iO a[k] b[k])/\tG (iO a[k] b[k])<2:=by unfold tG;split<;>(try split)<;>omega
   unfold oQ
   rw[aZ hk,aZ k2,aZ k3,dN]
   cases hdn:s.Down[k]
   .have ec:sM false a[k] b[k]=iO a[k] b[k]:=rfl
    rw[ec]
    by_cases hz:iO a[k] b[k]=0
    .refine .inl ⟨.t (gu hk)<|.ae (aH hk)<|.ae (aH k2)<|.bind hc<|.ae (aH k3)<|.f hdn<|.f (by rw[hz];rfl) ?_,by rw[if_pos hz]⟩
     rw[eC ω];exact .pure _
    .refine .inr (.t (gu hk)<|.ae (aH hk)<|.ae (aH k2)<|.bind hc<|.ae (aH k3)<|.f hdn<|.t (by simp;rwa [qb]) ?_)
     rw[if_neg hz,if_neg hz];exact .pure _
   .have ec:sM true a[k] b[k]= - iO a[k] b[k]:=hneg
    rw[ec]
    by_cases hz:iO a[k] b[k]=0
    .refine .inl ⟨.t (gu hk)<|.ae (aH hk)<|.ae (aH k2)<|.bind hc<|.ae (aH k3)<|.t hdn<|.f (by rw[hz];rfl) ?_,by rw[hz,Int.neg_zero,if_pos rfl]⟩
     rw[eC ω];exact .pure _
    .refine .inr (.t (gu hk)<|.ae (aH hk)<|.ae (aH k2)<|.bind hc<|.ae (aH k3)<|.t hdn<|.t ?_ ?_)
     .rw[eo ω ω];simp;rwa [qb]
     .have hz2: ¬ - iO a[k] b[k]=0:=by omega
      rw[eo ω ω,if_neg hz2,if_neg hz2,P8,Int.zero_sub];exact .pure _
  .unfold oQ
   refine .f (oY (h_0 _)) ?_
   rw[p_3]
   have:dN (s.Down.drop a.length) [] (b.drop a.length)=0:=by cases List.drop a.length s.Down<;>rfl
   rw[this];exact .pure _
 unfold tM
 refine .bind main.ev ?_
 by_cases h:dN s.Down a b=0
 .rw[if_pos h,h];exact .pure _
 .rw[if_neg h];exact .pure _
def DM: ∀{a b c:List UInt8},Op.bytesLess a b=true->Op.bytesLess b c=true->Op.bytesLess a c=true
 |_,[],_,h,_=>by cases ‹List UInt8› <;>simp[Op.bytesLess]at h
 |_,_::_,[],_,h=>by simp[Op.bytesLess]at h
 |[],_::_,_::_,_,_=>rfl
 |a::x,b::y,c::z,h1,h2=>by
  simp only[Op.bytesLess,p_6,decide_eq_true_eq,g_3,beq_iff_eq]at *
  rcases h1 with h1|⟨rfl,h1⟩<;>rcases h2 with h2|⟨rfl,h2⟩
  .exact .inl (UInt8.lt_trans h1 h2)
  .exact .inl h1
  .exact .inl h2
  .exact .inr ⟨rfl,DM h1 h2⟩
def Oz: ∀a b:List UInt8,decide (Lib.compareBytes a b<0)=Op.bytesLess a b
 |[],[]=>rfl
 |[],_::_=>rfl
 |_::_,[]=>rfl
 |a::x,b::y=>by
  simp only[Lib.compareBytes,Op.bytesLess]
  by_cases h:a<b
  .simp[h]
  .by_cases h2:b<a
   .grind
   .have:a=b:=by
     grind
    subst this
    simp[h,Oz x y]
def Hi: ∀a b:List UInt8,(Lib.compareBytes a b==0)=(a==b)
 |[],[]=>rfl
 |[],_::_=>rfl
 |_::_,[]=>rfl
 |a::x,b::y=>by
  simp only[Lib.compareBytes]
  by_cases h:a<b
  .grind
  .by_cases h2:b<a
   .grind
   .have:a=b:=by
     grind
    subst this
    simp only[h,if_false,Hi x y,List.cons_beq_cons,BEq.rfl,j_8]
def p7(s:az)(hd:s.Down.length=s.aG.length)(ha:bR s.aG a=true)(hb:bR s.aG b=true)(hl:s.aG.length<=8):
  Ev (λf=>pE f s a b) (dN s.Down a b):=by
 have la:=gk ha
 have lb:=gk hb
 have main:mi (λf=>pU f s a b) (0:Int) (if dN s.Down a b=0 then .inl ()else .inr (dN s.Down a b):Unit⊕Int):=by
  refine gL (A:=λk=>(k:Int)) (out:=λk=>(if dN (s.Down.drop k) (a.drop k) (b.drop k)=0 then .inl ()else .inr (dN (s.Down.drop k) (a.drop k) (b.drop k)):Unit⊕Int)) s.aG.length (λk hk=>?_) ?_ 0 ω
  .have k1:k<a.length:=by omega
   have k2:k<b.length:=by omega
   have k3:k<s.Down.length:=by omega
   obtain⟨a1,a2⟩:=lX ha k hk k1
   obtain⟨b1,b2⟩:=lX hb k hk k2
   have key: ∀(c:Int) (g:Nat->Option Int),(∀f,g f=some c)->c=sM s.Down[k] a[k] b[k]->
     (Ev (λf=>(g f).bind λr=>bif (r !=0)then some (.inr (.inr r))else some (.inl (IntKind.wrap .i64 ((k:Int)+1)))) (.inl (((k+1:Nat):Int)):Int⊕(Unit⊕Int))/\
      (if dN (s.Down.drop (k+1)) (a.drop (k+1)) (b.drop (k+1))=0 then .inl ()else .inr (dN (s.Down.drop (k+1)) (a.drop (k+1)) (b.drop (k+1))):Unit⊕Int)=(if dN (s.Down.drop k) (a.drop k) (b.drop k)=0 then .inl ()else .inr (dN (s.Down.drop k) (a.drop k) (b.drop k))))\/
     Ev (λf=>(g f).bind λr=>bif (r !=0)then some (.inr (.inr r))else some (.inl (IntKind.wrap .i64 ((k:Int)+1)))) (.inr (if dN (s.Down.drop k) (a.drop k) (b.drop k)=0 then .inl ()else .inr (dN (s.Down.drop k) (a.drop k) (b.drop k))):Int⊕(Unit⊕Int)):=by
    intro c g hg hc
    rw[aZ k1,aZ k2,aZ k3,dN,<-hc]
    by_cases hz:c=0
    .refine .inl ⟨.bind (.of hg)<|.f (by simp[hz]) ?_,by rw[if_pos hz]⟩
     rw[eC ω];exact .pure _
    .refine .inr (.bind (.of hg)<|.t (by simp[hz]) ?_)
     rw[if_neg hz,if_neg hz];exact .pure _
   have hw: ∀x y:Value,zA x=true->zA y=true->IntKind.wrap .i64 (x.N - y.N)=x.N - y.N:=by
    intro x y hx hy
    rcases sm hx with⟨_,n1,n2,_⟩|⟨_,n1,_⟩<;>rcases sm hy with⟨_,m1,m2,_⟩|⟨_,m1,_⟩<;>exact eo ω ω
   have hk12:s.aG[k]=1\/s.aG[k]=2:=by
    rcases sm a2 with h|h
    .grind
    grind
   unfold pU
   rcases hk12 with h1|h1<;>cases hdn:s.Down[k]
   .have:=key _ (λf=>kG f a[k] b[k]) (λf=>rfl) (by rw[hdn,hw _ _ a2 b2];simp only[sM,iO,g_7,if_false];rw[if_pos ω])
    refine this.imp (λ⟨h,e⟩=>⟨.t (gu hk)<|.ae (aH hk)<|.bz<|.ae (aH k3)<|.f hdn<|.t ?_<|.ae (aH k1)<|.ae (aH k2) h,e⟩) (λh=>.t (gu hk)<|.ae (aH hk)<|.bz<|.ae (aH k3)<|.f hdn<|.t ?_<|.ae (aH k1)<|.ae (aH k2) h)<;>rw[h1]<;>rfl
   .have:=key _ (λf=>kF f a[k] b[k]) (λf=>rfl) (by rw[hdn,hw _ _ b2 a2];simp only[sM,iO,if_true];rw[if_pos ω])
    refine this.imp (λ⟨h,e⟩=>⟨.t (gu hk)<|.ae (aH hk)<|.bz<|.ae (aH k3)<|.t hdn<|.f ?_<|.t ?_<|.ae (aH k1)<|.ae (aH k2) h,e⟩) (λh=>.t (gu hk)<|.ae (aH hk)<|.bz<|.ae (aH k3)<|.t hdn<|.f ?_<|.t ?_<|.ae (aH k1)<|.ae (aH k2) h)<;>rw[h1]<;>rfl
   .have:=key _ (λf=>kE f a[k] b[k]) (λf=>rfl) (by rw[hdn];simp only[sM,iO,g_7,if_false];rw[if_neg ω])
    refine this.imp (λ⟨h,e⟩=>⟨.t (gu hk)<|.ae (aH hk)<|.bz<|.ae (aH k3)<|.f hdn<|.f ?_<|.f ?_<|.t ?_<|.ae (aH k1)<|.ae (aH k2) h,e⟩) (λh=>.t (gu hk)<|.ae (aH hk)<|.bz<|.ae (aH k3)<|.f hdn<|.f ?_<|.f ?_<|.t ?_<|.ae (aH k1)<|.ae (aH k2) h)<;>rw[h1]<;>rfl
   .have:=key _ (λf=>kD f a[k] b[k]) (λf=>rfl) (by rw[hdn];simp only[sM,iO,if_true];rw[if_neg ω])
    refine this.imp (λ⟨h,e⟩=>⟨.t (gu hk)<|.ae (aH hk)<|.bz<|.ae (aH k3)<|.t hdn<|.f ?_<|.f ?_<|.f ?_<|.t ?_<|.ae (aH k1)<|.ae (aH k2) h,e⟩) (λh=>.t (gu hk)<|.ae (aH hk)<|.bz<|.ae (aH k3)<|.t hdn<|.f ?_<|.f ?_<|.f ?_<|.t ?_<|.ae (aH k1)<|.ae (aH k2) h)<;>rw[h1]<;>rfl
  .unfold pU
   refine .f (oY (h_0 _)) ?_
   have:dN (s.Down.drop s.aG.length) (a.drop s.aG.length) (b.drop s.aG.length)=0:=by rw[<-hd,p_3];rfl
   rw[this];exact .pure _
 unfold pE
 refine .bind (.of λ_=>rfl)<|.bind main.ev ?_
 by_cases h:dN s.Down a b=0
 .rw[if_pos h,h];exact .pure _
 .rw[if_neg h];exact .pure _
def i64(x:Int):Prop:= -9223372036854775808<=x/\x<9223372036854775808
def cZ(s:az)(a b:Entry):Int:=if dN s.Down a.Row b.Row=0 then(if s.eD=2 then b.Number - a.Number else a.Number - b.Number)else dN s.Down a.Row b.Row
def pQ(s:az)(a:Entry):Bool:=bR s.aG a.Row&&(decide (1<=a.Key)&&decide (a.Key<=1000000))&&decide (1<=a.Number)
def jT(h:qI s=true):s.aG.length<=8/\s.Down.length=s.aG.length:=by
 simp only[qI,g_3,decide_eq_true_eq,beq_iff_eq]at h
 exact⟨h.1.1.1.1.2,h.1.1.1.2⟩
def rZ(hs:qI s=true)(ha:bR s.aG a.Row=true)(hb:bR s.aG b.Row=true)(na:1<=a.Number/\i64 a.Number)(nb:1<=b.Number/\i64 b.Number):
  Ev (λf=>mz f s a b) (cZ s a b):=by
 obtain⟨h8,hd⟩:=jT hs
 unfold mz cZ
 refine .bind (p7 s hd ha hb h8) ?_
 unfold i64 at na nb
 by_cases hz:dN s.Down a.Row b.Row=0
 .rw[if_pos hz]
  refine .f (by simp[hz]) ?_
  by_cases h2:s.eD=2
  .rw[if_pos h2];refine .t (by simp[h2]) ?_;rw[eo ω ω];exact .pure _
  .rw[if_neg h2];refine .f (by simp[h2]) ?_;rw[eo ω ω];exact .pure _
 .rw[if_neg hz]
  exact .t (by simp[hz]) (.pure _)
def vh(hs:qI s=true)(ha:bR s.aG a.Row=true)(hb:bR s.aG b.Row=true):
  Ev (λf=>qe f s a b) (decide (cZ s a b<0)):=by
 obtain⟨h8,hd⟩:=jT hs
 unfold qe cZ
 refine .bind (Gn s hd ha hb h8) ?_
 by_cases hz:dN s.Down a.Row b.Row=0
 .rw[if_pos hz,hz]
  refine .f rfl ?_
  by_cases h2:s.eD=2
  .rw[if_pos h2];refine .t (by simp[h2]) ?_
   rw[show decide (a.Number>b.Number)=decide (b.Number - a.Number<0)by rw[decide_eq_decide];omega];exact .pure _
  .rw[if_neg h2];refine .f (by simp[h2]) ?_
   rw[show decide (a.Number<b.Number)=decide (a.Number - b.Number<0)by rw[decide_eq_decide];omega];exact .pure _
 .rw[if_neg hz]
  refine .t (by simp;rwa [qb]) ?_
  rw[show decide (tG (dN s.Down a.Row b.Row)<0)=decide (dN s.Down a.Row b.Row<0)by rw[decide_eq_decide,R8]];exact .pure _
def Jf(f:Nat)(k:Int):FV f k=some (decide (1<=k)&&decide (k<=1000000)):=rfl
def Es(f:Nat)(k:Int):vW f k=some (decide (1<=k)&&decide (k<=1000000)):=rfl
def xF(hs:qI s=true)(la:a.Row.length<1000):Ev (λf=>vX f s a) (pQ s a):=by
 unfold vX pQ
 refine .bind (zO s a.Row hs la) ?_
 cases bR s.aG a.Row
 .exact .f rfl (.pure _)
 .exact .t rfl<|.bind (.of λn=>Es n _) (.pure _)
def B9(x y z:Int):Prop:=x<=0->y<=0->z<=0/\(z=0->x=0/\y=0)
def LO(a b c:List UInt8):B9 (Lib.compareBytes a b) (Lib.compareBytes b c) (Lib.compareBytes a c):=by
 have hl: ∀a b,Lib.compareBytes a b<0<->Op.bytesLess a b=true:=λa b=>by rw[<-Oz,decide_eq_true_eq]
 have hz: ∀a b,Lib.compareBytes a b=0<->a=b:=λa b=>by have:=Hi a b;grind
 intro h1 h2
 rcases Int.lt_or_eq_of_le h1 with h1|h1<;>rcases Int.lt_or_eq_of_le h2 with h2|h2
 .have:=(hl a c).2 (DM ((hl a b).1 h1) ((hl b c).1 h2))
  omega
 .grind
 .grind
 grind
def Rq(h1:u.Kind=k)(h2:v.Kind=k)(h3:w.Kind=k):B9 (iO u v) (iO v w) (iO u w):=by
 unfold iO
 rw[h1,h2]
 split
 .unfold B9;omega
 .exact LO _ _ _
def AX: ∀(ds:List Bool) {ks:List Int} {u v w:List Value},bR ks u=true->bR ks v=true->bR ks w=true->B9 (dN ds u v) (dN ds v w) (dN ds u w)
 |[],ks,u,v,w,_,_,_=>by simp[dN,B9]
 |d::ds,[],[],[],[],_,_,_=>by simp[dN,B9]
 |d::ds,k::ks,x::u,y::v,z::w,h1,h2,h3=>by
  simp only[bR,g_3,beq_iff_eq]at h1 h2 h3
  have ih:=AX ds h1.2 h2.2 h3.2
  have hv:B9 (sM d x y) (sM d y z) (sM d x z):=by
   cases d
   .exact Rq h1.1.1 h2.1.1 h3.1.1
   .have:=Rq h3.1.1 h2.1.1 h1.1.1
    intro p q
    obtain⟨r1,r2⟩:=this q p
    exact⟨r1,λe=>(r2 e).symm⟩
  simp only[dN]
  unfold B9 at *
  grind
def wx: ∀(ds:List Bool) {ks:List Int} {u v:List Value},bR ks u=true->bR ks v=true->dN ds v u= - dN ds u v
 |[],ks,u,v,_,_=>rfl
 |d::ds,[],[],[],_,_=>rfl
 |d::ds,k::ks,x::u,y::v,h1,h2=>by
  simp only[bR,g_3,beq_iff_eq]at h1 h2
  have ih:=wx ds h1.2 h2.2
  have hv:iO y x= - iO x y:=by
   unfold iO
   rw[h1.1.1,h2.1.1]
   split
   .omega
   .exact wM _ _
  have hd:sM d y x= - sM d x y:=by
   cases d
   .exact hv
   .show iO x y= - iO y x
    omega
  simp only[dN]
  split<;>split<;>omega
def xL(ha:bR s.aG a.Row=true)(hb:bR s.aG b.Row=true):cZ s b a= - cZ s a b:=by
 have:=wx s.Down ha hb
 unfold cZ
 grind
def Bf(ha:bR s.aG a.Row=true)(hb:bR s.aG b.Row=true)(hc:bR s.aG c.Row=true)(h1:cZ s a b<0)(h2:cZ s b c<0):cZ s a c<0:=by
 have:=AX s.Down ha hb hc
 unfold B9 at this
 unfold cZ at *
 grind
def ly(h:H[i]? =some (.cells cs)):lW H i=some cs:=by unfold lW;rw[h]
def dj{α:Type}{c:Cc α}{x:α}(h:H[i]? =some (.cells cs))(e:cs.drop off=c.enc x++r):bE c H i off=some x:=by
 unfold bE
 rw[ly h,j_5,e,c.ed]
 rfl
def gQ{α:Type}{c:Cd α}{x:α}(h:H[i]? =some (.cells cs))(e:off+(c.enc x).cells.length<=cs.length):ee c H i off x=some (H.set i (.cells (setCells cs off (c.enc x).cells))):=by
 unfold ee GR
 rw[ly h,j_5,if_pos e]
def fv{α:Type}{c:Cd α}{xs:List α}(h:H[i]? =some (.cells cs))(e:cs[off]? =some (.own n (xs.map c.enc))):bL n c H i off=some xs:=by
 unfold bL
 rw[ly h,j_5,e]
 simp only[if_true]
 exact nU c xs
def wF{α:Type}{c:Cd α}{xs:List α}(h:H[i]? =some (.cells cs))(e:cs[off]? =some (.d (.list n (xs.map c.enc)))):bL n c H i off=some xs:=by
 unfold bL
 rw[ly h,j_5,e]
 simp only[if_true]
 exact nU c xs
def oT{α:Type}{c:Cd α}{xs:List α}(h:H[i]? =some (.cells cs))(e:cs[off]? =some (.own n (xs.map c.enc))):dQ n c H i off=some (xs,H.set i (.cells (cs.set off .undef))):=by
 unfold dQ
 rw[ly h,j_5,e]
 simp only[if_true,nU,m_4]
def jG{α:Type}{c:Cd α}{xs:List α}(h:H[i]? =some (.cells cs))(e:off<cs.length):dh n c H i off xs=some (H.set i (.cells (cs.set off (.own n (xs.map c.enc))))):=by
 unfold dh
 rw[ly h,j_5,if_pos e]
def EK{K V:Type}[BEq K]{k:Kc K}{v:Cd V}{es:List (K×V)}(h:H[i]? =some (.map (es.map (mg k v)))):Bw k v H (some i)=some es:=zT.2 h
def GS{K V:Type}[BEq K]{k:Kc K}{v:Cd V}{es:List (K×V)}{x:K}(h:H[i]? =some (.map (es.map (mg k v)))):Bx k v H (some i) x=some (es.lookup x):=by
 unfold Bx
 rw[EK h]
 rfl
def Oe{K V:Type}[BEq K]{k:Kc K}{v:Cd V}{es:List (K×V)}{x:K}{y:V}(h:H[i]? =some (.map (es.map (mg k v)))):Bv k v H (some i) x y=some (H.set i (.map ((Cv x y es).map (mg k v)))):=by
 unfold Bv
 rw[j_5,EK h]
 rfl
def QC{K V:Type}[BEq K]{k:Kc K}{v:Cd V}{es:List (K×V)}(h:H[i]? =some (.map (es.map (mg k v)))):EM k v H (some i)=some (es.length:Int):=by
 unfold EM
 rw[EK h]
 rfl
def Jb(l:List Int):List (Int×Bool):=l.map λn=>(n,true)
def Gs(l:List Int)(n:Int):((Jb l).lookup n).getD false=l.contains n:=by
 induction l with
 |nil=>rfl
 |cons a l ih=>
  simp only[Jb,h_3,List.lookup,List.contains_cons]at ih ⊢
  grind
def Qt(h:l.contains n=false):Cv n true (Jb l)=Jb (l++[n]):=by
 induction l with
 |nil=>rfl
 |cons a l ih=>
  simp only[List.contains_cons,Bool.or_eq_false_iff]at h
  simp only[Jb,h_3,m_7,Cv,h.1,g_7,if_false]at ih ⊢
  rw[ih h.2]
def jt{H:Hp}{i j:Nat}{o:aN}(h:j≠i):(H.set i o)[j]? =H[j]? :=by grind
def dU{H:Hp}{i:Nat}{o o':aN}(h:H[i]? =some o'):(H.set i o)[i]? =some o:=by
 grind
set_option maxRecDepth 100000
def uj(s:az)(a b:Entry):Bool:=decide (cZ s a b<0)&&(s.eD !=1||dN s.Down a.Row b.Row !=0)
def DP{s:az}(ha:bR s.aG a.Row=true)(hb:bR s.aG b.Row=true)(hc:bR s.aG c.Row=true)(h1:uj s a b=true)(h2:uj s b c=true):uj s a c=true:=by
 unfold uj at *
 simp only[g_3,decide_eq_true_eq,p_6,bne_iff_ne,ne_eq]at *
 refine⟨Bf ha hb hc h1.1 h2.1,?_⟩
 rcases h1.2 with h|h
 .exact .inl h
 rcases h2.2 with h'|h'
 .exact .inl h'
 right
 have h3:=AX s.Down ha hb hc
 have e1:=h1.1
 have e2:=h2.1
 unfold cZ at e1 e2
 rw[if_neg h]at e1
 rw[if_neg h']at e2
 intro e
 have:=(h3 ω ω).2 e
 exact h this.1
def jX(s:az):Option Entry->Entry->Bool
 |none,_=>true
 |some a,e=>uj s a e
def Fa(s:az):Option Entry->List Entry->Bool
 |_,[]=>true
 |p,e::l=>jX s p e&&Fa s (some e) l
def BB(s:az)(last:Int)(met:List Int)(e:Entry):Bool:=pQ s e&&decide (e.Number<=last)&&!met.contains e.Number
def qh(s:az)(last:Int):List Int->List Entry->Option (List Int)
 |met,[]=>some met
 |met,e::l=>if BB s last met e then qh s last (met++[e.Number]) l else none
def PQ(s:az)(last:Int):Option Entry->List Int->List Entry->Option (List Int)
 |_,met,[]=>some met
 |p,met,e::l=>if BB s last met e then(if jX s p e then PQ s last (some e) (met++[e.Number]) l else none)else none
def Nw(s:az)(last:Int): ∀(l:List Entry) (p:Option Entry) (met:List Int),PQ s last p met l=if Fa s p l then qh s last met l else none
 |[],p,met=>by simp[PQ,Fa,qh]
 |e::l,p,met=>by
  simp only[PQ,Fa,qh]
  rw[Nw s last l]
  grind
def FF(tr m:Nat)(nodes:List Node)(nx bad:Int):aN:=.cells [.d (cP.enc (some tr)),.d (.list 3 (List.map cj nodes)),.d (.int .i64 nx),.d (.map m),.d (.int .i64 bad)]
def ki(s:az)(order:Int)(root:Option Nat)(last count:Int):aN:=
 .cells [.d (.list 1 (List.map (D.int .i64) s.aG)),.d (.list 1 (List.map D.bool s.Down)),.d (.int .i64 s.eD),.d (.int .i64 order),.d (cP.enc root),.d (.int .i64 last),.d (.int .i64 count)]
def gC(met:List Int):aN:=.map ((Jb met).map (mg (kI .i64) cB))
structure nD(p0 tr m:Nat)(s:az)(order last:Int)(nodes:List Node)(H:Hp)(nx bad:Int):Prop where
 hp:H[p0]? =some (FF tr m nodes nx bad)
 ht: ∃r c,H[tr]? =some (ki s order r last c)
 hm: ∃o,H[m]? =some o
 n1:p0≠m
 n2:tr≠m
 n3:tr≠p0
section
variable {p0 tr m:Nat} {s:az} {order last:Int} {nodes:List Node} {H:Hp} {nx bad:Int}
def nD.map(h:nD p0 tr m s order last nodes H nx bad)(o:aN):nD p0 tr m s order last nodes (H.set m o) nx bad:=by
 obtain⟨o',ho⟩:=h.hm
 exact⟨by rw[jt h.n1];exact h.hp,by rw[jt h.n2];exact h.ht,⟨_,dU ho⟩,h.n1,h.n2,h.n3⟩
def nD.tree(h:nD p0 tr m s order last nodes H nx bad):bE cP.cell H p0 0=some (some tr):=dj (r:=[.d (.list 3 (List.map cj nodes)),.d (.int .i64 nx),.d (.map m),.d (.int .i64 bad)]) h.hp rfl
def nD.ji(h:nD p0 tr m s order last nodes H nx bad):bL 3 BL H p0 1=some nodes:=wF h.hp rfl
def nD.M0(h:nD p0 tr m s order last nodes H nx bad):bE (cI .i64).cell H p0 2=some nx:=dj (r:=[.d (.map m),.d (.int .i64 bad)]) h.hp rfl
def nD.mp(h:nD p0 tr m s order last nodes H nx bad):bE cM.cell H p0 3=some (some m):=dj (r:=[.d (.int .i64 bad)]) h.hp rfl
def nD.bd(h:nD p0 tr m s order last nodes H nx bad):bE (cI .i64).cell H p0 4=some bad:=dj (r:=[]) h.hp rfl
def nD.Ay(h:nD p0 tr m s order last nodes H nx bad):bE dG.cells H tr 0=some s:=by
 obtain⟨r,c,ht⟩:=h.ht
 exact dj (r:=[.d (.int .i64 order),.d (cP.enc r),.d (.int .i64 last),.d (.int .i64 c)]) ht rfl
def nD.dup(h:nD p0 tr m s order last nodes H nx bad):bE (cI .i64).cell H tr 2=some s.eD:=by
 obtain⟨r,c,ht⟩:=h.ht
 exact dj (r:=[.d (.int .i64 order),.d (cP.enc r),.d (.int .i64 last),.d (.int .i64 c)]) ht rfl
def nD.ord(h:nD p0 tr m s order last nodes H nx bad):bE (cI .i64).cell H tr 3=some order:=by
 obtain⟨r,c,ht⟩:=h.ht
 exact dj (r:=[.d (cP.enc r),.d (.int .i64 last),.d (.int .i64 c)]) ht rfl
def nD.bN(h:nD p0 tr m s order last nodes H nx bad):bE (cI .i64).cell H tr 5=some last:=by
 obtain⟨r,c,ht⟩:=h.ht
 exact dj (r:=[.d (.int .i64 c)]) ht rfl
def nD.En(h:nD p0 tr m s order last nodes H nx bad)(b:Int):ee (cI .i64) H p0 4 b=some (H.set p0 (FF tr m nodes nx b)):=gQ h.hp (by simp[cI,D.cells])
def nD.Tu(h:nD p0 tr m s order last nodes H nx bad)(b:Int):ee (cI .i64) H p0 2 b=some (H.set p0 (FF tr m nodes b bad)):=gQ h.hp (by simp[cI,D.cells])
def nD.put(h:nD p0 tr m s order last nodes H nx bad)(a b:Int):nD p0 tr m s order last nodes (H.set p0 (FF tr m nodes a b)) a b:=by
 obtain⟨o',ho⟩:=h.hm
 exact⟨dU h.hp,by rw[jt h.n3];exact h.ht,⟨o',by rw[jt (j_6 h.n1)];exact ho⟩,h.n1,h.n2,h.n3⟩
def BT(hs:qI s=true)(h:nD p0 tr m s order last nodes H nx bad)(ha:pQ s a=true)(hb:pQ s b=true)(na:i64 a.Number)(nb:i64 b.Number):Ev (λf=>cW f p0 a b H) (uj s a b):=by
 have fa:bR s.aG a.Row=true:=by simp only[pQ,g_3]at ha;exact ha.1.1
 have fb:bR s.aG b.Row=true:=by simp only[pQ,g_3]at hb;exact hb.1.1
 have a1:1<=a.Number:=by simp only[pQ,g_3,decide_eq_true_eq]at ha;exact ha.2
 have b1:1<=b.Number:=by simp only[pQ,g_3,decide_eq_true_eq]at hb;exact hb.2
 obtain⟨h8,hd⟩:=jT hs
 unfold cW uj
 refine .ae h.tree<|.ae rfl<|.ae h.Ay<|.bind (rZ hs fa fb ⟨a1,na⟩ ⟨b1,nb⟩) ?_
 cases hc:decide (cZ s a b<0)with
 |false=>exact .f rfl (.pure _)
 |true=>
  refine .t rfl<|.ae h.tree<|.ae rfl<|.ae h.dup ?_
  cases hd1:s.eD !=1 with
  |true=>exact .t rfl (.pure _)
  |false=>exact .f rfl<|.ae h.tree<|.ae rfl<|.ae h.Ay<|.bind (p7 s hd fa fb h8) (.pure _)
def GX(h:BB s last met e=true):pQ s e=true/\e.Number<=last/\met.contains e.Number=false:=by
 simp only[BB,g_3,decide_eq_true_eq,k_4]at h
 exact⟨h.1.1,h.1.2,h.2⟩
def C8(hs:qI s=true)(h:nD p0 tr m s order last nodes H nx bad)(hl:x.Entries.length<1000000)(hr: ∀e∈x.Entries,e.Row.length<1000/\i64 e.Number):
  ∀(l:List Entry) (k:Nat) (p:Option Entry) (met:List Int),x.Entries.drop k=l->(k=0->p=none)->(∀j,k=j+1->p=x.Entries[j]?)->(∀e,p=some e->pQ s e=true)->
   match PQ s last p met l with
   |some met'=>mi (λf=>db f p0 x) (x.Level,x.Entries,x.Kids,(k:Int),H.set m (gC met)) (.inl (H.set m (gC met')))
   |none=> ∃met',mi (λf=>db f p0 x) (x.Level,x.Entries,x.Kids,(k:Int),H.set m (gC met)) (.inr (false,H.set m (gC met')))
 |[],k,p,met,hd,h0,h1,hp=>by
  have hk:x.Entries.length<=k:=by simpa using hd
  simp only[PQ]
  refine .stop ?_
  unfold db
  exact .f (oY hk) (.pure _)
 |e::l,k,p,met,hd,h0,h1,hp=>by
  have hk:k<x.Entries.length:=by
   by_cases hk:k<x.Entries.length
   .exact hk
   .rw[List.drop_eq_nil_of_le ω]at hd;cases hd
  have hek:x.Entries[k]=e:=by rw[aZ hk]at hd;exact(j_1 hd).1
  have hdl:x.Entries.drop (k+1)=l:=by rw[aZ hk]at hd;exact(j_1 hd).2
  have he:=hr e (hek▸j_0 hk)
  have hM:(H.set m (gC met))[m]? =some (gC met):=by obtain⟨o,ho⟩:=h.hm;exact dU ho
  have g:=h.map (gC met)
  simp only[PQ]
  have bad1:BB s last met e=false->Ev (λf=>db f p0 x (x.Level,x.Entries,x.Kids,(k:Int),H.set m (gC met))) (.inr (.inr (false,H.set m (gC met)))):=by
   intro hf
   unfold db
   refine .t (gu hk)<|.ae (aH hk)<|.bz ?_
   rw[hek]
   refine .ae g.tree<|.ae rfl<|.ae g.Ay<|.bind (wH s e.Row he.1) ?_
   cases h1:bR s.aG e.Row with
   |false=>exact .t rfl<|.t rfl (.pure _)
   |true=>
    refine .f rfl<|.bind (.of λn=>Jf n _) ?_
    by_cases h2:(1<=e.Key/\e.Key<=1000000)/\1<=e.Number
    .refine .f φ<|.ae g.tree<|.ae rfl<|.ae g.bN ?_
     by_cases h3:e.Number<=last
     .refine .f φ<|.ae g.mp<|.ae (GS hM) ?_
      have:met.contains e.Number=true:=by
       cases hc:met.contains e.Number with
       |true=>rfl
       |false=>
        have:BB s last met e=true:=by simp only[BB,pQ,h1,hc,g_3,decide_eq_true_eq,j_8,Bool.not_false,and_true];grind
        rw[this]at hf;cases hf
      exact .t (by rw[Gs,this]) (.pure _)
     .exact .t φ<|.t rfl (.pure _)
    .exact .t φ<|.t rfl (.pure _)
  cases hf:BB s last met e with
  |false=>exact⟨met,.stop (bad1 hf)⟩
  |true=>
   obtain⟨f1,f2,f3⟩:=GX hf
   have f1':=f1
   simp only[pQ,g_3,decide_eq_true_eq]at f1'
   have vm:(H.set m (gC met)).set m (gC (met++[e.Number]))=H.set m (gC (met++[e.Number])):=by rw[m_9]
   have hput:Bv (kI .i64) cB (H.set m (gC met)) (some m) e.Number true=some (H.set m (gC (met++[e.Number]))):=by
    rw[Oe hM,Qt f3,<-vm];rfl
   have g2:=h.map (gC (met++[e.Number]))
   have key:Ev (λf=>db f p0 x (x.Level,x.Entries,x.Kids,(k:Int),H.set m (gC met)))
     (if jX s p e=true then .inl (x.Level,x.Entries,x.Kids,((k+1:Nat):Int),H.set m (gC (met++[e.Number])))else .inr (.inr (false,H.set m (gC (met++[e.Number]))))):=by
    unfold db
    refine .t (gu hk)<|.ae (aH hk)<|.bz ?_
    rw[hek]
    refine .ae g.tree<|.ae rfl<|.ae g.Ay<|.bind (wH s e.Row he.1) ?_
    rw[f1'.1.1]
    refine .f rfl<|.bind (.of λn=>Jf n _) ?_
    refine .f φ<|.ae g.tree<|.ae rfl<|.ae g.bN ?_
    refine .f φ<|.ae g.mp<|.ae (GS hM) ?_
    refine .f (by rw[Gs,f3])<|.ae g.mp<|.ae hput<|.bz ?_
    rw[eC ω]
    obtain rfl|⟨j,rfl⟩:k=0\/ ∃j,k=j+1:=by cases k<;>simp
    .have hp0:=h0 rfl
     subst hp0
     simp only[jX]
     exact .f ψ<|.f ψ (.pure _)
    .have hj:j<x.Entries.length:=by omega
     have hp1:=h1 j rfl
     rw[g_6 hj]at hp1
     have ha:=hp _ hp1
     have hna:=hr _ (j_0 hj)
     subst hp1
     simp only[jX]
     have hix:idx x.Entries (IntKind.wrap .i64 (((j+1:Nat):Int) - 1))=some x.Entries[j]:=by
      rw[eo ω ω,show((j+1:Nat):Int) - 1=(j:Int)by omega];exact aH hj
     have ha':=ha
     simp only[pQ,g_3,decide_eq_true_eq]at ha'
     obtain⟨h8,hd⟩:=jT hs
     refine .t φ<|.ae g2.tree<|.ae rfl<|.ae g2.Ay<|.ae hix<|.bind (rZ hs ha'.1.1 f1'.1.1 ⟨ha'.2,hna.2⟩ ⟨f1'.2,he.2⟩) ?_
     by_cases hc:cZ s x.Entries[j] e<0
     .refine .f φ<|.t φ<|.ae g2.tree<|.ae rfl<|.ae g2.dup ?_
      by_cases hdp:s.eD=1
      .refine .t (by simp[hdp])<|.ae g2.tree<|.ae rfl<|.ae g2.Ay<|.ae hix<|.bind (p7 s hd ha'.1.1 f1'.1.1 h8) ?_
       by_cases hz:dN s.Down x.Entries[j].Row e.Row=0
       .simp only[show uj s x.Entries[j] e=false by simp[uj,hdp,hz],g_7,if_false]
        exact .t (by simp[hz]) (.pure _)
       .simp only[show uj s x.Entries[j] e=true by simp[uj,hc,hz],if_true]
        exact .f (by simp[hz]) (.pure _)
      .simp only[show uj s x.Entries[j] e=true by simp[uj,hc,hdp],if_true]
       exact .f (by simp[hdp]) (.pure _)
     .simp only[show uj s x.Entries[j] e=false by simp[uj,hc],g_7,if_false]
      exact .t φ (.pure _)
   simp only[if_true]
   by_cases ho:jX s p e=true
   .rw[if_pos ho]at key ⊢
    have ih:=C8 hs h hl hr l (k+1) (some e) (met++[e.Number]) hdl ω (λj hj=>by
     grind) (λe' h'=>by cases h';exact f1)
    cases hq:PQ s last (some e) (met++[e.Number]) l with
    |none=>rw[hq]at ih;obtain⟨met',ih⟩:=ih;exact⟨met',.next key ih⟩
    |some met'=>rw[hq]at ih;exact .next key ih
   .rw[if_neg ho]at key ⊢
    exact⟨_,.stop key⟩
end
set_option maxRecDepth 100000
def m7{α:Type}{F g:Nat->Option α}{r:α}(h: ∀n,F (n+1)=g n)(hg:Ev g r):Ev F r:=by
 obtain⟨N,hN⟩:=hg
 refine⟨N+1,λn hn=>?_⟩
 obtain⟨n,rfl⟩: ∃k,n=k+1:=⟨n - 1,ω⟩
 rw[h]
 exact hN n ω
section
variable (s:az) (order last:Int) (nodes:List Node)
def rj(low high:Option Entry)(x:Node):Bool:=
 (match low,x.Entries.head? with|some l,some a=>uj s l a|_,_=>true)&&(match high,x.Entries.getLast? with|some h,some b=>uj s b h|_,_=>true)
def zG(root:Bool)(x:Node):Bool:=decide ((x.Entries.length:Int)<=order)&&(root||decide (order / 2<=(x.Entries.length:Int)))
def zC(root:Bool)(level:Int)(x:Node):Bool:=decide (0<=x.Level)&&(root||x.Level==level)
def Bp(x:Node):Bool:=x.Kids.length==(if 0<x.Level then x.Entries.length+1 else 0)&&x.Kids.length !=1
def rL(root:Bool)(level:Int)(low high:Option Entry)(met:List Int)(x:Node):Option (List Int):=
 if zG order root x&&zC root level x&&Bp x&&Fa s none x.Entries&&rj s low high x then qh s last met x.Entries else none
def qn(x:Node)(low:Option Entry)(i:Nat):Option Entry:=if 0<i then x.Entries[i - 1]? else low
def j9(x:Node)(high:Option Entry)(i:Nat):Option Entry:=if i<x.Entries.length then x.Entries[i]? else high
def qL(rc:Nat->Int->Option Entry->Option Entry->List Int->Nat⊕(Nat×List Int))(at_:Nat)(x:Node)(low high:Option Entry):List Int->Nat->Nat->List Int->Nat⊕(Nat×List Int)
 |[],_,nx,met=>.inr (nx,met)
 |k::ks,i,nx,met=>if k=(nx:Int)/\nx<nodes.length then
   match rc nx (x.Level - 1) (qn x low i) (j9 x high i) met with
   |.inl b=>.inl b
   |.inr (nx',met')=>qL rc at_ x low high ks (i+1) nx' met'
  else .inl at_
def wk:Nat->Nat->Int->Option Entry->Option Entry->List Int->Nat⊕(Nat×List Int)
 |0,at_,_,_,_,_=>.inl at_
 |d+1,at_,level,low,high,met=>match nodes[at_]? with
  |none=>.inl at_
  |some x=>match rL s order last (at_==0) level low high met x with
   |none=>.inl at_
   |some met'=>qL nodes (wk d) at_ x low high x.Kids 0 (at_+1) met'
end
def dT(es:List Entry)(is:List (Option Nat)):aN:=.cells [.own 3 (List.map ab es),.own 1 (List.map cP.enc is)]
def zn(P:Nat->Nat->Nat->Prop):List Int->List (Option Nat)->Nat->Nat->Prop
 |[],[],a,z=>a=z
 |k::ks,some i::is,a,z=>k=(a:Int)/\ ∃m,P a m i/\zn P ks is m z
 |_,_,_,_=>False
def HN(b:Nat)(nodes:List Node)(H:Hp):Nat->Nat->Nat->Nat->Prop
 |0,a,z,i=> ∃x,nodes[a]? =some x/\x.Level=0/\x.Kids=[]/\H[i]? =some (dT x.Entries [])/\z=a+1/\b<=i
 |lv+1,a,z,i=> ∃x is,nodes[a]? =some x/\x.Level=((lv+1:Nat):Int)/\x.Kids.length=x.Entries.length+1/\H[i]? =some (dT x.Entries is)/\b<=i/\zn (HN b nodes H lv) x.Kids is (a+1) z
def zn.mono{P P':Nat->Nat->Nat->Prop}(h: ∀a z i,P a z i->P' a z i): ∀{ks:List Int} {is:List (Option Nat)} {a z:Nat},zn P ks is a z->zn P' ks is a z
 |[],[],a,z,hh=>hh
 |k::ks,some i::is,a,z,hh=>by
  obtain⟨h1,m,h2,h3⟩:=hh
  exact⟨h1,m,h _ _ _ h2,zn.mono h h3⟩
 |[],some _::_,_,_,hh=>hh.elim
 |[],none::_,_,_,hh=>hh.elim
 |_::_,[],_,_,hh=>hh.elim
 |_::_,none::_,_,_,hh=>hh.elim
def HN.frame{nodes:List Node}{H:Hp}(h: ∀j,b<=j->j<H.length->H'[j]? =H[j]?): ∀{lv a z i:Nat},HN b nodes H lv a z i->HN b nodes H' lv a z i
 |0,a,z,i,hh=>by
  obtain⟨x,h1,h2,h3,h4,h5,h6⟩:=hh
  exact⟨x,h1,h2,h3,φ,h5,h6⟩
 |lv+1,a,z,i,hh=>by
  obtain⟨x,is,h1,h2,h3,h4,h5,h6⟩:=hh
  exact⟨x,is,h1,h2,h3,φ,h5,h6.mono λ_ _ _ hp=>HN.frame h hp⟩
def HN.base(hb:b'<=b){nodes:List Node}{H:Hp}: ∀{lv a z i:Nat},HN b nodes H lv a z i->HN b' nodes H lv a z i
 |0,a,z,i,hh=>by
  obtain⟨x,h1,h2,h3,h4,h5,h6⟩:=hh
  exact⟨x,h1,h2,h3,h4,h5,ω⟩
 |lv+1,a,z,i,hh=>by
  obtain⟨x,is,h1,h2,h3,h4,h5,h6⟩:=hh
  exact⟨x,is,h1,h2,h3,h4,ω,h6.mono λ_ _ _ hp=>HN.base hb hp⟩
section
variable {p0 tr m:Nat} {s:az} {order last:Int} {nodes:List Node} {H:Hp} {nx bad:Int}
def GB(h:nD p0 tr m s order last nodes H nx bad)(h3:3<=order)(h32:order<=32):Ev (λf=>dC f tr H) (order / 2):=by
 unfold dC
 refine .ae h.ord ?_
 rw[show Int.tdiv order 2=order / 2 by grind,eo ω ω]
 exact .pure _
def Nv(hs:qI s=true)(h:nD p0 tr m s order last nodes H nx bad)(hm:H[m]? =some (gC met))(h3:3<=order)(h32:order<=32)(hl:x.Entries.length<1000000)
  (hr: ∀e∈x.Entries,e.Row.length<1000/\i64 e.Number):
  match(if zG order root x then PQ s last none met x.Entries else none)with
  |some met'=>Ev (λf=>dH f p0 x root inn H) (true,H.set m (gC met'))
  |none=> ∃met',Ev (λf=>dH f p0 x root inn H) (false,H.set m (gC met')):=by
 have hH:H.set m (gC met)=H:=by
  apply m_6
  grind
 have L:=C8 hs h hl hr x.Entries 0 none met ψ (λ_=>rfl) (λj hj=>by omega) (λe he=>by cases he)
 rw[hH]at L
 have body: ∀{r},Ev (λf=>(iter (db f p0 x) f (x.Level,x.Entries,x.Kids,0,H)).bind (Sum.elim (λv41=>some (true,v41)) (λr42=>some r42))) r->zG order root x=true->Ev (λf=>dH f p0 x root inn H) r:=by
  intro r hE hc
  simp only[zG,g_3,p_6,decide_eq_true_eq]at hc
  unfold dH
  refine .bz<|.ae h.tree<|.ae rfl<|.ae h.ord<|.f χ ?_
  cases root with
  |true=>exact .f rfl hE
  |false=>
   refine .t rfl<|.ae h.tree<|.ae rfl<|.bind (GB h h3 h32)<|.f ?_ hE
   grind
 cases hc:zG order root x with
 |true=>
  simp only[if_true]
  cases hq:PQ s last none met x.Entries with
  |some met'=>
   rw[hq]at L
   exact body (.bind L.ev (.pure _)) hc
  |none=>
   rw[hq]at L
   obtain⟨met',L⟩:=L
   exact⟨met',body (.bind L.ev (.pure _)) hc⟩
 |false=>
  simp only[g_7,if_false]
  refine⟨met,?_⟩
  rw[hH]
  unfold dH
  refine .bz<|.ae h.tree<|.ae rfl<|.ae h.ord ?_
  simp only[zG,Bool.and_eq_false_iff,Bool.or_eq_false_iff,decide_eq_false_iff_not]at hc
  by_cases ho:(x.Entries.length:Int)<=order
  .rcases hc with hc|⟨rfl,hc⟩
   .omega
   .exact .f χ<|.t rfl<|.ae h.tree<|.ae rfl<|.bind (GB h h3 h32)<|.t χ (.pure _)
  .exact .t χ (.pure _)
end
set_option maxRecDepth 100000
def uh(s:az)(o:Option Entry):Prop:= ∀e,o=some e->pQ s e=true/\i64 e.Number
def Cq(nodes:List Node):Prop:=nodes.length<1000/\ ∀x∈nodes,x.Entries.length<1000/\x.Kids.length<1000/\i64 x.Level/\ ∀e∈x.Entries,e.Row.length<1000/\i64 e.Number
def Nb{nodes:List Node}{rc:Nat->Int->Option Entry->Option Entry->List Int->Nat⊕(Nat×List Int)}(hrc: ∀a lv lo hi mt z m',rc a lv lo hi mt=.inr (z,m')->a<z):
  ∀{ks:List Int} {i nx:Nat} {met:List Int} {z:Nat} {m':List Int},qL nodes rc a x low high ks i nx met=.inr (z,m')->nx<=z
 |[],i,nx,met,z,m',h=>by simp only[qL,Sum.inr.injEq,g_8]at h;omega
 |k::ks,i,nx,met,z,m',h=>by
  simp only[qL]at h
  split at h
  .split at h
   .cases h
   .rename_i nx' met' hr
    have:=hrc _ _ _ _ _ _ _ hr
    have:=Nb hrc h
    omega
  .cases h
def M9{s:az}{order last:Int}{nodes:List Node}: ∀{d a:Nat} {lv:Int} {lo hi:Option Entry} {mt:List Int} {z:Nat} {m':List Int},wk s order last nodes d a lv lo hi mt=.inr (z,m')->a<z
 |0,a,lv,lo,hi,mt,z,m',h=>by cases h
 |d+1,a,lv,lo,hi,mt,z,m',h=>by
  simp only[wk]at h
  split at h
  .cases h
  .split at h
   .cases h
   .have:=Nb (λ_ _ _ _ _ _ _ hq=>M9 hq) h
    omega
def Na{s:az}{order last:Int}{nodes:List Node}{d a:Nat}{lv:Int}{lo hi:Option Entry}{mt:List Int}{z:Nat}{m':List Int}(h:wk s order last nodes d a lv lo hi mt=.inr (z,m'))(h0:a≠0): ∃x,nodes[a]? =some x/\x.Level=lv:=by
 cases d with
 |zero=>cases h
 |succ d=>
  simp only[wk]at h
  split at h
  .cases h
  .rename_i x hx
   split at h
   .cases h
   .rename_i met' hm
    refine⟨x,hx,?_⟩
    unfold rL at hm
    split at hm
    .rename_i hc
     simp only[g_3,zC,p_6,beq_iff_eq]at hc
     grind
    .cases hm
section
variable {p0 tr m:Nat} {s:az} {order last:Int} {nodes:List Node}
def Ip(p0 tr m:Nat)(s:az)(order last:Int)(nodes:List Node)(f:Nat->Option (Option Nat×Hp))(H:Hp)(a:Nat)(r:Nat⊕(Nat×List Int)):Prop:=
 match r with
 |.inl b=> ∃H' nx',Ev f (none,H')/\nD p0 tr m s order last nodes H' nx' (b:Nat)
 |.inr (z,met')=> ∃H' i lv bad',Ev f (some i,H')/\nD p0 tr m s order last nodes H' (z:Nat) bad'/\H'[m]? =some (gC met')/\HN H.length nodes H' lv a z i/\H.length<=H'.length/\(∀j,j≠p0->j≠m->j<H.length->H'[j]? =H[j]?)
def nD.frame(h:nD p0 tr m s order last nodes H nx bad)(hp:out≠p0)(hm:out≠m)(ht:out≠tr)(hf: ∀j,j≠out->H'[j]? =H[j]?):nD p0 tr m s order last nodes H' nx bad:=by
 obtain⟨r,c,h2⟩:=h.ht
 exact⟨by rw[hf _ (j_6 hp)];exact h.hp,⟨r,c,by rw[hf _ (j_6 ht)];exact h2⟩,by obtain⟨o,ho⟩:=h.hm;grind,h.n1,h.n2,h.n3⟩
set_option maxHeartbeats 1000000 in
theorem GI{d a out lvk:Nat}{x:Node}{low high:Option Entry}{q30:Hp×Nat}{j8:Int×Bool}{v38:(Option Entry)×(Option Entry)×Int×(List Entry)×(List Int)×Hp}{RC:Nat->Nat->Int->nz->Hp->Option ((Option Nat)×Hp)}
  (hN:Cq nodes) (hxm:x∈nodes) (hq:q30.2=out) (hj8:j8.1=x.Level) (hv:v38.2.2.2.2.1=x.Kids) (hk:x.Kids≠[]->x.Kids.length=x.Entries.length+1/\x.Level=((lvk+1:Nat):Int))
  (hlow:uh s low) (hhigh:uh s high) (hes: ∀e∈x.Entries,pQ s e=true) (op:p0<out) (om:m<out) (ot:tr<out)
  (hrc: ∀(nx:Nat) (level:Int) (lo hi:Option Entry) (met:List Int) (H:Hp) (bad:Int),a<nx->nx<nodes.length->0<=level->i64 level->uh s lo->uh s hi->nD p0 tr m s order last nodes H nx bad->H[m]? =some (gC met)->
   Ip p0 tr m s order last nodes (λn=>RC n p0 level ⟨lo,hi⟩ H) H nx (wk s order last nodes d nx level lo hi met)):
  ∀(ks:List Int) (i nx:Nat) (met:List Int) (H:Hp) (bad:Int) (is:List (Option Nat)),x.Kids.drop i=ks->i<=x.Kids.length->is.length=i->a<nx->nD p0 tr m s order last nodes H nx bad->H[m]? =some (gC met)->H[out]? =some (dT x.Entries is)->
   match qL nodes (wk s order last nodes d) a x low high ks i nx met with
   |.inl b=> ∃H' nx',mi (λn=>cE n (RC n) p0 (a:Int) x j8 q30 v38) (low,high,x.Level,x.Entries,x.Kids,(i:Int),H) (.inr (none,H'))/\nD p0 tr m s order last nodes H' nx' (b:Nat)
   |.inr (z,met')=> ∃H' is' bad',mi (λn=>cE n (RC n) p0 (a:Int) x j8 q30 v38) (low,high,x.Level,x.Entries,x.Kids,(i:Int),H) (.inl H')/\nD p0 tr m s order last nodes H' (z:Nat) bad'/\H'[m]? =some (gC met')/\
     H'[out]? =some (dT x.Entries (is++is'))/\zn (HN (out+1) nodes H' lvk) ks is' nx z/\H.length<=H'.length/\(∀j,j≠p0->j≠m->j≠out->j<H.length->H'[j]? =H[j]?)
 |[],i,nx,met,H,bad,is,hd,hi,hl,ha,h,hm,ho=>by
  have hik:x.Kids.length<=i:=by simpa using hd
  simp only[qL]
  refine⟨H,[],bad,.stop ?_,h,hm,by simpa using ho,rfl,h_0 _,λ_ _ _ _ _=>rfl⟩
  unfold cE
  rw[hv]
  exact .f (oY hik) (.pure _)
 |k::ks,i,nx,met,H,bad,is,hd,hi,hl,ha,h,hm,ho=>by
  have hik:i<x.Kids.length:=by
   grind
  have hek:x.Kids[i]=k:=by rw[aZ hik]at hd;exact(j_1 hd).1
  have hdl:x.Kids.drop (i+1)=ks:=by rw[aZ hik]at hd;exact(j_1 hd).2
  have hne:x.Kids≠[]:=by intro e;rw[e]at hik;simp at hik
  obtain⟨hk1,hk2⟩:=hk hne
  obtain⟨b1,b2,b3,b4⟩:=hN.2 x hxm
  have hN1:=hN.1
  simp only[qL]
  by_cases hc:k=(nx:Int)/\nx<nodes.length
  .rw[if_pos hc]
   have hlo:uh s (qn x low i):=by
    unfold qn
    split
    .intro e he
     grind
    .exact hlow
   have hhi:uh s (j9 x high i):=by
    unfold j9
    split
    .intro e he
     grind
    .exact hhigh
   have R:=hrc nx (x.Level - 1) (qn x low i) (j9 x high i) met H bad ha hc.2 ω (by unfold i64 at *;omega) hlo hhi h hm
   have step: ∀{r o},Ev (λn=>RC n p0 (x.Level - 1) ⟨qn x low i,j9 x high i⟩ H) r->
     Ev (λn=>Option.elim r.1 (some (.inr (.inr (none,r.2)))) (λi53=>
       (dQ 1 cP r.2 q30.2 1).bind λq54=>
       ff (decide ((q54.1++[(some i53)]).length<=room))<|
       (dh 1 cP q54.2 q30.2 1 (q54.1++[(some i53)])).bind λH55=>
       some (.inl (low,high,x.Level,x.Entries,x.Kids,((i+1:Nat):Int),H55)))) o->
     Ev (λn=>cE n (RC n) p0 (a:Int) x j8 q30 v38 (low,high,x.Level,x.Entries,x.Kids,(i:Int),H)) o:=by
    intro r o hr hE
    unfold cE
    rw[hv,hj8]
    refine .t (gu hik)<|.ae (aH hik)<|.bz ?_
    rw[hek]
    refine .ae h.M0<|.f (by simp[hc.1])<|.ae h.ji<|.f χ<|.bz ?_
    have tail: ∀{lo:Option Entry},lo=qn x low i->Ev (λn=>bz (λ(j49:Option Entry)=>
      (RC n p0 (IntKind.wrap .i64 (x.Level - 1)) (⟨lo,j49⟩:nz) H).bind λr52=>
      (Option.elim r52.1
       (some (.inr (.inr (none,r52.2))))
      (λi53=>
       (dQ 1 cP r52.2 q30.2 1).bind λq54=>
       ff (decide ((q54.1++[(some i53)]).length<=room))<|
       (dh 1 cP q54.2 q30.2 1 (q54.1++[(some i53)])).bind λH55=>
       some (.inl (low,high,x.Level,x.Entries,x.Kids,(IntKind.wrap .i64 ((i:Int)+1)),H55))))) λjp50=>
     bif (decide ((i:Int)<(x.Entries.length:Int)))then
      (idx x.Entries (i:Int)).bind λx51=>
      jp50 (some x51)
     else
      jp50 high) o:=by
     rintro lo rfl
     rw[eC ω,eo (x:=x.Level - 1) (by unfold i64 at b3;omega) (by unfold i64 at b3;omega)]
     refine .bz ?_
     by_cases hx:i<x.Entries.length
     .refine .t (gu hx)<|.ae (aH hx) ?_
      have e:j9 x high i=some x.Entries[i]:=by unfold j9;grind
      rw[e]at hr
      exact .bind hr hE
     .refine .f (oY ω) ?_
      have e:j9 x high i=high:=by unfold j9;rw[if_neg hx]
      rw[e]at hr
      exact .bind hr hE
    by_cases h0:0<i
    .have hj:i - 1<x.Entries.length:=by omega
     have hix:idx x.Entries (IntKind.wrap .i64 ((i:Int) - 1))=some x.Entries[i - 1]:=by
      rw[eo ω ω,show(i:Int) - 1=((i - 1:Nat):Int)by omega];exact aH hj
     exact .t χ<|.ae hix<|tail (by unfold qn;grind)
    .exact .f χ<|tail (by unfold qn;rw[if_neg h0])
   cases hw:wk s order last nodes d nx (x.Level - 1) (qn x low i) (j9 x high i) met with
   |inl b=>
    rw[hw]at R
    obtain⟨H',nx',R1,R2⟩:=R
    exact⟨H',nx',.stop (step R1 (.pure _)),R2⟩
   |inr q=>
    obtain⟨z,met'⟩:=q
    rw[hw]at R
    obtain⟨H1,i1,lv1,bad1,R1,R2,R3,R4,R5,R6⟩:=R
    have hlt:nx<z:=M9 hw
    have hol:out<H.length:=(g_5.1 ho).1
    have ho1:H1[out]? =some (dT x.Entries is):=by grind
    have hlv:lv1=lvk:=by
     obtain⟨y,y1,y2⟩:=Na hw ω
     have: ∃y',nodes[nx]? =some y'/\y'.Level=(lv1:Int):=by
      cases lv1 with
      |zero=>obtain⟨y',g1,g2,-⟩:=R4;grind
      |succ n=>obtain⟨y',-,g1,g2,-⟩:=R4;exact⟨y',g1,g2⟩
     grind
    subst hlv
    let H2:Hp:=H1.set out (dT x.Entries (is++[some i1]))
    have hf2: ∀j,j≠out->H2[j]? =H1[j]? :=λj hj=>jt hj
    have l2:H2.length=H1.length:=k_6
    have T:Ev (λn=>cE n (RC n) p0 (a:Int) x j8 q30 v38 (low,high,x.Level,x.Entries,x.Kids,(i:Int),H)) (.inl (low,high,x.Level,x.Entries,x.Kids,((i+1:Nat):Int),H2)):=by
     refine step R1 ?_
     simp only[Option.elim,hq]
     have ht:dQ 1 cP H1 out 1=some (is,H1.set out (.cells [.own 3 (List.map ab x.Entries),.undef])):=oT ho1 rfl
     have hg:dh 1 cP (H1.set out (.cells [.own 3 (List.map ab x.Entries),.undef])) out 1 (is++[some i1])=some H2:=by
      rw[jG (dU ho1) ψ]
      rw[m_9]
      rfl
     exact .ae ht<|.ff (by simp[room];omega)<|.ae hg (.pure _)
    have IH:=GI hN hxm hq hj8 hv hk hlow hhigh hes op om ot hrc ks (i+1) z met' H2 bad1 (is++[some i1]) hdl ω (by simp[hl]) ω (R2.frame ω ω ω hf2) (by rw[hf2 m ω];exact R3) (dU ho1)
    simp only
    cases hw2:qL nodes (wk s order last nodes d) a x low high ks (i+1) z met' with
    |inl b=>
     rw[hw2]at IH
     obtain⟨H',nx',I1,I2⟩:=IH
     exact⟨H',nx',.next T I1,I2⟩
    |inr q=>
     obtain⟨z',met2⟩:=q
     rw[hw2]at IH
     obtain⟨H',is',bad',I1,I2,I3,I4,I5,I6,I7⟩:=IH
     refine⟨H',some i1::is',bad',.next T I1,I2,I3,by simpa using I4,⟨hc.1,z,?_,I5⟩,ω,λj j1 j2 j3 j4=>?_⟩
     .have g1:HN (out+1) nodes H1 lv1 nx z i1:=R4.base ω
      refine g1.frame λj j1 j2=>?_
      grind
     grind
  .rw[if_neg hc]
   simp only
   have vm:=h.En (a:Int)
   refine⟨H.set p0 (FF tr m nodes nx (a:Int)),nx,.stop ?_,h.put _ _⟩
   unfold cE
   rw[hv]
   refine .t (gu hik)<|.ae (aH hik)<|.bz ?_
   rw[hek]
   refine .ae h.M0 ?_
   by_cases hkn:k=(nx:Int)
   .exact .f (by simp[hkn])<|.ae h.ji<|.t χ<|.ae vm (.pure _)
   .exact .t (by simp[hkn])<|.t rfl<|.ae vm (.pure _)
end
set_option maxRecDepth 100000
def nK(fuel:Nat)(rc:Nat->Int->nz->Hp->Option ((Option Nat)×Hp))(p0:Nat)(x1:Int)(p2:nz)(x7:Node)(H5:Hp)(j8:Int×Bool):Option ((Option Nat)×Hp):=
 bz (λ(j10:Int)=>
  bz (λ(j12:Bool×Hp)=>
   bif j12.1 then
    (ee (cI .i64) j12.2 p0 4 x1).bind λH15=>
    some (none,H15)
   else
    bz (λ(j16:(Option Entry)×(Option Entry))=>
     (nv j12.2 (.cells [.own 3 (List.map ab ([]:List Entry)),.own 1 (List.map cP.enc ([]:List (Option Nat)))])).bind λq30=>
     (iter (et fuel x7 q30) fuel (j16.1,j16.2,x7.Level,x7.Entries,x7.Kids,0,q30.1)).bind λv38=>
     (iter (cE fuel rc p0 x1 x7 j8 q30 v38) fuel (v38.1,v38.2.1,v38.2.2.1,v38.2.2.2.1,v38.2.2.2.2.1,0,v38.2.2.2.2.2)).bind (Sum.elim (λv57=>
      some ((some q30.2),v57)) (λr58=>
      some r58))) λjp17=>
    bif (decide ((x7.Entries.length:Int)>0))then
     (Option.elim p2.low
      ((Option.elim p2.high
       (jp17 (none,none))
      (λx19=>
       (idx x7.Entries (IntKind.wrap .i64 ((x7.Entries.length:Int) - 1))).bind λx20=>
       (cW fuel p0 x20 x19 j12.2).bind λr21=>
       bif (!r21)then
        (ee (cI .i64) j12.2 p0 4 x1).bind λH22=>
        some (none,H22)
       else
        jp17 (none,(some x19)))))
     (λx18=>
      (idx x7.Entries 0).bind λx23=>
      (cW fuel p0 x18 x23 j12.2).bind λr24=>
      bif (!r24)then
       (ee (cI .i64) j12.2 p0 4 x1).bind λH25=>
       some (none,H25)
      else
       (Option.elim p2.high
        (jp17 ((some x18),none))
       (λx26=>
        (idx x7.Entries (IntKind.wrap .i64 ((x7.Entries.length:Int) - 1))).bind λx27=>
        (cW fuel p0 x27 x26 j12.2).bind λr28=>
        bif (!r28)then
         (ee (cI .i64) j12.2 p0 4 x1).bind λH29=>
         some (none,H29)
        else
         jp17 ((some x18),(some x26))))))
    else
     jp17 (p2.low,p2.high)) λjp13=>
  (dH fuel p0 x7 j8.2 p2 H5).bind λr14=>
  bif (((!r14.1)||(decide (x7.Level<0)))||(x7.Level !=j8.1))then
   jp13 (true,r14.2)
  else
   jp13 ((((x7.Kids.length:Int) !=j10)||(j10==1)),r14.2)) λjp11=>
 bif (decide (x7.Level>0))then
  jp11 (IntKind.wrap .i64 ((x7.Entries.length:Int)+1))
 else
  jp11 0
def nM(fuel:Nat)(rc:Nat->Int->nz->Hp->Option ((Option Nat)×Hp))(p0:Nat)(x1:Int)(p2:nz)(x7:Node)(j8:Int×Bool)(j12:Bool×Hp):Option ((Option Nat)×Hp):=
 bif j12.1 then
  (ee (cI .i64) j12.2 p0 4 x1).bind λH15=>
  some (none,H15)
 else
  bz (λ(j16:(Option Entry)×(Option Entry))=>
   (nv j12.2 (.cells [.own 3 (List.map ab ([]:List Entry)),.own 1 (List.map cP.enc ([]:List (Option Nat)))])).bind λq30=>
   (iter (et fuel x7 q30) fuel (j16.1,j16.2,x7.Level,x7.Entries,x7.Kids,0,q30.1)).bind λv38=>
   (iter (cE fuel rc p0 x1 x7 j8 q30 v38) fuel (v38.1,v38.2.1,v38.2.2.1,v38.2.2.2.1,v38.2.2.2.2.1,0,v38.2.2.2.2.2)).bind (Sum.elim (λv57=>
    some ((some q30.2),v57)) (λr58=>
    some r58))) λjp17=>
  bif (decide ((x7.Entries.length:Int)>0))then
   (Option.elim p2.low
    ((Option.elim p2.high
     (jp17 (none,none))
    (λx19=>
     (idx x7.Entries (IntKind.wrap .i64 ((x7.Entries.length:Int) - 1))).bind λx20=>
     (cW fuel p0 x20 x19 j12.2).bind λr21=>
     bif (!r21)then
      (ee (cI .i64) j12.2 p0 4 x1).bind λH22=>
      some (none,H22)
     else
      jp17 (none,(some x19)))))
   (λx18=>
    (idx x7.Entries 0).bind λx23=>
    (cW fuel p0 x18 x23 j12.2).bind λr24=>
    bif (!r24)then
     (ee (cI .i64) j12.2 p0 4 x1).bind λH25=>
     some (none,H25)
    else
     (Option.elim p2.high
      (jp17 ((some x18),none))
     (λx26=>
      (idx x7.Entries (IntKind.wrap .i64 ((x7.Entries.length:Int) - 1))).bind λx27=>
      (cW fuel p0 x27 x26 j12.2).bind λr28=>
      bif (!r28)then
       (ee (cI .i64) j12.2 p0 4 x1).bind λH29=>
       some (none,H29)
      else
       jp17 ((some x18),(some x26))))))
  else
   jp17 (p2.low,p2.high)
def nT(fuel:Nat)(rc:Nat->Int->nz->Hp->Option ((Option Nat)×Hp))(p0:Nat)(x1:Int)(x7:Node)(j8:Int×Bool)(j12:Bool×Hp)(j16:(Option Entry)×(Option Entry)):Option ((Option Nat)×Hp):=
 (nv j12.2 (.cells [.own 3 (List.map ab ([]:List Entry)),.own 1 (List.map cP.enc ([]:List (Option Nat)))])).bind λq30=>
 (iter (et fuel x7 q30) fuel (j16.1,j16.2,x7.Level,x7.Entries,x7.Kids,0,q30.1)).bind λv38=>
 (iter (cE fuel rc p0 x1 x7 j8 q30 v38) fuel (v38.1,v38.2.1,v38.2.2.1,v38.2.2.2.1,v38.2.2.2.2.1,0,v38.2.2.2.2.2)).bind (Sum.elim (λv57=>
  some ((some q30.2),v57)) (λr58=>
  some r58))
def KZ(f:Nat)(h:r.length<1000):dx f r=some r:=by
 unfold dx
 cases r with
 |nil=>rfl
 |cons a l=>
  show Go.Sh.ff (decide ((([]:List Value)++a::l).length<=room)) (some ([]++a::l))=_
  rw[show decide ((([]:List Value)++a::l).length<=room)=true by
   rw[decide_eq_true_eq]
   have:(a::l).length<1000:=h
   simp only[m_5,room]
   omega]
  rfl
def IY(e:Entry)(h:e.Row.length<1000):Ev (λf=>Ap f e) e:=by
 unfold Ap
 exact .bind (.of λn=>KZ n h) (.pure _)
def Ev.rF{α β:Type}{f:Nat->Option β}{g:Nat->α->Option β}{r:β}(h:Ev f r):Ev (λn=>Option.elim none (f n) (g n)) r:=h
def Ev.mw{α β:Type}{f:Nat->Option β}{g:Nat->α->Option β}{a:α}{r:β}(h:Ev (λn=>g n a) r):Ev (λn=>Option.elim (some a) (f n) (g n)) r:=h
def sn{s:az}{last:Int}: ∀{l:List Entry} {met met':List Int},qh s last met l=some met'-> ∀e∈l,pQ s e=true
 |e::l,met,met',h,e',he=>by
  simp only[qh]at h
  split at h
  .rename_i hf
   rcases h_8.1 he with rfl|he
   .exact(GX hf).1
   .exact sn h e' he
  .cases h
section
variable {p0 tr m:Nat} {s:az} {order last:Int} {nodes:List Node}
def G7(hq:q30.2=out)(hl:x.Entries.length<1000)(hr: ∀e∈x.Entries,e.Row.length<1000):
  ∀(l:List Entry) (k:Nat) (pre:List Entry),x.Entries.drop k=l->pre=x.Entries.take k->k<=x.Entries.length->H[out]? =some (dT pre [])->
   mi (λf=>et f x q30) (lo,hi,x.Level,x.Entries,x.Kids,(k:Int),H) (lo,hi,x.Level,x.Entries,x.Kids,H.set out (dT x.Entries []))
 |[],k,pre,hd,hp,hk,ho=>by
  have hk2:x.Entries.length<=k:=by simpa using hd
  refine .stop ?_
  unfold et
  have:H.set out (dT x.Entries [])=H:=by
   rw[hp,p_1 hk2]at ho
   apply m_6
   grind
  rw[this]
  exact .f (oY hk2) (.pure _)
 |e::l,k,pre,hd,hp,hk,ho=>by
  have hk:k<x.Entries.length:=by
   grind
  have hek:x.Entries[k]=e:=by rw[aZ hk]at hd;exact(j_1 hd).1
  have hdl:x.Entries.drop (k+1)=l:=by rw[aZ hk]at hd;exact(j_1 hd).2
  have he:=hr e (hek▸j_0 hk)
  have ih:=G7 (lo:=lo) (hi:=hi) (H:=H.set out (dT (pre++[e]) [])) hq hl hr l (k+1) (pre++[e]) hdl φ ω (dU ho)
  rw[m_9]at ih
  refine .next ?_ ih
  unfold et
  refine .t (gu hk)<|.ae (aH hk) ?_
  rw[hek,hq]
  have ht:dQ 3 aP H out 0=some (pre,H.set out (.cells [.undef,.own 1 []])):=oT ho rfl
  have hg:dh 3 aP (H.set out (.cells [.undef,.own 1 []])) out 0 (pre++[e])=some (H.set out (dT (pre++[e]) [])):=by
   rw[jG (dU ho) ψ,m_9];rfl
  refine .ae ht<|.bind (IY e he)<|.ff (by simp[room,hp];omega)<|.ae hg ?_
  rw[eC ω]
  exact .pure _
def Ez(h:rL s order last root level low high met x=some met'):
  zG order root x=true/\zC root level x=true/\Bp x=true/\Fa s none x.Entries=true/\rj s low high x=true/\qh s last met x.Entries=some met':=by
 unfold rL at h
 grind
def E9(h:j<H.length):(H++[o])[j]? =H[j]? :=h_6 h
def Ld:(H++[o])[H.length]? =some o:=by simp
def nD.lt(h:nD p0 tr m s order last nodes H nx bad):p0<H.length/\tr<H.length/\m<H.length:=by
 obtain⟨r,c,ht⟩:=h.ht
 obtain⟨o,ho⟩:=h.hm
 exact⟨(g_5.1 h.hp).1,(g_5.1 ht).1,(g_5.1 ho).1⟩
def TF{RC:Nat->Nat->Int->nz->Hp->Option ((Option Nat)×Hp)}
  (hN:Cq nodes) (hx:nodes[a]? =some x) (ho:rL s order last root level low high met x=some met') (hlev:FE=x.Level) (hlow:uh s low) (hhigh:uh s high)
  (h:nD p0 tr m s order last nodes H ((a+1:Nat):Int) bad) (hm:H[m]? =some (gC met'))
  (hrc: ∀(nx:Nat) (level:Int) (lo hi:Option Entry) (met:List Int) (H:Hp) (bad:Int),a<nx->nx<nodes.length->0<=level->i64 level->uh s lo->uh s hi->nD p0 tr m s order last nodes H nx bad->H[m]? =some (gC met)->
   Ip p0 tr m s order last nodes (λn=>RC n p0 level ⟨lo,hi⟩ H) H nx (wk s order last nodes d nx level lo hi met)):
  Ip p0 tr m s order last nodes (λn=>nT n (RC n) p0 (a:Int) x (FE,root) (b0,H) (low,high)) H a (qL nodes (wk s order last nodes d) a x low high x.Kids 0 (a+1) met'):=by
 obtain⟨c1,c2,c3,c4,c5,c6⟩:=Ez ho
 have hxm:x∈nodes:=k_2 hx
 obtain⟨b1,b2,b3,b4⟩:=hN.2 x hxm
 obtain⟨l1,l2,l3⟩:=h.lt
 have hes:=sn c6
 simp only[zC,g_3,decide_eq_true_eq]at c2
 simp only[Bp,g_3,beq_iff_eq]at c3
 have hk:x.Kids≠[]->x.Kids.length=x.Entries.length+1/\x.Level=(((x.Level - 1).toNat+1:Nat):Int):=by
  grind
 let H1:Hp:=H++[dT [] []]
 have g1:nD p0 tr m s order last nodes H1 ((a+1:Nat):Int) bad:=by
  obtain⟨r,c,ht⟩:=h.ht
  exact⟨by rw[E9 l1];exact h.hp,⟨r,c,by rw[E9 l2];exact ht⟩,⟨_,by rw[E9 l3];exact hm⟩,h.n1,h.n2,h.n3⟩
 have xU:H1[H.length]? =some (dT [] []):=Ld
 let H2:Hp:=H1.set H.length (dT x.Entries [])
 have g2:nD p0 tr m s order last nodes H2 ((a+1:Nat):Int) bad:=g1.frame ω ω ω λj hj=>jt hj
 have hl2:H2.length=H.length+1:=by simp[H2,H1]
 have hm2:H2[m]? =some (gC met'):=by
  grind
 have hold: ∀j,j<H.length->H2[j]? =H[j]? :=λj hj=>by
  grind
 have E1:=G7 (x:=x) (q30:=(H1,H.length)) (lo:=low) (hi:=high) (H:=H1) rfl b1 (λe he=>(b4 e he).1) x.Entries 0 [] rfl rfl ω xU
 have K:=GI (d:=d) (a:=a) (out:=H.length) (lvk:=(x.Level - 1).toNat) (x:=x) (low:=low) (high:=high) (q30:=(H1,H.length)) (j8:=(FE,root)) (v38:=(low,high,x.Level,x.Entries,x.Kids,H2)) (RC:=RC)
  hN hxm rfl hlev rfl hk hlow hhigh hes l1 l3 l2 hrc x.Kids 0 (a+1) met' H2 bad [] rfl ω rfl ω g2 hm2 (dU xU)
 cases hw:qL nodes (wk s order last nodes d) a x low high x.Kids 0 (a+1) met' with
 |inl b=>
  rw[hw]at K
  obtain⟨H',nx',K1,K2⟩:=K
  refine⟨H',nx',?_,K2⟩
  unfold nT
  exact .ae rfl<|.bind E1.ev<|.bind K1.ev (.pure _)
 |inr q=>
  obtain⟨z,met2⟩:=q
  rw[hw]at K
  obtain⟨H',is',bad',K1,K2,K3,K4,K5,K6,K7⟩:=K
  refine⟨H',H.length,x.Level.toNat,bad',?_,K2,K3,?_,ω,λj j1 j2 j3=>?_⟩
  .unfold nT
   exact .ae rfl<|.bind E1.ev<|.bind K1.ev (.pure _)
  .by_cases hz:x.Kids=[]
   .have h1:=c3.1
    rw[hz]at h1 K5
    have hlz:x.Level=0:=by
     grind
    rw[hlz]
    have:is'=[]/\a+1=z:=by
     cases is' with
     |nil=>exact⟨rfl,K5⟩
     |cons i is=>cases i<;>exact K5.elim
    obtain⟨rfl,hz2⟩:=this
    exact⟨x,hx,hlz,hz,by simpa using K4,hz2.symm,h_0 _⟩
   .obtain⟨h1,h2⟩:=hk hz
    rw[h2]
    exact⟨x,is',hx,h2,h1,by simpa using K4,h_0 _,K5.mono λ_ _ _ hp=>hp.base ω⟩
  grind
end
set_option maxRecDepth 100000
section
variable {p0 tr m:Nat} {s:az} {order last:Int} {nodes:List Node}
def TG{RC:Nat->Nat->Int->nz->Hp->Option ((Option Nat)×Hp)}
  (hs:qI s=true) (hl:x.Entries.length<1000) (hes: ∀e∈x.Entries,pQ s e=true/\i64 e.Number) (hlow:uh s low) (hhigh:uh s high) (h:nD p0 tr m s order last nodes H nx bad):
  (rj s low high x=true-> ∀r,Ev (λn=>nT n (RC n) p0 (a:Int) x j8 (false,H) (low,high)) r->Ev (λn=>nM n (RC n) p0 (a:Int) ⟨low,high⟩ x j8 (false,H)) r)/\
  (rj s low high x=false->Ev (λn=>nM n (RC n) p0 (a:Int) ⟨low,high⟩ x j8 (false,H)) (none,H.set p0 (FF tr m nodes nx (a:Int)))):=by
 have vm:=h.En (a:Int)
 by_cases h0:0<x.Entries.length
 .have hf:x.Entries.head? =some x.Entries[0]:=by rw[List.head?_eq_getElem?,g_6 h0]
  have hL:x.Entries.getLast? =some x.Entries[x.Entries.length - 1]:=by grind
  have e0:=hes _ (j_0 h0)
  have eL:=hes _ (j_0 (show x.Entries.length - 1<x.Entries.length by omega))
  have i0:idx x.Entries 0=some x.Entries[0]:=aH (k:=0) h0
  have iL:idx x.Entries (IntKind.wrap .i64 ((x.Entries.length:Int) - 1))=some x.Entries[x.Entries.length - 1]:=by
   rw[eo ω ω,show(x.Entries.length:Int) - 1=((x.Entries.length - 1:Nat):Int)by omega]
   exact aH _
  have hn:decide ((x.Entries.length:Int)>0)=true:=by simp;omega
  cases low with
  |none=>
   cases high with
   |none=>
    refine⟨λ_ r hE=>?_,λhb=>by simp[rj]at hb⟩
    unfold nM
    exact .f rfl<|.bz<|.t hn<|.rF<|.rF hE
   |some hi=>
    have hh:=hhigh hi rfl
    have A:=BT hs h eL.1 hh.1 eL.2 hh.2
    refine⟨λhb r hE=>?_,λhb=>?_⟩
    .simp only[rj,hL,j_8]at hb
     unfold nM
     exact .f rfl<|.bz<|.t hn<|.rF<|.mw<|.ae iL<|.bind A<|.f (by simp[hb]) hE
    .simp only[rj,hL,j_8]at hb
     unfold nM
     exact .f rfl<|.bz<|.t hn<|.rF<|.mw<|.ae iL<|.bind A<|.t (by simp[hb])<|.ae vm (.pure _)
  |some lo=>
   have hw:=hlow lo rfl
   have B:=BT hs h hw.1 e0.1 hw.2 e0.2
   cases high with
   |none=>
    refine⟨λhb r hE=>?_,λhb=>?_⟩
    .simp only[rj,hf,Bool.and_true]at hb
     unfold nM
     exact .f rfl<|.bz<|.t hn<|.mw<|.ae i0<|.bind B<|.f (by simp[hb])<|.rF hE
    .simp only[rj,hf,Bool.and_true]at hb
     unfold nM
     exact .f rfl<|.bz<|.t hn<|.mw<|.ae i0<|.bind B<|.t (by simp[hb])<|.ae vm (.pure _)
   |some hi=>
    have hh:=hhigh hi rfl
    have A:=BT hs h eL.1 hh.1 eL.2 hh.2
    refine⟨λhb r hE=>?_,λhb=>?_⟩
    .simp only[rj,hf,hL,g_3]at hb
     unfold nM
     exact .f rfl<|.bz<|.t hn<|.mw<|.ae i0<|.bind B<|.f (by simp[hb.1])<|.mw<|.ae iL<|.bind A<|.f (by simp[hb.2]) hE
    .simp only[rj,hf,hL,Bool.and_eq_false_iff]at hb
     unfold nM
     cases hB:uj s lo x.Entries[0]with
     |false=>exact .f rfl<|.bz<|.t hn<|.mw<|.ae i0<|.bind B<|.t (by simp[hB])<|.ae vm (.pure _)
     |true=>
      rcases hb with hb|hb
      .rw[hB]at hb;cases hb
      .exact .f rfl<|.bz<|.t hn<|.mw<|.ae i0<|.bind B<|.f (by simp[hB])<|.mw<|.ae iL<|.bind A<|.t (by simp[hb])<|.ae vm (.pure _)
 .have he:x.Entries=[]:=q_3.1 ω
  refine⟨λ_ r hE=>?_,λhb=>?_⟩
  .unfold nM
   exact .f rfl<|.bz<|.f χ hE
  .have:rj s low high x=true:=by
    unfold rj
    grind
   rw[this]at hb;cases hb
def TH{RC:Nat->Nat->Int->nz->Hp->Option ((Option Nat)×Hp)}
  (hs:qI s=true) (h3:3<=order) (h32:order<=32) (hN:Cq nodes) (hx:nodes[a]? =some x) (hlev:FE=if root then x.Level else level) (hlow:uh s low) (hhigh:uh s high)
  (h:nD p0 tr m s order last nodes H ((a+1:Nat):Int) bad) (hm:H[m]? =some (gC met))
  (hrc: ∀(nx:Nat) (level:Int) (lo hi:Option Entry) (met:List Int) (H:Hp) (bad:Int),a<nx->nx<nodes.length->0<=level->i64 level->uh s lo->uh s hi->nD p0 tr m s order last nodes H nx bad->H[m]? =some (gC met)->
   Ip p0 tr m s order last nodes (λn=>RC n p0 level ⟨lo,hi⟩ H) H nx (wk s order last nodes d nx level lo hi met)):
  Ip p0 tr m s order last nodes (λn=>nK n (RC n) p0 (a:Int) ⟨low,high⟩ x H (FE,root)) H a
   (match rL s order last root level low high met x with
   |none=>.inl a
   |some met'=>qL nodes (wk s order last nodes d) a x low high x.Kids 0 (a+1) met'):=by
 have hxm:x∈nodes:=k_2 hx
 obtain⟨b1,b2,b3,b4⟩:=hN.2 x hxm
 obtain⟨l1,l2,l3⟩:=h.lt
 let kk:Int:=if 0<x.Level then(x.Entries.length:Int)+1 else 0
 have R:=Nv (root:=root) (inn:=⟨low,high⟩) hs h hm h3 h32 (x:=x) ω b4
 have pre: ∀{q:Bool} {met'':List Int} {r},Ev (λf=>dH f p0 x root ⟨low,high⟩ H) (q,H.set m (gC met''))->
   Ev (λn=>nM n (RC n) p0 (a:Int) ⟨low,high⟩ x (FE,root) ((!q||decide (x.Level<0))||x.Level !=FE||((x.Kids.length:Int) !=kk||kk==1),H.set m (gC met''))) r->Ev (λn=>nK n (RC n) p0 (a:Int) ⟨low,high⟩ x H (FE,root)) r:=by
  intro q met'' r hq hE
  unfold nK
  have tail: ∀{k:Int},k=kk->Ev (λn=>bz (λ(j12:Bool×Hp)=>nM n (RC n) p0 (a:Int) ⟨low,high⟩ x (FE,root) j12) λjp13=>
    (dH n p0 x root ⟨low,high⟩ H).bind λr14=>
    bif (((!r14.1)||(decide (x.Level<0)))||(x.Level !=FE))then
     jp13 (true,r14.2)
    else
     jp13 ((((x.Kids.length:Int) !=k)||(k==1)),r14.2)) r:=by
   rintro k rfl
   refine .bz<|.bind hq ?_
   grind
  by_cases hz:0<x.Level
  .exact .bz<|.t χ<|tail (by rw[eo ω ω];simp only[kk,if_pos hz])
  .exact .bz<|.f χ<|tail (by simp only[kk,if_neg hz])
 have badM: ∀{met''},Ev (λn=>nM n (RC n) p0 (a:Int) ⟨low,high⟩ x (FE,root) (true,H.set m (gC met''))) (none,(H.set m (gC met'')).set p0 (FF tr m nodes ((a+1:Nat):Int) (a:Int))):=by
  intro met''
  unfold nM
  exact .t rfl<|.ae ((h.map (gC met'')).En (a:Int)) (.pure _)
 have badR: ∀{met''},Ev (λn=>nK n (RC n) p0 (a:Int) ⟨low,high⟩ x H (FE,root)) (none,(H.set m (gC met'')).set p0 (FF tr m nodes ((a+1:Nat):Int) (a:Int)))->
   Ip p0 tr m s order last nodes (λn=>nK n (RC n) p0 (a:Int) ⟨low,high⟩ x H (FE,root)) H a (.inl a):=λhE=>⟨_,_,hE,(h.map (gC _)).put _ _⟩
 have hkk:((x.Kids.length:Int) !=kk||kk==1)=!Bp x:=by
  simp only[kk,Bp]
  by_cases hz:0<x.Level
  .rw[if_pos hz,if_pos hz]
   by_cases e1:x.Kids.length=x.Entries.length+1
   .grind
   grind
  .rw[if_neg hz,if_neg hz]
   by_cases e1:x.Kids.length=0
   .rw[e1];rfl
   grind
 have hlv:((decide (x.Level<0))||x.Level !=FE)=!zC root level x:=by
  simp only[zC]
  grind
 unfold rL
 cases hc1:zG order root x with
 |false=>
  rw[hc1]at R
  obtain⟨met'',R⟩:=R
  simp only[m_3,g_7,if_false]
  exact badR (pre R (by simp only[Bool.not_false,Bool.true_or];exact badM))
 |true=>
  rw[hc1]at R
  simp only[if_true,Nw]at R
  simp only[j_8]
  cases hc4:Fa s none x.Entries with
  |false=>
   rw[hc4]at R
   obtain⟨met'',R⟩:=R
   simp only[w_4,m_3,g_7,if_false]
   exact badR (pre R (by simp only[Bool.not_false,Bool.true_or];exact badM))
  |true=>
   rw[hc4]at R
   simp only[if_true]at R
   cases hc6:qh s last met x.Entries with
   |none=>
    rw[hc6]at R
    obtain⟨met'',R⟩:=R
    simp only[ite_self]
    exact badR (pre R (by simp only[Bool.not_false,Bool.true_or];exact badM))
   |some met'=>
    rw[hc6]at R
    have P:=λ{r}=>pre (r:=r) R
    simp only[Bool.not_true,Bool.false_or,hkk,hlv]at P
    cases hc2:zC root level x with
    |false=>
     grind
    |true=>
     cases hc3:Bp x with
     |false=>
      grind
     |true=>
      rw[hc2,hc3]at P
      have g:=h.map (gC met')
      have hes:=sn hc6
      obtain⟨M1,M2⟩:=TG (a:=a) (j8:=(FE,root)) (RC:=RC) hs b1 (λe he=>⟨hes e he,(b4 e he).2⟩) hlow hhigh g
      cases hc5:rj s low high x with
      |false=>
       grind
      |true=>
       simp only[Bool.and_true,if_true]
       have hok:rL s order last root level low high met x=some met':=by
        unfold rL;simp[hc1,hc2,hc3,hc4,hc5,hc6]
       have hlx:FE=x.Level:=by
        grind
       have T:=TF (root:=root) (b0:=false) hN hx hok hlx hlow hhigh g (dU hm) hrc
       have hlen:(H.set m (gC met')).length=H.length:=k_6
       cases hw:qL nodes (wk s order last nodes d) a x low high x.Kids 0 (a+1) met' with
       |inl b=>
        rw[hw]at T
        obtain⟨H',nx',T1,T2⟩:=T
        exact⟨H',nx',P (M1 hc5 _ T1),T2⟩
       |inr q=>
        obtain⟨z,met2⟩:=q
        rw[hw]at T
        obtain⟨H',i,lv,bad',T1,T2,T3,T4,T5,T6⟩:=T
        exact⟨H',i,lv,bad',P (M1 hc5 _ T1),T2,T3,by rw[hlen]at T4;exact T4,ω,λj j1 j2 j3=>by grind⟩
def Dr(hs:qI s=true)(h3:3<=order)(h32:order<=32)(hN:Cq nodes): ∀(d a:Nat) (level:Int) (low high:Option Entry) (met:List Int) (H:Hp) (bad:Int),
  a<nodes.length->nodes.length<=a+d->uh s low->uh s high->nD p0 tr m s order last nodes H (a:Nat) bad->H[m]? =some (gC met)->
   Ip p0 tr m s order last nodes (λn=>dZ n p0 level ⟨low,high⟩ H) H a (wk s order last nodes d a level low high met)
 |0,a,level,low,high,met,H,bad,ha,hd,_,_,_,_=>by omega
 |d+1,a,level,low,high,met,H,bad,ha,hd,hlow,hhigh,h,hm=>by
  have hx:nodes[a]? =some nodes[a]:=g_6 ha
  have hN1:=hN.1
  have g:nD p0 tr m s order last nodes (H.set p0 (FF tr m nodes ((a+1:Nat):Int) bad)) ((a+1:Nat):Int) bad:=h.put _ _
  have hm':(H.set p0 (FF tr m nodes ((a+1:Nat):Int) bad))[m]? =some (gC met):=by rw[jt (j_6 h.n1)];exact hm
  have vm:ee (cI .i64) H p0 2 ((a+1:Nat):Int)=some (H.set p0 (FF tr m nodes ((a+1:Nat):Int) bad)):=h.Tu _
  have K:=TH (d:=d) (a:=a) (root:=a==0) (level:=level) (low:=low) (high:=high) (FE:=if(a==0)=true then nodes[a].Level else level) (RC:=λn=>dZ n) hs h3 h32 hN hx rfl hlow hhigh g hm'
   (λnx level lo hi met H bad h1 h2 _ _ h5 h6 h7 h8=>Dr hs h3 h32 hN d nx level lo hi met H bad h2 ω h5 h6 h7 h8)
  have hlen:(H.set p0 (FF tr m nodes ((a+1:Nat):Int) bad)).length=H.length:=k_6
  have go: ∀{r},Ev (λn=>nK n (dZ n) p0 (a:Int) ⟨low,high⟩ nodes[a] (H.set p0 (FF tr m nodes ((a+1:Nat):Int) bad)) (if(a==0)=true then nodes[a].Level else level,a==0)) r->
    Ev (λn=>dZ n p0 level ⟨low,high⟩ H) r:=by
   intro r hE
   refine m7 (g:=λn=>fQ n (dZ n) p0 level ⟨low,high⟩ H) (λn=>rfl) ?_
   unfold fQ
   refine .ae h.M0<|.ae h.ji<|.f χ<|.ae h.M0 ?_
   rw[eC ω]
   refine .ae vm<|.ae g.ji<|.ae (aH ha)<|.bz ?_
   by_cases h0:a=0
   .subst h0;exact .t rfl hE
   .refine .f (by simp[h0]) ?_
    rw[show(a==0)=false by simpa using h0]at hE
    exact hE
  have hwk:wk s order last nodes (d+1) a level low high met=(match rL s order last (a==0) level low high met nodes[a]with
   |none=>.inl a
   |some met'=>qL nodes (wk s order last nodes d) a nodes[a] low high nodes[a].Kids 0 (a+1) met'):=by
   show(match nodes[a]? with|none=>Sum.inl a|some x=>match rL s order last (a==0) level low high met x with|none=>Sum.inl a|some met'=>qL nodes (wk s order last nodes d) a x low high x.Kids 0 (a+1) met')=_
   rw[hx]
  have K':Ip p0 tr m s order last nodes (λn=>nK n (dZ n) p0 (a:Int) ⟨low,high⟩ nodes[a] (H.set p0 (FF tr m nodes ((a+1:Nat):Int) bad)) (if(a==0)=true then nodes[a].Level else level,a==0)) (H.set p0 (FF tr m nodes ((a+1:Nat):Int) bad)) a (wk s order last nodes (d+1) a level low high met):=by
   rw[hwk];exact K
  clear K hwk
  revert K'
  generalize wk s order last nodes (d+1) a level low high met=res
  intro K
  cases res with
  |inl b=>
   obtain⟨H',nx',K1,K2⟩:=K
   exact⟨H',nx',go K1,K2⟩
  |inr q=>
   obtain⟨z,met2⟩:=q
   obtain⟨H',i,lv,bad',K1,K2,K3,K4,K5,K6⟩:=K
   exact⟨H',i,lv,bad',go K1,K2,K3,by rw[hlen]at K4;exact K4,ω,λj j1 j2 j3=>by grind⟩
end
set_option maxRecDepth 100000
def iF(s:az)(order last:Int)(nodes:List Node)(nx:Int)(met:List Int)(bad:Int):aN:=
 .cells [.d (.list 1 (List.map (D.int .i64) s.aG)),.d (.list 1 (List.map D.bool s.Down)),.d (.int .i64 s.eD),.d (.int .i64 order),.d (.int .i64 last),.d (.list 3 (List.map cj nodes)),.d (.int .i64 nx),.own 1 (List.map (D.int .i64) met),.d (.int .i64 bad)]
section
variable {p0:Nat} {s:az} {order last:Int} {nodes:List Node} {H:Hp} {o:aN} (hH:H[p0]? =some o)
include hH
def oH:(H.set p0 (iF s order last nodes nx met bad))[p0]? =some (iF s order last nodes nx met bad):=dU hH
def Ai:bE dG.cells (H.set p0 (iF s order last nodes nx met bad)) p0 0=some s:=dj (r:=[.d (.int .i64 order),.d (.int .i64 last),.d (.list 3 (List.map cj nodes)),.d (.int .i64 nx),.own 1 (List.map (D.int .i64) met),.d (.int .i64 bad)]) (oH hH) rfl
def RW:bE (cI .i64).cell (H.set p0 (iF s order last nodes nx met bad)) p0 2=some s.eD:=dj (r:=[.d (.int .i64 order),.d (.int .i64 last),.d (.list 3 (List.map cj nodes)),.d (.int .i64 nx),.own 1 (List.map (D.int .i64) met),.d (.int .i64 bad)]) (oH hH) rfl
def IB:bE (cI .i64).cell (H.set p0 (iF s order last nodes nx met bad)) p0 3=some order:=dj (r:=[.d (.int .i64 last),.d (.list 3 (List.map cj nodes)),.d (.int .i64 nx),.own 1 (List.map (D.int .i64) met),.d (.int .i64 bad)]) (oH hH) rfl
def Nd:bE (cI .i64).cell (H.set p0 (iF s order last nodes nx met bad)) p0 4=some last:=dj (r:=[.d (.list 3 (List.map cj nodes)),.d (.int .i64 nx),.own 1 (List.map (D.int .i64) met),.d (.int .i64 bad)]) (oH hH) rfl
def IC:bL 3 BL (H.set p0 (iF s order last nodes nx met bad)) p0 5=some nodes:=wF (oH hH) rfl
def Aj:bE (cI .i64).cell (H.set p0 (iF s order last nodes nx met bad)) p0 6=some nx:=dj (r:=[.own 1 (List.map (D.int .i64) met),.d (.int .i64 bad)]) (oH hH) rfl
def xj:bL 1 (cI .i64) (H.set p0 (iF s order last nodes nx met bad)) p0 7=some met:=fv (oH hH) rfl
def RY:bE (cI .i64).cell (H.set p0 (iF s order last nodes nx met bad)) p0 8=some bad:=dj (r:=[]) (oH hH) rfl
def Nc:ee (cI .i64) (H.set p0 (iF s order last nodes nx met bad)) p0 6 b=some (H.set p0 (iF s order last nodes b met bad)):=by
 rw[gQ (oH hH) (by simp[cI,D.cells]),m_9];rfl
def Ly:ee (cI .i64) (H.set p0 (iF s order last nodes nx met bad)) p0 8 b=some (H.set p0 (iF s order last nodes nx met b)):=by
 rw[gQ (oH hH) (by simp[cI,D.cells]),m_9];rfl
def kj:Ev (λf=>bq f p0 b (H.set p0 (iF s order last nodes nx met bad))) (false,H.set p0 (iF s order last nodes nx met b)):=by
 unfold bq
 exact .ae (Ly hH) (.pure _)
def wP(hs:qI s=true)(ha:pQ s a=true)(hb:pQ s b=true):Ev (λf=>cF f p0 a b (H.set p0 (iF s order last nodes nx met bad))) (uj s a b):=by
 have fa:bR s.aG a.Row=true:=by simp only[pQ,g_3]at ha;exact ha.1.1
 have fb:bR s.aG b.Row=true:=by simp only[pQ,g_3]at hb;exact hb.1.1
 obtain⟨h8,hd⟩:=jT hs
 unfold cF uj
 refine .ae (Ai hH)<|.bind (vh hs fa fb) ?_
 cases hc:decide (cZ s a b<0)with
 |false=>exact .f rfl (.pure _)
 |true=>
  refine .t rfl<|.ae (RW hH) ?_
  cases hd1:s.eD !=1 with
  |true=>exact .t rfl (.pure _)
  |false=>
   refine .f rfl<|.ae (Ai hH)<|.bind (Gn s hd fa fb h8) ?_
   have:(tG (dN s.Down a.Row b.Row) !=0)=(dN s.Down a.Row b.Row !=0):=by
    by_cases hz:dN s.Down a.Row b.Row=0
    .rw[hz];rfl
    .have:tG (dN s.Down a.Row b.Row)≠0:=λe=>hz ((qb _).1 e)
     grind
   rw[this]
   exact .pure _
def Kt(hl:met.length<100000000): ∀(l:List Int) (k:Nat),met.drop k=l->k<=met.length->
  mi (λf=>fq f p0 (a:Int) e) ((k:Int),H.set p0 (iF s order last nodes nx met bad)) (if l.contains e.Number then .inr (false,H.set p0 (iF s order last nodes nx met (a:Int)))else .inl (H.set p0 (iF s order last nodes nx met bad)))
 |[],k,hd,hk=>by
  have hk2:met.length<=k:=by simpa using hd
  refine .stop ?_
  unfold fq
  exact .ae (xj hH)<|.f (oY hk2) (.pure _)
 |n::l,k,hd,hk=>by
  have hk1:k<met.length:=by
   grind
  have hek:met[k]=n:=by rw[aZ hk1]at hd;exact(j_1 hd).1
  have hdl:met.drop (k+1)=l:=by rw[aZ hk1]at hd;exact(j_1 hd).2
  have ih:=Kt (nx:=nx) (bad:=bad) (a:=a) (e:=e) hl l (k+1) hdl ω
  rw[List.contains_cons]
  by_cases hc:n=e.Number
  .rw[show(e.Number==n)=true by simp[hc],Bool.true_or,if_pos rfl]
   refine .stop ?_
   unfold fq
   refine .ae (xj hH)<|.t (gu hk1)<|.ae (xj hH)<|.ae (aH hk1) ?_
   rw[hek]
   exact .t (by simp[hc])<|.bind (kj hH) (.pure _)
  .rw[show(e.Number==n)=false by simp;exactλh=>hc h.symm,Bool.false_or]
   refine .next ?_ ih
   unfold fq
   refine .ae (xj hH)<|.t (gu hk1)<|.ae (xj hH)<|.ae (aH hk1) ?_
   rw[hek,eC ω]
   exact .f (by simp[hc]) (.pure _)
def G5(hs:qI s=true){nx bad:Int}{a:Nat}{x:Node}(hl:x.Entries.length<1000)(hr: ∀e∈x.Entries,e.Row.length<1000): ∀(l:List Entry) (k:Nat) (met:List Int),x.Entries.drop k=l->k<=x.Entries.length->met.length+l.length<10000000->
  match qh s last met l with
  |some met'=>mi (λf=>dA f p0 (a:Int)) (x.Level,x.Entries,x.Kids,(k:Int),H.set p0 (iF s order last nodes nx met bad)) (.inl (x.Level,x.Entries,x.Kids,H.set p0 (iF s order last nodes nx met' bad)))
  |none=> ∃met',mi (λf=>dA f p0 (a:Int)) (x.Level,x.Entries,x.Kids,(k:Int),H.set p0 (iF s order last nodes nx met bad)) (.inr (false,H.set p0 (iF s order last nodes nx met' (a:Int))))
 |[],k,met,hd,hk,_=>by
  have hk2:x.Entries.length<=k:=by simpa using hd
  simp only[qh]
  refine .stop ?_
  unfold dA
  exact .f (oY hk2) (.pure _)
 |e::l,k,met,hd,hk,hm=>by
  have hk1:k<x.Entries.length:=by
   grind
  have hek:x.Entries[k]=e:=by rw[aZ hk1]at hd;exact(j_1 hd).1
  have hdl:x.Entries.drop (k+1)=l:=by rw[aZ hk1]at hd;exact(j_1 hd).2
  have he:=hr e (hek▸j_0 hk1)
  simp only[j_4]at hm
  simp only[qh]
  have hfin:BB s last met e=(pQ s e&&(decide (e.Number<=last)&&!met.contains e.Number)):=by simp only[BB,Bool.and_assoc]
  rw[hfin]
  cases h1:pQ s e with
  |false=>
   simp only[m_3,g_7,if_false]
   refine⟨met,.stop ?_⟩
   unfold dA
   refine .t (gu hk1)<|.ae (aH hk1)<|.bz ?_
   rw[hek]
   refine .ae (Ai hH)<|.bind (xF hs he) ?_
   rw[h1]
   exact .t rfl<|.t rfl<|.bind (kj hH) (.pure _)
  |true=>
   by_cases h2:e.Number<=last
   .have M:=Kt hH (s:=s) (order:=order) (last:=last) (nodes:=nodes) (nx:=nx) (bad:=bad) (a:=a) (e:=e) (met:=met) ω met 0 rfl ω
    have pre: ∀{r},Ev (λf=>(iter (fq f p0 (a:Int) e) f (0,H.set p0 (iF s order last nodes nx met bad))).bind (Sum.elim (λv19=>
       (dQ 1 (cI .i64) v19 p0 7).bind λq20=>
       ff (decide ((q20.1++[e.Number]).length<=room))<|
       (dh 1 (cI .i64) q20.2 p0 7 (q20.1++[e.Number])).bind λH22=>
       some (.inl (x.Level,x.Entries,x.Kids,((k+1:Nat):Int),H22))) (λr23=>
       some (.inr (.inr r23))))) r->Ev (λf=>dA f p0 (a:Int) (x.Level,x.Entries,x.Kids,(k:Int),H.set p0 (iF s order last nodes nx met bad))) r:=by
     intro r hE
     unfold dA
     refine .t (gu hk1)<|.ae (aH hk1)<|.bz ?_
     rw[hek,eC ω]
     refine .ae (Ai hH)<|.bind (xF hs he) ?_
     rw[h1]
     exact .f rfl<|.ae (Nd hH)<|.f χ hE
    cases h3:met.contains e.Number with
    |true=>
     rw[h3]at M
     simp only[Bool.not_true,w_4,g_7,if_false]
     exact⟨met,.stop (pre (.bind M.ev (.pure _)))⟩
    |false=>
     rw[h3]at M
     simp only[g_7,if_false]at M
     simp only[Bool.not_false,Bool.and_true,j_8,h2,decide_true,if_true]
     have ih:=G5 hs (nx:=nx) (bad:=bad) (a:=a) hl hr l (k+1) (met++[e.Number]) hdl ω χ
     have ht:dQ 1 (cI .i64) (H.set p0 (iF s order last nodes nx met bad)) p0 7=some (met,(H.set p0 (iF s order last nodes nx met bad)).set p0 (.cells [.d (.list 1 (List.map (D.int .i64) s.aG)),.d (.list 1 (List.map D.bool s.Down)),.d (.int .i64 s.eD),.d (.int .i64 order),.d (.int .i64 last),.d (.list 3 (List.map cj nodes)),.d (.int .i64 nx),.undef,.d (.int .i64 bad)])):=oT (oH hH) rfl
     have hg:dh 1 (cI .i64) ((H.set p0 (iF s order last nodes nx met bad)).set p0 (.cells [.d (.list 1 (List.map (D.int .i64) s.aG)),.d (.list 1 (List.map D.bool s.Down)),.d (.int .i64 s.eD),.d (.int .i64 order),.d (.int .i64 last),.d (.list 3 (List.map cj nodes)),.d (.int .i64 nx),.undef,.d (.int .i64 bad)])) p0 7 (met++[e.Number])=some (H.set p0 (iF s order last nodes nx (met++[e.Number]) bad)):=by
      rw[m_9,jG (dU hH) ψ,m_9];rfl
     have T:=pre (.bind M.ev (.ae ht<|.ff (by simp[room];omega)<|.ae hg (.pure _)))
     cases hq:qh s last (met++[e.Number]) l with
     |none=>rw[hq]at ih;obtain⟨met',ih⟩:=ih;exact⟨met',.next T ih⟩
     |some met'=>rw[hq]at ih;exact .next T ih
   .simp only[h2,decide_false,m_3,w_4,g_7,if_false]
    refine⟨met,.stop ?_⟩
    unfold dA
    refine .t (gu hk1)<|.ae (aH hk1)<|.bz ?_
    rw[hek]
    refine .ae (Ai hH)<|.bind (xF hs he) ?_
    rw[h1]
    exact .f rfl<|.ae (Nd hH)<|.t χ<|.bind (kj hH) (.pure _)
end
set_option maxRecDepth 100000
def FG(s:az)(e:Entry):Option Entry->Bool
 |none=>true
 |some h=>uj s e h
def Hm(s:az)(low high:Option Entry):Option Entry->List Entry->Bool
 |_,[]=>true
 |p,e::l=>(jX s p e&&(jX s low e&&FG s e high))&&Hm s low high (some e) l
def nS{s:az}(h:pQ s a=true):bR s.aG a.Row=true:=by simp only[pQ,g_3]at h;exact h.1.1
def Hk{s:az}(hlow:uh s low): ∀{l:List Entry} {p:Option Entry},(∀e∈l,pQ s e=true)->(∀e,p=some e->pQ s e=true/\jX s low e=true)->Fa s p l=true->(p=none-> ∀e,l.head? =some e->jX s low e=true)-> ∀e∈l,jX s low e=true
 |e::l,p,ho,hp,ha,h0,e',he'=>by
  simp only[Fa,g_3]at ha
  have h1:jX s low e=true:=by
   cases p with
   |none=>exact h0 rfl e rfl
   |some q=>
    obtain⟨q1,q2⟩:=hp q rfl
    cases low with
    |none=>rfl
    |some w=>exact DP (nS (hlow w rfl).1) (nS q1) (nS (ho e ψ)) q2 ha.1
  rcases h_8.1 he' with rfl|he'
  .exact h1
  .exact Hk hlow (λe2 h2=>ho e2 (by simp[h2])) (λe2 h2=>by grind) ha.2 (λh=>by cases h) e' he'
def DG{s:az}(hhigh:uh s high): ∀{l:List Entry} {p:Option Entry},(∀e∈l,pQ s e=true)->Fa s p l=true->(∀e,l.getLast? =some e->FG s e high=true)-> ∀e∈l,FG s e high=true
 |[e],p,ho,ha,hl,e',he'=>by
  grind
 |e::e2::l,p,ho,ha,hl,e',he'=>by
  simp only[Fa,g_3]at ha
  have ih:=DG hhigh (l:=e2::l) (p:=some e) (λq hq=>ho q (by simp at hq ⊢;right;exact hq)) (by simp only[Fa,g_3];exact ha.2) (λq hq=>hl q (by simpa using hq))
  rcases h_8.1 he' with rfl|he'
  .cases high with
   |none=>rfl
   |some w=>exact DP (nS (ho _ ψ)) (nS (ho e2 ψ)) (nS (hhigh w rfl).1) ha.2.1 (ih e2 ψ)
  .exact ih e' he'
def Hl{s:az}: ∀{l:List Entry} {p:Option Entry},Hm s low high p l=(Fa s p l&&l.all λe=>jX s low e&&FG s e high)
 |[],p=>rfl
 |e::l,p=>by
  simp only[Hm,Fa,v_1,Hl (l:=l)]
  grind
def OD{s:az}(hlow:uh s low)(hhigh:uh s high)(ho: ∀e∈x.Entries,pQ s e=true):Hm s low high none x.Entries=(Fa s none x.Entries&&rj s low high x):=by
 rw[Hl]
 cases ha:Fa s none x.Entries with
 |false=>rfl
 |true=>
  simp only[j_8]
  rw[Bool.eq_iff_iff]
  constructor
  .intro h
   rw[h_4]at h
   unfold rj
   rw[g_3]
   constructor
   .cases low with
    |none=>rfl
    |some w=>
     cases hh:x.Entries.head? with
     |none=>rfl
     |some a=>
      have:=h a (List.mem_of_mem_head? hh)
      simp only[g_3]at this
      exact this.1
   .cases high with
    |none=>rfl
    |some w=>
     cases hh:x.Entries.getLast? with
     |none=>rfl
     |some a=>
      have:=h a (List.mem_of_mem_getLast? hh)
      simp only[g_3]at this
      exact this.2
  .intro h
   unfold rj at h
   rw[g_3]at h
   rw[h_4]
   intro e he
   rw[g_3]
   constructor
   .refine Hk hlow ho (p:=none) (λe h=>by cases h) ha (λ_ a hh=>?_) e he
    have:=h.1
    cases low with
    |none=>rfl
    |some w=>rw[hh]at this;exact this
   .refine DG hhigh (p:=none) ho ha (λa hh=>?_) e he
    have:=h.2
    cases high with
    |none=>rfl
    |some w=>rw[hh]at this;exact this
section
variable {p0:Nat} {s:az} {order last:Int} {nodes:List Node} {H:Hp} {o:aN} (hH:H[p0]? =some o)
include hH
def Km(hs:qI s=true){nx bad:Int}{met:List Int}{a:Nat}{x:Node}{low high:Option Entry}(hl:x.Entries.length<1000)(hes: ∀e∈x.Entries,pQ s e=true)(hlow:uh s low)(hhigh:uh s high):
  ∀(l:List Entry) (k:Nat) (p:Option Entry),x.Entries.drop k=l->k<=x.Entries.length->(k=0->p=none)->(∀j,k=j+1->p=x.Entries[j]?)->
  mi (λf=>fp f p0 (a:Int) low high) (x.Level,x.Entries,x.Kids,(k:Int),H.set p0 (iF s order last nodes nx met bad))
   (if Hm s low high p l then .inl (x.Level,x.Entries,x.Kids,H.set p0 (iF s order last nodes nx met bad))else .inr (false,H.set p0 (iF s order last nodes nx met (a:Int))))
 |[],k,p,hd,hk,h0,h1=>by
  have hk2:x.Entries.length<=k:=by simpa using hd
  simp only[Hm,if_true]
  refine .stop ?_
  unfold fp
  exact .f (oY hk2) (.pure _)
 |e::l,k,p,hd,hk,h0,h1=>by
  have hk1:k<x.Entries.length:=by
   grind
  have hek:x.Entries[k]=e:=by rw[aZ hk1]at hd;exact(j_1 hd).1
  have hdl:x.Entries.drop (k+1)=l:=by rw[aZ hk1]at hd;exact(j_1 hd).2
  have he:=hes e (hek▸j_0 hk1)
  have ih:=Km hs (nx:=nx) (bad:=bad) (met:=met) (a:=a) hl hes hlow hhigh l (k+1) (some e) hdl ω ω (λj hj=>by
   grind)
  have UA:Ev (α:=((Int×(List Entry)×(List Int)×Int×Hp)⊕((Int×(List Entry)×(List Int)×Hp)⊕(((Bool)×Hp))))) (λf=>(Option.elim low
     ((Option.elim high
      (some (.inl (x.Level,x.Entries,x.Kids,((k+1:Nat):Int),H.set p0 (iF s order last nodes nx met bad))))
     (λx32=>
      (cF f p0 e x32 (H.set p0 (iF s order last nodes nx met bad))).bind λr33=>
      bif (!r33)then
       (bq f p0 (a:Int) (H.set p0 (iF s order last nodes nx met bad))).bind λr34=>
       some (.inr (.inr (r34.1,r34.2)))
      else
       some (.inl (x.Level,x.Entries,x.Kids,((k+1:Nat):Int),H.set p0 (iF s order last nodes nx met bad))))))
    (λx31=>
     (cF f p0 x31 e (H.set p0 (iF s order last nodes nx met bad))).bind λr35=>
     bif (!r35)then
      (bq f p0 (a:Int) (H.set p0 (iF s order last nodes nx met bad))).bind λr36=>
      some (.inr (.inr (r36.1,r36.2)))
     else
      (Option.elim high
       (some (.inl (x.Level,x.Entries,x.Kids,((k+1:Nat):Int),H.set p0 (iF s order last nodes nx met bad))))
      (λx37=>
       (cF f p0 e x37 (H.set p0 (iF s order last nodes nx met bad))).bind λr38=>
       bif (!r38)then
        (bq f p0 (a:Int) (H.set p0 (iF s order last nodes nx met bad))).bind λr39=>
        some (.inr (.inr (r39.1,r39.2)))
       else
        some (.inl (x.Level,x.Entries,x.Kids,((k+1:Nat):Int),H.set p0 (iF s order last nodes nx met bad))))))))
    (if(jX s low e&&FG s e high)then .inl (x.Level,x.Entries,x.Kids,((k+1:Nat):Int),H.set p0 (iF s order last nodes nx met bad))else .inr (.inr (false,H.set p0 (iF s order last nodes nx met (a:Int))))):=by
   cases low with
   |none=>
    cases high with
    |none=>exact .rF<|.rF (.pure _)
    |some hi=>
     have A:=wP hH (order:=order) (last:=last) (nodes:=nodes) hs (nx:=nx) (bad:=bad) (met:=met) he (hhigh hi rfl).1
     by_cases hq:uj s e hi=true
     .rw[hq]at A
      simp only[jX,FG,hq,j_8,if_true]
      exact .rF<|.mw<|.bind A<|.f rfl (.pure _)
     .have hq:=eq_false_of_ne_true hq
      rw[hq]at A
      simp only[jX,FG,hq,j_8,g_7,if_false]
      exact .rF<|.mw<|.bind A<|.t rfl<|.bind (kj hH) (.pure _)
   |some lo=>
    have B:=wP hH (order:=order) (last:=last) (nodes:=nodes) hs (nx:=nx) (bad:=bad) (met:=met) (hlow lo rfl).1 he
    by_cases hq:uj s lo e=true
    .rw[hq]at B
     simp only[jX,hq,j_8]
     refine .mw<|.bind B<|.f rfl ?_
     cases high with
     |none=>exact .rF (.pure _)
     |some hi=>
      have A:=wP hH (order:=order) (last:=last) (nodes:=nodes) hs (nx:=nx) (bad:=bad) (met:=met) he (hhigh hi rfl).1
      by_cases hq:uj s e hi=true
      .rw[hq]at A
       simp only[FG,hq,if_true]
       exact .mw<|.bind A<|.f rfl (.pure _)
      .have hq:=eq_false_of_ne_true hq
       rw[hq]at A
       simp only[FG,hq,g_7,if_false]
       exact .mw<|.bind A<|.t rfl<|.bind (kj hH) (.pure _)
    .have hq:=eq_false_of_ne_true hq
     rw[hq]at B
     simp only[jX,hq,m_3,g_7,if_false]
     exact .mw<|.bind B<|.t rfl<|.bind (kj hH) (.pure _)
  have key:Ev (λf=>fp f p0 (a:Int) low high (x.Level,x.Entries,x.Kids,(k:Int),H.set p0 (iF s order last nodes nx met bad)))
    (if(jX s p e&&(jX s low e&&FG s e high))then .inl (x.Level,x.Entries,x.Kids,((k+1:Nat):Int),H.set p0 (iF s order last nodes nx met bad))else .inr (.inr (false,H.set p0 (iF s order last nodes nx met (a:Int))))):=by
   unfold fp
   refine .t (gu hk1)<|.ae (aH hk1) ?_
   rw[hek,eC ω]
   obtain rfl|⟨j,rfl⟩:k=0\/ ∃j,k=j+1:=by cases k<;>simp
   .have hp0:=h0 rfl
    subst hp0
    simp only[jX,j_8]
    exact .f ψ UA
   .have hj:j<x.Entries.length:=by omega
    have hp1:=h1 j rfl
    rw[g_6 hj]at hp1
    subst hp1
    have hix:idx x.Entries (IntKind.wrap .i64 (((j+1:Nat):Int) - 1))=some x.Entries[j]:=by
     rw[eo ω ω,show((j+1:Nat):Int) - 1=(j:Int)by omega];exact aH hj
    have A:=wP hH (order:=order) (last:=last) (nodes:=nodes) hs (nx:=nx) (bad:=bad) (met:=met) (hes _ (j_0 hj)) he
    by_cases hq:uj s x.Entries[j] e=true
    .rw[hq]at A
     rw[show(jX s (some x.Entries[j]) e&&(jX s low e&&FG s e high))=(jX s low e&&FG s e high)by simp only[jX,hq,j_8]]
     exact .t φ<|.ae hix<|.bind A<|.f rfl UA
    .have hq:=eq_false_of_ne_true hq
     rw[hq]at A
     rw[show(jX s (some x.Entries[j]) e&&(jX s low e&&FG s e high))=false by simp only[jX,hq,m_3]]
     simp only[g_7,if_false]
     exact .t φ<|.ae hix<|.bind A<|.t rfl<|.bind (kj hH) (.pure _)
  by_cases hc:(jX s p e&&(jX s low e&&FG s e high))=true
  .rw[if_pos hc]at key
   simp only[Hm,hc,j_8]
   exact .next key ih
  .rw[if_neg hc]at key
   simp only[Hm,eq_false_of_ne_true hc,m_3,g_7,if_false]
   exact .stop key
end
set_option maxRecDepth 100000
def wB(fuel:Nat)(rc:Nat->Int->Int->Option Entry->Option Entry->Hp->Option (Bool×Hp))(p0:Nat)(p1 p2:Int)(p3 p4:Option Entry)(v50:Int×(List Entry)×(List Int)×Hp)(j52 j54:Int):Option (Bool×Hp):=
 bz (λ(j56:Unit)=>
  (iter (dz fuel rc p0 p1 p3 p4 v50) fuel (0,v50.2.2.2)).bind (Sum.elim (λv81=>
   some (true,v81)) (λr82=>
   some r82))) λjp57=>
 (bE (cI .i64).cell v50.2.2.2 p0 3).bind λx58=>
 bif (decide ((v50.2.1.length:Int)>x58))then
  (bq fuel p0 p1 v50.2.2.2).bind λr59=>
  some (r59.1,r59.2)
 else
  bif ((decide ((v50.2.1.length:Int)<j52))||(decide (v50.1<0)))then
   (bq fuel p0 p1 v50.2.2.2).bind λr60=>
   some (r60.1,r60.2)
  else
   bif (decide (p2>=0))then
    bif (v50.1 !=p2)then
     (bq fuel p0 p1 v50.2.2.2).bind λr61=>
     some (r61.1,r61.2)
    else
     bif ((v50.2.2.1.length:Int) !=j54)then
      (bq fuel p0 p1 v50.2.2.2).bind λr62=>
      some (r62.1,r62.2)
     else
      jp57 ()
   else
    bif ((v50.2.2.1.length:Int) !=j54)then
     (bq fuel p0 p1 v50.2.2.2).bind λr63=>
     some (r63.1,r63.2)
    else
     jp57 ()
section
variable {p0:Nat} {s:az} {order last:Int} {nodes:List Node} {H:Hp} {o:aN}
def SZ(p0:Nat)(s:az)(order last:Int)(nodes:List Node)(H:Hp)(bad:Int)(f:Nat->Option (Bool×Hp))(r:Nat⊕(Nat×List Int)):Prop:=
 match r with
 |.inl b=> ∃nx' met',Ev f (false,H.set p0 (iF s order last nodes nx' met' (b:Nat)))
 |.inr (z,met')=>Ev f (true,H.set p0 (iF s order last nodes (z:Nat) met' bad))/\met'.length<=1000 * z
variable (hH:H[p0]? =some o)
include hH
def GH{RC:Nat->Nat->Int->Int->Option Entry->Option Entry->Hp->Option (Bool×Hp)}
  (hN:Cq nodes) (hxm:x∈nodes) (hk:x.Kids≠[]->x.Kids.length=x.Entries.length+1/\0<x.Level)
  (hlow:uh s low) (hhigh:uh s high) (hes: ∀e∈x.Entries,pQ s e=true)
  (hrc: ∀(nx:Nat) (level:Int) (lo hi:Option Entry) (met:List Int),a<nx->nx<nodes.length->0<=level->uh s lo->uh s hi->met.length<=1000 * nx->
   SZ p0 s order last nodes H bad (λn=>RC n p0 (nx:Int) level lo hi (H.set p0 (iF s order last nodes (nx:Nat) met bad))) (wk s order last nodes d nx level lo hi met)):
  ∀(ks:List Int) (i nx:Nat) (met:List Int),x.Kids.drop i=ks->i<=x.Kids.length->a<nx->met.length<=1000 * nx->
   match qL nodes (wk s order last nodes d) a x low high ks i nx met with
   |.inl b=> ∃nx' met',mi (λn=>dz n (RC n) p0 (a:Int) low high (x.Level,x.Entries,x.Kids,Hx)) ((i:Int),H.set p0 (iF s order last nodes (nx:Nat) met bad)) (.inr (false,H.set p0 (iF s order last nodes nx' met' (b:Nat))))
   |.inr (z,met')=>mi (λn=>dz n (RC n) p0 (a:Int) low high (x.Level,x.Entries,x.Kids,Hx)) ((i:Int),H.set p0 (iF s order last nodes (nx:Nat) met bad)) (.inl (H.set p0 (iF s order last nodes (z:Nat) met' bad)))/\met'.length<=1000 * z
 |[],i,nx,met,hd,hi,ha,hm=>by
  have hik:x.Kids.length<=i:=by simpa using hd
  simp only[qL]
  refine⟨.stop ?_,hm⟩
  unfold dz
  exact .f (oY hik) (.pure _)
 |k::ks,i,nx,met,hd,hi,ha,hm=>by
  have hik:i<x.Kids.length:=by
   grind
  have hek:x.Kids[i]=k:=by rw[aZ hik]at hd;exact(j_1 hd).1
  have hdl:x.Kids.drop (i+1)=ks:=by rw[aZ hik]at hd;exact(j_1 hd).2
  have hne:x.Kids≠[]:=by intro e;rw[e]at hik;simp at hik
  obtain⟨hk1,hk2⟩:=hk hne
  obtain⟨b1,b2,b3,b4⟩:=hN.2 x hxm
  have hN1:=hN.1
  simp only[qL]
  by_cases hc:k=(nx:Int)/\nx<nodes.length
  .rw[if_pos hc]
   have hlo:uh s (qn x low i):=by
    unfold qn
    split
    .intro e he
     grind
    .exact hlow
   have hhi:uh s (j9 x high i):=by
    unfold j9
    split
    .intro e he
     grind
    .exact hhigh
   have R:=hrc nx (x.Level - 1) (qn x low i) (j9 x high i) met ha hc.2 ω hlo hhi hm
   have step: ∀{r o'},Ev (λn=>RC n p0 (nx:Int) (x.Level - 1) (qn x low i) (j9 x high i) (H.set p0 (iF s order last nodes (nx:Nat) met bad))) r->
     Ev (λn=>bif (!r.1)then some (.inr (.inr (false,r.2)))else some (.inl (((i+1:Nat):Int),r.2))) o'->
     Ev (λn=>dz n (RC n) p0 (a:Int) low high (x.Level,x.Entries,x.Kids,Hx) ((i:Int),H.set p0 (iF s order last nodes (nx:Nat) met bad))) o':=by
    intro r o' hr hE
    unfold dz
    refine .t (gu hik)<|.bz<|.ae (aH hik) ?_
    rw[hek]
    refine .ae (Aj hH)<|.f (by simp[hc.1])<|.ae (Aj hH)<|.ae (IC hH)<|.f χ<|.bz ?_
    have tail: ∀{lo:Option Entry},lo=qn x low i->Ev (λn=>bz (λ(j75:(Option Entry))=>
      (idx x.Kids (i:Int)).bind λx78=>
      (RC n p0 x78 (IntKind.wrap .i64 (x.Level - 1)) lo j75 (H.set p0 (iF s order last nodes (nx:Nat) met bad))).bind λr79=>
      bif (!r79.1)then
       some (.inr (.inr (false,r79.2)))
      else
       some (.inl ((IntKind.wrap .i64 ((i:Int)+1)),r79.2))) λjp76=>
     bif (decide ((i:Int)<(x.Entries.length:Int)))then
      (idx x.Entries (i:Int)).bind λx77=>
      jp76 (some x77)
     else
      jp76 high) o':=by
     rintro lo rfl
     rw[eC ω,eo (x:=x.Level - 1) (by unfold i64 at b3;omega) (by unfold i64 at b3;omega)]
     refine .bz ?_
     by_cases hx:i<x.Entries.length
     .refine .t (gu hx)<|.ae (aH hx)<|.ae (aH hik) ?_
      have e:j9 x high i=some x.Entries[i]:=by unfold j9;grind
      rw[e]at hr
      rw[hek,hc.1]
      exact .bind hr hE
     .refine .f (oY ω)<|.ae (aH hik) ?_
      have e:j9 x high i=high:=by unfold j9;rw[if_neg hx]
      rw[e]at hr
      rw[hek,hc.1]
      exact .bind hr hE
    by_cases h0:0<i
    .have hj:i - 1<x.Entries.length:=by omega
     have hix:idx x.Entries (IntKind.wrap .i64 ((i:Int) - 1))=some x.Entries[i - 1]:=by
      rw[eo ω ω,show(i:Int) - 1=((i - 1:Nat):Int)by omega];exact aH hj
     exact .t χ<|.ae hix<|tail (by unfold qn;grind)
    .exact .f χ<|tail (by unfold qn;rw[if_neg h0])
   cases hw:wk s order last nodes d nx (x.Level - 1) (qn x low i) (j9 x high i) met with
   |inl b=>
    rw[hw]at R
    obtain⟨nx',met',R1⟩:=R
    exact⟨nx',met',.stop (step R1 (.t rfl (.pure _)))⟩
   |inr q=>
    obtain⟨z,met'⟩:=q
    rw[hw]at R
    obtain⟨R1,R2⟩:=R
    have hlt:nx<z:=M9 hw
    have T:=step R1 (.f rfl (.pure _))
    have IH:=GH hN hxm hk hlow hhigh hes hrc ks (i+1) z met' hdl ω ω R2 (Hx:=Hx)
    simp only
    cases hw2:qL nodes (wk s order last nodes d) a x low high ks (i+1) z met' with
    |inl b=>
     rw[hw2]at IH
     obtain⟨nx',met2,I1⟩:=IH
     exact⟨nx',met2,.next T I1⟩
    |inr q=>
     obtain⟨z',met2⟩:=q
     rw[hw2]at IH
     exact⟨.next T IH.1,IH.2⟩
  .rw[if_neg hc]
   simp only
   refine⟨nx,met,.stop ?_⟩
   unfold dz
   refine .t (gu hik)<|.bz<|.ae (aH hik) ?_
   rw[hek]
   refine .ae (Aj hH) ?_
   by_cases hkn:k=(nx:Int)
   .exact .f (by simp[hkn])<|.ae (Aj hH)<|.ae (IC hH)<|.t χ<|.bind (kj hH) (.pure _)
   .exact .t (by simp[hkn])<|.t rfl<|.bind (kj hH) (.pure _)
def Tq{a:Nat}{x:Node}{low high:Option Entry}{nx bad p2 j52 j54:Int}{met:List Int}{RC:Nat->Nat->Int->Int->Option Entry->Option Entry->Hp->Option (Bool×Hp)}:
  ((x.Entries.length:Int)<=order/\j52<=(x.Entries.length:Int)/\0<=x.Level/\(0<=p2->x.Level=p2)/\(x.Kids.length:Int)=j54->
   ∀r,Ev (λn=>(iter (dz n (RC n) p0 (a:Int) low high (x.Level,x.Entries,x.Kids,H.set p0 (iF s order last nodes nx met bad))) n (0,H.set p0 (iF s order last nodes nx met bad))).bind (Sum.elim (λv81=>some (true,v81)) (λr82=>some r82))) r->
   Ev (λn=>wB n (RC n) p0 (a:Int) p2 low high (x.Level,x.Entries,x.Kids,H.set p0 (iF s order last nodes nx met bad)) j52 j54) r)/\
  (¬((x.Entries.length:Int)<=order/\j52<=(x.Entries.length:Int)/\0<=x.Level/\(0<=p2->x.Level=p2)/\(x.Kids.length:Int)=j54)->
   Ev (λn=>wB n (RC n) p0 (a:Int) p2 low high (x.Level,x.Entries,x.Kids,H.set p0 (iF s order last nodes nx met bad)) j52 j54) (false,H.set p0 (iF s order last nodes nx met (a:Int)))):=by
 have W:=λ{b:Int}=>kj hH (s:=s) (order:=order) (last:=last) (nodes:=nodes) (nx:=nx) (bad:=bad) (b:=b) (met:=met)
 constructor
 .rintro ⟨c1,c2,c3,c4,c5⟩ r hE
  unfold wB
  refine .bz<|.ae (IB hH)<|.f φ<|.f χ ?_
  grind
 .intro hn
  unfold wB
  refine .bz<|.ae (IB hH) ?_
  by_cases c1:(x.Entries.length:Int)<=order
  .refine .f φ ?_
   by_cases c2:j52<=(x.Entries.length:Int)/\0<=x.Level
   .refine .f χ ?_
    by_cases hp:0<=p2
    .refine .t φ ?_
     by_cases c4:x.Level=p2
     .refine .f (by simp[c4]) ?_
      have c5:(x.Kids.length:Int)≠j54:=λe=>hn ⟨c1,c2.1,c2.2,λ_=>c4,e⟩
      exact .t (bne_iff_ne.2 c5)<|.bind W (.pure _)
     .exact .t (bne_iff_ne.2 c4)<|.bind W (.pure _)
    .refine .f φ ?_
     have c5:(x.Kids.length:Int)≠j54:=λe=>hn ⟨c1,c2.1,c2.2,λh=>absurd h hp,e⟩
     exact .t (bne_iff_ne.2 c5)<|.bind W (.pure _)
   .exact .t χ<|.bind W (.pure _)
  .exact .t φ<|.bind W (.pure _)
end
set_option maxRecDepth 100000
def A0{s:az}{last:Int}: ∀{l:List Entry} {met met':List Int},qh s last met l=some met'->met'.length=met.length+l.length
 |[],met,met',h=>by simp only[qh,g_2]at h;subst h;rfl
 |e::l,met,met',h=>by
  simp only[qh]at h
  split at h
  .have:=A0 h
   grind
  .cases h
section
variable {p0:Nat} {s:az} {order last:Int} {nodes:List Node} {H:Hp} {o:aN} (hH:H[p0]? =some o)
include hH
def CY(hs:qI s=true)(h3:3<=order)(h32:order<=32)(hN:Cq nodes): ∀(d a:Nat) (level:Int) (low high:Option Entry) (met:List Int),
  a<nodes.length->nodes.length<=a+d->uh s low->uh s high->(a=0->level= -1)->(a≠0->0<=level)->met.length<=1000 * a->
   SZ p0 s order last nodes H bad (λn=>dg n p0 (a:Int) level low high (H.set p0 (iF s order last nodes (a:Nat) met bad))) (wk s order last nodes d a level low high met)
 |0,a,level,low,high,met,ha,hd,_,_,_,_,_=>by omega
 |d+1,a,level,low,high,met,ha,hd,hlow,hhigh,h0,hl0,hm=>by
  have hx:nodes[a]? =some nodes[a]:=g_6 ha
  have hxm:nodes[a]∈nodes:=j_0 ha
  generalize hxe:nodes[a]=x at hx hxm
  have hN1:=hN.1
  obtain⟨b1,b2,b3,b4⟩:=hN.2 x hxm
  have E:=G5 hH (order:=order) (last:=last) (nodes:=nodes) hs (nx:=((a+1:Nat):Int)) (bad:=bad) (a:=a) (x:=x) b1 (λe he=>(b4 e he).1) x.Entries 0 met rfl ω ω
  have hwk:wk s order last nodes (d+1) a level low high met=(match rL s order last (a==0) level low high met x with
   |none=>.inl a
   |some met'=>qL nodes (wk s order last nodes d) a x low high x.Kids 0 (a+1) met'):=by
   show(match nodes[a]? with|none=>Sum.inl a|some x=>match rL s order last (a==0) level low high met x with|none=>Sum.inl a|some met'=>qL nodes (wk s order last nodes d) a x low high x.Kids 0 (a+1) met')=_
   rw[hx]
  rw[hwk]
  clear hwk
  have head: ∀{r},Ev (λn=>(iter (dA n p0 (a:Int)) n (x.Level,x.Entries,x.Kids,0,H.set p0 (iF s order last nodes ((a+1:Nat):Int) met bad))).bind (Sum.elim (λv25=>
     (iter (fp n p0 (a:Int) low high) n (v25.1,v25.2.1,v25.2.2.1,0,v25.2.2.2)).bind (Sum.elim (λv50=>
      (bE (cI .i64).cell v50.2.2.2 p0 3).bind λx51=>
      bz (λ(j52:Int)=>
       bz (λ(j54:Int)=>wB n (dg n) p0 (a:Int) level low high v50 j52 j54) λjp55=>
       bif (v50.1==0)then
        jp55 0
       else
        jp55 (IntKind.wrap .i64 ((v50.2.1.length:Int)+1))) λjp53=>
      bif ((a:Int)==0)then
       bif (v50.1 !=0)then
        jp53 1
       else
        jp53 0
      else
       jp53 (IntKind.wrap .i64 (Int.tdiv x51 2))) (λr83=>
      some r83))) (λr84=>
     some r84))) r->Ev (λn=>dg n p0 (a:Int) level low high (H.set p0 (iF s order last nodes (a:Nat) met bad))) r:=by
   intro r hE
   refine m7 (g:=λn=>iH n (dg n) p0 (a:Int) level low high (H.set p0 (iF s order last nodes (a:Nat) met bad))) (λn=>rfl) ?_
   unfold iH
   refine .ae (Aj hH) ?_
   rw[eC ω]
   refine .ae (Nc hH)<|.ae (IC hH)<|.ae (fe hx) hE
  have badN:rL s order last (a==0) level low high met x=none->(∃met',Ev (λn=>dg n p0 (a:Int) level low high (H.set p0 (iF s order last nodes (a:Nat) met bad))) (false,H.set p0 (iF s order last nodes ((a+1:Nat):Int) met' (a:Int))))->
    SZ p0 s order last nodes H bad (λn=>dg n p0 (a:Int) level low high (H.set p0 (iF s order last nodes (a:Nat) met bad))) (match rL s order last (a==0) level low high met x with
   |none=>.inl a
   |some met'=>qL nodes (wk s order last nodes d) a x low high x.Kids 0 (a+1) met'):=by
   rintro hn ⟨met',hE⟩
   rw[hn]
   exact⟨_,met',hE⟩
  cases hq:qh s last met x.Entries with
  |none=>
   rw[hq]at E
   obtain⟨met',E⟩:=E
   exact badN (by unfold rL;simp only[hq,ite_self]) ⟨met',head (.bind E.ev (.pure _))⟩
  |some met'=>
   rw[hq]at E
   have hlen:=A0 hq
   have hes:=sn hq
   have O:=Km hH (order:=order) (last:=last) (nodes:=nodes) hs (nx:=((a+1:Nat):Int)) (bad:=bad) (met:=met') (a:=a) (x:=x) (low:=low) (high:=high) b1 hes hlow hhigh x.Entries 0 none rfl ω (λ_=>rfl) (λj hj=>by omega)
   rw[OD hlow hhigh hes]at O
   by_cases hc:(Fa s none x.Entries&&rj s low high x)=true
   .rw[if_pos hc]at O
    rw[g_3]at hc
    obtain⟨j52,hj52⟩: ∃j:Int,j=if a=0 then(if x.Level=0 then 0 else 1)else order / 2:=⟨_,rfl⟩
    obtain⟨j54,hj54⟩: ∃j:Int,j=if x.Level=0 then 0 else(x.Entries.length:Int)+1:=⟨_,rfl⟩
    have head2: ∀{r},Ev (λn=>wB n (dg n) p0 (a:Int) level low high (x.Level,x.Entries,x.Kids,H.set p0 (iF s order last nodes ((a+1:Nat):Int) met' bad)) j52 j54) r->Ev (λn=>dg n p0 (a:Int) level low high (H.set p0 (iF s order last nodes (a:Nat) met bad))) r:=by
     intro r hE
     refine head<|.bind E.ev<|.bind O.ev<|.ae (IB hH)<|.bz ?_
     have tail: ∀{k:Int},k=j52->Ev (λn=>bz (λ(j54:Int)=>wB n (dg n) p0 (a:Int) level low high (x.Level,x.Entries,x.Kids,H.set p0 (iF s order last nodes ((a+1:Nat):Int) met' bad)) k j54) λjp55=>
       bif (x.Level==0)then
        jp55 0
       else
        jp55 (IntKind.wrap .i64 ((x.Entries.length:Int)+1))) r:=by
      rintro k rfl
      refine .bz ?_
      by_cases hz:x.Level=0
      .grind
      .have:j54=(x.Entries.length:Int)+1:=by rw[hj54,if_neg hz]
       rw[this]at hE
       rw[eo (x:=(x.Entries.length:Int)+1) ω ω]
       exact .f (by simp[hz]) hE
     by_cases ha0:a=0
     .grind
     .refine .f (by simp[ha0]) (tail ?_)
      rw[show Int.tdiv order 2=order / 2 by grind,eo ω ω]
      rw[hj52,if_neg ha0]
    obtain⟨W1,W2⟩:=Tq hH (s:=s) (order:=order) (last:=last) (nodes:=nodes) (a:=a) (x:=x) (low:=low) (high:=high) (nx:=((a+1:Nat):Int)) (bad:=bad) (p2:=level) (j52:=j52) (j54:=j54) (met:=met') (RC:=λn=>dg n)
    have hiff:((x.Entries.length:Int)<=order/\j52<=(x.Entries.length:Int)/\0<=x.Level/\(0<=level->x.Level=level)/\(x.Kids.length:Int)=j54)<->(zG order (a==0) x&&zC (a==0) level x&&Bp x)=true:=by
     simp only[zG,zC,Bp,g_3,p_6,decide_eq_true_eq,beq_iff_eq,bne_iff_ne,ne_eq]
     grind
    by_cases hg:(zG order (a==0) x&&zC (a==0) level x&&Bp x)=true
    .have hok:rL s order last (a==0) level low high met x=some met':=by
      unfold rL
      rw[hg,hc.1,hc.2,hq];rfl
     rw[hok]
     simp only[g_3]at hg
     have hk:x.Kids≠[]->x.Kids.length=x.Entries.length+1/\0<x.Level:=by
      intro hne
      have h1:=hg.2
      simp only[Bp,g_3,beq_iff_eq]at h1
      grind
     have K:=GH hH (d:=d) (a:=a) (x:=x) (low:=low) (high:=high) (bad:=bad) (Hx:=H.set p0 (iF s order last nodes ((a+1:Nat):Int) met' bad)) (RC:=λn=>dg n) hN hxm hk hlow hhigh hes
      (λnx level lo hi met h1 h2 h3' h4 h5 h6=>CY hs h3 h32 hN d nx level lo hi met h2 ω h4 h5 ω (λ_=>h3') h6) x.Kids 0 (a+1) met' rfl ω ω ω
     have hgood:=hiff.2 φ
     simp only
     cases hw:qL nodes (wk s order last nodes d) a x low high x.Kids 0 (a+1) met' with
     |inl b=>
      rw[hw]at K
      obtain⟨nx',met2,K1⟩:=K
      exact⟨nx',met2,head2 (W1 hgood _ (.bind K1.ev (.pure _)))⟩
     |inr q=>
      obtain⟨z,met2⟩:=q
      rw[hw]at K
      exact⟨head2 (W1 hgood _ (.bind K.1.ev (.pure _))),K.2⟩
    .refine badN ?_ ⟨met',head2 (W2 (λh=>hg (hiff.1 h)))⟩
     unfold rL
     rw[eq_false_of_ne_true hg];rfl
   .rw[if_neg hc]at O
    refine badN ?_ ⟨met',head (.bind E.ev (.bind O.ev (.pure _)))⟩
    unfold rL
    grind
end
set_option maxRecDepth 100000
def P0:wk s order last nodes d 0 lv lo hi met=wk s order last nodes d 0 lv' lo hi met:=by
 cases d with
 |zero=>rfl
 |succ d=>
  show(match nodes[0]? with|none=>Sum.inl 0|some x=>match rL s order last (0==0) lv lo hi met x with|none=>Sum.inl 0|some met'=>qL nodes (wk s order last nodes d) 0 x lo hi x.Kids 0 (0+1) met')=
   (match nodes[0]? with|none=>Sum.inl 0|some x=>match rL s order last (0==0) lv' lo hi met x with|none=>Sum.inl 0|some met'=>qL nodes (wk s order last nodes d) 0 x lo hi x.Kids 0 (0+1) met')
  have: ∀x,rL s order last (0==0) lv lo hi met x=rL s order last (0==0) lv' lo hi met x:=λx=>by
   simp only[rL,zC,beq_self_eq_true,Bool.true_or]
  grind
def my(s:az)(order last:Int)(nodes:List Node):Int×Int:=
 if qI s=true then
  if 3<=order/\order<=32/\0<=last then
   if nodes.length=0 then(0,12)
   else match wk s order last nodes nodes.length 0 0 none none []with
    |.inl b=>((b:Nat),12)
    |.inr (z,met)=>if z<nodes.length then((z:Nat),12)else if 500<met.length then(0,4)else(-1,0)
  else(0,7)
 else(0,1)
def wj:uh s none:=λe h=>by cases h
def De(s:az)(order last:Int)(nodes:List Node)(hN:Cq nodes)(hk:s.aG.length<1000):Ev (λf=>tJ f s order last nodes) (my s order last nodes):=by
 have hN1:=hN.1
 unfold tJ my
 refine .bind (Dg s hk) ?_
 cases hs:qI s with
 |false=>
  simp only[g_7,if_false]
  exact .t rfl (.pure _)
 |true=>
  simp only[if_true]
  refine .f rfl ?_
  by_cases hc:3<=order/\order<=32/\0<=last
  .rw[if_pos hc]
   refine .f χ ?_
   by_cases h0:nodes.length=0
   .rw[if_pos h0]
    exact .t (by simp[q_3.1 h0]) (.pure _)
   .rw[if_neg h0]
    refine .f (beq_eq_false_iff_ne.2 ω)<|.ae rfl ?_
    let H1:Hp:=[]++[iF s order last nodes 0 [] (-1)]
    have hH:H1[0]? =some (iF s order last nodes 0 [] (-1)):=rfl
    have W:=CY hH hs hc.1 hc.2.1 hN (last:=last) (bad:= -1) nodes.length 0 (-1) none none [] ω ω wj wj (λ_=>rfl) (λh=>absurd rfl h) ψ
    rw[P0 (lv':=0)]at W
    have e0:H1.set 0 (iF s order last nodes ((0:Nat):Int) [] (-1))=H1:=rfl
    rw[e0]at W
    cases hw:wk s order last nodes nodes.length 0 0 none none []with
    |inl b=>
     rw[hw]at W
     obtain⟨nx',met',W⟩:=W
     simp only
     exact .bind W<|.t rfl<|.ae (RY hH) (.pure _)
    |inr q=>
     obtain⟨z,met⟩:=q
     rw[hw]at W
     obtain⟨W,-⟩:=W
     simp only
     refine .bind W<|.f rfl<|.ae (Aj hH) ?_
     by_cases hz:z<nodes.length
     .rw[if_pos hz]
      exact .t (gu hz)<|.ae (Aj hH) (.pure _)
     .rw[if_neg hz]
      refine .f (oY ω)<|.ae (xj hH) ?_
      by_cases hm:500<met.length
      .rw[if_pos hm];exact .t χ (.pure _)
      .rw[if_neg hm];exact .f χ (.pure _)
  .rw[if_neg hc]
   exact .t χ (.pure _)
def KW(f:Nat)(h:r.length<1000):hZ f r=some r:=by
 unfold hZ
 cases r with
 |nil=>rfl
 |cons a l=>
  show Go.Sh.ff (decide ((([]:List Int)++a::l).length<=room)) (some ([]++a::l))=_
  rw[show decide ((([]:List Int)++a::l).length<=room)=true by
   rw[decide_eq_true_eq]
   have:(a::l).length<1000:=h
   simp only[m_5,room]
   omega]
  rfl
def QN(f:Nat)(h:r.length<1000):gT f r=some r:=by
 unfold gT
 cases r with
 |nil=>rfl
 |cons a l=>
  show Go.Sh.ff (decide ((([]:List Bool)++a::l).length<=room)) (some ([]++a::l))=_
  rw[show decide ((([]:List Bool)++a::l).length<=room)=true by
   rw[decide_eq_true_eq]
   have:(a::l).length<1000:=h
   simp only[m_5,room]
   omega]
  rfl
def J8(s:az)(order:Int)(H:Hp)(hk:s.aG.length<1000)(hd:s.Down.length<1000):Ev (λf=>yD f s order H)
  (if qI s=true then(if 3<=order/\order<=32 then((some (H.length+1),0),(H++[dT [] []])++[ki s order (some H.length) 0 0])else((none,7),H))else((none,1),H)):=by
 unfold yD
 refine .bind (LG s) ?_
 cases hs:qI s with
 |false=>simp only[g_7,if_false];exact .t rfl (.pure _)
 |true=>
  simp only[if_true]
  refine .f rfl ?_
  by_cases hc:3<=order/\order<=32
  .rw[if_pos hc]
   refine .f χ<|.bind (.of λn=>KW n hk)<|.bind (.of λn=>QN n hd)<|.ae rfl<|.ae rfl ?_
   refine .of λn=>?_
   simp only[dT,ki,cP,h_9,j_4,v_3,q_4]
  .rw[if_neg hc]
   exact .t χ (.pure _)
def FX(s:az)(order last:Int)(nodes:List Node)(hN:Cq nodes)(hk:s.aG.length<1000)(hd:s.Down.length<1000)(H:Hp):
  ∃t H',Ev (λf=>mC f s order last nodes H) ((t,my s order last nodes),H')/\
   ((my s order last nodes).2=0-> ∃root z met,t=some (H.length+1)/\wk s order last nodes nodes.length 0 0 none none []=.inr (z,met)/\nodes.length<=z/\
    H'[H.length+1]? =some (ki s order (some root) last (met.length:Nat))/\(∀j,j<H.length->H'[j]? =H[j]?)/\H.length+2<=H'.length/\ ∃b lv,H.length+2<=b/\HN b nodes H' lv 0 z root):=by
 have hN1:=hN.1
 have N:=J8 s order H hk hd
 unfold my
 cases hs:qI s with
 |false=>
  rw[hs]at N
  simp only[g_7,if_false]at N ⊢
  refine⟨none,H,?_,λh=>by cases h⟩
  unfold mC
  exact .bind N<|.t rfl (.pure _)
 |true=>
  rw[hs]at N
  simp only[if_true]at N ⊢
  by_cases hc:3<=order/\order<=32/\0<=last
  .rw[if_pos ⟨hc.1,hc.2.1⟩]at N
   rw[if_pos hc]
   let H1:Hp:=(H++[dT [] []])++[ki s order (some H.length) 0 0]
   let H2:Hp:=H1.set (H.length+1) (ki s order (some H.length) last 0)
   let H3:Hp:=H2++[gC []]
   let H4:Hp:=H3++[FF (H.length+1) H2.length nodes 0 0]
   have n1:H1.length=H.length+2:=by simp[H1]
   have n2:H2.length=H.length+2:=by simp[H2,n1]
   have n3:H3.length=H.length+3:=by simp[H3,n2]
   have n4:H4.length=H.length+4:=by simp[H4,n3]
   have g1:H1[H.length+1]? =some (ki s order (some H.length) 0 0):=by simp[H1]
   have s5:ee (cI .i64) H1 (H.length+1) 5 last=some H2:=gQ g1 (by simp[cI,D.cells])
   have g2:H2[H.length+1]? =some (ki s order (some H.length) last 0):=dU g1
   have g4t:H4[H.length+1]? =some (ki s order (some H.length) last 0):=by
    grind
   have g4m:H4[H2.length]? =some (gC []):=by
    grind
   have g4p:H4[H3.length]? =some (FF (H.length+1) H2.length nodes 0 0):=Ld
   have LI:nD H3.length (H.length+1) H2.length s order last nodes H4 ((0:Nat):Int) 0:=⟨g4p,⟨_,_,g4t⟩,⟨_,g4m⟩,ω,ω,ω⟩
   have pre: ∀{q:Option Nat×Hp} {r},Ev (λn=>dZ n H3.length 0 ⟨none,none⟩ H4) q->Ev (λfuel=>bz (λ(j8:(Option Nat)×Bool)=>
     bif j8.2 then
      (bE (cI .i64).cell q.2 H3.length 4).bind λx11=>
      some ((none,x11,12),q.2)
     else
      (bE (cI .i64).cell q.2 H3.length 2).bind λx12=>
      bif (decide (x12<(nodes.length:Int)))then
       (bE (cI .i64).cell q.2 H3.length 2).bind λx13=>
       some ((none,x13,12),q.2)
      else
       (bE cM.cell q.2 H3.length 3).bind λx14=>
       (EM (kI .i64) cB q.2 x14).bind λq15=>
       bif (decide (q15>500))then
        some ((none,0,4),q.2)
       else
        (bE cM.cell q.2 H3.length 3).bind λx16=>
        (EM (kI .i64) cB q.2 x16).bind λq17=>
        (ee cP q.2 (H.length+1) 4 j8.1).bind λH18=>
        (ee (cI .i64) H18 (H.length+1) 6 q17).bind λH19=>
        (hZ fuel s.aG).bind λr20=>
        (ee (cL 1 (cI .i64)) H19 (H.length+1) 0 r20).bind λH21=>
        some (((some (H.length+1)),(-1),0),H21)) λjp9=>
     (Option.elim q.1
      (jp9 (none,true))
     (λi10=>
      jp9 ((some i10),false)))) r->Ev (λf=>mC f s order last nodes H) r:=by
    intro q r h1 h2
    unfold mC
    exact .bind N<|.f rfl<|.f χ<|.ae rfl<|.ae s5<|.ae rfl<|.ae rfl<|.ae rfl<|.bind h1 h2
   by_cases h0:nodes.length=0
   .rw[if_pos h0]
    refine⟨none,_,pre (q:=(none,H4.set H3.length (FF (H.length+1) H2.length nodes 0 0))) ?_ (.bz<|.rF<|.t rfl<|.ae (LI.put 0 0).bd (.pure _)),λh=>by cases h⟩
    refine m7 (g:=λn=>fQ n (dZ n) H3.length 0 ⟨none,none⟩ H4) (λn=>rfl) ?_
    unfold fQ
    exact .ae LI.M0<|.ae LI.ji<|.t (by simp[q_3.1 h0])<|.ae (LI.En 0) (.pure _)
   .rw[if_neg h0]
    have L:=Dr hs hc.1 hc.2.1 hN nodes.length 0 0 none none [] H4 0 ω ω wj wj LI g4m
    cases hw:wk s order last nodes nodes.length 0 0 none none []with
    |inl b=>
     rw[hw]at L
     obtain⟨H',nx',L1,L2⟩:=L
     simp only
     exact⟨none,H',pre L1 (.bz<|.rF<|.t rfl<|.ae L2.bd (.pure _)),λh=>by cases h⟩
    |inr q=>
     obtain⟨z,met⟩:=q
     rw[hw]at L
     obtain⟨H',i,lv,bad',L1,L2,L3,L4,L5,L6⟩:=L
     simp only
     have hlen:EM (kI .i64) cB H' (some H2.length)=some ((met.length:Nat):Int):=by
      rw[QC L3];simp[Jb]
     by_cases hz:z<nodes.length
     .rw[if_pos hz]
      exact⟨none,H',pre L1 (.bz<|.mw<|.f rfl<|.ae L2.M0<|.t (gu hz)<|.ae L2.M0 (.pure _)),λh=>by cases h⟩
     .rw[if_neg hz]
      by_cases hm:500<met.length
      .rw[if_pos hm]
       exact⟨none,H',pre L1 (.bz<|.mw<|.f rfl<|.ae L2.M0<|.f (oY ω)<|.ae L2.mp<|.ae hlen<|.t χ (.pure _)),λh=>by cases h⟩
      .rw[if_neg hm]
       have e0:H'[H.length+1]? =some (ki s order (some H.length) last 0):=by grind
       let H5:Hp:=H'.set (H.length+1) (ki s order (some i) last 0)
       have s1:ee cP H' (H.length+1) 4 (some i)=some H5:=gQ e0 (by simp[cP,D.cells])
       have e1:H5[H.length+1]? =some (ki s order (some i) last 0):=dU e0
       let H6:Hp:=H5.set (H.length+1) (ki s order (some i) last (met.length:Nat))
       have s2:ee (cI .i64) H5 (H.length+1) 6 ((met.length:Nat):Int)=some H6:=gQ e1 (by simp[cI,D.cells])
       have e2:H6[H.length+1]? =some (ki s order (some i) last (met.length:Nat)):=dU e1
       let H7:Hp:=H6.set (H.length+1) (ki s order (some i) last (met.length:Nat))
       have s3:ee (cL 1 (cI .i64)) H6 (H.length+1) 0 s.aG=some H7:=gQ e2 (by simp[cL,D.cells])
       have e3: ∀j,j≠H.length+1->H7[j]? =H'[j]? :=λj hj=>by
        grind
       refine⟨some (H.length+1),H7,pre L1 (.bz<|.mw<|.f rfl<|.ae L2.M0<|.f (oY ω)<|.ae L2.mp<|.ae hlen<|.f χ<|
        .ae L2.mp<|.ae hlen<|.ae s1<|.ae s2<|.bind (.of λn=>KW n hk)<|.ae s3 (.pure _)),λ_=>?_⟩
       refine⟨i,z,met,rfl,rfl,ω,dU e2,λj hj=>?_,?_,H4.length,lv,ω,L4.frame λj j1 j2=>e3 j ω⟩
       .rw[e3 j ω,L6 j ω ω ω]
        grind
       grind
  .rw[if_neg hc]
   by_cases ho:3<=order/\order<=32
   .rw[if_pos ho]at N
    refine⟨none,(H++[dT [] []])++[ki s order (some H.length) 0 0],?_,λh=>by cases h⟩
    unfold mC
    exact .bind N<|.f rfl<|.t χ (.pure _)
   .rw[if_neg ho]at N
    refine⟨none,H,?_,λh=>by cases h⟩
    unfold mC
    exact .bind N<|.t rfl (.pure _)
def fu(h:HN b nodes H lv a z i): ∃x is,nodes[a]? =some x/\H[i]? =some (dT x.Entries is)/\x.Level=(lv:Int)/\(lv=0->is=[]/\x.Kids=[]/\z=a+1)/\(lv≠0->x.Kids.length=x.Entries.length+1)/\zn (HN b nodes H (lv - 1)) x.Kids is (a+1) z:=by
 cases lv with
 |zero=>
  obtain⟨x,h1,h2,h3,h4,h5,h6⟩:=h
  exact⟨x,[],h1,h4,by simpa using h2,λ_=>⟨rfl,h3,h5⟩,λh=>absurd rfl h,by rw[h3];exact h5.symm⟩
 |succ lv=>
  obtain⟨x,is,h1,h2,h3,h4,h5,h6⟩:=h
  grind
def zn.len{P:Nat->Nat->Nat->Prop}: ∀{ks:List Int} {is:List (Option Nat)} {a z:Nat},zn P ks is a z->is.length=ks.length
 |[],[],a,z,hh=>rfl
 |k::ks,some i::is,a,z,hh=>by
  obtain⟨h1,m,h2,h3⟩:=hh
  simp[zn.len h3]
 |[],some _::_,_,_,hh=>hh.elim
 |[],none::_,_,_,hh=>hh.elim
 |_::_,[],_,_,hh=>hh.elim
 |_::_,none::_,_,_,hh=>hh.elim
def ew(h:H[i]? =some (dT es is)):Ev (λf=>cT f i H) (decide (is=[])):=by
 unfold cT
 refine .ae (fv h rfl) ?_
 have:((is.length:Int)==0)=decide (is=[]):=by
  cases is<;>simp
  omega
 rw[this]
 exact .pure _
def Ds: ∀(lv a z i:Nat) (c:Nat),c+lv<1000000->HN b nodes H lv a z i->mi (λf=>gS f H) ((c:Int),some i) ((c+lv:Nat):Int)
 |0,a,z,i,c,hc,h=>by
  obtain⟨x,is,h1,h2,h3,h4,h5,h6⟩:=fu h
  obtain⟨rfl,-,-⟩:=h4 rfl
  refine .stop ?_
  unfold gS
  exact .ae rfl<|.bind (ew h2)<|.f rfl (.pure _)
 |lv+1,a,z,i,c,hc,h=>by
  obtain⟨x,is,h1,h2,h3,h4,h5,h6⟩:=fu h
  have h5:=h5 ω
  have hl:=h6.len
  match is,hl,h6,h2 with
  |[],hl,_,_=>simp at hl;omega
  |none::is,hl,h6,_=>
   cases hk:x.Kids with
   |nil=>rw[hk]at h5;simp at h5
   |cons k ks=>rw[hk]at h6;exact h6.elim
  |some j::is,hl,h6,h2=>
   cases hk:x.Kids with
   |nil=>rw[hk]at h5;simp at h5
   |cons k ks=>
    rw[hk]at h6
    obtain⟨_,m,hP,_⟩:=h6
    have ih:=Ds lv (a+1) m j (c+1) ω hP
    rw[show c+(lv+1)=c+1+lv by omega]
    refine .next ?_ ih
    unfold gS
    refine .ae rfl<|.bind (ew h2)<|.t rfl<|.ae (fv h2 rfl)<|.ae rfl ?_
    rw[eC ω]
    exact .pure _
def BI(hl:es.length<1000)(hr: ∀e∈es,e.Row.length<1000)(lv:Int): ∀(l:List Entry) (k:Nat),es.drop k=l->k<=es.length->
  mi (λf=>gy f es) (lv,es.take k,(k:Int)) (lv,es)
 |[],k,hd,hk=>by
  have hk2:es.length<=k:=by simpa using hd
  rw[p_1 hk2]
  refine .stop ?_
  unfold gy
  exact .f (oY hk2) (.pure _)
 |e::l,k,hd,hk=>by
  have hk1:k<es.length:=by
   grind
  have hek:es[k]=e:=by rw[aZ hk1]at hd;exact(j_1 hd).1
  have hdl:es.drop (k+1)=l:=by rw[aZ hk1]at hd;exact(j_1 hd).2
  have he:=hr e (hek▸j_0 hk1)
  refine .next ?_ (BI hl hr lv l (k+1) hdl ω)
  unfold gy
  refine .t (gu hk1)<|.ae (aH hk1) ?_
  rw[hek]
  refine .bind (IY e he)<|.ff (by simp[room];omega) ?_
  rw[eC ω,<-hek,q_8 hk1]
  exact .pure _
def HN.lt: ∀{lv a z i:Nat},HN b nodes H lv a z i->a<z/\z<=nodes.length
 |0,a,z,i,h=>by
  obtain⟨x,h1,_,_,_,h5,_⟩:=h
  grind
 |lv+1,a,z,i,h=>by
  obtain⟨x,is,h1,h2,h3,h4,h5,h6⟩:=h
  have hk: ∀{ks:List Int} {is:List (Option Nat)} {a z:Nat},a<=nodes.length->zn (HN b nodes H lv) ks is a z->a<=z/\z<=nodes.length:=by
   intro ks
   induction ks with
   |nil=>
    intro is a z ha hh
    cases is with
    |nil=>cases hh;exact⟨h_0 _,ha⟩
    |cons i is=>cases i<;>exact hh.elim
   |cons k ks ih=>
    intro is a z ha hh
    cases is with
    |nil=>exact hh.elim
    |cons i is=>
     cases i with
     |none=>exact hh.elim
     |some i=>
      obtain⟨_,m,q1,q2⟩:=hh
      have l1:=HN.lt q1
      grind
  grind
def zt(nodes:List Node)(a z:Nat):List Node:=(nodes.drop a).take (z - a)
def Qa(h1:a<=b)(h2:b<=c):zt nodes a b++zt nodes b c=zt nodes a c:=by
 unfold zt
 rw[show c - a=(b - a)+(c - b)by omega,List.take_add,List.drop_drop,show a+(b - a)=b by omega]
def Kf(h:nodes[a]? =some x)(hz:a<z):zt nodes a z=x::zt nodes (a+1) z:=by
 have ha:=(g_5.1 h).1
 have hx:nodes[a]=x:=(g_5.1 h).2
 unfold zt
 rw[aZ ha,hx,show z - a=(z - (a+1))+1 by omega,List.take_succ_cons]
def Qs(l:List Node)(y:Node)(r:List Node):(l++y::r)[l.length]? =some y:=by simp
def Qr(l:List Node)(y y':Node)(r:List Node):(l++y::r).set l.length y'=l++y'::r:=by simp
def BE{α:Type}{F:Nat->Nat->Option α}{g:Nat->Nat->Option α}{r:α}(h: ∀n s,F n (s+1)=g n s)(hg:Ev (λn=>g n (n - (d+1))) r):Ev (λn=>F n (n - d)) r:=by
 obtain⟨N,hN⟩:=hg
 refine⟨max N (d+1),λn hn=>?_⟩
 have:n - d=(n - (d+1))+1:=by omega
 grind
def LV(hN:Cq nodes): ∀(lv a z i:Nat) (l:List Node) (d:Nat),HN b nodes H lv a z i->l.length=a->
  Ev (λn=>nj n H (n - d) i (lv:Int) l) ((a:Int),l++zt nodes a z):=by
 intro lv
 induction lv with
 |zero=>
  intro a z i l d h hl
  obtain⟨x,is,h1,h2,h3,h4,h5,h6⟩:=fu h
  obtain⟨rfl,hk,rfl⟩:=h4 rfl
  have hxm:x∈nodes:=k_2 h1
  obtain⟨b1,b2,b3,b4⟩:=hN.2 x hxm
  have ha:=(g_5.1 h1).1
  have hN1:=hN.1
  refine BE (F:=λn s=>nj n H s i ((0:Nat):Int) l) (g:=λn s=>_) (λn s=>rfl) ?_
  refine .ae (fv h2 rfl)<|.bind (BI b1 (λe he=>(b4 e he).1) _ x.Entries 0 rfl ω).ev<|.ff (by simp[room];omega)<|.ae (fv h2 rfl) ?_
  refine .bind (a:=l++[⟨((0:Nat):Int),x.Entries,[]⟩]) (mi.ev (mi.stop ?_)) ?_
  .unfold mB
   exact .f ψ (.pure _)
  .rw[hl,Kf h1 ω]
   have:zt nodes (a+1) (a+1)=[]:=by unfold zt;simp
   rw[this]
   have hx:(⟨((0:Nat):Int),x.Entries,[]⟩:Node)=x:=by
    cases x with
    |mk L E K=>simp only at h3 hk;rw[h3,hk]
   rw[hx]
   exact .pure _
 |succ lv ih=>
  intro a z i l d h hl
  obtain⟨x,is,h1,h2,h3,h4,h5,h6⟩:=fu h
  have h5:=h5 ω
  have hlt:=h.lt
  have hxm:x∈nodes:=k_2 h1
  obtain⟨b1,b2,b3,b4⟩:=hN.2 x hxm
  have ha:=(g_5.1 h1).1
  have hN1:=hN.1
  have hil:=h6.len
  have kids: ∀(ks:List Int) (is':List (Option Nat)) (j aj:Nat),x.Kids.drop j=ks->is.drop j=is'->j<=x.Kids.length->a+1<=aj->zn (HN b nodes H lv) ks is' aj z->
    mi (λn=>mB (nj n H (n - (d+1))) ((lv+1:Nat):Int) l.length is) ((j:Int),l++⟨((lv+1:Nat):Int),x.Entries,x.Kids.take j⟩::zt nodes (a+1) aj)
     (l++⟨((lv+1:Nat):Int),x.Entries,x.Kids⟩::zt nodes (a+1) z):=by
   intro ks
   induction ks with
   |nil=>
    intro is' j aj hd hd' hj haj hh
    have hj2:x.Kids.length<=j:=by simpa using hd
    cases is' with
    |cons q qs=>cases q<;>exact hh.elim
    |nil=>
     cases hh
     refine .stop ?_
     unfold mB
     rw[p_1 hj2]
     exact .f (oY ω) (.pure _)
   |cons k ks ihk=>
    intro is' j aj hd hd' hj haj hh
    have hj1:j<x.Kids.length:=by
     grind
    have hj2:j<is.length:=by omega
    have hek:x.Kids[j]=k:=by rw[aZ hj1]at hd;exact(j_1 hd).1
    have hdl:x.Kids.drop (j+1)=ks:=by rw[aZ hj1]at hd;exact(j_1 hd).2
    cases is' with
    |nil=>exact hh.elim
    |cons q qs=>
     have hei:is[j]=q:=by rw[aZ hj2]at hd';exact(j_1 hd').1
     have hdi:is.drop (j+1)=qs:=by rw[aZ hj2]at hd';exact(j_1 hd').2
     cases q with
     |none=>exact hh.elim
     |some q=>
      obtain⟨hk,mm,q1,q2⟩:=hh
      have l1:=q1.lt
      have R:=ih aj mm q (l++⟨((lv+1:Nat):Int),x.Entries,x.Kids.take j⟩::zt nodes (a+1) aj) (d+1) q1 (by simp[zt,hl];omega)
      have N:=ihk qs (j+1) mm hdl hdi ω ω q2
      refine .next ?_ N
      unfold mB
      refine .t (gu hj2)<|.ae (aH hj2) ?_
      rw[hei,eo (x:=((lv+1:Nat):Int) - 1) ω (by unfold i64 at b3;omega),show((lv+1:Nat):Int) - 1=(lv:Int)by omega,eC ω]
      refine .ae rfl<|.bind R ?_
      have e1:(l++(⟨((lv+1:Nat):Int),x.Entries,x.Kids.take j⟩:Node)::zt nodes (a+1) aj)++zt nodes aj mm=l++(⟨((lv+1:Nat):Int),x.Entries,x.Kids.take j⟩:Node)::zt nodes (a+1) mm:=by
       rw[j_2,m_7,Qa ω ω]
      have e2:ye (l++(⟨((lv+1:Nat):Int),x.Entries,x.Kids.take j⟩:Node)::zt nodes (a+1) mm) l.length (aj:Int)=some (l++(⟨((lv+1:Nat):Int),x.Entries,x.Kids.take (j+1)⟩:Node)::zt nodes (a+1) mm):=by
       unfold ye
       rw[Qs]
       simp only[Qr]
       rw[<-hk,<-hek,q_8 hj1]
       show Go.Sh.ff (decide ((x.Kids.take (j+1)).length<=room)) _=_
       rw[show decide ((x.Kids.take (j+1)).length<=room)=true by simp[room];omega]
       rfl
      show Ev (λn=>(ye ((l++(⟨((lv+1:Nat):Int),x.Entries,x.Kids.take j⟩:Node)::zt nodes (a+1) aj)++zt nodes aj mm) l.length (aj:Int)).bind _) _
      rw[e1]
      exact .ae e2 (.pure _)
  refine BE (F:=λn s=>nj n H s i ((lv+1:Nat):Int) l) (g:=λn s=>_) (λn s=>rfl) ?_
  refine .ae (fv h2 rfl)<|.bind (BI b1 (λe he=>(b4 e he).1) _ x.Entries 0 rfl ω).ev<|.ff (by simp[room];omega)<|.ae (fv h2 rfl) ?_
  have K:=kids x.Kids is 0 (a+1) rfl rfl ω ω h6
  have e0:zt nodes (a+1) (a+1)=[]:=by unfold zt;simp
  rw[e0]at K
  refine .bind K.ev ?_
  have hx:(⟨((lv+1:Nat):Int),x.Entries,x.Kids⟩:Node)=x:=by
   cases x with
   |mk L E K=>simp only at h3;rw[h3]
  rw[hx,hl,<-Kf h1 hlt.1]
  exact .pure _
def oG:List Entry->List (List Entry)->List Entry
 |[],_=>[]
 |e::es,[]=>e::oG es []
 |e::es,k::ks=>k++e::oG es ks
def fU(es:List Entry)(ks:List (List Entry)):List Entry:=oG es ks++(ks.drop es.length).flatten
def kz(nodes:List Node):Nat->Nat->List Entry
 |0,a=>match nodes[a]? with|some x=>x.Entries|none=>[]
 |lv+1,a=>match nodes[a]? with|some x=>fU x.Entries (x.Kids.map λ(k:Int)=>kz nodes lv k.toNat)|none=>[]
def vE: ∀es:List Entry,oG es []=es
 |[]=>rfl
 |e::es=>by simp[oG,vE es]
def xi: ∀(es:List Entry) (ks:List (List Entry)),(fU es ks).length=es.length+(ks.map List.length).sum
 |[],ks=>by simp[fU,oG,List.length_flatten]
 |e::es,[]=>by simp[fU,vE]
 |e::es,k::ks=>by
  have:=xi es ks
  unfold fU at this ⊢
  simp only[oG,j_4,List.drop_succ_cons,h_9,h_3,List.sum_cons]at this ⊢
  omega
def vl(h:HN b nodes H lv a z i)(hx:nodes[a]? =some x):kz nodes lv a=fU x.Entries (x.Kids.map λ(k:Int)=>kz nodes (lv - 1) k.toNat):=by
 cases lv with
 |zero=>
  obtain⟨y,h1,h2,h3,-⟩:=h
  rw[hx]at h1;cases h1
  unfold kz
  rw[hx,h3]
  simp[fU,vE]
 |succ lv=>
  show(match nodes[a]? with|some x=>fU x.Entries (x.Kids.map λ(k:Int)=>kz nodes lv k.toNat)|none=>[])=_
  rw[hx];rfl
def wC(hN:Cq nodes): ∀{lv a z i:Nat},HN b nodes H lv a z i->(kz nodes lv a).length<=1000 * (z - a):=by
 intro lv
 induction lv with
 |zero=>
  intro a z i h
  obtain⟨x,h1,h2,h3,h4,h5,h6⟩:=h
  have:=(hN.2 x (k_2 h1)).1
  unfold kz
  rw[h1,h5]
  simp only
  omega
 |succ lv ih=>
  intro a z i h
  have hlt:=h.lt
  obtain⟨x,is,h1,h2,h3,h4,h5,h6⟩:=fu h
  have hb:=(hN.2 x (k_2 h1)).1
  rw[vl h h1,xi]
  have kids: ∀{ks:List Int} {is:List (Option Nat)} {c:Nat},zn (HN b nodes H lv) ks is c z->c<=z/\((ks.map λ(k:Int)=>kz nodes lv k.toNat).map List.length).sum<=1000 * (z - c):=by
   intro ks
   induction ks with
   |nil=>
    intro is c hh
    cases is with
    |nil=>cases hh;simp
    |cons q qs=>cases q<;>exact hh.elim
   |cons k ks ihk=>
    intro is c hh
    cases is with
    |nil=>exact hh.elim
    |cons q qs=>
     cases q with
     |none=>exact hh.elim
     |some q=>
      obtain⟨hk,mm,q1,q2⟩:=hh
      have l1:=q1.lt
      grind
  grind
def zn.at{P:Nat->Nat->Nat->Prop}: ∀{ks:List Int} {is:List (Option Nat)} {a z:Nat} (h:zn P ks is a z) (j:Nat) (hj:j<ks.length),∃(c m i:Nat),ks[j]? =some (c:Int)/\is[j]? =some (some i)/\P c m i
 |k::ks,some i::is,a,z,hh,0,hj=>by
  obtain⟨h1,m,h2,h3⟩:=hh
  grind
 |k::ks,some i::is,a,z,hh,j+1,hj=>by
  obtain⟨h1,m,h2,h3⟩:=hh
  obtain⟨c,m',i',e1,e2,e3⟩:=zn.at h3 j (by simpa using hj)
  grind
 |_::_,[],_,_,hh,_,_=>hh.elim
 |_::_,none::_,_,_,hh,_,_=>hh.elim
def ID(hN:Cq nodes): ∀(lv a z i:Nat),HN b nodes H lv a z i->Ev (λn=>jS n nodes (a:Int)) (kz nodes lv a):=by
 intro lv
 induction lv with
 |zero=>
  intro a z i h
  obtain⟨x,is,h1,h2,h3,h4,h5,h6⟩:=fu h
  obtain⟨-,hk,-⟩:=h4 rfl
  have hb:=(hN.2 x (k_2 h1)).1
  have L: ∀(l:List Entry) (k:Nat),x.Entries.drop k=l->k<=x.Entries.length->mi (λn=>gB n (jS n) nodes x) (x.Entries.take k,(k:Int)) x.Entries:=by
   intro l
   induction l with
   |nil=>
    intro k hd hk0
    have hk2:x.Entries.length<=k:=by simpa using hd
    rw[p_1 hk2]
    refine .stop ?_
    unfold gB
    exact .f (oY hk2) (.pure _)
   |cons e l ih=>
    intro k hd hk0
    have hk1:k<x.Entries.length:=by
     grind
    have hdl:x.Entries.drop (k+1)=l:=by rw[aZ hk1]at hd;exact(j_1 hd).2
    refine .next ?_ (ih (k+1) hdl ω)
    unfold gB
    refine .t (gu hk1)<|.f (by simp[hk])<|.ae (aH hk1)<|.ff (by simp[room];omega) ?_
    rw[eC ω,q_8 hk1]
    exact .pure _
  have hx:kz nodes 0 a=x.Entries:=by unfold kz;rw[h1]
  rw[hx]
  refine m7 (g:=λn=>ju n (jS n) nodes (a:Int)) (λn=>rfl) ?_
  unfold ju
  exact .ae (fe h1)<|.bind (L x.Entries 0 rfl ω).ev<|.f (by simp[hk]) (.pure _)
 |succ lv ih=>
  intro a z i h
  have hlen:=wC hN h
  have hlt:=h.lt
  have hN1:=hN.1
  obtain⟨x,is,h1,h2,h3,h4,h5,h6⟩:=fu h
  have h5:=h5 ω
  have hb:=(hN.2 x (k_2 h1)).1
  rw[vl h h1]at hlen ⊢
  simp only[Nat.add_sub_cancel]at h6 hlen ⊢
  have K: ∀j,(hj:j<x.Kids.length)->Ev (λn=>jS n nodes x.Kids[j]) (kz nodes lv x.Kids[j].toNat):=by
   intro j hj
   obtain⟨c,m,i',e1,e2,e3⟩:=h6.at j hj
   grind
  have tot: ∀(es:List Entry) (ks:List (List Entry)),(oG es ks).length<=(fU es ks).length:=λes ks=>by unfold fU;simp
  have L: ∀(l:List Entry) (k:Nat) (out:List Entry),x.Entries.drop k=l->k<=x.Entries.length->
    out.length+(oG l ((x.Kids.map λ(k:Int)=>kz nodes lv k.toNat).drop k)).length<=1000000->
    mi (λn=>gB n (jS n) nodes x) (out,(k:Int)) (out++oG l ((x.Kids.map λ(k:Int)=>kz nodes lv k.toNat).drop k)):=by
   intro l
   induction l with
   |nil=>
    intro k out hd hk0 hb2
    have hk2:x.Entries.length<=k:=by simpa using hd
    simp only[oG,p_4]
    refine .stop ?_
    unfold gB
    exact .f (oY hk2) (.pure _)
   |cons e l ihl=>
    intro k out hd hk0 hb2
    have hk1:k<x.Entries.length:=by
     grind
    have hek:x.Entries[k]=e:=by rw[aZ hk1]at hd;exact(j_1 hd).1
    have hdl:x.Entries.drop (k+1)=l:=by rw[aZ hk1]at hd;exact(j_1 hd).2
    have hk3:k<x.Kids.length:=by omega
    have hdk:(x.Kids.map λ(k:Int)=>kz nodes lv k.toNat).drop k=kz nodes lv x.Kids[k].toNat::(x.Kids.map λ(k:Int)=>kz nodes lv k.toNat).drop (k+1):=by
     rw[aZ (by simpa using hk3)];simp
    rw[hdk]at hb2 ⊢
    simp only[oG,h_9,j_4]at hb2 ⊢
    have N:=ihl (k+1) (out++kz nodes lv x.Kids[k].toNat++[e]) hdl ω χ
    rw[show out++(kz nodes lv x.Kids[k].toNat++e::oG l ((x.Kids.map λ(k:Int)=>kz nodes lv k.toNat).drop (k+1)))=out++kz nodes lv x.Kids[k].toNat++[e]++oG l ((x.Kids.map λ(k:Int)=>kz nodes lv k.toNat).drop (k+1))by simp]
    refine .next ?_ N
    unfold gB
    refine .t (gu hk1)<|.t χ<|.ae (aH hk3)<|.bind (K k hk3)<|.ff (by simp[room];omega)<|.ae (aH hk1) ?_
    rw[hek,eC ω]
    exact .ff (by simp[room];omega) (.pure _)
  have hL:=L x.Entries 0 [] rfl ω (by
   grind)
  simp only[q_1,m_5]at hL
  have hlast:x.Entries.length<x.Kids.length:=by omega
  have hfin:fU x.Entries (x.Kids.map λ(k:Int)=>kz nodes lv k.toNat)=oG x.Entries (x.Kids.map λ(k:Int)=>kz nodes lv k.toNat)++kz nodes lv (x.Kids[x.Entries.length]'hlast).toNat:=by
   unfold fU
   rw[aZ (by simpa using hlast),List.drop_eq_nil_of_le χ]
   simp
  rw[hfin]at hlen ⊢
  refine m7 (g:=λn=>ju n (jS n) nodes (a:Int)) (λn=>rfl) ?_
  unfold ju
  refine .ae (fe h1)<|.bind hL.ev<|.t χ ?_
  rw[eo ω φ,show(x.Kids.length:Int) - 1=(x.Entries.length:Int)by omega]
  refine .ae (aH hlast)<|.bind (K _ hlast)<|.ff ?_ (.pure _)
  simp only[h_9,room,decide_eq_true_eq]at hlen ⊢
  omega
def uR(e:Entry)(es:List Entry): ∀ks:List (List Entry),fU (e::es) ks=ks.headD []++e::fU es ks.tail
 |[]=>by simp[fU,oG]
 |k::ks=>by simp[fU,oG]
def Lx: ∀ks:List (List Entry),ks.length<=1->fU [] ks=ks.headD []
 |[],_=>rfl
 |[k],_=>by simp[fU,oG]
 |_::_::_,h=>by simp at h
def Kp(H:Hp)(l:List Entry):Hp:=(H++[.cells [.own 3 (l.map ab)]])++[.hole]
def vj{H:Hp}{l:List Entry}{i:Nat}{o:aN}(h:H[i]? =some o):(Kp H l)[i]? =some o:=by
 have hi:=(g_5.1 h).1
 unfold Kp
 grind
def Je:(Kp H l)[H.length]? =some (.cells [.own 3 (l.map ab)]):=by
 unfold Kp
 grind
def Sn:(Kp H l).set H.length (.cells [.own 3 (l'.map ab)])=Kp H l':=by
 unfold Kp
 simp
def QR(hq:q1.2=H.length)(he:e.Row.length<1000)(hl:l.length<1000000):Ev (λn=>(ea n q1 e (Kp H l)).map (Prod.mk true)) (true,Kp H (l++[e])):=by
 have key:Ev (λn=>ea n q1 e (Kp H l)) (Kp H (l++[e])):=by
  unfold ea
  rw[hq]
  have ht:dQ 3 aP (Kp H l) H.length 0=some (l,(Kp H l).set H.length (.cells [.undef])):=oT Je rfl
  have hg:dh 3 aP ((Kp H l).set H.length (.cells [.undef])) H.length 0 (l++[e])=some (Kp H (l++[e])):=by
   have e0:=Sn (H:=H) (l:=l) (l':=l++[e])
   rw[jG (dU Je) ψ,m_9,<-e0]
   rfl
  exact .ae ht<|.bind (IY e he)<|.ff (by simp[room];omega)<|.ae hg (.pure _)
 obtain⟨N,hN⟩:=key
 exact⟨N,λn hn=>by grind⟩
def OY{b:Nat}{nodes:List Node}{H:Hp}{q1:Hp×Nat}(hq:q1.2=H.length)(hN:Cq nodes): ∀(lv a z i:Nat) (l:List Entry) (d:Nat),HN b nodes H lv a z i->l.length+(kz nodes lv a).length<1000000->
  Ev (λn=>gw n (λe H=>(ea n q1 e H).map (Prod.mk true)) (n - d) i (Kp H l)) (true,Kp H (l++kz nodes lv a)):=by
 intro lv
 induction lv using Nat.strongRecOn with
 |ind lv ih=>
  intro a z i l0 d h hlen
  obtain⟨x,is,h1,h2,h3,h4,h5,h6⟩:=fu h
  obtain⟨hb,hb2,hb3,hb4⟩:=hN.2 x (k_2 h1)
  rw[vl h h1]at hlen ⊢
  have hil:=h6.len
  let kl:List (List Entry):=x.Kids.map λ(k:Int)=>kz nodes (lv - 1) k.toNat
  have hkl:kl.length=x.Kids.length:=by simp[kl]
  have hk01:x.Kids.length=0\/x.Kids.length=x.Entries.length+1:=by
   grind
  have qst: ∀(k:Nat) (l:List Entry),k<=x.Entries.length->l.length+((kl.drop k).headD []).length<1000000->
    Ev (λn=>cond (decide (is=[])) (some (true,Kp H l)) ((bL 1 cP (Kp H l) i 1).bind λks=>(idx ks (k:Int)).bind λkk=>kk.bind λkk=>gw n (λe H=>(ea n q1 e H).map (Prod.mk true)) (n - (d+1)) kk (Kp H l))) (true,Kp H (l++(kl.drop k).headD [])):=by
   intro k l hk hl
   by_cases he:is=[]
   .have hk0:kl=[]:=by
     grind
    rw[hk0]
    refine .t (by simp[he]) ?_
    simp only[List.drop_nil,List.headD_nil,p_4]
    exact .pure _
   .have hne:is.length≠0:=λe=>he (q_3.1 e)
    have hkk:k<x.Kids.length:=by omega
    have hlv:lv≠0:=λe=>he (h4 e).1
    obtain⟨c,m,i',e1,e2,e3⟩:=h6.at k hkk
    rw[g_6 hkk,g_2]at e1
    have hd:(kl.drop k).headD []=kz nodes (lv - 1) c:=by
     rw[aZ ω]
     simp[kl,e1]
    rw[hd]at hl ⊢
    exact .f (by simp[he])<|.ae (fv (vj h2) rfl)<|.ae (fe e2)<|.ae rfl<|ih (lv - 1) ω c m i' l (d+1) e3 hl
  have L: ∀(es:List Entry) (k:Nat) (l:List Entry),x.Entries.drop k=es->k<=x.Entries.length->l.length+(fU es (kl.drop k)).length<1000000->
    mi (λn=>dY n (λe H=>(ea n q1 e H).map (Prod.mk true)) (gw n (λe H=>(ea n q1 e H).map (Prod.mk true)) (n - (d+1))) i (((x.Entries.length+1:Nat):Int))) ((k:Int),Kp H l) (true,Kp H (l++fU es (kl.drop k))):=by
   intro es
   induction es with
   |nil=>
    intro k l hd hk hl
    have hk2:k=x.Entries.length:=by
     have:x.Entries.length<=k:=by simpa using hd
     omega
    have hw:fU [] (kl.drop k)=(kl.drop k).headD []:=Lx _ χ
    rw[hw]at hl ⊢
    refine .next (y:=(((k+1:Nat):Int),Kp H (l++(kl.drop k).headD []))) ?_ (.stop ?_)
    .unfold dY
     refine .t (gu ω)<|.bind (ew (vj h2))<|.bind (qst k l hk hl)<|.t rfl<|.ae (fv (vj h2) rfl)<|.f (oY ω) ?_
     rw[eC ω]
     exact .pure _
    .unfold dY
     exact .f (oY ω) (.pure _)
   |cons e es ihe=>
    intro k l hd hk hl
    have hk1:k<x.Entries.length:=by
     grind
    have hek:x.Entries[k]=e:=by rw[aZ hk1]at hd;exact(j_1 hd).1
    have hdl:x.Entries.drop (k+1)=es:=by rw[aZ hk1]at hd;exact(j_1 hd).2
    have he:=(hb4 e (hek▸j_0 hk1)).1
    have htl:(kl.drop k).tail=kl.drop (k+1):=by simp
    rw[uR,htl]at hl ⊢
    simp only[h_9,j_4]at hl
    have N:=ihe (k+1) (l++(kl.drop k).headD []++[e]) hdl ω φ
    rw[show l++((kl.drop k).headD []++e::fU es (kl.drop (k+1)))=l++(kl.drop k).headD []++[e]++fU es (kl.drop (k+1))by simp]
    refine .next ?_ N
    unfold dY
    refine .t (gu ω)<|.bind (ew (vj h2))<|.bind (qst k l hk ω)<|.t rfl<|.ae (fv (vj h2) rfl)<|.t (gu hk1)<|.ae (aH hk1) ?_
    rw[hek,eC ω]
    exact .bind (QR hq he φ)<|.t rfl (.pure _)
  have L0:=L x.Entries 0 l0 rfl ω hlen
  refine BE (F:=λn s=>gw n (λe H=>(ea n q1 e H).map (Prod.mk true)) s i (Kp H l0)) (g:=λn s=>_) (λn s=>rfl) ?_
  refine .ae (fv (vj h2) rfl) ?_
  rw[eC ω]
  exact L0.ev
def Ah{nodes:List Node}{H:Hp}{s:az}{order last:Int}: ∀(d a:Nat) (lv:Int) (lo hi:Option Entry) (met:List Int) (z:Nat) (met':List Int) (l z' i:Nat),
  wk s order last nodes d a lv lo hi met=.inr (z,met')->HN b nodes H l a z' i->z'=z/\met'.length=met.length+(kz nodes l a).length:=by
 intro d
 induction d with
 |zero=>intro a lv lo hi met z met' l z' i h _;cases h
 |succ d ih=>
  intro a lv lo hi met z met' l z' i h hh
  obtain⟨x,is,h1,h2,h3,h4,h5,h6⟩:=fu hh
  have hw:wk s order last nodes (d+1) a lv lo hi met=(match rL s order last (a==0) lv lo hi met x with
   |none=>.inl a
   |some met'=>qL nodes (wk s order last nodes d) a x lo hi x.Kids 0 (a+1) met'):=by
   show(match nodes[a]? with|none=>Sum.inl a|some x=>match rL s order last (a==0) lv lo hi met x with|none=>Sum.inl a|some met'=>qL nodes (wk s order last nodes d) a x lo hi x.Kids 0 (a+1) met')=_
   rw[h1]
  rw[hw]at h
  rw[vl hh h1,xi]
  cases ho:rL s order last (a==0) lv lo hi met x with
  |none=>rw[ho]at h;cases h
  |some m1=>
   rw[ho]at h
   have hm1:=A0 (Ez ho).2.2.2.2.2
   have kids: ∀(ks:List Int) (is:List (Option Nat)) (j c:Nat) (m2:List Int),zn (HN b nodes H (l - 1)) ks is c z'->qL nodes (wk s order last nodes d) a x lo hi ks j c m2=.inr (z,met')->
     z'=z/\met'.length=m2.length+((ks.map λ(k:Int)=>kz nodes (l - 1) k.toNat).map List.length).sum:=by
    intro ks
    induction ks with
    |nil=>
     intro is j c m2 hK hW
     cases is with
     |cons q qs=>cases q<;>exact hK.elim
     |nil=>
      cases hK
      simp only[qL,Sum.inr.injEq,g_8]at hW
      grind
    |cons k ks ihk=>
     intro is j c m2 hK hW
     cases is with
     |nil=>exact hK.elim
     |cons q qs=>
      cases q with
      |none=>exact hK.elim
      |some q=>
       obtain⟨hk,mm,q1,q2⟩:=hK
       simp only[qL]at hW
       grind
   grind
structure zH(s:az)(order last:Int)(nodes:List Node)(lv:Nat)(H:Hp)(tr:Nat):Prop where
 ob: ∃root,H[tr]? =some (ki s order (some root) last ((kz nodes lv 0).length:Nat))/\
  ∃b,HN b nodes H lv 0 nodes.length root
section
variable {s:az} {order last:Int} {nodes:List Node} {lv:Nat} {H:Hp} {tr:Nat}
def zH.app(h:zH s order last nodes lv H tr)(H':Hp)(hf: ∀(j:Nat) (o:aN),H[j]? =some o->H'[j]? =some o):zH s order last nodes lv H' tr:=by
 obtain⟨root,h1,b,h2⟩:=h.ob
 exact⟨root,hf _ _ h1,b,h2.frame λj _ hj=>by grind⟩
def Ow(h:zH s order last nodes lv H tr):Ev (λf=>lL f tr H) ((kz nodes lv 0).length:Nat):=by
 obtain⟨root,h1,b,h2⟩:=h.ob
 unfold lL
 exact .ae (dj (r:=[]) h1 rfl) (.pure _)
def EH(h:zH s order last nodes lv H tr):Ev (λf=>gz f tr H) last:=by
 obtain⟨root,h1,b,h2⟩:=h.ob
 unfold gz
 exact .ae (dj (r:=[.d (.int .i64 ((kz nodes lv 0).length:Nat))]) h1 rfl) (.pure _)
def HN.Bd{nodes:List Node}{H:Hp}: ∀{lv a z i:Nat},HN b nodes H lv a z i->a+lv<z
 |0,a,z,i,h=>by have:=h.lt;omega
 |lv+1,a,z,i,h=>by
  obtain⟨x,is,h1,h2,h3,h4,h5,h6⟩:=fu h
  have h5:=h5 ω
  have mono: ∀{ks:List Int} {is:List (Option Nat)} {u v:Nat},zn (HN b nodes H lv) ks is u v->u<=v:=by
   intro ks
   induction ks with
   |nil=>
    intro is u v hh
    cases is with
    |nil=>cases hh;exact h_0 _
    |cons q qs=>cases q<;>exact hh.elim
   |cons k ks ihk=>
    intro is u v hh
    cases is with
    |nil=>exact hh.elim
    |cons q qs=>
     cases q with
     |none=>exact hh.elim
     |some q=>
      obtain⟨_,m3,r1,r2⟩:=hh
      have:=r1.lt
      have:=ihk r2
      omega
  cases hk:x.Kids with
  |nil=>rw[hk]at h5;simp at h5
  |cons k ks=>
   rw[hk]at h6
   match is,h6 with
   |some q::qs,h6=>
    obtain⟨g1,mm,g2,g3⟩:=h6
    have:=HN.Bd g2
    have:=mono g3
    omega
def Be(hN:Cq nodes)(h:zH s order last nodes lv H tr):Ev (λf=>iS f tr H) ((1+lv:Nat):Int):=by
 obtain⟨root,h1,b,h2⟩:=h.ob
 have:=h2.Bd
 have hN1:=hN.1
 unfold iS
 exact .ae (dj (r:=[.d (.int .i64 last),.d (.int .i64 ((kz nodes lv 0).length:Nat))]) h1 rfl)<|.bind (Ds lv 0 nodes.length root 1 ω h2).ev (.pure _)
def tO(hN:Cq nodes)(h:zH s order last nodes lv H tr):Ev (λf=>eM f tr H) (nodes,H++[aN.hole,aN.hole]):=by
 obtain⟨root,h1,b,h2⟩:=h.ob
 have hlv:=h2.Bd
 have hN1:=hN.1
 have htr:=(g_5.1 h1).1
 have f1: ∀(j:Nat) (o:aN),H[j]? =some o->((H++[aN.hole,aN.hole]).set H.length (aN.cells [.own 3 []]))[j]? =some o:=λj o hj=>by
  grind
 have f2: ∀(j:Nat) (o:aN),H[j]? =some o->(H++[aN.hole,aN.hole])[j]? =some o:=λj o hj=>by
  grind
 have T1:=h.app _ f1
 have h3:HN b nodes (H++[aN.hole,aN.hole]) lv 0 nodes.length root:=h2.frame λj _ hj=>by grind
 have R:=LV hN lv 0 nodes.length root [] 0 h3 rfl
 have hseg:([]:List Node)++zt nodes 0 nodes.length=nodes:=by simp[zt]
 rw[hseg]at R
 unfold eM
 refine .ae (dj (r:=[.d (.int .i64 last),.d (.int .i64 ((kz nodes lv 0).length:Nat))]) (f1 _ _ h1) rfl)<|.ae rfl<|.bind (Be hN T1) ?_
 rw[eo ω ω,show((1+lv:Nat):Int) - 1=(lv:Int)by omega]
 exact .bind R (.pure _)
end
set_option maxRecDepth 100000
def DE(v:Value):iO v v=0:=by
 unfold iO
 split
 .omega
 .have:=wM v.S v.S
  omega
def xZ(hl:r.length<1000)(ho: ∀v∈r,zA v=true):Ev (λf=>gv f r r) 0:=by
 have L: ∀(l:List Value) (k:Nat),r.drop k=l->k<=r.length->mi (λf=>cN f r r) (k:Int) (.inl ()):=by
  intro l
  induction l with
  |nil=>
   intro k hd hk
   have hk2:r.length<=k:=by simpa using hd
   refine .stop ?_
   unfold cN
   exact .bz<|.f (oY hk2)<|.f rfl (.pure _)
  |cons v l ih=>
   intro k hd hk
   have hk1:k<r.length:=by
    grind
   have hdl:r.drop (k+1)=l:=by rw[aZ hk1]at hd;exact(j_1 hd).2
   have hv:=ho _ (j_0 hk1)
   have C:=vt hv hv rfl
   rw[DE]at C
   refine .next ?_ (ih (k+1) hdl ω)
   unfold cN
   refine .bz<|.t (gu hk1)<|.t (gu hk1)<|.ae (aH hk1)<|.ae (aH hk1)<|.bind C<|.f rfl ?_
   rw[eC ω]
   exact .pure _
 unfold gv
 refine .bind (L r 0 rfl ω).ev<|.bind (a:=0) (.of λn=>?_) (.pure _)
 rw[zP]
 simp[tG]
def IQ(hl:l.length<1000000)(ho: ∀e∈l,e.Row.length<1000/\ ∀v∈e.Row,zA v=true):Ev (λf=>fE f l l) true:=by
 have L: ∀(q:List Entry) (k:Nat),l.drop k=q->k<=l.length->mi (λf=>dB f l l) (k:Int) (.inl ()):=by
  intro q
  induction q with
  |nil=>
   intro k hd hk
   have hk2:l.length<=k:=by simpa using hd
   refine .stop ?_
   unfold dB
   exact .f (oY hk2) (.pure _)
  |cons v q ih=>
   intro k hd hk
   have hk1:k<l.length:=by
    grind
   have hdl:l.drop (k+1)=q:=by rw[aZ hk1]at hd;exact(j_1 hd).2
   obtain⟨hv1,hv2⟩:=ho _ (j_0 hk1)
   refine .next ?_ (ih (k+1) hdl ω)
   unfold dB
   refine .t (gu hk1)<|.ae (aH hk1)<|.ae (aH hk1)<|.f ψ<|.ae (aH hk1)<|.ae (aH hk1)<|.f ψ<|.ae (aH hk1)<|.ae (aH hk1) ?_
   have S:Ev (λf=>ku f l[k].Row l[k].Row) true:=by
    unfold ku
    exact .bind (xZ hv1 hv2) (.pure _)
   refine .bind S<|.f rfl ?_
   rw[eC ω]
   exact .pure _
 unfold fE
 exact .f ψ<|.bind (L l 0 rfl ω).ev (.pure _)
def IP(hl:l.length<1000000):Ev (λf=>lO f l l) true:=by
 have L: ∀(q:List Int) (k:Nat),l.drop k=q->k<=l.length->mi (λf=>iJ f l l) (k:Int) (.inl ()):=by
  intro q
  induction q with
  |nil=>
   intro k hd hk
   have hk2:l.length<=k:=by simpa using hd
   refine .stop ?_
   unfold iJ
   exact .f (oY hk2) (.pure _)
  |cons v q ih=>
   intro k hd hk
   have hk1:k<l.length:=by
    grind
   have hdl:l.drop (k+1)=q:=by rw[aZ hk1]at hd;exact(j_1 hd).2
   refine .next ?_ (ih (k+1) hdl ω)
   unfold iJ
   refine .t (gu hk1)<|.ae (aH hk1)<|.ae (aH hk1)<|.f ψ ?_
   rw[eC ω]
   exact .pure _
 unfold lO
 exact .f ψ<|.bind (L l 0 rfl ω).ev (.pure _)
def NF(hl:t.fk.length<1000000):Ev (λf=>np f t) (t.fk.map (·.Key)):=by
 have L: ∀(q:List Entry) (k:Nat),t.fk.drop k=q->k<=t.fk.length->mi (λf=>jw f t) ((t.fk.take k).map (·.Key),(k:Int)) (t.fk.map (·.Key)):=by
  intro q
  induction q with
  |nil=>
   intro k hd hk
   have hk2:t.fk.length<=k:=by simpa using hd
   rw[p_1 hk2]
   refine .stop ?_
   unfold jw
   exact .f (oY hk2) (.pure _)
  |cons v q ih=>
   intro k hd hk
   have hk1:k<t.fk.length:=by
    grind
   have hdl:t.fk.drop (k+1)=q:=by rw[aZ hk1]at hd;exact(j_1 hd).2
   refine .next ?_ (ih (k+1) hdl ω)
   unfold jw
   refine .t (gu hk1)<|.ae (aH hk1)<|.ff (by simp[room];omega) ?_
   rw[eC ω,show(t.fk.take k).map (·.Key)++[t.fk[k].Key]=(t.fk.take (k+1)).map (·.Key)by rw[<-q_8 hk1,j_9];rfl]
   exact .pure _
 unfold np
 exact .bind (L t.fk 0 rfl ω).ev (.pure _)
section
variable {s:az} {order last:Int} {nodes:List Node} {lv:Nat} {H:Hp} {tr:Nat}
def JA(hN:Cq nodes)(h:zH s order last nodes lv H tr): ∃H',Ev (λf=>kR f tr H) (kz nodes lv 0,H')/\ ∀(j:Nat) (o:aN),H[j]? =some o->H'[j]? =some o:=by
 obtain⟨root,h1,b,h2⟩:=h.ob
 have hlen:=wC hN h2
 have hN1:=hN.1
 have f1: ∀(j:Nat) (o:aN),H[j]? =some o->(H++[.cells [.own 3 (List.map ab ([]:List Entry))]])[j]? =some o:=λj o hj=>by
  grind
 have A:=OY (q1:=(H++[.cells [.own 3 (List.map ab ([]:List Entry))]],H.length)) rfl hN lv 0 nodes.length root [] 0 h2 χ
 simp only[m_5,Nat.sub_zero]at A
 refine⟨(Kp H (kz nodes lv 0)).set H.length (.cells [.undef]),?_,λj o hj=>?_⟩
 .unfold kR
  refine .ae rfl<|.ae (dj (r:=[.d (.int .i64 last),.d (.int .i64 ((kz nodes lv 0).length:Nat))]) (f1 _ _ h1) rfl)<|.ae rfl<|.bind (.of λn=>rfl) ?_
  have B:Ev (λf=>lJ f (ea f (H++[.cells [.own 3 (List.map ab ([]:List Entry))]],H.length)) (some root) (H++[.cells [.own 3 (List.map ab ([]:List Entry))]])) (Kp H (kz nodes lv 0)):=by
   unfold lJ xu
   exact .ae rfl<|.bind A<|.t rfl (.pure _)
  have ht:dQ 3 aP (Kp H (kz nodes lv 0)) H.length 0=some (kz nodes lv 0,(Kp H (kz nodes lv 0)).set H.length (.cells [.undef])):=oT Je rfl
  exact .bind B<|.ae ht (.pure _)
 .have:=(g_5.1 hj).1
  rw[jt ω]
  exact vj hj
def Nq(hN:Cq nodes)(h:zH s order last nodes lv H tr): ∃H',Ev (λf=>lk f tr H) ((kz nodes lv 0).map (·.Key),H')/\ ∀(j:Nat) (o:aN),H[j]? =some o->H'[j]? =some o:=by
 obtain⟨H',A,f3⟩:=JA hN h
 obtain⟨root,h1,b,h2⟩:=h.ob
 have hlen:=wC hN h2
 have hN1:=hN.1
 generalize kz nodes lv 0=l at A hlen
 have L: ∀(q:List Entry) (k:Nat),l.drop k=q->k<=l.length->mi (λf=>jq f (l,H')) ((l.take k).map (·.Key),(k:Int),H') (l.map (·.Key),H'):=by
  intro q
  induction q with
  |nil=>
   intro k hd hk
   have hk2:l.length<=k:=by simpa using hd
   rw[p_1 hk2]
   refine .stop ?_
   unfold jq
   exact .f (oY hk2) (.pure _)
  |cons v q ih=>
   intro k hd hk
   have hk1:k<l.length:=by
    grind
   have hdl:l.drop (k+1)=q:=by rw[aZ hk1]at hd;exact(j_1 hd).2
   refine .next ?_ (ih (k+1) hdl ω)
   unfold jq
   refine .t (gu hk1)<|.ae (aH hk1)<|.ff (by simp[room];omega) ?_
   rw[eC ω,show(l.take k).map (·.Key)++[l[k].Key]=(l.take (k+1)).map (·.Key)by rw[<-q_8 hk1,j_9];rfl]
   exact .pure _
 refine⟨H',?_,f3⟩
 unfold lk
 exact .bind A<|.bind (L l 0 rfl ω).ev (.pure _)
end
set_option maxRecDepth 100000
def FJ: ∀{es:List Entry} {ks:List (List Entry)},e∈fU es ks->e∈es\/ ∃k∈ks,e∈k
 |[],ks,h=>by
  simp only[fU,oG,m_5,v_3,q_1,List.mem_flatten]at h
  exact .inr h
 |e'::es,[],h=>by
  simp only[fU,vE,List.drop_nil,List.flatten_nil,p_4]at h
  exact .inl h
 |e'::es,k::ks,h=>by
  rw[uR]at h
  simp only[List.headD_cons,List.tail_cons,k_9,h_8]at h
  rcases h with h|h|h
  .exact .inr ⟨k,ψ,h⟩
  .exact .inl (by simp[h])
  .rcases FJ h with h|⟨k',h1,h2⟩
   .exact .inl (by simp[h])
   .exact .inr ⟨k',by simp[h1],h2⟩
def RV: ∀(d a:Nat) (lv:Int) (lo hi:Option Entry) (met:List Int) (z:Nat) (met':List Int) (l z' i:Nat),
  wk s order last nodes d a lv lo hi met=.inr (z,met')->HN b nodes H l a z' i-> ∀e∈kz nodes l a,pQ s e=true/\ ∃x∈nodes,e∈x.Entries:=by
 intro d
 induction d with
 |zero=>intro a lv lo hi met z met' l z' i h _;cases h
 |succ d ih=>
  intro a lv lo hi met z met' l z' i h hh e he
  obtain⟨x,is,h1,h2,h3,h4,h5,h6⟩:=fu hh
  have hw:wk s order last nodes (d+1) a lv lo hi met=(match rL s order last (a==0) lv lo hi met x with
   |none=>.inl a
   |some met'=>qL nodes (wk s order last nodes d) a x lo hi x.Kids 0 (a+1) met'):=by
   show(match nodes[a]? with|none=>Sum.inl a|some x=>match rL s order last (a==0) lv lo hi met x with|none=>Sum.inl a|some met'=>qL nodes (wk s order last nodes d) a x lo hi x.Kids 0 (a+1) met')=_
   rw[h1]
  rw[hw]at h
  rw[vl hh h1]at he
  cases ho:rL s order last (a==0) lv lo hi met x with
  |none=>rw[ho]at h;cases h
  |some m1=>
   rw[ho]at h
   have hes:=sn (Ez ho).2.2.2.2.2
   have kids: ∀(ks:List Int) (is:List (Option Nat)) (j c:Nat) (m2:List Int),zn (HN b nodes H (l - 1)) ks is c z'->qL nodes (wk s order last nodes d) a x lo hi ks j c m2=.inr (z,met')->
     ∀q∈(ks.map λ(k:Int)=>kz nodes (l - 1) k.toNat),∀e∈q,pQ s e=true/\ ∃x∈nodes,e∈x.Entries:=by
    intro ks
    induction ks with
    |nil=>intro is j c m2 hK hW q hq;simp at hq
    |cons k ks ihk=>
     intro is j c m2 hK hW q hq e he
     cases is with
     |nil=>exact hK.elim
     |cons qi qs=>
      cases qi with
      |none=>exact hK.elim
      |some qi=>
       obtain⟨hk,mm,q1,q2⟩:=hK
       simp only[qL]at hW
       split at hW
       .split at hW
        .cases hW
        .rename_i nx' m3 hr
         have e1:=(Ah d _ _ _ _ _ _ _ _ _ _ hr q1).1
         subst e1
         simp only[h_3,h_8]at hq
         rcases hq with rfl|hq
         .rw[hk,w_6]at he
          exact ih _ _ _ _ _ _ _ _ _ _ hr q1 e he
         .exact ihk qs (j+1) mm m3 q2 hW q hq e he
       .cases hW
   rcases FJ he with he|⟨q,hq,he⟩
   .exact⟨hes e he,x,k_2 h1,he⟩
   .exact kids x.Kids is 0 (a+1) m1 h6 h q hq e he
def Om(h:pQ s e=true): ∀v∈e.Row,zA v=true:=by
 have hf:=nS h
 have hl:=gk hf
 intro v hv
 obtain⟨j,hj,rfl⟩:=List.getElem_of_mem hv
 exact(lX hf j ω hj).2
def ND(hN:Cq nodes)(hk:s.aG.length<1000)(hw:my s order last nodes=(-1,0))(h:HN b nodes H lv 0 z root):
  Ev (λf=>AO f s order last nodes) ((⟨s,order,kz nodes lv 0,last⟩:Tree),-1,0):=by
 unfold AO
 have R:=De s order last nodes hN hk
 rw[hw]at R
 exact .bind R<|.f rfl<|.bind (ID hN lv 0 z root h) (.pure _)
def O0(hN:Cq nodes)(hk:s.aG.length<1000)(hw:my s order last nodes=(-1,0))(h:zH s order last nodes lv H tr)
  (hes: ∀e∈kz nodes lv 0,e.Row.length<1000/\ ∀v∈e.Row,zA v=true): ∃H',Ev (λf=>kL f tr (⟨s,order,kz nodes lv 0,last⟩:Tree) H) (true,H')/\ ∀(j:Nat) (o:aN),H[j]? =some o->H'[j]? =some o:=by
 obtain⟨root,h1,b,h2⟩:=h.ob
 have hlen:=wC hN h2
 have hN1:=hN.1
 have hlv:=h2.Bd
 obtain⟨x,is,x1,x2,x3,-⟩:=fu h2
 have f2: ∀(j:Nat) (o:aN),H[j]? =some o->(H++[aN.hole,aN.hole])[j]? =some o:=λj o hj=>by
  grind
 have T1:=h.app _ f2
 obtain⟨H2,A,f3⟩:=JA hN T1
 have T2:=T1.app _ f3
 obtain⟨H3,K,f4⟩:=Nq hN T2
 refine⟨H3,?_,λj o hj=>f4 _ _ (f3 _ _ (f2 _ _ hj))⟩
 have S:=IQ (l:=kz nodes lv 0) ω hes
 unfold kL
 refine .bind (tO hN h)<|.bind (ND hN hk hw h2)<|.bz<|.f rfl<|.bind S<|.f rfl<|.bind (Be hN T1)<|.ae (fe (k:=0) x1) ?_
 rw[x3,eo ω ω]
 rw[show((((1+lv:Nat):Int)) !=(lv:Int)+1)=false from bne_eq_false_iff_eq.2 ω]
 refine .f rfl<|.bind (Ow T1)<|.t ψ<|.bind (EH T1)<|.t ψ<|.bind A<|.bind S<|.t rfl<|.bind K<|.bind (NF (show(kz nodes lv 0).length<1000000 by omega)) ?_
 exact .bind (IP χ) (.pure _)
section
variable {α:Type}
def wp:List α->List (List α)->List α
 |a::A,c::C=>c++a::wp A C
 |_,_=>[]
def ws:List α->List (List α)->List α
 |b::B,d::D=>b::(d++ws B D)
 |_,_=>[]
def wv:List α->List (List α)->List α
 |es,[]=>es
 |es,k::ks=>k++ws es ks
def Eh: ∀{A B:List α} {C D:List (List α)} {k:List α},A.length=C.length->wv (A++B) (C++k::D)=wp A C++(k++ws B D)
 |[],B,[],D,k,_=>rfl
 |a::A,B,c::C,D,k,h=>by
  have ih:=Eh (A:=A) (B:=B) (C:=C) (D:=D) (k:=k) (by simpa using h)
  match C,ih with
  |[],ih=>
   match A,h with
   |[],_=>simp[wv,ws,wp]
  |c'::C,ih=>simp only[wv,m_7,ws,wp,j_2]at ih ⊢;rw[ih]
def EE{x:α}: ∀{A:List α} {C:List (List α)},A.length=C.length->(x∈wp A C<->x∈A\/ ∃c∈C,x∈c)
 |[],[],_=>by simp[wp]
 |a::A,c::C,h=>by
  have:=EE (x:=x) (A:=A) (C:=C) (by simpa using h)
  simp only[wp,k_9,h_8,this,exists_eq_or_imp]
  grind
def xJ{x:α}: ∀{A:List α} {C:List (List α)},A.length=C.length->(x∈ws A C<->x∈A\/ ∃c∈C,x∈c)
 |[],[],_=>by simp[ws]
 |a::A,c::C,h=>by
  have:=xJ (x:=x) (A:=A) (C:=C) (by simpa using h)
  simp only[ws,k_9,h_8,this,exists_eq_or_imp]
  grind
def ED{x:α}{es:List α}{ks:List (List α)}(h:ks.length=es.length+1):x∈wv es ks<->x∈es\/ ∃k∈ks,x∈k:=by
 match ks,h with
 |k::ks,h=>
  have:=xJ (x:=x) (A:=es) (C:=ks) (by simpa using h.symm)
  simp only[wv,k_9,this,h_8,exists_eq_or_imp]
  grind
def Rh{R:α->α->Prop}{p:α->Prop}: ∀{A:List α} {C:List (List α)},A.length=C.length->(wp A C).Pairwise R->(∀a∈A,p a)->(∀x y,x∈wp A C->y∈A->R x y->p y->p x)-> ∀x∈wp A C,p x
 |[],[],_,_,_,_,x,hx=>by simp[wp]at hx
 |a::A,c::C,h,hp,hA,ht,x,hx=>by
  simp only[wp,k_3,j_7,k_9,h_8]at hp hx ht
  rcases hx with hx|rfl|hx
  .exact ht x a (.inl hx) ψ (hp.2.2 x hx a (.inl rfl)) (hA a ψ)
  .exact hA x ψ
  .exact Rh (by simpa using h) hp.2.1.2 (λa ha=>hA a (by simp[ha])) (λx y hx hy=>ht x y (.inr (.inr hx)) (by simp[hy])) x hx
def Tn{R:α->α->Prop}{p:α->Prop}: ∀{A:List α} {C:List (List α)},A.length=C.length->(ws A C).Pairwise R->(∀a∈A,p a)->(∀x y,x∈A->y∈ws A C->R x y->p x->p y)-> ∀x∈ws A C,p x
 |[],[],_,_,_,_,x,hx=>by simp[ws]at hx
 |a::A,c::C,h,hp,hA,ht,x,hx=>by
  simp only[ws,k_3,j_7,k_9,h_8]at hp hx ht
  grind
def ins(c:α->Int)(e:α)(l:List α):List α:=l.filter (λx=>decide (c x<0))++e::l.filter (λx=>decide (0<c x))
def del(c:α->Int)(l:List α):List α:=l.filter λx=>c x !=0
def KA{c:α->Int}{e:α}{P k S:List α}(hP: ∀x∈P,c x<0)(hS: ∀x∈S,0<c x):ins c e (P++(k++S))=P++(ins c e k++S):=by
 have h1:P.filter (λx=>decide (c x<0))=P:=w_8.2 λx hx=>by simpa using hP x hx
 have h2:P.filter (λx=>decide (0<c x))=[]:=List.filter_eq_nil_iff.2 λx hx=>by have:=hP x hx;simp;omega
 have h3:S.filter (λx=>decide (c x<0))=[]:=List.filter_eq_nil_iff.2 λx hx=>by have:=hS x hx;simp;omega
 have h4:S.filter (λx=>decide (0<c x))=S:=w_8.2 λx hx=>by simpa using hS x hx
 simp[ins,h1,h2,h3,h4]
def KQ{c:α->Int}{P k S:List α}(hP: ∀x∈P,c x≠0)(hS: ∀x∈S,c x≠0):del c (P++(k++S))=P++(del c k++S):=by
 have h1:P.filter (λx=>c x !=0)=P:=w_8.2 λx hx=>by simpa using hP x hx
 have h2:S.filter (λx=>c x !=0)=S:=w_8.2 λx hx=>by simpa using hS x hx
 simp[del,h1,h2]
def vr{l:List α}(h:i<l.length):l=l.take i++l[i]::l.drop (i+1):=by
 simp_all
end
set_option maxRecDepth 100000
def uF(h:List.map ab a=List.map ab b):a=b:=by
 have h1:=nU aP a
 have h2:=nU aP b
 rw[show a.map aP.enc=b.map aP.enc from h,h2]at h1
 exact(Option.some.inj h1).symm
inductive AT where
 |nd (i:Nat) (es:List Entry) (ks:List AT)
def AT.ad:AT->Nat|.nd i _ _=>i
def AT.es:AT->List Entry|.nd _ es _=>es
def AT.ks:AT->List AT|.nd _ _ ks=>ks
def AT.fl:Nat->AT->List Entry
 |0,.nd _ es _=>es
 |l+1,.nd _ es ks=>wv es (ks.map (AT.fl l))
def AT.ft:Nat->AT->List Nat
 |0,.nd i _ _=>[i]
 |l+1,.nd i _ ks=>i::(ks.map (AT.ft l)).flatten
def AT.hd(H:Hp):Nat->AT->Prop
 |0,.nd i es ks=>ks=[]/\H[i]? =some (dT es [])
 |l+1,.nd i es ks=>ks.length=es.length+1/\H[i]? =some (dT es (ks.map λk=>some k.ad))/\ ∀k∈ks,AT.hd H l k
def AT.bl(m o:Nat):Nat->AT->Prop
 |0,_=>True
 |l+1,.nd _ _ ks=> ∀k∈ks,m<=k.es.length/\k.es.length<=o/\AT.bl m o l k
def AT.hd.self: ∀{l:Nat} {a:AT},a.hd H l->H[a.ad]? =some (dT a.es (a.ks.map λk=>some k.ad))
 |0,.nd i es ks,h=>by obtain⟨rfl,h⟩:=h;exact h
 |l+1,.nd i es ks,h=>h.2.1
def eU: ∀{l:Nat} {a:AT},a.ad∈a.ft l
 |0,.nd i es ks=>by simp[AT.ft,AT.ad]
 |l+1,.nd i es ks=>by simp[AT.ft,AT.ad]
def AT.hd.lt: ∀{l:Nat} {a:AT},a.hd H l-> ∀j∈a.ft l,j<H.length
 |0,.nd i es ks,h,j,hj=>by
  simp only[AT.ft,w_2]at hj;subst hj
  exact(g_5.1 h.2).1
 |l+1,.nd i es ks,h,j,hj=>by
  simp only[AT.ft,h_8,List.mem_flatten,w_0]at hj
  rcases hj with rfl|⟨_,⟨k,hk,rfl⟩,hj⟩
  .exact(g_5.1 h.2.1).1
  .exact(h.2.2 k hk).lt j hj
def AT.hd.fr: ∀{l:Nat} {a:AT},a.hd H l->(∀j∈a.ft l,H'[j]? =H[j]?)->a.hd H' l
 |0,.nd i es ks,h,hf=>⟨h.1,by rw[hf i (by simp[AT.ft])];exact h.2⟩
 |l+1,.nd i es ks,h,hf=>by
  refine⟨h.1,by rw[hf i (by simp[AT.ft])];exact h.2.1,λk hk=>(h.2.2 k hk).fr λj hj=>hf j ?_⟩
  simp only[AT.ft,h_8,List.mem_flatten,w_0]
  grind
def AT.hd.at(hm:1<=m): ∀{l:Nat} {a:AT},a.hd H l->a.bl m o l-> ∀j∈a.ft l,∃es is,H[j]? =some (dT es is)/\(∀e∈es,e∈a.fl l)/\(es=[]->a.es=[])
 |0,.nd i es ks,h,hb,j,hj=>by
  simp only[AT.ft,w_2]at hj;subst hj
  exact⟨es,[],h.2,λe he=>he,λh=>h⟩
 |l+1,.nd i es ks,h,hb,j,hj=>by
  have hfl: ∀e,e∈AT.fl (l+1) (.nd i es ks)<->e∈es\/ ∃k∈ks.map (AT.fl l),e∈k:=λe=>ED (by simp[h.1])
  simp only[AT.ft,h_8,List.mem_flatten,w_0]at hj
  rcases hj with rfl|⟨_,⟨k,hk,rfl⟩,hj⟩
  .exact⟨es,_,h.2.1,λe he=>(hfl e).2 (.inl he),λh=>h⟩
  .obtain⟨es',is',h1,h2,h3⟩:=(h.2.2 k hk).at hm (hb k hk).2.2 j hj
   refine⟨es',is',h1,λe he=>(hfl e).2 (.inr ⟨_,List.mem_map_of_mem hk,h2 e he⟩),λhe=>?_⟩
   have:=(hb k hk).1
   grind
def oE(hm:1<=m): ∀{l:Nat} {a:AT},a.hd H l->a.bl m o l->(a.fl l).Nodup->(a.ft l).Nodup
 |0,.nd i es ks,h,hb,hn=>by simp[AT.ft]
 |l+1,.nd i es ks,h,hb,hn=>by
  have key: ∀(C D:List AT) (k:AT),ks=C++k::D-> ∀j∈k.ft l,j≠i/\ ∀k'∈D,j∉k'.ft l:=by
   intro C D k hk j hj
   have hkm:k∈ks:=by rw[hk];simp
   have hCl:C.length<=es.length:=by have:=h.1;grind
   have hsp:es=es.take C.length++es.drop C.length:=(m_8 _ _).symm
   have hfl:AT.fl (l+1) (.nd i es ks)=wp (es.take C.length) (C.map (AT.fl l))++(k.fl l++ws (es.drop C.length) (D.map (AT.fl l))):=by
    show wv es (ks.map (AT.fl l))=_
    rw[hk,j_9,h_3]
    conv=>lhs;rw[hsp]
    exact Eh χ
   rw[hfl]at hn
   have hDl:(es.drop C.length).length=(D.map (AT.fl l)).length:=by have:=h.1;grind
   obtain⟨es',is',h1,h2,h3⟩:=(h.2.2 k hkm).at hm (hb k hkm).2.2 j hj
   have hne:es'≠[]:=λhe=>by have:=(hb k hkm).1;grind
   obtain⟨e,hes⟩:=List.exists_mem_of_ne_nil _ hne
   have hek:=h2 e hes
   rw[List.nodup_append]at hn
   obtain⟨-,n2,n3⟩:=hn
   rw[List.nodup_append]at n2
   refine⟨λhji=>?_,λk' hk' hj'=>?_⟩
   .subst hji
    have h4:=h.2.1
    rw[h1]at h4
    simp only[dT,g_2,aN.cells.injEq,List.cons.injEq,SV.own.injEq,true_and]at h4
    have he':es'=es:=uF h4.1
    subst he'
    rw[hsp,k_9]at hes
    rcases hes with hes|hes
    .exact n3 e ((EE χ).2 (.inl hes)) e (by simp[hek]) rfl
    .exact n2.2.2 e hek e ((xJ hDl).2 (.inl hes)) rfl
   .have hkm':k'∈ks:=by rw[hk];simp[hk']
    obtain⟨es2,is2,g1,g2,g3⟩:=(h.2.2 k' hkm').at hm (hb k' hkm').2.2 j hj'
    rw[h1]at g1
    simp only[dT,g_2,aN.cells.injEq,List.cons.injEq,SV.own.injEq,true_and]at g1
    have he':es'=es2:=uF g1.1
    subst he'
    exact n2.2.2 e hek e ((xJ hDl).2 (.inr ⟨_,List.mem_map_of_mem hk',g2 e hes⟩)) rfl
  have all: ∀(C D:List AT),ks=C++D->(i::(D.map (AT.ft l)).flatten).Nodup:=by
   intro C D
   induction D generalizing C with
   |nil=>intro _;simp
   |cons k D ih=>
    intro hk
    have ih:=ih (C++[k]) (by simp[hk])
    have kk:=key C D k hk
    have hkm:k∈ks:=by rw[hk];simp
    have hkn:(k.ft l).Nodup:=by
     refine oE hm (h.2.2 k hkm) (hb k hkm).2.2 ?_
     have hfl:(AT.fl (l+1) (.nd i es ks))=wp (es.take C.length) (C.map (AT.fl l))++(k.fl l++ws (es.drop C.length) (D.map (AT.fl l))):=by
      show wv es (ks.map (AT.fl l))=_
      rw[hk,j_9,h_3]
      conv=>lhs;rw[<-m_8 C.length es]
      exact Eh (by have:=h.1;grind)
     grind
    grind
  exact all [] ks rfl
def gE(s:az)(e:Entry):Prop:=pQ s e=true/\i64 e.Number
def gE.fit{s:az}(h:gE s e):bR s.aG e.Row=true:=nS h.1
def gE.num{s:az}(h:gE s e):1<=e.Number/\i64 e.Number:=by
 have:=h.1
 simp only[pQ,g_3,decide_eq_true_eq]at this
 exact⟨this.2,h.2⟩
def N1{H:Hp}{ls:List Loc}{i:Nat}{cs:List SV}(h:H[i]? =some (.cells cs))(hd: ∀x∈cs,∃d,x=.d d):(lU ls H)[i]? =some (.cells cs):=by
 unfold lU
 cases ls.any Ji with
 |false=>exact h
 |true=>
  simp only[cond_true,v_4,h,m_4,lT]
  congr 2
  apply m_6
  intro j
  rw[v_4]
  cases hj:cs[j]? with
  |none=>rfl
  |some x=>
   obtain⟨d,rfl⟩:=hd x (k_2 hj)
   rfl
section
variable {s:az} {order last cnt:Int} {root:Option Nat} {tr:Nat} {H:Hp}
def Nk(h:H[tr]? =some (ki s order root last cnt))(ls:List Loc):(lU ls H)[tr]? =some (ki s order root last cnt):=by
 refine N1 h λx hx=>?_
 simp only[h_8,List.not_mem_nil,or_false]at hx
 grind
def jm(h:H[tr]? =some (ki s order root last cnt)):bE dG.cells H tr 0=some s:=dj (r:=[.d (.int .i64 order),.d (cP.enc root),.d (.int .i64 last),.d (.int .i64 cnt)]) h rfl
def xm(h:H[tr]? =some (ki s order root last cnt)):bE (cI .i64).cell H tr 2=some s.eD:=dj (r:=[.d (.int .i64 order),.d (cP.enc root),.d (.int .i64 last),.d (.int .i64 cnt)]) h rfl
def uU(h:H[tr]? =some (ki s order root last cnt)):bE (cI .i64).cell H tr 3=some order:=dj (r:=[.d (cP.enc root),.d (.int .i64 last),.d (.int .i64 cnt)]) h rfl
def gO(h:H[tr]? =some (ki s order root last cnt)):bE cP.cell H tr 4=some root:=dj (r:=[.d (.int .i64 last),.d (.int .i64 cnt)]) h rfl
def tA(h:H[tr]? =some (ki s order root last cnt)):bE (cI .i64).cell H tr 5=some last:=dj (r:=[.d (.int .i64 cnt)]) h rfl
def uV(h:H[tr]? =some (ki s order root last cnt)):bE (cI .i64).cell H tr 6=some cnt:=dj (r:=[]) h rfl
def OU(hs:qI s=true)(h:H[tr]? =some (ki s order root last cnt))(hx:gE s x)(he:gE s e)(ls:List Loc):Ev (λf=>lj f x e (some tr) (lU ls H)) (cZ s x e):=by
 unfold lj
 exact .ae rfl<|.ae (jm (Nk h ls))<|.bind (rZ hs hx.fit he.fit hx.num he.num) (.pure _)
def half{i j:Nat}(h:i+j<1000000):IntKind.wrap .i64 (Int.fdiv (IntKind.wrap .u64 (IntKind.wrap .i64 ((i:Int)+(j:Int)))) (2 ^ 1))=(((i+j) / 2:Nat):Int):=by
 rw[eo (x:=(i:Int)+(j:Int)) ω ω]
 have:IntKind.wrap .u64 ((i:Int)+(j:Int))=(i:Int)+(j:Int):=by
  show((i:Int)+(j:Int)).emod (2 ^ 64)=_
  exact Int.emod_eq_of_lt ω ω
 rw[this,eo]<;>simp only[Int.fdiv_eq_ediv_of_nonneg _ (show(0:Int)<=2 ^ 1 by decide)]<;>omega
def Sz(hs:qI s=true)(h:H[tr]? =some (ki s order root last cnt)){e:Entry}(he:gE s e)(ls:List Loc){A B:List Entry}(hg: ∀x∈A++B,gE s x)(hA: ∀x∈A,cZ s x e<0)(hB: ∀x∈B,0<=cZ s x e)(hl:(A++B).length<1000):
  ∀(d i j:Nat),j - i=d->i<=A.length->A.length<=j->j<=(A++B).length->
   mi (λf=>bK f (A++B) e (some tr) (lU ls H)) ((i:Int),(j:Int)) (A.length:Int):=by
 intro d
 induction d using Nat.strongRecOn with
 |ind d ih=>
  intro i j hd hi hj hj2
  by_cases hij:i<j
  .have hk:(i+j) / 2<(A++B).length:=by omega
   have C:=OU hs h (hg _ (j_0 hk)) he ls
   by_cases hc:(i+j) / 2<A.length
   .have hlt:cZ s (A++B)[(i+j) / 2] e<0:=by grind
    refine .next (y:=((((i+j) / 2+1:Nat):Int),(j:Int))) ?_ (ih _ ω ((i+j) / 2+1) j rfl ω hj hj2)
    unfold bK
    simp only[half (show i+j<1000000 by omega)]
    refine .t (gu hij)<|.ae (aH hk)<|.bind C<|.t (by simpa using hlt) ?_
    rw[eC ω]
    exact .pure _
   .have hge:0<=cZ s (A++B)[(i+j) / 2] e:=by grind
    refine .next (y:=((i:Int),(((i+j) / 2:Nat):Int))) ?_ (ih _ ω i ((i+j) / 2) rfl hi ω ω)
    unfold bK
    simp only[half (show i+j<1000000 by omega)]
    exact .t (gu hij)<|.ae (aH hk)<|.bind C<|.f χ (.pure _)
  .have:i=A.length:=by omega
   subst this
   refine .stop ?_
   unfold bK
   exact .f (oY ω) (.pure _)
def wD(s:az)(e:Entry):List Entry->Bool
 |[]=>false
 |b::_=>cZ s b e==0
def Em(hs:qI s=true)(h:H[tr]? =some (ki s order root last cnt))(he:gE s e)(hi:H[i]? =some (dT (A++B) is))(hg: ∀x∈A++B,gE s x)(hA: ∀x∈A,cZ s x e<0)
  (hB: ∀x∈B,0<=cZ s x e) (hl:(A++B).length<1000):Ev (λf=>og f tr i e H) ((A.length:Int),wD s e B):=by
 unfold og
 refine .ae (fv hi rfl) ?_
 have L:=Sz hs h he [.au i 0] hg hA hB hl _ 0 (A++B).length rfl ω ψ ψ
 refine .bind (a:=((A.length:Int),wD s e B)) ?_ (.pure _)
 unfold cV
 refine .bind L.ev ?_
 cases B with
 |nil=>exact .f (oY ψ) (.pure _)
 |cons b B=>
  have hk:A.length<(A++b::B).length:=by simp
  refine .t (gu hk)<|.ae (aH hk)<|.bind (OU hs h (hg _ (j_0 hk)) he _) ?_
  have:(A++b::B)[A.length]=b:=by simp
  rw[this]
  exact .pure _
end
set_option maxRecDepth 100000
def Rr{s:az}(ha:bR s.aG a.Row=true)(hb:bR s.aG b.Row=true)(hc:bR s.aG c.Row=true):B9 (cZ s a b) (cZ s b c) (cZ s a c):=by
 have h1:=AX s.Down ha hb hc
 have h2:=AX s.Down hc hb ha
 have n1:=wx s.Down ha hb
 have n2:=wx s.Down hb hc
 have n3:=wx s.Down ha hc
 unfold B9 cZ at *
 grind
section
variable {s:az}
def zh(s:az)(l:List Entry):Prop:=l.Pairwise (λa b=>uj s a b=true)
def sT(h:uj s a b=true):cZ s a b<0:=by
 unfold uj at h
 grind
def L8(hx:gE s x)(hy:gE s y)(he:gE s e)(h:uj s x y=true)(h2:cZ s y e<0):cZ s x e<0:=Bf hx.fit hy.fit he.fit (sT h) h2
def lA(hx:gE s x)(hy:gE s y)(he:gE s e)(h:uj s x y=true)(h2:0<=cZ s x e):0<cZ s y e:=by
 have h1:=sT h
 have n1:=xL (s:=s) he.fit hx.fit
 have n2:=xL (s:=s) he.fit hy.fit
 have:=Rr (s:=s) he.fit hx.fit hy.fit ω ω
 omega
def CV(he:gE s e)(hl:A.length=C.length)(hs:zh s (wp A C))(hg: ∀x∈wp A C,gE s x)(hA: ∀x∈A,cZ s x e<0): ∀x∈wp A C,cZ s x e<0:=
 Rh hl hs hA λx y hx hy hr hp=>L8 (hg x hx) (hg y ((EE hl).2 (.inl hy))) he hr hp
def CU(he:gE s e)(hl:A.length=C.length)(hs:zh s (ws A C))(hg: ∀x∈ws A C,gE s x)(hA: ∀x∈A,0<cZ s x e): ∀x∈ws A C,0<cZ s x e:=
 Tn hl hs hA λx y hx hy hr hp=>lA (hg x ((xJ hl).2 (.inl hx))) (hg y hy) he hr ω
def nR(he:gE s e): ∀{l:List Entry},zh s l->(∀x∈l,gE s x)-> ∃A B,l=A++B/\(∀x∈A,cZ s x e<0)/\ ∀x∈B,0<=cZ s x e
 |[],_,_=>⟨[],[],rfl,ψ,ψ⟩
 |a::l,hs,hg=>by
  obtain⟨h1,h2⟩:=j_7.1 hs
  by_cases h:cZ s a e<0
  .obtain⟨A,B,rfl,hA,hB⟩:=nR he h2 λx hx=>hg x (by simp[hx])
   grind
  .refine⟨[],a::l,rfl,ψ,λx hx=>?_⟩
   rcases h_8.1 hx with rfl|hx
   .omega
   .exact Int.le_of_lt (lA (hg a ψ) (hg x (by simp[hx])) he (h1 x hx) ω)
def jW(a:Entry):cZ s a a=0:=by
 have h: ∀(r:List Value),∀d,dN d r r=0:=by
  intro r
  induction r with
  |nil=>intro d;cases d<;>simp[dN]
  |cons v r ih=>
   intro d
   cases d with
   |nil=>simp[dN]
   |cons d ds=>simp[dN,sM,DE,ih]
 unfold cZ
 grind
def oS(s:az)(e:Entry)(l:List Entry):List Entry:=ins (λx=>cZ s x e) e l
def mQ(s:az)(e:Entry)(l:List Entry):List Entry:=del (λx=>cZ s x e) l
def wz(hA: ∀x∈A,cZ s x e<0)(hB: ∀x∈B,0<cZ s x e):oS s e (A++B)=A++e::B:=by
 have:=KA (c:=λx=>cZ s x e) (e:=e) (k:=[]) hA hB
 simpa[oS,ins]using this
def sL(hA: ∀x∈A,cZ s x e<0)(hb:cZ s b e=0)(hB: ∀x∈B,0<cZ s x e):mQ s e (A++b::B)=A++B:=by
 have:=KQ (c:=λx=>cZ s x e) (k:=[b]) (λx hx=>by have:=hA x hx;omega) (λx hx=>by have:=hB x hx;omega) (P:=A) (S:=B)
 simpa[mQ,del,hb]using this
def Mj(h: ∀x∈l,cZ s x e≠0):mQ s e l=l:=w_8.2 λx hx=>by simpa using h x hx
def Ba:x∈mQ s e l<->x∈l/\cZ s x e≠0:=by simp[mQ,del]
def Hg(h:zh s l):zh s (mQ s e l):=List.Pairwise.filter _ h
def xT(he:gE s e)(hs:zh s l)(hg: ∀x∈l,gE s x)(hn: ∀x∈l,cZ s x e≠0):(oS s e l).Perm (e::l):=by
 obtain⟨A,B,rfl,hA,hB⟩:=nR he hs hg
 rw[wz hA λx hx=>by grind]
 exact List.perm_middle
def NZ(he:gE s e)(hs:zh s l)(hg: ∀x∈l,gE s x)(hn: ∀x∈l,cZ s x e≠0):x∈oS s e l<->x=e\/x∈l:=by
 rw[(xT he hs hg hn).mem_iff,h_8]
def O4(h:cZ s a b<0)(hd:s.eD=1->dN s.Down a.Row b.Row≠0):uj s a b=true:=by
 unfold uj
 grind
def N8(he:gE s e)(hs:zh s l)(hg: ∀x∈l,gE s x)(hn: ∀x∈l,cZ s x e≠0)(hd:s.eD=1-> ∀x∈l,dN s.Down x.Row e.Row≠0):zh s (oS s e l):=by
 obtain⟨A,B,rfl,hA,hB⟩:=nR he hs hg
 have hB': ∀x∈B,0<cZ s x e:=λx hx=>by grind
 rw[wz hA hB']
 unfold zh at hs ⊢
 rw[k_3]at hs ⊢
 rw[j_7]
 refine⟨hs.1,⟨λx hx=>?_,hs.2.1⟩,λa ha b hb=>?_⟩
 .have hgx:=hg x (by simp[hx])
  have n1:=xL (s:=s) hgx.fit he.fit
  refine O4 (by have:=hB' x hx;omega) λh1 h2=>hd h1 x (by simp[hx]) ?_
  have:=wx s.Down he.fit hgx.fit
  omega
 .rcases h_8.1 hb with rfl|hb
  .exact O4 (hA a ha) λh1=>hd h1 a (by simp[ha])
  .exact hs.2.2 a ha b hb
def Ov(hs:zh s l)(hg: ∀x∈l,gE s x)(he:e∈l):(mQ s e l).length+1=l.length:=by
 obtain⟨A,B,rfl,hA,hB⟩:=nR (hg e he) hs hg
 match B,hB with
 |[],_=>
  have:=hA e (by simpa using he)
  rw[jW]at this;omega
 |b::B,hB=>
  have hgb:=hg b ψ
  have hb:cZ s b e=0:=by
   rcases k_9.1 he with h|h
   .have:=hA e h;rw[jW]at this;omega
   .rcases h_8.1 h with rfl|h
    .exact jW _
    .have h1:=(j_7.1 (k_3.1 hs).2.1).1 e h
     have:=sT h1
     have:=hB b ψ;omega
  have hB': ∀x∈B,0<cZ s x e:=λx hx=>lA hgb (hg x (by simp[hx])) (hg e he) ((j_7.1 (k_3.1 hs).2.1).1 x hx) ω
  rw[sL hA hb hB']
  simp;omega
end
set_option maxRecDepth 100000
def KY(f:Nat)(h:r.length<1000):eN f r=some r:=by
 unfold eN
 cases r with
 |nil=>rfl
 |cons a l=>
  show Go.Sh.ff (decide ((([]:List Entry)++a::l).length<=room)) (some ([]++a::l))=_
  rw[show decide ((([]:List Entry)++a::l).length<=room)=true by
   rw[decide_eq_true_eq]
   have:(a::l).length<1000:=h
   simp only[m_5,room]
   omega]
  rfl
def KX(f:Nat)(h:r.length<1000):fO f r=some r:=by
 unfold fO
 cases r with
 |nil=>rfl
 |cons a l=>
  show Go.Sh.ff (decide ((([]:List (Option Nat))++a::l).length<=room)) (some ([]++a::l))=_
  rw[show decide ((([]:List (Option Nat))++a::l).length<=room)=true by
   rw[decide_eq_true_eq]
   have:(a::l).length<1000:=h
   simp only[m_5,room]
   omega]
  rfl
def KC{α:Type}{c:Cd α}{H:Hp}{i:Nat}{xs:List α}(h:H[i]? =some (.cells cs))(e:cs[off]? =some (.own n (xs.map c.enc))):FH n c H i off=some (xs,H.set i (.cells (cs.set off (.d (.list n (xs.map c.enc)))))):=by
 unfold FH
 rw[ly h,j_5,e]
 simp only[if_true,nU,m_4]
def Oh{α:Type}{c:Cd α}{H:Hp}{i:Nat}{xs:List α}(h:H[i]? =some (.cells cs))(e:cs[off]? =some (.d (.list n (xs.map c.enc)))):FH n c H i off=some (xs,H):=by
 unfold FH
 rw[ly h,j_5,e]
 simp only[if_true,nU,m_4]
def N4{H:Hp}{i:Nat}(h:H[i]? =some (.cells [x,.own 1 (List.map cP.enc is)])):Ev (λf=>cT f i H) (decide (is=[])):=by
 unfold cT
 refine .ae (fv h rfl) ?_
 have:((is.length:Int)==0)=decide (is=[]):=by
  cases is<;>simp
  omega
 rw[this]
 exact .pure _
section
variable {H:Hp} {i:Nat} {a b a' b':aN}
def Te(h:i<H.length):(H.set i a++[b]).set i a'=H.set i a'++[b]:=by simp_all
def Vu:(H.set i a++[b]).set H.length b'=H.set i a++[b']:=by
 simp_all
def Rg(h:i<H.length):(H.set i a++[b])[i]? =some a:=by grind
def UF:(H.set i a++[b])[H.length]? =some b:=by simp
end
def vN{α:Type}{l:List α}(h:k<=l.length):sl l (k:Int) (l.length:Int)=l.drop k:=by simp[sl]
def qR{α:Type}{l:List α}{k:Nat}:sl l 0 (k:Int)=l.take k:=by simp[sl]
def oo{α:Type}{l:List α}(h:k<=l.length):mJ l (k:Int) (l.length:Int)=true:=by simp[mJ];omega
def oh{α:Type}{l:List α}(h:k<=l.length):mJ l 0 (k:Int)=true:=by simp[mJ];omega
def F8{H:Hp}{i:Nat}(h:H[i]? =some (dT (L++up::R) is))(hm:(L++up::R).length / 2=L.length)(hk:is=[]\/is.length=(L++up::R).length+1)(hb:(L++up::R).length<900):
  Ev (λf=>nQ f i H) ((up,some H.length),H.set i (dT L (is.take (L.length+1)))++[dT R (is.drop (L.length+1))]):=by
 have hi:=(g_5.1 h).1
 let es:=L++up::R
 have hes:es=L++up::R:=rfl
 have hb:es.length<900:=hb
 have hm:es.length / 2=L.length:=hm
 have hk:is=[]\/is.length=es.length+1:=hk
 have hel:es.length=L.length+R.length+1:=by simp[es];omega
 have hlt:L.length<es.length:=by omega
 let O1:aN:=.cells [.d (.list 3 (es.map aP.enc)),.own 1 (List.map cP.enc is)]
 let O2:aN:=.cells [.d (.list 3 (es.map aP.enc)),.d (.list 1 (List.map cP.enc is))]
 let O3:aN:=.cells [.d (.list 3 (es.map aP.enc)),.own 1 (List.map cP.enc (is.take (L.length+1)))]
 have f1:FH 3 aP H i 0=some (es,H.set i O1):=KC h rfl
 have g1:(H.set i O1)[i]? =some O1:=g_0 hi
 have f2:FH 3 aP (H.set i O1) i 0=some (es,H.set i O1):=Oh g1 rfl
 have hnl:(H.set i O1).length=H.length:=by simp
 have w1:IntKind.wrap .i64 (Int.tdiv (es.length:Int) 2)=(L.length:Int):=by
  rw[Int.tdiv_eq_ediv_of_nonneg ω,eo ω ω];omega
 have w2:IntKind.wrap .i64 ((L.length:Int)+1)=((L.length+1:Nat):Int):=eC ω
 have hup:idx es (L.length:Int)=some up:=by rw[aH hlt];simp[es]
 have dR:es.drop (L.length+1)=R:=by simp[es]
 have tL:es.take L.length=L:=by simp[es]
 have fin: ∀{is':List (Option Nat)} {K:List (Option Nat)} {G:Hp},G=H.set i (.cells [.d (.list 3 (es.map aP.enc)),.own 1 (List.map cP.enc is')])++[dT R K]->
   Ev (λf=>(FH 3 aP G i 0).bind λq23=>Go.Sh.ff (mJ q23.1 0 (L.length:Int))<|(eN f (sl q23.1 0 (L.length:Int))).bind λr24=>(dh 3 aP q23.2 i 0 r24).bind λH25=>some ((up,some H.length),H25))
    ((up,some H.length),H.set i (dT L is')++[dT R K]):=by
  intro is' K G hG
  subst hG
  refine .ae (Oh (Rg hi) rfl)<|.ff (oh (show L.length<=es.length by omega)) ?_
  dsimp only
  rw[qR,tL]
  refine .bind (.of λn=>KY n ω)<|.ae (jG (Rg hi) ψ) ?_
  rw[Te hi]
  exact .pure _
 unfold nQ
 refine .ae f1<|.ae f2 ?_
 simp only[w1,w2]
 refine .ae hup<|.ae f2<|.ff (oo (show L.length+1<=es.length by omega)) ?_
 dsimp only
 rw[vN ω,dR]
 refine .bind (.of λn=>KY n ω)<|.ae rfl<|.bz ?_
 simp only[hnl]
 refine .bind (N4 (Rg hi)) ?_
 by_cases he:is=[]
 .subst he
  refine .f ψ ?_
  simp only[List.take_nil,List.drop_nil]
  exact fin rfl
 .have hil:is.length=es.length+1:=hk.resolve_left he
  refine .t (by simp[he])<|.ae (KC (Rg hi) rfl)<|.ff (oo (show L.length+1<=is.length by omega)) ?_
  dsimp only
  rw[vN ω]
  refine .bind (.of λn=>KX n χ) ?_
  simp only[Te hi,List.set_cons_succ,List.set_cons_zero]
  refine .ae (jG UF ψ) ?_
  simp only[Vu,List.set_cons_succ,List.set_cons_zero]
  refine .ae (Oh (Rg hi) rfl)<|.ff (oh (show L.length+1<=is.length by omega)) ?_
  dsimp only
  rw[qR]
  refine .bind (.of λn=>KX n χ)<|.ae (jG (Rg hi) ψ) ?_
  simp only[Te hi,List.set_cons_succ,List.set_cons_zero]
  exact fin rfl
def sN{α:Type}{x:Option α}(h:c=true):Go.Sh.ff c x=x:=by subst h;rfl
def Bu(f:Nat)(h:(A++B).length<1000):fC f (A++B) (A.length:Int) [e]=some (A++e::B):=by
 unfold fC
 simp only[h_9]at h
 rw[sN (oo ψ)]
 show(bif (A.length:Int)==((A++B).length:Int)then _ else _)=_
 cases B with
 |nil=>
  simp only[p_4,beq_self_eq_true,cond_true]
  rw[sN (by simp[room];simp at h;omega)]
 |cons b B=>
  rw[show((A.length:Int)==((A++b::B).length:Int))=false by simp;omega,cond_false,sN (by simp[room];simp at h;omega)]
  simp
def GM(f:Nat)(h:(A++B).length<1000):dq f (A++B) (A.length:Int) [e]=some (A++e::B):=by
 unfold dq
 simp only[h_9]at h
 rw[sN (oo ψ)]
 show(bif (A.length:Int)==((A++B).length:Int)then _ else _)=_
 cases B with
 |nil=>
  simp only[p_4,beq_self_eq_true,cond_true]
  rw[sN (by simp[room];simp at h;omega)]
 |cons b B=>
  rw[show((A.length:Int)==((A++b::B).length:Int))=false by simp;omega,cond_false,sN (by simp[room];simp at h;omega)]
  simp
def BH(f:Nat)(h:(A++e::B).length<1000):fD f (A++e::B) (A.length:Int) ((A.length+1:Nat):Int)=some (A++B):=by
 unfold fD
 simp only[h_9,j_4]at h
 rw[sN χ,show((A.length:Int)==((A.length+1:Nat):Int))=false by simp;omega,cond_false,sN (by simp[room];omega)]
 simp
def He(f:Nat)(h:(A++e::B).length<1000):dI f (A++e::B) (A.length:Int) ((A.length+1:Nat):Int)=some (A++B):=by
 unfold dI
 simp only[h_9,j_4]at h
 rw[sN χ,show((A.length:Int)==((A.length+1:Nat):Int))=false by simp;omega,cond_false,sN (by simp[room];omega)]
 simp
set_option maxRecDepth 100000
def M5{α:Type}: ∀{B:List α} {D:List (List α)},B.length=D.length->B.Sublist (ws B D)
 |[],[],_=>.slnil
 |b::B,d::D,h=>.cons_cons b ((M5 (by simpa using h)).trans (List.sublist_append_right d _))
def Ix{α:Type}{es:List α}{ks:List (List α)}(h:ks.length=es.length+1):es.Sublist (wv es ks):=by
 match ks,h with
 |k::ks,h=>exact(M5 (by simpa using h.symm)).trans (List.sublist_append_right k _)
section
variable {l i:Nat} {es:List Entry} {C D:List AT} {k:AT}
def k9(hA:A.length=C.length):AT.fl (l+1) (.nd i (A++B) (C++k::D))=wp A (C.map (AT.fl l))++(k.fl l++ws B (D.map (AT.fl l))):=by
 show wv (A++B) ((C++k::D).map (AT.fl l))=_
 rw[j_9,h_3]
 exact Eh (by simpa using hA)
def eP:j∈AT.ft (l+1) (.nd i es ks)<->j=i\/ ∃k∈ks,j∈k.ft l:=by
 simp only[AT.ft,h_8,List.mem_flatten,w_0]
 grind
def vn(h:(AT.ft (l+1) (.nd i es (C++k::D))).Nodup):i∉k.ft l/\(k.ft l).Nodup/\ ∀k'∈C++D,i∉k'.ft l/\ ∀j∈k'.ft l,j∉k.ft l:=by
 simp only[AT.ft,List.nodup_cons,j_9,h_3,List.flatten_append,p_8,k_9,not_or,List.nodup_append]at h
 grind
def KD(h:(AT.ft (l+1) (.nd i es ks)).Nodup): ∀k∈ks,i∉k.ft l/\(k.ft l).Nodup:=by
 intro k hk
 obtain⟨C,D,rfl⟩:=List.append_of_mem hk
 exact⟨(vn h).1,(vn h).2.1⟩
end
def AT.hd.kl{H:Hp}{l:Nat}{a:AT}(h:a.hd H l):(a.ks.map λk=>some k.ad)=[]\/(a.ks.map λk=>some k.ad).length=a.es.length+1:=by
 cases l with
 |zero=>cases a;obtain⟨rfl,_⟩:=h;exact .inl rfl
 |succ l=>cases a;right;rw[k_0];exact h.1
def F7{l:Nat}(h:AT.hd H l (.nd j (L++up::R) ks))(hn:(AT.ft l (.nd j (L++up::R) ks)).Nodup)(hb:AT.bl m o l (.nd j (L++up::R) ks)):
  let H':=H.set j (dT L ((ks.map λk=>some k.ad).take (L.length+1)))++[dT R ((ks.map λk=>some k.ad).drop (L.length+1))]
  let a:=AT.nd j L (ks.take (L.length+1));let b:=AT.nd H.length R (ks.drop (L.length+1))
  a.hd H' l/\b.hd H' l/\a.bl m o l/\b.bl m o l/\AT.fl l (.nd j (L++up::R) ks)=a.fl l++up::b.fl l/\(∀x∈a.ft l,x∈AT.ft l (.nd j (L++up::R) ks))/\ ∀x∈b.ft l,x=H.length\/x∈AT.ft l (.nd j (L++up::R) ks):=by
 intro H' a b
 cases l with
 |zero=>
  obtain⟨rfl,h⟩:=h
  have hj:=(g_5.1 h).1
  exact⟨⟨ψ,Rg hj⟩,⟨ψ,UF⟩,trivial,trivial,rfl,λx hx=>hx,λx hx=>.inl (by simpa[AT.ft,b]using hx)⟩
 |succ l=>
  obtain⟨h1,h2,h3⟩:=h
  have hj:=(g_5.1 h2).1
  have hkl:ks.length=L.length+R.length+2:=by rw[h1];simp;omega
  have fr: ∀k∈ks,AT.hd H' l k:=λk hk=>(h3 k hk).fr λx hx=>by
   have hx1:=(h3 k hk).lt x hx
   have hxj:j≠x:=λe=>(KD hn k hk).1 (e▸hx)
   grind
  refine⟨⟨χ,?_,λk hk=>fr k (List.mem_of_mem_take hk)⟩,⟨χ,?_,λk hk=>fr k (w_5 hk)⟩,λk hk=>hb k (List.mem_of_mem_take hk),λk hk=>hb k (w_5 hk),?_,?_,?_⟩
  .rw[List.map_take];exact Rg hj
  .rw[List.map_drop];exact UF
  .
   have hd0:ks.drop (L.length+1)≠[]:=by
    simp_all
   obtain⟨k1,D,hD⟩: ∃k1 D,ks.drop (L.length+1)=k1::D:=by
    cases hh:ks.drop (L.length+1)with
    |nil=>exact absurd hh hd0
    |cons k1 D=>exact⟨k1,D,rfl⟩
   have ht0:L.length<ks.length:=by omega
   have htk:ks.take (L.length+1)=ks.take L.length++ks[L.length]::[]:=by simp_all
   have e1:ks=ks.take L.length++ks[L.length]::(k1::D):=by
    conv=>lhs;rw[<-m_8 (L.length+1) ks,hD,htk,j_2]
    rfl
   have e2:=k9 (l:=l) (i:=j) (A:=L) (B:=up::R) (C:=ks.take L.length) (k:=ks[L.length]) (D:=k1::D) χ
   have e3:=k9 (l:=l) (i:=j) (A:=L) (B:=[]) (C:=ks.take L.length) (k:=ks[L.length]) (D:=[]) χ
   show AT.fl (l+1) (.nd j (L++up::R) ks)=AT.fl (l+1) (.nd j L (ks.take (L.length+1)))++up::AT.fl (l+1) (.nd H.length R (ks.drop (L.length+1)))
   rw[hD,htk]
   rw[p_4]at e3
   rw[e3]
   conv=>lhs;rw[e1]
   rw[e2]
   simp[ws,AT.fl,wv]
  .intro x hx
   rcases eP.1 hx with rfl|⟨k,hk,hx⟩
   .exact eP.2 (.inl rfl)
   .exact eP.2 (.inr ⟨k,List.mem_of_mem_take hk,hx⟩)
  .intro x hx
   rcases eP.1 hx with rfl|⟨k,hk,hx⟩
   .exact .inl rfl
   .exact .inr (eP.2 (.inr ⟨k,w_5 hk,hx⟩))
set_option maxRecDepth 100000
section
variable {H:Hp} {i:Nat} {es es':List Entry} {is is':List (Option Nat)}
def Qq(is:List (Option Nat)):aN:=.cells [.undef,.own 1 (List.map cP.enc is)]
def Sl(es:List Entry):aN:=.cells [.own 3 (List.map ab es),.undef]
def jB(h:H[i]? =some (dT es is)):dQ 3 aP H i 0=some (es,H.set i (Qq is)):=oT h rfl
def qj(h:H[i]? =some (dT es is)):dQ 1 cP H i 1=some (is,H.set i (Sl es)):=oT h rfl
def jC(h:H[i]? =some (Qq is)):dh 3 aP H i 0 es=some (H.set i (dT es is)):=jG h ψ
def qk(h:H[i]? =some (Sl es)):dh 1 cP H i 1 is=some (H.set i (dT es is)):=jG h ψ
def LY(h:H[i]? =some (dT es is)):dh 3 aP H i 0 es'=some (H.set i (dT es' is)):=jG h ψ
def LX(h:H[i]? =some (dT es is)):dh 1 cP H i 1 is'=some (H.set i (dT es is')):=jG h ψ
def dL(h:H[i]? =some (dT es is)):bL 3 aP H i 0=some es:=fv h rfl
def dK(h:H[i]? =some (dT es is)):bL 1 cP H i 1=some is:=fv h rfl
end
def EI{ks:List AT}{n:Nat}(h:n<ks.length): ∃C k D,ks=C++k::D/\C.length=n:=⟨ks.take n,ks[n],ks.drop (n+1),vr h,χ⟩
def gN(k:AT):Option Nat:=some k.ad
section
variable {s:az} {order last cnt:Int} {root:Option Nat} {tr o:Nat}
structure PT(s:az)(o l:Nat)(a a':AT)(H H':Hp):Prop where
 hd:a'.hd H' l
 bl:a'.bl (o / 2) o l
 ad:a'.ad=a.ad
 fr: ∀j,j<H.length->j∉a.ft l->H'[j]? =H[j]?
 le:H.length<=H'.length
 ft: ∀j∈a'.ft l,j∈a.ft l\/H.length<=j
def Se(hs:qI s=true)(ho:(o:Int)=order)(h3:3<=o)(h32:o<=32)(he:gE s e):
  ∀(l:Nat) (a:AT) (H:Hp),a.hd H l->a.bl (o / 2) o l->(a.ft l).Nodup->tr∉a.ft l->H[tr]? =some (ki s order root last cnt)->a.es.length<=o->
   (∀x∈a.fl l,gE s x)->zh s (a.fl l)->(∀x∈a.fl l,cZ s x e≠0)->
   ∃a' H',Ev (λn=>kP n tr a.ad e H) ((),H')/\PT s o l a a' H H'/\a'.fl l=oS s e (a.fl l)/\a.es.length<=a'.es.length/\a'.es.length<=a.es.length+1:=by
 intro l
 induction l with
 |zero=>
  intro a H hh hb hn ht hT hl hg hsr hne
  obtain⟨i,es,ks⟩:=a
  obtain⟨rfl,hi⟩:=hh
  have hl:es.length<=o:=hl
  have hil:=(g_5.1 hi).1
  obtain⟨A,B,rfl,hA,hB⟩:=nR he hsr hg
  have hB': ∀x∈B,0<cZ s x e:=λx hx=>by have:=hB x hx;have:=hne x (w_3 A hx);omega
  have hfl:AT.fl 0 (.nd i (A++B) [])=A++B:=rfl
  refine⟨.nd i (A++e::B) [],H.set i (dT (A++e::B) []),?_,⟨⟨rfl,g_0 hil⟩,trivial,rfl,λj hj hj2=>?_,ψ,λj hj=>.inl hj⟩,(wz hA hB').symm,?_,?_⟩
  .refine m7 (g:=λn=>hJ n (kP n) tr i e H) (λn=>rfl) ?_
   unfold hJ
   refine .bind (Em hs hT he hi hg hA hB ω)<|.bind (ew hi)<|.t rfl<|.ae (jB hi)<|.bind (.of λn=>Bu n ω)<|.ae (jC (g_0 hil)) ?_
   rw[m_9]
   exact .pure _
  .have:i≠j:=λh=>hj2 (by simp[AT.ft,h])
   rw[g_1 this]
  .simp[AT.es]
  .simp[AT.es];omega
 |succ l ih=>
  intro a H hh hb hn ht hT hl hg hsr hne
  obtain⟨i,es,ks⟩:=a
  have hl:es.length<=o:=hl
  obtain⟨hk1,hi,hks⟩:=hh
  have hil:=(g_5.1 hi).1
  have hsub:es.Sublist (AT.fl (l+1) (.nd i es ks)):=Ix (by simp[hk1])
  have hges: ∀x∈es,gE s x:=λx hx=>hg x (hsub.subset hx)
  obtain⟨A,B,rfl,hA,hB⟩:=nR he (hsr.sublist hsub) hges
  have hB': ∀x∈B,0<cZ s x e:=λx hx=>by grind
  have hkl:A.length<ks.length:=by rw[hk1];simp;omega
  obtain⟨C,k,D,rfl,hC⟩:=EI hkl
  have hDl:B.length=D.length:=by simp at hk1;omega
  have hfl:AT.fl (l+1) (.nd i (A++B) (C++k::D))=_:=k9 hC.symm
  rw[hfl]at hg hsr hne ⊢
  have hkm:k∈C++k::D:=by simp
  obtain⟨d1,d2,d3⟩:=vn hn
  have hkft: ∀j∈k.ft l,j∈AT.ft (l+1) (.nd i (A++B) (C++k::D)):=λj hj=>eP.2 (.inr ⟨k,hkm,hj⟩)
  have sp:=hsr
  unfold zh at sp
  rw[k_3,k_3]at sp
  have hP:=CV he (by simp[hC]) sp.1 (λx hx=>hg x (List.mem_append_left _ hx)) hA
  have hS:=CU he (by simp[hDl]) sp.2.1.2.1 (λx hx=>hg x (w_3 _ (w_3 _ hx))) hB'
  have hkb:=hb k hkm
  obtain⟨k',H1,E1,P1,F1,S1,S2⟩:=ih k H (hks k hkm) hkb.2.2 d2 (λh=>ht (hkft _ h)) hT hkb.2.1 (λx hx=>hg x (by simp[hx])) sp.2.1.1 (λx hx=>hne x (by simp[hx]))
  have hins:oS s e (wp A (C.map (AT.fl l))++(k.fl l++ws B (D.map (AT.fl l))))=wp A (C.map (AT.fl l))++(k'.fl l++ws B (D.map (AT.fl l))):=by rw[F1];exact KA hP hS
  have hi1:H1[i]? =some (dT (A++B) ((C++k::D).map gN)):=by rw[P1.fr i hil d1];exact hi
  have hT1:H1[tr]? =some (ki s order root last cnt):=by rw[P1.fr tr (g_5.1 hT).1 λh=>ht (hkft _ h)];exact hT
  have hoth: ∀q∈C++D,q.hd H1 l:=λq hq=>by
   have hq':q∈C++k::D:=by simp at hq ⊢;grind
   refine(hks q hq').fr λj hj=>P1.fr j ((hks q hq').lt j hj) ((d3 q hq).2 j hj)
  have hself:=P1.hd.self
  have xU: ∀x∈k'.ft l,x∈AT.ft (l+1) (.nd i (A++B) (C++k::D))\/H.length<=x:=λx hx=>(P1.ft x hx).imp (hkft x) id
  have hal:(A++B).length<=o:=hl
  have pre: ∀{r},Ev (λn=>(bL 3 aP H1 k.ad 0).bind λx11=>(bE (cI .i64).cell H1 tr 3).bind λx12=>
    bif (decide ((x11.length:Int)>x12))then
     (nQ n k.ad H1).bind λr13=>(dQ 3 aP r13.2 i 0).bind λq14=>(fC n q14.1 (A.length:Int) [r13.1.1]).bind λr16=>(dh 3 aP q14.2 i 0 r16).bind λH17=>
     (dQ 1 cP H17 i 1).bind λq18=>r13.1.2.bind λi19=>(dq n q18.1 (IntKind.wrap .i64 ((A.length:Int)+1)) [(some i19)]).bind λr20=>(dh 1 cP q18.2 i 1 r20).bind λH21=>some ((),H21)
    else some ((),H1)) r->Ev (λn=>kP n tr i e H) r:=by
   intro r hE
   refine m7 (g:=λn=>hJ n (kP n) tr i e H) (λn=>rfl) ?_
   unfold hJ
   have hidx:idx ((C++k::D).map λk=>some k.ad) (A.length:Int)=some (some k.ad):=fe (by rw[<-hC];simp)
   refine .bind (Em hs hT he hi hges hA hB ω)<|.bind (ew hi)<|.f ψ<|.ae (dK hi)<|.ae hidx<|.ae rfl<|.bind E1 hE
  rw[<-P1.ad]at pre
  by_cases hsz:k'.es.length<=o
  .refine⟨.nd i (A++B) (C++k'::D),H1,pre (.ae (dL hself)<|.ae (uU hT1)<|.f χ (.pure _)),⟨⟨?_,?_,λq hq=>?_⟩,λq hq=>?_,rfl,λj hj hj2=>?_,P1.le,λj hj=>?_⟩,?_,?_,?_⟩
   .simpa using hk1
   .show H1[i]? =some (dT (A++B) ((C++k'::D).map gN))
    rw[hi1]
    simp only[j_9,h_3]
    rw[show gN k'=gN k from congrArg some P1.ad]
   .rcases(show q∈C++D\/q=k' by simp at hq ⊢;grind)with hq|rfl
    .exact hoth q hq
    .exact P1.hd
   .rcases(show q∈C++D\/q=k' by simp at hq ⊢;grind)with hq|rfl
    .exact hb q (by simp at hq ⊢;grind)
    .exact⟨ω,hsz,P1.bl⟩
   .exact P1.fr j hj λh=>hj2 (hkft j h)
   .rcases eP.1 hj with rfl|⟨q,hq,hjq⟩
    .exact .inl (eP.2 (.inl rfl))
    .rcases(show q∈C++D\/q=k' by simp at hq ⊢;grind)with hq|hq
     .exact .inl (eP.2 (.inr ⟨q,by simp at hq ⊢;grind,hjq⟩))
     .exact xU j (hq▸hjq)
   .rw[hins];exact k9 hC.symm
   .exact h_0 _
   .exact Nat.le_succ _
  .
   have hlen:k'.es.length=o+1:=by omega
   obtain⟨j,es',ks'⟩:=k'
   have hlen:es'.length=o+1:=hlen
   have hj:j=k.ad:=P1.ad
   have hmid:(o+1) / 2<es'.length:=by omega
   obtain⟨L,up,R,rfl,hL⟩: ∃L up R,es'=L++up::R/\L.length=(o+1) / 2:=⟨es'.take ((o+1) / 2),es'[(o+1) / 2],es'.drop ((o+1) / 2+1),vr hmid,χ⟩
   have hRl:R.length=o - (o+1) / 2:=by simp at hlen;omega
   have hgk: ∀x∈k.fl l,gE s x:=λx hx=>hg x (by simp[hx])
   have hk'n:(AT.ft l (.nd j (L++up::R) ks')).Nodup:=by
    refine oE (m:=o / 2) (o:=o) ω P1.hd P1.bl ?_
    have hp:=xT he sp.2.1.1 hgk (λx hx=>hne x (by simp[hx]))
    rw[F1,hp.nodup_iff,List.nodup_cons]
    refine⟨λh=>hne e (by simp[h]) (jW e),?_⟩
    refine List.Pairwise.imp (λ{x y} hxy e=>?_) sp.2.1.1
    subst e
    have:=sT hxy
    rw[jW]at this
    omega
   have X:=F7 P1.hd hk'n P1.bl
   have hself:H1[j]? =some (dT (L++up::R) (ks'.map λk=>some k.ad)):=P1.hd.self
   have Y:Ev (λf=>nQ f j H1) ((up,some H1.length),H1.set j (dT L ((ks'.map λk=>some k.ad).take (L.length+1)))++[dT R ((ks'.map λk=>some k.ad).drop (L.length+1))]):=F8 hself φ P1.hd.kl (show(L++up::R).length<900 by omega)
   generalize hH2:H1.set j (dT L ((ks'.map λk=>some k.ad).take (L.length+1)))++[dT R ((ks'.map λk=>some k.ad).drop (L.length+1))]=H2 at X Y
   obtain⟨x1,x2,x3,x4,x5,x6,x7⟩:=X
   have hl2:H2.length=H1.length+1:=by rw[<-hH2];simp
   have hij:i≠j:=λh=>d1 (by rw[h,hj];exact eU)
   have hil1:=(g_5.1 hi1).1
   have get2: ∀x,x<H1.length->x≠j->H2[x]? =H1[x]? :=λx hx hxj=>by
    grind
   have hi2:H2[i]? =some (dT (A++B) ((C++k::D).map gN)):=by rw[get2 i hil1 hij];exact hi1
   have hil2:=(g_5.1 hi2).1
   let ks2:=C++AT.nd j L (ks'.take (L.length+1))::AT.nd H1.length R (ks'.drop (L.length+1))::D
   let H3:=H2.set i (dT (A++up::B) (ks2.map gN))
   have hmem: ∀q,q∈ks2<->q∈C++D\/q=AT.nd j L (ks'.take (L.length+1))\/q=AT.nd H1.length R (ks'.drop (L.length+1)):=λq=>by simp[ks2];grind
   have hno: ∀q∈ks2,i∉q.ft l:=λq hq h=>by
    rcases(hmem q).1 hq with hq|rfl|rfl
    .exact(d3 q hq).1 h
    .rcases P1.ft i (x6 i h)with h|h
     .exact d1 h
     .omega
    .rcases x7 i h with h|h
     .omega
     .rcases P1.ft i h with h|h
      .exact d1 h
      .omega
   have hd3: ∀q∈ks2,q.hd H3 l:=λq hq=>by
    have h2:q.hd H2 l:=by
     rcases(hmem q).1 hq with hq|rfl|rfl
     .refine(hoth q hq).fr λx hx=>get2 x ((hoth q hq).lt x hx) λe2=>(d3 q hq).2 x hx ?_
      rw[e2,hj];exact eU
     .exact x1
     .exact x2
    exact h2.fr λx hx=>g_1 λe2=>hno q hq (by rw[e2];exact hx)
   refine⟨.nd i (A++up::B) ks2,H3,pre (.ae (dL hself)<|.ae (uU hT1)<|.t (by simp at hlen ⊢;omega)<|.bind Y<|.ae (jB hi2)<|.bind (.of λn=>Bu n ω)<|
    .ae (jC (g_0 hil2))<|.ae (qj (g_0 (by simpa using hil2)))<|.ae rfl ?_),
    ⟨⟨by simp[ks2]at hk1 ⊢;omega,g_0 hil2,hd3⟩,λq hq=>?_,rfl,λx hx hx2=>?_,by simp[H3];have:=P1.le;omega,λx hx=>?_⟩,?_,by simp[AT.es],by simp[AT.es];omega⟩
   .have hins2: ∀n,dq n ((C++k::D).map gN) (IntKind.wrap .i64 ((A.length:Int)+1)) [some H1.length]=some (ks2.map gN):=λn=>by
     have hA1:=eC (k:=A.length) (by simp at hal;omega)
     rw[hA1]
     have:=GM (A:=C.map gN++[some j]) (B:=D.map gN) (e:=some H1.length) n (by simp at hk1 hal ⊢;omega)
     simp only[j_2,m_7,m_5,h_9,k_0,j_4,v_3,q_4,hC]at this
     rw[hj]at this
     simp only[j_9,h_3,ks2]
     rw[hj]
     exact this
    refine .bind (.of hins2)<|.ae (qk (g_0 (by simpa using hil2))) ?_
    simp only[m_9]
    exact .pure _
   .rcases(hmem q).1 hq with hq|rfl|rfl
    .exact hb q (by simp at hq ⊢;grind)
    .exact⟨by simp[AT.es];omega,by simp[AT.es];omega,x3⟩
    .exact⟨by simp[AT.es];omega,by simp[AT.es];omega,x4⟩
   .have hxi:i≠x:=λh=>hx2 (eP.2 (.inl h.symm))
    have hxk:x∉k.ft l:=λh=>hx2 (hkft x h)
    show(H2.set i _)[x]? =_
    rw[g_1 hxi,get2 x (by have:=P1.le;omega) (λh=>hxk (by rw[h,hj];exact eU)),P1.fr x hx hxk]
   .rcases eP.1 hx with rfl|⟨q,hq,hx⟩
    .exact .inl (eP.2 (.inl rfl))
    .rcases(hmem q).1 hq with hq|rfl|rfl
     .exact .inl (eP.2 (.inr ⟨q,by simp at hq ⊢;grind,hx⟩))
     .exact xU x (x6 x hx)
     .rcases x7 x hx with h|h
      .right;have:=P1.le;omega
      .exact xU x h
   .rw[hins,x5]
    have:=k9 (l:=l) (i:=i) (A:=A) (B:=up::B) (C:=C) (k:=AT.nd j L (ks'.take (L.length+1))) (D:=AT.nd H1.length R (ks'.drop (L.length+1))::D) hC.symm
    rw[show AT.fl (l+1) (.nd i (A++up::B) ks2)=_ from this]
    simp[ws]
end
set_option maxRecDepth 100000
structure z0(H0 H:Hp)(i j k:Nat)(a b c:aN):Prop where
 ai:H[i]? =some a
 bj:H[j]? =some b
 ck:H[k]? =some c
 ij:i≠j
 ik:i≠k
 jk:j≠k
 fr: ∀x,x≠i->x≠j->x≠k->H[x]? =H0[x]?
 len:H.length=H0.length
section
variable {H0 H:Hp} {i j k:Nat} {a b c:aN}
def z0.s1(T:z0 H0 H i j k a b c)(a':aN):z0 H0 (H.set i a') i j k a' b c:=
 ⟨g_0 (g_5.1 T.ai).1,by rw[g_1 T.ij];exact T.bj,by rw[g_1 T.ik];exact T.ck,T.ij,T.ik,T.jk,λx h1 h2 h3=>by rw[g_1 (j_6 h1)];exact T.fr x h1 h2 h3,by rw[k_6];exact T.len⟩
def z0.s2(T:z0 H0 H i j k a b c)(b':aN):z0 H0 (H.set j b') i j k a b' c:=
 ⟨by rw[g_1 (j_6 T.ij)];exact T.ai,g_0 (g_5.1 T.bj).1,by rw[g_1 T.jk];exact T.ck,T.ij,T.ik,T.jk,λx h1 h2 h3=>by rw[g_1 (j_6 h2)];exact T.fr x h1 h2 h3,by rw[k_6];exact T.len⟩
def z0.s3(T:z0 H0 H i j k a b c)(c':aN):z0 H0 (H.set k c') i j k a b c':=
 ⟨by rw[g_1 (j_6 T.ik)];exact T.ai,by rw[g_1 (j_6 T.jk)];exact T.bj,g_0 (g_5.1 T.ck).1,T.ij,T.ik,T.jk,λx h1 h2 h3=>by rw[g_1 (j_6 h3)];exact T.fr x h1 h2 h3,by rw[k_6];exact T.len⟩
end
def kT(l:Nat)(es:List Entry)(ks:List AT):Prop:=if l=0 then ks=[]else ks.length=es.length+1
def AT.hd.kT{H:Hp}{l i:Nat}{es:List Entry}{ks:List AT}(h:AT.hd H l (.nd i es ks)):kT l es ks:=by
 cases l with
 |zero=>exact h.1
 |succ l=>exact h.1
def Oa{H:Hp}{i:Nat}(hs:kT l es ks)(hi:H[i]? =some (dT es (ks.map gN)))(hk: ∀k∈ks,k.hd H (l - 1)):AT.hd H l (.nd i es ks):=by
 cases l with
 |zero=>cases hs;exact⟨rfl,hi⟩
 |succ l=>exact⟨hs,hi,hk⟩
def AT.hd.kids{H:Hp}{l i:Nat}{es:List Entry}{ks:List AT}(h:AT.hd H l (.nd i es ks)): ∀k∈ks,k.hd H (l - 1):=by
 cases l with
 |zero=>obtain⟨rfl,_⟩:=h;simp
 |succ l=>exact h.2.2
def AT.hd.obj{H:Hp}{l i:Nat}{es:List Entry}{ks:List AT}(h:AT.hd H l (.nd i es ks)):H[i]? =some (dT es (ks.map gN)):=h.self
def Qy(m o l:Nat)(k:AT):Prop:=m<=k.es.length/\k.es.length<=o/\k.bl m o l
def sS{i:Nat}(hs:kT l es ks):AT.bl m o l (.nd i es ks)<-> ∀k∈ks,Qy m o (l - 1) k:=by
 cases l with
 |zero=>cases hs;simp[AT.bl]
 |succ l=>rfl
def tT{i j k:Nat}(h1:kT l E1 Ka)(h2:kT l E2 Kb):AT.fl l (.nd i (E1++x::E2) (Ka++Kb))=AT.fl l (.nd j E1 Ka)++x::AT.fl l (.nd k E2 Kb):=by
 cases l with
 |zero=>rfl
 |succ l=>
  have h1:Ka.length=E1.length+1:=h1
  have h2:Kb.length=E2.length+1:=h2
  obtain⟨C,q,D,rfl,hC⟩:=EI (ks:=Ka) (n:=E1.length) ω
  have hD:D=[]:=by simp_all
  subst hD
  match Kb,h2 with
  |k2::D2,h2=>
   have e1:=k9 (l:=l) (i:=i) (A:=E1) (B:=x::E2) (C:=C) (k:=q) (D:=k2::D2) hC.symm
   have e2:=k9 (l:=l) (i:=j) (A:=E1) (B:=[]) (C:=C) (k:=q) (D:=[]) hC.symm
   rw[p_4]at e2
   simp only[j_2,m_7,m_5]
   rw[e1,e2]
   simp[ws,AT.fl,wv]
def vO(h1:kT l E1 Ka)(h2:kT l E2 Kb):kT l (E1++x::E2) (Ka++Kb):=by
 unfold kT at *
 grind
def Nt(h:kT l (E++[y]) K): ∃Ka Kb,K=Ka++Kb/\kT l E Ka/\kT l [] Kb:=by
 unfold kT at *
 split at h
 .simp_all
 .rename_i h0
  refine⟨K.take (E.length+1),K.drop (E.length+1),(m_8 _ _).symm,?_,?_⟩<;>(grind)
def LJ(h:kT l (y::E) K): ∃Ka Kb,K=Ka++Kb/\kT l [] Ka/\kT l E Kb:=by
 unfold kT at *
 split at h
 .simp_all
 .rename_i h0
  refine⟨K.take 1,K.drop 1,(m_8 _ _).symm,?_,?_⟩<;>(grind)
def QP(hl:zss.length<1000)(h:zss.flatten.length<1000):Ev (λf=>Js f zss) zss.flatten:=by
 have tk: ∀i,(hi:i<zss.length)->(zss.take (i+1)).flatten=(zss.take i).flatten++zss[i]:=λi hi=>by rw[<-q_8 hi,List.flatten_append];simp
 have le: ∀i,(zss.take i).flatten.length<=zss.flatten.length:=λi=>by
  conv=>rhs;rw[<-m_8 i zss,List.flatten_append]
  simp
 have L1: ∀(d i:Nat),i+d=zss.length->mi (λ_=>BJ zss) (((zss.take i).flatten.length:Int),(i:Int)) (zss.flatten.length:Int):=by
  intro d
  induction d with
  |zero=>
   intro i hi
   refine .stop ?_
   unfold BJ
   refine .f (oY ω) ?_
   rw[p_1 ω]
   exact .pure _
  |succ d ih=>
   intro i hi
   have hi1:i<zss.length:=by omega
   have e:=tk i hi1
   have l1:=le (i+1)
   rw[e,h_9]at l1
   refine .next ?_ (ih (i+1) ω)
   unfold BJ
   refine .t (gu hi1)<|.ae (aH hi1) ?_
   rw[eo (x:=((zss.take i).flatten.length:Int)+(zss[i].length:Int)) ω ω,eC ω,e,h_9]
   exact .f χ (.pure _)
 have L2: ∀(d i:Nat),i+d=zss.length->mi (λ_=>yZ zss) ((zss.take i).flatten,(i:Int)) zss.flatten:=by
  intro d
  induction d with
  |zero=>
   intro i hi
   refine .stop ?_
   unfold yZ
   refine .f (oY ω) ?_
   rw[p_1 ω]
   exact .pure _
  |succ d ih=>
   intro i hi
   have hi1:i<zss.length:=by omega
   have e:=tk i hi1
   have l1:=le (i+1)
   rw[e]at l1
   refine .next ?_ (ih (i+1) ω)
   unfold yZ
   refine .t (gu hi1)<|.ae (aH hi1)<|.ff (decide_eq_true (show _<=16777216 by dsimp only;omega)) ?_
   rw[eC ω,e]
   exact .pure _
 have G:OF (zss.flatten.length:Int)=some []:=by
  unfold OF
  rw[show decide ((zss.flatten.length:Int)<0)=false from decide_eq_false ω,cond_false,Int.sub_zero,eo ω ω]
  cases hz:decide ((zss.flatten.length:Int)>0)with
  |false=>rfl
  |true=>
   rw[cond_true,sN]
   rw[g_3]
   exact⟨rfl,decide_eq_true (show _<=((16777216:Nat):Int)by omega)⟩
 unfold Js
 exact .bind (L1 _ 0 (q_4 _)).ev<|.ae G<|.bind (L2 _ 0 (q_4 _)).ev (.pure _)
def Lc{α:Type}{yss:List (List α)}(hl:yss.length<1000)(h:yss.flatten.length<1000):Ev (λf=>CB f yss) yss.flatten:=by
 unfold CB
 exact .bind (QP (by simpa using hl) φ) (.pure _)
end Go.Sh
