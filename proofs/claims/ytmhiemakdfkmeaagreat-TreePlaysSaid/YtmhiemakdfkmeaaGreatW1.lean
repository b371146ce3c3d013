/- Plain laws: what the functions tell. -/
import Derived.Test.YtmhiemakdfkmeaaGreatF3
set_option linter.all false
set_option autoImplicit true
set_option relaxedAutoImplicit true
namespace Go.Sh
def Ev{α:Type}(f:Nat->Option α)(r:α):Prop:= ∃N,∀n,N<=n->f n=some r
def Ev.of{α:Type}{f:Nat->Option α}{r:α}(h: ∀n,f n=some r):Ev f r:=⟨0,λn _=>h n⟩
def Ev.pure{α:Type}(r:α):Ev (λ_=>some r) r:=.of λ_=>rfl
def Ev.bind{α β:Type}{f:Nat->Option α}{g:Nat->α->Option β}{a:α}{r:β}(h1:Ev f a)(h2:Ev (λn=>g n a) r):Ev (λn=>(f n).bind (g n)) r:=by
 obtain⟨N,hN⟩:=h1
 obtain⟨M,hM⟩:=h2
 refine⟨max N M,λn hn=>?_⟩
 grind
def Ev.congr{α:Type}{f g:Nat->Option α}{r:α}(h: ∀n,f n=g n)(h1:Ev g r):Ev f r:=by
 obtain⟨N,hN⟩:=h1
 exact⟨N,λn hn=>(h n).trans (hN n hn)⟩
def Ev.t{α:Type}{f g:Nat->Option α}{r:α}(hc:c=true)(h:Ev f r):Ev (λn=>bif c then f n else g n) r:=by subst hc;exact h
def Ev.f{α:Type}{f g:Nat->Option α}{r:α}(hc:c=false)(h:Ev g r):Ev (λn=>bif c then f n else g n) r:=by subst hc;exact h
def Ev.ite{α:Type}{f g:Nat->Option α}{r:α}(h1:c=true->Ev f r)(h2:c=false->Ev g r):Ev (λn=>bif c then f n else g n) r:=by
 cases c
 .exact h2 rfl
 .exact h1 rfl
def Ev.dw{α:Type}{f:Nat->Option α}{r:α}(hc:c=true)(h:Ev f r):Ev (λn=>Go.Sh.dw c (f n)) r:=by subst hc;exact h
def Ev.aP{α β:Type}{b:Nat->α->Option β}{a:Nat->(α->Option β)->Option β}{r:β}(h:Ev (λn=>a n (b n)) r):Ev (λn=>Go.Sh.aP (b n) (a n)) r:=h
def Ev.ae{α β:Type}{x:Option α}{a:α}{g:Nat->α->Option β}{r:β}(hx:x=some a)(h:Ev (λn=>g n a) r):Ev (λn=>x.bind (g n)) r:=by subst hx;exact h
def Ev.OP{α:Type}{f:Nat->Option α}{r r':α}(h:Ev f r)(h':Ev f r'):r=r':=by
 obtain⟨N,hN⟩:=h
 obtain⟨M,hM⟩:=h'
 exact Option.some.inj ((hN (max N M) (by omega)).symm.trans (hM (max N M) (by omega)))
def gX{γ β:Type}(step:Nat->γ->Option (γ⊕β))(x:γ)(out:β):Prop:= ∃N,∀F n,N<=F->N<=n->Go.Sh.iter (step F) n x=some out
def gX.next{γ β:Type}{step:Nat->γ->Option (γ⊕β)}{x y:γ}{out:β}(h1:Ev (λn=>step n x) (.inl y))(h2:gX step y out):gX step x out:=by
 obtain⟨N,hN⟩:=h1
 obtain⟨M,hM⟩:=h2
 refine⟨max N M+1,λF n hF hn=>?_⟩
 obtain⟨n,rfl⟩: ∃n',n=n'+1:=⟨n - 1,by omega⟩
 have:=hN F (by omega)
 simp only at this
 simp only[Go.Sh.iter,this]
 exact hM F n (by omega) (by omega)
def gX.stop{γ β:Type}{step:Nat->γ->Option (γ⊕β)}{x:γ}{out:β}(h1:Ev (λn=>step n x) (.inr out)):gX step x out:=by
 obtain⟨N,hN⟩:=h1
 refine⟨N+1,λF n hF hn=>?_⟩
 obtain⟨n,rfl⟩: ∃n',n=n'+1:=⟨n - 1,by omega⟩
 have:=hN F (by omega)
 simp only at this
 simp only[Go.Sh.iter,this]
def gX.ev{γ β:Type}{step:Nat->γ->Option (γ⊕β)}{x:γ}{out:β}(h:gX step x out):Ev (λn=>Go.Sh.iter (step n) n x) out:=by
 obtain⟨N,hN⟩:=h
 exact⟨N,λn hn=>hN n n hn hn⟩
def gX.count{γ β:Type}{step:Nat->γ->Option (γ⊕β)}(A:Nat->γ)(out:Nat->β)(len:Nat)
  (hs: ∀k,k<len->(Ev (λn=>step n (A k)) (.inl (A (k+1)))/\out (k+1)=out k)\/Ev (λn=>step n (A k)) (.inr (out k)))
  (he:Ev (λn=>step n (A len)) (.inr (out len))) (k:Nat) (hk:k<=len):gX step (A k) (out k):=by
 obtain⟨d,rfl⟩: ∃d,len=k+d:=⟨len - k,by omega⟩
 induction d generalizing k with
 |zero=>exact .stop he
 |succ d ih=>
  rcases hs k (by omega)with⟨h1,h2⟩|h1
  .rw[<-h2]
   have e:k+(d+1)=(k+1)+d:=by omega
   rw[e]at hs he
   exact .next h1 (ih (k+1) hs he (by omega))
  .exact .stop h1
def du{α:Type}{l:List α}{k:Nat}{x:α}(h:l[k]? =some x):idx l (k:Int)=some x:=by
 unfold idx;grind
def cN(h0: -9223372036854775808<=x)(h1:x<9223372036854775808):IntKind.wrap .i64 x=x:=by
 unfold IntKind.wrap
 simp[IntKind.bits,IntKind.signed]
 omega
def eM{a b:Nat}(h:a<b):decide ((a:Int)<(b:Int))=true:=by simp;omega
def mj{a b:Nat}(h:b<=a):decide ((a:Int)<(b:Int))=false:=by simp;omega
def cZ{k:Nat}(h:k<1000000000):IntKind.wrap .i64 ((k:Int)+1)=((k+1:Nat):Int):=by rw[cN (by omega) (by omega)];rfl
def aw{α:Type}{l:List α}{k:Nat}(h:k<l.length):idx l (k:Int)=some l[k]:=du (h_6 h)
def aG{α:Type}{l:List α}{k:Nat}(h:k<l.length):l.drop k=l[k]::l.drop (k+1):=p_3 h
def ri(v:Value):Bool:=decide (v.S.length<=200)
def ke(r:List Value):Bool:=decide (r.length<=20)&&r.all ri
def IE(l:List (List Value))(hl:l.length<1000):Ev (λf=>pz f l) (l.all ke):=by
 have main:gX (λf=>kT f l) (0:Int) (if l.all ke then .inl ()else .inr false:Unit⊕Bool):=by
  refine gX.count (A:=λk=>(k:Int)) (out:=λk=>(if(l.drop k).all ke then .inl ()else .inr false:Unit⊕Bool)) l.length (λk hk=>?_) ?_ 0 (by omega)
  .unfold kT
   have inner:l[k].length<=20->gX (λf=>kU f l (k:Int)) (0:Int) (if l[k].all ri then .inl ()else .inr false:Unit⊕Bool):=by
    intro h20
    refine gX.count (A:=λj=>(j:Int)) (out:=λj=>(if(l[k].drop j).all ri then .inl ()else .inr false:Unit⊕Bool)) l[k].length (λj hj=>?_) ?_ 0 (by omega)
    .unfold kU
     by_cases hs:ri l[k][j]=true
     .refine .inl ⟨.ae (aw hk)<|.t (eM hj)<|.ae (aw hk)<|.ae (aw hj)<|.f ?_ ?_,by rw[aG hj,v_0,hs,j_7]⟩
      .simp only[ri,decide_eq_true_eq]at hs;simp;omega
      .rw[cZ (by omega)];exact .pure _
     .refine .inr (.ae (aw hk)<|.t (eM hj)<|.ae (aw hk)<|.ae (aw hj)<|.t ?_ ?_)
      .simp only[ri,decide_eq_true_eq]at hs;simp;omega
      .rw[aG hj,v_0,p_8.2 hs];exact .pure _
    .unfold kU
     refine .ae (aw hk)<|.f (mj (g_9 _)) ?_
     simp only[m_9,List.all_nil,if_true];exact .pure _
   by_cases h20:l[k].length<=20
   .by_cases hs:l[k].all ri=true
    .refine .inl ⟨.t (eM hk)<|.ae (aw hk)<|.f (by simp;omega)<|.bind (inner h20).ev ?_,by rw[aG hk,v_0];simp only[ke,h20,decide_true,hs,j_7]⟩
     simp only[hs,if_true,w_5]
     rw[cZ (by omega)];exact .pure _
    .refine .inr (.t (eM hk)<|.ae (aw hk)<|.f (by simp;omega)<|.bind (inner h20).ev ?_)
     rw[aG hk,v_0,ke,p_8.2 hs]
     simp only[w_3,m_4,g_7,if_false,Sum.elim_inr]
     exact .pure _
   .refine .inr (.t (eM hk)<|.ae (aw hk)<|.t (by simp;omega) ?_)
    rw[aG hk,v_0,ke,decide_eq_false h20]
    simp only[m_4,g_7,if_false]
    exact .pure _
  .unfold kT
   refine .f (mj (g_9 _)) ?_
   simp only[m_9,List.all_nil,if_true];exact .pure _
 unfold pz
 refine .bind main.ev ?_
 cases h:l.all ke
 .simp only[g_7,if_false,Sum.elim_inr];exact .pure _
 .simp only[if_true,w_5];exact .pure _
def AS(k:Int):Bool:=k==1||k==2
def n9(s:ak):Bool:=decide (1<=s.aq.length)&&decide (s.aq.length<=8)&&s.Down.length==s.aq.length&&decide (1<=s.cY)&&decide (s.cY<=3)&&s.aq.all AS
def vg(v:Value):Bool:=if v.Kind=1 then decide (-1000000000<=v.N)&&decide (v.N<=1000000000)&&v.S==[]else if v.Kind=2 then v.N==0&&decide (v.S.length<=40)else false
def bc:List Int->List Value->Bool
 |[],[]=>true
 |k::ks,v::vs=>(v.Kind==k&&vg v)&&bc ks vs
 |_,_=>false
def ee: ∀{ks:List Int} {vs:List Value},bc ks vs=true->ks.length=vs.length
 |[],[],_=>rfl
 |k::ks,v::vs,h=>by
  simp only[bc,g_3]at h
  simp[ee h.2]
def jI: ∀{ks:List Int} {vs:List Value} (h:bc ks vs=true) (i:Nat) (h1:i<ks.length) (h2:i<vs.length),vs[i].Kind=ks[i]/\vg vs[i]=true
 |k::ks,v::vs,h,i,h1,h2=>by
  simp only[bc,g_3,beq_iff_eq]at h
  cases i with
  |zero=>exact h.1
  |succ i=>exact jI h.2 i (by simpa using h1) (by simpa using h2)
 |[],[],_,_,h1,_=>absurd h1 (by simp)
def vW(n:Nat)(k:Int):pZ n k=some (!AS k):=rfl
def EO(s:ak):Ev (λf=>rN f s) (n9 s):=by
 unfold rN n9
 by_cases h1:1<=s.aq.length
 case neg=>refine .f (by simp;omega) ?_;rw[decide_eq_false h1];exact .pure _
 refine .t (by simp;omega) ?_
 by_cases h2:s.aq.length<=8
 case neg=>refine .f (by simp;omega) ?_;rw[decide_eq_false h2];simp only[w_3,m_4];exact .pure _
 refine .t (by simp;omega) ?_
 rw[decide_eq_true h1,decide_eq_true h2]
 have e1:((s.Down.length:Int)==(s.aq.length:Int))=(s.Down.length==s.aq.length):=by
  rw[Bool.eq_iff_iff];simp;omega
 have e2:decide (s.cY>=1)=decide (1<=s.cY):=rfl
 rw[e1,e2]
 simp only[j_7]
 cases hc:(s.Down.length==s.aq.length&&decide (1<=s.cY))&&decide (s.cY<=3)
 .exact .f rfl (.pure _)
 .refine .t rfl ?_
  have main:gX (λf=>bM f s.aq) (0:Int) (match s.aq.findIdx? (λk=>!AS k)with|some i=>.inr (i:Int)|none=>.inl ():Unit⊕Int):=by
   refine gX.count (A:=λk=>(k:Int)) (out:=λk=>(match(s.aq.drop k).findIdx? (λk=>!AS k)with|some i=>.inr ((k+i:Nat):Int)|none=>.inl ():Unit⊕Int)) s.aq.length (λk hk=>?_) ?_ 0 (by omega)|>λh=>by simpa using h
   .unfold bM
    cases hk':AS s.aq[k]
    .refine .inr (.t (eM hk)<|.ae (aw hk)<|.bind (.of λn=>vW n _)<|.t (by rw[hk'];rfl) ?_)
     rw[aG hk,List.findIdx?_cons,hk']
     exact .pure _
    .refine .inl ⟨.t (eM hk)<|.ae (aw hk)<|.bind (.of λn=>vW n _)<|.f (by rw[hk'];rfl) ?_,?_⟩
     .rw[cZ (by omega)];exact .pure _
     .rw[aG hk,List.findIdx?_cons,hk']
      grind
   .unfold bM
    refine .f (mj (g_9 _)) ?_
    simp only[m_9,List.findIdx?_nil];exact .pure _
  have hall:s.aq.all AS=(s.aq.findIdx? (λk=>!AS k)).isNone:=by
   grind
  have h3:Ev (λf=>cd f s.aq) (match s.aq.findIdx? (λk=>!AS k)with|some i=>(i:Int)|none=> -1):=by
   unfold cd
   refine .bind main.ev ?_
   cases s.aq.findIdx? (λk=>!AS k)<;>exact .pure _
  have h4:Ev (λf=>bN f s.aq) (!(s.aq.all AS)):=by
   unfold bN
   refine .bind h3 ?_
   rw[hall]
   cases s.aq.findIdx? (λk=>!AS k)with
   |none=>exact .pure _
   |some i=>exact .congr (λ_=>by simp) (.pure _)
  refine .bind h4 ?_
  rw[Bool.not_not,j_7];exact .pure _
def yA(s:ak)(hl:s.aq.length<1000):Ev (λf=>qc f s) (n9 s):=by
 have main:gX (λf=>lW f s) (0:Int) (if s.aq.all AS then .inl ()else .inr false:Unit⊕Bool):=by
  refine gX.count (A:=λk=>(k:Int)) (out:=λk=>(if(s.aq.drop k).all AS then .inl ()else .inr false:Unit⊕Bool)) s.aq.length (λk hk=>?_) ?_ 0 (by omega)
  .unfold lW
   have hd:=aG hk
   by_cases h1:s.aq[k]=1
   .refine .inl ⟨.t (eM hk)<|.ae (aw hk)<|.f (by simp[h1]) ?_,by rw[hd,v_0];simp[AS,h1]⟩
    rw[cZ (by omega)];exact .pure _
   .by_cases h2:s.aq[k]=2
    .refine .inl ⟨.t (eM hk)<|.ae (aw hk)<|.t (by simp[h1])<|.ae (aw hk)<|.f (by simp[h2]) ?_,by rw[hd,v_0];simp[AS,h2]⟩
     rw[cZ (by omega)];exact .pure _
    .refine .inr (.t (eM hk)<|.ae (aw hk)<|.t (by simp[h1])<|.ae (aw hk)<|.t (by simp[h2]) ?_)
     rw[hd,v_0]
     simp only[AS,beq_eq_false_iff_ne.2 h1,beq_eq_false_iff_ne.2 h2,Bool.or_self,m_4,g_7,if_false]
     exact .pure _
  .unfold lW
   refine .f (mj (g_9 _)) ?_
   simp only[m_9,List.all_nil,if_true];exact .pure _
 unfold qc n9
 refine .bind main.ev ?_
 cases h:s.aq.all AS
 .simp only[g_7,if_false,Sum.elim_inr,w_3];exact .pure _
 .simp only[if_true,w_5,Bool.and_true]
  by_cases h1:1<=s.aq.length
  case neg=>refine .f (by simp;omega) ?_;rw[decide_eq_false h1];exact .pure _
  refine .t (by simp;omega) ?_
  by_cases h2:s.aq.length<=8
  case neg=>refine .f (by simp;omega) ?_;rw[decide_eq_false h2];simp only[w_3,m_4];exact .pure _
  refine .t (by simp;omega) ?_
  rw[decide_eq_true h1,decide_eq_true h2]
  have e1:((s.Down.length:Int)==(s.aq.length:Int))=(s.Down.length==s.aq.length):=by
   rw[Bool.eq_iff_iff];simp;omega
  rw[e1]
  exact .pure _
def yR(f:Nat)(v:Value):fJ f v=some (vg v):=by
 unfold fJ jd mE kF kE kD jd vg
 by_cases h1:v.Kind=1
 .grind
 .by_cases h2:v.Kind=2
  .simp only[h2]
   cases h:v.N==0<;>simp
   omega
  grind
def yz(f:Nat)(v:Value):gl f v=some (vg v):=by
 unfold gl vg
 by_cases h1:v.Kind=1
 .simp[h1]
 .by_cases h2:v.Kind=2
  .simp only[h2]
   cases h:v.N==0<;>simp
   omega
  grind
def sL(s:ak)(r:List Value)(hl:r.length<1000):Ev (λf=>qX f s r) (bc s.aq r):=by
 unfold qX
 by_cases hlen:r.length=s.aq.length
 case neg=>
  refine .t (by simp;omega) ?_
  have:bc s.aq r=false:=by
   cases h:bc s.aq r with
   |false=>rfl
   |true=>exact absurd (ee h).symm hlen
  rw[this];exact .pure _
 refine .f (by simp;omega) ?_
 have main:gX (λf=>mY f r) (s.aq,s.Down,s.cY,(0:Int)) (if bc s.aq r then .inl ()else .inr false:Unit⊕Bool):=by
  refine gX.count (A:=λk=>(s.aq,s.Down,s.cY,(k:Int))) (out:=λk=>(if bc (s.aq.drop k) (r.drop k)then .inl ()else .inr false:Unit⊕Bool)) r.length (λk hk=>?_) ?_ 0 (by omega)
  .unfold mY
   have hk2:k<s.aq.length:=by omega
   by_cases h1:r[k].Kind=s.aq[k]
   .cases h2:vg r[k]
    .refine .inr (.t (eM hk)<|.ae (aw hk)<|.ae (aw hk2)<|.f (by simp[h1])<|.bind (.of λn=>yR n _)<|.t (by rw[h2];rfl) ?_)
     rw[aG hk,aG hk2,bc,h2]
     simp only[w_3,m_4,g_7,if_false]
     exact .pure _
    .refine .inl ⟨.t (eM hk)<|.ae (aw hk)<|.ae (aw hk2)<|.f (by simp[h1])<|.bind (.of λn=>yR n _)<|.f (by rw[h2];rfl) ?_,?_⟩
     .rw[cZ (by omega)];exact .pure _
     .rw[aG hk,aG hk2,bc,h2,h1,BEq.rfl,j_7,j_7]
   .refine .inr (.t (eM hk)<|.ae (aw hk)<|.ae (aw hk2)<|.t (by simp[h1]) ?_)
    rw[aG hk,aG hk2,bc,beq_eq_false_iff_ne.2 h1]
    simp only[m_4,g_7,if_false]
    exact .pure _
  .unfold mY
   refine .f (mj (g_9 _)) ?_
   rw[m_9,hlen,m_9]
   exact .pure _
 refine .bind main.ev ?_
 cases bc s.aq r
 .simp only[g_7,if_false,Sum.elim_inr];exact .pure _
 .simp only[if_true,w_5];exact .pure _
def vn(s:ak)(r:List Value)(hs:n9 s=true)(hl:r.length<1000):Ev (λf=>oG f s r) (bc s.aq r):=by
 have hs8:s.aq.length<=8:=by simp only[n9,g_3,decide_eq_true_eq]at hs;omega
 have mainV:gX (λf=>fI f r) (0:Int) (if r.all vg then .inl ()else .inr false:Unit⊕Bool):=by
  refine gX.count (A:=λk=>(k:Int)) (out:=λk=>(if(r.drop k).all vg then .inl ()else .inr false:Unit⊕Bool)) r.length (λk hk=>?_) ?_ 0 (by omega)
  .unfold fI
   cases h2:vg r[k]
   .refine .inr (.t (eM hk)<|.ae (aw hk)<|.bind (.of λn=>yz n _)<|.t (by rw[h2];rfl) ?_)
    rw[aG hk,v_0,h2]
    simp only[m_4,g_7,if_false];exact .pure _
   .refine .inl ⟨.t (eM hk)<|.ae (aw hk)<|.bind (.of λn=>yz n _)<|.f (by rw[h2];rfl) ?_,by rw[aG hk,v_0,h2,j_7]⟩
    rw[cZ (by omega)];exact .pure _
  .unfold fI
   refine .f (mj (g_9 _)) ?_
   simp only[m_9,List.all_nil,if_true];exact .pure _
 have hV:Ev (λf=>jA f r) (r.all vg&&decide (r.length<=8)):=by
  unfold jA
  refine .bind mainV.ev ?_
  cases r.all vg
  .simp only[g_7,if_false,Sum.elim_inr,m_4];exact .pure _
  .simp only[if_true,w_5,j_7]
   exact .congr (λ_=>by rw[show decide ((r.length:Int)<=8)=decide (r.length<=8)by rw[decide_eq_decide];omega]) (.pure _)
 have hall:bc s.aq r=true->r.all vg=true:=λh=>by
  rw[h_2]
  intro x hx
  obtain⟨i,hi,rfl⟩:=List.mem_iff_getElem.1 hx
  exact(jI h i (by rw[ee h];exact hi) hi).2
 unfold oG
 refine .aP<|.bind hV ?_
 by_cases hlen:r.length=s.aq.length
 case neg=>
  have:bc s.aq r=false:=by
   cases h:bc s.aq r with
   |false=>rfl
   |true=>exact absurd (ee h).symm hlen
  rw[this]
  refine .ite (λ_=>.t rfl (.pure _)) (λ_=>.t (by simp;omega) (.pure _))
 cases hv:r.all vg
 .have:bc s.aq r=false:=by
   grind
  rw[this]
  exact .t rfl (.t rfl (.pure _))
 refine .f (by simp;omega)<|.f (by simp;omega) ?_
 have main:gX (λf=>pe f s r) (0:Int) (if bc s.aq r then .inl ()else .inr false:Unit⊕Bool):=by
  refine gX.count (A:=λk=>(k:Int)) (out:=λk=>(if bc (s.aq.drop k) (r.drop k)then .inl ()else .inr false:Unit⊕Bool)) r.length (λk hk=>?_) ?_ 0 (by omega)
  .unfold pe
   have hk2:k<s.aq.length:=by omega
   have h2:vg r[k]=true:=h_2.1 hv _ (j_1 hk)
   by_cases h1:r[k].Kind=s.aq[k]
   .refine .inl ⟨.t (eM hk)<|.ae (aw hk)<|.ae (aw hk2)<|.f (by simp[h1]) ?_,?_⟩
    .rw[cZ (by omega)];exact .pure _
    .rw[aG hk,aG hk2,bc,h2,h1,BEq.rfl,j_7,j_7]
   .refine .inr (.t (eM hk)<|.ae (aw hk)<|.ae (aw hk2)<|.t (by simp[h1]) ?_)
    rw[aG hk,aG hk2,bc,beq_eq_false_iff_ne.2 h1]
    simp only[m_4,g_7,if_false]
    exact .pure _
  .unfold pe
   refine .f (mj (g_9 _)) ?_
   rw[m_9,hlen,m_9]
   exact .pure _
 refine .bind main.ev ?_
 cases bc s.aq r
 .simp only[g_7,if_false,Sum.elim_inr];exact .pure _
 .simp only[if_true,w_5];exact .pure _
def p9(x:Int):Int:=if x<0 then -1 else if 0<x then 1 else 0
def sign_eq(f:Nat)(x:Int):nk f x=some (p9 x):=by
 unfold nk p9
 grind
def vo(f:Nat)(a b:Int):lZ f a b=some (p9 (a - b)):=by
 unfold lZ p9
 grind
def pre:List UInt8->List UInt8->Option Int
 |x::xs,y::ys=>if x=y then pre xs ys else some (if x<y then -1 else 1)
 |_,_=>none
def zZ: ∀a b:List UInt8,Lib.compareBytes a b=(pre a b).getD (p9 ((a.length:Int) - b.length))
 |[],[]=>rfl
 |[],y::ys=>by
  simp only[Lib.compareBytes,pre,Option.getD_none,p9,v_5,j_3]
  rw[if_pos (by omega)]
 |x::xs,[]=>by
  simp only[Lib.compareBytes,pre,Option.getD_none,p9,v_5,j_3]
  grind
 |x::xs,y::ys=>by
  simp only[Lib.compareBytes,pre]
  by_cases h:x=y
  .subst h
   simp only[UInt8.lt_irrefl,if_false,if_true]
   rw[zZ xs ys]
   grind
  grind
def As(a b:List UInt8)(ha:a.length<1000)(hb:b.length<1000):Ev (λf=>nj f a b) (Lib.compareBytes a b):=by
 have main:gX (λf=>jz f a b) (0:Int) (match pre a b with|some c=>.inr c|none=>.inl ():Unit⊕Int):=by
  refine gX.count (A:=λk=>(k:Int)) (out:=λk=>(match pre (a.drop k) (b.drop k)with|some c=>.inr c|none=>.inl ():Unit⊕Int)) (min a.length b.length) (λk hk=>?_) ?_ 0 (by omega)
  .have h1:k<a.length:=by omega
   have h2:k<b.length:=by omega
   unfold jz
   by_cases he:a[k]=b[k]
   .refine .inl ⟨.aP<|.t (eM h1)<|.t (eM h2)<|.ae (aw h1)<|.ae (aw h2)<|.f (by simp[he]) ?_,?_⟩
    .rw[cZ (by omega)];exact .pure _
    .rw[aG h1,aG h2,pre,if_pos he]
   .have hne:a[k].toNat≠b[k].toNat:=λe=>he (UInt8.toNat_inj.1 e)
    have b1:=a[k].toNat_lt
    have b2:=b[k].toNat_lt
    refine .inr (.aP<|.t (eM h1)<|.t (eM h2)<|.ae (aw h1)<|.ae (aw h2)<|.t (by simp;omega)<|.ae (aw h1)<|.ae (aw h2)<|.bind (.of λn=>sign_eq n _) ?_)
    have e:p9 (IntKind.wrap .i64 ((IntKind.wrap .i64 (a[k].toNat:Int)) - (IntKind.wrap .i64 (b[k].toNat:Int))))=if a[k]<b[k]then -1 else 1:=by
     rw[cN (x:=(a[k].toNat:Int)) (by omega) (by omega),cN (x:=(b[k].toNat:Int)) (by omega) (by omega),cN (by omega) (by omega),p9]
     by_cases hl:a[k]<b[k]
     .have:=UInt8.lt_iff_toNat_lt.1 hl
      rw[if_pos hl,if_pos (by omega)]
     .have: ¬a[k].toNat<b[k].toNat:=λh=>hl (UInt8.lt_iff_toNat_lt.2 h)
      grind
    rw[e,aG h1,aG h2,pre,if_neg he]
    exact .pure _
  .unfold jz
   have hp:pre (a.drop (min a.length b.length)) (b.drop (min a.length b.length))=none:=by
    by_cases h:a.length<=b.length
    .rw[p_4 h,m_9];unfold pre;rfl
    .rw[Nat.min_eq_right (by omega),m_9];cases List.drop b.length a<;>rfl
   rw[hp]
   refine .aP ?_
   by_cases h:a.length<=b.length
   .rw[p_4 h]
    exact .f (mj (g_9 _))<|.f rfl (.pure _)
   .rw[Nat.min_eq_right (by omega)]
    exact .t (eM (by omega))<|.f (mj (g_9 _)) (.pure _)
 unfold nj
 refine .bind main.ev ?_
 rw[zZ]
 cases pre a b with
 |some c=>exact .pure _
 |none=>
  refine .bind (.of λn=>sign_eq n _) ?_
  rw[cN (by omega) (by omega)];exact .pure _
def fK(v w:Value):Int:=if v.Kind=1 then v.N - w.N else Lib.compareBytes v.S w.S
def pM(d:Bool)(v w:Value):Int:=if d then fK w v else fK v w
def cx:List Bool->List Value->List Value->Int
 |d::ds,v::vs,w::ws=>if pM d v w=0 then cx ds vs ws else pM d v w
 |_,_,_=>0
def Jt(a b:List UInt8):p9 (Lib.compareBytes a b)=Lib.compareBytes a b:=by
 rw[zZ]
 cases h:pre a b with
 |none=>simp only[Option.getD_none,p9];split<;>(try split)<;>simp_all
 |some c=>
  have: ∀a b:List UInt8,∀c,pre a b=some c->c= -1\/c=1:=by
   intro a
   induction a with
   |nil=>intro b c h;simp[pre]at h
   |cons x xs ih=>
    intro b c h
    cases b with
    |nil=>simp[pre]at h
    |cons y ys=>
     simp only[pre]at h
     grind
  rcases this a b c h with rfl|rfl<;>rfl
def sQ: ∀a b:List UInt8,Lib.compareBytes b a= - Lib.compareBytes a b
 |[],[]=>rfl
 |[],y::ys=>rfl
 |x::xs,[]=>rfl
 |x::xs,y::ys=>by
  simp only[Lib.compareBytes]
  by_cases h:x<y
  .grind
  .by_cases h2:y<x
   .simp[h,h2]
   .simp[h,h2,sQ xs ys]
def IA(x:Int):p9 (-x)= - p9 x:=by unfold p9;grind
def Ku(x:Int):(p9 x<0)<->x<0:=by unfold p9;split<;>(try split)<;>omega
def nc(x:Int):(p9 x=0)<->x=0:=by unfold p9;split<;>(try split)<;>omega
def pk(h:vg v=true):(v.Kind=1/\ -1000000000<=v.N/\v.N<=1000000000/\v.S=[])\/(v.Kind=2/\v.N=0/\v.S.length<=40):=by
 unfold vg at h
 grind
def rE(hv:vg v=true)(hw:vg w=true)(hk:v.Kind=w.Kind):Ev (λf=>iZ f v w) (p9 (fK v w)):=by
 unfold iZ
 refine .bind (.of λn=>vo n _ _) ?_
 have h0:p9 (v.Kind - w.Kind)=0:=by rw[hk,Int.sub_self];rfl
 rw[h0]
 refine .f rfl<|.bind (.of λn=>vo n _ _) ?_
 rcases pk hv with⟨k1,n1,n2,s1⟩|⟨k1,n1,s1⟩<;>rcases pk hw with⟨k2,m1,m2,s2⟩|⟨k2,m1,s2⟩
 .rw[fK,if_pos k1]
  by_cases hz:v.N - w.N=0
  .rw[hz]
   refine .f rfl<|.bind (As _ _ (by rw[s1];decide) (by rw[s2];decide)) ?_
   rw[s1,s2];exact .pure _
  .exact .t (by simp;rwa [nc]) (.pure _)
 .omega
 .omega
 .rw[fK,if_neg (by omega),n1,m1,Jt]
  exact .f rfl<|.bind (As _ _ (by omega) (by omega)) (.pure _)
def AQ(s:ak)(hd:s.Down.length=s.aq.length)(ha:bc s.aq a=true)(hb:bc s.aq b=true)(hl:s.aq.length<=8):
  Ev (λf=>qd f s a b) (p9 (cx s.Down a b)):=by
 have la:=ee ha
 have lb:=ee hb
 have main:gX (λf=>lY f s a b) (0:Int) (if cx s.Down a b=0 then .inl ()else .inr (p9 (cx s.Down a b)):Unit⊕Int):=by
  refine gX.count (A:=λk=>(k:Int)) (out:=λk=>(if cx (s.Down.drop k) (a.drop k) (b.drop k)=0 then .inl ()else .inr (p9 (cx (s.Down.drop k) (a.drop k) (b.drop k))):Unit⊕Int)) a.length (λk hk=>?_) ?_ 0 (by omega)
  .have k1:k<s.aq.length:=by omega
   have k2:k<b.length:=by omega
   have k3:k<s.Down.length:=by omega
   obtain⟨a1,a2⟩:=jI ha k k1 hk
   obtain⟨b1,b2⟩:=jI hb k k1 k2
   have hc:=rE a2 b2 (a1.trans b1.symm)
   have hneg:fK b[k] a[k]= - fK a[k] b[k]:=by
    unfold fK
    rw[a1,b1]
    split
    .omega
    .exact sQ _ _
   have hs1: -2<p9 (fK a[k] b[k])/\p9 (fK a[k] b[k])<2:=by unfold p9;split<;>(try split)<;>omega
   unfold lY
   rw[aG hk,aG k2,aG k3,cx]
   cases hdn:s.Down[k]
   .have ec:pM false a[k] b[k]=fK a[k] b[k]:=rfl
    rw[ec]
    by_cases hz:fK a[k] b[k]=0
    .refine .inl ⟨.t (eM hk)<|.ae (aw hk)<|.ae (aw k2)<|.bind hc<|.ae (aw k3)<|.f hdn<|.f (by rw[hz];rfl) ?_,by rw[if_pos hz]⟩
     rw[cZ (by omega)];exact .pure _
    .refine .inr (.t (eM hk)<|.ae (aw hk)<|.ae (aw k2)<|.bind hc<|.ae (aw k3)<|.f hdn<|.t (by simp;rwa [nc]) ?_)
     rw[if_neg hz,if_neg hz];exact .pure _
   .have ec:pM true a[k] b[k]= - fK a[k] b[k]:=hneg
    rw[ec]
    by_cases hz:fK a[k] b[k]=0
    .refine .inl ⟨.t (eM hk)<|.ae (aw hk)<|.ae (aw k2)<|.bind hc<|.ae (aw k3)<|.t hdn<|.f (by rw[hz];rfl) ?_,by rw[hz,Int.neg_zero,if_pos rfl]⟩
     rw[cZ (by omega)];exact .pure _
    .refine .inr (.t (eM hk)<|.ae (aw hk)<|.ae (aw k2)<|.bind hc<|.ae (aw k3)<|.t hdn<|.t ?_ ?_)
     .rw[cN (by omega) (by omega)];simp;rwa [nc]
     .have hz2: ¬ - fK a[k] b[k]=0:=by omega
      rw[cN (by omega) (by omega),if_neg hz2,if_neg hz2,IA,Int.zero_sub];exact .pure _
  .unfold lY
   refine .f (mj (g_9 _)) ?_
   rw[m_9]
   have:cx (s.Down.drop a.length) [] (b.drop a.length)=0:=by cases List.drop a.length s.Down<;>rfl
   rw[this];exact .pure _
 unfold qd
 refine .bind main.ev ?_
 by_cases h:cx s.Down a b=0
 .rw[if_pos h,h];exact .pure _
 .rw[if_neg h];exact .pure _
def zi: ∀{a b c:List UInt8},Op.bytesLess a b=true->Op.bytesLess b c=true->Op.bytesLess a c=true
 |_,[],_,h,_=>by cases ‹List UInt8› <;>simp[Op.bytesLess]at h
 |_,_::_,[],_,h=>by simp[Op.bytesLess]at h
 |[],_::_,_::_,_,_=>rfl
 |a::x,b::y,c::z,h1,h2=>by
  simp only[Op.bytesLess,p_2,decide_eq_true_eq,g_3,beq_iff_eq]at *
  rcases h1 with h1|⟨rfl,h1⟩<;>rcases h2 with h2|⟨rfl,h2⟩
  .exact .inl (UInt8.lt_trans h1 h2)
  .exact .inl h1
  .exact .inl h2
  .exact .inr ⟨rfl,zi h1 h2⟩
def HA: ∀a b:List UInt8,decide (Lib.compareBytes a b<0)=Op.bytesLess a b
 |[],[]=>rfl
 |[],_::_=>rfl
 |_::_,[]=>rfl
 |a::x,b::y=>by
  simp only[Lib.compareBytes,Op.bytesLess]
  by_cases h:a<b
  .simp[h]
  .by_cases h2:b<a
   .grind
   .have:a=b:=by
     grind
    subst this
    simp[h,HA x y]
def BL: ∀a b:List UInt8,(Lib.compareBytes a b==0)=(a==b)
 |[],[]=>rfl
 |[],_::_=>rfl
 |_::_,[]=>rfl
 |a::x,b::y=>by
  simp only[Lib.compareBytes]
  by_cases h:a<b
  .grind
  .by_cases h2:b<a
   .grind
   .have:a=b:=by
     grind
    subst this
    simp only[h,if_false,BL x y,List.cons_beq_cons,BEq.rfl,j_7]
def m7(s:ak)(hd:s.Down.length=s.aq.length)(ha:bc s.aq a=true)(hb:bc s.aq b=true)(hl:s.aq.length<=8):
  Ev (λf=>mK f s a b) (cx s.Down a b):=by
 have la:=ee ha
 have lb:=ee hb
 have main:gX (λf=>mW f s a b) (0:Int) (if cx s.Down a b=0 then .inl ()else .inr (cx s.Down a b):Unit⊕Int):=by
  refine gX.count (A:=λk=>(k:Int)) (out:=λk=>(if cx (s.Down.drop k) (a.drop k) (b.drop k)=0 then .inl ()else .inr (cx (s.Down.drop k) (a.drop k) (b.drop k)):Unit⊕Int)) s.aq.length (λk hk=>?_) ?_ 0 (by omega)
  .have k1:k<a.length:=by omega
   have k2:k<b.length:=by omega
   have k3:k<s.Down.length:=by omega
   obtain⟨a1,a2⟩:=jI ha k hk k1
   obtain⟨b1,b2⟩:=jI hb k hk k2
   have key: ∀(c:Int) (g:Nat->Option Int),(∀f,g f=some c)->c=pM s.Down[k] a[k] b[k]->
     (Ev (λf=>(g f).bind λr=>bif (r !=0)then some (.inr (.inr r))else some (.inl (IntKind.wrap .i64 ((k:Int)+1)))) (.inl (((k+1:Nat):Int)):Int⊕(Unit⊕Int))/\
      (if cx (s.Down.drop (k+1)) (a.drop (k+1)) (b.drop (k+1))=0 then .inl ()else .inr (cx (s.Down.drop (k+1)) (a.drop (k+1)) (b.drop (k+1))):Unit⊕Int)=(if cx (s.Down.drop k) (a.drop k) (b.drop k)=0 then .inl ()else .inr (cx (s.Down.drop k) (a.drop k) (b.drop k))))\/
     Ev (λf=>(g f).bind λr=>bif (r !=0)then some (.inr (.inr r))else some (.inl (IntKind.wrap .i64 ((k:Int)+1)))) (.inr (if cx (s.Down.drop k) (a.drop k) (b.drop k)=0 then .inl ()else .inr (cx (s.Down.drop k) (a.drop k) (b.drop k))):Int⊕(Unit⊕Int)):=by
    intro c g hg hc
    rw[aG k1,aG k2,aG k3,cx,<-hc]
    by_cases hz:c=0
    .refine .inl ⟨.bind (.of hg)<|.f (by simp[hz]) ?_,by rw[if_pos hz]⟩
     rw[cZ (by omega)];exact .pure _
    .refine .inr (.bind (.of hg)<|.t (by simp[hz]) ?_)
     rw[if_neg hz,if_neg hz];exact .pure _
   have hw: ∀x y:Value,vg x=true->vg y=true->IntKind.wrap .i64 (x.N - y.N)=x.N - y.N:=by
    intro x y hx hy
    rcases pk hx with⟨_,n1,n2,_⟩|⟨_,n1,_⟩<;>rcases pk hy with⟨_,m1,m2,_⟩|⟨_,m1,_⟩<;>exact cN (by omega) (by omega)
   have hk12:s.aq[k]=1\/s.aq[k]=2:=by
    rcases pk a2 with h|h
    .grind
    grind
   unfold mW
   rcases hk12 with h1|h1<;>cases hdn:s.Down[k]
   .have:=key _ (λf=>ir f a[k] b[k]) (λf=>rfl) (by rw[hdn,hw _ _ a2 b2];simp only[pM,fK,g_7,if_false];rw[if_pos (by omega)])
    refine this.imp (λ⟨h,e⟩=>⟨.t (eM hk)<|.ae (aw hk)<|.aP<|.ae (aw k3)<|.f hdn<|.t ?_<|.ae (aw k1)<|.ae (aw k2) h,e⟩) (λh=>.t (eM hk)<|.ae (aw hk)<|.aP<|.ae (aw k3)<|.f hdn<|.t ?_<|.ae (aw k1)<|.ae (aw k2) h)<;>rw[h1]<;>rfl
   .have:=key _ (λf=>im f a[k] b[k]) (λf=>rfl) (by rw[hdn,hw _ _ b2 a2];simp only[pM,fK,if_true];rw[if_pos (by omega)])
    refine this.imp (λ⟨h,e⟩=>⟨.t (eM hk)<|.ae (aw hk)<|.aP<|.ae (aw k3)<|.t hdn<|.f ?_<|.t ?_<|.ae (aw k1)<|.ae (aw k2) h,e⟩) (λh=>.t (eM hk)<|.ae (aw hk)<|.aP<|.ae (aw k3)<|.t hdn<|.f ?_<|.t ?_<|.ae (aw k1)<|.ae (aw k2) h)<;>rw[h1]<;>rfl
   .have:=key _ (λf=>ig f a[k] b[k]) (λf=>rfl) (by rw[hdn];simp only[pM,fK,g_7,if_false];rw[if_neg (by omega)])
    refine this.imp (λ⟨h,e⟩=>⟨.t (eM hk)<|.ae (aw hk)<|.aP<|.ae (aw k3)<|.f hdn<|.f ?_<|.f ?_<|.t ?_<|.ae (aw k1)<|.ae (aw k2) h,e⟩) (λh=>.t (eM hk)<|.ae (aw hk)<|.aP<|.ae (aw k3)<|.f hdn<|.f ?_<|.f ?_<|.t ?_<|.ae (aw k1)<|.ae (aw k2) h)<;>rw[h1]<;>rfl
   .have:=key _ (λf=>ie f a[k] b[k]) (λf=>rfl) (by rw[hdn];simp only[pM,fK,if_true];rw[if_neg (by omega)])
    refine this.imp (λ⟨h,e⟩=>⟨.t (eM hk)<|.ae (aw hk)<|.aP<|.ae (aw k3)<|.t hdn<|.f ?_<|.f ?_<|.f ?_<|.t ?_<|.ae (aw k1)<|.ae (aw k2) h,e⟩) (λh=>.t (eM hk)<|.ae (aw hk)<|.aP<|.ae (aw k3)<|.t hdn<|.f ?_<|.f ?_<|.f ?_<|.t ?_<|.ae (aw k1)<|.ae (aw k2) h)<;>rw[h1]<;>rfl
  .unfold mW
   refine .f (mj (g_9 _)) ?_
   have:cx (s.Down.drop s.aq.length) (a.drop s.aq.length) (b.drop s.aq.length)=0:=by rw[<-hd,m_9];rfl
   rw[this];exact .pure _
 unfold mK
 refine .bind (.of λ_=>rfl)<|.bind main.ev ?_
 by_cases h:cx s.Down a b=0
 .rw[if_pos h,h];exact .pure _
 .rw[if_neg h];exact .pure _
def i64(x:Int):Prop:= -9223372036854775808<=x/\x<9223372036854775808
def bO(s:ak)(a b:Entry):Int:=if cx s.Down a.Row b.Row=0 then(if s.cY=2 then b.Number - a.Number else a.Number - b.Number)else cx s.Down a.Row b.Row
def nG(s:ak)(a:Entry):Bool:=bc s.aq a.Row&&(decide (1<=a.Key)&&decide (a.Key<=1000000))&&decide (1<=a.Number)
def iC(h:n9 s=true):s.aq.length<=8/\s.Down.length=s.aq.length:=by
 simp only[n9,g_3,decide_eq_true_eq,beq_iff_eq]at h
 exact⟨h.1.1.1.1.2,h.1.1.1.2⟩
def o9(hs:n9 s=true)(ha:bc s.aq a.Row=true)(hb:bc s.aq b.Row=true)(na:1<=a.Number/\i64 a.Number)(nb:1<=b.Number/\i64 b.Number):
  Ev (λf=>j5 f s a b) (bO s a b):=by
 obtain⟨h8,hd⟩:=iC hs
 unfold j5 bO
 refine .bind (m7 s hd ha hb h8) ?_
 unfold i64 at na nb
 by_cases hz:cx s.Down a.Row b.Row=0
 .rw[if_pos hz]
  refine .f (by simp[hz]) ?_
  by_cases h2:s.cY=2
  .rw[if_pos h2];refine .t (by simp[h2]) ?_;rw[cN (by omega) (by omega)];exact .pure _
  .rw[if_neg h2];refine .f (by simp[h2]) ?_;rw[cN (by omega) (by omega)];exact .pure _
 .rw[if_neg hz]
  exact .t (by simp[hz]) (.pure _)
def rl(hs:n9 s=true)(ha:bc s.aq a.Row=true)(hb:bc s.aq b.Row=true):
  Ev (λf=>ni f s a b) (decide (bO s a b<0)):=by
 obtain⟨h8,hd⟩:=iC hs
 unfold ni bO
 refine .bind (AQ s hd ha hb h8) ?_
 by_cases hz:cx s.Down a.Row b.Row=0
 .rw[if_pos hz,hz]
  refine .f rfl ?_
  by_cases h2:s.cY=2
  .rw[if_pos h2];refine .t (by simp[h2]) ?_
   rw[show decide (a.Number>b.Number)=decide (b.Number - a.Number<0)by rw[decide_eq_decide];omega];exact .pure _
  .rw[if_neg h2];refine .f (by simp[h2]) ?_
   rw[show decide (a.Number<b.Number)=decide (a.Number - b.Number<0)by rw[decide_eq_decide];omega];exact .pure _
 .rw[if_neg hz]
  refine .t (by simp;rwa [nc]) ?_
  rw[show decide (p9 (cx s.Down a.Row b.Row)<0)=decide (cx s.Down a.Row b.Row<0)by rw[decide_eq_decide,Ku]];exact .pure _
def CU(f:Nat)(k:Int):Au f k=some (decide (1<=k)&&decide (k<=1000000)):=rfl
def zz(f:Nat)(k:Int):rZ f k=some (decide (1<=k)&&decide (k<=1000000)):=rfl
def tE(hs:n9 s=true)(la:a.Row.length<1000):Ev (λf=>sd f s a) (nG s a):=by
 unfold sd nG
 refine .bind (vn s a.Row hs la) ?_
 cases bc s.aq a.Row
 .exact .f rfl (.pure _)
 .exact .t rfl<|.bind (.of λn=>zz n _) (.pure _)
def xH(x y z:Int):Prop:=x<=0->y<=0->z<=0/\(z=0->x=0/\y=0)
def E4(a b c:List UInt8):xH (Lib.compareBytes a b) (Lib.compareBytes b c) (Lib.compareBytes a c):=by
 have hl: ∀a b,Lib.compareBytes a b<0<->Op.bytesLess a b=true:=λa b=>by rw[<-HA,decide_eq_true_eq]
 have hz: ∀a b,Lib.compareBytes a b=0<->a=b:=λa b=>by have:=BL a b;grind
 intro h1 h2
 rcases Int.lt_or_eq_of_le h1 with h1|h1<;>rcases Int.lt_or_eq_of_le h2 with h2|h2
 .have:=(hl a c).2 (zi ((hl a b).1 h1) ((hl b c).1 h2))
  omega
 .grind
 .grind
 grind
def JY(h1:u.Kind=k)(h2:v.Kind=k)(h3:w.Kind=k):xH (fK u v) (fK v w) (fK u w):=by
 unfold fK
 rw[h1,h2]
 split
 .unfold xH;omega
 .exact E4 _ _ _
def wG: ∀(ds:List Bool) {ks:List Int} {u v w:List Value},bc ks u=true->bc ks v=true->bc ks w=true->xH (cx ds u v) (cx ds v w) (cx ds u w)
 |[],ks,u,v,w,_,_,_=>by simp[cx,xH]
 |d::ds,[],[],[],[],_,_,_=>by simp[cx,xH]
 |d::ds,k::ks,x::u,y::v,z::w,h1,h2,h3=>by
  simp only[bc,g_3,beq_iff_eq]at h1 h2 h3
  have ih:=wG ds h1.2 h2.2 h3.2
  have hv:xH (pM d x y) (pM d y z) (pM d x z):=by
   cases d
   .exact JY h1.1.1 h2.1.1 h3.1.1
   .have:=JY h3.1.1 h2.1.1 h1.1.1
    intro p q
    obtain⟨r1,r2⟩:=this q p
    exact⟨r1,λe=>(r2 e).symm⟩
  simp only[cx]
  unfold xH at *
  grind
def sB: ∀(ds:List Bool) {ks:List Int} {u v:List Value},bc ks u=true->bc ks v=true->cx ds v u= - cx ds u v
 |[],ks,u,v,_,_=>rfl
 |d::ds,[],[],[],_,_=>rfl
 |d::ds,k::ks,x::u,y::v,h1,h2=>by
  simp only[bc,g_3,beq_iff_eq]at h1 h2
  have ih:=sB ds h1.2 h2.2
  have hv:fK y x= - fK x y:=by
   unfold fK
   rw[h1.1.1,h2.1.1]
   split
   .omega
   .exact sQ _ _
  have hd:pM d y x= - pM d x y:=by
   cases d
   .exact hv
   .show fK x y= - fK y x
    omega
  simp only[cx]
  split<;>split<;>omega
def tN(ha:bc s.aq a.Row=true)(hb:bc s.aq b.Row=true):bO s b a= - bO s a b:=by
 have:=sB s.Down ha hb
 unfold bO
 grind
def wR(ha:bc s.aq a.Row=true)(hb:bc s.aq b.Row=true)(hc:bc s.aq c.Row=true)(h1:bO s a b<0)(h2:bO s b c<0):bO s a c<0:=by
 have:=wG s.Down ha hb hc
 unfold xH at this
 unfold bO at *
 grind
def jf(h:H[i]? =some (.cells cs)):jH H i=some cs:=by unfold jH;rw[h]
def bU{α:Type}{c:Cc α}{x:α}(h:H[i]? =some (.cells cs))(e:cs.drop off=c.enc x++r):aR c H i off=some x:=by
 unfold aR
 rw[jf h,k_2,e,c.ed]
 rfl
def eS{α:Type}{c:Cd α}{x:α}(h:H[i]? =some (.cells cs))(e:off+(c.enc x).cells.length<=cs.length):cG c H i off x=some (H.set i (.cells (setCells cs off (c.enc x).cells))):=by
 unfold cG Br
 rw[jf h,k_2,if_pos e]
def dA{α:Type}{c:Cd α}{xs:List α}(h:H[i]? =some (.cells cs))(e:cs[off]? =some (.own n (xs.map c.enc))):aW n c H i off=some xs:=by
 unfold aW
 rw[jf h,k_2,e]
 simp only[if_true]
 exact lu c xs
def sJ{α:Type}{c:Cd α}{xs:List α}(h:H[i]? =some (.cells cs))(e:cs[off]? =some (.d (.list n (xs.map c.enc)))):aW n c H i off=some xs:=by
 unfold aW
 rw[jf h,k_2,e]
 simp only[if_true]
 exact lu c xs
def me{α:Type}{c:Cd α}{xs:List α}(h:H[i]? =some (.cells cs))(e:cs[off]? =some (.own n (xs.map c.enc))):cw n c H i off=some (xs,H.set i (.cells (cs.set off .undef))):=by
 unfold cw
 rw[jf h,k_2,e]
 simp only[if_true,lu,m_0]
def gw{α:Type}{c:Cd α}{xs:List α}(h:H[i]? =some (.cells cs))(e:off<cs.length):bT n c H i off xs=some (H.set i (.cells (cs.set off (.own n (xs.map c.enc))))):=by
 unfold bT
 rw[jf h,k_2,if_pos e]
def zR{K V:Type}[BEq K]{k:Kc K}{v:Cd V}{es:List (K×V)}(h:H[i]? =some (.map (es.map (jQ k v)))):xf k v H (some i)=some es:=vu.2 h
def Bs{K V:Type}[BEq K]{k:Kc K}{v:Cd V}{es:List (K×V)}{x:K}(h:H[i]? =some (.map (es.map (jQ k v)))):xg k v H (some i) x=some (es.lookup x):=by
 unfold xg
 rw[zR h]
 rfl
def Hg{K V:Type}[BEq K]{k:Kc K}{v:Cd V}{es:List (K×V)}{x:K}{y:V}(h:H[i]? =some (.map (es.map (jQ k v)))):xe k v H (some i) x y=some (H.set i (.map ((xN x y es).map (jQ k v)))):=by
 unfold xe
 rw[k_2,zR h]
 rfl
def Jl{K V:Type}[BEq K]{k:Kc K}{v:Cd V}{es:List (K×V)}(h:H[i]? =some (.map (es.map (jQ k v)))):zS k v H (some i)=some (es.length:Int):=by
 unfold zS
 rw[zR h]
 rfl
def CM(l:List Int):List (Int×Bool):=l.map λn=>(n,true)
def AW(l:List Int)(n:Int):((CM l).lookup n).getD false=l.contains n:=by
 induction l with
 |nil=>rfl
 |cons a l ih=>
  simp only[CM,h_4,List.lookup,List.contains_cons]at ih ⊢
  grind
def Jb(h:l.contains n=false):xN n true (CM l)=CM (l++[n]):=by
 induction l with
 |nil=>rfl
 |cons a l ih=>
  simp only[List.contains_cons,Bool.or_eq_false_iff]at h
  simp only[CM,h_4,m_5,xN,h.1,g_7,if_false]at ih ⊢
  rw[ih h.2]
def gd{H:Hp}{i j:Nat}{o:aD}(h:j≠i):(H.set i o)[j]? =H[j]? :=by grind
def cA{H:Hp}{i:Nat}{o o':aD}(h:H[i]? =some o'):(H.set i o)[i]? =some o:=by
 grind
set_option maxRecDepth 100000
def BY:Ev (λf=>sC f) true:=⟨40,λn hn=>by
 obtain⟨m,rfl⟩:=Nat.exists_eq_add_of_le' hn
 kernel_rfl⟩
def qw(s:ak)(a b:Entry):Bool:=decide (bO s a b<0)&&(s.cY !=1||cx s.Down a.Row b.Row !=0)
def zl{s:ak}(ha:bc s.aq a.Row=true)(hb:bc s.aq b.Row=true)(hc:bc s.aq c.Row=true)(h1:qw s a b=true)(h2:qw s b c=true):qw s a c=true:=by
 unfold qw at *
 simp only[g_3,decide_eq_true_eq,p_2,bne_iff_ne,ne_eq]at *
 refine⟨wR ha hb hc h1.1 h2.1,?_⟩
 rcases h1.2 with h|h
 .exact .inl h
 rcases h2.2 with h'|h'
 .exact .inl h'
 right
 have h3:=wG s.Down ha hb hc
 have e1:=h1.1
 have e2:=h2.1
 unfold bO at e1 e2
 rw[if_neg h]at e1
 rw[if_neg h']at e2
 intro e
 have:=(h3 (by omega) (by omega)).2 e
 exact h this.1
def gM(s:ak):Option Entry->Entry->Bool
 |none,_=>true
 |some a,e=>qw s a e
def Af(s:ak):Option Entry->List Entry->Bool
 |_,[]=>true
 |p,e::l=>gM s p e&&Af s (some e) l
def xk(s:ak)(last:Int)(met:List Int)(e:Entry):Bool:=nG s e&&decide (e.Number<=last)&&!met.contains e.Number
def nm(s:ak)(last:Int):List Int->List Entry->Option (List Int)
 |met,[]=>some met
 |met,e::l=>if xk s last met e then nm s last (met++[e.Number]) l else none
def Io(s:ak)(last:Int):Option Entry->List Int->List Entry->Option (List Int)
 |_,met,[]=>some met
 |p,met,e::l=>if xk s last met e then(if gM s p e then Io s last (some e) (met++[e.Number]) l else none)else none
def Gm(s:ak)(last:Int): ∀(l:List Entry) (p:Option Entry) (met:List Int),Io s last p met l=if Af s p l then nm s last met l else none
 |[],p,met=>by simp[Io,Af,nm]
 |e::l,p,met=>by
  simp only[Io,Af,nm]
  rw[Gm s last l]
  grind
def vp(tr m:Nat)(nodes:List Node)(nx bad:Int):aD:=.cells [.d (cP.enc (some tr)),.d (.list 3 (List.map bn nodes)),.d (.int .i64 nx),.d (.map m),.d (.int .i64 bad)]
def gY(s:ak)(order:Int)(root:Option Nat)(last count:Int):aD:=
 .cells [.d (.list 1 (List.map (D.int .i64) s.aq)),.d (.list 1 (List.map D.bool s.Down)),.d (.int .i64 s.cY),.d (.int .i64 order),.d (cP.enc root),.d (.int .i64 last),.d (.int .i64 count)]
def eD(met:List Int):aD:=.map ((CM met).map (jQ (kI .i64) cB))
structure kZ(p0 tr m:Nat)(s:ak)(order last:Int)(nodes:List Node)(H:Hp)(nx bad:Int):Prop where
 hp:H[p0]? =some (vp tr m nodes nx bad)
 ht: ∃r c,H[tr]? =some (gY s order r last c)
 hm: ∃o,H[m]? =some o
 n1:p0≠m
 n2:tr≠m
 n3:tr≠p0
section
variable {p0 tr m:Nat} {s:ak} {order last:Int} {nodes:List Node} {H:Hp} {nx bad:Int}
def kZ.map(h:kZ p0 tr m s order last nodes H nx bad)(o:aD):kZ p0 tr m s order last nodes (H.set m o) nx bad:=by
 obtain⟨o',ho⟩:=h.hm
 exact⟨by rw[gd h.n1];exact h.hp,by rw[gd h.n2];exact h.ht,⟨_,cA ho⟩,h.n1,h.n2,h.n3⟩
def kZ.tree(h:kZ p0 tr m s order last nodes H nx bad):aR cP.cell H p0 0=some (some tr):=bU (r:=[.d (.list 3 (List.map bn nodes)),.d (.int .i64 nx),.d (.map m),.d (.int .i64 bad)]) h.hp rfl
def kZ.gp(h:kZ p0 tr m s order last nodes H nx bad):aW 3 xx H p0 1=some nodes:=sJ h.hp rfl
def kZ.FJ(h:kZ p0 tr m s order last nodes H nx bad):aR (cI .i64).cell H p0 2=some nx:=bU (r:=[.d (.map m),.d (.int .i64 bad)]) h.hp rfl
def kZ.mp(h:kZ p0 tr m s order last nodes H nx bad):aR cM.cell H p0 3=some (some m):=bU (r:=[.d (.int .i64 bad)]) h.hp rfl
def kZ.bd(h:kZ p0 tr m s order last nodes H nx bad):aR (cI .i64).cell H p0 4=some bad:=bU (r:=[]) h.hp rfl
def kZ.wa(h:kZ p0 tr m s order last nodes H nx bad):aR cj.cells H tr 0=some s:=by
 obtain⟨r,c,ht⟩:=h.ht
 exact bU (r:=[.d (.int .i64 order),.d (cP.enc r),.d (.int .i64 last),.d (.int .i64 c)]) ht rfl
def kZ.dup(h:kZ p0 tr m s order last nodes H nx bad):aR (cI .i64).cell H tr 2=some s.cY:=by
 obtain⟨r,c,ht⟩:=h.ht
 exact bU (r:=[.d (.int .i64 order),.d (cP.enc r),.d (.int .i64 last),.d (.int .i64 c)]) ht rfl
def kZ.ord(h:kZ p0 tr m s order last nodes H nx bad):aR (cI .i64).cell H tr 3=some order:=by
 obtain⟨r,c,ht⟩:=h.ht
 exact bU (r:=[.d (cP.enc r),.d (.int .i64 last),.d (.int .i64 c)]) ht rfl
def kZ.ba(h:kZ p0 tr m s order last nodes H nx bad):aR (cI .i64).cell H tr 5=some last:=by
 obtain⟨r,c,ht⟩:=h.ht
 exact bU (r:=[.d (.int .i64 c)]) ht rfl
def kZ.zt(h:kZ p0 tr m s order last nodes H nx bad)(b:Int):cG (cI .i64) H p0 4 b=some (H.set p0 (vp tr m nodes nx b)):=eS h.hp (by simp[cI,D.cells])
def kZ.Mh(h:kZ p0 tr m s order last nodes H nx bad)(b:Int):cG (cI .i64) H p0 2 b=some (H.set p0 (vp tr m nodes b bad)):=eS h.hp (by simp[cI,D.cells])
def kZ.put(h:kZ p0 tr m s order last nodes H nx bad)(a b:Int):kZ p0 tr m s order last nodes (H.set p0 (vp tr m nodes a b)) a b:=by
 obtain⟨o',ho⟩:=h.hm
 exact⟨cA h.hp,by rw[gd h.n3];exact h.ht,⟨o',by rw[gd (j_4 h.n1)];exact ho⟩,h.n1,h.n2,h.n3⟩
def xD(hs:n9 s=true)(h:kZ p0 tr m s order last nodes H nx bad)(ha:nG s a=true)(hb:nG s b=true)(na:i64 a.Number)(nb:i64 b.Number):Ev (λf=>bL f p0 a b H) (qw s a b):=by
 have fa:bc s.aq a.Row=true:=by simp only[nG,g_3]at ha;exact ha.1.1
 have fb:bc s.aq b.Row=true:=by simp only[nG,g_3]at hb;exact hb.1.1
 have a1:1<=a.Number:=by simp only[nG,g_3,decide_eq_true_eq]at ha;exact ha.2
 have b1:1<=b.Number:=by simp only[nG,g_3,decide_eq_true_eq]at hb;exact hb.2
 obtain⟨h8,hd⟩:=iC hs
 unfold bL qw
 refine .ae h.tree<|.ae rfl<|.ae h.wa<|.bind (o9 hs fa fb ⟨a1,na⟩ ⟨b1,nb⟩) ?_
 cases hc:decide (bO s a b<0)with
 |false=>exact .f rfl (.pure _)
 |true=>
  refine .t rfl<|.ae h.tree<|.ae rfl<|.ae h.dup ?_
  cases hd1:s.cY !=1 with
  |true=>exact .t rfl (.pure _)
  |false=>exact .f rfl<|.ae h.tree<|.ae rfl<|.ae h.wa<|.bind (m7 s hd fa fb h8) (.pure _)
def Bv(h:xk s last met e=true):nG s e=true/\e.Number<=last/\met.contains e.Number=false:=by
 simp only[xk,g_3,decide_eq_true_eq,k_3]at h
 exact⟨h.1.1,h.1.2,h.2⟩
def yr(hs:n9 s=true)(h:kZ p0 tr m s order last nodes H nx bad)(hl:x.Entries.length<1000000)(hr: ∀e∈x.Entries,e.Row.length<1000/\i64 e.Number):
  ∀(l:List Entry) (k:Nat) (p:Option Entry) (met:List Int),x.Entries.drop k=l->(k=0->p=none)->(∀j,k=j+1->p=x.Entries[j]?)->(∀e,p=some e->nG s e=true)->
   match Io s last p met l with
   |some met'=>gX (λf=>bQ f p0 x) (x.Level,x.Entries,x.Kids,(k:Int),H.set m (eD met)) (.inl (H.set m (eD met')))
   |none=> ∃met',gX (λf=>bQ f p0 x) (x.Level,x.Entries,x.Kids,(k:Int),H.set m (eD met)) (.inr (false,H.set m (eD met')))
 |[],k,p,met,hd,h0,h1,hp=>by
  have hk:x.Entries.length<=k:=by simpa using hd
  simp only[Io]
  refine .stop ?_
  unfold bQ
  exact .f (mj hk) (.pure _)
 |e::l,k,p,met,hd,h0,h1,hp=>by
  have hk:k<x.Entries.length:=by
   by_cases hk:k<x.Entries.length
   .exact hk
   .rw[List.drop_eq_nil_of_le (by omega)]at hd;cases hd
  have hek:x.Entries[k]=e:=by rw[aG hk]at hd;exact(j_0 hd).1
  have hdl:x.Entries.drop (k+1)=l:=by rw[aG hk]at hd;exact(j_0 hd).2
  have he:=hr e (hek▸j_1 hk)
  have hM:(H.set m (eD met))[m]? =some (eD met):=by obtain⟨o,ho⟩:=h.hm;exact cA ho
  have g:=h.map (eD met)
  simp only[Io]
  have bad1:xk s last met e=false->Ev (λf=>bQ f p0 x (x.Level,x.Entries,x.Kids,(k:Int),H.set m (eD met))) (.inr (.inr (false,H.set m (eD met)))):=by
   intro hf
   unfold bQ
   refine .t (eM hk)<|.ae (aw hk)<|.aP ?_
   rw[hek]
   refine .ae g.tree<|.ae rfl<|.ae g.wa<|.bind (sL s e.Row he.1) ?_
   cases h1:bc s.aq e.Row with
   |false=>exact .t rfl<|.t rfl (.pure _)
   |true=>
    refine .f rfl<|.bind (.of λn=>CU n _) ?_
    by_cases h2:(1<=e.Key/\e.Key<=1000000)/\1<=e.Number
    .refine .f (by grind)<|.ae g.tree<|.ae rfl<|.ae g.ba ?_
     by_cases h3:e.Number<=last
     .refine .f (by grind)<|.ae g.mp<|.ae (Bs hM) ?_
      have:met.contains e.Number=true:=by
       cases hc:met.contains e.Number with
       |true=>rfl
       |false=>
        have:xk s last met e=true:=by simp only[xk,nG,h1,hc,g_3,decide_eq_true_eq,j_7,Bool.not_false,and_true];grind
        rw[this]at hf;cases hf
      exact .t (by rw[AW,this]) (.pure _)
     .exact .t (by grind)<|.t rfl (.pure _)
    .exact .t (by grind)<|.t rfl (.pure _)
  cases hf:xk s last met e with
  |false=>exact⟨met,.stop (bad1 hf)⟩
  |true=>
   obtain⟨f1,f2,f3⟩:=Bv hf
   have f1':=f1
   simp only[nG,g_3,decide_eq_true_eq]at f1'
   have oe:(H.set m (eD met)).set m (eD (met++[e.Number]))=H.set m (eD (met++[e.Number])):=by rw[m_6]
   have hput:xe (kI .i64) cB (H.set m (eD met)) (some m) e.Number true=some (H.set m (eD (met++[e.Number]))):=by
    rw[Hg hM,Jb f3,<-oe];rfl
   have g2:=h.map (eD (met++[e.Number]))
   have key:Ev (λf=>bQ f p0 x (x.Level,x.Entries,x.Kids,(k:Int),H.set m (eD met)))
     (if gM s p e=true then .inl (x.Level,x.Entries,x.Kids,((k+1:Nat):Int),H.set m (eD (met++[e.Number])))else .inr (.inr (false,H.set m (eD (met++[e.Number]))))):=by
    unfold bQ
    refine .t (eM hk)<|.ae (aw hk)<|.aP ?_
    rw[hek]
    refine .ae g.tree<|.ae rfl<|.ae g.wa<|.bind (sL s e.Row he.1) ?_
    rw[f1'.1.1]
    refine .f rfl<|.bind (.of λn=>CU n _) ?_
    refine .f (by grind)<|.ae g.tree<|.ae rfl<|.ae g.ba ?_
    refine .f (by grind)<|.ae g.mp<|.ae (Bs hM) ?_
    refine .f (by rw[AW,f3])<|.ae g.mp<|.ae hput<|.aP ?_
    rw[cZ (by omega)]
    obtain rfl|⟨j,rfl⟩:k=0\/ ∃j,k=j+1:=by cases k<;>simp
    .have hp0:=h0 rfl
     subst hp0
     simp only[gM]
     exact .f (by simp)<|.f (by simp) (.pure _)
    .have hj:j<x.Entries.length:=by omega
     have hp1:=h1 j rfl
     rw[h_6 hj]at hp1
     have ha:=hp _ hp1
     have hna:=hr _ (j_1 hj)
     subst hp1
     simp only[gM]
     have hix:idx x.Entries (IntKind.wrap .i64 (((j+1:Nat):Int) - 1))=some x.Entries[j]:=by
      rw[cN (by omega) (by omega),show((j+1:Nat):Int) - 1=(j:Int)by omega];exact aw hj
     have ha':=ha
     simp only[nG,g_3,decide_eq_true_eq]at ha'
     obtain⟨h8,hd⟩:=iC hs
     refine .t (by grind)<|.ae g2.tree<|.ae rfl<|.ae g2.wa<|.ae hix<|.bind (o9 hs ha'.1.1 f1'.1.1 ⟨ha'.2,hna.2⟩ ⟨f1'.2,he.2⟩) ?_
     by_cases hc:bO s x.Entries[j] e<0
     .refine .f (by grind)<|.t (by grind)<|.ae g2.tree<|.ae rfl<|.ae g2.dup ?_
      by_cases hdp:s.cY=1
      .refine .t (by simp[hdp])<|.ae g2.tree<|.ae rfl<|.ae g2.wa<|.ae hix<|.bind (m7 s hd ha'.1.1 f1'.1.1 h8) ?_
       by_cases hz:cx s.Down x.Entries[j].Row e.Row=0
       .simp only[show qw s x.Entries[j] e=false by simp[qw,hdp,hz],g_7,if_false]
        exact .t (by simp[hz]) (.pure _)
       .simp only[show qw s x.Entries[j] e=true by simp[qw,hc,hz],if_true]
        exact .f (by simp[hz]) (.pure _)
      .simp only[show qw s x.Entries[j] e=true by simp[qw,hc,hdp],if_true]
       exact .f (by simp[hdp]) (.pure _)
     .simp only[show qw s x.Entries[j] e=false by simp[qw,hc],g_7,if_false]
      exact .t (by grind) (.pure _)
   simp only[if_true]
   by_cases ho:gM s p e=true
   .rw[if_pos ho]at key ⊢
    have ih:=yr hs h hl hr l (k+1) (some e) (met++[e.Number]) hdl (by omega) (λj hj=>by
     grind) (λe' h'=>by cases h';exact f1)
    cases hq:Io s last (some e) (met++[e.Number]) l with
    |none=>rw[hq]at ih;obtain⟨met',ih⟩:=ih;exact⟨met',.next key ih⟩
    |some met'=>rw[hq]at ih;exact .next key ih
   .rw[if_neg ho]at key ⊢
    exact⟨_,.stop key⟩
end
set_option maxRecDepth 100000
def kH{α:Type}{F g:Nat->Option α}{r:α}(h: ∀n,F (n+1)=g n)(hg:Ev g r):Ev F r:=by
 obtain⟨N,hN⟩:=hg
 refine⟨N+1,λn hn=>?_⟩
 obtain⟨n,rfl⟩: ∃k,n=k+1:=⟨n - 1,by omega⟩
 rw[h]
 exact hN n (by omega)
section
variable (s:ak) (order last:Int) (nodes:List Node)
def ou(low high:Option Entry)(x:Node):Bool:=
 (match low,x.Entries.head? with|some l,some a=>qw s l a|_,_=>true)&&(match high,x.Entries.getLast? with|some h,some b=>qw s b h|_,_=>true)
def vk(root:Bool)(x:Node):Bool:=decide ((x.Entries.length:Int)<=order)&&(root||decide (order / 2<=(x.Entries.length:Int)))
def vh(root:Bool)(level:Int)(x:Node):Bool:=decide (0<=x.Level)&&(root||x.Level==level)
def w7(x:Node):Bool:=x.Kids.length==(if 0<x.Level then x.Entries.length+1 else 0)&&x.Kids.length !=1
def qf(root:Bool)(level:Int)(low high:Option Entry)(met:List Int)(x:Node):Option (List Int):=
 if vk order root x&&vh root level x&&w7 x&&Af s none x.Entries&&ou s low high x then nm s last met x.Entries else none
def ny(x:Node)(low:Option Entry)(i:Nat):Option Entry:=if 0<i then x.Entries[i - 1]? else low
def gO(x:Node)(high:Option Entry)(i:Nat):Option Entry:=if i<x.Entries.length then x.Entries[i]? else high
def oV(rc:Nat->Int->Option Entry->Option Entry->List Int->Nat⊕(Nat×List Int))(at_:Nat)(x:Node)(low high:Option Entry):List Int->Nat->Nat->List Int->Nat⊕(Nat×List Int)
 |[],_,nx,met=>.inr (nx,met)
 |k::ks,i,nx,met=>if k=(nx:Int)/\nx<nodes.length then
   match rc nx (x.Level - 1) (ny x low i) (gO x high i) met with
   |.inl b=>.inl b
   |.inr (nx',met')=>oV rc at_ x low high ks (i+1) nx' met'
  else .inl at_
def wk:Nat->Nat->Int->Option Entry->Option Entry->List Int->Nat⊕(Nat×List Int)
 |0,at_,_,_,_,_=>.inl at_
 |d+1,at_,level,low,high,met=>match nodes[at_]? with
  |none=>.inl at_
  |some x=>match qf s order last (at_==0) level low high met x with
   |none=>.inl at_
   |some met'=>oV nodes (wk d) at_ x low high x.Kids 0 (at_+1) met'
end
def cz(es:List Entry)(is:List (Option Nat)):aD:=.cells [.own 3 (List.map ab es),.own 1 (List.map cP.enc is)]
def xZ(P:Nat->Nat->Nat->Prop):List Int->List (Option Nat)->Nat->Nat->Prop
 |[],[],a,z=>a=z
 |k::ks,some i::is,a,z=>k=(a:Int)/\ ∃m,P a m i/\xZ P ks is m z
 |_,_,_,_=>False
def HN(b:Nat)(nodes:List Node)(H:Hp):Nat->Nat->Nat->Nat->Prop
 |0,a,z,i=> ∃x,nodes[a]? =some x/\x.Level=0/\x.Kids=[]/\H[i]? =some (cz x.Entries [])/\z=a+1/\b<=i
 |lv+1,a,z,i=> ∃x is,nodes[a]? =some x/\x.Level=((lv+1:Nat):Int)/\x.Kids.length=x.Entries.length+1/\H[i]? =some (cz x.Entries is)/\b<=i/\xZ (HN b nodes H lv) x.Kids is (a+1) z
def xZ.mono{P P':Nat->Nat->Nat->Prop}(h: ∀a z i,P a z i->P' a z i): ∀{ks:List Int} {is:List (Option Nat)} {a z:Nat},xZ P ks is a z->xZ P' ks is a z
 |[],[],a,z,hh=>hh
 |k::ks,some i::is,a,z,hh=>by
  obtain⟨h1,m,h2,h3⟩:=hh
  exact⟨h1,m,h _ _ _ h2,xZ.mono h h3⟩
 |[],some _::_,_,_,hh=>hh.elim
 |[],none::_,_,_,hh=>hh.elim
 |_::_,[],_,_,hh=>hh.elim
 |_::_,none::_,_,_,hh=>hh.elim
def HN.frame{nodes:List Node}{H:Hp}(h: ∀j,b<=j->j<H.length->H'[j]? =H[j]?): ∀{lv a z i:Nat},HN b nodes H lv a z i->HN b nodes H' lv a z i
 |0,a,z,i,hh=>by
  obtain⟨x,h1,h2,h3,h4,h5,h6⟩:=hh
  exact⟨x,h1,h2,h3,by grind,h5,h6⟩
 |lv+1,a,z,i,hh=>by
  obtain⟨x,is,h1,h2,h3,h4,h5,h6⟩:=hh
  exact⟨x,is,h1,h2,h3,by grind,h5,h6.mono λ_ _ _ hp=>HN.frame h hp⟩
def HN.base(hb:b'<=b){nodes:List Node}{H:Hp}: ∀{lv a z i:Nat},HN b nodes H lv a z i->HN b' nodes H lv a z i
 |0,a,z,i,hh=>by
  obtain⟨x,h1,h2,h3,h4,h5,h6⟩:=hh
  exact⟨x,h1,h2,h3,h4,h5,by omega⟩
 |lv+1,a,z,i,hh=>by
  obtain⟨x,is,h1,h2,h3,h4,h5,h6⟩:=hh
  exact⟨x,is,h1,h2,h3,h4,by omega,h6.mono λ_ _ _ hp=>HN.base hb hp⟩
section
variable {p0 tr m:Nat} {s:ak} {order last:Int} {nodes:List Node} {H:Hp} {nx bad:Int}
def Bc(h:kZ p0 tr m s order last nodes H nx bad)(h3:3<=order)(h32:order<=32):Ev (λf=>b9 f tr H) (order / 2):=by
 unfold b9
 refine .ae h.ord ?_
 rw[show Int.tdiv order 2=order / 2 by grind,cN (by omega) (by omega)]
 exact .pure _
def Gl(hs:n9 s=true)(h:kZ p0 tr m s order last nodes H nx bad)(hm:H[m]? =some (eD met))(h3:3<=order)(h32:order<=32)(hl:x.Entries.length<1000000)
  (hr: ∀e∈x.Entries,e.Row.length<1000/\i64 e.Number):
  match(if vk order root x then Io s last none met x.Entries else none)with
  |some met'=>Ev (λf=>cm f p0 x root inn H) (true,H.set m (eD met'))
  |none=> ∃met',Ev (λf=>cm f p0 x root inn H) (false,H.set m (eD met')):=by
 have hH:H.set m (eD met)=H:=by
  apply p_0
  grind
 have L:=yr hs h hl hr x.Entries 0 none met (by simp) (λ_=>rfl) (λj hj=>by omega) (λe he=>by cases he)
 rw[hH]at L
 have body: ∀{r},Ev (λf=>(iter (bQ f p0 x) f (x.Level,x.Entries,x.Kids,0,H)).bind (Sum.elim (λv41=>some (true,v41)) (λr42=>some r42))) r->vk order root x=true->Ev (λf=>cm f p0 x root inn H) r:=by
  intro r hE hc
  simp only[vk,g_3,p_2,decide_eq_true_eq]at hc
  unfold cm
  refine .aP<|.ae h.tree<|.ae rfl<|.ae h.ord<|.f (by simp;omega) ?_
  cases root with
  |true=>exact .f rfl hE
  |false=>
   refine .t rfl<|.ae h.tree<|.ae rfl<|.bind (Bc h h3 h32)<|.f ?_ hE
   grind
 cases hc:vk order root x with
 |true=>
  simp only[if_true]
  cases hq:Io s last none met x.Entries with
  |some met'=>
   rw[hq]at L
   exact body (.bind L.ev (.pure _)) hc
  |none=>
   rw[hq]at L
   obtain⟨met',L⟩:=L
   exact⟨met',body (.bind L.ev (.pure _)) hc⟩
 |false=>
  simp only[g_7,if_false]
  refine⟨met,?_⟩
  rw[hH]
  unfold cm
  refine .aP<|.ae h.tree<|.ae rfl<|.ae h.ord ?_
  simp only[vk,Bool.and_eq_false_iff,Bool.or_eq_false_iff,decide_eq_false_iff_not]at hc
  by_cases ho:(x.Entries.length:Int)<=order
  .rcases hc with hc|⟨rfl,hc⟩
   .omega
   .exact .f (by simp;omega)<|.t rfl<|.ae h.tree<|.ae rfl<|.bind (Bc h h3 h32)<|.t (by simp;omega) (.pure _)
  .exact .t (by simp;omega) (.pure _)
end
set_option maxRecDepth 100000
def qt(s:ak)(o:Option Entry):Prop:= ∀e,o=some e->nG s e=true/\i64 e.Number
def Aj(nodes:List Node):Prop:=nodes.length<1000/\ ∀x∈nodes,x.Entries.length<1000/\x.Kids.length<1000/\i64 x.Level/\ ∀e∈x.Entries,e.Row.length<1000/\i64 e.Number
def FV{nodes:List Node}{rc:Nat->Int->Option Entry->Option Entry->List Int->Nat⊕(Nat×List Int)}(hrc: ∀a lv lo hi mt z m',rc a lv lo hi mt=.inr (z,m')->a<z):
  ∀{ks:List Int} {i nx:Nat} {met:List Int} {z:Nat} {m':List Int},oV nodes rc a x low high ks i nx met=.inr (z,m')->nx<=z
 |[],i,nx,met,z,m',h=>by simp only[oV,Sum.inr.injEq,g_8]at h;omega
 |k::ks,i,nx,met,z,m',h=>by
  simp only[oV]at h
  split at h
  .split at h
   .cases h
   .rename_i nx' met' hr
    have:=hrc _ _ _ _ _ _ _ hr
    have:=FV hrc h
    omega
  .cases h
def FR{s:ak}{order last:Int}{nodes:List Node}: ∀{d a:Nat} {lv:Int} {lo hi:Option Entry} {mt:List Int} {z:Nat} {m':List Int},wk s order last nodes d a lv lo hi mt=.inr (z,m')->a<z
 |0,a,lv,lo,hi,mt,z,m',h=>by cases h
 |d+1,a,lv,lo,hi,mt,z,m',h=>by
  simp only[wk]at h
  split at h
  .cases h
  .split at h
   .cases h
   .have:=FV (λ_ _ _ _ _ _ _ hq=>FR hq) h
    omega
def FT{s:ak}{order last:Int}{nodes:List Node}{d a:Nat}{lv:Int}{lo hi:Option Entry}{mt:List Int}{z:Nat}{m':List Int}(h:wk s order last nodes d a lv lo hi mt=.inr (z,m'))(h0:a≠0): ∃x,nodes[a]? =some x/\x.Level=lv:=by
 cases d with
 |zero=>cases h
 |succ d=>
  simp only[wk]at h
  split at h
  .cases h
  .rename_i x hx
   split at h
   .cases h
   .rename_i met' hm
    refine⟨x,hx,?_⟩
    unfold qf at hm
    split at hm
    .rename_i hc
     simp only[g_3,vh,p_2,beq_iff_eq]at hc
     grind
    .cases hm
section
variable {p0 tr m:Nat} {s:ak} {order last:Int} {nodes:List Node}
def B5(p0 tr m:Nat)(s:ak)(order last:Int)(nodes:List Node)(f:Nat->Option (Option Nat×Hp))(H:Hp)(a:Nat)(r:Nat⊕(Nat×List Int)):Prop:=
 match r with
 |.inl b=> ∃H' nx',Ev f (none,H')/\kZ p0 tr m s order last nodes H' nx' (b:Nat)
 |.inr (z,met')=> ∃H' i lv bad',Ev f (some i,H')/\kZ p0 tr m s order last nodes H' (z:Nat) bad'/\H'[m]? =some (eD met')/\HN H.length nodes H' lv a z i/\H.length<=H'.length/\(∀j,j≠p0->j≠m->j<H.length->H'[j]? =H[j]?)
def kZ.frame(h:kZ p0 tr m s order last nodes H nx bad)(hp:out≠p0)(hm:out≠m)(ht:out≠tr)(hf: ∀j,j≠out->H'[j]? =H[j]?):kZ p0 tr m s order last nodes H' nx bad:=by
 obtain⟨r,c,h2⟩:=h.ht
 exact⟨by rw[hf _ (j_4 hp)];exact h.hp,⟨r,c,by rw[hf _ (j_4 ht)];exact h2⟩,by obtain⟨o,ho⟩:=h.hm;grind,h.n1,h.n2,h.n3⟩
set_option maxHeartbeats 1000000 in
theorem Bi{d a out lvk:Nat}{x:Node}{low high:Option Entry}{q30:Hp×Nat}{j8:Int×Bool}{v38:(Option Entry)×(Option Entry)×Int×(List Entry)×(List Int)×Hp}{RC:Nat->Nat->Int->kY->Hp->Option ((Option Nat)×Hp)}
  (hN:Aj nodes) (hxm:x∈nodes) (hq:q30.2=out) (hj8:j8.1=x.Level) (hv:v38.2.2.2.2.1=x.Kids) (hk:x.Kids≠[]->x.Kids.length=x.Entries.length+1/\x.Level=((lvk+1:Nat):Int))
  (hlow:qt s low) (hhigh:qt s high) (hes: ∀e∈x.Entries,nG s e=true) (op:p0<out) (om:m<out) (ot:tr<out)
  (hrc: ∀(nx:Nat) (level:Int) (lo hi:Option Entry) (met:List Int) (H:Hp) (bad:Int),a<nx->nx<nodes.length->0<=level->i64 level->qt s lo->qt s hi->kZ p0 tr m s order last nodes H nx bad->H[m]? =some (eD met)->
   B5 p0 tr m s order last nodes (λn=>RC n p0 level ⟨lo,hi⟩ H) H nx (wk s order last nodes d nx level lo hi met)):
  ∀(ks:List Int) (i nx:Nat) (met:List Int) (H:Hp) (bad:Int) (is:List (Option Nat)),x.Kids.drop i=ks->i<=x.Kids.length->is.length=i->a<nx->kZ p0 tr m s order last nodes H nx bad->H[m]? =some (eD met)->H[out]? =some (cz x.Entries is)->
   match oV nodes (wk s order last nodes d) a x low high ks i nx met with
   |.inl b=> ∃H' nx',gX (λn=>bA n (RC n) p0 (a:Int) x j8 q30 v38) (low,high,x.Level,x.Entries,x.Kids,(i:Int),H) (.inr (none,H'))/\kZ p0 tr m s order last nodes H' nx' (b:Nat)
   |.inr (z,met')=> ∃H' is' bad',gX (λn=>bA n (RC n) p0 (a:Int) x j8 q30 v38) (low,high,x.Level,x.Entries,x.Kids,(i:Int),H) (.inl H')/\kZ p0 tr m s order last nodes H' (z:Nat) bad'/\H'[m]? =some (eD met')/\
     H'[out]? =some (cz x.Entries (is++is'))/\xZ (HN (out+1) nodes H' lvk) ks is' nx z/\H.length<=H'.length/\(∀j,j≠p0->j≠m->j≠out->j<H.length->H'[j]? =H[j]?)
 |[],i,nx,met,H,bad,is,hd,hi,hl,ha,h,hm,ho=>by
  have hik:x.Kids.length<=i:=by simpa using hd
  simp only[oV]
  refine⟨H,[],bad,.stop ?_,h,hm,by simpa using ho,rfl,g_9 _,λ_ _ _ _ _=>rfl⟩
  unfold bA
  rw[hv]
  exact .f (mj hik) (.pure _)
 |k::ks,i,nx,met,H,bad,is,hd,hi,hl,ha,h,hm,ho=>by
  have hik:i<x.Kids.length:=by
   grind
  have hek:x.Kids[i]=k:=by rw[aG hik]at hd;exact(j_0 hd).1
  have hdl:x.Kids.drop (i+1)=ks:=by rw[aG hik]at hd;exact(j_0 hd).2
  have hne:x.Kids≠[]:=by intro e;rw[e]at hik;simp at hik
  obtain⟨hk1,hk2⟩:=hk hne
  obtain⟨b1,b2,b3,b4⟩:=hN.2 x hxm
  have hN1:=hN.1
  simp only[oV]
  by_cases hc:k=(nx:Int)/\nx<nodes.length
  .rw[if_pos hc]
   have hlo:qt s (ny x low i):=by
    unfold ny
    split
    .intro e he
     grind
    .exact hlow
   have hhi:qt s (gO x high i):=by
    unfold gO
    split
    .intro e he
     grind
    .exact hhigh
   have R:=hrc nx (x.Level - 1) (ny x low i) (gO x high i) met H bad ha hc.2 (by omega) (by unfold i64 at *;omega) hlo hhi h hm
   have step: ∀{r o},Ev (λn=>RC n p0 (x.Level - 1) ⟨ny x low i,gO x high i⟩ H) r->
     Ev (λn=>Option.elim r.1 (some (.inr (.inr (none,r.2)))) (λi53=>
       (cw 1 cP r.2 q30.2 1).bind λq54=>
       dw (decide ((q54.1++[(some i53)]).length<=room))<|
       (bT 1 cP q54.2 q30.2 1 (q54.1++[(some i53)])).bind λH55=>
       some (.inl (low,high,x.Level,x.Entries,x.Kids,((i+1:Nat):Int),H55)))) o->
     Ev (λn=>bA n (RC n) p0 (a:Int) x j8 q30 v38 (low,high,x.Level,x.Entries,x.Kids,(i:Int),H)) o:=by
    intro r o hr hE
    unfold bA
    rw[hv,hj8]
    refine .t (eM hik)<|.ae (aw hik)<|.aP ?_
    rw[hek]
    refine .ae h.FJ<|.f (by simp[hc.1])<|.ae h.gp<|.f (by simp;omega)<|.aP ?_
    have tail: ∀{lo:Option Entry},lo=ny x low i->Ev (λn=>aP (λ(j49:Option Entry)=>
      (RC n p0 (IntKind.wrap .i64 (x.Level - 1)) (⟨lo,j49⟩:kY) H).bind λr52=>
      (Option.elim r52.1
       (some (.inr (.inr (none,r52.2))))
      (λi53=>
       (cw 1 cP r52.2 q30.2 1).bind λq54=>
       dw (decide ((q54.1++[(some i53)]).length<=room))<|
       (bT 1 cP q54.2 q30.2 1 (q54.1++[(some i53)])).bind λH55=>
       some (.inl (low,high,x.Level,x.Entries,x.Kids,(IntKind.wrap .i64 ((i:Int)+1)),H55))))) λjp50=>
     bif (decide ((i:Int)<(x.Entries.length:Int)))then
      (idx x.Entries (i:Int)).bind λx51=>
      jp50 (some x51)
     else
      jp50 high) o:=by
     rintro lo rfl
     rw[cZ (by omega),cN (x:=x.Level - 1) (by unfold i64 at b3;omega) (by unfold i64 at b3;omega)]
     refine .aP ?_
     by_cases hx:i<x.Entries.length
     .refine .t (eM hx)<|.ae (aw hx) ?_
      have e:gO x high i=some x.Entries[i]:=by unfold gO;grind
      rw[e]at hr
      exact .bind hr hE
     .refine .f (mj (by omega)) ?_
      have e:gO x high i=high:=by unfold gO;rw[if_neg hx]
      rw[e]at hr
      exact .bind hr hE
    by_cases h0:0<i
    .have hj:i - 1<x.Entries.length:=by omega
     have hix:idx x.Entries (IntKind.wrap .i64 ((i:Int) - 1))=some x.Entries[i - 1]:=by
      rw[cN (by omega) (by omega),show(i:Int) - 1=((i - 1:Nat):Int)by omega];exact aw hj
     exact .t (by simp;omega)<|.ae hix<|tail (by unfold ny;grind)
    .exact .f (by simp;omega)<|tail (by unfold ny;rw[if_neg h0])
   cases hw:wk s order last nodes d nx (x.Level - 1) (ny x low i) (gO x high i) met with
   |inl b=>
    rw[hw]at R
    obtain⟨H',nx',R1,R2⟩:=R
    exact⟨H',nx',.stop (step R1 (.pure _)),R2⟩
   |inr q=>
    obtain⟨z,met'⟩:=q
    rw[hw]at R
    obtain⟨H1,i1,lv1,bad1,R1,R2,R3,R4,R5,R6⟩:=R
    have hlt:nx<z:=FR hw
    have hol:out<H.length:=(g_5.1 ho).1
    have ho1:H1[out]? =some (cz x.Entries is):=by grind
    have hlv:lv1=lvk:=by
     obtain⟨y,y1,y2⟩:=FT hw (by omega)
     have: ∃y',nodes[nx]? =some y'/\y'.Level=(lv1:Int):=by
      cases lv1 with
      |zero=>obtain⟨y',g1,g2,-⟩:=R4;grind
      |succ n=>obtain⟨y',-,g1,g2,-⟩:=R4;exact⟨y',g1,g2⟩
     grind
    subst hlv
    let H2:Hp:=H1.set out (cz x.Entries (is++[some i1]))
    have hf2: ∀j,j≠out->H2[j]? =H1[j]? :=λj hj=>gd hj
    have l2:H2.length=H1.length:=q_8
    have T:Ev (λn=>bA n (RC n) p0 (a:Int) x j8 q30 v38 (low,high,x.Level,x.Entries,x.Kids,(i:Int),H)) (.inl (low,high,x.Level,x.Entries,x.Kids,((i+1:Nat):Int),H2)):=by
     refine step R1 ?_
     simp only[Option.elim,hq]
     have ht:cw 1 cP H1 out 1=some (is,H1.set out (.cells [.own 3 (List.map ab x.Entries),.undef])):=me ho1 rfl
     have hg:bT 1 cP (H1.set out (.cells [.own 3 (List.map ab x.Entries),.undef])) out 1 (is++[some i1])=some H2:=by
      rw[gw (cA ho1) (by simp)]
      rw[m_6]
      rfl
     exact .ae ht<|.dw (by simp[room];omega)<|.ae hg (.pure _)
    have IH:=Bi hN hxm hq hj8 hv hk hlow hhigh hes op om ot hrc ks (i+1) z met' H2 bad1 (is++[some i1]) hdl (by omega) (by simp[hl]) (by omega) (R2.frame (by omega) (by omega) (by omega) hf2) (by rw[hf2 m (by omega)];exact R3) (cA ho1)
    simp only
    cases hw2:oV nodes (wk s order last nodes d) a x low high ks (i+1) z met' with
    |inl b=>
     rw[hw2]at IH
     obtain⟨H',nx',I1,I2⟩:=IH
     exact⟨H',nx',.next T I1,I2⟩
    |inr q=>
     obtain⟨z',met2⟩:=q
     rw[hw2]at IH
     obtain⟨H',is',bad',I1,I2,I3,I4,I5,I6,I7⟩:=IH
     refine⟨H',some i1::is',bad',.next T I1,I2,I3,by simpa using I4,⟨hc.1,z,?_,I5⟩,by omega,λj j1 j2 j3 j4=>?_⟩
     .have g1:HN (out+1) nodes H1 lv1 nx z i1:=R4.base (by omega)
      refine g1.frame λj j1 j2=>?_
      grind
     grind
  .rw[if_neg hc]
   simp only
   have oe:=h.zt (a:Int)
   refine⟨H.set p0 (vp tr m nodes nx (a:Int)),nx,.stop ?_,h.put _ _⟩
   unfold bA
   rw[hv]
   refine .t (eM hik)<|.ae (aw hik)<|.aP ?_
   rw[hek]
   refine .ae h.FJ ?_
   by_cases hkn:k=(nx:Int)
   .exact .f (by simp[hkn])<|.ae h.gp<|.t (by simp;omega)<|.ae oe (.pure _)
   .exact .t (by simp[hkn])<|.t rfl<|.ae oe (.pure _)
end
set_option maxRecDepth 100000
def nK(fuel:Nat)(rc:Nat->Int->kY->Hp->Option ((Option Nat)×Hp))(p0:Nat)(x1:Int)(p2:kY)(x7:Node)(H5:Hp)(j8:Int×Bool):Option ((Option Nat)×Hp):=
 aP (λ(j10:Int)=>
  aP (λ(j12:Bool×Hp)=>
   bif j12.1 then
    (cG (cI .i64) j12.2 p0 4 x1).bind λH15=>
    some (none,H15)
   else
    aP (λ(j16:(Option Entry)×(Option Entry))=>
     (kV j12.2 (.cells [.own 3 (List.map ab ([]:List Entry)),.own 1 (List.map cP.enc ([]:List (Option Nat)))])).bind λq30=>
     (iter (cO fuel x7 q30) fuel (j16.1,j16.2,x7.Level,x7.Entries,x7.Kids,0,q30.1)).bind λv38=>
     (iter (bA fuel rc p0 x1 x7 j8 q30 v38) fuel (v38.1,v38.2.1,v38.2.2.1,v38.2.2.2.1,v38.2.2.2.2.1,0,v38.2.2.2.2.2)).bind (Sum.elim (λv57=>
      some ((some q30.2),v57)) (λr58=>
      some r58))) λjp17=>
    bif (decide ((x7.Entries.length:Int)>0))then
     (Option.elim p2.low
      ((Option.elim p2.high
       (jp17 (none,none))
      (λx19=>
       (idx x7.Entries (IntKind.wrap .i64 ((x7.Entries.length:Int) - 1))).bind λx20=>
       (bL fuel p0 x20 x19 j12.2).bind λr21=>
       bif (!r21)then
        (cG (cI .i64) j12.2 p0 4 x1).bind λH22=>
        some (none,H22)
       else
        jp17 (none,(some x19)))))
     (λx18=>
      (idx x7.Entries 0).bind λx23=>
      (bL fuel p0 x18 x23 j12.2).bind λr24=>
      bif (!r24)then
       (cG (cI .i64) j12.2 p0 4 x1).bind λH25=>
       some (none,H25)
      else
       (Option.elim p2.high
        (jp17 ((some x18),none))
       (λx26=>
        (idx x7.Entries (IntKind.wrap .i64 ((x7.Entries.length:Int) - 1))).bind λx27=>
        (bL fuel p0 x27 x26 j12.2).bind λr28=>
        bif (!r28)then
         (cG (cI .i64) j12.2 p0 4 x1).bind λH29=>
         some (none,H29)
        else
         jp17 ((some x18),(some x26))))))
    else
     jp17 (p2.low,p2.high)) λjp13=>
  (cm fuel p0 x7 j8.2 p2 H5).bind λr14=>
  bif (((!r14.1)||(decide (x7.Level<0)))||(x7.Level !=j8.1))then
   jp13 (true,r14.2)
  else
   jp13 ((((x7.Kids.length:Int) !=j10)||(j10==1)),r14.2)) λjp11=>
 bif (decide (x7.Level>0))then
  jp11 (IntKind.wrap .i64 ((x7.Entries.length:Int)+1))
 else
  jp11 0
def nM(fuel:Nat)(rc:Nat->Int->kY->Hp->Option ((Option Nat)×Hp))(p0:Nat)(x1:Int)(p2:kY)(x7:Node)(j8:Int×Bool)(j12:Bool×Hp):Option ((Option Nat)×Hp):=
 bif j12.1 then
  (cG (cI .i64) j12.2 p0 4 x1).bind λH15=>
  some (none,H15)
 else
  aP (λ(j16:(Option Entry)×(Option Entry))=>
   (kV j12.2 (.cells [.own 3 (List.map ab ([]:List Entry)),.own 1 (List.map cP.enc ([]:List (Option Nat)))])).bind λq30=>
   (iter (cO fuel x7 q30) fuel (j16.1,j16.2,x7.Level,x7.Entries,x7.Kids,0,q30.1)).bind λv38=>
   (iter (bA fuel rc p0 x1 x7 j8 q30 v38) fuel (v38.1,v38.2.1,v38.2.2.1,v38.2.2.2.1,v38.2.2.2.2.1,0,v38.2.2.2.2.2)).bind (Sum.elim (λv57=>
    some ((some q30.2),v57)) (λr58=>
    some r58))) λjp17=>
  bif (decide ((x7.Entries.length:Int)>0))then
   (Option.elim p2.low
    ((Option.elim p2.high
     (jp17 (none,none))
    (λx19=>
     (idx x7.Entries (IntKind.wrap .i64 ((x7.Entries.length:Int) - 1))).bind λx20=>
     (bL fuel p0 x20 x19 j12.2).bind λr21=>
     bif (!r21)then
      (cG (cI .i64) j12.2 p0 4 x1).bind λH22=>
      some (none,H22)
     else
      jp17 (none,(some x19)))))
   (λx18=>
    (idx x7.Entries 0).bind λx23=>
    (bL fuel p0 x18 x23 j12.2).bind λr24=>
    bif (!r24)then
     (cG (cI .i64) j12.2 p0 4 x1).bind λH25=>
     some (none,H25)
    else
     (Option.elim p2.high
      (jp17 ((some x18),none))
     (λx26=>
      (idx x7.Entries (IntKind.wrap .i64 ((x7.Entries.length:Int) - 1))).bind λx27=>
      (bL fuel p0 x27 x26 j12.2).bind λr28=>
      bif (!r28)then
       (cG (cI .i64) j12.2 p0 4 x1).bind λH29=>
       some (none,H29)
      else
       jp17 ((some x18),(some x26))))))
  else
   jp17 (p2.low,p2.high)
def nT(fuel:Nat)(rc:Nat->Int->kY->Hp->Option ((Option Nat)×Hp))(p0:Nat)(x1:Int)(x7:Node)(j8:Int×Bool)(j12:Bool×Hp)(j16:(Option Entry)×(Option Entry)):Option ((Option Nat)×Hp):=
 (kV j12.2 (.cells [.own 3 (List.map ab ([]:List Entry)),.own 1 (List.map cP.enc ([]:List (Option Nat)))])).bind λq30=>
 (iter (cO fuel x7 q30) fuel (j16.1,j16.2,x7.Level,x7.Entries,x7.Kids,0,q30.1)).bind λv38=>
 (iter (bA fuel rc p0 x1 x7 j8 q30 v38) fuel (v38.1,v38.2.1,v38.2.2.1,v38.2.2.2.1,v38.2.2.2.2.1,0,v38.2.2.2.2.2)).bind (Sum.elim (λv57=>
  some ((some q30.2),v57)) (λr58=>
  some r58))
def Ep(f:Nat)(h:r.length<1000):bY f r=some r:=by
 unfold bY
 cases r with
 |nil=>rfl
 |cons a l=>
  show Go.Sh.dw (decide ((([]:List Value)++a::l).length<=room)) (some ([]++a::l))=_
  rw[show decide ((([]:List Value)++a::l).length<=room)=true by
   rw[decide_eq_true_eq]
   have:(a::l).length<1000:=h
   simp only[m_3,room]
   omega]
  rfl
def CD(e:Entry)(h:e.Row.length<1000):Ev (λf=>vQ f e) e:=by
 unfold vQ
 exact .bind (.of λn=>Ep n h) (.pure _)
def Ev.oH{α β:Type}{f:Nat->Option β}{g:Nat->α->Option β}{r:β}(h:Ev f r):Ev (λn=>Option.elim none (f n) (g n)) r:=h
def Ev.jZ{α β:Type}{f:Nat->Option β}{g:Nat->α->Option β}{a:α}{r:β}(h:Ev (λn=>g n a) r):Ev (λn=>Option.elim (some a) (f n) (g n)) r:=h
def su{s:ak}{last:Int}: ∀{l:List Entry} {met met':List Int},nm s last met l=some met'-> ∀e∈l,nG s e=true
 |e::l,met,met',h,e',he=>by
  simp only[nm]at h
  split at h
  .rename_i hf
   rcases h_9.1 he with rfl|he
   .exact(Bv hf).1
   .exact su h e' he
  .cases h
section
variable {p0 tr m:Nat} {s:ak} {order last:Int} {nodes:List Node}
def BA(hq:q30.2=out)(hl:x.Entries.length<1000)(hr: ∀e∈x.Entries,e.Row.length<1000):
  ∀(l:List Entry) (k:Nat) (pre:List Entry),x.Entries.drop k=l->pre=x.Entries.take k->k<=x.Entries.length->H[out]? =some (cz pre [])->
   gX (λf=>cO f x q30) (lo,hi,x.Level,x.Entries,x.Kids,(k:Int),H) (lo,hi,x.Level,x.Entries,x.Kids,H.set out (cz x.Entries []))
 |[],k,pre,hd,hp,hk,ho=>by
  have hk2:x.Entries.length<=k:=by simpa using hd
  refine .stop ?_
  unfold cO
  have:H.set out (cz x.Entries [])=H:=by
   rw[hp,m_7 hk2]at ho
   apply p_0
   grind
  rw[this]
  exact .f (mj hk2) (.pure _)
 |e::l,k,pre,hd,hp,hk,ho=>by
  have hk:k<x.Entries.length:=by
   grind
  have hek:x.Entries[k]=e:=by rw[aG hk]at hd;exact(j_0 hd).1
  have hdl:x.Entries.drop (k+1)=l:=by rw[aG hk]at hd;exact(j_0 hd).2
  have he:=hr e (hek▸j_1 hk)
  have ih:=BA (lo:=lo) (hi:=hi) (H:=H.set out (cz (pre++[e]) [])) hq hl hr l (k+1) (pre++[e]) hdl (by grind) (by omega) (cA ho)
  rw[m_6]at ih
  refine .next ?_ ih
  unfold cO
  refine .t (eM hk)<|.ae (aw hk) ?_
  rw[hek,hq]
  have ht:cw 3 ax H out 0=some (pre,H.set out (.cells [.undef,.own 1 []])):=me ho rfl
  have hg:bT 3 ax (H.set out (.cells [.undef,.own 1 []])) out 0 (pre++[e])=some (H.set out (cz (pre++[e]) [])):=by
   rw[gw (cA ho) (by simp),m_6];rfl
  refine .ae ht<|.bind (CD e he)<|.dw (by simp[room,hp];omega)<|.ae hg ?_
  rw[cZ (by omega)]
  exact .pure _
def DJ(h:qf s order last root level low high met x=some met'):
  vk order root x=true/\vh root level x=true/\w7 x=true/\Af s none x.Entries=true/\ou s low high x=true/\nm s last met x.Entries=some met':=by
 unfold qf at h
 grind
def Ae(h:j<H.length):(H++[o])[j]? =H[j]? :=h_5 h
def Et:(H++[o])[H.length]? =some o:=by simp
def kZ.lt(h:kZ p0 tr m s order last nodes H nx bad):p0<H.length/\tr<H.length/\m<H.length:=by
 obtain⟨r,c,ht⟩:=h.ht
 obtain⟨o,ho⟩:=h.hm
 exact⟨(g_5.1 h.hp).1,(g_5.1 ht).1,(g_5.1 ho).1⟩
def Mv{RC:Nat->Nat->Int->kY->Hp->Option ((Option Nat)×Hp)}
  (hN:Aj nodes) (hx:nodes[a]? =some x) (ho:qf s order last root level low high met x=some met') (hlev:lev=x.Level) (hlow:qt s low) (hhigh:qt s high)
  (h:kZ p0 tr m s order last nodes H ((a+1:Nat):Int) bad) (hm:H[m]? =some (eD met'))
  (hrc: ∀(nx:Nat) (level:Int) (lo hi:Option Entry) (met:List Int) (H:Hp) (bad:Int),a<nx->nx<nodes.length->0<=level->i64 level->qt s lo->qt s hi->kZ p0 tr m s order last nodes H nx bad->H[m]? =some (eD met)->
   B5 p0 tr m s order last nodes (λn=>RC n p0 level ⟨lo,hi⟩ H) H nx (wk s order last nodes d nx level lo hi met)):
  B5 p0 tr m s order last nodes (λn=>nT n (RC n) p0 (a:Int) x (lev,root) (b0,H) (low,high)) H a (oV nodes (wk s order last nodes d) a x low high x.Kids 0 (a+1) met'):=by
 obtain⟨c1,c2,c3,c4,c5,c6⟩:=DJ ho
 have hxm:x∈nodes:=m_1 hx
 obtain⟨b1,b2,b3,b4⟩:=hN.2 x hxm
 obtain⟨l1,l2,l3⟩:=h.lt
 have hes:=su c6
 simp only[vh,g_3,decide_eq_true_eq]at c2
 simp only[w7,g_3,beq_iff_eq]at c3
 have hk:x.Kids≠[]->x.Kids.length=x.Entries.length+1/\x.Level=(((x.Level - 1).toNat+1:Nat):Int):=by
  grind
 let H1:Hp:=H++[cz [] []]
 have g1:kZ p0 tr m s order last nodes H1 ((a+1:Nat):Int) bad:=by
  obtain⟨r,c,ht⟩:=h.ht
  exact⟨by rw[Ae l1];exact h.hp,⟨r,c,by rw[Ae l2];exact ht⟩,⟨_,by rw[Ae l3];exact hm⟩,h.n1,h.n2,h.n3⟩
 have og:H1[H.length]? =some (cz [] []):=Et
 let H2:Hp:=H1.set H.length (cz x.Entries [])
 have g2:kZ p0 tr m s order last nodes H2 ((a+1:Nat):Int) bad:=g1.frame (by omega) (by omega) (by omega) λj hj=>gd hj
 have hl2:H2.length=H.length+1:=by simp[H2,H1]
 have hm2:H2[m]? =some (eD met'):=by
  grind
 have hold: ∀j,j<H.length->H2[j]? =H[j]? :=λj hj=>by
  grind
 have E1:=BA (x:=x) (q30:=(H1,H.length)) (lo:=low) (hi:=high) (H:=H1) rfl b1 (λe he=>(b4 e he).1) x.Entries 0 [] rfl rfl (by omega) og
 have K:=Bi (d:=d) (a:=a) (out:=H.length) (lvk:=(x.Level - 1).toNat) (x:=x) (low:=low) (high:=high) (q30:=(H1,H.length)) (j8:=(lev,root)) (v38:=(low,high,x.Level,x.Entries,x.Kids,H2)) (RC:=RC)
  hN hxm rfl hlev rfl hk hlow hhigh hes l1 l3 l2 hrc x.Kids 0 (a+1) met' H2 bad [] rfl (by omega) rfl (by omega) g2 hm2 (cA og)
 cases hw:oV nodes (wk s order last nodes d) a x low high x.Kids 0 (a+1) met' with
 |inl b=>
  rw[hw]at K
  obtain⟨H',nx',K1,K2⟩:=K
  refine⟨H',nx',?_,K2⟩
  unfold nT
  exact .ae rfl<|.bind E1.ev<|.bind K1.ev (.pure _)
 |inr q=>
  obtain⟨z,met2⟩:=q
  rw[hw]at K
  obtain⟨H',is',bad',K1,K2,K3,K4,K5,K6,K7⟩:=K
  refine⟨H',H.length,x.Level.toNat,bad',?_,K2,K3,?_,by omega,λj j1 j2 j3=>?_⟩
  .unfold nT
   exact .ae rfl<|.bind E1.ev<|.bind K1.ev (.pure _)
  .by_cases hz:x.Kids=[]
   .have h1:=c3.1
    rw[hz]at h1 K5
    have hlz:x.Level=0:=by
     grind
    rw[hlz]
    have:is'=[]/\a+1=z:=by
     cases is' with
     |nil=>exact⟨rfl,K5⟩
     |cons i is=>cases i<;>exact K5.elim
    obtain⟨rfl,hz2⟩:=this
    exact⟨x,hx,hlz,hz,by simpa using K4,hz2.symm,g_9 _⟩
   .obtain⟨h1,h2⟩:=hk hz
    rw[h2]
    exact⟨x,is',hx,h2,h1,by simpa using K4,g_9 _,K5.mono λ_ _ _ hp=>hp.base (by omega)⟩
  grind
end
set_option maxRecDepth 100000
section
variable {p0 tr m:Nat} {s:ak} {order last:Int} {nodes:List Node}
def Mw{RC:Nat->Nat->Int->kY->Hp->Option ((Option Nat)×Hp)}
  (hs:n9 s=true) (hl:x.Entries.length<1000) (hes: ∀e∈x.Entries,nG s e=true/\i64 e.Number) (hlow:qt s low) (hhigh:qt s high) (h:kZ p0 tr m s order last nodes H nx bad):
  (ou s low high x=true-> ∀r,Ev (λn=>nT n (RC n) p0 (a:Int) x j8 (false,H) (low,high)) r->Ev (λn=>nM n (RC n) p0 (a:Int) ⟨low,high⟩ x j8 (false,H)) r)/\
  (ou s low high x=false->Ev (λn=>nM n (RC n) p0 (a:Int) ⟨low,high⟩ x j8 (false,H)) (none,H.set p0 (vp tr m nodes nx (a:Int)))):=by
 have oe:=h.zt (a:Int)
 by_cases h0:0<x.Entries.length
 .have hf:x.Entries.head? =some x.Entries[0]:=by rw[List.head?_eq_getElem?,h_6 h0]
  have hL:x.Entries.getLast? =some x.Entries[x.Entries.length - 1]:=by grind
  have e0:=hes _ (j_1 h0)
  have eL:=hes _ (j_1 (show x.Entries.length - 1<x.Entries.length by omega))
  have i0:idx x.Entries 0=some x.Entries[0]:=aw (k:=0) h0
  have iL:idx x.Entries (IntKind.wrap .i64 ((x.Entries.length:Int) - 1))=some x.Entries[x.Entries.length - 1]:=by
   rw[cN (by omega) (by omega),show(x.Entries.length:Int) - 1=((x.Entries.length - 1:Nat):Int)by omega]
   exact aw _
  have hn:decide ((x.Entries.length:Int)>0)=true:=by simp;omega
  cases low with
  |none=>
   cases high with
   |none=>
    refine⟨λ_ r hE=>?_,λhb=>by simp[ou]at hb⟩
    unfold nM
    exact .f rfl<|.aP<|.t hn<|.oH<|.oH hE
   |some hi=>
    have hh:=hhigh hi rfl
    have A:=xD hs h eL.1 hh.1 eL.2 hh.2
    refine⟨λhb r hE=>?_,λhb=>?_⟩
    .simp only[ou,hL,j_7]at hb
     unfold nM
     exact .f rfl<|.aP<|.t hn<|.oH<|.jZ<|.ae iL<|.bind A<|.f (by simp[hb]) hE
    .simp only[ou,hL,j_7]at hb
     unfold nM
     exact .f rfl<|.aP<|.t hn<|.oH<|.jZ<|.ae iL<|.bind A<|.t (by simp[hb])<|.ae oe (.pure _)
  |some lo=>
   have hw:=hlow lo rfl
   have B:=xD hs h hw.1 e0.1 hw.2 e0.2
   cases high with
   |none=>
    refine⟨λhb r hE=>?_,λhb=>?_⟩
    .simp only[ou,hf,Bool.and_true]at hb
     unfold nM
     exact .f rfl<|.aP<|.t hn<|.jZ<|.ae i0<|.bind B<|.f (by simp[hb])<|.oH hE
    .simp only[ou,hf,Bool.and_true]at hb
     unfold nM
     exact .f rfl<|.aP<|.t hn<|.jZ<|.ae i0<|.bind B<|.t (by simp[hb])<|.ae oe (.pure _)
   |some hi=>
    have hh:=hhigh hi rfl
    have A:=xD hs h eL.1 hh.1 eL.2 hh.2
    refine⟨λhb r hE=>?_,λhb=>?_⟩
    .simp only[ou,hf,hL,g_3]at hb
     unfold nM
     exact .f rfl<|.aP<|.t hn<|.jZ<|.ae i0<|.bind B<|.f (by simp[hb.1])<|.jZ<|.ae iL<|.bind A<|.f (by simp[hb.2]) hE
    .simp only[ou,hf,hL,Bool.and_eq_false_iff]at hb
     unfold nM
     cases hB:qw s lo x.Entries[0]with
     |false=>exact .f rfl<|.aP<|.t hn<|.jZ<|.ae i0<|.bind B<|.t (by simp[hB])<|.ae oe (.pure _)
     |true=>
      rcases hb with hb|hb
      .rw[hB]at hb;cases hb
      .exact .f rfl<|.aP<|.t hn<|.jZ<|.ae i0<|.bind B<|.f (by simp[hB])<|.jZ<|.ae iL<|.bind A<|.t (by simp[hb])<|.ae oe (.pure _)
 .have he:x.Entries=[]:=q_0.1 (by omega)
  refine⟨λ_ r hE=>?_,λhb=>?_⟩
  .unfold nM
   exact .f rfl<|.aP<|.f (by simp;omega) hE
  .have:ou s low high x=true:=by
    unfold ou
    grind
   rw[this]at hb;cases hb
def Mx{RC:Nat->Nat->Int->kY->Hp->Option ((Option Nat)×Hp)}
  (hs:n9 s=true) (h3:3<=order) (h32:order<=32) (hN:Aj nodes) (hx:nodes[a]? =some x) (hlev:lev=if root then x.Level else level) (hlow:qt s low) (hhigh:qt s high)
  (h:kZ p0 tr m s order last nodes H ((a+1:Nat):Int) bad) (hm:H[m]? =some (eD met))
  (hrc: ∀(nx:Nat) (level:Int) (lo hi:Option Entry) (met:List Int) (H:Hp) (bad:Int),a<nx->nx<nodes.length->0<=level->i64 level->qt s lo->qt s hi->kZ p0 tr m s order last nodes H nx bad->H[m]? =some (eD met)->
   B5 p0 tr m s order last nodes (λn=>RC n p0 level ⟨lo,hi⟩ H) H nx (wk s order last nodes d nx level lo hi met)):
  B5 p0 tr m s order last nodes (λn=>nK n (RC n) p0 (a:Int) ⟨low,high⟩ x H (lev,root)) H a
   (match qf s order last root level low high met x with
   |none=>.inl a
   |some met'=>oV nodes (wk s order last nodes d) a x low high x.Kids 0 (a+1) met'):=by
 have hxm:x∈nodes:=m_1 hx
 obtain⟨b1,b2,b3,b4⟩:=hN.2 x hxm
 obtain⟨l1,l2,l3⟩:=h.lt
 let kk:Int:=if 0<x.Level then(x.Entries.length:Int)+1 else 0
 have R:=Gl (root:=root) (inn:=⟨low,high⟩) hs h hm h3 h32 (x:=x) (by omega) b4
 have pre: ∀{q:Bool} {met'':List Int} {r},Ev (λf=>cm f p0 x root ⟨low,high⟩ H) (q,H.set m (eD met''))->
   Ev (λn=>nM n (RC n) p0 (a:Int) ⟨low,high⟩ x (lev,root) ((!q||decide (x.Level<0))||x.Level !=lev||((x.Kids.length:Int) !=kk||kk==1),H.set m (eD met''))) r->Ev (λn=>nK n (RC n) p0 (a:Int) ⟨low,high⟩ x H (lev,root)) r:=by
  intro q met'' r hq hE
  unfold nK
  have tail: ∀{k:Int},k=kk->Ev (λn=>aP (λ(j12:Bool×Hp)=>nM n (RC n) p0 (a:Int) ⟨low,high⟩ x (lev,root) j12) λjp13=>
    (cm n p0 x root ⟨low,high⟩ H).bind λr14=>
    bif (((!r14.1)||(decide (x.Level<0)))||(x.Level !=lev))then
     jp13 (true,r14.2)
    else
     jp13 ((((x.Kids.length:Int) !=k)||(k==1)),r14.2)) r:=by
   rintro k rfl
   refine .aP<|.bind hq ?_
   grind
  by_cases hz:0<x.Level
  .exact .aP<|.t (by simp;omega)<|tail (by rw[cN (by omega) (by omega)];simp only[kk,if_pos hz])
  .exact .aP<|.f (by simp;omega)<|tail (by simp only[kk,if_neg hz])
 have badM: ∀{met''},Ev (λn=>nM n (RC n) p0 (a:Int) ⟨low,high⟩ x (lev,root) (true,H.set m (eD met''))) (none,(H.set m (eD met'')).set p0 (vp tr m nodes ((a+1:Nat):Int) (a:Int))):=by
  intro met''
  unfold nM
  exact .t rfl<|.ae ((h.map (eD met'')).zt (a:Int)) (.pure _)
 have badR: ∀{met''},Ev (λn=>nK n (RC n) p0 (a:Int) ⟨low,high⟩ x H (lev,root)) (none,(H.set m (eD met'')).set p0 (vp tr m nodes ((a+1:Nat):Int) (a:Int)))->
   B5 p0 tr m s order last nodes (λn=>nK n (RC n) p0 (a:Int) ⟨low,high⟩ x H (lev,root)) H a (.inl a):=λhE=>⟨_,_,hE,(h.map (eD _)).put _ _⟩
 have hkk:((x.Kids.length:Int) !=kk||kk==1)=!w7 x:=by
  simp only[kk,w7]
  by_cases hz:0<x.Level
  .rw[if_pos hz,if_pos hz]
   by_cases e1:x.Kids.length=x.Entries.length+1
   .grind
   grind
  .rw[if_neg hz,if_neg hz]
   by_cases e1:x.Kids.length=0
   .rw[e1];rfl
   grind
 have hlv:((decide (x.Level<0))||x.Level !=lev)=!vh root level x:=by
  simp only[vh]
  grind
 unfold qf
 cases hc1:vk order root x with
 |false=>
  rw[hc1]at R
  obtain⟨met'',R⟩:=R
  simp only[m_4,g_7,if_false]
  exact badR (pre R (by simp only[Bool.not_false,Bool.true_or];exact badM))
 |true=>
  rw[hc1]at R
  simp only[if_true,Gm]at R
  simp only[j_7]
  cases hc4:Af s none x.Entries with
  |false=>
   rw[hc4]at R
   obtain⟨met'',R⟩:=R
   simp only[w_3,m_4,g_7,if_false]
   exact badR (pre R (by simp only[Bool.not_false,Bool.true_or];exact badM))
  |true=>
   rw[hc4]at R
   simp only[if_true]at R
   cases hc6:nm s last met x.Entries with
   |none=>
    rw[hc6]at R
    obtain⟨met'',R⟩:=R
    simp only[ite_self]
    exact badR (pre R (by simp only[Bool.not_false,Bool.true_or];exact badM))
   |some met'=>
    rw[hc6]at R
    have P:=λ{r}=>pre (r:=r) R
    simp only[Bool.not_true,Bool.false_or,hkk,hlv]at P
    cases hc2:vh root level x with
    |false=>
     grind
    |true=>
     cases hc3:w7 x with
     |false=>
      grind
     |true=>
      rw[hc2,hc3]at P
      have g:=h.map (eD met')
      have hes:=su hc6
      obtain⟨M1,M2⟩:=Mw (a:=a) (j8:=(lev,root)) (RC:=RC) hs b1 (λe he=>⟨hes e he,(b4 e he).2⟩) hlow hhigh g
      cases hc5:ou s low high x with
      |false=>
       grind
      |true=>
       simp only[Bool.and_true,if_true]
       have hok:qf s order last root level low high met x=some met':=by
        unfold qf;simp[hc1,hc2,hc3,hc4,hc5,hc6]
       have hlx:lev=x.Level:=by
        grind
       have T:=Mv (root:=root) (b0:=false) hN hx hok hlx hlow hhigh g (cA hm) hrc
       have hlen:(H.set m (eD met')).length=H.length:=q_8
       cases hw:oV nodes (wk s order last nodes d) a x low high x.Kids 0 (a+1) met' with
       |inl b=>
        rw[hw]at T
        obtain⟨H',nx',T1,T2⟩:=T
        exact⟨H',nx',P (M1 hc5 _ T1),T2⟩
       |inr q=>
        obtain⟨z,met2⟩:=q
        rw[hw]at T
        obtain⟨H',i,lv,bad',T1,T2,T3,T4,T5,T6⟩:=T
        exact⟨H',i,lv,bad',P (M1 hc5 _ T1),T2,T3,by rw[hlen]at T4;exact T4,by omega,λj j1 j2 j3=>by grind⟩
def yJ(hs:n9 s=true)(h3:3<=order)(h32:order<=32)(hN:Aj nodes): ∀(d a:Nat) (level:Int) (low high:Option Entry) (met:List Int) (H:Hp) (bad:Int),
  a<nodes.length->nodes.length<=a+d->qt s low->qt s high->kZ p0 tr m s order last nodes H (a:Nat) bad->H[m]? =some (eD met)->
   B5 p0 tr m s order last nodes (λn=>cE n p0 level ⟨low,high⟩ H) H a (wk s order last nodes d a level low high met)
 |0,a,level,low,high,met,H,bad,ha,hd,_,_,_,_=>by omega
 |d+1,a,level,low,high,met,H,bad,ha,hd,hlow,hhigh,h,hm=>by
  have hx:nodes[a]? =some nodes[a]:=h_6 ha
  have hN1:=hN.1
  have g:kZ p0 tr m s order last nodes (H.set p0 (vp tr m nodes ((a+1:Nat):Int) bad)) ((a+1:Nat):Int) bad:=h.put _ _
  have hm':(H.set p0 (vp tr m nodes ((a+1:Nat):Int) bad))[m]? =some (eD met):=by rw[gd (j_4 h.n1)];exact hm
  have oe:cG (cI .i64) H p0 2 ((a+1:Nat):Int)=some (H.set p0 (vp tr m nodes ((a+1:Nat):Int) bad)):=h.Mh _
  have K:=Mx (d:=d) (a:=a) (root:=a==0) (level:=level) (low:=low) (high:=high) (lev:=if(a==0)=true then nodes[a].Level else level) (RC:=λn=>cE n) hs h3 h32 hN hx rfl hlow hhigh g hm'
   (λnx level lo hi met H bad h1 h2 _ _ h5 h6 h7 h8=>yJ hs h3 h32 hN d nx level lo hi met H bad h2 (by omega) h5 h6 h7 h8)
  have hlen:(H.set p0 (vp tr m nodes ((a+1:Nat):Int) bad)).length=H.length:=q_8
  have go: ∀{r},Ev (λn=>nK n (cE n) p0 (a:Int) ⟨low,high⟩ nodes[a] (H.set p0 (vp tr m nodes ((a+1:Nat):Int) bad)) (if(a==0)=true then nodes[a].Level else level,a==0)) r->
    Ev (λn=>cE n p0 level ⟨low,high⟩ H) r:=by
   intro r hE
   refine kH (g:=λn=>dQ n (cE n) p0 level ⟨low,high⟩ H) (λn=>rfl) ?_
   unfold dQ
   refine .ae h.FJ<|.ae h.gp<|.f (by simp;omega)<|.ae h.FJ ?_
   rw[cZ (by omega)]
   refine .ae oe<|.ae g.gp<|.ae (aw ha)<|.aP ?_
   by_cases h0:a=0
   .subst h0;exact .t rfl hE
   .refine .f (by simp[h0]) ?_
    rw[show(a==0)=false by simpa using h0]at hE
    exact hE
  have hwk:wk s order last nodes (d+1) a level low high met=(match qf s order last (a==0) level low high met nodes[a]with
   |none=>.inl a
   |some met'=>oV nodes (wk s order last nodes d) a nodes[a] low high nodes[a].Kids 0 (a+1) met'):=by
   show(match nodes[a]? with|none=>Sum.inl a|some x=>match qf s order last (a==0) level low high met x with|none=>Sum.inl a|some met'=>oV nodes (wk s order last nodes d) a x low high x.Kids 0 (a+1) met')=_
   rw[hx]
  have K':B5 p0 tr m s order last nodes (λn=>nK n (cE n) p0 (a:Int) ⟨low,high⟩ nodes[a] (H.set p0 (vp tr m nodes ((a+1:Nat):Int) bad)) (if(a==0)=true then nodes[a].Level else level,a==0)) (H.set p0 (vp tr m nodes ((a+1:Nat):Int) bad)) a (wk s order last nodes (d+1) a level low high met):=by
   rw[hwk];exact K
  clear K hwk
  revert K'
  generalize wk s order last nodes (d+1) a level low high met=res
  intro K
  cases res with
  |inl b=>
   obtain⟨H',nx',K1,K2⟩:=K
   exact⟨H',nx',go K1,K2⟩
  |inr q=>
   obtain⟨z,met2⟩:=q
   obtain⟨H',i,lv,bad',K1,K2,K3,K4,K5,K6⟩:=K
   exact⟨H',i,lv,bad',go K1,K2,K3,by rw[hlen]at K4;exact K4,by omega,λj j1 j2 j3=>by grind⟩
end
set_option maxRecDepth 100000
def fE(s:ak)(order last:Int)(nodes:List Node)(nx:Int)(met:List Int)(bad:Int):aD:=
 .cells [.d (.list 1 (List.map (D.int .i64) s.aq)),.d (.list 1 (List.map D.bool s.Down)),.d (.int .i64 s.cY),.d (.int .i64 order),.d (.int .i64 last),.d (.list 3 (List.map bn nodes)),.d (.int .i64 nx),.own 1 (List.map (D.int .i64) met),.d (.int .i64 bad)]
section
variable {p0:Nat} {s:ak} {order last:Int} {nodes:List Node} {H:Hp} {o:aD} (hH:H[p0]? =some o)
include hH
def lM:(H.set p0 (fE s order last nodes nx met bad))[p0]? =some (fE s order last nodes nx met bad):=cA hH
def vG:aR cj.cells (H.set p0 (fE s order last nodes nx met bad)) p0 0=some s:=bU (r:=[.d (.int .i64 order),.d (.int .i64 last),.d (.list 3 (List.map bn nodes)),.d (.int .i64 nx),.own 1 (List.map (D.int .i64) met),.d (.int .i64 bad)]) (lM hH) rfl
def Ko:aR (cI .i64).cell (H.set p0 (fE s order last nodes nx met bad)) p0 2=some s.cY:=bU (r:=[.d (.int .i64 order),.d (.int .i64 last),.d (.list 3 (List.map bn nodes)),.d (.int .i64 nx),.own 1 (List.map (D.int .i64) met),.d (.int .i64 bad)]) (lM hH) rfl
def Cf:aR (cI .i64).cell (H.set p0 (fE s order last nodes nx met bad)) p0 3=some order:=bU (r:=[.d (.int .i64 last),.d (.list 3 (List.map bn nodes)),.d (.int .i64 nx),.own 1 (List.map (D.int .i64) met),.d (.int .i64 bad)]) (lM hH) rfl
def FX:aR (cI .i64).cell (H.set p0 (fE s order last nodes nx met bad)) p0 4=some last:=bU (r:=[.d (.list 3 (List.map bn nodes)),.d (.int .i64 nx),.own 1 (List.map (D.int .i64) met),.d (.int .i64 bad)]) (lM hH) rfl
def Cg:aW 3 xx (H.set p0 (fE s order last nodes nx met bad)) p0 5=some nodes:=sJ (lM hH) rfl
def vH:aR (cI .i64).cell (H.set p0 (fE s order last nodes nx met bad)) p0 6=some nx:=bU (r:=[.own 1 (List.map (D.int .i64) met),.d (.int .i64 bad)]) (lM hH) rfl
def tc:aW 1 (cI .i64) (H.set p0 (fE s order last nodes nx met bad)) p0 7=some met:=dA (lM hH) rfl
def Kq:aR (cI .i64).cell (H.set p0 (fE s order last nodes nx met bad)) p0 8=some bad:=bU (r:=[]) (lM hH) rfl
def FW:cG (cI .i64) (H.set p0 (fE s order last nodes nx met bad)) p0 6 b=some (H.set p0 (fE s order last nodes b met bad)):=by
 rw[eS (lM hH) (by simp[cI,D.cells]),m_6];rfl
def EG:cG (cI .i64) (H.set p0 (fE s order last nodes nx met bad)) p0 8 b=some (H.set p0 (fE s order last nodes nx met b)):=by
 rw[eS (lM hH) (by simp[cI,D.cells]),m_6];rfl
def gZ:Ev (λf=>aJ f p0 b (H.set p0 (fE s order last nodes nx met bad))) (false,H.set p0 (fE s order last nodes nx met b)):=by
 unfold aJ
 exact .ae (EG hH) (.pure _)
def sU(hs:n9 s=true)(ha:nG s a=true)(hb:nG s b=true):Ev (λf=>bC f p0 a b (H.set p0 (fE s order last nodes nx met bad))) (qw s a b):=by
 have fa:bc s.aq a.Row=true:=by simp only[nG,g_3]at ha;exact ha.1.1
 have fb:bc s.aq b.Row=true:=by simp only[nG,g_3]at hb;exact hb.1.1
 obtain⟨h8,hd⟩:=iC hs
 unfold bC qw
 refine .ae (vG hH)<|.bind (rl hs fa fb) ?_
 cases hc:decide (bO s a b<0)with
 |false=>exact .f rfl (.pure _)
 |true=>
  refine .t rfl<|.ae (Ko hH) ?_
  cases hd1:s.cY !=1 with
  |true=>exact .t rfl (.pure _)
  |false=>
   refine .f rfl<|.ae (vG hH)<|.bind (AQ s hd fa fb h8) ?_
   have:(p9 (cx s.Down a.Row b.Row) !=0)=(cx s.Down a.Row b.Row !=0):=by
    by_cases hz:cx s.Down a.Row b.Row=0
    .rw[hz];rfl
    .have:p9 (cx s.Down a.Row b.Row)≠0:=λe=>hz ((nc _).1 e)
     grind
   rw[this]
   exact .pure _
def DP(hl:met.length<100000000): ∀(l:List Int) (k:Nat),met.drop k=l->k<=met.length->
  gX (λf=>dz f p0 (a:Int) e) ((k:Int),H.set p0 (fE s order last nodes nx met bad)) (if l.contains e.Number then .inr (false,H.set p0 (fE s order last nodes nx met (a:Int)))else .inl (H.set p0 (fE s order last nodes nx met bad)))
 |[],k,hd,hk=>by
  have hk2:met.length<=k:=by simpa using hd
  refine .stop ?_
  unfold dz
  exact .ae (tc hH)<|.f (mj hk2) (.pure _)
 |n::l,k,hd,hk=>by
  have hk1:k<met.length:=by
   grind
  have hek:met[k]=n:=by rw[aG hk1]at hd;exact(j_0 hd).1
  have hdl:met.drop (k+1)=l:=by rw[aG hk1]at hd;exact(j_0 hd).2
  have ih:=DP (nx:=nx) (bad:=bad) (a:=a) (e:=e) hl l (k+1) hdl (by omega)
  rw[List.contains_cons]
  by_cases hc:n=e.Number
  .rw[show(e.Number==n)=true by simp[hc],Bool.true_or,if_pos rfl]
   refine .stop ?_
   unfold dz
   refine .ae (tc hH)<|.t (eM hk1)<|.ae (tc hH)<|.ae (aw hk1) ?_
   rw[hek]
   exact .t (by simp[hc])<|.bind (gZ hH) (.pure _)
  .rw[show(e.Number==n)=false by simp;exactλh=>hc h.symm,Bool.false_or]
   refine .next ?_ ih
   unfold dz
   refine .ae (tc hH)<|.t (eM hk1)<|.ae (tc hH)<|.ae (aw hk1) ?_
   rw[hek,cZ (by omega)]
   exact .f (by simp[hc]) (.pure _)
def Bz(hs:n9 s=true){nx bad:Int}{a:Nat}{x:Node}(hl:x.Entries.length<1000)(hr: ∀e∈x.Entries,e.Row.length<1000): ∀(l:List Entry) (k:Nat) (met:List Int),x.Entries.drop k=l->k<=x.Entries.length->met.length+l.length<10000000->
  match nm s last met l with
  |some met'=>gX (λf=>b8 f p0 (a:Int)) (x.Level,x.Entries,x.Kids,(k:Int),H.set p0 (fE s order last nodes nx met bad)) (.inl (x.Level,x.Entries,x.Kids,H.set p0 (fE s order last nodes nx met' bad)))
  |none=> ∃met',gX (λf=>b8 f p0 (a:Int)) (x.Level,x.Entries,x.Kids,(k:Int),H.set p0 (fE s order last nodes nx met bad)) (.inr (false,H.set p0 (fE s order last nodes nx met' (a:Int))))
 |[],k,met,hd,hk,_=>by
  have hk2:x.Entries.length<=k:=by simpa using hd
  simp only[nm]
  refine .stop ?_
  unfold b8
  exact .f (mj hk2) (.pure _)
 |e::l,k,met,hd,hk,hm=>by
  have hk1:k<x.Entries.length:=by
   grind
  have hek:x.Entries[k]=e:=by rw[aG hk1]at hd;exact(j_0 hd).1
  have hdl:x.Entries.drop (k+1)=l:=by rw[aG hk1]at hd;exact(j_0 hd).2
  have he:=hr e (hek▸j_1 hk1)
  simp only[j_3]at hm
  simp only[nm]
  have hfin:xk s last met e=(nG s e&&(decide (e.Number<=last)&&!met.contains e.Number)):=by simp only[xk,Bool.and_assoc]
  rw[hfin]
  cases h1:nG s e with
  |false=>
   simp only[m_4,g_7,if_false]
   refine⟨met,.stop ?_⟩
   unfold b8
   refine .t (eM hk1)<|.ae (aw hk1)<|.aP ?_
   rw[hek]
   refine .ae (vG hH)<|.bind (tE hs he) ?_
   rw[h1]
   exact .t rfl<|.t rfl<|.bind (gZ hH) (.pure _)
  |true=>
   by_cases h2:e.Number<=last
   .have M:=DP hH (s:=s) (order:=order) (last:=last) (nodes:=nodes) (nx:=nx) (bad:=bad) (a:=a) (e:=e) (met:=met) (by omega) met 0 rfl (by omega)
    have pre: ∀{r},Ev (λf=>(iter (dz f p0 (a:Int) e) f (0,H.set p0 (fE s order last nodes nx met bad))).bind (Sum.elim (λv19=>
       (cw 1 (cI .i64) v19 p0 7).bind λq20=>
       dw (decide ((q20.1++[e.Number]).length<=room))<|
       (bT 1 (cI .i64) q20.2 p0 7 (q20.1++[e.Number])).bind λH22=>
       some (.inl (x.Level,x.Entries,x.Kids,((k+1:Nat):Int),H22))) (λr23=>
       some (.inr (.inr r23))))) r->Ev (λf=>b8 f p0 (a:Int) (x.Level,x.Entries,x.Kids,(k:Int),H.set p0 (fE s order last nodes nx met bad))) r:=by
     intro r hE
     unfold b8
     refine .t (eM hk1)<|.ae (aw hk1)<|.aP ?_
     rw[hek,cZ (by omega)]
     refine .ae (vG hH)<|.bind (tE hs he) ?_
     rw[h1]
     exact .f rfl<|.ae (FX hH)<|.f (by simp;omega) hE
    cases h3:met.contains e.Number with
    |true=>
     rw[h3]at M
     simp only[Bool.not_true,w_3,g_7,if_false]
     exact⟨met,.stop (pre (.bind M.ev (.pure _)))⟩
    |false=>
     rw[h3]at M
     simp only[g_7,if_false]at M
     simp only[Bool.not_false,Bool.and_true,j_7,h2,decide_true,if_true]
     have ih:=Bz hs (nx:=nx) (bad:=bad) (a:=a) hl hr l (k+1) (met++[e.Number]) hdl (by omega) (by simp;omega)
     have ht:cw 1 (cI .i64) (H.set p0 (fE s order last nodes nx met bad)) p0 7=some (met,(H.set p0 (fE s order last nodes nx met bad)).set p0 (.cells [.d (.list 1 (List.map (D.int .i64) s.aq)),.d (.list 1 (List.map D.bool s.Down)),.d (.int .i64 s.cY),.d (.int .i64 order),.d (.int .i64 last),.d (.list 3 (List.map bn nodes)),.d (.int .i64 nx),.undef,.d (.int .i64 bad)])):=me (lM hH) rfl
     have hg:bT 1 (cI .i64) ((H.set p0 (fE s order last nodes nx met bad)).set p0 (.cells [.d (.list 1 (List.map (D.int .i64) s.aq)),.d (.list 1 (List.map D.bool s.Down)),.d (.int .i64 s.cY),.d (.int .i64 order),.d (.int .i64 last),.d (.list 3 (List.map bn nodes)),.d (.int .i64 nx),.undef,.d (.int .i64 bad)])) p0 7 (met++[e.Number])=some (H.set p0 (fE s order last nodes nx (met++[e.Number]) bad)):=by
      rw[m_6,gw (cA hH) (by simp),m_6];rfl
     have T:=pre (.bind M.ev (.ae ht<|.dw (by simp[room];omega)<|.ae hg (.pure _)))
     cases hq:nm s last (met++[e.Number]) l with
     |none=>rw[hq]at ih;obtain⟨met',ih⟩:=ih;exact⟨met',.next T ih⟩
     |some met'=>rw[hq]at ih;exact .next T ih
   .simp only[h2,decide_false,m_4,w_3,g_7,if_false]
    refine⟨met,.stop ?_⟩
    unfold b8
    refine .t (eM hk1)<|.ae (aw hk1)<|.aP ?_
    rw[hek]
    refine .ae (vG hH)<|.bind (tE hs he) ?_
    rw[h1]
    exact .f rfl<|.ae (FX hH)<|.t (by simp;omega)<|.bind (gZ hH) (.pure _)
end
set_option maxRecDepth 100000
def Ak(s:ak)(e:Entry):Option Entry->Bool
 |none=>true
 |some h=>qw s e h
def BP(s:ak)(low high:Option Entry):Option Entry->List Entry->Bool
 |_,[]=>true
 |p,e::l=>(gM s p e&&(gM s low e&&Ak s e high))&&BP s low high (some e) l
def mB{s:ak}(h:nG s a=true):bc s.aq a.Row=true:=by simp only[nG,g_3]at h;exact h.1.1
def BN{s:ak}(hlow:qt s low): ∀{l:List Entry} {p:Option Entry},(∀e∈l,nG s e=true)->(∀e,p=some e->nG s e=true/\gM s low e=true)->Af s p l=true->(p=none-> ∀e,l.head? =some e->gM s low e=true)-> ∀e∈l,gM s low e=true
 |e::l,p,ho,hp,ha,h0,e',he'=>by
  simp only[Af,g_3]at ha
  have h1:gM s low e=true:=by
   cases p with
   |none=>exact h0 rfl e rfl
   |some q=>
    obtain⟨q1,q2⟩:=hp q rfl
    cases low with
    |none=>rfl
    |some w=>exact zl (mB (hlow w rfl).1) (mB q1) (mB (ho e (by simp))) q2 ha.1
  rcases h_9.1 he' with rfl|he'
  .exact h1
  .exact BN hlow (λe2 h2=>ho e2 (by simp[h2])) (λe2 h2=>by grind) ha.2 (λh=>by cases h) e' he'
def y8{s:ak}(hhigh:qt s high): ∀{l:List Entry} {p:Option Entry},(∀e∈l,nG s e=true)->Af s p l=true->(∀e,l.getLast? =some e->Ak s e high=true)-> ∀e∈l,Ak s e high=true
 |[e],p,ho,ha,hl,e',he'=>by
  grind
 |e::e2::l,p,ho,ha,hl,e',he'=>by
  simp only[Af,g_3]at ha
  have ih:=y8 hhigh (l:=e2::l) (p:=some e) (λq hq=>ho q (by simp at hq ⊢;right;exact hq)) (by simp only[Af,g_3];exact ha.2) (λq hq=>hl q (by simpa using hq))
  rcases h_9.1 he' with rfl|he'
  .cases high with
   |none=>rfl
   |some w=>exact zl (mB (ho _ (by simp))) (mB (ho e2 (by simp))) (mB (hhigh w rfl).1) ha.2.1 (ih e2 (by simp))
  .exact ih e' he'
def BO{s:ak}: ∀{l:List Entry} {p:Option Entry},BP s low high p l=(Af s p l&&l.all λe=>gM s low e&&Ak s e high)
 |[],p=>rfl
 |e::l,p=>by
  simp only[BP,Af,v_0,BO (l:=l)]
  grind
def HD{s:ak}(hlow:qt s low)(hhigh:qt s high)(ho: ∀e∈x.Entries,nG s e=true):BP s low high none x.Entries=(Af s none x.Entries&&ou s low high x):=by
 rw[BO]
 cases ha:Af s none x.Entries with
 |false=>rfl
 |true=>
  simp only[j_7]
  rw[Bool.eq_iff_iff]
  constructor
  .intro h
   rw[h_2]at h
   unfold ou
   rw[g_3]
   constructor
   .cases low with
    |none=>rfl
    |some w=>
     cases hh:x.Entries.head? with
     |none=>rfl
     |some a=>
      have:=h a (List.mem_of_mem_head? hh)
      simp only[g_3]at this
      exact this.1
   .cases high with
    |none=>rfl
    |some w=>
     cases hh:x.Entries.getLast? with
     |none=>rfl
     |some a=>
      have:=h a (List.mem_of_mem_getLast? hh)
      simp only[g_3]at this
      exact this.2
  .intro h
   unfold ou at h
   rw[g_3]at h
   rw[h_2]
   intro e he
   rw[g_3]
   constructor
   .refine BN hlow ho (p:=none) (λe h=>by cases h) ha (λ_ a hh=>?_) e he
    have:=h.1
    cases low with
    |none=>rfl
    |some w=>rw[hh]at this;exact this
   .refine y8 hhigh (p:=none) ho ha (λa hh=>?_) e he
    have:=h.2
    cases high with
    |none=>rfl
    |some w=>rw[hh]at this;exact this
section
variable {p0:Nat} {s:ak} {order last:Int} {nodes:List Node} {H:Hp} {o:aD} (hH:H[p0]? =some o)
include hH
def DI(hs:n9 s=true){nx bad:Int}{met:List Int}{a:Nat}{x:Node}{low high:Option Entry}(hl:x.Entries.length<1000)(hes: ∀e∈x.Entries,nG s e=true)(hlow:qt s low)(hhigh:qt s high):
  ∀(l:List Entry) (k:Nat) (p:Option Entry),x.Entries.drop k=l->k<=x.Entries.length->(k=0->p=none)->(∀j,k=j+1->p=x.Entries[j]?)->
  gX (λf=>dx f p0 (a:Int) low high) (x.Level,x.Entries,x.Kids,(k:Int),H.set p0 (fE s order last nodes nx met bad))
   (if BP s low high p l then .inl (x.Level,x.Entries,x.Kids,H.set p0 (fE s order last nodes nx met bad))else .inr (false,H.set p0 (fE s order last nodes nx met (a:Int))))
 |[],k,p,hd,hk,h0,h1=>by
  have hk2:x.Entries.length<=k:=by simpa using hd
  simp only[BP,if_true]
  refine .stop ?_
  unfold dx
  exact .f (mj hk2) (.pure _)
 |e::l,k,p,hd,hk,h0,h1=>by
  have hk1:k<x.Entries.length:=by
   grind
  have hek:x.Entries[k]=e:=by rw[aG hk1]at hd;exact(j_0 hd).1
  have hdl:x.Entries.drop (k+1)=l:=by rw[aG hk1]at hd;exact(j_0 hd).2
  have he:=hes e (hek▸j_1 hk1)
  have ih:=DI hs (nx:=nx) (bad:=bad) (met:=met) (a:=a) hl hes hlow hhigh l (k+1) (some e) hdl (by omega) (by omega) (λj hj=>by
   grind)
  have Nv:Ev (α:=((Int×(List Entry)×(List Int)×Int×Hp)⊕((Int×(List Entry)×(List Int)×Hp)⊕(((Bool)×Hp))))) (λf=>(Option.elim low
     ((Option.elim high
      (some (.inl (x.Level,x.Entries,x.Kids,((k+1:Nat):Int),H.set p0 (fE s order last nodes nx met bad))))
     (λx32=>
      (bC f p0 e x32 (H.set p0 (fE s order last nodes nx met bad))).bind λr33=>
      bif (!r33)then
       (aJ f p0 (a:Int) (H.set p0 (fE s order last nodes nx met bad))).bind λr34=>
       some (.inr (.inr (r34.1,r34.2)))
      else
       some (.inl (x.Level,x.Entries,x.Kids,((k+1:Nat):Int),H.set p0 (fE s order last nodes nx met bad))))))
    (λx31=>
     (bC f p0 x31 e (H.set p0 (fE s order last nodes nx met bad))).bind λr35=>
     bif (!r35)then
      (aJ f p0 (a:Int) (H.set p0 (fE s order last nodes nx met bad))).bind λr36=>
      some (.inr (.inr (r36.1,r36.2)))
     else
      (Option.elim high
       (some (.inl (x.Level,x.Entries,x.Kids,((k+1:Nat):Int),H.set p0 (fE s order last nodes nx met bad))))
      (λx37=>
       (bC f p0 e x37 (H.set p0 (fE s order last nodes nx met bad))).bind λr38=>
       bif (!r38)then
        (aJ f p0 (a:Int) (H.set p0 (fE s order last nodes nx met bad))).bind λr39=>
        some (.inr (.inr (r39.1,r39.2)))
       else
        some (.inl (x.Level,x.Entries,x.Kids,((k+1:Nat):Int),H.set p0 (fE s order last nodes nx met bad))))))))
    (if(gM s low e&&Ak s e high)then .inl (x.Level,x.Entries,x.Kids,((k+1:Nat):Int),H.set p0 (fE s order last nodes nx met bad))else .inr (.inr (false,H.set p0 (fE s order last nodes nx met (a:Int))))):=by
   cases low with
   |none=>
    cases high with
    |none=>exact .oH<|.oH (.pure _)
    |some hi=>
     have A:=sU hH (order:=order) (last:=last) (nodes:=nodes) hs (nx:=nx) (bad:=bad) (met:=met) he (hhigh hi rfl).1
     by_cases hq:qw s e hi=true
     .rw[hq]at A
      simp only[gM,Ak,hq,j_7,if_true]
      exact .oH<|.jZ<|.bind A<|.f rfl (.pure _)
     .have hq:=eq_false_of_ne_true hq
      rw[hq]at A
      simp only[gM,Ak,hq,j_7,g_7,if_false]
      exact .oH<|.jZ<|.bind A<|.t rfl<|.bind (gZ hH) (.pure _)
   |some lo=>
    have B:=sU hH (order:=order) (last:=last) (nodes:=nodes) hs (nx:=nx) (bad:=bad) (met:=met) (hlow lo rfl).1 he
    by_cases hq:qw s lo e=true
    .rw[hq]at B
     simp only[gM,hq,j_7]
     refine .jZ<|.bind B<|.f rfl ?_
     cases high with
     |none=>exact .oH (.pure _)
     |some hi=>
      have A:=sU hH (order:=order) (last:=last) (nodes:=nodes) hs (nx:=nx) (bad:=bad) (met:=met) he (hhigh hi rfl).1
      by_cases hq:qw s e hi=true
      .rw[hq]at A
       simp only[Ak,hq,if_true]
       exact .jZ<|.bind A<|.f rfl (.pure _)
      .have hq:=eq_false_of_ne_true hq
       rw[hq]at A
       simp only[Ak,hq,g_7,if_false]
       exact .jZ<|.bind A<|.t rfl<|.bind (gZ hH) (.pure _)
    .have hq:=eq_false_of_ne_true hq
     rw[hq]at B
     simp only[gM,hq,m_4,g_7,if_false]
     exact .jZ<|.bind B<|.t rfl<|.bind (gZ hH) (.pure _)
  have key:Ev (λf=>dx f p0 (a:Int) low high (x.Level,x.Entries,x.Kids,(k:Int),H.set p0 (fE s order last nodes nx met bad)))
    (if(gM s p e&&(gM s low e&&Ak s e high))then .inl (x.Level,x.Entries,x.Kids,((k+1:Nat):Int),H.set p0 (fE s order last nodes nx met bad))else .inr (.inr (false,H.set p0 (fE s order last nodes nx met (a:Int))))):=by
   unfold dx
   refine .t (eM hk1)<|.ae (aw hk1) ?_
   rw[hek,cZ (by omega)]
   obtain rfl|⟨j,rfl⟩:k=0\/ ∃j,k=j+1:=by cases k<;>simp
   .have hp0:=h0 rfl
    subst hp0
    simp only[gM,j_7]
    exact .f (by simp) Nv
   .have hj:j<x.Entries.length:=by omega
    have hp1:=h1 j rfl
    rw[h_6 hj]at hp1
    subst hp1
    have hix:idx x.Entries (IntKind.wrap .i64 (((j+1:Nat):Int) - 1))=some x.Entries[j]:=by
     rw[cN (by omega) (by omega),show((j+1:Nat):Int) - 1=(j:Int)by omega];exact aw hj
    have A:=sU hH (order:=order) (last:=last) (nodes:=nodes) hs (nx:=nx) (bad:=bad) (met:=met) (hes _ (j_1 hj)) he
    by_cases hq:qw s x.Entries[j] e=true
    .rw[hq]at A
     rw[show(gM s (some x.Entries[j]) e&&(gM s low e&&Ak s e high))=(gM s low e&&Ak s e high)by simp only[gM,hq,j_7]]
     exact .t (by grind)<|.ae hix<|.bind A<|.f rfl Nv
    .have hq:=eq_false_of_ne_true hq
     rw[hq]at A
     rw[show(gM s (some x.Entries[j]) e&&(gM s low e&&Ak s e high))=false by simp only[gM,hq,m_4]]
     simp only[g_7,if_false]
     exact .t (by grind)<|.ae hix<|.bind A<|.t rfl<|.bind (gZ hH) (.pure _)
  by_cases hc:(gM s p e&&(gM s low e&&Ak s e high))=true
  .rw[if_pos hc]at key
   simp only[BP,hc,j_7]
   exact .next key ih
  .rw[if_neg hc]at key
   simp only[BP,eq_false_of_ne_true hc,m_4,g_7,if_false]
   exact .stop key
end
set_option maxRecDepth 100000
def wB(fuel:Nat)(rc:Nat->Int->Int->Option Entry->Option Entry->Hp->Option (Bool×Hp))(p0:Nat)(p1 p2:Int)(p3 p4:Option Entry)(v50:Int×(List Entry)×(List Int)×Hp)(j52 j54:Int):Option (Bool×Hp):=
 aP (λ(j56:Unit)=>
  (iter (bZ fuel rc p0 p1 p3 p4 v50) fuel (0,v50.2.2.2)).bind (Sum.elim (λv81=>
   some (true,v81)) (λr82=>
   some r82))) λjp57=>
 (aR (cI .i64).cell v50.2.2.2 p0 3).bind λx58=>
 bif (decide ((v50.2.1.length:Int)>x58))then
  (aJ fuel p0 p1 v50.2.2.2).bind λr59=>
  some (r59.1,r59.2)
 else
  bif ((decide ((v50.2.1.length:Int)<j52))||(decide (v50.1<0)))then
   (aJ fuel p0 p1 v50.2.2.2).bind λr60=>
   some (r60.1,r60.2)
  else
   bif (decide (p2>=0))then
    bif (v50.1 !=p2)then
     (aJ fuel p0 p1 v50.2.2.2).bind λr61=>
     some (r61.1,r61.2)
    else
     bif ((v50.2.2.1.length:Int) !=j54)then
      (aJ fuel p0 p1 v50.2.2.2).bind λr62=>
      some (r62.1,r62.2)
     else
      jp57 ()
   else
    bif ((v50.2.2.1.length:Int) !=j54)then
     (aJ fuel p0 p1 v50.2.2.2).bind λr63=>
     some (r63.1,r63.2)
    else
     jp57 ()
section
variable {p0:Nat} {s:ak} {order last:Int} {nodes:List Node} {H:Hp} {o:aD}
def LA(p0:Nat)(s:ak)(order last:Int)(nodes:List Node)(H:Hp)(bad:Int)(f:Nat->Option (Bool×Hp))(r:Nat⊕(Nat×List Int)):Prop:=
 match r with
 |.inl b=> ∃nx' met',Ev f (false,H.set p0 (fE s order last nodes nx' met' (b:Nat)))
 |.inr (z,met')=>Ev f (true,H.set p0 (fE s order last nodes (z:Nat) met' bad))/\met'.length<=1000 * z
variable (hH:H[p0]? =some o)
include hH
def Bh{RC:Nat->Nat->Int->Int->Option Entry->Option Entry->Hp->Option (Bool×Hp)}
  (hN:Aj nodes) (hxm:x∈nodes) (hk:x.Kids≠[]->x.Kids.length=x.Entries.length+1/\0<x.Level)
  (hlow:qt s low) (hhigh:qt s high) (hes: ∀e∈x.Entries,nG s e=true)
  (hrc: ∀(nx:Nat) (level:Int) (lo hi:Option Entry) (met:List Int),a<nx->nx<nodes.length->0<=level->qt s lo->qt s hi->met.length<=1000 * nx->
   LA p0 s order last nodes H bad (λn=>RC n p0 (nx:Int) level lo hi (H.set p0 (fE s order last nodes (nx:Nat) met bad))) (wk s order last nodes d nx level lo hi met)):
  ∀(ks:List Int) (i nx:Nat) (met:List Int),x.Kids.drop i=ks->i<=x.Kids.length->a<nx->met.length<=1000 * nx->
   match oV nodes (wk s order last nodes d) a x low high ks i nx met with
   |.inl b=> ∃nx' met',gX (λn=>bZ n (RC n) p0 (a:Int) low high (x.Level,x.Entries,x.Kids,Hx)) ((i:Int),H.set p0 (fE s order last nodes (nx:Nat) met bad)) (.inr (false,H.set p0 (fE s order last nodes nx' met' (b:Nat))))
   |.inr (z,met')=>gX (λn=>bZ n (RC n) p0 (a:Int) low high (x.Level,x.Entries,x.Kids,Hx)) ((i:Int),H.set p0 (fE s order last nodes (nx:Nat) met bad)) (.inl (H.set p0 (fE s order last nodes (z:Nat) met' bad)))/\met'.length<=1000 * z
 |[],i,nx,met,hd,hi,ha,hm=>by
  have hik:x.Kids.length<=i:=by simpa using hd
  simp only[oV]
  refine⟨.stop ?_,hm⟩
  unfold bZ
  exact .f (mj hik) (.pure _)
 |k::ks,i,nx,met,hd,hi,ha,hm=>by
  have hik:i<x.Kids.length:=by
   grind
  have hek:x.Kids[i]=k:=by rw[aG hik]at hd;exact(j_0 hd).1
  have hdl:x.Kids.drop (i+1)=ks:=by rw[aG hik]at hd;exact(j_0 hd).2
  have hne:x.Kids≠[]:=by intro e;rw[e]at hik;simp at hik
  obtain⟨hk1,hk2⟩:=hk hne
  obtain⟨b1,b2,b3,b4⟩:=hN.2 x hxm
  have hN1:=hN.1
  simp only[oV]
  by_cases hc:k=(nx:Int)/\nx<nodes.length
  .rw[if_pos hc]
   have hlo:qt s (ny x low i):=by
    unfold ny
    split
    .intro e he
     grind
    .exact hlow
   have hhi:qt s (gO x high i):=by
    unfold gO
    split
    .intro e he
     grind
    .exact hhigh
   have R:=hrc nx (x.Level - 1) (ny x low i) (gO x high i) met ha hc.2 (by omega) hlo hhi hm
   have step: ∀{r o'},Ev (λn=>RC n p0 (nx:Int) (x.Level - 1) (ny x low i) (gO x high i) (H.set p0 (fE s order last nodes (nx:Nat) met bad))) r->
     Ev (λn=>bif (!r.1)then some (.inr (.inr (false,r.2)))else some (.inl (((i+1:Nat):Int),r.2))) o'->
     Ev (λn=>bZ n (RC n) p0 (a:Int) low high (x.Level,x.Entries,x.Kids,Hx) ((i:Int),H.set p0 (fE s order last nodes (nx:Nat) met bad))) o':=by
    intro r o' hr hE
    unfold bZ
    refine .t (eM hik)<|.aP<|.ae (aw hik) ?_
    rw[hek]
    refine .ae (vH hH)<|.f (by simp[hc.1])<|.ae (vH hH)<|.ae (Cg hH)<|.f (by simp;omega)<|.aP ?_
    have tail: ∀{lo:Option Entry},lo=ny x low i->Ev (λn=>aP (λ(j75:(Option Entry))=>
      (idx x.Kids (i:Int)).bind λx78=>
      (RC n p0 x78 (IntKind.wrap .i64 (x.Level - 1)) lo j75 (H.set p0 (fE s order last nodes (nx:Nat) met bad))).bind λr79=>
      bif (!r79.1)then
       some (.inr (.inr (false,r79.2)))
      else
       some (.inl ((IntKind.wrap .i64 ((i:Int)+1)),r79.2))) λjp76=>
     bif (decide ((i:Int)<(x.Entries.length:Int)))then
      (idx x.Entries (i:Int)).bind λx77=>
      jp76 (some x77)
     else
      jp76 high) o':=by
     rintro lo rfl
     rw[cZ (by omega),cN (x:=x.Level - 1) (by unfold i64 at b3;omega) (by unfold i64 at b3;omega)]
     refine .aP ?_
     by_cases hx:i<x.Entries.length
     .refine .t (eM hx)<|.ae (aw hx)<|.ae (aw hik) ?_
      have e:gO x high i=some x.Entries[i]:=by unfold gO;grind
      rw[e]at hr
      rw[hek,hc.1]
      exact .bind hr hE
     .refine .f (mj (by omega))<|.ae (aw hik) ?_
      have e:gO x high i=high:=by unfold gO;rw[if_neg hx]
      rw[e]at hr
      rw[hek,hc.1]
      exact .bind hr hE
    by_cases h0:0<i
    .have hj:i - 1<x.Entries.length:=by omega
     have hix:idx x.Entries (IntKind.wrap .i64 ((i:Int) - 1))=some x.Entries[i - 1]:=by
      rw[cN (by omega) (by omega),show(i:Int) - 1=((i - 1:Nat):Int)by omega];exact aw hj
     exact .t (by simp;omega)<|.ae hix<|tail (by unfold ny;grind)
    .exact .f (by simp;omega)<|tail (by unfold ny;rw[if_neg h0])
   cases hw:wk s order last nodes d nx (x.Level - 1) (ny x low i) (gO x high i) met with
   |inl b=>
    rw[hw]at R
    obtain⟨nx',met',R1⟩:=R
    exact⟨nx',met',.stop (step R1 (.t rfl (.pure _)))⟩
   |inr q=>
    obtain⟨z,met'⟩:=q
    rw[hw]at R
    obtain⟨R1,R2⟩:=R
    have hlt:nx<z:=FR hw
    have T:=step R1 (.f rfl (.pure _))
    have IH:=Bh hN hxm hk hlow hhigh hes hrc ks (i+1) z met' hdl (by omega) (by omega) R2 (Hx:=Hx)
    simp only
    cases hw2:oV nodes (wk s order last nodes d) a x low high ks (i+1) z met' with
    |inl b=>
     rw[hw2]at IH
     obtain⟨nx',met2,I1⟩:=IH
     exact⟨nx',met2,.next T I1⟩
    |inr q=>
     obtain⟨z',met2⟩:=q
     rw[hw2]at IH
     exact⟨.next T IH.1,IH.2⟩
  .rw[if_neg hc]
   simp only
   refine⟨nx,met,.stop ?_⟩
   unfold bZ
   refine .t (eM hik)<|.aP<|.ae (aw hik) ?_
   rw[hek]
   refine .ae (vH hH) ?_
   by_cases hkn:k=(nx:Int)
   .exact .f (by simp[hkn])<|.ae (vH hH)<|.ae (Cg hH)<|.t (by simp;omega)<|.bind (gZ hH) (.pure _)
   .exact .t (by simp[hkn])<|.t rfl<|.bind (gZ hH) (.pure _)
def LY{a:Nat}{x:Node}{low high:Option Entry}{nx bad p2 j52 j54:Int}{met:List Int}{RC:Nat->Nat->Int->Int->Option Entry->Option Entry->Hp->Option (Bool×Hp)}:
  ((x.Entries.length:Int)<=order/\j52<=(x.Entries.length:Int)/\0<=x.Level/\(0<=p2->x.Level=p2)/\(x.Kids.length:Int)=j54->
   ∀r,Ev (λn=>(iter (bZ n (RC n) p0 (a:Int) low high (x.Level,x.Entries,x.Kids,H.set p0 (fE s order last nodes nx met bad))) n (0,H.set p0 (fE s order last nodes nx met bad))).bind (Sum.elim (λv81=>some (true,v81)) (λr82=>some r82))) r->
   Ev (λn=>wB n (RC n) p0 (a:Int) p2 low high (x.Level,x.Entries,x.Kids,H.set p0 (fE s order last nodes nx met bad)) j52 j54) r)/\
  (¬((x.Entries.length:Int)<=order/\j52<=(x.Entries.length:Int)/\0<=x.Level/\(0<=p2->x.Level=p2)/\(x.Kids.length:Int)=j54)->
   Ev (λn=>wB n (RC n) p0 (a:Int) p2 low high (x.Level,x.Entries,x.Kids,H.set p0 (fE s order last nodes nx met bad)) j52 j54) (false,H.set p0 (fE s order last nodes nx met (a:Int)))):=by
 have W:=λ{b:Int}=>gZ hH (s:=s) (order:=order) (last:=last) (nodes:=nodes) (nx:=nx) (bad:=bad) (b:=b) (met:=met)
 constructor
 .rintro ⟨c1,c2,c3,c4,c5⟩ r hE
  unfold wB
  refine .aP<|.ae (Cf hH)<|.f (by grind)<|.f (by simp;omega) ?_
  grind
 .intro hn
  unfold wB
  refine .aP<|.ae (Cf hH) ?_
  by_cases c1:(x.Entries.length:Int)<=order
  .refine .f (by grind) ?_
   by_cases c2:j52<=(x.Entries.length:Int)/\0<=x.Level
   .refine .f (by simp;omega) ?_
    by_cases hp:0<=p2
    .refine .t (by grind) ?_
     by_cases c4:x.Level=p2
     .refine .f (by simp[c4]) ?_
      have c5:(x.Kids.length:Int)≠j54:=λe=>hn ⟨c1,c2.1,c2.2,λ_=>c4,e⟩
      exact .t (bne_iff_ne.2 c5)<|.bind W (.pure _)
     .exact .t (bne_iff_ne.2 c4)<|.bind W (.pure _)
    .refine .f (by grind) ?_
     have c5:(x.Kids.length:Int)≠j54:=λe=>hn ⟨c1,c2.1,c2.2,λh=>absurd h hp,e⟩
     exact .t (bne_iff_ne.2 c5)<|.bind W (.pure _)
   .exact .t (by simp;omega)<|.bind W (.pure _)
  .exact .t (by grind)<|.bind W (.pure _)
end
set_option maxRecDepth 100000
def wJ{s:ak}{last:Int}: ∀{l:List Entry} {met met':List Int},nm s last met l=some met'->met'.length=met.length+l.length
 |[],met,met',h=>by simp only[nm,g_4]at h;subst h;rfl
 |e::l,met,met',h=>by
  simp only[nm]at h
  split at h
  .have:=wJ h
   grind
  .cases h
section
variable {p0:Nat} {s:ak} {order last:Int} {nodes:List Node} {H:Hp} {o:aD} (hH:H[p0]? =some o)
include hH
def ye(hs:n9 s=true)(h3:3<=order)(h32:order<=32)(hN:Aj nodes): ∀(d a:Nat) (level:Int) (low high:Option Entry) (met:List Int),
  a<nodes.length->nodes.length<=a+d->qt s low->qt s high->(a=0->level= -1)->(a≠0->0<=level)->met.length<=1000 * a->
   LA p0 s order last nodes H bad (λn=>bS n p0 (a:Int) level low high (H.set p0 (fE s order last nodes (a:Nat) met bad))) (wk s order last nodes d a level low high met)
 |0,a,level,low,high,met,ha,hd,_,_,_,_,_=>by omega
 |d+1,a,level,low,high,met,ha,hd,hlow,hhigh,h0,hl0,hm=>by
  have hx:nodes[a]? =some nodes[a]:=h_6 ha
  have hxm:nodes[a]∈nodes:=j_1 ha
  generalize hxe:nodes[a]=x at hx hxm
  have hN1:=hN.1
  obtain⟨b1,b2,b3,b4⟩:=hN.2 x hxm
  have E:=Bz hH (order:=order) (last:=last) (nodes:=nodes) hs (nx:=((a+1:Nat):Int)) (bad:=bad) (a:=a) (x:=x) b1 (λe he=>(b4 e he).1) x.Entries 0 met rfl (by omega) (by omega)
  have hwk:wk s order last nodes (d+1) a level low high met=(match qf s order last (a==0) level low high met x with
   |none=>.inl a
   |some met'=>oV nodes (wk s order last nodes d) a x low high x.Kids 0 (a+1) met'):=by
   show(match nodes[a]? with|none=>Sum.inl a|some x=>match qf s order last (a==0) level low high met x with|none=>Sum.inl a|some met'=>oV nodes (wk s order last nodes d) a x low high x.Kids 0 (a+1) met')=_
   rw[hx]
  rw[hwk]
  clear hwk
  have head: ∀{r},Ev (λn=>(iter (b8 n p0 (a:Int)) n (x.Level,x.Entries,x.Kids,0,H.set p0 (fE s order last nodes ((a+1:Nat):Int) met bad))).bind (Sum.elim (λv25=>
     (iter (dx n p0 (a:Int) low high) n (v25.1,v25.2.1,v25.2.2.1,0,v25.2.2.2)).bind (Sum.elim (λv50=>
      (aR (cI .i64).cell v50.2.2.2 p0 3).bind λx51=>
      aP (λ(j52:Int)=>
       aP (λ(j54:Int)=>wB n (bS n) p0 (a:Int) level low high v50 j52 j54) λjp55=>
       bif (v50.1==0)then
        jp55 0
       else
        jp55 (IntKind.wrap .i64 ((v50.2.1.length:Int)+1))) λjp53=>
      bif ((a:Int)==0)then
       bif (v50.1 !=0)then
        jp53 1
       else
        jp53 0
      else
       jp53 (IntKind.wrap .i64 (Int.tdiv x51 2))) (λr83=>
      some r83))) (λr84=>
     some r84))) r->Ev (λn=>bS n p0 (a:Int) level low high (H.set p0 (fE s order last nodes (a:Nat) met bad))) r:=by
   intro r hE
   refine kH (g:=λn=>fG n (bS n) p0 (a:Int) level low high (H.set p0 (fE s order last nodes (a:Nat) met bad))) (λn=>rfl) ?_
   unfold fG
   refine .ae (vH hH) ?_
   rw[cZ (by omega)]
   refine .ae (FW hH)<|.ae (Cg hH)<|.ae (du hx) hE
  have badN:qf s order last (a==0) level low high met x=none->(∃met',Ev (λn=>bS n p0 (a:Int) level low high (H.set p0 (fE s order last nodes (a:Nat) met bad))) (false,H.set p0 (fE s order last nodes ((a+1:Nat):Int) met' (a:Int))))->
    LA p0 s order last nodes H bad (λn=>bS n p0 (a:Int) level low high (H.set p0 (fE s order last nodes (a:Nat) met bad))) (match qf s order last (a==0) level low high met x with
   |none=>.inl a
   |some met'=>oV nodes (wk s order last nodes d) a x low high x.Kids 0 (a+1) met'):=by
   rintro hn ⟨met',hE⟩
   rw[hn]
   exact⟨_,met',hE⟩
  cases hq:nm s last met x.Entries with
  |none=>
   rw[hq]at E
   obtain⟨met',E⟩:=E
   exact badN (by unfold qf;simp only[hq,ite_self]) ⟨met',head (.bind E.ev (.pure _))⟩
  |some met'=>
   rw[hq]at E
   have hlen:=wJ hq
   have hes:=su hq
   have O:=DI hH (order:=order) (last:=last) (nodes:=nodes) hs (nx:=((a+1:Nat):Int)) (bad:=bad) (met:=met') (a:=a) (x:=x) (low:=low) (high:=high) b1 hes hlow hhigh x.Entries 0 none rfl (by omega) (λ_=>rfl) (λj hj=>by omega)
   rw[HD hlow hhigh hes]at O
   by_cases hc:(Af s none x.Entries&&ou s low high x)=true
   .rw[if_pos hc]at O
    rw[g_3]at hc
    obtain⟨j52,hj52⟩: ∃j:Int,j=if a=0 then(if x.Level=0 then 0 else 1)else order / 2:=⟨_,rfl⟩
    obtain⟨j54,hj54⟩: ∃j:Int,j=if x.Level=0 then 0 else(x.Entries.length:Int)+1:=⟨_,rfl⟩
    have head2: ∀{r},Ev (λn=>wB n (bS n) p0 (a:Int) level low high (x.Level,x.Entries,x.Kids,H.set p0 (fE s order last nodes ((a+1:Nat):Int) met' bad)) j52 j54) r->Ev (λn=>bS n p0 (a:Int) level low high (H.set p0 (fE s order last nodes (a:Nat) met bad))) r:=by
     intro r hE
     refine head<|.bind E.ev<|.bind O.ev<|.ae (Cf hH)<|.aP ?_
     have tail: ∀{k:Int},k=j52->Ev (λn=>aP (λ(j54:Int)=>wB n (bS n) p0 (a:Int) level low high (x.Level,x.Entries,x.Kids,H.set p0 (fE s order last nodes ((a+1:Nat):Int) met' bad)) k j54) λjp55=>
       bif (x.Level==0)then
        jp55 0
       else
        jp55 (IntKind.wrap .i64 ((x.Entries.length:Int)+1))) r:=by
      rintro k rfl
      refine .aP ?_
      by_cases hz:x.Level=0
      .grind
      .have:j54=(x.Entries.length:Int)+1:=by rw[hj54,if_neg hz]
       rw[this]at hE
       rw[cN (x:=(x.Entries.length:Int)+1) (by omega) (by omega)]
       exact .f (by simp[hz]) hE
     by_cases ha0:a=0
     .grind
     .refine .f (by simp[ha0]) (tail ?_)
      rw[show Int.tdiv order 2=order / 2 by grind,cN (by omega) (by omega)]
      rw[hj52,if_neg ha0]
    obtain⟨W1,W2⟩:=LY hH (s:=s) (order:=order) (last:=last) (nodes:=nodes) (a:=a) (x:=x) (low:=low) (high:=high) (nx:=((a+1:Nat):Int)) (bad:=bad) (p2:=level) (j52:=j52) (j54:=j54) (met:=met') (RC:=λn=>bS n)
    have hiff:((x.Entries.length:Int)<=order/\j52<=(x.Entries.length:Int)/\0<=x.Level/\(0<=level->x.Level=level)/\(x.Kids.length:Int)=j54)<->(vk order (a==0) x&&vh (a==0) level x&&w7 x)=true:=by
     simp only[vk,vh,w7,g_3,p_2,decide_eq_true_eq,beq_iff_eq,bne_iff_ne,ne_eq]
     grind
    by_cases hg:(vk order (a==0) x&&vh (a==0) level x&&w7 x)=true
    .have hok:qf s order last (a==0) level low high met x=some met':=by
      unfold qf
      rw[hg,hc.1,hc.2,hq];rfl
     rw[hok]
     simp only[g_3]at hg
     have hk:x.Kids≠[]->x.Kids.length=x.Entries.length+1/\0<x.Level:=by
      intro hne
      have h1:=hg.2
      simp only[w7,g_3,beq_iff_eq]at h1
      grind
     have K:=Bh hH (d:=d) (a:=a) (x:=x) (low:=low) (high:=high) (bad:=bad) (Hx:=H.set p0 (fE s order last nodes ((a+1:Nat):Int) met' bad)) (RC:=λn=>bS n) hN hxm hk hlow hhigh hes
      (λnx level lo hi met h1 h2 h3' h4 h5 h6=>ye hs h3 h32 hN d nx level lo hi met h2 (by omega) h4 h5 (by omega) (λ_=>h3') h6) x.Kids 0 (a+1) met' rfl (by omega) (by omega) (by omega)
     have hgood:=hiff.2 (by grind)
     simp only
     cases hw:oV nodes (wk s order last nodes d) a x low high x.Kids 0 (a+1) met' with
     |inl b=>
      rw[hw]at K
      obtain⟨nx',met2,K1⟩:=K
      exact⟨nx',met2,head2 (W1 hgood _ (.bind K1.ev (.pure _)))⟩
     |inr q=>
      obtain⟨z,met2⟩:=q
      rw[hw]at K
      exact⟨head2 (W1 hgood _ (.bind K.1.ev (.pure _))),K.2⟩
    .refine badN ?_ ⟨met',head2 (W2 (λh=>hg (hiff.1 h)))⟩
     unfold qf
     rw[eq_false_of_ne_true hg];rfl
   .rw[if_neg hc]at O
    refine badN ?_ ⟨met',head (.bind E.ev (.bind O.ev (.pure _)))⟩
    unfold qf
    grind
end
set_option maxRecDepth 100000
def Iu:wk s order last nodes d 0 lv lo hi met=wk s order last nodes d 0 lv' lo hi met:=by
 cases d with
 |zero=>rfl
 |succ d=>
  show(match nodes[0]? with|none=>Sum.inl 0|some x=>match qf s order last (0==0) lv lo hi met x with|none=>Sum.inl 0|some met'=>oV nodes (wk s order last nodes d) 0 x lo hi x.Kids 0 (0+1) met')=
   (match nodes[0]? with|none=>Sum.inl 0|some x=>match qf s order last (0==0) lv' lo hi met x with|none=>Sum.inl 0|some met'=>oV nodes (wk s order last nodes d) 0 x lo hi x.Kids 0 (0+1) met')
  have: ∀x,qf s order last (0==0) lv lo hi met x=qf s order last (0==0) lv' lo hi met x:=λx=>by
   simp only[qf,vh,beq_self_eq_true,Bool.true_or]
  grind
def nI(s:ak)(order last:Int)(nodes:List Node):Int×Int:=
 if n9 s=true then
  if 3<=order/\order<=32/\0<=last then
   if nodes.length=0 then(0,12)
   else match wk s order last nodes nodes.length 0 0 none none []with
    |.inl b=>((b:Nat),12)
    |.inr (z,met)=>if z<nodes.length then((z:Nat),12)else if 500<met.length then(0,4)else(-1,0)
  else(0,7)
 else(0,1)
def so:qt s none:=λe h=>by cases h
def EX(s:ak)(order last:Int)(nodes:List Node)(hN:Aj nodes)(hk:s.aq.length<1000):Ev (λf=>se f s order last nodes) (nI s order last nodes):=by
 have hN1:=hN.1
 unfold se nI
 refine .bind (yA s hk) ?_
 cases hs:n9 s with
 |false=>
  simp only[g_7,if_false]
  exact .t rfl (.pure _)
 |true=>
  simp only[if_true]
  refine .f rfl ?_
  by_cases hc:3<=order/\order<=32/\0<=last
  .rw[if_pos hc]
   refine .f (by simp;omega) ?_
   by_cases h0:nodes.length=0
   .rw[if_pos h0]
    exact .t (by simp[q_0.1 h0]) (.pure _)
   .rw[if_neg h0]
    refine .f (beq_eq_false_iff_ne.2 (by omega))<|.ae rfl ?_
    let H1:Hp:=[]++[fE s order last nodes 0 [] (-1)]
    have hH:H1[0]? =some (fE s order last nodes 0 [] (-1)):=rfl
    have W:=ye hH hs hc.1 hc.2.1 hN (last:=last) (bad:= -1) nodes.length 0 (-1) none none [] (by omega) (by omega) so so (λ_=>rfl) (λh=>absurd rfl h) (by simp)
    rw[Iu (lv':=0)]at W
    have e0:H1.set 0 (fE s order last nodes ((0:Nat):Int) [] (-1))=H1:=rfl
    rw[e0]at W
    cases hw:wk s order last nodes nodes.length 0 0 none none []with
    |inl b=>
     rw[hw]at W
     obtain⟨nx',met',W⟩:=W
     simp only
     exact .bind W<|.t rfl<|.ae (Kq hH) (.pure _)
    |inr q=>
     obtain⟨z,met⟩:=q
     rw[hw]at W
     obtain⟨W,-⟩:=W
     simp only
     refine .bind W<|.f rfl<|.ae (vH hH) ?_
     by_cases hz:z<nodes.length
     .rw[if_pos hz]
      exact .t (eM hz)<|.ae (vH hH) (.pure _)
     .rw[if_neg hz]
      refine .f (mj (by omega))<|.ae (tc hH) ?_
      by_cases hm:500<met.length
      .rw[if_pos hm];exact .t (by simp;omega) (.pure _)
      .rw[if_neg hm];exact .f (by simp;omega) (.pure _)
  .rw[if_neg hc]
   exact .t (by simp;omega) (.pure _)
def Em(f:Nat)(h:r.length<1000):fx f r=some r:=by
 unfold fx
 cases r with
 |nil=>rfl
 |cons a l=>
  show Go.Sh.dw (decide ((([]:List Int)++a::l).length<=room)) (some ([]++a::l))=_
  rw[show decide ((([]:List Int)++a::l).length<=room)=true by
   rw[decide_eq_true_eq]
   have:(a::l).length<1000:=h
   simp only[m_3,room]
   omega]
  rfl
def Jw(f:Nat)(h:r.length<1000):eX f r=some r:=by
 unfold eX
 cases r with
 |nil=>rfl
 |cons a l=>
  show Go.Sh.dw (decide ((([]:List Bool)++a::l).length<=room)) (some ([]++a::l))=_
  rw[show decide ((([]:List Bool)++a::l).length<=room)=true by
   rw[decide_eq_true_eq]
   have:(a::l).length<1000:=h
   simp only[m_3,room]
   omega]
  rfl
def Dx(s:ak)(order:Int)(H:Hp)(hk:s.aq.length<1000)(hd:s.Down.length<1000):Ev (λf=>uq f s order H)
  (if n9 s=true then(if 3<=order/\order<=32 then((some (H.length+1),0),(H++[cz [] []])++[gY s order (some H.length) 0 0])else((none,7),H))else((none,1),H)):=by
 unfold uq
 refine .bind (EO s) ?_
 cases hs:n9 s with
 |false=>simp only[g_7,if_false];exact .t rfl (.pure _)
 |true=>
  simp only[if_true]
  refine .f rfl ?_
  by_cases hc:3<=order/\order<=32
  .rw[if_pos hc]
   refine .f (by simp;omega)<|.bind (.of λn=>Em n hk)<|.bind (.of λn=>Jw n hd)<|.ae rfl<|.ae rfl ?_
   refine .of λn=>?_
   simp only[cz,gY,cP,h_7,j_3,v_5,q_1]
  .rw[if_neg hc]
   exact .t (by simp;omega) (.pure _)
def Gf(s:ak)(order last:Int)(nodes:List Node)(hN:Aj nodes)(hk:s.aq.length<1000)(hd:s.Down.length<1000)(H:Hp):
  ∃t H',Ev (λf=>lT f s order last nodes H) ((t,nI s order last nodes),H')/\
   ((nI s order last nodes).2=0-> ∃root z met,t=some (H.length+1)/\wk s order last nodes nodes.length 0 0 none none []=.inr (z,met)/\nodes.length<=z/\
    H'[H.length+1]? =some (gY s order (some root) last (met.length:Nat))/\(∀j,j<H.length->H'[j]? =H[j]?)/\H.length+2<=H'.length/\ ∃b lv,H.length+2<=b/\HN b nodes H' lv 0 z root):=by
 have hN1:=hN.1
 have N:=Dx s order H hk hd
 unfold nI
 cases hs:n9 s with
 |false=>
  rw[hs]at N
  simp only[g_7,if_false]at N ⊢
  refine⟨none,H,?_,λh=>by cases h⟩
  unfold lT
  exact .bind N<|.t rfl (.pure _)
 |true=>
  rw[hs]at N
  simp only[if_true]at N ⊢
  by_cases hc:3<=order/\order<=32/\0<=last
  .rw[if_pos ⟨hc.1,hc.2.1⟩]at N
   rw[if_pos hc]
   let H1:Hp:=(H++[cz [] []])++[gY s order (some H.length) 0 0]
   let H2:Hp:=H1.set (H.length+1) (gY s order (some H.length) last 0)
   let H3:Hp:=H2++[eD []]
   let H4:Hp:=H3++[vp (H.length+1) H2.length nodes 0 0]
   have n1:H1.length=H.length+2:=by simp[H1]
   have n2:H2.length=H.length+2:=by simp[H2,n1]
   have n3:H3.length=H.length+3:=by simp[H3,n2]
   have n4:H4.length=H.length+4:=by simp[H4,n3]
   have g1:H1[H.length+1]? =some (gY s order (some H.length) 0 0):=by simp[H1]
   have s5:cG (cI .i64) H1 (H.length+1) 5 last=some H2:=eS g1 (by simp[cI,D.cells])
   have g2:H2[H.length+1]? =some (gY s order (some H.length) last 0):=cA g1
   have g4t:H4[H.length+1]? =some (gY s order (some H.length) last 0):=by
    grind
   have g4m:H4[H2.length]? =some (eD []):=by
    grind
   have g4p:H4[H3.length]? =some (vp (H.length+1) H2.length nodes 0 0):=Et
   have LI:kZ H3.length (H.length+1) H2.length s order last nodes H4 ((0:Nat):Int) 0:=⟨g4p,⟨_,_,g4t⟩,⟨_,g4m⟩,by omega,by omega,by omega⟩
   have pre: ∀{q:Option Nat×Hp} {r},Ev (λn=>cE n H3.length 0 ⟨none,none⟩ H4) q->Ev (λfuel=>aP (λ(j8:(Option Nat)×Bool)=>
     bif j8.2 then
      (aR (cI .i64).cell q.2 H3.length 4).bind λx11=>
      some ((none,x11,12),q.2)
     else
      (aR (cI .i64).cell q.2 H3.length 2).bind λx12=>
      bif (decide (x12<(nodes.length:Int)))then
       (aR (cI .i64).cell q.2 H3.length 2).bind λx13=>
       some ((none,x13,12),q.2)
      else
       (aR cM.cell q.2 H3.length 3).bind λx14=>
       (zS (kI .i64) cB q.2 x14).bind λq15=>
       bif (decide (q15>500))then
        some ((none,0,4),q.2)
       else
        (aR cM.cell q.2 H3.length 3).bind λx16=>
        (zS (kI .i64) cB q.2 x16).bind λq17=>
        (cG cP q.2 (H.length+1) 4 j8.1).bind λH18=>
        (cG (cI .i64) H18 (H.length+1) 6 q17).bind λH19=>
        (fx fuel s.aq).bind λr20=>
        (cG (cL 1 (cI .i64)) H19 (H.length+1) 0 r20).bind λH21=>
        some (((some (H.length+1)),(-1),0),H21)) λjp9=>
     (Option.elim q.1
      (jp9 (none,true))
     (λi10=>
      jp9 ((some i10),false)))) r->Ev (λf=>lT f s order last nodes H) r:=by
    intro q r h1 h2
    unfold lT
    exact .bind N<|.f rfl<|.f (by simp;omega)<|.ae rfl<|.ae s5<|.ae rfl<|.ae rfl<|.ae rfl<|.bind h1 h2
   by_cases h0:nodes.length=0
   .rw[if_pos h0]
    refine⟨none,_,pre (q:=(none,H4.set H3.length (vp (H.length+1) H2.length nodes 0 0))) ?_ (.aP<|.oH<|.t rfl<|.ae (LI.put 0 0).bd (.pure _)),λh=>by cases h⟩
    refine kH (g:=λn=>dQ n (cE n) H3.length 0 ⟨none,none⟩ H4) (λn=>rfl) ?_
    unfold dQ
    exact .ae LI.FJ<|.ae LI.gp<|.t (by simp[q_0.1 h0])<|.ae (LI.zt 0) (.pure _)
   .rw[if_neg h0]
    have L:=yJ hs hc.1 hc.2.1 hN nodes.length 0 0 none none [] H4 0 (by omega) (by omega) so so LI g4m
    cases hw:wk s order last nodes nodes.length 0 0 none none []with
    |inl b=>
     rw[hw]at L
     obtain⟨H',nx',L1,L2⟩:=L
     simp only
     exact⟨none,H',pre L1 (.aP<|.oH<|.t rfl<|.ae L2.bd (.pure _)),λh=>by cases h⟩
    |inr q=>
     obtain⟨z,met⟩:=q
     rw[hw]at L
     obtain⟨H',i,lv,bad',L1,L2,L3,L4,L5,L6⟩:=L
     simp only
     have hlen:zS (kI .i64) cB H' (some H2.length)=some ((met.length:Nat):Int):=by
      rw[Jl L3];simp[CM]
     by_cases hz:z<nodes.length
     .rw[if_pos hz]
      exact⟨none,H',pre L1 (.aP<|.jZ<|.f rfl<|.ae L2.FJ<|.t (eM hz)<|.ae L2.FJ (.pure _)),λh=>by cases h⟩
     .rw[if_neg hz]
      by_cases hm:500<met.length
      .rw[if_pos hm]
       exact⟨none,H',pre L1 (.aP<|.jZ<|.f rfl<|.ae L2.FJ<|.f (mj (by omega))<|.ae L2.mp<|.ae hlen<|.t (by simp;omega) (.pure _)),λh=>by cases h⟩
      .rw[if_neg hm]
       have e0:H'[H.length+1]? =some (gY s order (some H.length) last 0):=by grind
       let H5:Hp:=H'.set (H.length+1) (gY s order (some i) last 0)
       have s1:cG cP H' (H.length+1) 4 (some i)=some H5:=eS e0 (by simp[cP,D.cells])
       have e1:H5[H.length+1]? =some (gY s order (some i) last 0):=cA e0
       let H6:Hp:=H5.set (H.length+1) (gY s order (some i) last (met.length:Nat))
       have s2:cG (cI .i64) H5 (H.length+1) 6 ((met.length:Nat):Int)=some H6:=eS e1 (by simp[cI,D.cells])
       have e2:H6[H.length+1]? =some (gY s order (some i) last (met.length:Nat)):=cA e1
       let H7:Hp:=H6.set (H.length+1) (gY s order (some i) last (met.length:Nat))
       have s3:cG (cL 1 (cI .i64)) H6 (H.length+1) 0 s.aq=some H7:=eS e2 (by simp[cL,D.cells])
       have e3: ∀j,j≠H.length+1->H7[j]? =H'[j]? :=λj hj=>by
        grind
       refine⟨some (H.length+1),H7,pre L1 (.aP<|.jZ<|.f rfl<|.ae L2.FJ<|.f (mj (by omega))<|.ae L2.mp<|.ae hlen<|.f (by simp;omega)<|
        .ae L2.mp<|.ae hlen<|.ae s1<|.ae s2<|.bind (.of λn=>Em n hk)<|.ae s3 (.pure _)),λ_=>?_⟩
       refine⟨i,z,met,rfl,rfl,by omega,cA e2,λj hj=>?_,?_,H4.length,lv,by omega,L4.frame λj j1 j2=>e3 j (by omega)⟩
       .rw[e3 j (by omega),L6 j (by omega) (by omega) (by omega)]
        grind
       grind
  .rw[if_neg hc]
   by_cases ho:3<=order/\order<=32
   .rw[if_pos ho]at N
    refine⟨none,(H++[cz [] []])++[gY s order (some H.length) 0 0],?_,λh=>by cases h⟩
    unfold lT
    exact .bind N<|.f rfl<|.t (by simp;omega) (.pure _)
   .rw[if_neg ho]at N
    refine⟨none,H,?_,λh=>by cases h⟩
    unfold lT
    exact .bind N<|.t rfl (.pure _)
def dT(h:HN b nodes H lv a z i): ∃x is,nodes[a]? =some x/\H[i]? =some (cz x.Entries is)/\x.Level=(lv:Int)/\(lv=0->is=[]/\x.Kids=[]/\z=a+1)/\(lv≠0->x.Kids.length=x.Entries.length+1)/\xZ (HN b nodes H (lv - 1)) x.Kids is (a+1) z:=by
 cases lv with
 |zero=>
  obtain⟨x,h1,h2,h3,h4,h5,h6⟩:=h
  exact⟨x,[],h1,h4,by simpa using h2,λ_=>⟨rfl,h3,h5⟩,λh=>absurd rfl h,by rw[h3];exact h5.symm⟩
 |succ lv=>
  obtain⟨x,is,h1,h2,h3,h4,h5,h6⟩:=h
  grind
def xZ.len{P:Nat->Nat->Nat->Prop}: ∀{ks:List Int} {is:List (Option Nat)} {a z:Nat},xZ P ks is a z->is.length=ks.length
 |[],[],a,z,hh=>rfl
 |k::ks,some i::is,a,z,hh=>by
  obtain⟨h1,m,h2,h3⟩:=hh
  simp[xZ.len h3]
 |[],some _::_,_,_,hh=>hh.elim
 |[],none::_,_,_,hh=>hh.elim
 |_::_,[],_,_,hh=>hh.elim
 |_::_,none::_,_,_,hh=>hh.elim
def cT(h:H[i]? =some (cz es is)):Ev (λf=>bH f i H) (decide (is=[])):=by
 unfold bH
 refine .ae (dA h rfl) ?_
 have:((is.length:Int)==0)=decide (is=[]):=by
  cases is<;>simp
  omega
 rw[this]
 exact .pure _
def yK: ∀(lv a z i:Nat) (c:Nat),c+lv<1000000->HN b nodes H lv a z i->gX (λf=>eW f H) ((c:Int),some i) ((c+lv:Nat):Int)
 |0,a,z,i,c,hc,h=>by
  obtain⟨x,is,h1,h2,h3,h4,h5,h6⟩:=dT h
  obtain⟨rfl,-,-⟩:=h4 rfl
  refine .stop ?_
  unfold eW
  exact .ae rfl<|.bind (cT h2)<|.f rfl (.pure _)
 |lv+1,a,z,i,c,hc,h=>by
  obtain⟨x,is,h1,h2,h3,h4,h5,h6⟩:=dT h
  have h5:=h5 (by omega)
  have hl:=h6.len
  match is,hl,h6,h2 with
  |[],hl,_,_=>simp at hl;omega
  |none::is,hl,h6,_=>
   cases hk:x.Kids with
   |nil=>rw[hk]at h5;simp at h5
   |cons k ks=>rw[hk]at h6;exact h6.elim
  |some j::is,hl,h6,h2=>
   cases hk:x.Kids with
   |nil=>rw[hk]at h5;simp at h5
   |cons k ks=>
    rw[hk]at h6
    obtain⟨_,m,hP,_⟩:=h6
    have ih:=yK lv (a+1) m j (c+1) (by omega) hP
    rw[show c+(lv+1)=c+1+lv by omega]
    refine .next ?_ ih
    unfold eW
    refine .ae rfl<|.bind (cT h2)<|.t rfl<|.ae (dA h2 rfl)<|.ae rfl ?_
    rw[cZ (by omega)]
    exact .pure _
def xt(hl:es.length<1000)(hr: ∀e∈es,e.Row.length<1000)(lv:Int): ∀(l:List Entry) (k:Nat),es.drop k=l->k<=es.length->
  gX (λf=>ey f es) (lv,es.take k,(k:Int)) (lv,es)
 |[],k,hd,hk=>by
  have hk2:es.length<=k:=by simpa using hd
  rw[m_7 hk2]
  refine .stop ?_
  unfold ey
  exact .f (mj hk2) (.pure _)
 |e::l,k,hd,hk=>by
  have hk1:k<es.length:=by
   grind
  have hek:es[k]=e:=by rw[aG hk1]at hd;exact(j_0 hd).1
  have hdl:es.drop (k+1)=l:=by rw[aG hk1]at hd;exact(j_0 hd).2
  have he:=hr e (hek▸j_1 hk1)
  refine .next ?_ (xt hl hr lv l (k+1) hdl (by omega))
  unfold ey
  refine .t (eM hk1)<|.ae (aw hk1) ?_
  rw[hek]
  refine .bind (CD e he)<|.dw (by simp[room];omega) ?_
  rw[cZ (by omega),<-hek,q_6 hk1]
  exact .pure _
def HN.lt: ∀{lv a z i:Nat},HN b nodes H lv a z i->a<z/\z<=nodes.length
 |0,a,z,i,h=>by
  obtain⟨x,h1,_,_,_,h5,_⟩:=h
  grind
 |lv+1,a,z,i,h=>by
  obtain⟨x,is,h1,h2,h3,h4,h5,h6⟩:=h
  have hk: ∀{ks:List Int} {is:List (Option Nat)} {a z:Nat},a<=nodes.length->xZ (HN b nodes H lv) ks is a z->a<=z/\z<=nodes.length:=by
   intro ks
   induction ks with
   |nil=>
    intro is a z ha hh
    cases is with
    |nil=>cases hh;exact⟨g_9 _,ha⟩
    |cons i is=>cases i<;>exact hh.elim
   |cons k ks ih=>
    intro is a z ha hh
    cases is with
    |nil=>exact hh.elim
    |cons i is=>
     cases i with
     |none=>exact hh.elim
     |some i=>
      obtain⟨_,m,q1,q2⟩:=hh
      have l1:=HN.lt q1
      grind
  grind
def oE(nodes:List Node)(a z:Nat):List Node:=(nodes.drop a).take (z - a)
def IC(h1:a<=b)(h2:b<=c):oE nodes a b++oE nodes b c=oE nodes a c:=by
 unfold oE
 rw[show c - a=(b - a)+(c - b)by omega,List.take_add,List.drop_drop,show a+(b - a)=b by omega]
def DB(h:nodes[a]? =some x)(hz:a<z):oE nodes a z=x::oE nodes (a+1) z:=by
 have ha:=(g_5.1 h).1
 have hx:nodes[a]=x:=(g_5.1 h).2
 unfold oE
 rw[aG ha,hx,show z - a=(z - (a+1))+1 by omega,List.take_succ_cons]
def Ja(l:List Node)(y:Node)(r:List Node):(l++y::r)[l.length]? =some y:=by simp
def I9(l:List Node)(y y':Node)(r:List Node):(l++y::r).set l.length y'=l++y'::r:=by simp
def xn{α:Type}{F:Nat->Nat->Option α}{g:Nat->Nat->Option α}{r:α}(h: ∀n s,F n (s+1)=g n s)(hg:Ev (λn=>g n (n - (d+1))) r):Ev (λn=>F n (n - d)) r:=by
 obtain⟨N,hN⟩:=hg
 refine⟨max N (d+1),λn hn=>?_⟩
 have:n - d=(n - (d+1))+1:=by omega
 grind
def E8(hN:Aj nodes): ∀(lv a z i:Nat) (l:List Node) (d:Nat),HN b nodes H lv a z i->l.length=a->
  Ev (λn=>kM n H (n - d) i (lv:Int) l) ((a:Int),l++oE nodes a z):=by
 intro lv
 induction lv with
 |zero=>
  intro a z i l d h hl
  obtain⟨x,is,h1,h2,h3,h4,h5,h6⟩:=dT h
  obtain⟨rfl,hk,rfl⟩:=h4 rfl
  have hxm:x∈nodes:=m_1 h1
  obtain⟨b1,b2,b3,b4⟩:=hN.2 x hxm
  have ha:=(g_5.1 h1).1
  have hN1:=hN.1
  refine xn (F:=λn s=>kM n H s i ((0:Nat):Int) l) (g:=λn s=>_) (λn s=>rfl) ?_
  refine .ae (dA h2 rfl)<|.bind (xt b1 (λe he=>(b4 e he).1) _ x.Entries 0 rfl (by omega)).ev<|.dw (by simp[room];omega)<|.ae (dA h2 rfl) ?_
  refine .bind (a:=l++[⟨((0:Nat):Int),x.Entries,[]⟩]) (gX.ev (gX.stop ?_)) ?_
  .unfold ka
   exact .f (by simp) (.pure _)
  .rw[hl,DB h1 (by omega)]
   have:oE nodes (a+1) (a+1)=[]:=by unfold oE;simp
   rw[this]
   have hx:(⟨((0:Nat):Int),x.Entries,[]⟩:Node)=x:=by
    cases x with
    |mk L E K=>simp only at h3 hk;rw[h3,hk]
   rw[hx]
   exact .pure _
 |succ lv ih=>
  intro a z i l d h hl
  obtain⟨x,is,h1,h2,h3,h4,h5,h6⟩:=dT h
  have h5:=h5 (by omega)
  have hlt:=h.lt
  have hxm:x∈nodes:=m_1 h1
  obtain⟨b1,b2,b3,b4⟩:=hN.2 x hxm
  have ha:=(g_5.1 h1).1
  have hN1:=hN.1
  have hil:=h6.len
  have kids: ∀(ks:List Int) (is':List (Option Nat)) (j aj:Nat),x.Kids.drop j=ks->is.drop j=is'->j<=x.Kids.length->a+1<=aj->xZ (HN b nodes H lv) ks is' aj z->
    gX (λn=>ka (kM n H (n - (d+1))) ((lv+1:Nat):Int) l.length is) ((j:Int),l++⟨((lv+1:Nat):Int),x.Entries,x.Kids.take j⟩::oE nodes (a+1) aj)
     (l++⟨((lv+1:Nat):Int),x.Entries,x.Kids⟩::oE nodes (a+1) z):=by
   intro ks
   induction ks with
   |nil=>
    intro is' j aj hd hd' hj haj hh
    have hj2:x.Kids.length<=j:=by simpa using hd
    cases is' with
    |cons q qs=>cases q<;>exact hh.elim
    |nil=>
     cases hh
     refine .stop ?_
     unfold ka
     rw[m_7 hj2]
     exact .f (mj (by omega)) (.pure _)
   |cons k ks ihk=>
    intro is' j aj hd hd' hj haj hh
    have hj1:j<x.Kids.length:=by
     grind
    have hj2:j<is.length:=by omega
    have hek:x.Kids[j]=k:=by rw[aG hj1]at hd;exact(j_0 hd).1
    have hdl:x.Kids.drop (j+1)=ks:=by rw[aG hj1]at hd;exact(j_0 hd).2
    cases is' with
    |nil=>exact hh.elim
    |cons q qs=>
     have hei:is[j]=q:=by rw[aG hj2]at hd';exact(j_0 hd').1
     have hdi:is.drop (j+1)=qs:=by rw[aG hj2]at hd';exact(j_0 hd').2
     cases q with
     |none=>exact hh.elim
     |some q=>
      obtain⟨hk,mm,q1,q2⟩:=hh
      have l1:=q1.lt
      have R:=ih aj mm q (l++⟨((lv+1:Nat):Int),x.Entries,x.Kids.take j⟩::oE nodes (a+1) aj) (d+1) q1 (by simp[oE,hl];omega)
      have N:=ihk qs (j+1) mm hdl hdi (by omega) (by omega) q2
      refine .next ?_ N
      unfold ka
      refine .t (eM hj2)<|.ae (aw hj2) ?_
      rw[hei,cN (x:=((lv+1:Nat):Int) - 1) (by omega) (by unfold i64 at b3;omega),show((lv+1:Nat):Int) - 1=(lv:Int)by omega,cZ (by omega)]
      refine .ae rfl<|.bind R ?_
      have e1:(l++(⟨((lv+1:Nat):Int),x.Entries,x.Kids.take j⟩:Node)::oE nodes (a+1) aj)++oE nodes aj mm=l++(⟨((lv+1:Nat):Int),x.Entries,x.Kids.take j⟩:Node)::oE nodes (a+1) mm:=by
       rw[j_2,m_5,IC (by omega) (by omega)]
      have e2:uc (l++(⟨((lv+1:Nat):Int),x.Entries,x.Kids.take j⟩:Node)::oE nodes (a+1) mm) l.length (aj:Int)=some (l++(⟨((lv+1:Nat):Int),x.Entries,x.Kids.take (j+1)⟩:Node)::oE nodes (a+1) mm):=by
       unfold uc
       rw[Ja]
       simp only[I9]
       rw[<-hk,<-hek,q_6 hj1]
       show Go.Sh.dw (decide ((x.Kids.take (j+1)).length<=room)) _=_
       rw[show decide ((x.Kids.take (j+1)).length<=room)=true by simp[room];omega]
       rfl
      show Ev (λn=>(uc ((l++(⟨((lv+1:Nat):Int),x.Entries,x.Kids.take j⟩:Node)::oE nodes (a+1) aj)++oE nodes aj mm) l.length (aj:Int)).bind _) _
      rw[e1]
      exact .ae e2 (.pure _)
  refine xn (F:=λn s=>kM n H s i ((lv+1:Nat):Int) l) (g:=λn s=>_) (λn s=>rfl) ?_
  refine .ae (dA h2 rfl)<|.bind (xt b1 (λe he=>(b4 e he).1) _ x.Entries 0 rfl (by omega)).ev<|.dw (by simp[room];omega)<|.ae (dA h2 rfl) ?_
  have K:=kids x.Kids is 0 (a+1) rfl rfl (by omega) (by omega) h6
  have e0:oE nodes (a+1) (a+1)=[]:=by unfold oE;simp
  rw[e0]at K
  refine .bind K.ev ?_
  have hx:(⟨((lv+1:Nat):Int),x.Entries,x.Kids⟩:Node)=x:=by
   cases x with
   |mk L E K=>simp only at h3;rw[h3]
  rw[hx,hl,<-DB h1 hlt.1]
  exact .pure _
def nN:List Entry->List (List Entry)->List Entry
 |[],_=>[]
 |e::es,[]=>e::nN es []
 |e::es,k::ks=>k++e::nN es ks
def fi(es:List Entry)(ks:List (List Entry)):List Entry:=nN es ks++(ks.drop es.length).flatten
def jO(nodes:List Node):Nat->Nat->List Entry
 |0,a=>match nodes[a]? with|some x=>x.Entries|none=>[]
 |lv+1,a=>match nodes[a]? with|some x=>fi x.Entries (x.Kids.map λ(k:Int)=>jO nodes lv k.toNat)|none=>[]
def vF: ∀es:List Entry,nN es []=es
 |[]=>rfl
 |e::es=>by simp[nN,vF es]
def tb: ∀(es:List Entry) (ks:List (List Entry)),(fi es ks).length=es.length+(ks.map List.length).sum
 |[],ks=>by simp[fi,nN,List.length_flatten]
 |e::es,[]=>by simp[fi,vF]
 |e::es,k::ks=>by
  have:=tb es ks
  unfold fi at this ⊢
  simp only[nN,j_3,List.drop_succ_cons,h_7,h_4,List.sum_cons]at this ⊢
  omega
def xd(h:HN b nodes H lv a z i)(hx:nodes[a]? =some x):jO nodes lv a=fi x.Entries (x.Kids.map λ(k:Int)=>jO nodes (lv - 1) k.toNat):=by
 cases lv with
 |zero=>
  obtain⟨y,h1,h2,h3,-⟩:=h
  rw[hx]at h1;cases h1
  unfold jO
  rw[hx,h3]
  simp[fi,vF]
 |succ lv=>
  show(match nodes[a]? with|some x=>fi x.Entries (x.Kids.map λ(k:Int)=>jO nodes lv k.toNat)|none=>[])=_
  rw[hx];rfl
def vt(hN:Aj nodes): ∀{lv a z i:Nat},HN b nodes H lv a z i->(jO nodes lv a).length<=1000 * (z - a):=by
 intro lv
 induction lv with
 |zero=>
  intro a z i h
  obtain⟨x,h1,h2,h3,h4,h5,h6⟩:=h
  have:=(hN.2 x (m_1 h1)).1
  unfold jO
  rw[h1,h5]
  simp only
  omega
 |succ lv ih=>
  intro a z i h
  have hlt:=h.lt
  obtain⟨x,is,h1,h2,h3,h4,h5,h6⟩:=dT h
  have hb:=(hN.2 x (m_1 h1)).1
  rw[xd h h1,tb]
  have kids: ∀{ks:List Int} {is:List (Option Nat)} {c:Nat},xZ (HN b nodes H lv) ks is c z->c<=z/\((ks.map λ(k:Int)=>jO nodes lv k.toNat).map List.length).sum<=1000 * (z - c):=by
   intro ks
   induction ks with
   |nil=>
    intro is c hh
    cases is with
    |nil=>cases hh;simp
    |cons q qs=>cases q<;>exact hh.elim
   |cons k ks ihk=>
    intro is c hh
    cases is with
    |nil=>exact hh.elim
    |cons q qs=>
     cases q with
     |none=>exact hh.elim
     |some q=>
      obtain⟨hk,mm,q1,q2⟩:=hh
      have l1:=q1.lt
      grind
  grind
def xZ.at{P:Nat->Nat->Nat->Prop}: ∀{ks:List Int} {is:List (Option Nat)} {a z:Nat} (h:xZ P ks is a z) (j:Nat) (hj:j<ks.length),∃(c m i:Nat),ks[j]? =some (c:Int)/\is[j]? =some (some i)/\P c m i
 |k::ks,some i::is,a,z,hh,0,hj=>by
  obtain⟨h1,m,h2,h3⟩:=hh
  grind
 |k::ks,some i::is,a,z,hh,j+1,hj=>by
  obtain⟨h1,m,h2,h3⟩:=hh
  obtain⟨c,m',i',e1,e2,e3⟩:=xZ.at h3 j (by simpa using hj)
  grind
 |_::_,[],_,_,hh,_,_=>hh.elim
 |_::_,none::_,_,_,hh,_,_=>hh.elim
def Ci(hN:Aj nodes): ∀(lv a z i:Nat),HN b nodes H lv a z i->Ev (λn=>gG n nodes (a:Int)) (jO nodes lv a):=by
 intro lv
 induction lv with
 |zero=>
  intro a z i h
  obtain⟨x,is,h1,h2,h3,h4,h5,h6⟩:=dT h
  obtain⟨-,hk,-⟩:=h4 rfl
  have hb:=(hN.2 x (m_1 h1)).1
  have L: ∀(l:List Entry) (k:Nat),x.Entries.drop k=l->k<=x.Entries.length->gX (λn=>eB n (gG n) nodes x) (x.Entries.take k,(k:Int)) x.Entries:=by
   intro l
   induction l with
   |nil=>
    intro k hd hk0
    have hk2:x.Entries.length<=k:=by simpa using hd
    rw[m_7 hk2]
    refine .stop ?_
    unfold eB
    exact .f (mj hk2) (.pure _)
   |cons e l ih=>
    intro k hd hk0
    have hk1:k<x.Entries.length:=by
     grind
    have hdl:x.Entries.drop (k+1)=l:=by rw[aG hk1]at hd;exact(j_0 hd).2
    refine .next ?_ (ih (k+1) hdl (by omega))
    unfold eB
    refine .t (eM hk1)<|.f (by simp[hk])<|.ae (aw hk1)<|.dw (by simp[room];omega) ?_
    rw[cZ (by omega),q_6 hk1]
    exact .pure _
  have hx:jO nodes 0 a=x.Entries:=by unfold jO;rw[h1]
  rw[hx]
  refine kH (g:=λn=>gg n (gG n) nodes (a:Int)) (λn=>rfl) ?_
  unfold gg
  exact .ae (du h1)<|.bind (L x.Entries 0 rfl (by omega)).ev<|.f (by simp[hk]) (.pure _)
 |succ lv ih=>
  intro a z i h
  have hlen:=vt hN h
  have hlt:=h.lt
  have hN1:=hN.1
  obtain⟨x,is,h1,h2,h3,h4,h5,h6⟩:=dT h
  have h5:=h5 (by omega)
  have hb:=(hN.2 x (m_1 h1)).1
  rw[xd h h1]at hlen ⊢
  simp only[Nat.add_sub_cancel]at h6 hlen ⊢
  have K: ∀j,(hj:j<x.Kids.length)->Ev (λn=>gG n nodes x.Kids[j]) (jO nodes lv x.Kids[j].toNat):=by
   intro j hj
   obtain⟨c,m,i',e1,e2,e3⟩:=h6.at j hj
   grind
  have tot: ∀(es:List Entry) (ks:List (List Entry)),(nN es ks).length<=(fi es ks).length:=λes ks=>by unfold fi;simp
  have L: ∀(l:List Entry) (k:Nat) (out:List Entry),x.Entries.drop k=l->k<=x.Entries.length->
    out.length+(nN l ((x.Kids.map λ(k:Int)=>jO nodes lv k.toNat).drop k)).length<=1000000->
    gX (λn=>eB n (gG n) nodes x) (out,(k:Int)) (out++nN l ((x.Kids.map λ(k:Int)=>jO nodes lv k.toNat).drop k)):=by
   intro l
   induction l with
   |nil=>
    intro k out hd hk0 hb2
    have hk2:x.Entries.length<=k:=by simpa using hd
    simp only[nN,p_6]
    refine .stop ?_
    unfold eB
    exact .f (mj hk2) (.pure _)
   |cons e l ihl=>
    intro k out hd hk0 hb2
    have hk1:k<x.Entries.length:=by
     grind
    have hek:x.Entries[k]=e:=by rw[aG hk1]at hd;exact(j_0 hd).1
    have hdl:x.Entries.drop (k+1)=l:=by rw[aG hk1]at hd;exact(j_0 hd).2
    have hk3:k<x.Kids.length:=by omega
    have hdk:(x.Kids.map λ(k:Int)=>jO nodes lv k.toNat).drop k=jO nodes lv x.Kids[k].toNat::(x.Kids.map λ(k:Int)=>jO nodes lv k.toNat).drop (k+1):=by
     rw[aG (by simpa using hk3)];simp
    rw[hdk]at hb2 ⊢
    simp only[nN,h_7,j_3]at hb2 ⊢
    have N:=ihl (k+1) (out++jO nodes lv x.Kids[k].toNat++[e]) hdl (by omega) (by simp;omega)
    rw[show out++(jO nodes lv x.Kids[k].toNat++e::nN l ((x.Kids.map λ(k:Int)=>jO nodes lv k.toNat).drop (k+1)))=out++jO nodes lv x.Kids[k].toNat++[e]++nN l ((x.Kids.map λ(k:Int)=>jO nodes lv k.toNat).drop (k+1))by simp]
    refine .next ?_ N
    unfold eB
    refine .t (eM hk1)<|.t (by simp;omega)<|.ae (aw hk3)<|.bind (K k hk3)<|.dw (by simp[room];omega)<|.ae (aw hk1) ?_
    rw[hek,cZ (by omega)]
    exact .dw (by simp[room];omega) (.pure _)
  have hL:=L x.Entries 0 [] rfl (by omega) (by
   grind)
  simp only[q_4,m_3]at hL
  have hlast:x.Entries.length<x.Kids.length:=by omega
  have hfin:fi x.Entries (x.Kids.map λ(k:Int)=>jO nodes lv k.toNat)=nN x.Entries (x.Kids.map λ(k:Int)=>jO nodes lv k.toNat)++jO nodes lv (x.Kids[x.Entries.length]'hlast).toNat:=by
   unfold fi
   rw[aG (by simpa using hlast),List.drop_eq_nil_of_le (by simp;omega)]
   simp
  rw[hfin]at hlen ⊢
  refine kH (g:=λn=>gg n (gG n) nodes (a:Int)) (λn=>rfl) ?_
  unfold gg
  refine .ae (du h1)<|.bind hL.ev<|.t (by simp;omega) ?_
  rw[cN (by omega) (by grind),show(x.Kids.length:Int) - 1=(x.Entries.length:Int)by omega]
  refine .ae (aw hlast)<|.bind (K _ hlast)<|.dw ?_ (.pure _)
  simp only[h_7,room,decide_eq_true_eq]at hlen ⊢
  omega
def vE(e:Entry)(es:List Entry): ∀ks:List (List Entry),fi (e::es) ks=ks.headD []++e::fi es ks.tail
 |[]=>by simp[fi,nN]
 |k::ks=>by simp[fi,nN]
def EF: ∀ks:List (List Entry),ks.length<=1->fi [] ks=ks.headD []
 |[],_=>rfl
 |[k],_=>by simp[fi,nN]
 |_::_::_,h=>by simp at h
def Kp(H:Hp)(l:List Entry):Hp:=(H++[.cells [.own 3 (l.map ab)]])++[.hole]
def rq{H:Hp}{l:List Entry}{i:Nat}{o:aD}(h:H[i]? =some o):(Kp H l)[i]? =some o:=by
 have hi:=(g_5.1 h).1
 unfold Kp
 grind
def CT:(Kp H l)[H.length]? =some (.cells [.own 3 (l.map ab)]):=by
 unfold Kp
 grind
def KQ:(Kp H l).set H.length (.cells [.own 3 (l'.map ab)])=Kp H l':=by
 unfold Kp
 simp
def JA(hq:q1.2=H.length)(he:e.Row.length<1000)(hl:l.length<1000000):Ev (λn=>(cF n q1 e (Kp H l)).map (Prod.mk true)) (true,Kp H (l++[e])):=by
 have key:Ev (λn=>cF n q1 e (Kp H l)) (Kp H (l++[e])):=by
  unfold cF
  rw[hq]
  have ht:cw 3 ax (Kp H l) H.length 0=some (l,(Kp H l).set H.length (.cells [.undef])):=me CT rfl
  have hg:bT 3 ax ((Kp H l).set H.length (.cells [.undef])) H.length 0 (l++[e])=some (Kp H (l++[e])):=by
   have e0:=KQ (H:=H) (l:=l) (l':=l++[e])
   rw[gw (cA CT) (by simp),m_6,<-e0]
   rfl
  exact .ae ht<|.bind (CD e he)<|.dw (by simp[room];omega)<|.ae hg (.pure _)
 obtain⟨N,hN⟩:=key
 exact⟨N,λn hn=>by grind⟩
def HW{b:Nat}{nodes:List Node}{H:Hp}{q1:Hp×Nat}(hq:q1.2=H.length)(hN:Aj nodes): ∀(lv a z i:Nat) (l:List Entry) (d:Nat),HN b nodes H lv a z i->l.length+(jO nodes lv a).length<1000000->
  Ev (λn=>ew n (λe H=>(cF n q1 e H).map (Prod.mk true)) (n - d) i (Kp H l)) (true,Kp H (l++jO nodes lv a)):=by
 intro lv
 induction lv using Nat.strongRecOn with
 |ind lv ih=>
  intro a z i l0 d h hlen
  obtain⟨x,is,h1,h2,h3,h4,h5,h6⟩:=dT h
  obtain⟨hb,hb2,hb3,hb4⟩:=hN.2 x (m_1 h1)
  rw[xd h h1]at hlen ⊢
  have hil:=h6.len
  let kl:List (List Entry):=x.Kids.map λ(k:Int)=>jO nodes (lv - 1) k.toNat
  have hkl:kl.length=x.Kids.length:=by simp[kl]
  have hk01:x.Kids.length=0\/x.Kids.length=x.Entries.length+1:=by
   grind
  have qst: ∀(k:Nat) (l:List Entry),k<=x.Entries.length->l.length+((kl.drop k).headD []).length<1000000->
    Ev (λn=>cond (decide (is=[])) (some (true,Kp H l)) ((aW 1 cP (Kp H l) i 1).bind λks=>(idx ks (k:Int)).bind λkk=>kk.bind λkk=>ew n (λe H=>(cF n q1 e H).map (Prod.mk true)) (n - (d+1)) kk (Kp H l))) (true,Kp H (l++(kl.drop k).headD [])):=by
   intro k l hk hl
   by_cases he:is=[]
   .have hk0:kl=[]:=by
     grind
    rw[hk0]
    refine .t (by simp[he]) ?_
    simp only[List.drop_nil,List.headD_nil,p_6]
    exact .pure _
   .have hne:is.length≠0:=λe=>he (q_0.1 e)
    have hkk:k<x.Kids.length:=by omega
    have hlv:lv≠0:=λe=>he (h4 e).1
    obtain⟨c,m,i',e1,e2,e3⟩:=h6.at k hkk
    rw[h_6 hkk,g_4]at e1
    have hd:(kl.drop k).headD []=jO nodes (lv - 1) c:=by
     rw[aG (by omega)]
     simp[kl,e1]
    rw[hd]at hl ⊢
    exact .f (by simp[he])<|.ae (dA (rq h2) rfl)<|.ae (du e2)<|.ae rfl<|ih (lv - 1) (by omega) c m i' l (d+1) e3 hl
  have L: ∀(es:List Entry) (k:Nat) (l:List Entry),x.Entries.drop k=es->k<=x.Entries.length->l.length+(fi es (kl.drop k)).length<1000000->
    gX (λn=>cD n (λe H=>(cF n q1 e H).map (Prod.mk true)) (ew n (λe H=>(cF n q1 e H).map (Prod.mk true)) (n - (d+1))) i (((x.Entries.length+1:Nat):Int))) ((k:Int),Kp H l) (true,Kp H (l++fi es (kl.drop k))):=by
   intro es
   induction es with
   |nil=>
    intro k l hd hk hl
    have hk2:k=x.Entries.length:=by
     have:x.Entries.length<=k:=by simpa using hd
     omega
    have hw:fi [] (kl.drop k)=(kl.drop k).headD []:=EF _ (by simp;omega)
    rw[hw]at hl ⊢
    refine .next (y:=(((k+1:Nat):Int),Kp H (l++(kl.drop k).headD []))) ?_ (.stop ?_)
    .unfold cD
     refine .t (eM (by omega))<|.bind (cT (rq h2))<|.bind (qst k l hk hl)<|.t rfl<|.ae (dA (rq h2) rfl)<|.f (mj (by omega)) ?_
     rw[cZ (by omega)]
     exact .pure _
    .unfold cD
     exact .f (mj (by omega)) (.pure _)
   |cons e es ihe=>
    intro k l hd hk hl
    have hk1:k<x.Entries.length:=by
     grind
    have hek:x.Entries[k]=e:=by rw[aG hk1]at hd;exact(j_0 hd).1
    have hdl:x.Entries.drop (k+1)=es:=by rw[aG hk1]at hd;exact(j_0 hd).2
    have he:=(hb4 e (hek▸j_1 hk1)).1
    have htl:(kl.drop k).tail=kl.drop (k+1):=by simp
    rw[vE,htl]at hl ⊢
    simp only[h_7,j_3]at hl
    have N:=ihe (k+1) (l++(kl.drop k).headD []++[e]) hdl (by omega) (by grind)
    rw[show l++((kl.drop k).headD []++e::fi es (kl.drop (k+1)))=l++(kl.drop k).headD []++[e]++fi es (kl.drop (k+1))by simp]
    refine .next ?_ N
    unfold cD
    refine .t (eM (by omega))<|.bind (cT (rq h2))<|.bind (qst k l hk (by omega))<|.t rfl<|.ae (dA (rq h2) rfl)<|.t (eM hk1)<|.ae (aw hk1) ?_
    rw[hek,cZ (by omega)]
    exact .bind (JA hq he (by grind))<|.t rfl (.pure _)
  have L0:=L x.Entries 0 l0 rfl (by omega) hlen
  refine xn (F:=λn s=>ew n (λe H=>(cF n q1 e H).map (Prod.mk true)) s i (Kp H l0)) (g:=λn s=>_) (λn s=>rfl) ?_
  refine .ae (dA (rq h2) rfl) ?_
  rw[cZ (by omega)]
  exact L0.ev
def FU{nodes:List Node}{H:Hp}{s:ak}{order last:Int}: ∀(d a:Nat) (lv:Int) (lo hi:Option Entry) (met:List Int) (z:Nat) (met':List Int) (l z' i:Nat),
  wk s order last nodes d a lv lo hi met=.inr (z,met')->HN b nodes H l a z' i->z'=z/\met'.length=met.length+(jO nodes l a).length:=by
 intro d
 induction d with
 |zero=>intro a lv lo hi met z met' l z' i h _;cases h
 |succ d ih=>
  intro a lv lo hi met z met' l z' i h hh
  obtain⟨x,is,h1,h2,h3,h4,h5,h6⟩:=dT hh
  have hw:wk s order last nodes (d+1) a lv lo hi met=(match qf s order last (a==0) lv lo hi met x with
   |none=>.inl a
   |some met'=>oV nodes (wk s order last nodes d) a x lo hi x.Kids 0 (a+1) met'):=by
   show(match nodes[a]? with|none=>Sum.inl a|some x=>match qf s order last (a==0) lv lo hi met x with|none=>Sum.inl a|some met'=>oV nodes (wk s order last nodes d) a x lo hi x.Kids 0 (a+1) met')=_
   rw[h1]
  rw[hw]at h
  rw[xd hh h1,tb]
  cases ho:qf s order last (a==0) lv lo hi met x with
  |none=>rw[ho]at h;cases h
  |some m1=>
   rw[ho]at h
   have hm1:=wJ (DJ ho).2.2.2.2.2
   have kids: ∀(ks:List Int) (is:List (Option Nat)) (j c:Nat) (m2:List Int),xZ (HN b nodes H (l - 1)) ks is c z'->oV nodes (wk s order last nodes d) a x lo hi ks j c m2=.inr (z,met')->
     z'=z/\met'.length=m2.length+((ks.map λ(k:Int)=>jO nodes (l - 1) k.toNat).map List.length).sum:=by
    intro ks
    induction ks with
    |nil=>
     intro is j c m2 hK hW
     cases is with
     |cons q qs=>cases q<;>exact hK.elim
     |nil=>
      cases hK
      simp only[oV,Sum.inr.injEq,g_8]at hW
      grind
    |cons k ks ihk=>
     intro is j c m2 hK hW
     cases is with
     |nil=>exact hK.elim
     |cons q qs=>
      cases q with
      |none=>exact hK.elim
      |some q=>
       obtain⟨hk,mm,q1,q2⟩:=hK
       simp only[oV]at hW
       grind
   grind
structure xG(s:ak)(order last:Int)(nodes:List Node)(lv:Nat)(H:Hp)(tr:Nat):Prop where
 ob: ∃root,H[tr]? =some (gY s order (some root) last ((jO nodes lv 0).length:Nat))/\
  ∃b,HN b nodes H lv 0 nodes.length root
section
variable {s:ak} {order last:Int} {nodes:List Node} {lv:Nat} {H:Hp} {tr:Nat}
def xG.app(h:xG s order last nodes lv H tr)(H':Hp)(hf: ∀(j:Nat) (o:aD),H[j]? =some o->H'[j]? =some o):xG s order last nodes lv H' tr:=by
 obtain⟨root,h1,b,h2⟩:=h.ob
 exact⟨root,hf _ _ h1,b,h2.frame λj _ hj=>by grind⟩
def Hw(h:xG s order last nodes lv H tr):Ev (λf=>ju f tr H) ((jO nodes lv 0).length:Nat):=by
 obtain⟨root,h1,b,h2⟩:=h.ob
 unfold ju
 exact .ae (bU (r:=[]) h1 rfl) (.pure _)
def DU(h:xG s order last nodes lv H tr):Ev (λf=>iW f tr H) last:=by
 obtain⟨root,h1,b,h2⟩:=h.ob
 unfold iW
 exact .ae (bU (r:=[.d (.int .i64 ((jO nodes lv 0).length:Nat))]) h1 rfl) (.pure _)
def HN.AZ{nodes:List Node}{H:Hp}: ∀{lv a z i:Nat},HN b nodes H lv a z i->a+lv<z
 |0,a,z,i,h=>by have:=h.lt;omega
 |lv+1,a,z,i,h=>by
  obtain⟨x,is,h1,h2,h3,h4,h5,h6⟩:=dT h
  have h5:=h5 (by omega)
  have mono: ∀{ks:List Int} {is:List (Option Nat)} {u v:Nat},xZ (HN b nodes H lv) ks is u v->u<=v:=by
   intro ks
   induction ks with
   |nil=>
    intro is u v hh
    cases is with
    |nil=>cases hh;exact g_9 _
    |cons q qs=>cases q<;>exact hh.elim
   |cons k ks ihk=>
    intro is u v hh
    cases is with
    |nil=>exact hh.elim
    |cons q qs=>
     cases q with
     |none=>exact hh.elim
     |some q=>
      obtain⟨_,m3,r1,r2⟩:=hh
      have:=r1.lt
      have:=ihk r2
      omega
  cases hk:x.Kids with
  |nil=>rw[hk]at h5;simp at h5
  |cons k ks=>
   rw[hk]at h6
   match is,h6 with
   |some q::qs,h6=>
    obtain⟨g1,mm,g2,g3⟩:=h6
    have:=HN.AZ g2
    have:=mono g3
    omega
def wQ(hN:Aj nodes)(h:xG s order last nodes lv H tr):Ev (λf=>fL f tr H) ((1+lv:Nat):Int):=by
 obtain⟨root,h1,b,h2⟩:=h.ob
 have:=h2.AZ
 have hN1:=hN.1
 unfold fL
 exact .ae (bU (r:=[.d (.int .i64 last),.d (.int .i64 ((jO nodes lv 0).length:Nat))]) h1 rfl)<|.bind (yK lv 0 nodes.length root 1 (by omega) h2).ev (.pure _)
def tG(hN:Aj nodes)(h:xG s order last nodes lv H tr):Ev (λf=>fw f tr H) (nodes,H++[aD.hole,aD.hole]):=by
 obtain⟨root,h1,b,h2⟩:=h.ob
 have hlv:=h2.AZ
 have hN1:=hN.1
 have htr:=(g_5.1 h1).1
 have f1: ∀(j:Nat) (o:aD),H[j]? =some o->((H++[aD.hole,aD.hole]).set H.length (aD.cells [.own 3 []]))[j]? =some o:=λj o hj=>by
  grind
 have f2: ∀(j:Nat) (o:aD),H[j]? =some o->(H++[aD.hole,aD.hole])[j]? =some o:=λj o hj=>by
  grind
 have T1:=h.app _ f1
 have h3:HN b nodes (H++[aD.hole,aD.hole]) lv 0 nodes.length root:=h2.frame λj _ hj=>by grind
 have R:=E8 hN lv 0 nodes.length root [] 0 h3 rfl
 have hseg:([]:List Node)++oE nodes 0 nodes.length=nodes:=by simp[oE]
 rw[hseg]at R
 unfold fw
 refine .ae (bU (r:=[.d (.int .i64 last),.d (.int .i64 ((jO nodes lv 0).length:Nat))]) (f1 _ _ h1) rfl)<|.ae rfl<|.bind (wQ hN T1) ?_
 rw[cN (by omega) (by omega),show((1+lv:Nat):Int) - 1=(lv:Int)by omega]
 exact .bind R (.pure _)
end
set_option maxRecDepth 100000
def yZ(v:Value):fK v v=0:=by
 unfold fK
 split
 .omega
 .have:=sQ v.S v.S
  omega
def tY(hl:r.length<1000)(ho: ∀v∈r,vg v=true):Ev (λf=>eu f r r) 0:=by
 have L: ∀(l:List Value) (k:Nat),r.drop k=l->k<=r.length->gX (λf=>bF f r r) (k:Int) (.inl ()):=by
  intro l
  induction l with
  |nil=>
   intro k hd hk
   have hk2:r.length<=k:=by simpa using hd
   refine .stop ?_
   unfold bF
   exact .aP<|.f (mj hk2)<|.f rfl (.pure _)
  |cons v l ih=>
   intro k hd hk
   have hk1:k<r.length:=by
    grind
   have hdl:r.drop (k+1)=l:=by rw[aG hk1]at hd;exact(j_0 hd).2
   have hv:=ho _ (j_1 hk1)
   have C:=rE hv hv rfl
   rw[yZ]at C
   refine .next ?_ (ih (k+1) hdl (by omega))
   unfold bF
   refine .aP<|.t (eM hk1)<|.t (eM hk1)<|.ae (aw hk1)<|.ae (aw hk1)<|.bind C<|.f rfl ?_
   rw[cZ (by omega)]
   exact .pure _
 unfold eu
 refine .bind (L r 0 rfl (by omega)).ev<|.bind (a:=0) (.of λn=>?_) (.pure _)
 rw[vo]
 simp[p9]
def Ct(hl:l.length<1000000)(ho: ∀e∈l,e.Row.length<1000/\ ∀v∈e.Row,vg v=true):Ev (λf=>fO f l l) true:=by
 have L: ∀(q:List Entry) (k:Nat),l.drop k=q->k<=l.length->gX (λf=>fc f l l) (k:Int) (.inl ()):=by
  intro q
  induction q with
  |nil=>
   intro k hd hk
   have hk2:l.length<=k:=by simpa using hd
   refine .stop ?_
   unfold fc
   exact .f (mj hk2) (.pure _)
  |cons v q ih=>
   intro k hd hk
   have hk1:k<l.length:=by
    grind
   have hdl:l.drop (k+1)=q:=by rw[aG hk1]at hd;exact(j_0 hd).2
   obtain⟨hv1,hv2⟩:=ho _ (j_1 hk1)
   refine .next ?_ (ih (k+1) hdl (by omega))
   unfold fc
   refine .t (eM hk1)<|.ae (aw hk1)<|.ae (aw hk1)<|.f (by simp)<|.ae (aw hk1)<|.ae (aw hk1)<|.f (by simp)<|.ae (aw hk1)<|.ae (aw hk1) ?_
   have S:Ev (λf=>hU f l[k].Row l[k].Row) true:=by
    unfold hU
    exact .bind (tY hv1 hv2) (.pure _)
   refine .bind S<|.f rfl ?_
   rw[cZ (by omega)]
   exact .pure _
 unfold fO
 exact .f (by simp)<|.bind (L l 0 rfl (by omega)).ev (.pure _)
def Cs(hl:l.length<1000000):Ev (λf=>jy f l l) true:=by
 have L: ∀(q:List Int) (k:Nat),l.drop k=q->k<=l.length->gX (λf=>fH f l l) (k:Int) (.inl ()):=by
  intro q
  induction q with
  |nil=>
   intro k hd hk
   have hk2:l.length<=k:=by simpa using hd
   refine .stop ?_
   unfold fH
   exact .f (mj hk2) (.pure _)
  |cons v q ih=>
   intro k hd hk
   have hk1:k<l.length:=by
    grind
   have hdl:l.drop (k+1)=q:=by rw[aG hk1]at hd;exact(j_0 hd).2
   refine .next ?_ (ih (k+1) hdl (by omega))
   unfold fH
   refine .t (eM hk1)<|.ae (aw hk1)<|.ae (aw hk1)<|.f (by simp) ?_
   rw[cZ (by omega)]
   exact .pure _
 unfold jy
 exact .f (by simp)<|.bind (L l 0 rfl (by omega)).ev (.pure _)
def Gw(hl:t.dG.length<1000000):Ev (λf=>kQ f t) (t.dG.map (·.Key)):=by
 have L: ∀(q:List Entry) (k:Nat),t.dG.drop k=q->k<=t.dG.length->gX (λf=>gk f t) ((t.dG.take k).map (·.Key),(k:Int)) (t.dG.map (·.Key)):=by
  intro q
  induction q with
  |nil=>
   intro k hd hk
   have hk2:t.dG.length<=k:=by simpa using hd
   rw[m_7 hk2]
   refine .stop ?_
   unfold gk
   exact .f (mj hk2) (.pure _)
  |cons v q ih=>
   intro k hd hk
   have hk1:k<t.dG.length:=by
    grind
   have hdl:t.dG.drop (k+1)=q:=by rw[aG hk1]at hd;exact(j_0 hd).2
   refine .next ?_ (ih (k+1) hdl (by omega))
   unfold gk
   refine .t (eM hk1)<|.ae (aw hk1)<|.dw (by simp[room];omega) ?_
   rw[cZ (by omega),show(t.dG.take k).map (·.Key)++[t.dG[k].Key]=(t.dG.take (k+1)).map (·.Key)by rw[<-q_6 hk1,k_1];rfl]
   exact .pure _
 unfold kQ
 exact .bind (L t.dG 0 rfl (by omega)).ev (.pure _)
section
variable {s:ak} {order last:Int} {nodes:List Node} {lv:Nat} {H:Hp} {tr:Nat}
def HV(hN:Aj nodes)(h:xG s order last nodes lv H tr): ∃H',Ev (λf=>j9 f tr H) (jO nodes lv 0,H')/\ ∀(j:Nat) (o:aD),H[j]? =some o->H'[j]? =some o:=by
 obtain⟨root,h1,b,h2⟩:=h.ob
 have hlen:=vt hN h2
 have hN1:=hN.1
 have f1: ∀(j:Nat) (o:aD),H[j]? =some o->(H++[.cells [.own 3 (List.map ab ([]:List Entry))]])[j]? =some o:=λj o hj=>by
  grind
 have A:=HW (q1:=(H++[.cells [.own 3 (List.map ab ([]:List Entry))]],H.length)) rfl hN lv 0 nodes.length root [] 0 h2 (by simp;omega)
 simp only[m_3,Nat.sub_zero]at A
 refine⟨(Kp H (jO nodes lv 0)).set H.length (.cells [.undef]),?_,λj o hj=>?_⟩
 .unfold j9
  refine .ae rfl<|.ae (bU (r:=[.d (.int .i64 last),.d (.int .i64 ((jO nodes lv 0).length:Nat))]) (f1 _ _ h1) rfl)<|.ae rfl<|.bind (.of λn=>rfl) ?_
  have B:Ev (λf=>js f (cF f (H++[.cells [.own 3 (List.map ab ([]:List Entry))]],H.length)) (some root) (H++[.cells [.own 3 (List.map ab ([]:List Entry))]])) (Kp H (jO nodes lv 0)):=by
   unfold js tq
   exact .ae rfl<|.bind A<|.t rfl (.pure _)
  have ht:cw 3 ax (Kp H (jO nodes lv 0)) H.length 0=some (jO nodes lv 0,(Kp H (jO nodes lv 0)).set H.length (.cells [.undef])):=me CT rfl
  exact .bind B<|.ae ht (.pure _)
 .have:=(g_5.1 hj).1
  rw[gd (by omega)]
  exact rq hj
def Gg(hN:Aj nodes)(h:xG s order last nodes lv H tr): ∃H',Ev (λf=>iX f tr H) ((jO nodes lv 0).map (·.Key),H')/\ ∀(j:Nat) (o:aD),H[j]? =some o->H'[j]? =some o:=by
 obtain⟨H',A,f3⟩:=HV hN h
 obtain⟨root,h1,b,h2⟩:=h.ob
 have hlen:=vt hN h2
 have hN1:=hN.1
 generalize jO nodes lv 0=l at A hlen
 have L: ∀(q:List Entry) (k:Nat),l.drop k=q->k<=l.length->gX (λf=>fZ f (l,H')) ((l.take k).map (·.Key),(k:Int),H') (l.map (·.Key),H'):=by
  intro q
  induction q with
  |nil=>
   intro k hd hk
   have hk2:l.length<=k:=by simpa using hd
   rw[m_7 hk2]
   refine .stop ?_
   unfold fZ
   exact .f (mj hk2) (.pure _)
  |cons v q ih=>
   intro k hd hk
   have hk1:k<l.length:=by
    grind
   have hdl:l.drop (k+1)=q:=by rw[aG hk1]at hd;exact(j_0 hd).2
   refine .next ?_ (ih (k+1) hdl (by omega))
   unfold fZ
   refine .t (eM hk1)<|.ae (aw hk1)<|.dw (by simp[room];omega) ?_
   rw[cZ (by omega),show(l.take k).map (·.Key)++[l[k].Key]=(l.take (k+1)).map (·.Key)by rw[<-q_6 hk1,k_1];rfl]
   exact .pure _
 refine⟨H',?_,f3⟩
 unfold iX
 exact .bind A<|.bind (L l 0 rfl (by omega)).ev (.pure _)
end
set_option maxRecDepth 100000
def Ho(h:nG s e=true): ∀v∈e.Row,vg v=true:=by
 have hf:=mB h
 have hl:=ee hf
 intro v hv
 obtain⟨j,hj,rfl⟩:=List.getElem_of_mem hv
 exact(jI hf j (by omega) hj).2
def Gv(hN:Aj nodes)(hk:s.aq.length<1000)(hw:nI s order last nodes=(-1,0))(h:HN b nodes H lv 0 z root):
  Ev (λf=>wz f s order last nodes) ((⟨s,order,jO nodes lv 0,last⟩:Tree),-1,0):=by
 unfold wz
 have R:=EX s order last nodes hN hk
 rw[hw]at R
 exact .bind R<|.f rfl<|.bind (Ci hN lv 0 z root h) (.pure _)
def HX(hN:Aj nodes)(hk:s.aq.length<1000)(hw:nI s order last nodes=(-1,0))(h:xG s order last nodes lv H tr)
  (hes: ∀e∈jO nodes lv 0,e.Row.length<1000/\ ∀v∈e.Row,vg v=true): ∃H',Ev (λf=>iD f tr (⟨s,order,jO nodes lv 0,last⟩:Tree) H) (true,H')/\ ∀(j:Nat) (o:aD),H[j]? =some o->H'[j]? =some o:=by
 obtain⟨root,h1,b,h2⟩:=h.ob
 have hlen:=vt hN h2
 have hN1:=hN.1
 have hlv:=h2.AZ
 obtain⟨x,is,x1,x2,x3,-⟩:=dT h2
 have f2: ∀(j:Nat) (o:aD),H[j]? =some o->(H++[aD.hole,aD.hole])[j]? =some o:=λj o hj=>by
  grind
 have T1:=h.app _ f2
 obtain⟨H2,A,f3⟩:=HV hN T1
 have T2:=T1.app _ f3
 obtain⟨H3,K,f4⟩:=Gg hN T2
 refine⟨H3,?_,λj o hj=>f4 _ _ (f3 _ _ (f2 _ _ hj))⟩
 have S:=Ct (l:=jO nodes lv 0) (by omega) hes
 unfold iD
 refine .bind (tG hN h)<|.bind (Gv hN hk hw h2)<|.aP<|.f rfl<|.bind S<|.f rfl<|.bind (wQ hN T1)<|.ae (du (k:=0) x1) ?_
 rw[x3,cN (by omega) (by omega)]
 rw[show((((1+lv:Nat):Int)) !=(lv:Int)+1)=false from bne_eq_false_iff_eq.2 (by omega)]
 refine .f rfl<|.bind (Hw T1)<|.t (by simp)<|.bind (DU T1)<|.t (by simp)<|.bind A<|.bind S<|.t rfl<|.bind K<|.bind (Gw (show(jO nodes lv 0).length<1000000 by omega)) ?_
 exact .bind (Cs (by simp;omega)) (.pure _)
section
variable {α:Type}
def wp:List α->List (List α)->List α
 |a::A,c::C=>c++a::wp A C
 |_,_=>[]
def ws:List α->List (List α)->List α
 |b::B,d::D=>b::(d++ws B D)
 |_,_=>[]
def wv:List α->List (List α)->List α
 |es,[]=>es
 |es,k::ks=>k++ws es ks
def zm: ∀{A B:List α} {C D:List (List α)} {k:List α},A.length=C.length->wv (A++B) (C++k::D)=wp A C++(k++ws B D)
 |[],B,[],D,k,_=>rfl
 |a::A,B,c::C,D,k,h=>by
  have ih:=zm (A:=A) (B:=B) (C:=C) (D:=D) (k:=k) (by simpa using h)
  match C,ih with
  |[],ih=>
   match A,h with
   |[],_=>simp[wv,ws,wp]
  |c'::C,ih=>simp only[wv,m_5,ws,wp,j_2]at ih ⊢;rw[ih]
def zL{x:α}: ∀{A:List α} {C:List (List α)},A.length=C.length->(x∈wp A C<->x∈A\/ ∃c∈C,x∈c)
 |[],[],_=>by simp[wp]
 |a::A,c::C,h=>by
  have:=zL (x:=x) (A:=A) (C:=C) (by simpa using h)
  simp only[wp,k_7,h_9,this,exists_eq_or_imp]
  grind
def tK{x:α}: ∀{A:List α} {C:List (List α)},A.length=C.length->(x∈ws A C<->x∈A\/ ∃c∈C,x∈c)
 |[],[],_=>by simp[ws]
 |a::A,c::C,h=>by
  have:=tK (x:=x) (A:=A) (C:=C) (by simpa using h)
  simp only[ws,k_7,h_9,this,exists_eq_or_imp]
  grind
def zK{x:α}{es:List α}{ks:List (List α)}(h:ks.length=es.length+1):x∈wv es ks<->x∈es\/ ∃k∈ks,x∈k:=by
 match ks,h with
 |k::ks,h=>
  have:=tK (x:=x) (A:=es) (C:=ks) (by simpa using h.symm)
  simp only[wv,k_7,this,h_9,exists_eq_or_imp]
  grind
def JN{R:α->α->Prop}{p:α->Prop}: ∀{A:List α} {C:List (List α)},A.length=C.length->(wp A C).Pairwise R->(∀a∈A,p a)->(∀x y,x∈wp A C->y∈A->R x y->p y->p x)-> ∀x∈wp A C,p x
 |[],[],_,_,_,_,x,hx=>by simp[wp]at hx
 |a::A,c::C,h,hp,hA,ht,x,hx=>by
  simp only[wp,j_9,j_6,k_7,h_9]at hp hx ht
  rcases hx with hx|rfl|hx
  .exact ht x a (.inl hx) (by simp) (hp.2.2 x hx a (.inl rfl)) (hA a (by simp))
  .exact hA x (by simp)
  .exact JN (by simpa using h) hp.2.1.2 (λa ha=>hA a (by simp[ha])) (λx y hx hy=>ht x y (.inr (.inr hx)) (by simp[hy])) x hx
def LU{R:α->α->Prop}{p:α->Prop}: ∀{A:List α} {C:List (List α)},A.length=C.length->(ws A C).Pairwise R->(∀a∈A,p a)->(∀x y,x∈A->y∈ws A C->R x y->p x->p y)-> ∀x∈ws A C,p x
 |[],[],_,_,_,_,x,hx=>by simp[ws]at hx
 |a::A,c::C,h,hp,hA,ht,x,hx=>by
  simp only[ws,j_9,j_6,k_7,h_9]at hp hx ht
  grind
def ins(c:α->Int)(e:α)(l:List α):List α:=l.filter (λx=>decide (c x<0))++e::l.filter (λx=>decide (0<c x))
def del(c:α->Int)(l:List α):List α:=l.filter λx=>c x !=0
def DY{c:α->Int}{e:α}{P k S:List α}(hP: ∀x∈P,c x<0)(hS: ∀x∈S,0<c x):ins c e (P++(k++S))=P++(ins c e k++S):=by
 have h1:P.filter (λx=>decide (c x<0))=P:=w_6.2 λx hx=>by simpa using hP x hx
 have h2:P.filter (λx=>decide (0<c x))=[]:=List.filter_eq_nil_iff.2 λx hx=>by have:=hP x hx;simp;omega
 have h3:S.filter (λx=>decide (c x<0))=[]:=List.filter_eq_nil_iff.2 λx hx=>by have:=hS x hx;simp;omega
 have h4:S.filter (λx=>decide (0<c x))=S:=w_6.2 λx hx=>by simpa using hS x hx
 simp[ins,h1,h2,h3,h4]
def Ei{c:α->Int}{P k S:List α}(hP: ∀x∈P,c x≠0)(hS: ∀x∈S,c x≠0):del c (P++(k++S))=P++(del c k++S):=by
 have h1:P.filter (λx=>c x !=0)=P:=w_6.2 λx hx=>by simpa using hP x hx
 have h2:S.filter (λx=>c x !=0)=S:=w_6.2 λx hx=>by simpa using hS x hx
 simp[del,h1,h2]
def rD{l:List α}(h:i<l.length):l=l.take i++l[i]::l.drop (i+1):=by
 simp_all
end
set_option maxRecDepth 100000
def qK(h:List.map ab a=List.map ab b):a=b:=by
 have h1:=lu ax a
 have h2:=lu ax b
 rw[show a.map ax.enc=b.map ax.enc from h,h2]at h1
 exact(Option.some.inj h1).symm
inductive AT where
 |nd (i:Nat) (es:List Entry) (ks:List AT)
def AT.ad:AT->Nat|.nd i _ _=>i
def AT.es:AT->List Entry|.nd _ es _=>es
def AT.ks:AT->List AT|.nd _ _ ks=>ks
def AT.fl:Nat->AT->List Entry
 |0,.nd _ es _=>es
 |l+1,.nd _ es ks=>wv es (ks.map (AT.fl l))
def AT.ft:Nat->AT->List Nat
 |0,.nd i _ _=>[i]
 |l+1,.nd i _ ks=>i::(ks.map (AT.ft l)).flatten
def AT.hd(H:Hp):Nat->AT->Prop
 |0,.nd i es ks=>ks=[]/\H[i]? =some (cz es [])
 |l+1,.nd i es ks=>ks.length=es.length+1/\H[i]? =some (cz es (ks.map λk=>some k.ad))/\ ∀k∈ks,AT.hd H l k
def AT.bl(m o:Nat):Nat->AT->Prop
 |0,_=>True
 |l+1,.nd _ _ ks=> ∀k∈ks,m<=k.es.length/\k.es.length<=o/\AT.bl m o l k
def AT.hd.self: ∀{l:Nat} {a:AT},a.hd H l->H[a.ad]? =some (cz a.es (a.ks.map λk=>some k.ad))
 |0,.nd i es ks,h=>by obtain⟨rfl,h⟩:=h;exact h
 |l+1,.nd i es ks,h=>h.2.1
def AT.lk: ∀{l:Nat} {a:AT},a.ad∈a.ft l
 |0,.nd i es ks=>by simp[AT.ft,AT.ad]
 |l+1,.nd i es ks=>by simp[AT.ft,AT.ad]
def AT.hd.lt: ∀{l:Nat} {a:AT},a.hd H l-> ∀j∈a.ft l,j<H.length
 |0,.nd i es ks,h,j,hj=>by
  simp only[AT.ft,w_1]at hj;subst hj
  exact(g_5.1 h.2).1
 |l+1,.nd i es ks,h,j,hj=>by
  simp only[AT.ft,h_9,List.mem_flatten,v_9]at hj
  rcases hj with rfl|⟨_,⟨k,hk,rfl⟩,hj⟩
  .exact(g_5.1 h.2.1).1
  .exact(h.2.2 k hk).lt j hj
def AT.hd.fr: ∀{l:Nat} {a:AT},a.hd H l->(∀j∈a.ft l,H'[j]? =H[j]?)->a.hd H' l
 |0,.nd i es ks,h,hf=>⟨h.1,by rw[hf i (by simp[AT.ft])];exact h.2⟩
 |l+1,.nd i es ks,h,hf=>by
  refine⟨h.1,by rw[hf i (by simp[AT.ft])];exact h.2.1,λk hk=>(h.2.2 k hk).fr λj hj=>hf j ?_⟩
  simp only[AT.ft,h_9,List.mem_flatten,v_9]
  grind
def AT.hd.at(hm:1<=m): ∀{l:Nat} {a:AT},a.hd H l->a.bl m o l-> ∀j∈a.ft l,∃es is,H[j]? =some (cz es is)/\(∀e∈es,e∈a.fl l)/\(es=[]->a.es=[])
 |0,.nd i es ks,h,hb,j,hj=>by
  simp only[AT.ft,w_1]at hj;subst hj
  exact⟨es,[],h.2,λe he=>he,λh=>h⟩
 |l+1,.nd i es ks,h,hb,j,hj=>by
  have hfl: ∀e,e∈AT.fl (l+1) (.nd i es ks)<->e∈es\/ ∃k∈ks.map (AT.fl l),e∈k:=λe=>zK (by simp[h.1])
  simp only[AT.ft,h_9,List.mem_flatten,v_9]at hj
  rcases hj with rfl|⟨_,⟨k,hk,rfl⟩,hj⟩
  .exact⟨es,_,h.2.1,λe he=>(hfl e).2 (.inl he),λh=>h⟩
  .obtain⟨es',is',h1,h2,h3⟩:=(h.2.2 k hk).at hm (hb k hk).2.2 j hj
   refine⟨es',is',h1,λe he=>(hfl e).2 (.inr ⟨_,List.mem_map_of_mem hk,h2 e he⟩),λhe=>?_⟩
   have:=(hb k hk).1
   grind
def AT.nodup(hm:1<=m): ∀{l:Nat} {a:AT},a.hd H l->a.bl m o l->(a.fl l).Nodup->(a.ft l).Nodup
 |0,.nd i es ks,h,hb,hn=>by simp[AT.ft]
 |l+1,.nd i es ks,h,hb,hn=>by
  have key: ∀(C D:List AT) (k:AT),ks=C++k::D-> ∀j∈k.ft l,j≠i/\ ∀k'∈D,j∉k'.ft l:=by
   intro C D k hk j hj
   have hkm:k∈ks:=by rw[hk];simp
   have hCl:C.length<=es.length:=by have:=h.1;grind
   have hsp:es=es.take C.length++es.drop C.length:=(p_7 _ _).symm
   have hfl:AT.fl (l+1) (.nd i es ks)=wp (es.take C.length) (C.map (AT.fl l))++(k.fl l++ws (es.drop C.length) (D.map (AT.fl l))):=by
    show wv es (ks.map (AT.fl l))=_
    rw[hk,k_1,h_4]
    conv=>lhs;rw[hsp]
    exact zm (by simp;omega)
   rw[hfl]at hn
   have hDl:(es.drop C.length).length=(D.map (AT.fl l)).length:=by have:=h.1;grind
   obtain⟨es',is',h1,h2,h3⟩:=(h.2.2 k hkm).at hm (hb k hkm).2.2 j hj
   have hne:es'≠[]:=λhe=>by have:=(hb k hkm).1;grind
   obtain⟨e,hes⟩:=List.exists_mem_of_ne_nil _ hne
   have hek:=h2 e hes
   rw[List.nodup_append]at hn
   obtain⟨-,n2,n3⟩:=hn
   rw[List.nodup_append]at n2
   refine⟨λhji=>?_,λk' hk' hj'=>?_⟩
   .subst hji
    have h4:=h.2.1
    rw[h1]at h4
    simp only[cz,g_4,aD.cells.injEq,List.cons.injEq,SV.own.injEq,true_and]at h4
    have he':es'=es:=qK h4.1
    subst he'
    rw[hsp,k_7]at hes
    rcases hes with hes|hes
    .exact n3 e ((zL (by simp;omega)).2 (.inl hes)) e (by simp[hek]) rfl
    .exact n2.2.2 e hek e ((tK hDl).2 (.inl hes)) rfl
   .have hkm':k'∈ks:=by rw[hk];simp[hk']
    obtain⟨es2,is2,g1,g2,g3⟩:=(h.2.2 k' hkm').at hm (hb k' hkm').2.2 j hj'
    rw[h1]at g1
    simp only[cz,g_4,aD.cells.injEq,List.cons.injEq,SV.own.injEq,true_and]at g1
    have he':es'=es2:=qK g1.1
    subst he'
    exact n2.2.2 e hek e ((tK hDl).2 (.inr ⟨_,List.mem_map_of_mem hk',g2 e hes⟩)) rfl
  have all: ∀(C D:List AT),ks=C++D->(i::(D.map (AT.ft l)).flatten).Nodup:=by
   intro C D
   induction D generalizing C with
   |nil=>intro _;simp
   |cons k D ih=>
    intro hk
    have ih:=ih (C++[k]) (by simp[hk])
    have kk:=key C D k hk
    have hkm:k∈ks:=by rw[hk];simp
    have hkn:(k.ft l).Nodup:=by
     refine AT.nodup hm (h.2.2 k hkm) (hb k hkm).2.2 ?_
     have hfl:(AT.fl (l+1) (.nd i es ks))=wp (es.take C.length) (C.map (AT.fl l))++(k.fl l++ws (es.drop C.length) (D.map (AT.fl l))):=by
      show wv es (ks.map (AT.fl l))=_
      rw[hk,k_1,h_4]
      conv=>lhs;rw[<-p_7 C.length es]
      exact zm (by have:=h.1;grind)
     grind
    grind
  exact all [] ks rfl
def gE(s:ak)(e:Entry):Prop:=nG s e=true/\i64 e.Number
def gE.fit{s:ak}(h:gE s e):bc s.aq e.Row=true:=mB h.1
def gE.num{s:ak}(h:gE s e):1<=e.Number/\i64 e.Number:=by
 have:=h.1
 simp only[nG,g_3,decide_eq_true_eq]at this
 exact⟨this.2,h.2⟩
def GY{H:Hp}{ls:List Loc}{i:Nat}{cs:List SV}(h:H[i]? =some (.cells cs))(hd: ∀x∈cs,∃d,x=.d d):(jF ls H)[i]? =some (.cells cs):=by
 unfold jF
 cases ls.any CX with
 |false=>exact h
 |true=>
  simp only[cond_true,v_3,h,m_0,jE]
  congr 2
  apply p_0
  intro j
  rw[v_3]
  cases hj:cs[j]? with
  |none=>rfl
  |some x=>
   obtain⟨d,rfl⟩:=hd x (m_1 hj)
   rfl
section
variable {s:ak} {order last cnt:Int} {root:Option Nat} {tr:Nat} {H:Hp}
def F7(h:H[tr]? =some (gY s order root last cnt))(ls:List Loc):(jF ls H)[tr]? =some (gY s order root last cnt):=by
 refine GY h λx hx=>?_
 simp only[h_9,List.not_mem_nil,or_false]at hx
 grind
def fW(h:H[tr]? =some (gY s order root last cnt)):aR cj.cells H tr 0=some s:=bU (r:=[.d (.int .i64 order),.d (cP.enc root),.d (.int .i64 last),.d (.int .i64 cnt)]) h rfl
def te(h:H[tr]? =some (gY s order root last cnt)):aR (cI .i64).cell H tr 2=some s.cY:=bU (r:=[.d (.int .i64 order),.d (cP.enc root),.d (.int .i64 last),.d (.int .i64 cnt)]) h rfl
def qU(h:H[tr]? =some (gY s order root last cnt)):aR (cI .i64).cell H tr 3=some order:=bU (r:=[.d (cP.enc root),.d (.int .i64 last),.d (.int .i64 cnt)]) h rfl
def eR(h:H[tr]? =some (gY s order root last cnt)):aR cP.cell H tr 4=some root:=bU (r:=[.d (.int .i64 last),.d (.int .i64 cnt)]) h rfl
def pX(h:H[tr]? =some (gY s order root last cnt)):aR (cI .i64).cell H tr 5=some last:=bU (r:=[.d (.int .i64 cnt)]) h rfl
def qV(h:H[tr]? =some (gY s order root last cnt)):aR (cI .i64).cell H tr 6=some cnt:=bU (r:=[]) h rfl
def HT(hs:n9 s=true)(h:H[tr]? =some (gY s order root last cnt))(hx:gE s x)(he:gE s e)(ls:List Loc):Ev (λf=>iV f x e (some tr) (jF ls H)) (bO s x e):=by
 unfold iV
 exact .ae rfl<|.ae (fW (F7 h ls))<|.bind (o9 hs hx.fit he.fit hx.num he.num) (.pure _)
def half{i j:Nat}(h:i+j<1000000):IntKind.wrap .i64 (Int.fdiv (IntKind.wrap .u64 (IntKind.wrap .i64 ((i:Int)+(j:Int)))) (2 ^ 1))=(((i+j) / 2:Nat):Int):=by
 rw[cN (x:=(i:Int)+(j:Int)) (by omega) (by omega)]
 have:IntKind.wrap .u64 ((i:Int)+(j:Int))=(i:Int)+(j:Int):=by
  show((i:Int)+(j:Int)).emod (2 ^ 64)=_
  exact Int.emod_eq_of_lt (by omega) (by omega)
 rw[this,cN]<;>simp only[Int.fdiv_eq_ediv_of_nonneg _ (show(0:Int)<=2 ^ 1 by decide)]<;>omega
def Lh(hs:n9 s=true)(h:H[tr]? =some (gY s order root last cnt)){e:Entry}(he:gE s e)(ls:List Loc){A B:List Entry}(hg: ∀x∈A++B,gE s x)(hA: ∀x∈A,bO s x e<0)(hB: ∀x∈B,0<=bO s x e)(hl:(A++B).length<1000):
  ∀(d i j:Nat),j - i=d->i<=A.length->A.length<=j->j<=(A++B).length->
   gX (λf=>aU f (A++B) e (some tr) (jF ls H)) ((i:Int),(j:Int)) (A.length:Int):=by
 intro d
 induction d using Nat.strongRecOn with
 |ind d ih=>
  intro i j hd hi hj hj2
  by_cases hij:i<j
  .have hk:(i+j) / 2<(A++B).length:=by omega
   have C:=HT hs h (hg _ (j_1 hk)) he ls
   by_cases hc:(i+j) / 2<A.length
   .have hlt:bO s (A++B)[(i+j) / 2] e<0:=by grind
    refine .next (y:=((((i+j) / 2+1:Nat):Int),(j:Int))) ?_ (ih _ (by omega) ((i+j) / 2+1) j rfl (by omega) hj hj2)
    unfold aU
    simp only[half (show i+j<1000000 by omega)]
    refine .t (eM hij)<|.ae (aw hk)<|.bind C<|.t (by simpa using hlt) ?_
    rw[cZ (by omega)]
    exact .pure _
   .have hge:0<=bO s (A++B)[(i+j) / 2] e:=by grind
    refine .next (y:=((i:Int),(((i+j) / 2:Nat):Int))) ?_ (ih _ (by omega) i ((i+j) / 2) rfl hi (by omega) (by omega))
    unfold aU
    simp only[half (show i+j<1000000 by omega)]
    exact .t (eM hij)<|.ae (aw hk)<|.bind C<|.f (by simp;omega) (.pure _)
  .have:i=A.length:=by omega
   subst this
   refine .stop ?_
   unfold aU
   exact .f (mj (by omega)) (.pure _)
def sG(s:ak)(e:Entry):List Entry->Bool
 |[]=>false
 |b::_=>bO s b e==0
def zr(hs:n9 s=true)(h:H[tr]? =some (gY s order root last cnt))(he:gE s e)(hi:H[i]? =some (cz (A++B) is))(hg: ∀x∈A++B,gE s x)(hA: ∀x∈A,bO s x e<0)
  (hB: ∀x∈B,0<=bO s x e) (hl:(A++B).length<1000):Ev (λf=>lE f tr i e H) ((A.length:Int),sG s e B):=by
 unfold lE
 refine .ae (dA hi rfl) ?_
 have L:=Lh hs h he [.al i 0] hg hA hB hl _ 0 (A++B).length rfl (by omega) (by simp) (by simp)
 refine .bind (a:=((A.length:Int),sG s e B)) ?_ (.pure _)
 unfold bK
 refine .bind L.ev ?_
 cases B with
 |nil=>exact .f (mj (by simp)) (.pure _)
 |cons b B=>
  have hk:A.length<(A++b::B).length:=by simp
  refine .t (eM hk)<|.ae (aw hk)<|.bind (HT hs h (hg _ (j_1 hk)) he _) ?_
  have:(A++b::B)[A.length]=b:=by simp
  rw[this]
  exact .pure _
end
set_option maxRecDepth 100000
def JZ{s:ak}(ha:bc s.aq a.Row=true)(hb:bc s.aq b.Row=true)(hc:bc s.aq c.Row=true):xH (bO s a b) (bO s b c) (bO s a c):=by
 have h1:=wG s.Down ha hb hc
 have h2:=wG s.Down hc hb ha
 have n1:=sB s.Down ha hb
 have n2:=sB s.Down hb hc
 have n3:=sB s.Down ha hc
 unfold xH bO at *
 grind
section
variable {s:ak}
def uW(s:ak)(l:List Entry):Prop:=l.Pairwise (λa b=>qw s a b=true)
def pT(h:qw s a b=true):bO s a b<0:=by
 unfold qw at h
 grind
def Fe(hx:gE s x)(hy:gE s y)(he:gE s e)(h:qw s x y=true)(h2:bO s y e<0):bO s x e<0:=wR hx.fit hy.fit he.fit (pT h) h2
def jh(hx:gE s x)(hy:gE s y)(he:gE s e)(h:qw s x y=true)(h2:0<=bO s x e):0<bO s y e:=by
 have h1:=pT h
 have n1:=tN (s:=s) he.fit hx.fit
 have n2:=tN (s:=s) he.fit hy.fit
 have:=JZ (s:=s) he.fit hx.fit hy.fit (by omega) (by omega)
 omega
def yb(he:gE s e)(hl:A.length=C.length)(hs:uW s (wp A C))(hg: ∀x∈wp A C,gE s x)(hA: ∀x∈A,bO s x e<0): ∀x∈wp A C,bO s x e<0:=
 JN hl hs hA λx y hx hy hr hp=>Fe (hg x hx) (hg y ((zL hl).2 (.inl hy))) he hr hp
def ya(he:gE s e)(hl:A.length=C.length)(hs:uW s (ws A C))(hg: ∀x∈ws A C,gE s x)(hA: ∀x∈A,0<bO s x e): ∀x∈ws A C,0<bO s x e:=
 LU hl hs hA λx y hx hy hr hp=>jh (hg x ((tK hl).2 (.inl hx))) (hg y hy) he hr (by omega)
def lr(he:gE s e): ∀{l:List Entry},uW s l->(∀x∈l,gE s x)-> ∃A B,l=A++B/\(∀x∈A,bO s x e<0)/\ ∀x∈B,0<=bO s x e
 |[],_,_=>⟨[],[],rfl,by simp,by simp⟩
 |a::l,hs,hg=>by
  obtain⟨h1,h2⟩:=j_6.1 hs
  by_cases h:bO s a e<0
  .obtain⟨A,B,rfl,hA,hB⟩:=lr he h2 λx hx=>hg x (by simp[hx])
   grind
  .refine⟨[],a::l,rfl,by simp,λx hx=>?_⟩
   rcases h_9.1 hx with rfl|hx
   .omega
   .exact Int.le_of_lt (jh (hg a (by simp)) (hg x (by simp[hx])) he (h1 x hx) (by omega))
def gL(a:Entry):bO s a a=0:=by
 have h: ∀(r:List Value),∀d,cx d r r=0:=by
  intro r
  induction r with
  |nil=>intro d;cases d<;>simp[cx]
  |cons v r ih=>
   intro d
   cases d with
   |nil=>simp[cx]
   |cons d ds=>simp[cx,pM,yZ,ih]
 unfold bO
 grind
def mc(s:ak)(e:Entry)(l:List Entry):List Entry:=ins (λx=>bO s x e) e l
def kx(s:ak)(e:Entry)(l:List Entry):List Entry:=del (λx=>bO s x e) l
def sD(hA: ∀x∈A,bO s x e<0)(hB: ∀x∈B,0<bO s x e):mc s e (A++B)=A++e::B:=by
 have:=DY (c:=λx=>bO s x e) (e:=e) (k:=[]) hA hB
 simpa[mc,ins]using this
def pL(hA: ∀x∈A,bO s x e<0)(hb:bO s b e=0)(hB: ∀x∈B,0<bO s x e):kx s e (A++b::B)=A++B:=by
 have:=Ei (c:=λx=>bO s x e) (k:=[b]) (λx hx=>by have:=hA x hx;omega) (λx hx=>by have:=hB x hx;omega) (P:=A) (S:=B)
 simpa[kx,del,hb]using this
def Ft(h: ∀x∈l,bO s x e≠0):kx s e l=l:=w_6.2 λx hx=>by simpa using h x hx
def wN:x∈kx s e l<->x∈l/\bO s x e≠0:=by simp[kx,del]
def BI(h:uW s l):uW s (kx s e l):=List.Pairwise.filter _ h
def tV(he:gE s e)(hs:uW s l)(hg: ∀x∈l,gE s x)(hn: ∀x∈l,bO s x e≠0):(mc s e l).Perm (e::l):=by
 obtain⟨A,B,rfl,hA,hB⟩:=lr he hs hg
 rw[sD hA λx hx=>by grind]
 exact List.perm_middle
def GV(he:gE s e)(hs:uW s l)(hg: ∀x∈l,gE s x)(hn: ∀x∈l,bO s x e≠0):x∈mc s e l<->x=e\/x∈l:=by
 rw[(tV he hs hg hn).mem_iff,h_9]
def HZ(h:bO s a b<0)(hd:s.cY=1->cx s.Down a.Row b.Row≠0):qw s a b=true:=by
 unfold qw
 grind
def G9(he:gE s e)(hs:uW s l)(hg: ∀x∈l,gE s x)(hn: ∀x∈l,bO s x e≠0)(hd:s.cY=1-> ∀x∈l,cx s.Down x.Row e.Row≠0):uW s (mc s e l):=by
 obtain⟨A,B,rfl,hA,hB⟩:=lr he hs hg
 have hB': ∀x∈B,0<bO s x e:=λx hx=>by grind
 rw[sD hA hB']
 unfold uW at hs ⊢
 rw[j_9]at hs ⊢
 rw[j_6]
 refine⟨hs.1,⟨λx hx=>?_,hs.2.1⟩,λa ha b hb=>?_⟩
 .have hgx:=hg x (by simp[hx])
  have n1:=tN (s:=s) hgx.fit he.fit
  refine HZ (by have:=hB' x hx;omega) λh1 h2=>hd h1 x (by simp[hx]) ?_
  have:=sB s.Down he.fit hgx.fit
  omega
 .rcases h_9.1 hb with rfl|hb
  .exact HZ (hA a ha) λh1=>hd h1 a (by simp[ha])
  .exact hs.2.2 a ha b hb
def Hv(hs:uW s l)(hg: ∀x∈l,gE s x)(he:e∈l):(kx s e l).length+1=l.length:=by
 obtain⟨A,B,rfl,hA,hB⟩:=lr (hg e he) hs hg
 match B,hB with
 |[],_=>
  have:=hA e (by simpa using he)
  rw[gL]at this;omega
 |b::B,hB=>
  have hgb:=hg b (by simp)
  have hb:bO s b e=0:=by
   rcases k_7.1 he with h|h
   .have:=hA e h;rw[gL]at this;omega
   .rcases h_9.1 h with rfl|h
    .exact gL _
    .have h1:=(j_6.1 (j_9.1 hs).2.1).1 e h
     have:=pT h1
     have:=hB b (by simp);omega
  have hB': ∀x∈B,0<bO s x e:=λx hx=>jh hgb (hg x (by simp[hx])) (hg e he) ((j_6.1 (j_9.1 hs).2.1).1 x hx) (by omega)
  rw[pL hA hb hB']
  simp;omega
end
set_option maxRecDepth 100000
def Eo(f:Nat)(h:r.length<1000):dg f r=some r:=by
 unfold dg
 cases r with
 |nil=>rfl
 |cons a l=>
  show Go.Sh.dw (decide ((([]:List Entry)++a::l).length<=room)) (some ([]++a::l))=_
  rw[show decide ((([]:List Entry)++a::l).length<=room)=true by
   rw[decide_eq_true_eq]
   have:(a::l).length<1000:=h
   simp only[m_3,room]
   omega]
  rfl
def En(f:Nat)(h:r.length<1000):dO f r=some r:=by
 unfold dO
 cases r with
 |nil=>rfl
 |cons a l=>
  show Go.Sh.dw (decide ((([]:List (Option Nat))++a::l).length<=room)) (some ([]++a::l))=_
  rw[show decide ((([]:List (Option Nat))++a::l).length<=room)=true by
   rw[decide_eq_true_eq]
   have:(a::l).length<1000:=h
   simp only[m_3,room]
   omega]
  rfl
def D5{α:Type}{c:Cd α}{H:Hp}{i:Nat}{xs:List α}(h:H[i]? =some (.cells cs))(e:cs[off]? =some (.own n (xs.map c.enc))):Al n c H i off=some (xs,H.set i (.cells (cs.set off (.d (.list n (xs.map c.enc)))))):=by
 unfold Al
 rw[jf h,k_2,e]
 simp only[if_true,lu,m_0]
def Hj{α:Type}{c:Cd α}{H:Hp}{i:Nat}{xs:List α}(h:H[i]? =some (.cells cs))(e:cs[off]? =some (.d (.list n (xs.map c.enc)))):Al n c H i off=some (xs,H):=by
 unfold Al
 rw[jf h,k_2,e]
 simp only[if_true,lu,m_0]
def G5{H:Hp}{i:Nat}(h:H[i]? =some (.cells [x,.own 1 (List.map cP.enc is)])):Ev (λf=>bH f i H) (decide (is=[])):=by
 unfold bH
 refine .ae (dA h rfl) ?_
 have:((is.length:Int)==0)=decide (is=[]):=by
  cases is<;>simp
  omega
 rw[this]
 exact .pure _
section
variable {H:Hp} {i:Nat} {a b a' b':aD}
def Nz(h:i<H.length):(H.set i a++[b]).set i a'=H.set i a'++[b]:=by simp_all
def OE:(H.set i a++[b]).set H.length b'=H.set i a++[b']:=by
 simp_all
def JM(h:i<H.length):(H.set i a++[b])[i]? =some a:=by grind
def NA:(H.set i a++[b])[H.length]? =some b:=by simp
end
def rR{α:Type}{l:List α}(h:k<=l.length):sl l (k:Int) (l.length:Int)=l.drop k:=by simp[sl]
def nS{α:Type}{l:List α}{k:Nat}:sl l 0 (k:Int)=l.take k:=by simp[sl]
def lG{α:Type}{l:List α}(h:k<=l.length):kj l (k:Int) (l.length:Int)=true:=by simp[kj];omega
def lF{α:Type}{l:List α}(h:k<=l.length):kj l 0 (k:Int)=true:=by simp[kj];omega
def AB{H:Hp}{i:Nat}(h:H[i]? =some (cz (L++up::R) is))(hm:(L++up::R).length / 2=L.length)(hk:is=[]\/is.length=(L++up::R).length+1)(hb:(L++up::R).length<900):
  Ev (λf=>lp f i H) ((up,some H.length),H.set i (cz L (is.take (L.length+1)))++[cz R (is.drop (L.length+1))]):=by
 have hi:=(g_5.1 h).1
 let es:=L++up::R
 have hes:es=L++up::R:=rfl
 have hb:es.length<900:=hb
 have hm:es.length / 2=L.length:=hm
 have hk:is=[]\/is.length=es.length+1:=hk
 have hel:es.length=L.length+R.length+1:=by simp[es];omega
 have hlt:L.length<es.length:=by omega
 let O1:aD:=.cells [.d (.list 3 (es.map ax.enc)),.own 1 (List.map cP.enc is)]
 let O2:aD:=.cells [.d (.list 3 (es.map ax.enc)),.d (.list 1 (List.map cP.enc is))]
 let O3:aD:=.cells [.d (.list 3 (es.map ax.enc)),.own 1 (List.map cP.enc (is.take (L.length+1)))]
 have f1:Al 3 ax H i 0=some (es,H.set i O1):=D5 h rfl
 have g1:(H.set i O1)[i]? =some O1:=g_0 hi
 have f2:Al 3 ax (H.set i O1) i 0=some (es,H.set i O1):=Hj g1 rfl
 have hnl:(H.set i O1).length=H.length:=by simp
 have w1:IntKind.wrap .i64 (Int.tdiv (es.length:Int) 2)=(L.length:Int):=by
  rw[Int.tdiv_eq_ediv_of_nonneg (by omega),cN (by omega) (by omega)];omega
 have w2:IntKind.wrap .i64 ((L.length:Int)+1)=((L.length+1:Nat):Int):=cZ (by omega)
 have hup:idx es (L.length:Int)=some up:=by rw[aw hlt];simp[es]
 have dR:es.drop (L.length+1)=R:=by simp[es]
 have tL:es.take L.length=L:=by simp[es]
 have fin: ∀{is':List (Option Nat)} {K:List (Option Nat)} {G:Hp},G=H.set i (.cells [.d (.list 3 (es.map ax.enc)),.own 1 (List.map cP.enc is')])++[cz R K]->
   Ev (λf=>(Al 3 ax G i 0).bind λq23=>Go.Sh.dw (kj q23.1 0 (L.length:Int))<|(dg f (sl q23.1 0 (L.length:Int))).bind λr24=>(bT 3 ax q23.2 i 0 r24).bind λH25=>some ((up,some H.length),H25))
    ((up,some H.length),H.set i (cz L is')++[cz R K]):=by
  intro is' K G hG
  subst hG
  refine .ae (Hj (JM hi) rfl)<|.dw (lF (show L.length<=es.length by omega)) ?_
  dsimp only
  rw[nS,tL]
  refine .bind (.of λn=>Eo n (by omega))<|.ae (gw (JM hi) (by simp)) ?_
  rw[Nz hi]
  exact .pure _
 unfold lp
 refine .ae f1<|.ae f2 ?_
 simp only[w1,w2]
 refine .ae hup<|.ae f2<|.dw (lG (show L.length+1<=es.length by omega)) ?_
 dsimp only
 rw[rR (by omega),dR]
 refine .bind (.of λn=>Eo n (by omega))<|.ae rfl<|.aP ?_
 simp only[hnl]
 refine .bind (G5 (JM hi)) ?_
 by_cases he:is=[]
 .subst he
  refine .f (by simp) ?_
  simp only[List.take_nil,List.drop_nil]
  exact fin rfl
 .have hil:is.length=es.length+1:=hk.resolve_left he
  refine .t (by simp[he])<|.ae (D5 (JM hi) rfl)<|.dw (lG (show L.length+1<=is.length by omega)) ?_
  dsimp only
  rw[rR (by omega)]
  refine .bind (.of λn=>En n (by simp;omega)) ?_
  simp only[Nz hi,List.set_cons_succ,List.set_cons_zero]
  refine .ae (gw NA (by simp)) ?_
  simp only[OE,List.set_cons_succ,List.set_cons_zero]
  refine .ae (Hj (JM hi) rfl)<|.dw (lF (show L.length+1<=is.length by omega)) ?_
  dsimp only
  rw[nS]
  refine .bind (.of λn=>En n (by simp;omega))<|.ae (gw (JM hi) (by simp)) ?_
  simp only[Nz hi,List.set_cons_succ,List.set_cons_zero]
  exact fin rfl
def pN{α:Type}{x:Option α}(h:c=true):Go.Sh.dw c x=x:=by subst h;rfl
def xc(f:Nat)(h:(A++B).length<1000):dE f (A++B) (A.length:Int) [e]=some (A++e::B):=by
 unfold dE
 simp only[h_7]at h
 rw[pN (lG (by simp))]
 show(bif (A.length:Int)==((A++B).length:Int)then _ else _)=_
 cases B with
 |nil=>
  simp only[p_6,beq_self_eq_true,cond_true]
  rw[pN (by simp[room];simp at h;omega)]
 |cons b B=>
  rw[show((A.length:Int)==((A++b::B).length:Int))=false by simp;omega,cond_false,pN (by simp[room];simp at h;omega)]
  simp
def Bm(f:Nat)(h:(A++B).length<1000):bV f (A++B) (A.length:Int) [e]=some (A++e::B):=by
 unfold bV
 simp only[h_7]at h
 rw[pN (lG (by simp))]
 show(bif (A.length:Int)==((A++B).length:Int)then _ else _)=_
 cases B with
 |nil=>
  simp only[p_6,beq_self_eq_true,cond_true]
  rw[pN (by simp[room];simp at h;omega)]
 |cons b B=>
  rw[show((A.length:Int)==((A++b::B).length:Int))=false by simp;omega,cond_false,pN (by simp[room];simp at h;omega)]
  simp
def xr(f:Nat)(h:(A++e::B).length<1000):dF f (A++e::B) (A.length:Int) ((A.length+1:Nat):Int)=some (A++B):=by
 unfold dF
 simp only[h_7,j_3]at h
 rw[pN (by simp;omega),show((A.length:Int)==((A.length+1:Nat):Int))=false by simp;omega,cond_false,pN (by simp[room];omega)]
 simp
def BH(f:Nat)(h:(A++e::B).length<1000):cn f (A++e::B) (A.length:Int) ((A.length+1:Nat):Int)=some (A++B):=by
 unfold cn
 simp only[h_7,j_3]at h
 rw[pN (by simp;omega),show((A.length:Int)==((A.length+1:Nat):Int))=false by simp;omega,cond_false,pN (by simp[room];omega)]
 simp
set_option maxRecDepth 100000
def FN{α:Type}: ∀{B:List α} {D:List (List α)},B.length=D.length->B.Sublist (ws B D)
 |[],[],_=>.slnil
 |b::B,d::D,h=>.cons_cons b ((FN (by simpa using h)).trans (List.sublist_append_right d _))
def B9{α:Type}{es:List α}{ks:List (List α)}(h:ks.length=es.length+1):es.Sublist (wv es ks):=by
 match ks,h with
 |k::ks,h=>exact(FN (by simpa using h.symm)).trans (List.sublist_append_right k _)
section
variable {l i:Nat} {es:List Entry} {C D:List AT} {k:AT}
def iT(hA:A.length=C.length):AT.fl (l+1) (.nd i (A++B) (C++k::D))=wp A (C.map (AT.fl l))++(k.fl l++ws B (D.map (AT.fl l))):=by
 show wv (A++B) ((C++k::D).map (AT.fl l))=_
 rw[k_1,h_4]
 exact zm (by simpa using hA)
def dj:j∈AT.ft (l+1) (.nd i es ks)<->j=i\/ ∃k∈ks,j∈k.ft l:=by
 simp only[AT.ft,h_9,List.mem_flatten,v_9]
 grind
def ry(h:(AT.ft (l+1) (.nd i es (C++k::D))).Nodup):i∉k.ft l/\(k.ft l).Nodup/\ ∀k'∈C++D,i∉k'.ft l/\ ∀j∈k'.ft l,j∉k.ft l:=by
 simp only[AT.ft,List.nodup_cons,k_1,h_4,List.flatten_append,p_9,k_7,not_or,List.nodup_append]at h
 grind
def D6(h:(AT.ft (l+1) (.nd i es ks)).Nodup): ∀k∈ks,i∉k.ft l/\(k.ft l).Nodup:=by
 intro k hk
 obtain⟨C,D,rfl⟩:=List.append_of_mem hk
 exact⟨(ry h).1,(ry h).2.1⟩
end
def AT.hd.kl{H:Hp}{l:Nat}{a:AT}(h:a.hd H l):(a.ks.map λk=>some k.ad)=[]\/(a.ks.map λk=>some k.ad).length=a.es.length+1:=by
 cases l with
 |zero=>cases a;obtain⟨rfl,_⟩:=h;exact .inl rfl
 |succ l=>cases a;right;rw[k_6];exact h.1
def AA{l:Nat}(h:AT.hd H l (.nd j (L++up::R) ks))(hn:(AT.ft l (.nd j (L++up::R) ks)).Nodup)(hb:AT.bl m o l (.nd j (L++up::R) ks)):
  let H':=H.set j (cz L ((ks.map λk=>some k.ad).take (L.length+1)))++[cz R ((ks.map λk=>some k.ad).drop (L.length+1))]
  let a:=AT.nd j L (ks.take (L.length+1));let b:=AT.nd H.length R (ks.drop (L.length+1))
  a.hd H' l/\b.hd H' l/\a.bl m o l/\b.bl m o l/\AT.fl l (.nd j (L++up::R) ks)=a.fl l++up::b.fl l/\(∀x∈a.ft l,x∈AT.ft l (.nd j (L++up::R) ks))/\ ∀x∈b.ft l,x=H.length\/x∈AT.ft l (.nd j (L++up::R) ks):=by
 intro H' a b
 cases l with
 |zero=>
  obtain⟨rfl,h⟩:=h
  have hj:=(g_5.1 h).1
  exact⟨⟨by simp,JM hj⟩,⟨by simp,NA⟩,trivial,trivial,rfl,λx hx=>hx,λx hx=>.inl (by simpa[AT.ft,b]using hx)⟩
 |succ l=>
  obtain⟨h1,h2,h3⟩:=h
  have hj:=(g_5.1 h2).1
  have hkl:ks.length=L.length+R.length+2:=by rw[h1];simp;omega
  have fr: ∀k∈ks,AT.hd H' l k:=λk hk=>(h3 k hk).fr λx hx=>by
   have hx1:=(h3 k hk).lt x hx
   have hxj:j≠x:=λe=>(D6 hn k hk).1 (e▸hx)
   grind
  refine⟨⟨by simp;omega,?_,λk hk=>fr k (List.mem_of_mem_take hk)⟩,⟨by simp;omega,?_,λk hk=>fr k (w_4 hk)⟩,λk hk=>hb k (List.mem_of_mem_take hk),λk hk=>hb k (w_4 hk),?_,?_,?_⟩
  .rw[List.map_take];exact JM hj
  .rw[List.map_drop];exact NA
  .
   have hd0:ks.drop (L.length+1)≠[]:=by
    simp_all
   obtain⟨k1,D,hD⟩: ∃k1 D,ks.drop (L.length+1)=k1::D:=by
    cases hh:ks.drop (L.length+1)with
    |nil=>exact absurd hh hd0
    |cons k1 D=>exact⟨k1,D,rfl⟩
   have ht0:L.length<ks.length:=by omega
   have htk:ks.take (L.length+1)=ks.take L.length++ks[L.length]::[]:=by simp_all
   have e1:ks=ks.take L.length++ks[L.length]::(k1::D):=by
    conv=>lhs;rw[<-p_7 (L.length+1) ks,hD,htk,j_2]
    rfl
   have e2:=iT (l:=l) (i:=j) (A:=L) (B:=up::R) (C:=ks.take L.length) (k:=ks[L.length]) (D:=k1::D) (by simp;omega)
   have e3:=iT (l:=l) (i:=j) (A:=L) (B:=[]) (C:=ks.take L.length) (k:=ks[L.length]) (D:=[]) (by simp;omega)
   show AT.fl (l+1) (.nd j (L++up::R) ks)=AT.fl (l+1) (.nd j L (ks.take (L.length+1)))++up::AT.fl (l+1) (.nd H.length R (ks.drop (L.length+1)))
   rw[hD,htk]
   rw[p_6]at e3
   rw[e3]
   conv=>lhs;rw[e1]
   rw[e2]
   simp[ws,AT.fl,wv]
  .intro x hx
   rcases dj.1 hx with rfl|⟨k,hk,hx⟩
   .exact dj.2 (.inl rfl)
   .exact dj.2 (.inr ⟨k,List.mem_of_mem_take hk,hx⟩)
  .intro x hx
   rcases dj.1 hx with rfl|⟨k,hk,hx⟩
   .exact .inl rfl
   .exact .inr (dj.2 (.inr ⟨k,w_4 hk,hx⟩))
set_option maxRecDepth 100000
section
variable {H:Hp} {i:Nat} {es es':List Entry} {is is':List (Option Nat)}
def I0(is:List (Option Nat)):aD:=.cells [.undef,.own 1 (List.map cP.enc is)]
def KN(es:List Entry):aD:=.cells [.own 3 (List.map ab es),.undef]
def gq(h:H[i]? =some (cz es is)):cw 3 ax H i 0=some (es,H.set i (I0 is)):=me h rfl
def nq(h:H[i]? =some (cz es is)):cw 1 cP H i 1=some (is,H.set i (KN es)):=me h rfl
def gr(h:H[i]? =some (I0 is)):bT 3 ax H i 0 es=some (H.set i (cz es is)):=gw h (by simp)
def nr(h:H[i]? =some (KN es)):bT 1 cP H i 1 is=some (H.set i (cz es is)):=gw h (by simp)
def Fa(h:H[i]? =some (cz es is)):bT 3 ax H i 0 es'=some (H.set i (cz es' is)):=gw h (by simp)
def E9(h:H[i]? =some (cz es is)):bT 1 cP H i 1 is'=some (H.set i (cz es is')):=gw h (by simp)
def cu(h:H[i]? =some (cz es is)):aW 3 ax H i 0=some es:=dA h rfl
def cr(h:H[i]? =some (cz es is)):aW 1 cP H i 1=some is:=dA h rfl
end
def zO{ks:List AT}{n:Nat}(h:n<ks.length): ∃C k D,ks=C++k::D/\C.length=n:=⟨ks.take n,ks[n],ks.drop (n+1),rD h,by simp;omega⟩
def eP(k:AT):Option Nat:=some k.ad
section
variable {s:ak} {order last cnt:Int} {root:Option Nat} {tr o:Nat}
structure PT(s:ak)(o l:Nat)(a a':AT)(H H':Hp):Prop where
 hd:a'.hd H' l
 bl:a'.bl (o / 2) o l
 ad:a'.ad=a.ad
 fr: ∀j,j<H.length->j∉a.ft l->H'[j]? =H[j]?
 le:H.length<=H'.length
 ft: ∀j∈a'.ft l,j∈a.ft l\/H.length<=j
def KC(hs:n9 s=true)(ho:(o:Int)=order)(h3:3<=o)(h32:o<=32)(he:gE s e):
  ∀(l:Nat) (a:AT) (H:Hp),a.hd H l->a.bl (o / 2) o l->(a.ft l).Nodup->tr∉a.ft l->H[tr]? =some (gY s order root last cnt)->a.es.length<=o->
   (∀x∈a.fl l,gE s x)->uW s (a.fl l)->(∀x∈a.fl l,bO s x e≠0)->
   ∃a' H',Ev (λn=>iG n tr a.ad e H) ((),H')/\PT s o l a a' H H'/\a'.fl l=mc s e (a.fl l)/\a.es.length<=a'.es.length/\a'.es.length<=a.es.length+1:=by
 intro l
 induction l with
 |zero=>
  intro a H hh hb hn ht hT hl hg hsr hne
  obtain⟨i,es,ks⟩:=a
  obtain⟨rfl,hi⟩:=hh
  have hl:es.length<=o:=hl
  have hil:=(g_5.1 hi).1
  obtain⟨A,B,rfl,hA,hB⟩:=lr he hsr hg
  have hB': ∀x∈B,0<bO s x e:=λx hx=>by have:=hB x hx;have:=hne x (w_2 A hx);omega
  have hfl:AT.fl 0 (.nd i (A++B) [])=A++B:=rfl
  refine⟨.nd i (A++e::B) [],H.set i (cz (A++e::B) []),?_,⟨⟨rfl,g_0 hil⟩,trivial,rfl,λj hj hj2=>?_,by simp,λj hj=>.inl hj⟩,(sD hA hB').symm,?_,?_⟩
  .refine kH (g:=λn=>fu n (iG n) tr i e H) (λn=>rfl) ?_
   unfold fu
   refine .bind (zr hs hT he hi hg hA hB (by omega))<|.bind (cT hi)<|.t rfl<|.ae (gq hi)<|.bind (.of λn=>xc n (by omega))<|.ae (gr (g_0 hil)) ?_
   rw[m_6]
   exact .pure _
  .have:i≠j:=λh=>hj2 (by simp[AT.ft,h])
   rw[g_1 this]
  .simp[AT.es]
  .simp[AT.es];omega
 |succ l ih=>
  intro a H hh hb hn ht hT hl hg hsr hne
  obtain⟨i,es,ks⟩:=a
  have hl:es.length<=o:=hl
  obtain⟨hk1,hi,hks⟩:=hh
  have hil:=(g_5.1 hi).1
  have hsub:es.Sublist (AT.fl (l+1) (.nd i es ks)):=B9 (by simp[hk1])
  have hges: ∀x∈es,gE s x:=λx hx=>hg x (hsub.subset hx)
  obtain⟨A,B,rfl,hA,hB⟩:=lr he (hsr.sublist hsub) hges
  have hB': ∀x∈B,0<bO s x e:=λx hx=>by grind
  have hkl:A.length<ks.length:=by rw[hk1];simp;omega
  obtain⟨C,k,D,rfl,hC⟩:=zO hkl
  have hDl:B.length=D.length:=by simp at hk1;omega
  have hfl:AT.fl (l+1) (.nd i (A++B) (C++k::D))=_:=iT hC.symm
  rw[hfl]at hg hsr hne ⊢
  have hkm:k∈C++k::D:=by simp
  obtain⟨d1,d2,d3⟩:=ry hn
  have hkft: ∀j∈k.ft l,j∈AT.ft (l+1) (.nd i (A++B) (C++k::D)):=λj hj=>dj.2 (.inr ⟨k,hkm,hj⟩)
  have sp:=hsr
  unfold uW at sp
  rw[j_9,j_9]at sp
  have hP:=yb he (by simp[hC]) sp.1 (λx hx=>hg x (List.mem_append_left _ hx)) hA
  have hS:=ya he (by simp[hDl]) sp.2.1.2.1 (λx hx=>hg x (w_2 _ (w_2 _ hx))) hB'
  have hkb:=hb k hkm
  obtain⟨k',H1,E1,P1,F1,S1,S2⟩:=ih k H (hks k hkm) hkb.2.2 d2 (λh=>ht (hkft _ h)) hT hkb.2.1 (λx hx=>hg x (by simp[hx])) sp.2.1.1 (λx hx=>hne x (by simp[hx]))
  have hins:mc s e (wp A (C.map (AT.fl l))++(k.fl l++ws B (D.map (AT.fl l))))=wp A (C.map (AT.fl l))++(k'.fl l++ws B (D.map (AT.fl l))):=by rw[F1];exact DY hP hS
  have hi1:H1[i]? =some (cz (A++B) ((C++k::D).map eP)):=by rw[P1.fr i hil d1];exact hi
  have hT1:H1[tr]? =some (gY s order root last cnt):=by rw[P1.fr tr (g_5.1 hT).1 λh=>ht (hkft _ h)];exact hT
  have hoth: ∀q∈C++D,q.hd H1 l:=λq hq=>by
   have hq':q∈C++k::D:=by simp at hq ⊢;grind
   refine(hks q hq').fr λj hj=>P1.fr j ((hks q hq').lt j hj) ((d3 q hq).2 j hj)
  have hself:=P1.hd.self
  have og: ∀x∈k'.ft l,x∈AT.ft (l+1) (.nd i (A++B) (C++k::D))\/H.length<=x:=λx hx=>(P1.ft x hx).imp (hkft x) id
  have hal:(A++B).length<=o:=hl
  have pre: ∀{r},Ev (λn=>(aW 3 ax H1 k.ad 0).bind λx11=>(aR (cI .i64).cell H1 tr 3).bind λx12=>
    bif (decide ((x11.length:Int)>x12))then
     (lp n k.ad H1).bind λr13=>(cw 3 ax r13.2 i 0).bind λq14=>(dE n q14.1 (A.length:Int) [r13.1.1]).bind λr16=>(bT 3 ax q14.2 i 0 r16).bind λH17=>
     (cw 1 cP H17 i 1).bind λq18=>r13.1.2.bind λi19=>(bV n q18.1 (IntKind.wrap .i64 ((A.length:Int)+1)) [(some i19)]).bind λr20=>(bT 1 cP q18.2 i 1 r20).bind λH21=>some ((),H21)
    else some ((),H1)) r->Ev (λn=>iG n tr i e H) r:=by
   intro r hE
   refine kH (g:=λn=>fu n (iG n) tr i e H) (λn=>rfl) ?_
   unfold fu
   have hidx:idx ((C++k::D).map λk=>some k.ad) (A.length:Int)=some (some k.ad):=du (by rw[<-hC];simp)
   refine .bind (zr hs hT he hi hges hA hB (by omega))<|.bind (cT hi)<|.f (by simp)<|.ae (cr hi)<|.ae hidx<|.ae rfl<|.bind E1 hE
  rw[<-P1.ad]at pre
  by_cases hsz:k'.es.length<=o
  .refine⟨.nd i (A++B) (C++k'::D),H1,pre (.ae (cu hself)<|.ae (qU hT1)<|.f (by simp;omega) (.pure _)),⟨⟨?_,?_,λq hq=>?_⟩,λq hq=>?_,rfl,λj hj hj2=>?_,P1.le,λj hj=>?_⟩,?_,?_,?_⟩
   .simpa using hk1
   .show H1[i]? =some (cz (A++B) ((C++k'::D).map eP))
    rw[hi1]
    simp only[k_1,h_4]
    rw[show eP k'=eP k from congrArg some P1.ad]
   .rcases(show q∈C++D\/q=k' by simp at hq ⊢;grind)with hq|rfl
    .exact hoth q hq
    .exact P1.hd
   .rcases(show q∈C++D\/q=k' by simp at hq ⊢;grind)with hq|rfl
    .exact hb q (by simp at hq ⊢;grind)
    .exact⟨by omega,hsz,P1.bl⟩
   .exact P1.fr j hj λh=>hj2 (hkft j h)
   .rcases dj.1 hj with rfl|⟨q,hq,hjq⟩
    .exact .inl (dj.2 (.inl rfl))
    .rcases(show q∈C++D\/q=k' by simp at hq ⊢;grind)with hq|hq
     .exact .inl (dj.2 (.inr ⟨q,by simp at hq ⊢;grind,hjq⟩))
     .exact og j (hq▸hjq)
   .rw[hins];exact iT hC.symm
   .exact g_9 _
   .exact Nat.le_succ _
  .
   have hlen:k'.es.length=o+1:=by omega
   obtain⟨j,es',ks'⟩:=k'
   have hlen:es'.length=o+1:=hlen
   have hj:j=k.ad:=P1.ad
   have hmid:(o+1) / 2<es'.length:=by omega
   obtain⟨L,up,R,rfl,hL⟩: ∃L up R,es'=L++up::R/\L.length=(o+1) / 2:=⟨es'.take ((o+1) / 2),es'[(o+1) / 2],es'.drop ((o+1) / 2+1),rD hmid,by simp;omega⟩
   have hRl:R.length=o - (o+1) / 2:=by simp at hlen;omega
   have hgk: ∀x∈k.fl l,gE s x:=λx hx=>hg x (by simp[hx])
   have hk'n:(AT.ft l (.nd j (L++up::R) ks')).Nodup:=by
    refine AT.nodup (m:=o / 2) (o:=o) (by omega) P1.hd P1.bl ?_
    have hp:=tV he sp.2.1.1 hgk (λx hx=>hne x (by simp[hx]))
    rw[F1,hp.nodup_iff,List.nodup_cons]
    refine⟨λh=>hne e (by simp[h]) (gL e),?_⟩
    refine List.Pairwise.imp (λ{x y} hxy e=>?_) sp.2.1.1
    subst e
    have:=pT hxy
    rw[gL]at this
    omega
   have X:=AA P1.hd hk'n P1.bl
   have hself:H1[j]? =some (cz (L++up::R) (ks'.map λk=>some k.ad)):=P1.hd.self
   have Y:Ev (λf=>lp f j H1) ((up,some H1.length),H1.set j (cz L ((ks'.map λk=>some k.ad).take (L.length+1)))++[cz R ((ks'.map λk=>some k.ad).drop (L.length+1))]):=AB hself (by grind) P1.hd.kl (show(L++up::R).length<900 by omega)
   generalize hH2:H1.set j (cz L ((ks'.map λk=>some k.ad).take (L.length+1)))++[cz R ((ks'.map λk=>some k.ad).drop (L.length+1))]=H2 at X Y
   obtain⟨x1,x2,x3,x4,x5,x6,x7⟩:=X
   have hl2:H2.length=H1.length+1:=by rw[<-hH2];simp
   have hij:i≠j:=λh=>d1 (by rw[h,hj];exact AT.lk)
   have hil1:=(g_5.1 hi1).1
   have get2: ∀x,x<H1.length->x≠j->H2[x]? =H1[x]? :=λx hx hxj=>by
    grind
   have hi2:H2[i]? =some (cz (A++B) ((C++k::D).map eP)):=by rw[get2 i hil1 hij];exact hi1
   have hil2:=(g_5.1 hi2).1
   let ks2:=C++AT.nd j L (ks'.take (L.length+1))::AT.nd H1.length R (ks'.drop (L.length+1))::D
   let H3:=H2.set i (cz (A++up::B) (ks2.map eP))
   have hmem: ∀q,q∈ks2<->q∈C++D\/q=AT.nd j L (ks'.take (L.length+1))\/q=AT.nd H1.length R (ks'.drop (L.length+1)):=λq=>by simp[ks2];grind
   have hno: ∀q∈ks2,i∉q.ft l:=λq hq h=>by
    rcases(hmem q).1 hq with hq|rfl|rfl
    .exact(d3 q hq).1 h
    .rcases P1.ft i (x6 i h)with h|h
     .exact d1 h
     .omega
    .rcases x7 i h with h|h
     .omega
     .rcases P1.ft i h with h|h
      .exact d1 h
      .omega
   have hd3: ∀q∈ks2,q.hd H3 l:=λq hq=>by
    have h2:q.hd H2 l:=by
     rcases(hmem q).1 hq with hq|rfl|rfl
     .refine(hoth q hq).fr λx hx=>get2 x ((hoth q hq).lt x hx) λe2=>(d3 q hq).2 x hx ?_
      rw[e2,hj];exact AT.lk
     .exact x1
     .exact x2
    exact h2.fr λx hx=>g_1 λe2=>hno q hq (by rw[e2];exact hx)
   refine⟨.nd i (A++up::B) ks2,H3,pre (.ae (cu hself)<|.ae (qU hT1)<|.t (by simp at hlen ⊢;omega)<|.bind Y<|.ae (gq hi2)<|.bind (.of λn=>xc n (by omega))<|
    .ae (gr (g_0 hil2))<|.ae (nq (g_0 (by simpa using hil2)))<|.ae rfl ?_),
    ⟨⟨by simp[ks2]at hk1 ⊢;omega,g_0 hil2,hd3⟩,λq hq=>?_,rfl,λx hx hx2=>?_,by simp[H3];have:=P1.le;omega,λx hx=>?_⟩,?_,by simp[AT.es],by simp[AT.es];omega⟩
   .have hins2: ∀n,bV n ((C++k::D).map eP) (IntKind.wrap .i64 ((A.length:Int)+1)) [some H1.length]=some (ks2.map eP):=λn=>by
     have hA1:=cZ (k:=A.length) (by simp at hal;omega)
     rw[hA1]
     have:=Bm (A:=C.map eP++[some j]) (B:=D.map eP) (e:=some H1.length) n (by simp at hk1 hal ⊢;omega)
     simp only[j_2,m_5,m_3,h_7,k_6,j_3,v_5,q_1,hC]at this
     rw[hj]at this
     simp only[k_1,h_4,ks2]
     rw[hj]
     exact this
    refine .bind (.of hins2)<|.ae (nr (g_0 (by simpa using hil2))) ?_
    simp only[m_6]
    exact .pure _
   .rcases(hmem q).1 hq with hq|rfl|rfl
    .exact hb q (by simp at hq ⊢;grind)
    .exact⟨by simp[AT.es];omega,by simp[AT.es];omega,x3⟩
    .exact⟨by simp[AT.es];omega,by simp[AT.es];omega,x4⟩
   .have hxi:i≠x:=λh=>hx2 (dj.2 (.inl h.symm))
    have hxk:x∉k.ft l:=λh=>hx2 (hkft x h)
    show(H2.set i _)[x]? =_
    rw[g_1 hxi,get2 x (by have:=P1.le;omega) (λh=>hxk (by rw[h,hj];exact AT.lk)),P1.fr x hx hxk]
   .rcases dj.1 hx with rfl|⟨q,hq,hx⟩
    .exact .inl (dj.2 (.inl rfl))
    .rcases(hmem q).1 hq with hq|rfl|rfl
     .exact .inl (dj.2 (.inr ⟨q,by simp at hq ⊢;grind,hx⟩))
     .exact og x (x6 x hx)
     .rcases x7 x hx with h|h
      .right;have:=P1.le;omega
      .exact og x h
   .rw[hins,x5]
    have:=iT (l:=l) (i:=i) (A:=A) (B:=up::B) (C:=C) (k:=AT.nd j L (ks'.take (L.length+1))) (D:=AT.nd H1.length R (ks'.drop (L.length+1))::D) hC.symm
    rw[show AT.fl (l+1) (.nd i (A++up::B) ks2)=_ from this]
    simp[ws]
end
set_option maxRecDepth 100000
structure sX(H0 H:Hp)(i j k:Nat)(a b c:aD):Prop where
 ai:H[i]? =some a
 bj:H[j]? =some b
 ck:H[k]? =some c
 ij:i≠j
 ik:i≠k
 jk:j≠k
 fr: ∀x,x≠i->x≠j->x≠k->H[x]? =H0[x]?
 len:H.length=H0.length
section
variable {H0 H:Hp} {i j k:Nat} {a b c:aD}
def sX.s1(T:sX H0 H i j k a b c)(a':aD):sX H0 (H.set i a') i j k a' b c:=
 ⟨g_0 (g_5.1 T.ai).1,by rw[g_1 T.ij];exact T.bj,by rw[g_1 T.ik];exact T.ck,T.ij,T.ik,T.jk,λx h1 h2 h3=>by rw[g_1 (j_4 h1)];exact T.fr x h1 h2 h3,by rw[q_8];exact T.len⟩
def sX.s2(T:sX H0 H i j k a b c)(b':aD):sX H0 (H.set j b') i j k a b' c:=
 ⟨by rw[g_1 (j_4 T.ij)];exact T.ai,g_0 (g_5.1 T.bj).1,by rw[g_1 T.jk];exact T.ck,T.ij,T.ik,T.jk,λx h1 h2 h3=>by rw[g_1 (j_4 h2)];exact T.fr x h1 h2 h3,by rw[q_8];exact T.len⟩
def sX.s3(T:sX H0 H i j k a b c)(c':aD):sX H0 (H.set k c') i j k a b c':=
 ⟨by rw[g_1 (j_4 T.ik)];exact T.ai,by rw[g_1 (j_4 T.jk)];exact T.bj,g_0 (g_5.1 T.ck).1,T.ij,T.ik,T.jk,λx h1 h2 h3=>by rw[g_1 (j_4 h3)];exact T.fr x h1 h2 h3,by rw[q_8];exact T.len⟩
end
def iK(l:Nat)(es:List Entry)(ks:List AT):Prop:=if l=0 then ks=[]else ks.length=es.length+1
def AT.hd.iK{H:Hp}{l i:Nat}{es:List Entry}{ks:List AT}(h:AT.hd H l (.nd i es ks)):iK l es ks:=by
 cases l with
 |zero=>exact h.1
 |succ l=>exact h.1
def Hb{H:Hp}{i:Nat}(hs:iK l es ks)(hi:H[i]? =some (cz es (ks.map eP)))(hk: ∀k∈ks,k.hd H (l - 1)):AT.hd H l (.nd i es ks):=by
 cases l with
 |zero=>cases hs;exact⟨rfl,hi⟩
 |succ l=>exact⟨hs,hi,hk⟩
def AT.hd.kids{H:Hp}{l i:Nat}{es:List Entry}{ks:List AT}(h:AT.hd H l (.nd i es ks)): ∀k∈ks,k.hd H (l - 1):=by
 cases l with
 |zero=>obtain⟨rfl,_⟩:=h;simp
 |succ l=>exact h.2.2
def AT.hd.obj{H:Hp}{l i:Nat}{es:List Entry}{ks:List AT}(h:AT.hd H l (.nd i es ks)):H[i]? =some (cz es (ks.map eP)):=h.self
def Jh(m o l:Nat)(k:AT):Prop:=m<=k.es.length/\k.es.length<=o/\k.bl m o l
def pR{i:Nat}(hs:iK l es ks):AT.bl m o l (.nd i es ks)<-> ∀k∈ks,Jh m o (l - 1) k:=by
 cases l with
 |zero=>cases hs;simp[AT.bl]
 |succ l=>rfl
def ql{i j k:Nat}(h1:iK l E1 Ka)(h2:iK l E2 Kb):AT.fl l (.nd i (E1++x::E2) (Ka++Kb))=AT.fl l (.nd j E1 Ka)++x::AT.fl l (.nd k E2 Kb):=by
 cases l with
 |zero=>rfl
 |succ l=>
  have h1:Ka.length=E1.length+1:=h1
  have h2:Kb.length=E2.length+1:=h2
  obtain⟨C,q,D,rfl,hC⟩:=zO (ks:=Ka) (n:=E1.length) (by omega)
  have hD:D=[]:=by simp_all
  subst hD
  match Kb,h2 with
  |k2::D2,h2=>
   have e1:=iT (l:=l) (i:=i) (A:=E1) (B:=x::E2) (C:=C) (k:=q) (D:=k2::D2) hC.symm
   have e2:=iT (l:=l) (i:=j) (A:=E1) (B:=[]) (C:=C) (k:=q) (D:=[]) hC.symm
   rw[p_6]at e2
   simp only[j_2,m_5,m_3]
   rw[e1,e2]
   simp[ws,AT.fl,wv]
def rS(h1:iK l E1 Ka)(h2:iK l E2 Kb):iK l (E1++x::E2) (Ka++Kb):=by
 unfold iK at *
 grind
def Gk(h:iK l (E++[y]) K): ∃Ka Kb,K=Ka++Kb/\iK l E Ka/\iK l [] Kb:=by
 unfold iK at *
 split at h
 .simp_all
 .rename_i h0
  refine⟨K.take (E.length+1),K.drop (E.length+1),(p_7 _ _).symm,?_,?_⟩<;>(grind)
def ES(h:iK l (y::E) K): ∃Ka Kb,K=Ka++Kb/\iK l [] Ka/\iK l E Kb:=by
 unfold iK at *
 split at h
 .simp_all
 .rename_i h0
  refine⟨K.take 1,K.drop 1,(p_7 _ _).symm,?_,?_⟩<;>(grind)
def Jy(hl:zss.length<1000)(h:zss.flatten.length<1000):Ev (λf=>C9 f zss) zss.flatten:=by
 have tk: ∀i,(hi:i<zss.length)->(zss.take (i+1)).flatten=(zss.take i).flatten++zss[i]:=λi hi=>by rw[<-q_6 hi,List.flatten_append];simp
 have le: ∀i,(zss.take i).flatten.length<=zss.flatten.length:=λi=>by
  conv=>rhs;rw[<-p_7 i zss,List.flatten_append]
  simp
 have L1: ∀(d i:Nat),i+d=zss.length->gX (λ_=>xu zss) (((zss.take i).flatten.length:Int),(i:Int)) (zss.flatten.length:Int):=by
  intro d
  induction d with
  |zero=>
   intro i hi
   refine .stop ?_
   unfold xu
   refine .f (mj (by omega)) ?_
   rw[m_7 (by omega)]
   exact .pure _
  |succ d ih=>
   intro i hi
   have hi1:i<zss.length:=by omega
   have e:=tk i hi1
   have l1:=le (i+1)
   rw[e,h_7]at l1
   refine .next ?_ (ih (i+1) (by omega))
   unfold xu
   refine .t (eM hi1)<|.ae (aw hi1) ?_
   rw[cN (x:=((zss.take i).flatten.length:Int)+(zss[i].length:Int)) (by omega) (by omega),cZ (by omega),e,h_7]
   exact .f (by simp;omega) (.pure _)
 have L2: ∀(d i:Nat),i+d=zss.length->gX (λ_=>uP zss) ((zss.take i).flatten,(i:Int)) zss.flatten:=by
  intro d
  induction d with
  |zero=>
   intro i hi
   refine .stop ?_
   unfold uP
   refine .f (mj (by omega)) ?_
   rw[m_7 (by omega)]
   exact .pure _
  |succ d ih=>
   intro i hi
   have hi1:i<zss.length:=by omega
   have e:=tk i hi1
   have l1:=le (i+1)
   rw[e]at l1
   refine .next ?_ (ih (i+1) (by omega))
   unfold uP
   refine .t (eM hi1)<|.ae (aw hi1)<|.dw (decide_eq_true (show _<=16777216 by dsimp only;omega)) ?_
   rw[cZ (by omega),e]
   exact .pure _
 have G:HF (zss.flatten.length:Int)=some []:=by
  unfold HF
  rw[show decide ((zss.flatten.length:Int)<0)=false from decide_eq_false (by omega),cond_false,Int.sub_zero,cN (by omega) (by omega)]
  cases hz:decide ((zss.flatten.length:Int)>0)with
  |false=>rfl
  |true=>
   rw[cond_true,pN]
   rw[g_3]
   exact⟨rfl,decide_eq_true (show _<=((16777216:Nat):Int)by omega)⟩
 unfold C9
 exact .bind (L1 _ 0 (q_1 _)).ev<|.ae G<|.bind (L2 _ 0 (q_1 _)).ev (.pure _)
def Es{α:Type}{yss:List (List α)}(hl:yss.length<1000)(h:yss.flatten.length<1000):Ev (λf=>xT f yss) yss.flatten:=by
 unfold xT
 exact .bind (Jy (by simpa using hl) (by grind)) (.pure _)
end Go.Sh
