/- Plain laws: what the functions tell. -/
import Derived.Test.YtmhiemakdfkmeaaGreatF3
set_option linter.all false
set_option autoImplicit true
set_option relaxedAutoImplicit true
namespace Go.Sh
def Ev{α:Type}(f:Nat->Option α)(r:α):Prop:= ∃N,∀n,N<=n->f n=some r
def Ev.of{α:Type}{f:Nat->Option α}{r:α}(h: ∀n,f n=some r):Ev f r:=⟨0,λn _=>h n⟩
def Ev.pure{α:Type}(r:α):Ev (λ_=>some r) r:=.of λ_=>rfl
def Ev.bind{α β:Type}{f:Nat->Option α}{g:Nat->α->Option β}{a:α}{r:β}(h1:Ev f a)(h2:Ev (λn=>g n a) r):Ev (λn=>(f n).bind (g n)) r:=by
 obtain⟨N,hN⟩:=h1
 obtain⟨M,hM⟩:=h2
 refine⟨max N M,λn hn=>?_⟩
 grind
def Ev.congr{α:Type}{f g:Nat->Option α}{r:α}(h: ∀n,f n=g n)(h1:Ev g r):Ev f r:=by
 obtain⟨N,hN⟩:=h1
 exact⟨N,λn hn=>(h n).trans (hN n hn)⟩
def Ev.t{α:Type}{f g:Nat->Option α}{r:α}(hc:c=true)(h:Ev f r):Ev (λn=>bif c then f n else g n) r:=by subst hc;exact h
def Ev.f{α:Type}{f g:Nat->Option α}{r:α}(hc:c=false)(h:Ev g r):Ev (λn=>bif c then f n else g n) r:=by subst hc;exact h
def Ev.ite{α:Type}{f g:Nat->Option α}{r:α}(h1:c=true->Ev f r)(h2:c=false->Ev g r):Ev (λn=>bif c then f n else g n) r:=by
 cases c
 .exact h2 rfl
 .exact h1 rfl
def Ev.dx{α:Type}{f:Nat->Option α}{r:α}(hc:c=true)(h:Ev f r):Ev (λn=>Go.Sh.dx c (f n)) r:=by subst hc;exact h
def Ev.aP{α β:Type}{b:Nat->α->Option β}{a:Nat->(α->Option β)->Option β}{r:β}(h:Ev (λn=>a n (b n)) r):Ev (λn=>Go.Sh.aP (b n) (a n)) r:=h
def Ev.ae{α β:Type}{x:Option α}{a:α}{g:Nat->α->Option β}{r:β}(hx:x=some a)(h:Ev (λn=>g n a) r):Ev (λn=>x.bind (g n)) r:=by subst hx;exact h
def Ev.OZ{α:Type}{f:Nat->Option α}{r r':α}(h:Ev f r)(h':Ev f r'):r=r':=by
 obtain⟨N,hN⟩:=h
 obtain⟨M,hM⟩:=h'
 exact Option.some.inj ((hN (max N M) ω).symm.trans (hM (max N M) ω))
def gT{γ β:Type}(step:Nat->γ->Option (γ⊕β))(x:γ)(out:β):Prop:= ∃N,∀F n,N<=F->N<=n->Go.Sh.iter (step F) n x=some out
def gT.next{γ β:Type}{step:Nat->γ->Option (γ⊕β)}{x y:γ}{out:β}(h1:Ev (λn=>step n x) (.inl y))(h2:gT step y out):gT step x out:=by
 obtain⟨N,hN⟩:=h1
 obtain⟨M,hM⟩:=h2
 refine⟨max N M+1,λF n hF hn=>?_⟩
 obtain⟨n,rfl⟩: ∃n',n=n'+1:=⟨n - 1,ω⟩
 have:=hN F ω
 simp only at this
 simp only[Go.Sh.iter,this]
 exact hM F n ω ω
def gT.stop{γ β:Type}{step:Nat->γ->Option (γ⊕β)}{x:γ}{out:β}(h1:Ev (λn=>step n x) (.inr out)):gT step x out:=by
 obtain⟨N,hN⟩:=h1
 refine⟨N+1,λF n hF hn=>?_⟩
 obtain⟨n,rfl⟩: ∃n',n=n'+1:=⟨n - 1,ω⟩
 have:=hN F ω
 simp only at this
 simp only[Go.Sh.iter,this]
def gT.ev{γ β:Type}{step:Nat->γ->Option (γ⊕β)}{x:γ}{out:β}(h:gT step x out):Ev (λn=>Go.Sh.iter (step n) n x) out:=by
 obtain⟨N,hN⟩:=h
 exact⟨N,λn hn=>hN n n hn hn⟩
def gT.count{γ β:Type}{step:Nat->γ->Option (γ⊕β)}(A:Nat->γ)(out:Nat->β)(len:Nat)
  (hs: ∀k,k<len->(Ev (λn=>step n (A k)) (.inl (A (k+1)))/\out (k+1)=out k)\/Ev (λn=>step n (A k)) (.inr (out k)))
  (he:Ev (λn=>step n (A len)) (.inr (out len))) (k:Nat) (hk:k<=len):gT step (A k) (out k):=by
 obtain⟨d,rfl⟩: ∃d,len=k+d:=⟨len - k,ω⟩
 induction d generalizing k with
 |zero=>exact .stop he
 |succ d ih=>
  rcases hs k ω with⟨h1,h2⟩|h1
  .rw[<-h2]
   have e:k+(d+1)=(k+1)+d:=by omega
   rw[e]at hs he
   exact .next h1 (ih (k+1) hs he ω)
  .exact .stop h1
def dv{α:Type}{l:List α}{k:Nat}{x:α}(h:l[k]? =some x):idx l (k:Int)=some x:=by
 unfold idx;grind
def cC(h0: -9223372036854775808<=x)(h1:x<9223372036854775808):IntKind.wrap .i64 x=x:=by
 unfold IntKind.wrap
 simp[IntKind.bits,IntKind.signed]
 omega
def eO{a b:Nat}(h:a<b):decide ((a:Int)<(b:Int))=true:=by simp;omega
def mn{a b:Nat}(h:b<=a):decide ((a:Int)<(b:Int))=false:=by simp;omega
def cZ{k:Nat}(h:k<1000000000):IntKind.wrap .i64 ((k:Int)+1)=((k+1:Nat):Int):=by rw[cC ω ω];rfl
def aw{α:Type}{l:List α}{k:Nat}(h:k<l.length):idx l (k:Int)=some l[k]:=dv (h_7 h)
def aH{α:Type}{l:List α}{k:Nat}(h:k<l.length):l.drop k=l[k]::l.drop (k+1):=p_3 h
def rk(v:Value):Bool:=decide (v.S.length<=200)
def kf(r:List Value):Bool:=decide (r.length<=20)&&r.all rk
def IM(l:List (List Value))(hl:l.length<1000):Ev (λf=>pA f l) (l.all kf):=by
 have main:gT (λf=>kU f l) (0:Int) (if l.all kf then .inl ()else .inr false:Unit⊕Bool):=by
  refine gT.count (A:=λk=>(k:Int)) (out:=λk=>(if(l.drop k).all kf then .inl ()else .inr false:Unit⊕Bool)) l.length (λk hk=>?_) ?_ 0 ω
  .unfold kU
   have inner:l[k].length<=20->gT (λf=>kV f l (k:Int)) (0:Int) (if l[k].all rk then .inl ()else .inr false:Unit⊕Bool):=by
    intro h20
    refine gT.count (A:=λj=>(j:Int)) (out:=λj=>(if(l[k].drop j).all rk then .inl ()else .inr false:Unit⊕Bool)) l[k].length (λj hj=>?_) ?_ 0 ω
    .unfold kV
     by_cases hs:rk l[k][j]=true
     .refine .inl ⟨.ae (aw hk)<|.t (eO hj)<|.ae (aw hk)<|.ae (aw hj)<|.f ?_ ?_,by rw[aH hj,v_0,hs,j_7]⟩
      .simp only[rk,decide_eq_true_eq]at hs;simp;omega
      .rw[cZ ω];exact .pure _
     .refine .inr (.ae (aw hk)<|.t (eO hj)<|.ae (aw hk)<|.ae (aw hj)<|.t ?_ ?_)
      .simp only[rk,decide_eq_true_eq]at hs;simp;omega
      .rw[aH hj,v_0,p_8.2 hs];exact .pure _
    .unfold kV
     refine .ae (aw hk)<|.f (mn (g_9 _)) ?_
     simp only[m_9,List.all_nil,if_true];exact .pure _
   by_cases h20:l[k].length<=20
   .by_cases hs:l[k].all rk=true
    .refine .inl ⟨.t (eO hk)<|.ae (aw hk)<|.f χ<|.bind (inner h20).ev ?_,by rw[aH hk,v_0];simp only[kf,h20,decide_true,hs,j_7]⟩
     simp only[hs,if_true,w_5]
     rw[cZ ω];exact .pure _
    .refine .inr (.t (eO hk)<|.ae (aw hk)<|.f χ<|.bind (inner h20).ev ?_)
     rw[aH hk,v_0,kf,p_8.2 hs]
     simp only[w_3,m_4,g_7,if_false,Sum.elim_inr]
     exact .pure _
   .refine .inr (.t (eO hk)<|.ae (aw hk)<|.t χ ?_)
    rw[aH hk,v_0,kf,decide_eq_false h20]
    simp only[m_4,g_7,if_false]
    exact .pure _
  .unfold kU
   refine .f (mn (g_9 _)) ?_
   simp only[m_9,List.all_nil,if_true];exact .pure _
 unfold pA
 refine .bind main.ev ?_
 cases h:l.all kf
 .simp only[g_7,if_false,Sum.elim_inr];exact .pure _
 .simp only[if_true,w_5];exact .pure _
def AX(k:Int):Bool:=k==1||k==2
def oa(s:ak):Bool:=decide (1<=s.aq.length)&&decide (s.aq.length<=8)&&s.Down.length==s.aq.length&&decide (1<=s.cW)&&decide (s.cW<=3)&&s.aq.all AX
def vk(v:Value):Bool:=if v.Kind=1 then decide (-1000000000<=v.N)&&decide (v.N<=1000000000)&&v.S==[]else if v.Kind=2 then v.N==0&&decide (v.S.length<=40)else false
def bc:List Int->List Value->Bool
 |[],[]=>true
 |k::ks,v::vs=>(v.Kind==k&&vk v)&&bc ks vs
 |_,_=>false
def eg: ∀{ks:List Int} {vs:List Value},bc ks vs=true->ks.length=vs.length
 |[],[],_=>rfl
 |k::ks,v::vs,h=>by
  simp only[bc,g_3]at h
  simp[eg h.2]
def jJ: ∀{ks:List Int} {vs:List Value} (h:bc ks vs=true) (i:Nat) (h1:i<ks.length) (h2:i<vs.length),vs[i].Kind=ks[i]/\vk vs[i]=true
 |k::ks,v::vs,h,i,h1,h2=>by
  simp only[bc,g_3,beq_iff_eq]at h
  cases i with
  |zero=>exact h.1
  |succ i=>exact jJ h.2 i (by simpa using h1) (by simpa using h2)
 |[],[],_,_,h1,_=>absurd h1 ψ
def wb(n:Nat)(k:Int):p7 n k=some (!AX k):=rfl
def EU(s:ak):Ev (λf=>rR f s) (oa s):=by
 unfold rR oa
 by_cases h1:1<=s.aq.length
 case neg=>refine .f χ ?_;rw[decide_eq_false h1];exact .pure _
 refine .t χ ?_
 by_cases h2:s.aq.length<=8
 case neg=>refine .f χ ?_;rw[decide_eq_false h2];simp only[w_3,m_4];exact .pure _
 refine .t χ ?_
 rw[decide_eq_true h1,decide_eq_true h2]
 have e1:((s.Down.length:Int)==(s.aq.length:Int))=(s.Down.length==s.aq.length):=by
  rw[Bool.eq_iff_iff];simp;omega
 have e2:decide (s.cW>=1)=decide (1<=s.cW):=rfl
 rw[e1,e2]
 simp only[j_7]
 cases hc:(s.Down.length==s.aq.length&&decide (1<=s.cW))&&decide (s.cW<=3)
 .exact .f rfl (.pure _)
 .refine .t rfl ?_
  have main:gT (λf=>bM f s.aq) (0:Int) (match s.aq.findIdx? (λk=>!AX k)with|some i=>.inr (i:Int)|none=>.inl ():Unit⊕Int):=by
   refine gT.count (A:=λk=>(k:Int)) (out:=λk=>(match(s.aq.drop k).findIdx? (λk=>!AX k)with|some i=>.inr ((k+i:Nat):Int)|none=>.inl ():Unit⊕Int)) s.aq.length (λk hk=>?_) ?_ 0 ω|>λh=>by simpa using h
   .unfold bM
    cases hk':AX s.aq[k]
    .refine .inr (.t (eO hk)<|.ae (aw hk)<|.bind (.of λn=>wb n _)<|.t (by rw[hk'];rfl) ?_)
     rw[aH hk,List.findIdx?_cons,hk']
     exact .pure _
    .refine .inl ⟨.t (eO hk)<|.ae (aw hk)<|.bind (.of λn=>wb n _)<|.f (by rw[hk'];rfl) ?_,?_⟩
     .rw[cZ ω];exact .pure _
     .rw[aH hk,List.findIdx?_cons,hk']
      grind
   .unfold bM
    refine .f (mn (g_9 _)) ?_
    simp only[m_9,List.findIdx?_nil];exact .pure _
  have hall:s.aq.all AX=(s.aq.findIdx? (λk=>!AX k)).isNone:=by
   grind
  have h3:Ev (λf=>cd f s.aq) (match s.aq.findIdx? (λk=>!AX k)with|some i=>(i:Int)|none=> -1):=by
   unfold cd
   refine .bind main.ev ?_
   cases s.aq.findIdx? (λk=>!AX k)<;>exact .pure _
  have h4:Ev (λf=>bN f s.aq) (!(s.aq.all AX)):=by
   unfold bN
   refine .bind h3 ?_
   rw[hall]
   cases s.aq.findIdx? (λk=>!AX k)with
   |none=>exact .pure _
   |some i=>exact .congr (λ_=>by simp) (.pure _)
  refine .bind h4 ?_
  rw[Bool.not_not,j_7];exact .pure _
def yD(s:ak)(hl:s.aq.length<1000):Ev (λf=>qd f s) (oa s):=by
 have main:gT (λf=>lY f s) (0:Int) (if s.aq.all AX then .inl ()else .inr false:Unit⊕Bool):=by
  refine gT.count (A:=λk=>(k:Int)) (out:=λk=>(if(s.aq.drop k).all AX then .inl ()else .inr false:Unit⊕Bool)) s.aq.length (λk hk=>?_) ?_ 0 ω
  .unfold lY
   have hd:=aH hk
   by_cases h1:s.aq[k]=1
   .refine .inl ⟨.t (eO hk)<|.ae (aw hk)<|.f (by simp[h1]) ?_,by rw[hd,v_0];simp[AX,h1]⟩
    rw[cZ ω];exact .pure _
   .by_cases h2:s.aq[k]=2
    .refine .inl ⟨.t (eO hk)<|.ae (aw hk)<|.t (by simp[h1])<|.ae (aw hk)<|.f (by simp[h2]) ?_,by rw[hd,v_0];simp[AX,h2]⟩
     rw[cZ ω];exact .pure _
    .refine .inr (.t (eO hk)<|.ae (aw hk)<|.t (by simp[h1])<|.ae (aw hk)<|.t (by simp[h2]) ?_)
     rw[hd,v_0]
     simp only[AX,beq_eq_false_iff_ne.2 h1,beq_eq_false_iff_ne.2 h2,Bool.or_self,m_4,g_7,if_false]
     exact .pure _
  .unfold lY
   refine .f (mn (g_9 _)) ?_
   simp only[m_9,List.all_nil,if_true];exact .pure _
 unfold qd oa
 refine .bind main.ev ?_
 cases h:s.aq.all AX
 .simp only[g_7,if_false,Sum.elim_inr,w_3];exact .pure _
 .simp only[if_true,w_5,Bool.and_true]
  by_cases h1:1<=s.aq.length
  case neg=>refine .f χ ?_;rw[decide_eq_false h1];exact .pure _
  refine .t χ ?_
  by_cases h2:s.aq.length<=8
  case neg=>refine .f χ ?_;rw[decide_eq_false h2];simp only[w_3,m_4];exact .pure _
  refine .t χ ?_
  rw[decide_eq_true h1,decide_eq_true h2]
  have e1:((s.Down.length:Int)==(s.aq.length:Int))=(s.Down.length==s.aq.length):=by
   rw[Bool.eq_iff_iff];simp;omega
  rw[e1]
  exact .pure _
def yV(f:Nat)(v:Value):fL f v=some (vk v):=by
 unfold fL je mF kG kF kE je vk
 by_cases h1:v.Kind=1
 .grind
 .by_cases h2:v.Kind=2
  .simp only[h2]
   cases h:v.N==0<;>simp
   omega
  grind
def yC(f:Nat)(v:Value):gm f v=some (vk v):=by
 unfold gm vk
 by_cases h1:v.Kind=1
 .simp[h1]
 .by_cases h2:v.Kind=2
  .simp only[h2]
   cases h:v.N==0<;>simp
   omega
  grind
def sO(s:ak)(r:List Value)(hl:r.length<1000):Ev (λf=>qZ f s r) (bc s.aq r):=by
 unfold qZ
 by_cases hlen:r.length=s.aq.length
 case neg=>
  refine .t χ ?_
  have:bc s.aq r=false:=by
   cases h:bc s.aq r with
   |false=>rfl
   |true=>exact absurd (eg h).symm hlen
  rw[this];exact .pure _
 refine .f χ ?_
 have main:gT (λf=>mZ f r) (s.aq,s.Down,s.cW,(0:Int)) (if bc s.aq r then .inl ()else .inr false:Unit⊕Bool):=by
  refine gT.count (A:=λk=>(s.aq,s.Down,s.cW,(k:Int))) (out:=λk=>(if bc (s.aq.drop k) (r.drop k)then .inl ()else .inr false:Unit⊕Bool)) r.length (λk hk=>?_) ?_ 0 ω
  .unfold mZ
   have hk2:k<s.aq.length:=by omega
   by_cases h1:r[k].Kind=s.aq[k]
   .cases h2:vk r[k]
    .refine .inr (.t (eO hk)<|.ae (aw hk)<|.ae (aw hk2)<|.f (by simp[h1])<|.bind (.of λn=>yV n _)<|.t (by rw[h2];rfl) ?_)
     rw[aH hk,aH hk2,bc,h2]
     simp only[w_3,m_4,g_7,if_false]
     exact .pure _
    .refine .inl ⟨.t (eO hk)<|.ae (aw hk)<|.ae (aw hk2)<|.f (by simp[h1])<|.bind (.of λn=>yV n _)<|.f (by rw[h2];rfl) ?_,?_⟩
     .rw[cZ ω];exact .pure _
     .rw[aH hk,aH hk2,bc,h2,h1,BEq.rfl,j_7,j_7]
   .refine .inr (.t (eO hk)<|.ae (aw hk)<|.ae (aw hk2)<|.t (by simp[h1]) ?_)
    rw[aH hk,aH hk2,bc,beq_eq_false_iff_ne.2 h1]
    simp only[m_4,g_7,if_false]
    exact .pure _
  .unfold mZ
   refine .f (mn (g_9 _)) ?_
   rw[m_9,hlen,m_9]
   exact .pure _
 refine .bind main.ev ?_
 cases bc s.aq r
 .simp only[g_7,if_false,Sum.elim_inr];exact .pure _
 .simp only[if_true,w_5];exact .pure _
def vt(s:ak)(r:List Value)(hs:oa s=true)(hl:r.length<1000):Ev (λf=>oH f s r) (bc s.aq r):=by
 have hs8:s.aq.length<=8:=by simp only[oa,g_3,decide_eq_true_eq]at hs;omega
 have mainV:gT (λf=>fJ f r) (0:Int) (if r.all vk then .inl ()else .inr false:Unit⊕Bool):=by
  refine gT.count (A:=λk=>(k:Int)) (out:=λk=>(if(r.drop k).all vk then .inl ()else .inr false:Unit⊕Bool)) r.length (λk hk=>?_) ?_ 0 ω
  .unfold fJ
   cases h2:vk r[k]
   .refine .inr (.t (eO hk)<|.ae (aw hk)<|.bind (.of λn=>yC n _)<|.t (by rw[h2];rfl) ?_)
    rw[aH hk,v_0,h2]
    simp only[m_4,g_7,if_false];exact .pure _
   .refine .inl ⟨.t (eO hk)<|.ae (aw hk)<|.bind (.of λn=>yC n _)<|.f (by rw[h2];rfl) ?_,by rw[aH hk,v_0,h2,j_7]⟩
    rw[cZ ω];exact .pure _
  .unfold fJ
   refine .f (mn (g_9 _)) ?_
   simp only[m_9,List.all_nil,if_true];exact .pure _
 have hV:Ev (λf=>jB f r) (r.all vk&&decide (r.length<=8)):=by
  unfold jB
  refine .bind mainV.ev ?_
  cases r.all vk
  .simp only[g_7,if_false,Sum.elim_inr,m_4];exact .pure _
  .simp only[if_true,w_5,j_7]
   exact .congr (λ_=>by rw[show decide ((r.length:Int)<=8)=decide (r.length<=8)by rw[decide_eq_decide];omega]) (.pure _)
 have hall:bc s.aq r=true->r.all vk=true:=λh=>by
  rw[h_2]
  intro x hx
  obtain⟨i,hi,rfl⟩:=List.mem_iff_getElem.1 hx
  exact(jJ h i (by rw[eg h];exact hi) hi).2
 unfold oH
 refine .aP<|.bind hV ?_
 by_cases hlen:r.length=s.aq.length
 case neg=>
  have:bc s.aq r=false:=by
   cases h:bc s.aq r with
   |false=>rfl
   |true=>exact absurd (eg h).symm hlen
  rw[this]
  refine .ite (λ_=>.t rfl (.pure _)) (λ_=>.t χ (.pure _))
 cases hv:r.all vk
 .have:bc s.aq r=false:=by
   grind
  rw[this]
  exact .t rfl (.t rfl (.pure _))
 refine .f χ<|.f χ ?_
 have main:gT (λf=>pf f s r) (0:Int) (if bc s.aq r then .inl ()else .inr false:Unit⊕Bool):=by
  refine gT.count (A:=λk=>(k:Int)) (out:=λk=>(if bc (s.aq.drop k) (r.drop k)then .inl ()else .inr false:Unit⊕Bool)) r.length (λk hk=>?_) ?_ 0 ω
  .unfold pf
   have hk2:k<s.aq.length:=by omega
   have h2:vk r[k]=true:=h_2.1 hv _ (j_2 hk)
   by_cases h1:r[k].Kind=s.aq[k]
   .refine .inl ⟨.t (eO hk)<|.ae (aw hk)<|.ae (aw hk2)<|.f (by simp[h1]) ?_,?_⟩
    .rw[cZ ω];exact .pure _
    .rw[aH hk,aH hk2,bc,h2,h1,BEq.rfl,j_7,j_7]
   .refine .inr (.t (eO hk)<|.ae (aw hk)<|.ae (aw hk2)<|.t (by simp[h1]) ?_)
    rw[aH hk,aH hk2,bc,beq_eq_false_iff_ne.2 h1]
    simp only[m_4,g_7,if_false]
    exact .pure _
  .unfold pf
   refine .f (mn (g_9 _)) ?_
   rw[m_9,hlen,m_9]
   exact .pure _
 refine .bind main.ev ?_
 cases bc s.aq r
 .simp only[g_7,if_false,Sum.elim_inr];exact .pure _
 .simp only[if_true,w_5];exact .pure _
def qa(x:Int):Int:=if x<0 then -1 else if 0<x then 1 else 0
def sign_eq(f:Nat)(x:Int):nm f x=some (qa x):=by
 unfold nm qa
 grind
def vu(f:Nat)(a b:Int):ma f a b=some (qa (a - b)):=by
 unfold ma qa
 grind
def pre:List UInt8->List UInt8->Option Int
 |x::xs,y::ys=>if x=y then pre xs ys else some (if x<y then -1 else 1)
 |_,_=>none
def Aa: ∀a b:List UInt8,Lib.compareBytes a b=(pre a b).getD (qa ((a.length:Int) - b.length))
 |[],[]=>rfl
 |[],y::ys=>by
  simp only[Lib.compareBytes,pre,Option.getD_none,qa,v_2,j_1]
  rw[if_pos ω]
 |x::xs,[]=>by
  simp only[Lib.compareBytes,pre,Option.getD_none,qa,v_2,j_1]
  grind
 |x::xs,y::ys=>by
  simp only[Lib.compareBytes,pre]
  by_cases h:x=y
  .subst h
   simp only[UInt8.lt_irrefl,if_false,if_true]
   rw[Aa xs ys]
   grind
  grind
def Av(a b:List UInt8)(ha:a.length<1000)(hb:b.length<1000):Ev (λf=>nk f a b) (Lib.compareBytes a b):=by
 have main:gT (λf=>jA f a b) (0:Int) (match pre a b with|some c=>.inr c|none=>.inl ():Unit⊕Int):=by
  refine gT.count (A:=λk=>(k:Int)) (out:=λk=>(match pre (a.drop k) (b.drop k)with|some c=>.inr c|none=>.inl ():Unit⊕Int)) (min a.length b.length) (λk hk=>?_) ?_ 0 ω
  .have h1:k<a.length:=by omega
   have h2:k<b.length:=by omega
   unfold jA
   by_cases he:a[k]=b[k]
   .refine .inl ⟨.aP<|.t (eO h1)<|.t (eO h2)<|.ae (aw h1)<|.ae (aw h2)<|.f (by simp[he]) ?_,?_⟩
    .rw[cZ ω];exact .pure _
    .rw[aH h1,aH h2,pre,if_pos he]
   .have hne:a[k].toNat≠b[k].toNat:=λe=>he (UInt8.toNat_inj.1 e)
    have b1:=a[k].toNat_lt
    have b2:=b[k].toNat_lt
    refine .inr (.aP<|.t (eO h1)<|.t (eO h2)<|.ae (aw h1)<|.ae (aw h2)<|.t χ<|.ae (aw h1)<|.ae (aw h2)<|.bind (.of λn=>sign_eq n _) ?_)
    have e:qa (IntKind.wrap .i64 ((IntKind.wrap .i64 (a[k].toNat:Int)) - (IntKind.wrap .i64 (b[k].toNat:Int))))=if a[k]<b[k]then -1 else 1:=by
     rw[cC (x:=(a[k].toNat:Int)) ω ω,cC (x:=(b[k].toNat:Int)) ω ω,cC ω ω,qa]
     by_cases hl:a[k]<b[k]
     .have:=UInt8.lt_iff_toNat_lt.1 hl
      rw[if_pos hl,if_pos ω]
     .have: ¬a[k].toNat<b[k].toNat:=λh=>hl (UInt8.lt_iff_toNat_lt.2 h)
      grind
    rw[e,aH h1,aH h2,pre,if_neg he]
    exact .pure _
  .unfold jA
   have hp:pre (a.drop (min a.length b.length)) (b.drop (min a.length b.length))=none:=by
    by_cases h:a.length<=b.length
    .rw[p_4 h,m_9];unfold pre;rfl
    .rw[Nat.min_eq_right ω,m_9];cases List.drop b.length a<;>rfl
   rw[hp]
   refine .aP ?_
   by_cases h:a.length<=b.length
   .rw[p_4 h]
    exact .f (mn (g_9 _))<|.f rfl (.pure _)
   .rw[Nat.min_eq_right ω]
    exact .t (eO ω)<|.f (mn (g_9 _)) (.pure _)
 unfold nk
 refine .bind main.ev ?_
 rw[Aa]
 cases pre a b with
 |some c=>exact .pure _
 |none=>
  refine .bind (.of λn=>sign_eq n _) ?_
  rw[cC ω ω];exact .pure _
def fM(v w:Value):Int:=if v.Kind=1 then v.N - w.N else Lib.compareBytes v.S w.S
def pN(d:Bool)(v w:Value):Int:=if d then fM w v else fM v w
def cx:List Bool->List Value->List Value->Int
 |d::ds,v::vs,w::ws=>if pN d v w=0 then cx ds vs ws else pN d v w
 |_,_,_=>0
def Jy(a b:List UInt8):qa (Lib.compareBytes a b)=Lib.compareBytes a b:=by
 rw[Aa]
 cases h:pre a b with
 |none=>simp only[Option.getD_none,qa];split<;>(try split)<;>simp_all
 |some c=>
  have: ∀a b:List UInt8,∀c,pre a b=some c->c= -1\/c=1:=by
   intro a
   induction a with
   |nil=>intro b c h;simp[pre]at h
   |cons x xs ih=>
    intro b c h
    cases b with
    |nil=>simp[pre]at h
    |cons y ys=>
     simp only[pre]at h
     grind
  rcases this a b c h with rfl|rfl<;>rfl
def sT: ∀a b:List UInt8,Lib.compareBytes b a= - Lib.compareBytes a b
 |[],[]=>rfl
 |[],y::ys=>rfl
 |x::xs,[]=>rfl
 |x::xs,y::ys=>by
  simp only[Lib.compareBytes]
  by_cases h:x<y
  .grind
  .by_cases h2:y<x
   .simp[h,h2]
   .simp[h,h2,sT xs ys]
def II(x:Int):qa (-x)= - qa x:=by unfold qa;grind
def KA(x:Int):(qa x<0)<->x<0:=by unfold qa;split<;>(try split)<;>omega
def nf(x:Int):(qa x=0)<->x=0:=by unfold qa;split<;>(try split)<;>omega
def po(h:vk v=true):(v.Kind=1/\ -1000000000<=v.N/\v.N<=1000000000/\v.S=[])\/(v.Kind=2/\v.N=0/\v.S.length<=40):=by
 unfold vk at h
 grind
def rI(hv:vk v=true)(hw:vk w=true)(hk:v.Kind=w.Kind):Ev (λf=>ja f v w) (qa (fM v w)):=by
 unfold ja
 refine .bind (.of λn=>vu n _ _) ?_
 have h0:qa (v.Kind - w.Kind)=0:=by rw[hk,Int.sub_self];rfl
 rw[h0]
 refine .f rfl<|.bind (.of λn=>vu n _ _) ?_
 rcases po hv with⟨k1,n1,n2,s1⟩|⟨k1,n1,s1⟩<;>rcases po hw with⟨k2,m1,m2,s2⟩|⟨k2,m1,s2⟩
 .rw[fM,if_pos k1]
  by_cases hz:v.N - w.N=0
  .rw[hz]
   refine .f rfl<|.bind (Av _ _ (by rw[s1];decide) (by rw[s2];decide)) ?_
   rw[s1,s2];exact .pure _
  .exact .t (by simp;rwa [nf]) (.pure _)
 .omega
 .omega
 .rw[fM,if_neg ω,n1,m1,Jy]
  exact .f rfl<|.bind (Av _ _ ω ω) (.pure _)
def AU(s:ak)(hd:s.Down.length=s.aq.length)(ha:bc s.aq a=true)(hb:bc s.aq b=true)(hl:s.aq.length<=8):
  Ev (λf=>qe f s a b) (qa (cx s.Down a b)):=by
 have la:=eg ha
 have lb:=eg hb
 have main:gT (λf=>l7 f s a b) (0:Int) (if cx s.Down a b=0 then .inl ()else .inr (qa (cx s.Down a b)):Unit⊕Int):=by
  refine gT.count (A:=λk=>(k:Int)) (out:=λk=>(if cx (s.Down.drop k) (a.drop k) (b.drop k)=0 then .inl ()else .inr (qa (cx (s.Down.drop k) (a.drop k) (b.drop k))):Unit⊕Int)) a.length (λk hk=>?_) ?_ 0 ω
  .have k1:k<s.aq.length:=by omega
   have k2:k<b.length:=by omega
   have k3:k<s.Down.length:=by omega
   obtain⟨a1,a2⟩:=jJ ha k k1 hk
   obtain⟨b1,b2⟩:=jJ hb k k1 k2
   have hc:=rI a2 b2 (a1.trans b1.symm)
   have hneg:fM b[k] a[k]= - fM a[k] b[k]:=by
    unfold fM
    rw[a1,b1]
    split
    .omega
    .exact sT _ _
   have hs1: -2<qa (fM a[k] b[k])/\qa (fM a[k] b[k])<2:=by unfold qa;split<;>(try split)<;>omega
   unfold l7
   rw[aH hk,aH k2,aH k3,cx]
   cases hdn:s.Down[k]
   .have ec:pN false a[k] b[k]=fM a[k] b[k]:=rfl
    rw[ec]
    by_cases hz:fM a[k] b[k]=0
    .refine .inl ⟨.t (eO hk)<|.ae (aw hk)<|.ae (aw k2)<|.bind hc<|.ae (aw k3)<|.f hdn<|.f (by rw[hz];rfl) ?_,by rw[if_pos hz]⟩
     rw[cZ ω];exact .pure _
    .refine .inr (.t (eO hk)<|.ae (aw hk)<|.ae (aw k2)<|.bind hc<|.ae (aw k3)<|.f hdn<|.t (by simp;rwa [nf]) ?_)
     rw[if_neg hz,if_neg hz];exact .pure _
   .have ec:pN true a[k] b[k]= - fM a[k] b[k]:=hneg
    rw[ec]
    by_cases hz:fM a[k] b[k]=0
    .refine .inl ⟨.t (eO hk)<|.ae (aw hk)<|.ae (aw k2)<|.bind hc<|.ae (aw k3)<|.t hdn<|.f (by rw[hz];rfl) ?_,by rw[hz,Int.neg_zero,if_pos rfl]⟩
     rw[cZ ω];exact .pure _
    .refine .inr (.t (eO hk)<|.ae (aw hk)<|.ae (aw k2)<|.bind hc<|.ae (aw k3)<|.t hdn<|.t ?_ ?_)
     .rw[cC ω ω];simp;rwa [nf]
     .have hz2: ¬ - fM a[k] b[k]=0:=by omega
      rw[cC ω ω,if_neg hz2,if_neg hz2,II,Int.zero_sub];exact .pure _
  .unfold l7
   refine .f (mn (g_9 _)) ?_
   rw[m_9]
   have:cx (s.Down.drop a.length) [] (b.drop a.length)=0:=by cases List.drop a.length s.Down<;>rfl
   rw[this];exact .pure _
 unfold qe
 refine .bind main.ev ?_
 by_cases h:cx s.Down a b=0
 .rw[if_pos h,h];exact .pure _
 .rw[if_neg h];exact .pure _
def zm: ∀{a b c:List UInt8},Op.bytesLess a b=true->Op.bytesLess b c=true->Op.bytesLess a c=true
 |_,[],_,h,_=>by cases ‹List UInt8› <;>simp[Op.bytesLess]at h
 |_,_::_,[],_,h=>by simp[Op.bytesLess]at h
 |[],_::_,_::_,_,_=>rfl
 |a::x,b::y,c::z,h1,h2=>by
  simp only[Op.bytesLess,p_2,decide_eq_true_eq,g_3,beq_iff_eq]at *
  rcases h1 with h1|⟨rfl,h1⟩<;>rcases h2 with h2|⟨rfl,h2⟩
  .exact .inl (UInt8.lt_trans h1 h2)
  .exact .inl h1
  .exact .inl h2
  .exact .inr ⟨rfl,zm h1 h2⟩
def HG: ∀a b:List UInt8,decide (Lib.compareBytes a b<0)=Op.bytesLess a b
 |[],[]=>rfl
 |[],_::_=>rfl
 |_::_,[]=>rfl
 |a::x,b::y=>by
  simp only[Lib.compareBytes,Op.bytesLess]
  by_cases h:a<b
  .simp[h]
  .by_cases h2:b<a
   .grind
   .have:a=b:=by
     grind
    subst this
    simp[h,HG x y]
def BO: ∀a b:List UInt8,(Lib.compareBytes a b==0)=(a==b)
 |[],[]=>rfl
 |[],_::_=>rfl
 |_::_,[]=>rfl
 |a::x,b::y=>by
  simp only[Lib.compareBytes]
  by_cases h:a<b
  .grind
  .by_cases h2:b<a
   .grind
   .have:a=b:=by
     grind
    subst this
    simp only[h,if_false,BO x y,List.cons_beq_cons,BEq.rfl,j_7]
def m8(s:ak)(hd:s.Down.length=s.aq.length)(ha:bc s.aq a=true)(hb:bc s.aq b=true)(hl:s.aq.length<=8):
  Ev (λf=>mL f s a b) (cx s.Down a b):=by
 have la:=eg ha
 have lb:=eg hb
 have main:gT (λf=>mX f s a b) (0:Int) (if cx s.Down a b=0 then .inl ()else .inr (cx s.Down a b):Unit⊕Int):=by
  refine gT.count (A:=λk=>(k:Int)) (out:=λk=>(if cx (s.Down.drop k) (a.drop k) (b.drop k)=0 then .inl ()else .inr (cx (s.Down.drop k) (a.drop k) (b.drop k)):Unit⊕Int)) s.aq.length (λk hk=>?_) ?_ 0 ω
  .have k1:k<a.length:=by omega
   have k2:k<b.length:=by omega
   have k3:k<s.Down.length:=by omega
   obtain⟨a1,a2⟩:=jJ ha k hk k1
   obtain⟨b1,b2⟩:=jJ hb k hk k2
   have key: ∀(c:Int) (g:Nat->Option Int),(∀f,g f=some c)->c=pN s.Down[k] a[k] b[k]->
     (Ev (λf=>(g f).bind λr=>bif (r !=0)then some (.inr (.inr r))else some (.inl (IntKind.wrap .i64 ((k:Int)+1)))) (.inl (((k+1:Nat):Int)):Int⊕(Unit⊕Int))/\
      (if cx (s.Down.drop (k+1)) (a.drop (k+1)) (b.drop (k+1))=0 then .inl ()else .inr (cx (s.Down.drop (k+1)) (a.drop (k+1)) (b.drop (k+1))):Unit⊕Int)=(if cx (s.Down.drop k) (a.drop k) (b.drop k)=0 then .inl ()else .inr (cx (s.Down.drop k) (a.drop k) (b.drop k))))\/
     Ev (λf=>(g f).bind λr=>bif (r !=0)then some (.inr (.inr r))else some (.inl (IntKind.wrap .i64 ((k:Int)+1)))) (.inr (if cx (s.Down.drop k) (a.drop k) (b.drop k)=0 then .inl ()else .inr (cx (s.Down.drop k) (a.drop k) (b.drop k))):Int⊕(Unit⊕Int)):=by
    intro c g hg hc
    rw[aH k1,aH k2,aH k3,cx,<-hc]
    by_cases hz:c=0
    .refine .inl ⟨.bind (.of hg)<|.f (by simp[hz]) ?_,by rw[if_pos hz]⟩
     rw[cZ ω];exact .pure _
    .refine .inr (.bind (.of hg)<|.t (by simp[hz]) ?_)
     rw[if_neg hz,if_neg hz];exact .pure _
   have hw: ∀x y:Value,vk x=true->vk y=true->IntKind.wrap .i64 (x.N - y.N)=x.N - y.N:=by
    intro x y hx hy
    rcases po hx with⟨_,n1,n2,_⟩|⟨_,n1,_⟩<;>rcases po hy with⟨_,m1,m2,_⟩|⟨_,m1,_⟩<;>exact cC ω ω
   have hk12:s.aq[k]=1\/s.aq[k]=2:=by
    rcases po a2 with h|h
    .grind
    grind
   unfold mX
   rcases hk12 with h1|h1<;>cases hdn:s.Down[k]
   .have:=key _ (λf=>iu f a[k] b[k]) (λf=>rfl) (by rw[hdn,hw _ _ a2 b2];simp only[pN,fM,g_7,if_false];rw[if_pos ω])
    refine this.imp (λ⟨h,e⟩=>⟨.t (eO hk)<|.ae (aw hk)<|.aP<|.ae (aw k3)<|.f hdn<|.t ?_<|.ae (aw k1)<|.ae (aw k2) h,e⟩) (λh=>.t (eO hk)<|.ae (aw hk)<|.aP<|.ae (aw k3)<|.f hdn<|.t ?_<|.ae (aw k1)<|.ae (aw k2) h)<;>rw[h1]<;>rfl
   .have:=key _ (λf=>ir f a[k] b[k]) (λf=>rfl) (by rw[hdn,hw _ _ b2 a2];simp only[pN,fM,if_true];rw[if_pos ω])
    refine this.imp (λ⟨h,e⟩=>⟨.t (eO hk)<|.ae (aw hk)<|.aP<|.ae (aw k3)<|.t hdn<|.f ?_<|.t ?_<|.ae (aw k1)<|.ae (aw k2) h,e⟩) (λh=>.t (eO hk)<|.ae (aw hk)<|.aP<|.ae (aw k3)<|.t hdn<|.f ?_<|.t ?_<|.ae (aw k1)<|.ae (aw k2) h)<;>rw[h1]<;>rfl
   .have:=key _ (λf=>im f a[k] b[k]) (λf=>rfl) (by rw[hdn];simp only[pN,fM,g_7,if_false];rw[if_neg ω])
    refine this.imp (λ⟨h,e⟩=>⟨.t (eO hk)<|.ae (aw hk)<|.aP<|.ae (aw k3)<|.f hdn<|.f ?_<|.f ?_<|.t ?_<|.ae (aw k1)<|.ae (aw k2) h,e⟩) (λh=>.t (eO hk)<|.ae (aw hk)<|.aP<|.ae (aw k3)<|.f hdn<|.f ?_<|.f ?_<|.t ?_<|.ae (aw k1)<|.ae (aw k2) h)<;>rw[h1]<;>rfl
   .have:=key _ (λf=>ig f a[k] b[k]) (λf=>rfl) (by rw[hdn];simp only[pN,fM,if_true];rw[if_neg ω])
    refine this.imp (λ⟨h,e⟩=>⟨.t (eO hk)<|.ae (aw hk)<|.aP<|.ae (aw k3)<|.t hdn<|.f ?_<|.f ?_<|.f ?_<|.t ?_<|.ae (aw k1)<|.ae (aw k2) h,e⟩) (λh=>.t (eO hk)<|.ae (aw hk)<|.aP<|.ae (aw k3)<|.t hdn<|.f ?_<|.f ?_<|.f ?_<|.t ?_<|.ae (aw k1)<|.ae (aw k2) h)<;>rw[h1]<;>rfl
  .unfold mX
   refine .f (mn (g_9 _)) ?_
   have:cx (s.Down.drop s.aq.length) (a.drop s.aq.length) (b.drop s.aq.length)=0:=by rw[<-hd,m_9];rfl
   rw[this];exact .pure _
 unfold mL
 refine .bind (.of λ_=>rfl)<|.bind main.ev ?_
 by_cases h:cx s.Down a b=0
 .rw[if_pos h,h];exact .pure _
 .rw[if_neg h];exact .pure _
def i64(x:Int):Prop:= -9223372036854775808<=x/\x<9223372036854775808
def bO(s:ak)(a b:Entry):Int:=if cx s.Down a.Row b.Row=0 then(if s.cW=2 then b.Number - a.Number else a.Number - b.Number)else cx s.Down a.Row b.Row
def nI(s:ak)(a:Entry):Bool:=bc s.aq a.Row&&(decide (1<=a.Key)&&decide (a.Key<=1000000))&&decide (1<=a.Number)
def iD(h:oa s=true):s.aq.length<=8/\s.Down.length=s.aq.length:=by
 simp only[oa,g_3,decide_eq_true_eq,beq_iff_eq]at h
 exact⟨h.1.1.1.1.2,h.1.1.1.2⟩
def pb(hs:oa s=true)(ha:bc s.aq a.Row=true)(hb:bc s.aq b.Row=true)(na:1<=a.Number/\i64 a.Number)(nb:1<=b.Number/\i64 b.Number):
  Ev (λf=>j6 f s a b) (bO s a b):=by
 obtain⟨h8,hd⟩:=iD hs
 unfold j6 bO
 refine .bind (m8 s hd ha hb h8) ?_
 unfold i64 at na nb
 by_cases hz:cx s.Down a.Row b.Row=0
 .rw[if_pos hz]
  refine .f (by simp[hz]) ?_
  by_cases h2:s.cW=2
  .rw[if_pos h2];refine .t (by simp[h2]) ?_;rw[cC ω ω];exact .pure _
  .rw[if_neg h2];refine .f (by simp[h2]) ?_;rw[cC ω ω];exact .pure _
 .rw[if_neg hz]
  exact .t (by simp[hz]) (.pure _)
def rp(hs:oa s=true)(ha:bc s.aq a.Row=true)(hb:bc s.aq b.Row=true):
  Ev (λf=>nj f s a b) (decide (bO s a b<0)):=by
 obtain⟨h8,hd⟩:=iD hs
 unfold nj bO
 refine .bind (AU s hd ha hb h8) ?_
 by_cases hz:cx s.Down a.Row b.Row=0
 .rw[if_pos hz,hz]
  refine .f rfl ?_
  by_cases h2:s.cW=2
  .rw[if_pos h2];refine .t (by simp[h2]) ?_
   rw[show decide (a.Number>b.Number)=decide (b.Number - a.Number<0)by rw[decide_eq_decide];omega];exact .pure _
  .rw[if_neg h2];refine .f (by simp[h2]) ?_
   rw[show decide (a.Number<b.Number)=decide (a.Number - b.Number<0)by rw[decide_eq_decide];omega];exact .pure _
 .rw[if_neg hz]
  refine .t (by simp;rwa [nf]) ?_
  rw[show decide (qa (cx s.Down a.Row b.Row)<0)=decide (cx s.Down a.Row b.Row<0)by rw[decide_eq_decide,KA]];exact .pure _
def CW(f:Nat)(k:Int):Ax f k=some (decide (1<=k)&&decide (k<=1000000)):=rfl
def zC(f:Nat)(k:Int):sh f k=some (decide (1<=k)&&decide (k<=1000000)):=rfl
def tI(hs:oa s=true)(la:a.Row.length<1000):Ev (λf=>sj f s a) (nI s a):=by
 unfold sj nI
 refine .bind (vt s a.Row hs la) ?_
 cases bc s.aq a.Row
 .exact .f rfl (.pure _)
 .exact .t rfl<|.bind (.of λn=>zC n _) (.pure _)
def xJ(x y z:Int):Prop:=x<=0->y<=0->z<=0/\(z=0->x=0/\y=0)
def E7(a b c:List UInt8):xJ (Lib.compareBytes a b) (Lib.compareBytes b c) (Lib.compareBytes a c):=by
 have hl: ∀a b,Lib.compareBytes a b<0<->Op.bytesLess a b=true:=λa b=>by rw[<-HG,decide_eq_true_eq]
 have hz: ∀a b,Lib.compareBytes a b=0<->a=b:=λa b=>by have:=BO a b;grind
 intro h1 h2
 rcases Int.lt_or_eq_of_le h1 with h1|h1<;>rcases Int.lt_or_eq_of_le h2 with h2|h2
 .have:=(hl a c).2 (zm ((hl a b).1 h1) ((hl b c).1 h2))
  omega
 .grind
 .grind
 grind
def J3(h1:u.Kind=k)(h2:v.Kind=k)(h3:w.Kind=k):xJ (fM u v) (fM v w) (fM u w):=by
 unfold fM
 rw[h1,h2]
 split
 .unfold xJ;omega
 .exact E7 _ _ _
def wL: ∀(ds:List Bool) {ks:List Int} {u v w:List Value},bc ks u=true->bc ks v=true->bc ks w=true->xJ (cx ds u v) (cx ds v w) (cx ds u w)
 |[],ks,u,v,w,_,_,_=>by simp[cx,xJ]
 |d::ds,[],[],[],[],_,_,_=>by simp[cx,xJ]
 |d::ds,k::ks,x::u,y::v,z::w,h1,h2,h3=>by
  simp only[bc,g_3,beq_iff_eq]at h1 h2 h3
  have ih:=wL ds h1.2 h2.2 h3.2
  have hv:xJ (pN d x y) (pN d y z) (pN d x z):=by
   cases d
   .exact J3 h1.1.1 h2.1.1 h3.1.1
   .have:=J3 h3.1.1 h2.1.1 h1.1.1
    intro p q
    obtain⟨r1,r2⟩:=this q p
    exact⟨r1,λe=>(r2 e).symm⟩
  simp only[cx]
  unfold xJ at *
  grind
def sF: ∀(ds:List Bool) {ks:List Int} {u v:List Value},bc ks u=true->bc ks v=true->cx ds v u= - cx ds u v
 |[],ks,u,v,_,_=>rfl
 |d::ds,[],[],[],_,_=>rfl
 |d::ds,k::ks,x::u,y::v,h1,h2=>by
  simp only[bc,g_3,beq_iff_eq]at h1 h2
  have ih:=sF ds h1.2 h2.2
  have hv:fM y x= - fM x y:=by
   unfold fM
   rw[h1.1.1,h2.1.1]
   split
   .omega
   .exact sT _ _
  have hd:pN d y x= - pN d x y:=by
   cases d
   .exact hv
   .show fM x y= - fM y x
    omega
  simp only[cx]
  split<;>split<;>omega
def tR(ha:bc s.aq a.Row=true)(hb:bc s.aq b.Row=true):bO s b a= - bO s a b:=by
 have:=sF s.Down ha hb
 unfold bO
 grind
def wV(ha:bc s.aq a.Row=true)(hb:bc s.aq b.Row=true)(hc:bc s.aq c.Row=true)(h1:bO s a b<0)(h2:bO s b c<0):bO s a c<0:=by
 have:=wL s.Down ha hb hc
 unfold xJ at this
 unfold bO at *
 grind
def jg(h:H[i]? =some (.cells cs)):jI H i=some cs:=by unfold jI;rw[h]
def bU{α:Type}{c:Cc α}{x:α}(h:H[i]? =some (.cells cs))(e:cs.drop off=c.enc x++r):aR c H i off=some x:=by
 unfold aR
 rw[jg h,k_2,e,c.ed]
 rfl
def eW{α:Type}{c:Cd α}{x:α}(h:H[i]? =some (.cells cs))(e:off+(c.enc x).cells.length<=cs.length):cH c H i off x=some (H.set i (.cells (setCells cs off (c.enc x).cells))):=by
 unfold cH Bu
 rw[jg h,k_2,if_pos e]
def dB{α:Type}{c:Cd α}{xs:List α}(h:H[i]? =some (.cells cs))(e:cs[off]? =some (.own n (xs.map c.enc))):aW n c H i off=some xs:=by
 unfold aW
 rw[jg h,k_2,e]
 simp only[if_true]
 exact lx c xs
def sM{α:Type}{c:Cd α}{xs:List α}(h:H[i]? =some (.cells cs))(e:cs[off]? =some (.d (.list n (xs.map c.enc)))):aW n c H i off=some xs:=by
 unfold aW
 rw[jg h,k_2,e]
 simp only[if_true]
 exact lx c xs
def mh{α:Type}{c:Cd α}{xs:List α}(h:H[i]? =some (.cells cs))(e:cs[off]? =some (.own n (xs.map c.enc))):cw n c H i off=some (xs,H.set i (.cells (cs.set off .undef))):=by
 unfold cw
 rw[jg h,k_2,e]
 simp only[if_true,lx,m_0]
def gy{α:Type}{c:Cd α}{xs:List α}(h:H[i]? =some (.cells cs))(e:off<cs.length):bT n c H i off xs=some (H.set i (.cells (cs.set off (.own n (xs.map c.enc))))):=by
 unfold bT
 rw[jg h,k_2,if_pos e]
def zU{K V:Type}[BEq K]{k:Kc K}{v:Cd V}{es:List (K×V)}(h:H[i]? =some (.map (es.map (jR k v)))):xh k v H (some i)=some es:=vA.2 h
def Bv{K V:Type}[BEq K]{k:Kc K}{v:Cd V}{es:List (K×V)}{x:K}(h:H[i]? =some (.map (es.map (jR k v)))):xi k v H (some i) x=some (es.lookup x):=by
 unfold xi
 rw[zU h]
 rfl
def Hl{K V:Type}[BEq K]{k:Kc K}{v:Cd V}{es:List (K×V)}{x:K}{y:V}(h:H[i]? =some (.map (es.map (jR k v)))):xg k v H (some i) x y=some (H.set i (.map ((xQ x y es).map (jR k v)))):=by
 unfold xg
 rw[k_2,zU h]
 rfl
def Jq{K V:Type}[BEq K]{k:Kc K}{v:Cd V}{es:List (K×V)}(h:H[i]? =some (.map (es.map (jR k v)))):zV k v H (some i)=some (es.length:Int):=by
 unfold zV
 rw[zU h]
 rfl
def CO(l:List Int):List (Int×Bool):=l.map λn=>(n,true)
def AZ(l:List Int)(n:Int):((CO l).lookup n).getD false=l.contains n:=by
 induction l with
 |nil=>rfl
 |cons a l ih=>
  simp only[CO,h_3,List.lookup,List.contains_cons]at ih ⊢
  grind
def Jg(h:l.contains n=false):xQ n true (CO l)=CO (l++[n]):=by
 induction l with
 |nil=>rfl
 |cons a l ih=>
  simp only[List.contains_cons,Bool.or_eq_false_iff]at h
  simp only[CO,h_3,m_5,xQ,h.1,g_7,if_false]at ih ⊢
  rw[ih h.2]
def gg{H:Hp}{i j:Nat}{o:aD}(h:j≠i):(H.set i o)[j]? =H[j]? :=by grind
def cA{H:Hp}{i:Nat}{o o':aD}(h:H[i]? =some o'):(H.set i o)[i]? =some o:=by
 grind
set_option maxRecDepth 100000
def sY:Ev (λf=>qj f) true:=⟨40,λn hn=>by
 obtain⟨m,rfl⟩:=Nat.exists_eq_add_of_le' hn
 kernel_rfl⟩
def qy(s:ak)(a b:Entry):Bool:=decide (bO s a b<0)&&(s.cW !=1||cx s.Down a.Row b.Row !=0)
def zp{s:ak}(ha:bc s.aq a.Row=true)(hb:bc s.aq b.Row=true)(hc:bc s.aq c.Row=true)(h1:qy s a b=true)(h2:qy s b c=true):qy s a c=true:=by
 unfold qy at *
 simp only[g_3,decide_eq_true_eq,p_2,bne_iff_ne,ne_eq]at *
 refine⟨wV ha hb hc h1.1 h2.1,?_⟩
 rcases h1.2 with h|h
 .exact .inl h
 rcases h2.2 with h'|h'
 .exact .inl h'
 right
 have h3:=wL s.Down ha hb hc
 have e1:=h1.1
 have e2:=h2.1
 unfold bO at e1 e2
 rw[if_neg h]at e1
 rw[if_neg h']at e2
 intro e
 have:=(h3 ω ω).2 e
 exact h this.1
def gN(s:ak):Option Entry->Entry->Bool
 |none,_=>true
 |some a,e=>qy s a e
def Ai(s:ak):Option Entry->List Entry->Bool
 |_,[]=>true
 |p,e::l=>gN s p e&&Ai s (some e) l
def xm(s:ak)(last:Int)(met:List Int)(e:Entry):Bool:=nI s e&&decide (e.Number<=last)&&!met.contains e.Number
def np(s:ak)(last:Int):List Int->List Entry->Option (List Int)
 |met,[]=>some met
 |met,e::l=>if xm s last met e then np s last (met++[e.Number]) l else none
def Iv(s:ak)(last:Int):Option Entry->List Int->List Entry->Option (List Int)
 |_,met,[]=>some met
 |p,met,e::l=>if xm s last met e then(if gN s p e then Iv s last (some e) (met++[e.Number]) l else none)else none
def Gq(s:ak)(last:Int): ∀(l:List Entry) (p:Option Entry) (met:List Int),Iv s last p met l=if Ai s p l then np s last met l else none
 |[],p,met=>by simp[Iv,Ai,np]
 |e::l,p,met=>by
  simp only[Iv,Ai,np]
  rw[Gq s last l]
  grind
def vv(tr m:Nat)(nodes:List Node)(nx bad:Int):aD:=.cells [.d (cP.enc (some tr)),.d (.list 3 (List.map bn nodes)),.d (.int .i64 nx),.d (.map m),.d (.int .i64 bad)]
def gZ(s:ak)(order:Int)(root:Option Nat)(last count:Int):aD:=
 .cells [.d (.list 1 (List.map (D.int .i64) s.aq)),.d (.list 1 (List.map D.bool s.Down)),.d (.int .i64 s.cW),.d (.int .i64 order),.d (cP.enc root),.d (.int .i64 last),.d (.int .i64 count)]
def eG(met:List Int):aD:=.map ((CO met).map (jR (kI .i64) cB))
structure k7(p0 tr m:Nat)(s:ak)(order last:Int)(nodes:List Node)(H:Hp)(nx bad:Int):Prop where
 hp:H[p0]? =some (vv tr m nodes nx bad)
 ht: ∃r c,H[tr]? =some (gZ s order r last c)
 hm: ∃o,H[m]? =some o
 n1:p0≠m
 n2:tr≠m
 n3:tr≠p0
section
variable {p0 tr m:Nat} {s:ak} {order last:Int} {nodes:List Node} {H:Hp} {nx bad:Int}
def k7.map(h:k7 p0 tr m s order last nodes H nx bad)(o:aD):k7 p0 tr m s order last nodes (H.set m o) nx bad:=by
 obtain⟨o',ho⟩:=h.hm
 exact⟨by rw[gg h.n1];exact h.hp,by rw[gg h.n2];exact h.ht,⟨_,cA ho⟩,h.n1,h.n2,h.n3⟩
def k7.tree(h:k7 p0 tr m s order last nodes H nx bad):aR cP.cell H p0 0=some (some tr):=bU (r:=[.d (.list 3 (List.map bn nodes)),.d (.int .i64 nx),.d (.map m),.d (.int .i64 bad)]) h.hp rfl
def k7.gq(h:k7 p0 tr m s order last nodes H nx bad):aW 3 xz H p0 1=some nodes:=sM h.hp rfl
def k7.FO(h:k7 p0 tr m s order last nodes H nx bad):aR (cI .i64).cell H p0 2=some nx:=bU (r:=[.d (.map m),.d (.int .i64 bad)]) h.hp rfl
def k7.mp(h:k7 p0 tr m s order last nodes H nx bad):aR cM.cell H p0 3=some (some m):=bU (r:=[.d (.int .i64 bad)]) h.hp rfl
def k7.bd(h:k7 p0 tr m s order last nodes H nx bad):aR (cI .i64).cell H p0 4=some bad:=bU (r:=[]) h.hp rfl
def k7.wj(h:k7 p0 tr m s order last nodes H nx bad):aR cj.cells H tr 0=some s:=by
 obtain⟨r,c,ht⟩:=h.ht
 exact bU (r:=[.d (.int .i64 order),.d (cP.enc r),.d (.int .i64 last),.d (.int .i64 c)]) ht rfl
def k7.dup(h:k7 p0 tr m s order last nodes H nx bad):aR (cI .i64).cell H tr 2=some s.cW:=by
 obtain⟨r,c,ht⟩:=h.ht
 exact bU (r:=[.d (.int .i64 order),.d (cP.enc r),.d (.int .i64 last),.d (.int .i64 c)]) ht rfl
def k7.ord(h:k7 p0 tr m s order last nodes H nx bad):aR (cI .i64).cell H tr 3=some order:=by
 obtain⟨r,c,ht⟩:=h.ht
 exact bU (r:=[.d (cP.enc r),.d (.int .i64 last),.d (.int .i64 c)]) ht rfl
def k7.ba(h:k7 p0 tr m s order last nodes H nx bad):aR (cI .i64).cell H tr 5=some last:=by
 obtain⟨r,c,ht⟩:=h.ht
 exact bU (r:=[.d (.int .i64 c)]) ht rfl
def k7.zx(h:k7 p0 tr m s order last nodes H nx bad)(b:Int):cH (cI .i64) H p0 4 b=some (H.set p0 (vv tr m nodes nx b)):=eW h.hp (by simp[cI,D.cells])
def k7.Mp(h:k7 p0 tr m s order last nodes H nx bad)(b:Int):cH (cI .i64) H p0 2 b=some (H.set p0 (vv tr m nodes b bad)):=eW h.hp (by simp[cI,D.cells])
def k7.put(h:k7 p0 tr m s order last nodes H nx bad)(a b:Int):k7 p0 tr m s order last nodes (H.set p0 (vv tr m nodes a b)) a b:=by
 obtain⟨o',ho⟩:=h.hm
 exact⟨cA h.hp,by rw[gg h.n3];exact h.ht,⟨o',by rw[gg (j_4 h.n1)];exact ho⟩,h.n1,h.n2,h.n3⟩
def xF(hs:oa s=true)(h:k7 p0 tr m s order last nodes H nx bad)(ha:nI s a=true)(hb:nI s b=true)(na:i64 a.Number)(nb:i64 b.Number):Ev (λf=>bL f p0 a b H) (qy s a b):=by
 have fa:bc s.aq a.Row=true:=by simp only[nI,g_3]at ha;exact ha.1.1
 have fb:bc s.aq b.Row=true:=by simp only[nI,g_3]at hb;exact hb.1.1
 have a1:1<=a.Number:=by simp only[nI,g_3,decide_eq_true_eq]at ha;exact ha.2
 have b1:1<=b.Number:=by simp only[nI,g_3,decide_eq_true_eq]at hb;exact hb.2
 obtain⟨h8,hd⟩:=iD hs
 unfold bL qy
 refine .ae h.tree<|.ae rfl<|.ae h.wj<|.bind (pb hs fa fb ⟨a1,na⟩ ⟨b1,nb⟩) ?_
 cases hc:decide (bO s a b<0)with
 |false=>exact .f rfl (.pure _)
 |true=>
  refine .t rfl<|.ae h.tree<|.ae rfl<|.ae h.dup ?_
  cases hd1:s.cW !=1 with
  |true=>exact .t rfl (.pure _)
  |false=>exact .f rfl<|.ae h.tree<|.ae rfl<|.ae h.wj<|.bind (m8 s hd fa fb h8) (.pure _)
def By(h:xm s last met e=true):nI s e=true/\e.Number<=last/\met.contains e.Number=false:=by
 simp only[xm,g_3,decide_eq_true_eq,k_3]at h
 exact⟨h.1.1,h.1.2,h.2⟩
def yw(hs:oa s=true)(h:k7 p0 tr m s order last nodes H nx bad)(hl:x.Entries.length<1000000)(hr: ∀e∈x.Entries,e.Row.length<1000/\i64 e.Number):
  ∀(l:List Entry) (k:Nat) (p:Option Entry) (met:List Int),x.Entries.drop k=l->(k=0->p=none)->(∀j,k=j+1->p=x.Entries[j]?)->(∀e,p=some e->nI s e=true)->
   match Iv s last p met l with
   |some met'=>gT (λf=>bQ f p0 x) (x.Level,x.Entries,x.Kids,(k:Int),H.set m (eG met)) (.inl (H.set m (eG met')))
   |none=> ∃met',gT (λf=>bQ f p0 x) (x.Level,x.Entries,x.Kids,(k:Int),H.set m (eG met)) (.inr (false,H.set m (eG met')))
 |[],k,p,met,hd,h0,h1,hp=>by
  have hk:x.Entries.length<=k:=by simpa using hd
  simp only[Iv]
  refine .stop ?_
  unfold bQ
  exact .f (mn hk) (.pure _)
 |e::l,k,p,met,hd,h0,h1,hp=>by
  have hk:k<x.Entries.length:=by
   by_cases hk:k<x.Entries.length
   .exact hk
   .rw[List.drop_eq_nil_of_le ω]at hd;cases hd
  have hek:x.Entries[k]=e:=by rw[aH hk]at hd;exact(j_0 hd).1
  have hdl:x.Entries.drop (k+1)=l:=by rw[aH hk]at hd;exact(j_0 hd).2
  have he:=hr e (hek▸j_2 hk)
  have hM:(H.set m (eG met))[m]? =some (eG met):=by obtain⟨o,ho⟩:=h.hm;exact cA ho
  have g:=h.map (eG met)
  simp only[Iv]
  have bad1:xm s last met e=false->Ev (λf=>bQ f p0 x (x.Level,x.Entries,x.Kids,(k:Int),H.set m (eG met))) (.inr (.inr (false,H.set m (eG met)))):=by
   intro hf
   unfold bQ
   refine .t (eO hk)<|.ae (aw hk)<|.aP ?_
   rw[hek]
   refine .ae g.tree<|.ae rfl<|.ae g.wj<|.bind (sO s e.Row he.1) ?_
   cases h1:bc s.aq e.Row with
   |false=>exact .t rfl<|.t rfl (.pure _)
   |true=>
    refine .f rfl<|.bind (.of λn=>CW n _) ?_
    by_cases h2:(1<=e.Key/\e.Key<=1000000)/\1<=e.Number
    .refine .f φ<|.ae g.tree<|.ae rfl<|.ae g.ba ?_
     by_cases h3:e.Number<=last
     .refine .f φ<|.ae g.mp<|.ae (Bv hM) ?_
      have:met.contains e.Number=true:=by
       cases hc:met.contains e.Number with
       |true=>rfl
       |false=>
        have:xm s last met e=true:=by simp only[xm,nI,h1,hc,g_3,decide_eq_true_eq,j_7,Bool.not_false,and_true];grind
        rw[this]at hf;cases hf
      exact .t (by rw[AZ,this]) (.pure _)
     .exact .t φ<|.t rfl (.pure _)
    .exact .t φ<|.t rfl (.pure _)
  cases hf:xm s last met e with
  |false=>exact⟨met,.stop (bad1 hf)⟩
  |true=>
   obtain⟨f1,f2,f3⟩:=By hf
   have f1':=f1
   simp only[nI,g_3,decide_eq_true_eq]at f1'
   have og:(H.set m (eG met)).set m (eG (met++[e.Number]))=H.set m (eG (met++[e.Number])):=by rw[m_6]
   have hput:xg (kI .i64) cB (H.set m (eG met)) (some m) e.Number true=some (H.set m (eG (met++[e.Number]))):=by
    rw[Hl hM,Jg f3,<-og];rfl
   have g2:=h.map (eG (met++[e.Number]))
   have key:Ev (λf=>bQ f p0 x (x.Level,x.Entries,x.Kids,(k:Int),H.set m (eG met)))
     (if gN s p e=true then .inl (x.Level,x.Entries,x.Kids,((k+1:Nat):Int),H.set m (eG (met++[e.Number])))else .inr (.inr (false,H.set m (eG (met++[e.Number]))))):=by
    unfold bQ
    refine .t (eO hk)<|.ae (aw hk)<|.aP ?_
    rw[hek]
    refine .ae g.tree<|.ae rfl<|.ae g.wj<|.bind (sO s e.Row he.1) ?_
    rw[f1'.1.1]
    refine .f rfl<|.bind (.of λn=>CW n _) ?_
    refine .f φ<|.ae g.tree<|.ae rfl<|.ae g.ba ?_
    refine .f φ<|.ae g.mp<|.ae (Bv hM) ?_
    refine .f (by rw[AZ,f3])<|.ae g.mp<|.ae hput<|.aP ?_
    rw[cZ ω]
    obtain rfl|⟨j,rfl⟩:k=0\/ ∃j,k=j+1:=by cases k<;>simp
    .have hp0:=h0 rfl
     subst hp0
     simp only[gN]
     exact .f ψ<|.f ψ (.pure _)
    .have hj:j<x.Entries.length:=by omega
     have hp1:=h1 j rfl
     rw[h_7 hj]at hp1
     have ha:=hp _ hp1
     have hna:=hr _ (j_2 hj)
     subst hp1
     simp only[gN]
     have hix:idx x.Entries (IntKind.wrap .i64 (((j+1:Nat):Int) - 1))=some x.Entries[j]:=by
      rw[cC ω ω,show((j+1:Nat):Int) - 1=(j:Int)by omega];exact aw hj
     have ha':=ha
     simp only[nI,g_3,decide_eq_true_eq]at ha'
     obtain⟨h8,hd⟩:=iD hs
     refine .t φ<|.ae g2.tree<|.ae rfl<|.ae g2.wj<|.ae hix<|.bind (pb hs ha'.1.1 f1'.1.1 ⟨ha'.2,hna.2⟩ ⟨f1'.2,he.2⟩) ?_
     by_cases hc:bO s x.Entries[j] e<0
     .refine .f φ<|.t φ<|.ae g2.tree<|.ae rfl<|.ae g2.dup ?_
      by_cases hdp:s.cW=1
      .refine .t (by simp[hdp])<|.ae g2.tree<|.ae rfl<|.ae g2.wj<|.ae hix<|.bind (m8 s hd ha'.1.1 f1'.1.1 h8) ?_
       by_cases hz:cx s.Down x.Entries[j].Row e.Row=0
       .simp only[show qy s x.Entries[j] e=false by simp[qy,hdp,hz],g_7,if_false]
        exact .t (by simp[hz]) (.pure _)
       .simp only[show qy s x.Entries[j] e=true by simp[qy,hc,hz],if_true]
        exact .f (by simp[hz]) (.pure _)
      .simp only[show qy s x.Entries[j] e=true by simp[qy,hc,hdp],if_true]
       exact .f (by simp[hdp]) (.pure _)
     .simp only[show qy s x.Entries[j] e=false by simp[qy,hc],g_7,if_false]
      exact .t φ (.pure _)
   simp only[if_true]
   by_cases ho:gN s p e=true
   .rw[if_pos ho]at key ⊢
    have ih:=yw hs h hl hr l (k+1) (some e) (met++[e.Number]) hdl ω (λj hj=>by
     grind) (λe' h'=>by cases h';exact f1)
    cases hq:Iv s last (some e) (met++[e.Number]) l with
    |none=>rw[hq]at ih;obtain⟨met',ih⟩:=ih;exact⟨met',.next key ih⟩
    |some met'=>rw[hq]at ih;exact .next key ih
   .rw[if_neg ho]at key ⊢
    exact⟨_,.stop key⟩
end
set_option maxRecDepth 100000
def kJ{α:Type}{F g:Nat->Option α}{r:α}(h: ∀n,F (n+1)=g n)(hg:Ev g r):Ev F r:=by
 obtain⟨N,hN⟩:=hg
 refine⟨N+1,λn hn=>?_⟩
 obtain⟨n,rfl⟩: ∃k,n=k+1:=⟨n - 1,ω⟩
 rw[h]
 exact hN n ω
section
variable (s:ak) (order last:Int) (nodes:List Node)
def oz(low high:Option Entry)(x:Node):Bool:=
 (match low,x.Entries.head? with|some l,some a=>qy s l a|_,_=>true)&&(match high,x.Entries.getLast? with|some h,some b=>qy s b h|_,_=>true)
def vp(root:Bool)(x:Node):Bool:=decide ((x.Entries.length:Int)<=order)&&(root||decide (order / 2<=(x.Entries.length:Int)))
def vl(root:Bool)(level:Int)(x:Node):Bool:=decide (0<=x.Level)&&(root||x.Level==level)
def w9(x:Node):Bool:=x.Kids.length==(if 0<x.Level then x.Entries.length+1 else 0)&&x.Kids.length !=1
def qg(root:Bool)(level:Int)(low high:Option Entry)(met:List Int)(x:Node):Option (List Int):=
 if vp order root x&&vl root level x&&w9 x&&Ai s none x.Entries&&oz s low high x then np s last met x.Entries else none
def nz(x:Node)(low:Option Entry)(i:Nat):Option Entry:=if 0<i then x.Entries[i - 1]? else low
def gP(x:Node)(high:Option Entry)(i:Nat):Option Entry:=if i<x.Entries.length then x.Entries[i]? else high
def oW(rc:Nat->Int->Option Entry->Option Entry->List Int->Nat⊕(Nat×List Int))(at_:Nat)(x:Node)(low high:Option Entry):List Int->Nat->Nat->List Int->Nat⊕(Nat×List Int)
 |[],_,nx,met=>.inr (nx,met)
 |k::ks,i,nx,met=>if k=(nx:Int)/\nx<nodes.length then
   match rc nx (x.Level - 1) (nz x low i) (gP x high i) met with
   |.inl b=>.inl b
   |.inr (nx',met')=>oW rc at_ x low high ks (i+1) nx' met'
  else .inl at_
def wk:Nat->Nat->Int->Option Entry->Option Entry->List Int->Nat⊕(Nat×List Int)
 |0,at_,_,_,_,_=>.inl at_
 |d+1,at_,level,low,high,met=>match nodes[at_]? with
  |none=>.inl at_
  |some x=>match qg s order last (at_==0) level low high met x with
   |none=>.inl at_
   |some met'=>oW nodes (wk d) at_ x low high x.Kids 0 (at_+1) met'
end
def cz(es:List Entry)(is:List (Option Nat)):aD:=.cells [.own 3 (List.map ab es),.own 1 (List.map cP.enc is)]
def yc(P:Nat->Nat->Nat->Prop):List Int->List (Option Nat)->Nat->Nat->Prop
 |[],[],a,z=>a=z
 |k::ks,some i::is,a,z=>k=(a:Int)/\ ∃m,P a m i/\yc P ks is m z
 |_,_,_,_=>False
def HN(b:Nat)(nodes:List Node)(H:Hp):Nat->Nat->Nat->Nat->Prop
 |0,a,z,i=> ∃x,nodes[a]? =some x/\x.Level=0/\x.Kids=[]/\H[i]? =some (cz x.Entries [])/\z=a+1/\b<=i
 |lv+1,a,z,i=> ∃x is,nodes[a]? =some x/\x.Level=((lv+1:Nat):Int)/\x.Kids.length=x.Entries.length+1/\H[i]? =some (cz x.Entries is)/\b<=i/\yc (HN b nodes H lv) x.Kids is (a+1) z
def yc.mono{P P':Nat->Nat->Nat->Prop}(h: ∀a z i,P a z i->P' a z i): ∀{ks:List Int} {is:List (Option Nat)} {a z:Nat},yc P ks is a z->yc P' ks is a z
 |[],[],a,z,hh=>hh
 |k::ks,some i::is,a,z,hh=>by
  obtain⟨h1,m,h2,h3⟩:=hh
  exact⟨h1,m,h _ _ _ h2,yc.mono h h3⟩
 |[],some _::_,_,_,hh=>hh.elim
 |[],none::_,_,_,hh=>hh.elim
 |_::_,[],_,_,hh=>hh.elim
 |_::_,none::_,_,_,hh=>hh.elim
def HN.frame{nodes:List Node}{H:Hp}(h: ∀j,b<=j->j<H.length->H'[j]? =H[j]?): ∀{lv a z i:Nat},HN b nodes H lv a z i->HN b nodes H' lv a z i
 |0,a,z,i,hh=>by
  obtain⟨x,h1,h2,h3,h4,h5,h6⟩:=hh
  exact⟨x,h1,h2,h3,φ,h5,h6⟩
 |lv+1,a,z,i,hh=>by
  obtain⟨x,is,h1,h2,h3,h4,h5,h6⟩:=hh
  exact⟨x,is,h1,h2,h3,φ,h5,h6.mono λ_ _ _ hp=>HN.frame h hp⟩
def HN.base(hb:b'<=b){nodes:List Node}{H:Hp}: ∀{lv a z i:Nat},HN b nodes H lv a z i->HN b' nodes H lv a z i
 |0,a,z,i,hh=>by
  obtain⟨x,h1,h2,h3,h4,h5,h6⟩:=hh
  exact⟨x,h1,h2,h3,h4,h5,ω⟩
 |lv+1,a,z,i,hh=>by
  obtain⟨x,is,h1,h2,h3,h4,h5,h6⟩:=hh
  exact⟨x,is,h1,h2,h3,h4,ω,h6.mono λ_ _ _ hp=>HN.base hb hp⟩
section
variable {p0 tr m:Nat} {s:ak} {order last:Int} {nodes:List Node} {H:Hp} {nx bad:Int}
def Bf(h:k7 p0 tr m s order last nodes H nx bad)(h3:3<=order)(h32:order<=32):Ev (λf=>b9 f tr H) (order / 2):=by
 unfold b9
 refine .ae h.ord ?_
 rw[show Int.tdiv order 2=order / 2 by grind,cC ω ω]
 exact .pure _
def Gp(hs:oa s=true)(h:k7 p0 tr m s order last nodes H nx bad)(hm:H[m]? =some (eG met))(h3:3<=order)(h32:order<=32)(hl:x.Entries.length<1000000)
  (hr: ∀e∈x.Entries,e.Row.length<1000/\i64 e.Number):
  match(if vp order root x then Iv s last none met x.Entries else none)with
  |some met'=>Ev (λf=>cm f p0 x root inn H) (true,H.set m (eG met'))
  |none=> ∃met',Ev (λf=>cm f p0 x root inn H) (false,H.set m (eG met')):=by
 have hH:H.set m (eG met)=H:=by
  apply p_0
  grind
 have L:=yw hs h hl hr x.Entries 0 none met ψ (λ_=>rfl) (λj hj=>by omega) (λe he=>by cases he)
 rw[hH]at L
 have body: ∀{r},Ev (λf=>(iter (bQ f p0 x) f (x.Level,x.Entries,x.Kids,0,H)).bind (Sum.elim (λv41=>some (true,v41)) (λr42=>some r42))) r->vp order root x=true->Ev (λf=>cm f p0 x root inn H) r:=by
  intro r hE hc
  simp only[vp,g_3,p_2,decide_eq_true_eq]at hc
  unfold cm
  refine .aP<|.ae h.tree<|.ae rfl<|.ae h.ord<|.f χ ?_
  cases root with
  |true=>exact .f rfl hE
  |false=>
   refine .t rfl<|.ae h.tree<|.ae rfl<|.bind (Bf h h3 h32)<|.f ?_ hE
   grind
 cases hc:vp order root x with
 |true=>
  simp only[if_true]
  cases hq:Iv s last none met x.Entries with
  |some met'=>
   rw[hq]at L
   exact body (.bind L.ev (.pure _)) hc
  |none=>
   rw[hq]at L
   obtain⟨met',L⟩:=L
   exact⟨met',body (.bind L.ev (.pure _)) hc⟩
 |false=>
  simp only[g_7,if_false]
  refine⟨met,?_⟩
  rw[hH]
  unfold cm
  refine .aP<|.ae h.tree<|.ae rfl<|.ae h.ord ?_
  simp only[vp,Bool.and_eq_false_iff,Bool.or_eq_false_iff,decide_eq_false_iff_not]at hc
  by_cases ho:(x.Entries.length:Int)<=order
  .rcases hc with hc|⟨rfl,hc⟩
   .omega
   .exact .f χ<|.t rfl<|.ae h.tree<|.ae rfl<|.bind (Bf h h3 h32)<|.t χ (.pure _)
  .exact .t χ (.pure _)
end
set_option maxRecDepth 100000
def qv(s:ak)(o:Option Entry):Prop:= ∀e,o=some e->nI s e=true/\i64 e.Number
def Am(nodes:List Node):Prop:=nodes.length<1000/\ ∀x∈nodes,x.Entries.length<1000/\x.Kids.length<1000/\i64 x.Level/\ ∀e∈x.Entries,e.Row.length<1000/\i64 e.Number
def FY{nodes:List Node}{rc:Nat->Int->Option Entry->Option Entry->List Int->Nat⊕(Nat×List Int)}(hrc: ∀a lv lo hi mt z m',rc a lv lo hi mt=.inr (z,m')->a<z):
  ∀{ks:List Int} {i nx:Nat} {met:List Int} {z:Nat} {m':List Int},oW nodes rc a x low high ks i nx met=.inr (z,m')->nx<=z
 |[],i,nx,met,z,m',h=>by simp only[oW,Sum.inr.injEq,g_8]at h;omega
 |k::ks,i,nx,met,z,m',h=>by
  simp only[oW]at h
  split at h
  .split at h
   .cases h
   .rename_i nx' met' hr
    have:=hrc _ _ _ _ _ _ _ hr
    have:=FY hrc h
    omega
  .cases h
def FV{s:ak}{order last:Int}{nodes:List Node}: ∀{d a:Nat} {lv:Int} {lo hi:Option Entry} {mt:List Int} {z:Nat} {m':List Int},wk s order last nodes d a lv lo hi mt=.inr (z,m')->a<z
 |0,a,lv,lo,hi,mt,z,m',h=>by cases h
 |d+1,a,lv,lo,hi,mt,z,m',h=>by
  simp only[wk]at h
  split at h
  .cases h
  .split at h
   .cases h
   .have:=FY (λ_ _ _ _ _ _ _ hq=>FV hq) h
    omega
def FW{s:ak}{order last:Int}{nodes:List Node}{d a:Nat}{lv:Int}{lo hi:Option Entry}{mt:List Int}{z:Nat}{m':List Int}(h:wk s order last nodes d a lv lo hi mt=.inr (z,m'))(h0:a≠0): ∃x,nodes[a]? =some x/\x.Level=lv:=by
 cases d with
 |zero=>cases h
 |succ d=>
  simp only[wk]at h
  split at h
  .cases h
  .rename_i x hx
   split at h
   .cases h
   .rename_i met' hm
    refine⟨x,hx,?_⟩
    unfold qg at hm
    split at hm
    .rename_i hc
     simp only[g_3,vl,p_2,beq_iff_eq]at hc
     grind
    .cases hm
section
variable {p0 tr m:Nat} {s:ak} {order last:Int} {nodes:List Node}
def B7(p0 tr m:Nat)(s:ak)(order last:Int)(nodes:List Node)(f:Nat->Option (Option Nat×Hp))(H:Hp)(a:Nat)(r:Nat⊕(Nat×List Int)):Prop:=
 match r with
 |.inl b=> ∃H' nx',Ev f (none,H')/\k7 p0 tr m s order last nodes H' nx' (b:Nat)
 |.inr (z,met')=> ∃H' i lv bad',Ev f (some i,H')/\k7 p0 tr m s order last nodes H' (z:Nat) bad'/\H'[m]? =some (eG met')/\HN H.length nodes H' lv a z i/\H.length<=H'.length/\(∀j,j≠p0->j≠m->j<H.length->H'[j]? =H[j]?)
def k7.frame(h:k7 p0 tr m s order last nodes H nx bad)(hp:out≠p0)(hm:out≠m)(ht:out≠tr)(hf: ∀j,j≠out->H'[j]? =H[j]?):k7 p0 tr m s order last nodes H' nx bad:=by
 obtain⟨r,c,h2⟩:=h.ht
 exact⟨by rw[hf _ (j_4 hp)];exact h.hp,⟨r,c,by rw[hf _ (j_4 ht)];exact h2⟩,by obtain⟨o,ho⟩:=h.hm;grind,h.n1,h.n2,h.n3⟩
set_option maxHeartbeats 1000000 in
theorem Bl{d a out lvk:Nat}{x:Node}{low high:Option Entry}{q30:Hp×Nat}{j8:Int×Bool}{v38:(Option Entry)×(Option Entry)×Int×(List Entry)×(List Int)×Hp}{RC:Nat->Nat->Int->kZ->Hp->Option ((Option Nat)×Hp)}
  (hN:Am nodes) (hxm:x∈nodes) (hq:q30.2=out) (hj8:j8.1=x.Level) (hv:v38.2.2.2.2.1=x.Kids) (hk:x.Kids≠[]->x.Kids.length=x.Entries.length+1/\x.Level=((lvk+1:Nat):Int))
  (hlow:qv s low) (hhigh:qv s high) (hes: ∀e∈x.Entries,nI s e=true) (op:p0<out) (om:m<out) (ot:tr<out)
  (hrc: ∀(nx:Nat) (level:Int) (lo hi:Option Entry) (met:List Int) (H:Hp) (bad:Int),a<nx->nx<nodes.length->0<=level->i64 level->qv s lo->qv s hi->k7 p0 tr m s order last nodes H nx bad->H[m]? =some (eG met)->
   B7 p0 tr m s order last nodes (λn=>RC n p0 level ⟨lo,hi⟩ H) H nx (wk s order last nodes d nx level lo hi met)):
  ∀(ks:List Int) (i nx:Nat) (met:List Int) (H:Hp) (bad:Int) (is:List (Option Nat)),x.Kids.drop i=ks->i<=x.Kids.length->is.length=i->a<nx->k7 p0 tr m s order last nodes H nx bad->H[m]? =some (eG met)->H[out]? =some (cz x.Entries is)->
   match oW nodes (wk s order last nodes d) a x low high ks i nx met with
   |.inl b=> ∃H' nx',gT (λn=>bA n (RC n) p0 (a:Int) x j8 q30 v38) (low,high,x.Level,x.Entries,x.Kids,(i:Int),H) (.inr (none,H'))/\k7 p0 tr m s order last nodes H' nx' (b:Nat)
   |.inr (z,met')=> ∃H' is' bad',gT (λn=>bA n (RC n) p0 (a:Int) x j8 q30 v38) (low,high,x.Level,x.Entries,x.Kids,(i:Int),H) (.inl H')/\k7 p0 tr m s order last nodes H' (z:Nat) bad'/\H'[m]? =some (eG met')/\
     H'[out]? =some (cz x.Entries (is++is'))/\yc (HN (out+1) nodes H' lvk) ks is' nx z/\H.length<=H'.length/\(∀j,j≠p0->j≠m->j≠out->j<H.length->H'[j]? =H[j]?)
 |[],i,nx,met,H,bad,is,hd,hi,hl,ha,h,hm,ho=>by
  have hik:x.Kids.length<=i:=by simpa using hd
  simp only[oW]
  refine⟨H,[],bad,.stop ?_,h,hm,by simpa using ho,rfl,g_9 _,λ_ _ _ _ _=>rfl⟩
  unfold bA
  rw[hv]
  exact .f (mn hik) (.pure _)
 |k::ks,i,nx,met,H,bad,is,hd,hi,hl,ha,h,hm,ho=>by
  have hik:i<x.Kids.length:=by
   grind
  have hek:x.Kids[i]=k:=by rw[aH hik]at hd;exact(j_0 hd).1
  have hdl:x.Kids.drop (i+1)=ks:=by rw[aH hik]at hd;exact(j_0 hd).2
  have hne:x.Kids≠[]:=by intro e;rw[e]at hik;simp at hik
  obtain⟨hk1,hk2⟩:=hk hne
  obtain⟨b1,b2,b3,b4⟩:=hN.2 x hxm
  have hN1:=hN.1
  simp only[oW]
  by_cases hc:k=(nx:Int)/\nx<nodes.length
  .rw[if_pos hc]
   have hlo:qv s (nz x low i):=by
    unfold nz
    split
    .intro e he
     grind
    .exact hlow
   have hhi:qv s (gP x high i):=by
    unfold gP
    split
    .intro e he
     grind
    .exact hhigh
   have R:=hrc nx (x.Level - 1) (nz x low i) (gP x high i) met H bad ha hc.2 ω (by unfold i64 at *;omega) hlo hhi h hm
   have step: ∀{r o},Ev (λn=>RC n p0 (x.Level - 1) ⟨nz x low i,gP x high i⟩ H) r->
     Ev (λn=>Option.elim r.1 (some (.inr (.inr (none,r.2)))) (λi53=>
       (cw 1 cP r.2 q30.2 1).bind λq54=>
       dx (decide ((q54.1++[(some i53)]).length<=room))<|
       (bT 1 cP q54.2 q30.2 1 (q54.1++[(some i53)])).bind λH55=>
       some (.inl (low,high,x.Level,x.Entries,x.Kids,((i+1:Nat):Int),H55)))) o->
     Ev (λn=>bA n (RC n) p0 (a:Int) x j8 q30 v38 (low,high,x.Level,x.Entries,x.Kids,(i:Int),H)) o:=by
    intro r o hr hE
    unfold bA
    rw[hv,hj8]
    refine .t (eO hik)<|.ae (aw hik)<|.aP ?_
    rw[hek]
    refine .ae h.FO<|.f (by simp[hc.1])<|.ae h.gq<|.f χ<|.aP ?_
    have tail: ∀{lo:Option Entry},lo=nz x low i->Ev (λn=>aP (λ(j49:Option Entry)=>
      (RC n p0 (IntKind.wrap .i64 (x.Level - 1)) (⟨lo,j49⟩:kZ) H).bind λr52=>
      (Option.elim r52.1
       (some (.inr (.inr (none,r52.2))))
      (λi53=>
       (cw 1 cP r52.2 q30.2 1).bind λq54=>
       dx (decide ((q54.1++[(some i53)]).length<=room))<|
       (bT 1 cP q54.2 q30.2 1 (q54.1++[(some i53)])).bind λH55=>
       some (.inl (low,high,x.Level,x.Entries,x.Kids,(IntKind.wrap .i64 ((i:Int)+1)),H55))))) λjp50=>
     bif (decide ((i:Int)<(x.Entries.length:Int)))then
      (idx x.Entries (i:Int)).bind λx51=>
      jp50 (some x51)
     else
      jp50 high) o:=by
     rintro lo rfl
     rw[cZ ω,cC (x:=x.Level - 1) (by unfold i64 at b3;omega) (by unfold i64 at b3;omega)]
     refine .aP ?_
     by_cases hx:i<x.Entries.length
     .refine .t (eO hx)<|.ae (aw hx) ?_
      have e:gP x high i=some x.Entries[i]:=by unfold gP;grind
      rw[e]at hr
      exact .bind hr hE
     .refine .f (mn ω) ?_
      have e:gP x high i=high:=by unfold gP;rw[if_neg hx]
      rw[e]at hr
      exact .bind hr hE
    by_cases h0:0<i
    .have hj:i - 1<x.Entries.length:=by omega
     have hix:idx x.Entries (IntKind.wrap .i64 ((i:Int) - 1))=some x.Entries[i - 1]:=by
      rw[cC ω ω,show(i:Int) - 1=((i - 1:Nat):Int)by omega];exact aw hj
     exact .t χ<|.ae hix<|tail (by unfold nz;grind)
    .exact .f χ<|tail (by unfold nz;rw[if_neg h0])
   cases hw:wk s order last nodes d nx (x.Level - 1) (nz x low i) (gP x high i) met with
   |inl b=>
    rw[hw]at R
    obtain⟨H',nx',R1,R2⟩:=R
    exact⟨H',nx',.stop (step R1 (.pure _)),R2⟩
   |inr q=>
    obtain⟨z,met'⟩:=q
    rw[hw]at R
    obtain⟨H1,i1,lv1,bad1,R1,R2,R3,R4,R5,R6⟩:=R
    have hlt:nx<z:=FV hw
    have hol:out<H.length:=(g_5.1 ho).1
    have ho1:H1[out]? =some (cz x.Entries is):=by grind
    have hlv:lv1=lvk:=by
     obtain⟨y,y1,y2⟩:=FW hw ω
     have: ∃y',nodes[nx]? =some y'/\y'.Level=(lv1:Int):=by
      cases lv1 with
      |zero=>obtain⟨y',g1,g2,-⟩:=R4;grind
      |succ n=>obtain⟨y',-,g1,g2,-⟩:=R4;exact⟨y',g1,g2⟩
     grind
    subst hlv
    let H2:Hp:=H1.set out (cz x.Entries (is++[some i1]))
    have hf2: ∀j,j≠out->H2[j]? =H1[j]? :=λj hj=>gg hj
    have l2:H2.length=H1.length:=q_8
    have T:Ev (λn=>bA n (RC n) p0 (a:Int) x j8 q30 v38 (low,high,x.Level,x.Entries,x.Kids,(i:Int),H)) (.inl (low,high,x.Level,x.Entries,x.Kids,((i+1:Nat):Int),H2)):=by
     refine step R1 ?_
     simp only[Option.elim,hq]
     have ht:cw 1 cP H1 out 1=some (is,H1.set out (.cells [.own 3 (List.map ab x.Entries),.undef])):=mh ho1 rfl
     have hg:bT 1 cP (H1.set out (.cells [.own 3 (List.map ab x.Entries),.undef])) out 1 (is++[some i1])=some H2:=by
      rw[gy (cA ho1) ψ]
      rw[m_6]
      rfl
     exact .ae ht<|.dx (by simp[room];omega)<|.ae hg (.pure _)
    have IH:=Bl hN hxm hq hj8 hv hk hlow hhigh hes op om ot hrc ks (i+1) z met' H2 bad1 (is++[some i1]) hdl ω (by simp[hl]) ω (R2.frame ω ω ω hf2) (by rw[hf2 m ω];exact R3) (cA ho1)
    simp only
    cases hw2:oW nodes (wk s order last nodes d) a x low high ks (i+1) z met' with
    |inl b=>
     rw[hw2]at IH
     obtain⟨H',nx',I1,I2⟩:=IH
     exact⟨H',nx',.next T I1,I2⟩
    |inr q=>
     obtain⟨z',met2⟩:=q
     rw[hw2]at IH
     obtain⟨H',is',bad',I1,I2,I3,I4,I5,I6,I7⟩:=IH
     refine⟨H',some i1::is',bad',.next T I1,I2,I3,by simpa using I4,⟨hc.1,z,?_,I5⟩,ω,λj j1 j2 j3 j4=>?_⟩
     .have g1:HN (out+1) nodes H1 lv1 nx z i1:=R4.base ω
      refine g1.frame λj j1 j2=>?_
      grind
     grind
  .rw[if_neg hc]
   simp only
   have og:=h.zx (a:Int)
   refine⟨H.set p0 (vv tr m nodes nx (a:Int)),nx,.stop ?_,h.put _ _⟩
   unfold bA
   rw[hv]
   refine .t (eO hik)<|.ae (aw hik)<|.aP ?_
   rw[hek]
   refine .ae h.FO ?_
   by_cases hkn:k=(nx:Int)
   .exact .f (by simp[hkn])<|.ae h.gq<|.t χ<|.ae og (.pure _)
   .exact .t (by simp[hkn])<|.t rfl<|.ae og (.pure _)
end
set_option maxRecDepth 100000
def nK(fuel:Nat)(rc:Nat->Int->kZ->Hp->Option ((Option Nat)×Hp))(p0:Nat)(x1:Int)(p2:kZ)(x7:Node)(H5:Hp)(j8:Int×Bool):Option ((Option Nat)×Hp):=
 aP (λ(j10:Int)=>
  aP (λ(j12:Bool×Hp)=>
   bif j12.1 then
    (cH (cI .i64) j12.2 p0 4 x1).bind λH15=>
    some (none,H15)
   else
    aP (λ(j16:(Option Entry)×(Option Entry))=>
     (kW j12.2 (.cells [.own 3 (List.map ab ([]:List Entry)),.own 1 (List.map cP.enc ([]:List (Option Nat)))])).bind λq30=>
     (iter (cO fuel x7 q30) fuel (j16.1,j16.2,x7.Level,x7.Entries,x7.Kids,0,q30.1)).bind λv38=>
     (iter (bA fuel rc p0 x1 x7 j8 q30 v38) fuel (v38.1,v38.2.1,v38.2.2.1,v38.2.2.2.1,v38.2.2.2.2.1,0,v38.2.2.2.2.2)).bind (Sum.elim (λv57=>
      some ((some q30.2),v57)) (λr58=>
      some r58))) λjp17=>
    bif (decide ((x7.Entries.length:Int)>0))then
     (Option.elim p2.low
      ((Option.elim p2.high
       (jp17 (none,none))
      (λx19=>
       (idx x7.Entries (IntKind.wrap .i64 ((x7.Entries.length:Int) - 1))).bind λx20=>
       (bL fuel p0 x20 x19 j12.2).bind λr21=>
       bif (!r21)then
        (cH (cI .i64) j12.2 p0 4 x1).bind λH22=>
        some (none,H22)
       else
        jp17 (none,(some x19)))))
     (λx18=>
      (idx x7.Entries 0).bind λx23=>
      (bL fuel p0 x18 x23 j12.2).bind λr24=>
      bif (!r24)then
       (cH (cI .i64) j12.2 p0 4 x1).bind λH25=>
       some (none,H25)
      else
       (Option.elim p2.high
        (jp17 ((some x18),none))
       (λx26=>
        (idx x7.Entries (IntKind.wrap .i64 ((x7.Entries.length:Int) - 1))).bind λx27=>
        (bL fuel p0 x27 x26 j12.2).bind λr28=>
        bif (!r28)then
         (cH (cI .i64) j12.2 p0 4 x1).bind λH29=>
         some (none,H29)
        else
         jp17 ((some x18),(some x26))))))
    else
     jp17 (p2.low,p2.high)) λjp13=>
  (cm fuel p0 x7 j8.2 p2 H5).bind λr14=>
  bif (((!r14.1)||(decide (x7.Level<0)))||(x7.Level !=j8.1))then
   jp13 (true,r14.2)
  else
   jp13 ((((x7.Kids.length:Int) !=j10)||(j10==1)),r14.2)) λjp11=>
 bif (decide (x7.Level>0))then
  jp11 (IntKind.wrap .i64 ((x7.Entries.length:Int)+1))
 else
  jp11 0
def nM(fuel:Nat)(rc:Nat->Int->kZ->Hp->Option ((Option Nat)×Hp))(p0:Nat)(x1:Int)(p2:kZ)(x7:Node)(j8:Int×Bool)(j12:Bool×Hp):Option ((Option Nat)×Hp):=
 bif j12.1 then
  (cH (cI .i64) j12.2 p0 4 x1).bind λH15=>
  some (none,H15)
 else
  aP (λ(j16:(Option Entry)×(Option Entry))=>
   (kW j12.2 (.cells [.own 3 (List.map ab ([]:List Entry)),.own 1 (List.map cP.enc ([]:List (Option Nat)))])).bind λq30=>
   (iter (cO fuel x7 q30) fuel (j16.1,j16.2,x7.Level,x7.Entries,x7.Kids,0,q30.1)).bind λv38=>
   (iter (bA fuel rc p0 x1 x7 j8 q30 v38) fuel (v38.1,v38.2.1,v38.2.2.1,v38.2.2.2.1,v38.2.2.2.2.1,0,v38.2.2.2.2.2)).bind (Sum.elim (λv57=>
    some ((some q30.2),v57)) (λr58=>
    some r58))) λjp17=>
  bif (decide ((x7.Entries.length:Int)>0))then
   (Option.elim p2.low
    ((Option.elim p2.high
     (jp17 (none,none))
    (λx19=>
     (idx x7.Entries (IntKind.wrap .i64 ((x7.Entries.length:Int) - 1))).bind λx20=>
     (bL fuel p0 x20 x19 j12.2).bind λr21=>
     bif (!r21)then
      (cH (cI .i64) j12.2 p0 4 x1).bind λH22=>
      some (none,H22)
     else
      jp17 (none,(some x19)))))
   (λx18=>
    (idx x7.Entries 0).bind λx23=>
    (bL fuel p0 x18 x23 j12.2).bind λr24=>
    bif (!r24)then
     (cH (cI .i64) j12.2 p0 4 x1).bind λH25=>
     some (none,H25)
    else
     (Option.elim p2.high
      (jp17 ((some x18),none))
     (λx26=>
      (idx x7.Entries (IntKind.wrap .i64 ((x7.Entries.length:Int) - 1))).bind λx27=>
      (bL fuel p0 x27 x26 j12.2).bind λr28=>
      bif (!r28)then
       (cH (cI .i64) j12.2 p0 4 x1).bind λH29=>
       some (none,H29)
      else
       jp17 ((some x18),(some x26))))))
  else
   jp17 (p2.low,p2.high)
def nT(fuel:Nat)(rc:Nat->Int->kZ->Hp->Option ((Option Nat)×Hp))(p0:Nat)(x1:Int)(x7:Node)(j8:Int×Bool)(j12:Bool×Hp)(j16:(Option Entry)×(Option Entry)):Option ((Option Nat)×Hp):=
 (kW j12.2 (.cells [.own 3 (List.map ab ([]:List Entry)),.own 1 (List.map cP.enc ([]:List (Option Nat)))])).bind λq30=>
 (iter (cO fuel x7 q30) fuel (j16.1,j16.2,x7.Level,x7.Entries,x7.Kids,0,q30.1)).bind λv38=>
 (iter (bA fuel rc p0 x1 x7 j8 q30 v38) fuel (v38.1,v38.2.1,v38.2.2.1,v38.2.2.2.1,v38.2.2.2.2.1,0,v38.2.2.2.2.2)).bind (Sum.elim (λv57=>
  some ((some q30.2),v57)) (λr58=>
  some r58))
def Et(f:Nat)(h:r.length<1000):bY f r=some r:=by
 unfold bY
 cases r with
 |nil=>rfl
 |cons a l=>
  show Go.Sh.dx (decide ((([]:List Value)++a::l).length<=room)) (some ([]++a::l))=_
  rw[show decide ((([]:List Value)++a::l).length<=room)=true by
   rw[decide_eq_true_eq]
   have:(a::l).length<1000:=h
   simp only[m_3,room]
   omega]
  rfl
def CF(e:Entry)(h:e.Row.length<1000):Ev (λf=>vW f e) e:=by
 unfold vW
 exact .bind (.of λn=>Et n h) (.pure _)
def Ev.oI{α β:Type}{f:Nat->Option β}{g:Nat->α->Option β}{r:β}(h:Ev f r):Ev (λn=>Option.elim none (f n) (g n)) r:=h
def Ev.j5{α β:Type}{f:Nat->Option β}{g:Nat->α->Option β}{a:α}{r:β}(h:Ev (λn=>g n a) r):Ev (λn=>Option.elim (some a) (f n) (g n)) r:=h
def sB{s:ak}{last:Int}: ∀{l:List Entry} {met met':List Int},np s last met l=some met'-> ∀e∈l,nI s e=true
 |e::l,met,met',h,e',he=>by
  simp only[np]at h
  split at h
  .rename_i hf
   rcases h_9.1 he with rfl|he
   .exact(By hf).1
   .exact sB h e' he
  .cases h
section
variable {p0 tr m:Nat} {s:ak} {order last:Int} {nodes:List Node}
def BD(hq:q30.2=out)(hl:x.Entries.length<1000)(hr: ∀e∈x.Entries,e.Row.length<1000):
  ∀(l:List Entry) (k:Nat) (pre:List Entry),x.Entries.drop k=l->pre=x.Entries.take k->k<=x.Entries.length->H[out]? =some (cz pre [])->
   gT (λf=>cO f x q30) (lo,hi,x.Level,x.Entries,x.Kids,(k:Int),H) (lo,hi,x.Level,x.Entries,x.Kids,H.set out (cz x.Entries []))
 |[],k,pre,hd,hp,hk,ho=>by
  have hk2:x.Entries.length<=k:=by simpa using hd
  refine .stop ?_
  unfold cO
  have:H.set out (cz x.Entries [])=H:=by
   rw[hp,m_7 hk2]at ho
   apply p_0
   grind
  rw[this]
  exact .f (mn hk2) (.pure _)
 |e::l,k,pre,hd,hp,hk,ho=>by
  have hk:k<x.Entries.length:=by
   grind
  have hek:x.Entries[k]=e:=by rw[aH hk]at hd;exact(j_0 hd).1
  have hdl:x.Entries.drop (k+1)=l:=by rw[aH hk]at hd;exact(j_0 hd).2
  have he:=hr e (hek▸j_2 hk)
  have ih:=BD (lo:=lo) (hi:=hi) (H:=H.set out (cz (pre++[e]) [])) hq hl hr l (k+1) (pre++[e]) hdl φ ω (cA ho)
  rw[m_6]at ih
  refine .next ?_ ih
  unfold cO
  refine .t (eO hk)<|.ae (aw hk) ?_
  rw[hek,hq]
  have ht:cw 3 ay H out 0=some (pre,H.set out (.cells [.undef,.own 1 []])):=mh ho rfl
  have hg:bT 3 ay (H.set out (.cells [.undef,.own 1 []])) out 0 (pre++[e])=some (H.set out (cz (pre++[e]) [])):=by
   rw[gy (cA ho) ψ,m_6];rfl
  refine .ae ht<|.bind (CF e he)<|.dx (by simp[room,hp];omega)<|.ae hg ?_
  rw[cZ ω]
  exact .pure _
def DL(h:qg s order last root level low high met x=some met'):
  vp order root x=true/\vl root level x=true/\w9 x=true/\Ai s none x.Entries=true/\oz s low high x=true/\np s last met x.Entries=some met':=by
 unfold qg at h
 grind
def Ah(h:j<H.length):(H++[o])[j]? =H[j]? :=h_6 h
def Ex:(H++[o])[H.length]? =some o:=by simp
def k7.lt(h:k7 p0 tr m s order last nodes H nx bad):p0<H.length/\tr<H.length/\m<H.length:=by
 obtain⟨r,c,ht⟩:=h.ht
 obtain⟨o,ho⟩:=h.hm
 exact⟨(g_5.1 h.hp).1,(g_5.1 ht).1,(g_5.1 ho).1⟩
def MC{RC:Nat->Nat->Int->kZ->Hp->Option ((Option Nat)×Hp)}
  (hN:Am nodes) (hx:nodes[a]? =some x) (ho:qg s order last root level low high met x=some met') (hlev:lev=x.Level) (hlow:qv s low) (hhigh:qv s high)
  (h:k7 p0 tr m s order last nodes H ((a+1:Nat):Int) bad) (hm:H[m]? =some (eG met'))
  (hrc: ∀(nx:Nat) (level:Int) (lo hi:Option Entry) (met:List Int) (H:Hp) (bad:Int),a<nx->nx<nodes.length->0<=level->i64 level->qv s lo->qv s hi->k7 p0 tr m s order last nodes H nx bad->H[m]? =some (eG met)->
   B7 p0 tr m s order last nodes (λn=>RC n p0 level ⟨lo,hi⟩ H) H nx (wk s order last nodes d nx level lo hi met)):
  B7 p0 tr m s order last nodes (λn=>nT n (RC n) p0 (a:Int) x (lev,root) (b0,H) (low,high)) H a (oW nodes (wk s order last nodes d) a x low high x.Kids 0 (a+1) met'):=by
 obtain⟨c1,c2,c3,c4,c5,c6⟩:=DL ho
 have hxm:x∈nodes:=m_1 hx
 obtain⟨b1,b2,b3,b4⟩:=hN.2 x hxm
 obtain⟨l1,l2,l3⟩:=h.lt
 have hes:=sB c6
 simp only[vl,g_3,decide_eq_true_eq]at c2
 simp only[w9,g_3,beq_iff_eq]at c3
 have hk:x.Kids≠[]->x.Kids.length=x.Entries.length+1/\x.Level=(((x.Level - 1).toNat+1:Nat):Int):=by
  grind
 let H1:Hp:=H++[cz [] []]
 have g1:k7 p0 tr m s order last nodes H1 ((a+1:Nat):Int) bad:=by
  obtain⟨r,c,ht⟩:=h.ht
  exact⟨by rw[Ah l1];exact h.hp,⟨r,c,by rw[Ah l2];exact ht⟩,⟨_,by rw[Ah l3];exact hm⟩,h.n1,h.n2,h.n3⟩
 have oh:H1[H.length]? =some (cz [] []):=Ex
 let H2:Hp:=H1.set H.length (cz x.Entries [])
 have g2:k7 p0 tr m s order last nodes H2 ((a+1:Nat):Int) bad:=g1.frame ω ω ω λj hj=>gg hj
 have hl2:H2.length=H.length+1:=by simp[H2,H1]
 have hm2:H2[m]? =some (eG met'):=by
  grind
 have hold: ∀j,j<H.length->H2[j]? =H[j]? :=λj hj=>by
  grind
 have E1:=BD (x:=x) (q30:=(H1,H.length)) (lo:=low) (hi:=high) (H:=H1) rfl b1 (λe he=>(b4 e he).1) x.Entries 0 [] rfl rfl ω oh
 have K:=Bl (d:=d) (a:=a) (out:=H.length) (lvk:=(x.Level - 1).toNat) (x:=x) (low:=low) (high:=high) (q30:=(H1,H.length)) (j8:=(lev,root)) (v38:=(low,high,x.Level,x.Entries,x.Kids,H2)) (RC:=RC)
  hN hxm rfl hlev rfl hk hlow hhigh hes l1 l3 l2 hrc x.Kids 0 (a+1) met' H2 bad [] rfl ω rfl ω g2 hm2 (cA oh)
 cases hw:oW nodes (wk s order last nodes d) a x low high x.Kids 0 (a+1) met' with
 |inl b=>
  rw[hw]at K
  obtain⟨H',nx',K1,K2⟩:=K
  refine⟨H',nx',?_,K2⟩
  unfold nT
  exact .ae rfl<|.bind E1.ev<|.bind K1.ev (.pure _)
 |inr q=>
  obtain⟨z,met2⟩:=q
  rw[hw]at K
  obtain⟨H',is',bad',K1,K2,K3,K4,K5,K6,K7⟩:=K
  refine⟨H',H.length,x.Level.toNat,bad',?_,K2,K3,?_,ω,λj j1 j2 j3=>?_⟩
  .unfold nT
   exact .ae rfl<|.bind E1.ev<|.bind K1.ev (.pure _)
  .by_cases hz:x.Kids=[]
   .have h1:=c3.1
    rw[hz]at h1 K5
    have hlz:x.Level=0:=by
     grind
    rw[hlz]
    have:is'=[]/\a+1=z:=by
     cases is' with
     |nil=>exact⟨rfl,K5⟩
     |cons i is=>cases i<;>exact K5.elim
    obtain⟨rfl,hz2⟩:=this
    exact⟨x,hx,hlz,hz,by simpa using K4,hz2.symm,g_9 _⟩
   .obtain⟨h1,h2⟩:=hk hz
    rw[h2]
    exact⟨x,is',hx,h2,h1,by simpa using K4,g_9 _,K5.mono λ_ _ _ hp=>hp.base ω⟩
  grind
end
set_option maxRecDepth 100000
section
variable {p0 tr m:Nat} {s:ak} {order last:Int} {nodes:List Node}
def MD{RC:Nat->Nat->Int->kZ->Hp->Option ((Option Nat)×Hp)}
  (hs:oa s=true) (hl:x.Entries.length<1000) (hes: ∀e∈x.Entries,nI s e=true/\i64 e.Number) (hlow:qv s low) (hhigh:qv s high) (h:k7 p0 tr m s order last nodes H nx bad):
  (oz s low high x=true-> ∀r,Ev (λn=>nT n (RC n) p0 (a:Int) x j8 (false,H) (low,high)) r->Ev (λn=>nM n (RC n) p0 (a:Int) ⟨low,high⟩ x j8 (false,H)) r)/\
  (oz s low high x=false->Ev (λn=>nM n (RC n) p0 (a:Int) ⟨low,high⟩ x j8 (false,H)) (none,H.set p0 (vv tr m nodes nx (a:Int)))):=by
 have og:=h.zx (a:Int)
 by_cases h0:0<x.Entries.length
 .have hf:x.Entries.head? =some x.Entries[0]:=by rw[List.head?_eq_getElem?,h_7 h0]
  have hL:x.Entries.getLast? =some x.Entries[x.Entries.length - 1]:=by grind
  have e0:=hes _ (j_2 h0)
  have eL:=hes _ (j_2 (show x.Entries.length - 1<x.Entries.length by omega))
  have i0:idx x.Entries 0=some x.Entries[0]:=aw (k:=0) h0
  have iL:idx x.Entries (IntKind.wrap .i64 ((x.Entries.length:Int) - 1))=some x.Entries[x.Entries.length - 1]:=by
   rw[cC ω ω,show(x.Entries.length:Int) - 1=((x.Entries.length - 1:Nat):Int)by omega]
   exact aw _
  have hn:decide ((x.Entries.length:Int)>0)=true:=by simp;omega
  cases low with
  |none=>
   cases high with
   |none=>
    refine⟨λ_ r hE=>?_,λhb=>by simp[oz]at hb⟩
    unfold nM
    exact .f rfl<|.aP<|.t hn<|.oI<|.oI hE
   |some hi=>
    have hh:=hhigh hi rfl
    have A:=xF hs h eL.1 hh.1 eL.2 hh.2
    refine⟨λhb r hE=>?_,λhb=>?_⟩
    .simp only[oz,hL,j_7]at hb
     unfold nM
     exact .f rfl<|.aP<|.t hn<|.oI<|.j5<|.ae iL<|.bind A<|.f (by simp[hb]) hE
    .simp only[oz,hL,j_7]at hb
     unfold nM
     exact .f rfl<|.aP<|.t hn<|.oI<|.j5<|.ae iL<|.bind A<|.t (by simp[hb])<|.ae og (.pure _)
  |some lo=>
   have hw:=hlow lo rfl
   have B:=xF hs h hw.1 e0.1 hw.2 e0.2
   cases high with
   |none=>
    refine⟨λhb r hE=>?_,λhb=>?_⟩
    .simp only[oz,hf,Bool.and_true]at hb
     unfold nM
     exact .f rfl<|.aP<|.t hn<|.j5<|.ae i0<|.bind B<|.f (by simp[hb])<|.oI hE
    .simp only[oz,hf,Bool.and_true]at hb
     unfold nM
     exact .f rfl<|.aP<|.t hn<|.j5<|.ae i0<|.bind B<|.t (by simp[hb])<|.ae og (.pure _)
   |some hi=>
    have hh:=hhigh hi rfl
    have A:=xF hs h eL.1 hh.1 eL.2 hh.2
    refine⟨λhb r hE=>?_,λhb=>?_⟩
    .simp only[oz,hf,hL,g_3]at hb
     unfold nM
     exact .f rfl<|.aP<|.t hn<|.j5<|.ae i0<|.bind B<|.f (by simp[hb.1])<|.j5<|.ae iL<|.bind A<|.f (by simp[hb.2]) hE
    .simp only[oz,hf,hL,Bool.and_eq_false_iff]at hb
     unfold nM
     cases hB:qy s lo x.Entries[0]with
     |false=>exact .f rfl<|.aP<|.t hn<|.j5<|.ae i0<|.bind B<|.t (by simp[hB])<|.ae og (.pure _)
     |true=>
      rcases hb with hb|hb
      .rw[hB]at hb;cases hb
      .exact .f rfl<|.aP<|.t hn<|.j5<|.ae i0<|.bind B<|.f (by simp[hB])<|.j5<|.ae iL<|.bind A<|.t (by simp[hb])<|.ae og (.pure _)
 .have he:x.Entries=[]:=q_0.1 ω
  refine⟨λ_ r hE=>?_,λhb=>?_⟩
  .unfold nM
   exact .f rfl<|.aP<|.f χ hE
  .have:oz s low high x=true:=by
    unfold oz
    grind
   rw[this]at hb;cases hb
def ME{RC:Nat->Nat->Int->kZ->Hp->Option ((Option Nat)×Hp)}
  (hs:oa s=true) (h3:3<=order) (h32:order<=32) (hN:Am nodes) (hx:nodes[a]? =some x) (hlev:lev=if root then x.Level else level) (hlow:qv s low) (hhigh:qv s high)
  (h:k7 p0 tr m s order last nodes H ((a+1:Nat):Int) bad) (hm:H[m]? =some (eG met))
  (hrc: ∀(nx:Nat) (level:Int) (lo hi:Option Entry) (met:List Int) (H:Hp) (bad:Int),a<nx->nx<nodes.length->0<=level->i64 level->qv s lo->qv s hi->k7 p0 tr m s order last nodes H nx bad->H[m]? =some (eG met)->
   B7 p0 tr m s order last nodes (λn=>RC n p0 level ⟨lo,hi⟩ H) H nx (wk s order last nodes d nx level lo hi met)):
  B7 p0 tr m s order last nodes (λn=>nK n (RC n) p0 (a:Int) ⟨low,high⟩ x H (lev,root)) H a
   (match qg s order last root level low high met x with
   |none=>.inl a
   |some met'=>oW nodes (wk s order last nodes d) a x low high x.Kids 0 (a+1) met'):=by
 have hxm:x∈nodes:=m_1 hx
 obtain⟨b1,b2,b3,b4⟩:=hN.2 x hxm
 obtain⟨l1,l2,l3⟩:=h.lt
 let kk:Int:=if 0<x.Level then(x.Entries.length:Int)+1 else 0
 have R:=Gp (root:=root) (inn:=⟨low,high⟩) hs h hm h3 h32 (x:=x) ω b4
 have pre: ∀{q:Bool} {met'':List Int} {r},Ev (λf=>cm f p0 x root ⟨low,high⟩ H) (q,H.set m (eG met''))->
   Ev (λn=>nM n (RC n) p0 (a:Int) ⟨low,high⟩ x (lev,root) ((!q||decide (x.Level<0))||x.Level !=lev||((x.Kids.length:Int) !=kk||kk==1),H.set m (eG met''))) r->Ev (λn=>nK n (RC n) p0 (a:Int) ⟨low,high⟩ x H (lev,root)) r:=by
  intro q met'' r hq hE
  unfold nK
  have tail: ∀{k:Int},k=kk->Ev (λn=>aP (λ(j12:Bool×Hp)=>nM n (RC n) p0 (a:Int) ⟨low,high⟩ x (lev,root) j12) λjp13=>
    (cm n p0 x root ⟨low,high⟩ H).bind λr14=>
    bif (((!r14.1)||(decide (x.Level<0)))||(x.Level !=lev))then
     jp13 (true,r14.2)
    else
     jp13 ((((x.Kids.length:Int) !=k)||(k==1)),r14.2)) r:=by
   rintro k rfl
   refine .aP<|.bind hq ?_
   grind
  by_cases hz:0<x.Level
  .exact .aP<|.t χ<|tail (by rw[cC ω ω];simp only[kk,if_pos hz])
  .exact .aP<|.f χ<|tail (by simp only[kk,if_neg hz])
 have badM: ∀{met''},Ev (λn=>nM n (RC n) p0 (a:Int) ⟨low,high⟩ x (lev,root) (true,H.set m (eG met''))) (none,(H.set m (eG met'')).set p0 (vv tr m nodes ((a+1:Nat):Int) (a:Int))):=by
  intro met''
  unfold nM
  exact .t rfl<|.ae ((h.map (eG met'')).zx (a:Int)) (.pure _)
 have badR: ∀{met''},Ev (λn=>nK n (RC n) p0 (a:Int) ⟨low,high⟩ x H (lev,root)) (none,(H.set m (eG met'')).set p0 (vv tr m nodes ((a+1:Nat):Int) (a:Int)))->
   B7 p0 tr m s order last nodes (λn=>nK n (RC n) p0 (a:Int) ⟨low,high⟩ x H (lev,root)) H a (.inl a):=λhE=>⟨_,_,hE,(h.map (eG _)).put _ _⟩
 have hkk:((x.Kids.length:Int) !=kk||kk==1)=!w9 x:=by
  simp only[kk,w9]
  by_cases hz:0<x.Level
  .rw[if_pos hz,if_pos hz]
   by_cases e1:x.Kids.length=x.Entries.length+1
   .grind
   grind
  .rw[if_neg hz,if_neg hz]
   by_cases e1:x.Kids.length=0
   .rw[e1];rfl
   grind
 have hlv:((decide (x.Level<0))||x.Level !=lev)=!vl root level x:=by
  simp only[vl]
  grind
 unfold qg
 cases hc1:vp order root x with
 |false=>
  rw[hc1]at R
  obtain⟨met'',R⟩:=R
  simp only[m_4,g_7,if_false]
  exact badR (pre R (by simp only[Bool.not_false,Bool.true_or];exact badM))
 |true=>
  rw[hc1]at R
  simp only[if_true,Gq]at R
  simp only[j_7]
  cases hc4:Ai s none x.Entries with
  |false=>
   rw[hc4]at R
   obtain⟨met'',R⟩:=R
   simp only[w_3,m_4,g_7,if_false]
   exact badR (pre R (by simp only[Bool.not_false,Bool.true_or];exact badM))
  |true=>
   rw[hc4]at R
   simp only[if_true]at R
   cases hc6:np s last met x.Entries with
   |none=>
    rw[hc6]at R
    obtain⟨met'',R⟩:=R
    simp only[ite_self]
    exact badR (pre R (by simp only[Bool.not_false,Bool.true_or];exact badM))
   |some met'=>
    rw[hc6]at R
    have P:=λ{r}=>pre (r:=r) R
    simp only[Bool.not_true,Bool.false_or,hkk,hlv]at P
    cases hc2:vl root level x with
    |false=>
     grind
    |true=>
     cases hc3:w9 x with
     |false=>
      grind
     |true=>
      rw[hc2,hc3]at P
      have g:=h.map (eG met')
      have hes:=sB hc6
      obtain⟨M1,M2⟩:=MD (a:=a) (j8:=(lev,root)) (RC:=RC) hs b1 (λe he=>⟨hes e he,(b4 e he).2⟩) hlow hhigh g
      cases hc5:oz s low high x with
      |false=>
       grind
      |true=>
       simp only[Bool.and_true,if_true]
       have hok:qg s order last root level low high met x=some met':=by
        unfold qg;simp[hc1,hc2,hc3,hc4,hc5,hc6]
       have hlx:lev=x.Level:=by
        grind
       have T:=MC (root:=root) (b0:=false) hN hx hok hlx hlow hhigh g (cA hm) hrc
       have hlen:(H.set m (eG met')).length=H.length:=q_8
       cases hw:oW nodes (wk s order last nodes d) a x low high x.Kids 0 (a+1) met' with
       |inl b=>
        rw[hw]at T
        obtain⟨H',nx',T1,T2⟩:=T
        exact⟨H',nx',P (M1 hc5 _ T1),T2⟩
       |inr q=>
        obtain⟨z,met2⟩:=q
        rw[hw]at T
        obtain⟨H',i,lv,bad',T1,T2,T3,T4,T5,T6⟩:=T
        exact⟨H',i,lv,bad',P (M1 hc5 _ T1),T2,T3,by rw[hlen]at T4;exact T4,ω,λj j1 j2 j3=>by grind⟩
def yM(hs:oa s=true)(h3:3<=order)(h32:order<=32)(hN:Am nodes): ∀(d a:Nat) (level:Int) (low high:Option Entry) (met:List Int) (H:Hp) (bad:Int),
  a<nodes.length->nodes.length<=a+d->qv s low->qv s high->k7 p0 tr m s order last nodes H (a:Nat) bad->H[m]? =some (eG met)->
   B7 p0 tr m s order last nodes (λn=>cF n p0 level ⟨low,high⟩ H) H a (wk s order last nodes d a level low high met)
 |0,a,level,low,high,met,H,bad,ha,hd,_,_,_,_=>by omega
 |d+1,a,level,low,high,met,H,bad,ha,hd,hlow,hhigh,h,hm=>by
  have hx:nodes[a]? =some nodes[a]:=h_7 ha
  have hN1:=hN.1
  have g:k7 p0 tr m s order last nodes (H.set p0 (vv tr m nodes ((a+1:Nat):Int) bad)) ((a+1:Nat):Int) bad:=h.put _ _
  have hm':(H.set p0 (vv tr m nodes ((a+1:Nat):Int) bad))[m]? =some (eG met):=by rw[gg (j_4 h.n1)];exact hm
  have og:cH (cI .i64) H p0 2 ((a+1:Nat):Int)=some (H.set p0 (vv tr m nodes ((a+1:Nat):Int) bad)):=h.Mp _
  have K:=ME (d:=d) (a:=a) (root:=a==0) (level:=level) (low:=low) (high:=high) (lev:=if(a==0)=true then nodes[a].Level else level) (RC:=λn=>cF n) hs h3 h32 hN hx rfl hlow hhigh g hm'
   (λnx level lo hi met H bad h1 h2 _ _ h5 h6 h7 h8=>yM hs h3 h32 hN d nx level lo hi met H bad h2 ω h5 h6 h7 h8)
  have hlen:(H.set p0 (vv tr m nodes ((a+1:Nat):Int) bad)).length=H.length:=q_8
  have go: ∀{r},Ev (λn=>nK n (cF n) p0 (a:Int) ⟨low,high⟩ nodes[a] (H.set p0 (vv tr m nodes ((a+1:Nat):Int) bad)) (if(a==0)=true then nodes[a].Level else level,a==0)) r->
    Ev (λn=>cF n p0 level ⟨low,high⟩ H) r:=by
   intro r hE
   refine kJ (g:=λn=>dQ n (cF n) p0 level ⟨low,high⟩ H) (λn=>rfl) ?_
   unfold dQ
   refine .ae h.FO<|.ae h.gq<|.f χ<|.ae h.FO ?_
   rw[cZ ω]
   refine .ae og<|.ae g.gq<|.ae (aw ha)<|.aP ?_
   by_cases h0:a=0
   .subst h0;exact .t rfl hE
   .refine .f (by simp[h0]) ?_
    rw[show(a==0)=false by simpa using h0]at hE
    exact hE
  have hwk:wk s order last nodes (d+1) a level low high met=(match qg s order last (a==0) level low high met nodes[a]with
   |none=>.inl a
   |some met'=>oW nodes (wk s order last nodes d) a nodes[a] low high nodes[a].Kids 0 (a+1) met'):=by
   show(match nodes[a]? with|none=>Sum.inl a|some x=>match qg s order last (a==0) level low high met x with|none=>Sum.inl a|some met'=>oW nodes (wk s order last nodes d) a x low high x.Kids 0 (a+1) met')=_
   rw[hx]
  have K':B7 p0 tr m s order last nodes (λn=>nK n (cF n) p0 (a:Int) ⟨low,high⟩ nodes[a] (H.set p0 (vv tr m nodes ((a+1:Nat):Int) bad)) (if(a==0)=true then nodes[a].Level else level,a==0)) (H.set p0 (vv tr m nodes ((a+1:Nat):Int) bad)) a (wk s order last nodes (d+1) a level low high met):=by
   rw[hwk];exact K
  clear K hwk
  revert K'
  generalize wk s order last nodes (d+1) a level low high met=res
  intro K
  cases res with
  |inl b=>
   obtain⟨H',nx',K1,K2⟩:=K
   exact⟨H',nx',go K1,K2⟩
  |inr q=>
   obtain⟨z,met2⟩:=q
   obtain⟨H',i,lv,bad',K1,K2,K3,K4,K5,K6⟩:=K
   exact⟨H',i,lv,bad',go K1,K2,K3,by rw[hlen]at K4;exact K4,ω,λj j1 j2 j3=>by grind⟩
end
set_option maxRecDepth 100000
def fF(s:ak)(order last:Int)(nodes:List Node)(nx:Int)(met:List Int)(bad:Int):aD:=
 .cells [.d (.list 1 (List.map (D.int .i64) s.aq)),.d (.list 1 (List.map D.bool s.Down)),.d (.int .i64 s.cW),.d (.int .i64 order),.d (.int .i64 last),.d (.list 3 (List.map bn nodes)),.d (.int .i64 nx),.own 1 (List.map (D.int .i64) met),.d (.int .i64 bad)]
section
variable {p0:Nat} {s:ak} {order last:Int} {nodes:List Node} {H:Hp} {o:aD} (hH:H[p0]? =some o)
include hH
def lO:(H.set p0 (fF s order last nodes nx met bad))[p0]? =some (fF s order last nodes nx met bad):=cA hH
def vM:aR cj.cells (H.set p0 (fF s order last nodes nx met bad)) p0 0=some s:=bU (r:=[.d (.int .i64 order),.d (.int .i64 last),.d (.list 3 (List.map bn nodes)),.d (.int .i64 nx),.own 1 (List.map (D.int .i64) met),.d (.int .i64 bad)]) (lO hH) rfl
def Kv:aR (cI .i64).cell (H.set p0 (fF s order last nodes nx met bad)) p0 2=some s.cW:=bU (r:=[.d (.int .i64 order),.d (.int .i64 last),.d (.list 3 (List.map bn nodes)),.d (.int .i64 nx),.own 1 (List.map (D.int .i64) met),.d (.int .i64 bad)]) (lO hH) rfl
def Ch:aR (cI .i64).cell (H.set p0 (fF s order last nodes nx met bad)) p0 3=some order:=bU (r:=[.d (.int .i64 last),.d (.list 3 (List.map bn nodes)),.d (.int .i64 nx),.own 1 (List.map (D.int .i64) met),.d (.int .i64 bad)]) (lO hH) rfl
def F4:aR (cI .i64).cell (H.set p0 (fF s order last nodes nx met bad)) p0 4=some last:=bU (r:=[.d (.list 3 (List.map bn nodes)),.d (.int .i64 nx),.own 1 (List.map (D.int .i64) met),.d (.int .i64 bad)]) (lO hH) rfl
def Ci:aW 3 xz (H.set p0 (fF s order last nodes nx met bad)) p0 5=some nodes:=sM (lO hH) rfl
def vN:aR (cI .i64).cell (H.set p0 (fF s order last nodes nx met bad)) p0 6=some nx:=bU (r:=[.own 1 (List.map (D.int .i64) met),.d (.int .i64 bad)]) (lO hH) rfl
def tg:aW 1 (cI .i64) (H.set p0 (fF s order last nodes nx met bad)) p0 7=some met:=dB (lO hH) rfl
def Kw:aR (cI .i64).cell (H.set p0 (fF s order last nodes nx met bad)) p0 8=some bad:=bU (r:=[]) (lO hH) rfl
def FZ:cH (cI .i64) (H.set p0 (fF s order last nodes nx met bad)) p0 6 b=some (H.set p0 (fF s order last nodes b met bad)):=by
 rw[eW (lO hH) (by simp[cI,D.cells]),m_6];rfl
def EJ:cH (cI .i64) (H.set p0 (fF s order last nodes nx met bad)) p0 8 b=some (H.set p0 (fF s order last nodes nx met b)):=by
 rw[eW (lO hH) (by simp[cI,D.cells]),m_6];rfl
def g8:Ev (λf=>aJ f p0 b (H.set p0 (fF s order last nodes nx met bad))) (false,H.set p0 (fF s order last nodes nx met b)):=by
 unfold aJ
 exact .ae (EJ hH) (.pure _)
def sZ(hs:oa s=true)(ha:nI s a=true)(hb:nI s b=true):Ev (λf=>bC f p0 a b (H.set p0 (fF s order last nodes nx met bad))) (qy s a b):=by
 have fa:bc s.aq a.Row=true:=by simp only[nI,g_3]at ha;exact ha.1.1
 have fb:bc s.aq b.Row=true:=by simp only[nI,g_3]at hb;exact hb.1.1
 obtain⟨h8,hd⟩:=iD hs
 unfold bC qy
 refine .ae (vM hH)<|.bind (rp hs fa fb) ?_
 cases hc:decide (bO s a b<0)with
 |false=>exact .f rfl (.pure _)
 |true=>
  refine .t rfl<|.ae (Kv hH) ?_
  cases hd1:s.cW !=1 with
  |true=>exact .t rfl (.pure _)
  |false=>
   refine .f rfl<|.ae (vM hH)<|.bind (AU s hd fa fb h8) ?_
   have:(qa (cx s.Down a.Row b.Row) !=0)=(cx s.Down a.Row b.Row !=0):=by
    by_cases hz:cx s.Down a.Row b.Row=0
    .rw[hz];rfl
    .have:qa (cx s.Down a.Row b.Row)≠0:=λe=>hz ((nf _).1 e)
     grind
   rw[this]
   exact .pure _
def DS(hl:met.length<100000000): ∀(l:List Int) (k:Nat),met.drop k=l->k<=met.length->
  gT (λf=>dA f p0 (a:Int) e) ((k:Int),H.set p0 (fF s order last nodes nx met bad)) (if l.contains e.Number then .inr (false,H.set p0 (fF s order last nodes nx met (a:Int)))else .inl (H.set p0 (fF s order last nodes nx met bad)))
 |[],k,hd,hk=>by
  have hk2:met.length<=k:=by simpa using hd
  refine .stop ?_
  unfold dA
  exact .ae (tg hH)<|.f (mn hk2) (.pure _)
 |n::l,k,hd,hk=>by
  have hk1:k<met.length:=by
   grind
  have hek:met[k]=n:=by rw[aH hk1]at hd;exact(j_0 hd).1
  have hdl:met.drop (k+1)=l:=by rw[aH hk1]at hd;exact(j_0 hd).2
  have ih:=DS (nx:=nx) (bad:=bad) (a:=a) (e:=e) hl l (k+1) hdl ω
  rw[List.contains_cons]
  by_cases hc:n=e.Number
  .rw[show(e.Number==n)=true by simp[hc],Bool.true_or,if_pos rfl]
   refine .stop ?_
   unfold dA
   refine .ae (tg hH)<|.t (eO hk1)<|.ae (tg hH)<|.ae (aw hk1) ?_
   rw[hek]
   exact .t (by simp[hc])<|.bind (g8 hH) (.pure _)
  .rw[show(e.Number==n)=false by simp;exactλh=>hc h.symm,Bool.false_or]
   refine .next ?_ ih
   unfold dA
   refine .ae (tg hH)<|.t (eO hk1)<|.ae (tg hH)<|.ae (aw hk1) ?_
   rw[hek,cZ ω]
   exact .f (by simp[hc]) (.pure _)
def BC(hs:oa s=true){nx bad:Int}{a:Nat}{x:Node}(hl:x.Entries.length<1000)(hr: ∀e∈x.Entries,e.Row.length<1000): ∀(l:List Entry) (k:Nat) (met:List Int),x.Entries.drop k=l->k<=x.Entries.length->met.length+l.length<10000000->
  match np s last met l with
  |some met'=>gT (λf=>b8 f p0 (a:Int)) (x.Level,x.Entries,x.Kids,(k:Int),H.set p0 (fF s order last nodes nx met bad)) (.inl (x.Level,x.Entries,x.Kids,H.set p0 (fF s order last nodes nx met' bad)))
  |none=> ∃met',gT (λf=>b8 f p0 (a:Int)) (x.Level,x.Entries,x.Kids,(k:Int),H.set p0 (fF s order last nodes nx met bad)) (.inr (false,H.set p0 (fF s order last nodes nx met' (a:Int))))
 |[],k,met,hd,hk,_=>by
  have hk2:x.Entries.length<=k:=by simpa using hd
  simp only[np]
  refine .stop ?_
  unfold b8
  exact .f (mn hk2) (.pure _)
 |e::l,k,met,hd,hk,hm=>by
  have hk1:k<x.Entries.length:=by
   grind
  have hek:x.Entries[k]=e:=by rw[aH hk1]at hd;exact(j_0 hd).1
  have hdl:x.Entries.drop (k+1)=l:=by rw[aH hk1]at hd;exact(j_0 hd).2
  have he:=hr e (hek▸j_2 hk1)
  simp only[j_1]at hm
  simp only[np]
  have hfin:xm s last met e=(nI s e&&(decide (e.Number<=last)&&!met.contains e.Number)):=by simp only[xm,Bool.and_assoc]
  rw[hfin]
  cases h1:nI s e with
  |false=>
   simp only[m_4,g_7,if_false]
   refine⟨met,.stop ?_⟩
   unfold b8
   refine .t (eO hk1)<|.ae (aw hk1)<|.aP ?_
   rw[hek]
   refine .ae (vM hH)<|.bind (tI hs he) ?_
   rw[h1]
   exact .t rfl<|.t rfl<|.bind (g8 hH) (.pure _)
  |true=>
   by_cases h2:e.Number<=last
   .have M:=DS hH (s:=s) (order:=order) (last:=last) (nodes:=nodes) (nx:=nx) (bad:=bad) (a:=a) (e:=e) (met:=met) ω met 0 rfl ω
    have pre: ∀{r},Ev (λf=>(iter (dA f p0 (a:Int) e) f (0,H.set p0 (fF s order last nodes nx met bad))).bind (Sum.elim (λv19=>
       (cw 1 (cI .i64) v19 p0 7).bind λq20=>
       dx (decide ((q20.1++[e.Number]).length<=room))<|
       (bT 1 (cI .i64) q20.2 p0 7 (q20.1++[e.Number])).bind λH22=>
       some (.inl (x.Level,x.Entries,x.Kids,((k+1:Nat):Int),H22))) (λr23=>
       some (.inr (.inr r23))))) r->Ev (λf=>b8 f p0 (a:Int) (x.Level,x.Entries,x.Kids,(k:Int),H.set p0 (fF s order last nodes nx met bad))) r:=by
     intro r hE
     unfold b8
     refine .t (eO hk1)<|.ae (aw hk1)<|.aP ?_
     rw[hek,cZ ω]
     refine .ae (vM hH)<|.bind (tI hs he) ?_
     rw[h1]
     exact .f rfl<|.ae (F4 hH)<|.f χ hE
    cases h3:met.contains e.Number with
    |true=>
     rw[h3]at M
     simp only[Bool.not_true,w_3,g_7,if_false]
     exact⟨met,.stop (pre (.bind M.ev (.pure _)))⟩
    |false=>
     rw[h3]at M
     simp only[g_7,if_false]at M
     simp only[Bool.not_false,Bool.and_true,j_7,h2,decide_true,if_true]
     have ih:=BC hs (nx:=nx) (bad:=bad) (a:=a) hl hr l (k+1) (met++[e.Number]) hdl ω χ
     have ht:cw 1 (cI .i64) (H.set p0 (fF s order last nodes nx met bad)) p0 7=some (met,(H.set p0 (fF s order last nodes nx met bad)).set p0 (.cells [.d (.list 1 (List.map (D.int .i64) s.aq)),.d (.list 1 (List.map D.bool s.Down)),.d (.int .i64 s.cW),.d (.int .i64 order),.d (.int .i64 last),.d (.list 3 (List.map bn nodes)),.d (.int .i64 nx),.undef,.d (.int .i64 bad)])):=mh (lO hH) rfl
     have hg:bT 1 (cI .i64) ((H.set p0 (fF s order last nodes nx met bad)).set p0 (.cells [.d (.list 1 (List.map (D.int .i64) s.aq)),.d (.list 1 (List.map D.bool s.Down)),.d (.int .i64 s.cW),.d (.int .i64 order),.d (.int .i64 last),.d (.list 3 (List.map bn nodes)),.d (.int .i64 nx),.undef,.d (.int .i64 bad)])) p0 7 (met++[e.Number])=some (H.set p0 (fF s order last nodes nx (met++[e.Number]) bad)):=by
      rw[m_6,gy (cA hH) ψ,m_6];rfl
     have T:=pre (.bind M.ev (.ae ht<|.dx (by simp[room];omega)<|.ae hg (.pure _)))
     cases hq:np s last (met++[e.Number]) l with
     |none=>rw[hq]at ih;obtain⟨met',ih⟩:=ih;exact⟨met',.next T ih⟩
     |some met'=>rw[hq]at ih;exact .next T ih
   .simp only[h2,decide_false,m_4,w_3,g_7,if_false]
    refine⟨met,.stop ?_⟩
    unfold b8
    refine .t (eO hk1)<|.ae (aw hk1)<|.aP ?_
    rw[hek]
    refine .ae (vM hH)<|.bind (tI hs he) ?_
    rw[h1]
    exact .f rfl<|.ae (F4 hH)<|.t χ<|.bind (g8 hH) (.pure _)
end
set_option maxRecDepth 100000
def An(s:ak)(e:Entry):Option Entry->Bool
 |none=>true
 |some h=>qy s e h
def BS(s:ak)(low high:Option Entry):Option Entry->List Entry->Bool
 |_,[]=>true
 |p,e::l=>(gN s p e&&(gN s low e&&An s e high))&&BS s low high (some e) l
def mD{s:ak}(h:nI s a=true):bc s.aq a.Row=true:=by simp only[nI,g_3]at h;exact h.1.1
def BQ{s:ak}(hlow:qv s low): ∀{l:List Entry} {p:Option Entry},(∀e∈l,nI s e=true)->(∀e,p=some e->nI s e=true/\gN s low e=true)->Ai s p l=true->(p=none-> ∀e,l.head? =some e->gN s low e=true)-> ∀e∈l,gN s low e=true
 |e::l,p,ho,hp,ha,h0,e',he'=>by
  simp only[Ai,g_3]at ha
  have h1:gN s low e=true:=by
   cases p with
   |none=>exact h0 rfl e rfl
   |some q=>
    obtain⟨q1,q2⟩:=hp q rfl
    cases low with
    |none=>rfl
    |some w=>exact zp (mD (hlow w rfl).1) (mD q1) (mD (ho e ψ)) q2 ha.1
  rcases h_9.1 he' with rfl|he'
  .exact h1
  .exact BQ hlow (λe2 h2=>ho e2 (by simp[h2])) (λe2 h2=>by grind) ha.2 (λh=>by cases h) e' he'
def ze{s:ak}(hhigh:qv s high): ∀{l:List Entry} {p:Option Entry},(∀e∈l,nI s e=true)->Ai s p l=true->(∀e,l.getLast? =some e->An s e high=true)-> ∀e∈l,An s e high=true
 |[e],p,ho,ha,hl,e',he'=>by
  grind
 |e::e2::l,p,ho,ha,hl,e',he'=>by
  simp only[Ai,g_3]at ha
  have ih:=ze hhigh (l:=e2::l) (p:=some e) (λq hq=>ho q (by simp at hq ⊢;right;exact hq)) (by simp only[Ai,g_3];exact ha.2) (λq hq=>hl q (by simpa using hq))
  rcases h_9.1 he' with rfl|he'
  .cases high with
   |none=>rfl
   |some w=>exact zp (mD (ho _ ψ)) (mD (ho e2 ψ)) (mD (hhigh w rfl).1) ha.2.1 (ih e2 ψ)
  .exact ih e' he'
def BR{s:ak}: ∀{l:List Entry} {p:Option Entry},BS s low high p l=(Ai s p l&&l.all λe=>gN s low e&&An s e high)
 |[],p=>rfl
 |e::l,p=>by
  simp only[BS,Ai,v_0,BR (l:=l)]
  grind
def HJ{s:ak}(hlow:qv s low)(hhigh:qv s high)(ho: ∀e∈x.Entries,nI s e=true):BS s low high none x.Entries=(Ai s none x.Entries&&oz s low high x):=by
 rw[BR]
 cases ha:Ai s none x.Entries with
 |false=>rfl
 |true=>
  simp only[j_7]
  rw[Bool.eq_iff_iff]
  constructor
  .intro h
   rw[h_2]at h
   unfold oz
   rw[g_3]
   constructor
   .cases low with
    |none=>rfl
    |some w=>
     cases hh:x.Entries.head? with
     |none=>rfl
     |some a=>
      have:=h a (List.mem_of_mem_head? hh)
      simp only[g_3]at this
      exact this.1
   .cases high with
    |none=>rfl
    |some w=>
     cases hh:x.Entries.getLast? with
     |none=>rfl
     |some a=>
      have:=h a (List.mem_of_mem_getLast? hh)
      simp only[g_3]at this
      exact this.2
  .intro h
   unfold oz at h
   rw[g_3]at h
   rw[h_2]
   intro e he
   rw[g_3]
   constructor
   .refine BQ hlow ho (p:=none) (λe h=>by cases h) ha (λ_ a hh=>?_) e he
    have:=h.1
    cases low with
    |none=>rfl
    |some w=>rw[hh]at this;exact this
   .refine ze hhigh (p:=none) ho ha (λa hh=>?_) e he
    have:=h.2
    cases high with
    |none=>rfl
    |some w=>rw[hh]at this;exact this
section
variable {p0:Nat} {s:ak} {order last:Int} {nodes:List Node} {H:Hp} {o:aD} (hH:H[p0]? =some o)
include hH
def DK(hs:oa s=true){nx bad:Int}{met:List Int}{a:Nat}{x:Node}{low high:Option Entry}(hl:x.Entries.length<1000)(hes: ∀e∈x.Entries,nI s e=true)(hlow:qv s low)(hhigh:qv s high):
  ∀(l:List Entry) (k:Nat) (p:Option Entry),x.Entries.drop k=l->k<=x.Entries.length->(k=0->p=none)->(∀j,k=j+1->p=x.Entries[j]?)->
  gT (λf=>dz f p0 (a:Int) low high) (x.Level,x.Entries,x.Kids,(k:Int),H.set p0 (fF s order last nodes nx met bad))
   (if BS s low high p l then .inl (x.Level,x.Entries,x.Kids,H.set p0 (fF s order last nodes nx met bad))else .inr (false,H.set p0 (fF s order last nodes nx met (a:Int))))
 |[],k,p,hd,hk,h0,h1=>by
  have hk2:x.Entries.length<=k:=by simpa using hd
  simp only[BS,if_true]
  refine .stop ?_
  unfold dz
  exact .f (mn hk2) (.pure _)
 |e::l,k,p,hd,hk,h0,h1=>by
  have hk1:k<x.Entries.length:=by
   grind
  have hek:x.Entries[k]=e:=by rw[aH hk1]at hd;exact(j_0 hd).1
  have hdl:x.Entries.drop (k+1)=l:=by rw[aH hk1]at hd;exact(j_0 hd).2
  have he:=hes e (hek▸j_2 hk1)
  have ih:=DK hs (nx:=nx) (bad:=bad) (met:=met) (a:=a) hl hes hlow hhigh l (k+1) (some e) hdl ω ω (λj hj=>by
   grind)
  have NC:Ev (α:=((Int×(List Entry)×(List Int)×Int×Hp)⊕((Int×(List Entry)×(List Int)×Hp)⊕(((Bool)×Hp))))) (λf=>(Option.elim low
     ((Option.elim high
      (some (.inl (x.Level,x.Entries,x.Kids,((k+1:Nat):Int),H.set p0 (fF s order last nodes nx met bad))))
     (λx32=>
      (bC f p0 e x32 (H.set p0 (fF s order last nodes nx met bad))).bind λr33=>
      bif (!r33)then
       (aJ f p0 (a:Int) (H.set p0 (fF s order last nodes nx met bad))).bind λr34=>
       some (.inr (.inr (r34.1,r34.2)))
      else
       some (.inl (x.Level,x.Entries,x.Kids,((k+1:Nat):Int),H.set p0 (fF s order last nodes nx met bad))))))
    (λx31=>
     (bC f p0 x31 e (H.set p0 (fF s order last nodes nx met bad))).bind λr35=>
     bif (!r35)then
      (aJ f p0 (a:Int) (H.set p0 (fF s order last nodes nx met bad))).bind λr36=>
      some (.inr (.inr (r36.1,r36.2)))
     else
      (Option.elim high
       (some (.inl (x.Level,x.Entries,x.Kids,((k+1:Nat):Int),H.set p0 (fF s order last nodes nx met bad))))
      (λx37=>
       (bC f p0 e x37 (H.set p0 (fF s order last nodes nx met bad))).bind λr38=>
       bif (!r38)then
        (aJ f p0 (a:Int) (H.set p0 (fF s order last nodes nx met bad))).bind λr39=>
        some (.inr (.inr (r39.1,r39.2)))
       else
        some (.inl (x.Level,x.Entries,x.Kids,((k+1:Nat):Int),H.set p0 (fF s order last nodes nx met bad))))))))
    (if(gN s low e&&An s e high)then .inl (x.Level,x.Entries,x.Kids,((k+1:Nat):Int),H.set p0 (fF s order last nodes nx met bad))else .inr (.inr (false,H.set p0 (fF s order last nodes nx met (a:Int))))):=by
   cases low with
   |none=>
    cases high with
    |none=>exact .oI<|.oI (.pure _)
    |some hi=>
     have A:=sZ hH (order:=order) (last:=last) (nodes:=nodes) hs (nx:=nx) (bad:=bad) (met:=met) he (hhigh hi rfl).1
     by_cases hq:qy s e hi=true
     .rw[hq]at A
      simp only[gN,An,hq,j_7,if_true]
      exact .oI<|.j5<|.bind A<|.f rfl (.pure _)
     .have hq:=eq_false_of_ne_true hq
      rw[hq]at A
      simp only[gN,An,hq,j_7,g_7,if_false]
      exact .oI<|.j5<|.bind A<|.t rfl<|.bind (g8 hH) (.pure _)
   |some lo=>
    have B:=sZ hH (order:=order) (last:=last) (nodes:=nodes) hs (nx:=nx) (bad:=bad) (met:=met) (hlow lo rfl).1 he
    by_cases hq:qy s lo e=true
    .rw[hq]at B
     simp only[gN,hq,j_7]
     refine .j5<|.bind B<|.f rfl ?_
     cases high with
     |none=>exact .oI (.pure _)
     |some hi=>
      have A:=sZ hH (order:=order) (last:=last) (nodes:=nodes) hs (nx:=nx) (bad:=bad) (met:=met) he (hhigh hi rfl).1
      by_cases hq:qy s e hi=true
      .rw[hq]at A
       simp only[An,hq,if_true]
       exact .j5<|.bind A<|.f rfl (.pure _)
      .have hq:=eq_false_of_ne_true hq
       rw[hq]at A
       simp only[An,hq,g_7,if_false]
       exact .j5<|.bind A<|.t rfl<|.bind (g8 hH) (.pure _)
    .have hq:=eq_false_of_ne_true hq
     rw[hq]at B
     simp only[gN,hq,m_4,g_7,if_false]
     exact .j5<|.bind B<|.t rfl<|.bind (g8 hH) (.pure _)
  have key:Ev (λf=>dz f p0 (a:Int) low high (x.Level,x.Entries,x.Kids,(k:Int),H.set p0 (fF s order last nodes nx met bad)))
    (if(gN s p e&&(gN s low e&&An s e high))then .inl (x.Level,x.Entries,x.Kids,((k+1:Nat):Int),H.set p0 (fF s order last nodes nx met bad))else .inr (.inr (false,H.set p0 (fF s order last nodes nx met (a:Int))))):=by
   unfold dz
   refine .t (eO hk1)<|.ae (aw hk1) ?_
   rw[hek,cZ ω]
   obtain rfl|⟨j,rfl⟩:k=0\/ ∃j,k=j+1:=by cases k<;>simp
   .have hp0:=h0 rfl
    subst hp0
    simp only[gN,j_7]
    exact .f ψ NC
   .have hj:j<x.Entries.length:=by omega
    have hp1:=h1 j rfl
    rw[h_7 hj]at hp1
    subst hp1
    have hix:idx x.Entries (IntKind.wrap .i64 (((j+1:Nat):Int) - 1))=some x.Entries[j]:=by
     rw[cC ω ω,show((j+1:Nat):Int) - 1=(j:Int)by omega];exact aw hj
    have A:=sZ hH (order:=order) (last:=last) (nodes:=nodes) hs (nx:=nx) (bad:=bad) (met:=met) (hes _ (j_2 hj)) he
    by_cases hq:qy s x.Entries[j] e=true
    .rw[hq]at A
     rw[show(gN s (some x.Entries[j]) e&&(gN s low e&&An s e high))=(gN s low e&&An s e high)by simp only[gN,hq,j_7]]
     exact .t φ<|.ae hix<|.bind A<|.f rfl NC
    .have hq:=eq_false_of_ne_true hq
     rw[hq]at A
     rw[show(gN s (some x.Entries[j]) e&&(gN s low e&&An s e high))=false by simp only[gN,hq,m_4]]
     simp only[g_7,if_false]
     exact .t φ<|.ae hix<|.bind A<|.t rfl<|.bind (g8 hH) (.pure _)
  by_cases hc:(gN s p e&&(gN s low e&&An s e high))=true
  .rw[if_pos hc]at key
   simp only[BS,hc,j_7]
   exact .next key ih
  .rw[if_neg hc]at key
   simp only[BS,eq_false_of_ne_true hc,m_4,g_7,if_false]
   exact .stop key
end
set_option maxRecDepth 100000
def wB(fuel:Nat)(rc:Nat->Int->Int->Option Entry->Option Entry->Hp->Option (Bool×Hp))(p0:Nat)(p1 p2:Int)(p3 p4:Option Entry)(v50:Int×(List Entry)×(List Int)×Hp)(j52 j54:Int):Option (Bool×Hp):=
 aP (λ(j56:Unit)=>
  (iter (bZ fuel rc p0 p1 p3 p4 v50) fuel (0,v50.2.2.2)).bind (Sum.elim (λv81=>
   some (true,v81)) (λr82=>
   some r82))) λjp57=>
 (aR (cI .i64).cell v50.2.2.2 p0 3).bind λx58=>
 bif (decide ((v50.2.1.length:Int)>x58))then
  (aJ fuel p0 p1 v50.2.2.2).bind λr59=>
  some (r59.1,r59.2)
 else
  bif ((decide ((v50.2.1.length:Int)<j52))||(decide (v50.1<0)))then
   (aJ fuel p0 p1 v50.2.2.2).bind λr60=>
   some (r60.1,r60.2)
  else
   bif (decide (p2>=0))then
    bif (v50.1 !=p2)then
     (aJ fuel p0 p1 v50.2.2.2).bind λr61=>
     some (r61.1,r61.2)
    else
     bif ((v50.2.2.1.length:Int) !=j54)then
      (aJ fuel p0 p1 v50.2.2.2).bind λr62=>
      some (r62.1,r62.2)
     else
      jp57 ()
   else
    bif ((v50.2.2.1.length:Int) !=j54)then
     (aJ fuel p0 p1 v50.2.2.2).bind λr63=>
     some (r63.1,r63.2)
    else
     jp57 ()
section
variable {p0:Nat} {s:ak} {order last:Int} {nodes:List Node} {H:Hp} {o:aD}
def LK(p0:Nat)(s:ak)(order last:Int)(nodes:List Node)(H:Hp)(bad:Int)(f:Nat->Option (Bool×Hp))(r:Nat⊕(Nat×List Int)):Prop:=
 match r with
 |.inl b=> ∃nx' met',Ev f (false,H.set p0 (fF s order last nodes nx' met' (b:Nat)))
 |.inr (z,met')=>Ev f (true,H.set p0 (fF s order last nodes (z:Nat) met' bad))/\met'.length<=1000 * z
variable (hH:H[p0]? =some o)
include hH
def Bk{RC:Nat->Nat->Int->Int->Option Entry->Option Entry->Hp->Option (Bool×Hp)}
  (hN:Am nodes) (hxm:x∈nodes) (hk:x.Kids≠[]->x.Kids.length=x.Entries.length+1/\0<x.Level)
  (hlow:qv s low) (hhigh:qv s high) (hes: ∀e∈x.Entries,nI s e=true)
  (hrc: ∀(nx:Nat) (level:Int) (lo hi:Option Entry) (met:List Int),a<nx->nx<nodes.length->0<=level->qv s lo->qv s hi->met.length<=1000 * nx->
   LK p0 s order last nodes H bad (λn=>RC n p0 (nx:Int) level lo hi (H.set p0 (fF s order last nodes (nx:Nat) met bad))) (wk s order last nodes d nx level lo hi met)):
  ∀(ks:List Int) (i nx:Nat) (met:List Int),x.Kids.drop i=ks->i<=x.Kids.length->a<nx->met.length<=1000 * nx->
   match oW nodes (wk s order last nodes d) a x low high ks i nx met with
   |.inl b=> ∃nx' met',gT (λn=>bZ n (RC n) p0 (a:Int) low high (x.Level,x.Entries,x.Kids,Hx)) ((i:Int),H.set p0 (fF s order last nodes (nx:Nat) met bad)) (.inr (false,H.set p0 (fF s order last nodes nx' met' (b:Nat))))
   |.inr (z,met')=>gT (λn=>bZ n (RC n) p0 (a:Int) low high (x.Level,x.Entries,x.Kids,Hx)) ((i:Int),H.set p0 (fF s order last nodes (nx:Nat) met bad)) (.inl (H.set p0 (fF s order last nodes (z:Nat) met' bad)))/\met'.length<=1000 * z
 |[],i,nx,met,hd,hi,ha,hm=>by
  have hik:x.Kids.length<=i:=by simpa using hd
  simp only[oW]
  refine⟨.stop ?_,hm⟩
  unfold bZ
  exact .f (mn hik) (.pure _)
 |k::ks,i,nx,met,hd,hi,ha,hm=>by
  have hik:i<x.Kids.length:=by
   grind
  have hek:x.Kids[i]=k:=by rw[aH hik]at hd;exact(j_0 hd).1
  have hdl:x.Kids.drop (i+1)=ks:=by rw[aH hik]at hd;exact(j_0 hd).2
  have hne:x.Kids≠[]:=by intro e;rw[e]at hik;simp at hik
  obtain⟨hk1,hk2⟩:=hk hne
  obtain⟨b1,b2,b3,b4⟩:=hN.2 x hxm
  have hN1:=hN.1
  simp only[oW]
  by_cases hc:k=(nx:Int)/\nx<nodes.length
  .rw[if_pos hc]
   have hlo:qv s (nz x low i):=by
    unfold nz
    split
    .intro e he
     grind
    .exact hlow
   have hhi:qv s (gP x high i):=by
    unfold gP
    split
    .intro e he
     grind
    .exact hhigh
   have R:=hrc nx (x.Level - 1) (nz x low i) (gP x high i) met ha hc.2 ω hlo hhi hm
   have step: ∀{r o'},Ev (λn=>RC n p0 (nx:Int) (x.Level - 1) (nz x low i) (gP x high i) (H.set p0 (fF s order last nodes (nx:Nat) met bad))) r->
     Ev (λn=>bif (!r.1)then some (.inr (.inr (false,r.2)))else some (.inl (((i+1:Nat):Int),r.2))) o'->
     Ev (λn=>bZ n (RC n) p0 (a:Int) low high (x.Level,x.Entries,x.Kids,Hx) ((i:Int),H.set p0 (fF s order last nodes (nx:Nat) met bad))) o':=by
    intro r o' hr hE
    unfold bZ
    refine .t (eO hik)<|.aP<|.ae (aw hik) ?_
    rw[hek]
    refine .ae (vN hH)<|.f (by simp[hc.1])<|.ae (vN hH)<|.ae (Ci hH)<|.f χ<|.aP ?_
    have tail: ∀{lo:Option Entry},lo=nz x low i->Ev (λn=>aP (λ(j75:(Option Entry))=>
      (idx x.Kids (i:Int)).bind λx78=>
      (RC n p0 x78 (IntKind.wrap .i64 (x.Level - 1)) lo j75 (H.set p0 (fF s order last nodes (nx:Nat) met bad))).bind λr79=>
      bif (!r79.1)then
       some (.inr (.inr (false,r79.2)))
      else
       some (.inl ((IntKind.wrap .i64 ((i:Int)+1)),r79.2))) λjp76=>
     bif (decide ((i:Int)<(x.Entries.length:Int)))then
      (idx x.Entries (i:Int)).bind λx77=>
      jp76 (some x77)
     else
      jp76 high) o':=by
     rintro lo rfl
     rw[cZ ω,cC (x:=x.Level - 1) (by unfold i64 at b3;omega) (by unfold i64 at b3;omega)]
     refine .aP ?_
     by_cases hx:i<x.Entries.length
     .refine .t (eO hx)<|.ae (aw hx)<|.ae (aw hik) ?_
      have e:gP x high i=some x.Entries[i]:=by unfold gP;grind
      rw[e]at hr
      rw[hek,hc.1]
      exact .bind hr hE
     .refine .f (mn ω)<|.ae (aw hik) ?_
      have e:gP x high i=high:=by unfold gP;rw[if_neg hx]
      rw[e]at hr
      rw[hek,hc.1]
      exact .bind hr hE
    by_cases h0:0<i
    .have hj:i - 1<x.Entries.length:=by omega
     have hix:idx x.Entries (IntKind.wrap .i64 ((i:Int) - 1))=some x.Entries[i - 1]:=by
      rw[cC ω ω,show(i:Int) - 1=((i - 1:Nat):Int)by omega];exact aw hj
     exact .t χ<|.ae hix<|tail (by unfold nz;grind)
    .exact .f χ<|tail (by unfold nz;rw[if_neg h0])
   cases hw:wk s order last nodes d nx (x.Level - 1) (nz x low i) (gP x high i) met with
   |inl b=>
    rw[hw]at R
    obtain⟨nx',met',R1⟩:=R
    exact⟨nx',met',.stop (step R1 (.t rfl (.pure _)))⟩
   |inr q=>
    obtain⟨z,met'⟩:=q
    rw[hw]at R
    obtain⟨R1,R2⟩:=R
    have hlt:nx<z:=FV hw
    have T:=step R1 (.f rfl (.pure _))
    have IH:=Bk hN hxm hk hlow hhigh hes hrc ks (i+1) z met' hdl ω ω R2 (Hx:=Hx)
    simp only
    cases hw2:oW nodes (wk s order last nodes d) a x low high ks (i+1) z met' with
    |inl b=>
     rw[hw2]at IH
     obtain⟨nx',met2,I1⟩:=IH
     exact⟨nx',met2,.next T I1⟩
    |inr q=>
     obtain⟨z',met2⟩:=q
     rw[hw2]at IH
     exact⟨.next T IH.1,IH.2⟩
  .rw[if_neg hc]
   simp only
   refine⟨nx,met,.stop ?_⟩
   unfold bZ
   refine .t (eO hik)<|.aP<|.ae (aw hik) ?_
   rw[hek]
   refine .ae (vN hH) ?_
   by_cases hkn:k=(nx:Int)
   .exact .f (by simp[hkn])<|.ae (vN hH)<|.ae (Ci hH)<|.t χ<|.bind (g8 hH) (.pure _)
   .exact .t (by simp[hkn])<|.t rfl<|.bind (g8 hH) (.pure _)
def Mc{a:Nat}{x:Node}{low high:Option Entry}{nx bad p2 j52 j54:Int}{met:List Int}{RC:Nat->Nat->Int->Int->Option Entry->Option Entry->Hp->Option (Bool×Hp)}:
  ((x.Entries.length:Int)<=order/\j52<=(x.Entries.length:Int)/\0<=x.Level/\(0<=p2->x.Level=p2)/\(x.Kids.length:Int)=j54->
   ∀r,Ev (λn=>(iter (bZ n (RC n) p0 (a:Int) low high (x.Level,x.Entries,x.Kids,H.set p0 (fF s order last nodes nx met bad))) n (0,H.set p0 (fF s order last nodes nx met bad))).bind (Sum.elim (λv81=>some (true,v81)) (λr82=>some r82))) r->
   Ev (λn=>wB n (RC n) p0 (a:Int) p2 low high (x.Level,x.Entries,x.Kids,H.set p0 (fF s order last nodes nx met bad)) j52 j54) r)/\
  (¬((x.Entries.length:Int)<=order/\j52<=(x.Entries.length:Int)/\0<=x.Level/\(0<=p2->x.Level=p2)/\(x.Kids.length:Int)=j54)->
   Ev (λn=>wB n (RC n) p0 (a:Int) p2 low high (x.Level,x.Entries,x.Kids,H.set p0 (fF s order last nodes nx met bad)) j52 j54) (false,H.set p0 (fF s order last nodes nx met (a:Int)))):=by
 have W:=λ{b:Int}=>g8 hH (s:=s) (order:=order) (last:=last) (nodes:=nodes) (nx:=nx) (bad:=bad) (b:=b) (met:=met)
 constructor
 .rintro ⟨c1,c2,c3,c4,c5⟩ r hE
  unfold wB
  refine .aP<|.ae (Ch hH)<|.f φ<|.f χ ?_
  grind
 .intro hn
  unfold wB
  refine .aP<|.ae (Ch hH) ?_
  by_cases c1:(x.Entries.length:Int)<=order
  .refine .f φ ?_
   by_cases c2:j52<=(x.Entries.length:Int)/\0<=x.Level
   .refine .f χ ?_
    by_cases hp:0<=p2
    .refine .t φ ?_
     by_cases c4:x.Level=p2
     .refine .f (by simp[c4]) ?_
      have c5:(x.Kids.length:Int)≠j54:=λe=>hn ⟨c1,c2.1,c2.2,λ_=>c4,e⟩
      exact .t (bne_iff_ne.2 c5)<|.bind W (.pure _)
     .exact .t (bne_iff_ne.2 c4)<|.bind W (.pure _)
    .refine .f φ ?_
     have c5:(x.Kids.length:Int)≠j54:=λe=>hn ⟨c1,c2.1,c2.2,λh=>absurd h hp,e⟩
     exact .t (bne_iff_ne.2 c5)<|.bind W (.pure _)
   .exact .t χ<|.bind W (.pure _)
  .exact .t φ<|.bind W (.pure _)
end
set_option maxRecDepth 100000
def wO{s:ak}{last:Int}: ∀{l:List Entry} {met met':List Int},np s last met l=some met'->met'.length=met.length+l.length
 |[],met,met',h=>by simp only[np,g_4]at h;subst h;rfl
 |e::l,met,met',h=>by
  simp only[np]at h
  split at h
  .have:=wO h
   grind
  .cases h
section
variable {p0:Nat} {s:ak} {order last:Int} {nodes:List Node} {H:Hp} {o:aD} (hH:H[p0]? =some o)
include hH
def yh(hs:oa s=true)(h3:3<=order)(h32:order<=32)(hN:Am nodes): ∀(d a:Nat) (level:Int) (low high:Option Entry) (met:List Int),
  a<nodes.length->nodes.length<=a+d->qv s low->qv s high->(a=0->level= -1)->(a≠0->0<=level)->met.length<=1000 * a->
   LK p0 s order last nodes H bad (λn=>bS n p0 (a:Int) level low high (H.set p0 (fF s order last nodes (a:Nat) met bad))) (wk s order last nodes d a level low high met)
 |0,a,level,low,high,met,ha,hd,_,_,_,_,_=>by omega
 |d+1,a,level,low,high,met,ha,hd,hlow,hhigh,h0,hl0,hm=>by
  have hx:nodes[a]? =some nodes[a]:=h_7 ha
  have hxm:nodes[a]∈nodes:=j_2 ha
  generalize hxe:nodes[a]=x at hx hxm
  have hN1:=hN.1
  obtain⟨b1,b2,b3,b4⟩:=hN.2 x hxm
  have E:=BC hH (order:=order) (last:=last) (nodes:=nodes) hs (nx:=((a+1:Nat):Int)) (bad:=bad) (a:=a) (x:=x) b1 (λe he=>(b4 e he).1) x.Entries 0 met rfl ω ω
  have hwk:wk s order last nodes (d+1) a level low high met=(match qg s order last (a==0) level low high met x with
   |none=>.inl a
   |some met'=>oW nodes (wk s order last nodes d) a x low high x.Kids 0 (a+1) met'):=by
   show(match nodes[a]? with|none=>Sum.inl a|some x=>match qg s order last (a==0) level low high met x with|none=>Sum.inl a|some met'=>oW nodes (wk s order last nodes d) a x low high x.Kids 0 (a+1) met')=_
   rw[hx]
  rw[hwk]
  clear hwk
  have head: ∀{r},Ev (λn=>(iter (b8 n p0 (a:Int)) n (x.Level,x.Entries,x.Kids,0,H.set p0 (fF s order last nodes ((a+1:Nat):Int) met bad))).bind (Sum.elim (λv25=>
     (iter (dz n p0 (a:Int) low high) n (v25.1,v25.2.1,v25.2.2.1,0,v25.2.2.2)).bind (Sum.elim (λv50=>
      (aR (cI .i64).cell v50.2.2.2 p0 3).bind λx51=>
      aP (λ(j52:Int)=>
       aP (λ(j54:Int)=>wB n (bS n) p0 (a:Int) level low high v50 j52 j54) λjp55=>
       bif (v50.1==0)then
        jp55 0
       else
        jp55 (IntKind.wrap .i64 ((v50.2.1.length:Int)+1))) λjp53=>
      bif ((a:Int)==0)then
       bif (v50.1 !=0)then
        jp53 1
       else
        jp53 0
      else
       jp53 (IntKind.wrap .i64 (Int.tdiv x51 2))) (λr83=>
      some r83))) (λr84=>
     some r84))) r->Ev (λn=>bS n p0 (a:Int) level low high (H.set p0 (fF s order last nodes (a:Nat) met bad))) r:=by
   intro r hE
   refine kJ (g:=λn=>fH n (bS n) p0 (a:Int) level low high (H.set p0 (fF s order last nodes (a:Nat) met bad))) (λn=>rfl) ?_
   unfold fH
   refine .ae (vN hH) ?_
   rw[cZ ω]
   refine .ae (FZ hH)<|.ae (Ci hH)<|.ae (dv hx) hE
  have badN:qg s order last (a==0) level low high met x=none->(∃met',Ev (λn=>bS n p0 (a:Int) level low high (H.set p0 (fF s order last nodes (a:Nat) met bad))) (false,H.set p0 (fF s order last nodes ((a+1:Nat):Int) met' (a:Int))))->
    LK p0 s order last nodes H bad (λn=>bS n p0 (a:Int) level low high (H.set p0 (fF s order last nodes (a:Nat) met bad))) (match qg s order last (a==0) level low high met x with
   |none=>.inl a
   |some met'=>oW nodes (wk s order last nodes d) a x low high x.Kids 0 (a+1) met'):=by
   rintro hn ⟨met',hE⟩
   rw[hn]
   exact⟨_,met',hE⟩
  cases hq:np s last met x.Entries with
  |none=>
   rw[hq]at E
   obtain⟨met',E⟩:=E
   exact badN (by unfold qg;simp only[hq,ite_self]) ⟨met',head (.bind E.ev (.pure _))⟩
  |some met'=>
   rw[hq]at E
   have hlen:=wO hq
   have hes:=sB hq
   have O:=DK hH (order:=order) (last:=last) (nodes:=nodes) hs (nx:=((a+1:Nat):Int)) (bad:=bad) (met:=met') (a:=a) (x:=x) (low:=low) (high:=high) b1 hes hlow hhigh x.Entries 0 none rfl ω (λ_=>rfl) (λj hj=>by omega)
   rw[HJ hlow hhigh hes]at O
   by_cases hc:(Ai s none x.Entries&&oz s low high x)=true
   .rw[if_pos hc]at O
    rw[g_3]at hc
    obtain⟨j52,hj52⟩: ∃j:Int,j=if a=0 then(if x.Level=0 then 0 else 1)else order / 2:=⟨_,rfl⟩
    obtain⟨j54,hj54⟩: ∃j:Int,j=if x.Level=0 then 0 else(x.Entries.length:Int)+1:=⟨_,rfl⟩
    have head2: ∀{r},Ev (λn=>wB n (bS n) p0 (a:Int) level low high (x.Level,x.Entries,x.Kids,H.set p0 (fF s order last nodes ((a+1:Nat):Int) met' bad)) j52 j54) r->Ev (λn=>bS n p0 (a:Int) level low high (H.set p0 (fF s order last nodes (a:Nat) met bad))) r:=by
     intro r hE
     refine head<|.bind E.ev<|.bind O.ev<|.ae (Ch hH)<|.aP ?_
     have tail: ∀{k:Int},k=j52->Ev (λn=>aP (λ(j54:Int)=>wB n (bS n) p0 (a:Int) level low high (x.Level,x.Entries,x.Kids,H.set p0 (fF s order last nodes ((a+1:Nat):Int) met' bad)) k j54) λjp55=>
       bif (x.Level==0)then
        jp55 0
       else
        jp55 (IntKind.wrap .i64 ((x.Entries.length:Int)+1))) r:=by
      rintro k rfl
      refine .aP ?_
      by_cases hz:x.Level=0
      .grind
      .have:j54=(x.Entries.length:Int)+1:=by rw[hj54,if_neg hz]
       rw[this]at hE
       rw[cC (x:=(x.Entries.length:Int)+1) ω ω]
       exact .f (by simp[hz]) hE
     by_cases ha0:a=0
     .grind
     .refine .f (by simp[ha0]) (tail ?_)
      rw[show Int.tdiv order 2=order / 2 by grind,cC ω ω]
      rw[hj52,if_neg ha0]
    obtain⟨W1,W2⟩:=Mc hH (s:=s) (order:=order) (last:=last) (nodes:=nodes) (a:=a) (x:=x) (low:=low) (high:=high) (nx:=((a+1:Nat):Int)) (bad:=bad) (p2:=level) (j52:=j52) (j54:=j54) (met:=met') (RC:=λn=>bS n)
    have hiff:((x.Entries.length:Int)<=order/\j52<=(x.Entries.length:Int)/\0<=x.Level/\(0<=level->x.Level=level)/\(x.Kids.length:Int)=j54)<->(vp order (a==0) x&&vl (a==0) level x&&w9 x)=true:=by
     simp only[vp,vl,w9,g_3,p_2,decide_eq_true_eq,beq_iff_eq,bne_iff_ne,ne_eq]
     grind
    by_cases hg:(vp order (a==0) x&&vl (a==0) level x&&w9 x)=true
    .have hok:qg s order last (a==0) level low high met x=some met':=by
      unfold qg
      rw[hg,hc.1,hc.2,hq];rfl
     rw[hok]
     simp only[g_3]at hg
     have hk:x.Kids≠[]->x.Kids.length=x.Entries.length+1/\0<x.Level:=by
      intro hne
      have h1:=hg.2
      simp only[w9,g_3,beq_iff_eq]at h1
      grind
     have K:=Bk hH (d:=d) (a:=a) (x:=x) (low:=low) (high:=high) (bad:=bad) (Hx:=H.set p0 (fF s order last nodes ((a+1:Nat):Int) met' bad)) (RC:=λn=>bS n) hN hxm hk hlow hhigh hes
      (λnx level lo hi met h1 h2 h3' h4 h5 h6=>yh hs h3 h32 hN d nx level lo hi met h2 ω h4 h5 ω (λ_=>h3') h6) x.Kids 0 (a+1) met' rfl ω ω ω
     have hgood:=hiff.2 φ
     simp only
     cases hw:oW nodes (wk s order last nodes d) a x low high x.Kids 0 (a+1) met' with
     |inl b=>
      rw[hw]at K
      obtain⟨nx',met2,K1⟩:=K
      exact⟨nx',met2,head2 (W1 hgood _ (.bind K1.ev (.pure _)))⟩
     |inr q=>
      obtain⟨z,met2⟩:=q
      rw[hw]at K
      exact⟨head2 (W1 hgood _ (.bind K.1.ev (.pure _))),K.2⟩
    .refine badN ?_ ⟨met',head2 (W2 (λh=>hg (hiff.1 h)))⟩
     unfold qg
     rw[eq_false_of_ne_true hg];rfl
   .rw[if_neg hc]at O
    refine badN ?_ ⟨met',head (.bind E.ev (.bind O.ev (.pure _)))⟩
    unfold qg
    grind
end
set_option maxRecDepth 100000
def IB:wk s order last nodes d 0 lv lo hi met=wk s order last nodes d 0 lv' lo hi met:=by
 cases d with
 |zero=>rfl
 |succ d=>
  show(match nodes[0]? with|none=>Sum.inl 0|some x=>match qg s order last (0==0) lv lo hi met x with|none=>Sum.inl 0|some met'=>oW nodes (wk s order last nodes d) 0 x lo hi x.Kids 0 (0+1) met')=
   (match nodes[0]? with|none=>Sum.inl 0|some x=>match qg s order last (0==0) lv' lo hi met x with|none=>Sum.inl 0|some met'=>oW nodes (wk s order last nodes d) 0 x lo hi x.Kids 0 (0+1) met')
  have: ∀x,qg s order last (0==0) lv lo hi met x=qg s order last (0==0) lv' lo hi met x:=λx=>by
   simp only[qg,vl,beq_self_eq_true,Bool.true_or]
  grind
def nJ(s:ak)(order last:Int)(nodes:List Node):Int×Int:=
 if oa s=true then
  if 3<=order/\order<=32/\0<=last then
   if nodes.length=0 then(0,12)
   else match wk s order last nodes nodes.length 0 0 none none []with
    |.inl b=>((b:Nat),12)
    |.inr (z,met)=>if z<nodes.length then((z:Nat),12)else if 500<met.length then(0,4)else(-1,0)
  else(0,7)
 else(0,1)
def sw:qv s none:=λe h=>by cases h
def E4(s:ak)(order last:Int)(nodes:List Node)(hN:Am nodes)(hk:s.aq.length<1000):Ev (λf=>sk f s order last nodes) (nJ s order last nodes):=by
 have hN1:=hN.1
 unfold sk nJ
 refine .bind (yD s hk) ?_
 cases hs:oa s with
 |false=>
  simp only[g_7,if_false]
  exact .t rfl (.pure _)
 |true=>
  simp only[if_true]
  refine .f rfl ?_
  by_cases hc:3<=order/\order<=32/\0<=last
  .rw[if_pos hc]
   refine .f χ ?_
   by_cases h0:nodes.length=0
   .rw[if_pos h0]
    exact .t (by simp[q_0.1 h0]) (.pure _)
   .rw[if_neg h0]
    refine .f (beq_eq_false_iff_ne.2 ω)<|.ae rfl ?_
    let H1:Hp:=[]++[fF s order last nodes 0 [] (-1)]
    have hH:H1[0]? =some (fF s order last nodes 0 [] (-1)):=rfl
    have W:=yh hH hs hc.1 hc.2.1 hN (last:=last) (bad:= -1) nodes.length 0 (-1) none none [] ω ω sw sw (λ_=>rfl) (λh=>absurd rfl h) ψ
    rw[IB (lv':=0)]at W
    have e0:H1.set 0 (fF s order last nodes ((0:Nat):Int) [] (-1))=H1:=rfl
    rw[e0]at W
    cases hw:wk s order last nodes nodes.length 0 0 none none []with
    |inl b=>
     rw[hw]at W
     obtain⟨nx',met',W⟩:=W
     simp only
     exact .bind W<|.t rfl<|.ae (Kw hH) (.pure _)
    |inr q=>
     obtain⟨z,met⟩:=q
     rw[hw]at W
     obtain⟨W,-⟩:=W
     simp only
     refine .bind W<|.f rfl<|.ae (vN hH) ?_
     by_cases hz:z<nodes.length
     .rw[if_pos hz]
      exact .t (eO hz)<|.ae (vN hH) (.pure _)
     .rw[if_neg hz]
      refine .f (mn ω)<|.ae (tg hH) ?_
      by_cases hm:500<met.length
      .rw[if_pos hm];exact .t χ (.pure _)
      .rw[if_neg hm];exact .f χ (.pure _)
  .rw[if_neg hc]
   exact .t χ (.pure _)
def Ep(f:Nat)(h:r.length<1000):fy f r=some r:=by
 unfold fy
 cases r with
 |nil=>rfl
 |cons a l=>
  show Go.Sh.dx (decide ((([]:List Int)++a::l).length<=room)) (some ([]++a::l))=_
  rw[show decide ((([]:List Int)++a::l).length<=room)=true by
   rw[decide_eq_true_eq]
   have:(a::l).length<1000:=h
   simp only[m_3,room]
   omega]
  rfl
def JB(f:Nat)(h:r.length<1000):eY f r=some r:=by
 unfold eY
 cases r with
 |nil=>rfl
 |cons a l=>
  show Go.Sh.dx (decide ((([]:List Bool)++a::l).length<=room)) (some ([]++a::l))=_
  rw[show decide ((([]:List Bool)++a::l).length<=room)=true by
   rw[decide_eq_true_eq]
   have:(a::l).length<1000:=h
   simp only[m_3,room]
   omega]
  rfl
def Dz(s:ak)(order:Int)(H:Hp)(hk:s.aq.length<1000)(hd:s.Down.length<1000):Ev (λf=>ux f s order H)
  (if oa s=true then(if 3<=order/\order<=32 then((some (H.length+1),0),(H++[cz [] []])++[gZ s order (some H.length) 0 0])else((none,7),H))else((none,1),H)):=by
 unfold ux
 refine .bind (EU s) ?_
 cases hs:oa s with
 |false=>simp only[g_7,if_false];exact .t rfl (.pure _)
 |true=>
  simp only[if_true]
  refine .f rfl ?_
  by_cases hc:3<=order/\order<=32
  .rw[if_pos hc]
   refine .f χ<|.bind (.of λn=>Ep n hk)<|.bind (.of λn=>JB n hd)<|.ae rfl<|.ae rfl ?_
   refine .of λn=>?_
   simp only[cz,gZ,cP,h_5,j_1,v_2,q_1]
  .rw[if_neg hc]
   exact .t χ (.pure _)
def Gj(s:ak)(order last:Int)(nodes:List Node)(hN:Am nodes)(hk:s.aq.length<1000)(hd:s.Down.length<1000)(H:Hp):
  ∃t H',Ev (λf=>lV f s order last nodes H) ((t,nJ s order last nodes),H')/\
   ((nJ s order last nodes).2=0-> ∃root z met,t=some (H.length+1)/\wk s order last nodes nodes.length 0 0 none none []=.inr (z,met)/\nodes.length<=z/\
    H'[H.length+1]? =some (gZ s order (some root) last (met.length:Nat))/\(∀j,j<H.length->H'[j]? =H[j]?)/\H.length+2<=H'.length/\ ∃b lv,H.length+2<=b/\HN b nodes H' lv 0 z root):=by
 have hN1:=hN.1
 have N:=Dz s order H hk hd
 unfold nJ
 cases hs:oa s with
 |false=>
  rw[hs]at N
  simp only[g_7,if_false]at N ⊢
  refine⟨none,H,?_,λh=>by cases h⟩
  unfold lV
  exact .bind N<|.t rfl (.pure _)
 |true=>
  rw[hs]at N
  simp only[if_true]at N ⊢
  by_cases hc:3<=order/\order<=32/\0<=last
  .rw[if_pos ⟨hc.1,hc.2.1⟩]at N
   rw[if_pos hc]
   let H1:Hp:=(H++[cz [] []])++[gZ s order (some H.length) 0 0]
   let H2:Hp:=H1.set (H.length+1) (gZ s order (some H.length) last 0)
   let H3:Hp:=H2++[eG []]
   let H4:Hp:=H3++[vv (H.length+1) H2.length nodes 0 0]
   have n1:H1.length=H.length+2:=by simp[H1]
   have n2:H2.length=H.length+2:=by simp[H2,n1]
   have n3:H3.length=H.length+3:=by simp[H3,n2]
   have n4:H4.length=H.length+4:=by simp[H4,n3]
   have g1:H1[H.length+1]? =some (gZ s order (some H.length) 0 0):=by simp[H1]
   have s5:cH (cI .i64) H1 (H.length+1) 5 last=some H2:=eW g1 (by simp[cI,D.cells])
   have g2:H2[H.length+1]? =some (gZ s order (some H.length) last 0):=cA g1
   have g4t:H4[H.length+1]? =some (gZ s order (some H.length) last 0):=by
    grind
   have g4m:H4[H2.length]? =some (eG []):=by
    grind
   have g4p:H4[H3.length]? =some (vv (H.length+1) H2.length nodes 0 0):=Ex
   have LI:k7 H3.length (H.length+1) H2.length s order last nodes H4 ((0:Nat):Int) 0:=⟨g4p,⟨_,_,g4t⟩,⟨_,g4m⟩,ω,ω,ω⟩
   have pre: ∀{q:Option Nat×Hp} {r},Ev (λn=>cF n H3.length 0 ⟨none,none⟩ H4) q->Ev (λfuel=>aP (λ(j8:(Option Nat)×Bool)=>
     bif j8.2 then
      (aR (cI .i64).cell q.2 H3.length 4).bind λx11=>
      some ((none,x11,12),q.2)
     else
      (aR (cI .i64).cell q.2 H3.length 2).bind λx12=>
      bif (decide (x12<(nodes.length:Int)))then
       (aR (cI .i64).cell q.2 H3.length 2).bind λx13=>
       some ((none,x13,12),q.2)
      else
       (aR cM.cell q.2 H3.length 3).bind λx14=>
       (zV (kI .i64) cB q.2 x14).bind λq15=>
       bif (decide (q15>500))then
        some ((none,0,4),q.2)
       else
        (aR cM.cell q.2 H3.length 3).bind λx16=>
        (zV (kI .i64) cB q.2 x16).bind λq17=>
        (cH cP q.2 (H.length+1) 4 j8.1).bind λH18=>
        (cH (cI .i64) H18 (H.length+1) 6 q17).bind λH19=>
        (fy fuel s.aq).bind λr20=>
        (cH (cL 1 (cI .i64)) H19 (H.length+1) 0 r20).bind λH21=>
        some (((some (H.length+1)),(-1),0),H21)) λjp9=>
     (Option.elim q.1
      (jp9 (none,true))
     (λi10=>
      jp9 ((some i10),false)))) r->Ev (λf=>lV f s order last nodes H) r:=by
    intro q r h1 h2
    unfold lV
    exact .bind N<|.f rfl<|.f χ<|.ae rfl<|.ae s5<|.ae rfl<|.ae rfl<|.ae rfl<|.bind h1 h2
   by_cases h0:nodes.length=0
   .rw[if_pos h0]
    refine⟨none,_,pre (q:=(none,H4.set H3.length (vv (H.length+1) H2.length nodes 0 0))) ?_ (.aP<|.oI<|.t rfl<|.ae (LI.put 0 0).bd (.pure _)),λh=>by cases h⟩
    refine kJ (g:=λn=>dQ n (cF n) H3.length 0 ⟨none,none⟩ H4) (λn=>rfl) ?_
    unfold dQ
    exact .ae LI.FO<|.ae LI.gq<|.t (by simp[q_0.1 h0])<|.ae (LI.zx 0) (.pure _)
   .rw[if_neg h0]
    have L:=yM hs hc.1 hc.2.1 hN nodes.length 0 0 none none [] H4 0 ω ω sw sw LI g4m
    cases hw:wk s order last nodes nodes.length 0 0 none none []with
    |inl b=>
     rw[hw]at L
     obtain⟨H',nx',L1,L2⟩:=L
     simp only
     exact⟨none,H',pre L1 (.aP<|.oI<|.t rfl<|.ae L2.bd (.pure _)),λh=>by cases h⟩
    |inr q=>
     obtain⟨z,met⟩:=q
     rw[hw]at L
     obtain⟨H',i,lv,bad',L1,L2,L3,L4,L5,L6⟩:=L
     simp only
     have hlen:zV (kI .i64) cB H' (some H2.length)=some ((met.length:Nat):Int):=by
      rw[Jq L3];simp[CO]
     by_cases hz:z<nodes.length
     .rw[if_pos hz]
      exact⟨none,H',pre L1 (.aP<|.j5<|.f rfl<|.ae L2.FO<|.t (eO hz)<|.ae L2.FO (.pure _)),λh=>by cases h⟩
     .rw[if_neg hz]
      by_cases hm:500<met.length
      .rw[if_pos hm]
       exact⟨none,H',pre L1 (.aP<|.j5<|.f rfl<|.ae L2.FO<|.f (mn ω)<|.ae L2.mp<|.ae hlen<|.t χ (.pure _)),λh=>by cases h⟩
      .rw[if_neg hm]
       have e0:H'[H.length+1]? =some (gZ s order (some H.length) last 0):=by grind
       let H5:Hp:=H'.set (H.length+1) (gZ s order (some i) last 0)
       have s1:cH cP H' (H.length+1) 4 (some i)=some H5:=eW e0 (by simp[cP,D.cells])
       have e1:H5[H.length+1]? =some (gZ s order (some i) last 0):=cA e0
       let H6:Hp:=H5.set (H.length+1) (gZ s order (some i) last (met.length:Nat))
       have s2:cH (cI .i64) H5 (H.length+1) 6 ((met.length:Nat):Int)=some H6:=eW e1 (by simp[cI,D.cells])
       have e2:H6[H.length+1]? =some (gZ s order (some i) last (met.length:Nat)):=cA e1
       let H7:Hp:=H6.set (H.length+1) (gZ s order (some i) last (met.length:Nat))
       have s3:cH (cL 1 (cI .i64)) H6 (H.length+1) 0 s.aq=some H7:=eW e2 (by simp[cL,D.cells])
       have e3: ∀j,j≠H.length+1->H7[j]? =H'[j]? :=λj hj=>by
        grind
       refine⟨some (H.length+1),H7,pre L1 (.aP<|.j5<|.f rfl<|.ae L2.FO<|.f (mn ω)<|.ae L2.mp<|.ae hlen<|.f χ<|
        .ae L2.mp<|.ae hlen<|.ae s1<|.ae s2<|.bind (.of λn=>Ep n hk)<|.ae s3 (.pure _)),λ_=>?_⟩
       refine⟨i,z,met,rfl,rfl,ω,cA e2,λj hj=>?_,?_,H4.length,lv,ω,L4.frame λj j1 j2=>e3 j ω⟩
       .rw[e3 j ω,L6 j ω ω ω]
        grind
       grind
  .rw[if_neg hc]
   by_cases ho:3<=order/\order<=32
   .rw[if_pos ho]at N
    refine⟨none,(H++[cz [] []])++[gZ s order (some H.length) 0 0],?_,λh=>by cases h⟩
    unfold lV
    exact .bind N<|.f rfl<|.t χ (.pure _)
   .rw[if_neg ho]at N
    refine⟨none,H,?_,λh=>by cases h⟩
    unfold lV
    exact .bind N<|.t rfl (.pure _)
def dT(h:HN b nodes H lv a z i): ∃x is,nodes[a]? =some x/\H[i]? =some (cz x.Entries is)/\x.Level=(lv:Int)/\(lv=0->is=[]/\x.Kids=[]/\z=a+1)/\(lv≠0->x.Kids.length=x.Entries.length+1)/\yc (HN b nodes H (lv - 1)) x.Kids is (a+1) z:=by
 cases lv with
 |zero=>
  obtain⟨x,h1,h2,h3,h4,h5,h6⟩:=h
  exact⟨x,[],h1,h4,by simpa using h2,λ_=>⟨rfl,h3,h5⟩,λh=>absurd rfl h,by rw[h3];exact h5.symm⟩
 |succ lv=>
  obtain⟨x,is,h1,h2,h3,h4,h5,h6⟩:=h
  grind
def yc.len{P:Nat->Nat->Nat->Prop}: ∀{ks:List Int} {is:List (Option Nat)} {a z:Nat},yc P ks is a z->is.length=ks.length
 |[],[],a,z,hh=>rfl
 |k::ks,some i::is,a,z,hh=>by
  obtain⟨h1,m,h2,h3⟩:=hh
  simp[yc.len h3]
 |[],some _::_,_,_,hh=>hh.elim
 |[],none::_,_,_,hh=>hh.elim
 |_::_,[],_,_,hh=>hh.elim
 |_::_,none::_,_,_,hh=>hh.elim
def cT(h:H[i]? =some (cz es is)):Ev (λf=>bH f i H) (decide (is=[])):=by
 unfold bH
 refine .ae (dB h rfl) ?_
 have:((is.length:Int)==0)=decide (is=[]):=by
  cases is<;>simp
  omega
 rw[this]
 exact .pure _
def yN: ∀(lv a z i:Nat) (c:Nat),c+lv<1000000->HN b nodes H lv a z i->gT (λf=>eX f H) ((c:Int),some i) ((c+lv:Nat):Int)
 |0,a,z,i,c,hc,h=>by
  obtain⟨x,is,h1,h2,h3,h4,h5,h6⟩:=dT h
  obtain⟨rfl,-,-⟩:=h4 rfl
  refine .stop ?_
  unfold eX
  exact .ae rfl<|.bind (cT h2)<|.f rfl (.pure _)
 |lv+1,a,z,i,c,hc,h=>by
  obtain⟨x,is,h1,h2,h3,h4,h5,h6⟩:=dT h
  have h5:=h5 ω
  have hl:=h6.len
  match is,hl,h6,h2 with
  |[],hl,_,_=>simp at hl;omega
  |none::is,hl,h6,_=>
   cases hk:x.Kids with
   |nil=>rw[hk]at h5;simp at h5
   |cons k ks=>rw[hk]at h6;exact h6.elim
  |some j::is,hl,h6,h2=>
   cases hk:x.Kids with
   |nil=>rw[hk]at h5;simp at h5
   |cons k ks=>
    rw[hk]at h6
    obtain⟨_,m,hP,_⟩:=h6
    have ih:=yN lv (a+1) m j (c+1) ω hP
    rw[show c+(lv+1)=c+1+lv by omega]
    refine .next ?_ ih
    unfold eX
    refine .ae rfl<|.bind (cT h2)<|.t rfl<|.ae (dB h2 rfl)<|.ae rfl ?_
    rw[cZ ω]
    exact .pure _
def xw(hl:es.length<1000)(hr: ∀e∈es,e.Row.length<1000)(lv:Int): ∀(l:List Entry) (k:Nat),es.drop k=l->k<=es.length->
  gT (λf=>eB f es) (lv,es.take k,(k:Int)) (lv,es)
 |[],k,hd,hk=>by
  have hk2:es.length<=k:=by simpa using hd
  rw[m_7 hk2]
  refine .stop ?_
  unfold eB
  exact .f (mn hk2) (.pure _)
 |e::l,k,hd,hk=>by
  have hk1:k<es.length:=by
   grind
  have hek:es[k]=e:=by rw[aH hk1]at hd;exact(j_0 hd).1
  have hdl:es.drop (k+1)=l:=by rw[aH hk1]at hd;exact(j_0 hd).2
  have he:=hr e (hek▸j_2 hk1)
  refine .next ?_ (xw hl hr lv l (k+1) hdl ω)
  unfold eB
  refine .t (eO hk1)<|.ae (aw hk1) ?_
  rw[hek]
  refine .bind (CF e he)<|.dx (by simp[room];omega) ?_
  rw[cZ ω,<-hek,q_7 hk1]
  exact .pure _
def HN.lt: ∀{lv a z i:Nat},HN b nodes H lv a z i->a<z/\z<=nodes.length
 |0,a,z,i,h=>by
  obtain⟨x,h1,_,_,_,h5,_⟩:=h
  grind
 |lv+1,a,z,i,h=>by
  obtain⟨x,is,h1,h2,h3,h4,h5,h6⟩:=h
  have hk: ∀{ks:List Int} {is:List (Option Nat)} {a z:Nat},a<=nodes.length->yc (HN b nodes H lv) ks is a z->a<=z/\z<=nodes.length:=by
   intro ks
   induction ks with
   |nil=>
    intro is a z ha hh
    cases is with
    |nil=>cases hh;exact⟨g_9 _,ha⟩
    |cons i is=>cases i<;>exact hh.elim
   |cons k ks ih=>
    intro is a z ha hh
    cases is with
    |nil=>exact hh.elim
    |cons i is=>
     cases i with
     |none=>exact hh.elim
     |some i=>
      obtain⟨_,m,q1,q2⟩:=hh
      have l1:=HN.lt q1
      grind
  grind
def oF(nodes:List Node)(a z:Nat):List Node:=(nodes.drop a).take (z - a)
def IK(h1:a<=b)(h2:b<=c):oF nodes a b++oF nodes b c=oF nodes a c:=by
 unfold oF
 rw[show c - a=(b - a)+(c - b)by omega,List.take_add,List.drop_drop,show a+(b - a)=b by omega]
def DD(h:nodes[a]? =some x)(hz:a<z):oF nodes a z=x::oF nodes (a+1) z:=by
 have ha:=(g_5.1 h).1
 have hx:nodes[a]=x:=(g_5.1 h).2
 unfold oF
 rw[aH ha,hx,show z - a=(z - (a+1))+1 by omega,List.take_succ_cons]
def Jf(l:List Node)(y:Node)(r:List Node):(l++y::r)[l.length]? =some y:=by simp
def Je(l:List Node)(y y':Node)(r:List Node):(l++y::r).set l.length y'=l++y'::r:=by simp
def xr{α:Type}{F:Nat->Nat->Option α}{g:Nat->Nat->Option α}{r:α}(h: ∀n s,F n (s+1)=g n s)(hg:Ev (λn=>g n (n - (d+1))) r):Ev (λn=>F n (n - d)) r:=by
 obtain⟨N,hN⟩:=hg
 refine⟨max N (d+1),λn hn=>?_⟩
 have:n - d=(n - (d+1))+1:=by omega
 grind
def Fb(hN:Am nodes): ∀(lv a z i:Nat) (l:List Node) (d:Nat),HN b nodes H lv a z i->l.length=a->
  Ev (λn=>kN n H (n - d) i (lv:Int) l) ((a:Int),l++oF nodes a z):=by
 intro lv
 induction lv with
 |zero=>
  intro a z i l d h hl
  obtain⟨x,is,h1,h2,h3,h4,h5,h6⟩:=dT h
  obtain⟨rfl,hk,rfl⟩:=h4 rfl
  have hxm:x∈nodes:=m_1 h1
  obtain⟨b1,b2,b3,b4⟩:=hN.2 x hxm
  have ha:=(g_5.1 h1).1
  have hN1:=hN.1
  refine xr (F:=λn s=>kN n H s i ((0:Nat):Int) l) (g:=λn s=>_) (λn s=>rfl) ?_
  refine .ae (dB h2 rfl)<|.bind (xw b1 (λe he=>(b4 e he).1) _ x.Entries 0 rfl ω).ev<|.dx (by simp[room];omega)<|.ae (dB h2 rfl) ?_
  refine .bind (a:=l++[⟨((0:Nat):Int),x.Entries,[]⟩]) (gT.ev (gT.stop ?_)) ?_
  .unfold kd
   exact .f ψ (.pure _)
  .rw[hl,DD h1 ω]
   have:oF nodes (a+1) (a+1)=[]:=by unfold oF;simp
   rw[this]
   have hx:(⟨((0:Nat):Int),x.Entries,[]⟩:Node)=x:=by
    cases x with
    |mk L E K=>simp only at h3 hk;rw[h3,hk]
   rw[hx]
   exact .pure _
 |succ lv ih=>
  intro a z i l d h hl
  obtain⟨x,is,h1,h2,h3,h4,h5,h6⟩:=dT h
  have h5:=h5 ω
  have hlt:=h.lt
  have hxm:x∈nodes:=m_1 h1
  obtain⟨b1,b2,b3,b4⟩:=hN.2 x hxm
  have ha:=(g_5.1 h1).1
  have hN1:=hN.1
  have hil:=h6.len
  have kids: ∀(ks:List Int) (is':List (Option Nat)) (j aj:Nat),x.Kids.drop j=ks->is.drop j=is'->j<=x.Kids.length->a+1<=aj->yc (HN b nodes H lv) ks is' aj z->
    gT (λn=>kd (kN n H (n - (d+1))) ((lv+1:Nat):Int) l.length is) ((j:Int),l++⟨((lv+1:Nat):Int),x.Entries,x.Kids.take j⟩::oF nodes (a+1) aj)
     (l++⟨((lv+1:Nat):Int),x.Entries,x.Kids⟩::oF nodes (a+1) z):=by
   intro ks
   induction ks with
   |nil=>
    intro is' j aj hd hd' hj haj hh
    have hj2:x.Kids.length<=j:=by simpa using hd
    cases is' with
    |cons q qs=>cases q<;>exact hh.elim
    |nil=>
     cases hh
     refine .stop ?_
     unfold kd
     rw[m_7 hj2]
     exact .f (mn ω) (.pure _)
   |cons k ks ihk=>
    intro is' j aj hd hd' hj haj hh
    have hj1:j<x.Kids.length:=by
     grind
    have hj2:j<is.length:=by omega
    have hek:x.Kids[j]=k:=by rw[aH hj1]at hd;exact(j_0 hd).1
    have hdl:x.Kids.drop (j+1)=ks:=by rw[aH hj1]at hd;exact(j_0 hd).2
    cases is' with
    |nil=>exact hh.elim
    |cons q qs=>
     have hei:is[j]=q:=by rw[aH hj2]at hd';exact(j_0 hd').1
     have hdi:is.drop (j+1)=qs:=by rw[aH hj2]at hd';exact(j_0 hd').2
     cases q with
     |none=>exact hh.elim
     |some q=>
      obtain⟨hk,mm,q1,q2⟩:=hh
      have l1:=q1.lt
      have R:=ih aj mm q (l++⟨((lv+1:Nat):Int),x.Entries,x.Kids.take j⟩::oF nodes (a+1) aj) (d+1) q1 (by simp[oF,hl];omega)
      have N:=ihk qs (j+1) mm hdl hdi ω ω q2
      refine .next ?_ N
      unfold kd
      refine .t (eO hj2)<|.ae (aw hj2) ?_
      rw[hei,cC (x:=((lv+1:Nat):Int) - 1) ω (by unfold i64 at b3;omega),show((lv+1:Nat):Int) - 1=(lv:Int)by omega,cZ ω]
      refine .ae rfl<|.bind R ?_
      have e1:(l++(⟨((lv+1:Nat):Int),x.Entries,x.Kids.take j⟩:Node)::oF nodes (a+1) aj)++oF nodes aj mm=l++(⟨((lv+1:Nat):Int),x.Entries,x.Kids.take j⟩:Node)::oF nodes (a+1) mm:=by
       rw[j_3,m_5,IK ω ω]
      have e2:uh (l++(⟨((lv+1:Nat):Int),x.Entries,x.Kids.take j⟩:Node)::oF nodes (a+1) mm) l.length (aj:Int)=some (l++(⟨((lv+1:Nat):Int),x.Entries,x.Kids.take (j+1)⟩:Node)::oF nodes (a+1) mm):=by
       unfold uh
       rw[Jf]
       simp only[Je]
       rw[<-hk,<-hek,q_7 hj1]
       show Go.Sh.dx (decide ((x.Kids.take (j+1)).length<=room)) _=_
       rw[show decide ((x.Kids.take (j+1)).length<=room)=true by simp[room];omega]
       rfl
      show Ev (λn=>(uh ((l++(⟨((lv+1:Nat):Int),x.Entries,x.Kids.take j⟩:Node)::oF nodes (a+1) aj)++oF nodes aj mm) l.length (aj:Int)).bind _) _
      rw[e1]
      exact .ae e2 (.pure _)
  refine xr (F:=λn s=>kN n H s i ((lv+1:Nat):Int) l) (g:=λn s=>_) (λn s=>rfl) ?_
  refine .ae (dB h2 rfl)<|.bind (xw b1 (λe he=>(b4 e he).1) _ x.Entries 0 rfl ω).ev<|.dx (by simp[room];omega)<|.ae (dB h2 rfl) ?_
  have K:=kids x.Kids is 0 (a+1) rfl rfl ω ω h6
  have e0:oF nodes (a+1) (a+1)=[]:=by unfold oF;simp
  rw[e0]at K
  refine .bind K.ev ?_
  have hx:(⟨((lv+1:Nat):Int),x.Entries,x.Kids⟩:Node)=x:=by
   cases x with
   |mk L E K=>simp only at h3;rw[h3]
  rw[hx,hl,<-DD h1 hlt.1]
  exact .pure _
def nO:List Entry->List (List Entry)->List Entry
 |[],_=>[]
 |e::es,[]=>e::nO es []
 |e::es,k::ks=>k++e::nO es ks
def fj(es:List Entry)(ks:List (List Entry)):List Entry:=nO es ks++(ks.drop es.length).flatten
def jP(nodes:List Node):Nat->Nat->List Entry
 |0,a=>match nodes[a]? with|some x=>x.Entries|none=>[]
 |lv+1,a=>match nodes[a]? with|some x=>fj x.Entries (x.Kids.map λ(k:Int)=>jP nodes lv k.toNat)|none=>[]
def vL: ∀es:List Entry,nO es []=es
 |[]=>rfl
 |e::es=>by simp[nO,vL es]
def tf: ∀(es:List Entry) (ks:List (List Entry)),(fj es ks).length=es.length+(ks.map List.length).sum
 |[],ks=>by simp[fj,nO,List.length_flatten]
 |e::es,[]=>by simp[fj,vL]
 |e::es,k::ks=>by
  have:=tf es ks
  unfold fj at this ⊢
  simp only[nO,j_1,List.drop_succ_cons,h_5,h_3,List.sum_cons]at this ⊢
  omega
def xf(h:HN b nodes H lv a z i)(hx:nodes[a]? =some x):jP nodes lv a=fj x.Entries (x.Kids.map λ(k:Int)=>jP nodes (lv - 1) k.toNat):=by
 cases lv with
 |zero=>
  obtain⟨y,h1,h2,h3,-⟩:=h
  rw[hx]at h1;cases h1
  unfold jP
  rw[hx,h3]
  simp[fj,vL]
 |succ lv=>
  show(match nodes[a]? with|some x=>fj x.Entries (x.Kids.map λ(k:Int)=>jP nodes lv k.toNat)|none=>[])=_
  rw[hx];rfl
def vy(hN:Am nodes): ∀{lv a z i:Nat},HN b nodes H lv a z i->(jP nodes lv a).length<=1000 * (z - a):=by
 intro lv
 induction lv with
 |zero=>
  intro a z i h
  obtain⟨x,h1,h2,h3,h4,h5,h6⟩:=h
  have:=(hN.2 x (m_1 h1)).1
  unfold jP
  rw[h1,h5]
  simp only
  omega
 |succ lv ih=>
  intro a z i h
  have hlt:=h.lt
  obtain⟨x,is,h1,h2,h3,h4,h5,h6⟩:=dT h
  have hb:=(hN.2 x (m_1 h1)).1
  rw[xf h h1,tf]
  have kids: ∀{ks:List Int} {is:List (Option Nat)} {c:Nat},yc (HN b nodes H lv) ks is c z->c<=z/\((ks.map λ(k:Int)=>jP nodes lv k.toNat).map List.length).sum<=1000 * (z - c):=by
   intro ks
   induction ks with
   |nil=>
    intro is c hh
    cases is with
    |nil=>cases hh;simp
    |cons q qs=>cases q<;>exact hh.elim
   |cons k ks ihk=>
    intro is c hh
    cases is with
    |nil=>exact hh.elim
    |cons q qs=>
     cases q with
     |none=>exact hh.elim
     |some q=>
      obtain⟨hk,mm,q1,q2⟩:=hh
      have l1:=q1.lt
      grind
  grind
def yc.at{P:Nat->Nat->Nat->Prop}: ∀{ks:List Int} {is:List (Option Nat)} {a z:Nat} (h:yc P ks is a z) (j:Nat) (hj:j<ks.length),∃(c m i:Nat),ks[j]? =some (c:Int)/\is[j]? =some (some i)/\P c m i
 |k::ks,some i::is,a,z,hh,0,hj=>by
  obtain⟨h1,m,h2,h3⟩:=hh
  grind
 |k::ks,some i::is,a,z,hh,j+1,hj=>by
  obtain⟨h1,m,h2,h3⟩:=hh
  obtain⟨c,m',i',e1,e2,e3⟩:=yc.at h3 j (by simpa using hj)
  grind
 |_::_,[],_,_,hh,_,_=>hh.elim
 |_::_,none::_,_,_,hh,_,_=>hh.elim
def Ck(hN:Am nodes): ∀(lv a z i:Nat),HN b nodes H lv a z i->Ev (λn=>gH n nodes (a:Int)) (jP nodes lv a):=by
 intro lv
 induction lv with
 |zero=>
  intro a z i h
  obtain⟨x,is,h1,h2,h3,h4,h5,h6⟩:=dT h
  obtain⟨-,hk,-⟩:=h4 rfl
  have hb:=(hN.2 x (m_1 h1)).1
  have L: ∀(l:List Entry) (k:Nat),x.Entries.drop k=l->k<=x.Entries.length->gT (λn=>eC n (gH n) nodes x) (x.Entries.take k,(k:Int)) x.Entries:=by
   intro l
   induction l with
   |nil=>
    intro k hd hk0
    have hk2:x.Entries.length<=k:=by simpa using hd
    rw[m_7 hk2]
    refine .stop ?_
    unfold eC
    exact .f (mn hk2) (.pure _)
   |cons e l ih=>
    intro k hd hk0
    have hk1:k<x.Entries.length:=by
     grind
    have hdl:x.Entries.drop (k+1)=l:=by rw[aH hk1]at hd;exact(j_0 hd).2
    refine .next ?_ (ih (k+1) hdl ω)
    unfold eC
    refine .t (eO hk1)<|.f (by simp[hk])<|.ae (aw hk1)<|.dx (by simp[room];omega) ?_
    rw[cZ ω,q_7 hk1]
    exact .pure _
  have hx:jP nodes 0 a=x.Entries:=by unfold jP;rw[h1]
  rw[hx]
  refine kJ (g:=λn=>gh n (gH n) nodes (a:Int)) (λn=>rfl) ?_
  unfold gh
  exact .ae (dv h1)<|.bind (L x.Entries 0 rfl ω).ev<|.f (by simp[hk]) (.pure _)
 |succ lv ih=>
  intro a z i h
  have hlen:=vy hN h
  have hlt:=h.lt
  have hN1:=hN.1
  obtain⟨x,is,h1,h2,h3,h4,h5,h6⟩:=dT h
  have h5:=h5 ω
  have hb:=(hN.2 x (m_1 h1)).1
  rw[xf h h1]at hlen ⊢
  simp only[Nat.add_sub_cancel]at h6 hlen ⊢
  have K: ∀j,(hj:j<x.Kids.length)->Ev (λn=>gH n nodes x.Kids[j]) (jP nodes lv x.Kids[j].toNat):=by
   intro j hj
   obtain⟨c,m,i',e1,e2,e3⟩:=h6.at j hj
   grind
  have tot: ∀(es:List Entry) (ks:List (List Entry)),(nO es ks).length<=(fj es ks).length:=λes ks=>by unfold fj;simp
  have L: ∀(l:List Entry) (k:Nat) (out:List Entry),x.Entries.drop k=l->k<=x.Entries.length->
    out.length+(nO l ((x.Kids.map λ(k:Int)=>jP nodes lv k.toNat).drop k)).length<=1000000->
    gT (λn=>eC n (gH n) nodes x) (out,(k:Int)) (out++nO l ((x.Kids.map λ(k:Int)=>jP nodes lv k.toNat).drop k)):=by
   intro l
   induction l with
   |nil=>
    intro k out hd hk0 hb2
    have hk2:x.Entries.length<=k:=by simpa using hd
    simp only[nO,p_6]
    refine .stop ?_
    unfold eC
    exact .f (mn hk2) (.pure _)
   |cons e l ihl=>
    intro k out hd hk0 hb2
    have hk1:k<x.Entries.length:=by
     grind
    have hek:x.Entries[k]=e:=by rw[aH hk1]at hd;exact(j_0 hd).1
    have hdl:x.Entries.drop (k+1)=l:=by rw[aH hk1]at hd;exact(j_0 hd).2
    have hk3:k<x.Kids.length:=by omega
    have hdk:(x.Kids.map λ(k:Int)=>jP nodes lv k.toNat).drop k=jP nodes lv x.Kids[k].toNat::(x.Kids.map λ(k:Int)=>jP nodes lv k.toNat).drop (k+1):=by
     rw[aH (by simpa using hk3)];simp
    rw[hdk]at hb2 ⊢
    simp only[nO,h_5,j_1]at hb2 ⊢
    have N:=ihl (k+1) (out++jP nodes lv x.Kids[k].toNat++[e]) hdl ω χ
    rw[show out++(jP nodes lv x.Kids[k].toNat++e::nO l ((x.Kids.map λ(k:Int)=>jP nodes lv k.toNat).drop (k+1)))=out++jP nodes lv x.Kids[k].toNat++[e]++nO l ((x.Kids.map λ(k:Int)=>jP nodes lv k.toNat).drop (k+1))by simp]
    refine .next ?_ N
    unfold eC
    refine .t (eO hk1)<|.t χ<|.ae (aw hk3)<|.bind (K k hk3)<|.dx (by simp[room];omega)<|.ae (aw hk1) ?_
    rw[hek,cZ ω]
    exact .dx (by simp[room];omega) (.pure _)
  have hL:=L x.Entries 0 [] rfl ω (by
   grind)
  simp only[q_4,m_3]at hL
  have hlast:x.Entries.length<x.Kids.length:=by omega
  have hfin:fj x.Entries (x.Kids.map λ(k:Int)=>jP nodes lv k.toNat)=nO x.Entries (x.Kids.map λ(k:Int)=>jP nodes lv k.toNat)++jP nodes lv (x.Kids[x.Entries.length]'hlast).toNat:=by
   unfold fj
   rw[aH (by simpa using hlast),List.drop_eq_nil_of_le χ]
   simp
  rw[hfin]at hlen ⊢
  refine kJ (g:=λn=>gh n (gH n) nodes (a:Int)) (λn=>rfl) ?_
  unfold gh
  refine .ae (dv h1)<|.bind hL.ev<|.t χ ?_
  rw[cC ω φ,show(x.Kids.length:Int) - 1=(x.Entries.length:Int)by omega]
  refine .ae (aw hlast)<|.bind (K _ hlast)<|.dx ?_ (.pure _)
  simp only[h_5,room,decide_eq_true_eq]at hlen ⊢
  omega
def vK(e:Entry)(es:List Entry): ∀ks:List (List Entry),fj (e::es) ks=ks.headD []++e::fj es ks.tail
 |[]=>by simp[fj,nO]
 |k::ks=>by simp[fj,nO]
def EI: ∀ks:List (List Entry),ks.length<=1->fj [] ks=ks.headD []
 |[],_=>rfl
 |[k],_=>by simp[fj,nO]
 |_::_::_,h=>by simp at h
def Kp(H:Hp)(l:List Entry):Hp:=(H++[.cells [.own 3 (l.map ab)]])++[.hole]
def rA{H:Hp}{l:List Entry}{i:Nat}{o:aD}(h:H[i]? =some o):(Kp H l)[i]? =some o:=by
 have hi:=(g_5.1 h).1
 unfold Kp
 grind
def CV:(Kp H l)[H.length]? =some (.cells [.own 3 (l.map ab)]):=by
 unfold Kp
 grind
def KZ:(Kp H l).set H.length (.cells [.own 3 (l'.map ab)])=Kp H l':=by
 unfold Kp
 simp
def JF(hq:q1.2=H.length)(he:e.Row.length<1000)(hl:l.length<1000000):Ev (λn=>(cG n q1 e (Kp H l)).map (Prod.mk true)) (true,Kp H (l++[e])):=by
 have key:Ev (λn=>cG n q1 e (Kp H l)) (Kp H (l++[e])):=by
  unfold cG
  rw[hq]
  have ht:cw 3 ay (Kp H l) H.length 0=some (l,(Kp H l).set H.length (.cells [.undef])):=mh CV rfl
  have hg:bT 3 ay ((Kp H l).set H.length (.cells [.undef])) H.length 0 (l++[e])=some (Kp H (l++[e])):=by
   have e0:=KZ (H:=H) (l:=l) (l':=l++[e])
   rw[gy (cA CV) ψ,m_6,<-e0]
   rfl
  exact .ae ht<|.bind (CF e he)<|.dx (by simp[room];omega)<|.ae hg (.pure _)
 obtain⟨N,hN⟩:=key
 exact⟨N,λn hn=>by grind⟩
def Ib{b:Nat}{nodes:List Node}{H:Hp}{q1:Hp×Nat}(hq:q1.2=H.length)(hN:Am nodes): ∀(lv a z i:Nat) (l:List Entry) (d:Nat),HN b nodes H lv a z i->l.length+(jP nodes lv a).length<1000000->
  Ev (λn=>ey n (λe H=>(cG n q1 e H).map (Prod.mk true)) (n - d) i (Kp H l)) (true,Kp H (l++jP nodes lv a)):=by
 intro lv
 induction lv using Nat.strongRecOn with
 |ind lv ih=>
  intro a z i l0 d h hlen
  obtain⟨x,is,h1,h2,h3,h4,h5,h6⟩:=dT h
  obtain⟨hb,hb2,hb3,hb4⟩:=hN.2 x (m_1 h1)
  rw[xf h h1]at hlen ⊢
  have hil:=h6.len
  let kl:List (List Entry):=x.Kids.map λ(k:Int)=>jP nodes (lv - 1) k.toNat
  have hkl:kl.length=x.Kids.length:=by simp[kl]
  have hk01:x.Kids.length=0\/x.Kids.length=x.Entries.length+1:=by
   grind
  have qst: ∀(k:Nat) (l:List Entry),k<=x.Entries.length->l.length+((kl.drop k).headD []).length<1000000->
    Ev (λn=>cond (decide (is=[])) (some (true,Kp H l)) ((aW 1 cP (Kp H l) i 1).bind λks=>(idx ks (k:Int)).bind λkk=>kk.bind λkk=>ey n (λe H=>(cG n q1 e H).map (Prod.mk true)) (n - (d+1)) kk (Kp H l))) (true,Kp H (l++(kl.drop k).headD [])):=by
   intro k l hk hl
   by_cases he:is=[]
   .have hk0:kl=[]:=by
     grind
    rw[hk0]
    refine .t (by simp[he]) ?_
    simp only[List.drop_nil,List.headD_nil,p_6]
    exact .pure _
   .have hne:is.length≠0:=λe=>he (q_0.1 e)
    have hkk:k<x.Kids.length:=by omega
    have hlv:lv≠0:=λe=>he (h4 e).1
    obtain⟨c,m,i',e1,e2,e3⟩:=h6.at k hkk
    rw[h_7 hkk,g_4]at e1
    have hd:(kl.drop k).headD []=jP nodes (lv - 1) c:=by
     rw[aH ω]
     simp[kl,e1]
    rw[hd]at hl ⊢
    exact .f (by simp[he])<|.ae (dB (rA h2) rfl)<|.ae (dv e2)<|.ae rfl<|ih (lv - 1) ω c m i' l (d+1) e3 hl
  have L: ∀(es:List Entry) (k:Nat) (l:List Entry),x.Entries.drop k=es->k<=x.Entries.length->l.length+(fj es (kl.drop k)).length<1000000->
    gT (λn=>cE n (λe H=>(cG n q1 e H).map (Prod.mk true)) (ey n (λe H=>(cG n q1 e H).map (Prod.mk true)) (n - (d+1))) i (((x.Entries.length+1:Nat):Int))) ((k:Int),Kp H l) (true,Kp H (l++fj es (kl.drop k))):=by
   intro es
   induction es with
   |nil=>
    intro k l hd hk hl
    have hk2:k=x.Entries.length:=by
     have:x.Entries.length<=k:=by simpa using hd
     omega
    have hw:fj [] (kl.drop k)=(kl.drop k).headD []:=EI _ χ
    rw[hw]at hl ⊢
    refine .next (y:=(((k+1:Nat):Int),Kp H (l++(kl.drop k).headD []))) ?_ (.stop ?_)
    .unfold cE
     refine .t (eO ω)<|.bind (cT (rA h2))<|.bind (qst k l hk hl)<|.t rfl<|.ae (dB (rA h2) rfl)<|.f (mn ω) ?_
     rw[cZ ω]
     exact .pure _
    .unfold cE
     exact .f (mn ω) (.pure _)
   |cons e es ihe=>
    intro k l hd hk hl
    have hk1:k<x.Entries.length:=by
     grind
    have hek:x.Entries[k]=e:=by rw[aH hk1]at hd;exact(j_0 hd).1
    have hdl:x.Entries.drop (k+1)=es:=by rw[aH hk1]at hd;exact(j_0 hd).2
    have he:=(hb4 e (hek▸j_2 hk1)).1
    have htl:(kl.drop k).tail=kl.drop (k+1):=by simp
    rw[vK,htl]at hl ⊢
    simp only[h_5,j_1]at hl
    have N:=ihe (k+1) (l++(kl.drop k).headD []++[e]) hdl ω φ
    rw[show l++((kl.drop k).headD []++e::fj es (kl.drop (k+1)))=l++(kl.drop k).headD []++[e]++fj es (kl.drop (k+1))by simp]
    refine .next ?_ N
    unfold cE
    refine .t (eO ω)<|.bind (cT (rA h2))<|.bind (qst k l hk ω)<|.t rfl<|.ae (dB (rA h2) rfl)<|.t (eO hk1)<|.ae (aw hk1) ?_
    rw[hek,cZ ω]
    exact .bind (JF hq he φ)<|.t rfl (.pure _)
  have L0:=L x.Entries 0 l0 rfl ω hlen
  refine xr (F:=λn s=>ey n (λe H=>(cG n q1 e H).map (Prod.mk true)) s i (Kp H l0)) (g:=λn s=>_) (λn s=>rfl) ?_
  refine .ae (dB (rA h2) rfl) ?_
  rw[cZ ω]
  exact L0.ev
def FX{nodes:List Node}{H:Hp}{s:ak}{order last:Int}: ∀(d a:Nat) (lv:Int) (lo hi:Option Entry) (met:List Int) (z:Nat) (met':List Int) (l z' i:Nat),
  wk s order last nodes d a lv lo hi met=.inr (z,met')->HN b nodes H l a z' i->z'=z/\met'.length=met.length+(jP nodes l a).length:=by
 intro d
 induction d with
 |zero=>intro a lv lo hi met z met' l z' i h _;cases h
 |succ d ih=>
  intro a lv lo hi met z met' l z' i h hh
  obtain⟨x,is,h1,h2,h3,h4,h5,h6⟩:=dT hh
  have hw:wk s order last nodes (d+1) a lv lo hi met=(match qg s order last (a==0) lv lo hi met x with
   |none=>.inl a
   |some met'=>oW nodes (wk s order last nodes d) a x lo hi x.Kids 0 (a+1) met'):=by
   show(match nodes[a]? with|none=>Sum.inl a|some x=>match qg s order last (a==0) lv lo hi met x with|none=>Sum.inl a|some met'=>oW nodes (wk s order last nodes d) a x lo hi x.Kids 0 (a+1) met')=_
   rw[h1]
  rw[hw]at h
  rw[xf hh h1,tf]
  cases ho:qg s order last (a==0) lv lo hi met x with
  |none=>rw[ho]at h;cases h
  |some m1=>
   rw[ho]at h
   have hm1:=wO (DL ho).2.2.2.2.2
   have kids: ∀(ks:List Int) (is:List (Option Nat)) (j c:Nat) (m2:List Int),yc (HN b nodes H (l - 1)) ks is c z'->oW nodes (wk s order last nodes d) a x lo hi ks j c m2=.inr (z,met')->
     z'=z/\met'.length=m2.length+((ks.map λ(k:Int)=>jP nodes (l - 1) k.toNat).map List.length).sum:=by
    intro ks
    induction ks with
    |nil=>
     intro is j c m2 hK hW
     cases is with
     |cons q qs=>cases q<;>exact hK.elim
     |nil=>
      cases hK
      simp only[oW,Sum.inr.injEq,g_8]at hW
      grind
    |cons k ks ihk=>
     intro is j c m2 hK hW
     cases is with
     |nil=>exact hK.elim
     |cons q qs=>
      cases q with
      |none=>exact hK.elim
      |some q=>
       obtain⟨hk,mm,q1,q2⟩:=hK
       simp only[oW]at hW
       grind
   grind
structure xI(s:ak)(order last:Int)(nodes:List Node)(lv:Nat)(H:Hp)(tr:Nat):Prop where
 ob: ∃root,H[tr]? =some (gZ s order (some root) last ((jP nodes lv 0).length:Nat))/\
  ∃b,HN b nodes H lv 0 nodes.length root
section
variable {s:ak} {order last:Int} {nodes:List Node} {lv:Nat} {H:Hp} {tr:Nat}
def xI.app(h:xI s order last nodes lv H tr)(H':Hp)(hf: ∀(j:Nat) (o:aD),H[j]? =some o->H'[j]? =some o):xI s order last nodes lv H' tr:=by
 obtain⟨root,h1,b,h2⟩:=h.ob
 exact⟨root,hf _ _ h1,b,h2.frame λj _ hj=>by grind⟩
def HD(h:xI s order last nodes lv H tr):Ev (λf=>jv f tr H) ((jP nodes lv 0).length:Nat):=by
 obtain⟨root,h1,b,h2⟩:=h.ob
 unfold jv
 exact .ae (bU (r:=[]) h1 rfl) (.pure _)
def DX(h:xI s order last nodes lv H tr):Ev (λf=>iX f tr H) last:=by
 obtain⟨root,h1,b,h2⟩:=h.ob
 unfold iX
 exact .ae (bU (r:=[.d (.int .i64 ((jP nodes lv 0).length:Nat))]) h1 rfl) (.pure _)
def HN.A8{nodes:List Node}{H:Hp}: ∀{lv a z i:Nat},HN b nodes H lv a z i->a+lv<z
 |0,a,z,i,h=>by have:=h.lt;omega
 |lv+1,a,z,i,h=>by
  obtain⟨x,is,h1,h2,h3,h4,h5,h6⟩:=dT h
  have h5:=h5 ω
  have mono: ∀{ks:List Int} {is:List (Option Nat)} {u v:Nat},yc (HN b nodes H lv) ks is u v->u<=v:=by
   intro ks
   induction ks with
   |nil=>
    intro is u v hh
    cases is with
    |nil=>cases hh;exact g_9 _
    |cons q qs=>cases q<;>exact hh.elim
   |cons k ks ihk=>
    intro is u v hh
    cases is with
    |nil=>exact hh.elim
    |cons q qs=>
     cases q with
     |none=>exact hh.elim
     |some q=>
      obtain⟨_,m3,r1,r2⟩:=hh
      have:=r1.lt
      have:=ihk r2
      omega
  cases hk:x.Kids with
  |nil=>rw[hk]at h5;simp at h5
  |cons k ks=>
   rw[hk]at h6
   match is,h6 with
   |some q::qs,h6=>
    obtain⟨g1,mm,g2,g3⟩:=h6
    have:=HN.A8 g2
    have:=mono g3
    omega
def ru(hN:Am nodes)(h:xI s order last nodes lv H tr):Ev (λf=>eK f tr H) ((1+lv:Nat):Int):=by
 obtain⟨root,h1,b,h2⟩:=h.ob
 have:=h2.A8
 have hN1:=hN.1
 unfold eK
 exact .ae (bU (r:=[.d (.int .i64 last),.d (.int .i64 ((jP nodes lv 0).length:Nat))]) h1 rfl)<|.bind (yN lv 0 nodes.length root 1 ω h2).ev (.pure _)
def tK(hN:Am nodes)(h:xI s order last nodes lv H tr):Ev (λf=>fx f tr H) (nodes,H++[aD.hole,aD.hole]):=by
 obtain⟨root,h1,b,h2⟩:=h.ob
 have hlv:=h2.A8
 have hN1:=hN.1
 have htr:=(g_5.1 h1).1
 have f1: ∀(j:Nat) (o:aD),H[j]? =some o->((H++[aD.hole,aD.hole]).set H.length (aD.cells [.own 3 []]))[j]? =some o:=λj o hj=>by
  grind
 have f2: ∀(j:Nat) (o:aD),H[j]? =some o->(H++[aD.hole,aD.hole])[j]? =some o:=λj o hj=>by
  grind
 have T1:=h.app _ f1
 have h3:HN b nodes (H++[aD.hole,aD.hole]) lv 0 nodes.length root:=h2.frame λj _ hj=>by grind
 have R:=Fb hN lv 0 nodes.length root [] 0 h3 rfl
 have hseg:([]:List Node)++oF nodes 0 nodes.length=nodes:=by simp[oF]
 rw[hseg]at R
 unfold fx
 refine .ae (bU (r:=[.d (.int .i64 last),.d (.int .i64 ((jP nodes lv 0).length:Nat))]) (f1 _ _ h1) rfl)<|.ae rfl<|.bind (ru hN T1) ?_
 rw[cC ω ω,show((1+lv:Nat):Int) - 1=(lv:Int)by omega]
 exact .bind R (.pure _)
end
set_option maxRecDepth 100000
def zb(v:Value):fM v v=0:=by
 unfold fM
 split
 .omega
 .have:=sT v.S v.S
  omega
def ud(hl:r.length<1000)(ho: ∀v∈r,vk v=true):Ev (λf=>ew f r r) 0:=by
 have L: ∀(l:List Value) (k:Nat),r.drop k=l->k<=r.length->gT (λf=>bF f r r) (k:Int) (.inl ()):=by
  intro l
  induction l with
  |nil=>
   intro k hd hk
   have hk2:r.length<=k:=by simpa using hd
   refine .stop ?_
   unfold bF
   exact .aP<|.f (mn hk2)<|.f rfl (.pure _)
  |cons v l ih=>
   intro k hd hk
   have hk1:k<r.length:=by
    grind
   have hdl:r.drop (k+1)=l:=by rw[aH hk1]at hd;exact(j_0 hd).2
   have hv:=ho _ (j_2 hk1)
   have C:=rI hv hv rfl
   rw[zb]at C
   refine .next ?_ (ih (k+1) hdl ω)
   unfold bF
   refine .aP<|.t (eO hk1)<|.t (eO hk1)<|.ae (aw hk1)<|.ae (aw hk1)<|.bind C<|.f rfl ?_
   rw[cZ ω]
   exact .pure _
 unfold ew
 refine .bind (L r 0 rfl ω).ev<|.bind (a:=0) (.of λn=>?_) (.pure _)
 rw[vu]
 simp[qa]
def Cv(hl:l.length<1000000)(ho: ∀e∈l,e.Row.length<1000/\ ∀v∈e.Row,vk v=true):Ev (λf=>fP f l l) true:=by
 have L: ∀(q:List Entry) (k:Nat),l.drop k=q->k<=l.length->gT (λf=>fe f l l) (k:Int) (.inl ()):=by
  intro q
  induction q with
  |nil=>
   intro k hd hk
   have hk2:l.length<=k:=by simpa using hd
   refine .stop ?_
   unfold fe
   exact .f (mn hk2) (.pure _)
  |cons v q ih=>
   intro k hd hk
   have hk1:k<l.length:=by
    grind
   have hdl:l.drop (k+1)=q:=by rw[aH hk1]at hd;exact(j_0 hd).2
   obtain⟨hv1,hv2⟩:=ho _ (j_2 hk1)
   refine .next ?_ (ih (k+1) hdl ω)
   unfold fe
   refine .t (eO hk1)<|.ae (aw hk1)<|.ae (aw hk1)<|.f ψ<|.ae (aw hk1)<|.ae (aw hk1)<|.f ψ<|.ae (aw hk1)<|.ae (aw hk1) ?_
   have S:Ev (λf=>hZ f l[k].Row l[k].Row) true:=by
    unfold hZ
    exact .bind (ud hv1 hv2) (.pure _)
   refine .bind S<|.f rfl ?_
   rw[cZ ω]
   exact .pure _
 unfold fP
 exact .f ψ<|.bind (L l 0 rfl ω).ev (.pure _)
def Cu(hl:l.length<1000000):Ev (λf=>jz f l l) true:=by
 have L: ∀(q:List Int) (k:Nat),l.drop k=q->k<=l.length->gT (λf=>fI f l l) (k:Int) (.inl ()):=by
  intro q
  induction q with
  |nil=>
   intro k hd hk
   have hk2:l.length<=k:=by simpa using hd
   refine .stop ?_
   unfold fI
   exact .f (mn hk2) (.pure _)
  |cons v q ih=>
   intro k hd hk
   have hk1:k<l.length:=by
    grind
   have hdl:l.drop (k+1)=q:=by rw[aH hk1]at hd;exact(j_0 hd).2
   refine .next ?_ (ih (k+1) hdl ω)
   unfold fI
   refine .t (eO hk1)<|.ae (aw hk1)<|.ae (aw hk1)<|.f ψ ?_
   rw[cZ ω]
   exact .pure _
 unfold jz
 exact .f ψ<|.bind (L l 0 rfl ω).ev (.pure _)
def Gz(hl:t.du.length<1000000):Ev (λf=>kR f t) (t.du.map (·.Key)):=by
 have L: ∀(q:List Entry) (k:Nat),t.du.drop k=q->k<=t.du.length->gT (λf=>gl f t) ((t.du.take k).map (·.Key),(k:Int)) (t.du.map (·.Key)):=by
  intro q
  induction q with
  |nil=>
   intro k hd hk
   have hk2:t.du.length<=k:=by simpa using hd
   rw[m_7 hk2]
   refine .stop ?_
   unfold gl
   exact .f (mn hk2) (.pure _)
  |cons v q ih=>
   intro k hd hk
   have hk1:k<t.du.length:=by
    grind
   have hdl:t.du.drop (k+1)=q:=by rw[aH hk1]at hd;exact(j_0 hd).2
   refine .next ?_ (ih (k+1) hdl ω)
   unfold gl
   refine .t (eO hk1)<|.ae (aw hk1)<|.dx (by simp[room];omega) ?_
   rw[cZ ω,show(t.du.take k).map (·.Key)++[t.du[k].Key]=(t.du.take (k+1)).map (·.Key)by rw[<-q_7 hk1,k_1];rfl]
   exact .pure _
 unfold kR
 exact .bind (L t.du 0 rfl ω).ev (.pure _)
section
variable {s:ak} {order last:Int} {nodes:List Node} {lv:Nat} {H:Hp} {tr:Nat}
def Ia(hN:Am nodes)(h:xI s order last nodes lv H tr): ∃H',Ev (λf=>ka f tr H) (jP nodes lv 0,H')/\ ∀(j:Nat) (o:aD),H[j]? =some o->H'[j]? =some o:=by
 obtain⟨root,h1,b,h2⟩:=h.ob
 have hlen:=vy hN h2
 have hN1:=hN.1
 have f1: ∀(j:Nat) (o:aD),H[j]? =some o->(H++[.cells [.own 3 (List.map ab ([]:List Entry))]])[j]? =some o:=λj o hj=>by
  grind
 have A:=Ib (q1:=(H++[.cells [.own 3 (List.map ab ([]:List Entry))]],H.length)) rfl hN lv 0 nodes.length root [] 0 h2 χ
 simp only[m_3,Nat.sub_zero]at A
 refine⟨(Kp H (jP nodes lv 0)).set H.length (.cells [.undef]),?_,λj o hj=>?_⟩
 .unfold ka
  refine .ae rfl<|.ae (bU (r:=[.d (.int .i64 last),.d (.int .i64 ((jP nodes lv 0).length:Nat))]) (f1 _ _ h1) rfl)<|.ae rfl<|.bind (.of λn=>rfl) ?_
  have B:Ev (λf=>jt f (cG f (H++[.cells [.own 3 (List.map ab ([]:List Entry))]],H.length)) (some root) (H++[.cells [.own 3 (List.map ab ([]:List Entry))]])) (Kp H (jP nodes lv 0)):=by
   unfold jt tw
   exact .ae rfl<|.bind A<|.t rfl (.pure _)
  have ht:cw 3 ay (Kp H (jP nodes lv 0)) H.length 0=some (jP nodes lv 0,(Kp H (jP nodes lv 0)).set H.length (.cells [.undef])):=mh CV rfl
  exact .bind B<|.ae ht (.pure _)
 .have:=(g_5.1 hj).1
  rw[gg ω]
  exact rA hj
def Gk(hN:Am nodes)(h:xI s order last nodes lv H tr): ∃H',Ev (λf=>iY f tr H) ((jP nodes lv 0).map (·.Key),H')/\ ∀(j:Nat) (o:aD),H[j]? =some o->H'[j]? =some o:=by
 obtain⟨H',A,f3⟩:=Ia hN h
 obtain⟨root,h1,b,h2⟩:=h.ob
 have hlen:=vy hN h2
 have hN1:=hN.1
 generalize jP nodes lv 0=l at A hlen
 have L: ∀(q:List Entry) (k:Nat),l.drop k=q->k<=l.length->gT (λf=>ga f (l,H')) ((l.take k).map (·.Key),(k:Int),H') (l.map (·.Key),H'):=by
  intro q
  induction q with
  |nil=>
   intro k hd hk
   have hk2:l.length<=k:=by simpa using hd
   rw[m_7 hk2]
   refine .stop ?_
   unfold ga
   exact .f (mn hk2) (.pure _)
  |cons v q ih=>
   intro k hd hk
   have hk1:k<l.length:=by
    grind
   have hdl:l.drop (k+1)=q:=by rw[aH hk1]at hd;exact(j_0 hd).2
   refine .next ?_ (ih (k+1) hdl ω)
   unfold ga
   refine .t (eO hk1)<|.ae (aw hk1)<|.dx (by simp[room];omega) ?_
   rw[cZ ω,show(l.take k).map (·.Key)++[l[k].Key]=(l.take (k+1)).map (·.Key)by rw[<-q_7 hk1,k_1];rfl]
   exact .pure _
 refine⟨H',?_,f3⟩
 unfold iY
 exact .bind A<|.bind (L l 0 rfl ω).ev (.pure _)
end
set_option maxRecDepth 100000
def Hv(h:nI s e=true): ∀v∈e.Row,vk v=true:=by
 have hf:=mD h
 have hl:=eg hf
 intro v hv
 obtain⟨j,hj,rfl⟩:=List.getElem_of_mem hv
 exact(jJ hf j ω hj).2
def Gy(hN:Am nodes)(hk:s.aq.length<1000)(hw:nJ s order last nodes=(-1,0))(h:HN b nodes H lv 0 z root):
  Ev (λf=>wF f s order last nodes) ((⟨s,order,jP nodes lv 0,last⟩:Tree),-1,0):=by
 unfold wF
 have R:=E4 s order last nodes hN hk
 rw[hw]at R
 exact .bind R<|.f rfl<|.bind (Ck hN lv 0 z root h) (.pure _)
def Ic(hN:Am nodes)(hk:s.aq.length<1000)(hw:nJ s order last nodes=(-1,0))(h:xI s order last nodes lv H tr)
  (hes: ∀e∈jP nodes lv 0,e.Row.length<1000/\ ∀v∈e.Row,vk v=true): ∃H',Ev (λf=>iF f tr (⟨s,order,jP nodes lv 0,last⟩:Tree) H) (true,H')/\ ∀(j:Nat) (o:aD),H[j]? =some o->H'[j]? =some o:=by
 obtain⟨root,h1,b,h2⟩:=h.ob
 have hlen:=vy hN h2
 have hN1:=hN.1
 have hlv:=h2.A8
 obtain⟨x,is,x1,x2,x3,-⟩:=dT h2
 have f2: ∀(j:Nat) (o:aD),H[j]? =some o->(H++[aD.hole,aD.hole])[j]? =some o:=λj o hj=>by
  grind
 have T1:=h.app _ f2
 obtain⟨H2,A,f3⟩:=Ia hN T1
 have T2:=T1.app _ f3
 obtain⟨H3,K,f4⟩:=Gk hN T2
 refine⟨H3,?_,λj o hj=>f4 _ _ (f3 _ _ (f2 _ _ hj))⟩
 have S:=Cv (l:=jP nodes lv 0) ω hes
 unfold iF
 refine .bind (tK hN h)<|.bind (Gy hN hk hw h2)<|.aP<|.f rfl<|.bind S<|.f rfl<|.bind (ru hN T1)<|.ae (dv (k:=0) x1) ?_
 rw[x3,cC ω ω]
 rw[show((((1+lv:Nat):Int)) !=(lv:Int)+1)=false from bne_eq_false_iff_eq.2 ω]
 refine .f rfl<|.bind (HD T1)<|.t ψ<|.bind (DX T1)<|.t ψ<|.bind A<|.bind S<|.t rfl<|.bind K<|.bind (Gz (show(jP nodes lv 0).length<1000000 by omega)) ?_
 exact .bind (Cu χ) (.pure _)
section
variable {α:Type}
def wp:List α->List (List α)->List α
 |a::A,c::C=>c++a::wp A C
 |_,_=>[]
def ws:List α->List (List α)->List α
 |b::B,d::D=>b::(d++ws B D)
 |_,_=>[]
def wv:List α->List (List α)->List α
 |es,[]=>es
 |es,k::ks=>k++ws es ks
def zq: ∀{A B:List α} {C D:List (List α)} {k:List α},A.length=C.length->wv (A++B) (C++k::D)=wp A C++(k++ws B D)
 |[],B,[],D,k,_=>rfl
 |a::A,B,c::C,D,k,h=>by
  have ih:=zq (A:=A) (B:=B) (C:=C) (D:=D) (k:=k) (by simpa using h)
  match C,ih with
  |[],ih=>
   match A,h with
   |[],_=>simp[wv,ws,wp]
  |c'::C,ih=>simp only[wv,m_5,ws,wp,j_3]at ih ⊢;rw[ih]
def zO{x:α}: ∀{A:List α} {C:List (List α)},A.length=C.length->(x∈wp A C<->x∈A\/ ∃c∈C,x∈c)
 |[],[],_=>by simp[wp]
 |a::A,c::C,h=>by
  have:=zO (x:=x) (A:=A) (C:=C) (by simpa using h)
  simp only[wp,k_7,h_9,this,exists_eq_or_imp]
  grind
def tP{x:α}: ∀{A:List α} {C:List (List α)},A.length=C.length->(x∈ws A C<->x∈A\/ ∃c∈C,x∈c)
 |[],[],_=>by simp[ws]
 |a::A,c::C,h=>by
  have:=tP (x:=x) (A:=A) (C:=C) (by simpa using h)
  simp only[ws,k_7,h_9,this,exists_eq_or_imp]
  grind
def zN{x:α}{es:List α}{ks:List (List α)}(h:ks.length=es.length+1):x∈wv es ks<->x∈es\/ ∃k∈ks,x∈k:=by
 match ks,h with
 |k::ks,h=>
  have:=tP (x:=x) (A:=es) (C:=ks) (by simpa using h.symm)
  simp only[wv,k_7,this,h_9,exists_eq_or_imp]
  grind
def JT{R:α->α->Prop}{p:α->Prop}: ∀{A:List α} {C:List (List α)},A.length=C.length->(wp A C).Pairwise R->(∀a∈A,p a)->(∀x y,x∈wp A C->y∈A->R x y->p y->p x)-> ∀x∈wp A C,p x
 |[],[],_,_,_,_,x,hx=>by simp[wp]at hx
 |a::A,c::C,h,hp,hA,ht,x,hx=>by
  simp only[wp,j_9,j_6,k_7,h_9]at hp hx ht
  rcases hx with hx|rfl|hx
  .exact ht x a (.inl hx) ψ (hp.2.2 x hx a (.inl rfl)) (hA a ψ)
  .exact hA x ψ
  .exact JT (by simpa using h) hp.2.1.2 (λa ha=>hA a (by simp[ha])) (λx y hx hy=>ht x y (.inr (.inr hx)) (by simp[hy])) x hx
def L8{R:α->α->Prop}{p:α->Prop}: ∀{A:List α} {C:List (List α)},A.length=C.length->(ws A C).Pairwise R->(∀a∈A,p a)->(∀x y,x∈A->y∈ws A C->R x y->p x->p y)-> ∀x∈ws A C,p x
 |[],[],_,_,_,_,x,hx=>by simp[ws]at hx
 |a::A,c::C,h,hp,hA,ht,x,hx=>by
  simp only[ws,j_9,j_6,k_7,h_9]at hp hx ht
  grind
def ins(c:α->Int)(e:α)(l:List α):List α:=l.filter (λx=>decide (c x<0))++e::l.filter (λx=>decide (0<c x))
def del(c:α->Int)(l:List α):List α:=l.filter λx=>c x !=0
def D6{c:α->Int}{e:α}{P k S:List α}(hP: ∀x∈P,c x<0)(hS: ∀x∈S,0<c x):ins c e (P++(k++S))=P++(ins c e k++S):=by
 have h1:P.filter (λx=>decide (c x<0))=P:=w_6.2 λx hx=>by simpa using hP x hx
 have h2:P.filter (λx=>decide (0<c x))=[]:=List.filter_eq_nil_iff.2 λx hx=>by have:=hP x hx;simp;omega
 have h3:S.filter (λx=>decide (c x<0))=[]:=List.filter_eq_nil_iff.2 λx hx=>by have:=hS x hx;simp;omega
 have h4:S.filter (λx=>decide (0<c x))=S:=w_6.2 λx hx=>by simpa using hS x hx
 simp[ins,h1,h2,h3,h4]
def Em{c:α->Int}{P k S:List α}(hP: ∀x∈P,c x≠0)(hS: ∀x∈S,c x≠0):del c (P++(k++S))=P++(del c k++S):=by
 have h1:P.filter (λx=>c x !=0)=P:=w_6.2 λx hx=>by simpa using hP x hx
 have h2:S.filter (λx=>c x !=0)=S:=w_6.2 λx hx=>by simpa using hS x hx
 simp[del,h1,h2]
def rH{l:List α}(h:i<l.length):l=l.take i++l[i]::l.drop (i+1):=by
 simp_all
end
set_option maxRecDepth 100000
def qM(h:List.map ab a=List.map ab b):a=b:=by
 have h1:=lx ay a
 have h2:=lx ay b
 rw[show a.map ay.enc=b.map ay.enc from h,h2]at h1
 exact(Option.some.inj h1).symm
inductive AT where
 |nd (i:Nat) (es:List Entry) (ks:List AT)
def AT.ad:AT->Nat|.nd i _ _=>i
def AT.es:AT->List Entry|.nd _ es _=>es
def AT.ks:AT->List AT|.nd _ _ ks=>ks
def AT.fl:Nat->AT->List Entry
 |0,.nd _ es _=>es
 |l+1,.nd _ es ks=>wv es (ks.map (AT.fl l))
def AT.ft:Nat->AT->List Nat
 |0,.nd i _ _=>[i]
 |l+1,.nd i _ ks=>i::(ks.map (AT.ft l)).flatten
def AT.hd(H:Hp):Nat->AT->Prop
 |0,.nd i es ks=>ks=[]/\H[i]? =some (cz es [])
 |l+1,.nd i es ks=>ks.length=es.length+1/\H[i]? =some (cz es (ks.map λk=>some k.ad))/\ ∀k∈ks,AT.hd H l k
def AT.bl(m o:Nat):Nat->AT->Prop
 |0,_=>True
 |l+1,.nd _ _ ks=> ∀k∈ks,m<=k.es.length/\k.es.length<=o/\AT.bl m o l k
def AT.hd.self: ∀{l:Nat} {a:AT},a.hd H l->H[a.ad]? =some (cz a.es (a.ks.map λk=>some k.ad))
 |0,.nd i es ks,h=>by obtain⟨rfl,h⟩:=h;exact h
 |l+1,.nd i es ks,h=>h.2.1
def AT.ln: ∀{l:Nat} {a:AT},a.ad∈a.ft l
 |0,.nd i es ks=>by simp[AT.ft,AT.ad]
 |l+1,.nd i es ks=>by simp[AT.ft,AT.ad]
def AT.hd.lt: ∀{l:Nat} {a:AT},a.hd H l-> ∀j∈a.ft l,j<H.length
 |0,.nd i es ks,h,j,hj=>by
  simp only[AT.ft,w_1]at hj;subst hj
  exact(g_5.1 h.2).1
 |l+1,.nd i es ks,h,j,hj=>by
  simp only[AT.ft,h_9,List.mem_flatten,v_9]at hj
  rcases hj with rfl|⟨_,⟨k,hk,rfl⟩,hj⟩
  .exact(g_5.1 h.2.1).1
  .exact(h.2.2 k hk).lt j hj
def AT.hd.fr: ∀{l:Nat} {a:AT},a.hd H l->(∀j∈a.ft l,H'[j]? =H[j]?)->a.hd H' l
 |0,.nd i es ks,h,hf=>⟨h.1,by rw[hf i (by simp[AT.ft])];exact h.2⟩
 |l+1,.nd i es ks,h,hf=>by
  refine⟨h.1,by rw[hf i (by simp[AT.ft])];exact h.2.1,λk hk=>(h.2.2 k hk).fr λj hj=>hf j ?_⟩
  simp only[AT.ft,h_9,List.mem_flatten,v_9]
  grind
def AT.hd.at(hm:1<=m): ∀{l:Nat} {a:AT},a.hd H l->a.bl m o l-> ∀j∈a.ft l,∃es is,H[j]? =some (cz es is)/\(∀e∈es,e∈a.fl l)/\(es=[]->a.es=[])
 |0,.nd i es ks,h,hb,j,hj=>by
  simp only[AT.ft,w_1]at hj;subst hj
  exact⟨es,[],h.2,λe he=>he,λh=>h⟩
 |l+1,.nd i es ks,h,hb,j,hj=>by
  have hfl: ∀e,e∈AT.fl (l+1) (.nd i es ks)<->e∈es\/ ∃k∈ks.map (AT.fl l),e∈k:=λe=>zN (by simp[h.1])
  simp only[AT.ft,h_9,List.mem_flatten,v_9]at hj
  rcases hj with rfl|⟨_,⟨k,hk,rfl⟩,hj⟩
  .exact⟨es,_,h.2.1,λe he=>(hfl e).2 (.inl he),λh=>h⟩
  .obtain⟨es',is',h1,h2,h3⟩:=(h.2.2 k hk).at hm (hb k hk).2.2 j hj
   refine⟨es',is',h1,λe he=>(hfl e).2 (.inr ⟨_,List.mem_map_of_mem hk,h2 e he⟩),λhe=>?_⟩
   have:=(hb k hk).1
   grind
def AT.nodup(hm:1<=m): ∀{l:Nat} {a:AT},a.hd H l->a.bl m o l->(a.fl l).Nodup->(a.ft l).Nodup
 |0,.nd i es ks,h,hb,hn=>by simp[AT.ft]
 |l+1,.nd i es ks,h,hb,hn=>by
  have key: ∀(C D:List AT) (k:AT),ks=C++k::D-> ∀j∈k.ft l,j≠i/\ ∀k'∈D,j∉k'.ft l:=by
   intro C D k hk j hj
   have hkm:k∈ks:=by rw[hk];simp
   have hCl:C.length<=es.length:=by have:=h.1;grind
   have hsp:es=es.take C.length++es.drop C.length:=(p_7 _ _).symm
   have hfl:AT.fl (l+1) (.nd i es ks)=wp (es.take C.length) (C.map (AT.fl l))++(k.fl l++ws (es.drop C.length) (D.map (AT.fl l))):=by
    show wv es (ks.map (AT.fl l))=_
    rw[hk,k_1,h_3]
    conv=>lhs;rw[hsp]
    exact zq χ
   rw[hfl]at hn
   have hDl:(es.drop C.length).length=(D.map (AT.fl l)).length:=by have:=h.1;grind
   obtain⟨es',is',h1,h2,h3⟩:=(h.2.2 k hkm).at hm (hb k hkm).2.2 j hj
   have hne:es'≠[]:=λhe=>by have:=(hb k hkm).1;grind
   obtain⟨e,hes⟩:=List.exists_mem_of_ne_nil _ hne
   have hek:=h2 e hes
   rw[List.nodup_append]at hn
   obtain⟨-,n2,n3⟩:=hn
   rw[List.nodup_append]at n2
   refine⟨λhji=>?_,λk' hk' hj'=>?_⟩
   .subst hji
    have h4:=h.2.1
    rw[h1]at h4
    simp only[cz,g_4,aD.cells.injEq,List.cons.injEq,SV.own.injEq,true_and]at h4
    have he':es'=es:=qM h4.1
    subst he'
    rw[hsp,k_7]at hes
    rcases hes with hes|hes
    .exact n3 e ((zO χ).2 (.inl hes)) e (by simp[hek]) rfl
    .exact n2.2.2 e hek e ((tP hDl).2 (.inl hes)) rfl
   .have hkm':k'∈ks:=by rw[hk];simp[hk']
    obtain⟨es2,is2,g1,g2,g3⟩:=(h.2.2 k' hkm').at hm (hb k' hkm').2.2 j hj'
    rw[h1]at g1
    simp only[cz,g_4,aD.cells.injEq,List.cons.injEq,SV.own.injEq,true_and]at g1
    have he':es'=es2:=qM g1.1
    subst he'
    exact n2.2.2 e hek e ((tP hDl).2 (.inr ⟨_,List.mem_map_of_mem hk',g2 e hes⟩)) rfl
  have all: ∀(C D:List AT),ks=C++D->(i::(D.map (AT.ft l)).flatten).Nodup:=by
   intro C D
   induction D generalizing C with
   |nil=>intro _;simp
   |cons k D ih=>
    intro hk
    have ih:=ih (C++[k]) (by simp[hk])
    have kk:=key C D k hk
    have hkm:k∈ks:=by rw[hk];simp
    have hkn:(k.ft l).Nodup:=by
     refine AT.nodup hm (h.2.2 k hkm) (hb k hkm).2.2 ?_
     have hfl:(AT.fl (l+1) (.nd i es ks))=wp (es.take C.length) (C.map (AT.fl l))++(k.fl l++ws (es.drop C.length) (D.map (AT.fl l))):=by
      show wv es (ks.map (AT.fl l))=_
      rw[hk,k_1,h_3]
      conv=>lhs;rw[<-p_7 C.length es]
      exact zq (by have:=h.1;grind)
     grind
    grind
  exact all [] ks rfl
def gE(s:ak)(e:Entry):Prop:=nI s e=true/\i64 e.Number
def gE.fit{s:ak}(h:gE s e):bc s.aq e.Row=true:=mD h.1
def gE.num{s:ak}(h:gE s e):1<=e.Number/\i64 e.Number:=by
 have:=h.1
 simp only[nI,g_3,decide_eq_true_eq]at this
 exact⟨this.2,h.2⟩
def G8{H:Hp}{ls:List Loc}{i:Nat}{cs:List SV}(h:H[i]? =some (.cells cs))(hd: ∀x∈cs,∃d,x=.d d):(jG ls H)[i]? =some (.cells cs):=by
 unfold jG
 cases ls.any CZ with
 |false=>exact h
 |true=>
  simp only[cond_true,v_4,h,m_0,jF]
  congr 2
  apply p_0
  intro j
  rw[v_4]
  cases hj:cs[j]? with
  |none=>rfl
  |some x=>
   obtain⟨d,rfl⟩:=hd x (m_1 hj)
   rfl
section
variable {s:ak} {order last cnt:Int} {root:Option Nat} {tr:Nat} {H:Hp}
def Ga(h:H[tr]? =some (gZ s order root last cnt))(ls:List Loc):(jG ls H)[tr]? =some (gZ s order root last cnt):=by
 refine G8 h λx hx=>?_
 simp only[h_9,List.not_mem_nil,or_false]at hx
 grind
def fX(h:H[tr]? =some (gZ s order root last cnt)):aR cj.cells H tr 0=some s:=bU (r:=[.d (.int .i64 order),.d (cP.enc root),.d (.int .i64 last),.d (.int .i64 cnt)]) h rfl
def tn(h:H[tr]? =some (gZ s order root last cnt)):aR (cI .i64).cell H tr 2=some s.cW:=bU (r:=[.d (.int .i64 order),.d (cP.enc root),.d (.int .i64 last),.d (.int .i64 cnt)]) h rfl
def qW(h:H[tr]? =some (gZ s order root last cnt)):aR (cI .i64).cell H tr 3=some order:=bU (r:=[.d (cP.enc root),.d (.int .i64 last),.d (.int .i64 cnt)]) h rfl
def eU(h:H[tr]? =some (gZ s order root last cnt)):aR cP.cell H tr 4=some root:=bU (r:=[.d (.int .i64 last),.d (.int .i64 cnt)]) h rfl
def pY(h:H[tr]? =some (gZ s order root last cnt)):aR (cI .i64).cell H tr 5=some last:=bU (r:=[.d (.int .i64 cnt)]) h rfl
def qX(h:H[tr]? =some (gZ s order root last cnt)):aR (cI .i64).cell H tr 6=some cnt:=bU (r:=[]) h rfl
def HZ(hs:oa s=true)(h:H[tr]? =some (gZ s order root last cnt))(hx:gE s x)(he:gE s e)(ls:List Loc):Ev (λf=>iW f x e (some tr) (jG ls H)) (bO s x e):=by
 unfold iW
 exact .ae rfl<|.ae (fX (Ga h ls))<|.bind (pb hs hx.fit he.fit hx.num he.num) (.pure _)
def half{i j:Nat}(h:i+j<1000000):IntKind.wrap .i64 (Int.fdiv (IntKind.wrap .u64 (IntKind.wrap .i64 ((i:Int)+(j:Int)))) (2 ^ 1))=(((i+j) / 2:Nat):Int):=by
 rw[cC (x:=(i:Int)+(j:Int)) ω ω]
 have:IntKind.wrap .u64 ((i:Int)+(j:Int))=(i:Int)+(j:Int):=by
  show((i:Int)+(j:Int)).emod (2 ^ 64)=_
  exact Int.emod_eq_of_lt ω ω
 rw[this,cC]<;>simp only[Int.fdiv_eq_ediv_of_nonneg _ (show(0:Int)<=2 ^ 1 by decide)]<;>omega
def Lo(hs:oa s=true)(h:H[tr]? =some (gZ s order root last cnt)){e:Entry}(he:gE s e)(ls:List Loc){A B:List Entry}(hg: ∀x∈A++B,gE s x)(hA: ∀x∈A,bO s x e<0)(hB: ∀x∈B,0<=bO s x e)(hl:(A++B).length<1000):
  ∀(d i j:Nat),j - i=d->i<=A.length->A.length<=j->j<=(A++B).length->
   gT (λf=>aU f (A++B) e (some tr) (jG ls H)) ((i:Int),(j:Int)) (A.length:Int):=by
 intro d
 induction d using Nat.strongRecOn with
 |ind d ih=>
  intro i j hd hi hj hj2
  by_cases hij:i<j
  .have hk:(i+j) / 2<(A++B).length:=by omega
   have C:=HZ hs h (hg _ (j_2 hk)) he ls
   by_cases hc:(i+j) / 2<A.length
   .have hlt:bO s (A++B)[(i+j) / 2] e<0:=by grind
    refine .next (y:=((((i+j) / 2+1:Nat):Int),(j:Int))) ?_ (ih _ ω ((i+j) / 2+1) j rfl ω hj hj2)
    unfold aU
    simp only[half (show i+j<1000000 by omega)]
    refine .t (eO hij)<|.ae (aw hk)<|.bind C<|.t (by simpa using hlt) ?_
    rw[cZ ω]
    exact .pure _
   .have hge:0<=bO s (A++B)[(i+j) / 2] e:=by grind
    refine .next (y:=((i:Int),(((i+j) / 2:Nat):Int))) ?_ (ih _ ω i ((i+j) / 2) rfl hi ω ω)
    unfold aU
    simp only[half (show i+j<1000000 by omega)]
    exact .t (eO hij)<|.ae (aw hk)<|.bind C<|.f χ (.pure _)
  .have:i=A.length:=by omega
   subst this
   refine .stop ?_
   unfold aU
   exact .f (mn ω) (.pure _)
def sJ(s:ak)(e:Entry):List Entry->Bool
 |[]=>false
 |b::_=>bO s b e==0
def zw(hs:oa s=true)(h:H[tr]? =some (gZ s order root last cnt))(he:gE s e)(hi:H[i]? =some (cz (A++B) is))(hg: ∀x∈A++B,gE s x)(hA: ∀x∈A,bO s x e<0)
  (hB: ∀x∈B,0<=bO s x e) (hl:(A++B).length<1000):Ev (λf=>lG f tr i e H) ((A.length:Int),sJ s e B):=by
 unfold lG
 refine .ae (dB hi rfl) ?_
 have L:=Lo hs h he [.an i 0] hg hA hB hl _ 0 (A++B).length rfl ω ψ ψ
 refine .bind (a:=((A.length:Int),sJ s e B)) ?_ (.pure _)
 unfold bK
 refine .bind L.ev ?_
 cases B with
 |nil=>exact .f (mn ψ) (.pure _)
 |cons b B=>
  have hk:A.length<(A++b::B).length:=by simp
  refine .t (eO hk)<|.ae (aw hk)<|.bind (HZ hs h (hg _ (j_2 hk)) he _) ?_
  have:(A++b::B)[A.length]=b:=by simp
  rw[this]
  exact .pure _
end
set_option maxRecDepth 100000
def J4{s:ak}(ha:bc s.aq a.Row=true)(hb:bc s.aq b.Row=true)(hc:bc s.aq c.Row=true):xJ (bO s a b) (bO s b c) (bO s a c):=by
 have h1:=wL s.Down ha hb hc
 have h2:=wL s.Down hc hb ha
 have n1:=sF s.Down ha hb
 have n2:=sF s.Down hb hc
 have n3:=sF s.Down ha hc
 unfold xJ bO at *
 grind
section
variable {s:ak}
def u6(s:ak)(l:List Entry):Prop:=l.Pairwise (λa b=>qy s a b=true)
def pU(h:qy s a b=true):bO s a b<0:=by
 unfold qy at h
 grind
def Fh(hx:gE s x)(hy:gE s y)(he:gE s e)(h:qy s x y=true)(h2:bO s y e<0):bO s x e<0:=wV hx.fit hy.fit he.fit (pU h) h2
def ji(hx:gE s x)(hy:gE s y)(he:gE s e)(h:qy s x y=true)(h2:0<=bO s x e):0<bO s y e:=by
 have h1:=pU h
 have n1:=tR (s:=s) he.fit hx.fit
 have n2:=tR (s:=s) he.fit hy.fit
 have:=J4 (s:=s) he.fit hx.fit hy.fit ω ω
 omega
def yf(he:gE s e)(hl:A.length=C.length)(hs:u6 s (wp A C))(hg: ∀x∈wp A C,gE s x)(hA: ∀x∈A,bO s x e<0): ∀x∈wp A C,bO s x e<0:=
 JT hl hs hA λx y hx hy hr hp=>Fh (hg x hx) (hg y ((zO hl).2 (.inl hy))) he hr hp
def ye(he:gE s e)(hl:A.length=C.length)(hs:u6 s (ws A C))(hg: ∀x∈ws A C,gE s x)(hA: ∀x∈A,0<bO s x e): ∀x∈ws A C,0<bO s x e:=
 L8 hl hs hA λx y hx hy hr hp=>ji (hg x ((tP hl).2 (.inl hx))) (hg y hy) he hr ω
def lu(he:gE s e): ∀{l:List Entry},u6 s l->(∀x∈l,gE s x)-> ∃A B,l=A++B/\(∀x∈A,bO s x e<0)/\ ∀x∈B,0<=bO s x e
 |[],_,_=>⟨[],[],rfl,ψ,ψ⟩
 |a::l,hs,hg=>by
  obtain⟨h1,h2⟩:=j_6.1 hs
  by_cases h:bO s a e<0
  .obtain⟨A,B,rfl,hA,hB⟩:=lu he h2 λx hx=>hg x (by simp[hx])
   grind
  .refine⟨[],a::l,rfl,ψ,λx hx=>?_⟩
   rcases h_9.1 hx with rfl|hx
   .omega
   .exact Int.le_of_lt (ji (hg a ψ) (hg x (by simp[hx])) he (h1 x hx) ω)
def gM(a:Entry):bO s a a=0:=by
 have h: ∀(r:List Value),∀d,cx d r r=0:=by
  intro r
  induction r with
  |nil=>intro d;cases d<;>simp[cx]
  |cons v r ih=>
   intro d
   cases d with
   |nil=>simp[cx]
   |cons d ds=>simp[cx,pN,zb,ih]
 unfold bO
 grind
def mf(s:ak)(e:Entry)(l:List Entry):List Entry:=ins (λx=>bO s x e) e l
def ky(s:ak)(e:Entry)(l:List Entry):List Entry:=del (λx=>bO s x e) l
def sG(hA: ∀x∈A,bO s x e<0)(hB: ∀x∈B,0<bO s x e):mf s e (A++B)=A++e::B:=by
 have:=D6 (c:=λx=>bO s x e) (e:=e) (k:=[]) hA hB
 simpa[mf,ins]using this
def pM(hA: ∀x∈A,bO s x e<0)(hb:bO s b e=0)(hB: ∀x∈B,0<bO s x e):ky s e (A++b::B)=A++B:=by
 have:=Em (c:=λx=>bO s x e) (k:=[b]) (λx hx=>by have:=hA x hx;omega) (λx hx=>by have:=hB x hx;omega) (P:=A) (S:=B)
 simpa[ky,del,hb]using this
def Fx(h: ∀x∈l,bO s x e≠0):ky s e l=l:=w_6.2 λx hx=>by simpa using h x hx
def wS:x∈ky s e l<->x∈l/\bO s x e≠0:=by simp[ky,del]
def BL(h:u6 s l):u6 s (ky s e l):=List.Pairwise.filter _ h
def tZ(he:gE s e)(hs:u6 s l)(hg: ∀x∈l,gE s x)(hn: ∀x∈l,bO s x e≠0):(mf s e l).Perm (e::l):=by
 obtain⟨A,B,rfl,hA,hB⟩:=lu he hs hg
 rw[sG hA λx hx=>by grind]
 exact List.perm_middle
def G0(he:gE s e)(hs:u6 s l)(hg: ∀x∈l,gE s x)(hn: ∀x∈l,bO s x e≠0):x∈mf s e l<->x=e\/x∈l:=by
 rw[(tZ he hs hg hn).mem_iff,h_9]
def Ig(h:bO s a b<0)(hd:s.cW=1->cx s.Down a.Row b.Row≠0):qy s a b=true:=by
 unfold qy
 grind
def He(he:gE s e)(hs:u6 s l)(hg: ∀x∈l,gE s x)(hn: ∀x∈l,bO s x e≠0)(hd:s.cW=1-> ∀x∈l,cx s.Down x.Row e.Row≠0):u6 s (mf s e l):=by
 obtain⟨A,B,rfl,hA,hB⟩:=lu he hs hg
 have hB': ∀x∈B,0<bO s x e:=λx hx=>by grind
 rw[sG hA hB']
 unfold u6 at hs ⊢
 rw[j_9]at hs ⊢
 rw[j_6]
 refine⟨hs.1,⟨λx hx=>?_,hs.2.1⟩,λa ha b hb=>?_⟩
 .have hgx:=hg x (by simp[hx])
  have n1:=tR (s:=s) hgx.fit he.fit
  refine Ig (by have:=hB' x hx;omega) λh1 h2=>hd h1 x (by simp[hx]) ?_
  have:=sF s.Down he.fit hgx.fit
  omega
 .rcases h_9.1 hb with rfl|hb
  .exact Ig (hA a ha) λh1=>hd h1 a (by simp[ha])
  .exact hs.2.2 a ha b hb
def HC(hs:u6 s l)(hg: ∀x∈l,gE s x)(he:e∈l):(ky s e l).length+1=l.length:=by
 obtain⟨A,B,rfl,hA,hB⟩:=lu (hg e he) hs hg
 match B,hB with
 |[],_=>
  have:=hA e (by simpa using he)
  rw[gM]at this;omega
 |b::B,hB=>
  have hgb:=hg b ψ
  have hb:bO s b e=0:=by
   rcases k_7.1 he with h|h
   .have:=hA e h;rw[gM]at this;omega
   .rcases h_9.1 h with rfl|h
    .exact gM _
    .have h1:=(j_6.1 (j_9.1 hs).2.1).1 e h
     have:=pU h1
     have:=hB b ψ;omega
  have hB': ∀x∈B,0<bO s x e:=λx hx=>ji hgb (hg x (by simp[hx])) (hg e he) ((j_6.1 (j_9.1 hs).2.1).1 x hx) ω
  rw[pM hA hb hB']
  simp;omega
end
set_option maxRecDepth 100000
def Es(f:Nat)(h:r.length<1000):dg f r=some r:=by
 unfold dg
 cases r with
 |nil=>rfl
 |cons a l=>
  show Go.Sh.dx (decide ((([]:List Entry)++a::l).length<=room)) (some ([]++a::l))=_
  rw[show decide ((([]:List Entry)++a::l).length<=room)=true by
   rw[decide_eq_true_eq]
   have:(a::l).length<1000:=h
   simp only[m_3,room]
   omega]
  rfl
def Er(f:Nat)(h:r.length<1000):dO f r=some r:=by
 unfold dO
 cases r with
 |nil=>rfl
 |cons a l=>
  show Go.Sh.dx (decide ((([]:List (Option Nat))++a::l).length<=room)) (some ([]++a::l))=_
  rw[show decide ((([]:List (Option Nat))++a::l).length<=room)=true by
   rw[decide_eq_true_eq]
   have:(a::l).length<1000:=h
   simp only[m_3,room]
   omega]
  rfl
def D8{α:Type}{c:Cd α}{H:Hp}{i:Nat}{xs:List α}(h:H[i]? =some (.cells cs))(e:cs[off]? =some (.own n (xs.map c.enc))):Ao n c H i off=some (xs,H.set i (.cells (cs.set off (.d (.list n (xs.map c.enc)))))):=by
 unfold Ao
 rw[jg h,k_2,e]
 simp only[if_true,lx,m_0]
def Ho{α:Type}{c:Cd α}{H:Hp}{i:Nat}{xs:List α}(h:H[i]? =some (.cells cs))(e:cs[off]? =some (.d (.list n (xs.map c.enc)))):Ao n c H i off=some (xs,H):=by
 unfold Ao
 rw[jg h,k_2,e]
 simp only[if_true,lx,m_0]
def Hb{H:Hp}{i:Nat}(h:H[i]? =some (.cells [x,.own 1 (List.map cP.enc is)])):Ev (λf=>bH f i H) (decide (is=[])):=by
 unfold bH
 refine .ae (dB h rfl) ?_
 have:((is.length:Int)==0)=decide (is=[]):=by
  cases is<;>simp
  omega
 rw[this]
 exact .pure _
section
variable {H:Hp} {i:Nat} {a b a' b':aD}
def NG(h:i<H.length):(H.set i a++[b]).set i a'=H.set i a'++[b]:=by simp_all
def OM:(H.set i a++[b]).set H.length b'=H.set i a++[b']:=by
 simp_all
def JS(h:i<H.length):(H.set i a++[b])[i]? =some a:=by grind
def NH:(H.set i a++[b])[H.length]? =some b:=by simp
end
def rV{α:Type}{l:List α}(h:k<=l.length):sl l (k:Int) (l.length:Int)=l.drop k:=by simp[sl]
def nU{α:Type}{l:List α}{k:Nat}:sl l 0 (k:Int)=l.take k:=by simp[sl]
def lI{α:Type}{l:List α}(h:k<=l.length):kn l (k:Int) (l.length:Int)=true:=by simp[kn];omega
def lH{α:Type}{l:List α}(h:k<=l.length):kn l 0 (k:Int)=true:=by simp[kn];omega
def AF{H:Hp}{i:Nat}(h:H[i]? =some (cz (L++up::R) is))(hm:(L++up::R).length / 2=L.length)(hk:is=[]\/is.length=(L++up::R).length+1)(hb:(L++up::R).length<900):
  Ev (λf=>lr f i H) ((up,some H.length),H.set i (cz L (is.take (L.length+1)))++[cz R (is.drop (L.length+1))]):=by
 have hi:=(g_5.1 h).1
 let es:=L++up::R
 have hes:es=L++up::R:=rfl
 have hb:es.length<900:=hb
 have hm:es.length / 2=L.length:=hm
 have hk:is=[]\/is.length=es.length+1:=hk
 have hel:es.length=L.length+R.length+1:=by simp[es];omega
 have hlt:L.length<es.length:=by omega
 let O1:aD:=.cells [.d (.list 3 (es.map ay.enc)),.own 1 (List.map cP.enc is)]
 let O2:aD:=.cells [.d (.list 3 (es.map ay.enc)),.d (.list 1 (List.map cP.enc is))]
 let O3:aD:=.cells [.d (.list 3 (es.map ay.enc)),.own 1 (List.map cP.enc (is.take (L.length+1)))]
 have f1:Ao 3 ay H i 0=some (es,H.set i O1):=D8 h rfl
 have g1:(H.set i O1)[i]? =some O1:=g_0 hi
 have f2:Ao 3 ay (H.set i O1) i 0=some (es,H.set i O1):=Ho g1 rfl
 have hnl:(H.set i O1).length=H.length:=by simp
 have w1:IntKind.wrap .i64 (Int.tdiv (es.length:Int) 2)=(L.length:Int):=by
  rw[Int.tdiv_eq_ediv_of_nonneg ω,cC ω ω];omega
 have w2:IntKind.wrap .i64 ((L.length:Int)+1)=((L.length+1:Nat):Int):=cZ ω
 have hup:idx es (L.length:Int)=some up:=by rw[aw hlt];simp[es]
 have dR:es.drop (L.length+1)=R:=by simp[es]
 have tL:es.take L.length=L:=by simp[es]
 have fin: ∀{is':List (Option Nat)} {K:List (Option Nat)} {G:Hp},G=H.set i (.cells [.d (.list 3 (es.map ay.enc)),.own 1 (List.map cP.enc is')])++[cz R K]->
   Ev (λf=>(Ao 3 ay G i 0).bind λq23=>Go.Sh.dx (kn q23.1 0 (L.length:Int))<|(dg f (sl q23.1 0 (L.length:Int))).bind λr24=>(bT 3 ay q23.2 i 0 r24).bind λH25=>some ((up,some H.length),H25))
    ((up,some H.length),H.set i (cz L is')++[cz R K]):=by
  intro is' K G hG
  subst hG
  refine .ae (Ho (JS hi) rfl)<|.dx (lH (show L.length<=es.length by omega)) ?_
  dsimp only
  rw[nU,tL]
  refine .bind (.of λn=>Es n ω)<|.ae (gy (JS hi) ψ) ?_
  rw[NG hi]
  exact .pure _
 unfold lr
 refine .ae f1<|.ae f2 ?_
 simp only[w1,w2]
 refine .ae hup<|.ae f2<|.dx (lI (show L.length+1<=es.length by omega)) ?_
 dsimp only
 rw[rV ω,dR]
 refine .bind (.of λn=>Es n ω)<|.ae rfl<|.aP ?_
 simp only[hnl]
 refine .bind (Hb (JS hi)) ?_
 by_cases he:is=[]
 .subst he
  refine .f ψ ?_
  simp only[List.take_nil,List.drop_nil]
  exact fin rfl
 .have hil:is.length=es.length+1:=hk.resolve_left he
  refine .t (by simp[he])<|.ae (D8 (JS hi) rfl)<|.dx (lI (show L.length+1<=is.length by omega)) ?_
  dsimp only
  rw[rV ω]
  refine .bind (.of λn=>Er n χ) ?_
  simp only[NG hi,List.set_cons_succ,List.set_cons_zero]
  refine .ae (gy NH ψ) ?_
  simp only[OM,List.set_cons_succ,List.set_cons_zero]
  refine .ae (Ho (JS hi) rfl)<|.dx (lH (show L.length+1<=is.length by omega)) ?_
  dsimp only
  rw[nU]
  refine .bind (.of λn=>Er n χ)<|.ae (gy (JS hi) ψ) ?_
  simp only[NG hi,List.set_cons_succ,List.set_cons_zero]
  exact fin rfl
def pO{α:Type}{x:Option α}(h:c=true):Go.Sh.dx c x=x:=by subst h;rfl
def xe(f:Nat)(h:(A++B).length<1000):dF f (A++B) (A.length:Int) [e]=some (A++e::B):=by
 unfold dF
 simp only[h_5]at h
 rw[pO (lI ψ)]
 show(bif (A.length:Int)==((A++B).length:Int)then _ else _)=_
 cases B with
 |nil=>
  simp only[p_6,beq_self_eq_true,cond_true]
  rw[pO (by simp[room];simp at h;omega)]
 |cons b B=>
  rw[show((A.length:Int)==((A++b::B).length:Int))=false by simp;omega,cond_false,pO (by simp[room];simp at h;omega)]
  simp
def Bp(f:Nat)(h:(A++B).length<1000):bV f (A++B) (A.length:Int) [e]=some (A++e::B):=by
 unfold bV
 simp only[h_5]at h
 rw[pO (lI ψ)]
 show(bif (A.length:Int)==((A++B).length:Int)then _ else _)=_
 cases B with
 |nil=>
  simp only[p_6,beq_self_eq_true,cond_true]
  rw[pO (by simp[room];simp at h;omega)]
 |cons b B=>
  rw[show((A.length:Int)==((A++b::B).length:Int))=false by simp;omega,cond_false,pO (by simp[room];simp at h;omega)]
  simp
def xu(f:Nat)(h:(A++e::B).length<1000):dG f (A++e::B) (A.length:Int) ((A.length+1:Nat):Int)=some (A++B):=by
 unfold dG
 simp only[h_5,j_1]at h
 rw[pO χ,show((A.length:Int)==((A.length+1:Nat):Int))=false by simp;omega,cond_false,pO (by simp[room];omega)]
 simp
def BK(f:Nat)(h:(A++e::B).length<1000):cn f (A++e::B) (A.length:Int) ((A.length+1:Nat):Int)=some (A++B):=by
 unfold cn
 simp only[h_5,j_1]at h
 rw[pO χ,show((A.length:Int)==((A.length+1:Nat):Int))=false by simp;omega,cond_false,pO (by simp[room];omega)]
 simp
set_option maxRecDepth 100000
def FQ{α:Type}: ∀{B:List α} {D:List (List α)},B.length=D.length->B.Sublist (ws B D)
 |[],[],_=>.slnil
 |b::B,d::D,h=>.cons_cons b ((FQ (by simpa using h)).trans (List.sublist_append_right d _))
def Cb{α:Type}{es:List α}{ks:List (List α)}(h:ks.length=es.length+1):es.Sublist (wv es ks):=by
 match ks,h with
 |k::ks,h=>exact(FQ (by simpa using h.symm)).trans (List.sublist_append_right k _)
section
variable {l i:Nat} {es:List Entry} {C D:List AT} {k:AT}
def iU(hA:A.length=C.length):AT.fl (l+1) (.nd i (A++B) (C++k::D))=wp A (C.map (AT.fl l))++(k.fl l++ws B (D.map (AT.fl l))):=by
 show wv (A++B) ((C++k::D).map (AT.fl l))=_
 rw[k_1,h_3]
 exact zq (by simpa using hA)
def dj:j∈AT.ft (l+1) (.nd i es ks)<->j=i\/ ∃k∈ks,j∈k.ft l:=by
 simp only[AT.ft,h_9,List.mem_flatten,v_9]
 grind
def rD(h:(AT.ft (l+1) (.nd i es (C++k::D))).Nodup):i∉k.ft l/\(k.ft l).Nodup/\ ∀k'∈C++D,i∉k'.ft l/\ ∀j∈k'.ft l,j∉k.ft l:=by
 simp only[AT.ft,List.nodup_cons,k_1,h_3,List.flatten_append,p_9,k_7,not_or,List.nodup_append]at h
 grind
def D9(h:(AT.ft (l+1) (.nd i es ks)).Nodup): ∀k∈ks,i∉k.ft l/\(k.ft l).Nodup:=by
 intro k hk
 obtain⟨C,D,rfl⟩:=List.append_of_mem hk
 exact⟨(rD h).1,(rD h).2.1⟩
end
def AT.hd.kl{H:Hp}{l:Nat}{a:AT}(h:a.hd H l):(a.ks.map λk=>some k.ad)=[]\/(a.ks.map λk=>some k.ad).length=a.es.length+1:=by
 cases l with
 |zero=>cases a;obtain⟨rfl,_⟩:=h;exact .inl rfl
 |succ l=>cases a;right;rw[k_6];exact h.1
def AE{l:Nat}(h:AT.hd H l (.nd j (L++up::R) ks))(hn:(AT.ft l (.nd j (L++up::R) ks)).Nodup)(hb:AT.bl m o l (.nd j (L++up::R) ks)):
  let H':=H.set j (cz L ((ks.map λk=>some k.ad).take (L.length+1)))++[cz R ((ks.map λk=>some k.ad).drop (L.length+1))]
  let a:=AT.nd j L (ks.take (L.length+1));let b:=AT.nd H.length R (ks.drop (L.length+1))
  a.hd H' l/\b.hd H' l/\a.bl m o l/\b.bl m o l/\AT.fl l (.nd j (L++up::R) ks)=a.fl l++up::b.fl l/\(∀x∈a.ft l,x∈AT.ft l (.nd j (L++up::R) ks))/\ ∀x∈b.ft l,x=H.length\/x∈AT.ft l (.nd j (L++up::R) ks):=by
 intro H' a b
 cases l with
 |zero=>
  obtain⟨rfl,h⟩:=h
  have hj:=(g_5.1 h).1
  exact⟨⟨ψ,JS hj⟩,⟨ψ,NH⟩,trivial,trivial,rfl,λx hx=>hx,λx hx=>.inl (by simpa[AT.ft,b]using hx)⟩
 |succ l=>
  obtain⟨h1,h2,h3⟩:=h
  have hj:=(g_5.1 h2).1
  have hkl:ks.length=L.length+R.length+2:=by rw[h1];simp;omega
  have fr: ∀k∈ks,AT.hd H' l k:=λk hk=>(h3 k hk).fr λx hx=>by
   have hx1:=(h3 k hk).lt x hx
   have hxj:j≠x:=λe=>(D9 hn k hk).1 (e▸hx)
   grind
  refine⟨⟨χ,?_,λk hk=>fr k (List.mem_of_mem_take hk)⟩,⟨χ,?_,λk hk=>fr k (w_4 hk)⟩,λk hk=>hb k (List.mem_of_mem_take hk),λk hk=>hb k (w_4 hk),?_,?_,?_⟩
  .rw[List.map_take];exact JS hj
  .rw[List.map_drop];exact NH
  .
   have hd0:ks.drop (L.length+1)≠[]:=by
    simp_all
   obtain⟨k1,D,hD⟩: ∃k1 D,ks.drop (L.length+1)=k1::D:=by
    cases hh:ks.drop (L.length+1)with
    |nil=>exact absurd hh hd0
    |cons k1 D=>exact⟨k1,D,rfl⟩
   have ht0:L.length<ks.length:=by omega
   have htk:ks.take (L.length+1)=ks.take L.length++ks[L.length]::[]:=by simp_all
   have e1:ks=ks.take L.length++ks[L.length]::(k1::D):=by
    conv=>lhs;rw[<-p_7 (L.length+1) ks,hD,htk,j_3]
    rfl
   have e2:=iU (l:=l) (i:=j) (A:=L) (B:=up::R) (C:=ks.take L.length) (k:=ks[L.length]) (D:=k1::D) χ
   have e3:=iU (l:=l) (i:=j) (A:=L) (B:=[]) (C:=ks.take L.length) (k:=ks[L.length]) (D:=[]) χ
   show AT.fl (l+1) (.nd j (L++up::R) ks)=AT.fl (l+1) (.nd j L (ks.take (L.length+1)))++up::AT.fl (l+1) (.nd H.length R (ks.drop (L.length+1)))
   rw[hD,htk]
   rw[p_6]at e3
   rw[e3]
   conv=>lhs;rw[e1]
   rw[e2]
   simp[ws,AT.fl,wv]
  .intro x hx
   rcases dj.1 hx with rfl|⟨k,hk,hx⟩
   .exact dj.2 (.inl rfl)
   .exact dj.2 (.inr ⟨k,List.mem_of_mem_take hk,hx⟩)
  .intro x hx
   rcases dj.1 hx with rfl|⟨k,hk,hx⟩
   .exact .inl rfl
   .exact .inr (dj.2 (.inr ⟨k,w_4 hk,hx⟩))
set_option maxRecDepth 100000
section
variable {H:Hp} {i:Nat} {es es':List Entry} {is is':List (Option Nat)}
def Jc(is:List (Option Nat)):aD:=.cells [.undef,.own 1 (List.map cP.enc is)]
def KW(es:List Entry):aD:=.cells [.own 3 (List.map ab es),.undef]
def gr(h:H[i]? =some (cz es is)):cw 3 ay H i 0=some (es,H.set i (Jc is)):=mh h rfl
def nr(h:H[i]? =some (cz es is)):cw 1 cP H i 1=some (is,H.set i (KW es)):=mh h rfl
def gu(h:H[i]? =some (Jc is)):bT 3 ay H i 0 es=some (H.set i (cz es is)):=gy h ψ
def nu(h:H[i]? =some (KW es)):bT 1 cP H i 1 is=some (H.set i (cz es is)):=gy h ψ
def Fe(h:H[i]? =some (cz es is)):bT 3 ay H i 0 es'=some (H.set i (cz es' is)):=gy h ψ
def Fc(h:H[i]? =some (cz es is)):bT 1 cP H i 1 is'=some (H.set i (cz es is')):=gy h ψ
def cu(h:H[i]? =some (cz es is)):aW 3 ay H i 0=some es:=dB h rfl
def cr(h:H[i]? =some (cz es is)):aW 1 cP H i 1=some is:=dB h rfl
end
def zR{ks:List AT}{n:Nat}(h:n<ks.length): ∃C k D,ks=C++k::D/\C.length=n:=⟨ks.take n,ks[n],ks.drop (n+1),rH h,χ⟩
def eS(k:AT):Option Nat:=some k.ad
section
variable {s:ak} {order last cnt:Int} {root:Option Nat} {tr o:Nat}
structure PT(s:ak)(o l:Nat)(a a':AT)(H H':Hp):Prop where
 hd:a'.hd H' l
 bl:a'.bl (o / 2) o l
 ad:a'.ad=a.ad
 fr: ∀j,j<H.length->j∉a.ft l->H'[j]? =H[j]?
 le:H.length<=H'.length
 ft: ∀j∈a'.ft l,j∈a.ft l\/H.length<=j
def KK(hs:oa s=true)(ho:(o:Int)=order)(h3:3<=o)(h32:o<=32)(he:gE s e):
  ∀(l:Nat) (a:AT) (H:Hp),a.hd H l->a.bl (o / 2) o l->(a.ft l).Nodup->tr∉a.ft l->H[tr]? =some (gZ s order root last cnt)->a.es.length<=o->
   (∀x∈a.fl l,gE s x)->u6 s (a.fl l)->(∀x∈a.fl l,bO s x e≠0)->
   ∃a' H',Ev (λn=>iH n tr a.ad e H) ((),H')/\PT s o l a a' H H'/\a'.fl l=mf s e (a.fl l)/\a.es.length<=a'.es.length/\a'.es.length<=a.es.length+1:=by
 intro l
 induction l with
 |zero=>
  intro a H hh hb hn ht hT hl hg hsr hne
  obtain⟨i,es,ks⟩:=a
  obtain⟨rfl,hi⟩:=hh
  have hl:es.length<=o:=hl
  have hil:=(g_5.1 hi).1
  obtain⟨A,B,rfl,hA,hB⟩:=lu he hsr hg
  have hB': ∀x∈B,0<bO s x e:=λx hx=>by have:=hB x hx;have:=hne x (w_2 A hx);omega
  have hfl:AT.fl 0 (.nd i (A++B) [])=A++B:=rfl
  refine⟨.nd i (A++e::B) [],H.set i (cz (A++e::B) []),?_,⟨⟨rfl,g_0 hil⟩,trivial,rfl,λj hj hj2=>?_,ψ,λj hj=>.inl hj⟩,(sG hA hB').symm,?_,?_⟩
  .refine kJ (g:=λn=>fv n (iH n) tr i e H) (λn=>rfl) ?_
   unfold fv
   refine .bind (zw hs hT he hi hg hA hB ω)<|.bind (cT hi)<|.t rfl<|.ae (gr hi)<|.bind (.of λn=>xe n ω)<|.ae (gu (g_0 hil)) ?_
   rw[m_6]
   exact .pure _
  .have:i≠j:=λh=>hj2 (by simp[AT.ft,h])
   rw[g_1 this]
  .simp[AT.es]
  .simp[AT.es];omega
 |succ l ih=>
  intro a H hh hb hn ht hT hl hg hsr hne
  obtain⟨i,es,ks⟩:=a
  have hl:es.length<=o:=hl
  obtain⟨hk1,hi,hks⟩:=hh
  have hil:=(g_5.1 hi).1
  have hsub:es.Sublist (AT.fl (l+1) (.nd i es ks)):=Cb (by simp[hk1])
  have hges: ∀x∈es,gE s x:=λx hx=>hg x (hsub.subset hx)
  obtain⟨A,B,rfl,hA,hB⟩:=lu he (hsr.sublist hsub) hges
  have hB': ∀x∈B,0<bO s x e:=λx hx=>by grind
  have hkl:A.length<ks.length:=by rw[hk1];simp;omega
  obtain⟨C,k,D,rfl,hC⟩:=zR hkl
  have hDl:B.length=D.length:=by simp at hk1;omega
  have hfl:AT.fl (l+1) (.nd i (A++B) (C++k::D))=_:=iU hC.symm
  rw[hfl]at hg hsr hne ⊢
  have hkm:k∈C++k::D:=by simp
  obtain⟨d1,d2,d3⟩:=rD hn
  have hkft: ∀j∈k.ft l,j∈AT.ft (l+1) (.nd i (A++B) (C++k::D)):=λj hj=>dj.2 (.inr ⟨k,hkm,hj⟩)
  have sp:=hsr
  unfold u6 at sp
  rw[j_9,j_9]at sp
  have hP:=yf he (by simp[hC]) sp.1 (λx hx=>hg x (List.mem_append_left _ hx)) hA
  have hS:=ye he (by simp[hDl]) sp.2.1.2.1 (λx hx=>hg x (w_2 _ (w_2 _ hx))) hB'
  have hkb:=hb k hkm
  obtain⟨k',H1,E1,P1,F1,S1,S2⟩:=ih k H (hks k hkm) hkb.2.2 d2 (λh=>ht (hkft _ h)) hT hkb.2.1 (λx hx=>hg x (by simp[hx])) sp.2.1.1 (λx hx=>hne x (by simp[hx]))
  have hins:mf s e (wp A (C.map (AT.fl l))++(k.fl l++ws B (D.map (AT.fl l))))=wp A (C.map (AT.fl l))++(k'.fl l++ws B (D.map (AT.fl l))):=by rw[F1];exact D6 hP hS
  have hi1:H1[i]? =some (cz (A++B) ((C++k::D).map eS)):=by rw[P1.fr i hil d1];exact hi
  have hT1:H1[tr]? =some (gZ s order root last cnt):=by rw[P1.fr tr (g_5.1 hT).1 λh=>ht (hkft _ h)];exact hT
  have hoth: ∀q∈C++D,q.hd H1 l:=λq hq=>by
   have hq':q∈C++k::D:=by simp at hq ⊢;grind
   refine(hks q hq').fr λj hj=>P1.fr j ((hks q hq').lt j hj) ((d3 q hq).2 j hj)
  have hself:=P1.hd.self
  have oh: ∀x∈k'.ft l,x∈AT.ft (l+1) (.nd i (A++B) (C++k::D))\/H.length<=x:=λx hx=>(P1.ft x hx).imp (hkft x) id
  have hal:(A++B).length<=o:=hl
  have pre: ∀{r},Ev (λn=>(aW 3 ay H1 k.ad 0).bind λx11=>(aR (cI .i64).cell H1 tr 3).bind λx12=>
    bif (decide ((x11.length:Int)>x12))then
     (lr n k.ad H1).bind λr13=>(cw 3 ay r13.2 i 0).bind λq14=>(dF n q14.1 (A.length:Int) [r13.1.1]).bind λr16=>(bT 3 ay q14.2 i 0 r16).bind λH17=>
     (cw 1 cP H17 i 1).bind λq18=>r13.1.2.bind λi19=>(bV n q18.1 (IntKind.wrap .i64 ((A.length:Int)+1)) [(some i19)]).bind λr20=>(bT 1 cP q18.2 i 1 r20).bind λH21=>some ((),H21)
    else some ((),H1)) r->Ev (λn=>iH n tr i e H) r:=by
   intro r hE
   refine kJ (g:=λn=>fv n (iH n) tr i e H) (λn=>rfl) ?_
   unfold fv
   have hidx:idx ((C++k::D).map λk=>some k.ad) (A.length:Int)=some (some k.ad):=dv (by rw[<-hC];simp)
   refine .bind (zw hs hT he hi hges hA hB ω)<|.bind (cT hi)<|.f ψ<|.ae (cr hi)<|.ae hidx<|.ae rfl<|.bind E1 hE
  rw[<-P1.ad]at pre
  by_cases hsz:k'.es.length<=o
  .refine⟨.nd i (A++B) (C++k'::D),H1,pre (.ae (cu hself)<|.ae (qW hT1)<|.f χ (.pure _)),⟨⟨?_,?_,λq hq=>?_⟩,λq hq=>?_,rfl,λj hj hj2=>?_,P1.le,λj hj=>?_⟩,?_,?_,?_⟩
   .simpa using hk1
   .show H1[i]? =some (cz (A++B) ((C++k'::D).map eS))
    rw[hi1]
    simp only[k_1,h_3]
    rw[show eS k'=eS k from congrArg some P1.ad]
   .rcases(show q∈C++D\/q=k' by simp at hq ⊢;grind)with hq|rfl
    .exact hoth q hq
    .exact P1.hd
   .rcases(show q∈C++D\/q=k' by simp at hq ⊢;grind)with hq|rfl
    .exact hb q (by simp at hq ⊢;grind)
    .exact⟨ω,hsz,P1.bl⟩
   .exact P1.fr j hj λh=>hj2 (hkft j h)
   .rcases dj.1 hj with rfl|⟨q,hq,hjq⟩
    .exact .inl (dj.2 (.inl rfl))
    .rcases(show q∈C++D\/q=k' by simp at hq ⊢;grind)with hq|hq
     .exact .inl (dj.2 (.inr ⟨q,by simp at hq ⊢;grind,hjq⟩))
     .exact oh j (hq▸hjq)
   .rw[hins];exact iU hC.symm
   .exact g_9 _
   .exact Nat.le_succ _
  .
   have hlen:k'.es.length=o+1:=by omega
   obtain⟨j,es',ks'⟩:=k'
   have hlen:es'.length=o+1:=hlen
   have hj:j=k.ad:=P1.ad
   have hmid:(o+1) / 2<es'.length:=by omega
   obtain⟨L,up,R,rfl,hL⟩: ∃L up R,es'=L++up::R/\L.length=(o+1) / 2:=⟨es'.take ((o+1) / 2),es'[(o+1) / 2],es'.drop ((o+1) / 2+1),rH hmid,χ⟩
   have hRl:R.length=o - (o+1) / 2:=by simp at hlen;omega
   have hgk: ∀x∈k.fl l,gE s x:=λx hx=>hg x (by simp[hx])
   have hk'n:(AT.ft l (.nd j (L++up::R) ks')).Nodup:=by
    refine AT.nodup (m:=o / 2) (o:=o) ω P1.hd P1.bl ?_
    have hp:=tZ he sp.2.1.1 hgk (λx hx=>hne x (by simp[hx]))
    rw[F1,hp.nodup_iff,List.nodup_cons]
    refine⟨λh=>hne e (by simp[h]) (gM e),?_⟩
    refine List.Pairwise.imp (λ{x y} hxy e=>?_) sp.2.1.1
    subst e
    have:=pU hxy
    rw[gM]at this
    omega
   have X:=AE P1.hd hk'n P1.bl
   have hself:H1[j]? =some (cz (L++up::R) (ks'.map λk=>some k.ad)):=P1.hd.self
   have Y:Ev (λf=>lr f j H1) ((up,some H1.length),H1.set j (cz L ((ks'.map λk=>some k.ad).take (L.length+1)))++[cz R ((ks'.map λk=>some k.ad).drop (L.length+1))]):=AF hself φ P1.hd.kl (show(L++up::R).length<900 by omega)
   generalize hH2:H1.set j (cz L ((ks'.map λk=>some k.ad).take (L.length+1)))++[cz R ((ks'.map λk=>some k.ad).drop (L.length+1))]=H2 at X Y
   obtain⟨x1,x2,x3,x4,x5,x6,x7⟩:=X
   have hl2:H2.length=H1.length+1:=by rw[<-hH2];simp
   have hij:i≠j:=λh=>d1 (by rw[h,hj];exact AT.ln)
   have hil1:=(g_5.1 hi1).1
   have get2: ∀x,x<H1.length->x≠j->H2[x]? =H1[x]? :=λx hx hxj=>by
    grind
   have hi2:H2[i]? =some (cz (A++B) ((C++k::D).map eS)):=by rw[get2 i hil1 hij];exact hi1
   have hil2:=(g_5.1 hi2).1
   let ks2:=C++AT.nd j L (ks'.take (L.length+1))::AT.nd H1.length R (ks'.drop (L.length+1))::D
   let H3:=H2.set i (cz (A++up::B) (ks2.map eS))
   have hmem: ∀q,q∈ks2<->q∈C++D\/q=AT.nd j L (ks'.take (L.length+1))\/q=AT.nd H1.length R (ks'.drop (L.length+1)):=λq=>by simp[ks2];grind
   have hno: ∀q∈ks2,i∉q.ft l:=λq hq h=>by
    rcases(hmem q).1 hq with hq|rfl|rfl
    .exact(d3 q hq).1 h
    .rcases P1.ft i (x6 i h)with h|h
     .exact d1 h
     .omega
    .rcases x7 i h with h|h
     .omega
     .rcases P1.ft i h with h|h
      .exact d1 h
      .omega
   have hd3: ∀q∈ks2,q.hd H3 l:=λq hq=>by
    have h2:q.hd H2 l:=by
     rcases(hmem q).1 hq with hq|rfl|rfl
     .refine(hoth q hq).fr λx hx=>get2 x ((hoth q hq).lt x hx) λe2=>(d3 q hq).2 x hx ?_
      rw[e2,hj];exact AT.ln
     .exact x1
     .exact x2
    exact h2.fr λx hx=>g_1 λe2=>hno q hq (by rw[e2];exact hx)
   refine⟨.nd i (A++up::B) ks2,H3,pre (.ae (cu hself)<|.ae (qW hT1)<|.t (by simp at hlen ⊢;omega)<|.bind Y<|.ae (gr hi2)<|.bind (.of λn=>xe n ω)<|
    .ae (gu (g_0 hil2))<|.ae (nr (g_0 (by simpa using hil2)))<|.ae rfl ?_),
    ⟨⟨by simp[ks2]at hk1 ⊢;omega,g_0 hil2,hd3⟩,λq hq=>?_,rfl,λx hx hx2=>?_,by simp[H3];have:=P1.le;omega,λx hx=>?_⟩,?_,by simp[AT.es],by simp[AT.es];omega⟩
   .have hins2: ∀n,bV n ((C++k::D).map eS) (IntKind.wrap .i64 ((A.length:Int)+1)) [some H1.length]=some (ks2.map eS):=λn=>by
     have hA1:=cZ (k:=A.length) (by simp at hal;omega)
     rw[hA1]
     have:=Bp (A:=C.map eS++[some j]) (B:=D.map eS) (e:=some H1.length) n (by simp at hk1 hal ⊢;omega)
     simp only[j_3,m_5,m_3,h_5,k_6,j_1,v_2,q_1,hC]at this
     rw[hj]at this
     simp only[k_1,h_3,ks2]
     rw[hj]
     exact this
    refine .bind (.of hins2)<|.ae (nu (g_0 (by simpa using hil2))) ?_
    simp only[m_6]
    exact .pure _
   .rcases(hmem q).1 hq with hq|rfl|rfl
    .exact hb q (by simp at hq ⊢;grind)
    .exact⟨by simp[AT.es];omega,by simp[AT.es];omega,x3⟩
    .exact⟨by simp[AT.es];omega,by simp[AT.es];omega,x4⟩
   .have hxi:i≠x:=λh=>hx2 (dj.2 (.inl h.symm))
    have hxk:x∉k.ft l:=λh=>hx2 (hkft x h)
    show(H2.set i _)[x]? =_
    rw[g_1 hxi,get2 x (by have:=P1.le;omega) (λh=>hxk (by rw[h,hj];exact AT.ln)),P1.fr x hx hxk]
   .rcases dj.1 hx with rfl|⟨q,hq,hx⟩
    .exact .inl (dj.2 (.inl rfl))
    .rcases(hmem q).1 hq with hq|rfl|rfl
     .exact .inl (dj.2 (.inr ⟨q,by simp at hq ⊢;grind,hx⟩))
     .exact oh x (x6 x hx)
     .rcases x7 x hx with h|h
      .right;have:=P1.le;omega
      .exact oh x h
   .rw[hins,x5]
    have:=iU (l:=l) (i:=i) (A:=A) (B:=up::B) (C:=C) (k:=AT.nd j L (ks'.take (L.length+1))) (D:=AT.nd H1.length R (ks'.drop (L.length+1))::D) hC.symm
    rw[show AT.fl (l+1) (.nd i (A++up::B) ks2)=_ from this]
    simp[ws]
end
set_option maxRecDepth 100000
structure s9(H0 H:Hp)(i j k:Nat)(a b c:aD):Prop where
 ai:H[i]? =some a
 bj:H[j]? =some b
 ck:H[k]? =some c
 ij:i≠j
 ik:i≠k
 jk:j≠k
 fr: ∀x,x≠i->x≠j->x≠k->H[x]? =H0[x]?
 len:H.length=H0.length
section
variable {H0 H:Hp} {i j k:Nat} {a b c:aD}
def s9.s1(T:s9 H0 H i j k a b c)(a':aD):s9 H0 (H.set i a') i j k a' b c:=
 ⟨g_0 (g_5.1 T.ai).1,by rw[g_1 T.ij];exact T.bj,by rw[g_1 T.ik];exact T.ck,T.ij,T.ik,T.jk,λx h1 h2 h3=>by rw[g_1 (j_4 h1)];exact T.fr x h1 h2 h3,by rw[q_8];exact T.len⟩
def s9.s2(T:s9 H0 H i j k a b c)(b':aD):s9 H0 (H.set j b') i j k a b' c:=
 ⟨by rw[g_1 (j_4 T.ij)];exact T.ai,g_0 (g_5.1 T.bj).1,by rw[g_1 T.jk];exact T.ck,T.ij,T.ik,T.jk,λx h1 h2 h3=>by rw[g_1 (j_4 h2)];exact T.fr x h1 h2 h3,by rw[q_8];exact T.len⟩
def s9.s3(T:s9 H0 H i j k a b c)(c':aD):s9 H0 (H.set k c') i j k a b c':=
 ⟨by rw[g_1 (j_4 T.ik)];exact T.ai,by rw[g_1 (j_4 T.jk)];exact T.bj,g_0 (g_5.1 T.ck).1,T.ij,T.ik,T.jk,λx h1 h2 h3=>by rw[g_1 (j_4 h3)];exact T.fr x h1 h2 h3,by rw[q_8];exact T.len⟩
end
def iM(l:Nat)(es:List Entry)(ks:List AT):Prop:=if l=0 then ks=[]else ks.length=es.length+1
def AT.hd.iM{H:Hp}{l i:Nat}{es:List Entry}{ks:List AT}(h:AT.hd H l (.nd i es ks)):iM l es ks:=by
 cases l with
 |zero=>exact h.1
 |succ l=>exact h.1
def Hh{H:Hp}{i:Nat}(hs:iM l es ks)(hi:H[i]? =some (cz es (ks.map eS)))(hk: ∀k∈ks,k.hd H (l - 1)):AT.hd H l (.nd i es ks):=by
 cases l with
 |zero=>cases hs;exact⟨rfl,hi⟩
 |succ l=>exact⟨hs,hi,hk⟩
def AT.hd.kids{H:Hp}{l i:Nat}{es:List Entry}{ks:List AT}(h:AT.hd H l (.nd i es ks)): ∀k∈ks,k.hd H (l - 1):=by
 cases l with
 |zero=>obtain⟨rfl,_⟩:=h;simp
 |succ l=>exact h.2.2
def AT.hd.obj{H:Hp}{l i:Nat}{es:List Entry}{ks:List AT}(h:AT.hd H l (.nd i es ks)):H[i]? =some (cz es (ks.map eS)):=h.self
def Jm(m o l:Nat)(k:AT):Prop:=m<=k.es.length/\k.es.length<=o/\k.bl m o l
def pT{i:Nat}(hs:iM l es ks):AT.bl m o l (.nd i es ks)<-> ∀k∈ks,Jm m o (l - 1) k:=by
 cases l with
 |zero=>cases hs;simp[AT.bl]
 |succ l=>rfl
def qn{i j k:Nat}(h1:iM l E1 Ka)(h2:iM l E2 Kb):AT.fl l (.nd i (E1++x::E2) (Ka++Kb))=AT.fl l (.nd j E1 Ka)++x::AT.fl l (.nd k E2 Kb):=by
 cases l with
 |zero=>rfl
 |succ l=>
  have h1:Ka.length=E1.length+1:=h1
  have h2:Kb.length=E2.length+1:=h2
  obtain⟨C,q,D,rfl,hC⟩:=zR (ks:=Ka) (n:=E1.length) ω
  have hD:D=[]:=by simp_all
  subst hD
  match Kb,h2 with
  |k2::D2,h2=>
   have e1:=iU (l:=l) (i:=i) (A:=E1) (B:=x::E2) (C:=C) (k:=q) (D:=k2::D2) hC.symm
   have e2:=iU (l:=l) (i:=j) (A:=E1) (B:=[]) (C:=C) (k:=q) (D:=[]) hC.symm
   rw[p_6]at e2
   simp only[j_3,m_5,m_3]
   rw[e1,e2]
   simp[ws,AT.fl,wv]
def rW(h1:iM l E1 Ka)(h2:iM l E2 Kb):iM l (E1++x::E2) (Ka++Kb):=by
 unfold iM at *
 grind
def Gn(h:iM l (E++[y]) K): ∃Ka Kb,K=Ka++Kb/\iM l E Ka/\iM l [] Kb:=by
 unfold iM at *
 split at h
 .simp_all
 .rename_i h0
  refine⟨K.take (E.length+1),K.drop (E.length+1),(p_7 _ _).symm,?_,?_⟩<;>(grind)
def EX(h:iM l (y::E) K): ∃Ka Kb,K=Ka++Kb/\iM l [] Ka/\iM l E Kb:=by
 unfold iM at *
 split at h
 .simp_all
 .rename_i h0
  refine⟨K.take 1,K.drop 1,(p_7 _ _).symm,?_,?_⟩<;>(grind)
def JD(hl:zss.length<1000)(h:zss.flatten.length<1000):Ev (λf=>Db f zss) zss.flatten:=by
 have tk: ∀i,(hi:i<zss.length)->(zss.take (i+1)).flatten=(zss.take i).flatten++zss[i]:=λi hi=>by rw[<-q_7 hi,List.flatten_append];simp
 have le: ∀i,(zss.take i).flatten.length<=zss.flatten.length:=λi=>by
  conv=>rhs;rw[<-p_7 i zss,List.flatten_append]
  simp
 have L1: ∀(d i:Nat),i+d=zss.length->gT (λ_=>xx zss) (((zss.take i).flatten.length:Int),(i:Int)) (zss.flatten.length:Int):=by
  intro d
  induction d with
  |zero=>
   intro i hi
   refine .stop ?_
   unfold xx
   refine .f (mn ω) ?_
   rw[m_7 ω]
   exact .pure _
  |succ d ih=>
   intro i hi
   have hi1:i<zss.length:=by omega
   have e:=tk i hi1
   have l1:=le (i+1)
   rw[e,h_5]at l1
   refine .next ?_ (ih (i+1) ω)
   unfold xx
   refine .t (eO hi1)<|.ae (aw hi1) ?_
   rw[cC (x:=((zss.take i).flatten.length:Int)+(zss[i].length:Int)) ω ω,cZ ω,e,h_5]
   exact .f χ (.pure _)
 have L2: ∀(d i:Nat),i+d=zss.length->gT (λ_=>uU zss) ((zss.take i).flatten,(i:Int)) zss.flatten:=by
  intro d
  induction d with
  |zero=>
   intro i hi
   refine .stop ?_
   unfold uU
   refine .f (mn ω) ?_
   rw[m_7 ω]
   exact .pure _
  |succ d ih=>
   intro i hi
   have hi1:i<zss.length:=by omega
   have e:=tk i hi1
   have l1:=le (i+1)
   rw[e]at l1
   refine .next ?_ (ih (i+1) ω)
   unfold uU
   refine .t (eO hi1)<|.ae (aw hi1)<|.dx (decide_eq_true (show _<=16777216 by dsimp only;omega)) ?_
   rw[cZ ω,e]
   exact .pure _
 have G:HL (zss.flatten.length:Int)=some []:=by
  unfold HL
  rw[show decide ((zss.flatten.length:Int)<0)=false from decide_eq_false ω,cond_false,Int.sub_zero,cC ω ω]
  cases hz:decide ((zss.flatten.length:Int)>0)with
  |false=>rfl
  |true=>
   rw[cond_true,pO]
   rw[g_3]
   exact⟨rfl,decide_eq_true (show _<=((16777216:Nat):Int)by omega)⟩
 unfold Db
 exact .bind (L1 _ 0 (q_1 _)).ev<|.ae G<|.bind (L2 _ 0 (q_1 _)).ev (.pure _)
def Ew{α:Type}{yss:List (List α)}(hl:yss.length<1000)(h:yss.flatten.length<1000):Ev (λf=>xW f yss) yss.flatten:=by
 unfold xW
 exact .bind (JD (by simpa using hl) φ) (.pure _)
end Go.Sh
