/- Plain laws: what the functions tell. -/
import Derived.Test.YtmhiemakdfkmeaaGreatW1
set_option linter.all false
set_option autoImplicit true
set_option relaxedAutoImplicit true
namespace Go.Sh
set_option maxRecDepth 100000
section
variable {s:az} {order last cnt:Int} {root:Option Nat} {tr o:Nat} {H:Hp}
def tQ(h:H[tr]? =some (ki s order root last cnt))(ho:(o:Int)=order)(h32:o<=32):Ev (λf=>dC f tr H) ((o / 2:Nat):Int):=by
 unfold dC
 refine .ae (uU h) ?_
 rw[<-ho,show Int.tdiv (o:Int) 2=((o / 2:Nat):Int)by grind,eo ω ω]
 exact .pure _
def AW{β:Type}{b:Nat->Bool->Option β}{r:β}{c:Bool}{i n:Nat}{is:List (Option Nat)}{es:List Entry}(hT:H[tr]? =some (ki s order root last cnt))(ho:(o:Int)=order)(h32:o<=32)
  (hi:H[i]? =some (dT es is)) (hn:n<1000) (hc:(n=0/\c=false)\/ ∃n' j E K,n=n'+1/\is[n']? =some (some j)/\H[j]? =some (dT E K)/\c=decide (o / 2<E.length)) (h:Ev (λf=>b f c) r):
  Ev (λfuel=>bz (b fuel) λjp4=>bif (decide ((n:Int)>0))then
   (bL 1 cP H i 1).bind λx5=>(idx x5 (IntKind.wrap .i64 ((n:Int) - 1))).bind λx6=>x6.bind λi7=>(bL 3 aP H i7 0).bind λx8=>(dC fuel tr H).bind λr9=>jp4 (decide ((x8.length:Int)>r9))
   else jp4 false) r:=by
 refine .bz ?_
 rcases hc with⟨rfl,rfl⟩|⟨n',j,E,K,rfl,h1,h2,rfl⟩
 .exact .f rfl h
 .refine .t ψ<|.ae (dK hi) ?_
  rw[eo ω ω,show((n'+1:Nat):Int) - 1=(n':Int)by omega]
  refine .ae (fe h1)<|.ae rfl<|.ae (dL h2)<|.bind (tQ hT ho h32) ?_
  have:decide ((E.length:Int)>((o / 2:Nat):Int))=decide (o / 2<E.length):=decide_eq_decide.2 ω
  rw[this]
  exact h
def Gl{β:Type}{b:Nat->Bool->Option β}{r:β}(hT:H[tr]? =some (ki s order root last cnt))(ho:(o:Int)=order)(h32:o<=32)
  (hi:H[i]? =some (dT es is)) (hn:n<1000) (hc:(is.length=n+1/\c=false)\/ ∃j E K,n+1<is.length/\is[n+1]? =some (some j)/\H[j]? =some (dT E K)/\c=decide (o / 2<E.length)) (h:Ev (λf=>b f c) r):
  Ev (λfuel=>bz (b fuel) λjp50=>(bL 1 cP H i 1).bind λx51=>bif (decide ((IntKind.wrap .i64 ((n:Int)+1))<(x51.length:Int)))then
    (bL 1 cP H i 1).bind λx52=>(idx x52 (IntKind.wrap .i64 ((n:Int)+1))).bind λx53=>x53.bind λi54=>(bL 3 aP H i54 0).bind λx55=>(dC fuel tr H).bind λr56=>jp50 (decide ((x55.length:Int)>r56))
   else jp50 false) r:=by
 rw[eC ω]
 refine .bz<|.ae (dK hi) ?_
 rcases hc with⟨h1,rfl⟩|⟨j,E,K,h0,h1,h2,rfl⟩
 .exact .f (oY ω) h
 .refine .t (gu h0)<|.ae (dK hi)<|.ae (fe h1)<|.ae rfl<|.ae (dL h2)<|.bind (tQ hT ho h32) ?_
  have:decide ((E.length:Int)>((o / 2:Nat):Int))=decide (o / 2<E.length):=decide_eq_decide.2 ω
  rw[this]
  exact h
def NY{i j k:Nat}{A B L E:List Entry}{x y:Entry}{is KL Q K:List (Option Nat)}(hT:H[tr]? =some (ki s order root last cnt))(ho:(o:Int)=order)(h32:o<=32)(T:z0 H H i j k (dT (A++x::B) is) (dT (L++[y]) (KL++Q)) (dT E K))
  (hj:is[A.length]? =some (some j)) (hk:is[A.length+1]? =some (some k)) (hs:(Q=[]/\KL=[]/\K=[])\/ ∃q,Q=[some q]/\K≠[]/\KL.length=L.length+1) (hm:o / 2<(L++[y]).length)
  (b1:(A++x::B).length<900) (b2:L.length<900) (b3:E.length<900) (b4:K.length<900):
  ∃H',Ev (λf=>eX f tr i ((A.length+1:Nat):Int) H) ((),H')/\z0 H H' i j k (dT (A++y::B) is) (dT L KL) (dT (x::E) (Q++K)):=by
 have hA:A.length<(A++x::B).length:=by simp
 have hx:(A++x::B)[A.length]=x:=by simp
 have w1:IntKind.wrap .i64 (((A.length+1:Nat):Int) - 1)=(A.length:Int):=by rw[eo ω ω];omega
 have w2:IntKind.wrap .i64 (((L++[y]).length:Int) - 1)=(L.length:Int):=by rw[eo (by simp<;>omega) (by simp<;>omega)];simp
 have iA:idx (A++x::B) (A.length:Int)=some x:=by rw[aH hA,hx]
 have iL:idx (L++[y]) (L.length:Int)=some y:=by rw[aH ψ];simp
 have i0: ∀f,fC f E 0 [x]=some (x::E):=λf=>Bu (A:=[]) f χ
 have p0: ∀f,∀q,dq f K 0 [q]=some (q::K):=λf q=>GM (A:=[]) f χ
 have st:(A++x::B).set (A.length:Int).toNat y=A++y::B:=by simp
 have tl:(L++[y]).take (L.length:Int).toNat=L:=by simp
 have T1:=T.s3 (Qq K)
 have T2:=T1.s3 (dT (x::E) K)
 have T3:=T2.s1 (Qq is)
 have T4:=T3.s1 (dT (A++y::B) is)
 have T5:=T4.s2 (Qq (KL++Q))
 have T6:=T5.s2 (dT L (KL++Q))
 have g2:=(congrArg (dh 3 aP _ i 0) st).trans (jC T3.ai)
 have g3:=(congrArg (dh 3 aP _ j 0) tl).trans (jC T5.bj)
 refine Exists.imp (p:=λH'=>Ev ?F ((),H')/\z0 H H' i j k (dT (A++y::B) is) (dT L KL) (dT (x::E) (Q++K))) (λH' h=>⟨?_,h.2⟩) ?_
 case refine_1=>
  unfold eX
  refine .ae (dK T.ai)<|.ae (fe hk)<|AW (c:=true) hT ho h32 T.ai (by simp at b1;omega) (.inr ⟨_,_,_,_,rfl,hj,T.bj,by simpa using hm⟩)<|.t rfl<|.ae (dK T.ai) ?_
  simp only[w1]
  refine .ae (fe hj)<|.ae rfl<|.ae (dL T.bj) ?_
  simp only[w2]
  refine .ae rfl<|.ae (jB T.ck)<|.ae (dL T.ai)<|.ae iA<|.bind (.of i0)<|.ae rfl<|.ae (jC T1.ck)<|.ae rfl<|.ae (jB T2.ai)<|.ae (dL T2.bj)<|.ae iL<|.ae iA<|
   .ff ψ<|.ae g2<|.ae rfl<|.ae (jB T4.bj)<|.ff (oh ψ)<|.ae rfl<|.ae g3<|.bz<|.ae rfl ?_
  exact h.1
 rcases hs with⟨rfl,rfl,rfl⟩|⟨q,rfl,hK,hKL⟩
 .exact⟨_,.bind (ew T6.ck)<|.f rfl (.pure _),T6⟩
 .have T7:=T6.s3 (Sl (x::E))
  have T8:=T7.s3 (dT (x::E) (some q::K))
  have T9:=T8.s2 (Sl L)
  have T10:=T9.s2 (dT L KL)
  have w3:IntKind.wrap .i64 ((L.length:Int)+1)=((L.length+1:Nat):Int):=eC ω
  have iq:idx (KL++[some q]) ((L.length+1:Nat):Int)=some (some q):=fe (by rw[<-hKL];simp)
  have g4:=(congrArg (dh 1 cP _ j 1) (show(KL++[some q]).take ((L.length+1:Nat):Int).toNat=KL by simp_all)).trans (qk T9.bj)
  refine⟨_,.bind (ew T6.ck)<|.t (by simp[hK])<|.ae rfl<|.ae (qj T6.ck)<|.ae (dK T6.bj) ?_,T10⟩
  simp only[w3]
  exact .ae iq<|.ae rfl<|.bind (.of λn=>p0 n _)<|.ae (qk T7.ck)<|.ae rfl<|.ae (qj T8.bj)<|.ff (oh (show _<=(KL++[some q]).length by simp;omega))<|.ae rfl<|.ae g4 (.pure _)
def NW{i j k n:Nat}{A B R E:List Entry}{x y:Entry}{is KR Q K:List (Option Nat)}(hT:H[tr]? =some (ki s order root last cnt))(ho:(o:Int)=order)(h32:o<=32)(T:z0 H H i j k (dT (A++x::B) is) (dT E K) (dT (y::R) (Q++KR)))
  (hn:n=A.length) (hj:is[n]? =some (some j)) (hk:is[n+1]? =some (some k)) (hs:(Q=[]/\KR=[]/\K=[])\/ ∃q,Q=[some q]/\K≠[]) (hm:o / 2<(y::R).length)
  (hc:(n=0/\false=false)\/ ∃n' j E K,n=n'+1/\is[n']? =some (some j)/\H[j]? =some (dT E K)/\false=decide (o / 2<E.length))
  (b1:(A++x::B).length<900) (b2:(y::R).length<900) (b3:E.length<900) (b4:K.length<900) (b5:KR.length<900):
  ∃H',Ev (λf=>eX f tr i (n:Int) H) ((),H')/\z0 H H' i j k (dT (A++y::B) is) (dT (E++[x]) (K++Q)) (dT R KR):=by
 have hA:n<(A++x::B).length:=by simp[hn]
 have hx:(A++x::B)[n]=x:=by simp[hn]
 have iA:idx (A++x::B) (n:Int)=some x:=by rw[aH hA,hx]
 have iR:idx (y::R) 0=some y:=rfl
 have d0: ∀f,fD f (y::R) 0 1=some R:=λf=>BH (A:=[]) f (by simp at b2 ⊢;omega)
 have w1:IntKind.wrap .i64 ((n:Int)+1)=((n+1:Nat):Int):=eC ω
 have st:(A++x::B).set (n:Int).toNat y=A++y::B:=by simp[hn]
 have T1:=T.s2 (Qq K)
 have T2:=T1.s2 (dT (E++[x]) K)
 have T3:=T2.s1 (Qq is)
 have T4:=T3.s1 (dT (A++y::B) is)
 have T5:=T4.s3 (Qq (Q++KR))
 have T6:=T5.s3 (dT R (Q++KR))
 have g2:=(congrArg (dh 3 aP _ i 0) st).trans (jC T3.ai)
 have hlk:n+1<is.length:=(g_5.1 hk).1
 refine Exists.imp (p:=λH'=>Ev ?F ((),H')/\z0 H H' i j k (dT (A++y::B) is) (dT (E++[x]) (K++Q)) (dT R KR)) (λH' h=>⟨?_,h.2⟩) ?_
 case refine_1=>
  unfold eX
  refine .ae (dK T.ai)<|.ae (fe hj)<|AW (c:=false) hT ho h32 T.ai ω hc<|.f rfl<|
   Gl (c:=true) hT ho h32 T.ai ω (.inr ⟨_,_,_,hlk,hk,T.ck,by simpa using hm⟩)<|.t rfl<|.ae (dK T.ai) ?_
  simp only[w1]
  refine .ae (fe hk)<|.ae rfl<|.ae (jB T.bj)<|.ae (dL T.ai)<|.ae iA<|.ff (decide_eq_true (show _<=16777216 by simp;omega))<|.ae rfl<|.ae (jC T1.bj)<|.ae rfl<|.ae (jB T2.ai)<|
   .ae (dL T2.ck)<|.ae iR<|.ae iA<|.ff (by simpa using hA)<|.ae g2<|.ae rfl<|.ae (jB T4.ck)<|.bind (.of d0)<|.ae rfl<|.ae (jC T5.ck)<|.bz<|.ae rfl ?_
  exact h.1
 rcases hs with⟨rfl,rfl,rfl⟩|⟨q,rfl,hK⟩
 .exact⟨_,.bind (ew T6.bj)<|.f rfl (.pure _),T6⟩
 .have T7:=T6.s2 (Sl (E++[x]))
  have T8:=T7.s2 (dT (E++[x]) (K++[some q]))
  have T9:=T8.s3 (Sl R)
  have T10:=T9.s3 (dT R KR)
  have d1: ∀f,dI f ([some q]++KR) 0 1=some KR:=λf=>He (A:=[]) f χ
  exact⟨_,.bind (ew T6.bj)<|.t (by simp[hK])<|.ae rfl<|.ae (qj T6.bj)<|.ae (dK T6.ck)<|.ae (show idx ([some q]++KR) 0=some (some q)from rfl)<|.ae rfl<|.ff (decide_eq_true (show _<=16777216 by simp;omega))<|
   .ae (qk T7.bj)<|.ae rfl<|.ae (qj T8.ck)<|.bind (.of d1)<|.ae rfl<|.ae (qk T9.ck) (.pure _),T10⟩
def Gt{i j k n:Nat}{A B E1 E2:List Entry}{x:Entry}{C D K1 K2:List (Option Nat)}(hT:H[tr]? =some (ki s order root last cnt))(ho:(o:Int)=order)(h32:o<=32)
  (T:z0 H H i j k (dT (A++x::B) (C++some j::some k::D)) (dT E1 K1) (dT E2 K2)) (hC:C.length=A.length) (hn:n=A.length+1\/(n=0/\A=[]))
  (hq: ∃q,(C++some j::some k::D)[n]? =some (some q))
  (hc:(n=0/\false=false)\/ ∃n' j' E K,n=n'+1/\(C++some j::some k::D)[n']? =some (some j')/\H[j']? =some (dT E K)/\false=decide (o / 2<E.length))
  (hd:((C++some j::some k::D).length=n+1/\false=false)\/ ∃j' E K,n+1<(C++some j::some k::D).length/\(C++some j::some k::D)[n+1]? =some (some j')/\H[j']? =some (dT E K)/\false=decide (o / 2<E.length))
  (b1:(A++x::B).length<900) (b2:(E1++x::E2).length<900) (b3:(K1++K2).length<900) (b4:(C++some j::some k::D).length<900):
  ∃H',Ev (λf=>eX f tr i (n:Int) H) ((),H')/\z0 H H' i j k (dT (A++B) (C++some j::D)) (dT (E1++x::E2) (K1++K2)) (dT E2 K2):=by
 obtain⟨q,hq⟩:=hq
 have T1:=T.s2 (dT (E1++x::E2) K1)
 have T2:=T1.s2 (dT (E1++x::E2) (K1++K2))
 have T3:=T2.s1 (Qq (C++some j::some k::D))
 have T4:=T3.s1 (dT (A++B) (C++some j::some k::D))
 have T5:=T4.s1 (Sl (A++B))
 have T6:=T5.s1 (dT (A++B) (C++some j::D))
 have hx:(bif decide (0<(IntKind.wrap .i64 ((n:Int) - 1)))then(IntKind.wrap .i64 ((n:Int) - 1))else 0)=(A.length:Int):=by
  simp only[h_9,j_4]at b1
  rw[eo ω ω]
  grind
 have w1:IntKind.wrap .i64 ((A.length:Int)+1)=((A.length+1:Nat):Int):=eC (by simp at b1;omega)
 have w2:IntKind.wrap .i64 ((A.length:Int)+2)=((A.length+1+1:Nat):Int):=by simp at b1;rw[eo ω ω];omega
 have sx:sl (A++x::B) (A.length:Int) ((A.length+1:Nat):Int)=[x]:=by
  show List.drop A.length (List.take (A.length+1) (A++x::B))=[x]
  grind
 have okx:mJ (A++x::B) (A.length:Int) ((A.length+1:Nat):Int)=true:=by simp[mJ];omega
 have ij:idx (C++some j::some k::D) (A.length:Int)=some (some j):=fe (by rw[<-hC];simp)
 have ik:idx (C++some j::some k::D) ((A.length+1:Nat):Int)=some (some k):=fe (by rw[<-hC];simp)
 have e1:[E1,[x],E2].flatten=E1++x::E2:=by simp
 have e2:[K1,K2].flatten=K1++K2:=by simp
 have c1:Ev (λf=>CB f [E1,[x],E2]) (E1++x::E2):=e1▸Lc ψ (by rw[e1];omega)
 have c2:Ev (λf=>CB f [K1,K2]) (K1++K2):=e2▸Lc ψ (by rw[e2];omega)
 have d2: ∀f,dI f (C++some j::some k::D) ((A.length+1:Nat):Int) ((A.length+1+1:Nat):Int)=some (C++some j::D):=λf=>by
  have:=He (A:=C++[some j]) (B:=D) (e:=some k) f (by simp at b4 ⊢;omega)
  simpa[hC]using this
 refine⟨_,?_,T6⟩
 unfold eX
 refine .ae (dK T.ai)<|.ae (fe hq)<|AW (c:=false) hT ho h32 T.ai φ hc<|.f rfl<|Gl (c:=false) hT ho h32 T.ai φ hd<|.f rfl ?_
 simp only[hx,w1,w2]
 refine .ae (dK T.ai)<|.ae ij<|.ae (dK T.ai)<|.ae ik<|.ae rfl<|.ae rfl<|.ae (dL T.bj)<|.ae (dL T.ai)<|.ff okx<|.ae (dL T.ck) ?_
 rw[sx]
 exact .bind c1<|.ae rfl<|.ae (LY T.bj)<|.ae rfl<|.ae rfl<|.ae (dK T1.bj)<|.ae (dK T1.ck)<|.bind c2<|.ae rfl<|.ae (LX T1.bj)<|.ae (jB T2.ai)<|.bind (.of λf=>BH f ω)<|
  .ae (jC T3.ai)<|.ae (qj T4.ai)<|.bind (.of d2)<|.ae (qk T5.ai) (.pure _)
end
set_option maxRecDepth 100000
def RB{l j:Nat}(hs:kT l E K)(hg:g∈K)(hx:x∈g.ft (l - 1)):x∈AT.ft l (.nd j E K):=by
 cases l with
 |zero=>cases hs;simp at hg
 |succ l=>exact eP.2 (.inr ⟨g,hg,hx⟩)
def Vq{l j:Nat}(hs:kT l E K)(hn:(AT.ft l (.nd j E K)).Nodup)(hg:g∈K):j∉g.ft (l - 1):=by
 cases l with
 |zero=>cases hs;simp at hg
 |succ l=>exact(KD hn g hg).1
def Ok{l j:Nat}(hx:x∈AT.ft l (.nd j E K)):x=j\/ ∃g∈K,x∈g.ft (l - 1):=by
 cases l with
 |zero=>left;simpa[AT.ft]using hx
 |succ l=>exact eP.1 hx
def z0.bg{H H':Hp}{i j k:Nat}{a b c:aN}(T:z0 H H' i j k a b c){l:Nat}{g:AT}(h:g.hd H l)(h1:i∉g.ft l)(h2:j∉g.ft l)(h3:k∉g.ft l):g.hd H' l:=
 h.fr λx hx=>T.fr x (λe=>h1 (e▸hx)) (λe=>h2 (e▸hx)) (λe=>h3 (e▸hx))
section
variable {l i j k:Nat} {es E1 E2:List Entry} {C D K1 K2:List AT} {H:Hp}
def Al(hn:(AT.ft (l+1) (.nd i es (C++.nd j E1 K1::.nd k E2 K2::D))).Nodup):i≠j/\i≠k/\j≠k/\(∀q∈C++D,i∉q.ft l/\j∉q.ft l/\k∉q.ft l)/\
  (AT.ft l (.nd j E1 K1)).Nodup/\(AT.ft l (.nd k E2 K2)).Nodup/\(∀x∈AT.ft l (.nd j E1 K1),x≠i/\x∉AT.ft l (.nd k E2 K2))/\(∀x∈AT.ft l (.nd k E2 K2),x≠i):=by
 have h1:=vn hn
 have h2:=vn (C:=C++[.nd j E1 K1]) (k:=.nd k E2 K2) (D:=D) (l:=l) (i:=i) (es:=es) (by simpa using hn)
 have a1:j∈AT.ft l (.nd j E1 K1):=eU
 have a2:k∈AT.ft l (.nd k E2 K2):=eU
 grind
def FP{H':Hp}{a b c:aN}(hh:AT.hd H (l+1) (.nd i es (C++.nd j E1 K1::.nd k E2 K2::D)))(hn:(AT.ft (l+1) (.nd i es (C++.nd j E1 K1::.nd k E2 K2::D))).Nodup)(T:z0 H H' i j k a b c):
  (∀q∈C++D,q.hd H' l)/\ ∀g∈K1++K2,g.hd H' (l - 1):=by
 obtain⟨_,_,_,n1,n2,n3,n4,n5⟩:=Al hn
 have h1:=hh.2.2 (.nd j E1 K1) ψ
 have h2:=hh.2.2 (.nd k E2 K2) ψ
 refine⟨λq hq=>T.bg (hh.2.2 q (by simp at hq ⊢;grind)) (n1 q hq).1 (n1 q hq).2.1 (n1 q hq).2.2,λg hg=>?_⟩
 rcases k_9.1 hg with hg|hg
 .exact T.bg (h1.kids g hg) (λhx=>(n4 _ (RB h1.kT hg hx)).1 rfl) (Vq h1.kT n2 hg) λhx=>(n4 _ (RB h1.kT hg hx)).2 eU
 .exact T.bg (h2.kids g hg) (λhx=>n5 _ (RB h2.kT hg hx) rfl) (λhx=>(n4 j eU).2 (RB h2.kT hg hx)) (Vq h2.kT n3 hg)
def qN(x:Nat):x∈AT.ft (l+1) (.nd i es (C++.nd j E1 K1::.nd k E2 K2::D))<->x=i\/(∃q∈C++D,x∈q.ft l)\/x∈AT.ft l (.nd j E1 K1)\/x∈AT.ft l (.nd k E2 K2):=by
 rw[eP]
 grind
def Nj(hh:AT.hd H (l+1) (.nd i es (C++.nd j E1 K1::.nd k E2 K2::D)))
  (hn:(AT.ft (l+1) (.nd i es (C++.nd j E1 K1::.nd k E2 K2::D))).Nodup)
  (T:z0 H H' i j k (dT es' ((C++.nd j E1' K1'::.nd k E2' K2'::D).map gN)) (dT E1' (K1'.map gN)) (dT E2' (K2'.map gN))) (hl:es'.length=es.length) (s1:kT l E1' K1') (s2:kT l E2' K2')
  (hK: ∀g,g∈K1'\/g∈K2'->g∈K1++K2) (b0: ∀q∈C++D,Qy (o / 2) o l q) (b1: ∀g∈K1++K2,Qy (o / 2) o (l - 1) g) (z1:o / 2<=E1'.length/\E1'.length<=o) (z2:o / 2<=E2'.length/\E2'.length<=o):
  PT s o (l+1) (.nd i es (C++.nd j E1 K1::.nd k E2 K2::D)) (.nd i es' (C++.nd j E1' K1'::.nd k E2' K2'::D)) H H':=by
 obtain⟨k1,k2⟩:=FP hh hn T
 have h1:=hh.2.2 (.nd j E1 K1) ψ
 have h2:=hh.2.2 (.nd k E2 K2) ψ
 have gx: ∀g∈K1++K2,∀x∈g.ft (l - 1),x∈AT.ft (l+1) (.nd i es (C++.nd j E1 K1::.nd k E2 K2::D)):=λg hg x hx=>by
  rw[qN]
  rcases k_9.1 hg with hg|hg
  .exact .inr (.inr (.inl (RB h1.kT hg hx)))
  .exact .inr (.inr (.inr (RB h2.kT hg hx)))
 refine⟨⟨?_,T.ai,λq hq=>?_⟩,λq hq=>?_,rfl,λx hx hx2=>?_,Nat.le_of_eq T.len.symm,λx hx=>.inl ?_⟩
 .have:=hh.1
  simp at this ⊢;omega
 .rcases(show q∈C++D\/q=.nd j E1' K1'\/q=.nd k E2' K2' by simp at hq ⊢;grind)with hq|rfl|rfl
  .exact k1 q hq
  .exact Oa s1 T.bj λg hg=>k2 g (hK g (.inl hg))
  .exact Oa s2 T.ck λg hg=>k2 g (hK g (.inr hg))
 .rcases(show q∈C++D\/q=.nd j E1' K1'\/q=.nd k E2' K2' by simp at hq ⊢;grind)with hq|rfl|rfl
  .exact b0 q hq
  .exact⟨z1.1,z1.2,(sS s1).2 λg hg=>b1 g (hK g (.inl hg))⟩
  .exact⟨z2.1,z2.2,(sS s2).2 λg hg=>b1 g (hK g (.inr hg))⟩
 .rw[qN]at hx2
  refine T.fr x (λe=>hx2 (.inl e)) (λe=>hx2 (.inr (.inr (.inl ?_)))) λe=>hx2 (.inr (.inr (.inr ?_)))
  .rw[e];exact eU
  .rw[e];exact eU
 .rw[qN]at hx
  rcases hx with hx|hx|hx|hx
  .exact(qN x).2 (.inl hx)
  .exact(qN x).2 (.inr (.inl hx))
  .rcases Ok hx with rfl|⟨g,hg,hx⟩
   .exact(qN x).2 (.inr (.inr (.inl eU)))
   .exact gx g (hK g (.inl hg)) x hx
  .rcases Ok hx with rfl|⟨g,hg,hx⟩
   .exact(qN x).2 (.inr (.inr (.inr eU)))
   .exact gx g (hK g (.inr hg)) x hx
def NM(hh:AT.hd H (l+1) (.nd i es (C++.nd j E1 K1::.nd k E2 K2::D)))
  (hn:(AT.ft (l+1) (.nd i es (C++.nd j E1 K1::.nd k E2 K2::D))).Nodup)
  (T:z0 H H' i j k (dT es' ((C++.nd j E1' K1'::D).map gN)) (dT E1' (K1'.map gN)) c) (hl:es'.length+1=es.length) (s1:kT l E1' K1')
  (hK: ∀g∈K1',g∈K1++K2) (b0: ∀q∈C++D,Qy (o / 2) o l q) (b1: ∀g∈K1++K2,Qy (o / 2) o (l - 1) g) (z1:o / 2<=E1'.length/\E1'.length<=o):
  PT s o (l+1) (.nd i es (C++.nd j E1 K1::.nd k E2 K2::D)) (.nd i es' (C++.nd j E1' K1'::D)) H H':=by
 obtain⟨k1,k2⟩:=FP hh hn T
 have h1:=hh.2.2 (.nd j E1 K1) ψ
 have h2:=hh.2.2 (.nd k E2 K2) ψ
 refine⟨⟨?_,T.ai,λq hq=>?_⟩,λq hq=>?_,rfl,λx hx hx2=>?_,Nat.le_of_eq T.len.symm,λx hx=>.inl ?_⟩
 .have:=hh.1
  simp at this ⊢;omega
 .rcases(show q∈C++D\/q=.nd j E1' K1' by simp at hq ⊢;grind)with hq|rfl
  .exact k1 q hq
  .exact Oa s1 T.bj λg hg=>k2 g (hK g hg)
 .rcases(show q∈C++D\/q=.nd j E1' K1' by simp at hq ⊢;grind)with hq|rfl
  .exact b0 q hq
  .exact⟨z1.1,z1.2,(sS s1).2 λg hg=>b1 g (hK g hg)⟩
 .rw[qN]at hx2
  refine T.fr x (λe=>hx2 (.inl e)) (λe=>hx2 (.inr (.inr (.inl ?_)))) λe=>hx2 (.inr (.inr (.inr ?_)))
  .rw[e];exact eU
  .rw[e];exact eU
 .rw[qN]
  rcases eP.1 hx with hx|⟨q,hq,hx⟩
  .exact .inl hx
  .rcases(show q∈C++D\/q=.nd j E1' K1' by simp at hq ⊢;grind)with hq|rfl
   .exact .inr (.inl ⟨q,hq,hx⟩)
   .rcases Ok hx with rfl|⟨g,hg,hx⟩
    .exact .inr (.inr (.inl eU))
    .rcases k_9.1 (hK g hg)with hg|hg
     .exact .inr (.inr (.inl (RB h1.kT hg hx)))
     .exact .inr (.inr (.inr (RB h2.kT hg hx)))
def xl(hA:A.length=C.length):AT.fl (l+1) (.nd i (A++x::B) (C++.nd j E1 K1::.nd k E2 K2::D))=
  wp A (C.map (AT.fl l))++(AT.fl l (.nd j E1 K1)++x::(AT.fl l (.nd k E2 K2)++ws B (D.map (AT.fl l)))):=by
 rw[k9 hA]
 simp[ws]
end
set_option maxRecDepth 100000
section
variable {s:az} {order last cnt:Int} {root:Option Nat} {tr o l i:Nat} {H:Hp}
def zQ(hh:AT.hd H (l+1) (.nd i es ks))(hq:q∈ks):H[q.ad]? =some (dT q.es (q.ks.map gN)):=(hh.2.2 q hq).self
def tU{ks:List AT}{n:Nat}{C D:List AT}{q:AT}(h:ks=C++q::D)(hn:n=C.length):(ks.map gN)[n]? =some (some q.ad):=by subst h hn;simp[gN]
def wR(h1:H[i]? =some a)(h2:H[j]? =some b)(h3:H[k]? =some c)(n1:i≠j)(n2:i≠k)(n3:j≠k):z0 H H i j k a b c:=⟨h1,h2,h3,n1,n2,n3,λ_ _ _ _=>rfl,rfl⟩
def Qu(hT:H[tr]? =some (ki s order root last cnt))(ho:(o:Int)=order)(h3:3<=o)(h32:o<=32){es:List Entry}{C D:List AT}{k:AT}(hh:AT.hd H (l+1) (.nd i es (C++k::D)))
  (hn:(AT.ft (l+1) (.nd i es (C++k::D))).Nodup) (b0: ∀q∈C++D,Qy (o / 2) o l q) (bk:k.bl (o / 2) o l) (hk:k.es.length+1=o / 2) (h1:1<=es.length) (hle:es.length<=o):
  ∃a' H',Ev (λf=>eX f tr i (C.length:Int) H) ((),H')/\PT s o (l+1) (.nd i es (C++k::D)) a' H H'/\a'.fl (l+1)=AT.fl (l+1) (.nd i es (C++k::D))/\a'.es.length<=es.length/\es.length<=a'.es.length+1:=by
 obtain⟨kk,E,K⟩:=k
 have hk:E.length+1=o / 2:=hk
 have hlen:=hh.1
 have hself:=hh.self
 have hkk:=hh.2.2 (.nd kk E K) ψ
 have hKl:K.length<=E.length+1:=by have:=hkk.kT;unfold kT at this;split at this<;>simp[*]
 have hKb: ∀g∈K,Qy (o / 2) o (l - 1) g:=(sS hkk.kT).1 bk
 simp only[h_9,j_4]at hlen
 have hsmall: ∀q∈C++D,q.es.length<=o/\q.ks.length<=o+1:=λq hq=>by
  have:=(b0 q hq).2.1
  refine⟨this,?_⟩
  have hs:=(hh.2.2 q (by simp at hq ⊢;grind))
  cases q
  have hs:=hs.kT
  unfold kT at hs
  split at hs
  .simp[AT.ks,hs]
  .simp only[AT.ks,AT.es]at this ⊢;omega
 have left:(C=[]/\C.length=0)\/ ∃C0 q,C=C0++[q]:=by
  rcases List.eq_nil_or_concat C with h|⟨C0,q,h⟩
  .exact .inl ⟨h,by simp[h]⟩
  grind
 by_cases c1: ∃C0 q,C=C0++[q]/\o / 2<q.es.length
 .obtain⟨C0,⟨j,Ej,KJ⟩,rfl,hq⟩:=c1
  have hq:o / 2<Ej.length:=hq
  have hqb:=b0 (.nd j Ej KJ) ψ
  obtain⟨L,y,rfl⟩: ∃L y,Ej=L++[y]:=by
   rcases List.eq_nil_or_concat Ej with h|⟨L,y,h⟩
   .simp[h]at hq
   grind
  simp only[j_2,m_7,m_5]at hh hn hself hlen ⊢
  have hqq:=hh.2.2 (.nd j (L++[y]) KJ) ψ
  obtain⟨KL,Q,rfl,s1,s2⟩:=Nt hqq.kT
  have hCl:C0.length<es.length:=by simp at hlen;omega
  obtain⟨A,x,B,rfl,hA⟩: ∃A x B,es=A++x::B/\A.length=C0.length:=⟨es.take C0.length,es[C0.length],es.drop (C0.length+1),vr hCl,χ⟩
  obtain⟨n1,n2,n3,-⟩:=Al hn
  have T:=wR hself hqq.obj hkk.obj n1 n2 n3
  rw[j_9]at T
  obtain⟨H',E1,T'⟩:=NY (E:=E) (is:=(C0++.nd j (L++[y]) (KL++Q)::.nd kk E K::D).map gN) (K:=K.map gN) hT ho h32 T (by rw[hA];simp[gN];rfl) (by rw[hA];simp[gN];rfl)
   (by
    unfold kT at s1 s2
    have hks:=hkk.kT
    unfold kT at hks
    split at s1
    .grind
    .rename_i h0;rw[if_neg h0]at s2 hks
     match Q,s2 with
     |[q],_=>exact .inr ⟨q.ad,rfl,by simp;grind,by simp[s1]⟩)
   hq ω (by have:=hqb.2.1;simp[AT.es]at this;omega) ω χ
  rw[<-j_9]at T'
  have hlb:=(sS hqq.kT).1 hqb.2.2
  have hjn:=vO (x:=x) s2 hkk.kT
  have hLl:L.length+1<=o:=by have:=hqb.2.1;simpa[AT.es]using this
  have hL1:o / 2<=L.length:=by
   grind
  have P:=Nj (s:=s) (o:=o) (es':=A++y::B) (E1':=L) (E2':=x::E) (K1':=KL) (K2':=Q++K) hh hn (by simpa[gN,AT.ad]using T') ψ s1 hjn (λg hg=>by simp at hg ⊢;grind) (λq hq=>b0 q (by simp at hq ⊢;grind))
   (λg hg=>by grind) ⟨hL1,ω⟩ ⟨χ,χ⟩
  refine⟨_,H',?_,P,?_,by simp[AT.es],by simp[AT.es]⟩
  .have:(C0++[AT.nd j (L++[y]) (KL++Q)]).length=A.length+1:=by simp[hA]
   rw[this];exact E1
  .have f1:AT.fl l (.nd kk (x::E) (Q++K))=AT.fl l (.nd 0 [] Q)++x::AT.fl l (.nd kk E K):=tT s2 hkk.kT
   have f2:AT.fl l (.nd j (L++[y]) (KL++Q))=AT.fl l (.nd j L KL)++y::AT.fl l (.nd 0 [] Q):=tT s1 s2
   rw[xl hA,xl hA,f1,f2]
   simp
 have hc:(C.length=0/\false=false)\/ ∃n' j E' K',C.length=n'+1/\((C++AT.nd kk E K::D).map gN)[n']? =some (some j)/\H[j]? =some (dT E' K')/\false=decide (o / 2<E'.length):=by
  rcases left with⟨-,h⟩|⟨C0,q,rfl⟩
  .exact .inl ⟨h,rfl⟩
  .refine .inr ⟨C0.length,q.ad,_,_,ψ,tU (C:=C0) (q:=q) (by simp;rfl) rfl,zQ hh ψ,?_⟩
   grind
 by_cases c2: ∃q D0,D=q::D0/\o / 2<q.es.length
 .obtain⟨⟨j,Ej,KJ⟩,D0,rfl,hq⟩:=c2
  have hq:o / 2<Ej.length:=hq
  have hqb:=b0 (.nd j Ej KJ) ψ
  match Ej,hq,hqb,hh,hn,hself,hc,b0,hsmall with
  |[],hq,_,_,_,_,_,_,_=>simp at hq
  |y::R,hq,hqb,hh,hn,hself,hc,b0,hsmall=>
   have hqq:=hh.2.2 (.nd j (y::R) KJ) ψ
   obtain⟨Q,KR,rfl,s1,s2⟩:=LJ hqq.kT
   have hCl:C.length<es.length:=by simp at hlen;omega
   obtain⟨A,x,B,rfl,hA⟩: ∃A x B,es=A++x::B/\A.length=C.length:=⟨es.take C.length,es[C.length],es.drop (C.length+1),vr hCl,χ⟩
   obtain⟨n1,n2,n3,-⟩:=Al hn
   have T:=wR hself hkk.obj hqq.obj n1 n2 n3
   rw[j_9]at T
   have hRl:R.length+1<=o:=by have:=hqb.2.1;simpa[AT.es]using this
   have hKR:KR.length<=o+1:=by unfold kT at s2;split at s2<;>simp[*];omega
   obtain⟨H',E1,T'⟩:=NW (is:=(C++.nd kk E K::.nd j (y::R) (Q++KR)::D0).map gN) (K:=K.map gN) hT ho h32 T hA.symm (tU rfl rfl) (tU (C:=C++[.nd kk E K]) (q:=.nd j (y::R) (Q++KR)) (by simp;rfl) ψ)
    (by
     unfold kT at s1 s2
     have hks:=hkk.kT
     unfold kT at hks
     split at s1
     .grind
     .rename_i h0;rw[if_neg h0]at s2 hks
      match Q,s1 with
      |[q],_=>exact .inr ⟨q.ad,rfl,by simp;grind⟩)
    hq hc ω χ ω χ χ
   rw[<-j_9]at T'
   have hlb:=(sS hqq.kT).1 hqb.2.2
   have hjn:=vO (x:=x) hkk.kT s1
   have hR1:o / 2<=R.length:=by
    grind
   have P:=Nj (s:=s) (o:=o) (es':=A++y::B) (E1':=E++[x]) (E2':=R) (K1':=K++Q) (K2':=KR) hh hn (by simpa[gN,AT.ad]using T') ψ hjn s2 (λg hg=>by simp at hg ⊢;grind) (λq hq=>b0 q (by simp at hq ⊢;grind))
    (λg hg=>by grind) ⟨χ,χ⟩ ⟨hR1,ω⟩
   refine⟨_,H',E1,P,?_,by simp[AT.es],by simp[AT.es]⟩
   have f1:AT.fl l (.nd kk (E++[x]) (K++Q))=AT.fl l (.nd kk E K)++x::AT.fl l (.nd 0 [] Q):=tT hkk.kT s1
   have f2:AT.fl l (.nd j (y::R) (Q++KR))=AT.fl l (.nd 0 [] Q)++y::AT.fl l (.nd j R KR):=tT s1 s2
   rw[xl hA,xl hA,f1,f2]
   simp
 .
  have hd:(((C++AT.nd kk E K::D).map gN).length=C.length+1/\false=false)\/ ∃j' E' K',C.length+1<((C++AT.nd kk E K::D).map gN).length/\((C++AT.nd kk E K::D).map gN)[C.length+1]? =some (some j')/\H[j']? =some (dT E' K')/\false=decide (o / 2<E'.length):=by
   cases D with
   |nil=>exact .inl ⟨ψ,rfl⟩
   |cons q D0=>
    refine .inr ⟨q.ad,_,_,ψ,tU (C:=C++[.nd kk E K]) (q:=q) (by simp;rfl) ψ,zQ hh ψ,?_⟩
    grind
  rcases left with⟨rfl,-⟩|⟨C0,⟨j,Ej,KJ⟩,rfl⟩
  .match D,hh,hn,b0,hself,hlen,hsmall,hc,hd,c2 with
   |[],_,_,_,_,hlen,_,_,_,_=>grind
   |.nd j Ej KJ::D0,hh,hn,b0,hself,hlen,hsmall,hc,hd,c2=>
    match es,h1 with
    |x::B,_=>
     have hqb:=b0 (.nd j Ej KJ) ψ
     have hqs: ¬o / 2<Ej.length:=λh=>c2 ⟨_,_,rfl,h⟩
     have hqm:o / 2<=Ej.length:=hqb.1
     have hqq:=hh.2.2 (.nd j Ej KJ) ψ
     have hKJ:KJ.length<=o+1:=(hsmall (.nd j Ej KJ) ψ).2
     simp only[m_5]at hh hn hself
     obtain⟨n1,n2,n3,-⟩:=Al (C:=[]) hn
     have T:=wR hself hkk.obj hqq.obj n1 n2 n3
     obtain⟨H',E1,T'⟩:=Gt (n:=0) (A:=[]) (B:=B) (x:=x) (C:=[]) (D:=D0.map gN) (K1:=K.map gN) (K2:=KJ.map gN) hT ho h32 T rfl (.inr ⟨rfl,rfl⟩) ⟨kk,rfl⟩ hc hd (by simp at hle ⊢;omega) χ χ (by simp at hlen hle ⊢;omega)
     rw[<-j_9]at T'
     have P:=NM (s:=s) (C:=[]) (o:=o) (es':=B) (E1':=E++x::Ej) (K1':=K++KJ) hh hn (by simpa[gN,AT.ad]using T') ψ (vO hkk.kT hqq.kT) (λg hg=>hg) (λq hq=>b0 q (by simp at hq ⊢;grind))
      (λg hg=>(k_9.1 hg).elim (hKb g) ((sS hqq.kT).1 hqb.2.2 g)) ⟨χ,χ⟩
     refine⟨_,H',E1,P,?_,by simp[AT.es],by simp[AT.es]⟩
     have f1:AT.fl l (.nd kk (E++x::Ej) (K++KJ))=AT.fl l (.nd kk E K)++x::AT.fl l (.nd j Ej KJ):=tT hkk.kT hqq.kT
     have f2:=xl (l:=l) (i:=i) (A:=[]) (B:=B) (x:=x) (C:=[]) (j:=kk) (k:=j) (E1:=E) (E2:=Ej) (K1:=K) (K2:=KJ) (D:=D0) rfl
     have f3:=k9 (l:=l) (i:=i) (A:=[]) (B:=B) (C:=[]) (k:=.nd kk (E++x::Ej) (K++KJ)) (D:=D0) rfl
     grind
  .have hqb:=b0 (.nd j Ej KJ) ψ
   have hqs: ¬o / 2<Ej.length:=λh=>c1 ⟨_,_,rfl,h⟩
   have hqm:o / 2<=Ej.length:=hqb.1
   have hKJ:KJ.length<=o+1:=(hsmall (.nd j Ej KJ) ψ).2
   simp only[j_2,m_7,m_5]at hh hn hself hlen ⊢
   have hqq:=hh.2.2 (.nd j Ej KJ) ψ
   have hCl:C0.length<es.length:=by simp at hlen;omega
   obtain⟨A,x,B,rfl,hA⟩: ∃A x B,es=A++x::B/\A.length=C0.length:=⟨es.take C0.length,es[C0.length],es.drop (C0.length+1),vr hCl,χ⟩
   obtain⟨n1,n2,n3,-⟩:=Al hn
   have hcl:(C0++[AT.nd j Ej KJ]).length=A.length+1:=by simp[hA]
   have e0:(C0++AT.nd j Ej KJ::AT.nd kk E K::D).map gN=C0.map gN++some j::some kk::D.map gN:=by simp[gN,AT.ad]
   have T:z0 H H i j kk (dT (A++x::B) (C0.map gN++some j::some kk::D.map gN)) (dT Ej (KJ.map gN)) (dT E (K.map gN)):=by
    rw[<-e0];exact wR hself hqq.obj hkk.obj n1 n2 n3
   have e1:((C0++[AT.nd j Ej KJ])++AT.nd kk E K::D).map gN=C0.map gN++some j::some kk::D.map gN:=by simp[gN,AT.ad]
   rw[hcl,e1]at hc hd
   rw[hcl]
   obtain⟨H',E1,T'⟩:=Gt (n:=A.length+1) (A:=A) (B:=B) (x:=x) (C:=C0.map gN) (D:=D.map gN) (K1:=KJ.map gN) (K2:=K.map gN) hT ho h32 T (by simp[hA]) (.inl rfl) ⟨kk,by rw[hA];simp⟩ hc hd ω χ χ (by simp at hlen hle ⊢;omega)
   rw[<-j_9]at T'
   have P:=NM (s:=s) (o:=o) (es':=A++B) (E1':=Ej++x::E) (K1':=KJ++K) hh hn (by simpa[gN,AT.ad]using T') χ (vO hqq.kT hkk.kT) (λg hg=>hg) (λq hq=>b0 q (by simp at hq ⊢;grind))
    (λg hg=>(k_9.1 hg).elim (λh=>(sS hqq.kT).1 hqb.2.2 g h) (hKb g)) ⟨χ,χ⟩
   refine⟨_,H',E1,P,?_,by simp[AT.es],by simp[AT.es];omega⟩
   have f1:AT.fl l (.nd j (Ej++x::E) (KJ++K))=AT.fl l (.nd j Ej KJ)++x::AT.fl l (.nd kk E K):=tT hqq.kT hkk.kT
   rw[xl hA,k9 hA,f1]
   simp
end
set_option maxRecDepth 100000
def LU{l i N:Nat}{es es':List Entry}{C D:List AT}{k k':AT}(h:(AT.ft (l+1) (.nd i es (C++k::D))).Nodup)(hk:(k'.ft l).Nodup)(hs: ∀x∈k'.ft l,x∈k.ft l\/N<=x)
  (hN: ∀x∈AT.ft (l+1) (.nd i es (C++k::D)),x<N):(AT.ft (l+1) (.nd i es' (C++k'::D))).Nodup:=by
 have hM: ∀L:List AT,(∀q∈L,q∈C++D)-> ∀x∈(L.map (AT.ft l)).flatten,x<N:=λL hL x hx=>by
  simp only[List.mem_flatten,w_0]at hx
  obtain⟨_,⟨q,hq,rfl⟩,hx⟩:=hx
  refine hN x (eP.2 (.inr ⟨q,?_,hx⟩))
  grind
 have hC:=hM C (λq hq=>by simp[hq])
 have hD:=hM D (λq hq=>by simp[hq])
 have hi:i<N:=hN i (eP.2 (.inl rfl))
 simp only[AT.ft,List.nodup_cons,j_9,h_3,List.flatten_append,p_8,k_9,not_or,List.nodup_append]at h ⊢
 grind
section
variable {s:az} {order last cnt:Int} {root:Option Nat} {tr o:Nat}
def KV{o:Nat}(hm:1<=m): ∀(l:Nat) (k:AT),k.hd H l->k.bl m o l->1<=k.es.length->o<900->k.es.length<=o->
  ∃j E y is F,mi (λf=>jn f) (some k.ad,H) (some j,H)/\H[j]? =some (dT (E++[y]) is)/\k.fl l=F++[y]/\(E++[y]).length<=o
 |0,.nd i es ks,h,hb,h1,ho,hl=>by
  obtain⟨rfl,h⟩:=h
  have h1:1<=es.length:=h1
  have hl:es.length<=o:=hl
  rcases List.eq_nil_or_concat es with rfl|⟨E,y,he⟩
  .simp at h1
  .have he:es=E++[y]:=by simpa using he
   subst he
   refine⟨i,E,y,[],E,.stop ?_,h,rfl,hl⟩
   unfold jn
   exact .ae rfl<|.bind (ew h)<|.f rfl (.pure _)
 |l+1,.nd i es ks,h,hb,h1,ho,hl=>by
  have hl:es.length<=o:=hl
  rcases List.eq_nil_or_concat ks with rfl|⟨K,q,he⟩
  .have:=h.1;simp at this
  .have he:ks=K++[q]:=by simpa using he
   subst he
   have hq:=hb q ψ
   obtain⟨j,E,y,is,F,e1,e2,e3,e4⟩:=KV hm l q (h.2.2 q ψ) hq.2.2 ω ho hq.2.1
   have hK:K.length=es.length:=by have:=h.1;simpa using this
   have hfl:=k9 (l:=l) (i:=i) (A:=es) (B:=[]) (C:=K) (k:=q) (D:=[]) hK.symm
   rw[p_4]at hfl
   refine⟨j,E,y,is,wp es (K.map (AT.fl l))++F,.next ?_ e1,e2,by rw[hfl,e3];simp[ws],e4⟩
   unfold jn
   have hi:H[i]? =some (dT es ((K++[q]).map gN)):=h.2.1
   refine .ae rfl<|.bind (ew hi)<|.t ψ<|.ae (dK hi)<|.ae (dK hi) ?_
   have w1:IntKind.wrap .i64 ((((K++[q]).map gN).length:Int) - 1)=(K.length:Int):=by
    rw[eo (by simp<;>omega) (by simp<;>omega)];simp
   rw[w1]
   exact .ae (fe (x:=some q.ad) (by simp[gN])) (.pure _)
def P5{l i:Nat}{H:Hp}(hT:H[tr]? =some (ki s order root last cnt))(ho:(o:Int)=order)(h3:3<=o)(h32:o<=32){es:List Entry}{C D:List AT}{k:AT}(hh:AT.hd H (l+1) (.nd i es (C++k::D)))
  (hn:(AT.ft (l+1) (.nd i es (C++k::D))).Nodup) (b0: ∀q∈C++D,Qy (o / 2) o l q) (bk:k.bl (o / 2) o l) (hk:o / 2<=k.es.length+1) (hk2:k.es.length<=o) (h1:1<=es.length) (hle:es.length<=o):
  ∃a' H',Ev (λn=>(bL 1 cP H i 1).bind λx37=>(idx x37 (C.length:Int)).bind λx38=>x38.bind λi39=>(bL 3 aP H i39 0).bind λx40=>(dC n tr H).bind λr41=>
    bif (decide ((x40.length:Int)<r41))then(eX n tr i (C.length:Int) H).bind λr42=>some ((),r42.2)else some ((),H)) ((),H')/\PT s o (l+1) (.nd i es (C++k::D)) a' H H'/\
   a'.fl (l+1)=AT.fl (l+1) (.nd i es (C++k::D))/\a'.es.length<=es.length/\es.length<=a'.es.length+1:=by
 have hi:H[i]? =some (dT es ((C++k::D).map gN)):=hh.2.1
 have hix:idx ((C++k::D).map gN) (C.length:Int)=some (some k.ad):=fe (tU rfl rfl)
 by_cases hc:k.es.length<o / 2
 .obtain⟨a',H',E1,P,F1,S1,S2⟩:=Qu (order:=order) (last:=last) (cnt:=cnt) (root:=root) (tr:=tr) hT ho h3 h32 hh hn b0 bk ω h1 hle
  exact⟨a',H',.ae (dK hi)<|.ae hix<|.ae rfl<|.ae (dL (zQ hh ψ))<|.bind (tQ hT ho h32)<|.t χ<|.bind E1 (.pure _),P,F1,S1,S2⟩
 .refine⟨_,H,.ae (dK hi)<|.ae hix<|.ae rfl<|.ae (dL (zQ hh ψ))<|.bind (tQ hT ho h32)<|.f χ (.pure _),⟨hh,λq hq=>?_,rfl,λ_ _ _=>rfl,h_0 _,λj hj=>.inl hj⟩,rfl,h_0 _,Nat.le_succ _⟩
  rcases(show q∈C++D\/q=k by simp at hq ⊢;grind)with hq|rfl
  .exact b0 q hq
  .exact⟨ω,hk2,bk⟩
def tE(h:zh s l):l.Nodup:=List.Pairwise.imp (λ{x y} hxy e=>by subst e;have:=sT hxy;rw[jW]at this;omega) h
def So{l i:Nat}{H H1 H2:Hp}{es es1:List Entry}{C D:List AT}{k k':AT}(hh:AT.hd H (l+1) (.nd i es (C++k::D)))(hn:(AT.ft (l+1) (.nd i es (C++k::D))).Nodup)
  (h1:H1=H/\es1=es\/H1=H.set i (dT es1 ((C++k::D).map gN))/\es1.length=es.length) (P:PT s o l k k' H1 H2) (hk':(k'.ft l).Nodup):
  AT.hd H2 (l+1) (.nd i es1 (C++k'::D))/\(AT.ft (l+1) (.nd i es1 (C++k'::D))).Nodup/\(∀j,j<H.length->j∉AT.ft (l+1) (.nd i es (C++k::D))->H2[j]? =H[j]?)/\H.length<=H2.length/\
   ∀j∈AT.ft (l+1) (.nd i es1 (C++k'::D)),j∈AT.ft (l+1) (.nd i es (C++k::D))\/H.length<=j:=by
 have hil:=(g_5.1 hh.2.1).1
 have hl1:H1.length=H.length:=by grind
 have hi1:H1[i]? =some (dT es1 ((C++k::D).map gN)):=by
  rcases h1 with⟨rfl,rfl⟩|⟨rfl,-⟩
  .exact hh.2.1
  .exact g_0 hil
 have hf1: ∀j,j≠i->H1[j]? =H[j]? :=λj hj=>by
  grind
 have hes:es1.length=es.length:=by grind
 obtain⟨d1,d2,d3⟩:=vn hn
 have hkm:k∈C++k::D:=by simp
 have hle:=P.le
 have e0:(C++k'::D).map gN=(C++k::D).map gN:=by
  simp only[j_9,h_3]
  rw[show gN k'=gN k from congrArg some P.ad]
 refine⟨⟨by have:=hh.1;simp at this ⊢;omega,?_,λq hq=>?_⟩,LU hn hk' (λx hx=>(P.ft x hx).imp id (by rw[hl1];exact id)) hh.lt,λj hj hj2=>?_,ω,λj hj=>?_⟩
 .show H2[i]? =some (dT es1 ((C++k'::D).map gN))
  rw[e0,P.fr i ω d1];exact hi1
 .rcases(show q∈C++D\/q=k' by simp at hq ⊢;grind)with hq|rfl
  .have hq':q∈C++k::D:=by simp at hq ⊢;grind
   refine(hh.2.2 q hq').fr λj hj=>?_
   have:=(hh.2.2 q hq').lt j hj
   rw[P.fr j ω ((d3 q hq).2 j hj),hf1 j λe=>(d3 q hq).1 (e▸hj)]
  .exact P.hd
 .rw[eP]at hj2
  rw[P.fr j ω λh=>hj2 (.inr ⟨k,hkm,h⟩),hf1 j λe=>hj2 (.inl e)]
 .rcases eP.1 hj with rfl|⟨q,hq,hjq⟩
  .exact .inl (eP.2 (.inl rfl))
  .rcases(show q∈C++D\/q=k' by simp at hq ⊢;grind)with hq|hq
   .exact .inl (eP.2 (.inr ⟨q,by simp at hq ⊢;grind,hjq⟩))
   .subst hq
    rcases P.ft j hjq with h|h
    .exact .inl (eP.2 (.inr ⟨k,hkm,h⟩))
    .right;omega
end
set_option maxRecDepth 100000
section
variable {s:az} {order last cnt:Int} {root:Option Nat} {tr o:Nat}
def PT.then(hf: ∀j,j<H.length->j∉a.ft l->H1[j]? =H[j]?)(hle:H.length<=H1.length)(hft: ∀j∈b.ft l,j∈a.ft l\/H.length<=j)(had:b.ad=a.ad)(P:PT s o l b c H1 H2):PT s o l a c H H2:=by
 have:=P.le
 refine⟨P.hd,P.bl,P.ad.trans had,λj hj hj2=>?_,ω,λj hj=>?_⟩
 .rw[P.fr j ω λh=>(hft j h).elim hj2 ω,hf j hj hj2]
 .rcases P.ft j hj with h|h
  .exact hft j h
  .right;omega
def sK:(mQ s e l).Sublist l:=List.filter_sublist
def P4(hs:qI s=true)(ho:(o:Int)=order)(h3:3<=o)(h32:o<=32):
  ∀(l:Nat) (a:AT) (H:Hp) (e:Entry),gE s e->a.hd H l->a.bl (o / 2) o l->(a.ft l).Nodup->tr∉a.ft l->H[tr]? =some (ki s order root last cnt)->a.es.length<=o->(l≠0->1<=a.es.length)->
   (∀x∈a.fl l,gE s x)->zh s (a.fl l)->
   ∃a' H',Ev (λn=>gZ n tr a.ad e H) ((),H')/\PT s o l a a' H H'/\a'.fl l=mQ s e (a.fl l)/\a'.es.length<=a.es.length/\a.es.length<=a'.es.length+1:=by
 intro l
 induction l with
 |zero=>
  intro a H e he hh hb hn ht hT hl h1 hg hsr
  obtain⟨i,es,ks⟩:=a
  obtain⟨rfl,hi⟩:=hh
  have hl:es.length<=o:=hl
  have hil:=(g_5.1 hi).1
  have hsr:zh s es:=hsr
  have hg: ∀x∈es,gE s x:=hg
  obtain⟨A,B,rfl,hA,hB⟩:=nR he hsr hg
  have at_:=Em hs hT he hi hg hA hB ω
  have pre: ∀{r},Ev (λn=>bif wD s e B then(dQ 3 aP H i 0).bind λq5=>(fD n q5.1 (A.length:Int) (IntKind.wrap .i64 ((A.length:Int)+1))).bind λr6=>(dh 3 aP q5.2 i 0 r6).bind λH7=>some ((),H7)
    else some ((),H)) r->Ev (λn=>gZ n tr i e H) r:=λhE=>by
   refine m7 (g:=λn=>fA n (gZ n) tr i e H) (λn=>rfl) ?_
   unfold fA
   exact .bind at_<|.bz<|.bind (ew hi)<|.t rfl hE
  by_cases hz:wD s e B=true
  .match B,hz,hB with
   |b::B,hz,hB=>
    have hb0:cZ s b e=0:=by simpa[wD]using hz
    have hB': ∀x∈B,0<cZ s x e:=λx hx=>lA (hg b ψ) (hg x (by simp[hx])) he ((j_7.1 (k_3.1 hsr).2.1).1 x hx) ω
    refine⟨.nd i (A++B) [],H.set i (dT (A++B) []),pre (.t hz<|.ae (jB hi) ?_),⟨⟨rfl,g_0 hil⟩,trivial,rfl,λj hj hj2=>?_,ψ,λj hj=>.inl hj⟩,(sL hA hb0 hB').symm,by simp[AT.es],by simp[AT.es];omega⟩
    .rw[eC (by simp at hl;omega)]
     refine .bind (.of λn=>BH n ω)<|.ae (jC (g_0 hil)) ?_
     rw[m_9]
     exact .pure _
    .have:i≠j:=λh=>hj2 (by simp[AT.ft,h])
     rw[g_1 this]
  .have hno: ∀x∈A++B,cZ s x e≠0:=λx hx=>by
    rcases k_9.1 hx with hx|hx
    .have:=hA x hx;omega
    .match B,hz,hB,hx with
     |b::B,hz,hB,hx=>
      have hb0:cZ s b e≠0:=by simpa[wD]using hz
      rcases h_8.1 hx with rfl|hx
      .exact hb0
      .have h4:=hB b ψ
       have:=lA (hg b ψ) (hg x (by simp[hx])) he ((j_7.1 (k_3.1 hsr).2.1).1 x hx) h4
       omega
   exact⟨.nd i (A++B) [],H,pre (.f (by simpa using hz) (.pure _)),⟨⟨rfl,hi⟩,trivial,rfl,λ_ _ _=>rfl,h_0 _,λj hj=>.inl hj⟩,(Mj hno).symm,h_0 _,Nat.le_succ _⟩
 |succ l ih=>
  intro a H e he hh hb hn ht hT hl h1 hg hsr
  obtain⟨i,es,ks⟩:=a
  have hl:es.length<=o:=hl
  have h1:1<=es.length:=h1 ω
  have hk1:=hh.1
  have hi:H[i]? =some (dT es (ks.map gN)):=hh.2.1
  have hil:=(g_5.1 hi).1
  have hsub:es.Sublist (AT.fl (l+1) (.nd i es ks)):=Ix (by simp[hk1])
  have hges: ∀x∈es,gE s x:=λx hx=>hg x (hsub.subset hx)
  obtain⟨A,B,rfl,hA,hB⟩:=nR he (hsr.sublist hsub) hges
  have hkl:A.length<ks.length:=by rw[hk1];simp;omega
  obtain⟨C,k,D,rfl,hC⟩:=EI hkl
  have hDl:B.length=D.length:=by simp at hk1;omega
  have hfl:AT.fl (l+1) (.nd i (A++B) (C++k::D))=_:=k9 hC.symm
  rw[hfl]at hg hsr ⊢
  have hkm:k∈C++k::D:=by simp
  obtain⟨d1,d2,d3⟩:=vn hn
  have hkft: ∀j∈k.ft l,j∈AT.ft (l+1) (.nd i (A++B) (C++k::D)):=λj hj=>eP.2 (.inr ⟨k,hkm,hj⟩)
  have sp:=hsr
  unfold zh at sp
  rw[k_3,k_3]at sp
  have hP:=CV he (by simp[hC]) sp.1 (λx hx=>hg x (List.mem_append_left _ hx)) hA
  have hkb:=hb k hkm
  have hkh:=hh.2.2 k hkm
  have hgk: ∀x∈k.fl l,gE s x:=λx hx=>hg x (by simp[hx])
  have b0: ∀q∈C++D,Qy (o / 2) o l q:=λq hq=>hb q (by simp at hq ⊢;grind)
  have hix:idx ((C++k::D).map gN) (A.length:Int)=some (some k.ad):=fe (tU rfl hC.symm)
  have at_:=Em hs hT he hi hges hA hB ω
  have fin: ∀{e1:Entry} {k':AT} {H1 H2:Hp} {es1:List Entry},es1.length=(A++B).length->(H1=H/\es1=A++B\/H1=H.set i (dT es1 ((C++k::D).map gN))/\es1.length=(A++B).length)->PT s o l k k' H1 H2->k'.fl l=mQ s e1 (k.fl l)->k'.es.length<=k.es.length->k.es.length<=k'.es.length+1->
    ∃a' H',Ev (λn=>(bL 1 cP H2 i 1).bind λx37=>(idx x37 (A.length:Int)).bind λx38=>x38.bind λi39=>(bL 3 aP H2 i39 0).bind λx40=>(dC n tr H2).bind λr41=>
     bif (decide ((x40.length:Int)<r41))then(eX n tr i (A.length:Int) H2).bind λr42=>some ((),r42.2)else some ((),H2)) ((),H')/\PT s o (l+1) (.nd i (A++B) (C++k::D)) a' H H'/\
     a'.fl (l+1)=AT.fl (l+1) (.nd i es1 (C++k'::D))/\a'.es.length<=(A++B).length/\(A++B).length<=a'.es.length+1:=by
   intro e1 k' H1 H2 es1 hes hH P hF z1 z2
   have hk'n:(k'.ft l).Nodup:=oE (m:=o / 2) (o:=o) ω P.hd P.bl (by rw[hF];exact(tE sp.2.1.1).sublist sK)
   obtain⟨q1,q2,q3,q4,q5⟩:=So hh hn hH P hk'n
   have hT2:H2[tr]? =some (ki s order root last cnt):=by grind
   have z3:=hkb.1
   have z4:=hkb.2.1
   obtain⟨a',H',E1,P1,F1,S1,S2⟩:=P5 hT2 ho h3 h32 q1 q2 b0 P.bl ω ω ω ω
   rw[hC]at E1
   exact⟨a',H',E1,P1.then q3 q4 q5 rfl,F1,ω,ω⟩
  by_cases hz:wD s e B=true
  .match B,hz,hB,hDl with
   |b::B,hz,hB,hDl=>
    have hb0:cZ s b e=0:=by simpa[wD]using hz
    match D,hDl with
    |d::D,hDl=>
     have hDl:B.length=D.length:=by simpa using hDl
     have hgb:=hges b ψ
     obtain⟨j,E,y,is,F,D1,D2,D3,D4⟩:=KV (m:=o / 2) (o:=o) ω l k hkh hkb.2.2 (by have:=hkb.1;omega) ω hkb.2.1
     have hgy:gE s y:=hgk y (by rw[D3];simp)
     have vm:(A++b::B).set (A.length:Int).toNat y=A++y::B:=by simp
     have g1:=(congrArg (dh 3 aP _ i 0) vm).trans (jC (is:=(C++k::d::D).map gN) (g_0 hil))
     rw[m_9]at g1
     let H1:Hp:=H.set i (dT (A++y::B) ((C++k::d::D).map gN))
     have hi1:H1[i]? =some (dT (A++y::B) ((C++k::d::D).map gN)):=g_0 hil
     have hit:i≠tr:=λh=>ht (eP.2 (.inl h.symm))
     have hT1:H1[tr]? =some (ki s order root last cnt):=by grind
     have hkh1:k.hd H1 l:=hkh.fr λx hx=>g_1 λh=>d1 (by rw[h];exact hx)
     obtain⟨k',H2,E2,P2,F2,z1,z2⟩:=ih k H1 y hgy hkh1 hkb.2.2 d2 (λh=>ht (hkft _ h)) hT1 hkb.2.1 (λ_=>by have:=hkb.1;omega) hgk sp.2.1.1
     obtain⟨a',H',E3,P3,F3,S1,S2⟩:=fin (es1:=A++y::B) ψ (.inr ⟨rfl,ψ⟩) P2 F2 z1 z2
     have hlA:A.length<(A++b::B).length:=by simp
     have ib:idx (A++b::B) (A.length:Int)=some b:=by rw[aH hlA];simp
     have iy:idx (A++y::B) (A.length:Int)=some y:=by rw[aH ψ];simp
     have w1:IntKind.wrap .i64 (((E++[y]).length:Int) - 1)=(E.length:Int):=by rw[eo (by simp<;>omega) (by simp at D4 ⊢;omega)];simp
     have iE:idx (E++[y]) (E.length:Int)=some y:=by rw[aH ψ];simp
     refine⟨a',H',?_,P3,?_,S1,S2⟩
     .refine m7 (g:=λn=>fA n (gZ n) tr i e H) (λn=>rfl) ?_
      unfold fA
      refine .bind at_<|.bz<|.bind (ew hi)<|.f ψ<|.t hz<|.ae (dK hi)<|.ae hix<|.bind D1.ev<|.ae rfl<|.ae rfl<|.ae (jB hi)<|.ae (dL D2)<|.ae (dL D2) ?_
      simp only[w1]
      exact .ae iE<|.ae ib<|.ff ψ<|.ae g1<|.ae (dK hi1)<|.ae hix<|.ae (dL hi1)<|.ae iy<|.ae rfl<|.bind E2 E3
     .rw[F3]
      have e1:AT.fl (l+1) (.nd i (A++y::B) (C++k'::d::D))=wp A (C.map (AT.fl l))++(k'.fl l++ws (y::B) ((d::D).map (AT.fl l))):=k9 hC.symm
      have s1:=sp.2.1.1
      rw[D3]at s1
      have e2:mQ s y (k.fl l)=F:=by
       rw[D3]
       have:=sL (s:=s) (e:=y) (b:=y) (A:=F) (B:=[]) (λx hx=>sT ((k_3.1 s1).2.2 x hx y ψ)) (jW y) ψ
       simpa using this
      have hwk: ∀x∈k.fl l,cZ s x e<0:=λx hx=>by
       have h5:=sT (sp.2.1.2.2 x hx b (by simp[ws]))
       have h6:=Rr (s:=s) (hgk x hx).fit hgb.fit he.fit ω ω
       omega
      have hwS: ∀x∈d.fl l++ws B (D.map (AT.fl l)),0<cZ s x e:=λx hx=>by
       have hsS:=sp.2.1.2.1
       simp only[h_3,ws,j_7]at hsS
       exact lA hgb (hg x (by simp[ws]at hx ⊢;grind)) he (hsS.1 x hx) ω
      have e3:=sL (s:=s) (e:=e) (b:=b) (A:=wp A (C.map (AT.fl l))++k.fl l) (B:=d.fl l++ws B (D.map (AT.fl l))) (λx hx=>by
       grind) hb0 hwS
      rw[F2,e2]at e1
      rw[e1]
      simp only[j_2,h_3,ws]at e3 ⊢
      rw[e3,D3]
      simp
  .have hB': ∀x∈B,0<cZ s x e:=λx hx=>by
    match B,hz,hB,hx,hges,hsub with
    |b::B,hz,hB,hx,hges,hsub=>
     have hb0:cZ s b e≠0:=by simpa[wD]using hz
     have h4:=hB b ψ
     rcases h_8.1 hx with rfl|hx
     .omega
     .rw[hfl]at hsub
      have h5:=hsr.sublist hsub
      exact lA (hges b ψ) (hges x (by simp[hx])) he ((j_7.1 (k_3.1 h5).2.1).1 x hx) h4
   have hS:=CU he (by simp[hDl]) sp.2.1.2.1 (λx hx=>hg x (w_3 _ (w_3 _ hx))) hB'
   obtain⟨k',H2,E2,P2,F2,z1,z2⟩:=ih k H e he hkh hkb.2.2 d2 (λh=>ht (hkft _ h)) hT hkb.2.1 (λ_=>by have:=hkb.1;omega) hgk sp.2.1.1
   obtain⟨a',H',E3,P3,F3,S1,S2⟩:=fin (es1:=A++B) rfl (.inl ⟨rfl,rfl⟩) P2 F2 z1 z2
   refine⟨a',H',?_,P3,?_,S1,S2⟩
   .refine m7 (g:=λn=>fA n (gZ n) tr i e H) (λn=>rfl) ?_
    unfold fA
    exact .bind at_<|.bz<|.bind (ew hi)<|.f ψ<|.f (by simpa using hz)<|.ae (dK hi)<|.ae hix<|.ae rfl<|.bind E2 E3
   .have e1:AT.fl (l+1) (.nd i (A++B) (C++k'::D))=wp A (C.map (AT.fl l))++(k'.fl l++ws B (D.map (AT.fl l))):=k9 hC.symm
    rw[F3,e1,F2]
    exact(KQ (λx hx=>by have:=hP x hx;omega) λx hx=>by have:=hS x hx;omega).symm
end
set_option maxRecDepth 100000
inductive rO (P:Hp->Prop) (Y:Nat->Entry->Hp->Option (Bool×Hp)):List Entry->Hp->Bool×Hp->Prop
 |nil {H}:P H->rO P Y [] H (true,H)
 |go {e es H H1 r}:P H->Ev (λn=>Y n e H) (true,H1)->rO P Y es H1 r->rO P Y (e::es) H r
 |stop {e es H H1}:P H->Ev (λn=>Y n e H) (false,H1)->rO P Y (e::es) H (false,H1)
section
variable {P:Hp->Prop} {Y:Nat->Entry->Hp->Option (Bool×Hp)}
def rO.p(h:rO P Y es H r):P H:=by cases h<;>assumption
def rO.split: ∀{A B:List Entry} {H:Hp} {r:Bool×Hp},rO P Y (A++B) H r->(∃H1,rO P Y A H (true,H1)/\rO P Y B H1 r)\/(∃H1,r=(false,H1)/\rO P Y A H (false,H1))
 |[],B,H,r,h=>.inl ⟨H,.nil h.p,h⟩
 |e::A,B,H,r,h=>by
  cases h with
  |go hp h1 h2=>
   rcases rO.split h2 with⟨H1,g1,g2⟩|⟨H1,rfl,g⟩
   .exact .inl ⟨H1,.go hp h1 g1,g2⟩
   .exact .inr ⟨H1,rfl,.go hp h1 g⟩
  |stop hp h1=>exact .inr ⟨_,rfl,.stop hp h1⟩
def Le: ∀(l:Nat) (a:AT) (d:Nat) (H:Hp) (r:Bool×Hp),(∀H,P H->a.hd H l)->(∀H,P H->a.es.length<1000)->a.bl 0 900 l->rO P Y (a.fl l) H r->Ev (λn=>gw n (Y n) (n - d) a.ad H) r:=by
 intro l
 induction l with
 |zero=>
  intro a d H r hh hl hb hr
  obtain⟨i,es,ks⟩:=a
  have hes:es.length<1000:=hl H hr.p
  have hobj: ∀H,P H->H[i]? =some (dT es []):=λH hp=>(hh H hp).2
  have L: ∀(q:List Entry) (k:Nat) (H:Hp),es.drop k=q->k<=es.length->rO P Y q H r->mi (λn=>dY n (Y n) (gw n (Y n) (n - (d+1))) i (((es.length+1:Nat):Int))) ((k:Int),H) r:=by
   intro q
   induction q with
   |nil=>
    intro k H hd hk hr
    have hk2:k=es.length:=by
     have:es.length<=k:=by simpa using hd
     omega
    cases hr with
    |nil hp=>
     have ho:=hobj H hp
     refine .next (y:=(((k+1:Nat):Int),H)) ?_ (.stop ?_)
     .unfold dY
      refine .t (gu ω)<|.bind (ew ho)<|.bind (.t rfl (.pure _))<|.t rfl<|.ae (dL ho)<|.f (oY ω) ?_
      rw[eC ω];exact .pure _
     .unfold dY
      exact .f (oY ω) (.pure _)
   |cons e q ih=>
    intro k H hd hk hr
    have hk1:k<es.length:=by
     grind
    have hek:es[k]=e:=by rw[aZ hk1]at hd;exact(j_1 hd).1
    have hdl:es.drop (k+1)=q:=by rw[aZ hk1]at hd;exact(j_1 hd).2
    have ho:=hobj H hr.p
    have pre: ∀{y x},Ev (λn=>Y n e H) y->Ev (λn=>cond y.1 (some (.inl (((k+1:Nat):Int),y.2))) (some (.inr (false,y.2)))) x->Ev (λn=>dY n (Y n) (gw n (Y n) (n - (d+1))) i (((es.length+1:Nat):Int)) ((k:Int),H)) x:=λh1 h2=>by
     unfold dY
     refine .t (gu ω)<|.bind (ew ho)<|.bind (.t rfl (.pure _))<|.t rfl<|.ae (dL ho)<|.t (gu hk1)<|.ae (aH hk1) ?_
     rw[hek,eC ω]
     exact .bind h1 h2
    cases hr with
    |go hp h1 h2=>exact .next (pre h1 (.t rfl (.pure _))) (ih (k+1) _ hdl ω h2)
    |stop hp h1=>exact .stop (pre h1 (.f rfl (.pure _)))
  refine BE (F:=λn s=>gw n (Y n) s i H) (g:=λn s=>_) (λn s=>rfl) ?_
  refine .ae (dL (hobj H hr.p)) ?_
  rw[eC ω]
  exact(L es 0 H rfl ω hr).ev
 |succ l ih=>
  intro a d H r hh hl hb hr
  obtain⟨i,es,ks⟩:=a
  have hes:es.length<1000:=hl H hr.p
  have hobj: ∀H,P H->H[i]? =some (dT es (ks.map gN)):=λH hp=>(hh H hp).2.1
  have hkl:ks.length=es.length+1:=(hh H hr.p).1
  have hne:ks.map gN≠[]:=by intro e;simp at e;simp[e]at hkl
  have L: ∀(q:List Entry) (k:Nat) (H:Hp),es.drop k=q->(hk:k<=es.length)->rO P Y ((ks[k]' ω).fl l++ws q ((ks.drop (k+1)).map (AT.fl l))) H r->
    mi (λn=>dY n (Y n) (gw n (Y n) (n - (d+1))) i (((es.length+1:Nat):Int))) ((k:Int),H) r:=by
   intro q
   induction q with
   |nil=>
    intro k H hd hk hr
    have hk2:k=es.length:=by
     have:es.length<=k:=by simpa using hd
     omega
    have hkk:k<ks.length:=by omega
    have ho:=hobj H hr.p
    have hix:idx (ks.map gN) (k:Int)=some (some ks[k].ad):=fe (by simp[hkk,gN])
    have sub:=λ{H r}=>ih ks[k] (d+1) H r (λH hp=>(hh H hp).2.2 _ (j_0 hkk)) (λH hp=>by have:=(hb ks[k] (j_0 hkk)).2.1;omega) (hb ks[k] (j_0 hkk)).2.2
    have hw:ws [] ((ks.drop (k+1)).map (AT.fl l))=[]:=by simp[ws]
    rw[hw,p_4]at hr
    have S:=sub hr
    by_cases h1:r.1=true
    .obtain⟨b,H1⟩:=r
     have h1:b=true:=h1
     subst h1
     have hp1:P H1:=by
      have: ∀{es:List Entry} {H:Hp} {r:Bool×Hp},rO P Y es H r->r.1=true->P r.2:=by
       intro es H r h
       induction h with
       |nil hp=>exactλ_=>hp
       |go _ _ _ ih=>exact ih
       |stop _ _=>exactλh=>by cases h
      exact this hr rfl
     refine .next (y:=(((k+1:Nat):Int),H1)) ?_ (.stop ?_)
     .unfold dY
      refine .t (gu ω)<|.bind (ew ho)<|.bind (.f (by simpa using hne)<|.ae (dK ho)<|.ae hix<|.ae rfl S)<|.t rfl<|.ae (dL (hobj H1 hp1))<|.f (oY ω) ?_
      rw[eC ω];exact .pure _
     .unfold dY
      exact .f (oY ω) (.pure _)
    .obtain⟨b,H1⟩:=r
     have h1:b=false:=by simpa using h1
     subst h1
     refine .stop ?_
     unfold dY
     exact .t (gu ω)<|.bind (ew ho)<|.bind (.f (by simpa using hne)<|.ae (dK ho)<|.ae hix<|.ae rfl S)<|.f rfl (.pure _)
   |cons e q ihq=>
    intro k H hd hk hr
    have hk1:k<es.length:=by
     grind
    have hek:es[k]=e:=by rw[aZ hk1]at hd;exact(j_1 hd).1
    have hdl:es.drop (k+1)=q:=by rw[aZ hk1]at hd;exact(j_1 hd).2
    have hkk:k<ks.length:=by omega
    have ho:=hobj H hr.p
    have hix:idx (ks.map gN) (k:Int)=some (some ks[k].ad):=fe (by simp[hkk,gN])
    have sub:=λ{H r}=>ih ks[k] (d+1) H r (λH hp=>(hh H hp).2.2 _ (j_0 hkk)) (λH hp=>by have:=(hb ks[k] (j_0 hkk)).2.1;omega) (hb ks[k] (j_0 hkk)).2.2
    have hw:ws (e::q) ((ks.drop (k+1)).map (AT.fl l))=e::((ks[k+1]' ω).fl l++ws q ((ks.drop (k+2)).map (AT.fl l))):=by
     rw[aZ (show k+1<ks.length by omega)];rfl
    rw[hw]at hr
    rcases hr.split with⟨H1,g1,g2⟩|⟨H1,rfl,g⟩
    .have S:=sub g1
     have ho1:=hobj H1 g2.p
     have pre: ∀{y x},Ev (λn=>Y n e H1) y->Ev (λn=>cond y.1 (some (.inl (((k+1:Nat):Int),y.2))) (some (.inr (false,y.2)))) x->Ev (λn=>dY n (Y n) (gw n (Y n) (n - (d+1))) i (((es.length+1:Nat):Int)) ((k:Int),H)) x:=λh1 h2=>by
      unfold dY
      refine .t (gu ω)<|.bind (ew ho)<|.bind (.f (by simpa using hne)<|.ae (dK ho)<|.ae hix<|.ae rfl S)<|.t rfl<|.ae (dL ho1)<|.t (gu hk1)<|.ae (aH hk1) ?_
      rw[hek,eC ω]
      exact .bind h1 h2
     cases g2 with
     |go hp h1 h2=>exact .next (pre h1 (.t rfl (.pure _))) (ihq (k+1) _ hdl ω h2)
     |stop hp h1=>exact .stop (pre h1 (.f rfl (.pure _)))
    .refine .stop ?_
     unfold dY
     exact .t (gu ω)<|.bind (ew ho)<|.bind (.f (by simpa using hne)<|.ae (dK ho)<|.ae hix<|.ae rfl (sub g))<|.f rfl (.pure _)
  refine BE (F:=λn s=>gw n (Y n) s i H) (g:=λn s=>_) (λn s=>rfl) ?_
  refine .ae (dL (hobj H hr.p)) ?_
  rw[eC ω]
  refine(L es 0 H rfl ω ?_).ev
  have h0:0<ks.length:=by omega
  have e0:AT.fl (l+1) (.nd i es ks)=(ks[0]'h0).fl l++ws es ((ks.drop 1).map (AT.fl l)):=by
   match ks,h0 with
   |k::ks,_=>rfl
  rw[e0]at hr
  exact hr
end
set_option maxRecDepth 100000
structure TI(s:az)(o:Nat)(last:Int)(l:Nat)(a:AT)(H:Hp)(tr:Nat):Prop where
 obj:H[tr]? =some (ki s o (some a.ad) last ((a.fl l).length:Nat))
 hd:a.hd H l
 bl:a.bl (o / 2) o l
 top:a.es.length<=o
 one:l≠0->1<=a.es.length
 nt:tr∉a.ft l
 g: ∀x∈a.fl l,gE s x/\x.Number<=last
 Ay:zh s (a.fl l)
 num:((a.fl l).map (·.Number)).Nodup
structure SI(s:az)(o:Nat):Prop where
 ok:qI s=true
 o3:3<=o
 Qn:o<=32
def TI.fr{s:az}{o l tr:Nat}{last:Int}{a:AT}{H:Hp}(h:TI s o last l a H tr)(hf: ∀j,j<H.length->H'[j]? =H[j]?):TI s o last l a H' tr:=
 {h with obj:=by rw[hf tr (g_5.1 h.obj).1];exact h.obj,hd:=h.hd.fr λj hj=>hf j (h.hd.lt j hj)}
def E8{o:Nat}(h1:m'<=m)(h2:o<=o'): ∀{l:Nat} {a:AT},a.bl m o l->a.bl m' o' l
 |0,_,_=>trivial
 |l+1,.nd i es ks,h=>λk hk=>⟨v_2 h1 (h k hk).1,v_2 (h k hk).2.1 h2,E8 h1 h2 (h k hk).2.2⟩
section
variable {s:az} {o l tr:Nat} {last:Int} {a:AT} {H:Hp}
def nw{x y:aN}{j:Nat}(h:H[j]? =some x):(H++[y])[j]? =some x:=by grind
def Mp(h:n=H.length):(H++[y])[n]? =some y:=by subst h;simp
def iY(h:n=H.length):(H++[y]).set n z=H++[z]:=by subst h;simp
def jh(h:n<H.length):(H++[y]).set n z=H.set n z++[y]:=List.set_append_left _ _ h
def vo(s:az)(r:List Value)(e:Entry):Bool:=dN s.Down e.Row r==0
def Jh(H:Hp)(tr:Nat)(row:List Value)(b:Bool):Hp:=H++[.cells [.d (.ptr tr 0)]]++[.cells [.d (.list 3 (List.map ay row))]]++[.cells [.d (.bool b)]]
def Ob(S:SI s o)(h:TI s o last l a H tr){row:List Value}(hr:bR s.aG row=true): ∃H',Ev (λf=>kQ f tr row H) ((a.fl l).any (vo s row),H')/\(∀j,j<H.length->H'[j]? =H[j]?)/\H.length<=H'.length:=by
 have hS:=jT S.ok
 let K (b:Bool):Hp:=Jh H tr row b++[.hole]
 let n2:Nat:=(H++[aN.cells [.d (.ptr tr 0)]]).length
 let n3:Nat:=(H++[aN.cells [.d (.ptr tr 0)]]++[aN.cells [.d (.list 3 (List.map ay row))]]).length
 have e2:n2=H.length+1:=by simp[n2]
 have e3:n3=H.length+2:=by simp[n3]
 have kl: ∀b,(Jh H tr row b).length=H.length+3:=λb=>by simp[Jh]
 have f0: ∀b j,j<H.length->(K b)[j]? =H[j]? :=λb j hj=>by
  simp only[K,Jh]
  grind
 have g1: ∀b,(K b)[H.length]? =some (.cells [.d (.ptr tr 0)]):=λb=>nw (nw (nw (Mp rfl)))
 have g2: ∀b,(K b)[n2]? =some (.cells [.d (.list 3 (List.map ay row))]):=λb=>nw (nw (Mp rfl))
 have g3: ∀b,(K b)[n3]? =some (.cells [.d (.bool b)]):=λb=>nw (Mp rfl)
 have s3: ∀b b',(K b).set n3 (.cells [.d (.bool b')])=K b':=λb b'=>by
  simp only[K,Jh]
  rw[jh (by simp[e3]),iY rfl]
 have T: ∀b,TI s o last l a (K b) tr:=λb=>h.fr (f0 b)
 let Y:=λ(n:Nat)=>ko n (H++[.cells [.d (.ptr tr 0)]],H.length) (H++[.cells [.d (.ptr tr 0)]]++[.cells [.d (.list 3 (List.map ay row))]],n2) (Jh H tr row false,n3)
 have run: ∀es:List Entry,(∀e∈es,gE s e)->rO (λG=>G=K false) Y es (K false) (if es.any (vo s row)then(false,K true)else(true,K false)):=by
  intro es
  induction es with
  |nil=>intro _;exact .nil rfl
  |cons e es ih=>
   intro hg
   have R:=p7 s hS.2 (hg e ψ).fit hr hS.1
   have pre: ∀{x},Ev (λn=>bif (dN s.Down e.Row row==0)then(ee cB (K false) n3 0 true).bind λH16=>some (false,H16)else some (true,K false)) x->Ev (λn=>Y n e (K false)) x:=λhE=>by
    show Ev (λn=>ko n _ _ _ e (K false)) _
    unfold ko
    exact .ae (dj (x:=some tr) (r:=[]) (g1 false) rfl)<|.ae rfl<|.ae (jm (T false).obj)<|.ae (wF (c:=vw) (g2 false) rfl)<|.bind R hE
   rw[List.any_cons]
   by_cases hc:vo s row e=true
   .rw[hc,Bool.true_or,if_pos rfl]
    refine .stop rfl (pre (.t hc ?_))
    have e1:ee cB (K false) n3 0 true=some (K true):=by rw[gQ (g3 false) (by simp[cB,D.cells]),<-s3 false true];rfl
    exact .ae e1 (.pure _)
   .rw[show vo s row e=false by simpa using hc,Bool.false_or]
    exact .go rfl (pre (.f (by simpa[vo]using hc) (.pure _))) (ih λx hx=>hg x (by simp[hx]))
 have G:=Le l a 0 (K false) _ (λH' hp=>by rw[hp];exact(T false).hd) (λH' _=>by have:=h.top;have:=S.Qn;omega) (E8 (q_9 _) (by have:=S.Qn;omega) h.bl) (run _ λe he=>(h.g e he).1)
 have out: ∀b,gq 1 cB.cell (K b) n3=some (b,(K b).set n3 .hole):=λb=>by unfold gq;rw[g3 b];rfl
 have fin: ∀b,(∀j,j<H.length->((K b).set n3 .hole)[j]? =H[j]?)/\H.length<=((K b).set n3 .hole).length:=λb=>⟨λj hj=>by grind,by simp[K,kl];omega⟩
 have hroot:(Jh H tr row false)[tr]? =some (ki s o (some a.ad) last ((a.fl l).length:Nat)):=nw (nw (nw h.obj))
 have pre: ∀{q x},Ev (λn=>gw n (Y n) n a.ad (K false)) q->Ev (λn=>bif q.1 then(gq 1 cB.cell q.2 n3).bind λq18=>some (false,q18.2)else(gq 1 cB.cell q.2 n3).bind λq19=>some (q19.1,q19.2)) x->Ev (λf=>kQ f tr row H) x:=λh1 h2=>by
  unfold kQ
  refine .ae rfl<|.ae rfl<|.ae rfl<|.ae (dj (x:=some tr) (r:=[]) (nw (nw (Mp rfl))) rfl)<|.ae rfl<|.ae (gO hroot)<|.ae rfl<|.bind (.of λn=>rfl) ?_
  refine .bind (.ae rfl ?_) h2
  unfold xu
  exact h1
 cases hc:(a.fl l).any (vo s row)with
 |true=>
  rw[hc,if_pos rfl]at G
  exact⟨_,pre G (.f rfl<|.ae (out true) (.pure _)),fin true⟩
 |false=>
  rw[hc,if_neg ψ]at G
  exact⟨_,pre G (.t rfl<|.ae (out false) (.pure _)),fin false⟩
end
set_option maxRecDepth 100000
def wG(p:Entry->Bool):List Entry->Option (Nat×Entry)
 |[]=>none
 |e::l=>if p e then some (0,e)else(wG p l).map λq=>(q.1+1,q.2)
def xH(s:az)(row:List Value)(key:Int)(e:Entry):Bool:=e.Key==key&&vo s row e
section
variable {s:az} {o l tr:Nat} {last:Int} {a:AT} {H:Hp}
def Ql(x:Entry):aN:=.cells [.d (.list 3 (List.map ay x.Row)),.d (.int .i64 x.Key),.d (.int .i64 x.Number)]
def EB(i:Int):aN:=.cells [.d (.int .i64 i)]
def Qm(b:Bool):aN:=.cells [.d (.bool b)]
def EX:Entry:=⟨[],0,0⟩
def Oc{α:Type}{c:Cc α}{H:Hp}{x:α}(h:H[i]? =some (.cells (c.enc x)))(hn:(c.enc x).length=n):gq n c H i=some (x,H.set i .hole):=by
 unfold gq
 rw[h]
 simp only[hn,if_true]
 have:=c.ed x []
 grind
def UL:Option (Nat×Entry)->Entry×Int×Bool
 |some (n,e)=>(e,(n:Int),true)
 |none=>(EX,0,false)
def KH(S:SI s o)(h:TI s o last l a H tr)(hr:bR s.aG row=true)(key:Int)(hl:(a.fl l).length<1000):
  ∃H',Ev (λf=>jo f tr row key H) (UL (wG (xH s row key) (a.fl l)),H')/\(∀j,j<H.length->H'[j]? =H[j]?)/\H.length<=H'.length:=by
 have hS:=jT S.ok
 let A1:Hp:=H++[.cells [.d (.ptr tr 0)]]
 let A2:Hp:=A1++[.cells [.d (.list 3 (List.map ay row))]]
 let A3:Hp:=A2++[EB key]
 let A4:Hp:=A3++[Ql EX]
 let A5:Hp:=A4++[EB 0]
 let A6:Hp:=A5++[Qm false]
 let F (x:Entry) (i:Int) (b:Bool) (k:Int):Hp:=A3++[Ql x]++[EB i]++[Qm b]++[EB k]
 let K (x:Entry) (i:Int) (b:Bool) (k:Int):Hp:=F x i b k++[.hole]
 have l1:A1.length=H.length+1:=by simp[A1]
 have l2:A2.length=H.length+2:=by simp[A2,l1]
 have l3:A3.length=H.length+3:=by simp[A3,l2]
 have l4:A4.length=H.length+4:=by simp[A4,l3]
 have l5:A5.length=H.length+5:=by simp[A5,l4]
 have l6:A6.length=H.length+6:=by simp[A6,l5]
 have f0: ∀x i b k j,j<H.length->(K x i b k)[j]? =H[j]? :=λx i b k j hj=>by
  grind
 have g1: ∀x i b k,(K x i b k)[H.length]? =some (.cells [.d (.ptr tr 0)]):=λ_ _ _ _=>nw (nw (nw (nw (nw (nw (nw (Mp rfl)))))))
 have g2: ∀x i b k,(K x i b k)[A1.length]? =some (.cells [.d (.list 3 (List.map ay row))]):=λ_ _ _ _=>nw (nw (nw (nw (nw (nw (Mp rfl))))))
 have g3: ∀x i b k,(K x i b k)[A2.length]? =some (EB key):=λ_ _ _ _=>nw (nw (nw (nw (nw (Mp rfl)))))
 have g4: ∀x i b k,(K x i b k)[A3.length]? =some (Ql x):=λ_ _ _ _=>nw (nw (nw (nw (Mp rfl))))
 have g5: ∀x i b k,(K x i b k)[A4.length]? =some (EB i):=λ_ _ _ _=>nw (nw (nw (Mp (by simp[l3,l4]))))
 have g6: ∀x i b k,(K x i b k)[A5.length]? =some (Qm b):=λ_ _ _ _=>nw (nw (Mp (by simp[l3,l5])))
 have g7: ∀x i b k,(K x i b k)[A6.length]? =some (EB k):=λ_ _ _ _=>nw (Mp (by simp[l3,l6]))
 have s4: ∀x i b k x',ee aP (K x i b k) A3.length 0 x'=some (K x' i b k):=λx i b k x'=>by
  rw[gQ (g4 x i b k) (h_0 3)]
  show some ((K x i b k).set A3.length (Ql x'))=_
  simp only[K,F]
  simp_all
 have s5: ∀x i b k i',ee (cI .i64) (K x i b k) A4.length 0 i'=some (K x i' b k):=λx i b k i'=>by
  rw[gQ (g5 x i b k) (by simp[cI,D.cells])]
  show some ((K x i b k).set A4.length (EB i'))=_
  simp only[K,F]
  simp_all
 have s6: ∀x i b k b',ee cB (K x i b k) A5.length 0 b'=some (K x i b' k):=λx i b k b'=>by
  rw[gQ (g6 x i b k) (by simp[cB,D.cells])]
  show some ((K x i b k).set A5.length (Qm b'))=_
  simp only[K,F]
  simp_all
 have s7: ∀x i b k k',ee (cI .i64) (K x i b k) A6.length 0 k'=some (K x i b k'):=λx i b k k'=>by
  rw[gQ (g7 x i b k) (by simp[cI,D.cells])]
  show some ((K x i b k).set A6.length (EB k'))=_
  simp only[K,F]
  simp_all
 have T: ∀x i b k,TI s o last l a (K x i b k) tr:=λx i b k=>h.fr (f0 x i b k)
 have kk: ∀x i b k,bE (cI .i64).cell (K x i b k) A6.length 0=some k:=λx i b k=>dj (r:=[]) (g7 x i b k) rfl
 let Y:=λ(n:Nat)=>gm n (A1,H.length) (A2,A1.length) (A3,A2.length) (A4,A3.length) (A5,A4.length) (A6,A5.length) (F EX 0 false 0,A6.length)
 have run: ∀(es:List Entry) (k:Nat),k+es.length<1000->(∀e∈es,gE s e)->rO (λG=> ∃k,G=K EX 0 false k) Y es (K EX 0 false k)
   (match wG (xH s row key) es with|some (n,e)=>(false,K e ((k+n:Nat):Int) true ((k+n:Nat):Int))|none=>(true,K EX 0 false ((k+es.length:Nat):Int))):=by
  intro es
  induction es with
  |nil=>intro k _ _;exact .nil ⟨_,rfl⟩
  |cons e es ih=>
   intro k hk hg
   simp only[j_4]at hk
   have R:=p7 s hS.2 (hg e ψ).fit hr hS.1
   have ih':=ih (k+1) ω λx hx=>hg x (by simp[hx])
   have M0:Ev (λn=>(bE (cI .i64).cell (K EX 0 false k) A6.length 0).bind λx64=>(ee (cI .i64) (K EX 0 false k) A6.length 0 (IntKind.wrap .i64 (x64+1))).bind λH65=>some (true,H65)) (true,K EX 0 false ((k+1:Nat):Int)):=by
    refine .ae (kk _ _ _ _) ?_
    rw[eC ω]
    exact .ae (s7 _ _ _ _ _) (.pure _)
   have key0:bE (cI .i64).cell (K EX 0 false k) A2.length 0=some key:=dj (r:=[]) (g3 _ _ _ _) rfl
   by_cases hm:xH s row key e=true
   .have:wG (xH s row key) (e::es)=some (0,e):=by simp[wG,hm]
    rw[this]
    simp only[xH,g_3,vo]at hm
    refine .stop ⟨_,rfl⟩ ?_
    show Ev (λn=>gm n _ _ _ _ _ _ _ e (K EX 0 false k)) _
    unfold gm
    refine .ae key0<|.t hm.1<|.ae (dj (x:=some tr) (r:=[]) (g1 _ _ _ _) rfl)<|.ae rfl<|.ae (jm (T _ _ _ _).obj)<|.ae (wF (c:=vw) (g2 _ _ _ _) rfl)<|.bind R<|.t hm.2<|
     .ae (kk _ _ _ _)<|.ae (s4 _ _ _ _ _)<|.ae (s5 _ _ _ _ _)<|.ae (s6 _ _ _ _ _)<|.ae (kk _ _ _ _) ?_
    exact .of λn=>zY
   .have hf:wG (xH s row key) (e::es)=(wG (xH s row key) es).map λq=>(q.1+1,q.2):=by simp[wG,hm]
    have st:Ev (λn=>Y n e (K EX 0 false k)) (true,K EX 0 false ((k+1:Nat):Int)):=by
     show Ev (λn=>gm n _ _ _ _ _ _ _ e (K EX 0 false k)) _
     unfold gm
     refine .ae key0 ?_
     simp only[xH,g_3,not_and,vo]at hm
     by_cases h1:(e.Key==key)=true
     .exact .t h1<|.ae (dj (x:=some tr) (r:=[]) (g1 _ _ _ _) rfl)<|.ae rfl<|.ae (jm (T _ _ _ _).obj)<|.ae (wF (c:=vw) (g2 _ _ _ _) rfl)<|.bind R<|.f (by simpa using hm h1) M0
     .exact .f (by simpa using h1) M0
    rw[hf]
    refine .go ⟨_,rfl⟩ st ?_
    cases hq:wG (xH s row key) es with
    |none=>
     rw[hq]at ih'
     simp only[Option.map_none,j_4]at ih' ⊢
     grind
    |some q=>
     obtain⟨n,x⟩:=q
     rw[hq]at ih'
     simp only[m_4]at ih' ⊢
     grind
 have G:=Le l a 0 (K EX 0 false 0) _ (λH' hp=>by obtain⟨k,rfl⟩:=hp;exact(T _ _ _ _).hd) (λH' _=>by have:=h.top;have:=S.Qn;omega) (E8 (q_9 _) (by have:=S.Qn;omega) h.bl) (run (a.fl l) 0 ω λe he=>(h.g e he).1)
 have hroot:(F EX 0 false 0)[tr]? =some (ki s o (some a.ad) last ((a.fl l).length:Nat)):=nw (nw (nw (nw (nw (nw (nw h.obj))))))
 have out: ∀x i b k,∃H',(gq 3 px.cells (K x i b k) A3.length).bind (λq69=>(gq 1 (cI .i64).cell q69.2 A4.length).bind λq70=>(gq 1 cB.cell q70.2 A5.length).bind λq71=>some (q69.1,q70.1,q71))=some (x,i,(b,H'))/\(∀j,j<H.length->H'[j]? =H[j]?)/\H.length<=H'.length:=λx i b k=>by
  have o1:gq 3 px.cells (K x i b k) A3.length=some (x,(K x i b k).set A3.length .hole):=Oc (c:=px.cells) (g4 x i b k) rfl
  have o2:gq 1 (cI .i64).cell ((K x i b k).set A3.length .hole) A4.length=some (i,((K x i b k).set A3.length .hole).set A4.length .hole):=by unfold gq;rw[g_1 ω,g5];rfl
  have o3:gq 1 cB.cell (((K x i b k).set A3.length .hole).set A4.length .hole) A5.length=some (b,(((K x i b k).set A3.length .hole).set A4.length .hole).set A5.length .hole):=by unfold gq;rw[g_1 ω,g_1 ω,g6];rfl
  refine⟨_,by rw[o1,j_5,o2,j_5,o3];rfl,λj hj=>?_,?_⟩
  .rw[g_1 ω,g_1 ω,g_1 ω];exact f0 _ _ _ _ j hj
  .simp[K,F,l3];omega
 have pre: ∀{q x},Ev (λn=>gw n (Y n) n a.ad (K EX 0 false 0)) q->Ev (λn=>bif q.1 then
    (gq 3 px.cells q.2 A3.length).bind λq69=>(gq 1 (cI .i64).cell q69.2 A4.length).bind λq70=>(gq 1 cB.cell q70.2 A5.length).bind λq71=>some ((EX,0,false),q71.2)
   else
    (gq 3 px.cells q.2 A3.length).bind λq72=>(gq 1 (cI .i64).cell q72.2 A4.length).bind λq73=>(gq 1 cB.cell q73.2 A5.length).bind λq74=>some ((q72.1,q73.1,q74.1),q74.2)) x->Ev (λf=>jo f tr row key H) x:=λh1 h2=>by
  unfold jo
  refine .ae rfl<|.ae rfl<|.ae rfl<|.ae rfl<|.ae rfl<|.ae rfl<|.ae rfl<|.ae (dj (x:=some tr) (r:=[]) (nw (nw (nw (nw (nw (nw (Mp rfl))))))) rfl)<|.ae rfl<|.ae (gO hroot)<|.ae rfl<|.bind (.of λn=>rfl) ?_
  refine .bind (.ae rfl ?_) h2
  unfold xu
  exact h1
 cases hc:wG (xH s row key) (a.fl l)with
 |none=>
  rw[hc]at G
  obtain⟨H',q1,q2,q3⟩:=out EX 0 false ((0+(a.fl l).length:Nat):Int)
  refine⟨H',pre G (.t rfl ?_),q2,q3⟩
  simp only[g_9,g_2,g_8]at q1
  obtain⟨z1,y1,z2,y2,z3,y3,r1,r2,r3⟩:=q1
  refine .ae y1<|.ae y2<|.ae y3 ?_
  rw[show z3.2=H' by rw[r3]]
  exact .pure _
 |some q=>
  obtain⟨n,e⟩:=q
  rw[hc]at G
  obtain⟨H',q1,q2,q3⟩:=out e ((0+n:Nat):Int) true ((0+n:Nat):Int)
  refine⟨H',pre G (.f rfl ?_),q2,q3⟩
  simp only[g_9,g_2,g_8]at q1
  obtain⟨z1,y1,z2,y2,z3,y3,r1,r2,r3⟩:=q1
  refine .ae y1<|.ae y2<|.ae y3 ?_
  rw[r1,r2,r3,q_4]
  exact .pure _
end
set_option maxRecDepth 100000
section
variable {s:az} {o l tr:Nat} {last:Int} {a:AT} {H:Hp}
structure FM(tr l:Nat)(a:AT)(l':Nat)(a':AT)(H H':Hp):Prop where
 fr: ∀j,j<H.length->j≠tr->j∉a.ft l->H'[j]? =H[j]?
 le:H.length<=H'.length
 ft: ∀j∈a'.ft l',j∈a.ft l\/H.length<=j
def FM.trans(h:FM tr l a l1 a1 H H1)(h':FM tr l1 a1 l2 a2 H1 H2):FM tr l a l2 a2 H H2:=by
 have:=h.le
 have:=h'.le
 refine⟨λj hj h1 h2=>?_,ω,λj hj=>?_⟩
 .rw[h'.fr j ω h1 λh3=>(h.ft j h3).elim h2 ω,h.fr j hj h1 h2]
 .rcases h'.ft j hj with h3|h3
  .exact h.ft j h3
  .right;omega
def FM.of(h: ∀j,j<H.length->H'[j]? =H[j]?)(h2:H.length<=H'.length):FM tr l a l a H H':=⟨λj hj _ _=>h j hj,h2,λj hj=>.inl hj⟩
def I0(h:cZ s x e=0):x.Number=e.Number:=by
 unfold cZ at h
 grind
def FQ{last:Int}(h:H[tr]? =some (ki s order root last cnt)):ee cP H tr 4 r=some (H.set tr (ki s order r last cnt)):=by
 cases r<;>exact gQ h (by simp[cP,D.cells])
def vF{last:Int}(h:H[tr]? =some (ki s order root last cnt)):ee (cI .i64) H tr 6 c=some (H.set tr (ki s order root last c)):=gQ h (by simp[cI,D.cells])
def Nl{last:Int}(h:H[tr]? =some (ki s order root last cnt)):ee (cI .i64) H tr 5 c=some (H.set tr (ki s order root c cnt)):=gQ h (by simp[cI,D.cells])
def Sq(h:TI s o last l a H tr)(he:gE s e)(hle:e.Number<=last)(hnum: ∀x∈a.fl l,x.Number≠e.Number)(hd:s.eD=1-> ∀x∈a.fl l,dN s.Down x.Row e.Row≠0):
  (∀x∈oS s e (a.fl l),gE s x/\x.Number<=last)/\zh s (oS s e (a.fl l))/\((oS s e (a.fl l)).map (·.Number)).Nodup/\(oS s e (a.fl l)).length=(a.fl l).length+1:=by
 have hg:=λx hx=>(h.g x hx).1
 have hn: ∀x∈a.fl l,cZ s x e≠0:=λx hx h0=>hnum x hx (I0 h0)
 have hp:=xT he h.Ay hg hn
 refine⟨λx hx=>?_,N8 he h.Ay hg hn hd,?_,by rw[hp.length_eq];rfl⟩
 .rcases(NZ he h.Ay hg hn).1 hx with rfl|hx
  .exact⟨he,hle⟩
  .exact h.g x hx
 .rw[(hp.map _).nodup_iff,h_3,List.nodup_cons]
  refine⟨λhm=>?_,h.num⟩
  grind
def Me(S:SI s o)(h:TI s o last l a H tr)(he:gE s e)(hle:e.Number<=last)(hnum: ∀x∈a.fl l,x.Number≠e.Number)(hd:s.eD=1-> ∀x∈a.fl l,dN s.Down x.Row e.Row≠0)(hl:(a.fl l).length<10000):
  ∃l' a' H',Ev (λf=>eG f tr e H) ((),H')/\TI s o last l' a' H' tr/\a'.fl l'=oS s e (a.fl l)/\FM tr l a l' a' H H':=by
 obtain⟨G1,G2,G3,G4⟩:=Sq h he hle hnum hd
 have hn: ∀x∈a.fl l,cZ s x e≠0:=λx hx h0=>hnum x hx (I0 h0)
 have hm1:1<=o / 2:=by have:=S.o3;omega
 have hft:(a.ft l).Nodup:=oE hm1 h.hd h.bl (tE h.Ay)
 obtain⟨a',H1,E1,P,F1,Z1,Z2⟩:=Se S.ok rfl S.o3 S.Qn he l a H h.hd h.bl hft h.nt h.obj h.top (λx hx=>(h.g x hx).1) h.Ay hn
 have htl:=(g_5.1 h.obj).1
 have hle1:=P.le
 have ht1:H1[tr]? =some (ki s o (some a.ad) last ((a.fl l).length:Nat)):=by rw[P.fr tr htl h.nt];exact h.obj
 have hself:H1[a.ad]? =some (dT a'.es (a'.ks.map gN)):=by rw[<-P.ad];exact P.hd.self
 have wc:IntKind.wrap .i64 (((a.fl l).length:Int)+1)=(((oS s e (a.fl l)).length:Nat):Int):=by rw[eC ω,G4]
 have hnt':tr∉a'.ft l:=λhx=>(P.ft tr hx).elim h.nt ω
 by_cases hs:a'.es.length<=o
 .have ti:TI s o last l a' (H1.set tr (ki s o (some a'.ad) last ((a'.fl l).length:Nat))) tr:=
   ⟨g_0 ω,P.hd.fr λj hj=>g_1 λh2=>hnt' (by rw[h2];exact hj),P.bl,hs,λh0=>by have:=h.one h0;omega,hnt',by rw[F1];exact G1,by rw[F1];exact G2,by rw[F1];exact G3⟩
  refine⟨l,a',_,?_,ti,F1,λj hj h1 h2=>by rw[g_1 (j_6 h1)];exact P.fr j hj h2,by simpa using hle1,P.ft⟩
  unfold eG
  refine .ae (gO h.obj)<|.ae rfl<|.bind E1<|.ae (gO ht1)<|.ae rfl<|.ae (dL hself)<|.ae (uU ht1)<|.f χ<|.ae (uV ht1) ?_
  rw[wc,P.ad,F1]
  exact .ae (vF ht1) (.pure _)
 .obtain⟨j,es',ks'⟩:=a'
  have hj:j=a.ad:=P.ad
  have hs: ¬es'.length<=o:=hs
  have Z2:es'.length<=a.es.length+1:=Z2
  have hlen:es'.length=o+1:=by have:=h.top;omega
  have hmid:(o+1) / 2<es'.length:=by have:=S.o3;omega
  obtain⟨L,up,R,rfl,hL⟩: ∃L up R,es'=L++up::R/\L.length=(o+1) / 2:=⟨es'.take ((o+1) / 2),es'[(o+1) / 2],es'.drop ((o+1) / 2+1),vr hmid,χ⟩
  have hRl:R.length=o - (o+1) / 2:=by simp at hlen;omega
  have hk'n:(AT.ft l (.nd j (L++up::R) ks')).Nodup:=oE hm1 P.hd P.bl (by rw[F1];exact tE G2)
  have X:=F7 P.hd hk'n P.bl
  have hself:H1[j]? =some (dT (L++up::R) (ks'.map λk=>some k.ad)):=P.hd.self
  have Y:Ev (λf=>nQ f j H1) ((up,some H1.length),H1.set j (dT L ((ks'.map λk=>some k.ad).take (L.length+1)))++[dT R ((ks'.map λk=>some k.ad).drop (L.length+1))]):=
   F8 hself φ P.hd.kl (show(L++up::R).length<900 by have:=S.Qn;omega)
  generalize hH2:H1.set j (dT L ((ks'.map λk=>some k.ad).take (L.length+1)))++[dT R ((ks'.map λk=>some k.ad).drop (L.length+1))]=H2 at X Y
  obtain⟨x1,x2,x3,x4,x5,x6,x7⟩:=X
  have hl2:H2.length=H1.length+1:=by rw[<-hH2];simp
  have htj:tr≠j:=λh2=>hnt' (by rw[h2];exact eU)
  have ht2:H2[tr]? =some (ki s o (some a.ad) last ((a.fl l).length:Nat)):=by grind
  let N:=AT.nd H2.length [up] [.nd j L (ks'.take (L.length+1)),.nd H1.length R (ks'.drop (L.length+1))]
  let H3:Hp:=H2++[dT [up] [some j,some H1.length]]
  have ht3:H3[tr]? =some (ki s o (some a.ad) last ((a.fl l).length:Nat)):=nw ht2
  let H4:Hp:=H3.set tr (ki s o (some H2.length) last ((a.fl l).length:Nat))
  have hl3:H3.length=H2.length+1:=by simp[H3]
  have ht4:H4[tr]? =some (ki s o (some H2.length) last ((a.fl l).length:Nat)):=g_0 ω
  let H5:Hp:=H4.set tr (ki s o (some H2.length) last ((oS s e (a.fl l)).length:Nat))
  have f5: ∀x,x≠tr->x<H2.length->H5[x]? =H2[x]? :=λx hx hx2=>by
   grind
  have hnl: ∀x∈AT.ft l (.nd j L (ks'.take (L.length+1))),x≠tr:=λx hx h2=>hnt' (by rw[<-h2];exact x6 x hx)
  have hnr: ∀x∈AT.ft l (.nd H1.length R (ks'.drop (L.length+1))),x≠tr:=λx hx h2=>by
   grind
  have hfl:N.fl (l+1)=oS s e (a.fl l):=by
   rw[<-F1,x5]
   simp[N,AT.fl,wv,ws]
  have hft: ∀x∈N.ft (l+1),x∈a.ft l\/H.length<=x:=λx hx=>by
   rcases eP.1 hx with rfl|⟨q,hq,hx⟩
   .right;omega
   .simp only[h_8,List.not_mem_nil,or_false]at hq
    rcases hq with rfl|rfl
    .exact P.ft x (x6 x hx)
    .rcases x7 x hx with h3|h3
     .right;omega
     .exact P.ft x h3
  have ti:TI s o last (l+1) N H5 tr:=by
   refine⟨by rw[hfl];exact g_0 (by simp[H4];omega),⟨rfl,?_,λq hq=>?_⟩,λq hq=>?_,by simp[N,AT.es];have:=S.o3;omega,λ_=>by simp[N,AT.es],λhx=>(hft tr hx).elim h.nt ω,by rw[hfl];exact G1,by rw[hfl];exact G2,by rw[hfl];exact G3⟩
   .show((H3.set tr _).set tr _)[H2.length]? =_
    rw[g_1 ω,g_1 ω]
    exact Mp rfl
   .simp only[h_8,List.not_mem_nil,or_false]at hq
    rcases hq with rfl|rfl
    .exact x1.fr λx hx=>f5 x (hnl x hx) (x1.lt x hx)
    .exact x2.fr λx hx=>f5 x (hnr x hx) (x2.lt x hx)
   .simp only[h_8,List.not_mem_nil,or_false]at hq
    have:=S.o3
    rcases hq with rfl|rfl
    .exact⟨by simp[AT.es];omega,by simp[AT.es];omega,x3⟩
    .exact⟨by simp[AT.es];omega,by simp[AT.es];omega,x4⟩
  refine⟨l+1,N,H5,?_,ti,hfl,λx hx h1 h2=>?_,by simp[H5,H4];omega,hft⟩
  .rw[hj]at hself Y
   unfold eG
   refine .ae (gO h.obj)<|.ae rfl<|.bind E1<|.ae (gO ht1)<|.ae rfl<|.ae (dL hself)<|.ae (uU ht1)<|.t (by simp at hlen ⊢;omega)<|.ae (gO ht1)<|.ae rfl<|.bind Y<|.ae rfl<|.ae (a:=(H3,H2.length)) ?_<|
    .ae (FQ ht3)<|.ae (uV ht4) ?_
   .rw[<-hj];rfl
   .rw[wc]
    exact .ae (vF ht4) (.pure _)
  .rw[f5 x h1 ω,<-hH2,h_6 χ,g_1,P.fr x hx h2]
   intro h3
   exact h2 (by rw[<-h3,hj];exact eU)
def Db(S:SI s o)(h:TI s o last l a H tr)(he:e∈a.fl l)(hl:(a.fl l).length<10000):
  ∃l' a' H',Ev (λf=>fB f tr e H) ((),H')/\TI s o last l' a' H' tr/\a'.fl l'=mQ s e (a.fl l)/\FM tr l a l' a' H H':=by
 have hm1:1<=o / 2:=by have:=S.o3;omega
 have hge:=(h.g e he).1
 have hft:(a.ft l).Nodup:=oE hm1 h.hd h.bl (tE h.Ay)
 obtain⟨a',H1,E1,P,F1,Z1,Z2⟩:=P4 S.ok rfl S.o3 S.Qn l a H e hge h.hd h.bl hft h.nt h.obj h.top h.one (λx hx=>(h.g x hx).1) h.Ay
 have htl:=(g_5.1 h.obj).1
 have hle1:=P.le
 have ht1:H1[tr]? =some (ki s o (some a.ad) last ((a.fl l).length:Nat)):=by rw[P.fr tr htl h.nt];exact h.obj
 have hself:H1[a.ad]? =some (dT a'.es (a'.ks.map gN)):=by rw[<-P.ad];exact P.hd.self
 have hdl:=Ov h.Ay (λx hx=>(h.g x hx).1) he
 have wc:IntKind.wrap .i64 (((a.fl l).length:Int) - 1)=(((mQ s e (a.fl l)).length:Nat):Int):=by rw[eo ω ω];omega
 have hnt':tr∉a'.ft l:=λhx=>(P.ft tr hx).elim h.nt ω
 have G1: ∀x∈mQ s e (a.fl l),gE s x/\x.Number<=last:=λx hx=>h.g x (Ba.1 hx).1
 have G2:zh s (mQ s e (a.fl l)):=Hg h.Ay
 have G3:((mQ s e (a.fl l)).map (·.Number)).Nodup:=h.num.sublist (sK.map _)
 have stay:(l≠0->1<=a'.es.length)->TI s o last l a' (H1.set tr (ki s o (some a'.ad) last ((a'.fl l).length:Nat))) tr:=λh1=>
  ⟨g_0 ω,P.hd.fr λj hj=>g_1 λh2=>hnt' (by rw[h2];exact hj),P.bl,by have:=h.top;omega,h1,hnt',by rw[F1];exact G1,by rw[F1];exact G2,by rw[F1];exact G3⟩
 have fm: ∀H2:Hp,H2.length=H1.length->(∀j,j≠tr->H2[j]? =H1[j]?)->(∀j,j<H.length->j≠tr->j∉a.ft l->H2[j]? =H[j]?)/\H.length<=H2.length:=λH2 e1 e2=>⟨λj hj h1 h2=>by rw[e2 j h1];exact P.fr j hj h2,ω⟩
 have same: ∀{c:Bool},Ev (λf=>bif ((a'.es.length:Int)==0)then(bE cP.cell H1 tr 4).bind λx9=>x9.bind λi10=>(cT f i10 H1).bind λr11=>some (!r11)else some false) false->
   (l≠0->1<=a'.es.length)-> ∃l' a'' H',Ev (λf=>fB f tr e H) ((),H')/\TI s o last l' a'' H' tr/\a''.fl l'=mQ s e (a.fl l)/\FM tr l a l' a'' H H':=λ{c} hE h1=>by
  have q:=fm (H1.set tr (ki s o (some a'.ad) last ((a'.fl l).length:Nat))) ψ λj hj=>g_1 (j_6 hj)
  refine⟨l,a',_,?_,stay h1,F1,q.1,q.2,P.ft⟩
  unfold fB
  refine .ae (gO h.obj)<|.ae rfl<|.bind E1<|.bz<|.ae (gO ht1)<|.ae rfl<|.ae (dL hself) ?_
  by_cases h0:a'.es.length=0
  .have hz:((a'.es.length:Int)==0)=true:=by simp[h0]
   refine .t hz<|.ae (gO ht1)<|.ae rfl ?_
   have lf:=ew hself
   have hE':Ev (λf=>(bE cP.cell H1 tr 4).bind λx9=>x9.bind λi10=>(cT f i10 H1).bind λr11=>some (!r11)) false:=by
    grind
   have lf2:Ev (λf=>(bE cP.cell H1 tr 4).bind λx9=>x9.bind λi10=>(cT f i10 H1).bind λr11=>some (!r11)) (!decide (a'.ks.map gN=[])):=.ae (gO ht1)<|.ae rfl<|.bind lf (.pure _)
   have:=lf2.VA hE'
   refine .bind lf<|.f this<|.ae (uV ht1) ?_
   rw[wc,P.ad,F1]
   exact .ae (vF ht1) (.pure _)
  .refine .f (by simpa using h0)<|.f rfl<|.ae (uV ht1) ?_
   rw[wc,P.ad,F1]
   exact .ae (vF ht1) (.pure _)
 by_cases h0:a'.es.length=0/\l≠0
 .obtain⟨h0,hl0⟩:=h0
  obtain⟨i,es,ks⟩:=a'
  obtain⟨l,rfl⟩: ∃k,l=k+1:=⟨l - 1,ω⟩
  have h0:es.length=0:=h0
  have hes:es=[]:=q_3.1 h0
  subst hes
  have hk:=P.hd.1
  match ks,hk with
  |[k],_=>
   have hkb:=P.bl k ψ
   have hkh:=P.hd.2.2 k ψ
   have hkt: ∀x∈k.ft l,x∈AT.ft (l+1) (.nd i [] [k]):=λx hx=>eP.2 (.inr ⟨k,ψ,hx⟩)
   have hkfl:k.fl l=mQ s e (a.fl (l+1)):=by rw[<-F1];simp[AT.fl,wv,ws]
   let H2:Hp:=H1.set tr (ki s o (some k.ad) last ((a.fl (l+1)).length:Nat))
   have ht2:H2[tr]? =some (ki s o (some k.ad) last ((a.fl (l+1)).length:Nat)):=g_0 ω
   let H3:Hp:=H2.set tr (ki s o (some k.ad) last ((mQ s e (a.fl (l+1))).length:Nat))
   have f3: ∀x,x≠tr->H3[x]? =H1[x]? :=λx hx=>by
    grind
   have ti:TI s o last l k H3 tr:=⟨φ,hkh.fr λx hx=>f3 x λh2=>hnt' (by rw[<-h2];exact hkt x hx),hkb.2.2,hkb.2.1,λ_=>by omega,λhx=>hnt' (hkt tr hx),
    by rw[hkfl];exact G1,by rw[hkfl];exact G2,by rw[hkfl];exact G3⟩
   have q:=fm H3 (by simp[H3,H2]) f3
   refine⟨l,k,H3,?_,ti,hkfl,q.1,q.2,λx hx=>P.ft x (hkt x hx)⟩
   unfold fB
   refine .ae (gO h.obj)<|.ae rfl<|.bind E1<|.bz<|.ae (gO ht1)<|.ae rfl<|.ae (dL hself)<|.t rfl<|.ae (gO ht1)<|.ae rfl<|.bind (ew hself)<|.t rfl<|
    .ae (gO ht1)<|.ae rfl<|.ae (dK hself)<|.ae (show idx _ 0=some (some k.ad)from rfl)<|.ae (FQ ht1)<|.ae (uV ht2) ?_
   rw[wc]
   exact .ae (vF ht2) (.pure _)
 .refine same (c:=true) ?_ λhl0=>by omega
  by_cases hz:a'.es.length=0
  .have hl0:l=0:=by omega
   subst hl0
   have hks:a'.ks=[]:=by
    have:=P.hd
    cases a'
    exact this.1
   refine .t (by simp[hz])<|.ae (gO ht1)<|.ae rfl<|.bind (ew hself) ?_
   simp only[hks]
   exact .pure _
  .exact .f (by simpa using hz) (.pure _)
end
set_option maxRecDepth 100000
def pM(s:az)(row:List Value)(key:Int):Bool:=bR s.aG row&&(decide (1<=key)&&decide (key<=1000000))
def wy(s:az)(row:List Value)(key:Int)(last:Int)(fl:List Entry):(Int×Int)×Int×List Entry:=
 if pM s row key=false then((0,1),last,fl)
 else if s.eD=1/\fl.any (vo s row)=true then((0,6),last,fl)
 else((last+1,0),last+1,oS s ⟨row,key,last+1⟩ fl)
def Gg(s:az)(row:List Value)(key:Int)(fl:List Entry):Int×List Entry:=
 if pM s row key=false then(1,fl)
 else match wG (xH s row key) fl with
  |none=>(8,fl)
  |some (_,e)=>(0,mQ s e fl)
def zw(s:az)(row:List Value)(key:Int)(wth:List Value)(last:Int)(fl:List Entry):Int×Int×List Entry:=
 if pM s row key=false\/bR s.aG wth=false then(1,last,fl)
 else match wG (xH s row key) fl with
  |none=>(8,last,fl)
  |some (_,e)=>if dN s.Down row wth=0 then(0,last,fl)
   else if s.eD=1/\fl.any (vo s wth)=true then(6,last,fl)
   else(0,last+1,oS s ⟨wth,key,last+1⟩ (mQ s e fl))
def sG{p:Entry->Bool}: ∀{l:List Entry} {n:Nat} {e:Entry},wG p l=some (n,e)->l[n]? =some e/\p e=true
 |[],_,_,h=>by simp[wG]at h
 |x::l,n,e,h=>by
  simp only[wG]at h
  split at h
  .grind
  .simp only[g_4,g_8]at h
   obtain⟨⟨n',e'⟩,h1,rfl,rfl⟩:=h
   have:=sG h1
   grind
section
variable {s:az} {o l tr:Nat} {last:Int} {a:AT} {H:Hp}
def OC(f:Nat)(h:r.length<1000):dx f r=some r:=KZ f h
def BR(h:TI s o last l a H tr)(hr:row.length<1000):Ev (λf=>hU f tr row key H) (if pM s row key=true then 0 else 1):=by
 unfold hU pM
 refine .ae (jm h.obj)<|.bind (wH s row hr) ?_
 cases bR s.aG row with
 |false=>exact .t rfl (.pure _)
 |true=>
  refine .f rfl ?_
  refine .ae (Jf 0 key) ?_
  cases hk:(decide (1<=key)&&decide (key<=1000000))with
  |false=>exact .t rfl (.pure _)
  |true=>exact .f rfl (.pure _)
def qu(h:pM s row key=true):bR s.aG row=true/\1<=key/\key<=1000000:=by
 simp only[pM,g_3,decide_eq_true_eq]at h
 exact⟨h.1,h.2.1,h.2.2⟩
def TI.next(h:TI s o last l a H tr):TI s o (last+1) l a (H.set tr (ki s o (some a.ad) (last+1) ((a.fl l).length:Nat))) tr/\FM tr l a l a H (H.set tr (ki s o (some a.ad) (last+1) ((a.fl l).length:Nat))):=
 ⟨{h with obj:=g_0 (g_5.1 h.obj).1,hd:=h.hd.fr λj hj=>g_1 λh2=>h.nt (by rw[h2];exact hj),g:=λx hx=>⟨(h.g x hx).1,by have:=(h.g x hx).2;omega⟩},
  λj hj h1 h2=>g_1 (j_6 h1),ψ,λj hj=>.inl hj⟩
def O6(S:SI s o)(h:TI s o last l a H tr)(hr:row.length<1000)(ha:bR s.aG row=true)(hk:1<=key/\key<=1000000)(hd:s.eD=1-> ∀x∈a.fl l,dN s.Down x.Row row≠0)(h0:0<=last)(h1:last<10000)(hl:(a.fl l).length<10000):
  ∃l' a' H' H1,ee (cI .i64) H tr 5 (IntKind.wrap .i64 (last+1))=some H1/\bE (cI .i64).cell H1 tr 5=some (last+1)/\Ev (λf=>eG f tr (⟨row,key,last+1⟩:Entry) H1) ((),H')/\TI s o (last+1) l' a' H' tr/\a'.fl l'=oS s ⟨row,key,last+1⟩ (a.fl l)/\FM tr l a l' a' H H':=by
 obtain⟨t1,f1⟩:=h.next
 have he:gE s ⟨row,key,last+1⟩:=⟨by simp[pQ,ha,hk.1,hk.2];omega,by unfold i64;simp only;omega⟩
 obtain⟨l',a',H',E,T,F,M⟩:=Me S t1 he ψ (λx hx h2=>by have:=(h.g x hx).2;simp only at h2;omega) hd hl
 exact⟨l',a',H',_,by rw[eo ω ω];exact Nl h.obj,tA t1.obj,E,T,F,f1.trans M⟩
def Av(S:SI s o)(h:TI s o last l a H tr)(hr:row.length<1000)(h0:0<=last)(h1:last<10000)(hl:(a.fl l).length<500):
  ∃l' a' H',Ev (λf=>eI f tr row key H) ((wy s row key last (a.fl l)).1,H')/\TI s o (wy s row key last (a.fl l)).2.1 l' a' H' tr/\a'.fl l'=(wy s row key last (a.fl l)).2.2/\FM tr l a l' a' H H':=by
 have A:=BR h (key:=key) hr
 unfold wy
 cases hk:pM s row key with
 |false=>
  rw[hk]at A
  simp only[g_7,if_false,if_true]at A ⊢
  refine⟨l,a,H,?_,h,rfl,.of (λ_ _=>rfl) (h_0 _)⟩
  unfold eI
  exact .bind A<|.t rfl (.pure _)
 |true=>
  rw[hk]at A
  simp only[Bool.true_eq_false,if_false,if_true]at A ⊢
  obtain⟨k1,k2⟩:=qu hk
  have add: ∀{H0:Hp},TI s o last l a H0 tr->FM tr l a l a H H0->(s.eD=1-> ∀x∈a.fl l,dN s.Down x.Row row≠0)->
    ∃l' a' H',Ev (λf=>(bE (cI .i64).cell H0 tr 5).bind λx8=>(ee (cI .i64) H0 tr 5 (IntKind.wrap .i64 (x8+1))).bind λH9=>(dx f row).bind λr10=>(bE (cI .i64).cell H9 tr 5).bind λx11=>
     (eG f tr (⟨r10,key,x11⟩:Entry) H9).bind λr12=>(bE (cI .i64).cell r12.2 tr 5).bind λx13=>some ((x13,(0:Int)),r12.2)) ((last+1,0),H')/\TI s o (last+1) l' a' H' tr/\a'.fl l'=oS s ⟨row,key,last+1⟩ (a.fl l)/\FM tr l a l' a' H H':=by
   intro H0 t0 f0 hd
   obtain⟨l',a',H',H1,e1,e2,E,T,F,M⟩:=O6 S t0 (key:=key) hr k1 k2 hd h0 h1 ω
   exact⟨l',a',H',.ae (tA t0.obj)<|.ae e1<|.bind (.of λn=>OC n hr)<|.ae e2<|.bind E<|.ae (tA T.obj) (.pure _),T,F,f0.trans M⟩
  have lim: ∀{H0:Hp},TI s o last l a H0 tr->decide (((a.fl l).length:Int)>=500)=false:=λ_=>by simp;omega
  by_cases hd:s.eD=1
  .obtain⟨H0,E0,F0,L0⟩:=Ob S h k1
   have t0:=h.fr F0
   have m0:FM tr l a l a H H0:=.of F0 L0
   cases hh:(a.fl l).any (vo s row)with
   |true=>
    rw[hh]at E0
    rw[if_pos ⟨hd,rfl⟩]
    refine⟨l,a,H0,?_,t0,rfl,m0⟩
    unfold eI
    exact .bind A<|.f rfl<|.bz<|.ae (xm h.obj)<|.t (by simp[hd])<|.bind E0<|.t rfl (.pure _)
   |false=>
    rw[hh]at E0
    rw[if_neg ψ]
    obtain⟨l',a',H',E,T,F,M⟩:=add t0 m0 λ_ x hx h2=>by
     have:=List.any_eq_false.1 hh x hx
     simp[vo,h2]at this
    refine⟨l',a',H',?_,T,F,M⟩
    unfold eI
    exact .bind A<|.f rfl<|.bz<|.ae (xm h.obj)<|.t (by simp[hd])<|.bind E0<|.f rfl<|.ae (uV t0.obj)<|.f (lim t0) E
  .rw[if_neg λh2=>hd h2.1]
   obtain⟨l',a',H',E,T,F,M⟩:=add h (.of (λ_ _=>rfl) (h_0 _)) λh2=>absurd h2 hd
   refine⟨l',a',H',?_,T,F,M⟩
   unfold eI
   exact .bind A<|.f rfl<|.bz<|.ae (xm h.obj)<|.f (by simpa using hd)<|.ae (uV h.obj)<|.f (lim h) E
def IK(S:SI s o)(h:TI s o last l a H tr)(hr:row.length<1000)(hl:(a.fl l).length<500):
  ∃l' a' H',Ev (λf=>gG f tr row key H) ((Gg s row key (a.fl l)).1,H')/\TI s o last l' a' H' tr/\a'.fl l'=(Gg s row key (a.fl l)).2/\FM tr l a l' a' H H':=by
 have A:=BR h (key:=key) hr
 unfold Gg
 cases hk:pM s row key with
 |false=>
  rw[hk]at A
  simp only[g_7,if_false,if_true]at A ⊢
  refine⟨l,a,H,?_,h,rfl,.of (λ_ _=>rfl) (h_0 _)⟩
  unfold gG
  exact .bind A<|.t rfl (.pure _)
 |true=>
  rw[hk]at A
  simp only[Bool.true_eq_false,if_false,if_true]at A ⊢
  obtain⟨H0,E0,F0,L0⟩:=KH S h (qu hk).1 key ω
  have t0:=h.fr F0
  have m0:FM tr l a l a H H0:=.of F0 L0
  cases hf:wG (xH s row key) (a.fl l)with
  |none=>
   rw[hf]at E0
   refine⟨l,a,H0,?_,t0,rfl,m0⟩
   unfold gG
   exact .bind A<|.f rfl<|.bind E0<|.t rfl (.pure _)
  |some q=>
   obtain⟨n,e⟩:=q
   rw[hf]at E0
   obtain⟨l',a',H',E,T,F,M⟩:=Db S t0 (k_2 (sG hf).1) ω
   refine⟨l',a',H',?_,T,F,m0.trans M⟩
   unfold gG
   exact .bind A<|.f rfl<|.bind E0<|.f rfl<|.bind E (.pure _)
def LH(S:SI s o)(h:TI s o last l a H tr)(hr:row.length<1000)(hw:wth.length<1000)(h0:0<=last)(h1:last<10000)(hl:(a.fl l).length<500):
  ∃l' a' H',Ev (λf=>eK f tr row key wth H) ((zw s row key wth last (a.fl l)).1,H')/\TI s o (zw s row key wth last (a.fl l)).2.1 l' a' H' tr/\a'.fl l'=(zw s row key wth last (a.fl l)).2.2/\FM tr l a l' a' H H':=by
 have A:=BR h (key:=key) hr
 have hS:=jT S.ok
 unfold zw
 have bad:(pM s row key=false\/bR s.aG wth=false)->Ev (λf=>eK f tr row key wth H) (1,H):=λhb=>by
  unfold eK
  refine .bind A<|.bz ?_
  cases hk:pM s row key with
  |false=>exact .t rfl<|.t rfl (.pure _)
  |true=>
   have hz:=hb.resolve_left (by simp[hk])
   have W:=wH s wth hw
   rw[hz]at W
   exact .f rfl<|.ae (jm h.obj)<|.bind W<|.t rfl (.pure _)
 by_cases hb:pM s row key=false\/bR s.aG wth=false
 .rw[if_pos hb]
  exact⟨l,a,H,bad hb,h,rfl,.of (λ_ _=>rfl) (h_0 _)⟩
 .rw[if_neg hb]
  simp only[not_or,Bool.not_eq_false]at hb
  obtain⟨hk,hz⟩:=hb
  obtain⟨k1,k2⟩:=qu hk
  rw[hk]at A
  have W:=wH s wth hw
  rw[hz]at W
  obtain⟨H0,E0,F0,L0⟩:=KH S h k1 key ω
  have t0:=h.fr F0
  have m0:FM tr l a l a H H0:=.of F0 L0
  cases hf:wG (xH s row key) (a.fl l)with
  |none=>
   rw[hf]at E0
   refine⟨l,a,H0,?_,t0,rfl,m0⟩
   unfold eK
   exact .bind A<|.bz<|.f rfl<|.ae (jm h.obj)<|.bind W<|.f rfl<|.bind E0<|.bz<|.t rfl (.pure _)
  |some q=>
   obtain⟨n,e⟩:=q
   rw[hf]at E0
   have hem:=k_2 (sG hf).1
   have R:=p7 s hS.2 k1 hz hS.1
   by_cases hc:dN s.Down row wth=0
   .simp only[hc,if_true]
    refine⟨l,a,H0,?_,t0,rfl,m0⟩
    unfold eK
    exact .bind A<|.bz<|.f rfl<|.ae (jm h.obj)<|.bind W<|.f rfl<|.bind E0<|.bz<|.f rfl<|.ae (jm t0.obj)<|.bind R<|.t (by simp[hc]) (.pure _)
   .simp only[hc,if_false]
    have put: ∀{H1:Hp},TI s o last l a H1 tr->FM tr l a l a H H1->(s.eD=1-> ∀x∈a.fl l,dN s.Down x.Row wth≠0)->
      ∃l' a' H',Ev (λf=>(fB f tr e H1).bind λr13=>(bE (cI .i64).cell r13.2 tr 5).bind λx14=>(ee (cI .i64) r13.2 tr 5 (IntKind.wrap .i64 (x14+1))).bind λH15=>(dx f wth).bind λr16=>
       (bE (cI .i64).cell H15 tr 5).bind λx17=>(eG f tr (⟨r16,key,x17⟩:Entry) H15).bind λr18=>some ((0:Int),r18.2)) (0,H')/\TI s o (last+1) l' a' H' tr/\a'.fl l'=oS s ⟨wth,key,last+1⟩ (mQ s e (a.fl l))/\FM tr l a l' a' H H':=by
     intro H1 t1 m1 hd
     obtain⟨l2,a2,H2,E2,T2,F2,M2⟩:=Db S t1 hem ω
     have hlen:(a2.fl l2).length<=(a.fl l).length:=by rw[F2];exact sK.length_le
     obtain⟨l3,a3,H3,H3',e1,e2,E3,T3,F3,M3⟩:=O6 S T2 (key:=key) hw hz k2 (λh2 x hx=>hd h2 x (by rw[F2]at hx;exact(Ba.1 hx).1)) h0 h1 ω
     exact⟨l3,a3,H3,.bind E2<|.ae (tA T2.obj)<|.ae e1<|.bind (.of λn=>OC n hw)<|.ae e2<|.bind E3 (.pure _),T3,by rw[F3,F2],(m1.trans M2).trans M3⟩
    by_cases hd:s.eD=1
    .obtain⟨H1,E1,G1,L1⟩:=Ob S t0 hz
     have t1:=t0.fr G1
     have m1:FM tr l a l a H H1:=m0.trans (.of G1 L1)
     cases hh:(a.fl l).any (vo s wth)with
     |true=>
      rw[hh]at E1
      rw[if_pos ⟨hd,rfl⟩]
      refine⟨l,a,H1,?_,t1,rfl,m1⟩
      unfold eK
      exact .bind A<|.bz<|.f rfl<|.ae (jm h.obj)<|.bind W<|.f rfl<|.bind E0<|.bz<|.f rfl<|.ae (jm t0.obj)<|.bind R<|.f (by simpa using hc)<|.ae (xm t0.obj)<|.t (by simp[hd])<|.bind E1<|.t rfl (.pure _)
     |false=>
      rw[hh]at E1
      rw[if_neg ψ]
      obtain⟨l',a',H',E,T,F,M⟩:=put t1 m1 λ_ x hx h2=>by
       have:=List.any_eq_false.1 hh x hx
       simp[vo,h2]at this
      refine⟨l',a',H',?_,T,F,M⟩
      unfold eK
      exact .bind A<|.bz<|.f rfl<|.ae (jm h.obj)<|.bind W<|.f rfl<|.bind E0<|.bz<|.f rfl<|.ae (jm t0.obj)<|.bind R<|.f (by simpa using hc)<|.ae (xm t0.obj)<|.t (by simp[hd])<|.bind E1<|.f rfl E
    .rw[if_neg λh2=>hd h2.1]
     obtain⟨l',a',H',E,T,F,M⟩:=put t0 m0 λh2=>absurd h2 hd
     refine⟨l',a',H',?_,T,F,M⟩
     unfold eK
     exact .bind A<|.bz<|.f rfl<|.ae (jm h.obj)<|.bind W<|.f rfl<|.bind E0<|.bz<|.f rfl<|.ae (jm t0.obj)<|.bind R<|.f (by simpa using hc)<|.ae (xm t0.obj)<|.f (by simpa using hd) E
end
set_option maxRecDepth 100000
def OA(hk:v.Kind=w.Kind):iO w v= - iO v w:=by
 unfold iO
 rw[hk]
 split
 .omega
 .exact wM _ _
def DF(hk:v.Kind=w.Kind):sM d v w=0<->iO v w=0:=by
 unfold sM
 cases d with
 |false=>simp
 |true=>rw[if_pos rfl,OA hk];omega
section
variable {s:az}
def zN(hS:qI s=true)(ha:bR s.aG a=true)(hb:bR s.aG b=true):Ev (λf=>ku f a b) (dN s.Down a b==0):=by
 have hs:=jT hS
 have la:=gk ha
 have lb:=gk hb
 have L: ∀(d k:Nat),k+d=a.length->(dN (s.Down.drop k) (a.drop k) (b.drop k)=0->mi (λf=>cN f a b) (k:Int) (.inl ()))/\
   (dN (s.Down.drop k) (a.drop k) (b.drop k)≠0-> ∃c,c≠0/\mi (λf=>cN f a b) (k:Int) (.inr c)):=by
  intro d
  induction d with
  |zero=>
   intro k hk
   have e:dN (s.Down.drop k) (a.drop k) (b.drop k)=0:=by
    rw[List.drop_eq_nil_of_le (show a.length<=k by omega)]
    cases s.Down.drop k<;>rfl
   refine⟨λ_=>.stop ?_,λh=>absurd e h⟩
   unfold cN
   exact .bz<|.f (oY ω)<|.f rfl (.pure _)
  |succ d ih=>
   intro k hk
   have k1:k<a.length:=by omega
   have k2:k<b.length:=by omega
   have k3:k<s.Down.length:=by omega
   have fa:=lX ha k ω k1
   have fb:=lX hb k ω k2
   have hkk:a[k].Kind=b[k].Kind:=by rw[fa.1,fb.1]
   have C:=vt fa.2 fb.2 hkk
   rw[aZ k1,aZ k2,aZ k3]
   simp only[dN]
   have pre: ∀{x},Ev (λf=>bif (tG (iO a[k] b[k]) !=0)then some (Sum.inr (.inr (tG (iO a[k] b[k]))))else some (.inl ((k+1:Nat):Int))) x->Ev (λf=>cN f a b (k:Int)) x:=λhE=>by
    unfold cN
    refine .bz<|.t (gu k1)<|.t (gu k2)<|.ae (aH k1)<|.ae (aH k2)<|.bind C ?_
    rw[eC ω]
    exact hE
   by_cases hz:iO a[k] b[k]=0
   .rw[if_pos ((DF hkk).2 hz)]
    have st:=pre (.f (by simp[hz,tG]) (.pure _))
    obtain⟨i1,i2⟩:=ih (k+1) ω
    refine⟨λh=>.next st (i1 h),λh=>?_⟩
    obtain⟨c,hc,e⟩:=i2 h
    exact⟨c,hc,.next st e⟩
   .have hz':=mt (DF (d:=s.Down[k]) hkk).1 hz
    rw[if_neg hz']
    have hsg:tG (iO a[k] b[k])≠0:=mt (qb _).1 hz
    exact⟨λh=>absurd h hz',λ_=>⟨_,hsg,.stop (pre (.t (by simpa using hsg) (.pure _)))⟩⟩
 obtain⟨L1,L2⟩:=L a.length 0 ω
 simp only[q_1]at L1 L2
 unfold ku gv
 by_cases hz:dN s.Down a b=0
 .refine .bind (a:=0) (.bind (L1 hz).ev<|.bind (a:=0) (.of λn=>?_) (.pure _)) ?_
  .rw[zP,show((a.length:Int) - b.length)=0 by omega];rfl
  .rw[hz];exact .pure _
 .obtain⟨c,hc,e⟩:=L2 hz
  refine .bind (a:=c) (.bind e.ev (.pure _)) ?_
  rw[show(dN s.Down a b==0)=(c==0)by grind]
  exact .pure _
variable {o:Int} {last:Int} {fl:List Entry}
def Qi(hS:qI s=true)(hr:bR s.aG row=true)(hg: ∀e∈fl,gE s e)(hl:fl.length<1000):Ev (λf=>oP f (⟨s,o,fl,last⟩:Tree) row) (fl.any (vo s row)):=by
 have L: ∀(q:List Entry) (k:Nat),fl.drop k=q->k<=fl.length->mi (λf=>iT f (⟨s,o,fl,last⟩:Tree) row) (k:Int) (if q.any (vo s row)then .inr true else .inl ()):=by
  intro q
  induction q with
  |nil=>
   intro k hd hk
   have hk2:fl.length<=k:=by simpa using hd
   refine .stop ?_
   unfold iT
   exact .f (oY hk2) (.pure _)
  |cons e q ih=>
   intro k hd hk
   have hk1:k<fl.length:=by
    grind
   have hek:fl[k]=e:=by rw[aZ hk1]at hd;exact(j_1 hd).1
   have hdl:fl.drop (k+1)=q:=by rw[aZ hk1]at hd;exact(j_1 hd).2
   have R:=zN hS (hg e (hek▸j_0 hk1)).fit hr
   have pre: ∀{x},Ev (λf=>bif (dN s.Down e.Row row==0)then some (Sum.inr (.inr true))else some (.inl ((k+1:Nat):Int))) x->Ev (λf=>iT f (⟨s,o,fl,last⟩:Tree) row (k:Int)) x:=λhE=>by
    unfold iT
    refine .t (gu hk1)<|.ae (aH hk1) ?_
    rw[hek,eC ω]
    exact .bind R hE
   rw[List.any_cons]
   by_cases hc:vo s row e=true
   .rw[hc,Bool.true_or,if_pos rfl]
    exact .stop (pre (.t hc (.pure _)))
   .rw[show vo s row e=false by simpa using hc,Bool.false_or]
    exact .next (pre (.f (by simpa[vo]using hc) (.pure _))) (ih (k+1) hdl ω)
 unfold oP
 refine .bind (L fl 0 rfl ω).ev ?_
 cases fl.any (vo s row)<;>exact .pure _
def UM:Option (Nat×Entry)->Int
 |some (n,_)=>(n:Int)
 |none=> -1
def NG(hS:qI s=true)(hr:bR s.aG row=true)(hg: ∀e∈fl,gE s e)(hl:fl.length<1000):Ev (λf=>ou f (⟨s,o,fl,last⟩:Tree) row key) (UM (wG (xH s row key) fl)):=by
 have L: ∀(q:List Entry) (k:Nat),fl.drop k=q->k<=fl.length->mi (λf=>ia f (⟨s,o,fl,last⟩:Tree) row key) (k:Int) (match wG (xH s row key) q with|some (n,_)=>.inr ((k+n:Nat):Int)|none=>.inl ()):=by
  intro q
  induction q with
  |nil=>
   intro k hd hk
   have hk2:fl.length<=k:=by simpa using hd
   refine .stop ?_
   unfold ia
   exact .f (oY hk2) (.pure _)
  |cons e q ih=>
   intro k hd hk
   have hk1:k<fl.length:=by
    grind
   have hek:fl[k]=e:=by rw[aZ hk1]at hd;exact(j_1 hd).1
   have hdl:fl.drop (k+1)=q:=by rw[aZ hk1]at hd;exact(j_1 hd).2
   have R:=zN hS (hg e (hek▸j_0 hk1)).fit hr
   have ih':=ih (k+1) hdl ω
   by_cases hm:xH s row key e=true
   .have hf:wG (xH s row key) (e::q)=some (0,e):=by simp[wG,hm]
    rw[hf]
    simp only[xH,g_3,vo]at hm
    refine .stop ?_
    unfold ia
    refine .t (gu hk1)<|.ae (aH hk1) ?_
    rw[hek]
    refine .t hm.1<|.ae (aH hk1) ?_
    rw[hek]
    exact .bind R<|.t hm.2 (.pure _)
   .have hf:wG (xH s row key) (e::q)=(wG (xH s row key) q).map λq=>(q.1+1,q.2):=by simp[wG,hm]
    have st:Ev (λf=>ia f (⟨s,o,fl,last⟩:Tree) row key (k:Int)) (.inl ((k+1:Nat):Int)):=by
     simp only[xH,g_3,not_and,vo]at hm
     unfold ia
     refine .t (gu hk1)<|.ae (aH hk1) ?_
     rw[hek,eC ω]
     by_cases h1:(e.Key==key)=true
     .refine .t h1<|.ae (aH hk1) ?_
      rw[hek]
      exact .bind R<|.f (by simpa using hm h1) (.pure _)
     .exact .f (by simpa using h1) (.pure _)
    rw[hf]
    refine .next st ?_
    cases hq:wG (xH s row key) q with
    |none=>rw[hq]at ih';exact ih'
    |some z=>
     grind
 unfold ou
 refine .bind (L fl 0 rfl ω).ev ?_
 cases wG (xH s row key) fl with
 |none=>exact .pure _
 |some q=>obtain⟨n,x⟩:=q;simp only[q_4];exact .pure _
def NC(hS:qI s=true)(he:gE s e)(hg: ∀x∈A++B,gE s x)(hA: ∀x∈A,cZ s x e<0)(hB: ∀x∈B,0<=cZ s x e)(hl:(A++B).length<1000):
  Ev (λf=>lp f (⟨s,o,A++B,last⟩:Tree) e) (⟨s,o,A++e::B,last⟩:Tree):=by
 have L: ∀(d k:Nat),k+d=A.length->mi (λf=>jv f (⟨s,o,A++B,last⟩:Tree) e) (k:Int) (A.length:Int):=by
  intro d
  induction d with
  |zero=>
   intro k hk
   have hk:k=A.length:=by omega
   subst hk
   refine .stop ?_
   unfold jv
   by_cases hb:A.length<(A++B).length
   .have hx:=hg _ (j_0 hb)
    have hge:0<=cZ s (A++B)[A.length] e:=by grind
    exact .t (gu hb)<|.ae (aH hb)<|.bind (vh hS hx.fit he.fit)<|.f (decide_eq_false (show ¬cZ s (A++B)[A.length] e<0 by omega)) (.pure _)
   .exact .f (oY (show(A++B).length<=A.length by omega)) (.pure _)
  |succ d ih=>
   intro k hk
   have hka:k<A.length:=by omega
   have hb:k<(A++B).length:=by simp;omega
   have hx:=hg _ (j_0 hb)
   have hlt:cZ s (A++B)[k] e<0:=by grind
   refine .next ?_ (ih (k+1) ω)
   unfold jv
   refine .t (gu hb)<|.ae (aH hb)<|.bind (vh hS hx.fit he.fit)<|.t (by simpa using hlt) ?_
   rw[eC ω]
   exact .pure _
 have hl2:A.length+B.length<1000:=by simpa using hl
 unfold lp
 refine .bind (L A.length 0 ω).ev<|.ff (oh ψ)<|.ff ?_<|.ff ?_<|.ff (oo ψ)<|.ff ?_ ?_
 .simp only[qR,room,decide_eq_true_eq];simp;omega
 .simp only[qR,room,decide_eq_true_eq];simp;omega
 .rw[vN ψ];simp only[qR,room,decide_eq_true_eq];simp;omega
 .rw[vN ψ,qR]
  simp only[List.take_left',List.drop_left',m_5,j_2,m_7]
  exact .pure _
def yJ(hn:n=A.length)(hl:(A++e::B).length<1000):Ev (λf=>gn f (⟨s,o,A++e::B,last⟩:Tree) (n:Int)) (⟨s,o,A++B,last⟩:Tree):=by
 subst hn
 have hl2:A.length+B.length<1000:=by simp at hl;omega
 have e1:sl (A++e::B) 0 (A.length:Int)=A:=by rw[qR];simp
 have e2:sl (A++e::B) ((A.length+1:Nat):Int) ((A++e::B).length:Int)=B:=by
  rw[vN ψ,show A++e::B=(A++[e])++B by simp,List.drop_left' ψ]
 unfold gn
 simp only[eC (show A.length<1000000000 by omega)]
 refine .ff (oh ψ)<|.ff ?_<|.ff (oo ψ)<|.ff ?_ ?_
 .rw[e1];exact decide_eq_true (show A.length<=16777216 by omega)
 .rw[e1,e2];exact decide_eq_true (show(A++B).length<=16777216 by simp;omega)
 .rw[e1,e2];exact .pure _
end
set_option maxRecDepth 100000
structure FL(s:az)(last:Int)(fl:List Entry):Prop where
 g: ∀x∈fl,gE s x/\x.Number<=last
 Ay:zh s fl
section
variable {s:az} {o:Nat} {last:Int} {fl:List Entry}
def C7(S:SI s o)(hr:row.length<1000){β:Type}{b:Nat->Bool->Option β}{r:β}(h:Ev (λn=>b n (!pM s row key)) r):
  Ev (λn=>bz (b n) λjp=>(rD n s row).bind λr3=>bif (!r3)then jp true else(vW n key).bind λr4=>jp (!r4)) r:=by
 refine .bz<|.bind (zO s row S.ok hr) ?_
 unfold pM at h
 cases hf:bR s.aG row with
 |false=>rw[hf]at h;exact .t rfl h
 |true=>
  rw[hf,j_8]at h
  refine .f rfl<|.ae (Es 0 key) h
def KE{p:Entry->Bool}(h:wG p fl=some (n,e)): ∃A B,fl=A++e::B/\n=A.length:=by
 have h1:=(sG h).1
 obtain⟨h2,h3⟩:=g_5.1 h1
 exact⟨fl.take n,fl.drop (n+1),by rw[<-h3];exact vr h2,χ⟩
def KU(F:FL s last fl)(h:fl=A++e::B):mQ s e fl=A++B:=by
 subst h
 have hs:=F.Ay
 unfold zh at hs
 rw[k_3,j_7]at hs
 have hge:=(F.g e ψ).1
 exact sL (λx hx=>sT (hs.2.2 x hx e ψ)) (jW e) λx hx=>lA hge (F.g x (by simp[hx])).1 hge (hs.2.1.1 x hx) (by rw[jW];omega)
def AP(S:SI s o)(F:FL s last fl)(hr:row.length<1000)(h0:0<=last)(h1:last<10000)(hl:fl.length<500):
  Ev (λf=>iU f (⟨s,o,fl,last⟩:Tree) row key) ((⟨s,o,(wy s row key last fl).2.2,(wy s row key last fl).2.1⟩:Tree),(wy s row key last fl).1.1,(wy s row key last fl).1.2):=by
 have hg:=λx hx=>(F.g x hx).1
 unfold iU
 refine .bz<|C7 S hr ?_
 unfold wy
 cases hk:pM s row key with
 |false=>rw[if_pos rfl];exact .t rfl (.pure _)
 |true=>
  rw[if_neg ψ]
  obtain⟨k1,k2⟩:=qu hk
  refine .f rfl ?_
  have he:gE s ⟨row,key,last+1⟩:=⟨by simp[pQ,k1,k2.1,k2.2];omega,by unfold i64;simp only;omega⟩
  have add:(s.eD=1->fl.any (vo s row)=false)->Ev (λn=>Go.Sh.ff (decide ((([]:List Value)++row).length<=room))<|(lp n (⟨s,o,fl,(IntKind.wrap .i64 (last+1))⟩:Tree) (⟨(([]:List Value)++row),key,(IntKind.wrap .i64 (last+1))⟩:Entry)).bind λr9=>
    some (r9,(IntKind.wrap .i64 (last+1)),(0:Int))) ((⟨s,o,oS s ⟨row,key,last+1⟩ fl,last+1⟩:Tree),last+1,0):=λ_=>by
   rw[eo ω ω]
   obtain⟨A,B,rfl,hA,hB⟩:=nR he F.Ay hg
   refine .ff (decide_eq_true (show row.length<=16777216 by omega))<|.bind (NC S.ok he hg hA hB ω) ?_
   rw[wz hA λx hx=>?_]
   .exact .pure _
   .have h2:=hB x hx
    have h3:cZ s x ⟨row,key,last+1⟩≠0:=λh=>by
     have:=I0 h
     have h4:=(F.g x (by simp[hx])).2
     simp only at this;omega
    omega
  have lim:((fl.length:Int)==500)=false:=by simp;omega
  by_cases hd:s.eD=1
  .refine .t (by simp[hd])<|.bind (Qi S.ok k1 hg ω) ?_
   cases hh:fl.any (vo s row)with
   |true=>rw[if_pos ⟨hd,rfl⟩];exact .t rfl (.pure _)
   |false=>grind
  grind
def IX(S:SI s o)(F:FL s last fl)(hr:row.length<1000)(hl:fl.length<500):
  Ev (λf=>kr f (⟨s,o,fl,last⟩:Tree) row key) ((⟨s,o,(Gg s row key fl).2,last⟩:Tree),(Gg s row key fl).1):=by
 have hg:=λx hx=>(F.g x hx).1
 unfold kr
 refine C7 S hr ?_
 unfold Gg
 cases hk:pM s row key with
 |false=>rw[if_pos rfl];exact .t rfl (.pure _)
 |true=>
  rw[if_neg ψ]
  refine .f rfl<|.bind (NG S.ok (qu hk).1 hg ω) ?_
  cases hf:wG (xH s row key) fl with
  |none=>exact .t rfl (.pure _)
  |some q=>
   obtain⟨n,e⟩:=q
   obtain⟨A,B,rfl,hn⟩:=KE hf
   refine .f (decide_eq_false (show ¬((n:Nat):Int)<0 by omega))<|.bind (yJ hn ω) ?_
   dsimp only
   rw[KU F rfl]
   exact .pure _
def LM(S:SI s o)(F:FL s last fl)(hr:row.length<1000)(hw:wth.length<1000)(h0:0<=last)(h1:last<10000)(hl:fl.length<500):
  Ev (λf=>lN f (⟨s,o,fl,last⟩:Tree) row key wth) ((⟨s,o,(zw s row key wth last fl).2.2,(zw s row key wth last fl).2.1⟩:Tree),(zw s row key wth last fl).1):=by
 have hg:=λx hx=>(F.g x hx).1
 have W:=zO s wth S.ok hw
 unfold lN
 unfold zw
 have ask: ∀{b:Nat->Bool->Option (Tree×Int)} {r},Ev (λn=>b n (!(pM s row key&&bR s.aG wth))) r->Ev (λn=>bz (b n) λjp=>(rD n s row).bind λr3=>bif (!r3)then jp true else(vW n key).bind λr4=>bif (!r4)then jp true else(rD n s wth).bind λr5=>jp (!r5)) r:=λ{b r} h=>by
  refine .bz<|.bind (zO s row S.ok hr) ?_
  unfold pM at h
  cases hf:bR s.aG row with
  |false=>rw[hf]at h;exact .t rfl h
  |true=>
   rw[hf,j_8]at h
   refine .f rfl<|.ae (Es 0 key) ?_
   cases hk:(decide (1<=key)&&decide (key<=1000000))with
   |false=>rw[hk]at h;exact .t rfl h
   |true=>rw[hk,j_8]at h;exact .f rfl<|.bind W h
 refine ask ?_
 by_cases hb:pM s row key=false\/bR s.aG wth=false
 .rw[if_pos hb]
  refine .t ?_ (.pure _)
  grind
 .rw[if_neg hb]
  simp only[not_or,Bool.not_eq_false]at hb
  obtain⟨hk,hz⟩:=hb
  obtain⟨k1,k2⟩:=qu hk
  refine .f (by simp[hk,hz])<|.bind (NG S.ok k1 hg ω) ?_
  cases hf:wG (xH s row key) fl with
  |none=>exact .t rfl (.pure _)
  |some q=>
   obtain⟨n,e⟩:=q
   obtain⟨A,B,hAB,hn⟩:=KE hf
   refine .f (decide_eq_false (show ¬((n:Nat):Int)<0 by omega))<|.bind (zN S.ok k1 hz) ?_
   by_cases hc:dN s.Down row wth=0
   .simp only[hc,if_true]
    exact .t ψ (.pure _)
   .simp only[hc,if_false]
    have hdel:=KU F hAB
    have F2:FL s last (mQ s e fl):=⟨λx hx=>F.g x (Ba.1 hx).1,Hg F.Ay⟩
    have I:=AP S F2 (key:=key) hw h0 h1 (Nat.lt_of_le_of_lt sK.length_le hl)
    have hWo:Ev (λf=>gn f (⟨s,o,fl,last⟩:Tree) (n:Int)) (⟨s,o,mQ s e fl,last⟩:Tree):=by
     rw[hdel];subst hAB;exact yJ hn ω
    refine .f (by simpa using hc)<|.bind hWo<|.bind I ?_
    have hask:pM s wth key=true:=by
     simp only[pM,hz,j_8]
     grind
    have hek:vo s row e=true:=by
     have:=(sG hf).2
     simp only[xH,g_3]at this
     exact this.2
    have hany:(mQ s e fl).any (vo s wth)=fl.any (vo s wth):=by
     have hne:vo s wth e=false:=by
      rw[q_2]
      intro h2
      simp only[vo,beq_iff_eq]at hek h2
      have hge:=(F.g e (by rw[hAB];simp)).1.fit
      have n1:=wx s.Down hge k1
      have:=AX s.Down k1 hge hz ω ω
      have n2:=wx s.Down k1 hz
      have n3:=wx s.Down hge hz
      have:=AX s.Down hz hge k1 ω ω
      omega
     rw[hdel,hAB]
     simp[hne]
    unfold wy
    rw[if_neg (by simp[hask]),hany]
    by_cases hd:s.eD=1/\fl.any (vo s wth)=true
    .rw[if_pos hd,if_pos hd];exact .t rfl (.pure _)
    .rw[if_neg hd,if_neg hd];exact .f rfl (.pure _)
end
set_option maxRecDepth 100000
def lF(f:Nat->AT->List Node):List AT->Nat->List Int×List Node
 |[],_=>([],[])
 |k::ks,s=>((s:Int)::(lF f ks (s+(f s k).length)).1,f s k++(lF f ks (s+(f s k).length)).2)
def ji:Nat->Nat->AT->List Node
 |0,_,.nd _ es _=>[⟨0,es,[]⟩]
 |l+1,s,.nd _ es ks=>⟨((l+1:Nat):Int),es,(lF (ji l) ks (s+1)).1⟩::(lF (ji l) ks (s+1)).2
def sr(f:Nat->AT->List Node): ∀(ks:List AT) (s:Nat),(lF f ks s).1.length=ks.length
 |[],_=>rfl
 |k::ks,s=>by simp[lF,sr f ks]
def NJ:Nat->AT->List Int
 |0,.nd _ es _=>es.map (·.Number)
 |l+1,.nd _ es ks=>es.map (·.Number)++(ks.map (NJ l)).flatten
def Ae: ∀{es:List Entry} {ks:List (List Entry)},ks.length=es.length+1->fU es ks=wv es ks
 |[],[k],_=>by simp[fU,oG,wv,ws]
 |e::es,k::k2::ks,h=>by
  rw[uR,List.headD_cons,List.tail_cons,Ae (es:=es) (ks:=k2::ks) (by simpa using h)]
  rfl
section
variable {H:Hp}
def Sk: ∀(l:Nat) (a:AT) (s:Nat) (nodes pre post:List Node),nodes=pre++ji l s a++post->pre.length=s->a.hd H l->HN 0 nodes H l s (s+(ji l s a).length) a.ad/\kz nodes l s=a.fl l:=by
 intro l
 induction l with
 |zero=>
  intro a s nodes pre post h hs hh
  obtain⟨i,es,ks⟩:=a
  obtain⟨rfl,hi⟩:=hh
  have hx:nodes[s]? =some ⟨0,es,[]⟩:=by rw[h,<-hs];simp[ji]
  exact⟨⟨_,hx,rfl,rfl,hi,rfl,q_9 _⟩,by unfold kz;rw[hx];rfl⟩
 |succ l ih=>
  intro a s nodes pre post h hs hh
  obtain⟨i,es,ks⟩:=a
  obtain⟨hk,hi,hks⟩:=hh
  have hx:nodes[s]? =some ⟨((l+1:Nat):Int),es,(lF (ji l) ks (s+1)).1⟩:=by rw[h,<-hs];simp[ji]
  have K: ∀(ks:List AT) (pre:List Node) (t:Nat),(∀k∈ks,k.hd H l)->nodes=pre++(lF (ji l) ks t).2++post->pre.length=t->zn (HN 0 nodes H l) (lF (ji l) ks t).1 (ks.map gN) t (t+(lF (ji l) ks t).2.length)/\
    (lF (ji l) ks t).1.map (λ(k:Int)=>kz nodes l k.toNat)=ks.map (AT.fl l):=by
   intro ks
   induction ks with
   |nil=>intro pre t _ _ _;exact⟨rfl,rfl⟩
   |cons k ks ihk=>
    intro pre t hks hn ht
    simp only[lF]at hn ⊢
    obtain⟨a1,a2⟩:=ih k t nodes pre ((lF (ji l) ks (t+(ji l t k).length)).2++post) (by rw[hn];simp) ht (hks k ψ)
    obtain⟨b1,b2⟩:=ihk (pre++ji l t k) (t+(ji l t k).length) (λq hq=>hks q (by simp[hq])) (by rw[hn];simp) (by simp[ht])
    refine⟨⟨rfl,_,a1,?_⟩,?_⟩
    .grind
    grind
  obtain⟨k1,k2⟩:=K ks (pre++[⟨((l+1:Nat):Int),es,(lF (ji l) ks (s+1)).1⟩]) (s+1) hks (by rw[h];simp[ji]) (by simp[hs])
  refine⟨⟨_,ks.map gN,hx,rfl,by rw[sr];exact hk,hi,q_9 _,?_⟩,?_⟩
  .have:s+(ji (l+1) s (.nd i es ks)).length=s+1+(lF (ji l) ks (s+1)).2.length:=by simp[ji];omega
   rw[this];exact k1
  .show(match nodes[s]? with|some x=>fU x.Entries (x.Kids.map λ(k:Int)=>kz nodes l k.toNat)|none=>[])=_
   rw[hx]
   simp only
   rw[k2]
   exact Ae (by simp[hk])
def M6{α:Type}: ∀{B:List α} {D:List (List α)},B.length=D.length->(ws B D).length=B.length+(D.map List.length).sum
 |[],[],_=>rfl
 |b::B,d::D,h=>by simp[ws,M6 (B:=B) (D:=D) (by simpa using h)];omega
def Kq(hm:1<=m): ∀(l:Nat) (a:AT) (s:Nat),a.hd H l->a.bl m o l->(ji l s a).length+a.es.length<=(a.fl l).length+1
 |0,.nd i es ks,s,hh,hb=>by simp[ji,AT.fl,AT.es];omega
 |l+1,.nd i es ks,s,hh,hb=>by
  have K: ∀(ks:List AT) (t:Nat),(∀k∈ks,k.hd H l)->(∀k∈ks,m<=k.es.length/\k.bl m o l)->(lF (ji l) ks t).2.length<=((ks.map (AT.fl l)).map List.length).sum:=by
   intro ks
   induction ks with
   |nil=>intro t _ _;exact h_0 _
   |cons k ks ihk=>
    intro t h1 h2
    have a1:=Kq hm l k t (h1 k ψ) (h2 k ψ).2
    have a2:=ihk (t+(ji l t k).length) (λq hq=>h1 q (by simp[hq])) (λq hq=>h2 q (by simp[hq]))
    have a3:=(h2 k ψ).1
    simp only[lF,h_9,h_3,List.sum_cons]
    omega
  have k1:=K ks (s+1) hh.2.2 λk hk=>⟨(hb k hk).1,(hb k hk).2.2⟩
  have hl:=hh.1
  have e1:(AT.fl (l+1) (.nd i es ks)).length=es.length+((ks.map (AT.fl l)).map List.length).sum:=by
   match ks,hl with
   |k::ks,hl=>
    show(k.fl l++ws es (ks.map (AT.fl l))).length=_
    rw[h_9,M6 (by simpa using hl.symm)]
    simp;omega
  rw[e1]
  simp only[ji,j_4,AT.es]
  omega
def Kr{Q:Entry->Prop}(ho:o<=32): ∀(l:Nat) (a:AT) (s:Nat),a.hd H l->a.bl m o l->a.es.length<=o->(∀e∈a.fl l,Q e)-> ∀x∈ji l s a,x.Entries.length<=32/\x.Kids.length<=33/\0<=x.Level/\x.Level<=(l:Nat)/\ ∀e∈x.Entries,Q e
 |0,.nd i es ks,s,hh,hb,hl,hq=>by
  intro x hx
  simp only[ji,w_2]at hx
  subst hx
  have hl:es.length<=o:=hl
  exact⟨by simp only;omega,ψ,Int.le_refl _,Int.le_refl _,hq⟩
 |l+1,.nd i es ks,s,hh,hb,hl,hq=>by
  have hl:es.length<=o:=hl
  have hk:=hh.1
  intro x hx
  simp only[ji,h_8]at hx
  rcases hx with rfl|hx
  .refine⟨by simp only;omega,by simp only[sr];omega,by simp only;omega,ψ,λe he=>hq e ((ED (by simp[hk])).2 (.inl he))⟩
  .have K: ∀(ks:List AT) (t:Nat),(∀k∈ks,k.hd H l/\k.bl m o l/\k.es.length<=o/\ ∀e∈k.fl l,Q e)-> ∀x∈(lF (ji l) ks t).2,∃k t,(k.hd H l/\k.bl m o l/\k.es.length<=o/\ ∀e∈k.fl l,Q e)/\x∈ji l t k:=by
    intro ks
    induction ks with
    |nil=>intro t _ x hx;simp[lF]at hx
    |cons k ks ihk=>
     intro t h1 x hx
     simp only[lF,k_9]at hx
     rcases hx with hx|hx
     .grind
     .exact ihk _ (λq hq=>h1 q (by simp[hq])) x hx
   obtain⟨k,t,⟨h1,h2,h3,h4⟩,h5⟩:=K ks (s+1) (λk hk'=>⟨hh.2.2 k hk',(hb k hk').2.2,(hb k hk').2.1,λe he=>hq e ((ED (by simp[hk])).2 (.inr ⟨_,List.mem_map_of_mem hk',he⟩))⟩) x hx
   obtain⟨g1,g2,g3,g4,g5⟩:=Kr ho l k t h1 h2 h3 h4 x h5
   grind
def Kn: ∀{es:List Entry} {met:List Int},(∀e∈es,pQ s e=true/\e.Number<=last)->(met++es.map (·.Number)).Nodup->qh s last met es=some (met++es.map (·.Number))
 |[],met,_,_=>by simp[qh]
 |e::es,met,h,hn=>by
  have h1:=h e ψ
  have h2:met.contains e.Number=false:=by
   grind
  simp only[qh]
  rw[if_pos (by simp only[BB,h1.1,j_8,h2,Bool.not_false,Bool.and_true,decide_eq_true_eq];exact h1.2)]
  rw[Kn (λx hx=>h x (by simp[hx])) (by simpa using hn)]
  simp
def O5: ∀{es:List Entry} {p:Option Entry},zh s es->(∀a,p=some a-> ∀x∈es,uj s a x=true)->Fa s p es=true
 |[],_,_,_=>rfl
 |e::es,p,h,hp=>by
  obtain⟨h1,h2⟩:=j_7.1 h
  simp only[Fa,g_3]
  refine⟨?_,O5 h2 λa ha x hx=>?_⟩
  .cases p with
   |none=>rfl
   |some a=>exact hp a rfl e ψ
  .cases ha;exact h1 x hx
end
set_option maxRecDepth 100000
section
variable {H:Hp} {s:az} {last:Int} {o:Nat} {nodes:List Node}
def NN(h1:(x.Entries.length:Int)<=(o:Int)/\(root=true\/o / 2<=x.Entries.length))(h2:0<=x.Level/\(root=true\/x.Level=level))
  (h3:x.Kids.length=(if 0<x.Level then x.Entries.length+1 else 0)/\x.Kids.length≠1) (h4:zh s x.Entries) (h5: ∀e∈x.Entries,jX s low e=true/\FG s e high=true) (h6: ∀e∈x.Entries,pQ s e=true/\e.Number<=last)
  (h7:(met++x.Entries.map (·.Number)).Nodup):rL s (o:Int) last root level low high met x=some (met++x.Entries.map (·.Number)):=by
 unfold rL
 rw[if_pos,Kn h6 h7]
 simp only[g_3]
 refine⟨⟨⟨⟨?_,?_⟩,?_⟩,O5 h4 λa h=>by cases h⟩,?_⟩
 .unfold zG
  grind
 .unfold zC
  grind
 .unfold Bp
  grind
 .unfold rj
  simp only[g_3]
  constructor
  .cases low with
   |none=>rfl
   |some l=>
    cases he:x.Entries.head? with
    |none=>rfl
    |some a=>exact(h5 a (List.mem_of_head? he)).1
  .cases high with
   |none=>rfl
   |some l=>
    cases he:x.Entries.getLast? with
    |none=>rfl
    |some a=>exact(h5 a (List.mem_of_getLast? he)).2
def Tp(S:SI s o): ∀(l:Nat) (a:AT) (t:Nat) (lv:Int) (lo hi:Option Entry) (met:List Int) (d:Nat) (pre post:List Node),nodes=pre++ji l t a++post->pre.length=t->l<d->a.hd H l->a.bl (o / 2) o l->a.es.length<=o->(t=0\/o / 2<=a.es.length)->(l≠0->1<=a.es.length)->
  (t=0\/lv=(l:Nat))->(∀e∈a.fl l,pQ s e=true/\e.Number<=last)->zh s (a.fl l)->(∀e∈a.fl l,jX s lo e=true/\FG s e hi=true)->(met++NJ l a).Nodup->
  wk s (o:Int) last nodes d t lv lo hi met=.inr (t+(ji l t a).length,met++NJ l a):=by
 intro l
 induction l with
 |zero=>
  intro a t lv lo hi met d pre post hn ht hd hh hb hl hm h1 hlv hg hsr hbd hnd
  obtain⟨i,es,ks⟩:=a
  have hx:nodes[t]? =some ⟨0,es,[]⟩:=by rw[hn,<-ht];simp[ji]
  obtain⟨d,rfl⟩: ∃k,d=k+1:=⟨d - 1,ω⟩
  have hl:es.length<=o:=hl
  have hok:rL s (o:Int) last (t==0) lv lo hi met ⟨0,es,[]⟩=some (met++es.map (·.Number)):=NN ⟨by simp only;omega,by rcases hm with h|h;exact .inl (by simp[h]);exact .inr h⟩ ⟨Int.le_refl _,φ⟩ ⟨rfl,ψ⟩ hsr hbd hg hnd
  show(match nodes[t]? with|none=>Sum.inl t|some x=>match rL s (o:Int) last (t==0) lv lo hi met x with|none=>Sum.inl t|some met'=>qL nodes (wk s (o:Int) last nodes d) t x lo hi x.Kids 0 (t+1) met')=_
  rw[hx]
  simp only
  rw[hok]
  rfl
 |succ l ih=>
  intro a t lv lo hi met d pre post hn ht hd hh hb hl hm h1 hlv hg hsr hbd hnd
  obtain⟨i,es,ks⟩:=a
  have hl:es.length<=o:=hl
  have h1:1<=es.length:=h1 ω
  have hk:=hh.1
  let X:Node:=⟨((l+1:Nat):Int),es,(lF (ji l) ks (t+1)).1⟩
  have hx:nodes[t]? =some X:=by
   subst ht
   rw[hn];simp[ji,X]
  obtain⟨d,rfl⟩: ∃k,d=k+1:=⟨d - 1,ω⟩
  have hfl: ∀e,e∈AT.fl (l+1) (.nd i es ks)<->e∈es\/ ∃k∈ks.map (AT.fl l),e∈k:=λe=>ED (by simp[hk])
  have hges: ∀e∈es,e∈AT.fl (l+1) (.nd i es ks):=λe he=>(hfl e).2 (.inl he)
  have hsub:es.Sublist (AT.fl (l+1) (.nd i es ks)):=Ix (by simp[hk])
  have hnd':(met++es.map (·.Number)++(ks.map (NJ l)).flatten).Nodup:=by rw[j_2];exact hnd
  have hok:rL s (o:Int) last (t==0) lv lo hi met X=some (met++es.map (·.Number)):=
   NN (x:=X) ⟨by simp only[X];omega,by rcases hm with h|h;exact .inl (by simp[h]);exact .inr h⟩ ⟨by simp only[X];omega,φ⟩
    ⟨by simp only[X,sr];rw[if_pos ω];exact hk,by simp only[X,sr];omega⟩ (hsr.sublist hsub) (λe he=>hbd e (hges e he)) (λe he=>hg e (hges e he)) (hnd'.sublist (List.sublist_append_left _ _))
  have K: ∀(D C:List AT) (nx:Nat) (mt:List Int) (pre:List Node),ks=C++D->nodes=pre++(lF (ji l) D nx).2++post->pre.length=nx->0<nx->(mt++(D.map (NJ l)).flatten).Nodup->
    qL nodes (wk s (o:Int) last nodes d) t X lo hi (lF (ji l) D nx).1 C.length nx mt=.inr (nx+(lF (ji l) D nx).2.length,mt++(D.map (NJ l)).flatten):=by
   intro D
   induction D with
   |nil=>intro C nx mt pre _ _ _ _ _;simp[lF,qL]
   |cons k D ihD=>
    intro C nx mt pre hC hn2 hp hnx hmt
    have hkm:k∈ks:=by rw[hC];simp
    have hkb:=hb k hkm
    have hCl:C.length<=es.length:=by rw[hC]at hk;simp at hk;omega
    have hAB:es=es.take C.length++es.drop C.length:=(m_8 _ _).symm
    have hDl:(es.drop C.length).length=D.length:=by grind
    have hmid:AT.fl (l+1) (.nd i es ks)=wp (es.take C.length) (C.map (AT.fl l))++(k.fl l++ws (es.drop C.length) (D.map (AT.fl l))):=by
     rw[hC]
     conv=>lhs;rw[hAB]
     exact k9 χ
    have hsr':=hsr
    rw[hmid]at hsr'
    unfold zh at hsr'
    rw[k_3,k_3]at hsr'
    have hkf: ∀e∈k.fl l,e∈AT.fl (l+1) (.nd i es ks):=λe he=>(hfl e).2 (.inr ⟨_,List.mem_map_of_mem hkm,he⟩)
    have hlo: ∀e∈k.fl l,jX s (qn X lo C.length) e=true:=λe he=>by
     unfold qn
     split
     .rename_i h0
      have hi1:C.length - 1<es.length:=by omega
      show jX s es[C.length - 1]? e=true
      rw[g_6 hi1]
      refine hsr'.2.2 _ ((EE χ).2 (.inl ?_)) e (by simp[he])
      rw[List.mem_take_iff_getElem]
      grind
     .exact(hbd e (hkf e he)).1
    have hhi: ∀e∈k.fl l,FG s e (j9 X hi C.length)=true:=λe he=>by
     unfold j9
     split
     .rename_i h0
      have h0:C.length<es.length:=h0
      show FG s e es[C.length]? =true
      rw[g_6 h0]
      refine hsr'.2.1.2.2 e he _ ((xJ (by simpa using hDl)).2 (.inl ?_))
      rw[aZ h0];exact q_5
     .exact(hbd e (hkf e he)).2
    simp only[lF]at hn2 ⊢
    simp only[h_3,p_8]at hmt ⊢
    have hkn:(ji l nx k).length≠0:=by
     cases k with
     |nd i es ks=>cases l<;>simp[ji]
    have hlt:nx<nodes.length:=by rw[hn2];simp;omega
    have R:=ih k nx (X.Level - 1) (qn X lo C.length) (j9 X hi C.length) mt d pre ((lF (ji l) D (nx+(ji l nx k).length)).2++post) (by rw[hn2];simp) hp ω (hh.2.2 k hkm) hkb.2.2 hkb.2.1 (.inr hkb.1) (λ_=>by have:=S.o3;omega)
     (.inr φ) (λe he=>hg e (hkf e he)) hsr'.2.1.1 (λe he=>⟨hlo e he,hhi e he⟩) (hmt.sublist φ)
    simp only[qL]
    rw[if_pos ⟨trivial,hlt⟩,R]
    simp only
    have R2:=ihD (C++[k]) (nx+(ji l nx k).length) (mt++NJ l k) (pre++ji l nx k) (by rw[hC];simp) (by rw[hn2];simp) (by simp[hp]) ω (by rw[j_2];exact hmt)
    rw[h_9,j_4,v_3,q_4]at R2
    rw[R2]
    simp only[h_9,j_2]
    rw[Nat.add_assoc]
  have R:=K ks [] (t+1) (met++es.map (·.Number)) (pre++[X]) rfl (by rw[hn];simp[ji,X]) (by simp[ht]) ω hnd'
  show(match nodes[t]? with|none=>Sum.inl t|some x=>match rL s (o:Int) last (t==0) lv lo hi met x with|none=>Sum.inl t|some met'=>qL nodes (wk s (o:Int) last nodes d) t x lo hi x.Kids 0 (t+1) met')=_
  rw[hx]
  simp only
  rw[hok]
  simp only
  refine R.trans ?_
  simp only[ji,j_4,NJ,j_2]
  congr 2
  omega
def J4{α:Type}: ∀{B:List α} {D:List (List α)},B.length=D.length->(ws B D).Perm (B++D.flatten)
 |[],[],_=>.refl _
 |b::B,d::D,h=>by
  simp only[ws,m_7,p_8]
  refine .cons b ?_
  refine(List.Perm.append_left d (J4 (B:=B) (D:=D) (by simpa using h))).trans ?_
  rw[<-j_2,<-j_2]
  exact List.Perm.append_right _ List.perm_append_comm
def AS: ∀(l:Nat) (a:AT),a.hd H l->(NJ l a).Perm ((a.fl l).map (·.Number))
 |0,.nd i es ks,h=>.refl _
 |l+1,.nd i es ks,h=>by
  have hk:=h.1
  have K: ∀(ks:List AT),(∀k∈ks,k.hd H l)->((ks.map (NJ l)).flatten).Perm (((ks.map (AT.fl l)).flatten).map (·.Number)):=by
   intro ks
   induction ks with
   |nil=>intro _;exact .refl _
   |cons k ks ihk=>
    intro h1
    simp only[h_3,p_8,j_9]
    exact(AS l k (h1 k ψ)).append (ihk λq hq=>h1 q (by simp[hq]))
  have e1:(AT.fl (l+1) (.nd i es ks)).Perm (es++(ks.map (AT.fl l)).flatten):=by
   match ks,hk with
   |k::ks,hk=>
    show(k.fl l++ws es (ks.map (AT.fl l))).Perm _
    refine(List.Perm.append_left _ (J4 (by simpa using hk.symm))).trans ?_
    grind
  show(es.map (·.Number)++(ks.map (NJ l)).flatten).Perm _
  refine List.Perm.trans ?_ (e1.map _).symm
  rw[j_9]
  exact List.Perm.append_left _ (K ks h.2.2)
def TI.NV(S:SI s o)(h:TI s o last l a H tr)(h0:0<=last)(hl:(a.fl l).length<400):
  Cq (ji l 0 a)/\my s (o:Int) last (ji l 0 a)=(-1,0)/\zH s (o:Int) last (ji l 0 a) l H tr/\kz (ji l 0 a) l 0=a.fl l/\(ji l 0 a).length<500:=by
 have hm1:1<=o / 2:=by have:=S.o3;omega
 obtain⟨q1,q2⟩:=Sk l a 0 (ji l 0 a) [] [] ψ rfl h.hd
 rw[q_4]at q1
 have q3:=Kq hm1 l a 0 h.hd h.bl
 have hlv:=q1.Bd
 have hne:(ji l 0 a).length≠0:=by omega
 have hW:=Tp (nodes:=ji l 0 a) S l a 0 0 none none [] (ji l 0 a).length [] [] ψ rfl ω h.hd h.bl h.top (.inl rfl) h.one (.inl rfl) (λe he=>⟨(h.g e he).1.1,(h.g e he).2⟩) h.Ay (λe he=>⟨rfl,rfl⟩)
  (by rw[m_5,(AS l a h.hd).nodup_iff];exact h.num)
 have hA:=Kr (Q:=λe=>e.Row.length<1000/\i64 e.Number) S.Qn l a 0 h.hd h.bl h.top (λe he=>⟨by have:=gk (h.g e he).1.fit;have:=(jT S.ok).1;omega,(h.g e he).1.2⟩)
 refine⟨⟨ω,λx hx=>?_⟩,?_,⟨a.ad,by rw[q2];exact h.obj,0,q1⟩,q2,ω⟩
 .obtain⟨a1,a2,a3,a4,a5⟩:=hA x hx
  exact⟨ω,ω,by unfold i64;omega,a5⟩
 .unfold my
  rw[if_pos S.ok,if_pos ⟨by have:=S.o3;omega,by have:=S.Qn;omega,h0⟩,if_neg hne,hW]
  simp only[q_4,m_5]
  rw[if_neg ω,if_neg]
  rw[(AS l a h.hd).length_eq,k_0];omega
end
set_option maxRecDepth 100000
def RN{o:Nat}{H:Hp}(hz: ∀j x,0<j->nodes[j]? =some x->m<=x.Entries.length/\x.Entries.length<=o): ∀(l c z i:Nat),HN b nodes H l c z i->
  ∃a:AT,a.ad=i/\a.hd H l/\a.fl l=kz nodes l c/\(∃x,nodes[c]? =some x/\a.es=x.Entries)/\a.bl m o l/\ ∀j∈a.ft l,b<=j
 |0,c,z,i,h=>by
  obtain⟨x,h1,h2,h3,h4,h5,h6⟩:=h
  exact⟨.nd i x.Entries [],rfl,⟨rfl,h4⟩,by unfold kz;rw[h1];rfl,⟨x,h1,rfl⟩,trivial,λj hj=>by simp only[AT.ft,w_2]at hj;omega⟩
 |l+1,c,z,i,h=>by
  have hin:=λ{x} (hx:nodes[c]? =some x)=>vl h hx
  obtain⟨x,is,h1,h2,h3,h4,h5,h6⟩:=h
  have K: ∀(ks:List Int) (is:List (Option Nat)) (u v:Nat),0<u->zn (HN b nodes H l) ks is u v-> ∃av:List AT,av.map gN=is/\av.map (AT.fl l)=ks.map (λ(k:Int)=>kz nodes l k.toNat)/\ ∀a∈av,a.hd H l/\(m<=a.es.length/\a.es.length<=o/\a.bl m o l)/\ ∀j∈a.ft l,b<=j:=by
   intro ks
   induction ks with
   |nil=>
    intro is u v hu hh
    cases is with
    |nil=>exact⟨[],rfl,rfl,ψ⟩
    |cons q qs=>cases q<;>exact hh.elim
   |cons k ks ih=>
    intro is u v hu hh
    cases is with
    |nil=>exact hh.elim
    |cons q qs=>
     cases q with
     |none=>exact hh.elim
     |some q=>
      obtain⟨g1,mm,g2,g3⟩:=hh
      have hlt:=g2.lt
      obtain⟨a,a1,a2,a3,⟨y,a4,a5⟩,a6,a7⟩:=RN hz l u mm q g2
      obtain⟨av,b1,b2,b3⟩:=ih qs mm v ω g3
      refine⟨a::av,by simp[b1,gN,a1],by simp[a3,g1];exact b2,λw hw=>?_⟩
      grind
  obtain⟨av,b1,b2,b3⟩:=K x.Kids is (c+1) z ω h6
  have hl:av.length=x.Entries.length+1:=by
   have:=congrArg List.length b2
   simp at this;omega
  refine⟨.nd i x.Entries av,rfl,⟨hl,by show H[i]? =some (dT x.Entries (av.map gN));rw[b1];exact h4,λk hk=>(b3 k hk).1⟩,?_,⟨x,h1,rfl⟩,λk hk=>(b3 k hk).2.1,λj hj=>?_⟩
  .rw[hin h1]
   show wv x.Entries (av.map (AT.fl l))=_
   rw[b2,<-Ae χ]
   rfl
  .rcases eP.1 hj with rfl|⟨k,hk,hj⟩
   .exact h5
   .exact(b3 k hk).2.2 j hj
def NT{o:Nat}{H:Hp}: ∀(l:Nat) (a:AT) (s:Nat),a.bl m o l-> ∀x∈(ji l s a).tail,m<=x.Entries.length/\x.Entries.length<=o
 |0,.nd i es ks,s,hb=>by simp[ji]
 |l+1,.nd i es ks,s,hb=>by
  have K: ∀(ks:List AT) (t:Nat),(∀k∈ks,m<=k.es.length/\k.es.length<=o/\k.bl m o l)-> ∀x∈(lF (ji l) ks t).2,m<=x.Entries.length/\x.Entries.length<=o:=by
   intro ks
   induction ks with
   |nil=>intro t _ x hx;simp[lF]at hx
   |cons k ks ihk=>
    intro t h1 x hx
    have hk:=h1 k ψ
    simp only[lF,k_9]at hx
    rcases hx with hx|hx
    .have hd: ∃y,ji l t k=y::(ji l t k).tail/\y.Entries=k.es:=by
      cases k with
      |nd i es ks=>cases l<;>exact⟨_,rfl,rfl⟩
     obtain⟨y,e1,e2⟩:=hd
     rw[e1]at hx
     rcases h_8.1 hx with rfl|hx
     .rw[e2];exact⟨hk.1,hk.2.1⟩
     .exact NT (H:=H) l k t hk.2.2 x hx
    grind
  exact K ks (s+1) hb
section
variable {s:az} {o l tr:Nat} {last:Int} {a:AT} {H:Hp}
def NU(l s:Nat)(a:AT): ∃x,ji l s a=x::(ji l s a).tail/\x.Entries=a.es/\x.Level=(l:Nat):=by
 cases a with
 |nd i es ks=>cases l<;>exact⟨_,rfl,rfl,rfl⟩
def Ss{H H':Hp}(h: ∀(j:Nat) (x:aN),H[j]? =some x->H'[j]? =some x):(∀j,j<H.length->H'[j]? =H[j]?)/\H.length<=H'.length:=by
 have h1: ∀j,j<H.length->H'[j]? =H[j]? :=λj hj=>by grind
 grind
def yc(S:SI s o)(h:TI s o last l a H tr)(h0:0<=last)(hl:(a.fl l).length<400): ∃H',Ev (λf=>kL f tr (⟨s,o,a.fl l,last⟩:Tree) H) (true,H')/\TI s o last l a H' tr:=by
 obtain⟨q1,q2,q3,q4,q5⟩:=h.NV S h0 hl
 have hk:=(jT S.ok).1
 obtain⟨H',E,f⟩:=O0 q1 ω q2 q3 (λe he=>by
  rw[q4]at he
  have hg:=(h.g e he).1
  exact⟨by have:=gk hg.fit;omega,Om hg.1⟩)
 rw[q4]at E
 exact⟨H',E,h.fr (Ss f).1⟩
def Gx(S:SI s o)(h:TI s o last l a H tr)(h0:0<=last)(hl:(a.fl l).length<400)(G:Hp):
  ∃a' H',Ev (λf=>mC f s (o:Int) last (ji l 0 a) G) ((some (G.length+1),-1,0),H')/\TI s o last l a' H' (G.length+1)/\a'.fl l=a.fl l/\(∀j,j<G.length->H'[j]? =G[j]?)/\G.length<=H'.length/\ ∀j∈a'.ft l,G.length<=j:=by
 obtain⟨q1,q2,q3,q4,q5⟩:=h.NV S h0 hl
 have hk:=jT S.ok
 obtain⟨t,H',E,F⟩:=FX s (o:Int) last (ji l 0 a) q1 ω ω G
 rw[q2]at E F
 obtain⟨root,z,met,rfl,f2,f3,f4,f5,f6,b,lv,f7,f8⟩:=F rfl
 obtain⟨x0,n1,n2,n3⟩:=NU l 0 a
 have hx0:(ji l 0 a)[0]? =some x0:=by rw[n1];rfl
 have hlv:lv=l:=by
  obtain⟨x,is,g1,g2,g3,-⟩:=fu f8
  grind
 subst hlv
 obtain⟨a',a1,a2,a3,⟨x,a4,a5⟩,a6,a7⟩:=RN (m:=o / 2) (o:=o) (λj x hj hx=>by
  refine NT (H:=H) lv a 0 h.bl x ?_
  grind) lv 0 z root f8
 rw[hx0]at a4;cases a4
 rw[q4]at a3
 have hcnt:=(Ah _ _ _ _ _ _ _ _ _ _ _ f2 f8).2
 rw[q4,v_3,q_4]at hcnt
 refine⟨a',H',E,⟨φ,a2,a6,by rw[a5,n2];exact h.top,λh2=>by rw[a5,n2];exact h.one h2,λh2=>by have:=a7 _ h2;omega,by rw[a3];exact h.g,by rw[a3];exact h.Ay,by rw[a3];exact h.num⟩,a3,f5,ω,λj hj=>by have:=a7 j hj;omega⟩
def Rz(j:Nat)(hj:j<H.length):(H++[aN.hole,aN.hole])[j]? =H[j]? :=h_6 hj
def Ox(S:SI s o)(h:TI s o last l a H tr)(h0:0<=last)(hl:(a.fl l).length<400):
  ∃t a' H',Ev (λf=>ni f tr H) (some t,H')/\TI s o last l a' H' t/\a'.fl l=a.fl l/\(∀j,j<H.length->H'[j]? =H[j]?)/\H.length<=H'.length/\(∀j∈a'.ft l,H.length<=j)/\H.length<=t:=by
 obtain⟨q1,q2,q3,q4,q5⟩:=h.NV S h0 hl
 have h1:=h.fr (H':=H++[aN.hole,aN.hole]) Rz
 obtain⟨a',H',E,T,F,f1,f2,f3⟩:=Gx S h h0 hl (H++[aN.hole,aN.hole])
 have hln:(H++[aN.hole,aN.hole]).length=H.length+2:=by simp
 refine⟨_,a',H',?_,T,F,λj hj=>by rw[f1 j ω,Rz j hj],ω,λj hj=>by have:=f3 j hj;omega,ω⟩
 unfold ni
 refine .ae (jm h.obj)<|.ae (uU h.obj)<|.ae (tA h.obj)<|.bind (tO q1 q3)<|.bind E<|.ae (tA h1.obj) ?_
 simp only[zY]
 refine .ae (uU h1.obj) ?_
 simp only[zY]
 refine .ae (jm h1.obj) ?_
 simp only[zY]
 exact .pure _
end
set_option maxRecDepth 100000
def KI{c:Entry->Int}: ∀(l:List Entry),(l.filter λx=>decide (c x<0)).length+(l.filter λx=>decide (0<c x)).length<=l.length
 |[]=>by simp
 |x::l=>by
  have:=KI (c:=c) l
  grind
def KB{s:az}:(oS s e l).length<=l.length+1:=by
 have:=KI (c:=λx=>cZ s x e) l
 simp only[oS,ins,h_9,j_4]
 omega
def EY{s:az}:(mQ s e l).length<=l.length:=sK.length_le
def Qz{s:az}:last<=(wy s row key last fl).2.1/\(wy s row key last fl).2.1<=last+1/\(wy s row key last fl).2.2.length<=fl.length+1:=by
 unfold wy
 split
 .grind
 .split
  .grind
  .exact⟨by simp only;omega,Int.le_refl _,KB⟩
def Qg{s:az}:(Gg s row key fl).2.length<=fl.length:=by
 unfold Gg
 split
 .exact h_0 _
 .split
  .exact h_0 _
  .exact EY
def Qf{s:az}:last<=(zw s row key wth last fl).2.1/\(zw s row key wth last fl).2.1<=last+1/\(zw s row key wth last fl).2.2.length<=fl.length+1:=by
 unfold zw
 split
 .grind
 .split
  .grind
  .split
   .grind
   .split
    .grind
    .refine⟨by simp only;omega,Int.le_refl _,?_⟩
     have h1:=EY (s:=s) (l:=fl) (e:=by assumption)
     exact v_2 KB (Nat.succ_le_succ EY)
def xz(x:Act):Bool:=mE x.Row&&mE x.yg
def Uw(s:az)(l:List Act):Bool:=l.all xz&&decide (l.length<=80)&&decide (s.aG.length<=20)&&decide (s.Down.length<=20)
def QS(s:az)(l:List Act): ∃b,Ev (λf=>Bk f s l) b/\(b=true->Uw s l=true):=by
 have L: ∀(d k:Nat),k+d=min l.length 80-> ∃out,mi (λf=>oz f l) (k:Int) out/\(out=.inr false\/out=.inl ()/\ ∀j x,k<=j->j<min l.length 80->l[j]? =some x->xz x=true):=by
  intro d
  induction d with
  |zero=>
   intro k hk
   refine⟨.inl (),.stop ?_,.inr ⟨rfl,λj x h1 h2=>by omega⟩⟩
   unfold oz
   refine .f ?_ (.pure _)
   grind
  |succ d ih=>
   intro k hk
   have k1:k<l.length:=by omega
   have R:=Qd [l[k].Row,l[k].yg] ψ
   have pre: ∀{x},Ev (λf=>bif (!([l[k].Row,l[k].yg].all mE))then some (Sum.inr (.inr false))else some (.inl ((k+1:Nat):Int))) x->Ev (λf=>oz f l (k:Int)) x:=λhE=>by
    unfold oz
    refine .t (by rw[gu k1];simp;omega)<|.ae (aH k1)<|.ae (aH k1) ?_
    rw[eC ω]
    exact .bind R hE
   cases hc:[l[k].Row,l[k].yg].all mE with
   |false=>exact⟨.inr false,.stop (pre (.t (by rw[hc];rfl) (.pure _))),.inl rfl⟩
   |true=>
    obtain⟨out,e1,e2⟩:=ih (k+1) ω
    refine⟨out,.next (pre (.f (by rw[hc];rfl) (.pure _))) e1,e2.imp id λ⟨h1,h2⟩=>⟨h1,λj x g1 g2 g3=>?_⟩⟩
    by_cases hj:j=k
    .subst hj
     rw[g_6 k1]at g3;cases g3
     simpa[xz]using hc
    .exact h2 j x ω g2 g3
 obtain⟨out,e1,e2⟩:=L (min l.length 80) 0 ω
 unfold Bk
 rcases e2 with rfl|⟨rfl,e2⟩
 .exact⟨false,.bind e1.ev (.pure _),λh=>by cases h⟩
 .refine⟨(bif decide ((l.length:Int)<=80)then bif decide ((s.aG.length:Int)<=20)then decide ((s.Down.length:Int)<=20)else false else false),.bind e1.ev ?_,λh=>?_⟩
  .by_cases h1:(l.length:Int)<=80
   .by_cases h2:(s.aG.length:Int)<=20
    .simp only[w_7,h1,h2,decide_true,cond_true];exact .pure _
    .simp only[w_7,h1,h2,decide_true,decide_false,cond_true,cond_false];exact .pure _
   .simp only[w_7,h1,decide_false,cond_false];exact .pure _
  .by_cases h1:(l.length:Int)<=80
   .by_cases h2:(s.aG.length:Int)<=20
    .simp only[h1,h2,decide_true,cond_true,decide_eq_true_eq]at h
     simp only[Uw,g_3,decide_eq_true_eq,h_4]
     refine⟨⟨⟨λx hx=>?_,ω⟩,ω⟩,ω⟩
     obtain⟨j,hj,rfl⟩:=List.getElem_of_mem hx
     exact e2 j _ (q_9 _) ω (g_6 hj)
    .simp[h1,h2]at h
   .simp[h1]at h
def C6(h:mE r=true):r.length<1000:=by
 simp only[mE,g_3,decide_eq_true_eq]at h
 omega
def TI.Vy{s:az}{o:Nat}(h:TI s o last l a H tr)(h1:H'[tr]? =H[tr]?)(h2: ∀j∈a.ft l,H'[j]? =H[j]?):TI s o last l a H' tr:=
 {h with obj:=by rw[h1];exact h.obj,hd:=h.hd.fr h2}
section
variable {s:az} {o:Nat} {acts:List Act}
def pS(s:az)(o:Int)(tr:Nat)(fl:List Entry)(last:Int)(i:Nat)(H:Hp):(List Int)×(List Bool)×Int×(Option Nat)×Int×Int×Int×Bool×Bool×(Option Nat)×(List Int)×(List Bool)×Int×Int×(List Entry)×Int×Bool×Bool×Int×Hp:=
 (s.aG,s.Down,s.eD,none,0,0,0,false,false,some tr,s.aG,s.Down,s.eD,o,fl,last,true,true,(i:Int),H)
structure PL(s:az)(o:Nat)(i:Nat)(last:Int)(fl:List Entry)(l:Nat)(a:AT)(H:Hp)(tr:Nat):Prop where
 ti:TI s o last l a H tr
 ef:a.fl l=fl
 h0:0<=last
 h1:last<=(i:Nat)
 hl:fl.length<=i
def PL.F(P:PL s o i last fl l a H tr):FL s last fl:=⟨by rw[<-P.ef];exact P.ti.g,by rw[<-P.ef];exact P.ti.Ay⟩
def P6(S:SI s o)(P:PL s o i last fl l a H tr)(hi:i<acts.length)(h80:acts.length<=80)(hs:xz acts[i]=true):
  ∃tr' last' fl' l' a' H',Ev (λf=>mN f (o:Int) acts (pS s o tr fl last i H)) (.inl (pS s o tr' fl' last' (i+1) H'))/\PL s o (i+1) last' fl' l' a' H' tr':=by
 have h0:=P.h0
 have h1:=P.h1
 have hl:=P.hl
 simp only[xz,g_3]at hs
 have hr:=C6 hs.1
 have hw:=C6 hs.2
 have hfl:=P.ef
 have hlen:(a.fl l).length<100:=by rw[hfl];omega
 have wi:IntKind.wrap .i64 ((i:Int)+1)=((i+1:Nat):Int):=eC ω
 have go:(((decide ((i:Int)<(acts.length:Int)))&&true)&&true)=true:=by rw[gu hi];rfl
 generalize hx:acts[i]=x at hs hr hw
 have ix:idx acts (i:Int)=some x:=by rw[aH hi,hx]
 have R1:=λkey=>AP S P.F (row:=x.Row) (key:=key) hr h0 ω ω
 have fin: ∀{last':Int} {l':Nat} {a':AT} {H':Hp} {fl':List Entry},TI s o last' l' a' H' tr->a'.fl l'=fl'->last<=last'->last'<=last+1->fl'.length<=fl.length+1-> ∃H'',Ev (λf=>kL f tr (⟨s,o,fl',last'⟩:Tree) H') (true,H'')/\PL s o (i+1) last' fl' l' a' H'' tr:=by
  intro last' l' a' H' fl' T hf e1 e2 e3
  obtain⟨H'',E,T'⟩:=yc S T ω (by rw[hf];omega)
  rw[hf]at E
  exact⟨H'',E,T',hf,ω,ω,ω⟩
 unfold mN pS
 dsimp only
 by_cases k0:(x.Kind==0)=true
 .obtain⟨l',a',H',E,T,F,M⟩:=Av S P.ti (row:=x.Row) (key:=x.Key) hr h0 ω ω
  rw[hfl]at E T F
  obtain⟨b1,b2,b3⟩:=Qz (s:=s) (row:=x.Row) (key:=x.Key) (last:=last) (fl:=fl)
  obtain⟨H'',G,Q⟩:=fin T F b1 b2 b3
  refine⟨tr,_,_,l',a',H'',.t go<|.ae ix<|.t k0<|.ae rfl<|.bind E<|.bind (R1 x.Key)<|.t ψ<|.ae rfl<|.bind G ?_,Q⟩
  rw[wi]
  exact .pure _
 have k0:(x.Kind==0)=false:=by simpa using k0
 by_cases k1:(x.Kind==1)=true
 .obtain⟨l',a',H',E,T,F,M⟩:=IK S P.ti (row:=x.Row) (key:=x.Key) hr ω
  rw[hfl]at E F
  have b3:=Qg (s:=s) (row:=x.Row) (key:=x.Key) (fl:=fl)
  obtain⟨H'',G,Q⟩:=fin T F (Int.le_refl _) ω ω
  refine⟨tr,_,_,l',a',H'',.t go<|.ae ix<|.f k0<|.t k1<|.ae rfl<|.bind E<|.bind (IX S P.F hr ω)<|.t ψ<|.ae rfl<|.bind G ?_,Q⟩
  rw[wi]
  exact .pure _
 have k1:(x.Kind==1)=false:=by simpa using k1
 by_cases k2:(x.Kind==2)=true
 .obtain⟨l',a',H',E,T,F,M⟩:=LH S P.ti (row:=x.Row) (key:=x.Key) (wth:=x.yg) hr hw h0 ω ω
  rw[hfl]at E T F
  obtain⟨b1,b2,b3⟩:=Qf (s:=s) (row:=x.Row) (wth:=x.yg) (key:=x.Key) (last:=last) (fl:=fl)
  obtain⟨H'',G,Q⟩:=fin T F b1 b2 b3
  refine⟨tr,_,_,l',a',H'',.t go<|.ae ix<|.f k0<|.f k1<|.t k2<|.ae rfl<|.bind E<|.bind (LM S P.F hr hw h0 ω ω)<|.t ψ<|.ae rfl<|.bind G ?_,Q⟩
  rw[wi]
  exact .pure _
 have k2:(x.Kind==2)=false:=by simpa using k2
 by_cases k3:(x.Kind==3)=true
 .obtain⟨t,a',H1,E,T,F,f1,f2,f3,f4⟩:=Ox S P.ti h0 ω
  obtain⟨l2,a2,H2,E2,T2,F2,M2⟩:=Av S (P.ti.fr f1) (row:=x.Row) (key:=1) hr h0 ω ω
  have htr:=(g_5.1 P.ti.obj).1
  have hold:=P.ti.hd.lt
  have T':TI s o last l a' H2 t:=T.Vy (M2.fr t (g_5.1 T.obj).1 ω λh=>by have:=hold t h;omega) λj hj=>M2.fr j (T.hd.lt j hj) (by have:=f3 j hj;omega) λh=>by
   grind
  obtain⟨H'',G,Q⟩:=yc S T' h0 (by rw[F];omega)
  rw[F,hfl]at G
  refine⟨t,last,fl,l,a',H'',.t go<|.ae ix<|.f k0<|.f k1<|.f k2<|.t k3<|.ae rfl<|.bind E<|.bind E2<|.t rfl<|.ae rfl<|.bind G ?_,⟨Q,by rw[F,hfl],h0,ω,ω⟩⟩
  rw[wi]
  exact .pure _
 .have k3:(x.Kind==3)=false:=by simpa using k3
  obtain⟨q1,q2,q3,q4,q5⟩:=P.ti.NV S h0 ω
  obtain⟨a',H1,E,T,F,f1,f2,f3⟩:=Gx S P.ti h0 ω (H++[aN.hole,aN.hole])
  obtain⟨H'',G,Q⟩:=yc S T h0 (by rw[F];omega)
  rw[F,hfl]at G
  refine⟨_,last,fl,l,a',H'',.t go<|.ae ix<|.f k0<|.f k1<|.f k2<|.f k3<|.bz<|.ae rfl<|.bind (EH q3)<|.ae rfl<|.bind (tO q1 q3)<|.bind E<|.t rfl<|.t rfl<|.ae rfl<|.bind G ?_,⟨Q,by rw[F,hfl],h0,ω,ω⟩⟩
  rw[wi]
  exact .pure _
end
set_option maxRecDepth 100000
def Ht:Ev (λf=>nW f) true:=⟨40,λn hn=>by
 obtain⟨m,rfl⟩:=Nat.exists_eq_add_of_le' hn
 kernel_rfl⟩
def Qh(s:az)(order:Int)(hk:s.aG.length<1000):Ev (λf=>Dc f s order)
  (if qI s=true then(if 3<=order/\order<=32 then((⟨s,order,[],0⟩:Tree),0)else((⟨(⟨[],[],0⟩:az),0,[],0⟩:Tree),7))else((⟨(⟨[],[],0⟩:az),0,[],0⟩:Tree),1)):=by
 unfold Dc
 refine .bind (Dg s hk) ?_
 cases qI s with
 |false=>exact .t rfl (.pure _)
 |true=>
  refine .f rfl ?_
  by_cases hc:3<=order/\order<=32
  .rw[if_pos rfl,if_pos hc]
   exact .f χ (.pure _)
  .rw[if_pos rfl,if_neg hc]
   exact .t χ (.pure _)
section
variable {s:az} {order:Int} {acts:List Act}
structure PE(s:az)(o l:Nat)(a:AT)(last:Int)(H:Hp)(tr:Nat):Prop where
 si:SI s o
 ti:TI s o last l a H tr
 h0:0<=last
 h1:last<=80
 hl:(a.fl l).length<=80
def Kw(S:SI s o)(h80:acts.length<=80)(hs:acts.all xz=true): ∀(d i:Nat) {l tr:Nat} {last:Int} {fl:List Entry} {a:AT} {H:Hp},i+d=acts.length->PL s o i last fl l a H tr->
  ∃tr' last' l' a' H',mi (λf=>mN f (o:Int) acts) (pS s o tr fl last i H) (none,0,0,0,false,false,some tr',s.aG,s.Down,s.eD,(o:Int),a'.fl l',last',true,true,H')/\PE s o l' a' last' H' tr'
 |0,i,l,tr,last,fl,a,H,hi,P=>by
  refine⟨tr,last,l,a,H,.stop ?_,⟨S,P.ti,P.h0,by have:=P.h1;omega,by rw[P.ef];have:=P.hl;omega⟩⟩
  unfold mN pS
  dsimp only
  rw[P.ef]
  exact .f φ (.pure _)
 |d+1,i,l,tr,last,fl,a,H,hi,P=>by
  have hil:i<acts.length:=by omega
  obtain⟨tr1,last1,fl1,l1,a1,H1,E,P1⟩:=P6 S P hil h80 (h_4.1 hs _ (j_0 hil))
  obtain⟨tr',last',l',a',H',E2,Q⟩:=Kw S h80 hs d (i+1) ω P1
  exact⟨tr',last',l',a',H',.next E E2,Q⟩
def Qk(hA:Uw s acts=true): ∃t r ok H',Ev (λf=>xO f s order acts []) ((⟨t,r,true,ok⟩:S0),H')/\(ok=true-> ∃(o l:Nat) (a:AT) (last:Int) (tr:Nat),(o:Int)=order/\t=some tr/\r=(⟨s,o,a.fl l,last⟩:Tree)/\PE s o l a last H' tr):=by
 simp only[Uw,g_3,decide_eq_true_eq]at hA
 obtain⟨⟨⟨hs,h80⟩,hk⟩,hd⟩:=hA
 have N:=J8 s order [] ω ω
 have R:=Qh s order ω
 by_cases hv:qI s=true/\3<=order/\order<=32
 .obtain⟨h1,h2⟩:=hv
  rw[if_pos h1,if_pos h2]at N R
  obtain⟨o,rfl⟩: ∃o:Nat,(o:Int)=order:=⟨order.toNat,ω⟩
  have S:SI s o:=⟨h1,ω,ω⟩
  have P:PL s o 0 0 [] 0 (.nd 0 [] []) (([]++[dT [] []])++[ki s o (some 0) 0 0]) 1:=
   ⟨⟨rfl,⟨rfl,rfl⟩,trivial,q_9 _,λh=>absurd rfl h,by simp[AT.ft],λx hx=>by simp[AT.fl]at hx,List.Pairwise.nil,List.Pairwise.nil⟩,rfl,Int.le_refl _,Int.le_refl _,q_9 _⟩
  obtain⟨tr',last',l',a',H',E,Q⟩:=Kw S h80 hs acts.length 0 ω P
  refine⟨some tr',⟨s,o,a'.fl l',last'⟩,true,H',?_,λ_=>⟨o,l',a',last',tr',rfl,rfl,rfl,Q⟩⟩
  unfold xO
  exact .bind N<|.bind R<|.bind E.ev (.pure _)
 .have hbad: ∃c:Int,c≠0/\Ev (λf=>yD f s order []) ((none,c),[])/\Ev (λf=>Dc f s order) ((⟨(⟨[],[],0⟩:az),0,[],0⟩:Tree),c):=by
   grind
  obtain⟨c,hc,N,R⟩:=hbad
  refine⟨none,⟨⟨[],[],0⟩,0,[],0⟩,false,[],?_,λh=>by cases h⟩
  unfold xO
  refine .bind N<|.bind R<|.bind (a:=(none,0,0,0,false,false,none,[],[],0,0,[],0,true,false,[])) (mi.ev (.stop ?_)) (.pure _)
  unfold mN
  dsimp only
  have h0:(c==0)=false:=by simpa using hc
  rw[h0,beq_self_eq_true]
  exact .f ψ (.pure _)
end
set_option maxRecDepth 100000
def zL{α:Type}(g:α->Int): ∀(l:List α) (p:Nat) (x x':α),l[p]? =some x->((l.set p x').map g).sum=(l.map g).sum - g x+g x'
 |[],p,x,x',h=>by simp at h
 |y::l,0,x,x',h=>by
  simp only[j_3,g_2]at h
  subst h
  simp only[List.set_cons_zero,h_3,List.sum_cons];omega
 |y::l,p+1,x,x',h=>by
  simp only[k_8]at h
  simp only[List.set_cons_succ,h_3,List.sum_cons,zL g l p x x' h];omega
def jf(F:Entry->Int)(l:List Entry):Int:=(l.map F).sum
def FY(F:Entry->Int)(a b:List Entry):jf F (a++b)=jf F a+jf F b:=by simp[jf]
def p8(F:Entry->Int)(a:Entry)(b:List Entry):jf F (a::b)=F a+jf F b:=by simp[jf]
def C5(F:Entry->Int): ∀ks:List (List Entry),jf F ks.flatten=(ks.map (jf F)).sum
 |[]=>rfl
 |k::ks=>by simp only[p_8,FY,C5 F ks,h_3,List.sum_cons]
def xy(F:Entry->Int): ∀(es:List Entry) (ks:List (List Entry)),jf F (fU es ks)=jf F es+(ks.map (jf F)).sum
 |[],ks=>by
  have h0:jf F []=0:=rfl
  simp[fU,oG,C5,h0]
 |e::es,[]=>by
  have:=xy F es []
  simp only[fU,oG,List.drop_nil,List.flatten_nil,p_4,q_7,List.sum_nil]at this ⊢
  rw[p8,p8,this];omega
 |e::es,k::ks=>by
  have:=xy F es ks
  simp only[fU,oG,j_4,List.drop_succ_cons,j_2,m_7,h_3,List.sum_cons]at this ⊢
  rw[FY,p8,this,p8];omega
def AQ(F:Entry->Int)(N:List Node)(a:Nat):Int:=((N.take a).map λx=>jf F x.Entries).sum
def Di{F:Entry->Int}{N:List Node}{a:Nat}{x:Node}(h:N[a]? =some x):AQ F N (a+1)=AQ F N a+jf F x.Entries:=by
 unfold AQ
 rw[List.take_add_one,h]
 simp
def Ck{F:Entry->Int}{b:Nat}{N:List Node}{H:Hp}: ∀(lv a z i:Nat),HN b N H lv a z i->jf F (kz N lv a)=AQ F N z - AQ F N a
 |0,a,z,i,h=>by
  obtain⟨x,h1,h2,h3,h4,rfl,h6⟩:=h
  rw[Di h1]
  unfold kz
  rw[h1]
  dsimp only
  omega
 |lv+1,a,z,i,h=>by
  have hin:=λ{x} (hx:N[a]? =some x)=>vl h hx
  obtain⟨x,is,h1,h2,h3,h4,h5,h6⟩:=h
  have K: ∀(ks:List Int) (is:List (Option Nat)) (c d:Nat),zn (HN b N H lv) ks is c d->((ks.map λ(k:Int)=>kz N lv k.toNat).map (jf F)).sum=AQ F N d - AQ F N c:=by
   intro ks
   induction ks with
   |nil=>
    intro is c d hh
    cases is with
    |nil=>cases hh;simp
    |cons q qs=>cases q<;>exact hh.elim
   |cons k ks ih=>
    intro is c d hh
    cases is with
    |nil=>exact hh.elim
    |cons q qs=>
     cases q with
     |none=>exact hh.elim
     |some q=>
      obtain⟨g1,m,g2,g3⟩:=hh
      have e1:=Ck (F:=F) lv c m q g2
      have e2:=ih qs m d g3
      subst g1
      simp only[h_3,List.sum_cons,e2,w_6,e1]
      omega
  rw[hin h1,xy,Nat.add_sub_cancel,K _ _ _ _ h6,Di h1]
  omega
def Lo{b b':Nat}{N N':List Node}{H H':Hp}(hE: ∀(j:Nat) (x x':Node),N[j]? =some x->N'[j]? =some x'->x'.Entries.length=x.Entries.length): ∀(lv a z z' i i':Nat),HN b N H lv a z i->HN b' N' H' lv a z' i'->
  z=z'/\ ∀j,a<=j->j<z-> ∀x x',N[j]? =some x->N'[j]? =some x'->x'.Level=x.Level/\x'.Kids=x.Kids
 |0,a,z,z',i,i',h,h'=>by
  obtain⟨x,h1,h2,h3,h4,rfl,h6⟩:=h
  obtain⟨x',h1',h2',h3',h4',rfl,h6'⟩:=h'
  refine⟨rfl,λj ja jz y y' hy hy'=>?_⟩
  obtain rfl:j=a:=by omega
  rw[h1]at hy;rw[h1']at hy'
  cases hy;cases hy'
  exact⟨by rw[h2,h2'],by rw[h3,h3']⟩
 |lv+1,a,z,z',i,i',h,h'=>by
  obtain⟨x,is,h1,h2,h3,h4,h5,h6⟩:=h
  obtain⟨x',is',h1',h2',h3',h4',h5',h6'⟩:=h'
  have K: ∀(ks ks':List Int) (is is':List (Option Nat)) (c d d':Nat),ks.length=ks'.length->zn (HN b N H lv) ks is c d->zn (HN b' N' H' lv) ks' is' c d'->
    d=d'/\ks'=ks/\ ∀j,c<=j->j<d-> ∀x x',N[j]? =some x->N'[j]? =some x'->x'.Level=x.Level/\x'.Kids=x.Kids:=by
   intro ks
   induction ks with
   |nil=>
    intro ks' is is' c d d' hl hh hh'
    cases ks' with
    |cons _ _=>simp at hl
    |nil=>
     cases is with
     |cons q qs=>cases q<;>exact hh.elim
     |nil=>
      cases is' with
      |cons q qs=>cases q<;>exact hh'.elim
      |nil=>
       cases hh;cases hh'
       exact⟨rfl,rfl,λj h1 h2=>by omega⟩
   |cons k ks ih=>
    intro ks' is is' c d d' hl hh hh'
    cases ks' with
    |nil=>simp at hl
    |cons k' ks'=>
     cases is with
     |nil=>exact hh.elim
     |cons q qs=>
      cases q with
      |none=>exact hh.elim
      |some q=>
       cases is' with
       |nil=>exact hh'.elim
       |cons q' qs'=>
        cases q' with
        |none=>exact hh'.elim
        |some q'=>
         obtain⟨g1,m,g2,g3⟩:=hh
         obtain⟨g1',m',g2',g3'⟩:=hh'
         obtain⟨rfl,e2⟩:=Lo hE lv c m m' q q' g2 g2'
         obtain⟨e3,e4,e5⟩:=ih ks' qs qs' m d d' (by simpa using hl) g3 g3'
         refine⟨e3,by rw[g1,g1',e4],λj hj1 hj2=>?_⟩
         by_cases hm:j<m
         .exact e2 j hj1 hm
         .exact e5 j ω hj2
  have hl:=hE a x x' h1 h1'
  obtain⟨rfl,e2,e3⟩:=K x.Kids x'.Kids is is' (a+1) z z' ω h6 h6'
  refine⟨rfl,λj ja jz y y' hy hy'=>?_⟩
  by_cases hj:j=a
  .subst hj
   rw[h1]at hy;rw[h1']at hy'
   cases hy;cases hy'
   exact⟨by rw[h2,h2'],e2⟩
  .exact e3 j ω jz y y' hy hy'
def J0{b:Nat}{N:List Node}{H:Hp}: ∀{lv a z i:Nat},HN b N H lv a z i-> ∃x,N[a]? =some x/\x.Level=(lv:Int)
 |0,a,z,i,h=>by obtain⟨x,h1,h2,h3,h4,h5,h6⟩:=h;exact⟨x,h1,h2⟩
 |lv+1,a,z,i,h=>by obtain⟨x,is,h1,h2,h3,h4,h5,h6⟩:=h;exact⟨x,h1,h2⟩
def Lp{b:Nat}{N:List Node}{H:Hp}: ∀{lv z i:Nat},HN b N H lv 0 z i->2<=z-> ∃x,N[1]? =some x/\x.Level=(lv:Int) - 1
 |0,z,i,h,hz=>by obtain⟨x,h1,h2,h3,h4,h5,h6⟩:=h;omega
 |lv+1,z,i,h,hz=>by
  obtain⟨x,is,h1,h2,h3,h4,h5,h6⟩:=h
  cases hk:x.Kids with
  |nil=>rw[hk]at h3;simp at h3
  |cons k ks=>
   rw[hk]at h6
   cases is with
   |nil=>exact h6.elim
   |cons q qs=>
    cases q with
    |none=>exact h6.elim
    |some q=>
     obtain⟨g1,m,g2,g3⟩:=h6
     obtain⟨y,hy,hy2⟩:=J0 g2
     exact⟨y,hy,by rw[hy2];push_cast;omega⟩
def Rc{b b':Nat}{N:List Node}{H H':Hp}{lv lv' i i' p:Nat}{x x':Node}(hx:N[p]? =some x)(hE:x'.Entries.length=x.Entries.length)(h:HN b N H lv 0 N.length i)(h':HN b' (N.set p x') H' lv' 0 N.length i')(hs:p≠0\/x'.Level=x.Level\/2<=N.length\/N.length=1):
  x'.Level=x.Level/\x'.Kids=x.Kids:=by
 have hp:=(g_5.1 hx).1
 have hx':(N.set p x')[p]? =some x':=by rw[g_0 hp]
 have e:lv=lv':=by
  by_cases h0:p=0
  .by_cases h2:2<=N.length
   .obtain⟨y,hy,hy2⟩:=Lp h h2
    obtain⟨y',hy',hy2'⟩:=Lp h' h2
    rw[g_1 ω,hy]at hy'
    cases hy'
    omega
   .have:=h.Bd
    have:=h'.Bd
    omega
  .obtain⟨y,hy,hy2⟩:=J0 h
   obtain⟨y',hy',hy2'⟩:=J0 h'
   rw[g_1 h0,hy]at hy'
   cases hy'
   omega
 subst e
 refine(Lo (λj y y' hy hy'=>?_) lv 0 _ _ _ _ h h').2 p (q_9 _) hp x x' hx hx'
 by_cases hj:p=j
 .subst hj
  rw[hx]at hy;rw[hx']at hy'
  cases hy;cases hy';exact hE
 .rw[g_1 hj,hy]at hy'
  cases hy';rfl
def NI{F:Entry->Int}{N:List Node}:AQ F N N.length=(N.map λx=>jf F x.Entries).sum:=by unfold AQ;rw[List.take_length]
def Sf{F:Entry->Int}{N:List Node}:AQ F N 0=0:=by simp[AQ]
def Nu{s:az}{l l':List Entry}(hS:qI s=true)(h1: ∀e∈l,bR s.aG e.Row=true)(h2: ∀e∈l',bR s.aG e.Row=true)(hl:l.length<1000000)(hne:jf (·.Key) l≠jf (·.Key) l'\/jf (·.Number) l≠jf (·.Number) l'):
  Ev (λf=>fE f l l') false:=by
 unfold fE
 by_cases hlen:l.length=l'.length
 .refine .f (by simp[hlen]) ?_
  have L: ∀(q:List Entry) (k:Nat),l.drop k=q->k<=l.length->(jf (·.Key) q≠jf (·.Key) (l'.drop k)\/jf (·.Number) q≠jf (·.Number) (l'.drop k))->mi (λf=>dB f l l') (k:Int) (.inr false):=by
   intro q
   induction q with
   |nil=>
    intro k hd hk hn
    have hk2:l.length<=k:=by simpa using hd
    have e0:l'.drop k=[]:=List.drop_eq_nil_of_le ω
    rw[e0]at hn
    simp at hn
   |cons v q ih=>
    intro k hd hk hn
    have hk1:k<l.length:=by
     grind
    have hk2:k<l'.length:=by omega
    have hdl:l.drop (k+1)=q:=by rw[aZ hk1]at hd;exact(j_1 hd).2
    have hv:l[k]=v:=by rw[aZ hk1]at hd;exact(j_1 hd).1
    rw[aZ hk2,<-hv]at hn
    simp only[p8]at hn
    by_cases c1:l[k].Key=l'[k].Key
    .by_cases c2:l[k].Number=l'[k].Number
     .have S:=zN hS (h1 _ (j_0 hk1)) (h2 _ (j_0 hk2))
      cases hb:(dN s.Down l[k].Row l'[k].Row==0)with
      |true=>
       rw[hb]at S
       refine .next ?_ (ih (k+1) hdl ω ω)
       unfold dB
       refine .t (gu hk1)<|.ae (aH hk1)<|.ae (aH hk2)<|.f (by simpa using c1)<|.ae (aH hk1)<|.ae (aH hk2)<|.f (by simpa using c2)<|.ae (aH hk1)<|.ae (aH hk2)<|.bind S<|.f rfl ?_
       rw[eC ω]
       exact .pure _
      |false=>
       rw[hb]at S
       refine .stop ?_
       unfold dB
       exact .t (gu hk1)<|.ae (aH hk1)<|.ae (aH hk2)<|.f (by simpa using c1)<|.ae (aH hk1)<|.ae (aH hk2)<|.f (by simpa using c2)<|.ae (aH hk1)<|.ae (aH hk2)<|.bind S<|.t rfl (.pure _)
     .refine .stop ?_
      unfold dB
      exact .t (gu hk1)<|.ae (aH hk1)<|.ae (aH hk2)<|.f (by simpa using c1)<|.ae (aH hk1)<|.ae (aH hk2)<|.t (by simpa using c2) (.pure _)
    .refine .stop ?_
     unfold dB
     exact .t (gu hk1)<|.ae (aH hk1)<|.ae (aH hk2)<|.t (by simpa using c1) (.pure _)
  exact .bind (L l 0 rfl ω (by simpa using hne)).ev (.pure _)
 .exact .t (by simpa using by omega) (.pure _)
def Af(y:Int):IntKind.wrap .i64 y=y % 18446744073709551616/\y % 18446744073709551616<9223372036854775808\/IntKind.wrap .i64 y=y % 18446744073709551616 - 18446744073709551616/\9223372036854775808<=y % 18446744073709551616:=by
 by_cases h:9223372036854775808<=y % 18446744073709551616
 .right
  refine⟨?_,h⟩
  simp[IntKind.wrap,IntKind.bits,IntKind.signed,h]
 .left
  refine⟨?_,ω⟩
  simp[IntKind.wrap,IntKind.bits,IntKind.signed,h]
def zK{y b:Int}(hb:b≠0)(h:i64 b):IntKind.wrap .i64 (y+b)≠y:=by
 unfold i64 at h
 have:=Af (y+b)
 omega
def wrap_i64(y:Int):i64 (IntKind.wrap .i64 y):=by
 unfold i64
 have:=Af y
 omega
def wrap_u64{n:Nat}(h:n<1000):IntKind.wrap .u64 (n:Int)=n:=by
 simp only[IntKind.wrap,IntKind.bits,IntKind.signed,m_3]
 rw[if_neg ψ]
 omega
def J6(a:Int){n:Nat}(h0:n≠0)(h:n<1000): ∃k:Nat,rJ a n=k/\k<n:=by
 unfold rJ
 rw[wrap_u64 h]
 have h1:0<=IntKind.wrap .u64 a:=by
  simp only[IntKind.wrap,IntKind.bits,IntKind.signed,m_3]
  rw[if_neg ψ]
  omega
 rw[Int.tmod_eq_emod_of_nonneg h1]
 have h2:=Int.emod_nonneg (IntKind.wrap .u64 a) (b:=(n:Int)) ω
 have h3:=Int.emod_lt_of_pos (IntKind.wrap .u64 a) (b:=(n:Int)) ω
 generalize IntKind.wrap .u64 a % (n:Int)=m at h2 h3
 refine⟨m.toNat,?_,ω⟩
 rw[eo ω ω]
 omega
def R9{α:Type}{l:List α}{k:Nat}{y y':α}(h:l[k]? =some y)(hn:y'≠y):l.set k y'≠l:=λe=>by
 have h1:=(g_5.1 h).1
 have:(l.set k y')[k]? =some y':=by rw[g_0 h1]
 rw[e,h]at this
 exact hn (Option.some.inj this).symm
def Tc(N:List Node)(o:Option (Option (List Node))):Prop:=o=some none\/ ∃(p:Nat) (x x':Node),N[p]? =some x/\o=some (some (N.set p x'))/\x'.Entries.length=x.Entries.length/\x'.Kids.length=x.Kids.length/\i64 x'.Level/\
 (∀e∈x'.Entries,e.Row.length<1000/\i64 e.Number)/\((x'.Level≠x.Level\/x'.Kids≠x.Kids)\/(jf (·.Key) x'.Entries≠jf (·.Key) x.Entries\/jf (·.Number) x'.Entries≠jf (·.Number) x.Entries))
def DD{N:List Node}{p k:Nat}{x:Node}{fd b:Int}(hN:Cq N)(hx:N[p]? =some x)(hb:b≠0)(hi:i64 b)(hk:x.Entries.length≠0->k<x.Entries.length)(hkk:x.Kids.length≠0->k<x.Kids.length):
  Tc N (Ml N (p:Int) x (k:Int) fd b):=by
 obtain⟨q1,q2,q3,q4⟩:=hN.2 x (k_2 hx)
 unfold Ml
 rw[w_6,w_6]
 cases(Int.tmod (IntKind.wrap .u64 fd) 4==0)with
 |true=>exact .inr ⟨p,x,_,hx,rfl,rfl,rfl,wrap_i64 _,q4,.inl (.inl (zK hb hi))⟩
 |false=>
  rw[cond_false]
  cases(Int.tmod (IntKind.wrap .u64 fd) 4==1)with
  |true=>
   rw[cond_true]
   by_cases h0:x.Kids.length=0
   .left;simp[h0]
   .rw[show((x.Kids.length:Int)==0)=false by simpa using h0,cond_false,aH (hkk h0),j_5]
    exact .inr ⟨p,x,_,hx,rfl,rfl,ψ,q3,q4,.inl (.inr (R9 (g_6 (hkk h0)) (zK hb hi)))⟩
  |false=>
   rw[cond_false]
   by_cases h0:x.Entries.length=0
   .left
    rw[show((x.Entries.length:Int)==0)=true by simp[h0]]
    cases(Int.tmod (IntKind.wrap .u64 fd) 4==2)<;>rfl
   .have hk1:=hk h0
    have hg:=g_6 hk1
    have hm:=j_0 hk1
    rw[show((x.Entries.length:Int)==0)=false by simpa using h0,cond_false,cond_false,aH hk1,j_5,j_5]
    cases(Int.tmod (IntKind.wrap .u64 fd) 4==2)with
    |true=>
     refine .inr ⟨p,x,_,hx,rfl,ψ,rfl,q3,λe he=>?_,.inr (.inr ?_)⟩
     .rcases List.mem_or_eq_of_mem_set he with h|rfl
      .exact q4 e h
      .exact⟨(q4 _ hm).1,wrap_i64 _⟩
     .unfold jf
      dsimp only
      rw[zL _ _ _ _ _ hg]
      dsimp only
      have:=zK (y:=x.Entries[k].Number) hb hi
      omega
    |false=>
     refine .inr ⟨p,x,_,hx,rfl,ψ,rfl,q3,λe he=>?_,.inr (.inl ?_)⟩
     .rcases List.mem_or_eq_of_mem_set he with h|rfl
      .exact q4 e h
      .exact⟨(q4 _ hm).1,(q4 _ hm).2⟩
     .unfold jf
      dsimp only
      rw[zL _ _ _ _ _ hg]
      dsimp only
      have:=zK (y:=x.Entries[k].Key) hb hi
      omega
def Mm{N:List Node}{at_ pl fd b:Int}(hN:Cq N)(h0:N.length≠0)(hb:b≠0)(hi:i64 b)(hK: ∀x∈N,x.Kids.length=0\/x.Kids.length=x.Entries.length+1):Tc N (QI N at_ pl fd b):=by
 have hN1:=hN.1
 obtain⟨p,hp,hp1⟩:=J6 at_ h0 hN1
 unfold QI
 rw[show decide (IntKind.wrap .u64 (N.length:Int)≠0)=true by rw[wrap_u64 hN1];simpa using h0,hp,aH hp1]
 show Tc N (bif decide ((N[p].Entries.length:Int)>0)then _ else _)
 have hm:=j_0 hp1
 obtain⟨q1,q2,q3,q4⟩:=hN.2 _ hm
 have hk:=hK _ hm
 by_cases he:N[p].Entries.length=0
 .rw[show decide ((N[p].Entries.length:Int)>0)=false by simp[he],cond_false]
  exact DD (k:=0) hN (g_6 hp1) hb hi (λh=>absurd he h) (λh=>by omega)
 .obtain⟨k,hk1,hk2⟩:=J6 pl he q1
  rw[show decide ((N[p].Entries.length:Int)>0)=true by simp;omega,cond_true,show decide (IntKind.wrap .u64 (N[p].Entries.length:Int)≠0)=true by rw[wrap_u64 q1];simpa using he,hk1]
  exact DD hN (g_6 hp1) hb hi (λh=>hk2) (λh=>by omega)
def RM{b:Nat}{N:List Node}{H:Hp}: ∀(lv a z i:Nat),HN b N H lv a z i-> ∀j,a<=j->j<z-> ∀x,N[j]? =some x->x.Kids.length=0\/x.Kids.length=x.Entries.length+1
 |0,a,z,i,h,j,ja,jz,y,hy=>by
  obtain⟨x,h1,h2,h3,h4,rfl,h6⟩:=h
  obtain rfl:j=a:=by omega
  rw[h1]at hy
  cases hy
  left;simp[h3]
 |lv+1,a,z,i,h,j,ja,jz,y,hy=>by
  obtain⟨x,is,h1,h2,h3,h4,h5,h6⟩:=h
  have K: ∀(ks:List Int) (is:List (Option Nat)) (c d:Nat),zn (HN b N H lv) ks is c d-> ∀j,c<=j->j<d-> ∀x,N[j]? =some x->x.Kids.length=0\/x.Kids.length=x.Entries.length+1:=by
   intro ks
   induction ks with
   |nil=>
    intro is c d hh
    cases is with
    |cons q qs=>cases q<;>exact hh.elim
    |nil=>cases hh;intro j h1 h2;omega
   |cons k ks ih=>
    intro is c d hh j hj1 hj2
    cases is with
    |nil=>exact hh.elim
    |cons q qs=>
     cases q with
     |none=>exact hh.elim
     |some q=>
      obtain⟨g1,m,g2,g3⟩:=hh
      by_cases hm:j<m
      .exact RM lv c m q g2 j hj1 hm
      .exact ih qs m d g3 j ω hj2
  by_cases hj:j=a
  .subst hj
   rw[h1]at hy
   cases hy
   exact .inr h3
  .exact K _ _ _ _ h6 j ω jz y hy
def Cr(s:az)(order:Int)(acts:List Act)(at_ pl fd b:Int)(hi:i64 b):Ev (λf=>nX f s order acts at_ pl fd b) true:=by
 obtain⟨c,A,hb⟩:=QS s acts
 unfold nX
 refine .bind A ?_
 have aw:Ev (λf=>(nW f).bind λr=>some r) true:=.bind Ht (.pure _)
 cases c with
 |false=>exact .t rfl aw
 |true=>
  by_cases h0:b=0
  .exact .t (by simp[h0]) aw
  refine .f (by simpa using h0) ?_
  obtain⟨t,r,ok,H',E,PP⟩:=Qk (order:=order) (hb rfl)
  refine .bind E ?_
  cases ok with
  |false=>exact .t rfl<|.bz<|.t rfl<|.bind Ht (.pure _)
  |true=>
   obtain⟨o,l,a,last,tr,ho,ht,hr,P⟩:=PP rfl
   subst ht hr ho
   have S:=P.si
   have h80:=P.hl
   obtain⟨n1,n2,n3,n4,n5⟩:=P.ti.NV S P.h0 ω
   generalize ji l 0 a=N at n1 n2 n3 n4 n5
   refine .f rfl<|.ae rfl<|.bind (tO n1 n3) ?_
   have n3':=n3.app (H'++[aN.hole,aN.hole]) (λj o hj=>by grind)
   have hks:=jT S.ok
   obtain⟨root,hob,b0,hHN⟩:=n3.ob
   have hlt:=hHN.lt
   have hne:N.length≠0:=by omega
   refine .f (by simpa using hne) ?_
   have kl: ∀x∈N,x.Kids.length=0\/x.Kids.length=x.Entries.length+1:=λx hx=>by
    obtain⟨j,hj1,hj2⟩:=List.getElem_of_mem hx
    exact RM _ _ _ _ hHN j (q_9 _) hj1 x (by rw[g_6 hj1,hj2])
   rcases Mm (at_:=at_) (pl:=pl) (fd:=fd) n1 hne h0 hi kl with hd|⟨p,x,x',hx,hd,m1,m2,m3,m4,m5⟩
   .exact .ae hd aw
   refine .ae hd ?_
   show Ev (λf=>jE f s (o:Int) _ _ _) true
   have hp:=(g_5.1 hx).1
   have hlen:(N.set p x').length=N.length:=by simp
   have nb:Cq (N.set p x'):=by
    refine⟨by rw[hlen];exact n1.1,λy hy=>?_⟩
    rcases List.mem_or_eq_of_mem_set hy with h|rfl
    .exact n1.2 y h
    .obtain⟨q1,q2,q3,q4⟩:=n1.2 x (k_2 hx)
     exact⟨ω,ω,m3,m4⟩
   have LW: ∀H,_:=λH=>FX s (o:Int) last (N.set p x') nb ω ω H
   have R:=De s (o:Int) last (N.set p x') nb ω
   have T:Ev (λf=>vH f s (o:Int) last (N.set p x')) (my s (o:Int) last (N.set p x')):=by
    obtain⟨t,H1,L1,-⟩:=LW []
    unfold vH
    exact .bind L1 (.pure _)
   have La:=EH n3'
   unfold jE
   refine .ae rfl<|.bind La<|.bind T<|.ae rfl<|.bind La<|.bind R<|.f ψ ?_
   by_cases hz:(my s (o:Int) last (N.set p x')).2=0
   .have hw:my s (o:Int) last (N.set p x')=(-1,0):=by
     have h:=hz
     unfold my at h ⊢
     split
     .rename_i h1
      rw[if_pos h1]at h
      split
      .rename_i h2
       rw[if_pos h2]at h
       split
       .rename_i h3
        rw[if_pos h3]at h;cases h
       .rename_i h3
        rw[if_neg h3]at h
        revert h
        cases wk s (o:Int) last (N.set p x') (N.set p x').length 0 0 none none []with
        |inl b=>intro h;cases h
        |inr q=>
         obtain⟨z,met⟩:=q
         simp only
         intro h
         split
         .rename_i h4;rw[if_pos h4]at h;cases h
         .rename_i h4
          rw[if_neg h4]at h
          split
          .rename_i h5;rw[if_pos h5]at h;cases h
          .rfl
      .rename_i h2
       rw[if_neg h2]at h;cases h
     .rename_i h1
      rw[if_neg h1]at h;cases h
    obtain⟨t,H1,L1,L2⟩:=LW (H'++[aN.hole,aN.hole])
    obtain⟨root',z,met,e1,e2,e3,e4,e5,e6,b',lv',e7,e8⟩:=L2 hz
    have hlt':=e8.lt
    have hzl:z=(N.set p x').length:=by omega
    subst hzl
    have hcnt:=(Ah _ _ _ _ _ _ _ _ _ _ _ e2 e8).2
    have hok:=RV _ _ _ _ _ _ _ _ _ _ _ e2 e8
    have TA:zH s (o:Int) last (N.set p x') lv' H1 (_):=⟨root',by
     rw[e4,hcnt]
     simp,b',e8⟩
    obtain⟨H2,AL,-⟩:=JA nb TA
    have hs1:=Ck (F:=(·.Key)) _ _ _ _ hHN
    have hs2:=Ck (F:=(·.Key)) _ _ _ _ e8
    have hs3:=Ck (F:=(·.Number)) _ _ _ _ hHN
    have hs4:=Ck (F:=(·.Number)) _ _ _ _ e8
    rw[NI,Sf]at hs1 hs2 hs3 hs4
    rw[zL _ _ _ _ _ hx]at hs2 hs4
    rw[n4]at hs1 hs3
    have hl3:=wC nb e8
    have nb1:=nb.1
    have hlv':HN b' (N.set p x') H1 lv' 0 N.length root':=by rw[<-hlen];exact e8
    have hneS:jf (·.Key) (kz (N.set p x') lv' 0)≠jf (·.Key) (a.fl l)\/jf (·.Number) (kz (N.set p x') lv' 0)≠jf (·.Number) (a.fl l):=by
     rcases m5 with h|h
     .have:=Rc hx m1 hHN hlv' (by by_cases h:2<=N.length<;>omega)
      rcases h with h|h
      .exact absurd this.1 h
      .exact absurd this.2 h
     .rcases h with h|h
      .left;omega
      .right;omega
    have SE:=Nu S.ok (λe he=>nS (hok e he).1) (λe he=>(P.ti.g e he).1.fit) ω hneS
    refine .t (by rw[hw];rfl)<|.ae rfl<|.bind La<|.bind L1<|.f (by rw[hw];rfl) ?_
    rw[e1]
    exact .ae rfl<|.bind AL<|.bind SE<|.f rfl aw
   .exact .f (by simpa using hz) aw
end Go.Sh
