/- Plain laws: what the functions tell. -/
import Derived.Test.YtmhiemakdfkmeaaGreatW1
set_option linter.all false
set_option autoImplicit true
set_option relaxedAutoImplicit true
namespace Go.Sh
set_option maxRecDepth 100000
section
variable {s:ak} {order last cnt:Int} {root:Option Nat} {tr o:Nat} {H:Hp}
def qi(h:H[tr]? =some (gZ s order root last cnt))(ho:(o:Int)=order)(h32:o<=32):Ev (λf=>b9 f tr H) ((o / 2:Nat):Int):=by
 unfold b9
 refine .ae (qW h) ?_
 rw[<-ho,show Int.tdiv (o:Int) 2=((o / 2:Nat):Int)by grind,cC ω ω]
 exact .pure _
def wK{β:Type}{b:Nat->Bool->Option β}{r:β}{c:Bool}{i n:Nat}{is:List (Option Nat)}{es:List Entry}(hT:H[tr]? =some (gZ s order root last cnt))(ho:(o:Int)=order)(h32:o<=32)
  (hi:H[i]? =some (cz es is)) (hn:n<1000) (hc:(n=0/\c=false)\/ ∃n' j E K,n=n'+1/\is[n']? =some (some j)/\H[j]? =some (cz E K)/\c=decide (o / 2<E.length)) (h:Ev (λf=>b f c) r):
  Ev (λfuel=>aP (b fuel) λjp4=>bif (decide ((n:Int)>0))then
   (aW 1 cP H i 1).bind λx5=>(idx x5 (IntKind.wrap .i64 ((n:Int) - 1))).bind λx6=>x6.bind λi7=>(aW 3 ay H i7 0).bind λx8=>(b9 fuel tr H).bind λr9=>jp4 (decide ((x8.length:Int)>r9))
   else jp4 false) r:=by
 refine .aP ?_
 rcases hc with⟨rfl,rfl⟩|⟨n',j,E,K,rfl,h1,h2,rfl⟩
 .exact .f rfl h
 .refine .t ψ<|.ae (cr hi) ?_
  rw[cC ω ω,show((n'+1:Nat):Int) - 1=(n':Int)by omega]
  refine .ae (dv h1)<|.ae rfl<|.ae (cu h2)<|.bind (qi hT ho h32) ?_
  have:decide ((E.length:Int)>((o / 2:Nat):Int))=decide (o / 2<E.length):=decide_eq_decide.2 ω
  rw[this]
  exact h
def AQ{β:Type}{b:Nat->Bool->Option β}{r:β}(hT:H[tr]? =some (gZ s order root last cnt))(ho:(o:Int)=order)(h32:o<=32)
  (hi:H[i]? =some (cz es is)) (hn:n<1000) (hc:(is.length=n+1/\c=false)\/ ∃j E K,n+1<is.length/\is[n+1]? =some (some j)/\H[j]? =some (cz E K)/\c=decide (o / 2<E.length)) (h:Ev (λf=>b f c) r):
  Ev (λfuel=>aP (b fuel) λjp50=>(aW 1 cP H i 1).bind λx51=>bif (decide ((IntKind.wrap .i64 ((n:Int)+1))<(x51.length:Int)))then
    (aW 1 cP H i 1).bind λx52=>(idx x52 (IntKind.wrap .i64 ((n:Int)+1))).bind λx53=>x53.bind λi54=>(aW 3 ay H i54 0).bind λx55=>(b9 fuel tr H).bind λr56=>jp50 (decide ((x55.length:Int)>r56))
   else jp50 false) r:=by
 rw[cZ ω]
 refine .aP<|.ae (cr hi) ?_
 rcases hc with⟨h1,rfl⟩|⟨j,E,K,h0,h1,h2,rfl⟩
 .exact .f (mn ω) h
 .refine .t (eO h0)<|.ae (cr hi)<|.ae (dv h1)<|.ae rfl<|.ae (cu h2)<|.bind (qi hT ho h32) ?_
  have:decide ((E.length:Int)>((o / 2:Nat):Int))=decide (o / 2<E.length):=decide_eq_decide.2 ω
  rw[this]
  exact h
def GZ{i j k:Nat}{A B L E:List Entry}{x y:Entry}{is KL Q K:List (Option Nat)}(hT:H[tr]? =some (gZ s order root last cnt))(ho:(o:Int)=order)(h32:o<=32)(T:s9 H H i j k (cz (A++x::B) is) (cz (L++[y]) (KL++Q)) (cz E K))
  (hj:is[A.length]? =some (some j)) (hk:is[A.length+1]? =some (some k)) (hs:(Q=[]/\KL=[]/\K=[])\/ ∃q,Q=[some q]/\K≠[]/\KL.length=L.length+1) (hm:o / 2<(L++[y]).length)
  (b1:(A++x::B).length<900) (b2:L.length<900) (b3:E.length<900) (b4:K.length<900):
  ∃H',Ev (λf=>dr f tr i ((A.length+1:Nat):Int) H) ((),H')/\s9 H H' i j k (cz (A++y::B) is) (cz L KL) (cz (x::E) (Q++K)):=by
 have hA:A.length<(A++x::B).length:=by simp
 have hx:(A++x::B)[A.length]=x:=by simp
 have w1:IntKind.wrap .i64 (((A.length+1:Nat):Int) - 1)=(A.length:Int):=by rw[cC ω ω];omega
 have w2:IntKind.wrap .i64 (((L++[y]).length:Int) - 1)=(L.length:Int):=by rw[cC (by simp<;>omega) (by simp<;>omega)];simp
 have iA:idx (A++x::B) (A.length:Int)=some x:=by rw[aw hA,hx]
 have iL:idx (L++[y]) (L.length:Int)=some y:=by rw[aw ψ];simp
 have i0: ∀f,dF f E 0 [x]=some (x::E):=λf=>xe (A:=[]) f χ
 have p0: ∀f,∀q,bV f K 0 [q]=some (q::K):=λf q=>Bp (A:=[]) f χ
 have st:(A++x::B).set (A.length:Int).toNat y=A++y::B:=by simp
 have tl:(L++[y]).take (L.length:Int).toNat=L:=by simp
 have T1:=T.s3 (Jc K)
 have T2:=T1.s3 (cz (x::E) K)
 have T3:=T2.s1 (Jc is)
 have T4:=T3.s1 (cz (A++y::B) is)
 have T5:=T4.s2 (Jc (KL++Q))
 have T6:=T5.s2 (cz L (KL++Q))
 have g2:=(congrArg (bT 3 ay _ i 0) st).trans (gu T3.ai)
 have g3:=(congrArg (bT 3 ay _ j 0) tl).trans (gu T5.bj)
 refine Exists.imp (p:=λH'=>Ev ?F ((),H')/\s9 H H' i j k (cz (A++y::B) is) (cz L KL) (cz (x::E) (Q++K))) (λH' h=>⟨?_,h.2⟩) ?_
 case refine_1=>
  unfold dr
  refine .ae (cr T.ai)<|.ae (dv hk)<|wK (c:=true) hT ho h32 T.ai (by simp at b1;omega) (.inr ⟨_,_,_,_,rfl,hj,T.bj,by simpa using hm⟩)<|.t rfl<|.ae (cr T.ai) ?_
  simp only[w1]
  refine .ae (dv hj)<|.ae rfl<|.ae (cu T.bj) ?_
  simp only[w2]
  refine .ae rfl<|.ae (gr T.ck)<|.ae (cu T.ai)<|.ae iA<|.bind (.of i0)<|.ae rfl<|.ae (gu T1.ck)<|.ae rfl<|.ae (gr T2.ai)<|.ae (cu T2.bj)<|.ae iL<|.ae iA<|
   .dx ψ<|.ae g2<|.ae rfl<|.ae (gr T4.bj)<|.dx (lH ψ)<|.ae rfl<|.ae g3<|.aP<|.ae rfl ?_
  exact h.1
 rcases hs with⟨rfl,rfl,rfl⟩|⟨q,rfl,hK,hKL⟩
 .exact⟨_,.bind (cT T6.ck)<|.f rfl (.pure _),T6⟩
 .have T7:=T6.s3 (KW (x::E))
  have T8:=T7.s3 (cz (x::E) (some q::K))
  have T9:=T8.s2 (KW L)
  have T10:=T9.s2 (cz L KL)
  have w3:IntKind.wrap .i64 ((L.length:Int)+1)=((L.length+1:Nat):Int):=cZ ω
  have iq:idx (KL++[some q]) ((L.length+1:Nat):Int)=some (some q):=dv (by rw[<-hKL];simp)
  have g4:=(congrArg (bT 1 cP _ j 1) (show(KL++[some q]).take ((L.length+1:Nat):Int).toNat=KL by simp_all)).trans (nu T9.bj)
  refine⟨_,.bind (cT T6.ck)<|.t (by simp[hK])<|.ae rfl<|.ae (nr T6.ck)<|.ae (cr T6.bj) ?_,T10⟩
  simp only[w3]
  exact .ae iq<|.ae rfl<|.bind (.of λn=>p0 n _)<|.ae (nu T7.ck)<|.ae rfl<|.ae (nr T8.bj)<|.dx (lH (show _<=(KL++[some q]).length by simp;omega))<|.ae rfl<|.ae g4 (.pure _)
def GY{i j k n:Nat}{A B R E:List Entry}{x y:Entry}{is KR Q K:List (Option Nat)}(hT:H[tr]? =some (gZ s order root last cnt))(ho:(o:Int)=order)(h32:o<=32)(T:s9 H H i j k (cz (A++x::B) is) (cz E K) (cz (y::R) (Q++KR)))
  (hn:n=A.length) (hj:is[n]? =some (some j)) (hk:is[n+1]? =some (some k)) (hs:(Q=[]/\KR=[]/\K=[])\/ ∃q,Q=[some q]/\K≠[]) (hm:o / 2<(y::R).length)
  (hc:(n=0/\false=false)\/ ∃n' j E K,n=n'+1/\is[n']? =some (some j)/\H[j]? =some (cz E K)/\false=decide (o / 2<E.length))
  (b1:(A++x::B).length<900) (b2:(y::R).length<900) (b3:E.length<900) (b4:K.length<900) (b5:KR.length<900):
  ∃H',Ev (λf=>dr f tr i (n:Int) H) ((),H')/\s9 H H' i j k (cz (A++y::B) is) (cz (E++[x]) (K++Q)) (cz R KR):=by
 have hA:n<(A++x::B).length:=by simp[hn]
 have hx:(A++x::B)[n]=x:=by simp[hn]
 have iA:idx (A++x::B) (n:Int)=some x:=by rw[aw hA,hx]
 have iR:idx (y::R) 0=some y:=rfl
 have d0: ∀f,dG f (y::R) 0 1=some R:=λf=>xu (A:=[]) f (by simp at b2 ⊢;omega)
 have w1:IntKind.wrap .i64 ((n:Int)+1)=((n+1:Nat):Int):=cZ ω
 have st:(A++x::B).set (n:Int).toNat y=A++y::B:=by simp[hn]
 have T1:=T.s2 (Jc K)
 have T2:=T1.s2 (cz (E++[x]) K)
 have T3:=T2.s1 (Jc is)
 have T4:=T3.s1 (cz (A++y::B) is)
 have T5:=T4.s3 (Jc (Q++KR))
 have T6:=T5.s3 (cz R (Q++KR))
 have g2:=(congrArg (bT 3 ay _ i 0) st).trans (gu T3.ai)
 have hlk:n+1<is.length:=(g_5.1 hk).1
 refine Exists.imp (p:=λH'=>Ev ?F ((),H')/\s9 H H' i j k (cz (A++y::B) is) (cz (E++[x]) (K++Q)) (cz R KR)) (λH' h=>⟨?_,h.2⟩) ?_
 case refine_1=>
  unfold dr
  refine .ae (cr T.ai)<|.ae (dv hj)<|wK (c:=false) hT ho h32 T.ai ω hc<|.f rfl<|
   AQ (c:=true) hT ho h32 T.ai ω (.inr ⟨_,_,_,hlk,hk,T.ck,by simpa using hm⟩)<|.t rfl<|.ae (cr T.ai) ?_
  simp only[w1]
  refine .ae (dv hk)<|.ae rfl<|.ae (gr T.bj)<|.ae (cu T.ai)<|.ae iA<|.dx (decide_eq_true (show _<=16777216 by simp;omega))<|.ae rfl<|.ae (gu T1.bj)<|.ae rfl<|.ae (gr T2.ai)<|
   .ae (cu T2.ck)<|.ae iR<|.ae iA<|.dx (by simpa using hA)<|.ae g2<|.ae rfl<|.ae (gr T4.ck)<|.bind (.of d0)<|.ae rfl<|.ae (gu T5.ck)<|.aP<|.ae rfl ?_
  exact h.1
 rcases hs with⟨rfl,rfl,rfl⟩|⟨q,rfl,hK⟩
 .exact⟨_,.bind (cT T6.bj)<|.f rfl (.pure _),T6⟩
 .have T7:=T6.s2 (KW (E++[x]))
  have T8:=T7.s2 (cz (E++[x]) (K++[some q]))
  have T9:=T8.s3 (KW R)
  have T10:=T9.s3 (cz R KR)
  have d1: ∀f,cn f ([some q]++KR) 0 1=some KR:=λf=>BK (A:=[]) f χ
  exact⟨_,.bind (cT T6.bj)<|.t (by simp[hK])<|.ae rfl<|.ae (nr T6.bj)<|.ae (cr T6.ck)<|.ae (show idx ([some q]++KR) 0=some (some q)from rfl)<|.ae rfl<|.dx (decide_eq_true (show _<=16777216 by simp;omega))<|
   .ae (nu T7.bj)<|.ae rfl<|.ae (nr T8.ck)<|.bind (.of d1)<|.ae rfl<|.ae (nu T9.ck) (.pure _),T10⟩
def A0{i j k n:Nat}{A B E1 E2:List Entry}{x:Entry}{C D K1 K2:List (Option Nat)}(hT:H[tr]? =some (gZ s order root last cnt))(ho:(o:Int)=order)(h32:o<=32)
  (T:s9 H H i j k (cz (A++x::B) (C++some j::some k::D)) (cz E1 K1) (cz E2 K2)) (hC:C.length=A.length) (hn:n=A.length+1\/(n=0/\A=[]))
  (hq: ∃q,(C++some j::some k::D)[n]? =some (some q))
  (hc:(n=0/\false=false)\/ ∃n' j' E K,n=n'+1/\(C++some j::some k::D)[n']? =some (some j')/\H[j']? =some (cz E K)/\false=decide (o / 2<E.length))
  (hd:((C++some j::some k::D).length=n+1/\false=false)\/ ∃j' E K,n+1<(C++some j::some k::D).length/\(C++some j::some k::D)[n+1]? =some (some j')/\H[j']? =some (cz E K)/\false=decide (o / 2<E.length))
  (b1:(A++x::B).length<900) (b2:(E1++x::E2).length<900) (b3:(K1++K2).length<900) (b4:(C++some j::some k::D).length<900):
  ∃H',Ev (λf=>dr f tr i (n:Int) H) ((),H')/\s9 H H' i j k (cz (A++B) (C++some j::D)) (cz (E1++x::E2) (K1++K2)) (cz E2 K2):=by
 obtain⟨q,hq⟩:=hq
 have T1:=T.s2 (cz (E1++x::E2) K1)
 have T2:=T1.s2 (cz (E1++x::E2) (K1++K2))
 have T3:=T2.s1 (Jc (C++some j::some k::D))
 have T4:=T3.s1 (cz (A++B) (C++some j::some k::D))
 have T5:=T4.s1 (KW (A++B))
 have T6:=T5.s1 (cz (A++B) (C++some j::D))
 have hx:(bif decide (0<(IntKind.wrap .i64 ((n:Int) - 1)))then(IntKind.wrap .i64 ((n:Int) - 1))else 0)=(A.length:Int):=by
  simp only[h_5,j_1]at b1
  rw[cC ω ω]
  grind
 have w1:IntKind.wrap .i64 ((A.length:Int)+1)=((A.length+1:Nat):Int):=cZ (by simp at b1;omega)
 have w2:IntKind.wrap .i64 ((A.length:Int)+2)=((A.length+1+1:Nat):Int):=by simp at b1;rw[cC ω ω];omega
 have sx:sl (A++x::B) (A.length:Int) ((A.length+1:Nat):Int)=[x]:=by
  show List.drop A.length (List.take (A.length+1) (A++x::B))=[x]
  grind
 have okx:kn (A++x::B) (A.length:Int) ((A.length+1:Nat):Int)=true:=by simp[kn];omega
 have ij:idx (C++some j::some k::D) (A.length:Int)=some (some j):=dv (by rw[<-hC];simp)
 have ik:idx (C++some j::some k::D) ((A.length+1:Nat):Int)=some (some k):=dv (by rw[<-hC];simp)
 have e1:[E1,[x],E2].flatten=E1++x::E2:=by simp
 have e2:[K1,K2].flatten=K1++K2:=by simp
 have c1:Ev (λf=>xW f [E1,[x],E2]) (E1++x::E2):=e1▸Ew ψ (by rw[e1];omega)
 have c2:Ev (λf=>xW f [K1,K2]) (K1++K2):=e2▸Ew ψ (by rw[e2];omega)
 have d2: ∀f,cn f (C++some j::some k::D) ((A.length+1:Nat):Int) ((A.length+1+1:Nat):Int)=some (C++some j::D):=λf=>by
  have:=BK (A:=C++[some j]) (B:=D) (e:=some k) f (by simp at b4 ⊢;omega)
  simpa[hC]using this
 refine⟨_,?_,T6⟩
 unfold dr
 refine .ae (cr T.ai)<|.ae (dv hq)<|wK (c:=false) hT ho h32 T.ai φ hc<|.f rfl<|AQ (c:=false) hT ho h32 T.ai φ hd<|.f rfl ?_
 simp only[hx,w1,w2]
 refine .ae (cr T.ai)<|.ae ij<|.ae (cr T.ai)<|.ae ik<|.ae rfl<|.ae rfl<|.ae (cu T.bj)<|.ae (cu T.ai)<|.dx okx<|.ae (cu T.ck) ?_
 rw[sx]
 exact .bind c1<|.ae rfl<|.ae (Fe T.bj)<|.ae rfl<|.ae rfl<|.ae (cr T1.bj)<|.ae (cr T1.ck)<|.bind c2<|.ae rfl<|.ae (Fc T1.bj)<|.ae (gr T2.ai)<|.bind (.of λf=>xu f ω)<|
  .ae (gu T3.ai)<|.ae (nr T4.ai)<|.bind (.of d2)<|.ae (nu T5.ai) (.pure _)
end
set_option maxRecDepth 100000
def Ki{l j:Nat}(hs:iM l E K)(hg:g∈K)(hx:x∈g.ft (l - 1)):x∈AT.ft l (.nd j E K):=by
 cases l with
 |zero=>cases hs;simp at hg
 |succ l=>exact dj.2 (.inr ⟨g,hg,hx⟩)
def OH{l j:Nat}(hs:iM l E K)(hn:(AT.ft l (.nd j E K)).Nodup)(hg:g∈K):j∉g.ft (l - 1):=by
 cases l with
 |zero=>cases hs;simp at hg
 |succ l=>exact(D9 hn g hg).1
def Hs{l j:Nat}(hx:x∈AT.ft l (.nd j E K)):x=j\/ ∃g∈K,x∈g.ft (l - 1):=by
 cases l with
 |zero=>left;simpa[AT.ft]using hx
 |succ l=>exact dj.1 hx
def s9.aF{H H':Hp}{i j k:Nat}{a b c:aD}(T:s9 H H' i j k a b c){l:Nat}{g:AT}(h:g.hd H l)(h1:i∉g.ft l)(h2:j∉g.ft l)(h3:k∉g.ft l):g.hd H' l:=
 h.fr λx hx=>T.fr x (λe=>h1 (e▸hx)) (λe=>h2 (e▸hx)) (λe=>h3 (e▸hx))
section
variable {l i j k:Nat} {es E1 E2:List Entry} {C D K1 K2:List AT} {H:Hp}
def vP(hn:(AT.ft (l+1) (.nd i es (C++.nd j E1 K1::.nd k E2 K2::D))).Nodup):i≠j/\i≠k/\j≠k/\(∀q∈C++D,i∉q.ft l/\j∉q.ft l/\k∉q.ft l)/\
  (AT.ft l (.nd j E1 K1)).Nodup/\(AT.ft l (.nd k E2 K2)).Nodup/\(∀x∈AT.ft l (.nd j E1 K1),x≠i/\x∉AT.ft l (.nd k E2 K2))/\(∀x∈AT.ft l (.nd k E2 K2),x≠i):=by
 have h1:=rD hn
 have h2:=rD (C:=C++[.nd j E1 K1]) (k:=.nd k E2 K2) (D:=D) (l:=l) (i:=i) (es:=es) (by simpa using hn)
 have a1:j∈AT.ft l (.nd j E1 K1):=AT.ln
 have a2:k∈AT.ft l (.nd k E2 K2):=AT.ln
 grind
def At{H':Hp}{a b c:aD}(hh:AT.hd H (l+1) (.nd i es (C++.nd j E1 K1::.nd k E2 K2::D)))(hn:(AT.ft (l+1) (.nd i es (C++.nd j E1 K1::.nd k E2 K2::D))).Nodup)(T:s9 H H' i j k a b c):
  (∀q∈C++D,q.hd H' l)/\ ∀g∈K1++K2,g.hd H' (l - 1):=by
 obtain⟨_,_,_,n1,n2,n3,n4,n5⟩:=vP hn
 have h1:=hh.2.2 (.nd j E1 K1) ψ
 have h2:=hh.2.2 (.nd k E2 K2) ψ
 refine⟨λq hq=>T.aF (hh.2.2 q (by simp at hq ⊢;grind)) (n1 q hq).1 (n1 q hq).2.1 (n1 q hq).2.2,λg hg=>?_⟩
 rcases k_7.1 hg with hg|hg
 .exact T.aF (h1.kids g hg) (λhx=>(n4 _ (Ki h1.iM hg hx)).1 rfl) (OH h1.iM n2 hg) λhx=>(n4 _ (Ki h1.iM hg hx)).2 AT.ln
 .exact T.aF (h2.kids g hg) (λhx=>n5 _ (Ki h2.iM hg hx) rfl) (λhx=>(n4 j AT.ln).2 (Ki h2.iM hg hx)) (OH h2.iM n3 hg)
def nQ(x:Nat):x∈AT.ft (l+1) (.nd i es (C++.nd j E1 K1::.nd k E2 K2::D))<->x=i\/(∃q∈C++D,x∈q.ft l)\/x∈AT.ft l (.nd j E1 K1)\/x∈AT.ft l (.nd k E2 K2):=by
 rw[dj]
 grind
def F9(hh:AT.hd H (l+1) (.nd i es (C++.nd j E1 K1::.nd k E2 K2::D)))
  (hn:(AT.ft (l+1) (.nd i es (C++.nd j E1 K1::.nd k E2 K2::D))).Nodup)
  (T:s9 H H' i j k (cz es' ((C++.nd j E1' K1'::.nd k E2' K2'::D).map eS)) (cz E1' (K1'.map eS)) (cz E2' (K2'.map eS))) (hl:es'.length=es.length) (s1:iM l E1' K1') (s2:iM l E2' K2')
  (hK: ∀g,g∈K1'\/g∈K2'->g∈K1++K2) (b0: ∀q∈C++D,Jm (o / 2) o l q) (b1: ∀g∈K1++K2,Jm (o / 2) o (l - 1) g) (z1:o / 2<=E1'.length/\E1'.length<=o) (z2:o / 2<=E2'.length/\E2'.length<=o):
  PT s o (l+1) (.nd i es (C++.nd j E1 K1::.nd k E2 K2::D)) (.nd i es' (C++.nd j E1' K1'::.nd k E2' K2'::D)) H H':=by
 obtain⟨k1,k2⟩:=At hh hn T
 have h1:=hh.2.2 (.nd j E1 K1) ψ
 have h2:=hh.2.2 (.nd k E2 K2) ψ
 have gx: ∀g∈K1++K2,∀x∈g.ft (l - 1),x∈AT.ft (l+1) (.nd i es (C++.nd j E1 K1::.nd k E2 K2::D)):=λg hg x hx=>by
  rw[nQ]
  rcases k_7.1 hg with hg|hg
  .exact .inr (.inr (.inl (Ki h1.iM hg hx)))
  .exact .inr (.inr (.inr (Ki h2.iM hg hx)))
 refine⟨⟨?_,T.ai,λq hq=>?_⟩,λq hq=>?_,rfl,λx hx hx2=>?_,Nat.le_of_eq T.len.symm,λx hx=>.inl ?_⟩
 .have:=hh.1
  simp at this ⊢;omega
 .rcases(show q∈C++D\/q=.nd j E1' K1'\/q=.nd k E2' K2' by simp at hq ⊢;grind)with hq|rfl|rfl
  .exact k1 q hq
  .exact Hh s1 T.bj λg hg=>k2 g (hK g (.inl hg))
  .exact Hh s2 T.ck λg hg=>k2 g (hK g (.inr hg))
 .rcases(show q∈C++D\/q=.nd j E1' K1'\/q=.nd k E2' K2' by simp at hq ⊢;grind)with hq|rfl|rfl
  .exact b0 q hq
  .exact⟨z1.1,z1.2,(pT s1).2 λg hg=>b1 g (hK g (.inl hg))⟩
  .exact⟨z2.1,z2.2,(pT s2).2 λg hg=>b1 g (hK g (.inr hg))⟩
 .rw[nQ]at hx2
  refine T.fr x (λe=>hx2 (.inl e)) (λe=>hx2 (.inr (.inr (.inl ?_)))) λe=>hx2 (.inr (.inr (.inr ?_)))
  .rw[e];exact AT.ln
  .rw[e];exact AT.ln
 .rw[nQ]at hx
  rcases hx with hx|hx|hx|hx
  .exact(nQ x).2 (.inl hx)
  .exact(nQ x).2 (.inr (.inl hx))
  .rcases Hs hx with rfl|⟨g,hg,hx⟩
   .exact(nQ x).2 (.inr (.inr (.inl AT.ln)))
   .exact gx g (hK g (.inl hg)) x hx
  .rcases Hs hx with rfl|⟨g,hg,hx⟩
   .exact(nQ x).2 (.inr (.inr (.inr AT.ln)))
   .exact gx g (hK g (.inr hg)) x hx
def GK(hh:AT.hd H (l+1) (.nd i es (C++.nd j E1 K1::.nd k E2 K2::D)))
  (hn:(AT.ft (l+1) (.nd i es (C++.nd j E1 K1::.nd k E2 K2::D))).Nodup)
  (T:s9 H H' i j k (cz es' ((C++.nd j E1' K1'::D).map eS)) (cz E1' (K1'.map eS)) c) (hl:es'.length+1=es.length) (s1:iM l E1' K1')
  (hK: ∀g∈K1',g∈K1++K2) (b0: ∀q∈C++D,Jm (o / 2) o l q) (b1: ∀g∈K1++K2,Jm (o / 2) o (l - 1) g) (z1:o / 2<=E1'.length/\E1'.length<=o):
  PT s o (l+1) (.nd i es (C++.nd j E1 K1::.nd k E2 K2::D)) (.nd i es' (C++.nd j E1' K1'::D)) H H':=by
 obtain⟨k1,k2⟩:=At hh hn T
 have h1:=hh.2.2 (.nd j E1 K1) ψ
 have h2:=hh.2.2 (.nd k E2 K2) ψ
 refine⟨⟨?_,T.ai,λq hq=>?_⟩,λq hq=>?_,rfl,λx hx hx2=>?_,Nat.le_of_eq T.len.symm,λx hx=>.inl ?_⟩
 .have:=hh.1
  simp at this ⊢;omega
 .rcases(show q∈C++D\/q=.nd j E1' K1' by simp at hq ⊢;grind)with hq|rfl
  .exact k1 q hq
  .exact Hh s1 T.bj λg hg=>k2 g (hK g hg)
 .rcases(show q∈C++D\/q=.nd j E1' K1' by simp at hq ⊢;grind)with hq|rfl
  .exact b0 q hq
  .exact⟨z1.1,z1.2,(pT s1).2 λg hg=>b1 g (hK g hg)⟩
 .rw[nQ]at hx2
  refine T.fr x (λe=>hx2 (.inl e)) (λe=>hx2 (.inr (.inr (.inl ?_)))) λe=>hx2 (.inr (.inr (.inr ?_)))
  .rw[e];exact AT.ln
  .rw[e];exact AT.ln
 .rw[nQ]
  rcases dj.1 hx with hx|⟨q,hq,hx⟩
  .exact .inl hx
  .rcases(show q∈C++D\/q=.nd j E1' K1' by simp at hq ⊢;grind)with hq|rfl
   .exact .inr (.inl ⟨q,hq,hx⟩)
   .rcases Hs hx with rfl|⟨g,hg,hx⟩
    .exact .inr (.inr (.inl AT.ln))
    .rcases k_7.1 (hK g hg)with hg|hg
     .exact .inr (.inr (.inl (Ki h1.iM hg hx)))
     .exact .inr (.inr (.inr (Ki h2.iM hg hx)))
def th(hA:A.length=C.length):AT.fl (l+1) (.nd i (A++x::B) (C++.nd j E1 K1::.nd k E2 K2::D))=
  wp A (C.map (AT.fl l))++(AT.fl l (.nd j E1 K1)++x::(AT.fl l (.nd k E2 K2)++ws B (D.map (AT.fl l)))):=by
 rw[iU hA]
 simp[ws]
end
set_option maxRecDepth 100000
section
variable {s:ak} {order last cnt:Int} {root:Option Nat} {tr o l i:Nat} {H:Hp}
def vw(hh:AT.hd H (l+1) (.nd i es ks))(hq:q∈ks):H[q.ad]? =some (cz q.es (q.ks.map eS)):=(hh.2.2 q hq).self
def qo{ks:List AT}{n:Nat}{C D:List AT}{q:AT}(h:ks=C++q::D)(hn:n=C.length):(ks.map eS)[n]? =some (some q.ad):=by subst h hn;simp[eS]
def s9.mk'(h1:H[i]? =some a)(h2:H[j]? =some b)(h3:H[k]? =some c)(n1:i≠j)(n2:i≠k)(n3:j≠k):s9 H H i j k a b c:=⟨h1,h2,h3,n1,n2,n3,λ_ _ _ _=>rfl,rfl⟩
def Jh(hT:H[tr]? =some (gZ s order root last cnt))(ho:(o:Int)=order)(h3:3<=o)(h32:o<=32){es:List Entry}{C D:List AT}{k:AT}(hh:AT.hd H (l+1) (.nd i es (C++k::D)))
  (hn:(AT.ft (l+1) (.nd i es (C++k::D))).Nodup) (b0: ∀q∈C++D,Jm (o / 2) o l q) (bk:k.bl (o / 2) o l) (hk:k.es.length+1=o / 2) (h1:1<=es.length) (hle:es.length<=o):
  ∃a' H',Ev (λf=>dr f tr i (C.length:Int) H) ((),H')/\PT s o (l+1) (.nd i es (C++k::D)) a' H H'/\a'.fl (l+1)=AT.fl (l+1) (.nd i es (C++k::D))/\a'.es.length<=es.length/\es.length<=a'.es.length+1:=by
 obtain⟨kk,E,K⟩:=k
 have hk:E.length+1=o / 2:=hk
 have hlen:=hh.1
 have hself:=hh.self
 have hkk:=hh.2.2 (.nd kk E K) ψ
 have hKl:K.length<=E.length+1:=by have:=hkk.iM;unfold iM at this;split at this<;>simp[*]
 have hKb: ∀g∈K,Jm (o / 2) o (l - 1) g:=(pT hkk.iM).1 bk
 simp only[h_5,j_1]at hlen
 have hsmall: ∀q∈C++D,q.es.length<=o/\q.ks.length<=o+1:=λq hq=>by
  have:=(b0 q hq).2.1
  refine⟨this,?_⟩
  have hs:=(hh.2.2 q (by simp at hq ⊢;grind))
  cases q
  have hs:=hs.iM
  unfold iM at hs
  split at hs
  .simp[AT.ks,hs]
  .simp only[AT.ks,AT.es]at this ⊢;omega
 have left:(C=[]/\C.length=0)\/ ∃C0 q,C=C0++[q]:=by
  rcases List.eq_nil_or_concat C with h|⟨C0,q,h⟩
  .exact .inl ⟨h,by simp[h]⟩
  grind
 by_cases c1: ∃C0 q,C=C0++[q]/\o / 2<q.es.length
 .obtain⟨C0,⟨j,Ej,KJ⟩,rfl,hq⟩:=c1
  have hq:o / 2<Ej.length:=hq
  have hqb:=b0 (.nd j Ej KJ) ψ
  obtain⟨L,y,rfl⟩: ∃L y,Ej=L++[y]:=by
   rcases List.eq_nil_or_concat Ej with h|⟨L,y,h⟩
   .simp[h]at hq
   grind
  simp only[j_3,m_5,m_3]at hh hn hself hlen ⊢
  have hqq:=hh.2.2 (.nd j (L++[y]) KJ) ψ
  obtain⟨KL,Q,rfl,s1,s2⟩:=Gn hqq.iM
  have hCl:C0.length<es.length:=by simp at hlen;omega
  obtain⟨A,x,B,rfl,hA⟩: ∃A x B,es=A++x::B/\A.length=C0.length:=⟨es.take C0.length,es[C0.length],es.drop (C0.length+1),rH hCl,χ⟩
  obtain⟨n1,n2,n3,-⟩:=vP hn
  have T:=s9.mk' hself hqq.obj hkk.obj n1 n2 n3
  rw[k_1]at T
  obtain⟨H',E1,T'⟩:=GZ (E:=E) (is:=(C0++.nd j (L++[y]) (KL++Q)::.nd kk E K::D).map eS) (K:=K.map eS) hT ho h32 T (by rw[hA];simp[eS];rfl) (by rw[hA];simp[eS];rfl)
   (by
    unfold iM at s1 s2
    have hks:=hkk.iM
    unfold iM at hks
    split at s1
    .grind
    .rename_i h0;rw[if_neg h0]at s2 hks
     match Q,s2 with
     |[q],_=>exact .inr ⟨q.ad,rfl,by simp;grind,by simp[s1]⟩)
   hq ω (by have:=hqb.2.1;simp[AT.es]at this;omega) ω χ
  rw[<-k_1]at T'
  have hlb:=(pT hqq.iM).1 hqb.2.2
  have hjn:=rW (x:=x) s2 hkk.iM
  have hLl:L.length+1<=o:=by have:=hqb.2.1;simpa[AT.es]using this
  have hL1:o / 2<=L.length:=by
   grind
  have P:=F9 (s:=s) (o:=o) (es':=A++y::B) (E1':=L) (E2':=x::E) (K1':=KL) (K2':=Q++K) hh hn (by simpa[eS,AT.ad]using T') ψ s1 hjn (λg hg=>by simp at hg ⊢;grind) (λq hq=>b0 q (by simp at hq ⊢;grind))
   (λg hg=>by grind) ⟨hL1,ω⟩ ⟨χ,χ⟩
  refine⟨_,H',?_,P,?_,by simp[AT.es],by simp[AT.es]⟩
  .have:(C0++[AT.nd j (L++[y]) (KL++Q)]).length=A.length+1:=by simp[hA]
   rw[this];exact E1
  .have f1:AT.fl l (.nd kk (x::E) (Q++K))=AT.fl l (.nd 0 [] Q)++x::AT.fl l (.nd kk E K):=qn s2 hkk.iM
   have f2:AT.fl l (.nd j (L++[y]) (KL++Q))=AT.fl l (.nd j L KL)++y::AT.fl l (.nd 0 [] Q):=qn s1 s2
   rw[th hA,th hA,f1,f2]
   simp
 have hc:(C.length=0/\false=false)\/ ∃n' j E' K',C.length=n'+1/\((C++AT.nd kk E K::D).map eS)[n']? =some (some j)/\H[j]? =some (cz E' K')/\false=decide (o / 2<E'.length):=by
  rcases left with⟨-,h⟩|⟨C0,q,rfl⟩
  .exact .inl ⟨h,rfl⟩
  .refine .inr ⟨C0.length,q.ad,_,_,ψ,qo (C:=C0) (q:=q) (by simp;rfl) rfl,vw hh ψ,?_⟩
   grind
 by_cases c2: ∃q D0,D=q::D0/\o / 2<q.es.length
 .obtain⟨⟨j,Ej,KJ⟩,D0,rfl,hq⟩:=c2
  have hq:o / 2<Ej.length:=hq
  have hqb:=b0 (.nd j Ej KJ) ψ
  match Ej,hq,hqb,hh,hn,hself,hc,b0,hsmall with
  |[],hq,_,_,_,_,_,_,_=>simp at hq
  |y::R,hq,hqb,hh,hn,hself,hc,b0,hsmall=>
   have hqq:=hh.2.2 (.nd j (y::R) KJ) ψ
   obtain⟨Q,KR,rfl,s1,s2⟩:=EX hqq.iM
   have hCl:C.length<es.length:=by simp at hlen;omega
   obtain⟨A,x,B,rfl,hA⟩: ∃A x B,es=A++x::B/\A.length=C.length:=⟨es.take C.length,es[C.length],es.drop (C.length+1),rH hCl,χ⟩
   obtain⟨n1,n2,n3,-⟩:=vP hn
   have T:=s9.mk' hself hkk.obj hqq.obj n1 n2 n3
   rw[k_1]at T
   have hRl:R.length+1<=o:=by have:=hqb.2.1;simpa[AT.es]using this
   have hKR:KR.length<=o+1:=by unfold iM at s2;split at s2<;>simp[*];omega
   obtain⟨H',E1,T'⟩:=GY (is:=(C++.nd kk E K::.nd j (y::R) (Q++KR)::D0).map eS) (K:=K.map eS) hT ho h32 T hA.symm (qo rfl rfl) (qo (C:=C++[.nd kk E K]) (q:=.nd j (y::R) (Q++KR)) (by simp;rfl) ψ)
    (by
     unfold iM at s1 s2
     have hks:=hkk.iM
     unfold iM at hks
     split at s1
     .grind
     .rename_i h0;rw[if_neg h0]at s2 hks
      match Q,s1 with
      |[q],_=>exact .inr ⟨q.ad,rfl,by simp;grind⟩)
    hq hc ω χ ω χ χ
   rw[<-k_1]at T'
   have hlb:=(pT hqq.iM).1 hqb.2.2
   have hjn:=rW (x:=x) hkk.iM s1
   have hR1:o / 2<=R.length:=by
    grind
   have P:=F9 (s:=s) (o:=o) (es':=A++y::B) (E1':=E++[x]) (E2':=R) (K1':=K++Q) (K2':=KR) hh hn (by simpa[eS,AT.ad]using T') ψ hjn s2 (λg hg=>by simp at hg ⊢;grind) (λq hq=>b0 q (by simp at hq ⊢;grind))
    (λg hg=>by grind) ⟨χ,χ⟩ ⟨hR1,ω⟩
   refine⟨_,H',E1,P,?_,by simp[AT.es],by simp[AT.es]⟩
   have f1:AT.fl l (.nd kk (E++[x]) (K++Q))=AT.fl l (.nd kk E K)++x::AT.fl l (.nd 0 [] Q):=qn hkk.iM s1
   have f2:AT.fl l (.nd j (y::R) (Q++KR))=AT.fl l (.nd 0 [] Q)++y::AT.fl l (.nd j R KR):=qn s1 s2
   rw[th hA,th hA,f1,f2]
   simp
 .
  have hd:(((C++AT.nd kk E K::D).map eS).length=C.length+1/\false=false)\/ ∃j' E' K',C.length+1<((C++AT.nd kk E K::D).map eS).length/\((C++AT.nd kk E K::D).map eS)[C.length+1]? =some (some j')/\H[j']? =some (cz E' K')/\false=decide (o / 2<E'.length):=by
   cases D with
   |nil=>exact .inl ⟨ψ,rfl⟩
   |cons q D0=>
    refine .inr ⟨q.ad,_,_,ψ,qo (C:=C++[.nd kk E K]) (q:=q) (by simp;rfl) ψ,vw hh ψ,?_⟩
    grind
  rcases left with⟨rfl,-⟩|⟨C0,⟨j,Ej,KJ⟩,rfl⟩
  .match D,hh,hn,b0,hself,hlen,hsmall,hc,hd,c2 with
   |[],_,_,_,_,hlen,_,_,_,_=>grind
   |.nd j Ej KJ::D0,hh,hn,b0,hself,hlen,hsmall,hc,hd,c2=>
    match es,h1 with
    |x::B,_=>
     have hqb:=b0 (.nd j Ej KJ) ψ
     have hqs: ¬o / 2<Ej.length:=λh=>c2 ⟨_,_,rfl,h⟩
     have hqm:o / 2<=Ej.length:=hqb.1
     have hqq:=hh.2.2 (.nd j Ej KJ) ψ
     have hKJ:KJ.length<=o+1:=(hsmall (.nd j Ej KJ) ψ).2
     simp only[m_3]at hh hn hself
     obtain⟨n1,n2,n3,-⟩:=vP (C:=[]) hn
     have T:=s9.mk' hself hkk.obj hqq.obj n1 n2 n3
     obtain⟨H',E1,T'⟩:=A0 (n:=0) (A:=[]) (B:=B) (x:=x) (C:=[]) (D:=D0.map eS) (K1:=K.map eS) (K2:=KJ.map eS) hT ho h32 T rfl (.inr ⟨rfl,rfl⟩) ⟨kk,rfl⟩ hc hd (by simp at hle ⊢;omega) χ χ (by simp at hlen hle ⊢;omega)
     rw[<-k_1]at T'
     have P:=GK (s:=s) (C:=[]) (o:=o) (es':=B) (E1':=E++x::Ej) (K1':=K++KJ) hh hn (by simpa[eS,AT.ad]using T') ψ (rW hkk.iM hqq.iM) (λg hg=>hg) (λq hq=>b0 q (by simp at hq ⊢;grind))
      (λg hg=>(k_7.1 hg).elim (hKb g) ((pT hqq.iM).1 hqb.2.2 g)) ⟨χ,χ⟩
     refine⟨_,H',E1,P,?_,by simp[AT.es],by simp[AT.es]⟩
     have f1:AT.fl l (.nd kk (E++x::Ej) (K++KJ))=AT.fl l (.nd kk E K)++x::AT.fl l (.nd j Ej KJ):=qn hkk.iM hqq.iM
     have f2:=th (l:=l) (i:=i) (A:=[]) (B:=B) (x:=x) (C:=[]) (j:=kk) (k:=j) (E1:=E) (E2:=Ej) (K1:=K) (K2:=KJ) (D:=D0) rfl
     have f3:=iU (l:=l) (i:=i) (A:=[]) (B:=B) (C:=[]) (k:=.nd kk (E++x::Ej) (K++KJ)) (D:=D0) rfl
     grind
  .have hqb:=b0 (.nd j Ej KJ) ψ
   have hqs: ¬o / 2<Ej.length:=λh=>c1 ⟨_,_,rfl,h⟩
   have hqm:o / 2<=Ej.length:=hqb.1
   have hKJ:KJ.length<=o+1:=(hsmall (.nd j Ej KJ) ψ).2
   simp only[j_3,m_5,m_3]at hh hn hself hlen ⊢
   have hqq:=hh.2.2 (.nd j Ej KJ) ψ
   have hCl:C0.length<es.length:=by simp at hlen;omega
   obtain⟨A,x,B,rfl,hA⟩: ∃A x B,es=A++x::B/\A.length=C0.length:=⟨es.take C0.length,es[C0.length],es.drop (C0.length+1),rH hCl,χ⟩
   obtain⟨n1,n2,n3,-⟩:=vP hn
   have hcl:(C0++[AT.nd j Ej KJ]).length=A.length+1:=by simp[hA]
   have e0:(C0++AT.nd j Ej KJ::AT.nd kk E K::D).map eS=C0.map eS++some j::some kk::D.map eS:=by simp[eS,AT.ad]
   have T:s9 H H i j kk (cz (A++x::B) (C0.map eS++some j::some kk::D.map eS)) (cz Ej (KJ.map eS)) (cz E (K.map eS)):=by
    rw[<-e0];exact s9.mk' hself hqq.obj hkk.obj n1 n2 n3
   have e1:((C0++[AT.nd j Ej KJ])++AT.nd kk E K::D).map eS=C0.map eS++some j::some kk::D.map eS:=by simp[eS,AT.ad]
   rw[hcl,e1]at hc hd
   rw[hcl]
   obtain⟨H',E1,T'⟩:=A0 (n:=A.length+1) (A:=A) (B:=B) (x:=x) (C:=C0.map eS) (D:=D.map eS) (K1:=KJ.map eS) (K2:=K.map eS) hT ho h32 T (by simp[hA]) (.inl rfl) ⟨kk,by rw[hA];simp⟩ hc hd ω χ χ (by simp at hlen hle ⊢;omega)
   rw[<-k_1]at T'
   have P:=GK (s:=s) (o:=o) (es':=A++B) (E1':=Ej++x::E) (K1':=KJ++K) hh hn (by simpa[eS,AT.ad]using T') χ (rW hqq.iM hkk.iM) (λg hg=>hg) (λq hq=>b0 q (by simp at hq ⊢;grind))
    (λg hg=>(k_7.1 hg).elim (λh=>(pT hqq.iM).1 hqb.2.2 g h) (hKb g)) ⟨χ,χ⟩
   refine⟨_,H',E1,P,?_,by simp[AT.es],by simp[AT.es];omega⟩
   have f1:AT.fl l (.nd j (Ej++x::E) (KJ++K))=AT.fl l (.nd j Ej KJ)++x::AT.fl l (.nd kk E K):=qn hqq.iM hkk.iM
   rw[th hA,iU hA,f1]
   simp
end
set_option maxRecDepth 100000
def Fa{l i N:Nat}{es es':List Entry}{C D:List AT}{k k':AT}(h:(AT.ft (l+1) (.nd i es (C++k::D))).Nodup)(hk:(k'.ft l).Nodup)(hs: ∀x∈k'.ft l,x∈k.ft l\/N<=x)
  (hN: ∀x∈AT.ft (l+1) (.nd i es (C++k::D)),x<N):(AT.ft (l+1) (.nd i es' (C++k'::D))).Nodup:=by
 have hM: ∀L:List AT,(∀q∈L,q∈C++D)-> ∀x∈(L.map (AT.ft l)).flatten,x<N:=λL hL x hx=>by
  simp only[List.mem_flatten,v_9]at hx
  obtain⟨_,⟨q,hq,rfl⟩,hx⟩:=hx
  refine hN x (dj.2 (.inr ⟨q,?_,hx⟩))
  grind
 have hC:=hM C (λq hq=>by simp[hq])
 have hD:=hM D (λq hq=>by simp[hq])
 have hi:i<N:=hN i (dj.2 (.inl rfl))
 simp only[AT.ft,List.nodup_cons,k_1,h_3,List.flatten_append,p_9,k_7,not_or,List.nodup_append]at h ⊢
 grind
section
variable {s:ak} {order last cnt:Int} {root:Option Nat} {tr o:Nat}
def Eo{o:Nat}(hm:1<=m): ∀(l:Nat) (k:AT),k.hd H l->k.bl m o l->1<=k.es.length->o<900->k.es.length<=o->
  ∃j E y is F,gT (λf=>fY f) (some k.ad,H) (some j,H)/\H[j]? =some (cz (E++[y]) is)/\k.fl l=F++[y]/\(E++[y]).length<=o
 |0,.nd i es ks,h,hb,h1,ho,hl=>by
  obtain⟨rfl,h⟩:=h
  have h1:1<=es.length:=h1
  have hl:es.length<=o:=hl
  rcases List.eq_nil_or_concat es with rfl|⟨E,y,he⟩
  .simp at h1
  .have he:es=E++[y]:=by simpa using he
   subst he
   refine⟨i,E,y,[],E,.stop ?_,h,rfl,hl⟩
   unfold fY
   exact .ae rfl<|.bind (cT h)<|.f rfl (.pure _)
 |l+1,.nd i es ks,h,hb,h1,ho,hl=>by
  have hl:es.length<=o:=hl
  rcases List.eq_nil_or_concat ks with rfl|⟨K,q,he⟩
  .have:=h.1;simp at this
  .have he:ks=K++[q]:=by simpa using he
   subst he
   have hq:=hb q ψ
   obtain⟨j,E,y,is,F,e1,e2,e3,e4⟩:=Eo hm l q (h.2.2 q ψ) hq.2.2 ω ho hq.2.1
   have hK:K.length=es.length:=by have:=h.1;simpa using this
   have hfl:=iU (l:=l) (i:=i) (A:=es) (B:=[]) (C:=K) (k:=q) (D:=[]) hK.symm
   rw[p_6]at hfl
   refine⟨j,E,y,is,wp es (K.map (AT.fl l))++F,.next ?_ e1,e2,by rw[hfl,e3];simp[ws],e4⟩
   unfold fY
   have hi:H[i]? =some (cz es ((K++[q]).map eS)):=h.2.1
   refine .ae rfl<|.bind (cT hi)<|.t ψ<|.ae (cr hi)<|.ae (cr hi) ?_
   have w1:IntKind.wrap .i64 ((((K++[q]).map eS).length:Int) - 1)=(K.length:Int):=by
    rw[cC (by simp<;>omega) (by simp<;>omega)];simp
   rw[w1]
   exact .ae (dv (x:=some q.ad) (by simp[eS])) (.pure _)
def IE{l i:Nat}{H:Hp}(hT:H[tr]? =some (gZ s order root last cnt))(ho:(o:Int)=order)(h3:3<=o)(h32:o<=32){es:List Entry}{C D:List AT}{k:AT}(hh:AT.hd H (l+1) (.nd i es (C++k::D)))
  (hn:(AT.ft (l+1) (.nd i es (C++k::D))).Nodup) (b0: ∀q∈C++D,Jm (o / 2) o l q) (bk:k.bl (o / 2) o l) (hk:o / 2<=k.es.length+1) (hk2:k.es.length<=o) (h1:1<=es.length) (hle:es.length<=o):
  ∃a' H',Ev (λn=>(aW 1 cP H i 1).bind λx37=>(idx x37 (C.length:Int)).bind λx38=>x38.bind λi39=>(aW 3 ay H i39 0).bind λx40=>(b9 n tr H).bind λr41=>
    bif (decide ((x40.length:Int)<r41))then(dr n tr i (C.length:Int) H).bind λr42=>some ((),r42.2)else some ((),H)) ((),H')/\PT s o (l+1) (.nd i es (C++k::D)) a' H H'/\
   a'.fl (l+1)=AT.fl (l+1) (.nd i es (C++k::D))/\a'.es.length<=es.length/\es.length<=a'.es.length+1:=by
 have hi:H[i]? =some (cz es ((C++k::D).map eS)):=hh.2.1
 have hix:idx ((C++k::D).map eS) (C.length:Int)=some (some k.ad):=dv (qo rfl rfl)
 by_cases hc:k.es.length<o / 2
 .obtain⟨a',H',E1,P,F1,S1,S2⟩:=Jh (order:=order) (last:=last) (cnt:=cnt) (root:=root) (tr:=tr) hT ho h3 h32 hh hn b0 bk ω h1 hle
  exact⟨a',H',.ae (cr hi)<|.ae hix<|.ae rfl<|.ae (cu (vw hh ψ))<|.bind (qi hT ho h32)<|.t χ<|.bind E1 (.pure _),P,F1,S1,S2⟩
 .refine⟨_,H,.ae (cr hi)<|.ae hix<|.ae rfl<|.ae (cu (vw hh ψ))<|.bind (qi hT ho h32)<|.f χ (.pure _),⟨hh,λq hq=>?_,rfl,λ_ _ _=>rfl,g_9 _,λj hj=>.inl hj⟩,rfl,g_9 _,Nat.le_succ _⟩
  rcases(show q∈C++D\/q=k by simp at hq ⊢;grind)with hq|rfl
  .exact b0 q hq
  .exact⟨ω,hk2,bk⟩
def p8(h:u6 s l):l.Nodup:=List.Pairwise.imp (λ{x y} hxy e=>by subst e;have:=pU hxy;rw[gM]at this;omega) h
def La{l i:Nat}{H H1 H2:Hp}{es es1:List Entry}{C D:List AT}{k k':AT}(hh:AT.hd H (l+1) (.nd i es (C++k::D)))(hn:(AT.ft (l+1) (.nd i es (C++k::D))).Nodup)
  (h1:H1=H/\es1=es\/H1=H.set i (cz es1 ((C++k::D).map eS))/\es1.length=es.length) (P:PT s o l k k' H1 H2) (hk':(k'.ft l).Nodup):
  AT.hd H2 (l+1) (.nd i es1 (C++k'::D))/\(AT.ft (l+1) (.nd i es1 (C++k'::D))).Nodup/\(∀j,j<H.length->j∉AT.ft (l+1) (.nd i es (C++k::D))->H2[j]? =H[j]?)/\H.length<=H2.length/\
   ∀j∈AT.ft (l+1) (.nd i es1 (C++k'::D)),j∈AT.ft (l+1) (.nd i es (C++k::D))\/H.length<=j:=by
 have hil:=(g_5.1 hh.2.1).1
 have hl1:H1.length=H.length:=by grind
 have hi1:H1[i]? =some (cz es1 ((C++k::D).map eS)):=by
  rcases h1 with⟨rfl,rfl⟩|⟨rfl,-⟩
  .exact hh.2.1
  .exact g_0 hil
 have hf1: ∀j,j≠i->H1[j]? =H[j]? :=λj hj=>by
  grind
 have hes:es1.length=es.length:=by grind
 obtain⟨d1,d2,d3⟩:=rD hn
 have hkm:k∈C++k::D:=by simp
 have hle:=P.le
 have e0:(C++k'::D).map eS=(C++k::D).map eS:=by
  simp only[k_1,h_3]
  rw[show eS k'=eS k from congrArg some P.ad]
 refine⟨⟨by have:=hh.1;simp at this ⊢;omega,?_,λq hq=>?_⟩,Fa hn hk' (λx hx=>(P.ft x hx).imp id (by rw[hl1];exact id)) hh.lt,λj hj hj2=>?_,ω,λj hj=>?_⟩
 .show H2[i]? =some (cz es1 ((C++k'::D).map eS))
  rw[e0,P.fr i ω d1];exact hi1
 .rcases(show q∈C++D\/q=k' by simp at hq ⊢;grind)with hq|rfl
  .have hq':q∈C++k::D:=by simp at hq ⊢;grind
   refine(hh.2.2 q hq').fr λj hj=>?_
   have:=(hh.2.2 q hq').lt j hj
   rw[P.fr j ω ((d3 q hq).2 j hj),hf1 j λe=>(d3 q hq).1 (e▸hj)]
  .exact P.hd
 .rw[dj]at hj2
  rw[P.fr j ω λh=>hj2 (.inr ⟨k,hkm,h⟩),hf1 j λe=>hj2 (.inl e)]
 .rcases dj.1 hj with rfl|⟨q,hq,hjq⟩
  .exact .inl (dj.2 (.inl rfl))
  .rcases(show q∈C++D\/q=k' by simp at hq ⊢;grind)with hq|hq
   .exact .inl (dj.2 (.inr ⟨q,by simp at hq ⊢;grind,hjq⟩))
   .subst hq
    rcases P.ft j hjq with h|h
    .exact .inl (dj.2 (.inr ⟨k,hkm,h⟩))
    .right;omega
end
set_option maxRecDepth 100000
section
variable {s:ak} {order last cnt:Int} {root:Option Nat} {tr o:Nat}
def PT.then(hf: ∀j,j<H.length->j∉a.ft l->H1[j]? =H[j]?)(hle:H.length<=H1.length)(hft: ∀j∈b.ft l,j∈a.ft l\/H.length<=j)(had:b.ad=a.ad)(P:PT s o l b c H1 H2):PT s o l a c H H2:=by
 have:=P.le
 refine⟨P.hd,P.bl,P.ad.trans had,λj hj hj2=>?_,ω,λj hj=>?_⟩
 .rw[P.fr j ω λh=>(hft j h).elim hj2 ω,hf j hj hj2]
 .rcases P.ft j hj with h|h
  .exact hft j h
  .right;omega
def pL:(ky s e l).Sublist l:=List.filter_sublist
def ID(hs:oa s=true)(ho:(o:Int)=order)(h3:3<=o)(h32:o<=32):
  ∀(l:Nat) (a:AT) (H:Hp) (e:Entry),gE s e->a.hd H l->a.bl (o / 2) o l->(a.ft l).Nodup->tr∉a.ft l->H[tr]? =some (gZ s order root last cnt)->a.es.length<=o->(l≠0->1<=a.es.length)->
   (∀x∈a.fl l,gE s x)->u6 s (a.fl l)->
   ∃a' H',Ev (λn=>fk n tr a.ad e H) ((),H')/\PT s o l a a' H H'/\a'.fl l=ky s e (a.fl l)/\a'.es.length<=a.es.length/\a.es.length<=a'.es.length+1:=by
 intro l
 induction l with
 |zero=>
  intro a H e he hh hb hn ht hT hl h1 hg hsr
  obtain⟨i,es,ks⟩:=a
  obtain⟨rfl,hi⟩:=hh
  have hl:es.length<=o:=hl
  have hil:=(g_5.1 hi).1
  have hsr:u6 s es:=hsr
  have hg: ∀x∈es,gE s x:=hg
  obtain⟨A,B,rfl,hA,hB⟩:=lu he hsr hg
  have at_:=zw hs hT he hi hg hA hB ω
  have pre: ∀{r},Ev (λn=>bif sJ s e B then(cw 3 ay H i 0).bind λq5=>(dG n q5.1 (A.length:Int) (IntKind.wrap .i64 ((A.length:Int)+1))).bind λr6=>(bT 3 ay q5.2 i 0 r6).bind λH7=>some ((),H7)
    else some ((),H)) r->Ev (λn=>fk n tr i e H) r:=λhE=>by
   refine kJ (g:=λn=>dD n (fk n) tr i e H) (λn=>rfl) ?_
   unfold dD
   exact .bind at_<|.aP<|.bind (cT hi)<|.t rfl hE
  by_cases hz:sJ s e B=true
  .match B,hz,hB with
   |b::B,hz,hB=>
    have hb0:bO s b e=0:=by simpa[sJ]using hz
    have hB': ∀x∈B,0<bO s x e:=λx hx=>ji (hg b ψ) (hg x (by simp[hx])) he ((j_6.1 (j_9.1 hsr).2.1).1 x hx) ω
    refine⟨.nd i (A++B) [],H.set i (cz (A++B) []),pre (.t hz<|.ae (gr hi) ?_),⟨⟨rfl,g_0 hil⟩,trivial,rfl,λj hj hj2=>?_,ψ,λj hj=>.inl hj⟩,(pM hA hb0 hB').symm,by simp[AT.es],by simp[AT.es];omega⟩
    .rw[cZ (by simp at hl;omega)]
     refine .bind (.of λn=>xu n ω)<|.ae (gu (g_0 hil)) ?_
     rw[m_6]
     exact .pure _
    .have:i≠j:=λh=>hj2 (by simp[AT.ft,h])
     rw[g_1 this]
  .have hno: ∀x∈A++B,bO s x e≠0:=λx hx=>by
    rcases k_7.1 hx with hx|hx
    .have:=hA x hx;omega
    .match B,hz,hB,hx with
     |b::B,hz,hB,hx=>
      have hb0:bO s b e≠0:=by simpa[sJ]using hz
      rcases h_9.1 hx with rfl|hx
      .exact hb0
      .have h4:=hB b ψ
       have:=ji (hg b ψ) (hg x (by simp[hx])) he ((j_6.1 (j_9.1 hsr).2.1).1 x hx) h4
       omega
   exact⟨.nd i (A++B) [],H,pre (.f (by simpa using hz) (.pure _)),⟨⟨rfl,hi⟩,trivial,rfl,λ_ _ _=>rfl,g_9 _,λj hj=>.inl hj⟩,(Fx hno).symm,g_9 _,Nat.le_succ _⟩
 |succ l ih=>
  intro a H e he hh hb hn ht hT hl h1 hg hsr
  obtain⟨i,es,ks⟩:=a
  have hl:es.length<=o:=hl
  have h1:1<=es.length:=h1 ω
  have hk1:=hh.1
  have hi:H[i]? =some (cz es (ks.map eS)):=hh.2.1
  have hil:=(g_5.1 hi).1
  have hsub:es.Sublist (AT.fl (l+1) (.nd i es ks)):=Cb (by simp[hk1])
  have hges: ∀x∈es,gE s x:=λx hx=>hg x (hsub.subset hx)
  obtain⟨A,B,rfl,hA,hB⟩:=lu he (hsr.sublist hsub) hges
  have hkl:A.length<ks.length:=by rw[hk1];simp;omega
  obtain⟨C,k,D,rfl,hC⟩:=zR hkl
  have hDl:B.length=D.length:=by simp at hk1;omega
  have hfl:AT.fl (l+1) (.nd i (A++B) (C++k::D))=_:=iU hC.symm
  rw[hfl]at hg hsr ⊢
  have hkm:k∈C++k::D:=by simp
  obtain⟨d1,d2,d3⟩:=rD hn
  have hkft: ∀j∈k.ft l,j∈AT.ft (l+1) (.nd i (A++B) (C++k::D)):=λj hj=>dj.2 (.inr ⟨k,hkm,hj⟩)
  have sp:=hsr
  unfold u6 at sp
  rw[j_9,j_9]at sp
  have hP:=yf he (by simp[hC]) sp.1 (λx hx=>hg x (List.mem_append_left _ hx)) hA
  have hkb:=hb k hkm
  have hkh:=hh.2.2 k hkm
  have hgk: ∀x∈k.fl l,gE s x:=λx hx=>hg x (by simp[hx])
  have b0: ∀q∈C++D,Jm (o / 2) o l q:=λq hq=>hb q (by simp at hq ⊢;grind)
  have hix:idx ((C++k::D).map eS) (A.length:Int)=some (some k.ad):=dv (qo rfl hC.symm)
  have at_:=zw hs hT he hi hges hA hB ω
  have fin: ∀{e1:Entry} {k':AT} {H1 H2:Hp} {es1:List Entry},es1.length=(A++B).length->(H1=H/\es1=A++B\/H1=H.set i (cz es1 ((C++k::D).map eS))/\es1.length=(A++B).length)->PT s o l k k' H1 H2->k'.fl l=ky s e1 (k.fl l)->k'.es.length<=k.es.length->k.es.length<=k'.es.length+1->
    ∃a' H',Ev (λn=>(aW 1 cP H2 i 1).bind λx37=>(idx x37 (A.length:Int)).bind λx38=>x38.bind λi39=>(aW 3 ay H2 i39 0).bind λx40=>(b9 n tr H2).bind λr41=>
     bif (decide ((x40.length:Int)<r41))then(dr n tr i (A.length:Int) H2).bind λr42=>some ((),r42.2)else some ((),H2)) ((),H')/\PT s o (l+1) (.nd i (A++B) (C++k::D)) a' H H'/\
     a'.fl (l+1)=AT.fl (l+1) (.nd i es1 (C++k'::D))/\a'.es.length<=(A++B).length/\(A++B).length<=a'.es.length+1:=by
   intro e1 k' H1 H2 es1 hes hH P hF z1 z2
   have hk'n:(k'.ft l).Nodup:=AT.nodup (m:=o / 2) (o:=o) ω P.hd P.bl (by rw[hF];exact(p8 sp.2.1.1).sublist pL)
   obtain⟨q1,q2,q3,q4,q5⟩:=La hh hn hH P hk'n
   have hT2:H2[tr]? =some (gZ s order root last cnt):=by grind
   have z3:=hkb.1
   have z4:=hkb.2.1
   obtain⟨a',H',E1,P1,F1,S1,S2⟩:=IE hT2 ho h3 h32 q1 q2 b0 P.bl ω ω ω ω
   rw[hC]at E1
   exact⟨a',H',E1,P1.then q3 q4 q5 rfl,F1,ω,ω⟩
  by_cases hz:sJ s e B=true
  .match B,hz,hB,hDl with
   |b::B,hz,hB,hDl=>
    have hb0:bO s b e=0:=by simpa[sJ]using hz
    match D,hDl with
    |d::D,hDl=>
     have hDl:B.length=D.length:=by simpa using hDl
     have hgb:=hges b ψ
     obtain⟨j,E,y,is,F,D1,D2,D3,D4⟩:=Eo (m:=o / 2) (o:=o) ω l k hkh hkb.2.2 (by have:=hkb.1;omega) ω hkb.2.1
     have hgy:gE s y:=hgk y (by rw[D3];simp)
     have og:(A++b::B).set (A.length:Int).toNat y=A++y::B:=by simp
     have g1:=(congrArg (bT 3 ay _ i 0) og).trans (gu (is:=(C++k::d::D).map eS) (g_0 hil))
     rw[m_6]at g1
     let H1:Hp:=H.set i (cz (A++y::B) ((C++k::d::D).map eS))
     have hi1:H1[i]? =some (cz (A++y::B) ((C++k::d::D).map eS)):=g_0 hil
     have hit:i≠tr:=λh=>ht (dj.2 (.inl h.symm))
     have hT1:H1[tr]? =some (gZ s order root last cnt):=by grind
     have hkh1:k.hd H1 l:=hkh.fr λx hx=>g_1 λh=>d1 (by rw[h];exact hx)
     obtain⟨k',H2,E2,P2,F2,z1,z2⟩:=ih k H1 y hgy hkh1 hkb.2.2 d2 (λh=>ht (hkft _ h)) hT1 hkb.2.1 (λ_=>by have:=hkb.1;omega) hgk sp.2.1.1
     obtain⟨a',H',E3,P3,F3,S1,S2⟩:=fin (es1:=A++y::B) ψ (.inr ⟨rfl,ψ⟩) P2 F2 z1 z2
     have hlA:A.length<(A++b::B).length:=by simp
     have ib:idx (A++b::B) (A.length:Int)=some b:=by rw[aw hlA];simp
     have iy:idx (A++y::B) (A.length:Int)=some y:=by rw[aw ψ];simp
     have w1:IntKind.wrap .i64 (((E++[y]).length:Int) - 1)=(E.length:Int):=by rw[cC (by simp<;>omega) (by simp at D4 ⊢;omega)];simp
     have iE:idx (E++[y]) (E.length:Int)=some y:=by rw[aw ψ];simp
     refine⟨a',H',?_,P3,?_,S1,S2⟩
     .refine kJ (g:=λn=>dD n (fk n) tr i e H) (λn=>rfl) ?_
      unfold dD
      refine .bind at_<|.aP<|.bind (cT hi)<|.f ψ<|.t hz<|.ae (cr hi)<|.ae hix<|.bind D1.ev<|.ae rfl<|.ae rfl<|.ae (gr hi)<|.ae (cu D2)<|.ae (cu D2) ?_
      simp only[w1]
      exact .ae iE<|.ae ib<|.dx ψ<|.ae g1<|.ae (cr hi1)<|.ae hix<|.ae (cu hi1)<|.ae iy<|.ae rfl<|.bind E2 E3
     .rw[F3]
      have e1:AT.fl (l+1) (.nd i (A++y::B) (C++k'::d::D))=wp A (C.map (AT.fl l))++(k'.fl l++ws (y::B) ((d::D).map (AT.fl l))):=iU hC.symm
      have s1:=sp.2.1.1
      rw[D3]at s1
      have e2:ky s y (k.fl l)=F:=by
       rw[D3]
       have:=pM (s:=s) (e:=y) (b:=y) (A:=F) (B:=[]) (λx hx=>pU ((j_9.1 s1).2.2 x hx y ψ)) (gM y) ψ
       simpa using this
      have hwk: ∀x∈k.fl l,bO s x e<0:=λx hx=>by
       have h5:=pU (sp.2.1.2.2 x hx b (by simp[ws]))
       have h6:=J4 (s:=s) (hgk x hx).fit hgb.fit he.fit ω ω
       omega
      have hwS: ∀x∈d.fl l++ws B (D.map (AT.fl l)),0<bO s x e:=λx hx=>by
       have hsS:=sp.2.1.2.1
       simp only[h_3,ws,j_6]at hsS
       exact ji hgb (hg x (by simp[ws]at hx ⊢;grind)) he (hsS.1 x hx) ω
      have e3:=pM (s:=s) (e:=e) (b:=b) (A:=wp A (C.map (AT.fl l))++k.fl l) (B:=d.fl l++ws B (D.map (AT.fl l))) (λx hx=>by
       grind) hb0 hwS
      rw[F2,e2]at e1
      rw[e1]
      simp only[j_3,h_3,ws]at e3 ⊢
      rw[e3,D3]
      simp
  .have hB': ∀x∈B,0<bO s x e:=λx hx=>by
    match B,hz,hB,hx,hges,hsub with
    |b::B,hz,hB,hx,hges,hsub=>
     have hb0:bO s b e≠0:=by simpa[sJ]using hz
     have h4:=hB b ψ
     rcases h_9.1 hx with rfl|hx
     .omega
     .rw[hfl]at hsub
      have h5:=hsr.sublist hsub
      exact ji (hges b ψ) (hges x (by simp[hx])) he ((j_6.1 (j_9.1 h5).2.1).1 x hx) h4
   have hS:=ye he (by simp[hDl]) sp.2.1.2.1 (λx hx=>hg x (w_2 _ (w_2 _ hx))) hB'
   obtain⟨k',H2,E2,P2,F2,z1,z2⟩:=ih k H e he hkh hkb.2.2 d2 (λh=>ht (hkft _ h)) hT hkb.2.1 (λ_=>by have:=hkb.1;omega) hgk sp.2.1.1
   obtain⟨a',H',E3,P3,F3,S1,S2⟩:=fin (es1:=A++B) rfl (.inl ⟨rfl,rfl⟩) P2 F2 z1 z2
   refine⟨a',H',?_,P3,?_,S1,S2⟩
   .refine kJ (g:=λn=>dD n (fk n) tr i e H) (λn=>rfl) ?_
    unfold dD
    exact .bind at_<|.aP<|.bind (cT hi)<|.f ψ<|.f (by simpa using hz)<|.ae (cr hi)<|.ae hix<|.ae rfl<|.bind E2 E3
   .have e1:AT.fl (l+1) (.nd i (A++B) (C++k'::D))=wp A (C.map (AT.fl l))++(k'.fl l++ws B (D.map (AT.fl l))):=iU hC.symm
    rw[F3,e1,F2]
    exact(Em (λx hx=>by have:=hP x hx;omega) λx hx=>by have:=hS x hx;omega).symm
end
set_option maxRecDepth 100000
inductive oP (P:Hp->Prop) (Y:Nat->Entry->Hp->Option (Bool×Hp)):List Entry->Hp->Bool×Hp->Prop
 |nil {H}:P H->oP P Y [] H (true,H)
 |go {e es H H1 r}:P H->Ev (λn=>Y n e H) (true,H1)->oP P Y es H1 r->oP P Y (e::es) H r
 |stop {e es H H1}:P H->Ev (λn=>Y n e H) (false,H1)->oP P Y (e::es) H (false,H1)
section
variable {P:Hp->Prop} {Y:Nat->Entry->Hp->Option (Bool×Hp)}
def oP.p(h:oP P Y es H r):P H:=by cases h<;>assumption
def oP.split: ∀{A B:List Entry} {H:Hp} {r:Bool×Hp},oP P Y (A++B) H r->(∃H1,oP P Y A H (true,H1)/\oP P Y B H1 r)\/(∃H1,r=(false,H1)/\oP P Y A H (false,H1))
 |[],B,H,r,h=>.inl ⟨H,.nil h.p,h⟩
 |e::A,B,H,r,h=>by
  cases h with
  |go hp h1 h2=>
   rcases oP.split h2 with⟨H1,g1,g2⟩|⟨H1,rfl,g⟩
   .exact .inl ⟨H1,.go hp h1 g1,g2⟩
   .exact .inr ⟨H1,rfl,.go hp h1 g⟩
  |stop hp h1=>exact .inr ⟨_,rfl,.stop hp h1⟩
def Ey: ∀(l:Nat) (a:AT) (d:Nat) (H:Hp) (r:Bool×Hp),(∀H,P H->a.hd H l)->(∀H,P H->a.es.length<1000)->a.bl 0 900 l->oP P Y (a.fl l) H r->Ev (λn=>ey n (Y n) (n - d) a.ad H) r:=by
 intro l
 induction l with
 |zero=>
  intro a d H r hh hl hb hr
  obtain⟨i,es,ks⟩:=a
  have hes:es.length<1000:=hl H hr.p
  have hobj: ∀H,P H->H[i]? =some (cz es []):=λH hp=>(hh H hp).2
  have L: ∀(q:List Entry) (k:Nat) (H:Hp),es.drop k=q->k<=es.length->oP P Y q H r->gT (λn=>cE n (Y n) (ey n (Y n) (n - (d+1))) i (((es.length+1:Nat):Int))) ((k:Int),H) r:=by
   intro q
   induction q with
   |nil=>
    intro k H hd hk hr
    have hk2:k=es.length:=by
     have:es.length<=k:=by simpa using hd
     omega
    cases hr with
    |nil hp=>
     have ho:=hobj H hp
     refine .next (y:=(((k+1:Nat):Int),H)) ?_ (.stop ?_)
     .unfold cE
      refine .t (eO ω)<|.bind (cT ho)<|.bind (.t rfl (.pure _))<|.t rfl<|.ae (cu ho)<|.f (mn ω) ?_
      rw[cZ ω];exact .pure _
     .unfold cE
      exact .f (mn ω) (.pure _)
   |cons e q ih=>
    intro k H hd hk hr
    have hk1:k<es.length:=by
     grind
    have hek:es[k]=e:=by rw[aH hk1]at hd;exact(j_0 hd).1
    have hdl:es.drop (k+1)=q:=by rw[aH hk1]at hd;exact(j_0 hd).2
    have ho:=hobj H hr.p
    have pre: ∀{y x},Ev (λn=>Y n e H) y->Ev (λn=>cond y.1 (some (.inl (((k+1:Nat):Int),y.2))) (some (.inr (false,y.2)))) x->Ev (λn=>cE n (Y n) (ey n (Y n) (n - (d+1))) i (((es.length+1:Nat):Int)) ((k:Int),H)) x:=λh1 h2=>by
     unfold cE
     refine .t (eO ω)<|.bind (cT ho)<|.bind (.t rfl (.pure _))<|.t rfl<|.ae (cu ho)<|.t (eO hk1)<|.ae (aw hk1) ?_
     rw[hek,cZ ω]
     exact .bind h1 h2
    cases hr with
    |go hp h1 h2=>exact .next (pre h1 (.t rfl (.pure _))) (ih (k+1) _ hdl ω h2)
    |stop hp h1=>exact .stop (pre h1 (.f rfl (.pure _)))
  refine xr (F:=λn s=>ey n (Y n) s i H) (g:=λn s=>_) (λn s=>rfl) ?_
  refine .ae (cu (hobj H hr.p)) ?_
  rw[cZ ω]
  exact(L es 0 H rfl ω hr).ev
 |succ l ih=>
  intro a d H r hh hl hb hr
  obtain⟨i,es,ks⟩:=a
  have hes:es.length<1000:=hl H hr.p
  have hobj: ∀H,P H->H[i]? =some (cz es (ks.map eS)):=λH hp=>(hh H hp).2.1
  have hkl:ks.length=es.length+1:=(hh H hr.p).1
  have hne:ks.map eS≠[]:=by intro e;simp at e;simp[e]at hkl
  have L: ∀(q:List Entry) (k:Nat) (H:Hp),es.drop k=q->(hk:k<=es.length)->oP P Y ((ks[k]' ω).fl l++ws q ((ks.drop (k+1)).map (AT.fl l))) H r->
    gT (λn=>cE n (Y n) (ey n (Y n) (n - (d+1))) i (((es.length+1:Nat):Int))) ((k:Int),H) r:=by
   intro q
   induction q with
   |nil=>
    intro k H hd hk hr
    have hk2:k=es.length:=by
     have:es.length<=k:=by simpa using hd
     omega
    have hkk:k<ks.length:=by omega
    have ho:=hobj H hr.p
    have hix:idx (ks.map eS) (k:Int)=some (some ks[k].ad):=dv (by simp[hkk,eS])
    have sub:=λ{H r}=>ih ks[k] (d+1) H r (λH hp=>(hh H hp).2.2 _ (j_2 hkk)) (λH hp=>by have:=(hb ks[k] (j_2 hkk)).2.1;omega) (hb ks[k] (j_2 hkk)).2.2
    have hw:ws [] ((ks.drop (k+1)).map (AT.fl l))=[]:=by simp[ws]
    rw[hw,p_6]at hr
    have S:=sub hr
    by_cases h1:r.1=true
    .obtain⟨b,H1⟩:=r
     have h1:b=true:=h1
     subst h1
     have hp1:P H1:=by
      have: ∀{es:List Entry} {H:Hp} {r:Bool×Hp},oP P Y es H r->r.1=true->P r.2:=by
       intro es H r h
       induction h with
       |nil hp=>exactλ_=>hp
       |go _ _ _ ih=>exact ih
       |stop _ _=>exactλh=>by cases h
      exact this hr rfl
     refine .next (y:=(((k+1:Nat):Int),H1)) ?_ (.stop ?_)
     .unfold cE
      refine .t (eO ω)<|.bind (cT ho)<|.bind (.f (by simpa using hne)<|.ae (cr ho)<|.ae hix<|.ae rfl S)<|.t rfl<|.ae (cu (hobj H1 hp1))<|.f (mn ω) ?_
      rw[cZ ω];exact .pure _
     .unfold cE
      exact .f (mn ω) (.pure _)
    .obtain⟨b,H1⟩:=r
     have h1:b=false:=by simpa using h1
     subst h1
     refine .stop ?_
     unfold cE
     exact .t (eO ω)<|.bind (cT ho)<|.bind (.f (by simpa using hne)<|.ae (cr ho)<|.ae hix<|.ae rfl S)<|.f rfl (.pure _)
   |cons e q ihq=>
    intro k H hd hk hr
    have hk1:k<es.length:=by
     grind
    have hek:es[k]=e:=by rw[aH hk1]at hd;exact(j_0 hd).1
    have hdl:es.drop (k+1)=q:=by rw[aH hk1]at hd;exact(j_0 hd).2
    have hkk:k<ks.length:=by omega
    have ho:=hobj H hr.p
    have hix:idx (ks.map eS) (k:Int)=some (some ks[k].ad):=dv (by simp[hkk,eS])
    have sub:=λ{H r}=>ih ks[k] (d+1) H r (λH hp=>(hh H hp).2.2 _ (j_2 hkk)) (λH hp=>by have:=(hb ks[k] (j_2 hkk)).2.1;omega) (hb ks[k] (j_2 hkk)).2.2
    have hw:ws (e::q) ((ks.drop (k+1)).map (AT.fl l))=e::((ks[k+1]' ω).fl l++ws q ((ks.drop (k+2)).map (AT.fl l))):=by
     rw[aH (show k+1<ks.length by omega)];rfl
    rw[hw]at hr
    rcases hr.split with⟨H1,g1,g2⟩|⟨H1,rfl,g⟩
    .have S:=sub g1
     have ho1:=hobj H1 g2.p
     have pre: ∀{y x},Ev (λn=>Y n e H1) y->Ev (λn=>cond y.1 (some (.inl (((k+1:Nat):Int),y.2))) (some (.inr (false,y.2)))) x->Ev (λn=>cE n (Y n) (ey n (Y n) (n - (d+1))) i (((es.length+1:Nat):Int)) ((k:Int),H)) x:=λh1 h2=>by
      unfold cE
      refine .t (eO ω)<|.bind (cT ho)<|.bind (.f (by simpa using hne)<|.ae (cr ho)<|.ae hix<|.ae rfl S)<|.t rfl<|.ae (cu ho1)<|.t (eO hk1)<|.ae (aw hk1) ?_
      rw[hek,cZ ω]
      exact .bind h1 h2
     cases g2 with
     |go hp h1 h2=>exact .next (pre h1 (.t rfl (.pure _))) (ihq (k+1) _ hdl ω h2)
     |stop hp h1=>exact .stop (pre h1 (.f rfl (.pure _)))
    .refine .stop ?_
     unfold cE
     exact .t (eO ω)<|.bind (cT ho)<|.bind (.f (by simpa using hne)<|.ae (cr ho)<|.ae hix<|.ae rfl (sub g))<|.f rfl (.pure _)
  refine xr (F:=λn s=>ey n (Y n) s i H) (g:=λn s=>_) (λn s=>rfl) ?_
  refine .ae (cu (hobj H hr.p)) ?_
  rw[cZ ω]
  refine(L es 0 H rfl ω ?_).ev
  have h0:0<ks.length:=by omega
  have e0:AT.fl (l+1) (.nd i es ks)=(ks[0]'h0).fl l++ws es ((ks.drop 1).map (AT.fl l)):=by
   match ks,h0 with
   |k::ks,_=>rfl
  rw[e0]at hr
  exact hr
end
set_option maxRecDepth 100000
structure TI(s:ak)(o:Nat)(last:Int)(l:Nat)(a:AT)(H:Hp)(tr:Nat):Prop where
 obj:H[tr]? =some (gZ s o (some a.ad) last ((a.fl l).length:Nat))
 hd:a.hd H l
 bl:a.bl (o / 2) o l
 top:a.es.length<=o
 one:l≠0->1<=a.es.length
 nt:tr∉a.ft l
 g: ∀x∈a.fl l,gE s x/\x.Number<=last
 wj:u6 s (a.fl l)
 num:((a.fl l).map (·.Number)).Nodup
structure SI(s:ak)(o:Nat):Prop where
 ok:oa s=true
 o3:3<=o
 GP:o<=32
def TI.fr{s:ak}{o l tr:Nat}{last:Int}{a:AT}{H:Hp}(h:TI s o last l a H tr)(hf: ∀j,j<H.length->H'[j]? =H[j]?):TI s o last l a H' tr:=
 {h with obj:=by rw[hf tr (g_5.1 h.obj).1];exact h.obj,hd:=h.hd.fr λj hj=>hf j (h.hd.lt j hj)}
def Ag{o:Nat}(h1:m'<=m)(h2:o<=o'): ∀{l:Nat} {a:AT},a.bl m o l->a.bl m' o' l
 |0,_,_=>trivial
 |l+1,.nd i es ks,h=>λk hk=>⟨v_1 h1 (h k hk).1,v_1 (h k hk).2.1 h2,Ag h1 h2 (h k hk).2.2⟩
section
variable {s:ak} {o l tr:Nat} {last:Int} {a:AT} {H:Hp}
def kX{x y:aD}{j:Nat}(h:H[j]? =some x):(H++[y])[j]? =some x:=by grind
def FA(h:n=H.length):(H++[y])[n]? =some y:=by subst h;simp
def gD(h:n=H.length):(H++[y]).set n z=H++[z]:=by subst h;simp
def iB(h:n<H.length):(H++[y]).set n z=H.set n z++[y]:=List.set_append_left _ _ h
def rE(s:ak)(r:List Value)(e:Entry):Bool:=cx s.Down e.Row r==0
def CY(H:Hp)(tr:Nat)(row:List Value)(b:Bool):Hp:=H++[.cells [.d (.ptr tr 0)]]++[.cells [.d (.list 3 (List.map ah row))]]++[.cells [.d (.bool b)]]
def Hi(S:SI s o)(h:TI s o last l a H tr){row:List Value}(hr:bc s.aq row=true): ∃H',Ev (λf=>iJ f tr row H) ((a.fl l).any (rE s row),H')/\(∀j,j<H.length->H'[j]? =H[j]?)/\H.length<=H'.length:=by
 have hS:=iD S.ok
 let K (b:Bool):Hp:=CY H tr row b++[.hole]
 let n2:Nat:=(H++[aD.cells [.d (.ptr tr 0)]]).length
 let n3:Nat:=(H++[aD.cells [.d (.ptr tr 0)]]++[aD.cells [.d (.list 3 (List.map ah row))]]).length
 have e2:n2=H.length+1:=by simp[n2]
 have e3:n3=H.length+2:=by simp[n3]
 have kl: ∀b,(CY H tr row b).length=H.length+3:=λb=>by simp[CY]
 have f0: ∀b j,j<H.length->(K b)[j]? =H[j]? :=λb j hj=>by
  simp only[K,CY]
  grind
 have g1: ∀b,(K b)[H.length]? =some (.cells [.d (.ptr tr 0)]):=λb=>kX (kX (kX (FA rfl)))
 have g2: ∀b,(K b)[n2]? =some (.cells [.d (.list 3 (List.map ah row))]):=λb=>kX (kX (FA rfl))
 have g3: ∀b,(K b)[n3]? =some (.cells [.d (.bool b)]):=λb=>kX (FA rfl)
 have s3: ∀b b',(K b).set n3 (.cells [.d (.bool b')])=K b':=λb b'=>by
  simp only[K,CY]
  rw[iB (by simp[e3]),gD rfl]
 have T: ∀b,TI s o last l a (K b) tr:=λb=>h.fr (f0 b)
 let Y:=λ(n:Nat)=>hJ n (H++[.cells [.d (.ptr tr 0)]],H.length) (H++[.cells [.d (.ptr tr 0)]]++[.cells [.d (.list 3 (List.map ah row))]],n2) (CY H tr row false,n3)
 have run: ∀es:List Entry,(∀e∈es,gE s e)->oP (λG=>G=K false) Y es (K false) (if es.any (rE s row)then(false,K true)else(true,K false)):=by
  intro es
  induction es with
  |nil=>intro _;exact .nil rfl
  |cons e es ih=>
   intro hg
   have R:=m8 s hS.2 (hg e ψ).fit hr hS.1
   have pre: ∀{x},Ev (λn=>bif (cx s.Down e.Row row==0)then(cH cB (K false) n3 0 true).bind λH16=>some (false,H16)else some (true,K false)) x->Ev (λn=>Y n e (K false)) x:=λhE=>by
    show Ev (λn=>hJ n _ _ _ e (K false)) _
    unfold hJ
    exact .ae (bU (x:=some tr) (r:=[]) (g1 false) rfl)<|.ae rfl<|.ae (fX (T false).obj)<|.ae (sM (c:=rL) (g2 false) rfl)<|.bind R hE
   rw[List.any_cons]
   by_cases hc:rE s row e=true
   .rw[hc,Bool.true_or,if_pos rfl]
    refine .stop rfl (pre (.t hc ?_))
    have e1:cH cB (K false) n3 0 true=some (K true):=by rw[eW (g3 false) (by simp[cB,D.cells]),<-s3 false true];rfl
    exact .ae e1 (.pure _)
   .rw[show rE s row e=false by simpa using hc,Bool.false_or]
    exact .go rfl (pre (.f (by simpa[rE]using hc) (.pure _))) (ih λx hx=>hg x (by simp[hx]))
 have G:=Ey l a 0 (K false) _ (λH' hp=>by rw[hp];exact(T false).hd) (λH' _=>by have:=h.top;have:=S.GP;omega) (Ag (v_3 _) (by have:=S.GP;omega) h.bl) (run _ λe he=>(h.g e he).1)
 have out: ∀b,eo 1 cB.cell (K b) n3=some (b,(K b).set n3 .hole):=λb=>by unfold eo;rw[g3 b];rfl
 have fin: ∀b,(∀j,j<H.length->((K b).set n3 .hole)[j]? =H[j]?)/\H.length<=((K b).set n3 .hole).length:=λb=>⟨λj hj=>by grind,by simp[K,kl];omega⟩
 have hroot:(CY H tr row false)[tr]? =some (gZ s o (some a.ad) last ((a.fl l).length:Nat)):=kX (kX (kX h.obj))
 have pre: ∀{q x},Ev (λn=>ey n (Y n) n a.ad (K false)) q->Ev (λn=>bif q.1 then(eo 1 cB.cell q.2 n3).bind λq18=>some (false,q18.2)else(eo 1 cB.cell q.2 n3).bind λq19=>some (q19.1,q19.2)) x->Ev (λf=>iJ f tr row H) x:=λh1 h2=>by
  unfold iJ
  refine .ae rfl<|.ae rfl<|.ae rfl<|.ae (bU (x:=some tr) (r:=[]) (kX (kX (FA rfl))) rfl)<|.ae rfl<|.ae (eU hroot)<|.ae rfl<|.bind (.of λn=>rfl) ?_
  refine .bind (.ae rfl ?_) h2
  unfold tw
  exact h1
 cases hc:(a.fl l).any (rE s row)with
 |true=>
  rw[hc,if_pos rfl]at G
  exact⟨_,pre G (.f rfl<|.ae (out true) (.pure _)),fin true⟩
 |false=>
  rw[hc,if_neg ψ]at G
  exact⟨_,pre G (.t rfl<|.ae (out false) (.pure _)),fin false⟩
end
set_option maxRecDepth 100000
def sN(p:Entry->Bool):List Entry->Option (Nat×Entry)
 |[]=>none
 |e::l=>if p e then some (0,e)else(sN p l).map λq=>(q.1+1,q.2)
def tN(s:ak)(row:List Value)(key:Int)(e:Entry):Bool:=e.Key==key&&rE s row e
section
variable {s:ak} {o l tr:Nat} {last:Int} {a:AT} {H:Hp}
def I8(x:Entry):aD:=.cells [.d (.list 3 (List.map ah x.Row)),.d (.int .i64 x.Key),.d (.int .i64 x.Number)]
def zK(i:Int):aD:=.cells [.d (.int .i64 i)]
def I9(b:Bool):aD:=.cells [.d (.bool b)]
def z0:Entry:=⟨[],0,0⟩
def Hj{α:Type}{c:Cc α}{H:Hp}{x:α}(h:H[i]? =some (.cells (c.enc x)))(hn:(c.enc x).length=n):eo n c H i=some (x,H.set i .hole):=by
 unfold eo
 rw[h]
 simp only[hn,if_true]
 have:=c.ed x []
 grind
def NT:Option (Nat×Entry)->Entry×Int×Bool
 |some (n,e)=>(e,(n:Int),true)
 |none=>(z0,0,false)
def Ed(S:SI s o)(h:TI s o last l a H tr)(hr:bc s.aq row=true)(key:Int)(hl:(a.fl l).length<1000):
  ∃H',Ev (λf=>fZ f tr row key H) (NT (sN (tN s row key) (a.fl l)),H')/\(∀j,j<H.length->H'[j]? =H[j]?)/\H.length<=H'.length:=by
 have hS:=iD S.ok
 let A1:Hp:=H++[.cells [.d (.ptr tr 0)]]
 let A2:Hp:=A1++[.cells [.d (.list 3 (List.map ah row))]]
 let A3:Hp:=A2++[zK key]
 let A4:Hp:=A3++[I8 z0]
 let A5:Hp:=A4++[zK 0]
 let A6:Hp:=A5++[I9 false]
 let F (x:Entry) (i:Int) (b:Bool) (k:Int):Hp:=A3++[I8 x]++[zK i]++[I9 b]++[zK k]
 let K (x:Entry) (i:Int) (b:Bool) (k:Int):Hp:=F x i b k++[.hole]
 have l1:A1.length=H.length+1:=by simp[A1]
 have l2:A2.length=H.length+2:=by simp[A2,l1]
 have l3:A3.length=H.length+3:=by simp[A3,l2]
 have l4:A4.length=H.length+4:=by simp[A4,l3]
 have l5:A5.length=H.length+5:=by simp[A5,l4]
 have l6:A6.length=H.length+6:=by simp[A6,l5]
 have f0: ∀x i b k j,j<H.length->(K x i b k)[j]? =H[j]? :=λx i b k j hj=>by
  grind
 have g1: ∀x i b k,(K x i b k)[H.length]? =some (.cells [.d (.ptr tr 0)]):=λ_ _ _ _=>kX (kX (kX (kX (kX (kX (kX (FA rfl)))))))
 have g2: ∀x i b k,(K x i b k)[A1.length]? =some (.cells [.d (.list 3 (List.map ah row))]):=λ_ _ _ _=>kX (kX (kX (kX (kX (kX (FA rfl))))))
 have g3: ∀x i b k,(K x i b k)[A2.length]? =some (zK key):=λ_ _ _ _=>kX (kX (kX (kX (kX (FA rfl)))))
 have g4: ∀x i b k,(K x i b k)[A3.length]? =some (I8 x):=λ_ _ _ _=>kX (kX (kX (kX (FA rfl))))
 have g5: ∀x i b k,(K x i b k)[A4.length]? =some (zK i):=λ_ _ _ _=>kX (kX (kX (FA (by simp[l3,l4]))))
 have g6: ∀x i b k,(K x i b k)[A5.length]? =some (I9 b):=λ_ _ _ _=>kX (kX (FA (by simp[l3,l5])))
 have g7: ∀x i b k,(K x i b k)[A6.length]? =some (zK k):=λ_ _ _ _=>kX (FA (by simp[l3,l6]))
 have s4: ∀x i b k x',cH ay (K x i b k) A3.length 0 x'=some (K x' i b k):=λx i b k x'=>by
  rw[eW (g4 x i b k) (g_9 3)]
  show some ((K x i b k).set A3.length (I8 x'))=_
  simp only[K,F]
  simp_all
 have s5: ∀x i b k i',cH (cI .i64) (K x i b k) A4.length 0 i'=some (K x i' b k):=λx i b k i'=>by
  rw[eW (g5 x i b k) (by simp[cI,D.cells])]
  show some ((K x i b k).set A4.length (zK i'))=_
  simp only[K,F]
  simp_all
 have s6: ∀x i b k b',cH cB (K x i b k) A5.length 0 b'=some (K x i b' k):=λx i b k b'=>by
  rw[eW (g6 x i b k) (by simp[cB,D.cells])]
  show some ((K x i b k).set A5.length (I9 b'))=_
  simp only[K,F]
  simp_all
 have s7: ∀x i b k k',cH (cI .i64) (K x i b k) A6.length 0 k'=some (K x i b k'):=λx i b k k'=>by
  rw[eW (g7 x i b k) (by simp[cI,D.cells])]
  show some ((K x i b k).set A6.length (zK k'))=_
  simp only[K,F]
  simp_all
 have T: ∀x i b k,TI s o last l a (K x i b k) tr:=λx i b k=>h.fr (f0 x i b k)
 have kk: ∀x i b k,aR (cI .i64).cell (K x i b k) A6.length 0=some k:=λx i b k=>bU (r:=[]) (g7 x i b k) rfl
 let Y:=λ(n:Nat)=>eh n (A1,H.length) (A2,A1.length) (A3,A2.length) (A4,A3.length) (A5,A4.length) (A6,A5.length) (F z0 0 false 0,A6.length)
 have run: ∀(es:List Entry) (k:Nat),k+es.length<1000->(∀e∈es,gE s e)->oP (λG=> ∃k,G=K z0 0 false k) Y es (K z0 0 false k)
   (match sN (tN s row key) es with|some (n,e)=>(false,K e ((k+n:Nat):Int) true ((k+n:Nat):Int))|none=>(true,K z0 0 false ((k+es.length:Nat):Int))):=by
  intro es
  induction es with
  |nil=>intro k _ _;exact .nil ⟨_,rfl⟩
  |cons e es ih=>
   intro k hk hg
   simp only[j_1]at hk
   have R:=m8 s hS.2 (hg e ψ).fit hr hS.1
   have ih':=ih (k+1) ω λx hx=>hg x (by simp[hx])
   have FO:Ev (λn=>(aR (cI .i64).cell (K z0 0 false k) A6.length 0).bind λx64=>(cH (cI .i64) (K z0 0 false k) A6.length 0 (IntKind.wrap .i64 (x64+1))).bind λH65=>some (true,H65)) (true,K z0 0 false ((k+1:Nat):Int)):=by
    refine .ae (kk _ _ _ _) ?_
    rw[cZ ω]
    exact .ae (s7 _ _ _ _ _) (.pure _)
   have key0:aR (cI .i64).cell (K z0 0 false k) A2.length 0=some key:=bU (r:=[]) (g3 _ _ _ _) rfl
   by_cases hm:tN s row key e=true
   .have:sN (tN s row key) (e::es)=some (0,e):=by simp[sN,hm]
    rw[this]
    simp only[tN,g_3,rE]at hm
    refine .stop ⟨_,rfl⟩ ?_
    show Ev (λn=>eh n _ _ _ _ _ _ _ e (K z0 0 false k)) _
    unfold eh
    refine .ae key0<|.t hm.1<|.ae (bU (x:=some tr) (r:=[]) (g1 _ _ _ _) rfl)<|.ae rfl<|.ae (fX (T _ _ _ _).obj)<|.ae (sM (c:=rL) (g2 _ _ _ _) rfl)<|.bind R<|.t hm.2<|
     .ae (kk _ _ _ _)<|.ae (s4 _ _ _ _ _)<|.ae (s5 _ _ _ _ _)<|.ae (s6 _ _ _ _ _)<|.ae (kk _ _ _ _) ?_
    exact .of λn=>vF
   .have hf:sN (tN s row key) (e::es)=(sN (tN s row key) es).map λq=>(q.1+1,q.2):=by simp[sN,hm]
    have st:Ev (λn=>Y n e (K z0 0 false k)) (true,K z0 0 false ((k+1:Nat):Int)):=by
     show Ev (λn=>eh n _ _ _ _ _ _ _ e (K z0 0 false k)) _
     unfold eh
     refine .ae key0 ?_
     simp only[tN,g_3,not_and,rE]at hm
     by_cases h1:(e.Key==key)=true
     .exact .t h1<|.ae (bU (x:=some tr) (r:=[]) (g1 _ _ _ _) rfl)<|.ae rfl<|.ae (fX (T _ _ _ _).obj)<|.ae (sM (c:=rL) (g2 _ _ _ _) rfl)<|.bind R<|.f (by simpa using hm h1) FO
     .exact .f (by simpa using h1) FO
    rw[hf]
    refine .go ⟨_,rfl⟩ st ?_
    cases hq:sN (tN s row key) es with
    |none=>
     rw[hq]at ih'
     simp only[Option.map_none,j_1]at ih' ⊢
     grind
    |some q=>
     obtain⟨n,x⟩:=q
     rw[hq]at ih'
     simp only[m_0]at ih' ⊢
     grind
 have G:=Ey l a 0 (K z0 0 false 0) _ (λH' hp=>by obtain⟨k,rfl⟩:=hp;exact(T _ _ _ _).hd) (λH' _=>by have:=h.top;have:=S.GP;omega) (Ag (v_3 _) (by have:=S.GP;omega) h.bl) (run (a.fl l) 0 ω λe he=>(h.g e he).1)
 have hroot:(F z0 0 false 0)[tr]? =some (gZ s o (some a.ad) last ((a.fl l).length:Nat)):=kX (kX (kX (kX (kX (kX (kX h.obj))))))
 have out: ∀x i b k,∃H',(eo 3 mJ.cells (K x i b k) A3.length).bind (λq69=>(eo 1 (cI .i64).cell q69.2 A4.length).bind λq70=>(eo 1 cB.cell q70.2 A5.length).bind λq71=>some (q69.1,q70.1,q71))=some (x,i,(b,H'))/\(∀j,j<H.length->H'[j]? =H[j]?)/\H.length<=H'.length:=λx i b k=>by
  have o1:eo 3 mJ.cells (K x i b k) A3.length=some (x,(K x i b k).set A3.length .hole):=Hj (c:=mJ.cells) (g4 x i b k) rfl
  have o2:eo 1 (cI .i64).cell ((K x i b k).set A3.length .hole) A4.length=some (i,((K x i b k).set A3.length .hole).set A4.length .hole):=by unfold eo;rw[g_1 ω,g5];rfl
  have o3:eo 1 cB.cell (((K x i b k).set A3.length .hole).set A4.length .hole) A5.length=some (b,(((K x i b k).set A3.length .hole).set A4.length .hole).set A5.length .hole):=by unfold eo;rw[g_1 ω,g_1 ω,g6];rfl
  refine⟨_,by rw[o1,k_2,o2,k_2,o3];rfl,λj hj=>?_,?_⟩
  .rw[g_1 ω,g_1 ω,g_1 ω];exact f0 _ _ _ _ j hj
  .simp[K,F,l3];omega
 have pre: ∀{q x},Ev (λn=>ey n (Y n) n a.ad (K z0 0 false 0)) q->Ev (λn=>bif q.1 then
    (eo 3 mJ.cells q.2 A3.length).bind λq69=>(eo 1 (cI .i64).cell q69.2 A4.length).bind λq70=>(eo 1 cB.cell q70.2 A5.length).bind λq71=>some ((z0,0,false),q71.2)
   else
    (eo 3 mJ.cells q.2 A3.length).bind λq72=>(eo 1 (cI .i64).cell q72.2 A4.length).bind λq73=>(eo 1 cB.cell q73.2 A5.length).bind λq74=>some ((q72.1,q73.1,q74.1),q74.2)) x->Ev (λf=>fZ f tr row key H) x:=λh1 h2=>by
  unfold fZ
  refine .ae rfl<|.ae rfl<|.ae rfl<|.ae rfl<|.ae rfl<|.ae rfl<|.ae rfl<|.ae (bU (x:=some tr) (r:=[]) (kX (kX (kX (kX (kX (kX (FA rfl))))))) rfl)<|.ae rfl<|.ae (eU hroot)<|.ae rfl<|.bind (.of λn=>rfl) ?_
  refine .bind (.ae rfl ?_) h2
  unfold tw
  exact h1
 cases hc:sN (tN s row key) (a.fl l)with
 |none=>
  rw[hc]at G
  obtain⟨H',q1,q2,q3⟩:=out z0 0 false ((0+(a.fl l).length:Nat):Int)
  refine⟨H',pre G (.t rfl ?_),q2,q3⟩
  simp only[g_6,g_4,g_8]at q1
  obtain⟨z1,y1,z2,y2,z3,y3,r1,r2,r3⟩:=q1
  refine .ae y1<|.ae y2<|.ae y3 ?_
  rw[show z3.2=H' by rw[r3]]
  exact .pure _
 |some q=>
  obtain⟨n,e⟩:=q
  rw[hc]at G
  obtain⟨H',q1,q2,q3⟩:=out e ((0+n:Nat):Int) true ((0+n:Nat):Int)
  refine⟨H',pre G (.f rfl ?_),q2,q3⟩
  simp only[g_6,g_4,g_8]at q1
  obtain⟨z1,y1,z2,y2,z3,y3,r1,r2,r3⟩:=q1
  refine .ae y1<|.ae y2<|.ae y3 ?_
  rw[r1,r2,r3,q_1]
  exact .pure _
end
set_option maxRecDepth 100000
section
variable {s:ak} {o l tr:Nat} {last:Int} {a:AT} {H:Hp}
structure FM(tr l:Nat)(a:AT)(l':Nat)(a':AT)(H H':Hp):Prop where
 fr: ∀j,j<H.length->j≠tr->j∉a.ft l->H'[j]? =H[j]?
 le:H.length<=H'.length
 ft: ∀j∈a'.ft l',j∈a.ft l\/H.length<=j
def FM.trans(h:FM tr l a l1 a1 H H1)(h':FM tr l1 a1 l2 a2 H1 H2):FM tr l a l2 a2 H H2:=by
 have:=h.le
 have:=h'.le
 refine⟨λj hj h1 h2=>?_,ω,λj hj=>?_⟩
 .rw[h'.fr j ω h1 λh3=>(h.ft j h3).elim h2 ω,h.fr j hj h1 h2]
 .rcases h'.ft j hj with h3|h3
  .exact h.ft j h3
  .right;omega
def FM.of(h: ∀j,j<H.length->H'[j]? =H[j]?)(h2:H.length<=H'.length):FM tr l a l a H H':=⟨λj hj _ _=>h j hj,h2,λj hj=>.inl hj⟩
def CI(h:bO s x e=0):x.Number=e.Number:=by
 unfold bO at h
 grind
def Au{last:Int}(h:H[tr]? =some (gZ s order root last cnt)):cH cP H tr 4 r=some (H.set tr (gZ s order r last cnt)):=by
 cases r<;>exact eW h (by simp[cP,D.cells])
def rP{last:Int}(h:H[tr]? =some (gZ s order root last cnt)):cH (cI .i64) H tr 6 c=some (H.set tr (gZ s order root last c)):=eW h (by simp[cI,D.cells])
def Gb{last:Int}(h:H[tr]? =some (gZ s order root last cnt)):cH (cI .i64) H tr 5 c=some (H.set tr (gZ s order root c cnt)):=eW h (by simp[cI,D.cells])
def Lc(h:TI s o last l a H tr)(he:gE s e)(hle:e.Number<=last)(hnum: ∀x∈a.fl l,x.Number≠e.Number)(hd:s.cW=1-> ∀x∈a.fl l,cx s.Down x.Row e.Row≠0):
  (∀x∈mf s e (a.fl l),gE s x/\x.Number<=last)/\u6 s (mf s e (a.fl l))/\((mf s e (a.fl l)).map (·.Number)).Nodup/\(mf s e (a.fl l)).length=(a.fl l).length+1:=by
 have hg:=λx hx=>(h.g x hx).1
 have hn: ∀x∈a.fl l,bO s x e≠0:=λx hx h0=>hnum x hx (CI h0)
 have hp:=tZ he h.wj hg hn
 refine⟨λx hx=>?_,He he h.wj hg hn hd,?_,by rw[hp.length_eq];rfl⟩
 .rcases(G0 he h.wj hg hn).1 hx with rfl|hx
  .exact⟨he,hle⟩
  .exact h.g x hx
 .rw[(hp.map _).nodup_iff,h_3,List.nodup_cons]
  refine⟨λhm=>?_,h.num⟩
  grind
def Fs(S:SI s o)(h:TI s o last l a H tr)(he:gE s e)(hle:e.Number<=last)(hnum: ∀x∈a.fl l,x.Number≠e.Number)(hd:s.cW=1-> ∀x∈a.fl l,cx s.Down x.Row e.Row≠0)(hl:(a.fl l).length<10000):
  ∃l' a' H',Ev (λf=>cX f tr e H) ((),H')/\TI s o last l' a' H' tr/\a'.fl l'=mf s e (a.fl l)/\FM tr l a l' a' H H':=by
 obtain⟨G1,G2,G3,G4⟩:=Lc h he hle hnum hd
 have hn: ∀x∈a.fl l,bO s x e≠0:=λx hx h0=>hnum x hx (CI h0)
 have hm1:1<=o / 2:=by have:=S.o3;omega
 have hft:(a.ft l).Nodup:=AT.nodup hm1 h.hd h.bl (p8 h.wj)
 obtain⟨a',H1,E1,P,F1,Z1,Z2⟩:=KK S.ok rfl S.o3 S.GP he l a H h.hd h.bl hft h.nt h.obj h.top (λx hx=>(h.g x hx).1) h.wj hn
 have htl:=(g_5.1 h.obj).1
 have hle1:=P.le
 have ht1:H1[tr]? =some (gZ s o (some a.ad) last ((a.fl l).length:Nat)):=by rw[P.fr tr htl h.nt];exact h.obj
 have hself:H1[a.ad]? =some (cz a'.es (a'.ks.map eS)):=by rw[<-P.ad];exact P.hd.self
 have wc:IntKind.wrap .i64 (((a.fl l).length:Int)+1)=(((mf s e (a.fl l)).length:Nat):Int):=by rw[cZ ω,G4]
 have hnt':tr∉a'.ft l:=λhx=>(P.ft tr hx).elim h.nt ω
 by_cases hs:a'.es.length<=o
 .have ti:TI s o last l a' (H1.set tr (gZ s o (some a'.ad) last ((a'.fl l).length:Nat))) tr:=
   ⟨g_0 ω,P.hd.fr λj hj=>g_1 λh2=>hnt' (by rw[h2];exact hj),P.bl,hs,λh0=>by have:=h.one h0;omega,hnt',by rw[F1];exact G1,by rw[F1];exact G2,by rw[F1];exact G3⟩
  refine⟨l,a',_,?_,ti,F1,λj hj h1 h2=>by rw[g_1 (j_4 h1)];exact P.fr j hj h2,by simpa using hle1,P.ft⟩
  unfold cX
  refine .ae (eU h.obj)<|.ae rfl<|.bind E1<|.ae (eU ht1)<|.ae rfl<|.ae (cu hself)<|.ae (qW ht1)<|.f χ<|.ae (qX ht1) ?_
  rw[wc,P.ad,F1]
  exact .ae (rP ht1) (.pure _)
 .obtain⟨j,es',ks'⟩:=a'
  have hj:j=a.ad:=P.ad
  have hs: ¬es'.length<=o:=hs
  have Z2:es'.length<=a.es.length+1:=Z2
  have hlen:es'.length=o+1:=by have:=h.top;omega
  have hmid:(o+1) / 2<es'.length:=by have:=S.o3;omega
  obtain⟨L,up,R,rfl,hL⟩: ∃L up R,es'=L++up::R/\L.length=(o+1) / 2:=⟨es'.take ((o+1) / 2),es'[(o+1) / 2],es'.drop ((o+1) / 2+1),rH hmid,χ⟩
  have hRl:R.length=o - (o+1) / 2:=by simp at hlen;omega
  have hk'n:(AT.ft l (.nd j (L++up::R) ks')).Nodup:=AT.nodup hm1 P.hd P.bl (by rw[F1];exact p8 G2)
  have X:=AE P.hd hk'n P.bl
  have hself:H1[j]? =some (cz (L++up::R) (ks'.map λk=>some k.ad)):=P.hd.self
  have Y:Ev (λf=>lr f j H1) ((up,some H1.length),H1.set j (cz L ((ks'.map λk=>some k.ad).take (L.length+1)))++[cz R ((ks'.map λk=>some k.ad).drop (L.length+1))]):=
   AF hself φ P.hd.kl (show(L++up::R).length<900 by have:=S.GP;omega)
  generalize hH2:H1.set j (cz L ((ks'.map λk=>some k.ad).take (L.length+1)))++[cz R ((ks'.map λk=>some k.ad).drop (L.length+1))]=H2 at X Y
  obtain⟨x1,x2,x3,x4,x5,x6,x7⟩:=X
  have hl2:H2.length=H1.length+1:=by rw[<-hH2];simp
  have htj:tr≠j:=λh2=>hnt' (by rw[h2];exact AT.ln)
  have ht2:H2[tr]? =some (gZ s o (some a.ad) last ((a.fl l).length:Nat)):=by grind
  let N:=AT.nd H2.length [up] [.nd j L (ks'.take (L.length+1)),.nd H1.length R (ks'.drop (L.length+1))]
  let H3:Hp:=H2++[cz [up] [some j,some H1.length]]
  have ht3:H3[tr]? =some (gZ s o (some a.ad) last ((a.fl l).length:Nat)):=kX ht2
  let H4:Hp:=H3.set tr (gZ s o (some H2.length) last ((a.fl l).length:Nat))
  have hl3:H3.length=H2.length+1:=by simp[H3]
  have ht4:H4[tr]? =some (gZ s o (some H2.length) last ((a.fl l).length:Nat)):=g_0 ω
  let H5:Hp:=H4.set tr (gZ s o (some H2.length) last ((mf s e (a.fl l)).length:Nat))
  have f5: ∀x,x≠tr->x<H2.length->H5[x]? =H2[x]? :=λx hx hx2=>by
   grind
  have hnl: ∀x∈AT.ft l (.nd j L (ks'.take (L.length+1))),x≠tr:=λx hx h2=>hnt' (by rw[<-h2];exact x6 x hx)
  have hnr: ∀x∈AT.ft l (.nd H1.length R (ks'.drop (L.length+1))),x≠tr:=λx hx h2=>by
   grind
  have hfl:N.fl (l+1)=mf s e (a.fl l):=by
   rw[<-F1,x5]
   simp[N,AT.fl,wv,ws]
  have hft: ∀x∈N.ft (l+1),x∈a.ft l\/H.length<=x:=λx hx=>by
   rcases dj.1 hx with rfl|⟨q,hq,hx⟩
   .right;omega
   .simp only[h_9,List.not_mem_nil,or_false]at hq
    rcases hq with rfl|rfl
    .exact P.ft x (x6 x hx)
    .rcases x7 x hx with h3|h3
     .right;omega
     .exact P.ft x h3
  have ti:TI s o last (l+1) N H5 tr:=by
   refine⟨by rw[hfl];exact g_0 (by simp[H4];omega),⟨rfl,?_,λq hq=>?_⟩,λq hq=>?_,by simp[N,AT.es];have:=S.o3;omega,λ_=>by simp[N,AT.es],λhx=>(hft tr hx).elim h.nt ω,by rw[hfl];exact G1,by rw[hfl];exact G2,by rw[hfl];exact G3⟩
   .show((H3.set tr _).set tr _)[H2.length]? =_
    rw[g_1 ω,g_1 ω]
    exact FA rfl
   .simp only[h_9,List.not_mem_nil,or_false]at hq
    rcases hq with rfl|rfl
    .exact x1.fr λx hx=>f5 x (hnl x hx) (x1.lt x hx)
    .exact x2.fr λx hx=>f5 x (hnr x hx) (x2.lt x hx)
   .simp only[h_9,List.not_mem_nil,or_false]at hq
    have:=S.o3
    rcases hq with rfl|rfl
    .exact⟨by simp[AT.es];omega,by simp[AT.es];omega,x3⟩
    .exact⟨by simp[AT.es];omega,by simp[AT.es];omega,x4⟩
  refine⟨l+1,N,H5,?_,ti,hfl,λx hx h1 h2=>?_,by simp[H5,H4];omega,hft⟩
  .rw[hj]at hself Y
   unfold cX
   refine .ae (eU h.obj)<|.ae rfl<|.bind E1<|.ae (eU ht1)<|.ae rfl<|.ae (cu hself)<|.ae (qW ht1)<|.t (by simp at hlen ⊢;omega)<|.ae (eU ht1)<|.ae rfl<|.bind Y<|.ae rfl<|.ae (a:=(H3,H2.length)) ?_<|
    .ae (Au ht3)<|.ae (qX ht4) ?_
   .rw[<-hj];rfl
   .rw[wc]
    exact .ae (rP ht4) (.pure _)
  .rw[f5 x h1 ω,<-hH2,h_6 χ,g_1,P.fr x hx h2]
   intro h3
   exact h2 (by rw[<-h3,hj];exact AT.ln)
def yA(S:SI s o)(h:TI s o last l a H tr)(he:e∈a.fl l)(hl:(a.fl l).length<10000):
  ∃l' a' H',Ev (λf=>dE f tr e H) ((),H')/\TI s o last l' a' H' tr/\a'.fl l'=ky s e (a.fl l)/\FM tr l a l' a' H H':=by
 have hm1:1<=o / 2:=by have:=S.o3;omega
 have hge:=(h.g e he).1
 have hft:(a.ft l).Nodup:=AT.nodup hm1 h.hd h.bl (p8 h.wj)
 obtain⟨a',H1,E1,P,F1,Z1,Z2⟩:=ID S.ok rfl S.o3 S.GP l a H e hge h.hd h.bl hft h.nt h.obj h.top h.one (λx hx=>(h.g x hx).1) h.wj
 have htl:=(g_5.1 h.obj).1
 have hle1:=P.le
 have ht1:H1[tr]? =some (gZ s o (some a.ad) last ((a.fl l).length:Nat)):=by rw[P.fr tr htl h.nt];exact h.obj
 have hself:H1[a.ad]? =some (cz a'.es (a'.ks.map eS)):=by rw[<-P.ad];exact P.hd.self
 have hdl:=HC h.wj (λx hx=>(h.g x hx).1) he
 have wc:IntKind.wrap .i64 (((a.fl l).length:Int) - 1)=(((ky s e (a.fl l)).length:Nat):Int):=by rw[cC ω ω];omega
 have hnt':tr∉a'.ft l:=λhx=>(P.ft tr hx).elim h.nt ω
 have G1: ∀x∈ky s e (a.fl l),gE s x/\x.Number<=last:=λx hx=>h.g x (wS.1 hx).1
 have G2:u6 s (ky s e (a.fl l)):=BL h.wj
 have G3:((ky s e (a.fl l)).map (·.Number)).Nodup:=h.num.sublist (pL.map _)
 have stay:(l≠0->1<=a'.es.length)->TI s o last l a' (H1.set tr (gZ s o (some a'.ad) last ((a'.fl l).length:Nat))) tr:=λh1=>
  ⟨g_0 ω,P.hd.fr λj hj=>g_1 λh2=>hnt' (by rw[h2];exact hj),P.bl,by have:=h.top;omega,h1,hnt',by rw[F1];exact G1,by rw[F1];exact G2,by rw[F1];exact G3⟩
 have fm: ∀H2:Hp,H2.length=H1.length->(∀j,j≠tr->H2[j]? =H1[j]?)->(∀j,j<H.length->j≠tr->j∉a.ft l->H2[j]? =H[j]?)/\H.length<=H2.length:=λH2 e1 e2=>⟨λj hj h1 h2=>by rw[e2 j h1];exact P.fr j hj h2,ω⟩
 have same: ∀{c:Bool},Ev (λf=>bif ((a'.es.length:Int)==0)then(aR cP.cell H1 tr 4).bind λx9=>x9.bind λi10=>(bH f i10 H1).bind λr11=>some (!r11)else some false) false->
   (l≠0->1<=a'.es.length)-> ∃l' a'' H',Ev (λf=>dE f tr e H) ((),H')/\TI s o last l' a'' H' tr/\a''.fl l'=ky s e (a.fl l)/\FM tr l a l' a'' H H':=λ{c} hE h1=>by
  have q:=fm (H1.set tr (gZ s o (some a'.ad) last ((a'.fl l).length:Nat))) ψ λj hj=>g_1 (j_4 hj)
  refine⟨l,a',_,?_,stay h1,F1,q.1,q.2,P.ft⟩
  unfold dE
  refine .ae (eU h.obj)<|.ae rfl<|.bind E1<|.aP<|.ae (eU ht1)<|.ae rfl<|.ae (cu hself) ?_
  by_cases h0:a'.es.length=0
  .have hz:((a'.es.length:Int)==0)=true:=by simp[h0]
   refine .t hz<|.ae (eU ht1)<|.ae rfl ?_
   have lf:=cT hself
   have hE':Ev (λf=>(aR cP.cell H1 tr 4).bind λx9=>x9.bind λi10=>(bH f i10 H1).bind λr11=>some (!r11)) false:=by
    grind
   have lf2:Ev (λf=>(aR cP.cell H1 tr 4).bind λx9=>x9.bind λi10=>(bH f i10 H1).bind λr11=>some (!r11)) (!decide (a'.ks.map eS=[])):=.ae (eU ht1)<|.ae rfl<|.bind lf (.pure _)
   have:=lf2.OZ hE'
   refine .bind lf<|.f this<|.ae (qX ht1) ?_
   rw[wc,P.ad,F1]
   exact .ae (rP ht1) (.pure _)
  .refine .f (by simpa using h0)<|.f rfl<|.ae (qX ht1) ?_
   rw[wc,P.ad,F1]
   exact .ae (rP ht1) (.pure _)
 by_cases h0:a'.es.length=0/\l≠0
 .obtain⟨h0,hl0⟩:=h0
  obtain⟨i,es,ks⟩:=a'
  obtain⟨l,rfl⟩: ∃k,l=k+1:=⟨l - 1,ω⟩
  have h0:es.length=0:=h0
  have hes:es=[]:=q_0.1 h0
  subst hes
  have hk:=P.hd.1
  match ks,hk with
  |[k],_=>
   have hkb:=P.bl k ψ
   have hkh:=P.hd.2.2 k ψ
   have hkt: ∀x∈k.ft l,x∈AT.ft (l+1) (.nd i [] [k]):=λx hx=>dj.2 (.inr ⟨k,ψ,hx⟩)
   have hkfl:k.fl l=ky s e (a.fl (l+1)):=by rw[<-F1];simp[AT.fl,wv,ws]
   let H2:Hp:=H1.set tr (gZ s o (some k.ad) last ((a.fl (l+1)).length:Nat))
   have ht2:H2[tr]? =some (gZ s o (some k.ad) last ((a.fl (l+1)).length:Nat)):=g_0 ω
   let H3:Hp:=H2.set tr (gZ s o (some k.ad) last ((ky s e (a.fl (l+1))).length:Nat))
   have f3: ∀x,x≠tr->H3[x]? =H1[x]? :=λx hx=>by
    grind
   have ti:TI s o last l k H3 tr:=⟨φ,hkh.fr λx hx=>f3 x λh2=>hnt' (by rw[<-h2];exact hkt x hx),hkb.2.2,hkb.2.1,λ_=>by omega,λhx=>hnt' (hkt tr hx),
    by rw[hkfl];exact G1,by rw[hkfl];exact G2,by rw[hkfl];exact G3⟩
   have q:=fm H3 (by simp[H3,H2]) f3
   refine⟨l,k,H3,?_,ti,hkfl,q.1,q.2,λx hx=>P.ft x (hkt x hx)⟩
   unfold dE
   refine .ae (eU h.obj)<|.ae rfl<|.bind E1<|.aP<|.ae (eU ht1)<|.ae rfl<|.ae (cu hself)<|.t rfl<|.ae (eU ht1)<|.ae rfl<|.bind (cT hself)<|.t rfl<|
    .ae (eU ht1)<|.ae rfl<|.ae (cr hself)<|.ae (show idx _ 0=some (some k.ad)from rfl)<|.ae (Au ht1)<|.ae (qX ht2) ?_
   rw[wc]
   exact .ae (rP ht2) (.pure _)
 .refine same (c:=true) ?_ λhl0=>by omega
  by_cases hz:a'.es.length=0
  .have hl0:l=0:=by omega
   subst hl0
   have hks:a'.ks=[]:=by
    have:=P.hd
    cases a'
    exact this.1
   refine .t (by simp[hz])<|.ae (eU ht1)<|.ae rfl<|.bind (cT hself) ?_
   simp only[hks]
   exact .pure _
  .exact .f (by simpa using hz) (.pure _)
end
set_option maxRecDepth 100000
def mT(s:ak)(row:List Value)(key:Int):Bool:=bc s.aq row&&(decide (1<=key)&&decide (key<=1000000))
def pG(s:ak)(row:List Value)(key:Int)(last:Int)(fl:List Entry):(Int×Int)×Int×List Entry:=
 if mT s row key=false then((0,1),last,fl)
 else if s.cW=1/\fl.any (rE s row)=true then((0,6),last,fl)
 else((last+1,0),last+1,mf s ⟨row,key,last+1⟩ fl)
def AM(s:ak)(row:List Value)(key:Int)(fl:List Entry):Int×List Entry:=
 if mT s row key=false then(1,fl)
 else match sN (tN s row key) fl with
  |none=>(8,fl)
  |some (_,e)=>(0,ky s e fl)
def ve(s:ak)(row:List Value)(key:Int)(wth:List Value)(last:Int)(fl:List Entry):Int×Int×List Entry:=
 if mT s row key=false\/bc s.aq wth=false then(1,last,fl)
 else match sN (tN s row key) fl with
  |none=>(8,last,fl)
  |some (_,e)=>if cx s.Down row wth=0 then(0,last,fl)
   else if s.cW=1/\fl.any (rE s wth)=true then(6,last,fl)
   else(0,last+1,mf s ⟨wth,key,last+1⟩ (ky s e fl))
def pH{p:Entry->Bool}: ∀{l:List Entry} {n:Nat} {e:Entry},sN p l=some (n,e)->l[n]? =some e/\p e=true
 |[],_,_,h=>by simp[sN]at h
 |x::l,n,e,h=>by
  simp only[sN]at h
  split at h
  .grind
  .simp only[g_2,g_8]at h
   obtain⟨⟨n',e'⟩,h1,rfl,rfl⟩:=h
   have:=pH h1
   grind
section
variable {s:ak} {o l tr:Nat} {last:Int} {a:AT} {H:Hp}
def HI(f:Nat)(h:r.length<1000):bY f r=some r:=Et f h
def xD(h:TI s o last l a H tr)(hr:row.length<1000):Ev (λf=>fw f tr row key H) (if mT s row key=true then 0 else 1):=by
 unfold fw mT
 refine .ae (fX h.obj)<|.bind (sO s row hr) ?_
 cases bc s.aq row with
 |false=>exact .t rfl (.pure _)
 |true=>
  refine .f rfl ?_
  refine .ae (CW 0 key) ?_
  cases hk:(decide (1<=key)&&decide (key<=1000000))with
  |false=>exact .t rfl (.pure _)
  |true=>exact .f rfl (.pure _)
def nF(h:mT s row key=true):bc s.aq row=true/\1<=key/\key<=1000000:=by
 simp only[mT,g_3,decide_eq_true_eq]at h
 exact⟨h.1,h.2.1,h.2.2⟩
def TI.next(h:TI s o last l a H tr):TI s o (last+1) l a (H.set tr (gZ s o (some a.ad) (last+1) ((a.fl l).length:Nat))) tr/\FM tr l a l a H (H.set tr (gZ s o (some a.ad) (last+1) ((a.fl l).length:Nat))):=
 ⟨{h with obj:=g_0 (g_5.1 h.obj).1,hd:=h.hd.fr λj hj=>g_1 λh2=>h.nt (by rw[h2];exact hj),g:=λx hx=>⟨(h.g x hx).1,by have:=(h.g x hx).2;omega⟩},
  λj hj h1 h2=>g_1 (j_4 h1),ψ,λj hj=>.inl hj⟩
def Ii(S:SI s o)(h:TI s o last l a H tr)(hr:row.length<1000)(ha:bc s.aq row=true)(hk:1<=key/\key<=1000000)(hd:s.cW=1-> ∀x∈a.fl l,cx s.Down x.Row row≠0)(h0:0<=last)(h1:last<10000)(hl:(a.fl l).length<10000):
  ∃l' a' H' H1,cH (cI .i64) H tr 5 (IntKind.wrap .i64 (last+1))=some H1/\aR (cI .i64).cell H1 tr 5=some (last+1)/\Ev (λf=>cX f tr (⟨row,key,last+1⟩:Entry) H1) ((),H')/\TI s o (last+1) l' a' H' tr/\a'.fl l'=mf s ⟨row,key,last+1⟩ (a.fl l)/\FM tr l a l' a' H H':=by
 obtain⟨t1,f1⟩:=h.next
 have he:gE s ⟨row,key,last+1⟩:=⟨by simp[nI,ha,hk.1,hk.2];omega,by unfold i64;simp only;omega⟩
 obtain⟨l',a',H',E,T,F,M⟩:=Fs S t1 he ψ (λx hx h2=>by have:=(h.g x hx).2;simp only at h2;omega) hd hl
 exact⟨l',a',H',_,by rw[cC ω ω];exact Gb h.obj,pY t1.obj,E,T,F,f1.trans M⟩
def we(S:SI s o)(h:TI s o last l a H tr)(hr:row.length<1000)(h0:0<=last)(h1:last<10000)(hl:(a.fl l).length<500):
  ∃l' a' H',Ev (λf=>cY f tr row key H) ((pG s row key last (a.fl l)).1,H')/\TI s o (pG s row key last (a.fl l)).2.1 l' a' H' tr/\a'.fl l'=(pG s row key last (a.fl l)).2.2/\FM tr l a l' a' H H':=by
 have A:=xD h (key:=key) hr
 unfold pG
 cases hk:mT s row key with
 |false=>
  rw[hk]at A
  simp only[g_7,if_false,if_true]at A ⊢
  refine⟨l,a,H,?_,h,rfl,.of (λ_ _=>rfl) (g_9 _)⟩
  unfold cY
  exact .bind A<|.t rfl (.pure _)
 |true=>
  rw[hk]at A
  simp only[Bool.true_eq_false,if_false,if_true]at A ⊢
  obtain⟨k1,k2⟩:=nF hk
  have add: ∀{H0:Hp},TI s o last l a H0 tr->FM tr l a l a H H0->(s.cW=1-> ∀x∈a.fl l,cx s.Down x.Row row≠0)->
    ∃l' a' H',Ev (λf=>(aR (cI .i64).cell H0 tr 5).bind λx8=>(cH (cI .i64) H0 tr 5 (IntKind.wrap .i64 (x8+1))).bind λH9=>(bY f row).bind λr10=>(aR (cI .i64).cell H9 tr 5).bind λx11=>
     (cX f tr (⟨r10,key,x11⟩:Entry) H9).bind λr12=>(aR (cI .i64).cell r12.2 tr 5).bind λx13=>some ((x13,(0:Int)),r12.2)) ((last+1,0),H')/\TI s o (last+1) l' a' H' tr/\a'.fl l'=mf s ⟨row,key,last+1⟩ (a.fl l)/\FM tr l a l' a' H H':=by
   intro H0 t0 f0 hd
   obtain⟨l',a',H',H1,e1,e2,E,T,F,M⟩:=Ii S t0 (key:=key) hr k1 k2 hd h0 h1 ω
   exact⟨l',a',H',.ae (pY t0.obj)<|.ae e1<|.bind (.of λn=>HI n hr)<|.ae e2<|.bind E<|.ae (pY T.obj) (.pure _),T,F,f0.trans M⟩
  have lim: ∀{H0:Hp},TI s o last l a H0 tr->decide (((a.fl l).length:Int)>=500)=false:=λ_=>by simp;omega
  by_cases hd:s.cW=1
  .obtain⟨H0,E0,F0,L0⟩:=Hi S h k1
   have t0:=h.fr F0
   have m0:FM tr l a l a H H0:=.of F0 L0
   cases hh:(a.fl l).any (rE s row)with
   |true=>
    rw[hh]at E0
    rw[if_pos ⟨hd,rfl⟩]
    refine⟨l,a,H0,?_,t0,rfl,m0⟩
    unfold cY
    exact .bind A<|.f rfl<|.aP<|.ae (tn h.obj)<|.t (by simp[hd])<|.bind E0<|.t rfl (.pure _)
   |false=>
    rw[hh]at E0
    rw[if_neg ψ]
    obtain⟨l',a',H',E,T,F,M⟩:=add t0 m0 λ_ x hx h2=>by
     have:=List.any_eq_false.1 hh x hx
     simp[rE,h2]at this
    refine⟨l',a',H',?_,T,F,M⟩
    unfold cY
    exact .bind A<|.f rfl<|.aP<|.ae (tn h.obj)<|.t (by simp[hd])<|.bind E0<|.f rfl<|.ae (qX t0.obj)<|.f (lim t0) E
  .rw[if_neg λh2=>hd h2.1]
   obtain⟨l',a',H',E,T,F,M⟩:=add h (.of (λ_ _=>rfl) (g_9 _)) λh2=>absurd h2 hd
   refine⟨l',a',H',?_,T,F,M⟩
   unfold cY
   exact .bind A<|.f rfl<|.aP<|.ae (tn h.obj)<|.f (by simpa using hd)<|.ae (qX h.obj)<|.f (lim h) E
def Cq(S:SI s o)(h:TI s o last l a H tr)(hr:row.length<1000)(hl:(a.fl l).length<500):
  ∃l' a' H',Ev (λf=>eJ f tr row key H) ((AM s row key (a.fl l)).1,H')/\TI s o last l' a' H' tr/\a'.fl l'=(AM s row key (a.fl l)).2/\FM tr l a l' a' H H':=by
 have A:=xD h (key:=key) hr
 unfold AM
 cases hk:mT s row key with
 |false=>
  rw[hk]at A
  simp only[g_7,if_false,if_true]at A ⊢
  refine⟨l,a,H,?_,h,rfl,.of (λ_ _=>rfl) (g_9 _)⟩
  unfold eJ
  exact .bind A<|.t rfl (.pure _)
 |true=>
  rw[hk]at A
  simp only[Bool.true_eq_false,if_false,if_true]at A ⊢
  obtain⟨H0,E0,F0,L0⟩:=Ed S h (nF hk).1 key ω
  have t0:=h.fr F0
  have m0:FM tr l a l a H H0:=.of F0 L0
  cases hf:sN (tN s row key) (a.fl l)with
  |none=>
   rw[hf]at E0
   refine⟨l,a,H0,?_,t0,rfl,m0⟩
   unfold eJ
   exact .bind A<|.f rfl<|.bind E0<|.t rfl (.pure _)
  |some q=>
   obtain⟨n,e⟩:=q
   rw[hf]at E0
   obtain⟨l',a',H',E,T,F,M⟩:=yA S t0 (m_1 (pH hf).1) ω
   refine⟨l',a',H',?_,T,F,m0.trans M⟩
   unfold eJ
   exact .bind A<|.f rfl<|.bind E0<|.f rfl<|.bind E (.pure _)
def EW(S:SI s o)(h:TI s o last l a H tr)(hr:row.length<1000)(hw:wth.length<1000)(h0:0<=last)(h1:last<10000)(hl:(a.fl l).length<500):
  ∃l' a' H',Ev (λf=>db f tr row key wth H) ((ve s row key wth last (a.fl l)).1,H')/\TI s o (ve s row key wth last (a.fl l)).2.1 l' a' H' tr/\a'.fl l'=(ve s row key wth last (a.fl l)).2.2/\FM tr l a l' a' H H':=by
 have A:=xD h (key:=key) hr
 have hS:=iD S.ok
 unfold ve
 have bad:(mT s row key=false\/bc s.aq wth=false)->Ev (λf=>db f tr row key wth H) (1,H):=λhb=>by
  unfold db
  refine .bind A<|.aP ?_
  cases hk:mT s row key with
  |false=>exact .t rfl<|.t rfl (.pure _)
  |true=>
   have hz:=hb.resolve_left (by simp[hk])
   have W:=sO s wth hw
   rw[hz]at W
   exact .f rfl<|.ae (fX h.obj)<|.bind W<|.t rfl (.pure _)
 by_cases hb:mT s row key=false\/bc s.aq wth=false
 .rw[if_pos hb]
  exact⟨l,a,H,bad hb,h,rfl,.of (λ_ _=>rfl) (g_9 _)⟩
 .rw[if_neg hb]
  simp only[not_or,Bool.not_eq_false]at hb
  obtain⟨hk,hz⟩:=hb
  obtain⟨k1,k2⟩:=nF hk
  rw[hk]at A
  have W:=sO s wth hw
  rw[hz]at W
  obtain⟨H0,E0,F0,L0⟩:=Ed S h k1 key ω
  have t0:=h.fr F0
  have m0:FM tr l a l a H H0:=.of F0 L0
  cases hf:sN (tN s row key) (a.fl l)with
  |none=>
   rw[hf]at E0
   refine⟨l,a,H0,?_,t0,rfl,m0⟩
   unfold db
   exact .bind A<|.aP<|.f rfl<|.ae (fX h.obj)<|.bind W<|.f rfl<|.bind E0<|.aP<|.t rfl (.pure _)
  |some q=>
   obtain⟨n,e⟩:=q
   rw[hf]at E0
   have hem:=m_1 (pH hf).1
   have R:=m8 s hS.2 k1 hz hS.1
   by_cases hc:cx s.Down row wth=0
   .simp only[hc,if_true]
    refine⟨l,a,H0,?_,t0,rfl,m0⟩
    unfold db
    exact .bind A<|.aP<|.f rfl<|.ae (fX h.obj)<|.bind W<|.f rfl<|.bind E0<|.aP<|.f rfl<|.ae (fX t0.obj)<|.bind R<|.t (by simp[hc]) (.pure _)
   .simp only[hc,if_false]
    have put: ∀{H1:Hp},TI s o last l a H1 tr->FM tr l a l a H H1->(s.cW=1-> ∀x∈a.fl l,cx s.Down x.Row wth≠0)->
      ∃l' a' H',Ev (λf=>(dE f tr e H1).bind λr13=>(aR (cI .i64).cell r13.2 tr 5).bind λx14=>(cH (cI .i64) r13.2 tr 5 (IntKind.wrap .i64 (x14+1))).bind λH15=>(bY f wth).bind λr16=>
       (aR (cI .i64).cell H15 tr 5).bind λx17=>(cX f tr (⟨r16,key,x17⟩:Entry) H15).bind λr18=>some ((0:Int),r18.2)) (0,H')/\TI s o (last+1) l' a' H' tr/\a'.fl l'=mf s ⟨wth,key,last+1⟩ (ky s e (a.fl l))/\FM tr l a l' a' H H':=by
     intro H1 t1 m1 hd
     obtain⟨l2,a2,H2,E2,T2,F2,M2⟩:=yA S t1 hem ω
     have hlen:(a2.fl l2).length<=(a.fl l).length:=by rw[F2];exact pL.length_le
     obtain⟨l3,a3,H3,H3',e1,e2,E3,T3,F3,M3⟩:=Ii S T2 (key:=key) hw hz k2 (λh2 x hx=>hd h2 x (by rw[F2]at hx;exact(wS.1 hx).1)) h0 h1 ω
     exact⟨l3,a3,H3,.bind E2<|.ae (pY T2.obj)<|.ae e1<|.bind (.of λn=>HI n hw)<|.ae e2<|.bind E3 (.pure _),T3,by rw[F3,F2],(m1.trans M2).trans M3⟩
    by_cases hd:s.cW=1
    .obtain⟨H1,E1,G1,L1⟩:=Hi S t0 hz
     have t1:=t0.fr G1
     have m1:FM tr l a l a H H1:=m0.trans (.of G1 L1)
     cases hh:(a.fl l).any (rE s wth)with
     |true=>
      rw[hh]at E1
      rw[if_pos ⟨hd,rfl⟩]
      refine⟨l,a,H1,?_,t1,rfl,m1⟩
      unfold db
      exact .bind A<|.aP<|.f rfl<|.ae (fX h.obj)<|.bind W<|.f rfl<|.bind E0<|.aP<|.f rfl<|.ae (fX t0.obj)<|.bind R<|.f (by simpa using hc)<|.ae (tn t0.obj)<|.t (by simp[hd])<|.bind E1<|.t rfl (.pure _)
     |false=>
      rw[hh]at E1
      rw[if_neg ψ]
      obtain⟨l',a',H',E,T,F,M⟩:=put t1 m1 λ_ x hx h2=>by
       have:=List.any_eq_false.1 hh x hx
       simp[rE,h2]at this
      refine⟨l',a',H',?_,T,F,M⟩
      unfold db
      exact .bind A<|.aP<|.f rfl<|.ae (fX h.obj)<|.bind W<|.f rfl<|.bind E0<|.aP<|.f rfl<|.ae (fX t0.obj)<|.bind R<|.f (by simpa using hc)<|.ae (tn t0.obj)<|.t (by simp[hd])<|.bind E1<|.f rfl E
    .rw[if_neg λh2=>hd h2.1]
     obtain⟨l',a',H',E,T,F,M⟩:=put t0 m0 λh2=>absurd h2 hd
     refine⟨l',a',H',?_,T,F,M⟩
     unfold db
     exact .bind A<|.aP<|.f rfl<|.ae (fX h.obj)<|.bind W<|.f rfl<|.bind E0<|.aP<|.f rfl<|.ae (fX t0.obj)<|.bind R<|.f (by simpa using hc)<|.ae (tn t0.obj)<|.f (by simpa using hd) E
end
set_option maxRecDepth 100000
def HH(hk:v.Kind=w.Kind):fM w v= - fM v w:=by
 unfold fM
 rw[hk]
 split
 .omega
 .exact sT _ _
def zc(hk:v.Kind=w.Kind):pN d v w=0<->fM v w=0:=by
 unfold pN
 cases d with
 |false=>simp
 |true=>rw[if_pos rfl,HH hk];omega
section
variable {s:ak}
def zy(hS:oa s=true)(ha:bc s.aq a=true)(hb:bc s.aq b=true):Ev (λf=>hZ f a b) (cx s.Down a b==0):=by
 have hs:=iD hS
 have la:=eg ha
 have lb:=eg hb
 have L: ∀(d k:Nat),k+d=a.length->(cx (s.Down.drop k) (a.drop k) (b.drop k)=0->gT (λf=>bF f a b) (k:Int) (.inl ()))/\
   (cx (s.Down.drop k) (a.drop k) (b.drop k)≠0-> ∃c,c≠0/\gT (λf=>bF f a b) (k:Int) (.inr c)):=by
  intro d
  induction d with
  |zero=>
   intro k hk
   have e:cx (s.Down.drop k) (a.drop k) (b.drop k)=0:=by
    rw[List.drop_eq_nil_of_le (show a.length<=k by omega)]
    cases s.Down.drop k<;>rfl
   refine⟨λ_=>.stop ?_,λh=>absurd e h⟩
   unfold bF
   exact .aP<|.f (mn ω)<|.f rfl (.pure _)
  |succ d ih=>
   intro k hk
   have k1:k<a.length:=by omega
   have k2:k<b.length:=by omega
   have k3:k<s.Down.length:=by omega
   have fa:=jJ ha k ω k1
   have fb:=jJ hb k ω k2
   have hkk:a[k].Kind=b[k].Kind:=by rw[fa.1,fb.1]
   have C:=rI fa.2 fb.2 hkk
   rw[aH k1,aH k2,aH k3]
   simp only[cx]
   have pre: ∀{x},Ev (λf=>bif (qa (fM a[k] b[k]) !=0)then some (Sum.inr (.inr (qa (fM a[k] b[k]))))else some (.inl ((k+1:Nat):Int))) x->Ev (λf=>bF f a b (k:Int)) x:=λhE=>by
    unfold bF
    refine .aP<|.t (eO k1)<|.t (eO k2)<|.ae (aw k1)<|.ae (aw k2)<|.bind C ?_
    rw[cZ ω]
    exact hE
   by_cases hz:fM a[k] b[k]=0
   .rw[if_pos ((zc hkk).2 hz)]
    have st:=pre (.f (by simp[hz,qa]) (.pure _))
    obtain⟨i1,i2⟩:=ih (k+1) ω
    refine⟨λh=>.next st (i1 h),λh=>?_⟩
    obtain⟨c,hc,e⟩:=i2 h
    exact⟨c,hc,.next st e⟩
   .have hz':=mt (zc (d:=s.Down[k]) hkk).1 hz
    rw[if_neg hz']
    have hsg:qa (fM a[k] b[k])≠0:=mt (nf _).1 hz
    exact⟨λh=>absurd h hz',λ_=>⟨_,hsg,.stop (pre (.t (by simpa using hsg) (.pure _)))⟩⟩
 obtain⟨L1,L2⟩:=L a.length 0 ω
 simp only[q_4]at L1 L2
 unfold hZ ew
 by_cases hz:cx s.Down a b=0
 .refine .bind (a:=0) (.bind (L1 hz).ev<|.bind (a:=0) (.of λn=>?_) (.pure _)) ?_
  .rw[vu,show((a.length:Int) - b.length)=0 by omega];rfl
  .rw[hz];exact .pure _
 .obtain⟨c,hc,e⟩:=L2 hz
  refine .bind (a:=c) (.bind e.ev (.pure _)) ?_
  rw[show(cx s.Down a b==0)=(c==0)by grind]
  exact .pure _
variable {o:Int} {last:Int} {fl:List Entry}
def IX(hS:oa s=true)(hr:bc s.aq row=true)(hg: ∀e∈fl,gE s e)(hl:fl.length<1000):Ev (λf=>lZ f (⟨s,o,fl,last⟩:Tree) row) (fl.any (rE s row)):=by
 have L: ∀(q:List Entry) (k:Nat),fl.drop k=q->k<=fl.length->gT (λf=>fN f (⟨s,o,fl,last⟩:Tree) row) (k:Int) (if q.any (rE s row)then .inr true else .inl ()):=by
  intro q
  induction q with
  |nil=>
   intro k hd hk
   have hk2:fl.length<=k:=by simpa using hd
   refine .stop ?_
   unfold fN
   exact .f (mn hk2) (.pure _)
  |cons e q ih=>
   intro k hd hk
   have hk1:k<fl.length:=by
    grind
   have hek:fl[k]=e:=by rw[aH hk1]at hd;exact(j_0 hd).1
   have hdl:fl.drop (k+1)=q:=by rw[aH hk1]at hd;exact(j_0 hd).2
   have R:=zy hS (hg e (hek▸j_2 hk1)).fit hr
   have pre: ∀{x},Ev (λf=>bif (cx s.Down e.Row row==0)then some (Sum.inr (.inr true))else some (.inl ((k+1:Nat):Int))) x->Ev (λf=>fN f (⟨s,o,fl,last⟩:Tree) row (k:Int)) x:=λhE=>by
    unfold fN
    refine .t (eO hk1)<|.ae (aw hk1) ?_
    rw[hek,cZ ω]
    exact .bind R hE
   rw[List.any_cons]
   by_cases hc:rE s row e=true
   .rw[hc,Bool.true_or,if_pos rfl]
    exact .stop (pre (.t hc (.pure _)))
   .rw[show rE s row e=false by simpa using hc,Bool.false_or]
    exact .next (pre (.f (by simpa[rE]using hc) (.pure _))) (ih (k+1) hdl ω)
 unfold lZ
 refine .bind (L fl 0 rfl ω).ev ?_
 cases fl.any (rE s row)<;>exact .pure _
def NU:Option (Nat×Entry)->Int
 |some (n,_)=>(n:Int)
 |none=> -1
def GA(hS:oa s=true)(hr:bc s.aq row=true)(hg: ∀e∈fl,gE s e)(hl:fl.length<1000):Ev (λf=>lJ f (⟨s,o,fl,last⟩:Tree) row key) (NU (sN (tN s row key) fl)):=by
 have L: ∀(q:List Entry) (k:Nat),fl.drop k=q->k<=fl.length->gT (λf=>fA f (⟨s,o,fl,last⟩:Tree) row key) (k:Int) (match sN (tN s row key) q with|some (n,_)=>.inr ((k+n:Nat):Int)|none=>.inl ()):=by
  intro q
  induction q with
  |nil=>
   intro k hd hk
   have hk2:fl.length<=k:=by simpa using hd
   refine .stop ?_
   unfold fA
   exact .f (mn hk2) (.pure _)
  |cons e q ih=>
   intro k hd hk
   have hk1:k<fl.length:=by
    grind
   have hek:fl[k]=e:=by rw[aH hk1]at hd;exact(j_0 hd).1
   have hdl:fl.drop (k+1)=q:=by rw[aH hk1]at hd;exact(j_0 hd).2
   have R:=zy hS (hg e (hek▸j_2 hk1)).fit hr
   have ih':=ih (k+1) hdl ω
   by_cases hm:tN s row key e=true
   .have hf:sN (tN s row key) (e::q)=some (0,e):=by simp[sN,hm]
    rw[hf]
    simp only[tN,g_3,rE]at hm
    refine .stop ?_
    unfold fA
    refine .t (eO hk1)<|.ae (aw hk1) ?_
    rw[hek]
    refine .t hm.1<|.ae (aw hk1) ?_
    rw[hek]
    exact .bind R<|.t hm.2 (.pure _)
   .have hf:sN (tN s row key) (e::q)=(sN (tN s row key) q).map λq=>(q.1+1,q.2):=by simp[sN,hm]
    have st:Ev (λf=>fA f (⟨s,o,fl,last⟩:Tree) row key (k:Int)) (.inl ((k+1:Nat):Int)):=by
     simp only[tN,g_3,not_and,rE]at hm
     unfold fA
     refine .t (eO hk1)<|.ae (aw hk1) ?_
     rw[hek,cZ ω]
     by_cases h1:(e.Key==key)=true
     .refine .t h1<|.ae (aw hk1) ?_
      rw[hek]
      exact .bind R<|.f (by simpa using hm h1) (.pure _)
     .exact .f (by simpa using h1) (.pure _)
    rw[hf]
    refine .next st ?_
    cases hq:sN (tN s row key) q with
    |none=>rw[hq]at ih';exact ih'
    |some z=>
     grind
 unfold lJ
 refine .bind (L fl 0 rfl ω).ev ?_
 cases sN (tN s row key) fl with
 |none=>exact .pure _
 |some q=>obtain⟨n,x⟩:=q;simp only[q_1];exact .pure _
def Gx(hS:oa s=true)(he:gE s e)(hg: ∀x∈A++B,gE s x)(hA: ∀x∈A,bO s x e<0)(hB: ∀x∈B,0<=bO s x e)(hl:(A++B).length<1000):
  Ev (λf=>iZ f (⟨s,o,A++B,last⟩:Tree) e) (⟨s,o,A++e::B,last⟩:Tree):=by
 have L: ∀(d k:Nat),k+d=A.length->gT (λf=>gk f (⟨s,o,A++B,last⟩:Tree) e) (k:Int) (A.length:Int):=by
  intro d
  induction d with
  |zero=>
   intro k hk
   have hk:k=A.length:=by omega
   subst hk
   refine .stop ?_
   unfold gk
   by_cases hb:A.length<(A++B).length
   .have hx:=hg _ (j_2 hb)
    have hge:0<=bO s (A++B)[A.length] e:=by grind
    exact .t (eO hb)<|.ae (aw hb)<|.bind (rp hS hx.fit he.fit)<|.f (decide_eq_false (show ¬bO s (A++B)[A.length] e<0 by omega)) (.pure _)
   .exact .f (mn (show(A++B).length<=A.length by omega)) (.pure _)
  |succ d ih=>
   intro k hk
   have hka:k<A.length:=by omega
   have hb:k<(A++B).length:=by simp;omega
   have hx:=hg _ (j_2 hb)
   have hlt:bO s (A++B)[k] e<0:=by grind
   refine .next ?_ (ih (k+1) ω)
   unfold gk
   refine .t (eO hb)<|.ae (aw hb)<|.bind (rp hS hx.fit he.fit)<|.t (by simpa using hlt) ?_
   rw[cZ ω]
   exact .pure _
 have hl2:A.length+B.length<1000:=by simpa using hl
 unfold iZ
 refine .bind (L A.length 0 ω).ev<|.dx (lH ψ)<|.dx ?_<|.dx ?_<|.dx (lI ψ)<|.dx ?_ ?_
 .simp only[nU,room,decide_eq_true_eq];simp;omega
 .simp only[nU,room,decide_eq_true_eq];simp;omega
 .rw[rV ψ];simp only[nU,room,decide_eq_true_eq];simp;omega
 .rw[rV ψ,nU]
  simp only[List.take_left',List.drop_left',m_3,j_3,m_5]
  exact .pure _
def uD(hn:n=A.length)(hl:(A++e::B).length<1000):Ev (λf=>ei f (⟨s,o,A++e::B,last⟩:Tree) (n:Int)) (⟨s,o,A++B,last⟩:Tree):=by
 subst hn
 have hl2:A.length+B.length<1000:=by simp at hl;omega
 have e1:sl (A++e::B) 0 (A.length:Int)=A:=by rw[nU];simp
 have e2:sl (A++e::B) ((A.length+1:Nat):Int) ((A++e::B).length:Int)=B:=by
  rw[rV ψ,show A++e::B=(A++[e])++B by simp,List.drop_left' ψ]
 unfold ei
 simp only[cZ (show A.length<1000000000 by omega)]
 refine .dx (lH ψ)<|.dx ?_<|.dx (lI ψ)<|.dx ?_ ?_
 .rw[e1];exact decide_eq_true (show A.length<=16777216 by omega)
 .rw[e1,e2];exact decide_eq_true (show(A++B).length<=16777216 by simp;omega)
 .rw[e1,e2];exact .pure _
end
set_option maxRecDepth 100000
structure FL(s:ak)(last:Int)(fl:List Entry):Prop where
 g: ∀x∈fl,gE s x/\x.Number<=last
 wj:u6 s fl
section
variable {s:ak} {o:Nat} {last:Int} {fl:List Entry}
def yu(S:SI s o)(hr:row.length<1000){β:Type}{b:Nat->Bool->Option β}{r:β}(h:Ev (λn=>b n (!mT s row key)) r):
  Ev (λn=>aP (b n) λjp=>(oH n s row).bind λr3=>bif (!r3)then jp true else(sh n key).bind λr4=>jp (!r4)) r:=by
 refine .aP<|.bind (vt s row S.ok hr) ?_
 unfold mT at h
 cases hf:bc s.aq row with
 |false=>rw[hf]at h;exact .t rfl h
 |true=>
  rw[hf,j_7]at h
  refine .f rfl<|.ae (zC 0 key) h
def Ea{p:Entry->Bool}(h:sN p fl=some (n,e)): ∃A B,fl=A++e::B/\n=A.length:=by
 have h1:=(pH h).1
 obtain⟨h2,h3⟩:=g_5.1 h1
 exact⟨fl.take n,fl.drop (n+1),by rw[<-h3];exact rH h2,χ⟩
def En(F:FL s last fl)(h:fl=A++e::B):ky s e fl=A++B:=by
 subst h
 have hs:=F.wj
 unfold u6 at hs
 rw[j_9,j_6]at hs
 have hge:=(F.g e ψ).1
 exact pM (λx hx=>pU (hs.2.2 x hx e ψ)) (gM e) λx hx=>ji hge (F.g x (by simp[hx])).1 hge (hs.2.1.1 x hx) (by rw[gM];omega)
def wG(S:SI s o)(F:FL s last fl)(hr:row.length<1000)(h0:0<=last)(h1:last<10000)(hl:fl.length<500):
  Ev (λf=>fO f (⟨s,o,fl,last⟩:Tree) row key) ((⟨s,o,(pG s row key last fl).2.2,(pG s row key last fl).2.1⟩:Tree),(pG s row key last fl).1.1,(pG s row key last fl).1.2):=by
 have hg:=λx hx=>(F.g x hx).1
 unfold fO
 refine .aP<|yu S hr ?_
 unfold pG
 cases hk:mT s row key with
 |false=>rw[if_pos rfl];exact .t rfl (.pure _)
 |true=>
  rw[if_neg ψ]
  obtain⟨k1,k2⟩:=nF hk
  refine .f rfl ?_
  have he:gE s ⟨row,key,last+1⟩:=⟨by simp[nI,k1,k2.1,k2.2];omega,by unfold i64;simp only;omega⟩
  have add:(s.cW=1->fl.any (rE s row)=false)->Ev (λn=>Go.Sh.dx (decide ((([]:List Value)++row).length<=room))<|(iZ n (⟨s,o,fl,(IntKind.wrap .i64 (last+1))⟩:Tree) (⟨(([]:List Value)++row),key,(IntKind.wrap .i64 (last+1))⟩:Entry)).bind λr9=>
    some (r9,(IntKind.wrap .i64 (last+1)),(0:Int))) ((⟨s,o,mf s ⟨row,key,last+1⟩ fl,last+1⟩:Tree),last+1,0):=λ_=>by
   rw[cC ω ω]
   obtain⟨A,B,rfl,hA,hB⟩:=lu he F.wj hg
   refine .dx (decide_eq_true (show row.length<=16777216 by omega))<|.bind (Gx S.ok he hg hA hB ω) ?_
   rw[sG hA λx hx=>?_]
   .exact .pure _
   .have h2:=hB x hx
    have h3:bO s x ⟨row,key,last+1⟩≠0:=λh=>by
     have:=CI h
     have h4:=(F.g x (by simp[hx])).2
     simp only at this;omega
    omega
  have lim:((fl.length:Int)==500)=false:=by simp;omega
  by_cases hd:s.cW=1
  .refine .t (by simp[hd])<|.bind (IX S.ok k1 hg ω) ?_
   cases hh:fl.any (rE s row)with
   |true=>rw[if_pos ⟨hd,rfl⟩];exact .t rfl (.pure _)
   |false=>grind
  grind
def CE(S:SI s o)(F:FL s last fl)(hr:row.length<1000)(hl:fl.length<500):
  Ev (λf=>hU f (⟨s,o,fl,last⟩:Tree) row key) ((⟨s,o,(AM s row key fl).2,last⟩:Tree),(AM s row key fl).1):=by
 have hg:=λx hx=>(F.g x hx).1
 unfold hU
 refine yu S hr ?_
 unfold AM
 cases hk:mT s row key with
 |false=>rw[if_pos rfl];exact .t rfl (.pure _)
 |true=>
  rw[if_neg ψ]
  refine .f rfl<|.bind (GA S.ok (nF hk).1 hg ω) ?_
  cases hf:sN (tN s row key) fl with
  |none=>exact .t rfl (.pure _)
  |some q=>
   obtain⟨n,e⟩:=q
   obtain⟨A,B,rfl,hn⟩:=Ea hf
   refine .f (decide_eq_false (show ¬((n:Nat):Int)<0 by omega))<|.bind (uD hn ω) ?_
   dsimp only
   rw[En F rfl]
   exact .pure _
def E5(S:SI s o)(F:FL s last fl)(hr:row.length<1000)(hw:wth.length<1000)(h0:0<=last)(h1:last<10000)(hl:fl.length<500):
  Ev (λf=>jy f (⟨s,o,fl,last⟩:Tree) row key wth) ((⟨s,o,(ve s row key wth last fl).2.2,(ve s row key wth last fl).2.1⟩:Tree),(ve s row key wth last fl).1):=by
 have hg:=λx hx=>(F.g x hx).1
 have W:=vt s wth S.ok hw
 unfold jy
 unfold ve
 have ask: ∀{b:Nat->Bool->Option (Tree×Int)} {r},Ev (λn=>b n (!(mT s row key&&bc s.aq wth))) r->Ev (λn=>aP (b n) λjp=>(oH n s row).bind λr3=>bif (!r3)then jp true else(sh n key).bind λr4=>bif (!r4)then jp true else(oH n s wth).bind λr5=>jp (!r5)) r:=λ{b r} h=>by
  refine .aP<|.bind (vt s row S.ok hr) ?_
  unfold mT at h
  cases hf:bc s.aq row with
  |false=>rw[hf]at h;exact .t rfl h
  |true=>
   rw[hf,j_7]at h
   refine .f rfl<|.ae (zC 0 key) ?_
   cases hk:(decide (1<=key)&&decide (key<=1000000))with
   |false=>rw[hk]at h;exact .t rfl h
   |true=>rw[hk,j_7]at h;exact .f rfl<|.bind W h
 refine ask ?_
 by_cases hb:mT s row key=false\/bc s.aq wth=false
 .rw[if_pos hb]
  refine .t ?_ (.pure _)
  grind
 .rw[if_neg hb]
  simp only[not_or,Bool.not_eq_false]at hb
  obtain⟨hk,hz⟩:=hb
  obtain⟨k1,k2⟩:=nF hk
  refine .f (by simp[hk,hz])<|.bind (GA S.ok k1 hg ω) ?_
  cases hf:sN (tN s row key) fl with
  |none=>exact .t rfl (.pure _)
  |some q=>
   obtain⟨n,e⟩:=q
   obtain⟨A,B,hAB,hn⟩:=Ea hf
   refine .f (decide_eq_false (show ¬((n:Nat):Int)<0 by omega))<|.bind (zy S.ok k1 hz) ?_
   by_cases hc:cx s.Down row wth=0
   .simp only[hc,if_true]
    exact .t ψ (.pure _)
   .simp only[hc,if_false]
    have hdel:=En F hAB
    have F2:FL s last (ky s e fl):=⟨λx hx=>F.g x (wS.1 hx).1,BL F.wj⟩
    have I:=wG S F2 (key:=key) hw h0 h1 (Nat.lt_of_le_of_lt pL.length_le hl)
    have hWo:Ev (λf=>ei f (⟨s,o,fl,last⟩:Tree) (n:Int)) (⟨s,o,ky s e fl,last⟩:Tree):=by
     rw[hdel];subst hAB;exact uD hn ω
    refine .f (by simpa using hc)<|.bind hWo<|.bind I ?_
    have hask:mT s wth key=true:=by
     simp only[mT,hz,j_7]
     grind
    have hek:rE s row e=true:=by
     have:=(pH hf).2
     simp only[tN,g_3]at this
     exact this.2
    have hany:(ky s e fl).any (rE s wth)=fl.any (rE s wth):=by
     have hne:rE s wth e=false:=by
      rw[p_8]
      intro h2
      simp only[rE,beq_iff_eq]at hek h2
      have hge:=(F.g e (by rw[hAB];simp)).1.fit
      have n1:=sF s.Down hge k1
      have:=wL s.Down k1 hge hz ω ω
      have n2:=sF s.Down k1 hz
      have n3:=sF s.Down hge hz
      have:=wL s.Down hz hge k1 ω ω
      omega
     rw[hdel,hAB]
     simp[hne]
    unfold pG
    rw[if_neg (by simp[hask]),hany]
    by_cases hd:s.cW=1/\fl.any (rE s wth)=true
    .rw[if_pos hd,if_pos hd];exact .t rfl (.pure _)
    .rw[if_neg hd,if_neg hd];exact .f rfl (.pure _)
end
set_option maxRecDepth 100000
def jq(f:Nat->AT->List Node):List AT->Nat->List Int×List Node
 |[],_=>([],[])
 |k::ks,s=>((s:Int)::(jq f ks (s+(f s k).length)).1,f s k++(jq f ks (s+(f s k).length)).2)
def gq:Nat->Nat->AT->List Node
 |0,_,.nd _ es _=>[⟨0,es,[]⟩]
 |l+1,s,.nd _ es ks=>⟨((l+1:Nat):Int),es,(jq (gq l) ks (s+1)).1⟩::(jq (gq l) ks (s+1)).2
def pt(f:Nat->AT->List Node): ∀(ks:List AT) (s:Nat),(jq f ks s).1.length=ks.length
 |[],_=>rfl
 |k::ks,s=>by simp[jq,pt f ks]
def GG:Nat->AT->List Int
 |0,.nd _ es _=>es.map (·.Number)
 |l+1,.nd _ es ks=>es.map (·.Number)++(ks.map (GG l)).flatten
def vH: ∀{es:List Entry} {ks:List (List Entry)},ks.length=es.length+1->fj es ks=wv es ks
 |[],[k],_=>by simp[fj,nO,wv,ws]
 |e::es,k::k2::ks,h=>by
  rw[vK,List.headD_cons,List.tail_cons,vH (es:=es) (ks:=k2::ks) (by simpa using h)]
  rfl
section
variable {H:Hp}
def KV: ∀(l:Nat) (a:AT) (s:Nat) (nodes pre post:List Node),nodes=pre++gq l s a++post->pre.length=s->a.hd H l->HN 0 nodes H l s (s+(gq l s a).length) a.ad/\jP nodes l s=a.fl l:=by
 intro l
 induction l with
 |zero=>
  intro a s nodes pre post h hs hh
  obtain⟨i,es,ks⟩:=a
  obtain⟨rfl,hi⟩:=hh
  have hx:nodes[s]? =some ⟨0,es,[]⟩:=by rw[h,<-hs];simp[gq]
  exact⟨⟨_,hx,rfl,rfl,hi,rfl,v_3 _⟩,by unfold jP;rw[hx];rfl⟩
 |succ l ih=>
  intro a s nodes pre post h hs hh
  obtain⟨i,es,ks⟩:=a
  obtain⟨hk,hi,hks⟩:=hh
  have hx:nodes[s]? =some ⟨((l+1:Nat):Int),es,(jq (gq l) ks (s+1)).1⟩:=by rw[h,<-hs];simp[gq]
  have K: ∀(ks:List AT) (pre:List Node) (t:Nat),(∀k∈ks,k.hd H l)->nodes=pre++(jq (gq l) ks t).2++post->pre.length=t->yc (HN 0 nodes H l) (jq (gq l) ks t).1 (ks.map eS) t (t+(jq (gq l) ks t).2.length)/\
    (jq (gq l) ks t).1.map (λ(k:Int)=>jP nodes l k.toNat)=ks.map (AT.fl l):=by
   intro ks
   induction ks with
   |nil=>intro pre t _ _ _;exact⟨rfl,rfl⟩
   |cons k ks ihk=>
    intro pre t hks hn ht
    simp only[jq]at hn ⊢
    obtain⟨a1,a2⟩:=ih k t nodes pre ((jq (gq l) ks (t+(gq l t k).length)).2++post) (by rw[hn];simp) ht (hks k ψ)
    obtain⟨b1,b2⟩:=ihk (pre++gq l t k) (t+(gq l t k).length) (λq hq=>hks q (by simp[hq])) (by rw[hn];simp) (by simp[ht])
    refine⟨⟨rfl,_,a1,?_⟩,?_⟩
    .grind
    grind
  obtain⟨k1,k2⟩:=K ks (pre++[⟨((l+1:Nat):Int),es,(jq (gq l) ks (s+1)).1⟩]) (s+1) hks (by rw[h];simp[gq]) (by simp[hs])
  refine⟨⟨_,ks.map eS,hx,rfl,by rw[pt];exact hk,hi,v_3 _,?_⟩,?_⟩
  .have:s+(gq (l+1) s (.nd i es ks)).length=s+1+(jq (gq l) ks (s+1)).2.length:=by simp[gq];omega
   rw[this];exact k1
  .show(match nodes[s]? with|some x=>fj x.Entries (x.Kids.map λ(k:Int)=>jP nodes l k.toNat)|none=>[])=_
   rw[hx]
   simp only
   rw[k2]
   exact vH (by simp[hk])
def FR{α:Type}: ∀{B:List α} {D:List (List α)},B.length=D.length->(ws B D).length=B.length+(D.map List.length).sum
 |[],[],_=>rfl
 |b::B,d::D,h=>by simp[ws,FR (B:=B) (D:=D) (by simpa using h)];omega
def DO(hm:1<=m): ∀(l:Nat) (a:AT) (s:Nat),a.hd H l->a.bl m o l->(gq l s a).length+a.es.length<=(a.fl l).length+1
 |0,.nd i es ks,s,hh,hb=>by simp[gq,AT.fl,AT.es];omega
 |l+1,.nd i es ks,s,hh,hb=>by
  have K: ∀(ks:List AT) (t:Nat),(∀k∈ks,k.hd H l)->(∀k∈ks,m<=k.es.length/\k.bl m o l)->(jq (gq l) ks t).2.length<=((ks.map (AT.fl l)).map List.length).sum:=by
   intro ks
   induction ks with
   |nil=>intro t _ _;exact g_9 _
   |cons k ks ihk=>
    intro t h1 h2
    have a1:=DO hm l k t (h1 k ψ) (h2 k ψ).2
    have a2:=ihk (t+(gq l t k).length) (λq hq=>h1 q (by simp[hq])) (λq hq=>h2 q (by simp[hq]))
    have a3:=(h2 k ψ).1
    simp only[jq,h_5,h_3,List.sum_cons]
    omega
  have k1:=K ks (s+1) hh.2.2 λk hk=>⟨(hb k hk).1,(hb k hk).2.2⟩
  have hl:=hh.1
  have e1:(AT.fl (l+1) (.nd i es ks)).length=es.length+((ks.map (AT.fl l)).map List.length).sum:=by
   match ks,hl with
   |k::ks,hl=>
    show(k.fl l++ws es (ks.map (AT.fl l))).length=_
    rw[h_5,FR (by simpa using hl.symm)]
    simp;omega
  rw[e1]
  simp only[gq,j_1,AT.es]
  omega
def DP{Q:Entry->Prop}(ho:o<=32): ∀(l:Nat) (a:AT) (s:Nat),a.hd H l->a.bl m o l->a.es.length<=o->(∀e∈a.fl l,Q e)-> ∀x∈gq l s a,x.Entries.length<=32/\x.Kids.length<=33/\0<=x.Level/\x.Level<=(l:Nat)/\ ∀e∈x.Entries,Q e
 |0,.nd i es ks,s,hh,hb,hl,hq=>by
  intro x hx
  simp only[gq,w_1]at hx
  subst hx
  have hl:es.length<=o:=hl
  exact⟨by simp only;omega,ψ,Int.le_refl _,Int.le_refl _,hq⟩
 |l+1,.nd i es ks,s,hh,hb,hl,hq=>by
  have hl:es.length<=o:=hl
  have hk:=hh.1
  intro x hx
  simp only[gq,h_9]at hx
  rcases hx with rfl|hx
  .refine⟨by simp only;omega,by simp only[pt];omega,by simp only;omega,ψ,λe he=>hq e ((zN (by simp[hk])).2 (.inl he))⟩
  .have K: ∀(ks:List AT) (t:Nat),(∀k∈ks,k.hd H l/\k.bl m o l/\k.es.length<=o/\ ∀e∈k.fl l,Q e)-> ∀x∈(jq (gq l) ks t).2,∃k t,(k.hd H l/\k.bl m o l/\k.es.length<=o/\ ∀e∈k.fl l,Q e)/\x∈gq l t k:=by
    intro ks
    induction ks with
    |nil=>intro t _ x hx;simp[jq]at hx
    |cons k ks ihk=>
     intro t h1 x hx
     simp only[jq,k_7]at hx
     rcases hx with hx|hx
     .grind
     .exact ihk _ (λq hq=>h1 q (by simp[hq])) x hx
   obtain⟨k,t,⟨h1,h2,h3,h4⟩,h5⟩:=K ks (s+1) (λk hk'=>⟨hh.2.2 k hk',(hb k hk').2.2,(hb k hk').2.1,λe he=>hq e ((zN (by simp[hk])).2 (.inr ⟨_,List.mem_map_of_mem hk',he⟩))⟩) x hx
   obtain⟨g1,g2,g3,g4,g5⟩:=DP ho l k t h1 h2 h3 h4 x h5
   grind
def DM: ∀{es:List Entry} {met:List Int},(∀e∈es,nI s e=true/\e.Number<=last)->(met++es.map (·.Number)).Nodup->np s last met es=some (met++es.map (·.Number))
 |[],met,_,_=>by simp[np]
 |e::es,met,h,hn=>by
  have h1:=h e ψ
  have h2:met.contains e.Number=false:=by
   grind
  simp only[np]
  rw[if_pos (by simp only[xm,h1.1,j_7,h2,Bool.not_false,Bool.and_true,decide_eq_true_eq];exact h1.2)]
  rw[DM (λx hx=>h x (by simp[hx])) (by simpa using hn)]
  simp
def Ih: ∀{es:List Entry} {p:Option Entry},u6 s es->(∀a,p=some a-> ∀x∈es,qy s a x=true)->Ai s p es=true
 |[],_,_,_=>rfl
 |e::es,p,h,hp=>by
  obtain⟨h1,h2⟩:=j_6.1 h
  simp only[Ai,g_3]
  refine⟨?_,Ih h2 λa ha x hx=>?_⟩
  .cases p with
   |none=>rfl
   |some a=>exact hp a rfl e ψ
  .cases ha;exact h1 x hx
end
set_option maxRecDepth 100000
section
variable {H:Hp} {s:ak} {last:Int} {o:Nat} {nodes:List Node}
def GL(h1:(x.Entries.length:Int)<=(o:Int)/\(root=true\/o / 2<=x.Entries.length))(h2:0<=x.Level/\(root=true\/x.Level=level))
  (h3:x.Kids.length=(if 0<x.Level then x.Entries.length+1 else 0)/\x.Kids.length≠1) (h4:u6 s x.Entries) (h5: ∀e∈x.Entries,gN s low e=true/\An s e high=true) (h6: ∀e∈x.Entries,nI s e=true/\e.Number<=last)
  (h7:(met++x.Entries.map (·.Number)).Nodup):qg s (o:Int) last root level low high met x=some (met++x.Entries.map (·.Number)):=by
 unfold qg
 rw[if_pos,DM h6 h7]
 simp only[g_3]
 refine⟨⟨⟨⟨?_,?_⟩,?_⟩,Ih h4 λa h=>by cases h⟩,?_⟩
 .unfold vp
  grind
 .unfold vl
  grind
 .unfold w9
  grind
 .unfold oz
  simp only[g_3]
  constructor
  .cases low with
   |none=>rfl
   |some l=>
    cases he:x.Entries.head? with
    |none=>rfl
    |some a=>exact(h5 a (List.mem_of_head? he)).1
  .cases high with
   |none=>rfl
   |some l=>
    cases he:x.Entries.getLast? with
    |none=>rfl
    |some a=>exact(h5 a (List.mem_of_getLast? he)).2
def Ma(S:SI s o): ∀(l:Nat) (a:AT) (t:Nat) (lv:Int) (lo hi:Option Entry) (met:List Int) (d:Nat) (pre post:List Node),nodes=pre++gq l t a++post->pre.length=t->l<d->a.hd H l->a.bl (o / 2) o l->a.es.length<=o->(t=0\/o / 2<=a.es.length)->(l≠0->1<=a.es.length)->
  (t=0\/lv=(l:Nat))->(∀e∈a.fl l,nI s e=true/\e.Number<=last)->u6 s (a.fl l)->(∀e∈a.fl l,gN s lo e=true/\An s e hi=true)->(met++GG l a).Nodup->
  wk s (o:Int) last nodes d t lv lo hi met=.inr (t+(gq l t a).length,met++GG l a):=by
 intro l
 induction l with
 |zero=>
  intro a t lv lo hi met d pre post hn ht hd hh hb hl hm h1 hlv hg hsr hbd hnd
  obtain⟨i,es,ks⟩:=a
  have hx:nodes[t]? =some ⟨0,es,[]⟩:=by rw[hn,<-ht];simp[gq]
  obtain⟨d,rfl⟩: ∃k,d=k+1:=⟨d - 1,ω⟩
  have hl:es.length<=o:=hl
  have hok:qg s (o:Int) last (t==0) lv lo hi met ⟨0,es,[]⟩=some (met++es.map (·.Number)):=GL ⟨by simp only;omega,by rcases hm with h|h;exact .inl (by simp[h]);exact .inr h⟩ ⟨Int.le_refl _,φ⟩ ⟨rfl,ψ⟩ hsr hbd hg hnd
  show(match nodes[t]? with|none=>Sum.inl t|some x=>match qg s (o:Int) last (t==0) lv lo hi met x with|none=>Sum.inl t|some met'=>oW nodes (wk s (o:Int) last nodes d) t x lo hi x.Kids 0 (t+1) met')=_
  rw[hx]
  simp only
  rw[hok]
  rfl
 |succ l ih=>
  intro a t lv lo hi met d pre post hn ht hd hh hb hl hm h1 hlv hg hsr hbd hnd
  obtain⟨i,es,ks⟩:=a
  have hl:es.length<=o:=hl
  have h1:1<=es.length:=h1 ω
  have hk:=hh.1
  let X:Node:=⟨((l+1:Nat):Int),es,(jq (gq l) ks (t+1)).1⟩
  have hx:nodes[t]? =some X:=by
   subst ht
   rw[hn];simp[gq,X]
  obtain⟨d,rfl⟩: ∃k,d=k+1:=⟨d - 1,ω⟩
  have hfl: ∀e,e∈AT.fl (l+1) (.nd i es ks)<->e∈es\/ ∃k∈ks.map (AT.fl l),e∈k:=λe=>zN (by simp[hk])
  have hges: ∀e∈es,e∈AT.fl (l+1) (.nd i es ks):=λe he=>(hfl e).2 (.inl he)
  have hsub:es.Sublist (AT.fl (l+1) (.nd i es ks)):=Cb (by simp[hk])
  have hnd':(met++es.map (·.Number)++(ks.map (GG l)).flatten).Nodup:=by rw[j_3];exact hnd
  have hok:qg s (o:Int) last (t==0) lv lo hi met X=some (met++es.map (·.Number)):=
   GL (x:=X) ⟨by simp only[X];omega,by rcases hm with h|h;exact .inl (by simp[h]);exact .inr h⟩ ⟨by simp only[X];omega,φ⟩
    ⟨by simp only[X,pt];rw[if_pos ω];exact hk,by simp only[X,pt];omega⟩ (hsr.sublist hsub) (λe he=>hbd e (hges e he)) (λe he=>hg e (hges e he)) (hnd'.sublist (List.sublist_append_left _ _))
  have K: ∀(D C:List AT) (nx:Nat) (mt:List Int) (pre:List Node),ks=C++D->nodes=pre++(jq (gq l) D nx).2++post->pre.length=nx->0<nx->(mt++(D.map (GG l)).flatten).Nodup->
    oW nodes (wk s (o:Int) last nodes d) t X lo hi (jq (gq l) D nx).1 C.length nx mt=.inr (nx+(jq (gq l) D nx).2.length,mt++(D.map (GG l)).flatten):=by
   intro D
   induction D with
   |nil=>intro C nx mt pre _ _ _ _ _;simp[jq,oW]
   |cons k D ihD=>
    intro C nx mt pre hC hn2 hp hnx hmt
    have hkm:k∈ks:=by rw[hC];simp
    have hkb:=hb k hkm
    have hCl:C.length<=es.length:=by rw[hC]at hk;simp at hk;omega
    have hAB:es=es.take C.length++es.drop C.length:=(p_7 _ _).symm
    have hDl:(es.drop C.length).length=D.length:=by grind
    have hmid:AT.fl (l+1) (.nd i es ks)=wp (es.take C.length) (C.map (AT.fl l))++(k.fl l++ws (es.drop C.length) (D.map (AT.fl l))):=by
     rw[hC]
     conv=>lhs;rw[hAB]
     exact iU χ
    have hsr':=hsr
    rw[hmid]at hsr'
    unfold u6 at hsr'
    rw[j_9,j_9]at hsr'
    have hkf: ∀e∈k.fl l,e∈AT.fl (l+1) (.nd i es ks):=λe he=>(hfl e).2 (.inr ⟨_,List.mem_map_of_mem hkm,he⟩)
    have hlo: ∀e∈k.fl l,gN s (nz X lo C.length) e=true:=λe he=>by
     unfold nz
     split
     .rename_i h0
      have hi1:C.length - 1<es.length:=by omega
      show gN s es[C.length - 1]? e=true
      rw[h_7 hi1]
      refine hsr'.2.2 _ ((zO χ).2 (.inl ?_)) e (by simp[he])
      rw[List.mem_take_iff_getElem]
      grind
     .exact(hbd e (hkf e he)).1
    have hhi: ∀e∈k.fl l,An s e (gP X hi C.length)=true:=λe he=>by
     unfold gP
     split
     .rename_i h0
      have h0:C.length<es.length:=h0
      show An s e es[C.length]? =true
      rw[h_7 h0]
      refine hsr'.2.1.2.2 e he _ ((tP (by simpa using hDl)).2 (.inl ?_))
      rw[aH h0];exact q_2
     .exact(hbd e (hkf e he)).2
    simp only[jq]at hn2 ⊢
    simp only[h_3,p_9]at hmt ⊢
    have hkn:(gq l nx k).length≠0:=by
     cases k with
     |nd i es ks=>cases l<;>simp[gq]
    have hlt:nx<nodes.length:=by rw[hn2];simp;omega
    have R:=ih k nx (X.Level - 1) (nz X lo C.length) (gP X hi C.length) mt d pre ((jq (gq l) D (nx+(gq l nx k).length)).2++post) (by rw[hn2];simp) hp ω (hh.2.2 k hkm) hkb.2.2 hkb.2.1 (.inr hkb.1) (λ_=>by have:=S.o3;omega)
     (.inr φ) (λe he=>hg e (hkf e he)) hsr'.2.1.1 (λe he=>⟨hlo e he,hhi e he⟩) (hmt.sublist φ)
    simp only[oW]
    rw[if_pos ⟨trivial,hlt⟩,R]
    simp only
    have R2:=ihD (C++[k]) (nx+(gq l nx k).length) (mt++GG l k) (pre++gq l nx k) (by rw[hC];simp) (by rw[hn2];simp) (by simp[hp]) ω (by rw[j_3];exact hmt)
    rw[h_5,j_1,v_2,q_1]at R2
    rw[R2]
    simp only[h_5,j_3]
    rw[Nat.add_assoc]
  have R:=K ks [] (t+1) (met++es.map (·.Number)) (pre++[X]) rfl (by rw[hn];simp[gq,X]) (by simp[ht]) ω hnd'
  show(match nodes[t]? with|none=>Sum.inl t|some x=>match qg s (o:Int) last (t==0) lv lo hi met x with|none=>Sum.inl t|some met'=>oW nodes (wk s (o:Int) last nodes d) t x lo hi x.Kids 0 (t+1) met')=_
  rw[hx]
  simp only
  rw[hok]
  simp only
  refine R.trans ?_
  simp only[gq,j_1,GG,j_3]
  congr 2
  omega
def Du{α:Type}: ∀{B:List α} {D:List (List α)},B.length=D.length->(ws B D).Perm (B++D.flatten)
 |[],[],_=>.refl _
 |b::B,d::D,h=>by
  simp only[ws,m_5,p_9]
  refine .cons b ?_
  refine(List.Perm.append_left d (Du (B:=B) (D:=D) (by simpa using h))).trans ?_
  rw[<-j_3,<-j_3]
  exact List.Perm.append_right _ List.perm_append_comm
def wI: ∀(l:Nat) (a:AT),a.hd H l->(GG l a).Perm ((a.fl l).map (·.Number))
 |0,.nd i es ks,h=>.refl _
 |l+1,.nd i es ks,h=>by
  have hk:=h.1
  have K: ∀(ks:List AT),(∀k∈ks,k.hd H l)->((ks.map (GG l)).flatten).Perm (((ks.map (AT.fl l)).flatten).map (·.Number)):=by
   intro ks
   induction ks with
   |nil=>intro _;exact .refl _
   |cons k ks ihk=>
    intro h1
    simp only[h_3,p_9,k_1]
    exact(wI l k (h1 k ψ)).append (ihk λq hq=>h1 q (by simp[hq]))
  have e1:(AT.fl (l+1) (.nd i es ks)).Perm (es++(ks.map (AT.fl l)).flatten):=by
   match ks,hk with
   |k::ks,hk=>
    show(k.fl l++ws es (ks.map (AT.fl l))).Perm _
    refine(List.Perm.append_left _ (Du (by simpa using hk.symm))).trans ?_
    grind
  show(es.map (·.Number)++(ks.map (GG l)).flatten).Perm _
  refine List.Perm.trans ?_ (e1.map _).symm
  rw[k_1]
  exact List.Perm.append_left _ (K ks h.2.2)
def TI.GX(S:SI s o)(h:TI s o last l a H tr)(h0:0<=last)(hl:(a.fl l).length<400):
  Am (gq l 0 a)/\nJ s (o:Int) last (gq l 0 a)=(-1,0)/\xI s (o:Int) last (gq l 0 a) l H tr/\jP (gq l 0 a) l 0=a.fl l/\(gq l 0 a).length<500:=by
 have hm1:1<=o / 2:=by have:=S.o3;omega
 obtain⟨q1,q2⟩:=KV l a 0 (gq l 0 a) [] [] ψ rfl h.hd
 rw[q_1]at q1
 have q3:=DO hm1 l a 0 h.hd h.bl
 have hlv:=q1.A8
 have hne:(gq l 0 a).length≠0:=by omega
 have hW:=Ma (nodes:=gq l 0 a) S l a 0 0 none none [] (gq l 0 a).length [] [] ψ rfl ω h.hd h.bl h.top (.inl rfl) h.one (.inl rfl) (λe he=>⟨(h.g e he).1.1,(h.g e he).2⟩) h.wj (λe he=>⟨rfl,rfl⟩)
  (by rw[m_3,(wI l a h.hd).nodup_iff];exact h.num)
 have hA:=DP (Q:=λe=>e.Row.length<1000/\i64 e.Number) S.GP l a 0 h.hd h.bl h.top (λe he=>⟨by have:=eg (h.g e he).1.fit;have:=(iD S.ok).1;omega,(h.g e he).1.2⟩)
 refine⟨⟨ω,λx hx=>?_⟩,?_,⟨a.ad,by rw[q2];exact h.obj,0,q1⟩,q2,ω⟩
 .obtain⟨a1,a2,a3,a4,a5⟩:=hA x hx
  exact⟨ω,ω,by unfold i64;omega,a5⟩
 .unfold nJ
  rw[if_pos S.ok,if_pos ⟨by have:=S.o3;omega,by have:=S.GP;omega,h0⟩,if_neg hne,hW]
  simp only[q_1,m_3]
  rw[if_neg ω,if_neg]
  rw[(wI l a h.hd).length_eq,k_6];omega
end
set_option maxRecDepth 100000
def Ks{o:Nat}{H:Hp}(hz: ∀j x,0<j->nodes[j]? =some x->m<=x.Entries.length/\x.Entries.length<=o): ∀(l c z i:Nat),HN b nodes H l c z i->
  ∃a:AT,a.ad=i/\a.hd H l/\a.fl l=jP nodes l c/\(∃x,nodes[c]? =some x/\a.es=x.Entries)/\a.bl m o l/\ ∀j∈a.ft l,b<=j
 |0,c,z,i,h=>by
  obtain⟨x,h1,h2,h3,h4,h5,h6⟩:=h
  exact⟨.nd i x.Entries [],rfl,⟨rfl,h4⟩,by unfold jP;rw[h1];rfl,⟨x,h1,rfl⟩,trivial,λj hj=>by simp only[AT.ft,w_1]at hj;omega⟩
 |l+1,c,z,i,h=>by
  have hin:=λ{x} (hx:nodes[c]? =some x)=>xf h hx
  obtain⟨x,is,h1,h2,h3,h4,h5,h6⟩:=h
  have K: ∀(ks:List Int) (is:List (Option Nat)) (u v:Nat),0<u->yc (HN b nodes H l) ks is u v-> ∃av:List AT,av.map eS=is/\av.map (AT.fl l)=ks.map (λ(k:Int)=>jP nodes l k.toNat)/\ ∀a∈av,a.hd H l/\(m<=a.es.length/\a.es.length<=o/\a.bl m o l)/\ ∀j∈a.ft l,b<=j:=by
   intro ks
   induction ks with
   |nil=>
    intro is u v hu hh
    cases is with
    |nil=>exact⟨[],rfl,rfl,ψ⟩
    |cons q qs=>cases q<;>exact hh.elim
   |cons k ks ih=>
    intro is u v hu hh
    cases is with
    |nil=>exact hh.elim
    |cons q qs=>
     cases q with
     |none=>exact hh.elim
     |some q=>
      obtain⟨g1,mm,g2,g3⟩:=hh
      have hlt:=g2.lt
      obtain⟨a,a1,a2,a3,⟨y,a4,a5⟩,a6,a7⟩:=Ks hz l u mm q g2
      obtain⟨av,b1,b2,b3⟩:=ih qs mm v ω g3
      refine⟨a::av,by simp[b1,eS,a1],by simp[a3,g1];exact b2,λw hw=>?_⟩
      grind
  obtain⟨av,b1,b2,b3⟩:=K x.Kids is (c+1) z ω h6
  have hl:av.length=x.Entries.length+1:=by
   have:=congrArg List.length b2
   simp at this;omega
  refine⟨.nd i x.Entries av,rfl,⟨hl,by show H[i]? =some (cz x.Entries (av.map eS));rw[b1];exact h4,λk hk=>(b3 k hk).1⟩,?_,⟨x,h1,rfl⟩,λk hk=>(b3 k hk).2.1,λj hj=>?_⟩
  .rw[hin h1]
   show wv x.Entries (av.map (AT.fl l))=_
   rw[b2,<-vH χ]
   rfl
  .rcases dj.1 hj with rfl|⟨k,hk,hj⟩
   .exact h5
   .exact(b3 k hk).2.2 j hj
def GV{o:Nat}{H:Hp}: ∀(l:Nat) (a:AT) (s:Nat),a.bl m o l-> ∀x∈(gq l s a).tail,m<=x.Entries.length/\x.Entries.length<=o
 |0,.nd i es ks,s,hb=>by simp[gq]
 |l+1,.nd i es ks,s,hb=>by
  have K: ∀(ks:List AT) (t:Nat),(∀k∈ks,m<=k.es.length/\k.es.length<=o/\k.bl m o l)-> ∀x∈(jq (gq l) ks t).2,m<=x.Entries.length/\x.Entries.length<=o:=by
   intro ks
   induction ks with
   |nil=>intro t _ x hx;simp[jq]at hx
   |cons k ks ihk=>
    intro t h1 x hx
    have hk:=h1 k ψ
    simp only[jq,k_7]at hx
    rcases hx with hx|hx
    .have hd: ∃y,gq l t k=y::(gq l t k).tail/\y.Entries=k.es:=by
      cases k with
      |nd i es ks=>cases l<;>exact⟨_,rfl,rfl⟩
     obtain⟨y,e1,e2⟩:=hd
     rw[e1]at hx
     rcases h_9.1 hx with rfl|hx
     .rw[e2];exact⟨hk.1,hk.2.1⟩
     .exact GV (H:=H) l k t hk.2.2 x hx
    grind
  exact K ks (s+1) hb
section
variable {s:ak} {o l tr:Nat} {last:Int} {a:AT} {H:Hp}
def GW(l s:Nat)(a:AT): ∃x,gq l s a=x::(gq l s a).tail/\x.Entries=a.es/\x.Level=(l:Nat):=by
 cases a with
 |nd i es ks=>cases l<;>exact⟨_,rfl,rfl,rfl⟩
def Ld{H H':Hp}(h: ∀(j:Nat) (x:aD),H[j]? =some x->H'[j]? =some x):(∀j,j<H.length->H'[j]? =H[j]?)/\H.length<=H'.length:=by
 have h1: ∀j,j<H.length->H'[j]? =H[j]? :=λj hj=>by grind
 grind
def ug(S:SI s o)(h:TI s o last l a H tr)(h0:0<=last)(hl:(a.fl l).length<400): ∃H',Ev (λf=>iF f tr (⟨s,o,a.fl l,last⟩:Tree) H) (true,H')/\TI s o last l a H' tr:=by
 obtain⟨q1,q2,q3,q4,q5⟩:=h.GX S h0 hl
 have hk:=(iD S.ok).1
 obtain⟨H',E,f⟩:=Ic q1 ω q2 q3 (λe he=>by
  rw[q4]at he
  have hg:=(h.g e he).1
  exact⟨by have:=eg hg.fit;omega,Hv hg.1⟩)
 rw[q4]at E
 exact⟨H',E,h.fr (Ld f).1⟩
def Bb(S:SI s o)(h:TI s o last l a H tr)(h0:0<=last)(hl:(a.fl l).length<400)(G:Hp):
  ∃a' H',Ev (λf=>lV f s (o:Int) last (gq l 0 a) G) ((some (G.length+1),-1,0),H')/\TI s o last l a' H' (G.length+1)/\a'.fl l=a.fl l/\(∀j,j<G.length->H'[j]? =G[j]?)/\G.length<=H'.length/\ ∀j∈a'.ft l,G.length<=j:=by
 obtain⟨q1,q2,q3,q4,q5⟩:=h.GX S h0 hl
 have hk:=iD S.ok
 obtain⟨t,H',E,F⟩:=Gj s (o:Int) last (gq l 0 a) q1 ω ω G
 rw[q2]at E F
 obtain⟨root,z,met,rfl,f2,f3,f4,f5,f6,b,lv,f7,f8⟩:=F rfl
 obtain⟨x0,n1,n2,n3⟩:=GW l 0 a
 have hx0:(gq l 0 a)[0]? =some x0:=by rw[n1];rfl
 have hlv:lv=l:=by
  obtain⟨x,is,g1,g2,g3,-⟩:=dT f8
  grind
 subst hlv
 obtain⟨a',a1,a2,a3,⟨x,a4,a5⟩,a6,a7⟩:=Ks (m:=o / 2) (o:=o) (λj x hj hx=>by
  refine GV (H:=H) lv a 0 h.bl x ?_
  grind) lv 0 z root f8
 rw[hx0]at a4;cases a4
 rw[q4]at a3
 have hcnt:=(FX _ _ _ _ _ _ _ _ _ _ _ f2 f8).2
 rw[q4,v_2,q_1]at hcnt
 refine⟨a',H',E,⟨φ,a2,a6,by rw[a5,n2];exact h.top,λh2=>by rw[a5,n2];exact h.one h2,λh2=>by have:=a7 _ h2;omega,by rw[a3];exact h.g,by rw[a3];exact h.wj,by rw[a3];exact h.num⟩,a3,f5,ω,λj hj=>by have:=a7 j hj;omega⟩
def Kf(j:Nat)(hj:j<H.length):(H++[aD.hole,aD.hole])[j]? =H[j]? :=h_6 hj
def HE(S:SI s o)(h:TI s o last l a H tr)(h0:0<=last)(hl:(a.fl l).length<400):
  ∃t a' H',Ev (λf=>kM f tr H) (some t,H')/\TI s o last l a' H' t/\a'.fl l=a.fl l/\(∀j,j<H.length->H'[j]? =H[j]?)/\H.length<=H'.length/\(∀j∈a'.ft l,H.length<=j)/\H.length<=t:=by
 obtain⟨q1,q2,q3,q4,q5⟩:=h.GX S h0 hl
 have h1:=h.fr (H':=H++[aD.hole,aD.hole]) Kf
 obtain⟨a',H',E,T,F,f1,f2,f3⟩:=Bb S h h0 hl (H++[aD.hole,aD.hole])
 have hln:(H++[aD.hole,aD.hole]).length=H.length+2:=by simp
 refine⟨_,a',H',?_,T,F,λj hj=>by rw[f1 j ω,Kf j hj],ω,λj hj=>by have:=f3 j hj;omega,ω⟩
 unfold kM
 refine .ae (fX h.obj)<|.ae (qW h.obj)<|.ae (pY h.obj)<|.bind (tK q1 q3)<|.bind E<|.ae (pY h1.obj) ?_
 simp only[vF]
 refine .ae (qW h1.obj) ?_
 simp only[vF]
 refine .ae (fX h1.obj) ?_
 simp only[vF]
 exact .pure _
end
set_option maxRecDepth 100000
def Ee{c:Entry->Int}: ∀(l:List Entry),(l.filter λx=>decide (c x<0)).length+(l.filter λx=>decide (0<c x)).length<=l.length
 |[]=>by simp
 |x::l=>by
  have:=Ee (c:=c) l
  grind
def D7{s:ak}:(mf s e l).length<=l.length+1:=by
 have:=Ee (c:=λx=>bO s x e) l
 simp only[mf,ins,h_5,j_1]
 omega
def z8{s:ak}:(ky s e l).length<=l.length:=pL.length_le
def Jn{s:ak}:last<=(pG s row key last fl).2.1/\(pG s row key last fl).2.1<=last+1/\(pG s row key last fl).2.2.length<=fl.length+1:=by
 unfold pG
 split
 .grind
 .split
  .grind
  .exact⟨by simp only;omega,Int.le_refl _,D7⟩
def IQ{s:ak}:(AM s row key fl).2.length<=fl.length:=by
 unfold AM
 split
 .exact g_9 _
 .split
  .exact g_9 _
  .exact z8
def IP{s:ak}:last<=(ve s row key wth last fl).2.1/\(ve s row key wth last fl).2.1<=last+1/\(ve s row key wth last fl).2.2.length<=fl.length+1:=by
 unfold ve
 split
 .grind
 .split
  .grind
  .split
   .grind
   .split
    .grind
    .refine⟨by simp only;omega,Int.le_refl _,?_⟩
     have h1:=z8 (s:=s) (l:=fl) (e:=by assumption)
     exact v_1 D7 (Nat.succ_le_succ z8)
def tB(x:Act):Bool:=kf x.Row&&kf x.uj
def Nx(s:ak)(l:List Act):Bool:=l.all tB&&decide (l.length<=80)&&decide (s.aq.length<=20)&&decide (s.Down.length<=20)
def JG(s:ak)(l:List Act): ∃b,Ev (λf=>w5 f s l) b/\(b=true->Nx s l=true):=by
 have L: ∀(d k:Nat),k+d=min l.length 80-> ∃out,gT (λf=>lK f l) (k:Int) out/\(out=.inr false\/out=.inl ()/\ ∀j x,k<=j->j<min l.length 80->l[j]? =some x->tB x=true):=by
  intro d
  induction d with
  |zero=>
   intro k hk
   refine⟨.inl (),.stop ?_,.inr ⟨rfl,λj x h1 h2=>by omega⟩⟩
   unfold lK
   refine .f ?_ (.pure _)
   grind
  |succ d ih=>
   intro k hk
   have k1:k<l.length:=by omega
   have R:=IM [l[k].Row,l[k].uj] ψ
   have pre: ∀{x},Ev (λf=>bif (!([l[k].Row,l[k].uj].all kf))then some (Sum.inr (.inr false))else some (.inl ((k+1:Nat):Int))) x->Ev (λf=>lK f l (k:Int)) x:=λhE=>by
    unfold lK
    refine .t (by rw[eO k1];simp;omega)<|.ae (aw k1)<|.ae (aw k1) ?_
    rw[cZ ω]
    exact .bind R hE
   cases hc:[l[k].Row,l[k].uj].all kf with
   |false=>exact⟨.inr false,.stop (pre (.t (by rw[hc];rfl) (.pure _))),.inl rfl⟩
   |true=>
    obtain⟨out,e1,e2⟩:=ih (k+1) ω
    refine⟨out,.next (pre (.f (by rw[hc];rfl) (.pure _))) e1,e2.imp id λ⟨h1,h2⟩=>⟨h1,λj x g1 g2 g3=>?_⟩⟩
    by_cases hj:j=k
    .subst hj
     rw[h_7 k1]at g3;cases g3
     simpa[tB]using hc
    .exact h2 j x ω g2 g3
 obtain⟨out,e1,e2⟩:=L (min l.length 80) 0 ω
 unfold w5
 rcases e2 with rfl|⟨rfl,e2⟩
 .exact⟨false,.bind e1.ev (.pure _),λh=>by cases h⟩
 .refine⟨(bif decide ((l.length:Int)<=80)then bif decide ((s.aq.length:Int)<=20)then decide ((s.Down.length:Int)<=20)else false else false),.bind e1.ev ?_,λh=>?_⟩
  .by_cases h1:(l.length:Int)<=80
   .by_cases h2:(s.aq.length:Int)<=20
    .simp only[w_5,h1,h2,decide_true,cond_true];exact .pure _
    .simp only[w_5,h1,h2,decide_true,decide_false,cond_true,cond_false];exact .pure _
   .simp only[w_5,h1,decide_false,cond_false];exact .pure _
  .by_cases h1:(l.length:Int)<=80
   .by_cases h2:(s.aq.length:Int)<=20
    .simp only[h1,h2,decide_true,cond_true,decide_eq_true_eq]at h
     simp only[Nx,g_3,decide_eq_true_eq,h_2]
     refine⟨⟨⟨λx hx=>?_,ω⟩,ω⟩,ω⟩
     obtain⟨j,hj,rfl⟩:=List.getElem_of_mem hx
     exact e2 j _ (v_3 _) ω (h_7 hj)
    .simp[h1,h2]at h
   .simp[h1]at h
def yt(h:kf r=true):r.length<1000:=by
 simp only[kf,g_3,decide_eq_true_eq]at h
 omega
def TI.OV{s:ak}{o:Nat}(h:TI s o last l a H tr)(h1:H'[tr]? =H[tr]?)(h2: ∀j∈a.ft l,H'[j]? =H[j]?):TI s o last l a H' tr:=
 {h with obj:=by rw[h1];exact h.obj,hd:=h.hd.fr h2}
section
variable {s:ak} {o:Nat} {acts:List Act}
def pS(s:ak)(o:Int)(tr:Nat)(fl:List Entry)(last:Int)(i:Nat)(H:Hp):(List Int)×(List Bool)×Int×(Option Nat)×Int×Int×Int×Bool×Bool×(Option Nat)×(List Int)×(List Bool)×Int×Int×(List Entry)×Int×Bool×Bool×Int×Hp:=
 (s.aq,s.Down,s.cW,none,0,0,0,false,false,some tr,s.aq,s.Down,s.cW,o,fl,last,true,true,(i:Int),H)
structure PL(s:ak)(o:Nat)(i:Nat)(last:Int)(fl:List Entry)(l:Nat)(a:AT)(H:Hp)(tr:Nat):Prop where
 ti:TI s o last l a H tr
 ef:a.fl l=fl
 h0:0<=last
 h1:last<=(i:Nat)
 hl:fl.length<=i
def PL.F(P:PL s o i last fl l a H tr):FL s last fl:=⟨by rw[<-P.ef];exact P.ti.g,by rw[<-P.ef];exact P.ti.wj⟩
def IF(S:SI s o)(P:PL s o i last fl l a H tr)(hi:i<acts.length)(h80:acts.length<=80)(hs:tB acts[i]=true):
  ∃tr' last' fl' l' a' H',Ev (λf=>kr f (o:Int) acts (pS s o tr fl last i H)) (.inl (pS s o tr' fl' last' (i+1) H'))/\PL s o (i+1) last' fl' l' a' H' tr':=by
 have h0:=P.h0
 have h1:=P.h1
 have hl:=P.hl
 simp only[tB,g_3]at hs
 have hr:=yt hs.1
 have hw:=yt hs.2
 have hfl:=P.ef
 have hlen:(a.fl l).length<100:=by rw[hfl];omega
 have wi:IntKind.wrap .i64 ((i:Int)+1)=((i+1:Nat):Int):=cZ ω
 have go:(((decide ((i:Int)<(acts.length:Int)))&&true)&&true)=true:=by rw[eO hi];rfl
 generalize hx:acts[i]=x at hs hr hw
 have ix:idx acts (i:Int)=some x:=by rw[aw hi,hx]
 have R1:=λkey=>wG S P.F (row:=x.Row) (key:=key) hr h0 ω ω
 have fin: ∀{last':Int} {l':Nat} {a':AT} {H':Hp} {fl':List Entry},TI s o last' l' a' H' tr->a'.fl l'=fl'->last<=last'->last'<=last+1->fl'.length<=fl.length+1-> ∃H'',Ev (λf=>iF f tr (⟨s,o,fl',last'⟩:Tree) H') (true,H'')/\PL s o (i+1) last' fl' l' a' H'' tr:=by
  intro last' l' a' H' fl' T hf e1 e2 e3
  obtain⟨H'',E,T'⟩:=ug S T ω (by rw[hf];omega)
  rw[hf]at E
  exact⟨H'',E,T',hf,ω,ω,ω⟩
 unfold kr pS
 dsimp only
 by_cases k0:(x.Kind==0)=true
 .obtain⟨l',a',H',E,T,F,M⟩:=we S P.ti (row:=x.Row) (key:=x.Key) hr h0 ω ω
  rw[hfl]at E T F
  obtain⟨b1,b2,b3⟩:=Jn (s:=s) (row:=x.Row) (key:=x.Key) (last:=last) (fl:=fl)
  obtain⟨H'',G,Q⟩:=fin T F b1 b2 b3
  refine⟨tr,_,_,l',a',H'',.t go<|.ae ix<|.t k0<|.ae rfl<|.bind E<|.bind (R1 x.Key)<|.t ψ<|.ae rfl<|.bind G ?_,Q⟩
  rw[wi]
  exact .pure _
 have k0:(x.Kind==0)=false:=by simpa using k0
 by_cases k1:(x.Kind==1)=true
 .obtain⟨l',a',H',E,T,F,M⟩:=Cq S P.ti (row:=x.Row) (key:=x.Key) hr ω
  rw[hfl]at E F
  have b3:=IQ (s:=s) (row:=x.Row) (key:=x.Key) (fl:=fl)
  obtain⟨H'',G,Q⟩:=fin T F (Int.le_refl _) ω ω
  refine⟨tr,_,_,l',a',H'',.t go<|.ae ix<|.f k0<|.t k1<|.ae rfl<|.bind E<|.bind (CE S P.F hr ω)<|.t ψ<|.ae rfl<|.bind G ?_,Q⟩
  rw[wi]
  exact .pure _
 have k1:(x.Kind==1)=false:=by simpa using k1
 by_cases k2:(x.Kind==2)=true
 .obtain⟨l',a',H',E,T,F,M⟩:=EW S P.ti (row:=x.Row) (key:=x.Key) (wth:=x.uj) hr hw h0 ω ω
  rw[hfl]at E T F
  obtain⟨b1,b2,b3⟩:=IP (s:=s) (row:=x.Row) (wth:=x.uj) (key:=x.Key) (last:=last) (fl:=fl)
  obtain⟨H'',G,Q⟩:=fin T F b1 b2 b3
  refine⟨tr,_,_,l',a',H'',.t go<|.ae ix<|.f k0<|.f k1<|.t k2<|.ae rfl<|.bind E<|.bind (E5 S P.F hr hw h0 ω ω)<|.t ψ<|.ae rfl<|.bind G ?_,Q⟩
  rw[wi]
  exact .pure _
 have k2:(x.Kind==2)=false:=by simpa using k2
 by_cases k3:(x.Kind==3)=true
 .obtain⟨t,a',H1,E,T,F,f1,f2,f3,f4⟩:=HE S P.ti h0 ω
  obtain⟨l2,a2,H2,E2,T2,F2,M2⟩:=we S (P.ti.fr f1) (row:=x.Row) (key:=1) hr h0 ω ω
  have htr:=(g_5.1 P.ti.obj).1
  have hold:=P.ti.hd.lt
  have T':TI s o last l a' H2 t:=T.OV (M2.fr t (g_5.1 T.obj).1 ω λh=>by have:=hold t h;omega) λj hj=>M2.fr j (T.hd.lt j hj) (by have:=f3 j hj;omega) λh=>by
   grind
  obtain⟨H'',G,Q⟩:=ug S T' h0 (by rw[F];omega)
  rw[F,hfl]at G
  refine⟨t,last,fl,l,a',H'',.t go<|.ae ix<|.f k0<|.f k1<|.f k2<|.t k3<|.ae rfl<|.bind E<|.bind E2<|.t rfl<|.ae rfl<|.bind G ?_,⟨Q,by rw[F,hfl],h0,ω,ω⟩⟩
  rw[wi]
  exact .pure _
 .have k3:(x.Kind==3)=false:=by simpa using k3
  obtain⟨q1,q2,q3,q4,q5⟩:=P.ti.GX S h0 ω
  obtain⟨a',H1,E,T,F,f1,f2,f3⟩:=Bb S P.ti h0 ω (H++[aD.hole,aD.hole])
  obtain⟨H'',G,Q⟩:=ug S T h0 (by rw[F];omega)
  rw[F,hfl]at G
  refine⟨_,last,fl,l,a',H'',.t go<|.ae ix<|.f k0<|.f k1<|.f k2<|.f k3<|.aP<|.ae rfl<|.bind (DX q3)<|.ae rfl<|.bind (tK q1 q3)<|.bind E<|.t rfl<|.t rfl<|.ae rfl<|.bind G ?_,⟨Q,by rw[F,hfl],h0,ω,ω⟩⟩
  rw[wi]
  exact .pure _
end
set_option maxRecDepth 100000
def IW(s:ak)(order:Int)(hk:s.aq.length<1000):Ev (λf=>yB f s order)
  (if oa s=true then(if 3<=order/\order<=32 then((⟨s,order,[],0⟩:Tree),0)else((⟨(⟨[],[],0⟩:ak),0,[],0⟩:Tree),7))else((⟨(⟨[],[],0⟩:ak),0,[],0⟩:Tree),1)):=by
 unfold yB
 refine .bind (yD s hk) ?_
 cases oa s with
 |false=>exact .t rfl (.pure _)
 |true=>
  refine .f rfl ?_
  by_cases hc:3<=order/\order<=32
  .rw[if_pos rfl,if_pos hc]
   exact .f χ (.pure _)
  .rw[if_pos rfl,if_neg hc]
   exact .t χ (.pure _)
section
variable {s:ak} {order:Int} {acts:List Act}
structure PE(s:ak)(o l:Nat)(a:AT)(last:Int)(H:Hp)(tr:Nat):Prop where
 si:SI s o
 ti:TI s o last l a H tr
 h0:0<=last
 h1:last<=80
 hl:(a.fl l).length<=80
def DV(S:SI s o)(h80:acts.length<=80)(hs:acts.all tB=true): ∀(d i:Nat) {l tr:Nat} {last:Int} {fl:List Entry} {a:AT} {H:Hp},i+d=acts.length->PL s o i last fl l a H tr->
  ∃tr' last' l' a' H',gT (λf=>kr f (o:Int) acts) (pS s o tr fl last i H) (none,0,0,0,false,false,some tr',s.aq,s.Down,s.cW,(o:Int),a'.fl l',last',true,true,H')/\PE s o l' a' last' H' tr'
 |0,i,l,tr,last,fl,a,H,hi,P=>by
  refine⟨tr,last,l,a,H,.stop ?_,⟨S,P.ti,P.h0,by have:=P.h1;omega,by rw[P.ef];have:=P.hl;omega⟩⟩
  unfold kr pS
  dsimp only
  rw[P.ef]
  exact .f φ (.pure _)
 |d+1,i,l,tr,last,fl,a,H,hi,P=>by
  have hil:i<acts.length:=by omega
  obtain⟨tr1,last1,fl1,l1,a1,H1,E,P1⟩:=IF S P hil h80 (h_2.1 hs _ (j_2 hil))
  obtain⟨tr',last',l',a',H',E2,Q⟩:=DV S h80 hs d (i+1) ω P1
  exact⟨tr',last',l',a',H',.next E E2,Q⟩
def IZ(hA:Nx s acts=true): ∃t r ok H',Ev (λf=>tU f s order acts []) ((⟨t,r,true,ok⟩:Kr),H')/\(ok=true-> ∃(o l:Nat) (a:AT) (last:Int) (tr:Nat),(o:Int)=order/\t=some tr/\r=(⟨s,o,a.fl l,last⟩:Tree)/\PE s o l a last H' tr):=by
 simp only[Nx,g_3,decide_eq_true_eq]at hA
 obtain⟨⟨⟨hs,h80⟩,hk⟩,hd⟩:=hA
 have N:=Dz s order [] ω ω
 have R:=IW s order ω
 by_cases hv:oa s=true/\3<=order/\order<=32
 .obtain⟨h1,h2⟩:=hv
  rw[if_pos h1,if_pos h2]at N R
  obtain⟨o,rfl⟩: ∃o:Nat,(o:Int)=order:=⟨order.toNat,ω⟩
  have S:SI s o:=⟨h1,ω,ω⟩
  have P:PL s o 0 0 [] 0 (.nd 0 [] []) (([]++[cz [] []])++[gZ s o (some 0) 0 0]) 1:=
   ⟨⟨rfl,⟨rfl,rfl⟩,trivial,v_3 _,λh=>absurd rfl h,by simp[AT.ft],λx hx=>by simp[AT.fl]at hx,List.Pairwise.nil,List.Pairwise.nil⟩,rfl,Int.le_refl _,Int.le_refl _,v_3 _⟩
  obtain⟨tr',last',l',a',H',E,Q⟩:=DV S h80 hs acts.length 0 ω P
  refine⟨some tr',⟨s,o,a'.fl l',last'⟩,true,H',?_,λ_=>⟨o,l',a',last',tr',rfl,rfl,rfl,Q⟩⟩
  unfold tU
  exact .bind N<|.bind R<|.bind E.ev (.pure _)
 .have hbad: ∃c:Int,c≠0/\Ev (λf=>ux f s order []) ((none,c),[])/\Ev (λf=>yB f s order) ((⟨(⟨[],[],0⟩:ak),0,[],0⟩:Tree),c):=by
   grind
  obtain⟨c,hc,N,R⟩:=hbad
  refine⟨none,⟨⟨[],[],0⟩,0,[],0⟩,false,[],?_,λh=>by cases h⟩
  unfold tU
  refine .bind N<|.bind R<|.bind (a:=(none,0,0,0,false,false,none,[],[],0,0,[],0,true,false,[])) (gT.ev (.stop ?_)) (.pure _)
  unfold kr
  dsimp only
  have h0:(c==0)=false:=by simpa using hc
  rw[h0,beq_self_eq_true]
  exact .f ψ (.pure _)
end
set_option maxRecDepth 100000
def Hu{o:Nat}{H:Hp}(hm:1<=m): ∀(l:Nat) (a:AT),a.hd H l->a.bl m o l->m<=a.es.length->m ^ l<=(a.fl l).length
 |0,.nd i es ks,h,b,c=>by simp only[AT.es]at c;simp only[AT.fl,Nat.pow_zero];omega
 |l+1,.nd i es ks,h,b,c=>by
  have hk:=h.1
  have K: ∀(es:List Entry) (ks:List AT),es.length=ks.length->(∀k∈ks,m ^ l<=(k.fl l).length)->ks.length * m ^ l<=(ws es (ks.map (AT.fl l))).length:=by
   intro es ks
   induction ks generalizing es with
   |nil=>simp
   |cons k ks ih=>
    intro h1 h2
    match es,h1 with
    |e::es,h1=>
     have h3:=ih es (by simpa using h1) λq hq=>h2 q (by simp[hq])
     have h4:=h2 k ψ
     simp only[h_3,ws,j_1,h_5,q_6]
     omega
  have hK: ∀k∈ks,m ^ l<=(k.fl l).length:=λk hk=>Hu hm l k (h.2.2 k hk) (b k hk).2.2 (b k hk).1
  match ks,hk,hK with
  |k::ks,hk,hK=>
   have h1:=K es ks (by simpa using hk.symm) λq hq=>hK q (by simp[hq])
   have h2:=hK k ψ
   simp only[AT.es,j_1]at c hk
   show m ^ l * m<=(k.fl l++ws es (ks.map (AT.fl l))).length
   rw[h_5,Nat.mul_comm]
   have:m * m ^ l<=ks.length * m ^ l:=h_8 _ ω
   omega
def Lh{s:ak}{o l tr:Nat}{last:Int}{a:AT}{H:Hp}(hm:1<=o / 2)(h:TI s o last (l+1) a H tr):(o / 2) ^ l<(a.fl (l+1)).length:=by
 have hd:=h.hd
 have bl:=h.bl
 have one:=h.one ω
 match a,hd,bl,one with
 |.nd i es ks,hd,bl,one=>
  have hk:=hd.1
  simp only[AT.es]at one
  match ks,hk,hd,bl with
  |k::q::ks,hk,hd,bl=>
   have h1:=Hu hm l k (hd.2.2 k ψ) (bl k ψ).2.2 (bl k ψ).1
   match es,one with
   |e::es,_=>
    show _<(k.fl l++(e::_)).length
    simp only[h_5,j_1]
    omega
  |[k],hk,_,_=>simp only[j_1,v_2]at hk;omega
def DR{r:Kr×Hp}(hm:2<=m)(hm2:m<=16)(hp:Int.tdiv p 2=(m:Nat))(hr:r.1.r.du.length<=80):
  ∀(d k:Nat),80<=d+m ^ k->m ^ k<=2000->k<=80-> ∃j,k<=j/\r.1.r.du.length<=m ^ j/\gT (λf=>fK f p r) ((2+k:Nat),(m ^ k:Nat)) ((2+j:Nat):Int)
 |d,k,h1,h2,h3=>by
  by_cases hc:r.1.r.du.length<=m ^ k
  .refine⟨k,g_9 _,hc,.stop ?_⟩
   unfold fK
   exact .f (by simp only[decide_eq_false_iff_not];omega) (.pure _)
  .match d,h1 with
   |0,h1=>omega
   |d+1,h1=>
    have hpow:m ^ (k+1)=m ^ k * m:=Nat.pow_succ ..
    have hpos:1<=m ^ k:=Nat.one_le_pow _ _ ω
    have h4:m ^ k * 2<=m ^ (k+1):=by rw[hpow];exact Nat.mul_le_mul_left _ hm
    have h5:m ^ (k+1)<=m ^ k * 16:=by rw[hpow];exact Nat.mul_le_mul_left _ hm2
    have hk:k<m ^ k:=Nat.lt_pow_self ω
    obtain⟨j,g1,g2,g3⟩:=DR hm hm2 hp hr d (k+1) ω ω ω
    refine⟨j,ω,g2,.next ?_ g3⟩
    unfold fK
    refine .t (by simp only[decide_eq_true_eq];omega) ?_
    rw[hp,cC ω ω,cC (x:=(m:Int)) ω ω,show((m ^ k:Nat):Int) * (m:Nat)=((m ^ (k+1):Nat):Int)by rw[hpow];exact(Int.natCast_mul ..).symm,cC ω ω]
    exact .pure _
def xM(s:ak)(order:Int)(acts:List Act):Ev (λf=>lA f s order acts) true:=by
 obtain⟨b,A,hb⟩:=JG s acts
 unfold lA
 refine .bind A ?_
 cases b with
 |false=>exact .t rfl<|.bind sY (.pure _)
 |true=>
  by_cases h4:order<4
  .exact .t (by simpa using h4)<|.bind sY (.pure _)
  refine .f (by simpa using h4) ?_
  obtain⟨t,r,ok,H',E,PP⟩:=IZ (order:=order) (hb rfl)
  refine .bind E ?_
  cases ok with
  |false=>exact .t rfl<|.t (g:=λ_=>some false) rfl<|.bind sY (.pure _)
  |true=>
   obtain⟨o,l,a,last,tr,ho,ht,hr,P⟩:=PP rfl
   subst ht hr
   refine .f rfl ?_
   have GP:=P.si.GP
   obtain⟨q1,q2,q3,q4,q5⟩:=P.ti.GX P.si P.h0 (by have:=P.hl;omega)
   obtain⟨j,g1,g2,g3⟩:=DR (m:=o / 2) (p:=order) (r:=((⟨some tr,⟨s,o,a.fl l,last⟩,true,true⟩:Kr),H')) ω ω (by rw[<-ho];exact Int.tdiv_eq_ediv_of_nonneg ω) P.hl 80 0 ψ ψ ω
   refine .bind g3.ev<|.ae rfl<|.bind (ru q1 q3) ?_
   refine .t ?_<|.bind sY (.pure _)
   simp only[decide_eq_true_eq]
   cases l with
   |zero=>omega
   |succ l=>
    have h1:=Lh ω P.ti
    have h2:(o / 2) ^ l<(o / 2) ^ j:=Nat.lt_of_lt_of_le h1 g2
    have:=(Nat.pow_lt_pow_iff_right (show 1<o / 2 by omega)).1 h2
    omega
end Go.Sh
