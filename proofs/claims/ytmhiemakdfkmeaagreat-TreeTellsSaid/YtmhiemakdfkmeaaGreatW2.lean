/- Plain laws: what the functions tell. -/
import Derived.Test.YtmhiemakdfkmeaaGreatW1
set_option linter.all false
set_option autoImplicit true
set_option relaxedAutoImplicit true
namespace Go.Sh
set_option maxRecDepth 100000
section
variable {s:ay} {order last cnt:Int} {root:Option Nat} {tr o:Nat} {H:Hp}
def tY(h:H[tr]? =some (kx s order root last cnt))(ho:(o:Int)=order)(h32:o<=32):Ev (λf=>dA f tr H) ((o / 2:Nat):Int):=by
 unfold dA
 refine .af (u7 h) ?_
 rw[<-ho,show Int.tdiv (o:Int) 2=((o / 2:Nat):Int)by grind,dq ω ω]
 exact .pure _
def A8{β:Type}{b:Nat->Bool->Option β}{r:β}{c:Bool}{i n:Nat}{is:List (Option Nat)}{es:List Entry}(hT:H[tr]? =some (kx s order root last cnt))(ho:(o:Int)=order)(h32:o<=32)
  (hi:H[i]? =some (dM es is)) (hn:n<1000) (hc:(n=0/\c=false)\/ ∃n' j E K,n=n'+1/\is[n']? =some (some j)/\H[j]? =some (dM E K)/\c=decide (o / 2<E.length)) (h:Ev (λf=>b f c) r):
  Ev (λfuel=>bp (b fuel) λjp4=>bif (decide ((n:Int)>0))then
   (bG 1 cP H i 1).bind λx5=>(idx x5 (IntKind.wrap .i64 ((n:Int) - 1))).bind λx6=>x6.bind λi7=>(bG 3 aM H i7 0).bind λx8=>(dA fuel tr H).bind λr9=>jp4 (decide ((x8.length:Int)>r9))
   else jp4 false) r:=by
 refine .bp ?_
 rcases hc with⟨rfl,rfl⟩|⟨n',j,E,K,rfl,h1,h2,rfl⟩
 .exact .f rfl h
 .refine .t ψ<|.af (dK hi) ?_
  rw[dq ω ω,show((n'+1:Nat):Int) - 1=(n':Int)by omega]
  refine .af (eZ h1)<|.af rfl<|.af (dL h2)<|.bind (tY hT ho h32) ?_
  have:decide ((E.length:Int)>((o / 2:Nat):Int))=decide (o / 2<E.length):=decide_eq_decide.2 ω
  rw[this]
  exact h
def F8{β:Type}{b:Nat->Bool->Option β}{r:β}(hT:H[tr]? =some (kx s order root last cnt))(ho:(o:Int)=order)(h32:o<=32)
  (hi:H[i]? =some (dM es is)) (hn:n<1000) (hc:(is.length=n+1/\c=false)\/ ∃j E K,n+1<is.length/\is[n+1]? =some (some j)/\H[j]? =some (dM E K)/\c=decide (o / 2<E.length)) (h:Ev (λf=>b f c) r):
  Ev (λfuel=>bp (b fuel) λjp50=>(bG 1 cP H i 1).bind λx51=>bif (decide ((IntKind.wrap .i64 ((n:Int)+1))<(x51.length:Int)))then
    (bG 1 cP H i 1).bind λx52=>(idx x52 (IntKind.wrap .i64 ((n:Int)+1))).bind λx53=>x53.bind λi54=>(bG 3 aM H i54 0).bind λx55=>(dA fuel tr H).bind λr56=>jp50 (decide ((x55.length:Int)>r56))
   else jp50 false) r:=by
 rw[eu ω]
 refine .bp<|.af (dK hi) ?_
 rcases hc with⟨h1,rfl⟩|⟨j,E,K,h0,h1,h2,rfl⟩
 .exact .f (oF ω) h
 .refine .t (gw h0)<|.af (dK hi)<|.af (eZ h1)<|.af rfl<|.af (dL h2)<|.bind (tY hT ho h32) ?_
  have:decide ((E.length:Int)>((o / 2:Nat):Int))=decide (o / 2<E.length):=decide_eq_decide.2 ω
  rw[this]
  exact h
def NF{i j k:Nat}{A B L E:List Entry}{x y:Entry}{is KL Q K:List (Option Nat)}(hT:H[tr]? =some (kx s order root last cnt))(ho:(o:Int)=order)(h32:o<=32)(T:Ab H H i j k (dM (A++x::B) is) (dM (L++[y]) (KL++Q)) (dM E K))
  (hj:is[A.length]? =some (some j)) (hk:is[A.length+1]? =some (some k)) (hs:(Q=[]/\KL=[]/\K=[])\/ ∃q,Q=[some q]/\K≠[]/\KL.length=L.length+1) (hm:o / 2<(L++[y]).length)
  (b1:(A++x::B).length<900) (b2:L.length<900) (b3:E.length<900) (b4:K.length<900):
  ∃H',Ev (λf=>eU f tr i ((A.length+1:Nat):Int) H) ((),H')/\Ab H H' i j k (dM (A++y::B) is) (dM L KL) (dM (x::E) (Q++K)):=by
 have hA:A.length<(A++x::B).length:=by simp
 have hx:(A++x::B)[A.length]=x:=by simp
 have w1:IntKind.wrap .i64 (((A.length+1:Nat):Int) - 1)=(A.length:Int):=by rw[dq ω ω];omega
 have w2:IntKind.wrap .i64 (((L++[y]).length:Int) - 1)=(L.length:Int):=by rw[dq (by simp<;>omega) (by simp<;>omega)];simp
 have iA:idx (A++x::B) (A.length:Int)=some x:=by rw[aN hA,hx]
 have iL:idx (L++[y]) (L.length:Int)=some y:=by rw[aN ψ];simp
 have i0: ∀f,fu f E 0 [x]=some (x::E):=λf=>BD (A:=[]) f χ
 have p0: ∀f,∀q,dh f K 0 [q]=some (q::K):=λf q=>Gx (A:=[]) f χ
 have st:(A++x::B).set (A.length:Int).toNat y=A++y::B:=by simp
 have tl:(L++[y]).take (L.length:Int).toNat=L:=by simp
 have T1:=T.s3 (P4 K)
 have T2:=T1.s3 (dM (x::E) K)
 have T3:=T2.s1 (P4 is)
 have T4:=T3.s1 (dM (A++y::B) is)
 have T5:=T4.s2 (P4 (KL++Q))
 have T6:=T5.s2 (dM L (KL++Q))
 have g2:=(congrArg (cz 3 aM _ i 0) st).trans (jH T3.ai)
 have g3:=(congrArg (cz 3 aM _ j 0) tl).trans (jH T5.bj)
 refine Exists.imp (p:=λH'=>Ev ?F ((),H')/\Ab H H' i j k (dM (A++y::B) is) (dM L KL) (dM (x::E) (Q++K))) (λH' h=>⟨?_,h.2⟩) ?_
 case refine_1=>
  unfold eU
  refine .af (dK T.ai)<|.af (eZ hk)<|A8 (c:=true) hT ho h32 T.ai (by simp at b1;omega) (.inr ⟨_,_,_,_,rfl,hj,T.bj,by simpa using hm⟩)<|.t rfl<|.af (dK T.ai) ?_
  simp only[w1]
  refine .af (eZ hj)<|.af rfl<|.af (dL T.bj) ?_
  simp only[w2]
  refine .af rfl<|.af (jG T.ck)<|.af (dL T.ai)<|.af iA<|.bind (.of i0)<|.af rfl<|.af (jH T1.ck)<|.af rfl<|.af (jG T2.ai)<|.af (dL T2.bj)<|.af iL<|.af iA<|
   .et ψ<|.af g2<|.af rfl<|.af (jG T4.bj)<|.et (oL ψ)<|.af rfl<|.af g3<|.bp<|.af rfl ?_
  exact h.1
 rcases hs with⟨rfl,rfl,rfl⟩|⟨q,rfl,hK,hKL⟩
 .exact⟨_,.bind (eo T6.ck)<|.f rfl (.pure _),T6⟩
 .have T7:=T6.s3 (Rz (x::E))
  have T8:=T7.s3 (dM (x::E) (some q::K))
  have T9:=T8.s2 (Rz L)
  have T10:=T9.s2 (dM L KL)
  have w3:IntKind.wrap .i64 ((L.length:Int)+1)=((L.length+1:Nat):Int):=eu ω
  have iq:idx (KL++[some q]) ((L.length+1:Nat):Int)=some (some q):=eZ (by rw[<-hKL];simp)
  have g4:=(congrArg (cz 1 cP _ j 1) (show(KL++[some q]).take ((L.length+1:Nat):Int).toNat=KL by simp_all)).trans (qA T9.bj)
  refine⟨_,.bind (eo T6.ck)<|.t (by simp[hK])<|.af rfl<|.af (qz T6.ck)<|.af (dK T6.bj) ?_,T10⟩
  simp only[w3]
  exact .af iq<|.af rfl<|.bind (.of λn=>p0 n _)<|.af (qA T7.ck)<|.af rfl<|.af (qz T8.bj)<|.et (oL (show _<=(KL++[some q]).length by simp;omega))<|.af rfl<|.af g4 (.pure _)
def ND{i j k n:Nat}{A B R E:List Entry}{x y:Entry}{is KR Q K:List (Option Nat)}(hT:H[tr]? =some (kx s order root last cnt))(ho:(o:Int)=order)(h32:o<=32)(T:Ab H H i j k (dM (A++x::B) is) (dM E K) (dM (y::R) (Q++KR)))
  (hn:n=A.length) (hj:is[n]? =some (some j)) (hk:is[n+1]? =some (some k)) (hs:(Q=[]/\KR=[]/\K=[])\/ ∃q,Q=[some q]/\K≠[]) (hm:o / 2<(y::R).length)
  (hc:(n=0/\false=false)\/ ∃n' j E K,n=n'+1/\is[n']? =some (some j)/\H[j]? =some (dM E K)/\false=decide (o / 2<E.length))
  (b1:(A++x::B).length<900) (b2:(y::R).length<900) (b3:E.length<900) (b4:K.length<900) (b5:KR.length<900):
  ∃H',Ev (λf=>eU f tr i (n:Int) H) ((),H')/\Ab H H' i j k (dM (A++y::B) is) (dM (E++[x]) (K++Q)) (dM R KR):=by
 have hA:n<(A++x::B).length:=by simp[hn]
 have hx:(A++x::B)[n]=x:=by simp[hn]
 have iA:idx (A++x::B) (n:Int)=some x:=by rw[aN hA,hx]
 have iR:idx (y::R) 0=some y:=rfl
 have d0: ∀f,fv f (y::R) 0 1=some R:=λf=>BQ (A:=[]) f (by simp at b2 ⊢;omega)
 have w1:IntKind.wrap .i64 ((n:Int)+1)=((n+1:Nat):Int):=eu ω
 have st:(A++x::B).set (n:Int).toNat y=A++y::B:=by simp[hn]
 have T1:=T.s2 (P4 K)
 have T2:=T1.s2 (dM (E++[x]) K)
 have T3:=T2.s1 (P4 is)
 have T4:=T3.s1 (dM (A++y::B) is)
 have T5:=T4.s3 (P4 (Q++KR))
 have T6:=T5.s3 (dM R (Q++KR))
 have g2:=(congrArg (cz 3 aM _ i 0) st).trans (jH T3.ai)
 have hlk:n+1<is.length:=(g_5.1 hk).1
 refine Exists.imp (p:=λH'=>Ev ?F ((),H')/\Ab H H' i j k (dM (A++y::B) is) (dM (E++[x]) (K++Q)) (dM R KR)) (λH' h=>⟨?_,h.2⟩) ?_
 case refine_1=>
  unfold eU
  refine .af (dK T.ai)<|.af (eZ hj)<|A8 (c:=false) hT ho h32 T.ai ω hc<|.f rfl<|
   F8 (c:=true) hT ho h32 T.ai ω (.inr ⟨_,_,_,hlk,hk,T.ck,by simpa using hm⟩)<|.t rfl<|.af (dK T.ai) ?_
  simp only[w1]
  refine .af (eZ hk)<|.af rfl<|.af (jG T.bj)<|.af (dL T.ai)<|.af iA<|.et (decide_eq_true (show _<=16777216 by simp;omega))<|.af rfl<|.af (jH T1.bj)<|.af rfl<|.af (jG T2.ai)<|
   .af (dL T2.ck)<|.af iR<|.af iA<|.et (by simpa using hA)<|.af g2<|.af rfl<|.af (jG T4.ck)<|.bind (.of d0)<|.af rfl<|.af (jH T5.ck)<|.bp<|.af rfl ?_
  exact h.1
 rcases hs with⟨rfl,rfl,rfl⟩|⟨q,rfl,hK⟩
 .exact⟨_,.bind (eo T6.bj)<|.f rfl (.pure _),T6⟩
 .have T7:=T6.s2 (Rz (E++[x]))
  have T8:=T7.s2 (dM (E++[x]) (K++[some q]))
  have T9:=T8.s3 (Rz R)
  have T10:=T9.s3 (dM R KR)
  have d1: ∀f,dF f ([some q]++KR) 0 1=some KR:=λf=>GW (A:=[]) f χ
  exact⟨_,.bind (eo T6.bj)<|.t (by simp[hK])<|.af rfl<|.af (qz T6.bj)<|.af (dK T6.ck)<|.af (show idx ([some q]++KR) 0=some (some q)from rfl)<|.af rfl<|.et (decide_eq_true (show _<=16777216 by simp;omega))<|
   .af (qA T7.bj)<|.af rfl<|.af (qz T8.ck)<|.bind (.of d1)<|.af rfl<|.af (qA T9.ck) (.pure _),T10⟩
def Ge{i j k n:Nat}{A B E1 E2:List Entry}{x:Entry}{C D K1 K2:List (Option Nat)}(hT:H[tr]? =some (kx s order root last cnt))(ho:(o:Int)=order)(h32:o<=32)
  (T:Ab H H i j k (dM (A++x::B) (C++some j::some k::D)) (dM E1 K1) (dM E2 K2)) (hC:C.length=A.length) (hn:n=A.length+1\/(n=0/\A=[]))
  (hq: ∃q,(C++some j::some k::D)[n]? =some (some q))
  (hc:(n=0/\false=false)\/ ∃n' j' E K,n=n'+1/\(C++some j::some k::D)[n']? =some (some j')/\H[j']? =some (dM E K)/\false=decide (o / 2<E.length))
  (hd:((C++some j::some k::D).length=n+1/\false=false)\/ ∃j' E K,n+1<(C++some j::some k::D).length/\(C++some j::some k::D)[n+1]? =some (some j')/\H[j']? =some (dM E K)/\false=decide (o / 2<E.length))
  (b1:(A++x::B).length<900) (b2:(E1++x::E2).length<900) (b3:(K1++K2).length<900) (b4:(C++some j::some k::D).length<900):
  ∃H',Ev (λf=>eU f tr i (n:Int) H) ((),H')/\Ab H H' i j k (dM (A++B) (C++some j::D)) (dM (E1++x::E2) (K1++K2)) (dM E2 K2):=by
 obtain⟨q,hq⟩:=hq
 have T1:=T.s2 (dM (E1++x::E2) K1)
 have T2:=T1.s2 (dM (E1++x::E2) (K1++K2))
 have T3:=T2.s1 (P4 (C++some j::some k::D))
 have T4:=T3.s1 (dM (A++B) (C++some j::some k::D))
 have T5:=T4.s1 (Rz (A++B))
 have T6:=T5.s1 (dM (A++B) (C++some j::D))
 have hx:(bif decide (0<(IntKind.wrap .i64 ((n:Int) - 1)))then(IntKind.wrap .i64 ((n:Int) - 1))else 0)=(A.length:Int):=by
  simp only[h_8,j_2]at b1
  rw[dq ω ω]
  grind
 have w1:IntKind.wrap .i64 ((A.length:Int)+1)=((A.length+1:Nat):Int):=eu (by simp at b1;omega)
 have w2:IntKind.wrap .i64 ((A.length:Int)+2)=((A.length+1+1:Nat):Int):=by simp at b1;rw[dq ω ω];omega
 have sx:sl (A++x::B) (A.length:Int) ((A.length+1:Nat):Int)=[x]:=by
  show List.drop A.length (List.take (A.length+1) (A++x::B))=[x]
  grind
 have okx:m7 (A++x::B) (A.length:Int) ((A.length+1:Nat):Int)=true:=by simp[m7];omega
 have ij:idx (C++some j::some k::D) (A.length:Int)=some (some j):=eZ (by rw[<-hC];simp)
 have ik:idx (C++some j::some k::D) ((A.length+1:Nat):Int)=some (some k):=eZ (by rw[<-hC];simp)
 have e1:[E1,[x],E2].flatten=E1++x::E2:=by simp
 have e2:[K1,K2].flatten=K1++K2:=by simp
 have c1:Ev (λf=>CA f [E1,[x],E2]) (E1++x::E2):=e1▸KA ψ (by rw[e1];omega)
 have c2:Ev (λf=>CA f [K1,K2]) (K1++K2):=e2▸KA ψ (by rw[e2];omega)
 have d2: ∀f,dF f (C++some j::some k::D) ((A.length+1:Nat):Int) ((A.length+1+1:Nat):Int)=some (C++some j::D):=λf=>by
  have:=GW (A:=C++[some j]) (B:=D) (e:=some k) f (by simp at b4 ⊢;omega)
  simpa[hC]using this
 refine⟨_,?_,T6⟩
 unfold eU
 refine .af (dK T.ai)<|.af (eZ hq)<|A8 (c:=false) hT ho h32 T.ai φ hc<|.f rfl<|F8 (c:=false) hT ho h32 T.ai φ hd<|.f rfl ?_
 simp only[hx,w1,w2]
 refine .af (dK T.ai)<|.af ij<|.af (dK T.ai)<|.af ik<|.af rfl<|.af rfl<|.af (dL T.bj)<|.af (dL T.ai)<|.et okx<|.af (dL T.ck) ?_
 rw[sx]
 exact .bind c1<|.af rfl<|.af (Lw T.bj)<|.af rfl<|.af rfl<|.af (dK T1.bj)<|.af (dK T1.ck)<|.bind c2<|.af rfl<|.af (Lv T1.bj)<|.af (jG T2.ai)<|.bind (.of λf=>BQ f ω)<|
  .af (jH T3.ai)<|.af (qz T4.ai)<|.bind (.of d2)<|.af (qA T5.ai) (.pure _)
end
set_option maxRecDepth 100000
def Q9{l j:Nat}(hs:kY l E K)(hg:g∈K)(hx:x∈g.ft (l - 1)):x∈AT.ft l (.nd j E K):=by
 cases l with
 |zero=>cases hs;simp at hg
 |succ l=>exact eK.2 (.inr ⟨g,hg,hx⟩)
def UD{l j:Nat}(hs:kY l E K)(hn:(AT.ft l (.nd j E K)).Nodup)(hg:g∈K):j∉g.ft (l - 1):=by
 cases l with
 |zero=>cases hs;simp at hg
 |succ l=>exact(Kg hn g hg).1
def N6{l j:Nat}(hx:x∈AT.ft l (.nd j E K)):x=j\/ ∃g∈K,x∈g.ft (l - 1):=by
 cases l with
 |zero=>left;simpa[AT.ft]using hx
 |succ l=>exact eK.1 hx
def Ab.bo{H H':Hp}{i j k:Nat}{a b c:aT}(T:Ab H H' i j k a b c){l:Nat}{g:AT}(h:g.hd H l)(h1:i∉g.ft l)(h2:j∉g.ft l)(h3:k∉g.ft l):g.hd H' l:=
 h.fr λx hx=>T.fr x (λe=>h1 (e▸hx)) (λe=>h2 (e▸hx)) (λe=>h3 (e▸hx))
section
variable {l i j k:Nat} {es E1 E2:List Entry} {C D K1 K2:List AT} {H:Hp}
def Al(hn:(AT.ft (l+1) (.nd i es (C++.nd j E1 K1::.nd k E2 K2::D))).Nodup):i≠j/\i≠k/\j≠k/\(∀q∈C++D,i∉q.ft l/\j∉q.ft l/\k∉q.ft l)/\
  (AT.ft l (.nd j E1 K1)).Nodup/\(AT.ft l (.nd k E2 K2)).Nodup/\(∀x∈AT.ft l (.nd j E1 K1),x≠i/\x∉AT.ft l (.nd k E2 K2))/\(∀x∈AT.ft l (.nd k E2 K2),x≠i):=by
 have h1:=vv hn
 have h2:=vv (C:=C++[.nd j E1 K1]) (k:=.nd k E2 K2) (D:=D) (l:=l) (i:=i) (es:=es) (by simpa using hn)
 have a1:j∈AT.ft l (.nd j E1 K1):=eR
 have a2:k∈AT.ft l (.nd k E2 K2):=eR
 grind
def FA{H':Hp}{a b c:aT}(hh:AT.hd H (l+1) (.nd i es (C++.nd j E1 K1::.nd k E2 K2::D)))(hn:(AT.ft (l+1) (.nd i es (C++.nd j E1 K1::.nd k E2 K2::D))).Nodup)(T:Ab H H' i j k a b c):
  (∀q∈C++D,q.hd H' l)/\ ∀g∈K1++K2,g.hd H' (l - 1):=by
 obtain⟨_,_,_,n1,n2,n3,n4,n5⟩:=Al hn
 have h1:=hh.2.2 (.nd j E1 K1) ψ
 have h2:=hh.2.2 (.nd k E2 K2) ψ
 refine⟨λq hq=>T.bo (hh.2.2 q (by simp at hq ⊢;grind)) (n1 q hq).1 (n1 q hq).2.1 (n1 q hq).2.2,λg hg=>?_⟩
 rcases k_7.1 hg with hg|hg
 .exact T.bo (h1.kids g hg) (λhx=>(n4 _ (Q9 h1.kY hg hx)).1 rfl) (UD h1.kY n2 hg) λhx=>(n4 _ (Q9 h1.kY hg hx)).2 eR
 .exact T.bo (h2.kids g hg) (λhx=>n5 _ (Q9 h2.kY hg hx) rfl) (λhx=>(n4 j eR).2 (Q9 h2.kY hg hx)) (UD h2.kY n3 hg)
def rj(x:Nat):x∈AT.ft (l+1) (.nd i es (C++.nd j E1 K1::.nd k E2 K2::D))<->x=i\/(∃q∈C++D,x∈q.ft l)\/x∈AT.ft l (.nd j E1 K1)\/x∈AT.ft l (.nd k E2 K2):=by
 rw[eK]
 grind
def MP(hh:AT.hd H (l+1) (.nd i es (C++.nd j E1 K1::.nd k E2 K2::D)))
  (hn:(AT.ft (l+1) (.nd i es (C++.nd j E1 K1::.nd k E2 K2::D))).Nodup)
  (T:Ab H H' i j k (dM es' ((C++.nd j E1' K1'::.nd k E2' K2'::D).map gN)) (dM E1' (K1'.map gN)) (dM E2' (K2'.map gN))) (hl:es'.length=es.length) (s1:kY l E1' K1') (s2:kY l E2' K2')
  (hK: ∀g,g∈K1'\/g∈K2'->g∈K1++K2) (b0: ∀q∈C++D,Qd (o / 2) o l q) (b1: ∀g∈K1++K2,Qd (o / 2) o (l - 1) g) (z1:o / 2<=E1'.length/\E1'.length<=o) (z2:o / 2<=E2'.length/\E2'.length<=o):
  PT s o (l+1) (.nd i es (C++.nd j E1 K1::.nd k E2 K2::D)) (.nd i es' (C++.nd j E1' K1'::.nd k E2' K2'::D)) H H':=by
 obtain⟨k1,k2⟩:=FA hh hn T
 have h1:=hh.2.2 (.nd j E1 K1) ψ
 have h2:=hh.2.2 (.nd k E2 K2) ψ
 have gx: ∀g∈K1++K2,∀x∈g.ft (l - 1),x∈AT.ft (l+1) (.nd i es (C++.nd j E1 K1::.nd k E2 K2::D)):=λg hg x hx=>by
  rw[rj]
  rcases k_7.1 hg with hg|hg
  .exact .inr (.inr (.inl (Q9 h1.kY hg hx)))
  .exact .inr (.inr (.inr (Q9 h2.kY hg hx)))
 refine⟨⟨?_,T.ai,λq hq=>?_⟩,λq hq=>?_,rfl,λx hx hx2=>?_,Nat.le_of_eq T.len.symm,λx hx=>.inl ?_⟩
 .have:=hh.1
  simp at this ⊢;omega
 .rcases(show q∈C++D\/q=.nd j E1' K1'\/q=.nd k E2' K2' by simp at hq ⊢;grind)with hq|rfl|rfl
  .exact k1 q hq
  .exact NS s1 T.bj λg hg=>k2 g (hK g (.inl hg))
  .exact NS s2 T.ck λg hg=>k2 g (hK g (.inr hg))
 .rcases(show q∈C++D\/q=.nd j E1' K1'\/q=.nd k E2' K2' by simp at hq ⊢;grind)with hq|rfl|rfl
  .exact b0 q hq
  .exact⟨z1.1,z1.2,(tq s1).2 λg hg=>b1 g (hK g (.inl hg))⟩
  .exact⟨z2.1,z2.2,(tq s2).2 λg hg=>b1 g (hK g (.inr hg))⟩
 .rw[rj]at hx2
  refine T.fr x (λe=>hx2 (.inl e)) (λe=>hx2 (.inr (.inr (.inl ?_)))) λe=>hx2 (.inr (.inr (.inr ?_)))
  .rw[e];exact eR
  .rw[e];exact eR
 .rw[rj]at hx
  rcases hx with hx|hx|hx|hx
  .exact(rj x).2 (.inl hx)
  .exact(rj x).2 (.inr (.inl hx))
  .rcases N6 hx with rfl|⟨g,hg,hx⟩
   .exact(rj x).2 (.inr (.inr (.inl eR)))
   .exact gx g (hK g (.inl hg)) x hx
  .rcases N6 hx with rfl|⟨g,hg,hx⟩
   .exact(rj x).2 (.inr (.inr (.inr eR)))
   .exact gx g (hK g (.inr hg)) x hx
def Nr(hh:AT.hd H (l+1) (.nd i es (C++.nd j E1 K1::.nd k E2 K2::D)))
  (hn:(AT.ft (l+1) (.nd i es (C++.nd j E1 K1::.nd k E2 K2::D))).Nodup)
  (T:Ab H H' i j k (dM es' ((C++.nd j E1' K1'::D).map gN)) (dM E1' (K1'.map gN)) c) (hl:es'.length+1=es.length) (s1:kY l E1' K1')
  (hK: ∀g∈K1',g∈K1++K2) (b0: ∀q∈C++D,Qd (o / 2) o l q) (b1: ∀g∈K1++K2,Qd (o / 2) o (l - 1) g) (z1:o / 2<=E1'.length/\E1'.length<=o):
  PT s o (l+1) (.nd i es (C++.nd j E1 K1::.nd k E2 K2::D)) (.nd i es' (C++.nd j E1' K1'::D)) H H':=by
 obtain⟨k1,k2⟩:=FA hh hn T
 have h1:=hh.2.2 (.nd j E1 K1) ψ
 have h2:=hh.2.2 (.nd k E2 K2) ψ
 refine⟨⟨?_,T.ai,λq hq=>?_⟩,λq hq=>?_,rfl,λx hx hx2=>?_,Nat.le_of_eq T.len.symm,λx hx=>.inl ?_⟩
 .have:=hh.1
  simp at this ⊢;omega
 .rcases(show q∈C++D\/q=.nd j E1' K1' by simp at hq ⊢;grind)with hq|rfl
  .exact k1 q hq
  .exact NS s1 T.bj λg hg=>k2 g (hK g hg)
 .rcases(show q∈C++D\/q=.nd j E1' K1' by simp at hq ⊢;grind)with hq|rfl
  .exact b0 q hq
  .exact⟨z1.1,z1.2,(tq s1).2 λg hg=>b1 g (hK g hg)⟩
 .rw[rj]at hx2
  refine T.fr x (λe=>hx2 (.inl e)) (λe=>hx2 (.inr (.inr (.inl ?_)))) λe=>hx2 (.inr (.inr (.inr ?_)))
  .rw[e];exact eR
  .rw[e];exact eR
 .rw[rj]
  rcases eK.1 hx with hx|⟨q,hq,hx⟩
  .exact .inl hx
  .rcases(show q∈C++D\/q=.nd j E1' K1' by simp at hq ⊢;grind)with hq|rfl
   .exact .inr (.inl ⟨q,hq,hx⟩)
   .rcases N6 hx with rfl|⟨g,hg,hx⟩
    .exact .inr (.inr (.inl eR))
    .rcases k_7.1 (hK g hg)with hg|hg
     .exact .inr (.inr (.inl (Q9 h1.kY hg hx)))
     .exact .inr (.inr (.inr (Q9 h2.kY hg hx)))
def xp(hA:A.length=C.length):AT.fl (l+1) (.nd i (A++x::B) (C++.nd j E1 K1::.nd k E2 K2::D))=
  wp A (C.map (AT.fl l))++(AT.fl l (.nd j E1 K1)++x::(AT.fl l (.nd k E2 K2)++ws B (D.map (AT.fl l)))):=by
 rw[ld hA]
 simp[ws]
end
set_option maxRecDepth 100000
section
variable {s:ay} {order last cnt:Int} {root:Option Nat} {tr o l i:Nat} {H:Hp}
def zS(hh:AT.hd H (l+1) (.nd i es ks))(hq:q∈ks):H[q.ad]? =some (dM q.es (q.ks.map gN)):=(hh.2.2 q hq).self
def ue{ks:List AT}{n:Nat}{C D:List AT}{q:AT}(h:ks=C++q::D)(hn:n=C.length):(ks.map gN)[n]? =some (some q.ad):=by subst h hn;simp[gN]
def wW(h1:H[i]? =some a)(h2:H[j]? =some b)(h3:H[k]? =some c)(n1:i≠j)(n2:i≠k)(n3:j≠k):Ab H H i j k a b c:=⟨h1,h2,h3,n1,n2,n3,λ_ _ _ _=>rfl,rfl⟩
def P8(hT:H[tr]? =some (kx s order root last cnt))(ho:(o:Int)=order)(h3:3<=o)(h32:o<=32){es:List Entry}{C D:List AT}{k:AT}(hh:AT.hd H (l+1) (.nd i es (C++k::D)))
  (hn:(AT.ft (l+1) (.nd i es (C++k::D))).Nodup) (b0: ∀q∈C++D,Qd (o / 2) o l q) (bk:k.bl (o / 2) o l) (hk:k.es.length+1=o / 2) (h1:1<=es.length) (hle:es.length<=o):
  ∃a' H',Ev (λf=>eU f tr i (C.length:Int) H) ((),H')/\PT s o (l+1) (.nd i es (C++k::D)) a' H H'/\a'.fl (l+1)=AT.fl (l+1) (.nd i es (C++k::D))/\a'.es.length<=es.length/\es.length<=a'.es.length+1:=by
 obtain⟨kk,E,K⟩:=k
 have hk:E.length+1=o / 2:=hk
 have hlen:=hh.1
 have hself:=hh.self
 have hkk:=hh.2.2 (.nd kk E K) ψ
 have hKl:K.length<=E.length+1:=by have:=hkk.kY;unfold kY at this;split at this<;>simp[*]
 have hKb: ∀g∈K,Qd (o / 2) o (l - 1) g:=(tq hkk.kY).1 bk
 simp only[h_8,j_2]at hlen
 have hsmall: ∀q∈C++D,q.es.length<=o/\q.ks.length<=o+1:=λq hq=>by
  have:=(b0 q hq).2.1
  refine⟨this,?_⟩
  have hs:=(hh.2.2 q (by simp at hq ⊢;grind))
  cases q
  have hs:=hs.kY
  unfold kY at hs
  split at hs
  .simp[AT.ks,hs]
  .simp only[AT.ks,AT.es]at this ⊢;omega
 have left:(C=[]/\C.length=0)\/ ∃C0 q,C=C0++[q]:=by
  rcases List.eq_nil_or_concat C with h|⟨C0,q,h⟩
  .exact .inl ⟨h,by simp[h]⟩
  grind
 by_cases c1: ∃C0 q,C=C0++[q]/\o / 2<q.es.length
 .obtain⟨C0,⟨j,Ej,KJ⟩,rfl,hq⟩:=c1
  have hq:o / 2<Ej.length:=hq
  have hqb:=b0 (.nd j Ej KJ) ψ
  obtain⟨L,y,rfl⟩: ∃L y,Ej=L++[y]:=by
   rcases List.eq_nil_or_concat Ej with h|⟨L,y,h⟩
   .simp[h]at hq
   grind
  simp only[j_3,m_6,m_4]at hh hn hself hlen ⊢
  have hqq:=hh.2.2 (.nd j (L++[y]) KJ) ψ
  obtain⟨KL,Q,rfl,s1,s2⟩:=M8 hqq.kY
  have hCl:C0.length<es.length:=by simp at hlen;omega
  obtain⟨A,x,B,rfl,hA⟩: ∃A x B,es=A++x::B/\A.length=C0.length:=⟨es.take C0.length,es[C0.length],es.drop (C0.length+1),vy hCl,χ⟩
  obtain⟨n1,n2,n3,-⟩:=Al hn
  have T:=wW hself hqq.obj hkk.obj n1 n2 n3
  rw[k_1]at T
  obtain⟨H',E1,T'⟩:=NF (E:=E) (is:=(C0++.nd j (L++[y]) (KL++Q)::.nd kk E K::D).map gN) (K:=K.map gN) hT ho h32 T (by rw[hA];simp[gN];rfl) (by rw[hA];simp[gN];rfl)
   (by
    unfold kY at s1 s2
    have hks:=hkk.kY
    unfold kY at hks
    split at s1
    .grind
    .rename_i h0;rw[if_neg h0]at s2 hks
     match Q,s2 with
     |[q],_=>exact .inr ⟨q.ad,rfl,by simp;grind,by simp[s1]⟩)
   hq ω (by have:=hqb.2.1;simp[AT.es]at this;omega) ω χ
  rw[<-k_1]at T'
  have hlb:=(tq hqq.kY).1 hqb.2.2
  have hjn:=vT (x:=x) s2 hkk.kY
  have hLl:L.length+1<=o:=by have:=hqb.2.1;simpa[AT.es]using this
  have hL1:o / 2<=L.length:=by
   grind
  have P:=MP (s:=s) (o:=o) (es':=A++y::B) (E1':=L) (E2':=x::E) (K1':=KL) (K2':=Q++K) hh hn (by simpa[gN,AT.ad]using T') ψ s1 hjn (λg hg=>by simp at hg ⊢;grind) (λq hq=>b0 q (by simp at hq ⊢;grind))
   (λg hg=>by grind) ⟨hL1,ω⟩ ⟨χ,χ⟩
  refine⟨_,H',?_,P,?_,by simp[AT.es],by simp[AT.es]⟩
  .have:(C0++[AT.nd j (L++[y]) (KL++Q)]).length=A.length+1:=by simp[hA]
   rw[this];exact E1
  .have f1:AT.fl l (.nd kk (x::E) (Q++K))=AT.fl l (.nd 0 [] Q)++x::AT.fl l (.nd kk E K):=ud s2 hkk.kY
   have f2:AT.fl l (.nd j (L++[y]) (KL++Q))=AT.fl l (.nd j L KL)++y::AT.fl l (.nd 0 [] Q):=ud s1 s2
   rw[xp hA,xp hA,f1,f2]
   simp
 have hc:(C.length=0/\false=false)\/ ∃n' j E' K',C.length=n'+1/\((C++AT.nd kk E K::D).map gN)[n']? =some (some j)/\H[j]? =some (dM E' K')/\false=decide (o / 2<E'.length):=by
  rcases left with⟨-,h⟩|⟨C0,q,rfl⟩
  .exact .inl ⟨h,rfl⟩
  .refine .inr ⟨C0.length,q.ad,_,_,ψ,ue (C:=C0) (q:=q) (by simp;rfl) rfl,zS hh ψ,?_⟩
   grind
 by_cases c2: ∃q D0,D=q::D0/\o / 2<q.es.length
 .obtain⟨⟨j,Ej,KJ⟩,D0,rfl,hq⟩:=c2
  have hq:o / 2<Ej.length:=hq
  have hqb:=b0 (.nd j Ej KJ) ψ
  match Ej,hq,hqb,hh,hn,hself,hc,b0,hsmall with
  |[],hq,_,_,_,_,_,_,_=>simp at hq
  |y::R,hq,hqb,hh,hn,hself,hc,b0,hsmall=>
   have hqq:=hh.2.2 (.nd j (y::R) KJ) ψ
   obtain⟨Q,KR,rfl,s1,s2⟩:=Li hqq.kY
   have hCl:C.length<es.length:=by simp at hlen;omega
   obtain⟨A,x,B,rfl,hA⟩: ∃A x B,es=A++x::B/\A.length=C.length:=⟨es.take C.length,es[C.length],es.drop (C.length+1),vy hCl,χ⟩
   obtain⟨n1,n2,n3,-⟩:=Al hn
   have T:=wW hself hkk.obj hqq.obj n1 n2 n3
   rw[k_1]at T
   have hRl:R.length+1<=o:=by have:=hqb.2.1;simpa[AT.es]using this
   have hKR:KR.length<=o+1:=by unfold kY at s2;split at s2<;>simp[*];omega
   obtain⟨H',E1,T'⟩:=ND (is:=(C++.nd kk E K::.nd j (y::R) (Q++KR)::D0).map gN) (K:=K.map gN) hT ho h32 T hA.symm (ue rfl rfl) (ue (C:=C++[.nd kk E K]) (q:=.nd j (y::R) (Q++KR)) (by simp;rfl) ψ)
    (by
     unfold kY at s1 s2
     have hks:=hkk.kY
     unfold kY at hks
     split at s1
     .grind
     .rename_i h0;rw[if_neg h0]at s2 hks
      match Q,s1 with
      |[q],_=>exact .inr ⟨q.ad,rfl,by simp;grind⟩)
    hq hc ω χ ω χ χ
   rw[<-k_1]at T'
   have hlb:=(tq hqq.kY).1 hqb.2.2
   have hjn:=vT (x:=x) hkk.kY s1
   have hR1:o / 2<=R.length:=by
    grind
   have P:=MP (s:=s) (o:=o) (es':=A++y::B) (E1':=E++[x]) (E2':=R) (K1':=K++Q) (K2':=KR) hh hn (by simpa[gN,AT.ad]using T') ψ hjn s2 (λg hg=>by simp at hg ⊢;grind) (λq hq=>b0 q (by simp at hq ⊢;grind))
    (λg hg=>by grind) ⟨χ,χ⟩ ⟨hR1,ω⟩
   refine⟨_,H',E1,P,?_,by simp[AT.es],by simp[AT.es]⟩
   have f1:AT.fl l (.nd kk (E++[x]) (K++Q))=AT.fl l (.nd kk E K)++x::AT.fl l (.nd 0 [] Q):=ud hkk.kY s1
   have f2:AT.fl l (.nd j (y::R) (Q++KR))=AT.fl l (.nd 0 [] Q)++y::AT.fl l (.nd j R KR):=ud s1 s2
   rw[xp hA,xp hA,f1,f2]
   simp
 .
  have hd:(((C++AT.nd kk E K::D).map gN).length=C.length+1/\false=false)\/ ∃j' E' K',C.length+1<((C++AT.nd kk E K::D).map gN).length/\((C++AT.nd kk E K::D).map gN)[C.length+1]? =some (some j')/\H[j']? =some (dM E' K')/\false=decide (o / 2<E'.length):=by
   cases D with
   |nil=>exact .inl ⟨ψ,rfl⟩
   |cons q D0=>
    refine .inr ⟨q.ad,_,_,ψ,ue (C:=C++[.nd kk E K]) (q:=q) (by simp;rfl) ψ,zS hh ψ,?_⟩
    grind
  rcases left with⟨rfl,-⟩|⟨C0,⟨j,Ej,KJ⟩,rfl⟩
  .match D,hh,hn,b0,hself,hlen,hsmall,hc,hd,c2 with
   |[],_,_,_,_,hlen,_,_,_,_=>grind
   |.nd j Ej KJ::D0,hh,hn,b0,hself,hlen,hsmall,hc,hd,c2=>
    match es,h1 with
    |x::B,_=>
     have hqb:=b0 (.nd j Ej KJ) ψ
     have hqs: ¬o / 2<Ej.length:=λh=>c2 ⟨_,_,rfl,h⟩
     have hqm:o / 2<=Ej.length:=hqb.1
     have hqq:=hh.2.2 (.nd j Ej KJ) ψ
     have hKJ:KJ.length<=o+1:=(hsmall (.nd j Ej KJ) ψ).2
     simp only[m_4]at hh hn hself
     obtain⟨n1,n2,n3,-⟩:=Al (C:=[]) hn
     have T:=wW hself hkk.obj hqq.obj n1 n2 n3
     obtain⟨H',E1,T'⟩:=Ge (n:=0) (A:=[]) (B:=B) (x:=x) (C:=[]) (D:=D0.map gN) (K1:=K.map gN) (K2:=KJ.map gN) hT ho h32 T rfl (.inr ⟨rfl,rfl⟩) ⟨kk,rfl⟩ hc hd (by simp at hle ⊢;omega) χ χ (by simp at hlen hle ⊢;omega)
     rw[<-k_1]at T'
     have P:=Nr (s:=s) (C:=[]) (o:=o) (es':=B) (E1':=E++x::Ej) (K1':=K++KJ) hh hn (by simpa[gN,AT.ad]using T') ψ (vT hkk.kY hqq.kY) (λg hg=>hg) (λq hq=>b0 q (by simp at hq ⊢;grind))
      (λg hg=>(k_7.1 hg).elim (hKb g) ((tq hqq.kY).1 hqb.2.2 g)) ⟨χ,χ⟩
     refine⟨_,H',E1,P,?_,by simp[AT.es],by simp[AT.es]⟩
     have f1:AT.fl l (.nd kk (E++x::Ej) (K++KJ))=AT.fl l (.nd kk E K)++x::AT.fl l (.nd j Ej KJ):=ud hkk.kY hqq.kY
     have f2:=xp (l:=l) (i:=i) (A:=[]) (B:=B) (x:=x) (C:=[]) (j:=kk) (k:=j) (E1:=E) (E2:=Ej) (K1:=K) (K2:=KJ) (D:=D0) rfl
     have f3:=ld (l:=l) (i:=i) (A:=[]) (B:=B) (C:=[]) (k:=.nd kk (E++x::Ej) (K++KJ)) (D:=D0) rfl
     grind
  .have hqb:=b0 (.nd j Ej KJ) ψ
   have hqs: ¬o / 2<Ej.length:=λh=>c1 ⟨_,_,rfl,h⟩
   have hqm:o / 2<=Ej.length:=hqb.1
   have hKJ:KJ.length<=o+1:=(hsmall (.nd j Ej KJ) ψ).2
   simp only[j_3,m_6,m_4]at hh hn hself hlen ⊢
   have hqq:=hh.2.2 (.nd j Ej KJ) ψ
   have hCl:C0.length<es.length:=by simp at hlen;omega
   obtain⟨A,x,B,rfl,hA⟩: ∃A x B,es=A++x::B/\A.length=C0.length:=⟨es.take C0.length,es[C0.length],es.drop (C0.length+1),vy hCl,χ⟩
   obtain⟨n1,n2,n3,-⟩:=Al hn
   have hcl:(C0++[AT.nd j Ej KJ]).length=A.length+1:=by simp[hA]
   have e0:(C0++AT.nd j Ej KJ::AT.nd kk E K::D).map gN=C0.map gN++some j::some kk::D.map gN:=by simp[gN,AT.ad]
   have T:Ab H H i j kk (dM (A++x::B) (C0.map gN++some j::some kk::D.map gN)) (dM Ej (KJ.map gN)) (dM E (K.map gN)):=by
    rw[<-e0];exact wW hself hqq.obj hkk.obj n1 n2 n3
   have e1:((C0++[AT.nd j Ej KJ])++AT.nd kk E K::D).map gN=C0.map gN++some j::some kk::D.map gN:=by simp[gN,AT.ad]
   rw[hcl,e1]at hc hd
   rw[hcl]
   obtain⟨H',E1,T'⟩:=Ge (n:=A.length+1) (A:=A) (B:=B) (x:=x) (C:=C0.map gN) (D:=D.map gN) (K1:=KJ.map gN) (K2:=K.map gN) hT ho h32 T (by simp[hA]) (.inl rfl) ⟨kk,by rw[hA];simp⟩ hc hd ω χ χ (by simp at hlen hle ⊢;omega)
   rw[<-k_1]at T'
   have P:=Nr (s:=s) (o:=o) (es':=A++B) (E1':=Ej++x::E) (K1':=KJ++K) hh hn (by simpa[gN,AT.ad]using T') χ (vT hqq.kY hkk.kY) (λg hg=>hg) (λq hq=>b0 q (by simp at hq ⊢;grind))
    (λg hg=>(k_7.1 hg).elim (λh=>(tq hqq.kY).1 hqb.2.2 g h) (hKb g)) ⟨χ,χ⟩
   refine⟨_,H',E1,P,?_,by simp[AT.es],by simp[AT.es];omega⟩
   have f1:AT.fl l (.nd j (Ej++x::E) (KJ++K))=AT.fl l (.nd j Ej KJ)++x::AT.fl l (.nd kk E K):=ud hqq.kY hkk.kY
   rw[xp hA,ld hA,f1]
   simp
end
set_option maxRecDepth 100000
def Lt{l i N:Nat}{es es':List Entry}{C D:List AT}{k k':AT}(h:(AT.ft (l+1) (.nd i es (C++k::D))).Nodup)(hk:(k'.ft l).Nodup)(hs: ∀x∈k'.ft l,x∈k.ft l\/N<=x)
  (hN: ∀x∈AT.ft (l+1) (.nd i es (C++k::D)),x<N):(AT.ft (l+1) (.nd i es' (C++k'::D))).Nodup:=by
 have hM: ∀L:List AT,(∀q∈L,q∈C++D)-> ∀x∈(L.map (AT.ft l)).flatten,x<N:=λL hL x hx=>by
  simp only[List.mem_flatten,v_9]at hx
  obtain⟨_,⟨q,hq,rfl⟩,hx⟩:=hx
  refine hN x (eK.2 (.inr ⟨q,?_,hx⟩))
  grind
 have hC:=hM C (λq hq=>by simp[hq])
 have hD:=hM D (λq hq=>by simp[hq])
 have hi:i<N:=hN i (eK.2 (.inl rfl))
 simp only[AT.ft,List.nodup_cons,k_1,h_3,List.flatten_append,p_9,k_7,not_or,List.nodup_append]at h ⊢
 grind
section
variable {s:ay} {order last cnt:Int} {root:Option Nat} {tr o:Nat}
def Kt{o:Nat}(hm:1<=m): ∀(l:Nat) (k:AT),k.hd H l->k.bl m o l->1<=k.es.length->o<900->k.es.length<=o->
  ∃j E y is F,mH (λf=>jq f) (some k.ad,H) (some j,H)/\H[j]? =some (dM (E++[y]) is)/\k.fl l=F++[y]/\(E++[y]).length<=o
 |0,.nd i es ks,h,hb,h1,ho,hl=>by
  obtain⟨rfl,h⟩:=h
  have h1:1<=es.length:=h1
  have hl:es.length<=o:=hl
  rcases List.eq_nil_or_concat es with rfl|⟨E,y,he⟩
  .simp at h1
  .have he:es=E++[y]:=by simpa using he
   subst he
   refine⟨i,E,y,[],E,.stop ?_,h,rfl,hl⟩
   unfold jq
   exact .af rfl<|.bind (eo h)<|.f rfl (.pure _)
 |l+1,.nd i es ks,h,hb,h1,ho,hl=>by
  have hl:es.length<=o:=hl
  rcases List.eq_nil_or_concat ks with rfl|⟨K,q,he⟩
  .have:=h.1;simp at this
  .have he:ks=K++[q]:=by simpa using he
   subst he
   have hq:=hb q ψ
   obtain⟨j,E,y,is,F,e1,e2,e3,e4⟩:=Kt hm l q (h.2.2 q ψ) hq.2.2 ω ho hq.2.1
   have hK:K.length=es.length:=by have:=h.1;simpa using this
   have hfl:=ld (l:=l) (i:=i) (A:=es) (B:=[]) (C:=K) (k:=q) (D:=[]) hK.symm
   rw[m_1]at hfl
   refine⟨j,E,y,is,wp es (K.map (AT.fl l))++F,.next ?_ e1,e2,by rw[hfl,e3];simp[ws],e4⟩
   unfold jq
   have hi:H[i]? =some (dM es ((K++[q]).map gN)):=h.2.1
   refine .af rfl<|.bind (eo hi)<|.t ψ<|.af (dK hi)<|.af (dK hi) ?_
   have w1:IntKind.wrap .i64 ((((K++[q]).map gN).length:Int) - 1)=(K.length:Int):=by
    rw[dq (by simp<;>omega) (by simp<;>omega)];simp
   rw[w1]
   exact .af (eZ (x:=some q.ad) (by simp[gN])) (.pure _)
def PA{l i:Nat}{H:Hp}(hT:H[tr]? =some (kx s order root last cnt))(ho:(o:Int)=order)(h3:3<=o)(h32:o<=32){es:List Entry}{C D:List AT}{k:AT}(hh:AT.hd H (l+1) (.nd i es (C++k::D)))
  (hn:(AT.ft (l+1) (.nd i es (C++k::D))).Nodup) (b0: ∀q∈C++D,Qd (o / 2) o l q) (bk:k.bl (o / 2) o l) (hk:o / 2<=k.es.length+1) (hk2:k.es.length<=o) (h1:1<=es.length) (hle:es.length<=o):
  ∃a' H',Ev (λn=>(bG 1 cP H i 1).bind λx37=>(idx x37 (C.length:Int)).bind λx38=>x38.bind λi39=>(bG 3 aM H i39 0).bind λx40=>(dA n tr H).bind λr41=>
    bif (decide ((x40.length:Int)<r41))then(eU n tr i (C.length:Int) H).bind λr42=>some ((),r42.2)else some ((),H)) ((),H')/\PT s o (l+1) (.nd i es (C++k::D)) a' H H'/\
   a'.fl (l+1)=AT.fl (l+1) (.nd i es (C++k::D))/\a'.es.length<=es.length/\es.length<=a'.es.length+1:=by
 have hi:H[i]? =some (dM es ((C++k::D).map gN)):=hh.2.1
 have hix:idx ((C++k::D).map gN) (C.length:Int)=some (some k.ad):=eZ (ue rfl rfl)
 by_cases hc:k.es.length<o / 2
 .obtain⟨a',H',E1,P,F1,S1,S2⟩:=P8 (order:=order) (last:=last) (cnt:=cnt) (root:=root) (tr:=tr) hT ho h3 h32 hh hn b0 bk ω h1 hle
  exact⟨a',H',.af (dK hi)<|.af hix<|.af rfl<|.af (dL (zS hh ψ))<|.bind (tY hT ho h32)<|.t χ<|.bind E1 (.pure _),P,F1,S1,S2⟩
 .refine⟨_,H,.af (dK hi)<|.af hix<|.af rfl<|.af (dL (zS hh ψ))<|.bind (tY hT ho h32)<|.f χ (.pure _),⟨hh,λq hq=>?_,rfl,λ_ _ _=>rfl,g_9 _,λj hj=>.inl hj⟩,rfl,g_9 _,Nat.le_succ _⟩
  rcases(show q∈C++D\/q=k by simp at hq ⊢;grind)with hq|rfl
  .exact b0 q hq
  .exact⟨ω,hk2,bk⟩
def tO(h:zk s l):l.Nodup:=List.Pairwise.imp (λ{x y} hxy e=>by subst e;have:=tt hxy;rw[jZ]at this;omega) h
def RD{l i:Nat}{H H1 H2:Hp}{es es1:List Entry}{C D:List AT}{k k':AT}(hh:AT.hd H (l+1) (.nd i es (C++k::D)))(hn:(AT.ft (l+1) (.nd i es (C++k::D))).Nodup)
  (h1:H1=H/\es1=es\/H1=H.set i (dM es1 ((C++k::D).map gN))/\es1.length=es.length) (P:PT s o l k k' H1 H2) (hk':(k'.ft l).Nodup):
  AT.hd H2 (l+1) (.nd i es1 (C++k'::D))/\(AT.ft (l+1) (.nd i es1 (C++k'::D))).Nodup/\(∀j,j<H.length->j∉AT.ft (l+1) (.nd i es (C++k::D))->H2[j]? =H[j]?)/\H.length<=H2.length/\
   ∀j∈AT.ft (l+1) (.nd i es1 (C++k'::D)),j∈AT.ft (l+1) (.nd i es (C++k::D))\/H.length<=j:=by
 have hil:=(g_5.1 hh.2.1).1
 have hl1:H1.length=H.length:=by grind
 have hi1:H1[i]? =some (dM es1 ((C++k::D).map gN)):=by
  rcases h1 with⟨rfl,rfl⟩|⟨rfl,-⟩
  .exact hh.2.1
  .exact g_0 hil
 have hf1: ∀j,j≠i->H1[j]? =H[j]? :=λj hj=>by
  grind
 have hes:es1.length=es.length:=by grind
 obtain⟨d1,d2,d3⟩:=vv hn
 have hkm:k∈C++k::D:=by simp
 have hle:=P.le
 have e0:(C++k'::D).map gN=(C++k::D).map gN:=by
  simp only[k_1,h_3]
  rw[show gN k'=gN k from congrArg some P.ad]
 refine⟨⟨by have:=hh.1;simp at this ⊢;omega,?_,λq hq=>?_⟩,Lt hn hk' (λx hx=>(P.ft x hx).imp id (by rw[hl1];exact id)) hh.lt,λj hj hj2=>?_,ω,λj hj=>?_⟩
 .show H2[i]? =some (dM es1 ((C++k'::D).map gN))
  rw[e0,P.fr i ω d1];exact hi1
 .rcases(show q∈C++D\/q=k' by simp at hq ⊢;grind)with hq|rfl
  .have hq':q∈C++k::D:=by simp at hq ⊢;grind
   refine(hh.2.2 q hq').fr λj hj=>?_
   have:=(hh.2.2 q hq').lt j hj
   rw[P.fr j ω ((d3 q hq).2 j hj),hf1 j λe=>(d3 q hq).1 (e▸hj)]
  .exact P.hd
 .rw[eK]at hj2
  rw[P.fr j ω λh=>hj2 (.inr ⟨k,hkm,h⟩),hf1 j λe=>hj2 (.inl e)]
 .rcases eK.1 hj with rfl|⟨q,hq,hjq⟩
  .exact .inl (eK.2 (.inl rfl))
  .rcases(show q∈C++D\/q=k' by simp at hq ⊢;grind)with hq|hq
   .exact .inl (eK.2 (.inr ⟨q,by simp at hq ⊢;grind,hjq⟩))
   .subst hq
    rcases P.ft j hjq with h|h
    .exact .inl (eK.2 (.inr ⟨k,hkm,h⟩))
    .right;omega
end
set_option maxRecDepth 100000
section
variable {s:ay} {order last cnt:Int} {root:Option Nat} {tr o:Nat}
def PT.then(hf: ∀j,j<H.length->j∉a.ft l->H1[j]? =H[j]?)(hle:H.length<=H1.length)(hft: ∀j∈b.ft l,j∈a.ft l\/H.length<=j)(had:b.ad=a.ad)(P:PT s o l b c H1 H2):PT s o l a c H H2:=by
 have:=P.le
 refine⟨P.hd,P.bl,P.ad.trans had,λj hj hj2=>?_,ω,λj hj=>?_⟩
 .rw[P.fr j ω λh=>(hft j h).elim hj2 ω,hf j hj hj2]
 .rcases P.ft j hj with h|h
  .exact hft j h
  .right;omega
def tc:(nh s e l).Sublist l:=List.filter_sublist
def Pz(hs:rD s=true)(ho:(o:Int)=order)(h3:3<=o)(h32:o<=32):
  ∀(l:Nat) (a:AT) (H:Hp) (e:Entry),gE s e->a.hd H l->a.bl (o / 2) o l->(a.ft l).Nodup->tr∉a.ft l->H[tr]? =some (kx s order root last cnt)->a.es.length<=o->(l≠0->1<=a.es.length)->
   (∀x∈a.fl l,gE s x)->zk s (a.fl l)->
   ∃a' H',Ev (λn=>hJ n tr a.ad e H) ((),H')/\PT s o l a a' H H'/\a'.fl l=nh s e (a.fl l)/\a'.es.length<=a.es.length/\a.es.length<=a'.es.length+1:=by
 intro l
 induction l with
 |zero=>
  intro a H e he hh hb hn ht hT hl h1 hg hsr
  obtain⟨i,es,ks⟩:=a
  obtain⟨rfl,hi⟩:=hh
  have hl:es.length<=o:=hl
  have hil:=(g_5.1 hi).1
  have hsr:zk s es:=hsr
  have hg: ∀x∈es,gE s x:=hg
  obtain⟨A,B,rfl,hA,hB⟩:=oz he hsr hg
  have at_:=D7 hs hT he hi hg hA hB ω
  have pre: ∀{r},Ev (λn=>bif wG s e B then(db 3 aM H i 0).bind λq5=>(fv n q5.1 (A.length:Int) (IntKind.wrap .i64 ((A.length:Int)+1))).bind λr6=>(cz 3 aM q5.2 i 0 r6).bind λH7=>some ((),H7)
    else some ((),H)) r->Ev (λn=>hJ n tr i e H) r:=λhE=>by
   refine nw (g:=λn=>fp n (hJ n) tr i e H) (λn=>rfl) ?_
   unfold fp
   exact .bind at_<|.bp<|.bind (eo hi)<|.t rfl hE
  by_cases hz:wG s e B=true
  .match B,hz,hB with
   |b::B,hz,hB=>
    have hb0:cU s b e=0:=by simpa[wG]using hz
    have hB': ∀x∈B,0<cU s x e:=λx hx=>lG (hg b ψ) (hg x (by simp[hx])) he ((j_6.1 (j_9.1 hsr).2.1).1 x hx) ω
    refine⟨.nd i (A++B) [],H.set i (dM (A++B) []),pre (.t hz<|.af (jG hi) ?_),⟨⟨rfl,g_0 hil⟩,trivial,rfl,λj hj hj2=>?_,ψ,λj hj=>.inl hj⟩,(td hA hb0 hB').symm,by simp[AT.es],by simp[AT.es];omega⟩
    .rw[eu (by simp at hl;omega)]
     refine .bind (.of λn=>BQ n ω)<|.af (jH (g_0 hil)) ?_
     rw[m_7]
     exact .pure _
    .have:i≠j:=λh=>hj2 (by simp[AT.ft,h])
     rw[g_1 this]
  .have hno: ∀x∈A++B,cU s x e≠0:=λx hx=>by
    rcases k_7.1 hx with hx|hx
    .have:=hA x hx;omega
    .match B,hz,hB,hx with
     |b::B,hz,hB,hx=>
      have hb0:cU s b e≠0:=by simpa[wG]using hz
      rcases j_0.1 hx with rfl|hx
      .exact hb0
      .have h4:=hB b ψ
       have:=lG (hg b ψ) (hg x (by simp[hx])) he ((j_6.1 (j_9.1 hsr).2.1).1 x hx) h4
       omega
   exact⟨.nd i (A++B) [],H,pre (.f (by simpa using hz) (.pure _)),⟨⟨rfl,hi⟩,trivial,rfl,λ_ _ _=>rfl,g_9 _,λj hj=>.inl hj⟩,(LN hno).symm,g_9 _,Nat.le_succ _⟩
 |succ l ih=>
  intro a H e he hh hb hn ht hT hl h1 hg hsr
  obtain⟨i,es,ks⟩:=a
  have hl:es.length<=o:=hl
  have h1:1<=es.length:=h1 ω
  have hk1:=hh.1
  have hi:H[i]? =some (dM es (ks.map gN)):=hh.2.1
  have hil:=(g_5.1 hi).1
  have hsub:es.Sublist (AT.fl (l+1) (.nd i es ks)):=Ic (by simp[hk1])
  have hges: ∀x∈es,gE s x:=λx hx=>hg x (hsub.subset hx)
  obtain⟨A,B,rfl,hA,hB⟩:=oz he (hsr.sublist hsub) hges
  have hkl:A.length<ks.length:=by rw[hk1];simp;omega
  obtain⟨C,k,D,rfl,hC⟩:=Et hkl
  have hDl:B.length=D.length:=by simp at hk1;omega
  have hfl:AT.fl (l+1) (.nd i (A++B) (C++k::D))=_:=ld hC.symm
  rw[hfl]at hg hsr ⊢
  have hkm:k∈C++k::D:=by simp
  obtain⟨d1,d2,d3⟩:=vv hn
  have hkft: ∀j∈k.ft l,j∈AT.ft (l+1) (.nd i (A++B) (C++k::D)):=λj hj=>eK.2 (.inr ⟨k,hkm,hj⟩)
  have sp:=hsr
  unfold zk at sp
  rw[j_9,j_9]at sp
  have hP:=CO he (by simp[hC]) sp.1 (λx hx=>hg x (List.mem_append_left _ hx)) hA
  have hkb:=hb k hkm
  have hkh:=hh.2.2 k hkm
  have hgk: ∀x∈k.fl l,gE s x:=λx hx=>hg x (by simp[hx])
  have b0: ∀q∈C++D,Qd (o / 2) o l q:=λq hq=>hb q (by simp at hq ⊢;grind)
  have hix:idx ((C++k::D).map gN) (A.length:Int)=some (some k.ad):=eZ (ue rfl hC.symm)
  have at_:=D7 hs hT he hi hges hA hB ω
  have fin: ∀{e1:Entry} {k':AT} {H1 H2:Hp} {es1:List Entry},es1.length=(A++B).length->(H1=H/\es1=A++B\/H1=H.set i (dM es1 ((C++k::D).map gN))/\es1.length=(A++B).length)->PT s o l k k' H1 H2->k'.fl l=nh s e1 (k.fl l)->k'.es.length<=k.es.length->k.es.length<=k'.es.length+1->
    ∃a' H',Ev (λn=>(bG 1 cP H2 i 1).bind λx37=>(idx x37 (A.length:Int)).bind λx38=>x38.bind λi39=>(bG 3 aM H2 i39 0).bind λx40=>(dA n tr H2).bind λr41=>
     bif (decide ((x40.length:Int)<r41))then(eU n tr i (A.length:Int) H2).bind λr42=>some ((),r42.2)else some ((),H2)) ((),H')/\PT s o (l+1) (.nd i (A++B) (C++k::D)) a' H H'/\
     a'.fl (l+1)=AT.fl (l+1) (.nd i es1 (C++k'::D))/\a'.es.length<=(A++B).length/\(A++B).length<=a'.es.length+1:=by
   intro e1 k' H1 H2 es1 hes hH P hF z1 z2
   have hk'n:(k'.ft l).Nodup:=oT (m:=o / 2) (o:=o) ω P.hd P.bl (by rw[hF];exact(tO sp.2.1.1).sublist tc)
   obtain⟨q1,q2,q3,q4,q5⟩:=RD hh hn hH P hk'n
   have hT2:H2[tr]? =some (kx s order root last cnt):=by grind
   have z3:=hkb.1
   have z4:=hkb.2.1
   obtain⟨a',H',E1,P1,F1,S1,S2⟩:=PA hT2 ho h3 h32 q1 q2 b0 P.bl ω ω ω ω
   rw[hC]at E1
   exact⟨a',H',E1,P1.then q3 q4 q5 rfl,F1,ω,ω⟩
  by_cases hz:wG s e B=true
  .match B,hz,hB,hDl with
   |b::B,hz,hB,hDl=>
    have hb0:cU s b e=0:=by simpa[wG]using hz
    match D,hDl with
    |d::D,hDl=>
     have hDl:B.length=D.length:=by simpa using hDl
     have hgb:=hges b ψ
     obtain⟨j,E,y,is,F,D1,D2,D3,D4⟩:=Kt (m:=o / 2) (o:=o) ω l k hkh hkb.2.2 (by have:=hkb.1;omega) ω hkb.2.1
     have hgy:gE s y:=hgk y (by rw[D3];simp)
     have vu:(A++b::B).set (A.length:Int).toNat y=A++y::B:=by simp
     have g1:=(congrArg (cz 3 aM _ i 0) vu).trans (jH (is:=(C++k::d::D).map gN) (g_0 hil))
     rw[m_7]at g1
     let H1:Hp:=H.set i (dM (A++y::B) ((C++k::d::D).map gN))
     have hi1:H1[i]? =some (dM (A++y::B) ((C++k::d::D).map gN)):=g_0 hil
     have hit:i≠tr:=λh=>ht (eK.2 (.inl h.symm))
     have hT1:H1[tr]? =some (kx s order root last cnt):=by grind
     have hkh1:k.hd H1 l:=hkh.fr λx hx=>g_1 λh=>d1 (by rw[h];exact hx)
     obtain⟨k',H2,E2,P2,F2,z1,z2⟩:=ih k H1 y hgy hkh1 hkb.2.2 d2 (λh=>ht (hkft _ h)) hT1 hkb.2.1 (λ_=>by have:=hkb.1;omega) hgk sp.2.1.1
     obtain⟨a',H',E3,P3,F3,S1,S2⟩:=fin (es1:=A++y::B) ψ (.inr ⟨rfl,ψ⟩) P2 F2 z1 z2
     have hlA:A.length<(A++b::B).length:=by simp
     have ib:idx (A++b::B) (A.length:Int)=some b:=by rw[aN hlA];simp
     have iy:idx (A++y::B) (A.length:Int)=some y:=by rw[aN ψ];simp
     have w1:IntKind.wrap .i64 (((E++[y]).length:Int) - 1)=(E.length:Int):=by rw[dq (by simp<;>omega) (by simp at D4 ⊢;omega)];simp
     have iE:idx (E++[y]) (E.length:Int)=some y:=by rw[aN ψ];simp
     refine⟨a',H',?_,P3,?_,S1,S2⟩
     .refine nw (g:=λn=>fp n (hJ n) tr i e H) (λn=>rfl) ?_
      unfold fp
      refine .bind at_<|.bp<|.bind (eo hi)<|.f ψ<|.t hz<|.af (dK hi)<|.af hix<|.bind D1.ev<|.af rfl<|.af rfl<|.af (jG hi)<|.af (dL D2)<|.af (dL D2) ?_
      simp only[w1]
      exact .af iE<|.af ib<|.et ψ<|.af g1<|.af (dK hi1)<|.af hix<|.af (dL hi1)<|.af iy<|.af rfl<|.bind E2 E3
     .rw[F3]
      have e1:AT.fl (l+1) (.nd i (A++y::B) (C++k'::d::D))=wp A (C.map (AT.fl l))++(k'.fl l++ws (y::B) ((d::D).map (AT.fl l))):=ld hC.symm
      have s1:=sp.2.1.1
      rw[D3]at s1
      have e2:nh s y (k.fl l)=F:=by
       rw[D3]
       have:=td (s:=s) (e:=y) (b:=y) (A:=F) (B:=[]) (λx hx=>tt ((j_9.1 s1).2.2 x hx y ψ)) (jZ y) ψ
       simpa using this
      have hwk: ∀x∈k.fl l,cU s x e<0:=λx hx=>by
       have h5:=tt (sp.2.1.2.2 x hx b (by simp[ws]))
       have h6:=Q0 (s:=s) (hgk x hx).fit hgb.fit he.fit ω ω
       omega
      have hwS: ∀x∈d.fl l++ws B (D.map (AT.fl l)),0<cU s x e:=λx hx=>by
       have hsS:=sp.2.1.2.1
       simp only[h_3,ws,j_6]at hsS
       exact lG hgb (hg x (by simp[ws]at hx ⊢;grind)) he (hsS.1 x hx) ω
      have e3:=td (s:=s) (e:=e) (b:=b) (A:=wp A (C.map (AT.fl l))++k.fl l) (B:=d.fl l++ws B (D.map (AT.fl l))) (λx hx=>by
       grind) hb0 hwS
      rw[F2,e2]at e1
      rw[e1]
      simp only[j_3,h_3,ws]at e3 ⊢
      rw[e3,D3]
      simp
  .have hB': ∀x∈B,0<cU s x e:=λx hx=>by
    match B,hz,hB,hx,hges,hsub with
    |b::B,hz,hB,hx,hges,hsub=>
     have hb0:cU s b e≠0:=by simpa[wG]using hz
     have h4:=hB b ψ
     rcases j_0.1 hx with rfl|hx
     .omega
     .rw[hfl]at hsub
      have h5:=hsr.sublist hsub
      exact lG (hges b ψ) (hges x (by simp[hx])) he ((j_6.1 (j_9.1 h5).2.1).1 x hx) h4
   have hS:=CN he (by simp[hDl]) sp.2.1.2.1 (λx hx=>hg x (w_2 _ (w_2 _ hx))) hB'
   obtain⟨k',H2,E2,P2,F2,z1,z2⟩:=ih k H e he hkh hkb.2.2 d2 (λh=>ht (hkft _ h)) hT hkb.2.1 (λ_=>by have:=hkb.1;omega) hgk sp.2.1.1
   obtain⟨a',H',E3,P3,F3,S1,S2⟩:=fin (es1:=A++B) rfl (.inl ⟨rfl,rfl⟩) P2 F2 z1 z2
   refine⟨a',H',?_,P3,?_,S1,S2⟩
   .refine nw (g:=λn=>fp n (hJ n) tr i e H) (λn=>rfl) ?_
    unfold fp
    exact .bind at_<|.bp<|.bind (eo hi)<|.f ψ<|.f (by simpa using hz)<|.af (dK hi)<|.af hix<|.af rfl<|.bind E2 E3
   .have e1:AT.fl (l+1) (.nd i (A++B) (C++k'::D))=wp A (C.map (AT.fl l))++(k'.fl l++ws B (D.map (AT.fl l))):=ld hC.symm
    rw[F3,e1,F2]
    exact(Kr (λx hx=>by have:=hP x hx;omega) λx hx=>by have:=hS x hx;omega).symm
end
set_option maxRecDepth 100000
inductive qN (P:Hp->Prop) (Y:Nat->Entry->Hp->Option (Bool×Hp)):List Entry->Hp->Bool×Hp->Prop
 |nil {H}:P H->qN P Y [] H (true,H)
 |go {e es H H1 r}:P H->Ev (λn=>Y n e H) (true,H1)->qN P Y es H1 r->qN P Y (e::es) H r
 |stop {e es H H1}:P H->Ev (λn=>Y n e H) (false,H1)->qN P Y (e::es) H (false,H1)
section
variable {P:Hp->Prop} {Y:Nat->Entry->Hp->Option (Bool×Hp)}
def qN.p(h:qN P Y es H r):P H:=by cases h<;>assumption
def qN.split: ∀{A B:List Entry} {H:Hp} {r:Bool×Hp},qN P Y (A++B) H r->(∃H1,qN P Y A H (true,H1)/\qN P Y B H1 r)\/(∃H1,r=(false,H1)/\qN P Y A H (false,H1))
 |[],B,H,r,h=>.inl ⟨H,.nil h.p,h⟩
 |e::A,B,H,r,h=>by
  cases h with
  |go hp h1 h2=>
   rcases qN.split h2 with⟨H1,g1,g2⟩|⟨H1,rfl,g⟩
   .exact .inl ⟨H1,.go hp h1 g1,g2⟩
   .exact .inr ⟨H1,rfl,.go hp h1 g⟩
  |stop hp h1=>exact .inr ⟨_,rfl,.stop hp h1⟩
def Aa: ∀(l:Nat) (a:AT) (d:Nat) (H:Hp) (r:Bool×Hp),(∀H,P H->a.hd H l)->(∀H,P H->a.es.length<1000)->a.bl 0 900 l->qN P Y (a.fl l) H r->Ev (λn=>gy n (Y n) (n - d) a.ad H) r:=by
 intro l
 induction l with
 |zero=>
  intro a d H r hh hl hb hr
  obtain⟨i,es,ks⟩:=a
  have hes:es.length<1000:=hl H hr.p
  have hobj: ∀H,P H->H[i]? =some (dM es []):=λH hp=>(hh H hp).2
  have L: ∀(q:List Entry) (k:Nat) (H:Hp),es.drop k=q->k<=es.length->qN P Y q H r->mH (λn=>dS n (Y n) (gy n (Y n) (n - (d+1))) i (((es.length+1:Nat):Int))) ((k:Int),H) r:=by
   intro q
   induction q with
   |nil=>
    intro k H hd hk hr
    have hk2:k=es.length:=by
     have:es.length<=k:=by simpa using hd
     omega
    cases hr with
    |nil hp=>
     have ho:=hobj H hp
     refine .next (y:=(((k+1:Nat):Int),H)) ?_ (.stop ?_)
     .unfold dS
      refine .t (gw ω)<|.bind (eo ho)<|.bind (.t rfl (.pure _))<|.t rfl<|.af (dL ho)<|.f (oF ω) ?_
      rw[eu ω];exact .pure _
     .unfold dS
      exact .f (oF ω) (.pure _)
   |cons e q ih=>
    intro k H hd hk hr
    have hk1:k<es.length:=by
     grind
    have hek:es[k]=e:=by rw[aZ hk1]at hd;exact(h_7 hd).1
    have hdl:es.drop (k+1)=q:=by rw[aZ hk1]at hd;exact(h_7 hd).2
    have ho:=hobj H hr.p
    have pre: ∀{y x},Ev (λn=>Y n e H) y->Ev (λn=>cond y.1 (some (.inl (((k+1:Nat):Int),y.2))) (some (.inr (false,y.2)))) x->Ev (λn=>dS n (Y n) (gy n (Y n) (n - (d+1))) i (((es.length+1:Nat):Int)) ((k:Int),H)) x:=λh1 h2=>by
     unfold dS
     refine .t (gw ω)<|.bind (eo ho)<|.bind (.t rfl (.pure _))<|.t rfl<|.af (dL ho)<|.t (gw hk1)<|.af (aN hk1) ?_
     rw[hek,eu ω]
     exact .bind h1 h2
    cases hr with
    |go hp h1 h2=>exact .next (pre h1 (.t rfl (.pure _))) (ih (k+1) _ hdl ω h2)
    |stop hp h1=>exact .stop (pre h1 (.f rfl (.pure _)))
  refine BO (F:=λn s=>gy n (Y n) s i H) (g:=λn s=>_) (λn s=>rfl) ?_
  refine .af (dL (hobj H hr.p)) ?_
  rw[eu ω]
  exact(L es 0 H rfl ω hr).ev
 |succ l ih=>
  intro a d H r hh hl hb hr
  obtain⟨i,es,ks⟩:=a
  have hes:es.length<1000:=hl H hr.p
  have hobj: ∀H,P H->H[i]? =some (dM es (ks.map gN)):=λH hp=>(hh H hp).2.1
  have hkl:ks.length=es.length+1:=(hh H hr.p).1
  have hne:ks.map gN≠[]:=by intro e;simp at e;simp[e]at hkl
  have L: ∀(q:List Entry) (k:Nat) (H:Hp),es.drop k=q->(hk:k<=es.length)->qN P Y ((ks[k]' ω).fl l++ws q ((ks.drop (k+1)).map (AT.fl l))) H r->
    mH (λn=>dS n (Y n) (gy n (Y n) (n - (d+1))) i (((es.length+1:Nat):Int))) ((k:Int),H) r:=by
   intro q
   induction q with
   |nil=>
    intro k H hd hk hr
    have hk2:k=es.length:=by
     have:es.length<=k:=by simpa using hd
     omega
    have hkk:k<ks.length:=by omega
    have ho:=hobj H hr.p
    have hix:idx (ks.map gN) (k:Int)=some (some ks[k].ad):=eZ (by simp[hkk,gN])
    have sub:=λ{H r}=>ih ks[k] (d+1) H r (λH hp=>(hh H hp).2.2 _ (j_1 hkk)) (λH hp=>by have:=(hb ks[k] (j_1 hkk)).2.1;omega) (hb ks[k] (j_1 hkk)).2.2
    have hw:ws [] ((ks.drop (k+1)).map (AT.fl l))=[]:=by simp[ws]
    rw[hw,m_1]at hr
    have S:=sub hr
    by_cases h1:r.1=true
    .obtain⟨b,H1⟩:=r
     have h1:b=true:=h1
     subst h1
     have hp1:P H1:=by
      have: ∀{es:List Entry} {H:Hp} {r:Bool×Hp},qN P Y es H r->r.1=true->P r.2:=by
       intro es H r h
       induction h with
       |nil hp=>exactλ_=>hp
       |go _ _ _ ih=>exact ih
       |stop _ _=>exactλh=>by cases h
      exact this hr rfl
     refine .next (y:=(((k+1:Nat):Int),H1)) ?_ (.stop ?_)
     .unfold dS
      refine .t (gw ω)<|.bind (eo ho)<|.bind (.f (by simpa using hne)<|.af (dK ho)<|.af hix<|.af rfl S)<|.t rfl<|.af (dL (hobj H1 hp1))<|.f (oF ω) ?_
      rw[eu ω];exact .pure _
     .unfold dS
      exact .f (oF ω) (.pure _)
    .obtain⟨b,H1⟩:=r
     have h1:b=false:=by simpa using h1
     subst h1
     refine .stop ?_
     unfold dS
     exact .t (gw ω)<|.bind (eo ho)<|.bind (.f (by simpa using hne)<|.af (dK ho)<|.af hix<|.af rfl S)<|.f rfl (.pure _)
   |cons e q ihq=>
    intro k H hd hk hr
    have hk1:k<es.length:=by
     grind
    have hek:es[k]=e:=by rw[aZ hk1]at hd;exact(h_7 hd).1
    have hdl:es.drop (k+1)=q:=by rw[aZ hk1]at hd;exact(h_7 hd).2
    have hkk:k<ks.length:=by omega
    have ho:=hobj H hr.p
    have hix:idx (ks.map gN) (k:Int)=some (some ks[k].ad):=eZ (by simp[hkk,gN])
    have sub:=λ{H r}=>ih ks[k] (d+1) H r (λH hp=>(hh H hp).2.2 _ (j_1 hkk)) (λH hp=>by have:=(hb ks[k] (j_1 hkk)).2.1;omega) (hb ks[k] (j_1 hkk)).2.2
    have hw:ws (e::q) ((ks.drop (k+1)).map (AT.fl l))=e::((ks[k+1]' ω).fl l++ws q ((ks.drop (k+2)).map (AT.fl l))):=by
     rw[aZ (show k+1<ks.length by omega)];rfl
    rw[hw]at hr
    rcases hr.split with⟨H1,g1,g2⟩|⟨H1,rfl,g⟩
    .have S:=sub g1
     have ho1:=hobj H1 g2.p
     have pre: ∀{y x},Ev (λn=>Y n e H1) y->Ev (λn=>cond y.1 (some (.inl (((k+1:Nat):Int),y.2))) (some (.inr (false,y.2)))) x->Ev (λn=>dS n (Y n) (gy n (Y n) (n - (d+1))) i (((es.length+1:Nat):Int)) ((k:Int),H)) x:=λh1 h2=>by
      unfold dS
      refine .t (gw ω)<|.bind (eo ho)<|.bind (.f (by simpa using hne)<|.af (dK ho)<|.af hix<|.af rfl S)<|.t rfl<|.af (dL ho1)<|.t (gw hk1)<|.af (aN hk1) ?_
      rw[hek,eu ω]
      exact .bind h1 h2
     cases g2 with
     |go hp h1 h2=>exact .next (pre h1 (.t rfl (.pure _))) (ihq (k+1) _ hdl ω h2)
     |stop hp h1=>exact .stop (pre h1 (.f rfl (.pure _)))
    .refine .stop ?_
     unfold dS
     exact .t (gw ω)<|.bind (eo ho)<|.bind (.f (by simpa using hne)<|.af (dK ho)<|.af hix<|.af rfl (sub g))<|.f rfl (.pure _)
  refine BO (F:=λn s=>gy n (Y n) s i H) (g:=λn s=>_) (λn s=>rfl) ?_
  refine .af (dL (hobj H hr.p)) ?_
  rw[eu ω]
  refine(L es 0 H rfl ω ?_).ev
  have h0:0<ks.length:=by omega
  have e0:AT.fl (l+1) (.nd i es ks)=(ks[0]'h0).fl l++ws es ((ks.drop 1).map (AT.fl l)):=by
   match ks,h0 with
   |k::ks,_=>rfl
  rw[e0]at hr
  exact hr
end
set_option maxRecDepth 100000
structure TI(s:ay)(o:Nat)(last:Int)(l:Nat)(a:AT)(H:Hp)(tr:Nat):Prop where
 obj:H[tr]? =some (kx s o (some a.ad) last ((a.fl l).length:Nat))
 hd:a.hd H l
 bl:a.bl (o / 2) o l
 top:a.es.length<=o
 one:l≠0->1<=a.es.length
 nt:tr∉a.ft l
 g: ∀x∈a.fl l,gE s x/\x.Number<=last
 AD:zk s (a.fl l)
 num:((a.fl l).map (·.Number)).Nodup
structure SI(s:ay)(o:Nat):Prop where
 ok:rD s=true
 o3:3<=o
 Lr:o<=32
def TI.fr{s:ay}{o l tr:Nat}{last:Int}{a:AT}{H:Hp}(h:TI s o last l a H tr)(hf: ∀j,j<H.length->H'[j]? =H[j]?):TI s o last l a H' tr:=
 {h with obj:=by rw[hf tr (g_5.1 h.obj).1];exact h.obj,hd:=h.hd.fr λj hj=>hf j (h.hd.lt j hj)}
def wS{o:Nat}(h1:m'<=m)(h2:o<=o'): ∀{l:Nat} {a:AT},a.bl m o l->a.bl m' o' l
 |0,_,_=>trivial
 |l+1,.nd i es ks,h=>λk hk=>⟨v_2 h1 (h k hk).1,v_2 (h k hk).2.1 h2,wS h1 h2 (h k hk).2.2⟩
section
variable {s:ay} {o l tr:Nat} {last:Int} {a:AT} {H:Hp}
def jP{x y:aT}{j:Nat}(h:H[j]? =some x):(H++[y])[j]? =some x:=by grind
def CB(h:n=H.length):(H++[y])[n]? =some y:=by subst h;simp
def jw(h:n=H.length):(H++[y]).set n z=H++[z]:=by subst h;simp
def kE(h:n<H.length):(H++[y]).set n z=H.set n z++[y]:=List.set_append_left _ _ h
def pQ(s:ay)(r:List Value)(e:Entry):Bool:=dD s.Down e.Row r==0
def IM(H:Hp)(tr:Nat)(row:List Value)(b:Bool):Hp:=H++[.cells [.d (.ptr tr 0)]]++[.cells [.d (.list 3 (List.map ar row))]]++[.cells [.d (.bool b)]]
def NT(S:SI s o)(h:TI s o last l a H tr){row:List Value}(hr:bH s.aD row=true): ∃H',Ev (λf=>kW f tr row H) ((a.fl l).any (pQ s row),H')/\(∀j,j<H.length->H'[j]? =H[j]?)/\H.length<=H'.length:=by
 have hS:=gO S.ok
 let K (b:Bool):Hp:=IM H tr row b++[.hole]
 let n2:Nat:=(H++[aT.cells [.d (.ptr tr 0)]]).length
 let n3:Nat:=(H++[aT.cells [.d (.ptr tr 0)]]++[aT.cells [.d (.list 3 (List.map ar row))]]).length
 have e2:n2=H.length+1:=by simp[n2]
 have e3:n3=H.length+2:=by simp[n3]
 have kl: ∀b,(IM H tr row b).length=H.length+3:=λb=>by simp[IM]
 have f0: ∀b j,j<H.length->(K b)[j]? =H[j]? :=λb j hj=>by
  simp only[K,IM]
  grind
 have g1: ∀b,(K b)[H.length]? =some (.cells [.d (.ptr tr 0)]):=λb=>jP (jP (jP (CB rfl)))
 have g2: ∀b,(K b)[n2]? =some (.cells [.d (.list 3 (List.map ar row))]):=λb=>jP (jP (CB rfl))
 have g3: ∀b,(K b)[n3]? =some (.cells [.d (.bool b)]):=λb=>jP (CB rfl)
 have s3: ∀b b',(K b).set n3 (.cells [.d (.bool b')])=K b':=λb b'=>by
  simp only[K,IM]
  rw[kE (by simp[e3]),jw rfl]
 have T: ∀b,TI s o last l a (K b) tr:=λb=>h.fr (f0 b)
 let Y:=λ(n:Nat)=>kC n (H++[.cells [.d (.ptr tr 0)]],H.length) (H++[.cells [.d (.ptr tr 0)]]++[.cells [.d (.list 3 (List.map ar row))]],n2) (IM H tr row false,n3)
 have run: ∀es:List Entry,(∀e∈es,gE s e)->qN (λG=>G=K false) Y es (K false) (if es.any (pQ s row)then(false,K true)else(true,K false)):=by
  intro es
  induction es with
  |nil=>intro _;exact .nil rfl
  |cons e es ih=>
   intro hg
   have R:=nE s hS.2 (hg e ψ).fit hr hS.1
   have pre: ∀{x},Ev (λn=>bif (dD s.Down e.Row row==0)then(dW cB (K false) n3 0 true).bind λH16=>some (false,H16)else some (true,K false)) x->Ev (λn=>Y n e (K false)) x:=λhE=>by
    show Ev (λn=>kC n _ _ _ e (K false)) _
    unfold kC
    exact .af (cn (x:=some tr) (r:=[]) (g1 false) rfl)<|.af rfl<|.af (ic (T false).obj)<|.af (rH (c:=og) (g2 false) rfl)<|.bind R hE
   rw[List.any_cons]
   by_cases hc:pQ s row e=true
   .rw[hc,Bool.true_or,if_pos rfl]
    refine .stop rfl (pre (.t hc ?_))
    have e1:dW cB (K false) n3 0 true=some (K true):=by rw[gP (g3 false) (by simp[cB,D.cells]),<-s3 false true];rfl
    exact .af e1 (.pure _)
   .rw[show pQ s row e=false by simpa using hc,Bool.false_or]
    exact .go rfl (pre (.f (by simpa[pQ]using hc) (.pure _))) (ih λx hx=>hg x (by simp[hx]))
 have G:=Aa l a 0 (K false) _ (λH' hp=>by rw[hp];exact(T false).hd) (λH' _=>by have:=h.top;have:=S.Lr;omega) (wS (q_8 _) (by have:=S.Lr;omega) h.bl) (run _ λe he=>(h.g e he).1)
 have out: ∀b,gn 1 cB.cell (K b) n3=some (b,(K b).set n3 .hole):=λb=>by unfold gn;rw[g3 b];rfl
 have fin: ∀b,(∀j,j<H.length->((K b).set n3 .hole)[j]? =H[j]?)/\H.length<=((K b).set n3 .hole).length:=λb=>⟨λj hj=>by grind,by simp[K,kl];omega⟩
 have hroot:(IM H tr row false)[tr]? =some (kx s o (some a.ad) last ((a.fl l).length:Nat)):=jP (jP (jP h.obj))
 have pre: ∀{q x},Ev (λn=>gy n (Y n) n a.ad (K false)) q->Ev (λn=>bif q.1 then(gn 1 cB.cell q.2 n3).bind λq18=>some (false,q18.2)else(gn 1 cB.cell q.2 n3).bind λq19=>some (q19.1,q19.2)) x->Ev (λf=>kW f tr row H) x:=λh1 h2=>by
  unfold kW
  refine .af rfl<|.af rfl<|.af rfl<|.af (cn (x:=some tr) (r:=[]) (jP (jP (CB rfl))) rfl)<|.af rfl<|.af (gr hroot)<|.af rfl<|.bind (.of λn=>rfl) ?_
  refine .bind (.af rfl ?_) h2
  unfold sD
  exact h1
 cases hc:(a.fl l).any (pQ s row)with
 |true=>
  rw[hc,if_pos rfl]at G
  exact⟨_,pre G (.f rfl<|.af (out true) (.pure _)),fin true⟩
 |false=>
  rw[hc,if_neg ψ]at G
  exact⟨_,pre G (.t rfl<|.af (out false) (.pure _)),fin false⟩
end
set_option maxRecDepth 100000
def s9(p:Entry->Bool):List Entry->Option (Nat×Entry)
 |[]=>none
 |e::l=>if p e then some (0,e)else(s9 p l).map λq=>(q.1+1,q.2)
def uy(s:ay)(row:List Value)(key:Int)(e:Entry):Bool:=e.Key==key&&pQ s row e
section
variable {s:ay} {o l tr:Nat} {last:Int} {a:AT} {H:Hp}
def PX(x:Entry):aT:=.cells [.d (.list 3 (List.map ar x.Row)),.d (.int .i64 x.Key),.d (.int .i64 x.Number)]
def Bc(i:Int):aT:=.cells [.d (.int .i64 i)]
def PY(b:Bool):aT:=.cells [.d (.bool b)]
def vH:Entry:=⟨[],0,0⟩
def NU{α:Type}{c:Cc α}{H:Hp}{x:α}(h:H[i]? =some (.cells (c.enc x)))(hn:(c.enc x).length=n):gn n c H i=some (x,H.set i .hole):=by
 unfold gn
 rw[h]
 simp only[hn,if_true]
 have:=c.ed x []
 grind
def S4:Option (Nat×Entry)->Entry×Int×Bool
 |some (n,e)=>(e,(n:Int),true)
 |none=>(vH,0,false)
def zW(S:SI s o)(h:TI s o last l a H tr)(hr:bH s.aD row=true)(key:Int)(hl:(a.fl l).length<1000):
  ∃H',Ev (λf=>gz f tr row key H) (S4 (s9 (uy s row key) (a.fl l)),H')/\(∀j,j<H.length->H'[j]? =H[j]?)/\H.length<=H'.length:=by
 have hS:=gO S.ok
 let A1:Hp:=H++[.cells [.d (.ptr tr 0)]]
 let A2:Hp:=A1++[.cells [.d (.list 3 (List.map ar row))]]
 let A3:Hp:=A2++[Bc key]
 let A4:Hp:=A3++[PX vH]
 let A5:Hp:=A4++[Bc 0]
 let A6:Hp:=A5++[PY false]
 let F (x:Entry) (i:Int) (b:Bool) (k:Int):Hp:=A3++[PX x]++[Bc i]++[PY b]++[Bc k]
 let K (x:Entry) (i:Int) (b:Bool) (k:Int):Hp:=F x i b k++[.hole]
 have l1:A1.length=H.length+1:=by simp[A1]
 have l2:A2.length=H.length+2:=by simp[A2,l1]
 have l3:A3.length=H.length+3:=by simp[A3,l2]
 have l4:A4.length=H.length+4:=by simp[A4,l3]
 have l5:A5.length=H.length+5:=by simp[A5,l4]
 have l6:A6.length=H.length+6:=by simp[A6,l5]
 have f0: ∀x i b k j,j<H.length->(K x i b k)[j]? =H[j]? :=λx i b k j hj=>by
  grind
 have g1: ∀x i b k,(K x i b k)[H.length]? =some (.cells [.d (.ptr tr 0)]):=λ_ _ _ _=>jP (jP (jP (jP (jP (jP (jP (CB rfl)))))))
 have g2: ∀x i b k,(K x i b k)[A1.length]? =some (.cells [.d (.list 3 (List.map ar row))]):=λ_ _ _ _=>jP (jP (jP (jP (jP (jP (CB rfl))))))
 have g3: ∀x i b k,(K x i b k)[A2.length]? =some (Bc key):=λ_ _ _ _=>jP (jP (jP (jP (jP (CB rfl)))))
 have g4: ∀x i b k,(K x i b k)[A3.length]? =some (PX x):=λ_ _ _ _=>jP (jP (jP (jP (CB rfl))))
 have g5: ∀x i b k,(K x i b k)[A4.length]? =some (Bc i):=λ_ _ _ _=>jP (jP (jP (CB (by simp[l3,l4]))))
 have g6: ∀x i b k,(K x i b k)[A5.length]? =some (PY b):=λ_ _ _ _=>jP (jP (CB (by simp[l3,l5])))
 have g7: ∀x i b k,(K x i b k)[A6.length]? =some (Bc k):=λ_ _ _ _=>jP (CB (by simp[l3,l6]))
 have s4: ∀x i b k x',dW aM (K x i b k) A3.length 0 x'=some (K x' i b k):=λx i b k x'=>by
  rw[gP (g4 x i b k) (g_9 3)]
  show some ((K x i b k).set A3.length (PX x'))=_
  simp only[K,F]
  simp_all
 have s5: ∀x i b k i',dW (cI .i64) (K x i b k) A4.length 0 i'=some (K x i' b k):=λx i b k i'=>by
  rw[gP (g5 x i b k) (by simp[cI,D.cells])]
  show some ((K x i b k).set A4.length (Bc i'))=_
  simp only[K,F]
  simp_all
 have s6: ∀x i b k b',dW cB (K x i b k) A5.length 0 b'=some (K x i b' k):=λx i b k b'=>by
  rw[gP (g6 x i b k) (by simp[cB,D.cells])]
  show some ((K x i b k).set A5.length (PY b'))=_
  simp only[K,F]
  simp_all
 have s7: ∀x i b k k',dW (cI .i64) (K x i b k) A6.length 0 k'=some (K x i b k'):=λx i b k k'=>by
  rw[gP (g7 x i b k) (by simp[cI,D.cells])]
  show some ((K x i b k).set A6.length (Bc k'))=_
  simp only[K,F]
  simp_all
 have T: ∀x i b k,TI s o last l a (K x i b k) tr:=λx i b k=>h.fr (f0 x i b k)
 have kk: ∀x i b k,bz (cI .i64).cell (K x i b k) A6.length 0=some k:=λx i b k=>cn (r:=[]) (g7 x i b k) rfl
 let Y:=λ(n:Nat)=>gd n (A1,H.length) (A2,A1.length) (A3,A2.length) (A4,A3.length) (A5,A4.length) (A6,A5.length) (F vH 0 false 0,A6.length)
 have run: ∀(es:List Entry) (k:Nat),k+es.length<1000->(∀e∈es,gE s e)->qN (λG=> ∃k,G=K vH 0 false k) Y es (K vH 0 false k)
   (match s9 (uy s row key) es with|some (n,e)=>(false,K e ((k+n:Nat):Int) true ((k+n:Nat):Int))|none=>(true,K vH 0 false ((k+es.length:Nat):Int))):=by
  intro es
  induction es with
  |nil=>intro k _ _;exact .nil ⟨_,rfl⟩
  |cons e es ih=>
   intro k hk hg
   simp only[j_2]at hk
   have R:=nE s hS.2 (hg e ψ).fit hr hS.1
   have ih':=ih (k+1) ω λx hx=>hg x (by simp[hx])
   have My:Ev (λn=>(bz (cI .i64).cell (K vH 0 false k) A6.length 0).bind λx64=>(dW (cI .i64) (K vH 0 false k) A6.length 0 (IntKind.wrap .i64 (x64+1))).bind λH65=>some (true,H65)) (true,K vH 0 false ((k+1:Nat):Int)):=by
    refine .af (kk _ _ _ _) ?_
    rw[eu ω]
    exact .af (s7 _ _ _ _ _) (.pure _)
   have key0:bz (cI .i64).cell (K vH 0 false k) A2.length 0=some key:=cn (r:=[]) (g3 _ _ _ _) rfl
   by_cases hm:uy s row key e=true
   .have:s9 (uy s row key) (e::es)=some (0,e):=by simp[s9,hm]
    rw[this]
    simp only[uy,g_3,pQ]at hm
    refine .stop ⟨_,rfl⟩ ?_
    show Ev (λn=>gd n _ _ _ _ _ _ _ e (K vH 0 false k)) _
    unfold gd
    refine .af key0<|.t hm.1<|.af (cn (x:=some tr) (r:=[]) (g1 _ _ _ _) rfl)<|.af rfl<|.af (ic (T _ _ _ _).obj)<|.af (rH (c:=og) (g2 _ _ _ _) rfl)<|.bind R<|.t hm.2<|
     .af (kk _ _ _ _)<|.af (s4 _ _ _ _ _)<|.af (s5 _ _ _ _ _)<|.af (s6 _ _ _ _ _)<|.af (kk _ _ _ _) ?_
    exact .of λn=>z0
   .have hf:s9 (uy s row key) (e::es)=(s9 (uy s row key) es).map λq=>(q.1+1,q.2):=by simp[s9,hm]
    have st:Ev (λn=>Y n e (K vH 0 false k)) (true,K vH 0 false ((k+1:Nat):Int)):=by
     show Ev (λn=>gd n _ _ _ _ _ _ _ e (K vH 0 false k)) _
     unfold gd
     refine .af key0 ?_
     simp only[uy,g_3,not_and,pQ]at hm
     by_cases h1:(e.Key==key)=true
     .exact .t h1<|.af (cn (x:=some tr) (r:=[]) (g1 _ _ _ _) rfl)<|.af rfl<|.af (ic (T _ _ _ _).obj)<|.af (rH (c:=og) (g2 _ _ _ _) rfl)<|.bind R<|.f (by simpa using hm h1) My
     .exact .f (by simpa using h1) My
    rw[hf]
    refine .go ⟨_,rfl⟩ st ?_
    cases hq:s9 (uy s row key) es with
    |none=>
     rw[hq]at ih'
     simp only[Option.map_none,j_2]at ih' ⊢
     grind
    |some q=>
     obtain⟨n,x⟩:=q
     rw[hq]at ih'
     simp only[m_2]at ih' ⊢
     grind
 have G:=Aa l a 0 (K vH 0 false 0) _ (λH' hp=>by obtain⟨k,rfl⟩:=hp;exact(T _ _ _ _).hd) (λH' _=>by have:=h.top;have:=S.Lr;omega) (wS (q_8 _) (by have:=S.Lr;omega) h.bl) (run (a.fl l) 0 ω λe he=>(h.g e he).1)
 have hroot:(F vH 0 false 0)[tr]? =some (kx s o (some a.ad) last ((a.fl l).length:Nat)):=jP (jP (jP (jP (jP (jP (jP h.obj))))))
 have out: ∀x i b k,∃H',(gn 3 pU.cells (K x i b k) A3.length).bind (λq69=>(gn 1 (cI .i64).cell q69.2 A4.length).bind λq70=>(gn 1 cB.cell q70.2 A5.length).bind λq71=>some (q69.1,q70.1,q71))=some (x,i,(b,H'))/\(∀j,j<H.length->H'[j]? =H[j]?)/\H.length<=H'.length:=λx i b k=>by
  have o1:gn 3 pU.cells (K x i b k) A3.length=some (x,(K x i b k).set A3.length .hole):=NU (c:=pU.cells) (g4 x i b k) rfl
  have o2:gn 1 (cI .i64).cell ((K x i b k).set A3.length .hole) A4.length=some (i,((K x i b k).set A3.length .hole).set A4.length .hole):=by unfold gn;rw[g_1 ω,g5];rfl
  have o3:gn 1 cB.cell (((K x i b k).set A3.length .hole).set A4.length .hole) A5.length=some (b,(((K x i b k).set A3.length .hole).set A4.length .hole).set A5.length .hole):=by unfold gn;rw[g_1 ω,g_1 ω,g6];rfl
  refine⟨_,by rw[o1,k_2,o2,k_2,o3];rfl,λj hj=>?_,?_⟩
  .rw[g_1 ω,g_1 ω,g_1 ω];exact f0 _ _ _ _ j hj
  .simp[K,F,l3];omega
 have pre: ∀{q x},Ev (λn=>gy n (Y n) n a.ad (K vH 0 false 0)) q->Ev (λn=>bif q.1 then
    (gn 3 pU.cells q.2 A3.length).bind λq69=>(gn 1 (cI .i64).cell q69.2 A4.length).bind λq70=>(gn 1 cB.cell q70.2 A5.length).bind λq71=>some ((vH,0,false),q71.2)
   else
    (gn 3 pU.cells q.2 A3.length).bind λq72=>(gn 1 (cI .i64).cell q72.2 A4.length).bind λq73=>(gn 1 cB.cell q73.2 A5.length).bind λq74=>some ((q72.1,q73.1,q74.1),q74.2)) x->Ev (λf=>gz f tr row key H) x:=λh1 h2=>by
  unfold gz
  refine .af rfl<|.af rfl<|.af rfl<|.af rfl<|.af rfl<|.af rfl<|.af rfl<|.af (cn (x:=some tr) (r:=[]) (jP (jP (jP (jP (jP (jP (CB rfl))))))) rfl)<|.af rfl<|.af (gr hroot)<|.af rfl<|.bind (.of λn=>rfl) ?_
  refine .bind (.af rfl ?_) h2
  unfold sD
  exact h1
 cases hc:s9 (uy s row key) (a.fl l)with
 |none=>
  rw[hc]at G
  obtain⟨H',q1,q2,q3⟩:=out vH 0 false ((0+(a.fl l).length:Nat):Int)
  refine⟨H',pre G (.t rfl ?_),q2,q3⟩
  simp only[g_6,g_4,g_8]at q1
  obtain⟨z1,y1,z2,y2,z3,y3,r1,r2,r3⟩:=q1
  refine .af y1<|.af y2<|.af y3 ?_
  rw[show z3.2=H' by rw[r3]]
  exact .pure _
 |some q=>
  obtain⟨n,e⟩:=q
  rw[hc]at G
  obtain⟨H',q1,q2,q3⟩:=out e ((0+n:Nat):Int) true ((0+n:Nat):Int)
  refine⟨H',pre G (.f rfl ?_),q2,q3⟩
  simp only[g_6,g_4,g_8]at q1
  obtain⟨z1,y1,z2,y2,z3,y3,r1,r2,r3⟩:=q1
  refine .af y1<|.af y2<|.af y3 ?_
  rw[r1,r2,r3,q_2]
  exact .pure _
end
set_option maxRecDepth 100000
section
variable {s:ay} {o l tr:Nat} {last:Int} {a:AT} {H:Hp}
structure FM(tr l:Nat)(a:AT)(l':Nat)(a':AT)(H H':Hp):Prop where
 fr: ∀j,j<H.length->j≠tr->j∉a.ft l->H'[j]? =H[j]?
 le:H.length<=H'.length
 ft: ∀j∈a'.ft l',j∈a.ft l\/H.length<=j
def FM.trans(h:FM tr l a l1 a1 H H1)(h':FM tr l1 a1 l2 a2 H1 H2):FM tr l a l2 a2 H H2:=by
 have:=h.le
 have:=h'.le
 refine⟨λj hj h1 h2=>?_,ω,λj hj=>?_⟩
 .rw[h'.fr j ω h1 λh3=>(h.ft j h3).elim h2 ω,h.fr j hj h1 h2]
 .rcases h'.ft j hj with h3|h3
  .exact h.ft j h3
  .right;omega
def FM.of(h: ∀j,j<H.length->H'[j]? =H[j]?)(h2:H.length<=H'.length):FM tr l a l a H H':=⟨λj hj _ _=>h j hj,h2,λj hj=>.inl hj⟩
def IA(h:cU s x e=0):x.Number=e.Number:=by
 unfold cU at h
 grind
def FB{last:Int}(h:H[tr]? =some (kx s order root last cnt)):dW cP H tr 4 r=some (H.set tr (kx s order r last cnt)):=by
 cases r<;>exact gP h (by simp[cP,D.cells])
def vK{last:Int}(h:H[tr]? =some (kx s order root last cnt)):dW (cI .i64) H tr 6 c=some (H.set tr (kx s order root last c)):=gP h (by simp[cI,D.cells])
def MS{last:Int}(h:H[tr]? =some (kx s order root last cnt)):dW (cI .i64) H tr 5 c=some (H.set tr (kx s order root c cnt)):=gP h (by simp[cI,D.cells])
def RF(h:TI s o last l a H tr)(he:gE s e)(hle:e.Number<=last)(hnum: ∀x∈a.fl l,x.Number≠e.Number)(hd:s.ee=1-> ∀x∈a.fl l,dD s.Down x.Row e.Row≠0):
  (∀x∈pj s e (a.fl l),gE s x/\x.Number<=last)/\zk s (pj s e (a.fl l))/\((pj s e (a.fl l)).map (·.Number)).Nodup/\(pj s e (a.fl l)).length=(a.fl l).length+1:=by
 have hg:=λx hx=>(h.g x hx).1
 have hn: ∀x∈a.fl l,cU s x e≠0:=λx hx h0=>hnum x hx (IA h0)
 have hp:=xX he h.AD hg hn
 refine⟨λx hx=>?_,NP he h.AD hg hn hd,?_,by rw[hp.length_eq];rfl⟩
 .rcases(NG he h.AD hg hn).1 hx with rfl|hx
  .exact⟨he,hle⟩
  .exact h.g x hx
 .rw[(hp.map _).nodup_iff,h_3,List.nodup_cons]
  refine⟨λhm=>?_,h.num⟩
  grind
def LH(S:SI s o)(h:TI s o last l a H tr)(he:gE s e)(hle:e.Number<=last)(hnum: ∀x∈a.fl l,x.Number≠e.Number)(hd:s.ee=1-> ∀x∈a.fl l,dD s.Down x.Row e.Row≠0)(hl:(a.fl l).length<10000):
  ∃l' a' H',Ev (λf=>ey f tr e H) ((),H')/\TI s o last l' a' H' tr/\a'.fl l'=pj s e (a.fl l)/\FM tr l a l' a' H H':=by
 obtain⟨G1,G2,G3,G4⟩:=RF h he hle hnum hd
 have hn: ∀x∈a.fl l,cU s x e≠0:=λx hx h0=>hnum x hx (IA h0)
 have hm1:1<=o / 2:=by have:=S.o3;omega
 have hft:(a.ft l).Nodup:=oT hm1 h.hd h.bl (tO h.AD)
 obtain⟨a',H1,E1,P,F1,Z1,Z2⟩:=Ru S.ok rfl S.o3 S.Lr he l a H h.hd h.bl hft h.nt h.obj h.top (λx hx=>(h.g x hx).1) h.AD hn
 have htl:=(g_5.1 h.obj).1
 have hle1:=P.le
 have ht1:H1[tr]? =some (kx s o (some a.ad) last ((a.fl l).length:Nat)):=by rw[P.fr tr htl h.nt];exact h.obj
 have hself:H1[a.ad]? =some (dM a'.es (a'.ks.map gN)):=by rw[<-P.ad];exact P.hd.self
 have wc:IntKind.wrap .i64 (((a.fl l).length:Int)+1)=(((pj s e (a.fl l)).length:Nat):Int):=by rw[eu ω,G4]
 have hnt':tr∉a'.ft l:=λhx=>(P.ft tr hx).elim h.nt ω
 by_cases hs:a'.es.length<=o
 .have ti:TI s o last l a' (H1.set tr (kx s o (some a'.ad) last ((a'.fl l).length:Nat))) tr:=
   ⟨g_0 ω,P.hd.fr λj hj=>g_1 λh2=>hnt' (by rw[h2];exact hj),P.bl,hs,λh0=>by have:=h.one h0;omega,hnt',by rw[F1];exact G1,by rw[F1];exact G2,by rw[F1];exact G3⟩
  refine⟨l,a',_,?_,ti,F1,λj hj h1 h2=>by rw[g_1 (j_4 h1)];exact P.fr j hj h2,by simpa using hle1,P.ft⟩
  unfold ey
  refine .af (gr h.obj)<|.af rfl<|.bind E1<|.af (gr ht1)<|.af rfl<|.af (dL hself)<|.af (u7 ht1)<|.f χ<|.af (u9 ht1) ?_
  rw[wc,P.ad,F1]
  exact .af (vK ht1) (.pure _)
 .obtain⟨j,es',ks'⟩:=a'
  have hj:j=a.ad:=P.ad
  have hs: ¬es'.length<=o:=hs
  have Z2:es'.length<=a.es.length+1:=Z2
  have hlen:es'.length=o+1:=by have:=h.top;omega
  have hmid:(o+1) / 2<es'.length:=by have:=S.o3;omega
  obtain⟨L,up,R,rfl,hL⟩: ∃L up R,es'=L++up::R/\L.length=(o+1) / 2:=⟨es'.take ((o+1) / 2),es'[(o+1) / 2],es'.drop ((o+1) / 2+1),vy hmid,χ⟩
  have hRl:R.length=o - (o+1) / 2:=by simp at hlen;omega
  have hk'n:(AT.ft l (.nd j (L++up::R) ks')).Nodup:=oT hm1 P.hd P.bl (by rw[F1];exact tO G2)
  have X:=FK P.hd hk'n P.bl
  have hself:H1[j]? =some (dM (L++up::R) (ks'.map λk=>some k.ad)):=P.hd.self
  have Y:Ev (λf=>ou f j H1) ((up,some H1.length),H1.set j (dM L ((ks'.map λk=>some k.ad).take (L.length+1)))++[dM R ((ks'.map λk=>some k.ad).drop (L.length+1))]):=
   FN hself φ P.hd.kl (show(L++up::R).length<900 by have:=S.Lr;omega)
  generalize hH2:H1.set j (dM L ((ks'.map λk=>some k.ad).take (L.length+1)))++[dM R ((ks'.map λk=>some k.ad).drop (L.length+1))]=H2 at X Y
  obtain⟨x1,x2,x3,x4,x5,x6,x7⟩:=X
  have hl2:H2.length=H1.length+1:=by rw[<-hH2];simp
  have htj:tr≠j:=λh2=>hnt' (by rw[h2];exact eR)
  have ht2:H2[tr]? =some (kx s o (some a.ad) last ((a.fl l).length:Nat)):=by grind
  let N:=AT.nd H2.length [up] [.nd j L (ks'.take (L.length+1)),.nd H1.length R (ks'.drop (L.length+1))]
  let H3:Hp:=H2++[dM [up] [some j,some H1.length]]
  have ht3:H3[tr]? =some (kx s o (some a.ad) last ((a.fl l).length:Nat)):=jP ht2
  let H4:Hp:=H3.set tr (kx s o (some H2.length) last ((a.fl l).length:Nat))
  have hl3:H3.length=H2.length+1:=by simp[H3]
  have ht4:H4[tr]? =some (kx s o (some H2.length) last ((a.fl l).length:Nat)):=g_0 ω
  let H5:Hp:=H4.set tr (kx s o (some H2.length) last ((pj s e (a.fl l)).length:Nat))
  have f5: ∀x,x≠tr->x<H2.length->H5[x]? =H2[x]? :=λx hx hx2=>by
   grind
  have hnl: ∀x∈AT.ft l (.nd j L (ks'.take (L.length+1))),x≠tr:=λx hx h2=>hnt' (by rw[<-h2];exact x6 x hx)
  have hnr: ∀x∈AT.ft l (.nd H1.length R (ks'.drop (L.length+1))),x≠tr:=λx hx h2=>by
   grind
  have hfl:N.fl (l+1)=pj s e (a.fl l):=by
   rw[<-F1,x5]
   simp[N,AT.fl,wv,ws]
  have hft: ∀x∈N.ft (l+1),x∈a.ft l\/H.length<=x:=λx hx=>by
   rcases eK.1 hx with rfl|⟨q,hq,hx⟩
   .right;omega
   .simp only[j_0,List.not_mem_nil,or_false]at hq
    rcases hq with rfl|rfl
    .exact P.ft x (x6 x hx)
    .rcases x7 x hx with h3|h3
     .right;omega
     .exact P.ft x h3
  have ti:TI s o last (l+1) N H5 tr:=by
   refine⟨by rw[hfl];exact g_0 (by simp[H4];omega),⟨rfl,?_,λq hq=>?_⟩,λq hq=>?_,by simp[N,AT.es];have:=S.o3;omega,λ_=>by simp[N,AT.es],λhx=>(hft tr hx).elim h.nt ω,by rw[hfl];exact G1,by rw[hfl];exact G2,by rw[hfl];exact G3⟩
   .show((H3.set tr _).set tr _)[H2.length]? =_
    rw[g_1 ω,g_1 ω]
    exact CB rfl
   .simp only[j_0,List.not_mem_nil,or_false]at hq
    rcases hq with rfl|rfl
    .exact x1.fr λx hx=>f5 x (hnl x hx) (x1.lt x hx)
    .exact x2.fr λx hx=>f5 x (hnr x hx) (x2.lt x hx)
   .simp only[j_0,List.not_mem_nil,or_false]at hq
    have:=S.o3
    rcases hq with rfl|rfl
    .exact⟨by simp[AT.es];omega,by simp[AT.es];omega,x3⟩
    .exact⟨by simp[AT.es];omega,by simp[AT.es];omega,x4⟩
  refine⟨l+1,N,H5,?_,ti,hfl,λx hx h1 h2=>?_,by simp[H5,H4];omega,hft⟩
  .rw[hj]at hself Y
   unfold ey
   refine .af (gr h.obj)<|.af rfl<|.bind E1<|.af (gr ht1)<|.af rfl<|.af (dL hself)<|.af (u7 ht1)<|.t (by simp at hlen ⊢;omega)<|.af (gr ht1)<|.af rfl<|.bind Y<|.af rfl<|.af (a:=(H3,H2.length)) ?_<|
    .af (FB ht3)<|.af (u9 ht4) ?_
   .rw[<-hj];rfl
   .rw[wc]
    exact .af (vK ht4) (.pure _)
  .rw[f5 x h1 ω,<-hH2,h_5 χ,g_1,P.fr x hx h2]
   intro h3
   exact h2 (by rw[<-h3,hj];exact eR)
def CZ(S:SI s o)(h:TI s o last l a H tr)(he:e∈a.fl l)(hl:(a.fl l).length<10000):
  ∃l' a' H',Ev (λf=>fq f tr e H) ((),H')/\TI s o last l' a' H' tr/\a'.fl l'=nh s e (a.fl l)/\FM tr l a l' a' H H':=by
 have hm1:1<=o / 2:=by have:=S.o3;omega
 have hge:=(h.g e he).1
 have hft:(a.ft l).Nodup:=oT hm1 h.hd h.bl (tO h.AD)
 obtain⟨a',H1,E1,P,F1,Z1,Z2⟩:=Pz S.ok rfl S.o3 S.Lr l a H e hge h.hd h.bl hft h.nt h.obj h.top h.one (λx hx=>(h.g x hx).1) h.AD
 have htl:=(g_5.1 h.obj).1
 have hle1:=P.le
 have ht1:H1[tr]? =some (kx s o (some a.ad) last ((a.fl l).length:Nat)):=by rw[P.fr tr htl h.nt];exact h.obj
 have hself:H1[a.ad]? =some (dM a'.es (a'.ks.map gN)):=by rw[<-P.ad];exact P.hd.self
 have hdl:=Od h.AD (λx hx=>(h.g x hx).1) he
 have wc:IntKind.wrap .i64 (((a.fl l).length:Int) - 1)=(((nh s e (a.fl l)).length:Nat):Int):=by rw[dq ω ω];omega
 have hnt':tr∉a'.ft l:=λhx=>(P.ft tr hx).elim h.nt ω
 have G1: ∀x∈nh s e (a.fl l),gE s x/\x.Number<=last:=λx hx=>h.g x (Bi.1 hx).1
 have G2:zk s (nh s e (a.fl l)):=GX h.AD
 have G3:((nh s e (a.fl l)).map (·.Number)).Nodup:=h.num.sublist (tc.map _)
 have stay:(l≠0->1<=a'.es.length)->TI s o last l a' (H1.set tr (kx s o (some a'.ad) last ((a'.fl l).length:Nat))) tr:=λh1=>
  ⟨g_0 ω,P.hd.fr λj hj=>g_1 λh2=>hnt' (by rw[h2];exact hj),P.bl,by have:=h.top;omega,h1,hnt',by rw[F1];exact G1,by rw[F1];exact G2,by rw[F1];exact G3⟩
 have fm: ∀H2:Hp,H2.length=H1.length->(∀j,j≠tr->H2[j]? =H1[j]?)->(∀j,j<H.length->j≠tr->j∉a.ft l->H2[j]? =H[j]?)/\H.length<=H2.length:=λH2 e1 e2=>⟨λj hj h1 h2=>by rw[e2 j h1];exact P.fr j hj h2,ω⟩
 have same: ∀{c:Bool},Ev (λf=>bif ((a'.es.length:Int)==0)then(bz cP.cell H1 tr 4).bind λx9=>x9.bind λi10=>(cJ f i10 H1).bind λr11=>some (!r11)else some false) false->
   (l≠0->1<=a'.es.length)-> ∃l' a'' H',Ev (λf=>fq f tr e H) ((),H')/\TI s o last l' a'' H' tr/\a''.fl l'=nh s e (a.fl l)/\FM tr l a l' a'' H H':=λ{c} hE h1=>by
  have q:=fm (H1.set tr (kx s o (some a'.ad) last ((a'.fl l).length:Nat))) ψ λj hj=>g_1 (j_4 hj)
  refine⟨l,a',_,?_,stay h1,F1,q.1,q.2,P.ft⟩
  unfold fq
  refine .af (gr h.obj)<|.af rfl<|.bind E1<|.bp<|.af (gr ht1)<|.af rfl<|.af (dL hself) ?_
  by_cases h0:a'.es.length=0
  .have hz:((a'.es.length:Int)==0)=true:=by simp[h0]
   refine .t hz<|.af (gr ht1)<|.af rfl ?_
   have lf:=eo hself
   have hE':Ev (λf=>(bz cP.cell H1 tr 4).bind λx9=>x9.bind λi10=>(cJ f i10 H1).bind λr11=>some (!r11)) false:=by
    grind
   have lf2:Ev (λf=>(bz cP.cell H1 tr 4).bind λx9=>x9.bind λi10=>(cJ f i10 H1).bind λr11=>some (!r11)) (!decide (a'.ks.map gN=[])):=.af (gr ht1)<|.af rfl<|.bind lf (.pure _)
   have:=lf2.UM hE'
   refine .bind lf<|.f this<|.af (u9 ht1) ?_
   rw[wc,P.ad,F1]
   exact .af (vK ht1) (.pure _)
  .refine .f (by simpa using h0)<|.f rfl<|.af (u9 ht1) ?_
   rw[wc,P.ad,F1]
   exact .af (vK ht1) (.pure _)
 by_cases h0:a'.es.length=0/\l≠0
 .obtain⟨h0,hl0⟩:=h0
  obtain⟨i,es,ks⟩:=a'
  obtain⟨l,rfl⟩: ∃k,l=k+1:=⟨l - 1,ω⟩
  have h0:es.length=0:=h0
  have hes:es=[]:=q_0.1 h0
  subst hes
  have hk:=P.hd.1
  match ks,hk with
  |[k],_=>
   have hkb:=P.bl k ψ
   have hkh:=P.hd.2.2 k ψ
   have hkt: ∀x∈k.ft l,x∈AT.ft (l+1) (.nd i [] [k]):=λx hx=>eK.2 (.inr ⟨k,ψ,hx⟩)
   have hkfl:k.fl l=nh s e (a.fl (l+1)):=by rw[<-F1];simp[AT.fl,wv,ws]
   let H2:Hp:=H1.set tr (kx s o (some k.ad) last ((a.fl (l+1)).length:Nat))
   have ht2:H2[tr]? =some (kx s o (some k.ad) last ((a.fl (l+1)).length:Nat)):=g_0 ω
   let H3:Hp:=H2.set tr (kx s o (some k.ad) last ((nh s e (a.fl (l+1))).length:Nat))
   have f3: ∀x,x≠tr->H3[x]? =H1[x]? :=λx hx=>by
    grind
   have ti:TI s o last l k H3 tr:=⟨φ,hkh.fr λx hx=>f3 x λh2=>hnt' (by rw[<-h2];exact hkt x hx),hkb.2.2,hkb.2.1,λ_=>by omega,λhx=>hnt' (hkt tr hx),
    by rw[hkfl];exact G1,by rw[hkfl];exact G2,by rw[hkfl];exact G3⟩
   have q:=fm H3 (by simp[H3,H2]) f3
   refine⟨l,k,H3,?_,ti,hkfl,q.1,q.2,λx hx=>P.ft x (hkt x hx)⟩
   unfold fq
   refine .af (gr h.obj)<|.af rfl<|.bind E1<|.bp<|.af (gr ht1)<|.af rfl<|.af (dL hself)<|.t rfl<|.af (gr ht1)<|.af rfl<|.bind (eo hself)<|.t rfl<|
    .af (gr ht1)<|.af rfl<|.af (dK hself)<|.af (show idx _ 0=some (some k.ad)from rfl)<|.af (FB ht1)<|.af (u9 ht2) ?_
   rw[wc]
   exact .af (vK ht2) (.pure _)
 .refine same (c:=true) ?_ λhl0=>by omega
  by_cases hz:a'.es.length=0
  .have hl0:l=0:=by omega
   subst hl0
   have hks:a'.ks=[]:=by
    have:=P.hd
    cases a'
    exact this.1
   refine .t (by simp[hz])<|.af (gr ht1)<|.af rfl<|.bind (eo hself) ?_
   simp only[hks]
   exact .pure _
  .exact .f (by simpa using hz) (.pure _)
end
set_option maxRecDepth 100000
def jJ(s:ay)(row:List Value)(key:Int):Bool:=bH s.aD row&&(decide (1<=key)&&decide (key<=1000000))
def wC(s:ay)(row:List Value)(key:Int)(last:Int)(fl:List Entry):(Int×Int)×Int×List Entry:=
 if jJ s row key=false then((0,1),last,fl)
 else if s.ee=1/\fl.any (pQ s row)=true then((0,6),last,fl)
 else((last+1,0),last+1,pj s ⟨row,key,last+1⟩ fl)
def FX(s:ay)(row:List Value)(key:Int)(fl:List Entry):Int×List Entry:=
 if jJ s row key=false then(1,fl)
 else match s9 (uy s row key) fl with
  |none=>(8,fl)
  |some (_,e)=>(0,nh s e fl)
def zC(s:ay)(row:List Value)(key:Int)(wth:List Value)(last:Int)(fl:List Entry):Int×Int×List Entry:=
 if jJ s row key=false\/bH s.aD wth=false then(1,last,fl)
 else match s9 (uy s row key) fl with
  |none=>(8,last,fl)
  |some (_,e)=>if dD s.Down row wth=0 then(0,last,fl)
   else if s.ee=1/\fl.any (pQ s wth)=true then(6,last,fl)
   else(0,last+1,pj s ⟨wth,key,last+1⟩ (nh s e fl))
def mo{p:Entry->Bool}: ∀{l:List Entry} {n:Nat} {e:Entry},s9 p l=some (n,e)->l[n]? =some e/\p e=true
 |[],_,_,h=>by simp[s9]at h
 |x::l,n,e,h=>by
  simp only[s9]at h
  split at h
  .grind
  .simp only[g_2,g_8]at h
   obtain⟨⟨n',e'⟩,h1,rfl,rfl⟩:=h
   have:=mo h1
   grind
section
variable {s:ay} {o l tr:Nat} {last:Int} {a:AT} {H:Hp}
def Oj(f:Nat)(h:r.length<1000):dv f r=some r:=Ky f h
def pw(h:TI s o last l a H tr)(hr:row.length<1000):Ev (λf=>eD f tr row key H) (if jJ s row key=true then 0 else 1):=by
 unfold eD jJ
 refine .af (ic h.obj)<|.bind (wJ s row hr) ?_
 cases bH s.aD row with
 |false=>exact .t rfl (.pure _)
 |true=>
  refine .f rfl ?_
  refine .af (IK 0 key) ?_
  cases hk:(decide (1<=key)&&decide (key<=1000000))with
  |false=>exact .t rfl (.pure _)
  |true=>exact .f rfl (.pure _)
def kJ(h:jJ s row key=true):bH s.aD row=true/\1<=key/\key<=1000000:=by
 simp only[jJ,g_3,decide_eq_true_eq]at h
 exact⟨h.1,h.2.1,h.2.2⟩
def TI.next(h:TI s o last l a H tr):TI s o (last+1) l a (H.set tr (kx s o (some a.ad) (last+1) ((a.fl l).length:Nat))) tr/\FM tr l a l a H (H.set tr (kx s o (some a.ad) (last+1) ((a.fl l).length:Nat))):=
 ⟨{h with obj:=g_0 (g_5.1 h.obj).1,hd:=h.hd.fr λj hj=>g_1 λh2=>h.nt (by rw[h2];exact hj),g:=λx hx=>⟨(h.g x hx).1,by have:=(h.g x hx).2;omega⟩},
  λj hj h1 h2=>g_1 (j_4 h1),ψ,λj hj=>.inl hj⟩
def OI(S:SI s o)(h:TI s o last l a H tr)(hr:row.length<1000)(ha:bH s.aD row=true)(hk:1<=key/\key<=1000000)(hd:s.ee=1-> ∀x∈a.fl l,dD s.Down x.Row row≠0)(h0:0<=last)(h1:last<10000)(hl:(a.fl l).length<10000):
  ∃l' a' H' H1,dW (cI .i64) H tr 5 (IntKind.wrap .i64 (last+1))=some H1/\bz (cI .i64).cell H1 tr 5=some (last+1)/\Ev (λf=>ey f tr (⟨row,key,last+1⟩:Entry) H1) ((),H')/\TI s o (last+1) l' a' H' tr/\a'.fl l'=pj s ⟨row,key,last+1⟩ (a.fl l)/\FM tr l a l' a' H H':=by
 obtain⟨t1,f1⟩:=h.next
 have he:gE s ⟨row,key,last+1⟩:=⟨by simp[qZ,ha,hk.1,hk.2];omega,by unfold i64;simp only;omega⟩
 obtain⟨l',a',H',E,T,F,M⟩:=LH S t1 he ψ (λx hx h2=>by have:=(h.g x hx).2;simp only at h2;omega) hd hl
 exact⟨l',a',H',_,by rw[dq ω ω];exact MS h.obj,tK t1.obj,E,T,F,f1.trans M⟩
def Ay(S:SI s o)(h:TI s o last l a H tr)(hr:row.length<1000)(h0:0<=last)(h1:last<10000)(hl:(a.fl l).length<500):
  ∃l' a' H',Ev (λf=>eB f tr row key H) ((wC s row key last (a.fl l)).1,H')/\TI s o (wC s row key last (a.fl l)).2.1 l' a' H' tr/\a'.fl l'=(wC s row key last (a.fl l)).2.2/\FM tr l a l' a' H H':=by
 have A:=pw h (key:=key) hr
 unfold wC
 cases hk:jJ s row key with
 |false=>
  rw[hk]at A
  simp only[g_7,if_false,if_true]at A ⊢
  refine⟨l,a,H,?_,h,rfl,.of (λ_ _=>rfl) (g_9 _)⟩
  unfold eB
  exact .bind A<|.t rfl (.pure _)
 |true=>
  rw[hk]at A
  simp only[Bool.true_eq_false,if_false,if_true]at A ⊢
  obtain⟨k1,k2⟩:=kJ hk
  have add: ∀{H0:Hp},TI s o last l a H0 tr->FM tr l a l a H H0->(s.ee=1-> ∀x∈a.fl l,dD s.Down x.Row row≠0)->
    ∃l' a' H',Ev (λf=>(bz (cI .i64).cell H0 tr 5).bind λx8=>(dW (cI .i64) H0 tr 5 (IntKind.wrap .i64 (x8+1))).bind λH9=>(dv f row).bind λr10=>(bz (cI .i64).cell H9 tr 5).bind λx11=>
     (ey f tr (⟨r10,key,x11⟩:Entry) H9).bind λr12=>(bz (cI .i64).cell r12.2 tr 5).bind λx13=>some ((x13,(0:Int)),r12.2)) ((last+1,0),H')/\TI s o (last+1) l' a' H' tr/\a'.fl l'=pj s ⟨row,key,last+1⟩ (a.fl l)/\FM tr l a l' a' H H':=by
   intro H0 t0 f0 hd
   obtain⟨l',a',H',H1,e1,e2,E,T,F,M⟩:=OI S t0 (key:=key) hr k1 k2 hd h0 h1 ω
   exact⟨l',a',H',.af (tK t0.obj)<|.af e1<|.bind (.of λn=>Oj n hr)<|.af e2<|.bind E<|.af (tK T.obj) (.pure _),T,F,f0.trans M⟩
  have lim: ∀{H0:Hp},TI s o last l a H0 tr->decide (((a.fl l).length:Int)>=500)=false:=λ_=>by simp;omega
  by_cases hd:s.ee=1
  .obtain⟨H0,E0,F0,L0⟩:=NT S h k1
   have t0:=h.fr F0
   have m0:FM tr l a l a H H0:=.of F0 L0
   cases hh:(a.fl l).any (pQ s row)with
   |true=>
    rw[hh]at E0
    rw[if_pos ⟨hd,rfl⟩]
    refine⟨l,a,H0,?_,t0,rfl,m0⟩
    unfold eB
    exact .bind A<|.f rfl<|.bp<|.af (xr h.obj)<|.t (by simp[hd])<|.bind E0<|.t rfl (.pure _)
   |false=>
    rw[hh]at E0
    rw[if_neg ψ]
    obtain⟨l',a',H',E,T,F,M⟩:=add t0 m0 λ_ x hx h2=>by
     have:=List.any_eq_false.1 hh x hx
     simp[pQ,h2]at this
    refine⟨l',a',H',?_,T,F,M⟩
    unfold eB
    exact .bind A<|.f rfl<|.bp<|.af (xr h.obj)<|.t (by simp[hd])<|.bind E0<|.f rfl<|.af (u9 t0.obj)<|.f (lim t0) E
  .rw[if_neg λh2=>hd h2.1]
   obtain⟨l',a',H',E,T,F,M⟩:=add h (.of (λ_ _=>rfl) (g_9 _)) λh2=>absurd h2 hd
   refine⟨l',a',H',?_,T,F,M⟩
   unfold eB
   exact .bind A<|.f rfl<|.bp<|.af (xr h.obj)<|.f (by simpa using hd)<|.af (u9 h.obj)<|.f (lim h) E
def Iq(S:SI s o)(h:TI s o last l a H tr)(hr:row.length<1000)(hl:(a.fl l).length<500):
  ∃l' a' H',Ev (λf=>gG f tr row key H) ((FX s row key (a.fl l)).1,H')/\TI s o last l' a' H' tr/\a'.fl l'=(FX s row key (a.fl l)).2/\FM tr l a l' a' H H':=by
 have A:=pw h (key:=key) hr
 unfold FX
 cases hk:jJ s row key with
 |false=>
  rw[hk]at A
  simp only[g_7,if_false,if_true]at A ⊢
  refine⟨l,a,H,?_,h,rfl,.of (λ_ _=>rfl) (g_9 _)⟩
  unfold gG
  exact .bind A<|.t rfl (.pure _)
 |true=>
  rw[hk]at A
  simp only[Bool.true_eq_false,if_false,if_true]at A ⊢
  obtain⟨H0,E0,F0,L0⟩:=zW S h (kJ hk).1 key ω
  have t0:=h.fr F0
  have m0:FM tr l a l a H H0:=.of F0 L0
  cases hf:s9 (uy s row key) (a.fl l)with
  |none=>
   rw[hf]at E0
   refine⟨l,a,H0,?_,t0,rfl,m0⟩
   unfold gG
   exact .bind A<|.f rfl<|.bind E0<|.t rfl (.pure _)
  |some q=>
   obtain⟨n,e⟩:=q
   rw[hf]at E0
   obtain⟨l',a',H',E,T,F,M⟩:=CZ S t0 (k_9 (mo hf).1) ω
   refine⟨l',a',H',?_,T,F,m0.trans M⟩
   unfold gG
   exact .bind A<|.f rfl<|.bind E0<|.f rfl<|.bind E (.pure _)
def Lg(S:SI s o)(h:TI s o last l a H tr)(hr:row.length<1000)(hw:wth.length<1000)(h0:0<=last)(h1:last<10000)(hl:(a.fl l).length<500):
  ∃l' a' H',Ev (λf=>eG f tr row key wth H) ((zC s row key wth last (a.fl l)).1,H')/\TI s o (zC s row key wth last (a.fl l)).2.1 l' a' H' tr/\a'.fl l'=(zC s row key wth last (a.fl l)).2.2/\FM tr l a l' a' H H':=by
 have A:=pw h (key:=key) hr
 have hS:=gO S.ok
 unfold zC
 have bad:(jJ s row key=false\/bH s.aD wth=false)->Ev (λf=>eG f tr row key wth H) (1,H):=λhb=>by
  unfold eG
  refine .bind A<|.bp ?_
  cases hk:jJ s row key with
  |false=>exact .t rfl<|.t rfl (.pure _)
  |true=>
   have hz:=hb.resolve_left (by simp[hk])
   have W:=wJ s wth hw
   rw[hz]at W
   exact .f rfl<|.af (ic h.obj)<|.bind W<|.t rfl (.pure _)
 by_cases hb:jJ s row key=false\/bH s.aD wth=false
 .rw[if_pos hb]
  exact⟨l,a,H,bad hb,h,rfl,.of (λ_ _=>rfl) (g_9 _)⟩
 .rw[if_neg hb]
  simp only[not_or,Bool.not_eq_false]at hb
  obtain⟨hk,hz⟩:=hb
  obtain⟨k1,k2⟩:=kJ hk
  rw[hk]at A
  have W:=wJ s wth hw
  rw[hz]at W
  obtain⟨H0,E0,F0,L0⟩:=zW S h k1 key ω
  have t0:=h.fr F0
  have m0:FM tr l a l a H H0:=.of F0 L0
  cases hf:s9 (uy s row key) (a.fl l)with
  |none=>
   rw[hf]at E0
   refine⟨l,a,H0,?_,t0,rfl,m0⟩
   unfold eG
   exact .bind A<|.bp<|.f rfl<|.af (ic h.obj)<|.bind W<|.f rfl<|.bind E0<|.bp<|.t rfl (.pure _)
  |some q=>
   obtain⟨n,e⟩:=q
   rw[hf]at E0
   have hem:=k_9 (mo hf).1
   have R:=nE s hS.2 k1 hz hS.1
   by_cases hc:dD s.Down row wth=0
   .simp only[hc,if_true]
    refine⟨l,a,H0,?_,t0,rfl,m0⟩
    unfold eG
    exact .bind A<|.bp<|.f rfl<|.af (ic h.obj)<|.bind W<|.f rfl<|.bind E0<|.bp<|.f rfl<|.af (ic t0.obj)<|.bind R<|.t (by simp[hc]) (.pure _)
   .simp only[hc,if_false]
    have put: ∀{H1:Hp},TI s o last l a H1 tr->FM tr l a l a H H1->(s.ee=1-> ∀x∈a.fl l,dD s.Down x.Row wth≠0)->
      ∃l' a' H',Ev (λf=>(fq f tr e H1).bind λr13=>(bz (cI .i64).cell r13.2 tr 5).bind λx14=>(dW (cI .i64) r13.2 tr 5 (IntKind.wrap .i64 (x14+1))).bind λH15=>(dv f wth).bind λr16=>
       (bz (cI .i64).cell H15 tr 5).bind λx17=>(ey f tr (⟨r16,key,x17⟩:Entry) H15).bind λr18=>some ((0:Int),r18.2)) (0,H')/\TI s o (last+1) l' a' H' tr/\a'.fl l'=pj s ⟨wth,key,last+1⟩ (nh s e (a.fl l))/\FM tr l a l' a' H H':=by
     intro H1 t1 m1 hd
     obtain⟨l2,a2,H2,E2,T2,F2,M2⟩:=CZ S t1 hem ω
     have hlen:(a2.fl l2).length<=(a.fl l).length:=by rw[F2];exact tc.length_le
     obtain⟨l3,a3,H3,H3',e1,e2,E3,T3,F3,M3⟩:=OI S T2 (key:=key) hw hz k2 (λh2 x hx=>hd h2 x (by rw[F2]at hx;exact(Bi.1 hx).1)) h0 h1 ω
     exact⟨l3,a3,H3,.bind E2<|.af (tK T2.obj)<|.af e1<|.bind (.of λn=>Oj n hw)<|.af e2<|.bind E3 (.pure _),T3,by rw[F3,F2],(m1.trans M2).trans M3⟩
    by_cases hd:s.ee=1
    .obtain⟨H1,E1,G1,L1⟩:=NT S t0 hz
     have t1:=t0.fr G1
     have m1:FM tr l a l a H H1:=m0.trans (.of G1 L1)
     cases hh:(a.fl l).any (pQ s wth)with
     |true=>
      rw[hh]at E1
      rw[if_pos ⟨hd,rfl⟩]
      refine⟨l,a,H1,?_,t1,rfl,m1⟩
      unfold eG
      exact .bind A<|.bp<|.f rfl<|.af (ic h.obj)<|.bind W<|.f rfl<|.bind E0<|.bp<|.f rfl<|.af (ic t0.obj)<|.bind R<|.f (by simpa using hc)<|.af (xr t0.obj)<|.t (by simp[hd])<|.bind E1<|.t rfl (.pure _)
     |false=>
      rw[hh]at E1
      rw[if_neg ψ]
      obtain⟨l',a',H',E,T,F,M⟩:=put t1 m1 λ_ x hx h2=>by
       have:=List.any_eq_false.1 hh x hx
       simp[pQ,h2]at this
      refine⟨l',a',H',?_,T,F,M⟩
      unfold eG
      exact .bind A<|.bp<|.f rfl<|.af (ic h.obj)<|.bind W<|.f rfl<|.bind E0<|.bp<|.f rfl<|.af (ic t0.obj)<|.bind R<|.f (by simpa using hc)<|.af (xr t0.obj)<|.t (by simp[hd])<|.bind E1<|.f rfl E
    .rw[if_neg λh2=>hd h2.1]
     obtain⟨l',a',H',E,T,F,M⟩:=put t0 m0 λh2=>absurd h2 hd
     refine⟨l',a',H',?_,T,F,M⟩
     unfold eG
     exact .bind A<|.bp<|.f rfl<|.af (ic h.obj)<|.bind W<|.f rfl<|.bind E0<|.bp<|.f rfl<|.af (ic t0.obj)<|.bind R<|.f (by simpa using hc)<|.af (xr t0.obj)<|.f (by simpa using hd) E
end
set_option maxRecDepth 100000
def Oi(hk:v.Kind=w.Kind):iU w v= - iU v w:=by
 unfold iU
 rw[hk]
 split
 .omega
 .exact wO _ _
def Ds(hk:v.Kind=w.Kind):te d v w=0<->iU v w=0:=by
 unfold te
 cases d with
 |false=>simp
 |true=>rw[if_pos rfl,Oi hk];omega
section
variable {s:ay}
def zQ(hS:rD s=true)(ha:bH s.aD a=true)(hb:bH s.aD b=true):Ev (λf=>jC f a b) (dD s.Down a b==0):=by
 have hs:=gO hS
 have la:=fi ha
 have lb:=fi hb
 have L: ∀(d k:Nat),k+d=a.length->(dD (s.Down.drop k) (a.drop k) (b.drop k)=0->mH (λf=>cC f a b) (k:Int) (.inl ()))/\
   (dD (s.Down.drop k) (a.drop k) (b.drop k)≠0-> ∃c,c≠0/\mH (λf=>cC f a b) (k:Int) (.inr c)):=by
  intro d
  induction d with
  |zero=>
   intro k hk
   have e:dD (s.Down.drop k) (a.drop k) (b.drop k)=0:=by
    rw[List.drop_eq_nil_of_le (show a.length<=k by omega)]
    cases s.Down.drop k<;>rfl
   refine⟨λ_=>.stop ?_,λh=>absurd e h⟩
   unfold cC
   exact .bp<|.f (oF ω)<|.f rfl (.pure _)
  |succ d ih=>
   intro k hk
   have k1:k<a.length:=by omega
   have k2:k<b.length:=by omega
   have k3:k<s.Down.length:=by omega
   have fa:=mq ha k ω k1
   have fb:=mq hb k ω k2
   have hkk:a[k].Kind=b[k].Kind:=by rw[fa.1,fb.1]
   have C:=vA fa.2 fb.2 hkk
   rw[aZ k1,aZ k2,aZ k3]
   simp only[dD]
   have pre: ∀{x},Ev (λf=>bif (sj (iU a[k] b[k]) !=0)then some (Sum.inr (.inr (sj (iU a[k] b[k]))))else some (.inl ((k+1:Nat):Int))) x->Ev (λf=>cC f a b (k:Int)) x:=λhE=>by
    unfold cC
    refine .bp<|.t (gw k1)<|.t (gw k2)<|.af (aN k1)<|.af (aN k2)<|.bind C ?_
    rw[eu ω]
    exact hE
   by_cases hz:iU a[k] b[k]=0
   .rw[if_pos ((Ds hkk).2 hz)]
    have st:=pre (.f (by simp[hz,sj]) (.pure _))
    obtain⟨i1,i2⟩:=ih (k+1) ω
    refine⟨λh=>.next st (i1 h),λh=>?_⟩
    obtain⟨c,hc,e⟩:=i2 h
    exact⟨c,hc,.next st e⟩
   .have hz':=mt (Ds (d:=s.Down[k]) hkk).1 hz
    rw[if_neg hz']
    have hsg:sj (iU a[k] b[k])≠0:=mt (qn _).1 hz
    exact⟨λh=>absurd h hz',λ_=>⟨_,hsg,.stop (pre (.t (by simpa using hsg) (.pure _)))⟩⟩
 obtain⟨L1,L2⟩:=L a.length 0 ω
 simp only[q_5]at L1 L2
 unfold jC gv
 by_cases hz:dD s.Down a b=0
 .refine .bind (a:=0) (.bind (L1 hz).ev<|.bind (a:=0) (.of λn=>?_) (.pure _)) ?_
  .rw[zR,show((a.length:Int) - b.length)=0 by omega];rfl
  .rw[hz];exact .pure _
 .obtain⟨c,hc,e⟩:=L2 hz
  refine .bind (a:=c) (.bind e.ev (.pure _)) ?_
  rw[show(dD s.Down a b==0)=(c==0)by grind]
  exact .pure _
variable {o:Int} {last:Int} {fl:List Entry}
def PR(hS:rD s=true)(hr:bH s.aD row=true)(hg: ∀e∈fl,gE s e)(hl:fl.length<1000):Ev (λf=>pb f (⟨s,o,fl,last⟩:Tree) row) (fl.any (pQ s row)):=by
 have L: ∀(q:List Entry) (k:Nat),fl.drop k=q->k<=fl.length->mH (λf=>iZ f (⟨s,o,fl,last⟩:Tree) row) (k:Int) (if q.any (pQ s row)then .inr true else .inl ()):=by
  intro q
  induction q with
  |nil=>
   intro k hd hk
   have hk2:fl.length<=k:=by simpa using hd
   refine .stop ?_
   unfold iZ
   exact .f (oF hk2) (.pure _)
  |cons e q ih=>
   intro k hd hk
   have hk1:k<fl.length:=by
    grind
   have hek:fl[k]=e:=by rw[aZ hk1]at hd;exact(h_7 hd).1
   have hdl:fl.drop (k+1)=q:=by rw[aZ hk1]at hd;exact(h_7 hd).2
   have R:=zQ hS (hg e (hek▸j_1 hk1)).fit hr
   have pre: ∀{x},Ev (λf=>bif (dD s.Down e.Row row==0)then some (Sum.inr (.inr true))else some (.inl ((k+1:Nat):Int))) x->Ev (λf=>iZ f (⟨s,o,fl,last⟩:Tree) row (k:Int)) x:=λhE=>by
    unfold iZ
    refine .t (gw hk1)<|.af (aN hk1) ?_
    rw[hek,eu ω]
    exact .bind R hE
   rw[List.any_cons]
   by_cases hc:pQ s row e=true
   .rw[hc,Bool.true_or,if_pos rfl]
    exact .stop (pre (.t hc (.pure _)))
   .rw[show pQ s row e=false by simpa using hc,Bool.false_or]
    exact .next (pre (.f (by simpa[pQ]using hc) (.pure _))) (ih (k+1) hdl ω)
 unfold pb
 refine .bind (L fl 0 rfl ω).ev ?_
 cases fl.any (pQ s row)<;>exact .pure _
def S5:Option (Nat×Entry)->Int
 |some (n,_)=>(n:Int)
 |none=> -1
def Ee(hS:rD s=true)(hr:bH s.aD row=true)(hg: ∀e∈fl,gE s e)(hl:fl.length<1000):Ev (λf=>ly f (⟨s,o,fl,last⟩:Tree) row key) (S5 (s9 (uy s row key) fl)):=by
 have L: ∀(q:List Entry) (k:Nat),fl.drop k=q->k<=fl.length->mH (λf=>iz f (⟨s,o,fl,last⟩:Tree) row key) (k:Int) (match s9 (uy s row key) q with|some (n,_)=>.inr ((k+n:Nat):Int)|none=>.inl ()):=by
  intro q
  induction q with
  |nil=>
   intro k hd hk
   have hk2:fl.length<=k:=by simpa using hd
   refine .stop ?_
   unfold iz
   exact .f (oF hk2) (.pure _)
  |cons e q ih=>
   intro k hd hk
   have hk1:k<fl.length:=by
    grind
   have hek:fl[k]=e:=by rw[aZ hk1]at hd;exact(h_7 hd).1
   have hdl:fl.drop (k+1)=q:=by rw[aZ hk1]at hd;exact(h_7 hd).2
   have R:=zQ hS (hg e (hek▸j_1 hk1)).fit hr
   have ih':=ih (k+1) hdl ω
   by_cases hm:uy s row key e=true
   .have hf:s9 (uy s row key) (e::q)=some (0,e):=by simp[s9,hm]
    rw[hf]
    simp only[uy,g_3,pQ]at hm
    refine .stop ?_
    unfold iz
    refine .t (gw hk1)<|.af (aN hk1) ?_
    rw[hek]
    refine .t hm.1<|.af (aN hk1) ?_
    rw[hek]
    exact .bind R<|.t hm.2 (.pure _)
   .have hf:s9 (uy s row key) (e::q)=(s9 (uy s row key) q).map λq=>(q.1+1,q.2):=by simp[s9,hm]
    have st:Ev (λf=>iz f (⟨s,o,fl,last⟩:Tree) row key (k:Int)) (.inl ((k+1:Nat):Int)):=by
     simp only[uy,g_3,not_and,pQ]at hm
     unfold iz
     refine .t (gw hk1)<|.af (aN hk1) ?_
     rw[hek,eu ω]
     by_cases h1:(e.Key==key)=true
     .refine .t h1<|.af (aN hk1) ?_
      rw[hek]
      exact .bind R<|.f (by simpa using hm h1) (.pure _)
     .exact .f (by simpa using h1) (.pure _)
    rw[hf]
    refine .next st ?_
    cases hq:s9 (uy s row key) q with
    |none=>rw[hq]at ih';exact ih'
    |some z=>
     grind
 unfold ly
 refine .bind (L fl 0 rfl ω).ev ?_
 cases s9 (uy s row key) fl with
 |none=>exact .pure _
 |some q=>obtain⟨n,x⟩:=q;simp only[q_2];exact .pure _
def Ni(hS:rD s=true)(he:gE s e)(hg: ∀x∈A++B,gE s x)(hA: ∀x∈A,cU s x e<0)(hB: ∀x∈B,0<=cU s x e)(hl:(A++B).length<1000):
  Ev (λf=>lu f (⟨s,o,A++B,last⟩:Tree) e) (⟨s,o,A++e::B,last⟩:Tree):=by
 have L: ∀(d k:Nat),k+d=A.length->mH (λf=>jz f (⟨s,o,A++B,last⟩:Tree) e) (k:Int) (A.length:Int):=by
  intro d
  induction d with
  |zero=>
   intro k hk
   have hk:k=A.length:=by omega
   subst hk
   refine .stop ?_
   unfold jz
   by_cases hb:A.length<(A++B).length
   .have hx:=hg _ (j_1 hb)
    have hge:0<=cU s (A++B)[A.length] e:=by grind
    exact .t (gw hb)<|.af (aN hb)<|.bind (vo hS hx.fit he.fit)<|.f (decide_eq_false (show ¬cU s (A++B)[A.length] e<0 by omega)) (.pure _)
   .exact .f (oF (show(A++B).length<=A.length by omega)) (.pure _)
  |succ d ih=>
   intro k hk
   have hka:k<A.length:=by omega
   have hb:k<(A++B).length:=by simp;omega
   have hx:=hg _ (j_1 hb)
   have hlt:cU s (A++B)[k] e<0:=by grind
   refine .next ?_ (ih (k+1) ω)
   unfold jz
   refine .t (gw hb)<|.af (aN hb)<|.bind (vo hS hx.fit he.fit)<|.t (by simpa using hlt) ?_
   rw[eu ω]
   exact .pure _
 have hl2:A.length+B.length<1000:=by simpa using hl
 unfold lu
 refine .bind (L A.length 0 ω).ev<|.et (oL ψ)<|.et ?_<|.et ?_<|.et (oM ψ)<|.et ?_ ?_
 .simp only[rm,room,decide_eq_true_eq];simp;omega
 .simp only[rm,room,decide_eq_true_eq];simp;omega
 .rw[vR ψ];simp only[rm,room,decide_eq_true_eq];simp;omega
 .rw[vR ψ,rm]
  simp only[List.take_left',List.drop_left',m_4,j_3,m_6]
  exact .pure _
def yL(hn:n=A.length)(hl:(A++e::B).length<1000):Ev (λf=>gh f (⟨s,o,A++e::B,last⟩:Tree) (n:Int)) (⟨s,o,A++B,last⟩:Tree):=by
 subst hn
 have hl2:A.length+B.length<1000:=by simp at hl;omega
 have e1:sl (A++e::B) 0 (A.length:Int)=A:=by rw[rm];simp
 have e2:sl (A++e::B) ((A.length+1:Nat):Int) ((A++e::B).length:Int)=B:=by
  rw[vR ψ,show A++e::B=(A++[e])++B by simp,List.drop_left' ψ]
 unfold gh
 simp only[eu (show A.length<1000000000 by omega)]
 refine .et (oL ψ)<|.et ?_<|.et (oM ψ)<|.et ?_ ?_
 .rw[e1];exact decide_eq_true (show A.length<=16777216 by omega)
 .rw[e1,e2];exact decide_eq_true (show(A++B).length<=16777216 by simp;omega)
 .rw[e1,e2];exact .pure _
end
set_option maxRecDepth 100000
structure FL(s:ay)(last:Int)(fl:List Entry):Prop where
 g: ∀x∈fl,gE s x/\x.Number<=last
 AD:zk s fl
section
variable {s:ay} {o:Nat} {last:Int} {fl:List Entry}
def tQ(S:SI s o)(hr:row.length<1000){β:Type}{b:Nat->Bool->Option β}{r:β}(h:Ev (λn=>b n (!jJ s row key)) r):
  Ev (λn=>bp (b n) λjp=>(oo n s row).bind λr3=>bif (!r3)then jp true else(sI n key).bind λr4=>jp (!r4)) r:=by
 refine .bp<|.bind (tU s row S.ok hr) ?_
 unfold jJ at h
 cases hf:bH s.aD row with
 |false=>rw[hf]at h;exact .t rfl h
 |true=>
  rw[hf,j_7]at h
  refine .f rfl<|.af (Ec 0 key) h
def Kh{p:Entry->Bool}(h:s9 p fl=some (n,e)): ∃A B,fl=A++e::B/\n=A.length:=by
 have h1:=(mo h).1
 obtain⟨h2,h3⟩:=g_5.1 h1
 exact⟨fl.take n,fl.drop (n+1),by rw[<-h3];exact vy h2,χ⟩
def Ks(F:FL s last fl)(h:fl=A++e::B):nh s e fl=A++B:=by
 subst h
 have hs:=F.AD
 unfold zk at hs
 rw[j_9,j_6]at hs
 have hge:=(F.g e ψ).1
 exact td (λx hx=>tt (hs.2.2 x hx e ψ)) (jZ e) λx hx=>lG hge (F.g x (by simp[hx])).1 hge (hs.2.1.1 x hx) (by rw[jZ];omega)
def AX(S:SI s o)(F:FL s last fl)(hr:row.length<1000)(h0:0<=last)(h1:last<10000)(hl:fl.length<500):
  Ev (λf=>ja f (⟨s,o,fl,last⟩:Tree) row key) ((⟨s,o,(wC s row key last fl).2.2,(wC s row key last fl).2.1⟩:Tree),(wC s row key last fl).1.1,(wC s row key last fl).1.2):=by
 have hg:=λx hx=>(F.g x hx).1
 unfold ja
 refine .bp<|tQ S hr ?_
 unfold wC
 cases hk:jJ s row key with
 |false=>rw[if_pos rfl];exact .t rfl (.pure _)
 |true=>
  rw[if_neg ψ]
  obtain⟨k1,k2⟩:=kJ hk
  refine .f rfl ?_
  have he:gE s ⟨row,key,last+1⟩:=⟨by simp[qZ,k1,k2.1,k2.2];omega,by unfold i64;simp only;omega⟩
  have add:(s.ee=1->fl.any (pQ s row)=false)->Ev (λn=>Go.Sh.et (decide ((([]:List Value)++row).length<=room))<|(lu n (⟨s,o,fl,(IntKind.wrap .i64 (last+1))⟩:Tree) (⟨(([]:List Value)++row),key,(IntKind.wrap .i64 (last+1))⟩:Entry)).bind λr9=>
    some (r9,(IntKind.wrap .i64 (last+1)),(0:Int))) ((⟨s,o,pj s ⟨row,key,last+1⟩ fl,last+1⟩:Tree),last+1,0):=λ_=>by
   rw[dq ω ω]
   obtain⟨A,B,rfl,hA,hB⟩:=oz he F.AD hg
   refine .et (decide_eq_true (show row.length<=16777216 by omega))<|.bind (Ni S.ok he hg hA hB ω) ?_
   rw[wD hA λx hx=>?_]
   .exact .pure _
   .have h2:=hB x hx
    have h3:cU s x ⟨row,key,last+1⟩≠0:=λh=>by
     have:=IA h
     have h4:=(F.g x (by simp[hx])).2
     simp only at this;omega
    omega
  have lim:((fl.length:Int)==500)=false:=by simp;omega
  by_cases hd:s.ee=1
  .refine .t (by simp[hd])<|.bind (PR S.ok k1 hg ω) ?_
   cases hh:fl.any (pQ s row)with
   |true=>rw[if_pos ⟨hd,rfl⟩];exact .t rfl (.pure _)
   |false=>grind
  grind
def Iy(S:SI s o)(F:FL s last fl)(hr:row.length<1000)(hl:fl.length<500):
  Ev (λf=>kF f (⟨s,o,fl,last⟩:Tree) row key) ((⟨s,o,(FX s row key fl).2,last⟩:Tree),(FX s row key fl).1):=by
 have hg:=λx hx=>(F.g x hx).1
 unfold kF
 refine tQ S hr ?_
 unfold FX
 cases hk:jJ s row key with
 |false=>rw[if_pos rfl];exact .t rfl (.pure _)
 |true=>
  rw[if_neg ψ]
  refine .f rfl<|.bind (Ee S.ok (kJ hk).1 hg ω) ?_
  cases hf:s9 (uy s row key) fl with
  |none=>exact .t rfl (.pure _)
  |some q=>
   obtain⟨n,e⟩:=q
   obtain⟨A,B,rfl,hn⟩:=Kh hf
   refine .f (decide_eq_false (show ¬((n:Nat):Int)<0 by omega))<|.bind (yL hn ω) ?_
   dsimp only
   rw[Ks F rfl]
   exact .pure _
def Lm(S:SI s o)(F:FL s last fl)(hr:row.length<1000)(hw:wth.length<1000)(h0:0<=last)(h1:last<10000)(hl:fl.length<500):
  Ev (λf=>ma f (⟨s,o,fl,last⟩:Tree) row key wth) ((⟨s,o,(zC s row key wth last fl).2.2,(zC s row key wth last fl).2.1⟩:Tree),(zC s row key wth last fl).1):=by
 have hg:=λx hx=>(F.g x hx).1
 have W:=tU s wth S.ok hw
 unfold ma
 unfold zC
 have ask: ∀{b:Nat->Bool->Option (Tree×Int)} {r},Ev (λn=>b n (!(jJ s row key&&bH s.aD wth))) r->Ev (λn=>bp (b n) λjp=>(oo n s row).bind λr3=>bif (!r3)then jp true else(sI n key).bind λr4=>bif (!r4)then jp true else(oo n s wth).bind λr5=>jp (!r5)) r:=λ{b r} h=>by
  refine .bp<|.bind (tU s row S.ok hr) ?_
  unfold jJ at h
  cases hf:bH s.aD row with
  |false=>rw[hf]at h;exact .t rfl h
  |true=>
   rw[hf,j_7]at h
   refine .f rfl<|.af (Ec 0 key) ?_
   cases hk:(decide (1<=key)&&decide (key<=1000000))with
   |false=>rw[hk]at h;exact .t rfl h
   |true=>rw[hk,j_7]at h;exact .f rfl<|.bind W h
 refine ask ?_
 by_cases hb:jJ s row key=false\/bH s.aD wth=false
 .rw[if_pos hb]
  refine .t ?_ (.pure _)
  grind
 .rw[if_neg hb]
  simp only[not_or,Bool.not_eq_false]at hb
  obtain⟨hk,hz⟩:=hb
  obtain⟨k1,k2⟩:=kJ hk
  refine .f (by simp[hk,hz])<|.bind (Ee S.ok k1 hg ω) ?_
  cases hf:s9 (uy s row key) fl with
  |none=>exact .t rfl (.pure _)
  |some q=>
   obtain⟨n,e⟩:=q
   obtain⟨A,B,hAB,hn⟩:=Kh hf
   refine .f (decide_eq_false (show ¬((n:Nat):Int)<0 by omega))<|.bind (zQ S.ok k1 hz) ?_
   by_cases hc:dD s.Down row wth=0
   .simp only[hc,if_true]
    exact .t ψ (.pure _)
   .simp only[hc,if_false]
    have hdel:=Ks F hAB
    have F2:FL s last (nh s e fl):=⟨λx hx=>F.g x (Bi.1 hx).1,GX F.AD⟩
    have I:=AX S F2 (key:=key) hw h0 h1 (Nat.lt_of_le_of_lt tc.length_le hl)
    have hWo:Ev (λf=>gh f (⟨s,o,fl,last⟩:Tree) (n:Int)) (⟨s,o,nh s e fl,last⟩:Tree):=by
     rw[hdel];subst hAB;exact yL hn ω
    refine .f (by simpa using hc)<|.bind hWo<|.bind I ?_
    have hask:jJ s wth key=true:=by
     simp only[jJ,hz,j_7]
     grind
    have hek:pQ s row e=true:=by
     have:=(mo hf).2
     simp only[uy,g_3]at this
     exact this.2
    have hany:(nh s e fl).any (pQ s wth)=fl.any (pQ s wth):=by
     have hne:pQ s wth e=false:=by
      rw[p_8]
      intro h2
      simp only[pQ,beq_iff_eq]at hek h2
      have hge:=(F.g e (by rw[hAB];simp)).1.fit
      have n1:=wz s.Down hge k1
      have:=Ba s.Down k1 hge hz ω ω
      have n2:=wz s.Down k1 hz
      have n3:=wz s.Down hge hz
      have:=Ba s.Down hz hge k1 ω ω
      omega
     rw[hdel,hAB]
     simp[hne]
    unfold wC
    rw[if_neg (by simp[hask]),hany]
    by_cases hd:s.ee=1/\fl.any (pQ s wth)=true
    .rw[if_pos hd,if_pos hd];exact .t rfl (.pure _)
    .rw[if_neg hd,if_neg hd];exact .f rfl (.pure _)
end
set_option maxRecDepth 100000
def lP(f:Nat->AT->List Node):List AT->Nat->List Int×List Node
 |[],_=>([],[])
 |k::ks,s=>((s:Int)::(lP f ks (s+(f s k).length)).1,f s k++(lP f ks (s+(f s k).length)).2)
def jF:Nat->Nat->AT->List Node
 |0,_,.nd _ es _=>[⟨0,es,[]⟩]
 |l+1,s,.nd _ es ks=>⟨((l+1:Nat):Int),es,(lP (jF l) ks (s+1)).1⟩::(lP (jF l) ks (s+1)).2
def sR(f:Nat->AT->List Node): ∀(ks:List AT) (s:Nat),(lP f ks s).1.length=ks.length
 |[],_=>rfl
 |k::ks,s=>by simp[lP,sR f ks]
def No:Nat->AT->List Int
 |0,.nd _ es _=>es.map (·.Number)
 |l+1,.nd _ es ks=>es.map (·.Number)++(ks.map (No l)).flatten
def Ae: ∀{es:List Entry} {ks:List (List Entry)},ks.length=es.length+1->g9 es ks=wv es ks
 |[],[k],_=>by simp[g9,rh,wv,ws]
 |e::es,k::k2::ks,h=>by
  rw[Ag,List.headD_cons,List.tail_cons,Ae (es:=es) (ks:=k2::ks) (by simpa using h)]
  rfl
section
variable {H:Hp}
def Ry: ∀(l:Nat) (a:AT) (s:Nat) (nodes pre post:List Node),nodes=pre++jF l s a++post->pre.length=s->a.hd H l->HN 0 nodes H l s (s+(jF l s a).length) a.ad/\mG nodes l s=a.fl l:=by
 intro l
 induction l with
 |zero=>
  intro a s nodes pre post h hs hh
  obtain⟨i,es,ks⟩:=a
  obtain⟨rfl,hi⟩:=hh
  have hx:nodes[s]? =some ⟨0,es,[]⟩:=by rw[h,<-hs];simp[jF]
  exact⟨⟨_,hx,rfl,rfl,hi,rfl,q_8 _⟩,by unfold mG;rw[hx];rfl⟩
 |succ l ih=>
  intro a s nodes pre post h hs hh
  obtain⟨i,es,ks⟩:=a
  obtain⟨hk,hi,hks⟩:=hh
  have hx:nodes[s]? =some ⟨((l+1:Nat):Int),es,(lP (jF l) ks (s+1)).1⟩:=by rw[h,<-hs];simp[jF]
  have K: ∀(ks:List AT) (pre:List Node) (t:Nat),(∀k∈ks,k.hd H l)->nodes=pre++(lP (jF l) ks t).2++post->pre.length=t->CM (HN 0 nodes H l) (lP (jF l) ks t).1 (ks.map gN) t (t+(lP (jF l) ks t).2.length)/\
    (lP (jF l) ks t).1.map (λ(k:Int)=>mG nodes l k.toNat)=ks.map (AT.fl l):=by
   intro ks
   induction ks with
   |nil=>intro pre t _ _ _;exact⟨rfl,rfl⟩
   |cons k ks ihk=>
    intro pre t hks hn ht
    simp only[lP]at hn ⊢
    obtain⟨a1,a2⟩:=ih k t nodes pre ((lP (jF l) ks (t+(jF l t k).length)).2++post) (by rw[hn];simp) ht (hks k ψ)
    obtain⟨b1,b2⟩:=ihk (pre++jF l t k) (t+(jF l t k).length) (λq hq=>hks q (by simp[hq])) (by rw[hn];simp) (by simp[ht])
    refine⟨⟨rfl,_,a1,?_⟩,?_⟩
    .grind
    grind
  obtain⟨k1,k2⟩:=K ks (pre++[⟨((l+1:Nat):Int),es,(lP (jF l) ks (s+1)).1⟩]) (s+1) hks (by rw[h];simp[jF]) (by simp[hs])
  refine⟨⟨_,ks.map gN,hx,rfl,by rw[sR];exact hk,hi,q_8 _,?_⟩,?_⟩
  .have:s+(jF (l+1) s (.nd i es ks)).length=s+1+(lP (jF l) ks (s+1)).2.length:=by simp[jF];omega
   rw[this];exact k1
  .show(match nodes[s]? with|some x=>g9 x.Entries (x.Kids.map λ(k:Int)=>mG nodes l k.toNat)|none=>[])=_
   rw[hx]
   simp only
   rw[k2]
   exact Ae (by simp[hk])
def MB{α:Type}: ∀{B:List α} {D:List (List α)},B.length=D.length->(ws B D).length=B.length+(D.map List.length).sum
 |[],[],_=>rfl
 |b::B,d::D,h=>by simp[ws,MB (B:=B) (D:=D) (by simpa using h)];omega
def JX(hm:1<=m): ∀(l:Nat) (a:AT) (s:Nat),a.hd H l->a.bl m o l->(jF l s a).length+a.es.length<=(a.fl l).length+1
 |0,.nd i es ks,s,hh,hb=>by simp[jF,AT.fl,AT.es];omega
 |l+1,.nd i es ks,s,hh,hb=>by
  have K: ∀(ks:List AT) (t:Nat),(∀k∈ks,k.hd H l)->(∀k∈ks,m<=k.es.length/\k.bl m o l)->(lP (jF l) ks t).2.length<=((ks.map (AT.fl l)).map List.length).sum:=by
   intro ks
   induction ks with
   |nil=>intro t _ _;exact g_9 _
   |cons k ks ihk=>
    intro t h1 h2
    have a1:=JX hm l k t (h1 k ψ) (h2 k ψ).2
    have a2:=ihk (t+(jF l t k).length) (λq hq=>h1 q (by simp[hq])) (λq hq=>h2 q (by simp[hq]))
    have a3:=(h2 k ψ).1
    simp only[lP,h_8,h_3,List.sum_cons]
    omega
  have k1:=K ks (s+1) hh.2.2 λk hk=>⟨(hb k hk).1,(hb k hk).2.2⟩
  have hl:=hh.1
  have e1:(AT.fl (l+1) (.nd i es ks)).length=es.length+((ks.map (AT.fl l)).map List.length).sum:=by
   match ks,hl with
   |k::ks,hl=>
    show(k.fl l++ws es (ks.map (AT.fl l))).length=_
    rw[h_8,MB (by simpa using hl.symm)]
    simp;omega
  rw[e1]
  simp only[jF,j_2,AT.es]
  omega
def JY{Q:Entry->Prop}(ho:o<=32): ∀(l:Nat) (a:AT) (s:Nat),a.hd H l->a.bl m o l->a.es.length<=o->(∀e∈a.fl l,Q e)-> ∀x∈jF l s a,x.Entries.length<=32/\x.Kids.length<=33/\0<=x.Level/\x.Level<=(l:Nat)/\ ∀e∈x.Entries,Q e
 |0,.nd i es ks,s,hh,hb,hl,hq=>by
  intro x hx
  simp only[jF,w_1]at hx
  subst hx
  have hl:es.length<=o:=hl
  exact⟨by simp only;omega,ψ,Int.le_refl _,Int.le_refl _,hq⟩
 |l+1,.nd i es ks,s,hh,hb,hl,hq=>by
  have hl:es.length<=o:=hl
  have hk:=hh.1
  intro x hx
  simp only[jF,j_0]at hx
  rcases hx with rfl|hx
  .refine⟨by simp only;omega,by simp only[sR];omega,by simp only;omega,ψ,λe he=>hq e ((Eo (by simp[hk])).2 (.inl he))⟩
  .have K: ∀(ks:List AT) (t:Nat),(∀k∈ks,k.hd H l/\k.bl m o l/\k.es.length<=o/\ ∀e∈k.fl l,Q e)-> ∀x∈(lP (jF l) ks t).2,∃k t,(k.hd H l/\k.bl m o l/\k.es.length<=o/\ ∀e∈k.fl l,Q e)/\x∈jF l t k:=by
    intro ks
    induction ks with
    |nil=>intro t _ x hx;simp[lP]at hx
    |cons k ks ihk=>
     intro t h1 x hx
     simp only[lP,k_7]at hx
     rcases hx with hx|hx
     .grind
     .exact ihk _ (λq hq=>h1 q (by simp[hq])) x hx
   obtain⟨k,t,⟨h1,h2,h3,h4⟩,h5⟩:=K ks (s+1) (λk hk'=>⟨hh.2.2 k hk',(hb k hk').2.2,(hb k hk').2.1,λe he=>hq e ((Eo (by simp[hk])).2 (.inr ⟨_,List.mem_map_of_mem hk',he⟩))⟩) x hx
   obtain⟨g1,g2,g3,g4,g5⟩:=JY ho l k t h1 h2 h3 h4 x h5
   grind
def JV: ∀{es:List Entry} {met:List Int},(∀e∈es,qZ s e=true/\e.Number<=last)->(met++es.map (·.Number)).Nodup->qy s last met es=some (met++es.map (·.Number))
 |[],met,_,_=>by simp[qy]
 |e::es,met,h,hn=>by
  have h1:=h e ψ
  have h2:met.contains e.Number=false:=by
   grind
  simp only[qy]
  rw[if_pos (by simp only[BL,h1.1,j_7,h2,Bool.not_false,Bool.and_true,decide_eq_true_eq];exact h1.2)]
  rw[JV (λx hx=>h x (by simp[hx])) (by simpa using hn)]
  simp
def OH: ∀{es:List Entry} {p:Option Entry},zk s es->(∀a,p=some a-> ∀x∈es,uB s a x=true)->EK s p es=true
 |[],_,_,_=>rfl
 |e::es,p,h,hp=>by
  obtain⟨h1,h2⟩:=j_6.1 h
  simp only[EK,g_3]
  refine⟨?_,OH h2 λa ha x hx=>?_⟩
  .cases p with
   |none=>rfl
   |some a=>exact hp a rfl e ψ
  .cases ha;exact h1 x hx
end
set_option maxRecDepth 100000
section
variable {H:Hp} {s:ay} {last:Int} {o:Nat} {nodes:List Node}
def Nv(h1:(x.Entries.length:Int)<=(o:Int)/\(root=true\/o / 2<=x.Entries.length))(h2:0<=x.Level/\(root=true\/x.Level=level))
  (h3:x.Kids.length=(if 0<x.Level then x.Entries.length+1 else 0)/\x.Kids.length≠1) (h4:zk s x.Entries) (h5: ∀e∈x.Entries,j5 s low e=true/\Fs s e high=true) (h6: ∀e∈x.Entries,qZ s e=true/\e.Number<=last)
  (h7:(met++x.Entries.map (·.Number)).Nodup):tW s (o:Int) last root level low high met x=some (met++x.Entries.map (·.Number)):=by
 unfold tW
 rw[if_pos,JV h6 h7]
 simp only[g_3]
 refine⟨⟨⟨⟨?_,?_⟩,?_⟩,OH h4 λa h=>by cases h⟩,?_⟩
 .unfold zK
  grind
 .unfold zH
  grind
 .unfold By
  grind
 .unfold rL
  simp only[g_3]
  constructor
  .cases low with
   |none=>rfl
   |some l=>
    cases he:x.Entries.head? with
    |none=>rfl
    |some a=>exact(h5 a (List.mem_of_head? he)).1
  .cases high with
   |none=>rfl
   |some l=>
    cases he:x.Entries.getLast? with
    |none=>rfl
    |some a=>exact(h5 a (List.mem_of_getLast? he)).2
def Sy(S:SI s o): ∀(l:Nat) (a:AT) (t:Nat) (lv:Int) (lo hi:Option Entry) (met:List Int) (d:Nat) (pre post:List Node),nodes=pre++jF l t a++post->pre.length=t->l<d->a.hd H l->a.bl (o / 2) o l->a.es.length<=o->(t=0\/o / 2<=a.es.length)->(l≠0->1<=a.es.length)->
  (t=0\/lv=(l:Nat))->(∀e∈a.fl l,qZ s e=true/\e.Number<=last)->zk s (a.fl l)->(∀e∈a.fl l,j5 s lo e=true/\Fs s e hi=true)->(met++No l a).Nodup->
  wk s (o:Int) last nodes d t lv lo hi met=.inr (t+(jF l t a).length,met++No l a):=by
 intro l
 induction l with
 |zero=>
  intro a t lv lo hi met d pre post hn ht hd hh hb hl hm h1 hlv hg hsr hbd hnd
  obtain⟨i,es,ks⟩:=a
  have hx:nodes[t]? =some ⟨0,es,[]⟩:=by rw[hn,<-ht];simp[jF]
  obtain⟨d,rfl⟩: ∃k,d=k+1:=⟨d - 1,ω⟩
  have hl:es.length<=o:=hl
  have hok:tW s (o:Int) last (t==0) lv lo hi met ⟨0,es,[]⟩=some (met++es.map (·.Number)):=Nv ⟨by simp only;omega,by rcases hm with h|h;exact .inl (by simp[h]);exact .inr h⟩ ⟨Int.le_refl _,φ⟩ ⟨rfl,ψ⟩ hsr hbd hg hnd
  show(match nodes[t]? with|none=>Sum.inl t|some x=>match tW s (o:Int) last (t==0) lv lo hi met x with|none=>Sum.inl t|some met'=>sy nodes (wk s (o:Int) last nodes d) t x lo hi x.Kids 0 (t+1) met')=_
  rw[hx]
  simp only
  rw[hok]
  rfl
 |succ l ih=>
  intro a t lv lo hi met d pre post hn ht hd hh hb hl hm h1 hlv hg hsr hbd hnd
  obtain⟨i,es,ks⟩:=a
  have hl:es.length<=o:=hl
  have h1:1<=es.length:=h1 ω
  have hk:=hh.1
  let X:Node:=⟨((l+1:Nat):Int),es,(lP (jF l) ks (t+1)).1⟩
  have hx:nodes[t]? =some X:=by
   subst ht
   rw[hn];simp[jF,X]
  obtain⟨d,rfl⟩: ∃k,d=k+1:=⟨d - 1,ω⟩
  have hfl: ∀e,e∈AT.fl (l+1) (.nd i es ks)<->e∈es\/ ∃k∈ks.map (AT.fl l),e∈k:=λe=>Eo (by simp[hk])
  have hges: ∀e∈es,e∈AT.fl (l+1) (.nd i es ks):=λe he=>(hfl e).2 (.inl he)
  have hsub:es.Sublist (AT.fl (l+1) (.nd i es ks)):=Ic (by simp[hk])
  have hnd':(met++es.map (·.Number)++(ks.map (No l)).flatten).Nodup:=by rw[j_3];exact hnd
  have hok:tW s (o:Int) last (t==0) lv lo hi met X=some (met++es.map (·.Number)):=
   Nv (x:=X) ⟨by simp only[X];omega,by rcases hm with h|h;exact .inl (by simp[h]);exact .inr h⟩ ⟨by simp only[X];omega,φ⟩
    ⟨by simp only[X,sR];rw[if_pos ω];exact hk,by simp only[X,sR];omega⟩ (hsr.sublist hsub) (λe he=>hbd e (hges e he)) (λe he=>hg e (hges e he)) (hnd'.sublist (List.sublist_append_left _ _))
  have K: ∀(D C:List AT) (nx:Nat) (mt:List Int) (pre:List Node),ks=C++D->nodes=pre++(lP (jF l) D nx).2++post->pre.length=nx->0<nx->(mt++(D.map (No l)).flatten).Nodup->
    sy nodes (wk s (o:Int) last nodes d) t X lo hi (lP (jF l) D nx).1 C.length nx mt=.inr (nx+(lP (jF l) D nx).2.length,mt++(D.map (No l)).flatten):=by
   intro D
   induction D with
   |nil=>intro C nx mt pre _ _ _ _ _;simp[lP,sy]
   |cons k D ihD=>
    intro C nx mt pre hC hn2 hp hnx hmt
    have hkm:k∈ks:=by rw[hC];simp
    have hkb:=hb k hkm
    have hCl:C.length<=es.length:=by rw[hC]at hk;simp at hk;omega
    have hAB:es=es.take C.length++es.drop C.length:=(p_7 _ _).symm
    have hDl:(es.drop C.length).length=D.length:=by grind
    have hmid:AT.fl (l+1) (.nd i es ks)=wp (es.take C.length) (C.map (AT.fl l))++(k.fl l++ws (es.drop C.length) (D.map (AT.fl l))):=by
     rw[hC]
     conv=>lhs;rw[hAB]
     exact ld χ
    have hsr':=hsr
    rw[hmid]at hsr'
    unfold zk at hsr'
    rw[j_9,j_9]at hsr'
    have hkf: ∀e∈k.fl l,e∈AT.fl (l+1) (.nd i es ks):=λe he=>(hfl e).2 (.inr ⟨_,List.mem_map_of_mem hkm,he⟩)
    have hlo: ∀e∈k.fl l,j5 s (qD X lo C.length) e=true:=λe he=>by
     unfold qD
     split
     .rename_i h0
      have hi1:C.length - 1<es.length:=by omega
      show j5 s es[C.length - 1]? e=true
      rw[h_6 hi1]
      refine hsr'.2.2 _ ((Ep χ).2 (.inl ?_)) e (by simp[he])
      rw[List.mem_take_iff_getElem]
      grind
     .exact(hbd e (hkf e he)).1
    have hhi: ∀e∈k.fl l,Fs s e (ke X hi C.length)=true:=λe he=>by
     unfold ke
     split
     .rename_i h0
      have h0:C.length<es.length:=h0
      show Fs s e es[C.length]? =true
      rw[h_6 h0]
      refine hsr'.2.1.2.2 e he _ ((xN (by simpa using hDl)).2 (.inl ?_))
      rw[aZ h0];exact q_3
     .exact(hbd e (hkf e he)).2
    simp only[lP]at hn2 ⊢
    simp only[h_3,p_9]at hmt ⊢
    have hkn:(jF l nx k).length≠0:=by
     cases k with
     |nd i es ks=>cases l<;>simp[jF]
    have hlt:nx<nodes.length:=by rw[hn2];simp;omega
    have R:=ih k nx (X.Level - 1) (qD X lo C.length) (ke X hi C.length) mt d pre ((lP (jF l) D (nx+(jF l nx k).length)).2++post) (by rw[hn2];simp) hp ω (hh.2.2 k hkm) hkb.2.2 hkb.2.1 (.inr hkb.1) (λ_=>by have:=S.o3;omega)
     (.inr φ) (λe he=>hg e (hkf e he)) hsr'.2.1.1 (λe he=>⟨hlo e he,hhi e he⟩) (hmt.sublist φ)
    simp only[sy]
    rw[if_pos ⟨trivial,hlt⟩,R]
    simp only
    have R2:=ihD (C++[k]) (nx+(jF l nx k).length) (mt++No l k) (pre++jF l nx k) (by rw[hC];simp) (by rw[hn2];simp) (by simp[hp]) ω (by rw[j_3];exact hmt)
    rw[h_8,j_2,v_5,q_2]at R2
    rw[R2]
    simp only[h_8,j_3]
    rw[Nat.add_assoc]
  have R:=K ks [] (t+1) (met++es.map (·.Number)) (pre++[X]) rfl (by rw[hn];simp[jF,X]) (by simp[ht]) ω hnd'
  show(match nodes[t]? with|none=>Sum.inl t|some x=>match tW s (o:Int) last (t==0) lv lo hi met x with|none=>Sum.inl t|some met'=>sy nodes (wk s (o:Int) last nodes d) t x lo hi x.Kids 0 (t+1) met')=_
  rw[hx]
  simp only
  rw[hok]
  simp only
  refine R.trans ?_
  simp only[jF,j_2,No,j_3]
  congr 2
  omega
def JC{α:Type}: ∀{B:List α} {D:List (List α)},B.length=D.length->(ws B D).Perm (B++D.flatten)
 |[],[],_=>.refl _
 |b::B,d::D,h=>by
  simp only[ws,m_6,p_9]
  refine .cons b ?_
  refine(List.Perm.append_left d (JC (B:=B) (D:=D) (by simpa using h))).trans ?_
  rw[<-j_3,<-j_3]
  exact List.Perm.append_right _ List.perm_append_comm
def AZ: ∀(l:Nat) (a:AT),a.hd H l->(No l a).Perm ((a.fl l).map (·.Number))
 |0,.nd i es ks,h=>.refl _
 |l+1,.nd i es ks,h=>by
  have hk:=h.1
  have K: ∀(ks:List AT),(∀k∈ks,k.hd H l)->((ks.map (No l)).flatten).Perm (((ks.map (AT.fl l)).flatten).map (·.Number)):=by
   intro ks
   induction ks with
   |nil=>intro _;exact .refl _
   |cons k ks ihk=>
    intro h1
    simp only[h_3,p_9,k_1]
    exact(AZ l k (h1 k ψ)).append (ihk λq hq=>h1 q (by simp[hq]))
  have e1:(AT.fl (l+1) (.nd i es ks)).Perm (es++(ks.map (AT.fl l)).flatten):=by
   match ks,hk with
   |k::ks,hk=>
    show(k.fl l++ws es (ks.map (AT.fl l))).Perm _
    refine(List.Perm.append_left _ (JC (by simpa using hk.symm))).trans ?_
    grind
  show(es.map (·.Number)++(ks.map (No l)).flatten).Perm _
  refine List.Perm.trans ?_ (e1.map _).symm
  rw[k_1]
  exact List.Perm.append_left _ (K ks h.2.2)
def TI.NC(S:SI s o)(h:TI s o last l a H tr)(h0:0<=last)(hl:(a.fl l).length<400):
  Fm (jF l 0 a)/\q8 s (o:Int) last (jF l 0 a)=(-1,0)/\B2 s (o:Int) last (jF l 0 a) l H tr/\mG (jF l 0 a) l 0=a.fl l/\(jF l 0 a).length<500:=by
 have hm1:1<=o / 2:=by have:=S.o3;omega
 obtain⟨q1,q2⟩:=Ry l a 0 (jF l 0 a) [] [] ψ rfl h.hd
 rw[q_2]at q1
 have q3:=JX hm1 l a 0 h.hd h.bl
 have hlv:=q1.Gg
 have hne:(jF l 0 a).length≠0:=by omega
 have hW:=Sy (nodes:=jF l 0 a) S l a 0 0 none none [] (jF l 0 a).length [] [] ψ rfl ω h.hd h.bl h.top (.inl rfl) h.one (.inl rfl) (λe he=>⟨(h.g e he).1.1,(h.g e he).2⟩) h.AD (λe he=>⟨rfl,rfl⟩)
  (by rw[m_4,(AZ l a h.hd).nodup_iff];exact h.num)
 have hA:=JY (Q:=λe=>e.Row.length<1000/\i64 e.Number) S.Lr l a 0 h.hd h.bl h.top (λe he=>⟨by have:=fi (h.g e he).1.fit;have:=(gO S.ok).1;omega,(h.g e he).1.2⟩)
 refine⟨⟨ω,λx hx=>?_⟩,?_,⟨a.ad,by rw[q2];exact h.obj,0,q1⟩,q2,ω⟩
 .obtain⟨a1,a2,a3,a4,a5⟩:=hA x hx
  exact⟨ω,ω,by unfold i64;omega,a5⟩
 .unfold q8
  rw[if_pos S.ok,if_pos ⟨by have:=S.o3;omega,by have:=S.Lr;omega,h0⟩,if_neg hne,hW]
  simp only[q_2,m_4]
  rw[if_neg ω,if_neg]
  rw[(AZ l a h.hd).length_eq,k_6];omega
end
set_option maxRecDepth 100000
def Rg{o:Nat}{H:Hp}(hz: ∀j x,0<j->nodes[j]? =some x->m<=x.Entries.length/\x.Entries.length<=o): ∀(l c z i:Nat),HN b nodes H l c z i->
  ∃a:AT,a.ad=i/\a.hd H l/\a.fl l=mG nodes l c/\(∃x,nodes[c]? =some x/\a.es=x.Entries)/\a.bl m o l/\ ∀j∈a.ft l,b<=j
 |0,c,z,i,h=>by
  obtain⟨x,h1,h2,h3,h4,h5,h6⟩:=h
  exact⟨.nd i x.Entries [],rfl,⟨rfl,h4⟩,by unfold mG;rw[h1];rfl,⟨x,h1,rfl⟩,trivial,λj hj=>by simp only[AT.ft,w_1]at hj;omega⟩
 |l+1,c,z,i,h=>by
  have hin:=λ{x} (hx:nodes[c]? =some x)=>BE h hx
  obtain⟨x,is,h1,h2,h3,h4,h5,h6⟩:=h
  have K: ∀(ks:List Int) (is:List (Option Nat)) (u v:Nat),0<u->CM (HN b nodes H l) ks is u v-> ∃av:List AT,av.map gN=is/\av.map (AT.fl l)=ks.map (λ(k:Int)=>mG nodes l k.toNat)/\ ∀a∈av,a.hd H l/\(m<=a.es.length/\a.es.length<=o/\a.bl m o l)/\ ∀j∈a.ft l,b<=j:=by
   intro ks
   induction ks with
   |nil=>
    intro is u v hu hh
    cases is with
    |nil=>exact⟨[],rfl,rfl,ψ⟩
    |cons q qs=>cases q<;>exact hh.elim
   |cons k ks ih=>
    intro is u v hu hh
    cases is with
    |nil=>exact hh.elim
    |cons q qs=>
     cases q with
     |none=>exact hh.elim
     |some q=>
      obtain⟨g1,mm,g2,g3⟩:=hh
      have hlt:=g2.lt
      obtain⟨a,a1,a2,a3,⟨y,a4,a5⟩,a6,a7⟩:=Rg hz l u mm q g2
      obtain⟨av,b1,b2,b3⟩:=ih qs mm v ω g3
      refine⟨a::av,by simp[b1,gN,a1],by simp[a3,g1];exact b2,λw hw=>?_⟩
      grind
  obtain⟨av,b1,b2,b3⟩:=K x.Kids is (c+1) z ω h6
  have hl:av.length=x.Entries.length+1:=by
   have:=congrArg List.length b2
   simp at this;omega
  refine⟨.nd i x.Entries av,rfl,⟨hl,by show H[i]? =some (dM x.Entries (av.map gN));rw[b1];exact h4,λk hk=>(b3 k hk).1⟩,?_,⟨x,h1,rfl⟩,λk hk=>(b3 k hk).2.1,λj hj=>?_⟩
  .rw[hin h1]
   show wv x.Entries (av.map (AT.fl l))=_
   rw[b2,<-Ae χ]
   rfl
  .rcases eK.1 hj with rfl|⟨k,hk,hj⟩
   .exact h5
   .exact(b3 k hk).2.2 j hj
def NA{o:Nat}{H:Hp}: ∀(l:Nat) (a:AT) (s:Nat),a.bl m o l-> ∀x∈(jF l s a).tail,m<=x.Entries.length/\x.Entries.length<=o
 |0,.nd i es ks,s,hb=>by simp[jF]
 |l+1,.nd i es ks,s,hb=>by
  have K: ∀(ks:List AT) (t:Nat),(∀k∈ks,m<=k.es.length/\k.es.length<=o/\k.bl m o l)-> ∀x∈(lP (jF l) ks t).2,m<=x.Entries.length/\x.Entries.length<=o:=by
   intro ks
   induction ks with
   |nil=>intro t _ x hx;simp[lP]at hx
   |cons k ks ihk=>
    intro t h1 x hx
    have hk:=h1 k ψ
    simp only[lP,k_7]at hx
    rcases hx with hx|hx
    .have hd: ∃y,jF l t k=y::(jF l t k).tail/\y.Entries=k.es:=by
      cases k with
      |nd i es ks=>cases l<;>exact⟨_,rfl,rfl⟩
     obtain⟨y,e1,e2⟩:=hd
     rw[e1]at hx
     rcases j_0.1 hx with rfl|hx
     .rw[e2];exact⟨hk.1,hk.2.1⟩
     .exact NA (H:=H) l k t hk.2.2 x hx
    grind
  exact K ks (s+1) hb
section
variable {s:ay} {o l tr:Nat} {last:Int} {a:AT} {H:Hp}
def NB(l s:Nat)(a:AT): ∃x,jF l s a=x::(jF l s a).tail/\x.Entries=a.es/\x.Level=(l:Nat):=by
 cases a with
 |nd i es ks=>cases l<;>exact⟨_,rfl,rfl,rfl⟩
def N5{H H':Hp}(h: ∀(j:Nat) (x:aT),H[j]? =some x->H'[j]? =some x):(∀j,j<H.length->H'[j]? =H[j]?)/\H.length<=H'.length:=by
 have h1: ∀j,j<H.length->H'[j]? =H[j]? :=λj hj=>by grind
 grind
def yf(S:SI s o)(h:TI s o last l a H tr)(h0:0<=last)(hl:(a.fl l).length<400): ∃H',Ev (λf=>kS f tr (⟨s,o,a.fl l,last⟩:Tree) H) (true,H')/\TI s o last l a H' tr:=by
 obtain⟨q1,q2,q3,q4,q5⟩:=h.NC S h0 hl
 have hk:=(gO S.ok).1
 obtain⟨H',E,f⟩:=OE q1 ω q2 q3 (λe he=>by
  rw[q4]at he
  have hg:=(h.g e he).1
  exact⟨by have:=fi hg.fit;omega,GI hg.1⟩)
 rw[q4]at E
 exact⟨H',E,h.fr (N5 f).1⟩
def Gk(S:SI s o)(h:TI s o last l a H tr)(h0:0<=last)(hl:(a.fl l).length<400)(G:Hp):
  ∃a' H',Ev (λf=>oZ f s (o:Int) last (jF l 0 a) G) ((some (G.length+1),-1,0),H')/\TI s o last l a' H' (G.length+1)/\a'.fl l=a.fl l/\(∀j,j<G.length->H'[j]? =G[j]?)/\G.length<=H'.length/\ ∀j∈a'.ft l,G.length<=j:=by
 obtain⟨q1,q2,q3,q4,q5⟩:=h.NC S h0 hl
 have hk:=gO S.ok
 obtain⟨t,H',E,F⟩:=MZ s (o:Int) last (jF l 0 a) q1 ω ω G
 rw[q2]at E F
 obtain⟨root,z,met,rfl,f2,f3,f4,f5,f6,b,lv,f7,f8⟩:=F rfl
 obtain⟨x0,n1,n2,n3⟩:=NB l 0 a
 have hx0:(jF l 0 a)[0]? =some x0:=by rw[n1];rfl
 have hlv:lv=l:=by
  obtain⟨x,is,g1,g2,g3,-⟩:=fL f8
  grind
 subst hlv
 obtain⟨a',a1,a2,a3,⟨x,a4,a5⟩,a6,a7⟩:=Rg (m:=o / 2) (o:=o) (λj x hj hx=>by
  refine NA (H:=H) lv a 0 h.bl x ?_
  grind) lv 0 z root f8
 rw[hx0]at a4;cases a4
 rw[q4]at a3
 have hcnt:=(MG _ _ _ _ _ _ _ _ _ _ _ f2 f8).2
 rw[q4,v_5,q_2]at hcnt
 refine⟨a',H',E,⟨φ,a2,a6,by rw[a5,n2];exact h.top,λh2=>by rw[a5,n2];exact h.one h2,λh2=>by have:=a7 _ h2;omega,by rw[a3];exact h.g,by rw[a3];exact h.AD,by rw[a3];exact h.num⟩,a3,f5,ω,λj hj=>by have:=a7 j hj;omega⟩
def Q6(j:Nat)(hj:j<H.length):(H++[aT.hole,aT.hole])[j]? =H[j]? :=h_5 hj
def Of(S:SI s o)(h:TI s o last l a H tr)(h0:0<=last)(hl:(a.fl l).length<400):
  ∃t a' H',Ev (λf=>nC f tr H) (some t,H')/\TI s o last l a' H' t/\a'.fl l=a.fl l/\(∀j,j<H.length->H'[j]? =H[j]?)/\H.length<=H'.length/\(∀j∈a'.ft l,H.length<=j)/\H.length<=t:=by
 obtain⟨q1,q2,q3,q4,q5⟩:=h.NC S h0 hl
 have h1:=h.fr (H':=H++[aT.hole,aT.hole]) Q6
 obtain⟨a',H',E,T,F,f1,f2,f3⟩:=Gk S h h0 hl (H++[aT.hole,aT.hole])
 have hln:(H++[aT.hole,aT.hole]).length=H.length+2:=by simp
 refine⟨_,a',H',?_,T,F,λj hj=>by rw[f1 j ω,Q6 j hj],ω,λj hj=>by have:=f3 j hj;omega,ω⟩
 unfold nC
 refine .af (ic h.obj)<|.af (u7 h.obj)<|.af (tK h.obj)<|.bind (xK q1 q3)<|.bind E<|.af (tK h1.obj) ?_
 simp only[z0]
 refine .af (u7 h1.obj) ?_
 simp only[z0]
 refine .af (ic h1.obj) ?_
 simp only[z0]
 exact .pure _
end
set_option maxRecDepth 100000
def Kj{c:Entry->Int}: ∀(l:List Entry),(l.filter λx=>decide (c x<0)).length+(l.filter λx=>decide (0<c x)).length<=l.length
 |[]=>by simp
 |x::l=>by
  have:=Kj (c:=c) l
  grind
def Ke{s:ay}:(pj s e l).length<=l.length+1:=by
 have:=Kj (c:=λx=>cU s x e) l
 simp only[pj,ins,h_8,j_2]
 omega
def EC{s:ay}:(nh s e l).length<=l.length:=tc.length_le
def Qe{s:ay}:last<=(wC s row key last fl).2.1/\(wC s row key last fl).2.1<=last+1/\(wC s row key last fl).2.2.length<=fl.length+1:=by
 unfold wC
 split
 .grind
 .split
  .grind
  .exact⟨by simp only;omega,Int.le_refl _,Ke⟩
def PN{s:ay}:(FX s row key fl).2.length<=fl.length:=by
 unfold FX
 split
 .exact g_9 _
 .split
  .exact g_9 _
  .exact EC
def PM{s:ay}:last<=(zC s row key wth last fl).2.1/\(zC s row key wth last fl).2.1<=last+1/\(zC s row key wth last fl).2.2.length<=fl.length+1:=by
 unfold zC
 split
 .grind
 .split
  .grind
  .split
   .grind
   .split
    .grind
    .refine⟨by simp only;omega,Int.le_refl _,?_⟩
     have h1:=EC (s:=s) (l:=fl) (e:=by assumption)
     exact v_2 Ke (Nat.succ_le_succ EC)
def xC(x:Act):Bool:=lY x.Row&&lY x.yi
def TC(s:ay)(l:List Act):Bool:=l.all xC&&decide (l.length<=80)&&decide (s.aD.length<=20)&&decide (s.Down.length<=20)
def Qv(s:ay)(l:List Act): ∃b,Ev (λf=>Bt f s l) b/\(b=true->TC s l=true):=by
 have L: ∀(d k:Nat),k+d=min l.length 80-> ∃out,mH (λf=>oN f l) (k:Int) out/\(out=.inr false\/out=.inl ()/\ ∀j x,k<=j->j<min l.length 80->l[j]? =some x->xC x=true):=by
  intro d
  induction d with
  |zero=>
   intro k hk
   refine⟨.inl (),.stop ?_,.inr ⟨rfl,λj x h1 h2=>by omega⟩⟩
   unfold oN
   refine .f ?_ (.pure _)
   grind
  |succ d ih=>
   intro k hk
   have k1:k<l.length:=by omega
   have R:=JL [l[k].Row,l[k].yi] ψ
   have pre: ∀{x},Ev (λf=>bif (!([l[k].Row,l[k].yi].all lY))then some (Sum.inr (.inr false))else some (.inl ((k+1:Nat):Int))) x->Ev (λf=>oN f l (k:Int)) x:=λhE=>by
    unfold oN
    refine .t (by rw[gw k1];simp;omega)<|.af (aN k1)<|.af (aN k1) ?_
    rw[eu ω]
    exact .bind R hE
   cases hc:[l[k].Row,l[k].yi].all lY with
   |false=>exact⟨.inr false,.stop (pre (.t (by rw[hc];rfl) (.pure _))),.inl rfl⟩
   |true=>
    obtain⟨out,e1,e2⟩:=ih (k+1) ω
    refine⟨out,.next (pre (.f (by rw[hc];rfl) (.pure _))) e1,e2.imp id λ⟨h1,h2⟩=>⟨h1,λj x g1 g2 g3=>?_⟩⟩
    by_cases hj:j=k
    .subst hj
     rw[h_6 k1]at g3;cases g3
     simpa[xC]using hc
    .exact h2 j x ω g2 g3
 obtain⟨out,e1,e2⟩:=L (min l.length 80) 0 ω
 unfold Bt
 rcases e2 with rfl|⟨rfl,e2⟩
 .exact⟨false,.bind e1.ev (.pure _),λh=>by cases h⟩
 .refine⟨(bif decide ((l.length:Int)<=80)then bif decide ((s.aD.length:Int)<=20)then decide ((s.Down.length:Int)<=20)else false else false),.bind e1.ev ?_,λh=>?_⟩
  .by_cases h1:(l.length:Int)<=80
   .by_cases h2:(s.aD.length:Int)<=20
    .simp only[w_5,h1,h2,decide_true,cond_true];exact .pure _
    .simp only[w_5,h1,h2,decide_true,decide_false,cond_true,cond_false];exact .pure _
   .simp only[w_5,h1,decide_false,cond_false];exact .pure _
  .by_cases h1:(l.length:Int)<=80
   .by_cases h2:(s.aD.length:Int)<=20
    .simp only[h1,h2,decide_true,cond_true,decide_eq_true_eq]at h
     simp only[TC,g_3,decide_eq_true_eq,h_2]
     refine⟨⟨⟨λx hx=>?_,ω⟩,ω⟩,ω⟩
     obtain⟨j,hj,rfl⟩:=List.getElem_of_mem hx
     exact e2 j _ (q_8 _) ω (h_6 hj)
    .simp[h1,h2]at h
   .simp[h1]at h
def xB(h:lY r=true):r.length<1000:=by
 simp only[lY,g_3,decide_eq_true_eq]at h
 omega
def TI.UK{s:ay}{o:Nat}(h:TI s o last l a H tr)(h1:H'[tr]? =H[tr]?)(h2: ∀j∈a.ft l,H'[j]? =H[j]?):TI s o last l a H' tr:=
 {h with obj:=by rw[h1];exact h.obj,hd:=h.hd.fr h2}
section
variable {s:ay} {o:Nat} {acts:List Act}
def pS(s:ay)(o:Int)(tr:Nat)(fl:List Entry)(last:Int)(i:Nat)(H:Hp):(List Int)×(List Bool)×Int×(Option Nat)×Int×Int×Int×Bool×Bool×(Option Nat)×(List Int)×(List Bool)×Int×Int×(List Entry)×Int×Bool×Bool×Int×Hp:=
 (s.aD,s.Down,s.ee,none,0,0,0,false,false,some tr,s.aD,s.Down,s.ee,o,fl,last,true,true,(i:Int),H)
structure PL(s:ay)(o:Nat)(i:Nat)(last:Int)(fl:List Entry)(l:Nat)(a:AT)(H:Hp)(tr:Nat):Prop where
 ti:TI s o last l a H tr
 ef:a.fl l=fl
 h0:0<=last
 h1:last<=(i:Nat)
 hl:fl.length<=i
def PL.F(P:PL s o i last fl l a H tr):FL s last fl:=⟨by rw[<-P.ef];exact P.ti.g,by rw[<-P.ef];exact P.ti.AD⟩
def PD(S:SI s o)(P:PL s o i last fl l a H tr)(hi:i<acts.length)(h80:acts.length<=80)(hs:xC acts[i]=true):
  ∃tr' last' fl' l' a' H',Ev (λf=>nc f (o:Int) acts (pS s o tr fl last i H)) (.inl (pS s o tr' fl' last' (i+1) H'))/\PL s o (i+1) last' fl' l' a' H' tr':=by
 have h0:=P.h0
 have h1:=P.h1
 have hl:=P.hl
 simp only[xC,g_3]at hs
 have hr:=xB hs.1
 have hw:=xB hs.2
 have hfl:=P.ef
 have hlen:(a.fl l).length<100:=by rw[hfl];omega
 have wi:IntKind.wrap .i64 ((i:Int)+1)=((i+1:Nat):Int):=eu ω
 have go:(((decide ((i:Int)<(acts.length:Int)))&&true)&&true)=true:=by rw[gw hi];rfl
 generalize hx:acts[i]=x at hs hr hw
 have ix:idx acts (i:Int)=some x:=by rw[aN hi,hx]
 have R1:=λkey=>AX S P.F (row:=x.Row) (key:=key) hr h0 ω ω
 have fin: ∀{last':Int} {l':Nat} {a':AT} {H':Hp} {fl':List Entry},TI s o last' l' a' H' tr->a'.fl l'=fl'->last<=last'->last'<=last+1->fl'.length<=fl.length+1-> ∃H'',Ev (λf=>kS f tr (⟨s,o,fl',last'⟩:Tree) H') (true,H'')/\PL s o (i+1) last' fl' l' a' H'' tr:=by
  intro last' l' a' H' fl' T hf e1 e2 e3
  obtain⟨H'',E,T'⟩:=yf S T ω (by rw[hf];omega)
  rw[hf]at E
  exact⟨H'',E,T',hf,ω,ω,ω⟩
 unfold nc pS
 dsimp only
 by_cases k0:(x.Kind==0)=true
 .obtain⟨l',a',H',E,T,F,M⟩:=Ay S P.ti (row:=x.Row) (key:=x.Key) hr h0 ω ω
  rw[hfl]at E T F
  obtain⟨b1,b2,b3⟩:=Qe (s:=s) (row:=x.Row) (key:=x.Key) (last:=last) (fl:=fl)
  obtain⟨H'',G,Q⟩:=fin T F b1 b2 b3
  refine⟨tr,_,_,l',a',H'',.t go<|.af ix<|.t k0<|.af rfl<|.bind E<|.bind (R1 x.Key)<|.t ψ<|.af rfl<|.bind G ?_,Q⟩
  rw[wi]
  exact .pure _
 have k0:(x.Kind==0)=false:=by simpa using k0
 by_cases k1:(x.Kind==1)=true
 .obtain⟨l',a',H',E,T,F,M⟩:=Iq S P.ti (row:=x.Row) (key:=x.Key) hr ω
  rw[hfl]at E F
  have b3:=PN (s:=s) (row:=x.Row) (key:=x.Key) (fl:=fl)
  obtain⟨H'',G,Q⟩:=fin T F (Int.le_refl _) ω ω
  refine⟨tr,_,_,l',a',H'',.t go<|.af ix<|.f k0<|.t k1<|.af rfl<|.bind E<|.bind (Iy S P.F hr ω)<|.t ψ<|.af rfl<|.bind G ?_,Q⟩
  rw[wi]
  exact .pure _
 have k1:(x.Kind==1)=false:=by simpa using k1
 by_cases k2:(x.Kind==2)=true
 .obtain⟨l',a',H',E,T,F,M⟩:=Lg S P.ti (row:=x.Row) (key:=x.Key) (wth:=x.yi) hr hw h0 ω ω
  rw[hfl]at E T F
  obtain⟨b1,b2,b3⟩:=PM (s:=s) (row:=x.Row) (wth:=x.yi) (key:=x.Key) (last:=last) (fl:=fl)
  obtain⟨H'',G,Q⟩:=fin T F b1 b2 b3
  refine⟨tr,_,_,l',a',H'',.t go<|.af ix<|.f k0<|.f k1<|.t k2<|.af rfl<|.bind E<|.bind (Lm S P.F hr hw h0 ω ω)<|.t ψ<|.af rfl<|.bind G ?_,Q⟩
  rw[wi]
  exact .pure _
 have k2:(x.Kind==2)=false:=by simpa using k2
 by_cases k3:(x.Kind==3)=true
 .obtain⟨t,a',H1,E,T,F,f1,f2,f3,f4⟩:=Of S P.ti h0 ω
  obtain⟨l2,a2,H2,E2,T2,F2,M2⟩:=Ay S (P.ti.fr f1) (row:=x.Row) (key:=1) hr h0 ω ω
  have htr:=(g_5.1 P.ti.obj).1
  have hold:=P.ti.hd.lt
  have T':TI s o last l a' H2 t:=T.UK (M2.fr t (g_5.1 T.obj).1 ω λh=>by have:=hold t h;omega) λj hj=>M2.fr j (T.hd.lt j hj) (by have:=f3 j hj;omega) λh=>by
   grind
  obtain⟨H'',G,Q⟩:=yf S T' h0 (by rw[F];omega)
  rw[F,hfl]at G
  refine⟨t,last,fl,l,a',H'',.t go<|.af ix<|.f k0<|.f k1<|.f k2<|.t k3<|.af rfl<|.bind E<|.bind E2<|.t rfl<|.af rfl<|.bind G ?_,⟨Q,by rw[F,hfl],h0,ω,ω⟩⟩
  rw[wi]
  exact .pure _
 .have k3:(x.Kind==3)=false:=by simpa using k3
  obtain⟨q1,q2,q3,q4,q5⟩:=P.ti.NC S h0 ω
  obtain⟨a',H1,E,T,F,f1,f2,f3⟩:=Gk S P.ti h0 ω (H++[aT.hole,aT.hole])
  obtain⟨H'',G,Q⟩:=yf S T h0 (by rw[F];omega)
  rw[F,hfl]at G
  refine⟨_,last,fl,l,a',H'',.t go<|.af ix<|.f k0<|.f k1<|.f k2<|.f k3<|.bp<|.af rfl<|.bind (J5 q3)<|.af rfl<|.bind (xK q1 q3)<|.bind E<|.t rfl<|.t rfl<|.af rfl<|.bind G ?_,⟨Q,by rw[F,hfl],h0,ω,ω⟩⟩
  rw[wi]
  exact .pure _
end
set_option maxRecDepth 100000
def PQ(s:ay)(order:Int)(hk:s.aD.length<1000):Ev (λf=>C1 f s order)
  (if rD s=true then(if 3<=order/\order<=32 then((⟨s,order,[],0⟩:Tree),0)else((⟨(⟨[],[],0⟩:ay),0,[],0⟩:Tree),7))else((⟨(⟨[],[],0⟩:ay),0,[],0⟩:Tree),1)):=by
 unfold C1
 refine .bind (C3 s hk) ?_
 cases rD s with
 |false=>exact .t rfl (.pure _)
 |true=>
  refine .f rfl ?_
  by_cases hc:3<=order/\order<=32
  .rw[if_pos rfl,if_pos hc]
   exact .f χ (.pure _)
  .rw[if_pos rfl,if_neg hc]
   exact .t χ (.pure _)
section
variable {s:ay} {order:Int} {acts:List Act}
structure PE(s:ay)(o l:Nat)(a:AT)(last:Int)(H:Hp)(tr:Nat):Prop where
 si:SI s o
 ti:TI s o last l a H tr
 h0:0<=last
 h1:last<=80
 hl:(a.fl l).length<=80
def J3(S:SI s o)(h80:acts.length<=80)(hs:acts.all xC=true): ∀(d i:Nat) {l tr:Nat} {last:Int} {fl:List Entry} {a:AT} {H:Hp},i+d=acts.length->PL s o i last fl l a H tr->
  ∃tr' last' l' a' H',mH (λf=>nc f (o:Int) acts) (pS s o tr fl last i H) (none,0,0,0,false,false,some tr',s.aD,s.Down,s.ee,(o:Int),a'.fl l',last',true,true,H')/\PE s o l' a' last' H' tr'
 |0,i,l,tr,last,fl,a,H,hi,P=>by
  refine⟨tr,last,l,a,H,.stop ?_,⟨S,P.ti,P.h0,by have:=P.h1;omega,by rw[P.ef];have:=P.hl;omega⟩⟩
  unfold nc pS
  dsimp only
  rw[P.ef]
  exact .f φ (.pure _)
 |d+1,i,l,tr,last,fl,a,H,hi,P=>by
  have hil:i<acts.length:=by omega
  obtain⟨tr1,last1,fl1,l1,a1,H1,E,P1⟩:=PD S P hil h80 (h_2.1 hs _ (j_1 hil))
  obtain⟨tr',last',l',a',H',E2,Q⟩:=J3 S h80 hs d (i+1) ω P1
  exact⟨tr',last',l',a',H',.next E E2,Q⟩
def PW(hA:TC s acts=true): ∃t r ok H',Ev (λf=>xS f s order acts []) ((⟨t,r,true,ok⟩:Tw),H')/\(ok=true-> ∃(o l:Nat) (a:AT) (last:Int) (tr:Nat),(o:Int)=order/\t=some tr/\r=(⟨s,o,a.fl l,last⟩:Tree)/\PE s o l a last H' tr):=by
 simp only[TC,g_3,decide_eq_true_eq]at hA
 obtain⟨⟨⟨hs,h80⟩,hk⟩,hd⟩:=hA
 have N:=JF s order [] ω ω
 have R:=PQ s order ω
 by_cases hv:rD s=true/\3<=order/\order<=32
 .obtain⟨h1,h2⟩:=hv
  rw[if_pos h1,if_pos h2]at N R
  obtain⟨o,rfl⟩: ∃o:Nat,(o:Int)=order:=⟨order.toNat,ω⟩
  have S:SI s o:=⟨h1,ω,ω⟩
  have P:PL s o 0 0 [] 0 (.nd 0 [] []) (([]++[dM [] []])++[kx s o (some 0) 0 0]) 1:=
   ⟨⟨rfl,⟨rfl,rfl⟩,trivial,q_8 _,λh=>absurd rfl h,by simp[AT.ft],λx hx=>by simp[AT.fl]at hx,List.Pairwise.nil,List.Pairwise.nil⟩,rfl,Int.le_refl _,Int.le_refl _,q_8 _⟩
  obtain⟨tr',last',l',a',H',E,Q⟩:=J3 S h80 hs acts.length 0 ω P
  refine⟨some tr',⟨s,o,a'.fl l',last'⟩,true,H',?_,λ_=>⟨o,l',a',last',tr',rfl,rfl,rfl,Q⟩⟩
  unfold xS
  exact .bind N<|.bind R<|.bind E.ev (.pure _)
 .have hbad: ∃c:Int,c≠0/\Ev (λf=>yF f s order []) ((none,c),[])/\Ev (λf=>C1 f s order) ((⟨(⟨[],[],0⟩:ay),0,[],0⟩:Tree),c):=by
   grind
  obtain⟨c,hc,N,R⟩:=hbad
  refine⟨none,⟨⟨[],[],0⟩,0,[],0⟩,false,[],?_,λh=>by cases h⟩
  unfold xS
  refine .bind N<|.bind R<|.bind (a:=(none,0,0,0,false,false,none,[],[],0,0,[],0,true,false,[])) (mH.ev (.stop ?_)) (.pure _)
  unfold nc
  dsimp only
  have h0:(c==0)=false:=by simpa using hc
  rw[h0,beq_self_eq_true]
  exact .f ψ (.pure _)
end
set_option maxRecDepth 100000
def Kx{α:Type}(A:Hp)(w:Nat)(c:Cd α)(l:List α):Hp:=A++[.cells [.own w (l.map c.enc)]]++[.hole]
section
variable {α:Type} {A:Hp} {w:Nat} {c:Cd α} {l l':List α}
def Bu(h:j<A.length):(Kx A w c l)[j]? =A[j]? :=by unfold Kx;grind
def II:(Kx A w c l)[A.length]? =some (.cells [.own w (l.map c.enc)]):=jP (CB rfl)
def wA:db w c (Kx A w c l) A.length 0=some (l,(Kx A w c l).set A.length (.cells [.undef])):=nS II rfl
def J6:cz w c ((Kx A w c l).set A.length (.cells [.undef])) A.length 0 l'=some (Kx A w c l'):=by
 rw[iT (dG II) ψ,m_7]
 unfold Kx
 rw[kE ψ,jw rfl]
 rfl
end
def LK(s:ay)(r:List Value)(e:Entry):Bool:=decide (dD s.Down e.Row r>=0)
section
variable {s:ay} {o l tr:Nat} {last:Int} {a:AT} {H:Hp} {row:List Value}
def M5(S:SI s o)(h:TI s o last l a H tr)(hr:row.length<1000)(hl:(a.fl l).length<500):
  ∃H',Ev (λf=>lr f tr row H) (if bH s.aD row=true then(((a.fl l).filter (pQ s row)).map (·.Key),0)else([],1),H')/\TI s o last l a H' tr:=by
 have hS:=gO S.ok
 have A0:=pw h (key:=1) hr
 cases hf:bH s.aD row with
 |false=>
  have hk:jJ s row 1=false:=by simp[jJ,hf]
  rw[hk]at A0
  refine⟨H,?_,h⟩
  unfold lr
  exact .bind A0<|.t rfl (.pure _)
 |true=>
  have hk:jJ s row 1=true:=by simp[jJ,hf]
  rw[hk]at A0
  let A1:Hp:=H++[.cells [.d (.ptr tr 0)]]
  let A2:Hp:=A1++[.cells [.d (.list 3 (List.map ar row))]]
  let K (l:List Int):Hp:=Kx A2 1 (cI .i64) l
  have l1:A1.length=H.length+1:=by simp[A1]
  have l2:A2.length=H.length+2:=by simp[A2,l1]
  have f0: ∀x j,j<H.length->(K x)[j]? =H[j]? :=λx j hj=>by
   rw[Bu ω];grind
  have T: ∀x,TI s o last l a (K x) tr:=λx=>h.fr (f0 x)
  have g1: ∀x,(K x)[H.length]? =some (.cells [.d (.ptr tr 0)]):=λx=>by rw[Bu ω];exact jP (CB rfl)
  have g2: ∀x,(K x)[A1.length]? =some (.cells [.d (.list 3 (List.map ar row))]):=λx=>by rw[Bu ω];exact CB rfl
  let Y:=λ(n:Nat)=>jt n (A1,H.length) (A2,A1.length) (A2++[.cells [.own 1 (([]:List Int).map (D.int .i64))]],A2.length)
  have run: ∀(es:List Entry) (acc:List Int),acc.length+es.length<1000->(∀e∈es,gE s e)->qN (λG=> ∃x,G=K x) Y es (K acc) (true,K (acc++(es.filter (pQ s row)).map (·.Key))):=by
   intro es
   induction es with
   |nil=>intro acc _ _;rw[List.filter_nil,q_1,m_1];exact .nil ⟨_,rfl⟩
   |cons e es ih=>
    intro acc hn hg
    simp only[j_2]at hn
    have R:=nE s hS.2 (hg e ψ).fit hf hS.1
    have hg': ∀x∈es,gE s x:=λx hx=>hg x (by simp[hx])
    have pre: ∀{x},Ev (λn=>bif (dD s.Down e.Row row==0)then(db 1 (cI .i64) (K acc) A2.length 0).bind λq17=>et (decide ((q17.1++[e.Key]).length<=room))<|(cz 1 (cI .i64) q17.2 A2.length 0 (q17.1++[e.Key])).bind λH18=>some (true,H18)else some (true,K acc)) x->Ev (λn=>Y n e (K acc)) x:=λhE=>by
     show Ev (λn=>jt n _ _ _ e (K acc)) _
     unfold jt
     exact .af (cn (x:=some tr) (r:=[]) (g1 _) rfl)<|.af rfl<|.af (ic (T _).obj)<|.af (rH (c:=og) (g2 _) rfl)<|.bind R hE
    by_cases hc:pQ s row e=true
    .rw[w_7 hc,h_3,List.append_cons]
     exact .go ⟨_,rfl⟩ (pre (.t hc<|.af wA<|.et (by simp[room];omega)<|.af J6 (.pure _))) (ih _ χ hg')
    .rw[w_8 hc]
     exact .go ⟨_,rfl⟩ (pre (.f (by simpa[pQ]using hc) (.pure _))) (ih _ ω hg')
  have G:=Aa l a 0 (K []) _ (λH' hp=>by obtain⟨k,rfl⟩:=hp;exact(T _).hd) (λH' _=>by have:=h.top;have:=S.Lr;omega) (wS (q_8 _) (by have:=S.Lr;omega) h.bl) (run (a.fl l) [] χ λe he=>(h.g e he).1)
  refine⟨(K (((a.fl l).filter (pQ s row)).map (·.Key))).set A2.length (.cells [.undef]),?_,h.fr λj hj=>by rw[g_1 ω];exact f0 _ j hj⟩
  unfold lr
  refine .bind A0<|.f rfl<|.af rfl<|.af rfl<|.af rfl<|.af (cn (x:=some tr) (r:=[]) (jP (jP (CB rfl))) rfl)<|.af rfl<|.af (gr (jP (jP (jP h.obj))))<|.af rfl<|.bind (.of λn=>rfl) ?_
  refine .bind (a:=(true,K (((a.fl l).filter (pQ s row)).map (·.Key)))) (.af rfl ?_) (.t rfl<|.af wA (.pure _))
  unfold sD
  exact G
def M4(S:SI s o)(h:TI s o last l a H tr)(hr:row.length<1000)(hl:(a.fl l).length<500)(n:Int):
  ∃H',Ev (λf=>js f tr row n H) (if bH s.aD row=true then(if n<0 then([],7)else(((a.fl l).filter (LK s row)).take n.toNat,0))else([],1),H')/\TI s o last l a H' tr:=by
 have hS:=gO S.ok
 have A0:=pw h (key:=1) hr
 cases hf:bH s.aD row with
 |false=>
  have hk:jJ s row 1=false:=by simp[jJ,hf]
  rw[hk]at A0
  refine⟨H,?_,h⟩
  unfold js
  exact .bind A0<|.t rfl (.pure _)
 |true=>
  have hk:jJ s row 1=true:=by simp[jJ,hf]
  rw[hk]at A0
  by_cases hn:n<0
  .rw[if_pos rfl,if_pos hn]
   refine⟨H,?_,h⟩
   unfold js
   exact .bind A0<|.f rfl<|.t (by simpa using hn) (.pure _)
  rw[if_pos rfl,if_neg hn]
  obtain⟨m,rfl⟩: ∃m:Nat,(m:Int)=n:=⟨n.toNat,ω⟩
  let A1:Hp:=H++[.cells [.d (.ptr tr 0)]]
  let A2:Hp:=A1++[.cells [.d (.list 3 (List.map ar row))]]
  let A3:Hp:=A2++[Bc m]
  let K (l:List Entry):Hp:=Kx A3 3 aM l
  have l1:A1.length=H.length+1:=by simp[A1]
  have l2:A2.length=H.length+2:=by simp[A2,l1]
  have l3:A3.length=H.length+3:=by simp[A3,l2]
  have f0: ∀x j,j<H.length->(K x)[j]? =H[j]? :=λx j hj=>by
   rw[Bu ω];grind
  have T: ∀x,TI s o last l a (K x) tr:=λx=>h.fr (f0 x)
  have g1: ∀x,(K x)[H.length]? =some (.cells [.d (.ptr tr 0)]):=λx=>by rw[Bu ω];exact jP (jP (CB rfl))
  have g2: ∀x,(K x)[A1.length]? =some (.cells [.d (.list 3 (List.map ar row))]):=λx=>by rw[Bu ω];exact jP (CB rfl)
  have g3: ∀x,(K x)[A2.length]? =some (Bc m):=λx=>by rw[Bu ω];exact CB rfl
  let Y:=λ(n:Nat)=>gg n (A1,H.length) (A2,A1.length) (A3,A2.length) (A3++[.cells [.own 3 (List.map ab ([]:List Entry))]],A3.length)
  have run: ∀(es acc:List Entry),acc.length+es.length<1000->acc.length<=m->(∀e∈es,gE s e)-> ∃b,qN (λG=> ∃x,G=K x) Y es (K acc) (b,K (acc++(es.filter (LK s row)).take (m - acc.length))):=by
   intro es
   induction es with
   |nil=>intro acc _ _ _;rw[List.filter_nil,List.take_nil,m_1];exact⟨true,.nil ⟨_,rfl⟩⟩
   |cons e es ih=>
    intro acc hn hm hg
    simp only[j_2]at hn
    have R:=nE s hS.2 (hg e ψ).fit hf hS.1
    have hg': ∀x∈es,gE s x:=λx hx=>hg x (by simp[hx])
    have g4:bG 3 aM (K acc) A3.length 0=some acc:=eQ II rfl
    have g5:bz (cI .i64).cell (K acc) A2.length 0=some (m:Int):=cn (r:=[]) (g3 _) rfl
    by_cases h1:acc.length=m
    .rw[h1,Nat.sub_self,List.take_zero,m_1]
     refine⟨false,.stop ⟨_,rfl⟩ ?_⟩
     show Ev (λn=>gg n _ _ _ _ e (K acc)) _
     unfold gg
     exact .af g4<|.af g5<|.t (by simp[h1]) (.pure _)
    have pre: ∀{x},Ev (λn=>bif (decide (dD s.Down e.Row row>=0))then(db 3 aM (K acc) A3.length 0).bind λq20=>(vL n e).bind λr21=>et (decide ((q20.1++[r21]).length<=room))<|(cz 3 aM q20.2 A3.length 0 (q20.1++[r21])).bind λH23=>some (true,H23)else some (true,K acc)) x->Ev (λn=>Y n e (K acc)) x:=λhE=>by
     show Ev (λn=>gg n _ _ _ _ e (K acc)) _
     unfold gg
     exact .af g4<|.af g5<|.f χ<|.af (cn (x:=some tr) (r:=[]) (g1 _) rfl)<|.af rfl<|.af (ic (T _).obj)<|.af (rH (c:=og) (g2 _) rfl)<|.bind R hE
    by_cases hc:LK s row e=true
    .obtain⟨b,ih⟩:=ih (acc++[e]) χ χ hg'
     rw[w_7 hc,show m - acc.length=(m - (acc++[e]).length)+1 by simp;omega,List.take_succ_cons,List.append_cons]
     exact⟨b,.go ⟨_,rfl⟩ (pre (.t hc<|.af wA<|.bind (Eh e (by have:=fi (hg e ψ).fit;omega))<|.et (by simp[room];omega)<|.af J6 (.pure _))) ih⟩
    .obtain⟨b,ih⟩:=ih acc ω hm hg'
     rw[w_8 hc]
     exact⟨b,.go ⟨_,rfl⟩ (pre (.f (by simpa[LK]using hc) (.pure _))) ih⟩
  obtain⟨b,R⟩:=run (a.fl l) [] χ ψ λe he=>(h.g e he).1
  have G:=Aa l a 0 (K []) _ (λH' hp=>by obtain⟨k,rfl⟩:=hp;exact(T _).hd) (λH' _=>by have:=h.top;have:=S.Lr;omega) (wS (q_8 _) (by have:=S.Lr;omega) h.bl) R
  refine⟨(K (((a.fl l).filter (LK s row)).take m)).set A3.length (.cells [.undef]),?_,h.fr λj hj=>by rw[g_1 ω];exact f0 _ j hj⟩
  unfold js
  refine .bind A0<|.f rfl<|.f (by simpa using hn)<|.af rfl<|.af rfl<|.af rfl<|.af rfl<|.af (cn (x:=some tr) (r:=[]) (jP (jP (jP (CB rfl)))) rfl)<|.af rfl<|.af (gr (jP (jP (jP (jP h.obj)))))<|.af rfl<|.bind (.of λn=>rfl) ?_
  refine .bind (a:=(b,K (((a.fl l).filter (LK s row)).take m))) (.af rfl ?_) ?_
  .unfold sD
   exact G
  .cases b with
   |true=>exact .t rfl<|.af wA (.pure _)
   |false=>exact .f rfl<|.af wA (.pure _)
end
set_option maxRecDepth 100000
def Em(er:Int)(fl:List Entry)(i:Int):Entry×Int:=if 0<=i then(match fl[i.toNat]? with|some e=>(e,0)|none=>(vH,er))else(vH,er)
def Hg(s:ay)(row:List Value)(key b:Int)(fl:List Entry):Entry×Int:=
 if jJ s row key=false then(vH,1)else match s9 (uy s row key) fl with|none=>(vH,8)|some (n,_)=>Em 9 fl (n+b)
def Ls(fl:List Entry)(n:Int):Entry×Int:=if n=0 then(vH,7)else Em 8 fl (if n<0 then fl.length+n else n - 1)
def PU(s:ay)(row:List Value)(key:Int)(fl:List Entry):Int×Int:=
 if jJ s row key=false then(0,1)else match s9 (uy s row key) fl with|none=>(0,8)|some (n,_)=>(n+1,0)
def wm(h:k<fl.length):Em er fl (k:Nat)=(fl[k],0):=by simp[Em,h]
def qx(h:i<0\/(fl.length:Int)<=i):Em er fl i=(vH,er):=by
 unfold Em
 split
 .rw[List.getElem?_eq_none ω]
 .rfl
def Na{β:Type}{k:Entry×Int->β}{fl:List Entry}{i j:Int}(h:j=i):Ev (λ_=>bif decide (j<0)then some (k (vH,9))else bif decide (j>=(fl.length:Int))then some (k (vH,9))else(idx fl j).bind λx=>some (k (x,0))) (k (Em 9 fl i)):=by
 subst h
 by_cases h1:j<0
 .rw[qx (.inl h1)];exact .t (by simpa using h1) (.pure _)
 refine .f (by simpa using h1) ?_
 obtain⟨i,rfl⟩: ∃i:Nat,(i:Int)=j:=⟨j.toNat,ω⟩
 by_cases h2:i<fl.length
 .rw[wm h2];exact .f χ<|.af (aN h2) (.pure _)
 .rw[qx (.inr ω)];exact .t χ (.pure _)
section
variable {s:ay} {o l tr:Nat} {last:Int} {a:AT} {H:Hp} {row:List Value} {key:Int} {fl:List Entry}
def KC(S:SI s o)(h:TI s o last l a H tr)(h0:0<=last)(hl:(a.fl l).length<400): ∃H',Ev (λf=>iu f tr H) (a.fl l,H')/\TI s o last l a H' tr:=by
 obtain⟨q1,-,q3,q4,-⟩:=h.NC S h0 hl
 obtain⟨H',E,F⟩:=Jf q1 q3
 exact⟨H',q4▸E,h.fr (N5 F).1⟩
def Az(S:SI s o)(h:TI s o last l a H tr)(h0:0<=last)(hr:row.length<1000)(hl:(a.fl l).length<400)(b:Int)(hb: -9<=b/\b<=9):
  ∃H',Ev (λf=>fY f tr row key b H) (Hg s row key b (a.fl l),H')/\TI s o last l a H' tr:=by
 have A0:=pw h (key:=key) hr
 unfold Hg
 cases hk:jJ s row key with
 |false=>
  rw[hk]at A0
  refine⟨H,?_,h⟩
  unfold fY
  exact .bind A0<|.t rfl (.pure _)
 |true=>
  rw[hk]at A0
  obtain⟨H0,E0,F0,L0⟩:=zW S h (kJ hk).1 key ω
  have t0:=h.fr F0
  cases hf:s9 (uy s row key) (a.fl l)with
  |none=>
   rw[hf]at E0
   refine⟨H0,?_,t0⟩
   unfold fY
   exact .bind A0<|.f rfl<|.bind E0<|.t rfl (.pure _)
  |some q=>
   obtain⟨n,e⟩:=q
   rw[hf]at E0
   obtain⟨H1,E1,t1⟩:=KC S t0 h0 hl
   have hn:=(g_5.1 (mo hf).1).1
   refine⟨H1,?_,t1⟩
   unfold fY
   refine .bind A0<|.f rfl<|.bind E0<|.f rfl<|.bind E1 ?_
   exact Na (k:=λq=>(q,H1)) (show IntKind.wrap .i64 ((n:Int)+b)=n+b from dq ω ω)
def PB(S:SI s o)(h:TI s o last l a H tr)(h0:0<=last)(hl:(a.fl l).length<400)(n:Int):
  ∃H',Ev (λf=>oX f tr n H) (Ls (a.fl l) n,H')/\TI s o last l a H' tr:=by
 obtain⟨H1,E1,t1⟩:=KC S h h0 hl
 refine⟨H1,?_,t1⟩
 unfold oX Ls
 refine .bind E1 ?_
 dsimp only
 by_cases hn:n=0
 .rw[if_pos hn];exact .t (by simpa using hn) (.pure _)
 rw[if_neg hn]
 refine .f (by simpa using hn)<|.bp ?_
 rw[dq (x:=0 - _) ω ω]
 by_cases h1:n<0
 .rw[if_pos h1]
  by_cases h2:n< -((a.fl l).length:Int)
  .rw[qx (.inl ω)]
   exact .t χ<|.t rfl (.pure _)
  .obtain⟨k,hk⟩: ∃k:Nat,(k:Int)=(a.fl l).length+n:=⟨((a.fl l).length+n).toNat,ω⟩
   rw[<-hk,wm ω]
   refine .f χ<|.f χ<|.t χ ?_
   rw[dq (x:=(k:Int)) ω ω]
   exact .af (aN ω) (.pure _)
 .rw[if_neg h1]
  refine .f χ ?_
  by_cases h2:n>((a.fl l).length:Int)
  .rw[qx (.inr ω)]
   exact .t χ (.pure _)
  .obtain⟨k,hk⟩: ∃k:Nat,(k:Int)=n - 1:=⟨(n - 1).toNat,ω⟩
   rw[<-hk,wm ω]
   refine .f χ<|.f χ ?_
   rw[dq (x:=(k:Int)) ω ω]
   exact .af (aN ω) (.pure _)
def Lh(S:SI s o)(h:TI s o last l a H tr)(hr:row.length<1000)(hl:(a.fl l).length<400):
  ∃H',Ev (λf=>im f tr row key H) (PU s row key (a.fl l),H'):=by
 have A0:=pw h (key:=key) hr
 unfold PU
 cases hk:jJ s row key with
 |false=>
  rw[hk]at A0
  refine⟨H,?_⟩
  unfold im
  exact .bind A0<|.t rfl (.pure _)
 |true=>
  rw[hk]at A0
  obtain⟨H0,E0,F0,L0⟩:=zW S h (kJ hk).1 key ω
  cases hf:s9 (uy s row key) (a.fl l)with
  |none=>
   rw[hf]at E0
   refine⟨H0,?_⟩
   unfold im
   exact .bind A0<|.f rfl<|.bind E0<|.t rfl (.pure _)
  |some q=>
   obtain⟨n,e⟩:=q
   rw[hf]at E0
   have hn:=(g_5.1 (mo hf).1).1
   refine⟨H0,?_⟩
   unfold im
   refine .bind A0<|.f rfl<|.bind E0<|.f rfl ?_
   simp only[S4]
   rw[dq ω ω]
   exact .pure _
def FZ(S:SI s o)(hr:row.length<1000)(hg: ∀e∈fl,gE s e)(hl:fl.length<400)(b:Int)(hb: -9<=b/\b<=9):
  Ev (λf=>lx f (⟨s,o,fl,last⟩:Tree) row key b) (Hg s row key b fl):=by
 unfold lx Hg
 refine tQ S hr ?_
 cases hk:jJ s row key with
 |false=>exact .t rfl (.pure _)
 |true=>
  refine .f rfl<|.bind (Ee S.ok (kJ hk).1 hg ω) ?_
  cases hf:s9 (uy s row key) fl with
  |none=>exact .t rfl (.pure _)
  |some q=>
   obtain⟨n,e⟩:=q
   have hn:=(g_5.1 (mo hf).1).1
   exact .f (decide_eq_false (show ¬((n:Int)<0)by omega))<|Na (k:=λq=>q) (show IntKind.wrap .i64 ((n:Int)+b)=n+b from dq ω ω)
def Ln(S:SI s o)(hr:row.length<1000)(hg: ∀e∈fl,gE s e)(hl:fl.length<400):
  Ev (λf=>mb f (⟨s,o,fl,last⟩:Tree) row key) (PU s row key fl):=by
 unfold mb PU
 refine tQ S hr ?_
 cases hk:jJ s row key with
 |false=>exact .t rfl (.pure _)
 |true=>
  refine .f rfl<|.bind (Ee S.ok (kJ hk).1 hg ω) ?_
  cases hf:s9 (uy s row key) fl with
  |none=>exact .t rfl (.pure _)
  |some q=>
   obtain⟨n,e⟩:=q
   have hn:=(g_5.1 (mo hf).1).1
   refine .f (decide_eq_false (show ¬((n:Int)<0)by omega)) ?_
   rw[show IntKind.wrap .i64 (S5 (some (n,e))+1)=n+1 from dq (x:=(n:Int)+1) ω ω]
   exact .pure _
def PO(hl:fl.length<400)(n:Int):Ev (λf=>pc f (⟨s,o,fl,last⟩:Tree) n) (Ls fl n):=by
 unfold pc Ls
 dsimp only
 by_cases hn:n=0
 .rw[if_pos hn];exact .t (by simpa using hn) (.pure _)
 rw[if_neg hn]
 refine .f (by simpa using hn)<|.bp ?_
 rw[dq (x:=0 - _) ω ω]
 by_cases h1:n<0
 .rw[if_pos h1]
  refine .f χ<|.f rfl<|.t χ ?_
  by_cases h2:n< -(fl.length:Int)
  .rw[qx (.inl ω)]
   exact .f χ (.pure _)
  .obtain⟨k,hk⟩: ∃k:Nat,(k:Int)=fl.length+n:=⟨(fl.length+n).toNat,ω⟩
   rw[<-hk,wm ω]
   refine .t χ ?_
   rw[dq (x:=(k:Int)) ω ω]
   exact .af (aN ω) (.pure _)
 .rw[if_neg h1]
  refine .t χ ?_
  by_cases h2:n>(fl.length:Int)
  .rw[qx (.inr ω)]
   exact .f χ<|.f χ (.pure _)
  .obtain⟨k,hk⟩: ∃k:Nat,(k:Int)=n - 1:=⟨(n - 1).toNat,ω⟩
   rw[<-hk,wm ω]
   refine .t χ ?_
   rw[dq (x:=(k:Int)) ω ω]
   exact .af (aN ω) (.pure _)
def Nm(S:SI s o)(hr:row.length<1000)(hg: ∀e∈fl,gE s e)(hl:fl.length<400):
  Ev (λf=>nL f (⟨s,o,fl,last⟩:Tree) row) (if bH s.aD row=true then((fl.filter (pQ s row)).map (·.Key),0)else([],1)):=by
 unfold nL
 refine .bind (tU s row S.ok hr) ?_
 cases hf:bH s.aD row with
 |false=>exact .t rfl (.pure _)
 |true=>
  have L: ∀(q:List Entry) (k:Nat) (acc:List Int),fl.drop k=q->k<=fl.length->acc.length<=k->mH (λf=>gT f (⟨s,o,fl,last⟩:Tree) row) (acc,(k:Int)) (acc++(q.filter (pQ s row)).map (·.Key)):=by
   intro q
   induction q with
   |nil=>
    intro k acc hd hk ha
    have hk2:fl.length<=k:=by simpa using hd
    rw[List.filter_nil,q_1,m_1]
    refine .stop ?_
    unfold gT
    exact .f (oF hk2) (.pure _)
   |cons e q ih=>
    intro k acc hd hk ha
    have hk1:k<fl.length:=by
     grind
    have hek:fl[k]=e:=by rw[aZ hk1]at hd;exact(h_7 hd).1
    have hdl:fl.drop (k+1)=q:=by rw[aZ hk1]at hd;exact(h_7 hd).2
    have R:=zQ S.ok (hg e (hek▸j_1 hk1)).fit hf
    have pre: ∀{x},Ev (λf=>bif (dD s.Down e.Row row==0)then et (decide ((acc++[e.Key]).length<=room))<|some (Sum.inl (acc++[e.Key],((k+1:Nat):Int)))else some (.inl (acc,((k+1:Nat):Int)))) x->Ev (λf=>gT f (⟨s,o,fl,last⟩:Tree) row (acc,(k:Int))) x:=λhE=>by
     unfold gT
     refine .t (gw hk1)<|.af (aN hk1) ?_
     rw[aN hk1,hek,eu ω]
     exact .bind R hE
    by_cases hc:pQ s row e=true
    .rw[w_7 hc,h_3,List.append_cons]
     exact .next (pre (.t hc<|.et (by simp[room];omega) (.pure _))) (ih (k+1) _ hdl ω χ)
    .rw[w_8 hc]
     exact .next (pre (.f (by simpa[pQ]using hc) (.pure _))) (ih (k+1) _ hdl ω ω)
  refine .f rfl<|.bind (L fl 0 [] rfl ω ψ).ev (.pure _)
def M9(x:Int):decide (sj x>=0)=decide (x>=0):=by unfold sj;split<;>(try split)<;>simp<;>omega
def Nl(S:SI s o)(hr:row.length<1000)(hg: ∀e∈fl,gE s e)(hl:fl.length<400)(n:Int):
  Ev (λf=>nJ f (⟨s,o,fl,last⟩:Tree) row n) (if bH s.aD row=true then(if n<0 then([],7)else((fl.filter (LK s row)).take n.toNat,0))else([],1)):=by
 have hS:=gO S.ok
 unfold nJ
 refine .bind (tU s row S.ok hr) ?_
 cases hf:bH s.aD row with
 |false=>exact .t rfl (.pure _)
 |true=>
  refine .f rfl ?_
  by_cases hn:n<0
  .rw[if_pos rfl,if_pos hn];exact .t (by simpa using hn) (.pure _)
  rw[if_pos rfl,if_neg hn]
  obtain⟨m,rfl⟩: ∃m:Nat,(m:Int)=n:=⟨n.toNat,ω⟩
  have L: ∀(q:List Entry) (k:Nat) (acc:List Entry),fl.drop k=q->k<=fl.length->acc.length<=k->acc.length<=m->mH (λf=>gk f (⟨s,o,fl,last⟩:Tree) row (m:Int)) (acc,(k:Int)) (acc++(q.filter (LK s row)).take (m - acc.length)):=by
   intro q
   induction q with
   |nil=>
    intro k acc hd hk ha hm
    have hk2:fl.length<=k:=by simpa using hd
    rw[List.filter_nil,List.take_nil,m_1]
    refine .stop ?_
    unfold gk
    exact .bp<|.f (oF hk2)<|.f rfl (.pure _)
   |cons e q ih=>
    intro k acc hd hk ha hm
    have hk1:k<fl.length:=by
     grind
    have hek:fl[k]=e:=by rw[aZ hk1]at hd;exact(h_7 hd).1
    have hdl:fl.drop (k+1)=q:=by rw[aZ hk1]at hd;exact(h_7 hd).2
    by_cases h1:acc.length=m
    .rw[h1,Nat.sub_self,List.take_zero,m_1]
     refine .stop ?_
     unfold gk
     exact .bp<|.t (gw hk1)<|.f χ (.pure _)
    have R:=A9 s hS.2 (hg e (hek▸j_1 hk1)).fit hf hS.1
    have pre: ∀{x},Ev (λf=>bif (decide (sj (dD s.Down e.Row row)>=0))then et (decide ((acc++[e]).length<=room))<|some (Sum.inl (acc++[e],((k+1:Nat):Int)))else some (.inl (acc,((k+1:Nat):Int)))) x->Ev (λf=>gk f (⟨s,o,fl,last⟩:Tree) row (m:Int) (acc,(k:Int))) x:=λhE=>by
     unfold gk
     refine .bp<|.t (gw hk1)<|.t χ<|.af (aN hk1) ?_
     rw[aN hk1,hek,eu ω]
     exact .bind R hE
    by_cases hc:LK s row e=true
    .rw[w_7 hc,show m - acc.length=(m - (acc++[e]).length)+1 by simp;omega,List.take_succ_cons,List.append_cons]
     exact .next (pre (.t (by rw[M9];exact hc)<|.et (by simp[room];omega) (.pure _))) (ih (k+1) _ hdl ω χ χ)
    .rw[w_8 hc]
     exact .next (pre (.f (by rw[M9];simpa[LK]using hc) (.pure _))) (ih (k+1) _ hdl ω ω hm)
  refine .f (by simpa using hn)<|.bind (L fl 0 [] rfl ω ψ ψ).ev (.pure _)
end
set_option maxRecDepth 100000
def Nu(e:Entry):Prop:=e.Row.length<1000/\ ∀v∈e.Row,yR v=true
def Nt:Nu vH:=⟨by simp[vH],by simp[vH]⟩
def JS{fl:List Entry}(h: ∀e∈fl,Nu e):Nu (Em er fl i).1:=by
 unfold Em
 split
 .split
  .rename_i e he;exact h e (k_9 he)
  .exact Nt
 .exact Nt
def JT{s:ay}{fl:List Entry}(h: ∀e∈fl,Nu e):Nu (Hg s row key b fl).1:=by
 unfold Hg
 split
 .exact Nt
 .split
  .exact Nt
  .exact JS h
def Ns{fl:List Entry}(h: ∀e∈fl,Nu e):Nu (Ls fl n).1:=by
 unfold Ls
 split
 .exact Nt
 .exact JS h
def FR{l:List Entry}(hl:l.length<1000)(h: ∀e∈l,Nu e):Ev (λf=>dI f l l) true:=AF ω h
def AG(h:Nu e):Ev (λf=>dI f [e] [e]) true:=FR ψ (by simpa using h)
def D5(s:ay)(order:Int)(acts:List Act)(row:List Value)(key n:Int):Ev (λf=>pM f s order acts row key n) true:=by
 obtain⟨b,A,hb⟩:=Qv s acts
 have R:=JL [row] ψ
 unfold pM
 refine .bp<|.bind A ?_
 cases b with
 |false=>exact .t rfl<|.t rfl<|.bind wT (.pure _)
 |true=>
  refine .f rfl<|.bind R ?_
  cases hr:[row].all lY with
  |false=>exact .t rfl<|.bind wT (.pure _)
  |true=>
   have hr1:row.length<1000:=xB (by simpa using hr)
   refine .f rfl ?_
   obtain⟨t,r,ok,H',E,PP⟩:=PW (order:=order) (hb rfl)
   refine .bind E ?_
   cases ok with
   |false=>exact .t rfl<|.t (g:=λ_=>some false) rfl<|.bind wT (.pure _)
   |true=>
    obtain⟨o,l,a,last,tr,ho,ht,hr,P⟩:=PP rfl
    subst ht hr
    have S:=P.si
    have h80:=P.hl
    have hg: ∀e∈a.fl l,gE s e:=λe he=>(P.ti.g e he).1
    have hk: ∀e∈a.fl l,Nu e:=λe he=>⟨by have:=fi (hg e he).fit;have:=(gO S.ok).1;omega,GI (hg e he).1⟩
    obtain⟨H1,E1,t1⟩:=M5 S P.ti hr1 ω
    obtain⟨H2,E2,t2⟩:=M4 S t1 hr1 ω n
    obtain⟨H3,E3,t3⟩:=Az S t2 (key:=key) P.h0 hr1 ω 1 ω
    obtain⟨H4,E4,t4⟩:=Az S t3 (key:=key) P.h0 hr1 ω (-1) ω
    obtain⟨H5,E5,t5⟩:=PB S t4 P.h0 ω n
    obtain⟨H6,E6⟩:=Lh S t5 (key:=key) hr1 ω
    have F1:=Nm S (o:=o) (last:=last) hr1 hg ω
    have F2:=Nl S (o:=o) (last:=last) hr1 hg ω n
    have F3:=FZ S (o:=o) (last:=last) (key:=key) hr1 hg ω 1 ω
    have F4:=FZ S (o:=o) (last:=last) (key:=key) hr1 hg ω (-1) ω
    have F5:=PO (s:=s) (o:=o) (last:=last) (fl:=a.fl l) ω n
    have F6:=Ln S (o:=o) (last:=last) (key:=key) hr1 hg ω
    have N3:Ev (λf=>nB f tr row key H2) (Hg s row key 1 (a.fl l),H3):=by unfold nB;exact .bind E3 (.pure _)
    have N4:Ev (λf=>lW f tr row key H3) (Hg s row key (-1) (a.fl l),H4):=by unfold lW;exact .bind E4 (.pure _)
    have G1: ∀q:List Int×Int,q=(if bH s.aD row=true then(((a.fl l).filter (pQ s row)).map (·.Key),0)else([],1))->q.1.length<1000:=λq hq=>by
     subst hq;split
     .have:=List.length_filter_le (pQ s row) (a.fl l);simp;omega
     .simp
    have G2: ∀q:List Entry×Int,q=(if bH s.aD row=true then(if n<0 then([],7)else(((a.fl l).filter (LK s row)).take n.toNat,0))else([],1))->q.1.length<1000/\ ∀e∈q.1,Nu e:=λq hq=>by
     subst hq;split
     .split
      .simp
      .have:=List.length_filter_le (LK s row) (a.fl l)
       exact⟨χ,λe he=>hk e (List.mem_filter.1 (List.mem_of_mem_take he)).1⟩
     .simp
    generalize (if bH s.aD row=true then(((a.fl l).filter (pQ s row)).map (·.Key),(0:Int))else([],1))=q1 at E1 F1 G1
    generalize (if bH s.aD row=true then(if n<0 then([],(7:Int))else(((a.fl l).filter (LK s row)).take n.toNat,0))else([],1))=q2 at E2 F2 G2
    have ne: ∀x:Int,(x !=x)=false:=λx=>by simp
    refine .f rfl<|.af rfl<|.bind E1<|.bind F1<|.bp<|.f (ne _)<|.bind (AE (Nat.lt_trans (G1 _ rfl) (by decide)))<|.f rfl ?_
    refine .af rfl<|.bind E2<|.bind F2<|.bp<|.f (ne _)<|.bind (FR (G2 _ rfl).1 (G2 _ rfl).2)<|.f rfl ?_
    refine .af rfl<|.bind N3<|.bind F3<|.bp<|.f (ne _)<|.bind (AG (JT hk))<|.f rfl ?_
    refine .af rfl<|.bind N4<|.bind F4<|.bp<|.f (ne _)<|.bind (AG (JT hk))<|.f rfl ?_
    refine .af rfl<|.bind E5<|.bind F5<|.bp<|.f (ne _)<|.bind (AG (Ns hk))<|.f rfl ?_
    exact .af rfl<|.bind E6<|.bind F6<|.t ψ<|.bind wT (.pure _)
end Go.Sh
