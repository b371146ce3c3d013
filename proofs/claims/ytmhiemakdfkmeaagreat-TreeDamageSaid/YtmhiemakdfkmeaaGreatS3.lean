/- Contracts of functions over plain data. -/
import Derived.Test.YtmhiemakdfkmeaaGreatS2
import Derived.Lib.FrozenHead
import Derived.KernelRfl
import Derived.OrdersIn
set_option linter.all false
set_option autoImplicit true
set_option relaxedAutoImplicit true
namespace Go.Sh
def Tz:List (Nat×Nat)->List SV->Option (List SV)
 |[],cs=>some cs
 |(j,n)::nl,cs=>match cs[j]? with
  |some (.d .cG)=>Tz nl (cs.set j (if n<100 then .own n []else .d (.list (n - 100) [])))
  |_=>none
def Gi{g:Gh}{w:World}{i:Nat}{c:Array Value}: ∀(nl:List (Nat×Nat)) (cs cs':List SV),Tz nl cs=some cs'->
  (∀(j:Nat) (s:SV),cs[j]? =some s-> ∃u,c[j]? =some u/\RC g w (.au i j) u s/\u.oneCell'=true)->cs'.length=cs.length/\ ∀(j:Nat) (s:SV),cs'[j]? =some s-> ∃u,c[j]? =some u/\RC g w (.au i j) u s/\u.oneCell'=true
 |[],cs,cs',h,hc=>by cases h;exact⟨rfl,hc⟩
 |(j0,n)::nl,cs,cs',h,hc=>by
  unfold Tz at h
  split at h
  .rename_i h0
   obtain⟨u,u1,u2,u3⟩:=hc j0 _ h0
   obtain⟨a,rfl⟩:=Rd.jA (show Rd g w u .cG from u2)
   obtain⟨e1,e2⟩:=Gi nl _ cs' h (λj s hj=>by
    by_cases e:j0=j
    .subst e
     rw[g_0 (aU h0)]at hj
     cases hj
     by_cases hn:n<100
     .rw[if_pos hn]
      exact⟨_,u1,.inl ⟨rfl,a,rfl⟩,u3⟩
     .rw[if_neg hn]
      exact⟨_,u1,(Rd.mu:Rd g w _ (.list (n - 100) [])),u3⟩
    .rw[g_1 e]at hj
     exact hc j s hj)
   exact⟨by rw[e1];simp,e2⟩
  .cases h
def eB.push{ow:Nat->Own}:eB g ⟨ow,g.ρ++[k]⟩:=λi k' h=>by
 grind
section
variable {P:Program} {st:St} {ds:List Deferred} {Q:Exit->St->Prop}
def Rel.Ty{a:Act}{w:World}{g:Gh}{t:Nat}{cs cs':List SV}{nl:List (Nat×Nat)}(hr:Rel st a w g)(ht:st.tmps[t]? =some (.box cs))(hc:Tz nl cs=some cs'):
  ∃g',Rel ⟨((st.kill t).set t (.d (.ptr st.H.length 0))).tmps,st.H++[.cells cs']⟩ a w g'/\Fr false g w g' w:=by
 let i:=st.H.length
 let rn:Own->Own:=λo=>match o with
  |.box s=>if s=t then .obj i else .box s
  |.bN (.cell s c)=>if s=t then .bN (.au i c)else .bN (.cell s c)
  |o=>o
 obtain⟨k,c,T,f1,f2,f3,f4,f5⟩:=(show RS g w st.tmps (valOf a) t (valOf a t) (.box cs)from hr.tmp t _ ht)
 let g':Gh:=⟨λb=>rn (g.ow b),g.ρ++[k]⟩
 have hρ:eB g g':=eB.push
 have hk: ∀o,rn o=o->aO o g w g' w:=λo h b x h1 h2=>⟨by show rn (g.ow b)=o;rw[h1,h],h2⟩
 have hf:aO .free g w g' w:=hk _ rfl
 have hlen:g.ρ.length=st.H.length:=hr.hp.1
 refine⟨g',?_,h_0 _,hf,hk _ rfl,hρ,nofun,nofun,nofun,⟨rfl,rfl⟩⟩
 have xU:g'.ρ[i]? =some k:=by
  grind
 refine bc hr (by simp[St.set,St.kill,hr.len]) hr.dS hρ (λt' s hs=>?_) ⟨by simp[g',hlen],λi' o' hi'=>?_⟩
 .by_cases e:t=t'
  .subst e
   simp only[St.set]at hs
   rw[g_0 (by simp[St.kill];exact aU ht)]at hs
   cases hs
   refine .inr (.inl ?_)
   rw[f1]
   exact .ptr xU
  .simp only[St.set]at hs
   rw[g_1 e]at hs
   rcases lY hs with h|⟨h1,h2⟩
   .exact .inl h
   .refine .inr (.inr ⟨h1,rfl,λo' ho'=>hk o' ?_,λs0 e0=>⟨rfl,λx hx hb=>⟨x,?_,rfl⟩⟩⟩)
    .cases o' with
     |box s0=>
      cases s<;>simp[jQ]at ho'
      grind
     |bN l=>
      cases l with
      |cell s0 j=>
       cases s<;>simp[jQ]at ho'
       .subst ho';simp[dM]at h2;simp[rn,h2]
       .subst ho';simp[dM]at h2;simp[rn,h2]
       grind
      |_=>rfl
     |_=>rfl
    .have hne:t≠s0:=λe3=>by
      subst e3
      have:=cH e0
      grind
     show((st.kill t).set t _).tmps[s0]? =some x
     simp only[St.set]
     rw[g_1 hne]
     simp[St.kill,hx,eQ hb]
 .simp only at hi'
  by_cases e:i'<st.H.length
  .rw[h_6 e]at hi'
   exact(hr.hp.2 i' o' hi').nO hf (hk _ rfl) (λj=>hk _ rfl) hρ
  .have hlt:=aU hi'
   simp at hlt
   have:i'=i:=by simp only[i];omega
   subst this
   rw[h_5 (by simp[i])]at hi'
   simp only[i,Nat.sub_self,j_3,g_2]at hi'
   subst hi'
   have h5: ∀(j:Nat) (s:SV),cs[j]? =some s-> ∃u,c[j]? =some u/\RC g' w (.au i j) u s/\u.oneCell'=true:=λj s hj=>by
    obtain⟨u,u1,u2,u3⟩:=f5 j s hj
    refine⟨u,u1,?_,u3⟩
    cases s with
    |d x=>exact(show Rd g w u x from u2).bg hf hρ
    |own n xs=>
     rcases(show cy g w (.cell t j) u n xs from u2)with h|⟨k1,off,cap,c1,T1,us,x1,x2,x3,x4,x5,x6,x7,x8⟩
     .exact .inl h
     .exact .inr ⟨k1,off,cap,c1,T1,us,x1,φ,x3,x4,x5,x6,x7,λi0 x hx j0 y hy=>(x8 i0 x hx j0 y hy).bg hf hρ⟩
    |undef=>trivial
    |_=>exact u2.elim
   obtain⟨e1,e2⟩:=Gi nl cs cs' hc h5
   exact⟨k,c,T,xU,φ,f3,by rw[f4,e1],e2⟩
def Sd(st:St)(t:Nat)(nl:List (Nat×Nat)):Option (St×aN×Hp):=match st.tmps[t]? with
 |some (.box cs)=>(Tz nl cs).map λcs'=>(⟨((st.kill t).set t (.d (.ptr st.H.length 0))).tmps,[]⟩,.cells cs',st.H)
 |_=>none
def Rp(st:St)(t:Nat):Option (Nat×Hp):=match st.tmps[t]? with
 |some (.d (.ptr i 0))=>if st.tmps.all er=true then some (i,st.H)else none
 |_=>none
def tF: ∀(n:Nat) (l:List (Nat×SV)) (t j:Nat) (s:SV),(va l n t)[j]? =some s->s=.undef\/(t+j,s)∈l
 |0,l,t,j,s,h=>by simp[va]at h
 |n+1,[],t,j,s,h=>by
  simp only[va]at h
  cases j with
  |zero=>simp at h;exact .inl h.symm
  |succ j=>
   simp only[k_8]at h
   rcases tF n [] (t+1) j s h with h|h
   .exact .inl h
   .cases h
 |n+1,(t',x)::r,t,j,s,h=>by
  by_cases e:t'=t
  .subst e
   simp only[va,↓reduceIte]at h
   cases j with
   |zero=>grind
   |succ j=>
    simp only[k_8]at h
    rcases tF n r (t'+1) j s h with h|h
    .exact .inl h
    grind
  .simp only[va,e,↓reduceIte]at h
   cases j with
   |zero=>simp at h;exact .inl h.symm
   |succ j=>
    simp only[k_8]at h
    rcases tF n ((t',x)::r) (t+1) j s h with h|h
    .exact .inl h
    grind
def CJ{ds:List (Nat×D)}(cR:R.state=.ready)(hpe:R.pending=none)(hps:R.params= #[tp])(hlen:R.tmps.size=n)(L:List (Nat×SV))
  (hd: ∀t s,(t,s)∈L->(t=tp/\s=.d y)\/(t≠tp/\ ∃d,s=.d d/\(t,d)∈ds))
  (h:ME P (some l) R.assign (sp n L H) (λs1=>ME P (some l) R.body s1 (λs2=>s2.H=H'))):YB P (tw l R ds) l [.d y] H H':=by
 refine Fe (s0:=sp n L H) cR hpe hps rfl (by rw[hlen];exact mX n L 0) (λt s hs=>?_) h
 rcases tF n L 0 t s hs with rfl|hm
 .exact .inl rfl
 grind
end
section
variable {P:Program} {st:St} {Q:Exit->St->Prop}
def fN(hq:nv H0 ob=some q)(t n:Nat)(nl:List (Nat×Nat))(L:List Nat)(l:List (Nat×SV))(h:(Sd st t nl).map (λp=>(p.2.1,p.2.2))=some (ob,H0))(hs:(Sd st t nl).bind (λp=>bu n L p.1)=some (l,[]))
  (hn:ta P c (sp n l q.1) Q):ta P c st Q:=by
 unfold Sd at h hs
 split at h
 .rename_i cs ht
  simp only[ht]at hs
  simp only[Option.map_map,g_4]at h
  obtain⟨cs',h1,h2⟩:=h
  simp only[h1]at hs
  simp only[Function.comp,g_8]at h2
  obtain⟨rfl,rfl⟩:=h2
  cases hq
  simp only[m_4,j_5]at hs
  intro a w g hr
  obtain⟨g',r',f'⟩:=hr.Ty ht h1
  have r2:=r'.bC (st':=sp n l (st.H++[.cells cs'])) (aL (by
   unfold bu at hs ⊢
   split at hs
   .rename_i hc
    rw[if_pos hc]
    grind
   .cases hs))
  refine Code.wp_mono (λe a' w' hh=>?_) (hn a w g' r2)
  obtain⟨ds,a0,st',g2,m,e0,q,r,f⟩:=hh
  exact⟨ds,a0,st',g2,m,e0,q,r,f'.trans f⟩
 .cases h
def I8(st:St)(t j n:Nat):Option St:=match st.tmps[t]? with
 |some (.box cs)=>match cs[j]? with
  |some (.d .cG)=>some (st.set t (.box (cs.set j (.d (.list n [])))))
  |_=>none
 |_=>none
def Rel.I8(hr:Rel st a w g)(h:Sh.I8 st t j n=some st'):Rel st' a w g:=by
 unfold Sh.I8 at h
 split at h
 .rename_i cs ht
  split at h
  .rename_i hc
   cases h
   refine bc hr (by simp[St.set,hr.len]) hr.dS (λ_ _ h=>h) (λt' s hs=>?_) hr.hp
   by_cases e:t=t'
   .subst e
    simp only[St.set]at hs
    rw[g_0 (aU ht)]at hs
    cases hs
    refine .inr (.inl ?_)
    obtain⟨k,c,T,f1,f2,f3,f4,f5⟩:=(show RS g w st.tmps (valOf a) t (valOf a t) (.box cs)from hr.tmp t _ ht)
    refine⟨k,c,T,f1,f2,f3,by simp[f4],λj' s' hj=>?_⟩
    by_cases ej:j=j'
    .subst ej
     rw[g_0 (aU hc)]at hj
     cases hj
     obtain⟨u,u1,u2,u3⟩:=f5 j _ hc
     obtain⟨a0,rfl⟩:=Rd.jA (show Rd g w u .cG from u2)
     exact⟨_,u1,.mu,u3⟩
    grind
   .simp only[St.set]at hs
    rw[g_1 e]at hs
    refine .inr (.inr ⟨hs,rfl,λo' _=>aO.refl _ _ _,λs0 e0=>⟨rfl,λx hx hb=>?_⟩⟩)
    by_cases e3:t=s0
    .subst e3
     rw[ht]at hx
     cases hx
     exact⟨.box (cs.set j (.d (.list n []))),by simp only[St.set];grind,rfl⟩
    .exact⟨x,by simp only[St.set];grind,rfl⟩
  .cases h
 .cases h
def kB(t j n' n:Nat)(H:List aN)(L:List Nat)(l:List (Nat×SV))(cR:(Sh.I8 st t j n').bind (bu n L)=some (l,H))(h:SW P pu c (sp n l H) Q):SW P pu c st Q:=by
 simp only[g_9]at cR
 obtain⟨jh,h1,h2⟩:=cR
 exactλa w g hr=>h a w g ((hr.I8 h1).bC (aL h2))
def MD(t j n' n:Nat)(H:List aN)(L:List Nat)(l:List (Nat×SV))(cR:(Sh.I8 st t j n').bind (bu n L)=some (l,H))(h:PS P ds c (sp n l H) Q):PS P ds c st Q:=by
 simp only[g_9]at cR
 obtain⟨jh,h1,h2⟩:=cR
 exactλa w g hr=>h a w g ((hr.I8 h1).bC (aL h2))
def Us(tp:Nat)(y:D)(ds:List (Nat×D)):List (Nat×SV)->Prop
 |[]=>True
 |(t,s)::r=>((t=tp/\s=.d y)\/(t≠tp/\ ∃d,s=.d d/\(t,d)∈ds))/\Us tp y ds r
def xb: ∀{L:List (Nat×SV)},Us tp y ds L-> ∀t s,(t,s)∈L->(t=tp/\s=.d y)\/(t≠tp/\ ∃d,s=.d d/\(t,d)∈ds)
 |(t0,s0)::r,h,t,s,hm=>by
  rcases h_8.1 hm with e|hm
  .cases e;exact h.1
  .exact xb h.2 t s hm
def Fk(ds:List (Nat×D))(hg:cx st gop=some (.fn (.func f) [] caps))(hfn:EJ P f=true)(hn:st.tmps.all er=true)
  (hds:ds.map (λp=>st.tmps[p.1]?)=ds.map (λp=>some (SV.d p.2)))
  (hf: ∀(l:Nat) (R:Loop),R.state=.ready->R.pending=none->R.params=ps->R.assign=assign->R.body=body->R.tmps.size=st.tmps.length->UE P (tw l R ds) f (.d (.fn (.yield l) [] [])::caps.map .d) st.H H')
  (hq:Q .normal ⟨st.tmps,H'⟩):ta P (.rangeFunc gop ps assign body) st Q:=
 Fl (ds:=ds) hg hfn hn (λt d h=>by
  have:=List.map_inj_left.1 hds (t,d) h
  exact this) hf hq
end
section
variable {P:Program} {ops:Array Oper} {k:Nat} {st:St} {Q:St->Prop}
end
section
variable {P:Program} {st:St} {ops:Array Oper} {k:Nat}
def TT(ops:Array Oper)(k:Nat)(st:St):Option (Option Tmp×Bool×IntKind×Int×Int):=
 match fR ops k st with
 |some o=>match o.op with
  |.binOp op T x y yT=>match(if op matches .quo then some true else if op matches .rem then some false else none),cx st x,cx st y with
   |some l,some (.int kk a),some (.int kk' b)=>if kk=kk' then some (o.dst,l,kk,a,b)else none
   |_,_,_=>none
  |_=>none
 |none=>none
def Eg(h0:decide (b≠0)=true)(h:TT ops k st=some (d,l,kk,a,b)):pP P ops k st d (.d (.int kk (bif l then kk.wrap (Int.tdiv a b)else Int.tmod a b))):=by
 have h0:b≠0:=of_decide_eq_true h0
 unfold TT at h
 split at h
 .rename_i o ho
  split at h
  .rename_i op T x y yT hop
   split at h
   .rename_i l' kk' a' kb b' hl hx hy
    split at h
    .rename_i hkk
     subst hkk
     simp only[g_2,g_8]at h
     obtain⟨rfl,rfl,rfl,rfl,rfl⟩:=h
     obtain⟨h1,h2⟩:=bo ho
     refine⟨o,h1,h2,cA ?_,rfl,rfl⟩
     cases op<;>simp only[reduceCtorEq,if_false,g_7,if_true,g_2]at hl
     all_goals (subst hl;simp only[CD,hop,QQ,hx,hy,j_5,nN,DN,lV,eqGuard,Go.binOp,Op.intDiv];first|done|skip)
     all_goals simp[lV,h0,yR,Op.intDiv,bind,Sem.bind,pure]
    .cases h
   .cases h
  .cases h
 .cases h
end
section
variable {P:Program} {pu:Bool} {ops:Array Oper} {k n:Nat} {l0:List (Nat×SV)} {H:List aN}
def Ha:Nat->Code->Code
 |0,c=>c
 |j+1,c=>match c with|.seq _ y=>Ha j y|_=>.skip
def Gc(P:Program):Nat->Code->St->Option St
 |0,_,st=>some st
 |j+1,c,st=>match c with
  |.seq (.region _ ops b) y=>bif b then none else(fX P [] ops ops.size 0 st).bind (Gc P j y)
  |_=>none
def wT{Q:Exit->St->Prop}: ∀(j:Nat) (c:Code) (st st':St),Sh.Gc P j c st=some st'->SW P pu (Ha j c) st' Q->SW P pu c st Q
 |0,c,st,st',h,hn=>by cases h;exact hn
 |j+1,c,st,st',h,hn=>by
  simp only[Sh.Gc]at h
  split at h
  .rename_i id ops b y
   cases b with
   |true=>cases h
   |false=>
    simp only[cond_false,g_9]at h
    obtain⟨jh,h1,h2⟩:=h
    refine an (ah (qy (k:=0) ops.size h1 (yq ψ ?_)))
    exact wT j y jh st' h2 hn
  .cases h
def Uq{Q:Exit->St->Prop}(j:Nat)(l:List (Nat×SV))(hn:SW P pu (Ha j c) (sp n l H) Q)(h:(Sh.Gc P j c (sp n l0 H)).bind (bu n (l.map (·.1)))=some (l,H):=by kernel_rfl):SW P pu c (sp n l0 H) Q:=by
 obtain⟨jh,h1,h2⟩:=g_9.1 h
 exact wT j c _ jh h1 (BZ n H _ l h2 hn)
def aK{Q:St->Prop}(j:Nat)(l:List (Nat×SV))(hn:cf P pu ops (k+j) (sp n l H) Q)(h:(fX P [] ops j k (sp n l0 H)).bind (bu n (l.map (·.1)))=some (l,H):=by kernel_rfl):cf P pu ops k (sp n l0 H) Q:=
 bm n H [] _ j l h hn
def S8{Q:St->Prop}(j:Nat)(l:List (Nat×SV))(hn:jj P ops (k+j) (sp n l H) Q)(h:(dJ P [] ops j k (sp n l0 H)).bind (bu n (l.map (·.1)))=some (l,H):=by kernel_rfl):jj P ops k (sp n l0 H) Q:=
 FB n H [] _ j l h hn
def af{Q:St->Prop}(hq:Q st)(h:decide (ops.size<=k)=true:=by kernel_rfl):cf P pu ops k st Q:=yq h hq
def MR.D{Q:Exit->St->Prop}(hq:Q .normal st)(h:decide (ops.size<=k)=true:=by kernel_rfl):MR P ops k st Q:=MR.done h hq
def bB{Q:St->Prop}(l:List (Nat×SV))(hb:pP P ops k (sp n l0 H) d s)(hn:cf P pu ops (k+1) (sp n l H) Q)(cR:bu n (l.map (·.1)) ((sp n l0 H).put d s)=some (l,H):=by kernel_rfl):cf P pu ops k (sp n l0 H) Q:=
 iw n H _ l hb cR hn
def JS{Q:Exit->St->Prop}(m:Nat)(h:cf P false (ops.toList.take m).toArray k st (λs=>MR P ops m s Q))(hg:EO ops k m=true:=by kernel_rfl):MR P ops k st Q:=Pt m hg h
def tt{Q:St->Prop}(tr:List Nat)(l:List (Nat×SV))(hp:PC P f args r)(hn:cf P pu ops (k+1) (sp n l H) Q)(h:eg P ops k (sp n l0 H) tr=some (d,f,args,ls,gs):=by kernel_rfl)(hr:(pg r&&(ls.isEmpty||mP r))=true:=by kernel_rfl)
  (cR:bu n (l.map (·.1)) (((sp n l0 H).lI gs).put d r)=some (l,H):=by kernel_rfl):cf P pu ops k (sp n l0 H) Q:=iz n H tr _ l hp h hr cR hn
def ub{Q:St->Prop}(d:Option Tmp)(l:List (Nat×SV))(hp:PC P f args r)(hn:cf P pu ops (k+1) (sp n l H) Q)(h:eg P ops k (sp n l0 H) []=some (d,f,args,[],[]):=by kernel_rfl)(hr:pg r=true:=by kernel_rfl)
  (cR:bu n (l.map (·.1)) ((sp n l0 H).put d r)=some (l,H):=by kernel_rfl):cf P pu ops k (sp n l0 H) Q:=iz n H [] _ l hp h (by rw[hr];rfl) cR hn
def B1{Q:Exit->St->Prop}(l:List (Nat×SV))(h:SW P pu c (sp n l H) Q)(cR:bu n (l.map (·.1)) (sp n l0 H)=some (l,H):=by kernel_rfl):SW P pu c (sp n l0 H) Q:=BZ n H _ l cR h
def B2{Q:Exit->St->Prop}(b:Bool)(hT:b=true->SW P pu x st Q)(hF:b=false->SW P pu y st Q)(hc:cx st c=some (.bool b):=by kernel_rfl):SW P pu (.cond c x y) st Q:=DR hc hT hF
def aA{Q:Exit->St->Prop}{st:St}{id:Nat}{y:Code}(h:cf P pu ops 0 st (thenS (λs=>SW P pu y s Q) Q .normal)):SW P pu (.seq (.region id ops false) y) st Q:=an (ah h)
def ak{N:St->Prop}{Q:Exit->St->Prop}(hq:N st)(h:decide (ops.size<=k)=true:=by kernel_rfl):cf P pu ops k st (thenS N Q .normal):=yq h hq
def j6{Q:St->Prop}(d:Option Tmp)(l:List (Nat×SV))(hp:SC P false f args H r H')(hn:cf P false ops (k+1) (sp n l H') Q)(h:eg P ops k (sp n l0 H) []=some (d,f,args,[],[]):=by kernel_rfl)
  (hr:(pg r&&(sp n l0 H).tmps.all er)=true:=by kernel_rfl) (cR:bu n (l.map (·.1)) ⟨((sp n l0 H).put d r).tmps,H'⟩=some (l,H'):=by kernel_rfl):cf P false ops k (sp n l0 H) Q:=w8 n _ l hp h hr cR hn
end
def Ji:Loc->Bool
 |.au _ _=>true
 |_=>false
def lU(ls:List Loc)(H:Hp):Hp:=bif ls.any Ji then H.mapIdx (lT ls)else H
def Gy(h:ls.any Ji=false)(i j:Nat)(s:SV):sA ls i j s=s:=by
 cases s<;>try rfl
 all_goals
  simp only[sA]
  split
  .rename_i hc
   have:ls.any Ji=true:=List.any_eq_true.2 ⟨.au i j,by simpa using hc,rfl⟩
   rw[h]at this
   cases this
  .rfl
def Jd(h:ls.any Ji=false)(i:Nat)(o:aN):lT ls i o=o:=by
 cases o with
 |cells cs=>
  simp only[lT]
  congr 1
  apply m_6
  intro j
  simp only[v_4]
  cases cs[j]? with
  |none=>rfl
  |some s=>simp[Gy h]
 |SA T e bs=>
  simp only[lT]
  split
  .rename_i hc
   have:ls.any Ji=true:=List.any_eq_true.2 ⟨.au i 1,by simpa using hc,rfl⟩
   rw[h]at this
   cases this
  .rfl
 |_=>rfl
def xN(ls:List Loc)(H:Hp):H.mapIdx (lT ls)=lU ls H:=by
 unfold lU
 cases h:ls.any Ji with
 |true=>rfl
 |false=>
  rw[cond_false]
  apply m_6
  intro j
  simp only[v_4]
  cases H[j]? with
  |none=>rfl
  |some o=>simp[Jd h]
section
variable {P:Program} {pu:Bool} {ops:Array Oper} {k n:Nat} {l0:List (Nat×SV)} {H:List aN}
def gd{Q:St->Prop}(d:Option Tmp)(l:List (Nat×SV))(hp:SC P true f args (lU ls H) r H')(hn:cf P pu ops (k+1) (sp n l H) Q)
  (h:eg P ops k (sp n l0 H) []=some (d,f,args,ls,[]):=by kernel_rfl) (hr:(pg r&&(ls.isEmpty||mP r))=true:=by kernel_rfl)
  (cR:bu n (l.map (·.1)) ((sp n l0 H).put d r)=some (l,H):=by kernel_rfl):cf P pu ops k (sp n l0 H) Q:=by
 unfold eg at h
 split at h
 .rename_i o ho
  split at h
  .rename_i c hop
   split at h
   .rename_i cs hcs
    simp only[g_2,g_8]at h
    obtain⟨rfl,rfl,rfl,rfl,e2⟩:=h
    obtain⟨h1,h2⟩:=bo ho
    rw[g_3]at hr
    obtain⟨f0,a0,l1,g0⟩:=cs
    cases e2
    unfold cf
    rw[drop_cons h1]
    refine yt [] h2 hop hcs (by rw[xN];exact hp) hr.1 φ ?_
    exact da _ (aL cR) hn
   .cases h
  .cases h
 .cases h
def bH{Q:St->Prop}(p:Option Nat)(S:Option Nat->St)(h0:st=S p)(hp:p=some i)(h:cf P pu ops k (S (some i)) Q):cf P pu ops k st Q:=by
 subst h0
 rw[hp]
 exact h
def bL{α:Type}(n:Nat)(c:Cd α)(H:Hp)(i off:Nat):Option (List α):=
 (lW H i).bind λcs=>match cs[off]? with
  |some (.own n' ds)=>if n'=n then ds.mapM c.dec else none
  |some (.d (.list n' ds))=>if n'=n then ds.mapM c.dec else none
  |_=>none
def Of{α:Type}{n:Nat}{c:Cd α}{H:Hp}{xs:List α}(h:bL n c H i off=some xs):
  ∃cs,H[i]? =some (.cells cs)/\(cs[off]? =some (.own n (xs.map c.enc))\/cs[off]? =some (.d (.list n (xs.map c.enc)))):=by
 unfold bL at h
 simp only[g_9]at h
 obtain⟨cs,h1,h2⟩:=h
 split at h2
 .rename_i n' ds hc
  split at h2
  .rename_i e
   subst e
   exact⟨cs,lz h1,.inl (by rw[hc,q8 c _ _ h2])⟩
  .cases h2
 .rename_i n' ds hc
  split at h2
  .rename_i e
   subst e
   exact⟨cs,lz h1,.inr (by rw[hc,q8 c _ _ h2])⟩
  .cases h2
 .cases h2
def iP.up{n:Nat}(lc:Loc)(h:iP P st o (.d (.list n xs))):iP P st o (.cq lc n xs):=by
 intro a w g hr
 obtain⟨v,h1,h2⟩:=h a w g hr
 refine⟨v,?_,h2⟩
 exact(Rd.toList (show Rd g w v (.list n xs)from h1)).up
def Bi(P:Program)(ops:Array Oper)(k:Nat)(st:St):Option (Option Tmp×Nat×Nat×Hp):=
 match fR ops k st with
 |some o=>match o.op with
  |.load T x=>match rI st x,Dh st x,sk st x with
   |none,none,some (i,off)=>if(!(P.underlying T).isNone&&!fI P T&&o.dst.isSome)=true then some (o.dst,i,off,st.H)else none
   |_,_,_=>none
  |_=>none
 |none=>none
def aY{α:Type}{c:Cd α}{xs:List α}(hx:bL n' c H0 i off=some xs)(h:Bi P ops k st=some (d,i,off,H0):=by kernel_rfl):pP P ops k st d (.cq (.au i off) n' (xs.map c.enc)):=by
 obtain⟨cs,e1,e2⟩:=Of hx
 unfold Bi at h
 split at h
 .rename_i o ho
  split at h
  .rename_i T xo hop
   split at h
   .rename_i i' off' h1 h2 h3
    split at h
    .rename_i hc
     simp only[g_3,k_4]at hc
     simp only[g_2,g_8]at h
     obtain⟨rfl,rfl,rfl,rfl⟩:=h
     obtain⟨g1,g2⟩:=bo ho
     have hu: ¬(P.underlying T).isNone=true:=by grind
     have ha: ¬fI P T=true:=by grind
     have hd: ∀s,cs[off']? =some s-> ∃r,cs.drop off'=s::r:=λs hs=>by
      have hlt:=aU hs
      rw[p_9 hlt]
      simp_all
     rcases e2 with e2|e2
     .obtain⟨r,hr⟩:=hd _ e2
      refine⟨o,g1,g2,cA ?_,rfl,rfl⟩
      simp only[CD,hop,sy,h1,h2,h3,e1,hr]
      unfold qo
      rw[if_neg hu,if_neg ha]
     .obtain⟨r,hr⟩:=hd _ e2
      refine⟨o,g1,g2,iP.up _ (cA ?_),rfl,rfl⟩
      simp only[CD,hop,sy,h1,h2,h3,e1,hr]
      unfold qo
      rw[if_neg hu,if_neg ha]
    .cases h
   .cases h
  .cases h
 .cases h
def Ho(p:Option Nat):(cP.enc p).cells=[cP.enc p]:=by cases p<;>rfl
def cz{n:Nat}(hy:idx xs j=some y)(h:GP P ops k st=some (d,l,n,xs.map cP.enc,j):=by kernel_rfl):pP P ops k st d (bb l [cP.enc y]):=by
 rw[<-Ho]
 exact aD hy h
def fT{H:List aN}(hf:P.funcs[f]? =some fn)(hb:fn.body=some c)
  (h:SW P true c (k8 fn.ntmps args H) (dw P fn.results.toList H r)):SC P true f args H r H:=by
 refine yk hf hb ?_
 intro a w g hr
 refine Code.wp_mono (λe a' w' hh=>?_) (h a w g hr)
 obtain⟨st',g',⟨he,l,h1,h2⟩,r1,f⟩:=hh
 exact⟨st'.kX l,g',⟨he,wL h1,by rw[rm];exact h2⟩,r1.kX,f⟩
end
section
variable {P:Program} {st:St}
def Rel.QG(hr:Rel st a w g)(hi:st.H[i]? =some (.cells cs))(hc:cs[off]? =some (.own n xs))(hn:st.tmps.all er=true):
  ∃g',Rel ⟨st.tmps,st.H.set i (.cells (cs.set off (.d (.list n xs))))⟩ a w g'/\Fr false g w g' w:=by
 let rn:Own->Own:=λo=>if o=.bN (.au i off)then .free else o
 have rnO: ∀{o},o≠.bN (.au i off)->rn o=o:=λh=>by simp[rn,h]
 have hk: ∀o',o'≠.bN (.au i off)->aO o' g w (g.br rn) w:=λo' h=>aO.br (rnO h)
 refine⟨g.br rn,?_,⟨h_0 _,hk _ ψ,hk _ ψ,λ_ _ h=>h,nofun,nofun,nofun,⟨rfl,rfl⟩⟩⟩
 obtain⟨k,c,T0,f1,f2,f3,f4,f5⟩:=hr.hp.2 i _ hi
 obtain⟨u,u1,u2,u3⟩:=f5 off _ hc
 refine bc hr hr.len hr.dS (λ_ _ h=>h) (λt s hs=>?_) ⟨by simp[Gh.br,hr.hp.1],λi' o' hi'=>?_⟩
 .have hnh:er s=true:=h_4.1 hn s (h_2.2 ⟨t,hs⟩)
  refine .inr (.inr ⟨hs,rfl,λo' ho'=>hk o' (λe2=>?_),λs0 e0=>⟨rfl,λx hx hb=>⟨x,hx,rfl⟩⟩⟩)
  subst e2;exact oI hnh ho'
 .simp only at hi'
  by_cases e:i=i'
  .subst e
   rw[g_0 (aU hi)]at hi'
   cases hi'
   refine⟨k,c,T0,f1,by simp[Gh.br,f2,rn],f3,by simp[f4],λj s hj=>?_⟩
   by_cases ej:off=j
   .subst ej
    rw[g_0 (aU hc)]at hj
    cases hj
    refine⟨u,u1,?_,u3⟩
    have ho:cy g w (.au i off) u n xs:=u2
    refine eZ.free (l:=.au i off) (rnO ψ) (by simp[rn]) ?_
    rcases ho with⟨rfl,a,e⟩|⟨k,off,cap,c,T,us,hv,hk,hb,hl,hz,hn,hc,hr⟩
    .exact .inl ⟨rfl,a,_,e⟩
    .exact .inr ⟨k,off,cap,c,T,_,us,hv,by simp[hk,IZ],hb,hl,hn,hc,hr⟩
   .rw[g_1 ej]at hj
    obtain⟨v,v1,v2,v3⟩:=f5 j s hj
    exact⟨v,v1,v2.bg (hk _ ψ) (hk _ χ) (λ_ _ h=>h),v3⟩
  .rw[g_1 e]at hi'
   exact(hr.hp.2 i' o' hi').nO (hk _ ψ) (hk _ ψ) (λj=>hk _ χ) (λ_ _ h=>h)
def FH{α:Type}(n:Nat)(c:Cd α)(H:Hp)(i off:Nat):Option (List α×Hp):=
 (lW H i).bind λcs=>match cs[off]? with
  |some (.own n' ds)=>if n'=n then(ds.mapM c.dec).map λxs=>(xs,H.set i (.cells (cs.set off (.d (.list n ds)))))else none
  |some (.d (.list n' ds))=>if n'=n then(ds.mapM c.dec).map λxs=>(xs,H)else none
  |_=>none
def Og{α:Type}{c:Cd α}{xs:List α}(h:FH n c H i off=some (xs,H')):
  ∃cs,H[i]? =some (.cells cs)/\((cs[off]? =some (.own n (xs.map c.enc))/\H'=H.set i (.cells (cs.set off (.d (.list n (xs.map c.enc))))))\/(cs[off]? =some (.d (.list n (xs.map c.enc)))/\H'=H)):=by
 unfold FH at h
 simp only[g_9]at h
 obtain⟨cs,h1,h2⟩:=h
 split at h2
 .rename_i n' ds hc
  split at h2
  .rename_i e
   subst e
   simp only[g_4,g_8]at h2
   obtain⟨ys,h3,rfl,rfl⟩:=h2
   have:=q8 c _ _ h3
   exact⟨cs,lz h1,.inl ⟨by rw[hc,this],by rw[this]⟩⟩
  .cases h2
 .rename_i n' ds hc
  split at h2
  .rename_i e
   subst e
   simp only[g_4,g_8]at h2
   obtain⟨ys,h3,rfl,rfl⟩:=h2
   have:=q8 c _ _ h3
   exact⟨cs,lz h1,.inr ⟨by rw[hc,this],rfl⟩⟩
  .cases h2
 .cases h2
def qC{Q:St->Prop}{α:Type}{c:Cd α}{xs:List α}(hx:FH n' c H i off=some (xs,H'))(hl:((sp n l H).tmps.all er)=true)(h:cf P false ops k (sp n l H') Q):
  cf P false ops k (sp n l H) Q:=by
 obtain⟨cs,e1,⟨e2,rfl⟩|⟨e2,rfl⟩⟩:=Og hx
 .intro a w g hr Qc hq
  obtain⟨g',r,f⟩:=hr.QG (st:=sp n l H) e1 e2 hl
  exact h a w g' r Qc λiY a2 w2 g2 q2 r2 f2=>hq iY a2 w2 g2 q2 r2 (f.trans f2)
 .exact h
def QE{α:Type}{c:Cd α}{xs:List α}(h:FH n c H i off=some (xs,H')): ∃cs,H'[i]? =some (.cells cs)/\cs[off]? =some (.d (.list n (xs.map c.enc))):=by
 obtain⟨cs,e1,⟨e2,rfl⟩|⟨e2,rfl⟩⟩:=Og h
 .grind
 .exact⟨cs,e1,e2⟩
def qG{α:Type}{c:Cd α}{xs:List α}(hx:FH n' c H0 i off=some (xs,H1))(h:Bi P ops k st=some (d,i,off,H1):=by kernel_rfl):pP P ops k st d (.d (.list n' (xs.map c.enc))):=by
 obtain⟨cs,e1,e2⟩:=QE hx
 unfold Bi at h
 split at h
 .rename_i o ho
  split at h
  .rename_i T xo hop
   split at h
   .rename_i i' off' h1 h2 h3
    split at h
    .rename_i hc
     simp only[g_3,k_4]at hc
     simp only[g_2,g_8]at h
     obtain⟨rfl,rfl,rfl,rfl⟩:=h
     obtain⟨g1,g2⟩:=bo ho
     have hu: ¬(P.underlying T).isNone=true:=by grind
     have ha: ¬fI P T=true:=by grind
     have hlt:=aU e2
     refine⟨o,g1,g2,cA ?_,rfl,rfl⟩
     have hd:cs.drop off'=.d (.list n' (xs.map c.enc))::cs.drop (off'+1):=by
      rw[p_9 hlt]
      grind
     simp only[CD,hop,sy,h1,h2,h3,e1,hd]
     unfold qo
     rw[if_neg hu,if_neg ha]
    .cases h
   .cases h
  .cases h
 .cases h
end
structure rA(l:Nat)(g:Gh)(w:World)(g':Gh)(w':World):Prop where
 size:w.heap.size<=w'.heap.size
 free:aO .free g w g' w'
 out: ∀(k:Nat) (b:Obj),k≠l->g.ow k=.out->w.heap[k]? =some b->g'.ow k=.out/\w'.heap[k]? =some b
 qH:eB g g'
 os:fK w w'
def rA.of{l:Nat}{g g':Gh}{w w':World}(h:Fr pu g w g' w'):rA l g w g' w':=⟨h.size,h.free,λk b _ h1 h2=>h.out k b h1 h2,h.qH,h.os⟩
def rA.refl(l:Nat)(g:Gh)(w:World):rA l g w g w:=rA.of (Fr.refl false g w)
def rA.trans{l:Nat}(h:rA l g1 w1 g2 w2)(h':rA l g2 w2 g3 w3):rA l g1 w1 g3 w3:=
 ⟨v_2 h.size h'.size,h.free.trans h'.free,λk b hk h1 h2=>let⟨x,y⟩:=h.out k b hk h1 h2;h'.out k b hk x y,λi k a=>h'.qH i k (h.qH i k a),h.os.trans h'.os⟩
def PJ(l i:Nat)(d:D)(g:Gh)(w:World):Prop:=
 ∃(k:Nat) (c:Array Value) (T:TypeId) (fz:Nat×Nat) (v:Value),g.ρ[i]? =some k/\k≠l/\g.ow k=.out/\w.heap[k]? =some (.cells c T fz)/\c[0]? =some v/\v.oneCell'=true/\Rd g w v d
def PJ.fr{l:Nat}{g g':Gh}{w w':World}(h:PJ l i d g w)(f:rA l g w g' w'):PJ l i d g' w':=by
 obtain⟨k,c,T,fz,v,h1,h2,h3,h4,h5,h6,h7⟩:=h
 obtain⟨x,y⟩:=f.out k _ h2 h3 h4
 exact⟨k,c,T,fz,v,f.qH i k h1,h2,x,y,h5,h6,h7.bg f.free f.qH⟩
def qc(R:Loop)(jc:Code)(b:Bool):Loop:=if b then R else{R with state:=.done,pending:=some jc}
def CL(l:Nat)(R:Loop)(jc:Code)(ds:List (Nat×D))(Dn:List (Nat×D))(b:Bool)(g:Gh)(w:World):Prop:=
 w.heap[l]? =some (.loop (qc R jc b))/\g.ow l=.out/\(∀t d,(t,d)∈ds->Rd g w (R.tmps.getD t undef) d)/\ ∀i d,(i,d)∈Dn->PJ l i d g w
section
variable {l:Nat} {R:Loop} {jc:Code} {ds Dn:List (Nat×D)} {b b':Bool} {g g':Gh} {w w':World}
def CL.EA(h:CL l R jc ds Dn b g w)(f:rA l g w g' w')(h1:w'.heap[l]? =some (.loop (qc R jc b')))(h2:g'.ow l=.out):CL l R jc ds Dn b' g' w':=
 ⟨h1,h2,λt d hd=>(h.2.2.1 t d hd).bg f.free f.qH,λi d hd=>(h.2.2.2 i d hd).fr f⟩
def CL.fr:M4 (CL l R jc ds Dn b):=λg w g' w' h f=>
 h.EA (rA.of f) (f.out l _ h.2.1 h.1).2 (f.out l _ h.2.1 h.1).1
def CL.br(h:CL l R jc ds Dn b g w):CL l R jc ds Dn b (g.br (aC [] [])) w:=by
 have kp: ∀{v:Value} {d:D},Rd g w v d->Rd (g.br (aC [] [])) w v d:=λhr=>hr.bg (aO.br rfl) (λ_ _ h=>h)
 refine⟨h.1,by simp[Gh.br,h.2.1,aC],λt d hd=>kp (h.2.2.1 t d hd),λi d hd=>?_⟩
 obtain⟨k,c,T,fz,v,h1,h2,h3,h4,h5,h6,h7⟩:=h.2.2.2 i d hd
 exact⟨k,c,T,fz,v,h1,h2,by simp[Gh.br,h3,aC],h4,h5,h6,kp h7⟩
def CL.less(h:CL l R jc ds Dn b g w)(hs: ∀p∈Dn',p∈Dn):CL l R jc ds Dn' b g w:=
 ⟨h.1,h.2.1,h.2.2.1,λi d hd=>h.2.2.2 i d (hs _ hd)⟩
def CL.more{Dn':List (Nat×D)}(h:CL l R jc ds [] b' g' w')(h0:CL l R jc ds Dn b g w)(f:rA l g w g' w'):CL l R jc ds Dn b' g' w':=
 h0.EA f h.1 h.2.1
def Pp(l:Nat)(CC:Bool->Gh->World->Prop)(H':List aN)(b:Bool)(g:Gh)(w w':World):Prop:=
 ∃g',RH g' w' H'/\CC b g' w'/\rA l g w g' w'/\ ∀o,iZ o=false->o≠.out->aO o g w g' w'
def PU(P:Program)(l:Nat)(CC:Bool->Gh->World->Prop)(f:FuncId)(args:List SV)(H H':List aN)(b:Bool)(rv:Value->Prop):Prop:=
 ∀(w:World) (g:Gh) (vs:Array Value),CC true g w->jM g w vs args->RH g w H->Calls P f vs w λe w'=> ∃v g',e=.returned v/\rv v/\RH g' w' H'/\CC b g' w'/\rA l g w g' w'
def RJ(P:Program)(l:Nat)(CC:Bool->Gh->World->Prop)(args:List SV)(H H':List aN)(b:Bool):Prop:=
 ∀(w:World) (g:Gh) (vs:Array Value),CC true g w->jM g w vs args->RH g w H-> ∃fn tmps assign body,(Instr.yield l vs).run P w=.ok (.round l fn tmps assign body) w/\
  ∀n,RoundIn Fence.wide n P l fn tmps assign body w λe w'=>e=.returned (.bool b)/\Pp l CC H' b g w w'
def MB(h:RJ P l (CL l R jc ds []) args H H' b):RJ P l (CL l R jc ds Dn) args H H' b:=λw g vs hC hA hH=>by
 obtain⟨fn,tmps,assign,body,h1,h2⟩:=h w g vs (hC.less ψ) hA hH
 refine⟨fn,tmps,assign,body,h1,λn=>(h2 n).mono λe w' hh=>?_⟩
 obtain⟨he,g',k1,k2,k3,k4⟩:=hh
 exact⟨he,g',k1,k2.more (Dn':=Dn) hC k3,k3,k4⟩
def vv(hf:rA l (g.br (aC [] [])) w g3 w3)(hH:RH g3 w3 H')(hl:g.ow l=.out)(hb0:w.heap[l]? =some b0)(hl3:g3.ow l=.out):
  ∃G:Gh,G.ow l=.out/\rA l g w G w3/\RH G w3 H'/\ ∀o,iZ o=false->o≠.out->aO o g w G w3:=by
 have hlt:l<w.heap.size:=(m_0.1 hb0).1
 have hlt3:l<w3.heap.size:=Nat.lt_of_lt_of_le hlt hf.size
 have hoth: ∀{k:Nat},k≠l->(w3.putObj l b0).heap[k]? =w3.heap[k]? :=λhk=>bZ hk
 have hsame:(w3.putObj l b0).heap[l]? =some b0:=World.putObj_heap_same hlt3
 have hf2:Fr false (g.br (aC [] [])) w g3 (w3.putObj l b0):=by
  refine⟨?_,λk b h1 h2=>?_,λk b h1 h2=>?_,hf.qH,nofun,nofun,nofun,hf.os⟩
  .have:=hf.size
   simpa[World.putObj]using this
  .obtain⟨x,y⟩:=hf.free k b h1 h2
   grind
  .by_cases hk:k=l
   .grind
   .obtain⟨x,y⟩:=hf.out k b hk h1 h2
    grind
 have hH2:RH g3 (w3.putObj l b0) H':=hH.bg (λo ho k b h1 h2=>⟨h1,by
  rw[hoth (λe=>by subst e;rw[hl3]at h1;subst h1;exact ho)];exact h2⟩) (λ_ _ h=>h) rfl
 obtain⟨p1,p2⟩:=mS 0 hf2 hH2
 have hG:=(p1.out l _ hl hb0).1
 refine⟨_,hG,⟨hf.size,λk b h1 h2=>?_,λk b hk h1 h2=>?_,p1.qH,hf.os⟩,?_,λo ho hne k b h1 h2=>?_⟩
 .obtain⟨x,y⟩:=p1.free k b h1 h2
  grind
 .obtain⟨x,y⟩:=p1.out k b h1 h2
  grind
 .exact p2.bg (λo ho k b h1 h2=>⟨h1,by
   rw[<-hoth (λe=>by subst e;rw[hG]at h1;subst h1;exact ho)];exact h2⟩) (λ_ _ h=>h) rfl
 .obtain⟨x,y⟩:=Bo (t:=0) hf2 ho k b h1 h2
  grind
def PU.call{rv:Value->Prop}(h:PU P l (CL l R jc ds Dn) f args H H' b rv)(hC:CL l R jc ds Dn true g w)
  (hA:jM (g.br (aC [] [])) w vs args) (hH:RH (g.br (aC [] [])) w H):Calls P f vs w λe w'=> ∃v,e=.returned v/\rv v/\Pp l (CL l R jc ds Dn) H' b g w w':=by
 refine(h w _ vs hC.br hA hH).mono λe w' hh=>?_
 obtain⟨v,g3,rfl,hv,hH3,hC3,hf⟩:=hh
 obtain⟨G,k1,k2,k3,k4⟩:=vv hf hH3 hC.2.1 hC.1 hC3.2.1
 exact⟨v,rfl,hv,G,k3,hC.EA k2 hC3.1 k1,k2,k4⟩
def tc(hr:Rel st a w g)(hn:st.tmps.all er=true)(hH:RH g' w' H')(hf:rA l g w g' w')
  (hkp: ∀o,iZ o=false->o≠.out->aO o g w g' w') (hv:r=.iQ []/\v=.tuple #[]\/ ∃c,r=.d (.bool c)/\v=.bool c):Rel ⟨(st.put d r).tmps,H'⟩ (a.put d v) w' g':=by
 refine bc hr (by rw[eb];simp only[cU];exact hr.len) (by rw[put_defers];exact hr.dS) hf.qH (λt s hs=>?_) hH
 by_cases hdt:d=some t
 .simp only at hs
  rw[hdt]at hs ⊢
  obtain⟨rfl,hlt⟩:=bY hs
  refine .inr (.inl ?_)
  rw[bW (by rw[hr.len];exact hlt)]
  rcases hv with⟨rfl,rfl⟩|⟨c,rfl,rfl⟩
  .exact⟨#[],rfl,rfl,λj s hj=>by simp at hj⟩
  .exact .bool
 .simp only at hs
  have hput:s=.undef\/(st.tmps[t]? =some s/\ ∀t0 old,d=some t0->st.tmps[t0]? =some old->uB old=true->dM t0 s=false):=by
   cases hdst:d with
   |none=>rw[hdst]at hs;exact .inr ⟨hs,ψ⟩
   |some t0=>
    rw[hdst]at hs hdt
    rcases eu (λe=>hdt (by rw[e])) hs with h|⟨h1,h2⟩
    .exact .inl h
    grind
  rcases hput with rfl|⟨hs3,hs2⟩
  .exact .inl rfl
  .have hnh:er s=true:=h_4.1 hn s (h_2.2 ⟨t,hs3⟩)
   refine .inr (.inr ⟨hs3,cr hdt,λo' ho'=>?_,λs0 e=>?_⟩)
   .have hne:o'≠.out:=λe=>by subst e;exact FK ho'
    refine hkp o' ?_ hne
    cases o' with
    |obj i=>exact absurd ho' nh
    |bN l=>
     cases l with
     |au i j=>exact absurd ho' (oI hnh)
     |_=>rfl
    |_=>rfl
   .obtain⟨x0,hx0,hb0⟩:=kM (hr.tmp t _ hs3) e
    have hd0:d≠some s0:=λe2=>by
     have:=hs2 s0 _ e2 hx0 (gI hb0)
     rw[cH e]at this
     cases this
    exact⟨cr hd0,λx hx hb=>⟨x,eY hx hb hd0,rfl⟩⟩
end
section
variable {P:Program} {l:Nat} {C:Bool->Gh->World->Prop} {b:Bool} {st:St} {Q:Bool->Exit->St->Prop}
def Fo(P:Program)(l:Nat)(C:Bool->Gh->World->Prop)(b:Bool)(c:Code)(st:St)(Q:Bool->Exit->St->Prop):Prop:=
 ∀a w g,Rel st a w g->C b g w->c.wp P (λe a' w'=> ∃b' st' g',Q b' e st'/\Rel st' a' w' g'/\C b' g' w'/\rA l g w g' w') a w
def J7(N:Bool->St->Prop)(Q:Bool->Exit->St->Prop):Bool->Exit->St->Prop:=λb e s=>match e with
 |.normal=>N b s
 |e=>Q b e s
def E6(id:Nat)(Q:Bool->Exit->St->Prop):Bool->Exit->St->Prop:=λb e s=>match e with
 |.exit id'=>if id'=id then Q b .normal s else Q b (.exit id') s
 |e=>Q b e s
def iu(hC: ∀b,M4 (C b))(h:SW P false c st (Q b)):Fo P l C b c st Q:=λa w g hr hc=>
 Code.wp_mono (λe a' w' ⟨st',g',q,r,f⟩=>⟨b,st',g',q,r,hC b _ _ _ _ hc f,rA.of f⟩) (h a w g hr)
def gX(h:Fo P l C b x st (J7 (λb' s=>Fo P l C b' y s Q) Q)):Fo P l C b (.seq x y) st Q:=by
 intro a w g hr hc
 refine wp_seq (Code.wp_mono (λe a' w' hh=>?_) (h a w g hr hc))
 obtain⟨b',st',g',q,r,c',f⟩:=hh
 cases e with
 |normal=>
  refine Code.wp_mono (λe2 a2 w2 hh2=>?_) (q a' w' g' r c')
  obtain⟨b2,iY,g2,q2,r2,c2,f2⟩:=hh2
  exact⟨b2,iY,g2,q2,r2,c2,f.trans f2⟩
 |_=>exact⟨b',st',g',q,r,c',f⟩
def wX(n:Nat)(H:List aN)(L:List Nat)(ll:List (Nat×SV))(cR:bu n L st=some (ll,H))(h:Fo P l C b c (sp n ll H) Q):Fo P l C b c st Q:=
 λa w g hr hc=>h a w g (hr.bC (aL cR)) hc
def B7{id:Nat}{c:Code}(h:Fo P l C b c st (E6 id Q)):Fo P l C b (.block id c) st Q:=by
 intro a w g hr hc
 refine wp_block (Code.wp_mono (λe a' w' hh=>?_) (h a w g hr hc))
 obtain⟨b',st',g',q,r,c',f⟩:=hh
 cases e with
 |exit id'=>
  simp only[E6]at q
  simp only[Exit.inBlock]
  grind
 |_=>exact⟨b',st',g',q,r,c',f⟩
def yj(hc:cx st c=some (.bool v))(h:Fo P l C b (cond v x y) st Q):Fo P l C b (.cond c x y) st Q:=by
 cases v
 .exactλa w g hr hC=>wp_cond (cg hr hc rfl) (by simpa using h a w g hr hC)
 .exactλa w g hr hC=>wp_cond (cg hr hc rfl) (by simpa using h a w g hr hC)
def Pj{γ β:Type}(n:Nat)(L:List Nat){body:γ->Option (γ⊕β)}(sl:γ->List (Nat×SV))(Hf:γ->Hp)(E:β->Bool->Exit->St->Prop){x:γ}{q:β}(hit:Sh.iter body fuel x=some q)(h0:bu n L st=some (sl x,Hf x))
  (round: ∀x o,body x=some o->Fo P l C true c (sp n (sl x) (Hf x)) (J7 (λb' s'=>b'=true/\ ∃y,o=.inl y/\bu n L s'=some (sl y,Hf y)) (λb' e s'=> ∃q,o=.inr q/\E q b' e s')))
  (after: ∀b' e s',E q b' e s'->Q b' e s'):Fo P l C true (.loop c) st Q:=by
 refine wX n _ L _ h0 ?_
 intro a w g hr hc
 refine qJ (γ:=γ) body (λx a' w'=> ∃g',Rel (sp n (sl x) (Hf x)) a' w' g'/\C true g' w'/\rA l g w g' w') q (λx a1 w1 ⟨g1,r1,c1,f1⟩ o ho=>?_) fuel x a w ⟨g,hr,hc,rA.refl _ _ _⟩ hit
 refine Code.wp_mono (λe a' w' hh=>?_) (round x o ho a1 w1 g1 r1 c1)
 obtain⟨b',st',g',qq,r,c',f⟩:=hh
 cases e with
 |normal=>obtain⟨rfl,y,rfl,h1⟩:=qq;exact⟨y,rfl,g',r.bC (aL h1),c',f1.trans f⟩
 |_=>obtain⟨q',rfl,h1⟩:=qq;exact⟨q',rfl,λe=>⟨b',st',g',after _ _ _ (e▸h1),r,c',f1.trans f⟩⟩
variable {ops:Array Oper} {d m i:Nat} {K:Bool->St->Prop}
def OL(P:Program)(l:Nat)(C:Bool->Gh->World->Prop)(ops:Array Oper)(d m:Nat)(b:Bool)(st:St)(K:Bool->St->Prop):Prop:=
 ∀a w g,Rel st a w g->C b g w-> ∀R:Act->World->Prop,(∀b' st' a' w' g',K b' st'->Rel st' a' w' g'->C b' g' w'->rA l g w g' w'->R a' w')->
  wpAnyIn Fence.wide 0 P .any ops (NX R) d (gU ops.size m) a w
def qx(P:Program)(l:Nat)(C:Bool->Gh->World->Prop)(ops:Array Oper)(i:Nat)(b:Bool)(st:St)(K:Bool->St->Prop):Prop:=
 ∀a w g,Rel st a w g->C b g w-> ∀(N R:Act->World->Prop),(∀b' st' a' w' g',K b' st'->Rel st' a' w' g'->C b' g' w'->rA l g w g' w'->N a' w')->wpOpIn Fence.wide 0 P ops (NX R) i N a w
def kN(h:Region.ready .any ops (gU ops.size m)=[])(hk:K b st):OL P l C ops 0 m b st K:=λa w g hr hc R hR=>
 ⟨h,rfl,hR b st a w g hk hr hc (rA.refl _ _ _)⟩
def Ci(n:Nat)(H:List aN)(L:List Nat)(ll:List (Nat×SV))(cR:bu n L st=some (ll,H))(h:OL P l C ops d m b (sp n ll H) K):OL P l C ops d m b st K:=
 λa w g hr hc=>h a w g (hr.bC (aL cR)) hc
def bx(h:Region.ready .any ops (gU ops.size m)=i0::is)
  (hs:J3 (i0::is) (λi=>qx P l C ops i b st (λb' s=>OL P l C ops d (m|||2 ^ i) b' s K))):OL P l C ops (d+1) m b st K:=by
 intro a w g hr hc R hR
 refine wpAnyIn_all h (List.cons_ne_nil _ _) λi hi=>?_
 refine xd hs i hi a w g hr hc _ R λb1 jh a1 w1 g1 q1 r1 c1 f1=>?_
 rw[qm]
 exact q1 a1 w1 g1 r1 c1 R λb2 iY a2 w2 g2 q2 r2 c2 f2=>hR b2 iY a2 w2 g2 q2 r2 c2 (f1.trans f2)
def ug(ops:Array Oper)(i:Nat):Array Oper:=match ops[i]? with
 |some o=> #[{o with guard:=none}]
 |none=> #[]
def qx.of(hC: ∀b,M4 (C b))(ho:fR ops i st=some o)(hd:fY (ug ops i).toList=true)(h:cf P false (ug ops i) 0 st (K b)):qx P l C ops i b st K:=by
 obtain⟨h1,h2⟩:=bo ho
 intro a w g hr hc N R hN
 have key:=Ek (n:=0) (Qc:=NX N) hd h hr λst' a' w' g' q r f=>⟨rfl,hN b st' a' w' g' q r (hC b _ _ _ _ hc f) (rA.of f)⟩
 rw[q_1]at key
 unfold wpOpIn
 rw[h1]
 simp only[bt hr h2,if_true]
 simp only[ug,h1,List.toList_toArray]at key
 unfold wpListIn at key
 have hw:Region.wanted {o with guard:=none} (yielded #[{o with guard:=none}] a.tmps)=true:=by unfold Region.wanted;rfl
 rw[if_pos hw]at key
 refine⟨λf _=>trivial,?_⟩
 have k2:=key.2
 have e:(({o with guard:=none}:Oper).semAt Fence.wide.round a.eval)=o.semAt Fence.wide.round a.eval:=rfl
 rw[e]at k2
 generalize (o.semAt Fence.wide.round a.eval).run P w=r at *
 have nil: ∀{a' w'},wpListIn Fence.wide 0 P #[{o with guard:=none}] (NX N) [] a' w'->N a' w':=λh=>by
  unfold wpListIn at h;exact h.2
 cases r with
 |ok x w'=>
  cases x<;>simp only[Oper.uponIn]at k2 ⊢ <;>first
   |exact nil k2
   |exact k2.elim
   |exact⟨k2.1,CallsIn.mono k2.2 (λe w'' he=>by cases e<;>first|exact nil he|cases he.1|exact absurd he NX.out)⟩
   |exact⟨k2.1,RowsIn.mono k2.2 (λ_ _ he=>nil he)⟩
   |exact⟨k2.1,RoundIn.mono k2.2 (λe w'' he=>by cases e<;>first|exact nil he|cases he.1|exact absurd he NX.out)⟩
 |halt x w'=>cases x<;>simp only[Oper.uponIn]at k2 ⊢ <;>first|exact k2.elim|cases k2.1|exact k2
def qx.skip(ho:ops[i]? =some o)(hw:fG ops st o=some false)(hk:K b (st.put o.dst (.iQ []))):qx P l C ops i b st K:=by
 intro a w g hr hc N R hN
 unfold wpOpIn
 rw[ho]
 simp only[bt hr hw,g_7,if_false]
 exact⟨λf _=>trivial,hN b _ _ w g hk (hr.cu o.dst (v:=undef) ⟨#[],rfl,rfl,ψ⟩) hc (rA.refl _ _ _)⟩
end
section
variable {P:Program} {l:Nat} {C:Bool->Gh->World->Prop} {b:Bool} {st:St} {Q:Bool->Exit->St->Prop} {ops:Array Oper} {d m i:Nat} {K:Bool->St->Prop}
def o9(P:Program)(ops:Array Oper)(i:Nat)(st:St):Bool:=match ops[i]? with
 |some o=>mU P o||(match o.op with
  |.nilCheck x=>(match cx st x with
   |some (.ptr _ _)=>true
   |some (.fV _)=>true
   |_=>false)
  |_=>false)
 |none=>false
def uJ(ho:ops[i]? =some o)(h:o9 P ops i st=true)(hr:Rel st a w g)(h1:(execOp a.eval o).run P w=.ok (.value v) w1):
  (∀w2,(execOp a.eval o).run P w2=.ok (.value v) w2)/\(∀w,o.about P w a.eval=none):=by
 unfold o9 at h
 rw[ho]at h
 simp only[p_6]at h
 rcases h with h|h
 .refine⟨(sR h _ w _ w1 h1).2,λw=>?_⟩
  unfold Oper.about
  unfold mU at h
  grind
 .split at h
  .rename_i x hop
   refine⟨λw2=>?_,λw=>by unfold Oper.about;rw[hop]⟩
   have key: ∃q,a.eval x=.pointer (some q):=by
    split at h
    .rename_i hx
     have:=cw hr hx
     generalize a.eval x=u at this
     cases this;exact⟨_,rfl⟩
    .rename_i hx
     have:=cw hr hx
     generalize a.eval x=u at this
     cases this;exact⟨_,rfl⟩
    .cases h
   obtain⟨q,hq⟩:=key
   have e: ∀w,(execOp a.eval o).run P w=.ok (.value (.pointer (some q))) w:=λw=>by
    unfold execOp
    simp_all
   grind
  .cases h
def JY{R:Act->World->Prop}{X:Prop}(h:NX R (.panic c) a w):X:=by cases h.1
def Ea(i:Nat)(hc:(Region.noSelect ops&&Region.free .any ops (gU ops.size m) i&&(Region.ready .any ops (gU ops.size m)).contains i&&o9 P ops i st)=true)(hb:pP P ops i st dd s)
  (h:OL P l C ops d (m|||2 ^ i) b (st.put dd s) K):OL P l C ops (d+1) m b st K:=by
 simp only[g_3]at hc
 obtain⟨⟨⟨c1,c2⟩,c3⟩,c4⟩:=hc
 obtain⟨o,h1,h2,h3,h4,rfl⟩:=hb
 intro a w g hr hC R hR
 obtain⟨v,e1,e2⟩:=h3 a w g hr
 obtain⟨k1,k2⟩:=uJ h1 c4 hr (e2 w (Up.refl w))
 refine wpAnyIn_take (i:=i) (v:=v) rfl h1 c1 c2 c3 (λc a w hh=>JY hh) ⟨.inl ⟨bt hr h2,k1⟩,k2⟩ ?_
 rw[qm]
 exact h _ w g (hr.wa e1 h4) hC R hR
def EC(o:Oper):Bool:=match o.op with
 |.call _=>false
 |_=>true
def JU(i:Nat)(ho:ops[i]? =some o)(hw:fG ops st o=some false)(hc:(Region.noSelect ops&&Region.free .any ops (gU ops.size m) i&&(Region.ready .any ops (gU ops.size m)).contains i&&EC o)=true)
  (h:OL P l C ops d (m|||2 ^ i) b (st.put o.dst (.iQ [])) K):OL P l C ops (d+1) m b st K:=by
 simp only[g_3]at hc
 obtain⟨⟨⟨c1,c2⟩,c3⟩,c4⟩:=hc
 intro a w g hr hC R hR
 refine wpAnyIn_take (i:=i) (v:=undef) rfl ho c1 c2 c3 (λc a w hh=>JY hh) ⟨.inr ⟨bt hr hw,rfl⟩,λw=>?_⟩ ?_
 .unfold Oper.about
  unfold EC at c4
  grind
 .rw[qm]
  exact h _ w g (hr.cu o.dst (v:=undef) ⟨#[],rfl,rfl,ψ⟩) hC R hR
def wW{id:Nat}{ll:List Oper}(hm:P.follows .mixedOrders=true)(hC: ∀b,M4 (C b))(h:OL P l C ll.toArray ll.length 0 b st (λb' s=>Q b' .normal s)):Fo P l C b (.region id ll.toArray true) st Q:=by
 intro a w g hr hc
 refine(wpIn_wide (n:=0)).1 ?_
 refine Code.wpIn_mono (Q:=NX λa' w'=> ∃b' st' g',Q b' .normal st'/\Rel st' a' w' g'/\C b' g' w'/\rA l g w g' w') (λe a' w' hh=>by obtain⟨rfl,hh⟩:=hh;exact hh) ?_
 refine wpIn_region_any hm ?_
 have:=h a w.drew g hr.drew (hC b _ _ _ _ hc (Fr.drew (pu:=false))) (λa' w'=> ∃b' st' g',Q b' .normal st'/\Rel st' a' w' g'/\C b' g' w'/\rA l g w g' w')
  (λb' st' a' w' g' q r c f=>⟨b',st',g',q,r,c,(rA.of (Fr.drew (pu:=false))).trans f⟩)
 rw[ql]at this
 simpa using this
def qx.call(n:Nat)(L:List Nat)(ll:List (Nat×SV))
  (hp:PU P l (CL l R jc ds Dn) f args st.H H' b' (λv=>v=.bool b')) (h:eg P ops i st []=some (dd,f,args,[],[])) (hn:st.tmps.all er=true)
  (cR:bu n L ⟨(st.put dd (vB b')).tmps,H'⟩=some (ll,H')) (hk:K b' (sp n ll H')):qx P l (CL l R jc ds Dn) ops i true st K:=by
 unfold eg at h
 split at h
 .rename_i o ho
  split at h
  .rename_i c hop
   split at h
   .rename_i cs hcs
    simp only[g_2,g_8]at h
    obtain⟨rfl,rfl,rfl,e1,e2⟩:=h
    obtain⟨h1,h2⟩:=bo ho
    obtain⟨f0,a0,l0,g0⟩:=cs
    cases e1;cases e2
    intro a w g hr hc N R' hN
    obtain⟨vs,k1,k2,k3⟩:=ya hr hop hcs
    unfold wpOpIn
    rw[h1]
    simp only[bt hr h2,if_true]
    refine⟨λf _=>trivial,?_⟩
    show Oper.uponIn _ _ _ _ _ _ _ ((execOp a.eval o).run P w)
    rw[k1]
    simp only[Oper.uponIn]
    refine⟨(λh=>nomatch h),callsIn_wide.2 ((hp.call hc k2 k3).mono λe w' hh=>?_)⟩
    obtain⟨v,rfl,rfl,g',q1,q2,q3,q4⟩:=hh
    exact hN b' _ _ w' g' hk ((tc hr hn q1 q3 q4 (.inr ⟨b',rfl,rfl⟩)).bC (aL cR)) q2 q3
   .cases h
  .cases h
 .cases h
def qx.yield{CC:Bool->Gh->World->Prop}(n:Nat)(L:List Nat)(ll:List (Nat×SV))(h:Vp P ops i st=some (dd,l,y))
  (hy:RJ P l CC [.d y] st.H H' b') (hn:st.tmps.all er=true)
  (cR:bu n L ⟨(st.put dd (vB b')).tmps,H'⟩=some (ll,H')) (hk:K b' (sp n ll H')):qx P l CC ops i true st K:=by
 unfold Vp at h
 split at h
 .rename_i o ho
  split at h
  .rename_i c hop
   split at h
   .rename_i fo x hcal hargs
    split at h
    .rename_i l' y' hfo hx
     simp only[g_2,g_8]at h
     obtain⟨rfl,rfl,rfl⟩:=h
     obtain⟨h1,h2⟩:=bo ho
     intro a w g hr hc N R' hN
     have hrf:=cw hr hfo
     have hrx:=cw hr hx
     have hev:a.eval fo=.func (.yield l') #[] #[]:=by
      generalize a.eval fo=v at hrf
      cases hrf with
      |fn hl1 hl2 us1 us2 hc1 hr1 hc2 hr2=>
       grind
     have hca:c.args= #[x]:=by
      grind
     obtain⟨fn,tmps,assign,body,e1,e2⟩:=hy w g #[a.eval x] hc ⟨rfl,λj s hj=>by
      cases j with
      |zero=>simp only[j_3,g_2]at hj;subst hj;exact⟨_,rfl,hrx⟩
      |succ j=>simp at hj⟩ hr.hp
     have hex:(o.semAt Fence.wide.round a.eval).run P w=.ok (.round l' fn tmps assign body) w:=by
      show(execOp a.eval o).run P w=_
      unfold execOp
      rw[hop]
      simp only[resolve,hcal,hca,Deferred.ofValue,hev,Sem.run_bind,Sem.run_pure,Result.andThen_ok,invoke,p_2,h_3,q_7]
      exact e1
     unfold wpOpIn
     rw[h1]
     simp only[bt hr h2,if_true]
     refine⟨λf _=>trivial,?_⟩
     rw[hex,Oper.uponIn_round]
     refine⟨(λh=>nomatch h),(e2 _).mono λe w' hh=>?_⟩
     obtain⟨rfl,g',q1,q2,q3,q4⟩:=hh
     exact hN b' _ _ w' g' hk ((tc hr hn q1 q3 q4 (.inr ⟨b',rfl,rfl⟩)).bC (aL cR)) q2 q3
    .cases h
   .cases h
  .cases h
 .cases h
def Mi(P:Program)(ops:Array Oper)(k:Nat)(st:St):Option (Option Tmp×Nat):=
 match fR ops k st with
 |some o=>match o.op with
  |.load T x=>match cx st x with
   |some (.ptr i 0)=>if(!(P.underlying T).isNone&&!fI P T)=true then some (o.dst,i)else none
   |_=>none
  |_=>none
 |none=>none
def rr(h:Mi P ops i st=some (dd,j))(hd:(j,y)∈Dn)(hk:K b (st.put dd (.d y))):qx P l (CL l R jc ds Dn) ops i b st K:=by
 unfold Mi at h
 split at h
 .rename_i o ho
  split at h
  .rename_i T x hop
   split at h
   .rename_i i' hx
    split at h
    .rename_i hT
     cases h
     simp only[g_3,k_4]at hT
     obtain⟨h1,h2⟩:=bo ho
     intro a w g hr hc N R' hN
     obtain⟨k,c,T0,fz,v,e1,e2,e3,e4,e5,e6,e7⟩:=hc.2.2.2 _ _ hd
     have hrx:=cw hr hx
     have hev:a.eval x=.pointer (some ⟨k,0,none⟩):=by
      generalize a.eval x=u at hrx
      cases hrx with
      |ptr hh=>rw[e1]at hh;cases hh;rfl
     unfold wpOpIn
     rw[h1]
     simp only[bt hr h2,if_true]
     refine⟨λf _=>trivial,?_⟩
     have hex:(execOp a.eval o).run P w=.ok (.value v) w:=by
      unfold execOp
      rw[hop]
      simp only[Instr.loadAt,hev,Instr.sureAddr,Sem.run_bind,Sem.run_pure,Result.andThen_ok,eh hT.1 hT.2 e4 e5]
     show Oper.uponIn _ _ _ _ _ _ _ ((execOp a.eval o).run P w)
     rw[hex]
     simp only[Oper.uponIn]
     exact hN b _ _ w g hk (hr.cu o.dst e7) hc (rA.refl _ _ _)
    .cases h
   .cases h
  .cases h
 .cases h
def HR(hf:P.funcs[f]? =some fn)(hb:fn.body=some c)(hr:fn.results= #[.tmp t])
  (h:Fo P l C true c (k8 fn.ntmps args H) (λb1 e s=>b1=b'/\(e=.normal\/e=.ret)/\s.H=H'/\s.tmps[t]? =some (vB b'))):PU P l C f args H H' b' (λv=>v=.bool b'):=by
 intro w g vs hC ha hH
 refine calls_of_wp hf hb (Code.wp_mono (λe a' w' hh=>?_) (h _ _ g (oD ha hH fn.ntmps) hC))
 obtain⟨b1,st',g',⟨rfl,he,hH',hv⟩,r,c1,f1⟩:=hh
 have hrd:Rd g' w' (valOf a' t) (.bool b1):=r.tmp t _ hv
 have hval:valOf a' t=.bool b1:=by generalize valOf a' t=u at hrd;cases hrd;rfl
 have hres:(results fn a'.tmps).run P w'=.ok (.bool b1) w':=by
  have:=ln (P:=P) (fn:=fn) (tm:=a'.tmps) (w:=w') (vs:=[.bool b1]) (by simp[hr]) (λj rv hj=>by
   rw[hr]at hj
   cases j with
   |zero=>
    simp only[List.getElem?_toArray,j_3,g_2]at hj
    subst hj
    exact⟨_,rfl,by simp only[kU];exact congrArg (λv=>Result.ok v w') hval⟩
   |succ j=>simp at hj)
  simpa using this
 rcases he with rfl|rfl
 .exact⟨r.dS,_,hres,_,g',rfl,rfl,by rw[<-hH'];exact r.hp,c1,f1⟩
 .exact⟨r.dS,_,hres,_,g',rfl,rfl,by rw[<-hH'];exact r.hp,c1,f1⟩
def Fp(hf:P.funcs[f]? =some fn)(hb:fn.body=some c)(hr:fn.results= #[])
  (h:Fo P l C true c (k8 fn.ntmps args H) (λb1 e s=>b1=b'/\(e=.normal\/e=.ret)/\s.H=H')):PU P l C f args H H' b' (λv=>True):=by
 intro w g vs hC ha hH
 refine calls_of_wp hf hb (Code.wp_mono (λe a' w' hh=>?_) (h _ _ g (oD ha hH fn.ntmps) hC))
 obtain⟨b1,st',g',⟨rfl,he,hH'⟩,r,c1,f1⟩:=hh
 have hres:(results fn a'.tmps).run P w'=.ok (.tuple #[]) w':=by
  have:=ln (P:=P) (fn:=fn) (tm:=a'.tmps) (w:=w') (vs:=[]) (by simp[hr]) (λj rv hj=>by simp[hr]at hj)
  simpa using this
 rcases he with rfl|rfl
 .exact⟨r.dS,_,hres,_,g',rfl,trivial,by rw[<-hH'];exact r.hp,c1,f1⟩
 .exact⟨r.dS,_,hres,_,g',rfl,trivial,by rw[<-hH'];exact r.hp,c1,f1⟩
end
section
variable {P:Program} {l:Nat} {C:Bool->Gh->World->Prop} {b:Bool} {st:St} {Q:Bool->Exit->St->Prop} {ops:Array Oper} {d m i k:Nat} {K:Bool->St->Prop}
def Th(P:Program)(l:Nat)(C:Bool->Gh->World->Prop)(ops:Array Oper)(k:Nat)(b:Bool)(st:St)(K:Bool->St->Prop):Prop:=
 ∀a w g,Rel st a w g->C b g w-> ∀R:Act->World->Prop,(∀b' st' a' w' g',K b' st'->Rel st' a' w' g'->C b' g' w'->rA l g w g' w'->R a' w')->
  wpListIn Fence.wide 0 P ops (NX R) (ops.toList.drop k) a w
def Pv(h:decide (ops.size<=k)=true)(hk:K b st):Th P l C ops k b st K:=λa w g hr hc R hR=>by
 rw[p_0 (by simpa using of_decide_eq_true h)]
 exact wpListIn_nil ⟨rfl,hR b st a w g hk hr hc (rA.refl _ _ _)⟩
def yu(hk:(ops[k]?).isSome=true)(h:qx P l C ops k b st (λb' s=>Th P l C ops (k+1) b' s K)):Th P l C ops k b st K:=by
 obtain⟨o,ho⟩:=k_1.1 hk
 intro a w g hr hc R hR
 rw[drop_cons ho]
 have h1:=h a w g hr hc (wpListIn Fence.wide 0 P ops (NX R) (ops.toList.drop (k+1))) R λb1 jh a1 w1 g1 q1 r1 c1 f1=>
  q1 a1 w1 g1 r1 c1 R λb2 iY a2 w2 g2 q2 r2 c2 f2=>hR b2 iY a2 w2 g2 q2 r2 c2 (f1.trans f2)
 unfold wpOpIn at h1
 rw[ho]at h1
 unfold wpListIn
 grind
def Q7(n:Nat)(H:List aN)(L:List Nat)(ll:List (Nat×SV))(cR:bu n L st=some (ll,H))(h:Th P l C ops k b (sp n ll H) K):Th P l C ops k b st K:=
 λa w g hr hc=>h a w g (hr.bC (aL cR)) hc
def Fm{id:Nat}{ll:List Oper}(h:Th P l C ll.toArray 0 b st (λb' s=>Q b' .normal s)):Fo P l C b (.region id ll.toArray false) st Q:=by
 intro a w g hr hc
 refine(wpIn_wide (n:=0)).1 ?_
 refine Code.wpIn_mono (Q:=NX λa' w'=> ∃b' st' g',Q b' .normal st'/\Rel st' a' w' g'/\C b' g' w'/\rA l g w g' w') (λe a' w' hh=>by obtain⟨rfl,hh⟩:=hh;exact hh) ?_
 refine wpIn_region_list ?_
 have:=h a w g hr hc (λa' w'=> ∃b' st' g',Q b' .normal st'/\Rel st' a' w' g'/\C b' g' w'/\rA l g w g' w')
  (λb' st' a' w' g' q r c f=>⟨b',st',g',q,r,c,f⟩)
 grind
def D6{Q:St->Prop}{n:Nat}{H:Hp}{i:Nat}(L:List Nat)(ll:List (Nat×SV))(hx:GR H0 i off y.cells=some H)(h:F5 P ops k st=some (i,off,y,H0))(cR:bu n L (st.hp H)=some (ll,H))
  (hn:cf P false ops (k+1) (sp n ll H) Q):cf P false ops k st Q:=by
 unfold F5 at h
 split at h
 .rename_i o ho
  split at h
  .rename_i T x y hop
   split at h
   .rename_i i' off' d h1 h2
    split at h
    .rename_i hc
     simp only[g_2,g_8]at h
     obtain⟨rfl,rfl,rfl,rfl⟩:=h
     obtain⟨g1,g2⟩:=bo ho
     exact j5 n H L ll g1 g2 (te hop hc.2.2 h1 h2 hc.1 hc.2.1 hx) cR hn
    .cases h
   .cases h
  .cases h
 .cases h
def Rel.xV{i:Nat}(hr:Rel st a w g)(hi:st.H[i]? =some (.cells [.d y]))(hn:st.tmps.all er=true)(hl:g.ow l=.out):
  ∃g',Rel ⟨st.tmps,st.H.set i .hole⟩ a w g'/\Fr false g w g' w/\PJ l i y g' w:=by
 let rn:Own->Own:=λo=>match o with
  |.obj j=>if j=i then .out else .obj j
  |o=>o
 have hk: ∀o,(∀j,o=.obj j->j≠i)->aO o g w (g.br rn) w:=λo h1=>aO.br (by
  grind)
 have hf:aO .free g w (g.br rn) w:=hk _ ψ
 have hout:aO .out g w (g.br rn) w:=hk _ ψ
 obtain⟨k,c,T,f1,f2,f3,f4,f5⟩:=hr.hp.2 i _ hi
 refine⟨g.br rn,?_,⟨h_0 _,hf,hout,λ_ _ h=>h,nofun,nofun,nofun,⟨rfl,rfl⟩⟩,?_⟩
 .refine bc hr hr.len hr.dS (λ_ _ h=>h) (λt' s hs=>?_) ⟨by simp[Gh.br,hr.hp.1],λi' o' hi'=>?_⟩
  .refine .inr (.inr ⟨hs,rfl,λo' ho'=>hk o' (λj e2=>by subst e2;exact absurd ho' nh),λs0 e0=>⟨rfl,λx hx hb=>⟨x,hx,rfl⟩⟩⟩)
  .simp only at hi'
   by_cases e:i=i'
   .subst e
    rw[g_0 (aU hi)]at hi'
    cases hi'
    trivial
   .rw[g_1 e]at hi'
    exact(hr.hp.2 i' o' hi').nO hf (hk _ (λj e2=>by cases e2;exact j_6 e)) (λj=>hk _ ψ) (λ_ _ h=>h)
 .obtain⟨u,u1,u2,u3⟩:=f5 0 _ rfl
  refine⟨k,c,T,(0,0),u,f1,(λe=>by subst e;rw[hl]at f2;cases f2),by simp[Gh.br,f2,rn],f3,u1,u3,?_⟩
  exact(show Rd g w u y from u2).bg hf (λ_ _ h=>h)
def MF(i:Nat)(y:D)(n:Nat)(H:List aN)(L:List Nat)(ll:List (Nat×SV))(hi:st.H[i]? =some (.cells [.d y]))(hn:st.tmps.all er=true)
  (cR:bu n L ⟨st.tmps,st.H.set i .hole⟩=some (ll,H)) (h:Fo P l (CL l R jc ds ((i,y)::Dn)) b c (sp n ll H) Q):Fo P l (CL l R jc ds Dn) b c st Q:=by
 intro a w g hr hc
 obtain⟨g1,r1,f1,d1⟩:=hr.xV hi hn hc.2.1
 have hc1:=CL.fr _ _ _ _ hc f1
 have hc2:CL l R jc ds ((i,y)::Dn) b g1 w:=⟨hc1.1,hc1.2.1,hc1.2.2.1,λj d hd=>by
  rcases h_8.1 hd with e|hd
  .cases e;exact d1
  .exact hc1.2.2.2 j d hd⟩
 refine Code.wp_mono (λe a' w' hh=>?_) (h a w g1 (r1.bC (aL cR)) hc2)
 obtain⟨b',st',g',q,r,c',f⟩:=hh
 exact⟨b',st',g',q,r,c'.less (λp hp=>m_1 _ hp),(rA.of f1).trans f⟩
def tw.Ts(h:tw l R ds g w):CL l R jc ds [] true g w:=⟨h.1,h.2.1,h.2.2,λi d hd=>by cases hd⟩
def CL.Nn(h:CL l R jc ds Dn true g w):tw l R ds g w:=⟨h.1,h.2.1,h.2.2.1⟩
def JF{H:List aN}(h:YB P (tw l R ds) l args H H'):RJ P l (CL l R jc ds []) args H H' true:=λw g vs hC hA hH=>by
 obtain⟨fn,tmps,assign,body,h1,h2⟩:=h w g vs hC.Nn hA hH
 refine⟨fn,tmps,assign,body,h1,λn=>(h2 n).mono λe w' hh=>?_⟩
 obtain⟨he,g',k1,k2,k3⟩:=hh
 exact⟨he,g',k1,(tw.fr _ _ _ _ hC.Nn k2).Ts,rA.of k2,λo ho _=>k3 o ho⟩
def HS{H:List aN}{rv:Value->Prop}(h:PU P l (CL l R jc ds []) f args H H' true rv):UE P (tw l R ds) f args H H':=λw g vs hC hA hH=>by
 refine(h w g vs hC.Ts hA hH).mono λe w' hh=>?_
 obtain⟨v,g',rfl,_,k1,k2,k3⟩:=hh
 refine⟨v,g',rfl,k1,k3.size,k3.free,λk o h1 h2=>?_,k3.qH,nofun,nofun,nofun,k3.os⟩
 by_cases hk:k=l
 .subst hk
  have:=hC.1
  rw[h2]at this
  cases this
  exact⟨k2.2.1,k2.1⟩
 .exact k3.out k o hk h1 h2
def iX{N:Bool->St->Prop}{Q:Bool->Exit->St->Prop}{b:Bool}(h:N b s):J7 N Q b .normal s:=h
def OP{id:Nat}{Q:Bool->Exit->St->Prop}{b:Bool}{s:St}(h:Q b .normal s):E6 id Q b .normal s:=h
def OO{id:Nat}{Q:Bool->Exit->St->Prop}{b:Bool}{s:St}(h:Q b .normal s):E6 id Q b (.exit id) s:=by
 show(if id=id then _ else _)
 rw[if_pos rfl]
 exact h
def IL(P:Program)(ops:Array Oper)(m:Nat)(st:St)(i:Nat):Option St:=match ops[i]? with
 |none=>none
 |some o=>match fG ops st o with
  |some true=>match CD P st o with
   |some s=>if kx o.dst s&&(Region.ready .any ops (gU ops.size m)==[i]||(Region.noSelect ops&&Region.free .any ops (gU ops.size m) i&&(Region.ready .any ops (gU ops.size m)).contains i&&o9 P ops i st))then some (st.put o.dst s)else none
   |none=>none
  |some false=>if Region.ready .any ops (gU ops.size m)==[i]||(Region.noSelect ops&&Region.free .any ops (gU ops.size m) i&&(Region.ready .any ops (gU ops.size m)).contains i&&EC o)then some (st.put o.dst (.iQ []))else none
  |none=>none
def qx.CD(h1:ops[i]? =some o)(h2:fG ops st o=some true)(h3:Sh.CD P st o=some s)(h4:kx o.dst s=true)(hk:K b (st.put o.dst s)):qx P l C ops i b st K:=by
 intro a w g hr hc N R hN
 obtain⟨v,e1,e2⟩:=DK hr h3
 unfold wpOpIn
 rw[h1]
 simp only[bt hr h2,if_true]
 refine⟨λf _=>trivial,?_⟩
 show Oper.uponIn _ _ _ _ _ _ _ ((execOp a.eval o).run P w)
 rw[e2 w (Up.refl w)]
 simp only[Oper.uponIn]
 exact hN b _ _ w g hk (hr.wa e1 h4) hc (rA.refl _ _ _)
def F4(h:IL P ops m st i=some st')(hn:OL P l C ops d (m|||2 ^ i) b st' K):OL P l C ops (d+1) m b st K:=by
 unfold IL at h
 split at h
 .cases h
 .rename_i o ho
  split at h
  .rename_i hw
   split at h
   .rename_i s hs
    split at h
    .rename_i hc
     cases h
     simp only[g_3,p_6,beq_iff_eq]at hc
     obtain⟨c1,c2⟩:=hc
     rcases c2 with c2|c2
     .exact bx c2 ⟨qx.CD ho hw hs c1 hn,trivial⟩
     .exact Ea i φ ⟨o,ho,hw,cA hs,c1,rfl⟩ hn
    .cases h
   .cases h
  .rename_i hw
   split at h
   .rename_i hc
    cases h
    simp only[p_6,beq_iff_eq]at hc
    rcases hc with c2|c2
    .exact bx c2 ⟨qx.skip ho hw hn,trivial⟩
    .exact JU i ho hw c2 hn
   .cases h
  .cases h
def Gd(P:Program)(ops:Array Oper):List Nat->Nat->St->Option (Nat×St)
 |[],m,st=>some (m,st)
 |i::is,m,st=>match IL P ops m st i with
  |some st'=>Gd P ops is (m|||2 ^ i) st'
  |none=>none
def AE: ∀{is:List Nat} {m m':Nat} {st st':St},Gd P ops is m st=some (m',st')->OL P l C ops d m' b st' K->OL P l C ops (is.length+d) m b st K
 |[],m,m',st,st',h,hn=>by cases h;simpa using hn
 |i::is,m,m',st,st',h,hn=>by
  simp only[Gd]at h
  split at h
  .rename_i jh h1
   have:=AE h hn
   rw[show(i::is).length+d=(is.length+d)+1 by simp;omega]
   exact F4 h1 this
  .cases h
variable {n:Nat} {H:Hp} {l0:List (Nat×SV)}
def Rs(is:List Nat)(m:Nat):Nat:=is.foldl (λm i=>m|||2 ^ i) m
def gg(is:List Nat)(ll:List (Nat×SV))(hn:OL P l C ops d' (Rs is m) b (sp n ll H) K)(hd:d=is.length+d':=by rfl)
  (h:(Gd P ops is m (sp n l0 H)).bind (λq=>(bu n (ll.map (·.1)) q.2).map (λr=>(q.1,r)))=some (Rs is m,(ll,H)):=by kernel_rfl):OL P l C ops d m b (sp n l0 H) K:=by
 subst hd
 cases hq:Gd P ops is m (sp n l0 H)with
 |none=>rw[hq]at h;cases h
 |some q=>
  rw[hq]at h
  simp only[j_5,g_4]at h
  obtain⟨r,h1,h2⟩:=h
  simp only[g_8]at h2
  obtain⟨e1,rfl⟩:=h2
  rw[<-e1]at hn
  exact AE hq (Ci n H _ ll h1 hn)
def bf{N:Bool->St->Prop}(h:cf P false (ug ops i) 0 (sp n l0 H) (N b))(hC: ∀b,M4 (C b))(ho:(fR ops i (sp n l0 H)).isSome=true:=by kernel_rfl)(hd:fY (ug ops i).toList=true:=by kernel_rfl):qx P l C ops i b (sp n l0 H) N:=by
 obtain⟨o,ho⟩:=k_1.1 ho
 exact qx.of hC ho hd h
def qF(i:Nat)(hC: ∀b,M4 (C b))(h:cf P false (ug ops i) 0 (sp n l0 H) (λs=>OL P l C ops d (m|||2 ^ i) b s K))(hr:Region.ready .any ops (gU ops.size m)=[i]:=by kernel_rfl)
  (ho:(fR ops i (sp n l0 H)).isSome=true:=by kernel_rfl) (hd:fY (ug ops i).toList=true:=by kernel_rfl):OL P l C ops (d+1) m b (sp n l0 H) K:=
 bx hr ⟨bf h hC ho hd,trivial⟩
def Li(i:Nat)(ll:List (Nat×SV))(hb:pP P ops i (sp n l0 H) dd s)(h:OL P l C ops d (m|||2 ^ i) b (sp n ll H) K)(cR:bu n (ll.map (·.1)) ((sp n l0 H).put dd s)=some (ll,H):=by kernel_rfl)
  (hc:(Region.noSelect ops&&Region.free .any ops (gU ops.size m) i&&(Region.ready .any ops (gU ops.size m)).contains i&&o9 P ops i (sp n l0 H))=true:=by kernel_rfl):OL P l C ops (d+1) m b (sp n l0 H) K:=
 Ea i hc hb (Ci n H _ ll cR h)
def Q8(Hyp:Hp->Prop)(d m n:Nat)(ll:List (Nat×SV))(h2: ∀H2,Hyp H2->OL P l C ops d m b (sp n ll H2) K)(h1:(∀H2,Hyp H2->OL P l C ops d m b (sp n ll H2) K)->OL P l C ops d0 m0 b0 st0 K):OL P l C ops d0 m0 b0 st0 K:=h1 h2
def b9(d m n:Nat)(ll:List (Nat×SV))(h2:OL P l C ops d m b (sp n ll H) K)(h1:OL P l C ops d m b (sp n ll H) K->OL P l C ops d0 m0 b0 st0 K):OL P l C ops d0 m0 b0 st0 K:=h1 h2
def nf(h:OL P l C ops d m' b st K)(hm:m'=m:=by kernel_rfl):OL P l C ops d m b st K:=hm▸h
end
section
variable {P:Program} {st:St} {Q:Exit->St->Prop}
def HK(hc:cx st c=some (.bool true))(h:ta P x st Q):ta P (.cond c x y) st Q:=
 λa w g hr=>wp_cond (cg hr hc rfl) (by simpa using h a w g hr)
def tb{r:SV}(hf:P.funcs[f]? =some fn)(hb:fn.body=some c)
  (h:ta P c (k8 fn.ntmps args H) (dw P fn.results.toList H' r)):SC P false f args H r H':=S5 (HQ hf hb h)
variable {r:Option Nat} {K:St->Prop} {ops:Array Oper}
def Lw{X N:Act->World->Prop}{N':Act->World->Prop}(hd:fY ops.toList=true)(h:wpOp P ops (NX X) i N a w)(hN: ∀a w,N a w->N' a w):wpOpIn (Fw r) n P ops (NX X) i N' a w:=by
 unfold wpOp at h
 unfold wpOpIn
 split at h
 .grind
 .rename_i o ho
  rw[ho]
  simp only
  split at h
  .rename_i hw
   rw[if_pos hw]
   rcases h with h|h
   .refine⟨λf _=>Cm f,?_⟩
    have hmem:o∈ops.toList:=by
     grind
    rw[Iq,Oper.semAt_eq r a.eval o (jU hd o hmem)]
    exact C1 (Oper.wp_mono (K':=N') (λa' w' hh=>hN a' w' hh) h)
   .exact absurd h.2 NX.out
  .rename_i hw
   rw[if_neg hw]
   exact⟨λf _=>Cm f,hN _ _ h⟩
def Ag{X:Act->World->Prop}(hd:fY ops.toList=true): ∀(d:Nat) (ls:Array Bool) (a:Act) (w:World),wpAny P md ops (NX X) d ls a w->wpAnyIn (Fw r) n P md ops (NX X) d ls a w
 |0,_,_,_,h=>h
 |d+1,_,_,_,h=>⟨h.1,λi hi=>Lw hd (h.2 i hi) (λa w hh=>Ag hd d _ a w hh)⟩
def Ph{id:Nat}{l:List Oper}(hm:P.follows .mixedOrders=true)(hd:fY l=true)
  (h: ∀a w g,Rel st a w g->wpAny P .any l.toArray (NX λa' w'=> ∃st' g',K st'/\Rel st' a' w' g'/\Fr false g w g' w') l.toArray.size (Array.replicate l.toArray.size false) a w.drew):ME P r (.region id l.toArray true) st K:=by
 intro n a w g hr
 refine Code.wpIn_mono (Q:=NX λa' w'=> ∃st' g',K st'/\Rel st' a' w' g'/\Fr false g w g' w') (λe a' w' hh=>hh) ?_
 exact wpIn_region_any hm (Ag (by simpa using hd) _ _ _ _ (h a w g hr))
def DU{id:Nat}{l:List Oper}(n:Nat)(H:List aN)(ll:List (Nat×SV))(hm:P.follows .mixedOrders=true)
  (h: ∀X:Nat->Nat->St->Prop,(X=λd m s=>OX P false l.toArray d m s (sp n ll H))->X l.length 0 st) (hq:K (sp n ll H)) (hd:fY l=true:=by kernel_rfl):ME P r (.region id l.toArray true) st K:=
 Ph hm hd λa w g hr=>by
  have:=h _ rfl a w.drew g hr.drew (λa' w'=> ∃st' g',K st'/\Rel st' a' w' g'/\Fr false g w g' w') (λa' w' g' r f=>⟨_,g',hq,r,Fr.drew.trans f⟩)
  rw[ql]at this
  rw[show l.length=l.toArray.size by simp]at this
  exact this
end
structure GC{σ:Type}(pu:Bool)(C:σ->Gh->World->Prop)(R:σ->Gh->World->σ->Gh->World->Prop):Prop where
 fr: ∀{s g w g' w'},C s g w->Fr pu g w g' w'->C s g' w'/\R s g w s g' w'
 refl: ∀{s g w},R s g w s g w
 trans: ∀{s1 g1 w1 s2 g2 w2 s3 g3 w3},R s1 g1 w1 s2 g2 w2->R s2 g2 w2 s3 g3 w3->R s1 g1 w1 s3 g3 w3
section
variable {σ:Type} {P:Program} {pu:Bool} {C:σ->Gh->World->Prop} {R:σ->Gh->World->σ->Gh->World->Prop} {s:σ} {st:St} {Q:σ->Exit->St->Prop}
def rq(P:Program)(C:σ->Gh->World->Prop)(R:σ->Gh->World->σ->Gh->World->Prop)(s:σ)(c:Code)(st:St)(Q:σ->Exit->St->Prop):Prop:=
 ∀a w g,Rel st a w g->C s g w->c.wp P (λe a' w'=> ∃s' st' g',Q s' e st'/\Rel st' a' w' g'/\C s' g' w'/\R s g w s' g' w') a w
def FR(N:σ->St->Prop)(Q:σ->Exit->St->Prop):σ->Exit->St->Prop:=λs e st=>match e with
 |.normal=>N s st
 |e=>Q s e st
def BO(id:Nat)(Q:σ->Exit->St->Prop):σ->Exit->St->Prop:=λs e st=>match e with
 |.exit id'=>if id'=id then Q s .normal st else Q s (.exit id') st
 |e=>Q s e st
def bX{N:σ->St->Prop}(h:N s st):FR N Q s .normal st:=h
def qO{N:σ->St->Prop}(h:Q s .ret st):FR N Q s .ret st:=h
def sQ{id:Nat}(h:Q s .normal st):BO id Q s .normal st:=h
def BN{id:Nat}(h:Q s .ret st):BO id Q s .ret st:=h
def OR{id:Nat}(h:Q s .normal st):BO id Q s (.exit id) st:=by
 show(if id=id then _ else _)
 rw[if_pos rfl]
 exact h
def dF(hC:GC pu C R)(h:SW P pu c st (Q s)):rq P C R s c st Q:=λa w g hr hc=>
 Code.wp_mono (λe a' w' ⟨st',g',q,r,f⟩=>⟨s,st',g',q,r,(hC.fr hc f).1,(hC.fr hc f).2⟩) (h a w g hr)
def bQ(hC:GC pu C R)(h:rq P C R s x st (FR (λs' st'=>rq P C R s' y st' Q) Q)):rq P C R s (.seq x y) st Q:=by
 intro a w g hr hc
 refine wp_seq (Code.wp_mono (λe a' w' hh=>?_) (h a w g hr hc))
 obtain⟨s',st',g',q,r,c',f⟩:=hh
 cases e with
 |normal=>
  refine Code.wp_mono (λe2 a2 w2 hh2=>?_) (q a' w' g' r c')
  obtain⟨b2,iY,g2,q2,r2,c2,f2⟩:=hh2
  exact⟨b2,iY,g2,q2,r2,c2,hC.trans f f2⟩
 |_=>exact⟨s',st',g',q,r,c',f⟩
def jd(n:Nat)(H:List aN)(L:List Nat)(ll:List (Nat×SV))(cR:bu n L st=some (ll,H))(h:rq P C R s c (sp n ll H) Q):rq P C R s c st Q:=
 λa w g hr hc=>h a w g (hr.bC (aL cR)) hc
def vA{id:Nat}{c:Code}(h:rq P C R s c st (BO id Q)):rq P C R s (.block id c) st Q:=by
 intro a w g hr hc
 refine wp_block (Code.wp_mono (λe a' w' hh=>?_) (h a w g hr hc))
 obtain⟨b',st',g',q,r,c',f⟩:=hh
 cases e with
 |exit id'=>
  simp only[BO]at q
  simp only[Exit.inBlock]
  grind
 |_=>exact⟨b',st',g',q,r,c',f⟩
def jZ(hc:cx st c=some (.bool v))(h:rq P C R s (cond v x y) st Q):rq P C R s (.cond c x y) st Q:=by
 cases v
 .exactλa w g hr hC=>wp_cond (cg hr hc rfl) (by simpa using h a w g hr hC)
 .exactλa w g hr hC=>wp_cond (cg hr hc rfl) (by simpa using h a w g hr hC)
variable {ops:Array Oper} {d m i k:Nat} {K:σ->St->Prop}
def OG(P:Program)(C:σ->Gh->World->Prop)(R:σ->Gh->World->σ->Gh->World->Prop)(ops:Array Oper)(d m:Nat)(s:σ)(st:St)(K:σ->St->Prop):Prop:=
 ∀a w g,Rel st a w g->C s g w-> ∀X:Act->World->Prop,(∀s' st' a' w' g',K s' st'->Rel st' a' w' g'->C s' g' w'->R s g w s' g' w'->X a' w')->
  wpAnyIn Fence.wide 0 P .any ops (NX X) d (gU ops.size m) a w
def iW(P:Program)(C:σ->Gh->World->Prop)(R:σ->Gh->World->σ->Gh->World->Prop)(ops:Array Oper)(i:Nat)(s:σ)(st:St)(K:σ->St->Prop):Prop:=
 ∀a w g,Rel st a w g->C s g w-> ∀(N X:Act->World->Prop),(∀s' st' a' w' g',K s' st'->Rel st' a' w' g'->C s' g' w'->R s g w s' g' w'->N a' w')->wpOpIn Fence.wide 0 P ops (NX X) i N a w
def CR(P:Program)(C:σ->Gh->World->Prop)(R:σ->Gh->World->σ->Gh->World->Prop)(ops:Array Oper)(k:Nat)(s:σ)(st:St)(K:σ->St->Prop):Prop:=
 ∀a w g,Rel st a w g->C s g w-> ∀X:Act->World->Prop,(∀s' st' a' w' g',K s' st'->Rel st' a' w' g'->C s' g' w'->R s g w s' g' w'->X a' w')->
  wpListIn Fence.wide 0 P ops (NX X) (ops.toList.drop k) a w
def Lj(hC:GC pu C R)(h:Region.ready .any ops (gU ops.size m)=[])(hk:K s st):OG P C R ops 0 m s st K:=λa w g hr hc X hX=>
 ⟨h,rfl,hX s st a w g hk hr hc hC.refl⟩
def kh(n:Nat)(H:List aN)(L:List Nat)(ll:List (Nat×SV))(cR:bu n L st=some (ll,H))(h:OG P C R ops d m s (sp n ll H) K):OG P C R ops d m s st K:=
 λa w g hr hc=>h a w g (hr.bC (aL cR)) hc
def cQ(hC:GC pu C R)(h:Region.ready .any ops (gU ops.size m)=i0::is)
  (hs:J3 (i0::is) (λi=>iW P C R ops i s st (λs' st'=>OG P C R ops d (m|||2 ^ i) s' st' K))):OG P C R ops (d+1) m s st K:=by
 intro a w g hr hc X hX
 refine wpAnyIn_all h (List.cons_ne_nil _ _) λi hi=>?_
 refine xd hs i hi a w g hr hc _ X λb1 jh a1 w1 g1 q1 r1 c1 f1=>?_
 rw[qm]
 exact q1 a1 w1 g1 r1 c1 X λb2 iY a2 w2 g2 q2 r2 c2 f2=>hX b2 iY a2 w2 g2 q2 r2 c2 (hC.trans f1 f2)
def w9(hC:GC pu C R)(h:decide (ops.size<=k)=true)(hk:K s st):CR P C R ops k s st K:=λa w g hr hc X hX=>by
 rw[p_0 (by simpa using of_decide_eq_true h)]
 exact wpListIn_nil ⟨rfl,hX s st a w g hk hr hc hC.refl⟩
def mV(hC:GC pu C R)(hk:(ops[k]?).isSome=true)(h:iW P C R ops k s st (λs' st'=>CR P C R ops (k+1) s' st' K)):CR P C R ops k s st K:=by
 obtain⟨o,ho⟩:=k_1.1 hk
 intro a w g hr hc X hX
 rw[drop_cons ho]
 have h1:=h a w g hr hc (wpListIn Fence.wide 0 P ops (NX X) (ops.toList.drop (k+1))) X λb1 jh a1 w1 g1 q1 r1 c1 f1=>
  q1 a1 w1 g1 r1 c1 X λb2 iY a2 w2 g2 q2 r2 c2 f2=>hX b2 iY a2 w2 g2 q2 r2 c2 (hC.trans f1 f2)
 unfold wpOpIn at h1
 rw[ho]at h1
 unfold wpListIn
 grind
def ry(n:Nat)(H:List aN)(L:List Nat)(ll:List (Nat×SV))(cR:bu n L st=some (ll,H))(h:CR P C R ops k s (sp n ll H) K):CR P C R ops k s st K:=
 λa w g hr hc=>h a w g (hr.bC (aL cR)) hc
def oc{id:Nat}{ll:List Oper}(h:CR P C R ll.toArray 0 s st (λs' st'=>Q s' .normal st')):rq P C R s (.region id ll.toArray false) st Q:=by
 intro a w g hr hc
 refine(wpIn_wide (n:=0)).1 ?_
 refine Code.wpIn_mono (Q:=NX λa' w'=> ∃s' st' g',Q s' .normal st'/\Rel st' a' w' g'/\C s' g' w'/\R s g w s' g' w') (λe a' w' hh=>by obtain⟨rfl,hh⟩:=hh;exact hh) ?_
 refine wpIn_region_list ?_
 have:=h a w g hr hc (λa' w'=> ∃s' st' g',Q s' .normal st'/\Rel st' a' w' g'/\C s' g' w'/\R s g w s' g' w') (λb' st' a' w' g' q r c f=>⟨b',st',g',q,r,c,f⟩)
 grind
def wY(hm:P.follows .mixedOrders=true)(hC:GC pu C R){id:Nat}{ll:List Oper}(h:OG P C R ll.toArray ll.length 0 s st (λs' st'=>Q s' .normal st')):rq P C R s (.region id ll.toArray true) st Q:=by
 intro a w g hr hc
 refine(wpIn_wide (n:=0)).1 ?_
 refine Code.wpIn_mono (Q:=NX λa' w'=> ∃s' st' g',Q s' .normal st'/\Rel st' a' w' g'/\C s' g' w'/\R s g w s' g' w') (λe a' w' hh=>by obtain⟨rfl,hh⟩:=hh;exact hh) ?_
 refine wpIn_region_any hm ?_
 obtain⟨hc1,hr1⟩:=hC.fr hc (Fr.drew (pu:=pu))
 have:=h a w.drew g hr.drew hc1 (λa' w'=> ∃s' st' g',Q s' .normal st'/\Rel st' a' w' g'/\C s' g' w'/\R s g w s' g' w')
  (λb' st' a' w' g' q r c f=>⟨b',st',g',q,r,c,hC.trans hr1 f⟩)
 rw[ql]at this
 simpa using this
def iW.of(hC:GC pu C R)(ho:fR ops i st=some o)(hd:fY (ug ops i).toList=true)(h:cf P pu (ug ops i) 0 st (K s)):iW P C R ops i s st K:=by
 obtain⟨h1,h2⟩:=bo ho
 intro a w g hr hc N X hN
 have h0:=h a w g hr (NX N) (λst' a' w' g' q r f=>⟨rfl,hN s st' a' w' g' q r (hC.fr hc f).1 (hC.fr hc f).2⟩)
 have key:=ng (r:=none) (n:=0) (ops':=ug ops i) (Q:=NX N) (rest:=[]) (λa w h=>wpListIn_nil (show NX N .normal a w from⟨rfl,h⟩)) ((ug ops i).toList.drop 0) a w (λo ho=>jU hd o (w_5 ho)) (λ_ _ _ _ _=>rfl) h0
 rw[p_4,q_1]at key
 unfold wpOpIn
 rw[h1]
 simp only[bt hr h2,if_true]
 simp only[ug,h1,List.toList_toArray]at key
 unfold wpListIn at key
 have hw:Region.wanted {o with guard:=none} (yielded #[{o with guard:=none}] a.tmps)=true:=by unfold Region.wanted;rfl
 rw[if_pos hw]at key
 refine⟨λf _=>trivial,?_⟩
 have k2:=key.2
 have e:(({o with guard:=none}:Oper).semAt (Fw none).round a.eval)=o.semAt Fence.wide.round a.eval:=rfl
 rw[e]at k2
 generalize (o.semAt Fence.wide.round a.eval).run P w=r at *
 have nil: ∀{a' w'},wpListIn (Fw none) 0 P #[{o with guard:=none}] (NX N) [] a' w'->N a' w':=λh=>by
  unfold wpListIn at h;exact h.2
 cases r with
 |ok x w'=>
  cases x<;>simp only[Oper.uponIn]at k2 ⊢ <;>first
   |exact nil k2
   |exact k2.elim
   |exact⟨k2.1,CallsIn.mono k2.2 (λe w'' he=>by cases e<;>first|exact nil he|cases he.1|exact absurd he NX.out)⟩
   |exact⟨k2.1,RowsIn.mono k2.2 (λ_ _ he=>nil he)⟩
   |exact⟨k2.1,RoundIn.mono k2.2 (λe w'' he=>by cases e<;>first|exact nil he|cases he.1|exact absurd he NX.out)⟩
 |halt x w'=>cases x<;>simp only[Oper.uponIn]at k2 ⊢ <;>first|exact k2.elim|cases k2.1|exact k2
def iW.val(hC:GC pu C R)(ho:fR ops i st=some o)(h: ∀a w g,Rel st a w g->C s g w-> ∃v,(execOp a.eval o).run P w=.ok (.value v) w/\BV g w st a v x)(hl:kx o.dst x=true)(hk:K s (st.put o.dst x)):iW P C R ops i s st K:=by
 obtain⟨h1,h2⟩:=bo ho
 intro a w g hr hc N X hN
 obtain⟨v,e1,e2⟩:=h a w g hr hc
 unfold wpOpIn
 rw[h1]
 simp only[bt hr h2,if_true]
 refine⟨λf _=>trivial,?_⟩
 show Oper.uponIn _ _ _ _ _ _ _ ((execOp a.eval o).run P w)
 rw[e1]
 simp only[Oper.uponIn]
 exact hN s _ _ w g hk (hr.wa e2 hl) hc hC.refl
end
structure xg(i:Nat)(g:Gh)(w:World)(g':Gh)(w':World):Prop where
 size:w.heap.size<=w'.heap.size
 free:aO .free g w g' w'
 out:aO .out g w g' w'
 qH:g'.ρ=g.ρ
 obj: ∀j,j≠i->aO (.obj j) g w g' w'
 au: ∀j c,j≠i->aO (.bN (.au j c)) g w g' w'
 os:fK w w'
section
variable {i:Nat} {g g1 g2 g3 g':Gh} {w w1 w2 w3 w':World}
def xg.of(h:Fr true g w g' w'):xg i g w g' w':=⟨h.size,h.free,h.out,h.len rfl,λj _=>h.obj rfl j,λj c _=>h.au rfl j c,h.os⟩
def xg.refl:xg i g w g w:=xg.of (Fr.refl true g w)
def xg.trans(h:xg i g1 w1 g2 w2)(h':xg i g2 w2 g3 w3):xg i g1 w1 g3 w3:=
 ⟨v_2 h.size h'.size,h.free.trans h'.free,h.out.trans h'.out,h'.qH.trans h.qH,λj hj=>(h.obj j hj).trans (h'.obj j hj),λj c hj=>(h.au j c hj).trans (h'.au j c hj),h.os.trans h'.os⟩
def xg.fr(h:xg i g w g' w'):Fr false g w g' w':=⟨h.size,h.free,h.out,λj k hj=>by rw[h.qH];exact hj,nofun,nofun,nofun,h.os⟩
abbrev KS:=List (Go.Value×Option (List Int))
def CK(oi di:Nat)(dd:D)(s:Go.Value×KS)(g:Gh)(w:World):Prop:=
 (∃(kv:Nat) (c:Array Go.Value) (T:TypeId) (fz:Nat×Nat),g.ρ[oi]? =some kv/\g.ow kv=.obj oi/\w.heap[kv]? =some (.cells c T fz)/\c[0]? =some s.1/\s.1.oneCell'=true)/\
 (∀(p:Nat) (u:Go.Value) (ks:List Int),s.2[p]? =some (u,some ks)->cy g w (.au oi (p+1)) u 1 (ks.map (D.int .i64)))/\
 (∃(k:Nat) (c:Array Go.Value) (T:TypeId) (fz:Nat×Nat) (v:Go.Value),g.ρ[di]? =some k/\g.ow k=.out/\w.heap[k]? =some (.cells c T fz)/\c[0]? =some v/\v.oneCell'=true/\Rd g w v dd)
def RK(oi:Nat):Go.Value×KS->Gh->World->Go.Value×KS->Gh->World->Prop:=λ_ g w _ g' w'=>xg oi g w g' w'
variable {oi di:Nat} {dd:D} {s:Go.Value×KS}
def CK.bg(h:CK oi di dd s g w)(h0:aO .free g w g' w')(h1:aO .out g w g' w')(h2:aO (.obj oi) g w g' w')(h3: ∀c,aO (.bN (.au oi (c+1))) g w g' w')(hρ:g'.ρ=g.ρ):CK oi di dd s g' w':=by
 have hk:eB g g':=λj k hj=>by rw[hρ];exact hj
 obtain⟨⟨kv,c,T,fz,a1,a2,a3,a4,a5⟩,b,⟨k,c',T',fz',v,d1,d2,d3,d4,d5,d6⟩⟩:=h
 obtain⟨x1,x2⟩:=h2 kv _ a2 a3
 obtain⟨y1,y2⟩:=h1 k _ d2 d3
 exact⟨⟨kv,c,T,fz,hk _ _ a1,x1,x2,a4,a5⟩,λp u ks hp=>(b p u ks hp).bg h0 (h3 p) hk,k,c',T',fz',v,hk _ _ d1,y1,y2,d4,d5,d6.bg h0 hk⟩
def rE:GC true (CK oi di dd) (RK oi):=
 ⟨λh f=>⟨h.bg f.free f.out (f.obj rfl oi) (λc=>f.au rfl oi (c+1)) (f.len rfl),xg.of f⟩,xg.refl,xg.trans⟩
def CK.br(h:CK oi di dd s g w):CK oi di dd s (g.br (aC [] [])) w:=
 h.bg (aO.br rfl) (aO.br rfl) (aO.br rfl) (λc=>aO.br rfl) rfl
def rM(oi:Nat):SV->Bool
 |.cq (.au i _) _ _|.eW (.au i _) _=>i !=oi
 |_=>true
def HT(hr:Rel st a w g)(hn:st.tmps.all (rM oi)=true)(hH:RH g' w' H')(hf:xg oi g w g' w')
  (hkp: ∀o,iZ o=false->aO o g w g' w') (hv:Rd g' w' v r):Rel ⟨(st.put d (.d r)).tmps,H'⟩ (a.put d v) w' g':=by
 refine bc hr (by rw[eb];simp only[cU];exact hr.len) (by rw[put_defers];exact hr.dS) (λj k hj=>by rw[hf.qH];exact hj) (λt s hs=>?_) hH
 by_cases hdt:d=some t
 .simp only at hs
  rw[hdt]at hs ⊢
  obtain⟨rfl,hlt⟩:=bY hs
  refine .inr (.inl ?_)
  rw[bW (by rw[hr.len];exact hlt)]
  exact hv
 .simp only at hs
  have hput:s=.undef\/(st.tmps[t]? =some s/\ ∀t0 old,d=some t0->st.tmps[t0]? =some old->uB old=true->dM t0 s=false):=by
   cases hdst:d with
   |none=>rw[hdst]at hs;exact .inr ⟨hs,ψ⟩
   |some t0=>
    rw[hdst]at hs hdt
    rcases eu (λe=>hdt (by rw[e])) hs with h|⟨h1,h2⟩
    .exact .inl h
    grind
  rcases hput with rfl|⟨hs3,hs2⟩
  .exact .inl rfl
  .have hnh:rM oi s=true:=h_4.1 hn s (h_2.2 ⟨t,hs3⟩)
   refine .inr (.inr ⟨hs3,cr hdt,λo' ho'=>?_,λs0 e=>?_⟩)
   .cases o' with
    |obj i=>exact absurd ho' nh
    |bN l=>
     cases l with
     |au i j=>
      refine hf.au i j (λe=>?_)
      subst e
      cases s<;>simp[jQ]at ho'
      .subst ho';simp[rM]at hnh
      .subst ho';simp[rM]at hnh
     |_=>exact hkp _ rfl
    |_=>exact hkp _ rfl
   .obtain⟨x0,hx0,hb0⟩:=kM (hr.tmp t _ hs3) e
    have hd0:d≠some s0:=λe2=>by
     have:=hs2 s0 _ e2 hx0 (gI hb0)
     rw[cH e]at this
     cases this
    exact⟨cr hd0,λx hx hb=>⟨x,eY hx hb hd0,rfl⟩⟩
end
section
variable {P:Program} {oi di:Nat} {dd:D} {s:Go.Value×KS} {ops:Array Oper} {i k d m:Nat} {st:St} {K:Go.Value×KS->St->Prop}
def g9(h:Mi P ops i st=some (o',oi))(hk:K s (st.put o' (.d (.raw s.1)))):iW P (CK oi di dd) (RK oi) ops i s st K:=by
 unfold Mi at h
 split at h
 .rename_i o ho
  split at h
  .rename_i T x hop
   split at h
   .rename_i i' hx
    split at h
    .rename_i hT
     cases h
     simp only[g_3,k_4]at hT
     refine iW.val rE ho (λa w g hr hc=>?_) rfl hk
     obtain⟨⟨kv,c,T0,fz,e1,e2,e3,e4,e5⟩,-⟩:=hc
     have hrx:=cw hr hx
     have hev:a.eval x=.pointer (some ⟨kv,0,none⟩):=by
      generalize a.eval x=u at hrx
      cases hrx with
      |ptr hh=>rw[e1]at hh;cases hh;rfl
     refine⟨s.1,?_,(.raw e5:Rd g w s.1 (.raw s.1))⟩
     unfold execOp
     rw[hop]
     simp only[Instr.loadAt,hev,Instr.sureAddr,Sem.run_bind,Sem.run_pure,Result.andThen_ok,eh hT.1 hT.2 e3 e4]
    .cases h
   .cases h
  .cases h
 .cases h
def lg(h:Mi P ops i st=some (o',di))(hk:K s (st.put o' (.d dd))):iW P (CK oi di dd) (RK oi) ops i s st K:=by
 unfold Mi at h
 split at h
 .rename_i o ho
  split at h
  .rename_i T x hop
   split at h
   .rename_i i' hx
    split at h
    .rename_i hT
     cases h
     simp only[g_3,k_4]at hT
     obtain⟨h1,h2⟩:=bo ho
     intro a w g hr hc N R' hN
     have hc0:=hc
     obtain⟨-,-,kv,c,T0,fz,v,e1,e2,e3,e4,e5,e6⟩:=hc
     have hrx:=cw hr hx
     have hev:a.eval x=.pointer (some ⟨kv,0,none⟩):=by
      generalize a.eval x=u at hrx
      cases hrx with
      |ptr hh=>rw[e1]at hh;cases hh;rfl
     unfold wpOpIn
     rw[h1]
     simp only[bt hr h2,if_true]
     refine⟨λf _=>trivial,?_⟩
     have hex:(execOp a.eval o).run P w=.ok (.value v) w:=by
      unfold execOp
      rw[hop]
      simp only[Instr.loadAt,hev,Instr.sureAddr,Sem.run_bind,Sem.run_pure,Result.andThen_ok,eh hT.1 hT.2 e3 e4]
     show Oper.uponIn _ _ _ _ _ _ _ ((execOp a.eval o).run P w)
     rw[hex]
     simp only[Oper.uponIn]
     exact hN s _ _ w g hk (hr.cu o.dst e6) hc0 xg.refl
    .cases h
   .cases h
  .cases h
 .cases h
def xc(hr:RH g w st.H)(hc:CK oi di dd s g w)(hH:st.H[oi]? =some (.cells [.own n xs])): ∃(kv:Nat) (cv:Array Go.Value) (Tv:TypeId),g.ρ[oi]? =some kv/\g.ow kv=.obj oi/\w.heap[kv]? =some (.cells cv Tv (0,0))/\cv.size=1/\cv[0]? =some s.1/\
  cy g w (.au oi 0) s.1 n xs:=by
 obtain⟨⟨kv,c,T,fz,a1,a2,a3,a4,a5⟩,-⟩:=hc
 obtain⟨kv',c',T',b1,b2,b3,b4,b5⟩:=hr.2 oi _ hH
 rw[a1]at b1
 cases b1
 rw[a3]at b3
 cases b3
 obtain⟨u,u1,u2,u3⟩:=b5 0 _ rfl
 rw[a4]at u1
 cases u1
 exact⟨kv,c,T,a1,a2,a3,by simpa using b4,a4,u2⟩
def cy.block(h:cy g w o v n xs)(hx:xs≠[]): ∃(k off cap:Nat) (c:Array Go.Value) (T:TypeId) (us:Nat->Nat->Go.Value),v=.slice (some ⟨k,off,none⟩) xs.length cap/\g.ow k=.bN o/\
  w.heap[k]? =some (.cells c T (0,0))/\xs.length<=cap/\off+cap * n<=c.size/\
  (∀(i:Nat) (x:D),xs[i]? =some x->x.cells.length=n)/\
  (∀(i:Nat) (x:D),xs[i]? =some x-> ∀(j:Nat) (y:D),x.cells[j]? =some y->c[off+i * n+j]? =some (us i j)/\(us i j).oneCell'=true)/\
  (∀(i:Nat) (x:D),xs[i]? =some x-> ∀(j:Nat) (y:D),x.cells[j]? =some y->Rd g w (us i j) y):=by
 rcases h with⟨h,-⟩|h
 .exact absurd h hx
 .exact h
def lG(v:Go.Value)(m:Nat):Go.Value:=match v with
 |.slice (some a) _ _=>.pointer (some (a.add m))
 |v=>v
def zR(P:Program)(ops:Array Oper)(k:Nat)(st:St):Option (Option Tmp×D×Int×Nat):=match fR ops k st with
 |some o=>match o.op with
  |.indexAddr T x ix=>match cx st x,fJ st ix with
   |some v,some (_,j)=>if fy P T≠0 then some (o.dst,v,j,fy P T)else none
   |_,_=>none
  |_=>none
 |none=>none
def CQ(h:zR P ops i st=some (o',.raw s.1,j,n))(hH:st.H[oi]? =some (.cells [.own n xs]))(h0:0<=j)(h1:j.toNat<xs.length)
  (hk:K s (st.put o' (.d (.raw (lG s.1 (j.toNat * n)))))):iW P (CK oi di dd) (RK oi) ops i s st K:=by
 unfold zR at h
 split at h
 .rename_i o ho
  split at h
  .rename_i T x ix hop
   split at h
   .rename_i v ik j' hx hi
    split at h
    .rename_i hT
     simp only[g_2,g_8]at h
     obtain⟨rfl,rfl,rfl,rfl⟩:=h
     refine iW.val rE ho (λa w g hr hc=>?_) rfl hk
     obtain⟨kv,cv,Tv,-,-,-,-,-,hO⟩:=xc hr.hp hc hH
     obtain⟨km,off,cap,c,T0,us,e1,e2,e3,e4,e5,e6,e7,e8⟩:=hO.block (λe=>by subst e;simp at h1)
     obtain⟨e,he1,he2⟩:=oX hT
     have hrx:=cw hr hx
     have hev:a.eval x=s.1:=by
      generalize a.eval x=u at hrx
      cases hrx;rfl
     have hei:=jF hr hi
     have hpt:lG s.1 (j'.toNat * fy P T)=.pointer (some ⟨km,off+j'.toNat * fy P T,none⟩):=by rw[e1];simp only[lG,Addr.add_lit]
     refine⟨_,?_,(show Rd g w (lG s.1 (j'.toNat * fy P T)) (.raw (lG s.1 (j'.toNat * fy P T)))from .raw (by rw[hpt];rfl))⟩
     unfold execOp
     rw[hop]
     simp only[hev,hei,e1]
     rw[Sem.run_bind,nY he1 (by rw[<-he2];exact hT) h0 ω]
     rw[<-e1,hpt,he2]
     rfl
    .cases h
   .cases h
  .cases h
 .cases h
def zU(P:Program)(ops:Array Oper)(k:Nat)(st:St):Option (Option Tmp×D×Nat):=match fR ops k st with
 |some o=>match o.op with
  |.fieldAddr S x f=>match cx st x,wJ P S f with
   |some v,some fo=>some (o.dst,v,fo)
   |_,_=>none
  |_=>none
 |none=>none
def Fx{m:Nat}(h:zU P ops i st=some (o',.raw (lG s.1 m),fo))(hH:st.H[oi]? =some (.cells [.own n xs]))(hne:xs≠[])
  (hk:K s (st.put o' (.d (.raw (lG s.1 (m+fo)))))):iW P (CK oi di dd) (RK oi) ops i s st K:=by
 unfold zU at h
 split at h
 .rename_i o ho
  split at h
  .rename_i S x f hop
   split at h
   .rename_i v fo' hx hfo
    simp only[g_2,g_8]at h
    obtain⟨rfl,rfl,rfl⟩:=h
    refine iW.val rE ho (λa w g hr hc=>?_) rfl hk
    obtain⟨kv,cv,Tv,-,-,-,-,-,hO⟩:=xc hr.hp hc hH
    obtain⟨km,off,cap,c,T0,us,e1,-⟩:=hO.block hne
    have hrx:=cw hr hx
    have hev:a.eval x=lG s.1 m:=by
     generalize a.eval x=u at hrx
     cases hrx;rfl
    have hp: ∀m,lG s.1 m=.pointer (some ⟨km,off+m,none⟩):=λm=>by rw[e1];simp only[lG,Addr.add_lit]
    refine⟨_,?_,(show Rd g w (lG s.1 (m+fo')) (.raw (lG s.1 (m+fo')))from .raw (by rw[hp];rfl))⟩
    unfold execOp
    rw[hop]
    simp only[hev,hp]
    rw[Sem.run_bind,kA hfo]
    rw[Nat.add_assoc]
    rfl
   .cases h
  .cases h
 .cases h
def zl(ht:st.tmps[t]? =some (.d (.raw u)))(hp:s.2[p]? =some (u,some ks))(hn:st.tmps.all (rM oi)=true)(hH:st.H[oi]? =some (.cells [x]))
  (h:iW P (CK oi di dd) (RK oi) ops i (s.1,s.2.set p (u,none)) ⟨(st.set t (.own 1 (ks.map (D.int .i64)))).tmps,st.H⟩ K):iW P (CK oi di dd) (RK oi) ops i s st K:=by
 intro a w g hr hc N X hX
 let g':=g.br (kO oi (p+1) t)
 have hk: ∀o',o'≠.bN (.au oi (p+1))->aO o' g w g' w:=λo' h=>aO.br (od h)
 have hrel:Rel ⟨(st.set t (.own 1 (ks.map (D.int .i64)))).tmps,st.H⟩ a w g':=by
  refine bc hr (by simp[St.set,hr.len]) hr.dS (λ_ _ h=>h) (λt' sv hs=>?_) ⟨by simp[g',Gh.br,hr.hp.1],λi' o' hi'=>?_⟩
  .by_cases e:t=t'
   .subst e
    simp only[St.set]at hs
    rw[g_0 (aU ht)]at hs
    cases hs
    refine .inr (.inl ?_)
    have hv:Rd g w (valOf a t) (.raw u):=hr.tmp t _ ht
    have hv2:valOf a t=u:=by generalize valOf a t=z at hv;cases hv;rfl
    show cy g' w (.slot t) (valOf a t) 1 _
    rw[hv2]
    exact cy.br (od ψ) (by simp[kO]) (hc.2.1 p u ks hp)
   .simp only[St.set]at hs
    rw[g_1 e]at hs
    have hnh:rM oi sv=true:=h_4.1 hn sv (h_2.2 ⟨t',hs⟩)
    refine .inr (.inr ⟨hs,rfl,λo' ho'=>hk o' (λe2=>?_),λs0 e0=>⟨rfl,λy hy hb=>⟨y,?_,rfl⟩⟩⟩)
    .subst e2
     cases sv<;>simp[jQ]at ho'
     .subst ho';simp[rM]at hnh
     .subst ho';simp[rM]at hnh
    .have hne:t≠s0:=λe3=>by
      subst e3
      rw[ht]at hy
      cases hy
      simp[gl]at hb
     show((st.set t _).tmps)[s0]? =some y
     simp only[St.set]
     grind
  .simp only at hi'
   by_cases e:oi=i'
   .subst e
    rw[hH]at hi'
    cases hi'
    obtain⟨kv,c,T,f1,f2,f3,f4,f5⟩:=hr.hp.2 oi _ hH
    refine⟨kv,c,T,f1,by simp[g',Gh.br,f2,kO],f3,f4,λj sv hj=>?_⟩
    obtain⟨v,v1,v2,v3⟩:=f5 j sv hj
    have hj0:j=0:=by grind
    subst hj0
    exact⟨v,v1,v2.bg (hk _ ψ) (hk _ ψ) (λ_ _ h=>h),v3⟩
   .exact(hr.hp.2 i' o' hi').nO (hk _ ψ) (hk _ ψ) (λj=>hk _ (λe2=>by cases e2;exact e rfl)) (λ_ _ h=>h)
 have hfr:xg oi g w g' w:=⟨h_0 _,hk _ ψ,hk _ ψ,rfl,λj _=>hk _ ψ,λj c hj=>hk _ (λe=>by cases e;exact hj rfl),fK.refl _⟩
 have hC':CK oi di dd (s.1,s.2.set p (u,none)) g' w:=by
  obtain⟨⟨kv,c,T,fz,a1,a2,a3,a4,a5⟩,b,⟨k,c',T',fz',v,d1,d2,d3,d4,d5,d6⟩⟩:=hc
  refine⟨⟨kv,c,T,fz,a1,by simp[g',Gh.br,a2,kO],a3,a4,a5⟩,λp' u' ks' hp'=>?_,k,c',T',fz',v,d1,by simp[g',Gh.br,d2,kO],d3,d4,d5,d6.bg (hk _ ψ) (λ_ _ h=>h)⟩
  by_cases e:p=p'
  .grind
  .rw[g_1 e]at hp'
   exact(b p' u' ks' hp').bg (hk _ ψ) (hk _ χ) (λ_ _ h=>h)
 exact h a w g' hrel hC' N X λs' st' a' w' g2 q r c f=>hX s' st' a' w' g2 q r c (hfr.trans f)
end
section
variable {P:Program} {oi di:Nat} {dd:D} {s:Go.Value×KS} {ops:Array Oper} {i k d m:Nat} {st:St} {K:Go.Value×KS->St->Prop}
def J9(P:Program)(ops:Array Oper)(k:Nat)(st:St):Option (D×Nat×List D):=match fR ops k st with
 |some o=>match o.op with
  |.store T x (.tmp s)=>if(!(P.underlying T).isNone&&P.cellsOf T==1&&o.dst.isNone)=true then match cx st x,st.tmps[s]? with
   |some v,some (.own 1 xs)=>some (v,s,xs)
   |_,_=>none
   else none
  |_=>none
 |none=>none
def Ia(h:J9 P ops i st=some (.raw (lG s.1 (p * n+q)),s0,ks.map (D.int .i64)))(hH:st.H[oi]? =some (.cells [.own n xs]))(hp:xs[p]? =some (.agg cs))(hq:q<cs.length)(hn:st.tmps.all (rM oi)=true)
  (hk: ∀u',K (s.1,s.2.set p (u',some ks)) ⟨(st.take s0).tmps,st.H.set oi (.cells [.own n (xs.set p (.agg (cs.set q (.raw u'))))])⟩):iW P (CK oi di dd) (RK oi) ops i s st K:=by
 unfold J9 at h
 split at h
 .rename_i o ho
  split at h
  .rename_i T x s1 hop
   split at h
   .rename_i hT
    simp only[g_3,k_4,beq_iff_eq,m_2]at hT
    split at h
    .rename_i v ys hx hs
     simp only[g_2,g_8]at h
     obtain⟨rfl,rfl,rfl⟩:=h
     obtain⟨h1,h2⟩:=bo ho
     intro a w g hr hc N R' hN
     have hc0:=hc
     obtain⟨kv,cv,Tv,m1,m2,m3,m4,m5,hO⟩:=xc hr.hp hc hH
     obtain⟨km,off,cap,c,T0,us,e1,e2,e3,e4,e5,e6,e7,e8⟩:=hO.block (λe=>by subst e;simp at hp)
     have hcl:cs.length=n:=e6 p _ hp
     have hpl:p<xs.length:=aU hp
     have hrx:=cw hr hx
     have hev:a.eval x=.pointer (some ⟨km,off+(p * n+q),none⟩):=by
      generalize a.eval x=z at hrx
      cases hrx
      rw[e1];simp only[lG,Addr.add_lit]
     have hown:cy g w (.slot s1) (valOf a s1) 1 (ks.map (D.int .i64)):=hr.tmp s1 _ hs
     obtain⟨sa,sl,sc,hv⟩:=hown.slice
     have hevs:a.eval (.tmp s1)=.slice sa sl sc:=hv
     have hpn:p * n+n<=xs.length * n:=by
      have:=h_7 n (show p+1<=xs.length by omega)
      grind
     have hcap:xs.length * n<=cap * n:=h_7 n e4
     have hin:off+(p * n+q)+0+1<=c.size:=by omega
     obtain⟨w',r1,r2,r3,c',r4,r5,r6⟩:=cm (P:=P) km (off+(p * n+q)) T0 [.slice sa sl sc] 0 c w e3 (by simpa using hin) (by simp[Value.oneCell'])
     have hos:=cK (P:=P) km (off+(p * n+q)) T0 [.slice sa sl sc] 0 c w w' e3 (by simpa using hin) (by simp[Value.oneCell']) r1
     let g':=g.br (ig oi (p+1) s1)
     have hkp: ∀o',o'≠.bN (.slot s1)->o'≠.bN (.au oi 0)->aO o' g w g' w':=λo' h1 h2=>(aO.block e2 h2 r3).trans (aO.br (oA h1))
     have hfr:xg oi g w g' w':=⟨by rw[r2];exact h_0 _,hkp _ ψ ψ,hkp _ ψ ψ,rfl,λj _=>hkp _ ψ ψ,λj c hj=>hkp _ ψ (λe=>by cases e;exact hj rfl),hos⟩
     have hslot:cy g' w' (.au oi (p+1)) (valOf a s1) 1 (ks.map (D.int .i64)):=by
      have h1:cy g' w (.au oi (p+1)) (valOf a s1) 1 (ks.map (D.int .i64)):=cy.br (oA ψ) (by simp[ig]) hown
      have hne: ∀{k0:Nat},g'.ow k0=.free\/g'.ow k0=.bN (.au oi (p+1))->k0≠km:=λhk0 e=>by
       subst e;simp[g',Gh.br,e2,ig]at hk0
      refine cy.bg (λk0 b hk0 hb0=>⟨hk0,?_⟩) (λk0 b hk0 hb0=>⟨hk0,?_⟩) (λ_ _ h=>h) h1
      .grind
      grind
     have hmain:cy g' w' (.au oi 0) s.1 n (xs.set p (.agg (cs.set q (.raw (valOf a s1))))):=by
      refine .inr ⟨km,off,cap,c',T0,λi j=>if i=p/\j=q then valOf a s1 else us i j,by rw[e1];simp,by simp[g',Gh.br,e2,ig],r4,by simpa using e4,by rw[r5];exact e5,λi y hy=>?_,λi y hy j z hz=>?_,λi y hy j z hz=>?_⟩
      .by_cases hi:p=i
       .subst hi
        rw[g_0 hpl]at hy
        cases hy
        simpa[D.cells]using hcl
       grind
      .have hjn:j<n:=by
        by_cases hi:p=i
        .subst hi
         rw[g_0 hpl]at hy
         cases hy
         have:=aU hz
         simp only[D.cells,k_6]at this
         omega
        grind
       have hil:i<xs.length:=by have:=aU hy;simpa using this
       rw[r6]
       dsimp only
       by_cases hij:i=p/\j=q
       .rw[if_pos hij,if_pos φ]
        rw[show off+i * n+j - (off+(p * n+q)+0)=0 by rw[hij.1,hij.2];omega,hv]
        exact⟨rfl,rfl⟩
       .have hne: ¬(off+(p * n+q)+0<=off+i * n+j/\off+i * n+j<off+(p * n+q)+0+1):=by
         intro hh
         have hEq:i * n+j=p * n+q:=by omega
         have hqn:q<n:=by omega
         have h1:(i * n+j) / n=i:=by rw[Nat.mul_comm,Nat.mul_add_div ω];simp[Nat.div_eq_of_lt hjn]
         have h2:(p * n+q) / n=p:=by rw[Nat.mul_comm,Nat.mul_add_div ω];simp[Nat.div_eq_of_lt hqn]
         grind
        rw[if_neg (by simpa using hne),if_neg hij]
        by_cases hi:p=i
        .grind
        grind
      .have kp: ∀{v:Go.Value} {d:D},Rd g w v d->Rd g' w' v d:=λh=>h.bg (hkp _ ψ ψ) (λ_ _ h=>h)
       dsimp only
       by_cases hi:p=i
       .subst hi
        rw[g_0 hpl]at hy
        cases hy
        simp only[D.cells]at hz
        by_cases hj:j=q
        .subst hj
         rw[g_0 hq]at hz
         cases hz
         rw[if_pos ⟨rfl,rfl⟩]
         exact .raw (by rw[hv];rfl)
        .rw[g_1 (λe=>hj e.symm)]at hz
         rw[if_neg (λe=>hj e.2)]
         exact kp (e8 p _ hp j z hz)
       grind
     have hkvm:kv≠km:=λe=>by subst e;rw[m2]at e2;cases e2
     have hrel:Rel ⟨(st.take s1).tmps,st.H.set oi (.cells [.own n (xs.set p (.agg (cs.set q (.raw (valOf a s1)))))])⟩ (a.put o.dst undef) w' g':=by
      rw[hT.2]
      refine bc hr (by simp only[Act.put,gF];exact hr.len) hr.dS (λ_ _ h=>h) (λt sv hts=>?_) ⟨by simp[g',Gh.br,hr.hp.1],λi' o' hi'=>?_⟩
      .rcases cJ hts with h|⟨h1,h2,h3⟩
       .exact .inl h
       .have hnh:rM oi sv=true:=h_4.1 hn sv (h_2.2 ⟨t,h1⟩)
        refine .inr (.inr ⟨h1,rfl,λo' ho'=>hkp o' (λe2=>?_) (λe2=>?_),λs0 e0=>⟨rfl,λy hy hb=>⟨y,?_,rfl⟩⟩⟩)
        .subst e2
         rcases pT ho' with h|h
         .exact h2 h.symm
         .rw[h3]at h;cases h
        .subst e2
         cases sv<;>simp[jQ]at ho'
         .subst ho';simp[rM]at hnh
         .subst ho';simp[rM]at hnh
        .have hne:s0≠s1:=λe2=>by rw[e2]at e0;rw[cH e0]at h3;cases h3
         show((st.kill s1).set s1 .undef).tmps[s0]? =some y
         simp only[St.set,g_1 (j_6 hne)]
         simp[St.kill,hy,eQ hb]
      .simp only at hi'
       by_cases e:oi=i'
       .subst e
        rw[g_0 (aU hH)]at hi'
        cases hi'
        refine⟨kv,cv,Tv,m1,by simp[g',Gh.br,m2,ig],by rw[r3 kv hkvm];exact m3,by simp[m4],λj sv hj=>?_⟩
        cases j with
        |zero=>
         cases hj
         exact⟨s.1,m5,hmain,by rw[e1];rfl⟩
        |succ j=>simp at hj
       .rw[g_1 e]at hi'
        exact(hr.hp.2 i' o' hi').nO (hkp _ ψ ψ) (hkp _ ψ ψ) (λj=>hkp _ ψ (λe2=>by cases e2;exact e rfl)) (λ_ _ h=>h)
     have hC':CK oi di dd (s.1,s.2.set p (valOf a s1,some ks)) g' w':=by
      obtain⟨⟨kv',c0,T1,fz,a1,a2,a3,a4,a5⟩,b,⟨k,c1,T2,fz',v',d1,d2,d3,d4,d5,d6⟩⟩:=hc0
      refine⟨⟨kv',c0,T1,fz,a1,(hkp _ ψ ψ kv' _ a2 a3).1,(hkp _ ψ ψ kv' _ a2 a3).2,a4,a5⟩,λp' u' ks' hp'=>?_,k,c1,T2,fz',v',d1,(hkp _ ψ ψ k _ d2 d3).1,(hkp _ ψ ψ k _ d2 d3).2,d4,d5,d6.bg (hkp _ ψ ψ) (λ_ _ h=>h)⟩
      by_cases e:p=p'
      .grind
      .simp only at hp'
       rw[g_1 e]at hp'
       exact(b p' u' ks' hp').bg (hkp _ ψ ψ) (hkp _ ψ ψ) (λ_ _ h=>h)
     unfold wpOpIn
     rw[h1]
     simp only[bt hr h2,if_true]
     refine⟨λf _=>trivial,?_⟩
     have hex:(execOp a.eval o).run P w=.ok .skip w':=by
      unfold execOp;rw[hop]
      simp only[Instr.storeAt,Sem.run_bind,hev,Instr.sureAddr,Sem.run_pure,Result.andThen_ok,storeVar,gA hT.1.1]
      rw[hevs]
      simp only[Value.cells]
      simp[hT.1.2,r1]
     show Oper.uponIn _ _ _ _ _ _ _ ((execOp a.eval o).run P w)
     rw[hex]
     simp only[Oper.uponIn]
     exact hN _ _ _ w' g' (hk _) hrel hC' hfr
    .cases h
   .cases h
  .cases h
 .cases h
end
section
variable {P:Program} {oi di:Nat} {dd:D} {s:Go.Value×KS} {ops:Array Oper} {i k d m:Nat} {st:St} {K:Go.Value×KS->St->Prop}
def HX(h:No P ops i st=some (t,oi,0,H0))(hH:st.H[oi]? =some (.cells [.own n xs]))(hk:K s ⟨(st.put (some t) (.own n xs)).tmps,st.H.set oi (.cells [.undef])⟩):
  iW P (CK oi di dd) (RK oi) ops i s st K:=by
 unfold No at h
 split at h
 .rename_i o ho
  split at h
  .rename_i T x hop
   split at h
   .rename_i hc
    simp only[g_3,k_4]at hc
    split at h
    .rename_i d' i' off' hd hp
     simp only[g_2,g_8]at h
     obtain⟨rfl,rfl,rfl,rfl⟩:=h
     obtain⟨h1,h2⟩:=bo ho
     intro a w g hr hC N R' hN
     obtain⟨u,g',e1,e2,e3,e4⟩:=Am hop hd hp hc.1.1 hc.1.2 hH (cs:=[.own n xs]) (off:=0) rfl hc.2 hr
     have hfr:xg i' g w g' w:=⟨h_0 _,e3 _ ψ,e3 _ ψ,e4,λj _=>e3 _ ψ,λj c hj=>e3 _ (λe=>by cases e;exact hj rfl),fK.refl _⟩
     have hC':=hC.bg (e3 _ ψ) (e3 _ ψ) (e3 _ ψ) (λc=>e3 _ ψ) e4
     unfold wpOpIn
     rw[h1]
     simp only[bt hr h2,if_true]
     refine⟨λf _=>trivial,?_⟩
     show Oper.uponIn _ _ _ _ _ _ _ ((execOp a.eval o).run P w)
     rw[e1]
     simp only[Oper.uponIn]
     exact hN s _ _ w g' hk e2 hC' hfr
    .cases h
   .cases h
  .cases h
 .cases h
def HZ(h:Oi P ops i st=some (t,oi,0,n,xs++[.agg cs],H0))(hH:st.H[oi]? =some (.cells [.undef]))(hq:cs[q]? =some .cG)(hl:s.2.length=xs.length)
  (hk: ∀v' u',K (v',s.2++[(u',some [])]) ⟨(st.take t).tmps,st.H.set oi (.cells [.own n (xs++[.agg (cs.set q (.raw u'))])])⟩):iW P (CK oi di dd) (RK oi) ops i s st K:=by
 unfold Oi at h
 split at h
 .rename_i o ho
  split at h
  .rename_i T x s' hop
   split at h
   .rename_i hc
    simp only[g_3,k_4,beq_iff_eq,m_2]at hc
    split at h
    .rename_i i' off' n1 ys hp hs
     simp only[g_2,g_8]at h
     obtain⟨rfl,rfl,rfl,rfl,rfl,rfl⟩:=h
     obtain⟨h1,h2⟩:=bo ho
     intro a w g hr hC N R' hN
     have hv0:cy g w (.slot s') (valOf a s') n1 (xs++[.agg cs]):=hr.tmp s' _ hs
     obtain⟨sa,sl,sc,hv⟩:=hv0.slice
     obtain⟨w',g',e1,e2,e3,e4,e5,e6,kv,cv,Tv,fz,m1,m2,m3,m4⟩:=Bz hop hc.2 hp hs hc.1.1.1 hc.1.1.2 hH (cs:=[.undef]) (off:=0) ψ hc.1.2 hr
     have hfr:xg i' g w g' w':=⟨by rw[e5];exact h_0 _,e3 _ ψ ψ,e3 _ ψ ψ,e4,λj hj=>e3 _ ψ (by simpa using hj),λj c hj=>e3 _ ψ ψ,e6⟩
     have vm:([SV.undef].set 0 (.own n1 (xs++[.agg cs])):List SV)=[.own n1 (xs++[.agg cs])]:=rfl
     rw[vm]at e2
     have hH2:(st.H.set i' (.cells [.own n1 (xs++[.agg cs])]))[i']? =some (.cells [.own n1 (xs++[.agg cs])]):=g_0 (aU hH)
     obtain⟨kv',cv',Tv',b1,b2,b3,b4,b5⟩:=e2.hp.2 i' _ hH2
     rw[m1]at b1
     cases b1
     rw[m3]at b3
     cases b3
     obtain⟨u,u1,u2,u3⟩:=b5 0 _ rfl
     rw[m4]at u1
     cases u1
     have hO:cy g' w' (.au i' 0) (valOf a s') n1 (xs++[.agg cs]):=u2
     obtain⟨km,off,cap,c,T0,us,f1,f2,f3,f4,f5,f6,f7,f8⟩:=hO.block ψ
     have hlast:(xs++[D.agg cs])[xs.length]? =some (.agg cs):=by simp
     have hnil:Rd g' w' (us xs.length q) .cG:=f8 _ _ hlast q _ hq
     obtain⟨ua,hua⟩:=hnil.jA
     let u':=us xs.length q
     have hO':cy g' w' (.au i' 0) (valOf a s') n1 (xs++[.agg (cs.set q (.raw u'))]):=by
      have hsplit: ∀i y,(xs++[D.agg (cs.set q (.raw u'))])[i]? =some y->(i<xs.length/\(xs++[D.agg cs])[i]? =some y)\/(i=xs.length/\y=.agg (cs.set q (.raw u'))):=λi y hy=>by
       by_cases hi:i<xs.length
       .grind
       .have hlt:=aU hy
        grind
      refine .inr ⟨km,off,cap,c,T0,us,by rw[f1];simp,f2,f3,by simpa using f4,f5,λi y hy=>?_,λi y hy j z hz=>?_,λi y hy j z hz=>?_⟩
      .rcases hsplit i y hy with⟨_,h⟩|⟨rfl,rfl⟩
       .exact f6 i y h
       .have:=f6 _ _ hlast
        simpa[D.cells]using this
      .rcases hsplit i y hy with⟨_,h⟩|⟨rfl,rfl⟩
       .exact f7 i y h j z hz
       .simp only[D.cells]at hz
        by_cases hj:q=j
        .subst hj
         exact f7 _ _ hlast q _ hq
        .rw[g_1 hj]at hz
         exact f7 _ _ hlast j z hz
      .rcases hsplit i y hy with⟨_,h⟩|⟨rfl,rfl⟩
       .exact f8 i y h j z hz
       .simp only[D.cells]at hz
        by_cases hj:q=j
        .subst hj
         rw[g_0 (aU hq)]at hz
         cases hz
         exact .raw (f7 _ _ hlast q _ hq).2
        .rw[g_1 hj]at hz
         exact f8 _ _ hlast j z hz
     have hrel:Rel ⟨(st.take s').tmps,st.H.set i' (.cells [.own n1 (xs++[.agg (cs.set q (.raw u'))])])⟩ (a.put o.dst undef) w' g':=by
      refine⟨e2.len,e2.dS,e2.tmp,by have:=e2.hp.1;simpa using this,λj o' hj=>?_⟩
      by_cases e:i'=j
      .subst e
       simp only at hj
       rw[g_0 (aU hH)]at hj
       cases hj
       refine⟨kv,cv,_,m1,m2,m3,by simpa using b4,λj sv hj=>?_⟩
       cases j with
       |zero=>cases hj;exact⟨valOf a s',m4,hO',u3⟩
       |succ j=>simp at hj
      .simp only at hj
       rw[g_1 e]at hj
       exact e2.hp.2 j o' φ
     have hkr:eB g g':=λj k hj=>by rw[e4];exact hj
     have hC':CK i' di dd (valOf a s',s.2++[(u',some [])]) g' w':=by
      obtain⟨-,b,⟨k,c1,T2,fz',v',d1,d2,d3,d4,d5,d6⟩⟩:=hC
      obtain⟨x1,x2⟩:=e3 .out ψ ψ k _ d2 d3
      refine⟨⟨kv,cv,_,_,m1,m2,m3,m4,by rw[hv];rfl⟩,λp u2 ks hp2=>?_,k,c1,T2,fz',v',hkr _ _ d1,x1,x2,d4,d5,d6.bg (e3 _ ψ ψ) hkr⟩
      simp only at hp2
      by_cases hlt:p<s.2.length
      .rw[h_6 hlt]at hp2
       exact(b p u2 ks hp2).bg (e3 _ ψ ψ) (e3 _ ψ ψ) hkr
      .rw[h_5 ω]at hp2
       cases hpp:p - s.2.length with
       |zero=>
        rw[hpp]at hp2
        cases hp2
        exact .inl ⟨rfl,ua,hua⟩
       |succ z=>rw[hpp]at hp2;simp at hp2
     unfold wpOpIn
     rw[h1]
     simp only[bt hr h2,if_true]
     refine⟨λf _=>trivial,?_⟩
     show Oper.uponIn _ _ _ _ _ _ _ ((execOp a.eval o).run P w)
     rw[e1]
     simp only[Oper.uponIn]
     exact hN _ _ _ w' g' (hk _ _) hrel hC' hfr
    .cases h
   .cases h
  .cases h
 .cases h
end
def tB(s off d:Nat):Own->Own:=λo=>if o=.bN (.cell s off)then .bN (.slot d)else o
def An(h:o≠.bN (.cell s off)):tB s off d o=o:=by simp[tB,h]
def zB(s off:Nat):SV->Bool
 |.cq (.cell t j) _ _|.eW (.cell t j) _=>!(t==s&&j==off)
 |_=>true
section
variable {P:Program} {pu:Bool} {st:St} {ops:Array Oper} {k:Nat} {Q:St->Prop}
def JO(hop:o.op=.load T x)(hd:o.dst=some d)(hx:rI st x=some (s,off))(hu:(P.underlying T).isNone=false)(ha:fI P T=false)
  (hs:st.tmps[s]? =some (.box cs)) (hc:cs[off]? =some (.own n xs)) (hdu:st.tmps[d]? =some .undef) (hn:st.tmps.all (zB s off)=true):jO P pu st o ((st.set s (.box (cs.set off .undef))).set d (.own n xs)):=by
 refine jO.value λa w g hr=>?_
 obtain⟨cs',k,e0,e1,e2⟩:=lB hr hx
 rw[hs]at e0
 cases e0
 obtain⟨k',c,T0,f1,f2,f3,f4,f5⟩:=hr.tmp s _ hs
 rw[e1]at f1
 cases f1
 obtain⟨u,u1,u2,u3⟩:=f5 off _ hc
 have hds:d≠s:=λe=>by subst e;rw[hs]at hdu;cases hdu
 have hk: ∀o',o'≠.bN (.cell s off)->aO o' g w (g.br (tB s off d)) w:=λo' h=>aO.br (An h)
 refine⟨u,w,g.br (tB s off d),?_,?_,⟨h_0 _,hk _ ψ,hk _ ψ,λ_ _ h=>h,λ_ i=>hk _ ψ,λ_ i j=>hk _ ψ,λ_=>rfl,⟨rfl,rfl⟩⟩⟩
 .unfold execOp
  rw[hop]
  simp only[Instr.loadAt,e2,Instr.sureAddr,Sem.run_bind,Sem.run_pure,Result.andThen_ok,eh hu ha f3 (by simpa using u1)]
 .rw[hd]
  refine bc hr (by rw[eb];simp only[St.set,k_6];exact hr.len) (by rw[put_defers];exact hr.dS) (λ_ _ h=>h) (λt sv hts=>?_) (hr.hp.bg (λo' ho'=>hk o' (λe=>by subst e;exact ho')) (λ_ _ h=>h) rfl)
  by_cases e:d=t
  .subst e
   simp only[St.set]at hts
   rw[g_0 (by simpa using aU hdu)]at hts
   cases hts
   refine .inr (.inl ?_)
   rw[bW (by rw[hr.len];exact aU hdu)]
   exact cy.br (An ψ) (by simp[tB]) u2
  .simp only[St.set]at hts
   rw[g_1 e]at hts
   have hdt:(some d:Option Nat)≠some t:=by simpa using e
   by_cases es:s=t
   .subst es
    rw[g_0 (aU hs)]at hts
    cases hts
    refine .inr (.inl ?_)
    rw[cr hdt]
    refine⟨k,c,T0,e1,by simp[Gh.br,f2,tB],f3,by simpa using f4,λj s' hj=>?_⟩
    by_cases ej:off=j
    .subst ej
     rw[g_0 (aU hc)]at hj
     cases hj
     exact⟨u,u1,trivial,u3⟩
    .rw[g_1 ej]at hj
     obtain⟨v,v1,v2,v3⟩:=f5 j s' hj
     exact⟨v,v1,v2.bg (hk _ ψ) (hk _ χ) (λ_ _ h=>h),v3⟩
   .rw[g_1 es]at hts
    have hnc:zB s off sv=true:=h_4.1 hn sv (h_2.2 ⟨t,hts⟩)
    refine .inr (.inr ⟨hts,cr hdt,λo' ho'=>hk o' (λe2=>?_),λs0 e0=>?_⟩)
    .subst e2
     cases sv<;>simp[jQ]at ho'
     .subst ho';simp[zB]at hnc
     .subst ho';simp[zB]at hnc
     .exact es ho'
    .have hd0:(some d:Option Nat)≠some s0:=λe2=>by
      cases e2
      obtain⟨x0,hx0,hb0⟩:=kM (hr.tmp t _ hts) e0
      rw[hdu]at hx0
      cases hx0
      simp[gl]at hb0
     refine⟨cr hd0,λy hy hb=>?_⟩
     have hd1:d≠s0:=λe=>hd0 (by rw[e])
     by_cases e3:s=s0
     .subst e3
      rw[hs]at hy
      cases hy
      exact⟨.box (cs.set off .undef),by simp only[St.set];grind,rfl⟩
     .exact⟨y,by simp only[St.set];grind,rfl⟩
def Ri(P:Program)(ops:Array Oper)(k:Nat)(st:St):Option St:=
 match fR ops k st with
 |some o=>match o.op with
  |.load T x=>match o.dst,rI st x with
   |some d,some (s,off)=>match st.tmps[s]?,st.tmps[d]? with
    |some (.box cs),some .undef=>match cs[off]? with
     |some (.own n xs)=>if(!(P.underlying T).isNone&&!fI P T&&st.tmps.all (zB s off))=true then some ((st.set s (.box (cs.set off .undef))).set d (.own n xs))else none
     |_=>none
    |_,_=>none
   |_,_=>none
  |_=>none
 |none=>none
def w5(n:Nat)(H:List aN)(L:List Nat)(l:List (Nat×SV))(h:(Ri P ops k st).bind (bu n L)=some (l,H))(hn:cf P pu ops (k+1) (sp n l H) Q):cf P pu ops k st Q:=by
 simp only[g_9]at h
 obtain⟨jh,h,cR⟩:=h
 unfold Ri at h
 split at h
 .rename_i o ho
  split at h
  .rename_i T x hop
   split at h
   .rename_i d s off hd hx
    split at h
    .rename_i cs hs hdu
     split at h
     .rename_i n' xs hc
      split at h
      .rename_i hT
       cases h
       simp only[g_3,k_4]at hT
       obtain⟨g1,g2⟩:=bo ho
       exact pO g1 g2 (JO hop hd hx hT.1.1 hT.1.2 hs hc hdu hT.2) (da L (aL cR) hn)
      .cases h
     .cases h
    .cases h
   .cases h
  .cases h
 .cases h
end
section
variable {P:Program} {st:St} {Q:Exit->St->Prop}
def NP(st:St)(t j n:Nat):Option St:=match st.tmps[t]? with
 |some (.box cs)=>match cs[j]? with
  |some (.d .cG)=>some (st.set t (.box (cs.set j (.own n []))))
  |_=>none
 |_=>none
def Rel.NP(hr:Rel st a w g)(h:Sh.NP st t j n=some st'):Rel st' a w g:=by
 unfold Sh.NP at h
 split at h
 .rename_i cs ht
  split at h
  .rename_i hc
   cases h
   refine bc hr (by simp[St.set,hr.len]) hr.dS (λ_ _ h=>h) (λt' s hs=>?_) hr.hp
   by_cases e:t=t'
   .subst e
    simp only[St.set]at hs
    rw[g_0 (aU ht)]at hs
    cases hs
    refine .inr (.inl ?_)
    obtain⟨k,c,T,f1,f2,f3,f4,f5⟩:=(show RS g w st.tmps (valOf a) t (valOf a t) (.box cs)from hr.tmp t _ ht)
    refine⟨k,c,T,f1,f2,f3,by simp[f4],λj' s' hj=>?_⟩
    by_cases ej:j=j'
    .subst ej
     rw[g_0 (aU hc)]at hj
     cases hj
     obtain⟨u,u1,u2,u3⟩:=f5 j _ hc
     obtain⟨a0,rfl⟩:=Rd.jA (show Rd g w u .cG from u2)
     exact⟨_,u1,.inl ⟨rfl,a0,rfl⟩,u3⟩
    grind
   .simp only[St.set]at hs
    rw[g_1 e]at hs
    refine .inr (.inr ⟨hs,rfl,λo' _=>aO.refl _ _ _,λs0 e0=>⟨rfl,λx hx hb=>?_⟩⟩)
    by_cases e3:t=s0
    .subst e3
     rw[ht]at hx
     cases hx
     exact⟨.box (cs.set j (.own n [])),by simp only[St.set];grind,rfl⟩
    .exact⟨x,by simp only[St.set];grind,rfl⟩
  .cases h
 .cases h
def Pf(t j n' n:Nat)(H:List aN)(L:List Nat)(l:List (Nat×SV))(cR:(Sh.NP st t j n').bind (bu n L)=some (l,H)){pu:Bool}(h:SW P pu c (sp n l H) Q):SW P pu c st Q:=by
 simp only[g_9]at cR
 obtain⟨jh,h1,h2⟩:=cR
 exactλa w g hr=>h a w g ((hr.NP h1).bC (aL h2))
def n8(s off s0:Nat):Own->Own:=λo=>if o=.bN (.slot s0)then .bN (.cell s off)else o
def BA(h:o≠.bN (.slot s0)):n8 s off s0 o=o:=by simp[n8,h]
def JR{pu:Bool}(hop:o.op=.store T x (.tmp s0))(hd:o.dst=none)(hx:rI st x=some (s,off))(hs0:st.tmps[s0]? =some (.own n xs))(hu:(P.underlying T).isNone=false)(hsz:P.cellsOf T=1)
  (hs:st.tmps[s]? =some (.box cs)) (hlt:off<cs.length) (hn:st.tmps.all (zB s off)=true):jO P pu st o ((st.take s0).set s (.box (cs.set off (.own n xs)))):=by
 refine jO.skip λa w g hr=>?_
 obtain⟨cs',k,e0,e1,e3⟩:=lB hr hx
 rw[hs]at e0
 cases e0
 obtain⟨k',c,T0,f1,f2,f3,f4,f5⟩:=hr.tmp s _ hs
 rw[e1]at f1
 cases f1
 have hss:s0≠s:=λe=>by subst e;rw[hs]at hs0;cases hs0
 have ho:cy g w (.slot s0) (valOf a s0) n xs:=hr.tmp s0 _ hs0
 obtain⟨sa,sl,sc,hv⟩:=ho.slice
 have hev:a.eval (.tmp s0)=.slice sa sl sc:=hv
 obtain⟨w',r1,r2,r3,c',r4,r5,r6⟩:=cm (P:=P) k off T0 [.slice sa sl sc] 0 c w f3 χ (by simp[Value.oneCell'])
 have hos:=cK (P:=P) k off T0 [.slice sa sl sc] 0 c w w' f3 χ (by simp[Value.oneCell']) r1
 have hk: ∀o',o'≠.bN (.slot s0)->o'≠.box s->aO o' g w (g.br (n8 s off s0)) w':=λo' h1 h2=>(aO.block f2 h2 r3).trans (aO.br (BA h1))
 refine⟨w',g.br (n8 s off s0),?_,?_,⟨by rw[r2];exact h_0 _,hk _ ψ ψ,hk _ ψ ψ,λ_ _ h=>h,λ_ i=>hk _ ψ ψ,λ_ i j=>hk _ ψ ψ,λ_=>rfl,hos⟩⟩
 .unfold execOp;rw[hop]
  simp only[Instr.storeAt,Sem.run_bind,e3,Instr.sureAddr,Sem.run_pure,Result.andThen_ok,storeVar,gA hu]
  rw[hev]
  simp only[Value.cells]
  simp[hsz,r1]
 .rw[hd]
  refine bc hr (by simp only[Act.put,St.set,k_6,gF];exact hr.len) hr.dS (λ_ _ h=>h) (λt sv hts=>?_) (hr.hp.bg (λo' ho'=>hk o' (λe=>by subst e;exact ho') (λe=>by subst e;exact ho')) (λ_ _ h=>h) rfl)
  simp only[St.set]at hts
  by_cases es:s=t
  .subst es
   rw[g_0 (by simpa using aU hs)]at hts
   cases hts
   refine .inr (.inl ⟨k,c',T0,e1,by simp[Gh.br,f2,n8],r4,by simp[r5,f4],λj s' hj=>?_⟩)
   by_cases ej:off=j
   .subst ej
    rw[g_0 hlt]at hj
    cases hj
    refine⟨.slice sa sl sc,by rw[r6,if_pos ψ];simp,?_,rfl⟩
    rw[<-hv]
    have h1:cy (g.br (n8 s off s0)) w (.cell s off) (valOf a s0) n xs:=cy.br (BA ψ) (by simp[n8]) ho
    refine cy.bg (λk0 b hk0 hb0=>⟨hk0,?_⟩) (λk0 b hk0 hb0=>⟨hk0,?_⟩) (λ_ _ h=>h) h1
    .rw[r3 k0 (λe=>?_)];·exact hb0
     subst e;simp[Gh.br,f2,n8]at hk0
    .rw[r3 k0 (λe=>?_)];·exact hb0
     subst e;simp[Gh.br,f2,n8]at hk0
   .rw[g_1 ej]at hj
    obtain⟨v,v1,v2,v3⟩:=f5 j s' hj
    exact⟨v,φ,v2.bg (hk _ ψ ψ) (hk _ ψ ψ) (λ_ _ h=>h),v3⟩
  .rw[g_1 es]at hts
   rcases cJ hts with h|⟨h1,h2,h3⟩
   .exact .inl h
   .have hnc:zB s off sv=true:=h_4.1 hn sv (h_2.2 ⟨t,h1⟩)
    refine .inr (.inr ⟨h1,rfl,λo' ho'=>hk o' (λe2=>?_) (λe2=>?_),λs1 e0=>⟨rfl,λy hy hb=>?_⟩⟩)
    .subst e2
     rcases pT ho' with h|h
     .exact h2 h.symm
     .rw[h3]at h;cases h
    .subst e2
     cases sv<;>simp[jQ]at ho'
     exact es ho'
    .have hne:s1≠s0:=λe2=>by rw[e2]at e0;rw[cH e0]at h3;cases h3
     by_cases e3:s=s1
     .subst e3
      rw[hs]at hy
      cases hy
      exact⟨.box (cs.set off (.own n xs)),by simp only[St.set];rw[g_0 (by simpa using aU hs)],rfl⟩
     .refine⟨y,?_,rfl⟩
      simp only[St.set]
      rw[g_1 e3]
      show((st.kill s0).set s0 .undef).tmps[s1]? =some y
      simp only[St.set,g_1 (j_6 hne)]
      simp[St.kill,hy,eQ hb]
def RA(P:Program)(ops:Array Oper)(k:Nat)(st:St):Option St:=
 match fR ops k st with
 |some o=>match o.op with
  |.store T x (.tmp s0)=>match rI st x,st.tmps[s0]? with
   |some (s,off),some (.own n xs)=>match st.tmps[s]? with
    |some (.box cs)=>if(!(P.underlying T).isNone&&P.cellsOf T==1&&o.dst.isNone&&decide (off<cs.length)&&st.tmps.all (zB s off))=true then some ((st.take s0).set s (.box (cs.set off (.own n xs))))else none
    |_=>none
   |_,_=>none
  |_=>none
 |none=>none
def Pr{pu:Bool}{ops:Array Oper}{k:Nat}{Q:St->Prop}(n:Nat)(H:List aN)(L:List Nat)(l:List (Nat×SV))(h:(RA P ops k st).bind (bu n L)=some (l,H))(hn:cf P pu ops (k+1) (sp n l H) Q):cf P pu ops k st Q:=by
 simp only[g_9]at h
 obtain⟨jh,h,cR⟩:=h
 unfold RA at h
 split at h
 .rename_i o ho
  split at h
  .rename_i T x s0 hop
   split at h
   .rename_i s off n' xs hx hs0
    split at h
    .rename_i cs hs
     split at h
     .rename_i hT
      cases h
      simp only[g_3,k_4,beq_iff_eq,m_2,decide_eq_true_eq]at hT
      obtain⟨g1,g2⟩:=bo ho
      exact pO g1 g2 (JR hop hT.1.1.2 hx hs0 hT.1.1.1.1 hT.1.1.1.2 hs hT.1.2 hT.2) (da L (aL cR) hn)
     .cases h
    .cases h
   .cases h
  .cases h
 .cases h
end
section
variable {σ:Type} {P:Program} {pu:Bool} {C:σ->Gh->World->Prop} {R:σ->Gh->World->σ->Gh->World->Prop} {s:σ} {st:St} {Q:σ->Exit->St->Prop} {ops:Array Oper} {d m i k:Nat} {K:σ->St->Prop}
def Pm(hC:GC pu C R){γ β:Type}{body:γ->Option (γ⊕β)}(I:γ->σ->St->Prop)(E:β->σ->Exit->St->Prop){x:γ}{q:β}(hit:Sh.iter body fuel x=some q)(h0:I x s st)
  (round: ∀x o s st,I x s st->body x=some o->rq P C R s c st (FR (λs' st'=> ∃y,o=.inl y/\ ∃n L ll H,bu n L st'=some (ll,H)/\I y s' (sp n ll H)) (λs' e st'=> ∃q,o=.inr q/\E q s' e st')))
  (after: ∀s' e st',E q s' e st'->Q s' e st'):rq P C R s (.loop c) st Q:=by
 intro a w g hr hc
 refine qJ (γ:=γ) body (λx a' w'=> ∃s' st' g',I x s' st'/\Rel st' a' w' g'/\C s' g' w'/\R s g w s' g' w') q (λx a1 w1 ⟨s1,jh,g1,hI1,r1,c1,f1⟩ o ho=>?_) fuel x a w ⟨s,st,g,h0,hr,hc,hC.refl⟩ hit
 refine Code.wp_mono (λe a' w' hh=>?_) (round x o s1 jh hI1 ho a1 w1 g1 r1 c1)
 obtain⟨b',st',g',qq,r,c',f⟩:=hh
 cases e with
 |normal=>obtain⟨y,rfl,n,L,ll,H,h1,hy⟩:=qq;exact⟨y,rfl,b',_,g',hy,r.bC (aL h1),c',hC.trans f1 f⟩
 |_=>obtain⟨q',rfl,h1⟩:=qq;exact⟨q',rfl,λe=>⟨b',st',g',after _ _ _ (e▸h1),r,c',hC.trans f1 f⟩⟩
variable {n:Nat} {H:Hp} {l0:List (Nat×SV)}
def dt{N:σ->St->Prop}(hC:GC pu C R)(h:cf P pu (ug ops i) 0 (sp n l0 H) (N s))(ho:(fR ops i (sp n l0 H)).isSome=true:=by kernel_rfl)(hd:fY (ug ops i).toList=true:=by kernel_rfl):iW P C R ops i s (sp n l0 H) N:=by
 obtain⟨o,ho⟩:=k_1.1 ho
 exact iW.of hC ho hd h
def HY(n:Nat)(H:List aN)(L:List Nat)(ll:List (Nat×SV)){st:St}{i:Nat}(cR:bu n L st=some (ll,H))(h:iW P C R ops i s (sp n ll H) K):iW P C R ops i s st K:=
 λa w g hr hc=>h a w g (hr.bC (aL cR)) hc
def CR.F(hC:GC pu C R)(h:cf P pu (ug ops k) 0 (sp n l0 H) (λst=>CR P C R ops (k+1) s st K))(ho:(fR ops k (sp n l0 H)).isSome=true:=by kernel_rfl)(hd:fY (ug ops k).toList=true:=by kernel_rfl)
  (hk:(ops[k]?).isSome=true:=by kernel_rfl):CR P C R ops k s (sp n l0 H) K:=mV hC hk (dt hC h ho hd)
def Ik(i:Nat)(ll:List (Nat×SV))(hb:pP P ops i (sp n l0 H) dd x)(h:OG P C R ops d (m|||2 ^ i) s (sp n ll H) K)(cR:bu n (ll.map (·.1)) ((sp n l0 H).put dd x)=some (ll,H):=by kernel_rfl)
  (hc:(Region.noSelect ops&&Region.free .any ops (gU ops.size m) i&&(Region.ready .any ops (gU ops.size m)).contains i&&o9 P ops i (sp n l0 H))=true:=by kernel_rfl):OG P C R ops (d+1) m s (sp n l0 H) K:=by
 simp only[g_3]at hc
 obtain⟨⟨⟨c1,c2⟩,c3⟩,c4⟩:=hc
 obtain⟨o,h1,h2,h3,h4,rfl⟩:=hb
 intro a w g hr hC X hX
 obtain⟨v,e1,e2⟩:=h3 a w g hr
 obtain⟨k1,k2⟩:=uJ h1 c4 hr (e2 w (Up.refl w))
 refine wpAnyIn_take (i:=i) (v:=v) rfl h1 c1 c2 c3 (λc a w hh=>JY hh) ⟨.inl ⟨bt hr h2,k1⟩,k2⟩ ?_
 rw[qm]
 exact h _ w g ((hr.wa e1 h4).bC (aL cR)) hC X hX
def dW{s0:σ}(d m n:Nat)(ll:List (Nat×SV))(h2:OG P C R ops d m s (sp n ll H) K)(h1:OG P C R ops d m s (sp n ll H) K->OG P C R ops d0 m0 s0 st0 K):OG P C R ops d0 m0 s0 st0 K:=h1 h2
def bV(h:OG P C R ops d m' s st K)(hm:m'=m:=by kernel_rfl):OG P C R ops d m s st K:=hm▸h
def tv(i:Nat)(ll:List (Nat×SV))(h:OG P C R ops d (m|||2 ^ i) s (sp n ll H) K)(cR:(Hq P ops i (sp n l0 H)).bind (λq=>bu n (ll.map (·.1)) ((sp n l0 H).put q.1 q.2))=some (ll,H):=by kernel_rfl)
  (hc:(Region.noSelect ops&&Region.free .any ops (gU ops.size m) i&&(Region.ready .any ops (gU ops.size m)).contains i&&o9 P ops i (sp n l0 H))=true:=by kernel_rfl):OG P C R ops (d+1) m s (sp n l0 H) K:=by
 simp only[g_9]at cR
 obtain⟨q,h1,h2⟩:=cR
 exact Ik i ll (FD h1 rfl) h h2 hc
def Az{n:Nat}{H:List aN}{f:SV->Bool}(h:l.all (λp=>f p.2)=true)(hu:f .undef=true):(sp n l H).tmps.all f=true:=by
 rw[h_4]at h ⊢
 intro x hx
 obtain⟨j,hj⟩:=h_2.1 hx
 rcases tF n l 0 j x hj with rfl|hm
 .exact hu
 .exact h _ hm
def tx{i:Nat}{st:St}(e1:H0[i]? =some (.cells cs))(e2:cs[off]? =some (.own n' xs))(h:Bi P ops k st=some (dd,i,off,H0)):pP P ops k st dd (.cq (.au i off) n' xs):=by
 unfold Bi at h
 split at h
 .rename_i o ho
  split at h
  .rename_i T xo hop
   split at h
   .rename_i i' off' h1 h2 h3
    split at h
    .rename_i hc
     simp only[g_3,k_4]at hc
     simp only[g_2,g_8]at h
     obtain⟨rfl,rfl,rfl,rfl⟩:=h
     obtain⟨g1,g2⟩:=bo ho
     have hu: ¬(P.underlying T).isNone=true:=by grind
     have ha: ¬fI P T=true:=by grind
     obtain⟨r,hr⟩: ∃r,cs.drop off'=.own n' xs::r:=by
      have hlt:=aU e2
      rw[p_9 hlt]
      simp_all
     refine⟨o,g1,g2,cA ?_,rfl,rfl⟩
     simp only[CD,hop,sy,h1,h2,h3,e1,hr]
     unfold qo
     rw[if_neg hu,if_neg ha]
    .cases h
   .cases h
  .cases h
 .cases h
def fj{n:Nat}{st:St}(h:GP P ops k st=some (dd,l,n,xs,j))(h0:0<=j)(hy:xs[j.toNat]? =some y):pP P ops k st dd (bb l y.cells):=by
 unfold GP at h
 split at h
 .rename_i o ho
  split at h
  .rename_i T x i hop
   split at h
   .rename_i l' n' xs' kk j' hl hi
    split at h
    .rename_i hn
     simp only[g_2,g_8]at h
     obtain⟨rfl,rfl,rfl,rfl,rfl⟩:=h
     obtain⟨h1,h2⟩:=bo ho
     exact⟨o,h1,h2,iP.indexAddr hop hl hi hn h0 hy,Dt,rfl⟩
    .cases h
   .cases h
  .cases h
 .cases h
def Dz{α:Type}{n:Nat}{c:Cd α}{H:Hp}{xs:List α}(h:bL n c H p off=some xs)(ho:H[oi]? =some .hole):bL n c (H.set oi X) p off=some xs/\p≠oi:=by
 have hne:p≠oi:=λe=>by
  subst e
  unfold bL lW at h
  rw[ho]at h
  cases h
 refine⟨?_,hne⟩
 unfold bL lW at h ⊢
 grind
def iC{α:Type}{Q:St->Prop}(p:Option α)(S:Option α->St)(h0:st=S p)(hN:p=none->jj P ops k (S none) Q)(hS: ∀i,p=some i->jj P ops k (S (some i)) Q):jj P ops k st Q:=by
 subst h0
 cases p with
 |none=>exact hN rfl
 |some i=>exact hS i rfl
end
def dE{α:Type}(enc:α->D):Option α->D
 |none=>.fZ
 |some x=>.fV (enc x).cells
section
variable {P:Program} {st:St} {ops:Array Oper} {k:Nat}
def uz{o:Oper}{c:Call}{a:Act}{w:World}{x:Operand}{T KT ET:TypeId}{m:Option Nat}{l:Nat}(hop:o.op=.call c)(hc:c.callee=.builtin .len)(ha:c.args.toList=[x])(ht:c.argTypes.toList=[T])(hu:P.underlying T=some (.map KT ET))
  (hx:a.eval x=.map m) (hm:(m=none/\l=0)\/ ∃kb ms clock,m=some kb/\w.heap[kb]? =some (.map ms clock)/\l=ms.size):(execOp a.eval o).run P w=.ok (.value (goInt l)) w:=by
 obtain⟨callee,args,argTypes⟩:=c
 have ha2:args= #[x]:=by apply v_5;simpa using ha
 have ht2:argTypes= #[T]:=by apply v_5;simpa using ht
 subst ha2 ht2
 simp only at hc
 subst hc
 unfold execOp
 rw[hop]
 simp only[resolve,p_2,h_3,q_7,Sem.run_bind,Sem.run_pure,Result.andThen_ok,invoke,builtin,hx]
 rcases hm with⟨rfl,rfl⟩|⟨kb,ms,clock,rfl,h1,rfl⟩
 .simp[Builtin.len_,run_underlying hu]
 .simp[Builtin.len_,run_underlying hu,qV h1]
def EM{K V:Type}[BEq K](k:Kc K)(v:Cd V)(H:Hp)(m:Option Nat):Option Int:=(Bw k v H m).map λes=>(es.length:Int)
def Is{K V:Type}[BEq K]{k:Kc K}{v:Cd V}{o:Oper}{c:Call}{T KT ET:TypeId}{x:Operand}{m:Option Nat}{q:Int}(hop:o.op=.call c)(hc:c.callee=.builtin .len)(ha:c.args.toList=[x])(ht:c.argTypes.toList=[T])(hT:P.underlying T=some (.map KT ET))
  (hx:cx st x=some (cM.enc m)) (hq:EM k v st.H m=some q):iP P st o (.d (.int .i64 q)):=by
 intro a w g hr
 have hm:=sw hr hx
 obtain⟨es,h1,rfl⟩:=g_4.1 hq
 cases m with
 |none=>
  simp only[Bw,g_2]at h1
  subst h1
  exact⟨_,dP .int,λw' hup=>uz hop hc ha ht hT hm (.inl ⟨rfl,rfl⟩)⟩
 |some i=>
  obtain⟨kb,e1,e2⟩:=hm
  obtain⟨kb',ms,clock,f1,f2,f3,f4,f5,f6⟩:=hr.hp.2 i _ (zT.1 h1)
  rw[f1]at e1;cases e1
  refine⟨_,dP ?_,λw' hup=>uz hop hc ha ht hT e2 (.inr ⟨_,_,_,rfl,hup _ _ f3,rfl⟩)⟩
  rw[show ms.size=es.length by simpa using f4]
  exact .int
def N3(P:Program)(ops:Array Oper)(k:Nat)(st:St):Option (Option Tmp×D×Hp):=
 match fR ops k st with
 |some o=>match o.op with
  |.call c=>match c.callee,c.args.toList,c.argTypes.toList with
   |.builtin .len,[x],[T]=>match P.underlying T with
    |some (.map _ _)=>match cx st x with
     |some d=>some (o.dst,d,st.H)
     |none=>none
    |_=>none
   |_,_,_=>none
  |_=>none
 |none=>none
def Ef{K V:Type}[BEq K]{kc:Kc K}{v:Cd V}(hq:EM kc v H0 mm=some q)(h:N3 P ops k st=some (d,cM.enc mm,H0):=by kernel_rfl):pP P ops k st d (.d (.int .i64 q)):=by
 unfold N3 at h
 split at h
 .rename_i o ho
  split at h
  .rename_i c hop
   split at h
   .rename_i x T hc ha ht
    split at h
    .rename_i KT ET hT
     split at h
     .rename_i dd h1
      simp only[g_2,g_8]at h
      obtain⟨rfl,rfl,rfl⟩:=h
      obtain⟨g1,g2⟩:=bo ho
      exact⟨o,g1,g2,Is hop hc ha ht hT h1 hq,by simp[kx],rfl⟩
     .cases h
    .cases h
   .cases h
  .cases h
 .cases h
def Rj(P:Program)(ops:Array Oper)(k:Nat)(st:St):Option (Nat×Nat×D×Hp):=
 match fR ops k st with
 |some o=>match o.op with
  |.store T x y=>match sk st x,cx st y with
   |some (i,off),some d=>if(P.underlying T).isNone=false/\P.cellsOf T=1/\o.dst=none then some (i,off,d,st.H)else none
   |_,_=>none
  |_=>none
 |none=>none
def D5{Q:St->Prop}(n:Nat)(H:List aN)(L:List Nat)(l:List (Nat×SV))(hx:ee cP H0 i off p=some H)(h:Rj P ops k st=some (i,off,cP.enc p,H0))(cR:bu n L (st.hp H)=some (l,H))
  (hn:cf P false ops (k+1) (sp n l H) Q):cf P false ops k st Q:=by
 unfold Rj at h
 split at h
 .rename_i o ho
  split at h
  .rename_i T x y hop
   split at h
   .rename_i i' off' d h1 h2
    split at h
    .rename_i hc
     simp only[g_2,g_8]at h
     obtain⟨rfl,rfl,rfl,rfl⟩:=h
     obtain⟨g1,g2⟩:=bo ho
     exact j5 n H L l g1 g2 (te hop hc.2.2 h1 h2 hc.1 (by rw[Ho,hc.2.1];rfl) hx) cR hn
    .cases h
   .cases h
  .cases h
 .cases h
end
section
variable {P:Program} {st:St} {ops:Array Oper} {k:Nat}
def bD: ∀_:Bool,M4 (λ_ _=>True):=λ_ _ _ _ _ _ _=>trivial
def zi{id:Nat}{ll:List Oper}{Q:Exit->St->Prop}(n:Nat)(hn:(ll.length==n)=true)(hm:P.follows .mixedOrders=true)(h: ∀l,OL P l (λ_ _ _=>True) ll.toArray n 0 true st (λ_ s=>Q .normal s)):SW P false (.region id ll.toArray true) st Q:=by
 obtain rfl:=beq_iff_eq.1 hn
 intro a w g hr
 have h1:=wW (P:=P) (l:=w.heap.size) (C:=λ_ _ _=>True) (b:=true) (id:=id) (Q:=λ_ e s=>Q e s) hm bD (h w.heap.size) a w g hr trivial
 refine Code.wp_mono ?_ h1
 rintro e a' w' ⟨b',st',g',q,r,-,f⟩
 exact⟨st',g',q,r,⟨f.size,f.free,λk b h1 h2=>f.out k b (λe=>by subst e;simp at h2) h1 h2,f.qH,(λe=>by cases e),(λe=>by cases e),(λe=>by cases e),f.os⟩⟩
def tu{C:Bool->Gh->World->Prop}{K:Bool->St->Prop}(c:Bool)(S:Bool->St)(h0:st=S c)(hT:c=true->OL P l C ops d m b (S true) K)(hF:c=false->OL P l C ops d m b (S false) K):OL P l C ops d m b st K:=by
 subst h0
 cases c with
 |true=>exact hT rfl
 |false=>exact hF rfl
end
inductive VD where
 |code (c:Code)
 |ops (l:Array Oper) (k:Nat)
 |Vv (l:Array Oper) (k:Nat)
 |Vw (l:Array Oper) (m k:Nat) (d:Bool)
 |norm
 |exit (id:Nat)
 |ret
inductive KF where
 |code (c:Code)
 |UA (id:Nat)
structure Vo where
 cur:VD
 ks:List KF
 st:St
section
variable (P:Program) (pu:Bool)
def rG(Q:Exit->St->Prop):List KF->Exit->St->Prop
 |[]=>Q
 |.code c::ks=>thenS (λs=>SW P pu c s (rG Q ks)) (rG Q ks)
 |.UA id::ks=>o0 id (rG Q ks)
def MW(T:Vo)(Q:Exit->St->Prop):Prop:=match T.cur with
 |.code c=>SW P pu c T.st (rG P pu Q T.ks)
 |.ops l k=>cf P pu l k T.st (rG P pu Q T.ks .normal)
 |.Vv l k=>jj P l k T.st (rG P pu Q T.ks .normal)
 |.Vw l m k d=>lh P l m k T.st (λs=>match d with|true=>cf P pu l m s (rG P pu Q T.ks .normal)|false=>rG P pu Q T.ks .normal s)
 |.norm=>rG P pu Q T.ks .normal T.st
 |.exit id=>rG P pu Q T.ks (.exit id) T.st
 |.ret=>rG P pu Q T.ks .ret T.st
end
section
variable {P:Program} {pu:Bool} {Q:Exit->St->Prop} {T:Vo}
end
attribute [irreducible] MW rG
section
variable {P:Program} {pu:Bool} {T:Vo} {Q:Exit->St->Prop}
end
noncomputable def Hj {α β:Type} (x y:α) (k:Option β):Option β:=open Classical in if x=y then k else none
def wN{α β:Type}{x y:α}{k:Option β}{r:β}(h:Hj x y k=some r):x=y/\k=some r:=by
 unfold Hj at h
 grind
def zY{α β:Type}{x:α}{k:Option β}:Hj x x k=k:=by simp[Hj]
section
variable {P:Program} {st:St} {r:Option Nat} {Q:Exit->St->Prop}
def CN(P:Program)(r:Option Nat)(c:Code)(st:St)(Q:Exit->St->Prop):Prop:=
 ∀n a w g,Rel st a w g->c.wpIn (Fw r) n P (λe a' w'=> ∃st' g',Q e st'/\Rel st' a' w' g'/\Fr false g w g' w') a w
def DT(h:ME P r c st (Q .normal)):CN P r c st Q:=λn a w g hr=>Code.wpIn_mono (λe a' w' hh=>by
 grind) (h n a w g hr)
def yi(h:Q .normal st):CN P r .skip st Q:=λn a w g hr=>wpIn_skip ⟨st,g,h,hr,Fr.refl _ _ _⟩
def HJ(h:Q .ret st):CN P r .ret st Q:=λn a w g hr=>wpIn_ret ⟨st,g,h,hr,Fr.refl _ _ _⟩
def sZ(h:CN P r x st (thenS (λs=>CN P r y s Q) Q)):CN P r (.seq x y) st Q:=λn a w g hr=>by
 refine wpIn_seq (Code.wpIn_mono (λe a' w' hh=>?_) (h n a w g hr))
 obtain⟨st',g',q,r1,f⟩:=hh
 cases e with
 |normal=>
  refine Code.wpIn_mono (λe2 a2 w2 hh2=>?_) (q n a' w' g' r1)
  obtain⟨iY,g2,q2,r2,f2⟩:=hh2
  exact⟨iY,g2,q2,r2,f.trans f2⟩
 |_=>exact⟨st',g',q,r1,f⟩
def B5{id:Nat}{c:Code}(h:CN P r c st (o0 id Q)):CN P r (.block id c) st Q:=λn a w g hr=>by
 refine wpIn_block (Code.wpIn_mono (λe a' w' hh=>?_) (h n a w g hr))
 obtain⟨st',g',q,r1,f⟩:=hh
 cases e with
 |exit id'=>
  simp only[o0]at q
  simp only[Exit.inBlock]
  grind
 |_=>exact⟨st',g',q,r1,f⟩
def JH(hc:cx st c=some (.bool true))(h:CN P r x st Q):CN P r (.cond c x y) st Q:=
 λn a w g hr=>wpIn_cond (cg hr hc rfl) (by simpa using h n a w g hr)
def B3(hc:cx st c=some (.bool false))(h:CN P r y st Q):CN P r (.cond c x y) st Q:=
 λn a w g hr=>wpIn_cond (cg hr hc rfl) (by simpa using h n a w g hr)
def B4(hc:cx st c=some (.bool b))(hT:b=true->CN P r x st Q)(hF:b=false->CN P r y st Q):CN P r (.cond c x y) st Q:=by
 cases b
 .exact B3 hc (hF rfl)
 .exact JH hc (hT rfl)
def s8{ops:Array Oper}{id:Nat}(hd:fY ops.toList=true)(h:cf P false ops 0 st (Q .normal)):CN P r (.region id ops false) st Q:=DT (py hd h)
def Fj(n:Nat)(H:List aN)(L:List Nat)(l:List (Nat×SV))(cR:bu n L st=some (l,H))(h:CN P r c (sp n l H) Q):CN P r c st Q:=
 λk a w g hr=>h k a w g (hr.bC (aL cR))
def DS{id:Nat}{l:List Oper}(n:Nat)(H:List aN)(ll:List (Nat×SV))(hm:P.follows .mixedOrders=true)
  (h: ∀X:Nat->Nat->St->Prop,(X=λd m s=>OX P false l.toArray d m s (sp n ll H))->X l.length 0 st) (hq:Q .normal (sp n ll H)) (hd:fY l=true:=by kernel_rfl):CN P r (.region id l.toArray true) st Q:=
 DT (DU n H ll hm h hq hd)
def Nh{n:Nat}{o:Oper}{a:Act}{N N' X:Act->World->Prop}(hN: ∀a w,N a w->N' a w){x:Result Next}(h:o.uponIn Fence.wide 0 P a N (NX X) x):o.uponIn (Fw r) n P a N' (NX X) x:=by
 have hdep:(Fw r).depth.isSome=true->1<=n:=λh=>by rw[Ir]at h;cases h
 have hE: ∀{e:Ending} {w':World},(match e,w' with|.returned v,w''=>N (a.put o.dst v) w''|.panicked chain,w''=>NX X (.panic chain) a w''|.outgrown,_=>LetsOut (NX X))->
   (match e,w' with|.returned v,w''=>N' (a.put o.dst v) w''|.panicked chain,w''=>NX X (.panic chain) a w''|.outgrown,_=>LetsOut (NX X)):=by
  grind
 cases x with
 |ok nx w'=>
  cases nx with
  |value v=>exact hN _ _ h
  |skip=>exact hN _ _ h
  |defer d=>exact hN _ _ h
  |enter f args=>exact⟨hdep,BK ((callsIn_wide.1 h.2).mono λe w' hh=>hE hh)⟩
  |row row args=>
   have h2:=h.2.mono (λv w' hh=>hN _ _ hh)
   cases r<;>exact⟨hdep,λc cs _=>h2 c cs (room_wide _)⟩
  |round l f tmps assign body=>
   have h2:=h.2.mono (λe w' hh=>hE hh)
   cases r<;>exact⟨hdep,Cm _,λc cs _=>h2.2 c cs (room_wide _)⟩
  |_=>exact h
 |halt hh w'=>cases hh<;>exact h
def M7{X N N':Act->World->Prop}(hd:fY ops.toList=true)(h:wpOpIn Fence.wide 0 P ops (NX X) i N a w)(hN: ∀a w,N a w->N' a w):wpOpIn (Fw r) n P ops (NX X) i N' a w:=by
 unfold wpOpIn at h ⊢
 split at h
 .exact hN _ _ h
 .rename_i o ho
  split at h
  .rename_i hw
   simp only[if_pos hw]
   refine⟨λf _=>Cm f,?_⟩
   have hmem:o∈ops.toList:=by
    grind
   have h2:=h.2
   rw[Oper.semAt_eq _ a.eval o (jU hd o hmem)]at h2
   rw[Oper.semAt_eq _ a.eval o (jU hd o hmem)]
   exact Nh hN h2
  .rename_i hw
   simp only[if_neg hw]
   exact⟨λf _=>Cm f,hN _ _ h.2⟩
def CW{X:Act->World->Prop}(hd:fY ops.toList=true): ∀(d:Nat) (ls:Array Bool) (a:Act) (w:World),wpAnyIn Fence.wide 0 P md ops (NX X) d ls a w->wpAnyIn (Fw r) n P md ops (NX X) d ls a w
 |0,_,_,_,h=>h
 |d+1,_,_,_,h=>⟨h.1,λi hi=>M7 hd (h.2 i hi) (λa w hh=>CW hd d _ a w hh)⟩
def Fi{id:Nat}{ll:List Oper}(k:Nat)(hn:(ll.length==k)=true)(hm:P.follows .mixedOrders=true)(h: ∀l,OL P l (λ_ _ _=>True) ll.toArray k 0 true st (λ_ s=>Q .normal s))(hd:fY ll=true:=by kernel_rfl):CN P r (.region id ll.toArray true) st Q:=by
 obtain rfl:=beq_iff_eq.1 hn
 intro n a w g hr
 refine Code.wpIn_mono (Q:=NX λa' w'=> ∃st' g',Q .normal st'/\Rel st' a' w' g'/\Fr false g w g' w') (λe a' w' hh=>by obtain⟨rfl,hh⟩:=hh;exact hh) ?_
 refine wpIn_region_any hm ?_
 have h1:=h w.heap.size a w.drew g hr.drew trivial (λa' w'=> ∃st' g',Q .normal st'/\Rel st' a' w' g'/\Fr false g w g' w') (λb' st' a' w' g' q r5 _ f=>⟨st',g',q,r5,?_⟩)
 .rw[ql]at h1
  have h2:=CW (r:=r) (n:=n) (by simpa using hd) _ _ _ _ h1
  simp_all
 .refine Fr.drew.trans ⟨f.size,f.free,λk b h1 h2=>f.out k b (λe=>by
   simp_all) h1 h2,f.qH,(λe=>by cases e),(λe=>by cases e),(λe=>by cases e),f.os⟩
def ur(st iY:St):Prop:= ∀(a:Act) (w:World) (g:Gh),Rel st a w g-> ∃g',Rel iY a w g'/\Fr false g w g' w
def ur.refl:ur st st:=λa w g h=>⟨g,h,Fr.refl _ _ _⟩
def ur.trans(h:ur st iY)(h':ur iY st3):ur st st3:=λa w g hr=>
 let⟨g1,r1,f1⟩:=h a w g hr;let⟨g2,r2,f2⟩:=h' a w g1 r1;⟨g2,r2,f1.trans f2⟩
def Po(n:Nat)(H:List aN)(L:List Nat)(l:List (Nat×SV))(cR:bu n L st=some (l,H)):ur st (sp n l H):=λa w g hr=>⟨g,hr.bC (aL cR),Fr.refl _ _ _⟩
def MK(t:Nat)(h:Ni st t=some iY):ur st iY:=λa w g hr=>by
 unfold Ni at h
 split at h
 .rename_i i ht
  split at h
  .rename_i cs hi
   split at h
   .rename_i hn
    cases h
    exact hr.unbox ht hi hn
   .cases h
  .cases h
 .cases h
def gq{α:Type}(n:Nat)(c:Cc α)(H:Hp)(i:Nat):Option (α×Hp):=match H[i]? with
 |some (.cells cs)=>if cs.length=n then match c.dec cs with
  |some (x,[])=>some (x,H.set i .hole)
  |_=>none
  else none
 |_=>none
def Od{α:Type}{c:Cc α}{q:α×Hp}(h:gq n c H i=some q):H[i]? =some (.cells (c.enc q.1))/\q.2=H.set i .hole:=by
 unfold gq at h
 split at h
 .rename_i cs hi
  split at h
  .split at h
   .rename_i x hx
    cases h
    have:=c.de _ _ _ hx
    grind
   .cases h
  .cases h
 .cases h
def jL{α:Type}{c:Cc α}{q:α×Hp}(hq:gq n' c H0 i=some q)(t n:Nat)(L:List Nat)(l:List (Nat×SV))(h:Rp st t=some (i,H0))(hf:(c.enc q.1).map Su=c.enc q.1)
  (hs:bu n L ⟨(st.set t (.box (c.enc q.1))).tmps,q.2⟩=some (l,q.2)):ur st (sp n l q.2):=by
 obtain⟨h1,h2⟩:=Od hq
 refine ur.trans (MK (iY:=⟨(st.set t (.box (c.enc q.1))).tmps,q.2⟩) t ?_) (Po n _ L l hs)
 unfold Rp at h
 unfold Ni
 split at h
 .simp_all
 .cases h
def tV(h:ur st iY)(hn:PS P ds c iY Q):PS P ds c st Q:=λa w g hr=>by
 obtain⟨g',r',f'⟩:=h a w g hr
 refine Code.wp_mono (λe a' w' hh=>?_) (hn a w g' r')
 obtain⟨a0,st',g2,e0,q,r,f⟩:=hh
 exact⟨a0,st',g2,e0,q,r,f'.trans f⟩
def Kz:Exit->Option Code
 |.ret=>some .ret
 |.exit id=>some (.exit id)
 |_=>none
def UO(jc:Code)(b:Bool)(H':List aN)(e:Exit)(s:St):Prop:=s.H=H'/\((b=true/\e=.normal)\/(b=false/\Kz e=some jc))
def sW(cR:R.state=.ready)(hpe:R.pending=none)(hps:R.params= #[tp])(hlen:R.tmps.size=n0)(L:List (Nat×SV))
  (hs0: ∀t s,(t,s)∈L->(t=tp/\s=.d y)\/(t≠tp/\ ∃d,s=.d d/\(t,d)∈ds))
  (h:ME P (some l) R.assign (sp n0 L H) (λs1=>CN P (some l) R.body s1 (UO jc b H'))):RJ P l (CL l R jc ds []) [.d y] H H' b:=by
 intro w g vs hC hRA hRH
 obtain⟨hl1,hl2,hl3,-⟩:=hC
 have hC0:CL l R jc ds [] true g w:=⟨hl1,hl2,hl3,λi d hd=>by cases hd⟩
 have hl1:w.heap[l]? =some (.loop R):=hl1
 obtain⟨hv1,hv2⟩:=hRA
 obtain⟨v,hv3,hv4⟩:=hv2 0 (.d y) rfl
 have hvs:vs= #[v]:=by
  grind
 subst hvs
 have hv4:Rd g w v y:=hv4
 refine⟨R.fn,R.tmps.setIfInBounds tp v,R.assign,R.body,?_,λn=>?_⟩
 .rw[run_yield hl1 (by rw[hps];rfl),hps]
  simp
 .have hrel:Rel (sp n0 L H) {tmps:=R.tmps.setIfInBounds tp v,defers:=[]} w (g.br (aC [] [])):=by
   refine⟨by simp[hlen,sp,mX],rfl,λt s hs=>?_,?_⟩
   .rcases tF n0 L 0 t s hs with rfl|hm
    .trivial
    .rw[q_4]at hm
     rcases hs0 _ _ hm with⟨rfl,rfl⟩|⟨h1,d,rfl,h2⟩
     .have hlt:t<R.tmps.size:=by
       have:=(g_5.1 hs).1
       simp only[sp,mX]at this
       omega
      have:valOf {tmps:=R.tmps.setIfInBounds t v,defers:=[]} t=v:=by
       simp[valOf,k_7,hlt]
      rw[this]
      exact hv4.bg (aO.br rfl) (λ_ _ h=>h)
     .have:valOf {tmps:=R.tmps.setIfInBounds tp v,defers:=[]} t=R.tmps.getD t undef:=by
       simp[valOf,k_7,Array.getElem?_setIfInBounds,j_6 h1]
      rw[this]
      exact(hl3 t d h2).bg (aO.br rfl) (λ_ _ h=>h)
   .show RH _ _ H
    exact hRH.bg (λo' ho'=>aO.br (by
     cases o'<;>simp only[kn]at ho'<;>try rfl
     rename_i l
     cases l<;>simp only[kn]at ho'
     rfl)) (λ_ _ h=>h) rfl
  have hgl:(g.br (aC [] [])).ow l=.out:=by simp[Gh.br,hl2,aC]
  refine roundIn_of_wpIn (F:=Fence.wide) trivial (Code.wpIn_mono (λe a1 w1 hh=>?_) (h n _ w _ hrel))
  obtain⟨rfl,jh,g1,q1,r1,f1⟩:=hh
  obtain⟨k1,k2⟩:=f1.out l _ hgl hl1
  refine⟨_,run_beginRound k2 cR,?_⟩
  have r2:=r1.outside (w':=w1.putObj l (.loop {R with state:=.busy})) k1 (λk hk=>bZ hk)
  refine Code.wpIn_mono (λe a3 w3 hh=>?_) (q1 n a1 _ g1 r2)
  obtain⟨st3,g3,⟨q3,hb⟩,r3,f3⟩:=hh
  have hbusy:(w1.putObj l (.loop {R with state:=.busy})).heap[l]? =some (.loop {R with state:=.busy}):=World.putObj_heap_same (m_0.1 k2).1
  obtain⟨m1,m2⟩:=f3.out l _ k1 hbusy
  have key: ∀(jump:Option Code),jump.isNone=b->({{R with state:=.busy}with state:=if jump.isNone then .ready else .done,pending:=jump}:Loop)=qc R jc b->
    ∃v w',(Instr.endRound l jump).run P w3=.ok v w'/\(Ending.returned v=.returned (.bool b)/\Pp l (CL l R jc ds []) H' b g w w'):=by
   intro jump hj hR
   refine⟨_,_,run_endRound jump m2,by rw[hj],?_⟩
   rw[hR]
   have r4:=r3.outside (w':=w3.putObj l (.loop (qc R jc b))) m1 (λk hk=>bZ hk)
   have hl4:(w3.putObj l (.loop (qc R jc b))).heap[l]? =some (.loop (qc R jc b)):=World.putObj_heap_same (m_0.1 m2).1
   have hback: ∀{o:Own} (k:Nat) (b0:Obj),k≠l->aO o (g.br (aC [] [])) w g1 w1->aO o g1 (w1.putObj l (.loop {R with state:=.busy})) g3 w3->(g.br (aC [] [])).ow k=o->w.heap[k]? =some b0->g3.ow k=o/\(w3.putObj l (.loop (qc R jc b))).heap[k]? =some b0:=λ{o} k b0 hk ha hb e1 e2=>by
    obtain⟨x1,x2⟩:=ha k b0 e1 e2
    obtain⟨y1,y2⟩:=hb k b0 x1 (by rw[bZ hk];exact x2)
    exact⟨y1,by rw[bZ hk];exact y2⟩
   have hfr:rA l (g.br (aC [] [])) w g3 (w3.putObj l (.loop (qc R jc b))):=by
    refine⟨?_,λk b0 e1 e2=>?_,λk b0 hk e1 e2=>hback k b0 hk f1.out f3.out e1 e2,λi k h=>f3.qH i k (f1.qH i k h),?_⟩
    .have h1:=f1.size
     have h2:=f3.size
     simp only[World.putObj,Array.size_setIfInBounds]at h2 ⊢
     omega
    .refine hback k b0 (λhk=>?_) f1.free f3.free e1 e2
     grind
    .exact f1.os.trans f3.os
   have hRH3:RH g3 (w3.putObj l (.loop (qc R jc b))) H':=by rw[<-q3];exact r4.hp
   obtain⟨G,G1,G2,G3,G4⟩:=vv hfr hRH3 hl2 hl1 m1
   exact⟨G,G3,hC0.EA G2 hl4 G1,G2,G4⟩
  rcases hb with⟨rfl,rfl⟩|⟨rfl,hj⟩
  .exact key none rfl (by cases R;simp_all[qc])
  .cases e<;>simp only[Kz,reduceCtorEq,g_2]at hj
   .subst hj;exact key (some _) rfl (by simp[qc])
   .subst hj;exact key (some _) rfl (by simp[qc])
def wV(ds:List (Nat×D))(hg:cx st gop=some (.fn (.func f) [] caps))(hfn:EJ P f=true)(hn:st.tmps.all er=true)
  (hds':ds.map (λp=>st.tmps[p.1]?)=ds.map (λp=>some (SV.d p.2)))
  (hf: ∀(l:Nat) (R:Loop),R.state=.ready->R.pending=none->R.params=ps->R.assign=assign->R.body=body->R.tmps.size=st.tmps.length->PU P l (CL l R jc ds []) f (.d (.fn (.yield l) [] [])::caps.map .d) st.H H' b (λ_=>True))
  (hq:b=true->Q .normal ⟨st.tmps,H'⟩) (hx:b=false-> ∃e iY,Kz e=some jc/\ur ⟨st.tmps,H'⟩ iY/\Q e iY):ta P (.rangeFunc gop ps assign body) st Q:=by
 have hds: ∀t d,(t,d)∈ds->st.tmps[t]? =some (.d d):=λt d h=>List.map_inj_left.1 hds' (t,d) h
 intro a w g hr
 refine(wpIn_wide (n:=0)).1 (wpIn_rangeFunc λfn _=>?_)
 let R:Loop:={state:=.ready,pending:=none,fn,tmps:=a.tmps,params:=ps,assign,body,defers:=w.heap.size}
 let w0:=w.alloc (.deferred (some []))
 let w1:=w0.alloc (.loop R)
 let g1:=(g.xe w.heap.size .out).xe w0.heap.size .out
 have hs0:w0.heap.size=w.heap.size+1:=by simp[w0]
 have hk: ∀o,aO o g w g1 w1:=λo=>(aO.alloc (t:=.out)).trans (aO.alloc (t:=.out))
 have hr1:Rel st a w1 g1:=hr.world hk (λ_ _ h=>h) rfl
 have hfr1:Fr false g w g1 w1:=⟨by simp[w1,w0];omega,hk _,hk _,λ_ _ h=>h,nofun,nofun,nofun,⟨rfl,rfl⟩⟩
 have hl1:w1.heap[w.heap.size+1]? =some (.loop R):=by rw[<-hs0];exact World.alloc_heap_new w0 _
 have hm1:w1.heap[w.heap.size]? =some (.deferred (some [])):=(aO.alloc (o':=.out) (g:=(g.xe w.heap.size .out)) (w:=w0) (o:=.loop R) (t:=.out) _ _ ψ (World.alloc_heap_new w _)).2
 have hgl:g1.ow (w.heap.size+1)=.out:=by rw[<-hs0];simp[g1]
 have hgm:g1.ow w.heap.size=.out:=by simp[g1,Gh.xe]
 have hrf:=cw hr1 hg
 obtain⟨vc,hev,lc,rc⟩: ∃vc:Array Value,a.eval gop=.func (.func f) #[] vc/\vc.size=caps.length/\(∀(j:Nat) (y:D),caps[j]? =some y-> ∃u,vc[j]? =some u/\Rd g1 w1 u y):=by
  generalize a.eval gop=v at hrf
  cases hrf with
  |fn hl1 hl2 us1 us2 hc1 hr1 hc2 hr2=>
   grind
 let yl:Value:=.func (.yield (w.heap.size+1)) #[] #[]
 refine⟨w.heap.size+1,[su w.heap.size],w1,{target:=.fn (.func f) vc,args:= #[yl]},w1,f,#[yl]++vc,w1,run_enterLoop_outer _ _ _ _ _,?_,λ_ _=>trivial,?_,(λh=>nomatch h),?_⟩
 .simp only[resolve,rangeCall,hev,Deferred.ofValue,p_2,h_3,q_7]
  rfl
 .unfold EJ at hfn
  split at hfn
  .rename_i fn' hfn'
   simp only[g_3,bne_iff_ne]at hfn
   obtain⟨k1,k2⟩:=hfn
   have k2':fn'.body.isNone=false:=by simp_all
   simp only[invoke,callFunc,Sem.run_bind,run_program,Result.andThen_ok,hfn']
   rw[if_neg (by simpa using k1),k2']
   rfl
  .cases hfn
 .have kp: ∀{v:Value} {d:D},Rd g1 w1 v d->Rd (g1.br (aC [] [])) w1 v d:=λhr=>hr.bg (aO.br rfl) (λ_ _ h=>h)
  have hC:CL (w.heap.size+1) R jc ds [] true (g1.br (aC [] [])) w1:=by
   refine⟨hl1,by simp[Gh.br,hgl,aC],λt d hd=>kp ?_,λi d hd=>by cases hd⟩
   exact hr1.tmp t _ (hds t d hd)
  have hRA:jM (g1.br (aC [] [])) w1 (#[yl]++vc) (.d (.fn (.yield (w.heap.size+1)) [] [])::caps.map .d):=by
   refine⟨by simp[lc];omega,λj s hj=>?_⟩
   cases j with
   |zero=>
    simp only[j_3,g_2]at hj
    subst hj
    refine⟨yl,φ,?_⟩
    exact .fn rfl rfl (λ_=>undef) (λ_=>undef) (λj y hj=>by simp at hj) (λj y hj=>by simp at hj) (λj y hj=>by simp at hj) (λj y hj=>by simp at hj)
   |succ j=>
    simp only[k_8,h_1,g_4]at hj
    obtain⟨d,hd,rfl⟩:=hj
    obtain⟨u,e1,e2⟩:=rc j d hd
    refine⟨u,?_,kp e2⟩
    grind
  have hRH:RH (g1.br (aC [] [])) w1 st.H:=hr1.hp.bg (λo' ho'=>aO.br (by
   cases o'<;>simp only[kn]at ho'<;>try rfl
   rename_i l
   cases l<;>simp only[kn]at ho'
   rfl)) (λ_ _ h=>h) rfl
  refine callsIn_wide.2 ((hf (w.heap.size+1) R rfl rfl rfl rfl rfl hr.len w1 _ _ hC hRA hRH).mono λe w3 hh=>?_)
  obtain⟨v,g3,rfl,-,hH3,hC3,hf3⟩:=hh
  obtain⟨G,G1,G2,G3,G4⟩:=vv hf3 hH3 hgl hl1 hC3.2.1
  have hrel3:Rel ⟨st.tmps,H'⟩ a w3 G:=by
   have:=tc (d:=none) (r:=.iQ []) (v:=.tuple #[]) hr1 hn G3 G2 (λo h1 h2=>G4 o h1 h2) (.inl ⟨rfl,rfl⟩)
   exact this
  have q2:=hC3.1
  have q1:=G1
  obtain⟨m1,m2⟩:=G2.out _ _ ω hgm hm1
  have hnb:(qc R jc b).state≠.busy:=by cases b<;>simp[qc,R]
  have hrel4:=hrel3.outside (w':=w3.putObj (w.heap.size+1) (.loop {qc R jc b with state:=.exhausted})) q1 (λk hk=>bZ hk)
  have fin: ∀e iY,ur ⟨st.tmps,H'⟩ iY->Q e iY-> ∃ds a0 st' g',Mk w.heap.size ds g' (w3.putObj (w.heap.size+1) (.loop {qc R jc b with state:=.exhausted}))/\({a with defers:=[su w.heap.size]++a.defers}:Act)=jD a0 ds/\Q e st'/\Rel st' a0 (w3.putObj (w.heap.size+1) (.loop {qc R jc b with state:=.exhausted})) g'/\Fr false g w g' (w3.putObj (w.heap.size+1) (.loop {qc R jc b with state:=.exhausted})):=by
   intro e iY hre he
   obtain⟨g5,hrel5,f5⟩:=hre _ _ _ hrel4
   refine⟨[su w.heap.size],a,iY,g5,⟨[w.heap.size],rfl,ψ,ψ,λr hr'=>?_⟩,?_,he,hrel5,?_⟩
   .simp only[w_2]at hr'
    subst hr'
    have z:(w3.putObj (w.heap.size+1) (.loop {qc R jc b with state:=.exhausted})).heap[w.heap.size]? =some (.deferred (some [])):=by rw[bZ ω];exact m2
    obtain⟨z1,z2⟩:=f5.out _ _ m1 z
    exact⟨z2,z1⟩
   .simp[jD,hr.dS]
   .have hne: ∀{k:Nat} {b:Obj},w.heap[k]? =some b->k≠w.heap.size+1:=λhk e=>by
     grind
    have f6:Fr false g w G (w3.putObj (w.heap.size+1) (.loop {qc R jc b with state:=.exhausted})):=by
     refine⟨?_,λk b x1 x2=>?_,λk b x1 x2=>?_,λi k h=>G2.qH i k (hfr1.qH i k h),nofun,nofun,nofun,hfr1.os.trans G2.os⟩
     .have h1:=hfr1.size
      have h2:=G2.size
      simp only[World.putObj,Array.size_setIfInBounds]
      omega
     .obtain⟨z1,z2⟩:=hfr1.free k b x1 x2
      obtain⟨y1,y2⟩:=G2.free k b z1 z2
      exact⟨y1,by rw[bZ (hne x2)];exact y2⟩
     .obtain⟨z1,z2⟩:=hfr1.out k b x1 x2
      obtain⟨y1,y2⟩:=G2.out k b (hne x2) z1 z2
      exact⟨y1,by rw[bZ (hne x2)];exact y2⟩
    exact f6.trans f5
  refine⟨_,_,run_endLoop q2 hnb,?_⟩
  cases b with
  |true=>exact fin _ _ ur.refl (hq rfl)
  |false=>
   obtain⟨e,iY,he,hre,hQ⟩:=hx rfl
   cases e<;>simp only[Kz,reduceCtorEq,g_2]at he
   .subst he;exact(wpIn_wide (n:=0)).2 ((wpIn_wide (n:=0)).1 (wpIn_exit (fin _ _ hre hQ)))
   .subst he;exact(wpIn_wide (n:=0)).2 ((wpIn_wide (n:=0)).1 (wpIn_ret (fin _ _ hre hQ)))
end
section
variable {P:Program} {pu:Bool} {st:St} {ops:Array Oper} {k:Nat} {Q:St->Prop}
def jO.cut(hop:o.op=.slice T (.tmp s) none (some hi) none)(hs:st.tmps[s]? =some (.own n xs))(hb:Hs st xs.length (some hi)=some j)(hj:j<=xs.length)
  (hn:n=fy P T) (hz:fy P T≠0):jO P pu st o ((st.take s).put o.dst (.own n (xs.take j))):=by
 refine jO.value λa w g hr=>?_
 obtain⟨e,hu,he⟩:=oX hz
 have hue:P.underlying T=some (.slice (P.elem T)):=by rw[pw hu];exact hu
 have hsz: ∀w',(sizeOf (P.elem T)).run P w'=.ok (P.cellsOf e) w':=λw'=>by rw[pw hu];exact gh (by rw[<-he];exact hz) w'
 have hO:cy g w (.slot s) (valOf a s) n xs:=hr.tmp s _ hs
 have key: ∃v,(execOp a.eval o).run P w=.ok (.value v) w/\cy g w (.slot s) v n (xs.take j):=by
  rcases hO with⟨rfl,a0,e1⟩|⟨kb,off,cap,c,T0,us,hv,hk,hb2,hl,hz2,hw,hcc,hrr⟩
  .have hj0:j=0:=by simpa using hj
   subst hj0
   have hbd:=mT (P:=P) hr (sl:=true) (lo:=none) (len:=0) (cap:=0) (i:=0) rfl (by simpa using hb) (h_0 _) (h_0 _) (q_9 _)
   refine⟨sliced a0 0 0 0 (P.cellsOf e),?_,.inl ⟨ψ,_,rfl⟩⟩
   have hx:a.eval (.tmp s)=.slice a0 0 0:=e1
   unfold execOp;rw[hop]
   simp only[hx,Sem.run_bind]
   rw[run_sliceAt_slice w T _ _ _ _ hue,run_slice_any w T a0 0 0 hue]
   simp_all
  .have hbd:=mT (P:=P) hr (sl:=true) (lo:=none) (len:=xs.length) (cap:=cap) (i:=0) rfl (by simpa using hb) (q_9 _) hj hl
   refine⟨sliced (some ⟨kb,off,none⟩) 0 j cap (P.cellsOf e),?_,.inr ⟨kb,off,cap,c,T0,us,?_,hk,hb2,χ,hz2,λi x hx=>?_,λi x hx=>?_,λi x hx=>?_⟩⟩
   .have hx:a.eval (.tmp s)=.slice (some ⟨kb,off,none⟩) xs.length cap:=hv
    unfold execOp;rw[hop]
    simp only[hx,Sem.run_bind]
    rw[run_sliceAt_slice w T _ _ _ _ hue,run_slice_any w T _ _ cap hue]
    simp_all
   .simp[sliced,Addr.add_lit,p_7 hj]
   all_goals
    grind
 obtain⟨v,hexec,hv⟩:=key
 cases hd:o.dst with
 |none=>
  refine⟨_,w,g,hexec,?_,Fr.refl _ _ _⟩
  refine bc hr (by simp[hr.len,eb]) (by rw[put_defers];exact hr.dS) (λ_ _ h=>h) (λt s' hs'=>?_) hr.hp
  rcases cJ hs' with h|⟨h1,h2,h3⟩
  .exact .inl h
  .refine .inr (.inr ⟨h1,rfl,λ_ _=>aO.refl _ _ _,λs1 e=>⟨rfl,λx hx hb=>jY hs' s1 e hx hb⟩⟩)
 |some d=>
  refine⟨_,w,g.br (Ge (.slot s) (.slot d)),hexec,?_,Fr.br ψ⟩
  refine bc hr (by rw[eb,cU,gF];exact hr.len) (by rw[put_defers];exact hr.dS) (λ_ _ h=>h) (λt s' hs'=>?_) (by rw[fw,pc];exact hr.hp.br ψ)
  by_cases ht:t=d
  .subst ht
   obtain⟨rfl,hlt⟩:=bY hs'
   refine .inr (.inl ?_)
   rw[bW (by rw[hr.len];simpa using hlt)]
   exact cy.br (eR ψ) (se _ _) hv
  .rcases mL hr (jh:=st.take s) v (λt s h=>(cJ h).imp id λh=>h.1) (λt s x h s1 e hx hb=>jY h s1 e hx hb) (by simpa using j_6 ht) hs' with h|⟨h1,h2,h3,h4,h5⟩
   .exact .inl h
   .rcases cJ h1 with h|⟨-,h6,h7⟩
    .exact .inl h
    .exact .inr (.inr ⟨h2,h3,λo' ho'=>aO.br (eR (jP h6 h7 ho').2.1),h5⟩)
def cutAt(P:Program)(ops:Array Oper)(k:Nat)(st:St):Option (Option Tmp×Nat×Nat×List D×Int):=
 match fR ops k st with
 |some o=>match o.op with
  |.slice T (.tmp s) none (some hi) none=>match st.tmps[s]?,fJ st hi with
   |some (.own n xs),some (_,j)=>if n=fy P T/\fy P T≠0 then some (o.dst,s,n,xs,j)else none
   |_,_=>none
  |_=>none
 |none=>none
def w7{α:Type}{enc:α->Sh.D}{xs:List α}(m:Nat)(H:List aN)(L:List Nat)(l:List (Nat×SV))(hc:mJ xs 0 j=true)(h:cutAt P ops k st=some (d,s,n,xs.map enc,j))
  (cR:bu m L ((st.take s).put d (.own n ((xs.take j.toNat).map enc)))=some (l,H)) (hn:cf P pu ops (k+1) (sp m l H) Q):cf P pu ops k st Q:=by
 simp only[mJ,g_3,decide_eq_true_eq]at hc
 unfold cutAt at h
 split at h
 .rename_i o ho
  split at h
  .rename_i T s' hi hop
   split at h
   .rename_i n' xs' kk j' hs hj
    split at h
    .rename_i hT
     simp only[g_2,g_8]at h
     obtain⟨rfl,rfl,rfl,rfl,rfl⟩:=h
     obtain⟨h1,h2⟩:=bo ho
     have hb:Hs st (xs.map enc).length (some hi)=some j'.toNat:=by simp only[Hs,hj];simp[hc.1.2]
     have:=jO.cut (pu:=pu) hop hs hb (by rw[k_0];omega) hT.1 hT.2
     rw[<-List.map_take]at this
     exact pO h1 h2 this (da L (aL cR) hn)
    .cases h
   .cases h
  .cases h
 .cases h
def Fs(hz:mR z=some d)(hp:0<z.cells.size)(m:Nat):je g w (Builtin.zeroCells z.cells m) z.cells.size (List.replicate m d):=by
 have hrd:Rd g w z d:=oB hz
 obtain⟨c1,c2⟩:=hrd.cells
 refine⟨by simp[Builtin.zeroCells],λi x hx=>?_,λi x hx j y hy=>?_⟩
 .grind
 .rw[List.getElem?_replicate]at hx
  split at hx
  .rename_i hi
   cases hx
   obtain⟨u,u1,u2,u3⟩:=c2 j y hy
   refine⟨u,?_,u2,u3⟩
   have hj:j<z.cells.size:=(m_0.1 u1).1
   have hlt:i * z.cells.size+j<m * z.cells.size:=by
    have:(i+1) * z.cells.size<=m * z.cells.size:=h_7 _ hi
    rw[v_9]at this;omega
   have hm:(i * z.cells.size+j) % z.cells.size=j:=by rw[Nat.mul_comm,Nat.mul_add_mod];exact Nat.mod_eq_of_lt hj
   simp only[Builtin.zeroCells]
   grind
  .cases hx
def RI(P:Program)(ops:Array Oper)(k:Nat)(st:St):Option (Nat×Nat×Int×Sh.D):=
 match fR ops k st with
 |some o=>match o.op,o.dst with
  |.call c,some d=>match c.callee,c.args.toList,c.argTypes.toList with
   |.builtin .append,[x,y],[T,T2]=>match cx st x,cx st y,P.underlying T,P.underlying T2 with
    |some .cG,some (.int .i64 m),some (.slice e),some (.int _)=>match P.info? e with
     |some i=>match i.zero with
      |some z=>match mR z with
       |some zd=>if z.cells.size=i.size/\0<i.size/\i.bytes<=65536 then some (d,i.size,m,zd)else none
       |none=>none
      |none=>none
     |none=>none
    |_,_,_,_=>none
   |_,_,_=>none
  |_,_=>none
 |none=>none
def Ii{d n:Nat}{m:Int}{zd:Sh.D}(nn:Nat)(H:List aN)(L:List Nat)(l:List (Nat×SV))(hm:(decide (0<m)&&decide (m<=(room:Nat)))=true)(h:RI P ops k st=some (d,n,m,zd))
  (cR:bu nn L (st.put (some d) (.own n (List.replicate m.toNat zd)))=some (l,H)) (hn:cf P pu ops (k+1) (sp nn l H) Q):cf P pu ops k st Q:=by
 simp only[g_3,decide_eq_true_eq]at hm
 unfold RI at h
 split at h
 .rename_i o ho
  split at h
  .rename_i c d' hop hd
   split at h
   .rename_i x y T T2 hc ha ht
    split at h
    .rename_i m' e ik hx hy hu hI
     split at h
     .rename_i ti hi
      split at h
      .rename_i z hz
       split at h
       .rename_i zd' hzd
        split at h
        .rename_i hs
         simp only[g_2,g_8]at h
         obtain⟨rfl,rfl,rfl,rfl⟩:=h
         obtain⟨s1,s2,s3⟩:=hs
         obtain⟨h1,h2⟩:=bo ho
         refine pO h1 h2 (jO.value λa w g hr=>?_) (da L (aL cR) hn)
         obtain⟨a0,hv⟩:=Rd.jA (cw hr hx)
         obtain⟨M,rfl⟩: ∃M:Nat,m'=M:=⟨m'.toNat,ω⟩
         have hyv:a.eval y=.int .i64 M:=cg hr hy rfl
         obtain⟨gc,hge,hrun⟩:=vD (P:=P) (x:=x) (y:=y) (w:=w) (m:=M) (olds:= #[]) hv hyv hu hI hi hz ω (by cases a0<;>simp[Builtin.firstCells,loadCells,loadCellsFrom]) ω ω (by have:=hm.2;unfold room maxLen at *;omega) (by have:=hm.2;unfold room at this;have:(0+M) * ti.bytes<=16777216 * 65536:=Nat.mul_le_mul ω s3;omega)
         have hex:=hrun o o.type
         have ho2:({o with op:=.call ⟨.builtin .append,#[x,y],#[T,T2]⟩,type:=o.type}:Oper)=o:=by
          cases o
          rename_i dst op type pos after guard
          simp only at hop hd
          subst hop
          obtain⟨cc,ca,ct⟩:=c
          obtain⟨ca⟩:=ca
          obtain⟨ct⟩:=ct
          grind
         rw[ho2]at hex
         simp only[q_4,Array.empty_append]at hex hge
         have hkeep: ∀o',aO o' g w (g.xe w.heap.size (.bN (.slot d'))) (w.drew.alloc (.cells (Builtin.zeroCells z.cells M++Builtin.zeroCells z.cells (gc - M)) e)):=λo'=>aO.alloc (w:=w.drew)
         rw[hd]
         refine⟨_,_,g.xe w.heap.size (.bN (.slot d')),hex,?_,Fr.of (λ_=>False) ψ ψ (λo _=>hkeep o) rfl⟩
         refine hr.NH hkeep rfl λ_ _=>?_
         have hz0:=Fs (g:=g) (w:=w) hzd ω M
         rw[s1]at hz0
         simp only[w_6]
         exact cy.new hz0 (heap_alloc w.drew _) ψ ψ hge (by rw[size_zeroCells,s1]) (hkeep _) (λ_ _ h=>h)
        .cases h
       .cases h
      .cases h
     .cases h
    .cases h
   .cases h
  .cases h
 .cases h
def OK(P:Program)(ops:Array Oper)(k:Nat)(st:St):Option (Option Tmp):=
 match fR ops k st with
 |some o=>match o.op with
  |.call c=>match c.callee,c.args.toList,c.argTypes.toList with
   |.builtin .cap,[x],[T]=>match cx st x with
    |some .cG=>match P.underlying T with
     |some (.slice _)=>some o.dst
     |_=>none
    |_=>none
   |_,_,_=>none
  |_=>none
 |none=>none
def uc(h:OK P ops k st=some d:=by kernel_rfl):pP P ops k st d (.d (.int .i64 0)):=by
 unfold OK at h
 split at h
 .rename_i o ho
  split at h
  .rename_i c hop
   split at h
   .rename_i x T hc ha ht
    split at h
    .rename_i hx
     split at h
     .rename_i e hu
      cases h
      obtain⟨h1,h2⟩:=bo ho
      refine⟨o,h1,h2,λa w g hr=>?_,rfl,rfl⟩
      obtain⟨a0,hv⟩:=Rd.jA (cw hr hx)
      refine⟨.int .i64 0,Rd.int,λw' _=>?_⟩
      obtain⟨cc,ca,ct⟩:=c
      obtain⟨ca⟩:=ca
      obtain⟨ct⟩:=ct
      simp only at hc ha ht
      subst hc ha ht
      unfold execOp
      rw[hop]
      simp only[resolve,p_2,h_3,q_7,Sem.run_bind,Sem.run_pure,Result.andThen_ok,invoke,builtin]
      simp[Builtin.cap_,run_underlying hu,hv,goInt]
     .cases h
    .cases h
   .cases h
  .cases h
 .cases h
def Rk(P:Program)(ops:Array Oper)(k:Nat)(st:St):Option (Option Tmp):=
 match fR ops k st with
 |some o=>match o.op with
  |.slice T x none (some hi) none=>match cx st x,cx st hi with
   |some .cG,some (.int .i64 j)=>if j=0/\fy P T≠0 then some o.dst else none
   |_,_=>none
  |_=>none
 |none=>none
def It(h:Rk P ops k st=some d:=by kernel_rfl):pP P ops k st d (.d .cG):=by
 unfold Rk at h
 split at h
 .rename_i o ho
  split at h
  .rename_i T x hi hop
   split at h
   .rename_i j hx hj
    split at h
    .rename_i hc
     cases h
     obtain⟨rfl,hz⟩:=hc
     obtain⟨h1,h2⟩:=bo ho
     refine⟨o,h1,h2,λa w g hr=>?_,rfl,rfl⟩
     obtain⟨e,hu,he⟩:=oX hz
     have hue:P.underlying T=some (.slice (P.elem T)):=by rw[pw hu];exact hu
     have hsz: ∀w',(sizeOf (P.elem T)).run P w'=.ok (P.cellsOf e) w':=λw'=>by rw[pw hu];exact gh (by rw[<-he];exact hz) w'
     obtain⟨a0,hv⟩:=Rd.jA (cw hr hx)
     have hb:Hs st 0 (some hi)=some 0:=by simp[Hs,fJ,hj]
     have hbd:=mT (P:=P) hr (sl:=true) (lo:=none) (len:=0) (cap:=0) (i:=0) rfl hb (h_0 _) (h_0 _) (q_9 _)
     refine⟨sliced a0 0 0 0 (P.cellsOf e),Rd.cG,λw' _=>?_⟩
     unfold execOp;rw[hop]
     simp only[hv,Sem.run_bind]
     rw[run_sliceAt_slice w' T _ _ _ _ hue,run_slice_any w' T a0 0 0 hue]
     simp_all
    .cases h
   .cases h
  .cases h
 .cases h
end
def ei(H:Hp)(i off:Nat)(v0:Value):Hp:=match H[i]? with
 |some (.cells cs)=>match cs[off]? with
  |some (.own n xs)=>H.set i (.cells (cs.set off (.mf v0 n xs)))
  |_=>H
 |_=>H
def wE(H:Hp)(i off:Nat)(v0:Value):Hp:=match H[i]? with
 |some (.cells cs)=>H.set i (.cells (cs.set off (.d (.raw v0))))
 |_=>H
def xW{α:Type}{c:Cd α}{xs:List α}(v0:Value)(h:dQ n c H i off=some (xs,H')):
  ∃cs,H[i]? =some (.cells cs)/\cs[off]? =some (.own n (xs.map c.enc))/\ei H i off v0=H.set i (.cells (cs.set off (.mf v0 n (xs.map c.enc))))/\H'=H.set i (.cells (cs.set off .undef))/\
   wE H' i off v0=H.set i (.cells (cs.set off (.d (.raw v0)))):=by
 obtain⟨cs,e1,e2,rfl⟩:=GQ h
 refine⟨cs,e1,e2,by simp only[ei,e1,e2],rfl,?_⟩
 simp only[wE,g_0 (aU e1),m_9]
def Mf{α:Type}{c:Cd α}{xs:List α}(v0:Value)(h:dh n c H i off xs=some H'):
  ∃cs,H[i]? =some (.cells cs)/\off<cs.length/\wE H i off v0=H.set i (.cells (cs.set off (.d (.raw v0))))/\H'=H.set i (.cells (cs.set off (.own n (xs.map c.enc)))):=by
 obtain⟨cs,e1,e2,rfl⟩:=GU h
 exact⟨cs,e1,e2,by simp only[wE,e1],rfl⟩
section
variable {P:Program} {pu:Bool} {ops:Array Oper} {k:Nat} {st:St} {Q:St->Prop}
def ym(h:Rel ⟨T,H⟩ a w g)(ho:i<H.length->RO g w i o'):Rel ⟨T,H.set i o'⟩ a w g:=by
 refine⟨h.len,h.dS,h.tmp,by simpa using h.hp.1,λi' o hi'=>?_⟩
 by_cases e:i=i'
 .grind
 .simp only at hi'
  rw[g_1 e]at hi'
  exact h.hp.2 i' o hi'
def Rel.mf(i off:Nat)(h:Rel ⟨T,H⟩ a w g): ∃v0,Rel ⟨T,ei H i off v0⟩ a w g:=by
 by_cases hc: ∃cs n xs,H[i]? =some (.cells cs)/\cs[off]? =some (.own n xs)
 .obtain⟨cs,n,xs,e1,e2⟩:=hc
  obtain⟨kb,c,T0,f1,f2,f3,f4,f5⟩:=h.hp.2 i _ e1
  obtain⟨u,u1,u2,u3⟩:=f5 off _ e2
  refine⟨u,?_⟩
  simp only[ei,e1,e2]
  refine ym h λ_=>⟨kb,c,T0,f1,f2,f3,by simp[f4],λj s hj=>?_⟩
  by_cases e:off=j
  .subst e
   rw[g_0 (aU e2)]at hj
   cases hj
   exact⟨u,u1,⟨rfl,u2⟩,u3⟩
  grind
 .refine⟨undef,?_⟩
  have:ei H i off undef=H:=by
   unfold ei
   grind
  rw[this]
  exact h
def JM(h:Rel ⟨T,ei H i off v0⟩ a w g):Rel ⟨T,H⟩ a w g:=by
 unfold ei at h
 split at h
 .rename_i cs e1
  split at h
  .rename_i n xs e2
   have hs:(H.set i (.cells (cs.set off (.mf v0 n xs)))).set i (.cells cs)=H:=by
    rw[m_9]
    apply m_6
    grind
   rw[<-hs]
   refine ym h λhlt=>?_
   obtain⟨kb,c,T0,f1,f2,f3,f4,f5⟩:=h.hp.2 i _ (g_0 (aU e1))
   refine⟨kb,c,T0,f1,f2,f3,by simpa using f4,λj s hj=>?_⟩
   by_cases e:off=j
   .subst e
    rw[e2]at hj
    cases hj
    obtain⟨u,u1,u2,u3⟩:=f5 off _ (g_0 (aU e2))
    exact⟨u,u1,u2.2,u3⟩
   simp_all
  .exact h
 .exact h
def lZ{Q:Exit->St->Prop}(i off:Nat)(h: ∀v0,SW P pu c (sp n l (ei H i off v0)) Q):SW P pu c (sp n l H) Q:=by
 intro a w g hr
 obtain⟨v0,hr⟩:=Rel.mf i off hr
 exact h v0 a w g hr
def pC(h:pP P ops k (sp n l H) d s):pP P ops k (sp n l (ei H i off v0)) d s:=by
 obtain⟨o,h1,h2,h3,h4,h5⟩:=h
 exact⟨o,h1,h2,λa w g hr=>h3 a w g (JM hr),h4,h5⟩
def Rw(P:Program)(ops:Array Oper)(k:Nat)(st:St):Option (Option Tmp×Nat×Nat):=
 match fR ops k st with
 |some o=>match o.op with
  |.load T x=>if(!(P.underlying T).isNone&&!fI P T)=true then match sk st x with
   |some (i,off)=>some (o.dst,i,off)
   |none=>none
   else none
  |_=>none
 |none=>none
def gY{α:Type}{c:Cd α}{xs:List α}(hx:dQ n' c H0 i off=some (xs,H))
  (h:Rw P ops k (sp n l (ei H0 i off v0))=some (d,i,off)):pP P ops k (sp n l (ei H0 i off v0)) d (.d (.raw v0)):=by
 obtain⟨cs,e1,e2,e3,-,-⟩:=xW v0 hx
 unfold Rw at h
 split at h
 .rename_i o ho
  split at h
  .rename_i T x hop
   split at h
   .rename_i hc
    simp only[g_3,k_4]at hc
    split at h
    .rename_i i' off' hp
     simp only[g_2,g_8]at h
     obtain⟨rfl,rfl,rfl⟩:=h
     obtain⟨g1,g2⟩:=bo ho
     refine⟨o,g1,g2,λa w g hr=>?_,rfl,rfl⟩
     obtain⟨kb,q1,q3⟩:=kW hr hp
     have hH:(sp n l (ei H0 i' off' v0)).H[i']? =some (.cells (cs.set off' (.mf v0 n' (xs.map c.enc)))):=by
      show(ei H0 i' off' v0)[i']? =_
      grind
     obtain⟨kb',c',T0,f1,f2,f3,f4,f5⟩:=hr.hp.2 i' _ hH
     rw[q1]at f1
     cases f1
     obtain⟨u,u1,u2,u3⟩:=f5 off' _ (g_0 (aU e2))
     obtain⟨rfl,-⟩:=u2
     refine⟨u,.raw u3,λw' hup=>?_⟩
     unfold execOp
     rw[hop]
     simp only[Instr.loadAt,q3,Instr.sureAddr,Sem.run_bind,Sem.run_pure,Result.andThen_ok,eh hc.1 hc.2 (hup _ _ f3) u1]
    .cases h
   .cases h
  .cases h
 .cases h
def B8{a:Act}{w:World}{g:Gh}{T:List SV}{H0:Hp}{i off t n:Nat}{v0:Value}{xs:List D}{cs:List SV}(hr:Rel ⟨T,H0.set i (.cells (cs.set off (.mf v0 n xs)))⟩ a w g)(e1:H0[i]? =some (.cells cs))(e2:off<cs.length)
  (ht:T[t]? =some (.d (.raw v0))) (hn:T.all er=true):
  ∃g',Rel ⟨T.set t (.mf v0 n xs),H0.set i (.cells (cs.set off (.d (.raw v0))))⟩ a w g'/\Fr false g w g' w:=by
 have hk: ∀o',o'≠.bN (.au i off)->aO o' g w (g.br (kO i off t)) w:=λo' h=>aO.br (od h)
 obtain⟨kb,c,T0,f1,f2,f3,f4,f5⟩:=hr.hp.2 i _ (g_0 (aU e1))
 obtain⟨u,u1,u2,u3⟩:=f5 off _ (g_0 e2)
 obtain⟨rfl,u2⟩:=u2
 refine⟨g.br (kO i off t),?_,h_0 _,hk _ ψ,hk _ ψ,λ_ _ h=>h,nofun,nofun,nofun,⟨rfl,rfl⟩⟩
 refine bc hr (by simpa using hr.len) hr.dS (λ_ _ h=>h) (λt' s hs=>?_) ⟨by simpa[Gh.br]using hr.hp.1,λi' o' hi'=>?_⟩
 .by_cases e:t=t'
  .subst e
   simp only at hs
   rw[g_0 (aU ht)]at hs
   cases hs
   have h0:valOf a t=u:=by
    have:Rd g w (valOf a t) (.raw u):=hr.tmp t _ ht
    generalize valOf a t=v at this
    cases this with
    |raw _=>rfl
   refine .inr (.inl ⟨h0,?_⟩)
   .rw[h0]
    exact cy.br (od ψ) (by simp[kO]) u2
  .simp only at hs
   rw[g_1 e]at hs
   have hnh:er s=true:=h_4.1 hn s (h_2.2 ⟨t',hs⟩)
   refine .inr (.inr ⟨hs,rfl,λo' ho'=>hk o' (λe2=>?_),λs0 e0=>⟨rfl,λy hy hb=>?_⟩⟩)
   .subst e2;exact oI hnh ho'
   .have hne:t≠s0:=λe=>by
     subst e
     rw[show(⟨T,H0.set i (.cells (cs.set off (.mf u n xs)))⟩:St).tmps[t]? =some (.d (.raw u))from ht]at hy
     cases hy
     exact hb rfl
    grind
 .simp only at hi'
  by_cases e:i=i'
  .subst e
   rw[g_0 (aU e1)]at hi'
   cases hi'
   refine⟨kb,c,T0,f1,by simp[Gh.br,f2,kO],f3,by simpa using f4,λj s hj=>?_⟩
   by_cases ej:off=j
   .subst ej
    rw[g_0 e2]at hj
    cases hj
    exact⟨u,u1,.raw u3,u3⟩
   .rw[g_1 ej]at hj
    obtain⟨v,v1,v2,v3⟩:=f5 j s φ
    exact⟨v,v1,v2.bg (hk _ ψ) (hk _ χ) (λ_ _ h=>h),v3⟩
  .rw[g_1 e]at hi'
   exact(hr.hp.2 i' o' φ).nO (hk _ ψ) (hk _ ψ) (λj=>hk _ χ) (λ_ _ h=>h)
def ru(h: ∀a w g,Rel st a w g-> ∃g',Rel st' a w g'/\Fr pu g w g' w)(hn:cf P pu ops k st' Q):cf P pu ops k st Q:=by
 intro a w g hr Qc hq
 obtain⟨g',r,f⟩:=h a w g hr
 exact hn a w g' r Qc λiY a2 w2 g2 q2 r2 f2=>hq iY a2 w2 g2 q2 r2 (f.trans f2)
def yr{α:Type}{c:Cd α}{n n' t i off:Nat}{l0:List (Nat×SV)}{xs:List α}{H0 H:Hp}{v0:Value}(L:List Nat)(l:List (Nat×SV))(hx:dQ n' c H0 i off=some (xs,H))
  (h1:(sp n l0 (ei H0 i off v0)).tmps[t]? =some (.d (.raw v0))) (h2:(sp n l0 (ei H0 i off v0)).tmps.all er=true)
  (cR:bu n L ⟨(sp n l0 (ei H0 i off v0)).tmps.set t (.mf v0 n' (xs.map c.enc)),wE H i off v0⟩=some (l,wE H i off v0)) (hn:cf P false ops k (sp n l (wE H i off v0)) Q):cf P false ops k (sp n l0 (ei H0 i off v0)) Q:=by
 obtain⟨cs,e1,e2,e3,rfl,e5⟩:=xW v0 hx
 refine ru (λa w g hr=>?_) (da L (aL cR) hn)
 have hr':Rel ⟨(sp n l0 (ei H0 i off v0)).tmps,H0.set i (.cells (cs.set off (.mf v0 n' (xs.map c.enc))))⟩ a w g:=by rw[<-e3];exact hr
 rw[e5]
 exact B8 hr' e1 (aU e2) h1 h2
def JL{a:Act}{w:World}{g:Gh}{T:List SV}{H0:Hp}{i off t n:Nat}{v0:Value}{xs:List D}{cs:List SV}(hr:Rel ⟨T.set t (.mf v0 n xs),H0.set i (.cells (cs.set off (.d (.raw v0))))⟩ a w g)(e1:H0[i]? =some (.cells cs))(e2:off<cs.length)(ht:t<T.length):
  Rel ⟨T.set t (.own n xs),H0.set i (.cells (cs.set off .undef))⟩ a w g:=by
 have h1:Rel ⟨T.set t (.own n xs),H0.set i (.cells (cs.set off (.d (.raw v0))))⟩ a w g:=by
  refine bc hr (by simpa using hr.len) hr.dS (λ_ _ h=>h) (λt' s hs=>?_) hr.hp
  by_cases e:t=t'
  .subst e
   simp only at hs
   rw[g_0 ht]at hs
   cases hs
   exact .inr (.inl (hr.tmp t _ (g_0 ht)).2)
  .simp only at hs
   rw[g_1 e]at hs
   refine .inr (.inr ⟨φ,rfl,λo' _=>aO.refl _ _ _,λs0 e0=>⟨rfl,λy hy hb=>?_⟩⟩)
   by_cases e2:t=s0
   .subst e2
    simp only at hy
    rw[g_0 ht]at hy
    cases hy
    exact⟨.own n xs,g_0 ht,rfl⟩
   grind
 have hs:H0.set i (.cells (cs.set off .undef))=(H0.set i (.cells (cs.set off (.d (.raw v0))))).set i (.cells (cs.set off .undef)):=by rw[m_9]
 rw[hs]
 refine ym h1 λ_=>?_
 obtain⟨kb,c,T0,f1,f2,f3,f4,f5⟩:=h1.hp.2 i _ (g_0 (aU e1))
 refine⟨kb,c,T0,f1,f2,f3,by simpa using f4,λj s hj=>?_⟩
 by_cases e:off=j
 .subst e
  rw[g_0 e2]at hj
  cases hj
  obtain⟨u,u1,u2,u3⟩:=f5 off _ (g_0 e2)
  exact⟨u,u1,trivial,u3⟩
 simp_all
def nC{α:Type}{c:Cd α}{n n' t i off:Nat}{l0:List (Nat×SV)}{xs:List α}{H0 H:Hp}{v0:Value}(L:List Nat)(l:List (Nat×SV))(hx:dQ n' c H0 i off=some (xs,H))
  (h1:(sp n l0 (ei H0 i off v0)).tmps[t]? =some (.d (.raw v0))) (h2:(sp n l0 (ei H0 i off v0)).tmps.all er=true)
  (cR:bu n L ⟨(sp n l0 (ei H0 i off v0)).tmps.set t (.own n' (xs.map c.enc)),H⟩=some (l,H)) (hn:cf P false ops k (sp n l H) Q):cf P false ops k (sp n l0 (ei H0 i off v0)) Q:=by
 obtain⟨cs,e1,e2,e3,rfl,e5⟩:=xW v0 hx
 refine ru (λa w g hr=>?_) (da L (aL cR) hn)
 have hr':Rel ⟨(sp n l0 (ei H0 i off v0)).tmps,H0.set i (.cells (cs.set off (.mf v0 n' (xs.map c.enc))))⟩ a w g:=by rw[<-e3];exact hr
 obtain⟨g',r,f⟩:=B8 hr' e1 (aU e2) h1 h2
 exact⟨g',JL r e1 (aU e2) (aU h1),f⟩
def wZ(hr:Rel ⟨T,H0.set i (.cells (cs.set off (.d (.raw v0))))⟩ a w g)(e1:H0[i]? =some (.cells cs))(e2:off<cs.length)
  (hs:T[s]? =some (.mf v0 n xs)) (hn:T.all er=true):
  ∃g',Rel ⟨((⟨T,H0⟩:St).take s).tmps,H0.set i (.cells (cs.set off (.own n xs)))⟩ a w g'/\Fr false g w g' w:=by
 have hk: ∀o',o'≠.bN (.slot s)->aO o' g w (g.br (ig i off s)) w:=λo' h=>aO.br (oA h)
 obtain⟨kb,c,T0,f1,f2,f3,f4,f5⟩:=hr.hp.2 i _ (g_0 (aU e1))
 obtain⟨u,u1,u2,u3⟩:=f5 off _ (g_0 e2)
 have hu:u=v0:=by cases u2;rfl
 obtain⟨hv,hO⟩:=hr.tmp s _ hs
 refine⟨g.br (ig i off s),?_,h_0 _,hk _ ψ,hk _ ψ,λ_ _ h=>h,nofun,nofun,nofun,⟨rfl,rfl⟩⟩
 refine bc hr (by simpa using hr.len) hr.dS (λ_ _ h=>h) (λt sv hts=>?_) ⟨by simpa[Gh.br]using hr.hp.1,λi' o' hi'=>?_⟩
 .rcases cJ hts with h|⟨h1,h2,h3⟩
  .exact .inl h
  .have hnh:er sv=true:=h_4.1 hn sv (h_2.2 ⟨t,h1⟩)
   refine .inr (.inr ⟨h1,rfl,λo' ho'=>hk o' (λe2=>?_),λs0 e0=>⟨rfl,λy hy hb=>⟨y,?_,rfl⟩⟩⟩)
   .subst e2
    rcases pT ho' with h|h
    .exact h2 h.symm
    .rw[h3]at h;cases h
   .have hne:s0≠s:=λe2=>by rw[e2]at e0;rw[cH e0]at h3;cases h3
    show(((⟨T,H0⟩:St).kill s).set s .undef).tmps[s0]? =some y
    simp only[St.set,g_1 (j_6 hne)]
    have hy':T[s0]? =some y:=hy
    simp[St.kill,hy',eQ hb]
 .simp only at hi'
  by_cases e:i=i'
  .subst e
   rw[g_0 (aU e1)]at hi'
   cases hi'
   refine⟨kb,c,T0,f1,by simp[Gh.br,f2,ig],f3,by simpa using f4,λj s' hj=>?_⟩
   by_cases ej:off=j
   .subst ej
    rw[g_0 e2]at hj
    cases hj
    refine⟨u,u1,?_,u3⟩
    rw[hu,<-hv]
    exact cy.br (oA ψ) (by simp[ig]) hO
   .rw[g_1 ej]at hj
    obtain⟨v,v1,v2,v3⟩:=f5 j s' φ
    exact⟨v,v1,v2.bg (hk _ ψ) (hk _ ψ) (λ_ _ h=>h),v3⟩
  .rw[g_1 e]at hi'
   exact(hr.hp.2 i' o' φ).nO (hk _ ψ) (hk _ ψ) (λj=>hk _ ψ) (λ_ _ h=>h)
def yo{α:Type}{c:Cd α}{xs:List α}(L:List Nat)(l:List (Nat×SV))(hx:dh n' c H0 i off xs=some H)
  (h1:(sp n l0 (wE H0 i off v0)).tmps[s]? =some (.mf v0 n' (xs.map c.enc))) (h2:(sp n l0 (wE H0 i off v0)).tmps.all er=true)
  (cR:bu n L ⟨((sp n l0 H0).take s).tmps,H⟩=some (l,H)) (hn:cf P false ops k (sp n l H) Q):cf P false ops k (sp n l0 (wE H0 i off v0)) Q:=by
 obtain⟨cs,e1,e2,e3,rfl⟩:=Mf v0 hx
 refine ru (λa w g hr=>?_) (da L (aL cR) hn)
 have hr':Rel ⟨(sp n l0 (wE H0 i off v0)).tmps,H0.set i (.cells (cs.set off (.d (.raw v0))))⟩ a w g:=by rw[<-e3];exact hr
 exact wZ hr' e1 e2 h1 h2
def RD(P:Program)(ops:Array Oper)(k:Nat)(st:St):Option (Option Tmp×Nat×Nat×List D×Int):=
 match fR ops k st with
 |some o=>match o.op with
  |.indexAddr T (.tmp s) i=>match fJ st i with
   |some (_,j)=>match Dk st s with
    |some (_,n,xs)=>if n≠0/\n=fy P T/\(arrayOf P T).isNone=true/\o.dst≠some s then some (o.dst,s,n,xs,j)else none
    |none=>none
   |_=>none
  |_=>none
 |none=>none
def Cp{α:Type}{enc:α->D}{xs:List α}{x:α}(hx:idx xs j=some x)(h:RD P ops k st=some (d,s,n,xs.map enc,j):=by kernel_rfl):pP P ops k st d (.ep s n j.toNat):=by
 unfold RD at h
 split at h
 .rename_i o ho
  split at h
  .rename_i T s' i hop
   split at h
   .rename_i kk j' hi
    split at h
    .rename_i p n' xs' hown
     split at h
     .rename_i hc
      simp only[g_2,g_8]at h
      obtain⟨rfl,rfl,rfl,rfl,rfl⟩:=h
      obtain⟨g1,g2⟩:=bo ho
      obtain⟨hn0,hnT,hna,hd⟩:=hc
      refine⟨o,g1,g2,λa w g hr=>?_,by simpa[kx]using hd,rfl⟩
      have hO:=(we.1 (hr.tmp s' _ (wg hown))).2
      obtain⟨h0,hj⟩:=nZ hx
      have hlt:j'.toNat<xs.length:=aU hj
      rcases hO with⟨he,-⟩|⟨kb,off,cap,c,T0,us,hv,hk,hb,hl,hz,hw,hcc,hrr⟩
      .rw[q_6]at he;subst he;simp at hlt
      .unfold fy at hnT
       split at hnT
       .rename_i e hu
        refine⟨.pointer (some ⟨kb,off+j'.toNat * n',none⟩),⟨⟨_,wg hown,xG _ _ _⟩,kb,off,_,cap,hv,rfl⟩,λw' hup=>?_⟩
        have hidx:a.eval i=.int kk j':=by
         unfold fJ at hi
         split at hi
         .rename_i k1 n1 hv1
          cases hi
          exact cg hr hv1 rfl
         .cases hi
        unfold execOp;rw[hop]
        have hev:a.eval (.tmp s')=.slice (some ⟨kb,off,none⟩) (xs.map enc).length cap:=hv
        have hlt':j'<((xs.map enc).length:Int):=by rw[k_0];omega
        subst hnT
        simp only[hev,hidx,Sem.run_bind,nY hu hn0 h0 hlt' w',Result.andThen_ok,Sem.run_pure]
       .exact absurd hnT hn0
     .cases h
    .cases h
   .cases h
  .cases h
 .cases h
def Ru(P:Program)(ops:Array Oper)(k:Nat)(st:St):Option (Option Tmp×IntKind×Int×Int):=
 match fR ops k st with
 |some o=>match o.op with
  |.call c=>match c.callee,c.args.toList with
   |.builtin .max,[x,y]=>match fJ st x,fJ st y with
    |some (k1,i),some (k2,j)=>if k1=k2 then some (o.dst,k1,i,j)else none
    |_,_=>none
   |_,_=>none
  |_=>none
 |none=>none
def Bt(hr:Rel st a w g)(hi:fJ st x=some (kk,i)):a.eval x=.int kk i:=by
 unfold fJ at hi
 split at hi
 .rename_i k1 n1 hv1
  cases hi
  exact cg hr hv1 rfl
 .cases hi
def PN(h:Ru P ops k st=some (d,kk,i,j):=by kernel_rfl):pP P ops k st d (.d (.int kk (bif decide (i<j)then j else i))):=by
 unfold Ru at h
 split at h
 .rename_i o ho
  split at h
  .rename_i c hop
   split at h
   .rename_i x y hc ha
    split at h
    .rename_i k1 i' k2 j' h1 h2
     split at h
     .rename_i hk
      simp only[g_2,g_8]at h
      obtain⟨rfl,rfl,rfl,rfl⟩:=h
      subst hk
      obtain⟨g1,g2⟩:=bo ho
      refine⟨o,g1,g2,λa w g hr=>⟨_,Rd.int,λw' _=>?_⟩,rfl,rfl⟩
      have e1:=Bt hr h1
      have e2:=Bt hr h2
      obtain⟨cc,ca,ct⟩:=c
      obtain⟨ca⟩:=ca
      simp only at hc ha
      subst hc ha
      unfold execOp
      rw[hop]
      simp only[resolve,p_2,h_3,q_7,Sem.run_bind,Sem.run_pure,Result.andThen_ok,invoke,builtin,e1,e2]
      by_cases e:i'<j'<;>simp[Builtin.max_,Builtin.max2,e]<;>omega
     .cases h
    .cases h
   .cases h
  .cases h
 .cases h
end
def PO(n:Nat)(us:Nat->Value):D:=.agg ((List.range n).map λj=>.raw (us j))
def Kg(n:Nat)(us:Nat->Value):(PO n us).cells.length=n:=by simp[PO,D.cells]
def Kh{n:Nat}{us:Nat->Value}(h:j<n):(PO n us).cells[j]? =some (.raw (us j)):=by
 simp[PO,D.cells,h_1,List.getElem?_range,h]
def Qb{n:Nat}{us:Nat->Value}(h:(PO n us).cells[j]? =some y):j<n/\y=.raw (us j):=by
 have hlt:=aU h
 rw[Kg]at hlt
 rw[Kh hlt]at h
 grind
def lC(g:Gh)(w:World)(n:Nat)(zs xs:List D):Prop:=
 zs.length=xs.length/\ ∀(i:Nat) (x:D),xs[i]? =some x->x.cells.length=n/\ ∃us:Nat->Value,zs[i]? =some (PO n us)/\ ∀(j:Nat) (y:D),x.cells[j]? =some y->Rd g w (us j) y/\(us j).oneCell'=true
section
variable {g g':Gh} {w w':World} {n:Nat}
def lC.nil:lC g w n [] []:=⟨rfl,ψ⟩
def lC.append{a:List D}(h1:lC g w n a b)(h2:lC g w n c d):lC g w n (a++c) (b++d):=by
 refine⟨by simp[h1.1,h2.1],λi x hx=>?_⟩
 by_cases hi:i<b.length
 .rw[h_6 hi]at hx
  rw[h_6 (by rw[h1.1];exact hi)]
  exact h1.2 i x hx
 .rw[h_5 ω]at hx
  rw[h_5 (by rw[h1.1];omega),h1.1]
  exact h2.2 _ x hx
def lC.flatten: ∀{zss yss:List (List D)},zss.length=yss.length->(∀(j:Nat) (z y:List D),zss[j]? =some z->yss[j]? =some y->lC g w n z y)->lC g w n zss.flatten yss.flatten
 |[],[],_,_=>lC.nil
 |z::zss,y::yss,hl,h=>by
  rw[p_8,p_8]
  exact(h 0 z y rfl rfl).append (lC.flatten (by simpa using hl) λj z' y' h1 h2=>h (j+1) z' y' (by simpa using h1) (by simpa using h2))
 |[],y::yss,hl,_=>by simp at hl
 |z::zss,[],hl,_=>by simp at hl
def lC.bg(hk:aO .free g w g' w')(hρ:eB g g')(h:lC g w n zs xs):lC g' w' n zs xs:=by
 refine⟨h.1,λi x hx=>?_⟩
 obtain⟨h1,us,h2,h3⟩:=h.2 i x hx
 exact⟨h1,us,h2,λj y hy=>⟨(h3 j y hy).1.bg hk hρ,(h3 j y hy).2⟩⟩
def eZ.raw(hf: ∀k,IZ l (g.ow k)->gc.ow k=.free)(h:eZ g w l v n xs): ∃zs,lC g w n zs xs/\Rd gc w v (.list n zs):=by
 rcases h with⟨rfl,a,cap,rfl⟩|⟨k,off,cap,c,T,fz,us,rfl,hk,hb,hp,hn,hc,hr⟩
 .exact⟨[],lC.nil,.mu⟩
 .refine⟨(List.range xs.length).map λi=>PO n (us i),⟨ψ,λi x hx=>⟨hn i x hx,us i,?_,λj y hy=>⟨hr i x hx j y hy,(hc i x hx j y hy).2⟩⟩⟩,?_⟩
  .grind
  .have gi: ∀(i:Nat) (z:D),((List.range xs.length).map λi=>PO n (us i))[i]? =some z-> ∃x,xs[i]? =some x/\z=PO n (us i):=λi z hz=>by
    grind
   have gj: ∀(i:Nat) (z:D),((List.range xs.length).map λi=>PO n (us i))[i]? =some z-> ∀(j:Nat) (y:D),z.cells[j]? =some y->(c[off+i * n+j]? =some (us i j)/\(us i j).oneCell'=true)/\y=.raw (us i j):=λi z hz j y hy=>by
    obtain⟨x,hx,rfl⟩:=gi i z hz
    obtain⟨hj,rfl⟩:=Qb hy
    grind
   refine .list us (hf k hk) hb ψ hp (λi z hz=>?_) (λi z hz j y hy=>(gj i z hz j y hy).1) (λi z hz j y hy=>?_)
   .obtain⟨x,hx,rfl⟩:=gi i z hz;exact Kg _ _
   .obtain⟨h1,rfl⟩:=gj i z hz j y hy
    exact .raw h1.2
def HV(hk: ∀k b,w.heap[k]? =some b->gc.ow k=.bN o->g.ow k=.bN o')(hz:lC g w n zs xs)(h:cy gc w o v n zs):cy g w o' v n xs:=by
 rcases h with⟨rfl,a,rfl⟩|⟨k,off,cap,c,T,us',rfl,h1,h2,h3,h4,h5,h6,h7⟩
 .exact .inl ⟨q_3.1 hz.1.symm,a,rfl⟩
 .refine .inr ⟨k,off,cap,c,T,us',by rw[hz.1],hk k _ h2 h1,h2,by rw[<-hz.1];exact h3,h4,λi x hx=>(hz.2 i x hx).1,λi x hx j y hy=>?_,λi x hx j y hy=>?_⟩
  .obtain⟨e1,us,e2,e3⟩:=hz.2 i x hx
   grind
  .obtain⟨e1,us,e2,e3⟩:=hz.2 i x hx
   have hr:=h7 i _ e2 j _ (Kh (by rw[<-e1];exact aU hy))
   generalize us' i j=u at hr
   cases hr with
   |raw _=>exact(e3 j y hy).1
def HW{o:Loc}{v:Value}{rs:List Value}{zss:List (List D)}{gc:Gh}(hk: ∀k,g.ow k=.bN o->gc.ow k=.free)(hl:zss.length=rs.length)(hz: ∀(i:Nat) (u:Value) (z:List D),rs[i]? =some u->zss[i]? =some z->Rd gc w u (.list n z))
  (h:cy g w o v 1 (rs.map .raw)):Rd gc w v (.list 1 (zss.map (.list n))):=by
 rcases h with⟨h,a,rfl⟩|⟨k,off,cap,c,T,us,rfl,h1,h2,h3,h4,h5,h6,h7⟩
 .rw[q_6]at h
  subst h
  have:zss=[]:=q_3.1 hl
  subst this
  exact .mu
 .have key: ∀(i:Nat) (x:D),(zss.map (D.list n))[i]? =some x-> ∃z u,zss[i]? =some z/\rs[i]? =some u/\x=.list n z:=λi x hx=>by
   simp only[h_1,g_4]at hx
   obtain⟨z,hz,rfl⟩:=hx
   exact⟨z,rs[i]'(by rw[<-hl];exact aU hz),hz,ψ,rfl⟩
  refine .list us (hk k h1) h2 (by simp[hl]) h3 (λi x hx=>?_) (λi x hx j y hy=>?_) (λi x hx j y hy=>?_)
  .obtain⟨z,u,_,_,rfl⟩:=key i x hx;rfl
  .obtain⟨z,u,e1,e2,rfl⟩:=key i x hx
   have hj:j=0:=by have:=aU hy;simp[D.cells]at this;exact this
   grind
  .obtain⟨z,u,e1,e2,rfl⟩:=key i x hx
   have hj:j=0:=by have:=aU hy;simp[D.cells]at this;exact this
   subst hj
   cases hy
   have hr:=h7 i (.raw u) (by simp[e2]) 0 (.raw u) rfl
   generalize us i 0=u' at hr
   cases hr with
   |raw _=>exact hz i u z e2 e1
end
def mq(a:Act):St->List Nat->St
 |st,[]=>st
 |st,t::r=>mq a (st.set t (.d (.raw (valOf a t)))) r
section
variable {st:St} {a:Act} {w:World} {g:Gh}
def Rel.Sa(h:Rel st a w g)(ht:st.tmps[t]? =some s)(hb:gl s=0)(h1:(valOf a t).oneCell'=true):Rel (st.set t (.d (.raw (valOf a t)))) a w g:=by
 refine bc h (by simpa using h.len) h.dS (λ_ _ h=>h) (λt' s' hs=>?_) h.hp
 by_cases e:t=t'
 .subst e
  simp only[St.set]at hs
  rw[g_0 (aU ht)]at hs
  cases hs
  exact .inr (.inl (.raw h1))
 .simp only[St.set]at hs
  rw[g_1 e]at hs
  refine .inr (.inr ⟨hs,rfl,λo' _=>aO.refl _ _ _,λs0 e0=>⟨rfl,λy hy hb'=>?_⟩⟩)
  have hne:t≠s0:=λe=>by grind
  exact⟨y,by simp only[St.set];grind,rfl⟩
def tI: ∀{ts:List Nat} {st:St},(mq a st ts).tmps[t]? =(if t∈ts then(st.tmps[t]?).map (λ_=>.d (.raw (valOf a t)))else st.tmps[t]?)
 |[],st=>by simp[mq]
 |t0::ts,st=>by
  simp only[mq]
  rw[tI]
  by_cases e:t0=t
  .subst e
   simp only[h_8,true_or,if_true,St.set,List.getElem?_set]
   grind
  .have e':t≠t0:=λh=>e h.symm
   simp only[St.set,g_1 e,h_8,e',false_or]
def Kj: ∀{ts:List Nat} {st:St},(mq a st ts).H=st.H
 |[],st=>rfl
 |t0::ts,st=>by simp only[mq];rw[Kj];rfl
def tH: ∀{ts:List Nat} {st:St},(mq a st ts).tmps.length=st.tmps.length
 |[],st=>rfl
 |t0::ts,st=>by simp only[mq];rw[tH];simp
def Rel.mq: ∀{ts:List Nat} {st:St},Rel st a w g->(∀t∈ts,∃s,st.tmps[t]? =some s/\gl s=0/\(valOf a t).oneCell'=true)->Rel (mq a st ts) a w g
 |[],st,h,_=>h
 |t::ts,st,h,ht=>by
  obtain⟨s,h1,h2,h3⟩:=ht t ψ
  show Rel (Go.Sh.mq a (st.set t (.d (.raw (valOf a t)))) ts) a w g
  refine Rel.mq (ts:=ts) (h.Sa h1 h2 h3) λt' ht'=>?_
  by_cases e:t=t'
  .subst e
   exact⟨_,by simp only[St.set];rw[g_0 (aU h1)],rfl,h3⟩
  .obtain⟨s',a1,a2,a3⟩:=ht t' (by simp[ht'])
   exact⟨s',by simp only[St.set];grind,a2,a3⟩
end
def uH(d1:Nat):Own->Own
 |.free=>.free
 |.bN (.slot s)=>if s=d1 then .free else .out
 |.bN (.au _ _)=>.free
 |_=>.out
def DH(d1:Nat)(o:Own):uH d1 o=.free\/uH d1 o=.out:=by
 cases o with
 |bN l=>cases l<;>simp only[uH]<;>first|(split<;>simp)|simp
 |_=>simp[uH]
def zZ(st:St)(n:Nat):Operand->Option (Nat×List D)
 |.tmp t=>match st.tmps[t]? with
  |some (.cq (.au _ _) n' xs)=>if n'=n then some (t,xs)else none
  |some (.d (.list n' xs))=>if n'=n then some (t,xs)else none
  |_=>none
 |_=>none
def sP(st:St)(n:Nat):Nat->List (Nat×Operand)->Option (List (Nat×List D))
 |_,[]=>some []
 |k,(i,x)::r=>if i=k then match zZ st n x,sP st n (k+1) r with
   |some p,some ps=>some (p::ps)
   |_,_=>none
  else none
def nP{α:Type}:Nat->List α->List (Nat×α)
 |_,[]=>[]
 |k,x::r=>(k,x)::nP (k+1) r
def yA{α:Type}: ∀(l:List α) (k:Nat),(nP k l).length=l.length
 |[],_=>rfl
 |x::r,k=>by simp[nP,yA r]
def yy{α:Type}: ∀(l:List α) (k:Nat),(nP k l).map (·.2)=l
 |[],_=>rfl
 |x::r,k=>by simp[nP,yy r]
def yz: ∀(l:List Value) (k:Nat),qp 1 k (nP k (l.map D.raw))=true
 |[],_=>rfl
 |x::r,k=>by simp[nP,qp,yz r,D.cells]
def ri{st:St}{n:Nat}(h:zZ st n x=some (t,xs)):
  x=.tmp t/\(∃s,st.tmps[t]? =some s/\gl s=0)/\ ∀{a:Act} {w:World} {g:Gh},Rel st a w g-> ∃l,(l=none\/ ∃i j,l=some (.au i j))/\eZ g w l (valOf a t) n xs:=by
 unfold zZ at h
 split at h
 .rename_i t'
  split at h
  .rename_i i j n' xs' hs
   split at h
   .rename_i e
    cases h
    subst e
    exact⟨rfl,⟨_,hs,rfl⟩,λhr=>⟨some (.au i j),.inr ⟨i,j,rfl⟩,hr.tmp t _ hs⟩⟩
   .cases h
  .rename_i n' xs' hs
   split at h
   .rename_i e
    cases h
    subst e
    exact⟨rfl,⟨_,hs,rfl⟩,λhr=>⟨none,.inl rfl,Rd.toList (hr.tmp t _ hs)⟩⟩
   .cases h
  .cases h
 .cases h
def eZ.one{g:Gh}{w:World}{n:Nat}(h:eZ g w l v n xs):v.oneCell'=true:=by
 rcases h with⟨-,a,cap,rfl⟩|⟨k,off,cap,c,T,fz,us,rfl,-⟩<;>rfl
def uG{st:St}{n:Nat}: ∀{l:List (Nat×Operand)} {k:Nat} {ps:List (Nat×List D)},sP st n k l=some ps->
  (∀p∈ps,zZ st n (.tmp p.1)=some p)/\ ∀{jh:St} {vf:Nat->Value},(∀p∈ps,jh.tmps[p.1]? =some (.d (.raw (vf p.1))))->qY jh l=some (nP k ((ps.map λp=>vf p.1).map D.raw))
 |[],k,ps,h=>by
  simp only[sP,g_2]at h
  subst h
  exact⟨ψ,λ_=>rfl⟩
 |(i,x)::r,k,ps,h=>by
  simp only[sP]at h
  split at h
  .rename_i e
   subst e
   split at h
   .rename_i p qs h1 h2
    cases h
    obtain⟨t,xs⟩:=p
    obtain⟨a1,a2⟩:=uG h2
    obtain⟨rfl,-,-⟩:=ri h1
    refine⟨λq hq=>?_,λ{jh vf} hv=>?_⟩
    .grind
    .have e1:cx jh (.tmp t)=some (.raw (vf t)):=by
      have:=hv (t,xs) ψ
      simp only at this
      simp[cx,val,this]
     simp only[qY,e1,a2 (λq hq=>hv q (by simp[hq])),h_3,nP]
   .cases h
  .cases h
def kC:St->List Nat->St
 |st,[]=>st
 |st,t::r=>kC (st.set t .undef) r
def rV: ∀{ts:List Nat} {st:St},(kC st ts).tmps[t]? =(if t∈ts then(st.tmps[t]?).map (λ_=>SV.undef)else st.tmps[t]?)
 |[],st=>by simp[kC]
 |t0::ts,st=>by
  simp only[kC]
  rw[rV]
  by_cases e:t0=t
  .subst e
   simp only[h_8,true_or,if_true,St.set,List.getElem?_set]
   grind
  .have e':t≠t0:=λh=>e h.symm
   simp only[St.set,g_1 e,h_8,e',false_or]
def C2: ∀{ts:List Nat} {st:St},(kC st ts).H=st.H
 |[],st=>rfl
 |t0::ts,st=>by simp only[kC];rw[C2];rfl
def rU: ∀{ts:List Nat} {st:St},(kC st ts).tmps.length=st.tmps.length
 |[],st=>rfl
 |t0::ts,st=>by simp only[kC];rw[rU];simp
def Fg{st:St}(h:st.tmps[t]? =some s)(hd:t≠d)(hm:dM d s=false):(st.put (some d) x).tmps[t]? =some s:=by
 have hk:(st.kill d).tmps[t]? =some s:=by simp[St.kill,h,hm]
 have hs: ∀st':St,st'.tmps[t]? =some s->(st'.set d x).tmps[t]? =some s:=λst' h'=>by
  show(st'.tmps.set d x)[t]? =some s
  grind
 unfold St.put
 grind
def Ff{st:St}(h:d<st.tmps.length):(st.put (some d) x).tmps[d]? =some x:=by
 unfold St.put
 dsimp only
 rw[g_6 h]
 dsimp only
 split
 .show((st.kill d).tmps.set d x)[d]? =_
  simp_all
 .show(st.tmps.set d x)[d]? =_
  rw[g_0 h]
def KK{α β:Type}{R:α->β->Prop}: ∀{l:List α},(∀x∈l,∃y,R x y)-> ∃m:List β,m.length=l.length/\ ∀(j:Nat) (x:α) (y:β),l[j]? =some x->m[j]? =some y->R x y
 |[],_=>⟨[],rfl,ψ⟩
 |x::l,h=>by
  obtain⟨y,hy⟩:=h x ψ
  obtain⟨m,h1,h2⟩:=KK (l:=l) (λz hz=>h z (by simp[hz]))
  refine⟨y::m,by simp[h1],λj a b ha hb=>?_⟩
  grind
def OJ(P:Program)(ops:Array Oper)(k:Nat)(st:St)(n:Nat):Option (Nat×Nat×FuncId×List Nat×List (List D)):=
 match ops[k]?,ops[k+1]? with
 |some o1,some o2=>match o1.op,o2.op,o1.dst,o2.dst with
  |.buildSlice T len parts,.call c,some d1,some d2=>match c.callee,c.args.toList,ve P T,sP st n 0 parts.toList with
   |.value (.func f),[.tmp d1'],some (1,_),some ps=>
    if(d1'==d1&&d1 !=d2&&ps.length==len&&decide (len<=16777216)&&EJ P f&&o1.guard.isNone&&o2.guard.isNone&&!(ps.map (·.1)).contains d1&&decide (d1<st.tmps.length))=true
    then some (d1,d2,f,ps.map (·.1),ps.map (·.2))else none
   |_,_,_,_=>none
  |_,_,_,_=>none
 |_,_=>none
section
variable {P:Program} {ops:Array Oper} {k:Nat} {st:St} {Q:St->Prop}
def Ps{α:Type}{enc:α->Go.Sh.D}{yss:List (List α)}{n d1 d2:Nat}{f:FuncId}{ts:List Nat}(m:Nat)(H:List aN)(L:List Nat)(l:List (Nat×SV))
  (hC: ∀zss:List (List Go.Sh.D),zss.map List.length=yss.map List.length->PC P f [.d (.list 1 (zss.map (.list n)))] (.own n zss.flatten))
  (h:OJ P ops k st n=some (d1,d2,f,ts,yss.map (List.map enc)))
  (cR:bu m L (((kC st ts).take d1).put (some d2) (.own n (yss.flatten.map enc)))=some (l,H))
  (hn:cf P false ops (k+2) (sp m l H) Q):cf P false ops k st Q:=by
 unfold OJ at h
 split at h
 .rename_i o1 o2 ho1 ho2
  split at h
  .rename_i T len parts c d1' d2' hop1 hop2 hd1 hd2
   split at h
   .rename_i f' d1'' b ps hcal hargs hT hps
    split at h
    .rename_i hc
     simp only[g_3,beq_iff_eq,bne_iff_ne,ne_eq,decide_eq_true_eq,m_2,k_4,Bool.not_eq_eq_eq_not]at hc
     obtain⟨⟨⟨⟨⟨⟨⟨⟨rfl,hne⟩,hlen⟩,hsz⟩,hfn⟩,hg1⟩,hg2⟩,hnd⟩,hlt⟩:=hc
     simp only[g_2,g_8]at h
     obtain⟨rfl,rfl,rfl,rfl,hys⟩:=h
     have hn:=da L (aL cR) hn
     unfold cf at hn ⊢
     rw[drop_cons ho1,drop_cons ho2]
     obtain⟨hp1,hp2⟩:=uG hps
     intro a w g hr Qc hq
     have hts: ∀t∈ps.map (·.1),∃s,st.tmps[t]? =some s/\gl s=0/\(valOf a t).oneCell'=true:=λt ht=>by
      obtain⟨p,hp,rfl⟩:=w_0.1 ht
      obtain⟨-,⟨s,h1,h2⟩,h3⟩:=ri (hp1 p hp)
      obtain⟨lo,-,hl⟩:=h3 hr
      exact⟨s,h1,h2,hl.one⟩
     have hr1:=Rel.mq hr hts
     have hw1:fG ops (mq a st (ps.map (·.1))) o1=some true:=by unfold fG;rw[hg1]
     have hpd:=hp2 (jh:=mq a st (ps.map (·.1))) (vf:=valOf a) (λp hp=>by
      have hm:p.1∈ps.map (·.1):=w_0.2 ⟨p,hp,rfl⟩
      obtain⟨s,h1,-,-⟩:=hts p.1 hm
      rw[tI,if_pos hm,h1];rfl)
     have hop:=jO.buildSlice (P:=P) (pu:=true) (st:=mq a st (ps.map (·.1))) hop1 hd1 hT hpd (by rw[yA];simp[hlen]) (yz _ _) (by simpa using hsz)
     rw[yy]at hop
     obtain⟨a1,w1,g1,r,e1,e2,hr2,hf1⟩:=hop a w g hr1
     unfold wpList
     rw[bt hr (show fG ops st o1=some true by unfold fG;rw[hg1]),if_pos rfl]
     refine .inl ?_
     unfold Oper.wp
     rw[e1,e2]
     unfold wpList
     rw[bt hr2 (show fG ops _ o2=some true by unfold fG;rw[hg2]),if_pos rfl]
     refine .inl ?_
     have hexec:(execOp a1.eval o2).run P w1=.ok (.enter f' (#[]++c.args.map a1.eval++ #[])) w1:=by
      unfold execOp
      rw[hop2]
      exact sd hcal rfl hfn w1
     unfold Oper.wp
     rw[hexec,Oper.upon_enter]
     have hvs:(#[]++c.args.map a1.eval++ #[]:Array Value)= #[valOf a1 d1'']:=by
      have:c.args= #[.tmp d1'']:=by
       grind
      rw[this]
      have he:a1.eval (.tmp d1'')=valOf a1 d1'':=rfl
      simp[he]
     rw[hvs]
     have hO:cy g1 w1 (.slot d1'') (valOf a1 d1'') 1 ((ps.map λp=>valOf a p.1).map .raw):=hr2.tmp d1'' _ (Ff (by rw[tH];exact hlt))
     have hz1: ∀p∈ps,∃zs,lC g1 w1 n zs p.2/\Rd ⟨λk=>uH d1'' (g1.ow k),[]⟩ w1 (valOf a p.1) (.list n zs):=λp hp=>by
      obtain⟨-,-,h3⟩:=ri (hp1 p hp)
      obtain⟨lo,hlo,hl⟩:=h3 hr
      have hl1:eZ g1 w1 lo (valOf a p.1) n p.2:=hl.bg hf1.free (λl' e=>by
       rcases hlo with rfl|⟨i,j,rfl⟩
       .cases e
       .cases e;exact hf1.au rfl i j) hf1.qH
      refine hl1.raw λk hk=>?_
      show uH d1'' (g1.ow k)=.free
      rcases hlo with rfl|⟨i,j,rfl⟩
      .rw[lR.1 hk];rfl
      .cases ho:g1.ow k<;>rw[ho]at hk<;>simp only[IZ]at hk
       .rfl
       .cases hk;rfl
     obtain⟨zss,hzl,hzz⟩:=KK hz1
     have hlens:zss.map List.length=yss.map List.length:=by
      have h1:zss.map List.length=(ps.map (·.2)).map List.length:=by
       apply m_6
       intro j
       simp only[h_1]
       by_cases hj:j<ps.length
       .have hj':j<zss.length:=by rw[hzl];exact hj
        rw[g_6 hj,g_6 hj']
        simp only[m_4,g_2]
        exact(hzz j _ _ (g_6 hj) (g_6 hj')).1.1
       grind
      rw[h1,hys]
      simp
     have hflat:lC g1 w1 n zss.flatten (yss.flatten.map enc):=by
      rw[List.map_flatten,<-hys]
      refine lC.flatten (by simp[hzl]) λj z y h1 h2=>?_
      grind
     have hRA:jM ⟨λk=>uH d1'' (g1.ow k),[]⟩ w1 #[valOf a1 d1''] [.d (.list 1 (zss.map (.list n)))]:=⟨rfl,λj s hj=>by
      match j,hj with
      |0,hj=>
       simp at hj
       subst hj
       refine⟨_,rfl,HW (λk hk=>?_) (by simp[hzl]) (λi u z h1 h2=>?_) hO⟩
       .show uH d1'' (g1.ow k)=.free
        rw[hk];simp[uH]
       grind
      |j+1,hj=>simp at hj⟩
     refine(hC zss hlens [] w1 _ _ hRA ⟨rfl,ψ⟩).mono λe w2 hh=>?_
     obtain⟨v,gc',rfl,hres,-,hf⟩:=hh
     have hall: ∀k b,w1.heap[k]? =some b->w2.heap[k]? =some b/\gc'.ow k=uH d1'' (g1.ow k):=λk b hb=>by
      rcases DH d1'' (g1.ow k)with e|e
      .obtain⟨x1,x2⟩:=hf.free k b e hb;exact⟨x2,by rw[x1,e]⟩
      .obtain⟨x1,x2⟩:=hf.out k b e hb;exact⟨x2,by rw[x1,e]⟩
     let g2:Gh:=⟨λk=>if k<w1.heap.size then g1.ow k else vx d2' (gc'.ow k),g1.ρ⟩
     have hk2: ∀o',aO o' g1 w1 g2 w2:=λo' k b h1 h2=>by
      grind
     have hf2:Fr false g1 w1 g2 w2:=⟨hf.size,hk2 _,hk2 _,λ_ _ h=>h,nofun,nofun,nofun,hf.os⟩
     have hf1':Fr false g w g1 w1:=⟨hf1.size,hf1.free,hf1.out,hf1.qH,nofun,nofun,nofun,hf1.os⟩
     have hown:cy g2 w2 (.slot d2') v n (yss.flatten.map enc):=HV (λk b hb e=>by
      by_cases hlt:k<w1.heap.size
      .have:=(hall k _ (Array.getElem?_eq_getElem hlt)).2
       rcases DH d1'' (g1.ow k)with e3|e3<;>rw[e3]at this<;>rw[this]at e<;>cases e
      .simp[g2,hlt,e,vx]) (hflat.bg (hk2 _) λ_ _ h=>h) (show cy gc' w2 (.slot 0) v n zss.flatten from hres)
     refine hn (a1.put o2.dst v) w2 g2 ?_ Qc λst3 a3 w3 g3 q3 r3 f3=>hq st3 a3 w3 g3 q3 r3 ((hf1'.trans hf2).trans f3)
     rw[hd2]
     have hbig: ∀(s0:Nat) (x:SV),((mq a st (ps.map (·.1))).put (some d1'') (.own 1 ((ps.map λp=>valOf a p.1).map .raw))).tmps[s0]? =some x->gl x≠0->s0≠d1''->((kC st (ps.map (·.1))).take d1'').tmps[s0]? =some x:=λs0 x hx hb hne=>by
      rcases eu hne hx with h|⟨h,-⟩
      .subst h;exact absurd rfl hb
      .rw[tI]at h
       split at h
       .simp only[g_4]at h
        obtain⟨y,-,rfl⟩:=h
        exact absurd rfl hb
       .rename_i hni
        show(((kC st (ps.map (·.1))).kill d1'').set d1'' .undef).tmps[s0]? =some x
        simp only[St.set,g_1 (j_6 hne)]
        simp[St.kill,rV,hni,h,eQ hb]
     refine bc hr2 (by rw[eb,cU,gF,rU,hr2.len,cU,tH]) (by rw[put_defers];exact hr2.dS) (λ_ _ h=>h) (λt s hs=>?_) ?_
     .by_cases ht:t=d2'
      .subst ht
       obtain⟨rfl,hlt2⟩:=bY hs
       refine .inr (.inl ?_)
       rw[bW (by rw[hr2.len,cU,tH];simpa[rU]using hlt2)]
       exact hown
      .rcases eu ht hs with h|⟨h1,h2⟩
       .exact .inl h
       .rcases cJ h1 with h|⟨h3,h4,h5⟩
        .exact .inl h
        .rw[rV]at h3
         split at h3
         .grind
         .rename_i hni
          have h6:((mq a st (ps.map (·.1))).put (some d1'') (.own 1 ((ps.map λp=>valOf a p.1).map .raw))).tmps[t]? =some s:=Fg (by rw[tI,if_neg hni];exact h3) h4 h5
          refine .inr (.inr ⟨h6,cr (by simpa using j_6 ht),λo' _=>hk2 o',λs0 e0=>?_⟩)
          obtain⟨x0,hx0,hb0⟩:=kM (hr2.tmp t _ h6) e0
          have hne0:s0≠d1'':=λe=>by subst e;rw[cH e0]at h5;cases h5
          have hd0:(some d2':Option Nat)≠some s0:=λe=>by
           cases e
           have:=h2 x0 (hbig _ _ hx0 hb0 hne0) (gI hb0)
           rw[cH e0]at this
           cases this
          exact⟨cr hd0,λx hx hb=>⟨x,eY (hbig _ _ hx hb hne0) hb hd0,rfl⟩⟩
     .rw[fw,pc,C2]
      have:=hr2.hp
      rw[fw,Kj]at this
      exact this.bg (λo' _=>hk2 o') (λ_ _ h=>h) rfl
    .cases h
   .cases h
  .cases h
 .cases h
def D7{α:Type}{enc:α->Go.Sh.D}{yss:List (List α)}{r:List α}{n:Nat}(m:Nat)(H:List aN)(L:List Nat)(l:List (Nat×SV))
  (hC:r=yss.flatten/\ ∀zss:List (List Go.Sh.D),zss.map List.length=yss.map List.length->PC P f [.d (.list 1 (zss.map (.list n)))] (.own n zss.flatten))
  (h:OJ P ops k st n=some (d1,d2,f,ts,yss.map (List.map enc)))
  (cR:bu m L (((kC st ts).take d1).put (some d2) (.own n (r.map enc)))=some (l,H))
  (hn:cf P false ops (k+2) (sp m l H) Q):cf P false ops k st Q:=by
 obtain⟨rfl,hC⟩:=hC
 exact Ps m H L l hC h cR hn
end
section
variable {P:Program} {pu:Bool} {ops:Array Oper}
def Ei{K R R':Act->World->Prop}{a:Act}{w:World}(ho:ops[i]? =some o)(hog:o.guard=none)
  (h:wpList P ops2 (NQ R') (o::rest) a w) (hK: ∀a' w',wpList P ops2 (NQ R') rest a' w'->K a' w'):wpOp P ops (NQ R) i K a w:=by
 unfold wpOp
 rw[ho]
 simp only
 rw[if_pos (tz hog _)]
 unfold wpList at h
 rw[if_pos (tz hog _)]at h
 rcases h with h|h
 .exact .inl (J5 (Oper.wp_mono hK h))
 .exact absurd h.2 NQ.out
end
def BJ(p0:List (List D))(y1:Int×Int):Option ((Int×Int)⊕Int):=
 bif (decide (y1.2<(p0.length:Int)))then
  (idx p0 y1.2).bind λx2=>
  bif (decide ((IntKind.wrap .i64 (y1.1+(x2.length:Int)))<0))then none
  else some (.inl ((IntKind.wrap .i64 (y1.1+(x2.length:Int))),(IntKind.wrap .i64 (y1.2+1))))
 else some (.inr y1.1)
def yZ(p0:List (List D))(y6:List D×Int):Option ((List D×Int)⊕List D):=
 bif (decide (y6.2<(p0.length:Int)))then
  (idx p0 y6.2).bind λx7=>
  ff (decide ((y6.1++x7).length<=room))<|
  some (.inl ((y6.1++x7),(IntKind.wrap .i64 (y6.2+1))))
 else some (.inr y6.1)
def OF(p1:Int):Option (List D):=
 bif (decide (p1<0))then none
 else
  bif (decide ((IntKind.wrap .i64 (p1 - 0))>0))then
   ff (decide (0<(IntKind.wrap .i64 (p1 - 0)))&&decide ((IntKind.wrap .i64 (p1 - 0))<=(room:Nat)))<|some []
  else some []
def Js(fuel:Nat)(p0:List (List D)):Option (List D):=
 (iter (BJ p0) fuel (0,0)).bind λv4=>
 (OF v4).bind λr5=>
 (iter (yZ p0) fuel (r5,0)).bind λv9=>
 some v9
section
variable {zss yss:List (List D)}
def F9(h:yss.map List.length=zss.map List.length):yss.length=zss.length:=by
 have:=congrArg List.length h;simpa using this
def Ga(h:yss.map List.length=zss.map List.length)(i:Int):(idx yss i).map List.length=(idx zss i).map List.length:=by
 unfold idx
 split
 .have:=congrArg (·[i.toNat]?) h
  simpa using this
 .rfl
def OI(h:yss.map List.length=zss.map List.length):BJ yss=BJ zss:=by
 funext y
 unfold BJ
 rw[F9 h]
 have hi:=Ga h y.2
 cases hx:idx yss y.2<;>cases hz:idx zss y.2<;>rw[hx,hz]at hi<;>simp at hi ⊢
 rw[hi]
def OE(h:OF p=some r):r=[]:=by
 unfold OF at h
 simp only[ff,cond_eq_ite]at h
 grind
def To{k:Nat}(h:k<1000):IntKind.wrap .i64 ((k:Int)+1)=((k+1:Nat):Int):=by
 unfold IntKind.wrap
 simp[IntKind.bits,IntKind.signed]
 omega
def DI(h:yss.map List.length=zss.map List.length)(hs:zss.length<1000): ∀(n i:Nat) (acc acc' v:List D),acc'.length=acc.length->i<=zss.length->iter (yZ zss) n (acc,(i:Int))=some v->
  iter (yZ yss) n (acc',(i:Int))=some (acc'++(yss.drop i).flatten)
 |0,i,acc,acc',v,_,_,h=>by cases h
 |n+1,i,acc,acc',v,ha,hi,hv=>by
  have hl:=F9 h
  by_cases hlt:i<zss.length
  .have hlt':i<yss.length:=by omega
   have hx:idx zss (i:Int)=some zss[i]:=by simp[idx,hlt]
   have hy:idx yss (i:Int)=some yss[i]:=by simp[idx,hlt']
   have hxy:yss[i].length=zss[i].length:=by
    have:=Ga h (i:Int)
    grind
   have hc:decide ((i:Int)<(zss.length:Int))=true:=by simpa using hlt
   have hc':decide ((i:Int)<(yss.length:Int))=true:=by simpa using hlt'
   unfold iter at hv ⊢
   simp only[yZ,hc,hc',hx,hy,cond_true,j_5]at hv ⊢
   have hr:decide ((acc'++yss[i]).length<=room)=decide ((acc++zss[i]).length<=room):=by simp[ha,hxy]
   rw[hr]
   cases hk:decide ((acc++zss[i]).length<=room)with
   |false=>simp only[hk,ff,cond_false]at hv;cases hv
   |true=>
    simp only[hk,ff,cond_true,To (show i<1000 by omega)]at hv ⊢
    rw[DI h hs n (i+1) (acc++zss[i]) (acc'++yss[i]) v (by simp[ha,hxy]) ω hv]
    rw[j_2,p_9 hlt',p_8]
  .have hc:decide ((i:Int)<(yss.length:Int))=false:=by simp;omega
   unfold iter
   simp only[yZ,hc,cond_false]
   grind
def OH(hs:zss.length<1000)(hr:Js fuel zss=some r)(h:yss.map List.length=zss.map List.length):Js fuel yss=some yss.flatten:=by
 unfold Js at hr ⊢
 rw[OI h]
 simp only[g_9]at hr
 obtain⟨v4,h1,r5,h2,v9,h3,-⟩:=hr
 rw[h1]
 simp only[j_5]
 rw[h2]
 have:=OE h2
 subst this
 simp only[j_5]
 have h4:=DI h hs fuel 0 [] [] v9 rfl ω h3
 grind
end
def CB{α:Type}(fuel:Nat)(yss:List (List α)):Option (List α):=(Js fuel (yss.map (List.map λ_=>D.cG))).bind λ_=>some yss.flatten
def Hn{α:Type}{yss:List (List α)}{r:List α}(hs:yss.length<1000)(h:CB fuel yss=some r):
  r=yss.flatten/\ ∀zss:List (List D),zss.map List.length=yss.map List.length->Js fuel zss=some zss.flatten:=by
 unfold CB at h
 simp only[g_9,g_2]at h
 obtain⟨v,h1,rfl⟩:=h
 exact⟨rfl,λzss hz=>OH (by simpa using hs) h1 (by rw[hz];simp)⟩
section
variable {P:Program} {ops:Array Oper} {md:Region.Mode} {R:Act->World->Prop} {pu:Bool} {st:St}
def Up.trans(h:Up w1 w2)(h':Up w2 w3):Up w1 w3:=λk o e=>h' k o (h k o e)
def fP(P:Program){α:Type}(m:Sem α):Prop:= ∀w x w',m.run P w=.ok x w'->Up w w'
def bM.uC{α:Type}{m:Sem α}(h:bM P m):fP P m:=λw x w' e=>by rw[(h w x w' e).1];exact Up.refl w
def fP.pure{α:Type}(x:α):fP P (Pure.pure x:Sem α):=(bM.pure x).uC
def fP.halt{α:Type}(x:Halt):fP P (Sem.halt x:Sem α):=(bM.halt x).uC
def fP.bind{α β:Type}{m:Sem α}{f:α->Sem β}(h1:fP P m)(h2: ∀x,fP P (f x)):fP P (m>>=f):=λw x w' h=>by
 rw[Sem.run_bind]at h
 cases hm:m.run P w with
 |ok y w1=>rw[hm,Result.andThen_ok]at h;exact(h1 w y w1 hm).trans (h2 y _ _ _ h)
 |halt y w1=>rw[hm]at h;cases h
def fP.load(a:Addr)(m:Mode):fP P (Go.load a m):=λw x w' h=>by
 unfold Go.load at h
 simp only[Sem.run]at h
 split at h
 .cases h;exact Up.refl w
 .split at h
  .cases h;exact Up.refl w
  .cases h
def fP.newObj(o:Obj):fP P (Go.newObj o):=λw x w' h=>by
 unfold Go.newObj at h
 simp only[Sem.run]at h
 cases h
 intro k b hb
 grind
def fP.newRow(e:TypeId)(cs:Array Value):fP P (Go.newRow e cs):=(fP.newObj _).bind λ_=>.pure _
def fP.loadCellsFrom(a:Addr): ∀(n i:Nat) (acc:Array Value),fP P (Go.loadCellsFrom a i n acc)
 |0,i,acc=>.pure _
 |n+1,i,acc=>(fP.load _ _).bind λ_=>fP.loadCellsFrom a n (i+1) _
def fP.loadVar(t:TypeId)(a:Addr):fP P (Go.loadVar t a):=by
 unfold Go.loadVar
 repeat' first
  |exact .pure _
  |exact .load _ _
  |exact fP.loadCellsFrom _ _ _ _
  |exact(bM.sizeOf _).uC
  |exact(bM.typeInfo _).uC
  |exact(bM.underlying _).uC
  |refine fP.bind ?_ λ_=>?_
  |split
def fP.loadAt(t:TypeId)(v:Value):fP P (Instr.loadAt t v):=((bM.sureAddr v).uC).bind λ_=>.loadVar _ _
def fP.zeroValue(t:TypeId):fP P (Go.zeroValue t):=by
 unfold Go.zeroValue
 repeat' first
  |exact .pure _
  |exact .halt _
  |exact(bM.typeInfo _).uC
  |refine fP.bind ?_ λ_=>?_
  |split
def fP.buildSlice(t:TypeId)(n:Nat)(ps:Array (Nat×Value)):fP P (Instr.buildSlice t n ps):=by
 unfold Instr.buildSlice
 dsimp only
 repeat' first
  |exact .pure _
  |exact .halt _
  |exact .newRow _ _
  |exact .zeroValue _
  |exact(bM.sizeOf _).uC
  |exact(bM.typeInfo _).uC
  |exact(bM.underlying _).uC
  |refine fP.bind ?_ λ_=>?_
  |split
def By(P:Program)(o:Oper):Bool:=mU P o||match o.op with
 |.load _ _|.buildSlice _ _ _|.assign _=>true
 |_=>false
def Jj(h:By P o=true){ρ:Operand->Value}(hr:(execOp ρ o).run P w=.ok n w'):(∃v,n=.value v)/\Up w w':=by
 simp only[By,p_6]at h
 rcases h with h|h
 .exact⟨E7 h hr,by rw[(sR h ρ w n w' hr).1];exact Up.refl w⟩
 .unfold execOp at hr
  split at h
  .rename_i t a hop
   rw[hop]at hr
   exact⟨rT hr,((fP.loadAt t (ρ a)).bind λ_=>.pure _) w n w' hr⟩
  .rename_i t len parts hop
   rw[hop]at hr
   exact⟨rT hr,((fP.buildSlice t len _).bind λ_=>.pure _) w n w' hr⟩
  .rename_i x hop
   rw[hop]at hr
   simp only[Sem.run_pure]at hr
   cases hr
   exact⟨⟨_,rfl⟩,Up.refl _⟩
  .cases h
def BW(P:Program)(o:Oper)(a:Act)(v:Value)(w:World):Prop:= ∀w',Up w w'->(execOp a.eval o).run P w'=.ok (.value v) w'
def BW.put(hap:o.apart ops oj=true)(hs: ∀cs b,o.op≠.select cs b)(h:BW P o a v w):BW P o (a.put oj.dst u) v w:=λw' hu=>by
 rw[execOp_put (ops:=ops) o hs a oj.dst u (Oper.apart_spec hap).2.2]
 exact h w' hu
def BW.up(h:BW P o a v w)(hu:Up w w'):BW P o a v w':=λw2 h2=>h w2 (hu.trans h2)
def PZ(hj:ops[j]? =some oj)(hsi: ∀cs b,oi.op≠.select cs b)(hgj:By P oj=true)(hap:oi.apart ops oj=true)(hsj: ∀cs b,oj.op≠.select cs b){K:Act->World->Prop}
  (hv:BW P oi a v w) (h:wpOp P ops (NQ R) j K (a.put oi.dst v) w):wpOp P ops (NQ R) j (λa' w'=>BW P oi a' v w'/\K (a'.put oi.dst v) w') a w:=by
 obtain⟨h1,h2,h3⟩:=Oper.apart_spec hap
 unfold wpOp at *
 simp only[hj]at *
 rw[wanted_put oj a oi.dst v h1]at h
 split
 .rename_i hw
  simp only[hw,if_true]at h
  refine .inl ?_
  rcases h with h|h
  .unfold Oper.wp at *
   rw[execOp_put oj hsj a oi.dst v h1]at h
   cases hr:(execOp a.eval oj).run P w with
   |ok n w'=>
    rw[hr]at h
    obtain⟨⟨u,rfl⟩,hu⟩:=Jj hgj hr
    simp only[Oper.upon]at h ⊢
    exact⟨(hv.put hap hsi).up hu,by rw[<-Act.put_comm a v u h2];exact h⟩
   |halt y w'=>
    rw[hr]at h
    cases y<;>simp only[Oper.upon]at h ⊢
    exact absurd h.1 ψ
  .exact absurd h.2 NQ.out
 .rename_i hw
  simp only[hw]at h
  exact⟨hv.put hap hsi,by rw[<-Act.put_comm a v undef h2];exact h⟩
def M8{i:Nat}{oi:Oper}{v:Value}{D:List Nat}(hi:ops[i]? =some oi)(hg:oi.guard=none)(hsel: ∀(j:Nat) (o:Oper) cs b,ops[j]? =some o->o.op≠.select cs b)
  (hD: ∀j∈D,∃oj,ops[j]? =some oj/\ ∃e∈oj.after,Region.binds md e=true/\(e.on=i\/e.on∈D)):
  ∀(fuel:Nat) (listed:Array Bool) (a:Act) (w:World),BW P oi a v w->(∀j∈D,listed.getD j true=false)->
   (∀j oj,ops[j]? =some oj->j≠i->listed.getD j true=false->j∉D->oi.apart ops oj=true/\By P oj=true)->
   i∈Region.ready md ops listed->
   wpAny P md ops (NQ R) fuel (listed.setIfInBounds i true) (a.put oi.dst v) w->wpAny P md ops (NQ R) (fuel+1) listed a w:=by
 have one: ∀(K:Act->World->Prop) (a:Act) (w:World),BW P oi a v w->K (a.put oi.dst v) w->wpOp P ops (NQ R) i K a w:=λK a w hv h=>by
  unfold wpOp
  simp only[hi]
  have hw:Region.wanted oi (yielded ops a.tmps)=true:=by unfold Region.wanted;rw[hg]
  rw[if_pos hw]
  refine .inl ?_
  unfold Oper.wp
  rw[hv w (Up.refl w),Oper.upon_value]
  exact h
 intro fuel
 induction fuel with
 |zero=>
  intro listed a w hv _ _ hr H
  refine⟨λh=>(by rw[h]at hr;cases hr),λj hj=>?_⟩
  by_cases hji:j=i
  .subst hji;exact one _ a w hv H
  .have:=ready_mono hj hji
   rw[H.1]at this
   cases this
 |succ fuel ih=>
  intro listed a w hv hun0 hfree hr H
  refine⟨λh=>(by rw[h]at hr;cases hr),λj hj=>?_⟩
  by_cases hji:j=i
  .subst hji;exact one _ a w hv H
  .have h1:=H.2 j (ready_mono hj hji)
   obtain⟨hjun,oj,hoj,hall⟩:=mem_ready.1 hj
   have undone: ∀{k:Nat} {e:Edge},e.on=k->listed.getD k true=false->listed.getD e.on false=true->False:=λ{k e} ek h0 h1=>by
    grind
   have hnD:j∉D:=λhjD=>by
    obtain⟨oj',hoj',e,he,hb,hor⟩:=hD j hjD
    rw[hoj]at hoj'
    cases hoj'
    have hdone:=hall e he hb
    rcases hor with hor|hor
    .exact undone hor (mem_ready.1 hr).1 hdone
    grind
   obtain⟨f1,f2⟩:=hfree j oj hoj hji hjun hnD
   have h2:=PZ hoj (λcs b=>hsel i oi cs b hi) f2 f1 (λcs b=>hsel j oj cs b hoj) hv h1
   have hun': ∀k∈D,(listed.setIfInBounds j true).getD k true=false:=λk hk=>by
    have hjk:j≠k:=λe=>hnD (e▸hk)
    simp_all
   have hfree': ∀k ok,ops[k]? =some ok->k≠i->(listed.setIfInBounds j true).getD k true=false->k∉D->oi.apart ops ok=true/\By P ok=true:=λk ok hk hki hun hno=>by
    refine hfree k ok hk hki ?_ hno
    by_cases hjk:j=k
    .subst hjk;exact hjun
    simp_all
   refine wpOp_mono (λa' w' h3=>ih (listed.setIfInBounds j true) a' w' h3.1 hun' hfree' (ready_mono hr (j_6 hji)) ?_) h2
   rw[Array.setIfInBounds_comm _ _ hji]
   exact h3.2
def RG(ops:Array Oper)(m:Nat):List Nat:=(List.range ops.size).foldl (λD j=>match ops[j]? with
 |some oj=>if oj.after.any (λe=>Region.binds .any e&&(e.on==m||D.contains e.on))then j::D else D
 |none=>D) []
def Jq(ops:Array Oper)(l:Array Bool)(m:Nat)(D:List Nat):Bool:=D.all λj=>!(l.getD j true)&&match ops[j]? with
 |some oj=>oj.after.any (λe=>Region.binds .any e&&(e.on==m||D.contains e.on))
 |none=>false
def Ol(P:Program)(ops:Array Oper)(l:Array Bool)(m:Nat)(D:List Nat):Bool:=match ops[m]? with
 |none=>false
 |some oi=>(List.range ops.size).all λj=>j==m||l.getD j true||D.contains j||match ops[j]? with
  |some oj=>oi.apart ops oj&&By P oj
  |none=>true
def Jl{l:Array Bool}{m:Nat}{D:List Nat}{oi:Oper}(hi:ops[m]? =some oi)(h:Ol P ops l m D=true)(j:Nat)(oj:Oper)(hj:ops[j]? =some oj)(hne:j≠m)(hun:l.getD j true=false)(hno:j∉D):oi.apart ops oj=true/\By P oj=true:=by
 simp only[Ol,hi,h_4,List.mem_range]at h
 grind
def Hd{l:Array Bool}{m:Nat}{D:List Nat}(h:Jq ops l m D=true):(∀j∈D,∃oj,ops[j]? =some oj/\ ∃e∈oj.after,Region.binds .any e=true/\(e.on=m\/e.on∈D))/\ ∀j∈D,l.getD j true=false:=by
 simp only[Jq,h_4,g_3,k_4]at h
 grind
def Ng(P:Program)(ops:Array Oper):List Nat->Array Bool->Bool
 |[],_=>true
 |m::ms,l=>(Region.ready .any ops l).contains m&&((((ops[m]?).map (mU P)).getD false&&Region.free .any ops l m)||(Jq ops l m (RG ops m)&&Ol P ops l m (RG ops m)))&&Ng P ops ms (l.setIfInBounds m true)
def RU(P:Program)(w:World)(Q:Act->Prop):List Oper->Act->Prop
 |[],a=>Q a
 |o::r,a=> ∃v,BW P o a v w/\RU P w Q r (a.put o.dst v)
def xh(hng:ops.all (λo=>o.guard.isNone)=true)(hsel: ∀(j:Nat) (o:Oper) cs b,ops[j]? =some o->o.op≠.select cs b){Q:Act->Prop}:
  ∀(ms:List Nat) (l:Array Bool) (a:Act),Ng P ops ms l=true->(∀a',Q a'->wpAny P .any ops (NQ R) fuel (Dm ms l) a' w)->
   RU P w Q (opsOf ops ms) a->wpAny P .any ops (NQ R) (ms.length+fuel) l a w
 |[],l,a,_,hk,h=>by simpa[Dm]using hk a h
 |m::ms,l,a,hb,hk,h=>by
  simp only[Ng,g_3,p_6]at hb
  obtain⟨⟨b2,b35⟩,b4⟩:=hb
  have hmr:m∈Region.ready .any ops l:=by simpa using b2
  obtain⟨hm0,om,hom,hmall⟩:=mem_ready.1 hmr
  have hmg:om.guard=none:=AY hng [m] om (by simp[opsOf,hom])
  have hcons:opsOf ops (m::ms)=om::opsOf ops ms:=by simp[opsOf,hom]
  rw[hcons]at h
  obtain⟨v,hv,h⟩:=h
  have:=xh hng hsel ms (l.setIfInBounds m true) _ b4 hk h
  have e:(m::ms).length+fuel=(ms.length+fuel)+1:=by simp;omega
  rw[e]
  rcases b35 with⟨b1,b3⟩|⟨b3,b5⟩
  .rw[hom]at b1
   have b1:mU P om=true:=by simpa using b1
   exact IA hom b1 hmg hsel _ _ a _ (sR b1 a.eval w _ w (hv w (Up.refl w))).2 (Region.free_spec hom b3) hmr this
  obtain⟨d1,d2⟩:=Hd b3
  exact M8 hom hmg hsel d1 _ _ a _ hv d2 (λj oj hj hne hun hno=>Jl hom b5 j oj hj hne hun hno) hmr this
def chainB(ops:Array Oper):List Nat->Array Bool->Bool
 |[],l=>(Region.ready .any ops l).isEmpty
 |c::cs,l=>(Region.ready .any ops l==[c])&&chainB ops cs (l.setIfInBounds c true)
def yC(hng:ops.all (λo=>o.guard.isNone)=true){R':Act->World->Prop}(hR: ∀a w,R' a w->R a w):
  ∀(cs:List Nat) (l:Array Bool) (a:Act) (w:World),chainB ops cs l=true->wpList P ops2 (NQ R') (opsOf ops cs) a w->wpAny P .any ops (NQ R) cs.length l a w
 |[],l,a,w,hb,h=>⟨by simpa[chainB]using hb,rfl,hR a w (show NQ R' .normal a w from h).2⟩
 |c::cs,l,a,w,hb,h=>by
  simp only[chainB,g_3,beq_iff_eq]at hb
  obtain⟨_,o,ho,_⟩:=mem_ready.1 (show c∈Region.ready .any ops l by rw[hb.1];simp)
  have hg:o.guard=none:=AY hng [c] o (by simp[opsOf,ho])
  have hcons:opsOf ops (c::cs)=o::opsOf ops cs:=by simp[opsOf,ho]
  rw[hcons]at h
  show wpAny P .any ops (NQ R) (cs.length+1) l a w
  unfold wpAny
  rw[hb.1]
  refine⟨λe=>(List.cons_ne_nil _ _ e).elim,λi hi=>?_⟩
  obtain rfl:i=c:=by simpa using hi
  exact Ei ho hg h λa1 w1 h1=>yC hng hR cs _ a1 w1 hb.2 h1
def lH(P:Program)(ops:Array Oper)(k:Nat)(st:St)(Q:St->Prop):Prop:=
 ∀a w g,Rel st a w g-> ∀Qc:Act->Prop,(∀st' a',Q st'->Rel st' a' w g->Qc a')->RU P w Qc (ops.toList.drop k) a
def jN{Q:St->Prop}(n:Nat)(H:List aN)(L:List Nat)(l:List (Nat×SV))(hb:pP P ops k st d s)(cR:bu n L (st.put d s)=some (l,H))(h:lH P ops (k+1) (sp n l H) Q):lH P ops k st Q:=by
 obtain⟨o,h1,h2,h3,h4,rfl⟩:=hb
 intro a w g hr Qc hc
 rw[drop_cons h1]
 obtain⟨v,e1,e2⟩:=h3 a w g hr
 exact⟨v,e2,h _ w g ((hr.wa e1 h4).bC (aL cR)) Qc hc⟩
def uT(P:Program)(ops:Array Oper)(k:Nat)(st:St):Option St:=match ops[k]? with
 |some o=>match fG ops st o with
  |some true=>match CD P st o with
   |some s=>if kx o.dst s then some (st.put o.dst s)else none
   |none=>none
  |_=>none
 |none=>none
def dp{Q:St->Prop}(n:Nat)(H:List aN)(L:List Nat)(l:List (Nat×SV))(hs:(uT P ops k st).bind (bu n L)=some (l,H))(h:lH P ops (k+1) (sp n l H) Q):lH P ops k st Q:=by
 simp only[g_9]at hs
 obtain⟨jh,h1,h2⟩:=hs
 unfold uT at h1
 split at h1
 .rename_i o ho
  split at h1
  .rename_i hw
   split at h1
   .rename_i s hb
    split at h1
    .rename_i hl
     cases h1
     exact jN n H L l ⟨o,ho,hw,cA hb,hl,rfl⟩ h2 h
    .cases h1
   .cases h1
  .cases h1
 .cases h1
def JV{Q:St->Prop}(h:decide (ops.size<=k)=true)(hq:Q st):lH P ops k st Q:=by
 intro a w g hr Qc hc
 rw[p_0 (by simpa using h)]
 exact hc st a hq hr
def fx{id:Nat}{l:List Oper}{Q:Exit->St->Prop}(ms cs:List Nat)(hm:P.follows .mixedOrders=true)
  (hB:(Region.noSelect l.toArray&&l.toArray.all (λo=>o.guard.isNone)&&Ng P l.toArray ms (Array.replicate l.toArray.size false)&&chainB l.toArray cs (Dm ms (Array.replicate l.toArray.size false))&&decide (l.toArray.size=ms.length+cs.length))=true)
  (h:lH P (opsOf l.toArray ms).toArray 0 st (λjh=>cf P pu (opsOf l.toArray cs).toArray 0 jh (Q .normal))):SW P pu (.region id l.toArray true) st Q:=by
 generalize hops:l.toArray=ops at *
 simp only[g_3,decide_eq_true_eq]at hB
 obtain⟨⟨⟨⟨b1,b2⟩,b3⟩,b4⟩,b5⟩:=hB
 intro a w g hr
 refine Code.wp_mono (Q:=NQ λa' w'=> ∃st' g',Q .normal st'/\Rel st' a' w' g'/\Fr pu g w g' w') (λe a' w' hh=>by obtain⟨rfl,hh⟩:=hh;exact hh) ?_
 refine wp_region_any hm ?_
 have key:=h a w.drew g hr.drew (λa'=>wpAny P .any ops (NQ λa' w'=> ∃st' g',Q .normal st'/\Rel st' a' w' g'/\Fr pu g w g' w') cs.length (Dm ms (Array.replicate ops.size false)) a' w.drew) (λjh a1 q1 r1=>by
  refine yC (ops2:=(opsOf ops cs).toArray) (R':=λa' w'=> ∃st' g',Q .normal st'/\Rel st' a' w' g'/\Fr pu g w g' w') b2 (λ_ _ h=>h) cs _ a1 w.drew b4 ?_
  have:=q1 a1 w.drew g r1 (NQ λa' w'=> ∃st' g',Q .normal st'/\Rel st' a' w' g'/\Fr pu g w g' w') (λst' a' w' g' q r f=>⟨rfl,st',g',q,r,Fr.drew.trans f⟩)
  simpa using this)
 rw[q_1]at key
 rw[b5]
 rw[b5]at key b3
 exact xh b2 (Region.noSelect_spec b1) ms _ a b3 (λa' ha'=>ha') (by simpa using key)
end
def gW{P:Program}{pu:Bool}{st:St}{id:Nat}{l:List Oper}{Q:Exit->St->Prop}(n:Nat)(H:List aN)(ll:List (Nat×SV))(ms:List Nat)(d M:Nat)(hm:P.follows .mixedOrders=true)
  (hB:(Region.noSelect l.toArray&&l.toArray.all (λo=>o.guard.isNone)&&Ng P l.toArray ms (Array.replicate l.toArray.size false)&&decide (l.toArray.size=ms.length+d))=true)
  (hM:Dm ms (Array.replicate l.toArray.size false)=gU l.toArray.size M)
  (h: ∀X:Nat->Nat->St->Prop,(X=λd m s=>OX P pu l.toArray d m s (sp n ll H))->lH P (opsOf l.toArray ms).toArray 0 st (λjh=>X d M jh)) (hq:Q .normal (sp n ll H)):SW P pu (.region id l.toArray true) st Q:=by
 have h:=h _ rfl
 generalize hops:l.toArray=ops at *
 simp only[g_3,decide_eq_true_eq]at hB
 obtain⟨⟨⟨b1,b2⟩,b3⟩,b5⟩:=hB
 intro a w g hr
 refine Code.wp_mono (Q:=NQ λa' w'=> ∃st' g',Q .normal st'/\Rel st' a' w' g'/\Fr pu g w g' w') (λe a' w' hh=>by obtain⟨rfl,hh⟩:=hh;exact hh) ?_
 refine wp_region_any hm ?_
 have key:=h a w.drew g hr.drew (λa'=>wpAny P .any ops (NQ λa' w'=> ∃st' g',Q .normal st'/\Rel st' a' w' g'/\Fr pu g w g' w') d (gU ops.size M) a' w.drew) (λjh a1 q1 r1=>
  q1 a1 w.drew g r1 _ λa' w' g' r f=>⟨sp n ll H,g',hq,r,Fr.drew.trans f⟩)
 rw[q_1]at key
 rw[b5]
 rw[b5]at key hM b3
 refine xh b2 (Region.noSelect_spec b1) (Q:=λa'=>wpAny P .any ops (NQ λa' w'=> ∃st' g',Q .normal st'/\Rel st' a' w' g'/\Fr pu g w g' w') d (gU (ms.length+d) M) a' w.drew) ms _ a b3 (λa' ha'=>?_) (by simpa using key)
 rw[hM]
 exact ha'
def th{Q:St->Prop}(L:List Nat)(n:Nat)(p:Option Nat)(S S':Option Nat->St)(h0:st=S p)(hN:(fX P [] ops n k (S none)).bind (bC L)=some (S' none))
  (hS: ∀i,(fX P [] ops n k (S (some i))).bind (bC L)=some (S' (some i))) (h:cf P pu ops (k+n) (S' p) Q):cf P pu ops k st Q:=by
 subst h0
 have key:(fX P [] ops n k (S p)).bind (bC L)=some (S' p):=by
  cases p with
  |none=>exact hN
  |some i=>exact hS i
 exact tX [] L n key h
variable {P:Program} {pu:Bool} {ops:Array Oper} {k:Nat} {Q:St->Prop}
def MJ(hr:Rel ⟨T,H⟩ a w g)(e:T[t]? =some (.own n xs)): ∃v0,Rel ⟨T.set t (.mf v0 n xs),H⟩ a w g:=by
 have ht:=aU e
 refine⟨valOf a t,bc hr (by simpa using hr.len) hr.dS (λ_ _ h=>h) (λt' s hs=>?_) hr.hp⟩
 by_cases e1:t=t'
 .subst e1
  simp only at hs
  rw[g_0 ht]at hs
  cases hs
  exact .inr (.inl ⟨rfl,hr.tmp t _ e⟩)
 .simp only at hs
  rw[g_1 e1]at hs
  refine .inr (.inr ⟨hs,rfl,λo' _=>aO.refl _ _ _,λs0 e0=>⟨rfl,λy hy hb=>?_⟩⟩)
  by_cases e2:t=s0
  .subst e2
   simp only at hy
   rw[e]at hy
   cases hy
   exact⟨.mf (valOf a t) n xs,g_0 ht,rfl⟩
  grind
def MI(hr:Rel ⟨T,H⟩ a w g)(e:T[t]? =some (.mf v0 n xs))(hd:T.all (λs=>dep s !=some t)=true):Rel ⟨T.set t (.d (.raw v0)),H⟩ a w g:=by
 have ht:=aU e
 refine bc hr (by simpa using hr.len) hr.dS (λ_ _ h=>h) (λt' s hs=>?_) hr.hp
 by_cases e1:t=t'
 .subst e1
  simp only at hs
  rw[g_0 ht]at hs
  cases hs
  have h1:=(hr.tmp t _ e).1
  refine .inr (.inl ?_)
  show Rd g w (valOf a t) (.raw v0)
  rw[h1]
  refine .raw ?_
  have h2:=(hr.tmp t _ e).2
  rw[h1]at h2
  rcases h2 with⟨-,q,rfl⟩|⟨k,off,cap,c,T,us,rfl,-⟩<;>rfl
 .simp only at hs
  rw[g_1 e1]at hs
  refine .inr (.inr ⟨hs,rfl,λo' _=>aO.refl _ _ _,λs0 e0=>⟨rfl,λy hy hb=>?_⟩⟩)
  grind
def Ro(st:St)(t:Nat):Option (Nat×List D):=match st.tmps[t]? with|some (.own n xs)=>some (n,xs)|_=>none
def yp(l:Value->List (Nat×SV))(h:Ro (sp n l0 H) t=some (n',xs))(hl: ∀v0,(sp n l0 H).tmps.set t (.mf v0 n' xs)=(sp n (l v0) H).tmps)
  (hn: ∀v0,cf P pu ops k (sp n (l v0) H) Q):cf P pu ops k (sp n l0 H) Q:=by
 intro a w g hr
 unfold Ro at h
 split at h
 .rename_i n1 ys e
  cases h
  obtain⟨v0,r⟩:=MJ hr e
  refine hn v0 a w g ?_
  have e2:(sp n (l v0) H)=⟨(va l0 n 0).set t (.mf v0 n' xs),H⟩:=by rw[show(va l0 n 0).set t (.mf v0 n' xs)=(sp n (l v0) H).tmps from hl v0];rfl
  rw[e2]
  exact r
 .cases h
def Rn(P:Program)(ops:Array Oper)(k:Nat)(st:St)(t:Nat):Option (Option Tmp×D):=match st.tmps[t]? with
 |some (.mf v0 n xs)=>if(st.tmps.all (λs=>dep s !=some t)&&(fR ops k st).isSome)=true then match Hq P ops k ⟨st.tmps.set t (.d (.raw v0)),st.H⟩with
  |some (d,.d x)=>some (d,x)
  |_=>none
  else none
 |_=>none
def Co(t:Nat)(h:Rn P ops k st t=some (d,x)):pP P ops k st d (.d x):=by
 unfold Rn at h
 split at h
 .rename_i v0 n xs e
  split at h
  .rename_i hc
   simp only[g_3]at hc
   split at h
   .rename_i d' x' hb
    cases h
    obtain⟨o,h1,h2,h3,h4,h5⟩:=FD hb rfl
    obtain⟨o',ho'⟩:=k_1.1 hc.2
    obtain⟨g1,g2⟩:=bo ho'
    rw[h1]at g1
    cases g1
    refine⟨o,h1,g2,λa w g hr=>?_,h4,h5⟩
    obtain⟨v,v1,v2⟩:=h3 a w g (MI hr e hc.1)
    exact⟨v,v1,v2⟩
   .cases h
  .cases h
 .cases h
def C3:List (Nat×Nat×Value×Nat×List D)->List SV->List SV
 |[],cs=>cs
 |(off,_,_,n,xs)::us,cs=>C3 us (cs.set off (.own n xs))
def Np:List (Nat×Nat×Value×Nat×List D)->List SV->List SV
 |[],T=>T
 |(_,s,_,_,_)::us,T=>Np us ((⟨T,[]⟩:St).take s).tmps
def IE:List (Nat×Nat×Value×Nat×List D)->List SV->List SV->Prop
 |[],_,_=>True
 |(off,s,v,n,xs)::us,T,cs=>T[s]? =some (.mf v n xs)/\cs[off]? =some (.d (.raw v))/\T.all er=true/\IE us ((⟨T,[]⟩:St).take s).tmps (cs.set off (.own n xs))
def LD(T:List SV)(H:Hp)(s:Nat):((⟨T,H⟩:St).take s).tmps=((⟨T,[]⟩:St).take s).tmps:=rfl
def Rel.C3: ∀(us:List (Nat×Nat×Value×Nat×List D)) {T:List SV} {H:Hp} {cs:List SV} {g:Gh},H[i]? =some (.cells cs)->IE us T cs->Rel ⟨T,H⟩ a w g->
  ∃g',Rel ⟨Np us T,H.set i (.cells (Go.Sh.C3 us cs))⟩ a w g'/\Fr false g w g' w
 |[],T,H,cs,g,hi,_,hr=>by
  refine⟨g,?_,Fr.refl _ _ _⟩
  have:H.set i (.cells cs)=H:=by
   apply m_6
   grind
  show Rel ⟨T,H.set i (.cells cs)⟩ a w g
  rw[this];exact hr
 |(off,s,v,n,xs)::us,T,H,cs,g,hi,hk,hr=>by
  obtain⟨k1,k2,k3,k4⟩:=hk
  have hs:H.set i (.cells (cs.set off (.d (.raw v))))=H:=by
   have:cs.set off (.d (.raw v))=cs:=by
    apply m_6
    grind
   rw[this]
   apply m_6
   grind
  obtain⟨g1,r1,f1⟩:=wZ (H0:=H) (i:=i) (off:=off) (s:=s) (n:=n) (v0:=v) (xs:=xs) (cs:=cs) (by rw[hs];exact hr) hi (aU k2) k1 k3
  rw[LD]at r1
  obtain⟨g2,r2,f2⟩:=Rel.C3 us (g_0 (aU hi)) k4 r1
  rw[m_9]at r2
  exact⟨g2,r2,f1.trans f2⟩
def Nz:List (Nat×Nat×Value×Nat×List D)->List SV->List SV
 |[],cs=>cs
 |(off,_,v,_,_)::us,cs=>(Nz us cs).set off (.d (.raw v))
def DZ(n:Nat)(nl:List (Nat×Nat×Bool))(us:List (Nat×Nat×Value×Nat×List Go.Sh.D))(L:List Nat)(l:List (Nat×SV))(hq:nv H0 (.cells cs)=some q)
  (h:newAt P ops k st nl=some (d,.cells (Nz us cs),H0,false)) (hc:C3 us (Nz us cs)=cs) (hk:IE us (st.put d (.d (.ptr q.2 0))).tmps (Nz us cs))
  (cR:bu n L ⟨Np us (st.put d (.d (.ptr q.2 0))).tmps,q.1⟩=some (l,q.1)) (hn:cf P false ops (k+1) (sp n l q.1) Q):cf P false ops k st Q:=by
 cases hq
 simp only at cR hk hn
 generalize hc0:Nz us cs=cs0 at h hc hk
 have hp: ∀(X:Hp) (s:SV),(st.hp X).put d s=⟨(st.put d s).tmps,X⟩:=by
  intro X s
  unfold St.put St.hp
  cases d with
  |none=>rfl
  |some t=>
   simp only
   cases st.tmps[t]? with
   |none=>rfl
   |some old=>simp only;split<;>rfl
 have fin: ∀{o:Oper},ops[k]? =some o->fG ops st o=some true->jO P false st o ((st.hp (st.H++[.cells cs0])).put d (.d (.ptr st.H.length 0)))->st.H=H0->cf P false ops k st Q:=by
  intro o g1 g2 hs hH
  refine pO g1 g2 hs (ru (λa w g hr=>?_) (da L (aL cR) hn))
  rw[hp,hH]at hr
  obtain⟨g',r,f⟩:=Rel.C3 us (H:=H0++[.cells cs0]) (i:=H0.length) ψ hk hr
  refine⟨g',?_,f⟩
  simp_all
 unfold newAt at h
 split at h
 .rename_i o ho
  obtain⟨g1,g2⟩:=bo ho
  split at h
  .rename_i T hop
   split at h
   .rename_i z hz
    simp only[g_2,g_8,aN.cells.injEq]at h
    obtain⟨rfl,rfl,rfl,-⟩:=h
    exact fin g1 g2 (zk nl hop hz) rfl
   .cases h
  .rename_i T x hop
   split at h
   .rename_i y hy
    simp only[g_2,g_8,aN.cells.injEq]at h
    obtain⟨rfl,rfl,rfl,-⟩:=h
    exact fin g1 g2 (DX nl hop hy) rfl
   .cases h
  .rename_i T hop
   simp at h
  .cases h
 .cases h
end Go.Sh
namespace Go.Sh
def uS(o:Option St):St:=o.getD ⟨[],[]⟩
def fW(h:o.isSome=true):o=some (uS o):=by cases o with|none=>cases h|some s=>rfl
def gV(ops:Array Oper)(k:Nat):Option Tmp:=(ops[k]?).bind (·.dst)
def wb{st:St}(h:(bC L st).isSome=true): ∃l,bu st.tmps.length L st=some (l,st.H)/\uS (bC L st)=sp st.tmps.length l st.H:=by
 have h1:bu st.tmps.length L st=some (mr L 0 st.tmps,st.H):=by
  unfold bC GJ at h
  unfold bu
  split at h
  .rename_i h1
   simp only at h
   split at h
   .rename_i h2;simp[h1,h2]
   .cases h
  .cases h
 exact⟨_,h1,by rw[aL h1];rfl⟩
section
variable {P:Program} {pu:Bool} {st:St} {ops:Array Oper} {k:Nat} {Q:St->Prop}
def HF{Q:Exit->St->Prop}(j:Nat)(L:List Nat)(hn:SW P pu (Ha j c) (uS ((Sh.Gc P j c st).bind (bC L))) Q)(h:((Sh.Gc P j c st).bind (bC L)).isSome=true:=by kernel_rfl):SW P pu c st Q:=by
 obtain⟨jh,h1,h2⟩:=g_9.1 (fW h)
 exact wT j c _ jh h1 (B0 L h2 hn)
def aX(bO L:List Nat)(j:Nat)(hn:cf P pu ops (k+j) (uS ((fX P bO ops j k st).bind (bC L))) Q)(h:((fX P bO ops j k st).bind (bC L)).isSome=true:=by kernel_rfl):cf P pu ops k st Q:=
 tX bO L j (fW h) hn
def pe(bO L:List Nat)(j:Nat)(hn:lh P ops m (k+j) (uS ((dJ P bO ops j k st).bind (bC L))) Q)(hm:decide (k+j<=m)=true:=by kernel_rfl)(h:((dJ P bO ops j k st).bind (bC L)).isSome=true:=by kernel_rfl):lh P ops m k st Q:=
 Ec bO L j hm (fW h) hn
def dn(bO L:List Nat)(j:Nat)(hn:jj P ops (k+j) (uS ((dJ P bO ops j k st).bind (bC L))) Q)(h:((dJ P bO ops j k st).bind (bC L)).isSome=true:=by kernel_rfl):jj P ops k st Q:=by
 obtain⟨jh,h1,h2⟩:=g_9.1 (fW h)
 exact Ch j h1 (qE L h2 hn)
def Lk(L:List Nat)(hn:lH P ops (k+1) (uS ((uT P ops k st).bind (bC L))) Q)(h:((uT P ops k st).bind (bC L)).isSome=true:=by kernel_rfl):lH P ops k st Q:=by
 obtain⟨jh,h1,h2⟩:=g_9.1 (fW h)
 obtain⟨l,h3,h4⟩:=wb (L:=L) (st:=jh) (by rw[h2];rfl)
 rw[h1,j_5]at hn
 rw[h4]at hn
 exact dp _ _ L l (by rw[h1];exact h3) hn
def tg{s:SV}(L:List Nat)(hb:pP P ops k st (gV ops k) s)(hn:cf P pu ops (k+1) (uS (bC L (st.put (gV ops k) s))) Q)(h:(bC L (st.put (gV ops k) s)).isSome=true:=by kernel_rfl):cf P pu ops k st Q:=Ih L hb (fW h) hn
def Ll{s:SV}(L:List Nat)(hb:pP P ops k st (gV ops k) s)(hn:lH P ops (k+1) (uS (bC L (st.put (gV ops k) s))) Q)(h:(bC L (st.put (gV ops k) s)).isSome=true:=by kernel_rfl):lH P ops k st Q:=by
 obtain⟨l,h1,h2⟩:=wb h
 rw[h2]at hn
 exact jN _ _ L l hb h1 hn
def S6(L:List Nat)(hp:SC P false f args H0 r H')(hn:cf P false ops (k+1) (uS (bC L ⟨(st.put (gV ops k) r).tmps,H'⟩)) Q)(hH:st.H=H0:=by kernel_rfl)(h:eg P ops k st []=some (gV ops k,f,args,[],[]):=by kernel_rfl)
  (hr:(pg r&&st.tmps.all er)=true:=by kernel_rfl) (hs:(bC L ⟨(st.put (gV ops k) r).tmps,H'⟩).isSome=true:=by kernel_rfl):cf P false ops k st Q:=by
 obtain⟨l,h1,h2⟩:=wb hs
 rw[h2]at hn
 subst hH
 exact w8 _ L l hp h hr h1 hn
def Pq(L:List Nat)(hp:SC P true f args H0 r H')(hn:cf P pu ops (k+1) (uS (bC L (st.put (gV ops k) r))) Q)(hH:lU ls st.H=H0:=by kernel_rfl)
  (h:eg P ops k st []=some (gV ops k,f,args,ls,[]):=by kernel_rfl) (hr:(pg r&&(ls.isEmpty||mP r))=true:=by kernel_rfl) (hs:(bC L (st.put (gV ops k) r)).isSome=true:=by kernel_rfl):cf P pu ops k st Q:=by
 subst hH
 generalize hd:gV ops k=d at *
 unfold eg at h
 split at h
 .rename_i o ho
  split at h
  .rename_i c hop
   split at h
   .rename_i cs hcs
    simp only[g_2,g_8]at h
    obtain⟨h0,rfl,rfl,rfl,e2⟩:=h
    subst h0
    obtain⟨h1,h2⟩:=bo ho
    rw[g_3]at hr
    obtain⟨f0,a0,l1,g0⟩:=cs
    cases e2
    unfold cf
    rw[drop_cons h1]
    refine yt [] h2 hop hcs (by rw[xN];exact hp) hr.1 (by have:=hr.2;rw[p_6]at this;exact this) ?_
    exact da _ (fW hs) hn
   .cases h
  .cases h
 .cases h
def S7(L:List Nat)(hp:SC P true f args H0 r H')(hn:jj P ops (k+1) (uS (bC L (st.put (gV ops k) r))) Q)(hH:lU ls st.H=H0:=by kernel_rfl)
  (h:eg P ops k st []=some (gV ops k,f,args,ls,[]):=by kernel_rfl) (hr:(Jp r).isSome=true:=by kernel_rfl) (hs:(bC L (st.put (gV ops k) r)).isSome=true:=by kernel_rfl):jj P ops k st Q:=by
 subst hH
 generalize hd:gV ops k=d at *
 unfold eg at h
 split at h
 .rename_i o ho
  split at h
  .rename_i c hop
   split at h
   .rename_i cs hcs
    simp only[g_2,g_8]at h
    obtain⟨h0,rfl,rfl,rfl,e2⟩:=h
    subst h0
    obtain⟨h1,h2⟩:=bo ho
    obtain⟨v,hv⟩:=k_1.1 hr
    refine D9 (ls:=cs.ls) h1 h2 hop ?_ (by rw[<-xN]at hp;exact hp) hv (qE _ (fW hs) hn)
    rw[hcs,<-e2]
   .cases h
  .cases h
 .cases h
def tY(n:Nat)(l:List (Nat×SV))(hp:SC P false f args H0 r H')(hn:cf P false ops (k+1) (sp n l H') Q)(hH:st.H=H0:=by kernel_rfl)(h:eg P ops k st []=some (gV ops k,f,args,[],[]):=by kernel_rfl)
  (hr:(pg r&&st.tmps.all er)=true:=by kernel_rfl) (hs:bu n (l.map (·.1)) ⟨(st.put (gV ops k) r).tmps,H'⟩=some (l,H'):=by kernel_rfl):cf P false ops k st Q:=by
 subst hH
 exact w8 n _ l hp h hr hs hn
def Lg(n:Nat)(H:List aN)(l:List (Nat×SV))(hp:SC P true f args H0 r H0)(hn:cf P pu ops (k+1) (sp n l H) Q)(hH:lU ls st.H=H0:=by kernel_rfl)
  (h:eg P ops k st []=some (gV ops k,f,args,ls,[]):=by kernel_rfl) (hr:(pg r&&(ls.isEmpty||mP r))=true:=by kernel_rfl) (hs:bu n (l.map (·.1)) (st.put (gV ops k) r)=some (l,H):=by kernel_rfl):cf P pu ops k st Q:=by
 have e:=aL hs
 exact Pq _ hp (by rw[e];exact hn) hH h hr (by rw[e];rfl)
def aT{α:Type}{c:Operand}{x y:Code}{Q:Exit->St->Prop}{b:Bool}{A B r:α}(h:(bif b then A else B)=r)(hT:A=r->SW P pu x st Q)(hF:B=r->SW P pu y st Q)(hc:cx st c=some (.bool b):=by kernel_rfl):SW P pu (.cond c x y) st Q:=
 DR hc (λe=>hT (fh e h)) (λe=>hF (fi e h))
end
end Go.Sh
