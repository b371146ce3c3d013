/- Contracts of functions over plain data. -/
import Derived.Test.YtmhiemakdfkmeaaGreatS1
import Derived.Deep.Quiet
import Derived.Lib.ConvBytes
import Derived.Maps.RangeRun
import Derived.Lib.SliceRun
import Derived.Laws.Externs
import Derived.IntWalk
import Derived.Lib.Bytealg
import Derived.Sort.Grow
import Derived.Recover
import Derived.RangeFuncNested
import Derived.TacticsIn
set_option linter.all false
set_option autoImplicit true
set_option relaxedAutoImplicit true
namespace Go.Sh
def yY:D->Option Value
 |.fn f [] []=>some (.func f #[] #[])
 |d=>nN d
def yX:List D->Option (List Value)
 |[]=>some []
 |d::ds=>match yY d,yX ds with
  |some v,some vs=>some (v::vs)
  |_,_=>none
def Jo:D->Option Value
 |.agg cs=>(yX cs).map λvs=>.agg vs.toArray
 |d=>yY d
def Hc(h:Rd g w v d)(hd:yY d=some u):v=u:=by
 unfold yY at hd
 split at hd
 .cases hd
  cases h with
  |fn hl1 hl2 us1 us2 hc1 hr1 hc2 hr2=>
   grind
 .exact GD hd h
def Hb: ∀{cs:List D} {vs:List Value} {us:List Value},yX cs=some vs->us.length=cs.length->(∀(j:Nat) (y:D),cs[j]? =some y-> ∃u,us[j]? =some u/\Rd g w u y)->us=vs
 |[],vs,us,h,hl,_=>by simp[yX]at h;subst h;simpa using hl
 |d::ds,vs,us,h,hl,hr=>by
  simp only[yX]at h
  split at h
  .rename_i v vs' h1 h2
   cases h
   cases us with
   |nil=>simp at hl
   |cons u us=>
    obtain⟨u',e1,e2⟩:=hr 0 d ψ
    simp at e1;subst e1
    rw[Hc e2 h1,Hb (us:=us) h2 (by simpa using hl) (λj y hj=>by simpa using hr (j+1) y (by simpa using hj))]
  .cases h
def KO(h:Rd g w v d)(hd:Jo d=some u):v=u:=by
 unfold Jo at hd
 split at hd
 .rename_i cs
  simp only[g_4]at hd
  obtain⟨vs,h1,rfl⟩:=hd
  cases h with
  |agg hl us hc hr=>
   rename_i us0
   have:=Hb (us:=us0.toList) h1 (by simpa using hl) (λj y hj=>⟨us j,by simpa using(hc j y hj).1,hr j y hj⟩)
   rw[<-this]
 .exact Hc h hd
def oZ:List SV->Option (List Value)
 |[]=>some []
 |.d x::r=>match Jo x,oZ r with
  |some v,some vs=>some (v::vs)
  |_,_=>none
 |_=>none
def Jp:SV->Option Value
 |.d x=>Jo x
 |.iQ vs=>(oZ vs).map λus=>.tuple us.toArray
 |_=>none
def DC: ∀{vs:List SV} {ws:List Value},oZ vs=some ws->ws.length=vs.length/\ ∀(j:Nat) (s:SV),vs[j]? =some s-> ∃u x,ws[j]? =some u/\s=.d x/\Jo x=some u
 |[],ws,h=>by simp[oZ]at h;subst h;simp
 |.d x::r,ws,h=>by
  simp only[oZ]at h
  split at h
  .rename_i v vs' h1 h2
   cases h
   obtain⟨hl,hr⟩:=DC h2
   grind
  .cases h
 |.own _ _::_,_,h=>by simp[oZ]at h
 |.cq _ _ _::_,_,h=>by simp[oZ]at h
 |.eW _ _::_,_,h=>by simp[oZ]at h
 |.box _::_,_,h=>by simp[oZ]at h
 |.loc _ _::_,_,h=>by simp[oZ]at h
 |.iQ _::_,_,h=>by simp[oZ]at h
 |.undef::_,_,h=>by simp[oZ]at h
 |.PR _::_,_,h=>by simp[oZ]at h
 |.ep _ _ _::_,_,h=>by simp[oZ]at h
 |.mf _ _ _::_,_,h=>by simp[oZ]at h
def QY(w w':World):Prop:=w.heap.size<=w'.heap.size/\Up w w'/\fK w w'
section
variable {P:Program} {pu:Bool} {st:St} {ops:Array Oper} {k m:Nat} {Q:St->Prop}
def QY.bg(h:QY w w')(g:Gh)(o:Own):aO o g w g w':=λk b h1 h2=>⟨h1,h.2.1 k b h2⟩
def QY.fr(h:QY w w')(g:Gh):Fr pu g w g w':=⟨h.1,h.bg g _,h.bg g _,λ_ _ h=>h,λ_ _=>h.bg g _,λ_ _ _=>h.bg g _,λ_=>rfl,h.2.2⟩
def QY.rel(h:QY w w')(hr:Rel st a w g):Rel st a w' g:=hr.world (λo=>h.bg g o) (λ_ _ h=>h) rfl
def OQ(P:Program)(ops:Array Oper)(l:List Oper)(st:St)(Q:St->Prop):Prop:=
 ∀a w g,Rel st a w g-> ∀Qc:Act->Prop,(∀st' a' g',Q st'->Rel st' a' w g'->(∀pu,Fr pu g w g' w)->Qc a')->wpQuiet P ops (QY w) Qc l a
def jj(P:Program)(ops:Array Oper)(k:Nat)(st:St)(Q:St->Prop):Prop:=OQ P ops (ops.toList.drop k) st Q
def MT(h:decide (ops.size<=k)=true)(hq:Q st):jj P ops k st Q:=by
 have h:=of_decide_eq_true h
 unfold jj
 rw[p_0 (by simpa using h)]
 exactλa w g hr Qc hc=>hc st a g hq hr λ_=>Fr.refl _ _ _
def Pu(ho:ops[k]? =some o)(hw:fG ops st o=some true)(hb:iP P st o s)(hl:kx o.dst s=true)(h:jj P ops (k+1) (st.put o.dst s) Q):jj P ops k st Q:=by
 unfold jj at h ⊢
 rw[drop_cons ho]
 intro a w g hr Qc hc
 unfold wpQuiet
 rw[bt hr hw,if_pos rfl]
 obtain⟨v,e1,e2⟩:=hb a w g hr
 refine⟨v,λw' hw'=>?_,h _ w g (hr.wa e1 hl) Qc hc⟩
 unfold Oper.quietAt
 rw[e2 w' hw'.2.1]
 exact⟨rfl,rfl⟩
def JT{o:Oper}{bO:List Nat}{st':St}(ho:ops[k]? =some o)(hw:fG ops st o=some true)(hb:Ax bO st o=some st')(h:jj P ops (k+1) st' Q):jj P ops k st Q:=by
 unfold Ax at hb
 split at hb
 .rename_i s hop
  split at hb
  .rename_i n xs hs
   split at hb
   .cases hb
    unfold jj at h ⊢
    rw[drop_cons ho]
    intro a w g hr Qc hc
    unfold wpQuiet
    rw[bt hr hw,if_pos rfl]
    have hexec: ∀w',(execOp a.eval o).run P w'=.ok (.value (valOf a s)) w':=λw'=>by unfold execOp;rw[hop];rfl
    obtain⟨g',r,f⟩:=hr.Ks (pu:=true) P hop hs
    refine⟨valOf a s,λw' hw'=>?_,h _ w g' r Qc λst' a' g2 q r2 f2=>hc st' a' g2 q r2 λpu=>Fr.trans ⟨f.1,f.2,f.3,f.4,λ_=>f.5 rfl,λ_=>f.6 rfl,λ_=>f.7 rfl,f.8⟩ (f2 pu)⟩
    unfold Oper.quietAt
    rw[hexec w']
    exact⟨rfl,rfl⟩
   .cases hb
  .cases hb
 .cases hb
def MS(ho:ops[k]? =some o)(hw:fG ops st o=some false)(h:jj P ops (k+1) (st.put o.dst (.iQ [])) Q):jj P ops k st Q:=by
 unfold jj at h ⊢
 rw[drop_cons ho]
 intro a w g hr Qc hc
 unfold wpQuiet
 rw[bt hr hw,if_neg ψ]
 exact h _ w g (hr.cu o.dst (v:=undef) ⟨#[],rfl,rfl,ψ⟩) Qc hc
def Ch{bO:List Nat}{st':St}(n:Nat)(hr:dJ P bO ops n k st=some st')(h:jj P ops (k+n) st' Q):jj P ops k st Q:=by
 induction n generalizing k st with
 |zero=>cases hr;exact h
 |succ n ih=>
  simp only[dJ]at hr
  split at hr
  .rename_i o ho
   split at hr
   .rename_i jh h1
    have ih':=ih hr φ
    unfold Ex at h1
    split at h1
    .rename_i hw
     cases h1
     exact MS ho hw ih'
    .rename_i hw
     split at h1
     .rename_i iY h2
      cases h1
      exact JT ho hw h2 ih'
     .split at h1
      .rename_i s hb
       split at h1
       .rename_i hl
        cases h1
        exact Pu ho hw (cA hb) hl ih'
       .cases h1
      .cases h1
    .cases h1
   .cases hr
  .cases hr
def qE(L:List Nat)(cR:bC L st=some st')(h:jj P ops k st' Q):jj P ops k st Q:=
 λa w g hr=>h a w g (hr.bC cR)
def D8(b:Bool)(S:Bool->St)(h0:st=S b)(hT:b=true->jj P ops k (S true) Q)(hF:b=false->jj P ops k (S false) Q):jj P ops k st Q:=by
 subst h0
 cases b
 .exact hF rfl
 .exact hT rfl
def DJ(hrel:Rel st a w g)(hop:o.op=.call c)(hc:rH P st [] c=some kk)(hp:SC P true kk.f kk.args (st.H.mapIdx (lT kk.ls)) r H'):
  ∃args,(execOp a.eval o).run P w=.ok (.enter kk.f args) w/\Calls P kk.f args w λe w'=> ∃v g',e=.returned v/\yn g' w' v r/\Fr true (g.br (aC kk.ls kk.gs)) w g' w':=by
 unfold rH at hc
 split at hc
 .rename_i fo hcallee
  split at hc
  .rename_i f first caps hfo
   split at hc
   .rename_i ss ls gs hargs
    split at hc
    .rename_i hok
     cases hc
     rw[g_3]at hok
     obtain⟨hgive,hfn⟩:=hok
     have hgs:=pt hgive
     have hrf:=cw hrel hfo
     obtain⟨vf,vc,hev,lf,lc,rf,rc⟩: ∃vf vc:Array Value,a.eval fo=.func (.func f) vf vc/\vf.size=first.length/\vc.size=caps.length/\
       (∀(j:Nat) (y:D),first[j]? =some y-> ∃u,vf[j]? =some u/\Rd g w u y)/\(∀(j:Nat) (y:D),caps[j]? =some y-> ∃u,vc[j]? =some u/\Rd g w u y):=by
      generalize a.eval fo=v at hrf
      cases hrf with
      |fn hl1 hl2 us1 us2 hc1 hr1 hc2 hr2=>grind
     obtain⟨la,ra⟩:=jI hrel hgs hargs (λ_ h=>h) (λ_ h=>h)
     have hexec:(execOp a.eval o).run P w=.ok (.enter f (vf++c.args.map a.eval++vc)) w:=by
      unfold execOp
      rw[hop]
      exact sd hcallee hev hfn w
     refine⟨_,hexec,?_⟩
     have hRA:jM (g.br (aC ls gs)) w (vf++c.args.map a.eval++vc) (first.map .d++ss++caps.map .d):=by
      have hla:(c.args.map a.eval).size=ss.length:=by rw[<-la];simp
      have hla':c.args.size=ss.length:=by rw[<-la];simp
      refine⟨by simp[lf,lc,<-la],λj s hj=>?_⟩
      have kp: ∀{v:Value} {d:D},Rd g w v d->Rd (g.br (aC ls gs)) w v d:=λhr=>hr.bg (aO.br rfl) (λ_ _ h=>h)
      by_cases j1:j<first.length
      .rw[j_2,h_6 (by simpa using j1),h_1]at hj
       simp only[g_4]at hj
       obtain⟨d,hd,rfl⟩:=hj
       obtain⟨u,e1,e2⟩:=rf j d hd
       exact⟨u,φ,kp e2⟩
      .by_cases j2:j<first.length+ss.length
       .grind
       .rw[h_5 χ,h_1]at hj
        simp only[g_4,h_9,k_0]at hj
        obtain⟨d,hd,rfl⟩:=hj
        obtain⟨u,e1,e2⟩:=rc _ d hd
        refine⟨u,?_,kp e2⟩
        grind
     refine(hp w (g.br (aC ls gs)) _ hRA (hrel.hp.Gz (ls:=ls) (gs:=gs))).mono λe w' hh=>?_
     grind
    .cases hc
   .cases hc
  .cases hc
 .cases hc
def FO{g g':Gh}{w w':World}{ls:List Loc}(h:Fr true (g.br (aC ls [])) w g' w'):QY w w':=by
 refine⟨h.size,λk o hk=>?_,h.os⟩
 have key:(g.br (aC ls [])).ow k=aC ls [] (g.ow k):=rfl
 have hex: ∀o',aC ls [] o'=.free\/aC ls [] o'=.out\/(∃i,aC ls [] o'=.obj i)\/ ∃i j,aC ls [] o'=.bN (.au i j):=λo'=>by
  cases o' with
  |free=>exact .inl rfl
  |out=>exact .inr (.inl rfl)
  |box t=>exact .inr (.inl rfl)
  |obj i=>exact .inr (.inr (.inl ⟨i,rfl⟩))
  |bN l=>
   simp only[aC]
   grind
 rcases hex (g.ow k)with e|e|⟨i,e⟩|⟨i,j,e⟩
 .exact(h.free k o (key.trans e) hk).2
 .exact(h.out k o (key.trans e) hk).2
 .exact(h.obj rfl i k o (key.trans e) hk).2
 .exact(h.au rfl i j k o (key.trans e) hk).2
def D9{o:Oper}{c:Call}{f:FuncId}{args:List SV}{ls:List Loc}{r:SV}{v:Value}{H':List aN}(ho:ops[k]? =some o)(hw:fG ops st o=some true)(hop:o.op=.call c)
  (hc:rH P st [] c=some ⟨f,args,ls,[]⟩) (hp:SC P true f args (st.H.mapIdx (lT ls)) r H') (hr:Jp r=some v) (h:jj P ops (k+1) (st.put o.dst r) Q):jj P ops k st Q:=by
 unfold jj at h ⊢
 rw[drop_cons ho]
 intro a w g hrel Qc hq
 unfold wpQuiet
 rw[bt hrel hw,if_pos rfl]
 cases r with
 |d x=>
  refine⟨v,λw' hw'=>?_,h _ w g (hrel.cu o.dst (v:=v) ?_) Qc hq⟩
  .obtain⟨as,e1,e2⟩:=DJ (hw'.rel hrel) hop hc hp
   unfold Oper.quietAt
   rw[e1]
   refine⟨rfl,e2.mono λe w'' hh=>?_⟩
   obtain⟨v',g',rfl,hres,hf⟩:=hh
   have hrd:Rd g' w'' v' x:=hres
   refine⟨by rw[KO hrd hr],?_⟩
   have:=FO hf
   exact⟨v_2 hw'.1 this.1,λk o hk=>this.2.1 k o (hw'.2.1 k o hk),hw'.2.2.trans this.2.2⟩
  .exact Oq hr
 |iQ vs=>
  simp only[Jp,g_4]at hr
  obtain⟨us,hr,rfl⟩:=hr
  obtain⟨hl,hg⟩:=DC hr
  refine⟨.tuple us.toArray,λw' hw'=>?_,h _ w g (hrel.put o.dst λt _ _=>?_) Qc hq⟩
  .obtain⟨as,e1,e2⟩:=DJ (hw'.rel hrel) hop hc hp
   unfold Oper.quietAt
   rw[e1]
   refine⟨rfl,e2.mono λe w'' hh=>?_⟩
   obtain⟨v',g',rfl,hres,hf⟩:=hh
   obtain⟨us',rfl,hl',hg'⟩:=hres
   refine⟨?_,?_⟩
   .congr 2
    apply v_5
    apply m_6
    intro j
    by_cases hj:j<vs.length
    .obtain⟨u,x,e1,e2,e3⟩:=hg j vs[j] (by simp[hj])
     obtain⟨u',e4,e5⟩:=hg' j vs[j] (by simp[hj])
     rw[e2]at e5
     have hrd:Rd g' w'' u' x:=e5
     have:=KO hrd e3
     grind
    grind
   .have:=FO hf
    exact⟨v_2 hw'.1 this.1,λk o hk=>this.2.1 k o (hw'.2.1 k o hk),hw'.2.2.trans this.2.2⟩
  .refine⟨us.toArray,rfl,by simpa using hl,λj s hj=>?_⟩
   obtain⟨u,x,e1,rfl,e3⟩:=hg j s hj
   exact⟨u,by simpa using e1,(Oq e3:Rd _ _ u x)⟩
 |_=>simp[Jp]at hr
where
 KP {g:Gh} {w:World} {u:Value} {d:D} (hd:yY d=some u):Rd g w u d:=by
  unfold yY at hd
  split at hd
  .cases hd
   exact .fn rfl rfl (λ_=>undef) (λ_=>undef) ψ ψ ψ ψ
  .exact Ny hd
 Ot {u:Value} {d:D} (hd:yY d=some u):u.oneCell'=true:=by
  cases d<;>simp only[yY,nN,g_4,g_2,reduceCtorEq]at hd
  all_goals first
   |(subst hd;rfl)
   |(obtain⟨_,_,rfl⟩:=hd;rfl)
   |(split at hd<;>first|(cases hd;rfl)|(simp[nN]at hd))
 KN {g:Gh} {w:World}: ∀{cs:List D} {vs:List Value},yX cs=some vs->vs.length=cs.length/\ ∀(j:Nat) (y:D),cs[j]? =some y-> ∃u,vs[j]? =some u/\Rd g w u y/\u.oneCell'=true
  |[],vs,h=>by simp[yX]at h;subst h;simp
  |d::ds,vs,h=>by
   simp only[yX]at h
   split at h
   .rename_i v vs' h1 h2
    cases h
    obtain⟨hl,hr⟩:=KN (g:=g) (w:=w) h2
    refine⟨by simp[hl],λj y hj=>?_⟩
    cases j with
    |zero=>simp at hj;subst hj;exact⟨v,ψ,KP h1,Ot h1⟩
    |succ j=>grind
   .cases h
 Oq {g:Gh} {w:World} {u:Value} {d:D} (hd:Jo d=some u):Rd g w u d:=by
  unfold Jo at hd
  split at hd
  .simp only[g_4]at hd
   obtain⟨vs,h1,rfl⟩:=hd
   obtain⟨hl,hr⟩:=KN (g:=g) (w:=w) h1
   exact td (by simpa using hl) (λj y hj=>by simpa using hr j y hj)
  .exact KP hd
def HD{id:Nat}{l:List Oper}{Q:Exit->St->Prop}(hm:P.follows .mixedOrders=true)(hB:Region.lexB .any l.toArray=true)(h:jj P l.toArray 0 st (Q .normal)):SW P pu (.region id l.toArray true) st Q:=by
 intro a w g hr
 refine wp_region_quiet (C:=QY w.drew) hm hB ⟨h_0 _,λ_ _ h=>h,fK.refl _⟩ ?_
 unfold jj at h
 rw[q_1]at h
 exact h a w.drew g hr.drew _ λst' a' g' q r f w' hw'=>⟨st',g',q,hw'.rel r,(Fr.drew.trans (f pu)).trans (hw'.fr g')⟩
variable (n:Nat) (H:List aN)
def FB(bO L:List Nat)(j:Nat)(l:List (Nat×SV))(hr:(dJ P bO ops j k st).bind (bu n L)=some (l,H))(h:jj P ops (k+j) (sp n l H) Q):jj P ops k st Q:=by
 have:=oC hr
 simp only[g_9]at this
 obtain⟨jh,h1,h2⟩:=this
 exact Ch j h1 (qE L h2 h)
def Lh(L:List Nat)(j:Nat)(b:Bool)(S:Bool->St)(l:Bool->List (Nat×SV))(h0:st=S b)(hT:(dJ P [] ops j k (S true)).bind (bu n L)=some (l true,H))(hF:(dJ P [] ops j k (S false)).bind (bu n L)=some (l false,H))
  (h:jj P ops (k+j) (sp n (l b) H) Q):jj P ops k st Q:=by
 subst h0
 exact FB n H [] L j (l b) (by cases b<;>assumption) h
def Q5(L:List Nat)(l:List (Nat×SV))(hb:pP P ops k st d s)(cR:bu n L (st.put d s)=some (l,H))(h:jj P ops (k+1) (sp n l H) Q):jj P ops k st Q:=by
 obtain⟨o,h1,h2,h3,h4,rfl⟩:=hb
 exact Pu h1 h2 h3 h4 (qE L (aL cR) h)
def Q6(L:List Nat)(l:List (Nat×SV))(hp:PC P f args r)(h:eg P ops k st []=some (d,f,args,ls,[]))(hr:(Jp r).isSome=true)
  (cR:bu n L (st.put d r)=some (l,H)) (hn:jj P ops (k+1) (sp n l H) Q):jj P ops k st Q:=by
 unfold eg at h
 split at h
 .rename_i o ho
  split at h
  .rename_i c hop
   split at h
   .rename_i cs hcs
    simp only[g_2,g_8]at h
    obtain⟨rfl,rfl,rfl,rfl,h5⟩:=h
    obtain⟨h1,h2⟩:=bo ho
    obtain⟨v,hv⟩:=k_1.1 hr
    refine D9 (ls:=cs.ls) h1 h2 hop ?_ (hp _) hv (qE L (aL cR) hn)
    rw[hcs,<-h5]
   .cases h
  .cases h
 .cases h
end
section
variable {P:Program} {pu:Bool} {st:St} {ops:Array Oper} {k m:Nat} {Q:St->Prop}
def pd(S:Int->St)(h0:st=S e)(hc:(e==j)=true)(h:jj P ops k (S j) Q):jj P ops k st Q:=by
 grind
end
section
variable {P:Program} {pu:Bool} {st:St}
end
section
variable {P:Program} {pu:Bool} {st:St} {ops:Array Oper} {k:Nat} {Q:St->Prop}
end
section
variable {P:Program} {pu:Bool} {st:St} {ops:Array Oper} {k:Nat} {Q:St->Prop}
end
def NQ(R:Act->World->Prop):Exit->Act->World->Prop:=λe a w=>e=.normal/\R a w
def NQ.out{R:Act->World->Prop}: ¬LetsOut (NQ R):=λ⟨_,_,h,_⟩=>by cases h
section
variable {P:Program} {ops:Array Oper} {md:Region.Mode} {R:Act->World->Prop}
def Jr(a:Act)(ds:List Deferred)(d:Option Tmp)(v:Value):({a.put d v with defers:=ds}:Act)=({a with defers:=ds}:Act).put d v:=by cases d<;>rfl
def yL(a:Act)(d:Option Tmp)(v:Value):(a.put d v).defers=a.defers:=by cases d<;>rfl
def GY(a:Act)(ds:List Deferred)(x:Operand):({a with defers:=ds}:Act).eval x=a.eval x:=by cases x<;>rfl
end
section
variable {P:Program} {ops:Array Oper} {md:Region.Mode} {w:World} {hds:List Nat} {t0:Nat} {ts:List Nat}
def opsOf(ops:Array Oper)(is:List Nat):List Oper:=is.filterMap (ops[·]?)
end
section
variable {P:Program} {pu:Bool} {st:St}
def tz(h:o.guard=none)(f:Nat->Option Bool):Region.wanted o f=true:=by unfold Region.wanted;rw[h]
def AY{ops:Array Oper}(h:ops.all (λo=>o.guard.isNone)=true)(is:List Nat): ∀o∈opsOf ops is,o.guard=none:=λo ho=>by
 simp only[opsOf,List.mem_filterMap]at ho
 obtain⟨i,-,hi⟩:=ho
 rw[Array.all_eq_true']at h
 simpa using h o (Array.mem_of_getElem? hi)
end
inductive CS where
 |int (k:IntKind)
 |str
def pJ(P:Program)(K:TypeId):Option CS:=
 match P.underlying K with
 |some (.int k)=>some (.int k)
 |some .string=>some .str
 |_=>none
def CS.desc:CS->TypeDesc
 |.int k=>.int k
 |.str=>.string
def isKey:CS->D->Bool
 |.int k,.int k' _=>k==k'
 |.str,.str _=>true
 |_,_=>false
def vR:D->D->Bool
 |.int _ a,.int _ b=>a==b
 |.str a,.str b=>a==b
 |_,_=>false
def oU(x:D):List (D×D)->Nat->Option (Nat×D)
 |[],_=>none
 |(k,v)::es,i=>if vR x k then some (i,v)else oU x es (i+1)
def uI(a b:List UInt8):(mk a==mk b)=(a==b):=by
 show((⟨a⟩:Array UInt8)==⟨b⟩)=_
 simp
def Gb(hx:isKey T x=true)(hy:isKey T y=true)(hu:Rd g w u x)(hv:Rd g w v y)(d:TypeDesc)(hd:d=T.desc):
  Instr.sameNow d u v=some (vR x y):=by
 cases T with
 |int k=>
  cases x<;>simp only[isKey,g_7]at hx
  cases y<;>simp only[isKey,g_7]at hy
  cases hu;cases hv
  simp only[beq_iff_eq]at hx hy
  subst hx;subst hy;subst hd
  simp[Instr.sameNow,vR,CS.desc]
 |str=>
  cases x<;>simp only[isKey,g_7]at hx
  cases y<;>simp only[isKey,g_7]at hy
  cases hu;cases hv
  subst hd
  simp[Instr.sameNow,vR,uI,CS.desc]
def yS(hx:isKey T x=true)(hu:Rd g w u x)(d:TypeDesc)(hd:d=T.desc):
  ∀(ms:List MapEntry) (es:List (D×D)) (i:Nat),ms.length=es.length->(∀(j:Nat) (p:D×D),es[j]? =some p-> ∃m,ms[j]? =some m/\Rd g w m.key p.1/\Rd g w m.val p.2)->(∀p∈es,isKey T p.1=true)->
  ∃r,Instr.findNow d u ms i=some r/\((oU x es i=none/\r=none)\/ ∃j y v,oU x es i=some (j,y)/\r=some (j,v)/\Rd g w v y)
 |[],[],i,_,_,_=>⟨none,rfl,.inl ⟨rfl,rfl⟩⟩
 |[],_::_,i,h,_,_=>by simp at h
 |_::_,[],i,h,_,_=>by simp at h
 |m::ms,(k,y)::es,i,hl,hr,hk=>by
  obtain⟨m',e1,e2,e3⟩:=hr 0 (k,y) rfl
  simp only[j_3,g_2]at e1
  subst e1
  have hs:=Gb hx (hk (k,y) ψ) hu e2 d hd
  simp only[Instr.findNow,oU,hs]
  cases hb:vR x k with
  |true=>grind
  |false=>
   obtain⟨r,h1,h2⟩:=yS hx hu d hd ms es (i+1) (by simpa using hl) (λj p hj=>by simpa using hr (j+1) p (by simpa using hj)) (λp hp=>hk p (by simp[hp]))
   grind
structure Cd(α:Type) where
 enc:α->D
 dec:D->Option α
 de: ∀d x,dec d=some x->d=enc x
 ed: ∀x,dec (enc x)=some x
def cI(k:IntKind):Cd Int where
 enc:=.int k
 dec
  |.int k' n=>if k'=k then some n else none
  |_=>none
 de d x h:=by
  grind
 ed x:=by simp
def cB:Cd Bool where
 enc:=.bool
 dec
  |.bool b=>some b
  |_=>none
 de d x h:=by grind
 ed x:=rfl
def cS:Cd (List UInt8) where
 enc:=.str
 dec
  |.str b=>some b
  |_=>none
 de d x h:=by grind
 ed x:=rfl
def cP:Cd (Option Nat) where
 enc
  |none=>.fZ
  |some i=>.ptr i 0
 dec
  |.fZ=>some none
  |.ptr i 0=>some (some i)
  |_=>none
 de d x h:=by
  grind
 ed x:=by cases x<;>rfl
def cM:Cd (Option Nat) where
 enc
  |none=>.kf
  |some i=>.map i
 dec
  |.kf=>some none
  |.map i=>some (some i)
  |_=>none
 de d x h:=by grind
 ed x:=by cases x<;>rfl
def q8{α:Type}(c:Cd α): ∀(ds:List D) (xs:List α),ds.mapM c.dec=some xs->ds=xs.map c.enc
 |[],xs,h=>by simp at h;subst h;rfl
 |d::ds,xs,h=>by
  simp only[List.mapM_cons,Option.bind_eq_bind,g_9]at h
  obtain⟨x,h1,ys,h2,h3⟩:=h
  cases h3
  rw[h_3,<-c.de d x h1,<-q8 c ds ys h2]
def nU{α:Type}(c:Cd α): ∀xs:List α,(xs.map c.enc).mapM c.dec=some xs
 |[]=>rfl
 |x::xs=>by simp[c.ed,nU c xs]
def cL{α:Type}(n:Nat)(c:Cd α):Cd (List α) where
 enc xs:=.list n (xs.map c.enc)
 dec
  |.list n' ds=>if n'=n then ds.mapM c.dec else none
  |_=>none
 de d x h:=by
  cases d<;>simp only[reduceCtorEq]at h
  split at h
  .rename_i e;subst e;rw[<-q8 c _ _ h]
  .cases h
 ed x:=by show(if n=n then(x.map c.enc).mapM c.dec else none)=_;rw[if_pos rfl,nU]
structure Cc(α:Type) where
 enc:α->List SV
 dec:List SV->Option (α×List SV)
 de: ∀l x r,dec l=some (x,r)->l=enc x++r
 ed: ∀x r,dec (enc x++r)=some (x,r)
def Cd.cell{α:Type}(c:Cd α):Cc α where
 enc x:=[.d (c.enc x)]
 dec
  |.d d::r=>(c.dec d).map (·,r)
  |_=>none
 de l x r h:=by
  split at h
  .rename_i d r'
   simp only[g_4,g_8]at h
   obtain⟨y,h1,rfl,rfl⟩:=h
   rw[c.de d y h1];rfl
  .cases h
 ed x r:=by simp[c.ed]
def Cc.pair{α β:Type}(a:Cc α)(b:Cc β):Cc (α×β) where
 enc p:=a.enc p.1++b.enc p.2
 dec l:=(a.dec l).bind λp=>(b.dec p.2).map λq=>((p.1,q.1),q.2)
 de l x r h:=by
  simp only[g_9,g_4,g_8]at h
  obtain⟨p,h1,q,h2,h3,h4⟩:=h
  subst h3;subst h4
  rw[a.de l p.1 p.2 h1,j_2,b.de p.2 q.1 q.2 h2]
 ed x r:=by
  rw[j_2,a.ed]
  simp[b.ed]
structure Cl(α:Type) where
 enc:α->List D
 dec:List D->Option (α×List D)
 de: ∀l x r,dec l=some (x,r)->l=enc x++r
 ed: ∀x r,dec (enc x++r)=some (x,r)
def Cd.one{α:Type}(c:Cd α):Cl α where
 enc x:=[c.enc x]
 dec
  |d::r=>(c.dec d).map (·,r)
  |_=>none
 de l x r h:=by
  split at h
  .rename_i d r'
   simp only[g_4,g_8]at h
   obtain⟨y,h1,rfl,rfl⟩:=h
   rw[c.de d y h1];rfl
  .cases h
 ed x r:=by simp[c.ed]
def Cl.pair{α β:Type}(a:Cl α)(b:Cl β):Cl (α×β) where
 enc p:=a.enc p.1++b.enc p.2
 dec l:=(a.dec l).bind λp=>(b.dec p.2).map λq=>((p.1,q.1),q.2)
 de l x r h:=by
  simp only[g_9,g_4,g_8]at h
  obtain⟨p,h1,q,h2,h3,h4⟩:=h
  subst h3;subst h4
  rw[a.de l p.1 p.2 h1,j_2,b.de p.2 q.1 q.2 h2]
 ed x r:=by
  rw[j_2,a.ed]
  simp[b.ed]
def Cl.Ux{α β:Type}(a:Cl α)(f:α->β)(g:β->α)(fg: ∀x,f (g x)=x)(gf: ∀x,g (f x)=x):Cl β where
 enc x:=a.enc (g x)
 dec l:=(a.dec l).map λp=>(f p.1,p.2)
 de l x r h:=by
  simp only[g_4,g_8]at h
  obtain⟨p,h1,rfl,rfl⟩:=h
  rw[gf];exact a.de l p.1 p.2 h1
 ed x r:=by simp[a.ed,fg]
def Cl.agg{α:Type}(a:Cl α):Cd α where
 enc x:=.agg (a.enc x)
 dec
  |.agg l=>match a.dec l with|some (x,[])=>some x|_=>none
  |_=>none
 de d x h:=by
  cases d<;>simp only[reduceCtorEq]at h
  split at h
  .rename_i y h1
   cases h
   rw[a.de _ _ _ h1,p_4]
  .cases h
 ed x:=by
  have:=a.ed x []
  grind
def AR:List SV->List D×List SV
 |.d d::r=>((d::(AR r).1),(AR r).2)
 |l=>([],l)
def Ew: ∀l:List SV,l=(AR l).1.map .d++(AR l).2
 |[]=>rfl
 |s::r=>by
  cases s with
  |d x=>simp only[AR,h_3,m_7];rw[<-Ew r]
  |_=>rfl
def Gk: ∀(ds:List D) (r:List SV),AR (ds.map .d++r)=(ds++(AR r).1,(AR r).2)
 |[],r=>rfl
 |d::ds,r=>by simp only[h_3,m_7,AR];rw[Gk ds r]
def Cl.cells{α:Type}(a:Cl α):Cc α where
 enc x:=(a.enc x).map .d
 dec l:=(a.dec (AR l).1).map λp=>(p.1,p.2.map .d++(AR l).2)
 de l x r h:=by
  simp only[g_4,g_8]at h
  obtain⟨p,h1,rfl,rfl⟩:=h
  have:=a.de _ p.1 p.2 h1
  rw[<-j_2,<-j_9,<-this]
  exact Ew l
 ed x r:=by
  rw[Gk]
  simp only[a.ed,m_4,g_2,g_8,true_and]
  exact(Ew r).symm
structure Kc(K:Type)[BEq K] where
 c:Cd K
 kt:CS
 Uy: ∀x,isKey kt (c.enc x)=true
 same: ∀a b,vR (c.enc a) (c.enc b)=(a==b)
def kI(k:IntKind):Kc Int:=⟨cI k,.int k,λ_=>by simp[cI,isKey],λ_ _=>rfl⟩
abbrev Hp:=List aN
def lW(H:Hp)(i:Nat):Option (List SV):=match H[i]? with|some (.cells cs)=>some cs|_=>none
def lz(h:lW H i=some cs):H[i]? =some (.cells cs):=by
 unfold lW at h
 grind
def bE{α:Type}(c:Cc α)(H:Hp)(i off:Nat):Option α:=(lW H i).bind λcs=>(c.dec (cs.drop off)).map (·.1)
def QD{α:Type}{c:Cc α}{x:α}(h:bE c H i off=some x): ∃cs r,H[i]? =some (.cells cs)/\cs.drop off=c.enc x++r:=by
 unfold bE at h
 simp only[g_9,g_4]at h
 obtain⟨cs,h1,⟨y,r⟩,h2,rfl⟩:=h
 exact⟨cs,r,lz h1,c.de _ _ _ h2⟩
def GR(H:Hp)(i off:Nat)(ds:List D):Option Hp:=(lW H i).bind λcs=>if off+ds.length<=cs.length then some (H.set i (.cells (setCells cs off ds)))else none
def QB(h:GR H i off ds=some H'): ∃cs,H[i]? =some (.cells cs)/\off+ds.length<=cs.length/\H'=H.set i (.cells (setCells cs off ds)):=by
 unfold GR at h
 simp only[g_9]at h
 obtain⟨cs,h1,h2⟩:=h
 split at h2
 .cases h2;exact⟨cs,lz h1,by assumption,rfl⟩
 .cases h2
def ee{α:Type}(c:Cd α)(H:Hp)(i off:Nat)(x:α):Option Hp:=GR H i off (c.enc x).cells
def nv(H:Hp)(o:aN):Option (Hp×Nat):=some (H++[o],H.length)
def Bw{K V:Type}[BEq K](k:Kc K)(v:Cd V)(H:Hp)(m:Option Nat):Option (List (K×V)):=
 match m with
 |none=>some []
 |some i=>match H[i]? with
  |some (.map es)=>es.mapM λp=>(k.c.dec p.1).bind λa=>(v.dec p.2).map λb=>(a,b)
  |_=>none
def mg{K V:Type}[BEq K](k:Kc K)(v:Cd V)(p:K×V):D×D:=(k.c.enc p.1,v.enc p.2)
def Kv{K V:Type}[BEq K](k:Kc K)(v:Cd V): ∀(es:List (D×D)) (xs:List (K×V)),(es.mapM λp=>(k.c.dec p.1).bind λa=>(v.dec p.2).map λb=>(a,b))=some xs->es=xs.map (mg k v)
 |[],xs,h=>by simp at h;subst h;rfl
 |p::es,xs,h=>by
  simp only[List.mapM_cons,Option.bind_eq_bind,g_9,g_4]at h
  obtain⟨q,⟨a,ha,b,hb,rfl⟩,ys,h2,h3⟩:=h
  cases h3
  rw[h_3,<-Kv k v es ys h2]
  congr 1
  exact Prod.ext (k.c.de _ _ ha) (v.de _ _ hb)
def Ku{K V:Type}[BEq K](k:Kc K)(v:Cd V): ∀xs:List (K×V),((xs.map (mg k v)).mapM λp=>(k.c.dec p.1).bind λa=>(v.dec p.2).map λb=>(a,b))=some xs
 |[]=>rfl
 |x::xs=>by
  rw[h_3,List.mapM_cons,Ku k v xs]
  simp[mg,k.c.ed,v.ed]
def zT{K V:Type}[BEq K]{k:Kc K}{v:Cd V}{es:List (K×V)}:Bw k v H (some i)=some es<->H[i]? =some (.map (es.map (mg k v))):=by
 constructor
 .intro h
  simp only[Bw]at h
  split at h
  .rename_i es' h1;rw[h1,<-Kv k v _ _ h]
  .cases h
 .intro h
  simp only[Bw,h]
  exact Ku k v es
def Bx{K V:Type}[BEq K](k:Kc K)(v:Cd V)(H:Hp)(m:Option Nat)(x:K):Option (Option V):=(Bw k v H m).map λes=>es.lookup x
def Cv{K V:Type}[BEq K](x:K)(y:V):List (K×V)->List (K×V)
 |[]=>[(x,y)]
 |(a,b)::es=>if x==a then(x,y)::es else(a,b)::Cv x y es
def Bv{K V:Type}[BEq K](k:Kc K)(v:Cd V)(H:Hp)(m:Option Nat)(x:K)(y:V):Option Hp:=
 m.bind λi=>(Bw k v H (some i)).map λes=>H.set i (.map ((Cv x y es).map (mg k v)))
def RO.nO(h0:aO .free g w g' w')(h1:aO (.obj i) g w g' w')(h2: ∀j,aO (.bN (.au i j)) g w g' w')(hρ:eB g g')(h:RO g w i o):RO g' w' i o:=by
 cases o with
 |cells cs=>
  obtain⟨k,c,T,hr,ho,hb,hs,hc⟩:=h
  obtain⟨ho',hb'⟩:=h1 k _ ho hb
  exact⟨k,c,T,hρ _ _ hr,ho',hb',hs,λj s hj=>let⟨u,a1,a2,a3⟩:=hc j s hj;⟨u,a1,a2.bg h0 (h2 j) hρ,a3⟩⟩
 |map es=>
  obtain⟨k,ms,clock,hr,ho,hb,hs,hbo,hc⟩:=h
  obtain⟨ho',hb'⟩:=h1 k _ ho hb
  exact⟨k,ms,clock,hρ _ _ hr,ho',hb',hs,hbo,λj p hj=>let⟨m,a1,a2,a3⟩:=hc j p hj;⟨m,a1,a2.bg h0 hρ,a3.bg h0 hρ⟩⟩
 |hole=>trivial
 |iter kb clock=>
  obtain⟨k,hr,ho,hb⟩:=h
  obtain⟨ho',hb'⟩:=h1 k _ ho hb
  exact⟨k,hρ _ _ hr,ho',hb'⟩
 |Qv kb clock ms es=>
  obtain⟨hr,ho,hb,hs,hbo,hc⟩:=h
  obtain⟨ho',hb'⟩:=h1 kb _ ho hb
  exact⟨hρ _ _ hr,ho',hb',hs,hbo,λj p hj=>let⟨m,a1,a2,a3⟩:=hc j p hj;⟨m,a1,a2.bg h0 hρ,a3.bg h0 hρ⟩⟩
 |SA T e bs=>
  obtain⟨k,p,v,hr,ho,hb⟩:=h
  obtain⟨ho',hb'⟩:=h1 k _ ho hb.1
  exact⟨k,p,v,hρ _ _ hr,ho',hb.bg (h2 1) (hb'.trans hb.1.symm)⟩
def nh: ¬jQ t s (.obj i):=by cases s<;>simp[jQ]
section
variable {P:Program} {st:St}
def St.hp(st:St)(H:List aN):St:={st with H:=H}
def Rel.setObj(hr:Rel st a w g)(hi:i<st.H.length)(hk:g.ρ[i]? =some k)(ho:g.ow k=.obj i)(hw: ∀k',k'≠k->w'.heap[k']? =w.heap[k']?)(hn:RO g w' i o):
  Rel (st.hp (st.H.set i o)) a w' g:=by
 have hkp: ∀o',o'≠.obj i->aO o' g w g w':=λo' h=>aO.block ho h hw
 refine bc hr hr.len hr.dS (λ_ _ h=>h) (λt s hs=>.inr (.inr ⟨hs,rfl,λo' ho'=>hkp o' (λe=>?_),λs' _=>⟨rfl,λx hx _=>⟨x,hx,rfl⟩⟩⟩)) ⟨by simp[St.hp,hr.hp.1],λi' o' hi'=>?_⟩
 .subst e;exact nh ho'
 .simp only[St.hp]at hi'
  by_cases e:i=i'
  .grind
  .rw[g_1 e]at hi'
   exact(hr.hp.2 i' o' hi').nO (hkp _ ψ) (hkp _ (by simpa using j_6 e)) (λj=>hkp _ ψ) (λ_ _ h=>h)
def Fr.setObj(ho:g.ow k=.obj i)(hs:w'.heap.size=w.heap.size)(hw: ∀k',k'≠k->w'.heap[k']? =w.heap[k']?)(hos:fK w w':=by exact⟨rfl,rfl⟩):Fr false g w g w':=
 ⟨by rw[hs];exact h_0 _,aO.block ho ψ hw,aO.block ho ψ hw,λ_ _ h=>h,nofun,nofun,nofun,hos⟩
def te(hop:o.op=.store T x y)(hd:o.dst=none)(hx:sk st x=some (i,off))(hy:cx st y=some d)(hu:(P.underlying T).isNone=false)
  (hsz:d.cells.length=P.cellsOf T) (hH:GR st.H i off d.cells=some H'):jO P false st o (st.hp H'):=by
 refine jO.skip λa w g hr=>?_
 obtain⟨cs,hi,hfit,rfl⟩:=QB hH
 obtain⟨k,e1,e3⟩:=kW hr hx
 obtain⟨k',c,T0,f1,f2,f3,f4,f5⟩:=hr.hp.2 i _ hi
 rw[e1]at f1
 cases f1
 have hrd:=cw hr hy
 obtain⟨c1,c2⟩:=hrd.cells
 have hone: ∀v∈(a.eval y).cells.toList,v.oneCell'=true:=λv hv=>by
  obtain⟨j,hj⟩:=h_2.1 hv
  have hlt:j<d.cells.length:=by grind
  obtain⟨u,u1,u2,u3⟩:=c2 j d.cells[j] (by simp[hlt])
  grind
 obtain⟨w',r1,r2,r3,c',r4,r5,r6⟩:=cm (P:=P) k off T0 (a.eval y).cells.toList 0 c w f3 (by simp[c1];omega) hone
 refine⟨w',g,?_,?_,Fr.setObj f2 r2 r3 (cK (P:=P) k off T0 (a.eval y).cells.toList 0 c w w' f3 (by simp[c1];omega) hone r1)⟩
 .unfold execOp;rw[hop]
  simp only[Instr.storeAt,Sem.run_bind,e3,Instr.sureAddr,Sem.run_pure,Result.andThen_ok,storeVar,gA hu]
  simp_all
 .rw[hd]
  refine hr.setObj (aU hi) e1 f2 r3 ⟨k,c',T0,e1,f2,r4,by rw[r5,f4,vP ω],λj sv hj=>?_⟩
  have hkp: ∀o',o'≠.obj i->aO o' g w g w':=λo' ho=>aO.block f2 ho r3
  rcases vQ ω hj with⟨h1,h2,y',h3,rfl⟩|⟨h1,h2⟩
  .obtain⟨u,u1,u2,u3⟩:=c2 _ _ h3
   refine⟨u,?_,Rd.bg (hkp _ ψ) (λ_ _ h=>h) u2,u3⟩
   grind
  .obtain⟨u,u1,u2,u3⟩:=f5 j sv h2
   refine⟨u,?_,u2.bg (hkp _ ψ) (hkp _ ψ) (λ_ _ h=>h),u3⟩
   grind
def Gh.new(g:Gh)(k i:Nat):Gh:=⟨(g.xe k (.obj i)).ow,g.ρ++[k]⟩
def eB.new:eB g (g.new k i):=λj k' h=>by
 simp only[Gh.new]
 grind
def aO.new:aO o' g w (g.new w.heap.size i) (w.alloc ob):=by
 intro k b hk hb
 exact aO.alloc (t:=.obj i) (o:=ob) k b hk hb
def Fr.new:Fr false g w (g.new w.heap.size i) (w.alloc ob):=
 ⟨ψ,aO.new,aO.new,eB.new,nofun,nofun,nofun,⟨rfl,rfl⟩⟩
def Rel.newObj(hr:Rel st a w g)(hn:RO (g.new w.heap.size st.H.length) (w.alloc ob) st.H.length o):
  Rel (st.hp (st.H++[o])) a (w.alloc ob) (g.new w.heap.size st.H.length):=by
 refine bc hr hr.len hr.dS eB.new (λt s hs=>.inr (.inr ⟨hs,rfl,λo' ho'=>aO.new,λs' _=>⟨rfl,λx hx _=>⟨x,hx,rfl⟩⟩⟩)) ⟨by simp[St.hp,Gh.new,hr.hp.1],λi' o' hi'=>?_⟩
 simp only[St.hp]at hi'
 by_cases h:i'<st.H.length
 .rw[h_6 h]at hi'
  exact(hr.hp.2 i' o' hi').nO aO.new aO.new (λ_=>aO.new) eB.new
 grind
def wu(h:RH g w H)(k:Nat):(g.new k H.length).ρ[H.length]? =some k:=by
 simp only[Gh.new]
 rw[<-h.1,h_5 (h_0 _)]
 simp
def NR{g:Gh}(k i:Nat):(g.new k i).ow k=.obj i:=by simp[Gh.new]
def lS(l:List (Nat×Nat×Bool))(cs:List SV):List SV:=match l with
 |[]=>cs
 |(j,n,b)::l=>lS l (match cs[j]? with|some (.d .cG)=>cs.set j (if b then .own n []else .d (.list n []))|_=>cs)
def wo: ∀(l:List (Nat×Nat×Bool)) (cs:List SV),(lS l cs).length=cs.length
 |[],cs=>rfl
 |(j,n,b)::l,cs=>by
  rw[lS,wo l]
  split<;>simp
def wq{g:Gh}{w:World}{lo:Nat->Loc}{c:Array Value}: ∀(l:List (Nat×Nat×Bool)) (cs:List SV),(∀(j:Nat) (s:SV),cs[j]? =some s-> ∃u,c[j]? =some u/\RC g w (lo j) u s/\u.oneCell'=true)->
  ∀(j:Nat) (s:SV),(lS l cs)[j]? =some s-> ∃u,c[j]? =some u/\RC g w (lo j) u s/\u.oneCell'=true
 |[],cs,h=>h
 |(j0,n,b)::l,cs,h=>by
  refine wq l _ λj s hj=>?_
  split at hj
  .rename_i h0
   by_cases e:j0=j
   .subst e
    obtain⟨u,u1,u2,u3⟩:=h j0 _ h0
    rw[g_0 (aU h0)]at hj
    have hn:Rd g w u .cG:=u2
    obtain⟨a,rfl⟩:=hn.jA
    refine⟨_,u1,?_,u3⟩
    cases b
    .simp only[g_7,if_false,g_2]at hj
     subst hj
     exact Rd.mu
    .simp only[if_true,g_2]at hj
     subst hj
     exact .inl ⟨rfl,_,rfl⟩
   grind
  .exact h j s hj
def ma.newObj{g:Gh}{w:World}{H:List aN}(hH:RH g w H){T:TypeId}{v:Value}{y:D}(h:Rd g w v y)(l:List (Nat×Nat×Bool)):
  RO (g.new w.heap.size H.length) (w.alloc (.cells v.cells T)) H.length (.cells (lS l (y.cells.map .d))):=by
 obtain⟨c1,c2⟩:=h.cells
 refine⟨w.heap.size,v.cells,T,wu hH _,NR _ _,heap_alloc _ _,by rw[wo];simpa using c1,wq l _ λj s hj=>?_⟩
 simp only[h_1,g_4]at hj
 obtain⟨x,hx,rfl⟩:=hj
 obtain⟨u,u1,u2,u3⟩:=c2 j x hx
 exact⟨u,u1,Rd.bg aO.new eB.new u2,u3⟩
def zk(l:List (Nat×Nat×Bool))(hop:o.op=.alloc T)(hz:yB P T=some z):
  jO P false st o ((st.hp (st.H++[.cells (lS l (z.cells.map .d))])).put o.dst (.d (.ptr st.H.length 0))):=by
 refine jO.value λa w g hr=>?_
 obtain⟨v,e1,e2⟩:=pj (P:=P) (g:=g) (w:=w) hz
 have hn:=ma.newObj (T:=T) hr.hp e1 l
 refine⟨.pointer (some ⟨w.heap.size,0,none⟩),w.alloc (.cells v.cells T),_,?_,Rel.cu (hr.newObj hn) o.dst (.ptr (wu hr.hp _)),Fr.new⟩
 unfold execOp;rw[hop]
 simp only[Instr.alloc,Sem.run_bind,e2,Result.andThen_ok,newVar,newRow,run_newObj,Sem.run_pure]
 rfl
def DX(l:List (Nat×Nat×Bool))(hop:o.op=.box T x)(hy:cx st x=some y):
  jO P false st o ((st.hp (st.H++[.cells (lS l (y.cells.map .d))])).put o.dst (.d (.ptr st.H.length 0))):=by
 refine jO.value λa w g hr=>?_
 have e1:=cw hr hy
 have hn:=ma.newObj (T:=T) hr.hp e1 l
 refine⟨.pointer (some ⟨w.heap.size,0,none⟩),w.alloc (.cells (a.eval x).cells T),_,?_,Rel.cu (hr.newObj hn) o.dst (.ptr (wu hr.hp _)),Fr.new⟩
 unfold execOp;rw[hop]
 simp only[Instr.box,Sem.run_bind,newVar,newRow,run_newObj,Result.andThen_ok,Sem.run_pure]
 rfl
def CP{o:Oper}{T:TypeId}(hop:o.op=.makeMap T none):jO P false st o ((st.hp (st.H++[.map []])).put o.dst (.d (.map st.H.length))):=by
 refine jO.value λa w g hr=>?_
 have hn:RO (g.new w.heap.size st.H.length) (w.alloc (.map #[] 0)) st.H.length (.map []):=
  ⟨w.heap.size,#[],0,wu hr.hp _,NR _ _,heap_alloc _ _,rfl,⟨ψ,ψ⟩,ψ⟩
 refine⟨.map (some w.heap.size),w.alloc (.map #[] 0),_,?_,Rel.cu (hr.newObj hn) o.dst (.map (wu hr.hp _)),Fr.new⟩
 unfold execOp;rw[hop]
 simp only[Instr.makeMap,Option.map_none,Sem.run_bind,run_newObj,Result.andThen_ok,Sem.run_pure]
 rfl
def wI{K V:Type}[BEq K](k:Kc K)(v:Cd V)(x:K): ∀(es:List (K×V)) (i:Nat),(oU (k.c.enc x) (es.map (mg k v)) i).map (·.2)=(es.lookup x).map v.enc
 |[],_=>rfl
 |(a,b)::es,i=>by
  simp only[h_3,mg,oU,k.same,List.lookup]
  cases x==a with
  |true=>rfl
  |false=>exact wI k v x es (i+1)
def Ky(h:pJ P K=some kt):P.underlying K=some kt.desc:=by
 unfold pJ at h
 split at h
 .rename_i k hu;cases h;exact hu
 .rename_i hu;cases h;exact hu
 .cases h
def run_checkKey(h:pJ P K=some kt)(w:World):(Instr.checkKey b 10000 K v).run P w=.ok () w:=by
 have hu:=Ky h
 show(Instr.checkKey b (9999+1) K v).run P w=_
 unfold Instr.checkKey
 simp only[Sem.run_bind,run_underlying hu,Result.andThen_ok]
 cases kt<;>(simp only[CS.desc];cases v<;>rfl)
def run_findKey(h:pJ P K=some kt)(hf:Instr.findNow kt.desc u ms 0=some r)(w:World):(Instr.findKey K u ms).run P w=.ok r w:=by
 simp only[Instr.findKey,Sem.run_bind,run_underlying (Ky h),Result.andThen_ok,hf,Sem.run_pure]
def qV(h:w.heap[r]? =some (.map es clock)):(getObj r).run P w=.ok (.map es clock) w:=by simp[getObj,Sem.run,h]
def nH(w:World)(r:Nat)(o:Obj):World:={w with heap:=w.heap.setIfInBounds r o}
def AA(h:w.heap[r]? =some (.map es clock)):(setObj r o').run P w=.ok () (nH w r o'):=by simp[setObj,Sem.run,h,nH]
def yF(h:w.heap[r]? =some o):(nH w r o').heap[r]? =some o':=by
 have:=pb h
 simp[nH,this]
def qU(h:k≠r):(nH w r o').heap[k]? =w.heap[k]? :=by simp[nH,Array.getElem?_setIfInBounds_ne (j_6 h)]
def yE:(nH w r o').heap.size=w.heap.size:=by simp[nH]
def sw(hr:Rel st a w g)(h:cx st x=some (cM.enc m)):
  match m with
  |none=>a.eval x=.map none
  |some i=> ∃k,g.ρ[i]? =some k/\a.eval x=.map (some k):=by
 have:=cw hr h
 cases m with
 |none=>simp only[cM]at this;generalize a.eval x=v at this;cases this;rfl
 |some i=>simp only[cM]at this;generalize a.eval x=v at this;cases this with|map h=>exact⟨_,h,rfl⟩
def Gw{V:Type}(v:Cd V)(ok:Bool)(z:V)(q:Option V):SV:=if ok then .iQ [.d (v.enc (q.getD z)),.d (.bool q.isSome)]else .d (v.enc (q.getD z))
def AB(ok:Bool)(hT:P.underlying T=some (.map KT ET))(hk:pJ P KT=some kt)(hf:Instr.findNow kt.desc iv ms.toList 0=some r)
  (rz: ∀w,(zeroValue ET).run P w=.ok vz w) (hx:(xv=.map none/\ms= #[])\/ ∃k clock,xv=.map (some k)/\w.heap[k]? =some (.map ms clock)):
  (Instr.lookup T xv iv ok).run P w=.ok (if ok then .tuple #[(r.map (·.2)).getD vz,.bool r.isSome]else(r.map (·.2)).getD vz) w:=by
 rcases hx with⟨rfl,rfl⟩|⟨k,clock,rfl,hb⟩
 .simp only[Instr.lookup,Sem.run_bind,run_underlying hT,Result.andThen_ok,Sem.run_pure,run_checkKey hk,run_findKey hk hf]
  cases r with
  |none=>simp_all
  |some p=>simp_all
 .simp only[Instr.lookup,Sem.run_bind,run_underlying hT,Result.andThen_ok,Sem.run_pure,qV hb,run_checkKey hk,run_findKey hk hf]
  cases r with
  |none=>simp_all
  |some p=>simp_all
def Dp{K V:Type}[BEq K]{k:Kc K}{v:Cd V}(hr:Rel st a w g){es:List (K×V)}{key:K}(hm:Bw k v st.H (some i)=some es)(hi:Rd g w iv (k.c.enc key)):
  ∃kb ms clock,g.ρ[i]? =some kb/\g.ow kb=.obj i/\w.heap[kb]? =some (.map ms clock)/\ms.size=es.length/\Jw ms clock/\(∀(j:Nat) (p:K×V),es[j]? =some p-> ∃m,ms[j]? =some m/\Rd g w m.key (k.c.enc p.1)/\Rd g w m.val (v.enc p.2))/\
   ∃r,Instr.findNow k.kt.desc iv ms.toList 0=some r/\((es.lookup key=none/\r=none/\oU (k.c.enc key) (es.map (mg k v)) 0=none)\/ ∃y u j,es.lookup key=some y/\r=some (j,u)/\Rd g w u (v.enc y)/\oU (k.c.enc key) (es.map (mg k v)) 0=some (j,v.enc y)):=by
 have h1:=zT.1 hm
 obtain⟨kb,ms,clock,f1,f2,f3,f4,f5,f6⟩:=hr.hp.2 i _ h1
 obtain⟨r,g1,g2⟩:=yS (k.Uy key) hi k.kt.desc rfl ms.toList (es.map (mg k v)) 0 (by simpa using f4) (λj p hj=>by simpa using f6 j p hj) (λp hp=>by
  obtain⟨e,-,rfl⟩:=w_0.1 hp;exact k.Uy _)
 refine⟨kb,ms,clock,f1,f2,f3,by simpa using f4,f5,λj p hj=>?_,r,g1,?_⟩
 .exact f6 j (mg k v p) (by simp[hj])
 .have hl:=wI k v key es 0
  rcases g2 with⟨g3,g4⟩|⟨j,y,u,g3,g4,g5⟩
  .rw[g3]at hl
   refine .inl ⟨?_,g4,g3⟩
   cases hh:es.lookup key with
   |none=>rfl
   |some y=>rw[hh]at hl;cases hl
  .rw[g3]at hl
   simp only[m_4]at hl
   cases hh:es.lookup key with
   |none=>rw[hh]at hl;cases hl
   |some y'=>
    grind
def iP.lookup{K V:Type}[BEq K]{k:Kc K}{v:Cd V}{key:K}{q:Option V}{z:V}(hop:o.op=.lookup T x ix ok)(hT:P.underlying T=some (.map KT ET))
  (hk:pJ P KT=some k.kt) (hx:cx st x=some (cM.enc m)) (hi:cx st ix=some (k.c.enc key)) (hz:yB P ET=some (v.enc z)) (hq:Bx k v st.H m key=some q):iP P st o (Gw v ok z q):=by
 intro a w g hr
 have hrk:=cw hr hi
 obtain⟨vz,ez,rz⟩:=pj (P:=P) (g:=g) (w:=w) hz
 have hm:=sw hr hx
 have fin: ∀(r:Option (Nat×Value)),(q=none/\r=none\/ ∃y u j,q=some y/\r=some (j,u)/\Rd g w u (v.enc y))->BV g w st a (if ok then .tuple #[(r.map (·.2)).getD vz,.bool r.isSome]else(r.map (·.2)).getD vz) (Gw v ok z q):=by
  intro r h
  refine dP ?_
  have h1:Rd g w ((r.map (·.2)).getD vz) (v.enc (q.getD z)):=by
   grind
  have h2:r.isSome=q.isSome:=by grind
  unfold Gw
  cases ok
  .exact h1
  .simp only[if_true]
   refine⟨#[(r.map (·.2)).getD vz,.bool r.isSome],rfl,rfl,λj s hj=>?_⟩
   match j,hj with
   |0,hj=>grind
   |1,hj=>simp at hj;rw[h2];exact⟨.bool q.isSome,_,rfl,hj.symm,.bool⟩
   |j+2,hj=>simp at hj
 have run: ∀{r:Option (Nat×Value)} {w':World},(Instr.lookup T (a.eval x) (a.eval ix) ok).run P w'=.ok (if ok then .tuple #[(r.map (·.2)).getD vz,.bool r.isSome]else(r.map (·.2)).getD vz) w'->
   (execOp a.eval o).run P w'=.ok (.value (if ok then .tuple #[(r.map (·.2)).getD vz,.bool r.isSome]else(r.map (·.2)).getD vz)) w':=λh=>by
  unfold execOp;simp_all
 cases m with
 |none=>
  simp only[Bx,Bw,m_4,List.lookup_nil,g_2]at hq
  subst hq
  exact⟨_,fin none (.inl ⟨rfl,rfl⟩),λw' hup=>run (r:=none) (AB ok hT hk (ms:= #[]) rfl rz (.inl ⟨hm,rfl⟩))⟩
 |some i=>
  simp only[Bx,g_4]at hq
  obtain⟨es,h1,h2⟩:=hq
  obtain⟨kb,ms,clock,f1,f2,f3,f4,f5,f6,r,g1,g2⟩:=Dp hr h1 hrk
  obtain⟨kb',e1,e2⟩:=hm
  rw[f1]at e1;cases e1
  refine⟨_,fin r ?_,λw' hup=>run (AB ok hT hk g1 rz (.inr ⟨kb,clock,e2,hup _ _ f3⟩))⟩
  grind
end
def sH(x:D): ∀(es:List (D×D)) (i:Nat),oU x es (i+1)=(oU x es i).map λp=>(p.1+1,p.2)
 |[],_=>rfl
 |(k,v)::es,i=>by
  simp only[oU]
  split
  .rfl
  .exact sH x es (i+1)
section
variable {K V:Type} [BEq K]
def xK(k:Kc K)(v:Cd V)(x:K)(y:V): ∀(es:List (K×V)),oU (k.c.enc x) (es.map (mg k v)) 0=none->(Cv x y es).map (mg k v)=es.map (mg k v)++[mg k v (x,y)]
 |[],_=>rfl
 |(a,b)::es,h=>by
  simp only[h_3,mg,oU,k.same]at h
  simp only[Cv]
  cases hb:x==a with
  |true=>rw[hb]at h;simp at h
  |false=>
   rw[hb,sH]at h
   simp only[g_7,if_false,Option.map_eq_none_iff]at h ⊢
   rw[h_3,h_3,xK k v x y es h,m_7]
def Dq(k:Kc K)(v:Cd V)(x:K)(y:V): ∀(es:List (K×V)) (j:Nat) (u:D),oU (k.c.enc x) (es.map (mg k v)) 0=some (j,u)->j<es.length/\(∃p,es[j]? =some p/\(x==p.1)=true)/\(Cv x y es).map (mg k v)=(es.map (mg k v)).set j (mg k v (x,y))
 |[],_,_,h=>by cases h
 |(a,b)::es,j,u,h=>by
  simp only[h_3,mg,oU,k.same]at h
  simp only[Cv]
  cases hb:x==a with
  |true=>
   rw[hb]at h
   simp only[if_true,g_2,g_8]at h
   obtain⟨rfl,-⟩:=h
   simp_all
  |false=>
   rw[hb,sH]at h
   simp only[g_7,if_false,g_4,g_8]at h
   obtain⟨⟨j',u'⟩,h1,rfl,-⟩:=h
   obtain⟨i1,⟨p,i2,i3⟩,i4⟩:=Dq k v x y es j' u' h1
   grind
end
def Eo(hx:isKey T x=true)(hy:isKey T y=true)(hu:Rd g w u x)(hv:Rd g w v y)(h:vR x y=true):Instr.sameBits 10000 v u=true:=by
 cases T with
 |int k=>
  cases x<;>simp only[isKey,g_7]at hx
  cases y<;>simp only[isKey,g_7]at hy
  cases hu;cases hv
  simp only[beq_iff_eq]at hx hy
  simp only[vR,beq_iff_eq]at h
  subst hx;subst hy;subst h
  show Instr.sameBits (9999+1) _ _=true
  simp[Instr.sameBits]
 |str=>
  cases x<;>simp only[isKey,g_7]at hx
  cases y<;>simp only[isKey,g_7]at hy
  cases hu;cases hv
  simp only[vR,beq_iff_eq]at h
  subst h
  show Instr.sameBits (9999+1) _ _=true
  simp[Instr.sameBits,uI]
section
variable {P:Program} {st:St} {K V:Type} [BEq K]
def Qj{k:Kc K}{v:Cd V}(hr:Rel st a w g){es:List (K×V)}{key:K}{y:V}(hT:P.underlying T=some (.map KT ET))(hk:pJ P KT=some k.kt)
  (hm:Bw k v st.H (some i)=some es) (hi:Rd g w iv (k.c.enc key)) (hy:Rd g w yv (v.enc y)):
  ∃kb w',g.ρ[i]? =some kb/\g.ow kb=.obj i/\(Instr.mapUpdate T (.map (some kb)) iv yv).run P w=.ok () w'/\w'.heap.size=w.heap.size/\fK w w'/\(∀k',k'≠kb->w'.heap[k']? =w.heap[k']?)/\RO g w' i (.map ((Cv key y es).map (mg k v))):=by
 obtain⟨kb,ms,clock,f1,f2,f3,f4,f5,f6,r,g1,g2⟩:=Dp hr hm hi
 have hkp: ∀(ob:Obj) (o':Own),o'≠.obj i->aO o' g w g (nH w kb ob):=λob o' ho=>aO.block f2 ho λk' h=>qU h
 have up: ∀(ob:Obj) {u:Value} {x:D},Rd g w u x->Rd g (nH w kb ob) u x:=λob _ _ h=>Rd.bg (hkp ob _ ψ) (λ_ _ h=>h) h
 rcases g2 with⟨g3,rfl,g4⟩|⟨y0,u,j,g3,rfl,g5,g4⟩
 .refine⟨kb,nH w kb (.map (ms.push {key:=iv,val:=yv,born:=clock}) (clock+1)),f1,f2,?_,yE,⟨rfl,rfl⟩,λk' h=>qU h,kb,_,_,f1,f2,yF f3,?_,?_,λj p hj=>?_⟩
  .simp only[Instr.mapUpdate,Sem.run_bind,run_underlying hT,Result.andThen_ok,qV f3,run_checkKey hk,run_findKey hk g1,AA f3]
  .rw[xK k v key y es g4];simp[f4]
  .obtain⟨b1,b2⟩:=f5
   refine⟨λm hm=>?_,?_⟩
   .grind
   grind
  .rw[xK k v key y es g4]at hj
   by_cases hlt:j<es.length
   .rw[h_6 (by simpa using hlt),h_1]at hj
    simp only[g_4]at hj
    obtain⟨q,hq,rfl⟩:=hj
    obtain⟨m,m1,m2,m3⟩:=f6 j q hq
    exact⟨m,φ,up _ m2,up _ m3⟩
   .have:j=es.length:=by grind
    subst this
    rw[h_5 ψ]at hj
    simp only[k_0,Nat.sub_self,j_3,g_2]at hj
    subst hj
    exact⟨{key:=iv,val:=yv,born:=clock},by rw[<-f4];simp,up _ hi,up _ hy⟩
 .obtain⟨i1,⟨p,i2,i3⟩,i4⟩:=Dq k v key y es j _ g4
  have hms:j<ms.size:=by omega
  obtain⟨m,m1,m2,m3⟩:=f6 j p i2
  refine⟨kb,nH w kb (.map (ms.modify j λe=>{e with key:=iv,val:=yv}) clock),f1,f2,?_,yE,⟨rfl,rfl⟩,λk' h=>qU h,kb,_,_,f1,f2,yF f3,?_,?_,λj' p' hj=>?_⟩
  .have hsb:Instr.sameBits 10000 m.key iv=true:=Eo (k.Uy _) (k.Uy _) hi m2 (by rw[k.same];exact i3)
   simp only[Instr.mapUpdate,Sem.run_bind,run_underlying hT,Result.andThen_ok,qV f3,run_checkKey hk,run_findKey hk g1,m1,m_4,w_9,Instr.keyThatStays,hsb,if_true,Sem.run_pure,AA f3]
  .rw[i4];simp[f4]
  .obtain⟨b1,b2⟩:=f5
   have hborn:(ms.modify j λe=>{e with key:=iv,val:=yv}).toList.map (·.born)=ms.toList.map (·.born):=by
    apply m_6
    grind
   refine⟨λm hm=>?_,by rw[hborn];exact b2⟩
   have:m.born∈ms.toList.map (·.born):=by grind
   grind
  .rw[i4]at hj
   by_cases e:j=j'
   .subst e
    rw[g_0 (by simpa using i1)]at hj
    cases hj
    refine⟨{m with key:=iv,val:=yv},?_,up _ hi,up _ hy⟩
    simp[v_8,m1]
   .rw[g_1 e,h_1]at hj
    simp only[g_4]at hj
    obtain⟨q,hq,rfl⟩:=hj
    obtain⟨m,m1,m2,m3⟩:=f6 j' q hq
    exact⟨m,by simp[v_8,e,m1],up _ m2,up _ m3⟩
def jO.mapUpdate{k:Kc K}{v:Cd V}{key:K}{y:V}(hop:o.op=.mapUpdate T x ix yx\/o.op=.insert T x ix yx)(hd:o.dst=none)(hT:P.underlying T=some (.map KT ET))(hk:pJ P KT=some k.kt)
  (hx:cx st x=some (cM.enc m)) (hi:cx st ix=some (k.c.enc key)) (hy:cx st yx=some (v.enc y)) (hH:Bv k v st.H m key y=some H'):jO P false st o (st.hp H'):=by
 refine jO.skip λa w g hr=>?_
 simp only[Bv,g_9,g_4]at hH
 obtain⟨i,rfl,es,hm,rfl⟩:=hH
 obtain⟨kb',e1,e2⟩:=sw hr hx
 obtain⟨kb,w',f1,f2,f3,f4,fos,f5,f6⟩:=Qj hr hT hk hm (cw hr hi) (cw hr hy)
 rw[f1]at e1;cases e1
 refine⟨w',g,?_,?_,Fr.setObj f2 f4 f5 fos⟩
 .unfold execOp
  rcases hop with hop|hop<;>(simp_all)
 .rw[hd]
  exact hr.setObj (aU (zT.1 hm)) f1 f2 f5 f6
end
section
variable {P:Program} {st:St} {K V:Type} [BEq K]
end
mutual
def fH:D->Bool
 |.ptr _ _|.map _=>false
 |.list _ xs=>fS xs
 |.agg cs=>fS cs
 |.iface _ x=>fH x
 |.fn _ fs cs=>fS fs&&fS cs
 |.fV cs=>fS cs
 |_=>true
def fS:List D->Bool
 |[]=>true
 |x::xs=>fH x&&fS xs
end
def jy: ∀{xs:List D},fS xs=true-> ∀(j:Nat) (y:D),xs[j]? =some y->fH y=true
 |[],_,j,y,h=>by simp at h
 |x::xs,hn,j,y,h=>by
  simp only[fS,g_3]at hn
  cases j with
  |zero=>simp at h;subst h;exact hn.1
  |succ j=>exact jy hn.2 j y (by simpa using h)
def gp{α:Type}{f:α->D}(h: ∀x,fH (f x)=true): ∀l:List α,fS (l.map f)=true
 |[]=>rfl
 |x::l=>by simp[fS,h x,gp h l]
def wm(h:fH x=true): ∀(j:Nat) (y:D),x.cells[j]? =some y->fH y=true:=by
 intro j y hy
 cases x with
 |agg cs=>simp only[fH]at h;exact jy h j y hy
 |_=>
  cases j with
  |zero=>simp[D.cells]at hy;subst hy;exact h
  |succ j=>simp[D.cells]at hy
def gP:SV->Bool
 |.d x=>fH x
 |.own _ xs=>fS xs
 |.iQ vs=>vs.all λ|.d x=>fH x|.own _ xs=>fS xs|.undef=>true|_=>false
 |.undef=>true
 |_=>false
def Rd.AZ(hk:aO .free g w g' w')(h:Rd g w v x)(hn:fH x=true):Rd g' w' v x:=by
 induction h with
 |bool=>exact .bool
 |int=>exact .int
 |str=>exact .str
 |cG=>exact .cG
 |mu=>exact .mu
 |list us hk' hb hl hp hn' hc _ ih=>
  refine .list us (hk _ _ hk' hb).1 (hk _ _ hk' hb).2 hl hp hn' hc λi x hx j y hy=>ih i x hx j y hy ?_
  simp only[fH]at hn
  exact wm (jy hn i x hx) j y hy
 |agg hl us hc _ ih=>exact .agg hl us hc λj y hy=>ih j y hy (jy (by simpa[fH]using hn) j y hy)
 |nilIface=>exact .nilIface
 |iface _ ih=>exact .iface (ih (by simpa[fH]using hn))
 |fn hl1 hl2 us1 us2 hc1 _ hc2 _ ih1 ih2=>
  simp only[fH,g_3]at hn
  exact .fn hl1 hl2 us1 us2 hc1 (λj y hy=>ih1 j y hy (jy hn.1 j y hy)) hc2 (λj y hy=>ih2 j y hy (jy hn.2 j y hy))
 |lu=>exact .lu
 |fZ=>exact .fZ
 |ptr h=>simp[fH]at hn
 |fV us hk' hb hc _ ih=>exact .fV us (hk _ _ hk' hb).1 (hk _ _ hk' hb).2 hc λj y hy=>ih j y hy (jy (by simpa[fH]using hn) j y hy)
 |kf=>exact .kf
 |map h=>simp[fH]at hn
 |raw h=>exact .raw h
def RC.AZ(hk:aO .free g w g' w')(h1:aO (.bN o) g w g' w')(h:RC g w o v s)(hn:gP s=true):RC g' w' o v s:=by
 cases s with
 |d x=>exact Rd.AZ hk h hn
 |own n xs=>
  rcases h with h|⟨k,off,cap,c,T,us,hv,ho,hb,hl,hz,hw,hc,hr⟩
  .exact .inl h
  .obtain⟨ho',hb'⟩:=h1 k _ ho hb
   refine .inr ⟨k,off,cap,c,T,us,hv,ho',hb',hl,hz,hw,hc,λi x hx j y hy=>Rd.AZ hk (hr i x hx j y hy) ?_⟩
   simp only[gP]at hn
   exact wm (jy hn i x hx) j y hy
 |mf v0 n xs=>cases hn
 |undef=>trivial
 |_=>exact h.elim
def pK:Own->Own
 |.free=>.free
 |.bN (.slot j)=>.bN (.slot j)
 |_=>.out
def Gh.xV(g:Gh):Gh:=⟨λk=>pK (g.ow k),[]⟩
def qM(n:Nat)(ow ow':Nat->Own)(k:Nat):Own:=
 if k<n then(match ow k with|.free=>.free|.bN (.slot j)=>(match ow' k with|.obj _=>.out|.bN (.au _ _)=>.out|o=>o)|o=>o)
 else match ow' k with|.obj _=>.out|.bN (.au _ _)=>.out|o=>o
def LC(P:Program)(f:FuncId)(args:List SV)(r:SV):Prop:=
 ∀(w:World) (g:Gh) (vs:Array Value),jM g w vs args->RH g w []->Calls P f vs w λe w'=> ∃v g',e=.returned v/\yn g' w' v r/\Fr false g w g' w'
def Ft(ha:args.all gP=true)(hr:gP r=true)(h:LC P f args r):PC P f args r:=by
 intro H w g vs hA hH
 have hkeep:aO .free g w g.xV w:=λk o h1 h2=>⟨by simp[Gh.xV,h1,pK],h2⟩
 have hA':jM g.xV w vs args:=by
  refine⟨hA.1,λj s hj=>?_⟩
  obtain⟨u,u1,u2⟩:=hA.2 j s hj
  refine⟨u,u1,u2.AZ hkeep (λk o h1 h2=>⟨by simp[Gh.xV,h1,pK],h2⟩) ?_⟩
  grind
 refine(h w g.xV vs hA' ⟨rfl,ψ⟩).mono λe w' hh=>?_
 obtain⟨v,g',rfl,hres,hf⟩:=hh
 let g2:Gh:=⟨qM w.heap.size g.ow g'.ow,g.ρ⟩
 have hid: ∀(k:Nat) (o:Obj),pK (g.ow k)=.out->w.heap[k]? =some o->g2.ow k=g.ow k/\w'.heap[k]? =some o:=by
  intro k o h1 h2
  obtain⟨-,h4⟩:=hf.out k o (by simpa[Gh.xV]using h1) h2
  refine⟨?_,h4⟩
  have hlt:=pb h2
  show qM w.heap.size g.ow g'.ow k=_
  unfold qM
  rw[if_pos hlt]
  split
  .rename_i e;exact e.symm
  .rename_i j e;rw[e]at h1;cases h1
  .rfl
 have hfree:aO .free g w g2 w':=by
  intro k o h1 h2
  obtain⟨-,h4⟩:=hf.free k o (by simp[Gh.xV,h1,pK]) h2
  refine⟨?_,h4⟩
  show qM w.heap.size g.ow g'.ow k=_
  unfold qM
  rw[if_pos (pb h2),h1]
 have hback:aO .free g' w' g2 w':=by
  intro k o h1 h2
  refine⟨?_,h2⟩
  show qM w.heap.size g.ow g'.ow k=_
  unfold qM
  split
  .rename_i hlt
   cases hk:g.ow k with
   |free=>rfl
   |bN l=>
    cases l with
    |slot j=>simp only[h1]
    |_=>
     exfalso
     have h2': ∃o',w.heap[k]? =some o':=⟨w.heap[k],by simp[hlt]⟩
     obtain⟨o',h3⟩:=h2'
     have:=(hf.out k o' (by simp[Gh.xV,hk,pK]) h3).1
     rw[h1]at this;cases this
   |_=>
    exfalso
    have h2': ∃o',w.heap[k]? =some o':=⟨w.heap[k],by simp[hlt]⟩
    obtain⟨o',h3⟩:=h2'
    have:=(hf.out k o' (by simp[Gh.xV,hk,pK]) h3).1
    rw[h1]at this;cases this
  .rw[h1]
 have hbackL: ∀l:Loc,(∀i j,l≠.au i j)->aO (.bN l) g' w' g2 w':=by
  intro l hl k o h1 h2
  refine⟨?_,h2⟩
  show qM w.heap.size g.ow g'.ow k=_
  unfold qM
  have hno:(match g'.ow k with|.obj _=>Own.out|.bN (.au _ _)=>.out|o=>o)=.bN l:=by
   grind
  split
  .rename_i hlt
   have h2': ∃o',w.heap[k]? =some o':=⟨w.heap[k],by simp[hlt]⟩
   obtain⟨o',h3⟩:=h2'
   have hcontra:pK (g.ow k)=.out\/pK (g.ow k)=.free->False:=by
    rintro (e|e)
    .have:=(hf.out k o' (by simpa[Gh.xV]using e) h3).1;rw[h1]at this;cases this
    .have:=(hf.free k o' (by simpa[Gh.xV]using e) h3).1;rw[h1]at this;cases this
   cases hk:g.ow k with
   |free=>exact(hcontra (.inr (by rw[hk];rfl))).elim
   |bN l'=>
    cases l' with
    |slot j=>exact hno
    |_=>exact(hcontra (.inl (by rw[hk];rfl))).elim
   |_=>exact(hcontra (.inl (by rw[hk];rfl))).elim
  .exact hno
 refine⟨v,g2,rfl,?_,⟨hH.1,λi o hi=>?_⟩,hf.size,hfree,?_,λ_ _ h=>h,?_,?_,λ_=>rfl,hf.os⟩
 .
  cases r with
  |d x=>exact Rd.AZ hback hres hr
  |own n xs=>exact RC.AZ (s:=.own n xs) hback (hbackL _ ψ) hres hr
  |iQ vs'=>
   obtain⟨us,e1,e2,e3⟩:=hres
   refine⟨us,e1,e2,λj s hj=>?_⟩
   obtain⟨u,u1,u2⟩:=e3 j s hj
   refine⟨u,u1,u2.AZ hback (hbackL _ ψ) ?_⟩
   simp only[gP,h_4]at hr
   have:=hr s (h_2.2 ⟨j,hj⟩)
   cases s<;>simpa[gP]using this
  |undef=>trivial
  |_=>exact hres.elim
 .
  have hhid: ∀o',pK o'=.out->aO o' g w g2 w':=λo' ho' k ob h1 h2=>by
   grind
  exact(hH.2 i o hi).nO hfree (hhid _ rfl) (λj=>hhid _ rfl) (λ_ _ h=>h)
 .intro k o h1 h2
  obtain⟨a,b⟩:=hid k o (by rw[h1];rfl) h2
  exact⟨a.trans h1,b⟩
 .intro _ i k o h1 h2
  obtain⟨a,b⟩:=hid k o (by rw[h1];rfl) h2
  exact⟨a.trans h1,b⟩
 .intro _ i j k o h1 h2
  obtain⟨a,b⟩:=hid k o (by rw[h1];rfl) h2
  exact⟨a.trans h1,b⟩
section
variable {P:Program} {st:St} {ops:Array Oper} {k m:Nat} {Q:St->Prop} (n:Nat) (H:List aN)
def Sm(ops:Array Oper)(k:Nat)(st:St):Option (Option Tmp×D):=
 match fR ops k st with
 |some o=>match o.op with
  |.nilCheck (.tmp s)=>match cx st (.tmp s)with
   |some d=>some (o.dst,d)
   |none=>none
  |_=>none
 |none=>none
def bh(hp:p=some i)(h:Sm ops k st=some (d,cP.enc p):=by kernel_rfl):pP P ops k st d (.d (.ptr i 0)):=by
 subst hp
 unfold Sm at h
 split at h
 .rename_i o ho
  split at h
  .rename_i s hop
   split at h
   .rename_i d' hv
    simp only[g_2,g_8]at h
    obtain⟨rfl,rfl⟩:=h
    obtain⟨h1,h2⟩:=bo ho
    refine⟨o,h1,h2,cA ?_,rfl,rfl⟩
    simp only[cx,val]at hv
    split at hv
    .rename_i d hd
     cases hv
     simp[CD,hop,AG,hd,IU,vL,Sv,cP]
    .cases hv
   .cases h
  .cases h
 .cases h
def N5(P:Program)(ops:Array Oper)(k:Nat)(st:St)(cs:List SV):Option (Option Tmp×Nat×Nat×Hp×SV):=
 match fR ops k st with
 |some o=>match o.op with
  |.load T x=>match rI st x,Dh st x,sk st x with
   |none,none,some (i,off)=>
    if(P.underlying T).isNone then none
    else if fI P T then(if 0<P.cellsOf T/\P.cellsOf T<=cs.length then(match yb (cs.take (P.cellsOf T))with|some ys=>some (o.dst,i,off,st.H,.d (.agg ys))|none=>none)else none)
    else match cs with
     |.d x::_=>some (o.dst,i,off,st.H,.d x)
     |.own n xs::_=>some (o.dst,i,off,st.H,.cq (.au i off) n xs)
     |_=>none
   |_,_,_=>none
  |_=>none
 |none=>none
def aF{α:Type}{c:Cc α}{x:α}(hx:bE c H0 i off=some x)(h:N5 P ops k st (c.enc x)=some (d,i,off,H0,s):=by kernel_rfl):pP P ops k st d s:=by
 obtain⟨cs,r,e1,e2⟩:=QD hx
 unfold N5 at h
 split at h
 .rename_i o ho
  split at h
  .rename_i T xo hop
   split at h
   .rename_i i' off' h1 h2 h3
    obtain⟨g1,g2⟩:=bo ho
    have key: ∀s',qo P T (.au i' off') (c.enc x++r)=some s'->i'=i->off'=off->st.H=H0->kx o.dst s'=true->pP P ops k st o.dst s':=by
     rintro s' hl rfl rfl rfl hlk
     refine⟨o,g1,g2,cA ?_,hlk,rfl⟩
     simp only[CD,hop,sy,h1,h2,h3,e1,e2,hl]
    split at h
    .cases h
    .rename_i hu
     split at h
     .rename_i ha
      split at h
      .rename_i hn
       split at h
       .rename_i ys hys
        simp only[g_2,g_8]at h
        obtain⟨rfl,e3,e4,e5,rfl⟩:=h
        refine key _ ?_ e3 e4 e5 rfl
        unfold qo
        grind
       .cases h
      .cases h
     .rename_i ha
      split at h
      .rename_i y rest hc
       simp only[g_2,g_8]at h
       obtain⟨rfl,e3,e4,e5,rfl⟩:=h
       refine key _ ?_ e3 e4 e5 rfl
       unfold qo
       grind
      .rename_i w' xs rest hc
       simp only[g_2,g_8]at h
       obtain⟨rfl,e3,e4,e5,rfl⟩:=h
       refine key _ ?_ e3 e4 e5 rfl
       unfold qo
       grind
      .cases h
   .cases h
  .cases h
 .cases h
def TL(P:Program)(ops:Array Oper)(k:Nat)(st:St):Option (Option Tmp×Bool×D×D×CS×D×Hp):=
 match fR ops k st with
 |some o=>match o.op with
  |.lookup T x ix ok=>match P.underlying T with
   |some (.map KT ET)=>match pJ P KT,cx st x,cx st ix,yB P ET with
    |some kt,some dm,some dk,some z=>some (o.dst,ok,dm,dk,kt,z,st.H)
    |_,_,_,_=>none
   |_=>none
  |_=>none
 |none=>none
def MZ{K V:Type}[BEq K]{kc:Kc K}{v:Cd V}{key:K}{z:V}{q:Option V}(hq:Bx kc v H0 mm key=some q)
  (h:TL P ops k st=some (d,ok,cM.enc mm,kc.c.enc key,kc.kt,v.enc z,H0):=by kernel_rfl):pP P ops k st d (Gw v ok z q):=by
 unfold TL at h
 split at h
 .rename_i o ho
  split at h
  .rename_i T x ix ok' hop
   split at h
   .rename_i KT ET hT
    split at h
    .rename_i kt dm dk z' h1 h2 h3 h4
     simp only[g_2,g_8]at h
     obtain⟨rfl,rfl,rfl,rfl,rfl,rfl,rfl⟩:=h
     obtain⟨g1,g2⟩:=bo ho
     refine⟨o,g1,g2,iP.lookup hop hT h1 h2 h3 h4 hq,?_,rfl⟩
     unfold Gw
     cases ok'<;>rfl
    .cases h
   .cases h
  .cases h
 .cases h
def Ce{pu:Bool}{α:Type}(p:Option α)(S:Option α->St)(h0:st=S p)(hN:p=none->cf P pu ops k (S none) Q)(hS: ∀i,p=some i->cf P pu ops k (S (some i)) Q):cf P pu ops k st Q:=by
 subst h0
 cases p with
 |none=>exact hN rfl
 |some i=>exact hS i rfl
def j5(L:List Nat)(l:List (Nat×SV))(ho:ops[k]? =some o)(hw:fG ops st o=some true)(hs:jO P false st o st')(cR:bu n L st'=some (l,H))(h:cf P false ops (k+1) (sp n l H) Q):cf P false ops k st Q:=
 pO ho hw hs (da L (aL cR) h)
def F5(P:Program)(ops:Array Oper)(k:Nat)(st:St):Option (Nat×Nat×D×Hp):=
 match fR ops k st with
 |some o=>match o.op with
  |.store T x y=>match sk st x,cx st y with
   |some (i,off),some d=>if(P.underlying T).isNone=false/\d.cells.length=P.cellsOf T/\o.dst=none then some (i,off,d,st.H)else none
   |_,_=>none
  |_=>none
 |none=>none
def nB{α:Type}{c:Cd α}{x:α}(L:List Nat)(l:List (Nat×SV))(hx:ee c H0 i off x=some H)(h:F5 P ops k st=some (i,off,c.enc x,H0))(cR:bu n L (st.hp H)=some (l,H))
  (hn:cf P false ops (k+1) (sp n l H) Q):cf P false ops k st Q:=by
 unfold F5 at h
 split at h
 .rename_i o ho
  split at h
  .rename_i T x y hop
   split at h
   .rename_i i' off' d h1 h2
    split at h
    .rename_i hc
     simp only[g_2,g_8]at h
     obtain⟨rfl,rfl,rfl,rfl⟩:=h
     obtain⟨g1,g2⟩:=bo ho
     exact j5 n H L l g1 g2 (te hop hc.2.2 h1 h2 hc.1 hc.2.1 hx) cR hn
    .cases h
   .cases h
  .cases h
 .cases h
def newAt(P:Program)(ops:Array Oper)(k:Nat)(st:St)(l:List (Nat×Nat×Bool)):Option (Option Tmp×aN×Hp×Bool):=
 match fR ops k st with
 |some o=>match o.op with
  |.alloc T=>match yB P T with
   |some z=>some (o.dst,.cells (lS l (z.cells.map .d)),st.H,false)
   |none=>none
  |.box T x=>match cx st x with
   |some y=>some (o.dst,.cells (lS l (y.cells.map .d)),st.H,false)
   |none=>none
  |.makeMap T none=>some (o.dst,.map [],st.H,true)
  |_=>none
 |none=>none
def qB{d:Option Tmp}{ob:aN}{H0:Hp}{q:Hp×Nat}{b:Bool}(nl:List (Nat×Nat×Bool))(L:List Nat)(l:List (Nat×SV))(hq:nv H0 ob=some q)(h:newAt P ops k st nl=some (d,ob,H0,b))(hH:q.1=H)
  (cR:bu n L ((st.hp H).put d (.d (if b then .map q.2 else .ptr q.2 0)))=some (l,H)) (hn:cf P false ops (k+1) (sp n l H) Q):cf P false ops k st Q:=by
 cases hq
 subst hH
 unfold newAt at h
 split at h
 .rename_i o ho
  obtain⟨g1,g2⟩:=bo ho
  split at h
  .rename_i T hop
   split at h
   .rename_i z hz
    simp only[g_2,g_8]at h
    obtain⟨rfl,rfl,rfl,rfl⟩:=h
    exact j5 n _ L l g1 g2 (zk nl hop hz) cR hn
   .cases h
  .rename_i T x hop
   split at h
   .rename_i y hy
    simp only[g_2,g_8]at h
    obtain⟨rfl,rfl,rfl,rfl⟩:=h
    exact j5 n _ L l g1 g2 (DX nl hop hy) cR hn
   .cases h
  .rename_i T hop
   simp only[g_2,g_8]at h
   obtain⟨rfl,rfl,rfl,rfl⟩:=h
   exact j5 n _ L l g1 g2 (CP hop) cR hn
  .cases h
 .cases h
def TK(P:Program)(ops:Array Oper)(k:Nat)(st:St):Option (D×D×D×CS×Hp):=
 match fR ops k st with
 |some o=>match(match o.op with|.mapUpdate T x ix y=>some (T,x,ix,y)|.insert T x ix y=>some (T,x,ix,y)|_=>none)with
  |some (T,x,ix,y)=>match P.underlying T with
   |some (.map KT ET)=>match pJ P KT,cx st x,cx st ix,cx st y with
    |some kt,some dm,some dk,some dy=>if o.dst=none then some (dm,dk,dy,kt,st.H)else none
    |_,_,_,_=>none
   |_=>none
  |none=>none
 |none=>none
def MM{K V:Type}[BEq K]{kc:Kc K}{v:Cd V}{key:K}{y:V}(L:List Nat)(l:List (Nat×SV))(hx:Bv kc v H0 mm key y=some H)(h:TK P ops k st=some (cM.enc mm,kc.c.enc key,v.enc y,kc.kt,H0))
  (cR:bu n L (st.hp H)=some (l,H)) (hn:cf P false ops (k+1) (sp n l H) Q):cf P false ops k st Q:=by
 unfold TK at h
 split at h
 .rename_i o ho
  obtain⟨g1,g2⟩:=bo ho
  split at h
  .rename_i T x ix yx hop
   split at h
   .rename_i KT ET hT
    split at h
    .rename_i kt dm dk dy h1 h2 h3 h4
     split at h
     .rename_i hd
      simp only[g_2,g_8]at h
      obtain⟨rfl,rfl,rfl,rfl,rfl⟩:=h
      refine j5 n H L l g1 g2 (jO.mapUpdate ?_ hd hT h1 h2 h3 h4 hx) cR hn
      grind
     .cases h
    .cases h
   .cases h
  .cases h
 .cases h
def BD{a:Act}{d:Nat}{v:Value}{x:Operand}(h:x≠.tmp d):(a.put (some d) v).eval x=a.eval x:=by
 cases x with
 |tmp t=>exact cr (by simpa usingλe=>h (by rw[e]))
 |_=>rfl
variable {pu:Bool}
def QZ{α:Type}{Q:Exit->St->Prop}(L:List Nat)(l:α->List (Nat×SV))(Hf:α->Hp)(C:α->Prop)(hj: ∀v,C v->SW P pu y (sp n (l v) (Hf v)) Q)(h:SW P pu x st (thenS (λs=> ∃v ll,bu n L (s.kX ll)=some (l v,Hf v)/\C v) Q)):SW P pu (.seq x y) st Q:=
 HB L (λv=>sp n (l v) (Hf v)) C hj (wU h λe s hh=>by
  cases e with
  |normal=>obtain⟨v,ll,h1,h2⟩:=hh;exact⟨v,ll,aL h1,h2⟩
  |_=>exact hh)
def l7{γ β:Type}{Q:Exit->St->Prop}(L:List Nat){body:γ->Option (γ⊕β)}(l:γ->List (Nat×SV))(Hf:γ->Hp)(E:β->Exit->St->Prop){x:γ}{b:β}(hit:Sh.iter body fuel x=some b)(h0:bu n L st=some (l x,Hf x))
  (round: ∀x o,body x=some o->SW P pu c (sp n (l x) (Hf x)) (thenS (λs'=> ∃y,o=.inl y/\bu n L s'=some (l y,Hf y)) (λe s'=> ∃b,o=.inr b/\E b e s')))
  (after: ∀e s',E b e s'->Q e s'):SW P pu (.loop c) st Q:=
 DQ L (λx=>sp n (l x) (Hf x)) E hit (aL h0) (λx o h=>wU (round x o h) λe s hh=>by
  cases e with
  |normal=>obtain⟨y,h1,h2⟩:=hh;exact⟨y,h1,aL h2⟩
  |_=>exact hh) after
def J1(P:Program)(rs:List ResultVar)(r:SV)(e:Exit)(st:St):Prop:= ∃H,dw P rs H r e st
def J1.ret(l:List (Nat×Nat))(h:CA P rs (st.kX l)=some r):J1 P rs r .ret st:=⟨st.H,.ret l h rfl⟩
end
def mb{P:Program}(hf:P.funcs[f]? =some fn)(hb:fn.body=some c)(ha:args.all gP=true)(hr:gP r=true)
  (h:SW P false c (k8 fn.ntmps args []) (J1 P fn.results.toList r)):PC P f args r:=by
 refine Ft ha hr λw g vs hA hH=>?_
 have:=y7 (P:=P) (pu:=false) (args:=args) (H:=[]) (r:=r) (λ_=>True) hf hb (λa w g hr=>?_) w g vs hA hH
 .exact this.mono λe w' hh=>by
   grind
 .refine Code.wp_mono (λe a' w' hh=>?_) (h a w g hr)
  obtain⟨st',g',⟨H',he,l,h1,h2⟩,r1,f⟩:=hh
  exact⟨st'.kX l,g',⟨he,wL h1,trivial⟩,r1.kX,f⟩
end Go.Sh
namespace Go.Sh
def oW{β α:Type}{a:α}{f:β->α}{r:α}(h:Option.elim none a f=r):a=r:=h
def oV{β α:Type}{a:α}{f:β->α}{i:β}{r:α}(h:Option.elim (some i) a f=r):f i=r:=h
section
variable {P:Program} {st:St} {ops:Array Oper} {k:Nat} {Q:St->Prop} (n:Nat) (H:List aN) {K V:Type} [BEq K]
def Iy{Q:Exit->Act->World->Prop}(hg:o.guard=none)(hrun:(execOp a.eval o).run P w=.ok (.value v) w')(h:wpList P ops Q rest (a.put o.dst v) w'):wpList P ops Q (o::rest) a w:=by
 unfold wpList
 rw[show Region.wanted o (yielded ops a.tmps)=true by unfold Region.wanted;rw[hg],if_pos rfl]
 refine .inl ?_
 unfold Oper.wp
 rw[hrun,Oper.upon_value]
 exact h
def mX: ∀(n:Nat) (l:List (Nat×SV)) (t:Nat),(va l n t).length=n
 |0,_,_=>rfl
 |n+1,[],t=>by simp[va,mX n]
 |n+1,(t',s)::r,t=>by simp only[va];split<;>simp[mX n]
end
def Dk(st:St)(s:Nat):Option (Option Value×Nat×List D):=
 match st.tmps[s]? with
 |some (.own n xs)=>some (none,n,xs)
 |some (.mf v n xs)=>some (some v,n,xs)
 |_=>none
def Dj:Option Value->Nat->List D->SV
 |none,n,xs=>.own n xs
 |some v,n,xs=>.mf v n xs
def wg{st:St}(h:Dk st s=some (p,n,xs)):st.tmps[s]? =some (Dj p n xs):=by
 unfold Dk at h
 split at h
 .cases h;assumption
 .cases h;assumption
 .cases h
def xG(p:Option Value)(n:Nat)(xs:List D):gl (Dj p n xs)=2:=by cases p<;>rfl
def we{val:Nat->Value}:RS g w tm val t v (Dj p n xs)<->(∀v0,p=some v0->v=v0)/\cy g w (.slot t) v n xs:=by
 cases p with
 |none=>exact⟨λh=>⟨nofun,h⟩,λh=>h.2⟩
 |some v0=>exact⟨λh=>⟨λv1 e=>by cases e;exact h.1,h.2⟩,λh=>⟨h.1 v0 rfl,h.2⟩⟩
def xM(t0:Nat):SV->Bool
 |.cq (.slot s) _ _|.eW (.slot s) _=>s==t0
 |_=>false
def St.Bl(st:St)(t0:Nat):St:={st with tmps:=st.tmps.map λs=>if xM t0 s then .undef else s}
def CM{st:St}{t0 t:Nat}{s:SV}(h:(st.Bl t0).tmps[t]? =some s):s=.undef\/(st.tmps[t]? =some s/\xM t0 s=false):=by
 simp only[St.Bl,h_1,g_4]at h
 grind
def uN(st:St)(t:Nat):(st.Bl t).tmps.length=st.tmps.length:=by simp[St.Bl]
def St.qT(st:St)(s:Nat)(p:Option Value)(n:Nat)(xs:List D):St:=(st.Bl s).set s (Dj p n xs)
def Lz(hne:t≠s0)(hm:xM s0 s=false)(ho:jQ t s (.bN (.slot s0))):False:=by
 cases s<;>simp[jQ]at ho
 .exact hne ho.symm
 .subst ho;simp[xM]at hm
 .subst ho;simp[xM]at hm
 .exact hne ho.symm
section
variable {P:Program} {pu:Bool} {st:St} {ops:Array Oper} {k:Nat} {Q:St->Prop}
def Rel.qT{a:Act}{w w':World}{g g':Gh}(hr:Rel st a w g){s:Nat}{p:Option Value}{n:Nat}{xs ys:List D}(hs:st.tmps[s]? =some (Dj p n xs))(hk: ∀o,o≠.bN (.slot s)->aO o g w g' w')(hρ:g'.ρ=g.ρ)
  (hn:cy g' w' (.slot s) (valOf a s) n ys):Rel (st.qT s p n ys) a w' g':=by
 have hlt:=aU hs
 have hp:=(we.1 (hr.tmp s _ hs)).1
 refine bc hr (by simp[St.qT,St.set,St.Bl,hr.len]) hr.dS (λ_ _ h=>by rw[hρ];exact h) (λt s' hs'=>?_) (hr.hp.bg (λo ho=>hk o λe=>by subst e;exact ho.elim) (λ_ _ h=>by rw[hρ];exact h) (by rw[hρ]))
 by_cases ht:t=s
 .subst ht
  simp only[St.qT,St.set]at hs'
  rw[g_0 (by rw[uN];exact hlt)]at hs'
  cases hs'
  exact .inr (.inl (we.2 ⟨hp,hn⟩))
 .simp only[St.qT,St.set,g_1 (j_6 ht)]at hs'
  rcases CM hs' with e|⟨e1,e2⟩
  .exact .inl e
  .refine .inr (.inr ⟨e1,rfl,λo ho=>hk o λe=>?_,λs' hd=>⟨rfl,λx hx hb=>?_⟩⟩)
   .subst e;exact Lz ht e2 ho
   .by_cases h1:s'=s
    .subst h1
     rw[hs]at hx;cases hx
     exact⟨Dj p n ys,by simp only[St.qT,St.set];rw[g_0 (by rw[uN];exact hlt)],by rw[xG,xG]⟩
    .refine⟨x,?_,rfl⟩
     simp only[St.qT,St.set,g_1 (j_6 h1),St.Bl,h_1,hx,m_4]
     have:xM s x=false:=by cases x<;>simp[gl]at hb<;>rfl
     simp[this]
def Vs(ops:Array Oper)(k:Nat)(st:St):Option (Option Tmp×Nat):=
 match fR ops k st with
 |some o=>match o.op with
  |.move (.tmp s)=>match Dk st s with
   |some _=>if o.dst !=some s then some (o.dst,s)else none
   |none=>none
  |_=>none
 |none=>none
def Vz(P:Program)(ops:Array Oper)(k:Nat)(st:St):Option (Option Tmp×Nat×Nat×List D×Int):=
 match fR ops k st with
 |some o=>match o.op with
  |.indexAddr T (.tmp t) i=>match st.tmps[t]?,fJ st i with
   |some (.PR s),some (_,j)=>match Dk st s with
    |some (_,n,xs)=>if n≠0/\n=fy P T/\(arrayOf P T).isNone=true/\o.dst≠some s then some (o.dst,s,n,xs,j)else none
    |none=>none
   |_,_=>none
  |_=>none
 |none=>none
def Rm(P:Program)(ops:Array Oper)(k:Nat)(st:St):Option (Nat×Nat×Option Value×List D×Nat×D):=
 match fR ops k st with
 |some o=>match o.op with
  |.store T (.tmp t) y=>match st.tmps[t]?,cx st y with
   |some (.ep s n j),some d=>match Dk st s with
    |some (p,n',xs)=>if n'=n/\(P.underlying T).isNone=false/\d.cells.length=n/\P.cellsOf T=n/\o.dst=none then some (s,n,p,xs,j,d)else none
    |none=>none
   |_,_=>none
  |_=>none
 |none=>none
def nV{α:Type}{l:List α}{x y:α}(h:(l.set i x)[j]? =some y):(i=j/\x=y/\j<l.length)\/(i≠j/\l[j]? =some y):=by
 grind
def Ca{α:Type}{enc:α->D}{xs:List α}{x:α}(m:Nat)(H:List aN)(L:List Nat)(l:List (Nat×SV))(hj:decide (j<xs.length)=true)(h:Rm P ops k st=some (s,n,p,xs.map enc,j,enc x))
  (cR:bu m L (st.qT s p n ((xs.set j x).map enc))=some (l,H)) (hn:cf P pu ops (k+1) (sp m l H) Q):cf P pu ops k st Q:=by
 have hj:=of_decide_eq_true hj
 unfold Rm at h
 split at h
 .rename_i o ho
  split at h
  .rename_i T t y hop
   split at h
   .rename_i s' n' j' d hs hy
    split at h
    .rename_i p' n2 xs' hown
     split at h
     .rename_i hc
      simp only[g_2,g_8]at h
      obtain⟨rfl,rfl,rfl,rfl,rfl,rfl⟩:=h
      obtain⟨rfl,hu,hsz,hcT,hd⟩:=hc
      obtain⟨g1,g2⟩:=bo ho
      refine pO g1 g2 (jO.skip λa w g hr=>?_) (da L (aL cR) hn)
      obtain⟨-,hO⟩:=we.1 (hr.tmp s' _ (wg hown))
      obtain⟨-,k0,off0,len0,cap0,hv0,hep⟩:=hr.tmp t _ hs
      rcases hO with⟨he,-⟩|⟨kb,off,cap,c,T0,us,hv,hk,hb,hl,hz,hw,hcc,hrr⟩
      .simp_all
      .rw[hv]at hv0
       simp only[Value.slice.injEq,g_2,Addr.mk.injEq]at hv0
       obtain⟨⟨rfl,rfl,-⟩,rfl,rfl⟩:=hv0
       have hrd:=cw hr hy
       obtain⟨c1,c2⟩:=hrd.cells
       have hone: ∀v∈(a.eval y).cells.toList,v.oneCell'=true:=λv hv=>by
        obtain⟨i,hi⟩:=h_2.1 hv
        have hlt:i<(enc x).cells.length:=by grind
        obtain⟨u,u1,u2,u3⟩:=c2 i (enc x).cells[i] (by simp[hlt])
        grind
       have hroom:off+j' * n2+n2<=c.size:=by
        have h1:(j'+1) * n2<=cap * n2:=h_7 _ (by rw[k_0]at hl;omega)
        grind
       obtain⟨w',r1,r2,r3,c',r4,r5,r6⟩:=cm (P:=P) kb (off+j' * n2) T0 (a.eval y).cells.toList 0 c w hb (by simp[c1];omega) hone
       have hkp: ∀o',o'≠.bN (.slot s')->aO o' g w g w':=λo' ho=>aO.block hk ho r3
       have hkf:aO .free g w g w':=hkp _ ψ
       refine⟨w',g,?_,?_,lD (l:=.slot s') ψ (by rw[r2];exact h_0 _) hkp rfl (cK (P:=P) kb (off+j' * n2) T0 (a.eval y).cells.toList 0 c w w' hb (by simp[c1];omega) hone r1)⟩
       .unfold execOp;rw[hop]
        have hev:a.eval (.tmp t)=.pointer (some ⟨kb,off+j' * n2,none⟩):=hep
        simp only[Instr.storeAt,Sem.run_bind,hev,Instr.sureAddr,Sem.run_pure,Result.andThen_ok,storeVar,gA hu]
        simp_all
       .rw[hd]
        refine hr.qT (wg hown) hkp rfl (.inr ⟨kb,off,cap,c',T0,λi q=>if i=j' then(a.eval y).cells.getD q undef else us i q,by rw[hv];simp,hk,r4,by simpa using hl,by rw[r5];exact hz,λi z hi=>?_,λi z hi q u hq=>?_,λi z hi q u hq=>?_⟩)
        .simp only[h_1,g_4]at hi
         obtain⟨z',hi,rfl⟩:=hi
         rcases nV hi with⟨-,rfl,-⟩|⟨-,hi⟩
         .exact hsz
         .exact hw i (enc z') (by simp[hi])
        .simp only[h_1,g_4]at hi
         obtain⟨z',hi,rfl⟩:=hi
         have hql:q<n2:=by
          rcases nV hi with⟨-,rfl,-⟩|⟨-,hi⟩
          .have:=aU hq;omega
          .have:=aU hq;rw[hw i (enc z') (by simp[hi])]at this;exact this
         rcases nV hi with⟨e,rfl,-⟩|⟨hne,hi⟩
         .simp_all
         .obtain⟨u1,u2⟩:=hcc i (enc z') (by simp[hi]) q u hq
          simp only[if_neg (j_6 hne)]
          refine⟨?_,u2⟩
          have hapart:off+i * n2+q<off+j' * n2\/off+j' * n2+n2<=off+i * n2+q:=by
           rcases Nat.lt_or_gt_of_ne hne with h|h
           .have:(j'+1) * n2<=i * n2:=h_7 _ h
            rw[v_9]at this;omega
           .have:(i+1) * n2<=j' * n2:=h_7 _ h
            rw[v_9]at this;omega
          grind
        .simp only[h_1,g_4]at hi
         obtain⟨z',hi,rfl⟩:=hi
         rcases nV hi with⟨e,rfl,-⟩|⟨hne,hi⟩
         .subst e
          obtain⟨u',u1,u2,u3⟩:=c2 q u hq
          have hg:(a.eval y).cells.getD q undef=u':=by simp_all
          simp only[if_true,hg]
          exact Rd.bg hkf (λ_ _ h=>h) u2
         .simp only[if_neg (j_6 hne)]
          exact Rd.bg hkf (λ_ _ h=>h) (hrr i (enc z') (by simp[hi]) q u hq)
     .cases h
    .cases h
   .cases h
  .cases h
 .cases h
def TP:BinOp->Option Bool
 |.eql=>some true
 |.neq=>some false
 |_=>none
def TE(P:Program)(ops:Array Oper)(k:Nat)(st:St):Option (Option Tmp×Bool×List D):=
 match fR ops k st with
 |some o=>match o.op with
  |.binOp op T x (.const (.slice none 0 0)) _=>match TP op,kY st x,P.underlying T with
   |some e,some (_,_,xs),some (.slice _)=>some (o.dst,e,xs)
   |_,_,_=>none
  |_=>none
 |none=>none
def qA{xs:List D}{d:Option Tmp}{e:Bool}(m:Nat)(H:List aN)(L:List Nat)(l:Bool->List (Nat×SV))(h:TE P ops k st=some (d,e,xs))(cR: ∀b,bu m L (st.put d (.d (.bool b)))=some (l b,H))
  (hn: ∀b,(b=e->xs=[])->cf P pu ops (k+1) (sp m (l b) H) Q):cf P pu ops k st Q:=by
 unfold TE at h
 split at h
 .rename_i o ho
  split at h
  .rename_i op T x yT hop
   split at h
   .rename_i e' lo no xs' eT hop1 hl hT
    simp only[g_2,g_8]at h
    obtain⟨rfl,rfl,rfl⟩:=h
    obtain⟨g1,g2⟩:=bo ho
    have key: ∀(a:Act) (w:World) (g:Gh),Rel st a w g-> ∃b:Bool,(b=e'->xs'=[])/\(execOp a.eval o).run P w=.ok (.value (.bool b)) w:=by
     intro a w g hr
     have hL:=gD hr hl
     obtain⟨base,len,cap,hv,hnil⟩: ∃base len cap,a.eval x=.slice base len cap/\(base=none->xs'=[]):=by
      rcases hL with⟨rfl,b0,cap,hv⟩|⟨kb,off,cap,c,T0,fz,us,hv,-⟩
      .grind
      grind
     have hy:a.eval (.const (.slice none 0 0))=.slice none 0 0:=rfl
     have hEq:(Op.equal T (.slice base len cap) (.slice none 0 0)).run P w=.ok base.isNone w:=by
      simp[Op.equal,Op.maxDepth,Lib.run_equalIn_slice_nil w 9999 T eT base len cap 0 0 hT]
     cases op<;>simp only[TP,reduceCtorEq,g_2]at hop1
     .subst hop1
      refine⟨base.isNone,λhb=>hnil (by cases base<;>simp_all),?_⟩
      unfold execOp;rw[hop]
      have e1:eqGuard .eql T x (.const (.slice none 0 0)) (.slice base len cap) (.slice none 0 0)=pure ():=rfl
      have e2:binOp .eql T (.slice base len cap) (.slice none 0 0)=(do pure (.bool (<-Op.equal T (.slice base len cap) (.slice none 0 0))):Sem Value):=rfl
      simp_all
     .subst hop1
      refine⟨!base.isNone,λhb=>hnil (by cases base<;>simp_all),?_⟩
      unfold execOp;rw[hop]
      have e1:eqGuard .neq T x (.const (.slice none 0 0)) (.slice base len cap) (.slice none 0 0)=pure ():=rfl
      have e2:binOp .neq T (.slice base len cap) (.slice none 0 0)=(do pure (.bool (!(<-Op.equal T (.slice base len cap) (.slice none 0 0)))):Sem Value):=rfl
      simp_all
    unfold cf OW at hn ⊢
    rw[drop_cons g1]
    intro a w g hr Qc hq
    obtain⟨b,hb,hrun⟩:=key a w g hr
    unfold wpList
    rw[bt hr g2,if_pos rfl]
    refine .inl ?_
    unfold Oper.wp
    rw[hrun,Oper.upon_value]
    exact hn b hb _ w g ((hr.cu o.dst (v:=.bool b) (s:=.d (.bool b)) .bool).bC (aL (cR b))) Qc hq
   .cases h
  .cases h
 .cases h
end
def ka{a:Act}{d t:Nat}{v:Value}(h:d≠t):(a.put (some d) v).eval (.tmp t)=a.eval (.tmp t):=BD (λe=>h (by injection e with e;exact e.symm))
def qt{a:Act}{d:Nat}{v:Value}(h:d<a.tmps.size):(a.put (some d) v).eval (.tmp d)=v:=bW h
def nI{a:Act}{d:Option Tmp}{v:Value}:(a.put d v).tmps.size=a.tmps.size:=eb
section
variable {P:Program} {pu:Bool} {st:St} {ops:Array Oper}
def ie(o:Oper)(d:Option Tmp)(op:Op):Prop:=o.dst=d/\o.op=op/\o.guard=none
def mD{Q:Act->Prop}(ho:ie o d op)(hrun: ∀ty,(execOp a.eval {o with op:=op,type:=ty}).run P w=.ok (.value v) w)(h:wpStill P ops w Q rest (a.put d v)):
  wpStill P ops w Q (o::rest) a:=by
 obtain⟨h1,h2,h3⟩:=ho
 unfold wpStill
 rw[show Region.wanted o (yielded ops a.tmps)=true by unfold Region.wanted;rw[h3],if_pos rfl]
 unfold Oper.still
 have:=hrun o.type
 subst h2
 rw[this,Oper.stillUpon_value,h1]
 exact h
def ky{Q:Exit->Act->World->Prop}(ho:ie o d op)(hrun: ∀ty,(execOp a.eval {o with op:=op,type:=ty}).run P w=.ok (.value v) w')(h:wpList P ops Q rest (a.put d v) w'):
  wpList P ops Q (o::rest) a w:=by
 obtain⟨h1,h2,h3⟩:=ho
 have:=hrun o.type
 subst h2
 subst h1
 exact Iy h3 this h
def rQ{a:Act}{w:World}{o:Oper}{x:Operand}{ty:TypeId}:(execOp a.eval {o with op:=.move x,type:=ty}).run P w=.ok (.value (a.eval x)) w:=rfl
def FI{a:Act}{w:World}{o:Oper}{x:Operand}{ty:TypeId}:(execOp a.eval {o with op:=.assign x,type:=ty}).run P w=.ok (.value (a.eval x)) w:=rfl
def Mr(k off:Nat):(⟨k,off,none⟩:Addr).add 0=⟨k,off,none⟩:=by simp[Addr.add_lit]
def yH{T e:TypeId}(hu:P.underlying T=some (.slice e))(hz:P.cellsOf e≠0){k off len cap:Nat}{i:Int}{ik:IntKind}(h0:0<=i)(h1:i<=cap)(w:World):
  (Instr.sliceAt T (.slice (some ⟨k,off,none⟩) len cap) none (some (.int ik i)) none).run P w=.ok (.slice (some ⟨k,off,none⟩) i.toNat cap) w:=by
 simp[Instr.sliceAt,Instr.slice,Instr.sliceBounds,Instr.sliceBound,asIntOf,run_underlying hu,h0,h1,gh hz,Mr]
def yG{T e:TypeId}(hu:P.underlying T=some (.slice e))(hz:P.cellsOf e≠0){k off len cap:Nat}{i:Int}{ik:IntKind}(h0:0<=i)(h1:i<=len)(w:World):
  (Instr.sliceAt T (.slice (some ⟨k,off,none⟩) len cap) (some (.int ik i)) none none).run P w=.ok (.slice (some ⟨k,if cap=i.toNat then off else off+i.toNat * P.cellsOf e,none⟩) (len - i.toNat) (cap - i.toNat)) w:=by
 simp[Instr.sliceAt,Instr.slice,Instr.sliceBounds,Instr.sliceBound,asIntOf,run_underlying hu,h0,h1,gh hz,Addr.add_lit]
 split<;>rfl
def je.take(h:je g w a n xs)(hi:i<=xs.length):je g w (a.extract 0 (i * n)) n (xs.take i):=by
 obtain⟨h1,h2,h3⟩:=h
 have hin:i * n<=xs.length * n:=h_7 _ hi
 refine⟨φ,λp x hx=>?_,λp x hx q y hy=>?_⟩
 .grind
 .rw[List.getElem?_take]at hx
  split at hx
  .rename_i hp
   obtain⟨u,u1,u2⟩:=h3 p x hx q y hy
   have hq:q<n:=by rw[<-h2 p x hx];exact aU hy
   have:(p+1) * n<=i * n:=h_7 _ hp
   grind
  .cases hx
def je.drop(h:je g w a n xs)(hi:i<=xs.length):je g w (a.extract (i * n) (xs.length * n)) n (xs.drop i):=by
 obtain⟨h1,h2,h3⟩:=h
 have hin:i * n<=xs.length * n:=h_7 _ hi
 refine⟨by simp[h1,Nat.sub_mul],λp x hx=>?_,λp x hx q y hy=>?_⟩
 .grind
 grind
def tW(hfl:je g w flat n ys)(hb:w'.heap[k]? =some (.cells c T (0,0)))(ho:g'.ow k=.bN o)
  (hcap:ys.length<=cap) (hsz:off+cap * n<=c.size) (hw: ∀q,q<ys.length * n->c[off+q]? =flat[q]?) (hk:aO .free g w g' w') (hρ:eB g g'):cy g' w' o (.slice (some ⟨k,off,none⟩) ys.length cap) n ys:=by
 obtain⟨h1,h2,h3⟩:=hfl
 refine .inr ⟨k,off,cap,c,T,λi j=>flat.getD (i * n+j) undef,rfl,ho,hb,hcap,hsz,h2,λi x hx j y hy=>?_,λi x hx j y hy=>?_⟩
 .obtain⟨u,u1,u2,u3⟩:=h3 i x hx j y hy
  have hg:flat.getD (i * n+j) undef=u:=by simp_all
  grind
 .obtain⟨u,u1,u2,u3⟩:=h3 i x hx j y hy
  have hg:flat.getD (i * n+j) undef=u:=by simp_all
  simp only[hg]
  exact u2.bg hk hρ
def pz{g:Gh}{w:World}{o:Loc}{n:Nat}{xs:List D}{k off len cap:Nat}{c:Array Value}{T:TypeId}{us:Nat->Nat->Value}(hn:0<n)(hl:len=xs.length)(hcap:xs.length<=cap)(hsz:off+cap * n<=c.size)
  (hw: ∀(i:Nat) (x:D),xs[i]? =some x->x.cells.length=n) (hcc: ∀(i:Nat) (x:D),xs[i]? =some x-> ∀(j:Nat) (y:D),x.cells[j]? =some y->c[off+i * n+j]? =some (us i j)/\(us i j).oneCell'=true)
  (hrr: ∀(i:Nat) (x:D),xs[i]? =some x-> ∀(j:Nat) (y:D),x.cells[j]? =some y->Rd g w (us i j) y):je g w (c.extract off (off+xs.length * n)) n xs:=by
 have hs:off+xs.length * n<=c.size:=by
  have:xs.length * n<=cap * n:=h_7 _ hcap
  omega
 refine⟨by simp[p_7 hs],hw,λi x hx j y hy=>⟨us i j,?_,hrr i x hx j y hy,(hcc i x hx j y hy).2⟩⟩
 have hj:j<n:=by rw[<-hw i x hx];exact aU hy
 have:=aU hx
 have:(i+1) * n<=xs.length * n:=h_7 _ this
 grind
def St.Bq(st:St):List Nat->St
 |[]=>st
 |t::ts=>(st.put (some t) .undef).Bq ts
def QH{id:Nat}{o1 o2 o3 o4 o5 o6 o7 o8:Oper}{T e:TypeId}{ti:TypeInfo}{z:Value}{n:Nat}{xs:List D}{i j:Int}{t1 t2 t3 t4 t5 t6 t7 s a1 a2:Nat}
  (hm:P.follows .mixedOrders=true) (hB:Region.lexTailB .any #[o1,o2,o3,o4,o5,o6,o7,o8] 6=true)
  (h1:ie o1 (some t1) (.move (.tmp s))) (h2:ie o2 (some t2) (.move (.tmp a1))) (h3:ie o3 (some t3) (.slice T (.tmp t1) none (some (.tmp t2)) none)) (h4:ie o4 (some t4) (.move (.tmp s))) (h5:ie o5 (some t5) (.move (.tmp a2)))
  (h6:ie o6 (some t6) (.slice T (.tmp t4) (some (.tmp t5)) none none)) (h7:ie o7 (some t7) (.call ⟨.builtin .append,#[.tmp t3,.tmp t6],#[T,T]⟩)) (h8:ie o8 (some s) (.assign (.tmp t7)))
  (hN:(decide (t1<st.tmps.length)&&decide (t2<st.tmps.length)&&decide (t3<st.tmps.length)&&decide (t4<st.tmps.length)&&decide (t5<st.tmps.length)&&decide (t6<st.tmps.length)&&decide (t7<st.tmps.length))=true)
  (hd:List.Pairwise (·≠ ·) [s,a1,a2,t1,t2,t3,t4,t5,t6,t7])
  (hT:P.underlying T=some (.slice e)) (hi:P.info? e=some ti) (hz:ti.zero=some z) (hsize:ti.size=n) (hn:0<n) (hby:ti.bytes<=65536)
  (hs:st.tmps[s]? =some (.own n xs)) (hi1:cx st (.tmp a1)=some (.int .i64 i)) (hj1:cx st (.tmp a2)=some (.int .i64 j)) (hij:(decide (0<=i)&&decide (i<j)&&decide (j<=xs.length)&&decide (xs.length<=room))=true)
  {a:Act} {w:World} {g:Gh} (hr:Rel st a w g):
  (Code.region id #[o1,o2,o3,o4,o5,o6,o7,o8] true).wp P (λe a' w'=>e=.normal/\ ∃g',Rel (((st.Bq [t1,t2,t3,t4,t5,t6,t7]).take s).put (some s) (.own n (xs.take i.toNat++xs.drop j.toNat))) a' w' g'/\Fr pu g w g' w'/\
   ∃k off cap,valOf a' s=.slice (some ⟨k,off,none⟩) (xs.take i.toNat++xs.drop j.toNat).length cap/\xs.length<=cap) a w:=by
 simp only[g_3,decide_eq_true_eq]at hN hij
 obtain⟨⟨⟨⟨⟨⟨n1,n2⟩,n3⟩,n4⟩,n5⟩,n6⟩,n7⟩:=hN
 obtain⟨⟨⟨i0,ij⟩,jl⟩,hroom⟩:=hij
 simp only[j_7,h_8,List.not_mem_nil,or_false,ne_eq,forall_eq_or_imp,forall_eq,List.Pairwise.nil,and_true,false_imp_iff,implies_true]at hd
 obtain⟨⟨sa1,sa2,s1,s2,s3,s4,s5,s6,s7⟩,⟨a12,b1,b2,b3,b4,b5,b6,b7⟩,⟨c1,c2,c3,c4,c5,c6,c7⟩,⟨d12,d13,d14,d15,d16,d17⟩,⟨d23,d24,d25,d26,d27⟩,⟨d34,d35,d36,d37⟩,⟨d45,d46,d47⟩,⟨d56,d57⟩,d67⟩:=hd
 have hce:P.cellsOf e=n:=by simp[Program.cellsOf,hi,hsize]
 have hn0:P.cellsOf e≠0:=by omega
 rcases(hr.tmp s _ hs:cy g w (.slot s) (valOf a s) n xs)with⟨rfl,-⟩|⟨k,off,cap,c,T0,us,hv,hk,hb,hl,hz',hw,hcc,hrr⟩
 .simp at jl;omega
 have hlen:=hr.len
 have e1:a.eval (.tmp a1)=.int .i64 i:=cg hr hi1 rfl
 have e2:a.eval (.tmp a2)=.int .i64 j:=cg hr hj1 rfl
 have es:a.eval (.tmp s)=.slice (some ⟨k,off,none⟩) xs.length cap:=hv
 refine wp_region_still_tail (l:=[o1,o2,o3,o4,o5,o6,o7,o8]) 6 hm hB ?_
 show wpStill P _ w.drew (λa'=>wpList P _ _ [o7,o8] a' w.drew) [o1,o2,o3,o4,o5,o6] a
 refine mD h1 (v:=.slice (some ⟨k,off,none⟩) xs.length cap) (λ_=>by rw[rQ,es]) ?_
 refine mD h2 (v:=.int .i64 i) (λ_=>by rw[rQ,ka (j_6 b1),e1]) ?_
 refine mD h3 (v:=.slice (some ⟨k,off,none⟩) i.toNat cap) (λty=>?_) ?_
 .show(do pure (.value (<-Instr.sliceAt T _ none (some _) none)):Sem Next).run P w.drew=_
  simp only[Sem.run_bind]
  rw[ka (j_6 d12),qt ω,qt (by rw[nI];omega),yH hT hn0 i0 ω]
  rfl
 refine mD h4 (v:=.slice (some ⟨k,off,none⟩) xs.length cap) (λ_=>by rw[rQ,ka (j_6 s3),ka (j_6 s2),ka (j_6 s1),es]) ?_
 refine mD h5 (v:=.int .i64 j) (λ_=>by rw[rQ,ka (j_6 c4),ka (j_6 c3),ka (j_6 c2),ka (j_6 c1),e2]) ?_
 refine mD h6 (v:=.slice (some ⟨k,if cap=j.toNat then off else off+j.toNat * n,none⟩) (xs.length - j.toNat) (cap - j.toNat)) (λty=>?_) ?_
 .show(do pure (.value (<-Instr.sliceAt T _ (some _) none none)):Sem Next).run P w.drew=_
  simp only[Sem.run_bind]
  rw[ka (j_6 d45),qt (by simp only[nI];omega),qt (by simp only[nI];omega),yG hT hn0 ω jl,hce]
  rfl
 generalize ha6:(((((a.put (some t1) (.slice (some ⟨k,off,none⟩) xs.length cap)).put (some t2) (.int .i64 i)).put (some t3) (.slice (some ⟨k,off,none⟩) i.toNat cap)).put (some t4) (.slice (some ⟨k,off,none⟩) xs.length cap)).put (some t5) (.int .i64 j)).put (some t6)
  (.slice (some ⟨k,if cap=j.toNat then off else off+j.toNat * n,none⟩) (xs.length - j.toNat) (cap - j.toNat))=a6
 have hrd:Rel st a w.drew g:=hr.drew
 have u: ∀{v:Value},pf g w.drew v .undef:=trivial
 have r6:Rel ((((((st.put (some t1) .undef).put (some t2) .undef).put (some t3) .undef).put (some t4) .undef).put (some t5) .undef).put (some t6) .undef) a6 w.drew g:=by
  subst ha6
  exact(((((hrd.cu (some t1) u).cu (some t2) u).cu (some t3) u).cu (some t4) u).cu (some t5) u).cu (some t6) u
 have v3:a6.eval (.tmp t3)=.slice (some ⟨k,off,none⟩) i.toNat cap:=by subst ha6;rw[ka (j_6 d36),ka (j_6 d35),ka (j_6 d34),qt (by simp only[nI];omega)]
 have v6:a6.eval (.tmp t6)=.slice (some ⟨k,if cap=j.toNat then off else off+j.toNat * n,none⟩) (xs.length - j.toNat) (cap - j.toNat):=by subst ha6;rw[qt (by simp only[nI];omega)]
 have hlen6:a6.tmps.size=st.tmps.length:=by subst ha6;simp only[nI];exact hlen
 clear ha6
 have hcapn:xs.length * n<=cap * n:=h_7 _ hl
 have hjn:j.toNat * n+(xs.length - j.toNat) * n=xs.length * n:=by rw[<-v_0];congr 1;omega
 have hin:i.toNat * n<=j.toNat * n:=h_7 _ ω
 let news:=c.extract (off+j.toNat * n) (off+xs.length * n)
 have hbd:w.drew.heap[k]? =some (.cells c T0 (0,0)):=hb
 have hnews: ∀w',Up w.drew w'->(Builtin.firstCells n (xs.length - j.toNat) (.slice (some ⟨k,if cap=j.toNat then off else off+j.toNat * n,none⟩) (xs.length - j.toNat) (cap - j.toNat))).run P w'=.ok news w':=λw' hup=>by
  simp only[Builtin.firstCells]
  split
  .rename_i hcj
   have h0:xs.length - j.toNat=0:=by omega
   have:news= #[]:=by
    grind
   rw[h0,this,Nat.zero_mul]
   simp[loadCells,loadCellsFrom]
  .rw[jR (P:=P) (hup _ _ hbd) ω]
   grind
 have hap:=λty=>zc (P:=P) (T:=T) (T2:=T) (ty:=ty) (e:=e) (i:=ti) (z:=z) (v:=.slice (some ⟨k,off,none⟩) i.toNat cap) (x:=.slice (some ⟨k,if cap=j.toNat then off else off+j.toNat * n,none⟩) (xs.length - j.toNat) (cap - j.toNat)) (w:=w.drew)
  (m:=xs.length - j.toNat) (news:=news) (olds:=c.extract off (off+i.toNat * n)) rfl hT hi hz ⟨_,hT,ψ⟩ (λ_=>rfl) (by rw[hsize];exact hnews) (λw' hup=>by
   rw[hsize]
   simp only[Builtin.firstCells]
   rw[jR (P:=P) (hup _ _ hbd) ω]) (by unfold maxLen;unfold room at hroom;omega) (by
   unfold room at hroom
   have:(i.toNat+(xs.length - j.toNat)) * ti.bytes<=16777216 * 65536:=Nat.mul_le_mul ω hby
   omega)
 have hin':=λty=>(hap ty).1 ω
 simp only[hsize]at hin'
 have hnsz:news.size=(xs.length - j.toNat) * n:=by simp[news];omega
 have hone: ∀v∈news.toList,v.oneCell'=true:=by
  have:=(pz (g:=g) (w:=w) (k:=k) (T:=T0) (o:=.slot s) hn rfl hl hz' hw hcc hrr).one
  intro v hv'
  refine this v ?_
  simp only[news,Array.mem_toList_iff,Array.mem_extract_iff_getElem]at hv' ⊢
  obtain⟨q,hq1,rfl⟩:=hv'
  exact⟨j.toNat * n+q,ω,by congr 1;omega⟩
 obtain⟨w',q1,q2,q3,c',q4,q5,q6⟩:=cm (P:=P) k (off+i.toNat * n) T0 news.toList 0 c w.drew hbd (by simp[hnsz];omega) hone
 refine ky h7 (v:=.slice (some ⟨k,off,none⟩) (i.toNat+(xs.length - j.toNat)) cap) (w':=w') (λty=>?_) ?_
 .refine iG (a:=a6) (x:=.tmp t3) (y:=.tmp t6) rfl rfl rfl rfl ?_
  rw[v3,v6,hin' ty]
  simp only[Addr.add_lit,q1,Result.andThen_ok]
 refine ky h8 (v:=.slice (some ⟨k,off,none⟩) (i.toNat+(xs.length - j.toNat)) cap) (w':=w') (λ_=>by rw[FI,qt ω]) ?_
 let zs:=xs.take i.toNat++xs.drop j.toNat
 have hzl:zs.length=i.toNat+(xs.length - j.toNat):=by simp[zs];omega
 have hkeep: ∀o',o'≠.bN (.slot s)->aO o' g w.drew g w':=λo' ho=>aO.block hk ho q3
 have r7:Rel (st.Bq [t1,t2,t3,t4,t5,t6,t7]) (a6.put (some t7) (.slice (some ⟨k,off,none⟩) (i.toNat+(xs.length - j.toNat)) cap)) w.drew g:=r6.cu (some t7) u
 have hfl:=pz (g:=g) (w:=w) (k:=k) (T:=T0) (o:=.slot s) hn rfl hl hz' hw hcc hrr
 have hin2:i.toNat * n+(xs.length - j.toNat) * n<=xs.length * n:=by omega
 have hO:cy g w' (.slot s) (.slice (some ⟨k,off,none⟩) (i.toNat+(xs.length - j.toNat)) cap) n zs:=by
  rw[<-hzl]
  refine tW ((hfl.take (i:=i.toNat) ω).append (hfl.drop (i:=j.toNat) ω)) q4 hk ω (by rw[q5];exact hz') (λq hq=>?_) (hkeep _ ψ) (λ_ _ h=>h)
  rw[hzl,v_0]at hq
  have hmin:min i.toNat xs.length=i.toNat:=by omega
  have hsz1:((c.extract off (off+xs.length * n)).extract 0 (i.toNat * n)).size=i.toNat * n:=by grind
  have hszF:=hfl.1
  rw[q6]
  by_cases hq1:q<i.toNat * n
  .grind
  .rw[if_pos (by simp[hnsz];omega),q_0 ω,hsz1,w_1,k_5,if_pos (by simp[hnsz];omega),k_5,if_pos χ,k_5,if_pos ω]
   congr 1;omega
 have hfin:=Rel.replace r7 (s:=s) (d:=s) (sv:=.own n zs) (v':=.slice (some ⟨k,off,none⟩) (i.toNat+(xs.length - j.toNat)) cap) hkeep rfl (λ_ _=>hO)
 refine⟨rfl,g,hfin,(Fr.drew).trans (lD (l:=.slot s) ψ (by rw[q2];exact h_0 _) hkeep rfl (cK (P:=P) k (off+i.toNat * n) T0 news.toList 0 c w.drew w' hbd (by simp[hnsz];omega) hone q1)),k,off,cap,?_,hl⟩
 rw[bW (by rw[nI,hlen6];exact aU hs),hzl]
def IS{T e:TypeId}(hu:P.underlying T=some (.slice e))(hz:P.cellsOf e≠0){k off len cap:Nat}{i j:Int}{ik jk:IntKind}(h0:0<=i)(h1:i<=j)(h2:j<=cap)(w:World):
  (Instr.sliceAt T (.slice (some ⟨k,off,none⟩) len cap) (some (.int ik i)) (some (.int jk j)) none).run P w=.ok (.slice (some ⟨k,if cap=i.toNat then off else off+i.toNat * P.cellsOf e,none⟩) (j.toNat - i.toNat) (cap - i.toNat)) w:=by
 have hj:0<=j:=by omega
 have hij:i<=max j 0:=by omega
 simp[Instr.sliceAt,Instr.slice,Instr.sliceBounds,Instr.sliceBound,asIntOf,run_underlying hu,h0,h1,h2,hj,hij,gh hz,Addr.add_lit]
 split<;>rfl
def AD{o:Oper}{c:Call}{a:Act}{w:World}{x:Operand}{T:TypeId}(hop:o.op=.call c)(hc:c.callee=.builtin .clear)(ha:c.args.toList=[x])(ht:c.argTypes.toList=[T]){v:Value}{w':World}
  (h:(Builtin.clear_ #[T] o.type #[a.eval x]).run P w=.ok v w'):(execOp a.eval o).run P w=.ok (.value v) w':=by
 obtain⟨callee,args,argTypes⟩:=c
 have ha2:args= #[x]:=by apply v_5;simpa using ha
 have ht2:argTypes= #[T]:=by apply v_5;simpa using ht
 subst ha2 ht2
 simp only at hc
 subst hc
 unfold execOp
 rw[hop]
 simp only[resolve,p_2,h_3,q_7,Sem.run_bind,Sem.run_pure,Result.andThen_ok,invoke,builtin]
 simp[h]
def Er{o:Oper}{c:Call}{a:Act}{w:World}{x:Operand}{T e:TypeId}{b:Option Addr}{n cap:Nat}(hop:o.op=.call c)(hc:c.callee=.builtin .len)(ha:c.args.toList=[x])(ht:c.argTypes.toList=[T])(hu:P.underlying T=some (.slice e))
  (hx:a.eval x=.slice b n cap):(execOp a.eval o).run P w=.ok (.value (goInt n)) w:=by
 obtain⟨callee,args,argTypes⟩:=c
 have ha2:args= #[x]:=by apply v_5;simpa using ha
 have ht2:argTypes= #[T]:=by apply v_5;simpa using ht
 subst ha2 ht2
 simp only at hc
 subst hc
 unfold execOp
 rw[hop]
 simp only[resolve,p_2,h_3,q_7,Sem.run_bind,Sem.run_pure,Result.andThen_ok,invoke,builtin,hx]
 simp[Builtin.len_,run_underlying hu]
def uw(hz:mR z=some d)(m:Nat): ∀v∈(Builtin.zeroCells z.cells m).toList,v.oneCell'=true:=by
 intro v hv
 have hrd:Rd ⟨λ_=>.free,[]⟩ (default:World) z d:=oB hz
 obtain⟨c1,c2⟩:=hrd.cells
 simp only[Builtin.zeroCells,Array.toList_map,w_0]at hv
 obtain⟨i,hi,rfl⟩:=hv
 have hi':i<m * z.cells.size:=by simpa using hi
 have h0:0<z.cells.size:=by
  grind
 have hlt:i % z.cells.size<z.cells.size:=Nat.mod_lt _ h0
 obtain⟨u,u1,-,u3⟩:=c2 (i % z.cells.size) (d.cells[i % z.cells.size]' ω) ψ
 grind
def Q0{id id2:Nat}{o1 o2 o3 o4 o5 o6 o7 o8 p1 p2 p3 p4 p5 p6:Oper}{Y:Code}{T e:TypeId}{ti:TypeInfo}{z:Value}{zd:D}{n:Nat}{xs:List D}{i j:Int}{Q:Exit->St->Prop}{t1 t2 t3 t4 t5 t6 t7 s a1 a2 a3 u1 u2 u3 u4 u5:Nat}{iY:St}
  (hm:P.follows .mixedOrders=true) (hB:Region.lexTailB .any #[o1,o2,o3,o4,o5,o6,o7,o8] 6=true)
  (h1:ie o1 (some t1) (.move (.tmp s))) (h2:ie o2 (some t2) (.move (.tmp a1))) (h3:ie o3 (some t3) (.slice T (.tmp t1) none (some (.tmp t2)) none)) (h4:ie o4 (some t4) (.move (.tmp s))) (h5:ie o5 (some t5) (.move (.tmp a2)))
  (h6:ie o6 (some t6) (.slice T (.tmp t4) (some (.tmp t5)) none none)) (h7:ie o7 (some t7) (.call ⟨.builtin .append,#[.tmp t3,.tmp t6],#[T,T]⟩)) (h8:ie o8 (some s) (.assign (.tmp t7)))
  (k1:ie p1 (some u1) (.move (.tmp s))) (k2:ie p2 (some u2) (.move (.tmp s))) (k3:ie p3 (some u3) (.call ⟨.builtin .len,#[.tmp u2],#[T]⟩)) (k4:ie p4 (some u4) (.move (.tmp a3)))
  (k5:ie p5 (some u5) (.slice T (.tmp u1) (some (.tmp u3)) (some (.tmp u4)) none)) (k6:ie p6 none (.call ⟨.builtin .clear,#[.tmp u5],#[T]⟩))
  (hN:(decide (t1<st.tmps.length)&&decide (t2<st.tmps.length)&&decide (t3<st.tmps.length)&&decide (t4<st.tmps.length)&&decide (t5<st.tmps.length)&&decide (t6<st.tmps.length)&&decide (t7<st.tmps.length))=true)
  (hN2:(decide (u1<st.tmps.length)&&decide (u2<st.tmps.length)&&decide (u3<st.tmps.length)&&decide (u4<st.tmps.length)&&decide (u5<st.tmps.length))=true)
  (hd:List.Pairwise (·≠ ·) [s,a1,a2,t1,t2,t3,t4,t5,t6,t7]) (hd2:List.Pairwise (·≠ ·) [s,a3,u1,u2,u3,u4,u5])
  (hT:P.underlying T=some (.slice e)) (hi:P.info? e=some ti) (hz:ti.zero=some z) (hzd:mR z=some zd) (hzn:z.cells.size=n) (hsize:ti.size=n) (hn:0<n) (hby:ti.bytes<=65536)
  (hs:st.tmps[s]? =some (.own n xs)) (hi1:cx st (.tmp a1)=some (.int .i64 i)) (hj1:cx st (.tmp a2)=some (.int .i64 j)) (hij:(decide (0<=i)&&decide (i<j)&&decide (j<=xs.length)&&decide (xs.length<=room))=true)
  (hst2:((st.Bq [t1,t2,t3,t4,t5,t6,t7]).take s).put (some s) (.own n (xs.take i.toNat++xs.drop j.toNat))=iY) (h3v:cx iY (.tmp a3)=some (.int .i64 xs.length))
  (hq:SW P pu Y (iY.Bq [u1,u2,u3,u4,u5]) Q):
  SW P pu (.seq (.region id #[o1,o2,o3,o4,o5,o6,o7,o8] true) (.seq (.region id2 #[p1,p2,p3,p4,p5,p6] false) Y)) st Q:=by
 intro a w g hr
 refine wp_seq (Code.wp_mono (λex a1' w1 hh=>?_) (QH (pu:=pu) (a1:=a1) (a2:=a2) hm hB h1 h2 h3 h4 h5 h6 h7 h8 hN hd hT hi hz hsize hn hby hs hi1 hj1 hij hr))
 obtain⟨rfl,g1,hr1,hf1,k,off,cap,hv,hcap⟩:=hh
 rw[hst2]at hr1
 simp only[g_3,decide_eq_true_eq]at hN2 hij
 obtain⟨⟨⟨⟨n1,n2⟩,n3⟩,n4⟩,n5⟩:=hN2
 obtain⟨⟨⟨i0,ij⟩,jl⟩,hroom⟩:=hij
 simp only[j_7,h_8,List.not_mem_nil,or_false,ne_eq,forall_eq_or_imp,forall_eq,List.Pairwise.nil,and_true,false_imp_iff,implies_true]at hd2
 obtain⟨⟨s3,s1,s2,s4,s5,s6⟩,⟨b1,b2,b3,b4,b5⟩,⟨d12,d13,d14,d15⟩,⟨d23,d24,d25⟩,⟨d34,d35⟩,d45⟩:=hd2
 have hlen1:a1'.tmps.size=st.tmps.length:=by
  rw[hr1.len,<-hst2];simp[St.Bq]
 have hce:P.cellsOf e=n:=by simp[Program.cellsOf,hi,hsize]
 have hn0:P.cellsOf e≠0:=by omega
 let zs:=xs.take i.toNat++xs.drop j.toNat
 have hzl:zs.length=i.toNat+(xs.length - j.toNat):=by simp[zs];omega
 have hs1:iY.tmps[s]? =some (.own n zs):=by
  rw[<-hst2]
  have hlt:s<((st.Bq [t1,t2,t3,t4,t5,t6,t7]).take s).tmps.length:=by simp[St.Bq];exact aU hs
  simp only[St.put]
  rw[g_6 hlt]
  simp only
  split
  .simp only[St.set];rw[g_0 (by simpa using hlt)]
  .simp only[St.set];rw[g_0 hlt]
 have hO:cy g1 w1 (.slot s) (valOf a1' s) n zs:=hr1.tmp s _ hs1
 have ev0:a1'.eval (.tmp s)=.slice (some ⟨k,off,none⟩) zs.length cap:=hv
 have ev3:a1'.eval (.tmp a3)=.int .i64 xs.length:=cg hr1 h3v rfl
 refine wp_seq (wp_region_lit (l:=[p1,p2,p3,p4,p5,p6]) ?_)
 refine ky k1 (w':=w1) (v:=.slice (some ⟨k,off,none⟩) zs.length cap) (λ_=>by rw[rQ,ev0]) ?_
 refine ky k2 (w':=w1) (v:=.slice (some ⟨k,off,none⟩) zs.length cap) (λ_=>by rw[rQ,ka (j_6 s1),ev0]) ?_
 refine ky k3 (w':=w1) (v:=goInt zs.length) (λty=>?_) ?_
 .exact Er rfl rfl rfl rfl hT (qt (by rw[nI];omega))
 refine ky k4 (w':=w1) (v:=.int .i64 xs.length) (λ_=>by rw[rQ,ka (j_6 b3),ka (j_6 b2),ka (j_6 b1),ev3]) ?_
 refine ky k5 (w':=w1) (v:=.slice (some ⟨k,off+zs.length * n,none⟩) (xs.length - zs.length) (cap - zs.length)) (λty=>?_) ?_
 .show(do pure (.value (<-Instr.sliceAt T _ (some _) (some _) none)):Sem Next).run P w1=_
  simp only[Sem.run_bind]
  rw[ka (j_6 d14),ka (j_6 d13),ka (j_6 d12),qt ω,ka (j_6 d34),qt (by simp only[nI];omega),qt (by simp only[nI];omega)]
  rw[show goInt zs.length=.int .i64 zs.length from rfl,IS hT hn0 ω ω ω,if_neg ω,hce]
  rfl
 rcases hO with⟨hz0,a0,hva⟩|⟨k',off',cap',c,T0,us,hva,hk,hb,hl,hzz,hw,hcc,hrr⟩
 .grind
 .have hveq:valOf a1' s=.slice (some ⟨k,off,none⟩) zs.length cap:=hv
  rw[hva]at hveq
  simp only[Value.slice.injEq,g_2,Addr.mk.injEq,true_and,and_true]at hveq
  obtain⟨⟨rfl,rfl⟩,rfl⟩:=hveq
  have hzm:zs.length * n+(xs.length - zs.length) * n=xs.length * n:=by rw[<-v_0];congr 1;omega
  have hcn:xs.length * n<=cap' * n:=h_7 _ hcap
  obtain⟨w',q1,q2,q3,c',q4,q5,q6⟩:=cm (P:=P) k' (off'+zs.length * n) T0 (Builtin.zeroCells z.cells (xs.length - zs.length)).toList 0 c w1 hb (by simp[size_zeroCells,hzn];omega) (uw hzd _)
  refine ky k6 (v:=.tuple #[]) (w':=w') (λty=>?_) ?_
  .refine AD (x:=.tmp u5) rfl rfl rfl rfl ?_
   rw[qt (by simp only[nI];omega)]
   obtain⟨m,hm⟩: ∃m,xs.length - zs.length=m+1:=⟨xs.length - zs.length - 1,ω⟩
   have hzv:(zeroValue e).run P w1=.ok z w1:=by simp[zeroValue,typeInfo,hi,hz]
   rw[hm]at q1 ⊢
   simp[Builtin.clear_,run_underlying hT,hzv,q1]
  have hkeep: ∀o',o'≠.bN (.slot s)->aO o' g1 w1 g1 w':=λo' ho=>aO.block hk ho q3
  have u: ∀{v:Value},pf g1 w' v .undef:=trivial
  have hO':cy g1 w' (.slot s) (valOf a1' s) n zs:=by
   rw[hva]
   refine tW (pz (g:=g1) (w:=w1) (k:=k') (T:=T0) (o:=.slot s) hn rfl hl hzz hw hcc hrr) q4 hk hl (by rw[q5];exact hzz) (λq hq=>?_) (hkeep _ ψ) (λ_ _ h=>h)
   grind
  have hr2:Rel iY a1' w' g1:=by
   refine bc hr1 hr1.len hr1.dS (λ_ _ h=>h) (λt sv hts=>?_) (hr1.hp.bg (λo ho=>hkeep o λe=>by subst e;exact ho.elim) (λ_ _ h=>h) rfl)
   by_cases ht:t=s
   .subst ht
    rw[hs1]at hts;cases hts
    exact .inr (.inl hO')
   .refine .inr (.inr ⟨hts,rfl,λo ho=>hkeep o λe=>?_,λs' _=>⟨rfl,λx hx _=>⟨x,hx,rfl⟩⟩⟩)
    subst e
    rw[<-hst2]at hts
    rcases eu ht hts with h|⟨h,-⟩
    .subst h;exact ho.elim
    .rcases cJ h with h|⟨-,-,h⟩
     .subst h;exact ho.elim
     .exact(jP ht h ho).2.1 rfl
  have hr3:=((((hr2.cu (some u1) (v:=.slice (some ⟨k',off',none⟩) zs.length cap') u).cu (some u2) (v:=.slice (some ⟨k',off',none⟩) zs.length cap') u).cu (some u3) (v:=goInt zs.length) u).cu (some u4) (v:=.int .i64 xs.length) u).cu (some u5) (v:=.slice (some ⟨k',off'+zs.length * n,none⟩) (xs.length - zs.length) (cap' - zs.length)) u
  simp only[St.Bq]at hq
  refine Code.wp_mono (λe2 a2' w2 hh2=>?_) (hq _ w' g1 (hr3.cu none (v:=.tuple #[]) u))
  obtain⟨st3,g3,q,r,f⟩:=hh2
  exact⟨st3,g3,q,r,hf1.trans ((lD (l:=.slot s) ψ (by rw[q2];exact h_0 _) hkeep rfl (cK (P:=P) k' (off'+zs.length * n) T0 _ 0 c w1 w' hb (by simp[size_zeroCells,hzn];omega) (uw hzd _) q1)).trans f)⟩
end
section
variable {P:Program} {pu:Bool} {st:St} {ops:Array Oper}
def Tm{a:Act}{w:World}{o:Oper}{I I2 ty:TypeId}{x y:Operand}{p q:Int}(hx:a.eval x=.int .i64 p)(hy:a.eval y=.int .i64 q)(h: -9223372036854775808<=p+q/\p+q<=9223372036854775807):
  (execOp a.eval {o with op:=.binOp .add I x y I2,type:=ty}).run P w=.ok (.value (.int .i64 (p+q))) w:=by
 have:(do eqGuard .add I x y (.int .i64 p) (.int .i64 q);binOp .add I (.int .i64 p) (.int .i64 q):Sem Value).run P w=.ok (.int .i64 (IntKind.wrap .i64 (p+q))) w:=rfl
 rw[IntWalk.i64_in _ h]at this
 unfold execOp
 simp only[hx,hy]
 simp only[Sem.run_bind]at this ⊢
 rw[this]
 rfl
def Ti{a:Act}{w:World}{o:Oper}{I I2 ty:TypeId}{x y:Operand}{p q:Int}(hx:a.eval x=.int .i64 p)(hy:a.eval y=.int .i64 q)(h: -9223372036854775808<=p - q/\p - q<=9223372036854775807):
  (execOp a.eval {o with op:=.binOp .sub I x y I2,type:=ty}).run P w=.ok (.value (.int .i64 (p - q))) w:=by
 have:(do eqGuard .sub I x y (.int .i64 p) (.int .i64 q);binOp .sub I (.int .i64 p) (.int .i64 q):Sem Value).run P w=.ok (.int .i64 (IntKind.wrap .i64 (p - q))) w:=rfl
 rw[IntWalk.i64_in _ h]at this
 unfold execOp
 simp only[hx,hy]
 simp only[Sem.run_bind]at this ⊢
 rw[this]
 rfl
def Tk{a:Act}{w:World}{o:Oper}{I I2 ty:TypeId}{x y:Operand}{p q:Int}(hx:a.eval x=.int .i64 p)(hy:a.eval y=.int .i64 q):
  (execOp a.eval {o with op:=.binOp .gtr I x y I2,type:=ty}).run P w=.ok (.value (.bool (decide (p>q)))) w:=by
 have:(do eqGuard .gtr I x y (.int .i64 p) (.int .i64 q);binOp .gtr I (.int .i64 p) (.int .i64 q):Sem Value).run P w=.ok (.bool (decide (p>q))) w:=rfl
 unfold execOp
 simp only[hx,hy]
 simp only[Sem.run_bind]at this ⊢
 rw[this]
 rfl
def Tj{a:Act}{w:World}{o:Oper}{I ty:TypeId}{x:Operand}{b:Bool}(hx:a.eval x=.bool b):
  (execOp a.eval {o with op:=.unOp .not I x,type:=ty}).run P w=.ok (.value (.bool !b)) w:=by
 unfold execOp
 simp only[hx]
 rfl
def Tl{a:Act}{w:World}{o:Oper}{T e ty:TypeId}{x:Operand}{b:Option Addr}{n c:Nat}(hu:P.underlying T=some (.slice e))(hx:a.eval x=.slice b n c):
  (execOp a.eval {o with op:=.call ⟨.builtin .cap,#[x],#[T]⟩,type:=ty}).run P w=.ok (.value (goInt c)) w:=by
 unfold execOp
 simp only[resolve,p_2,h_3,q_7,Sem.run_bind,Sem.run_pure,Result.andThen_ok,invoke,builtin,hx]
 simp[Builtin.cap_,run_underlying hu]
def Lu{a:Act}{w:World}{o:Oper}{T e ty:TypeId}{x y:Operand}(hu:P.underlying T=some (.slice e))(hz:P.cellsOf e≠0){k off len cap:Nat}{i:Int}(hx:a.eval x=.slice (some ⟨k,off,none⟩) len cap)(hy:a.eval y=.int .i64 i)(h0:0<=i)(h1:i<=cap):
  (execOp a.eval {o with op:=.slice T x none (some y) none,type:=ty}).run P w=.ok (.value (.slice (some ⟨k,off,none⟩) i.toNat cap)) w:=by
 show(do pure (.value (<-Instr.sliceAt T (a.eval x) none (some (a.eval y)) none)):Sem Next).run P w=_
 simp only[Sem.run_bind]
 rw[hx,hy,yH hu hz h0 h1]
 rfl
def Lt{a:Act}{w:World}{o:Oper}{T e ty:TypeId}{x y:Operand}(hu:P.underlying T=some (.slice e))(hz:P.cellsOf e≠0){k off len cap:Nat}{i:Int}(hx:a.eval x=.slice (some ⟨k,off,none⟩) len cap)(hy:a.eval y=.int .i64 i)(h0:0<=i)(h1:i<=len):
  (execOp a.eval {o with op:=.slice T x (some y) none none,type:=ty}).run P w=.ok (.value (.slice (some ⟨k,if cap=i.toNat then off else off+i.toNat * P.cellsOf e,none⟩) (len - i.toNat) (cap - i.toNat))) w:=by
 show(do pure (.value (<-Instr.sliceAt T (a.eval x) (some (a.eval y)) none none)):Sem Next).run P w=_
 simp only[Sem.run_bind]
 rw[hx,hy,yG hu hz h0 h1]
 rfl
def RT{a:Act}{w w':World}{o:Oper}{T T2 e ty:TypeId}{x y:Operand}{k off dl dc m n:Nat}{cs:Array Value}(hu:P.underlying T=some (.slice e))(hz:P.cellsOf e=n)(hn:n≠0)(hx:a.eval x=.slice (some ⟨k,off,none⟩) dl dc)
  (hl:(Builtin.lenOf (a.eval y)).run P w=.ok m w) (hc:(Builtin.firstCells n (Nat.min m dl) (a.eval y)).run P w=.ok cs w) (hs:(storeCells ⟨k,off,none⟩ cs.toList).run P w=.ok () w'):
  (execOp a.eval {o with op:=.call ⟨.builtin .copy,#[x,y],#[T,T2]⟩,type:=ty}).run P w=.ok (.value (goInt (Nat.min m dl))) w':=by
 subst hz
 unfold execOp
 simp only[resolve,p_2,h_3,q_7,Sem.run_bind,Sem.run_pure,Result.andThen_ok,invoke,builtin,hx]
 simp[Builtin.copy_,run_underlying hu,hl,gh hn,hc,hs]
def PX{a:Act}{w:World}{o:Oper}{f ty:Nat}{x y:Operand}{ts:Array TypeId}:(execOp a.eval {o with op:=.call ⟨.value (.func f),#[x,y],ts⟩,type:=ty}).run P w=(callFunc f #[a.eval x,a.eval y]).run P w:=by
 unfold execOp
 simp only[resolve,Deferred.ofValue,p_2,h_3,q_7,Sem.run_bind,Sem.run_pure,Result.andThen_ok,invoke]
 rfl
def Ep(hp:ps[0]? =some T)(hu:P.underlying T=some (.slice e))(hz:P.cellsOf e≠0)(hv:w.heap[kv]? =some (.cells av Tv fz))
  (hb:w.heap[k]? =some (.cells c T0 (0,0))) (hne:kv≠k) (hm:0<m) (hl:0<lb) (Uz:0<av.size):
  (Extern.SlicesOverlaps.overlaps ps rs #[.slice (some ⟨kv,ov,none⟩) m cv,.slice (some ⟨k,o2,none⟩) lb cb]).run P w=.ok (.bool false) w:=by
 have f2: ∀q,w.frozen? ⟨k,q,none⟩=false:=λq=>by simp[World.frozen?,hb]
 have s1:w.shape? kv=some (Tv,av.size):=by simp[World.shape?,hv]
 have s2:w.shape? k=some (T0,c.size):=by simp[World.shape?,hb]
 have hne':(kv==k)=false:=by simpa using hne
 have hm0:m≠0:=by omega
 have hl0:lb≠0:=by omega
 have ha0:av.size≠0:=by omega
 have hsz:(sizeOf e).run P w=.ok (P.cellsOf e) w:=gh hz w
 have hvw: ∀q,(noView ⟨kv,q,none⟩).run P w=.ok () w:=λq=>by simp[noView,viewAt,shape,Sem.run_bind,Sem.run,s1]
 have hbw: ∀q,(noView ⟨k,q,none⟩).run P w=.ok () w:=λq=>by simp[noView,viewAt,shape,Sem.run_bind,Sem.run,s2]
 have cR: ∀q,∃b,(stringish ⟨kv,q,none⟩).run P w=.ok b w:=λq=>by
  cases hf:w.frozen? ⟨kv,q,none⟩
  .exact⟨w.frozen? ⟨kv,av.size,none⟩,by simp[stringish,frozen,shape,Sem.run_bind,Sem.run,s1,hf]⟩
  .exact⟨true,by simp[stringish,frozen,shape,Sem.run_bind,Sem.run,s1,hf]⟩
 have hst2: ∀q,(stringish ⟨k,q,none⟩).run P w=.ok false w:=λq=>by
  simp[stringish,frozen,shape,Sem.run_bind,Sem.run,s2,f2]
 obtain⟨bs,hbs⟩:=cR ov
 have hmb:(mayBeOne ⟨kv,ov,none⟩ ⟨k,o2,none⟩).run P w=.ok false w:=by
  simp[mayBeOne,shape,Sem.run_bind,Sem.run,hbs,hst2,s1,s2]
  grind
 have hbody:Extern.SlicesOverlaps.overlaps ps rs #[.slice (some ⟨kv,ov,none⟩) m cv,.slice (some ⟨k,o2,none⟩) lb cb]=(do
   let some t:=ps[0]? |stuck "slices.overlaps: no parameter types"
   let .slice elem <-underlying t|stuck "slices.overlaps: slice type expected"
   let size <-sizeOf elem
   if m=0\/lb=0\/size=0 then pure (.bool false)
   else if kv !=k&&(<-frozen ⟨kv,ov,none⟩)&&(<-frozen ⟨k,o2,none⟩)then unsupported .addressObserved
   else do
    if kv !=k then do
     noView ⟨kv,ov,none⟩;noView ⟨k,o2,none⟩
     if <-mayBeOne ⟨kv,ov,none⟩ ⟨k,o2,none⟩then return .bool ((<-choose (.extern "sameAddr.stringBytes" 2))==1)
    pure (.bool (kv==k&&ov<o2+lb * size&&o2<ov+m * size))):=rfl
 rw[hbody]
 simp[hp,run_underlying hu,hsz,hm0,hl0,hz,hne',frozen,Sem.run,f2,hvw,hbw,hmb]
def vD{a:Act}{w:World}{T I e:TypeId}{x y:Operand}{ti:TypeInfo}{z:Value}{base:Option Addr}{sLen sCap m:Nat}{olds:Array Value}{ik:IntKind}(hx:a.eval x=.slice base sLen sCap)(hy:a.eval y=.int .i64 m)
  (ht:P.underlying T=some (.slice e)) (hI:P.underlying I=some (.int ik)) (hi:P.info? e=some ti) (hz:ti.zero=some z) (hn:ti.size≠0)
  (hold:(Builtin.firstCells ti.size sLen (.slice base sLen sCap)).run P w.drew=.ok olds w.drew) (hm:0<m) (hc:sCap<sLen+m) (h63:sLen+m<=maxLen) (hb:(sLen+m) * ti.bytes<=140737488355328):
  ∃gc,sLen+m<=gc/\ ∀(o:Oper) (ty:TypeId),(execOp a.eval {o with op:=.call ⟨.builtin .append,#[x,y],#[T,I]⟩,type:=ty}).run P w=.ok (.value (.slice (some ⟨w.heap.size,0,none⟩) (sLen+m) gc))
   (w.drew.alloc (.cells (olds++Builtin.zeroCells z.cells m++Builtin.zeroCells z.cells (gc - (sLen+m))) e)):=by
 refine⟨grownCap w (sLen+m) sCap e,grownCap_ge w (sLen+m) sCap e,λo ty=>?_⟩
 have h63': ¬((9223372036854775807:Int)<(sLen:Int)+(m:Int)):=by unfold maxLen at h63;omega
 have h64:IntKind.i64.wrap (m:Int)=m:=IntWalk.i64_in _ (by unfold maxLen at h63;omega)
 have hnr: ¬(sLen+m<=sCap):=by omega
 have h48: ¬(281474976710656<Builtin.nextslicecap (sLen+m) sCap * ti.bytes):=by have:=growslice_fits hc hb;omega
 have hmb: ¬((281474976710656:Int)<(m:Int) * (ti.bytes:Int)):=by
  grind
 have hmz: ¬(m * ti.size=0):=Nat.mul_ne_zero ω hn
 have hm0: ¬m=0:=by omega
 refine iG (x:=x) (y:=y) rfl rfl rfl rfl ?_
 rw[hx,hy]
 simp[Builtin.append_,run_underlying ht,run_underlying hI,sizeOf,typeInfo,zeroValue,hi,hz,asInt,asIntOf,h64,hmb,hnr,h63',h48,hmz,hm0,hn,Question.forced,hold,newRow,grownCap]
 intro h
 omega
end
set_option maxRecDepth 10000
set_option maxHeartbeats 2000000
def R0{t:Nat}{s:SV}(h:(sp n [(6,x)] H).tmps[t]? =some s):s=.undef\/(t=6/\s=x):=by
 have key: ∀(n t0:Nat) (t:Nat) (s:SV),(va [(6,x)] n t0)[t]? =some s->s=.undef\/(t+t0=6/\s=x):=by
  intro n
  induction n with
  |zero=>intro t0 t s h;simp[va]at h
  |succ n ih=>
   intro t0 t s h
   simp only[va]at h
   split at h
   .rename_i e
    cases t with
    |zero=>simp at h;exact .inr ⟨ω,h.symm⟩
    |succ t=>
     simp only[k_8]at h
     refine .inl ?_
     have e2: ∀(n t0 t:Nat) (s:SV),(va [] n t0)[t]? =some s->s=.undef:=by
      intro n
      induction n with
      |zero=>intro t0 t s h;simp[va]at h
      |succ n ih=>intro t0 t s h;cases t with
       |zero=>simp[va]at h;exact h.symm
       |succ t=>simp only[va,k_8]at h;exact ih _ _ _ h
     exact e2 _ _ _ _ h
   .cases t with
    |zero=>simp at h;exact .inl h.symm
    |succ t=>
     simp only[k_8]at h
     rcases ih (t0+1) t s h with e|⟨e1,e2⟩
     .exact .inl e
     .exact .inr ⟨ω,e2⟩
 rcases key n 0 t s h with e|⟨e1,e2⟩
 .exact .inl e
 .exact .inr ⟨ω,e2⟩
structure AV(N:Nat)(a:Act)(m:List (Nat×Value)):Prop where
 sz:a.tmps.size=N
 df:a.defers=[]
 ev: ∀t v,m.lookup t=some v->a.eval (.tmp t)=v
def AV.add{N t:Nat}{a:Act}{m:List (Nat×Value)}{v:Value}(h:AV N a m)(e:a.eval (.tmp t)=v):AV N a ((t,v)::m):=⟨h.sz,h.df,λs u hs=>by
 rw[List.lookup_cons]at hs
 split at hs
 .rename_i c;rw[beq_iff_eq]at c;cases hs;rw[c];exact e
 .exact h.ev _ _ hs⟩
def AV.put{N d:Nat}{a:Act}{m:List (Nat×Value)}{v:Value}(h:AV N a m)(hd:d<N):AV N (a.put (some d) v) ((d,v)::m):=⟨by rw[nI,h.sz],by simpa[yL]using h.df,λs u hs=>by
 rw[List.lookup_cons]at hs
 split at hs
 .rename_i c;rw[beq_iff_eq]at c;cases hs;rw[c];exact qt (by rw[h.sz];exact hd)
 .rename_i c;rw[ka (by rintro rfl;simp at c)];exact h.ev _ _ hs⟩
def PV(P:Program)(N:Nat)(m:List (Nat×Value))(op:Op)(v:Value):Prop:= ∀a,AV N a m-> ∀(o:Oper) (ty:TypeId) (w:World),(execOp a.eval {o with op:=op,type:=ty}).run P w=.ok (.value v) w
abbrev iN(p:Nat):Value:=.int .i64 (p:Int)
abbrev sV(k off l c:Nat):Value:=.slice (some ⟨k,off,none⟩) l c
section
variable {P:Program} {N:Nat} {m:List (Nat×Value)} {s t:Nat} {I J T e:TypeId} {p q:Nat}
def PV.mv{v:Value}(h:m.lookup s=some v):PV P N m (.move (.tmp s)) v:=λa A o ty w=>by rw[rQ,A.ev _ _ h]
def PV.as{v:Value}(h:m.lookup s=some v):PV P N m (.assign (.tmp s)) v:=λa A o ty w=>by rw[FI,A.ev _ _ h]
def PV.ad(h1:m.lookup s=some (iN p))(h2:m.lookup t=some (iN q))(h:p+q<=9223372036854775807):PV P N m (.binOp .add I (.tmp s) (.tmp t) J) (iN (p+q)):=λa A o ty w=>by
 rw[Tm (A.ev _ _ h1) (A.ev _ _ h2) (by constructor<;>omega),iN,Int.natCast_add]
def PV.sb(h1:m.lookup s=some (iN p))(h2:m.lookup t=some (iN q))(h:q<=p/\p<=9223372036854775807):PV P N m (.binOp .sub I (.tmp s) (.tmp t) J) (iN (p - q)):=λa A o ty w=>by
 rw[Ti (A.ev _ _ h1) (A.ev _ _ h2) (by constructor<;>omega),iN,Int.ofNat_sub h.1]
def PV.gt(h1:m.lookup s=some (iN p))(h2:m.lookup t=some (iN q)):PV P N m (.binOp .gtr I (.tmp s) (.tmp t) J) (.bool (decide (q<p))):=λa A o ty w=>by
 rw[Tk (A.ev _ _ h1) (A.ev _ _ h2)];simp
def PV.nt(h:m.lookup s=some (.bool b)):PV P N m (.unOp .not I (.tmp s)) (.bool !b):=λa A o ty w=>Tj (A.ev _ _ h)
def PV.cp{l:Nat}(hT:P.underlying T=some (.slice e))(h:m.lookup s=some (sV k off l c)):PV P N m (.call ⟨.builtin .cap,#[.tmp s],#[T]⟩) (iN c):=λa A o ty w=>Tl hT (A.ev _ _ h)
def PV.hi{l:Nat}(hT:P.underlying T=some (.slice e))(hn:P.cellsOf e≠0)(h1:m.lookup s=some (sV k off l c))(h2:m.lookup t=some (iN p))(h:p<=c):PV P N m (.slice T (.tmp s) none (some (.tmp t)) none) (sV k off p c):=λa A o ty w=>by
 rw[Lu hT hn (A.ev _ _ h1) (A.ev _ _ h2) ω ω];rfl
def PV.lo{l:Nat}(hT:P.underlying T=some (.slice e))(hn:P.cellsOf e≠0)(hc:P.cellsOf e=n)(h1:m.lookup s=some (sV k off l c))(h2:m.lookup t=some (iN p))(h:p<=l/\p<c):PV P N m (.slice T (.tmp s) (some (.tmp t)) none none) (sV k (off+p * n) (l - p) (c - p)):=λa A o ty w=>by
 rw[Lt hT hn (A.ev _ _ h1) (A.ev _ _ h2) ω ω,hc];rw[show((p:Int)).toNat=p by omega,if_neg ω]
def SH(l:List Oper)(r:List (Nat×Op)):Prop:=l.map (λo=>(o.dst,o.op,o.guard))=r.map λp=>(some p.1,p.2,none)
def SH.cons{l:List Oper}{d:Nat}{op:Op}{r:List (Nat×Op)}(h:SH l ((d,op)::r)): ∃o l',l=o::l'/\ie o (some d) op/\SH l' r:=by
 cases l with
 |nil=>cases h
 |cons o l'=>
  unfold SH at h
  simp only[h_3,List.cons.injEq,g_8]at h
  exact⟨o,l',rfl,h.1,h.2⟩
def SH.cut{l:List Oper}{r:List (Nat×Op)}(n:Nat)(h:SH l r):SH (l.take n) (r.take n)/\SH (l.drop n) (r.drop n):=by
 unfold SH at *
 simp only[List.map_take,List.map_drop,h,and_self]
variable {ops:Array Oper} {l:List Oper} {d:Nat} {op:Op} {r:List (Nat×Op)} {v:Value} {a:Act} {w w':World}
def bN{Q:Exit->Act->World->Prop}(hl:SH l ((d,op)::r))(hv:PV P N m op v)(A:AV N a m)(k: ∀l' a',SH l' r->AV N a' ((d,v)::m)->wpList P ops Q l' a' w)(hd:d<N:=by decide):wpList P ops Q l a w:=by
 obtain⟨o,l',rfl,h1,h2⟩:=hl.cons
 exact ky h1 (λty=>hv a A o ty w) (k _ _ h2 (A.put hd))
def ui{Q:Act->Prop}(hl:SH l ((d,op)::r))(hv:PV P N m op v)(A:AV N a m)(k: ∀l' a',SH l' r->AV N a' ((d,v)::m)->wpStill P ops w Q l' a')(hd:d<N:=by decide):wpStill P ops w Q l a:=by
 obtain⟨o,l',rfl,h1,h2⟩:=hl.cons
 exact mD h1 (λty=>hv a A o ty w) (k _ _ h2 (A.put hd))
def L9{Q:Exit->Act->World->Prop}(hl:SH l ((d,op)::r))(hr: ∀(o:Oper) (ty:TypeId),(execOp a.eval {o with op:=op,type:=ty}).run P w=.ok (.value v) w')(A:AV N a m)(k: ∀l' a',SH l' r->AV N a' ((d,v)::m)->wpList P ops Q l' a' w')(hd:d<N:=by decide):wpList P ops Q l a w:=by
 obtain⟨o,l',rfl,h1,h2⟩:=hl.cons
 exact ky h1 (λty=>hr o ty) (k _ _ h2 (A.put hd))
def Cw{Q:Exit->Act->World->Prop}(hl:SH l [])(h:Q .normal a w):wpList P ops Q l a w:=by
 cases l with
 |nil=>exact h
 |cons o l=>cases hl
def Rv{Q:Act->Prop}(hl:SH l [])(h:Q a):wpStill P ops w Q l a:=by
 cases l with
 |nil=>exact h
 |cons o l=>cases hl
end
def zJ{P:Program}{a:Act}{w w':World}{o:Oper}{T T2 e ty:TypeId}{x y:Operand}{k off dl dc m n cnt:Nat}{cs:Array Value}(hu:P.underlying T=some (.slice e))(hz:P.cellsOf e=n)(hn:n≠0)(hx:a.eval x=.slice (some ⟨k,off,none⟩) dl dc)
  (hl:(Builtin.lenOf (a.eval y)).run P w=.ok m w) (hcnt:Nat.min m dl=cnt) (hc:(Builtin.firstCells n cnt (a.eval y)).run P w=.ok cs w) (hs:(storeCells ⟨k,off,none⟩ cs.toList).run P w=.ok () w'):
  (execOp a.eval {o with op:=.call ⟨.builtin .copy,#[x,y],#[T,T2]⟩,type:=ty}).run P w=.ok (.value (goInt cnt)) w':=by
 subst hcnt
 exact RT hu hz hn hx hl hc hs
def HG{P:Program}{α:Type}{enc:α->D}{T I B e:TypeId}{fo:Nat}{ik:IntKind}{ti:TypeInfo}{z:Value}{zd:D}{n:Nat}{xs ys:List α}{i:Int}{H:List aN}{Q:Exit->St->Prop}{Z:Code}{i8 i9 i10 i11 i12 i13 i14 i15 i16 i17:Nat}{l8 l9 l10 l11 l12 l13 l14 l15 l16 l17:List Oper}
  (hc:(decide (0<=i)&&decide (i<xs.length)&&decide (0<ys.length)&&decide (xs.length+ys.length<=room))=true)
  (hT:P.underlying T=some (.slice e)) (hI:P.underlying I=some (.int ik)) (hi:P.info? e=some ti) (hz:ti.zero=some z) (hzd:mR z=some zd) (hzn:z.cells.size=n) (hsize:ti.size=n) (hn:0<n) (hby:ti.bytes<=65536)
  (hov: ∀(args:Array Value) (w:World),(callFunc fo args).run P w=((Extern.SlicesOverlaps.overlaps #[T,T] #[B] args).run P w).andThen λv w'=>.ok (.value v) w')
  (hq:Q .ret (sp 95 [(6,.own n ((xs.take i.toNat++ys++xs.drop i.toNat).map enc))] H))
  (hm:P.follows .mixedOrders=true:=by kernel_rfl) (hB11:Region.lexTailB .any l11.toArray 8=true:=by kernel_rfl) (hB15:Region.lexTailB .any l15.toArray 8=true:=by kernel_rfl)
  (h8:SH l8 [(26,.move (.tmp 8)),(27,.move (.tmp 7)),(28,.binOp .add I (.tmp 26) (.tmp 27) I),(29,.move (.tmp 0)),(30,.call ⟨.builtin .cap,#[.tmp 29],#[T]⟩),(31,.binOp .gtr I (.tmp 28) (.tmp 30) I)]:=by unfold SH;kernel_rfl)
  (h9:SH l9 [(32,.move (.tmp 0)),(33,.move (.tmp 1)),(34,.slice T (.tmp 32) none (some (.tmp 33)) none),(35,.move (.tmp 8)),(36,.move (.tmp 7)),(37,.binOp .add I (.tmp 35) (.tmp 36) I),(38,.move (.tmp 1)),(39,.binOp .sub I (.tmp 37) (.tmp 38) I),(40,.call ⟨.builtin .append,#[.tmp 34,.tmp 39],#[T,I]⟩),(9,.assign (.tmp 40))]:=by unfold SH;kernel_rfl)
  (h10:SH l10 [(41,.move (.tmp 9)),(42,.move (.tmp 1)),(43,.slice T (.tmp 41) (some (.tmp 42)) none none),(44,.move (.tmp 2)),(45,.call ⟨.builtin .copy,#[.tmp 43,.tmp 44],#[T,T]⟩)]:=by unfold SH;kernel_rfl)
  (h11:SH l11 [(46,.move (.tmp 9)),(47,.move (.tmp 1)),(48,.move (.tmp 7)),(49,.binOp .add I (.tmp 47) (.tmp 48) I),(50,.slice T (.tmp 46) (some (.tmp 49)) none none),(51,.move (.tmp 0)),(52,.move (.tmp 1)),(53,.slice T (.tmp 51) (some (.tmp 52)) none none),(54,.call ⟨.builtin .copy,#[.tmp 50,.tmp 53],#[T,T]⟩)]:=by unfold SH;kernel_rfl)
  (h12:SH l12 [(55,.move (.tmp 9)),(6,.assign (.tmp 55))]:=by unfold SH;kernel_rfl)
  (h13:SH l13 [(56,.move (.tmp 0)),(57,.move (.tmp 8)),(58,.move (.tmp 7)),(59,.binOp .add I (.tmp 57) (.tmp 58) I),(60,.slice T (.tmp 56) none (some (.tmp 59)) none),(0,.assign (.tmp 60))]:=by unfold SH;kernel_rfl)
  (h14:SH l14 [(61,.move (.tmp 2)),(62,.move (.tmp 0)),(63,.move (.tmp 1)),(64,.move (.tmp 7)),(65,.binOp .add I (.tmp 63) (.tmp 64) I),(66,.slice T (.tmp 62) (some (.tmp 65)) none none),(67,.call ⟨.value (.func fo),#[.tmp 61,.tmp 66],#[T,T]⟩),(68,.unOp .not B (.tmp 67))]:=by unfold SH;kernel_rfl)
  (h15:SH l15 [(69,.move (.tmp 0)),(70,.move (.tmp 1)),(71,.move (.tmp 7)),(72,.binOp .add I (.tmp 70) (.tmp 71) I),(73,.slice T (.tmp 69) (some (.tmp 72)) none none),(74,.move (.tmp 0)),(75,.move (.tmp 1)),(76,.slice T (.tmp 74) (some (.tmp 75)) none none),(77,.call ⟨.builtin .copy,#[.tmp 73,.tmp 76],#[T,T]⟩)]:=by unfold SH;kernel_rfl)
  (h16:SH l16 [(78,.move (.tmp 0)),(79,.move (.tmp 1)),(80,.slice T (.tmp 78) (some (.tmp 79)) none none),(81,.move (.tmp 2)),(82,.call ⟨.builtin .copy,#[.tmp 80,.tmp 81],#[T,T]⟩)]:=by unfold SH;kernel_rfl)
  (h17:SH l17 [(83,.move (.tmp 0)),(6,.assign (.tmp 83))]:=by unfold SH;kernel_rfl):
  SW P true (.seq (.seq (.region i8 l8.toArray false) (.cond (.tmp 31) (.seq (.region i9 l9.toArray false) (.seq (.region i10 l10.toArray false) (.seq (.region i11 l11.toArray true) (.seq (.region i12 l12.toArray false) .ret)))) .skip)) (.seq (.region i13 l13.toArray false) (.seq (.seq (.region i14 l14.toArray false) (.cond (.tmp 68) (.seq (.region i15 l15.toArray true) (.seq (.region i16 l16.toArray false) (.seq (.region i17 l17.toArray false) .ret))) .skip)) Z))) (sp 95 [(0,.own n (xs.map enc)),(1,vI i),(2,.d (.list n (ys.map enc))),(7,vI ys.length),(8,vI xs.length)] H) Q:=by
 rw[<-k_0 (f:=enc) (as:=xs),<-k_0 (f:=enc) (as:=ys)]at hc ⊢
 simp only[j_9,List.map_take,List.map_drop]at hq
 generalize xs.map enc=xs at *
 generalize ys.map enc=ys at *
 intro a w g hr
 simp only[g_3,decide_eq_true_eq]at hc
 obtain⟨⟨⟨i0,il⟩,m0⟩,hroom⟩:=hc
 obtain⟨i,rfl⟩: ∃p:Nat,i=(p:Int):=⟨i.toNat,ω⟩
 simp only[w_6]at hq
 have il:i<xs.length:=by omega
 unfold room at hroom
 have hce:P.cellsOf e=n:=by simp[Program.cellsOf,hi,hsize]
 have hn0:P.cellsOf e≠0:=by omega
 have hsz:a.tmps.size=95:=by rw[hr.len];simp[sp,mX]
 have g0:cy g w (.slot 0) (valOf a 0) n xs:=hr.tmp 0 (.own n xs) rfl
 have e1:a.eval (.tmp 1)=.int .i64 (i:Int):=cg hr (d:=.int .i64 (i:Int)) rfl rfl
 have e7:a.eval (.tmp 7)=.int .i64 (ys.length:Int):=cg hr (d:=.int .i64 (ys.length:Int)) rfl rfl
 have e8:a.eval (.tmp 8)=.int .i64 (xs.length:Int):=cg hr (d:=.int .i64 (xs.length:Int)) rfl rfl
 rcases g0 with⟨rfl,-⟩|⟨k,off,cap,c,T0,us,hv,hk,hb,hl,hzz,hw,hcc,hrr⟩
 .simp at il
 have e0:a.eval (.tmp 0)=.slice (some ⟨k,off,none⟩) xs.length cap:=hv
 rcases(hr.tmp 2 (.d (.list n ys)) rfl:Rd g w (valOf a 2) (.list n ys)).toList with⟨rfl,-⟩|⟨kv,ov,cv,av,Tv,fz,uv,hv2,hk2,hb2,hl2,hw2,hcc2,hrr2⟩
 .simp at m0
 have e2:a.eval (.tmp 2)=.slice (some ⟨kv,ov,none⟩) ys.length cv:=hv2
 have hkv:g.ow kv=.free:=lR.1 hk2
 have hne:kv≠k:=by rintro rfl;rw[hk]at hkv;cases hkv
 have hdef:=hr.dS
 have flx:=pz (g:=g) (w:=w) (k:=k) (T:=T0) (o:=.slot 0) hn rfl hl hzz hw hcc hrr
 have Uz:ov+ys.length * n<=av.size:=by
  have hx:ys[ys.length - 1]? =some ys[ys.length - 1]:=by simp[m0]
  have hcl:=hw2 _ _ hx
  obtain⟨h1,-⟩:=hcc2 _ _ hx (n - 1) (ys[ys.length - 1].cells[n - 1]' ω) ψ
  have:=pb h1
  have h2:ys.length * n=(ys.length - 1) * n+n:=by
   obtain⟨m,hm⟩: ∃m,ys.length=m+1:=⟨ys.length - 1,ω⟩
   rw[hm,Nat.add_sub_cancel,v_9]
  omega
 have fly:je g w (av.extract ov (ov+ys.length * n)) n ys:=by
  refine⟨by simp[p_7 Uz],hw2,λp x hx j y hy=>⟨uv p j,?_,hrr2 p x hx j y hy,(hcc2 p x hx j y hy).2⟩⟩
  have hj:j<n:=by rw[<-hw2 p x hx];exact aU hy
  have:=aU hx
  have:(p+1) * n<=ys.length * n:=h_7 _ this
  rw[v_9]at this
  rw[k_5,if_pos ω,<-Nat.add_assoc]
  exact(hcc2 p x hx j y hy).1
 have hin:i * n+(xs.length - i) * n=xs.length * n:=by rw[<-v_0];congr 1;omega
 have hcapn:xs.length * n<=cap * n:=h_7 _ hl
 have hmn:0<ys.length * n:=Nat.mul_pos m0 hn
 let zs:=xs.take i++ys++xs.drop i
 have hzl:zs.length=xs.length+ys.length:=by simp[zs];omega
 have flz:je g w ((c.extract off (off+xs.length * n)).extract 0 (i * n)++av.extract ov (ov+ys.length * n)++(c.extract off (off+xs.length * n)).extract (i * n) (xs.length * n)) n zs:=((flx.take ω).append fly).append (flx.drop ω)
 have hf1:((c.extract off (off+xs.length * n)).extract 0 (i * n)).size=i * n:=by rw[(flx.take (i:=i) ω).1,List.length_take,p_7 ω]
 have hf2:(av.extract ov (ov+ys.length * n)).size=ys.length * n:=fly.1
 have hflat: ∀q,q<zs.length * n->((c.extract off (off+xs.length * n)).extract 0 (i * n)++av.extract ov (ov+ys.length * n)++(c.extract off (off+xs.length * n)).extract (i * n) (xs.length * n))[q]? =if q<i * n then c[off+q]? else if q<i * n+ys.length * n then av[ov+(q - i * n)]? else c[off+(q - ys.length * n)]? :=λq hq=>by
  rw[hzl,v_0]at hq
  have hszF:=flx.1
  split
  .rw[Array.append_assoc,v_6 ω,k_5,if_pos ω,k_5,if_pos ω]
   congr 1;omega
  .split
   .rw[Array.append_assoc,q_0 ω,hf1,v_6 ω,k_5,if_pos ω]
   .rw[Array.append_assoc,q_0 ω,hf1,q_0 ω,hf2,k_5,if_pos ω,k_5,if_pos ω]
    congr 1;omega
 have fin: ∀(a':Act) (w':World) (g':Gh) (v:Value),a'.tmps.size=95->a'.defers=[]->a'.eval (.tmp 6)=v->cy g' w' (.slot 6) v n zs->(∀o,o≠.bN (.slot 0)->aO o g w g' w')->g'.ρ=g.ρ->w.heap.size<=w'.heap.size->fK w w'-> ∃st' g',Q .ret st'/\Rel st' a' w' g'/\Fr true g w g' w':=λa' w' g' v h1 h2 h3 h4 h5 h6 h7 h8=>by
  refine⟨_,g',hq,⟨by rw[h1];simp[sp,mX],h2,λt s hs=>?_,?_⟩,lD (l:=.slot 0) ψ h7 h5 h6 h8⟩
  .rcases R0 hs with rfl|⟨rfl,rfl⟩
   .trivial
   .show cy g' w' (.slot 6) (a'.eval (.tmp 6)) n zs
    rw[h3];exact h4
  .exact hr.hp.bg (λo ho=>h5 o λe=>by subst e;exact ho.elim) (λ_ _ h=>by rw[h6];exact h) (by rw[h6])
 have A:AV 95 a [(0,sV k off xs.length cap),(1,iN i),(2,sV kv ov ys.length cv),(7,iN ys.length),(8,iN xs.length)]:=(((((⟨hsz,hdef,nofun⟩:AV 95 a []).add e8).add e7).add e2).add e1).add e0
 have him:(i+ys.length) * n=i * n+ys.length * n:=v_0 _ _ _
 have htl:(c.extract (off+i * n) (off+i * n+(xs.length - i) * n)).size=(xs.length - i) * n:=by simp;omega
 have hone1: ∀v∈(c.extract (off+i * n) (off+i * n+(xs.length - i) * n)).toList,v.oneCell'=true:=by
  have:=flx.one
  intro v hv
  refine this v ?_
  simp only[Array.mem_toList_iff,Array.mem_extract_iff_getElem]at hv ⊢
  obtain⟨q,hq1,rfl⟩:=hv
  exact⟨i * n+q,ω,by congr 1;omega⟩
 refine wp_seq (wp_seq (wp_region_lit (bN h8 (.mv rfl) A λl a h A=>bN h (.mv rfl) A λl a h A=>bN h (.ad rfl rfl ω) A λl a h A=>bN h (.mv rfl) A λl a h A=>bN h (.cp hT rfl) A λl a h A=>bN h (.gt rfl rfl) A λl a h A=>Cw h (wp_cond (A.ev 31 _ rfl) ?_))))
 by_cases hroomy:xs.length+ys.length<=cap
 .rw[decide_eq_false ω]
  refine wp_skip (wp_seq (wp_region_lit (bN h13 (.mv rfl) A λl a h A=>bN h (.mv rfl) A λl a h A=>bN h (.mv rfl) A λl a h A=>bN h (.ad rfl rfl ω) A λl a h A=>bN h (.hi hT hn0 rfl rfl hroomy) A λl a h A=>bN h (.as rfl) A λl a h A=>Cw h ?_)))
  refine wp_seq (wp_seq (wp_region_lit (bN h14 (.mv rfl) A λl a h A=>bN h (.mv rfl) A λl a h A=>bN h (.mv rfl) A λl a h A=>bN h (.mv rfl) A λl a h A=>bN h (.ad rfl rfl ω) A λl a h A=>bN h (.lo hT hn0 hce rfl rfl ⟨ω,ω⟩) A λl a h A=>L9 h (v:=.bool false) (w':=w) (λo ty=>?_) A λl a h A=>bN h (.nt rfl) A λl a h A=>Cw h (wp_cond_true (A.ev 68 _ rfl) ?_))))
  .rw[PX,hov,A.ev 61 _ rfl,A.ev 66 _ rfl,Ep (P:=P) (T:=T) (ps:= #[T,T]) (rs:= #[B]) rfl hT hn0 hb2 hb hne m0 ω ω]
   rfl
  have hbd:w.drew.heap[k]? =some (.cells c T0 (0,0)):=hb
  have hcapM:(xs.length+ys.length) * n<=cap * n:=h_7 _ hroomy
  rw[v_0]at hcapM
  refine wp_seq (wp_region_still_tail 8 hm hB15 (ui (h15.cut 8).1 (.mv rfl) A λl a h A=>ui h (.mv rfl) A λl a h A=>ui h (.mv rfl) A λl a h A=>ui h (.ad rfl rfl ω) A λl a h A=>ui h (.lo hT hn0 hce rfl rfl ⟨ω,ω⟩) A λl a h A=>ui h (.mv rfl) A λl a h A=>ui h (.mv rfl) A λl a h A=>ui h (.lo hT hn0 hce rfl rfl ⟨ω,ω⟩) A λl a h A=>Rv h ?_))
  obtain⟨w1,q1,q2,q3,c1,q4,q5,q6⟩:=cm (P:=P) k (off+(i+ys.length) * n) T0 (c.extract (off+i * n) (off+i * n+(xs.length - i) * n)).toList 0 c w.drew hbd (by simp only[p_5,htl];omega) hone1
  have osw1:=cK (P:=P) k (off+(i+ys.length) * n) T0 (c.extract (off+i * n) (off+i * n+(xs.length - i) * n)).toList 0 c w.drew w1 hbd (by simp only[p_5,htl];omega) hone1 q1
  refine L9 (h15.cut 8).2 (v:=goInt (xs.length - i:Nat)) (w':=w1) (λo ty=>?_) A λl a h A=>Cw h ?_
  .refine zJ (m:=xs.length+ys.length - i) (cs:=c.extract (off+i * n) (off+i * n+(xs.length - i) * n)) hT hce ω (A.ev 73 _ rfl) (by rw[A.ev 76 _ rfl];rfl) ((Nat.min_eq_right ω).trans ω) ?_ q1
   rw[A.ev 76 _ rfl]
   exact jR (P:=P) hbd ω
  have hb2':w1.heap[kv]? =some (.cells av Tv fz):=by rw[q3 kv hne];exact hb2
  obtain⟨w2,p1,p2,p3,c2,p4,p5,p6⟩:=cm (P:=P) k (off+i * n) T0 (av.extract ov (ov+ys.length * n)).toList 0 c1 w1 q4 (by simp only[p_5,hf2];omega) fly.one
  have osw2:=cK (P:=P) k (off+i * n) T0 (av.extract ov (ov+ys.length * n)).toList 0 c1 w1 w2 q4 (by simp only[p_5,hf2];omega) fly.one p1
  refine wp_seq (wp_region_lit (bN h16 (.mv rfl) A λl a h A=>bN h (.mv rfl) A λl a h A=>bN h (.lo hT hn0 hce rfl rfl ⟨ω,ω⟩) A λl a h A=>bN h (.mv rfl) A λl a h A=>L9 h (v:=goInt ys.length) (w':=w2) (λo ty=>?_) A λl a h A=>Cw h ?_))
  .refine zJ (m:=ys.length) (cs:=av.extract ov (ov+ys.length * n)) hT hce ω (A.ev 80 _ rfl) (by rw[A.ev 81 _ rfl];rfl) (p_7 ω) ?_ p1
   rw[A.ev 81 _ rfl]
   exact jR (P:=P) hb2' Uz
  refine wp_seq (wp_region_lit (bN h17 (.mv rfl) A λl a h A=>bN h (.as rfl) A λl a h A=>Cw h (wp_ret ?_)))
  have hk2: ∀o,o≠.bN (.slot 0)->aO o g w (g.br (Ge (.slot 0) (.slot 6))) w2:=λo ho k' b' h1 h2=>by
   have hkk:k'≠k:=by rintro rfl;exact ho (h1.symm.trans hk)
   exact⟨by simp only[Gh.br,h1];exact eR ho,by rw[p3 k' hkk,q3 k' hkk];exact h2⟩
  refine fin _ w2 (g.br (Ge (.slot 0) (.slot 6))) (sV k off (xs.length+ys.length) cap) A.sz A.df (A.ev 6 _ rfl) ?_ hk2 rfl (by rw[p2,q2];exact h_0 _) (osw1.trans osw2)
  rw[<-hzl]
  refine tW flz p4 (by simp[Gh.br,hk,se]) ω (by rw[p5,q5];exact hzz) (λq hq=>?_) (hk2 _ ψ) (λ_ _ h=>h)
  rw[hflat q hq]
  rw[hzl,v_0]at hq
  rw[p6,q6]
  simp only[p_5,hf2,htl]
  by_cases z1:q<i * n
  .rw[if_neg ω,if_neg ω,if_pos z1]
  .by_cases z2:q<i * n+ys.length * n
   .rw[if_pos ω,if_neg z1,if_pos z2,w_1,k_5,if_pos ω]
    congr 1;omega
   .rw[if_neg ω,if_pos ω,if_neg z1,if_neg z2,w_1,k_5,if_pos ω]
    congr 1;omega
 .rw[decide_eq_true ω]
  refine wp_seq (wp_region_lit (bN h9 (.mv rfl) A λl a h A=>bN h (.mv rfl) A λl a h A=>bN h (.hi hT hn0 rfl rfl ω) A λl a h A=>bN h (.mv rfl) A λl a h A=>bN h (.mv rfl) A λl a h A=>bN h (.ad rfl rfl ω) A λl a h A=>bN h (.mv rfl) A λl a h A=>bN h (.sb rfl rfl ω) A λl a h A=>?_))
  have hbd:w.drew.heap[k]? =some (.cells c T0 (0,0)):=hb
  have hneed:i+(xs.length+ys.length - i)=xs.length+ys.length:=by omega
  have hby2:(xs.length+ys.length) * ti.bytes<=140737488355328:=v_2 (Nat.mul_le_mul hroom hby) (by decide)
  obtain⟨gc,hgc,happ⟩:=vD (P:=P) (w:=w) (m:=xs.length+ys.length - i) (sLen:=i) (sCap:=cap) (base:=some ⟨k,off,none⟩) (z:=z) (ti:=ti) (olds:=c.extract off (off+i * n)) (A.ev 34 _ rfl) (A.ev 39 _ rfl) hT hI hi hz ω (by
   rw[hsize]
   simp only[Builtin.firstCells]
   exact jR (P:=P) hbd ω) ω ω (by unfold maxLen;omega) (by rw[hneed];exact hby2)
  rw[hneed]at hgc happ
  generalize hC:c.extract off (off+i * n)++Builtin.zeroCells z.cells (xs.length+ys.length - i)++Builtin.zeroCells z.cells (gc - (xs.length+ys.length))=C0 at happ
  have hC0:C0.size=gc * n:=by
   rw[<-hC]
   simp only[Array.size_append,size_zeroCells,hzn,Array.size_extract]
   have h1:i * n+((xs.length+ys.length - i) * n+(gc - (xs.length+ys.length)) * n)=gc * n:=by
    rw[<-v_0,<-v_0];congr 1;omega
   omega
  have hCl: ∀q,q<i * n->C0[q]? =c[off+q]? :=λq hq=>by
   rw[<-hC,Array.append_assoc,v_6 χ,k_5,if_pos ω]
  clear hC
  have hK1:(w.drew.alloc (.cells C0 e)).heap[w.heap.size]? =some (.cells C0 e (0,0)):=heap_alloc w.drew _
  have hold: ∀(k':Nat) (b':Obj),w.heap[k']? =some b'->k'≠w.heap.size/\(w.drew.alloc (.cells C0 e)).heap[k']? =some b':=λk' b' h=>⟨by have:=pb h;omega,(aO.alloc (o':=g.ow k') (g:=g) (w:=w.drew) (o:=.cells C0 e) (t:=.free) k' b' rfl h).2⟩
  generalize hW:w.drew.alloc (.cells C0 e)=w1 at happ hK1 hold
  have hw1s:w.heap.size<=w1.heap.size:=by rw[<-hW];simp
  have hos1:fK w w1:=by rw[<-hW];exact⟨rfl,rfl⟩
  generalize hKK:w.heap.size=K at happ hK1 hold hw1s
  refine L9 h (w':=w1) happ A λl a h A=>bN h (.as rfl) A λl a h A=>Cw h ?_
  have hb2':w1.heap[kv]? =some (.cells av Tv fz):=(hold kv _ hb2).2
  have hKkv:kv≠K:=(hold kv _ hb2).1
  have hKk:k≠K:=(hold k _ hb).1
  have hgcn:(xs.length+ys.length) * n<=gc * n:=h_7 _ hgc
  rw[v_0]at hgcn
  obtain⟨w2,p1,p2,p3,c2,p4,p5,p6⟩:=cm (P:=P) K (0+i * n) e (av.extract ov (ov+ys.length * n)).toList 0 C0 w1 hK1 (by simp only[p_5,hf2];omega) fly.one
  have osw2:=cK (P:=P) K (0+i * n) e (av.extract ov (ov+ys.length * n)).toList 0 C0 w1 w2 hK1 (by simp only[p_5,hf2];omega) fly.one p1
  refine wp_seq (wp_region_lit (bN h10 (.mv rfl) A λl a h A=>bN h (.mv rfl) A λl a h A=>bN h (.lo hT hn0 hce rfl rfl ⟨ω,ω⟩) A λl a h A=>bN h (.mv rfl) A λl a h A=>L9 h (v:=goInt ys.length) (w':=w2) (λo ty=>?_) A λl a h A=>Cw h ?_))
  .refine zJ (m:=ys.length) (cs:=av.extract ov (ov+ys.length * n)) hT hce ω (A.ev 43 _ rfl) (by rw[A.ev 44 _ rfl];rfl) (p_7 ω) ?_ p1
   rw[A.ev 44 _ rfl]
   exact jR (P:=P) hb2' Uz
  refine wp_seq (wp_region_still_tail 8 hm hB11 (ui (h11.cut 8).1 (.mv rfl) A λl a h A=>ui h (.mv rfl) A λl a h A=>ui h (.mv rfl) A λl a h A=>ui h (.ad rfl rfl ω) A λl a h A=>ui h (.lo hT hn0 hce rfl rfl ⟨ω,ω⟩) A λl a h A=>ui h (.mv rfl) A λl a h A=>ui h (.mv rfl) A λl a h A=>ui h (.lo hT hn0 hce rfl rfl ⟨ω,ω⟩) A λl a h A=>Rv h ?_))
  have hbd2:w2.drew.heap[k]? =some (.cells c T0 (0,0)):=by
   show w2.heap[k]? =_
   rw[p3 k hKk];exact(hold k _ hb).2
  obtain⟨w3,q1,q2,q3,c3,q4,q5,q6⟩:=cm (P:=P) K (0+(i+ys.length) * n) e (c.extract (off+i * n) (off+i * n+(xs.length - i) * n)).toList 0 c2 w2.drew p4 (by simp only[p_5,htl];omega) hone1
  have osw3:=cK (P:=P) K (0+(i+ys.length) * n) e (c.extract (off+i * n) (off+i * n+(xs.length - i) * n)).toList 0 c2 w2.drew w3 p4 (by simp only[p_5,htl];omega) hone1 q1
  refine L9 (h11.cut 8).2 (v:=goInt (xs.length - i:Nat)) (w':=w3) (λo ty=>?_) A λl a h A=>Cw h ?_
  .refine zJ (m:=xs.length - i) (cs:=c.extract (off+i * n) (off+i * n+(xs.length - i) * n)) hT hce ω (A.ev 50 _ rfl) (by rw[A.ev 53 _ rfl];rfl) (by rw[show xs.length+ys.length - (i+ys.length)=xs.length - i by omega];exact Nat.min_self _) ?_ q1
   rw[A.ev 53 _ rfl]
   exact jR (P:=P) hbd2 ω
  refine wp_seq (wp_region_lit (bN h12 (.mv rfl) A λl a h A=>bN h (.as rfl) A λl a h A=>Cw h (wp_ret ?_)))
  have hk3: ∀o,aO o g w (g.xe K (.bN (.slot 6))) w3:=λo k' b' h1 h2=>by
   obtain⟨hkk,h3⟩:=hold k' b' h2
   refine⟨by rw[uO _ _ hkk];exact h1,?_⟩
   rw[q3 k' hkk]
   show w2.heap[k']? =_
   rw[p3 k' hkk];exact h3
  refine fin _ w3 (g.xe K (.bN (.slot 6))) (sV K 0 (xs.length+ys.length) gc) A.sz A.df (A.ev 6 _ rfl) ?_ (λo _=>hk3 o) rfl (by rw[q2];show _<=w2.heap.size;rw[p2,hKK];exact hw1s) (hos1.trans (osw2.trans osw3))
  rw[<-hzl]
  refine tW flz q4 ψ ω (by rw[q5,p5,hC0];omega) (λq hq=>?_) (hk3 _) (λ_ _ h=>h)
  rw[hflat q hq]
  rw[hzl,v_0]at hq
  rw[q6,p6]
  simp only[p_5,hf2,htl]
  by_cases z1:q<i * n
  .rw[if_neg ω,if_neg ω,if_pos z1,hCl _ ω]
   congr 1;omega
  .by_cases z2:q<i * n+ys.length * n
   .rw[if_neg ω,if_pos ω,if_neg z1,if_pos z2,w_1,k_5,if_pos ω]
    congr 1;omega
   .rw[if_pos ω,if_neg z1,if_neg z2,w_1,k_5,if_pos ω]
    congr 1;omega
section
variable {P:Program} {pu:Bool} {st:St} {ops:Array Oper} {k m:Nat} {Q:St->Prop}
def Rl(P:Program)(ops:Array Oper)(k:Nat)(st:St):Option (Option Tmp×List D×Int×Int×Int):=
 match fR ops k st with
 |some o=>match o.op with
  |.slice T x (some lo) (some hi) (some mx)=>match(match cx st x with|some (.str _)=>none|_=>kY st x),fJ st lo,fJ st hi,fJ st mx with
   |some (_,_,xs),some (_,i),some (_,j),some (_,mm)=>if fy P T !=0 then some (o.dst,xs,i,j,mm)else none
   |_,_,_,_=>none
  |_=>none
 |none=>none
def Iu{α:Type}{enc:α->D}{xs:List α}{d:Option Tmp}{i j mm:Int}(hc:(decide (0<=i)&&decide (i<=j)&&decide (j<=mm)&&decide (mm<=xs.length))=true)(h:Rl P ops k st=some (d,xs.map enc,i,j,mm):=by kernel_rfl):pP P ops k st d .undef:=by
 simp only[g_3,decide_eq_true_eq]at hc
 obtain⟨⟨⟨h0,h1⟩,h2⟩,h3⟩:=hc
 unfold Rl at h
 split at h
 .rename_i o ho
  split at h
  .rename_i T x lo hi mx hop
   split at h
   .rename_i l n xs' ik i' jk j' mk mm' hl hi' hj' hm'
    split at h
    .rename_i hw
     simp only[g_2,g_8]at h
     obtain⟨rfl,rfl,rfl,rfl,rfl⟩:=h
     obtain⟨g1,g2⟩:=bo ho
     refine⟨o,g1,g2,λa w g hr=>?_,rfl,rfl⟩
     have hx:kY st x=some (l,n,xs.map enc):=by
      split at hl
      .cases hl
      .exact hl
     have hL:=gD hr hx
     have ev: ∀{y:Operand} {kk:IntKind} {q:Int},fJ st y=some (kk,q)->a.eval y=.int kk q:=λh=>by
      unfold fJ at h
      split at h
      .rename_i k1 n1 hv1
       cases h
       exact cg hr hv1 rfl
      .cases h
     have e1:=ev hi'
     have e2:=ev hj'
     have e3:=ev hm'
     obtain⟨base,len,cap,hv,hlen⟩: ∃base len cap,a.eval x=.slice base len cap/\xs.length<=cap:=by
      rcases hL with⟨hn,b0,cap,hv⟩|⟨kb,off,cap,c,T0,fz,us,hv,-,-,hp,-⟩
      .rw[q_6]at hn;subst hn;exact⟨b0,0,cap,hv,ψ⟩
      .exact⟨_,_,cap,hv,by simpa using hp⟩
     unfold fy at hw
     split at hw
     .rename_i e hu
      have hz:P.cellsOf e≠0:=by simpa using hw
      refine⟨.slice (if mm'.toNat=i'.toNat+(mm'.toNat - i'.toNat)/\mm'.toNat=i'.toNat then base else base.map (·.add (i'.toNat * P.cellsOf e))) (j'.toNat - i'.toNat) (mm'.toNat - i'.toNat),trivial,λw' _=>?_⟩
      unfold execOp;rw[hop]
      show(do pure (.value (<-Instr.sliceAt T (a.eval x) (some (a.eval lo)) (some (a.eval hi)) (some (a.eval mx)))):Sem Next).run P w'=_
      have c1:mm'<=(cap:Int):=by omega
      have c2:0<=mm':=by omega
      have c3:0<=j':=by omega
      have c4:j'<=max mm' 0:=by omega
      have c5:i'<=max j' 0:=by omega
      simp[hv,e1,e2,e3,Instr.sliceAt,Instr.slice,Instr.sliceBounds,Instr.sliceBound,asIntOf,run_underlying hu,c1,c2,c3,c4,c5,h0,gh hz]
      by_cases hq:mm'.toNat=i'.toNat
      .rw[if_pos hq,if_pos ⟨ω,hq⟩]
      .rw[if_neg hq,if_neg (λh=>hq h.2)]
     .simp at hw
    .cases h
   .cases h
  .cases h
 .cases h
end
def I9{α ρ:Type}[DecidableEq ρ](xs:List α)(f:Bool->Option ρ):Option ρ:=bif xs.isEmpty then(if f true=f false then f true else none)else f false
def sq{α ρ:Type}[DecidableEq ρ]{xs:List α}{f:Bool->Option ρ}{r:ρ}(h:I9 xs f=some r)(b:Bool)(hb:b=true->xs=[]):f b=some r:=by
 unfold I9 at h
 cases hx:xs.isEmpty with
 |true=>
  rw[hx]at h
  simp only[cond_true]at h
  split at h
  .rename_i e;cases b
   .rw[<-e];exact h
   .exact h
  .cases h
 |false=>
  rw[hx]at h
  cases b with
  |false=>exact h
  |true=>have:=hb rfl;subst this;simp at hx
def HH{P:Program}{pu:Bool}{st:St}{α:Type}{enc:α->D}{id id2:Nat}{o1 o2 o3 o4 o5 o6 o7 o8 p1 p2 p3 p4 p5 p6:Oper}{Y:Code}{T e:TypeId}{ti:TypeInfo}{z:Value}{zd:D}{n:Nat}{xs:List α}{i j:Int}{Q:Exit->St->Prop}{t1 t2 t3 t4 t5 t6 t7 s a1 a2 a3 u1 u2 u3 u4 u5:Nat}{iY:St}
  (hij:(decide (0<=i)&&decide (i<j)&&decide (j<=xs.length)&&decide (xs.length<=room))=true)
  (hm:P.follows .mixedOrders=true) (hB:Region.lexTailB .any #[o1,o2,o3,o4,o5,o6,o7,o8] 6=true)
  (h1:ie o1 (some t1) (.move (.tmp s))) (h2:ie o2 (some t2) (.move (.tmp a1))) (h3:ie o3 (some t3) (.slice T (.tmp t1) none (some (.tmp t2)) none)) (h4:ie o4 (some t4) (.move (.tmp s))) (h5:ie o5 (some t5) (.move (.tmp a2)))
  (h6:ie o6 (some t6) (.slice T (.tmp t4) (some (.tmp t5)) none none)) (h7:ie o7 (some t7) (.call ⟨.builtin .append,#[.tmp t3,.tmp t6],#[T,T]⟩)) (h8:ie o8 (some s) (.assign (.tmp t7)))
  (k1:ie p1 (some u1) (.move (.tmp s))) (k2:ie p2 (some u2) (.move (.tmp s))) (k3:ie p3 (some u3) (.call ⟨.builtin .len,#[.tmp u2],#[T]⟩)) (k4:ie p4 (some u4) (.move (.tmp a3)))
  (k5:ie p5 (some u5) (.slice T (.tmp u1) (some (.tmp u3)) (some (.tmp u4)) none)) (k6:ie p6 none (.call ⟨.builtin .clear,#[.tmp u5],#[T]⟩))
  (hN:(decide (t1<st.tmps.length)&&decide (t2<st.tmps.length)&&decide (t3<st.tmps.length)&&decide (t4<st.tmps.length)&&decide (t5<st.tmps.length)&&decide (t6<st.tmps.length)&&decide (t7<st.tmps.length))=true)
  (hN2:(decide (u1<st.tmps.length)&&decide (u2<st.tmps.length)&&decide (u3<st.tmps.length)&&decide (u4<st.tmps.length)&&decide (u5<st.tmps.length))=true)
  (hd:List.Pairwise (·≠ ·) [s,a1,a2,t1,t2,t3,t4,t5,t6,t7]) (hd2:List.Pairwise (·≠ ·) [s,a3,u1,u2,u3,u4,u5])
  (hT:P.underlying T=some (.slice e)) (hi:P.info? e=some ti) (hz:ti.zero=some z) (hzd:mR z=some zd) (hzn:z.cells.size=n) (hsize:ti.size=n) (hn:0<n) (hby:ti.bytes<=65536)
  (hs:st.tmps[s]? =some (.own n (xs.map enc))) (hi1:cx st (.tmp a1)=some (.int .i64 i)) (hj1:cx st (.tmp a2)=some (.int .i64 j))
  (hst2:((st.Bq [t1,t2,t3,t4,t5,t6,t7]).take s).put (some s) (.own n ((xs.take i.toNat++xs.drop j.toNat).map enc))=iY) (h3v:cx iY (.tmp a3)=some (.int .i64 xs.length))
  (hq:SW P pu Y (iY.Bq [u1,u2,u3,u4,u5]) Q):
  SW P pu (.seq (.region id #[o1,o2,o3,o4,o5,o6,o7,o8] true) (.seq (.region id2 #[p1,p2,p3,p4,p5,p6] false) Y)) st Q:=
 Q0 (xs:=xs.map enc) hm hB h1 h2 h3 h4 h5 h6 h7 h8 k1 k2 k3 k4 k5 k6 hN hN2 hd hd2 hT hi hz hzd hzn hsize hn hby hs hi1 hj1 (by simpa only[k_0]using hij) (by simpa only[j_9,List.map_take,List.map_drop]using hst2) (by rw[k_0];exact h3v) hq
def Fu(h: ∀(w:World) (g:Gh) (vs:Array Value),jM g w vs args->Calls P f vs w λe w'=> ∃v,e=.returned v/\w'=w/\yn g w v r):PC P f args r:=by
 intro H w g vs hA hH
 refine(h w g vs hA).mono λe w' hh=>?_
 obtain⟨v,rfl,rfl,hr⟩:=hh
 exact⟨v,g,rfl,hr,hH,Fr.refl _ _ _⟩
def jM.Tt(h:jM g w vs [vS a,vS b]):vs= #[.string (mk a),.string (mk b)]:=by
 obtain⟨h1,h2⟩:=h
 obtain⟨u0,e0,r0⟩:=h2 0 (vS a) rfl
 obtain⟨u1,e1,r1⟩:=h2 1 (vS b) rfl
 have r0:Rd g w u0 (.str a):=r0
 have r1:Rd g w u1 (.str b):=r1
 cases r0;cases r1
 grind
def Sx(fuel:Nat)(a b:List UInt8):Option Int:=some (Lib.compareBytes a b)
def QL(h:Sx fuel a b=some r)
  (hc: ∀(a b:ByteArray) (w:World),Calls P f #[.string a,.string b] w λe w'=>e=.returned (.int .i64 (Lib.compareBytes a.data.toList b.data.toList))/\w'=w):PC P f [vS a,vS b] (vI r):=by
 cases h
 refine Fu λw g vs hA=>?_
 rw[hA.Tt]
 refine(hc (mk a) (mk b) w).mono λe w' hh=>?_
 obtain⟨rfl,rfl⟩:=hh
 exact⟨_,rfl,rfl,(.int:Rd g w' _ _)⟩
section
variable {P:Program} {pu:Bool} {st:St} {ops:Array Oper}
def Dm:List Nat->Array Bool->Array Bool
 |[],l=>l
 |m::ms,l=>Dm ms (l.setIfInBounds m true)
end
def RF(P:Program)(T e:TypeId)(n:Nat):Bool:=
 match P.underlying T,P.info? e with
 |some (.slice e'),some ti=>match ti.zero with
  |some z=>e'==e&&(mR z).isSome&&z.cells.size==n&&ti.size==n&&decide (0<n)&&decide (ti.bytes<=65536)
  |none=>false
 |_,_=>false
def re(h:RF P T e n=true):
  P.underlying T=some (.slice e)/\ ∃ti z zd,P.info? e=some ti/\ti.zero=some z/\mR z=some zd/\z.cells.size=n/\ti.size=n/\0<n/\ti.bytes<=65536:=by
 unfold RF at h
 split at h
 .rename_i e' ti hT hi
  split at h
  .rename_i z hz
   simp only[g_3,decide_eq_true_eq,beq_iff_eq,k_1]at h
   grind
  .cases h
 .cases h
section
variable {P:Program}
def Ut(P:Program)(T:TypeId):Bool:=match P.underlying T with|some (.map k _)=>(match P.underlying k with|some .string=>true|_=>false)|_=>false
def Jm(P:Program)(s:TypeId)(f:Nat):Bool:=match P.underlying s with
 |some (.struct fs)=>(match fs[f]? with|some fl=>((P.info? fl.type).map λi=>i.size !=0).getD false|none=>false)
 |_=>false
end
section
variable {P:Program} {ops:Array Oper} {md:Region.Mode} {R:Act->World->Prop}
end
section
variable {P:Program} {pu:Bool} {st:St} {ops:Array Oper}
end
section
variable {P:Program} {pu:Bool} {st:St} {ops:Array Oper}
def J5{o:Oper}{a:Act}{next:Act->World->Prop}{R R':Act->World->Prop}{r:Result Next}(h:o.upon P a next (NQ R) r):o.upon P a next (NQ R') r:=by
 cases r with
 |ok n w'=>
  cases n<;>simp only[Oper.upon]at h ⊢ <;>first
   |exact h
   |(refine h.mono λe w'' hh=>?_
     cases e with
     |returned v=>exact hh
     |panicked ch=>cases hh.1
     |outgrown=>exact absurd hh NQ.out)
 |halt hh w'=>cases hh<;>simp only[Oper.upon]at h ⊢ <;>first|exact h|cases h.1
def gU(n m:Nat):Array Bool:=((List.range n).map (λi=>m.testBit i)).toArray
def qm(n m i:Nat):(gU n m).setIfInBounds i true=gU n (m|||2 ^ i):=by
 apply Array.ext_getElem?
 intro j
 simp only[gU,Array.getElem?_setIfInBounds]
 grind
def ql(n:Nat):gU n 0=Array.replicate n false:=by
 apply Array.ext_getElem?
 intro j
 by_cases hj:j<n
 .simp[gU,hj]
 .simp[gU,hj]
def gM(ops:Array Oper)(i:Nat):Array Oper:=match ops[i]? with
 |some o=> #[o]
 |none=> #[]
def OX(P:Program)(pu:Bool)(ops:Array Oper)(d m:Nat)(st st':St):Prop:=
 ∀a w g,Rel st a w g-> ∀R:Act->World->Prop,(∀a' w' g',Rel st' a' w' g'->Fr pu g w g' w'->R a' w')->wpAny P .any ops (NQ R) d (gU ops.size m) a w
def J3:List Nat->(Nat->Prop)->Prop
 |[],_=>True
 |i::r,p=>p i/\J3 r p
def xd{p:Nat->Prop}: ∀{l:List Nat},J3 l p-> ∀i∈l,p i
 |i::r,h,j,hj=>by
  rcases h_8.1 hj with rfl|hj
  .exact h.1
  .exact xd h.2 j hj
def pA(h:Region.ready .any ops (gU ops.size m)=[]):OX P pu ops 0 m st st:=
 λa w g hr R hR=>⟨h,rfl,hR a w g hr (Fr.refl _ _ _)⟩
def Ic(hg:ops.all (λo=>o.guard.isNone)=true)(h:Region.ready .any ops (gU ops.size m)=i0::is)
  (hs:J3 (i0::is) (λi=>cf P pu (gM ops i) 0 st (λs=>OX P pu ops d (m|||2 ^ i) s st'))):OX P pu ops (d+1) m st st':=by
 intro a w g hr R hR
 unfold wpAny
 rw[h]
 refine⟨λe=>(List.cons_ne_nil _ _ e).elim,λi hi=>?_⟩
 have hi':i∈Region.ready .any ops (gU ops.size m):=by rw[h];exact hi
 obtain⟨_,o,ho,_⟩:=mem_ready.1 hi'
 have h1:=xd hs i hi
 have hog:o.guard=none:=AY hg [i] o (by simp[opsOf,ho])
 simp only[gM,ho]at h1
 unfold cf at h1
 rw[q_1]at h1
 have h2:=h1 a w g hr (NQ (wpAny P .any ops (NQ R) d (gU ops.size (m|||2 ^ i)))) (λjh a1 w1 g1 q1 r1 f1=>⟨rfl,q1 a1 w1 g1 r1 R λa' w' g' r2 f2=>hR a' w' g' r2 (f1.trans f2)⟩)
 unfold wpOp
 rw[ho]
 simp only
 rw[if_pos (tz hog _)]
 unfold wpList at h2
 rw[if_pos (tz hog _)]at h2
 rcases h2 with h2|h2
 .left
  rw[qm]
  have h3:=Oper.wp_mono (K':=wpAny P .any ops (NQ R) d (gU ops.size (m|||2 ^ i))) (λa' w' hh=>(show NQ (wpAny P .any ops (NQ R) d (gU ops.size (m|||2 ^ i))) .normal a' w' from hh).2) h2
  exact J5 h3
 .exact absurd h2.2 NQ.out
def HC{id:Nat}{l:List Oper}{Q:Exit->St->Prop}{st':St}(hm:P.follows .mixedOrders=true)(h:OX P pu l.toArray l.length 0 st st')(hq:Q .normal st'):SW P pu (.region id l.toArray true) st Q:=by
 intro a w g hr
 refine Code.wp_mono (Q:=NQ λa' w'=> ∃st' g',Q .normal st'/\Rel st' a' w' g'/\Fr pu g w g' w') (λe a' w' hh=>by obtain⟨rfl,hh⟩:=hh;exact hh) ?_
 refine wp_region_any hm ?_
 have:=h a w.drew g hr.drew (λa' w'=> ∃st' g',Q .normal st'/\Rel st' a' w' g'/\Fr pu g w g' w') (λa' w' g' r f=>⟨st',g',hq,r,Fr.drew.trans f⟩)
 rw[ql]at this
 simpa using this
end
def Pe{P:Program}{pu:Bool}{st:St}{id:Nat}{l:List Oper}{Q:Exit->St->Prop}(n:Nat)(H:List aN)(ll:List (Nat×SV))(hm:P.follows .mixedOrders=true)
  (h: ∀X:Nat->Nat->St->Prop,(X=λd m s=>OX P pu l.toArray d m s (sp n ll H))->X l.length 0 st) (hq:Q .normal (sp n ll H)):SW P pu (.region id l.toArray true) st Q:=
 HC hm (h _ rfl) hq
section
variable {P:Program} {pu:Bool} {st:St} {ops:Array Oper} {Q:St->Prop} {k:Nat}
def ML(hop:o.op=.box T x)(hd:o.dst=some d)(hy:cx st x=some y):jO P pu st o (st.put (some d) (.d (.fV y.cells))):=by
 refine jO.value λa w g hr=>?_
 have e2:=cw hr hy
 obtain⟨c1,c2⟩:=e2.cells
 rw[hd]
 have hr1:Rel st a (w.alloc (.cells (a.eval x).cells T)) (g.xe w.heap.size .free):=hr.world (λ_=>aO.alloc) (λ_ _ h=>h) rfl
 have hrd:Rd (g.xe w.heap.size .free) (w.alloc (.cells (a.eval x).cells T)) (.pointer (some ⟨w.heap.size,0,none⟩)) (.fV y.cells):=by
  refine .fV (λj=>(a.eval x).cells.getD j undef) ψ (heap_alloc _ _) (λj z hj=>?_) (λj z hj=>?_)
  .obtain⟨u,u1,u2,u3⟩:=c2 j z hj
   simp_all
  .obtain⟨u,u1,u2,u3⟩:=c2 j z hj
   simp only[k_7,u1,w_9]
   exact Rd.bg aO.alloc (λ_ _ h=>h) u2
 refine⟨.pointer (some ⟨w.heap.size,0,none⟩),w.alloc (.cells (a.eval x).cells T),_,?_,hr1.cu (some d) hrd,Fr.alloc⟩
 unfold execOp;rw[hop]
 simp only[Instr.box,Sem.run_bind,newVar,newRow,run_newObj,Result.andThen_ok,Sem.run_pure]
 rfl
def TU(ops:Array Oper)(k:Nat)(st:St):Option (Nat×List D):=
 match ops[k]? with
 |some o=>match o.op,o.dst with
  |.box _ x,some d=>match cx st x with
   |some y=>if fG ops st o=some true then some (d,y.cells)else none
   |none=>none
  |_,_=>none
 |none=>none
def Cg(n:Nat)(H:List aN)(L:List Nat)(l:List (Nat×SV))(h:TU ops k st=some (d,ds))(cR:bu n L (st.put (some d) (.d (.fV ds)))=some (l,H))
  (hn:cf P pu ops (k+1) (sp n l H) Q):cf P pu ops k st Q:=by
 unfold TU at h
 split at h
 .rename_i o ho
  split at h
  .rename_i T x d' hop hd
   split at h
   .rename_i y hy
    split at h
    .rename_i hw
     cases h
     exact pO ho hw (ML hop hd hy) (da L (aL cR) hn)
    .cases h
   .cases h
  .cases h
 .cases h
end
open Go.Sort
end Go.Sh
namespace Go.Sh
section
variable {P:Program} {pu:Bool} {st:St}
end
section
variable {P:Program} {ops:Array Oper} {md:Region.Mode} {R:Act->World->Prop} {pu:Bool} {st:St}
def bM(P:Program){α:Type}(m:Sem α):Prop:= ∀w x w',m.run P w=.ok x w'->w'=w/\ ∀w2,m.run P w2=.ok x w2
def bM.pure{α:Type}(x:α):bM P (Pure.pure x:Sem α):=λw y w' h=>by
 simp_all
def bM.never{α:Type}{m:Sem α}(h: ∀w x w',m.run P w≠.ok x w'):bM P m:=λw x w' h1=>absurd h1 (h w x w')
def bM.halt{α:Type}(hh:Halt):bM P (Sem.halt hh:Sem α):=.never λw x w' h=>by simp[Sem.run]at h
def bM.bind{α β:Type}{m:Sem α}{f:α->Sem β}(h1:bM P m)(h2: ∀x,bM P (f x)):bM P (m>>=f):=λw x w' h=>by
 rw[Sem.run_bind]at h
 cases hm:m.run P w with
 |ok y w1=>
  rw[hm,Result.andThen_ok]at h
  obtain⟨rfl,a2⟩:=h1 w y w1 hm
  obtain⟨b1,b2⟩:=h2 y _ x w' h
  simp_all
 |halt y w1=>rw[hm]at h;cases h
def bM.program:bM P Go.program:=λw x w' h=>by
 simp_all
def bM.typeInfo(t:TypeId):bM P (Go.typeInfo t):=by
 unfold Go.typeInfo
 refine bM.program.bind λp=>?_
 split
 .exact .pure _
 .exact .halt _
def bM.underlying(t:TypeId):bM P (Go.underlying t):=by
 unfold Go.underlying
 refine bM.program.bind λp=>?_
 split
 .exact .pure _
 .exact .halt _
def bM.sizeOf(t:TypeId):bM P (Go.sizeOf t):=(bM.typeInfo t).bind λ_=>.pure _
def so{α:Type}: ∀w (x:α) w',(runtimePanic .nilDeref:Sem α).run P w≠.ok x w':=λw x w' h=>by
 unfold runtimePanic at h
 simp_all
def wO{α:Type}(x y:Int)(s:Bool)(c:BoundsCode): ∀w (z:α) w',(runtimePanic (.bounds x y s c):Sem α).run P w≠.ok z w':=λw z w' h=>by
 unfold runtimePanic at h
 simp_all
def bM.nilDeref{α:Type}:bM P (runtimePanic .nilDeref:Sem α):=.never so
def A8{α β:Type}{m:Sem α}{f:α->Sem β}(h: ∀y w x w',(f y).run P w≠.ok x w'): ∀w x w',(m>>=f).run P w≠.ok x w':=λw x w' h1=>by
 rw[Sem.run_bind]at h1
 cases hm:m.run P w with
 |ok y w1=>simp_all
 |halt y w1=>rw[hm]at h1;cases h1
def bM.bounds{α:Type}(k:IntKind)(x y:Int)(c:BoundsCode):bM P (boundsPanic k x y c:Sem α):=.never λw z w' h=>by
 unfold boundsPanic at h
 simp only at h
 split at h
 .exact A8 (λs=>wO _ _ _ _) _ _ _ h
 .exact A8 (λs=>wO _ _ _ _) _ _ _ h
def bM.asIntOf(v:Value):bM P (Go.asIntOf v):=by
 unfold Go.asIntOf
 split
 .exact .pure _
 .exact .halt _
 .exact .halt _
def bM.asAddr(v:Value):bM P (Go.asAddr v):=by
 unfold Go.asAddr
 split
 .exact .pure _
 .exact .nilDeref
 .exact .halt _
def bM.sureAddr(v:Value):bM P (Instr.sureAddr v):=by
 unfold Instr.sureAddr
 split
 .exact .pure _
 .exact .halt _
def bM.sliceBound(x:Value)(y:Nat)(c:BoundsCode):bM P (Instr.sliceBound x y c):=by
 unfold Instr.sliceBound
 refine(bM.asIntOf x).bind λp=>?_
 obtain⟨k,i⟩:=p
 simp only
 split
 .exact .pure _
 .exact .bounds _ _ _ _
def bM.sliceBounds(s:Bool)(len cap:Nat)(lo hi mx:Option Value):bM P (Instr.sliceBounds s len cap lo hi mx):=by
 unfold Instr.sliceBounds
 dsimp only
 repeat' first
  |exact .pure _
  |exact .halt _
  |exact .sliceBound _ _ _
  |refine bM.bind ?_ λ_=>?_
  |split
def bM.slice(t:TypeId)(x:Value)(lo hi mx:Option Value):bM P (Instr.slice t x lo hi mx):=by
 unfold Instr.slice
 dsimp only
 repeat' first
  |exact .pure _
  |exact .halt _
  |exact .underlying _
  |exact .sizeOf _
  |exact .asAddr _
  |exact .sliceBounds _ _ _ _ _ _
  |refine bM.bind ?_ λ_=>?_
  |split
def bM.sliceAt(t:TypeId)(x:Value)(lo hi mx:Option Value):bM P (Instr.sliceAt t x lo hi mx):=by
 unfold Instr.sliceAt
 dsimp only
 repeat' first
  |exact .pure _
  |exact .halt _
  |exact .underlying _
  |exact .sizeOf _
  |exact .sureAddr _
  |exact .slice _ _ _ _ _
  |exact .sliceBounds _ _ _ _ _ _
  |refine bM.bind ?_ λ_=>?_
  |split
def FC(hd:P.underlying T=some d){α:Type}{f:TypeDesc->Sem α}(h:bM P (f d)):bM P (Go.underlying T>>=f):=λw x w' h1=>by
 rw[Sem.run_bind,run_underlying hd,Result.andThen_ok]at h1
 obtain⟨a,b⟩:=h w x w' h1
 exact⟨a,λw2=>by rw[Sem.run_bind,run_underlying hd,Result.andThen_ok];exact b w2⟩
def bM.fieldAt(h:Jm P s f=true)(x:Value):bM P (Instr.fieldAt s x f):=by
 unfold Jm at h
 split at h
 .rename_i fs hs
  split at h
  .rename_i fl hf
   cases hi:P.info? fl.type with
   |none=>rw[hi]at h;cases h
   |some i=>
    rw[hi]at h
    simp only[m_4,w_9,bne_iff_ne,ne_eq]at h
    have hti: ∀w,(Go.typeInfo fl.type).run P w=.ok i w:=λw=>by
     unfold Go.typeInfo Go.program
     simp[Sem.run_bind,Sem.run,hi]
    unfold Instr.fieldAt
    refine FC hs ?_
    simp only[hf]
    refine(bM.sureAddr x).bind λa=>bM.bind ?_ λ_=>.pure _
    unfold fieldPlace
    intro w y w' h1
    simp only[Sem.run_bind,Go.sizeOf,hti,Result.andThen_ok,Sem.run_pure,h,if_false]at h1
    cases h1
    exact⟨rfl,λw2=>by simp only[Sem.run_bind,Go.sizeOf,hti,Result.andThen_ok,Sem.run_pure,h,if_false]⟩
  .cases h
 .cases h
def bM.indexAt(t:TypeId)(x ix:Value):bM P (Instr.indexAt t x ix):=by
 unfold Instr.indexAt
 dsimp only
 repeat' first
  |exact .pure _
  |exact .halt _
  |exact .underlying _
  |exact .sizeOf _
  |exact .sureAddr _
  |exact .asIntOf _
  |exact .bounds _ _ _ _
  |refine bM.bind ?_ λ_=>?_
  |split
def bM.part(t:TypeId)(cs:Array Value)(off:Nat):bM P (Go.part t cs off):=by
 unfold Go.part
 repeat' first
  |exact .pure _
  |exact .halt _
  |exact .typeInfo _
  |exact .underlying _
  |exact .sizeOf _
  |refine bM.bind ?_ λ_=>?_
  |split
def bM.followBlind: ∀(l:List FieldStep) (t:TypeId) (x:Option Value),bM P (Go.followBlind l t x)
 |[],t,x=>.pure _
 |s::rest,t,x=>by
  unfold Go.followBlind
  repeat' first
   |exact .pure _
   |exact .halt _
   |exact .underlying _
   |exact .part _ _ _
   |exact bM.followBlind rest _ _
   |refine bM.bind ?_ λ_=>?_
   |split
def bM.nilAhead: ∀(n:Nat) (t:TypeId) (v:Value) (name:String),bM P (Go.nilAhead n t v name)
 |0,t,v,name=>.pure _
 |n+1,t,v,name=>by
  unfold Go.nilAhead
  repeat' first
   |exact .pure _
   |exact .halt _
   |exact .typeInfo _
   |exact .underlying _
   |exact .followBlind _ _ _
   |exact bM.nilAhead n _ _ _
   |refine bM.bind ?_ λ_=>?_
   |split
def mU(P:Program)(o:Oper):Bool:=match o.op with
 |.move _|.slice _ _ _ _ _|.indexAddr _ _ _=>true
 |.fieldAddr s _ f=>Jm P s f
 |.nilCheck _=>true
 |_=>false
def sR(h:mU P o=true)(ρ:Operand->Value):bM P (execOp ρ o):=by
 unfold mU at h
 unfold execOp
 split at h
 .rename_i x hop;rw[hop];exact .pure _
 .rename_i T x lo hi mx hop;rw[hop];exact(bM.sliceAt _ _ _ _ _).bind λ_=>.pure _
 .rename_i T x i hop;rw[hop];exact(bM.indexAt _ _ _).bind λ_=>.pure _
 .rename_i s x f hop;rw[hop];exact(bM.fieldAt h _).bind λ_=>.pure _
 .rename_i x hop
  rw[hop]
  dsimp only
  repeat' first
   |exact .pure _
   |exact .nilDeref
   |exact .halt _
   |exact .program
   |exact .nilAhead _ _ _ _
   |refine bM.bind ?_ λ_=>?_
   |split
 .cases h
def nL(P:Program)(o:Oper)(a:Act)(v:Value):Prop:= ∀w,(execOp a.eval o).run P w=.ok (.value v) w
def rT(h:(do pure (.value (<-m)):Sem Next).run P w=.ok n w'): ∃v,n=.value v:=by
 rw[Sem.run_bind]at h
 cases hm:m.run P w with
 |ok y w1=>rw[hm,Result.andThen_ok,Sem.run_pure]at h;cases h;exact⟨_,rfl⟩
 |halt y w1=>rw[hm]at h;cases h
def pB(m:Sem Next):Prop:= ∀w n w',m.run P w=.ok n w'-> ∃v,n=.value v
def pB.pure(v:Value):pB (P:=P) (Pure.pure (Next.value v)):=λw n w' h=>by
 rw[Sem.run_pure]at h;cases h;exact⟨_,rfl⟩
def pB.halt(x:Halt):pB (P:=P) (Sem.halt x:Sem Next):=λw n w' h=>by simp[Sem.run]at h
def pB.nilDeref:pB (P:=P) (runtimePanic .nilDeref:Sem Next):=λw n w' h=>absurd h (so w n w')
def pB.bind{α:Type}{m:Sem α}{f:α->Sem Next}(h: ∀x,pB (P:=P) (f x)):pB (P:=P) (m>>=f):=λw n w' h1=>by
 rw[Sem.run_bind]at h1
 cases hm:m.run P w with
 |ok y w1=>rw[hm,Result.andThen_ok]at h1;exact h y _ _ _ h1
 |halt y w1=>rw[hm]at h1;cases h1
def A7{ρ:Operand->Value}(hop:o.op=.nilCheck x):pB (P:=P) (execOp ρ o):=by
 unfold execOp
 rw[hop]
 dsimp only
 repeat' first
  |exact pB.pure _
  |exact pB.nilDeref
  |exact pB.halt _
  |refine pB.bind λ_=>?_
  |split
def E7(h:mU P o=true){ρ:Operand->Value}(hr:(execOp ρ o).run P w=.ok n w'): ∃v,n=.value v:=by
 unfold mU at h
 split at h
 .rename_i x hop;unfold execOp at hr;rw[hop]at hr;simp only[Sem.run_pure]at hr;cases hr;exact⟨_,rfl⟩
 .rename_i T x lo hi mx hop;unfold execOp at hr;rw[hop]at hr;exact rT hr
 .rename_i T x i hop;unfold execOp at hr;rw[hop]at hr;exact rT hr
 .rename_i s x f hop;unfold execOp at hr;rw[hop]at hr;exact rT hr
 .rename_i x hop;exact A7 hop _ _ _ hr
 .cases h
def BP(h:mU P o=true)(cs:Array SelectCase)(b:Bool):o.op≠.select cs b:=λe=>by
 unfold mU at h
 rw[e]at h
 cases h
def nL.put(hap:o.apart ops oj=true)(hs: ∀cs b,o.op≠.select cs b)(h:nL P o a v):nL P o (a.put oj.dst u) v:=λw=>by
 rw[execOp_put (ops:=ops) o hs a oj.dst u (Oper.apart_spec hap).2.2]
 exact h w
def nL.defers(h:nL P o a v)(ds:List Deferred):nL P o {a with defers:=ds} v:=λw=>by
 have e:({a with defers:=ds}:Act).eval=a.eval:=funext (GY a ds)
 rw[e];exact h w
def Lv(hj:ops[j]? =some oj)(hb:mU P oi=true)(hap:oi.apart ops oj=true)(hsj: ∀cs b,oj.op≠.select cs b){K:Act->World->Prop}
  (hv:nL P oi a v) (h:wpOp P ops (NQ R) j K (a.put oi.dst v) w):wpOp P ops (NQ R) j (λa' w'=>nL P oi a' v/\K (a'.put oi.dst v) w') a w:=by
 obtain⟨h1,h2,h3⟩:=Oper.apart_spec hap
 have bg: ∀u,nL P oi (a.put oj.dst u) v:=λu=>hv.put hap (BP hb)
 have keep': ∀u ds,nL P oi (({a with defers:=ds}:Act).put oj.dst u) v:=λu ds=>(hv.defers ds).put hap (BP hb)
 unfold wpOp at *
 simp only[hj]at *
 rw[wanted_put oj a oi.dst v h1]at h
 split
 .rename_i hw
  simp only[hw,if_true]at h
  refine .inl ?_
  rcases h with h|h
  .unfold Oper.wp at *
   rw[execOp_put oj hsj a oi.dst v h1]at h
   generalize (execOp a.eval oj).run P w=r at *
   cases r with
   |ok n w'=>
    cases n<;>simp only[Oper.upon]at h ⊢
    case value u=>exact⟨bg u,by rw[<-Act.put_comm a v u h2];exact h⟩
    case skip=>exact⟨bg _,by rw[<-Act.put_comm a v undef h2];exact h⟩
    case defer d=>
     refine⟨keep' _ _,?_⟩
     rw[yL,Jr]at h
     rw[<-Act.put_comm _ v undef h2];exact h
    case enter f args=>
     refine h.mono λe w'' hh=>?_
     cases e with
     |returned u=>exact⟨bg u,by rw[<-Act.put_comm a v u h2];exact hh⟩
     |panicked chain=>exact absurd hh.1 ψ
     |outgrown=>exact absurd hh NQ.out
    case row row args=>exact h.mono λu w'' hh=>⟨bg u,by rw[<-Act.put_comm a v u h2];exact hh⟩
   |halt y w'=>
    cases y<;>simp only[Oper.upon]at h ⊢
    exact absurd h.1 ψ
  .exact absurd h.2 NQ.out
 .rename_i hw
  simp only[hw]at h
  exact⟨bg _,by rw[<-Act.put_comm a v undef h2];exact h⟩
def IA(hi:ops[i]? =some oi)(hb:mU P oi=true)(hg:oi.guard=none)(hsel: ∀(j:Nat) (o:Oper) cs b,ops[j]? =some o->o.op≠.select cs b):
  ∀(fuel:Nat) (listed:Array Bool) (a:Act) (w:World),nL P oi a v->
   (∀j oj,ops[j]? =some oj->j≠i->listed.getD j true=false->(∀e∈oj.after,Region.binds md e=true->e.on≠i)->oi.apart ops oj=true)->
   i∈Region.ready md ops listed->
   wpAny P md ops (NQ R) fuel (listed.setIfInBounds i true) (a.put oi.dst v) w->wpAny P md ops (NQ R) (fuel+1) listed a w:=by
 have one: ∀(K:Act->World->Prop) (a:Act) (w:World),nL P oi a v->K (a.put oi.dst v) w->wpOp P ops (NQ R) i K a w:=λK a w hv h=>by
  unfold wpOp
  simp only[hi]
  have hw:Region.wanted oi (yielded ops a.tmps)=true:=by unfold Region.wanted;rw[hg]
  rw[if_pos hw]
  refine .inl ?_
  unfold Oper.wp
  rw[hv w,Oper.upon_value]
  exact h
 intro fuel
 induction fuel with
 |zero=>
  intro listed a w hv _ hr H
  refine⟨λh=>(by rw[h]at hr;cases hr),λj hj=>?_⟩
  by_cases hji:j=i
  .subst hji;exact one _ a w hv H
  .have:=ready_mono hj hji
   rw[H.1]at this
   cases this
 |succ fuel ih=>
  intro listed a w hv hfree hr H
  refine⟨λh=>(by rw[h]at hr;cases hr),λj hj=>?_⟩
  by_cases hji:j=i
  .subst hji;exact one _ a w hv H
  .have h1:=H.2 j (ready_mono hj hji)
   obtain⟨hjun,oj,hoj,hall⟩:=mem_ready.1 hj
   have hnot: ∀e∈oj.after,Region.binds md e=true->e.on≠i:=λe he hb heq=>by
    have h1:=hall e he hb
    have h0:=(mem_ready.1 hr).1
    grind
   have h2:=Lv hoj hb (hfree j oj hoj hji hjun hnot) (λcs b=>hsel j oj cs b hoj) hv h1
   have hfree': ∀k ok,ops[k]? =some ok->k≠i->(listed.setIfInBounds j true).getD k true=false->
     (∀e∈ok.after,Region.binds md e=true->e.on≠i)->oi.apart ops ok=true:=λk ok hk hki hun hno=>by
    refine hfree k ok hk hki ?_ hno
    by_cases hjk:j=k
    .subst hjk;exact hjun
    simp_all
   refine wpOp_mono (λa' w' h3=>ih (listed.setIfInBounds j true) a' w' h3.1 hfree' (ready_mono hr (j_6 hji)) ?_) h2
   rw[Array.setIfInBounds_comm _ _ hji]
   exact h3.2
end
def zb(t:Nat):Own->Own
 |.free=>.free
 |.obj i=>.obj i
 |.bN (.au i j)=>.bN (.au i j)
 |.bN (.slot 0)=>.bN (.slot t)
 |.bN (.comp 0 j)=>.bN (.comp t j)
 |_=>.bN .TS
def iZ:Own->Bool
 |.obj _|.bN (.au _ _)=>true
 |_=>false
def im(n t:Nat)(ow ow':Nat->Own)(k:Nat):Own:=if k<n/\iZ (ow k)=false then ow k else zb t (ow' k)
def er:SV->Bool
 |.cq (.au _ _) _ _|.eW (.au _ _) _=>false
 |_=>true
section
variable {P:Program} {ops:Array Oper} {rest:List Oper} {st:St} {Q:St->Prop}
def Ry{g g':Gh}{w w':World}(hf:Fr false (g.br (aC [] [])) w g' w'){k:Nat}{b:Obj}(hb:w.heap[k]? =some b)(hs:iZ (g.ow k)=false):
  (g'.ow k=.free\/g'.ow k=.out)/\(g'.ow k=.free->g.ow k=.free)/\w'.heap[k]? =some b:=by
 cases ho:g.ow k with
 |free=>
  have h1:(g.br (aC [] [])).ow k=.free:=by simp[Gh.br,ho,aC]
  obtain⟨e1,e2⟩:=hf.free k b h1 hb
  grind
 |obj i=>rw[ho]at hs;cases hs
 |out=>
  have h1:(g.br (aC [] [])).ow k=.out:=by simp[Gh.br,ho,aC]
  obtain⟨e1,e2⟩:=hf.out k b h1 hb
  grind
 |box t=>
  have h1:(g.br (aC [] [])).ow k=.out:=by simp[Gh.br,ho,aC]
  obtain⟨e1,e2⟩:=hf.out k b h1 hb
  grind
 |bN l=>
  have h1:(g.br (aC [] [])).ow k=.out:=by
   cases l<;>simp[Gh.br,ho,aC]
   rw[ho]at hs;cases hs
  obtain⟨e1,e2⟩:=hf.out k b h1 hb
  grind
def Bo{g g':Gh}{w w':World}{t:Nat}(hf:Fr false (g.br (aC [] [])) w g' w'){o:Own}(ho:iZ o=false):aO o g w ⟨im w.heap.size t g.ow g'.ow,g'.ρ⟩ w':=λk b h1 h2=>by
 have hlt:k<w.heap.size:=(m_0.1 h2).1
 refine⟨?_,(Ry hf h2 (by rw[h1];exact ho)).2.2⟩
 simp only[im]
 grind
def uW{g g':Gh}{w w':World}{t:Nat}(hf:Fr false (g.br (aC [] [])) w g' w'){k:Nat}{o:Own}(ho:o≠.out)(hk:g'.ow k=o)(hfree:o=.free->zb t o=.free):
  (⟨im w.heap.size t g.ow g'.ow,g'.ρ⟩:Gh).ow k=zb t o:=by
 simp only[im]
 split
 .rename_i h
  obtain⟨b,hb⟩: ∃b,w.heap[k]? =some b:=⟨w.heap[k]'h.1,by simp[h.1]⟩
  obtain⟨h1,h2,-⟩:=Ry hf hb h.2
  grind
 .rw[hk]
def OW.OM(hw:fG ops st o=some true)(hop:o.op=.call c)(hc:rH P st [] c=some ⟨f0,args,[],[]⟩)(hp:SC P false f0 args st.H r H')
  (hr:pg r=true) (hn:st.tmps.all er=true) (h:OW P false ops rest ⟨(st.put o.dst r).tmps,H'⟩ Q):OW P false ops (o::rest) st Q:=by
 intro a w g hrel Qc hq
 unfold wpList
 rw[bt hrel hw,if_pos rfl]
 refine .inl ?_
 unfold rH at hc
 split at hc
 .rename_i fo hcallee
  split at hc
  .rename_i f first caps hfo
   split at hc
   .rename_i ss ls gs hargs
    split at hc
    .rename_i hok
     cases hc
     rw[g_3]at hok
     obtain⟨hgive,hfn⟩:=hok
     have hgs:=pt hgive
     have hrf:=cw hrel hfo
     obtain⟨vf,vc,hev,lf,lc,rf,rc⟩: ∃vf vc:Array Value,a.eval fo=.func (.func f0) vf vc/\vf.size=first.length/\vc.size=caps.length/\
       (∀(j:Nat) (y:D),first[j]? =some y-> ∃u,vf[j]? =some u/\Rd g w u y)/\(∀(j:Nat) (y:D),caps[j]? =some y-> ∃u,vc[j]? =some u/\Rd g w u y):=by
      generalize a.eval fo=v at hrf
      cases hrf with
      |fn hl1 hl2 us1 us2 hc1 hr1 hc2 hr2=>grind
     obtain⟨la,ra⟩:=jI hrel hgs hargs (λ_ h=>h) (λ_ h=>h)
     have hexec:(execOp a.eval o).run P w=.ok (.enter f0 (vf++c.args.map a.eval++vc)) w:=by
      unfold execOp
      rw[hop]
      exact sd hcallee hev hfn w
     unfold Oper.wp
     rw[hexec,Oper.upon_enter]
     have hRA:jM (g.br (aC [] [])) w (vf++c.args.map a.eval++vc) (first.map .d++ss++caps.map .d):=by
      have hla:(c.args.map a.eval).size=ss.length:=by rw[<-la];simp
      have hla':c.args.size=ss.length:=by rw[<-la];simp
      refine⟨by simp[lf,lc,<-la],λj s hj=>?_⟩
      have kp: ∀{v:Value} {d:D},Rd g w v d->Rd (g.br (aC [] [])) w v d:=λhr=>hr.bg (aO.br rfl) (λ_ _ h=>h)
      by_cases j1:j<first.length
      .rw[j_2,h_6 (by simpa using j1),h_1]at hj
       simp only[g_4]at hj
       obtain⟨d,hd,rfl⟩:=hj
       obtain⟨u,e1,e2⟩:=rf j d hd
       exact⟨u,φ,kp e2⟩
      .by_cases j2:j<first.length+ss.length
       .grind
       .rw[h_5 χ,h_1]at hj
        simp only[g_4,h_9,k_0]at hj
        obtain⟨d,hd,rfl⟩:=hj
        obtain⟨u,e1,e2⟩:=rc _ d hd
        refine⟨u,?_,kp e2⟩
        grind
     have hRH0:RH (g.br (aC [] [])) w st.H:=hrel.hp.bg (λo' ho'=>aO.br (by
      cases o'<;>simp only[kn]at ho'<;>try rfl
      rename_i l
      cases l<;>simp only[kn]at ho'
      rfl)) (λ_ _ h=>h) rfl
     refine(hp w (g.br (aC [] [])) _ hRA hRH0).mono λe w' hh=>?_
     obtain⟨v,g',rfl,hres,hRH,hf⟩:=hh
     have hρ':eB g ⟨im w.heap.size (o.dst.getD 0) g.ow g'.ow,g'.ρ⟩:=λi k h=>hf.qH i k h
     have hkp:=λo' ho'=>Bo (t:=o.dst.getD 0) hf (o:=o') ho'
     have hfr:Fr false g w ⟨im w.heap.size (o.dst.getD 0) g.ow g'.ow,g'.ρ⟩ w':=
      ⟨hf.size,hkp _ rfl,hkp _ rfl,hρ',(λh=>by cases h),(λh=>by cases h),(λh=>by cases h),hf.os⟩
     have h0:aO .free g' w' ⟨im w.heap.size (o.dst.getD 0) g.ow g'.ow,g'.ρ⟩ w':=λk b h1 h2=>⟨uW hf ψ h1 (λ_=>rfl),h2⟩
     refine h (a.put o.dst v) w' _ ?_ Qc λiY a2 w2 g2 q2 r2 f2=>hq iY a2 w2 g2 q2 r2 (hfr.trans f2)
     refine bc hrel (by rw[eb];simp only[cU];exact hrel.len) (by rw[put_defers];exact hrel.dS) hρ' (λt s hs=>?_) ?_
     .by_cases hd:o.dst=some t
      .simp only at hs
       rw[hd]at hs ⊢
       obtain⟨rfl,hlt⟩:=bY hs
       refine .inr (.inl ?_)
       rw[bW (by rw[hrel.len];exact hlt)]
       simp only[w_9]
       rw[hd]at h0
       simp only[w_9]at h0
       have tag: ∀l,(∀i j,l≠.au i j)-> ∀k b,g'.ow k=.bN l->w'.heap[k]? =some b->(⟨im w.heap.size t g.ow g'.ow,g'.ρ⟩:Gh).ow k=zb t (.bN l):=λl hl k b hk _=>uW hf ψ hk ψ
       cases hrr:s with
       |d x=>rw[hrr]at hres;exact Rd.bg h0 (λ_ _ h=>h) (hres:Rd g' w' v x)
       |own n xs=>
        rw[hrr]at hres
        exact(w4 h0 (tag (.slot 0) ψ) (λ_ _ h=>h) (hres:RC g' w' (.slot 0) v (.own n xs)):RC _ _ (.slot t) v (.own n xs))
       |iQ vs=>
        rw[hrr]at hres hr
        obtain⟨us,e1,e2,e3⟩:=hres
        refine⟨us,e1,e2,λj s' hj=>?_⟩
        obtain⟨u,f1,f2⟩:=e3 j s' hj
        exact⟨u,f1,w4 h0 (tag (.comp 0 j) ψ) (λ_ _ h=>h) f2 (by rintro v0 n xs rfl;exact f2)⟩
       |_=>rw[hrr]at hr;simp[pg]at hr
      .simp only at hs
       have hput:s=.undef\/(st.tmps[t]? =some s/\ ∀t0 old,o.dst=some t0->st.tmps[t0]? =some old->uB old=true->dM t0 s=false):=by
        cases hdst:o.dst with
        |none=>rw[hdst]at hs;exact .inr ⟨hs,ψ⟩
        |some t0=>
         rw[hdst]at hs hd
         rcases eu (λe=>hd (by rw[e])) hs with h|⟨h1,h2⟩
         .exact .inl h
         grind
       rcases hput with rfl|⟨hs3,hs2⟩
       .exact .inl rfl
       .have hnh:er s=true:=h_4.1 hn s (h_2.2 ⟨t,hs3⟩)
        refine .inr (.inr ⟨hs3,cr hd,λo' ho'=>hkp o' ?_,λs0 e=>?_⟩)
        .cases o' with
         |obj i=>
          exfalso
          cases s<;>simp[jQ]at ho'
         |bN l=>
          cases l with
          |au i j=>
           exfalso
           cases s<;>simp[jQ]at ho'
           .subst ho';simp[er]at hnh
           .subst ho';simp[er]at hnh
          |_=>rfl
         |_=>rfl
        .obtain⟨x0,hx0,hb0⟩:=kM (hrel.tmp t _ hs3) e
         have hd0:o.dst≠some s0:=λe2=>by
          have:=hs2 s0 _ e2 hx0 (gI hb0)
          rw[cH e]at this
          cases this
         exact⟨cr hd0,λx hx hb=>⟨x,eY hx hb hd0,rfl⟩⟩
     .refine RH.bg (g:=g') (w:=w') (λo' ho'=>?_) (λ_ _ h=>h) rfl hRH
      intro k b h1 h2
      refine⟨?_,h2⟩
      cases o' with
      |free=>exact uW hf ψ h1 (λ_=>rfl)
      |obj i=>exact uW hf ψ h1 (λh=>by cases h)
      |bN l=>
       cases l<;>simp only[kn]at ho'
       exact uW hf ψ h1 (λh=>by cases h)
      |_=>exact ho'.elim
    .cases hc
   .cases hc
  .cases hc
 .cases hc
end
inductive Pn (α:Type) where
 |ok (a:α)
 |UP (t:TypeId) (H:List aN)
def UI(t:TypeId):List PanicEntry:=[{v:=.iface t (.agg #[]),recovered:=false}]
def SB(P:Program)(f:FuncId)(args:List SV)(H:List aN)(o:Pn (SV×List aN)):Prop:=
 ∀(w:World) (g:Gh) (vs:Array Value),jM g w vs args->RH g w H->Calls P f vs w λe w'=>match o with
  |.ok p=> ∃v g',e=.returned v/\yn g' w' v p.1/\RH g' w' p.2/\Fr false g w g' w'
  |.UP t H'=>e=.panicked (UI t)/\ ∃g',RH g' w' H'/\Fr false g w g' w'
def S5{P:Program}(h:SB P f args H (.ok (r,H'))):SC P false f args H r H':=h
section
variable {P:Program} {ops:Array Oper} {st:St}
def dr(hf:P.funcs[f]? =some fn)(hb:fn.body=some c)
  (h:SW P false c (k8 fn.ntmps args H) (dw P fn.results.toList H' r)):SC P false f args H r H':=by
 refine yk hf hb ?_
 intro a w g hr
 refine Code.wp_mono (λe a' w' hh=>?_) (h a w g hr)
 obtain⟨st',g',⟨he,l,h1,h2⟩,r1,f⟩:=hh
 exact⟨st'.kX l,g',⟨he,wL h1,by rw[rm];exact h2⟩,r1.kX,f⟩
def OT(P:Program)(ops:Array Oper)(l:List Oper)(st:St)(Q:Exit->St->Prop):Prop:=
 ∀a w g,Rel st a w g->wpList P ops (λe a' w'=> ∃st' g',Q e st'/\Rel st' a' w' g'/\Fr false g w g' w') l a w
def MR(P:Program)(ops:Array Oper)(k:Nat)(st:St)(Q:Exit->St->Prop):Prop:=OT P ops (ops.toList.drop k) st Q
def MR.done{Q:Exit->St->Prop}(h:decide (ops.size<=k)=true)(hq:Q .normal st):MR P ops k st Q:=by
 intro a w g hr
 rw[p_0 (by simpa using of_decide_eq_true h)]
 exact⟨st,g,hq,hr,Fr.refl _ _ _⟩
def FN{o:Oper}{a:Act}{next:Act->World->Prop}{Q Q':Exit->Act->World->Prop}(hp: ∀ch a w,Q (.panic ch) a w->Q' (.panic ch) a w)(ho:LetsOut Q->LetsOut Q'){r:Result Next}(h:o.upon P a next Q r):o.upon P a next Q' r:=by
 cases r with
 |ok n w'=>
  cases n<;>simp only[Oper.upon]at h ⊢ <;>first
   |exact h
   |(refine h.mono λe w'' hh=>?_
     grind)
 |halt hh w'=>cases hh<;>simp only[Oper.upon]at h ⊢ <;>first|exact h|exact hp _ _ _ h
def uQ{Q:Exit->Act->World->Prop}(l2:List Oper): ∀(l1:List Oper) (a:Act) (w:World),wpList P ops (Exit.then (wpList P ops Q l2) Q) l1 a w->wpList P ops Q (l1++l2) a w
 |[],a,w,h=>h
 |o::l1,a,w,h=>by
  rw[m_7]
  unfold wpList at h ⊢
  split
  .rename_i hw
   rw[if_pos hw]at h
   rcases h with h|h
   .left
    have h1:=Oper.wp_mono (K':=wpList P ops Q (l1++l2)) (λa' w' hh=>uQ l2 l1 a' w' hh) h
    exact FN (λch a w h=>h) (λ⟨a0,w0,h⟩=>⟨a0,w0,h⟩) h1
   .exact .inr ⟨h.1,let⟨a0,w0,h2⟩:=h.2;⟨a0,w0,h2⟩⟩
  .rename_i hw
   rw[if_neg hw]at h
   exact uQ l2 l1 _ w h
def uP{Q:Exit->Act->World->Prop}: ∀(l:List Oper) (a:Act) (w:World),(∀o∈l,∀j b,o.guard=some (j,b)->ops'[j]? =ops[j]?)->wpList P ops' Q l a w->wpList P ops Q l a w
 |[],a,w,_,h=>h
 |o::l,a,w,hg,h=>by
  have e:Region.wanted o (yielded ops' a.tmps)=Region.wanted o (yielded ops a.tmps):=by
   unfold Region.wanted
   cases ho:o.guard with
   |none=>rfl
   |some p=>
    obtain⟨j,b⟩:=p
    simp only[yielded,hg o q_5 j b ho]
  have hg': ∀o∈l,∀j b,o.guard=some (j,b)->ops'[j]? =ops[j]? :=λo ho=>hg o (m_1 _ ho)
  unfold wpList at h ⊢
  rw[e]at h
  split
  .rename_i hw
   rw[if_pos hw]at h
   rcases h with h|h
   .exact .inl (Oper.wp_mono (λa' w' hh=>uP l a' w' hg' hh) h)
   .exact .inr h
  .rename_i hw
   rw[if_neg hw]at h
   exact uP l _ w hg' h
def EO(ops:Array Oper)(k m:Nat):Bool:=decide (k<=m)&&decide (m<=ops.size)&&((ops.toList.take m).drop k).all λo=>match o.guard with|some (j,_)=>decide (j<m)|none=>true
def Pt(m:Nat){Q:Exit->St->Prop}(hg:EO ops k m=true)(h:cf P false (ops.toList.take m).toArray k st (λs=>MR P ops m s Q)):MR P ops k st Q:=by
 intro a w g hr
 simp only[EO,g_3,decide_eq_true_eq,h_4]at hg
 obtain⟨⟨h1,h2⟩,h3⟩:=hg
 have hsplit:ops.toList.drop k=(ops.toList.take m).drop k++ops.toList.drop m:=by
  conv=>lhs;rw[<-m_8 m ops.toList]
  grind
 rw[hsplit]
 refine uQ _ _ a w (uP _ a w (λo ho j b hj=>?_) ?_ (ops':=(ops.toList.take m).toArray))
 .grind
 .unfold cf at h
  refine h a w g hr _ λst' a' w' g' q r f=>?_
  have:=q a' w' g' r
  show wpList P ops _ (ops.toList.drop m) a' w'
  refine qK (λe a2 w2 hh=>?_) this
  obtain⟨iY,g2,q2,r2,f2⟩:=hh
  exact⟨iY,g2,q2,r2,f.trans f2⟩
where
 qK {ops:Array Oper} {Q Q':Exit->Act->World->Prop} (hq: ∀e a w,Q e a w->Q' e a w): ∀{l:List Oper} {a:Act} {w:World},wpList P ops Q l a w->wpList P ops Q' l a w
  |[],a,w,h=>hq _ _ _ h
  |o::l,a,w,h=>by
   unfold wpList at h ⊢
   split
   .rename_i hw
    rw[if_pos hw]at h
    rcases h with h|h
    .left
     have h1:=Oper.wp_mono (K':=wpList P ops Q' l) (λa' w' hh=>qK hq hh) h
     exact FN (λch a w h=>hq _ _ _ h) (λ⟨a0,w0,h⟩=>⟨a0,w0,hq _ _ _ h⟩) h1
    .exact .inr ⟨h.1,let⟨a0,w0,h2⟩:=h.2;⟨a0,w0,hq _ _ _ h2⟩⟩
   .rename_i hw
    rw[if_neg hw]at h
    exact qK hq h
end
section
variable {P:Program} {ops:Array Oper} {k:Nat} {st:St}
def w8{Q:St->Prop}(n:Nat)(L:List Nat)(l:List (Nat×SV))(hp:SC P false f args st.H r H')
  (h:eg P ops k st []=some (d,f,args,[],[])) (hr:(pg r&&st.tmps.all er)=true) (cR:bu n L ⟨(st.put d r).tmps,H'⟩=some (l,H')) (hn:cf P false ops (k+1) (sp n l H') Q):cf P false ops k st Q:=by
 unfold eg at h
 split at h
 .rename_i o ho
  split at h
  .rename_i c hop
   split at h
   .rename_i cs hcs
    simp only[g_2,g_8]at h
    obtain⟨rfl,rfl,rfl,e1,e2⟩:=h
    obtain⟨h1,h2⟩:=bo ho
    rw[g_3]at hr
    obtain⟨f0,a0,l0,g0⟩:=cs
    cases e1;cases e2
    unfold cf
    rw[drop_cons h1]
    exact OW.OM h2 hop hcs hp hr.1 hr.2 (da L (aL cR) hn)
   .cases h
  .cases h
 .cases h
def ya{a:Act}(hrel:Rel st a w g)(hop:o.op=.call c)(hc:rH P st [] c=some ⟨f0,args,[],[]⟩):
  ∃vs,(execOp a.eval o).run P w=.ok (.enter f0 vs) w/\jM (g.br (aC [] [])) w vs args/\RH (g.br (aC [] [])) w st.H:=by
 unfold rH at hc
 split at hc
 .rename_i fo hcallee
  split at hc
  .rename_i f first caps hfo
   split at hc
   .rename_i ss ls gs hargs
    split at hc
    .rename_i hok
     cases hc
     rw[g_3]at hok
     obtain⟨hgive,hfn⟩:=hok
     have hgs:=pt hgive
     have hrf:=cw hrel hfo
     obtain⟨vf,vc,hev,lf,lc,rf,rc⟩: ∃vf vc:Array Value,a.eval fo=.func (.func f0) vf vc/\vf.size=first.length/\vc.size=caps.length/\
       (∀(j:Nat) (y:D),first[j]? =some y-> ∃u,vf[j]? =some u/\Rd g w u y)/\(∀(j:Nat) (y:D),caps[j]? =some y-> ∃u,vc[j]? =some u/\Rd g w u y):=by
      generalize a.eval fo=v at hrf
      cases hrf with
      |fn hl1 hl2 us1 us2 hc1 hr1 hc2 hr2=>grind
     obtain⟨la,ra⟩:=jI hrel hgs hargs (λ_ h=>h) (λ_ h=>h)
     refine⟨vf++c.args.map a.eval++vc,?_,?_,?_⟩
     .unfold execOp
      rw[hop]
      exact sd hcallee hev hfn w
     .have hla:(c.args.map a.eval).size=ss.length:=by rw[<-la];simp
      have hla':c.args.size=ss.length:=by rw[<-la];simp
      refine⟨by simp[lf,lc,<-la],λj s hj=>?_⟩
      have kp: ∀{v:Value} {d:D},Rd g w v d->Rd (g.br (aC [] [])) w v d:=λhr=>hr.bg (aO.br rfl) (λ_ _ h=>h)
      by_cases j1:j<first.length
      .rw[j_2,h_6 (by simpa using j1),h_1]at hj
       simp only[g_4]at hj
       obtain⟨d,hd,rfl⟩:=hj
       obtain⟨u,e1,e2⟩:=rf j d hd
       exact⟨u,φ,kp e2⟩
      .by_cases j2:j<first.length+ss.length
       .rw[h_6 χ,h_5 χ]at hj
        grind
       .rw[h_5 χ,h_1]at hj
        simp only[g_4,h_9,k_0]at hj
        obtain⟨d,hd,rfl⟩:=hj
        obtain⟨u,e1,e2⟩:=rc _ d hd
        refine⟨u,?_,kp e2⟩
        grind
     .exact hrel.hp.bg (λo' ho'=>aO.br (by
       cases o'<;>simp only[kn]at ho'<;>try rfl
       rename_i l
       cases l<;>simp only[kn]at ho'
       rfl)) (λ_ _ h=>h) rfl
    .cases hc
   .cases hc
  .cases hc
 .cases hc
def mS(t:Nat)(hf:Fr false (g.br (aC [] [])) w g' w')(hH:RH g' w' H'):
  Fr false g w ⟨im w.heap.size t g.ow g'.ow,g'.ρ⟩ w'/\RH ⟨im w.heap.size t g.ow g'.ow,g'.ρ⟩ w' H':=by
 have hkp:=λo' ho'=>Bo (t:=t) hf (o:=o') ho'
 refine⟨⟨hf.size,hkp _ rfl,hkp _ rfl,λi k h=>hf.qH i k h,(λh=>by cases h),(λh=>by cases h),(λh=>by cases h),hf.os⟩,?_⟩
 refine RH.bg (g:=g') (w:=w') (λo' ho'=>?_) (λ_ _ h=>h) rfl hH
 intro k b h1 h2
 refine⟨?_,h2⟩
 cases o' with
 |free=>exact uW hf ψ h1 (λ_=>rfl)
 |obj i=>exact uW hf ψ h1 (λh=>by cases h)
 |bN l=>
  cases l<;>simp only[kn]at ho'
  exact uW hf ψ h1 (λh=>by cases h)
 |_=>exact ho'.elim
end
section
variable {P:Program} {rs:List ResultVar} {s:St} {α:Type} {e:α->SV} {a:α} {H:Hp}
end
def jD(a:Act)(ds:List Deferred):Act:={a with defers:=a.defers++ds}
def MQ(ds:List Deferred)(Q:Exit->Act->World->Prop):Exit->Act->World->Prop:=λe a w=> ∃a0,a=jD a0 ds/\Q e a0 w
def MN(ds:List Deferred)(N:Act->World->Prop):Act->World->Prop:=λa w=> ∃a0,a=jD a0 ds/\N a0 w
def A9(a:Act)(ds:List Deferred):(jD a ds).eval=a.eval:=by funext x;cases x<;>rfl
def tP(a:Act)(ds:List Deferred)(d:Option Tmp)(v:Value):(jD a ds).put d v=jD (a.put d v) ds:=by cases d<;>rfl
def Ja(a:Act)(ds:List Deferred):(jD a ds).tmps=a.tmps:=rfl
def MQ.out{ds:List Deferred}{Q:Exit->Act->World->Prop}(h:LetsOut Q):LetsOut (MQ ds Q):=let⟨a0,w0,h⟩:=h;⟨jD a0 ds,w0,a0,rfl,h⟩
section
variable {P:Program} {ops:Array Oper} {ds:List Deferred}
def LA{o:Oper}{a:Act}{N:Act->World->Prop}{Q:Exit->Act->World->Prop}{r:Result Next}(h:o.upon P a N Q r):o.upon P (jD a ds) (MN ds N) (MQ ds Q) r:=by
 cases r with
 |ok n w'=>
  cases n<;>simp only[Oper.upon]at h ⊢ <;>first
   |exact h.elim
   |exact⟨_,tP _ _ _ _,h⟩
   |(refine h.mono λe w'' hh=>?_
     cases e with
     |returned v=>exact⟨_,tP _ _ _ _,hh⟩
     |panicked ch=>exact⟨_,rfl,hh⟩
     |outgrown=>exact MQ.out hh)
   |(refine Rows.mono h λv w'' hh=>⟨_,tP _ _ _ _,hh⟩)
   |(refine⟨_,?_,h⟩;cases o.dst<;>rfl)
 |halt hh w'=>cases hh<;>simp only[Oper.upon]at h ⊢ <;>first|exact⟨_,rfl,h⟩|exact h.elim
def PY{o:Oper}{a:Act}{w:World}{N:Act->World->Prop}{Q:Exit->Act->World->Prop}(h:o.wp P a w N Q):o.wp P (jD a ds) w (MN ds N) (MQ ds Q):=by
 unfold Oper.wp at h ⊢
 rw[A9]
 exact LA h
def Mo{o:Oper}{a:Act}{w:World}(h:o.asks P a w):o.asks P (jD a ds) w:=by
 unfold Oper.asks at h ⊢
 rw[A9]
 exact h
def rS{Q:Exit->Act->World->Prop}: ∀(l:List Oper) (a:Act) (w:World),wpList P ops Q l a w->wpList P ops (MQ ds Q) l (jD a ds) w
 |[],a,w,h=>⟨a,rfl,h⟩
 |o::l,a,w,h=>by
  unfold wpList at h ⊢
  rw[Ja]
  split
  .rename_i hw
   rw[if_pos hw]at h
   rcases h with h|h
   .refine .inl (Oper.wp_mono (λa1 w1 hh=>?_) (PY (ds:=ds) h))
    obtain⟨a0,rfl,h0⟩:=hh
    exact rS l a0 w1 h0
   .exact .inr ⟨Mo h.1,MQ.out h.2⟩
  .rename_i hw
   rw[if_neg hw]at h
   rw[tP]
   exact rS l _ w h
end
def Sw{P:Program}(hr:Rel st' a' w' g')(he:KM P fn.results.toList st' r):
  ∃v g2,(results fn a'.tmps).run P w'=.ok v w'/\yn g2 w' v r/\RH g2 w' st'.H/\Fr pu g' w' g2 w':=by
 obtain⟨xs,hx1,hx2,hx3,hx4⟩:=he
 obtain⟨hl,hg⟩:=xC hx1
 have one: ∀j,j<xs.length-> ∃v,(∀s t,xs[j]? =some (s,t)->RC (g'.br (kd xs)) w' (kV xs.length j) v s)/\ ∀rv,fn.results[j]? =some rv->(kU a'.tmps rv).run P w'=.ok v w':=λj hj=>by
  obtain⟨rv,e1,e2⟩:=hg j xs[j] (by simp[hj])
  obtain⟨v,f1,f2⟩:=AF (P:=P) hr (s:=xs[j].1) (t:=xs[j].2) e2 (f:=kd xs) rfl (kV xs.length j)
   (λt' ht'=>by
    have:=Da hx2 (j:=j) (s:=xs[j].1) (t:=t') φ
    simp only[kd,this])
   (λs' hs' t' n ys hlent=>by
    subst hs'
    unfold EG at hx3
    rw[h_4]at hx3
    have:=hx3 (.tmp s') (h_2.2 ⟨j,e1⟩)
    simp only[hlent,m_2]at this
    simp only[kd,this])
  refine⟨v,λs t cR=>?_,λrv' hrv'=>?_⟩
  .grind
  grind
 have all: ∃us:List Value,us.length=xs.length/\(∀(j:Nat) (s:SV) (t:Option Nat),xs[j]? =some (s,t)-> ∃u,us[j]? =some u/\RC (g'.br (kd xs)) w' (kV xs.length j) u s)/\
   ∀(j:Nat) (rv:ResultVar),fn.results[j]? =some rv-> ∃v,us[j]? =some v/\(kU a'.tmps rv).run P w'=.ok v w':=by
  have: ∃F:Nat->Value,∀j,j<xs.length->(∀s t,xs[j]? =some (s,t)->RC (g'.br (kd xs)) w' (kV xs.length j) (F j) s)/\ ∀rv,fn.results[j]? =some rv->(kU a'.tmps rv).run P w'=.ok (F j) w':=
   ⟨λj=>if hj:j<xs.length then Classical.choose (one j hj)else undef,λj hj=>by grind⟩
  obtain⟨F,hF⟩:=this
  refine⟨(List.range xs.length).map F,ψ,λj s t hj=>⟨F j,by simp[aU hj],(hF j (aU hj)).1 s t hj⟩,λj rv hj=>?_⟩
  grind
 obtain⟨us,u1,u2,u3⟩:=all
 have hrun:=ln (P:=P) (fn:=fn) (tm:=a'.tmps) (w:=w') (vs:=us) (by rw[u1,<-hl];simp) u3
 have hfr':Fr pu g' w' (g'.br (kd xs)) w':=⟨h_0 _,aO.br rfl,aO.br rfl,λ_ _ h=>h,λ_ i=>aO.br rfl,λ_ i j=>aO.br rfl,λ_=>rfl,⟨rfl,rfl⟩⟩
 have hRH:RH (g'.br (kd xs)) w' st'.H:=by
  refine RH.bg (g:=g') (w:=w') (λo ho=>?_) (λ_ _ h=>h) rfl hr.hp
  refine aO.br ?_
  cases o<;>simp only[kn]at ho<;>try rfl
  rename_i l
  cases l<;>simp only[kn]at ho
  rfl
 have hres:yn (g'.br (kd xs)) w' (if h:us.toArray.size=1 then us.toArray[0]else .tuple us.toArray) r:=by
  rw[<-hx4]
  match xs,u1,u2 with
  |[x],u1,u2=>
   match us,u1 with
   |[u],_=>
    obtain⟨u',e1,e2⟩:=u2 0 x.1 x.2 ψ
    simp only[j_3,g_2]at e1
    subst e1
    simp only[List.size_toArray,j_4,v_3,q_4,dite_true,Qe]
    have e2:RC (g'.br (kd [x])) w' (.slot 0) u x.1:=e2
    have:yn (g'.br (kd [x])) w' u x.1:=by
     obtain⟨s,t⟩:=x
     cases s<;>first|exact e2|exact e2.elim
    simpa using this
  |[],u1,u2=>
   match us,u1 with
   |[],_=>exact⟨#[],ψ,rfl,ψ⟩
  |x::y::r',u1,u2=>
   have hne: ¬us.toArray.size=1:=by simp[u1]
   rw[dif_neg hne]
   refine⟨us.toArray,rfl,by simp[u1],λj s hj=>?_⟩
   simp only[h_1,g_4]at hj
   obtain⟨⟨s',t⟩,h1,h2⟩:=hj
   simp only at h2
   subst h2
   obtain⟨u,e1,e2⟩:=u2 j s' t h1
   rw[show kV (x::y::r').length j=.comp 0 j by simp[kV]]at e2
   grind
 grind
section
variable {P:Program} {ops:Array Oper} {ds:List Deferred} {st:St} {k:Nat} {Q:Exit->St->Prop}
def PS(P:Program)(ds:List Deferred)(c:Code)(st:St)(Q:Exit->St->Prop):Prop:=
 ∀a w g,Rel st a w g->c.wp P (λe a' w'=> ∃a0 st' g',a'=jD a0 ds/\Q e st'/\Rel st' a0 w' g'/\Fr false g w g' w') (jD a ds) w
def BX(h:PS P ds x st (thenS (λs=>PS P ds y s Q) Q)):PS P ds (.seq x y) st Q:=by
 intro a w g hr
 refine wp_seq (Code.wp_mono (λe a' w' hh=>?_) (h a w g hr))
 obtain⟨a0,st',g',rfl,q,r,f⟩:=hh
 cases e with
 |normal=>
  refine Code.wp_mono (λe2 a2 w2 hh2=>?_) (q a0 w' g' r)
  obtain⟨a1,iY,g2,e2,q2,r2,f2⟩:=hh2
  exact⟨a1,iY,g2,e2,q2,r2,f.trans f2⟩
 |_=>exact⟨a0,st',g',rfl,q,r,f⟩
def BY(h:Q .ret st):PS P ds .ret st Q:=λa w g hr=>wp_ret ⟨a,st,g,rfl,h,hr,Fr.refl _ _ _⟩
def sX{id:Nat}(h:MR P ops 0 st Q):PS P ds (.region id ops false) st Q:=λa w g hr=>by
 have h1:=h a w g hr
 rw[q_1]at h1
 refine Code.wp_mono (λe a' w' hh=>?_) (wp_region_list (rS (ds:=ds) _ a w h1))
 obtain⟨a0,e0,st',g',q,r,f⟩:=hh
 grind
def Rel.OM(t:Nat)(hrel:Rel st a w g)(hf:Fr false (g.br (aC [] [])) w g' w')(hH:RH g' w' H')(hn:st.tmps.all er=true):
  Rel ⟨st.tmps,H'⟩ a w' ⟨im w.heap.size t g.ow g'.ow,g'.ρ⟩:=by
 have hkp:=λo' ho'=>Bo (t:=t) hf (o:=o') ho'
 refine bc hrel hrel.len hrel.dS (λi k h=>hf.qH i k h) (λt s hs=>?_) (mS t hf hH).2
 have hnh:er s=true:=h_4.1 hn s (h_2.2 ⟨t,hs⟩)
 refine .inr (.inr ⟨hs,rfl,λo' ho'=>hkp o' ?_,λs0 e=>?_⟩)
 .cases o' with
  |obj i=>
   exfalso
   cases s<;>simp[jQ]at ho'
  |bN l=>
   cases l with
   |au i j=>
    exfalso
    cases s<;>simp[jQ]at ho'
    .subst ho';simp[er]at hnh
    .subst ho';simp[er]at hnh
   |_=>rfl
  |_=>rfl
 grind
end
section
variable {P:Program} {ops:Array Oper} {k:Nat} {st:St}
end
section
variable {P:Program} {st:St}
def kO(i off d:Nat):Own->Own:=λo=>if o=.bN (.au i off)then .bN (.slot d)else o
def od(h:o≠.bN (.au i off)):kO i off d o=o:=by simp[kO,h]
def oI(hn:er s=true): ¬jQ t s (.bN (.au i j)):=by
 intro h
 cases s<;>simp[jQ]at h
 .subst h;simp[er]at hn
 .subst h;simp[er]at hn
def Am(hop:o.op=.load T x)(hd:o.dst=some d)(hx:sk st x=some (i,off))(hu:(P.underlying T).isNone=false)(ha:fI P T=false)
  (hi:st.H[i]? =some (.cells cs)) (hc:cs[off]? =some (.own n xs)) (hn:st.tmps.all er=true) (hr:Rel st a w g):
  ∃u g',(execOp a.eval o).run P w=.ok (.value u) w/\Rel ⟨(st.put (some d) (.own n xs)).tmps,st.H.set i (.cells (cs.set off .undef))⟩ (a.put o.dst u) w g'/\(∀o',o'≠.bN (.au i off)->aO o' g w g' w)/\g'.ρ=g.ρ:=by
 obtain⟨k,e1,e3⟩:=kW hr hx
 obtain⟨k',c,T0,f1,f2,f3,f4,f5⟩:=hr.hp.2 i _ hi
 rw[e1]at f1
 cases f1
 obtain⟨u,u1,u2,u3⟩:=f5 off _ hc
 have hk: ∀o',o'≠.bN (.au i off)->aO o' g w (g.br (kO i off d)) w:=λo' h=>aO.br (od h)
 refine⟨u,g.br (kO i off d),?_,?_,hk,rfl⟩
 .unfold execOp
  rw[hop]
  simp only[Instr.loadAt,e3,Instr.sureAddr,Sem.run_bind,Sem.run_pure,Result.andThen_ok,eh hu ha f3 u1]
 .rw[hd]
  refine bc hr (by rw[eb];simp only[cU];exact hr.len) (by rw[put_defers];exact hr.dS) (λ_ _ h=>h) (λt s hs=>?_) ⟨by simp[Gh.br,hr.hp.1],λi' o' hi'=>?_⟩
  .by_cases e:d=t
   .subst e
    obtain⟨rfl,hlt⟩:=bY hs
    refine .inr (.inl ?_)
    rw[bW (by rw[hr.len];exact hlt)]
    exact cy.br (od ψ) (by simp[kO]) u2
   .rcases eu (λh=>e h.symm) hs with h|⟨h1,h2⟩
    .exact .inl h
    .have hnh:er s=true:=h_4.1 hn s (h_2.2 ⟨t,h1⟩)
     refine .inr (.inr ⟨h1,cr (by simpa using e),λo' ho'=>hk o' (λe2=>?_),λs0 e0=>?_⟩)
     .subst e2;exact oI hnh ho'
     .obtain⟨x0,hx0,hb0⟩:=kM (hr.tmp t _ h1) e0
      have hd0:(some d:Option Nat)≠some s0:=λe2=>by
       cases e2
       have:=h2 _ hx0 (gI hb0)
       rw[cH e0]at this
       cases this
      exact⟨cr hd0,λy hy hb=>⟨y,eY hy hb hd0,rfl⟩⟩
  .simp only at hi'
   by_cases e:i=i'
   .subst e
    rw[g_0 (aU hi)]at hi'
    cases hi'
    refine⟨k,c,T0,e1,by simp[Gh.br,f2,kO],f3,by simp[f4],λj s hj=>?_⟩
    by_cases ej:off=j
    .subst ej
     rw[g_0 (aU hc)]at hj
     cases hj
     exact⟨u,u1,trivial,u3⟩
    .rw[g_1 ej]at hj
     obtain⟨v,v1,v2,v3⟩:=f5 j s hj
     exact⟨v,v1,v2.bg (hk _ ψ) (hk _ χ) (λ_ _ h=>h),v3⟩
   .rw[g_1 e]at hi'
    exact(hr.hp.2 i' o' hi').nO (hk _ ψ) (hk _ ψ) (λj=>hk _ χ) (λ_ _ h=>h)
def JN(hop:o.op=.load T x)(hd:o.dst=some d)(hx:sk st x=some (i,off))(hu:(P.underlying T).isNone=false)(ha:fI P T=false)
  (hi:st.H[i]? =some (.cells cs)) (hc:cs[off]? =some (.own n xs)) (hn:st.tmps.all er=true):jO P false st o ⟨(st.put (some d) (.own n xs)).tmps,st.H.set i (.cells (cs.set off .undef))⟩:=
 jO.value λa w g hr=>let⟨u,g',h1,h2,h3,h4⟩:=Am hop hd hx hu ha hi hc hn hr
  ⟨u,w,g',h1,h2,h_0 _,h3 _ ψ,h3 _ ψ,λi k h=>by rw[h4];exact h,nofun,nofun,nofun,⟨rfl,rfl⟩⟩
def ig(i off s:Nat):Own->Own:=λo=>if o=.bN (.slot s)then .bN (.au i off)else o
def oA(h:o≠.bN (.slot s)):ig i off s o=o:=by simp[ig,h]
def cy.slice(h:cy g w l v n xs): ∃a len cap,v=.slice a len cap:=by
 rcases h with⟨_,a,e⟩|⟨k,off,cap,c,T,us,hv,_⟩
 .exact⟨a,0,0,e⟩
 .exact⟨_,_,_,hv⟩
def Bz(hop:o.op=.store T x (.tmp s))(hd:o.dst=none)(hx:sk st x=some (i,off))(hs:st.tmps[s]? =some (.own n xs))(hu:(P.underlying T).isNone=false)(hsz:P.cellsOf T=1)
  (hi:st.H[i]? =some (.cells cs)) (hlt:off<cs.length) (hn:st.tmps.all er=true) (hr:Rel st a w g):
  ∃w' g',(execOp a.eval o).run P w=.ok .skip w'/\Rel ⟨(st.take s).tmps,st.H.set i (.cells (cs.set off (.own n xs)))⟩ (a.put o.dst undef) w' g'/\(∀o',o'≠.bN (.slot s)->o'≠.obj i->aO o' g w g' w')/\g'.ρ=g.ρ/\w'.heap.size=w.heap.size/\fK w w'/\
   ∃k c T fz,g'.ρ[i]? =some k/\g'.ow k=.obj i/\w'.heap[k]? =some (.cells c T fz)/\c[off]? =some (valOf a s):=by
 obtain⟨k,e1,e3⟩:=kW hr hx
 obtain⟨k',c,T0,f1,f2,f3,f4,f5⟩:=hr.hp.2 i _ hi
 rw[e1]at f1
 cases f1
 have ho:cy g w (.slot s) (valOf a s) n xs:=hr.tmp s _ hs
 obtain⟨sa,sl,sc,hv⟩:=ho.slice
 have hev:a.eval (.tmp s)=.slice sa sl sc:=hv
 obtain⟨w',r1,r2,r3,c',r4,r5,r6⟩:=cm (P:=P) k off T0 [.slice sa sl sc] 0 c w f3 χ (by simp[Value.oneCell'])
 have hos:=cK (P:=P) k off T0 [.slice sa sl sc] 0 c w w' f3 χ (by simp[Value.oneCell']) r1
 have hk: ∀o',o'≠.bN (.slot s)->o'≠.obj i->aO o' g w (g.br (ig i off s)) w':=λo' h1 h2=>(aO.block f2 h2 r3).trans (aO.br (oA h1))
 refine⟨w',g.br (ig i off s),?_,?_,hk,rfl,r2,hos,k,c',T0,(0,0),e1,by simp[Gh.br,f2,ig],r4,by rw[r6,if_pos ψ,hv];simp⟩
 .unfold execOp;rw[hop]
  simp only[Instr.storeAt,Sem.run_bind,e3,Instr.sureAddr,Sem.run_pure,Result.andThen_ok,storeVar,gA hu]
  rw[hev]
  simp only[Value.cells]
  simp[hsz,r1]
 .rw[hd]
  refine bc hr (by simp only[Act.put,gF];exact hr.len) hr.dS (λ_ _ h=>h) (λt sv hts=>?_) ⟨by simp[Gh.br,hr.hp.1],λi' o' hi'=>?_⟩
  .rcases cJ hts with h|⟨h1,h2,h3⟩
   .exact .inl h
   .have hnh:er sv=true:=h_4.1 hn sv (h_2.2 ⟨t,h1⟩)
    refine .inr (.inr ⟨h1,rfl,λo' ho'=>hk o' (λe2=>?_) (λe2=>?_),λs0 e0=>⟨rfl,λy hy hb=>⟨y,?_,rfl⟩⟩⟩)
    .subst e2
     rcases pT ho' with h|h
     .exact h2 h.symm
     .rw[h3]at h;cases h
    .subst e2;exact nh ho'
    .have hne:s0≠s:=λe2=>by rw[e2]at e0;rw[cH e0]at h3;cases h3
     show((st.kill s).set s .undef).tmps[s0]? =some y
     simp only[St.set,g_1 (j_6 hne)]
     simp[St.kill,hy,eQ hb]
  .simp only at hi'
   by_cases e:i=i'
   .subst e
    rw[g_0 (aU hi)]at hi'
    cases hi'
    refine⟨k,c',T0,e1,by simp[Gh.br,f2,ig],r4,by simp[r5,f4],λj s' hj=>?_⟩
    by_cases ej:off=j
    .subst ej
     rw[g_0 hlt]at hj
     cases hj
     refine⟨.slice sa sl sc,by rw[r6,if_pos ψ];simp,?_,rfl⟩
     rw[<-hv]
     have h1:cy (g.br (ig i off s)) w (.au i off) (valOf a s) n xs:=cy.br (oA ψ) (by simp[ig]) ho
     refine cy.bg (λk0 b hk0 hb0=>⟨hk0,?_⟩) (λk0 b hk0 hb0=>⟨hk0,?_⟩) (λ_ _ h=>h) h1
     .rw[r3 k0 (λe=>?_)];·exact hb0
      subst e;simp[Gh.br,f2,ig]at hk0
     .rw[r3 k0 (λe=>?_)];·exact hb0
      subst e;simp[Gh.br,f2,ig]at hk0
    .rw[g_1 ej]at hj
     obtain⟨v,v1,v2,v3⟩:=f5 j s' hj
     exact⟨v,φ,v2.bg (hk _ ψ ψ) (hk _ ψ ψ) (λ_ _ h=>h),v3⟩
   .rw[g_1 e]at hi'
    exact(hr.hp.2 i' o' hi').nO (hk _ ψ ψ) (hk _ ψ χ) (λj=>hk _ ψ ψ) (λ_ _ h=>h)
def JP(hop:o.op=.store T x (.tmp s))(hd:o.dst=none)(hx:sk st x=some (i,off))(hs:st.tmps[s]? =some (.own n xs))(hu:(P.underlying T).isNone=false)(hsz:P.cellsOf T=1)
  (hi:st.H[i]? =some (.cells cs)) (hlt:off<cs.length) (hn:st.tmps.all er=true):jO P false st o ⟨(st.take s).tmps,st.H.set i (.cells (cs.set off (.own n xs)))⟩:=
 jO.skip λa w g hr=>let⟨w',g',h1,h2,h3,h4,h5,h6,_⟩:=Bz hop hd hx hs hu hsz hi hlt hn hr
  ⟨w',g',h1,h2,by rw[h5];exact h_0 _,h3 _ ψ ψ,h3 _ ψ ψ,λi k h=>by rw[h4];exact h,nofun,nofun,nofun,h6⟩
end
def dQ{α:Type}(n:Nat)(c:Cd α)(H:Hp)(i off:Nat):Option (List α×Hp):=
 (lW H i).bind λcs=>match cs[off]? with
  |some (.own n' ds)=>if n'=n then(ds.mapM c.dec).map λxs=>(xs,H.set i (.cells (cs.set off .undef)))else none
  |_=>none
def dh{α:Type}(n:Nat)(c:Cd α)(H:Hp)(i off:Nat)(xs:List α):Option Hp:=
 (lW H i).bind λcs=>if off<cs.length then some (H.set i (.cells (cs.set off (.own n (xs.map c.enc)))))else none
def GQ{α:Type}{c:Cd α}{xs:List α}(h:dQ n c H i off=some (xs,H')):
  ∃cs,H[i]? =some (.cells cs)/\cs[off]? =some (.own n (xs.map c.enc))/\H'=H.set i (.cells (cs.set off .undef)):=by
 unfold dQ at h
 simp only[g_9]at h
 obtain⟨cs,h1,h2⟩:=h
 split at h2
 .rename_i n' ds hc
  split at h2
  .rename_i e
   subst e
   simp only[g_4,g_8]at h2
   obtain⟨ys,h3,rfl,rfl⟩:=h2
   have:=q8 c _ _ h3
   exact⟨cs,lz h1,by rw[hc,this],rfl⟩
  .cases h2
 .cases h2
def GU{α:Type}{c:Cd α}{xs:List α}(h:dh n c H i off xs=some H'):
  ∃cs,H[i]? =some (.cells cs)/\off<cs.length/\H'=H.set i (.cells (cs.set off (.own n (xs.map c.enc)))):=by
 unfold dh at h
 simp only[g_9]at h
 obtain⟨cs,h1,h2⟩:=h
 split at h2
 .cases h2;exact⟨cs,lz h1,by assumption,rfl⟩
 .cases h2
section
variable {P:Program} {ops:Array Oper} {k:Nat} {st:St} {Q:St->Prop}
def No(P:Program)(ops:Array Oper)(k:Nat)(st:St):Option (Nat×Nat×Nat×Hp):=
 match fR ops k st with
 |some o=>match o.op with
  |.load T x=>if(!(P.underlying T).isNone&&!fI P T&&st.tmps.all er)=true then match o.dst,sk st x with
   |some d,some (i,off)=>some (d,i,off,st.H)
   |_,_=>none
   else none
  |_=>none
 |none=>none
def tf{α:Type}{c:Cd α}{xs:List α}(n:Nat)(L:List Nat)(l:List (Nat×SV))(hx:dQ n' c H0 i off=some (xs,H))(h:No P ops k st=some (d,i,off,H0))
  (cR:bu n L ⟨(st.put (some d) (.own n' (xs.map c.enc))).tmps,H⟩=some (l,H)) (hn:cf P false ops (k+1) (sp n l H) Q):cf P false ops k st Q:=by
 unfold No at h
 split at h
 .rename_i o ho
  split at h
  .rename_i T x hop
   split at h
   .rename_i hc
    simp only[g_3,k_4]at hc
    split at h
    .rename_i d' i' off' hd hp
     simp only[g_2,g_8]at h
     obtain⟨rfl,rfl,rfl,rfl⟩:=h
     obtain⟨g1,g2⟩:=bo ho
     obtain⟨cs,e1,e2,rfl⟩:=GQ hx
     exact j5 n _ L l g1 g2 (JN hop hd hp hc.1.1 hc.1.2 e1 e2 hc.2) cR hn
    .cases h
   .cases h
  .cases h
 .cases h
def Oi(P:Program)(ops:Array Oper)(k:Nat)(st:St):Option (Nat×Nat×Nat×Nat×List D×Hp):=
 match fR ops k st with
 |some o=>match o.op with
  |.store T x (.tmp s)=>if(!(P.underlying T).isNone&&P.cellsOf T==1&&st.tmps.all er&&o.dst.isNone)=true then match sk st x,st.tmps[s]? with
   |some (i,off),some (.own n xs)=>some (s,i,off,n,xs,st.H)
   |_,_=>none
   else none
  |_=>none
 |none=>none
def Cb{α:Type}{c:Cd α}{xs:List α}(n:Nat)(L:List Nat)(l:List (Nat×SV))(hx:dh n' c H0 i off xs=some H)(h:Oi P ops k st=some (s,i,off,n',xs.map c.enc,H0))
  (cR:bu n L ⟨(st.take s).tmps,H⟩=some (l,H)) (hn:cf P false ops (k+1) (sp n l H) Q):cf P false ops k st Q:=by
 unfold Oi at h
 split at h
 .rename_i o ho
  split at h
  .rename_i T x s' hop
   split at h
   .rename_i hc
    simp only[g_3,k_4,beq_iff_eq,m_2]at hc
    split at h
    .rename_i i' off' n1 ys hp hs
     simp only[g_2,g_8]at h
     obtain⟨rfl,rfl,rfl,rfl,rfl,rfl⟩:=h
     obtain⟨g1,g2⟩:=bo ho
     obtain⟨cs,e1,e2,rfl⟩:=GU hx
     exact j5 n _ L l g1 g2 (JP hop hc.2 hp hs hc.1.1.1 hc.1.1.2 e1 e2 hc.1.2) cR hn
    .cases h
   .cases h
  .cases h
 .cases h
end
def Fw:Option Nat->Fence
 |none=>Fence.wide
 |some l=>Fence.wide.inRound l
def Cm(f:FuncId):(Fw r).fn f:=by cases r<;>trivial
def Ir:(Fw r).depth=none:=by cases r<;>rfl
def Iq:(Fw r).round=r:=by cases r<;>rfl
section
variable {P:Program} {ops:Array Oper} {st:St}
def BK{R:Ending->World->Prop}(h:Calls P f args w R):CallsIn (Fw r) n P f args w R:=by
 cases r with
 |none=>exact callsIn_wide.2 h
 |some l=>exact(callsIn_wide.2 h).inRound l
def LK{R:Value->World->Prop}(h:Rows P row args w R):RowsIn (Fw r) n P row args w R:=by
 intro c cs _
 obtain⟨v,w',hR,hs⟩:=h c cs
 refine⟨v,w',hR,?_⟩
 cases r with
 |none=>exact stepsIn_wide.2 hs
 |some l=>exact stepsIn_wide.2 hs
def NX(X:Act->World->Prop):Exit->Act->World->Prop:=λe a w=>e=.normal/\X a w
def NX.out{X:Act->World->Prop}: ¬LetsOut (NX X):=λ⟨_,_,h,_⟩=>by cases h
def C1{r:Option Nat}{n:Nat}{o:Oper}{a:Act}{N:Act->World->Prop}{X:Act->World->Prop}{Q:Exit->Act->World->Prop}{x:Result Next}(h:o.upon P a N (NX X) x):o.uponIn (Fw r) n P a N Q x:=by
 have hdep:(Fw r).depth.isSome=true->1<=n:=λh=>by rw[Ir]at h;cases h
 cases x with
 |ok nx w'=>
  cases nx<;>simp only[Oper.upon]at h<;>simp only[Oper.uponIn]<;>first
   |exact h
   |exact h.elim
   |(refine⟨hdep,BK (h.mono λe w'' hh=>?_)⟩
     cases e with
     |returned v=>exact hh
     |panicked ch=>cases hh.1
     |outgrown=>exact absurd hh NX.out)
   |exact⟨hdep,LK h⟩
 |halt hh w'=>cases hh<;>simp only[Oper.upon]at h<;>first|exact h.elim|cases h.1
def ng{X:Act->World->Prop}{Q:Exit->Act->World->Prop}(hX: ∀a w,X a w->wpListIn (Fw r) n P ops' Q rest a w):
  ∀(l:List Oper) (a:Act) (w:World),(∀o∈l,∀c,o.op≠.defer c)->(∀o∈l,∀j b,o.guard=some (j,b)->ops'[j]? =ops[j]?)->wpList P ops (NX X) l a w->wpListIn (Fw r) n P ops' Q (l++rest) a w
 |[],a,w,_,_,h=>hX a w h.2
 |o::l,a,w,hd,hg,h=>by
  have e:Region.wanted o (yielded ops' a.tmps)=Region.wanted o (yielded ops a.tmps):=by
   unfold Region.wanted
   cases ho:o.guard with
   |none=>rfl
   |some p=>
    obtain⟨j,b⟩:=p
    simp only[yielded,hg o q_5 j b ho]
  rw[m_7]
  unfold wpList at h
  unfold wpListIn
  rw[e]
  split
  .rename_i hw
   rw[if_pos hw]at h
   rcases h with h|h
   .refine⟨λf _=>Cm f,?_⟩
    rw[Iq,Oper.semAt_eq r a.eval o (hd o q_5)]
    exact C1 (Oper.wp_mono (K':=wpListIn (Fw r) n P ops' Q (l++rest)) (λa' w' hh=>ng hX l a' w' (λo ho=>hd o (m_1 _ ho)) (λo ho=>hg o (m_1 _ ho)) hh) h)
   .exact absurd h.2 NX.out
  .rename_i hw
   rw[if_neg hw]at h
   exact⟨λf _=>Cm f,ng hX l _ w (λo ho=>hd o (m_1 _ ho)) (λo ho=>hg o (m_1 _ ho)) h⟩
def fY(l:List Oper):Bool:=l.all λo=>match o.op with|.defer _=>false|_=>true
def jU(h:fY l=true): ∀o∈l,∀c,o.op≠.defer c:=λo ho c e=>by
 have:=h_4.1 h o ho
 rw[e]at this
 cases this
def Iz{r:Option Nat}{n id:Nat}{K:St->Prop}{Q:Exit->Act->World->Prop}{a:Act}{w:World}{g:Gh}(hd:fY ops.toList=true)(h:cf P false ops 0 st K)(hr:Rel st a w g)
  (hq: ∀st' a' w' g',K st'->Rel st' a' w' g'->Fr false g w g' w'->Q .normal a' w'):(Code.region id ops false).wpIn (Fw r) n P Q a w:=by
 refine wpIn_region_list ?_
 unfold cf at h
 rw[q_1]at h
 have h1:=h a w g hr (NX (Q .normal)) (λst' a' w' g' q r f=>⟨rfl,hq st' a' w' g' q r f⟩)
 have:=ng (r:=r) (n:=n) (ops':=ops) (Q:=Q) (rest:=[]) (λa w h=>wpListIn_nil h) ops.toList a w (jU hd) (λ_ _ _ _ _=>rfl) h1
 rwa [p_4]at this
def M4(C:Gh->World->Prop):Prop:= ∀g w g' w',C g w->Fr false g w g' w'->C g' w'
def YB(P:Program)(C:Gh->World->Prop)(l:Nat)(args:List SV)(H H':List aN):Prop:=
 ∀(w:World) (g:Gh) (vs:Array Value),C g w->jM g w vs args->RH g w H-> ∃fn tmps assign body,(Instr.yield l vs).run P w=.ok (.round l fn tmps assign body) w/\
  ∀n,RoundIn Fence.wide n P l fn tmps assign body w λe w'=>e=.returned (.bool true)/\ ∃g',RH g' w' H'/\Fr false g w g' w'/\ ∀o,iZ o=false->aO o g w g' w'
variable {C:Gh->World->Prop} {Q:Exit->St->Prop}
end
section
variable {P:Program} {st:St}
def FK: ¬jQ t s .out:=by
 intro h
 cases s<;>simp[jQ]at h
def Rel.outside(h:Rel st a w g)(hl:g.ow l=.out)(hw: ∀k,k≠l->w'.heap[k]? =w.heap[k]?):Rel st a w' g:=by
 have hk: ∀o,o≠.out->aO o g w g w':=λo ho k b h1 h2=>⟨h1,φ⟩
 refine bc h h.len h.dS (λ_ _ h=>h) (λt s hs=>.inr (.inr ⟨hs,rfl,λo' ho'=>hk o' (λe=>by subst e;exact FK ho'),λs0 e=>⟨rfl,λx hx hb=>⟨x,hx,rfl⟩⟩⟩)) ?_
 exact h.hp.bg (λo ho=>hk o (λe=>by subst e;exact ho)) (λ_ _ h=>h) rfl
def bZ{w:World}{l k:Nat}{o:Obj}(h:k≠l):(w.putObj l o).heap[k]? =w.heap[k]? :=World.putObj_heap_other h
def ME(P:Program)(r:Option Nat)(c:Code)(st:St)(K:St->Prop):Prop:=
 ∀n a w g,Rel st a w g->c.wpIn (Fw r) n P (λe a' w'=>e=.normal/\ ∃st' g',K st'/\Rel st' a' w' g'/\Fr false g w g' w') a w
variable {r:Option Nat} {K:St->Prop}
def py{ops:Array Oper}{id:Nat}(hd:fY ops.toList=true)(h:cf P false ops 0 st K):ME P r (.region id ops false) st K:=
 λn a w g hr=>Iz hd h hr λst' a' w' g' q r f=>⟨rfl,st',g',q,r,f⟩
def JI{id:Nat}{c:Code}(h:ME P r c st K):ME P r (.block id c) st K:=λn a w g hr=>
 wpIn_block (Code.wpIn_mono (λe a' w' hh=>by obtain⟨rfl,hh⟩:=hh;exact⟨rfl,hh⟩) (h n a w g hr))
def tw(l:Nat)(R:Loop)(ds:List (Nat×D))(g:Gh)(w:World):Prop:=
 w.heap[l]? =some (.loop R)/\g.ow l=.out/\ ∀t d,(t,d)∈ds->Rd g w (R.tmps.getD t undef) d
def tw.fr:M4 (tw l R ds):=λg w g' w' h f=>
 ⟨(f.out l _ h.2.1 h.1).2,(f.out l _ h.2.1 h.1).1,λt d hd=>(h.2.2 t d hd).bg f.free f.qH⟩
def Fe{l tp:Nat}{R:Loop}{ds:List (Nat×D)}{y:D}{H H':List aN}{s0:St}(cR:R.state=.ready)(hpe:R.pending=none)(hps:R.params= #[tp])(hH:s0.H=H)(hlen:s0.tmps.length=R.tmps.size)
  (hs0: ∀t s,s0.tmps[t]? =some s->s=.undef\/ ∃d,s=.d d/\((t=tp/\d=y)\/(t≠tp/\(t,d)∈ds)))
  (h:ME P (some l) R.assign s0 (λs1=>ME P (some l) R.body s1 (λs2=>s2.H=H'))):YB P (tw l R ds) l [.d y] H H':=by
 intro w g vs hC hRA hRH
 obtain⟨hl1,hl2,hl3⟩:=hC
 obtain⟨hv1,hv2⟩:=hRA
 obtain⟨v,hv3,hv4⟩:=hv2 0 (.d y) rfl
 have hvs:vs= #[v]:=by
  grind
 subst hvs
 have hv4:Rd g w v y:=hv4
 refine⟨R.fn,R.tmps.setIfInBounds tp v,R.assign,R.body,?_,λn=>?_⟩
 .rw[run_yield hl1 (by rw[hps];rfl),hps]
  simp
 .have hrel:Rel s0 {tmps:=R.tmps.setIfInBounds tp v,defers:=[]} w (g.br (aC [] [])):=by
   refine⟨by simp[hlen],rfl,λt s hs=>?_,?_⟩
   .rcases hs0 t s hs with rfl|⟨d,rfl,h|⟨h1,h2⟩⟩
    .trivial
    .obtain⟨rfl,rfl⟩:=h
     have hlt:t<R.tmps.size:=by rw[<-hlen];exact aU hs
     have:valOf {tmps:=R.tmps.setIfInBounds t v,defers:=[]} t=v:=by
      simp[valOf,k_7,hlt]
     rw[this]
     exact hv4.bg (aO.br rfl) (λ_ _ h=>h)
    .have:valOf {tmps:=R.tmps.setIfInBounds tp v,defers:=[]} t=R.tmps.getD t undef:=by
      simp[valOf,k_7,Array.getElem?_setIfInBounds,j_6 h1]
     rw[this]
     exact(hl3 t d h2).bg (aO.br rfl) (λ_ _ h=>h)
   .rw[hH]
    exact hRH.bg (λo' ho'=>aO.br (by
     cases o'<;>simp only[kn]at ho'<;>try rfl
     rename_i l
     cases l<;>simp only[kn]at ho'
     rfl)) (λ_ _ h=>h) rfl
  have hgl:(g.br (aC [] [])).ow l=.out:=by simp[Gh.br,hl2,aC]
  refine roundIn_of_wpIn (F:=Fence.wide) trivial (Code.wpIn_mono (λe a1 w1 hh=>?_) (h n _ w _ hrel))
  obtain⟨rfl,jh,g1,q1,r1,f1⟩:=hh
  obtain⟨k1,k2⟩:=f1.out l _ hgl hl1
  refine⟨_,run_beginRound k2 cR,?_⟩
  have r2:=r1.outside (w':=w1.putObj l (.loop {R with state:=.busy})) k1 (λk hk=>bZ hk)
  refine Code.wpIn_mono (λe a3 w3 hh=>?_) (q1 n a1 _ g1 r2)
  obtain⟨rfl,st3,g3,q3,r3,f3⟩:=hh
  have hbusy:(w1.putObj l (.loop {R with state:=.busy})).heap[l]? =some (.loop {R with state:=.busy}):=World.putObj_heap_same (m_0.1 k2).1
  obtain⟨m1,m2⟩:=f3.out l _ k1 hbusy
  refine⟨_,_,run_endRound none m2,rfl,?_⟩
  have hR:({{R with state:=.busy}with state:=if(none:Option Code).isNone then .ready else .done,pending:=none}:Loop)=R:=by
   simp[<-cR,<-hpe]
  rw[hR]
  have r4:=r3.outside (w':=w3.putObj l (.loop R)) m1 (λk hk=>bZ hk)
  have hl4:(w3.putObj l (.loop R)).heap[l]? =some (.loop R):=World.putObj_heap_same (m_0.1 m2).1
  have hback: ∀{o:Own},aO o (g.br (aC [] [])) w g1 w1->aO o g1 (w1.putObj l (.loop {R with state:=.busy})) g3 w3->aO o (g.br (aC [] [])) w g3 (w3.putObj l (.loop R)):=λ{o} ha hb k b e1 e2=>by
   obtain⟨x1,x2⟩:=ha k b e1 e2
   by_cases hk:k=l
   .grind
   .obtain⟨y1,y2⟩:=hb k b x1 (by rw[bZ hk];exact x2)
    exact⟨y1,by rw[bZ hk];exact y2⟩
  have hfr:Fr false (g.br (aC [] [])) w g3 (w3.putObj l (.loop R)):=by
   refine⟨?_,hback f1.free f3.free,hback f1.out f3.out,λi k h=>f3.qH i k (f1.qH i k h),nofun,nofun,nofun,?_⟩
   .have h1:=f1.size
    have h2:=f3.size
    simp only[World.putObj,Array.size_setIfInBounds]at h2 ⊢
    omega
   .exact f1.os.trans f3.os
  have hRH3:RH g3 (w3.putObj l (.loop R)) H':=by rw[<-q3];exact r4.hp
  obtain⟨p1,p2⟩:=mS 0 hfr hRH3
  exact⟨_,p2,p1,λo ho=>Bo (t:=0) hfr ho⟩
end
section
variable {P:Program} {st:St} {C:Gh->World->Prop} {Q:Exit->St->Prop} {ops:Array Oper} {m:Nat} {K:St->Prop}
def Ek{Qc:Exit->Act->World->Prop}(hd:fY ops.toList=true)(h:cf P false ops k st K)(hr:Rel st a w g)
  (hq: ∀st' a' w' g',K st'->Rel st' a' w' g'->Fr false g w g' w'->Qc .normal a' w'):wpListIn Fence.wide n P ops Qc (ops.toList.drop k) a w:=by
 have h1:=h a w g hr (NX (Qc .normal)) (λst' a' w' g' q r f=>⟨rfl,hq st' a' w' g' q r f⟩)
 have:=ng (r:=none) (n:=n) (ops':=ops) (Q:=Qc) (rest:=[]) (λa w h=>wpListIn_nil h) (ops.toList.drop k) a w (λo ho=>jU hd o (w_5 ho)) (λ_ _ _ _ _=>rfl) h1
 rwa [p_4]at this
def Vp(P:Program)(ops:Array Oper)(k:Nat)(st:St):Option (Option Tmp×Nat×D):=
 match fR ops k st with
 |some o=>match o.op with
  |.call c=>match c.callee,c.args.toList with
   |.value fo,[x]=>match cx st fo,cx st x with
    |some (.fn (.yield l) [] []),some d=>some (o.dst,l,d)
    |_,_=>none
   |_,_=>none
  |_=>none
 |none=>none
end
def su(r:Nat):Deferred:={target:=.collected r,args:= #[]}
def Mk(n:Nat)(ds:List Deferred)(g:Gh)(w:World):Prop:= ∃rs:List Nat,ds=rs.map su/\rs.Nodup/\(∀r∈rs,n<=r)/\ ∀r∈rs,w.heap[r]? =some (.deferred (some []))/\g.ow r=.out
def Mk.nil:Mk n [] g w:=⟨[],rfl,List.nodup_nil,(λ_ h=>by cases h),λ_ h=>by cases h⟩
def Mk.le(h:Mk n' ds g w)(hn:n<=n'):Mk n ds g w:=let⟨rs,a,b,c,d⟩:=h;⟨rs,a,b,λr hr=>v_2 hn (c r hr),d⟩
def Mk.fr(h:Mk n ds g w)(f:Fr false g w g' w'):Mk n ds g' w':=by
 obtain⟨rs,h1,h2,h0,h3⟩:=h
 exact⟨rs,h1,h2,h0,λr hr=>⟨(f.out r _ (h3 r hr).2 (h3 r hr).1).2,(f.out r _ (h3 r hr).2 (h3 r hr).1).1⟩⟩
section
variable {P:Program} {st:St} {Q:Exit->St->Prop}
def ta(P:Program)(c:Code)(st:St)(Q:Exit->St->Prop):Prop:=
 ∀a w g,Rel st a w g->c.wp P (λe a' w'=> ∃ds a0 st' g',Mk w.heap.size ds g' w'/\a'=jD a0 ds/\Q e st'/\Rel st' a0 w' g'/\Fr false g w g' w') a w
def LZ(a:Act):jD a []=a:=by simp[jD]
def ir(h:SW P false x st (thenS (λs=>ta P y s Q) Q)):ta P (.seq x y) st Q:=by
 intro a w g hr
 refine wp_seq (Code.wp_mono (λe a' w' hh=>?_) (h a w g hr))
 obtain⟨st',g',q,r,f⟩:=hh
 cases e with
 |normal=>
  refine Code.wp_mono (λe2 a2 w2 hh2=>?_) (q a' w' g' r)
  obtain⟨ds,a0,iY,g2,m2,e2,q2,r2,f2⟩:=hh2
  exact⟨ds,a0,iY,g2,m2.le f.size,e2,q2,r2,f.trans f2⟩
 |_=>exact⟨[],a',st',g',.nil,(LZ a').symm,q,r,f⟩
def vy(h:ta P x st (thenS (λs=> ∀ds,PS P ds y s Q) Q)):ta P (.seq x y) st Q:=by
 intro a w g hr
 refine wp_seq (Code.wp_mono (λe a' w' hh=>?_) (h a w g hr))
 obtain⟨ds,a0,st',g',m,rfl,q,r,f⟩:=hh
 cases e with
 |normal=>
  refine Code.wp_mono (λe2 a2 w2 hh2=>?_) (q ds a0 w' g' r)
  obtain⟨a1,iY,g2,e2,q2,r2,f2⟩:=hh2
  exact⟨ds,a1,iY,g2,m.fr f2,e2,q2,r2,f.trans f2⟩
 |_=>exact⟨ds,a0,st',g',m,rfl,q,r,f⟩
def s9{id:Nat}{c:Code}(h:ta P c st (o0 id Q)):ta P (.block id c) st Q:=by
 intro a w g hr
 refine wp_block (Code.wp_mono (λe a' w' hh=>?_) (h a w g hr))
 obtain⟨ds,a0,st',g',m,e0,q,r,f⟩:=hh
 cases e with
 |exit id'=>
  simp only[o0]at q
  simp only[Exit.inBlock]
  grind
 |_=>exact⟨ds,a0,st',g',m,e0,q,r,f⟩
def B6(n:Nat)(H:List aN)(L:List Nat)(l:List (Nat×SV))(cR:bu n L st=some (l,H))(h:ta P c (sp n l H) Q):ta P c st Q:=
 λa w g hr=>h a w g (hr.bC (aL cR))
def xn(h:w.heap[r]? =some (.deferred (some []))):(Instr.takeDeferred r).run P w=.ok [] (w.putObj r (.deferred none)):=run_takeDeferred h
def HQ(hf:P.funcs[f]? =some fn)(hb:fn.body=some c)
  (h:ta P c (k8 fn.ntmps args H) (dw P fn.results.toList H' r)):SB P f args H (.ok (r,H')):=by
 intro w g vs ha hH
 refine callsIn_wide.1 (callsIn_of_wp_marks (n:=0) hf hb trivial ((wpIn_wide (n:=0)).2 (Code.wp_mono (λe a' w' hh=>?_) (h _ _ g (oD ha hH fn.ntmps)))))
 obtain⟨ds,a0,st',g',m,rfl,⟨he,l,h1,h2⟩,hr,hfr⟩:=hh
 obtain⟨rs,rfl,hnd,hbase,hrs⟩:=m
 have key: ∀(rs:List Nat) (w1:World),rs.Nodup->(∀r∈rs,w.heap.size<=r)->(∀r∈rs,w1.heap[r]? =some (.deferred (some []))/\g'.ow r=.out)->Rel (st'.kX l) a0 w1 g'->aO .free g w g' w1->aO .out g w g' w1->w.heap.size<=w1.heap.size->fK w w1->
   LeavesInM Fence.wide 0 P fn a0.tmps (λe w'=> ∃v g',e=.returned v/\yn g' w' v r/\RH g' w' H'/\Fr false g w g' w') (rs.map su) .returning w1:=by
  intro rs
  induction rs with
  |nil=>
   intro w1 _ _ _ hr1 k1 k2 k3 k4
   obtain⟨v,g5,e5,e6,e7,e8⟩:=Sw (pu:=false) hr1 (wL h1)
   have hH1:(st'.kX l).H=H':=by rw[rm];exact h2
   rw[hH1]at e7
   have:Fr false g w g' w1:=⟨k3,k1,k2,hfr.qH,nofun,nofun,nofun,k4⟩
   exact⟨v,e5,v,g5,rfl,e6,e7,this.trans e8⟩
  |cons r0 rs ih=>
   intro w1 hn hb0 hh hr1 k1 k2 k3 k4
   rw[List.nodup_cons]at hn
   obtain⟨t1,t2⟩:=hh r0 ψ
   have hb1:=hb0 r0 ψ
   refine⟨ψ,.inl ⟨r0,_,rfl,xn t1,?_⟩⟩
   have hne: ∀{k:Nat} {b:Obj},w.heap[k]? =some b->k≠r0:=λhk e=>by
    have:=QF hk
    omega
   refine ih _ hn.2 (λr hr=>hb0 r (by simp[hr])) (λr hr=>⟨?_,(hh r (by simp[hr])).2⟩) (hr1.outside t2 (λk hk=>bZ hk)) (λk b x1 x2=>?_) (λk b x1 x2=>?_) ?_ k4
   .have hne2:r≠r0:=λe=>hn.1 (by rw[<-e];exact hr)
    rw[bZ hne2]
    exact(hh r (by simp[hr])).1
   .obtain⟨y1,y2⟩:=k1 k b x1 x2
    exact⟨y1,by rw[bZ (hne x2)];exact y2⟩
   .obtain⟨y1,y2⟩:=k2 k b x1 x2
    exact⟨y1,by rw[bZ (hne x2)];exact y2⟩
   .simpa[World.putObj]using k3
 have hds:(jD a0 (rs.map su)).defers=rs.map su:=by simp[jD,hr.dS]
 have fin:=key rs w' hnd hbase hrs hr.kX hfr.free hfr.out hfr.size hfr.os
 rcases he with rfl|rfl
 .show LeavesInM Fence.wide 0 P fn _ _ (jD a0 (rs.map su)).defers .returning w'
  rw[hds];exact fin
 .show LeavesInM Fence.wide 0 P fn _ _ (jD a0 (rs.map su)).defers .returning w'
  rw[hds];exact fin
where
 QF {w:World} {k:Nat} {b:Obj} (h:w.heap[k]? =some b):k<w.heap.size:=(m_0.1 h).1
end
def UE(P:Program)(C:Gh->World->Prop)(f:FuncId)(args:List SV)(H H':List aN):Prop:=
 ∀(w:World) (g:Gh) (vs:Array Value),C g w->jM g w vs args->RH g w H->Calls P f vs w λe w'=> ∃v g',e=.returned v/\RH g' w' H'/\Fr false g w g' w'
section
variable {P:Program} {st:St} {Q:Exit->St->Prop}
def Fl(hg:cx st gop=some (.fn (.func f) [] caps))(hfn:EJ P f=true)(hn:st.tmps.all er=true)
  (hds: ∀t d,(t,d)∈ds->st.tmps[t]? =some (.d d))
  (hf: ∀(l:Nat) (R:Loop),R.state=.ready->R.pending=none->R.params=ps->R.assign=assign->R.body=body->R.tmps.size=st.tmps.length->UE P (tw l R ds) f (.d (.fn (.yield l) [] [])::caps.map .d) st.H H')
  (hq:Q .normal ⟨st.tmps,H'⟩):ta P (.rangeFunc gop ps assign body) st Q:=by
 intro a w g hr
 refine(wpIn_wide (n:=0)).1 (wpIn_rangeFunc λfn _=>?_)
 let R:Loop:={state:=.ready,pending:=none,fn,tmps:=a.tmps,params:=ps,assign,body,defers:=w.heap.size}
 let w0:=w.alloc (.deferred (some []))
 let w1:=w0.alloc (.loop R)
 let g1:=(g.xe w.heap.size .out).xe w0.heap.size .out
 have hs0:w0.heap.size=w.heap.size+1:=by simp[w0]
 have hk: ∀o,aO o g w g1 w1:=λo=>(aO.alloc (t:=.out)).trans (aO.alloc (t:=.out))
 have hr1:Rel st a w1 g1:=hr.world hk (λ_ _ h=>h) rfl
 have hfr1:Fr false g w g1 w1:=⟨by simp[w1,w0];omega,hk _,hk _,λ_ _ h=>h,nofun,nofun,nofun,⟨rfl,rfl⟩⟩
 have hl1:w1.heap[w.heap.size+1]? =some (.loop R):=by rw[<-hs0];exact World.alloc_heap_new w0 _
 have hm1:w1.heap[w.heap.size]? =some (.deferred (some [])):=(aO.alloc (o':=.out) (g:=(g.xe w.heap.size .out)) (w:=w0) (o:=.loop R) (t:=.out) _ _ ψ (World.alloc_heap_new w _)).2
 have hgl:g1.ow (w.heap.size+1)=.out:=by rw[<-hs0];simp[g1]
 have hgm:g1.ow w.heap.size=.out:=by simp[g1,Gh.xe]
 have hrf:=cw hr1 hg
 obtain⟨vc,hev,lc,rc⟩: ∃vc:Array Value,a.eval gop=.func (.func f) #[] vc/\vc.size=caps.length/\(∀(j:Nat) (y:D),caps[j]? =some y-> ∃u,vc[j]? =some u/\Rd g1 w1 u y):=by
  generalize a.eval gop=v at hrf
  cases hrf with
  |fn hl1 hl2 us1 us2 hc1 hr1 hc2 hr2=>
   grind
 let yl:Value:=.func (.yield (w.heap.size+1)) #[] #[]
 refine⟨w.heap.size+1,[su w.heap.size],w1,{target:=.fn (.func f) vc,args:= #[yl]},w1,f,#[yl]++vc,w1,run_enterLoop_outer _ _ _ _ _,?_,λ_ _=>trivial,?_,(λh=>nomatch h),?_⟩
 .simp only[resolve,rangeCall,hev,Deferred.ofValue,p_2,h_3,q_7]
  rfl
 .unfold EJ at hfn
  split at hfn
  .rename_i fn' hfn'
   simp only[g_3,bne_iff_ne]at hfn
   obtain⟨k1,k2⟩:=hfn
   have k2':fn'.body.isNone=false:=by simp_all
   simp only[invoke,callFunc,Sem.run_bind,run_program,Result.andThen_ok,hfn']
   rw[if_neg (by simpa using k1),k2']
   rfl
  .cases hfn
 .have kp: ∀{v:Value} {d:D},Rd g1 w1 v d->Rd (g1.br (aC [] [])) w1 v d:=λhr=>hr.bg (aO.br rfl) (λ_ _ h=>h)
  have hC:tw (w.heap.size+1) R ds (g1.br (aC [] [])) w1:=by
   refine⟨hl1,by simp[Gh.br,hgl,aC],λt d hd=>kp ?_⟩
   exact hr1.tmp t _ (hds t d hd)
  have hRA:jM (g1.br (aC [] [])) w1 (#[yl]++vc) (.d (.fn (.yield (w.heap.size+1)) [] [])::caps.map .d):=by
   refine⟨by simp[lc];omega,λj s hj=>?_⟩
   cases j with
   |zero=>
    simp only[j_3,g_2]at hj
    subst hj
    refine⟨yl,φ,?_⟩
    exact .fn rfl rfl (λ_=>undef) (λ_=>undef) (λj y hj=>by simp at hj) (λj y hj=>by simp at hj) (λj y hj=>by simp at hj) (λj y hj=>by simp at hj)
   |succ j=>
    simp only[k_8,h_1,g_4]at hj
    obtain⟨d,hd,rfl⟩:=hj
    obtain⟨u,e1,e2⟩:=rc j d hd
    refine⟨u,?_,kp e2⟩
    grind
  have hRH:RH (g1.br (aC [] [])) w1 st.H:=hr1.hp.bg (λo' ho'=>aO.br (by
   cases o'<;>simp only[kn]at ho'<;>try rfl
   rename_i l
   cases l<;>simp only[kn]at ho'
   rfl)) (λ_ _ h=>h) rfl
  refine callsIn_wide.2 ((hf (w.heap.size+1) R rfl rfl rfl rfl rfl hr.len w1 _ _ hC hRA hRH).mono λe w3 hh=>?_)
  obtain⟨v,g3,rfl,hH3,hf3⟩:=hh
  obtain⟨p1,p2⟩:=mS 0 hf3 hH3
  have hrel3:=hr1.OM 0 hf3 hH3 hn
  obtain⟨q1,q2⟩:=p1.out _ _ hgl hl1
  obtain⟨m1,m2⟩:=p1.out _ _ hgm hm1
  refine⟨none,_,run_endLoop q2 (by simp[R]),?_⟩
  have hrel4:=hrel3.outside (w':=w3.putObj (w.heap.size+1) (.loop {R with state:=.exhausted})) q1 (λk hk=>bZ hk)
  refine⟨[su w.heap.size],a,⟨st.tmps,H'⟩,_,⟨[w.heap.size],rfl,ψ,ψ,λr hr'=>?_⟩,?_,hq,hrel4,?_⟩
  .simp only[w_2]at hr'
   subst hr'
   exact⟨by rw[bZ ω];exact m2,m1⟩
  .simp[jD,hr.dS]
  .have hne: ∀{k:Nat} {b:Obj},w.heap[k]? =some b->k≠w.heap.size+1:=λhk e=>by
    grind
   have f13:=hfr1.trans p1
   refine⟨?_,λk b x1 x2=>?_,λk b x1 x2=>?_,f13.qH,nofun,nofun,nofun,f13.os⟩
   .have:=f13.size
    simpa[World.putObj]using this
   .obtain⟨y1,y2⟩:=f13.free k b x1 x2
    exact⟨y1,by rw[bZ (hne x2)];exact y2⟩
   .obtain⟨y1,y2⟩:=f13.out k b x1 x2
    exact⟨y1,by rw[bZ (hne x2)];exact y2⟩
end
def Su:SV->SV
 |.own n xs=>.d (.list n xs)
 |.mf _ _ _=>.undef
 |s=>s
section
variable {P:Program} {st:St} {ds:List Deferred} {Q:Exit->St->Prop}
def Rel.unbox(hr:Rel st a w g)(ht:st.tmps[t]? =some (.d (.ptr i 0)))(hi:st.H[i]? =some (.cells cs))(hn:st.tmps.all er=true):
  ∃g',Rel ⟨(st.set t (.box (cs.map Su))).tmps,st.H.set i .hole⟩ a w g'/\Fr false g w g' w:=by
 let rn:Own->Own:=λo=>match o with
  |.obj j=>if j=i then .box t else .obj j
  |.bN (.au j c)=>if j=i then .free else .bN (.au j c)
  |o=>o
 have hk: ∀o,(∀j,o=.obj j->j≠i)->(∀j c,o=.bN (.au j c)->j≠i)->aO o g w (g.br rn) w:=λo h1 h2=>aO.br (by
  grind)
 have hf:aO .free g w (g.br rn) w:=hk _ ψ ψ
 have hout:aO .out g w (g.br rn) w:=hk _ ψ ψ
 refine⟨g.br rn,?_,h_0 _,hf,hout,λ_ _ h=>h,nofun,nofun,nofun,⟨rfl,rfl⟩⟩
 obtain⟨k,c,T,f1,f2,f3,f4,f5⟩:=hr.hp.2 i _ hi
 refine bc hr (by simp[St.set,hr.len]) hr.dS (λ_ _ h=>h) (λt' s hs=>?_) ⟨by simp[Gh.br,hr.hp.1],λi' o' hi'=>?_⟩
 .by_cases e:t=t'
  .subst e
   simp only[St.set]at hs
   rw[g_0 (aU ht)]at hs
   cases hs
   refine .inr (.inl ?_)
   have hv:Rd g w (valOf a t) (.ptr i 0):=hr.tmp t _ ht
   have hv2:valOf a t=.pointer (some ⟨k,0,Option.none⟩):=by
    generalize valOf a t=v at hv
    cases hv with
    |ptr h=>rw[f1]at h;cases h;rfl
   refine⟨k,c,T,hv2,by simp[Gh.br,f2,rn],f3,by simp[f4],λj s hj=>?_⟩
   simp only[h_1,g_4]at hj
   obtain⟨s0,hj0,rfl⟩:=hj
   obtain⟨u,u1,u2,u3⟩:=f5 j s0 hj0
   refine⟨u,u1,?_,u3⟩
   cases s0 with
   |d x=>exact(show Rd g w u x from u2).bg hf (λ_ _ h=>h)
   |own n xs=>exact eZ.free (l:=.au i j) rfl (by simp[rn]) (cy.oJ u2)
   |mf v0 n xs=>trivial
   |undef=>trivial
   |_=>exact u2.elim
  .simp only[St.set]at hs
   rw[g_1 e]at hs
   have hnh:er s=true:=h_4.1 hn s (h_2.2 ⟨t',hs⟩)
   refine .inr (.inr ⟨hs,rfl,λo' ho'=>hk o' (λj e2=>?_) (λj c e2=>?_),λs0 e0=>⟨rfl,λx hx hb=>⟨x,?_,rfl⟩⟩⟩)
   .subst e2;exact absurd ho' nh
   .subst e2;exact absurd ho' (oI hnh)
   .have hne:t≠s0:=λe3=>by
     subst e3
     rw[ht]at hx
     cases hx
     obtain⟨y,hy,hb0⟩:=kM (hr.tmp t' _ hs) e0
     rw[ht]at hy
     cases hy
     simp[gl]at hb0
    show((st.set t _).tmps)[s0]? =some x
    simp only[St.set]
    grind
 .simp only at hi'
  by_cases e:i=i'
  .subst e
   rw[g_0 (aU hi)]at hi'
   cases hi'
   trivial
  .rw[g_1 e]at hi'
   exact(hr.hp.2 i' o' hi').nO hf (hk _ (λj e2=>by cases e2;exact j_6 e) ψ) (λj=>hk _ ψ (λj' c e2=>by cases e2;exact j_6 e)) (λ_ _ h=>h)
end
section
variable {P:Program} {st:St} {ds:List Deferred} {Q:Exit->St->Prop}
def Ni(st:St)(t:Nat):Option St:=match st.tmps[t]? with
 |some (.d (.ptr i 0))=>match st.H[i]? with
  |some (.cells cs)=>if st.tmps.all er=true then some ⟨(st.set t (.box (cs.map Su))).tmps,st.H.set i .hole⟩else none
  |_=>none
 |_=>none
end
section
variable {P:Program} {st:St} {Q:Exit->St->Prop}
def Q1{K:St->Prop}(n:Nat)(H:List aN)(L:List Nat)(l:List (Nat×SV))(cR:bu n L st=some (l,H))(h:ME P r c (sp n l H) K):ME P r c st K:=
 λm a w g hr=>h m a w g (hr.bC (aL cR))
end
end Go.Sh
