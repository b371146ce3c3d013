/- Contracts of functions over plain data. -/
import Derived.Test.YtmhiemakdfkmeaaGreatS1
import Derived.Deep.Quiet
import Derived.Lib.ConvBytes
import Derived.Maps.RangeRun
import Derived.Lib.SliceRun
import Derived.Laws.Externs
import Derived.IntWalk
import Derived.Lib.Bytealg
import Derived.Sort.Grow
import Derived.Recover
import Derived.RangeFuncNested
import Derived.TacticsIn
set_option linter.all false
set_option autoImplicit true
set_option relaxedAutoImplicit true
namespace Go.Sh
def za:D->Option Value
 |.fn f [] []=>some (.func f #[] #[])
 |d=>pg d
def y8:List D->Option (List Value)
 |[]=>some []
 |d::ds=>match za d,y8 ds with
  |some v,some vs=>some (v::vs)
  |_,_=>none
def IW:D->Option Value
 |.agg cs=>(y8 cs).map λvs=>.agg vs.toArray
 |d=>za d
def GU(h:Rd g w v d)(hd:za d=some u):v=u:=by
 unfold za at hd
 split at hd
 .cases hd
  cases h with
  |fn hl1 hl2 us1 us2 hc1 hr1 hc2 hr2=>
   grind
 .exact Gq hd h
def GS: ∀{cs:List D} {vs:List Value} {us:List Value},y8 cs=some vs->us.length=cs.length->(∀(j:Nat) (y:D),cs[j]? =some y-> ∃u,us[j]? =some u/\Rd g w u y)->us=vs
 |[],vs,us,h,hl,_=>by simp[y8]at h;subst h;simpa using hl
 |d::ds,vs,us,h,hl,hr=>by
  simp only[y8]at h
  split at h
  .rename_i v vs' h1 h2
   cases h
   cases us with
   |nil=>simp at hl
   |cons u us=>
    obtain⟨u',e1,e2⟩:=hr 0 d ψ
    simp at e1;subst e1
    rw[GU e2 h1,GS (us:=us) h2 (by simpa using hl) (λj y hj=>by simpa using hr (j+1) y (by simpa using hj))]
  .cases h
def Ko(h:Rd g w v d)(hd:IW d=some u):v=u:=by
 unfold IW at hd
 split at hd
 .rename_i cs
  simp only[g_2]at hd
  obtain⟨vs,h1,rfl⟩:=hd
  cases h with
  |agg hl us hc hr=>
   rename_i us0
   have:=GS (us:=us0.toList) h1 (by simpa using hl) (λj y hj=>⟨us j,by simpa using(hc j y hj).1,hr j y hj⟩)
   rw[<-this]
 .exact GU h hd
def pq:List SV->Option (List Value)
 |[]=>some []
 |.d x::r=>match IW x,pq r with
  |some v,some vs=>some (v::vs)
  |_,_=>none
 |_=>none
def IX:SV->Option Value
 |.d x=>IW x
 |.g8 vs=>(pq vs).map λus=>.tuple us.toArray
 |_=>none
def Dq: ∀{vs:List SV} {ws:List Value},pq vs=some ws->ws.length=vs.length/\ ∀(j:Nat) (s:SV),vs[j]? =some s-> ∃u x,ws[j]? =some u/\s=.d x/\IW x=some u
 |[],ws,h=>by simp[pq]at h;subst h;simp
 |.d x::r,ws,h=>by
  simp only[pq]at h
  split at h
  .rename_i v vs' h1 h2
   cases h
   obtain⟨hl,hr⟩:=Dq h2
   grind
  .cases h
 |.own _ _::_,_,h=>by simp[pq]at h
 |.bS _ _ _::_,_,h=>by simp[pq]at h
 |.eS _ _::_,_,h=>by simp[pq]at h
 |.box _::_,_,h=>by simp[pq]at h
 |.loc _ _::_,_,h=>by simp[pq]at h
 |.g8 _::_,_,h=>by simp[pq]at h
 |.undef::_,_,h=>by simp[pq]at h
 |.Pr _::_,_,h=>by simp[pq]at h
 |.ep _ _ _::_,_,h=>by simp[pq]at h
 |.mI _ _ _::_,_,h=>by simp[pq]at h
def QC(w w':World):Prop:=w.heap.size<=w'.heap.size/\Up w w'/\fE w w'
section
variable {P:Program} {pu:Bool} {st:St} {ops:Array Oper} {k m:Nat} {Q:St->Prop}
def QC.bo(h:QC w w')(g:Gh)(o:Own):aS o g w g w':=λk b h1 h2=>⟨h1,h.2.1 k b h2⟩
def QC.fr(h:QC w w')(g:Gh):Fr pu g w g w':=⟨h.1,h.bo g _,h.bo g _,λ_ _ h=>h,λ_ _=>h.bo g _,λ_ _ _=>h.bo g _,λ_=>rfl,h.2.2⟩
def QC.rel(h:QC w w')(hr:Rel st a w g):Rel st a w' g:=hr.world (λo=>h.bo g o) (λ_ _ h=>h) rfl
def OQ(P:Program)(ops:Array Oper)(l:List Oper)(st:St)(Q:St->Prop):Prop:=
 ∀a w g,Rel st a w g-> ∀Qc:Act->Prop,(∀st' a' g',Q st'->Rel st' a' w g'->(∀pu,Fr pu g w g' w)->Qc a')->wpQuiet P ops (QC w) Qc l a
def jR(P:Program)(ops:Array Oper)(k:Nat)(st:St)(Q:St->Prop):Prop:=OQ P ops (ops.toList.drop k) st Q
def Ms(h:decide (ops.size<=k)=true)(hq:Q st):jR P ops k st Q:=by
 have h:=of_decide_eq_true h
 unfold jR
 rw[q_4 (by simpa using h)]
 exactλa w g hr Qc hc=>hc st a g hq hr λ_=>Fr.refl _ _ _
def Pc(ho:ops[k]? =some o)(hw:fy ops st o=some true)(hb:iW P st o s)(hl:lB o.dst s=true)(h:jR P ops (k+1) (st.put o.dst s) Q):jR P ops k st Q:=by
 unfold jR at h ⊢
 rw[drop_cons ho]
 intro a w g hr Qc hc
 unfold wpQuiet
 rw[bB hr hw,if_pos rfl]
 obtain⟨v,e1,e2⟩:=hb a w g hr
 refine⟨v,λw' hw'=>?_,h _ w g (hr.yO e1 hl) Qc hc⟩
 unfold Oper.quietAt
 rw[e2 w' hw'.2.1]
 exact⟨rfl,rfl⟩
def Ju{o:Oper}{bP:List Nat}{st':St}(ho:ops[k]? =some o)(hw:fy ops st o=some true)(hb:AB bP st o=some st')(h:jR P ops (k+1) st' Q):jR P ops k st Q:=by
 unfold AB at hb
 split at hb
 .rename_i s hop
  split at hb
  .rename_i n xs hs
   split at hb
   .cases hb
    unfold jR at h ⊢
    rw[drop_cons ho]
    intro a w g hr Qc hc
    unfold wpQuiet
    rw[bB hr hw,if_pos rfl]
    have hexec: ∀w',(execOp a.eval o).run P w'=.ok (.value (valOf a s)) w':=λw'=>by unfold execOp;rw[hop];rfl
    obtain⟨g',r,f⟩:=hr.JZ (pu:=true) P hop hs
    refine⟨valOf a s,λw' hw'=>?_,h _ w g' r Qc λst' a' g2 q r2 f2=>hc st' a' g2 q r2 λpu=>Fr.trans ⟨f.1,f.2,f.3,f.4,λ_=>f.5 rfl,λ_=>f.6 rfl,λ_=>f.7 rfl,f.8⟩ (f2 pu)⟩
    unfold Oper.quietAt
    rw[hexec w']
    exact⟨rfl,rfl⟩
   .cases hb
  .cases hb
 .cases hb
def Mr(ho:ops[k]? =some o)(hw:fy ops st o=some false)(h:jR P ops (k+1) (st.put o.dst (.g8 [])) Q):jR P ops k st Q:=by
 unfold jR at h ⊢
 rw[drop_cons ho]
 intro a w g hr Qc hc
 unfold wpQuiet
 rw[bB hr hw,if_neg ψ]
 exact h _ w g (hr.cj o.dst (v:=undef) ⟨#[],rfl,rfl,ψ⟩) Qc hc
def Cg{bP:List Nat}{st':St}(n:Nat)(hr:dJ P bP ops n k st=some st')(h:jR P ops (k+n) st' Q):jR P ops k st Q:=by
 induction n generalizing k st with
 |zero=>cases hr;exact h
 |succ n ih=>
  simp only[dJ]at hr
  split at hr
  .rename_i o ho
   split at hr
   .rename_i kE h1
    have ih':=ih hr φ
    unfold Ei at h1
    split at h1
    .rename_i hw
     cases h1
     exact Mr ho hw ih'
    .rename_i hw
     split at h1
     .rename_i jw h2
      cases h1
      exact Ju ho hw h2 ih'
     .split at h1
      .rename_i s hb
       split at h1
       .rename_i hl
        cases h1
        exact Pc ho hw (cE hb) hl ih'
       .cases h1
      .cases h1
    .cases h1
   .cases hr
  .cases hr
def qV(L:List Nat)(cG:bC L st=some st')(h:jR P ops k st' Q):jR P ops k st Q:=
 λa w g hr=>h a w g (hr.bC cG)
def DP(b:Bool)(S:Bool->St)(h0:st=S b)(hT:b=true->jR P ops k (S true) Q)(hF:b=false->jR P ops k (S false) Q):jR P ops k st Q:=by
 subst h0
 cases b
 .exact hF rfl
 .exact hT rfl
def Dw(hrel:Rel st a w g)(hop:o.op=.call c)(hc:se P st [] c=some kk)(hp:SC P true kk.f kk.args (st.H.mapIdx (mi kk.ls)) r H'):
  ∃args,(execOp a.eval o).run P w=.ok (.enter kk.f args) w/\Calls P kk.f args w λe w'=> ∃v g',e=.returned v/\yo g' w' v r/\Fr true (g.br (aE kk.ls kk.gs)) w g' w':=by
 unfold se at hc
 split at hc
 .rename_i fo hcallee
  split at hc
  .rename_i f first caps hfo
   split at hc
   .rename_i ss ls gs hargs
    split at hc
    .rename_i hok
     cases hc
     rw[g_3]at hok
     obtain⟨hgive,hfn⟩:=hok
     have hgs:=pP hgive
     have hrf:=cx hrel hfo
     obtain⟨vf,vc,hev,lf,lc,rf,rc⟩: ∃vf vc:Array Value,a.eval fo=.func (.func f) vf vc/\vf.size=first.length/\vc.size=caps.length/\
       (∀(j:Nat) (y:D),first[j]? =some y-> ∃u,vf[j]? =some u/\Rd g w u y)/\(∀(j:Nat) (y:D),caps[j]? =some y-> ∃u,vc[j]? =some u/\Rd g w u y):=by
      generalize a.eval fo=v at hrf
      cases hrf with
      |fn hl1 hl2 us1 us2 hc1 hr1 hc2 hr2=>grind
     obtain⟨la,ra⟩:=jK hrel hgs hargs (λ_ h=>h) (λ_ h=>h)
     have hexec:(execOp a.eval o).run P w=.ok (.enter f (vf++c.args.map a.eval++vc)) w:=by
      unfold execOp
      rw[hop]
      exact sG hcallee hev hfn w
     refine⟨_,hexec,?_⟩
     have hRA:kh (g.br (aE ls gs)) w (vf++c.args.map a.eval++vc) (first.map .d++ss++caps.map .d):=by
      have hla:(c.args.map a.eval).size=ss.length:=by rw[<-la];simp
      have hla':c.args.size=ss.length:=by rw[<-la];simp
      refine⟨by simp[lf,lc,<-la],λj s hj=>?_⟩
      have kp: ∀{v:Value} {d:D},Rd g w v d->Rd (g.br (aE ls gs)) w v d:=λhr=>hr.bo (aS.br rfl) (λ_ _ h=>h)
      by_cases j1:j<first.length
      .rw[j_3,h_5 (by simpa using j1),h_0]at hj
       simp only[g_2]at hj
       obtain⟨d,hd,rfl⟩:=hj
       obtain⟨u,e1,e2⟩:=rf j d hd
       exact⟨u,φ,kp e2⟩
      .by_cases j2:j<first.length+ss.length
       .grind
       .rw[h_1 χ,h_0]at hj
        simp only[g_2,h_8,k_6]at hj
        obtain⟨d,hd,rfl⟩:=hj
        obtain⟨u,e1,e2⟩:=rc _ d hd
        refine⟨u,?_,kp e2⟩
        grind
     refine(hp w (g.br (aE ls gs)) _ hRA (hrel.hp.Gm (ls:=ls) (gs:=gs))).mono λe w' hh=>?_
     grind
    .cases hc
   .cases hc
  .cases hc
 .cases hc
def Fz{g g':Gh}{w w':World}{ls:List Loc}(h:Fr true (g.br (aE ls [])) w g' w'):QC w w':=by
 refine⟨h.size,λk o hk=>?_,h.os⟩
 have key:(g.br (aE ls [])).ow k=aE ls [] (g.ow k):=rfl
 have hex: ∀o',aE ls [] o'=.free\/aE ls [] o'=.out\/(∃i,aE ls [] o'=.obj i)\/ ∃i j,aE ls [] o'=.bR (.az i j):=λo'=>by
  cases o' with
  |free=>exact .inl rfl
  |out=>exact .inr (.inl rfl)
  |box t=>exact .inr (.inl rfl)
  |obj i=>exact .inr (.inr (.inl ⟨i,rfl⟩))
  |bR l=>
   simp only[aE]
   grind
 rcases hex (g.ow k)with e|e|⟨i,e⟩|⟨i,j,e⟩
 .exact(h.free k o (key.trans e) hk).2
 .exact(h.out k o (key.trans e) hk).2
 .exact(h.obj rfl i k o (key.trans e) hk).2
 .exact(h.az rfl i j k o (key.trans e) hk).2
def DQ{o:Oper}{c:Call}{f:FuncId}{args:List SV}{ls:List Loc}{r:SV}{v:Value}{H':List aT}(ho:ops[k]? =some o)(hw:fy ops st o=some true)(hop:o.op=.call c)
  (hc:se P st [] c=some ⟨f,args,ls,[]⟩) (hp:SC P true f args (st.H.mapIdx (mi ls)) r H') (hr:IX r=some v) (h:jR P ops (k+1) (st.put o.dst r) Q):jR P ops k st Q:=by
 unfold jR at h ⊢
 rw[drop_cons ho]
 intro a w g hrel Qc hq
 unfold wpQuiet
 rw[bB hrel hw,if_pos rfl]
 cases r with
 |d x=>
  refine⟨v,λw' hw'=>?_,h _ w g (hrel.cj o.dst (v:=v) ?_) Qc hq⟩
  .obtain⟨as,e1,e2⟩:=Dw (hw'.rel hrel) hop hc hp
   unfold Oper.quietAt
   rw[e1]
   refine⟨rfl,e2.mono λe w'' hh=>?_⟩
   obtain⟨v',g',rfl,hres,hf⟩:=hh
   have hrd:Rd g' w'' v' x:=hres
   refine⟨by rw[Ko hrd hr],?_⟩
   have:=Fz hf
   exact⟨v_2 hw'.1 this.1,λk o hk=>this.2.1 k o (hw'.2.1 k o hk),hw'.2.2.trans this.2.2⟩
  .exact Oa hr
 |g8 vs=>
  simp only[IX,g_2]at hr
  obtain⟨us,hr,rfl⟩:=hr
  obtain⟨hl,hg⟩:=Dq hr
  refine⟨.tuple us.toArray,λw' hw'=>?_,h _ w g (hrel.put o.dst λt _ _=>?_) Qc hq⟩
  .obtain⟨as,e1,e2⟩:=Dw (hw'.rel hrel) hop hc hp
   unfold Oper.quietAt
   rw[e1]
   refine⟨rfl,e2.mono λe w'' hh=>?_⟩
   obtain⟨v',g',rfl,hres,hf⟩:=hh
   obtain⟨us',rfl,hl',hg'⟩:=hres
   refine⟨?_,?_⟩
   .congr 2
    apply v_4
    apply p_1
    intro j
    by_cases hj:j<vs.length
    .obtain⟨u,x,e1,e2,e3⟩:=hg j vs[j] (by simp[hj])
     obtain⟨u',e4,e5⟩:=hg' j vs[j] (by simp[hj])
     rw[e2]at e5
     have hrd:Rd g' w'' u' x:=e5
     have:=Ko hrd e3
     grind
    grind
   .have:=Fz hf
    exact⟨v_2 hw'.1 this.1,λk o hk=>this.2.1 k o (hw'.2.1 k o hk),hw'.2.2.trans this.2.2⟩
  .refine⟨us.toArray,rfl,by simpa using hl,λj s hj=>?_⟩
   obtain⟨u,x,e1,rfl,e3⟩:=hg j s hj
   exact⟨u,by simpa using e1,(Oa e3:Rd _ _ u x)⟩
 |_=>simp[IX]at hr
where
 Kq {g:Gh} {w:World} {u:Value} {d:D} (hd:za d=some u):Rd g w u d:=by
  unfold za at hd
  split at hd
  .cases hd
   exact .fn rfl rfl (λ_=>undef) (λ_=>undef) ψ ψ ψ ψ
  .exact Nf hd
 Ob {u:Value} {d:D} (hd:za d=some u):u.oneCell'=true:=by
  cases d<;>simp only[za,pg,g_2,g_4,reduceCtorEq]at hd
  all_goals first
   |(subst hd;rfl)
   |(obtain⟨_,_,rfl⟩:=hd;rfl)
   |(split at hd<;>first|(cases hd;rfl)|(simp[pg]at hd))
 Kn {g:Gh} {w:World}: ∀{cs:List D} {vs:List Value},y8 cs=some vs->vs.length=cs.length/\ ∀(j:Nat) (y:D),cs[j]? =some y-> ∃u,vs[j]? =some u/\Rd g w u y/\u.oneCell'=true
  |[],vs,h=>by simp[y8]at h;subst h;simp
  |d::ds,vs,h=>by
   simp only[y8]at h
   split at h
   .rename_i v vs' h1 h2
    cases h
    obtain⟨hl,hr⟩:=Kn (g:=g) (w:=w) h2
    refine⟨by simp[hl],λj y hj=>?_⟩
    cases j with
    |zero=>simp at hj;subst hj;exact⟨v,ψ,Kq h1,Ob h1⟩
    |succ j=>grind
   .cases h
 Oa {g:Gh} {w:World} {u:Value} {d:D} (hd:IW d=some u):Rd g w u d:=by
  unfold IW at hd
  split at hd
  .simp only[g_2]at hd
   obtain⟨vs,h1,rfl⟩:=hd
   obtain⟨hl,hr⟩:=Kn (g:=g) (w:=w) h1
   exact tA (by simpa using hl) (λj y hj=>by simpa using hr j y hj)
  .exact Kq hd
def Hq{id:Nat}{l:List Oper}{Q:Exit->St->Prop}(hm:P.follows .mixedOrders=true)(hB:Region.lexB .any l.toArray=true)(h:jR P l.toArray 0 st (Q .normal)):SW P pu (.region id l.toArray true) st Q:=by
 intro a w g hr
 refine wp_region_quiet (C:=QC w.drew) hm hB ⟨g_9 _,λ_ _ h=>h,fE.refl _⟩ ?_
 unfold jR at h
 rw[q_5]at h
 exact h a w.drew g hr.drew _ λst' a' g' q r f w' hw'=>⟨st',g',q,hw'.rel r,(Fr.drew.trans (f pu)).trans (hw'.fr g')⟩
variable (n:Nat) (H:List aT)
def Fk(bP L:List Nat)(j:Nat)(l:List (Nat×SV))(hr:(dJ P bP ops j k st).bind (bx n L)=some (l,H))(h:jR P ops (k+j) (sp n l H) Q):jR P ops k st Q:=by
 have:=oQ hr
 simp only[g_6]at this
 obtain⟨kE,h1,h2⟩:=this
 exact Cg j h1 (qV L h2 h)
def KG(L:List Nat)(j:Nat)(b:Bool)(S:Bool->St)(l:Bool->List (Nat×SV))(h0:st=S b)(hT:(dJ P [] ops j k (S true)).bind (bx n L)=some (l true,H))(hF:(dJ P [] ops j k (S false)).bind (bx n L)=some (l false,H))
  (h:jR P ops (k+j) (sp n (l b) H) Q):jR P ops k st Q:=by
 subst h0
 exact Fk n H [] L j (l b) (by cases b<;>assumption) h
def QH(L:List Nat)(l:List (Nat×SV))(hb:qY P ops k st d s)(cG:bx n L (st.put d s)=some (l,H))(h:jR P ops (k+1) (sp n l H) Q):jR P ops k st Q:=by
 obtain⟨o,h1,h2,h3,h4,rfl⟩:=hb
 exact Pc h1 h2 h3 h4 (qV L (aO cG) h)
def QI(L:List Nat)(l:List (Nat×SV))(hp:PC P f args r)(h:ew P ops k st []=some (d,f,args,ls,[]))(hr:(IX r).isSome=true)
  (cG:bx n L (st.put d r)=some (l,H)) (hn:jR P ops (k+1) (sp n l H) Q):jR P ops k st Q:=by
 unfold ew at h
 split at h
 .rename_i o ho
  split at h
  .rename_i c hop
   split at h
   .rename_i cs hcs
    simp only[g_4,g_8]at h
    obtain⟨rfl,rfl,rfl,rfl,h5⟩:=h
    obtain⟨h1,h2⟩:=bu ho
    obtain⟨v,hv⟩:=j_8.1 hr
    refine DQ (ls:=cs.ls) h1 h2 hop ?_ (hp _) hv (qV L (aO cG) hn)
    rw[hcs,<-h5]
   .cases h
  .cases h
 .cases h
end
section
variable {P:Program} {pu:Bool} {st:St} {ops:Array Oper} {k m:Nat} {Q:St->Prop}
def pD(S:Int->St)(h0:st=S e)(hc:(e==j)=true)(h:jR P ops k (S j) Q):jR P ops k st Q:=by
 grind
end
section
variable {P:Program} {pu:Bool} {st:St}
end
section
variable {P:Program} {pu:Bool} {st:St} {ops:Array Oper} {k:Nat} {Q:St->Prop}
end
section
variable {P:Program} {pu:Bool} {st:St} {ops:Array Oper} {k:Nat} {Q:St->Prop}
end
def NQ(R:Act->World->Prop):Exit->Act->World->Prop:=λe a w=>e=.normal/\R a w
def NQ.out{R:Act->World->Prop}: ¬LetsOut (NQ R):=λ⟨_,_,h,_⟩=>by cases h
section
variable {P:Program} {ops:Array Oper} {md:Region.Mode} {R:Act->World->Prop}
def IZ(a:Act)(ds:List Deferred)(d:Option Tmp)(v:Value):({a.put d v with defers:=ds}:Act)=({a with defers:=ds}:Act).put d v:=by cases d<;>rfl
def yN(a:Act)(d:Option Tmp)(v:Value):(a.put d v).defers=a.defers:=by cases d<;>rfl
def GK(a:Act)(ds:List Deferred)(x:Operand):({a with defers:=ds}:Act).eval x=a.eval x:=by cases x<;>rfl
end
section
variable {P:Program} {ops:Array Oper} {md:Region.Mode} {w:World} {hds:List Nat} {t0:Nat} {ts:List Nat}
def opsOf(ops:Array Oper)(is:List Nat):List Oper:=is.filterMap (ops[·]?)
end
section
variable {P:Program} {pu:Bool} {st:St}
def tJ(h:o.guard=none)(f:Nat->Option Bool):Region.wanted o f=true:=by unfold Region.wanted;rw[h]
def Bb{ops:Array Oper}(h:ops.all (λo=>o.guard.isNone)=true)(is:List Nat): ∀o∈opsOf ops is,o.guard=none:=λo ho=>by
 simp only[opsOf,List.mem_filterMap]at ho
 obtain⟨i,-,hi⟩:=ho
 rw[Array.all_eq_true']at h
 simpa using h o (Array.mem_of_getElem? hi)
end
inductive CJ where
 |int (k:IntKind)
 |str
def p9(P:Program)(K:TypeId):Option CJ:=
 match P.underlying K with
 |some (.int k)=>some (.int k)
 |some .string=>some .str
 |_=>none
def CJ.desc:CJ->TypeDesc
 |.int k=>.int k
 |.str=>.string
def isKey:CJ->D->Bool
 |.int k,.int k' _=>k==k'
 |.str,.str _=>true
 |_,_=>false
def vW:D->D->Bool
 |.int _ a,.int _ b=>a==b
 |.str a,.str b=>a==b
 |_,_=>false
def pk(x:D):List (D×D)->Nat->Option (Nat×D)
 |[],_=>none
 |(k,v)::es,i=>if vW x k then some (i,v)else pk x es (i+1)
def uP(a b:List UInt8):(mk a==mk b)=(a==b):=by
 show((⟨a⟩:Array UInt8)==⟨b⟩)=_
 simp
def FQ(hx:isKey T x=true)(hy:isKey T y=true)(hu:Rd g w u x)(hv:Rd g w v y)(d:TypeDesc)(hd:d=T.desc):
  Instr.sameNow d u v=some (vW x y):=by
 cases T with
 |int k=>
  cases x<;>simp only[isKey,g_7]at hx
  cases y<;>simp only[isKey,g_7]at hy
  cases hu;cases hv
  simp only[beq_iff_eq]at hx hy
  subst hx;subst hy;subst hd
  simp[Instr.sameNow,vW,CJ.desc]
 |str=>
  cases x<;>simp only[isKey,g_7]at hx
  cases y<;>simp only[isKey,g_7]at hy
  cases hu;cases hv
  subst hd
  simp[Instr.sameNow,vW,uP,CJ.desc]
def yX(hx:isKey T x=true)(hu:Rd g w u x)(d:TypeDesc)(hd:d=T.desc):
  ∀(ms:List MapEntry) (es:List (D×D)) (i:Nat),ms.length=es.length->(∀(j:Nat) (p:D×D),es[j]? =some p-> ∃m,ms[j]? =some m/\Rd g w m.key p.1/\Rd g w m.val p.2)->(∀p∈es,isKey T p.1=true)->
  ∃r,Instr.findNow d u ms i=some r/\((pk x es i=none/\r=none)\/ ∃j y v,pk x es i=some (j,y)/\r=some (j,v)/\Rd g w v y)
 |[],[],i,_,_,_=>⟨none,rfl,.inl ⟨rfl,rfl⟩⟩
 |[],_::_,i,h,_,_=>by simp at h
 |_::_,[],i,h,_,_=>by simp at h
 |m::ms,(k,y)::es,i,hl,hr,hk=>by
  obtain⟨m',e1,e2,e3⟩:=hr 0 (k,y) rfl
  simp only[j_5,g_4]at e1
  subst e1
  have hs:=FQ hx (hk (k,y) ψ) hu e2 d hd
  simp only[Instr.findNow,pk,hs]
  cases hb:vW x k with
  |true=>grind
  |false=>
   obtain⟨r,h1,h2⟩:=yX hx hu d hd ms es (i+1) (by simpa using hl) (λj p hj=>by simpa using hr (j+1) p (by simpa using hj)) (λp hp=>hk p (by simp[hp]))
   grind
structure Cd(α:Type) where
 enc:α->D
 dec:D->Option α
 de: ∀d x,dec d=some x->d=enc x
 ed: ∀x,dec (enc x)=some x
def cI(k:IntKind):Cd Int where
 enc:=.int k
 dec
  |.int k' n=>if k'=k then some n else none
  |_=>none
 de d x h:=by
  grind
 ed x:=by simp
def cB:Cd Bool where
 enc:=.bool
 dec
  |.bool b=>some b
  |_=>none
 de d x h:=by grind
 ed x:=rfl
def cS:Cd (List UInt8) where
 enc:=.str
 dec
  |.str b=>some b
  |_=>none
 de d x h:=by grind
 ed x:=rfl
def cP:Cd (Option Nat) where
 enc
  |none=>.fU
  |some i=>.ptr i 0
 dec
  |.fU=>some none
  |.ptr i 0=>some (some i)
  |_=>none
 de d x h:=by
  grind
 ed x:=by cases x<;>rfl
def cM:Cd (Option Nat) where
 enc
  |none=>.kn
  |some i=>.map i
 dec
  |.kn=>some none
  |.map i=>some (some i)
  |_=>none
 de d x h:=by grind
 ed x:=by cases x<;>rfl
def rF{α:Type}(c:Cd α): ∀(ds:List D) (xs:List α),ds.mapM c.dec=some xs->ds=xs.map c.enc
 |[],xs,h=>by simp at h;subst h;rfl
 |d::ds,xs,h=>by
  simp only[List.mapM_cons,Option.bind_eq_bind,g_6]at h
  obtain⟨x,h1,ys,h2,h3⟩:=h
  cases h3
  rw[h_3,<-c.de d x h1,<-rF c ds ys h2]
def oB{α:Type}(c:Cd α): ∀xs:List α,(xs.map c.enc).mapM c.dec=some xs
 |[]=>rfl
 |x::xs=>by simp[c.ed,oB c xs]
def cL{α:Type}(n:Nat)(c:Cd α):Cd (List α) where
 enc xs:=.list n (xs.map c.enc)
 dec
  |.list n' ds=>if n'=n then ds.mapM c.dec else none
  |_=>none
 de d x h:=by
  cases d<;>simp only[reduceCtorEq]at h
  split at h
  .rename_i e;subst e;rw[<-rF c _ _ h]
  .cases h
 ed x:=by show(if n=n then(x.map c.enc).mapM c.dec else none)=_;rw[if_pos rfl,oB]
structure Cc(α:Type) where
 enc:α->List SV
 dec:List SV->Option (α×List SV)
 de: ∀l x r,dec l=some (x,r)->l=enc x++r
 ed: ∀x r,dec (enc x++r)=some (x,r)
def Cd.cell{α:Type}(c:Cd α):Cc α where
 enc x:=[.d (c.enc x)]
 dec
  |.d d::r=>(c.dec d).map (·,r)
  |_=>none
 de l x r h:=by
  split at h
  .rename_i d r'
   simp only[g_2,g_8]at h
   obtain⟨y,h1,rfl,rfl⟩:=h
   rw[c.de d y h1];rfl
  .cases h
 ed x r:=by simp[c.ed]
def Cc.pair{α β:Type}(a:Cc α)(b:Cc β):Cc (α×β) where
 enc p:=a.enc p.1++b.enc p.2
 dec l:=(a.dec l).bind λp=>(b.dec p.2).map λq=>((p.1,q.1),q.2)
 de l x r h:=by
  simp only[g_6,g_2,g_8]at h
  obtain⟨p,h1,q,h2,h3,h4⟩:=h
  subst h3;subst h4
  rw[a.de l p.1 p.2 h1,j_3,b.de p.2 q.1 q.2 h2]
 ed x r:=by
  rw[j_3,a.ed]
  simp[b.ed]
structure Cl(α:Type) where
 enc:α->List D
 dec:List D->Option (α×List D)
 de: ∀l x r,dec l=some (x,r)->l=enc x++r
 ed: ∀x r,dec (enc x++r)=some (x,r)
def Cd.one{α:Type}(c:Cd α):Cl α where
 enc x:=[c.enc x]
 dec
  |d::r=>(c.dec d).map (·,r)
  |_=>none
 de l x r h:=by
  split at h
  .rename_i d r'
   simp only[g_2,g_8]at h
   obtain⟨y,h1,rfl,rfl⟩:=h
   rw[c.de d y h1];rfl
  .cases h
 ed x r:=by simp[c.ed]
def Cl.pair{α β:Type}(a:Cl α)(b:Cl β):Cl (α×β) where
 enc p:=a.enc p.1++b.enc p.2
 dec l:=(a.dec l).bind λp=>(b.dec p.2).map λq=>((p.1,q.1),q.2)
 de l x r h:=by
  simp only[g_6,g_2,g_8]at h
  obtain⟨p,h1,q,h2,h3,h4⟩:=h
  subst h3;subst h4
  rw[a.de l p.1 p.2 h1,j_3,b.de p.2 q.1 q.2 h2]
 ed x r:=by
  rw[j_3,a.ed]
  simp[b.ed]
def Cl.TD{α β:Type}(a:Cl α)(f:α->β)(g:β->α)(fg: ∀x,f (g x)=x)(gf: ∀x,g (f x)=x):Cl β where
 enc x:=a.enc (g x)
 dec l:=(a.dec l).map λp=>(f p.1,p.2)
 de l x r h:=by
  simp only[g_2,g_8]at h
  obtain⟨p,h1,rfl,rfl⟩:=h
  rw[gf];exact a.de l p.1 p.2 h1
 ed x r:=by simp[a.ed,fg]
def Cl.agg{α:Type}(a:Cl α):Cd α where
 enc x:=.agg (a.enc x)
 dec
  |.agg l=>match a.dec l with|some (x,[])=>some x|_=>none
  |_=>none
 de d x h:=by
  cases d<;>simp only[reduceCtorEq]at h
  split at h
  .rename_i y h1
   cases h
   rw[a.de _ _ _ h1,m_1]
  .cases h
 ed x:=by
  have:=a.ed x []
  grind
def AY:List SV->List D×List SV
 |.d d::r=>((d::(AY r).1),(AY r).2)
 |l=>([],l)
def Eg: ∀l:List SV,l=(AY l).1.map .d++(AY l).2
 |[]=>rfl
 |s::r=>by
  cases s with
  |d x=>simp only[AY,h_3,m_6];rw[<-Eg r]
  |_=>rfl
def F7: ∀(ds:List D) (r:List SV),AY (ds.map .d++r)=(ds++(AY r).1,(AY r).2)
 |[],r=>rfl
 |d::ds,r=>by simp only[h_3,m_6,AY];rw[F7 ds r]
def Cl.cells{α:Type}(a:Cl α):Cc α where
 enc x:=(a.enc x).map .d
 dec l:=(a.dec (AY l).1).map λp=>(p.1,p.2.map .d++(AY l).2)
 de l x r h:=by
  simp only[g_2,g_8]at h
  obtain⟨p,h1,rfl,rfl⟩:=h
  have:=a.de _ p.1 p.2 h1
  rw[<-j_3,<-k_1,<-this]
  exact Eg l
 ed x r:=by
  rw[F7]
  simp only[a.ed,m_2,g_4,g_8,true_and]
  exact(Eg r).symm
structure Kc(K:Type)[BEq K] where
 c:Cd K
 kt:CJ
 TE: ∀x,isKey kt (c.enc x)=true
 same: ∀a b,vW (c.enc a) (c.enc b)=(a==b)
def kI(k:IntKind):Kc Int:=⟨cI k,.int k,λ_=>by simp[cI,isKey],λ_ _=>rfl⟩
abbrev Hp:=List aT
def mn(H:Hp)(i:Nat):Option (List SV):=match H[i]? with|some (.cells cs)=>some cs|_=>none
def lF(h:mn H i=some cs):H[i]? =some (.cells cs):=by
 unfold mn at h
 grind
def bz{α:Type}(c:Cc α)(H:Hp)(i off:Nat):Option α:=(mn H i).bind λcs=>(c.dec (cs.drop off)).map (·.1)
def Qi{α:Type}{c:Cc α}{x:α}(h:bz c H i off=some x): ∃cs r,H[i]? =some (.cells cs)/\cs.drop off=c.enc x++r:=by
 unfold bz at h
 simp only[g_6,g_2]at h
 obtain⟨cs,h1,⟨y,r⟩,h2,rfl⟩:=h
 exact⟨cs,r,lF h1,c.de _ _ _ h2⟩
def GD(H:Hp)(i off:Nat)(ds:List D):Option Hp:=(mn H i).bind λcs=>if off+ds.length<=cs.length then some (H.set i (.cells (setCells cs off ds)))else none
def Qg(h:GD H i off ds=some H'): ∃cs,H[i]? =some (.cells cs)/\off+ds.length<=cs.length/\H'=H.set i (.cells (setCells cs off ds)):=by
 unfold GD at h
 simp only[g_6]at h
 obtain⟨cs,h1,h2⟩:=h
 split at h2
 .cases h2;exact⟨cs,lF h1,by assumption,rfl⟩
 .cases h2
def dW{α:Type}(c:Cd α)(H:Hp)(i off:Nat)(x:α):Option Hp:=GD H i off (c.enc x).cells
def ko(H:Hp)(o:aT):Option (Hp×Nat):=some (H++[o],H.length)
def BG{K V:Type}[BEq K](k:Kc K)(v:Cd V)(H:Hp)(m:Option Nat):Option (List (K×V)):=
 match m with
 |none=>some []
 |some i=>match H[i]? with
  |some (.map es)=>es.mapM λp=>(k.c.dec p.1).bind λa=>(v.dec p.2).map λb=>(a,b)
  |_=>none
def mJ{K V:Type}[BEq K](k:Kc K)(v:Cd V)(p:K×V):D×D:=(k.c.enc p.1,v.enc p.2)
def J2{K V:Type}[BEq K](k:Kc K)(v:Cd V): ∀(es:List (D×D)) (xs:List (K×V)),(es.mapM λp=>(k.c.dec p.1).bind λa=>(v.dec p.2).map λb=>(a,b))=some xs->es=xs.map (mJ k v)
 |[],xs,h=>by simp at h;subst h;rfl
 |p::es,xs,h=>by
  simp only[List.mapM_cons,Option.bind_eq_bind,g_6,g_2]at h
  obtain⟨q,⟨a,ha,b,hb,rfl⟩,ys,h2,h3⟩:=h
  cases h3
  rw[h_3,<-J2 k v es ys h2]
  congr 1
  exact Prod.ext (k.c.de _ _ ha) (v.de _ _ hb)
def J1{K V:Type}[BEq K](k:Kc K)(v:Cd V): ∀xs:List (K×V),((xs.map (mJ k v)).mapM λp=>(k.c.dec p.1).bind λa=>(v.dec p.2).map λb=>(a,b))=some xs
 |[]=>rfl
 |x::xs=>by
  rw[h_3,List.mapM_cons,J1 k v xs]
  simp[mJ,k.c.ed,v.ed]
def zV{K V:Type}[BEq K]{k:Kc K}{v:Cd V}{es:List (K×V)}:BG k v H (some i)=some es<->H[i]? =some (.map (es.map (mJ k v))):=by
 constructor
 .intro h
  simp only[BG]at h
  split at h
  .rename_i es' h1;rw[h1,<-J2 k v _ _ h]
  .cases h
 .intro h
  simp only[BG,h]
  exact J1 k v es
def BH{K V:Type}[BEq K](k:Kc K)(v:Cd V)(H:Hp)(m:Option Nat)(x:K):Option (Option V):=(BG k v H m).map λes=>es.lookup x
def Cu{K V:Type}[BEq K](x:K)(y:V):List (K×V)->List (K×V)
 |[]=>[(x,y)]
 |(a,b)::es=>if x==a then(x,y)::es else(a,b)::Cu x y es
def BF{K V:Type}[BEq K](k:Kc K)(v:Cd V)(H:Hp)(m:Option Nat)(x:K)(y:V):Option Hp:=
 m.bind λi=>(BG k v H (some i)).map λes=>H.set i (.map ((Cu x y es).map (mJ k v)))
def RO.ph(h0:aS .free g w g' w')(h1:aS (.obj i) g w g' w')(h2: ∀j,aS (.bR (.az i j)) g w g' w')(hρ:fc g g')(h:RO g w i o):RO g' w' i o:=by
 cases o with
 |cells cs=>
  obtain⟨k,c,T,hr,ho,hb,hs,hc⟩:=h
  obtain⟨ho',hb'⟩:=h1 k _ ho hb
  exact⟨k,c,T,hρ _ _ hr,ho',hb',hs,λj s hj=>let⟨u,a1,a2,a3⟩:=hc j s hj;⟨u,a1,a2.bo h0 (h2 j) hρ,a3⟩⟩
 |map es=>
  obtain⟨k,ms,clock,hr,ho,hb,hs,hbo,hc⟩:=h
  obtain⟨ho',hb'⟩:=h1 k _ ho hb
  exact⟨k,ms,clock,hρ _ _ hr,ho',hb',hs,hbo,λj p hj=>let⟨m,a1,a2,a3⟩:=hc j p hj;⟨m,a1,a2.bo h0 hρ,a3.bo h0 hρ⟩⟩
 |hole=>trivial
 |iter kb clock=>
  obtain⟨k,hr,ho,hb⟩:=h
  obtain⟨ho',hb'⟩:=h1 k _ ho hb
  exact⟨k,hρ _ _ hr,ho',hb'⟩
 |P9 kb clock ms es=>
  obtain⟨hr,ho,hb,hs,hbo,hc⟩:=h
  obtain⟨ho',hb'⟩:=h1 kb _ ho hb
  exact⟨hρ _ _ hr,ho',hb',hs,hbo,λj p hj=>let⟨m,a1,a2,a3⟩:=hc j p hj;⟨m,a1,a2.bo h0 hρ,a3.bo h0 hρ⟩⟩
 |RP T e bs=>
  obtain⟨k,p,v,hr,ho,hb⟩:=h
  obtain⟨ho',hb'⟩:=h1 k _ ho hb.1
  exact⟨k,p,v,hρ _ _ hr,ho',hb.bo (h2 1) (hb'.trans hb.1.symm)⟩
def oV: ¬ki t s (.obj i):=by cases s<;>simp[ki]
section
variable {P:Program} {st:St}
def St.hp(st:St)(H:List aT):St:={st with H:=H}
def Rel.setObj(hr:Rel st a w g)(hi:i<st.H.length)(hk:g.ρ[i]? =some k)(ho:g.ow k=.obj i)(hw: ∀k',k'≠k->w'.heap[k']? =w.heap[k']?)(hn:RO g w' i o):
  Rel (st.hp (st.H.set i o)) a w' g:=by
 have hkp: ∀o',o'≠.obj i->aS o' g w g w':=λo' h=>aS.block ho h hw
 refine bg hr hr.len hr.ei (λ_ _ h=>h) (λt s hs=>.inr (.inr ⟨hs,rfl,λo' ho'=>hkp o' (λe=>?_),λs' _=>⟨rfl,λx hx _=>⟨x,hx,rfl⟩⟩⟩)) ⟨by simp[St.hp,hr.hp.1],λi' o' hi'=>?_⟩
 .subst e;exact oV ho'
 .simp only[St.hp]at hi'
  by_cases e:i=i'
  .grind
  .rw[g_1 e]at hi'
   exact(hr.hp.2 i' o' hi').ph (hkp _ ψ) (hkp _ (by simpa using j_4 e)) (λj=>hkp _ ψ) (λ_ _ h=>h)
def Fr.setObj(ho:g.ow k=.obj i)(hs:w'.heap.size=w.heap.size)(hw: ∀k',k'≠k->w'.heap[k']? =w.heap[k']?)(hos:fE w w':=by exact⟨rfl,rfl⟩):Fr false g w g w':=
 ⟨by rw[hs];exact g_9 _,aS.block ho ψ hw,aS.block ho ψ hw,λ_ _ h=>h,nofun,nofun,nofun,hos⟩
def tB(hop:o.op=.store T x y)(hd:o.dst=none)(hx:sN st x=some (i,off))(hy:cu st y=some d)(hu:(P.underlying T).isNone=false)
  (hsz:d.cells.length=P.cellsOf T) (hH:GD st.H i off d.cells=some H'):jQ P false st o (st.hp H'):=by
 refine jQ.skip λa w g hr=>?_
 obtain⟨cs,hi,hfit,rfl⟩:=Qg hH
 obtain⟨k,e1,e3⟩:=k7 hr hx
 obtain⟨k',c,T0,f1,f2,f3,f4,f5⟩:=hr.hp.2 i _ hi
 rw[e1]at f1
 cases f1
 have hrd:=cx hr hy
 obtain⟨c1,c2⟩:=hrd.cells
 have hone: ∀v∈(a.eval y).cells.toList,v.oneCell'=true:=λv hv=>by
  obtain⟨j,hj⟩:=h_4.1 hv
  have hlt:j<d.cells.length:=by grind
  obtain⟨u,u1,u2,u3⟩:=c2 j d.cells[j] (by simp[hlt])
  grind
 obtain⟨w',r1,r2,r3,c',r4,r5,r6⟩:=cl (P:=P) k off T0 (a.eval y).cells.toList 0 c w f3 (by simp[c1];omega) hone
 refine⟨w',g,?_,?_,Fr.setObj f2 r2 r3 (cZ (P:=P) k off T0 (a.eval y).cells.toList 0 c w w' f3 (by simp[c1];omega) hone r1)⟩
 .unfold execOp;rw[hop]
  simp only[Instr.storeAt,Sem.run_bind,e3,Instr.sureAddr,Sem.run_pure,Result.andThen_ok,storeVar,hU hu]
  simp_all
 .rw[hd]
  refine hr.setObj (aX hi) e1 f2 r3 ⟨k,c',T0,e1,f2,r4,by rw[r5,f4,vU ω],λj sv hj=>?_⟩
  have hkp: ∀o',o'≠.obj i->aS o' g w g w':=λo' ho=>aS.block f2 ho r3
  rcases vV ω hj with⟨h1,h2,y',h3,rfl⟩|⟨h1,h2⟩
  .obtain⟨u,u1,u2,u3⟩:=c2 _ _ h3
   refine⟨u,?_,Rd.bo (hkp _ ψ) (λ_ _ h=>h) u2,u3⟩
   grind
  .obtain⟨u,u1,u2,u3⟩:=f5 j sv h2
   refine⟨u,?_,u2.bo (hkp _ ψ) (hkp _ ψ) (λ_ _ h=>h),u3⟩
   grind
def Gh.new(g:Gh)(k i:Nat):Gh:=⟨(g.xk k (.obj i)).ow,g.ρ++[k]⟩
def fc.new:fc g (g.new k i):=λj k' h=>by
 simp only[Gh.new]
 grind
def aS.new:aS o' g w (g.new w.heap.size i) (w.alloc ob):=by
 intro k b hk hb
 exact aS.alloc (t:=.obj i) (o:=ob) k b hk hb
def Fr.new:Fr false g w (g.new w.heap.size i) (w.alloc ob):=
 ⟨ψ,aS.new,aS.new,fc.new,nofun,nofun,nofun,⟨rfl,rfl⟩⟩
def Rel.newObj(hr:Rel st a w g)(hn:RO (g.new w.heap.size st.H.length) (w.alloc ob) st.H.length o):
  Rel (st.hp (st.H++[o])) a (w.alloc ob) (g.new w.heap.size st.H.length):=by
 refine bg hr hr.len hr.ei fc.new (λt s hs=>.inr (.inr ⟨hs,rfl,λo' ho'=>aS.new,λs' _=>⟨rfl,λx hx _=>⟨x,hx,rfl⟩⟩⟩)) ⟨by simp[St.hp,Gh.new,hr.hp.1],λi' o' hi'=>?_⟩
 simp only[St.hp]at hi'
 by_cases h:i'<st.H.length
 .rw[h_5 h]at hi'
  exact(hr.hp.2 i' o' hi').ph aS.new aS.new (λ_=>aS.new) fc.new
 grind
def wy(h:RH g w H)(k:Nat):(g.new k H.length).ρ[H.length]? =some k:=by
 simp only[Gh.new]
 rw[<-h.1,h_1 (g_9 _)]
 simp
def Ny{g:Gh}(k i:Nat):(g.new k i).ow k=.obj i:=by simp[Gh.new]
def mh(l:List (Nat×Nat×Bool))(cs:List SV):List SV:=match l with
 |[]=>cs
 |(j,n,b)::l=>mh l (match cs[j]? with|some (.d .cm)=>cs.set j (if b then .own n []else .d (.list n []))|_=>cs)
def wu: ∀(l:List (Nat×Nat×Bool)) (cs:List SV),(mh l cs).length=cs.length
 |[],cs=>rfl
 |(j,n,b)::l,cs=>by
  rw[mh,wu l]
  split<;>simp
def wx{g:Gh}{w:World}{lo:Nat->Loc}{c:Array Value}: ∀(l:List (Nat×Nat×Bool)) (cs:List SV),(∀(j:Nat) (s:SV),cs[j]? =some s-> ∃u,c[j]? =some u/\RC g w (lo j) u s/\u.oneCell'=true)->
  ∀(j:Nat) (s:SV),(mh l cs)[j]? =some s-> ∃u,c[j]? =some u/\RC g w (lo j) u s/\u.oneCell'=true
 |[],cs,h=>h
 |(j0,n,b)::l,cs,h=>by
  refine wx l _ λj s hj=>?_
  split at hj
  .rename_i h0
   by_cases e:j0=j
   .subst e
    obtain⟨u,u1,u2,u3⟩:=h j0 _ h0
    rw[g_0 (aX h0)]at hj
    have hn:Rd g w u .cm:=u2
    obtain⟨a,rfl⟩:=hn.jE
    refine⟨_,u1,?_,u3⟩
    cases b
    .simp only[g_7,if_false,g_4]at hj
     subst hj
     exact Rd.nO
    .simp only[if_true,g_4]at hj
     subst hj
     exact .inl ⟨rfl,_,rfl⟩
   grind
  .exact h j s hj
def mC.newObj{g:Gh}{w:World}{H:List aT}(hH:RH g w H){T:TypeId}{v:Value}{y:D}(h:Rd g w v y)(l:List (Nat×Nat×Bool)):
  RO (g.new w.heap.size H.length) (w.alloc (.cells v.cells T)) H.length (.cells (mh l (y.cells.map .d))):=by
 obtain⟨c1,c2⟩:=h.cells
 refine⟨w.heap.size,v.cells,T,wy hH _,Ny _ _,heap_alloc _ _,by rw[wu];simpa using c1,wx l _ λj s hj=>?_⟩
 simp only[h_0,g_2]at hj
 obtain⟨x,hx,rfl⟩:=hj
 obtain⟨u,u1,u2,u3⟩:=c2 j x hx
 exact⟨u,u1,Rd.bo aS.new fc.new u2,u3⟩
def zn(l:List (Nat×Nat×Bool))(hop:o.op=.alloc T)(hz:yD P T=some z):
  jQ P false st o ((st.hp (st.H++[.cells (mh l (z.cells.map .d))])).put o.dst (.d (.ptr st.H.length 0))):=by
 refine jQ.value λa w g hr=>?_
 obtain⟨v,e1,e2⟩:=pI (P:=P) (g:=g) (w:=w) hz
 have hn:=mC.newObj (T:=T) hr.hp e1 l
 refine⟨.pointer (some ⟨w.heap.size,0,none⟩),w.alloc (.cells v.cells T),_,?_,Rel.cj (hr.newObj hn) o.dst (.ptr (wy hr.hp _)),Fr.new⟩
 unfold execOp;rw[hop]
 simp only[Instr.alloc,Sem.run_bind,e2,Result.andThen_ok,newVar,newRow,run_newObj,Sem.run_pure]
 rfl
def DJ(l:List (Nat×Nat×Bool))(hop:o.op=.box T x)(hy:cu st x=some y):
  jQ P false st o ((st.hp (st.H++[.cells (mh l (y.cells.map .d))])).put o.dst (.d (.ptr st.H.length 0))):=by
 refine jQ.value λa w g hr=>?_
 have e1:=cx hr hy
 have hn:=mC.newObj (T:=T) hr.hp e1 l
 refine⟨.pointer (some ⟨w.heap.size,0,none⟩),w.alloc (.cells (a.eval x).cells T),_,?_,Rel.cj (hr.newObj hn) o.dst (.ptr (wy hr.hp _)),Fr.new⟩
 unfold execOp;rw[hop]
 simp only[Instr.box,Sem.run_bind,newVar,newRow,run_newObj,Result.andThen_ok,Sem.run_pure]
 rfl
def CH{o:Oper}{T:TypeId}(hop:o.op=.makeMap T none):jQ P false st o ((st.hp (st.H++[.map []])).put o.dst (.d (.map st.H.length))):=by
 refine jQ.value λa w g hr=>?_
 have hn:RO (g.new w.heap.size st.H.length) (w.alloc (.map #[] 0)) st.H.length (.map []):=
  ⟨w.heap.size,#[],0,wy hr.hp _,Ny _ _,heap_alloc _ _,rfl,⟨ψ,ψ⟩,ψ⟩
 refine⟨.map (some w.heap.size),w.alloc (.map #[] 0),_,?_,Rel.cj (hr.newObj hn) o.dst (.map (wy hr.hp _)),Fr.new⟩
 unfold execOp;rw[hop]
 simp only[Instr.makeMap,Option.map_none,Sem.run_bind,run_newObj,Result.andThen_ok,Sem.run_pure]
 rfl
def wK{K V:Type}[BEq K](k:Kc K)(v:Cd V)(x:K): ∀(es:List (K×V)) (i:Nat),(pk (k.c.enc x) (es.map (mJ k v)) i).map (·.2)=(es.lookup x).map v.enc
 |[],_=>rfl
 |(a,b)::es,i=>by
  simp only[h_3,mJ,pk,k.same,List.lookup]
  cases x==a with
  |true=>rfl
  |false=>exact wK k v x es (i+1)
def J7(h:p9 P K=some kt):P.underlying K=some kt.desc:=by
 unfold p9 at h
 split at h
 .rename_i k hu;cases h;exact hu
 .rename_i hu;cases h;exact hu
 .cases h
def run_checkKey(h:p9 P K=some kt)(w:World):(Instr.checkKey b 10000 K v).run P w=.ok () w:=by
 have hu:=J7 h
 show(Instr.checkKey b (9999+1) K v).run P w=_
 unfold Instr.checkKey
 simp only[Sem.run_bind,run_underlying hu,Result.andThen_ok]
 cases kt<;>(simp only[CJ.desc];cases v<;>rfl)
def run_findKey(h:p9 P K=some kt)(hf:Instr.findNow kt.desc u ms 0=some r)(w:World):(Instr.findKey K u ms).run P w=.ok r w:=by
 simp only[Instr.findKey,Sem.run_bind,run_underlying (J7 h),Result.andThen_ok,hf,Sem.run_pure]
def ru(h:w.heap[r]? =some (.map es clock)):(getObj r).run P w=.ok (.map es clock) w:=by simp[getObj,Sem.run,h]
def od(w:World)(r:Nat)(o:Obj):World:={w with heap:=w.heap.setIfInBounds r o}
def AH(h:w.heap[r]? =some (.map es clock)):(setObj r o').run P w=.ok () (od w r o'):=by simp[setObj,Sem.run,h,od]
def yH(h:w.heap[r]? =some o):(od w r o').heap[r]? =some o':=by
 have:=px h
 simp[od,this]
def rr(h:k≠r):(od w r o').heap[k]? =w.heap[k]? :=by simp[od,Array.getElem?_setIfInBounds_ne (j_4 h)]
def yG:(od w r o').heap.size=w.heap.size:=by simp[od]
def sT(hr:Rel st a w g)(h:cu st x=some (cM.enc m)):
  match m with
  |none=>a.eval x=.map none
  |some i=> ∃k,g.ρ[i]? =some k/\a.eval x=.map (some k):=by
 have:=cx hr h
 cases m with
 |none=>simp only[cM]at this;generalize a.eval x=v at this;cases this;rfl
 |some i=>simp only[cM]at this;generalize a.eval x=v at this;cases this with|map h=>exact⟨_,h,rfl⟩
def Gj{V:Type}(v:Cd V)(ok:Bool)(z:V)(q:Option V):SV:=if ok then .g8 [.d (v.enc (q.getD z)),.d (.bool q.isSome)]else .d (v.enc (q.getD z))
def AI(ok:Bool)(hT:P.underlying T=some (.map KT ET))(hk:p9 P KT=some kt)(hf:Instr.findNow kt.desc iv ms.toList 0=some r)
  (rz: ∀w,(zeroValue ET).run P w=.ok vz w) (hx:(xv=.map none/\ms= #[])\/ ∃k clock,xv=.map (some k)/\w.heap[k]? =some (.map ms clock)):
  (Instr.lookup T xv iv ok).run P w=.ok (if ok then .tuple #[(r.map (·.2)).getD vz,.bool r.isSome]else(r.map (·.2)).getD vz) w:=by
 rcases hx with⟨rfl,rfl⟩|⟨k,clock,rfl,hb⟩
 .simp only[Instr.lookup,Sem.run_bind,run_underlying hT,Result.andThen_ok,Sem.run_pure,run_checkKey hk,run_findKey hk hf]
  cases r with
  |none=>simp_all
  |some p=>simp_all
 .simp only[Instr.lookup,Sem.run_bind,run_underlying hT,Result.andThen_ok,Sem.run_pure,ru hb,run_checkKey hk,run_findKey hk hf]
  cases r with
  |none=>simp_all
  |some p=>simp_all
def C9{K V:Type}[BEq K]{k:Kc K}{v:Cd V}(hr:Rel st a w g){es:List (K×V)}{key:K}(hm:BG k v st.H (some i)=some es)(hi:Rd g w iv (k.c.enc key)):
  ∃kb ms clock,g.ρ[i]? =some kb/\g.ow kb=.obj i/\w.heap[kb]? =some (.map ms clock)/\ms.size=es.length/\Jb ms clock/\(∀(j:Nat) (p:K×V),es[j]? =some p-> ∃m,ms[j]? =some m/\Rd g w m.key (k.c.enc p.1)/\Rd g w m.val (v.enc p.2))/\
   ∃r,Instr.findNow k.kt.desc iv ms.toList 0=some r/\((es.lookup key=none/\r=none/\pk (k.c.enc key) (es.map (mJ k v)) 0=none)\/ ∃y u j,es.lookup key=some y/\r=some (j,u)/\Rd g w u (v.enc y)/\pk (k.c.enc key) (es.map (mJ k v)) 0=some (j,v.enc y)):=by
 have h1:=zV.1 hm
 obtain⟨kb,ms,clock,f1,f2,f3,f4,f5,f6⟩:=hr.hp.2 i _ h1
 obtain⟨r,g1,g2⟩:=yX (k.TE key) hi k.kt.desc rfl ms.toList (es.map (mJ k v)) 0 (by simpa using f4) (λj p hj=>by simpa using f6 j p hj) (λp hp=>by
  obtain⟨e,-,rfl⟩:=v_9.1 hp;exact k.TE _)
 refine⟨kb,ms,clock,f1,f2,f3,by simpa using f4,f5,λj p hj=>?_,r,g1,?_⟩
 .exact f6 j (mJ k v p) (by simp[hj])
 .have hl:=wK k v key es 0
  rcases g2 with⟨g3,g4⟩|⟨j,y,u,g3,g4,g5⟩
  .rw[g3]at hl
   refine .inl ⟨?_,g4,g3⟩
   cases hh:es.lookup key with
   |none=>rfl
   |some y=>rw[hh]at hl;cases hl
  .rw[g3]at hl
   simp only[m_2]at hl
   cases hh:es.lookup key with
   |none=>rw[hh]at hl;cases hl
   |some y'=>
    grind
def iW.lookup{K V:Type}[BEq K]{k:Kc K}{v:Cd V}{key:K}{q:Option V}{z:V}(hop:o.op=.lookup T x ix ok)(hT:P.underlying T=some (.map KT ET))
  (hk:p9 P KT=some k.kt) (hx:cu st x=some (cM.enc m)) (hi:cu st ix=some (k.c.enc key)) (hz:yD P ET=some (v.enc z)) (hq:BH k v st.H m key=some q):iW P st o (Gj v ok z q):=by
 intro a w g hr
 have hrk:=cx hr hi
 obtain⟨vz,ez,rz⟩:=pI (P:=P) (g:=g) (w:=w) hz
 have hm:=sT hr hx
 have fin: ∀(r:Option (Nat×Value)),(q=none/\r=none\/ ∃y u j,q=some y/\r=some (j,u)/\Rd g w u (v.enc y))->BV g w st a (if ok then .tuple #[(r.map (·.2)).getD vz,.bool r.isSome]else(r.map (·.2)).getD vz) (Gj v ok z q):=by
  intro r h
  refine dT ?_
  have h1:Rd g w ((r.map (·.2)).getD vz) (v.enc (q.getD z)):=by
   grind
  have h2:r.isSome=q.isSome:=by grind
  unfold Gj
  cases ok
  .exact h1
  .simp only[if_true]
   refine⟨#[(r.map (·.2)).getD vz,.bool r.isSome],rfl,rfl,λj s hj=>?_⟩
   match j,hj with
   |0,hj=>grind
   |1,hj=>simp at hj;rw[h2];exact⟨.bool q.isSome,_,rfl,hj.symm,.bool⟩
   |j+2,hj=>simp at hj
 have run: ∀{r:Option (Nat×Value)} {w':World},(Instr.lookup T (a.eval x) (a.eval ix) ok).run P w'=.ok (if ok then .tuple #[(r.map (·.2)).getD vz,.bool r.isSome]else(r.map (·.2)).getD vz) w'->
   (execOp a.eval o).run P w'=.ok (.value (if ok then .tuple #[(r.map (·.2)).getD vz,.bool r.isSome]else(r.map (·.2)).getD vz)) w':=λh=>by
  unfold execOp;simp_all
 cases m with
 |none=>
  simp only[BH,BG,m_2,List.lookup_nil,g_4]at hq
  subst hq
  exact⟨_,fin none (.inl ⟨rfl,rfl⟩),λw' hup=>run (r:=none) (AI ok hT hk (ms:= #[]) rfl rz (.inl ⟨hm,rfl⟩))⟩
 |some i=>
  simp only[BH,g_2]at hq
  obtain⟨es,h1,h2⟩:=hq
  obtain⟨kb,ms,clock,f1,f2,f3,f4,f5,f6,r,g1,g2⟩:=C9 hr h1 hrk
  obtain⟨kb',e1,e2⟩:=hm
  rw[f1]at e1;cases e1
  refine⟨_,fin r ?_,λw' hup=>run (AI ok hT hk g1 rz (.inr ⟨kb,clock,e2,hup _ _ f3⟩))⟩
  grind
end
def ta(x:D): ∀(es:List (D×D)) (i:Nat),pk x es (i+1)=(pk x es i).map λp=>(p.1+1,p.2)
 |[],_=>rfl
 |(k,v)::es,i=>by
  simp only[pk]
  split
  .rfl
  .exact ta x es (i+1)
section
variable {K V:Type} [BEq K]
def xO(k:Kc K)(v:Cd V)(x:K)(y:V): ∀(es:List (K×V)),pk (k.c.enc x) (es.map (mJ k v)) 0=none->(Cu x y es).map (mJ k v)=es.map (mJ k v)++[mJ k v (x,y)]
 |[],_=>rfl
 |(a,b)::es,h=>by
  simp only[h_3,mJ,pk,k.same]at h
  simp only[Cu]
  cases hb:x==a with
  |true=>rw[hb]at h;simp at h
  |false=>
   rw[hb,ta]at h
   simp only[g_7,if_false,Option.map_eq_none_iff]at h ⊢
   rw[h_3,h_3,xO k v x y es h,m_6]
def Da(k:Kc K)(v:Cd V)(x:K)(y:V): ∀(es:List (K×V)) (j:Nat) (u:D),pk (k.c.enc x) (es.map (mJ k v)) 0=some (j,u)->j<es.length/\(∃p,es[j]? =some p/\(x==p.1)=true)/\(Cu x y es).map (mJ k v)=(es.map (mJ k v)).set j (mJ k v (x,y))
 |[],_,_,h=>by cases h
 |(a,b)::es,j,u,h=>by
  simp only[h_3,mJ,pk,k.same]at h
  simp only[Cu]
  cases hb:x==a with
  |true=>
   rw[hb]at h
   simp only[if_true,g_4,g_8]at h
   obtain⟨rfl,-⟩:=h
   simp_all
  |false=>
   rw[hb,ta]at h
   simp only[g_7,if_false,g_2,g_8]at h
   obtain⟨⟨j',u'⟩,h1,rfl,-⟩:=h
   obtain⟨i1,⟨p,i2,i3⟩,i4⟩:=Da k v x y es j' u' h1
   grind
end
def D9(hx:isKey T x=true)(hy:isKey T y=true)(hu:Rd g w u x)(hv:Rd g w v y)(h:vW x y=true):Instr.sameBits 10000 v u=true:=by
 cases T with
 |int k=>
  cases x<;>simp only[isKey,g_7]at hx
  cases y<;>simp only[isKey,g_7]at hy
  cases hu;cases hv
  simp only[beq_iff_eq]at hx hy
  simp only[vW,beq_iff_eq]at h
  subst hx;subst hy;subst h
  show Instr.sameBits (9999+1) _ _=true
  simp[Instr.sameBits]
 |str=>
  cases x<;>simp only[isKey,g_7]at hx
  cases y<;>simp only[isKey,g_7]at hy
  cases hu;cases hv
  simp only[vW,beq_iff_eq]at h
  subst h
  show Instr.sameBits (9999+1) _ _=true
  simp[Instr.sameBits,uP]
section
variable {P:Program} {st:St} {K V:Type} [BEq K]
def PS{k:Kc K}{v:Cd V}(hr:Rel st a w g){es:List (K×V)}{key:K}{y:V}(hT:P.underlying T=some (.map KT ET))(hk:p9 P KT=some k.kt)
  (hm:BG k v st.H (some i)=some es) (hi:Rd g w iv (k.c.enc key)) (hy:Rd g w yv (v.enc y)):
  ∃kb w',g.ρ[i]? =some kb/\g.ow kb=.obj i/\(Instr.mapUpdate T (.map (some kb)) iv yv).run P w=.ok () w'/\w'.heap.size=w.heap.size/\fE w w'/\(∀k',k'≠kb->w'.heap[k']? =w.heap[k']?)/\RO g w' i (.map ((Cu key y es).map (mJ k v))):=by
 obtain⟨kb,ms,clock,f1,f2,f3,f4,f5,f6,r,g1,g2⟩:=C9 hr hm hi
 have hkp: ∀(ob:Obj) (o':Own),o'≠.obj i->aS o' g w g (od w kb ob):=λob o' ho=>aS.block f2 ho λk' h=>rr h
 have up: ∀(ob:Obj) {u:Value} {x:D},Rd g w u x->Rd g (od w kb ob) u x:=λob _ _ h=>Rd.bo (hkp ob _ ψ) (λ_ _ h=>h) h
 rcases g2 with⟨g3,rfl,g4⟩|⟨y0,u,j,g3,rfl,g5,g4⟩
 .refine⟨kb,od w kb (.map (ms.push {key:=iv,val:=yv,born:=clock}) (clock+1)),f1,f2,?_,yG,⟨rfl,rfl⟩,λk' h=>rr h,kb,_,_,f1,f2,yH f3,?_,?_,λj p hj=>?_⟩
  .simp only[Instr.mapUpdate,Sem.run_bind,run_underlying hT,Result.andThen_ok,ru f3,run_checkKey hk,run_findKey hk g1,AH f3]
  .rw[xO k v key y es g4];simp[f4]
  .obtain⟨b1,b2⟩:=f5
   refine⟨λm hm=>?_,?_⟩
   .grind
   grind
  .rw[xO k v key y es g4]at hj
   by_cases hlt:j<es.length
   .rw[h_5 (by simpa using hlt),h_0]at hj
    simp only[g_2]at hj
    obtain⟨q,hq,rfl⟩:=hj
    obtain⟨m,m1,m2,m3⟩:=f6 j q hq
    exact⟨m,φ,up _ m2,up _ m3⟩
   .have:j=es.length:=by grind
    subst this
    rw[h_1 ψ]at hj
    simp only[k_6,Nat.sub_self,j_5,g_4]at hj
    subst hj
    exact⟨{key:=iv,val:=yv,born:=clock},by rw[<-f4];simp,up _ hi,up _ hy⟩
 .obtain⟨i1,⟨p,i2,i3⟩,i4⟩:=Da k v key y es j _ g4
  have hms:j<ms.size:=by omega
  obtain⟨m,m1,m2,m3⟩:=f6 j p i2
  refine⟨kb,od w kb (.map (ms.modify j λe=>{e with key:=iv,val:=yv}) clock),f1,f2,?_,yG,⟨rfl,rfl⟩,λk' h=>rr h,kb,_,_,f1,f2,yH f3,?_,?_,λj' p' hj=>?_⟩
  .have hsb:Instr.sameBits 10000 m.key iv=true:=D9 (k.TE _) (k.TE _) hi m2 (by rw[k.same];exact i3)
   simp only[Instr.mapUpdate,Sem.run_bind,run_underlying hT,Result.andThen_ok,ru f3,run_checkKey hk,run_findKey hk g1,m1,m_2,w_9,Instr.keyThatStays,hsb,if_true,Sem.run_pure,AH f3]
  .rw[i4];simp[f4]
  .obtain⟨b1,b2⟩:=f5
   have hborn:(ms.modify j λe=>{e with key:=iv,val:=yv}).toList.map (·.born)=ms.toList.map (·.born):=by
    apply p_1
    grind
   refine⟨λm hm=>?_,by rw[hborn];exact b2⟩
   have:m.born∈ms.toList.map (·.born):=by grind
   grind
  .rw[i4]at hj
   by_cases e:j=j'
   .subst e
    rw[g_0 (by simpa using i1)]at hj
    cases hj
    refine⟨{m with key:=iv,val:=yv},?_,up _ hi,up _ hy⟩
    simp[v_7,m1]
   .rw[g_1 e,h_0]at hj
    simp only[g_2]at hj
    obtain⟨q,hq,rfl⟩:=hj
    obtain⟨m,m1,m2,m3⟩:=f6 j' q hq
    exact⟨m,by simp[v_7,e,m1],up _ m2,up _ m3⟩
def jQ.mapUpdate{k:Kc K}{v:Cd V}{key:K}{y:V}(hop:o.op=.mapUpdate T x ix yx\/o.op=.insert T x ix yx)(hd:o.dst=none)(hT:P.underlying T=some (.map KT ET))(hk:p9 P KT=some k.kt)
  (hx:cu st x=some (cM.enc m)) (hi:cu st ix=some (k.c.enc key)) (hy:cu st yx=some (v.enc y)) (hH:BF k v st.H m key y=some H'):jQ P false st o (st.hp H'):=by
 refine jQ.skip λa w g hr=>?_
 simp only[BF,g_6,g_2]at hH
 obtain⟨i,rfl,es,hm,rfl⟩:=hH
 obtain⟨kb',e1,e2⟩:=sT hr hx
 obtain⟨kb,w',f1,f2,f3,f4,fos,f5,f6⟩:=PS hr hT hk hm (cx hr hi) (cx hr hy)
 rw[f1]at e1;cases e1
 refine⟨w',g,?_,?_,Fr.setObj f2 f4 f5 fos⟩
 .unfold execOp
  rcases hop with hop|hop<;>(simp_all)
 .rw[hd]
  exact hr.setObj (aX (zV.1 hm)) f1 f2 f5 f6
end
section
variable {P:Program} {st:St} {K V:Type} [BEq K]
end
mutual
def fO:D->Bool
 |.ptr _ _|.map _=>false
 |.list _ xs=>gm xs
 |.agg cs=>gm cs
 |.iface _ x=>fO x
 |.fn _ fs cs=>gm fs&&gm cs
 |.fG cs=>gm cs
 |_=>true
def gm:List D->Bool
 |[]=>true
 |x::xs=>fO x&&gm xs
end
def jD: ∀{xs:List D},gm xs=true-> ∀(j:Nat) (y:D),xs[j]? =some y->fO y=true
 |[],_,j,y,h=>by simp at h
 |x::xs,hn,j,y,h=>by
  simp only[gm,g_3]at hn
  cases j with
  |zero=>simp at h;subst h;exact hn.1
  |succ j=>exact jD hn.2 j y (by simpa using h)
def gl{α:Type}{f:α->D}(h: ∀x,fO (f x)=true): ∀l:List α,gm (l.map f)=true
 |[]=>rfl
 |x::l=>by simp[gm,h x,gl h l]
def wo(h:fO x=true): ∀(j:Nat) (y:D),x.cells[j]? =some y->fO y=true:=by
 intro j y hy
 cases x with
 |agg cs=>simp only[fO]at h;exact jD h j y hy
 |_=>
  cases j with
  |zero=>simp[D.cells]at hy;subst hy;exact h
  |succ j=>simp[D.cells]at hy
def jh:SV->Bool
 |.d x=>fO x
 |.own _ xs=>gm xs
 |.g8 vs=>vs.all λ|.d x=>fO x|.own _ xs=>gm xs|.undef=>true|_=>false
 |.undef=>true
 |_=>false
def Rd.Bd(hk:aS .free g w g' w')(h:Rd g w v x)(hn:fO x=true):Rd g' w' v x:=by
 induction h with
 |bool=>exact .bool
 |int=>exact .int
 |str=>exact .str
 |cm=>exact .cm
 |nO=>exact .nO
 |list us hk' hb hl hp hn' hc _ ih=>
  refine .list us (hk _ _ hk' hb).1 (hk _ _ hk' hb).2 hl hp hn' hc λi x hx j y hy=>ih i x hx j y hy ?_
  simp only[fO]at hn
  exact wo (jD hn i x hx) j y hy
 |agg hl us hc _ ih=>exact .agg hl us hc λj y hy=>ih j y hy (jD (by simpa[fO]using hn) j y hy)
 |nilIface=>exact .nilIface
 |iface _ ih=>exact .iface (ih (by simpa[fO]using hn))
 |fn hl1 hl2 us1 us2 hc1 _ hc2 _ ih1 ih2=>
  simp only[fO,g_3]at hn
  exact .fn hl1 hl2 us1 us2 hc1 (λj y hy=>ih1 j y hy (jD hn.1 j y hy)) hc2 (λj y hy=>ih2 j y hy (jD hn.2 j y hy))
 |lA=>exact .lA
 |fU=>exact .fU
 |ptr h=>simp[fO]at hn
 |fG us hk' hb hc _ ih=>exact .fG us (hk _ _ hk' hb).1 (hk _ _ hk' hb).2 hc λj y hy=>ih j y hy (jD (by simpa[fO]using hn) j y hy)
 |kn=>exact .kn
 |map h=>simp[fO]at hn
 |raw h=>exact .raw h
def RC.Bd(hk:aS .free g w g' w')(h1:aS (.bR o) g w g' w')(h:RC g w o v s)(hn:jh s=true):RC g' w' o v s:=by
 cases s with
 |d x=>exact Rd.Bd hk h hn
 |own n xs=>
  rcases h with h|⟨k,off,cap,c,T,us,hv,ho,hb,hl,hz,hw,hc,hr⟩
  .exact .inl h
  .obtain⟨ho',hb'⟩:=h1 k _ ho hb
   refine .inr ⟨k,off,cap,c,T,us,hv,ho',hb',hl,hz,hw,hc,λi x hx j y hy=>Rd.Bd hk (hr i x hx j y hy) ?_⟩
   simp only[jh]at hn
   exact wo (jD hn i x hx) j y hy
 |mI v0 n xs=>cases hn
 |undef=>trivial
 |_=>exact h.elim
def qa:Own->Own
 |.free=>.free
 |.bR (.slot j)=>.bR (.slot j)
 |_=>.out
def Gh.xZ(g:Gh):Gh:=⟨λk=>qa (g.ow k),[]⟩
def ri(n:Nat)(ow ow':Nat->Own)(k:Nat):Own:=
 if k<n then(match ow k with|.free=>.free|.bR (.slot j)=>(match ow' k with|.obj _=>.out|.bR (.az _ _)=>.out|o=>o)|o=>o)
 else match ow' k with|.obj _=>.out|.bR (.az _ _)=>.out|o=>o
def LC(P:Program)(f:FuncId)(args:List SV)(r:SV):Prop:=
 ∀(w:World) (g:Gh) (vs:Array Value),kh g w vs args->RH g w []->Calls P f vs w λe w'=> ∃v g',e=.returned v/\yo g' w' v r/\Fr false g w g' w'
def Ff(ha:args.all jh=true)(hr:jh r=true)(h:LC P f args r):PC P f args r:=by
 intro H w g vs hA hH
 have hkeep:aS .free g w g.xZ w:=λk o h1 h2=>⟨by simp[Gh.xZ,h1,qa],h2⟩
 have hA':kh g.xZ w vs args:=by
  refine⟨hA.1,λj s hj=>?_⟩
  obtain⟨u,u1,u2⟩:=hA.2 j s hj
  refine⟨u,u1,u2.Bd hkeep (λk o h1 h2=>⟨by simp[Gh.xZ,h1,qa],h2⟩) ?_⟩
  grind
 refine(h w g.xZ vs hA' ⟨rfl,ψ⟩).mono λe w' hh=>?_
 obtain⟨v,g',rfl,hres,hf⟩:=hh
 let g2:Gh:=⟨ri w.heap.size g.ow g'.ow,g.ρ⟩
 have hid: ∀(k:Nat) (o:Obj),qa (g.ow k)=.out->w.heap[k]? =some o->g2.ow k=g.ow k/\w'.heap[k]? =some o:=by
  intro k o h1 h2
  obtain⟨-,h4⟩:=hf.out k o (by simpa[Gh.xZ]using h1) h2
  refine⟨?_,h4⟩
  have hlt:=px h2
  show ri w.heap.size g.ow g'.ow k=_
  unfold ri
  rw[if_pos hlt]
  split
  .rename_i e;exact e.symm
  .rename_i j e;rw[e]at h1;cases h1
  .rfl
 have hfree:aS .free g w g2 w':=by
  intro k o h1 h2
  obtain⟨-,h4⟩:=hf.free k o (by simp[Gh.xZ,h1,qa]) h2
  refine⟨?_,h4⟩
  show ri w.heap.size g.ow g'.ow k=_
  unfold ri
  rw[if_pos (px h2),h1]
 have hback:aS .free g' w' g2 w':=by
  intro k o h1 h2
  refine⟨?_,h2⟩
  show ri w.heap.size g.ow g'.ow k=_
  unfold ri
  split
  .rename_i hlt
   cases hk:g.ow k with
   |free=>rfl
   |bR l=>
    cases l with
    |slot j=>simp only[h1]
    |_=>
     exfalso
     have h2': ∃o',w.heap[k]? =some o':=⟨w.heap[k],by simp[hlt]⟩
     obtain⟨o',h3⟩:=h2'
     have:=(hf.out k o' (by simp[Gh.xZ,hk,qa]) h3).1
     rw[h1]at this;cases this
   |_=>
    exfalso
    have h2': ∃o',w.heap[k]? =some o':=⟨w.heap[k],by simp[hlt]⟩
    obtain⟨o',h3⟩:=h2'
    have:=(hf.out k o' (by simp[Gh.xZ,hk,qa]) h3).1
    rw[h1]at this;cases this
  .rw[h1]
 have hbackL: ∀l:Loc,(∀i j,l≠.az i j)->aS (.bR l) g' w' g2 w':=by
  intro l hl k o h1 h2
  refine⟨?_,h2⟩
  show ri w.heap.size g.ow g'.ow k=_
  unfold ri
  have hno:(match g'.ow k with|.obj _=>Own.out|.bR (.az _ _)=>.out|o=>o)=.bR l:=by
   grind
  split
  .rename_i hlt
   have h2': ∃o',w.heap[k]? =some o':=⟨w.heap[k],by simp[hlt]⟩
   obtain⟨o',h3⟩:=h2'
   have hcontra:qa (g.ow k)=.out\/qa (g.ow k)=.free->False:=by
    rintro (e|e)
    .have:=(hf.out k o' (by simpa[Gh.xZ]using e) h3).1;rw[h1]at this;cases this
    .have:=(hf.free k o' (by simpa[Gh.xZ]using e) h3).1;rw[h1]at this;cases this
   cases hk:g.ow k with
   |free=>exact(hcontra (.inr (by rw[hk];rfl))).elim
   |bR l'=>
    cases l' with
    |slot j=>exact hno
    |_=>exact(hcontra (.inl (by rw[hk];rfl))).elim
   |_=>exact(hcontra (.inl (by rw[hk];rfl))).elim
  .exact hno
 refine⟨v,g2,rfl,?_,⟨hH.1,λi o hi=>?_⟩,hf.size,hfree,?_,λ_ _ h=>h,?_,?_,λ_=>rfl,hf.os⟩
 .
  cases r with
  |d x=>exact Rd.Bd hback hres hr
  |own n xs=>exact RC.Bd (s:=.own n xs) hback (hbackL _ ψ) hres hr
  |g8 vs'=>
   obtain⟨us,e1,e2,e3⟩:=hres
   refine⟨us,e1,e2,λj s hj=>?_⟩
   obtain⟨u,u1,u2⟩:=e3 j s hj
   refine⟨u,u1,u2.Bd hback (hbackL _ ψ) ?_⟩
   simp only[jh,h_2]at hr
   have:=hr s (h_4.2 ⟨j,hj⟩)
   cases s<;>simpa[jh]using this
  |undef=>trivial
  |_=>exact hres.elim
 .
  have hhid: ∀o',qa o'=.out->aS o' g w g2 w':=λo' ho' k ob h1 h2=>by
   grind
  exact(hH.2 i o hi).ph hfree (hhid _ rfl) (λj=>hhid _ rfl) (λ_ _ h=>h)
 .intro k o h1 h2
  obtain⟨a,b⟩:=hid k o (by rw[h1];rfl) h2
  exact⟨a.trans h1,b⟩
 .intro _ i k o h1 h2
  obtain⟨a,b⟩:=hid k o (by rw[h1];rfl) h2
  exact⟨a.trans h1,b⟩
 .intro _ i j k o h1 h2
  obtain⟨a,b⟩:=hid k o (by rw[h1];rfl) h2
  exact⟨a.trans h1,b⟩
section
variable {P:Program} {st:St} {ops:Array Oper} {k m:Nat} {Q:St->Prop} (n:Nat) (H:List aT)
def RA(ops:Array Oper)(k:Nat)(st:St):Option (Option Tmp×D):=
 match gu ops k st with
 |some o=>match o.op with
  |.nilCheck (.tmp s)=>match cu st (.tmp s)with
   |some d=>some (o.dst,d)
   |none=>none
  |_=>none
 |none=>none
def ba(hp:p=some i)(h:RA ops k st=some (d,cP.enc p):=by kernel_rfl):qY P ops k st d (.d (.ptr i 0)):=by
 subst hp
 unfold RA at h
 split at h
 .rename_i o ho
  split at h
  .rename_i s hop
   split at h
   .rename_i d' hv
    simp only[g_4,g_8]at h
    obtain⟨rfl,rfl⟩:=h
    obtain⟨h1,h2⟩:=bu ho
    refine⟨o,h1,h2,cE ?_,rfl,rfl⟩
    simp only[cu,val]at hv
    split at hv
    .rename_i d hd
     cases hv
     simp[Dz,hop,AM,hd,Iu,vP,RI,cP]
    .cases hv
   .cases h
  .cases h
 .cases h
def NM(P:Program)(ops:Array Oper)(k:Nat)(st:St)(cs:List SV):Option (Option Tmp×Nat×Nat×Hp×SV):=
 match gu ops k st with
 |some o=>match o.op with
  |.load T x=>match sf st x,C4 st x,sN st x with
   |none,none,some (i,off)=>
    if(P.underlying T).isNone then none
    else if fB P T then(if 0<P.cellsOf T/\P.cellsOf T<=cs.length then(match ye (cs.take (P.cellsOf T))with|some ys=>some (o.dst,i,off,st.H,.d (.agg ys))|none=>none)else none)
    else match cs with
     |.d x::_=>some (o.dst,i,off,st.H,.d x)
     |.own n xs::_=>some (o.dst,i,off,st.H,.bS (.az i off) n xs)
     |_=>none
   |_,_,_=>none
  |_=>none
 |none=>none
def aA{α:Type}{c:Cc α}{x:α}(hx:bz c H0 i off=some x)(h:NM P ops k st (c.enc x)=some (d,i,off,H0,s):=by kernel_rfl):qY P ops k st d s:=by
 obtain⟨cs,r,e1,e2⟩:=Qi hx
 unfold NM at h
 split at h
 .rename_i o ho
  split at h
  .rename_i T xo hop
   split at h
   .rename_i i' off' h1 h2 h3
    obtain⟨g1,g2⟩:=bu ho
    have key: ∀s',qE P T (.az i' off') (c.enc x++r)=some s'->i'=i->off'=off->st.H=H0->lB o.dst s'=true->qY P ops k st o.dst s':=by
     rintro s' hl rfl rfl rfl hlk
     refine⟨o,g1,g2,cE ?_,hlk,rfl⟩
     simp only[Dz,hop,sU,h1,h2,h3,e1,e2,hl]
    split at h
    .cases h
    .rename_i hu
     split at h
     .rename_i ha
      split at h
      .rename_i hn
       split at h
       .rename_i ys hys
        simp only[g_4,g_8]at h
        obtain⟨rfl,e3,e4,e5,rfl⟩:=h
        refine key _ ?_ e3 e4 e5 rfl
        unfold qE
        grind
       .cases h
      .cases h
     .rename_i ha
      split at h
      .rename_i y rest hc
       simp only[g_4,g_8]at h
       obtain⟨rfl,e3,e4,e5,rfl⟩:=h
       refine key _ ?_ e3 e4 e5 rfl
       unfold qE
       grind
      .rename_i w' xs rest hc
       simp only[g_4,g_8]at h
       obtain⟨rfl,e3,e4,e5,rfl⟩:=h
       refine key _ ?_ e3 e4 e5 rfl
       unfold qE
       grind
      .cases h
   .cases h
  .cases h
 .cases h
def S0(P:Program)(ops:Array Oper)(k:Nat)(st:St):Option (Option Tmp×Bool×D×D×CJ×D×Hp):=
 match gu ops k st with
 |some o=>match o.op with
  |.lookup T x ix ok=>match P.underlying T with
   |some (.map KT ET)=>match p9 P KT,cu st x,cu st ix,yD P ET with
    |some kt,some dm,some dk,some z=>some (o.dst,ok,dm,dk,kt,z,st.H)
    |_,_,_,_=>none
   |_=>none
  |_=>none
 |none=>none
def Mx{K V:Type}[BEq K]{kc:Kc K}{v:Cd V}{key:K}{z:V}{q:Option V}(hq:BH kc v H0 mm key=some q)
  (h:S0 P ops k st=some (d,ok,cM.enc mm,kc.c.enc key,kc.kt,v.enc z,H0):=by kernel_rfl):qY P ops k st d (Gj v ok z q):=by
 unfold S0 at h
 split at h
 .rename_i o ho
  split at h
  .rename_i T x ix ok' hop
   split at h
   .rename_i KT ET hT
    split at h
    .rename_i kt dm dk z' h1 h2 h3 h4
     simp only[g_4,g_8]at h
     obtain⟨rfl,rfl,rfl,rfl,rfl,rfl,rfl⟩:=h
     obtain⟨g1,g2⟩:=bu ho
     refine⟨o,g1,g2,iW.lookup hop hT h1 h2 h3 h4 hq,?_,rfl⟩
     unfold Gj
     cases ok'<;>rfl
    .cases h
   .cases h
  .cases h
 .cases h
def Cb{pu:Bool}{α:Type}(p:Option α)(S:Option α->St)(h0:st=S p)(hN:p=none->bX P pu ops k (S none) Q)(hS: ∀i,p=some i->bX P pu ops k (S (some i)) Q):bX P pu ops k st Q:=by
 subst h0
 cases p with
 |none=>exact hN rfl
 |some i=>exact hS i rfl
def kd(L:List Nat)(l:List (Nat×SV))(ho:ops[k]? =some o)(hw:fy ops st o=some true)(hs:jQ P false st o st')(cG:bx n L st'=some (l,H))(h:bX P false ops (k+1) (sp n l H) Q):bX P false ops k st Q:=
 qe ho hw hs (cX L (aO cG) h)
def FI(P:Program)(ops:Array Oper)(k:Nat)(st:St):Option (Nat×Nat×D×Hp):=
 match gu ops k st with
 |some o=>match o.op with
  |.store T x y=>match sN st x,cu st y with
   |some (i,off),some d=>if(P.underlying T).isNone=false/\d.cells.length=P.cellsOf T/\o.dst=none then some (i,off,d,st.H)else none
   |_,_=>none
  |_=>none
 |none=>none
def nY{α:Type}{c:Cd α}{x:α}(L:List Nat)(l:List (Nat×SV))(hx:dW c H0 i off x=some H)(h:FI P ops k st=some (i,off,c.enc x,H0))(cG:bx n L (st.hp H)=some (l,H))
  (hn:bX P false ops (k+1) (sp n l H) Q):bX P false ops k st Q:=by
 unfold FI at h
 split at h
 .rename_i o ho
  split at h
  .rename_i T x y hop
   split at h
   .rename_i i' off' d h1 h2
    split at h
    .rename_i hc
     simp only[g_4,g_8]at h
     obtain⟨rfl,rfl,rfl,rfl⟩:=h
     obtain⟨g1,g2⟩:=bu ho
     exact kd n H L l g1 g2 (tB hop hc.2.2 h1 h2 hc.1 hc.2.1 hx) cG hn
    .cases h
   .cases h
  .cases h
 .cases h
def newAt(P:Program)(ops:Array Oper)(k:Nat)(st:St)(l:List (Nat×Nat×Bool)):Option (Option Tmp×aT×Hp×Bool):=
 match gu ops k st with
 |some o=>match o.op with
  |.alloc T=>match yD P T with
   |some z=>some (o.dst,.cells (mh l (z.cells.map .d)),st.H,false)
   |none=>none
  |.box T x=>match cu st x with
   |some y=>some (o.dst,.cells (mh l (y.cells.map .d)),st.H,false)
   |none=>none
  |.makeMap T none=>some (o.dst,.map [],st.H,true)
  |_=>none
 |none=>none
def qT{d:Option Tmp}{ob:aT}{H0:Hp}{q:Hp×Nat}{b:Bool}(nl:List (Nat×Nat×Bool))(L:List Nat)(l:List (Nat×SV))(hq:ko H0 ob=some q)(h:newAt P ops k st nl=some (d,ob,H0,b))(hH:q.1=H)
  (cG:bx n L ((st.hp H).put d (.d (if b then .map q.2 else .ptr q.2 0)))=some (l,H)) (hn:bX P false ops (k+1) (sp n l H) Q):bX P false ops k st Q:=by
 cases hq
 subst hH
 unfold newAt at h
 split at h
 .rename_i o ho
  obtain⟨g1,g2⟩:=bu ho
  split at h
  .rename_i T hop
   split at h
   .rename_i z hz
    simp only[g_4,g_8]at h
    obtain⟨rfl,rfl,rfl,rfl⟩:=h
    exact kd n _ L l g1 g2 (zn nl hop hz) cG hn
   .cases h
  .rename_i T x hop
   split at h
   .rename_i y hy
    simp only[g_4,g_8]at h
    obtain⟨rfl,rfl,rfl,rfl⟩:=h
    exact kd n _ L l g1 g2 (DJ nl hop hy) cG hn
   .cases h
  .rename_i T hop
   simp only[g_4,g_8]at h
   obtain⟨rfl,rfl,rfl,rfl⟩:=h
   exact kd n _ L l g1 g2 (CH hop) cG hn
  .cases h
 .cases h
def SZ(P:Program)(ops:Array Oper)(k:Nat)(st:St):Option (D×D×D×CJ×Hp):=
 match gu ops k st with
 |some o=>match(match o.op with|.mapUpdate T x ix y=>some (T,x,ix,y)|.insert T x ix y=>some (T,x,ix,y)|_=>none)with
  |some (T,x,ix,y)=>match P.underlying T with
   |some (.map KT ET)=>match p9 P KT,cu st x,cu st ix,cu st y with
    |some kt,some dm,some dk,some dy=>if o.dst=none then some (dm,dk,dy,kt,st.H)else none
    |_,_,_,_=>none
   |_=>none
  |none=>none
 |none=>none
def Mo{K V:Type}[BEq K]{kc:Kc K}{v:Cd V}{key:K}{y:V}(L:List Nat)(l:List (Nat×SV))(hx:BF kc v H0 mm key y=some H)(h:SZ P ops k st=some (cM.enc mm,kc.c.enc key,v.enc y,kc.kt,H0))
  (cG:bx n L (st.hp H)=some (l,H)) (hn:bX P false ops (k+1) (sp n l H) Q):bX P false ops k st Q:=by
 unfold SZ at h
 split at h
 .rename_i o ho
  obtain⟨g1,g2⟩:=bu ho
  split at h
  .rename_i T x ix yx hop
   split at h
   .rename_i KT ET hT
    split at h
    .rename_i kt dm dk dy h1 h2 h3 h4
     split at h
     .rename_i hd
      simp only[g_4,g_8]at h
      obtain⟨rfl,rfl,rfl,rfl,rfl⟩:=h
      refine kd n H L l g1 g2 (jQ.mapUpdate ?_ hd hT h1 h2 h3 h4 hx) cG hn
      grind
     .cases h
    .cases h
   .cases h
  .cases h
 .cases h
def BN{a:Act}{d:Nat}{v:Value}{x:Operand}(h:x≠.tmp d):(a.put (some d) v).eval x=a.eval x:=by
 cases x with
 |tmp t=>exact cq (by simpa usingλe=>h (by rw[e]))
 |_=>rfl
variable {pu:Bool}
def QD{α:Type}{Q:Exit->St->Prop}(L:List Nat)(l:α->List (Nat×SV))(Hf:α->Hp)(C:α->Prop)(hj: ∀v,C v->SW P pu y (sp n (l v) (Hf v)) Q)(h:SW P pu x st (thenS (λs=> ∃v ll,bx n L (s.k8 ll)=some (l v,Hf v)/\C v) Q)):SW P pu (.seq x y) st Q:=
 Hn L (λv=>sp n (l v) (Hf v)) C hj (wZ h λe s hh=>by
  cases e with
  |normal=>obtain⟨v,ll,h1,h2⟩:=hh;exact⟨v,ll,aO h1,h2⟩
  |_=>exact hh)
def mA{γ β:Type}{Q:Exit->St->Prop}(L:List Nat){body:γ->Option (γ⊕β)}(l:γ->List (Nat×SV))(Hf:γ->Hp)(E:β->Exit->St->Prop){x:γ}{b:β}(hit:Sh.iter body fuel x=some b)(h0:bx n L st=some (l x,Hf x))
  (round: ∀x o,body x=some o->SW P pu c (sp n (l x) (Hf x)) (thenS (λs'=> ∃y,o=.inl y/\bx n L s'=some (l y,Hf y)) (λe s'=> ∃b,o=.inr b/\E b e s')))
  (after: ∀e s',E b e s'->Q e s'):SW P pu (.loop c) st Q:=
 DF L (λx=>sp n (l x) (Hf x)) E hit (aO h0) (λx o h=>wZ (round x o h) λe s hh=>by
  cases e with
  |normal=>obtain⟨y,h1,h2⟩:=hh;exact⟨y,h1,aO h2⟩
  |_=>exact hh) after
def JA(P:Program)(rs:List ResultVar)(r:SV)(e:Exit)(st:St):Prop:= ∃H,dp P rs H r e st
def JA.ret(l:List (Nat×Nat))(h:Cz P rs (st.k8 l)=some r):JA P rs r .ret st:=⟨st.H,.ret l h rfl⟩
end
def pB{P:Program}(hf:P.funcs[f]? =some fn)(hb:fn.body=some c)(ha:args.all jh=true)(hr:jh r=true)
  (h:SW P false c (ml fn.ntmps args []) (JA P fn.results.toList r)):PC P f args r:=by
 refine Ff ha hr λw g vs hA hH=>?_
 have:=zc (P:=P) (pu:=false) (args:=args) (H:=[]) (r:=r) (λ_=>True) hf hb (λa w g hr=>?_) w g vs hA hH
 .exact this.mono λe w' hh=>by
   grind
 .refine Code.wp_mono (λe a' w' hh=>?_) (h a w g hr)
  obtain⟨st',g',⟨H',he,l,h1,h2⟩,r1,f⟩:=hh
  exact⟨st'.k8 l,g',⟨he,wN h1,trivial⟩,r1.k8,f⟩
end Go.Sh
namespace Go.Sh
def po{β α:Type}{a:α}{f:β->α}{r:α}(h:Option.elim none a f=r):a=r:=h
def pn{β α:Type}{a:α}{f:β->α}{i:β}{r:α}(h:Option.elim (some i) a f=r):f i=r:=h
section
variable {P:Program} {st:St} {ops:Array Oper} {k:Nat} {Q:St->Prop} (n:Nat) (H:List aT) {K V:Type} [BEq K]
def Ie{Q:Exit->Act->World->Prop}(hg:o.guard=none)(hrun:(execOp a.eval o).run P w=.ok (.value v) w')(h:wpList P ops Q rest (a.put o.dst v) w'):wpList P ops Q (o::rest) a w:=by
 unfold wpList
 rw[show Region.wanted o (yielded ops a.tmps)=true by unfold Region.wanted;rw[hg],if_pos rfl]
 refine .inl ?_
 unfold Oper.wp
 rw[hrun,Oper.upon_value]
 exact h
def kR: ∀(n:Nat) (l:List (Nat×SV)) (t:Nat),(vi l n t).length=n
 |0,_,_=>rfl
 |n+1,[],t=>by simp[vi,kR n]
 |n+1,(t',s)::r,t=>by simp only[vi];split<;>simp[kR n]
end
def C6(st:St)(s:Nat):Option (Option Value×Nat×List D):=
 match st.tmps[s]? with
 |some (.own n xs)=>some (none,n,xs)
 |some (.mI v n xs)=>some (some v,n,xs)
 |_=>none
def C5:Option Value->Nat->List D->SV
 |none,n,xs=>.own n xs
 |some v,n,xs=>.mI v n xs
def wg{st:St}(h:C6 st s=some (p,n,xs)):st.tmps[s]? =some (C5 p n xs):=by
 unfold C6 at h
 split at h
 .cases h;assumption
 .cases h;assumption
 .cases h
def xJ(p:Option Value)(n:Nat)(xs:List D):gp (C5 p n xs)=2:=by cases p<;>rfl
def we{val:Nat->Value}:RS g w tm val t v (C5 p n xs)<->(∀v0,p=some v0->v=v0)/\dj g w (.slot t) v n xs:=by
 cases p with
 |none=>exact⟨λh=>⟨nofun,h⟩,λh=>h.2⟩
 |some v0=>exact⟨λh=>⟨λv1 e=>by cases e;exact h.1,h.2⟩,λh=>⟨h.1 v0 rfl,h.2⟩⟩
def xQ(t0:Nat):SV->Bool
 |.bS (.slot s) _ _|.eS (.slot s) _=>s==t0
 |_=>false
def St.Bv(st:St)(t0:Nat):St:={st with tmps:=st.tmps.map λs=>if xQ t0 s then .undef else s}
def CG{st:St}{t0 t:Nat}{s:SV}(h:(st.Bv t0).tmps[t]? =some s):s=.undef\/(st.tmps[t]? =some s/\xQ t0 s=false):=by
 simp only[St.Bv,h_0,g_2]at h
 grind
def uV(st:St)(t:Nat):(st.Bv t).tmps.length=st.tmps.length:=by simp[St.Bv]
def St.rq(st:St)(s:Nat)(p:Option Value)(n:Nat)(xs:List D):St:=(st.Bv s).set s (C5 p n xs)
def La(hne:t≠s0)(hm:xQ s0 s=false)(ho:ki t s (.bR (.slot s0))):False:=by
 cases s<;>simp[ki]at ho
 .exact hne ho.symm
 .subst ho;simp[xQ]at hm
 .subst ho;simp[xQ]at hm
 .exact hne ho.symm
section
variable {P:Program} {pu:Bool} {st:St} {ops:Array Oper} {k:Nat} {Q:St->Prop}
def Rel.rq{a:Act}{w w':World}{g g':Gh}(hr:Rel st a w g){s:Nat}{p:Option Value}{n:Nat}{xs ys:List D}(hs:st.tmps[s]? =some (C5 p n xs))(hk: ∀o,o≠.bR (.slot s)->aS o g w g' w')(hρ:g'.ρ=g.ρ)
  (hn:dj g' w' (.slot s) (valOf a s) n ys):Rel (st.rq s p n ys) a w' g':=by
 have hlt:=aX hs
 have hp:=(we.1 (hr.tmp s _ hs)).1
 refine bg hr (by simp[St.rq,St.set,St.Bv,hr.len]) hr.ei (λ_ _ h=>by rw[hρ];exact h) (λt s' hs'=>?_) (hr.hp.bo (λo ho=>hk o λe=>by subst e;exact ho.elim) (λ_ _ h=>by rw[hρ];exact h) (by rw[hρ]))
 by_cases ht:t=s
 .subst ht
  simp only[St.rq,St.set]at hs'
  rw[g_0 (by rw[uV];exact hlt)]at hs'
  cases hs'
  exact .inr (.inl (we.2 ⟨hp,hn⟩))
 .simp only[St.rq,St.set,g_1 (j_4 ht)]at hs'
  rcases CG hs' with e|⟨e1,e2⟩
  .exact .inl e
  .refine .inr (.inr ⟨e1,rfl,λo ho=>hk o λe=>?_,λs' hd=>⟨rfl,λx hx hb=>?_⟩⟩)
   .subst e;exact La ht e2 ho
   .by_cases h1:s'=s
    .subst h1
     rw[hs]at hx;cases hx
     exact⟨C5 p n ys,by simp only[St.rq,St.set];rw[g_0 (by rw[uV];exact hlt)],by rw[xJ,xJ]⟩
    .refine⟨x,?_,rfl⟩
     simp only[St.rq,St.set,g_1 (j_4 h1),St.Bv,h_0,hx,m_2]
     have:xQ s x=false:=by cases x<;>simp[gp]at hb<;>rfl
     simp[this]
def UE(ops:Array Oper)(k:Nat)(st:St):Option (Option Tmp×Nat):=
 match gu ops k st with
 |some o=>match o.op with
  |.move (.tmp s)=>match C6 st s with
   |some _=>if o.dst !=some s then some (o.dst,s)else none
   |none=>none
  |_=>none
 |none=>none
def UL(P:Program)(ops:Array Oper)(k:Nat)(st:St):Option (Option Tmp×Nat×Nat×List D×Int):=
 match gu ops k st with
 |some o=>match o.op with
  |.indexAddr T (.tmp t) i=>match st.tmps[t]?,fC st i with
   |some (.Pr s),some (_,j)=>match C6 st s with
    |some (_,n,xs)=>if n≠0/\n=fZ P T/\(arrayOf P T).isNone=true/\o.dst≠some s then some (o.dst,s,n,xs,j)else none
    |none=>none
   |_,_=>none
  |_=>none
 |none=>none
def QV(P:Program)(ops:Array Oper)(k:Nat)(st:St):Option (Nat×Nat×Option Value×List D×Nat×D):=
 match gu ops k st with
 |some o=>match o.op with
  |.store T (.tmp t) y=>match st.tmps[t]?,cu st y with
   |some (.ep s n j),some d=>match C6 st s with
    |some (p,n',xs)=>if n'=n/\(P.underlying T).isNone=false/\d.cells.length=n/\P.cellsOf T=n/\o.dst=none then some (s,n,p,xs,j,d)else none
    |none=>none
   |_,_=>none
  |_=>none
 |none=>none
def oC{α:Type}{l:List α}{x y:α}(h:(l.set i x)[j]? =some y):(i=j/\x=y/\j<l.length)\/(i≠j/\l[j]? =some y):=by
 grind
def Ca{α:Type}{enc:α->D}{xs:List α}{x:α}(m:Nat)(H:List aT)(L:List Nat)(l:List (Nat×SV))(hj:decide (j<xs.length)=true)(h:QV P ops k st=some (s,n,p,xs.map enc,j,enc x))
  (cG:bx m L (st.rq s p n ((xs.set j x).map enc))=some (l,H)) (hn:bX P pu ops (k+1) (sp m l H) Q):bX P pu ops k st Q:=by
 have hj:=of_decide_eq_true hj
 unfold QV at h
 split at h
 .rename_i o ho
  split at h
  .rename_i T t y hop
   split at h
   .rename_i s' n' j' d hs hy
    split at h
    .rename_i p' n2 xs' hown
     split at h
     .rename_i hc
      simp only[g_4,g_8]at h
      obtain⟨rfl,rfl,rfl,rfl,rfl,rfl⟩:=h
      obtain⟨rfl,hu,hsz,hcT,hd⟩:=hc
      obtain⟨g1,g2⟩:=bu ho
      refine qe g1 g2 (jQ.skip λa w g hr=>?_) (cX L (aO cG) hn)
      obtain⟨-,hO⟩:=we.1 (hr.tmp s' _ (wg hown))
      obtain⟨-,k0,off0,len0,cap0,hv0,hep⟩:=hr.tmp t _ hs
      rcases hO with⟨he,-⟩|⟨kb,off,cap,c,T0,us,hv,hk,hb,hl,hz,hw,hcc,hrr⟩
      .simp_all
      .rw[hv]at hv0
       simp only[Value.slice.injEq,g_4,Addr.mk.injEq]at hv0
       obtain⟨⟨rfl,rfl,-⟩,rfl,rfl⟩:=hv0
       have hrd:=cx hr hy
       obtain⟨c1,c2⟩:=hrd.cells
       have hone: ∀v∈(a.eval y).cells.toList,v.oneCell'=true:=λv hv=>by
        obtain⟨i,hi⟩:=h_4.1 hv
        have hlt:i<(enc x).cells.length:=by grind
        obtain⟨u,u1,u2,u3⟩:=c2 i (enc x).cells[i] (by simp[hlt])
        grind
       have hroom:off+j' * n2+n2<=c.size:=by
        have h1:(j'+1) * n2<=cap * n2:=h_9 _ (by rw[k_6]at hl;omega)
        grind
       obtain⟨w',r1,r2,r3,c',r4,r5,r6⟩:=cl (P:=P) kb (off+j' * n2) T0 (a.eval y).cells.toList 0 c w hb (by simp[c1];omega) hone
       have hkp: ∀o',o'≠.bR (.slot s')->aS o' g w g w':=λo' ho=>aS.block hk ho r3
       have hkf:aS .free g w g w':=hkp _ ψ
       refine⟨w',g,?_,?_,lN (l:=.slot s') ψ (by rw[r2];exact g_9 _) hkp rfl (cZ (P:=P) kb (off+j' * n2) T0 (a.eval y).cells.toList 0 c w w' hb (by simp[c1];omega) hone r1)⟩
       .unfold execOp;rw[hop]
        have hev:a.eval (.tmp t)=.pointer (some ⟨kb,off+j' * n2,none⟩):=hep
        simp only[Instr.storeAt,Sem.run_bind,hev,Instr.sureAddr,Sem.run_pure,Result.andThen_ok,storeVar,hU hu]
        simp_all
       .rw[hd]
        refine hr.rq (wg hown) hkp rfl (.inr ⟨kb,off,cap,c',T0,λi q=>if i=j' then(a.eval y).cells.getD q undef else us i q,by rw[hv];simp,hk,r4,by simpa using hl,by rw[r5];exact hz,λi z hi=>?_,λi z hi q u hq=>?_,λi z hi q u hq=>?_⟩)
        .simp only[h_0,g_2]at hi
         obtain⟨z',hi,rfl⟩:=hi
         rcases oC hi with⟨-,rfl,-⟩|⟨-,hi⟩
         .exact hsz
         .exact hw i (enc z') (by simp[hi])
        .simp only[h_0,g_2]at hi
         obtain⟨z',hi,rfl⟩:=hi
         have hql:q<n2:=by
          rcases oC hi with⟨-,rfl,-⟩|⟨-,hi⟩
          .have:=aX hq;omega
          .have:=aX hq;rw[hw i (enc z') (by simp[hi])]at this;exact this
         rcases oC hi with⟨e,rfl,-⟩|⟨hne,hi⟩
         .simp_all
         .obtain⟨u1,u2⟩:=hcc i (enc z') (by simp[hi]) q u hq
          simp only[if_neg (j_4 hne)]
          refine⟨?_,u2⟩
          have hapart:off+i * n2+q<off+j' * n2\/off+j' * n2+n2<=off+i * n2+q:=by
           rcases Nat.lt_or_gt_of_ne hne with h|h
           .have:(j'+1) * n2<=i * n2:=h_9 _ h
            rw[v_8]at this;omega
           .have:(i+1) * n2<=j' * n2:=h_9 _ h
            rw[v_8]at this;omega
          grind
        .simp only[h_0,g_2]at hi
         obtain⟨z',hi,rfl⟩:=hi
         rcases oC hi with⟨e,rfl,-⟩|⟨hne,hi⟩
         .subst e
          obtain⟨u',u1,u2,u3⟩:=c2 q u hq
          have hg:(a.eval y).cells.getD q undef=u':=by simp_all
          simp only[if_true,hg]
          exact Rd.bo hkf (λ_ _ h=>h) u2
         .simp only[if_neg (j_4 hne)]
          exact Rd.bo hkf (λ_ _ h=>h) (hrr i (enc z') (by simp[hi]) q u hq)
     .cases h
    .cases h
   .cases h
  .cases h
 .cases h
def S7:BinOp->Option Bool
 |.eql=>some true
 |.neq=>some false
 |_=>none
def SR(P:Program)(ops:Array Oper)(k:Nat)(st:St):Option (Option Tmp×Bool×List D):=
 match gu ops k st with
 |some o=>match o.op with
  |.binOp op T x (.const (.slice none 0 0)) _=>match S7 op,k9 st x,P.underlying T with
   |some e,some (_,_,xs),some (.slice _)=>some (o.dst,e,xs)
   |_,_,_=>none
  |_=>none
 |none=>none
def qS{xs:List D}{d:Option Tmp}{e:Bool}(m:Nat)(H:List aT)(L:List Nat)(l:Bool->List (Nat×SV))(h:SR P ops k st=some (d,e,xs))(cG: ∀b,bx m L (st.put d (.d (.bool b)))=some (l b,H))
  (hn: ∀b,(b=e->xs=[])->bX P pu ops (k+1) (sp m (l b) H) Q):bX P pu ops k st Q:=by
 unfold SR at h
 split at h
 .rename_i o ho
  split at h
  .rename_i op T x yT hop
   split at h
   .rename_i e' lo no xs' eT hop1 hl hT
    simp only[g_4,g_8]at h
    obtain⟨rfl,rfl,rfl⟩:=h
    obtain⟨g1,g2⟩:=bu ho
    have key: ∀(a:Act) (w:World) (g:Gh),Rel st a w g-> ∃b:Bool,(b=e'->xs'=[])/\(execOp a.eval o).run P w=.ok (.value (.bool b)) w:=by
     intro a w g hr
     have hL:=gD hr hl
     obtain⟨base,len,cap,hv,hnil⟩: ∃base len cap,a.eval x=.slice base len cap/\(base=none->xs'=[]):=by
      rcases hL with⟨rfl,b0,cap,hv⟩|⟨kb,off,cap,c,T0,fz,us,hv,-⟩
      .grind
      grind
     have hy:a.eval (.const (.slice none 0 0))=.slice none 0 0:=rfl
     have hEq:(Op.equal T (.slice base len cap) (.slice none 0 0)).run P w=.ok base.isNone w:=by
      simp[Op.equal,Op.maxDepth,Lib.run_equalIn_slice_nil w 9999 T eT base len cap 0 0 hT]
     cases op<;>simp only[S7,reduceCtorEq,g_4]at hop1
     .subst hop1
      refine⟨base.isNone,λhb=>hnil (by cases base<;>simp_all),?_⟩
      unfold execOp;rw[hop]
      have e1:eqGuard .eql T x (.const (.slice none 0 0)) (.slice base len cap) (.slice none 0 0)=pure ():=rfl
      have e2:binOp .eql T (.slice base len cap) (.slice none 0 0)=(do pure (.bool (<-Op.equal T (.slice base len cap) (.slice none 0 0))):Sem Value):=rfl
      simp_all
     .subst hop1
      refine⟨!base.isNone,λhb=>hnil (by cases base<;>simp_all),?_⟩
      unfold execOp;rw[hop]
      have e1:eqGuard .neq T x (.const (.slice none 0 0)) (.slice base len cap) (.slice none 0 0)=pure ():=rfl
      have e2:binOp .neq T (.slice base len cap) (.slice none 0 0)=(do pure (.bool (!(<-Op.equal T (.slice base len cap) (.slice none 0 0)))):Sem Value):=rfl
      simp_all
    unfold bX OW at hn ⊢
    rw[drop_cons g1]
    intro a w g hr Qc hq
    obtain⟨b,hb,hrun⟩:=key a w g hr
    unfold wpList
    rw[bB hr g2,if_pos rfl]
    refine .inl ?_
    unfold Oper.wp
    rw[hrun,Oper.upon_value]
    exact hn b hb _ w g ((hr.cj o.dst (v:=.bool b) (s:=.d (.bool b)) .bool).bC (aO (cG b))) Qc hq
   .cases h
  .cases h
 .cases h
end
def kf{a:Act}{d t:Nat}{v:Value}(h:d≠t):(a.put (some d) v).eval (.tmp t)=a.eval (.tmp t):=BN (λe=>h (by injection e with e;exact e.symm))
def qH{a:Act}{d:Nat}{v:Value}(h:d<a.tmps.size):(a.put (some d) v).eval (.tmp d)=v:=bV h
def oe{a:Act}{d:Option Tmp}{v:Value}:(a.put d v).tmps.size=a.tmps.size:=eh
section
variable {P:Program} {pu:Bool} {st:St} {ops:Array Oper}
def iC(o:Oper)(d:Option Tmp)(op:Op):Prop:=o.dst=d/\o.op=op/\o.guard=none
def mW{Q:Act->Prop}(ho:iC o d op)(hrun: ∀ty,(execOp a.eval {o with op:=op,type:=ty}).run P w=.ok (.value v) w)(h:wpStill P ops w Q rest (a.put d v)):
  wpStill P ops w Q (o::rest) a:=by
 obtain⟨h1,h2,h3⟩:=ho
 unfold wpStill
 rw[show Region.wanted o (yielded ops a.tmps)=true by unfold Region.wanted;rw[h3],if_pos rfl]
 unfold Oper.still
 have:=hrun o.type
 subst h2
 rw[this,Oper.stillUpon_value,h1]
 exact h
def kG{Q:Exit->Act->World->Prop}(ho:iC o d op)(hrun: ∀ty,(execOp a.eval {o with op:=op,type:=ty}).run P w=.ok (.value v) w')(h:wpList P ops Q rest (a.put d v) w'):
  wpList P ops Q (o::rest) a w:=by
 obtain⟨h1,h2,h3⟩:=ho
 have:=hrun o.type
 subst h2
 subst h1
 exact Ie h3 this h
def su{a:Act}{w:World}{o:Oper}{x:Operand}{ty:TypeId}:(execOp a.eval {o with op:=.move x,type:=ty}).run P w=.ok (.value (a.eval x)) w:=rfl
def Fv{a:Act}{w:World}{o:Oper}{x:Operand}{ty:TypeId}:(execOp a.eval {o with op:=.assign x,type:=ty}).run P w=.ok (.value (a.eval x)) w:=rfl
def LU(k off:Nat):(⟨k,off,none⟩:Addr).add 0=⟨k,off,none⟩:=by simp[Addr.add_lit]
def yJ{T e:TypeId}(hu:P.underlying T=some (.slice e))(hz:P.cellsOf e≠0){k off len cap:Nat}{i:Int}{ik:IntKind}(h0:0<=i)(h1:i<=cap)(w:World):
  (Instr.sliceAt T (.slice (some ⟨k,off,none⟩) len cap) none (some (.int ik i)) none).run P w=.ok (.slice (some ⟨k,off,none⟩) i.toNat cap) w:=by
 simp[Instr.sliceAt,Instr.slice,Instr.sliceBounds,Instr.sliceBound,asIntOf,run_underlying hu,h0,h1,ga hz,LU]
def yI{T e:TypeId}(hu:P.underlying T=some (.slice e))(hz:P.cellsOf e≠0){k off len cap:Nat}{i:Int}{ik:IntKind}(h0:0<=i)(h1:i<=len)(w:World):
  (Instr.sliceAt T (.slice (some ⟨k,off,none⟩) len cap) (some (.int ik i)) none none).run P w=.ok (.slice (some ⟨k,if cap=i.toNat then off else off+i.toNat * P.cellsOf e,none⟩) (len - i.toNat) (cap - i.toNat)) w:=by
 simp[Instr.sliceAt,Instr.slice,Instr.sliceBounds,Instr.sliceBound,asIntOf,run_underlying hu,h0,h1,ga hz,Addr.add_lit]
 split<;>rfl
def jm.take(h:jm g w a n xs)(hi:i<=xs.length):jm g w (a.extract 0 (i * n)) n (xs.take i):=by
 obtain⟨h1,h2,h3⟩:=h
 have hin:i * n<=xs.length * n:=h_9 _ hi
 refine⟨φ,λp x hx=>?_,λp x hx q y hy=>?_⟩
 .grind
 .rw[List.getElem?_take]at hx
  split at hx
  .rename_i hp
   obtain⟨u,u1,u2⟩:=h3 p x hx q y hy
   have hq:q<n:=by rw[<-h2 p x hx];exact aX hy
   have:(p+1) * n<=i * n:=h_9 _ hp
   grind
  .cases hx
def jm.drop(h:jm g w a n xs)(hi:i<=xs.length):jm g w (a.extract (i * n) (xs.length * n)) n (xs.drop i):=by
 obtain⟨h1,h2,h3⟩:=h
 have hin:i * n<=xs.length * n:=h_9 _ hi
 refine⟨by simp[h1,Nat.sub_mul],λp x hx=>?_,λp x hx q y hy=>?_⟩
 .grind
 grind
def ui(hfl:jm g w flat n ys)(hb:w'.heap[k]? =some (.cells c T (0,0)))(ho:g'.ow k=.bR o)
  (hcap:ys.length<=cap) (hsz:off+cap * n<=c.size) (hw: ∀q,q<ys.length * n->c[off+q]? =flat[q]?) (hk:aS .free g w g' w') (hρ:fc g g'):dj g' w' o (.slice (some ⟨k,off,none⟩) ys.length cap) n ys:=by
 obtain⟨h1,h2,h3⟩:=hfl
 refine .inr ⟨k,off,cap,c,T,λi j=>flat.getD (i * n+j) undef,rfl,ho,hb,hcap,hsz,h2,λi x hx j y hy=>?_,λi x hx j y hy=>?_⟩
 .obtain⟨u,u1,u2,u3⟩:=h3 i x hx j y hy
  have hg:flat.getD (i * n+j) undef=u:=by simp_all
  grind
 .obtain⟨u,u1,u2,u3⟩:=h3 i x hx j y hy
  have hg:flat.getD (i * n+j) undef=u:=by simp_all
  simp only[hg]
  exact u2.bo hk hρ
def pV{g:Gh}{w:World}{o:Loc}{n:Nat}{xs:List D}{k off len cap:Nat}{c:Array Value}{T:TypeId}{us:Nat->Nat->Value}(hn:0<n)(hl:len=xs.length)(hcap:xs.length<=cap)(hsz:off+cap * n<=c.size)
  (hw: ∀(i:Nat) (x:D),xs[i]? =some x->x.cells.length=n) (hcc: ∀(i:Nat) (x:D),xs[i]? =some x-> ∀(j:Nat) (y:D),x.cells[j]? =some y->c[off+i * n+j]? =some (us i j)/\(us i j).oneCell'=true)
  (hrr: ∀(i:Nat) (x:D),xs[i]? =some x-> ∀(j:Nat) (y:D),x.cells[j]? =some y->Rd g w (us i j) y):jm g w (c.extract off (off+xs.length * n)) n xs:=by
 have hs:off+xs.length * n<=c.size:=by
  have:xs.length * n<=cap * n:=h_9 _ hcap
  omega
 refine⟨by simp[p_5 hs],hw,λi x hx j y hy=>⟨us i j,?_,hrr i x hx j y hy,(hcc i x hx j y hy).2⟩⟩
 have hj:j<n:=by rw[<-hw i x hx];exact aX hy
 have:=aX hx
 have:(i+1) * n<=xs.length * n:=h_9 _ this
 grind
def St.Bz(st:St):List Nat->St
 |[]=>st
 |t::ts=>(st.put (some t) .undef).Bz ts
def Qm{id:Nat}{o1 o2 o3 o4 o5 o6 o7 o8:Oper}{T e:TypeId}{ti:TypeInfo}{z:Value}{n:Nat}{xs:List D}{i j:Int}{t1 t2 t3 t4 t5 t6 t7 s a1 a2:Nat}
  (hm:P.follows .mixedOrders=true) (hB:Region.lexTailB .any #[o1,o2,o3,o4,o5,o6,o7,o8] 6=true)
  (h1:iC o1 (some t1) (.move (.tmp s))) (h2:iC o2 (some t2) (.move (.tmp a1))) (h3:iC o3 (some t3) (.slice T (.tmp t1) none (some (.tmp t2)) none)) (h4:iC o4 (some t4) (.move (.tmp s))) (h5:iC o5 (some t5) (.move (.tmp a2)))
  (h6:iC o6 (some t6) (.slice T (.tmp t4) (some (.tmp t5)) none none)) (h7:iC o7 (some t7) (.call ⟨.builtin .append,#[.tmp t3,.tmp t6],#[T,T]⟩)) (h8:iC o8 (some s) (.assign (.tmp t7)))
  (hN:(decide (t1<st.tmps.length)&&decide (t2<st.tmps.length)&&decide (t3<st.tmps.length)&&decide (t4<st.tmps.length)&&decide (t5<st.tmps.length)&&decide (t6<st.tmps.length)&&decide (t7<st.tmps.length))=true)
  (hd:List.Pairwise (·≠ ·) [s,a1,a2,t1,t2,t3,t4,t5,t6,t7])
  (hT:P.underlying T=some (.slice e)) (hi:P.info? e=some ti) (hz:ti.zero=some z) (hsize:ti.size=n) (hn:0<n) (hby:ti.bytes<=65536)
  (hs:st.tmps[s]? =some (.own n xs)) (hi1:cu st (.tmp a1)=some (.int .i64 i)) (hj1:cu st (.tmp a2)=some (.int .i64 j)) (hij:(decide (0<=i)&&decide (i<j)&&decide (j<=xs.length)&&decide (xs.length<=room))=true)
  {a:Act} {w:World} {g:Gh} (hr:Rel st a w g):
  (Code.region id #[o1,o2,o3,o4,o5,o6,o7,o8] true).wp P (λe a' w'=>e=.normal/\ ∃g',Rel (((st.Bz [t1,t2,t3,t4,t5,t6,t7]).take s).put (some s) (.own n (xs.take i.toNat++xs.drop j.toNat))) a' w' g'/\Fr pu g w g' w'/\
   ∃k off cap,valOf a' s=.slice (some ⟨k,off,none⟩) (xs.take i.toNat++xs.drop j.toNat).length cap/\xs.length<=cap) a w:=by
 simp only[g_3,decide_eq_true_eq]at hN hij
 obtain⟨⟨⟨⟨⟨⟨n1,n2⟩,n3⟩,n4⟩,n5⟩,n6⟩,n7⟩:=hN
 obtain⟨⟨⟨i0,ij⟩,jl⟩,hroom⟩:=hij
 simp only[j_6,j_0,List.not_mem_nil,or_false,ne_eq,forall_eq_or_imp,forall_eq,List.Pairwise.nil,and_true,false_imp_iff,implies_true]at hd
 obtain⟨⟨sa1,sa2,s1,s2,s3,s4,s5,s6,s7⟩,⟨a12,b1,b2,b3,b4,b5,b6,b7⟩,⟨c1,c2,c3,c4,c5,c6,c7⟩,⟨d12,d13,d14,d15,d16,d17⟩,⟨d23,d24,d25,d26,d27⟩,⟨d34,d35,d36,d37⟩,⟨d45,d46,d47⟩,⟨d56,d57⟩,d67⟩:=hd
 have hce:P.cellsOf e=n:=by simp[Program.cellsOf,hi,hsize]
 have hn0:P.cellsOf e≠0:=by omega
 rcases(hr.tmp s _ hs:dj g w (.slot s) (valOf a s) n xs)with⟨rfl,-⟩|⟨k,off,cap,c,T0,us,hv,hk,hb,hl,hz',hw,hcc,hrr⟩
 .simp at jl;omega
 have hlen:=hr.len
 have e1:a.eval (.tmp a1)=.int .i64 i:=bY hr hi1 rfl
 have e2:a.eval (.tmp a2)=.int .i64 j:=bY hr hj1 rfl
 have es:a.eval (.tmp s)=.slice (some ⟨k,off,none⟩) xs.length cap:=hv
 refine wp_region_still_tail (l:=[o1,o2,o3,o4,o5,o6,o7,o8]) 6 hm hB ?_
 show wpStill P _ w.drew (λa'=>wpList P _ _ [o7,o8] a' w.drew) [o1,o2,o3,o4,o5,o6] a
 refine mW h1 (v:=.slice (some ⟨k,off,none⟩) xs.length cap) (λ_=>by rw[su,es]) ?_
 refine mW h2 (v:=.int .i64 i) (λ_=>by rw[su,kf (j_4 b1),e1]) ?_
 refine mW h3 (v:=.slice (some ⟨k,off,none⟩) i.toNat cap) (λty=>?_) ?_
 .show(do pure (.value (<-Instr.sliceAt T _ none (some _) none)):Sem Next).run P w.drew=_
  simp only[Sem.run_bind]
  rw[kf (j_4 d12),qH ω,qH (by rw[oe];omega),yJ hT hn0 i0 ω]
  rfl
 refine mW h4 (v:=.slice (some ⟨k,off,none⟩) xs.length cap) (λ_=>by rw[su,kf (j_4 s3),kf (j_4 s2),kf (j_4 s1),es]) ?_
 refine mW h5 (v:=.int .i64 j) (λ_=>by rw[su,kf (j_4 c4),kf (j_4 c3),kf (j_4 c2),kf (j_4 c1),e2]) ?_
 refine mW h6 (v:=.slice (some ⟨k,if cap=j.toNat then off else off+j.toNat * n,none⟩) (xs.length - j.toNat) (cap - j.toNat)) (λty=>?_) ?_
 .show(do pure (.value (<-Instr.sliceAt T _ (some _) none none)):Sem Next).run P w.drew=_
  simp only[Sem.run_bind]
  rw[kf (j_4 d45),qH (by simp only[oe];omega),qH (by simp only[oe];omega),yI hT hn0 ω jl,hce]
  rfl
 generalize ha6:(((((a.put (some t1) (.slice (some ⟨k,off,none⟩) xs.length cap)).put (some t2) (.int .i64 i)).put (some t3) (.slice (some ⟨k,off,none⟩) i.toNat cap)).put (some t4) (.slice (some ⟨k,off,none⟩) xs.length cap)).put (some t5) (.int .i64 j)).put (some t6)
  (.slice (some ⟨k,if cap=j.toNat then off else off+j.toNat * n,none⟩) (xs.length - j.toNat) (cap - j.toNat))=a6
 have hrd:Rel st a w.drew g:=hr.drew
 have u: ∀{v:Value},pF g w.drew v .undef:=trivial
 have r6:Rel ((((((st.put (some t1) .undef).put (some t2) .undef).put (some t3) .undef).put (some t4) .undef).put (some t5) .undef).put (some t6) .undef) a6 w.drew g:=by
  subst ha6
  exact(((((hrd.cj (some t1) u).cj (some t2) u).cj (some t3) u).cj (some t4) u).cj (some t5) u).cj (some t6) u
 have v3:a6.eval (.tmp t3)=.slice (some ⟨k,off,none⟩) i.toNat cap:=by subst ha6;rw[kf (j_4 d36),kf (j_4 d35),kf (j_4 d34),qH (by simp only[oe];omega)]
 have v6:a6.eval (.tmp t6)=.slice (some ⟨k,if cap=j.toNat then off else off+j.toNat * n,none⟩) (xs.length - j.toNat) (cap - j.toNat):=by subst ha6;rw[qH (by simp only[oe];omega)]
 have hlen6:a6.tmps.size=st.tmps.length:=by subst ha6;simp only[oe];exact hlen
 clear ha6
 have hcapn:xs.length * n<=cap * n:=h_9 _ hl
 have hjn:j.toNat * n+(xs.length - j.toNat) * n=xs.length * n:=by rw[<-q_9];congr 1;omega
 have hin:i.toNat * n<=j.toNat * n:=h_9 _ ω
 let news:=c.extract (off+j.toNat * n) (off+xs.length * n)
 have hbd:w.drew.heap[k]? =some (.cells c T0 (0,0)):=hb
 have hnews: ∀w',Up w.drew w'->(Builtin.firstCells n (xs.length - j.toNat) (.slice (some ⟨k,if cap=j.toNat then off else off+j.toNat * n,none⟩) (xs.length - j.toNat) (cap - j.toNat))).run P w'=.ok news w':=λw' hup=>by
  simp only[Builtin.firstCells]
  split
  .rename_i hcj
   have h0:xs.length - j.toNat=0:=by omega
   have:news= #[]:=by
    grind
   rw[h0,this,Nat.zero_mul]
   simp[loadCells,loadCellsFrom]
  .rw[jU (P:=P) (hup _ _ hbd) ω]
   grind
 have hap:=λty=>zg (P:=P) (T:=T) (T2:=T) (ty:=ty) (e:=e) (i:=ti) (z:=z) (v:=.slice (some ⟨k,off,none⟩) i.toNat cap) (x:=.slice (some ⟨k,if cap=j.toNat then off else off+j.toNat * n,none⟩) (xs.length - j.toNat) (cap - j.toNat)) (w:=w.drew)
  (m:=xs.length - j.toNat) (news:=news) (olds:=c.extract off (off+i.toNat * n)) rfl hT hi hz ⟨_,hT,ψ⟩ (λ_=>rfl) (by rw[hsize];exact hnews) (λw' hup=>by
   rw[hsize]
   simp only[Builtin.firstCells]
   rw[jU (P:=P) (hup _ _ hbd) ω]) (by unfold maxLen;unfold room at hroom;omega) (by
   unfold room at hroom
   have:(i.toNat+(xs.length - j.toNat)) * ti.bytes<=16777216 * 65536:=Nat.mul_le_mul ω hby
   omega)
 have hin':=λty=>(hap ty).1 ω
 simp only[hsize]at hin'
 have hnsz:news.size=(xs.length - j.toNat) * n:=by simp[news];omega
 have hone: ∀v∈news.toList,v.oneCell'=true:=by
  have:=(pV (g:=g) (w:=w) (k:=k) (T:=T0) (o:=.slot s) hn rfl hl hz' hw hcc hrr).one
  intro v hv'
  refine this v ?_
  simp only[news,Array.mem_toList_iff,Array.mem_extract_iff_getElem]at hv' ⊢
  obtain⟨q,hq1,rfl⟩:=hv'
  exact⟨j.toNat * n+q,ω,by congr 1;omega⟩
 obtain⟨w',q1,q2,q3,c',q4,q5,q6⟩:=cl (P:=P) k (off+i.toNat * n) T0 news.toList 0 c w.drew hbd (by simp[hnsz];omega) hone
 refine kG h7 (v:=.slice (some ⟨k,off,none⟩) (i.toNat+(xs.length - j.toNat)) cap) (w':=w') (λty=>?_) ?_
 .refine iM (a:=a6) (x:=.tmp t3) (y:=.tmp t6) rfl rfl rfl rfl ?_
  rw[v3,v6,hin' ty]
  simp only[Addr.add_lit,q1,Result.andThen_ok]
 refine kG h8 (v:=.slice (some ⟨k,off,none⟩) (i.toNat+(xs.length - j.toNat)) cap) (w':=w') (λ_=>by rw[Fv,qH ω]) ?_
 let zs:=xs.take i.toNat++xs.drop j.toNat
 have hzl:zs.length=i.toNat+(xs.length - j.toNat):=by simp[zs];omega
 have hkeep: ∀o',o'≠.bR (.slot s)->aS o' g w.drew g w':=λo' ho=>aS.block hk ho q3
 have r7:Rel (st.Bz [t1,t2,t3,t4,t5,t6,t7]) (a6.put (some t7) (.slice (some ⟨k,off,none⟩) (i.toNat+(xs.length - j.toNat)) cap)) w.drew g:=r6.cj (some t7) u
 have hfl:=pV (g:=g) (w:=w) (k:=k) (T:=T0) (o:=.slot s) hn rfl hl hz' hw hcc hrr
 have hin2:i.toNat * n+(xs.length - j.toNat) * n<=xs.length * n:=by omega
 have hO:dj g w' (.slot s) (.slice (some ⟨k,off,none⟩) (i.toNat+(xs.length - j.toNat)) cap) n zs:=by
  rw[<-hzl]
  refine ui ((hfl.take (i:=i.toNat) ω).append (hfl.drop (i:=j.toNat) ω)) q4 hk ω (by rw[q5];exact hz') (λq hq=>?_) (hkeep _ ψ) (λ_ _ h=>h)
  rw[hzl,q_9]at hq
  have hmin:min i.toNat xs.length=i.toNat:=by omega
  have hsz1:((c.extract off (off+xs.length * n)).extract 0 (i.toNat * n)).size=i.toNat * n:=by grind
  have hszF:=hfl.1
  rw[q6]
  by_cases hq1:q<i.toNat * n
  .grind
  .rw[if_pos (by simp[hnsz];omega),p_6 ω,hsz1,w_0,k_0,if_pos (by simp[hnsz];omega),k_0,if_pos χ,k_0,if_pos ω]
   congr 1;omega
 have hfin:=Rel.replace r7 (s:=s) (d:=s) (sv:=.own n zs) (v':=.slice (some ⟨k,off,none⟩) (i.toNat+(xs.length - j.toNat)) cap) hkeep rfl (λ_ _=>hO)
 refine⟨rfl,g,hfin,(Fr.drew).trans (lN (l:=.slot s) ψ (by rw[q2];exact g_9 _) hkeep rfl (cZ (P:=P) k (off+i.toNat * n) T0 news.toList 0 c w.drew w' hbd (by simp[hnsz];omega) hone q1)),k,off,cap,?_,hl⟩
 rw[bV (by rw[oe,hlen6];exact aX hs),hzl]
def Is{T e:TypeId}(hu:P.underlying T=some (.slice e))(hz:P.cellsOf e≠0){k off len cap:Nat}{i j:Int}{ik jk:IntKind}(h0:0<=i)(h1:i<=j)(h2:j<=cap)(w:World):
  (Instr.sliceAt T (.slice (some ⟨k,off,none⟩) len cap) (some (.int ik i)) (some (.int jk j)) none).run P w=.ok (.slice (some ⟨k,if cap=i.toNat then off else off+i.toNat * P.cellsOf e,none⟩) (j.toNat - i.toNat) (cap - i.toNat)) w:=by
 have hj:0<=j:=by omega
 have hij:i<=max j 0:=by omega
 simp[Instr.sliceAt,Instr.slice,Instr.sliceBounds,Instr.sliceBound,asIntOf,run_underlying hu,h0,h1,h2,hj,hij,ga hz,Addr.add_lit]
 split<;>rfl
def AJ{o:Oper}{c:Call}{a:Act}{w:World}{x:Operand}{T:TypeId}(hop:o.op=.call c)(hc:c.callee=.builtin .clear)(ha:c.args.toList=[x])(ht:c.argTypes.toList=[T]){v:Value}{w':World}
  (h:(Builtin.clear_ #[T] o.type #[a.eval x]).run P w=.ok v w'):(execOp a.eval o).run P w=.ok (.value v) w':=by
 obtain⟨callee,args,argTypes⟩:=c
 have ha2:args= #[x]:=by apply v_4;simpa using ha
 have ht2:argTypes= #[T]:=by apply v_4;simpa using ht
 subst ha2 ht2
 simp only at hc
 subst hc
 unfold execOp
 rw[hop]
 simp only[resolve,m_9,h_3,q_1,Sem.run_bind,Sem.run_pure,Result.andThen_ok,invoke,builtin]
 simp[h]
def Eb{o:Oper}{c:Call}{a:Act}{w:World}{x:Operand}{T e:TypeId}{b:Option Addr}{n cap:Nat}(hop:o.op=.call c)(hc:c.callee=.builtin .len)(ha:c.args.toList=[x])(ht:c.argTypes.toList=[T])(hu:P.underlying T=some (.slice e))
  (hx:a.eval x=.slice b n cap):(execOp a.eval o).run P w=.ok (.value (goInt n)) w:=by
 obtain⟨callee,args,argTypes⟩:=c
 have ha2:args= #[x]:=by apply v_4;simpa using ha
 have ht2:argTypes= #[T]:=by apply v_4;simpa using ht
 subst ha2 ht2
 simp only at hc
 subst hc
 unfold execOp
 rw[hop]
 simp only[resolve,m_9,h_3,q_1,Sem.run_bind,Sem.run_pure,Result.andThen_ok,invoke,builtin,hx]
 simp[Builtin.len_,run_underlying hu]
def uD(hz:ni z=some d)(m:Nat): ∀v∈(Builtin.zeroCells z.cells m).toList,v.oneCell'=true:=by
 intro v hv
 have hrd:Rd ⟨λ_=>.free,[]⟩ (default:World) z d:=oP hz
 obtain⟨c1,c2⟩:=hrd.cells
 simp only[Builtin.zeroCells,Array.toList_map,v_9]at hv
 obtain⟨i,hi,rfl⟩:=hv
 have hi':i<m * z.cells.size:=by simpa using hi
 have h0:0<z.cells.size:=by
  grind
 have hlt:i % z.cells.size<z.cells.size:=Nat.mod_lt _ h0
 obtain⟨u,u1,-,u3⟩:=c2 (i % z.cells.size) (d.cells[i % z.cells.size]' ω) ψ
 grind
def QE{id id2:Nat}{o1 o2 o3 o4 o5 o6 o7 o8 p1 p2 p3 p4 p5 p6:Oper}{Y:Code}{T e:TypeId}{ti:TypeInfo}{z:Value}{zd:D}{n:Nat}{xs:List D}{i j:Int}{Q:Exit->St->Prop}{t1 t2 t3 t4 t5 t6 t7 s a1 a2 a3 u1 u2 u3 u4 u5:Nat}{jw:St}
  (hm:P.follows .mixedOrders=true) (hB:Region.lexTailB .any #[o1,o2,o3,o4,o5,o6,o7,o8] 6=true)
  (h1:iC o1 (some t1) (.move (.tmp s))) (h2:iC o2 (some t2) (.move (.tmp a1))) (h3:iC o3 (some t3) (.slice T (.tmp t1) none (some (.tmp t2)) none)) (h4:iC o4 (some t4) (.move (.tmp s))) (h5:iC o5 (some t5) (.move (.tmp a2)))
  (h6:iC o6 (some t6) (.slice T (.tmp t4) (some (.tmp t5)) none none)) (h7:iC o7 (some t7) (.call ⟨.builtin .append,#[.tmp t3,.tmp t6],#[T,T]⟩)) (h8:iC o8 (some s) (.assign (.tmp t7)))
  (k1:iC p1 (some u1) (.move (.tmp s))) (k2:iC p2 (some u2) (.move (.tmp s))) (k3:iC p3 (some u3) (.call ⟨.builtin .len,#[.tmp u2],#[T]⟩)) (k4:iC p4 (some u4) (.move (.tmp a3)))
  (k5:iC p5 (some u5) (.slice T (.tmp u1) (some (.tmp u3)) (some (.tmp u4)) none)) (k6:iC p6 none (.call ⟨.builtin .clear,#[.tmp u5],#[T]⟩))
  (hN:(decide (t1<st.tmps.length)&&decide (t2<st.tmps.length)&&decide (t3<st.tmps.length)&&decide (t4<st.tmps.length)&&decide (t5<st.tmps.length)&&decide (t6<st.tmps.length)&&decide (t7<st.tmps.length))=true)
  (hN2:(decide (u1<st.tmps.length)&&decide (u2<st.tmps.length)&&decide (u3<st.tmps.length)&&decide (u4<st.tmps.length)&&decide (u5<st.tmps.length))=true)
  (hd:List.Pairwise (·≠ ·) [s,a1,a2,t1,t2,t3,t4,t5,t6,t7]) (hd2:List.Pairwise (·≠ ·) [s,a3,u1,u2,u3,u4,u5])
  (hT:P.underlying T=some (.slice e)) (hi:P.info? e=some ti) (hz:ti.zero=some z) (hzd:ni z=some zd) (hzn:z.cells.size=n) (hsize:ti.size=n) (hn:0<n) (hby:ti.bytes<=65536)
  (hs:st.tmps[s]? =some (.own n xs)) (hi1:cu st (.tmp a1)=some (.int .i64 i)) (hj1:cu st (.tmp a2)=some (.int .i64 j)) (hij:(decide (0<=i)&&decide (i<j)&&decide (j<=xs.length)&&decide (xs.length<=room))=true)
  (hst2:((st.Bz [t1,t2,t3,t4,t5,t6,t7]).take s).put (some s) (.own n (xs.take i.toNat++xs.drop j.toNat))=jw) (h3v:cu jw (.tmp a3)=some (.int .i64 xs.length))
  (hq:SW P pu Y (jw.Bz [u1,u2,u3,u4,u5]) Q):
  SW P pu (.seq (.region id #[o1,o2,o3,o4,o5,o6,o7,o8] true) (.seq (.region id2 #[p1,p2,p3,p4,p5,p6] false) Y)) st Q:=by
 intro a w g hr
 refine wp_seq (Code.wp_mono (λex a1' w1 hh=>?_) (Qm (pu:=pu) (a1:=a1) (a2:=a2) hm hB h1 h2 h3 h4 h5 h6 h7 h8 hN hd hT hi hz hsize hn hby hs hi1 hj1 hij hr))
 obtain⟨rfl,g1,hr1,hf1,k,off,cap,hv,hcap⟩:=hh
 rw[hst2]at hr1
 simp only[g_3,decide_eq_true_eq]at hN2 hij
 obtain⟨⟨⟨⟨n1,n2⟩,n3⟩,n4⟩,n5⟩:=hN2
 obtain⟨⟨⟨i0,ij⟩,jl⟩,hroom⟩:=hij
 simp only[j_6,j_0,List.not_mem_nil,or_false,ne_eq,forall_eq_or_imp,forall_eq,List.Pairwise.nil,and_true,false_imp_iff,implies_true]at hd2
 obtain⟨⟨s3,s1,s2,s4,s5,s6⟩,⟨b1,b2,b3,b4,b5⟩,⟨d12,d13,d14,d15⟩,⟨d23,d24,d25⟩,⟨d34,d35⟩,d45⟩:=hd2
 have hlen1:a1'.tmps.size=st.tmps.length:=by
  rw[hr1.len,<-hst2];simp[St.Bz]
 have hce:P.cellsOf e=n:=by simp[Program.cellsOf,hi,hsize]
 have hn0:P.cellsOf e≠0:=by omega
 let zs:=xs.take i.toNat++xs.drop j.toNat
 have hzl:zs.length=i.toNat+(xs.length - j.toNat):=by simp[zs];omega
 have hs1:jw.tmps[s]? =some (.own n zs):=by
  rw[<-hst2]
  have hlt:s<((st.Bz [t1,t2,t3,t4,t5,t6,t7]).take s).tmps.length:=by simp[St.Bz];exact aX hs
  simp only[St.put]
  rw[h_6 hlt]
  simp only
  split
  .simp only[St.set];rw[g_0 (by simpa using hlt)]
  .simp only[St.set];rw[g_0 hlt]
 have hO:dj g1 w1 (.slot s) (valOf a1' s) n zs:=hr1.tmp s _ hs1
 have ev0:a1'.eval (.tmp s)=.slice (some ⟨k,off,none⟩) zs.length cap:=hv
 have ev3:a1'.eval (.tmp a3)=.int .i64 xs.length:=bY hr1 h3v rfl
 refine wp_seq (wp_region_lit (l:=[p1,p2,p3,p4,p5,p6]) ?_)
 refine kG k1 (w':=w1) (v:=.slice (some ⟨k,off,none⟩) zs.length cap) (λ_=>by rw[su,ev0]) ?_
 refine kG k2 (w':=w1) (v:=.slice (some ⟨k,off,none⟩) zs.length cap) (λ_=>by rw[su,kf (j_4 s1),ev0]) ?_
 refine kG k3 (w':=w1) (v:=goInt zs.length) (λty=>?_) ?_
 .exact Eb rfl rfl rfl rfl hT (qH (by rw[oe];omega))
 refine kG k4 (w':=w1) (v:=.int .i64 xs.length) (λ_=>by rw[su,kf (j_4 b3),kf (j_4 b2),kf (j_4 b1),ev3]) ?_
 refine kG k5 (w':=w1) (v:=.slice (some ⟨k,off+zs.length * n,none⟩) (xs.length - zs.length) (cap - zs.length)) (λty=>?_) ?_
 .show(do pure (.value (<-Instr.sliceAt T _ (some _) (some _) none)):Sem Next).run P w1=_
  simp only[Sem.run_bind]
  rw[kf (j_4 d14),kf (j_4 d13),kf (j_4 d12),qH ω,kf (j_4 d34),qH (by simp only[oe];omega),qH (by simp only[oe];omega)]
  rw[show goInt zs.length=.int .i64 zs.length from rfl,Is hT hn0 ω ω ω,if_neg ω,hce]
  rfl
 rcases hO with⟨hz0,a0,hva⟩|⟨k',off',cap',c,T0,us,hva,hk,hb,hl,hzz,hw,hcc,hrr⟩
 .grind
 .have hveq:valOf a1' s=.slice (some ⟨k,off,none⟩) zs.length cap:=hv
  rw[hva]at hveq
  simp only[Value.slice.injEq,g_4,Addr.mk.injEq,true_and,and_true]at hveq
  obtain⟨⟨rfl,rfl⟩,rfl⟩:=hveq
  have hzm:zs.length * n+(xs.length - zs.length) * n=xs.length * n:=by rw[<-q_9];congr 1;omega
  have hcn:xs.length * n<=cap' * n:=h_9 _ hcap
  obtain⟨w',q1,q2,q3,c',q4,q5,q6⟩:=cl (P:=P) k' (off'+zs.length * n) T0 (Builtin.zeroCells z.cells (xs.length - zs.length)).toList 0 c w1 hb (by simp[size_zeroCells,hzn];omega) (uD hzd _)
  refine kG k6 (v:=.tuple #[]) (w':=w') (λty=>?_) ?_
  .refine AJ (x:=.tmp u5) rfl rfl rfl rfl ?_
   rw[qH (by simp only[oe];omega)]
   obtain⟨m,hm⟩: ∃m,xs.length - zs.length=m+1:=⟨xs.length - zs.length - 1,ω⟩
   have hzv:(zeroValue e).run P w1=.ok z w1:=by simp[zeroValue,typeInfo,hi,hz]
   rw[hm]at q1 ⊢
   simp[Builtin.clear_,run_underlying hT,hzv,q1]
  have hkeep: ∀o',o'≠.bR (.slot s)->aS o' g1 w1 g1 w':=λo' ho=>aS.block hk ho q3
  have u: ∀{v:Value},pF g1 w' v .undef:=trivial
  have hO':dj g1 w' (.slot s) (valOf a1' s) n zs:=by
   rw[hva]
   refine ui (pV (g:=g1) (w:=w1) (k:=k') (T:=T0) (o:=.slot s) hn rfl hl hzz hw hcc hrr) q4 hk hl (by rw[q5];exact hzz) (λq hq=>?_) (hkeep _ ψ) (λ_ _ h=>h)
   grind
  have hr2:Rel jw a1' w' g1:=by
   refine bg hr1 hr1.len hr1.ei (λ_ _ h=>h) (λt sv hts=>?_) (hr1.hp.bo (λo ho=>hkeep o λe=>by subst e;exact ho.elim) (λ_ _ h=>h) rfl)
   by_cases ht:t=s
   .subst ht
    rw[hs1]at hts;cases hts
    exact .inr (.inl hO')
   .refine .inr (.inr ⟨hts,rfl,λo ho=>hkeep o λe=>?_,λs' _=>⟨rfl,λx hx _=>⟨x,hx,rfl⟩⟩⟩)
    subst e
    rw[<-hst2]at hts
    rcases eW ht hts with h|⟨h,-⟩
    .subst h;exact ho.elim
    .rcases cA h with h|⟨-,-,h⟩
     .subst h;exact ho.elim
     .exact(jS ht h ho).2.1 rfl
  have hr3:=((((hr2.cj (some u1) (v:=.slice (some ⟨k',off',none⟩) zs.length cap') u).cj (some u2) (v:=.slice (some ⟨k',off',none⟩) zs.length cap') u).cj (some u3) (v:=goInt zs.length) u).cj (some u4) (v:=.int .i64 xs.length) u).cj (some u5) (v:=.slice (some ⟨k',off'+zs.length * n,none⟩) (xs.length - zs.length) (cap' - zs.length)) u
  simp only[St.Bz]at hq
  refine Code.wp_mono (λe2 a2' w2 hh2=>?_) (hq _ w' g1 (hr3.cj none (v:=.tuple #[]) u))
  obtain⟨st3,g3,q,r,f⟩:=hh2
  exact⟨st3,g3,q,r,hf1.trans ((lN (l:=.slot s) ψ (by rw[q2];exact g_9 _) hkeep rfl (cZ (P:=P) k' (off'+zs.length * n) T0 _ 0 c w1 w' hb (by simp[size_zeroCells,hzn];omega) (uD hzd _) q1)).trans f)⟩
end
section
variable {P:Program} {pu:Bool} {st:St} {ops:Array Oper}
def Sv{a:Act}{w:World}{o:Oper}{I I2 ty:TypeId}{x y:Operand}{p q:Int}(hx:a.eval x=.int .i64 p)(hy:a.eval y=.int .i64 q)(h: -9223372036854775808<=p+q/\p+q<=9223372036854775807):
  (execOp a.eval {o with op:=.binOp .add I x y I2,type:=ty}).run P w=.ok (.value (.int .i64 (p+q))) w:=by
 have:(do eqGuard .add I x y (.int .i64 p) (.int .i64 q);binOp .add I (.int .i64 p) (.int .i64 q):Sem Value).run P w=.ok (.int .i64 (IntKind.wrap .i64 (p+q))) w:=rfl
 rw[IntWalk.i64_in _ h]at this
 unfold execOp
 simp only[hx,hy]
 simp only[Sem.run_bind]at this ⊢
 rw[this]
 rfl
def Sq{a:Act}{w:World}{o:Oper}{I I2 ty:TypeId}{x y:Operand}{p q:Int}(hx:a.eval x=.int .i64 p)(hy:a.eval y=.int .i64 q)(h: -9223372036854775808<=p - q/\p - q<=9223372036854775807):
  (execOp a.eval {o with op:=.binOp .sub I x y I2,type:=ty}).run P w=.ok (.value (.int .i64 (p - q))) w:=by
 have:(do eqGuard .sub I x y (.int .i64 p) (.int .i64 q);binOp .sub I (.int .i64 p) (.int .i64 q):Sem Value).run P w=.ok (.int .i64 (IntKind.wrap .i64 (p - q))) w:=rfl
 rw[IntWalk.i64_in _ h]at this
 unfold execOp
 simp only[hx,hy]
 simp only[Sem.run_bind]at this ⊢
 rw[this]
 rfl
def Ss{a:Act}{w:World}{o:Oper}{I I2 ty:TypeId}{x y:Operand}{p q:Int}(hx:a.eval x=.int .i64 p)(hy:a.eval y=.int .i64 q):
  (execOp a.eval {o with op:=.binOp .gtr I x y I2,type:=ty}).run P w=.ok (.value (.bool (decide (p>q)))) w:=by
 have:(do eqGuard .gtr I x y (.int .i64 p) (.int .i64 q);binOp .gtr I (.int .i64 p) (.int .i64 q):Sem Value).run P w=.ok (.bool (decide (p>q))) w:=rfl
 unfold execOp
 simp only[hx,hy]
 simp only[Sem.run_bind]at this ⊢
 rw[this]
 rfl
def Sr{a:Act}{w:World}{o:Oper}{I ty:TypeId}{x:Operand}{b:Bool}(hx:a.eval x=.bool b):
  (execOp a.eval {o with op:=.unOp .not I x,type:=ty}).run P w=.ok (.value (.bool !b)) w:=by
 unfold execOp
 simp only[hx]
 rfl
def Su{a:Act}{w:World}{o:Oper}{T e ty:TypeId}{x:Operand}{b:Option Addr}{n c:Nat}(hu:P.underlying T=some (.slice e))(hx:a.eval x=.slice b n c):
  (execOp a.eval {o with op:=.call ⟨.builtin .cap,#[x],#[T]⟩,type:=ty}).run P w=.ok (.value (goInt c)) w:=by
 unfold execOp
 simp only[resolve,m_9,h_3,q_1,Sem.run_bind,Sem.run_pure,Result.andThen_ok,invoke,builtin,hx]
 simp[Builtin.cap_,run_underlying hu]
def KV{a:Act}{w:World}{o:Oper}{T e ty:TypeId}{x y:Operand}(hu:P.underlying T=some (.slice e))(hz:P.cellsOf e≠0){k off len cap:Nat}{i:Int}(hx:a.eval x=.slice (some ⟨k,off,none⟩) len cap)(hy:a.eval y=.int .i64 i)(h0:0<=i)(h1:i<=cap):
  (execOp a.eval {o with op:=.slice T x none (some y) none,type:=ty}).run P w=.ok (.value (.slice (some ⟨k,off,none⟩) i.toNat cap)) w:=by
 show(do pure (.value (<-Instr.sliceAt T (a.eval x) none (some (a.eval y)) none)):Sem Next).run P w=_
 simp only[Sem.run_bind]
 rw[hx,hy,yJ hu hz h0 h1]
 rfl
def KU{a:Act}{w:World}{o:Oper}{T e ty:TypeId}{x y:Operand}(hu:P.underlying T=some (.slice e))(hz:P.cellsOf e≠0){k off len cap:Nat}{i:Int}(hx:a.eval x=.slice (some ⟨k,off,none⟩) len cap)(hy:a.eval y=.int .i64 i)(h0:0<=i)(h1:i<=len):
  (execOp a.eval {o with op:=.slice T x (some y) none none,type:=ty}).run P w=.ok (.value (.slice (some ⟨k,if cap=i.toNat then off else off+i.toNat * P.cellsOf e,none⟩) (len - i.toNat) (cap - i.toNat))) w:=by
 show(do pure (.value (<-Instr.sliceAt T (a.eval x) (some (a.eval y)) none none)):Sem Next).run P w=_
 simp only[Sem.run_bind]
 rw[hx,hy,yI hu hz h0 h1]
 rfl
def Rj{a:Act}{w w':World}{o:Oper}{T T2 e ty:TypeId}{x y:Operand}{k off dl dc m n:Nat}{cs:Array Value}(hu:P.underlying T=some (.slice e))(hz:P.cellsOf e=n)(hn:n≠0)(hx:a.eval x=.slice (some ⟨k,off,none⟩) dl dc)
  (hl:(Builtin.lenOf (a.eval y)).run P w=.ok m w) (hc:(Builtin.firstCells n (Nat.min m dl) (a.eval y)).run P w=.ok cs w) (hs:(storeCells ⟨k,off,none⟩ cs.toList).run P w=.ok () w'):
  (execOp a.eval {o with op:=.call ⟨.builtin .copy,#[x,y],#[T,T2]⟩,type:=ty}).run P w=.ok (.value (goInt (Nat.min m dl))) w':=by
 subst hz
 unfold execOp
 simp only[resolve,m_9,h_3,q_1,Sem.run_bind,Sem.run_pure,Result.andThen_ok,invoke,builtin,hx]
 simp[Builtin.copy_,run_underlying hu,hl,ga hn,hc,hs]
def Pv{a:Act}{w:World}{o:Oper}{f ty:Nat}{x y:Operand}{ts:Array TypeId}:(execOp a.eval {o with op:=.call ⟨.value (.func f),#[x,y],ts⟩,type:=ty}).run P w=(callFunc f #[a.eval x,a.eval y]).run P w:=by
 unfold execOp
 simp only[resolve,Deferred.ofValue,m_9,h_3,q_1,Sem.run_bind,Sem.run_pure,Result.andThen_ok,invoke]
 rfl
def Ea(hp:ps[0]? =some T)(hu:P.underlying T=some (.slice e))(hz:P.cellsOf e≠0)(hv:w.heap[kv]? =some (.cells av Tv fz))
  (hb:w.heap[k]? =some (.cells c T0 (0,0))) (hne:kv≠k) (hm:0<m) (hl:0<lb) (TF:0<av.size):
  (Extern.SlicesOverlaps.overlaps ps rs #[.slice (some ⟨kv,ov,none⟩) m cv,.slice (some ⟨k,o2,none⟩) lb cb]).run P w=.ok (.bool false) w:=by
 have f2: ∀q,w.frozen? ⟨k,q,none⟩=false:=λq=>by simp[World.frozen?,hb]
 have s1:w.shape? kv=some (Tv,av.size):=by simp[World.shape?,hv]
 have s2:w.shape? k=some (T0,c.size):=by simp[World.shape?,hb]
 have hne':(kv==k)=false:=by simpa using hne
 have hm0:m≠0:=by omega
 have hl0:lb≠0:=by omega
 have ha0:av.size≠0:=by omega
 have hsz:(sizeOf e).run P w=.ok (P.cellsOf e) w:=ga hz w
 have hvw: ∀q,(noView ⟨kv,q,none⟩).run P w=.ok () w:=λq=>by simp[noView,viewAt,shape,Sem.run_bind,Sem.run,s1]
 have hbw: ∀q,(noView ⟨k,q,none⟩).run P w=.ok () w:=λq=>by simp[noView,viewAt,shape,Sem.run_bind,Sem.run,s2]
 have cG: ∀q,∃b,(stringish ⟨kv,q,none⟩).run P w=.ok b w:=λq=>by
  cases hf:w.frozen? ⟨kv,q,none⟩
  .exact⟨w.frozen? ⟨kv,av.size,none⟩,by simp[stringish,frozen,shape,Sem.run_bind,Sem.run,s1,hf]⟩
  .exact⟨true,by simp[stringish,frozen,shape,Sem.run_bind,Sem.run,s1,hf]⟩
 have hst2: ∀q,(stringish ⟨k,q,none⟩).run P w=.ok false w:=λq=>by
  simp[stringish,frozen,shape,Sem.run_bind,Sem.run,s2,f2]
 obtain⟨bs,hbs⟩:=cG ov
 have hmb:(mayBeOne ⟨kv,ov,none⟩ ⟨k,o2,none⟩).run P w=.ok false w:=by
  simp[mayBeOne,shape,Sem.run_bind,Sem.run,hbs,hst2,s1,s2]
  grind
 have hbody:Extern.SlicesOverlaps.overlaps ps rs #[.slice (some ⟨kv,ov,none⟩) m cv,.slice (some ⟨k,o2,none⟩) lb cb]=(do
   let some t:=ps[0]? |stuck "slices.overlaps: no parameter types"
   let .slice elem <-underlying t|stuck "slices.overlaps: slice type expected"
   let size <-sizeOf elem
   if m=0\/lb=0\/size=0 then pure (.bool false)
   else if kv !=k&&(<-frozen ⟨kv,ov,none⟩)&&(<-frozen ⟨k,o2,none⟩)then unsupported .addressObserved
   else do
    if kv !=k then do
     noView ⟨kv,ov,none⟩;noView ⟨k,o2,none⟩
     if <-mayBeOne ⟨kv,ov,none⟩ ⟨k,o2,none⟩then return .bool ((<-choose (.extern "sameAddr.stringBytes" 2))==1)
    pure (.bool (kv==k&&ov<o2+lb * size&&o2<ov+m * size))):=rfl
 rw[hbody]
 simp[hp,run_underlying hu,hsz,hm0,hl0,hz,hne',frozen,Sem.run,f2,hvw,hbw,hmb]
def vJ{a:Act}{w:World}{T I e:TypeId}{x y:Operand}{ti:TypeInfo}{z:Value}{base:Option Addr}{sLen sCap m:Nat}{olds:Array Value}{ik:IntKind}(hx:a.eval x=.slice base sLen sCap)(hy:a.eval y=.int .i64 m)
  (ht:P.underlying T=some (.slice e)) (hI:P.underlying I=some (.int ik)) (hi:P.info? e=some ti) (hz:ti.zero=some z) (hn:ti.size≠0)
  (hold:(Builtin.firstCells ti.size sLen (.slice base sLen sCap)).run P w.drew=.ok olds w.drew) (hm:0<m) (hc:sCap<sLen+m) (h63:sLen+m<=maxLen) (hb:(sLen+m) * ti.bytes<=140737488355328):
  ∃gc,sLen+m<=gc/\ ∀(o:Oper) (ty:TypeId),(execOp a.eval {o with op:=.call ⟨.builtin .append,#[x,y],#[T,I]⟩,type:=ty}).run P w=.ok (.value (.slice (some ⟨w.heap.size,0,none⟩) (sLen+m) gc))
   (w.drew.alloc (.cells (olds++Builtin.zeroCells z.cells m++Builtin.zeroCells z.cells (gc - (sLen+m))) e)):=by
 refine⟨grownCap w (sLen+m) sCap e,grownCap_ge w (sLen+m) sCap e,λo ty=>?_⟩
 have h63': ¬((9223372036854775807:Int)<(sLen:Int)+(m:Int)):=by unfold maxLen at h63;omega
 have h64:IntKind.i64.wrap (m:Int)=m:=IntWalk.i64_in _ (by unfold maxLen at h63;omega)
 have hnr: ¬(sLen+m<=sCap):=by omega
 have h48: ¬(281474976710656<Builtin.nextslicecap (sLen+m) sCap * ti.bytes):=by have:=growslice_fits hc hb;omega
 have hmb: ¬((281474976710656:Int)<(m:Int) * (ti.bytes:Int)):=by
  grind
 have hmz: ¬(m * ti.size=0):=Nat.mul_ne_zero ω hn
 have hm0: ¬m=0:=by omega
 refine iM (x:=x) (y:=y) rfl rfl rfl rfl ?_
 rw[hx,hy]
 simp[Builtin.append_,run_underlying ht,run_underlying hI,sizeOf,typeInfo,zeroValue,hi,hz,asInt,asIntOf,h64,hmb,hnr,h63',h48,hmz,hm0,hn,Question.forced,hold,newRow,grownCap]
 intro h
 omega
end
set_option maxRecDepth 10000
set_option maxHeartbeats 2000000
def Rn{t:Nat}{s:SV}(h:(sp n [(6,x)] H).tmps[t]? =some s):s=.undef\/(t=6/\s=x):=by
 have key: ∀(n t0:Nat) (t:Nat) (s:SV),(vi [(6,x)] n t0)[t]? =some s->s=.undef\/(t+t0=6/\s=x):=by
  intro n
  induction n with
  |zero=>intro t0 t s h;simp[vi]at h
  |succ n ih=>
   intro t0 t s h
   simp only[vi]at h
   split at h
   .rename_i e
    cases t with
    |zero=>simp at h;exact .inr ⟨ω,h.symm⟩
    |succ t=>
     simp only[m_0]at h
     refine .inl ?_
     have e2: ∀(n t0 t:Nat) (s:SV),(vi [] n t0)[t]? =some s->s=.undef:=by
      intro n
      induction n with
      |zero=>intro t0 t s h;simp[vi]at h
      |succ n ih=>intro t0 t s h;cases t with
       |zero=>simp[vi]at h;exact h.symm
       |succ t=>simp only[vi,m_0]at h;exact ih _ _ _ h
     exact e2 _ _ _ _ h
   .cases t with
    |zero=>simp at h;exact .inl h.symm
    |succ t=>
     simp only[m_0]at h
     rcases ih (t0+1) t s h with e|⟨e1,e2⟩
     .exact .inl e
     .exact .inr ⟨ω,e2⟩
 rcases key n 0 t s h with e|⟨e1,e2⟩
 .exact .inl e
 .exact .inr ⟨ω,e2⟩
structure AV(N:Nat)(a:Act)(m:List (Nat×Value)):Prop where
 sz:a.tmps.size=N
 df:a.defers=[]
 ev: ∀t v,m.lookup t=some v->a.eval (.tmp t)=v
def AV.add{N t:Nat}{a:Act}{m:List (Nat×Value)}{v:Value}(h:AV N a m)(e:a.eval (.tmp t)=v):AV N a ((t,v)::m):=⟨h.sz,h.df,λs u hs=>by
 rw[List.lookup_cons]at hs
 split at hs
 .rename_i c;rw[beq_iff_eq]at c;cases hs;rw[c];exact e
 .exact h.ev _ _ hs⟩
def AV.put{N d:Nat}{a:Act}{m:List (Nat×Value)}{v:Value}(h:AV N a m)(hd:d<N):AV N (a.put (some d) v) ((d,v)::m):=⟨by rw[oe,h.sz],by simpa[yN]using h.df,λs u hs=>by
 rw[List.lookup_cons]at hs
 split at hs
 .rename_i c;rw[beq_iff_eq]at c;cases hs;rw[c];exact qH (by rw[h.sz];exact hd)
 .rename_i c;rw[kf (by rintro rfl;simp at c)];exact h.ev _ _ hs⟩
def PV(P:Program)(N:Nat)(m:List (Nat×Value))(op:Op)(v:Value):Prop:= ∀a,AV N a m-> ∀(o:Oper) (ty:TypeId) (w:World),(execOp a.eval {o with op:=op,type:=ty}).run P w=.ok (.value v) w
abbrev iN(p:Nat):Value:=.int .i64 (p:Int)
abbrev sV(k off l c:Nat):Value:=.slice (some ⟨k,off,none⟩) l c
section
variable {P:Program} {N:Nat} {m:List (Nat×Value)} {s t:Nat} {I J T e:TypeId} {p q:Nat}
def PV.mv{v:Value}(h:m.lookup s=some v):PV P N m (.move (.tmp s)) v:=λa A o ty w=>by rw[su,A.ev _ _ h]
def PV.as{v:Value}(h:m.lookup s=some v):PV P N m (.assign (.tmp s)) v:=λa A o ty w=>by rw[Fv,A.ev _ _ h]
def PV.ad(h1:m.lookup s=some (iN p))(h2:m.lookup t=some (iN q))(h:p+q<=9223372036854775807):PV P N m (.binOp .add I (.tmp s) (.tmp t) J) (iN (p+q)):=λa A o ty w=>by
 rw[Sv (A.ev _ _ h1) (A.ev _ _ h2) (by constructor<;>omega),iN,Int.natCast_add]
def PV.sb(h1:m.lookup s=some (iN p))(h2:m.lookup t=some (iN q))(h:q<=p/\p<=9223372036854775807):PV P N m (.binOp .sub I (.tmp s) (.tmp t) J) (iN (p - q)):=λa A o ty w=>by
 rw[Sq (A.ev _ _ h1) (A.ev _ _ h2) (by constructor<;>omega),iN,Int.ofNat_sub h.1]
def PV.gt(h1:m.lookup s=some (iN p))(h2:m.lookup t=some (iN q)):PV P N m (.binOp .gtr I (.tmp s) (.tmp t) J) (.bool (decide (q<p))):=λa A o ty w=>by
 rw[Ss (A.ev _ _ h1) (A.ev _ _ h2)];simp
def PV.nt(h:m.lookup s=some (.bool b)):PV P N m (.unOp .not I (.tmp s)) (.bool !b):=λa A o ty w=>Sr (A.ev _ _ h)
def PV.cp{l:Nat}(hT:P.underlying T=some (.slice e))(h:m.lookup s=some (sV k off l c)):PV P N m (.call ⟨.builtin .cap,#[.tmp s],#[T]⟩) (iN c):=λa A o ty w=>Su hT (A.ev _ _ h)
def PV.hi{l:Nat}(hT:P.underlying T=some (.slice e))(hn:P.cellsOf e≠0)(h1:m.lookup s=some (sV k off l c))(h2:m.lookup t=some (iN p))(h:p<=c):PV P N m (.slice T (.tmp s) none (some (.tmp t)) none) (sV k off p c):=λa A o ty w=>by
 rw[KV hT hn (A.ev _ _ h1) (A.ev _ _ h2) ω ω];rfl
def PV.lo{l:Nat}(hT:P.underlying T=some (.slice e))(hn:P.cellsOf e≠0)(hc:P.cellsOf e=n)(h1:m.lookup s=some (sV k off l c))(h2:m.lookup t=some (iN p))(h:p<=l/\p<c):PV P N m (.slice T (.tmp s) (some (.tmp t)) none none) (sV k (off+p * n) (l - p) (c - p)):=λa A o ty w=>by
 rw[KU hT hn (A.ev _ _ h1) (A.ev _ _ h2) ω ω,hc];rw[show((p:Int)).toNat=p by omega,if_neg ω]
def SH(l:List Oper)(r:List (Nat×Op)):Prop:=l.map (λo=>(o.dst,o.op,o.guard))=r.map λp=>(some p.1,p.2,none)
def SH.cons{l:List Oper}{d:Nat}{op:Op}{r:List (Nat×Op)}(h:SH l ((d,op)::r)): ∃o l',l=o::l'/\iC o (some d) op/\SH l' r:=by
 cases l with
 |nil=>cases h
 |cons o l'=>
  unfold SH at h
  simp only[h_3,List.cons.injEq,g_8]at h
  exact⟨o,l',rfl,h.1,h.2⟩
def SH.cut{l:List Oper}{r:List (Nat×Op)}(n:Nat)(h:SH l r):SH (l.take n) (r.take n)/\SH (l.drop n) (r.drop n):=by
 unfold SH at *
 simp only[List.map_take,List.map_drop,h,and_self]
variable {ops:Array Oper} {l:List Oper} {d:Nat} {op:Op} {r:List (Nat×Op)} {v:Value} {a:Act} {w w':World}
def bR{Q:Exit->Act->World->Prop}(hl:SH l ((d,op)::r))(hv:PV P N m op v)(A:AV N a m)(k: ∀l' a',SH l' r->AV N a' ((d,v)::m)->wpList P ops Q l' a' w)(hd:d<N:=by decide):wpList P ops Q l a w:=by
 obtain⟨o,l',rfl,h1,h2⟩:=hl.cons
 exact kG h1 (λty=>hv a A o ty w) (k _ _ h2 (A.put hd))
def uz{Q:Act->Prop}(hl:SH l ((d,op)::r))(hv:PV P N m op v)(A:AV N a m)(k: ∀l' a',SH l' r->AV N a' ((d,v)::m)->wpStill P ops w Q l' a')(hd:d<N:=by decide):wpStill P ops w Q l a:=by
 obtain⟨o,l',rfl,h1,h2⟩:=hl.cons
 exact mW h1 (λty=>hv a A o ty w) (k _ _ h2 (A.put hd))
def LA{Q:Exit->Act->World->Prop}(hl:SH l ((d,op)::r))(hr: ∀(o:Oper) (ty:TypeId),(execOp a.eval {o with op:=op,type:=ty}).run P w=.ok (.value v) w')(A:AV N a m)(k: ∀l' a',SH l' r->AV N a' ((d,v)::m)->wpList P ops Q l' a' w')(hd:d<N:=by decide):wpList P ops Q l a w:=by
 obtain⟨o,l',rfl,h1,h2⟩:=hl.cons
 exact kG h1 (λty=>hr o ty) (k _ _ h2 (A.put hd))
def Cv{Q:Exit->Act->World->Prop}(hl:SH l [])(h:Q .normal a w):wpList P ops Q l a w:=by
 cases l with
 |nil=>exact h
 |cons o l=>cases hl
def Q3{Q:Act->Prop}(hl:SH l [])(h:Q a):wpStill P ops w Q l a:=by
 cases l with
 |nil=>exact h
 |cons o l=>cases hl
end
def zO{P:Program}{a:Act}{w w':World}{o:Oper}{T T2 e ty:TypeId}{x y:Operand}{k off dl dc m n cnt:Nat}{cs:Array Value}(hu:P.underlying T=some (.slice e))(hz:P.cellsOf e=n)(hn:n≠0)(hx:a.eval x=.slice (some ⟨k,off,none⟩) dl dc)
  (hl:(Builtin.lenOf (a.eval y)).run P w=.ok m w) (hcnt:Nat.min m dl=cnt) (hc:(Builtin.firstCells n cnt (a.eval y)).run P w=.ok cs w) (hs:(storeCells ⟨k,off,none⟩ cs.toList).run P w=.ok () w'):
  (execOp a.eval {o with op:=.call ⟨.builtin .copy,#[x,y],#[T,T2]⟩,type:=ty}).run P w=.ok (.value (goInt cnt)) w':=by
 subst hcnt
 exact Rj hu hz hn hx hl hc hs
def Ht{P:Program}{α:Type}{enc:α->D}{T I B e:TypeId}{fo:Nat}{ik:IntKind}{ti:TypeInfo}{z:Value}{zd:D}{n:Nat}{xs ys:List α}{i:Int}{H:List aT}{Q:Exit->St->Prop}{Z:Code}{i8 i9 i10 i11 i12 i13 i14 i15 i16 i17:Nat}{l8 l9 l10 l11 l12 l13 l14 l15 l16 l17:List Oper}
  (hc:(decide (0<=i)&&decide (i<xs.length)&&decide (0<ys.length)&&decide (xs.length+ys.length<=room))=true)
  (hT:P.underlying T=some (.slice e)) (hI:P.underlying I=some (.int ik)) (hi:P.info? e=some ti) (hz:ti.zero=some z) (hzd:ni z=some zd) (hzn:z.cells.size=n) (hsize:ti.size=n) (hn:0<n) (hby:ti.bytes<=65536)
  (hov: ∀(args:Array Value) (w:World),(callFunc fo args).run P w=((Extern.SlicesOverlaps.overlaps #[T,T] #[B] args).run P w).andThen λv w'=>.ok (.value v) w')
  (hq:Q .ret (sp 95 [(6,.own n ((xs.take i.toNat++ys++xs.drop i.toNat).map enc))] H))
  (hm:P.follows .mixedOrders=true:=by kernel_rfl) (hB11:Region.lexTailB .any l11.toArray 8=true:=by kernel_rfl) (hB15:Region.lexTailB .any l15.toArray 8=true:=by kernel_rfl)
  (h8:SH l8 [(26,.move (.tmp 8)),(27,.move (.tmp 7)),(28,.binOp .add I (.tmp 26) (.tmp 27) I),(29,.move (.tmp 0)),(30,.call ⟨.builtin .cap,#[.tmp 29],#[T]⟩),(31,.binOp .gtr I (.tmp 28) (.tmp 30) I)]:=by unfold SH;kernel_rfl)
  (h9:SH l9 [(32,.move (.tmp 0)),(33,.move (.tmp 1)),(34,.slice T (.tmp 32) none (some (.tmp 33)) none),(35,.move (.tmp 8)),(36,.move (.tmp 7)),(37,.binOp .add I (.tmp 35) (.tmp 36) I),(38,.move (.tmp 1)),(39,.binOp .sub I (.tmp 37) (.tmp 38) I),(40,.call ⟨.builtin .append,#[.tmp 34,.tmp 39],#[T,I]⟩),(9,.assign (.tmp 40))]:=by unfold SH;kernel_rfl)
  (h10:SH l10 [(41,.move (.tmp 9)),(42,.move (.tmp 1)),(43,.slice T (.tmp 41) (some (.tmp 42)) none none),(44,.move (.tmp 2)),(45,.call ⟨.builtin .copy,#[.tmp 43,.tmp 44],#[T,T]⟩)]:=by unfold SH;kernel_rfl)
  (h11:SH l11 [(46,.move (.tmp 9)),(47,.move (.tmp 1)),(48,.move (.tmp 7)),(49,.binOp .add I (.tmp 47) (.tmp 48) I),(50,.slice T (.tmp 46) (some (.tmp 49)) none none),(51,.move (.tmp 0)),(52,.move (.tmp 1)),(53,.slice T (.tmp 51) (some (.tmp 52)) none none),(54,.call ⟨.builtin .copy,#[.tmp 50,.tmp 53],#[T,T]⟩)]:=by unfold SH;kernel_rfl)
  (h12:SH l12 [(55,.move (.tmp 9)),(6,.assign (.tmp 55))]:=by unfold SH;kernel_rfl)
  (h13:SH l13 [(56,.move (.tmp 0)),(57,.move (.tmp 8)),(58,.move (.tmp 7)),(59,.binOp .add I (.tmp 57) (.tmp 58) I),(60,.slice T (.tmp 56) none (some (.tmp 59)) none),(0,.assign (.tmp 60))]:=by unfold SH;kernel_rfl)
  (h14:SH l14 [(61,.move (.tmp 2)),(62,.move (.tmp 0)),(63,.move (.tmp 1)),(64,.move (.tmp 7)),(65,.binOp .add I (.tmp 63) (.tmp 64) I),(66,.slice T (.tmp 62) (some (.tmp 65)) none none),(67,.call ⟨.value (.func fo),#[.tmp 61,.tmp 66],#[T,T]⟩),(68,.unOp .not B (.tmp 67))]:=by unfold SH;kernel_rfl)
  (h15:SH l15 [(69,.move (.tmp 0)),(70,.move (.tmp 1)),(71,.move (.tmp 7)),(72,.binOp .add I (.tmp 70) (.tmp 71) I),(73,.slice T (.tmp 69) (some (.tmp 72)) none none),(74,.move (.tmp 0)),(75,.move (.tmp 1)),(76,.slice T (.tmp 74) (some (.tmp 75)) none none),(77,.call ⟨.builtin .copy,#[.tmp 73,.tmp 76],#[T,T]⟩)]:=by unfold SH;kernel_rfl)
  (h16:SH l16 [(78,.move (.tmp 0)),(79,.move (.tmp 1)),(80,.slice T (.tmp 78) (some (.tmp 79)) none none),(81,.move (.tmp 2)),(82,.call ⟨.builtin .copy,#[.tmp 80,.tmp 81],#[T,T]⟩)]:=by unfold SH;kernel_rfl)
  (h17:SH l17 [(83,.move (.tmp 0)),(6,.assign (.tmp 83))]:=by unfold SH;kernel_rfl):
  SW P true (.seq (.seq (.region i8 l8.toArray false) (.cond (.tmp 31) (.seq (.region i9 l9.toArray false) (.seq (.region i10 l10.toArray false) (.seq (.region i11 l11.toArray true) (.seq (.region i12 l12.toArray false) .ret)))) .skip)) (.seq (.region i13 l13.toArray false) (.seq (.seq (.region i14 l14.toArray false) (.cond (.tmp 68) (.seq (.region i15 l15.toArray true) (.seq (.region i16 l16.toArray false) (.seq (.region i17 l17.toArray false) .ret))) .skip)) Z))) (sp 95 [(0,.own n (xs.map enc)),(1,vI i),(2,.d (.list n (ys.map enc))),(7,vI ys.length),(8,vI xs.length)] H) Q:=by
 rw[<-k_6 (f:=enc) (as:=xs),<-k_6 (f:=enc) (as:=ys)]at hc ⊢
 simp only[k_1,List.map_take,List.map_drop]at hq
 generalize xs.map enc=xs at *
 generalize ys.map enc=ys at *
 intro a w g hr
 simp only[g_3,decide_eq_true_eq]at hc
 obtain⟨⟨⟨i0,il⟩,m0⟩,hroom⟩:=hc
 obtain⟨i,rfl⟩: ∃p:Nat,i=(p:Int):=⟨i.toNat,ω⟩
 simp only[Int.toNat_natCast]at hq
 have il:i<xs.length:=by omega
 unfold room at hroom
 have hce:P.cellsOf e=n:=by simp[Program.cellsOf,hi,hsize]
 have hn0:P.cellsOf e≠0:=by omega
 have hsz:a.tmps.size=95:=by rw[hr.len];simp[sp,kR]
 have g0:dj g w (.slot 0) (valOf a 0) n xs:=hr.tmp 0 (.own n xs) rfl
 have e1:a.eval (.tmp 1)=.int .i64 (i:Int):=bY hr (d:=.int .i64 (i:Int)) rfl rfl
 have e7:a.eval (.tmp 7)=.int .i64 (ys.length:Int):=bY hr (d:=.int .i64 (ys.length:Int)) rfl rfl
 have e8:a.eval (.tmp 8)=.int .i64 (xs.length:Int):=bY hr (d:=.int .i64 (xs.length:Int)) rfl rfl
 rcases g0 with⟨rfl,-⟩|⟨k,off,cap,c,T0,us,hv,hk,hb,hl,hzz,hw,hcc,hrr⟩
 .simp at il
 have e0:a.eval (.tmp 0)=.slice (some ⟨k,off,none⟩) xs.length cap:=hv
 rcases(hr.tmp 2 (.d (.list n ys)) rfl:Rd g w (valOf a 2) (.list n ys)).toList with⟨rfl,-⟩|⟨kv,ov,cv,av,Tv,fz,uv,hv2,hk2,hb2,hl2,hw2,hcc2,hrr2⟩
 .simp at m0
 have e2:a.eval (.tmp 2)=.slice (some ⟨kv,ov,none⟩) ys.length cv:=hv2
 have hkv:g.ow kv=.free:=mg.1 hk2
 have hne:kv≠k:=by rintro rfl;rw[hk]at hkv;cases hkv
 have hdef:=hr.ei
 have flx:=pV (g:=g) (w:=w) (k:=k) (T:=T0) (o:=.slot 0) hn rfl hl hzz hw hcc hrr
 have TF:ov+ys.length * n<=av.size:=by
  have hx:ys[ys.length - 1]? =some ys[ys.length - 1]:=by simp[m0]
  have hcl:=hw2 _ _ hx
  obtain⟨h1,-⟩:=hcc2 _ _ hx (n - 1) (ys[ys.length - 1].cells[n - 1]' ω) ψ
  have:=px h1
  have h2:ys.length * n=(ys.length - 1) * n+n:=by
   obtain⟨m,hm⟩: ∃m,ys.length=m+1:=⟨ys.length - 1,ω⟩
   rw[hm,Nat.add_sub_cancel,v_8]
  omega
 have fly:jm g w (av.extract ov (ov+ys.length * n)) n ys:=by
  refine⟨by simp[p_5 TF],hw2,λp x hx j y hy=>⟨uv p j,?_,hrr2 p x hx j y hy,(hcc2 p x hx j y hy).2⟩⟩
  have hj:j<n:=by rw[<-hw2 p x hx];exact aX hy
  have:=aX hx
  have:(p+1) * n<=ys.length * n:=h_9 _ this
  rw[v_8]at this
  rw[k_0,if_pos ω,<-Nat.add_assoc]
  exact(hcc2 p x hx j y hy).1
 have hin:i * n+(xs.length - i) * n=xs.length * n:=by rw[<-q_9];congr 1;omega
 have hcapn:xs.length * n<=cap * n:=h_9 _ hl
 have hmn:0<ys.length * n:=Nat.mul_pos m0 hn
 let zs:=xs.take i++ys++xs.drop i
 have hzl:zs.length=xs.length+ys.length:=by simp[zs];omega
 have flz:jm g w ((c.extract off (off+xs.length * n)).extract 0 (i * n)++av.extract ov (ov+ys.length * n)++(c.extract off (off+xs.length * n)).extract (i * n) (xs.length * n)) n zs:=((flx.take ω).append fly).append (flx.drop ω)
 have hf1:((c.extract off (off+xs.length * n)).extract 0 (i * n)).size=i * n:=by rw[(flx.take (i:=i) ω).1,List.length_take,p_5 ω]
 have hf2:(av.extract ov (ov+ys.length * n)).size=ys.length * n:=fly.1
 have hflat: ∀q,q<zs.length * n->((c.extract off (off+xs.length * n)).extract 0 (i * n)++av.extract ov (ov+ys.length * n)++(c.extract off (off+xs.length * n)).extract (i * n) (xs.length * n))[q]? =if q<i * n then c[off+q]? else if q<i * n+ys.length * n then av[ov+(q - i * n)]? else c[off+(q - ys.length * n)]? :=λq hq=>by
  rw[hzl,q_9]at hq
  have hszF:=flx.1
  split
  .rw[Array.append_assoc,v_6 ω,k_0,if_pos ω,k_0,if_pos ω]
   congr 1;omega
  .split
   .rw[Array.append_assoc,p_6 ω,hf1,v_6 ω,k_0,if_pos ω]
   .rw[Array.append_assoc,p_6 ω,hf1,p_6 ω,hf2,k_0,if_pos ω,k_0,if_pos ω]
    congr 1;omega
 have fin: ∀(a':Act) (w':World) (g':Gh) (v:Value),a'.tmps.size=95->a'.defers=[]->a'.eval (.tmp 6)=v->dj g' w' (.slot 6) v n zs->(∀o,o≠.bR (.slot 0)->aS o g w g' w')->g'.ρ=g.ρ->w.heap.size<=w'.heap.size->fE w w'-> ∃st' g',Q .ret st'/\Rel st' a' w' g'/\Fr true g w g' w':=λa' w' g' v h1 h2 h3 h4 h5 h6 h7 h8=>by
  refine⟨_,g',hq,⟨by rw[h1];simp[sp,kR],h2,λt s hs=>?_,?_⟩,lN (l:=.slot 0) ψ h7 h5 h6 h8⟩
  .rcases Rn hs with rfl|⟨rfl,rfl⟩
   .trivial
   .show dj g' w' (.slot 6) (a'.eval (.tmp 6)) n zs
    rw[h3];exact h4
  .exact hr.hp.bo (λo ho=>h5 o λe=>by subst e;exact ho.elim) (λ_ _ h=>by rw[h6];exact h) (by rw[h6])
 have A:AV 95 a [(0,sV k off xs.length cap),(1,iN i),(2,sV kv ov ys.length cv),(7,iN ys.length),(8,iN xs.length)]:=(((((⟨hsz,hdef,nofun⟩:AV 95 a []).add e8).add e7).add e2).add e1).add e0
 have him:(i+ys.length) * n=i * n+ys.length * n:=q_9 _ _ _
 have htl:(c.extract (off+i * n) (off+i * n+(xs.length - i) * n)).size=(xs.length - i) * n:=by simp;omega
 have hone1: ∀v∈(c.extract (off+i * n) (off+i * n+(xs.length - i) * n)).toList,v.oneCell'=true:=by
  have:=flx.one
  intro v hv
  refine this v ?_
  simp only[Array.mem_toList_iff,Array.mem_extract_iff_getElem]at hv ⊢
  obtain⟨q,hq1,rfl⟩:=hv
  exact⟨i * n+q,ω,by congr 1;omega⟩
 refine wp_seq (wp_seq (wp_region_lit (bR h8 (.mv rfl) A λl a h A=>bR h (.mv rfl) A λl a h A=>bR h (.ad rfl rfl ω) A λl a h A=>bR h (.mv rfl) A λl a h A=>bR h (.cp hT rfl) A λl a h A=>bR h (.gt rfl rfl) A λl a h A=>Cv h (wp_cond (A.ev 31 _ rfl) ?_))))
 by_cases hroomy:xs.length+ys.length<=cap
 .rw[decide_eq_false ω]
  refine wp_skip (wp_seq (wp_region_lit (bR h13 (.mv rfl) A λl a h A=>bR h (.mv rfl) A λl a h A=>bR h (.mv rfl) A λl a h A=>bR h (.ad rfl rfl ω) A λl a h A=>bR h (.hi hT hn0 rfl rfl hroomy) A λl a h A=>bR h (.as rfl) A λl a h A=>Cv h ?_)))
  refine wp_seq (wp_seq (wp_region_lit (bR h14 (.mv rfl) A λl a h A=>bR h (.mv rfl) A λl a h A=>bR h (.mv rfl) A λl a h A=>bR h (.mv rfl) A λl a h A=>bR h (.ad rfl rfl ω) A λl a h A=>bR h (.lo hT hn0 hce rfl rfl ⟨ω,ω⟩) A λl a h A=>LA h (v:=.bool false) (w':=w) (λo ty=>?_) A λl a h A=>bR h (.nt rfl) A λl a h A=>Cv h (wp_cond_true (A.ev 68 _ rfl) ?_))))
  .rw[Pv,hov,A.ev 61 _ rfl,A.ev 66 _ rfl,Ea (P:=P) (T:=T) (ps:= #[T,T]) (rs:= #[B]) rfl hT hn0 hb2 hb hne m0 ω ω]
   rfl
  have hbd:w.drew.heap[k]? =some (.cells c T0 (0,0)):=hb
  have hcapM:(xs.length+ys.length) * n<=cap * n:=h_9 _ hroomy
  rw[q_9]at hcapM
  refine wp_seq (wp_region_still_tail 8 hm hB15 (uz (h15.cut 8).1 (.mv rfl) A λl a h A=>uz h (.mv rfl) A λl a h A=>uz h (.mv rfl) A λl a h A=>uz h (.ad rfl rfl ω) A λl a h A=>uz h (.lo hT hn0 hce rfl rfl ⟨ω,ω⟩) A λl a h A=>uz h (.mv rfl) A λl a h A=>uz h (.mv rfl) A λl a h A=>uz h (.lo hT hn0 hce rfl rfl ⟨ω,ω⟩) A λl a h A=>Q3 h ?_))
  obtain⟨w1,q1,q2,q3,c1,q4,q5,q6⟩:=cl (P:=P) k (off+(i+ys.length) * n) T0 (c.extract (off+i * n) (off+i * n+(xs.length - i) * n)).toList 0 c w.drew hbd (by simp only[p_2,htl];omega) hone1
  have osw1:=cZ (P:=P) k (off+(i+ys.length) * n) T0 (c.extract (off+i * n) (off+i * n+(xs.length - i) * n)).toList 0 c w.drew w1 hbd (by simp only[p_2,htl];omega) hone1 q1
  refine LA (h15.cut 8).2 (v:=goInt (xs.length - i:Nat)) (w':=w1) (λo ty=>?_) A λl a h A=>Cv h ?_
  .refine zO (m:=xs.length+ys.length - i) (cs:=c.extract (off+i * n) (off+i * n+(xs.length - i) * n)) hT hce ω (A.ev 73 _ rfl) (by rw[A.ev 76 _ rfl];rfl) ((Nat.min_eq_right ω).trans ω) ?_ q1
   rw[A.ev 76 _ rfl]
   exact jU (P:=P) hbd ω
  have hb2':w1.heap[kv]? =some (.cells av Tv fz):=by rw[q3 kv hne];exact hb2
  obtain⟨w2,p1,p2,p3,c2,p4,p5,p6⟩:=cl (P:=P) k (off+i * n) T0 (av.extract ov (ov+ys.length * n)).toList 0 c1 w1 q4 (by simp only[p_2,hf2];omega) fly.one
  have osw2:=cZ (P:=P) k (off+i * n) T0 (av.extract ov (ov+ys.length * n)).toList 0 c1 w1 w2 q4 (by simp only[p_2,hf2];omega) fly.one p1
  refine wp_seq (wp_region_lit (bR h16 (.mv rfl) A λl a h A=>bR h (.mv rfl) A λl a h A=>bR h (.lo hT hn0 hce rfl rfl ⟨ω,ω⟩) A λl a h A=>bR h (.mv rfl) A λl a h A=>LA h (v:=goInt ys.length) (w':=w2) (λo ty=>?_) A λl a h A=>Cv h ?_))
  .refine zO (m:=ys.length) (cs:=av.extract ov (ov+ys.length * n)) hT hce ω (A.ev 80 _ rfl) (by rw[A.ev 81 _ rfl];rfl) (p_5 ω) ?_ p1
   rw[A.ev 81 _ rfl]
   exact jU (P:=P) hb2' TF
  refine wp_seq (wp_region_lit (bR h17 (.mv rfl) A λl a h A=>bR h (.as rfl) A λl a h A=>Cv h (wp_ret ?_)))
  have hk2: ∀o,o≠.bR (.slot 0)->aS o g w (g.br (FV (.slot 0) (.slot 6))) w2:=λo ho k' b' h1 h2=>by
   have hkk:k'≠k:=by rintro rfl;exact ho (h1.symm.trans hk)
   exact⟨by simp only[Gh.br,h1];exact eP ho,by rw[p3 k' hkk,q3 k' hkk];exact h2⟩
  refine fin _ w2 (g.br (FV (.slot 0) (.slot 6))) (sV k off (xs.length+ys.length) cap) A.sz A.df (A.ev 6 _ rfl) ?_ hk2 rfl (by rw[p2,q2];exact g_9 _) (osw1.trans osw2)
  rw[<-hzl]
  refine ui flz p4 (by simp[Gh.br,hk,sH]) ω (by rw[p5,q5];exact hzz) (λq hq=>?_) (hk2 _ ψ) (λ_ _ h=>h)
  rw[hflat q hq]
  rw[hzl,q_9]at hq
  rw[p6,q6]
  simp only[p_2,hf2,htl]
  by_cases z1:q<i * n
  .rw[if_neg ω,if_neg ω,if_pos z1]
  .by_cases z2:q<i * n+ys.length * n
   .rw[if_pos ω,if_neg z1,if_pos z2,w_0,k_0,if_pos ω]
    congr 1;omega
   .rw[if_neg ω,if_pos ω,if_neg z1,if_neg z2,w_0,k_0,if_pos ω]
    congr 1;omega
 .rw[decide_eq_true ω]
  refine wp_seq (wp_region_lit (bR h9 (.mv rfl) A λl a h A=>bR h (.mv rfl) A λl a h A=>bR h (.hi hT hn0 rfl rfl ω) A λl a h A=>bR h (.mv rfl) A λl a h A=>bR h (.mv rfl) A λl a h A=>bR h (.ad rfl rfl ω) A λl a h A=>bR h (.mv rfl) A λl a h A=>bR h (.sb rfl rfl ω) A λl a h A=>?_))
  have hbd:w.drew.heap[k]? =some (.cells c T0 (0,0)):=hb
  have hneed:i+(xs.length+ys.length - i)=xs.length+ys.length:=by omega
  have hby2:(xs.length+ys.length) * ti.bytes<=140737488355328:=v_2 (Nat.mul_le_mul hroom hby) (by decide)
  obtain⟨gc,hgc,happ⟩:=vJ (P:=P) (w:=w) (m:=xs.length+ys.length - i) (sLen:=i) (sCap:=cap) (base:=some ⟨k,off,none⟩) (z:=z) (ti:=ti) (olds:=c.extract off (off+i * n)) (A.ev 34 _ rfl) (A.ev 39 _ rfl) hT hI hi hz ω (by
   rw[hsize]
   simp only[Builtin.firstCells]
   exact jU (P:=P) hbd ω) ω ω (by unfold maxLen;omega) (by rw[hneed];exact hby2)
  rw[hneed]at hgc happ
  generalize hC:c.extract off (off+i * n)++Builtin.zeroCells z.cells (xs.length+ys.length - i)++Builtin.zeroCells z.cells (gc - (xs.length+ys.length))=C0 at happ
  have hC0:C0.size=gc * n:=by
   rw[<-hC]
   simp only[Array.size_append,size_zeroCells,hzn,Array.size_extract]
   have h1:i * n+((xs.length+ys.length - i) * n+(gc - (xs.length+ys.length)) * n)=gc * n:=by
    rw[<-q_9,<-q_9];congr 1;omega
   omega
  have hCl: ∀q,q<i * n->C0[q]? =c[off+q]? :=λq hq=>by
   rw[<-hC,Array.append_assoc,v_6 χ,k_0,if_pos ω]
  clear hC
  have hK1:(w.drew.alloc (.cells C0 e)).heap[w.heap.size]? =some (.cells C0 e (0,0)):=heap_alloc w.drew _
  have hold: ∀(k':Nat) (b':Obj),w.heap[k']? =some b'->k'≠w.heap.size/\(w.drew.alloc (.cells C0 e)).heap[k']? =some b':=λk' b' h=>⟨by have:=px h;omega,(aS.alloc (o':=g.ow k') (g:=g) (w:=w.drew) (o:=.cells C0 e) (t:=.free) k' b' rfl h).2⟩
  generalize hW:w.drew.alloc (.cells C0 e)=w1 at happ hK1 hold
  have hw1s:w.heap.size<=w1.heap.size:=by rw[<-hW];simp
  have hos1:fE w w1:=by rw[<-hW];exact⟨rfl,rfl⟩
  generalize hKK:w.heap.size=K at happ hK1 hold hw1s
  refine LA h (w':=w1) happ A λl a h A=>bR h (.as rfl) A λl a h A=>Cv h ?_
  have hb2':w1.heap[kv]? =some (.cells av Tv fz):=(hold kv _ hb2).2
  have hKkv:kv≠K:=(hold kv _ hb2).1
  have hKk:k≠K:=(hold k _ hb).1
  have hgcn:(xs.length+ys.length) * n<=gc * n:=h_9 _ hgc
  rw[q_9]at hgcn
  obtain⟨w2,p1,p2,p3,c2,p4,p5,p6⟩:=cl (P:=P) K (0+i * n) e (av.extract ov (ov+ys.length * n)).toList 0 C0 w1 hK1 (by simp only[p_2,hf2];omega) fly.one
  have osw2:=cZ (P:=P) K (0+i * n) e (av.extract ov (ov+ys.length * n)).toList 0 C0 w1 w2 hK1 (by simp only[p_2,hf2];omega) fly.one p1
  refine wp_seq (wp_region_lit (bR h10 (.mv rfl) A λl a h A=>bR h (.mv rfl) A λl a h A=>bR h (.lo hT hn0 hce rfl rfl ⟨ω,ω⟩) A λl a h A=>bR h (.mv rfl) A λl a h A=>LA h (v:=goInt ys.length) (w':=w2) (λo ty=>?_) A λl a h A=>Cv h ?_))
  .refine zO (m:=ys.length) (cs:=av.extract ov (ov+ys.length * n)) hT hce ω (A.ev 43 _ rfl) (by rw[A.ev 44 _ rfl];rfl) (p_5 ω) ?_ p1
   rw[A.ev 44 _ rfl]
   exact jU (P:=P) hb2' TF
  refine wp_seq (wp_region_still_tail 8 hm hB11 (uz (h11.cut 8).1 (.mv rfl) A λl a h A=>uz h (.mv rfl) A λl a h A=>uz h (.mv rfl) A λl a h A=>uz h (.ad rfl rfl ω) A λl a h A=>uz h (.lo hT hn0 hce rfl rfl ⟨ω,ω⟩) A λl a h A=>uz h (.mv rfl) A λl a h A=>uz h (.mv rfl) A λl a h A=>uz h (.lo hT hn0 hce rfl rfl ⟨ω,ω⟩) A λl a h A=>Q3 h ?_))
  have hbd2:w2.drew.heap[k]? =some (.cells c T0 (0,0)):=by
   show w2.heap[k]? =_
   rw[p3 k hKk];exact(hold k _ hb).2
  obtain⟨w3,q1,q2,q3,c3,q4,q5,q6⟩:=cl (P:=P) K (0+(i+ys.length) * n) e (c.extract (off+i * n) (off+i * n+(xs.length - i) * n)).toList 0 c2 w2.drew p4 (by simp only[p_2,htl];omega) hone1
  have osw3:=cZ (P:=P) K (0+(i+ys.length) * n) e (c.extract (off+i * n) (off+i * n+(xs.length - i) * n)).toList 0 c2 w2.drew w3 p4 (by simp only[p_2,htl];omega) hone1 q1
  refine LA (h11.cut 8).2 (v:=goInt (xs.length - i:Nat)) (w':=w3) (λo ty=>?_) A λl a h A=>Cv h ?_
  .refine zO (m:=xs.length - i) (cs:=c.extract (off+i * n) (off+i * n+(xs.length - i) * n)) hT hce ω (A.ev 50 _ rfl) (by rw[A.ev 53 _ rfl];rfl) (by rw[show xs.length+ys.length - (i+ys.length)=xs.length - i by omega];exact Nat.min_self _) ?_ q1
   rw[A.ev 53 _ rfl]
   exact jU (P:=P) hbd2 ω
  refine wp_seq (wp_region_lit (bR h12 (.mv rfl) A λl a h A=>bR h (.as rfl) A λl a h A=>Cv h (wp_ret ?_)))
  have hk3: ∀o,aS o g w (g.xk K (.bR (.slot 6))) w3:=λo k' b' h1 h2=>by
   obtain⟨hkk,h3⟩:=hold k' b' h2
   refine⟨by rw[uX _ _ hkk];exact h1,?_⟩
   rw[q3 k' hkk]
   show w2.heap[k']? =_
   rw[p3 k' hkk];exact h3
  refine fin _ w3 (g.xk K (.bR (.slot 6))) (sV K 0 (xs.length+ys.length) gc) A.sz A.df (A.ev 6 _ rfl) ?_ (λo _=>hk3 o) rfl (by rw[q2];show _<=w2.heap.size;rw[p2,hKK];exact hw1s) (hos1.trans (osw2.trans osw3))
  rw[<-hzl]
  refine ui flz q4 ψ ω (by rw[q5,p5,hC0];omega) (λq hq=>?_) (hk3 _) (λ_ _ h=>h)
  rw[hflat q hq]
  rw[hzl,q_9]at hq
  rw[q6,p6]
  simp only[p_2,hf2,htl]
  by_cases z1:q<i * n
  .rw[if_neg ω,if_neg ω,if_pos z1,hCl _ ω]
   congr 1;omega
  .by_cases z2:q<i * n+ys.length * n
   .rw[if_neg ω,if_pos ω,if_neg z1,if_pos z2,w_0,k_0,if_pos ω]
    congr 1;omega
   .rw[if_pos ω,if_neg z1,if_neg z2,w_0,k_0,if_pos ω]
    congr 1;omega
section
variable {P:Program} {pu:Bool} {st:St} {ops:Array Oper} {k m:Nat} {Q:St->Prop}
def QU(P:Program)(ops:Array Oper)(k:Nat)(st:St):Option (Option Tmp×List D×Int×Int×Int):=
 match gu ops k st with
 |some o=>match o.op with
  |.slice T x (some lo) (some hi) (some mx)=>match(match cu st x with|some (.str _)=>none|_=>k9 st x),fC st lo,fC st hi,fC st mx with
   |some (_,_,xs),some (_,i),some (_,j),some (_,mm)=>if fZ P T !=0 then some (o.dst,xs,i,j,mm)else none
   |_,_,_,_=>none
  |_=>none
 |none=>none
def H8{α:Type}{enc:α->D}{xs:List α}{d:Option Tmp}{i j mm:Int}(hc:(decide (0<=i)&&decide (i<=j)&&decide (j<=mm)&&decide (mm<=xs.length))=true)(h:QU P ops k st=some (d,xs.map enc,i,j,mm):=by kernel_rfl):qY P ops k st d .undef:=by
 simp only[g_3,decide_eq_true_eq]at hc
 obtain⟨⟨⟨h0,h1⟩,h2⟩,h3⟩:=hc
 unfold QU at h
 split at h
 .rename_i o ho
  split at h
  .rename_i T x lo hi mx hop
   split at h
   .rename_i l n xs' ik i' jk j' mk mm' hl hi' hj' hm'
    split at h
    .rename_i hw
     simp only[g_4,g_8]at h
     obtain⟨rfl,rfl,rfl,rfl,rfl⟩:=h
     obtain⟨g1,g2⟩:=bu ho
     refine⟨o,g1,g2,λa w g hr=>?_,rfl,rfl⟩
     have hx:k9 st x=some (l,n,xs.map enc):=by
      split at hl
      .cases hl
      .exact hl
     have hL:=gD hr hx
     have ev: ∀{y:Operand} {kk:IntKind} {q:Int},fC st y=some (kk,q)->a.eval y=.int kk q:=λh=>by
      unfold fC at h
      split at h
      .rename_i k1 n1 hv1
       cases h
       exact bY hr hv1 rfl
      .cases h
     have e1:=ev hi'
     have e2:=ev hj'
     have e3:=ev hm'
     obtain⟨base,len,cap,hv,hlen⟩: ∃base len cap,a.eval x=.slice base len cap/\xs.length<=cap:=by
      rcases hL with⟨hn,b0,cap,hv⟩|⟨kb,off,cap,c,T0,fz,us,hv,-,-,hp,-⟩
      .rw[q_6]at hn;subst hn;exact⟨b0,0,cap,hv,ψ⟩
      .exact⟨_,_,cap,hv,by simpa using hp⟩
     unfold fZ at hw
     split at hw
     .rename_i e hu
      have hz:P.cellsOf e≠0:=by simpa using hw
      refine⟨.slice (if mm'.toNat=i'.toNat+(mm'.toNat - i'.toNat)/\mm'.toNat=i'.toNat then base else base.map (·.add (i'.toNat * P.cellsOf e))) (j'.toNat - i'.toNat) (mm'.toNat - i'.toNat),trivial,λw' _=>?_⟩
      unfold execOp;rw[hop]
      show(do pure (.value (<-Instr.sliceAt T (a.eval x) (some (a.eval lo)) (some (a.eval hi)) (some (a.eval mx)))):Sem Next).run P w'=_
      have c1:mm'<=(cap:Int):=by omega
      have c2:0<=mm':=by omega
      have c3:0<=j':=by omega
      have c4:j'<=max mm' 0:=by omega
      have c5:i'<=max j' 0:=by omega
      simp[hv,e1,e2,e3,Instr.sliceAt,Instr.slice,Instr.sliceBounds,Instr.sliceBound,asIntOf,run_underlying hu,c1,c2,c3,c4,c5,h0,ga hz]
      by_cases hq:mm'.toNat=i'.toNat
      .rw[if_pos hq,if_pos ⟨ω,hq⟩]
      .rw[if_neg hq,if_neg (λh=>hq h.2)]
     .simp at hw
    .cases h
   .cases h
  .cases h
 .cases h
end
def IC{α ρ:Type}[DecidableEq ρ](xs:List α)(f:Bool->Option ρ):Option ρ:=bif xs.isEmpty then(if f true=f false then f true else none)else f false
def sQ{α ρ:Type}[DecidableEq ρ]{xs:List α}{f:Bool->Option ρ}{r:ρ}(h:IC xs f=some r)(b:Bool)(hb:b=true->xs=[]):f b=some r:=by
 unfold IC at h
 cases hx:xs.isEmpty with
 |true=>
  rw[hx]at h
  simp only[cond_true]at h
  split at h
  .rename_i e;cases b
   .rw[<-e];exact h
   .exact h
  .cases h
 |false=>
  rw[hx]at h
  cases b with
  |false=>exact h
  |true=>have:=hb rfl;subst this;simp at hx
def Hu{P:Program}{pu:Bool}{st:St}{α:Type}{enc:α->D}{id id2:Nat}{o1 o2 o3 o4 o5 o6 o7 o8 p1 p2 p3 p4 p5 p6:Oper}{Y:Code}{T e:TypeId}{ti:TypeInfo}{z:Value}{zd:D}{n:Nat}{xs:List α}{i j:Int}{Q:Exit->St->Prop}{t1 t2 t3 t4 t5 t6 t7 s a1 a2 a3 u1 u2 u3 u4 u5:Nat}{jw:St}
  (hij:(decide (0<=i)&&decide (i<j)&&decide (j<=xs.length)&&decide (xs.length<=room))=true)
  (hm:P.follows .mixedOrders=true) (hB:Region.lexTailB .any #[o1,o2,o3,o4,o5,o6,o7,o8] 6=true)
  (h1:iC o1 (some t1) (.move (.tmp s))) (h2:iC o2 (some t2) (.move (.tmp a1))) (h3:iC o3 (some t3) (.slice T (.tmp t1) none (some (.tmp t2)) none)) (h4:iC o4 (some t4) (.move (.tmp s))) (h5:iC o5 (some t5) (.move (.tmp a2)))
  (h6:iC o6 (some t6) (.slice T (.tmp t4) (some (.tmp t5)) none none)) (h7:iC o7 (some t7) (.call ⟨.builtin .append,#[.tmp t3,.tmp t6],#[T,T]⟩)) (h8:iC o8 (some s) (.assign (.tmp t7)))
  (k1:iC p1 (some u1) (.move (.tmp s))) (k2:iC p2 (some u2) (.move (.tmp s))) (k3:iC p3 (some u3) (.call ⟨.builtin .len,#[.tmp u2],#[T]⟩)) (k4:iC p4 (some u4) (.move (.tmp a3)))
  (k5:iC p5 (some u5) (.slice T (.tmp u1) (some (.tmp u3)) (some (.tmp u4)) none)) (k6:iC p6 none (.call ⟨.builtin .clear,#[.tmp u5],#[T]⟩))
  (hN:(decide (t1<st.tmps.length)&&decide (t2<st.tmps.length)&&decide (t3<st.tmps.length)&&decide (t4<st.tmps.length)&&decide (t5<st.tmps.length)&&decide (t6<st.tmps.length)&&decide (t7<st.tmps.length))=true)
  (hN2:(decide (u1<st.tmps.length)&&decide (u2<st.tmps.length)&&decide (u3<st.tmps.length)&&decide (u4<st.tmps.length)&&decide (u5<st.tmps.length))=true)
  (hd:List.Pairwise (·≠ ·) [s,a1,a2,t1,t2,t3,t4,t5,t6,t7]) (hd2:List.Pairwise (·≠ ·) [s,a3,u1,u2,u3,u4,u5])
  (hT:P.underlying T=some (.slice e)) (hi:P.info? e=some ti) (hz:ti.zero=some z) (hzd:ni z=some zd) (hzn:z.cells.size=n) (hsize:ti.size=n) (hn:0<n) (hby:ti.bytes<=65536)
  (hs:st.tmps[s]? =some (.own n (xs.map enc))) (hi1:cu st (.tmp a1)=some (.int .i64 i)) (hj1:cu st (.tmp a2)=some (.int .i64 j))
  (hst2:((st.Bz [t1,t2,t3,t4,t5,t6,t7]).take s).put (some s) (.own n ((xs.take i.toNat++xs.drop j.toNat).map enc))=jw) (h3v:cu jw (.tmp a3)=some (.int .i64 xs.length))
  (hq:SW P pu Y (jw.Bz [u1,u2,u3,u4,u5]) Q):
  SW P pu (.seq (.region id #[o1,o2,o3,o4,o5,o6,o7,o8] true) (.seq (.region id2 #[p1,p2,p3,p4,p5,p6] false) Y)) st Q:=
 QE (xs:=xs.map enc) hm hB h1 h2 h3 h4 h5 h6 h7 h8 k1 k2 k3 k4 k5 k6 hN hN2 hd hd2 hT hi hz hzd hzn hsize hn hby hs hi1 hj1 (by simpa only[k_6]using hij) (by simpa only[k_1,List.map_take,List.map_drop]using hst2) (by rw[k_6];exact h3v) hq
def Fg(h: ∀(w:World) (g:Gh) (vs:Array Value),kh g w vs args->Calls P f vs w λe w'=> ∃v,e=.returned v/\w'=w/\yo g w v r):PC P f args r:=by
 intro H w g vs hA hH
 refine(h w g vs hA).mono λe w' hh=>?_
 obtain⟨v,rfl,rfl,hr⟩:=hh
 exact⟨v,g,rfl,hr,hH,Fr.refl _ _ _⟩
def kh.SE(h:kh g w vs [vS a,vS b]):vs= #[.string (mk a),.string (mk b)]:=by
 obtain⟨h1,h2⟩:=h
 obtain⟨u0,e0,r0⟩:=h2 0 (vS a) rfl
 obtain⟨u1,e1,r1⟩:=h2 1 (vS b) rfl
 have r0:Rd g w u0 (.str a):=r0
 have r1:Rd g w u1 (.str b):=r1
 cases r0;cases r1
 grind
def RL(fuel:Nat)(a b:List UInt8):Option Int:=some (Lib.compareBytes a b)
def Qp(h:RL fuel a b=some r)
  (hc: ∀(a b:ByteArray) (w:World),Calls P f #[.string a,.string b] w λe w'=>e=.returned (.int .i64 (Lib.compareBytes a.data.toList b.data.toList))/\w'=w):PC P f [vS a,vS b] (vI r):=by
 cases h
 refine Fg λw g vs hA=>?_
 rw[hA.SE]
 refine(hc (mk a) (mk b) w).mono λe w' hh=>?_
 obtain⟨rfl,rfl⟩:=hh
 exact⟨_,rfl,rfl,(.int:Rd g w' _ _)⟩
section
variable {P:Program} {pu:Bool} {st:St} {ops:Array Oper}
def C8:List Nat->Array Bool->Array Bool
 |[],l=>l
 |m::ms,l=>C8 ms (l.setIfInBounds m true)
end
def Rb(P:Program)(T e:TypeId)(n:Nat):Bool:=
 match P.underlying T,P.info? e with
 |some (.slice e'),some ti=>match ti.zero with
  |some z=>e'==e&&(ni z).isSome&&z.cells.size==n&&ti.size==n&&decide (0<n)&&decide (ti.bytes<=65536)
  |none=>false
 |_,_=>false
def rJ(h:Rb P T e n=true):
  P.underlying T=some (.slice e)/\ ∃ti z zd,P.info? e=some ti/\ti.zero=some z/\ni z=some zd/\z.cells.size=n/\ti.size=n/\0<n/\ti.bytes<=65536:=by
 unfold Rb at h
 split at h
 .rename_i e' ti hT hi
  split at h
  .rename_i z hz
   simp only[g_3,decide_eq_true_eq,beq_iff_eq,j_8]at h
   grind
  .cases h
 .cases h
section
variable {P:Program}
def Tz(P:Program)(T:TypeId):Bool:=match P.underlying T with|some (.map k _)=>(match P.underlying k with|some .string=>true|_=>false)|_=>false
def IT(P:Program)(s:TypeId)(f:Nat):Bool:=match P.underlying s with
 |some (.struct fs)=>(match fs[f]? with|some fl=>((P.info? fl.type).map λi=>i.size !=0).getD false|none=>false)
 |_=>false
end
section
variable {P:Program} {ops:Array Oper} {md:Region.Mode} {R:Act->World->Prop}
end
section
variable {P:Program} {pu:Bool} {st:St} {ops:Array Oper}
end
section
variable {P:Program} {pu:Bool} {st:St} {ops:Array Oper}
def JD{o:Oper}{a:Act}{next:Act->World->Prop}{R R':Act->World->Prop}{r:Result Next}(h:o.upon P a next (NQ R) r):o.upon P a next (NQ R') r:=by
 cases r with
 |ok n w'=>
  cases n<;>simp only[Oper.upon]at h ⊢ <;>first
   |exact h
   |(refine h.mono λe w'' hh=>?_
     cases e with
     |returned v=>exact hh
     |panicked ch=>cases hh.1
     |outgrown=>exact absurd hh NQ.out)
 |halt hh w'=>cases hh<;>simp only[Oper.upon]at h ⊢ <;>first|exact h|cases h.1
def gU(n m:Nat):Array Bool:=((List.range n).map (λi=>m.testBit i)).toArray
def qC(n m i:Nat):(gU n m).setIfInBounds i true=gU n (m|||2 ^ i):=by
 apply Array.ext_getElem?
 intro j
 simp only[gU,Array.getElem?_setIfInBounds]
 grind
def qB(n:Nat):gU n 0=Array.replicate n false:=by
 apply Array.ext_getElem?
 intro j
 by_cases hj:j<n
 .simp[gU,hj]
 .simp[gU,hj]
def gM(ops:Array Oper)(i:Nat):Array Oper:=match ops[i]? with
 |some o=> #[o]
 |none=> #[]
def OX(P:Program)(pu:Bool)(ops:Array Oper)(d m:Nat)(st st':St):Prop:=
 ∀a w g,Rel st a w g-> ∀R:Act->World->Prop,(∀a' w' g',Rel st' a' w' g'->Fr pu g w g' w'->R a' w')->wpAny P .any ops (NQ R) d (gU ops.size m) a w
def JB:List Nat->(Nat->Prop)->Prop
 |[],_=>True
 |i::r,p=>p i/\JB r p
def xj{p:Nat->Prop}: ∀{l:List Nat},JB l p-> ∀i∈l,p i
 |i::r,h,j,hj=>by
  rcases j_0.1 hj with rfl|hj
  .exact h.1
  .exact xj h.2 j hj
def oI(h:Region.ready .any ops (gU ops.size m)=[]):OX P pu ops 0 m st st:=
 λa w g hr R hR=>⟨h,rfl,hR a w g hr (Fr.refl _ _ _)⟩
def HK(hg:ops.all (λo=>o.guard.isNone)=true)(h:Region.ready .any ops (gU ops.size m)=i0::is)
  (hs:JB (i0::is) (λi=>bX P pu (gM ops i) 0 st (λs=>OX P pu ops d (m|||2 ^ i) s st'))):OX P pu ops (d+1) m st st':=by
 intro a w g hr R hR
 unfold wpAny
 rw[h]
 refine⟨λe=>(List.cons_ne_nil _ _ e).elim,λi hi=>?_⟩
 have hi':i∈Region.ready .any ops (gU ops.size m):=by rw[h];exact hi
 obtain⟨_,o,ho,_⟩:=mem_ready.1 hi'
 have h1:=xj hs i hi
 have hog:o.guard=none:=Bb hg [i] o (by simp[opsOf,ho])
 simp only[gM,ho]at h1
 unfold bX at h1
 rw[q_5]at h1
 have h2:=h1 a w g hr (NQ (wpAny P .any ops (NQ R) d (gU ops.size (m|||2 ^ i)))) (λkE a1 w1 g1 q1 r1 f1=>⟨rfl,q1 a1 w1 g1 r1 R λa' w' g' r2 f2=>hR a' w' g' r2 (f1.trans f2)⟩)
 unfold wpOp
 rw[ho]
 simp only
 rw[if_pos (tJ hog _)]
 unfold wpList at h2
 rw[if_pos (tJ hog _)]at h2
 rcases h2 with h2|h2
 .left
  rw[qC]
  have h3:=Oper.wp_mono (K':=wpAny P .any ops (NQ R) d (gU ops.size (m|||2 ^ i))) (λa' w' hh=>(show NQ (wpAny P .any ops (NQ R) d (gU ops.size (m|||2 ^ i))) .normal a' w' from hh).2) h2
  exact JD h3
 .exact absurd h2.2 NQ.out
def Ho{id:Nat}{l:List Oper}{Q:Exit->St->Prop}{st':St}(hm:P.follows .mixedOrders=true)(h:OX P pu l.toArray l.length 0 st st')(hq:Q .normal st'):SW P pu (.region id l.toArray true) st Q:=by
 intro a w g hr
 refine Code.wp_mono (Q:=NQ λa' w'=> ∃st' g',Q .normal st'/\Rel st' a' w' g'/\Fr pu g w g' w') (λe a' w' hh=>by obtain⟨rfl,hh⟩:=hh;exact hh) ?_
 refine wp_region_any hm ?_
 have:=h a w.drew g hr.drew (λa' w'=> ∃st' g',Q .normal st'/\Rel st' a' w' g'/\Fr pu g w g' w') (λa' w' g' r f=>⟨st',g',hq,r,Fr.drew.trans f⟩)
 rw[qB]at this
 simpa using this
end
def OS{P:Program}{pu:Bool}{st:St}{id:Nat}{l:List Oper}{Q:Exit->St->Prop}(n:Nat)(H:List aT)(ll:List (Nat×SV))(hm:P.follows .mixedOrders=true)
  (h: ∀X:Nat->Nat->St->Prop,(X=λd m s=>OX P pu l.toArray d m s (sp n ll H))->X l.length 0 st) (hq:Q .normal (sp n ll H)):SW P pu (.region id l.toArray true) st Q:=
 Ho hm (h _ rfl) hq
section
variable {P:Program} {pu:Bool} {st:St} {ops:Array Oper} {Q:St->Prop} {k:Nat}
def Mn(hop:o.op=.box T x)(hd:o.dst=some d)(hy:cu st x=some y):jQ P pu st o (st.put (some d) (.d (.fG y.cells))):=by
 refine jQ.value λa w g hr=>?_
 have e2:=cx hr hy
 obtain⟨c1,c2⟩:=e2.cells
 rw[hd]
 have hr1:Rel st a (w.alloc (.cells (a.eval x).cells T)) (g.xk w.heap.size .free):=hr.world (λ_=>aS.alloc) (λ_ _ h=>h) rfl
 have hrd:Rd (g.xk w.heap.size .free) (w.alloc (.cells (a.eval x).cells T)) (.pointer (some ⟨w.heap.size,0,none⟩)) (.fG y.cells):=by
  refine .fG (λj=>(a.eval x).cells.getD j undef) ψ (heap_alloc _ _) (λj z hj=>?_) (λj z hj=>?_)
  .obtain⟨u,u1,u2,u3⟩:=c2 j z hj
   simp_all
  .obtain⟨u,u1,u2,u3⟩:=c2 j z hj
   simp only[k_4,u1,w_9]
   exact Rd.bo aS.alloc (λ_ _ h=>h) u2
 refine⟨.pointer (some ⟨w.heap.size,0,none⟩),w.alloc (.cells (a.eval x).cells T),_,?_,hr1.cj (some d) hrd,Fr.alloc⟩
 unfold execOp;rw[hop]
 simp only[Instr.box,Sem.run_bind,newVar,newRow,run_newObj,Result.andThen_ok,Sem.run_pure]
 rfl
def Ta(ops:Array Oper)(k:Nat)(st:St):Option (Nat×List D):=
 match ops[k]? with
 |some o=>match o.op,o.dst with
  |.box _ x,some d=>match cu st x with
   |some y=>if fy ops st o=some true then some (d,y.cells)else none
   |none=>none
  |_,_=>none
 |none=>none
def Cf(n:Nat)(H:List aT)(L:List Nat)(l:List (Nat×SV))(h:Ta ops k st=some (d,ds))(cG:bx n L (st.put (some d) (.d (.fG ds)))=some (l,H))
  (hn:bX P pu ops (k+1) (sp n l H) Q):bX P pu ops k st Q:=by
 unfold Ta at h
 split at h
 .rename_i o ho
  split at h
  .rename_i T x d' hop hd
   split at h
   .rename_i y hy
    split at h
    .rename_i hw
     cases h
     exact qe ho hw (Mn hop hd hy) (cX L (aO cG) hn)
    .cases h
   .cases h
  .cases h
 .cases h
end
open Go.Sort
end Go.Sh
namespace Go.Sh
section
variable {P:Program} {pu:Bool} {st:St}
end
section
variable {P:Program} {ops:Array Oper} {md:Region.Mode} {R:Act->World->Prop} {pu:Bool} {st:St}
def bO(P:Program){α:Type}(m:Sem α):Prop:= ∀w x w',m.run P w=.ok x w'->w'=w/\ ∀w2,m.run P w2=.ok x w2
def bO.pure{α:Type}(x:α):bO P (Pure.pure x:Sem α):=λw y w' h=>by
 simp_all
def bO.never{α:Type}{m:Sem α}(h: ∀w x w',m.run P w≠.ok x w'):bO P m:=λw x w' h1=>absurd h1 (h w x w')
def bO.halt{α:Type}(hh:Halt):bO P (Sem.halt hh:Sem α):=.never λw x w' h=>by simp[Sem.run]at h
def bO.bind{α β:Type}{m:Sem α}{f:α->Sem β}(h1:bO P m)(h2: ∀x,bO P (f x)):bO P (m>>=f):=λw x w' h=>by
 rw[Sem.run_bind]at h
 cases hm:m.run P w with
 |ok y w1=>
  rw[hm,Result.andThen_ok]at h
  obtain⟨rfl,a2⟩:=h1 w y w1 hm
  obtain⟨b1,b2⟩:=h2 y _ x w' h
  simp_all
 |halt y w1=>rw[hm]at h;cases h
def bO.program:bO P Go.program:=λw x w' h=>by
 simp_all
def bO.typeInfo(t:TypeId):bO P (Go.typeInfo t):=by
 unfold Go.typeInfo
 refine bO.program.bind λp=>?_
 split
 .exact .pure _
 .exact .halt _
def bO.underlying(t:TypeId):bO P (Go.underlying t):=by
 unfold Go.underlying
 refine bO.program.bind λp=>?_
 split
 .exact .pure _
 .exact .halt _
def bO.sizeOf(t:TypeId):bO P (Go.sizeOf t):=(bO.typeInfo t).bind λ_=>.pure _
def sP{α:Type}: ∀w (x:α) w',(runtimePanic .nilDeref:Sem α).run P w≠.ok x w':=λw x w' h=>by
 unfold runtimePanic at h
 simp_all
def wR{α:Type}(x y:Int)(s:Bool)(c:BoundsCode): ∀w (z:α) w',(runtimePanic (.bounds x y s c):Sem α).run P w≠.ok z w':=λw z w' h=>by
 unfold runtimePanic at h
 simp_all
def bO.nilDeref{α:Type}:bO P (runtimePanic .nilDeref:Sem α):=.never sP
def Bg{α β:Type}{m:Sem α}{f:α->Sem β}(h: ∀y w x w',(f y).run P w≠.ok x w'): ∀w x w',(m>>=f).run P w≠.ok x w':=λw x w' h1=>by
 rw[Sem.run_bind]at h1
 cases hm:m.run P w with
 |ok y w1=>simp_all
 |halt y w1=>rw[hm]at h1;cases h1
def bO.bounds{α:Type}(k:IntKind)(x y:Int)(c:BoundsCode):bO P (boundsPanic k x y c:Sem α):=.never λw z w' h=>by
 unfold boundsPanic at h
 simp only at h
 split at h
 .exact Bg (λs=>wR _ _ _ _) _ _ _ h
 .exact Bg (λs=>wR _ _ _ _) _ _ _ h
def bO.asIntOf(v:Value):bO P (Go.asIntOf v):=by
 unfold Go.asIntOf
 split
 .exact .pure _
 .exact .halt _
 .exact .halt _
def bO.asAddr(v:Value):bO P (Go.asAddr v):=by
 unfold Go.asAddr
 split
 .exact .pure _
 .exact .nilDeref
 .exact .halt _
def bO.sureAddr(v:Value):bO P (Instr.sureAddr v):=by
 unfold Instr.sureAddr
 split
 .exact .pure _
 .exact .halt _
def bO.sliceBound(x:Value)(y:Nat)(c:BoundsCode):bO P (Instr.sliceBound x y c):=by
 unfold Instr.sliceBound
 refine(bO.asIntOf x).bind λp=>?_
 obtain⟨k,i⟩:=p
 simp only
 split
 .exact .pure _
 .exact .bounds _ _ _ _
def bO.sliceBounds(s:Bool)(len cap:Nat)(lo hi mx:Option Value):bO P (Instr.sliceBounds s len cap lo hi mx):=by
 unfold Instr.sliceBounds
 dsimp only
 repeat' first
  |exact .pure _
  |exact .halt _
  |exact .sliceBound _ _ _
  |refine bO.bind ?_ λ_=>?_
  |split
def bO.slice(t:TypeId)(x:Value)(lo hi mx:Option Value):bO P (Instr.slice t x lo hi mx):=by
 unfold Instr.slice
 dsimp only
 repeat' first
  |exact .pure _
  |exact .halt _
  |exact .underlying _
  |exact .sizeOf _
  |exact .asAddr _
  |exact .sliceBounds _ _ _ _ _ _
  |refine bO.bind ?_ λ_=>?_
  |split
def bO.sliceAt(t:TypeId)(x:Value)(lo hi mx:Option Value):bO P (Instr.sliceAt t x lo hi mx):=by
 unfold Instr.sliceAt
 dsimp only
 repeat' first
  |exact .pure _
  |exact .halt _
  |exact .underlying _
  |exact .sizeOf _
  |exact .sureAddr _
  |exact .slice _ _ _ _ _
  |exact .sliceBounds _ _ _ _ _ _
  |refine bO.bind ?_ λ_=>?_
  |split
def Fo(hd:P.underlying T=some d){α:Type}{f:TypeDesc->Sem α}(h:bO P (f d)):bO P (Go.underlying T>>=f):=λw x w' h1=>by
 rw[Sem.run_bind,run_underlying hd,Result.andThen_ok]at h1
 obtain⟨a,b⟩:=h w x w' h1
 exact⟨a,λw2=>by rw[Sem.run_bind,run_underlying hd,Result.andThen_ok];exact b w2⟩
def bO.fieldAt(h:IT P s f=true)(x:Value):bO P (Instr.fieldAt s x f):=by
 unfold IT at h
 split at h
 .rename_i fs hs
  split at h
  .rename_i fl hf
   cases hi:P.info? fl.type with
   |none=>rw[hi]at h;cases h
   |some i=>
    rw[hi]at h
    simp only[m_2,w_9,bne_iff_ne,ne_eq]at h
    have hti: ∀w,(Go.typeInfo fl.type).run P w=.ok i w:=λw=>by
     unfold Go.typeInfo Go.program
     simp[Sem.run_bind,Sem.run,hi]
    unfold Instr.fieldAt
    refine Fo hs ?_
    simp only[hf]
    refine(bO.sureAddr x).bind λa=>bO.bind ?_ λ_=>.pure _
    unfold fieldPlace
    intro w y w' h1
    simp only[Sem.run_bind,Go.sizeOf,hti,Result.andThen_ok,Sem.run_pure,h,if_false]at h1
    cases h1
    exact⟨rfl,λw2=>by simp only[Sem.run_bind,Go.sizeOf,hti,Result.andThen_ok,Sem.run_pure,h,if_false]⟩
  .cases h
 .cases h
def bO.indexAt(t:TypeId)(x ix:Value):bO P (Instr.indexAt t x ix):=by
 unfold Instr.indexAt
 dsimp only
 repeat' first
  |exact .pure _
  |exact .halt _
  |exact .underlying _
  |exact .sizeOf _
  |exact .sureAddr _
  |exact .asIntOf _
  |exact .bounds _ _ _ _
  |refine bO.bind ?_ λ_=>?_
  |split
def bO.part(t:TypeId)(cs:Array Value)(off:Nat):bO P (Go.part t cs off):=by
 unfold Go.part
 repeat' first
  |exact .pure _
  |exact .halt _
  |exact .typeInfo _
  |exact .underlying _
  |exact .sizeOf _
  |refine bO.bind ?_ λ_=>?_
  |split
def bO.followBlind: ∀(l:List FieldStep) (t:TypeId) (x:Option Value),bO P (Go.followBlind l t x)
 |[],t,x=>.pure _
 |s::rest,t,x=>by
  unfold Go.followBlind
  repeat' first
   |exact .pure _
   |exact .halt _
   |exact .underlying _
   |exact .part _ _ _
   |exact bO.followBlind rest _ _
   |refine bO.bind ?_ λ_=>?_
   |split
def bO.nilAhead: ∀(n:Nat) (t:TypeId) (v:Value) (name:String),bO P (Go.nilAhead n t v name)
 |0,t,v,name=>.pure _
 |n+1,t,v,name=>by
  unfold Go.nilAhead
  repeat' first
   |exact .pure _
   |exact .halt _
   |exact .typeInfo _
   |exact .underlying _
   |exact .followBlind _ _ _
   |exact bO.nilAhead n _ _ _
   |refine bO.bind ?_ λ_=>?_
   |split
def np(P:Program)(o:Oper):Bool:=match o.op with
 |.move _|.slice _ _ _ _ _|.indexAddr _ _ _=>true
 |.fieldAddr s _ f=>IT P s f
 |.nilCheck _=>true
 |_=>false
def tn(h:np P o=true)(ρ:Operand->Value):bO P (execOp ρ o):=by
 unfold np at h
 unfold execOp
 split at h
 .rename_i x hop;rw[hop];exact .pure _
 .rename_i T x lo hi mx hop;rw[hop];exact(bO.sliceAt _ _ _ _ _).bind λ_=>.pure _
 .rename_i T x i hop;rw[hop];exact(bO.indexAt _ _ _).bind λ_=>.pure _
 .rename_i s x f hop;rw[hop];exact(bO.fieldAt h _).bind λ_=>.pure _
 .rename_i x hop
  rw[hop]
  dsimp only
  repeat' first
   |exact .pure _
   |exact .nilDeref
   |exact .halt _
   |exact .program
   |exact .nilAhead _ _ _ _
   |refine bO.bind ?_ λ_=>?_
   |split
 .cases h
def oh(P:Program)(o:Oper)(a:Act)(v:Value):Prop:= ∀w,(execOp a.eval o).run P w=.ok (.value v) w
def sA(h:(do pure (.value (<-m)):Sem Next).run P w=.ok n w'): ∃v,n=.value v:=by
 rw[Sem.run_bind]at h
 cases hm:m.run P w with
 |ok y w1=>rw[hm,Result.andThen_ok,Sem.run_pure]at h;cases h;exact⟨_,rfl⟩
 |halt y w1=>rw[hm]at h;cases h
def pW(m:Sem Next):Prop:= ∀w n w',m.run P w=.ok n w'-> ∃v,n=.value v
def pW.pure(v:Value):pW (P:=P) (Pure.pure (Next.value v)):=λw n w' h=>by
 rw[Sem.run_pure]at h;cases h;exact⟨_,rfl⟩
def pW.halt(x:Halt):pW (P:=P) (Sem.halt x:Sem Next):=λw n w' h=>by simp[Sem.run]at h
def pW.nilDeref:pW (P:=P) (runtimePanic .nilDeref:Sem Next):=λw n w' h=>absurd h (sP w n w')
def pW.bind{α:Type}{m:Sem α}{f:α->Sem Next}(h: ∀x,pW (P:=P) (f x)):pW (P:=P) (m>>=f):=λw n w' h1=>by
 rw[Sem.run_bind]at h1
 cases hm:m.run P w with
 |ok y w1=>rw[hm,Result.andThen_ok]at h1;exact h y _ _ _ h1
 |halt y w1=>rw[hm]at h1;cases h1
def Bf{ρ:Operand->Value}(hop:o.op=.nilCheck x):pW (P:=P) (execOp ρ o):=by
 unfold execOp
 rw[hop]
 dsimp only
 repeat' first
  |exact pW.pure _
  |exact pW.nilDeref
  |exact pW.halt _
  |refine pW.bind λ_=>?_
  |split
def EI(h:np P o=true){ρ:Operand->Value}(hr:(execOp ρ o).run P w=.ok n w'): ∃v,n=.value v:=by
 unfold np at h
 split at h
 .rename_i x hop;unfold execOp at hr;rw[hop]at hr;simp only[Sem.run_pure]at hr;cases hr;exact⟨_,rfl⟩
 .rename_i T x lo hi mx hop;unfold execOp at hr;rw[hop]at hr;exact sA hr
 .rename_i T x i hop;unfold execOp at hr;rw[hop]at hr;exact sA hr
 .rename_i s x f hop;unfold execOp at hr;rw[hop]at hr;exact sA hr
 .rename_i x hop;exact Bf hop _ _ _ hr
 .cases h
def BX(h:np P o=true)(cs:Array SelectCase)(b:Bool):o.op≠.select cs b:=λe=>by
 unfold np at h
 rw[e]at h
 cases h
def oh.put(hap:o.apart ops oj=true)(hs: ∀cs b,o.op≠.select cs b)(h:oh P o a v):oh P o (a.put oj.dst u) v:=λw=>by
 rw[execOp_put (ops:=ops) o hs a oj.dst u (Oper.apart_spec hap).2.2]
 exact h w
def oh.defers(h:oh P o a v)(ds:List Deferred):oh P o {a with defers:=ds} v:=λw=>by
 have e:({a with defers:=ds}:Act).eval=a.eval:=funext (GK a ds)
 rw[e];exact h w
def KW(hj:ops[j]? =some oj)(hb:np P oi=true)(hap:oi.apart ops oj=true)(hsj: ∀cs b,oj.op≠.select cs b){K:Act->World->Prop}
  (hv:oh P oi a v) (h:wpOp P ops (NQ R) j K (a.put oi.dst v) w):wpOp P ops (NQ R) j (λa' w'=>oh P oi a' v/\K (a'.put oi.dst v) w') a w:=by
 obtain⟨h1,h2,h3⟩:=Oper.apart_spec hap
 have bo: ∀u,oh P oi (a.put oj.dst u) v:=λu=>hv.put hap (BX hb)
 have keep': ∀u ds,oh P oi (({a with defers:=ds}:Act).put oj.dst u) v:=λu ds=>(hv.defers ds).put hap (BX hb)
 unfold wpOp at *
 simp only[hj]at *
 rw[wanted_put oj a oi.dst v h1]at h
 split
 .rename_i hw
  simp only[hw,if_true]at h
  refine .inl ?_
  rcases h with h|h
  .unfold Oper.wp at *
   rw[execOp_put oj hsj a oi.dst v h1]at h
   generalize (execOp a.eval oj).run P w=r at *
   cases r with
   |ok n w'=>
    cases n<;>simp only[Oper.upon]at h ⊢
    case value u=>exact⟨bo u,by rw[<-Act.put_comm a v u h2];exact h⟩
    case skip=>exact⟨bo _,by rw[<-Act.put_comm a v undef h2];exact h⟩
    case defer d=>
     refine⟨keep' _ _,?_⟩
     rw[yN,IZ]at h
     rw[<-Act.put_comm _ v undef h2];exact h
    case enter f args=>
     refine h.mono λe w'' hh=>?_
     cases e with
     |returned u=>exact⟨bo u,by rw[<-Act.put_comm a v u h2];exact hh⟩
     |panicked chain=>exact absurd hh.1 ψ
     |outgrown=>exact absurd hh NQ.out
    case row row args=>exact h.mono λu w'' hh=>⟨bo u,by rw[<-Act.put_comm a v u h2];exact hh⟩
   |halt y w'=>
    cases y<;>simp only[Oper.upon]at h ⊢
    exact absurd h.1 ψ
  .exact absurd h.2 NQ.out
 .rename_i hw
  simp only[hw]at h
  exact⟨bo _,by rw[<-Act.put_comm a v undef h2];exact h⟩
def Ih(hi:ops[i]? =some oi)(hb:np P oi=true)(hg:oi.guard=none)(hsel: ∀(j:Nat) (o:Oper) cs b,ops[j]? =some o->o.op≠.select cs b):
  ∀(fuel:Nat) (listed:Array Bool) (a:Act) (w:World),oh P oi a v->
   (∀j oj,ops[j]? =some oj->j≠i->listed.getD j true=false->(∀e∈oj.after,Region.binds md e=true->e.on≠i)->oi.apart ops oj=true)->
   i∈Region.ready md ops listed->
   wpAny P md ops (NQ R) fuel (listed.setIfInBounds i true) (a.put oi.dst v) w->wpAny P md ops (NQ R) (fuel+1) listed a w:=by
 have one: ∀(K:Act->World->Prop) (a:Act) (w:World),oh P oi a v->K (a.put oi.dst v) w->wpOp P ops (NQ R) i K a w:=λK a w hv h=>by
  unfold wpOp
  simp only[hi]
  have hw:Region.wanted oi (yielded ops a.tmps)=true:=by unfold Region.wanted;rw[hg]
  rw[if_pos hw]
  refine .inl ?_
  unfold Oper.wp
  rw[hv w,Oper.upon_value]
  exact h
 intro fuel
 induction fuel with
 |zero=>
  intro listed a w hv _ hr H
  refine⟨λh=>(by rw[h]at hr;cases hr),λj hj=>?_⟩
  by_cases hji:j=i
  .subst hji;exact one _ a w hv H
  .have:=ready_mono hj hji
   rw[H.1]at this
   cases this
 |succ fuel ih=>
  intro listed a w hv hfree hr H
  refine⟨λh=>(by rw[h]at hr;cases hr),λj hj=>?_⟩
  by_cases hji:j=i
  .subst hji;exact one _ a w hv H
  .have h1:=H.2 j (ready_mono hj hji)
   obtain⟨hjun,oj,hoj,hall⟩:=mem_ready.1 hj
   have hnot: ∀e∈oj.after,Region.binds md e=true->e.on≠i:=λe he hb heq=>by
    have h1:=hall e he hb
    have h0:=(mem_ready.1 hr).1
    grind
   have h2:=KW hoj hb (hfree j oj hoj hji hjun hnot) (λcs b=>hsel j oj cs b hoj) hv h1
   have hfree': ∀k ok,ops[k]? =some ok->k≠i->(listed.setIfInBounds j true).getD k true=false->
     (∀e∈ok.after,Region.binds md e=true->e.on≠i)->oi.apart ops ok=true:=λk ok hk hki hun hno=>by
    refine hfree k ok hk hki ?_ hno
    by_cases hjk:j=k
    .subst hjk;exact hjun
    simp_all
   refine wpOp_mono (λa' w' h3=>ih (listed.setIfInBounds j true) a' w' h3.1 hfree' (ready_mono hr (j_4 hji)) ?_) h2
   rw[Array.setIfInBounds_comm _ _ hji]
   exact h3.2
end
def DC(t:Nat):Own->Own
 |.free=>.free
 |.obj i=>.obj i
 |.bR (.az i j)=>.bR (.az i j)
 |.bR (.slot 0)=>.bR (.slot t)
 |.bR (.comp 0 j)=>.bR (.comp t j)
 |_=>.bR .S9
def lZ:Own->Bool
 |.obj _|.bR (.az _ _)=>true
 |_=>false
def mu(n t:Nat)(ow ow':Nat->Own)(k:Nat):Own:=if k<n/\lZ (ow k)=false then ow k else DC t (ow' k)
def fF:SV->Bool
 |.bS (.az _ _) _ _|.eS (.az _ _) _=>false
 |_=>true
section
variable {P:Program} {ops:Array Oper} {rest:List Oper} {st:St} {Q:St->Prop}
def Q5{g g':Gh}{w w':World}(hf:Fr false (g.br (aE [] [])) w g' w'){k:Nat}{b:Obj}(hb:w.heap[k]? =some b)(hs:lZ (g.ow k)=false):
  (g'.ow k=.free\/g'.ow k=.out)/\(g'.ow k=.free->g.ow k=.free)/\w'.heap[k]? =some b:=by
 cases ho:g.ow k with
 |free=>
  have h1:(g.br (aE [] [])).ow k=.free:=by simp[Gh.br,ho,aE]
  obtain⟨e1,e2⟩:=hf.free k b h1 hb
  grind
 |obj i=>rw[ho]at hs;cases hs
 |out=>
  have h1:(g.br (aE [] [])).ow k=.out:=by simp[Gh.br,ho,aE]
  obtain⟨e1,e2⟩:=hf.out k b h1 hb
  grind
 |box t=>
  have h1:(g.br (aE [] [])).ow k=.out:=by simp[Gh.br,ho,aE]
  obtain⟨e1,e2⟩:=hf.out k b h1 hb
  grind
 |bR l=>
  have h1:(g.br (aE [] [])).ow k=.out:=by
   cases l<;>simp[Gh.br,ho,aE]
   rw[ho]at hs;cases hs
  obtain⟨e1,e2⟩:=hf.out k b h1 hb
  grind
def Dh{g g':Gh}{w w':World}{t:Nat}(hf:Fr false (g.br (aE [] [])) w g' w'){o:Own}(ho:lZ o=false):aS o g w ⟨mu w.heap.size t g.ow g'.ow,g'.ρ⟩ w':=λk b h1 h2=>by
 have hlt:k<w.heap.size:=(k_5.1 h2).1
 refine⟨?_,(Q5 hf h2 (by rw[h1];exact ho)).2.2⟩
 simp only[mu]
 grind
def Ao{g g':Gh}{w w':World}{t:Nat}(hf:Fr false (g.br (aE [] [])) w g' w'){k:Nat}{o:Own}(ho:o≠.out)(hk:g'.ow k=o)(hfree:o=.free->DC t o=.free):
  (⟨mu w.heap.size t g.ow g'.ow,g'.ρ⟩:Gh).ow k=DC t o:=by
 simp only[mu]
 split
 .rename_i h
  obtain⟨b,hb⟩: ∃b,w.heap[k]? =some b:=⟨w.heap[k]'h.1,by simp[h.1]⟩
  obtain⟨h1,h2,-⟩:=Q5 hf hb h.2
  grind
 .rw[hk]
def OW.Ou(hw:fy ops st o=some true)(hop:o.op=.call c)(hc:se P st [] c=some ⟨f0,args,[],[]⟩)(hp:SC P false f0 args st.H r H')
  (hr:pG r=true) (hn:st.tmps.all fF=true) (h:OW P false ops rest ⟨(st.put o.dst r).tmps,H'⟩ Q):OW P false ops (o::rest) st Q:=by
 intro a w g hrel Qc hq
 unfold wpList
 rw[bB hrel hw,if_pos rfl]
 refine .inl ?_
 unfold se at hc
 split at hc
 .rename_i fo hcallee
  split at hc
  .rename_i f first caps hfo
   split at hc
   .rename_i ss ls gs hargs
    split at hc
    .rename_i hok
     cases hc
     rw[g_3]at hok
     obtain⟨hgive,hfn⟩:=hok
     have hgs:=pP hgive
     have hrf:=cx hrel hfo
     obtain⟨vf,vc,hev,lf,lc,rf,rc⟩: ∃vf vc:Array Value,a.eval fo=.func (.func f0) vf vc/\vf.size=first.length/\vc.size=caps.length/\
       (∀(j:Nat) (y:D),first[j]? =some y-> ∃u,vf[j]? =some u/\Rd g w u y)/\(∀(j:Nat) (y:D),caps[j]? =some y-> ∃u,vc[j]? =some u/\Rd g w u y):=by
      generalize a.eval fo=v at hrf
      cases hrf with
      |fn hl1 hl2 us1 us2 hc1 hr1 hc2 hr2=>grind
     obtain⟨la,ra⟩:=jK hrel hgs hargs (λ_ h=>h) (λ_ h=>h)
     have hexec:(execOp a.eval o).run P w=.ok (.enter f0 (vf++c.args.map a.eval++vc)) w:=by
      unfold execOp
      rw[hop]
      exact sG hcallee hev hfn w
     unfold Oper.wp
     rw[hexec,Oper.upon_enter]
     have hRA:kh (g.br (aE [] [])) w (vf++c.args.map a.eval++vc) (first.map .d++ss++caps.map .d):=by
      have hla:(c.args.map a.eval).size=ss.length:=by rw[<-la];simp
      have hla':c.args.size=ss.length:=by rw[<-la];simp
      refine⟨by simp[lf,lc,<-la],λj s hj=>?_⟩
      have kp: ∀{v:Value} {d:D},Rd g w v d->Rd (g.br (aE [] [])) w v d:=λhr=>hr.bo (aS.br rfl) (λ_ _ h=>h)
      by_cases j1:j<first.length
      .rw[j_3,h_5 (by simpa using j1),h_0]at hj
       simp only[g_2]at hj
       obtain⟨d,hd,rfl⟩:=hj
       obtain⟨u,e1,e2⟩:=rf j d hd
       exact⟨u,φ,kp e2⟩
      .by_cases j2:j<first.length+ss.length
       .grind
       .rw[h_1 χ,h_0]at hj
        simp only[g_2,h_8,k_6]at hj
        obtain⟨d,hd,rfl⟩:=hj
        obtain⟨u,e1,e2⟩:=rc _ d hd
        refine⟨u,?_,kp e2⟩
        grind
     have hRH0:RH (g.br (aE [] [])) w st.H:=hrel.hp.bo (λo' ho'=>aS.br (by
      cases o'<;>simp only[kA]at ho'<;>try rfl
      rename_i l
      cases l<;>simp only[kA]at ho'
      rfl)) (λ_ _ h=>h) rfl
     refine(hp w (g.br (aE [] [])) _ hRA hRH0).mono λe w' hh=>?_
     obtain⟨v,g',rfl,hres,hRH,hf⟩:=hh
     have hρ':fc g ⟨mu w.heap.size (o.dst.getD 0) g.ow g'.ow,g'.ρ⟩:=λi k h=>hf.so i k h
     have hkp:=λo' ho'=>Dh (t:=o.dst.getD 0) hf (o:=o') ho'
     have hfr:Fr false g w ⟨mu w.heap.size (o.dst.getD 0) g.ow g'.ow,g'.ρ⟩ w':=
      ⟨hf.size,hkp _ rfl,hkp _ rfl,hρ',(λh=>by cases h),(λh=>by cases h),(λh=>by cases h),hf.os⟩
     have h0:aS .free g' w' ⟨mu w.heap.size (o.dst.getD 0) g.ow g'.ow,g'.ρ⟩ w':=λk b h1 h2=>⟨Ao hf ψ h1 (λ_=>rfl),h2⟩
     refine h (a.put o.dst v) w' _ ?_ Qc λjw a2 w2 g2 q2 r2 f2=>hq jw a2 w2 g2 q2 r2 (hfr.trans f2)
     refine bg hrel (by rw[eh];simp only[dg];exact hrel.len) (by rw[put_defers];exact hrel.ei) hρ' (λt s hs=>?_) ?_
     .by_cases hd:o.dst=some t
      .simp only at hs
       rw[hd]at hs ⊢
       obtain⟨rfl,hlt⟩:=b9 hs
       refine .inr (.inl ?_)
       rw[bV (by rw[hrel.len];exact hlt)]
       simp only[w_9]
       rw[hd]at h0
       simp only[w_9]at h0
       have tag: ∀l,(∀i j,l≠.az i j)-> ∀k b,g'.ow k=.bR l->w'.heap[k]? =some b->(⟨mu w.heap.size t g.ow g'.ow,g'.ρ⟩:Gh).ow k=DC t (.bR l):=λl hl k b hk _=>Ao hf ψ hk ψ
       cases hrr:s with
       |d x=>rw[hrr]at hres;exact Rd.bo h0 (λ_ _ h=>h) (hres:Rd g' w' v x)
       |own n xs=>
        rw[hrr]at hres
        exact(w9 h0 (tag (.slot 0) ψ) (λ_ _ h=>h) (hres:RC g' w' (.slot 0) v (.own n xs)):RC _ _ (.slot t) v (.own n xs))
       |g8 vs=>
        rw[hrr]at hres hr
        obtain⟨us,e1,e2,e3⟩:=hres
        refine⟨us,e1,e2,λj s' hj=>?_⟩
        obtain⟨u,f1,f2⟩:=e3 j s' hj
        exact⟨u,f1,w9 h0 (tag (.comp 0 j) ψ) (λ_ _ h=>h) f2 (by rintro v0 n xs rfl;exact f2)⟩
       |_=>rw[hrr]at hr;simp[pG]at hr
      .simp only at hs
       have hput:s=.undef\/(st.tmps[t]? =some s/\ ∀t0 old,o.dst=some t0->st.tmps[t0]? =some old->wH old=true->dN t0 s=false):=by
        cases hdst:o.dst with
        |none=>rw[hdst]at hs;exact .inr ⟨hs,ψ⟩
        |some t0=>
         rw[hdst]at hs hd
         rcases eW (λe=>hd (by rw[e])) hs with h|⟨h1,h2⟩
         .exact .inl h
         grind
       rcases hput with rfl|⟨hs3,hs2⟩
       .exact .inl rfl
       .have hnh:fF s=true:=h_2.1 hn s (h_4.2 ⟨t,hs3⟩)
        refine .inr (.inr ⟨hs3,cq hd,λo' ho'=>hkp o' ?_,λs0 e=>?_⟩)
        .cases o' with
         |obj i=>
          exfalso
          cases s<;>simp[ki]at ho'
         |bR l=>
          cases l with
          |az i j=>
           exfalso
           cases s<;>simp[ki]at ho'
           .subst ho';simp[fF]at hnh
           .subst ho';simp[fF]at hnh
          |_=>rfl
         |_=>rfl
        .obtain⟨x0,hx0,hb0⟩:=mr (hrel.tmp t _ hs3) e
         have hd0:o.dst≠some s0:=λe2=>by
          have:=hs2 s0 _ e2 hx0 (iF hb0)
          rw[cK e]at this
          cases this
         exact⟨cq hd0,λx hx hb=>⟨x,fD hx hb hd0,rfl⟩⟩
     .refine RH.bo (g:=g') (w:=w') (λo' ho'=>?_) (λ_ _ h=>h) rfl hRH
      intro k b h1 h2
      refine⟨?_,h2⟩
      cases o' with
      |free=>exact Ao hf ψ h1 (λ_=>rfl)
      |obj i=>exact Ao hf ψ h1 (λh=>by cases h)
      |bR l=>
       cases l<;>simp only[kA]at ho'
       exact Ao hf ψ h1 (λh=>by cases h)
      |_=>exact ho'.elim
    .cases hc
   .cases hc
  .cases hc
 .cases hc
end
inductive Pn (α:Type) where
 |ok (a:α)
 |TS (t:TypeId) (H:List aT)
def TO(t:TypeId):List PanicEntry:=[{v:=.iface t (.agg #[]),recovered:=false}]
def SB(P:Program)(f:FuncId)(args:List SV)(H:List aT)(o:Pn (SV×List aT)):Prop:=
 ∀(w:World) (g:Gh) (vs:Array Value),kh g w vs args->RH g w H->Calls P f vs w λe w'=>match o with
  |.ok p=> ∃v g',e=.returned v/\yo g' w' v p.1/\RH g' w' p.2/\Fr false g w g' w'
  |.TS t H'=>e=.panicked (TO t)/\ ∃g',RH g' w' H'/\Fr false g w g' w'
def Sg{P:Program}(h:SB P f args H (.ok (r,H'))):SC P false f args H r H':=h
section
variable {P:Program} {ops:Array Oper} {st:St}
def cf(hf:P.funcs[f]? =some fn)(hb:fn.body=some c)
  (h:SW P false c (ml fn.ntmps args H) (dp P fn.results.toList H' r)):SC P false f args H r H':=by
 refine ym hf hb ?_
 intro a w g hr
 refine Code.wp_mono (λe a' w' hh=>?_) (h a w g hr)
 obtain⟨st',g',⟨he,l,h1,h2⟩,r1,f⟩:=hh
 exact⟨st'.k8 l,g',⟨he,wN h1,by rw[rP];exact h2⟩,r1.k8,f⟩
def OT(P:Program)(ops:Array Oper)(l:List Oper)(st:St)(Q:Exit->St->Prop):Prop:=
 ∀a w g,Rel st a w g->wpList P ops (λe a' w'=> ∃st' g',Q e st'/\Rel st' a' w' g'/\Fr false g w g' w') l a w
def Ib(P:Program)(ops:Array Oper)(k:Nat)(st:St)(Q:Exit->St->Prop):Prop:=OT P ops (ops.toList.drop k) st Q
def Ib.done{Q:Exit->St->Prop}(h:decide (ops.size<=k)=true)(hq:Q .normal st):Ib P ops k st Q:=by
 intro a w g hr
 rw[q_4 (by simpa using of_decide_eq_true h)]
 exact⟨st,g,hq,hr,Fr.refl _ _ _⟩
def Fy{o:Oper}{a:Act}{next:Act->World->Prop}{Q Q':Exit->Act->World->Prop}(hp: ∀ch a w,Q (.panic ch) a w->Q' (.panic ch) a w)(ho:LetsOut Q->LetsOut Q'){r:Result Next}(h:o.upon P a next Q r):o.upon P a next Q' r:=by
 cases r with
 |ok n w'=>
  cases n<;>simp only[Oper.upon]at h ⊢ <;>first
   |exact h
   |(refine h.mono λe w'' hh=>?_
     grind)
 |halt hh w'=>cases hh<;>simp only[Oper.upon]at h ⊢ <;>first|exact h|exact hp _ _ _ h
def uZ{Q:Exit->Act->World->Prop}(l2:List Oper): ∀(l1:List Oper) (a:Act) (w:World),wpList P ops (Exit.then (wpList P ops Q l2) Q) l1 a w->wpList P ops Q (l1++l2) a w
 |[],a,w,h=>h
 |o::l1,a,w,h=>by
  rw[m_6]
  unfold wpList at h ⊢
  split
  .rename_i hw
   rw[if_pos hw]at h
   rcases h with h|h
   .left
    have h1:=Oper.wp_mono (K':=wpList P ops Q (l1++l2)) (λa' w' hh=>uZ l2 l1 a' w' hh) h
    exact Fy (λch a w h=>h) (λ⟨a0,w0,h⟩=>⟨a0,w0,h⟩) h1
   .exact .inr ⟨h.1,let⟨a0,w0,h2⟩:=h.2;⟨a0,w0,h2⟩⟩
  .rename_i hw
   rw[if_neg hw]at h
   exact uZ l2 l1 _ w h
def uY{Q:Exit->Act->World->Prop}: ∀(l:List Oper) (a:Act) (w:World),(∀o∈l,∀j b,o.guard=some (j,b)->ops'[j]? =ops[j]?)->wpList P ops' Q l a w->wpList P ops Q l a w
 |[],a,w,_,h=>h
 |o::l,a,w,hg,h=>by
  have e:Region.wanted o (yielded ops' a.tmps)=Region.wanted o (yielded ops a.tmps):=by
   unfold Region.wanted
   cases ho:o.guard with
   |none=>rfl
   |some p=>
    obtain⟨j,b⟩:=p
    simp only[yielded,hg o q_3 j b ho]
  have hg': ∀o∈l,∀j b,o.guard=some (j,b)->ops'[j]? =ops[j]? :=λo ho=>hg o (k_8 _ ho)
  unfold wpList at h ⊢
  rw[e]at h
  split
  .rename_i hw
   rw[if_pos hw]at h
   rcases h with h|h
   .exact .inl (Oper.wp_mono (λa' w' hh=>uY l a' w' hg' hh) h)
   .exact .inr h
  .rename_i hw
   rw[if_neg hw]at h
   exact uY l _ w hg' h
def Ey(ops:Array Oper)(k m:Nat):Bool:=decide (k<=m)&&decide (m<=ops.size)&&((ops.toList.take m).drop k).all λo=>match o.guard with|some (j,_)=>decide (j<m)|none=>true
def Pb(m:Nat){Q:Exit->St->Prop}(hg:Ey ops k m=true)(h:bX P false (ops.toList.take m).toArray k st (λs=>Ib P ops m s Q)):Ib P ops k st Q:=by
 intro a w g hr
 simp only[Ey,g_3,decide_eq_true_eq,h_2]at hg
 obtain⟨⟨h1,h2⟩,h3⟩:=hg
 have hsplit:ops.toList.drop k=(ops.toList.take m).drop k++ops.toList.drop m:=by
  conv=>lhs;rw[<-p_7 m ops.toList]
  grind
 rw[hsplit]
 refine uZ _ _ a w (uY _ a w (λo ho j b hj=>?_) ?_ (ops':=(ops.toList.take m).toArray))
 .grind
 .unfold bX at h
  refine h a w g hr _ λst' a' w' g' q r f=>?_
  have:=q a' w' g' r
  show wpList P ops _ (ops.toList.drop m) a' w'
  refine re (λe a2 w2 hh=>?_) this
  obtain⟨jw,g2,q2,r2,f2⟩:=hh
  exact⟨jw,g2,q2,r2,f.trans f2⟩
where
 re {ops:Array Oper} {Q Q':Exit->Act->World->Prop} (hq: ∀e a w,Q e a w->Q' e a w): ∀{l:List Oper} {a:Act} {w:World},wpList P ops Q l a w->wpList P ops Q' l a w
  |[],a,w,h=>hq _ _ _ h
  |o::l,a,w,h=>by
   unfold wpList at h ⊢
   split
   .rename_i hw
    rw[if_pos hw]at h
    rcases h with h|h
    .left
     have h1:=Oper.wp_mono (K':=wpList P ops Q' l) (λa' w' hh=>re hq hh) h
     exact Fy (λch a w h=>hq _ _ _ h) (λ⟨a0,w0,h⟩=>⟨a0,w0,hq _ _ _ h⟩) h1
    .exact .inr ⟨h.1,let⟨a0,w0,h2⟩:=h.2;⟨a0,w0,hq _ _ _ h2⟩⟩
   .rename_i hw
    rw[if_neg hw]at h
    exact re hq h
end
section
variable {P:Program} {ops:Array Oper} {k:Nat} {st:St}
def xe{Q:St->Prop}(n:Nat)(L:List Nat)(l:List (Nat×SV))(hp:SC P false f args st.H r H')
  (h:ew P ops k st []=some (d,f,args,[],[])) (hr:(pG r&&st.tmps.all fF)=true) (cG:bx n L ⟨(st.put d r).tmps,H'⟩=some (l,H')) (hn:bX P false ops (k+1) (sp n l H') Q):bX P false ops k st Q:=by
 unfold ew at h
 split at h
 .rename_i o ho
  split at h
  .rename_i c hop
   split at h
   .rename_i cs hcs
    simp only[g_4,g_8]at h
    obtain⟨rfl,rfl,rfl,e1,e2⟩:=h
    obtain⟨h1,h2⟩:=bu ho
    rw[g_3]at hr
    obtain⟨f0,a0,l0,g0⟩:=cs
    cases e1;cases e2
    unfold bX
    rw[drop_cons h1]
    exact OW.Ou h2 hop hcs hp hr.1 hr.2 (cX L (aO cG) hn)
   .cases h
  .cases h
 .cases h
def Dx{a:Act}(hrel:Rel st a w g)(hop:o.op=.call c)(hc:se P st [] c=some ⟨f0,args,[],[]⟩):
  ∃vs,(execOp a.eval o).run P w=.ok (.enter f0 vs) w/\kh (g.br (aE [] [])) w vs args/\RH (g.br (aE [] [])) w st.H:=by
 unfold se at hc
 split at hc
 .rename_i fo hcallee
  split at hc
  .rename_i f first caps hfo
   split at hc
   .rename_i ss ls gs hargs
    split at hc
    .rename_i hok
     cases hc
     rw[g_3]at hok
     obtain⟨hgive,hfn⟩:=hok
     have hgs:=pP hgive
     have hrf:=cx hrel hfo
     obtain⟨vf,vc,hev,lf,lc,rf,rc⟩: ∃vf vc:Array Value,a.eval fo=.func (.func f0) vf vc/\vf.size=first.length/\vc.size=caps.length/\
       (∀(j:Nat) (y:D),first[j]? =some y-> ∃u,vf[j]? =some u/\Rd g w u y)/\(∀(j:Nat) (y:D),caps[j]? =some y-> ∃u,vc[j]? =some u/\Rd g w u y):=by
      generalize a.eval fo=v at hrf
      cases hrf with
      |fn hl1 hl2 us1 us2 hc1 hr1 hc2 hr2=>grind
     obtain⟨la,ra⟩:=jK hrel hgs hargs (λ_ h=>h) (λ_ h=>h)
     refine⟨vf++c.args.map a.eval++vc,?_,?_,?_⟩
     .unfold execOp
      rw[hop]
      exact sG hcallee hev hfn w
     .have hla:(c.args.map a.eval).size=ss.length:=by rw[<-la];simp
      have hla':c.args.size=ss.length:=by rw[<-la];simp
      refine⟨by simp[lf,lc,<-la],λj s hj=>?_⟩
      have kp: ∀{v:Value} {d:D},Rd g w v d->Rd (g.br (aE [] [])) w v d:=λhr=>hr.bo (aS.br rfl) (λ_ _ h=>h)
      by_cases j1:j<first.length
      .rw[j_3,h_5 (by simpa using j1),h_0]at hj
       simp only[g_2]at hj
       obtain⟨d,hd,rfl⟩:=hj
       obtain⟨u,e1,e2⟩:=rf j d hd
       exact⟨u,φ,kp e2⟩
      .by_cases j2:j<first.length+ss.length
       .rw[h_5 χ,h_1 χ]at hj
        grind
       .rw[h_1 χ,h_0]at hj
        simp only[g_2,h_8,k_6]at hj
        obtain⟨d,hd,rfl⟩:=hj
        obtain⟨u,e1,e2⟩:=rc _ d hd
        refine⟨u,?_,kp e2⟩
        grind
     .exact hrel.hp.bo (λo' ho'=>aS.br (by
       cases o'<;>simp only[kA]at ho'<;>try rfl
       rename_i l
       cases l<;>simp only[kA]at ho'
       rfl)) (λ_ _ h=>h) rfl
    .cases hc
   .cases hc
  .cases hc
 .cases hc
def pr(t:Nat)(hf:Fr false (g.br (aE [] [])) w g' w')(hH:RH g' w' H'):
  Fr false g w ⟨mu w.heap.size t g.ow g'.ow,g'.ρ⟩ w'/\RH ⟨mu w.heap.size t g.ow g'.ow,g'.ρ⟩ w' H':=by
 have hkp:=λo' ho'=>Dh (t:=t) hf (o:=o') ho'
 refine⟨⟨hf.size,hkp _ rfl,hkp _ rfl,λi k h=>hf.so i k h,(λh=>by cases h),(λh=>by cases h),(λh=>by cases h),hf.os⟩,?_⟩
 refine RH.bo (g:=g') (w:=w') (λo' ho'=>?_) (λ_ _ h=>h) rfl hH
 intro k b h1 h2
 refine⟨?_,h2⟩
 cases o' with
 |free=>exact Ao hf ψ h1 (λ_=>rfl)
 |obj i=>exact Ao hf ψ h1 (λh=>by cases h)
 |bR l=>
  cases l<;>simp only[kA]at ho'
  exact Ao hf ψ h1 (λh=>by cases h)
 |_=>exact ho'.elim
end
section
variable {P:Program} {rs:List ResultVar} {s:St} {α:Type} {e:α->SV} {a:α} {H:Hp}
end
def jI(a:Act)(ds:List Deferred):Act:={a with defers:=a.defers++ds}
def MQ(ds:List Deferred)(Q:Exit->Act->World->Prop):Exit->Act->World->Prop:=λe a w=> ∃a0,a=jI a0 ds/\Q e a0 w
def MN(ds:List Deferred)(N:Act->World->Prop):Act->World->Prop:=λa w=> ∃a0,a=jI a0 ds/\N a0 w
def Bh(a:Act)(ds:List Deferred):(jI a ds).eval=a.eval:=by funext x;cases x<;>rfl
def tX(a:Act)(ds:List Deferred)(d:Option Tmp)(v:Value):(jI a ds).put d v=jI (a.put d v) ds:=by cases d<;>rfl
def ID(a:Act)(ds:List Deferred):(jI a ds).tmps=a.tmps:=rfl
def MQ.out{ds:List Deferred}{Q:Exit->Act->World->Prop}(h:LetsOut Q):LetsOut (MQ ds Q):=let⟨a0,w0,h⟩:=h;⟨jI a0 ds,w0,a0,rfl,h⟩
section
variable {P:Program} {ops:Array Oper} {ds:List Deferred}
def Lb{o:Oper}{a:Act}{N:Act->World->Prop}{Q:Exit->Act->World->Prop}{r:Result Next}(h:o.upon P a N Q r):o.upon P (jI a ds) (MN ds N) (MQ ds Q) r:=by
 cases r with
 |ok n w'=>
  cases n<;>simp only[Oper.upon]at h ⊢ <;>first
   |exact h.elim
   |exact⟨_,tX _ _ _ _,h⟩
   |(refine h.mono λe w'' hh=>?_
     cases e with
     |returned v=>exact⟨_,tX _ _ _ _,hh⟩
     |panicked ch=>exact⟨_,rfl,hh⟩
     |outgrown=>exact MQ.out hh)
   |(refine Rows.mono h λv w'' hh=>⟨_,tX _ _ _ _,hh⟩)
   |(refine⟨_,?_,h⟩;cases o.dst<;>rfl)
 |halt hh w'=>cases hh<;>simp only[Oper.upon]at h ⊢ <;>first|exact⟨_,rfl,h⟩|exact h.elim
def Pw{o:Oper}{a:Act}{w:World}{N:Act->World->Prop}{Q:Exit->Act->World->Prop}(h:o.wp P a w N Q):o.wp P (jI a ds) w (MN ds N) (MQ ds Q):=by
 unfold Oper.wp at h ⊢
 rw[Bh]
 exact Lb h
def LP{o:Oper}{a:Act}{w:World}(h:o.asks P a w):o.asks P (jI a ds) w:=by
 unfold Oper.asks at h ⊢
 rw[Bh]
 exact h
def sw{Q:Exit->Act->World->Prop}: ∀(l:List Oper) (a:Act) (w:World),wpList P ops Q l a w->wpList P ops (MQ ds Q) l (jI a ds) w
 |[],a,w,h=>⟨a,rfl,h⟩
 |o::l,a,w,h=>by
  unfold wpList at h ⊢
  rw[ID]
  split
  .rename_i hw
   rw[if_pos hw]at h
   rcases h with h|h
   .refine .inl (Oper.wp_mono (λa1 w1 hh=>?_) (Pw (ds:=ds) h))
    obtain⟨a0,rfl,h0⟩:=hh
    exact sw l a0 w1 h0
   .exact .inr ⟨LP h.1,MQ.out h.2⟩
  .rename_i hw
   rw[if_neg hw]at h
   rw[tX]
   exact sw l _ w h
end
def RJ{P:Program}(hr:Rel st' a' w' g')(he:Km P fn.results.toList st' r):
  ∃v g2,(results fn a'.tmps).run P w'=.ok v w'/\yo g2 w' v r/\RH g2 w' st'.H/\Fr pu g' w' g2 w':=by
 obtain⟨xs,hx1,hx2,hx3,hx4⟩:=he
 obtain⟨hl,hg⟩:=xF hx1
 have one: ∀j,j<xs.length-> ∃v,(∀s t,xs[j]? =some (s,t)->RC (g'.br (kg xs)) w' (kZ xs.length j) v s)/\ ∀rv,fn.results[j]? =some rv->(l7 a'.tmps rv).run P w'=.ok v w':=λj hj=>by
  obtain⟨rv,e1,e2⟩:=hg j xs[j] (by simp[hj])
  obtain⟨v,f1,f2⟩:=AL (P:=P) hr (s:=xs[j].1) (t:=xs[j].2) e2 (f:=kg xs) rfl (kZ xs.length j)
   (λt' ht'=>by
    have:=CY hx2 (j:=j) (s:=xs[j].1) (t:=t') φ
    simp only[kg,this])
   (λs' hs' t' n ys hlent=>by
    subst hs'
    unfold Es at hx3
    rw[h_2]at hx3
    have:=hx3 (.tmp s') (h_4.2 ⟨j,e1⟩)
    simp only[hlent,m_3]at this
    simp only[kg,this])
  refine⟨v,λs t cG=>?_,λrv' hrv'=>?_⟩
  .grind
  grind
 have all: ∃us:List Value,us.length=xs.length/\(∀(j:Nat) (s:SV) (t:Option Nat),xs[j]? =some (s,t)-> ∃u,us[j]? =some u/\RC (g'.br (kg xs)) w' (kZ xs.length j) u s)/\
   ∀(j:Nat) (rv:ResultVar),fn.results[j]? =some rv-> ∃v,us[j]? =some v/\(l7 a'.tmps rv).run P w'=.ok v w':=by
  have: ∃F:Nat->Value,∀j,j<xs.length->(∀s t,xs[j]? =some (s,t)->RC (g'.br (kg xs)) w' (kZ xs.length j) (F j) s)/\ ∀rv,fn.results[j]? =some rv->(l7 a'.tmps rv).run P w'=.ok (F j) w':=
   ⟨λj=>if hj:j<xs.length then Classical.choose (one j hj)else undef,λj hj=>by grind⟩
  obtain⟨F,hF⟩:=this
  refine⟨(List.range xs.length).map F,ψ,λj s t hj=>⟨F j,by simp[aX hj],(hF j (aX hj)).1 s t hj⟩,λj rv hj=>?_⟩
  grind
 obtain⟨us,u1,u2,u3⟩:=all
 have hrun:=nH (P:=P) (fn:=fn) (tm:=a'.tmps) (w:=w') (vs:=us) (by rw[u1,<-hl];simp) u3
 have hfr':Fr pu g' w' (g'.br (kg xs)) w':=⟨g_9 _,aS.br rfl,aS.br rfl,λ_ _ h=>h,λ_ i=>aS.br rfl,λ_ i j=>aS.br rfl,λ_=>rfl,⟨rfl,rfl⟩⟩
 have hRH:RH (g'.br (kg xs)) w' st'.H:=by
  refine RH.bo (g:=g') (w:=w') (λo ho=>?_) (λ_ _ h=>h) rfl hr.hp
  refine aS.br ?_
  cases o<;>simp only[kA]at ho<;>try rfl
  rename_i l
  cases l<;>simp only[kA]at ho
  rfl
 have hres:yo (g'.br (kg xs)) w' (if h:us.toArray.size=1 then us.toArray[0]else .tuple us.toArray) r:=by
  rw[<-hx4]
  match xs,u1,u2 with
  |[x],u1,u2=>
   match us,u1 with
   |[u],_=>
    obtain⟨u',e1,e2⟩:=u2 0 x.1 x.2 ψ
    simp only[j_5,g_4]at e1
    subst e1
    simp only[List.size_toArray,j_2,v_5,q_2,dite_true,PK]
    have e2:RC (g'.br (kg [x])) w' (.slot 0) u x.1:=e2
    have:yo (g'.br (kg [x])) w' u x.1:=by
     obtain⟨s,t⟩:=x
     cases s<;>first|exact e2|exact e2.elim
    simpa using this
  |[],u1,u2=>
   match us,u1 with
   |[],_=>exact⟨#[],ψ,rfl,ψ⟩
  |x::y::r',u1,u2=>
   have hne: ¬us.toArray.size=1:=by simp[u1]
   rw[dif_neg hne]
   refine⟨us.toArray,rfl,by simp[u1],λj s hj=>?_⟩
   simp only[h_0,g_2]at hj
   obtain⟨⟨s',t⟩,h1,h2⟩:=hj
   simp only at h2
   subst h2
   obtain⟨u,e1,e2⟩:=u2 j s' t h1
   rw[show kZ (x::y::r').length j=.comp 0 j by simp[kZ]]at e2
   grind
 grind
section
variable {P:Program} {ops:Array Oper} {ds:List Deferred} {st:St} {k:Nat} {Q:Exit->St->Prop}
def Ps(P:Program)(ds:List Deferred)(c:Code)(st:St)(Q:Exit->St->Prop):Prop:=
 ∀a w g,Rel st a w g->c.wp P (λe a' w'=> ∃a0 st' g',a'=jI a0 ds/\Q e st'/\Rel st' a0 w' g'/\Fr false g w g' w') (jI a ds) w
def qK(h:Ps P ds x st (thenS (λs=>Ps P ds y s Q) Q)):Ps P ds (.seq x y) st Q:=by
 intro a w g hr
 refine wp_seq (Code.wp_mono (λe a' w' hh=>?_) (h a w g hr))
 obtain⟨a0,st',g',rfl,q,r,f⟩:=hh
 cases e with
 |normal=>
  refine Code.wp_mono (λe2 a2 w2 hh2=>?_) (q a0 w' g' r)
  obtain⟨a1,jw,g2,e2,q2,r2,f2⟩:=hh2
  exact⟨a1,jw,g2,e2,q2,r2,f.trans f2⟩
 |_=>exact⟨a0,st',g',rfl,q,r,f⟩
def qL(h:Q .ret st):Ps P ds .ret st Q:=λa w g hr=>wp_ret ⟨a,st,g,rfl,h,hr,Fr.refl _ _ _⟩
def lJ{id:Nat}(h:Ib P ops 0 st Q):Ps P ds (.region id ops false) st Q:=λa w g hr=>by
 have h1:=h a w g hr
 rw[q_5]at h1
 refine Code.wp_mono (λe a' w' hh=>?_) (wp_region_list (sw (ds:=ds) _ a w h1))
 obtain⟨a0,e0,st',g',q,r,f⟩:=hh
 grind
def Rel.Ou(t:Nat)(hrel:Rel st a w g)(hf:Fr false (g.br (aE [] [])) w g' w')(hH:RH g' w' H')(hn:st.tmps.all fF=true):
  Rel ⟨st.tmps,H'⟩ a w' ⟨mu w.heap.size t g.ow g'.ow,g'.ρ⟩:=by
 have hkp:=λo' ho'=>Dh (t:=t) hf (o:=o') ho'
 refine bg hrel hrel.len hrel.ei (λi k h=>hf.so i k h) (λt s hs=>?_) (pr t hf hH).2
 have hnh:fF s=true:=h_2.1 hn s (h_4.2 ⟨t,hs⟩)
 refine .inr (.inr ⟨hs,rfl,λo' ho'=>hkp o' ?_,λs0 e=>?_⟩)
 .cases o' with
  |obj i=>
   exfalso
   cases s<;>simp[ki]at ho'
  |bR l=>
   cases l with
   |az i j=>
    exfalso
    cases s<;>simp[ki]at ho'
    .subst ho';simp[fF]at hnh
    .subst ho';simp[fF]at hnh
   |_=>rfl
  |_=>rfl
 grind
end
section
variable {P:Program} {ops:Array Oper} {k:Nat} {st:St}
end
section
variable {P:Program} {st:St}
def kT(i off d:Nat):Own->Own:=λo=>if o=.bR (.az i off)then .bR (.slot d)else o
def oJ(h:o≠.bR (.az i off)):kT i off d o=o:=by simp[kT,h]
def oW(hn:fF s=true): ¬ki t s (.bR (.az i j)):=by
 intro h
 cases s<;>simp[ki]at h
 .subst h;simp[fF]at hn
 .subst h;simp[fF]at hn
def Am(hop:o.op=.load T x)(hd:o.dst=some d)(hx:sN st x=some (i,off))(hu:(P.underlying T).isNone=false)(ha:fB P T=false)
  (hi:st.H[i]? =some (.cells cs)) (hc:cs[off]? =some (.own n xs)) (hn:st.tmps.all fF=true) (hr:Rel st a w g):
  ∃u g',(execOp a.eval o).run P w=.ok (.value u) w/\Rel ⟨(st.put (some d) (.own n xs)).tmps,st.H.set i (.cells (cs.set off .undef))⟩ (a.put o.dst u) w g'/\(∀o',o'≠.bR (.az i off)->aS o' g w g' w)/\g'.ρ=g.ρ:=by
 obtain⟨k,e1,e3⟩:=k7 hr hx
 obtain⟨k',c,T0,f1,f2,f3,f4,f5⟩:=hr.hp.2 i _ hi
 rw[e1]at f1
 cases f1
 obtain⟨u,u1,u2,u3⟩:=f5 off _ hc
 have hk: ∀o',o'≠.bR (.az i off)->aS o' g w (g.br (kT i off d)) w:=λo' h=>aS.br (oJ h)
 refine⟨u,g.br (kT i off d),?_,?_,hk,rfl⟩
 .unfold execOp
  rw[hop]
  simp only[Instr.loadAt,e3,Instr.sureAddr,Sem.run_bind,Sem.run_pure,Result.andThen_ok,dX hu ha f3 u1]
 .rw[hd]
  refine bg hr (by rw[eh];simp only[dg];exact hr.len) (by rw[put_defers];exact hr.ei) (λ_ _ h=>h) (λt s hs=>?_) ⟨by simp[Gh.br,hr.hp.1],λi' o' hi'=>?_⟩
  .by_cases e:d=t
   .subst e
    obtain⟨rfl,hlt⟩:=b9 hs
    refine .inr (.inl ?_)
    rw[bV (by rw[hr.len];exact hlt)]
    exact dj.br (oJ ψ) (by simp[kT]) u2
   .rcases eW (λh=>e h.symm) hs with h|⟨h1,h2⟩
    .exact .inl h
    .have hnh:fF s=true:=h_2.1 hn s (h_4.2 ⟨t,h1⟩)
     refine .inr (.inr ⟨h1,cq (by simpa using e),λo' ho'=>hk o' (λe2=>?_),λs0 e0=>?_⟩)
     .subst e2;exact oW hnh ho'
     .obtain⟨x0,hx0,hb0⟩:=mr (hr.tmp t _ h1) e0
      have hd0:(some d:Option Nat)≠some s0:=λe2=>by
       cases e2
       have:=h2 _ hx0 (iF hb0)
       rw[cK e0]at this
       cases this
      exact⟨cq hd0,λy hy hb=>⟨y,fD hy hb hd0,rfl⟩⟩
  .simp only at hi'
   by_cases e:i=i'
   .subst e
    rw[g_0 (aX hi)]at hi'
    cases hi'
    refine⟨k,c,T0,e1,by simp[Gh.br,f2,kT],f3,by simp[f4],λj s hj=>?_⟩
    by_cases ej:off=j
    .subst ej
     rw[g_0 (aX hc)]at hj
     cases hj
     exact⟨u,u1,trivial,u3⟩
    .rw[g_1 ej]at hj
     obtain⟨v,v1,v2,v3⟩:=f5 j s hj
     exact⟨v,v1,v2.bo (hk _ ψ) (hk _ χ) (λ_ _ h=>h),v3⟩
   .rw[g_1 e]at hi'
    exact(hr.hp.2 i' o' hi').ph (hk _ ψ) (hk _ ψ) (λj=>hk _ χ) (λ_ _ h=>h)
def Jq(hop:o.op=.load T x)(hd:o.dst=some d)(hx:sN st x=some (i,off))(hu:(P.underlying T).isNone=false)(ha:fB P T=false)
  (hi:st.H[i]? =some (.cells cs)) (hc:cs[off]? =some (.own n xs)) (hn:st.tmps.all fF=true):jQ P false st o ⟨(st.put (some d) (.own n xs)).tmps,st.H.set i (.cells (cs.set off .undef))⟩:=
 jQ.value λa w g hr=>let⟨u,g',h1,h2,h3,h4⟩:=Am hop hd hx hu ha hi hc hn hr
  ⟨u,w,g',h1,h2,g_9 _,h3 _ ψ,h3 _ ψ,λi k h=>by rw[h4];exact h,nofun,nofun,nofun,⟨rfl,rfl⟩⟩
def iD(i off s:Nat):Own->Own:=λo=>if o=.bR (.slot s)then .bR (.az i off)else o
def oO(h:o≠.bR (.slot s)):iD i off s o=o:=by simp[iD,h]
def dj.slice(h:dj g w l v n xs): ∃a len cap,v=.slice a len cap:=by
 rcases h with⟨_,a,e⟩|⟨k,off,cap,c,T,us,hv,_⟩
 .exact⟨a,0,0,e⟩
 .exact⟨_,_,_,hv⟩
def BJ(hop:o.op=.store T x (.tmp s))(hd:o.dst=none)(hx:sN st x=some (i,off))(hs:st.tmps[s]? =some (.own n xs))(hu:(P.underlying T).isNone=false)(hsz:P.cellsOf T=1)
  (hi:st.H[i]? =some (.cells cs)) (hlt:off<cs.length) (hn:st.tmps.all fF=true) (hr:Rel st a w g):
  ∃w' g',(execOp a.eval o).run P w=.ok .skip w'/\Rel ⟨(st.take s).tmps,st.H.set i (.cells (cs.set off (.own n xs)))⟩ (a.put o.dst undef) w' g'/\(∀o',o'≠.bR (.slot s)->o'≠.obj i->aS o' g w g' w')/\g'.ρ=g.ρ/\w'.heap.size=w.heap.size/\fE w w'/\
   ∃k c T fz,g'.ρ[i]? =some k/\g'.ow k=.obj i/\w'.heap[k]? =some (.cells c T fz)/\c[off]? =some (valOf a s):=by
 obtain⟨k,e1,e3⟩:=k7 hr hx
 obtain⟨k',c,T0,f1,f2,f3,f4,f5⟩:=hr.hp.2 i _ hi
 rw[e1]at f1
 cases f1
 have ho:dj g w (.slot s) (valOf a s) n xs:=hr.tmp s _ hs
 obtain⟨sa,sl,sc,hv⟩:=ho.slice
 have hev:a.eval (.tmp s)=.slice sa sl sc:=hv
 obtain⟨w',r1,r2,r3,c',r4,r5,r6⟩:=cl (P:=P) k off T0 [.slice sa sl sc] 0 c w f3 χ (by simp[Value.oneCell'])
 have hos:=cZ (P:=P) k off T0 [.slice sa sl sc] 0 c w w' f3 χ (by simp[Value.oneCell']) r1
 have hk: ∀o',o'≠.bR (.slot s)->o'≠.obj i->aS o' g w (g.br (iD i off s)) w':=λo' h1 h2=>(aS.block f2 h2 r3).trans (aS.br (oO h1))
 refine⟨w',g.br (iD i off s),?_,?_,hk,rfl,r2,hos,k,c',T0,(0,0),e1,by simp[Gh.br,f2,iD],r4,by rw[r6,if_pos ψ,hv];simp⟩
 .unfold execOp;rw[hop]
  simp only[Instr.storeAt,Sem.run_bind,e3,Instr.sureAddr,Sem.run_pure,Result.andThen_ok,storeVar,hU hu]
  rw[hev]
  simp only[Value.cells]
  simp[hsz,r1]
 .rw[hd]
  refine bg hr (by simp only[Act.put,gF];exact hr.len) hr.ei (λ_ _ h=>h) (λt sv hts=>?_) ⟨by simp[Gh.br,hr.hp.1],λi' o' hi'=>?_⟩
  .rcases cA hts with h|⟨h1,h2,h3⟩
   .exact .inl h
   .have hnh:fF sv=true:=h_2.1 hn sv (h_4.2 ⟨t,h1⟩)
    refine .inr (.inr ⟨h1,rfl,λo' ho'=>hk o' (λe2=>?_) (λe2=>?_),λs0 e0=>⟨rfl,λy hy hb=>⟨y,?_,rfl⟩⟩⟩)
    .subst e2
     rcases qf ho' with h|h
     .exact h2 h.symm
     .rw[h3]at h;cases h
    .subst e2;exact oV ho'
    .have hne:s0≠s:=λe2=>by rw[e2]at e0;rw[cK e0]at h3;cases h3
     show((st.kill s).set s .undef).tmps[s0]? =some y
     simp only[St.set,g_1 (j_4 hne)]
     simp[St.kill,hy,eM hb]
  .simp only at hi'
   by_cases e:i=i'
   .subst e
    rw[g_0 (aX hi)]at hi'
    cases hi'
    refine⟨k,c',T0,e1,by simp[Gh.br,f2,iD],r4,by simp[r5,f4],λj s' hj=>?_⟩
    by_cases ej:off=j
    .subst ej
     rw[g_0 hlt]at hj
     cases hj
     refine⟨.slice sa sl sc,by rw[r6,if_pos ψ];simp,?_,rfl⟩
     rw[<-hv]
     have h1:dj (g.br (iD i off s)) w (.az i off) (valOf a s) n xs:=dj.br (oO ψ) (by simp[iD]) ho
     refine dj.bo (λk0 b hk0 hb0=>⟨hk0,?_⟩) (λk0 b hk0 hb0=>⟨hk0,?_⟩) (λ_ _ h=>h) h1
     .rw[r3 k0 (λe=>?_)];·exact hb0
      subst e;simp[Gh.br,f2,iD]at hk0
     .rw[r3 k0 (λe=>?_)];·exact hb0
      subst e;simp[Gh.br,f2,iD]at hk0
    .rw[g_1 ej]at hj
     obtain⟨v,v1,v2,v3⟩:=f5 j s' hj
     exact⟨v,φ,v2.bo (hk _ ψ ψ) (hk _ ψ ψ) (λ_ _ h=>h),v3⟩
   .rw[g_1 e]at hi'
    exact(hr.hp.2 i' o' hi').ph (hk _ ψ ψ) (hk _ ψ χ) (λj=>hk _ ψ ψ) (λ_ _ h=>h)
def Js(hop:o.op=.store T x (.tmp s))(hd:o.dst=none)(hx:sN st x=some (i,off))(hs:st.tmps[s]? =some (.own n xs))(hu:(P.underlying T).isNone=false)(hsz:P.cellsOf T=1)
  (hi:st.H[i]? =some (.cells cs)) (hlt:off<cs.length) (hn:st.tmps.all fF=true):jQ P false st o ⟨(st.take s).tmps,st.H.set i (.cells (cs.set off (.own n xs)))⟩:=
 jQ.skip λa w g hr=>let⟨w',g',h1,h2,h3,h4,h5,h6,_⟩:=BJ hop hd hx hs hu hsz hi hlt hn hr
  ⟨w',g',h1,h2,by rw[h5];exact g_9 _,h3 _ ψ ψ,h3 _ ψ ψ,λi k h=>by rw[h4];exact h,nofun,nofun,nofun,h6⟩
end
def db{α:Type}(n:Nat)(c:Cd α)(H:Hp)(i off:Nat):Option (List α×Hp):=
 (mn H i).bind λcs=>match cs[off]? with
  |some (.own n' ds)=>if n'=n then(ds.mapM c.dec).map λxs=>(xs,H.set i (.cells (cs.set off .undef)))else none
  |_=>none
def cz{α:Type}(n:Nat)(c:Cd α)(H:Hp)(i off:Nat)(xs:List α):Option Hp:=
 (mn H i).bind λcs=>if off<cs.length then some (H.set i (.cells (cs.set off (.own n (xs.map c.enc)))))else none
def GB{α:Type}{c:Cd α}{xs:List α}(h:db n c H i off=some (xs,H')):
  ∃cs,H[i]? =some (.cells cs)/\cs[off]? =some (.own n (xs.map c.enc))/\H'=H.set i (.cells (cs.set off .undef)):=by
 unfold db at h
 simp only[g_6]at h
 obtain⟨cs,h1,h2⟩:=h
 split at h2
 .rename_i n' ds hc
  split at h2
  .rename_i e
   subst e
   simp only[g_2,g_8]at h2
   obtain⟨ys,h3,rfl,rfl⟩:=h2
   have:=rF c _ _ h3
   exact⟨cs,lF h1,by rw[hc,this],rfl⟩
  .cases h2
 .cases h2
def GG{α:Type}{c:Cd α}{xs:List α}(h:cz n c H i off xs=some H'):
  ∃cs,H[i]? =some (.cells cs)/\off<cs.length/\H'=H.set i (.cells (cs.set off (.own n (xs.map c.enc)))):=by
 unfold cz at h
 simp only[g_6]at h
 obtain⟨cs,h1,h2⟩:=h
 split at h2
 .cases h2;exact⟨cs,lF h1,by assumption,rfl⟩
 .cases h2
section
variable {P:Program} {ops:Array Oper} {k:Nat} {st:St} {Q:St->Prop}
def MV(P:Program)(ops:Array Oper)(k:Nat)(st:St):Option (Nat×Nat×Nat×Hp):=
 match gu ops k st with
 |some o=>match o.op with
  |.load T x=>if(!(P.underlying T).isNone&&!fB P T&&st.tmps.all fF)=true then match o.dst,sN st x with
   |some d,some (i,off)=>some (d,i,off,st.H)
   |_,_=>none
   else none
  |_=>none
 |none=>none
def mE{α:Type}{c:Cd α}{xs:List α}(n:Nat)(L:List Nat)(l:List (Nat×SV))(hx:db n' c H0 i off=some (xs,H))(h:MV P ops k st=some (d,i,off,H0))
  (cG:bx n L ⟨(st.put (some d) (.own n' (xs.map c.enc))).tmps,H⟩=some (l,H)) (hn:bX P false ops (k+1) (sp n l H) Q):bX P false ops k st Q:=by
 unfold MV at h
 split at h
 .rename_i o ho
  split at h
  .rename_i T x hop
   split at h
   .rename_i hc
    simp only[g_3,k_3]at hc
    split at h
    .rename_i d' i' off' hd hp
     simp only[g_4,g_8]at h
     obtain⟨rfl,rfl,rfl,rfl⟩:=h
     obtain⟨g1,g2⟩:=bu ho
     obtain⟨cs,e1,e2,rfl⟩:=GB hx
     exact kd n _ L l g1 g2 (Jq hop hd hp hc.1.1 hc.1.2 e1 e2 hc.2) cG hn
    .cases h
   .cases h
  .cases h
 .cases h
def N1(P:Program)(ops:Array Oper)(k:Nat)(st:St):Option (Nat×Nat×Nat×Nat×List D×Hp):=
 match gu ops k st with
 |some o=>match o.op with
  |.store T x (.tmp s)=>if(!(P.underlying T).isNone&&P.cellsOf T==1&&st.tmps.all fF&&o.dst.isNone)=true then match sN st x,st.tmps[s]? with
   |some (i,off),some (.own n xs)=>some (s,i,off,n,xs,st.H)
   |_,_=>none
   else none
  |_=>none
 |none=>none
def tD{α:Type}{c:Cd α}{xs:List α}(n:Nat)(L:List Nat)(l:List (Nat×SV))(hx:cz n' c H0 i off xs=some H)(h:N1 P ops k st=some (s,i,off,n',xs.map c.enc,H0))
  (cG:bx n L ⟨(st.take s).tmps,H⟩=some (l,H)) (hn:bX P false ops (k+1) (sp n l H) Q):bX P false ops k st Q:=by
 unfold N1 at h
 split at h
 .rename_i o ho
  split at h
  .rename_i T x s' hop
   split at h
   .rename_i hc
    simp only[g_3,k_3,beq_iff_eq,m_3]at hc
    split at h
    .rename_i i' off' n1 ys hp hs
     simp only[g_4,g_8]at h
     obtain⟨rfl,rfl,rfl,rfl,rfl,rfl⟩:=h
     obtain⟨g1,g2⟩:=bu ho
     obtain⟨cs,e1,e2,rfl⟩:=GG hx
     exact kd n _ L l g1 g2 (Js hop hc.2 hp hs hc.1.1.1 hc.1.1.2 e1 e2 hc.1.2) cG hn
    .cases h
   .cases h
  .cases h
 .cases h
end
def Fw:Option Nat->Fence
 |none=>Fence.wide
 |some l=>Fence.wide.inRound l
def Ck(f:FuncId):(Fw r).fn f:=by cases r<;>trivial
def HW:(Fw r).depth=none:=by cases r<;>rfl
def HV:(Fw r).round=r:=by cases r<;>rfl
section
variable {P:Program} {ops:Array Oper} {st:St}
def BT{R:Ending->World->Prop}(h:Calls P f args w R):CallsIn (Fw r) n P f args w R:=by
 cases r with
 |none=>exact callsIn_wide.2 h
 |some l=>exact(callsIn_wide.2 h).inRound l
def Lj{R:Value->World->Prop}(h:Rows P row args w R):RowsIn (Fw r) n P row args w R:=by
 intro c cs _
 obtain⟨v,w',hR,hs⟩:=h c cs
 refine⟨v,w',hR,?_⟩
 cases r with
 |none=>exact stepsIn_wide.2 hs
 |some l=>exact stepsIn_wide.2 hs
def NX(X:Act->World->Prop):Exit->Act->World->Prop:=λe a w=>e=.normal/\X a w
def NX.out{X:Act->World->Prop}: ¬LetsOut (NX X):=λ⟨_,_,h,_⟩=>by cases h
def CR{r:Option Nat}{n:Nat}{o:Oper}{a:Act}{N:Act->World->Prop}{X:Act->World->Prop}{Q:Exit->Act->World->Prop}{x:Result Next}(h:o.upon P a N (NX X) x):o.uponIn (Fw r) n P a N Q x:=by
 have hdep:(Fw r).depth.isSome=true->1<=n:=λh=>by rw[HW]at h;cases h
 cases x with
 |ok nx w'=>
  cases nx<;>simp only[Oper.upon]at h<;>simp only[Oper.uponIn]<;>first
   |exact h
   |exact h.elim
   |(refine⟨hdep,BT (h.mono λe w'' hh=>?_)⟩
     cases e with
     |returned v=>exact hh
     |panicked ch=>cases hh.1
     |outgrown=>exact absurd hh NX.out)
   |exact⟨hdep,Lj h⟩
 |halt hh w'=>cases hh<;>simp only[Oper.upon]at h<;>first|exact h.elim|cases h.1
def nA{X:Act->World->Prop}{Q:Exit->Act->World->Prop}(hX: ∀a w,X a w->wpListIn (Fw r) n P ops' Q rest a w):
  ∀(l:List Oper) (a:Act) (w:World),(∀o∈l,∀c,o.op≠.defer c)->(∀o∈l,∀j b,o.guard=some (j,b)->ops'[j]? =ops[j]?)->wpList P ops (NX X) l a w->wpListIn (Fw r) n P ops' Q (l++rest) a w
 |[],a,w,_,_,h=>hX a w h.2
 |o::l,a,w,hd,hg,h=>by
  have e:Region.wanted o (yielded ops' a.tmps)=Region.wanted o (yielded ops a.tmps):=by
   unfold Region.wanted
   cases ho:o.guard with
   |none=>rfl
   |some p=>
    obtain⟨j,b⟩:=p
    simp only[yielded,hg o q_3 j b ho]
  rw[m_6]
  unfold wpList at h
  unfold wpListIn
  rw[e]
  split
  .rename_i hw
   rw[if_pos hw]at h
   rcases h with h|h
   .refine⟨λf _=>Ck f,?_⟩
    rw[HV,Oper.semAt_eq r a.eval o (hd o q_3)]
    exact CR (Oper.wp_mono (K':=wpListIn (Fw r) n P ops' Q (l++rest)) (λa' w' hh=>nA hX l a' w' (λo ho=>hd o (k_8 _ ho)) (λo ho=>hg o (k_8 _ ho)) hh) h)
   .exact absurd h.2 NX.out
  .rename_i hw
   rw[if_neg hw]at h
   exact⟨λf _=>Ck f,nA hX l _ w (λo ho=>hd o (k_8 _ ho)) (λo ho=>hg o (k_8 _ ho)) h⟩
def fT(l:List Oper):Bool:=l.all λo=>match o.op with|.defer _=>false|_=>true
def jX(h:fT l=true): ∀o∈l,∀c,o.op≠.defer c:=λo ho c e=>by
 have:=h_2.1 h o ho
 rw[e]at this
 cases this
def Ig{r:Option Nat}{n id:Nat}{K:St->Prop}{Q:Exit->Act->World->Prop}{a:Act}{w:World}{g:Gh}(hd:fT ops.toList=true)(h:bX P false ops 0 st K)(hr:Rel st a w g)
  (hq: ∀st' a' w' g',K st'->Rel st' a' w' g'->Fr false g w g' w'->Q .normal a' w'):(Code.region id ops false).wpIn (Fw r) n P Q a w:=by
 refine wpIn_region_list ?_
 unfold bX at h
 rw[q_5]at h
 have h1:=h a w g hr (NX (Q .normal)) (λst' a' w' g' q r f=>⟨rfl,hq st' a' w' g' q r f⟩)
 have:=nA (r:=r) (n:=n) (ops':=ops) (Q:=Q) (rest:=[]) (λa w h=>wpListIn_nil h) ops.toList a w (jX hd) (λ_ _ _ _ _=>rfl) h1
 rwa [m_1]at this
def Mz(C:Gh->World->Prop):Prop:= ∀g w g' w',C g w->Fr false g w g' w'->C g' w'
def YB(P:Program)(C:Gh->World->Prop)(l:Nat)(args:List SV)(H H':List aT):Prop:=
 ∀(w:World) (g:Gh) (vs:Array Value),C g w->kh g w vs args->RH g w H-> ∃fn tmps assign body,(Instr.yield l vs).run P w=.ok (.round l fn tmps assign body) w/\
  ∀n,RoundIn Fence.wide n P l fn tmps assign body w λe w'=>e=.returned (.bool true)/\ ∃g',RH g' w' H'/\Fr false g w g' w'/\ ∀o,lZ o=false->aS o g w g' w'
variable {C:Gh->World->Prop} {Q:Exit->St->Prop}
end
section
variable {P:Program} {st:St}
def Fx: ¬ki t s .out:=by
 intro h
 cases s<;>simp[ki]at h
def Rel.outside(h:Rel st a w g)(hl:g.ow l=.out)(hw: ∀k,k≠l->w'.heap[k]? =w.heap[k]?):Rel st a w' g:=by
 have hk: ∀o,o≠.out->aS o g w g w':=λo ho k b h1 h2=>⟨h1,φ⟩
 refine bg h h.len h.ei (λ_ _ h=>h) (λt s hs=>.inr (.inr ⟨hs,rfl,λo' ho'=>hk o' (λe=>by subst e;exact Fx ho'),λs0 e=>⟨rfl,λx hx hb=>⟨x,hx,rfl⟩⟩⟩)) ?_
 exact h.hp.bo (λo ho=>hk o (λe=>by subst e;exact ho)) (λ_ _ h=>h) rfl
def bU{w:World}{l k:Nat}{o:Obj}(h:k≠l):(w.putObj l o).heap[k]? =w.heap[k]? :=World.putObj_heap_other h
def Mg(P:Program)(r:Option Nat)(c:Code)(st:St)(K:St->Prop):Prop:=
 ∀n a w g,Rel st a w g->c.wpIn (Fw r) n P (λe a' w'=>e=.normal/\ ∃st' g',K st'/\Rel st' a' w' g'/\Fr false g w g' w') a w
variable {r:Option Nat} {K:St->Prop}
def lK{ops:Array Oper}{id:Nat}(hd:fT ops.toList=true)(h:bX P false ops 0 st K):Mg P r (.region id ops false) st K:=
 λn a w g hr=>Ig hd h hr λst' a' w' g' q r f=>⟨rfl,st',g',q,r,f⟩
def Jn{id:Nat}{c:Code}(h:Mg P r c st K):Mg P r (.block id c) st K:=λn a w g hr=>
 wpIn_block (Code.wpIn_mono (λe a' w' hh=>by obtain⟨rfl,hh⟩:=hh;exact⟨rfl,hh⟩) (h n a w g hr))
def tH(l:Nat)(R:Loop)(ds:List (Nat×D))(g:Gh)(w:World):Prop:=
 w.heap[l]? =some (.loop R)/\g.ow l=.out/\ ∀t d,(t,d)∈ds->Rd g w (R.tmps.getD t undef) d
def tH.fr:Mz (tH l R ds):=λg w g' w' h f=>
 ⟨(f.out l _ h.2.1 h.1).2,(f.out l _ h.2.1 h.1).1,λt d hd=>(h.2.2 t d hd).bo f.free f.so⟩
def EU{l tp:Nat}{R:Loop}{ds:List (Nat×D)}{y:D}{H H':List aT}{s0:St}(cG:R.state=.ready)(hpe:R.pending=none)(hps:R.params= #[tp])(hH:s0.H=H)(hlen:s0.tmps.length=R.tmps.size)
  (hs0: ∀t s,s0.tmps[t]? =some s->s=.undef\/ ∃d,s=.d d/\((t=tp/\d=y)\/(t≠tp/\(t,d)∈ds)))
  (h:Mg P (some l) R.assign s0 (λs1=>Mg P (some l) R.body s1 (λs2=>s2.H=H'))):YB P (tH l R ds) l [.d y] H H':=by
 intro w g vs hC hRA hRH
 obtain⟨hl1,hl2,hl3⟩:=hC
 obtain⟨hv1,hv2⟩:=hRA
 obtain⟨v,hv3,hv4⟩:=hv2 0 (.d y) rfl
 have hvs:vs= #[v]:=by
  grind
 subst hvs
 have hv4:Rd g w v y:=hv4
 refine⟨R.fn,R.tmps.setIfInBounds tp v,R.assign,R.body,?_,λn=>?_⟩
 .rw[run_yield hl1 (by rw[hps];rfl),hps]
  simp
 .have hrel:Rel s0 {tmps:=R.tmps.setIfInBounds tp v,defers:=[]} w (g.br (aE [] [])):=by
   refine⟨by simp[hlen],rfl,λt s hs=>?_,?_⟩
   .rcases hs0 t s hs with rfl|⟨d,rfl,h|⟨h1,h2⟩⟩
    .trivial
    .obtain⟨rfl,rfl⟩:=h
     have hlt:t<R.tmps.size:=by rw[<-hlen];exact aX hs
     have:valOf {tmps:=R.tmps.setIfInBounds t v,defers:=[]} t=v:=by
      simp[valOf,k_4,hlt]
     rw[this]
     exact hv4.bo (aS.br rfl) (λ_ _ h=>h)
    .have:valOf {tmps:=R.tmps.setIfInBounds tp v,defers:=[]} t=R.tmps.getD t undef:=by
      simp[valOf,k_4,Array.getElem?_setIfInBounds,j_4 h1]
     rw[this]
     exact(hl3 t d h2).bo (aS.br rfl) (λ_ _ h=>h)
   .rw[hH]
    exact hRH.bo (λo' ho'=>aS.br (by
     cases o'<;>simp only[kA]at ho'<;>try rfl
     rename_i l
     cases l<;>simp only[kA]at ho'
     rfl)) (λ_ _ h=>h) rfl
  have hgl:(g.br (aE [] [])).ow l=.out:=by simp[Gh.br,hl2,aE]
  refine roundIn_of_wpIn (F:=Fence.wide) trivial (Code.wpIn_mono (λe a1 w1 hh=>?_) (h n _ w _ hrel))
  obtain⟨rfl,kE,g1,q1,r1,f1⟩:=hh
  obtain⟨k1,k2⟩:=f1.out l _ hgl hl1
  refine⟨_,run_beginRound k2 cG,?_⟩
  have r2:=r1.outside (w':=w1.putObj l (.loop {R with state:=.busy})) k1 (λk hk=>bU hk)
  refine Code.wpIn_mono (λe a3 w3 hh=>?_) (q1 n a1 _ g1 r2)
  obtain⟨rfl,st3,g3,q3,r3,f3⟩:=hh
  have hbusy:(w1.putObj l (.loop {R with state:=.busy})).heap[l]? =some (.loop {R with state:=.busy}):=World.putObj_heap_same (k_5.1 k2).1
  obtain⟨m1,m2⟩:=f3.out l _ k1 hbusy
  refine⟨_,_,run_endRound none m2,rfl,?_⟩
  have hR:({{R with state:=.busy}with state:=if(none:Option Code).isNone then .ready else .done,pending:=none}:Loop)=R:=by
   simp[<-cG,<-hpe]
  rw[hR]
  have r4:=r3.outside (w':=w3.putObj l (.loop R)) m1 (λk hk=>bU hk)
  have hl4:(w3.putObj l (.loop R)).heap[l]? =some (.loop R):=World.putObj_heap_same (k_5.1 m2).1
  have hback: ∀{o:Own},aS o (g.br (aE [] [])) w g1 w1->aS o g1 (w1.putObj l (.loop {R with state:=.busy})) g3 w3->aS o (g.br (aE [] [])) w g3 (w3.putObj l (.loop R)):=λ{o} ha hb k b e1 e2=>by
   obtain⟨x1,x2⟩:=ha k b e1 e2
   by_cases hk:k=l
   .grind
   .obtain⟨y1,y2⟩:=hb k b x1 (by rw[bU hk];exact x2)
    exact⟨y1,by rw[bU hk];exact y2⟩
  have hfr:Fr false (g.br (aE [] [])) w g3 (w3.putObj l (.loop R)):=by
   refine⟨?_,hback f1.free f3.free,hback f1.out f3.out,λi k h=>f3.so i k (f1.so i k h),nofun,nofun,nofun,?_⟩
   .have h1:=f1.size
    have h2:=f3.size
    simp only[World.putObj,Array.size_setIfInBounds]at h2 ⊢
    omega
   .exact f1.os.trans f3.os
  have hRH3:RH g3 (w3.putObj l (.loop R)) H':=by rw[<-q3];exact r4.hp
  obtain⟨p1,p2⟩:=pr 0 hfr hRH3
  exact⟨_,p2,p1,λo ho=>Dh (t:=0) hfr ho⟩
end
section
variable {P:Program} {st:St} {C:Gh->World->Prop} {Q:Exit->St->Prop} {ops:Array Oper} {m:Nat} {K:St->Prop}
def DZ{Qc:Exit->Act->World->Prop}(hd:fT ops.toList=true)(h:bX P false ops k st K)(hr:Rel st a w g)
  (hq: ∀st' a' w' g',K st'->Rel st' a' w' g'->Fr false g w g' w'->Qc .normal a' w'):wpListIn Fence.wide n P ops Qc (ops.toList.drop k) a w:=by
 have h1:=h a w g hr (NX (Qc .normal)) (λst' a' w' g' q r f=>⟨rfl,hq st' a' w' g' q r f⟩)
 have:=nA (r:=none) (n:=n) (ops':=ops) (Q:=Qc) (rest:=[]) (λa w h=>wpListIn_nil h) (ops.toList.drop k) a w (λo ho=>jX hd o (w_4 ho)) (λ_ _ _ _ _=>rfl) h1
 rwa [m_1]at this
def UC(P:Program)(ops:Array Oper)(k:Nat)(st:St):Option (Option Tmp×Nat×D):=
 match gu ops k st with
 |some o=>match o.op with
  |.call c=>match c.callee,c.args.toList with
   |.value fo,[x]=>match cu st fo,cu st x with
    |some (.fn (.yield l) [] []),some d=>some (o.dst,l,d)
    |_,_=>none
   |_,_=>none
  |_=>none
 |none=>none
end
def sS(r:Nat):Deferred:={target:=.collected r,args:= #[]}
def Mk(n:Nat)(ds:List Deferred)(g:Gh)(w:World):Prop:= ∃rs:List Nat,ds=rs.map sS/\rs.Nodup/\(∀r∈rs,n<=r)/\ ∀r∈rs,w.heap[r]? =some (.deferred (some []))/\g.ow r=.out
def Mk.nil:Mk n [] g w:=⟨[],rfl,List.nodup_nil,(λ_ h=>by cases h),λ_ h=>by cases h⟩
def Mk.le(h:Mk n' ds g w)(hn:n<=n'):Mk n ds g w:=let⟨rs,a,b,c,d⟩:=h;⟨rs,a,b,λr hr=>v_2 hn (c r hr),d⟩
def Mk.fr(h:Mk n ds g w)(f:Fr false g w g' w'):Mk n ds g' w':=by
 obtain⟨rs,h1,h2,h0,h3⟩:=h
 exact⟨rs,h1,h2,h0,λr hr=>⟨(f.out r _ (h3 r hr).2 (h3 r hr).1).2,(f.out r _ (h3 r hr).2 (h3 r hr).1).1⟩⟩
section
variable {P:Program} {st:St} {Q:Exit->St->Prop}
def tw(P:Program)(c:Code)(st:St)(Q:Exit->St->Prop):Prop:=
 ∀a w g,Rel st a w g->c.wp P (λe a' w'=> ∃ds a0 st' g',Mk w.heap.size ds g' w'/\a'=jI a0 ds/\Q e st'/\Rel st' a0 w' g'/\Fr false g w g' w') a w
def Lx(a:Act):jI a []=a:=by simp[jI]
def dz(h:SW P false x st (thenS (λs=>tw P y s Q) Q)):tw P (.seq x y) st Q:=by
 intro a w g hr
 refine wp_seq (Code.wp_mono (λe a' w' hh=>?_) (h a w g hr))
 obtain⟨st',g',q,r,f⟩:=hh
 cases e with
 |normal=>
  refine Code.wp_mono (λe2 a2 w2 hh2=>?_) (q a' w' g' r)
  obtain⟨ds,a0,jw,g2,m2,e2,q2,r2,f2⟩:=hh2
  exact⟨ds,a0,jw,g2,m2.le f.size,e2,q2,r2,f.trans f2⟩
 |_=>exact⟨[],a',st',g',.nil,(Lx a').symm,q,r,f⟩
def pA(h:tw P x st (thenS (λs=> ∀ds,Ps P ds y s Q) Q)):tw P (.seq x y) st Q:=by
 intro a w g hr
 refine wp_seq (Code.wp_mono (λe a' w' hh=>?_) (h a w g hr))
 obtain⟨ds,a0,st',g',m,rfl,q,r,f⟩:=hh
 cases e with
 |normal=>
  refine Code.wp_mono (λe2 a2 w2 hh2=>?_) (q ds a0 w' g' r)
  obtain⟨a1,jw,g2,e2,q2,r2,f2⟩:=hh2
  exact⟨ds,a1,jw,g2,m.fr f2,e2,q2,r2,f.trans f2⟩
 |_=>exact⟨ds,a0,st',g',m,rfl,q,r,f⟩
def nW{id:Nat}{c:Code}(h:tw P c st (nm id Q)):tw P (.block id c) st Q:=by
 intro a w g hr
 refine wp_block (Code.wp_mono (λe a' w' hh=>?_) (h a w g hr))
 obtain⟨ds,a0,st',g',m,e0,q,r,f⟩:=hh
 cases e with
 |exit id'=>
  simp only[nm]at q
  simp only[Exit.inBlock]
  grind
 |_=>exact⟨ds,a0,st',g',m,e0,q,r,f⟩
def tv(n:Nat)(H:List aT)(L:List Nat)(l:List (Nat×SV))(cG:bx n L st=some (l,H))(h:tw P c (sp n l H) Q):tw P c st Q:=
 λa w g hr=>h a w g (hr.bC (aO cG))
def xt(h:w.heap[r]? =some (.deferred (some []))):(Instr.takeDeferred r).run P w=.ok [] (w.putObj r (.deferred none)):=run_takeDeferred h
def HA(hf:P.funcs[f]? =some fn)(hb:fn.body=some c)
  (h:tw P c (ml fn.ntmps args H) (dp P fn.results.toList H' r)):SB P f args H (.ok (r,H')):=by
 intro w g vs ha hH
 refine callsIn_wide.1 (callsIn_of_wp_marks (n:=0) hf hb trivial ((wpIn_wide (n:=0)).2 (Code.wp_mono (λe a' w' hh=>?_) (h _ _ g (qO ha hH fn.ntmps)))))
 obtain⟨ds,a0,st',g',m,rfl,⟨he,l,h1,h2⟩,hr,hfr⟩:=hh
 obtain⟨rs,rfl,hnd,hbase,hrs⟩:=m
 have key: ∀(rs:List Nat) (w1:World),rs.Nodup->(∀r∈rs,w.heap.size<=r)->(∀r∈rs,w1.heap[r]? =some (.deferred (some []))/\g'.ow r=.out)->Rel (st'.k8 l) a0 w1 g'->aS .free g w g' w1->aS .out g w g' w1->w.heap.size<=w1.heap.size->fE w w1->
   LeavesInM Fence.wide 0 P fn a0.tmps (λe w'=> ∃v g',e=.returned v/\yo g' w' v r/\RH g' w' H'/\Fr false g w g' w') (rs.map sS) .returning w1:=by
  intro rs
  induction rs with
  |nil=>
   intro w1 _ _ _ hr1 k1 k2 k3 k4
   obtain⟨v,g5,e5,e6,e7,e8⟩:=RJ (pu:=false) hr1 (wN h1)
   have hH1:(st'.k8 l).H=H':=by rw[rP];exact h2
   rw[hH1]at e7
   have:Fr false g w g' w1:=⟨k3,k1,k2,hfr.so,nofun,nofun,nofun,k4⟩
   exact⟨v,e5,v,g5,rfl,e6,e7,this.trans e8⟩
  |cons r0 rs ih=>
   intro w1 hn hb0 hh hr1 k1 k2 k3 k4
   rw[List.nodup_cons]at hn
   obtain⟨t1,t2⟩:=hh r0 ψ
   have hb1:=hb0 r0 ψ
   refine⟨ψ,.inl ⟨r0,_,rfl,xt t1,?_⟩⟩
   have hne: ∀{k:Nat} {b:Obj},w.heap[k]? =some b->k≠r0:=λhk e=>by
    have:=Qk hk
    omega
   refine ih _ hn.2 (λr hr=>hb0 r (by simp[hr])) (λr hr=>⟨?_,(hh r (by simp[hr])).2⟩) (hr1.outside t2 (λk hk=>bU hk)) (λk b x1 x2=>?_) (λk b x1 x2=>?_) ?_ k4
   .have hne2:r≠r0:=λe=>hn.1 (by rw[<-e];exact hr)
    rw[bU hne2]
    exact(hh r (by simp[hr])).1
   .obtain⟨y1,y2⟩:=k1 k b x1 x2
    exact⟨y1,by rw[bU (hne x2)];exact y2⟩
   .obtain⟨y1,y2⟩:=k2 k b x1 x2
    exact⟨y1,by rw[bU (hne x2)];exact y2⟩
   .simpa[World.putObj]using k3
 have hds:(jI a0 (rs.map sS)).defers=rs.map sS:=by simp[jI,hr.ei]
 have fin:=key rs w' hnd hbase hrs hr.k8 hfr.free hfr.out hfr.size hfr.os
 rcases he with rfl|rfl
 .show LeavesInM Fence.wide 0 P fn _ _ (jI a0 (rs.map sS)).defers .returning w'
  rw[hds];exact fin
 .show LeavesInM Fence.wide 0 P fn _ _ (jI a0 (rs.map sS)).defers .returning w'
  rw[hds];exact fin
where
 Qk {w:World} {k:Nat} {b:Obj} (h:w.heap[k]? =some b):k<w.heap.size:=(k_5.1 h).1
end
def TK(P:Program)(C:Gh->World->Prop)(f:FuncId)(args:List SV)(H H':List aT):Prop:=
 ∀(w:World) (g:Gh) (vs:Array Value),C g w->kh g w vs args->RH g w H->Calls P f vs w λe w'=> ∃v g',e=.returned v/\RH g' w' H'/\Fr false g w g' w'
section
variable {P:Program} {st:St} {Q:Exit->St->Prop}
def E8(hg:cu st gop=some (.fn (.func f) [] caps))(hfn:Eu P f=true)(hn:st.tmps.all fF=true)
  (hds: ∀t d,(t,d)∈ds->st.tmps[t]? =some (.d d))
  (hf: ∀(l:Nat) (R:Loop),R.state=.ready->R.pending=none->R.params=ps->R.assign=assign->R.body=body->R.tmps.size=st.tmps.length->TK P (tH l R ds) f (.d (.fn (.yield l) [] [])::caps.map .d) st.H H')
  (hq:Q .normal ⟨st.tmps,H'⟩):tw P (.rangeFunc gop ps assign body) st Q:=by
 intro a w g hr
 refine(wpIn_wide (n:=0)).1 (wpIn_rangeFunc λfn _=>?_)
 let R:Loop:={state:=.ready,pending:=none,fn,tmps:=a.tmps,params:=ps,assign,body,defers:=w.heap.size}
 let w0:=w.alloc (.deferred (some []))
 let w1:=w0.alloc (.loop R)
 let g1:=(g.xk w.heap.size .out).xk w0.heap.size .out
 have hs0:w0.heap.size=w.heap.size+1:=by simp[w0]
 have hk: ∀o,aS o g w g1 w1:=λo=>(aS.alloc (t:=.out)).trans (aS.alloc (t:=.out))
 have hr1:Rel st a w1 g1:=hr.world hk (λ_ _ h=>h) rfl
 have hfr1:Fr false g w g1 w1:=⟨by simp[w1,w0];omega,hk _,hk _,λ_ _ h=>h,nofun,nofun,nofun,⟨rfl,rfl⟩⟩
 have hl1:w1.heap[w.heap.size+1]? =some (.loop R):=by rw[<-hs0];exact World.alloc_heap_new w0 _
 have hm1:w1.heap[w.heap.size]? =some (.deferred (some [])):=(aS.alloc (o':=.out) (g:=(g.xk w.heap.size .out)) (w:=w0) (o:=.loop R) (t:=.out) _ _ ψ (World.alloc_heap_new w _)).2
 have hgl:g1.ow (w.heap.size+1)=.out:=by rw[<-hs0];simp[g1]
 have hgm:g1.ow w.heap.size=.out:=by simp[g1,Gh.xk]
 have hrf:=cx hr1 hg
 obtain⟨vc,hev,lc,rc⟩: ∃vc:Array Value,a.eval gop=.func (.func f) #[] vc/\vc.size=caps.length/\(∀(j:Nat) (y:D),caps[j]? =some y-> ∃u,vc[j]? =some u/\Rd g1 w1 u y):=by
  generalize a.eval gop=v at hrf
  cases hrf with
  |fn hl1 hl2 us1 us2 hc1 hr1 hc2 hr2=>
   grind
 let yl:Value:=.func (.yield (w.heap.size+1)) #[] #[]
 refine⟨w.heap.size+1,[sS w.heap.size],w1,{target:=.fn (.func f) vc,args:= #[yl]},w1,f,#[yl]++vc,w1,run_enterLoop_outer _ _ _ _ _,?_,λ_ _=>trivial,?_,(λh=>nomatch h),?_⟩
 .simp only[resolve,rangeCall,hev,Deferred.ofValue,m_9,h_3,q_1]
  rfl
 .unfold Eu at hfn
  split at hfn
  .rename_i fn' hfn'
   simp only[g_3,bne_iff_ne]at hfn
   obtain⟨k1,k2⟩:=hfn
   have k2':fn'.body.isNone=false:=by simp_all
   simp only[invoke,callFunc,Sem.run_bind,run_program,Result.andThen_ok,hfn']
   rw[if_neg (by simpa using k1),k2']
   rfl
  .cases hfn
 .have kp: ∀{v:Value} {d:D},Rd g1 w1 v d->Rd (g1.br (aE [] [])) w1 v d:=λhr=>hr.bo (aS.br rfl) (λ_ _ h=>h)
  have hC:tH (w.heap.size+1) R ds (g1.br (aE [] [])) w1:=by
   refine⟨hl1,by simp[Gh.br,hgl,aE],λt d hd=>kp ?_⟩
   exact hr1.tmp t _ (hds t d hd)
  have hRA:kh (g1.br (aE [] [])) w1 (#[yl]++vc) (.d (.fn (.yield (w.heap.size+1)) [] [])::caps.map .d):=by
   refine⟨by simp[lc];omega,λj s hj=>?_⟩
   cases j with
   |zero=>
    simp only[j_5,g_4]at hj
    subst hj
    refine⟨yl,φ,?_⟩
    exact .fn rfl rfl (λ_=>undef) (λ_=>undef) (λj y hj=>by simp at hj) (λj y hj=>by simp at hj) (λj y hj=>by simp at hj) (λj y hj=>by simp at hj)
   |succ j=>
    simp only[m_0,h_0,g_2]at hj
    obtain⟨d,hd,rfl⟩:=hj
    obtain⟨u,e1,e2⟩:=rc j d hd
    refine⟨u,?_,kp e2⟩
    grind
  have hRH:RH (g1.br (aE [] [])) w1 st.H:=hr1.hp.bo (λo' ho'=>aS.br (by
   cases o'<;>simp only[kA]at ho'<;>try rfl
   rename_i l
   cases l<;>simp only[kA]at ho'
   rfl)) (λ_ _ h=>h) rfl
  refine callsIn_wide.2 ((hf (w.heap.size+1) R rfl rfl rfl rfl rfl hr.len w1 _ _ hC hRA hRH).mono λe w3 hh=>?_)
  obtain⟨v,g3,rfl,hH3,hf3⟩:=hh
  obtain⟨p1,p2⟩:=pr 0 hf3 hH3
  have hrel3:=hr1.Ou 0 hf3 hH3 hn
  obtain⟨q1,q2⟩:=p1.out _ _ hgl hl1
  obtain⟨m1,m2⟩:=p1.out _ _ hgm hm1
  refine⟨none,_,run_endLoop q2 (by simp[R]),?_⟩
  have hrel4:=hrel3.outside (w':=w3.putObj (w.heap.size+1) (.loop {R with state:=.exhausted})) q1 (λk hk=>bU hk)
  refine⟨[sS w.heap.size],a,⟨st.tmps,H'⟩,_,⟨[w.heap.size],rfl,ψ,ψ,λr hr'=>?_⟩,?_,hq,hrel4,?_⟩
  .simp only[w_1]at hr'
   subst hr'
   exact⟨by rw[bU ω];exact m2,m1⟩
  .simp[jI,hr.ei]
  .have hne: ∀{k:Nat} {b:Obj},w.heap[k]? =some b->k≠w.heap.size+1:=λhk e=>by
    grind
   have f13:=hfr1.trans p1
   refine⟨?_,λk b x1 x2=>?_,λk b x1 x2=>?_,f13.so,nofun,nofun,nofun,f13.os⟩
   .have:=f13.size
    simpa[World.putObj]using this
   .obtain⟨y1,y2⟩:=f13.free k b x1 x2
    exact⟨y1,by rw[bU (hne x2)];exact y2⟩
   .obtain⟨y1,y2⟩:=f13.out k b x1 x2
    exact⟨y1,by rw[bU (hne x2)];exact y2⟩
end
def RG:SV->SV
 |.own n xs=>.d (.list n xs)
 |.mI _ _ _=>.undef
 |s=>s
section
variable {P:Program} {st:St} {ds:List Deferred} {Q:Exit->St->Prop}
def Rel.unbox(hr:Rel st a w g)(ht:st.tmps[t]? =some (.d (.ptr i 0)))(hi:st.H[i]? =some (.cells cs))(hn:st.tmps.all fF=true):
  ∃g',Rel ⟨(st.set t (.box (cs.map RG))).tmps,st.H.set i .hole⟩ a w g'/\Fr false g w g' w:=by
 let rn:Own->Own:=λo=>match o with
  |.obj j=>if j=i then .box t else .obj j
  |.bR (.az j c)=>if j=i then .free else .bR (.az j c)
  |o=>o
 have hk: ∀o,(∀j,o=.obj j->j≠i)->(∀j c,o=.bR (.az j c)->j≠i)->aS o g w (g.br rn) w:=λo h1 h2=>aS.br (by
  grind)
 have hf:aS .free g w (g.br rn) w:=hk _ ψ ψ
 have hout:aS .out g w (g.br rn) w:=hk _ ψ ψ
 refine⟨g.br rn,?_,g_9 _,hf,hout,λ_ _ h=>h,nofun,nofun,nofun,⟨rfl,rfl⟩⟩
 obtain⟨k,c,T,f1,f2,f3,f4,f5⟩:=hr.hp.2 i _ hi
 refine bg hr (by simp[St.set,hr.len]) hr.ei (λ_ _ h=>h) (λt' s hs=>?_) ⟨by simp[Gh.br,hr.hp.1],λi' o' hi'=>?_⟩
 .by_cases e:t=t'
  .subst e
   simp only[St.set]at hs
   rw[g_0 (aX ht)]at hs
   cases hs
   refine .inr (.inl ?_)
   have hv:Rd g w (valOf a t) (.ptr i 0):=hr.tmp t _ ht
   have hv2:valOf a t=.pointer (some ⟨k,0,Option.none⟩):=by
    generalize valOf a t=v at hv
    cases hv with
    |ptr h=>rw[f1]at h;cases h;rfl
   refine⟨k,c,T,hv2,by simp[Gh.br,f2,rn],f3,by simp[f4],λj s hj=>?_⟩
   simp only[h_0,g_2]at hj
   obtain⟨s0,hj0,rfl⟩:=hj
   obtain⟨u,u1,u2,u3⟩:=f5 j s0 hj0
   refine⟨u,u1,?_,u3⟩
   cases s0 with
   |d x=>exact(show Rd g w u x from u2).bo hf (λ_ _ h=>h)
   |own n xs=>exact eX.free (l:=.az i j) rfl (by simp[rn]) (eN u2)
   |mI v0 n xs=>trivial
   |undef=>trivial
   |_=>exact u2.elim
  .simp only[St.set]at hs
   rw[g_1 e]at hs
   have hnh:fF s=true:=h_2.1 hn s (h_4.2 ⟨t',hs⟩)
   refine .inr (.inr ⟨hs,rfl,λo' ho'=>hk o' (λj e2=>?_) (λj c e2=>?_),λs0 e0=>⟨rfl,λx hx hb=>⟨x,?_,rfl⟩⟩⟩)
   .subst e2;exact absurd ho' oV
   .subst e2;exact absurd ho' (oW hnh)
   .have hne:t≠s0:=λe3=>by
     subst e3
     rw[ht]at hx
     cases hx
     obtain⟨y,hy,hb0⟩:=mr (hr.tmp t' _ hs) e0
     rw[ht]at hy
     cases hy
     simp[gp]at hb0
    show((st.set t _).tmps)[s0]? =some x
    simp only[St.set]
    grind
 .simp only at hi'
  by_cases e:i=i'
  .subst e
   rw[g_0 (aX hi)]at hi'
   cases hi'
   trivial
  .rw[g_1 e]at hi'
   exact(hr.hp.2 i' o' hi').ph hf (hk _ (λj e2=>by cases e2;exact j_4 e) ψ) (λj=>hk _ ψ (λj' c e2=>by cases e2;exact j_4 e)) (λ_ _ h=>h)
end
section
variable {P:Program} {st:St} {ds:List Deferred} {Q:Exit->St->Prop}
def MO(st:St)(t:Nat):Option St:=match st.tmps[t]? with
 |some (.d (.ptr i 0))=>match st.H[i]? with
  |some (.cells cs)=>if st.tmps.all fF=true then some ⟨(st.set t (.box (cs.map RG))).tmps,st.H.set i .hole⟩else none
  |_=>none
 |_=>none
end
section
variable {P:Program} {st:St} {Q:Exit->St->Prop}
def QF{K:St->Prop}(n:Nat)(H:List aT)(L:List Nat)(l:List (Nat×SV))(cG:bx n L st=some (l,H))(h:Mg P r c (sp n l H) K):Mg P r c st K:=
 λm a w g hr=>h m a w g (hr.bC (aO cG))
end
end Go.Sh
