/- TreeDamage holds for every input. -/
import Derived.Test.YtmhiemakdfkmeaaGreatH1
import Derived.Test.YtmhiemakdfkmeaaGreatRows
set_option linter.all false
set_option autoImplicit true
set_option relaxedAutoImplicit true
set_option maxRecDepth 100000
namespace Go.Sh
open Go.Proofs
def Sr{a:Int}(h:(Lit.int .i64 a).wf=true):i64 a:=by
 have e:(Lit.int .i64 a).wf=(decide (-9223372036854775808<=a)&&decide (a<=9223372036854775807)):=rfl
 rw[e]at h
 simp only[Bool.and_eq_true,decide_eq_true_eq]at h
 unfold i64
 omega
def LP(x:az):Prop:=(∀y∈x.aG,(Lit.int .i64 y).wf=true)/\(∀y∈x.Down,True)/\(Lit.int .i64 x.eD).wf=true
def IV{W:World}:xf Tryz.prog W 25 3 cD LP:=⟨λ_=>rfl,κ,λhx=>by
 obtain⟨a0,k0,e0⟩:=Cy (j:=0) (tj:=22) (oj:=0) κ (xf.list (t:=22) (xf.int (t:=3) (k:=.i64) κ κ) (by decide) κ κ) hx
 obtain⟨a1,k1,e1⟩:=Cy (j:=1) (tj:=23) (oj:=1) κ (xf.list (t:=23) (xf.bool (t:=4) κ κ) (by decide) κ κ) hx
 obtain⟨a2,k2,e2⟩:=Cy (j:=2) (tj:=3) (oj:=2) κ (xf.int (t:=3) (k:=.i64) κ κ) hx
 refine⟨⟨a0,a1,a2⟩,⟨k0,k1,k2⟩,λj y hj=>?_⟩
 match j,hj with
 |0,hj=>exact e0 0 _ hj
 |1,hj=>exact e1 0 _ hj
 |2,hj=>exact e2 0 _ hj
 |j+3,hj=>simp[cD,Go.Sh.D.cells]at hj⟩
def Ey(x:Value):Prop:=(Lit.int .i64 x.Kind).wf=true/\(Lit.int .i64 x.N).wf=true/\True
def Gj{W:World}:xf Tryz.prog W 71 3 ay Ey:=⟨λ_=>rfl,κ,λhx=>by
 obtain⟨a0,k0,e0⟩:=Cy (j:=0) (tj:=3) (oj:=0) κ (xf.int (t:=3) (k:=.i64) κ κ) hx
 obtain⟨a1,k1,e1⟩:=Cy (j:=1) (tj:=3) (oj:=1) κ (xf.int (t:=3) (k:=.i64) κ κ) hx
 obtain⟨a2,k2,e2⟩:=Cy (j:=2) (tj:=9) (oj:=2) κ (xf.str (t:=9) κ κ) hx
 refine⟨⟨a0,a1,a2⟩,⟨k0,k1,k2⟩,λj y hj=>?_⟩
 match j,hj with
 |0,hj=>exact e0 0 _ hj
 |1,hj=>exact e1 0 _ hj
 |2,hj=>exact e2 0 _ hj
 |j+3,hj=>simp[ay,Go.Sh.D.cells]at hj⟩
def TD(x:Act):Prop:=(Lit.int .i64 x.Kind).wf=true/\(Lit.int .i64 x.Key).wf=true/\(∀y∈x.Row,Ey y)/\(∀y∈x.yg,Ey y)
def Sc{W:World}:xf Tryz.prog W 67 4 ld TD:=⟨λ_=>rfl,κ,λhx=>by
 obtain⟨a0,k0,e0⟩:=Cy (j:=0) (tj:=3) (oj:=0) κ (xf.int (t:=3) (k:=.i64) κ κ) hx
 obtain⟨a1,k1,e1⟩:=Cy (j:=1) (tj:=3) (oj:=1) κ (xf.int (t:=3) (k:=.i64) κ κ) hx
 obtain⟨a2,k2,e2⟩:=Cy (j:=2) (tj:=43) (oj:=2) κ (xf.list (t:=43) Gj (by decide) κ κ) hx
 obtain⟨a3,k3,e3⟩:=Cy (j:=3) (tj:=43) (oj:=3) κ (xf.list (t:=43) Gj (by decide) κ κ) hx
 refine⟨⟨a0,a1,a2,a3⟩,⟨k0,k1,k2,k3⟩,λj y hj=>?_⟩
 match j,hj with
 |0,hj=>exact e0 0 _ hj
 |1,hj=>exact e1 0 _ hj
 |2,hj=>exact e2 0 _ hj
 |3,hj=>exact e3 0 _ hj
 |j+4,hj=>simp[ld,Go.Sh.D.cells]at hj⟩
end Go.Sh
namespace Go.Proofs
open Go.Sh Go.ChangeShapes Go.WideShapes Go.ChangeAt Go.RowKit Go.Proofs.YtmhiemakdfkmeaaGreat
def UJ:ownKnob Tryz.prog.godebug=none:=by kernel_rfl
def Rx:laidOutB Tryz.prog=true:=by kernel_rfl
def Tx:Tryz.prog.readableRec 25=true:=by kernel_rfl
def u3:Tryz.prog.underlying 3=some (.int .i64):=by kernel_rfl
def Tw:Tryz.prog.readableRec 26=true:=by kernel_rfl
def u4:Tryz.prog.underlying 4=some .bool:=by kernel_rfl
def Kl:Tryz.f5.params= #[25,3,26,3,3,3,3]:=by kernel_rfl
def Mn(H:Type)(enc:TypeId×Value->H)(W:World)(base:Nat)(args:Array Value)(ds gs:List (DataW H))(before:List MemPlace)
  (hval: ∀(j:Nat) t v,Tryz.f5.params[j]? =some t->args[j]? =some v->Value.okWide Tryz.prog W .any base t v)
  (hW:DataW.Whole enc Tryz.prog Tryz.f5.params.toList Rows.treeDamageSpec.vars false W args.toList ds gs before):
  Calls Tryz.prog 5 args W λe W'=> ∃v,e=.returned v/\Rows.treeDamageSpec.post enc Tryz.prog Tryz.f5 false true false false W args v W':=by
 have hW':=hW
 obtain⟨p,q,hA0,hV,rfl,hfz,hnd⟩:=hW
 have hA:DataW.TrodAll enc Tryz.prog W 0 (λ_=>true) true Tryz.f5.params.toList args.toList ds p:=hA0
 rw[Kl]at hA hval
 obtain⟨v0,vs0,d0,ds0,p0,q0,hargs,rfl,rfl,h0,r0⟩:=trodAll_cons hA
 obtain⟨v1,vs1,d1,ds1,p1,q1,rfl,rfl,rfl,h1,r1⟩:=trodAll_cons r0
 obtain⟨v2,vs2,d2,ds2,p2,q2,rfl,rfl,rfl,h2,r2⟩:=trodAll_cons r1
 obtain⟨v3,vs3,d3,ds3,p3,q3,rfl,rfl,rfl,h3,r3⟩:=trodAll_cons r2
 obtain⟨v4,vs4,d4,ds4,p4,q4,rfl,rfl,rfl,h4,r4⟩:=trodAll_cons r3
 obtain⟨v5,vs5,d5,ds5,p5,q5,rfl,rfl,rfl,h5,r5⟩:=trodAll_cons r4
 obtain⟨v6,vs6,d6,ds6,p6,q6,rfl,rfl,rfl,h6,r6⟩:=trodAll_cons r5
 obtain⟨rfl,rfl,rfl⟩:=trodAll_nil r6
 obtain rfl:args= #[v0,v1,v2,v3,v4,v5,v6]:=by cases args;simp_all
 obtain⟨rfl,rfl⟩:=trodVars_none hV
 obtain⟨a0,k0,hs0⟩:=zI IV κ (λ_=>rfl) (hval 0 25 v0 rfl rfl) h0
 obtain⟨a1,rfl,rfl,rfl,k1⟩:=open_int u3 (hval 1 3 v1 rfl rfl) h1
 obtain⟨a2,k2,hs2⟩:=CO (xf.list (t:=26) Sc (by decide) κ κ) κ (λ_=>rfl) (hval 2 26 v2 rfl rfl) h2
 obtain⟨a3,rfl,rfl,rfl,k3⟩:=open_int u3 (hval 3 3 v3 rfl rfl) h3
 obtain⟨a4,rfl,rfl,rfl,k4⟩:=open_int u3 (hval 4 3 v4 rfl rfl) h4
 obtain⟨a5,rfl,rfl,rfl,k5⟩:=open_int u3 (hval 5 3 v5 rfl rfl) h5
 obtain⟨a6,rfl,rfl,rfl,k6⟩:=open_int u3 (hval 6 3 v6 rfl rfl) h6
 obtain⟨N,hN⟩:=Cr a0 a1 a2 a3 a4 a5 a6 (Sr k6)
 have hpc:=zD (hN N (Nat.le_refl _)) [] W g0 #[v0,.int .i64 a1,v2,.int .i64 a3,.int .i64 a4,.int .i64 a5,.int .i64 a6] (by
  refine⟨rfl,λj sv hj=>?_⟩
  match j,hj with
  |0,hj=>cases hj;exact⟨_,rfl,hs0⟩
  |1,hj=>cases hj;exact⟨_,rfl,(.int:Rd g0 W _ _)⟩
  |2,hj=>cases hj;exact⟨_,rfl,hs2⟩
  |3,hj=>cases hj;exact⟨_,rfl,(.int:Rd g0 W _ _)⟩
  |4,hj=>cases hj;exact⟨_,rfl,(.int:Rd g0 W _ _)⟩
  |5,hj=>cases hj;exact⟨_,rfl,(.int:Rd g0 W _ _)⟩
  |6,hj=>cases hj;exact⟨_,rfl,(.int:Rd g0 W _ _)⟩
  |j+7,hj=>simp at hj) ⟨rfl,λi o hi=>by simp at hi⟩
 refine hpc.mono λe W' hh=>?_
 obtain⟨v,g',rfl,hres,-,hf⟩:=hh
 have hb:v=.bool true:=by
  have:Rd g' W' v (.bool true):=hres
  cases this;rfl
 subst hb
 have hlt:=hW'.lt
 refine⟨_,rfl,LN (pa:=(p0++([]++(p2++([]++([]++([]++([]++[])))))))) (pv:=[]) hW' (λ_ _ _=>(trodAll_cons_mk (shut_bool u4 _) trodAll_mk0)) (λsp hsp=>?_) (λ_ _=>rfl) rfl (hf.kept _) (λx hx=>hf.fz hx) (ok_one κ rfl (okWide_bool_mk u4 _))⟩
 have m0: ∀x∈p0,x∈(p0++([]++(p2++([]++([]++([]++([]++[])))))))++([]:List MemPlace):=λx hx=>by simp[hx]
 have m2: ∀x∈p2,x∈(p0++([]++(p2++([]++([]++([]++([]++[])))))))++([]:List MemPlace):=λx hx=>by simp[hx]
 show DataW.TrodAll enc Tryz.prog W' 0 sp true Tryz.f5.params.toList _ _ _
 rw[Kl]
 refine trodAll_cons_mk (WideElems.Trod_stays Rx Tx (of_decide_eq_true κ) h0 (λx hx=>hf.same (hlt x (m0 x hx))) (λx hx=>hsp x (m0 x hx))) ?_
 refine trodAll_cons_mk (shut_int u3 k1) ?_
 refine trodAll_cons_mk (WideElems.Trod_stays Rx Tw (of_decide_eq_true κ) h2 (λx hx=>hf.same (hlt x (m2 x hx))) (λx hx=>hsp x (m2 x hx))) ?_
 refine trodAll_cons_mk (shut_int u3 k3) ?_
 refine trodAll_cons_mk (shut_int u3 k4) ?_
 refine trodAll_cons_mk (shut_int u3 k5) ?_
 exact trodAll_cons_mk (shut_int u3 k6) trodAll_mk0
def Qx(os:Os)(started:os.Started)(H:Type)(enc:TypeId×Value->H):
  ReturnsInHanded {} Tryz.checked os 5 .any (Rows.treeDamageSpec.pre6 enc Tryz.prog Tryz.f5 Rows.treeDamageRow.domain false) (Rows.treeDamageSpec.post enc Tryz.prog Tryz.f5 false true false false):=by
 refine returnsInHanded_of_change (C:=Tryz.checked) UJ started κ Tryz.func5
  (ChangeSpec.witness6 (enc:=enc) (C:=Tryz.checked) false ⟨#[],#[.agg #[.slice none 0 0,.slice none 0 0,.int .i64 0],.int .i64 0,.slice none 0 0,.int .i64 0,.int .i64 0,.int .i64 0,.int .i64 0],[]⟩ 8 κ κ κ κ κ) ?_
 intro W base args ds gs before hval hW _ _
 exact Mn H enc W base args ds gs before hval hW
def YtmhiemakdfkmeaaGreat.treeDamage_holds:Rows.TreeDamageSaid:=
 OpenClaim.holds_of_wide 5 Tryz.f5 rfl rfl rfl rfl rfl rfl rfl ⟨rfl,rfl,rfl,rfl,rfl⟩ rfl rfl rfl rfl rfl κ Tryz.func5 κ
  (of_decide_eq_true κ) (by unfold Func.isWrapper;first|(rw[if_pos (by decide+kernel)];kernel_rfl)|(rw[if_neg (by decide+kernel)];exact⟨rfl,rfl⟩))
  (λos started H enc _=>Qx os started H enc)
#print axioms YtmhiemakdfkmeaaGreat.treeDamage_holds
end Go.Proofs
