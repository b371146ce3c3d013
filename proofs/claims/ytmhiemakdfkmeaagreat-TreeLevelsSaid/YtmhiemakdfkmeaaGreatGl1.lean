/- TreeLevels holds for every input. -/
import Derived.Test.YtmhiemakdfkmeaaGreatH1
import Derived.Test.YtmhiemakdfkmeaaGreatRows
set_option linter.all false
set_option autoImplicit true
set_option relaxedAutoImplicit true
set_option maxRecDepth 100000
namespace Go.Sh
open Go.Proofs
def E8(x:ak):Prop:=(∀y∈x.aq,(Lit.int .i64 y).wf=true)/\(∀y∈x.Down,True)/\(Lit.int .i64 x.cW).wf=true
def CA:qS Tryz.prog W 25 3 bG E8:=⟨λ_=>rfl,κ,λhx=>by
 obtain⟨a0,k0,e0⟩:=xT (j:=0) (tj:=22) (oj:=0) κ (qS.list (t:=22) (qS.int (t:=3) (k:=.i64) κ κ) (by decide) κ κ) hx
 obtain⟨a1,k1,e1⟩:=xT (j:=1) (tj:=23) (oj:=1) κ (qS.list (t:=23) (qS.bool (t:=4) κ κ) (by decide) κ κ) hx
 obtain⟨a2,k2,e2⟩:=xT (j:=2) (tj:=3) (oj:=2) κ (qS.int (t:=3) (k:=.i64) κ κ) hx
 refine⟨⟨a0,a1,a2⟩,⟨k0,k1,k2⟩,λj y hj=>?_⟩
 match j,hj with
 |0,hj=>exact e0 0 _ hj
 |1,hj=>exact e1 0 _ hj
 |2,hj=>exact e2 0 _ hj
 |j+3,hj=>simp[bG,Go.Sh.D.cells]at hj⟩
def zI(x:Value):Prop:=(Lit.int .i64 x.Kind).wf=true/\(Lit.int .i64 x.N).wf=true/\True
def AO:qS Tryz.prog W 71 3 ah zI:=⟨λ_=>rfl,κ,λhx=>by
 obtain⟨a0,k0,e0⟩:=xT (j:=0) (tj:=3) (oj:=0) κ (qS.int (t:=3) (k:=.i64) κ κ) hx
 obtain⟨a1,k1,e1⟩:=xT (j:=1) (tj:=3) (oj:=1) κ (qS.int (t:=3) (k:=.i64) κ κ) hx
 obtain⟨a2,k2,e2⟩:=xT (j:=2) (tj:=9) (oj:=2) κ (qS.str (t:=9) κ κ) hx
 refine⟨⟨a0,a1,a2⟩,⟨k0,k1,k2⟩,λj y hj=>?_⟩
 match j,hj with
 |0,hj=>exact e0 0 _ hj
 |1,hj=>exact e1 0 _ hj
 |2,hj=>exact e2 0 _ hj
 |j+3,hj=>simp[ah,Go.Sh.D.cells]at hj⟩
def Mx(x:Act):Prop:=(Lit.int .i64 x.Kind).wf=true/\(Lit.int .i64 x.Key).wf=true/\(∀y∈x.Row,zI y)/\(∀y∈x.uj,zI y)
def KE:qS Tryz.prog W 67 4 iV Mx:=⟨λ_=>rfl,κ,λhx=>by
 obtain⟨a0,k0,e0⟩:=xT (j:=0) (tj:=3) (oj:=0) κ (qS.int (t:=3) (k:=.i64) κ κ) hx
 obtain⟨a1,k1,e1⟩:=xT (j:=1) (tj:=3) (oj:=1) κ (qS.int (t:=3) (k:=.i64) κ κ) hx
 obtain⟨a2,k2,e2⟩:=xT (j:=2) (tj:=43) (oj:=2) κ (qS.list (t:=43) AO (by decide) κ κ) hx
 obtain⟨a3,k3,e3⟩:=xT (j:=3) (tj:=43) (oj:=3) κ (qS.list (t:=43) AO (by decide) κ κ) hx
 refine⟨⟨a0,a1,a2,a3⟩,⟨k0,k1,k2,k3⟩,λj y hj=>?_⟩
 match j,hj with
 |0,hj=>exact e0 0 _ hj
 |1,hj=>exact e1 0 _ hj
 |2,hj=>exact e2 0 _ hj
 |3,hj=>exact e3 0 _ hj
 |j+4,hj=>simp[iV,Go.Sh.D.cells]at hj⟩
end Go.Sh
namespace Go.Proofs
open Go.Sh Go.ChangeShapes Go.WideShapes Go.ChangeAt Go.RowKit Go.Proofs.YtmhiemakdfkmeaaGreat
def NN:ownKnob Tryz.prog.godebug=none:=by kernel_rfl
def J9:laidOutB Tryz.prog=true:=by kernel_rfl
def Mt:Tryz.prog.readableRec 25=true:=by kernel_rfl
def u3:Tryz.prog.underlying 3=some (.int .i64):=by kernel_rfl
def Ms:Tryz.prog.readableRec 26=true:=by kernel_rfl
def u4:Tryz.prog.underlying 4=some .bool:=by kernel_rfl
def DJ:Tryz.f4.params= #[25,3,26]:=by kernel_rfl
def Fy(H:Type)(enc:TypeId×Value->H)(W:World)(base:Nat)(args:Array Value)(ds gs:List (DataW H))(before:List MemPlace)
  (hval: ∀(j:Nat) t v,Tryz.f4.params[j]? =some t->args[j]? =some v->Value.okWide Tryz.prog W .any base t v)
  (hW:DataW.Whole enc Tryz.prog Tryz.f4.params.toList Rows.treeLevelsSpec.vars false W args.toList ds gs before):
  Calls Tryz.prog 4 args W λe W'=> ∃v,e=.returned v/\Rows.treeLevelsSpec.post enc Tryz.prog Tryz.f4 false true false false W args v W':=by
 have hW':=hW
 obtain⟨p,q,hA0,hV,rfl,hfz,hnd⟩:=hW
 have hA:DataW.TrodAll enc Tryz.prog W 0 (λ_=>true) true Tryz.f4.params.toList args.toList ds p:=hA0
 rw[DJ]at hA hval
 obtain⟨v0,vs0,d0,ds0,p0,q0,hargs,rfl,rfl,h0,r0⟩:=trodAll_cons hA
 obtain⟨v1,vs1,d1,ds1,p1,q1,rfl,rfl,rfl,h1,r1⟩:=trodAll_cons r0
 obtain⟨v2,vs2,d2,ds2,p2,q2,rfl,rfl,rfl,h2,r2⟩:=trodAll_cons r1
 obtain⟨rfl,rfl,rfl⟩:=trodAll_nil r2
 obtain rfl:args= #[v0,v1,v2]:=by cases args;simp_all
 obtain⟨rfl,rfl⟩:=trodVars_none hV
 obtain⟨a0,k0,hs0⟩:=qS.Cj CA κ (λ_=>rfl) (hval 0 25 v0 rfl rfl) h0
 obtain⟨a1,rfl,rfl,rfl,k1⟩:=open_int u3 (hval 1 3 v1 rfl rfl) h1
 obtain⟨a2,k2,hs2⟩:=qS.Gc (qS.list (t:=26) KE (by decide) κ κ) κ (λ_=>rfl) (hval 2 26 v2 rfl rfl) h2
 obtain⟨N,hN⟩:=xM a0 a1 a2
 have hpc:=vm (hN N (Nat.le_refl _)) [] W g0 #[v0,.int .i64 a1,v2] (by
  refine⟨rfl,λj sv hj=>?_⟩
  match j,hj with
  |0,hj=>cases hj;exact⟨_,rfl,hs0⟩
  |1,hj=>cases hj;exact⟨_,rfl,(.int:Rd g0 W _ _)⟩
  |2,hj=>cases hj;exact⟨_,rfl,hs2⟩
  |j+3,hj=>simp at hj) ⟨rfl,λi o hi=>by simp at hi⟩
 refine hpc.mono λe W' hh=>?_
 obtain⟨v,g',rfl,hres,-,hf⟩:=hh
 have hb:v=.bool true:=by
  have:Rd g' W' v (.bool true):=hres
  cases this;rfl
 subst hb
 have hlt:=hW'.lt
 refine⟨_,rfl,E6 (pa:=(p0++([]++(p2++[])))) (pv:=[]) hW' (λ_ _ _=>(trodAll_cons_mk (shut_bool u4 _) trodAll_mk0)) (λsp hsp=>?_) (λ_ _=>rfl) rfl (hf.kept _) (λx hx=>hf.fz hx) (ok_one κ rfl (okWide_bool_mk u4 _))⟩
 have m0: ∀x∈p0,x∈(p0++([]++(p2++[])))++([]:List MemPlace):=λx hx=>by simp[hx]
 have m2: ∀x∈p2,x∈(p0++([]++(p2++[])))++([]:List MemPlace):=λx hx=>by simp[hx]
 show DataW.TrodAll enc Tryz.prog W' 0 sp true Tryz.f4.params.toList _ _ _
 rw[DJ]
 refine trodAll_cons_mk (WideElems.Trod_stays J9 Mt (of_decide_eq_true κ) h0 (λx hx=>hf.same (hlt x (m0 x hx))) (λx hx=>hsp x (m0 x hx))) ?_
 refine trodAll_cons_mk (shut_int u3 k1) ?_
 exact trodAll_cons_mk (WideElems.Trod_stays J9 Ms (of_decide_eq_true κ) h2 (λx hx=>hf.same (hlt x (m2 x hx))) (λx hx=>hsp x (m2 x hx))) trodAll_mk0
def Jk(os:Os)(started:os.Started)(H:Type)(enc:TypeId×Value->H):
  ReturnsInHanded {} Tryz.checked os 4 .any (Rows.treeLevelsSpec.pre6 enc Tryz.prog Tryz.f4 Rows.treeLevelsRow.domain false) (Rows.treeLevelsSpec.post enc Tryz.prog Tryz.f4 false true false false):=by
 refine returnsInHanded_of_change (C:=Tryz.checked) NN started κ Tryz.func4
  (ChangeSpec.witness6 (enc:=enc) (C:=Tryz.checked) false ⟨#[],#[.agg #[.slice none 0 0,.slice none 0 0,.int .i64 0],.int .i64 0,.slice none 0 0],[]⟩ 8 κ κ κ κ κ) ?_
 intro W base args ds gs before hval hW _ _
 exact Fy H enc W base args ds gs before hval hW
def YtmhiemakdfkmeaaGreat.treeLevels_holds:Rows.TreeLevelsSaid:=
 OpenClaim.holds_of_wide 4 Tryz.f4 rfl rfl rfl rfl rfl rfl rfl ⟨rfl,rfl,rfl,rfl,rfl⟩ rfl rfl rfl rfl rfl κ Tryz.func4 κ
  (of_decide_eq_true κ) (by unfold Func.isWrapper;first|(rw[if_pos (by decide+kernel)];kernel_rfl)|(rw[if_neg (by decide+kernel)];exact⟨rfl,rfl⟩))
  (λos started H enc _=>Jk os started H enc)
#print axioms YtmhiemakdfkmeaaGreat.treeLevels_holds
end Go.Proofs
