/- Printed by a program: functions of the program as plain functions, and that the code computes them. -/
import Derived.Test.YtmhiemakdfkmeaaGreatS4
import Derived.Test.YtmhiemakdfkmeaaGreatProg
import Derived.Lib.Strings
import Derived.Lib.Slices
import Derived.Lib.Walk
import Derived.Lib.Bytealg
set_option linter.all false
set_option autoImplicit true
set_option relaxedAutoImplicit true
open Go Go.Proofs
namespace Go.Sh
set_option maxRecDepth 100000
abbrev SL:=List (Nat×SV)
structure ay where
 aD:(List Int)
 Down:(List Bool)
 ee:Int
 deriving DecidableEq,Inhabited
def cD(x:ay):D:=.agg [.list 1 (List.map (D.int .i64) x.aD),.list 1 (List.map D.bool x.Down),.int .i64 x.ee]
structure Value where
 Kind:Int
 N:Int
 S:(List UInt8)
 deriving DecidableEq,Inhabited
def ar(x:Value):D:=.agg [.int .i64 x.Kind,.int .i64 x.N,.str x.S]
structure Act where
 Kind:Int
 Key:Int
 Row:(List Value)
 yi:(List Value)
 deriving DecidableEq,Inhabited
def lg(x:Act):D:=.agg [.int .i64 x.Kind,.int .i64 x.Key,.list 3 (List.map ar x.Row),.list 3 (List.map ar x.yi)]
def Dp(xs:List Value):D:=D.list 3 (List.map ar xs)
def nR(fuel:Nat)(p0:(List (List Value)))(y1:Int)(y3:Int):Option ((Int)⊕((Unit)⊕((Bool)))):=
 (idx p0 y1).bind λx4=>
 bif (decide (y3<(x4.length:Int)))then
  (idx p0 y1).bind λx5=>
  (idx x5 y3).bind λx6=>
  bif (decide ((x6.S.length:Int)>200))then
   some (.inr (.inr false))
  else
   some (.inl (IntKind.wrap .i64 (y3+1)))
 else
  some (.inr (.inl ()))
def nQ(fuel:Nat)(p0:(List (List Value)))(y1:Int):Option ((Int)⊕((Unit)⊕((Bool)))):=
 bif (decide (y1<(p0.length:Int)))then
  (idx p0 y1).bind λx2=>
  bif (decide ((x2.length:Int)>20))then
   some (.inr (.inr false))
  else
   (iter (nR fuel p0 y1) fuel 0).bind (Sum.elim (λv8=>
    some (.inl (IntKind.wrap .i64 (y1+1)))) (λr9=>
    some (.inr (.inr r9))))
 else
  some (.inr (.inl ()))
def qG(fuel:Nat)(p0:(List (List Value))):Option (Bool):=
 (iter (nQ fuel p0) fuel 0).bind (Sum.elim (λv11=>
  some true) (λr12=>
  some r12))
def Z0(x0:(List Act)):SV:=.d (.list 4 (List.map lg x0))
def Z1(x0:ay):SV:=.box [.d (.list 1 (List.map (D.int .i64) x0.aD)),.d (.list 1 (List.map D.bool x0.Down)),vI x0.ee]
def Z2(x0:ay):SV:=.d (.agg [.list 1 (List.map (D.int .i64) x0.aD),.list 1 (List.map D.bool x0.Down),.int .i64 x0.ee])
def Z4(x0:Act):SV:=.d (.list 3 (List.map ar x0.Row))
def Z5(x0:Act):SV:=.d (.list 3 (List.map ar x0.yi))
def Z7(x0:(List (List Value))):SV:=.d (.list 1 (List.map Dp x0))
def Z9(x0:(List Value)):SV:=.d (.list 3 (List.map ar x0))
section
attribute [local irreducible] bX jR lM lQ SW uS
theorem yW(h:qG fuel p0=some r):PC Tryz.prog 18 [.d (.list 1 (List.map Dp p0))] (vB r):=by
 refine aW Tryz.func18 rfl λH=>?_
 unfold qG at h
 exact aH 36 H [(0,Z7 p0)]<|au 1<|an<|au 1<|aI<|bI h λz10 hit h=>eY 36 H [0,3] (λy1=>[(0,Z7 p0),(3,vI y1)]) (λb e s=>((∃v11,b=(.inl v11)/\(e=.exit 0/\s=(sp 36 [] H)))\/(∃r12,b=(.inr r12)/\(e=.ret/\dp Tryz.prog Tryz.f18.results.toList H (vB r12) .ret s)))) hit κ (λy1 o h=>by unfold nQ at h;exact an<|ax<|aa 2<|aw (aG (enc:=Dp) (xs:=p0))<|aa 1<|ak<|aQ h (λh=>ao<|ag<|an<|aI<|an<|ax<|aa 2<|bI h λx2 hx h=>aw (s:=bc none (Dp x2).cells) (aB (n:=1) hx)<|aa 1<|aw (aG (enc:=ar) (xs:=x2))<|aa 1<|ak<|aQ h (λh=>au 1<|al<|aq<|aJ<|aq<|aq<|LR h (.inr (⟨false,rfl,rfl,dp.ret [] κ κ⟩))) (λh=>ao<|ag<|au 1<|aI<|bI h λz7 hit h=>eY 36 H [0,3,4] (λy3=>[(0,Z7 p0),(3,vI y1),(4,vI y3)]) (λb e s=>((∃v8,b=(.inl v8)/\(e=.exit 2/\s=(sp 36 [(0,Z7 p0),(3,vI y1)] H)))\/(∃r9,b=(.inr r9)/\(e=.ret/\dp Tryz.prog Tryz.f18.results.toList H (vB r9) .ret s)))) hit κ (λy3 o h=>by unfold nR at h;exact an<|ax<|aa 3<|bI h λx4 hx h=>aw (s:=bc none (Dp x4).cells) (aB (n:=1) hx)<|aa 1<|aw (aG (enc:=ar) (xs:=x4))<|aa 1<|ak<|aQ h (λh=>ao<|ag<|an<|aI<|ax<|aa 2<|bI h λx5 hx h=>aw (s:=bc none (Dp x5).cells) (aB (n:=1) hx)<|aa 2<|bI h λx6 hx h=>aw (s:=bc none (ar x6).cells) (aB (n:=3) hx)<|aa 2<|aa 1<|aa 1<|ak<|aQ h (λh=>au 1<|al<|aJ<|aq<|aq<|LR h (.inr (⟨false,rfl,rfl,dp.ret [] κ κ⟩))) (λh=>ao<|aL<|ag<|ah<|aa 3<|ae<|LQ h)) (λh=>aH 36 H [(0,Z7 p0),(3,vI y1)]<|bN<|aY<|aY<|LR h (.inl ⟨(),rfl,rfl,rfl⟩))) (by rintro _ _ (⟨v8,rfl,rfl,rfl⟩|⟨r9,rfl,rfl,hE⟩);exact have h:=jv h;bq<|aL<|ag<|ah<|aa 3<|ae<|LQ h;exact have h:=ju h;aJ<|aJ<|aq<|aq<|LR h (.inr (⟨r9,rfl,rfl,hE⟩))))) (λh=>aH 36 H []<|bN<|aY<|aY<|LR h (.inl ⟨(),rfl,rfl,rfl⟩))) (by rintro _ _ (⟨v11,rfl,rfl,rfl⟩|⟨r12,rfl,rfl,hE⟩);exact have h:=jv h;bq<|ag<|au 1<|al<|iI h▸E0;exact have h:=ju h;aJ<|aq<|(by cases h;exact hE))
def oN(fuel:Nat)(p1:(List Act))(y1:Int):Option ((Int)⊕((Unit)⊕((Bool)))):=
 bif ((decide (y1<(p1.length:Int)))&&(decide (y1<80)))then
  (idx p1 y1).bind λx2=>
  (idx p1 y1).bind λx3=>
  (qG fuel [x2.Row,x3.yi]).bind λr4=>
  bif (!r4)then
   some (.inr (.inr false))
  else
   some (.inl (IntKind.wrap .i64 (y1+1)))
 else
  some (.inr (.inl ()))
def Bt(fuel:Nat)(p0:ay)(p1:(List Act)):Option (Bool):=
 (iter (oN fuel p1) fuel 0).bind (Sum.elim (λv6=>
  bif (decide ((p1.length:Int)<=80))then
   bif (decide ((p0.aD.length:Int)<=20))then
    some (decide ((p0.Down.length:Int)<=20))
   else
    some false
  else
   some false) (λr7=>
  some r7))
def TJ(x0:ay):SV:=.d (.list 1 (List.map (D.int .i64) x0.aD))
def Ui(x0:ay):SV:=vI (x0.aD.length:Int)
theorem LG(h:Bt fuel p0 p1=some r):PC Tryz.prog 7 [.d (cD p0),.d (.list 4 (List.map lg p1))] (vB r):=by
 refine aW Tryz.func7 rfl λH=>?_
 unfold Bt at h
 exact aH 44 H [(0,Z2 p0),(1,Z0 p1)]<|au 1<|an<|au 1<|aI<|bI h λz5 hit h=>eY 44 H [1,2,5] (λy1=>[(1,Z0 p1),(2,Z1 p0),(5,vI y1)]) (λb e s=>((∃v6,b=(.inl v6)/\(e=.exit 0/\s=(sp 44 [(1,Z0 p1),(2,Z1 p0)] H)))\/(∃r7,b=(.inr r7)/\(e=.ret/\dp Tryz.prog Tryz.f7.results.toList H (vB r7) .ret s)))) hit κ (λy1 o h=>by unfold oN at h;exact an<|ax<|aa 2<|aw (aG (enc:=lg) (xs:=p1))<|aU [] [1,2,5,10] 2<|dO 44 H [1,2,5,13] 3 (decide (y1<(p1.length:Int))) (λb=>(sp 44 [(1,Z0 p1),(2,Z1 p0),(5,vI y1),(10,vB b)] H)) (λb=>[(1,Z0 p1),(2,Z1 p0),(5,vI y1),(13,vB (b&&(decide (y1<80))))]) κ κ κ<|ak<|aQ h (λh=>ao<|ag<|an<|aI<|an<|hZ 10 κ κ<|bW 2<|bI h λx2 hx h=>cH (s:=bc none (lg x2).cells) (aB (n:=4) hx)<|bW 4<|bI h λx3 hx h=>cH (s:=bc none (lg x3).cells) (aB (n:=4) hx)<|bW 2<|gI<|aa 1<|bI h λr4 hr h=>eO 44 H (d:=some 27) (ls:=[(.slot 26)]) (gs:=[]) [] [1,2,5,27] [(1,Z0 p1),(2,Z1 p0),(5,vI y1),(27,vB r4)] (yW hr) κ κ κ<|aa 1<|ak<|aQ h (λh=>au 1<|al<|aJ<|aq<|aq<|LR h (.inr (⟨false,rfl,rfl,dp.ret [] κ κ⟩))) (λh=>ao<|aL<|ag<|ah<|aa 3<|ae<|LQ h)) (λh=>zm [(1,Z0 p1),(2,Z1 p0)]<|bN<|aY<|aY<|LR h (.inl ⟨(),rfl,rfl,rfl⟩))) (by rintro _ _ (⟨v6,rfl,rfl,rfl⟩|⟨r7,rfl,rfl,hE⟩);exact have h:=jv h;bq<|ag<|ax<|aa 1<|aw (aG (enc:=lg) (xs:=p1))<|aU [] [2,32] 2<|bE (λb=>(sp 44 [(2,Z1 p0),(32,vB b)] H)) h (λh=>aa 2<|aw (aG (enc:=(D.int .i64)) (xs:=p0.aD))<|aU [] [2,38] 3<|bE (λb=>(sp 44 [(2,Z1 p0),(38,vB b)] H)) h (λh=>aa 2<|aw (aG (enc:=D.bool) (xs:=p0.Down))<|aa 3<|ak<|al<|iI h▸E0) λh=>aa 6<|ak<|al<|iI h▸E0) λh=>aa 12<|ak<|al<|iI h▸E0;exact have h:=ju h;aJ<|aq<|(by cases h;exact hE))
def Im(fuel:Nat)(p0:Int):Option (Bool):=
 some ((p0==1)||(p0==2))
def Qy(x0:(List Int)):SV:=.d (.list 1 (List.map (D.int .i64) x0))
def Uc:SV:=.d (.fn (.func 85) [] [])
theorem Le(h:Im fuel p0=some r):PC Tryz.prog 86 [vI p0] (vB r):=by
 refine aW Tryz.func86 rfl λH=>?_
 unfold Im at h
 exact aH 9 H [(0,vI p0)]<|au 1<|ax<|aU [] [0,5] 3<|dO 9 H [8] 3 (p0==1) (λb=>(sp 9 [(0,vI p0),(5,vB b)] H)) (λb=>[(8,vB (b||(p0==2)))]) κ κ κ<|aa 1<|ak<|al<|iI h▸E0
def tN(fuel:Nat)(p0:Int):Option (Bool):=
 (Im fuel p0).bind λr1=>
 some (!r1)
theorem D6(h:tN fuel p0=some r):PC Tryz.prog 85 [vI p0] (vB r):=by
 refine aW Tryz.func85 rfl λH=>?_
 unfold tN at h
 exact aH 6 H [(0,vI p0)]<|au 1<|ax<|aa 1<|bI h λr1 hr h=>bw (Le hr)<|aa 2<|ak<|al<|iI h▸E0
def cR(fuel:Nat)(p0:(List Int))(y1:Int):Option ((Int)⊕((Unit)⊕((Int)))):=
 bif (decide (y1<(p0.length:Int)))then
  (idx p0 y1).bind λx2=>
  (tN fuel x2).bind λr3=>
  bif r3 then
   some (.inr (.inr y1))
  else
   some (.inl (IntKind.wrap .i64 (y1+1)))
 else
  some (.inr (.inl ()))
def dB(fuel:Nat)(p0:(List Int)):Option (Int):=
 (iter (cR fuel p0) fuel 0).bind (Sum.elim (λv5=>
  some (-1)) (λr6=>
  some r6))
theorem mY(h:dB fuel p0=some r):PC Tryz.prog 103 [.d (.list 1 (List.map (D.int .i64) p0)),.d (.fn (.func 85) [] [])] (vI r):=by
 refine aW Tryz.func103 rfl λH=>?_
 unfold dB at h
 exact aH 19 H [(0,Qy p0),(1,Uc)]<|au 1<|an<|ax<|aa 1<|aw (aG (enc:=(D.int .i64)) (xs:=p0))<|aa 1<|ak<|aI<|bI h λz4 hit h=>eY 19 H [0,1,7,8] (λy1=>[(0,Qy p0),(1,Uc),(7,vI (p0.length:Int)),(8,vI y1)]) (λb e s=>((∃v5,b=(.inl v5)/\(e=.exit 0/\s=(sp 19 [] H)))\/(∃r6,b=(.inr r6)/\(e=.ret/\dp Tryz.prog Tryz.f103.results.toList H (vI r6) .ret s)))) hit κ (λy1 o h=>by unfold cR at h;exact au 1<|an<|aQ h (λh=>ao<|ag<|an<|aI<|au 1<|ax<|aa 3<|bI h λx2 hx h=>aw (s:=bc none (Go.Sh.D.cells ((D.int .i64) x2))) (aB (n:=1) hx)<|aa 1<|bI h λr3 hr h=>bw (D6 hr)<|ak<|aQ h (λh=>au 1<|al<|aJ<|aq<|aq<|LR h (.inr (⟨y1,rfl,rfl,dp.ret [] κ κ⟩))) (λh=>ao<|aL<|ag<|ah<|aa 2<|ae<|LQ h)) (λh=>aH 19 H []<|bN<|aY<|aY<|LR h (.inl ⟨(),rfl,rfl,rfl⟩))) (by rintro _ _ (⟨v5,rfl,rfl,rfl⟩|⟨r6,rfl,rfl,hE⟩);exact have h:=jv h;bq<|ag<|au 1<|al<|iI h▸E0;exact have h:=ju h;aJ<|aq<|(by cases h;exact hE))
def cT(fuel:Nat)(p0:(List Int)):Option (Bool):=
 (dB fuel p0).bind λr1=>
 some (decide (r1>=0))
theorem lO(h:cT fuel p0=some r):PC Tryz.prog 84 [.d (.list 1 (List.map (D.int .i64) p0)),.d (.fn (.func 85) [] [])] (vB r):=by
 refine aW Tryz.func84 rfl λH=>?_
 unfold cT at h
 exact aH 9 H [(0,Qy p0),(1,Uc)]<|au 1<|ax<|aa 2<|bI h λr1 hr h=>bw (mY hr)<|aa 2<|ak<|al<|iI h▸E0
def vN(fuel:Nat)(p0:ay):Option (Bool):=
 bif (decide ((p0.aD.length:Int)>=1))then
  bif (decide ((p0.aD.length:Int)<=8))then
   bif ((((p0.Down.length:Int)==(p0.aD.length:Int))&&(decide (p0.ee>=1)))&&(decide (p0.ee<=3)))then
    (cT fuel p0.aD).bind λr1=>
    some (!r1)
   else
    some false
  else
   some false
 else
  some false
theorem Ip(h:vN fuel p0=some r):PC Tryz.prog 59 [.d (cD p0)] (vB r):=by
 refine aW Tryz.func59 rfl λH=>?_
 unfold vN at h
 exact aH 38 H [(0,Z2 p0)]<|au 1<|ax<|aa 2<|aw (aG (enc:=(D.int .i64)) (xs:=p0.aD))<|aU [] [1,7] 2<|bE (λb=>(sp 38 [(1,Z1 p0),(7,vB b)] H)) h (λh=>aa 2<|aw (aG (enc:=(D.int .i64)) (xs:=p0.aD))<|aU [] [1,13] 3<|bE (λb=>(sp 38 [(1,Z1 p0),(13,vB b)] H)) h (λh=>aa 2<|aw (aG (enc:=D.bool) (xs:=p0.Down))<|aa 2<|aw (aG (enc:=(D.int .i64)) (xs:=p0.aD))<|aU [] [1,22] 3<|dO 38 H [1,26] 4 ((p0.Down.length:Int)==(p0.aD.length:Int)) (λb=>(sp 38 [(1,Z1 p0),(22,vB b)] H)) (λb=>[(1,Z1 p0),(26,vB (b&&(decide (p0.ee>=1))))]) κ κ κ<|aU [] [1,27] 1<|dO 38 H [1,31] 4 (((p0.Down.length:Int)==(p0.aD.length:Int))&&(decide (p0.ee>=1))) (λb=>(sp 38 [(1,Z1 p0),(27,vB b)] H)) (λb=>[(1,Z1 p0),(31,vB (b&&(decide (p0.ee<=3))))]) κ κ κ<|aU [] [1,32] 1<|bE (λb=>(sp 38 [(1,Z1 p0),(32,vB b)] H)) h (λh=>aa 2<|bI h λr1 hr h=>bw (lO hr)<|aa 3<|ak<|al<|iI h▸E0) λh=>aa 6<|ak<|al<|iI h▸E0) λh=>aa 25<|ak<|al<|iI h▸E0) λh=>aa 31<|ak<|al<|iI h▸E0
def iw(fuel:Nat)(p0:(List Int)):Option ((List Int)):=
 IC p0 λb1=>
 bif b1 then
  some ([]:List Int)
 else
  et (decide ((([]:List Int)++p0).length<=room))<|
  some (([]:List Int)++p0)
theorem rW(h:iw fuel p0=some r):PC Tryz.prog 48 [.d (.list 1 (List.map (D.int .i64) p0))] (.own 1 (List.map (D.int .i64) r)):=by
 refine aW Tryz.func48 rfl λH=>?_
 unfold iw at h
 exact aH 8 H [(0,Qy p0)]<|au 1<|an<|ax<|aU [] [0,3] 1<|qS (xs:=List.map (D.int .i64) p0) (d:=some 4) (e:=true) 8 H [0,4] (λb1=>[(0,Qy p0),(4,vB b1)]) κ (λ_=>by kernel_rfl) (λb1 hnil=>have h:=sQ h b1 (λe=>q_6.1 (hnil e));ak<|aQ h (λh=>au 1<|al<|aq<|iI h▸E0) (λh=>ao<|ag<|ax<|aP [5] 2<|nj h λhk h=>fx 5 1 (List.map (D.int .i64) (([]:List Int)++p0)) (bt) (bZ hk)<|aP [5] 1<|ak<|al<|iI h▸E0))
def gS(fuel:Nat)(p0:(List Bool)):Option ((List Bool)):=
 IC p0 λb1=>
 bif b1 then
  some ([]:List Bool)
 else
  et (decide ((([]:List Bool)++p0).length<=room))<|
  some (([]:List Bool)++p0)
def UF(x0:(List Bool)):SV:=.d (.list 1 (List.map D.bool x0))
theorem uu(h:gS fuel p0=some r):PC Tryz.prog 60 [.d (.list 1 (List.map D.bool p0))] (.own 1 (List.map D.bool r)):=by
 refine aW Tryz.func60 rfl λH=>?_
 unfold gS at h
 exact aH 8 H [(0,UF p0)]<|au 1<|an<|ax<|aU [] [0,3] 1<|qS (xs:=List.map D.bool p0) (d:=some 4) (e:=true) 8 H [0,4] (λb1=>[(0,UF p0),(4,vB b1)]) κ (λ_=>by kernel_rfl) (λb1 hnil=>have h:=sQ h b1 (λe=>q_6.1 (hnil e));ak<|aQ h (λh=>au 1<|al<|aq<|iI h▸E0) (λh=>ao<|ag<|ax<|aP [5] 2<|nj h λhk h=>fx 5 1 (List.map D.bool (([]:List Bool)++p0)) (bt) (bZ hk)<|aP [5] 1<|ak<|al<|iI h▸E0))
structure Entry where
 Row:(List Value)
 Key:Int
 Number:Int
 deriving DecidableEq,Inhabited
def ab(x:Entry):D:=.agg [.list 3 (List.map ar x.Row),.int .i64 x.Key,.int .i64 x.Number]
def yF(fuel:Nat)(p0:ay)(p1:Int)(H:Hp):Option (((Option Nat)×Int)×Hp):=
 (vN fuel p0).bind λr1=>
 bif (!r1)then
  some ((none,1),H)
 else
  bif ((decide (p1<3))||(decide (p1>32)))then
   some ((none,7),H)
  else
   (iw fuel p0.aD).bind λr2=>
   (gS fuel p0.Down).bind λr3=>
   (ko H (.cells [.own 3 (List.map ab ([]:List Entry)),.own 1 (List.map cP.enc ([]:List (Option Nat)))])).bind λq4=>
   (ko q4.1 (.cells [.d (.list 1 (List.map (D.int .i64) r2)),.d (.list 1 (List.map D.bool r3)),.d (.int .i64 p0.ee),.d (.int .i64 p1),.d (.ptr q4.2 0),.d (.int .i64 0),.d (.int .i64 0)])).bind λq5=>
   some (((some q5.2),0),q5.1)
def UO(x0:(List Int))(x1:(List Bool))(x2:ay):SV:=.box [.d (.list 1 (List.map (D.int .i64) x0)),.d (.list 1 (List.map D.bool x1)),vI x2.ee]
theorem Aw(h:yF fuel p0 p1 H=some r):SC Tryz.prog false 31 [.d (cD p0),vI p1] H (.g8 [.d (cP.enc r.1.1),vI r.1.2]) r.2:=by
 refine cf Tryz.func31 rfl ?_
 unfold yF at h
 exact aH 31 H [(0,Z2 p0),(1,vI p1)]<|au 1<|an<|aI<|ax<|aa 1<|bI h λr1 hr h=>bw (Ip hr)<|aa 2<|ak<|aQ h (λh=>au 1<|al<|aJ<|aq<|iI h▸E0) (λh=>ax<|aU [] [1,2,13] 3<|dO 31 H [1,2,16] 3 (decide (p1<3)) (λb=>(sp 31 [(1,vI p1),(2,Z1 p0),(13,vB b)] H)) (λb=>[(1,vI p1),(2,Z1 p0),(16,vB (b||(decide (p1>32))))]) κ κ κ<|aa 1<|ak<|aQ h (λh=>au 1<|al<|aJ<|aq<|iI h▸E0) (λh=>ao<|aL<|ag<|an<|bI h λr2 hr_2 h=>bI h λr3 hr_5 h=>aH 31 H [(1,vI p1),(2,Z1 p0)]<|jb 31 H [(1,vI p1),(2,UO r2 r3 p0)] [0,1] 8 3 κ κ κ (λX hX=>by subst hX;exact aC<|du 31 H [1,2,18] [(1,vI p1),(2,Z1 p0),(18,TJ p0)] κ<|dZ<|mD [] [(2,eV _),(5,eV _),(7,eF 19),(9,eF 22)] ⟨zt (rW hr_2),zt (uu hr_5),zr,zr,trivial⟩) (ag<|ax<|aa 3<|bI h λq4 hq h=>xb [(0,3,true),(1,1,true)] hq<|aa 1<|bI h λq5 hq h=>xb [] hq<|aa 2<|ak<|al<|iI h▸E0)))
def cV:Cl ay:=((cL 1 (cI .i64)).one.pair ((cL 1 cB).one.pair (cI .i64).one)).TD (λp=>(⟨p.1,p.2.1,p.2.2⟩:ay)) (λx=>(x.aD,x.Down,x.ee)) (λ_=>rfl) (λ_=>rfl)
def lC(fuel:Nat)(p0:Int)(p1:Int)(p2:Int):Option (Bool):=
 some ((decide (p0>=p1))&&(decide (p0<=p2)))
def KD(x0:Value):SV:=.box [vI x0.Kind,vI x0.N,vS x0.S]
def Jj(x0:Value):SV:=.d (.agg [.int .i64 x0.Kind,.int .i64 x0.N,.str x0.S])
theorem sZ(h:lC fuel p0 p1 p2=some r):PC Tryz.prog 111 [vI p0,vI p1,vI p2] (vB r):=by
 refine aW Tryz.func111 rfl λH=>?_
 unfold lC at h
 exact aH 15 H [(0,vI p0),(1,vI p1),(2,vI p2)]<|au 1<|ax<|aU [] [0,2,10] 4<|dO 15 H [14] 4 (decide (p0>=p1)) (λb=>(sp 15 [(0,vI p0),(2,vI p2),(10,vB b)] H)) (λb=>[(14,vB (b&&(decide (p0<=p2))))]) κ κ κ<|aa 1<|ak<|al<|iI h▸E0
def pN(fuel:Nat):Option (Unit):=
 some ()
theorem BA(h:pN fuel=some r):PC Tryz.prog 112 [] (.d (.agg [.fn (.func 124) [] [],.fn (.func 125) [] [],.fn (.func 126) [] []])):=by
 refine aW Tryz.func112 rfl λH=>?_
 unfold pN at h
 exact aH 2 H []<|au 2<|al<|E0
def nu(fuel:Nat)(p0:Value):Option (Bool):=
 some false
def TH:SV:=.d (.agg [.fn (.func 124) [] [],.fn (.func 125) [] [],.fn (.func 126) [] []])
theorem xW(h:nu fuel p0=some r):PC Tryz.prog 124 [.d (ar p0)] (vB r):=by
 refine aW Tryz.func124 rfl λH=>?_
 unfold nu at h
 exact aH 3 H [(0,Jj p0)]<|au 2<|al<|iI h▸E0
def nr(fuel:Nat)(p0:Value):Option (Bool):=
 bif (p0.S==[])then
  (lC fuel p0.N (-1000000000) 1000000000).bind λr1=>
  some r1
 else
  some false
theorem xV(h:nr fuel p0=some r):PC Tryz.prog 125 [.d (ar p0)] (vB r):=by
 refine aW Tryz.func125 rfl λH=>?_
 unfold nr at h
 exact aH 11 H [(0,Jj p0)]<|au 1<|ax<|aU [] [1,6] 4<|bE (λb=>(sp 11 [(1,KD p0),(6,vB b)] H)) h (λh=>aa 2<|bI h λr1 hr h=>bw (sZ hr)<|aa 2<|ak<|al<|iI h▸E0) λh=>aa 5<|ak<|al<|iI h▸E0
def nq(fuel:Nat)(p0:Value):Option (Bool):=
 bif (p0.N==0)then
  some (decide ((p0.S.length:Int)<=40))
 else
  some false
theorem xU(h:nq fuel p0=some r):PC Tryz.prog 126 [.d (ar p0)] (vB r):=by
 refine aW Tryz.func126 rfl λH=>?_
 unfold nq at h
 exact aH 12 H [(0,Jj p0)]<|au 1<|ax<|aU [] [1,6] 4<|bE (λb=>(sp 12 [(1,KD p0),(6,vB b)] H)) h (λh=>aa 2<|aa 1<|aa 3<|ak<|al<|iI h▸E0) λh=>aa 6<|ak<|al<|iI h▸E0
def iS(fuel:Nat)(p0:Value):Option (Bool):=
 (lC fuel p0.Kind 0 2).bind λr1=>
 bif r1 then
  (pN fuel).bind λr2=>
  bif (p0.Kind==0)then
   (nu fuel p0).bind λr3=>
   some r3
  else
   bif (p0.Kind==1)then
    (nr fuel p0).bind λr4=>
    some r4
   else
    bif (p0.Kind==2)then
     (nq fuel p0).bind λr5=>
     some r5
    else
     none
 else
  some false
theorem vt(h:iS fuel p0=some r):PC Tryz.prog 91 [.d (ar p0)] (vB r):=by
 refine aW Tryz.func91 rfl λH=>?_
 unfold iS at h
 exact aH 14 H [(0,Jj p0)]<|au 1<|an<|fM<|aF 2<|bI h λr1 hr h=>fk (sZ hr)<|dt [] [1,6] 1<|DP r1 (λb=>(sp 14 [(1,KD p0),(6,vB b)] H)) κ (λhc=>have h:=fP hc h;bI h λr2 hr h=>fk (BA hr)<|Fk 14 H [] [1,6,7,9] 2 [(1,KD p0),(6,vB true),(7,TH),(9,vI p0.Kind)] κ<|(by rcases hc:(p0.Kind==0)with _|_;replace h:=fQ hc h;rcases hc:(p0.Kind==1)with _|_;replace h:=fQ hc h;rcases hc:(p0.Kind==2)with _|_;replace h:=fQ hc h;cases h;exact have h:=fP hc h;pD (λe=>(sp 14 [(1,KD p0),(6,vB true),(7,TH),(9,vI e)] H)) κ hc<|aF 2<|bI h λr5 hr h=>fk (xU hr)<|aF 2<|bF<|ag<|al<|iI h▸E0;exact have h:=fP hc h;pD (λe=>(sp 14 [(1,KD p0),(6,vB true),(7,TH),(9,vI e)] H)) κ hc<|aF 2<|bI h λr4 hr h=>fk (xV hr)<|aF 2<|bF<|ag<|al<|iI h▸E0;exact have h:=fP hc h;pD (λe=>(sp 14 [(1,KD p0),(6,vB true),(7,TH),(9,vI e)] H)) κ hc<|aF 2<|bI h λr3 hr h=>fk (xW hr)<|aF 2<|bF<|ag<|al<|iI h▸E0)) (λhc=>have h:=fQ hc h;aF 8<|bF<|ag<|al<|iI h▸E0)
def qh(fuel:Nat)(p1:(List Value))(y1:(List Int)×(List Bool)×Int×Int):Option (((List Int)×(List Bool)×Int×Int)⊕((Unit)⊕((Bool)))):=
 bif (decide (y1.2.2.2<(p1.length:Int)))then
  (idx p1 y1.2.2.2).bind λx2=>
  (idx y1.1 y1.2.2.2).bind λx3=>
  bif (x2.Kind !=x3)then
   some (.inr (.inr false))
  else
   (iS fuel x2).bind λr4=>
   bif (!r4)then
    some (.inr (.inr false))
   else
    some (.inl (y1.1,y1.2.1,y1.2.2.1,(IntKind.wrap .i64 (y1.2.2.2+1))))
 else
  some (.inr (.inl ()))
def vb(fuel:Nat)(p0:ay)(p1:(List Value)):Option (Bool):=
 bif ((p1.length:Int) !=(p0.aD.length:Int))then
  some false
 else
  (iter (qh fuel p1) fuel (p0.aD,p0.Down,p0.ee,0)).bind (Sum.elim (λv6=>
   some true) (λr7=>
   some r7))
def UN(x0:(List Int)×(List Bool)×Int×Int):SV:=.box [.d (.list 1 (List.map (D.int .i64) x0.1)),.d (.list 1 (List.map D.bool x0.2.1)),vI x0.2.2.1]
theorem xw(h:vb fuel p0 p1=some r):PC Tryz.prog 68 [.d (cD p0),.d (.list 3 (List.map ar p1))] (vB r):=by
 refine aW Tryz.func68 rfl λH=>?_
 unfold vb at h
 exact aH 34 H [(0,Z2 p0),(1,Z9 p1)]<|au 1<|an<|ax<|aa 1<|aw (aG (enc:=ar) (xs:=p1))<|aa 2<|aw (aG (enc:=(D.int .i64)) (xs:=p0.aD))<|aa 1<|ak<|aQ h (λh=>au 1<|al<|aq<|iI h▸E0) (λh=>ao<|ag<|an<|ax<|aa 1<|aw (aG (enc:=ar) (xs:=p1))<|aa 1<|ak<|aI<|bI h λz5 hit h=>eY 34 H [2,13,14,15] (λy1=>[(2,.box [.d (.list 1 (List.map (D.int .i64) y1.1)),.d (.list 1 (List.map D.bool y1.2.1)),vI y1.2.2.1]),(13,Z9 p1),(14,vI (p1.length:Int)),(15,vI y1.2.2.2)]) (λb e s=>((∃v6,b=(.inl v6)/\(e=.exit 0/\s=(sp 34 [] H)))\/(∃r7,b=(.inr r7)/\(e=.ret/\dp Tryz.prog Tryz.f68.results.toList H (vB r7) .ret s)))) hit κ (λy1 o h=>by unfold qh at h;exact au 1<|an<|aQ h (λh=>ao<|ag<|an<|aI<|ax<|aa 1<|bI h λx2 hx h=>aw (s:=bc none (ar x2).cells) (aB (n:=3) hx)<|aa 4<|ak<|an<|fM<|aF 5<|bI h λx3 hx h=>bm (s:=bc none (Go.Sh.D.cells ((D.int .i64) x3))) (aB (n:=1) hx)<|dt [] [2,6,13,14,15,28] 3<|dP (λb=>(sp 34 [(2,UN y1),(6,KD x2),(13,Z9 p1),(14,vI (p1.length:Int)),(15,vI y1.2.2.2),(28,vB b)] H)) h (λh=>aF 4<|bF<|ag<|en κ<|au 1<|al<|aJ<|aq<|aq<|LR h (.inr (⟨false,rfl,rfl,dp.ret [] κ κ⟩))) λh=>aF 1<|bI h λr4 hr h=>fk (vt hr)<|aF 2<|bF<|ag<|aQ h (λh=>au 1<|al<|aJ<|aq<|aq<|LR h (.inr (⟨false,rfl,rfl,dp.ret [] κ κ⟩))) (λh=>ao<|aL<|ag<|ah<|aa 2<|ae<|LQ h)) (λh=>aH 34 H []<|bN<|aY<|aY<|LR h (.inl ⟨(),rfl,rfl,rfl⟩))) (by rintro _ _ (⟨v6,rfl,rfl,rfl⟩|⟨r7,rfl,rfl,hE⟩);exact have h:=jv h;bq<|ag<|au 1<|al<|iI h▸E0;exact have h:=ju h;aJ<|aq<|(by cases h;exact hE)))
def FE(fuel:Nat)(p0:Int):Option (Bool):=
 some ((decide (p0>=1))&&(decide (p0<=1000000)))
theorem FD(h:FE fuel p0=some r):PC Tryz.prog 80 [vI p0] (vB r):=by
 refine aW Tryz.func80 rfl λH=>?_
 unfold FE at h
 exact aH 9 H [(0,vI p0)]<|au 1<|ax<|aU [] [0,5] 3<|dO 9 H [8] 3 (decide (p0>=1)) (λb=>(sp 9 [(0,vI p0),(5,vB b)] H)) (λb=>[(8,vB (b&&(decide (p0<=1000000))))]) κ κ κ<|aa 1<|ak<|al<|iI h▸E0
def eD(fuel:Nat)(p0:Nat)(p1:(List Value))(p2:Int)(H:Hp):Option (Int):=
 (bz cV.cells H p0 0).bind λx1=>
 (vb fuel x1 p1).bind λr2=>
 bif (!r2)then
  some 1
 else
  (FE fuel p2).bind λr3=>
  bif (!r3)then
   some 1
  else
   some 0
def K32:=λa0 a1 a2 (t:SL)=>((0,.d (.ptr a0 0))::(1,Z9 a1)::(2,vI a2)::t:SL)
theorem fK(h:eD fuel p0 p1 p2 H=some r):SC Tryz.prog true 51 [.d (.ptr p0 0),.d (.list 3 (List.map ar p1)),vI p2] H (vI r) H:=by
 refine fN Tryz.func51 rfl ?_
 unfold eD at h
 exact aH 23 H (K32 p0 p1 p2 [])<|au 1<|an<|ax<|aa 6<|bI h λx1 hx h=>aw (s:=.d (.agg [.list 1 (List.map (D.int .i64) x1.aD),.list 1 (List.map D.bool x1.Down),.int .i64 x1.ee])) (aA hx)<|aa 1<|bI h λr2 hr h=>bw (xw hr)<|aU [] [2,18] 3<|bE (λb=>(sp 23 [(2,vI p2),(18,vB b)] H)) h (λh=>aa 4<|ak<|en κ<|au 1<|al<|aq<|iI h▸E0) λh=>aa 1<|bI h λr3 hr h=>bw (FD hr)<|aa 2<|ak<|aQ h (λh=>au 1<|al<|aq<|iI h▸E0) (λh=>ao<|ag<|au 1<|al<|iI h▸E0)
def kU(fuel:Nat)(p0:Nat)(H:Hp):Option (Unit):=
 some ()
def Qw(x0:(List Value)):SV:=.box [.d (.list 3 (List.map ar x0))]
def LV(x0:Nat):SV:=.d (.fn (.func 78) [] [.fG [.ptr x0 0]])
theorem kB(h:kU fuel p0 H=some r):SC Tryz.prog true 50 [.d (.ptr p0 0)] H (.d (.fn (.func 78) [] [.fG [.ptr p0 0]])) H:=by
 refine fN Tryz.func50 rfl ?_
 unfold kU at h
 exact aH 4 H [(0,.d (.ptr p0 0))]<|ax<|Cf 4 H (d:=1) (ds:=[.ptr p0 0]) [1] [(1,.d (.fG [.ptr p0 0]))] κ κ<|aa 1<|ak<|au 1<|al<|E0
def cJ(fuel:Nat)(p0:Nat)(H:Hp):Option (Bool):=
 (bG 1 cP H p0 1).bind λx1=>
 some ((x1.length:Int)==0)
theorem eC(h:cJ fuel p0 H=some r):SC Tryz.prog true 42 [.d (.ptr p0 0)] H (vB r) H:=by
 refine fN Tryz.func42 rfl ?_
 unfold cJ at h
 exact aH 9 H [(0,.d (.ptr p0 0))]<|au 1<|ax<|aa 3<|bI h λx1 hx h=>aw (aV hx)<|aw (aG (enc:=cP.enc) (xs:=x1))<|aa 2<|ak<|al<|iI h▸E0
def Qs:Cl Value:=((cI .i64).one.pair ((cI .i64).one.pair cS.one)).TD (λp=>(⟨p.1,p.2.1,p.2.2⟩:Value)) (λx=>(x.Kind,x.N,x.S)) (λ_=>rfl) (λ_=>rfl)
def og:Cd Value:=Qs.agg
def pU:Cl Entry:=((cL 3 og).one.pair ((cI .i64).one.pair (cI .i64).one)).TD (λp=>(⟨p.1,p.2.1,p.2.2⟩:Entry)) (λx=>(x.Row,x.Key,x.Number)) (λ_=>rfl) (λ_=>rfl)
def aM:Cd Entry:=pU.agg
def dS(fuel:Nat)(Y:Entry->Hp->Option (Bool×Hp))(rc:Nat->Hp->Option (Bool×Hp))(p:Nat)(n:Int)(x:Int×Hp):Option ((Int×Hp)⊕(Bool×Hp)):=
 cond (decide (x.1<n))
  ((cJ fuel p x.2).bind λlf=>
  (cond lf (some (true,x.2)) ((bG 1 cP x.2 p 1).bind λks=>(idx ks x.1).bind λk=>k.bind λk=>rc k x.2)).bind λq=>
  cond q.1
   ((bG 3 aM q.2 p 0).bind λes=>
   cond (decide (x.1<(es.length:Int)))
    ((idx es x.1).bind λe=>(Y e q.2).bind λy=>cond y.1 (some (.inl (IntKind.wrap .i64 (x.1+1),y.2))) (some (.inr (false,y.2))))
    (some (.inl (IntKind.wrap .i64 (x.1+1),q.2))))
   (some (.inr (false,q.2))))
  (some (.inr (true,x.2)))
def gy(fuel:Nat)(Y:Entry->Hp->Option (Bool×Hp)):Nat->Nat->Hp->Option (Bool×Hp)
 |0,_,_=>none
 |s+1,p,H=>(bG 3 aM H p 0).bind λes=>iter (dS fuel Y (gy fuel Y s) p (IntKind.wrap .i64 ((es.length:Int)+1))) fuel (0,H)
def sD(fuel:Nat)(Y:Entry->Hp->Option (Bool×Hp))(p:Nat)(H:Hp):Option (Bool×Hp):=gy fuel Y fuel p (H++[.hole])
def zZ(l i:Nat):D:=.fn (.func 79) [] [.ptr i 0,.fG [.fn (.yield l) [] []]]
def yd(l:Nat):D:=.fG [.fn (.yield l) [] []]
end
section
variable {fuel l i:Nat} {Y:Entry->Hp->Option (Bool×Hp)} {R:Loop} {jc:Code} {ds:List (Nat×D)}
def K4:=λa0 a1 a2 (t:SL)=>((0,.d (.ptr a0 0))::(1,.d (.ptr a1 0))::(2,.d (yd a2))::(4,vB false)::t:SL)
def K18:=λa0 a1 (t:SL)=>((0,.d (.ptr a0 0))::(1,.d (.ptr a1 0))::t:SL)
def K23:=λa0 a1 a2 a3 a4 a5 (t:SL)=>((0,.d (.ptr a0 0))::(1,.d (.ptr a1 0))::(2,.d (yd a2))::(4,vB false)::(5,vI a3)::(12,vI a4)::(13,vI a5)::t:SL)
def K24:=λa0 a1 a2 a3 a4 (t:SL)=>((0,.d (.ptr a0 0))::(1,.d (.ptr a1 0))::(2,.d (yd a2))::(4,vB false)::(12,vI a3)::(13,vI a4)::(31,vB false)::(40,vB true)::t:SL)
theorem Io(hY: ∀x H q,Y x H=some q->Rf Tryz.prog l (CL l R jc ds []) [.d (ab x)] H q.2 q.1): ∀(s p:Nat) (H:Hp) (q:Bool×Hp),gy fuel Y s p H=some q->
  Pt Tryz.prog l (CL l R jc ds [(i,zZ l i)]) 79 [.d (.ptr p 0),.d (.ptr i 0),.d (yd l)] H q.2 q.1 (λv=>v=.bool q.1):=by
 intro s
 have hC: ∀b,Mz (CL l R jc ds [(i,zZ l i)] b):=λb=>CL.fr
 induction s with
 |zero=>intro p H q h;cases h
 |succ s ih=>
  intro p H q h
  unfold gy at h
  obtain⟨es0,hx0,hit⟩:=cW h
  refine HB Tryz.func79 rfl rfl<|w5 55 H [0,1,2] (K18 p i [(2,.d (yd l))]) κ<|gY<|iG hC<|ah<|
   aK 1 (K4 p i l [])<|ae<|jg<|gY<|gY<|iG hC<|ah<|
   aK 4 (K4 p i l [(9,.d (.ptr p 0))])<|
   bb (d:=some 10) (s:=.bS (.az p 0) 3 (List.map aM.enc es0)) (K4 p i l [(10,.bS (.az p 0) 3 (List.map aM.enc es0))]) (aV (c:=aM) hx0 κ)<|
   bb (d:=some 11) (K4 p i l [(11,vI (es0.length:Int))]) (aG (enc:=aM.enc) (xs:=es0) κ)<|
   aK 2 (K4 p i l [(12,vI (IntKind.wrap .i64 ((es0.length:Int)+1))),(13,vI 0)])<|ae<|jg<|B6 ?_
  generalize IntKind.wrap .i64 ((es0.length:Int)+1)=n at hit ⊢
  clear hx0 h
  refine O0 55 [0,1,2,4,12,13] (λx:Int×Hp=>(K4 p i l [(12,vI n),(13,vI x.1)])) (λx=>x.2)
   (λ(r:Bool×Hp) b' e s=>(r.1=true/\b'=true/\e=.exit 0/\s=sp 55 [] r.2)\/(r.1=false/\b'=false/\e=.ret/\s.H=r.2/\s.tmps[4]? =some (vB false))) hit κ (λx o ho=>?_) (λb' e s hh=>?_)
  .obtain⟨c,H⟩:=x
   unfold dS at ho
   simp only at ho
   refine gY<|iG hC<|ah<|aK 1 (K4 p i l [(12,vI n),(13,vI c),(14,vB (decide (c<n)))])<|ae<|jg<|gY<|yk (v:=decide (c<n)) κ ?_
   cases hd:decide (c<n)with
   |false=>
    rw[hd]at ho
    simp only[cond_false,g_4]at ho
    refine w5 55 H [] [] κ<|iG hC λa w g hr=>wp_exit ⟨_,g,?_,hr,Fr.refl _ _ _⟩
    exact⟨(true,H),ho.symm,.inl ⟨rfl,rfl,rfl,rfl⟩⟩
   |true=>
    rw[hd]at ho
    simp only[cond_true]at ho
    obtain⟨lf,hlf,ho1⟩:=cW ho
    clear ho
    obtain⟨q1,hq1,ho⟩:=cW ho1
    clear ho1
    refine w5 55 H [0,1,2,4,12,13] (K4 p i l [(12,vI n),(13,vI c)]) κ<|iG hC λa w g hr=>wp_skip ⟨_,g,?_,hr,Fr.refl _ _ _⟩
    refine jg<|gY<|B6<|gY<|iG hC<|ah<|aK 2 (K23 p i l c n c [])<|ae<|jg<|gY<|w4 κ hC ?_
    generalize hK:(λb' s=>JE (λb' s=>Fa Tryz.prog l (CL l R jc ds [(i,zZ l i)]) b' _ s _) _ b' Exit.normal s)=K
    have hgo: ∀H',o=.inl (IntKind.wrap .i64 (c+1),H')->K true (sp 55 (K4 p i l [(12,vI n),(13,vI c),(53,vB false)]) H'):=λH' e=>by
     subst e
     rw[<-hK]
     refine jg<|yk (v:=false) κ<|iG hC λa w g hr=>wp_skip ⟨_,g,?_,hr,Fr.refl _ _ _⟩
     refine Ox<|jg<|iG hC<|ah<|aK 2 (K4 p i l [(12,vI n),(13,vI (IntKind.wrap .i64 (c+1)))])<|ae ?_
     exact⟨rfl,_,rfl,κ⟩
    have hleave: ∀H',o=.inr (false,H')->K false (sp 55 [(53,vB true)] H'):=λH' e=>by
     subst e
     rw[<-hK]
     refine jg<|yk (v:=true) κ<|gY<|iG hC<|ah<|aK 1 [(4,vB false)]<|ae<|jg<|iG hC λa w g hr=>wp_ret ⟨_,g,?_,hr,Fr.refl _ _ _⟩
     exact⟨(false,H'),rfl,.inr ⟨rfl,rfl,rfl,rfl,κ⟩⟩
    clear hK
    refine QK (b:=true) (λH2=>((bG 3 aM H2 p 0).bind λes=>
      cond (decide (c<(es.length:Int)))
       ((idx es c).bind λe=>(Y e H2).bind λy=>cond y.1 (some (.inl (IntKind.wrap .i64 (c+1),y.2))) (some (.inr (false,y.2))))
       (some (.inl (IntKind.wrap .i64 (c+1),H2))))=some o) 22 65535 55 (K23 p i l c n c [(31,vB false)]) (λH2 h2=>?_) λpart2=>?_
    .skip
     obtain⟨es,hx,h2⟩:=cW h2
     refine gL (d':=17) [16,17,18,19,20] (K23 p i l c n c [(31,vB false),(32,vI c),(36,.d (.ptr p 0))])<|sg 21 hC<|bb (d:=some 37) (s:=.bS (.az p 0) 3 (List.map aM.enc es)) (K23 p i l c n c [(31,vB false),(32,vI c),(37,.bS (.az p 0) 3 (List.map aM.enc es))]) (aV (c:=aM) hx κ)<|ae<|
      sg 22 hC<|bb (d:=some 38) (K23 p i l c n c [(31,vB false),(32,vI c),(38,vI (es.length:Int))]) (aG (enc:=aM.enc) (xs:=es) κ)<|ae<|gL (d':=13) [23,24] (K23 p i l c n c [(31,vB false),(40,vB (decide (c<(es.length:Int))))]) ?_
     cases hd2:decide (c<(es.length:Int))with
     |false=>
      rw[hd2]at h2
      simp only[cond_false,g_4]at h2
      exact gL (d':=0) [25,26,27,28,29,30,31,32,33,34,35,36,37] (K4 p i l [(12,vI n),(13,vI c),(53,vB false)])<|ny κ (hgo H2 h2.symm)
     |true=>
      rw[hd2]at h2
      simp only[cond_true]at h2
      obtain⟨e,he,h2⟩:=cW h2
      obtain⟨y,hy,h2⟩:=cW h2
      refine cg (b:=true) (H:=H2) 4 17179869183 55 (K24 p i l n c [(41,.d (.fn (.yield l) [] [])),(49,.d (ab e))]) ?_ λhABC=>?_
      .refine bD (i0:=34) (is:=[]) κ ⟨qP.yield (dd:=some 50) 55 [0,1,2,4,12,13,31,40,50] (K24 p i l n c [(50,vB y.1)]) κ (Mc (hY e H2 y hy)) κ κ ?_,trivial⟩
       cases hyb:y.1 with
       |true=>
        rw[hyb]at h2
        simp only[cond_true,g_4]at h2
        exact gL (d':=0) [35,36,37] (K4 p i l [(12,vI n),(13,vI c),(53,vB false)])<|ny κ (hgo y.2 h2.symm)
       |false=>
        rw[hyb]at h2
        simp only[cond_false,g_4]at h2
        exact gL (d':=0) [35,36,37] [(53,vB true)]<|ny κ (hleave y.2 h2.symm)
      refine cg (b:=true) (H:=H2) 5 8589934591 55 (K24 p i l n c [(41,.d (.fn (.yield l) [] [])),(48,.eS (.az p 0) (ab e).cells)]) (sg 33 hC<|aK 1 (K24 p i l n c [(41,.d (.fn (.yield l) [] [])),(49,.d (ab e))])<|ae<|nz hABC) λhAB=>?_
      refine gL (d':=8) [26,27,28,29,31] (K24 p i l n c [(45,.d (.ptr p 0)),(47,vI c)])<|bD (i0:=25) (is:=[30]) κ ⟨bh (aK 1 (K24 p i l n c [(41,.d (.fn (.yield l) [] [])),(45,.d (.ptr p 0)),(47,vI c)])<|ae ?_) hC,bh (bb (d:=some 46) (s:=.bS (.az p 0) 3 (List.map aM.enc es)) (K24 p i l n c [(46,.bS (.az p 0) 3 (List.map aM.enc es)),(47,vI c)]) (aV (c:=aM) hx κ)<|ae ?_) hC,trivial⟩
      .refine sg 30 hC<|bb (d:=some 46) (s:=.bS (.az p 0) 3 (List.map aM.enc es)) (K24 p i l n c [(41,.d (.fn (.yield l) [] [])),(46,.bS (.az p 0) 3 (List.map aM.enc es)),(47,vI c)]) (aV (c:=aM) hx κ)<|ae<|KH (dd:=some 48) (s:=.eS (.az p 0) (ab e).cells) 32 (K24 p i l n c [(41,.d (.fn (.yield l) [] [])),(48,.eS (.az p 0) (ab e).cells)]) (aB (enc:=aM.enc) (l:=some (.az p 0)) (n:=3) he κ)<|nz hAB
      .refine KH (dd:=some 48) (s:=.eS (.az p 0) (ab e).cells) 32 (K24 p i l n c [(48,.eS (.az p 0) (ab e).cells)]) (aB (enc:=aM.enc) (l:=some (.az p 0)) (n:=3) he κ)<|bD (i0:=25) (is:=[33]) κ ⟨bh (aK 1 (K24 p i l n c [(41,.d (.fn (.yield l) [] [])),(48,.eS (.az p 0) (ab e).cells)])<|ae<|nz hAB) hC,bh (aK 1 (K24 p i l n c [(49,.d (ab e))])<|ae ?_) hC,trivial⟩
       exact sg 25 hC<|aK 1 (K24 p i l n c [(41,.d (.fn (.yield l) [] [])),(49,.d (ab e))])<|ae<|nz hABC
    refine gL (d':=37) [0] (K23 p i l c n c [(16,.d (.ptr p 0))])<|sg 1 hC<|fX (ls:=[]) (some 17) (K23 p i l c n c [(17,vB lf)]) (eC hlf)<|ae<|gL (d':=34) [2,3] (K23 p i l c n c [(19,vB (!lf))]) ?_
    cases lf with
    |true=>
     simp only[cond_true,g_4]at hq1
     subst hq1
     simp only[cond_true]at ho
     exact gL (d':=22) [4,5,6,7,8,9,10,11,12,13,14,15] (K23 p i l c n c [(31,vB false)])<|nz (part2 H ho)
    |false=>
     simp only[cond_false]at hq1
     obtain⟨ks,hks,hq1⟩:=cW hq1
     obtain⟨k0,hk,hq1⟩:=cW hq1
     obtain⟨k,rfl,hq1⟩:=cW hq1
     refine cg (b:=true) (H:=H) 26 4095 55 (K23 p i l c n c [(19,vB true),(20,.d (zZ l i)),(27,.d (.ptr k 0))]) ?_ λhABC=>?_
     .refine bD (i0:=12) (is:=[]) κ ⟨qP.call (dd:=some 28) 55 [0,1,2,4,5,12,13,19,28] (K23 p i l c n c [(19,vB true),(28,vB q1.1)]) (ih k H q1 hq1) κ κ κ ?_,trivial⟩
      cases hqb:q1.1 with
      |true=>
       rw[hqb]at ho
       simp only[cond_true]at ho
       exact gL (d':=22) [13,14,15] (K23 p i l c n c [(31,vB false)])<|nz (part2 q1.2 ho)
      |false=>
       rw[hqb]at ho
       simp only[cond_false,g_4]at ho
       exact gL (d':=0) [13,14,15,16,17,18,19,20,21,22,23,24,25,26,27,28,29,30,31,32,33,34,35,36,37] [(53,vB true)]<|ny κ (hleave q1.2 ho.symm)
     refine cg (b:=true) (H:=H) 27 2047 55 (K23 p i l c n c [(19,vB true),(20,.d (zZ l i)),(26,.eS (.az p 1) [cP.enc (some k)])]) (sg 11 hC<|aK 1 (K23 p i l c n c [(19,vB true),(20,.d (zZ l i)),(27,.d (.ptr k 0))])<|ae<|nz hABC) λhAB=>?_
     refine gL (d':=30) [5,6,7,9] (K23 p i l c n c [(19,vB true),(23,.d (.ptr p 1)),(25,vI c)])<|bD (i0:=4) (is:=[8]) κ ⟨rS (dd:=some 20) (j:=i) (y:=zZ l i) κ (.head _)<|Ch 55 H [0,1,2,4,5,12,13,19,20,23,25] (K23 p i l c n c [(19,vB true),(20,.d (zZ l i)),(23,.d (.ptr p 1)),(25,vI c)]) κ ?_,bh (bb (d:=some 24) (s:=.bS (.az p 1) 1 (List.map cP.enc ks)) (K23 p i l c n c [(19,vB true),(24,.bS (.az p 1) 1 (List.map cP.enc ks)),(25,vI c)]) (aV (c:=cP) hks κ)<|ae ?_) hC,trivial⟩
     .refine sg 8 hC<|bb (d:=some 24) (s:=.bS (.az p 1) 1 (List.map cP.enc ks)) (K23 p i l c n c [(19,vB true),(20,.d (zZ l i)),(24,.bS (.az p 1) 1 (List.map cP.enc ks)),(25,vI c)]) (aV (c:=cP) hks κ)<|ae<|KH (dd:=some 26) (s:=.eS (.az p 1) [cP.enc (some k)]) 10 (K23 p i l c n c [(19,vB true),(20,.d (zZ l i)),(26,.eS (.az p 1) [cP.enc (some k)])]) (cr (l:=some (.az p 1)) (n:=1) hk κ)<|nz hAB
     .refine KH (dd:=some 26) (s:=.eS (.az p 1) [cP.enc (some k)]) 10 (K23 p i l c n c [(19,vB true),(26,.eS (.az p 1) [cP.enc (some k)])]) (cr (l:=some (.az p 1)) (n:=1) hk κ)<|bD (i0:=4) (is:=[11]) κ ⟨rS (dd:=some 20) (j:=i) (y:=zZ l i) κ (.head _)<|Ch 55 H [0,1,2,4,5,12,13,19,20,26] (K23 p i l c n c [(19,vB true),(20,.d (zZ l i)),(26,.eS (.az p 1) [cP.enc (some k)])]) κ<|nz hAB,bh (aK 1 (K23 p i l c n c [(19,vB true),(27,.d (.ptr k 0))])<|ae ?_) hC,trivial⟩
      exact bD (i0:=4) (is:=[]) κ ⟨rS (dd:=some 20) (j:=i) (y:=zZ l i) κ (.head _)<|Ch 55 H [0,1,2,4,5,12,13,19,20,27] (K23 p i l c n c [(19,vB true),(20,.d (zZ l i)),(27,.d (.ptr k 0))]) κ<|nz hABC,trivial⟩
  .rcases hh with⟨h1,rfl,rfl,rfl⟩|⟨h1,rfl,rfl,h2,h3⟩
   .refine Ow<|jg<|gY<|iG hC<|ah<|aK 1 [(4,vB true)]<|ae<|jg<|iG hC λa w g hr=>wp_ret ⟨_,g,?_,hr,Fr.refl _ _ _⟩
    exact⟨h1.symm,.inr rfl,rfl,by rw[h1];kernel_rfl⟩
   .exact⟨h1.symm,.inr rfl,h2,by rw[h1];exact h3⟩
theorem Dk(H:Hp)(y z:D):GD (H++[.cells [.d z]]) H.length 0 [y]=some (H++[.cells [.d y]]):=by
 have:mn (H++[aT.cells [SV.d z]]) H.length=some [SV.d z]:=by simp[mn]
 simp[GD,this,setCells]
theorem CU(hY: ∀x H q,Y x H=some q->Rf Tryz.prog l (CL l R jc ds []) [.d (ab x)] H q.2 q.1){p:Nat}{H:Hp}{q:Bool×Hp}(h:sD fuel Y p H=some q):
  Pt Tryz.prog l (CL l R jc ds []) 78 [.d (.fn (.yield l) [] []),.d (.fG [.ptr p 0])] H q.2 q.1 (λ_=>True):=by
 have hC: ∀b,Mz (CL l R jc ds [] b):=λb=>CL.fr
 have hC2: ∀b,Mz (CL l R jc ds [(H.length,zZ l H.length)] b):=λb=>CL.fr
 refine Fb Tryz.func78 rfl rfl<|w5 8 H [0,1] [(0,.d (.fn (.yield l) [] [])),(1,.d (.fG [.ptr p 0]))] κ<|gY<|iG hC<|ah<|
  Cf 8 H (d:=2) (ds:=[.fn (.yield l) [] []]) [1,2] [(1,.d (.fG [.ptr p 0])),(2,.d (yd l))] κ κ<|ae<|jg<|gY<|iG hC<|ah<|
  qT (n:=8) (H:=H++[.cells [.d .lA]]) (d:=some 3) (b:=false) [] [1,2,3] [(1,.d (.fG [.ptr p 0])),(2,.d (yd l)),(3,.d (.ptr H.length 0))] (q:=(H++[.cells [.d .lA]],H.length)) rfl κ rfl κ<|ae<|jg<|gY<|iG hC<|ah<|
  aK 1 [(1,.d (.fG [.ptr p 0])),(2,.d (yd l)),(3,.d (.ptr H.length 0)),(4,.d (zZ l H.length))]<|
  DN (n:=8) (H0:=H++[.cells [.d .lA]]) (H:=H++[.cells [.d (zZ l H.length)]]) (y:=zZ l H.length) (i:=H.length) (off:=0) [1,3] [(1,.d (.fG [.ptr p 0])),(3,.d (.ptr H.length 0))] (Dk H _ _) κ κ<|ae<|jg<|
  Mh H.length (zZ l H.length) 8 (H++[.hole]) [1,3] [(1,.d (.fG [.ptr p 0])),(3,.d (.ptr H.length 0))] (by simp[sp]) κ ?_<|E9<|
  yy κ<|rS (dd:=some 5) (j:=H.length) (y:=zZ l H.length) κ (.head _)<|QJ 8 (H++[.hole]) [1,5] [(1,.d (.fG [.ptr p 0])),(5,.d (zZ l H.length))] κ<|
  yy κ<|bh (aK 1 [(5,.d (zZ l H.length)),(6,.d (.ptr p 0))]<|ae ?_) hC2
 .have e:(H++[aT.cells [SV.d (zZ l H.length)]]).set H.length .hole=H++[.hole]:=by simp
  show bx 8 [1,3] ⟨_,(H++[aT.cells [SV.d (zZ l H.length)]]).set H.length .hole⟩=_
  rw[e]
  kernel_rfl
 .refine yy κ<|qP.call (dd:=some 7) 8 [7] [(7,vB q.1)] (Io hY fuel p _ q h) κ κ κ<|Pd κ ⟨rfl,.inl rfl,rfl⟩
def lT(fuel:Nat)(Y:Entry->Hp->Option Hp)(p:Option Nat)(H:Hp):Option Hp:=p.bind λp=>(sD fuel (λe H=>(Y e H).map (Prod.mk true)) p H).bind λq=>cond q.1 (some q.2) none
theorem zu{fuel:Nat}{Y:Entry->Hp->Option Hp}{p:Option Nat}{H r:Hp}{l:Nat}{R:Loop}{ds:List (Nat×D)}(hC:Mz (tH l R ds))(hY: ∀x H H',Y x H=some H'->YB Tryz.prog (tH l R ds) l [.d (ab x)] H H')(h:lT fuel Y p H=some r):
  TK Tryz.prog (tH l R ds) 78 (.d (.fn (.yield l) [] [])::[.d (.fG [cP.enc p])]) H r:=by
 unfold lT at h
 obtain⟨p,rfl,h1⟩:=cW h
 obtain⟨⟨b,H'⟩,hq,h2⟩:=cW h1
 cases b with
 |false=>cases h2
 |true=>
  cases h2
  refine HC (jc:=.skip) (CU (λx H q hq=>?_) hq)
  simp only[g_2]at hq
  obtain⟨H2,h2,rfl⟩:=hq
  exact Jk (hY x H H2 h2)
def iX(fuel:Nat)(Y:Entry->Hp->Option (Bool×Hp))(p:Option Nat)(H:Hp):Option (Bool×Hp):=p.bind λp=>sD fuel Y p H
theorem jT{fuel:Nat}{Y:Entry->Hp->Option (Bool×Hp)}{p:Option Nat}{H:Hp}{q:Bool×Hp}{l:Nat}{R:Loop}{jc:Code}{ds:List (Nat×D)}(hY: ∀x H q,Y x H=some q->Rf Tryz.prog l (CL l R jc ds []) [.d (ab x)] H q.2 q.1)(h:iX fuel Y p H=some q):
  Pt Tryz.prog l (CL l R jc ds []) 78 (.d (.fn (.yield l) [] [])::[.d (.fG [cP.enc p])]) H q.2 q.1 (λ_=>True):=by
 unfold iX at h
 obtain⟨p,rfl,h1⟩:=cW h
 exact CU hY h1
end
def pZ(fuel:Nat):Option (Unit):=
 some ()
def j6(x0:Entry):SV:=.box [.d (.list 3 (List.map ar x0.Row)),vI x0.Key,vI x0.Number]
def ky(x0:Entry):SV:=.d (.list 3 (List.map ar x0.Row))
def je(x0:(Hp×Nat))(x1:(List Value)):SV:=.bS (.az x0.2 0) 3 (List.map ar x1)
def TT:SV:=.box [.d (.fn (.func 96) [] []),.d (.fn (.func 97) [] []),.d (.fn (.func 98) [] []),.d (.fn (.func 100) [] [])]
section
attribute [local irreducible] bX jR lM lQ SW uS
theorem xx(h:pZ fuel=some r):PC Tryz.prog 81 [] (.d (.agg [.fn (.func 96) [] [],.fn (.func 97) [] [],.fn (.func 98) [] [],.fn (.func 100) [] []])):=by
 refine aW Tryz.func81 rfl λH=>?_
 unfold pZ at h
 exact aH 2 H []<|au 2<|al<|E0
def kO(fuel:Nat)(p0:Value)(p1:Value):Option (Int):=
 some (IntKind.wrap .i64 (p0.N - p1.N))
theorem vh(h:kO fuel p0 p1=some r):PC Tryz.prog 96 [.d (ar p0),.d (ar p1)] (vI r):=by
 refine aW Tryz.func96 rfl λH=>?_
 unfold kO at h
 exact aH 10 H [(0,Jj p0),(1,Jj p1)]<|au 2<|al<|iI h▸E0
def kN(fuel:Nat)(p0:Value)(p1:Value):Option (Int):=
 some (IntKind.wrap .i64 (p1.N - p0.N))
theorem vg(h:kN fuel p0 p1=some r):PC Tryz.prog 97 [.d (ar p0),.d (ar p1)] (vI r):=by
 refine aW Tryz.func97 rfl λH=>?_
 unfold kN at h
 exact aH 10 H [(0,Jj p0),(1,Jj p1)]<|au 2<|al<|iI h▸E0
end
theorem sk(a b:ByteArray)(w:World):
  Calls Tryz.prog 113 #[.string a,.string b] w λe w'=>e=.returned (.int .i64 (Lib.compareBytes a.data.toList b.data.toList))/\w'=w:=by
 go_enter Tryz.func113,Tryz.ntmps113
 go_wp2
 rw[run_callFunc_extern Tryz.func127 κ κ κ (e:=Extern.BytealgCompare.compare) κ,Lib.run_compareString]
 simp only[Result.andThen]
 rw[Oper.upon_value]
 go_wp2
 go_ret
 exact⟨rfl,rfl⟩
theorem Qq(h:RL fuel p0 p1=some r):PC Tryz.prog 113 [vS p0,vS p1] (vI r):=Qp h sk
def kQ(fuel:Nat)(p0:(List UInt8))(p1:(List UInt8)):Option (Int):=
 (RL fuel p0 p1).bind λr1=>
 some r1
section
attribute [local irreducible] bX jR lM lQ SW uS
theorem o0(h:kQ fuel p0 p1=some r):PC Tryz.prog 99 [vS p0,vS p1] (vI r):=by
 refine aW Tryz.func99 rfl λH=>?_
 unfold kQ at h
 exact aH 8 H [(0,vS p0),(1,vS p1)]<|au 1<|ax<|aa 2<|bI h λr1 hr h=>bw (Qq hr)<|aa 1<|ak<|al<|iI h▸E0
def kM(fuel:Nat)(p0:Value)(p1:Value):Option (Int):=
 (kQ fuel p0.S p1.S).bind λr1=>
 some r1
theorem ve(h:kM fuel p0 p1=some r):PC Tryz.prog 98 [.d (ar p0),.d (ar p1)] (vI r):=by
 refine aW Tryz.func98 rfl λH=>?_
 unfold kM at h
 exact aH 10 H [(0,Jj p0),(1,Jj p1)]<|au 1<|ax<|aa 4<|bI h λr1 hr h=>bw (o0 hr)<|aa 1<|ak<|al<|iI h▸E0
def kL(fuel:Nat)(p0:Value)(p1:Value):Option (Int):=
 (kQ fuel p1.S p0.S).bind λr1=>
 some r1
theorem vd(h:kL fuel p0 p1=some r):PC Tryz.prog 100 [.d (ar p0),.d (ar p1)] (vI r):=by
 refine aW Tryz.func100 rfl λH=>?_
 unfold kL at h
 exact aH 10 H [(0,Jj p0),(1,Jj p1)]<|au 1<|ax<|aa 4<|bI h λr1 hr h=>bw (o0 hr)<|aa 1<|ak<|al<|iI h▸E0
def qg(fuel:Nat)(p0:ay)(p1:(List Value))(p2:(List Value))(y2:Int):Option ((Int)⊕((Unit)⊕((Int)))):=
 bif (decide (y2<(p0.aD.length:Int)))then
  (idx p0.aD y2).bind λx3=>
  bp (λ(j4:Int)=>
   bif (j4==0)then
    (idx p1 y2).bind λx7=>
    (idx p2 y2).bind λx8=>
    (kO fuel x7 x8).bind λr9=>
    bif (r9 !=0)then
     some (.inr (.inr r9))
    else
     some (.inl (IntKind.wrap .i64 (y2+1)))
   else
    bif (j4==1)then
     (idx p1 y2).bind λx10=>
     (idx p2 y2).bind λx11=>
     (kN fuel x10 x11).bind λr12=>
     bif (r12 !=0)then
      some (.inr (.inr r12))
     else
      some (.inl (IntKind.wrap .i64 (y2+1)))
    else
     bif (j4==2)then
      (idx p1 y2).bind λx13=>
      (idx p2 y2).bind λx14=>
      (kM fuel x13 x14).bind λr15=>
      bif (r15 !=0)then
       some (.inr (.inr r15))
      else
       some (.inl (IntKind.wrap .i64 (y2+1)))
     else
      bif (j4==3)then
       (idx p1 y2).bind λx16=>
       (idx p2 y2).bind λx17=>
       (kL fuel x16 x17).bind λr18=>
       bif (r18 !=0)then
        some (.inr (.inr r18))
       else
        some (.inl (IntKind.wrap .i64 (y2+1)))
      else
       none) λjp5=>
  (idx p0.Down y2).bind λx6=>
  bif x6 then
   jp5 (IntKind.wrap .i64 ((IntKind.wrap .i64 (2 * (IntKind.wrap .i64 (x3 - 1))))+1))
  else
   jp5 (IntKind.wrap .i64 (2 * (IntKind.wrap .i64 (x3 - 1))))
 else
  some (.inr (.inl ()))
def oa(fuel:Nat)(p0:ay)(p1:(List Value))(p2:(List Value)):Option (Int):=
 (pZ fuel).bind λr1=>
 (iter (qg fuel p0 p1 p2) fuel 0).bind (Sum.elim (λv20=>
  some 0) (λr21=>
  some r21))
def K40:=λa0 a1 a2 a3 a4 a5 a6 a7 (t:SL)=>((1,Z9 a0)::(2,Z9 a1)::(3,Z1 a2)::(7,TT)::(8,vI a3)::(14,TJ a4)::(15,Ui a5)::(16,vI a6)::(31,vI a7)::t:SL)
theorem lj(h:oa fuel p0 p1 p2=some r):PC Tryz.prog 52 [.d (cD p0),.d (.list 3 (List.map ar p1)),.d (.list 3 (List.map ar p2))] (vI r):=by
 refine aW Tryz.func52 rfl λH=>?_
 unfold oa at h
 exact aH 47 H [(0,Z2 p0),(1,Z9 p1),(2,Z9 p2)]<|au 1<|ax<|bI h λr1 hr h=>bw (xx hr)<|aa 2<|ak<|an<|ax<|aa 2<|aw (aG (enc:=(D.int .i64)) (xs:=p0.aD))<|aa 1<|ak<|aI<|bI h λz19 hit h=>eY 47 H [1,2,3,7,14,15,16] (λy2=>[(1,Z9 p1),(2,Z9 p2),(3,Z1 p0),(7,TT),(14,TJ p0),(15,Ui p0),(16,vI y2)]) (λb e s=>((∃v20,b=(.inl v20)/\(e=.exit 0/\s=(sp 47 [] H)))\/(∃r21,b=(.inr r21)/\(e=.ret/\dp Tryz.prog Tryz.f52.results.toList H (vI r21) .ret s)))) hit κ (λy2 o h=>by unfold qg at h;exact au 1<|an<|B4 (decide (y2<(p0.aD.length:Int))) (λhc=>have h:=fP hc h;ao<|ag<|an<|aI<|ax<|aa 1<|bI h λx3 hx h=>aw (s:=bc none (Go.Sh.D.cells ((D.int .i64) x3))) (aB (n:=1) hx)<|aa 3<|ak<|au 1<|eb 47 H [1,2,3,7,8,10,14,15,16] (λ(j4:Int)=>[(1,Z9 p1),(2,Z9 p2),(3,Z1 p0),(7,TT),(8,vI y2),(10,vI j4),(14,TJ p0),(15,Ui p0),(16,vI y2)]) h (λj4 h=>an<|fM<|Sk 1 (K40 p1 p2 p0 y2 p0 p0 y2 j4 [])<|(by rcases hc:(j4==0)with _|_;replace h:=fQ hc h;rcases hc:(j4==1)with _|_;replace h:=fQ hc h;rcases hc:(j4==2)with _|_;replace h:=fQ hc h;rcases hc:(j4==3)with _|_;replace h:=fQ hc h;cases h;exact have h:=fP hc h;pD (λe=>(sp 47 (K40 p1 p2 p0 y2 p0 p0 y2 e []) H)) κ hc<|aF 4<|bI h λx16 hx h=>bm (s:=bc none (ar x16).cells) (aB (n:=3) hx)<|aF 3<|bI h λx17 hx h=>bm (s:=bc none (ar x17).cells) (aB (n:=3) hx)<|aF 1<|bI h λr18 hr h=>fk (vd hr)<|aF 1<|bF<|ag<|au 1<|B4 (r18 !=0) (λhc=>have h:=fP hc h;au 1<|al<|aJ<|aq<|aq<|LR h (.inr (⟨r18,rfl,rfl,dp.ret [] κ κ⟩))) (λhc=>have h:=fQ hc h;ao<|aL<|ag<|ah<|aa 2<|ae<|LQ h);exact have h:=fP hc h;pD (λe=>(sp 47 (K40 p1 p2 p0 y2 p0 p0 y2 e []) H)) κ hc<|aF 4<|bI h λx13 hx h=>bm (s:=bc none (ar x13).cells) (aB (n:=3) hx)<|aF 3<|bI h λx14 hx h=>bm (s:=bc none (ar x14).cells) (aB (n:=3) hx)<|aF 1<|bI h λr15 hr h=>fk (ve hr)<|aF 1<|bF<|ag<|au 1<|B4 (r15 !=0) (λhc=>have h:=fP hc h;au 1<|al<|aJ<|aq<|aq<|LR h (.inr (⟨r15,rfl,rfl,dp.ret [] κ κ⟩))) (λhc=>have h:=fQ hc h;ao<|aL<|ag<|ah<|aa 2<|ae<|LQ h);exact have h:=fP hc h;pD (λe=>(sp 47 (K40 p1 p2 p0 y2 p0 p0 y2 e []) H)) κ hc<|aF 4<|bI h λx10 hx h=>bm (s:=bc none (ar x10).cells) (aB (n:=3) hx)<|aF 3<|bI h λx11 hx h=>bm (s:=bc none (ar x11).cells) (aB (n:=3) hx)<|aF 1<|bI h λr12 hr h=>fk (vg hr)<|aF 1<|bF<|ag<|au 1<|B4 (r12 !=0) (λhc=>have h:=fP hc h;au 1<|al<|aJ<|aq<|aq<|LR h (.inr (⟨r12,rfl,rfl,dp.ret [] κ κ⟩))) (λhc=>have h:=fQ hc h;ao<|aL<|ag<|ah<|aa 2<|ae<|LQ h);exact have h:=fP hc h;pD (λe=>(sp 47 (K40 p1 p2 p0 y2 p0 p0 y2 e []) H)) κ hc<|aF 4<|bI h λx7 hx h=>bm (s:=bc none (ar x7).cells) (aB (n:=3) hx)<|aF 3<|bI h λx8 hx h=>bm (s:=bc none (ar x8).cells) (aB (n:=3) hx)<|aF 1<|bI h λr9 hr h=>fk (vh hr)<|aF 1<|bF<|ag<|au 1<|B4 (r9 !=0) (λhc=>have h:=fP hc h;au 1<|al<|aJ<|aq<|aq<|LR h (.inr (⟨r9,rfl,rfl,dp.ret [] κ κ⟩))) (λhc=>have h:=fQ hc h;ao<|aL<|ag<|ah<|aa 2<|ae<|LQ h))) λjp5 h=>ax<|aa 3<|bI h λx6 hx h=>aw (s:=bc none (Go.Sh.D.cells (D.bool x6))) (aB (n:=1) hx)<|aa 1<|ak<|B4 x6 (λhc=>have h:=fP hc h;ah<|aa 3<|ae<|JQ [] h) (λhc=>have h:=fQ hc h;ao<|JQ [] h)) (λhc=>have h:=fQ hc h;aH 47 H []<|bN<|aY<|aY<|LR h (.inl ⟨(),rfl,rfl,rfl⟩))) (by rintro _ _ (⟨v20,rfl,rfl,rfl⟩|⟨r21,rfl,rfl,hE⟩);exact have h:=jv h;bq<|ag<|au 1<|al<|iI h▸E0;exact have h:=ju h;aJ<|aq<|(by cases h;exact hE))
def kC(fuel:Nat)(q1:(Hp×Nat))(q2:(Hp×Nat))(q3:(Hp×Nat))(e9:Entry)(G10:Hp):Option (Bool×Hp):=
 (bz cP.cell G10 q1.2 0).bind λx11=>
 x11.bind λi12=>
 (bz cV.cells G10 i12 0).bind λx13=>
 (bG 3 og G10 q2.2 0).bind λx14=>
 (oa fuel x13 e9.Row x14).bind λr15=>
 bif (r15==0)then
  (dW cB G10 q3.2 0 true).bind λH16=>
  some (false,H16)
 else
  some (true,G10)
def kW(fuel:Nat)(p0:Nat)(p1:(List Value))(H:Hp):Option ((Bool)×Hp):=
 (ko H (.cells [.d (.ptr p0 0)])).bind λq1=>
 (ko q1.1 (.cells [.d (.list 3 (List.map ar p1))])).bind λq2=>
 (ko q2.1 (.cells [.d (.bool false)])).bind λq3=>
 (bz cP.cell q3.1 q1.2 0).bind λx4=>
 x4.bind λi5=>
 (bz cP.cell q3.1 i5 4).bind λx6=>
 x6.bind λi7=>
 (kU fuel i7 q3.1).bind λr8=>
 (iX fuel (kC fuel q1 q2 q3) (some i7) q3.1).bind λq17=>
 bif q17.1 then
  (gn 1 cB.cell q17.2 q3.2).bind λq18=>
  some (false,q18.2)
 else
  (gn 1 cB.cell q17.2 q3.2).bind λq19=>
  some (q19.1,q19.2)
def K30:=λa0 a1 (t:SL)=>((2,.d (.ptr a0 0))::(3,.d (.ptr a1 0))::t:SL)
theorem uE(h:kW fuel p0 p1 H=some r):SC Tryz.prog false 61 [.d (.ptr p0 0),.d (.list 3 (List.map ar p1))] H (vB r.1) r.2:=by
 refine nX Tryz.func61 rfl ?_
 unfold kW at h
 exact tv 21 H [0,1] [(0,.d (.ptr p0 0)),(1,Z9 p1)] κ<|dz<|ah<|aK 3 [(2,.box [.d (.ptr p0 0)]),(3,Qw p1),(4,.box [vB false])]<|ak<|bI h λq1 hq h=>cN hq 2 21 [] [2,3,4] [(2,.d (.ptr q1.2 0)),(3,Qw p1),(4,.box [vB false])] κ (by cases hq;kernel_rfl)<|bI h λq2 hq h=>cN hq 3 21 [] [2,3,4] (K30 q1.2 q2.2 [(4,.box [vB false])]) κ (by cases hq;kernel_rfl)<|bI h λq3 hq h=>cN hq 4 21 [] [2,3,4] (K30 q1.2 q2.2 [(4,.d (.ptr q3.2 0))]) κ (by cases hq;kernel_rfl)<|pA<|dz<|ah<|bI h λx4 hx h=>aw (s:=.d (cP.enc x4)) (aA hx)<|bI h λi5 hp_i5 h=>aw (s:=.d (.ptr i5 0)) (ba hp_i5)<|aa 1<|bI h λx6 hx h=>qd (s:=.d (cP.enc x6)) [2,3,4,9] (aA hx)<|bI h λi7 hp_i7 h=>bA x6 (λp=>(sp 21 (K30 q1.2 q2.2 [(4,.d (.ptr q3.2 0)),(9,.d (cP.enc p))]) q3.1)) κ hp_i7<|bI h λr8 hr h=>fX (ls:=[]) (some 10) (K30 q1.2 q2.2 [(4,.d (.ptr q3.2 0)),(10,LV i7)]) (kB hr)<|ak<|nW<|bI h λq17 hit h=>oH (f:=78) (caps:=[.fG [.ptr i7 0]]) (H':=q17.2) (b:=q17.1) (jc:=.ret) [(2,.ptr q1.2 0),(3,.ptr q2.2 0),(4,.ptr q3.2 0)] κ κ κ κ (λl R cG hpe hps has hbd hsz=>jT (λe9 G10 q9 h=>by unfold kC at h;exact mw (n0:=21) cG hpe hps (hsz.trans (kR _ _ _)) (K30 q1.2 q2.2 [(4,.d (.ptr q3.2 0)),(11,.d (.agg [.list 3 (List.map ar e9.Row),.int .i64 e9.Key,.int .i64 e9.Number]))]) (qW ⟨.inr ⟨by decide,_,rfl,.head _⟩,⟨.inr ⟨by decide,_,rfl,.tail _ (.head _)⟩,⟨.inr ⟨by decide,_,rfl,.tail _ (.tail _ (.head _))⟩,⟨.inl ⟨rfl,rfl⟩,trivial⟩⟩⟩⟩)<|(by rw[has,hbd];exact lK κ<|aK 2 (K30 q1.2 q2.2 [(4,.d (.ptr q3.2 0)),(5,j6 e9)])<|ae<|rQ<|mB<|bI h λx11 hx11 h=>bI h λi12 hp_i12 h=>bI h λx13 hx13 h=>bI h λx14 hx_6 h=>bI h λr15 hr_7 h=>uh 21 G10 [2,3,4,5] (K30 q1.2 q2.2 [(4,.d (.ptr q3.2 0)),(5,j6 e9)]) κ<|qM 21 G10 [(4,.d (.ptr q3.2 0)),(20,vB (r15==0))] κ (λX hX=>by subst hX;exact mD [] [(0,eV (.d (cP.enc x11))),(1,eV (.d (.ptr i12 0))),(3,eV (.d (.agg [.list 1 (List.map (D.int .i64) x13.aD),.list 1 (List.map D.bool x13.Down),.int .i64 x13.ee]))),(6,eV (.bS (.az q2.2 0) 3 (List.map ar x14))),(7,eV _)] ⟨uo (c:=cP.cell) hx11,HX (p:=x11) hp_i12,uo (c:=cV.cells) hx13,KO (c:=og) hx_6,zt (ls:=[(.az q2.2 0)]) (lj hr_7),trivial⟩) (ag<|pz (b:=(r15==0)) κ (λhc=>have h:=fP hc h;mB<|nV κ<|bI h λH16 hx h=>nY 21 H16 [4] [(4,.d (.ptr q3.2 0))] hx κ κ<|ak<|Hw<|aJ<|(by cases h;exact⟨rfl,.inr ⟨rfl,rfl⟩⟩)) (λhc=>have h:=fQ hc h;oR<|aL<|(by cases h;exact⟨rfl,.inl ⟨rfl,rfl⟩⟩))))) hit) (λhb=>have h:=fP hb h;aL<|ag<|(by intro ds;exact bI h λq18 hqq18 h=>ug (jM hqq18 4 21 [2,3,4,10] (K30 q1.2 q2.2 [(4,.box [vB q18.1]),(10,LV i7)]) κ κ κ)<|qK<|lJ<|yw 1<|aK 1 [(4,.box [vB false])]<|ae<|Ib.D<|ag<|qL<|iI h▸E0)) (λhb=>have h:=fQ hb h;bI h λq19 hqq19 h=>⟨.ret,_,rfl,(jM hqq19 4 21 [2,3,4,10] (K30 q1.2 q2.2 [(4,.box [vB q19.1]),(10,LV i7)]) κ κ κ),(aJ<|aq<|iI h▸E0)⟩)
def dv(fuel:Nat)(p0:(List Value)):Option ((List Value)):=
 IC p0 λb1=>
 bif b1 then
  some ([]:List Value)
 else
  et (decide ((([]:List Value)++p0).length<=room))<|
  some (([]:List Value)++p0)
theorem kj(h:dv fuel p0=some r):PC Tryz.prog 63 [.d (.list 3 (List.map ar p0))] (.own 3 (List.map ar r)):=by
 refine aW Tryz.func63 rfl λH=>?_
 unfold dv at h
 exact aH 8 H [(0,Z9 p0)]<|au 1<|an<|ax<|aU [] [0,3] 1<|qS (xs:=List.map ar p0) (d:=some 4) (e:=true) 8 H [0,4] (λb1=>[(0,Z9 p0),(4,vB b1)]) κ (λ_=>by kernel_rfl) (λb1 hnil=>have h:=sQ h b1 (λe=>q_6.1 (hnil e));ak<|aQ h (λh=>au 1<|al<|aq<|iI h▸E0) (λh=>ao<|ag<|ax<|aP [5] 2<|nj h λhk h=>fx 5 3 (List.map ar (([]:List Value)++p0)) (bt) (bZ hk)<|aP [5] 1<|ak<|al<|iI h▸E0))
def mT(fuel:Nat)(p0:ay)(p1:Entry)(p2:Entry):Option (Int):=
 (oa fuel p0 p1.Row p2.Row).bind λr1=>
 bif (r1 !=0)then
  some r1
 else
  bif (p0.ee==2)then
   some (IntKind.wrap .i64 (p2.Number - p1.Number))
  else
   some (IntKind.wrap .i64 (p1.Number - p2.Number))
def lI(x0:Entry):SV:=.d (.agg [.list 3 (List.map ar x0.Row),.int .i64 x0.Key,.int .i64 x0.Number])
def Hk(x0:(List Entry)):SV:=.d (.list 3 (List.map ab x0))
def Tb(x0:(Option Nat)):SV:=.d (.fn (.func 116) [] [.fG [cP.enc x0]])
theorem rk(h:mT fuel p0 p1 p2=some r):PC Tryz.prog 94 [.d (cD p0),.d (ab p1),.d (ab p2)] (vI r):=by
 refine aW Tryz.func94 rfl λH=>?_
 unfold mT at h
 exact aH 30 H [(0,Z2 p0),(1,lI p1),(2,lI p2)]<|au 1<|an<|ax<|aa 5<|bI h λr1 hr h=>bw (lj hr)<|aa 1<|ak<|au 1<|aQ h (λh=>au 1<|al<|aq<|iI h▸E0) (λh=>ao<|ag<|an<|au 1<|aQ h (λh=>au 1<|al<|aq<|iI h▸E0) (λh=>ao<|ag<|au 1<|al<|iI h▸E0))
def lk(fuel:Nat)(p0:Entry)(p1:Entry)(p2:(Option Nat))(H:Hp):Option (Int):=
 p2.bind λi1=>
 (bz cV.cells H i1 0).bind λx2=>
 (mT fuel x2 p0 p1).bind λr3=>
 some r3
theorem sE(h:lk fuel p0 p1 p2 H=some r):SC Tryz.prog true 116 [.d (ab p0),.d (ab p1),.d (.fG [cP.enc p2])] H (vI r) H:=by
 refine fN Tryz.func116 rfl ?_
 unfold lk at h
 exact aH 13 H [(0,lI p0),(1,lI p1),(2,.d (.fG [cP.enc p2]))]<|au 1<|an<|fM<|aF 1<|bI h λi1 hp_i1 h=>bm (s:=.d (.ptr i1 0)) (ba hp_i1)<|aF 1<|bI h λx2 hx h=>bm (s:=.d (.agg [.list 1 (List.map (D.int .i64) x2.aD),.list 1 (List.map D.bool x2.Down),.int .i64 x2.ee])) (aA hx)<|aF 2<|bI h λr3 hr h=>fk (rk hr)<|aF 1<|bF<|ag<|al<|iI h▸E0
def bL(fuel:Nat)(p0:(List Entry))(p1:Entry)(c2_0:(Option Nat))(H:Hp)(y1:Int×Int):Option ((Int×Int)⊕(Int)):=
 bif (decide (y1.1<y1.2))then
  (idx p0 (IntKind.wrap .i64 (Int.fdiv (IntKind.wrap .u64 (IntKind.wrap .i64 (y1.1+y1.2))) (2 ^ 1)))).bind λx2=>
  (lk fuel x2 p1 c2_0 H).bind λr3=>
  bif (decide (r3<0))then
   some (.inl ((IntKind.wrap .i64 ((IntKind.wrap .i64 (Int.fdiv (IntKind.wrap .u64 (IntKind.wrap .i64 (y1.1+y1.2))) (2 ^ 1)))+1)),y1.2))
  else
   some (.inl (y1.1,(IntKind.wrap .i64 (Int.fdiv (IntKind.wrap .u64 (IntKind.wrap .i64 (y1.1+y1.2))) (2 ^ 1)))))
 else
  some (.inr y1.1)
def cO(fuel:Nat)(p0:(List Entry))(p1:Entry)(c2_0:(Option Nat))(H:Hp):Option (Int×Bool):=
 (iter (bL fuel p0 p1 c2_0 H) fuel (0,(p0.length:Int))).bind λv5=>
 bif (decide (v5<(p0.length:Int)))then
  (idx p0 v5).bind λx6=>
  (lk fuel x6 p1 c2_0 H).bind λr7=>
  some (v5,(r7==0))
 else
  some (v5,false)
theorem jo(h:cO fuel p0 p1 c2_0 H=some r):SC Tryz.prog true 115 [.d (.list 3 (List.map ab p0)),.d (ab p1),.d (.fn (.func 116) [] [.fG [cP.enc c2_0]])] H (.g8 [vI r.1,vB r.2]) H:=by
 refine fN Tryz.func115 rfl ?_
 unfold cO at h
 exact aH 49 H [(0,Hk p0),(1,lI p1),(2,Tb c2_0)]<|au 1<|ax<|aa 1<|aw (aG (enc:=ab) (xs:=p0))<|aa 1<|ak<|au 1<|an<|aI<|bI h λv5 hit h=>eY 49 H [0,2,4,8,9,10] (λy1=>[(0,Hk p0),(2,Tb c2_0),(4,j6 p1),(8,vI (p0.length:Int)),(9,vI y1.1),(10,vI y1.2)]) (λv5 e s=>(e=.exit 0/\s=(sp 49 [(0,Hk p0),(2,Tb c2_0),(4,j6 p1),(8,vI (p0.length:Int)),(9,vI v5)] H))) hit κ (λy1 o h=>by unfold bL at h;exact an<|au 1<|aQ h (λh=>ao<|ag<|aI<|au 1<|an<|fM<|aF 3<|bI h λx2 hx h=>bm (s:=bc none (ab x2).cells) (aB (n:=3) hx)<|aF 2<|bI h λr3 hr h=>jN (ls:=[]) (sE hr)<|aF 1<|bF<|ag<|aQ h (λh=>ah<|aa 3<|ae<|aL<|LQ h) (λh=>ah<|aa 2<|ae<|aL<|LQ h)) (λh=>aH 49 H [(0,Hk p0),(2,Tb c2_0),(4,j6 p1),(8,vI (p0.length:Int)),(9,vI y1.1)]<|bN<|aY<|aY<|LR h ⟨rfl,rfl⟩)) (by rintro _ _ ⟨rfl,rfl⟩;exact bq<|ag<|an<|fM<|dt [] [0,2,4,9,35,39] 5<|dP (λb=>(sp 49 [(0,Hk p0),(2,Tb c2_0),(4,j6 p1),(9,vI v5),(35,vI v5),(39,vB b)] H)) h (λh=>aF 3<|bI h λx6 hx h=>bm (s:=bc none (ab x6).cells) (aB (n:=3) hx)<|aF 2<|bI h λr7 hr h=>jN (ls:=[]) (sE hr)<|aF 4<|bF<|ag<|al<|iI h▸E0) λh=>aF 11<|bF<|ag<|al<|iI h▸E0)
def oK(fuel:Nat)(p0:Nat)(p1:Nat)(p2:Entry)(H:Hp):Option (Int×Bool):=
 (bG 3 aM H p1 0).bind λx1=>
 (cO fuel x1 p2 (some p0) (mj [(.az p1 0)] H)).bind λr2=>
 some (r2.1,r2.2)
theorem vO(h:oK fuel p0 p1 p2 H=some r):SC Tryz.prog true 104 [.d (.ptr p0 0),.d (.ptr p1 0),.d (ab p2)] H (.g8 [vI r.1,vB r.2]) H:=by
 refine fN Tryz.func104 rfl ?_
 unfold oK at h
 exact aH 18 H (K18 p0 p1 [(2,lI p2)])<|ax<|Cf 18 H (d:=3) (ds:=[.ptr p0 0]) [1,2,3] [(1,.d (.ptr p1 0)),(2,lI p2),(3,.d (.fG [.ptr p0 0]))] κ κ<|aa 3<|ak<|an<|fM<|aF 4<|bI h λx1 hx h=>bm (aV hx)<|aF 2<|bI h λr2 hr h=>jN (ls:=[(.az p1 0)]) (jo hr)<|aF 4<|bF<|ag<|al<|iI h▸E0
def fu(fuel:Nat)(p0:(List Entry))(p1:Int)(p2:(List Entry)):Option ((List Entry)):=
 et (m7 p0 p1 (p0.length:Int))<|
 bif ((p2.length:Int)==0)then
  some p0
 else
  bif (p1==(p0.length:Int))then
   et (decide ((p0++p2).length<=room))<|
   some (p0++p2)
  else
   et (decide (0<=p1)&&decide (p1<(p0.length:Int))&&decide (0<p2.length)&&decide (p0.length+p2.length<=room))<|
   some (List.take (Int.toNat p1) p0++p2++List.drop (Int.toNat p1) p0)
def sm(x0:Entry):SV:=.own 3 (List.map ab [x0])
def OR(x0:(List Entry)):SV:=.own 3 (List.map ab x0)
theorem mX(h:fu fuel p0 p1 p2=some r):PC Tryz.prog 105 [.own 3 (List.map ab p0),vI p1,.d (.list 3 (List.map ab p2))] (.own 3 (List.map ab r)):=by
 refine aW Tryz.func105 rfl λH=>?_
 unfold fu at h
 exact aH 95 H [(0,OR p0),(1,vI p1),(2,Hk p2)]<|au 1<|ax<|aa 2<|nj h λhk h=>aw (s:=nP (some (.slot 0)) 3 (List.map ab (sl p0 p1 (p0.length:Int)))) (iJ hk)<|ak<|ax<|aa 1<|aw (aG (enc:=ab) (xs:=p2))<|aa 1<|ak<|an<|au 1<|aQ h (λh=>ax<|aP [17] 2<|ak<|al<|aq<|iI h▸E0) (λh=>ao<|ag<|ax<|aa 1<|aw (aG (enc:=ab) (xs:=p0))<|aa 1<|ak<|an<|au 1<|aQ h (λh=>ax<|aP [23] 2<|nj h λhk h=>fx 23 3 (List.map ab (p0++p2)) (bt) (bZ hk)<|aP [23] 1<|ak<|al<|aq<|iI h▸E0) (λh=>ao<|ag<|nj h λhk h=>aH 95 H [(0,OR p0),(1,vI p1),(2,Hk p2),(7,vI (p2.length:Int)),(8,vI (p0.length:Int))]<|(by obtain⟨hT,ti,z,zd,hi,hz,hzd,hzn,hsz,hn,hby⟩:=rJ (P:=Tryz.prog) (T:=30) (e:=45) (n:=3) κ;exact Ht (enc:=ab) (xs:=p0) (ys:=p2) (i:=p1) (T:=30) (I:=3) (B:=4) (fo:=117) (ik:=.i64) hk hT κ hi hz hzd hzn hsz hn hby (λargs w=>run_callFunc_extern Tryz.func117 κ κ κ κ args w)<|iI h▸E0)))
def eI(fuel:Nat)(p0:(List Entry)):Option ((List Entry)):=
 IC p0 λb1=>
 bif b1 then
  some ([]:List Entry)
 else
  et (decide ((([]:List Entry)++p0).length<=room))<|
  some (([]:List Entry)++p0)
def QB(x0:Entry):SV:=.d (.list 3 (List.map ab [x0]))
def zM(x0:((List Entry)×Hp)):SV:=.own 3 (List.map ab x0.1)
def rO:SV:=.box [.d (.cm),vI 0,vI 0]
theorem nG(h:eI fuel p0=some r):PC Tryz.prog 107 [.d (.list 3 (List.map ab p0))] (.own 3 (List.map ab r)):=by
 refine aW Tryz.func107 rfl λH=>?_
 unfold eI at h
 exact aH 8 H [(0,Hk p0)]<|au 1<|an<|ax<|aU [] [0,3] 1<|qS (xs:=List.map ab p0) (d:=some 4) (e:=true) 8 H [0,4] (λb1=>[(0,Hk p0),(4,vB b1)]) κ (λ_=>by kernel_rfl) (λb1 hnil=>have h:=sQ h b1 (λe=>q_6.1 (hnil e));ak<|aQ h (λh=>au 1<|al<|aq<|iI h▸E0) (λh=>ao<|ag<|ax<|aP [5] 2<|nj h λhk h=>fx 5 3 (List.map ab (([]:List Entry)++p0)) (bt) (bZ hk)<|aP [5] 1<|ak<|al<|iI h▸E0))
def fH(fuel:Nat)(p0:(List (Option Nat))):Option ((List (Option Nat))):=
 IC p0 λb1=>
 bif b1 then
  some ([]:List (Option Nat))
 else
  et (decide ((([]:List (Option Nat))++p0).length<=room))<|
  some (([]:List (Option Nat))++p0)
def Sc(x0:((List Entry)×Hp)):SV:=vI (IntKind.wrap .i64 (Int.tdiv (x0.1.length:Int) 2))
def QA(x0:(List (Option Nat))):SV:=.d (.list 1 (List.map cP.enc x0))
theorem nF(h:fH fuel p0=some r):PC Tryz.prog 108 [.d (.list 1 (List.map cP.enc p0))] (.own 1 (List.map cP.enc r)):=by
 refine aW Tryz.func108 rfl λH=>?_
 unfold fH at h
 exact aH 8 H [(0,QA p0)]<|au 1<|an<|ax<|aU [] [0,3] 1<|qS (xs:=List.map cP.enc p0) (d:=some 4) (e:=true) 8 H [0,4] (λb1=>[(0,QA p0),(4,vB b1)]) κ (λ_=>by kernel_rfl) (λb1 hnil=>have h:=sQ h b1 (λe=>q_6.1 (hnil e));ak<|aQ h (λh=>au 1<|al<|aq<|iI h▸E0) (λh=>ao<|ag<|ax<|aP [5] 2<|nj h λhk h=>fx 5 1 (List.map cP.enc (([]:List (Option Nat))++p0)) (bt) (bZ hk)<|aP [5] 1<|ak<|al<|iI h▸E0))
def ou(fuel:Nat)(p0:Nat)(H:Hp):Option ((Entry×(Option Nat))×Hp):=
 (Ft 3 aM H p0 0).bind λq2=>
 (Ft 3 aM q2.2 p0 0).bind λq4=>
 (idx q4.1 (IntKind.wrap .i64 (Int.tdiv (q2.1.length:Int) 2))).bind λx5=>
 (Ft 3 aM q4.2 p0 0).bind λq7=>
 et (m7 q7.1 (IntKind.wrap .i64 ((IntKind.wrap .i64 (Int.tdiv (q2.1.length:Int) 2))+1)) (q7.1.length:Int))<|
 (eI fuel (sl q7.1 (IntKind.wrap .i64 ((IntKind.wrap .i64 (Int.tdiv (q2.1.length:Int) 2))+1)) (q7.1.length:Int))).bind λr8=>
 (ko q7.2 (.cells [.own 3 (List.map ab r8),.own 1 (List.map cP.enc ([]:List (Option Nat)))])).bind λq10=>
 bp (λ(j11:Hp)=>
  (Ft 3 aM j11 p0 0).bind λq23=>
  et (m7 q23.1 0 (IntKind.wrap .i64 (Int.tdiv (q2.1.length:Int) 2)))<|
  (eI fuel (sl q23.1 0 (IntKind.wrap .i64 (Int.tdiv (q2.1.length:Int) 2)))).bind λr24=>
  (cz 3 aM q23.2 p0 0 r24).bind λH25=>
  some ((x5,(some q10.2)),H25)) λjp12=>
 (cJ fuel p0 q10.1).bind λr13=>
 bif (!r13)then
  (Ft 1 cP q10.1 p0 1).bind λq15=>
  et (m7 q15.1 (IntKind.wrap .i64 ((IntKind.wrap .i64 (Int.tdiv (q2.1.length:Int) 2))+1)) (q15.1.length:Int))<|
  (fH fuel (sl q15.1 (IntKind.wrap .i64 ((IntKind.wrap .i64 (Int.tdiv (q2.1.length:Int) 2))+1)) (q15.1.length:Int))).bind λr16=>
  (cz 1 cP q15.2 q10.2 1 r16).bind λH17=>
  (Ft 1 cP H17 p0 1).bind λq19=>
  et (m7 q19.1 0 (IntKind.wrap .i64 ((IntKind.wrap .i64 (Int.tdiv (q2.1.length:Int) 2))+1)))<|
  (fH fuel (sl q19.1 0 (IntKind.wrap .i64 ((IntKind.wrap .i64 (Int.tdiv (q2.1.length:Int) 2))+1)))).bind λr20=>
  (cz 1 cP q19.2 p0 1 r20).bind λH21=>
  jp12 H21
 else
  jp12 q10.1
def OP(x0:(List (Option Nat))):SV:=.own 1 (List.map cP.enc x0)
def K38:=λa0 a1 a2 (t:SL)=>((0,.d (.ptr a0 0))::(2,rO)::(4,Sc a1)::(5,j6 a2)::t:SL)
theorem Ap(h:ou fuel p0 H=some r):SC Tryz.prog false 88 [.d (.ptr p0 0)] H (.g8 [.d (.agg [.list 3 (List.map ar r.1.1.Row),.int .i64 r.1.1.Key,.int .i64 r.1.1.Number]),.d (cP.enc r.1.2)]) r.2:=by
 refine cf Tryz.func88 rfl ?_
 unfold ou at h
 exact aH 73 H [(0,.d (.ptr p0 0))]<|au 1<|ax<|bf 73 H [] [0,2,10] 4 [(0,.d (.ptr p0 0)),(2,rO),(10,.d (.ptr p0 0))] κ<|bI h λq2 hx h=>qU (c:=aM) (xs:=q2.1) (H':=q2.2) hx κ<|aw (qX (xs:=q2.1) (H1:=q2.2) hx)<|aw (aG (enc:=ab) (xs:=q2.1))<|aa 2<|ak<|ax<|bf 73 q2.2 [] [0,2,4,17] 4 [(0,.d (.ptr p0 0)),(2,rO),(4,Sc q2),(17,.d (.ptr p0 0))] κ<|bI h λq4 hx h=>qU (c:=aM) (xs:=q4.1) (H':=q4.2) hx κ<|aw (qX (xs:=q4.1) (H1:=q4.2) hx)<|aa 1<|bI h λx5 hx h=>aw (s:=bc none (ab x5).cells) (aB (n:=3) hx)<|aa 3<|ak<|ax<|bf 73 q4.2 [] [0,2,4,5,25] 4 (K38 p0 q2 x5 [(25,.d (.ptr p0 0))]) κ<|bI h λq7 hx h=>qU (c:=aM) (xs:=q7.1) (H':=q7.2) hx κ<|aw (qX (xs:=q7.1) (H1:=q7.2) hx)<|aa 2<|nj h λhk h=>aw (s:=nP none 3 (List.map ab (sl q7.1 (IntKind.wrap .i64 ((IntKind.wrap .i64 (Int.tdiv (q2.1.length:Int) 2))+1)) (q7.1.length:Int)))) (iJ hk)<|bI h λr8 hr h=>eO 73 q7.2 (d:=some 30) (ls:=[]) (gs:=[]) [] [0,2,4,5,30] (K38 p0 q2 x5 [(30,.own 3 (List.map ab r8))]) (nG hr) κ κ κ<|yq (n':=3) (t:=30) (xs:=List.map ab r8) (λv9=>(K38 p0 q2 x5 [(30,.mI v9 3 (List.map ab r8))])) κ (λ_=>by kernel_rfl) λv9=>fV 73 q7.2 (d:=some 31) (s:=.d (.agg [.raw v9])) [0,2,4,5,30,31] (K38 p0 q2 x5 [(30,.mI v9 3 (List.map ab r8)),(31,.d (.agg [.raw v9]))]) (Cm 30 κ) κ<|aU [] [0,2,4,5,30,32] 1<|bI h λq10 hq h=>DL (d:=some 33) 73 [(1,1,true)] [(0,30,v9,3,List.map ab r8)] [0,2,4,5,33] (K38 p0 q2 x5 [(33,.d (.ptr q10.2 0))]) hq κ κ ⟨κ,κ,κ,trivial⟩ κ<|aa 1<|ak<|tu 73 [0,2,4,5,6] (λ(j11:Hp)=>(K38 p0 q2 x5 [(6,.d (.ptr q10.2 0))])) (λ(j11:Hp)=>j11) h (λj11 h=>ax<|aK 5 [(2,rO),(4,Sc q2),(5,j6 x5),(6,.d (.ptr q10.2 0)),(59,.d (.ptr p0 0)),(63,.d (.ptr p0 0))]<|bI h λq23 hx h=>qU (c:=aM) (xs:=q23.1) (H':=q23.2) hx κ<|aw (qX (xs:=q23.1) (H1:=q23.2) hx)<|aa 1<|nj h λhk h=>aw (s:=nP none 3 (List.map ab (sl q23.1 0 (IntKind.wrap .i64 (Int.tdiv (q2.1.length:Int) 2))))) (iJ hk)<|bI h λr24 hr h=>bw (nG hr)<|aa 3<|bI h λH25 hx h=>fw 67 hx<|ak<|au 1<|al<|iI h▸E0) λjp12 h=>ax<|aa 1<|bI h λr13 hr h=>jf (ls:=[]) (eC hr)<|aa 1<|ak<|aQ h (λh=>ax<|bf 73 q10.1 [] [0,2,4,5,6,37,40] 4 (K38 p0 q2 x5 [(6,.d (.ptr q10.2 0)),(37,.d (.ptr q10.2 0)),(40,.d (.ptr p0 1))]) κ<|bI h λq15 hx h=>qU (c:=cP) (xs:=q15.1) (H':=q15.2) hx κ<|aw (qX (xs:=q15.1) (H1:=q15.2) hx)<|aa 2<|nj h λhk h=>aw (s:=nP none 1 (List.map cP.enc (sl q15.1 (IntKind.wrap .i64 ((IntKind.wrap .i64 (Int.tdiv (q2.1.length:Int) 2))+1)) (q15.1.length:Int)))) (iJ hk)<|bI h λr16 hr h=>bw (nF hr)<|aa 2<|bI h λH17 hx h=>fw 45 hx<|ak<|ah<|bf 73 H17 [] [0,2,4,5,6,48,51] 4 (K38 p0 q2 x5 [(6,.d (.ptr q10.2 0)),(48,.d (.ptr p0 0)),(51,.d (.ptr p0 1))]) κ<|bI h λq19 hx h=>qU (c:=cP) (xs:=q19.1) (H':=q19.2) hx κ<|aw (qX (xs:=q19.1) (H1:=q19.2) hx)<|aa 2<|nj h λhk h=>aw (s:=nP none 1 (List.map cP.enc (sl q19.1 0 (IntKind.wrap .i64 ((IntKind.wrap .i64 (Int.tdiv (q2.1.length:Int) 2))+1))))) (iJ hk)<|bI h λr20 hr h=>bw (nF hr)<|aa 2<|bI h λH21 hx h=>fw 56 hx<|ae<|JQ [] h) (λh=>ao<|JQ [] h)
def dh(fuel:Nat)(p0:(List (Option Nat)))(p1:Int)(p2:(List (Option Nat))):Option ((List (Option Nat))):=
 et (m7 p0 p1 (p0.length:Int))<|
 bif ((p2.length:Int)==0)then
  some p0
 else
  bif (p1==(p0.length:Int))then
   et (decide ((p0++p2).length<=room))<|
   some (p0++p2)
  else
   et (decide (0<=p1)&&decide (p1<(p0.length:Int))&&decide (0<p2.length)&&decide (p0.length+p2.length<=room))<|
   some (List.take (Int.toNat p1) p0++p2++List.drop (Int.toNat p1) p0)
def Tu(x0:((Entry×(Option Nat))×Hp)):SV:=.box [.d (.list 3 (List.map ar x0.1.1.Row)),vI x0.1.1.Key,vI x0.1.1.Number]
def Uv(x0:((Entry×(Option Nat))×Hp)):SV:=.own 3 (List.map ab [x0.1.1])
def Tt(x0:((Entry×(Option Nat))×Hp)):SV:=.d (.list 3 (List.map ab [x0.1.1]))
def Sb(x0:((List (Option Nat))×Hp)):SV:=.own 1 (List.map cP.enc x0.1)
def Uu(x0:Int×Bool):SV:=vI (IntKind.wrap .i64 (x0.1+1))
def Ts(x0:Nat):SV:=.own 1 (List.map cP.enc [(some x0)])
theorem mL(h:dh fuel p0 p1 p2=some r):PC Tryz.prog 106 [.own 1 (List.map cP.enc p0),vI p1,.d (.list 1 (List.map cP.enc p2))] (.own 1 (List.map cP.enc r)):=by
 refine aW Tryz.func106 rfl λH=>?_
 unfold dh at h
 exact aH 95 H [(0,OP p0),(1,vI p1),(2,QA p2)]<|au 1<|ax<|aa 2<|nj h λhk h=>aw (s:=nP (some (.slot 0)) 1 (List.map cP.enc (sl p0 p1 (p0.length:Int)))) (iJ hk)<|ak<|ax<|aa 1<|aw (aG (enc:=cP.enc) (xs:=p2))<|aa 1<|ak<|an<|au 1<|aQ h (λh=>ax<|aP [17] 2<|ak<|al<|aq<|iI h▸E0) (λh=>ao<|ag<|ax<|aa 1<|aw (aG (enc:=cP.enc) (xs:=p0))<|aa 1<|ak<|an<|au 1<|aQ h (λh=>ax<|aP [23] 2<|nj h λhk h=>fx 23 1 (List.map cP.enc (p0++p2)) (bt) (bZ hk)<|aP [23] 1<|ak<|al<|aq<|iI h▸E0) (λh=>ao<|ag<|nj h λhk h=>aH 95 H [(0,OP p0),(1,vI p1),(2,QA p2),(7,vI (p2.length:Int)),(8,vI (p0.length:Int))]<|(by obtain⟨hT,ti,z,zd,hi,hz,hzd,hzn,hsz,hn,hby⟩:=rJ (P:=Tryz.prog) (T:=88) (e:=83) (n:=1) κ;exact Ht (enc:=cP.enc) (xs:=p0) (ys:=p2) (i:=p1) (T:=88) (I:=3) (B:=4) (fo:=119) (ik:=.i64) hk hT κ hi hz hzd hzn hsz hn hby (λargs w=>run_callFunc_extern Tryz.func119 κ κ κ κ args w)<|iI h▸E0)))
def ig(fuel:Nat)(rc:(Nat->Nat->Entry->Hp->Option ((Unit)×Hp)))(p0:Nat)(p1:Nat)(p2:Entry)(H:Hp):Option ((Unit)×Hp):=
 (oK fuel p0 p1 p2 H).bind λr1=>
 (cJ fuel p1 H).bind λr2=>
 bif r2 then
  (db 3 aM H p1 0).bind λq3=>
  (fu fuel q3.1 r1.1 [p2]).bind λr5=>
  (cz 3 aM q3.2 p1 0 r5).bind λH6=>
  some ((),H6)
 else
  (bG 1 cP H p1 1).bind λx7=>
  (idx x7 r1.1).bind λx8=>
  x8.bind λi9=>
  (rc p0 i9 p2 H).bind λr10=>
  (bG 3 aM r10.2 i9 0).bind λx11=>
  (bz (cI .i64).cell r10.2 p0 3).bind λx12=>
  bif (decide ((x11.length:Int)>x12))then
   (ou fuel i9 r10.2).bind λr13=>
   (db 3 aM r13.2 p1 0).bind λq14=>
   (fu fuel q14.1 r1.1 [r13.1.1]).bind λr16=>
   (cz 3 aM q14.2 p1 0 r16).bind λH17=>
   (db 1 cP H17 p1 1).bind λq18=>
   r13.1.2.bind λi19=>
   (dh fuel q18.1 (IntKind.wrap .i64 (r1.1+1)) [(some i19)]).bind λr20=>
   (cz 1 cP q18.2 p1 1 r20).bind λH21=>
   some ((),H21)
  else
   some ((),r10.2)
def kV:Nat->(Nat->Nat->Entry->Hp->Option ((Unit)×Hp))
 |0=>λ_ _ _ _=>none
 |fuel+1=>ig fuel (kV fuel)
def Tr(x0:Nat):SV:=.d (.list 1 (List.map cP.enc [(some x0)]))
theorem zw{fuel:Nat}{rc:(Nat->Nat->Entry->Hp->Option ((Unit)×Hp))}(ih: ∀{p0:Nat} {p1:Nat} {p2:Entry} {H:Hp} {r:(Unit)×Hp},rc p0 p1 p2 H=some r->SC Tryz.prog false 87 [.d (.ptr p0 0),.d (.ptr p1 0),.d (ab p2)] H (.g8 []) r.2){p0:Nat}{p1:Nat}{p2:Entry}{H:Hp}{r:(Unit)×Hp}(h:ig fuel rc p0 p1 p2 H=some r):SC Tryz.prog false 87 [.d (.ptr p0 0),.d (.ptr p1 0),.d (ab p2)] H (.g8 []) r.2:=by
 refine cf Tryz.func87 rfl ?_
 unfold ig at h
 exact aH 85 H (K18 p0 p1 [(2,lI p2)])<|au 1<|ax<|aa 3<|bI h λr1 hr h=>jf (ls:=[]) (vO hr)<|aa 5<|ak<|an<|ax<|aa 1<|bI h λr2 hr h=>jf (ls:=[]) (eC hr)<|ak<|aQ h (λh=>an<|bI h λq3 hq3 h=>bI h λr5 hr_9 h=>bI h λH6 hx_13 h=>aH 85 H [(1,.d (.ptr p1 0)),(5,j6 p2),(6,vI r1.1)]<|mz p1 0 λv4=>fj [0,1,2,3,4,6,5,7] [8,9,10,11,12,13] κ κ<|aC<|aC<|aC<|aC<|aC<|du 85 (dY H p1 0 v4) [5,20,24,26] [(5,j6 p2),(20,.d (.ptr p1 0)),(24,.d (.ptr p1 0)),(26,vI r1.1)] κ<|cd (s:=.d (.raw v4)) (gZ (c:=aM) (n':=3) hq3 κ)<|aC<|dZ<|aP [25] 1<|Ad 85 (dY H p1 0 v4) 28 [20,25,26,28] [(20,.d (.ptr p1 0)),(25,.d (.raw v4)),(26,vI r1.1),(28,QB p2)] κ<|nZ (c:=aM) (n':=3) (t:=25) [20,25,26,28] [(20,.d (.ptr p1 0)),(25,zM q3),(26,vI r1.1),(28,QB p2)] hq3 κ κ κ<|vG (d:=some 29) (ls:=[]) (gs:=[(25,0)]) [0] [(20,.d (.ptr p1 0)),(29,.own 3 (List.map ab r5))] (mX hr_9)<|aP [25] 1<|aP [25] 1<|aP [25] 1<|fw 29 hx_13<|ak<|al<|aq<|iI h▸E0) (λh=>ao<|ag<|ax<|aa 3<|bI h λx7 hx h=>aw (aV hx)<|aa 1<|bI h λx8 hx h=>aw (s:=bc (some (.az p1 1)) [cP.enc x8]) (cr (n:=1) hx)<|aa 2<|ak<|ax<|aU [] [0,1,6,8,40,41,42] 3<|bI h λi9 hp_i9 h=>bA x8 (λp=>(sp 85 (K18 p0 p1 [(6,vI r1.1),(8,.d (cP.enc p)),(40,.d (.ptr p0 0)),(41,.d (cP.enc p)),(42,lI p2)]) H)) κ hp_i9<|bI h λr10 hr h=>bJ (ih hr)<|ak<|an<|zl<|bW 4<|bI h λx11 hx h=>cH (aV hx)<|cH (aG (enc:=ab) (xs:=x11))<|bW 3<|bI h λx12 hx h=>cH (s:=vI x12) (aA hx)<|bW 1<|gI<|ag<|aQ h (λh=>ax<|aa 1<|bI h λr13 hr h=>bJ (Ap hr)<|aa 6<|ak<|an<|bI h λq14 hq14 h=>bI h λr16 hr_9 h=>bI h λH17 hx_13 h=>aH 85 r13.2 [(1,.d (.ptr p1 0)),(6,vI r1.1),(9,Tu r13),(10,.d (cP.enc r13.1.2))]<|mz p1 0 λv15=>fj [0,1,2,3,4,6,5,7] [8,9,10,11,12,13] κ κ<|aC<|aC<|aC<|aC<|aC<|du 85 (dY r13.2 p1 0 v15) [1,6,9,10,60,64,66] [(1,.d (.ptr p1 0)),(6,vI r1.1),(9,Tu r13),(10,.d (cP.enc r13.1.2)),(60,.d (.ptr p1 0)),(64,.d (.ptr p1 0)),(66,vI r1.1)] κ<|cd (s:=.d (.raw v15)) (gZ (c:=aM) (n':=3) hq14 κ)<|aC<|dZ<|aP [65] 1<|Ad 85 (dY r13.2 p1 0 v15) 68 [1,6,10,60,65,66,68] [(1,.d (.ptr p1 0)),(6,vI r1.1),(10,.d (cP.enc r13.1.2)),(60,.d (.ptr p1 0)),(65,.d (.raw v15)),(66,vI r1.1),(68,Tt r13)] κ<|nZ (c:=aM) (n':=3) (t:=65) [1,6,10,60,65,66,68] [(1,.d (.ptr p1 0)),(6,vI r1.1),(10,.d (cP.enc r13.1.2)),(60,.d (.ptr p1 0)),(65,zM q14),(66,vI r1.1),(68,Tt r13)] hq14 κ κ κ<|vG (d:=some 69) (ls:=[]) (gs:=[(65,0)]) [0] [(1,.d (.ptr p1 0)),(6,vI r1.1),(10,.d (cP.enc r13.1.2)),(60,.d (.ptr p1 0)),(69,.own 3 (List.map ab r16))] (mX hr_9)<|aP [65] 1<|aP [65] 1<|aP [65] 1<|fw 69 hx_13<|ak<|ah<|aP [77] 4<|bI h λq18 hq h=>jn hq<|aU [77] [73,77,79,80] 3<|bI h λi19 hp_i19 h=>bA r13.1.2 (λp=>(sp 85 [(73,.d (.ptr p1 0)),(77,Sb q18),(79,Uu r1),(80,.d (cP.enc p))] q18.2)) κ hp_i19<|aa 1<|uk 81<|bI h λr20 hr h=>eO 85 q18.2 (d:=some 82) (ls:=[]) (gs:=[(77,0)]) [0] [73,82] [(73,.d (.ptr p1 0)),(82,.own 1 (List.map cP.enc r20))] (mL hr) κ κ κ<|aP [77] 2<|bI h λH21 hx h=>fw 82 hx<|ae<|iI h▸EN) (λh=>ao<|iI h▸EN))
end
theorem Cp{fuel:Nat}: ∀{p0:Nat} {p1:Nat} {p2:Entry} {H:Hp} {r:(Unit)×Hp},kV fuel p0 p1 p2 H=some r->SC Tryz.prog false 87 [.d (.ptr p0 0),.d (.ptr p1 0),.d (ab p2)] H (.g8 []) r.2:=by
 induction fuel with
 |zero=>intros;rename_i h;exact nomatch (show(none:Option ((Unit)×Hp))=some _ from h)
 |succ fuel ih=>exactλh=>zw ih h
def ey(fuel:Nat)(p0:Nat)(p1:Entry)(H:Hp):Option ((Unit)×Hp):=
 (bz cP.cell H p0 4).bind λx1=>
 x1.bind λi2=>
 (kV fuel p0 i2 p1 H).bind λr3=>
 (bz cP.cell r3.2 p0 4).bind λx4=>
 x4.bind λi5=>
 (bG 3 aM r3.2 i5 0).bind λx6=>
 (bz (cI .i64).cell r3.2 p0 3).bind λx7=>
 bif (decide ((x6.length:Int)>x7))then
  (bz cP.cell r3.2 p0 4).bind λx8=>
  x8.bind λi9=>
  (ou fuel i9 r3.2).bind λr10=>
  r10.1.2.bind λi12=>
  (ko r10.2 (.cells [.own 3 (List.map ab [r10.1.1]),.own 1 (List.map cP.enc [(some i9),(some i12)])])).bind λq14=>
  (dW cP q14.1 p0 4 (some q14.2)).bind λH15=>
  (bz (cI .i64).cell H15 p0 6).bind λx16=>
  (dW (cI .i64) H15 p0 6 (IntKind.wrap .i64 (x16+1))).bind λH17=>
  some ((),H17)
 else
  (bz (cI .i64).cell r3.2 p0 6).bind λx18=>
  (dW (cI .i64) r3.2 p0 6 (IntKind.wrap .i64 (x18+1))).bind λH19=>
  some ((),H19)
def Ut(x0:Nat)(x1:Nat):SV:=.own 1 (List.map cP.enc [(some x0),(some x1)])
section
attribute [local irreducible] bX jR lM lQ SW uS
def K55:=λa0 a1 a2 a3 (t:SL)=>((0,.d (.ptr a0 0))::(37,.d (.ptr a1 0))::(39,.mI a2 3 (List.map ab [a3]))::t:SL)
def K69:=λa0 a1 a2 a3 (t:SL)=>((0,.d (.ptr a0 0))::(4,.d (.ptr a1 0))::(6,.d (cP.enc a2))::(37,.d (.ptr a3 0))::t:SL)
theorem qj(h:ey fuel p0 p1 H=some r):SC Tryz.prog false 62 [.d (.ptr p0 0),.d (ab p1)] H (.g8 []) r.2:=by
 refine cf Tryz.func62 rfl ?_
 unfold ey at h
 exact aH 55 H [(0,.d (.ptr p0 0)),(1,lI p1)]<|au 1<|an<|an<|hZ 6 κ κ<|bW 4<|bI h λx1 hx h=>cH (s:=.d (cP.enc x1)) (aA hx)<|pE [] [0,7,11,12] 1<|gI<|bI h λi2 hp_i2 h=>bA x1 (λp=>(sp 55 [(0,.d (.ptr p0 0)),(7,.d (.ptr p0 0)),(11,.d (cP.enc p)),(12,lI p1)] H)) κ hp_i2<|bI h λr3 hr h=>bJ (Cp hr)<|ak<|an<|zl<|bW 3<|bI h λx4 hx h=>cH (s:=.d (cP.enc x4)) (aA hx)<|bI h λi5 hp_i5 h=>cH (s:=.d (.ptr i5 0)) (ba hp_i5)<|bW 2<|bI h λx6 hx h=>cH (aV hx)<|cH (aG (enc:=ab) (xs:=x6))<|bW 3<|bI h λx7 hx h=>cH (s:=vI x7) (aA hx)<|bW 1<|gI<|ag<|aQ h (λh=>ax<|aa 3<|bI h λx8 hx h=>aw (s:=.d (cP.enc x8)) (aA hx)<|aa 1<|ak<|ax<|aU [] [0,4,33] 1<|bI h λi9 hp_i9 h=>bA x8 (λp=>(sp 55 [(0,.d (.ptr p0 0)),(4,.d (cP.enc p)),(33,.d (cP.enc p))] r3.2)) κ hp_i9<|bI h λr10 hr h=>bJ (Ap hr)<|aa 6<|ak<|ah<|bf 55 r10.2 [] [0,4,6,37,39] 3 (K69 p0 i9 r10.1.2 p0 [(39,Uv r10)]) κ<|yq (n':=3) (t:=39) (xs:=List.map ab [r10.1.1]) (λv11=>(K69 p0 i9 r10.1.2 p0 [(39,.mI v11 3 (List.map ab [r10.1.1]))])) κ (λ_=>by kernel_rfl) λv11=>fV 55 r10.2 (d:=some 40) (s:=.d (.agg [.raw v11])) [0,4,6,37,39,40] (K69 p0 i9 r10.1.2 p0 [(39,.mI v11 3 (List.map ab [r10.1.1])),(40,.d (.agg [.raw v11]))]) (Cm 39 κ) κ<|aU [] [0,37,39,40,41,42] 2<|bI h λi12 hp_i12 h=>bA r10.1.2 (λp=>(sp 55 (K55 p0 p0 v11 r10.1.1 [(40,.d (.agg [.raw v11])),(41,.d (.ptr i9 0)),(42,.d (cP.enc p))]) r10.2)) κ hp_i12<|aK 1 (K55 p0 p0 v11 r10.1.1 [(40,.d (.agg [.raw v11])),(43,Ut i9 i12)])<|yq (n':=1) (t:=43) (xs:=List.map cP.enc [(some i9),(some i12)]) (λv13=>(K55 p0 p0 v11 r10.1.1 [(40,.d (.agg [.raw v11])),(43,.mI v13 1 (List.map cP.enc [(some i9),(some i12)]))])) κ (λ_=>by kernel_rfl) λv13=>fV 55 r10.2 (d:=some 44) (s:=.d (.agg [.raw v11,.raw v13])) [0,37,39,43,44] (K55 p0 p0 v11 r10.1.1 [(43,.mI v13 1 (List.map cP.enc [(some i9),(some i12)])),(44,.d (.agg [.raw v11,.raw v13]))]) (Cm 43 κ) κ<|bI h λq14 hq h=>DL (d:=some 45) 55 [] [(0,39,v11,3,List.map ab [r10.1.1]),(1,43,v13,1,List.map cP.enc [(some i9),(some i12)])] [0,37,45] [(0,.d (.ptr p0 0)),(37,.d (.ptr p0 0)),(45,.d (.ptr q14.2 0))] hq κ κ ⟨κ,κ,κ,κ,κ,κ,trivial⟩ κ<|aa 2<|bI h λH15 hx h=>fW hx<|ak<|ah<|aa 3<|bI h λx16 hx h=>aw (s:=vI x16) (aA hx)<|aa 3<|bI h λH17 hx h=>fW hx<|ae<|iI h▸EN) (λh=>ao<|ag<|ah<|aa 3<|bI h λx18 hx h=>aw (s:=vI x18) (aA hx)<|aa 3<|bI h λH19 hx h=>fW hx<|ae<|iI h▸EN)
def eB(fuel:Nat)(p0:Nat)(p1:(List Value))(p2:Int)(H:Hp):Option ((Int×Int)×Hp):=
 (eD fuel p0 p1 p2 H).bind λr1=>
 bif (r1 !=0)then
  some ((0,r1),H)
 else
  bp (λ(j2:Hp)=>
   (bz (cI .i64).cell j2 p0 5).bind λx8=>
   (dW (cI .i64) j2 p0 5 (IntKind.wrap .i64 (x8+1))).bind λH9=>
   (dv fuel p1).bind λr10=>
   (bz (cI .i64).cell H9 p0 5).bind λx11=>
   (ey fuel p0 (⟨r10,p2,x11⟩:Entry) H9).bind λr12=>
   (bz (cI .i64).cell r12.2 p0 5).bind λx13=>
   some ((x13,0),r12.2)) λjp3=>
  (bz (cI .i64).cell H p0 2).bind λx4=>
  bif (x4==1)then
   (kW fuel p0 p1 H).bind λr5=>
   bif r5.1 then
    some ((0,6),r5.2)
   else
    (bz (cI .i64).cell r5.2 p0 6).bind λx6=>
    bif (decide (x6>=500))then
     some ((0,4),r5.2)
    else
     jp3 r5.2
  else
   (bz (cI .i64).cell H p0 6).bind λx7=>
   bif (decide (x7>=500))then
    some ((0,4),H)
   else
    jp3 H
theorem mU(h:eB fuel p0 p1 p2 H=some r):SC Tryz.prog false 32 [.d (.ptr p0 0),.d (.list 3 (List.map ar p1)),vI p2] H (.g8 [vI r.1.1,vI r.1.2]) r.2:=by
 refine cf Tryz.func32 rfl ?_
 unfold eB at h
 exact aH 55 H (K32 p0 p1 p2 [])<|au 1<|an<|ax<|aa 3<|bI h λr1 hr h=>jf (ls:=[]) (fK hr)<|aa 1<|ak<|au 1<|aQ h (λh=>au 1<|al<|aq<|iI h▸E0) (λh=>ao<|ag<|tu 55 [0,1,2] (λ(j2:Hp)=>(K32 p0 p1 p2 [])) (λ(j2:Hp)=>j2) h (λj2 h=>ax<|aa 3<|bI h λx8 hx h=>aw (s:=vI x8) (aA hx)<|aa 3<|bI h λH9 hx h=>fW hx<|ak<|an<|bI h λr10 hr_2 h=>bI h λx11 hx11 h=>bI h λr12 hr_9 h=>aH 55 H9 (K32 p0 p1 p2 [])<|jb 55 r12.2 [(0,.d (.ptr p0 0))] [0,1,3,4,5,6] 4 123 κ κ κ (λX hX=>by subst hX;exact aC<|aC<|aC<|aC<|aC<|du 55 H9 [0,41,42,44,47] [(0,.d (.ptr p0 0)),(41,.d (.ptr p0 0)),(42,Z9 p1),(44,vI p2),(47,.d (.ptr p0 5))] κ<|dZ<|mD [] [(2,eV _),(7,eV (vI x11)),(8,eF 43),(9,eH _ _)] ⟨zt (kj hr_2),uo (c:=(cI .i64).cell) hx11,zr,Ri (qj hr_9),trivial⟩) (ag<|ax<|aa 3<|bI h λx13 hx h=>aw (s:=vI x13) (aA hx)<|aa 2<|ak<|al<|iI h▸E0)) λjp3 h=>aI<|ax<|aa 4<|bI h λx4 hx h=>aw (s:=vI x4) (aA hx)<|aU [] [0,1,2,23] 2<|bE (λb=>(sp 55 (K32 p0 p1 p2 [(23,vB b)]) H)) h (λh=>aa 2<|bI h λr5 hr h=>bJ (uE hr)<|aa 2<|ak<|aQ h (λh=>au 1<|al<|aJ<|aq<|iI h▸E0) (λh=>ax<|aa 3<|bI h λx6 hx h=>aw (s:=vI x6) (aA hx)<|aa 2<|ak<|aQ h (λh=>au 1<|al<|aJ<|aq<|iI h▸E0) (λh=>ao<|aL<|JQ [] h))) λh=>aa 5<|ak<|iV<|ax<|aa 3<|bI h λx7 hx h=>aw (s:=vI x7) (aA hx)<|aa 2<|ak<|aQ h (λh=>au 1<|al<|aJ<|aq<|iI h▸E0) (λh=>ao<|aL<|JQ [] h))
def vL(fuel:Nat)(p0:Entry):Option (Entry):=
 (dv fuel p0.Row).bind λr1=>
 some (⟨r1,p0.Key,p0.Number⟩:Entry)
def Us(x0:Int×Hp):SV:=vI (IntKind.wrap .i64 (x0.1+1))
def Ur(x0:Int):SV:=.d (.list 3 (List.map ar [(⟨1,x0,[]⟩:Value)]))
theorem lS(h:vL fuel p0=some r):PC Tryz.prog 44 [.d (ab p0)] (.d (.agg [.list 3 (List.map ar r.Row),.int .i64 r.Key,.int .i64 r.Number])):=by
 refine aW Tryz.func44 rfl λH=>?_
 unfold vL at h
 exact aH 8 H [(0,lI p0)]<|au 1<|ax<|aa 2<|bI h λr1 hr h=>bw (kj hr)<|aa 1<|uk 5<|aa 1<|ak<|au 1<|al<|iI h▸E0
def dV(fuel:Nat)(q1:(Hp×Nat))(e5:Entry)(G6:Hp):Option Hp:=
 (db 3 aM G6 q1.2 0).bind λq7=>
 (vL fuel e5).bind λr8=>
 et (decide ((q7.1++[r8]).length<=room))<|
 (cz 3 aM q7.2 q1.2 0 (q7.1++[r8])).bind λH10=>
 some H10
def iu(fuel:Nat)(p0:Nat)(H:Hp):Option (((List Entry))×Hp):=
 (ko H (.cells [.own 3 (List.map ab ([]:List Entry))])).bind λq1=>
 (bz cP.cell q1.1 p0 4).bind λx2=>
 x2.bind λi3=>
 (kU fuel i3 q1.1).bind λr4=>
 (lT fuel (dV fuel q1) (some i3) q1.1).bind λH11=>
 (db 3 aM H11 q1.2 0).bind λq12=>
 some (q12.1,q12.2)
def zL(x0:((List Entry)×Hp))(x1:Entry):SV:=.own 3 (List.map ab (x0.1++[x1]))
def K53:=λa0 a1 (t:SL)=>((3,.d (.ptr a0 0))::(13,zM a1)::t:SL)
theorem kD(h:iu fuel p0 H=some r):SC Tryz.prog false 17 [.d (.ptr p0 0)] H (.own 3 (List.map ab r.1)) r.2:=by
 refine nX Tryz.func17 rfl ?_
 unfold iu at h
 exact tv 19 H [0] [(0,.d (.ptr p0 0))] κ<|dz<|ah<|aK 1 [(0,.d (.ptr p0 0))]<|ak<|dz<|ah<|aK 1 [(0,.d (.ptr p0 0)),(3,.box [.d (.cm)])]<|ak<|bI h λq1 hq h=>cN hq 3 19 [(0,3)] [0,3] [(0,.d (.ptr p0 0)),(3,.d (.ptr q1.2 0))] κ (by cases hq;kernel_rfl)<|pA<|dz<|ah<|aK 2 [(0,.d (.ptr p0 0)),(3,.d (.ptr q1.2 0)),(6,vB true)]<|ak<|Hy κ<|dz<|ah<|aa 3<|bI h λx2 hx h=>qd (s:=.d (cP.enc x2)) [3,10] (aA hx)<|bI h λi3 hp_i3 h=>bA x2 (λp=>(sp 19 [(3,.d (.ptr q1.2 0)),(10,.d (cP.enc p))] q1.1)) κ hp_i3<|bI h λr4 hr h=>fX (ls:=[]) (some 11) [(3,.d (.ptr q1.2 0)),(11,LV i3)] (kB hr)<|ak<|nW<|bI h λH11 hit h=>E7 (f:=78) (caps:=[.fG [.ptr i3 0]]) (H':=H11) [(3,.ptr q1.2 0)] κ κ κ κ (λl R cG hpe hps has hbd hsz=>zu tH.fr (λe5 G6 H9 h=>by
  unfold dV at h;exact CF (n:=19) cG hpe hps (hsz.trans (kR _ _ _)) [(3,.d (.ptr q1.2 0)),(12,.d (.agg [.list 3 (List.map ar e5.Row),.int .i64 e5.Key,.int .i64 e5.Number]))] (qW ⟨.inr ⟨by decide,_,rfl,.head _⟩,⟨.inl ⟨rfl,rfl⟩,trivial⟩⟩)<|(by
   rw[has,hbd];exact lK κ<|aK 2 [(3,.d (.ptr q1.2 0)),(4,j6 e5)]<|ae<|Jn<|bI h λq7 hq_0 h=>bI h λr8 hr_2 h=>nj h λhk9 h=>bI h λH10 hx_5 h=>QF 19 G6 [3,4] [(3,.d (.ptr q1.2 0)),(4,j6 e5)] κ<|(by
    refine DI 19 H10 [] κ (λX hX=>?_) (by cases h;exact rfl)
    .have c63:X 0 63 (sp 19 [] H10):=by subst hX;exact oI κ
     have c31:X 1 31 (sp 19 [(3,.d (.ptr q1.2 0)),(17,zL q7 r8)] q7.2):=by subst hX;exact aR 5 [] ⟨tD (c:=aM) (n':=3) (s:=17) (xs:=(q7.1++[r8])) 19 [] [] hx_5 κ κ<|ae c63,trivial⟩
     have c15:X 2 15 (sp 19 (K53 q1.2 q7 [(16,sm r8)]) q7.2):=by subst hX;exact aR 4 [] ⟨n8 19 q7.2 (s:=13) (d:=17) (w:=3) [3,17] (zs:=List.map ab (q7.1++[r8])) [(3,.d (.ptr q1.2 0)),(17,zL q7 r8)] (ys:=(List.map ab [r8])) κ (bt) (bZ hk9) κ<|ae c31,trivial⟩
     have c7:X 3 7 (sp 19 (K53 q1.2 q7 [(15,lI r8)]) q7.2):=by subst hX;exact aR 3 [] ⟨bf 19 q7.2 [13] [3,13,16] 1 (K53 q1.2 q7 [(16,sm r8)]) κ<|ae c15,trivial⟩
     have c3:X 4 3 (sp 19 (K53 q1.2 q7 [(14,lI e5)]) q7.2):=by subst hX;exact aR 2 [] ⟨eO 19 q7.2 (d:=some 15) (ls:=[]) (gs:=[]) [] [3,13,15] (K53 q1.2 q7 [(15,.d (.agg [.list 3 (List.map ar r8.Row),.int .i64 r8.Key,.int .i64 r8.Number]))]) (lS hr_2) κ κ κ<|ae c7,trivial⟩
     have c1:X 5 1 (sp 19 [(3,.d (.ptr q1.2 0)),(4,j6 e5),(13,zM q7)] q7.2):=by subst hX;exact aR 1 [] ⟨bf 19 q7.2 [13] [3,13,14] 1 (K53 q1.2 q7 [(14,lI e5)]) κ<|ae c3,trivial⟩
     have c14:X 3 14 (sp 19 [(3,.d (.ptr q1.2 0)),(16,sm r8)] G6):=by subst hX;exact aR 0 [] ⟨mE (c:=aM) (n':=3) (d:=13) (xs:=q7.1) 19 [3,13,16] (K53 q1.2 q7 [(16,sm r8)]) hq_0 κ κ<|ae c15,trivial⟩
     have c6:X 4 6 (sp 19 [(3,.d (.ptr q1.2 0)),(15,lI r8)] G6):=by subst hX;exact aR 0 [3] ⟨mE (c:=aM) (n':=3) (d:=13) (xs:=q7.1) 19 [3,13,15] (K53 q1.2 q7 [(15,lI r8)]) hq_0 κ κ<|ae c7,bf 19 G6 [13] [3,16] 1 [(3,.d (.ptr q1.2 0)),(16,sm r8)] κ<|ae c14,trivial⟩
     have c2:X 5 2 (sp 19 [(3,.d (.ptr q1.2 0)),(14,lI e5)] G6):=by subst hX;exact aR 0 [2] ⟨mE (c:=aM) (n':=3) (d:=13) (xs:=q7.1) 19 [3,13,14] (K53 q1.2 q7 [(14,lI e5)]) hq_0 κ κ<|ae c3,rU (some 15) [(3,.d (.ptr q1.2 0)),(15,lI r8)] (lS hr_2)<|ae c6,trivial⟩
     have c0:X 6 0 (sp 19 [(3,.d (.ptr q1.2 0)),(4,j6 e5)] G6):=by subst hX;exact aR 0 [1] ⟨mE (c:=aM) (n':=3) (d:=13) (xs:=q7.1) 19 [3,4,13] [(3,.d (.ptr q1.2 0)),(4,j6 e5),(13,.own 3 (List.map ab q7.1))] hq_0 κ κ<|ae c1,bf 19 G6 [13] [3,14] 1 [(3,.d (.ptr q1.2 0)),(14,lI e5)] κ<|ae c2,trivial⟩
     exact c0))) hit) (aL<|ag<|(by intro ds;exact qK<|lJ<|yw 2<|bI h λq12 hq h=>jn hq<|bf 19 q12.2 [] [2] 1 [(2,zM q12)] κ<|ae<|Ib.D<|ag<|qL<|iI h▸E0))
def jr(fuel:Nat)(r1:(((List Entry))×Hp))(y2:(List Int)×Int×Hp):Option (((List Int)×Int×Hp)⊕((List Int)×Hp)):=
 bif (decide (y2.2.1<(r1.1.length:Int)))then
  (idx r1.1 y2.2.1).bind λx3=>
  et (decide ((y2.1++[x3.Key]).length<=room))<|
  some (.inl ((y2.1++[x3.Key]),(IntKind.wrap .i64 (y2.2.1+1)),y2.2.2))
 else
  some (.inr (y2.1,y2.2.2))
def lp(fuel:Nat)(p0:Nat)(H:Hp):Option (((List Int))×Hp):=
 (iu fuel p0 H).bind λr1=>
 (iter (jr fuel r1) fuel (([]:List Int),0,r1.2)).bind λv5=>
 some (v5.1,v5.2)
def Mb(x0:(((List Entry))×Hp)):SV:=.own 3 (List.map ab x0.1)
def Uq(x0:(List Int)×Int×Hp):SV:=.own 1 (List.map (D.int .i64) x0.1)
theorem oY(h:lp fuel p0 H=some r):SC Tryz.prog false 33 [.d (.ptr p0 0)] H (.own 1 (List.map (D.int .i64) r.1)) r.2:=by
 refine cf Tryz.func33 rfl ?_
 unfold lp at h
 exact aH 20 H [(0,.d (.ptr p0 0))]<|au 2<|an<|ax<|aa 1<|bI h λr1 hr h=>bJ (kD hr)<|aw (aG (enc:=ab) (xs:=r1.1))<|aa 1<|ak<|aI<|bI h λv5 hit h=>mA 20 [3,7,8,9] (λy2=>[(3,.own 1 (List.map (D.int .i64) y2.1)),(7,Mb r1),(8,vI (r1.1.length:Int)),(9,vI y2.2.1)]) (λy2=>y2.2.2) (λv5 e s=>(e=.exit 0/\s=(sp 20 [(3,.own 1 (List.map (D.int .i64) v5.1))] v5.2))) hit κ (λy2 o h=>by unfold jr at h;exact au 1<|an<|aQ h (λh=>ao<|ag<|an<|aI<|ax<|bI h λx3 hx h=>aw (s:=bc (some (.slot 7)) (ab x3).cells) (aB (n:=3) hx)<|aa 3<|ak<|ah<|aP [13] 4<|nj h λhk h=>fx 13 1 (List.map (D.int .i64) (y2.1++[x3.Key])) (bt) (bZ hk)<|aP [13] 1<|ae<|aL<|ag<|ah<|aa 2<|ae<|LQ h) (λh=>aH 20 y2.2.2 [(3,Uq y2)]<|bN<|aY<|aY<|LR h ⟨rfl,rfl⟩)) (by rintro _ _ ⟨rfl,rfl⟩;exact bq<|ag<|ax<|aP [19] 2<|ak<|al<|iI h▸E0)
def Br(fuel:Nat)(r1:(((Option Nat)×Int)×Hp))(y2:Int×Hp):Option ((Int×Hp)⊕((Hp)⊕((Bool)))):=
 bif (decide (y2.1<3))then
  (idx [5,5,3] y2.1).bind λx3=>
  r1.1.1.bind λi4=>
  (eB fuel i4 [(⟨1,x3,[]⟩:Value)] (IntKind.wrap .i64 (y2.1+1)) y2.2).bind λr5=>
  bif (r5.1.2 !=0)then
   some (.inr (.inr false))
  else
   some (.inl ((IntKind.wrap .i64 (y2.1+1)),r5.2))
 else
  some (.inr (.inl y2.2))
def tZ(fuel:Nat):Option (Bool):=
 (yF fuel (⟨[1],[false],2⟩:ay) 4 []).bind λr1=>
 bif (r1.1.2 !=0)then
  some false
 else
  (iter (Br fuel r1) fuel (0,r1.2)).bind (Sum.elim (λv7=>
   r1.1.1.bind λi8=>
   (lp fuel i8 v7).bind λr9=>
   bif ((r9.1.length:Int)==3)then
    (idx r9.1 0).bind λx10=>
    bif (x10==3)then
     (idx r9.1 1).bind λx11=>
     bif (x11==2)then
      (idx r9.1 2).bind λx12=>
      some (x12==1)
     else
      some false
    else
     some false
   else
    some false) (λr13=>
   some r13))
def Ma(x0:(((List Int))×Hp)):SV:=.own 1 (List.map (D.int .i64) x0.1)
theorem vq(h:tZ fuel=some r):PC Tryz.prog 8 [] (vB r):=by
 exact pB Tryz.func8 rfl (by simp[jh,fO,gm,vI,vB,vS]) (by simp[jh,fO,gm,vI,vB,vS])<|(by unfold tZ at h;exact aH 58 [] []<|au 1<|ax<|aa 2<|uk 8<|uk 9<|aa 1<|bI h λr1 hr h=>bJ (Aw hr)<|aa 5<|ak<|an<|au 1<|aQ h (λh=>au 1<|al<|aq<|iI h▸EL) (λh=>ao<|ag<|an<|au 1<|aI<|bI h λz6 hit h=>mA 58 [1,3] (λy2=>[(1,.d (cP.enc r1.1.1)),(3,vI y2.1)]) (λy2=>y2.2) (λb e s=>((∃v7,b=(.inl v7)/\(e=.exit 0/\s=(sp 58 [(1,.d (cP.enc r1.1.1))] v7)))\/(∃r13,b=(.inr r13)/\(e=.ret/\JA Tryz.prog Tryz.f8.results.toList (vB r13) .ret s)))) hit κ (λy2 o h=>by unfold Br at h;exact an<|au 1<|aQ h (λh=>ao<|ag<|an<|aI<|ax<|aa 3<|bI h λx3 hx h=>aw (s:=bc (some (.slot 22)) (Go.Sh.D.cells ((D.int .i64) x3))) (aB (n:=1) hx)<|aa 3<|uk 27<|aU [] [1,3,21,27,29] 2<|bI h λi4 hp_i4 h=>bA r1.1.1 (λp=>(sp 58 [(1,.d (cP.enc p)),(3,vI y2.1),(21,.d (cP.enc p)),(27,Ur x3),(29,Us y2)] y2.2)) κ hp_i4<|bI h λr5 hr h=>bJ (mU hr)<|aa 5<|ak<|au 1<|aQ h (λh=>au 1<|al<|aJ<|aq<|aq<|LR h (.inr (⟨false,rfl,rfl,JA.ret [] κ⟩))) (λh=>ao<|aL<|ag<|ah<|aa 3<|ae<|(by cases h;exact⟨((IntKind.wrap .i64 (y2.1+1)),r5.2),rfl,by rw[hp_i4];kernel_rfl⟩))) (λh=>aH 58 y2.2 [(1,.d (cP.enc r1.1.1))]<|bN<|aY<|aY<|LR h (.inl ⟨y2.2,rfl,rfl,rfl⟩))) (by rintro _ _ (⟨v7,rfl,rfl,rfl⟩|⟨r13,rfl,rfl,hE⟩);exact have h:=jv h;bq<|ag<|ax<|aU [] [35] 1<|bI h λi8 hp_i8 h=>bA r1.1.1 (λp=>(sp 58 [(35,.d (cP.enc p))] v7)) κ hp_i8<|bI h λr9 hr h=>bJ (oY hr)<|aa 1<|ak<|ax<|aa 1<|aw (aG (enc:=(D.int .i64)) (xs:=r9.1))<|aU [] [6,40] 2<|bE (λb=>(sp 58 [(6,Ma r9),(40,vB b)] r9.2)) h (λh=>aa 1<|bI h λx10 hx h=>aw (s:=bc (some (.slot 6)) (Go.Sh.D.cells ((D.int .i64) x10))) (aB (n:=1) hx)<|aU [] [6,46] 4<|bE (λb=>(sp 58 [(6,Ma r9),(46,vB b)] r9.2)) h (λh=>aa 1<|bI h λx11 hx h=>aw (s:=bc (some (.slot 6)) (Go.Sh.D.cells ((D.int .i64) x11))) (aB (n:=1) hx)<|aU [] [6,52] 4<|bE (λb=>(sp 58 [(6,Ma r9),(52,vB b)] r9.2)) h (λh=>aP [53] 1<|bI h λx12 hx h=>aw (s:=bc (some (.slot 53)) (Go.Sh.D.cells ((D.int .i64) x12))) (aB (n:=1) hx)<|aP [53] 4<|ak<|al<|iI h▸EL) λh=>aP [53] 6<|ak<|al<|iI h▸EL) λh=>aP [53] 12<|ak<|al<|iI h▸EL) λh=>aP [53] 18<|ak<|al<|iI h▸EL;exact have h:=ju h;aJ<|aq<|(by cases h;exact hE))))
structure Tree where
 S:ay
 Order:Int
 ea:(List Entry)
 gJ:Int
 deriving DecidableEq,Inhabited
def jj(x:Tree):D:=.agg [.list 1 (List.map (D.int .i64) x.S.aD),.list 1 (List.map D.bool x.S.Down),.int .i64 x.S.ee,.int .i64 x.Order,.list 3 (List.map ab x.ea),.int .i64 x.gJ]
structure Tw where
 t:(Option Nat)
 r:Tree
 same:Bool
 ok:Bool
 deriving DecidableEq,Inhabited
def o9(fuel:Nat)(p0:ay)(y1:Int):Option ((Int)⊕((Unit)⊕((Bool)))):=
 bif (decide (y1<(p0.aD.length:Int)))then
  (idx p0.aD y1).bind λx2=>
  bif (x2 !=1)then
   (idx p0.aD y1).bind λx3=>
   bif (x3 !=2)then
    some (.inr (.inr false))
   else
    some (.inl (IntKind.wrap .i64 (y1+1)))
  else
   some (.inl (IntKind.wrap .i64 (y1+1)))
 else
  some (.inr (.inl ()))
def tT(fuel:Nat)(p0:ay):Option (Bool):=
 (iter (o9 fuel p0) fuel 0).bind (Sum.elim (λv5=>
  bif (decide ((p0.aD.length:Int)>=1))then
   bif (decide ((p0.aD.length:Int)<=8))then
    some ((((p0.Down.length:Int)==(p0.aD.length:Int))&&(decide (p0.ee>=1)))&&(decide (p0.ee<=3)))
   else
    some false
  else
   some false) (λr6=>
  some r6))
def Tq:SV:=.box [.d (.fU),.d (.cm),.d (.cm),vI 0,vI 0,.d (.cm),vI 0,vB false,vB false]
def qc:SV:=.box [.d (.cm),.d (.cm),vI 0,vI 0,.d (.cm),vI 0]
theorem AP(h:tT fuel p0=some r):PC Tryz.prog 45 [.d (cD p0)] (vB r):=by
 refine aW Tryz.func45 rfl λH=>?_
 unfold tT at h
 exact aH 54 H [(0,Z2 p0)]<|au 1<|an<|au 1<|aI<|bI h λz4 hit h=>eY 54 H [1,3] (λy1=>[(1,Z1 p0),(3,vI y1)]) (λb e s=>((∃v5,b=(.inl v5)/\(e=.exit 0/\s=(sp 54 [(1,Z1 p0)] H)))\/(∃r6,b=(.inr r6)/\(e=.ret/\dp Tryz.prog Tryz.f45.results.toList H (vB r6) .ret s)))) hit κ (λy1 o h=>by unfold o9 at h;exact an<|ax<|aa 3<|aw (aG (enc:=(D.int .i64)) (xs:=p0.aD))<|aa 1<|ak<|aQ h (λh=>ao<|ag<|an<|aI<|ax<|aa 3<|bI h λx2 hx h=>aw (s:=bc none (Go.Sh.D.cells ((D.int .i64) x2))) (aB (n:=1) hx)<|aU [] [1,3,17] 3<|bE (λb=>(sp 54 [(1,Z1 p0),(3,vI y1),(17,vB b)] H)) h (λh=>aa 3<|bI h λx3 hx h=>aw (s:=bc none (Go.Sh.D.cells ((D.int .i64) x3))) (aB (n:=1) hx)<|aa 3<|ak<|aQ h (λh=>au 1<|al<|aJ<|aq<|aq<|LR h (.inr (⟨false,rfl,rfl,dp.ret [] κ κ⟩))) (λh=>ao<|aL<|ag<|ah<|aa 3<|ae<|LQ h)) λh=>aa 7<|ak<|iV<|ao<|aL<|ag<|ah<|aa 3<|ae<|LQ h) (λh=>aH 54 H [(1,Z1 p0)]<|bN<|aY<|aY<|LR h (.inl ⟨(),rfl,rfl,rfl⟩))) (by rintro _ _ (⟨v5,rfl,rfl,rfl⟩|⟨r6,rfl,rfl,hE⟩);exact have h:=jv h;bq<|ag<|ax<|aa 2<|aw (aG (enc:=(D.int .i64)) (xs:=p0.aD))<|aU [] [1,29] 2<|bE (λb=>(sp 54 [(1,Z1 p0),(29,vB b)] H)) h (λh=>aa 2<|aw (aG (enc:=(D.int .i64)) (xs:=p0.aD))<|aU [] [1,35] 3<|bE (λb=>(sp 54 [(1,Z1 p0),(35,vB b)] H)) h (λh=>aa 2<|aw (aG (enc:=D.bool) (xs:=p0.Down))<|aa 2<|aw (aG (enc:=(D.int .i64)) (xs:=p0.aD))<|aU [] [1,44] 3<|dO 54 H [1,48] 4 ((p0.Down.length:Int)==(p0.aD.length:Int)) (λb=>(sp 54 [(1,Z1 p0),(44,vB b)] H)) (λb=>[(1,Z1 p0),(48,vB (b&&(decide (p0.ee>=1))))]) κ κ κ<|aU [] [1,49] 1<|dO 54 H [53] 4 (((p0.Down.length:Int)==(p0.aD.length:Int))&&(decide (p0.ee>=1))) (λb=>(sp 54 [(1,Z1 p0),(49,vB b)] H)) (λb=>[(53,vB (b&&(decide (p0.ee<=3))))]) κ κ κ<|aa 1<|ak<|al<|iI h▸E0) λh=>aa 19<|ak<|al<|iI h▸E0) λh=>aa 25<|ak<|al<|iI h▸E0;exact have h:=ju h;aJ<|aq<|(by cases h;exact hE))
def C1(fuel:Nat)(p0:ay)(p1:Int):Option (Tree×Int):=
 (tT fuel p0).bind λr1=>
 bif (!r1)then
  some ((⟨(⟨([]:List Int),([]:List Bool),0⟩:ay),0,([]:List Entry),0⟩:Tree),1)
 else
  bif ((decide (p1<3))||(decide (p1>32)))then
   some ((⟨(⟨([]:List Int),([]:List Bool),0⟩:ay),0,([]:List Entry),0⟩:Tree),7)
  else
   some ((⟨p0,p1,([]:List Entry),0⟩:Tree),0)
def Sa:SV:=.box [.d (.list 1 (List.map (D.int .i64) ([]:List Int))),.d (.cm),vI 0,vI 0,.d (.cm),vI 0]
def R9:SV:=.box [.d (.list 1 (List.map (D.int .i64) ([]:List Int))),.d (.list 1 (List.map D.bool ([]:List Bool))),vI 0,vI 0,.d (.cm),vI 0]
def R8:SV:=.box [.d (.list 1 (List.map (D.int .i64) ([]:List Int))),.d (.list 1 (List.map D.bool ([]:List Bool))),vI 0,vI 0,.d (.list 3 (List.map ab ([]:List Entry))),vI 0]
def Uo(x0:ay)(x1:Int):SV:=.box [.d (.list 1 (List.map (D.int .i64) x0.aD)),.d (.list 1 (List.map D.bool x0.Down)),vI x0.ee,vI x1,.d (.list 3 (List.map ab ([]:List Entry))),vI 0]
theorem Nh(h:C1 fuel p0 p1=some r):PC Tryz.prog 34 [.d (cD p0),vI p1] (.g8 [.d (.agg [.list 1 (List.map (D.int .i64) r.1.S.aD),.list 1 (List.map D.bool r.1.S.Down),.int .i64 r.1.S.ee,.int .i64 r.1.Order,.list 3 (List.map ab r.1.ea),.int .i64 r.1.gJ]),vI r.2]):=by
 refine aW Tryz.func34 rfl λH=>?_
 unfold C1 at h
 exact aH 22 H [(0,Z2 p0),(1,vI p1)]<|au 1<|an<|aI<|ax<|aa 1<|bI h λr1 hr h=>bw (AP hr)<|aa 2<|ak<|aQ h (λh=>mS 1 [4,5]<|dH 4 0 1 22 H [4,5] [(4,Sa),(5,vI 1)] κ<|dH 4 1 1 22 H [4,5] [(4,R9),(5,vI 1)] κ<|dH 4 4 3 22 H [4,5] [(4,R8),(5,vI 1)] κ<|al<|aJ<|aq<|iI h▸E0) (λh=>ax<|aU [] [1,2,4,14] 3<|dO 22 H [1,2,4,17] 3 (decide (p1<3)) (λb=>(sp 22 [(1,vI p1),(2,Z1 p0),(4,qc),(14,vB b)] H)) (λb=>[(1,vI p1),(2,Z1 p0),(4,qc),(17,vB (b||(decide (p1>32))))]) κ κ κ<|aa 1<|ak<|aQ h (λh=>mS 1 [4,5]<|dH 4 0 1 22 H [4,5] [(4,Sa),(5,vI 7)] κ<|dH 4 1 1 22 H [4,5] [(4,R9),(5,vI 7)] κ<|dH 4 4 3 22 H [4,5] [(4,R8),(5,vI 7)] κ<|al<|aJ<|aq<|iI h▸E0) (λh=>ao<|aL<|ag<|mS 1 [4,5]<|dH 4 4 3 22 H [4,5] [(4,Uo p0 p1),(5,vI 0)] κ<|al<|iI h▸E0))
def jB(fuel:Nat)(p0:Value):Option (Bool):=
 bif (p0.Kind==1)then
  some (((decide (p0.N>=(-1000000000)))&&(decide (p0.N<=1000000000)))&&(p0.S==[]))
 else
  bif ((p0.Kind==2)&&(p0.N==0))then
   some (decide ((p0.S.length:Int)<=40))
  else
   some false
def R7(x0:Tree×Int):SV:=.d (.agg [.list 1 (List.map (D.int .i64) x0.1.S.aD),.list 1 (List.map D.bool x0.1.S.Down),.int .i64 x0.1.S.ee,.int .i64 x0.1.Order,.list 3 (List.map ab x0.1.ea),.int .i64 x0.1.gJ])
def L9(x0:Act):SV:=.box [vI x0.Kind,vI x0.Key,.d (.list 3 (List.map ar x0.Row)),.d (.list 3 (List.map ar x0.yi))]
def pH(x0:Tree):SV:=.box [.d (.list 1 (List.map (D.int .i64) x0.S.aD)),.d (.list 1 (List.map D.bool x0.S.Down)),vI x0.S.ee,vI x0.Order,.d (.list 3 (List.map ab x0.ea)),vI x0.gJ]
theorem wa(h:jB fuel p0=some r):PC Tryz.prog 101 [.d (ar p0)] (vB r):=by
 refine aW Tryz.func101 rfl λH=>?_
 unfold jB at h
 exact aH 33 H [(0,Jj p0)]<|au 1<|an<|au 1<|aQ h (λh=>ax<|aU [] [1,9] 4<|dO 33 H [1,13] 4 (decide (p0.N>=(-1000000000))) (λb=>(sp 33 [(1,KD p0),(9,vB b)] H)) (λb=>[(1,KD p0),(13,vB (b&&(decide (p0.N<=1000000000))))]) κ κ κ<|aU [] [1,14] 1<|dO 33 H [18] 4 ((decide (p0.N>=(-1000000000)))&&(decide (p0.N<=1000000000))) (λb=>(sp 33 [(1,KD p0),(14,vB b)] H)) (λb=>[(18,vB (b&&(p0.S==[])))]) κ κ κ<|aa 1<|ak<|al<|aq<|iI h▸E0) (λh=>ao<|ag<|ax<|aU [] [1,22] 4<|dO 33 H [1,26] 4 (p0.Kind==2) (λb=>(sp 33 [(1,KD p0),(22,vB b)] H)) (λb=>[(1,KD p0),(26,vB (b&&(p0.N==0)))]) κ κ κ<|aU [] [1,27] 1<|bE (λb=>(sp 33 [(1,KD p0),(27,vB b)] H)) h (λh=>aa 2<|aa 1<|aa 3<|ak<|al<|iI h▸E0) λh=>aa 6<|ak<|al<|iI h▸E0)
def iQ(fuel:Nat)(p0:(List Value))(y1:Int):Option ((Int)⊕((Unit)⊕((Bool)))):=
 bif (decide (y1<(p0.length:Int)))then
  (idx p0 y1).bind λx2=>
  (jB fuel x2).bind λr3=>
  bif (!r3)then
   some (.inr (.inr false))
  else
   some (.inl (IntKind.wrap .i64 (y1+1)))
 else
  some (.inr (.inl ()))
def mf(fuel:Nat)(p0:(List Value)):Option (Bool):=
 (iter (iQ fuel p0) fuel 0).bind (Sum.elim (λv5=>
  some (decide ((p0.length:Int)<=8))) (λr6=>
  some r6))
theorem zG(h:mf fuel p0=some r):PC Tryz.prog 82 [.d (.list 3 (List.map ar p0))] (vB r):=by
 refine aW Tryz.func82 rfl λH=>?_
 unfold mf at h
 exact aH 19 H [(0,Z9 p0)]<|au 1<|an<|au 1<|aI<|bI h λz4 hit h=>eY 19 H [0,3] (λy1=>[(0,Z9 p0),(3,vI y1)]) (λb e s=>((∃v5,b=(.inl v5)/\(e=.exit 0/\s=(sp 19 [(0,Z9 p0)] H)))\/(∃r6,b=(.inr r6)/\(e=.ret/\dp Tryz.prog Tryz.f82.results.toList H (vB r6) .ret s)))) hit κ (λy1 o h=>by unfold iQ at h;exact an<|ax<|aa 2<|aw (aG (enc:=ar) (xs:=p0))<|aa 1<|ak<|aQ h (λh=>ao<|ag<|an<|aI<|ax<|aa 2<|bI h λx2 hx h=>aw (s:=bc none (ar x2).cells) (aB (n:=3) hx)<|aa 1<|bI h λr3 hr h=>bw (wa hr)<|aa 1<|ak<|aQ h (λh=>au 1<|al<|aJ<|aq<|aq<|LR h (.inr (⟨false,rfl,rfl,dp.ret [] κ κ⟩))) (λh=>ao<|aL<|ag<|ah<|aa 3<|ae<|LQ h)) (λh=>aH 19 H [(0,Z9 p0)]<|bN<|aY<|aY<|LR h (.inl ⟨(),rfl,rfl,rfl⟩))) (by rintro _ _ (⟨v5,rfl,rfl,rfl⟩|⟨r6,rfl,rfl,hE⟩);exact have h:=jv h;bq<|ag<|ax<|aa 1<|aw (aG (enc:=ar) (xs:=p0))<|aa 2<|ak<|al<|iI h▸E0;exact have h:=ju h;aJ<|aq<|(by cases h;exact hE))
def sK(fuel:Nat)(p0:ay)(p1:(List Value))(y4:Int):Option ((Int)⊕((Unit)⊕((Bool)))):=
 bif (decide (y4<(p1.length:Int)))then
  (idx p1 y4).bind λx5=>
  (idx p0.aD y4).bind λx6=>
  bif (x5.Kind !=x6)then
   some (.inr (.inr false))
  else
   some (.inl (IntKind.wrap .i64 (y4+1)))
 else
  some (.inr (.inl ()))
def oo(fuel:Nat)(p0:ay)(p1:(List Value)):Option (Bool):=
 bp (λ(j1:Bool)=>
  bif j1 then
   some false
  else
   (iter (sK fuel p0 p1) fuel 0).bind (Sum.elim (λv8=>
    some true) (λr9=>
    some r9))) λjp2=>
 (mf fuel p1).bind λr3=>
 bif (!r3)then
  jp2 true
 else
  jp2 ((p1.length:Int) !=(p0.aD.length:Int))
theorem mc(h:oo fuel p0 p1=some r):PC Tryz.prog 53 [.d (cD p0),.d (.list 3 (List.map ar p1))] (vB r):=by
 refine aW Tryz.func53 rfl λH=>?_
 unfold oo at h
 exact aH 34 H [(0,Z2 p0),(1,Z9 p1)]<|au 1<|an<|eb 34 H [1,2,16] (λ(j1:Bool)=>[(1,Z9 p1),(2,Z1 p0),(16,vB j1)]) h (λj1 h=>aQ h (λh=>au 1<|al<|aq<|iI h▸E0) (λh=>ao<|ag<|an<|au 1<|aI<|bI h λz7 hit h=>eY 34 H [1,2,5] (λy4=>[(1,Z9 p1),(2,Z1 p0),(5,vI y4)]) (λb e s=>((∃v8,b=(.inl v8)/\(e=.exit 0/\s=(sp 34 [] H)))\/(∃r9,b=(.inr r9)/\(e=.ret/\dp Tryz.prog Tryz.f53.results.toList H (vB r9) .ret s)))) hit κ (λy4 o h=>by unfold sK at h;exact an<|ax<|aa 2<|aw (aG (enc:=ar) (xs:=p1))<|aa 1<|ak<|aQ h (λh=>ao<|ag<|an<|aI<|an<|zl<|bW 2<|bI h λx5 hx h=>cH (s:=bc none (ar x5).cells) (aB (n:=3) hx)<|bW 5<|bI h λx6 hx h=>cH (s:=bc none (Go.Sh.D.cells ((D.int .i64) x6))) (aB (n:=1) hx)<|bW 2<|gI<|ag<|aQ h (λh=>au 1<|al<|aJ<|aq<|aq<|LR h (.inr (⟨false,rfl,rfl,dp.ret [] κ κ⟩))) (λh=>ao<|aL<|ag<|ah<|aa 3<|ae<|LQ h)) (λh=>aH 34 H []<|bN<|aY<|aY<|LR h (.inl ⟨(),rfl,rfl,rfl⟩))) (by rintro _ _ (⟨v8,rfl,rfl,rfl⟩|⟨r9,rfl,rfl,hE⟩);exact have h:=jv h;bq<|ag<|au 1<|al<|iI h▸E0;exact have h:=ju h;aJ<|aq<|(by cases h;exact hE)))) λjp2 h=>ah<|aa 1<|bI h λr3 hr h=>bw (zG hr)<|aU [] [1,2,9] 2<|bE (λb=>(sp 34 [(1,Z9 p1),(2,Z1 p0),(9,vB b)] H)) h (λh=>aa 7<|ae<|JQ [] h) λh=>aa 1<|aw (aG (enc:=ar) (xs:=p1))<|aa 2<|aw (aG (enc:=(D.int .i64)) (xs:=p0.aD))<|aa 2<|ae<|JQ [] h
def sI(fuel:Nat)(p0:Int):Option (Bool):=
 some ((decide (p0>=1))&&(decide (p0<=1000000)))
theorem qp(h:sI fuel p0=some r):PC Tryz.prog 56 [vI p0] (vB r):=by
 refine aW Tryz.func56 rfl λH=>?_
 unfold sI at h
 exact aH 9 H [(0,vI p0)]<|au 1<|ax<|aU [] [0,5] 3<|dO 9 H [8] 3 (decide (p0>=1)) (λb=>(sp 9 [(0,vI p0),(5,vB b)] H)) (λb=>[(8,vB (b&&(decide (p0<=1000000))))]) κ κ κ<|aa 1<|ak<|al<|iI h▸E0
def pe(fuel:Nat)(p0:Int)(p1:Int):Option (Int):=
 bif (decide (p0<p1))then
  some (-1)
 else
  bif (decide (p0>p1))then
   some 1
  else
   some 0
def yh(x0:Tree):SV:=.d (.agg [.list 1 (List.map (D.int .i64) x0.S.aD),.list 1 (List.map D.bool x0.S.Down),.int .i64 x0.S.ee,.int .i64 x0.Order,.list 3 (List.map ab x0.ea),.int .i64 x0.gJ])
def CE(x0:Tree):SV:=.d (.list 3 (List.map ab x0.ea))
theorem sL(h:pe fuel p0 p1=some r):PC Tryz.prog 95 [vI p0,vI p1] (vI r):=by
 refine aW Tryz.func95 rfl λH=>?_
 unfold pe at h
 exact aH 13 H [(0,vI p0),(1,vI p1)]<|au 1<|an<|aI<|au 1<|aQ h (λh=>au 1<|al<|aJ<|aq<|iI h▸E0) (λh=>au 1<|aQ h (λh=>au 1<|al<|aJ<|aq<|iI h▸E0) (λh=>ao<|aL<|ag<|au 1<|al<|iI h▸E0))
def qw(fuel:Nat)(p0:Int):Option (Int):=
 bif (decide (p0<0))then
  some (-1)
 else
  bif (decide (p0>0))then
   some 1
  else
   some 0
theorem yM(h:qw fuel p0=some r):PC Tryz.prog 114 [vI p0] (vI r):=by
 refine aW Tryz.func114 rfl λH=>?_
 unfold qw at h
 exact aH 9 H [(0,vI p0)]<|au 1<|an<|aI<|au 1<|aQ h (λh=>au 1<|al<|aJ<|aq<|iI h▸E0) (λh=>au 1<|aQ h (λh=>au 1<|al<|aJ<|aq<|iI h▸E0) (λh=>ao<|aL<|ag<|au 1<|al<|iI h▸E0))
def me(fuel:Nat)(p0:(List UInt8))(p1:(List UInt8))(y1:Int):Option ((Int)⊕((Unit)⊕((Int)))):=
 bp (λ(j2:Bool)=>
  bif j2 then
   (idx p0 y1).bind λb4=>
   (idx p1 y1).bind λb5=>
   bif ((b4.toNat:Int) !=(b5.toNat:Int))then
    (idx p0 y1).bind λb6=>
    (idx p1 y1).bind λb7=>
    (qw fuel (IntKind.wrap .i64 ((IntKind.wrap .i64 (b6.toNat:Int)) - (IntKind.wrap .i64 (b7.toNat:Int))))).bind λr8=>
    some (.inr (.inr r8))
   else
    some (.inl (IntKind.wrap .i64 (y1+1)))
  else
   some (.inr (.inl ()))) λjp3=>
 bif (decide (y1<(p0.length:Int)))then
  jp3 (decide (y1<(p1.length:Int)))
 else
  jp3 false
def qv(fuel:Nat)(p0:(List UInt8))(p1:(List UInt8)):Option (Int):=
 (iter (me fuel p0 p1) fuel 0).bind (Sum.elim (λv10=>
  (qw fuel (IntKind.wrap .i64 ((p0.length:Int) - (p1.length:Int)))).bind λr11=>
  some r11) (λr12=>
  some r12))
theorem Ef(h:qv fuel p0 p1=some r):PC Tryz.prog 102 [vS p0,vS p1] (vI r):=by
 refine aW Tryz.func102 rfl λH=>?_
 unfold qv at h
 exact aH 41 H [(0,vS p0),(1,vS p1)]<|au 1<|an<|au 1<|aI<|bI h λz9 hit h=>eY 41 H [0,1,5] (λy1=>[(0,vS p0),(1,vS p1),(5,vI y1)]) (λb e s=>((∃v10,b=(.inl v10)/\(e=.exit 0/\s=(sp 41 [(0,vS p0),(1,vS p1)] H)))\/(∃r12,b=(.inr r12)/\(e=.ret/\dp Tryz.prog Tryz.f102.results.toList H (vI r12) .ret s)))) hit κ (λy1 o h=>by unfold me at h;exact an<|eb 41 H [0,1,5,15] (λ(j2:Bool)=>[(0,vS p0),(1,vS p1),(5,vI y1),(15,vB j2)]) h (λj2 h=>aQ h (λh=>ao<|ag<|an<|aI<|an<|zl<|bW 2<|bI h λb4 hx h=>cH (pY hx)<|bW 2<|bI h λb5 hx h=>cH (pY hx)<|bW 1<|gI<|ag<|aQ h (λh=>an<|fM<|aF 2<|bI h λb6 hx h=>bm (pY hx)<|aF 3<|bI h λb7 hx h=>bm (pY hx)<|aF 2<|bI h λr8 hr h=>fk (yM hr)<|aF 1<|bF<|ag<|al<|aJ<|aq<|aq<|LR h (.inr (⟨r8,rfl,rfl,dp.ret [] κ κ⟩))) (λh=>ao<|aL<|ag<|ah<|aa 3<|ae<|LQ h)) (λh=>zm [(0,vS p0),(1,vS p1)]<|bN<|aY<|aY<|LR h (.inl ⟨(),rfl,rfl,rfl⟩))) λjp3 h=>ah<|aa 2<|aa 1<|aU [] [0,1,5,10] 2<|bE (λb=>(sp 41 [(0,vS p0),(1,vS p1),(5,vI y1),(10,vB b)] H)) h (λh=>aa 2<|aa 1<|aa 2<|ae<|JQ [] h) λh=>aa 5<|ae<|JQ [] h) (by rintro _ _ (⟨v10,rfl,rfl,rfl⟩|⟨r12,rfl,rfl,hE⟩);exact have h:=jv h;bq<|ag<|ax<|aa 1<|aa 1<|aa 1<|aa 1<|aa 1<|bI h λr11 hr h=>bw (yM hr)<|aa 1<|ak<|al<|iI h▸E0;exact have h:=ju h;aJ<|aq<|(by cases h;exact hE))
def lz(fuel:Nat)(p0:Value)(p1:Value):Option (Int):=
 (pe fuel p0.Kind p1.Kind).bind λr1=>
 bif (r1 !=0)then
  some r1
 else
  (pe fuel p0.N p1.N).bind λr2=>
  bif (r2 !=0)then
   some r2
  else
   (qv fuel p0.S p1.S).bind λr3=>
   some r3
theorem sM(h:lz fuel p0 p1=some r):PC Tryz.prog 83 [.d (ar p0),.d (ar p1)] (vI r):=by
 refine aW Tryz.func83 rfl λH=>?_
 unfold lz at h
 exact aH 28 H [(0,Jj p0),(1,Jj p1)]<|au 1<|an<|ax<|aa 4<|bI h λr1 hr h=>bw (sL hr)<|aa 1<|ak<|au 1<|aQ h (λh=>au 1<|al<|aq<|iI h▸E0) (λh=>ao<|ag<|an<|ax<|aa 4<|bI h λr2 hr h=>bw (sL hr)<|aa 1<|ak<|au 1<|aQ h (λh=>au 1<|al<|aq<|iI h▸E0) (λh=>ao<|ag<|ax<|aa 4<|bI h λr3 hr h=>bw (Ef hr)<|aa 1<|ak<|al<|iI h▸E0))
def cC(fuel:Nat)(p0:(List Value))(p1:(List Value))(y1:Int):Option ((Int)⊕((Unit)⊕((Int)))):=
 bp (λ(j2:Bool)=>
  bif j2 then
   (idx p0 y1).bind λx4=>
   (idx p1 y1).bind λx5=>
   (lz fuel x4 x5).bind λr6=>
   bif (r6 !=0)then
    some (.inr (.inr r6))
   else
    some (.inl (IntKind.wrap .i64 (y1+1)))
  else
   some (.inr (.inl ()))) λjp3=>
 bif (decide (y1<(p0.length:Int)))then
  jp3 (decide (y1<(p1.length:Int)))
 else
  jp3 false
def gv(fuel:Nat)(p0:(List Value))(p1:(List Value)):Option (Int):=
 (iter (cC fuel p0 p1) fuel 0).bind (Sum.elim (λv8=>
  (pe fuel (p0.length:Int) (p1.length:Int)).bind λr9=>
  some r9) (λr10=>
  some r10))
theorem vp(h:gv fuel p0 p1=some r):PC Tryz.prog 77 [.d (.list 3 (List.map ar p0)),.d (.list 3 (List.map ar p1))] (vI r):=by
 refine aW Tryz.func77 rfl λH=>?_
 unfold gv at h
 exact aH 36 H [(0,Z9 p0),(1,Z9 p1)]<|au 1<|an<|au 1<|aI<|bI h λz7 hit h=>eY 36 H [0,1,5] (λy1=>[(0,Z9 p0),(1,Z9 p1),(5,vI y1)]) (λb e s=>((∃v8,b=(.inl v8)/\(e=.exit 0/\s=(sp 36 [(0,Z9 p0),(1,Z9 p1)] H)))\/(∃r10,b=(.inr r10)/\(e=.ret/\dp Tryz.prog Tryz.f77.results.toList H (vI r10) .ret s)))) hit κ (λy1 o h=>by unfold cC at h;exact an<|eb 36 H [0,1,5,16] (λ(j2:Bool)=>[(0,Z9 p0),(1,Z9 p1),(5,vI y1),(16,vB j2)]) h (λj2 h=>aQ h (λh=>ao<|ag<|an<|aI<|an<|fM<|aF 2<|bI h λx4 hx h=>bm (s:=bc none (ar x4).cells) (aB (n:=3) hx)<|aF 3<|bI h λx5 hx h=>bm (s:=bc none (ar x5).cells) (aB (n:=3) hx)<|aF 1<|bI h λr6 hr h=>fk (sM hr)<|aF 1<|bF<|ag<|au 1<|aQ h (λh=>au 1<|al<|aJ<|aq<|aq<|LR h (.inr (⟨r6,rfl,rfl,dp.ret [] κ κ⟩))) (λh=>ao<|aL<|ag<|ah<|aa 3<|ae<|LQ h)) (λh=>zm [(0,Z9 p0),(1,Z9 p1)]<|bN<|aY<|aY<|LR h (.inl ⟨(),rfl,rfl,rfl⟩))) λjp3 h=>ah<|aa 2<|aw (aG (enc:=ar) (xs:=p0))<|aU [] [0,1,5,11] 2<|bE (λb=>(sp 36 [(0,Z9 p0),(1,Z9 p1),(5,vI y1),(11,vB b)] H)) h (λh=>aa 2<|aw (aG (enc:=ar) (xs:=p1))<|aa 2<|ae<|JQ [] h) λh=>aa 5<|ae<|JQ [] h) (by rintro _ _ (⟨v8,rfl,rfl,rfl⟩|⟨r10,rfl,rfl,hE⟩);exact have h:=jv h;bq<|ag<|ax<|aa 1<|aw (aG (enc:=ar) (xs:=p0))<|aa 1<|aw (aG (enc:=ar) (xs:=p1))<|bI h λr9 hr h=>bw (sL hr)<|aa 1<|ak<|al<|iI h▸E0;exact have h:=ju h;aJ<|aq<|(by cases h;exact hE))
def jC(fuel:Nat)(p0:(List Value))(p1:(List Value)):Option (Bool):=
 (gv fuel p0 p1).bind λr1=>
 some (r1==0)
theorem nN(h:jC fuel p0 p1=some r):PC Tryz.prog 49 [.d (.list 3 (List.map ar p0)),.d (.list 3 (List.map ar p1))] (vB r):=by
 refine aW Tryz.func49 rfl λH=>?_
 unfold jC at h
 exact aH 9 H [(0,Z9 p0),(1,Z9 p1)]<|au 1<|ax<|aa 2<|bI h λr1 hr h=>bw (vp hr)<|aa 2<|ak<|al<|iI h▸E0
def iZ(fuel:Nat)(p0:Tree)(p1:(List Value))(y1:Int):Option ((Int)⊕((Unit)⊕((Bool)))):=
 bif (decide (y1<(p0.ea.length:Int)))then
  (idx p0.ea y1).bind λx2=>
  (jC fuel x2.Row p1).bind λr3=>
  bif r3 then
   some (.inr (.inr true))
  else
   some (.inl (IntKind.wrap .i64 (y1+1)))
 else
  some (.inr (.inl ()))
def pb(fuel:Nat)(p0:Tree)(p1:(List Value)):Option (Bool):=
 (iter (iZ fuel p0 p1) fuel 0).bind (Sum.elim (λv5=>
  some false) (λr6=>
  some r6))
def OO(x0:Tree):SV:=vI (x0.ea.length:Int)
theorem Cs(h:pb fuel p0 p1=some r):PC Tryz.prog 64 [.d (jj p0),.d (.list 3 (List.map ar p1))] (vB r):=by
 refine aW Tryz.func64 rfl λH=>?_
 unfold pb at h
 exact aH 21 H [(0,yh p0),(1,Z9 p1)]<|au 1<|an<|au 1<|aI<|bI h λz4 hit h=>eY 21 H [1,2,5] (λy1=>[(1,Z9 p1),(2,pH p0),(5,vI y1)]) (λb e s=>((∃v5,b=(.inl v5)/\(e=.exit 0/\s=(sp 21 [] H)))\/(∃r6,b=(.inr r6)/\(e=.ret/\dp Tryz.prog Tryz.f64.results.toList H (vB r6) .ret s)))) hit κ (λy1 o h=>by unfold iZ at h;exact an<|ax<|aa 3<|aw (aG (enc:=ab) (xs:=p0.ea))<|aa 1<|ak<|aQ h (λh=>ao<|ag<|an<|aI<|ax<|aa 3<|bI h λx2 hx h=>aw (s:=bc none (ab x2).cells) (aB (n:=3) hx)<|aa 3<|bI h λr3 hr h=>bw (nN hr)<|ak<|aQ h (λh=>au 1<|al<|aJ<|aq<|aq<|LR h (.inr (⟨true,rfl,rfl,dp.ret [] κ κ⟩))) (λh=>ao<|aL<|ag<|ah<|aa 3<|ae<|LQ h)) (λh=>aH 21 H []<|bN<|aY<|aY<|LR h (.inl ⟨(),rfl,rfl,rfl⟩))) (by rintro _ _ (⟨v5,rfl,rfl,rfl⟩|⟨r6,rfl,rfl,hE⟩);exact have h:=jv h;bq<|ag<|au 1<|al<|iI h▸E0;exact have h:=ju h;aJ<|aq<|(by cases h;exact hE))
def pd(fuel:Nat)(p0:ay)(p1:(List Value))(p2:(List Value))(y1:Int):Option ((Int)⊕((Unit)⊕((Int)))):=
 bif (decide (y1<(p1.length:Int)))then
  (idx p1 y1).bind λx2=>
  (idx p2 y1).bind λx3=>
  (lz fuel x2 x3).bind λr4=>
  (idx p0.Down y1).bind λx5=>
  bif x5 then
   bif ((IntKind.wrap .i64 (0 - r4)) !=0)then
    some (.inr (.inr (IntKind.wrap .i64 (0 - r4))))
   else
    some (.inl (IntKind.wrap .i64 (y1+1)))
  else
   bif (r4 !=0)then
    some (.inr (.inr r4))
   else
    some (.inl (IntKind.wrap .i64 (y1+1)))
 else
  some (.inr (.inl ()))
def rA(fuel:Nat)(p0:ay)(p1:(List Value))(p2:(List Value)):Option (Int):=
 (iter (pd fuel p0 p1 p2) fuel 0).bind (Sum.elim (λv7=>
  some 0) (λr8=>
  some r8))
def Tp(x0:Tree):SV:=.box [.d (.list 1 (List.map (D.int .i64) x0.S.aD)),.d (.list 1 (List.map D.bool x0.S.Down)),vI x0.S.ee,vI x0.Order,.d (.list 3 (List.map ab x0.ea)),vI (IntKind.wrap .i64 (x0.gJ+1))]
def Un(x0:Tree):SV:=vI (IntKind.wrap .i64 (x0.gJ+1))
theorem vn(h:rA fuel p0 p1 p2=some r):PC Tryz.prog 54 [.d (cD p0),.d (.list 3 (List.map ar p1)),.d (.list 3 (List.map ar p2))] (vI r):=by
 refine aW Tryz.func54 rfl λH=>?_
 unfold rA at h
 exact aH 34 H [(0,Z2 p0),(1,Z9 p1),(2,Z9 p2)]<|au 1<|an<|au 1<|aI<|bI h λz6 hit h=>eY 34 H [1,2,3,7] (λy1=>[(1,Z9 p1),(2,Z9 p2),(3,Z1 p0),(7,vI y1)]) (λb e s=>((∃v7,b=(.inl v7)/\(e=.exit 0/\s=(sp 34 [] H)))\/(∃r8,b=(.inr r8)/\(e=.ret/\dp Tryz.prog Tryz.f54.results.toList H (vI r8) .ret s)))) hit κ (λy1 o h=>by unfold pd at h;exact an<|ax<|aa 2<|aw (aG (enc:=ar) (xs:=p1))<|aa 1<|ak<|aQ h (λh=>ao<|ag<|an<|aI<|an<|fM<|aF 2<|bI h λx2 hx h=>bm (s:=bc none (ar x2).cells) (aB (n:=3) hx)<|aF 3<|bI h λx3 hx h=>bm (s:=bc none (ar x3).cells) (aB (n:=3) hx)<|aF 1<|bI h λr4 hr h=>fk (sM hr)<|aF 1<|bF<|ag<|an<|ax<|aa 3<|bI h λx5 hx h=>aw (s:=bc none (Go.Sh.D.cells (D.bool x5))) (aB (n:=1) hx)<|aa 1<|ak<|aQ h (λh=>ah<|aa 3<|ak<|au 1<|aQ h (λh=>au 1<|al<|aJ<|aq<|aq<|LR h (.inr (⟨(IntKind.wrap .i64 (0 - r4)),rfl,rfl,dp.ret [] κ κ⟩))) (λh=>ao<|aL<|ag<|ah<|aa 3<|ae<|LQ h)) (λh=>ao<|ag<|au 1<|aQ h (λh=>au 1<|al<|aJ<|aq<|aq<|LR h (.inr (⟨r4,rfl,rfl,dp.ret [] κ κ⟩))) (λh=>ao<|aL<|ag<|ah<|aa 3<|ae<|LQ h))) (λh=>aH 34 H []<|bN<|aY<|aY<|LR h (.inl ⟨(),rfl,rfl,rfl⟩))) (by rintro _ _ (⟨v7,rfl,rfl,rfl⟩|⟨r8,rfl,rfl,hE⟩);exact have h:=jv h;bq<|ag<|au 1<|al<|iI h▸E0;exact have h:=ju h;aJ<|aq<|(by cases h;exact hE))
def qu(fuel:Nat)(p0:ay)(p1:Entry)(p2:Entry):Option (Bool):=
 (rA fuel p0 p1.Row p2.Row).bind λr1=>
 bif (r1 !=0)then
  some (decide (r1<0))
 else
  bif (p0.ee==2)then
   some (decide (p1.Number>p2.Number))
  else
   some (decide (p1.Number<p2.Number))
theorem yK(h:qu fuel p0 p1 p2=some r):PC Tryz.prog 89 [.d (cD p0),.d (ab p1),.d (ab p2)] (vB r):=by
 refine aW Tryz.func89 rfl λH=>?_
 unfold qu at h
 exact aH 31 H [(0,Z2 p0),(1,lI p1),(2,lI p2)]<|au 1<|an<|ax<|aa 5<|bI h λr1 hr h=>bw (vn hr)<|aa 1<|ak<|au 1<|aQ h (λh=>au 1<|al<|aq<|iI h▸E0) (λh=>ao<|ag<|an<|au 1<|aQ h (λh=>au 1<|al<|aq<|iI h▸E0) (λh=>ao<|ag<|au 1<|al<|iI h▸E0))
def jz(fuel:Nat)(p0:Tree)(p1:Entry)(y1:Int):Option ((Int)⊕(Int)):=
 bif (decide (y1<(p0.ea.length:Int)))then
  (idx p0.ea y1).bind λx2=>
  (qu fuel p0.S x2 p1).bind λr3=>
  bif r3 then
   some (.inl (IntKind.wrap .i64 (y1+1)))
  else
   some (.inr y1)
 else
  some (.inr y1)
def lu(fuel:Nat)(p0:Tree)(p1:Entry):Option (Tree):=
 (iter (jz fuel p0 p1) fuel 0).bind λv5=>
 et (m7 p0.ea 0 v5)<|
 et (decide ((([]:List Entry)++(sl p0.ea 0 v5)).length<=room))<|
 et (decide (((([]:List Entry)++(sl p0.ea 0 v5))++[p1]).length<=room))<|
 et (m7 p0.ea v5 (p0.ea.length:Int))<|
 et (decide ((((([]:List Entry)++(sl p0.ea 0 v5))++[p1])++(sl p0.ea v5 (p0.ea.length:Int))).length<=room))<|
 some (⟨p0.S,p0.Order,(((([]:List Entry)++(sl p0.ea 0 v5))++[p1])++(sl p0.ea v5 (p0.ea.length:Int))),p0.gJ⟩:Tree)
def Um(x0:Tree)(x1:Int)(x2:Entry):SV:=.box [.d (.list 1 (List.map (D.int .i64) x0.S.aD)),.d (.list 1 (List.map D.bool x0.S.Down)),vI x0.S.ee,vI x0.Order,.d (.list 3 (List.map ab (((([]:List Entry)++(sl x0.ea 0 x1))++[x2])++(sl x0.ea x1 (x0.ea.length:Int))))),vI x0.gJ]
def Ul(x0:Tree)(x1:Int):SV:=.d (.list 3 (List.map ab (sl x0.ea 0 x1)))
def K59:=λa0 a1 a2 (t:SL)=>((2,pH a0)::(3,j6 a1)::(4,qc)::(5,vI a2)::t:SL)
theorem AQ(h:lu fuel p0 p1=some r):PC Tryz.prog 65 [.d (jj p0),.d (ab p1)] (.d (.agg [.list 1 (List.map (D.int .i64) r.S.aD),.list 1 (List.map D.bool r.S.Down),.int .i64 r.S.ee,.int .i64 r.Order,.list 3 (List.map ab r.ea),.int .i64 r.gJ])):=by
 refine aW Tryz.func65 rfl λH=>?_
 unfold lu at h
 exact aH 40 H [(0,yh p0),(1,lI p1)]<|au 2<|an<|aI<|bI h λv5 hit h=>eY 40 H [2,3,4,5] (λy1=>(K59 p0 p1 y1 [])) (λv5 e s=>(e=.exit 0/\s=(sp 40 (K59 p0 p1 v5 []) H))) hit κ (λy1 o h=>by unfold jz at h;exact an<|an<|fM<|aF 3<|bm (aG (enc:=ab) (xs:=p0.ea))<|dt [] [2,3,4,5,11] 2<|dP (λb=>(sp 40 (K59 p0 p1 y1 [(11,vB b)]) H)) h (λh=>aF 5<|bI h λx2 hx h=>bm (s:=bc none (ab x2).cells) (aB (n:=3) hx)<|aF 2<|bI h λr3 hr h=>fk (yK hr)<|aF 1<|bF<|ag<|aQ h (λh=>ao<|ag<|aI<|ah<|aa 3<|ae<|aL<|LQ h) (λh=>aH 40 H (K59 p0 p1 y1 [])<|bN<|aY<|aY<|LR h ⟨rfl,rfl⟩)) λh=>aF 10<|bF<|ag<|iV<|aH 40 H (K59 p0 p1 y1 [])<|bN<|aY<|aY<|LR h ⟨rfl,rfl⟩) (by rintro _ _ ⟨rfl,rfl⟩;exact bq<|ag<|an<|nj h λhk6 h=>nj h λhk7 h=>nj h λhk8 h=>nj h λhk9 h=>nj h λhk10 h=>aH 40 H (K59 p0 p1 v5 [])<|jb 40 H [(2,Um p0 v5 p1),(4,qc)] [3,11,1,2,4] 11 2078 κ κ κ (λX hX=>by subst hX;exact aC<|aC<|aC<|aC<|jO 40 H (d:=some 28) (s:=nP none 3 (List.map ab (sl p0.ea 0 v5))) [2,3,4,28,35] [(2,pH p0),(3,j6 p1),(4,qc),(28,Ul p0 v5),(35,vI v5)] (iJ hk6) κ<|dZ<|mD [24,29,32] [(5,eA 24 3 (List.map ab (([]:List Entry)++(sl p0.ea 0 v5)))),(8,eA 29 3 (List.map ab ((([]:List Entry)++(sl p0.ea 0 v5))++[p1]))),(12,eV (nP none 3 (List.map ab (sl p0.ea v5 (p0.ea.length:Int))))),(13,eA 32 3 (List.map ab (((([]:List Entry)++(sl p0.ea 0 v5))++[p1])++(sl p0.ea v5 (p0.ea.length:Int))))),(15,eF 37)] ⟨DV (bt) (bZ hk7),DV (bt) (bZ hk8),yz hk9,DV (bt) (bZ hk10),zr,trivial⟩) (ag<|au 1<|al<|iI h▸E0))
def ja(fuel:Nat)(p0:Tree)(p1:(List Value))(p2:Int):Option (Tree×Int×Int):=
 bp (λ(j1:Unit)=>
  et (decide ((([]:List Value)++p1).length<=room))<|
  (lu fuel (⟨p0.S,p0.Order,p0.ea,(IntKind.wrap .i64 (p0.gJ+1))⟩:Tree) (⟨(([]:List Value)++p1),p2,(IntKind.wrap .i64 (p0.gJ+1))⟩:Entry)).bind λr9=>
  some (r9,(IntKind.wrap .i64 (p0.gJ+1)),0)) λjp2=>
 bp (λ(j3:Bool)=>
  bif j3 then
   some (p0,0,1)
  else
   bif (p0.S.ee==1)then
    (pb fuel p0 p1).bind λr7=>
    bif r7 then
     some (p0,0,6)
    else
     bif ((p0.ea.length:Int)==500)then
      some (p0,0,4)
     else
      jp2 ()
   else
    bif ((p0.ea.length:Int)==500)then
     some (p0,0,4)
    else
     jp2 ()) λjp4=>
 (oo fuel p0.S p1).bind λr5=>
 bif (!r5)then
  jp4 true
 else
  (sI fuel p2).bind λr6=>
  jp4 (!r6)
def K43:=λa0 a1 a2 (t:SL)=>((1,Z9 a0)::(2,vI a1)::(3,pH a2)::t:SL)
def K65:=λa0 a1 a2 (t:SL)=>((0,yh a0)::(1,Z9 a1)::(2,vI a2)::t:SL)
theorem qt(h:ja fuel p0 p1 p2=some r):PC Tryz.prog 35 [.d (jj p0),.d (.list 3 (List.map ar p1)),vI p2] (.g8 [.d (.agg [.list 1 (List.map (D.int .i64) r.1.S.aD),.list 1 (List.map D.bool r.1.S.Down),.int .i64 r.1.S.ee,.int .i64 r.1.Order,.list 3 (List.map ab r.1.ea),.int .i64 r.1.gJ]),vI r.2.1,vI r.2.2]):=by
 refine aW Tryz.func35 rfl λH=>?_
 unfold ja at h
 exact aH 53 H (K65 p0 p1 p2 [])<|au 1<|eb 53 H [1,2,3,6] (λ(j1:Unit)=>(K43 p1 p2 p0 [(6,qc)])) h (λj1 h=>au 1<|an<|nj h λhk8 h=>bI h λr9 hr_8 h=>aH 53 H [(1,Z9 p1),(2,vI p2),(3,Tp p0),(6,qc)]<|jb 53 H [(6,pH r9),(7,Un p0),(8,vI 0)] [2,4] 12 20 κ κ κ (λX hX=>by subst hX;exact aC<|du 53 H [3,6,44,46] [(3,Tp p0),(6,qc),(44,Z9 p1),(46,vI p2)] κ<|dZ<|mD [43] [(3,eA 43 3 (List.map ar (([]:List Value)++p1))),(7,eF 45),(8,eV _)] ⟨DV (bt) (bZ hk8),zr,zt (AQ hr_8),trivial⟩) (ag<|al<|iI h▸E0)) λjp2 h=>aI<|eb 53 H [1,2,3,6,9] (λ(j3:Bool)=>(K43 p1 p2 p0 [(6,qc),(9,vB j3)])) h (λj3 h=>aQ h (λh=>au 1<|al<|aJ<|aq<|iI h▸E0) (λh=>ax<|aU [] [1,2,3,6,26] 5<|bE (λb=>(sp 53 (K43 p1 p2 p0 [(6,qc),(26,vB b)]) H)) h (λh=>aa 2<|bI h λr7 hr h=>bw (Cs hr)<|aa 2<|ak<|aQ h (λh=>au 1<|al<|aJ<|aq<|iI h▸E0) (λh=>ax<|aa 2<|aw (aG (enc:=ab) (xs:=p0.ea))<|aa 2<|ak<|aQ h (λh=>au 1<|al<|aJ<|aq<|iI h▸E0) (λh=>ao<|aL<|JQ [] h))) λh=>aa 5<|ak<|iV<|ax<|aa 2<|aw (aG (enc:=ab) (xs:=p0.ea))<|aa 2<|ak<|aQ h (λh=>au 1<|al<|aJ<|aq<|iI h▸E0) (λh=>ao<|aL<|JQ [] h))) λjp4 h=>ah<|aa 3<|bI h λr5 hr h=>bw (mc hr)<|aU [] [1,2,3,6,15] 2<|bE (λb=>(sp 53 (K43 p1 p2 p0 [(6,qc),(15,vB b)]) H)) h (λh=>aa 5<|ae<|JQ [] h) λh=>aa 1<|bI h λr6 hr h=>bw (qp hr)<|aa 3<|ae<|JQ [] h
noncomputable def gd (fuel:Nat) (q1:(Hp×Nat)) (q2:(Hp×Nat)) (q3:(Hp×Nat)) (q4:(Hp×Nat)) (q5:(Hp×Nat)) (q6:(Hp×Nat)) (q7:(Hp×Nat)) (e13:Entry) (G14:Hp):Option (Bool×Hp):=
 (bz (cI .i64).cell G14 q3.2 0).bind λx20=>
 bif (e13.Key==x20)then
  (bz cP.cell G14 q1.2 0).bind λx25=>
  x25.bind λi31=>
  (bz cV.cells G14 i31 0).bind λx42=>
  (bG 3 og G14 q2.2 0).bind λx53=>
  (oa fuel x42 e13.Row x53).bind λr58=>
  bif (r58==0)then
   (bz (cI .i64).cell G14 q7.2 0).bind λx59=>
   (dW aM G14 q4.2 0 e13).bind λH60=>
   (dW (cI .i64) H60 q5.2 0 x59).bind λH61=>
   (dW cB H61 q6.2 0 true).bind λH62=>
   (bz (cI .i64).cell H60 q7.2 0).bind λx63=>
   G0 x59 x63<|
   some (false,H62)
  else
   (bz (cI .i64).cell G14 q7.2 0).bind λx64=>
   (dW (cI .i64) G14 q7.2 0 (IntKind.wrap .i64 (x64+1))).bind λH65=>
   some (true,H65)
 else
  (bz (cI .i64).cell G14 q7.2 0).bind λx66=>
  (dW (cI .i64) G14 q7.2 0 (IntKind.wrap .i64 (x66+1))).bind λH67=>
  some (true,H67)
noncomputable def gz (fuel:Nat) (p0:Nat) (p1:(List Value)) (p2:Int) (H:Hp):Option ((Entry×Int×Bool)×Hp):=
 (ko H (.cells [.d (.ptr p0 0)])).bind λq1=>
 (ko q1.1 (.cells [.d (.list 3 (List.map ar p1))])).bind λq2=>
 (ko q2.1 (.cells [.d (.int .i64 p2)])).bind λq3=>
 (ko q3.1 (.cells [.d (.list 3 (List.map ar ([]:List Value))),.d (.int .i64 0),.d (.int .i64 0)])).bind λq4=>
 (ko q4.1 (.cells [.d (.int .i64 0)])).bind λq5=>
 (ko q5.1 (.cells [.d (.bool false)])).bind λq6=>
 (ko q6.1 (.cells [.d (.int .i64 0)])).bind λq7=>
 (bz cP.cell q7.1 q1.2 0).bind λx8=>
 x8.bind λi9=>
 (bz cP.cell q7.1 i9 4).bind λx10=>
 x10.bind λi11=>
 (kU fuel i11 q7.1).bind λr12=>
 (iX fuel (gd fuel q1 q2 q3 q4 q5 q6 q7) (some i11) q7.1).bind λq68=>
 bif q68.1 then
  (gn 3 pU.cells q68.2 q4.2).bind λq69=>
  (gn 1 (cI .i64).cell q69.2 q5.2).bind λq70=>
  (gn 1 cB.cell q70.2 q6.2).bind λq71=>
  some (((⟨([]:List Value),0,0⟩:Entry),0,false),q71.2)
 else
  (gn 3 pU.cells q68.2 q4.2).bind λq72=>
  (gn 1 (cI .i64).cell q72.2 q5.2).bind λq73=>
  (gn 1 cB.cell q73.2 q6.2).bind λq74=>
  some ((q72.1,q73.1,q74.1),q74.2)
def R0(x0:Tree×Int×Int):SV:=.box [.d (.list 1 (List.map (D.int .i64) x0.1.S.aD)),.d (.list 1 (List.map D.bool x0.1.S.Down)),vI x0.1.S.ee,vI x0.1.Order,.d (.list 3 (List.map ab x0.1.ea)),vI x0.1.gJ]
def RZ(x0:Tree×Int×Int):SV:=.d (.agg [.list 1 (List.map (D.int .i64) x0.1.S.aD),.list 1 (List.map D.bool x0.1.S.Down),.int .i64 x0.1.S.ee,.int .i64 x0.1.Order,.list 3 (List.map ab x0.1.ea),.int .i64 x0.1.gJ])
def L8(x0:(Entry×Hp)):SV:=.box [.d (.list 3 (List.map ar x0.1.Row)),vI x0.1.Key,vI x0.1.Number]
def wV:SV:=.box [.d (.list 3 (List.map ar ([]:List Value))),vI 0,vI 0]
def K5:=λa0 a1 a2 a3 a4 (t:SL)=>((6,.d (.ptr a0 0))::(7,.d (.ptr a1 0))::(8,.d (.ptr a2 0))::(9,.d (.ptr a3 0))::(10,j6 a4)::(21,vB true)::t:SL)
def K7:=λa0 a1 a2 a3 a4 a5 (t:SL)=>((4,.d (.ptr a0 0))::(6,.d (.ptr a1 0))::(7,.d (.ptr a2 0))::(8,.d (.ptr a3 0))::(9,.d (.ptr a4 0))::(10,j6 a5)::(21,vB true)::t:SL)
def K8:=λa0 a1 (t:SL)=>((3,.d (.ptr a0 0))::(4,.d (.ptr a1 0))::t:SL)
def K14:=λa0 a1 a2 (t:SL)=>((6,.d (.ptr a0 0))::(7,.d (.ptr a1 0))::(8,.d (.ptr a2 0))::t:SL)
def K19:=λa0 a1 a2 a3 a4 a5 a6 (t:SL)=>((3,.d (.ptr a0 0))::(4,.d (.ptr a1 0))::(6,.d (.ptr a2 0))::(7,.d (.ptr a3 0))::(8,.d (.ptr a4 0))::(9,.d (.ptr a5 0))::(10,j6 a6)::t:SL)
def K21:=λa0 a1 a2 a3 a4 a5 a6 (t:SL)=>((3,.d (.ptr a0 0))::(4,.d (.ptr a1 0))::(5,.d (.ptr a2 0))::(6,.d (.ptr a3 0))::(7,.d (.ptr a4 0))::(8,.d (.ptr a5 0))::(9,.d (.ptr a6 0))::t:SL)
def K33:=λa0 a1 a2 a3 a4 a5 (t:SL)=>((3,.d (.ptr a0 0))::(6,.d (.ptr a1 0))::(7,.d (.ptr a2 0))::(8,.d (.ptr a3 0))::(9,.d (.ptr a4 0))::(10,j6 a5)::(21,vB true)::t:SL)
def K47:=λa0 a1 a2 (t:SL)=>((3,.d (.ptr a0 0))::(4,.d (.ptr a1 0))::(5,.d (.ptr a2 0))::t:SL)
def K49:=λa0 a1 a2 (t:SL)=>((3,.box [.d (.ptr a0 0)])::(4,Qw a1)::(5,.box [vI a2])::t:SL)
theorem lV(h:gz fuel p0 p1 p2 H=some r):SC Tryz.prog false 58 [.d (.ptr p0 0),.d (.list 3 (List.map ar p1)),vI p2] H (.g8 [.d (.agg [.list 3 (List.map ar r.1.1.Row),.int .i64 r.1.1.Key,.int .i64 r.1.1.Number]),vI r.1.2.1,vB r.1.2.2]) r.2:=by
 refine nX Tryz.func58 rfl ?_
 unfold gz at h
 exact tv 37 H [0,1,2] (K32 p0 p1 p2 []) κ<|dz<|ah<|aK 6 (K49 p0 p1 p2 [(6,rO),(7,.box [vI 0]),(8,.box [vB false])])<|ak<|dz<|ah<|aK 2 (K49 p0 p1 p2 [(6,rO),(7,.box [vI 0]),(8,.box [vB false]),(9,.box [vI 0])])<|ak<|bI h λq1 hq h=>cN hq 3 37 [] [3,4,5,6,7,8,9] [(3,.d (.ptr q1.2 0)),(4,Qw p1),(5,.box [vI p2]),(6,rO),(7,.box [vI 0]),(8,.box [vB false]),(9,.box [vI 0])] κ (by cases hq;kernel_rfl)<|bI h λq2 hq h=>cN hq 4 37 [] [3,4,5,6,7,8,9] (K8 q1.2 q2.2 [(5,.box [vI p2]),(6,rO),(7,.box [vI 0]),(8,.box [vB false]),(9,.box [vI 0])]) κ (by cases hq;kernel_rfl)<|bI h λq3 hq h=>cN hq 5 37 [] [3,4,5,6,7,8,9] (K47 q1.2 q2.2 q3.2 [(6,rO),(7,.box [vI 0]),(8,.box [vB false]),(9,.box [vI 0])]) κ (by cases hq;kernel_rfl)<|bI h λq4 hq h=>cN hq 6 37 [(0,103)] [3,4,5,6,7,8,9] (K47 q1.2 q2.2 q3.2 [(6,.d (.ptr q4.2 0)),(7,.box [vI 0]),(8,.box [vB false]),(9,.box [vI 0])]) κ (by cases hq;kernel_rfl)<|bI h λq5 hq h=>cN hq 7 37 [] [3,4,5,6,7,8,9] (K47 q1.2 q2.2 q3.2 [(6,.d (.ptr q4.2 0)),(7,.d (.ptr q5.2 0)),(8,.box [vB false]),(9,.box [vI 0])]) κ (by cases hq;kernel_rfl)<|bI h λq6 hq h=>cN hq 8 37 [] [3,4,5,6,7,8,9] (K47 q1.2 q2.2 q3.2 [(6,.d (.ptr q4.2 0)),(7,.d (.ptr q5.2 0)),(8,.d (.ptr q6.2 0)),(9,.box [vI 0])]) κ (by cases hq;kernel_rfl)<|bI h λq7 hq h=>cN hq 9 37 [] [3,4,5,6,7,8,9] (K21 q1.2 q2.2 q3.2 q4.2 q5.2 q6.2 q7.2 []) κ (by cases hq;kernel_rfl)<|pA<|dz<|ah<|bI h λx8 hx h=>aw (s:=.d (cP.enc x8)) (aA hx)<|bI h λi9 hp_i9 h=>aw (s:=.d (.ptr i9 0)) (ba hp_i9)<|aa 1<|bI h λx10 hx h=>qd (s:=.d (cP.enc x10)) [3,4,5,6,7,8,9,14] (aA hx)<|bI h λi11 hp_i11 h=>bA x10 (λp=>(sp 37 (K21 q1.2 q2.2 q3.2 q4.2 q5.2 q6.2 q7.2 [(14,.d (cP.enc p))]) q7.1)) κ hp_i11<|bI h λr12 hr h=>fX (ls:=[]) (some 15) (K21 q1.2 q2.2 q3.2 q4.2 q5.2 q6.2 q7.2 [(15,LV i11)]) (kB hr)<|ak<|nW<|bI h λq68 hit h=>oH (f:=78) (caps:=[.fG [.ptr i11 0]]) (H':=q68.2) (b:=q68.1) (jc:=.ret) [(3,.ptr q1.2 0),(4,.ptr q2.2 0),(5,.ptr q3.2 0),(6,.ptr q4.2 0),(7,.ptr q5.2 0),(8,.ptr q6.2 0),(9,.ptr q7.2 0)] κ κ κ κ (λl R cG hpe hps has hbd hsz=>jT (λe13 G14 q9 h=>by
  unfold gd at h;exact mw (n0:=37) cG hpe hps (hsz.trans (kR _ _ _)) (K21 q1.2 q2.2 q3.2 q4.2 q5.2 q6.2 q7.2 [(16,.d (.agg [.list 3 (List.map ar e13.Row),.int .i64 e13.Key,.int .i64 e13.Number]))]) (qW ⟨.inr ⟨by decide,_,rfl,.head _⟩,⟨.inr ⟨by decide,_,rfl,.tail _ (.head _)⟩,⟨.inr ⟨by decide,_,rfl,.tail _ (.tail _ (.head _))⟩,⟨.inr ⟨by decide,_,rfl,.tail _ (.tail _ (.tail _ (.head _)))⟩,⟨.inr ⟨by decide,_,rfl,.tail _ (.tail _ (.tail _ (.tail _ (.head _))))⟩,⟨.inr ⟨by decide,_,rfl,.tail _ (.tail _ (.tail _ (.tail _ (.tail _ (.head _)))))⟩,⟨.inr ⟨by decide,_,rfl,.tail _ (.tail _ (.tail _ (.tail _ (.tail _ (.tail _ (.head _))))))⟩,⟨.inl ⟨rfl,rfl⟩,trivial⟩⟩⟩⟩⟩⟩⟩⟩)<|(by
   rw[has,hbd];exact lK κ<|aK 2 (K21 q1.2 q2.2 q3.2 q4.2 q5.2 q6.2 q7.2 [(10,j6 e13)])<|ae<|rQ<|mB<|mB<|uh 37 G14 [3,4,5,6,7,8,9,10] (K21 q1.2 q2.2 q3.2 q4.2 q5.2 q6.2 q7.2 [(10,j6 e13)]) κ<|EZ 15 κ κ (λl=>gL (d':=14) [0] (K21 q1.2 q2.2 q3.2 q4.2 q5.2 q6.2 q7.2 [(10,j6 e13),(17,.loc 10 1)])<|bI h λx20 hx_2 h=>cg (b:=true) (H:=G14) 12 7 37 (K19 q1.2 q2.2 q4.2 q5.2 q6.2 q7.2 e13 [(18,vI e13.Key),(19,vI x20)]) (gL (d':=10) [3,4] (K19 q1.2 q2.2 q4.2 q5.2 q6.2 q7.2 e13 [(21,vB (e13.Key==x20))])<|xf (e13.Key==x20) (λb=>(sp 37 (K19 q1.2 q2.2 q4.2 q5.2 q6.2 q7.2 e13 [(21,vB b)]) G14)) κ (λhc=>have h:=fP hc h;gL (d':=9) [9] (K19 q1.2 q2.2 q4.2 q5.2 q6.2 q7.2 e13 [(21,vB true),(26,.loc 10 0)])<|bI h λx25 hx_5 h=>bI h λi31 hp_i31 h=>bI h λx42 hx_8 h=>bI h λx53 hx_11 h=>cg (b:=true) (H:=G14) 3 4095 37 (K5 q4.2 q5.2 q6.2 q7.2 e13 [(25,.d (.agg [.list 1 (List.map (D.int .i64) x42.aD),.list 1 (List.map D.bool x42.Down),.int .i64 x42.ee])),(27,ky e13),(28,.bS (.az q2.2 0) 3 (List.map ar x53))]) (bI h λr58 hr_12 h=>sg 12 bK<|vG (d:=some 29) (ls:=[(.az q2.2 0)]) (gs:=[]) [] (K5 q4.2 q5.2 q6.2 q7.2 e13 [(29,vI r58)]) (lj hr_12)<|ae<|gL (d':=0) [13,14] (K14 q4.2 q5.2 q6.2 [(9,.d (.ptr q7.2 0)),(10,j6 e13),(31,vB (r58==0))])<|ny κ<|ag<|pz (b:=(r58==0)) κ (λhc=>have h:=fP hc h;mB<|bI h λx59 hx59 h=>bI h λH60 hx_2 h=>bI h λH61 hx_3 h=>bI h λH62 hx_4 h=>bI h λx63 hx63 h=>by
    replace h:=wQ h;obtain⟨rfl,h⟩:=h;exact uh 37 G14 [6,7,8,9,10] (K14 q4.2 q5.2 q6.2 [(9,.d (.ptr q7.2 0)),(10,j6 e13)]) κ<|(by
     refine qM 37 H62 (K14 q4.2 q5.2 q6.2 []) κ (λX hX=>?_) (ag<|Hw<|aq<|aJ<|(by cases h;exact⟨rfl,.inr ⟨rfl,rfl⟩⟩))
     .have c31:X 0 31 (sp 37 (K14 q4.2 q5.2 q6.2 []) H62):=by subst hX;exact oI κ
      have c15:X 1 15 (sp 37 (K14 q4.2 q5.2 q6.2 []) H61):=by subst hX;exact aR 4 [] ⟨nY 37 H62 [6,7,8] (K14 q4.2 q5.2 q6.2 []) hx_4 κ κ<|ae c31,trivial⟩
      have c7:X 2 7 (sp 37 (K14 q4.2 q5.2 q6.2 [(33,vI x59)]) H60):=by subst hX;exact aR 3 [] ⟨nY 37 H61 [6,7,8] (K14 q4.2 q5.2 q6.2 []) hx_3 κ κ<|ae c15,trivial⟩
      have c3:X 3 3 (sp 37 (K14 q4.2 q5.2 q6.2 [(32,lI e13),(33,vI x59)]) G14):=by subst hX;exact aR 2 [] ⟨nY 37 H60 [6,7,8,33] (K14 q4.2 q5.2 q6.2 [(33,vI x59)]) hx_2 κ κ<|ae c7,trivial⟩
      have c5:X 3 5 (sp 37 (K14 q4.2 q5.2 q6.2 [(9,.d (.ptr q7.2 0))]) H60):=by subst hX;exact aR 1 [] ⟨fV 37 H60 (d:=some 33) (s:=vI x59) [6,7,8,33] (K14 q4.2 q5.2 q6.2 [(33,vI x59)]) (aA hx63) κ<|ae c7,trivial⟩
      have c1:X 4 1 (sp 37 (K14 q4.2 q5.2 q6.2 [(9,.d (.ptr q7.2 0)),(32,lI e13)]) G14):=by subst hX;exact aR 1 [2] ⟨bb (d:=some 33) (s:=vI x59) (K14 q4.2 q5.2 q6.2 [(32,lI e13),(33,vI x59)]) (aA hx59)<|ae c3,nY 37 H60 [6,7,8,9] (K14 q4.2 q5.2 q6.2 [(9,.d (.ptr q7.2 0))]) hx_2 κ κ<|ae c5,trivial⟩
      have c2:X 4 2 (sp 37 (K14 q4.2 q5.2 q6.2 [(10,j6 e13),(33,vI x59)]) G14):=by subst hX;exact aR 0 [] ⟨bf 37 G14 [] [6,7,8,32,33] 1 (K14 q4.2 q5.2 q6.2 [(32,lI e13),(33,vI x59)]) κ<|ae c3,trivial⟩
      have c0:X 5 0 (sp 37 (K14 q4.2 q5.2 q6.2 [(9,.d (.ptr q7.2 0)),(10,j6 e13)]) G14):=by subst hX;exact aR 0 [1] ⟨aK 1 (K14 q4.2 q5.2 q6.2 [(9,.d (.ptr q7.2 0)),(32,lI e13)])<|ae c1,bb (d:=some 33) (s:=vI x59) (K14 q4.2 q5.2 q6.2 [(10,j6 e13),(33,vI x59)]) (aA hx59)<|ae c2,trivial⟩
      exact c0)) (λhc=>have h:=fQ hc h;oR<|ag<|nV κ<|bI h λx64 hx h=>aw (s:=vI x64) (aA hx)<|aa 1<|bI h λH65 hx h=>nY 37 H65 [] [] hx κ κ<|ae<|aL<|(by cases h;exact⟨rfl,.inl ⟨rfl,rfl⟩⟩))) (λc4095=>cg (b:=true) (H:=G14) 4 2047 37 (K7 q2.2 q4.2 q5.2 q6.2 q7.2 e13 [(25,.d (.agg [.list 1 (List.map (D.int .i64) x42.aD),.list 1 (List.map D.bool x42.Down),.int .i64 x42.ee])),(27,ky e13)]) (bD (i0:=11) (is:=[]) κ ⟨bh (fV 37 G14 (d:=some 28) (s:=.bS (.az q2.2 0) 3 (List.map ar x53)) [6,7,8,9,10,21,25,27,28] (K5 q4.2 q5.2 q6.2 q7.2 e13 [(25,Z2 x42),(27,ky e13),(28,je q2 x53)]) (aV hx_11) κ<|ae<|c4095) bK,trivial⟩) (λc2047=>cg (b:=true) (H:=G14) 4 3071 37 (K5 q4.2 q5.2 q6.2 q7.2 e13 [(25,.d (.agg [.list 1 (List.map (D.int .i64) x42.aD),.list 1 (List.map D.bool x42.Down),.int .i64 x42.ee])),(26,.loc 10 0),(28,.bS (.az q2.2 0) 3 (List.map ar x53))]) (bD (i0:=10) (is:=[]) κ ⟨bh (bf 37 G14 [] [6,7,8,9,10,21,25,27,28] 1 (K5 q4.2 q5.2 q6.2 q7.2 e13 [(25,Z2 x42),(27,ky e13),(28,je q2 x53)]) κ<|ae<|c4095) bK,trivial⟩) (λc3071=>cg (b:=true) (H:=G14) 4 3839 37 (K5 q4.2 q5.2 q6.2 q7.2 e13 [(24,.d (.ptr i31 0)),(27,ky e13),(28,.bS (.az q2.2 0) 3 (List.map ar x53))]) (bD (i0:=8) (is:=[]) κ ⟨bh (fV 37 G14 (d:=some 25) (s:=.d (.agg [.list 1 (List.map (D.int .i64) x42.aD),.list 1 (List.map D.bool x42.Down),.int .i64 x42.ee])) [6,7,8,9,10,21,25,27,28] (K5 q4.2 q5.2 q6.2 q7.2 e13 [(25,Z2 x42),(27,ky e13),(28,je q2 x53)]) (aA hx_8) κ<|ae<|c4095) bK,trivial⟩) (λc3839=>cg (b:=true) (H:=G14) 5 1023 37 (K7 q2.2 q4.2 q5.2 q6.2 q7.2 e13 [(25,.d (.agg [.list 1 (List.map (D.int .i64) x42.aD),.list 1 (List.map D.bool x42.Down),.int .i64 x42.ee])),(26,.loc 10 0)]) (bD (i0:=10) (is:=[11]) κ ⟨bh (aK 1 (K7 q2.2 q4.2 q5.2 q6.2 q7.2 e13 [(25,Z2 x42),(27,ky e13)])<|ae<|c2047) bK,bh (bb (d:=some 28) (s:=.bS (.az q2.2 0) 3 (List.map ar x53)) (K5 q4.2 q5.2 q6.2 q7.2 e13 [(25,Z2 x42),(26,.loc 10 0),(28,je q2 x53)]) (aV hx_11)<|ae<|c3071) bK,trivial⟩) (λc1023=>cg (b:=true) (H:=G14) 5 1791 37 (K7 q2.2 q4.2 q5.2 q6.2 q7.2 e13 [(24,.d (.ptr i31 0)),(27,ky e13)]) (bD (i0:=8) (is:=[11]) κ ⟨bh (bb (d:=some 25) (s:=.d (.agg [.list 1 (List.map (D.int .i64) x42.aD),.list 1 (List.map D.bool x42.Down),.int .i64 x42.ee])) (K7 q2.2 q4.2 q5.2 q6.2 q7.2 e13 [(25,Z2 x42),(27,ky e13)]) (aA hx_8)<|ae<|c2047) bK,bh (bb (d:=some 28) (s:=.bS (.az q2.2 0) 3 (List.map ar x53)) (K5 q4.2 q5.2 q6.2 q7.2 e13 [(24,.d (.ptr i31 0)),(27,ky e13),(28,je q2 x53)]) (aV hx_11)<|ae<|c3839) bK,trivial⟩) (λc1791=>cg (b:=true) (H:=G14) 5 2815 37 (K5 q4.2 q5.2 q6.2 q7.2 e13 [(24,.d (.ptr i31 0)),(26,.loc 10 0),(28,.bS (.az q2.2 0) 3 (List.map ar x53))]) (bD (i0:=8) (is:=[10]) κ ⟨bh (bb (d:=some 25) (s:=.d (.agg [.list 1 (List.map (D.int .i64) x42.aD),.list 1 (List.map D.bool x42.Down),.int .i64 x42.ee])) (K5 q4.2 q5.2 q6.2 q7.2 e13 [(25,Z2 x42),(26,.loc 10 0),(28,je q2 x53)]) (aA hx_8)<|ae<|c3071) bK,bh (aK 1 (K5 q4.2 q5.2 q6.2 q7.2 e13 [(24,.d (.ptr i31 0)),(27,ky e13),(28,je q2 x53)])<|ae<|c3839) bK,trivial⟩) (λc2815=>cg (b:=true) (H:=G14) 5 3711 37 (K5 q4.2 q5.2 q6.2 q7.2 e13 [(23,.d (.ptr i31 0)),(27,ky e13),(28,.bS (.az q2.2 0) 3 (List.map ar x53))]) (bD (i0:=7) (is:=[]) κ ⟨bh (bf 37 G14 [] [6,7,8,9,10,21,24,27,28] 1 (K5 q4.2 q5.2 q6.2 q7.2 e13 [(24,.d (.ptr i31 0)),(27,ky e13),(28,je q2 x53)]) κ<|ae<|c3839) bK,trivial⟩) (λc3711=>cg (b:=true) (H:=G14) 6 767 37 (K7 q2.2 q4.2 q5.2 q6.2 q7.2 e13 [(24,.d (.ptr i31 0)),(26,.loc 10 0)]) (bD (i0:=8) (is:=[10,11]) κ ⟨bh (bb (d:=some 25) (s:=.d (.agg [.list 1 (List.map (D.int .i64) x42.aD),.list 1 (List.map D.bool x42.Down),.int .i64 x42.ee])) (K7 q2.2 q4.2 q5.2 q6.2 q7.2 e13 [(25,Z2 x42),(26,.loc 10 0)]) (aA hx_8)<|ae<|c1023) bK,bh (aK 1 (K7 q2.2 q4.2 q5.2 q6.2 q7.2 e13 [(24,.d (.ptr i31 0)),(27,ky e13)])<|ae<|c1791) bK,bh (bb (d:=some 28) (s:=.bS (.az q2.2 0) 3 (List.map ar x53)) (K5 q4.2 q5.2 q6.2 q7.2 e13 [(24,.d (.ptr i31 0)),(26,.loc 10 0),(28,je q2 x53)]) (aV hx_11)<|ae<|c2815) bK,trivial⟩) (λc767=>cg (b:=true) (H:=G14) 6 1663 37 (K7 q2.2 q4.2 q5.2 q6.2 q7.2 e13 [(23,.d (.ptr i31 0)),(27,ky e13)]) (bD (i0:=7) (is:=[11]) κ ⟨bh (aK 1 (K7 q2.2 q4.2 q5.2 q6.2 q7.2 e13 [(24,.d (.ptr i31 0)),(27,ky e13)])<|ae<|c1791) bK,bh (bb (d:=some 28) (s:=.bS (.az q2.2 0) 3 (List.map ar x53)) (K5 q4.2 q5.2 q6.2 q7.2 e13 [(23,.d (.ptr i31 0)),(27,ky e13),(28,je q2 x53)]) (aV hx_11)<|ae<|c3711) bK,trivial⟩) (λc1663=>cg (b:=true) (H:=G14) 6 2687 37 (K5 q4.2 q5.2 q6.2 q7.2 e13 [(23,.d (.ptr i31 0)),(26,.loc 10 0),(28,.bS (.az q2.2 0) 3 (List.map ar x53))]) (bD (i0:=7) (is:=[10]) κ ⟨bh (aK 1 (K5 q4.2 q5.2 q6.2 q7.2 e13 [(24,.d (.ptr i31 0)),(26,.loc 10 0),(28,je q2 x53)])<|ae<|c2815) bK,bh (aK 1 (K5 q4.2 q5.2 q6.2 q7.2 e13 [(23,.d (.ptr i31 0)),(27,ky e13),(28,je q2 x53)])<|ae<|c3711) bK,trivial⟩) (λc2687=>cg (b:=true) (H:=G14) 6 3647 37 (K5 q4.2 q5.2 q6.2 q7.2 e13 [(22,.d (cP.enc x25)),(27,ky e13),(28,.bS (.az q2.2 0) 3 (List.map ar x53))]) (bD (i0:=6) (is:=[]) κ ⟨bh (fV 37 G14 (d:=some 23) (s:=.d (.ptr i31 0)) [6,7,8,9,10,21,23,27,28] (K5 q4.2 q5.2 q6.2 q7.2 e13 [(23,.d (.ptr i31 0)),(27,ky e13),(28,je q2 x53)]) (ba hp_i31) κ<|ae<|c3711) bK,trivial⟩) (λc3647=>cg (b:=true) (H:=G14) 7 639 37 (K7 q2.2 q4.2 q5.2 q6.2 q7.2 e13 [(23,.d (.ptr i31 0)),(26,.loc 10 0)]) (bD (i0:=7) (is:=[10,11]) κ ⟨bh (aK 1 (K7 q2.2 q4.2 q5.2 q6.2 q7.2 e13 [(24,.d (.ptr i31 0)),(26,.loc 10 0)])<|ae<|c767) bK,bh (aK 1 (K7 q2.2 q4.2 q5.2 q6.2 q7.2 e13 [(23,.d (.ptr i31 0)),(27,ky e13)])<|ae<|c1663) bK,bh (bb (d:=some 28) (s:=.bS (.az q2.2 0) 3 (List.map ar x53)) (K5 q4.2 q5.2 q6.2 q7.2 e13 [(23,.d (.ptr i31 0)),(26,.loc 10 0),(28,je q2 x53)]) (aV hx_11)<|ae<|c2687) bK,trivial⟩) (λc639=>cg (b:=true) (H:=G14) 7 1599 37 (K7 q2.2 q4.2 q5.2 q6.2 q7.2 e13 [(22,.d (cP.enc x25)),(27,ky e13)]) (bD (i0:=6) (is:=[11]) κ ⟨bh (bb (d:=some 23) (s:=.d (.ptr i31 0)) (K7 q2.2 q4.2 q5.2 q6.2 q7.2 e13 [(23,.d (.ptr i31 0)),(27,ky e13)]) (ba hp_i31)<|ae<|c1663) bK,bh (bb (d:=some 28) (s:=.bS (.az q2.2 0) 3 (List.map ar x53)) (K5 q4.2 q5.2 q6.2 q7.2 e13 [(22,.d (cP.enc x25)),(27,ky e13),(28,je q2 x53)]) (aV hx_11)<|ae<|c3647) bK,trivial⟩) (λc1599=>cg (b:=true) (H:=G14) 7 2623 37 (K5 q4.2 q5.2 q6.2 q7.2 e13 [(22,.d (cP.enc x25)),(26,.loc 10 0),(28,.bS (.az q2.2 0) 3 (List.map ar x53))]) (bD (i0:=6) (is:=[10]) κ ⟨bh (bb (d:=some 23) (s:=.d (.ptr i31 0)) (K5 q4.2 q5.2 q6.2 q7.2 e13 [(23,.d (.ptr i31 0)),(26,.loc 10 0),(28,je q2 x53)]) (ba hp_i31)<|ae<|c2687) bK,bh (aK 1 (K5 q4.2 q5.2 q6.2 q7.2 e13 [(22,.d (cP.enc x25)),(27,ky e13),(28,je q2 x53)])<|ae<|c3647) bK,trivial⟩) (λc2623=>cg (b:=true) (H:=G14) 7 3615 37 (K33 q1.2 q4.2 q5.2 q6.2 q7.2 e13 [(27,ky e13),(28,.bS (.az q2.2 0) 3 (List.map ar x53))]) (bD (i0:=5) (is:=[]) κ ⟨bh (fV 37 G14 (d:=some 22) (s:=.d (cP.enc x25)) [6,7,8,9,10,21,22,27,28] (K5 q4.2 q5.2 q6.2 q7.2 e13 [(22,.d (cP.enc x25)),(27,ky e13),(28,je q2 x53)]) (aA hx_5) κ<|ae<|c3647) bK,trivial⟩) (λc3615=>cg (b:=true) (H:=G14) 8 575 37 (K7 q2.2 q4.2 q5.2 q6.2 q7.2 e13 [(22,.d (cP.enc x25)),(26,.loc 10 0)]) (bD (i0:=6) (is:=[10,11]) κ ⟨bh (bb (d:=some 23) (s:=.d (.ptr i31 0)) (K7 q2.2 q4.2 q5.2 q6.2 q7.2 e13 [(23,.d (.ptr i31 0)),(26,.loc 10 0)]) (ba hp_i31)<|ae<|c639) bK,bh (aK 1 (K7 q2.2 q4.2 q5.2 q6.2 q7.2 e13 [(22,.d (cP.enc x25)),(27,ky e13)])<|ae<|c1599) bK,bh (bb (d:=some 28) (s:=.bS (.az q2.2 0) 3 (List.map ar x53)) (K5 q4.2 q5.2 q6.2 q7.2 e13 [(22,.d (cP.enc x25)),(26,.loc 10 0),(28,je q2 x53)]) (aV hx_11)<|ae<|c2623) bK,trivial⟩) (λc575=>cg (b:=true) (H:=G14) 8 1567 37 (K19 q1.2 q2.2 q4.2 q5.2 q6.2 q7.2 e13 [(21,vB true),(27,ky e13)]) (bD (i0:=5) (is:=[11]) κ ⟨bh (bb (d:=some 22) (s:=.d (cP.enc x25)) (K7 q2.2 q4.2 q5.2 q6.2 q7.2 e13 [(22,.d (cP.enc x25)),(27,ky e13)]) (aA hx_5)<|ae<|c1599) bK,bh (bb (d:=some 28) (s:=.bS (.az q2.2 0) 3 (List.map ar x53)) (K33 q1.2 q4.2 q5.2 q6.2 q7.2 e13 [(27,ky e13),(28,je q2 x53)]) (aV hx_11)<|ae<|c3615) bK,trivial⟩) (λc1567=>cg (b:=true) (H:=G14) 8 2591 37 (K33 q1.2 q4.2 q5.2 q6.2 q7.2 e13 [(26,.loc 10 0),(28,.bS (.az q2.2 0) 3 (List.map ar x53))]) (bD (i0:=5) (is:=[10]) κ ⟨bh (bb (d:=some 22) (s:=.d (cP.enc x25)) (K5 q4.2 q5.2 q6.2 q7.2 e13 [(22,.d (cP.enc x25)),(26,.loc 10 0),(28,je q2 x53)]) (aA hx_5)<|ae<|c2623) bK,bh (aK 1 (K33 q1.2 q4.2 q5.2 q6.2 q7.2 e13 [(27,ky e13),(28,je q2 x53)])<|ae<|c3615) bK,trivial⟩) (λc2591=>bD (i0:=5) (is:=[10,11]) κ ⟨bh (bb (d:=some 22) (s:=.d (cP.enc x25)) (K7 q2.2 q4.2 q5.2 q6.2 q7.2 e13 [(22,.d (cP.enc x25)),(26,.loc 10 0)]) (aA hx_5)<|ae<|c575) bK,bh (aK 1 (K19 q1.2 q2.2 q4.2 q5.2 q6.2 q7.2 e13 [(21,vB true),(27,ky e13)])<|ae<|c1567) bK,bh (bb (d:=some 28) (s:=.bS (.az q2.2 0) 3 (List.map ar x53)) (K33 q1.2 q4.2 q5.2 q6.2 q7.2 e13 [(26,.loc 10 0),(28,je q2 x53)]) (aV hx_11)<|ae<|c2591) bK,trivial⟩)))))))))))))))))))) (λhc=>have h:=fQ hc h;gL (d':=0) [5,6,7,8,9,10,11,12,13,14] (K14 q4.2 q5.2 q6.2 [(9,.d (.ptr q7.2 0)),(10,j6 e13),(31,vB false)])<|ny κ<|ag<|B5 κ<|oR<|ag<|nV κ<|bI h λx66 hx h=>aw (s:=vI x66) (aA hx)<|aa 1<|bI h λH67 hx h=>nY 37 H67 [] [] hx κ κ<|ae<|aL<|(by cases h;exact⟨rfl,.inl ⟨rfl,rfl⟩⟩))) (λc7=>cg (b:=true) (H:=G14) 13 3 37 (K21 q1.2 q2.2 q3.2 q4.2 q5.2 q6.2 q7.2 [(10,j6 e13),(18,vI e13.Key)]) (bD (i0:=2) (is:=[]) κ ⟨bh (fV 37 G14 (d:=some 19) (s:=vI x20) [3,4,6,7,8,9,10,18,19] (K19 q1.2 q2.2 q4.2 q5.2 q6.2 q7.2 e13 [(18,vI e13.Key),(19,vI x20)]) (aA hx_2) κ<|ae<|c7) bK,trivial⟩) (λc3=>cg (b:=true) (H:=G14) 13 5 37 (K19 q1.2 q2.2 q4.2 q5.2 q6.2 q7.2 e13 [(17,.loc 10 1),(19,vI x20)]) (bD (i0:=1) (is:=[]) κ ⟨bh (bf 37 G14 [] [3,4,6,7,8,9,10,18,19] 1 (K19 q1.2 q2.2 q4.2 q5.2 q6.2 q7.2 e13 [(18,vI e13.Key),(19,vI x20)]) κ<|ae<|c7) bK,trivial⟩) (λc5=>bD (i0:=1) (is:=[2]) κ ⟨bh (aK 1 (K21 q1.2 q2.2 q3.2 q4.2 q5.2 q6.2 q7.2 [(10,j6 e13),(18,vI e13.Key)])<|ae<|c3) bK,bh (bb (d:=some 19) (s:=vI x20) (K19 q1.2 q2.2 q4.2 q5.2 q6.2 q7.2 e13 [(17,.loc 10 1),(19,vI x20)]) (aA hx_2)<|ae<|c5) bK,trivial⟩)))))) hit) (λhb=>have h:=fP hb h;aL<|ag<|(by intro ds;exact bI h λq69 hqq69 h=>ug (jM hqq69 6 37 [3,4,5,6,7,8,9,15] (K47 q1.2 q2.2 q3.2 [(6,L8 q69),(7,.d (.ptr q5.2 0)),(8,.d (.ptr q6.2 0)),(9,.d (.ptr q7.2 0)),(15,LV i11)]) κ κ κ)<|bI h λq70 hqq70 h=>ug (jM hqq70 7 37 [3,4,5,6,7,8,9,15] (K47 q1.2 q2.2 q3.2 [(6,L8 q69),(7,.box [vI q70.1]),(8,.d (.ptr q6.2 0)),(9,.d (.ptr q7.2 0)),(15,LV i11)]) κ κ κ)<|bI h λq71 hqq71 h=>ug (jM hqq71 8 37 [3,4,5,6,7,8,9,15] (K47 q1.2 q2.2 q3.2 [(6,L8 q69),(7,.box [vI q70.1]),(8,.box [vB q71.1]),(9,.d (.ptr q7.2 0)),(15,LV i11)]) κ κ κ)<|qK<|lJ<|yw 4<|aK 4 [(6,rO),(7,.box [vI 0]),(8,.box [vB false])]<|ae<|Ib.D<|ag<|Me 6 0 3 37 q71.2 [6,7,8] [(6,wV),(7,.box [vI 0]),(8,.box [vB false])] κ<|qL<|iI h▸E0)) (λhb=>have h:=fQ hb h;bI h λq72 hqq72 h=>bI h λq73 hqq73 h=>bI h λq74 hqq74 h=>⟨.ret,_,rfl,(tz.trans (jM hqq72 6 37 [3,4,5,6,7,8,9,15] (K47 q1.2 q2.2 q3.2 [(6,L8 q72),(7,.d (.ptr q5.2 0)),(8,.d (.ptr q6.2 0)),(9,.d (.ptr q7.2 0)),(15,LV i11)]) κ κ κ) (tz.trans (jM hqq73 7 37 [3,4,5,6,7,8,9,15] (K47 q1.2 q2.2 q3.2 [(6,L8 q72),(7,.box [vI q73.1]),(8,.d (.ptr q6.2 0)),(9,.d (.ptr q7.2 0)),(15,LV i11)]) κ κ κ) (jM hqq74 8 37 [3,4,5,6,7,8,9,15] (K47 q1.2 q2.2 q3.2 [(6,L8 q72),(7,.box [vI q73.1]),(8,.box [vB q74.1]),(9,.d (.ptr q7.2 0)),(15,LV i11)]) κ κ κ))),(aJ<|aq<|iI h▸E0)⟩)
def fv(fuel:Nat)(p0:(List Entry))(p1:Int)(p2:Int):Option ((List Entry)):=
 et (decide (0<=p1)&&decide (p1<=p2)&&decide (p2<=(p0.length:Int))&&decide ((p0.length:Int)<=p0.length))<|
 bif (p1==p2)then
  some p0
 else
  et (decide (0<=p1)&&decide (p1<p2)&&decide (p2<=(p0.length:Int))&&decide (p0.length<=room))<|
  some (List.take (Int.toNat p1) p0++List.drop (Int.toNat p2) p0)
def To(x0:((Entry×Int×Bool)×Hp)):SV:=.box [.d (.list 3 (List.map ar x0.1.1.Row)),vI x0.1.1.Key,vI x0.1.1.Number]
def Tn(x0:Int)(x1:(List Entry))(x2:Int):SV:=.own 3 (List.map ab (List.take (Int.toNat x0) x1++List.drop (Int.toNat x2) x1))
theorem m6(h:fv fuel p0 p1 p2=some r):PC Tryz.prog 109 [.own 3 (List.map ab p0),vI p1,vI p2] (.own 3 (List.map ab r)):=by
 refine aW Tryz.func109 rfl λH=>?_
 unfold fv at h
 exact aH 33 H [(0,OR p0),(1,vI p1),(2,vI p2)]<|au 1<|ax<|aa 4<|aw (aG (enc:=ab) (xs:=p0))<|nj h λhk h=>aw (s:=.undef) (H8 (enc:=ab) (xs:=p0) hk)<|ak<|an<|au 1<|aQ h (λh=>ax<|aP [17] 2<|ak<|al<|aq<|iI h▸E0) (λh=>ao<|ag<|ax<|aa 1<|aw (aG (enc:=ab) (xs:=p0))<|aa 1<|ak<|nj h λhk h=>aH 33 H [(0,OR p0),(1,vI p1),(2,vI p2),(7,vI (p0.length:Int))]<|(by obtain⟨hT,ti,z,zd,hi,hz,hzd,hzn,hsz,hn,hby⟩:=rJ (P:=Tryz.prog) (T:=30) (e:=45) (n:=3) κ;exact Hu (enc:=ab) (xs:=p0) (i:=p1) (j:=p2) (T:=30) (s:=0) (a1:=1) (a2:=2) (a3:=7) (t1:=20) (t2:=21) (t3:=22) (t4:=23) (t5:=24) (t6:=25) (t7:=26) (u1:=27) (u2:=28) (u3:=29) (u4:=30) (u5:=31) (jw:=(sp 33 [(0,Tn p1 p0 p2),(1,vI p1),(2,vI p2),(7,vI (p0.length:Int))] H)) hk κ κ ⟨rfl,rfl,rfl⟩ ⟨rfl,rfl,rfl⟩ ⟨rfl,rfl,rfl⟩ ⟨rfl,rfl,rfl⟩ ⟨rfl,rfl,rfl⟩ ⟨rfl,rfl,rfl⟩ ⟨rfl,rfl,rfl⟩ ⟨rfl,rfl,rfl⟩ ⟨rfl,rfl,rfl⟩ ⟨rfl,rfl,rfl⟩ ⟨rfl,rfl,rfl⟩ ⟨rfl,rfl,rfl⟩ ⟨rfl,rfl,rfl⟩ ⟨rfl,rfl,rfl⟩ κ κ (by decide) (by decide) hT hi hz hzd hzn hsz hn hby κ κ κ κ κ<|aH 33 H [(0,Tn p1 p0 p2)]<|ax<|aP [32] 2<|ak<|al<|iI h▸E0))
def dA(fuel:Nat)(p0:Nat)(H:Hp):Option (Int):=
 (bz (cI .i64).cell H p0 3).bind λx1=>
 some (IntKind.wrap .i64 (Int.tdiv x1 2))
def CD(x0:(List Entry)):SV:=vI (IntKind.wrap .i64 ((x0.length:Int) - 1))
theorem kP(h:dA fuel p0 H=some r):SC Tryz.prog true 93 [.d (.ptr p0 0)] H (vI r) H:=by
 refine fN Tryz.func93 rfl ?_
 unfold dA at h
 exact aH 8 H [(0,.d (.ptr p0 0))]<|au 1<|ax<|aa 3<|bI h λx1 hx h=>aw (s:=vI x1) (aA hx)<|aa 2<|ak<|al<|iI h▸E0
def dF(fuel:Nat)(p0:(List (Option Nat)))(p1:Int)(p2:Int):Option ((List (Option Nat))):=
 et (decide (0<=p1)&&decide (p1<=p2)&&decide (p2<=(p0.length:Int))&&decide ((p0.length:Int)<=p0.length))<|
 bif (p1==p2)then
  some p0
 else
  et (decide (0<=p1)&&decide (p1<p2)&&decide (p2<=(p0.length:Int))&&decide (p0.length<=room))<|
  some (List.take (Int.toNat p1) p0++List.drop (Int.toNat p2) p0)
def L7(x0:Int):SV:=vI (IntKind.wrap .i64 (x0 - 1))
def Uk(x0:(List Entry))(x1:((List Entry)×Hp)):SV:=.own 3 (List.map ab (List.take (Int.toNat (IntKind.wrap .i64 ((x0.length:Int) - 1))) x1.1))
def Tm(x0:(List Entry)):SV:=vI (IntKind.wrap .i64 ((IntKind.wrap .i64 ((x0.length:Int) - 1))+1))
def Uj(x0:(List Entry))(x1:((List (Option Nat))×Hp)):SV:=.own 1 (List.map cP.enc (List.take (Int.toNat (IntKind.wrap .i64 ((IntKind.wrap .i64 ((x0.length:Int) - 1))+1))) x1.1))
def Tl(x0:Int)(x1:(List (Option Nat)))(x2:Int):SV:=.own 1 (List.map cP.enc (List.take (Int.toNat x0) x1++List.drop (Int.toNat x2) x1))
theorem mM(h:dF fuel p0 p1 p2=some r):PC Tryz.prog 121 [.own 1 (List.map cP.enc p0),vI p1,vI p2] (.own 1 (List.map cP.enc r)):=by
 refine aW Tryz.func121 rfl λH=>?_
 unfold dF at h
 exact aH 33 H [(0,OP p0),(1,vI p1),(2,vI p2)]<|au 1<|ax<|aa 4<|aw (aG (enc:=cP.enc) (xs:=p0))<|nj h λhk h=>aw (s:=.undef) (H8 (enc:=cP.enc) (xs:=p0) hk)<|ak<|an<|au 1<|aQ h (λh=>ax<|aP [17] 2<|ak<|al<|aq<|iI h▸E0) (λh=>ao<|ag<|ax<|aa 1<|aw (aG (enc:=cP.enc) (xs:=p0))<|aa 1<|ak<|nj h λhk h=>aH 33 H [(0,OP p0),(1,vI p1),(2,vI p2),(7,vI (p0.length:Int))]<|(by obtain⟨hT,ti,z,zd,hi,hz,hzd,hzn,hsz,hn,hby⟩:=rJ (P:=Tryz.prog) (T:=88) (e:=83) (n:=1) κ;exact Hu (enc:=cP.enc) (xs:=p0) (i:=p1) (j:=p2) (T:=88) (s:=0) (a1:=1) (a2:=2) (a3:=7) (t1:=20) (t2:=21) (t3:=22) (t4:=23) (t5:=24) (t6:=25) (t7:=26) (u1:=27) (u2:=28) (u3:=29) (u4:=30) (u5:=31) (jw:=(sp 33 [(0,Tl p1 p0 p2),(1,vI p1),(2,vI p2),(7,vI (p0.length:Int))] H)) hk κ κ ⟨rfl,rfl,rfl⟩ ⟨rfl,rfl,rfl⟩ ⟨rfl,rfl,rfl⟩ ⟨rfl,rfl,rfl⟩ ⟨rfl,rfl,rfl⟩ ⟨rfl,rfl,rfl⟩ ⟨rfl,rfl,rfl⟩ ⟨rfl,rfl,rfl⟩ ⟨rfl,rfl,rfl⟩ ⟨rfl,rfl,rfl⟩ ⟨rfl,rfl,rfl⟩ ⟨rfl,rfl,rfl⟩ ⟨rfl,rfl,rfl⟩ ⟨rfl,rfl,rfl⟩ κ κ (by decide) (by decide) hT hi hz hzd hzn hsz hn hby κ κ κ κ κ<|aH 33 H [(0,Tl p1 p0 p2)]<|ax<|aP [32] 2<|ak<|al<|iI h▸E0))
def y7(xs:List D):D:=D.list 3 (List.map id xs)
def mZ(fuel:Nat)(p1:Int):Option ((List D)):=
 bif (decide (p1<0))then
  none
 else
  bif (decide ((IntKind.wrap .i64 (p1 - 0))>0))then
   et (decide (0<(IntKind.wrap .i64 (p1 - 0)))&&decide ((IntKind.wrap .i64 (p1 - 0))<=(room:Nat)))<|
   some []
  else
   some []
def ES(x0:(List (List D))):SV:=.d (.list 1 (List.map y7 x0))
def Tk:SV:=.d (.iface 9 (.str [108,101,110,32,111,117,116,32,111,102,32,114,97,110,103,101]))
def Tj(x0:Int×Int)(x1:(List D)):SV:=vI (IntKind.wrap .i64 (x0.1+(x1.length:Int)))
def Ti:SV:=.d (.iface 9 (.str [99,97,110,110,111,116,32,98,101,32,110,101,103,97,116,105,118,101]))
def Uh(x0:Int):SV:=.own 3 (List.replicate (Int.toNat (IntKind.wrap .i64 (x0 - 0))) (.agg [.cm,.int .i64 0,.int .i64 0]))
theorem ur(h:mZ fuel p1=some r):PC Tryz.prog 130 [.d (.cm),vI p1] (.own 3 (List.map id r)):=by
 refine aW Tryz.func130 rfl λH=>?_
 unfold mZ at h
 exact aH 27 H [(0,.d (.cm)),(1,vI p1)]<|au 1<|an<|au 1<|aQ h (λh=>ah<|bf 27 H [] [0,1,7] 1 [(0,.d (.cm)),(1,vI p1),(7,Ti)] κ<|(by cases h)) (λh=>ao<|ag<|an<|ax<|aa 2<|aw uq<|aa 1<|aa 1<|aa 3<|ak<|au 1<|aQ h (λh=>ah<|aP [20] 2<|aw uq<|aw HZ<|aU [20] [0,20,21] 1<|nj h λhk h=>HP (zd:=.agg [.cm,.int .i64 0,.int .i64 0]) (d:=22) (n:=3) (m:=(IntKind.wrap .i64 (p1 - 0))) 27 H [0,22] [(0,.d (.cm)),(22,Uh p1)] hk κ κ<|aP [20] 1<|aU [] [22,24] 1<|xd (d:=some 25) (s:=22) (n:=3) (enc:=id) (xs:=(List.replicate (Int.toNat (IntKind.wrap .i64 (p1 - 0))) (.agg [.cm,.int .i64 0,.int .i64 0]))) (j:=0) 27 H [25] [(25,.own 3 (List.map id []))] (by simp[m7];omega) (by simp only[List.map_id];kernel_rfl) κ<|aP [20] 1<|ak<|ax<|aP [26] 2<|ak<|al<|iI h▸E0) (λh=>ao<|ag<|au 1<|al<|iI h▸ER [(4,3)]))
def qm(fuel:Nat)(p0:(List (List D)))(y1:Int×Int):Option ((Int×Int)⊕(Int)):=
 bif (decide (y1.2<(p0.length:Int)))then
  (idx p0 y1.2).bind λx2=>
  bif (decide ((IntKind.wrap .i64 (y1.1+(x2.length:Int)))<0))then
   none
  else
   some (.inl ((IntKind.wrap .i64 (y1.1+(x2.length:Int))),(IntKind.wrap .i64 (y1.2+1))))
 else
  some (.inr y1.1)
def ql(fuel:Nat)(p0:(List (List D)))(y6:(List D)×Int):Option (((List D)×Int)⊕((List D))):=
 bif (decide (y6.2<(p0.length:Int)))then
  (idx p0 y6.2).bind λx7=>
  et (decide ((y6.1++x7).length<=room))<|
  some (.inl ((y6.1++x7),(IntKind.wrap .i64 (y6.2+1))))
 else
  some (.inr y6.1)
def p8(fuel:Nat)(p0:(List (List D))):Option ((List D)):=
 (iter (qm fuel p0) fuel (0,0)).bind λv4=>
 (mZ fuel v4).bind λr5=>
 (iter (ql fuel p0) fuel (r5,0)).bind λv9=>
 some v9
theorem xD(h:p8 fuel p0=some r):PC Tryz.prog 122 [.d (.list 1 (List.map y7 p0))] (.own 3 (List.map id r)):=by
 refine aW Tryz.func122 rfl λH=>?_
 unfold p8 at h
 exact aH 36 H [(0,ES p0)]<|au 2<|an<|ax<|aa 1<|aw (aG (enc:=y7) (xs:=p0))<|aa 1<|ak<|aI<|bI h λv4 hit h=>eY 36 H [0,3,9,10,11] (λy1=>[(0,ES p0),(3,vI y1.1),(9,ES p0),(10,vI (p0.length:Int)),(11,vI y1.2)]) (λv4 e s=>(e=.exit 0/\s=(sp 36 [(0,ES p0),(3,vI v4)] H))) hit κ (λy1 o h=>by unfold qm at h;exact au 1<|an<|aQ h (λh=>ao<|ag<|an<|aI<|ax<|bI h λx2 hx h=>aw (s:=bc none (y7 x2).cells) (aB (n:=1) hx)<|aa 2<|ak<|ax<|aa 2<|aw (aG (enc:=id) (xs:=x2))<|aa 2<|ak<|au 1<|aQ h (λh=>ah<|bf 36 H [] [0,3,9,10,11,21] 1 [(0,ES p0),(3,Tj y1 x2),(9,ES p0),(10,vI (p0.length:Int)),(11,vI y1.2),(21,Tk)] κ<|(by cases h)) (λh=>ao<|aL<|ag<|ah<|aa 2<|ae<|LQ h)) (λh=>aH 36 H [(0,ES p0),(3,vI y1.1)]<|bN<|aY<|aY<|LR h ⟨rfl,rfl⟩)) (by rintro _ _ ⟨rfl,rfl⟩;exact bq<|ag<|ax<|aa 1<|bI h λr5 hr h=>eO 36 H (d:=some 24) (ls:=[]) (gs:=[]) [1000] [0,24] [(0,ES p0),(24,.own 3 (List.map id r5))] (ur hr) κ κ κ<|aa 1<|ak<|an<|ax<|aa 1<|aw (aG (enc:=y7) (xs:=p0))<|aa 1<|ak<|aI<|bI h λv9 hit h=>eY 36 H [6,25,26,27] (λy6=>[(6,.own 3 (List.map id y6.1)),(25,ES p0),(26,vI (p0.length:Int)),(27,vI y6.2)]) (λv9 e s=>(e=.exit 2/\s=(sp 36 [(6,.own 3 (List.map id v9))] H))) hit κ (λy6 o h=>by unfold ql at h;exact au 1<|an<|aQ h (λh=>ao<|ag<|an<|aI<|ax<|bI h λx7 hx h=>aw (s:=bc none (y7 x7).cells) (aB (n:=1) hx)<|aa 2<|ak<|ah<|aP [31] 2<|nj h λhk h=>fx 31 3 (List.map id (y6.1++x7)) (bt) (bZ hk)<|aP [31] 1<|ae<|aL<|ag<|ah<|aa 2<|ae<|LQ h) (λh=>aH 36 H [(6,.own 3 (List.map id y6.1))]<|bN<|aY<|aY<|LR h ⟨rfl,rfl⟩)) (by rintro _ _ ⟨rfl,rfl⟩;exact bq<|ag<|ax<|aP [35] 2<|ak<|al<|iI h▸E0))
end
theorem vQ{α:Type}{fuel:Nat}{yss:List (List α)}{r:List α}(hs:yss.length<1000)(h:CA fuel yss=some r):r=yss.flatten/\ ∀zss:List (List D),zss.map List.length=yss.map List.length->PC Tryz.prog 122 [.d (.list 1 (zss.map (.list 3)))] (.own 3 zss.flatten):=by
 obtain⟨h1,h2⟩:=G9 hs h
 refine⟨h1,λzss hz=>?_⟩
 have:=xD (show p8 fuel zss=some zss.flatten from h2 zss hz)
 have he:y7=D.list 3:=by funext xs;simp[y7]
 rw[he,List.map_id]at this
 exact this
def yZ(xs:List D):D:=D.list 1 (List.map id xs)
def jd(fuel:Nat)(p1:Int):Option ((List D)):=
 bif (decide (p1<0))then
  none
 else
  bif (decide ((IntKind.wrap .i64 (p1 - 0))>0))then
   et (decide (0<(IntKind.wrap .i64 (p1 - 0)))&&decide ((IntKind.wrap .i64 (p1 - 0))<=(room:Nat)))<|
   some []
  else
   some []
def EP(x0:(List (List D))):SV:=.d (.list 1 (List.map yZ x0))
def Ug(x0:Int):SV:=.own 1 (List.replicate (Int.toNat (IntKind.wrap .i64 (x0 - 0))) (.fU))
section
attribute [local irreducible] bX jR lM lQ SW uS
theorem p7(h:jd fuel p1=some r):PC Tryz.prog 131 [.d (.cm),vI p1] (.own 1 (List.map id r)):=by
 refine aW Tryz.func131 rfl λH=>?_
 unfold jd at h
 exact aH 27 H [(0,.d (.cm)),(1,vI p1)]<|au 1<|an<|au 1<|aQ h (λh=>ah<|bf 27 H [] [0,1,7] 1 [(0,.d (.cm)),(1,vI p1),(7,Ti)] κ<|(by cases h)) (λh=>ao<|ag<|an<|ax<|aa 2<|aw uq<|aa 1<|aa 1<|aa 3<|ak<|au 1<|aQ h (λh=>ah<|aP [20] 2<|aw uq<|aw HZ<|aU [20] [0,20,21] 1<|nj h λhk h=>HP (zd:=.fU) (d:=22) (n:=1) (m:=(IntKind.wrap .i64 (p1 - 0))) 27 H [0,22] [(0,.d (.cm)),(22,Ug p1)] hk κ κ<|aP [20] 1<|aU [] [22,24] 1<|xd (d:=some 25) (s:=22) (n:=1) (enc:=id) (xs:=(List.replicate (Int.toNat (IntKind.wrap .i64 (p1 - 0))) (.fU))) (j:=0) 27 H [25] [(25,.own 1 (List.map id []))] (by simp[m7];omega) (by simp only[List.map_id];kernel_rfl) κ<|aP [20] 1<|ak<|ax<|aP [26] 2<|ak<|al<|iI h▸E0) (λh=>ao<|ag<|au 1<|al<|iI h▸ER [(4,1)]))
def mO(fuel:Nat)(p0:(List (List D)))(y1:Int×Int):Option ((Int×Int)⊕(Int)):=
 bif (decide (y1.2<(p0.length:Int)))then
  (idx p0 y1.2).bind λx2=>
  bif (decide ((IntKind.wrap .i64 (y1.1+(x2.length:Int)))<0))then
   none
  else
   some (.inl ((IntKind.wrap .i64 (y1.1+(x2.length:Int))),(IntKind.wrap .i64 (y1.2+1))))
 else
  some (.inr y1.1)
def mN(fuel:Nat)(p0:(List (List D)))(y6:(List D)×Int):Option (((List D)×Int)⊕((List D))):=
 bif (decide (y6.2<(p0.length:Int)))then
  (idx p0 y6.2).bind λx7=>
  et (decide ((y6.1++x7).length<=room))<|
  some (.inl ((y6.1++x7),(IntKind.wrap .i64 (y6.2+1))))
 else
  some (.inr y6.1)
def kX(fuel:Nat)(p0:(List (List D))):Option ((List D)):=
 (iter (mO fuel p0) fuel (0,0)).bind λv4=>
 (jd fuel v4).bind λr5=>
 (iter (mN fuel p0) fuel (r5,0)).bind λv9=>
 some v9
theorem sh(h:kX fuel p0=some r):PC Tryz.prog 123 [.d (.list 1 (List.map yZ p0))] (.own 1 (List.map id r)):=by
 refine aW Tryz.func123 rfl λH=>?_
 unfold kX at h
 exact aH 36 H [(0,EP p0)]<|au 2<|an<|ax<|aa 1<|aw (aG (enc:=yZ) (xs:=p0))<|aa 1<|ak<|aI<|bI h λv4 hit h=>eY 36 H [0,3,9,10,11] (λy1=>[(0,EP p0),(3,vI y1.1),(9,EP p0),(10,vI (p0.length:Int)),(11,vI y1.2)]) (λv4 e s=>(e=.exit 0/\s=(sp 36 [(0,EP p0),(3,vI v4)] H))) hit κ (λy1 o h=>by unfold mO at h;exact au 1<|an<|aQ h (λh=>ao<|ag<|an<|aI<|ax<|bI h λx2 hx h=>aw (s:=bc none (yZ x2).cells) (aB (n:=1) hx)<|aa 2<|ak<|ax<|aa 2<|aw (aG (enc:=id) (xs:=x2))<|aa 2<|ak<|au 1<|aQ h (λh=>ah<|bf 36 H [] [0,3,9,10,11,21] 1 [(0,EP p0),(3,Tj y1 x2),(9,EP p0),(10,vI (p0.length:Int)),(11,vI y1.2),(21,Tk)] κ<|(by cases h)) (λh=>ao<|aL<|ag<|ah<|aa 2<|ae<|LQ h)) (λh=>aH 36 H [(0,EP p0),(3,vI y1.1)]<|bN<|aY<|aY<|LR h ⟨rfl,rfl⟩)) (by rintro _ _ ⟨rfl,rfl⟩;exact bq<|ag<|ax<|aa 1<|bI h λr5 hr h=>eO 36 H (d:=some 24) (ls:=[]) (gs:=[]) [1000] [0,24] [(0,EP p0),(24,.own 1 (List.map id r5))] (p7 hr) κ κ κ<|aa 1<|ak<|an<|ax<|aa 1<|aw (aG (enc:=yZ) (xs:=p0))<|aa 1<|ak<|aI<|bI h λv9 hit h=>eY 36 H [6,25,26,27] (λy6=>[(6,.own 1 (List.map id y6.1)),(25,EP p0),(26,vI (p0.length:Int)),(27,vI y6.2)]) (λv9 e s=>(e=.exit 2/\s=(sp 36 [(6,.own 1 (List.map id v9))] H))) hit κ (λy6 o h=>by unfold mN at h;exact au 1<|an<|aQ h (λh=>ao<|ag<|an<|aI<|ax<|bI h λx7 hx h=>aw (s:=bc none (yZ x7).cells) (aB (n:=1) hx)<|aa 2<|ak<|ah<|aP [31] 2<|nj h λhk h=>fx 31 1 (List.map id (y6.1++x7)) (bt) (bZ hk)<|aP [31] 1<|ae<|aL<|ag<|ah<|aa 2<|ae<|LQ h) (λh=>aH 36 H [(6,.own 1 (List.map id y6.1))]<|bN<|aY<|aY<|LR h ⟨rfl,rfl⟩)) (by rintro _ _ ⟨rfl,rfl⟩;exact bq<|ag<|ax<|aP [35] 2<|ak<|al<|iI h▸E0))
end
theorem rl{α:Type}{fuel:Nat}{yss:List (List α)}{r:List α}(hs:yss.length<1000)(h:CA fuel yss=some r):r=yss.flatten/\ ∀zss:List (List D),zss.map List.length=yss.map List.length->PC Tryz.prog 123 [.d (.list 1 (zss.map (.list 1)))] (.own 1 zss.flatten):=by
 obtain⟨h1,h2⟩:=G9 hs h
 refine⟨h1,λzss hz=>?_⟩
 have:=sh (show kX fuel zss=some zss.flatten from h2 zss hz)
 have he:yZ=D.list 1:=by funext xs;simp[yZ]
 rw[he,List.map_id]at this
 exact this
def eU(fuel:Nat)(p0:Nat)(p1:Nat)(p2:Int)(H:Hp):Option ((Unit)×Hp):=
 (bG 1 cP H p1 1).bind λx1=>
 (idx x1 p2).bind λx2=>
 bp (λ(j3:Bool)=>
  bif j3 then
   (bG 1 cP H p1 1).bind λx10=>
   (idx x10 (IntKind.wrap .i64 (p2 - 1))).bind λx11=>
   x11.bind λi12=>
   (bG 3 aM H i12 0).bind λx13=>
   x2.bind λi14=>
   (db 3 aM H i14 0).bind λq15=>
   (bG 3 aM H p1 0).bind λx17=>
   (idx x17 (IntKind.wrap .i64 (p2 - 1))).bind λx18=>
   (fu fuel q15.1 0 [x18]).bind λr19=>
   x2.bind λi20=>
   (cz 3 aM q15.2 i20 0 r19).bind λH21=>
   x11.bind λi22=>
   (db 3 aM H21 p1 0).bind λq23=>
   (bG 3 aM H21 i22 0).bind λx25=>
   (idx x25 (IntKind.wrap .i64 ((x13.length:Int) - 1))).bind λx26=>
   (idx q23.1 (IntKind.wrap .i64 (p2 - 1))).bind λx27=>
   et (decide ((Int.toNat (IntKind.wrap .i64 (p2 - 1)))<q23.1.length))<|
   (cz 3 aM q23.2 p1 0 (List.set q23.1 (Int.toNat (IntKind.wrap .i64 (p2 - 1))) x26)).bind λH28=>
   x11.bind λi29=>
   (db 3 aM H28 i29 0).bind λq30=>
   et (m7 q30.1 0 (IntKind.wrap .i64 ((x13.length:Int) - 1)))<|
   x11.bind λi31=>
   (cz 3 aM q30.2 i31 0 (List.take (Int.toNat (IntKind.wrap .i64 ((x13.length:Int) - 1))) q30.1)).bind λH32=>
   bp (λ(j33:Hp)=>
    some ((),j33)) λjp34=>
   x2.bind λi35=>
   (cJ fuel i35 H32).bind λr36=>
   bif (!r36)then
    x11.bind λi37=>
    (db 1 cP H32 i35 1).bind λq38=>
    (bG 1 cP H32 i37 1).bind λx40=>
    (idx x40 (IntKind.wrap .i64 ((IntKind.wrap .i64 ((x13.length:Int) - 1))+1))).bind λx41=>
    x41.bind λi42=>
    (dh fuel q38.1 0 [(some i42)]).bind λr43=>
    (cz 1 cP q38.2 i35 1 r43).bind λH44=>
    x11.bind λi45=>
    (db 1 cP H44 i45 1).bind λq46=>
    et (m7 q46.1 0 (IntKind.wrap .i64 ((IntKind.wrap .i64 ((x13.length:Int) - 1))+1)))<|
    x11.bind λi47=>
    (cz 1 cP q46.2 i47 1 (List.take (Int.toNat (IntKind.wrap .i64 ((IntKind.wrap .i64 ((x13.length:Int) - 1))+1))) q46.1)).bind λH48=>
    jp34 H48
   else
    jp34 H32
  else
   bp (λ(j49:Bool)=>
    bif j49 then
     (bG 1 cP H p1 1).bind λx57=>
     (idx x57 (IntKind.wrap .i64 (p2+1))).bind λx58=>
     x2.bind λi59=>
     (db 3 aM H i59 0).bind λq60=>
     (bG 3 aM H p1 0).bind λx62=>
     (idx x62 p2).bind λx63=>
     et (decide ((q60.1++[x63]).length<=room))<|
     x2.bind λi65=>
     (cz 3 aM q60.2 i65 0 (q60.1++[x63])).bind λH66=>
     x58.bind λi67=>
     (db 3 aM H66 p1 0).bind λq68=>
     (bG 3 aM H66 i67 0).bind λx70=>
     (idx x70 0).bind λx71=>
     (idx q68.1 p2).bind λx72=>
     et (decide ((Int.toNat p2)<q68.1.length))<|
     (cz 3 aM q68.2 p1 0 (List.set q68.1 (Int.toNat p2) x71)).bind λH73=>
     x58.bind λi74=>
     (db 3 aM H73 i74 0).bind λq75=>
     (fv fuel q75.1 0 1).bind λr76=>
     x58.bind λi77=>
     (cz 3 aM q75.2 i77 0 r76).bind λH78=>
     bp (λ(j79:Hp)=>
      some ((),j79)) λjp80=>
     x2.bind λi81=>
     (cJ fuel i81 H78).bind λr82=>
     bif (!r82)then
      x58.bind λi83=>
      (db 1 cP H78 i81 1).bind λq84=>
      (bG 1 cP H78 i83 1).bind λx86=>
      (idx x86 0).bind λx87=>
      x87.bind λi88=>
      et (decide ((q84.1++[(some i88)]).length<=room))<|
      (cz 1 cP q84.2 i81 1 (q84.1++[(some i88)])).bind λH90=>
      x58.bind λi91=>
      (db 1 cP H90 i91 1).bind λq92=>
      (dF fuel q92.1 0 1).bind λr93=>
      x58.bind λi94=>
      (cz 1 cP q92.2 i94 1 r93).bind λH95=>
      jp80 H95
     else
      jp80 H78
    else
     (bG 1 cP H p1 1).bind λx96=>
     (idx x96 (bif decide (0<(IntKind.wrap .i64 (p2 - 1)))then(IntKind.wrap .i64 (p2 - 1))else 0)).bind λx97=>
     (bG 1 cP H p1 1).bind λx98=>
     (idx x98 (IntKind.wrap .i64 ((bif decide (0<(IntKind.wrap .i64 (p2 - 1)))then(IntKind.wrap .i64 (p2 - 1))else 0)+1))).bind λx99=>
     x97.bind λi100=>
     x99.bind λi101=>
     (bG 3 aM H i100 0).bind λx102=>
     (bG 3 aM H p1 0).bind λx103=>
     et (m7 x103 (bif decide (0<(IntKind.wrap .i64 (p2 - 1)))then(IntKind.wrap .i64 (p2 - 1))else 0) (IntKind.wrap .i64 ((bif decide (0<(IntKind.wrap .i64 (p2 - 1)))then(IntKind.wrap .i64 (p2 - 1))else 0)+1)))<|
     (bG 3 aM H i101 0).bind λx105=>
     (CA fuel [x102,(sl x103 (bif decide (0<(IntKind.wrap .i64 (p2 - 1)))then(IntKind.wrap .i64 (p2 - 1))else 0) (IntKind.wrap .i64 ((bif decide (0<(IntKind.wrap .i64 (p2 - 1)))then(IntKind.wrap .i64 (p2 - 1))else 0)+1))),x105]).bind λr106=>
     x97.bind λi107=>
     (cz 3 aM H i107 0 r106).bind λH108=>
     x97.bind λi109=>
     x99.bind λi110=>
     (bG 1 cP H108 i109 1).bind λx111=>
     (bG 1 cP H108 i110 1).bind λx112=>
     (CA fuel [x111,x112]).bind λr113=>
     x97.bind λi114=>
     (cz 1 cP H108 i114 1 r113).bind λH115=>
     (db 3 aM H115 p1 0).bind λq116=>
     (fv fuel q116.1 (bif decide (0<(IntKind.wrap .i64 (p2 - 1)))then(IntKind.wrap .i64 (p2 - 1))else 0) (IntKind.wrap .i64 ((bif decide (0<(IntKind.wrap .i64 (p2 - 1)))then(IntKind.wrap .i64 (p2 - 1))else 0)+1))).bind λr117=>
     (cz 3 aM q116.2 p1 0 r117).bind λH118=>
     (db 1 cP H118 p1 1).bind λq119=>
     (dF fuel q119.1 (IntKind.wrap .i64 ((bif decide (0<(IntKind.wrap .i64 (p2 - 1)))then(IntKind.wrap .i64 (p2 - 1))else 0)+1)) (IntKind.wrap .i64 ((bif decide (0<(IntKind.wrap .i64 (p2 - 1)))then(IntKind.wrap .i64 (p2 - 1))else 0)+2))).bind λr120=>
     (cz 1 cP q119.2 p1 1 r120).bind λH121=>
     some ((),H121)) λjp50=>
   (bG 1 cP H p1 1).bind λx51=>
   bif (decide ((IntKind.wrap .i64 (p2+1))<(x51.length:Int)))then
    (bG 1 cP H p1 1).bind λx52=>
    (idx x52 (IntKind.wrap .i64 (p2+1))).bind λx53=>
    x53.bind λi54=>
    (bG 3 aM H i54 0).bind λx55=>
    (dA fuel p0 H).bind λr56=>
    jp50 (decide ((x55.length:Int)>r56))
   else
    jp50 false) λjp4=>
 bif (decide (p2>0))then
  (bG 1 cP H p1 1).bind λx5=>
  (idx x5 (IntKind.wrap .i64 (p2 - 1))).bind λx6=>
  x6.bind λi7=>
  (bG 3 aM H i7 0).bind λx8=>
  (dA fuel p0 H).bind λr9=>
  jp4 (decide ((x8.length:Int)>r9))
 else
  jp4 false
section
attribute [local irreducible] bX jR lM lQ SW uS
def K25:=λa0 a1 a2 (t:SL)=>((1,.d (.ptr a0 0))::(2,vI a1)::(6,.d (cP.enc a2))::t:SL)
def K41:=λa0 a1 a2 (t:SL)=>((6,.d (cP.enc a0))::(7,.d (cP.enc a1))::(8,CD a2)::t:SL)
def K50:=λa0 a1 (t:SL)=>((6,.d (cP.enc a0))::(9,.d (cP.enc a1))::t:SL)
def K52:=λa0 a1 a2 (t:SL)=>((7,.d (cP.enc a0))::(8,CD a1)::(104,.d (.ptr a2 0))::t:SL)
def K66:=λa0 a1 (t:SL)=>((9,.d (cP.enc a0))::(211,.d (.ptr a1 0))::t:SL)
def K68:=λa0 a1 a2 a3 a4 a5 (t:SL)=>((1,.d (.ptr a0 0))::(2,vI a1)::(6,.d (cP.enc a2))::(7,.d (cP.enc a3))::(8,CD a4)::(54,.d (cP.enc a5))::t:SL)
theorem Ar(h:eU fuel p0 p1 p2 H=some r):SC Tryz.prog false 110 [.d (.ptr p0 0),.d (.ptr p1 0),vI p2] H (.g8 []) r.2:=by
 refine cf Tryz.func110 rfl ?_
 unfold eU at h
 exact aH 315 H (K18 p0 p1 [(2,vI p2)])<|ax<|aa 3<|bI h λx1 hx h=>aw (aV hx)<|aa 1<|bI h λx2 hx h=>aw (s:=bc (some (.az p1 1)) [cP.enc x2]) (cr (n:=1) hx)<|aa 2<|ak<|an<|eb 315 H [0,1,2,6,38] (λ(j3:Bool)=>(K18 p0 p1 [(2,vI p2),(6,.d (cP.enc x2)),(38,vB j3)])) h (λj3 h=>aQ h (λh=>ax<|aa 3<|bI h λx10 hx h=>aw (aV hx)<|aa 2<|bI h λx11 hx h=>aw (s:=bc (some (.az p1 1)) [cP.enc x11]) (cr (n:=1) hx)<|aa 2<|ak<|ax<|aa 1<|bI h λi12 hp_i12 h=>aw (s:=.d (.ptr i12 0)) (ba hp_i12)<|aa 2<|bI h λx13 hx h=>aw (aV hx)<|aw (aG (enc:=ab) (xs:=x13))<|aa 2<|ak<|an<|bI h λi14 hp_i14 h=>bI h λq15 hq15 h=>bI h λx17 hx_10 h=>bI h λx18 hx18 h=>bI h λr19 hr_16 h=>bI h λi20 hp_i20 h=>bI h λH21 hx_20 h=>aH 315 H (K25 p1 p2 x2 [(7,.d (cP.enc x11)),(8,CD x13)])<|mz i14 0 λv16=>fj [0,1,2,3,4,6,7,8,9,11,12,5,10,13,14] [15,16,17,18,19,20] κ κ<|aC<|aC<|cd (s:=.d (.ptr i14 0)) (ba hp_i14)<|aC<|aC<|aC<|aC<|aC<|aC<|aC<|du 315 (dY H i14 0 v16) [1,2,6,7,8,54,58,63,66] (K68 p1 p2 x2 x11 x13 x2 [(58,.d (.ptr i14 0)),(63,.d (.ptr p1 0)),(66,L7 p2)]) κ<|jO 315 (dY H i14 0 v16) (d:=some 59) (s:=.d (.raw v16)) [1,2,6,7,8,54,59,63,66] (K68 p1 p2 x2 x11 x13 x2 [(59,.d (.raw v16)),(63,.d (.ptr p1 0)),(66,L7 p2)]) (gZ (c:=aM) (n':=3) hq15 κ) κ<|cd (s:=.bS (.az p1 0) 3 (List.map ab x17)) (pX (aV (c:=aM) hx_10 κ))<|cd (s:=bc (some (.az p1 0)) (ab x18).cells) (aB (n:=3) hx18)<|aC<|dZ<|aP [59] 1<|Ad 315 (dY H i14 0 v16) 69 [1,2,6,7,8,54,59,69] (K68 p1 p2 x2 x11 x13 x2 [(59,.d (.raw v16)),(69,QB x18)]) κ<|nZ (c:=aM) (n':=3) (t:=59) [1,2,6,7,8,54,59,69] (K68 p1 p2 x2 x11 x13 x2 [(59,zM q15),(69,QB x18)]) hq15 κ κ κ<|vG (d:=some 70) (ls:=[]) (gs:=[(59,0)]) [0] (K68 p1 p2 x2 x11 x13 x2 [(70,.own 3 (List.map ab r19))]) (mX hr_16)<|aw (s:=.d (.ptr i20 0)) (ba hp_i20)<|aP [59] 1<|aP [59] 1<|fw 70 hx_20<|ak<|an<|bI h λi22 hp_i22 h=>bI h λq23 hq23 h=>bI h λx25 hx_11 h=>bI h λx26 hx26 h=>bI h λx27 hx27 h=>nj h λhk_16 h=>bI h λH28 hH28 h=>aH 315 H21 (K25 p1 p2 x2 [(7,.d (cP.enc x11)),(8,CD x13)])<|mz p1 0 λv24=>fj [0,1,2,3,5,7,8,9,10,12,6,4,11,13,14] [15,16] κ κ<|aC<|aC<|aC<|aC<|aC<|aC<|cd (s:=.d (.ptr i22 0)) (ba hp_i22)<|aC<|aC<|aC<|du 315 (dY H21 p1 0 v24) [6,7,8,77,80,84,86] (K41 x2 x11 x13 [(77,.d (.ptr p1 0)),(80,L7 p2),(84,.d (.ptr i22 0)),(86,CD x13)]) κ<|jO 315 (dY H21 p1 0 v24) (d:=some 78) (s:=.d (.raw v24)) [6,7,8,78,80,84,86] (K41 x2 x11 x13 [(78,.d (.raw v24)),(80,L7 p2),(84,.d (.ptr i22 0)),(86,CD x13)]) (gZ (c:=aM) (n':=3) hq23 κ) κ<|cd (s:=.bS (.az i22 0) 3 (List.map ab x25)) (pX (aV (c:=aM) hx_11 κ))<|cd (s:=bc (some (.az i22 0)) (ab x26).cells) (aB (n:=3) hx26)<|du 315 (dY H21 p1 0 v24) [6,7,8,78,80,88] (K41 x2 x11 x13 [(78,.d (.raw v24)),(80,L7 p2),(88,lI x26)]) κ<|dZ<|yt (c:=aM) (n':=3) (t:=78) [6,7,8,78,80,88] (K41 x2 x11 x13 [(78,.mI v24 3 (List.map ab q23.1)),(80,L7 p2),(88,lI x26)]) hq23 κ κ κ<|qd (s:=.ep 78 3 (Int.toNat (IntKind.wrap .i64 (p2 - 1)))) [6,7,8,78,88,89] (Cn (enc:=ab) (xs:=q23.1) hx27)<|Ca (s:=78) (n:=3) (j:=(Int.toNat (IntKind.wrap .i64 (p2 - 1)))) (enc:=ab) (xs:=q23.1) (x:=x26) (p:=(some v24)) 315 (wI q23.2 p1 0 v24) [6,7,8,78] (K41 x2 x11 x13 [(78,.mI v24 3 (List.map ab (List.set q23.1 (Int.toNat (IntKind.wrap .i64 (p2 - 1))) x26)))]) hk_16 κ κ<|yp (c:=aM) (n':=3) (s:=78) [6,7,8] (K41 x2 x11 x13 []) hH28 κ κ κ<|ak<|ax<|aP [95] 2<|bI h λi29 hp_i29 h=>aw (s:=.d (.ptr i29 0)) (ba hp_i29)<|aP [95] 2<|bI h λq30 hq h=>jn hq<|aU [95] [6,7,8,90,95,96] 1<|nj h λhk h=>xd (d:=some 97) (s:=95) (n:=3) (enc:=ab) (xs:=q30.1) (j:=(IntKind.wrap .i64 ((x13.length:Int) - 1))) 315 q30.2 [6,7,8,90,97] (K41 x2 x11 x13 [(90,.d (cP.enc x11)),(97,Uk x13 q30)]) hk κ κ<|bI h λi31 hp_i31 h=>aw (s:=.d (.ptr i31 0)) (ba hp_i31)<|aP [95] 2<|bI h λH32 hx h=>fw 97 hx<|ak<|tu 315 [] (λ(j33:Hp)=>[]) (λ(j33:Hp)=>j33) h (λj33 h=>al<|aq<|iI h▸E0) λjp34 h=>ax<|aU [] [6,7,8,101] 1<|bI h λi35 hp_i35 h=>bA x2 (λp=>(sp 315 (K41 p x11 x13 [(101,.d (cP.enc p))]) H32)) κ hp_i35<|bI h λr36 hr h=>jf (ls:=[]) (eC hr)<|aa 1<|ak<|aQ h (λh=>an<|bI h λi37 hp_i37 h=>bI h λq38 hq38 h=>bI h λx40 hx_8 h=>bI h λx41 hx_11 h=>bI h λi42 hp_i42 h=>bI h λr43 hr_14 h=>bI h λH44 hx_17 h=>aH 315 H32 [(6,.d (.ptr i35 0)),(7,.d (cP.enc x11)),(8,CD x13)]<|mz i35 1 λv39=>fj [0,1,2,3,5,6,7,9,10,4,8,11,12] [13,14,15,16,17] κ κ<|aC<|aC<|aC<|aC<|aC<|cd (s:=.d (.ptr i37 0)) (ba hp_i37)<|aC<|aC<|du 315 (dY H32 i35 1 v39) [7,8,104,107,111,114] (K52 x11 x13 i35 [(107,.d (.ptr i35 1)),(111,.d (.ptr i37 1)),(114,Tm x13)]) κ<|jO 315 (dY H32 i35 1 v39) (d:=some 108) (s:=.d (.raw v39)) [7,8,104,108,111,114] (K52 x11 x13 i35 [(108,.d (.raw v39)),(111,.d (.ptr i37 1)),(114,Tm x13)]) (gZ (c:=cP) (n':=1) hq38 κ) κ<|cd (s:=.bS (.az i37 1) 1 (List.map cP.enc x40)) (pX (aV (c:=cP) hx_8 κ))<|cd (s:=bc (some (.az i37 1)) [cP.enc x41]) (cr (n:=1) hx_11)<|KK [7,8,104,108,116]<|dZ<|bA x41 (λp=>(sp 315 (K52 x11 x13 i35 [(108,.d (.raw v39)),(116,.d (cP.enc p))]) (dY H32 i35 1 v39))) κ hp_i42<|aa 1<|Ad 315 (dY H32 i35 1 v39) 117 [7,8,104,108,117] (K52 x11 x13 i35 [(108,.d (.raw v39)),(117,Tr i42)]) κ<|nZ (c:=cP) (n':=1) (t:=108) [7,8,104,108,117] (K52 x11 x13 i35 [(108,Sb q38),(117,Tr i42)]) hq38 κ κ κ<|vG (d:=some 118) (ls:=[]) (gs:=[(108,0)]) [0] (K52 x11 x13 i35 [(118,.own 1 (List.map cP.enc r43))]) (mL hr_14)<|aP [108] 1<|aP [108] 1<|fw 118 hx_17<|ak<|ah<|aP [125] 2<|bI h λi45 hp_i45 h=>aw (s:=.d (.ptr i45 0)) (ba hp_i45)<|aP [125] 1<|bI h λq46 hq h=>jn hq<|aU [125] [121,125,127] 2<|nj h λhk h=>xd (d:=some 128) (s:=125) (n:=1) (enc:=cP.enc) (xs:=q46.1) (j:=(IntKind.wrap .i64 ((IntKind.wrap .i64 ((x13.length:Int) - 1))+1))) 315 q46.2 [121,128] [(121,.d (cP.enc x11)),(128,Uj x13 q46)] hk κ κ<|bI h λi47 hp_i47 h=>aw (s:=.d (.ptr i47 0)) (ba hp_i47)<|aP [125] 1<|bI h λH48 hx h=>fw 128 hx<|ae<|JQ [] h) (λh=>ao<|JQ [] h)) (λh=>ao<|ag<|an<|eb 315 H [1,2,6,156] (λ(j49:Bool)=>(K25 p1 p2 x2 [(156,vB j49)])) h (λj49 h=>aQ h (λh=>ax<|aa 3<|bI h λx57 hx h=>aw (aV hx)<|aa 2<|bI h λx58 hx h=>aw (s:=bc (some (.az p1 1)) [cP.enc x58]) (cr (n:=1) hx)<|aa 2<|ak<|an<|bI h λi59 hp_i59 h=>bI h λq60 hq60 h=>bI h λx62 hx_10 h=>bI h λx63 hx63 h=>nj h λhk64 h=>bI h λi65 hp_i65 h=>bI h λH66 hx_19 h=>aH 315 H (K25 p1 p2 x2 [(9,.d (cP.enc x58))])<|mz i59 0 λv61=>fj [0,1,2,3,4,6,7,8,9,11,5,10,12,13] [14,15,16,17,18,19] κ κ<|aC<|aC<|cd (s:=.d (.ptr i59 0)) (ba hp_i59)<|aC<|aC<|aC<|aC<|aC<|aC<|du 315 (dY H i59 0 v61) [1,2,6,9,165,169,174,176] (K25 p1 p2 x2 [(9,.d (cP.enc x58)),(165,.d (cP.enc x2)),(169,.d (.ptr i59 0)),(174,.d (.ptr p1 0)),(176,vI p2)]) κ<|jO 315 (dY H i59 0 v61) (d:=some 170) (s:=.d (.raw v61)) [1,2,6,9,165,170,174,176] (K25 p1 p2 x2 [(9,.d (cP.enc x58)),(165,.d (cP.enc x2)),(170,.d (.raw v61)),(174,.d (.ptr p1 0)),(176,vI p2)]) (gZ (c:=aM) (n':=3) hq60 κ) κ<|cd (s:=.bS (.az p1 0) 3 (List.map ab x62)) (pX (aV (c:=aM) hx_10 κ))<|cd (s:=bc (some (.az p1 0)) (ab x63).cells) (aB (n:=3) hx63)<|aC<|dZ<|bf 315 (dY H i59 0 v61) [170] [1,2,6,9,165,170,179] 1 (K25 p1 p2 x2 [(9,.d (cP.enc x58)),(165,.d (cP.enc x2)),(170,.d (.raw v61)),(179,sm x63)]) κ<|nZ (c:=aM) (n':=3) (t:=170) [1,2,6,9,165,170,179] (K25 p1 p2 x2 [(9,.d (cP.enc x58)),(165,.d (cP.enc x2)),(170,zM q60),(179,sm x63)]) hq60 κ κ κ<|fx 170 3 (List.map ab (q60.1++[x63])) (bt) (bZ hk64)<|aw (s:=.d (.ptr i65 0)) (ba hp_i65)<|aP [170] 1<|aP [170] 1<|fw 180 hx_19<|ak<|an<|bI h λi67 hp_i67 h=>bI h λq68 hq68 h=>bI h λx70 hx_10 h=>bI h λx71 hx71 h=>bI h λx72 hx72 h=>nj h λhk_14 h=>bI h λH73 hH73 h=>aH 315 H66 (K25 p1 p2 x2 [(9,.d (cP.enc x58))])<|mz p1 0 λv69=>fj [0,1,2,3,5,6,7,8,9,4,10,11,12] [13,14] κ κ<|aC<|aC<|aC<|aC<|aC<|aC<|cd (s:=.d (.ptr i67 0)) (ba hp_i67)<|aC<|du 315 (dY H66 p1 0 v69) [6,9,187,189,193] (K50 x2 x58 [(187,.d (.ptr p1 0)),(189,vI p2),(193,.d (.ptr i67 0))]) κ<|jO 315 (dY H66 p1 0 v69) (d:=some 188) (s:=.d (.raw v69)) [6,9,188,189,193] (K50 x2 x58 [(188,.d (.raw v69)),(189,vI p2),(193,.d (.ptr i67 0))]) (gZ (c:=aM) (n':=3) hq68 κ) κ<|cd (s:=.bS (.az i67 0) 3 (List.map ab x70)) (pX (aV (c:=aM) hx_10 κ))<|cd (s:=bc (some (.az i67 0)) (ab x71).cells) (aB (n:=3) hx71)<|du 315 (dY H66 p1 0 v69) [6,9,188,189,196] (K50 x2 x58 [(188,.d (.raw v69)),(189,vI p2),(196,lI x71)]) κ<|dZ<|yt (c:=aM) (n':=3) (t:=188) [6,9,188,189,196] (K50 x2 x58 [(188,.mI v69 3 (List.map ab q68.1)),(189,vI p2),(196,lI x71)]) hq68 κ κ κ<|qd (s:=.ep 188 3 (Int.toNat p2)) [6,9,188,196,197] (Cn (enc:=ab) (xs:=q68.1) hx72)<|Ca (s:=188) (n:=3) (j:=(Int.toNat p2)) (enc:=ab) (xs:=q68.1) (x:=x71) (p:=(some v69)) 315 (wI q68.2 p1 0 v69) [6,9,188] (K50 x2 x58 [(188,.mI v69 3 (List.map ab (List.set q68.1 (Int.toNat p2) x71)))]) hk_14 κ κ<|yp (c:=aM) (n':=3) (s:=188) [6,9] (K50 x2 x58 []) hH73 κ κ κ<|ak<|ax<|aP [203] 2<|bI h λi74 hp_i74 h=>aw (s:=.d (.ptr i74 0)) (ba hp_i74)<|aP [203] 2<|bI h λq75 hq h=>jn hq<|bI h λr76 hr h=>eO 315 q75.2 (d:=some 204) (ls:=[]) (gs:=[(203,0)]) [0] [6,9,198,204] (K50 x2 x58 [(198,.d (cP.enc x58)),(204,.own 3 (List.map ab r76))]) (m6 hr) κ κ κ<|bI h λi77 hp_i77 h=>aw (s:=.d (.ptr i77 0)) (ba hp_i77)<|aP [203] 2<|bI h λH78 hx h=>fw 204 hx<|ak<|tu 315 [] (λ(j79:Hp)=>[]) (λ(j79:Hp)=>j79) h (λj79 h=>al<|aq<|iI h▸E0) λjp80 h=>ax<|aU [] [6,9,208] 1<|bI h λi81 hp_i81 h=>bA x2 (λp=>(sp 315 (K50 p x58 [(208,.d (cP.enc p))]) H78)) κ hp_i81<|bI h λr82 hr h=>jf (ls:=[]) (eC hr)<|aa 1<|ak<|aQ h (λh=>an<|bI h λi83 hp_i83 h=>bI h λq84 hq84 h=>bI h λx86 hx_8 h=>bI h λx87 hx_9 h=>bI h λi88 hp_i88 h=>nj h λhk89 h=>bI h λH90 hx_15 h=>aH 315 H78 [(6,.d (.ptr i81 0)),(9,.d (cP.enc x58))]<|mz i81 1 λv85=>fj [0,1,2,3,5,6,7,4,8,9,10] [11,12,13,14,15] κ κ<|aC<|aC<|aC<|aC<|aC<|cd (s:=.d (.ptr i83 0)) (ba hp_i83)<|du 315 (dY H78 i81 1 v85) [9,211,214,218] (K66 x58 i81 [(214,.d (.ptr i81 1)),(218,.d (.ptr i83 1))]) κ<|jO 315 (dY H78 i81 1 v85) (d:=some 215) (s:=.d (.raw v85)) [9,211,215,218] (K66 x58 i81 [(215,.d (.raw v85)),(218,.d (.ptr i83 1))]) (gZ (c:=cP) (n':=1) hq84 κ) κ<|cd (s:=.bS (.az i83 1) 1 (List.map cP.enc x86)) (pX (aV (c:=cP) hx_8 κ))<|cd (s:=bc (some (.az i83 1)) [cP.enc x87]) (cr (n:=1) hx_9)<|KK [9,211,215,221]<|dZ<|bA x87 (λp=>(sp 315 (K66 x58 i81 [(215,.d (.raw v85)),(221,.d (cP.enc p))]) (dY H78 i81 1 v85))) κ hp_i88<|aK 1 (K66 x58 i81 [(215,.d (.raw v85)),(222,Ts i88)])<|nZ (c:=cP) (n':=1) (t:=215) [9,211,215,222] (K66 x58 i81 [(215,Sb q84),(222,Ts i88)]) hq84 κ κ κ<|fx 215 1 (List.map cP.enc (q84.1++[(some i88)])) (bt) (bZ hk89)<|aP [215] 1<|aP [215] 1<|fw 223 hx_15<|ak<|ah<|aP [230] 2<|bI h λi91 hp_i91 h=>aw (s:=.d (.ptr i91 0)) (ba hp_i91)<|aP [230] 1<|bI h λq92 hq h=>jn hq<|bI h λr93 hr h=>eO 315 q92.2 (d:=some 231) (ls:=[]) (gs:=[(230,0)]) [0] [226,231] [(226,.d (cP.enc x58)),(231,.own 1 (List.map cP.enc r93))] (mM hr) κ κ κ<|bI h λi94 hp_i94 h=>aw (s:=.d (.ptr i94 0)) (ba hp_i94)<|aP [230] 1<|bI h λH95 hx h=>fw 231 hx<|ae<|JQ [] h) (λh=>ao<|JQ [] h)) (λh=>ao<|ag<|ax<|aa 2<|aw (Po (kk:=.i64) (i:=0) (j:=(IntKind.wrap .i64 (p2 - 1))))<|aa 1<|ak<|an<|bI h λx96 hx_3 h=>bI h λx97 hx_5 h=>bI h λx98 hx_10 h=>bI h λx99 hx_13 h=>aH 315 H [(1,.d (.ptr p1 0)),(2,vI (bif decide (0<(IntKind.wrap .i64 (p2 - 1)))then(IntKind.wrap .i64 (p2 - 1))else 0))]<|fj [0,1,2,4,7,8,9,11,12,3,5,6,10,13,14,15,16] [] κ κ<|aC<|aC<|aC<|aC<|aC<|aC<|aC<|aC<|aC<|cd (aV hx_3)<|cd (s:=bc (some (.az p1 1)) [cP.enc x97]) (cr (n:=1) hx_5)<|aC<|cd (aV hx_10)<|cd (s:=bc (some (.az p1 1)) [cP.enc x99]) (cr (n:=1) hx_13)<|aC<|aC<|aC<|dZ<|ak<|an<|bI h λi100 hp_i100 h=>bI h λi101 hp_i101 h=>bI h λx102 hx_5 h=>bI h λx103 hx_10 h=>nj h λhk104 h=>bI h λx105 hx_19 h=>bI h λr106 hr_r106 h=>bI h λi107 hp_i107 h=>bI h λH108 hx_25 h=>aH 315 H [(1,.d (.ptr p1 0)),(2,vI (bif decide (0<(IntKind.wrap .i64 (p2 - 1)))then(IntKind.wrap .i64 (p2 - 1))else 0)),(10,.d (cP.enc x97)),(11,.d (cP.enc x99))]<|fj [0,1,2,3,4,6,7,8,9,11,12,15,16,17,18,13,5,10,14,19] [20,21,22,23,24,25] κ κ<|aC<|aC<|cd (s:=.d (.ptr i100 0)) (ba hp_i100)<|aC<|aC<|aC<|aC<|aC<|aC<|aC<|aC<|aC<|cd (s:=.d (.ptr i101 0)) (ba hp_i101)<|aC<|aC<|aC<|cd (aV hx_5)<|cd (aV hx_10)<|cd (s:=nP (some (.az p1 0)) 3 (List.map ab (sl x103 (bif decide (0<(IntKind.wrap .i64 (p2 - 1)))then(IntKind.wrap .i64 (p2 - 1))else 0) (IntKind.wrap .i64 ((bif decide (0<(IntKind.wrap .i64 (p2 - 1)))then(IntKind.wrap .i64 (p2 - 1))else 0)+1))))) (iJ hk104)<|KM [1,2,10,11,252,257,266,271] (aV hx_19)<|dZ<|DO (enc:=ab) (yss:=[x102,(sl x103 (bif decide (0<(IntKind.wrap .i64 (p2 - 1)))then(IntKind.wrap .i64 (p2 - 1))else 0) (IntKind.wrap .i64 ((bif decide (0<(IntKind.wrap .i64 (p2 - 1)))then(IntKind.wrap .i64 (p2 - 1))else 0)+1))),x105]) (r:=r106) (n:=3) (d1:=272) (d2:=273) (f:=122) (ts:=[257,266,271]) 315 H [1,2,10,11,252,273] [(1,.d (.ptr p1 0)),(2,vI (bif decide (0<(IntKind.wrap .i64 (p2 - 1)))then(IntKind.wrap .i64 (p2 - 1))else 0)),(10,.d (cP.enc x97)),(11,.d (cP.enc x99)),(252,.d (cP.enc x97)),(273,OR r106)] (vQ ψ hr_r106) κ κ<|aw (s:=.d (.ptr i107 0)) (ba hp_i107)<|aa 1<|aa 1<|fw 273 hx_25<|ak<|an<|bI h λi109 hp_i109 h=>bI h λi110 hp_i110 h=>bI h λx111 hx_4 h=>bI h λx112 hx_8 h=>bI h λr113 hr_r113 h=>bI h λi114 hp_i114 h=>bI h λH115 hx_13 h=>aH 315 H108 [(1,.d (.ptr p1 0)),(2,vI (bif decide (0<(IntKind.wrap .i64 (p2 - 1)))then(IntKind.wrap .i64 (p2 - 1))else 0)),(10,.d (cP.enc x97)),(11,.d (cP.enc x99))]<|fj [0,1,2,3,5,6,7,4,8] [9,10,11,12,13] κ κ<|aC<|aC<|cd (s:=.d (.ptr i109 0)) (ba hp_i109)<|aC<|aC<|cd (s:=.d (.ptr i110 0)) (ba hp_i110)<|aC<|cd (aV hx_4)<|KM [1,2,277,281,285] (aV hx_8)<|dZ<|DO (enc:=cP.enc) (yss:=[x111,x112]) (r:=r113) (n:=1) (d1:=286) (d2:=287) (f:=123) (ts:=[281,285]) 315 H108 [1,2,277,287] [(1,.d (.ptr p1 0)),(2,vI (bif decide (0<(IntKind.wrap .i64 (p2 - 1)))then(IntKind.wrap .i64 (p2 - 1))else 0)),(277,.d (cP.enc x97)),(287,OP r113)] (rl ψ hr_r113) κ κ<|aw (s:=.d (.ptr i114 0)) (ba hp_i114)<|aa 1<|fw 287 hx_13<|ak<|ax<|aP [295] 5<|bI h λq116 hq h=>jn hq<|aP [295] 3<|bI h λr117 hr h=>eO 315 q116.2 (d:=some 299) (ls:=[]) (gs:=[(295,0)]) [0] [1,2,290,299] [(1,.d (.ptr p1 0)),(2,vI (bif decide (0<(IntKind.wrap .i64 (p2 - 1)))then(IntKind.wrap .i64 (p2 - 1))else 0)),(290,.d (.ptr p1 0)),(299,.own 3 (List.map ab r117))] (m6 hr) κ κ κ<|aP [295] 3<|bI h λH118 hx h=>fw 299 hx<|ak<|ah<|aP [307] 4<|bI h λq119 hq h=>jn hq<|aP [307] 4<|bI h λr120 hr h=>eO 315 q119.2 (d:=some 312) (ls:=[]) (gs:=[(307,0)]) [0] [303,312] [(303,.d (.ptr p1 0)),(312,.own 1 (List.map cP.enc r120))] (mM hr) κ κ κ<|aP [307] 2<|bI h λH121 hx h=>fw 312 hx<|ae<|iI h▸EN)) λjp50 h=>fM<|aF 5<|bI h λx51 hx h=>bm (aV hx)<|bm (aG (enc:=cP.enc) (xs:=x51))<|dt [] [0,1,2,6,139] 2<|dP (λb=>(sp 315 (K18 p0 p1 [(2,vI p2),(6,.d (cP.enc x2)),(139,vB b)]) H)) h (λh=>aF 3<|bI h λx52 hx h=>bm (aV hx)<|aF 2<|bI h λx53 hx h=>bm (s:=bc (some (.az p1 1)) [cP.enc x53]) (cr (n:=1) hx)<|aF 1<|bI h λi54 hp_i54 h=>bm (s:=.d (.ptr i54 0)) (ba hp_i54)<|aF 2<|bI h λx55 hx h=>bm (aV hx)<|bm (aG (enc:=ab) (xs:=x55))<|aF 1<|bI h λr56 hr h=>jN (ls:=[]) (kP hr)<|aF 2<|bF<|JQ [] h) λh=>aF 17<|bF<|JQ [] h)) λjp4 h=>fM<|dt [] [0,1,2,6,21] 3<|dP (λb=>(sp 315 (K18 p0 p1 [(2,vI p2),(6,.d (cP.enc x2)),(21,vB b)]) H)) h (λh=>aF 3<|bI h λx5 hx h=>bm (aV hx)<|aF 2<|bI h λx6 hx h=>bm (s:=bc (some (.az p1 1)) [cP.enc x6]) (cr (n:=1) hx)<|aF 1<|bI h λi7 hp_i7 h=>bm (s:=.d (.ptr i7 0)) (ba hp_i7)<|aF 2<|bI h λx8 hx h=>bm (aV hx)<|bm (aG (enc:=ab) (xs:=x8))<|aF 1<|bI h λr9 hr h=>jN (ls:=[]) (kP hr)<|aF 2<|bF<|JQ [] h) λh=>aF 17<|bF<|JQ [] h
def jq(fuel:Nat)(y10:(Option Nat)×Hp):Option (((Option Nat)×Hp)⊕((Option Nat)×Hp)):=
 y10.1.bind λi11=>
 (cJ fuel i11 y10.2).bind λr12=>
 bif (!r12)then
  (bG 1 cP y10.2 i11 1).bind λx13=>
  (bG 1 cP y10.2 i11 1).bind λx14=>
  (idx x13 (IntKind.wrap .i64 ((x14.length:Int) - 1))).bind λx15=>
  some (.inl (x15,y10.2))
 else
  some (.inr ((some i11),y10.2))
end
end Go.Sh
