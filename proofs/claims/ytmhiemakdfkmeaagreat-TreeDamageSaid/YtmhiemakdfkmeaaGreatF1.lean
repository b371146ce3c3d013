/- Printed by a program: functions of the program as plain functions, and that the code computes them. -/
import Derived.Test.YtmhiemakdfkmeaaGreatS4
import Derived.Test.YtmhiemakdfkmeaaGreatProg
import Derived.Lib.Strings
import Derived.Lib.Slices
import Derived.Lib.Walk
import Derived.Lib.Bytealg
set_option linter.all false
set_option autoImplicit true
set_option relaxedAutoImplicit true
open Go Go.Proofs
namespace Go.Sh
set_option maxRecDepth 100000
abbrev SL:=List (Nat×SV)
structure az where
 aG:(List Int)
 Down:(List Bool)
 eD:Int
 deriving DecidableEq,Inhabited
def cD(x:az):D:=.agg [.list 1 (List.map (D.int .i64) x.aG),.list 1 (List.map D.bool x.Down),.int .i64 x.eD]
structure Value where
 Kind:Int
 N:Int
 S:(List UInt8)
 deriving DecidableEq,Inhabited
def ay(x:Value):D:=.agg [.int .i64 x.Kind,.int .i64 x.N,.str x.S]
structure Act where
 Kind:Int
 Key:Int
 Row:(List Value)
 yg:(List Value)
 deriving DecidableEq,Inhabited
def ld(x:Act):D:=.agg [.int .i64 x.Kind,.int .i64 x.Key,.list 3 (List.map ay x.Row),.list 3 (List.map ay x.yg)]
def DB(xs:List Value):D:=D.list 3 (List.map ay xs)
def nu(fuel:Nat)(p0:(List (List Value)))(y1:Int)(y3:Int):Option ((Int)⊕((Unit)⊕((Bool)))):=
 (idx p0 y1).bind λx4=>
 bif (decide (y3<(x4.length:Int)))then
  (idx p0 y1).bind λx5=>
  (idx x5 y3).bind λx6=>
  bif (decide ((x6.S.length:Int)>200))then
   some (.inr (.inr false))
  else
   some (.inl (IntKind.wrap .i64 (y3+1)))
 else
  some (.inr (.inl ()))
def nr(fuel:Nat)(p0:(List (List Value)))(y1:Int):Option ((Int)⊕((Unit)⊕((Bool)))):=
 bif (decide (y1<(p0.length:Int)))then
  (idx p0 y1).bind λx2=>
  bif (decide ((x2.length:Int)>20))then
   some (.inr (.inr false))
  else
   (iter (nu fuel p0 y1) fuel 0).bind (Sum.elim (λv8=>
    some (.inl (IntKind.wrap .i64 (y1+1)))) (λr9=>
    some (.inr (.inr r9))))
 else
  some (.inr (.inl ()))
def sB(fuel:Nat)(p0:(List (List Value))):Option (Bool):=
 (iter (nr fuel p0) fuel 0).bind (Sum.elim (λv11=>
  some true) (λr12=>
  some r12))
def Z0(x0:(List Act)):SV:=.d (.list 4 (List.map ld x0))
def Z1(x0:az):SV:=.box [.d (.list 1 (List.map (D.int .i64) x0.aG)),.d (.list 1 (List.map D.bool x0.Down)),vI x0.eD]
def Z2(x0:az):SV:=.d (.agg [.list 1 (List.map (D.int .i64) x0.aG),.list 1 (List.map D.bool x0.Down),.int .i64 x0.eD])
def Z4(x0:Act):SV:=.d (.list 3 (List.map ay x0.Row))
def Z5(x0:Act):SV:=.d (.list 3 (List.map ay x0.yg))
def Z7(x0:(List (List Value))):SV:=.d (.list 1 (List.map DB x0))
def Z9(x0:(List Value)):SV:=.d (.list 3 (List.map ay x0))
section
attribute [local irreducible] cf jj lh lH SW uS
theorem GG(h:sB fuel p0=some r):PC Tryz.prog 18 [.d (.list 1 (List.map DB p0))] (vB r):=by
 refine aW Tryz.func18 rfl λH=>?_
 unfold sB at h
 exact aI 36 H [(0,Z7 p0)]<|ar 1<|an<|ar 1<|aM<|bI h λz10 hit h=>fM 36 H [0,3] (λy1=>[(0,Z7 p0),(3,vI y1)]) (λb e s=>((∃v11,b=(.inl v11)/\(e=.exit 0/\s=(sp 36 [] H)))\/(∃r12,b=(.inr r12)/\(e=.ret/\dw Tryz.prog Tryz.f18.results.toList H (vB r12) .ret s)))) hit κ (λy1 o h=>by unfold nr at h;exact an<|aA<|aa 2<|ax (aJ (enc:=DB) (xs:=p0))<|aa 1<|ak<|aT h (λh=>ao<|ag<|an<|aM<|an<|aA<|aa 2<|bI h λx2 hx h=>ax (s:=bb none (DB x2).cells) (aD (n:=1) hx)<|aa 1<|ax (aJ (enc:=ay) (xs:=x2))<|aa 1<|ak<|aT h (λh=>ar 1<|al<|aq<|aQ<|aq<|aq<|LR h (.inr (⟨false,rfl,rfl,dw.ret [] κ κ⟩))) (λh=>ao<|ag<|ar 1<|aM<|bI h λz7 hit h=>fM 36 H [0,3,4] (λy3=>[(0,Z7 p0),(3,vI y1),(4,vI y3)]) (λb e s=>((∃v8,b=(.inl v8)/\(e=.exit 2/\s=(sp 36 [(0,Z7 p0),(3,vI y1)] H)))\/(∃r9,b=(.inr r9)/\(e=.ret/\dw Tryz.prog Tryz.f18.results.toList H (vB r9) .ret s)))) hit κ (λy3 o h=>by unfold nu at h;exact an<|aA<|aa 3<|bI h λx4 hx h=>ax (s:=bb none (DB x4).cells) (aD (n:=1) hx)<|aa 1<|ax (aJ (enc:=ay) (xs:=x4))<|aa 1<|ak<|aT h (λh=>ao<|ag<|an<|aM<|aA<|aa 2<|bI h λx5 hx h=>ax (s:=bb none (DB x5).cells) (aD (n:=1) hx)<|aa 2<|bI h λx6 hx h=>ax (s:=bb none (ay x6).cells) (aD (n:=3) hx)<|aa 2<|aa 1<|aa 1<|ak<|aT h (λh=>ar 1<|al<|aQ<|aq<|aq<|LR h (.inr (⟨false,rfl,rfl,dw.ret [] κ κ⟩))) (λh=>ao<|aR<|ag<|ah<|aa 3<|af<|LQ h)) (λh=>aI 36 H [(0,Z7 p0),(3,vI y1)]<|bT<|ba<|ba<|LR h (.inl ⟨(),rfl,rfl,rfl⟩))) (by rintro _ _ (⟨v8,rfl,rfl,rfl⟩|⟨r9,rfl,rfl,hE⟩);exact have h:=js h;bw<|aR<|ag<|ah<|aa 3<|af<|LQ h;exact have h:=jr h;aQ<|aQ<|aq<|aq<|LR h (.inr (⟨r9,rfl,rfl,hE⟩))))) (λh=>aI 36 H []<|bT<|ba<|ba<|LR h (.inl ⟨(),rfl,rfl,rfl⟩))) (by rintro _ _ (⟨v11,rfl,rfl,rfl⟩|⟨r12,rfl,rfl,hE⟩);exact have h:=js h;bw<|ag<|ar 1<|al<|iI h▸E0;exact have h:=jr h;aQ<|aq<|(by cases h;exact hE))
def oz(fuel:Nat)(p1:(List Act))(y1:Int):Option ((Int)⊕((Unit)⊕((Bool)))):=
 bif ((decide (y1<(p1.length:Int)))&&(decide (y1<80)))then
  (idx p1 y1).bind λx2=>
  (idx p1 y1).bind λx3=>
  (sB fuel [x2.Row,x3.yg]).bind λr4=>
  bif (!r4)then
   some (.inr (.inr false))
  else
   some (.inl (IntKind.wrap .i64 (y1+1)))
 else
  some (.inr (.inl ()))
def Bk(fuel:Nat)(p0:az)(p1:(List Act)):Option (Bool):=
 (iter (oz fuel p1) fuel 0).bind (Sum.elim (λv6=>
  bif (decide ((p1.length:Int)<=80))then
   bif (decide ((p0.aG.length:Int)<=20))then
    some (decide ((p0.Down.length:Int)<=20))
   else
    some false
  else
   some false) (λr7=>
  some r7))
def UC(x0:az):SV:=.d (.list 1 (List.map (D.int .i64) x0.aG))
def U5(x0:az):SV:=vI (x0.aG.length:Int)
theorem Md(h:Bk fuel p0 p1=some r):PC Tryz.prog 7 [.d (cD p0),.d (.list 4 (List.map ld p1))] (vB r):=by
 refine aW Tryz.func7 rfl λH=>?_
 unfold Bk at h
 exact aI 44 H [(0,Z2 p0),(1,Z0 p1)]<|ar 1<|an<|ar 1<|aM<|bI h λz5 hit h=>fM 44 H [1,2,5] (λy1=>[(1,Z0 p1),(2,Z1 p0),(5,vI y1)]) (λb e s=>((∃v6,b=(.inl v6)/\(e=.exit 0/\s=(sp 44 [(1,Z0 p1),(2,Z1 p0)] H)))\/(∃r7,b=(.inr r7)/\(e=.ret/\dw Tryz.prog Tryz.f7.results.toList H (vB r7) .ret s)))) hit κ (λy1 o h=>by unfold oz at h;exact an<|aA<|aa 2<|ax (aJ (enc:=ld) (xs:=p1))<|aX [] [1,2,5,10] 2<|dO 44 H [1,2,5,13] 3 (decide (y1<(p1.length:Int))) (λb=>(sp 44 [(1,Z0 p1),(2,Z1 p0),(5,vI y1),(10,vB b)] H)) (λb=>[(1,Z0 p1),(2,Z1 p0),(5,vI y1),(13,vB (b&&(decide (y1<80))))]) κ κ κ<|ak<|aT h (λh=>ao<|ag<|an<|aM<|an<|g8 10 κ κ<|bp 2<|bI h λx2 hx h=>bU (s:=bb none (ld x2).cells) (aD (n:=4) hx)<|bp 4<|bI h λx3 hx h=>bU (s:=bb none (ld x3).cells) (aD (n:=4) hx)<|bp 2<|cd<|aa 1<|bI h λr4 hr h=>iz 44 H (d:=some 27) (ls:=[(.slot 26)]) (gs:=[]) [] [1,2,5,27] [(1,Z0 p1),(2,Z1 p0),(5,vI y1),(27,vB r4)] (GG hr) κ κ κ<|aa 1<|ak<|aT h (λh=>ar 1<|al<|aQ<|aq<|aq<|LR h (.inr (⟨false,rfl,rfl,dw.ret [] κ κ⟩))) (λh=>ao<|aR<|ag<|ah<|aa 3<|af<|LQ h)) (λh=>B1 [(1,Z0 p1),(2,Z1 p0)]<|bT<|ba<|ba<|LR h (.inl ⟨(),rfl,rfl,rfl⟩))) (by rintro _ _ (⟨v6,rfl,rfl,rfl⟩|⟨r7,rfl,rfl,hE⟩);exact have h:=js h;bw<|ag<|aA<|aa 1<|ax (aJ (enc:=ld) (xs:=p1))<|aX [] [2,32] 2<|cn (λb=>(sp 44 [(2,Z1 p0),(32,vB b)] H)) h (λh=>aa 2<|ax (aJ (enc:=(D.int .i64)) (xs:=p0.aG))<|aX [] [2,38] 3<|cn (λb=>(sp 44 [(2,Z1 p0),(38,vB b)] H)) h (λh=>aa 2<|ax (aJ (enc:=D.bool) (xs:=p0.Down))<|aa 3<|ak<|al<|iI h▸E0) λh=>aa 6<|ak<|al<|iI h▸E0) λh=>aa 12<|ak<|al<|iI h▸E0;exact have h:=jr h;aQ<|aq<|(by cases h;exact hE))
def IF(fuel:Nat)(p0:Int):Option (Bool):=
 some ((p0==1)||(p0==2))
def QU(x0:(List Int)):SV:=.d (.list 1 (List.map (D.int .i64) x0))
def UZ:SV:=.d (.fn (.func 85) [] [])
theorem LF(h:IF fuel p0=some r):PC Tryz.prog 86 [vI p0] (vB r):=by
 refine aW Tryz.func86 rfl λH=>?_
 unfold IF at h
 exact aI 9 H [(0,vI p0)]<|ar 1<|aA<|aX [] [0,5] 3<|dO 9 H [8] 3 (p0==1) (λb=>(sp 9 [(0,vI p0),(5,vB b)] H)) (λb=>[(8,vB (b||(p0==2)))]) κ κ κ<|aa 1<|ak<|al<|iI h▸E0
def tC(fuel:Nat)(p0:Int):Option (Bool):=
 (IF fuel p0).bind λr1=>
 some (!r1)
theorem El(h:tC fuel p0=some r):PC Tryz.prog 85 [vI p0] (vB r):=by
 refine aW Tryz.func85 rfl λH=>?_
 unfold tC at h
 exact aI 6 H [(0,vI p0)]<|ar 1<|aA<|aa 1<|bI h λr1 hr h=>bJ (LF hr)<|aa 2<|ak<|al<|iI h▸E0
def cX(fuel:Nat)(p0:(List Int))(y1:Int):Option ((Int)⊕((Unit)⊕((Int)))):=
 bif (decide (y1<(p0.length:Int)))then
  (idx p0 y1).bind λx2=>
  (tC fuel x2).bind λr3=>
  bif r3 then
   some (.inr (.inr y1))
  else
   some (.inl (IntKind.wrap .i64 (y1+1)))
 else
  some (.inr (.inl ()))
def dD(fuel:Nat)(p0:(List Int)):Option (Int):=
 (iter (cX fuel p0) fuel 0).bind (Sum.elim (λv5=>
  some (-1)) (λr6=>
  some r6))
theorem mG(h:dD fuel p0=some r):PC Tryz.prog 103 [.d (.list 1 (List.map (D.int .i64) p0)),.d (.fn (.func 85) [] [])] (vI r):=by
 refine aW Tryz.func103 rfl λH=>?_
 unfold dD at h
 exact aI 19 H [(0,QU p0),(1,UZ)]<|ar 1<|an<|aA<|aa 1<|ax (aJ (enc:=(D.int .i64)) (xs:=p0))<|aa 1<|ak<|aM<|bI h λz4 hit h=>fM 19 H [0,1,7,8] (λy1=>[(0,QU p0),(1,UZ),(7,vI (p0.length:Int)),(8,vI y1)]) (λb e s=>((∃v5,b=(.inl v5)/\(e=.exit 0/\s=(sp 19 [] H)))\/(∃r6,b=(.inr r6)/\(e=.ret/\dw Tryz.prog Tryz.f103.results.toList H (vI r6) .ret s)))) hit κ (λy1 o h=>by unfold cX at h;exact ar 1<|an<|aT h (λh=>ao<|ag<|an<|aM<|ar 1<|aA<|aa 3<|bI h λx2 hx h=>ax (s:=bb none (Go.Sh.D.cells ((D.int .i64) x2))) (aD (n:=1) hx)<|aa 1<|bI h λr3 hr h=>bJ (El hr)<|ak<|aT h (λh=>ar 1<|al<|aQ<|aq<|aq<|LR h (.inr (⟨y1,rfl,rfl,dw.ret [] κ κ⟩))) (λh=>ao<|aR<|ag<|ah<|aa 2<|af<|LQ h)) (λh=>aI 19 H []<|bT<|ba<|ba<|LR h (.inl ⟨(),rfl,rfl,rfl⟩))) (by rintro _ _ (⟨v5,rfl,rfl,rfl⟩|⟨r6,rfl,rfl,hE⟩);exact have h:=js h;bw<|ag<|ar 1<|al<|iI h▸E0;exact have h:=jr h;aQ<|aq<|(by cases h;exact hE))
def cY(fuel:Nat)(p0:(List Int)):Option (Bool):=
 (dD fuel p0).bind λr1=>
 some (decide (r1>=0))
theorem lE(h:cY fuel p0=some r):PC Tryz.prog 84 [.d (.list 1 (List.map (D.int .i64) p0)),.d (.fn (.func 85) [] [])] (vB r):=by
 refine aW Tryz.func84 rfl λH=>?_
 unfold cY at h
 exact aI 9 H [(0,QU p0),(1,UZ)]<|ar 1<|aA<|aa 2<|bI h λr1 hr h=>bJ (mG hr)<|aa 2<|ak<|al<|iI h▸E0
def vJ(fuel:Nat)(p0:az):Option (Bool):=
 bif (decide ((p0.aG.length:Int)>=1))then
  bif (decide ((p0.aG.length:Int)<=8))then
   bif ((((p0.Down.length:Int)==(p0.aG.length:Int))&&(decide (p0.eD>=1)))&&(decide (p0.eD<=3)))then
    (cY fuel p0.aG).bind λr1=>
    some (!r1)
   else
    some false
  else
   some false
 else
  some false
theorem IJ(h:vJ fuel p0=some r):PC Tryz.prog 59 [.d (cD p0)] (vB r):=by
 refine aW Tryz.func59 rfl λH=>?_
 unfold vJ at h
 exact aI 38 H [(0,Z2 p0)]<|ar 1<|aA<|aa 2<|ax (aJ (enc:=(D.int .i64)) (xs:=p0.aG))<|aX [] [1,7] 2<|cn (λb=>(sp 38 [(1,Z1 p0),(7,vB b)] H)) h (λh=>aa 2<|ax (aJ (enc:=(D.int .i64)) (xs:=p0.aG))<|aX [] [1,13] 3<|cn (λb=>(sp 38 [(1,Z1 p0),(13,vB b)] H)) h (λh=>aa 2<|ax (aJ (enc:=D.bool) (xs:=p0.Down))<|aa 2<|ax (aJ (enc:=(D.int .i64)) (xs:=p0.aG))<|aX [] [1,22] 3<|dO 38 H [1,26] 4 ((p0.Down.length:Int)==(p0.aG.length:Int)) (λb=>(sp 38 [(1,Z1 p0),(22,vB b)] H)) (λb=>[(1,Z1 p0),(26,vB (b&&(decide (p0.eD>=1))))]) κ κ κ<|aX [] [1,27] 1<|dO 38 H [1,31] 4 (((p0.Down.length:Int)==(p0.aG.length:Int))&&(decide (p0.eD>=1))) (λb=>(sp 38 [(1,Z1 p0),(27,vB b)] H)) (λb=>[(1,Z1 p0),(31,vB (b&&(decide (p0.eD<=3))))]) κ κ κ<|aX [] [1,32] 1<|cn (λb=>(sp 38 [(1,Z1 p0),(32,vB b)] H)) h (λh=>aa 2<|bI h λr1 hr h=>bJ (lE hr)<|aa 3<|ak<|al<|iI h▸E0) λh=>aa 6<|ak<|al<|iI h▸E0) λh=>aa 25<|ak<|al<|iI h▸E0) λh=>aa 31<|ak<|al<|iI h▸E0
def hZ(fuel:Nat)(p0:(List Int)):Option ((List Int)):=
 I9 p0 λb1=>
 bif b1 then
  some ([]:List Int)
 else
  ff (decide ((([]:List Int)++p0).length<=room))<|
  some (([]:List Int)++p0)
theorem rB(h:hZ fuel p0=some r):PC Tryz.prog 48 [.d (.list 1 (List.map (D.int .i64) p0))] (.own 1 (List.map (D.int .i64) r)):=by
 refine aW Tryz.func48 rfl λH=>?_
 unfold hZ at h
 exact aI 8 H [(0,QU p0)]<|ar 1<|an<|aA<|aX [] [0,3] 1<|qA (xs:=List.map (D.int .i64) p0) (d:=some 4) (e:=true) 8 H [0,4] (λb1=>[(0,QU p0),(4,vB b1)]) κ (λ_=>by kernel_rfl) (λb1 hnil=>have h:=sq h b1 (λe=>q_6.1 (hnil e));ak<|aT h (λh=>ar 1<|al<|aq<|iI h▸E0) (λh=>ao<|ag<|aA<|aS [5] 2<|nJ h λhk h=>gb 5 1 (List.map (D.int .i64) (([]:List Int)++p0)) (bF) (cC hk)<|aS [5] 1<|ak<|al<|iI h▸E0))
def gT(fuel:Nat)(p0:(List Bool)):Option ((List Bool)):=
 I9 p0 λb1=>
 bif b1 then
  some ([]:List Bool)
 else
  ff (decide ((([]:List Bool)++p0).length<=room))<|
  some (([]:List Bool)++p0)
def Vt(x0:(List Bool)):SV:=.d (.list 1 (List.map D.bool x0))
theorem ue(h:gT fuel p0=some r):PC Tryz.prog 60 [.d (.list 1 (List.map D.bool p0))] (.own 1 (List.map D.bool r)):=by
 refine aW Tryz.func60 rfl λH=>?_
 unfold gT at h
 exact aI 8 H [(0,Vt p0)]<|ar 1<|an<|aA<|aX [] [0,3] 1<|qA (xs:=List.map D.bool p0) (d:=some 4) (e:=true) 8 H [0,4] (λb1=>[(0,Vt p0),(4,vB b1)]) κ (λ_=>by kernel_rfl) (λb1 hnil=>have h:=sq h b1 (λe=>q_6.1 (hnil e));ak<|aT h (λh=>ar 1<|al<|aq<|iI h▸E0) (λh=>ao<|ag<|aA<|aS [5] 2<|nJ h λhk h=>gb 5 1 (List.map D.bool (([]:List Bool)++p0)) (bF) (cC hk)<|aS [5] 1<|ak<|al<|iI h▸E0))
structure Entry where
 Row:(List Value)
 Key:Int
 Number:Int
 deriving DecidableEq,Inhabited
def ab(x:Entry):D:=.agg [.list 3 (List.map ay x.Row),.int .i64 x.Key,.int .i64 x.Number]
def yD(fuel:Nat)(p0:az)(p1:Int)(H:Hp):Option (((Option Nat)×Int)×Hp):=
 (vJ fuel p0).bind λr1=>
 bif (!r1)then
  some ((none,1),H)
 else
  bif ((decide (p1<3))||(decide (p1>32)))then
   some ((none,7),H)
  else
   (hZ fuel p0.aG).bind λr2=>
   (gT fuel p0.Down).bind λr3=>
   (nv H (.cells [.own 3 (List.map ab ([]:List Entry)),.own 1 (List.map cP.enc ([]:List (Option Nat)))])).bind λq4=>
   (nv q4.1 (.cells [.d (.list 1 (List.map (D.int .i64) r2)),.d (.list 1 (List.map D.bool r3)),.d (.int .i64 p0.eD),.d (.int .i64 p1),.d (.ptr q4.2 0),.d (.int .i64 0),.d (.int .i64 0)])).bind λq5=>
   some (((some q5.2),0),q5.1)
def VC(x0:(List Int))(x1:(List Bool))(x2:az):SV:=.box [.d (.list 1 (List.map (D.int .i64) x0)),.d (.list 1 (List.map D.bool x1)),vI x2.eD]
theorem At(h:yD fuel p0 p1 H=some r):SC Tryz.prog false 31 [.d (cD p0),vI p1] H (.iQ [.d (cP.enc r.1.1),vI r.1.2]) r.2:=by
 refine dr Tryz.func31 rfl ?_
 unfold yD at h
 exact aI 31 H [(0,Z2 p0),(1,vI p1)]<|ar 1<|an<|aM<|aA<|aa 1<|bI h λr1 hr h=>bJ (IJ hr)<|aa 2<|ak<|aT h (λh=>ar 1<|al<|aQ<|aq<|iI h▸E0) (λh=>aA<|aX [] [1,2,13] 3<|dO 31 H [1,2,16] 3 (decide (p1<3)) (λb=>(sp 31 [(1,vI p1),(2,Z1 p0),(13,vB b)] H)) (λb=>[(1,vI p1),(2,Z1 p0),(16,vB (b||(decide (p1>32))))]) κ κ κ<|aa 1<|ak<|aT h (λh=>ar 1<|al<|aQ<|aq<|iI h▸E0) (λh=>ao<|aR<|ag<|an<|bI h λr2 hr_2 h=>bI h λr3 hr_5 h=>aI 31 H [(1,vI p1),(2,Z1 p0)]<|gW 31 H [(1,vI p1),(2,VC r2 r3 p0)] [0,1] 8 3 κ κ κ (λX hX=>by subst hX;exact aB<|dp 31 H [1,2,18] [(1,vI p1),(2,Z1 p0),(18,UC p0)] κ<|dX<|nA [] [(2,eV _),(5,eV _),(7,eF 19),(9,eF 22)] ⟨Cn (rB hr_2),Cn (ue hr_5),zo,zo,trivial⟩) (ag<|aA<|aa 3<|bI h λq4 hq h=>w6 [(0,3,true),(1,1,true)] hq<|aa 1<|bI h λq5 hq h=>w6 [] hq<|aa 2<|ak<|al<|iI h▸E0)))
def dG:Cl az:=((cL 1 (cI .i64)).one.pair ((cL 1 cB).one.pair (cI .i64).one)).Ux (λp=>(⟨p.1,p.2.1,p.2.2⟩:az)) (λx=>(x.aG,x.Down,x.eD)) (λ_=>rfl) (λ_=>rfl)
def lx(fuel:Nat)(p0:Int)(p1:Int)(p2:Int):Option (Bool):=
 some ((decide (p0>=p1))&&(decide (p0<=p2)))
def Lf(x0:Value):SV:=.box [vI x0.Kind,vI x0.N,vS x0.S]
def JE(x0:Value):SV:=.d (.agg [.int .i64 x0.Kind,.int .i64 x0.N,.str x0.S])
theorem sE(h:lx fuel p0 p1 p2=some r):PC Tryz.prog 111 [vI p0,vI p1,vI p2] (vB r):=by
 refine aW Tryz.func111 rfl λH=>?_
 unfold lx at h
 exact aI 15 H [(0,vI p0),(1,vI p1),(2,vI p2)]<|ar 1<|aA<|aX [] [0,2,10] 4<|dO 15 H [14] 4 (decide (p0>=p1)) (λb=>(sp 15 [(0,vI p0),(2,vI p2),(10,vB b)] H)) (λb=>[(14,vB (b&&(decide (p0<=p2))))]) κ κ κ<|aa 1<|ak<|al<|iI h▸E0
def pq(fuel:Nat):Option (Unit):=
 some ()
theorem Br(h:pq fuel=some r):PC Tryz.prog 112 [] (.d (.agg [.fn (.func 124) [] [],.fn (.func 125) [] [],.fn (.func 126) [] []])):=by
 refine aW Tryz.func112 rfl λH=>?_
 unfold pq at h
 exact aI 2 H []<|ar 2<|al<|E0
def m6(fuel:Nat)(p0:Value):Option (Bool):=
 some false
def UB:SV:=.d (.agg [.fn (.func 124) [] [],.fn (.func 125) [] [],.fn (.func 126) [] []])
theorem xS(h:m6 fuel p0=some r):PC Tryz.prog 124 [.d (ay p0)] (vB r):=by
 refine aW Tryz.func124 rfl λH=>?_
 unfold m6 at h
 exact aI 3 H [(0,JE p0)]<|ar 2<|al<|iI h▸E0
def mZ(fuel:Nat)(p0:Value):Option (Bool):=
 bif (p0.S==[])then
  (lx fuel p0.N (-1000000000) 1000000000).bind λr1=>
  some r1
 else
  some false
theorem xR(h:mZ fuel p0=some r):PC Tryz.prog 125 [.d (ay p0)] (vB r):=by
 refine aW Tryz.func125 rfl λH=>?_
 unfold mZ at h
 exact aI 11 H [(0,JE p0)]<|ar 1<|aA<|aX [] [1,6] 4<|cn (λb=>(sp 11 [(1,Lf p0),(6,vB b)] H)) h (λh=>aa 2<|bI h λr1 hr h=>bJ (sE hr)<|aa 2<|ak<|al<|iI h▸E0) λh=>aa 5<|ak<|al<|iI h▸E0
def mY(fuel:Nat)(p0:Value):Option (Bool):=
 bif (p0.N==0)then
  some (decide ((p0.S.length:Int)<=40))
 else
  some false
theorem xQ(h:mY fuel p0=some r):PC Tryz.prog 126 [.d (ay p0)] (vB r):=by
 refine aW Tryz.func126 rfl λH=>?_
 unfold mY at h
 exact aI 12 H [(0,JE p0)]<|ar 1<|aA<|aX [] [1,6] 4<|cn (λb=>(sp 12 [(1,Lf p0),(6,vB b)] H)) h (λh=>aa 2<|aa 1<|aa 3<|ak<|al<|iI h▸E0) λh=>aa 6<|ak<|al<|iI h▸E0
def iM(fuel:Nat)(p0:Value):Option (Bool):=
 (lx fuel p0.Kind 0 2).bind λr1=>
 bif r1 then
  (pq fuel).bind λr2=>
  bif (p0.Kind==0)then
   (m6 fuel p0).bind λr3=>
   some r3
  else
   bif (p0.Kind==1)then
    (mZ fuel p0).bind λr4=>
    some r4
   else
    bif (p0.Kind==2)then
     (mY fuel p0).bind λr5=>
     some r5
    else
     none
 else
  some false
theorem vk(h:iM fuel p0=some r):PC Tryz.prog 91 [.d (ay p0)] (vB r):=by
 refine aW Tryz.func91 rfl λH=>?_
 unfold iM at h
 exact aI 14 H [(0,JE p0)]<|ar 1<|an<|fL<|aE 2<|bI h λr1 hr h=>fc (sE hr)<|dn [] [1,6] 1<|D8 r1 (λb=>(sp 14 [(1,Lf p0),(6,vB b)] H)) κ (λhc=>have h:=fh hc h;bI h λr2 hr h=>fc (Br hr)<|FB 14 H [] [1,6,7,9] 2 [(1,Lf p0),(6,vB true),(7,UB),(9,vI p0.Kind)] κ<|(by rcases hc:(p0.Kind==0)with _|_;replace h:=fi hc h;rcases hc:(p0.Kind==1)with _|_;replace h:=fi hc h;rcases hc:(p0.Kind==2)with _|_;replace h:=fi hc h;cases h;exact have h:=fh hc h;pd (λe=>(sp 14 [(1,Lf p0),(6,vB true),(7,UB),(9,vI e)] H)) κ hc<|aE 2<|bI h λr5 hr h=>fc (xQ hr)<|aE 2<|bG<|ag<|al<|iI h▸E0;exact have h:=fh hc h;pd (λe=>(sp 14 [(1,Lf p0),(6,vB true),(7,UB),(9,vI e)] H)) κ hc<|aE 2<|bI h λr4 hr h=>fc (xR hr)<|aE 2<|bG<|ag<|al<|iI h▸E0;exact have h:=fh hc h;pd (λe=>(sp 14 [(1,Lf p0),(6,vB true),(7,UB),(9,vI e)] H)) κ hc<|aE 2<|bI h λr3 hr h=>fc (xS hr)<|aE 2<|bG<|ag<|al<|iI h▸E0)) (λhc=>have h:=fi hc h;aE 8<|bG<|ag<|al<|iI h▸E0)
def pW(fuel:Nat)(p1:(List Value))(y1:(List Int)×(List Bool)×Int×Int):Option (((List Int)×(List Bool)×Int×Int)⊕((Unit)⊕((Bool)))):=
 bif (decide (y1.2.2.2<(p1.length:Int)))then
  (idx p1 y1.2.2.2).bind λx2=>
  (idx y1.1 y1.2.2.2).bind λx3=>
  bif (x2.Kind !=x3)then
   some (.inr (.inr false))
  else
   (iM fuel x2).bind λr4=>
   bif (!r4)then
    some (.inr (.inr false))
   else
    some (.inl (y1.1,y1.2.1,y1.2.2.1,(IntKind.wrap .i64 (y1.2.2.2+1))))
 else
  some (.inr (.inl ()))
def uY(fuel:Nat)(p0:az)(p1:(List Value)):Option (Bool):=
 bif ((p1.length:Int) !=(p0.aG.length:Int))then
  some false
 else
  (iter (pW fuel p1) fuel (p0.aG,p0.Down,p0.eD,0)).bind (Sum.elim (λv6=>
   some true) (λr7=>
   some r7))
def VB(x0:(List Int)×(List Bool)×Int×Int):SV:=.box [.d (.list 1 (List.map (D.int .i64) x0.1)),.d (.list 1 (List.map D.bool x0.2.1)),vI x0.2.2.1]
theorem xr(h:uY fuel p0 p1=some r):PC Tryz.prog 68 [.d (cD p0),.d (.list 3 (List.map ay p1))] (vB r):=by
 refine aW Tryz.func68 rfl λH=>?_
 unfold uY at h
 exact aI 34 H [(0,Z2 p0),(1,Z9 p1)]<|ar 1<|an<|aA<|aa 1<|ax (aJ (enc:=ay) (xs:=p1))<|aa 2<|ax (aJ (enc:=(D.int .i64)) (xs:=p0.aG))<|aa 1<|ak<|aT h (λh=>ar 1<|al<|aq<|iI h▸E0) (λh=>ao<|ag<|an<|aA<|aa 1<|ax (aJ (enc:=ay) (xs:=p1))<|aa 1<|ak<|aM<|bI h λz5 hit h=>fM 34 H [2,13,14,15] (λy1=>[(2,.box [.d (.list 1 (List.map (D.int .i64) y1.1)),.d (.list 1 (List.map D.bool y1.2.1)),vI y1.2.2.1]),(13,Z9 p1),(14,vI (p1.length:Int)),(15,vI y1.2.2.2)]) (λb e s=>((∃v6,b=(.inl v6)/\(e=.exit 0/\s=(sp 34 [] H)))\/(∃r7,b=(.inr r7)/\(e=.ret/\dw Tryz.prog Tryz.f68.results.toList H (vB r7) .ret s)))) hit κ (λy1 o h=>by unfold pW at h;exact ar 1<|an<|aT h (λh=>ao<|ag<|an<|aM<|aA<|aa 1<|bI h λx2 hx h=>ax (s:=bb none (ay x2).cells) (aD (n:=3) hx)<|aa 4<|ak<|an<|fL<|aE 5<|bI h λx3 hx h=>bn (s:=bb none (Go.Sh.D.cells ((D.int .i64) x3))) (aD (n:=1) hx)<|dn [] [2,6,13,14,15,28] 3<|dV (λb=>(sp 34 [(2,VB y1),(6,Lf x2),(13,Z9 p1),(14,vI (p1.length:Int)),(15,vI y1.2.2.2),(28,vB b)] H)) h (λh=>aE 4<|bG<|ag<|eS κ<|ar 1<|al<|aQ<|aq<|aq<|LR h (.inr (⟨false,rfl,rfl,dw.ret [] κ κ⟩))) λh=>aE 1<|bI h λr4 hr h=>fc (vk hr)<|aE 2<|bG<|ag<|aT h (λh=>ar 1<|al<|aQ<|aq<|aq<|LR h (.inr (⟨false,rfl,rfl,dw.ret [] κ κ⟩))) (λh=>ao<|aR<|ag<|ah<|aa 2<|af<|LQ h)) (λh=>aI 34 H []<|bT<|ba<|ba<|LR h (.inl ⟨(),rfl,rfl,rfl⟩))) (by rintro _ _ (⟨v6,rfl,rfl,rfl⟩|⟨r7,rfl,rfl,hE⟩);exact have h:=js h;bw<|ag<|ar 1<|al<|iI h▸E0;exact have h:=jr h;aQ<|aq<|(by cases h;exact hE)))
def FV(fuel:Nat)(p0:Int):Option (Bool):=
 some ((decide (p0>=1))&&(decide (p0<=1000000)))
theorem FU(h:FV fuel p0=some r):PC Tryz.prog 80 [vI p0] (vB r):=by
 refine aW Tryz.func80 rfl λH=>?_
 unfold FV at h
 exact aI 9 H [(0,vI p0)]<|ar 1<|aA<|aX [] [0,5] 3<|dO 9 H [8] 3 (decide (p0>=1)) (λb=>(sp 9 [(0,vI p0),(5,vB b)] H)) (λb=>[(8,vB (b&&(decide (p0<=1000000))))]) κ κ κ<|aa 1<|ak<|al<|iI h▸E0
def hU(fuel:Nat)(p0:Nat)(p1:(List Value))(p2:Int)(H:Hp):Option (Int):=
 (bE dG.cells H p0 0).bind λx1=>
 (uY fuel x1 p1).bind λr2=>
 bif (!r2)then
  some 1
 else
  (FV fuel p2).bind λr3=>
  bif (!r3)then
   some 1
  else
   some 0
def K37:=λa0 a1 a2 (t:SL)=>((0,.d (.ptr a0 0))::(1,Z9 a1)::(2,vI a2)::t:SL)
theorem nF(h:hU fuel p0 p1 p2 H=some r):SC Tryz.prog true 51 [.d (.ptr p0 0),.d (.list 3 (List.map ay p1)),vI p2] H (vI r) H:=by
 refine fT Tryz.func51 rfl ?_
 unfold hU at h
 exact aI 23 H (K37 p0 p1 p2 [])<|ar 1<|an<|aA<|aa 6<|bI h λx1 hx h=>ax (s:=.d (.agg [.list 1 (List.map (D.int .i64) x1.aG),.list 1 (List.map D.bool x1.Down),.int .i64 x1.eD])) (aF hx)<|aa 1<|bI h λr2 hr h=>bJ (xr hr)<|aX [] [2,18] 3<|cn (λb=>(sp 23 [(2,vI p2),(18,vB b)] H)) h (λh=>aa 4<|ak<|eS κ<|ar 1<|al<|aq<|iI h▸E0) λh=>aa 1<|bI h λr3 hr h=>bJ (FU hr)<|aa 2<|ak<|aT h (λh=>ar 1<|al<|aq<|iI h▸E0) (λh=>ao<|ag<|ar 1<|al<|iI h▸E0)
def oL(fuel:Nat)(p0:Nat)(H:Hp):Option (Unit):=
 some ()
def TW(x0:(List Value)):SV:=.box [.d (.list 3 (List.map ay x0))]
def O7(x0:Nat):SV:=.d (.fn (.func 78) [] [.fV [.ptr x0 0]])
theorem pF(h:oL fuel p0 H=some r):SC Tryz.prog true 50 [.d (.ptr p0 0)] H (.d (.fn (.func 78) [] [.fV [.ptr p0 0]])) H:=by
 refine fT Tryz.func50 rfl ?_
 unfold oL at h
 exact aI 4 H [(0,.d (.ptr p0 0))]<|aA<|Cg 4 H (d:=1) (ds:=[.ptr p0 0]) [1] [(1,.d (.fV [.ptr p0 0]))] κ κ<|aa 1<|ak<|ar 1<|al<|E0
def cT(fuel:Nat)(p0:Nat)(H:Hp):Option (Bool):=
 (bL 1 cP H p0 1).bind λx1=>
 some ((x1.length:Int)==0)
theorem eJ(h:cT fuel p0 H=some r):SC Tryz.prog true 42 [.d (.ptr p0 0)] H (vB r) H:=by
 refine fT Tryz.func42 rfl ?_
 unfold cT at h
 exact aI 9 H [(0,.d (.ptr p0 0))]<|ar 1<|aA<|aa 3<|bI h λx1 hx h=>ax (aY hx)<|ax (aJ (enc:=cP.enc) (xs:=x1))<|aa 2<|ak<|al<|iI h▸E0
def QO:Cl Value:=((cI .i64).one.pair ((cI .i64).one.pair cS.one)).Ux (λp=>(⟨p.1,p.2.1,p.2.2⟩:Value)) (λx=>(x.Kind,x.N,x.S)) (λ_=>rfl) (λ_=>rfl)
def vw:Cd Value:=QO.agg
def px:Cl Entry:=((cL 3 vw).one.pair ((cI .i64).one.pair (cI .i64).one)).Ux (λp=>(⟨p.1,p.2.1,p.2.2⟩:Entry)) (λx=>(x.Row,x.Key,x.Number)) (λ_=>rfl) (λ_=>rfl)
def aP:Cd Entry:=px.agg
def dY(fuel:Nat)(Y:Entry->Hp->Option (Bool×Hp))(rc:Nat->Hp->Option (Bool×Hp))(p:Nat)(n:Int)(x:Int×Hp):Option ((Int×Hp)⊕(Bool×Hp)):=
 cond (decide (x.1<n))
  ((cT fuel p x.2).bind λlf=>
  (cond lf (some (true,x.2)) ((bL 1 cP x.2 p 1).bind λks=>(idx ks x.1).bind λk=>k.bind λk=>rc k x.2)).bind λq=>
  cond q.1
   ((bL 3 aP q.2 p 0).bind λes=>
   cond (decide (x.1<(es.length:Int)))
    ((idx es x.1).bind λe=>(Y e q.2).bind λy=>cond y.1 (some (.inl (IntKind.wrap .i64 (x.1+1),y.2))) (some (.inr (false,y.2))))
    (some (.inl (IntKind.wrap .i64 (x.1+1),q.2))))
   (some (.inr (false,q.2))))
  (some (.inr (true,x.2)))
def gw(fuel:Nat)(Y:Entry->Hp->Option (Bool×Hp)):Nat->Nat->Hp->Option (Bool×Hp)
 |0,_,_=>none
 |s+1,p,H=>(bL 3 aP H p 0).bind λes=>iter (dY fuel Y (gw fuel Y s) p (IntKind.wrap .i64 ((es.length:Int)+1))) fuel (0,H)
def xu(fuel:Nat)(Y:Entry->Hp->Option (Bool×Hp))(p:Nat)(H:Hp):Option (Bool×Hp):=gw fuel Y fuel p (H++[.hole])
def zX(l i:Nat):D:=.fn (.func 79) [] [.ptr i 0,.fV [.fn (.yield l) [] []]]
def yd(l:Nat):D:=.fV [.fn (.yield l) [] []]
end
section
variable {fuel l i:Nat} {Y:Entry->Hp->Option (Bool×Hp)} {R:Loop} {jc:Code} {ds:List (Nat×D)}
def K4:=λa0 a1 a2 (t:SL)=>((0,.d (.ptr a0 0))::(1,.d (.ptr a1 0))::(2,.d (yd a2))::(4,vB false)::t:SL)
def K17:=λa0 a1 (t:SL)=>((0,.d (.ptr a0 0))::(1,.d (.ptr a1 0))::t:SL)
def K19:=λa0 a1 a2 a3 a4 a5 (t:SL)=>((0,.d (.ptr a0 0))::(1,.d (.ptr a1 0))::(2,.d (yd a2))::(4,vB false)::(5,vI a3)::(12,vI a4)::(13,vI a5)::t:SL)
def K20:=λa0 a1 a2 a3 a4 (t:SL)=>((0,.d (.ptr a0 0))::(1,.d (.ptr a1 0))::(2,.d (yd a2))::(4,vB false)::(12,vI a3)::(13,vI a4)::(31,vB false)::(40,vB true)::t:SL)
theorem IG(hY: ∀x H q,Y x H=some q->RJ Tryz.prog l (CL l R jc ds []) [.d (ab x)] H q.2 q.1): ∀(s p:Nat) (H:Hp) (q:Bool×Hp),gw fuel Y s p H=some q->
  PU Tryz.prog l (CL l R jc ds [(i,zX l i)]) 79 [.d (.ptr p 0),.d (.ptr i 0),.d (yd l)] H q.2 q.1 (λv=>v=.bool q.1):=by
 intro s
 have hC: ∀b,M4 (CL l R jc ds [(i,zX l i)] b):=λb=>CL.fr
 induction s with
 |zero=>intro p H q h;cases h
 |succ s ih=>
  intro p H q h
  unfold gw at h
  obtain⟨es0,hx0,hit⟩:=bS h
  refine HR Tryz.func79 rfl rfl<|wX 55 H [0,1,2] (K17 p i [(2,.d (yd l))]) κ<|gX<|iu hC<|ah<|
   aK 1 (K4 p i l [])<|af<|iX<|gX<|gX<|iu hC<|ah<|
   aK 4 (K4 p i l [(9,.d (.ptr p 0))])<|
   bB (d:=some 10) (s:=.cq (.au p 0) 3 (List.map aP.enc es0)) (K4 p i l [(10,.cq (.au p 0) 3 (List.map aP.enc es0))]) (aY (c:=aP) hx0 κ)<|
   bB (d:=some 11) (K4 p i l [(11,vI (es0.length:Int))]) (aJ (enc:=aP.enc) (xs:=es0) κ)<|
   aK 2 (K4 p i l [(12,vI (IntKind.wrap .i64 ((es0.length:Int)+1))),(13,vI 0)])<|af<|iX<|B7 ?_
  generalize IntKind.wrap .i64 ((es0.length:Int)+1)=n at hit ⊢
  clear hx0 h
  refine Pj 55 [0,1,2,4,12,13] (λx:Int×Hp=>(K4 p i l [(12,vI n),(13,vI x.1)])) (λx=>x.2)
   (λ(r:Bool×Hp) b' e s=>(r.1=true/\b'=true/\e=.exit 0/\s=sp 55 [] r.2)\/(r.1=false/\b'=false/\e=.ret/\s.H=r.2/\s.tmps[4]? =some (vB false))) hit κ (λx o ho=>?_) (λb' e s hh=>?_)
  .obtain⟨c,H⟩:=x
   unfold dY at ho
   simp only at ho
   refine gX<|iu hC<|ah<|aK 1 (K4 p i l [(12,vI n),(13,vI c),(14,vB (decide (c<n)))])<|af<|iX<|gX<|yj (v:=decide (c<n)) κ ?_
   cases hd:decide (c<n)with
   |false=>
    rw[hd]at ho
    simp only[cond_false,g_2]at ho
    refine wX 55 H [] [] κ<|iu hC λa w g hr=>wp_exit ⟨_,g,?_,hr,Fr.refl _ _ _⟩
    exact⟨(true,H),ho.symm,.inl ⟨rfl,rfl,rfl,rfl⟩⟩
   |true=>
    rw[hd]at ho
    simp only[cond_true]at ho
    obtain⟨lf,hlf,ho1⟩:=bS ho
    clear ho
    obtain⟨q1,hq1,ho⟩:=bS ho1
    clear ho1
    refine wX 55 H [0,1,2,4,12,13] (K4 p i l [(12,vI n),(13,vI c)]) κ<|iu hC λa w g hr=>wp_skip ⟨_,g,?_,hr,Fr.refl _ _ _⟩
    refine iX<|gX<|B7<|gX<|iu hC<|ah<|aK 2 (K19 p i l c n c [])<|af<|iX<|gX<|wW κ hC ?_
    generalize hK:(λb' s=>J7 (λb' s=>Fo Tryz.prog l (CL l R jc ds [(i,zX l i)]) b' _ s _) _ b' Exit.normal s)=K
    have hgo: ∀H',o=.inl (IntKind.wrap .i64 (c+1),H')->K true (sp 55 (K4 p i l [(12,vI n),(13,vI c),(53,vB false)]) H'):=λH' e=>by
     subst e
     rw[<-hK]
     refine iX<|yj (v:=false) κ<|iu hC λa w g hr=>wp_skip ⟨_,g,?_,hr,Fr.refl _ _ _⟩
     refine OP<|iX<|iu hC<|ah<|aK 2 (K4 p i l [(12,vI n),(13,vI (IntKind.wrap .i64 (c+1)))])<|af ?_
     exact⟨rfl,_,rfl,κ⟩
    have hleave: ∀H',o=.inr (false,H')->K false (sp 55 [(53,vB true)] H'):=λH' e=>by
     subst e
     rw[<-hK]
     refine iX<|yj (v:=true) κ<|gX<|iu hC<|ah<|aK 1 [(4,vB false)]<|af<|iX<|iu hC λa w g hr=>wp_ret ⟨_,g,?_,hr,Fr.refl _ _ _⟩
     exact⟨(false,H'),rfl,.inr ⟨rfl,rfl,rfl,rfl,κ⟩⟩
    clear hK
    refine Q8 (b:=true) (λH2=>((bL 3 aP H2 p 0).bind λes=>
      cond (decide (c<(es.length:Int)))
       ((idx es c).bind λe=>(Y e H2).bind λy=>cond y.1 (some (.inl (IntKind.wrap .i64 (c+1),y.2))) (some (.inr (false,y.2))))
       (some (.inl (IntKind.wrap .i64 (c+1),H2))))=some o) 22 65535 55 (K19 p i l c n c [(31,vB false)]) (λH2 h2=>?_) λpart2=>?_
    .skip
     obtain⟨es,hx,h2⟩:=bS h2
     refine gg (d':=17) [16,17,18,19,20] (K19 p i l c n c [(31,vB false),(32,vI c),(36,.d (.ptr p 0))])<|qF 21 hC<|bB (d:=some 37) (s:=.cq (.au p 0) 3 (List.map aP.enc es)) (K19 p i l c n c [(31,vB false),(32,vI c),(37,.cq (.au p 0) 3 (List.map aP.enc es))]) (aY (c:=aP) hx κ)<|af<|
      qF 22 hC<|bB (d:=some 38) (K19 p i l c n c [(31,vB false),(32,vI c),(38,vI (es.length:Int))]) (aJ (enc:=aP.enc) (xs:=es) κ)<|af<|gg (d':=13) [23,24] (K19 p i l c n c [(31,vB false),(40,vB (decide (c<(es.length:Int))))]) ?_
     cases hd2:decide (c<(es.length:Int))with
     |false=>
      rw[hd2]at h2
      simp only[cond_false,g_2]at h2
      exact gg (d':=0) [25,26,27,28,29,30,31,32,33,34,35,36,37] (K4 p i l [(12,vI n),(13,vI c),(53,vB false)])<|kN κ (hgo H2 h2.symm)
     |true=>
      rw[hd2]at h2
      simp only[cond_true]at h2
      obtain⟨e,he,h2⟩:=bS h2
      obtain⟨y,hy,h2⟩:=bS h2
      refine b9 (b:=true) (H:=H2) 4 17179869183 55 (K20 p i l n c [(41,.d (.fn (.yield l) [] [])),(49,.d (ab e))]) ?_ λhABC=>?_
      .refine bx (i0:=34) (is:=[]) κ ⟨qx.yield (dd:=some 50) 55 [0,1,2,4,12,13,31,40,50] (K20 p i l n c [(50,vB y.1)]) κ (MB (hY e H2 y hy)) κ κ ?_,trivial⟩
       cases hyb:y.1 with
       |true=>
        rw[hyb]at h2
        simp only[cond_true,g_2]at h2
        exact gg (d':=0) [35,36,37] (K4 p i l [(12,vI n),(13,vI c),(53,vB false)])<|kN κ (hgo y.2 h2.symm)
       |false=>
        rw[hyb]at h2
        simp only[cond_false,g_2]at h2
        exact gg (d':=0) [35,36,37] [(53,vB true)]<|kN κ (hleave y.2 h2.symm)
      refine b9 (b:=true) (H:=H2) 5 8589934591 55 (K20 p i l n c [(41,.d (.fn (.yield l) [] [])),(48,.eW (.au p 0) (ab e).cells)]) (qF 33 hC<|aK 1 (K20 p i l n c [(41,.d (.fn (.yield l) [] [])),(49,.d (ab e))])<|af<|nf hABC) λhAB=>?_
      refine gg (d':=8) [26,27,28,29,31] (K20 p i l n c [(45,.d (.ptr p 0)),(47,vI c)])<|bx (i0:=25) (is:=[30]) κ ⟨bf (aK 1 (K20 p i l n c [(41,.d (.fn (.yield l) [] [])),(45,.d (.ptr p 0)),(47,vI c)])<|af ?_) hC,bf (bB (d:=some 46) (s:=.cq (.au p 0) 3 (List.map aP.enc es)) (K20 p i l n c [(46,.cq (.au p 0) 3 (List.map aP.enc es)),(47,vI c)]) (aY (c:=aP) hx κ)<|af ?_) hC,trivial⟩
      .refine qF 30 hC<|bB (d:=some 46) (s:=.cq (.au p 0) 3 (List.map aP.enc es)) (K20 p i l n c [(41,.d (.fn (.yield l) [] [])),(46,.cq (.au p 0) 3 (List.map aP.enc es)),(47,vI c)]) (aY (c:=aP) hx κ)<|af<|Li (dd:=some 48) (s:=.eW (.au p 0) (ab e).cells) 32 (K20 p i l n c [(41,.d (.fn (.yield l) [] [])),(48,.eW (.au p 0) (ab e).cells)]) (aD (enc:=aP.enc) (l:=some (.au p 0)) (n:=3) he κ)<|nf hAB
      .refine Li (dd:=some 48) (s:=.eW (.au p 0) (ab e).cells) 32 (K20 p i l n c [(48,.eW (.au p 0) (ab e).cells)]) (aD (enc:=aP.enc) (l:=some (.au p 0)) (n:=3) he κ)<|bx (i0:=25) (is:=[33]) κ ⟨bf (aK 1 (K20 p i l n c [(41,.d (.fn (.yield l) [] [])),(48,.eW (.au p 0) (ab e).cells)])<|af<|nf hAB) hC,bf (aK 1 (K20 p i l n c [(49,.d (ab e))])<|af ?_) hC,trivial⟩
       exact qF 25 hC<|aK 1 (K20 p i l n c [(41,.d (.fn (.yield l) [] [])),(49,.d (ab e))])<|af<|nf hABC
    refine gg (d':=37) [0] (K19 p i l c n c [(16,.d (.ptr p 0))])<|qF 1 hC<|gd (ls:=[]) (some 17) (K19 p i l c n c [(17,vB lf)]) (eJ hlf)<|af<|gg (d':=34) [2,3] (K19 p i l c n c [(19,vB (!lf))]) ?_
    cases lf with
    |true=>
     simp only[cond_true,g_2]at hq1
     subst hq1
     simp only[cond_true]at ho
     exact gg (d':=22) [4,5,6,7,8,9,10,11,12,13,14,15] (K19 p i l c n c [(31,vB false)])<|nf (part2 H ho)
    |false=>
     simp only[cond_false]at hq1
     obtain⟨ks,hks,hq1⟩:=bS hq1
     obtain⟨k0,hk,hq1⟩:=bS hq1
     obtain⟨k,rfl,hq1⟩:=bS hq1
     refine b9 (b:=true) (H:=H) 26 4095 55 (K19 p i l c n c [(19,vB true),(20,.d (zX l i)),(27,.d (.ptr k 0))]) ?_ λhABC=>?_
     .refine bx (i0:=12) (is:=[]) κ ⟨qx.call (dd:=some 28) 55 [0,1,2,4,5,12,13,19,28] (K19 p i l c n c [(19,vB true),(28,vB q1.1)]) (ih k H q1 hq1) κ κ κ ?_,trivial⟩
      cases hqb:q1.1 with
      |true=>
       rw[hqb]at ho
       simp only[cond_true]at ho
       exact gg (d':=22) [13,14,15] (K19 p i l c n c [(31,vB false)])<|nf (part2 q1.2 ho)
      |false=>
       rw[hqb]at ho
       simp only[cond_false,g_2]at ho
       exact gg (d':=0) [13,14,15,16,17,18,19,20,21,22,23,24,25,26,27,28,29,30,31,32,33,34,35,36,37] [(53,vB true)]<|kN κ (hleave q1.2 ho.symm)
     refine b9 (b:=true) (H:=H) 27 2047 55 (K19 p i l c n c [(19,vB true),(20,.d (zX l i)),(26,.eW (.au p 1) [cP.enc (some k)])]) (qF 11 hC<|aK 1 (K19 p i l c n c [(19,vB true),(20,.d (zX l i)),(27,.d (.ptr k 0))])<|af<|nf hABC) λhAB=>?_
     refine gg (d':=30) [5,6,7,9] (K19 p i l c n c [(19,vB true),(23,.d (.ptr p 1)),(25,vI c)])<|bx (i0:=4) (is:=[8]) κ ⟨rr (dd:=some 20) (j:=i) (y:=zX l i) κ (.head _)<|Ci 55 H [0,1,2,4,5,12,13,19,20,23,25] (K19 p i l c n c [(19,vB true),(20,.d (zX l i)),(23,.d (.ptr p 1)),(25,vI c)]) κ ?_,bf (bB (d:=some 24) (s:=.cq (.au p 1) 1 (List.map cP.enc ks)) (K19 p i l c n c [(19,vB true),(24,.cq (.au p 1) 1 (List.map cP.enc ks)),(25,vI c)]) (aY (c:=cP) hks κ)<|af ?_) hC,trivial⟩
     .refine qF 8 hC<|bB (d:=some 24) (s:=.cq (.au p 1) 1 (List.map cP.enc ks)) (K19 p i l c n c [(19,vB true),(20,.d (zX l i)),(24,.cq (.au p 1) 1 (List.map cP.enc ks)),(25,vI c)]) (aY (c:=cP) hks κ)<|af<|Li (dd:=some 26) (s:=.eW (.au p 1) [cP.enc (some k)]) 10 (K19 p i l c n c [(19,vB true),(20,.d (zX l i)),(26,.eW (.au p 1) [cP.enc (some k)])]) (cz (l:=some (.au p 1)) (n:=1) hk κ)<|nf hAB
     .refine Li (dd:=some 26) (s:=.eW (.au p 1) [cP.enc (some k)]) 10 (K19 p i l c n c [(19,vB true),(26,.eW (.au p 1) [cP.enc (some k)])]) (cz (l:=some (.au p 1)) (n:=1) hk κ)<|bx (i0:=4) (is:=[11]) κ ⟨rr (dd:=some 20) (j:=i) (y:=zX l i) κ (.head _)<|Ci 55 H [0,1,2,4,5,12,13,19,20,26] (K19 p i l c n c [(19,vB true),(20,.d (zX l i)),(26,.eW (.au p 1) [cP.enc (some k)])]) κ<|nf hAB,bf (aK 1 (K19 p i l c n c [(19,vB true),(27,.d (.ptr k 0))])<|af ?_) hC,trivial⟩
      exact bx (i0:=4) (is:=[]) κ ⟨rr (dd:=some 20) (j:=i) (y:=zX l i) κ (.head _)<|Ci 55 H [0,1,2,4,5,12,13,19,20,27] (K19 p i l c n c [(19,vB true),(20,.d (zX l i)),(27,.d (.ptr k 0))]) κ<|nf hABC,trivial⟩
  .rcases hh with⟨h1,rfl,rfl,rfl⟩|⟨h1,rfl,rfl,h2,h3⟩
   .refine OO<|iX<|gX<|iu hC<|ah<|aK 1 [(4,vB true)]<|af<|iX<|iu hC λa w g hr=>wp_ret ⟨_,g,?_,hr,Fr.refl _ _ _⟩
    exact⟨h1.symm,.inr rfl,rfl,by rw[h1];kernel_rfl⟩
   .exact⟨h1.symm,.inr rfl,h2,by rw[h1];exact h3⟩
theorem Dy(H:Hp)(y z:D):GR (H++[.cells [.d z]]) H.length 0 [y]=some (H++[.cells [.d y]]):=by
 have:lW (H++[aN.cells [SV.d z]]) H.length=some [SV.d z]:=by simp[lW]
 simp[GR,this,setCells]
theorem C4(hY: ∀x H q,Y x H=some q->RJ Tryz.prog l (CL l R jc ds []) [.d (ab x)] H q.2 q.1){p:Nat}{H:Hp}{q:Bool×Hp}(h:xu fuel Y p H=some q):
  PU Tryz.prog l (CL l R jc ds []) 78 [.d (.fn (.yield l) [] []),.d (.fV [.ptr p 0])] H q.2 q.1 (λ_=>True):=by
 have hC: ∀b,M4 (CL l R jc ds [] b):=λb=>CL.fr
 have hC2: ∀b,M4 (CL l R jc ds [(H.length,zX l H.length)] b):=λb=>CL.fr
 refine Fp Tryz.func78 rfl rfl<|wX 8 H [0,1] [(0,.d (.fn (.yield l) [] [])),(1,.d (.fV [.ptr p 0]))] κ<|gX<|iu hC<|ah<|
  Cg 8 H (d:=2) (ds:=[.fn (.yield l) [] []]) [1,2] [(1,.d (.fV [.ptr p 0])),(2,.d (yd l))] κ κ<|af<|iX<|gX<|iu hC<|ah<|
  qB (n:=8) (H:=H++[.cells [.d .lu]]) (d:=some 3) (b:=false) [] [1,2,3] [(1,.d (.fV [.ptr p 0])),(2,.d (yd l)),(3,.d (.ptr H.length 0))] (q:=(H++[.cells [.d .lu]],H.length)) rfl κ rfl κ<|af<|iX<|gX<|iu hC<|ah<|
  aK 1 [(1,.d (.fV [.ptr p 0])),(2,.d (yd l)),(3,.d (.ptr H.length 0)),(4,.d (zX l H.length))]<|
  D6 (n:=8) (H0:=H++[.cells [.d .lu]]) (H:=H++[.cells [.d (zX l H.length)]]) (y:=zX l H.length) (i:=H.length) (off:=0) [1,3] [(1,.d (.fV [.ptr p 0])),(3,.d (.ptr H.length 0))] (Dy H _ _) κ κ<|af<|iX<|
  MF H.length (zX l H.length) 8 (H++[.hole]) [1,3] [(1,.d (.fV [.ptr p 0])),(3,.d (.ptr H.length 0))] (by simp[sp]) κ ?_<|Fm<|
  yu κ<|rr (dd:=some 5) (j:=H.length) (y:=zX l H.length) κ (.head _)<|Q7 8 (H++[.hole]) [1,5] [(1,.d (.fV [.ptr p 0])),(5,.d (zX l H.length))] κ<|
  yu κ<|bf (aK 1 [(5,.d (zX l H.length)),(6,.d (.ptr p 0))]<|af ?_) hC2
 .have e:(H++[aN.cells [SV.d (zX l H.length)]]).set H.length .hole=H++[.hole]:=by simp
  show bu 8 [1,3] ⟨_,(H++[aN.cells [SV.d (zX l H.length)]]).set H.length .hole⟩=_
  rw[e]
  kernel_rfl
 .refine yu κ<|qx.call (dd:=some 7) 8 [7] [(7,vB q.1)] (IG hY fuel p _ q h) κ κ κ<|Pv κ ⟨rfl,.inl rfl,rfl⟩
def lJ(fuel:Nat)(Y:Entry->Hp->Option Hp)(p:Option Nat)(H:Hp):Option Hp:=p.bind λp=>(xu fuel (λe H=>(Y e H).map (Prod.mk true)) p H).bind λq=>cond q.1 (some q.2) none
theorem zp{fuel:Nat}{Y:Entry->Hp->Option Hp}{p:Option Nat}{H r:Hp}{l:Nat}{R:Loop}{ds:List (Nat×D)}(hC:M4 (tw l R ds))(hY: ∀x H H',Y x H=some H'->YB Tryz.prog (tw l R ds) l [.d (ab x)] H H')(h:lJ fuel Y p H=some r):
  UE Tryz.prog (tw l R ds) 78 (.d (.fn (.yield l) [] [])::[.d (.fV [cP.enc p])]) H r:=by
 unfold lJ at h
 obtain⟨p,rfl,h1⟩:=bS h
 obtain⟨⟨b,H'⟩,hq,h2⟩:=bS h1
 cases b with
 |false=>cases h2
 |true=>
  cases h2
  refine HS (jc:=.skip) (C4 (λx H q hq=>?_) hq)
  simp only[g_4]at hq
  obtain⟨H2,h2,rfl⟩:=hq
  exact JF (hY x H H2 h2)
def mW(fuel:Nat)(Y:Entry->Hp->Option (Bool×Hp))(p:Option Nat)(H:Hp):Option (Bool×Hp):=p.bind λp=>xu fuel Y p H
theorem pV{fuel:Nat}{Y:Entry->Hp->Option (Bool×Hp)}{p:Option Nat}{H:Hp}{q:Bool×Hp}{l:Nat}{R:Loop}{jc:Code}{ds:List (Nat×D)}(hY: ∀x H q,Y x H=some q->RJ Tryz.prog l (CL l R jc ds []) [.d (ab x)] H q.2 q.1)(h:mW fuel Y p H=some q):
  PU Tryz.prog l (CL l R jc ds []) 78 (.d (.fn (.yield l) [] [])::[.d (.fV [cP.enc p])]) H q.2 q.1 (λ_=>True):=by
 unfold mW at h
 obtain⟨p,rfl,h1⟩:=bS h
 exact C4 hY h1
end
def pG(fuel:Nat):Option (Unit):=
 some ()
def me(x0:Entry):SV:=.box [.d (.list 3 (List.map ay x0.Row)),vI x0.Key,vI x0.Number]
def uk(x0:Entry):SV:=.d (.list 3 (List.map ay x0.Row))
def BU(x0:(Hp×Nat))(x1:(List Value)):SV:=.cq (.au x0.2 0) 3 (List.map ay x1)
def UQ:SV:=.box [.d (.fn (.func 96) [] []),.d (.fn (.func 97) [] []),.d (.fn (.func 98) [] []),.d (.fn (.func 100) [] [])]
section
attribute [local irreducible] cf jj lh lH SW uS
theorem xt(h:pG fuel=some r):PC Tryz.prog 81 [] (.d (.agg [.fn (.func 96) [] [],.fn (.func 97) [] [],.fn (.func 98) [] [],.fn (.func 100) [] []])):=by
 refine aW Tryz.func81 rfl λH=>?_
 unfold pG at h
 exact aI 2 H []<|ar 2<|al<|E0
def kG(fuel:Nat)(p0:Value)(p1:Value):Option (Int):=
 some (IntKind.wrap .i64 (p0.N - p1.N))
theorem u9(h:kG fuel p0 p1=some r):PC Tryz.prog 96 [.d (ay p0),.d (ay p1)] (vI r):=by
 refine aW Tryz.func96 rfl λH=>?_
 unfold kG at h
 exact aI 10 H [(0,JE p0),(1,JE p1)]<|ar 2<|al<|iI h▸E0
def kF(fuel:Nat)(p0:Value)(p1:Value):Option (Int):=
 some (IntKind.wrap .i64 (p1.N - p0.N))
theorem u7(h:kF fuel p0 p1=some r):PC Tryz.prog 97 [.d (ay p0),.d (ay p1)] (vI r):=by
 refine aW Tryz.func97 rfl λH=>?_
 unfold kF at h
 exact aI 10 H [(0,JE p0),(1,JE p1)]<|ar 2<|al<|iI h▸E0
end
theorem rN(a b:ByteArray)(w:World):
  Calls Tryz.prog 113 #[.string a,.string b] w λe w'=>e=.returned (.int .i64 (Lib.compareBytes a.data.toList b.data.toList))/\w'=w:=by
 go_enter Tryz.func113,Tryz.ntmps113
 go_wp2
 rw[run_callFunc_extern Tryz.func127 κ κ κ (e:=Extern.BytealgCompare.compare) κ,Lib.run_compareString]
 simp only[Result.andThen]
 rw[Oper.upon_value]
 go_wp2
 go_ret
 exact⟨rfl,rfl⟩
theorem QM(h:Sx fuel p0 p1=some r):PC Tryz.prog 113 [vS p0,vS p1] (vI r):=QL h rN
def kJ(fuel:Nat)(p0:(List UInt8))(p1:(List UInt8)):Option (Int):=
 (Sx fuel p0 p1).bind λr1=>
 some r1
section
attribute [local irreducible] cf jj lh lH SW uS
theorem oN(h:kJ fuel p0 p1=some r):PC Tryz.prog 99 [vS p0,vS p1] (vI r):=by
 refine aW Tryz.func99 rfl λH=>?_
 unfold kJ at h
 exact aI 8 H [(0,vS p0),(1,vS p1)]<|ar 1<|aA<|aa 2<|bI h λr1 hr h=>bJ (QM hr)<|aa 1<|ak<|al<|iI h▸E0
def kE(fuel:Nat)(p0:Value)(p1:Value):Option (Int):=
 (kJ fuel p0.S p1.S).bind λr1=>
 some r1
theorem u6(h:kE fuel p0 p1=some r):PC Tryz.prog 98 [.d (ay p0),.d (ay p1)] (vI r):=by
 refine aW Tryz.func98 rfl λH=>?_
 unfold kE at h
 exact aI 10 H [(0,JE p0),(1,JE p1)]<|ar 1<|aA<|aa 4<|bI h λr1 hr h=>bJ (oN hr)<|aa 1<|ak<|al<|iI h▸E0
def kD(fuel:Nat)(p0:Value)(p1:Value):Option (Int):=
 (kJ fuel p1.S p0.S).bind λr1=>
 some r1
theorem uZ(h:kD fuel p0 p1=some r):PC Tryz.prog 100 [.d (ay p0),.d (ay p1)] (vI r):=by
 refine aW Tryz.func100 rfl λH=>?_
 unfold kD at h
 exact aI 10 H [(0,JE p0),(1,JE p1)]<|ar 1<|aA<|aa 4<|bI h λr1 hr h=>bJ (oN hr)<|aa 1<|ak<|al<|iI h▸E0
def pU(fuel:Nat)(p0:az)(p1:(List Value))(p2:(List Value))(y2:Int):Option ((Int)⊕((Unit)⊕((Int)))):=
 bif (decide (y2<(p0.aG.length:Int)))then
  (idx p0.aG y2).bind λx3=>
  bz (λ(j4:Int)=>
   bif (j4==0)then
    (idx p1 y2).bind λx7=>
    (idx p2 y2).bind λx8=>
    (kG fuel x7 x8).bind λr9=>
    bif (r9 !=0)then
     some (.inr (.inr r9))
    else
     some (.inl (IntKind.wrap .i64 (y2+1)))
   else
    bif (j4==1)then
     (idx p1 y2).bind λx10=>
     (idx p2 y2).bind λx11=>
     (kF fuel x10 x11).bind λr12=>
     bif (r12 !=0)then
      some (.inr (.inr r12))
     else
      some (.inl (IntKind.wrap .i64 (y2+1)))
    else
     bif (j4==2)then
      (idx p1 y2).bind λx13=>
      (idx p2 y2).bind λx14=>
      (kE fuel x13 x14).bind λr15=>
      bif (r15 !=0)then
       some (.inr (.inr r15))
      else
       some (.inl (IntKind.wrap .i64 (y2+1)))
     else
      bif (j4==3)then
       (idx p1 y2).bind λx16=>
       (idx p2 y2).bind λx17=>
       (kD fuel x16 x17).bind λr18=>
       bif (r18 !=0)then
        some (.inr (.inr r18))
       else
        some (.inl (IntKind.wrap .i64 (y2+1)))
      else
       none) λjp5=>
  (idx p0.Down y2).bind λx6=>
  bif x6 then
   jp5 (IntKind.wrap .i64 ((IntKind.wrap .i64 (2 * (IntKind.wrap .i64 (x3 - 1))))+1))
  else
   jp5 (IntKind.wrap .i64 (2 * (IntKind.wrap .i64 (x3 - 1))))
 else
  some (.inr (.inl ()))
def pE(fuel:Nat)(p0:az)(p1:(List Value))(p2:(List Value)):Option (Int):=
 (pG fuel).bind λr1=>
 (iter (pU fuel p0 p1 p2) fuel 0).bind (Sum.elim (λv20=>
  some 0) (λr21=>
  some r21))
def K35:=λa0 a1 a2 a3 a4 a5 a6 a7 (t:SL)=>((1,Z9 a0)::(2,Z9 a1)::(3,Z1 a2)::(7,UQ)::(8,vI a3)::(14,UC a4)::(15,U5 a5)::(16,vI a6)::(31,vI a7)::t:SL)
theorem oe(h:pE fuel p0 p1 p2=some r):PC Tryz.prog 52 [.d (cD p0),.d (.list 3 (List.map ay p1)),.d (.list 3 (List.map ay p2))] (vI r):=by
 refine aW Tryz.func52 rfl λH=>?_
 unfold pE at h
 exact aI 47 H [(0,Z2 p0),(1,Z9 p1),(2,Z9 p2)]<|ar 1<|aA<|bI h λr1 hr h=>bJ (xt hr)<|aa 2<|ak<|an<|aA<|aa 2<|ax (aJ (enc:=(D.int .i64)) (xs:=p0.aG))<|aa 1<|ak<|aM<|bI h λz19 hit h=>fM 47 H [1,2,3,7,14,15,16] (λy2=>[(1,Z9 p1),(2,Z9 p2),(3,Z1 p0),(7,UQ),(14,UC p0),(15,U5 p0),(16,vI y2)]) (λb e s=>((∃v20,b=(.inl v20)/\(e=.exit 0/\s=(sp 47 [] H)))\/(∃r21,b=(.inr r21)/\(e=.ret/\dw Tryz.prog Tryz.f52.results.toList H (vI r21) .ret s)))) hit κ (λy2 o h=>by unfold pU at h;exact ar 1<|an<|B2 (decide (y2<(p0.aG.length:Int))) (λhc=>have h:=fh hc h;ao<|ag<|an<|aM<|aA<|aa 1<|bI h λx3 hx h=>ax (s:=bb none (Go.Sh.D.cells ((D.int .i64) x3))) (aD (n:=1) hx)<|aa 3<|ak<|ar 1<|gr 47 H [1,2,3,7,8,10,14,15,16] (λ(j4:Int)=>[(1,Z9 p1),(2,Z9 p2),(3,Z1 p0),(7,UQ),(8,vI y2),(10,vI j4),(14,UC p0),(15,U5 p0),(16,vI y2)]) h (λj4 h=>an<|fL<|S8 1 (K35 p1 p2 p0 y2 p0 p0 y2 j4 [])<|(by rcases hc:(j4==0)with _|_;replace h:=fi hc h;rcases hc:(j4==1)with _|_;replace h:=fi hc h;rcases hc:(j4==2)with _|_;replace h:=fi hc h;rcases hc:(j4==3)with _|_;replace h:=fi hc h;cases h;exact have h:=fh hc h;pd (λe=>(sp 47 (K35 p1 p2 p0 y2 p0 p0 y2 e []) H)) κ hc<|aE 4<|bI h λx16 hx h=>bn (s:=bb none (ay x16).cells) (aD (n:=3) hx)<|aE 3<|bI h λx17 hx h=>bn (s:=bb none (ay x17).cells) (aD (n:=3) hx)<|aE 1<|bI h λr18 hr h=>fc (uZ hr)<|aE 1<|bG<|ag<|ar 1<|B2 (r18 !=0) (λhc=>have h:=fh hc h;ar 1<|al<|aQ<|aq<|aq<|LR h (.inr (⟨r18,rfl,rfl,dw.ret [] κ κ⟩))) (λhc=>have h:=fi hc h;ao<|aR<|ag<|ah<|aa 2<|af<|LQ h);exact have h:=fh hc h;pd (λe=>(sp 47 (K35 p1 p2 p0 y2 p0 p0 y2 e []) H)) κ hc<|aE 4<|bI h λx13 hx h=>bn (s:=bb none (ay x13).cells) (aD (n:=3) hx)<|aE 3<|bI h λx14 hx h=>bn (s:=bb none (ay x14).cells) (aD (n:=3) hx)<|aE 1<|bI h λr15 hr h=>fc (u6 hr)<|aE 1<|bG<|ag<|ar 1<|B2 (r15 !=0) (λhc=>have h:=fh hc h;ar 1<|al<|aQ<|aq<|aq<|LR h (.inr (⟨r15,rfl,rfl,dw.ret [] κ κ⟩))) (λhc=>have h:=fi hc h;ao<|aR<|ag<|ah<|aa 2<|af<|LQ h);exact have h:=fh hc h;pd (λe=>(sp 47 (K35 p1 p2 p0 y2 p0 p0 y2 e []) H)) κ hc<|aE 4<|bI h λx10 hx h=>bn (s:=bb none (ay x10).cells) (aD (n:=3) hx)<|aE 3<|bI h λx11 hx h=>bn (s:=bb none (ay x11).cells) (aD (n:=3) hx)<|aE 1<|bI h λr12 hr h=>fc (u7 hr)<|aE 1<|bG<|ag<|ar 1<|B2 (r12 !=0) (λhc=>have h:=fh hc h;ar 1<|al<|aQ<|aq<|aq<|LR h (.inr (⟨r12,rfl,rfl,dw.ret [] κ κ⟩))) (λhc=>have h:=fi hc h;ao<|aR<|ag<|ah<|aa 2<|af<|LQ h);exact have h:=fh hc h;pd (λe=>(sp 47 (K35 p1 p2 p0 y2 p0 p0 y2 e []) H)) κ hc<|aE 4<|bI h λx7 hx h=>bn (s:=bb none (ay x7).cells) (aD (n:=3) hx)<|aE 3<|bI h λx8 hx h=>bn (s:=bb none (ay x8).cells) (aD (n:=3) hx)<|aE 1<|bI h λr9 hr h=>fc (u9 hr)<|aE 1<|bG<|ag<|ar 1<|B2 (r9 !=0) (λhc=>have h:=fh hc h;ar 1<|al<|aQ<|aq<|aq<|LR h (.inr (⟨r9,rfl,rfl,dw.ret [] κ κ⟩))) (λhc=>have h:=fi hc h;ao<|aR<|ag<|ah<|aa 2<|af<|LQ h))) λjp5 h=>aA<|aa 3<|bI h λx6 hx h=>ax (s:=bb none (Go.Sh.D.cells (D.bool x6))) (aD (n:=1) hx)<|aa 1<|ak<|B2 x6 (λhc=>have h:=fh hc h;ah<|aa 3<|af<|JQ [] h) (λhc=>have h:=fi hc h;ao<|JQ [] h)) (λhc=>have h:=fi hc h;aI 47 H []<|bT<|ba<|ba<|LR h (.inl ⟨(),rfl,rfl,rfl⟩))) (by rintro _ _ (⟨v20,rfl,rfl,rfl⟩|⟨r21,rfl,rfl,hE⟩);exact have h:=js h;bw<|ag<|ar 1<|al<|iI h▸E0;exact have h:=jr h;aQ<|aq<|(by cases h;exact hE))
def ko(fuel:Nat)(q1:(Hp×Nat))(q2:(Hp×Nat))(q3:(Hp×Nat))(e9:Entry)(G10:Hp):Option (Bool×Hp):=
 (bE cP.cell G10 q1.2 0).bind λx11=>
 x11.bind λi12=>
 (bE dG.cells G10 i12 0).bind λx13=>
 (bL 3 vw G10 q2.2 0).bind λx14=>
 (pE fuel x13 e9.Row x14).bind λr15=>
 bif (r15==0)then
  (ee cB G10 q3.2 0 true).bind λH16=>
  some (false,H16)
 else
  some (true,G10)
def kQ(fuel:Nat)(p0:Nat)(p1:(List Value))(H:Hp):Option ((Bool)×Hp):=
 (nv H (.cells [.d (.ptr p0 0)])).bind λq1=>
 (nv q1.1 (.cells [.d (.list 3 (List.map ay p1))])).bind λq2=>
 (nv q2.1 (.cells [.d (.bool false)])).bind λq3=>
 (bE cP.cell q3.1 q1.2 0).bind λx4=>
 x4.bind λi5=>
 (bE cP.cell q3.1 i5 4).bind λx6=>
 x6.bind λi7=>
 (oL fuel i7 q3.1).bind λr8=>
 (mW fuel (ko fuel q1 q2 q3) (some i7) q3.1).bind λq17=>
 bif q17.1 then
  (gq 1 cB.cell q17.2 q3.2).bind λq18=>
  some (false,q18.2)
 else
  (gq 1 cB.cell q17.2 q3.2).bind λq19=>
  some (q19.1,q19.2)
def K41:=λa0 a1 (t:SL)=>((2,.d (.ptr a0 0))::(3,.d (.ptr a1 0))::t:SL)
theorem ux(h:kQ fuel p0 p1 H=some r):SC Tryz.prog false 61 [.d (.ptr p0 0),.d (.list 3 (List.map ay p1))] H (vB r.1) r.2:=by
 refine tb Tryz.func61 rfl ?_
 unfold kQ at h
 exact B6 21 H [0,1] [(0,.d (.ptr p0 0)),(1,Z9 p1)] κ<|ir<|ah<|aK 3 [(2,.box [.d (.ptr p0 0)]),(3,TW p1),(4,.box [vB false])]<|ak<|bI h λq1 hq h=>fN hq 2 21 [] [2,3,4] [(2,.d (.ptr q1.2 0)),(3,TW p1),(4,.box [vB false])] κ (by cases hq;kernel_rfl)<|bI h λq2 hq h=>fN hq 3 21 [] [2,3,4] (K41 q1.2 q2.2 [(4,.box [vB false])]) κ (by cases hq;kernel_rfl)<|bI h λq3 hq h=>fN hq 4 21 [] [2,3,4] (K41 q1.2 q2.2 [(4,.d (.ptr q3.2 0))]) κ (by cases hq;kernel_rfl)<|vy<|ir<|ah<|bI h λx4 hx h=>ax (s:=.d (cP.enc x4)) (aF hx)<|bI h λi5 hp_i5 h=>ax (s:=.d (.ptr i5 0)) (bh hp_i5)<|aa 1<|bI h λx6 hx h=>tg (s:=.d (cP.enc x6)) [2,3,4,9] (aF hx)<|bI h λi7 hp_i7 h=>bH x6 (λp=>(sp 21 (K41 q1.2 q2.2 [(4,.d (.ptr q3.2 0)),(9,.d (cP.enc p))]) q3.1)) κ hp_i7<|bI h λr8 hr h=>gd (ls:=[]) (some 10) (K41 q1.2 q2.2 [(4,.d (.ptr q3.2 0)),(10,O7 i7)]) (pF hr)<|ak<|s9<|bI h λq17 hit h=>wV (f:=78) (caps:=[.fV [.ptr i7 0]]) (H':=q17.2) (b:=q17.1) (jc:=.ret) [(2,.ptr q1.2 0),(3,.ptr q2.2 0),(4,.ptr q3.2 0)] κ κ κ κ (λl R cR hpe hps has hbd hsz=>pV (λe9 G10 q9 h=>by unfold ko at h;exact sW (n0:=21) cR hpe hps (hsz.trans (mX _ _ _)) (K41 q1.2 q2.2 [(4,.d (.ptr q3.2 0)),(11,.d (.agg [.list 3 (List.map ay e9.Row),.int .i64 e9.Key,.int .i64 e9.Number]))]) (xb ⟨.inr ⟨by decide,_,rfl,.head _⟩,⟨.inr ⟨by decide,_,rfl,.tail _ (.head _)⟩,⟨.inr ⟨by decide,_,rfl,.tail _ (.tail _ (.head _))⟩,⟨.inl ⟨rfl,rfl⟩,trivial⟩⟩⟩⟩)<|(by rw[has,hbd];exact py κ<|aK 2 (K41 q1.2 q2.2 [(4,.d (.ptr q3.2 0)),(5,me e9)])<|af<|B5<|sZ<|bI h λx11 hx11 h=>bI h λi12 hp_i12 h=>bI h λx13 hx13 h=>bI h λx14 hx_6 h=>bI h λr15 hr_7 h=>Fj 21 G10 [2,3,4,5] (K41 q1.2 q2.2 [(4,.d (.ptr q3.2 0)),(5,me e9)]) κ<|DS 21 G10 [(4,.d (.ptr q3.2 0)),(20,vB (r15==0))] κ (λX hX=>by subst hX;exact nA [] [(0,eV (.d (cP.enc x11))),(1,eV (.d (.ptr i12 0))),(3,eV (.d (.agg [.list 1 (List.map (D.int .i64) x13.aG),.list 1 (List.map D.bool x13.Down),.int .i64 x13.eD]))),(6,eV (.cq (.au q2.2 0) 3 (List.map ay x14))),(7,eV _)] ⟨Ac (c:=cP.cell) hx11,PI (p:=x11) hp_i12,Ac (c:=dG.cells) hx13,Rf (c:=vw) hx_6,Cn (ls:=[(.au q2.2 0)]) (oe hr_7),trivial⟩) (ag<|B4 (b:=(r15==0)) κ (λhc=>have h:=fh hc h;sZ<|s8 κ<|bI h λH16 hx h=>nB 21 H16 [4] [(4,.d (.ptr q3.2 0))] hx κ κ<|ak<|HJ<|aQ<|(by cases h;exact⟨rfl,.inr ⟨rfl,rfl⟩⟩)) (λhc=>have h:=fi hc h;yi<|aR<|(by cases h;exact⟨rfl,.inl ⟨rfl,rfl⟩⟩))))) hit) (λhb=>have h:=fh hb h;aR<|ag<|(by intro ds;exact bI h λq18 hqq18 h=>tV (jL hqq18 4 21 [2,3,4,10] (K41 q1.2 q2.2 [(4,.box [vB q18.1]),(10,O7 i7)]) κ κ κ)<|BX<|sX<|JS 1<|aK 1 [(4,.box [vB false])]<|af<|MR.D<|ag<|BY<|iI h▸E0)) (λhb=>have h:=fi hb h;bI h λq19 hqq19 h=>⟨.ret,_,rfl,(jL hqq19 4 21 [2,3,4,10] (K41 q1.2 q2.2 [(4,.box [vB q19.1]),(10,O7 i7)]) κ κ κ),(aQ<|aq<|iI h▸E0)⟩)
def dx(fuel:Nat)(p0:(List Value)):Option ((List Value)):=
 I9 p0 λb1=>
 bif b1 then
  some ([]:List Value)
 else
  ff (decide ((([]:List Value)++p0).length<=room))<|
  some (([]:List Value)++p0)
theorem ke(h:dx fuel p0=some r):PC Tryz.prog 63 [.d (.list 3 (List.map ay p0))] (.own 3 (List.map ay r)):=by
 refine aW Tryz.func63 rfl λH=>?_
 unfold dx at h
 exact aI 8 H [(0,Z9 p0)]<|ar 1<|an<|aA<|aX [] [0,3] 1<|qA (xs:=List.map ay p0) (d:=some 4) (e:=true) 8 H [0,4] (λb1=>[(0,Z9 p0),(4,vB b1)]) κ (λ_=>by kernel_rfl) (λb1 hnil=>have h:=sq h b1 (λe=>q_6.1 (hnil e));ak<|aT h (λh=>ar 1<|al<|aq<|iI h▸E0) (λh=>ao<|ag<|aA<|aS [5] 2<|nJ h λhk h=>gb 5 3 (List.map ay (([]:List Value)++p0)) (bF) (cC hk)<|aS [5] 1<|ak<|al<|iI h▸E0))
def mz(fuel:Nat)(p0:az)(p1:Entry)(p2:Entry):Option (Int):=
 (pE fuel p0 p1.Row p2.Row).bind λr1=>
 bif (r1 !=0)then
  some r1
 else
  bif (p0.eD==2)then
   some (IntKind.wrap .i64 (p2.Number - p1.Number))
  else
   some (IntKind.wrap .i64 (p1.Number - p2.Number))
def ny(x0:Entry):SV:=.d (.agg [.list 3 (List.map ay x0.Row),.int .i64 x0.Key,.int .i64 x0.Number])
def Hw(x0:(List Entry)):SV:=.d (.list 3 (List.map ab x0))
def TV(x0:(Option Nat)):SV:=.d (.fn (.func 116) [] [.fV [cP.enc x0]])
theorem qP(h:mz fuel p0 p1 p2=some r):PC Tryz.prog 94 [.d (cD p0),.d (ab p1),.d (ab p2)] (vI r):=by
 refine aW Tryz.func94 rfl λH=>?_
 unfold mz at h
 exact aI 30 H [(0,Z2 p0),(1,ny p1),(2,ny p2)]<|ar 1<|an<|aA<|aa 5<|bI h λr1 hr h=>bJ (oe hr)<|aa 1<|ak<|ar 1<|aT h (λh=>ar 1<|al<|aq<|iI h▸E0) (λh=>ao<|ag<|an<|ar 1<|aT h (λh=>ar 1<|al<|aq<|iI h▸E0) (λh=>ao<|ag<|ar 1<|al<|iI h▸E0))
def lj(fuel:Nat)(p0:Entry)(p1:Entry)(p2:(Option Nat))(H:Hp):Option (Int):=
 p2.bind λi1=>
 (bE dG.cells H i1 0).bind λx2=>
 (mz fuel x2 p0 p1).bind λr3=>
 some r3
theorem rX(h:lj fuel p0 p1 p2 H=some r):SC Tryz.prog true 116 [.d (ab p0),.d (ab p1),.d (.fV [cP.enc p2])] H (vI r) H:=by
 refine fT Tryz.func116 rfl ?_
 unfold lj at h
 exact aI 13 H [(0,ny p0),(1,ny p1),(2,.d (.fV [cP.enc p2]))]<|ar 1<|an<|fL<|aE 1<|bI h λi1 hp_i1 h=>bn (s:=.d (.ptr i1 0)) (bh hp_i1)<|aE 1<|bI h λx2 hx h=>bn (s:=.d (.agg [.list 1 (List.map (D.int .i64) x2.aG),.list 1 (List.map D.bool x2.Down),.int .i64 x2.eD])) (aF hx)<|aE 2<|bI h λr3 hr h=>fc (qP hr)<|aE 1<|bG<|ag<|al<|iI h▸E0
def bK(fuel:Nat)(p0:(List Entry))(p1:Entry)(c2_0:(Option Nat))(H:Hp)(y1:Int×Int):Option ((Int×Int)⊕(Int)):=
 bif (decide (y1.1<y1.2))then
  (idx p0 (IntKind.wrap .i64 (Int.fdiv (IntKind.wrap .u64 (IntKind.wrap .i64 (y1.1+y1.2))) (2 ^ 1)))).bind λx2=>
  (lj fuel x2 p1 c2_0 H).bind λr3=>
  bif (decide (r3<0))then
   some (.inl ((IntKind.wrap .i64 ((IntKind.wrap .i64 (Int.fdiv (IntKind.wrap .u64 (IntKind.wrap .i64 (y1.1+y1.2))) (2 ^ 1)))+1)),y1.2))
  else
   some (.inl (y1.1,(IntKind.wrap .i64 (Int.fdiv (IntKind.wrap .u64 (IntKind.wrap .i64 (y1.1+y1.2))) (2 ^ 1)))))
 else
  some (.inr y1.1)
def cV(fuel:Nat)(p0:(List Entry))(p1:Entry)(c2_0:(Option Nat))(H:Hp):Option (Int×Bool):=
 (iter (bK fuel p0 p1 c2_0 H) fuel (0,(p0.length:Int))).bind λv5=>
 bif (decide (v5<(p0.length:Int)))then
  (idx p0 v5).bind λx6=>
  (lj fuel x6 p1 c2_0 H).bind λr7=>
  some (v5,(r7==0))
 else
  some (v5,false)
theorem jg(h:cV fuel p0 p1 c2_0 H=some r):SC Tryz.prog true 115 [.d (.list 3 (List.map ab p0)),.d (ab p1),.d (.fn (.func 116) [] [.fV [cP.enc c2_0]])] H (.iQ [vI r.1,vB r.2]) H:=by
 refine fT Tryz.func115 rfl ?_
 unfold cV at h
 exact aI 49 H [(0,Hw p0),(1,ny p1),(2,TV c2_0)]<|ar 1<|aA<|aa 1<|ax (aJ (enc:=ab) (xs:=p0))<|aa 1<|ak<|ar 1<|an<|aM<|bI h λv5 hit h=>fM 49 H [0,2,4,8,9,10] (λy1=>[(0,Hw p0),(2,TV c2_0),(4,me p1),(8,vI (p0.length:Int)),(9,vI y1.1),(10,vI y1.2)]) (λv5 e s=>(e=.exit 0/\s=(sp 49 [(0,Hw p0),(2,TV c2_0),(4,me p1),(8,vI (p0.length:Int)),(9,vI v5)] H))) hit κ (λy1 o h=>by unfold bK at h;exact an<|ar 1<|aT h (λh=>ao<|ag<|aM<|ar 1<|an<|fL<|aE 3<|bI h λx2 hx h=>bn (s:=bb none (ab x2).cells) (aD (n:=3) hx)<|aE 2<|bI h λr3 hr h=>iB (ls:=[]) (rX hr)<|aE 1<|bG<|ag<|aT h (λh=>ah<|aa 3<|af<|aR<|LQ h) (λh=>ah<|aa 2<|af<|aR<|LQ h)) (λh=>aI 49 H [(0,Hw p0),(2,TV c2_0),(4,me p1),(8,vI (p0.length:Int)),(9,vI y1.1)]<|bT<|ba<|ba<|LR h ⟨rfl,rfl⟩)) (by rintro _ _ ⟨rfl,rfl⟩;exact bw<|ag<|an<|fL<|dn [] [0,2,4,9,35,39] 5<|dV (λb=>(sp 49 [(0,Hw p0),(2,TV c2_0),(4,me p1),(9,vI v5),(35,vI v5),(39,vB b)] H)) h (λh=>aE 3<|bI h λx6 hx h=>bn (s:=bb none (ab x6).cells) (aD (n:=3) hx)<|aE 2<|bI h λr7 hr h=>iB (ls:=[]) (rX hr)<|aE 4<|bG<|ag<|al<|iI h▸E0) λh=>aE 11<|bG<|ag<|al<|iI h▸E0)
def og(fuel:Nat)(p0:Nat)(p1:Nat)(p2:Entry)(H:Hp):Option (Int×Bool):=
 (bL 3 aP H p1 0).bind λx1=>
 (cV fuel x1 p2 (some p0) (lU [(.au p1 0)] H)).bind λr2=>
 some (r2.1,r2.2)
theorem vK(h:og fuel p0 p1 p2 H=some r):SC Tryz.prog true 104 [.d (.ptr p0 0),.d (.ptr p1 0),.d (ab p2)] H (.iQ [vI r.1,vB r.2]) H:=by
 refine fT Tryz.func104 rfl ?_
 unfold og at h
 exact aI 18 H (K17 p0 p1 [(2,ny p2)])<|aA<|Cg 18 H (d:=3) (ds:=[.ptr p0 0]) [1,2,3] [(1,.d (.ptr p1 0)),(2,ny p2),(3,.d (.fV [.ptr p0 0]))] κ κ<|aa 3<|ak<|an<|fL<|aE 4<|bI h λx1 hx h=>bn (aY hx)<|aE 2<|bI h λr2 hr h=>iB (ls:=[(.au p1 0)]) (jg hr)<|aE 4<|bG<|ag<|al<|iI h▸E0
def fC(fuel:Nat)(p0:(List Entry))(p1:Int)(p2:(List Entry)):Option ((List Entry)):=
 ff (mJ p0 p1 (p0.length:Int))<|
 bif ((p2.length:Int)==0)then
  some p0
 else
  bif (p1==(p0.length:Int))then
   ff (decide ((p0++p2).length<=room))<|
   some (p0++p2)
  else
   ff (decide (0<=p1)&&decide (p1<(p0.length:Int))&&decide (0<p2.length)&&decide (p0.length+p2.length<=room))<|
   some (List.take (Int.toNat p1) p0++p2++List.drop (Int.toNat p1) p0)
def yf(x0:Entry):SV:=.own 3 (List.map ab [x0])
def Pd(x0:(List Entry)):SV:=.own 3 (List.map ab x0)
theorem mF(h:fC fuel p0 p1 p2=some r):PC Tryz.prog 105 [.own 3 (List.map ab p0),vI p1,.d (.list 3 (List.map ab p2))] (.own 3 (List.map ab r)):=by
 refine aW Tryz.func105 rfl λH=>?_
 unfold fC at h
 exact aI 95 H [(0,Pd p0),(1,vI p1),(2,Hw p2)]<|ar 1<|aA<|aa 2<|nJ h λhk h=>ax (s:=nq (some (.slot 0)) 3 (List.map ab (sl p0 p1 (p0.length:Int)))) (iD hk)<|ak<|aA<|aa 1<|ax (aJ (enc:=ab) (xs:=p2))<|aa 1<|ak<|an<|ar 1<|aT h (λh=>aA<|aS [17] 2<|ak<|al<|aq<|iI h▸E0) (λh=>ao<|ag<|aA<|aa 1<|ax (aJ (enc:=ab) (xs:=p0))<|aa 1<|ak<|an<|ar 1<|aT h (λh=>aA<|aS [23] 2<|nJ h λhk h=>gb 23 3 (List.map ab (p0++p2)) (bF) (cC hk)<|aS [23] 1<|ak<|al<|aq<|iI h▸E0) (λh=>ao<|ag<|nJ h λhk h=>aI 95 H [(0,Pd p0),(1,vI p1),(2,Hw p2),(7,vI (p2.length:Int)),(8,vI (p0.length:Int))]<|(by obtain⟨hT,ti,z,zd,hi,hz,hzd,hzn,hsz,hn,hby⟩:=re (P:=Tryz.prog) (T:=30) (e:=45) (n:=3) κ;exact HG (enc:=ab) (xs:=p0) (ys:=p2) (i:=p1) (T:=30) (I:=3) (B:=4) (fo:=117) (ik:=.i64) hk hT κ hi hz hzd hzn hsz hn hby (λargs w=>run_callFunc_extern Tryz.func117 κ κ κ κ args w)<|iI h▸E0)))
def eN(fuel:Nat)(p0:(List Entry)):Option ((List Entry)):=
 I9 p0 λb1=>
 bif b1 then
  some ([]:List Entry)
 else
  ff (decide ((([]:List Entry)++p0).length<=room))<|
  some (([]:List Entry)++p0)
def QX(x0:Entry):SV:=.d (.list 3 (List.map ab [x0]))
def Hz(x0:((List Entry)×Hp)):SV:=.own 3 (List.map ab x0.1)
def CI:SV:=.box [.d (.cG),vI 0,vI 0]
theorem nm(h:eN fuel p0=some r):PC Tryz.prog 107 [.d (.list 3 (List.map ab p0))] (.own 3 (List.map ab r)):=by
 refine aW Tryz.func107 rfl λH=>?_
 unfold eN at h
 exact aI 8 H [(0,Hw p0)]<|ar 1<|an<|aA<|aX [] [0,3] 1<|qA (xs:=List.map ab p0) (d:=some 4) (e:=true) 8 H [0,4] (λb1=>[(0,Hw p0),(4,vB b1)]) κ (λ_=>by kernel_rfl) (λb1 hnil=>have h:=sq h b1 (λe=>q_6.1 (hnil e));ak<|aT h (λh=>ar 1<|al<|aq<|iI h▸E0) (λh=>ao<|ag<|aA<|aS [5] 2<|nJ h λhk h=>gb 5 3 (List.map ab (([]:List Entry)++p0)) (bF) (cC hk)<|aS [5] 1<|ak<|al<|iI h▸E0))
def fO(fuel:Nat)(p0:(List (Option Nat))):Option ((List (Option Nat))):=
 I9 p0 λb1=>
 bif b1 then
  some ([]:List (Option Nat))
 else
  ff (decide ((([]:List (Option Nat))++p0).length<=room))<|
  some (([]:List (Option Nat))++p0)
def SY(x0:((List Entry)×Hp)):SV:=vI (IntKind.wrap .i64 (Int.tdiv (x0.1.length:Int) 2))
def QW(x0:(List (Option Nat))):SV:=.d (.list 1 (List.map cP.enc x0))
theorem nk(h:fO fuel p0=some r):PC Tryz.prog 108 [.d (.list 1 (List.map cP.enc p0))] (.own 1 (List.map cP.enc r)):=by
 refine aW Tryz.func108 rfl λH=>?_
 unfold fO at h
 exact aI 8 H [(0,QW p0)]<|ar 1<|an<|aA<|aX [] [0,3] 1<|qA (xs:=List.map cP.enc p0) (d:=some 4) (e:=true) 8 H [0,4] (λb1=>[(0,QW p0),(4,vB b1)]) κ (λ_=>by kernel_rfl) (λb1 hnil=>have h:=sq h b1 (λe=>q_6.1 (hnil e));ak<|aT h (λh=>ar 1<|al<|aq<|iI h▸E0) (λh=>ao<|ag<|aA<|aS [5] 2<|nJ h λhk h=>gb 5 1 (List.map cP.enc (([]:List (Option Nat))++p0)) (bF) (cC hk)<|aS [5] 1<|ak<|al<|iI h▸E0))
def nQ(fuel:Nat)(p0:Nat)(H:Hp):Option ((Entry×(Option Nat))×Hp):=
 (FH 3 aP H p0 0).bind λq2=>
 (FH 3 aP q2.2 p0 0).bind λq4=>
 (idx q4.1 (IntKind.wrap .i64 (Int.tdiv (q2.1.length:Int) 2))).bind λx5=>
 (FH 3 aP q4.2 p0 0).bind λq7=>
 ff (mJ q7.1 (IntKind.wrap .i64 ((IntKind.wrap .i64 (Int.tdiv (q2.1.length:Int) 2))+1)) (q7.1.length:Int))<|
 (eN fuel (sl q7.1 (IntKind.wrap .i64 ((IntKind.wrap .i64 (Int.tdiv (q2.1.length:Int) 2))+1)) (q7.1.length:Int))).bind λr8=>
 (nv q7.2 (.cells [.own 3 (List.map ab r8),.own 1 (List.map cP.enc ([]:List (Option Nat)))])).bind λq10=>
 bz (λ(j11:Hp)=>
  (FH 3 aP j11 p0 0).bind λq23=>
  ff (mJ q23.1 0 (IntKind.wrap .i64 (Int.tdiv (q2.1.length:Int) 2)))<|
  (eN fuel (sl q23.1 0 (IntKind.wrap .i64 (Int.tdiv (q2.1.length:Int) 2)))).bind λr24=>
  (dh 3 aP q23.2 p0 0 r24).bind λH25=>
  some ((x5,(some q10.2)),H25)) λjp12=>
 (cT fuel p0 q10.1).bind λr13=>
 bif (!r13)then
  (FH 1 cP q10.1 p0 1).bind λq15=>
  ff (mJ q15.1 (IntKind.wrap .i64 ((IntKind.wrap .i64 (Int.tdiv (q2.1.length:Int) 2))+1)) (q15.1.length:Int))<|
  (fO fuel (sl q15.1 (IntKind.wrap .i64 ((IntKind.wrap .i64 (Int.tdiv (q2.1.length:Int) 2))+1)) (q15.1.length:Int))).bind λr16=>
  (dh 1 cP q15.2 q10.2 1 r16).bind λH17=>
  (FH 1 cP H17 p0 1).bind λq19=>
  ff (mJ q19.1 0 (IntKind.wrap .i64 ((IntKind.wrap .i64 (Int.tdiv (q2.1.length:Int) 2))+1)))<|
  (fO fuel (sl q19.1 0 (IntKind.wrap .i64 ((IntKind.wrap .i64 (Int.tdiv (q2.1.length:Int) 2))+1)))).bind λr20=>
  (dh 1 cP q19.2 p0 1 r20).bind λH21=>
  jp12 H21
 else
  jp12 q10.1
def Pc(x0:(List (Option Nat))):SV:=.own 1 (List.map cP.enc x0)
def K33:=λa0 a1 a2 (t:SL)=>((0,.d (.ptr a0 0))::(2,CI)::(4,SY a1)::(5,me a2)::t:SL)
theorem Ao(h:nQ fuel p0 H=some r):SC Tryz.prog false 88 [.d (.ptr p0 0)] H (.iQ [.d (.agg [.list 3 (List.map ay r.1.1.Row),.int .i64 r.1.1.Key,.int .i64 r.1.1.Number]),.d (cP.enc r.1.2)]) r.2:=by
 refine dr Tryz.func88 rfl ?_
 unfold nQ at h
 exact aI 73 H [(0,.d (.ptr p0 0))]<|ar 1<|aA<|bm 73 H [] [0,2,10] 4 [(0,.d (.ptr p0 0)),(2,CI),(10,.d (.ptr p0 0))] κ<|bI h λq2 hx h=>qC (c:=aP) (xs:=q2.1) (H':=q2.2) hx κ<|ax (qG (xs:=q2.1) (H1:=q2.2) hx)<|ax (aJ (enc:=ab) (xs:=q2.1))<|aa 2<|ak<|aA<|bm 73 q2.2 [] [0,2,4,17] 4 [(0,.d (.ptr p0 0)),(2,CI),(4,SY q2),(17,.d (.ptr p0 0))] κ<|bI h λq4 hx h=>qC (c:=aP) (xs:=q4.1) (H':=q4.2) hx κ<|ax (qG (xs:=q4.1) (H1:=q4.2) hx)<|aa 1<|bI h λx5 hx h=>ax (s:=bb none (ab x5).cells) (aD (n:=3) hx)<|aa 3<|ak<|aA<|bm 73 q4.2 [] [0,2,4,5,25] 4 (K33 p0 q2 x5 [(25,.d (.ptr p0 0))]) κ<|bI h λq7 hx h=>qC (c:=aP) (xs:=q7.1) (H':=q7.2) hx κ<|ax (qG (xs:=q7.1) (H1:=q7.2) hx)<|aa 2<|nJ h λhk h=>ax (s:=nq none 3 (List.map ab (sl q7.1 (IntKind.wrap .i64 ((IntKind.wrap .i64 (Int.tdiv (q2.1.length:Int) 2))+1)) (q7.1.length:Int)))) (iD hk)<|bI h λr8 hr h=>iz 73 q7.2 (d:=some 30) (ls:=[]) (gs:=[]) [] [0,2,4,5,30] (K33 p0 q2 x5 [(30,.own 3 (List.map ab r8))]) (nm hr) κ κ κ<|yp (n':=3) (t:=30) (xs:=List.map ab r8) (λv9=>(K33 p0 q2 x5 [(30,.mf v9 3 (List.map ab r8))])) κ (λ_=>by kernel_rfl) λv9=>iw 73 q7.2 (d:=some 31) (s:=.d (.agg [.raw v9])) [0,2,4,5,30,31] (K33 p0 q2 x5 [(30,.mf v9 3 (List.map ab r8)),(31,.d (.agg [.raw v9]))]) (Co 30 κ) κ<|aX [] [0,2,4,5,30,32] 1<|bI h λq10 hq h=>DZ (d:=some 33) 73 [(1,1,true)] [(0,30,v9,3,List.map ab r8)] [0,2,4,5,33] (K33 p0 q2 x5 [(33,.d (.ptr q10.2 0))]) hq κ κ ⟨κ,κ,κ,trivial⟩ κ<|aa 1<|ak<|sY 73 [0,2,4,5,6] (λ(j11:Hp)=>(K33 p0 q2 x5 [(6,.d (.ptr q10.2 0))])) (λ(j11:Hp)=>j11) h (λj11 h=>aA<|aK 5 [(2,CI),(4,SY q2),(5,me x5),(6,.d (.ptr q10.2 0)),(59,.d (.ptr p0 0)),(63,.d (.ptr p0 0))]<|bI h λq23 hx h=>qC (c:=aP) (xs:=q23.1) (H':=q23.2) hx κ<|ax (qG (xs:=q23.1) (H1:=q23.2) hx)<|aa 1<|nJ h λhk h=>ax (s:=nq none 3 (List.map ab (sl q23.1 0 (IntKind.wrap .i64 (Int.tdiv (q2.1.length:Int) 2))))) (iD hk)<|bI h λr24 hr h=>bJ (nm hr)<|aa 3<|bI h λH25 hx h=>fF 67 hx<|ak<|ar 1<|al<|iI h▸E0) λjp12 h=>aA<|aa 1<|bI h λr13 hr h=>mc (ls:=[]) (eJ hr)<|aa 1<|ak<|aT h (λh=>aA<|bm 73 q10.1 [] [0,2,4,5,6,37,40] 4 (K33 p0 q2 x5 [(6,.d (.ptr q10.2 0)),(37,.d (.ptr q10.2 0)),(40,.d (.ptr p0 1))]) κ<|bI h λq15 hx h=>qC (c:=cP) (xs:=q15.1) (H':=q15.2) hx κ<|ax (qG (xs:=q15.1) (H1:=q15.2) hx)<|aa 2<|nJ h λhk h=>ax (s:=nq none 1 (List.map cP.enc (sl q15.1 (IntKind.wrap .i64 ((IntKind.wrap .i64 (Int.tdiv (q2.1.length:Int) 2))+1)) (q15.1.length:Int)))) (iD hk)<|bI h λr16 hr h=>bJ (nk hr)<|aa 2<|bI h λH17 hx h=>fF 45 hx<|ak<|ah<|bm 73 H17 [] [0,2,4,5,6,48,51] 4 (K33 p0 q2 x5 [(6,.d (.ptr q10.2 0)),(48,.d (.ptr p0 0)),(51,.d (.ptr p0 1))]) κ<|bI h λq19 hx h=>qC (c:=cP) (xs:=q19.1) (H':=q19.2) hx κ<|ax (qG (xs:=q19.1) (H1:=q19.2) hx)<|aa 2<|nJ h λhk h=>ax (s:=nq none 1 (List.map cP.enc (sl q19.1 0 (IntKind.wrap .i64 ((IntKind.wrap .i64 (Int.tdiv (q2.1.length:Int) 2))+1))))) (iD hk)<|bI h λr20 hr h=>bJ (nk hr)<|aa 2<|bI h λH21 hx h=>fF 56 hx<|af<|JQ [] h) (λh=>ao<|JQ [] h)
def dq(fuel:Nat)(p0:(List (Option Nat)))(p1:Int)(p2:(List (Option Nat))):Option ((List (Option Nat))):=
 ff (mJ p0 p1 (p0.length:Int))<|
 bif ((p2.length:Int)==0)then
  some p0
 else
  bif (p1==(p0.length:Int))then
   ff (decide ((p0++p2).length<=room))<|
   some (p0++p2)
  else
   ff (decide (0<=p1)&&decide (p1<(p0.length:Int))&&decide (0<p2.length)&&decide (p0.length+p2.length<=room))<|
   some (List.take (Int.toNat p1) p0++p2++List.drop (Int.toNat p1) p0)
def Uo(x0:((Entry×(Option Nat))×Hp)):SV:=.box [.d (.list 3 (List.map ay x0.1.1.Row)),vI x0.1.1.Key,vI x0.1.1.Number]
def Vi(x0:((Entry×(Option Nat))×Hp)):SV:=.own 3 (List.map ab [x0.1.1])
def Un(x0:((Entry×(Option Nat))×Hp)):SV:=.d (.list 3 (List.map ab [x0.1.1]))
def SX(x0:((List (Option Nat))×Hp)):SV:=.own 1 (List.map cP.enc x0.1)
def Vh(x0:Int×Bool):SV:=vI (IntKind.wrap .i64 (x0.1+1))
def Um(x0:Nat):SV:=.own 1 (List.map cP.enc [(some x0)])
theorem mj(h:dq fuel p0 p1 p2=some r):PC Tryz.prog 106 [.own 1 (List.map cP.enc p0),vI p1,.d (.list 1 (List.map cP.enc p2))] (.own 1 (List.map cP.enc r)):=by
 refine aW Tryz.func106 rfl λH=>?_
 unfold dq at h
 exact aI 95 H [(0,Pc p0),(1,vI p1),(2,QW p2)]<|ar 1<|aA<|aa 2<|nJ h λhk h=>ax (s:=nq (some (.slot 0)) 1 (List.map cP.enc (sl p0 p1 (p0.length:Int)))) (iD hk)<|ak<|aA<|aa 1<|ax (aJ (enc:=cP.enc) (xs:=p2))<|aa 1<|ak<|an<|ar 1<|aT h (λh=>aA<|aS [17] 2<|ak<|al<|aq<|iI h▸E0) (λh=>ao<|ag<|aA<|aa 1<|ax (aJ (enc:=cP.enc) (xs:=p0))<|aa 1<|ak<|an<|ar 1<|aT h (λh=>aA<|aS [23] 2<|nJ h λhk h=>gb 23 1 (List.map cP.enc (p0++p2)) (bF) (cC hk)<|aS [23] 1<|ak<|al<|aq<|iI h▸E0) (λh=>ao<|ag<|nJ h λhk h=>aI 95 H [(0,Pc p0),(1,vI p1),(2,QW p2),(7,vI (p2.length:Int)),(8,vI (p0.length:Int))]<|(by obtain⟨hT,ti,z,zd,hi,hz,hzd,hzn,hsz,hn,hby⟩:=re (P:=Tryz.prog) (T:=88) (e:=83) (n:=1) κ;exact HG (enc:=cP.enc) (xs:=p0) (ys:=p2) (i:=p1) (T:=88) (I:=3) (B:=4) (fo:=119) (ik:=.i64) hk hT κ hi hz hzd hzn hsz hn hby (λargs w=>run_callFunc_extern Tryz.func119 κ κ κ κ args w)<|iI h▸E0)))
def hJ(fuel:Nat)(rc:(Nat->Nat->Entry->Hp->Option ((Unit)×Hp)))(p0:Nat)(p1:Nat)(p2:Entry)(H:Hp):Option ((Unit)×Hp):=
 (og fuel p0 p1 p2 H).bind λr1=>
 (cT fuel p1 H).bind λr2=>
 bif r2 then
  (dQ 3 aP H p1 0).bind λq3=>
  (fC fuel q3.1 r1.1 [p2]).bind λr5=>
  (dh 3 aP q3.2 p1 0 r5).bind λH6=>
  some ((),H6)
 else
  (bL 1 cP H p1 1).bind λx7=>
  (idx x7 r1.1).bind λx8=>
  x8.bind λi9=>
  (rc p0 i9 p2 H).bind λr10=>
  (bL 3 aP r10.2 i9 0).bind λx11=>
  (bE (cI .i64).cell r10.2 p0 3).bind λx12=>
  bif (decide ((x11.length:Int)>x12))then
   (nQ fuel i9 r10.2).bind λr13=>
   (dQ 3 aP r13.2 p1 0).bind λq14=>
   (fC fuel q14.1 r1.1 [r13.1.1]).bind λr16=>
   (dh 3 aP q14.2 p1 0 r16).bind λH17=>
   (dQ 1 cP H17 p1 1).bind λq18=>
   r13.1.2.bind λi19=>
   (dq fuel q18.1 (IntKind.wrap .i64 (r1.1+1)) [(some i19)]).bind λr20=>
   (dh 1 cP q18.2 p1 1 r20).bind λH21=>
   some ((),H21)
  else
   some ((),r10.2)
def kP:Nat->(Nat->Nat->Entry->Hp->Option ((Unit)×Hp))
 |0=>λ_ _ _ _=>none
 |fuel+1=>hJ fuel (kP fuel)
def Ul(x0:Nat):SV:=.d (.list 1 (List.map cP.enc [(some x0)]))
theorem zq{fuel:Nat}{rc:(Nat->Nat->Entry->Hp->Option ((Unit)×Hp))}(ih: ∀{p0:Nat} {p1:Nat} {p2:Entry} {H:Hp} {r:(Unit)×Hp},rc p0 p1 p2 H=some r->SC Tryz.prog false 87 [.d (.ptr p0 0),.d (.ptr p1 0),.d (ab p2)] H (.iQ []) r.2){p0:Nat}{p1:Nat}{p2:Entry}{H:Hp}{r:(Unit)×Hp}(h:hJ fuel rc p0 p1 p2 H=some r):SC Tryz.prog false 87 [.d (.ptr p0 0),.d (.ptr p1 0),.d (ab p2)] H (.iQ []) r.2:=by
 refine dr Tryz.func87 rfl ?_
 unfold hJ at h
 exact aI 85 H (K17 p0 p1 [(2,ny p2)])<|ar 1<|aA<|aa 3<|bI h λr1 hr h=>mc (ls:=[]) (vK hr)<|aa 5<|ak<|an<|aA<|aa 1<|bI h λr2 hr h=>mc (ls:=[]) (eJ hr)<|ak<|aT h (λh=>an<|bI h λq3 hq3 h=>bI h λr5 hr_9 h=>bI h λH6 hx_13 h=>aI 85 H [(1,.d (.ptr p1 0)),(5,me p2),(6,vI r1.1)]<|lZ p1 0 λv4=>fx [0,1,2,3,4,6,5,7] [8,9,10,11,12,13] κ κ<|aB<|aB<|aB<|aB<|aB<|dp 85 (ei H p1 0 v4) [5,20,24,26] [(5,me p2),(20,.d (.ptr p1 0)),(24,.d (.ptr p1 0)),(26,vI r1.1)] κ<|cl (s:=.d (.raw v4)) (gY (c:=aP) (n':=3) hq3 κ)<|aB<|dX<|aS [25] 1<|z8 85 (ei H p1 0 v4) 28 [20,25,26,28] [(20,.d (.ptr p1 0)),(25,.d (.raw v4)),(26,vI r1.1),(28,QX p2)] κ<|nC (c:=aP) (n':=3) (t:=25) [20,25,26,28] [(20,.d (.ptr p1 0)),(25,Hz q3),(26,vI r1.1),(28,QX p2)] hq3 κ κ κ<|tt (d:=some 29) (ls:=[]) (gs:=[(25,0)]) [0] [(20,.d (.ptr p1 0)),(29,.own 3 (List.map ab r5))] (mF hr_9)<|aS [25] 1<|aS [25] 1<|aS [25] 1<|fF 29 hx_13<|ak<|al<|aq<|iI h▸E0) (λh=>ao<|ag<|aA<|aa 3<|bI h λx7 hx h=>ax (aY hx)<|aa 1<|bI h λx8 hx h=>ax (s:=bb (some (.au p1 1)) [cP.enc x8]) (cz (n:=1) hx)<|aa 2<|ak<|aA<|aX [] [0,1,6,8,40,41,42] 3<|bI h λi9 hp_i9 h=>bH x8 (λp=>(sp 85 (K17 p0 p1 [(6,vI r1.1),(8,.d (cP.enc p)),(40,.d (.ptr p0 0)),(41,.d (cP.enc p)),(42,ny p2)]) H)) κ hp_i9<|bI h λr10 hr h=>b8 (ih hr)<|ak<|an<|zj<|bp 4<|bI h λx11 hx h=>bU (aY hx)<|bU (aJ (enc:=ab) (xs:=x11))<|bp 3<|bI h λx12 hx h=>bU (s:=vI x12) (aF hx)<|bp 1<|cd<|ag<|aT h (λh=>aA<|aa 1<|bI h λr13 hr h=>b8 (Ao hr)<|aa 6<|ak<|an<|bI h λq14 hq14 h=>bI h λr16 hr_9 h=>bI h λH17 hx_13 h=>aI 85 r13.2 [(1,.d (.ptr p1 0)),(6,vI r1.1),(9,Uo r13),(10,.d (cP.enc r13.1.2))]<|lZ p1 0 λv15=>fx [0,1,2,3,4,6,5,7] [8,9,10,11,12,13] κ κ<|aB<|aB<|aB<|aB<|aB<|dp 85 (ei r13.2 p1 0 v15) [1,6,9,10,60,64,66] [(1,.d (.ptr p1 0)),(6,vI r1.1),(9,Uo r13),(10,.d (cP.enc r13.1.2)),(60,.d (.ptr p1 0)),(64,.d (.ptr p1 0)),(66,vI r1.1)] κ<|cl (s:=.d (.raw v15)) (gY (c:=aP) (n':=3) hq14 κ)<|aB<|dX<|aS [65] 1<|z8 85 (ei r13.2 p1 0 v15) 68 [1,6,10,60,65,66,68] [(1,.d (.ptr p1 0)),(6,vI r1.1),(10,.d (cP.enc r13.1.2)),(60,.d (.ptr p1 0)),(65,.d (.raw v15)),(66,vI r1.1),(68,Un r13)] κ<|nC (c:=aP) (n':=3) (t:=65) [1,6,10,60,65,66,68] [(1,.d (.ptr p1 0)),(6,vI r1.1),(10,.d (cP.enc r13.1.2)),(60,.d (.ptr p1 0)),(65,Hz q14),(66,vI r1.1),(68,Un r13)] hq14 κ κ κ<|tt (d:=some 69) (ls:=[]) (gs:=[(65,0)]) [0] [(1,.d (.ptr p1 0)),(6,vI r1.1),(10,.d (cP.enc r13.1.2)),(60,.d (.ptr p1 0)),(69,.own 3 (List.map ab r16))] (mF hr_9)<|aS [65] 1<|aS [65] 1<|aS [65] 1<|fF 69 hx_13<|ak<|ah<|aS [77] 4<|bI h λq18 hq h=>m9 hq<|aX [77] [73,77,79,80] 3<|bI h λi19 hp_i19 h=>bH r13.1.2 (λp=>(sp 85 [(73,.d (.ptr p1 0)),(77,SX q18),(79,Vh r1),(80,.d (cP.enc p))] q18.2)) κ hp_i19<|aa 1<|tZ 81<|bI h λr20 hr h=>iz 85 q18.2 (d:=some 82) (ls:=[]) (gs:=[(77,0)]) [0] [73,82] [(73,.d (.ptr p1 0)),(82,.own 1 (List.map cP.enc r20))] (mj hr) κ κ κ<|aS [77] 2<|bI h λH21 hx h=>fF 82 hx<|af<|iI h▸EN) (λh=>ao<|iI h▸EN))
end
theorem Cs{fuel:Nat}: ∀{p0:Nat} {p1:Nat} {p2:Entry} {H:Hp} {r:(Unit)×Hp},kP fuel p0 p1 p2 H=some r->SC Tryz.prog false 87 [.d (.ptr p0 0),.d (.ptr p1 0),.d (ab p2)] H (.iQ []) r.2:=by
 induction fuel with
 |zero=>intros;rename_i h;exact nomatch (show(none:Option ((Unit)×Hp))=some _ from h)
 |succ fuel ih=>exactλh=>zq ih h
def eG(fuel:Nat)(p0:Nat)(p1:Entry)(H:Hp):Option ((Unit)×Hp):=
 (bE cP.cell H p0 4).bind λx1=>
 x1.bind λi2=>
 (kP fuel p0 i2 p1 H).bind λr3=>
 (bE cP.cell r3.2 p0 4).bind λx4=>
 x4.bind λi5=>
 (bL 3 aP r3.2 i5 0).bind λx6=>
 (bE (cI .i64).cell r3.2 p0 3).bind λx7=>
 bif (decide ((x6.length:Int)>x7))then
  (bE cP.cell r3.2 p0 4).bind λx8=>
  x8.bind λi9=>
  (nQ fuel i9 r3.2).bind λr10=>
  r10.1.2.bind λi12=>
  (nv r10.2 (.cells [.own 3 (List.map ab [r10.1.1]),.own 1 (List.map cP.enc [(some i9),(some i12)])])).bind λq14=>
  (ee cP q14.1 p0 4 (some q14.2)).bind λH15=>
  (bE (cI .i64).cell H15 p0 6).bind λx16=>
  (ee (cI .i64) H15 p0 6 (IntKind.wrap .i64 (x16+1))).bind λH17=>
  some ((),H17)
 else
  (bE (cI .i64).cell r3.2 p0 6).bind λx18=>
  (ee (cI .i64) r3.2 p0 6 (IntKind.wrap .i64 (x18+1))).bind λH19=>
  some ((),H19)
def Vg(x0:Nat)(x1:Nat):SV:=.own 1 (List.map cP.enc [(some x0),(some x1)])
section
attribute [local irreducible] cf jj lh lH SW uS
def K47:=λa0 a1 a2 a3 (t:SL)=>((0,.d (.ptr a0 0))::(37,.d (.ptr a1 0))::(39,.mf a2 3 (List.map ab [a3]))::t:SL)
def K57:=λa0 a1 a2 a3 (t:SL)=>((0,.d (.ptr a0 0))::(4,.d (.ptr a1 0))::(6,.d (cP.enc a2))::(37,.d (.ptr a3 0))::t:SL)
theorem pY(h:eG fuel p0 p1 H=some r):SC Tryz.prog false 62 [.d (.ptr p0 0),.d (ab p1)] H (.iQ []) r.2:=by
 refine dr Tryz.func62 rfl ?_
 unfold eG at h
 exact aI 55 H [(0,.d (.ptr p0 0)),(1,ny p1)]<|ar 1<|an<|an<|g8 6 κ κ<|bp 4<|bI h λx1 hx h=>bU (s:=.d (cP.enc x1)) (aF hx)<|pe [] [0,7,11,12] 1<|cd<|bI h λi2 hp_i2 h=>bH x1 (λp=>(sp 55 [(0,.d (.ptr p0 0)),(7,.d (.ptr p0 0)),(11,.d (cP.enc p)),(12,ny p1)] H)) κ hp_i2<|bI h λr3 hr h=>b8 (Cs hr)<|ak<|an<|zj<|bp 3<|bI h λx4 hx h=>bU (s:=.d (cP.enc x4)) (aF hx)<|bI h λi5 hp_i5 h=>bU (s:=.d (.ptr i5 0)) (bh hp_i5)<|bp 2<|bI h λx6 hx h=>bU (aY hx)<|bU (aJ (enc:=ab) (xs:=x6))<|bp 3<|bI h λx7 hx h=>bU (s:=vI x7) (aF hx)<|bp 1<|cd<|ag<|aT h (λh=>aA<|aa 3<|bI h λx8 hx h=>ax (s:=.d (cP.enc x8)) (aF hx)<|aa 1<|ak<|aA<|aX [] [0,4,33] 1<|bI h λi9 hp_i9 h=>bH x8 (λp=>(sp 55 [(0,.d (.ptr p0 0)),(4,.d (cP.enc p)),(33,.d (cP.enc p))] r3.2)) κ hp_i9<|bI h λr10 hr h=>b8 (Ao hr)<|aa 6<|ak<|ah<|bm 55 r10.2 [] [0,4,6,37,39] 3 (K57 p0 i9 r10.1.2 p0 [(39,Vi r10)]) κ<|yp (n':=3) (t:=39) (xs:=List.map ab [r10.1.1]) (λv11=>(K57 p0 i9 r10.1.2 p0 [(39,.mf v11 3 (List.map ab [r10.1.1]))])) κ (λ_=>by kernel_rfl) λv11=>iw 55 r10.2 (d:=some 40) (s:=.d (.agg [.raw v11])) [0,4,6,37,39,40] (K57 p0 i9 r10.1.2 p0 [(39,.mf v11 3 (List.map ab [r10.1.1])),(40,.d (.agg [.raw v11]))]) (Co 39 κ) κ<|aX [] [0,37,39,40,41,42] 2<|bI h λi12 hp_i12 h=>bH r10.1.2 (λp=>(sp 55 (K47 p0 p0 v11 r10.1.1 [(40,.d (.agg [.raw v11])),(41,.d (.ptr i9 0)),(42,.d (cP.enc p))]) r10.2)) κ hp_i12<|aK 1 (K47 p0 p0 v11 r10.1.1 [(40,.d (.agg [.raw v11])),(43,Vg i9 i12)])<|yp (n':=1) (t:=43) (xs:=List.map cP.enc [(some i9),(some i12)]) (λv13=>(K47 p0 p0 v11 r10.1.1 [(40,.d (.agg [.raw v11])),(43,.mf v13 1 (List.map cP.enc [(some i9),(some i12)]))])) κ (λ_=>by kernel_rfl) λv13=>iw 55 r10.2 (d:=some 44) (s:=.d (.agg [.raw v11,.raw v13])) [0,37,39,43,44] (K47 p0 p0 v11 r10.1.1 [(43,.mf v13 1 (List.map cP.enc [(some i9),(some i12)])),(44,.d (.agg [.raw v11,.raw v13]))]) (Co 43 κ) κ<|bI h λq14 hq h=>DZ (d:=some 45) 55 [] [(0,39,v11,3,List.map ab [r10.1.1]),(1,43,v13,1,List.map cP.enc [(some i9),(some i12)])] [0,37,45] [(0,.d (.ptr p0 0)),(37,.d (.ptr p0 0)),(45,.d (.ptr q14.2 0))] hq κ κ ⟨κ,κ,κ,κ,κ,κ,trivial⟩ κ<|aa 2<|bI h λH15 hx h=>ga hx<|ak<|ah<|aa 3<|bI h λx16 hx h=>ax (s:=vI x16) (aF hx)<|aa 3<|bI h λH17 hx h=>ga hx<|af<|iI h▸EN) (λh=>ao<|ag<|ah<|aa 3<|bI h λx18 hx h=>ax (s:=vI x18) (aF hx)<|aa 3<|bI h λH19 hx h=>ga hx<|af<|iI h▸EN)
def eI(fuel:Nat)(p0:Nat)(p1:(List Value))(p2:Int)(H:Hp):Option ((Int×Int)×Hp):=
 (hU fuel p0 p1 p2 H).bind λr1=>
 bif (r1 !=0)then
  some ((0,r1),H)
 else
  bz (λ(j2:Hp)=>
   (bE (cI .i64).cell j2 p0 5).bind λx8=>
   (ee (cI .i64) j2 p0 5 (IntKind.wrap .i64 (x8+1))).bind λH9=>
   (dx fuel p1).bind λr10=>
   (bE (cI .i64).cell H9 p0 5).bind λx11=>
   (eG fuel p0 (⟨r10,p2,x11⟩:Entry) H9).bind λr12=>
   (bE (cI .i64).cell r12.2 p0 5).bind λx13=>
   some ((x13,0),r12.2)) λjp3=>
  (bE (cI .i64).cell H p0 2).bind λx4=>
  bif (x4==1)then
   (kQ fuel p0 p1 H).bind λr5=>
   bif r5.1 then
    some ((0,6),r5.2)
   else
    (bE (cI .i64).cell r5.2 p0 6).bind λx6=>
    bif (decide (x6>=500))then
     some ((0,4),r5.2)
    else
     jp3 r5.2
  else
   (bE (cI .i64).cell H p0 6).bind λx7=>
   bif (decide (x7>=500))then
    some ((0,4),H)
   else
    jp3 H
theorem mA(h:eI fuel p0 p1 p2 H=some r):SC Tryz.prog false 32 [.d (.ptr p0 0),.d (.list 3 (List.map ay p1)),vI p2] H (.iQ [vI r.1.1,vI r.1.2]) r.2:=by
 refine dr Tryz.func32 rfl ?_
 unfold eI at h
 exact aI 55 H (K37 p0 p1 p2 [])<|ar 1<|an<|aA<|aa 3<|bI h λr1 hr h=>mc (ls:=[]) (nF hr)<|aa 1<|ak<|ar 1<|aT h (λh=>ar 1<|al<|aq<|iI h▸E0) (λh=>ao<|ag<|sY 55 [0,1,2] (λ(j2:Hp)=>(K37 p0 p1 p2 [])) (λ(j2:Hp)=>j2) h (λj2 h=>aA<|aa 3<|bI h λx8 hx h=>ax (s:=vI x8) (aF hx)<|aa 3<|bI h λH9 hx h=>ga hx<|ak<|an<|bI h λr10 hr_2 h=>bI h λx11 hx11 h=>bI h λr12 hr_9 h=>aI 55 H9 (K37 p0 p1 p2 [])<|gW 55 r12.2 [(0,.d (.ptr p0 0))] [0,1,3,4,5,6] 4 123 κ κ κ (λX hX=>by subst hX;exact aB<|aB<|aB<|aB<|aB<|dp 55 H9 [0,41,42,44,47] [(0,.d (.ptr p0 0)),(41,.d (.ptr p0 0)),(42,Z9 p1),(44,vI p2),(47,.d (.ptr p0 5))] κ<|dX<|nA [] [(2,eV _),(7,eV (vI x11)),(8,eF 43),(9,eH _ _)] ⟨Cn (ke hr_2),Ac (c:=(cI .i64).cell) hx11,zo,RQ (pY hr_9),trivial⟩) (ag<|aA<|aa 3<|bI h λx13 hx h=>ax (s:=vI x13) (aF hx)<|aa 2<|ak<|al<|iI h▸E0)) λjp3 h=>aM<|aA<|aa 4<|bI h λx4 hx h=>ax (s:=vI x4) (aF hx)<|aX [] [0,1,2,23] 2<|cn (λb=>(sp 55 (K37 p0 p1 p2 [(23,vB b)]) H)) h (λh=>aa 2<|bI h λr5 hr h=>b8 (ux hr)<|aa 2<|ak<|aT h (λh=>ar 1<|al<|aQ<|aq<|iI h▸E0) (λh=>aA<|aa 3<|bI h λx6 hx h=>ax (s:=vI x6) (aF hx)<|aa 2<|ak<|aT h (λh=>ar 1<|al<|aQ<|aq<|iI h▸E0) (λh=>ao<|aR<|JQ [] h))) λh=>aa 5<|ak<|jK<|aA<|aa 3<|bI h λx7 hx h=>ax (s:=vI x7) (aF hx)<|aa 2<|ak<|aT h (λh=>ar 1<|al<|aQ<|aq<|iI h▸E0) (λh=>ao<|aR<|JQ [] h))
def Ap(fuel:Nat)(p0:Entry):Option (Entry):=
 (dx fuel p0.Row).bind λr1=>
 some (⟨r1,p0.Key,p0.Number⟩:Entry)
def Vf(x0:Int×Hp):SV:=vI (IntKind.wrap .i64 (x0.1+1))
def Ve(x0:Int):SV:=.d (.list 3 (List.map ay [(⟨1,x0,[]⟩:Value)]))
theorem oK(h:Ap fuel p0=some r):PC Tryz.prog 44 [.d (ab p0)] (.d (.agg [.list 3 (List.map ay r.Row),.int .i64 r.Key,.int .i64 r.Number])):=by
 refine aW Tryz.func44 rfl λH=>?_
 unfold Ap at h
 exact aI 8 H [(0,ny p0)]<|ar 1<|aA<|aa 2<|bI h λr1 hr h=>bJ (ke hr)<|aa 1<|tZ 5<|aa 1<|ak<|ar 1<|al<|iI h▸E0
def ea(fuel:Nat)(q1:(Hp×Nat))(e5:Entry)(G6:Hp):Option Hp:=
 (dQ 3 aP G6 q1.2 0).bind λq7=>
 (Ap fuel e5).bind λr8=>
 ff (decide ((q7.1++[r8]).length<=room))<|
 (dh 3 aP q7.2 q1.2 0 (q7.1++[r8])).bind λH10=>
 some H10
def kR(fuel:Nat)(p0:Nat)(H:Hp):Option (((List Entry))×Hp):=
 (nv H (.cells [.own 3 (List.map ab ([]:List Entry))])).bind λq1=>
 (bE cP.cell q1.1 p0 4).bind λx2=>
 x2.bind λi3=>
 (oL fuel i3 q1.1).bind λr4=>
 (lJ fuel (ea fuel q1) (some i3) q1.1).bind λH11=>
 (dQ 3 aP H11 q1.2 0).bind λq12=>
 some (q12.1,q12.2)
def CH(x0:((List Entry)×Hp))(x1:Entry):SV:=.own 3 (List.map ab (x0.1++[x1]))
def K46:=λa0 a1 (t:SL)=>((3,.d (.ptr a0 0))::(13,Hz a1)::t:SL)
theorem kq(h:kR fuel p0 H=some r):SC Tryz.prog false 17 [.d (.ptr p0 0)] H (.own 3 (List.map ab r.1)) r.2:=by
 refine tb Tryz.func17 rfl ?_
 unfold kR at h
 exact B6 19 H [0] [(0,.d (.ptr p0 0))] κ<|ir<|ah<|aK 1 [(0,.d (.ptr p0 0))]<|ak<|ir<|ah<|aK 1 [(0,.d (.ptr p0 0)),(3,.box [.d (.cG)])]<|ak<|bI h λq1 hq h=>fN hq 3 19 [(0,3)] [0,3] [(0,.d (.ptr p0 0)),(3,.d (.ptr q1.2 0))] κ (by cases hq;kernel_rfl)<|vy<|ir<|ah<|aK 2 [(0,.d (.ptr p0 0)),(3,.d (.ptr q1.2 0)),(6,vB true)]<|ak<|HK κ<|ir<|ah<|aa 3<|bI h λx2 hx h=>tg (s:=.d (cP.enc x2)) [3,10] (aF hx)<|bI h λi3 hp_i3 h=>bH x2 (λp=>(sp 19 [(3,.d (.ptr q1.2 0)),(10,.d (cP.enc p))] q1.1)) κ hp_i3<|bI h λr4 hr h=>gd (ls:=[]) (some 11) [(3,.d (.ptr q1.2 0)),(11,O7 i3)] (pF hr)<|ak<|s9<|bI h λH11 hit h=>Fk (f:=78) (caps:=[.fV [.ptr i3 0]]) (H':=H11) [(3,.ptr q1.2 0)] κ κ κ κ (λl R cR hpe hps has hbd hsz=>zp tw.fr (λe5 G6 H9 h=>by
  unfold ea at h;exact CJ (n:=19) cR hpe hps (hsz.trans (mX _ _ _)) [(3,.d (.ptr q1.2 0)),(12,.d (.agg [.list 3 (List.map ay e5.Row),.int .i64 e5.Key,.int .i64 e5.Number]))] (xb ⟨.inr ⟨by decide,_,rfl,.head _⟩,⟨.inl ⟨rfl,rfl⟩,trivial⟩⟩)<|(by
   rw[has,hbd];exact py κ<|aK 2 [(3,.d (.ptr q1.2 0)),(4,me e5)]<|af<|JI<|bI h λq7 hq_0 h=>bI h λr8 hr_2 h=>nJ h λhk9 h=>bI h λH10 hx_5 h=>Q1 19 G6 [3,4] [(3,.d (.ptr q1.2 0)),(4,me e5)] κ<|(by
    refine DU 19 H10 [] κ (λX hX=>?_) (by cases h;exact rfl)
    .have c63:X 0 63 (sp 19 [] H10):=by subst hX;exact pA κ
     have c31:X 1 31 (sp 19 [(3,.d (.ptr q1.2 0)),(17,CH q7 r8)] q7.2):=by subst hX;exact aV 5 [] ⟨Cb (c:=aP) (n':=3) (s:=17) (xs:=(q7.1++[r8])) 19 [] [] hx_5 κ κ<|af c63,trivial⟩
     have c15:X 2 15 (sp 19 (K46 q1.2 q7 [(16,yf r8)]) q7.2):=by subst hX;exact aV 4 [] ⟨qD 19 q7.2 (s:=13) (d:=17) (w:=3) [3,17] (zs:=List.map ab (q7.1++[r8])) [(3,.d (.ptr q1.2 0)),(17,CH q7 r8)] (ys:=(List.map ab [r8])) κ (bF) (cC hk9) κ<|af c31,trivial⟩
     have c7:X 3 7 (sp 19 (K46 q1.2 q7 [(15,ny r8)]) q7.2):=by subst hX;exact aV 3 [] ⟨bm 19 q7.2 [13] [3,13,16] 1 (K46 q1.2 q7 [(16,yf r8)]) κ<|af c15,trivial⟩
     have c3:X 4 3 (sp 19 (K46 q1.2 q7 [(14,ny e5)]) q7.2):=by subst hX;exact aV 2 [] ⟨iz 19 q7.2 (d:=some 15) (ls:=[]) (gs:=[]) [] [3,13,15] (K46 q1.2 q7 [(15,.d (.agg [.list 3 (List.map ay r8.Row),.int .i64 r8.Key,.int .i64 r8.Number]))]) (oK hr_2) κ κ κ<|af c7,trivial⟩
     have c1:X 5 1 (sp 19 [(3,.d (.ptr q1.2 0)),(4,me e5),(13,Hz q7)] q7.2):=by subst hX;exact aV 1 [] ⟨bm 19 q7.2 [13] [3,13,14] 1 (K46 q1.2 q7 [(14,ny e5)]) κ<|af c3,trivial⟩
     have c14:X 3 14 (sp 19 [(3,.d (.ptr q1.2 0)),(16,yf r8)] G6):=by subst hX;exact aV 0 [] ⟨tf (c:=aP) (n':=3) (d:=13) (xs:=q7.1) 19 [3,13,16] (K46 q1.2 q7 [(16,yf r8)]) hq_0 κ κ<|af c15,trivial⟩
     have c6:X 4 6 (sp 19 [(3,.d (.ptr q1.2 0)),(15,ny r8)] G6):=by subst hX;exact aV 0 [3] ⟨tf (c:=aP) (n':=3) (d:=13) (xs:=q7.1) 19 [3,13,15] (K46 q1.2 q7 [(15,ny r8)]) hq_0 κ κ<|af c7,bm 19 G6 [13] [3,16] 1 [(3,.d (.ptr q1.2 0)),(16,yf r8)] κ<|af c14,trivial⟩
     have c2:X 5 2 (sp 19 [(3,.d (.ptr q1.2 0)),(14,ny e5)] G6):=by subst hX;exact aV 0 [2] ⟨tf (c:=aP) (n':=3) (d:=13) (xs:=q7.1) 19 [3,13,14] (K46 q1.2 q7 [(14,ny e5)]) hq_0 κ κ<|af c3,ub (some 15) [(3,.d (.ptr q1.2 0)),(15,ny r8)] (oK hr_2)<|af c6,trivial⟩
     have c0:X 6 0 (sp 19 [(3,.d (.ptr q1.2 0)),(4,me e5)] G6):=by subst hX;exact aV 0 [1] ⟨tf (c:=aP) (n':=3) (d:=13) (xs:=q7.1) 19 [3,4,13] [(3,.d (.ptr q1.2 0)),(4,me e5),(13,.own 3 (List.map ab q7.1))] hq_0 κ κ<|af c1,bm 19 G6 [13] [3,14] 1 [(3,.d (.ptr q1.2 0)),(14,ny e5)] κ<|af c2,trivial⟩
     exact c0))) hit) (aR<|ag<|(by intro ds;exact BX<|sX<|JS 2<|bI h λq12 hq h=>m9 hq<|bm 19 q12.2 [] [2] 1 [(2,Hz q12)] κ<|af<|MR.D<|ag<|BY<|iI h▸E0))
def jq(fuel:Nat)(r1:(((List Entry))×Hp))(y2:(List Int)×Int×Hp):Option (((List Int)×Int×Hp)⊕((List Int)×Hp)):=
 bif (decide (y2.2.1<(r1.1.length:Int)))then
  (idx r1.1 y2.2.1).bind λx3=>
  ff (decide ((y2.1++[x3.Key]).length<=room))<|
  some (.inl ((y2.1++[x3.Key]),(IntKind.wrap .i64 (y2.2.1+1)),y2.2.2))
 else
  some (.inr (y2.1,y2.2.2))
def lk(fuel:Nat)(p0:Nat)(H:Hp):Option (((List Int))×Hp):=
 (kR fuel p0 H).bind λr1=>
 (iter (jq fuel r1) fuel (([]:List Int),0,r1.2)).bind λv5=>
 some (v5.1,v5.2)
def Pb(x0:(((List Entry))×Hp)):SV:=.own 3 (List.map ab x0.1)
def Vd(x0:(List Int)×Int×Hp):SV:=.own 1 (List.map (D.int .i64) x0.1)
theorem oM(h:lk fuel p0 H=some r):SC Tryz.prog false 33 [.d (.ptr p0 0)] H (.own 1 (List.map (D.int .i64) r.1)) r.2:=by
 refine dr Tryz.func33 rfl ?_
 unfold lk at h
 exact aI 20 H [(0,.d (.ptr p0 0))]<|ar 2<|an<|aA<|aa 1<|bI h λr1 hr h=>b8 (kq hr)<|ax (aJ (enc:=ab) (xs:=r1.1))<|aa 1<|ak<|aM<|bI h λv5 hit h=>l7 20 [3,7,8,9] (λy2=>[(3,.own 1 (List.map (D.int .i64) y2.1)),(7,Pb r1),(8,vI (r1.1.length:Int)),(9,vI y2.2.1)]) (λy2=>y2.2.2) (λv5 e s=>(e=.exit 0/\s=(sp 20 [(3,.own 1 (List.map (D.int .i64) v5.1))] v5.2))) hit κ (λy2 o h=>by unfold jq at h;exact ar 1<|an<|aT h (λh=>ao<|ag<|an<|aM<|aA<|bI h λx3 hx h=>ax (s:=bb (some (.slot 7)) (ab x3).cells) (aD (n:=3) hx)<|aa 3<|ak<|ah<|aS [13] 4<|nJ h λhk h=>gb 13 1 (List.map (D.int .i64) (y2.1++[x3.Key])) (bF) (cC hk)<|aS [13] 1<|af<|aR<|ag<|ah<|aa 2<|af<|LQ h) (λh=>aI 20 y2.2.2 [(3,Vd y2)]<|bT<|ba<|ba<|LR h ⟨rfl,rfl⟩)) (by rintro _ _ ⟨rfl,rfl⟩;exact bw<|ag<|aA<|aS [19] 2<|ak<|al<|iI h▸E0)
def Bj(fuel:Nat)(r1:(((Option Nat)×Int)×Hp))(y2:Int×Hp):Option ((Int×Hp)⊕((Hp)⊕((Bool)))):=
 bif (decide (y2.1<3))then
  (idx [5,5,3] y2.1).bind λx3=>
  r1.1.1.bind λi4=>
  (eI fuel i4 [(⟨1,x3,[]⟩:Value)] (IntKind.wrap .i64 (y2.1+1)) y2.2).bind λr5=>
  bif (r5.1.2 !=0)then
   some (.inr (.inr false))
  else
   some (.inl ((IntKind.wrap .i64 (y2.1+1)),r5.2))
 else
  some (.inr (.inl y2.2))
def nW(fuel:Nat):Option (Bool):=
 (yD fuel (⟨[1],[false],2⟩:az) 4 []).bind λr1=>
 bif (r1.1.2 !=0)then
  some false
 else
  (iter (Bj fuel r1) fuel (0,r1.2)).bind (Sum.elim (λv7=>
   r1.1.1.bind λi8=>
   (lk fuel i8 v7).bind λr9=>
   bif ((r9.1.length:Int)==3)then
    (idx r9.1 0).bind λx10=>
    bif (x10==3)then
     (idx r9.1 1).bind λx11=>
     bif (x11==2)then
      (idx r9.1 2).bind λx12=>
      some (x12==1)
     else
      some false
    else
     some false
   else
    some false) (λr13=>
   some r13))
def MA(x0:(((List Int))×Hp)):SV:=.own 1 (List.map (D.int .i64) x0.1)
theorem kZ(h:nW fuel=some r):PC Tryz.prog 8 [] (vB r):=by
 exact mb Tryz.func8 rfl (by simp[gP,fH,fS,vI,vB,vS]) (by simp[gP,fH,fS,vI,vB,vS])<|(by unfold nW at h;exact aI 58 [] []<|ar 1<|aA<|aa 2<|tZ 8<|tZ 9<|aa 1<|bI h λr1 hr h=>b8 (At hr)<|aa 5<|ak<|an<|ar 1<|aT h (λh=>ar 1<|al<|aq<|iI h▸EL) (λh=>ao<|ag<|an<|ar 1<|aM<|bI h λz6 hit h=>l7 58 [1,3] (λy2=>[(1,.d (cP.enc r1.1.1)),(3,vI y2.1)]) (λy2=>y2.2) (λb e s=>((∃v7,b=(.inl v7)/\(e=.exit 0/\s=(sp 58 [(1,.d (cP.enc r1.1.1))] v7)))\/(∃r13,b=(.inr r13)/\(e=.ret/\J1 Tryz.prog Tryz.f8.results.toList (vB r13) .ret s)))) hit κ (λy2 o h=>by unfold Bj at h;exact an<|ar 1<|aT h (λh=>ao<|ag<|an<|aM<|aA<|aa 3<|bI h λx3 hx h=>ax (s:=bb (some (.slot 22)) (Go.Sh.D.cells ((D.int .i64) x3))) (aD (n:=1) hx)<|aa 3<|tZ 27<|aX [] [1,3,21,27,29] 2<|bI h λi4 hp_i4 h=>bH r1.1.1 (λp=>(sp 58 [(1,.d (cP.enc p)),(3,vI y2.1),(21,.d (cP.enc p)),(27,Ve x3),(29,Vf y2)] y2.2)) κ hp_i4<|bI h λr5 hr h=>b8 (mA hr)<|aa 5<|ak<|ar 1<|aT h (λh=>ar 1<|al<|aQ<|aq<|aq<|LR h (.inr (⟨false,rfl,rfl,J1.ret [] κ⟩))) (λh=>ao<|aR<|ag<|ah<|aa 3<|af<|(by cases h;exact⟨((IntKind.wrap .i64 (y2.1+1)),r5.2),rfl,by rw[hp_i4];kernel_rfl⟩))) (λh=>aI 58 y2.2 [(1,.d (cP.enc r1.1.1))]<|bT<|ba<|ba<|LR h (.inl ⟨y2.2,rfl,rfl,rfl⟩))) (by rintro _ _ (⟨v7,rfl,rfl,rfl⟩|⟨r13,rfl,rfl,hE⟩);exact have h:=js h;bw<|ag<|aA<|aX [] [35] 1<|bI h λi8 hp_i8 h=>bH r1.1.1 (λp=>(sp 58 [(35,.d (cP.enc p))] v7)) κ hp_i8<|bI h λr9 hr h=>b8 (oM hr)<|aa 1<|ak<|aA<|aa 1<|ax (aJ (enc:=(D.int .i64)) (xs:=r9.1))<|aX [] [6,40] 2<|cn (λb=>(sp 58 [(6,MA r9),(40,vB b)] r9.2)) h (λh=>aa 1<|bI h λx10 hx h=>ax (s:=bb (some (.slot 6)) (Go.Sh.D.cells ((D.int .i64) x10))) (aD (n:=1) hx)<|aX [] [6,46] 4<|cn (λb=>(sp 58 [(6,MA r9),(46,vB b)] r9.2)) h (λh=>aa 1<|bI h λx11 hx h=>ax (s:=bb (some (.slot 6)) (Go.Sh.D.cells ((D.int .i64) x11))) (aD (n:=1) hx)<|aX [] [6,52] 4<|cn (λb=>(sp 58 [(6,MA r9),(52,vB b)] r9.2)) h (λh=>aS [53] 1<|bI h λx12 hx h=>ax (s:=bb (some (.slot 53)) (Go.Sh.D.cells ((D.int .i64) x12))) (aD (n:=1) hx)<|aS [53] 4<|ak<|al<|iI h▸EL) λh=>aS [53] 6<|ak<|al<|iI h▸EL) λh=>aS [53] 12<|ak<|al<|iI h▸EL) λh=>aS [53] 18<|ak<|al<|iI h▸EL;exact have h:=jr h;aQ<|aq<|(by cases h;exact hE))))
structure Tree where
 S:az
 Order:Int
 fk:(List Entry)
 gK:Int
 deriving DecidableEq,Inhabited
def n9(x:Tree):D:=.agg [.list 1 (List.map (D.int .i64) x.S.aG),.list 1 (List.map D.bool x.S.Down),.int .i64 x.S.eD,.int .i64 x.Order,.list 3 (List.map ab x.fk),.int .i64 x.gK]
structure S0 where
 t:(Option Nat)
 r:Tree
 same:Bool
 ok:Bool
 deriving DecidableEq,Inhabited
def oO(fuel:Nat)(p0:az)(y1:Int):Option ((Int)⊕((Unit)⊕((Bool)))):=
 bif (decide (y1<(p0.aG.length:Int)))then
  (idx p0.aG y1).bind λx2=>
  bif (x2 !=1)then
   (idx p0.aG y1).bind λx3=>
   bif (x3 !=2)then
    some (.inr (.inr false))
   else
    some (.inl (IntKind.wrap .i64 (y1+1)))
  else
   some (.inl (IntKind.wrap .i64 (y1+1)))
 else
  some (.inr (.inl ()))
def tK(fuel:Nat)(p0:az):Option (Bool):=
 (iter (oO fuel p0) fuel 0).bind (Sum.elim (λv5=>
  bif (decide ((p0.aG.length:Int)>=1))then
   bif (decide ((p0.aG.length:Int)<=8))then
    some ((((p0.Down.length:Int)==(p0.aG.length:Int))&&(decide (p0.eD>=1)))&&(decide (p0.eD<=3)))
   else
    some false
  else
   some false) (λr6=>
  some r6))
def Uk:SV:=.box [.d (.fZ),.d (.cG),.d (.cG),vI 0,vI 0,.d (.cG),vI 0,vB false,vB false]
def uq:SV:=.box [.d (.cG),.d (.cG),vI 0,vI 0,.d (.cG),vI 0]
theorem AJ(h:tK fuel p0=some r):PC Tryz.prog 45 [.d (cD p0)] (vB r):=by
 refine aW Tryz.func45 rfl λH=>?_
 unfold tK at h
 exact aI 54 H [(0,Z2 p0)]<|ar 1<|an<|ar 1<|aM<|bI h λz4 hit h=>fM 54 H [1,3] (λy1=>[(1,Z1 p0),(3,vI y1)]) (λb e s=>((∃v5,b=(.inl v5)/\(e=.exit 0/\s=(sp 54 [(1,Z1 p0)] H)))\/(∃r6,b=(.inr r6)/\(e=.ret/\dw Tryz.prog Tryz.f45.results.toList H (vB r6) .ret s)))) hit κ (λy1 o h=>by unfold oO at h;exact an<|aA<|aa 3<|ax (aJ (enc:=(D.int .i64)) (xs:=p0.aG))<|aa 1<|ak<|aT h (λh=>ao<|ag<|an<|aM<|aA<|aa 3<|bI h λx2 hx h=>ax (s:=bb none (Go.Sh.D.cells ((D.int .i64) x2))) (aD (n:=1) hx)<|aX [] [1,3,17] 3<|cn (λb=>(sp 54 [(1,Z1 p0),(3,vI y1),(17,vB b)] H)) h (λh=>aa 3<|bI h λx3 hx h=>ax (s:=bb none (Go.Sh.D.cells ((D.int .i64) x3))) (aD (n:=1) hx)<|aa 3<|ak<|aT h (λh=>ar 1<|al<|aQ<|aq<|aq<|LR h (.inr (⟨false,rfl,rfl,dw.ret [] κ κ⟩))) (λh=>ao<|aR<|ag<|ah<|aa 3<|af<|LQ h)) λh=>aa 7<|ak<|jK<|ao<|aR<|ag<|ah<|aa 3<|af<|LQ h) (λh=>aI 54 H [(1,Z1 p0)]<|bT<|ba<|ba<|LR h (.inl ⟨(),rfl,rfl,rfl⟩))) (by rintro _ _ (⟨v5,rfl,rfl,rfl⟩|⟨r6,rfl,rfl,hE⟩);exact have h:=js h;bw<|ag<|aA<|aa 2<|ax (aJ (enc:=(D.int .i64)) (xs:=p0.aG))<|aX [] [1,29] 2<|cn (λb=>(sp 54 [(1,Z1 p0),(29,vB b)] H)) h (λh=>aa 2<|ax (aJ (enc:=(D.int .i64)) (xs:=p0.aG))<|aX [] [1,35] 3<|cn (λb=>(sp 54 [(1,Z1 p0),(35,vB b)] H)) h (λh=>aa 2<|ax (aJ (enc:=D.bool) (xs:=p0.Down))<|aa 2<|ax (aJ (enc:=(D.int .i64)) (xs:=p0.aG))<|aX [] [1,44] 3<|dO 54 H [1,48] 4 ((p0.Down.length:Int)==(p0.aG.length:Int)) (λb=>(sp 54 [(1,Z1 p0),(44,vB b)] H)) (λb=>[(1,Z1 p0),(48,vB (b&&(decide (p0.eD>=1))))]) κ κ κ<|aX [] [1,49] 1<|dO 54 H [53] 4 (((p0.Down.length:Int)==(p0.aG.length:Int))&&(decide (p0.eD>=1))) (λb=>(sp 54 [(1,Z1 p0),(49,vB b)] H)) (λb=>[(53,vB (b&&(decide (p0.eD<=3))))]) κ κ κ<|aa 1<|ak<|al<|iI h▸E0) λh=>aa 19<|ak<|al<|iI h▸E0) λh=>aa 25<|ak<|al<|iI h▸E0;exact have h:=jr h;aQ<|aq<|(by cases h;exact hE))
def Dc(fuel:Nat)(p0:az)(p1:Int):Option (Tree×Int):=
 (tK fuel p0).bind λr1=>
 bif (!r1)then
  some ((⟨(⟨([]:List Int),([]:List Bool),0⟩:az),0,([]:List Entry),0⟩:Tree),1)
 else
  bif ((decide (p1<3))||(decide (p1>32)))then
   some ((⟨(⟨([]:List Int),([]:List Bool),0⟩:az),0,([]:List Entry),0⟩:Tree),7)
  else
   some ((⟨p0,p1,([]:List Entry),0⟩:Tree),0)
def SU:SV:=.box [.d (.list 1 (List.map (D.int .i64) ([]:List Int))),.d (.cG),vI 0,vI 0,.d (.cG),vI 0]
def SS:SV:=.box [.d (.list 1 (List.map (D.int .i64) ([]:List Int))),.d (.list 1 (List.map D.bool ([]:List Bool))),vI 0,vI 0,.d (.cG),vI 0]
def SR:SV:=.box [.d (.list 1 (List.map (D.int .i64) ([]:List Int))),.d (.list 1 (List.map D.bool ([]:List Bool))),vI 0,vI 0,.d (.list 3 (List.map ab ([]:List Entry))),vI 0]
def Vc(x0:az)(x1:Int):SV:=.box [.d (.list 1 (List.map (D.int .i64) x0.aG)),.d (.list 1 (List.map D.bool x0.Down)),vI x0.eD,vI x1,.d (.list 3 (List.map ab ([]:List Entry))),vI 0]
theorem NB(h:Dc fuel p0 p1=some r):PC Tryz.prog 34 [.d (cD p0),vI p1] (.iQ [.d (.agg [.list 1 (List.map (D.int .i64) r.1.S.aG),.list 1 (List.map D.bool r.1.S.Down),.int .i64 r.1.S.eD,.int .i64 r.1.Order,.list 3 (List.map ab r.1.fk),.int .i64 r.1.gK]),vI r.2]):=by
 refine aW Tryz.func34 rfl λH=>?_
 unfold Dc at h
 exact aI 22 H [(0,Z2 p0),(1,vI p1)]<|ar 1<|an<|aM<|aA<|aa 1<|bI h λr1 hr h=>bJ (AJ hr)<|aa 2<|ak<|aT h (λh=>HF 1 [4,5]<|kB 4 0 1 22 H [4,5] [(4,SU),(5,vI 1)] κ<|kB 4 1 1 22 H [4,5] [(4,SS),(5,vI 1)] κ<|kB 4 4 3 22 H [4,5] [(4,SR),(5,vI 1)] κ<|al<|aQ<|aq<|iI h▸E0) (λh=>aA<|aX [] [1,2,4,14] 3<|dO 22 H [1,2,4,17] 3 (decide (p1<3)) (λb=>(sp 22 [(1,vI p1),(2,Z1 p0),(4,uq),(14,vB b)] H)) (λb=>[(1,vI p1),(2,Z1 p0),(4,uq),(17,vB (b||(decide (p1>32))))]) κ κ κ<|aa 1<|ak<|aT h (λh=>HF 1 [4,5]<|kB 4 0 1 22 H [4,5] [(4,SU),(5,vI 7)] κ<|kB 4 1 1 22 H [4,5] [(4,SS),(5,vI 7)] κ<|kB 4 4 3 22 H [4,5] [(4,SR),(5,vI 7)] κ<|al<|aQ<|aq<|iI h▸E0) (λh=>ao<|aR<|ag<|HF 1 [4,5]<|kB 4 4 3 22 H [4,5] [(4,Vc p0 p1),(5,vI 0)] κ<|al<|iI h▸E0))
def jx(fuel:Nat)(p0:Value):Option (Bool):=
 bif (p0.Kind==1)then
  some (((decide (p0.N>=(-1000000000)))&&(decide (p0.N<=1000000000)))&&(p0.S==[]))
 else
  bif ((p0.Kind==2)&&(p0.N==0))then
   some (decide ((p0.S.length:Int)<=40))
  else
   some false
def SQ(x0:Tree×Int):SV:=.d (.agg [.list 1 (List.map (D.int .i64) x0.1.S.aG),.list 1 (List.map D.bool x0.1.S.Down),.int .i64 x0.1.S.eD,.int .i64 x0.1.Order,.list 3 (List.map ab x0.1.fk),.int .i64 x0.1.gK])
def Mz(x0:Act):SV:=.box [vI x0.Kind,vI x0.Key,.d (.list 3 (List.map ay x0.Row)),.d (.list 3 (List.map ay x0.yg))]
def sU(x0:Tree):SV:=.box [.d (.list 1 (List.map (D.int .i64) x0.S.aG)),.d (.list 1 (List.map D.bool x0.S.Down)),vI x0.S.eD,vI x0.Order,.d (.list 3 (List.map ab x0.fk)),vI x0.gK]
theorem vZ(h:jx fuel p0=some r):PC Tryz.prog 101 [.d (ay p0)] (vB r):=by
 refine aW Tryz.func101 rfl λH=>?_
 unfold jx at h
 exact aI 33 H [(0,JE p0)]<|ar 1<|an<|ar 1<|aT h (λh=>aA<|aX [] [1,9] 4<|dO 33 H [1,13] 4 (decide (p0.N>=(-1000000000))) (λb=>(sp 33 [(1,Lf p0),(9,vB b)] H)) (λb=>[(1,Lf p0),(13,vB (b&&(decide (p0.N<=1000000000))))]) κ κ κ<|aX [] [1,14] 1<|dO 33 H [18] 4 ((decide (p0.N>=(-1000000000)))&&(decide (p0.N<=1000000000))) (λb=>(sp 33 [(1,Lf p0),(14,vB b)] H)) (λb=>[(18,vB (b&&(p0.S==[])))]) κ κ κ<|aa 1<|ak<|al<|aq<|iI h▸E0) (λh=>ao<|ag<|aA<|aX [] [1,22] 4<|dO 33 H [1,26] 4 (p0.Kind==2) (λb=>(sp 33 [(1,Lf p0),(22,vB b)] H)) (λb=>[(1,Lf p0),(26,vB (b&&(p0.N==0)))]) κ κ κ<|aX [] [1,27] 1<|cn (λb=>(sp 33 [(1,Lf p0),(27,vB b)] H)) h (λh=>aa 2<|aa 1<|aa 3<|ak<|al<|iI h▸E0) λh=>aa 6<|ak<|al<|iI h▸E0)
def iK(fuel:Nat)(p0:(List Value))(y1:Int):Option ((Int)⊕((Unit)⊕((Bool)))):=
 bif (decide (y1<(p0.length:Int)))then
  (idx p0 y1).bind λx2=>
  (jx fuel x2).bind λr3=>
  bif (!r3)then
   some (.inr (.inr false))
  else
   some (.inl (IntKind.wrap .i64 (y1+1)))
 else
  some (.inr (.inl ()))
def lQ(fuel:Nat)(p0:(List Value)):Option (Bool):=
 (iter (iK fuel p0) fuel 0).bind (Sum.elim (λv5=>
  some (decide ((p0.length:Int)<=8))) (λr6=>
  some r6))
theorem zz(h:lQ fuel p0=some r):PC Tryz.prog 82 [.d (.list 3 (List.map ay p0))] (vB r):=by
 refine aW Tryz.func82 rfl λH=>?_
 unfold lQ at h
 exact aI 19 H [(0,Z9 p0)]<|ar 1<|an<|ar 1<|aM<|bI h λz4 hit h=>fM 19 H [0,3] (λy1=>[(0,Z9 p0),(3,vI y1)]) (λb e s=>((∃v5,b=(.inl v5)/\(e=.exit 0/\s=(sp 19 [(0,Z9 p0)] H)))\/(∃r6,b=(.inr r6)/\(e=.ret/\dw Tryz.prog Tryz.f82.results.toList H (vB r6) .ret s)))) hit κ (λy1 o h=>by unfold iK at h;exact an<|aA<|aa 2<|ax (aJ (enc:=ay) (xs:=p0))<|aa 1<|ak<|aT h (λh=>ao<|ag<|an<|aM<|aA<|aa 2<|bI h λx2 hx h=>ax (s:=bb none (ay x2).cells) (aD (n:=3) hx)<|aa 1<|bI h λr3 hr h=>bJ (vZ hr)<|aa 1<|ak<|aT h (λh=>ar 1<|al<|aQ<|aq<|aq<|LR h (.inr (⟨false,rfl,rfl,dw.ret [] κ κ⟩))) (λh=>ao<|aR<|ag<|ah<|aa 3<|af<|LQ h)) (λh=>aI 19 H [(0,Z9 p0)]<|bT<|ba<|ba<|LR h (.inl ⟨(),rfl,rfl,rfl⟩))) (by rintro _ _ (⟨v5,rfl,rfl,rfl⟩|⟨r6,rfl,rfl,hE⟩);exact have h:=js h;bw<|ag<|aA<|aa 1<|ax (aJ (enc:=ay) (xs:=p0))<|aa 2<|ak<|al<|iI h▸E0;exact have h:=jr h;aQ<|aq<|(by cases h;exact hE))
def sg(fuel:Nat)(p0:az)(p1:(List Value))(y4:Int):Option ((Int)⊕((Unit)⊕((Bool)))):=
 bif (decide (y4<(p1.length:Int)))then
  (idx p1 y4).bind λx5=>
  (idx p0.aG y4).bind λx6=>
  bif (x5.Kind !=x6)then
   some (.inr (.inr false))
  else
   some (.inl (IntKind.wrap .i64 (y4+1)))
 else
  some (.inr (.inl ()))
def rD(fuel:Nat)(p0:az)(p1:(List Value)):Option (Bool):=
 bz (λ(j1:Bool)=>
  bif j1 then
   some false
  else
   (iter (sg fuel p0 p1) fuel 0).bind (Sum.elim (λv8=>
    some true) (λr9=>
    some r9))) λjp2=>
 (lQ fuel p1).bind λr3=>
 bif (!r3)then
  jp2 true
 else
  jp2 ((p1.length:Int) !=(p0.aG.length:Int))
theorem sf(h:rD fuel p0 p1=some r):PC Tryz.prog 53 [.d (cD p0),.d (.list 3 (List.map ay p1))] (vB r):=by
 refine aW Tryz.func53 rfl λH=>?_
 unfold rD at h
 exact aI 34 H [(0,Z2 p0),(1,Z9 p1)]<|ar 1<|an<|gr 34 H [1,2,16] (λ(j1:Bool)=>[(1,Z9 p1),(2,Z1 p0),(16,vB j1)]) h (λj1 h=>aT h (λh=>ar 1<|al<|aq<|iI h▸E0) (λh=>ao<|ag<|an<|ar 1<|aM<|bI h λz7 hit h=>fM 34 H [1,2,5] (λy4=>[(1,Z9 p1),(2,Z1 p0),(5,vI y4)]) (λb e s=>((∃v8,b=(.inl v8)/\(e=.exit 0/\s=(sp 34 [] H)))\/(∃r9,b=(.inr r9)/\(e=.ret/\dw Tryz.prog Tryz.f53.results.toList H (vB r9) .ret s)))) hit κ (λy4 o h=>by unfold sg at h;exact an<|aA<|aa 2<|ax (aJ (enc:=ay) (xs:=p1))<|aa 1<|ak<|aT h (λh=>ao<|ag<|an<|aM<|an<|zj<|bp 2<|bI h λx5 hx h=>bU (s:=bb none (ay x5).cells) (aD (n:=3) hx)<|bp 5<|bI h λx6 hx h=>bU (s:=bb none (Go.Sh.D.cells ((D.int .i64) x6))) (aD (n:=1) hx)<|bp 2<|cd<|ag<|aT h (λh=>ar 1<|al<|aQ<|aq<|aq<|LR h (.inr (⟨false,rfl,rfl,dw.ret [] κ κ⟩))) (λh=>ao<|aR<|ag<|ah<|aa 3<|af<|LQ h)) (λh=>aI 34 H []<|bT<|ba<|ba<|LR h (.inl ⟨(),rfl,rfl,rfl⟩))) (by rintro _ _ (⟨v8,rfl,rfl,rfl⟩|⟨r9,rfl,rfl,hE⟩);exact have h:=js h;bw<|ag<|ar 1<|al<|iI h▸E0;exact have h:=jr h;aQ<|aq<|(by cases h;exact hE)))) λjp2 h=>ah<|aa 1<|bI h λr3 hr h=>bJ (zz hr)<|aX [] [1,2,9] 2<|cn (λb=>(sp 34 [(1,Z9 p1),(2,Z1 p0),(9,vB b)] H)) h (λh=>aa 7<|af<|JQ [] h) λh=>aa 1<|ax (aJ (enc:=ay) (xs:=p1))<|aa 2<|ax (aJ (enc:=(D.int .i64)) (xs:=p0.aG))<|aa 2<|af<|JQ [] h
def vW(fuel:Nat)(p0:Int):Option (Bool):=
 some ((decide (p0>=1))&&(decide (p0<=1000000)))
theorem vV(h:vW fuel p0=some r):PC Tryz.prog 56 [vI p0] (vB r):=by
 refine aW Tryz.func56 rfl λH=>?_
 unfold vW at h
 exact aI 9 H [(0,vI p0)]<|ar 1<|aA<|aX [] [0,5] 3<|dO 9 H [8] 3 (decide (p0>=1)) (λb=>(sp 9 [(0,vI p0),(5,vB b)] H)) (λb=>[(8,vB (b&&(decide (p0<=1000000))))]) κ κ κ<|aa 1<|ak<|al<|iI h▸E0
def oR(fuel:Nat)(p0:Int)(p1:Int):Option (Int):=
 bif (decide (p0<p1))then
  some (-1)
 else
  bif (decide (p0>p1))then
   some 1
  else
   some 0
def wQ(x0:Tree):SV:=.d (.agg [.list 1 (List.map (D.int .i64) x0.S.aG),.list 1 (List.map D.bool x0.S.Down),.int .i64 x0.S.eD,.int .i64 x0.Order,.list 3 (List.map ab x0.fk),.int .i64 x0.gK])
def CG(x0:Tree):SV:=.d (.list 3 (List.map ab x0.fk))
theorem sh(h:oR fuel p0 p1=some r):PC Tryz.prog 95 [vI p0,vI p1] (vI r):=by
 refine aW Tryz.func95 rfl λH=>?_
 unfold oR at h
 exact aI 13 H [(0,vI p0),(1,vI p1)]<|ar 1<|an<|aM<|ar 1<|aT h (λh=>ar 1<|al<|aQ<|aq<|iI h▸E0) (λh=>ar 1<|aT h (λh=>ar 1<|al<|aQ<|aq<|iI h▸E0) (λh=>ao<|aR<|ag<|ar 1<|al<|iI h▸E0))
def qg(fuel:Nat)(p0:Int):Option (Int):=
 bif (decide (p0<0))then
  some (-1)
 else
  bif (decide (p0>0))then
   some 1
  else
   some 0
theorem yK(h:qg fuel p0=some r):PC Tryz.prog 114 [vI p0] (vI r):=by
 refine aW Tryz.func114 rfl λH=>?_
 unfold qg at h
 exact aI 9 H [(0,vI p0)]<|ar 1<|an<|aM<|ar 1<|aT h (λh=>ar 1<|al<|aQ<|aq<|iI h▸E0) (λh=>ar 1<|aT h (λh=>ar 1<|al<|aQ<|aq<|iI h▸E0) (λh=>ao<|aR<|ag<|ar 1<|al<|iI h▸E0))
def lP(fuel:Nat)(p0:(List UInt8))(p1:(List UInt8))(y1:Int):Option ((Int)⊕((Unit)⊕((Int)))):=
 bz (λ(j2:Bool)=>
  bif j2 then
   (idx p0 y1).bind λb4=>
   (idx p1 y1).bind λb5=>
   bif ((b4.toNat:Int) !=(b5.toNat:Int))then
    (idx p0 y1).bind λb6=>
    (idx p1 y1).bind λb7=>
    (qg fuel (IntKind.wrap .i64 ((IntKind.wrap .i64 (b6.toNat:Int)) - (IntKind.wrap .i64 (b7.toNat:Int))))).bind λr8=>
    some (.inr (.inr r8))
   else
    some (.inl (IntKind.wrap .i64 (y1+1)))
  else
   some (.inr (.inl ()))) λjp3=>
 bif (decide (y1<(p0.length:Int)))then
  jp3 (decide (y1<(p1.length:Int)))
 else
  jp3 false
def qf(fuel:Nat)(p0:(List UInt8))(p1:(List UInt8)):Option (Int):=
 (iter (lP fuel p0 p1) fuel 0).bind (Sum.elim (λv10=>
  (qg fuel (IntKind.wrap .i64 ((p0.length:Int) - (p1.length:Int)))).bind λr11=>
  some r11) (λr12=>
  some r12))
theorem Eu(h:qf fuel p0 p1=some r):PC Tryz.prog 102 [vS p0,vS p1] (vI r):=by
 refine aW Tryz.func102 rfl λH=>?_
 unfold qf at h
 exact aI 41 H [(0,vS p0),(1,vS p1)]<|ar 1<|an<|ar 1<|aM<|bI h λz9 hit h=>fM 41 H [0,1,5] (λy1=>[(0,vS p0),(1,vS p1),(5,vI y1)]) (λb e s=>((∃v10,b=(.inl v10)/\(e=.exit 0/\s=(sp 41 [(0,vS p0),(1,vS p1)] H)))\/(∃r12,b=(.inr r12)/\(e=.ret/\dw Tryz.prog Tryz.f102.results.toList H (vI r12) .ret s)))) hit κ (λy1 o h=>by unfold lP at h;exact an<|gr 41 H [0,1,5,15] (λ(j2:Bool)=>[(0,vS p0),(1,vS p1),(5,vI y1),(15,vB j2)]) h (λj2 h=>aT h (λh=>ao<|ag<|an<|aM<|an<|zj<|bp 2<|bI h λb4 hx h=>bU (pD hx)<|bp 2<|bI h λb5 hx h=>bU (pD hx)<|bp 1<|cd<|ag<|aT h (λh=>an<|fL<|aE 2<|bI h λb6 hx h=>bn (pD hx)<|aE 3<|bI h λb7 hx h=>bn (pD hx)<|aE 2<|bI h λr8 hr h=>fc (yK hr)<|aE 1<|bG<|ag<|al<|aQ<|aq<|aq<|LR h (.inr (⟨r8,rfl,rfl,dw.ret [] κ κ⟩))) (λh=>ao<|aR<|ag<|ah<|aa 3<|af<|LQ h)) (λh=>B1 [(0,vS p0),(1,vS p1)]<|bT<|ba<|ba<|LR h (.inl ⟨(),rfl,rfl,rfl⟩))) λjp3 h=>ah<|aa 2<|aa 1<|aX [] [0,1,5,10] 2<|cn (λb=>(sp 41 [(0,vS p0),(1,vS p1),(5,vI y1),(10,vB b)] H)) h (λh=>aa 2<|aa 1<|aa 2<|af<|JQ [] h) λh=>aa 5<|af<|JQ [] h) (by rintro _ _ (⟨v10,rfl,rfl,rfl⟩|⟨r12,rfl,rfl,hE⟩);exact have h:=js h;bw<|ag<|aA<|aa 1<|aa 1<|aa 1<|aa 1<|aa 1<|bI h λr11 hr h=>bJ (yK hr)<|aa 1<|ak<|al<|iI h▸E0;exact have h:=jr h;aQ<|aq<|(by cases h;exact hE))
def lr(fuel:Nat)(p0:Value)(p1:Value):Option (Int):=
 (oR fuel p0.Kind p1.Kind).bind λr1=>
 bif (r1 !=0)then
  some r1
 else
  (oR fuel p0.N p1.N).bind λr2=>
  bif (r2 !=0)then
   some r2
  else
   (qf fuel p0.S p1.S).bind λr3=>
   some r3
theorem sj(h:lr fuel p0 p1=some r):PC Tryz.prog 83 [.d (ay p0),.d (ay p1)] (vI r):=by
 refine aW Tryz.func83 rfl λH=>?_
 unfold lr at h
 exact aI 28 H [(0,JE p0),(1,JE p1)]<|ar 1<|an<|aA<|aa 4<|bI h λr1 hr h=>bJ (sh hr)<|aa 1<|ak<|ar 1<|aT h (λh=>ar 1<|al<|aq<|iI h▸E0) (λh=>ao<|ag<|an<|aA<|aa 4<|bI h λr2 hr h=>bJ (sh hr)<|aa 1<|ak<|ar 1<|aT h (λh=>ar 1<|al<|aq<|iI h▸E0) (λh=>ao<|ag<|aA<|aa 4<|bI h λr3 hr h=>bJ (Eu hr)<|aa 1<|ak<|al<|iI h▸E0))
def cN(fuel:Nat)(p0:(List Value))(p1:(List Value))(y1:Int):Option ((Int)⊕((Unit)⊕((Int)))):=
 bz (λ(j2:Bool)=>
  bif j2 then
   (idx p0 y1).bind λx4=>
   (idx p1 y1).bind λx5=>
   (lr fuel x4 x5).bind λr6=>
   bif (r6 !=0)then
    some (.inr (.inr r6))
   else
    some (.inl (IntKind.wrap .i64 (y1+1)))
  else
   some (.inr (.inl ()))) λjp3=>
 bif (decide (y1<(p0.length:Int)))then
  jp3 (decide (y1<(p1.length:Int)))
 else
  jp3 false
def gv(fuel:Nat)(p0:(List Value))(p1:(List Value)):Option (Int):=
 (iter (cN fuel p0 p1) fuel 0).bind (Sum.elim (λv8=>
  (oR fuel (p0.length:Int) (p1.length:Int)).bind λr9=>
  some r9) (λr10=>
  some r10))
theorem vi(h:gv fuel p0 p1=some r):PC Tryz.prog 77 [.d (.list 3 (List.map ay p0)),.d (.list 3 (List.map ay p1))] (vI r):=by
 refine aW Tryz.func77 rfl λH=>?_
 unfold gv at h
 exact aI 36 H [(0,Z9 p0),(1,Z9 p1)]<|ar 1<|an<|ar 1<|aM<|bI h λz7 hit h=>fM 36 H [0,1,5] (λy1=>[(0,Z9 p0),(1,Z9 p1),(5,vI y1)]) (λb e s=>((∃v8,b=(.inl v8)/\(e=.exit 0/\s=(sp 36 [(0,Z9 p0),(1,Z9 p1)] H)))\/(∃r10,b=(.inr r10)/\(e=.ret/\dw Tryz.prog Tryz.f77.results.toList H (vI r10) .ret s)))) hit κ (λy1 o h=>by unfold cN at h;exact an<|gr 36 H [0,1,5,16] (λ(j2:Bool)=>[(0,Z9 p0),(1,Z9 p1),(5,vI y1),(16,vB j2)]) h (λj2 h=>aT h (λh=>ao<|ag<|an<|aM<|an<|fL<|aE 2<|bI h λx4 hx h=>bn (s:=bb none (ay x4).cells) (aD (n:=3) hx)<|aE 3<|bI h λx5 hx h=>bn (s:=bb none (ay x5).cells) (aD (n:=3) hx)<|aE 1<|bI h λr6 hr h=>fc (sj hr)<|aE 1<|bG<|ag<|ar 1<|aT h (λh=>ar 1<|al<|aQ<|aq<|aq<|LR h (.inr (⟨r6,rfl,rfl,dw.ret [] κ κ⟩))) (λh=>ao<|aR<|ag<|ah<|aa 3<|af<|LQ h)) (λh=>B1 [(0,Z9 p0),(1,Z9 p1)]<|bT<|ba<|ba<|LR h (.inl ⟨(),rfl,rfl,rfl⟩))) λjp3 h=>ah<|aa 2<|ax (aJ (enc:=ay) (xs:=p0))<|aX [] [0,1,5,11] 2<|cn (λb=>(sp 36 [(0,Z9 p0),(1,Z9 p1),(5,vI y1),(11,vB b)] H)) h (λh=>aa 2<|ax (aJ (enc:=ay) (xs:=p1))<|aa 2<|af<|JQ [] h) λh=>aa 5<|af<|JQ [] h) (by rintro _ _ (⟨v8,rfl,rfl,rfl⟩|⟨r10,rfl,rfl,hE⟩);exact have h:=js h;bw<|ag<|aA<|aa 1<|ax (aJ (enc:=ay) (xs:=p0))<|aa 1<|ax (aJ (enc:=ay) (xs:=p1))<|bI h λr9 hr h=>bJ (sh hr)<|aa 1<|ak<|al<|iI h▸E0;exact have h:=jr h;aQ<|aq<|(by cases h;exact hE))
def ku(fuel:Nat)(p0:(List Value))(p1:(List Value)):Option (Bool):=
 (gv fuel p0 p1).bind λr1=>
 some (r1==0)
theorem pn(h:ku fuel p0 p1=some r):PC Tryz.prog 49 [.d (.list 3 (List.map ay p0)),.d (.list 3 (List.map ay p1))] (vB r):=by
 refine aW Tryz.func49 rfl λH=>?_
 unfold ku at h
 exact aI 9 H [(0,Z9 p0),(1,Z9 p1)]<|ar 1<|aA<|aa 2<|bI h λr1 hr h=>bJ (vi hr)<|aa 2<|ak<|al<|iI h▸E0
def iT(fuel:Nat)(p0:Tree)(p1:(List Value))(y1:Int):Option ((Int)⊕((Unit)⊕((Bool)))):=
 bif (decide (y1<(p0.fk.length:Int)))then
  (idx p0.fk y1).bind λx2=>
  (ku fuel x2.Row p1).bind λr3=>
  bif r3 then
   some (.inr (.inr true))
  else
   some (.inl (IntKind.wrap .i64 (y1+1)))
 else
  some (.inr (.inl ()))
def oP(fuel:Nat)(p0:Tree)(p1:(List Value)):Option (Bool):=
 (iter (iT fuel p0 p1) fuel 0).bind (Sum.elim (λv5=>
  some false) (λr6=>
  some r6))
def Pa(x0:Tree):SV:=vI (x0.fk.length:Int)
theorem Cu(h:oP fuel p0 p1=some r):PC Tryz.prog 64 [.d (n9 p0),.d (.list 3 (List.map ay p1))] (vB r):=by
 refine aW Tryz.func64 rfl λH=>?_
 unfold oP at h
 exact aI 21 H [(0,wQ p0),(1,Z9 p1)]<|ar 1<|an<|ar 1<|aM<|bI h λz4 hit h=>fM 21 H [1,2,5] (λy1=>[(1,Z9 p1),(2,sU p0),(5,vI y1)]) (λb e s=>((∃v5,b=(.inl v5)/\(e=.exit 0/\s=(sp 21 [] H)))\/(∃r6,b=(.inr r6)/\(e=.ret/\dw Tryz.prog Tryz.f64.results.toList H (vB r6) .ret s)))) hit κ (λy1 o h=>by unfold iT at h;exact an<|aA<|aa 3<|ax (aJ (enc:=ab) (xs:=p0.fk))<|aa 1<|ak<|aT h (λh=>ao<|ag<|an<|aM<|aA<|aa 3<|bI h λx2 hx h=>ax (s:=bb none (ab x2).cells) (aD (n:=3) hx)<|aa 3<|bI h λr3 hr h=>bJ (pn hr)<|ak<|aT h (λh=>ar 1<|al<|aQ<|aq<|aq<|LR h (.inr (⟨true,rfl,rfl,dw.ret [] κ κ⟩))) (λh=>ao<|aR<|ag<|ah<|aa 3<|af<|LQ h)) (λh=>aI 21 H []<|bT<|ba<|ba<|LR h (.inl ⟨(),rfl,rfl,rfl⟩))) (by rintro _ _ (⟨v5,rfl,rfl,rfl⟩|⟨r6,rfl,rfl,hE⟩);exact have h:=js h;bw<|ag<|ar 1<|al<|iI h▸E0;exact have h:=jr h;aQ<|aq<|(by cases h;exact hE))
def oQ(fuel:Nat)(p0:az)(p1:(List Value))(p2:(List Value))(y1:Int):Option ((Int)⊕((Unit)⊕((Int)))):=
 bif (decide (y1<(p1.length:Int)))then
  (idx p1 y1).bind λx2=>
  (idx p2 y1).bind λx3=>
  (lr fuel x2 x3).bind λr4=>
  (idx p0.Down y1).bind λx5=>
  bif x5 then
   bif ((IntKind.wrap .i64 (0 - r4)) !=0)then
    some (.inr (.inr (IntKind.wrap .i64 (0 - r4))))
   else
    some (.inl (IntKind.wrap .i64 (y1+1)))
  else
   bif (r4 !=0)then
    some (.inr (.inr r4))
   else
    some (.inl (IntKind.wrap .i64 (y1+1)))
 else
  some (.inr (.inl ()))
def tM(fuel:Nat)(p0:az)(p1:(List Value))(p2:(List Value)):Option (Int):=
 (iter (oQ fuel p0 p1 p2) fuel 0).bind (Sum.elim (λv7=>
  some 0) (λr8=>
  some r8))
def Uj(x0:Tree):SV:=.box [.d (.list 1 (List.map (D.int .i64) x0.S.aG)),.d (.list 1 (List.map D.bool x0.S.Down)),vI x0.S.eD,vI x0.Order,.d (.list 3 (List.map ab x0.fk)),vI (IntKind.wrap .i64 (x0.gK+1))]
def Vb(x0:Tree):SV:=vI (IntKind.wrap .i64 (x0.gK+1))
theorem AN(h:tM fuel p0 p1 p2=some r):PC Tryz.prog 54 [.d (cD p0),.d (.list 3 (List.map ay p1)),.d (.list 3 (List.map ay p2))] (vI r):=by
 refine aW Tryz.func54 rfl λH=>?_
 unfold tM at h
 exact aI 34 H [(0,Z2 p0),(1,Z9 p1),(2,Z9 p2)]<|ar 1<|an<|ar 1<|aM<|bI h λz6 hit h=>fM 34 H [1,2,3,7] (λy1=>[(1,Z9 p1),(2,Z9 p2),(3,Z1 p0),(7,vI y1)]) (λb e s=>((∃v7,b=(.inl v7)/\(e=.exit 0/\s=(sp 34 [] H)))\/(∃r8,b=(.inr r8)/\(e=.ret/\dw Tryz.prog Tryz.f54.results.toList H (vI r8) .ret s)))) hit κ (λy1 o h=>by unfold oQ at h;exact an<|aA<|aa 2<|ax (aJ (enc:=ay) (xs:=p1))<|aa 1<|ak<|aT h (λh=>ao<|ag<|an<|aM<|an<|fL<|aE 2<|bI h λx2 hx h=>bn (s:=bb none (ay x2).cells) (aD (n:=3) hx)<|aE 3<|bI h λx3 hx h=>bn (s:=bb none (ay x3).cells) (aD (n:=3) hx)<|aE 1<|bI h λr4 hr h=>fc (sj hr)<|aE 1<|bG<|ag<|an<|aA<|aa 3<|bI h λx5 hx h=>ax (s:=bb none (Go.Sh.D.cells (D.bool x5))) (aD (n:=1) hx)<|aa 1<|ak<|aT h (λh=>ah<|aa 3<|ak<|ar 1<|aT h (λh=>ar 1<|al<|aQ<|aq<|aq<|LR h (.inr (⟨(IntKind.wrap .i64 (0 - r4)),rfl,rfl,dw.ret [] κ κ⟩))) (λh=>ao<|aR<|ag<|ah<|aa 3<|af<|LQ h)) (λh=>ao<|ag<|ar 1<|aT h (λh=>ar 1<|al<|aQ<|aq<|aq<|LR h (.inr (⟨r4,rfl,rfl,dw.ret [] κ κ⟩))) (λh=>ao<|aR<|ag<|ah<|aa 3<|af<|LQ h))) (λh=>aI 34 H []<|bT<|ba<|ba<|LR h (.inl ⟨(),rfl,rfl,rfl⟩))) (by rintro _ _ (⟨v7,rfl,rfl,rfl⟩|⟨r8,rfl,rfl,hE⟩);exact have h:=js h;bw<|ag<|ar 1<|al<|iI h▸E0;exact have h:=jr h;aQ<|aq<|(by cases h;exact hE))
def qe(fuel:Nat)(p0:az)(p1:Entry)(p2:Entry):Option (Bool):=
 (tM fuel p0 p1.Row p2.Row).bind λr1=>
 bif (r1 !=0)then
  some (decide (r1<0))
 else
  bif (p0.eD==2)then
   some (decide (p1.Number>p2.Number))
  else
   some (decide (p1.Number<p2.Number))
theorem yI(h:qe fuel p0 p1 p2=some r):PC Tryz.prog 89 [.d (cD p0),.d (ab p1),.d (ab p2)] (vB r):=by
 refine aW Tryz.func89 rfl λH=>?_
 unfold qe at h
 exact aI 31 H [(0,Z2 p0),(1,ny p1),(2,ny p2)]<|ar 1<|an<|aA<|aa 5<|bI h λr1 hr h=>bJ (AN hr)<|aa 1<|ak<|ar 1<|aT h (λh=>ar 1<|al<|aq<|iI h▸E0) (λh=>ao<|ag<|an<|ar 1<|aT h (λh=>ar 1<|al<|aq<|iI h▸E0) (λh=>ao<|ag<|ar 1<|al<|iI h▸E0))
def jv(fuel:Nat)(p0:Tree)(p1:Entry)(y1:Int):Option ((Int)⊕(Int)):=
 bif (decide (y1<(p0.fk.length:Int)))then
  (idx p0.fk y1).bind λx2=>
  (qe fuel p0.S x2 p1).bind λr3=>
  bif r3 then
   some (.inl (IntKind.wrap .i64 (y1+1)))
  else
   some (.inr y1)
 else
  some (.inr y1)
def lp(fuel:Nat)(p0:Tree)(p1:Entry):Option (Tree):=
 (iter (jv fuel p0 p1) fuel 0).bind λv5=>
 ff (mJ p0.fk 0 v5)<|
 ff (decide ((([]:List Entry)++(sl p0.fk 0 v5)).length<=room))<|
 ff (decide (((([]:List Entry)++(sl p0.fk 0 v5))++[p1]).length<=room))<|
 ff (mJ p0.fk v5 (p0.fk.length:Int))<|
 ff (decide ((((([]:List Entry)++(sl p0.fk 0 v5))++[p1])++(sl p0.fk v5 (p0.fk.length:Int))).length<=room))<|
 some (⟨p0.S,p0.Order,(((([]:List Entry)++(sl p0.fk 0 v5))++[p1])++(sl p0.fk v5 (p0.fk.length:Int))),p0.gK⟩:Tree)
def Va(x0:Tree)(x1:Int)(x2:Entry):SV:=.box [.d (.list 1 (List.map (D.int .i64) x0.S.aG)),.d (.list 1 (List.map D.bool x0.S.Down)),vI x0.S.eD,vI x0.Order,.d (.list 3 (List.map ab (((([]:List Entry)++(sl x0.fk 0 x1))++[x2])++(sl x0.fk x1 (x0.fk.length:Int))))),vI x0.gK]
def U9(x0:Tree)(x1:Int):SV:=.d (.list 3 (List.map ab (sl x0.fk 0 x1)))
def K51:=λa0 a1 a2 (t:SL)=>((2,sU a0)::(3,me a1)::(4,uq)::(5,vI a2)::t:SL)
theorem AK(h:lp fuel p0 p1=some r):PC Tryz.prog 65 [.d (n9 p0),.d (ab p1)] (.d (.agg [.list 1 (List.map (D.int .i64) r.S.aG),.list 1 (List.map D.bool r.S.Down),.int .i64 r.S.eD,.int .i64 r.Order,.list 3 (List.map ab r.fk),.int .i64 r.gK])):=by
 refine aW Tryz.func65 rfl λH=>?_
 unfold lp at h
 exact aI 40 H [(0,wQ p0),(1,ny p1)]<|ar 2<|an<|aM<|bI h λv5 hit h=>fM 40 H [2,3,4,5] (λy1=>(K51 p0 p1 y1 [])) (λv5 e s=>(e=.exit 0/\s=(sp 40 (K51 p0 p1 v5 []) H))) hit κ (λy1 o h=>by unfold jv at h;exact an<|an<|fL<|aE 3<|bn (aJ (enc:=ab) (xs:=p0.fk))<|dn [] [2,3,4,5,11] 2<|dV (λb=>(sp 40 (K51 p0 p1 y1 [(11,vB b)]) H)) h (λh=>aE 5<|bI h λx2 hx h=>bn (s:=bb none (ab x2).cells) (aD (n:=3) hx)<|aE 2<|bI h λr3 hr h=>fc (yI hr)<|aE 1<|bG<|ag<|aT h (λh=>ao<|ag<|aM<|ah<|aa 3<|af<|aR<|LQ h) (λh=>aI 40 H (K51 p0 p1 y1 [])<|bT<|ba<|ba<|LR h ⟨rfl,rfl⟩)) λh=>aE 10<|bG<|ag<|jK<|aI 40 H (K51 p0 p1 y1 [])<|bT<|ba<|ba<|LR h ⟨rfl,rfl⟩) (by rintro _ _ ⟨rfl,rfl⟩;exact bw<|ag<|an<|nJ h λhk6 h=>nJ h λhk7 h=>nJ h λhk8 h=>nJ h λhk9 h=>nJ h λhk10 h=>aI 40 H (K51 p0 p1 v5 [])<|gW 40 H [(2,Va p0 v5 p1),(4,uq)] [3,11,1,2,4] 11 2078 κ κ κ (λX hX=>by subst hX;exact aB<|aB<|aB<|aB<|jN 40 H (d:=some 28) (s:=nq none 3 (List.map ab (sl p0.fk 0 v5))) [2,3,4,28,35] [(2,sU p0),(3,me p1),(4,uq),(28,U9 p0 v5),(35,vI v5)] (iD hk6) κ<|dX<|nA [24,29,32] [(5,eA 24 3 (List.map ab (([]:List Entry)++(sl p0.fk 0 v5)))),(8,eA 29 3 (List.map ab ((([]:List Entry)++(sl p0.fk 0 v5))++[p1]))),(12,eV (nq none 3 (List.map ab (sl p0.fk v5 (p0.fk.length:Int))))),(13,eA 32 3 (List.map ab (((([]:List Entry)++(sl p0.fk 0 v5))++[p1])++(sl p0.fk v5 (p0.fk.length:Int))))),(15,eF 37)] ⟨Ee (bF) (cC hk7),Ee (bF) (cC hk8),yw hk9,Ee (bF) (cC hk10),zo,trivial⟩) (ag<|ar 1<|al<|iI h▸E0))
def iU(fuel:Nat)(p0:Tree)(p1:(List Value))(p2:Int):Option (Tree×Int×Int):=
 bz (λ(j1:Unit)=>
  ff (decide ((([]:List Value)++p1).length<=room))<|
  (lp fuel (⟨p0.S,p0.Order,p0.fk,(IntKind.wrap .i64 (p0.gK+1))⟩:Tree) (⟨(([]:List Value)++p1),p2,(IntKind.wrap .i64 (p0.gK+1))⟩:Entry)).bind λr9=>
  some (r9,(IntKind.wrap .i64 (p0.gK+1)),0)) λjp2=>
 bz (λ(j3:Bool)=>
  bif j3 then
   some (p0,0,1)
  else
   bif (p0.S.eD==1)then
    (oP fuel p0 p1).bind λr7=>
    bif r7 then
     some (p0,0,6)
    else
     bif ((p0.fk.length:Int)==500)then
      some (p0,0,4)
     else
      jp2 ()
   else
    bif ((p0.fk.length:Int)==500)then
     some (p0,0,4)
    else
     jp2 ()) λjp4=>
 (rD fuel p0.S p1).bind λr5=>
 bif (!r5)then
  jp4 true
 else
  (vW fuel p2).bind λr6=>
  jp4 (!r6)
def K52:=λa0 a1 a2 (t:SL)=>((1,Z9 a0)::(2,vI a1)::(3,sU a2)::(6,uq)::t:SL)
theorem qd(h:iU fuel p0 p1 p2=some r):PC Tryz.prog 35 [.d (n9 p0),.d (.list 3 (List.map ay p1)),vI p2] (.iQ [.d (.agg [.list 1 (List.map (D.int .i64) r.1.S.aG),.list 1 (List.map D.bool r.1.S.Down),.int .i64 r.1.S.eD,.int .i64 r.1.Order,.list 3 (List.map ab r.1.fk),.int .i64 r.1.gK]),vI r.2.1,vI r.2.2]):=by
 refine aW Tryz.func35 rfl λH=>?_
 unfold iU at h
 exact aI 53 H [(0,wQ p0),(1,Z9 p1),(2,vI p2)]<|ar 1<|gr 53 H [1,2,3,6] (λ(j1:Unit)=>(K52 p1 p2 p0 [])) h (λj1 h=>ar 1<|an<|nJ h λhk8 h=>bI h λr9 hr_8 h=>aI 53 H [(1,Z9 p1),(2,vI p2),(3,Uj p0),(6,uq)]<|gW 53 H [(6,sU r9),(7,Vb p0),(8,vI 0)] [2,4] 12 20 κ κ κ (λX hX=>by subst hX;exact aB<|dp 53 H [3,6,44,46] [(3,Uj p0),(6,uq),(44,Z9 p1),(46,vI p2)] κ<|dX<|nA [43] [(3,eA 43 3 (List.map ay (([]:List Value)++p1))),(7,eF 45),(8,eV _)] ⟨Ee (bF) (cC hk8),zo,Cn (AK hr_8),trivial⟩) (ag<|al<|iI h▸E0)) λjp2 h=>aM<|gr 53 H [1,2,3,6,9] (λ(j3:Bool)=>(K52 p1 p2 p0 [(9,vB j3)])) h (λj3 h=>aT h (λh=>ar 1<|al<|aQ<|aq<|iI h▸E0) (λh=>aA<|aX [] [1,2,3,6,26] 5<|cn (λb=>(sp 53 (K52 p1 p2 p0 [(26,vB b)]) H)) h (λh=>aa 2<|bI h λr7 hr h=>bJ (Cu hr)<|aa 2<|ak<|aT h (λh=>ar 1<|al<|aQ<|aq<|iI h▸E0) (λh=>aA<|aa 2<|ax (aJ (enc:=ab) (xs:=p0.fk))<|aa 2<|ak<|aT h (λh=>ar 1<|al<|aQ<|aq<|iI h▸E0) (λh=>ao<|aR<|JQ [] h))) λh=>aa 5<|ak<|jK<|aA<|aa 2<|ax (aJ (enc:=ab) (xs:=p0.fk))<|aa 2<|ak<|aT h (λh=>ar 1<|al<|aQ<|aq<|iI h▸E0) (λh=>ao<|aR<|JQ [] h))) λjp4 h=>ah<|aa 3<|bI h λr5 hr h=>bJ (sf hr)<|aX [] [1,2,3,6,15] 2<|cn (λb=>(sp 53 (K52 p1 p2 p0 [(15,vB b)]) H)) h (λh=>aa 5<|af<|JQ [] h) λh=>aa 1<|bI h λr6 hr h=>bJ (vV hr)<|aa 3<|af<|JQ [] h
noncomputable def gm (fuel:Nat) (q1:(Hp×Nat)) (q2:(Hp×Nat)) (q3:(Hp×Nat)) (q4:(Hp×Nat)) (q5:(Hp×Nat)) (q6:(Hp×Nat)) (q7:(Hp×Nat)) (e13:Entry) (G14:Hp):Option (Bool×Hp):=
 (bE (cI .i64).cell G14 q3.2 0).bind λx20=>
 bif (e13.Key==x20)then
  (bE cP.cell G14 q1.2 0).bind λx25=>
  x25.bind λi31=>
  (bE dG.cells G14 i31 0).bind λx42=>
  (bL 3 vw G14 q2.2 0).bind λx53=>
  (pE fuel x42 e13.Row x53).bind λr58=>
  bif (r58==0)then
   (bE (cI .i64).cell G14 q7.2 0).bind λx59=>
   (ee aP G14 q4.2 0 e13).bind λH60=>
   (ee (cI .i64) H60 q5.2 0 x59).bind λH61=>
   (ee cB H61 q6.2 0 true).bind λH62=>
   (bE (cI .i64).cell H60 q7.2 0).bind λx63=>
   Hj x59 x63<|
   some (false,H62)
  else
   (bE (cI .i64).cell G14 q7.2 0).bind λx64=>
   (ee (cI .i64) G14 q7.2 0 (IntKind.wrap .i64 (x64+1))).bind λH65=>
   some (true,H65)
 else
  (bE (cI .i64).cell G14 q7.2 0).bind λx66=>
  (ee (cI .i64) G14 q7.2 0 (IntKind.wrap .i64 (x66+1))).bind λH67=>
  some (true,H67)
noncomputable def jo (fuel:Nat) (p0:Nat) (p1:(List Value)) (p2:Int) (H:Hp):Option ((Entry×Int×Bool)×Hp):=
 (nv H (.cells [.d (.ptr p0 0)])).bind λq1=>
 (nv q1.1 (.cells [.d (.list 3 (List.map ay p1))])).bind λq2=>
 (nv q2.1 (.cells [.d (.int .i64 p2)])).bind λq3=>
 (nv q3.1 (.cells [.d (.list 3 (List.map ay ([]:List Value))),.d (.int .i64 0),.d (.int .i64 0)])).bind λq4=>
 (nv q4.1 (.cells [.d (.int .i64 0)])).bind λq5=>
 (nv q5.1 (.cells [.d (.bool false)])).bind λq6=>
 (nv q6.1 (.cells [.d (.int .i64 0)])).bind λq7=>
 (bE cP.cell q7.1 q1.2 0).bind λx8=>
 x8.bind λi9=>
 (bE cP.cell q7.1 i9 4).bind λx10=>
 x10.bind λi11=>
 (oL fuel i11 q7.1).bind λr12=>
 (mW fuel (gm fuel q1 q2 q3 q4 q5 q6 q7) (some i11) q7.1).bind λq68=>
 bif q68.1 then
  (gq 3 px.cells q68.2 q4.2).bind λq69=>
  (gq 1 (cI .i64).cell q69.2 q5.2).bind λq70=>
  (gq 1 cB.cell q70.2 q6.2).bind λq71=>
  some (((⟨([]:List Value),0,0⟩:Entry),0,false),q71.2)
 else
  (gq 3 px.cells q68.2 q4.2).bind λq72=>
  (gq 1 (cI .i64).cell q72.2 q5.2).bind λq73=>
  (gq 1 cB.cell q73.2 q6.2).bind λq74=>
  some ((q72.1,q73.1,q74.1),q74.2)
def SP(x0:Tree×Int×Int):SV:=.box [.d (.list 1 (List.map (D.int .i64) x0.1.S.aG)),.d (.list 1 (List.map D.bool x0.1.S.Down)),vI x0.1.S.eD,vI x0.1.Order,.d (.list 3 (List.map ab x0.1.fk)),vI x0.1.gK]
def SO(x0:Tree×Int×Int):SV:=.d (.agg [.list 1 (List.map (D.int .i64) x0.1.S.aG),.list 1 (List.map D.bool x0.1.S.Down),.int .i64 x0.1.S.eD,.int .i64 x0.1.Order,.list 3 (List.map ab x0.1.fk),.int .i64 x0.1.gK])
def My(x0:(Entry×Hp)):SV:=.box [.d (.list 3 (List.map ay x0.1.Row)),vI x0.1.Key,vI x0.1.Number]
def U8:SV:=.box [.d (.list 3 (List.map ay ([]:List Value))),vI 0,vI 0]
def K5:=λa0 a1 a2 a3 a4 (t:SL)=>((6,.d (.ptr a0 0))::(7,.d (.ptr a1 0))::(8,.d (.ptr a2 0))::(9,.d (.ptr a3 0))::(10,me a4)::(21,vB true)::t:SL)
def K7:=λa0 a1 a2 a3 a4 a5 (t:SL)=>((4,.d (.ptr a0 0))::(6,.d (.ptr a1 0))::(7,.d (.ptr a2 0))::(8,.d (.ptr a3 0))::(9,.d (.ptr a4 0))::(10,me a5)::(21,vB true)::t:SL)
def K9:=λa0 a1 a2 a3 a4 a5 a6 (t:SL)=>((3,.d (.ptr a0 0))::(4,.d (.ptr a1 0))::(6,.d (.ptr a2 0))::(7,.d (.ptr a3 0))::(8,.d (.ptr a4 0))::(9,.d (.ptr a5 0))::(10,me a6)::t:SL)
def K12:=λa0 a1 a2 (t:SL)=>((6,.d (.ptr a0 0))::(7,.d (.ptr a1 0))::(8,.d (.ptr a2 0))::t:SL)
def K13:=λa0 a1 a2 a3 a4 a5 a6 (t:SL)=>((3,.d (.ptr a0 0))::(4,.d (.ptr a1 0))::(5,.d (.ptr a2 0))::(6,.d (.ptr a3 0))::(7,.d (.ptr a4 0))::(8,.d (.ptr a5 0))::(9,.d (.ptr a6 0))::t:SL)
def K27:=λa0 a1 a2 (t:SL)=>((3,.d (.ptr a0 0))::(4,.d (.ptr a1 0))::(5,.d (.ptr a2 0))::t:SL)
def K28:=λa0 a1 a2 a3 a4 a5 (t:SL)=>((3,.d (.ptr a0 0))::(6,.d (.ptr a1 0))::(7,.d (.ptr a2 0))::(8,.d (.ptr a3 0))::(9,.d (.ptr a4 0))::(10,me a5)::(21,vB true)::t:SL)
theorem rW(h:jo fuel p0 p1 p2 H=some r):SC Tryz.prog false 58 [.d (.ptr p0 0),.d (.list 3 (List.map ay p1)),vI p2] H (.iQ [.d (.agg [.list 3 (List.map ay r.1.1.Row),.int .i64 r.1.1.Key,.int .i64 r.1.1.Number]),vI r.1.2.1,vB r.1.2.2]) r.2:=by
 refine tb Tryz.func58 rfl ?_
 unfold jo at h
 exact B6 37 H [0,1,2] (K37 p0 p1 p2 []) κ<|ir<|ah<|aK 6 [(3,.box [.d (.ptr p0 0)]),(4,TW p1),(5,.box [vI p2]),(6,CI),(7,.box [vI 0]),(8,.box [vB false])]<|ak<|ir<|ah<|aK 2 [(3,.box [.d (.ptr p0 0)]),(4,TW p1),(5,.box [vI p2]),(6,CI),(7,.box [vI 0]),(8,.box [vB false]),(9,.box [vI 0])]<|ak<|bI h λq1 hq h=>fN hq 3 37 [] [3,4,5,6,7,8,9] [(3,.d (.ptr q1.2 0)),(4,TW p1),(5,.box [vI p2]),(6,CI),(7,.box [vI 0]),(8,.box [vB false]),(9,.box [vI 0])] κ (by cases hq;kernel_rfl)<|bI h λq2 hq h=>fN hq 4 37 [] [3,4,5,6,7,8,9] [(3,.d (.ptr q1.2 0)),(4,.d (.ptr q2.2 0)),(5,.box [vI p2]),(6,CI),(7,.box [vI 0]),(8,.box [vB false]),(9,.box [vI 0])] κ (by cases hq;kernel_rfl)<|bI h λq3 hq h=>fN hq 5 37 [] [3,4,5,6,7,8,9] (K27 q1.2 q2.2 q3.2 [(6,CI),(7,.box [vI 0]),(8,.box [vB false]),(9,.box [vI 0])]) κ (by cases hq;kernel_rfl)<|bI h λq4 hq h=>fN hq 6 37 [(0,103)] [3,4,5,6,7,8,9] (K27 q1.2 q2.2 q3.2 [(6,.d (.ptr q4.2 0)),(7,.box [vI 0]),(8,.box [vB false]),(9,.box [vI 0])]) κ (by cases hq;kernel_rfl)<|bI h λq5 hq h=>fN hq 7 37 [] [3,4,5,6,7,8,9] (K27 q1.2 q2.2 q3.2 [(6,.d (.ptr q4.2 0)),(7,.d (.ptr q5.2 0)),(8,.box [vB false]),(9,.box [vI 0])]) κ (by cases hq;kernel_rfl)<|bI h λq6 hq h=>fN hq 8 37 [] [3,4,5,6,7,8,9] (K27 q1.2 q2.2 q3.2 [(6,.d (.ptr q4.2 0)),(7,.d (.ptr q5.2 0)),(8,.d (.ptr q6.2 0)),(9,.box [vI 0])]) κ (by cases hq;kernel_rfl)<|bI h λq7 hq h=>fN hq 9 37 [] [3,4,5,6,7,8,9] (K13 q1.2 q2.2 q3.2 q4.2 q5.2 q6.2 q7.2 []) κ (by cases hq;kernel_rfl)<|vy<|ir<|ah<|bI h λx8 hx h=>ax (s:=.d (cP.enc x8)) (aF hx)<|bI h λi9 hp_i9 h=>ax (s:=.d (.ptr i9 0)) (bh hp_i9)<|aa 1<|bI h λx10 hx h=>tg (s:=.d (cP.enc x10)) [3,4,5,6,7,8,9,14] (aF hx)<|bI h λi11 hp_i11 h=>bH x10 (λp=>(sp 37 (K13 q1.2 q2.2 q3.2 q4.2 q5.2 q6.2 q7.2 [(14,.d (cP.enc p))]) q7.1)) κ hp_i11<|bI h λr12 hr h=>gd (ls:=[]) (some 15) (K13 q1.2 q2.2 q3.2 q4.2 q5.2 q6.2 q7.2 [(15,O7 i11)]) (pF hr)<|ak<|s9<|bI h λq68 hit h=>wV (f:=78) (caps:=[.fV [.ptr i11 0]]) (H':=q68.2) (b:=q68.1) (jc:=.ret) [(3,.ptr q1.2 0),(4,.ptr q2.2 0),(5,.ptr q3.2 0),(6,.ptr q4.2 0),(7,.ptr q5.2 0),(8,.ptr q6.2 0),(9,.ptr q7.2 0)] κ κ κ κ (λl R cR hpe hps has hbd hsz=>pV (λe13 G14 q9 h=>by
  unfold gm at h;exact sW (n0:=37) cR hpe hps (hsz.trans (mX _ _ _)) (K13 q1.2 q2.2 q3.2 q4.2 q5.2 q6.2 q7.2 [(16,.d (.agg [.list 3 (List.map ay e13.Row),.int .i64 e13.Key,.int .i64 e13.Number]))]) (xb ⟨.inr ⟨by decide,_,rfl,.head _⟩,⟨.inr ⟨by decide,_,rfl,.tail _ (.head _)⟩,⟨.inr ⟨by decide,_,rfl,.tail _ (.tail _ (.head _))⟩,⟨.inr ⟨by decide,_,rfl,.tail _ (.tail _ (.tail _ (.head _)))⟩,⟨.inr ⟨by decide,_,rfl,.tail _ (.tail _ (.tail _ (.tail _ (.head _))))⟩,⟨.inr ⟨by decide,_,rfl,.tail _ (.tail _ (.tail _ (.tail _ (.tail _ (.head _)))))⟩,⟨.inr ⟨by decide,_,rfl,.tail _ (.tail _ (.tail _ (.tail _ (.tail _ (.tail _ (.head _))))))⟩,⟨.inl ⟨rfl,rfl⟩,trivial⟩⟩⟩⟩⟩⟩⟩⟩)<|(by
   rw[has,hbd];exact py κ<|aK 2 (K13 q1.2 q2.2 q3.2 q4.2 q5.2 q6.2 q7.2 [(10,me e13)])<|af<|B5<|sZ<|sZ<|Fj 37 G14 [3,4,5,6,7,8,9,10] (K13 q1.2 q2.2 q3.2 q4.2 q5.2 q6.2 q7.2 [(10,me e13)]) κ<|Fi 15 κ κ (λl=>gg (d':=14) [0] (K13 q1.2 q2.2 q3.2 q4.2 q5.2 q6.2 q7.2 [(10,me e13),(17,.loc 10 1)])<|bI h λx20 hx_2 h=>b9 (b:=true) (H:=G14) 12 7 37 (K9 q1.2 q2.2 q4.2 q5.2 q6.2 q7.2 e13 [(18,vI e13.Key),(19,vI x20)]) (gg (d':=10) [3,4] (K9 q1.2 q2.2 q4.2 q5.2 q6.2 q7.2 e13 [(21,vB (e13.Key==x20))])<|tu (e13.Key==x20) (λb=>(sp 37 (K9 q1.2 q2.2 q4.2 q5.2 q6.2 q7.2 e13 [(21,vB b)]) G14)) κ (λhc=>have h:=fh hc h;gg (d':=9) [9] (K9 q1.2 q2.2 q4.2 q5.2 q6.2 q7.2 e13 [(21,vB true),(26,.loc 10 0)])<|bI h λx25 hx_5 h=>bI h λi31 hp_i31 h=>bI h λx42 hx_8 h=>bI h λx53 hx_11 h=>b9 (b:=true) (H:=G14) 3 4095 37 (K5 q4.2 q5.2 q6.2 q7.2 e13 [(25,.d (.agg [.list 1 (List.map (D.int .i64) x42.aG),.list 1 (List.map D.bool x42.Down),.int .i64 x42.eD])),(27,uk e13),(28,.cq (.au q2.2 0) 3 (List.map ay x53))]) (bI h λr58 hr_12 h=>qF 12 bD<|tt (d:=some 29) (ls:=[(.au q2.2 0)]) (gs:=[]) [] (K5 q4.2 q5.2 q6.2 q7.2 e13 [(29,vI r58)]) (oe hr_12)<|af<|gg (d':=0) [13,14] (K12 q4.2 q5.2 q6.2 [(9,.d (.ptr q7.2 0)),(10,me e13),(31,vB (r58==0))])<|kN κ<|ag<|B4 (b:=(r58==0)) κ (λhc=>have h:=fh hc h;sZ<|bI h λx59 hx59 h=>bI h λH60 hx_2 h=>bI h λH61 hx_3 h=>bI h λH62 hx_4 h=>bI h λx63 hx63 h=>by
    replace h:=wN h;obtain⟨rfl,h⟩:=h;exact Fj 37 G14 [6,7,8,9,10] (K12 q4.2 q5.2 q6.2 [(9,.d (.ptr q7.2 0)),(10,me e13)]) κ<|(by
     refine DS 37 H62 (K12 q4.2 q5.2 q6.2 []) κ (λX hX=>?_) (ag<|HJ<|aq<|aQ<|(by cases h;exact⟨rfl,.inr ⟨rfl,rfl⟩⟩))
     .have c31:X 0 31 (sp 37 (K12 q4.2 q5.2 q6.2 []) H62):=by subst hX;exact pA κ
      have c15:X 1 15 (sp 37 (K12 q4.2 q5.2 q6.2 []) H61):=by subst hX;exact aV 4 [] ⟨nB 37 H62 [6,7,8] (K12 q4.2 q5.2 q6.2 []) hx_4 κ κ<|af c31,trivial⟩
      have c7:X 2 7 (sp 37 (K12 q4.2 q5.2 q6.2 [(33,vI x59)]) H60):=by subst hX;exact aV 3 [] ⟨nB 37 H61 [6,7,8] (K12 q4.2 q5.2 q6.2 []) hx_3 κ κ<|af c15,trivial⟩
      have c3:X 3 3 (sp 37 (K12 q4.2 q5.2 q6.2 [(32,ny e13),(33,vI x59)]) G14):=by subst hX;exact aV 2 [] ⟨nB 37 H60 [6,7,8,33] (K12 q4.2 q5.2 q6.2 [(33,vI x59)]) hx_2 κ κ<|af c7,trivial⟩
      have c5:X 3 5 (sp 37 (K12 q4.2 q5.2 q6.2 [(9,.d (.ptr q7.2 0))]) H60):=by subst hX;exact aV 1 [] ⟨iw 37 H60 (d:=some 33) (s:=vI x59) [6,7,8,33] (K12 q4.2 q5.2 q6.2 [(33,vI x59)]) (aF hx63) κ<|af c7,trivial⟩
      have c1:X 4 1 (sp 37 (K12 q4.2 q5.2 q6.2 [(9,.d (.ptr q7.2 0)),(32,ny e13)]) G14):=by subst hX;exact aV 1 [2] ⟨bB (d:=some 33) (s:=vI x59) (K12 q4.2 q5.2 q6.2 [(32,ny e13),(33,vI x59)]) (aF hx59)<|af c3,nB 37 H60 [6,7,8,9] (K12 q4.2 q5.2 q6.2 [(9,.d (.ptr q7.2 0))]) hx_2 κ κ<|af c5,trivial⟩
      have c2:X 4 2 (sp 37 (K12 q4.2 q5.2 q6.2 [(10,me e13),(33,vI x59)]) G14):=by subst hX;exact aV 0 [] ⟨bm 37 G14 [] [6,7,8,32,33] 1 (K12 q4.2 q5.2 q6.2 [(32,ny e13),(33,vI x59)]) κ<|af c3,trivial⟩
      have c0:X 5 0 (sp 37 (K12 q4.2 q5.2 q6.2 [(9,.d (.ptr q7.2 0)),(10,me e13)]) G14):=by subst hX;exact aV 0 [1] ⟨aK 1 (K12 q4.2 q5.2 q6.2 [(9,.d (.ptr q7.2 0)),(32,ny e13)])<|af c1,bB (d:=some 33) (s:=vI x59) (K12 q4.2 q5.2 q6.2 [(10,me e13),(33,vI x59)]) (aF hx59)<|af c2,trivial⟩
      exact c0)) (λhc=>have h:=fi hc h;yi<|ag<|s8 κ<|bI h λx64 hx h=>ax (s:=vI x64) (aF hx)<|aa 1<|bI h λH65 hx h=>nB 37 H65 [] [] hx κ κ<|af<|aR<|(by cases h;exact⟨rfl,.inl ⟨rfl,rfl⟩⟩))) (λc4095=>b9 (b:=true) (H:=G14) 4 2047 37 (K7 q2.2 q4.2 q5.2 q6.2 q7.2 e13 [(25,.d (.agg [.list 1 (List.map (D.int .i64) x42.aG),.list 1 (List.map D.bool x42.Down),.int .i64 x42.eD])),(27,uk e13)]) (bx (i0:=11) (is:=[]) κ ⟨bf (iw 37 G14 (d:=some 28) (s:=.cq (.au q2.2 0) 3 (List.map ay x53)) [6,7,8,9,10,21,25,27,28] (K5 q4.2 q5.2 q6.2 q7.2 e13 [(25,Z2 x42),(27,uk e13),(28,BU q2 x53)]) (aY hx_11) κ<|af<|c4095) bD,trivial⟩) (λc2047=>b9 (b:=true) (H:=G14) 4 3071 37 (K5 q4.2 q5.2 q6.2 q7.2 e13 [(25,.d (.agg [.list 1 (List.map (D.int .i64) x42.aG),.list 1 (List.map D.bool x42.Down),.int .i64 x42.eD])),(26,.loc 10 0),(28,.cq (.au q2.2 0) 3 (List.map ay x53))]) (bx (i0:=10) (is:=[]) κ ⟨bf (bm 37 G14 [] [6,7,8,9,10,21,25,27,28] 1 (K5 q4.2 q5.2 q6.2 q7.2 e13 [(25,Z2 x42),(27,uk e13),(28,BU q2 x53)]) κ<|af<|c4095) bD,trivial⟩) (λc3071=>b9 (b:=true) (H:=G14) 4 3839 37 (K5 q4.2 q5.2 q6.2 q7.2 e13 [(24,.d (.ptr i31 0)),(27,uk e13),(28,.cq (.au q2.2 0) 3 (List.map ay x53))]) (bx (i0:=8) (is:=[]) κ ⟨bf (iw 37 G14 (d:=some 25) (s:=.d (.agg [.list 1 (List.map (D.int .i64) x42.aG),.list 1 (List.map D.bool x42.Down),.int .i64 x42.eD])) [6,7,8,9,10,21,25,27,28] (K5 q4.2 q5.2 q6.2 q7.2 e13 [(25,Z2 x42),(27,uk e13),(28,BU q2 x53)]) (aF hx_8) κ<|af<|c4095) bD,trivial⟩) (λc3839=>b9 (b:=true) (H:=G14) 5 1023 37 (K7 q2.2 q4.2 q5.2 q6.2 q7.2 e13 [(25,.d (.agg [.list 1 (List.map (D.int .i64) x42.aG),.list 1 (List.map D.bool x42.Down),.int .i64 x42.eD])),(26,.loc 10 0)]) (bx (i0:=10) (is:=[11]) κ ⟨bf (aK 1 (K7 q2.2 q4.2 q5.2 q6.2 q7.2 e13 [(25,Z2 x42),(27,uk e13)])<|af<|c2047) bD,bf (bB (d:=some 28) (s:=.cq (.au q2.2 0) 3 (List.map ay x53)) (K5 q4.2 q5.2 q6.2 q7.2 e13 [(25,Z2 x42),(26,.loc 10 0),(28,BU q2 x53)]) (aY hx_11)<|af<|c3071) bD,trivial⟩) (λc1023=>b9 (b:=true) (H:=G14) 5 1791 37 (K7 q2.2 q4.2 q5.2 q6.2 q7.2 e13 [(24,.d (.ptr i31 0)),(27,uk e13)]) (bx (i0:=8) (is:=[11]) κ ⟨bf (bB (d:=some 25) (s:=.d (.agg [.list 1 (List.map (D.int .i64) x42.aG),.list 1 (List.map D.bool x42.Down),.int .i64 x42.eD])) (K7 q2.2 q4.2 q5.2 q6.2 q7.2 e13 [(25,Z2 x42),(27,uk e13)]) (aF hx_8)<|af<|c2047) bD,bf (bB (d:=some 28) (s:=.cq (.au q2.2 0) 3 (List.map ay x53)) (K5 q4.2 q5.2 q6.2 q7.2 e13 [(24,.d (.ptr i31 0)),(27,uk e13),(28,BU q2 x53)]) (aY hx_11)<|af<|c3839) bD,trivial⟩) (λc1791=>b9 (b:=true) (H:=G14) 5 2815 37 (K5 q4.2 q5.2 q6.2 q7.2 e13 [(24,.d (.ptr i31 0)),(26,.loc 10 0),(28,.cq (.au q2.2 0) 3 (List.map ay x53))]) (bx (i0:=8) (is:=[10]) κ ⟨bf (bB (d:=some 25) (s:=.d (.agg [.list 1 (List.map (D.int .i64) x42.aG),.list 1 (List.map D.bool x42.Down),.int .i64 x42.eD])) (K5 q4.2 q5.2 q6.2 q7.2 e13 [(25,Z2 x42),(26,.loc 10 0),(28,BU q2 x53)]) (aF hx_8)<|af<|c3071) bD,bf (aK 1 (K5 q4.2 q5.2 q6.2 q7.2 e13 [(24,.d (.ptr i31 0)),(27,uk e13),(28,BU q2 x53)])<|af<|c3839) bD,trivial⟩) (λc2815=>b9 (b:=true) (H:=G14) 5 3711 37 (K5 q4.2 q5.2 q6.2 q7.2 e13 [(23,.d (.ptr i31 0)),(27,uk e13),(28,.cq (.au q2.2 0) 3 (List.map ay x53))]) (bx (i0:=7) (is:=[]) κ ⟨bf (bm 37 G14 [] [6,7,8,9,10,21,24,27,28] 1 (K5 q4.2 q5.2 q6.2 q7.2 e13 [(24,.d (.ptr i31 0)),(27,uk e13),(28,BU q2 x53)]) κ<|af<|c3839) bD,trivial⟩) (λc3711=>b9 (b:=true) (H:=G14) 6 767 37 (K7 q2.2 q4.2 q5.2 q6.2 q7.2 e13 [(24,.d (.ptr i31 0)),(26,.loc 10 0)]) (bx (i0:=8) (is:=[10,11]) κ ⟨bf (bB (d:=some 25) (s:=.d (.agg [.list 1 (List.map (D.int .i64) x42.aG),.list 1 (List.map D.bool x42.Down),.int .i64 x42.eD])) (K7 q2.2 q4.2 q5.2 q6.2 q7.2 e13 [(25,Z2 x42),(26,.loc 10 0)]) (aF hx_8)<|af<|c1023) bD,bf (aK 1 (K7 q2.2 q4.2 q5.2 q6.2 q7.2 e13 [(24,.d (.ptr i31 0)),(27,uk e13)])<|af<|c1791) bD,bf (bB (d:=some 28) (s:=.cq (.au q2.2 0) 3 (List.map ay x53)) (K5 q4.2 q5.2 q6.2 q7.2 e13 [(24,.d (.ptr i31 0)),(26,.loc 10 0),(28,BU q2 x53)]) (aY hx_11)<|af<|c2815) bD,trivial⟩) (λc767=>b9 (b:=true) (H:=G14) 6 1663 37 (K7 q2.2 q4.2 q5.2 q6.2 q7.2 e13 [(23,.d (.ptr i31 0)),(27,uk e13)]) (bx (i0:=7) (is:=[11]) κ ⟨bf (aK 1 (K7 q2.2 q4.2 q5.2 q6.2 q7.2 e13 [(24,.d (.ptr i31 0)),(27,uk e13)])<|af<|c1791) bD,bf (bB (d:=some 28) (s:=.cq (.au q2.2 0) 3 (List.map ay x53)) (K5 q4.2 q5.2 q6.2 q7.2 e13 [(23,.d (.ptr i31 0)),(27,uk e13),(28,BU q2 x53)]) (aY hx_11)<|af<|c3711) bD,trivial⟩) (λc1663=>b9 (b:=true) (H:=G14) 6 2687 37 (K5 q4.2 q5.2 q6.2 q7.2 e13 [(23,.d (.ptr i31 0)),(26,.loc 10 0),(28,.cq (.au q2.2 0) 3 (List.map ay x53))]) (bx (i0:=7) (is:=[10]) κ ⟨bf (aK 1 (K5 q4.2 q5.2 q6.2 q7.2 e13 [(24,.d (.ptr i31 0)),(26,.loc 10 0),(28,BU q2 x53)])<|af<|c2815) bD,bf (aK 1 (K5 q4.2 q5.2 q6.2 q7.2 e13 [(23,.d (.ptr i31 0)),(27,uk e13),(28,BU q2 x53)])<|af<|c3711) bD,trivial⟩) (λc2687=>b9 (b:=true) (H:=G14) 6 3647 37 (K5 q4.2 q5.2 q6.2 q7.2 e13 [(22,.d (cP.enc x25)),(27,uk e13),(28,.cq (.au q2.2 0) 3 (List.map ay x53))]) (bx (i0:=6) (is:=[]) κ ⟨bf (iw 37 G14 (d:=some 23) (s:=.d (.ptr i31 0)) [6,7,8,9,10,21,23,27,28] (K5 q4.2 q5.2 q6.2 q7.2 e13 [(23,.d (.ptr i31 0)),(27,uk e13),(28,BU q2 x53)]) (bh hp_i31) κ<|af<|c3711) bD,trivial⟩) (λc3647=>b9 (b:=true) (H:=G14) 7 639 37 (K7 q2.2 q4.2 q5.2 q6.2 q7.2 e13 [(23,.d (.ptr i31 0)),(26,.loc 10 0)]) (bx (i0:=7) (is:=[10,11]) κ ⟨bf (aK 1 (K7 q2.2 q4.2 q5.2 q6.2 q7.2 e13 [(24,.d (.ptr i31 0)),(26,.loc 10 0)])<|af<|c767) bD,bf (aK 1 (K7 q2.2 q4.2 q5.2 q6.2 q7.2 e13 [(23,.d (.ptr i31 0)),(27,uk e13)])<|af<|c1663) bD,bf (bB (d:=some 28) (s:=.cq (.au q2.2 0) 3 (List.map ay x53)) (K5 q4.2 q5.2 q6.2 q7.2 e13 [(23,.d (.ptr i31 0)),(26,.loc 10 0),(28,BU q2 x53)]) (aY hx_11)<|af<|c2687) bD,trivial⟩) (λc639=>b9 (b:=true) (H:=G14) 7 1599 37 (K7 q2.2 q4.2 q5.2 q6.2 q7.2 e13 [(22,.d (cP.enc x25)),(27,uk e13)]) (bx (i0:=6) (is:=[11]) κ ⟨bf (bB (d:=some 23) (s:=.d (.ptr i31 0)) (K7 q2.2 q4.2 q5.2 q6.2 q7.2 e13 [(23,.d (.ptr i31 0)),(27,uk e13)]) (bh hp_i31)<|af<|c1663) bD,bf (bB (d:=some 28) (s:=.cq (.au q2.2 0) 3 (List.map ay x53)) (K5 q4.2 q5.2 q6.2 q7.2 e13 [(22,.d (cP.enc x25)),(27,uk e13),(28,BU q2 x53)]) (aY hx_11)<|af<|c3647) bD,trivial⟩) (λc1599=>b9 (b:=true) (H:=G14) 7 2623 37 (K5 q4.2 q5.2 q6.2 q7.2 e13 [(22,.d (cP.enc x25)),(26,.loc 10 0),(28,.cq (.au q2.2 0) 3 (List.map ay x53))]) (bx (i0:=6) (is:=[10]) κ ⟨bf (bB (d:=some 23) (s:=.d (.ptr i31 0)) (K5 q4.2 q5.2 q6.2 q7.2 e13 [(23,.d (.ptr i31 0)),(26,.loc 10 0),(28,BU q2 x53)]) (bh hp_i31)<|af<|c2687) bD,bf (aK 1 (K5 q4.2 q5.2 q6.2 q7.2 e13 [(22,.d (cP.enc x25)),(27,uk e13),(28,BU q2 x53)])<|af<|c3647) bD,trivial⟩) (λc2623=>b9 (b:=true) (H:=G14) 7 3615 37 (K28 q1.2 q4.2 q5.2 q6.2 q7.2 e13 [(27,uk e13),(28,.cq (.au q2.2 0) 3 (List.map ay x53))]) (bx (i0:=5) (is:=[]) κ ⟨bf (iw 37 G14 (d:=some 22) (s:=.d (cP.enc x25)) [6,7,8,9,10,21,22,27,28] (K5 q4.2 q5.2 q6.2 q7.2 e13 [(22,.d (cP.enc x25)),(27,uk e13),(28,BU q2 x53)]) (aF hx_5) κ<|af<|c3647) bD,trivial⟩) (λc3615=>b9 (b:=true) (H:=G14) 8 575 37 (K7 q2.2 q4.2 q5.2 q6.2 q7.2 e13 [(22,.d (cP.enc x25)),(26,.loc 10 0)]) (bx (i0:=6) (is:=[10,11]) κ ⟨bf (bB (d:=some 23) (s:=.d (.ptr i31 0)) (K7 q2.2 q4.2 q5.2 q6.2 q7.2 e13 [(23,.d (.ptr i31 0)),(26,.loc 10 0)]) (bh hp_i31)<|af<|c639) bD,bf (aK 1 (K7 q2.2 q4.2 q5.2 q6.2 q7.2 e13 [(22,.d (cP.enc x25)),(27,uk e13)])<|af<|c1599) bD,bf (bB (d:=some 28) (s:=.cq (.au q2.2 0) 3 (List.map ay x53)) (K5 q4.2 q5.2 q6.2 q7.2 e13 [(22,.d (cP.enc x25)),(26,.loc 10 0),(28,BU q2 x53)]) (aY hx_11)<|af<|c2623) bD,trivial⟩) (λc575=>b9 (b:=true) (H:=G14) 8 1567 37 (K9 q1.2 q2.2 q4.2 q5.2 q6.2 q7.2 e13 [(21,vB true),(27,uk e13)]) (bx (i0:=5) (is:=[11]) κ ⟨bf (bB (d:=some 22) (s:=.d (cP.enc x25)) (K7 q2.2 q4.2 q5.2 q6.2 q7.2 e13 [(22,.d (cP.enc x25)),(27,uk e13)]) (aF hx_5)<|af<|c1599) bD,bf (bB (d:=some 28) (s:=.cq (.au q2.2 0) 3 (List.map ay x53)) (K28 q1.2 q4.2 q5.2 q6.2 q7.2 e13 [(27,uk e13),(28,BU q2 x53)]) (aY hx_11)<|af<|c3615) bD,trivial⟩) (λc1567=>b9 (b:=true) (H:=G14) 8 2591 37 (K28 q1.2 q4.2 q5.2 q6.2 q7.2 e13 [(26,.loc 10 0),(28,.cq (.au q2.2 0) 3 (List.map ay x53))]) (bx (i0:=5) (is:=[10]) κ ⟨bf (bB (d:=some 22) (s:=.d (cP.enc x25)) (K5 q4.2 q5.2 q6.2 q7.2 e13 [(22,.d (cP.enc x25)),(26,.loc 10 0),(28,BU q2 x53)]) (aF hx_5)<|af<|c2623) bD,bf (aK 1 (K28 q1.2 q4.2 q5.2 q6.2 q7.2 e13 [(27,uk e13),(28,BU q2 x53)])<|af<|c3615) bD,trivial⟩) (λc2591=>bx (i0:=5) (is:=[10,11]) κ ⟨bf (bB (d:=some 22) (s:=.d (cP.enc x25)) (K7 q2.2 q4.2 q5.2 q6.2 q7.2 e13 [(22,.d (cP.enc x25)),(26,.loc 10 0)]) (aF hx_5)<|af<|c575) bD,bf (aK 1 (K9 q1.2 q2.2 q4.2 q5.2 q6.2 q7.2 e13 [(21,vB true),(27,uk e13)])<|af<|c1567) bD,bf (bB (d:=some 28) (s:=.cq (.au q2.2 0) 3 (List.map ay x53)) (K28 q1.2 q4.2 q5.2 q6.2 q7.2 e13 [(26,.loc 10 0),(28,BU q2 x53)]) (aY hx_11)<|af<|c2591) bD,trivial⟩)))))))))))))))))))) (λhc=>have h:=fi hc h;gg (d':=0) [5,6,7,8,9,10,11,12,13,14] (K12 q4.2 q5.2 q6.2 [(9,.d (.ptr q7.2 0)),(10,me e13),(31,vB false)])<|kN κ<|ag<|B3 κ<|yi<|ag<|s8 κ<|bI h λx66 hx h=>ax (s:=vI x66) (aF hx)<|aa 1<|bI h λH67 hx h=>nB 37 H67 [] [] hx κ κ<|af<|aR<|(by cases h;exact⟨rfl,.inl ⟨rfl,rfl⟩⟩))) (λc7=>b9 (b:=true) (H:=G14) 13 3 37 (K13 q1.2 q2.2 q3.2 q4.2 q5.2 q6.2 q7.2 [(10,me e13),(18,vI e13.Key)]) (bx (i0:=2) (is:=[]) κ ⟨bf (iw 37 G14 (d:=some 19) (s:=vI x20) [3,4,6,7,8,9,10,18,19] (K9 q1.2 q2.2 q4.2 q5.2 q6.2 q7.2 e13 [(18,vI e13.Key),(19,vI x20)]) (aF hx_2) κ<|af<|c7) bD,trivial⟩) (λc3=>b9 (b:=true) (H:=G14) 13 5 37 (K9 q1.2 q2.2 q4.2 q5.2 q6.2 q7.2 e13 [(17,.loc 10 1),(19,vI x20)]) (bx (i0:=1) (is:=[]) κ ⟨bf (bm 37 G14 [] [3,4,6,7,8,9,10,18,19] 1 (K9 q1.2 q2.2 q4.2 q5.2 q6.2 q7.2 e13 [(18,vI e13.Key),(19,vI x20)]) κ<|af<|c7) bD,trivial⟩) (λc5=>bx (i0:=1) (is:=[2]) κ ⟨bf (aK 1 (K13 q1.2 q2.2 q3.2 q4.2 q5.2 q6.2 q7.2 [(10,me e13),(18,vI e13.Key)])<|af<|c3) bD,bf (bB (d:=some 19) (s:=vI x20) (K9 q1.2 q2.2 q4.2 q5.2 q6.2 q7.2 e13 [(17,.loc 10 1),(19,vI x20)]) (aF hx_2)<|af<|c5) bD,trivial⟩)))))) hit) (λhb=>have h:=fh hb h;aR<|ag<|(by intro ds;exact bI h λq69 hqq69 h=>tV (jL hqq69 6 37 [3,4,5,6,7,8,9,15] (K27 q1.2 q2.2 q3.2 [(6,My q69),(7,.d (.ptr q5.2 0)),(8,.d (.ptr q6.2 0)),(9,.d (.ptr q7.2 0)),(15,O7 i11)]) κ κ κ)<|bI h λq70 hqq70 h=>tV (jL hqq70 7 37 [3,4,5,6,7,8,9,15] (K27 q1.2 q2.2 q3.2 [(6,My q69),(7,.box [vI q70.1]),(8,.d (.ptr q6.2 0)),(9,.d (.ptr q7.2 0)),(15,O7 i11)]) κ κ κ)<|bI h λq71 hqq71 h=>tV (jL hqq71 8 37 [3,4,5,6,7,8,9,15] (K27 q1.2 q2.2 q3.2 [(6,My q69),(7,.box [vI q70.1]),(8,.box [vB q71.1]),(9,.d (.ptr q7.2 0)),(15,O7 i11)]) κ κ κ)<|BX<|sX<|JS 4<|aK 4 [(6,CI),(7,.box [vI 0]),(8,.box [vB false])]<|af<|MR.D<|ag<|MD 6 0 3 37 q71.2 [6,7,8] [(6,U8),(7,.box [vI 0]),(8,.box [vB false])] κ<|BY<|iI h▸E0)) (λhb=>have h:=fi hb h;bI h λq72 hqq72 h=>bI h λq73 hqq73 h=>bI h λq74 hqq74 h=>⟨.ret,_,rfl,(ur.trans (jL hqq72 6 37 [3,4,5,6,7,8,9,15] (K27 q1.2 q2.2 q3.2 [(6,My q72),(7,.d (.ptr q5.2 0)),(8,.d (.ptr q6.2 0)),(9,.d (.ptr q7.2 0)),(15,O7 i11)]) κ κ κ) (ur.trans (jL hqq73 7 37 [3,4,5,6,7,8,9,15] (K27 q1.2 q2.2 q3.2 [(6,My q72),(7,.box [vI q73.1]),(8,.d (.ptr q6.2 0)),(9,.d (.ptr q7.2 0)),(15,O7 i11)]) κ κ κ) (jL hqq74 8 37 [3,4,5,6,7,8,9,15] (K27 q1.2 q2.2 q3.2 [(6,My q72),(7,.box [vI q73.1]),(8,.box [vB q74.1]),(9,.d (.ptr q7.2 0)),(15,O7 i11)]) κ κ κ))),(aQ<|aq<|iI h▸E0)⟩)
def fD(fuel:Nat)(p0:(List Entry))(p1:Int)(p2:Int):Option ((List Entry)):=
 ff (decide (0<=p1)&&decide (p1<=p2)&&decide (p2<=(p0.length:Int))&&decide ((p0.length:Int)<=p0.length))<|
 bif (p1==p2)then
  some p0
 else
  ff (decide (0<=p1)&&decide (p1<p2)&&decide (p2<=(p0.length:Int))&&decide (p0.length<=room))<|
  some (List.take (Int.toNat p1) p0++List.drop (Int.toNat p2) p0)
def Ui(x0:((Entry×Int×Bool)×Hp)):SV:=.box [.d (.list 3 (List.map ay x0.1.1.Row)),vI x0.1.1.Key,vI x0.1.1.Number]
def Uh(x0:Int)(x1:(List Entry))(x2:Int):SV:=.own 3 (List.map ab (List.take (Int.toNat x0) x1++List.drop (Int.toNat x2) x1))
theorem mI(h:fD fuel p0 p1 p2=some r):PC Tryz.prog 109 [.own 3 (List.map ab p0),vI p1,vI p2] (.own 3 (List.map ab r)):=by
 refine aW Tryz.func109 rfl λH=>?_
 unfold fD at h
 exact aI 33 H [(0,Pd p0),(1,vI p1),(2,vI p2)]<|ar 1<|aA<|aa 4<|ax (aJ (enc:=ab) (xs:=p0))<|nJ h λhk h=>ax (s:=.undef) (Iu (enc:=ab) (xs:=p0) hk)<|ak<|an<|ar 1<|aT h (λh=>aA<|aS [17] 2<|ak<|al<|aq<|iI h▸E0) (λh=>ao<|ag<|aA<|aa 1<|ax (aJ (enc:=ab) (xs:=p0))<|aa 1<|ak<|nJ h λhk h=>aI 33 H [(0,Pd p0),(1,vI p1),(2,vI p2),(7,vI (p0.length:Int))]<|(by obtain⟨hT,ti,z,zd,hi,hz,hzd,hzn,hsz,hn,hby⟩:=re (P:=Tryz.prog) (T:=30) (e:=45) (n:=3) κ;exact HH (enc:=ab) (xs:=p0) (i:=p1) (j:=p2) (T:=30) (s:=0) (a1:=1) (a2:=2) (a3:=7) (t1:=20) (t2:=21) (t3:=22) (t4:=23) (t5:=24) (t6:=25) (t7:=26) (u1:=27) (u2:=28) (u3:=29) (u4:=30) (u5:=31) (iY:=(sp 33 [(0,Uh p1 p0 p2),(1,vI p1),(2,vI p2),(7,vI (p0.length:Int))] H)) hk κ κ ⟨rfl,rfl,rfl⟩ ⟨rfl,rfl,rfl⟩ ⟨rfl,rfl,rfl⟩ ⟨rfl,rfl,rfl⟩ ⟨rfl,rfl,rfl⟩ ⟨rfl,rfl,rfl⟩ ⟨rfl,rfl,rfl⟩ ⟨rfl,rfl,rfl⟩ ⟨rfl,rfl,rfl⟩ ⟨rfl,rfl,rfl⟩ ⟨rfl,rfl,rfl⟩ ⟨rfl,rfl,rfl⟩ ⟨rfl,rfl,rfl⟩ ⟨rfl,rfl,rfl⟩ κ κ (by decide) (by decide) hT hi hz hzd hzn hsz hn hby κ κ κ κ κ<|aI 33 H [(0,Uh p1 p0 p2)]<|aA<|aS [32] 2<|ak<|al<|iI h▸E0))
def dC(fuel:Nat)(p0:Nat)(H:Hp):Option (Int):=
 (bE (cI .i64).cell H p0 3).bind λx1=>
 some (IntKind.wrap .i64 (Int.tdiv x1 2))
def CF(x0:(List Entry)):SV:=vI (IntKind.wrap .i64 ((x0.length:Int) - 1))
theorem kH(h:dC fuel p0 H=some r):SC Tryz.prog true 93 [.d (.ptr p0 0)] H (vI r) H:=by
 refine fT Tryz.func93 rfl ?_
 unfold dC at h
 exact aI 8 H [(0,.d (.ptr p0 0))]<|ar 1<|aA<|aa 3<|bI h λx1 hx h=>ax (s:=vI x1) (aF hx)<|aa 2<|ak<|al<|iI h▸E0
def dI(fuel:Nat)(p0:(List (Option Nat)))(p1:Int)(p2:Int):Option ((List (Option Nat))):=
 ff (decide (0<=p1)&&decide (p1<=p2)&&decide (p2<=(p0.length:Int))&&decide ((p0.length:Int)<=p0.length))<|
 bif (p1==p2)then
  some p0
 else
  ff (decide (0<=p1)&&decide (p1<p2)&&decide (p2<=(p0.length:Int))&&decide (p0.length<=room))<|
  some (List.take (Int.toNat p1) p0++List.drop (Int.toNat p2) p0)
def Mx(x0:Int):SV:=vI (IntKind.wrap .i64 (x0 - 1))
def U7(x0:(List Entry))(x1:((List Entry)×Hp)):SV:=.own 3 (List.map ab (List.take (Int.toNat (IntKind.wrap .i64 ((x0.length:Int) - 1))) x1.1))
def Ug(x0:(List Entry)):SV:=vI (IntKind.wrap .i64 ((IntKind.wrap .i64 ((x0.length:Int) - 1))+1))
def U6(x0:(List Entry))(x1:((List (Option Nat))×Hp)):SV:=.own 1 (List.map cP.enc (List.take (Int.toNat (IntKind.wrap .i64 ((IntKind.wrap .i64 ((x0.length:Int) - 1))+1))) x1.1))
def Uf(x0:Int)(x1:(List (Option Nat)))(x2:Int):SV:=.own 1 (List.map cP.enc (List.take (Int.toNat x0) x1++List.drop (Int.toNat x2) x1))
theorem ml(h:dI fuel p0 p1 p2=some r):PC Tryz.prog 121 [.own 1 (List.map cP.enc p0),vI p1,vI p2] (.own 1 (List.map cP.enc r)):=by
 refine aW Tryz.func121 rfl λH=>?_
 unfold dI at h
 exact aI 33 H [(0,Pc p0),(1,vI p1),(2,vI p2)]<|ar 1<|aA<|aa 4<|ax (aJ (enc:=cP.enc) (xs:=p0))<|nJ h λhk h=>ax (s:=.undef) (Iu (enc:=cP.enc) (xs:=p0) hk)<|ak<|an<|ar 1<|aT h (λh=>aA<|aS [17] 2<|ak<|al<|aq<|iI h▸E0) (λh=>ao<|ag<|aA<|aa 1<|ax (aJ (enc:=cP.enc) (xs:=p0))<|aa 1<|ak<|nJ h λhk h=>aI 33 H [(0,Pc p0),(1,vI p1),(2,vI p2),(7,vI (p0.length:Int))]<|(by obtain⟨hT,ti,z,zd,hi,hz,hzd,hzn,hsz,hn,hby⟩:=re (P:=Tryz.prog) (T:=88) (e:=83) (n:=1) κ;exact HH (enc:=cP.enc) (xs:=p0) (i:=p1) (j:=p2) (T:=88) (s:=0) (a1:=1) (a2:=2) (a3:=7) (t1:=20) (t2:=21) (t3:=22) (t4:=23) (t5:=24) (t6:=25) (t7:=26) (u1:=27) (u2:=28) (u3:=29) (u4:=30) (u5:=31) (iY:=(sp 33 [(0,Uf p1 p0 p2),(1,vI p1),(2,vI p2),(7,vI (p0.length:Int))] H)) hk κ κ ⟨rfl,rfl,rfl⟩ ⟨rfl,rfl,rfl⟩ ⟨rfl,rfl,rfl⟩ ⟨rfl,rfl,rfl⟩ ⟨rfl,rfl,rfl⟩ ⟨rfl,rfl,rfl⟩ ⟨rfl,rfl,rfl⟩ ⟨rfl,rfl,rfl⟩ ⟨rfl,rfl,rfl⟩ ⟨rfl,rfl,rfl⟩ ⟨rfl,rfl,rfl⟩ ⟨rfl,rfl,rfl⟩ ⟨rfl,rfl,rfl⟩ ⟨rfl,rfl,rfl⟩ κ κ (by decide) (by decide) hT hi hz hzd hzn hsz hn hby κ κ κ κ κ<|aI 33 H [(0,Uf p1 p0 p2)]<|aA<|aS [32] 2<|ak<|al<|iI h▸E0))
def yW(xs:List D):D:=D.list 3 (List.map id xs)
def mH(fuel:Nat)(p1:Int):Option ((List D)):=
 bif (decide (p1<0))then
  none
 else
  bif (decide ((IntKind.wrap .i64 (p1 - 0))>0))then
   ff (decide (0<(IntKind.wrap .i64 (p1 - 0)))&&decide ((IntKind.wrap .i64 (p1 - 0))<=(room:Nat)))<|
   some []
  else
   some []
def Fc(x0:(List (List D))):SV:=.d (.list 1 (List.map yW x0))
def Ue:SV:=.d (.iface 9 (.str [108,101,110,32,111,117,116,32,111,102,32,114,97,110,103,101]))
def Ud(x0:Int×Int)(x1:(List D)):SV:=vI (IntKind.wrap .i64 (x0.1+(x1.length:Int)))
def Uc:SV:=.d (.iface 9 (.str [99,97,110,110,111,116,32,98,101,32,110,101,103,97,116,105,118,101]))
def U4(x0:Int):SV:=.own 3 (List.replicate (Int.toNat (IntKind.wrap .i64 (x0 - 0))) (.agg [.cG,.int .i64 0,.int .i64 0]))
theorem ud(h:mH fuel p1=some r):PC Tryz.prog 130 [.d (.cG),vI p1] (.own 3 (List.map id r)):=by
 refine aW Tryz.func130 rfl λH=>?_
 unfold mH at h
 exact aI 27 H [(0,.d (.cG)),(1,vI p1)]<|ar 1<|an<|ar 1<|aT h (λh=>ah<|bm 27 H [] [0,1,7] 1 [(0,.d (.cG)),(1,vI p1),(7,Uc)] κ<|(by cases h)) (λh=>ao<|ag<|an<|aA<|aa 2<|ax uc<|aa 1<|aa 1<|aa 3<|ak<|ar 1<|aT h (λh=>ah<|aS [20] 2<|ax uc<|ax It<|aX [20] [0,20,21] 1<|nJ h λhk h=>Ii (zd:=.agg [.cG,.int .i64 0,.int .i64 0]) (d:=22) (n:=3) (m:=(IntKind.wrap .i64 (p1 - 0))) 27 H [0,22] [(0,.d (.cG)),(22,U4 p1)] hk κ κ<|aS [20] 1<|aX [] [22,24] 1<|w7 (d:=some 25) (s:=22) (n:=3) (enc:=id) (xs:=(List.replicate (Int.toNat (IntKind.wrap .i64 (p1 - 0))) (.agg [.cG,.int .i64 0,.int .i64 0]))) (j:=0) 27 H [25] [(25,.own 3 (List.map id []))] (by simp[mJ];omega) (by simp only[List.map_id];kernel_rfl) κ<|aS [20] 1<|ak<|aA<|aS [26] 2<|ak<|al<|iI h▸E0) (λh=>ao<|ag<|ar 1<|al<|iI h▸ER [(4,3)]))
def qa(fuel:Nat)(p0:(List (List D)))(y1:Int×Int):Option ((Int×Int)⊕(Int)):=
 bif (decide (y1.2<(p0.length:Int)))then
  (idx p0 y1.2).bind λx2=>
  bif (decide ((IntKind.wrap .i64 (y1.1+(x2.length:Int)))<0))then
   none
  else
   some (.inl ((IntKind.wrap .i64 (y1.1+(x2.length:Int))),(IntKind.wrap .i64 (y1.2+1))))
 else
  some (.inr y1.1)
def p9(fuel:Nat)(p0:(List (List D)))(y6:(List D)×Int):Option (((List D)×Int)⊕((List D))):=
 bif (decide (y6.2<(p0.length:Int)))then
  (idx p0 y6.2).bind λx7=>
  ff (decide ((y6.1++x7).length<=room))<|
  some (.inl ((y6.1++x7),(IntKind.wrap .i64 (y6.2+1))))
 else
  some (.inr y6.1)
def pI(fuel:Nat)(p0:(List (List D))):Option ((List D)):=
 (iter (qa fuel p0) fuel (0,0)).bind λv4=>
 (mH fuel v4).bind λr5=>
 (iter (p9 fuel p0) fuel (r5,0)).bind λv9=>
 some v9
theorem xA(h:pI fuel p0=some r):PC Tryz.prog 122 [.d (.list 1 (List.map yW p0))] (.own 3 (List.map id r)):=by
 refine aW Tryz.func122 rfl λH=>?_
 unfold pI at h
 exact aI 36 H [(0,Fc p0)]<|ar 2<|an<|aA<|aa 1<|ax (aJ (enc:=yW) (xs:=p0))<|aa 1<|ak<|aM<|bI h λv4 hit h=>fM 36 H [0,3,9,10,11] (λy1=>[(0,Fc p0),(3,vI y1.1),(9,Fc p0),(10,vI (p0.length:Int)),(11,vI y1.2)]) (λv4 e s=>(e=.exit 0/\s=(sp 36 [(0,Fc p0),(3,vI v4)] H))) hit κ (λy1 o h=>by unfold qa at h;exact ar 1<|an<|aT h (λh=>ao<|ag<|an<|aM<|aA<|bI h λx2 hx h=>ax (s:=bb none (yW x2).cells) (aD (n:=1) hx)<|aa 2<|ak<|aA<|aa 2<|ax (aJ (enc:=id) (xs:=x2))<|aa 2<|ak<|ar 1<|aT h (λh=>ah<|bm 36 H [] [0,3,9,10,11,21] 1 [(0,Fc p0),(3,Ud y1 x2),(9,Fc p0),(10,vI (p0.length:Int)),(11,vI y1.2),(21,Ue)] κ<|(by cases h)) (λh=>ao<|aR<|ag<|ah<|aa 2<|af<|LQ h)) (λh=>aI 36 H [(0,Fc p0),(3,vI y1.1)]<|bT<|ba<|ba<|LR h ⟨rfl,rfl⟩)) (by rintro _ _ ⟨rfl,rfl⟩;exact bw<|ag<|aA<|aa 1<|bI h λr5 hr h=>iz 36 H (d:=some 24) (ls:=[]) (gs:=[]) [1000] [0,24] [(0,Fc p0),(24,.own 3 (List.map id r5))] (ud hr) κ κ κ<|aa 1<|ak<|an<|aA<|aa 1<|ax (aJ (enc:=yW) (xs:=p0))<|aa 1<|ak<|aM<|bI h λv9 hit h=>fM 36 H [6,25,26,27] (λy6=>[(6,.own 3 (List.map id y6.1)),(25,Fc p0),(26,vI (p0.length:Int)),(27,vI y6.2)]) (λv9 e s=>(e=.exit 2/\s=(sp 36 [(6,.own 3 (List.map id v9))] H))) hit κ (λy6 o h=>by unfold p9 at h;exact ar 1<|an<|aT h (λh=>ao<|ag<|an<|aM<|aA<|bI h λx7 hx h=>ax (s:=bb none (yW x7).cells) (aD (n:=1) hx)<|aa 2<|ak<|ah<|aS [31] 2<|nJ h λhk h=>gb 31 3 (List.map id (y6.1++x7)) (bF) (cC hk)<|aS [31] 1<|af<|aR<|ag<|ah<|aa 2<|af<|LQ h) (λh=>aI 36 H [(6,.own 3 (List.map id y6.1))]<|bT<|ba<|ba<|LR h ⟨rfl,rfl⟩)) (by rintro _ _ ⟨rfl,rfl⟩;exact bw<|ag<|aA<|aS [35] 2<|ak<|al<|iI h▸E0))
end
theorem vM{α:Type}{fuel:Nat}{yss:List (List α)}{r:List α}(hs:yss.length<1000)(h:CB fuel yss=some r):r=yss.flatten/\ ∀zss:List (List D),zss.map List.length=yss.map List.length->PC Tryz.prog 122 [.d (.list 1 (zss.map (.list 3)))] (.own 3 zss.flatten):=by
 obtain⟨h1,h2⟩:=Hn hs h
 refine⟨h1,λzss hz=>?_⟩
 have:=xA (show pI fuel zss=some zss.flatten from h2 zss hz)
 have he:yW=D.list 3:=by funext xs;simp[yW]
 rw[he,List.map_id]at this
 exact this
def yV(xs:List D):D:=D.list 1 (List.map id xs)
def iV(fuel:Nat)(p1:Int):Option ((List D)):=
 bif (decide (p1<0))then
  none
 else
  bif (decide ((IntKind.wrap .i64 (p1 - 0))>0))then
   ff (decide (0<(IntKind.wrap .i64 (p1 - 0)))&&decide ((IntKind.wrap .i64 (p1 - 0))<=(room:Nat)))<|
   some []
  else
   some []
def Fb(x0:(List (List D))):SV:=.d (.list 1 (List.map yV x0))
def U3(x0:Int):SV:=.own 1 (List.replicate (Int.toNat (IntKind.wrap .i64 (x0 - 0))) (.fZ))
section
attribute [local irreducible] cf jj lh lH SW uS
theorem pH(h:iV fuel p1=some r):PC Tryz.prog 131 [.d (.cG),vI p1] (.own 1 (List.map id r)):=by
 refine aW Tryz.func131 rfl λH=>?_
 unfold iV at h
 exact aI 27 H [(0,.d (.cG)),(1,vI p1)]<|ar 1<|an<|ar 1<|aT h (λh=>ah<|bm 27 H [] [0,1,7] 1 [(0,.d (.cG)),(1,vI p1),(7,Uc)] κ<|(by cases h)) (λh=>ao<|ag<|an<|aA<|aa 2<|ax uc<|aa 1<|aa 1<|aa 3<|ak<|ar 1<|aT h (λh=>ah<|aS [20] 2<|ax uc<|ax It<|aX [20] [0,20,21] 1<|nJ h λhk h=>Ii (zd:=.fZ) (d:=22) (n:=1) (m:=(IntKind.wrap .i64 (p1 - 0))) 27 H [0,22] [(0,.d (.cG)),(22,U3 p1)] hk κ κ<|aS [20] 1<|aX [] [22,24] 1<|w7 (d:=some 25) (s:=22) (n:=1) (enc:=id) (xs:=(List.replicate (Int.toNat (IntKind.wrap .i64 (p1 - 0))) (.fZ))) (j:=0) 27 H [25] [(25,.own 1 (List.map id []))] (by simp[mJ];omega) (by simp only[List.map_id];kernel_rfl) κ<|aS [20] 1<|ak<|aA<|aS [26] 2<|ak<|al<|iI h▸E0) (λh=>ao<|ag<|ar 1<|al<|iI h▸ER [(4,1)]))
def mo(fuel:Nat)(p0:(List (List D)))(y1:Int×Int):Option ((Int×Int)⊕(Int)):=
 bif (decide (y1.2<(p0.length:Int)))then
  (idx p0 y1.2).bind λx2=>
  bif (decide ((IntKind.wrap .i64 (y1.1+(x2.length:Int)))<0))then
   none
  else
   some (.inl ((IntKind.wrap .i64 (y1.1+(x2.length:Int))),(IntKind.wrap .i64 (y1.2+1))))
 else
  some (.inr y1.1)
def mn(fuel:Nat)(p0:(List (List D)))(y6:(List D)×Int):Option (((List D)×Int)⊕((List D))):=
 bif (decide (y6.2<(p0.length:Int)))then
  (idx p0 y6.2).bind λx7=>
  ff (decide ((y6.1++x7).length<=room))<|
  some (.inl ((y6.1++x7),(IntKind.wrap .i64 (y6.2+1))))
 else
  some (.inr y6.1)
def kS(fuel:Nat)(p0:(List (List D))):Option ((List D)):=
 (iter (mo fuel p0) fuel (0,0)).bind λv4=>
 (iV fuel v4).bind λr5=>
 (iter (mn fuel p0) fuel (r5,0)).bind λv9=>
 some v9
theorem rK(h:kS fuel p0=some r):PC Tryz.prog 123 [.d (.list 1 (List.map yV p0))] (.own 1 (List.map id r)):=by
 refine aW Tryz.func123 rfl λH=>?_
 unfold kS at h
 exact aI 36 H [(0,Fb p0)]<|ar 2<|an<|aA<|aa 1<|ax (aJ (enc:=yV) (xs:=p0))<|aa 1<|ak<|aM<|bI h λv4 hit h=>fM 36 H [0,3,9,10,11] (λy1=>[(0,Fb p0),(3,vI y1.1),(9,Fb p0),(10,vI (p0.length:Int)),(11,vI y1.2)]) (λv4 e s=>(e=.exit 0/\s=(sp 36 [(0,Fb p0),(3,vI v4)] H))) hit κ (λy1 o h=>by unfold mo at h;exact ar 1<|an<|aT h (λh=>ao<|ag<|an<|aM<|aA<|bI h λx2 hx h=>ax (s:=bb none (yV x2).cells) (aD (n:=1) hx)<|aa 2<|ak<|aA<|aa 2<|ax (aJ (enc:=id) (xs:=x2))<|aa 2<|ak<|ar 1<|aT h (λh=>ah<|bm 36 H [] [0,3,9,10,11,21] 1 [(0,Fb p0),(3,Ud y1 x2),(9,Fb p0),(10,vI (p0.length:Int)),(11,vI y1.2),(21,Ue)] κ<|(by cases h)) (λh=>ao<|aR<|ag<|ah<|aa 2<|af<|LQ h)) (λh=>aI 36 H [(0,Fb p0),(3,vI y1.1)]<|bT<|ba<|ba<|LR h ⟨rfl,rfl⟩)) (by rintro _ _ ⟨rfl,rfl⟩;exact bw<|ag<|aA<|aa 1<|bI h λr5 hr h=>iz 36 H (d:=some 24) (ls:=[]) (gs:=[]) [1000] [0,24] [(0,Fb p0),(24,.own 1 (List.map id r5))] (pH hr) κ κ κ<|aa 1<|ak<|an<|aA<|aa 1<|ax (aJ (enc:=yV) (xs:=p0))<|aa 1<|ak<|aM<|bI h λv9 hit h=>fM 36 H [6,25,26,27] (λy6=>[(6,.own 1 (List.map id y6.1)),(25,Fb p0),(26,vI (p0.length:Int)),(27,vI y6.2)]) (λv9 e s=>(e=.exit 2/\s=(sp 36 [(6,.own 1 (List.map id v9))] H))) hit κ (λy6 o h=>by unfold mn at h;exact ar 1<|an<|aT h (λh=>ao<|ag<|an<|aM<|aA<|bI h λx7 hx h=>ax (s:=bb none (yV x7).cells) (aD (n:=1) hx)<|aa 2<|ak<|ah<|aS [31] 2<|nJ h λhk h=>gb 31 1 (List.map id (y6.1++x7)) (bF) (cC hk)<|aS [31] 1<|af<|aR<|ag<|ah<|aa 2<|af<|LQ h) (λh=>aI 36 H [(6,.own 1 (List.map id y6.1))]<|bT<|ba<|ba<|LR h ⟨rfl,rfl⟩)) (by rintro _ _ ⟨rfl,rfl⟩;exact bw<|ag<|aA<|aS [35] 2<|ak<|al<|iI h▸E0))
end
theorem qQ{α:Type}{fuel:Nat}{yss:List (List α)}{r:List α}(hs:yss.length<1000)(h:CB fuel yss=some r):r=yss.flatten/\ ∀zss:List (List D),zss.map List.length=yss.map List.length->PC Tryz.prog 123 [.d (.list 1 (zss.map (.list 1)))] (.own 1 zss.flatten):=by
 obtain⟨h1,h2⟩:=Hn hs h
 refine⟨h1,λzss hz=>?_⟩
 have:=rK (show kS fuel zss=some zss.flatten from h2 zss hz)
 have he:yV=D.list 1:=by funext xs;simp[yV]
 rw[he,List.map_id]at this
 exact this
def eX(fuel:Nat)(p0:Nat)(p1:Nat)(p2:Int)(H:Hp):Option ((Unit)×Hp):=
 (bL 1 cP H p1 1).bind λx1=>
 (idx x1 p2).bind λx2=>
 bz (λ(j3:Bool)=>
  bif j3 then
   (bL 1 cP H p1 1).bind λx10=>
   (idx x10 (IntKind.wrap .i64 (p2 - 1))).bind λx11=>
   x11.bind λi12=>
   (bL 3 aP H i12 0).bind λx13=>
   x2.bind λi14=>
   (dQ 3 aP H i14 0).bind λq15=>
   (bL 3 aP H p1 0).bind λx17=>
   (idx x17 (IntKind.wrap .i64 (p2 - 1))).bind λx18=>
   (fC fuel q15.1 0 [x18]).bind λr19=>
   x2.bind λi20=>
   (dh 3 aP q15.2 i20 0 r19).bind λH21=>
   x11.bind λi22=>
   (dQ 3 aP H21 p1 0).bind λq23=>
   (bL 3 aP H21 i22 0).bind λx25=>
   (idx x25 (IntKind.wrap .i64 ((x13.length:Int) - 1))).bind λx26=>
   (idx q23.1 (IntKind.wrap .i64 (p2 - 1))).bind λx27=>
   ff (decide ((Int.toNat (IntKind.wrap .i64 (p2 - 1)))<q23.1.length))<|
   (dh 3 aP q23.2 p1 0 (List.set q23.1 (Int.toNat (IntKind.wrap .i64 (p2 - 1))) x26)).bind λH28=>
   x11.bind λi29=>
   (dQ 3 aP H28 i29 0).bind λq30=>
   ff (mJ q30.1 0 (IntKind.wrap .i64 ((x13.length:Int) - 1)))<|
   x11.bind λi31=>
   (dh 3 aP q30.2 i31 0 (List.take (Int.toNat (IntKind.wrap .i64 ((x13.length:Int) - 1))) q30.1)).bind λH32=>
   bz (λ(j33:Hp)=>
    some ((),j33)) λjp34=>
   x2.bind λi35=>
   (cT fuel i35 H32).bind λr36=>
   bif (!r36)then
    x11.bind λi37=>
    (dQ 1 cP H32 i35 1).bind λq38=>
    (bL 1 cP H32 i37 1).bind λx40=>
    (idx x40 (IntKind.wrap .i64 ((IntKind.wrap .i64 ((x13.length:Int) - 1))+1))).bind λx41=>
    x41.bind λi42=>
    (dq fuel q38.1 0 [(some i42)]).bind λr43=>
    (dh 1 cP q38.2 i35 1 r43).bind λH44=>
    x11.bind λi45=>
    (dQ 1 cP H44 i45 1).bind λq46=>
    ff (mJ q46.1 0 (IntKind.wrap .i64 ((IntKind.wrap .i64 ((x13.length:Int) - 1))+1)))<|
    x11.bind λi47=>
    (dh 1 cP q46.2 i47 1 (List.take (Int.toNat (IntKind.wrap .i64 ((IntKind.wrap .i64 ((x13.length:Int) - 1))+1))) q46.1)).bind λH48=>
    jp34 H48
   else
    jp34 H32
  else
   bz (λ(j49:Bool)=>
    bif j49 then
     (bL 1 cP H p1 1).bind λx57=>
     (idx x57 (IntKind.wrap .i64 (p2+1))).bind λx58=>
     x2.bind λi59=>
     (dQ 3 aP H i59 0).bind λq60=>
     (bL 3 aP H p1 0).bind λx62=>
     (idx x62 p2).bind λx63=>
     ff (decide ((q60.1++[x63]).length<=room))<|
     x2.bind λi65=>
     (dh 3 aP q60.2 i65 0 (q60.1++[x63])).bind λH66=>
     x58.bind λi67=>
     (dQ 3 aP H66 p1 0).bind λq68=>
     (bL 3 aP H66 i67 0).bind λx70=>
     (idx x70 0).bind λx71=>
     (idx q68.1 p2).bind λx72=>
     ff (decide ((Int.toNat p2)<q68.1.length))<|
     (dh 3 aP q68.2 p1 0 (List.set q68.1 (Int.toNat p2) x71)).bind λH73=>
     x58.bind λi74=>
     (dQ 3 aP H73 i74 0).bind λq75=>
     (fD fuel q75.1 0 1).bind λr76=>
     x58.bind λi77=>
     (dh 3 aP q75.2 i77 0 r76).bind λH78=>
     bz (λ(j79:Hp)=>
      some ((),j79)) λjp80=>
     x2.bind λi81=>
     (cT fuel i81 H78).bind λr82=>
     bif (!r82)then
      x58.bind λi83=>
      (dQ 1 cP H78 i81 1).bind λq84=>
      (bL 1 cP H78 i83 1).bind λx86=>
      (idx x86 0).bind λx87=>
      x87.bind λi88=>
      ff (decide ((q84.1++[(some i88)]).length<=room))<|
      (dh 1 cP q84.2 i81 1 (q84.1++[(some i88)])).bind λH90=>
      x58.bind λi91=>
      (dQ 1 cP H90 i91 1).bind λq92=>
      (dI fuel q92.1 0 1).bind λr93=>
      x58.bind λi94=>
      (dh 1 cP q92.2 i94 1 r93).bind λH95=>
      jp80 H95
     else
      jp80 H78
    else
     (bL 1 cP H p1 1).bind λx96=>
     (idx x96 (bif decide (0<(IntKind.wrap .i64 (p2 - 1)))then(IntKind.wrap .i64 (p2 - 1))else 0)).bind λx97=>
     (bL 1 cP H p1 1).bind λx98=>
     (idx x98 (IntKind.wrap .i64 ((bif decide (0<(IntKind.wrap .i64 (p2 - 1)))then(IntKind.wrap .i64 (p2 - 1))else 0)+1))).bind λx99=>
     x97.bind λi100=>
     x99.bind λi101=>
     (bL 3 aP H i100 0).bind λx102=>
     (bL 3 aP H p1 0).bind λx103=>
     ff (mJ x103 (bif decide (0<(IntKind.wrap .i64 (p2 - 1)))then(IntKind.wrap .i64 (p2 - 1))else 0) (IntKind.wrap .i64 ((bif decide (0<(IntKind.wrap .i64 (p2 - 1)))then(IntKind.wrap .i64 (p2 - 1))else 0)+1)))<|
     (bL 3 aP H i101 0).bind λx105=>
     (CB fuel [x102,(sl x103 (bif decide (0<(IntKind.wrap .i64 (p2 - 1)))then(IntKind.wrap .i64 (p2 - 1))else 0) (IntKind.wrap .i64 ((bif decide (0<(IntKind.wrap .i64 (p2 - 1)))then(IntKind.wrap .i64 (p2 - 1))else 0)+1))),x105]).bind λr106=>
     x97.bind λi107=>
     (dh 3 aP H i107 0 r106).bind λH108=>
     x97.bind λi109=>
     x99.bind λi110=>
     (bL 1 cP H108 i109 1).bind λx111=>
     (bL 1 cP H108 i110 1).bind λx112=>
     (CB fuel [x111,x112]).bind λr113=>
     x97.bind λi114=>
     (dh 1 cP H108 i114 1 r113).bind λH115=>
     (dQ 3 aP H115 p1 0).bind λq116=>
     (fD fuel q116.1 (bif decide (0<(IntKind.wrap .i64 (p2 - 1)))then(IntKind.wrap .i64 (p2 - 1))else 0) (IntKind.wrap .i64 ((bif decide (0<(IntKind.wrap .i64 (p2 - 1)))then(IntKind.wrap .i64 (p2 - 1))else 0)+1))).bind λr117=>
     (dh 3 aP q116.2 p1 0 r117).bind λH118=>
     (dQ 1 cP H118 p1 1).bind λq119=>
     (dI fuel q119.1 (IntKind.wrap .i64 ((bif decide (0<(IntKind.wrap .i64 (p2 - 1)))then(IntKind.wrap .i64 (p2 - 1))else 0)+1)) (IntKind.wrap .i64 ((bif decide (0<(IntKind.wrap .i64 (p2 - 1)))then(IntKind.wrap .i64 (p2 - 1))else 0)+2))).bind λr120=>
     (dh 1 cP q119.2 p1 1 r120).bind λH121=>
     some ((),H121)) λjp50=>
   (bL 1 cP H p1 1).bind λx51=>
   bif (decide ((IntKind.wrap .i64 (p2+1))<(x51.length:Int)))then
    (bL 1 cP H p1 1).bind λx52=>
    (idx x52 (IntKind.wrap .i64 (p2+1))).bind λx53=>
    x53.bind λi54=>
    (bL 3 aP H i54 0).bind λx55=>
    (dC fuel p0 H).bind λr56=>
    jp50 (decide ((x55.length:Int)>r56))
   else
    jp50 false) λjp4=>
 bif (decide (p2>0))then
  (bL 1 cP H p1 1).bind λx5=>
  (idx x5 (IntKind.wrap .i64 (p2 - 1))).bind λx6=>
  x6.bind λi7=>
  (bL 3 aP H i7 0).bind λx8=>
  (dC fuel p0 H).bind λr9=>
  jp4 (decide ((x8.length:Int)>r9))
 else
  jp4 false
section
attribute [local irreducible] cf jj lh lH SW uS
def K21:=λa0 a1 a2 (t:SL)=>((1,.d (.ptr a0 0))::(2,vI a1)::(6,.d (cP.enc a2))::t:SL)
def K36:=λa0 a1 a2 (t:SL)=>((6,.d (cP.enc a0))::(7,.d (cP.enc a1))::(8,CF a2)::t:SL)
def K43:=λa0 a1 (t:SL)=>((6,.d (cP.enc a0))::(9,.d (cP.enc a1))::t:SL)
def K45:=λa0 a1 a2 (t:SL)=>((7,.d (cP.enc a0))::(8,CF a1)::(104,.d (.ptr a2 0))::t:SL)
def K55:=λa0 a1 (t:SL)=>((9,.d (cP.enc a0))::(211,.d (.ptr a1 0))::t:SL)
def K56:=λa0 a1 a2 a3 a4 a5 (t:SL)=>((1,.d (.ptr a0 0))::(2,vI a1)::(6,.d (cP.enc a2))::(7,.d (cP.enc a3))::(8,CF a4)::(54,.d (cP.enc a5))::t:SL)
theorem Ar(h:eX fuel p0 p1 p2 H=some r):SC Tryz.prog false 110 [.d (.ptr p0 0),.d (.ptr p1 0),vI p2] H (.iQ []) r.2:=by
 refine dr Tryz.func110 rfl ?_
 unfold eX at h
 exact aI 315 H (K17 p0 p1 [(2,vI p2)])<|aA<|aa 3<|bI h λx1 hx h=>ax (aY hx)<|aa 1<|bI h λx2 hx h=>ax (s:=bb (some (.au p1 1)) [cP.enc x2]) (cz (n:=1) hx)<|aa 2<|ak<|an<|gr 315 H [0,1,2,6,38] (λ(j3:Bool)=>(K17 p0 p1 [(2,vI p2),(6,.d (cP.enc x2)),(38,vB j3)])) h (λj3 h=>aT h (λh=>aA<|aa 3<|bI h λx10 hx h=>ax (aY hx)<|aa 2<|bI h λx11 hx h=>ax (s:=bb (some (.au p1 1)) [cP.enc x11]) (cz (n:=1) hx)<|aa 2<|ak<|aA<|aa 1<|bI h λi12 hp_i12 h=>ax (s:=.d (.ptr i12 0)) (bh hp_i12)<|aa 2<|bI h λx13 hx h=>ax (aY hx)<|ax (aJ (enc:=ab) (xs:=x13))<|aa 2<|ak<|an<|bI h λi14 hp_i14 h=>bI h λq15 hq15 h=>bI h λx17 hx_10 h=>bI h λx18 hx18 h=>bI h λr19 hr_16 h=>bI h λi20 hp_i20 h=>bI h λH21 hx_20 h=>aI 315 H (K21 p1 p2 x2 [(7,.d (cP.enc x11)),(8,CF x13)])<|lZ i14 0 λv16=>fx [0,1,2,3,4,6,7,8,9,11,12,5,10,13,14] [15,16,17,18,19,20] κ κ<|aB<|aB<|cl (s:=.d (.ptr i14 0)) (bh hp_i14)<|aB<|aB<|aB<|aB<|aB<|aB<|aB<|dp 315 (ei H i14 0 v16) [1,2,6,7,8,54,58,63,66] (K56 p1 p2 x2 x11 x13 x2 [(58,.d (.ptr i14 0)),(63,.d (.ptr p1 0)),(66,Mx p2)]) κ<|jN 315 (ei H i14 0 v16) (d:=some 59) (s:=.d (.raw v16)) [1,2,6,7,8,54,59,63,66] (K56 p1 p2 x2 x11 x13 x2 [(59,.d (.raw v16)),(63,.d (.ptr p1 0)),(66,Mx p2)]) (gY (c:=aP) (n':=3) hq15 κ) κ<|cl (s:=.cq (.au p1 0) 3 (List.map ab x17)) (pC (aY (c:=aP) hx_10 κ))<|cl (s:=bb (some (.au p1 0)) (ab x18).cells) (aD (n:=3) hx18)<|aB<|dX<|aS [59] 1<|z8 315 (ei H i14 0 v16) 69 [1,2,6,7,8,54,59,69] (K56 p1 p2 x2 x11 x13 x2 [(59,.d (.raw v16)),(69,QX x18)]) κ<|nC (c:=aP) (n':=3) (t:=59) [1,2,6,7,8,54,59,69] (K56 p1 p2 x2 x11 x13 x2 [(59,Hz q15),(69,QX x18)]) hq15 κ κ κ<|tt (d:=some 70) (ls:=[]) (gs:=[(59,0)]) [0] (K56 p1 p2 x2 x11 x13 x2 [(70,.own 3 (List.map ab r19))]) (mF hr_16)<|ax (s:=.d (.ptr i20 0)) (bh hp_i20)<|aS [59] 1<|aS [59] 1<|fF 70 hx_20<|ak<|an<|bI h λi22 hp_i22 h=>bI h λq23 hq23 h=>bI h λx25 hx_11 h=>bI h λx26 hx26 h=>bI h λx27 hx27 h=>nJ h λhk_16 h=>bI h λH28 hH28 h=>aI 315 H21 (K21 p1 p2 x2 [(7,.d (cP.enc x11)),(8,CF x13)])<|lZ p1 0 λv24=>fx [0,1,2,3,5,7,8,9,10,12,6,4,11,13,14] [15,16] κ κ<|aB<|aB<|aB<|aB<|aB<|aB<|cl (s:=.d (.ptr i22 0)) (bh hp_i22)<|aB<|aB<|aB<|dp 315 (ei H21 p1 0 v24) [6,7,8,77,80,84,86] (K36 x2 x11 x13 [(77,.d (.ptr p1 0)),(80,Mx p2),(84,.d (.ptr i22 0)),(86,CF x13)]) κ<|jN 315 (ei H21 p1 0 v24) (d:=some 78) (s:=.d (.raw v24)) [6,7,8,78,80,84,86] (K36 x2 x11 x13 [(78,.d (.raw v24)),(80,Mx p2),(84,.d (.ptr i22 0)),(86,CF x13)]) (gY (c:=aP) (n':=3) hq23 κ) κ<|cl (s:=.cq (.au i22 0) 3 (List.map ab x25)) (pC (aY (c:=aP) hx_11 κ))<|cl (s:=bb (some (.au i22 0)) (ab x26).cells) (aD (n:=3) hx26)<|dp 315 (ei H21 p1 0 v24) [6,7,8,78,80,88] (K36 x2 x11 x13 [(78,.d (.raw v24)),(80,Mx p2),(88,ny x26)]) κ<|dX<|yr (c:=aP) (n':=3) (t:=78) [6,7,8,78,80,88] (K36 x2 x11 x13 [(78,.mf v24 3 (List.map ab q23.1)),(80,Mx p2),(88,ny x26)]) hq23 κ κ κ<|tg (s:=.ep 78 3 (Int.toNat (IntKind.wrap .i64 (p2 - 1)))) [6,7,8,78,88,89] (Cp (enc:=ab) (xs:=q23.1) hx27)<|Ca (s:=78) (n:=3) (j:=(Int.toNat (IntKind.wrap .i64 (p2 - 1)))) (enc:=ab) (xs:=q23.1) (x:=x26) (p:=(some v24)) 315 (wE q23.2 p1 0 v24) [6,7,8,78] (K36 x2 x11 x13 [(78,.mf v24 3 (List.map ab (List.set q23.1 (Int.toNat (IntKind.wrap .i64 (p2 - 1))) x26)))]) hk_16 κ κ<|yo (c:=aP) (n':=3) (s:=78) [6,7,8] (K36 x2 x11 x13 []) hH28 κ κ κ<|ak<|aA<|aS [95] 2<|bI h λi29 hp_i29 h=>ax (s:=.d (.ptr i29 0)) (bh hp_i29)<|aS [95] 2<|bI h λq30 hq h=>m9 hq<|aX [95] [6,7,8,90,95,96] 1<|nJ h λhk h=>w7 (d:=some 97) (s:=95) (n:=3) (enc:=ab) (xs:=q30.1) (j:=(IntKind.wrap .i64 ((x13.length:Int) - 1))) 315 q30.2 [6,7,8,90,97] (K36 x2 x11 x13 [(90,.d (cP.enc x11)),(97,U7 x13 q30)]) hk κ κ<|bI h λi31 hp_i31 h=>ax (s:=.d (.ptr i31 0)) (bh hp_i31)<|aS [95] 2<|bI h λH32 hx h=>fF 97 hx<|ak<|sY 315 [] (λ(j33:Hp)=>[]) (λ(j33:Hp)=>j33) h (λj33 h=>al<|aq<|iI h▸E0) λjp34 h=>aA<|aX [] [6,7,8,101] 1<|bI h λi35 hp_i35 h=>bH x2 (λp=>(sp 315 (K36 p x11 x13 [(101,.d (cP.enc p))]) H32)) κ hp_i35<|bI h λr36 hr h=>mc (ls:=[]) (eJ hr)<|aa 1<|ak<|aT h (λh=>an<|bI h λi37 hp_i37 h=>bI h λq38 hq38 h=>bI h λx40 hx_8 h=>bI h λx41 hx_11 h=>bI h λi42 hp_i42 h=>bI h λr43 hr_14 h=>bI h λH44 hx_17 h=>aI 315 H32 [(6,.d (.ptr i35 0)),(7,.d (cP.enc x11)),(8,CF x13)]<|lZ i35 1 λv39=>fx [0,1,2,3,5,6,7,9,10,4,8,11,12] [13,14,15,16,17] κ κ<|aB<|aB<|aB<|aB<|aB<|cl (s:=.d (.ptr i37 0)) (bh hp_i37)<|aB<|aB<|dp 315 (ei H32 i35 1 v39) [7,8,104,107,111,114] (K45 x11 x13 i35 [(107,.d (.ptr i35 1)),(111,.d (.ptr i37 1)),(114,Ug x13)]) κ<|jN 315 (ei H32 i35 1 v39) (d:=some 108) (s:=.d (.raw v39)) [7,8,104,108,111,114] (K45 x11 x13 i35 [(108,.d (.raw v39)),(111,.d (.ptr i37 1)),(114,Ug x13)]) (gY (c:=cP) (n':=1) hq38 κ) κ<|cl (s:=.cq (.au i37 1) 1 (List.map cP.enc x40)) (pC (aY (c:=cP) hx_8 κ))<|cl (s:=bb (some (.au i37 1)) [cP.enc x41]) (cz (n:=1) hx_11)<|Lk [7,8,104,108,116]<|dX<|bH x41 (λp=>(sp 315 (K45 x11 x13 i35 [(108,.d (.raw v39)),(116,.d (cP.enc p))]) (ei H32 i35 1 v39))) κ hp_i42<|aa 1<|z8 315 (ei H32 i35 1 v39) 117 [7,8,104,108,117] (K45 x11 x13 i35 [(108,.d (.raw v39)),(117,Ul i42)]) κ<|nC (c:=cP) (n':=1) (t:=108) [7,8,104,108,117] (K45 x11 x13 i35 [(108,SX q38),(117,Ul i42)]) hq38 κ κ κ<|tt (d:=some 118) (ls:=[]) (gs:=[(108,0)]) [0] (K45 x11 x13 i35 [(118,.own 1 (List.map cP.enc r43))]) (mj hr_14)<|aS [108] 1<|aS [108] 1<|fF 118 hx_17<|ak<|ah<|aS [125] 2<|bI h λi45 hp_i45 h=>ax (s:=.d (.ptr i45 0)) (bh hp_i45)<|aS [125] 1<|bI h λq46 hq h=>m9 hq<|aX [125] [121,125,127] 2<|nJ h λhk h=>w7 (d:=some 128) (s:=125) (n:=1) (enc:=cP.enc) (xs:=q46.1) (j:=(IntKind.wrap .i64 ((IntKind.wrap .i64 ((x13.length:Int) - 1))+1))) 315 q46.2 [121,128] [(121,.d (cP.enc x11)),(128,U6 x13 q46)] hk κ κ<|bI h λi47 hp_i47 h=>ax (s:=.d (.ptr i47 0)) (bh hp_i47)<|aS [125] 1<|bI h λH48 hx h=>fF 128 hx<|af<|JQ [] h) (λh=>ao<|JQ [] h)) (λh=>ao<|ag<|an<|gr 315 H [1,2,6,156] (λ(j49:Bool)=>(K21 p1 p2 x2 [(156,vB j49)])) h (λj49 h=>aT h (λh=>aA<|aa 3<|bI h λx57 hx h=>ax (aY hx)<|aa 2<|bI h λx58 hx h=>ax (s:=bb (some (.au p1 1)) [cP.enc x58]) (cz (n:=1) hx)<|aa 2<|ak<|an<|bI h λi59 hp_i59 h=>bI h λq60 hq60 h=>bI h λx62 hx_10 h=>bI h λx63 hx63 h=>nJ h λhk64 h=>bI h λi65 hp_i65 h=>bI h λH66 hx_19 h=>aI 315 H (K21 p1 p2 x2 [(9,.d (cP.enc x58))])<|lZ i59 0 λv61=>fx [0,1,2,3,4,6,7,8,9,11,5,10,12,13] [14,15,16,17,18,19] κ κ<|aB<|aB<|cl (s:=.d (.ptr i59 0)) (bh hp_i59)<|aB<|aB<|aB<|aB<|aB<|aB<|dp 315 (ei H i59 0 v61) [1,2,6,9,165,169,174,176] (K21 p1 p2 x2 [(9,.d (cP.enc x58)),(165,.d (cP.enc x2)),(169,.d (.ptr i59 0)),(174,.d (.ptr p1 0)),(176,vI p2)]) κ<|jN 315 (ei H i59 0 v61) (d:=some 170) (s:=.d (.raw v61)) [1,2,6,9,165,170,174,176] (K21 p1 p2 x2 [(9,.d (cP.enc x58)),(165,.d (cP.enc x2)),(170,.d (.raw v61)),(174,.d (.ptr p1 0)),(176,vI p2)]) (gY (c:=aP) (n':=3) hq60 κ) κ<|cl (s:=.cq (.au p1 0) 3 (List.map ab x62)) (pC (aY (c:=aP) hx_10 κ))<|cl (s:=bb (some (.au p1 0)) (ab x63).cells) (aD (n:=3) hx63)<|aB<|dX<|bm 315 (ei H i59 0 v61) [170] [1,2,6,9,165,170,179] 1 (K21 p1 p2 x2 [(9,.d (cP.enc x58)),(165,.d (cP.enc x2)),(170,.d (.raw v61)),(179,yf x63)]) κ<|nC (c:=aP) (n':=3) (t:=170) [1,2,6,9,165,170,179] (K21 p1 p2 x2 [(9,.d (cP.enc x58)),(165,.d (cP.enc x2)),(170,Hz q60),(179,yf x63)]) hq60 κ κ κ<|gb 170 3 (List.map ab (q60.1++[x63])) (bF) (cC hk64)<|ax (s:=.d (.ptr i65 0)) (bh hp_i65)<|aS [170] 1<|aS [170] 1<|fF 180 hx_19<|ak<|an<|bI h λi67 hp_i67 h=>bI h λq68 hq68 h=>bI h λx70 hx_10 h=>bI h λx71 hx71 h=>bI h λx72 hx72 h=>nJ h λhk_14 h=>bI h λH73 hH73 h=>aI 315 H66 (K21 p1 p2 x2 [(9,.d (cP.enc x58))])<|lZ p1 0 λv69=>fx [0,1,2,3,5,6,7,8,9,4,10,11,12] [13,14] κ κ<|aB<|aB<|aB<|aB<|aB<|aB<|cl (s:=.d (.ptr i67 0)) (bh hp_i67)<|aB<|dp 315 (ei H66 p1 0 v69) [6,9,187,189,193] (K43 x2 x58 [(187,.d (.ptr p1 0)),(189,vI p2),(193,.d (.ptr i67 0))]) κ<|jN 315 (ei H66 p1 0 v69) (d:=some 188) (s:=.d (.raw v69)) [6,9,188,189,193] (K43 x2 x58 [(188,.d (.raw v69)),(189,vI p2),(193,.d (.ptr i67 0))]) (gY (c:=aP) (n':=3) hq68 κ) κ<|cl (s:=.cq (.au i67 0) 3 (List.map ab x70)) (pC (aY (c:=aP) hx_10 κ))<|cl (s:=bb (some (.au i67 0)) (ab x71).cells) (aD (n:=3) hx71)<|dp 315 (ei H66 p1 0 v69) [6,9,188,189,196] (K43 x2 x58 [(188,.d (.raw v69)),(189,vI p2),(196,ny x71)]) κ<|dX<|yr (c:=aP) (n':=3) (t:=188) [6,9,188,189,196] (K43 x2 x58 [(188,.mf v69 3 (List.map ab q68.1)),(189,vI p2),(196,ny x71)]) hq68 κ κ κ<|tg (s:=.ep 188 3 (Int.toNat p2)) [6,9,188,196,197] (Cp (enc:=ab) (xs:=q68.1) hx72)<|Ca (s:=188) (n:=3) (j:=(Int.toNat p2)) (enc:=ab) (xs:=q68.1) (x:=x71) (p:=(some v69)) 315 (wE q68.2 p1 0 v69) [6,9,188] (K43 x2 x58 [(188,.mf v69 3 (List.map ab (List.set q68.1 (Int.toNat p2) x71)))]) hk_14 κ κ<|yo (c:=aP) (n':=3) (s:=188) [6,9] (K43 x2 x58 []) hH73 κ κ κ<|ak<|aA<|aS [203] 2<|bI h λi74 hp_i74 h=>ax (s:=.d (.ptr i74 0)) (bh hp_i74)<|aS [203] 2<|bI h λq75 hq h=>m9 hq<|bI h λr76 hr h=>iz 315 q75.2 (d:=some 204) (ls:=[]) (gs:=[(203,0)]) [0] [6,9,198,204] (K43 x2 x58 [(198,.d (cP.enc x58)),(204,.own 3 (List.map ab r76))]) (mI hr) κ κ κ<|bI h λi77 hp_i77 h=>ax (s:=.d (.ptr i77 0)) (bh hp_i77)<|aS [203] 2<|bI h λH78 hx h=>fF 204 hx<|ak<|sY 315 [] (λ(j79:Hp)=>[]) (λ(j79:Hp)=>j79) h (λj79 h=>al<|aq<|iI h▸E0) λjp80 h=>aA<|aX [] [6,9,208] 1<|bI h λi81 hp_i81 h=>bH x2 (λp=>(sp 315 (K43 p x58 [(208,.d (cP.enc p))]) H78)) κ hp_i81<|bI h λr82 hr h=>mc (ls:=[]) (eJ hr)<|aa 1<|ak<|aT h (λh=>an<|bI h λi83 hp_i83 h=>bI h λq84 hq84 h=>bI h λx86 hx_8 h=>bI h λx87 hx_9 h=>bI h λi88 hp_i88 h=>nJ h λhk89 h=>bI h λH90 hx_15 h=>aI 315 H78 [(6,.d (.ptr i81 0)),(9,.d (cP.enc x58))]<|lZ i81 1 λv85=>fx [0,1,2,3,5,6,7,4,8,9,10] [11,12,13,14,15] κ κ<|aB<|aB<|aB<|aB<|aB<|cl (s:=.d (.ptr i83 0)) (bh hp_i83)<|dp 315 (ei H78 i81 1 v85) [9,211,214,218] (K55 x58 i81 [(214,.d (.ptr i81 1)),(218,.d (.ptr i83 1))]) κ<|jN 315 (ei H78 i81 1 v85) (d:=some 215) (s:=.d (.raw v85)) [9,211,215,218] (K55 x58 i81 [(215,.d (.raw v85)),(218,.d (.ptr i83 1))]) (gY (c:=cP) (n':=1) hq84 κ) κ<|cl (s:=.cq (.au i83 1) 1 (List.map cP.enc x86)) (pC (aY (c:=cP) hx_8 κ))<|cl (s:=bb (some (.au i83 1)) [cP.enc x87]) (cz (n:=1) hx_9)<|Lk [9,211,215,221]<|dX<|bH x87 (λp=>(sp 315 (K55 x58 i81 [(215,.d (.raw v85)),(221,.d (cP.enc p))]) (ei H78 i81 1 v85))) κ hp_i88<|aK 1 (K55 x58 i81 [(215,.d (.raw v85)),(222,Um i88)])<|nC (c:=cP) (n':=1) (t:=215) [9,211,215,222] (K55 x58 i81 [(215,SX q84),(222,Um i88)]) hq84 κ κ κ<|gb 215 1 (List.map cP.enc (q84.1++[(some i88)])) (bF) (cC hk89)<|aS [215] 1<|aS [215] 1<|fF 223 hx_15<|ak<|ah<|aS [230] 2<|bI h λi91 hp_i91 h=>ax (s:=.d (.ptr i91 0)) (bh hp_i91)<|aS [230] 1<|bI h λq92 hq h=>m9 hq<|bI h λr93 hr h=>iz 315 q92.2 (d:=some 231) (ls:=[]) (gs:=[(230,0)]) [0] [226,231] [(226,.d (cP.enc x58)),(231,.own 1 (List.map cP.enc r93))] (ml hr) κ κ κ<|bI h λi94 hp_i94 h=>ax (s:=.d (.ptr i94 0)) (bh hp_i94)<|aS [230] 1<|bI h λH95 hx h=>fF 231 hx<|af<|JQ [] h) (λh=>ao<|JQ [] h)) (λh=>ao<|ag<|aA<|aa 2<|ax (PN (kk:=.i64) (i:=0) (j:=(IntKind.wrap .i64 (p2 - 1))))<|aa 1<|ak<|an<|bI h λx96 hx_3 h=>bI h λx97 hx_5 h=>bI h λx98 hx_10 h=>bI h λx99 hx_13 h=>aI 315 H [(1,.d (.ptr p1 0)),(2,vI (bif decide (0<(IntKind.wrap .i64 (p2 - 1)))then(IntKind.wrap .i64 (p2 - 1))else 0))]<|fx [0,1,2,4,7,8,9,11,12,3,5,6,10,13,14,15,16] [] κ κ<|aB<|aB<|aB<|aB<|aB<|aB<|aB<|aB<|aB<|cl (aY hx_3)<|cl (s:=bb (some (.au p1 1)) [cP.enc x97]) (cz (n:=1) hx_5)<|aB<|cl (aY hx_10)<|cl (s:=bb (some (.au p1 1)) [cP.enc x99]) (cz (n:=1) hx_13)<|aB<|aB<|aB<|dX<|ak<|an<|bI h λi100 hp_i100 h=>bI h λi101 hp_i101 h=>bI h λx102 hx_5 h=>bI h λx103 hx_10 h=>nJ h λhk104 h=>bI h λx105 hx_19 h=>bI h λr106 hr_r106 h=>bI h λi107 hp_i107 h=>bI h λH108 hx_25 h=>aI 315 H [(1,.d (.ptr p1 0)),(2,vI (bif decide (0<(IntKind.wrap .i64 (p2 - 1)))then(IntKind.wrap .i64 (p2 - 1))else 0)),(10,.d (cP.enc x97)),(11,.d (cP.enc x99))]<|fx [0,1,2,3,4,6,7,8,9,11,12,15,16,17,18,13,5,10,14,19] [20,21,22,23,24,25] κ κ<|aB<|aB<|cl (s:=.d (.ptr i100 0)) (bh hp_i100)<|aB<|aB<|aB<|aB<|aB<|aB<|aB<|aB<|aB<|cl (s:=.d (.ptr i101 0)) (bh hp_i101)<|aB<|aB<|aB<|cl (aY hx_5)<|cl (aY hx_10)<|cl (s:=nq (some (.au p1 0)) 3 (List.map ab (sl x103 (bif decide (0<(IntKind.wrap .i64 (p2 - 1)))then(IntKind.wrap .i64 (p2 - 1))else 0) (IntKind.wrap .i64 ((bif decide (0<(IntKind.wrap .i64 (p2 - 1)))then(IntKind.wrap .i64 (p2 - 1))else 0)+1))))) (iD hk104)<|Ll [1,2,10,11,252,257,266,271] (aY hx_19)<|dX<|D7 (enc:=ab) (yss:=[x102,(sl x103 (bif decide (0<(IntKind.wrap .i64 (p2 - 1)))then(IntKind.wrap .i64 (p2 - 1))else 0) (IntKind.wrap .i64 ((bif decide (0<(IntKind.wrap .i64 (p2 - 1)))then(IntKind.wrap .i64 (p2 - 1))else 0)+1))),x105]) (r:=r106) (n:=3) (d1:=272) (d2:=273) (f:=122) (ts:=[257,266,271]) 315 H [1,2,10,11,252,273] [(1,.d (.ptr p1 0)),(2,vI (bif decide (0<(IntKind.wrap .i64 (p2 - 1)))then(IntKind.wrap .i64 (p2 - 1))else 0)),(10,.d (cP.enc x97)),(11,.d (cP.enc x99)),(252,.d (cP.enc x97)),(273,Pd r106)] (vM ψ hr_r106) κ κ<|ax (s:=.d (.ptr i107 0)) (bh hp_i107)<|aa 1<|aa 1<|fF 273 hx_25<|ak<|an<|bI h λi109 hp_i109 h=>bI h λi110 hp_i110 h=>bI h λx111 hx_4 h=>bI h λx112 hx_8 h=>bI h λr113 hr_r113 h=>bI h λi114 hp_i114 h=>bI h λH115 hx_13 h=>aI 315 H108 [(1,.d (.ptr p1 0)),(2,vI (bif decide (0<(IntKind.wrap .i64 (p2 - 1)))then(IntKind.wrap .i64 (p2 - 1))else 0)),(10,.d (cP.enc x97)),(11,.d (cP.enc x99))]<|fx [0,1,2,3,5,6,7,4,8] [9,10,11,12,13] κ κ<|aB<|aB<|cl (s:=.d (.ptr i109 0)) (bh hp_i109)<|aB<|aB<|cl (s:=.d (.ptr i110 0)) (bh hp_i110)<|aB<|cl (aY hx_4)<|Ll [1,2,277,281,285] (aY hx_8)<|dX<|D7 (enc:=cP.enc) (yss:=[x111,x112]) (r:=r113) (n:=1) (d1:=286) (d2:=287) (f:=123) (ts:=[281,285]) 315 H108 [1,2,277,287] [(1,.d (.ptr p1 0)),(2,vI (bif decide (0<(IntKind.wrap .i64 (p2 - 1)))then(IntKind.wrap .i64 (p2 - 1))else 0)),(277,.d (cP.enc x97)),(287,Pc r113)] (qQ ψ hr_r113) κ κ<|ax (s:=.d (.ptr i114 0)) (bh hp_i114)<|aa 1<|fF 287 hx_13<|ak<|aA<|aS [295] 5<|bI h λq116 hq h=>m9 hq<|aS [295] 3<|bI h λr117 hr h=>iz 315 q116.2 (d:=some 299) (ls:=[]) (gs:=[(295,0)]) [0] [1,2,290,299] [(1,.d (.ptr p1 0)),(2,vI (bif decide (0<(IntKind.wrap .i64 (p2 - 1)))then(IntKind.wrap .i64 (p2 - 1))else 0)),(290,.d (.ptr p1 0)),(299,.own 3 (List.map ab r117))] (mI hr) κ κ κ<|aS [295] 3<|bI h λH118 hx h=>fF 299 hx<|ak<|ah<|aS [307] 4<|bI h λq119 hq h=>m9 hq<|aS [307] 4<|bI h λr120 hr h=>iz 315 q119.2 (d:=some 312) (ls:=[]) (gs:=[(307,0)]) [0] [303,312] [(303,.d (.ptr p1 0)),(312,.own 1 (List.map cP.enc r120))] (ml hr) κ κ κ<|aS [307] 2<|bI h λH121 hx h=>fF 312 hx<|af<|iI h▸EN)) λjp50 h=>fL<|aE 5<|bI h λx51 hx h=>bn (aY hx)<|bn (aJ (enc:=cP.enc) (xs:=x51))<|dn [] [0,1,2,6,139] 2<|dV (λb=>(sp 315 (K17 p0 p1 [(2,vI p2),(6,.d (cP.enc x2)),(139,vB b)]) H)) h (λh=>aE 3<|bI h λx52 hx h=>bn (aY hx)<|aE 2<|bI h λx53 hx h=>bn (s:=bb (some (.au p1 1)) [cP.enc x53]) (cz (n:=1) hx)<|aE 1<|bI h λi54 hp_i54 h=>bn (s:=.d (.ptr i54 0)) (bh hp_i54)<|aE 2<|bI h λx55 hx h=>bn (aY hx)<|bn (aJ (enc:=ab) (xs:=x55))<|aE 1<|bI h λr56 hr h=>iB (ls:=[]) (kH hr)<|aE 2<|bG<|JQ [] h) λh=>aE 17<|bG<|JQ [] h)) λjp4 h=>fL<|dn [] [0,1,2,6,21] 3<|dV (λb=>(sp 315 (K17 p0 p1 [(2,vI p2),(6,.d (cP.enc x2)),(21,vB b)]) H)) h (λh=>aE 3<|bI h λx5 hx h=>bn (aY hx)<|aE 2<|bI h λx6 hx h=>bn (s:=bb (some (.au p1 1)) [cP.enc x6]) (cz (n:=1) hx)<|aE 1<|bI h λi7 hp_i7 h=>bn (s:=.d (.ptr i7 0)) (bh hp_i7)<|aE 2<|bI h λx8 hx h=>bn (aY hx)<|bn (aJ (enc:=ab) (xs:=x8))<|aE 1<|bI h λr9 hr h=>iB (ls:=[]) (kH hr)<|aE 2<|bG<|JQ [] h) λh=>aE 17<|bG<|JQ [] h
def jn(fuel:Nat)(y10:(Option Nat)×Hp):Option (((Option Nat)×Hp)⊕((Option Nat)×Hp)):=
 y10.1.bind λi11=>
 (cT fuel i11 y10.2).bind λr12=>
 bif (!r12)then
  (bL 1 cP y10.2 i11 1).bind λx13=>
  (bL 1 cP y10.2 i11 1).bind λx14=>
  (idx x13 (IntKind.wrap .i64 ((x14.length:Int) - 1))).bind λx15=>
  some (.inl (x15,y10.2))
 else
  some (.inr ((some i11),y10.2))
end
end Go.Sh
