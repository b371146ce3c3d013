/- Printed by a program: functions of the program as plain functions, and that the code computes them. -/
import Derived.Test.YtmhiemakdfkmeaaGreatS4
import Derived.Test.YtmhiemakdfkmeaaGreatProg
import Derived.Lib.Strings
import Derived.Lib.Slices
import Derived.Lib.Walk
import Derived.Lib.Bytealg
set_option linter.all false
set_option autoImplicit true
set_option relaxedAutoImplicit true
open Go Go.Proofs
namespace Go.Sh
set_option maxRecDepth 100000
abbrev SL:=List (Nat×SV)
structure ak where
 aq:(List Int)
 Down:(List Bool)
 cW:Int
 deriving DecidableEq,Inhabited
def bG(x:ak):D:=.agg [.list 1 (List.map (D.int .i64) x.aq),.list 1 (List.map D.bool x.Down),.int .i64 x.cW]
structure Value where
 Kind:Int
 N:Int
 S:(List UInt8)
 deriving DecidableEq,Inhabited
def ah(x:Value):D:=.agg [.int .i64 x.Kind,.int .i64 x.N,.str x.S]
structure Act where
 Kind:Int
 Key:Int
 Row:(List Value)
 uj:(List Value)
 deriving DecidableEq,Inhabited
def iV(x:Act):D:=.agg [.int .i64 x.Kind,.int .i64 x.Key,.list 3 (List.map ah x.Row),.list 3 (List.map ah x.uj)]
def yZ(xs:List Value):D:=D.list 3 (List.map ah xs)
def kV(fuel:Nat)(p0:(List (List Value)))(y1:Int)(y3:Int):Option ((Int)⊕((Unit)⊕((Bool)))):=
 (idx p0 y1).bind λx4=>
 bif (decide (y3<(x4.length:Int)))then
  (idx p0 y1).bind λx5=>
  (idx x5 y3).bind λx6=>
  bif (decide ((x6.S.length:Int)>200))then
   some (.inr (.inr false))
  else
   some (.inl (IntKind.wrap .i64 (y3+1)))
 else
  some (.inr (.inl ()))
def kU(fuel:Nat)(p0:(List (List Value)))(y1:Int):Option ((Int)⊕((Unit)⊕((Bool)))):=
 bif (decide (y1<(p0.length:Int)))then
  (idx p0 y1).bind λx2=>
  bif (decide ((x2.length:Int)>20))then
   some (.inr (.inr false))
  else
   (iter (kV fuel p0 y1) fuel 0).bind (Sum.elim (λv8=>
    some (.inl (IntKind.wrap .i64 (y1+1)))) (λr9=>
    some (.inr (.inr r9))))
 else
  some (.inr (.inl ()))
def pA(fuel:Nat)(p0:(List (List Value))):Option (Bool):=
 (iter (kU fuel p0) fuel 0).bind (Sum.elim (λv11=>
  some true) (λr12=>
  some r12))
def Z0(x0:(List Act)):SV:=.d (.list 4 (List.map iV x0))
def Z1(x0:ak):SV:=.box [.d (.list 1 (List.map (D.int .i64) x0.aq)),.d (.list 1 (List.map D.bool x0.Down)),vI x0.cW]
def Z2(x0:ak):SV:=.d (.agg [.list 1 (List.map (D.int .i64) x0.aq),.list 1 (List.map D.bool x0.Down),.int .i64 x0.cW])
def Z4(x0:Act):SV:=.d (.list 3 (List.map ah x0.Row))
def Z5(x0:Act):SV:=.d (.list 3 (List.map ah x0.uj))
def Z7(x0:(List (List Value))):SV:=.d (.list 1 (List.map yZ x0))
def Z9(x0:(List Value)):SV:=.d (.list 3 (List.map ah x0))
section
attribute [local irreducible] aa aA bb au SW uS
theorem Bi(h:pA fuel p0=some r):PC Tryz.prog 18 [.d (.list 1 (List.map yZ p0))] (vB r):=by
 refine PC.bo Tryz.func18 rfl λH=>?_
 unfold pA at h
 exact SW.kk 36 H [(0,Z7 p0)]<|SW.t 1<|SW.seq<|SW.t 1<|SW.block<|bI h λz10 hit h=>SW.it 36 H [0,3] (λy1=>[(0,Z7 p0),(3,vI y1)]) (λb e s=>((∃v11,b=(.inl v11)/\(e=.exit 0/\s=(sp 36 [] H)))\/(∃r12,b=(.inr r12)/\(e=.ret/\bW Tryz.prog Tryz.f18.results.toList H (vB r12) .ret s)))) hit κ (λy1 o h=>by unfold kU at h;exact SW.seq<|SW.S<|aa.t 2<|aa.p (ax.len (enc:=yZ) (xs:=p0))<|aa.t 1<|aa.E<|SW.b h (λh=>SW.skip<|af<|SW.seq<|SW.block<|SW.seq<|SW.S<|aa.t 2<|bI h λx2 hx h=>aa.p (s:=aI none (Go.Sh.D.cells (yZ x2))) (ax.index (n:=1) hx)<|aa.t 1<|aa.p (ax.len (enc:=ah) (xs:=x2))<|aa.t 1<|aa.E<|SW.b h (λh=>SW.t 1<|SW.ret<|ag<|az<|ag<|ag<|LR h (.inr (⟨false,rfl,rfl,bW.ret [] κ κ⟩))) (λh=>SW.skip<|af<|SW.t 1<|SW.block<|bI h λz7 hit h=>SW.it 36 H [0,3,4] (λy3=>[(0,Z7 p0),(3,vI y1),(4,vI y3)]) (λb e s=>((∃v8,b=(.inl v8)/\(e=.exit 2/\s=(sp 36 [(0,Z7 p0),(3,vI y1)] H)))\/(∃r9,b=(.inr r9)/\(e=.ret/\bW Tryz.prog Tryz.f18.results.toList H (vB r9) .ret s)))) hit κ (λy3 o h=>by unfold kV at h;exact SW.seq<|SW.S<|aa.t 3<|bI h λx4 hx h=>aa.p (s:=aI none (Go.Sh.D.cells (yZ x4))) (ax.index (n:=1) hx)<|aa.t 1<|aa.p (ax.len (enc:=ah) (xs:=x4))<|aa.t 1<|aa.E<|SW.b h (λh=>SW.skip<|af<|SW.seq<|SW.block<|SW.S<|aa.t 2<|bI h λx5 hx h=>aa.p (s:=aI none (Go.Sh.D.cells (yZ x5))) (ax.index (n:=1) hx)<|aa.t 2<|bI h λx6 hx h=>aa.p (s:=aI none (Go.Sh.D.cells (ah x6))) (ax.index (n:=3) hx)<|aa.t 2<|aa.t 1<|aa.t 1<|aa.E<|SW.b h (λh=>SW.t 1<|SW.ret<|az<|ag<|ag<|LR h (.inr (⟨false,rfl,rfl,bW.ret [] κ κ⟩))) (λh=>SW.skip<|aB<|af<|SW.al<|aa.t 3<|aa.D<|LQ h)) (λh=>SW.kk 36 H [(0,Z7 p0),(3,vI y1)]<|SW.exit<|aG<|aG<|LR h (.inl ⟨(),rfl,rfl,rfl⟩))) (by rintro _ _ (⟨v8,rfl,rfl,rfl⟩|⟨r9,rfl,rfl,hE⟩);exact have h:=gd h;aM<|aB<|af<|SW.al<|aa.t 3<|aa.D<|LQ h;exact have h:=gb h;az<|az<|ag<|ag<|LR h (.inr (⟨r9,rfl,rfl,hE⟩))))) (λh=>SW.kk 36 H []<|SW.exit<|aG<|aG<|LR h (.inl ⟨(),rfl,rfl,rfl⟩))) (by rintro _ _ (⟨v11,rfl,rfl,rfl⟩|⟨r12,rfl,rfl,hE⟩);exact have h:=gd h;aM<|af<|SW.t 1<|SW.ret<|iI h▸E0;exact have h:=gb h;az<|ag<|(by cases h;exact hE))
def lK(fuel:Nat)(p1:(List Act))(y1:Int):Option ((Int)⊕((Unit)⊕((Bool)))):=
 bif ((decide (y1<(p1.length:Int)))&&(decide (y1<80)))then
  (idx p1 y1).bind λx2=>
  (idx p1 y1).bind λx3=>
  (pA fuel [x2.Row,x3.uj]).bind λr4=>
  bif (!r4)then
   some (.inr (.inr false))
  else
   some (.inl (IntKind.wrap .i64 (y1+1)))
 else
  some (.inr (.inl ()))
def w5(fuel:Nat)(p0:ak)(p1:(List Act)):Option (Bool):=
 (iter (lK fuel p1) fuel 0).bind (Sum.elim (λv6=>
  bif (decide ((p1.length:Int)<=80))then
   bif (decide ((p0.aq.length:Int)<=20))then
    some (decide ((p0.Down.length:Int)<=20))
   else
    some false
  else
   some false) (λr7=>
  some r7))
def NF(x0:ak):SV:=.d (.list 1 (List.map (D.int .i64) x0.aq))
def Og(x0:ak):SV:=vI (x0.aq.length:Int)
theorem Fo(h:w5 fuel p0 p1=some r):PC Tryz.prog 7 [.d (bG p0),.d (.list 4 (List.map iV p1))] (vB r):=by
 refine PC.bo Tryz.func7 rfl λH=>?_
 unfold w5 at h
 exact SW.kk 44 H [(0,Z2 p0),(1,Z0 p1)]<|SW.t 1<|SW.seq<|SW.t 1<|SW.block<|bI h λz5 hit h=>SW.it 44 H [1,2,5] (λy1=>[(1,Z0 p1),(2,Z1 p0),(5,vI y1)]) (λb e s=>((∃v6,b=(.inl v6)/\(e=.exit 0/\s=(sp 44 [(1,Z0 p1),(2,Z1 p0)] H)))\/(∃r7,b=(.inr r7)/\(e=.ret/\bW Tryz.prog Tryz.f7.results.toList H (vB r7) .ret s)))) hit κ (λy1 o h=>by unfold lK at h;exact SW.seq<|SW.S<|aa.t 2<|aa.p (ax.len (enc:=iV) (xs:=p1))<|aa.s [] [1,2,5,10] 2<|aa.mg 44 H [1,2,5,13] 3 (decide (y1<(p1.length:Int))) (λb=>(sp 44 [(1,Z0 p1),(2,Z1 p0),(5,vI y1),(10,vB b)] H)) (λb=>[(1,Z0 p1),(2,Z1 p0),(5,vI y1),(13,vB (b&&(decide (y1<80))))]) κ κ κ<|aa.E<|SW.b h (λh=>SW.skip<|af<|SW.seq<|SW.block<|SW.seq<|SW.fS 10 κ κ<|bb.t 2<|bI h λx2 hx h=>bb.p (s:=aI none (Go.Sh.D.cells (iV x2))) (ax.index (n:=4) hx)<|bb.t 4<|bI h λx3 hx h=>bb.p (s:=aI none (Go.Sh.D.cells (iV x3))) (ax.index (n:=4) hx)<|bb.t 2<|bb.D<|aa.t 1<|bI h λr4 hr h=>aa.cl 44 H (d:=some 27) (ls:=[(.slot 26)]) (gs:=[]) [] [1,2,5,27] [(1,Z0 p1),(2,Z1 p0),(5,vI y1),(27,vB r4)] (Bi hr) κ κ κ<|aa.t 1<|aa.E<|SW.b h (λh=>SW.t 1<|SW.ret<|az<|ag<|ag<|LR h (.inr (⟨false,rfl,rfl,bW.ret [] κ κ⟩))) (λh=>SW.skip<|aB<|af<|SW.al<|aa.t 3<|aa.D<|LQ h)) (λh=>SW.K [(1,Z0 p1),(2,Z1 p0)]<|SW.exit<|aG<|aG<|LR h (.inl ⟨(),rfl,rfl,rfl⟩))) (by rintro _ _ (⟨v6,rfl,rfl,rfl⟩|⟨r7,rfl,rfl,hE⟩);exact have h:=gd h;aM<|af<|SW.S<|aa.t 1<|aa.p (ax.len (enc:=iV) (xs:=p1))<|aa.s [] [2,32] 2<|aa.b2 (λb=>(sp 44 [(2,Z1 p0),(32,vB b)] H)) h (λh=>aa.t 2<|aa.p (ax.len (enc:=(D.int .i64)) (xs:=p0.aq))<|aa.s [] [2,38] 3<|aa.b2 (λb=>(sp 44 [(2,Z1 p0),(38,vB b)] H)) h (λh=>aa.t 2<|aa.p (ax.len (enc:=D.bool) (xs:=p0.Down))<|aa.t 3<|aa.E<|SW.ret<|iI h▸E0) λh=>aa.t 6<|aa.E<|SW.ret<|iI h▸E0) λh=>aa.t 12<|aa.E<|SW.ret<|iI h▸E0;exact have h:=gb h;az<|ag<|(by cases h;exact hE))
def Cn(fuel:Nat)(p0:Int):Option (Bool):=
 some ((p0==1)||(p0==2))
def JJ(x0:(List Int)):SV:=.d (.list 1 (List.map (D.int .i64) x0))
def Oa:SV:=.d (.fn (.func 85) [] [])
theorem ES(h:Cn fuel p0=some r):PC Tryz.prog 86 [vI p0] (vB r):=by
 refine PC.bo Tryz.func86 rfl λH=>?_
 unfold Cn at h
 exact SW.kk 9 H [(0,vI p0)]<|SW.t 1<|SW.S<|aa.s [] [0,5] 3<|aa.mg 9 H [8] 3 (p0==1) (λb=>(sp 9 [(0,vI p0),(5,vB b)] H)) (λb=>[(8,vB (b||(p0==2)))]) κ κ κ<|aa.t 1<|aa.E<|SW.ret<|iI h▸E0
def p7(fuel:Nat)(p0:Int):Option (Bool):=
 (Cn fuel p0).bind λr1=>
 some (!r1)
theorem zu(h:p7 fuel p0=some r):PC Tryz.prog 85 [vI p0] (vB r):=by
 refine PC.bo Tryz.func85 rfl λH=>?_
 unfold p7 at h
 exact SW.kk 6 H [(0,vI p0)]<|SW.t 1<|SW.S<|aa.t 1<|bI h λr1 hr h=>aa.d (ES hr)<|aa.t 2<|aa.E<|SW.ret<|iI h▸E0
def bM(fuel:Nat)(p0:(List Int))(y1:Int):Option ((Int)⊕((Unit)⊕((Int)))):=
 bif (decide (y1<(p0.length:Int)))then
  (idx p0 y1).bind λx2=>
  (p7 fuel x2).bind λr3=>
  bif r3 then
   some (.inr (.inr y1))
  else
   some (.inl (IntKind.wrap .i64 (y1+1)))
 else
  some (.inr (.inl ()))
def cd(fuel:Nat)(p0:(List Int)):Option (Int):=
 (iter (bM fuel p0) fuel 0).bind (Sum.elim (λv5=>
  some (-1)) (λr6=>
  some r6))
theorem kh(h:cd fuel p0=some r):PC Tryz.prog 103 [.d (.list 1 (List.map (D.int .i64) p0)),.d (.fn (.func 85) [] [])] (vI r):=by
 refine PC.bo Tryz.func103 rfl λH=>?_
 unfold cd at h
 exact SW.kk 19 H [(0,JJ p0),(1,Oa)]<|SW.t 1<|SW.seq<|SW.S<|aa.t 1<|aa.p (ax.len (enc:=(D.int .i64)) (xs:=p0))<|aa.t 1<|aa.E<|SW.block<|bI h λz4 hit h=>SW.it 19 H [0,1,7,8] (λy1=>[(0,JJ p0),(1,Oa),(7,vI (p0.length:Int)),(8,vI y1)]) (λb e s=>((∃v5,b=(.inl v5)/\(e=.exit 0/\s=(sp 19 [] H)))\/(∃r6,b=(.inr r6)/\(e=.ret/\bW Tryz.prog Tryz.f103.results.toList H (vI r6) .ret s)))) hit κ (λy1 o h=>by unfold bM at h;exact SW.t 1<|SW.seq<|SW.b h (λh=>SW.skip<|af<|SW.seq<|SW.block<|SW.t 1<|SW.S<|aa.t 3<|bI h λx2 hx h=>aa.p (s:=aI none (Go.Sh.D.cells ((D.int .i64) x2))) (ax.index (n:=1) hx)<|aa.t 1<|bI h λr3 hr h=>aa.d (zu hr)<|aa.E<|SW.b h (λh=>SW.t 1<|SW.ret<|az<|ag<|ag<|LR h (.inr (⟨y1,rfl,rfl,bW.ret [] κ κ⟩))) (λh=>SW.skip<|aB<|af<|SW.al<|aa.t 2<|aa.D<|LQ h)) (λh=>SW.kk 19 H []<|SW.exit<|aG<|aG<|LR h (.inl ⟨(),rfl,rfl,rfl⟩))) (by rintro _ _ (⟨v5,rfl,rfl,rfl⟩|⟨r6,rfl,rfl,hE⟩);exact have h:=gd h;aM<|af<|SW.t 1<|SW.ret<|iI h▸E0;exact have h:=gb h;az<|ag<|(by cases h;exact hE))
def bN(fuel:Nat)(p0:(List Int)):Option (Bool):=
 (cd fuel p0).bind λr1=>
 some (decide (r1>=0))
theorem jo(h:bN fuel p0=some r):PC Tryz.prog 84 [.d (.list 1 (List.map (D.int .i64) p0)),.d (.fn (.func 85) [] [])] (vB r):=by
 refine PC.bo Tryz.func84 rfl λH=>?_
 unfold bN at h
 exact SW.kk 9 H [(0,JJ p0),(1,Oa)]<|SW.t 1<|SW.S<|aa.t 2<|bI h λr1 hr h=>aa.d (kh hr)<|aa.t 2<|aa.E<|SW.ret<|iI h▸E0
def rR(fuel:Nat)(p0:ak):Option (Bool):=
 bif (decide ((p0.aq.length:Int)>=1))then
  bif (decide ((p0.aq.length:Int)<=8))then
   bif ((((p0.Down.length:Int)==(p0.aq.length:Int))&&(decide (p0.cW>=1)))&&(decide (p0.cW<=3)))then
    (bN fuel p0.aq).bind λr1=>
    some (!r1)
   else
    some false
  else
   some false
 else
  some false
theorem Cp(h:rR fuel p0=some r):PC Tryz.prog 59 [.d (bG p0)] (vB r):=by
 refine PC.bo Tryz.func59 rfl λH=>?_
 unfold rR at h
 exact SW.kk 38 H [(0,Z2 p0)]<|SW.t 1<|SW.S<|aa.t 2<|aa.p (ax.len (enc:=(D.int .i64)) (xs:=p0.aq))<|aa.s [] [1,7] 2<|aa.b2 (λb=>(sp 38 [(1,Z1 p0),(7,vB b)] H)) h (λh=>aa.t 2<|aa.p (ax.len (enc:=(D.int .i64)) (xs:=p0.aq))<|aa.s [] [1,13] 3<|aa.b2 (λb=>(sp 38 [(1,Z1 p0),(13,vB b)] H)) h (λh=>aa.t 2<|aa.p (ax.len (enc:=D.bool) (xs:=p0.Down))<|aa.t 2<|aa.p (ax.len (enc:=(D.int .i64)) (xs:=p0.aq))<|aa.s [] [1,22] 3<|aa.mg 38 H [1,26] 4 ((p0.Down.length:Int)==(p0.aq.length:Int)) (λb=>(sp 38 [(1,Z1 p0),(22,vB b)] H)) (λb=>[(1,Z1 p0),(26,vB (b&&(decide (p0.cW>=1))))]) κ κ κ<|aa.s [] [1,27] 1<|aa.mg 38 H [1,31] 4 (((p0.Down.length:Int)==(p0.aq.length:Int))&&(decide (p0.cW>=1))) (λb=>(sp 38 [(1,Z1 p0),(27,vB b)] H)) (λb=>[(1,Z1 p0),(31,vB (b&&(decide (p0.cW<=3))))]) κ κ κ<|aa.s [] [1,32] 1<|aa.b2 (λb=>(sp 38 [(1,Z1 p0),(32,vB b)] H)) h (λh=>aa.t 2<|bI h λr1 hr h=>aa.d (jo hr)<|aa.t 3<|aa.E<|SW.ret<|iI h▸E0) λh=>aa.t 6<|aa.E<|SW.ret<|iI h▸E0) λh=>aa.t 25<|aa.E<|SW.ret<|iI h▸E0) λh=>aa.t 31<|aa.E<|SW.ret<|iI h▸E0
def fy(fuel:Nat)(p0:(List Int)):Option ((List Int)):=
 CM p0 λb1=>
 bif b1 then
  some ([]:List Int)
 else
  dx (decide ((([]:List Int)++p0).length<=room))<|
  some (([]:List Int)++p0)
theorem oE(h:fy fuel p0=some r):PC Tryz.prog 48 [.d (.list 1 (List.map (D.int .i64) p0))] (.own 1 (List.map (D.int .i64) r)):=by
 refine PC.bo Tryz.func48 rfl λH=>?_
 unfold fy at h
 exact SW.kk 8 H [(0,JJ p0)]<|SW.t 1<|SW.seq<|SW.S<|aa.s [] [0,3] 1<|aa.GR (xs:=List.map (D.int .i64) p0) (d:=some 4) (e:=true) 8 H [0,4] (λb1=>[(0,JJ p0),(4,vB b1)]) κ (λ_=>by kernel_rfl) (λb1 hnil=>have h:=pr h b1 (λe=>q_5.1 (hnil e));aa.E<|SW.b h (λh=>SW.t 1<|SW.ret<|ag<|iI h▸E0) (λh=>SW.skip<|af<|SW.S<|aa.ts [5] 2<|lj h λhk h=>aa.ap 5 1 (List.map (D.int .i64) (([]:List Int)++p0)) (aS) (bx hk)<|aa.ts [5] 1<|aa.E<|SW.ret<|iI h▸E0))
def eY(fuel:Nat)(p0:(List Bool)):Option ((List Bool)):=
 CM p0 λb1=>
 bif b1 then
  some ([]:List Bool)
 else
  dx (decide ((([]:List Bool)++p0).length<=room))<|
  some (([]:List Bool)++p0)
def OK(x0:(List Bool)):SV:=.d (.list 1 (List.map D.bool x0))
theorem qt(h:eY fuel p0=some r):PC Tryz.prog 60 [.d (.list 1 (List.map D.bool p0))] (.own 1 (List.map D.bool r)):=by
 refine PC.bo Tryz.func60 rfl λH=>?_
 unfold eY at h
 exact SW.kk 8 H [(0,OK p0)]<|SW.t 1<|SW.seq<|SW.S<|aa.s [] [0,3] 1<|aa.GR (xs:=List.map D.bool p0) (d:=some 4) (e:=true) 8 H [0,4] (λb1=>[(0,OK p0),(4,vB b1)]) κ (λ_=>by kernel_rfl) (λb1 hnil=>have h:=pr h b1 (λe=>q_5.1 (hnil e));aa.E<|SW.b h (λh=>SW.t 1<|SW.ret<|ag<|iI h▸E0) (λh=>SW.skip<|af<|SW.S<|aa.ts [5] 2<|lj h λhk h=>aa.ap 5 1 (List.map D.bool (([]:List Bool)++p0)) (aS) (bx hk)<|aa.ts [5] 1<|aa.E<|SW.ret<|iI h▸E0))
structure Entry where
 Row:(List Value)
 Key:Int
 Number:Int
 deriving DecidableEq,Inhabited
def ab(x:Entry):D:=.agg [.list 3 (List.map ah x.Row),.int .i64 x.Key,.int .i64 x.Number]
def ux(fuel:Nat)(p0:ak)(p1:Int)(H:Hp):Option (((Option Nat)×Int)×Hp):=
 (rR fuel p0).bind λr1=>
 bif (!r1)then
  some ((none,1),H)
 else
  bif ((decide (p1<3))||(decide (p1>32)))then
   some ((none,7),H)
  else
   (fy fuel p0.aq).bind λr2=>
   (eY fuel p0.Down).bind λr3=>
   (kW H (.cells [.own 3 (List.map ab ([]:List Entry)),.own 1 (List.map cP.enc ([]:List (Option Nat)))])).bind λq4=>
   (kW q4.1 (.cells [.d (.list 1 (List.map (D.int .i64) r2)),.d (.list 1 (List.map D.bool r3)),.d (.int .i64 p0.cW),.d (.int .i64 p1),.d (.ptr q4.2 0),.d (.int .i64 0),.d (.int .i64 0)])).bind λq5=>
   some (((some q5.2),0),q5.1)
def O5(x0:(List Int))(x1:(List Bool))(x2:ak):SV:=.box [.d (.list 1 (List.map (D.int .i64) x0)),.d (.list 1 (List.map D.bool x1)),vI x2.cW]
theorem wa(h:ux fuel p0 p1 H=some r):SC Tryz.prog false 31 [.d (bG p0),vI p1] H (.gC [.d (cP.enc r.1.1),vI r.1.2]) r.2:=by
 refine SC.fc Tryz.func31 rfl ?_
 unfold ux at h
 exact SW.kk 31 H [(0,Z2 p0),(1,vI p1)]<|SW.t 1<|SW.seq<|SW.block<|SW.S<|aa.t 1<|bI h λr1 hr h=>aa.d (Cp hr)<|aa.t 2<|aa.E<|SW.b h (λh=>SW.t 1<|SW.ret<|az<|ag<|iI h▸E0) (λh=>SW.S<|aa.s [] [1,2,13] 3<|aa.mg 31 H [1,2,16] 3 (decide (p1<3)) (λb=>(sp 31 [(1,vI p1),(2,Z1 p0),(13,vB b)] H)) (λb=>[(1,vI p1),(2,Z1 p0),(16,vB (b||(decide (p1>32))))]) κ κ κ<|aa.t 1<|aa.E<|SW.b h (λh=>SW.t 1<|SW.ret<|az<|ag<|iI h▸E0) (λh=>SW.skip<|aB<|af<|SW.seq<|bI h λr2 hr_2 h=>bI h λr3 hr_5 h=>SW.kk 31 H [(1,vI p1),(2,Z1 p0)]<|SW.qG 31 H [(1,vI p1),(2,O5 r2 r3 p0)] [0,1] 8 3 κ κ κ (λX hX=>by subst hX;exact au.t<|au.sg 31 H [1,2,18] [(1,vI p1),(2,Z1 p0),(18,NF p0)] κ<|au.D<|OX.auto [] [(2,eV _),(5,eV _),(7,eF 19),(9,eF 22)] ⟨EV.c (oE hr_2),EV.c (qt hr_5),EV.z,EV.z,trivial⟩) (af<|SW.S<|aa.t 3<|bI h λq4 hq h=>aa.nw [(0,3,true),(1,1,true)] hq<|aa.t 1<|bI h λq5 hq h=>aa.nw [] hq<|aa.t 2<|aa.E<|SW.ret<|iI h▸E0)))
def cj:Cl ak:=((cL 1 (cI .i64)).one.pair ((cL 1 cB).one.pair (cI .i64).one)).Nz (λp=>(⟨p.1,p.2.1,p.2.2⟩:ak)) (λx=>(x.aq,x.Down,x.cW)) (λ_=>rfl) (λ_=>rfl)
def je(fuel:Nat)(p0:Int)(p1:Int)(p2:Int):Option (Bool):=
 some ((decide (p0>=p1))&&(decide (p0<=p2)))
def Ez(x0:Value):SV:=.box [vI x0.Kind,vI x0.N,vS x0.S]
def Dq(x0:Value):SV:=.d (.agg [.int .i64 x0.Kind,.int .i64 x0.N,.str x0.S])
theorem pE(h:je fuel p0 p1 p2=some r):PC Tryz.prog 111 [vI p0,vI p1,vI p2] (vB r):=by
 refine PC.bo Tryz.func111 rfl λH=>?_
 unfold je at h
 exact SW.kk 15 H [(0,vI p0),(1,vI p1),(2,vI p2)]<|SW.t 1<|SW.S<|aa.s [] [0,2,10] 4<|aa.mg 15 H [14] 4 (decide (p0>=p1)) (λb=>(sp 15 [(0,vI p0),(2,vI p2),(10,vB b)] H)) (λb=>[(14,vB (b&&(decide (p0<=p2))))]) κ κ κ<|aa.t 1<|aa.E<|SW.ret<|iI h▸E0
def mF(fuel:Nat):Option (Unit):=
 some ()
theorem xb(h:mF fuel=some r):PC Tryz.prog 112 [] (.d (.agg [.fn (.func 124) [] [],.fn (.func 125) [] [],.fn (.func 126) [] []])):=by
 refine PC.bo Tryz.func112 rfl λH=>?_
 unfold mF at h
 exact SW.kk 2 H []<|SW.t 2<|SW.ret<|E0
def kG(fuel:Nat)(p0:Value):Option (Bool):=
 some false
def ND:SV:=.d (.agg [.fn (.func 124) [] [],.fn (.func 125) [] [],.fn (.func 126) [] []])
theorem tY(h:kG fuel p0=some r):PC Tryz.prog 124 [.d (ah p0)] (vB r):=by
 refine PC.bo Tryz.func124 rfl λH=>?_
 unfold kG at h
 exact SW.kk 3 H [(0,Dq p0)]<|SW.t 2<|SW.ret<|iI h▸E0
def kF(fuel:Nat)(p0:Value):Option (Bool):=
 bif (p0.S==[])then
  (je fuel p0.N (-1000000000) 1000000000).bind λr1=>
  some r1
 else
  some false
theorem tX(h:kF fuel p0=some r):PC Tryz.prog 125 [.d (ah p0)] (vB r):=by
 refine PC.bo Tryz.func125 rfl λH=>?_
 unfold kF at h
 exact SW.kk 11 H [(0,Dq p0)]<|SW.t 1<|SW.S<|aa.s [] [1,6] 4<|aa.b2 (λb=>(sp 11 [(1,Ez p0),(6,vB b)] H)) h (λh=>aa.t 2<|bI h λr1 hr h=>aa.d (pE hr)<|aa.t 2<|aa.E<|SW.ret<|iI h▸E0) λh=>aa.t 5<|aa.E<|SW.ret<|iI h▸E0
def kE(fuel:Nat)(p0:Value):Option (Bool):=
 bif (p0.N==0)then
  some (decide ((p0.S.length:Int)<=40))
 else
  some false
theorem tW(h:kE fuel p0=some r):PC Tryz.prog 126 [.d (ah p0)] (vB r):=by
 refine PC.bo Tryz.func126 rfl λH=>?_
 unfold kE at h
 exact SW.kk 12 H [(0,Dq p0)]<|SW.t 1<|SW.S<|aa.s [] [1,6] 4<|aa.b2 (λb=>(sp 12 [(1,Ez p0),(6,vB b)] H)) h (λh=>aa.t 2<|aa.t 1<|aa.t 3<|aa.E<|SW.ret<|iI h▸E0) λh=>aa.t 6<|aa.E<|SW.ret<|iI h▸E0
def fL(fuel:Nat)(p0:Value):Option (Bool):=
 (je fuel p0.Kind 0 2).bind λr1=>
 bif r1 then
  (mF fuel).bind λr2=>
  bif (p0.Kind==0)then
   (kG fuel p0).bind λr3=>
   some r3
  else
   bif (p0.Kind==1)then
    (kF fuel p0).bind λr4=>
    some r4
   else
    bif (p0.Kind==2)then
     (kE fuel p0).bind λr5=>
     some r5
    else
     none
 else
  some false
theorem rB(h:fL fuel p0=some r):PC Tryz.prog 91 [.d (ah p0)] (vB r):=by
 refine PC.bo Tryz.func91 rfl λH=>?_
 unfold fL at h
 exact SW.kk 14 H [(0,Dq p0)]<|SW.t 1<|SW.seq<|SW.qq<|aA.t 2<|bI h λr1 hr h=>aA.d (pE hr)<|aA.s [] [1,6] 1<|aA.case r1 (λb=>(sp 14 [(1,Ez p0),(6,vB b)] H)) κ (λhc=>have h:=eQ hc h;bI h λr2 hr h=>aA.d (xb hr)<|aA.sg 14 H [] [1,6,7,9] 2 [(1,Ez p0),(6,vB true),(7,ND),(9,vI p0.Kind)] κ<|(by rcases hc:(p0.Kind==0)with _|_;replace h:=eR hc h;rcases hc:(p0.Kind==1)with _|_;replace h:=eR hc h;rcases hc:(p0.Kind==2)with _|_;replace h:=eR hc h;cases h;exact have h:=eQ hc h;aA.lit (λe=>(sp 14 [(1,Ez p0),(6,vB true),(7,ND),(9,vI e)] H)) κ hc<|aA.t 2<|bI h λr5 hr h=>aA.d (tW hr)<|aA.t 2<|aA.D<|af<|SW.ret<|iI h▸E0;exact have h:=eQ hc h;aA.lit (λe=>(sp 14 [(1,Ez p0),(6,vB true),(7,ND),(9,vI e)] H)) κ hc<|aA.t 2<|bI h λr4 hr h=>aA.d (tX hr)<|aA.t 2<|aA.D<|af<|SW.ret<|iI h▸E0;exact have h:=eQ hc h;aA.lit (λe=>(sp 14 [(1,Ez p0),(6,vB true),(7,ND),(9,vI e)] H)) κ hc<|aA.t 2<|bI h λr3 hr h=>aA.d (tY hr)<|aA.t 2<|aA.D<|af<|SW.ret<|iI h▸E0)) (λhc=>have h:=eR hc h;aA.t 8<|aA.D<|af<|SW.ret<|iI h▸E0)
def mZ(fuel:Nat)(p1:(List Value))(y1:(List Int)×(List Bool)×Int×Int):Option (((List Int)×(List Bool)×Int×Int)⊕((Unit)⊕((Bool)))):=
 bif (decide (y1.2.2.2<(p1.length:Int)))then
  (idx p1 y1.2.2.2).bind λx2=>
  (idx y1.1 y1.2.2.2).bind λx3=>
  bif (x2.Kind !=x3)then
   some (.inr (.inr false))
  else
   (fL fuel x2).bind λr4=>
   bif (!r4)then
    some (.inr (.inr false))
   else
    some (.inl (y1.1,y1.2.1,y1.2.2.1,(IntKind.wrap .i64 (y1.2.2.2+1))))
 else
  some (.inr (.inl ()))
def qZ(fuel:Nat)(p0:ak)(p1:(List Value)):Option (Bool):=
 bif ((p1.length:Int) !=(p0.aq.length:Int))then
  some false
 else
  (iter (mZ fuel p1) fuel (p0.aq,p0.Down,p0.cW,0)).bind (Sum.elim (λv6=>
   some true) (λr7=>
   some r7))
def O4(x0:(List Int)×(List Bool)×Int×Int):SV:=.box [.d (.list 1 (List.map (D.int .i64) x0.1)),.d (.list 1 (List.map D.bool x0.2.1)),vI x0.2.2.1]
theorem tu(h:qZ fuel p0 p1=some r):PC Tryz.prog 68 [.d (bG p0),.d (.list 3 (List.map ah p1))] (vB r):=by
 refine PC.bo Tryz.func68 rfl λH=>?_
 unfold qZ at h
 exact SW.kk 34 H [(0,Z2 p0),(1,Z9 p1)]<|SW.t 1<|SW.seq<|SW.S<|aa.t 1<|aa.p (ax.len (enc:=ah) (xs:=p1))<|aa.t 2<|aa.p (ax.len (enc:=(D.int .i64)) (xs:=p0.aq))<|aa.t 1<|aa.E<|SW.b h (λh=>SW.t 1<|SW.ret<|ag<|iI h▸E0) (λh=>SW.skip<|af<|SW.seq<|SW.S<|aa.t 1<|aa.p (ax.len (enc:=ah) (xs:=p1))<|aa.t 1<|aa.E<|SW.block<|bI h λz5 hit h=>SW.it 34 H [2,13,14,15] (λy1=>[(2,.box [.d (.list 1 (List.map (D.int .i64) y1.1)),.d (.list 1 (List.map D.bool y1.2.1)),vI y1.2.2.1]),(13,Z9 p1),(14,vI (p1.length:Int)),(15,vI y1.2.2.2)]) (λb e s=>((∃v6,b=(.inl v6)/\(e=.exit 0/\s=(sp 34 [] H)))\/(∃r7,b=(.inr r7)/\(e=.ret/\bW Tryz.prog Tryz.f68.results.toList H (vB r7) .ret s)))) hit κ (λy1 o h=>by unfold mZ at h;exact SW.t 1<|SW.seq<|SW.b h (λh=>SW.skip<|af<|SW.seq<|SW.block<|SW.S<|aa.t 1<|bI h λx2 hx h=>aa.p (s:=aI none (Go.Sh.D.cells (ah x2))) (ax.index (n:=3) hx)<|aa.t 4<|aa.E<|SW.seq<|SW.qq<|aA.t 5<|bI h λx3 hx h=>aA.p (s:=aI none (Go.Sh.D.cells ((D.int .i64) x3))) (ax.index (n:=1) hx)<|aA.s [] [2,6,13,14,15,28] 3<|aA.b2 (λb=>(sp 34 [(2,O4 y1),(6,Ez x2),(13,Z9 p1),(14,vI (p1.length:Int)),(15,vI y1.2.2.2),(28,vB b)] H)) h (λh=>aA.t 4<|aA.D<|af<|SW.jL κ<|SW.t 1<|SW.ret<|az<|ag<|ag<|LR h (.inr (⟨false,rfl,rfl,bW.ret [] κ κ⟩))) λh=>aA.t 1<|bI h λr4 hr h=>aA.d (rB hr)<|aA.t 2<|aA.D<|af<|SW.b h (λh=>SW.t 1<|SW.ret<|az<|ag<|ag<|LR h (.inr (⟨false,rfl,rfl,bW.ret [] κ κ⟩))) (λh=>SW.skip<|aB<|af<|SW.al<|aa.t 2<|aa.D<|LQ h)) (λh=>SW.kk 34 H []<|SW.exit<|aG<|aG<|LR h (.inl ⟨(),rfl,rfl,rfl⟩))) (by rintro _ _ (⟨v6,rfl,rfl,rfl⟩|⟨r7,rfl,rfl,hE⟩);exact have h:=gd h;aM<|af<|SW.t 1<|SW.ret<|iI h▸E0;exact have h:=gb h;az<|ag<|(by cases h;exact hE)))
def Ax(fuel:Nat)(p0:Int):Option (Bool):=
 some ((decide (p0>=1))&&(decide (p0<=1000000)))
theorem Aw(h:Ax fuel p0=some r):PC Tryz.prog 80 [vI p0] (vB r):=by
 refine PC.bo Tryz.func80 rfl λH=>?_
 unfold Ax at h
 exact SW.kk 9 H [(0,vI p0)]<|SW.t 1<|SW.S<|aa.s [] [0,5] 3<|aa.mg 9 H [8] 3 (decide (p0>=1)) (λb=>(sp 9 [(0,vI p0),(5,vB b)] H)) (λb=>[(8,vB (b&&(decide (p0<=1000000))))]) κ κ κ<|aa.t 1<|aa.E<|SW.ret<|iI h▸E0
def fw(fuel:Nat)(p0:Nat)(p1:(List Value))(p2:Int)(H:Hp):Option (Int):=
 (aR cj.cells H p0 0).bind λx1=>
 (qZ fuel x1 p1).bind λr2=>
 bif (!r2)then
  some 1
 else
  (Ax fuel p2).bind λr3=>
  bif (!r3)then
   some 1
  else
   some 0
def K37:=λa0 a1 a2 (t:SL)=>((0,.d (.ptr a0 0))::(1,Z9 a1)::(2,vI a2)::t:SL)
theorem k8(h:fw fuel p0 p1 p2 H=some r):SC Tryz.prog true 51 [.d (.ptr p0 0),.d (.list 3 (List.map ah p1)),vI p2] H (vI r) H:=by
 refine SC.lh Tryz.func51 rfl ?_
 unfold fw at h
 exact SW.kk 23 H (K37 p0 p1 p2 [])<|SW.t 1<|SW.seq<|SW.S<|aa.t 6<|bI h λx1 hx h=>aa.p (s:=.d (.agg [.list 1 (List.map (D.int .i64) x1.aq),.list 1 (List.map D.bool x1.Down),.int .i64 x1.cW])) (ax.cN hx)<|aa.t 1<|bI h λr2 hr h=>aa.d (tu hr)<|aa.s [] [2,18] 3<|aa.b2 (λb=>(sp 23 [(2,vI p2),(18,vB b)] H)) h (λh=>aa.t 4<|aa.E<|SW.jL κ<|SW.t 1<|SW.ret<|ag<|iI h▸E0) λh=>aa.t 1<|bI h λr3 hr h=>aa.d (Aw hr)<|aa.t 2<|aa.E<|SW.b h (λh=>SW.t 1<|SW.ret<|ag<|iI h▸E0) (λh=>SW.skip<|af<|SW.t 1<|SW.ret<|iI h▸E0)
def lT(fuel:Nat)(p0:Nat)(H:Hp):Option (Unit):=
 some ()
def M4(x0:(List Value)):SV:=.box [.d (.list 3 (List.map ah x0))]
def Ij(x0:Nat):SV:=.d (.fn (.func 78) [] [.dV [.ptr x0 0]])
theorem mM(h:lT fuel p0 H=some r):SC Tryz.prog true 50 [.d (.ptr p0 0)] H (.d (.fn (.func 78) [] [.dV [.ptr p0 0]])) H:=by
 refine SC.lh Tryz.func50 rfl ?_
 unfold lT at h
 exact SW.kk 4 H [(0,.d (.ptr p0 0))]<|SW.S<|aa.NZ 4 H (d:=1) (ds:=[.ptr p0 0]) [1] [(1,.d (.dV [.ptr p0 0]))] κ κ<|aa.t 1<|aa.E<|SW.t 1<|SW.ret<|E0
def bH(fuel:Nat)(p0:Nat)(H:Hp):Option (Bool):=
 (aW 1 cP H p0 1).bind λx1=>
 some ((x1.length:Int)==0)
theorem da(h:bH fuel p0 H=some r):SC Tryz.prog true 42 [.d (.ptr p0 0)] H (vB r) H:=by
 refine SC.lh Tryz.func42 rfl ?_
 unfold bH at h
 exact SW.kk 9 H [(0,.d (.ptr p0 0))]<|SW.t 1<|SW.S<|aa.t 3<|bI h λx1 hx h=>aa.p (ax.gK hx)<|aa.p (ax.len (enc:=cP.enc) (xs:=x1))<|aa.t 2<|aa.E<|SW.ret<|iI h▸E0
def JC:Cl Value:=((cI .i64).one.pair ((cI .i64).one.pair cS.one)).Nz (λp=>(⟨p.1,p.2.1,p.2.2⟩:Value)) (λx=>(x.Kind,x.N,x.S)) (λ_=>rfl) (λ_=>rfl)
def rL:Cd Value:=JC.agg
def mJ:Cl Entry:=((cL 3 rL).one.pair ((cI .i64).one.pair (cI .i64).one)).Nz (λp=>(⟨p.1,p.2.1,p.2.2⟩:Entry)) (λx=>(x.Row,x.Key,x.Number)) (λ_=>rfl) (λ_=>rfl)
def ay:Cd Entry:=mJ.agg
def cE(fuel:Nat)(Y:Entry->Hp->Option (Bool×Hp))(rc:Nat->Hp->Option (Bool×Hp))(p:Nat)(n:Int)(x:Int×Hp):Option ((Int×Hp)⊕(Bool×Hp)):=
 cond (decide (x.1<n))
  ((bH fuel p x.2).bind λlf=>
  (cond lf (some (true,x.2)) ((aW 1 cP x.2 p 1).bind λks=>(idx ks x.1).bind λk=>k.bind λk=>rc k x.2)).bind λq=>
  cond q.1
   ((aW 3 ay q.2 p 0).bind λes=>
   cond (decide (x.1<(es.length:Int)))
    ((idx es x.1).bind λe=>(Y e q.2).bind λy=>cond y.1 (some (.inl (IntKind.wrap .i64 (x.1+1),y.2))) (some (.inr (false,y.2))))
    (some (.inl (IntKind.wrap .i64 (x.1+1),q.2))))
   (some (.inr (false,q.2))))
  (some (.inr (true,x.2)))
def ey(fuel:Nat)(Y:Entry->Hp->Option (Bool×Hp)):Nat->Nat->Hp->Option (Bool×Hp)
 |0,_,_=>none
 |s+1,p,H=>(aW 3 ay H p 0).bind λes=>iter (cE fuel Y (ey fuel Y s) p (IntKind.wrap .i64 ((es.length:Int)+1))) fuel (0,H)
def tw(fuel:Nat)(Y:Entry->Hp->Option (Bool×Hp))(p:Nat)(H:Hp):Option (Bool×Hp):=ey fuel Y fuel p (H++[.hole])
def vE(l i:Nat):D:=.fn (.func 79) [] [.ptr i 0,.dV [.fn (.yield l) [] []]]
def yd(l:Nat):D:=.dV [.fn (.yield l) [] []]
end
section
variable {fuel l i:Nat} {Y:Entry->Hp->Option (Bool×Hp)} {R:Loop} {jc:Code} {ds:List (Nat×D)}
def K4:=λa0 a1 a2 (t:SL)=>((0,.d (.ptr a0 0))::(1,.d (.ptr a1 0))::(2,.d (yd a2))::(4,vB false)::t:SL)
def K17:=λa0 a1 (t:SL)=>((0,.d (.ptr a0 0))::(1,.d (.ptr a1 0))::t:SL)
def K19:=λa0 a1 a2 a3 a4 a5 (t:SL)=>((0,.d (.ptr a0 0))::(1,.d (.ptr a1 0))::(2,.d (yd a2))::(4,vB false)::(5,vI a3)::(12,vI a4)::(13,vI a5)::t:SL)
def K20:=λa0 a1 a2 a3 a4 (t:SL)=>((0,.d (.ptr a0 0))::(1,.d (.ptr a1 0))::(2,.d (yd a2))::(4,vB false)::(12,vI a3)::(13,vI a4)::(31,vB false)::(40,vB true)::t:SL)
theorem Co(hY: ∀x H q,Y x H=some q->Dr Tryz.prog l (CL l R jc ds []) [.d (ab x)] H q.2 q.1): ∀(s p:Nat) (H:Hp) (q:Bool×Hp),ey fuel Y s p H=some q->
  EA Tryz.prog l (CL l R jc ds [(i,vE l i)]) 79 [.d (.ptr p 0),.d (.ptr i 0),.d (yd l)] H q.2 q.1 (λv=>v=.bool q.1):=by
 intro s
 have hC: ∀b,FP (CL l R jc ds [(i,vE l i)] b):=λb=>CL.fr
 induction s with
 |zero=>intro p H q h;cases h
 |succ s ih=>
  intro p H q h
  unfold ey at h
  obtain⟨es0,hx0,hit⟩:=bP h
  refine EA.KN Tryz.func79 rfl rfl<|gB.kp 55 H [0,1,2] (K17 p i [(2,.d (yd l))]) κ<|gB.seq<|gB.of hC<|SW.al<|
   aa.G 1 (K4 p i l [])<|aa.D<|fR<|gB.seq<|gB.seq<|gB.of hC<|SW.al<|
   aa.G 4 (K4 p i l [(9,.d (.ptr p 0))])<|
   aa.O (d:=some 10) (s:=.bp (.an p 0) 3 (List.map ay.enc es0)) (K4 p i l [(10,.bp (.an p 0) 3 (List.map ay.enc es0))]) (ax.gK (c:=ay) hx0 κ)<|
   aa.O (d:=some 11) (K4 p i l [(11,vI (es0.length:Int))]) (ax.len (enc:=ay.enc) (xs:=es0) κ)<|
   aa.G 2 (K4 p i l [(12,vI (IntKind.wrap .i64 ((es0.length:Int)+1))),(13,vI 0)])<|aa.D<|fR<|gB.block ?_
  generalize IntKind.wrap .i64 ((es0.length:Int)+1)=n at hit ⊢
  clear hx0 h
  refine gB.Fq 55 [0,1,2,4,12,13] (λx:Int×Hp=>(K4 p i l [(12,vI n),(13,vI x.1)])) (λx=>x.2)
   (λ(r:Bool×Hp) b' e s=>(r.1=true/\b'=true/\e=.exit 0/\s=sp 55 [] r.2)\/(r.1=false/\b'=false/\e=.ret/\s.H=r.2/\s.tmps[4]? =some (vB false))) hit κ (λx o ho=>?_) (λb' e s hh=>?_)
  .obtain⟨c,H⟩:=x
   unfold cE at ho
   simp only at ho
   refine gB.seq<|gB.of hC<|SW.al<|aa.G 1 (K4 p i l [(12,vI n),(13,vI c),(14,vB (decide (c<n)))])<|aa.D<|fR<|gB.seq<|gB.cond (v:=decide (c<n)) κ ?_
   cases hd:decide (c<n)with
   |false=>
    rw[hd]at ho
    simp only[cond_false,g_4]at ho
    refine gB.kp 55 H [] [] κ<|gB.of hC λa w g hr=>wp_exit ⟨_,g,?_,hr,Fr.refl _ _ _⟩
    exact⟨(true,H),ho.symm,.inl ⟨rfl,rfl,rfl,rfl⟩⟩
   |true=>
    rw[hd]at ho
    simp only[cond_true]at ho
    obtain⟨lf,hlf,ho1⟩:=bP ho
    clear ho
    obtain⟨q1,hq1,ho⟩:=bP ho1
    clear ho1
    refine gB.kp 55 H [0,1,2,4,12,13] (K4 p i l [(12,vI n),(13,vI c)]) κ<|gB.of hC λa w g hr=>wp_skip ⟨_,g,?_,hr,Fr.refl _ _ _⟩
    refine fR<|gB.seq<|gB.block<|gB.seq<|gB.of hC<|SW.al<|aa.G 2 (K19 p i l c n c [])<|aa.D<|fR<|gB.seq<|gB.se κ hC ?_
    generalize hK:(λb' s=>Dx (λb' s=>gB Tryz.prog l (CL l R jc ds [(i,vE l i)]) b' _ s _) _ b' Exit.normal s)=K
    have hgo: ∀H',o=.inl (IntKind.wrap .i64 (c+1),H')->K true (sp 55 (K4 p i l [(12,vI n),(13,vI c),(53,vB false)]) H'):=λH' e=>by
     subst e
     rw[<-hK]
     refine fR<|gB.cond (v:=false) κ<|gB.of hC λa w g hr=>wp_skip ⟨_,g,?_,hr,Fr.refl _ _ _⟩
     refine HV<|fR<|gB.of hC<|SW.al<|aa.G 2 (K4 p i l [(12,vI n),(13,vI (IntKind.wrap .i64 (c+1)))])<|aa.D ?_
     exact⟨rfl,_,rfl,κ⟩
    have hleave: ∀H',o=.inr (false,H')->K false (sp 55 [(53,vB true)] H'):=λH' e=>by
     subst e
     rw[<-hK]
     refine fR<|gB.cond (v:=true) κ<|gB.seq<|gB.of hC<|SW.al<|aa.G 1 [(4,vB false)]<|aa.D<|fR<|gB.of hC λa w g hr=>wp_ret ⟨_,g,?_,hr,Fr.refl _ _ _⟩
     exact⟨(false,H'),rfl,.inr ⟨rfl,rfl,rfl,rfl,κ⟩⟩
    clear hK
    refine OL.cut (b:=true) (λH2=>((aW 3 ay H2 p 0).bind λes=>
      cond (decide (c<(es.length:Int)))
       ((idx es c).bind λe=>(Y e H2).bind λy=>cond y.1 (some (.inl (IntKind.wrap .i64 (c+1),y.2))) (some (.inr (false,y.2))))
       (some (.inl (IntKind.wrap .i64 (c+1),H2))))=some o) 22 65535 55 (K19 p i l c n c [(31,vB false)]) (λH2 h2=>?_) λpart2=>?_
    .skip
     obtain⟨es,hx,h2⟩:=bP h2
     refine OL.G (d':=17) [16,17,18,19,20] (K19 p i l c n c [(31,vB false),(32,vI c),(36,.d (.ptr p 0))])<|OL.F 21 hC<|aa.O (d:=some 37) (s:=.bp (.an p 0) 3 (List.map ay.enc es)) (K19 p i l c n c [(31,vB false),(32,vI c),(37,.bp (.an p 0) 3 (List.map ay.enc es))]) (ax.gK (c:=ay) hx κ)<|aa.D<|
      OL.F 22 hC<|aa.O (d:=some 38) (K19 p i l c n c [(31,vB false),(32,vI c),(38,vI (es.length:Int))]) (ax.len (enc:=ay.enc) (xs:=es) κ)<|aa.D<|OL.G (d':=13) [23,24] (K19 p i l c n c [(31,vB false),(40,vB (decide (c<(es.length:Int))))]) ?_
     cases hd2:decide (c<(es.length:Int))with
     |false=>
      rw[hd2]at h2
      simp only[cond_false,g_4]at h2
      exact OL.G (d':=0) [25,26,27,28,29,30,31,32,33,34,35,36,37] (K4 p i l [(12,vI n),(13,vI c),(53,vB false)])<|OL.fin κ (hgo H2 h2.symm)
     |true=>
      rw[hd2]at h2
      simp only[cond_true]at h2
      obtain⟨e,he,h2⟩:=bP h2
      obtain⟨y,hy,h2⟩:=bP h2
      refine OL.fW (b:=true) (H:=H2) 4 17179869183 55 (K20 p i l n c [(41,.d (.fn (.yield l) [] [])),(49,.d (ab e))]) ?_ λhABC=>?_
      .refine OL.step (i0:=34) (is:=[]) κ ⟨bw.yield (dd:=some 50) 55 [0,1,2,4,12,13,31,40,50] (K20 p i l n c [(50,vB y.1)]) κ (Dr.more (hY e H2 y hy)) κ κ ?_,trivial⟩
       cases hyb:y.1 with
       |true=>
        rw[hyb]at h2
        simp only[cond_true,g_4]at h2
        exact OL.G (d':=0) [35,36,37] (K4 p i l [(12,vI n),(13,vI c),(53,vB false)])<|OL.fin κ (hgo y.2 h2.symm)
       |false=>
        rw[hyb]at h2
        simp only[cond_false,g_4]at h2
        exact OL.G (d':=0) [35,36,37] [(53,vB true)]<|OL.fin κ (hleave y.2 h2.symm)
      refine OL.fW (b:=true) (H:=H2) 5 8589934591 55 (K20 p i l n c [(41,.d (.fn (.yield l) [] [])),(48,.dq (.an p 0) (ab e).cells)]) (OL.F 33 hC<|aa.G 1 (K20 p i l n c [(41,.d (.fn (.yield l) [] [])),(49,.d (ab e))])<|aa.D<|OL.at_ hABC) λhAB=>?_
      refine OL.G (d':=8) [26,27,28,29,31] (K20 p i l n c [(45,.d (.ptr p 0)),(47,vI c)])<|OL.step (i0:=25) (is:=[30]) κ ⟨bw.W (aa.G 1 (K20 p i l n c [(41,.d (.fn (.yield l) [] [])),(45,.d (.ptr p 0)),(47,vI c)])<|aa.D ?_) hC,bw.W (aa.O (d:=some 46) (s:=.bp (.an p 0) 3 (List.map ay.enc es)) (K20 p i l n c [(46,.bp (.an p 0) 3 (List.map ay.enc es)),(47,vI c)]) (ax.gK (c:=ay) hx κ)<|aa.D ?_) hC,trivial⟩
      .refine OL.F 30 hC<|aa.O (d:=some 46) (s:=.bp (.an p 0) 3 (List.map ay.enc es)) (K20 p i l n c [(41,.d (.fn (.yield l) [] [])),(46,.bp (.an p 0) 3 (List.map ay.enc es)),(47,vI c)]) (ax.gK (c:=ay) hx κ)<|aa.D<|OL.B (dd:=some 48) (s:=.dq (.an p 0) (ab e).cells) 32 (K20 p i l n c [(41,.d (.fn (.yield l) [] [])),(48,.dq (.an p 0) (ab e).cells)]) (ax.index (enc:=ay.enc) (l:=some (.an p 0)) (n:=3) he κ)<|OL.at_ hAB
      .refine OL.B (dd:=some 48) (s:=.dq (.an p 0) (ab e).cells) 32 (K20 p i l n c [(48,.dq (.an p 0) (ab e).cells)]) (ax.index (enc:=ay.enc) (l:=some (.an p 0)) (n:=3) he κ)<|OL.step (i0:=25) (is:=[33]) κ ⟨bw.W (aa.G 1 (K20 p i l n c [(41,.d (.fn (.yield l) [] [])),(48,.dq (.an p 0) (ab e).cells)])<|aa.D<|OL.at_ hAB) hC,bw.W (aa.G 1 (K20 p i l n c [(49,.d (ab e))])<|aa.D ?_) hC,trivial⟩
       exact OL.F 25 hC<|aa.G 1 (K20 p i l n c [(41,.d (.fn (.yield l) [] [])),(49,.d (ab e))])<|aa.D<|OL.at_ hABC
    refine OL.G (d':=37) [0] (K19 p i l c n c [(16,.d (.ptr p 0))])<|OL.F 1 hC<|aa.CR (ls:=[]) (some 17) (K19 p i l c n c [(17,vB lf)]) (da hlf)<|aa.D<|OL.G (d':=34) [2,3] (K19 p i l c n c [(19,vB (!lf))]) ?_
    cases lf with
    |true=>
     simp only[cond_true,g_4]at hq1
     subst hq1
     simp only[cond_true]at ho
     exact OL.G (d':=22) [4,5,6,7,8,9,10,11,12,13,14,15] (K19 p i l c n c [(31,vB false)])<|OL.at_ (part2 H ho)
    |false=>
     simp only[cond_false]at hq1
     obtain⟨ks,hks,hq1⟩:=bP hq1
     obtain⟨k0,hk,hq1⟩:=bP hq1
     obtain⟨k,rfl,hq1⟩:=bP hq1
     refine OL.fW (b:=true) (H:=H) 26 4095 55 (K19 p i l c n c [(19,vB true),(20,.d (vE l i)),(27,.d (.ptr k 0))]) ?_ λhABC=>?_
     .refine OL.step (i0:=12) (is:=[]) κ ⟨bw.call (dd:=some 28) 55 [0,1,2,4,5,12,13,19,28] (K19 p i l c n c [(19,vB true),(28,vB q1.1)]) (ih k H q1 hq1) κ κ κ ?_,trivial⟩
      cases hqb:q1.1 with
      |true=>
       rw[hqb]at ho
       simp only[cond_true]at ho
       exact OL.G (d':=22) [13,14,15] (K19 p i l c n c [(31,vB false)])<|OL.at_ (part2 q1.2 ho)
      |false=>
       rw[hqb]at ho
       simp only[cond_false,g_4]at ho
       exact OL.G (d':=0) [13,14,15,16,17,18,19,20,21,22,23,24,25,26,27,28,29,30,31,32,33,34,35,36,37] [(53,vB true)]<|OL.fin κ (hleave q1.2 ho.symm)
     refine OL.fW (b:=true) (H:=H) 27 2047 55 (K19 p i l c n c [(19,vB true),(20,.d (vE l i)),(26,.dq (.an p 1) [cP.enc (some k)])]) (OL.F 11 hC<|aa.G 1 (K19 p i l c n c [(19,vB true),(20,.d (vE l i)),(27,.d (.ptr k 0))])<|aa.D<|OL.at_ hABC) λhAB=>?_
     refine OL.G (d':=30) [5,6,7,9] (K19 p i l c n c [(19,vB true),(23,.d (.ptr p 1)),(25,vI c)])<|OL.step (i0:=4) (is:=[8]) κ ⟨bw.down (dd:=some 20) (j:=i) (y:=vE l i) κ (.head _)<|OL.kp 55 H [0,1,2,4,5,12,13,19,20,23,25] (K19 p i l c n c [(19,vB true),(20,.d (vE l i)),(23,.d (.ptr p 1)),(25,vI c)]) κ ?_,bw.W (aa.O (d:=some 24) (s:=.bp (.an p 1) 1 (List.map cP.enc ks)) (K19 p i l c n c [(19,vB true),(24,.bp (.an p 1) 1 (List.map cP.enc ks)),(25,vI c)]) (ax.gK (c:=cP) hks κ)<|aa.D ?_) hC,trivial⟩
     .refine OL.F 8 hC<|aa.O (d:=some 24) (s:=.bp (.an p 1) 1 (List.map cP.enc ks)) (K19 p i l c n c [(19,vB true),(20,.d (vE l i)),(24,.bp (.an p 1) 1 (List.map cP.enc ks)),(25,vI c)]) (ax.gK (c:=cP) hks κ)<|aa.D<|OL.B (dd:=some 26) (s:=.dq (.an p 1) [cP.enc (some k)]) 10 (K19 p i l c n c [(19,vB true),(20,.d (vE l i)),(26,.dq (.an p 1) [cP.enc (some k)])]) (ax.ff (l:=some (.an p 1)) (n:=1) hk κ)<|OL.at_ hAB
     .refine OL.B (dd:=some 26) (s:=.dq (.an p 1) [cP.enc (some k)]) 10 (K19 p i l c n c [(19,vB true),(26,.dq (.an p 1) [cP.enc (some k)])]) (ax.ff (l:=some (.an p 1)) (n:=1) hk κ)<|OL.step (i0:=4) (is:=[11]) κ ⟨bw.down (dd:=some 20) (j:=i) (y:=vE l i) κ (.head _)<|OL.kp 55 H [0,1,2,4,5,12,13,19,20,26] (K19 p i l c n c [(19,vB true),(20,.d (vE l i)),(26,.dq (.an p 1) [cP.enc (some k)])]) κ<|OL.at_ hAB,bw.W (aa.G 1 (K19 p i l c n c [(19,vB true),(27,.d (.ptr k 0))])<|aa.D ?_) hC,trivial⟩
      exact OL.step (i0:=4) (is:=[]) κ ⟨bw.down (dd:=some 20) (j:=i) (y:=vE l i) κ (.head _)<|OL.kp 55 H [0,1,2,4,5,12,13,19,20,27] (K19 p i l c n c [(19,vB true),(20,.d (vE l i)),(27,.d (.ptr k 0))]) κ<|OL.at_ hABC,trivial⟩
  .rcases hh with⟨h1,rfl,rfl,rfl⟩|⟨h1,rfl,rfl,h2,h3⟩
   .refine HU<|fR<|gB.seq<|gB.of hC<|SW.al<|aa.G 1 [(4,vB true)]<|aa.D<|fR<|gB.of hC λa w g hr=>wp_ret ⟨_,g,?_,hr,Fr.refl _ _ _⟩
    exact⟨h1.symm,.inr rfl,rfl,by rw[h1];kernel_rfl⟩
   .exact⟨h1.symm,.inr rfl,h2,by rw[h1];exact h3⟩
theorem yW(H:Hp)(y z:D):Bu (H++[.cells [.d z]]) H.length 0 [y]=some (H++[.cells [.d y]]):=by
 have:jI (H++[aD.cells [SV.d z]]) H.length=some [SV.d z]:=by simp[jI]
 simp[Bu,this,setCells]
theorem yq(hY: ∀x H q,Y x H=some q->Dr Tryz.prog l (CL l R jc ds []) [.d (ab x)] H q.2 q.1){p:Nat}{H:Hp}{q:Bool×Hp}(h:tw fuel Y p H=some q):
  EA Tryz.prog l (CL l R jc ds []) 78 [.d (.fn (.yield l) [] []),.d (.dV [.ptr p 0])] H q.2 q.1 (λ_=>True):=by
 have hC: ∀b,FP (CL l R jc ds [] b):=λb=>CL.fr
 have hC2: ∀b,FP (CL l R jc ds [(H.length,vE l H.length)] b):=λb=>CL.fr
 refine EA.I0 Tryz.func78 rfl rfl<|gB.kp 8 H [0,1] [(0,.d (.fn (.yield l) [] [])),(1,.d (.dV [.ptr p 0]))] κ<|gB.seq<|gB.of hC<|SW.al<|
  aa.NZ 8 H (d:=2) (ds:=[.fn (.yield l) [] []]) [1,2] [(1,.d (.dV [.ptr p 0])),(2,.d (yd l))] κ κ<|aa.D<|fR<|gB.seq<|gB.of hC<|SW.al<|
  aa.oh (n:=8) (H:=H++[.cells [.d .jb]]) (d:=some 3) (b:=false) [] [1,2,3] [(1,.d (.dV [.ptr p 0])),(2,.d (yd l)),(3,.d (.ptr H.length 0))] (q:=(H++[.cells [.d .jb]],H.length)) rfl κ rfl κ<|aa.D<|fR<|gB.seq<|gB.of hC<|SW.al<|
  aa.G 1 [(1,.d (.dV [.ptr p 0])),(2,.d (yd l)),(3,.d (.ptr H.length 0)),(4,.d (vE l H.length))]<|
  aa.MJ (n:=8) (H0:=H++[.cells [.d .jb]]) (H:=H++[.cells [.d (vE l H.length)]]) (y:=vE l H.length) (i:=H.length) (off:=0) [1,3] [(1,.d (.dV [.ptr p 0])),(3,.d (.ptr H.length 0))] (yW H _ _) κ κ<|aa.D<|fR<|
  gB.rC H.length (vE l H.length) 8 (H++[.hole]) [1,3] [(1,.d (.dV [.ptr p 0])),(3,.d (.ptr H.length 0))] (by simp[sp]) κ ?_<|gB.fS<|
  EB.step κ<|bw.down (dd:=some 5) (j:=H.length) (y:=vE l H.length) κ (.head _)<|EB.kp 8 (H++[.hole]) [1,5] [(1,.d (.dV [.ptr p 0])),(5,.d (vE l H.length))] κ<|
  EB.step κ<|bw.W (aa.G 1 [(5,.d (vE l H.length)),(6,.d (.ptr p 0))]<|aa.D ?_) hC2
 .have e:(H++[aD.cells [SV.d (vE l H.length)]]).set H.length .hole=H++[.hole]:=by simp
  show aN 8 [1,3] ⟨_,(H++[aD.cells [SV.d (vE l H.length)]]).set H.length .hole⟩=_
  rw[e]
  kernel_rfl
 .refine EB.step κ<|bw.call (dd:=some 7) 8 [7] [(7,vB q.1)] (Co hY fuel p _ q h) κ κ κ<|EB.fin κ ⟨rfl,.inl rfl,rfl⟩
def jt(fuel:Nat)(Y:Entry->Hp->Option Hp)(p:Option Nat)(H:Hp):Option Hp:=p.bind λp=>(tw fuel (λe H=>(Y e H).map (Prod.mk true)) p H).bind λq=>cond q.1 (some q.2) none
theorem u9{fuel:Nat}{Y:Entry->Hp->Option Hp}{p:Option Nat}{H r:Hp}{l:Nat}{R:Loop}{ds:List (Nat×D)}(hC:FP (pW l R ds))(hY: ∀x H H',Y x H=some H'->YB Tryz.prog (pW l R ds) l [.d (ab x)] H H')(h:jt fuel Y p H=some r):
  LU Tryz.prog (pW l R ds) 78 (.d (.fn (.yield l) [] [])::[.d (.dV [cP.enc p])]) H r:=by
 unfold jt at h
 obtain⟨p,rfl,h1⟩:=bP h
 obtain⟨⟨b,H'⟩,hq,h2⟩:=bP h1
 cases b with
 |false=>cases h2
 |true=>
  cases h2
  refine LU.KP (jc:=.skip) (yq (λx H q hq=>?_) hq)
  simp only[g_2]at hq
  obtain⟨H2,h2,rfl⟩:=hq
  exact Dr.My (hY x H H2 h2)
def kC(fuel:Nat)(Y:Entry->Hp->Option (Bool×Hp))(p:Option Nat)(H:Hp):Option (Bool×Hp):=p.bind λp=>tw fuel Y p H
theorem mY{fuel:Nat}{Y:Entry->Hp->Option (Bool×Hp)}{p:Option Nat}{H:Hp}{q:Bool×Hp}{l:Nat}{R:Loop}{jc:Code}{ds:List (Nat×D)}(hY: ∀x H q,Y x H=some q->Dr Tryz.prog l (CL l R jc ds []) [.d (ab x)] H q.2 q.1)(h:kC fuel Y p H=some q):
  EA Tryz.prog l (CL l R jc ds []) 78 (.d (.fn (.yield l) [] [])::[.d (.dV [cP.enc p])]) H q.2 q.1 (λ_=>True):=by
 unfold kC at h
 obtain⟨p,rfl,h1⟩:=bP h
 exact yq hY h1
end
def mN(fuel:Nat):Option (Unit):=
 some ()
def jQ(x0:Entry):SV:=.box [.d (.list 3 (List.map ah x0.Row)),vI x0.Key,vI x0.Number]
def qz(x0:Entry):SV:=.d (.list 3 (List.map ah x0.Row))
def xG(x0:(Hp×Nat))(x1:(List Value)):SV:=.bp (.an x0.2 0) 3 (List.map ah x1)
def N2:SV:=.box [.d (.fn (.func 96) [] []),.d (.fn (.func 97) [] []),.d (.fn (.func 98) [] []),.d (.fn (.func 100) [] [])]
section
attribute [local irreducible] aa aA bb au SW uS
theorem tv(h:mN fuel=some r):PC Tryz.prog 81 [] (.d (.agg [.fn (.func 96) [] [],.fn (.func 97) [] [],.fn (.func 98) [] [],.fn (.func 100) [] []])):=by
 refine PC.bo Tryz.func81 rfl λH=>?_
 unfold mN at h
 exact SW.kk 2 H []<|SW.t 2<|SW.ret<|E0
def iu(fuel:Nat)(p0:Value)(p1:Value):Option (Int):=
 some (IntKind.wrap .i64 (p0.N - p1.N))
theorem rh(h:iu fuel p0 p1=some r):PC Tryz.prog 96 [.d (ah p0),.d (ah p1)] (vI r):=by
 refine PC.bo Tryz.func96 rfl λH=>?_
 unfold iu at h
 exact SW.kk 10 H [(0,Dq p0),(1,Dq p1)]<|SW.t 2<|SW.ret<|iI h▸E0
def ir(fuel:Nat)(p0:Value)(p1:Value):Option (Int):=
 some (IntKind.wrap .i64 (p1.N - p0.N))
theorem re(h:ir fuel p0 p1=some r):PC Tryz.prog 97 [.d (ah p0),.d (ah p1)] (vI r):=by
 refine PC.bo Tryz.func97 rfl λH=>?_
 unfold ir at h
 exact SW.kk 10 H [(0,Dq p0),(1,Dq p1)]<|SW.t 2<|SW.ret<|iI h▸E0
end
theorem oO(a b:ByteArray)(w:World):
  Calls Tryz.prog 113 #[.string a,.string b] w λe w'=>e=.returned (.int .i64 (Lib.compareBytes a.data.toList b.data.toList))/\w'=w:=by
 go_enter Tryz.func113,Tryz.ntmps113
 go_wp2
 rw[run_callFunc_extern Tryz.func127 κ κ κ (e:=Extern.BytealgCompare.compare) κ,Lib.run_compareString]
 simp only[Result.andThen]
 rw[Oper.upon_value]
 go_wp2
 go_ret
 exact⟨rfl,rfl⟩
theorem JA(h:Ll fuel p0 p1=some r):PC Tryz.prog 113 [vS p0,vS p1] (vI r):=Jz h oO
def iz(fuel:Nat)(p0:(List UInt8))(p1:(List UInt8)):Option (Int):=
 (Ll fuel p0 p1).bind λr1=>
 some r1
section
attribute [local irreducible] aa aA bb au SW uS
theorem lW(h:iz fuel p0 p1=some r):PC Tryz.prog 99 [vS p0,vS p1] (vI r):=by
 refine PC.bo Tryz.func99 rfl λH=>?_
 unfold iz at h
 exact SW.kk 8 H [(0,vS p0),(1,vS p1)]<|SW.t 1<|SW.S<|aa.t 2<|bI h λr1 hr h=>aa.d (JA hr)<|aa.t 1<|aa.E<|SW.ret<|iI h▸E0
def im(fuel:Nat)(p0:Value)(p1:Value):Option (Int):=
 (iz fuel p0.S p1.S).bind λr1=>
 some r1
theorem rb(h:im fuel p0 p1=some r):PC Tryz.prog 98 [.d (ah p0),.d (ah p1)] (vI r):=by
 refine PC.bo Tryz.func98 rfl λH=>?_
 unfold im at h
 exact SW.kk 10 H [(0,Dq p0),(1,Dq p1)]<|SW.t 1<|SW.S<|aa.t 4<|bI h λr1 hr h=>aa.d (lW hr)<|aa.t 1<|aa.E<|SW.ret<|iI h▸E0
def ig(fuel:Nat)(p0:Value)(p1:Value):Option (Int):=
 (iz fuel p1.S p0.S).bind λr1=>
 some r1
theorem q8(h:ig fuel p0 p1=some r):PC Tryz.prog 100 [.d (ah p0),.d (ah p1)] (vI r):=by
 refine PC.bo Tryz.func100 rfl λH=>?_
 unfold ig at h
 exact SW.kk 10 H [(0,Dq p0),(1,Dq p1)]<|SW.t 1<|SW.S<|aa.t 4<|bI h λr1 hr h=>aa.d (lW hr)<|aa.t 1<|aa.E<|SW.ret<|iI h▸E0
def mX(fuel:Nat)(p0:ak)(p1:(List Value))(p2:(List Value))(y2:Int):Option ((Int)⊕((Unit)⊕((Int)))):=
 bif (decide (y2<(p0.aq.length:Int)))then
  (idx p0.aq y2).bind λx3=>
  aP (λ(j4:Int)=>
   bif (j4==0)then
    (idx p1 y2).bind λx7=>
    (idx p2 y2).bind λx8=>
    (iu fuel x7 x8).bind λr9=>
    bif (r9 !=0)then
     some (.inr (.inr r9))
    else
     some (.inl (IntKind.wrap .i64 (y2+1)))
   else
    bif (j4==1)then
     (idx p1 y2).bind λx10=>
     (idx p2 y2).bind λx11=>
     (ir fuel x10 x11).bind λr12=>
     bif (r12 !=0)then
      some (.inr (.inr r12))
     else
      some (.inl (IntKind.wrap .i64 (y2+1)))
    else
     bif (j4==2)then
      (idx p1 y2).bind λx13=>
      (idx p2 y2).bind λx14=>
      (im fuel x13 x14).bind λr15=>
      bif (r15 !=0)then
       some (.inr (.inr r15))
      else
       some (.inl (IntKind.wrap .i64 (y2+1)))
     else
      bif (j4==3)then
       (idx p1 y2).bind λx16=>
       (idx p2 y2).bind λx17=>
       (ig fuel x16 x17).bind λr18=>
       bif (r18 !=0)then
        some (.inr (.inr r18))
       else
        some (.inl (IntKind.wrap .i64 (y2+1)))
      else
       none) λjp5=>
  (idx p0.Down y2).bind λx6=>
  bif x6 then
   jp5 (IntKind.wrap .i64 ((IntKind.wrap .i64 (2 * (IntKind.wrap .i64 (x3 - 1))))+1))
  else
   jp5 (IntKind.wrap .i64 (2 * (IntKind.wrap .i64 (x3 - 1))))
 else
  some (.inr (.inl ()))
def mL(fuel:Nat)(p0:ak)(p1:(List Value))(p2:(List Value)):Option (Int):=
 (mN fuel).bind λr1=>
 (iter (mX fuel p0 p1 p2) fuel 0).bind (Sum.elim (λv20=>
  some 0) (λr21=>
  some r21))
def K35:=λa0 a1 a2 a3 a4 a5 a6 a7 (t:SL)=>((1,Z9 a0)::(2,Z9 a1)::(3,Z1 a2)::(7,N2)::(8,vI a3)::(14,NF a4)::(15,Og a5)::(16,vI a6)::(31,vI a7)::t:SL)
theorem lF(h:mL fuel p0 p1 p2=some r):PC Tryz.prog 52 [.d (bG p0),.d (.list 3 (List.map ah p1)),.d (.list 3 (List.map ah p2))] (vI r):=by
 refine PC.bo Tryz.func52 rfl λH=>?_
 unfold mL at h
 exact SW.kk 47 H [(0,Z2 p0),(1,Z9 p1),(2,Z9 p2)]<|SW.t 1<|SW.S<|bI h λr1 hr h=>aa.d (tv hr)<|aa.t 2<|aa.E<|SW.seq<|SW.S<|aa.t 2<|aa.p (ax.len (enc:=(D.int .i64)) (xs:=p0.aq))<|aa.t 1<|aa.E<|SW.block<|bI h λz19 hit h=>SW.it 47 H [1,2,3,7,14,15,16] (λy2=>[(1,Z9 p1),(2,Z9 p2),(3,Z1 p0),(7,N2),(14,NF p0),(15,Og p0),(16,vI y2)]) (λb e s=>((∃v20,b=(.inl v20)/\(e=.exit 0/\s=(sp 47 [] H)))\/(∃r21,b=(.inr r21)/\(e=.ret/\bW Tryz.prog Tryz.f52.results.toList H (vI r21) .ret s)))) hit κ (λy2 o h=>by unfold mX at h;exact SW.t 1<|SW.seq<|SW.B (decide (y2<(p0.aq.length:Int))) (λhc=>have h:=eQ hc h;SW.skip<|af<|SW.seq<|SW.block<|SW.S<|aa.t 1<|bI h λx3 hx h=>aa.p (s:=aI none (Go.Sh.D.cells ((D.int .i64) x3))) (ax.index (n:=1) hx)<|aa.t 3<|aa.E<|SW.t 1<|SW.J 47 H [1,2,3,7,8,10,14,15,16] (λ(j4:Int)=>[(1,Z9 p1),(2,Z9 p2),(3,Z1 p0),(7,N2),(8,vI y2),(10,vI j4),(14,NF p0),(15,Og p0),(16,vI y2)]) h (λj4 h=>SW.seq<|SW.qq<|aA.G 1 (K35 p1 p2 p0 y2 p0 p0 y2 j4 [])<|(by rcases hc:(j4==0)with _|_;replace h:=eR hc h;rcases hc:(j4==1)with _|_;replace h:=eR hc h;rcases hc:(j4==2)with _|_;replace h:=eR hc h;rcases hc:(j4==3)with _|_;replace h:=eR hc h;cases h;exact have h:=eQ hc h;aA.lit (λe=>(sp 47 (K35 p1 p2 p0 y2 p0 p0 y2 e []) H)) κ hc<|aA.t 4<|bI h λx16 hx h=>aA.p (s:=aI none (Go.Sh.D.cells (ah x16))) (ax.index (n:=3) hx)<|aA.t 3<|bI h λx17 hx h=>aA.p (s:=aI none (Go.Sh.D.cells (ah x17))) (ax.index (n:=3) hx)<|aA.t 1<|bI h λr18 hr h=>aA.d (q8 hr)<|aA.t 1<|aA.D<|af<|SW.t 1<|SW.B (r18 !=0) (λhc=>have h:=eQ hc h;SW.t 1<|SW.ret<|az<|ag<|ag<|LR h (.inr (⟨r18,rfl,rfl,bW.ret [] κ κ⟩))) (λhc=>have h:=eR hc h;SW.skip<|aB<|af<|SW.al<|aa.t 2<|aa.D<|LQ h);exact have h:=eQ hc h;aA.lit (λe=>(sp 47 (K35 p1 p2 p0 y2 p0 p0 y2 e []) H)) κ hc<|aA.t 4<|bI h λx13 hx h=>aA.p (s:=aI none (Go.Sh.D.cells (ah x13))) (ax.index (n:=3) hx)<|aA.t 3<|bI h λx14 hx h=>aA.p (s:=aI none (Go.Sh.D.cells (ah x14))) (ax.index (n:=3) hx)<|aA.t 1<|bI h λr15 hr h=>aA.d (rb hr)<|aA.t 1<|aA.D<|af<|SW.t 1<|SW.B (r15 !=0) (λhc=>have h:=eQ hc h;SW.t 1<|SW.ret<|az<|ag<|ag<|LR h (.inr (⟨r15,rfl,rfl,bW.ret [] κ κ⟩))) (λhc=>have h:=eR hc h;SW.skip<|aB<|af<|SW.al<|aa.t 2<|aa.D<|LQ h);exact have h:=eQ hc h;aA.lit (λe=>(sp 47 (K35 p1 p2 p0 y2 p0 p0 y2 e []) H)) κ hc<|aA.t 4<|bI h λx10 hx h=>aA.p (s:=aI none (Go.Sh.D.cells (ah x10))) (ax.index (n:=3) hx)<|aA.t 3<|bI h λx11 hx h=>aA.p (s:=aI none (Go.Sh.D.cells (ah x11))) (ax.index (n:=3) hx)<|aA.t 1<|bI h λr12 hr h=>aA.d (re hr)<|aA.t 1<|aA.D<|af<|SW.t 1<|SW.B (r12 !=0) (λhc=>have h:=eQ hc h;SW.t 1<|SW.ret<|az<|ag<|ag<|LR h (.inr (⟨r12,rfl,rfl,bW.ret [] κ κ⟩))) (λhc=>have h:=eR hc h;SW.skip<|aB<|af<|SW.al<|aa.t 2<|aa.D<|LQ h);exact have h:=eQ hc h;aA.lit (λe=>(sp 47 (K35 p1 p2 p0 y2 p0 p0 y2 e []) H)) κ hc<|aA.t 4<|bI h λx7 hx h=>aA.p (s:=aI none (Go.Sh.D.cells (ah x7))) (ax.index (n:=3) hx)<|aA.t 3<|bI h λx8 hx h=>aA.p (s:=aI none (Go.Sh.D.cells (ah x8))) (ax.index (n:=3) hx)<|aA.t 1<|bI h λr9 hr h=>aA.d (rh hr)<|aA.t 1<|aA.D<|af<|SW.t 1<|SW.B (r9 !=0) (λhc=>have h:=eQ hc h;SW.t 1<|SW.ret<|az<|ag<|ag<|LR h (.inr (⟨r9,rfl,rfl,bW.ret [] κ κ⟩))) (λhc=>have h:=eR hc h;SW.skip<|aB<|af<|SW.al<|aa.t 2<|aa.D<|LQ h))) λjp5 h=>SW.S<|aa.t 3<|bI h λx6 hx h=>aa.p (s:=aI none (Go.Sh.D.cells (D.bool x6))) (ax.index (n:=1) hx)<|aa.t 1<|aa.E<|SW.B x6 (λhc=>have h:=eQ hc h;SW.al<|aa.t 3<|aa.D<|JQ [] h) (λhc=>have h:=eR hc h;SW.skip<|JQ [] h)) (λhc=>have h:=eR hc h;SW.kk 47 H []<|SW.exit<|aG<|aG<|LR h (.inl ⟨(),rfl,rfl,rfl⟩))) (by rintro _ _ (⟨v20,rfl,rfl,rfl⟩|⟨r21,rfl,rfl,hE⟩);exact have h:=gd h;aM<|af<|SW.t 1<|SW.ret<|iI h▸E0;exact have h:=gb h;az<|ag<|(by cases h;exact hE))
def hJ(fuel:Nat)(q1:(Hp×Nat))(q2:(Hp×Nat))(q3:(Hp×Nat))(e9:Entry)(G10:Hp):Option (Bool×Hp):=
 (aR cP.cell G10 q1.2 0).bind λx11=>
 x11.bind λi12=>
 (aR cj.cells G10 i12 0).bind λx13=>
 (aW 3 rL G10 q2.2 0).bind λx14=>
 (mL fuel x13 e9.Row x14).bind λr15=>
 bif (r15==0)then
  (cH cB G10 q3.2 0 true).bind λH16=>
  some (false,H16)
 else
  some (true,G10)
def iJ(fuel:Nat)(p0:Nat)(p1:(List Value))(H:Hp):Option ((Bool)×Hp):=
 (kW H (.cells [.d (.ptr p0 0)])).bind λq1=>
 (kW q1.1 (.cells [.d (.list 3 (List.map ah p1))])).bind λq2=>
 (kW q2.1 (.cells [.d (.bool false)])).bind λq3=>
 (aR cP.cell q3.1 q1.2 0).bind λx4=>
 x4.bind λi5=>
 (aR cP.cell q3.1 i5 4).bind λx6=>
 x6.bind λi7=>
 (lT fuel i7 q3.1).bind λr8=>
 (kC fuel (hJ fuel q1 q2 q3) (some i7) q3.1).bind λq17=>
 bif q17.1 then
  (eo 1 cB.cell q17.2 q3.2).bind λq18=>
  some (false,q18.2)
 else
  (eo 1 cB.cell q17.2 q3.2).bind λq19=>
  some (q19.1,q19.2)
def K41:=λa0 a1 (t:SL)=>((2,.d (.ptr a0 0))::(3,.d (.ptr a1 0))::t:SL)
theorem qD(h:iJ fuel p0 p1 H=some r):SC Tryz.prog false 61 [.d (.ptr p0 0),.d (.list 3 (List.map ah p1))] H (vB r.1) r.2:=by
 refine SC.sy Tryz.func61 rfl ?_
 unfold iJ at h
 exact cV.kp 21 H [0,1] [(0,.d (.ptr p0 0)),(1,Z9 p1)] κ<|cV.seq1<|SW.al<|aa.G 3 [(2,.box [.d (.ptr p0 0)]),(3,M4 p1),(4,.box [vB false])]<|aa.E<|bI h λq1 hq h=>cV.nh hq 2 21 [] [2,3,4] [(2,.d (.ptr q1.2 0)),(3,M4 p1),(4,.box [vB false])] κ (by cases hq;kernel_rfl)<|bI h λq2 hq h=>cV.nh hq 3 21 [] [2,3,4] (K41 q1.2 q2.2 [(4,.box [vB false])]) κ (by cases hq;kernel_rfl)<|bI h λq3 hq h=>cV.nh hq 4 21 [] [2,3,4] (K41 q1.2 q2.2 [(4,.d (.ptr q3.2 0))]) κ (by cases hq;kernel_rfl)<|cV.KC<|cV.seq1<|SW.al<|bI h λx4 hx h=>aa.p (s:=.d (cP.enc x4)) (ax.cN hx)<|bI h λi5 hp_i5 h=>aa.p (s:=.d (.ptr i5 0)) (ax.dS hp_i5)<|aa.t 1<|bI h λx6 hx h=>aa.o (s:=.d (cP.enc x6)) [2,3,4,9] (ax.cN hx)<|bI h λi7 hp_i7 h=>aa.nG x6 (λp=>(sp 21 (K41 q1.2 q2.2 [(4,.d (.ptr q3.2 0)),(9,.d (cP.enc p))]) q3.1)) κ hp_i7<|bI h λr8 hr h=>aa.CR (ls:=[]) (some 10) (K41 q1.2 q2.2 [(4,.d (.ptr q3.2 0)),(10,Ij i7)]) (mM hr)<|aa.E<|cV.block<|bI h λq17 hit h=>cV.Gv (f:=78) (caps:=[.dV [.ptr i7 0]]) (H':=q17.2) (b:=q17.1) (jc:=.ret) [(2,.ptr q1.2 0),(3,.ptr q2.2 0),(4,.ptr q3.2 0)] κ κ κ κ (λl R bE hpe hps has hbd hsz=>mY (λe9 G10 q9 h=>by unfold hJ at h;exact Dr.yH (n0:=21) bE hpe hps (hsz.trans (kD _ _ _)) (K41 q1.2 q2.2 [(4,.d (.ptr q3.2 0)),(11,.d (.agg [.list 3 (List.map ah e9.Row),.int .i64 e9.Key,.int .i64 e9.Number]))]) (tb ⟨.inr ⟨by decide,_,rfl,.head _⟩,⟨.inr ⟨by decide,_,rfl,.tail _ (.head _)⟩,⟨.inr ⟨by decide,_,rfl,.tail _ (.tail _ (.head _))⟩,⟨.inl ⟨rfl,rfl⟩,trivial⟩⟩⟩⟩)<|(by rw[has,hbd];exact uk.region κ<|aa.G 2 (K41 q1.2 q2.2 [(4,.d (.ptr q3.2 0)),(5,jQ e9)])<|aa.D<|jr.block<|jr.seq<|bI h λx11 hx11 h=>bI h λi12 hp_i12 h=>bI h λx13 hx13 h=>bI h λx14 hx_6 h=>bI h λr15 hr_7 h=>jr.kp 21 G10 [2,3,4,5] (K41 q1.2 q2.2 [(4,.d (.ptr q3.2 0)),(5,jQ e9)]) κ<|jr.Cy 21 G10 [(4,.d (.ptr q3.2 0)),(20,vB (r15==0))] κ (λX hX=>by subst hX;exact OX.auto [] [(0,eV (.d (cP.enc x11))),(1,eV (.d (.ptr i12 0))),(3,eV (.d (.agg [.list 1 (List.map (D.int .i64) x13.aq),.list 1 (List.map D.bool x13.Down),.int .i64 x13.cW]))),(6,eV (.bp (.an q2.2 0) 3 (List.map ah x14))),(7,eV _)] ⟨EV.cN (c:=cP.cell) hx11,EV.dS (p:=x11) hp_i12,EV.cN (c:=cj.cells) hx13,EV.gK (c:=rL) hx_6,EV.c (ls:=[(.an q2.2 0)]) (lF hr_7),trivial⟩) (af<|jr.BN (b:=(r15==0)) κ (λhc=>have h:=eQ hc h;jr.seq<|jr.region κ<|bI h λH16 hx h=>aa.bE 21 H16 [4] [(4,.d (.ptr q3.2 0))] hx κ κ<|aa.E<|jr.ret<|az<|(by cases h;exact⟨rfl,.inr ⟨rfl,rfl⟩⟩)) (λhc=>have h:=eR hc h;jr.skip<|aB<|(by cases h;exact⟨rfl,.inl ⟨rfl,rfl⟩⟩))))) hit) (λhb=>have h:=eQ hb h;aB<|af<|(by intro ds;exact bI h λq18 hqq18 h=>ta.IV (jN.AS hqq18 4 21 [2,3,4,10] (K41 q1.2 q2.2 [(4,.box [vB q18.1]),(10,Ij i7)]) κ κ κ)<|ta.seq<|ta.region<|Al.M 1<|aa.G 1 [(4,.box [vB false])]<|aa.D<|Al.D<|af<|ta.ret<|iI h▸E0)) (λhb=>have h:=eR hb h;bI h λq19 hqq19 h=>⟨.ret,_,rfl,(jN.AS hqq19 4 21 [2,3,4,10] (K41 q1.2 q2.2 [(4,.box [vB q19.1]),(10,Ij i7)]) κ κ κ),(az<|ag<|iI h▸E0)⟩)
def bY(fuel:Nat)(p0:(List Value)):Option ((List Value)):=
 CM p0 λb1=>
 bif b1 then
  some ([]:List Value)
 else
  dx (decide ((([]:List Value)++p0).length<=room))<|
  some (([]:List Value)++p0)
theorem gV(h:bY fuel p0=some r):PC Tryz.prog 63 [.d (.list 3 (List.map ah p0))] (.own 3 (List.map ah r)):=by
 refine PC.bo Tryz.func63 rfl λH=>?_
 unfold bY at h
 exact SW.kk 8 H [(0,Z9 p0)]<|SW.t 1<|SW.seq<|SW.S<|aa.s [] [0,3] 1<|aa.GR (xs:=List.map ah p0) (d:=some 4) (e:=true) 8 H [0,4] (λb1=>[(0,Z9 p0),(4,vB b1)]) κ (λ_=>by kernel_rfl) (λb1 hnil=>have h:=pr h b1 (λe=>q_5.1 (hnil e));aa.E<|SW.b h (λh=>SW.t 1<|SW.ret<|ag<|iI h▸E0) (λh=>SW.skip<|af<|SW.S<|aa.ts [5] 2<|lj h λhk h=>aa.ap 5 3 (List.map ah (([]:List Value)++p0)) (aS) (bx hk)<|aa.ts [5] 1<|aa.E<|SW.ret<|iI h▸E0))
def j6(fuel:Nat)(p0:ak)(p1:Entry)(p2:Entry):Option (Int):=
 (mL fuel p0 p1.Row p2.Row).bind λr1=>
 bif (r1 !=0)then
  some r1
 else
  bif (p0.cW==2)then
   some (IntKind.wrap .i64 (p2.Number - p1.Number))
  else
   some (IntKind.wrap .i64 (p1.Number - p2.Number))
def kY(x0:Entry):SV:=.d (.agg [.list 3 (List.map ah x0.Row),.int .i64 x0.Key,.int .i64 x0.Number])
def B3(x0:(List Entry)):SV:=.d (.list 3 (List.map ab x0))
def M0(x0:(Option Nat)):SV:=.d (.fn (.func 116) [] [.dV [cP.enc x0]])
theorem nR(h:j6 fuel p0 p1 p2=some r):PC Tryz.prog 94 [.d (bG p0),.d (ab p1),.d (ab p2)] (vI r):=by
 refine PC.bo Tryz.func94 rfl λH=>?_
 unfold j6 at h
 exact SW.kk 30 H [(0,Z2 p0),(1,kY p1),(2,kY p2)]<|SW.t 1<|SW.seq<|SW.S<|aa.t 5<|bI h λr1 hr h=>aa.d (lF hr)<|aa.t 1<|aa.E<|SW.t 1<|SW.b h (λh=>SW.t 1<|SW.ret<|ag<|iI h▸E0) (λh=>SW.skip<|af<|SW.seq<|SW.t 1<|SW.b h (λh=>SW.t 1<|SW.ret<|ag<|iI h▸E0) (λh=>SW.skip<|af<|SW.t 1<|SW.ret<|iI h▸E0))
def iW(fuel:Nat)(p0:Entry)(p1:Entry)(p2:(Option Nat))(H:Hp):Option (Int):=
 p2.bind λi1=>
 (aR cj.cells H i1 0).bind λx2=>
 (j6 fuel x2 p0 p1).bind λr3=>
 some r3
theorem o9(h:iW fuel p0 p1 p2 H=some r):SC Tryz.prog true 116 [.d (ab p0),.d (ab p1),.d (.dV [cP.enc p2])] H (vI r) H:=by
 refine SC.lh Tryz.func116 rfl ?_
 unfold iW at h
 exact SW.kk 13 H [(0,kY p0),(1,kY p1),(2,.d (.dV [cP.enc p2]))]<|SW.t 1<|SW.seq<|SW.qq<|aA.t 1<|bI h λi1 hp_i1 h=>aA.p (s:=.d (.ptr i1 0)) (ax.dS hp_i1)<|aA.t 1<|bI h λx2 hx h=>aA.p (s:=.d (.agg [.list 1 (List.map (D.int .i64) x2.aq),.list 1 (List.map D.bool x2.Down),.int .i64 x2.cW])) (ax.cN hx)<|aA.t 2<|bI h λr3 hr h=>aA.d (nR hr)<|aA.t 1<|aA.D<|af<|SW.ret<|iI h▸E0
def aU(fuel:Nat)(p0:(List Entry))(p1:Entry)(c2_0:(Option Nat))(H:Hp)(y1:Int×Int):Option ((Int×Int)⊕(Int)):=
 bif (decide (y1.1<y1.2))then
  (idx p0 (IntKind.wrap .i64 (Int.fdiv (IntKind.wrap .u64 (IntKind.wrap .i64 (y1.1+y1.2))) (2 ^ 1)))).bind λx2=>
  (iW fuel x2 p1 c2_0 H).bind λr3=>
  bif (decide (r3<0))then
   some (.inl ((IntKind.wrap .i64 ((IntKind.wrap .i64 (Int.fdiv (IntKind.wrap .u64 (IntKind.wrap .i64 (y1.1+y1.2))) (2 ^ 1)))+1)),y1.2))
  else
   some (.inl (y1.1,(IntKind.wrap .i64 (Int.fdiv (IntKind.wrap .u64 (IntKind.wrap .i64 (y1.1+y1.2))) (2 ^ 1)))))
 else
  some (.inr y1.1)
def bK(fuel:Nat)(p0:(List Entry))(p1:Entry)(c2_0:(Option Nat))(H:Hp):Option (Int×Bool):=
 (iter (aU fuel p0 p1 c2_0 H) fuel (0,(p0.length:Int))).bind λv5=>
 bif (decide (v5<(p0.length:Int)))then
  (idx p0 v5).bind λx6=>
  (iW fuel x6 p1 c2_0 H).bind λr7=>
  some (v5,(r7==0))
 else
  some (v5,false)
theorem fV(h:bK fuel p0 p1 c2_0 H=some r):SC Tryz.prog true 115 [.d (.list 3 (List.map ab p0)),.d (ab p1),.d (.fn (.func 116) [] [.dV [cP.enc c2_0]])] H (.gC [vI r.1,vB r.2]) H:=by
 refine SC.lh Tryz.func115 rfl ?_
 unfold bK at h
 exact SW.kk 49 H [(0,B3 p0),(1,kY p1),(2,M0 c2_0)]<|SW.t 1<|SW.S<|aa.t 1<|aa.p (ax.len (enc:=ab) (xs:=p0))<|aa.t 1<|aa.E<|SW.t 1<|SW.seq<|SW.block<|bI h λv5 hit h=>SW.it 49 H [0,2,4,8,9,10] (λy1=>[(0,B3 p0),(2,M0 c2_0),(4,jQ p1),(8,vI (p0.length:Int)),(9,vI y1.1),(10,vI y1.2)]) (λv5 e s=>(e=.exit 0/\s=(sp 49 [(0,B3 p0),(2,M0 c2_0),(4,jQ p1),(8,vI (p0.length:Int)),(9,vI v5)] H))) hit κ (λy1 o h=>by unfold aU at h;exact SW.seq<|SW.t 1<|SW.b h (λh=>SW.skip<|af<|SW.block<|SW.t 1<|SW.seq<|SW.qq<|aA.t 3<|bI h λx2 hx h=>aA.p (s:=aI none (Go.Sh.D.cells (ab x2))) (ax.index (n:=3) hx)<|aA.t 2<|bI h λr3 hr h=>aA.g (ls:=[]) (o9 hr)<|aA.t 1<|aA.D<|af<|SW.b h (λh=>SW.al<|aa.t 3<|aa.D<|aB<|LQ h) (λh=>SW.al<|aa.t 2<|aa.D<|aB<|LQ h)) (λh=>SW.kk 49 H [(0,B3 p0),(2,M0 c2_0),(4,jQ p1),(8,vI (p0.length:Int)),(9,vI y1.1)]<|SW.exit<|aG<|aG<|LR h ⟨rfl,rfl⟩)) (by rintro _ _ ⟨rfl,rfl⟩;exact aM<|af<|SW.seq<|SW.qq<|aA.s [] [0,2,4,9,35,39] 5<|aA.b2 (λb=>(sp 49 [(0,B3 p0),(2,M0 c2_0),(4,jQ p1),(9,vI v5),(35,vI v5),(39,vB b)] H)) h (λh=>aA.t 3<|bI h λx6 hx h=>aA.p (s:=aI none (Go.Sh.D.cells (ab x6))) (ax.index (n:=3) hx)<|aA.t 2<|bI h λr7 hr h=>aA.g (ls:=[]) (o9 hr)<|aA.t 4<|aA.D<|af<|SW.ret<|iI h▸E0) λh=>aA.t 11<|aA.D<|af<|SW.ret<|iI h▸E0)
def lG(fuel:Nat)(p0:Nat)(p1:Nat)(p2:Entry)(H:Hp):Option (Int×Bool):=
 (aW 3 ay H p1 0).bind λx1=>
 (bK fuel x1 p2 (some p0) (jG [(.an p1 0)] H)).bind λr2=>
 some (r2.1,r2.2)
theorem rS(h:lG fuel p0 p1 p2 H=some r):SC Tryz.prog true 104 [.d (.ptr p0 0),.d (.ptr p1 0),.d (ab p2)] H (.gC [vI r.1,vB r.2]) H:=by
 refine SC.lh Tryz.func104 rfl ?_
 unfold lG at h
 exact SW.kk 18 H (K17 p0 p1 [(2,kY p2)])<|SW.S<|aa.NZ 18 H (d:=3) (ds:=[.ptr p0 0]) [1,2,3] [(1,.d (.ptr p1 0)),(2,kY p2),(3,.d (.dV [.ptr p0 0]))] κ κ<|aa.t 3<|aa.E<|SW.seq<|SW.qq<|aA.t 4<|bI h λx1 hx h=>aA.p (ax.gK hx)<|aA.t 2<|bI h λr2 hr h=>aA.g (ls:=[(.an p1 0)]) (fV hr)<|aA.t 4<|aA.D<|af<|SW.ret<|iI h▸E0
def dF(fuel:Nat)(p0:(List Entry))(p1:Int)(p2:(List Entry)):Option ((List Entry)):=
 dx (kn p0 p1 (p0.length:Int))<|
 bif ((p2.length:Int)==0)then
  some p0
 else
  bif (p1==(p0.length:Int))then
   dx (decide ((p0++p2).length<=room))<|
   some (p0++p2)
  else
   dx (decide (0<=p1)&&decide (p1<(p0.length:Int))&&decide (0<p2.length)&&decide (p0.length+p2.length<=room))<|
   some (List.take (Int.toNat p1) p0++p2++List.drop (Int.toNat p1) p0)
def ui(x0:Entry):SV:=.own 3 (List.map ab [x0])
def Iq(x0:(List Entry)):SV:=.own 3 (List.map ab x0)
theorem kg(h:dF fuel p0 p1 p2=some r):PC Tryz.prog 105 [.own 3 (List.map ab p0),vI p1,.d (.list 3 (List.map ab p2))] (.own 3 (List.map ab r)):=by
 refine PC.bo Tryz.func105 rfl λH=>?_
 unfold dF at h
 exact SW.kk 95 H [(0,Iq p0),(1,vI p1),(2,B3 p2)]<|SW.t 1<|SW.S<|aa.t 2<|lj h λhk h=>aa.p (s:=kT (some (.slot 0)) 3 (List.map ab (sl p0 p1 (p0.length:Int)))) (ax.slice hk)<|aa.E<|SW.S<|aa.t 1<|aa.p (ax.len (enc:=ab) (xs:=p2))<|aa.t 1<|aa.E<|SW.seq<|SW.t 1<|SW.b h (λh=>SW.S<|aa.ts [17] 2<|aa.E<|SW.ret<|ag<|iI h▸E0) (λh=>SW.skip<|af<|SW.S<|aa.t 1<|aa.p (ax.len (enc:=ab) (xs:=p0))<|aa.t 1<|aa.E<|SW.seq<|SW.t 1<|SW.b h (λh=>SW.S<|aa.ts [23] 2<|lj h λhk h=>aa.ap 23 3 (List.map ab (p0++p2)) (aS) (bx hk)<|aa.ts [23] 1<|aa.E<|SW.ret<|ag<|iI h▸E0) (λh=>SW.skip<|af<|lj h λhk h=>SW.kk 95 H [(0,Iq p0),(1,vI p1),(2,B3 p2),(7,vI (p2.length:Int)),(8,vI (p0.length:Int))]<|(by obtain⟨hT,ti,z,zd,hi,hz,hzd,hzn,hsz,hn,hby⟩:=oq (P:=Tryz.prog) (T:=30) (e:=45) (n:=3) κ;exact SW.pG (enc:=ab) (xs:=p0) (ys:=p2) (i:=p1) (T:=30) (I:=3) (B:=4) (fo:=117) (ik:=.i64) hk hT κ hi hz hzd hzn hsz hn hby (λargs w=>run_callFunc_extern Tryz.func117 κ κ κ κ args w)<|iI h▸E0)))
def dg(fuel:Nat)(p0:(List Entry)):Option ((List Entry)):=
 CM p0 λb1=>
 bif b1 then
  some ([]:List Entry)
 else
  dx (decide ((([]:List Entry)++p0).length<=room))<|
  some (([]:List Entry)++p0)
def JM(x0:Entry):SV:=.d (.list 3 (List.map ab [x0]))
def B5(x0:((List Entry)×Hp)):SV:=.own 3 (List.map ab x0.1)
def ya:SV:=.box [.d (.bD),vI 0,vI 0]
theorem kP(h:dg fuel p0=some r):PC Tryz.prog 107 [.d (.list 3 (List.map ab p0))] (.own 3 (List.map ab r)):=by
 refine PC.bo Tryz.func107 rfl λH=>?_
 unfold dg at h
 exact SW.kk 8 H [(0,B3 p0)]<|SW.t 1<|SW.seq<|SW.S<|aa.s [] [0,3] 1<|aa.GR (xs:=List.map ab p0) (d:=some 4) (e:=true) 8 H [0,4] (λb1=>[(0,B3 p0),(4,vB b1)]) κ (λ_=>by kernel_rfl) (λb1 hnil=>have h:=pr h b1 (λe=>q_5.1 (hnil e));aa.E<|SW.b h (λh=>SW.t 1<|SW.ret<|ag<|iI h▸E0) (λh=>SW.skip<|af<|SW.S<|aa.ts [5] 2<|lj h λhk h=>aa.ap 5 3 (List.map ab (([]:List Entry)++p0)) (aS) (bx hk)<|aa.ts [5] 1<|aa.E<|SW.ret<|iI h▸E0))
def dO(fuel:Nat)(p0:(List (Option Nat))):Option ((List (Option Nat))):=
 CM p0 λb1=>
 bif b1 then
  some ([]:List (Option Nat))
 else
  dx (decide ((([]:List (Option Nat))++p0).length<=room))<|
  some (([]:List (Option Nat))++p0)
def LJ(x0:((List Entry)×Hp)):SV:=vI (IntKind.wrap .i64 (Int.tdiv (x0.1.length:Int) 2))
def JL(x0:(List (Option Nat))):SV:=.d (.list 1 (List.map cP.enc x0))
theorem kO(h:dO fuel p0=some r):PC Tryz.prog 108 [.d (.list 1 (List.map cP.enc p0))] (.own 1 (List.map cP.enc r)):=by
 refine PC.bo Tryz.func108 rfl λH=>?_
 unfold dO at h
 exact SW.kk 8 H [(0,JL p0)]<|SW.t 1<|SW.seq<|SW.S<|aa.s [] [0,3] 1<|aa.GR (xs:=List.map cP.enc p0) (d:=some 4) (e:=true) 8 H [0,4] (λb1=>[(0,JL p0),(4,vB b1)]) κ (λ_=>by kernel_rfl) (λb1 hnil=>have h:=pr h b1 (λe=>q_5.1 (hnil e));aa.E<|SW.b h (λh=>SW.t 1<|SW.ret<|ag<|iI h▸E0) (λh=>SW.skip<|af<|SW.S<|aa.ts [5] 2<|lj h λhk h=>aa.ap 5 1 (List.map cP.enc (([]:List (Option Nat))++p0)) (aS) (bx hk)<|aa.ts [5] 1<|aa.E<|SW.ret<|iI h▸E0))
def lr(fuel:Nat)(p0:Nat)(H:Hp):Option ((Entry×(Option Nat))×Hp):=
 (Ao 3 ay H p0 0).bind λq2=>
 (Ao 3 ay q2.2 p0 0).bind λq4=>
 (idx q4.1 (IntKind.wrap .i64 (Int.tdiv (q2.1.length:Int) 2))).bind λx5=>
 (Ao 3 ay q4.2 p0 0).bind λq7=>
 dx (kn q7.1 (IntKind.wrap .i64 ((IntKind.wrap .i64 (Int.tdiv (q2.1.length:Int) 2))+1)) (q7.1.length:Int))<|
 (dg fuel (sl q7.1 (IntKind.wrap .i64 ((IntKind.wrap .i64 (Int.tdiv (q2.1.length:Int) 2))+1)) (q7.1.length:Int))).bind λr8=>
 (kW q7.2 (.cells [.own 3 (List.map ab r8),.own 1 (List.map cP.enc ([]:List (Option Nat)))])).bind λq10=>
 aP (λ(j11:Hp)=>
  (Ao 3 ay j11 p0 0).bind λq23=>
  dx (kn q23.1 0 (IntKind.wrap .i64 (Int.tdiv (q2.1.length:Int) 2)))<|
  (dg fuel (sl q23.1 0 (IntKind.wrap .i64 (Int.tdiv (q2.1.length:Int) 2)))).bind λr24=>
  (bT 3 ay q23.2 p0 0 r24).bind λH25=>
  some ((x5,(some q10.2)),H25)) λjp12=>
 (bH fuel p0 q10.1).bind λr13=>
 bif (!r13)then
  (Ao 1 cP q10.1 p0 1).bind λq15=>
  dx (kn q15.1 (IntKind.wrap .i64 ((IntKind.wrap .i64 (Int.tdiv (q2.1.length:Int) 2))+1)) (q15.1.length:Int))<|
  (dO fuel (sl q15.1 (IntKind.wrap .i64 ((IntKind.wrap .i64 (Int.tdiv (q2.1.length:Int) 2))+1)) (q15.1.length:Int))).bind λr16=>
  (bT 1 cP q15.2 q10.2 1 r16).bind λH17=>
  (Ao 1 cP H17 p0 1).bind λq19=>
  dx (kn q19.1 0 (IntKind.wrap .i64 ((IntKind.wrap .i64 (Int.tdiv (q2.1.length:Int) 2))+1)))<|
  (dO fuel (sl q19.1 0 (IntKind.wrap .i64 ((IntKind.wrap .i64 (Int.tdiv (q2.1.length:Int) 2))+1)))).bind λr20=>
  (bT 1 cP q19.2 p0 1 r20).bind λH21=>
  jp12 H21
 else
  jp12 q10.1
def Ip(x0:(List (Option Nat))):SV:=.own 1 (List.map cP.enc x0)
def K33:=λa0 a1 a2 (t:SL)=>((0,.d (.ptr a0 0))::(2,ya)::(4,LJ a1)::(5,jQ a2)::t:SL)
theorem vV(h:lr fuel p0 H=some r):SC Tryz.prog false 88 [.d (.ptr p0 0)] H (.gC [.d (.agg [.list 3 (List.map ah r.1.1.Row),.int .i64 r.1.1.Key,.int .i64 r.1.1.Number]),.d (cP.enc r.1.2)]) r.2:=by
 refine SC.fc Tryz.func88 rfl ?_
 unfold lr at h
 exact SW.kk 73 H [(0,.d (.ptr p0 0))]<|SW.t 1<|SW.S<|aa.sg 73 H [] [0,2,10] 4 [(0,.d (.ptr p0 0)),(2,ya),(10,.d (.ptr p0 0))] κ<|bI h λq2 hx h=>aa.LS (c:=ay) (xs:=q2.1) (H':=q2.2) hx κ<|aa.p (ax.LP (xs:=q2.1) (H1:=q2.2) hx)<|aa.p (ax.len (enc:=ab) (xs:=q2.1))<|aa.t 2<|aa.E<|SW.S<|aa.sg 73 q2.2 [] [0,2,4,17] 4 [(0,.d (.ptr p0 0)),(2,ya),(4,LJ q2),(17,.d (.ptr p0 0))] κ<|bI h λq4 hx h=>aa.LS (c:=ay) (xs:=q4.1) (H':=q4.2) hx κ<|aa.p (ax.LP (xs:=q4.1) (H1:=q4.2) hx)<|aa.t 1<|bI h λx5 hx h=>aa.p (s:=aI none (Go.Sh.D.cells (ab x5))) (ax.index (n:=3) hx)<|aa.t 3<|aa.E<|SW.S<|aa.sg 73 q4.2 [] [0,2,4,5,25] 4 (K33 p0 q2 x5 [(25,.d (.ptr p0 0))]) κ<|bI h λq7 hx h=>aa.LS (c:=ay) (xs:=q7.1) (H':=q7.2) hx κ<|aa.p (ax.LP (xs:=q7.1) (H1:=q7.2) hx)<|aa.t 2<|lj h λhk h=>aa.p (s:=kT none 3 (List.map ab (sl q7.1 (IntKind.wrap .i64 ((IntKind.wrap .i64 (Int.tdiv (q2.1.length:Int) 2))+1)) (q7.1.length:Int)))) (ax.slice hk)<|bI h λr8 hr h=>aa.cl 73 q7.2 (d:=some 30) (ls:=[]) (gs:=[]) [] [0,2,4,5,30] (K33 p0 q2 x5 [(30,.own 3 (List.map ab r8))]) (kP hr) κ κ κ<|aa.GH (n':=3) (t:=30) (xs:=List.map ab r8) (λv9=>(K33 p0 q2 x5 [(30,.gI v9 3 (List.map ab r8))])) κ (λ_=>by kernel_rfl) λv9=>aa.on 73 q7.2 (d:=some 31) (s:=.d (.agg [.raw v9])) [0,2,4,5,30,31] (K33 p0 q2 x5 [(30,.gI v9 3 (List.map ab r8)),(31,.d (.agg [.raw v9]))]) (ax.NL 30 κ) κ<|aa.s [] [0,2,4,5,30,32] 1<|bI h λq10 hq h=>aa.MB (d:=some 33) 73 [(1,1,true)] [(0,30,v9,3,List.map ab r8)] [0,2,4,5,33] (K33 p0 q2 x5 [(33,.d (.ptr q10.2 0))]) hq κ κ ⟨κ,κ,κ,trivial⟩ κ<|aa.t 1<|aa.E<|SW.JH 73 [0,2,4,5,6] (λ(j11:Hp)=>(K33 p0 q2 x5 [(6,.d (.ptr q10.2 0))])) (λ(j11:Hp)=>j11) h (λj11 h=>SW.S<|aa.G 5 [(2,ya),(4,LJ q2),(5,jQ x5),(6,.d (.ptr q10.2 0)),(59,.d (.ptr p0 0)),(63,.d (.ptr p0 0))]<|bI h λq23 hx h=>aa.LS (c:=ay) (xs:=q23.1) (H':=q23.2) hx κ<|aa.p (ax.LP (xs:=q23.1) (H1:=q23.2) hx)<|aa.t 1<|lj h λhk h=>aa.p (s:=kT none 3 (List.map ab (sl q23.1 0 (IntKind.wrap .i64 (Int.tdiv (q2.1.length:Int) 2))))) (ax.slice hk)<|bI h λr24 hr h=>aa.d (kP hr)<|aa.t 3<|bI h λH25 hx h=>aa.gv 67 hx<|aa.E<|SW.t 1<|SW.ret<|iI h▸E0) λjp12 h=>SW.S<|aa.t 1<|bI h λr13 hr h=>aa.g (ls:=[]) (da hr)<|aa.t 1<|aa.E<|SW.b h (λh=>SW.S<|aa.sg 73 q10.1 [] [0,2,4,5,6,37,40] 4 (K33 p0 q2 x5 [(6,.d (.ptr q10.2 0)),(37,.d (.ptr q10.2 0)),(40,.d (.ptr p0 1))]) κ<|bI h λq15 hx h=>aa.LS (c:=cP) (xs:=q15.1) (H':=q15.2) hx κ<|aa.p (ax.LP (xs:=q15.1) (H1:=q15.2) hx)<|aa.t 2<|lj h λhk h=>aa.p (s:=kT none 1 (List.map cP.enc (sl q15.1 (IntKind.wrap .i64 ((IntKind.wrap .i64 (Int.tdiv (q2.1.length:Int) 2))+1)) (q15.1.length:Int)))) (ax.slice hk)<|bI h λr16 hr h=>aa.d (kO hr)<|aa.t 2<|bI h λH17 hx h=>aa.gv 45 hx<|aa.E<|SW.al<|aa.sg 73 H17 [] [0,2,4,5,6,48,51] 4 (K33 p0 q2 x5 [(6,.d (.ptr q10.2 0)),(48,.d (.ptr p0 0)),(51,.d (.ptr p0 1))]) κ<|bI h λq19 hx h=>aa.LS (c:=cP) (xs:=q19.1) (H':=q19.2) hx κ<|aa.p (ax.LP (xs:=q19.1) (H1:=q19.2) hx)<|aa.t 2<|lj h λhk h=>aa.p (s:=kT none 1 (List.map cP.enc (sl q19.1 0 (IntKind.wrap .i64 ((IntKind.wrap .i64 (Int.tdiv (q2.1.length:Int) 2))+1))))) (ax.slice hk)<|bI h λr20 hr h=>aa.d (kO hr)<|aa.t 2<|bI h λH21 hx h=>aa.gv 56 hx<|aa.D<|JQ [] h) (λh=>SW.skip<|JQ [] h)
def bV(fuel:Nat)(p0:(List (Option Nat)))(p1:Int)(p2:(List (Option Nat))):Option ((List (Option Nat))):=
 dx (kn p0 p1 (p0.length:Int))<|
 bif ((p2.length:Int)==0)then
  some p0
 else
  bif (p1==(p0.length:Int))then
   dx (decide ((p0++p2).length<=room))<|
   some (p0++p2)
  else
   dx (decide (0<=p1)&&decide (p1<(p0.length:Int))&&decide (0<p2.length)&&decide (p0.length+p2.length<=room))<|
   some (List.take (Int.toNat p1) p0++p2++List.drop (Int.toNat p1) p0)
def Nn(x0:((Entry×(Option Nat))×Hp)):SV:=.box [.d (.list 3 (List.map ah x0.1.1.Row)),vI x0.1.1.Key,vI x0.1.1.Number]
def Ow(x0:((Entry×(Option Nat))×Hp)):SV:=.own 3 (List.map ab [x0.1.1])
def Nm(x0:((Entry×(Option Nat))×Hp)):SV:=.d (.list 3 (List.map ab [x0.1.1]))
def LH(x0:((List (Option Nat))×Hp)):SV:=.own 1 (List.map cP.enc x0.1)
def Ov(x0:Int×Bool):SV:=vI (IntKind.wrap .i64 (x0.1+1))
def Nl(x0:Nat):SV:=.own 1 (List.map cP.enc [(some x0)])
theorem jT(h:bV fuel p0 p1 p2=some r):PC Tryz.prog 106 [.own 1 (List.map cP.enc p0),vI p1,.d (.list 1 (List.map cP.enc p2))] (.own 1 (List.map cP.enc r)):=by
 refine PC.bo Tryz.func106 rfl λH=>?_
 unfold bV at h
 exact SW.kk 95 H [(0,Ip p0),(1,vI p1),(2,JL p2)]<|SW.t 1<|SW.S<|aa.t 2<|lj h λhk h=>aa.p (s:=kT (some (.slot 0)) 1 (List.map cP.enc (sl p0 p1 (p0.length:Int)))) (ax.slice hk)<|aa.E<|SW.S<|aa.t 1<|aa.p (ax.len (enc:=cP.enc) (xs:=p2))<|aa.t 1<|aa.E<|SW.seq<|SW.t 1<|SW.b h (λh=>SW.S<|aa.ts [17] 2<|aa.E<|SW.ret<|ag<|iI h▸E0) (λh=>SW.skip<|af<|SW.S<|aa.t 1<|aa.p (ax.len (enc:=cP.enc) (xs:=p0))<|aa.t 1<|aa.E<|SW.seq<|SW.t 1<|SW.b h (λh=>SW.S<|aa.ts [23] 2<|lj h λhk h=>aa.ap 23 1 (List.map cP.enc (p0++p2)) (aS) (bx hk)<|aa.ts [23] 1<|aa.E<|SW.ret<|ag<|iI h▸E0) (λh=>SW.skip<|af<|lj h λhk h=>SW.kk 95 H [(0,Ip p0),(1,vI p1),(2,JL p2),(7,vI (p2.length:Int)),(8,vI (p0.length:Int))]<|(by obtain⟨hT,ti,z,zd,hi,hz,hzd,hzn,hsz,hn,hby⟩:=oq (P:=Tryz.prog) (T:=88) (e:=83) (n:=1) κ;exact SW.pG (enc:=cP.enc) (xs:=p0) (ys:=p2) (i:=p1) (T:=88) (I:=3) (B:=4) (fo:=119) (ik:=.i64) hk hT κ hi hz hzd hzn hsz hn hby (λargs w=>run_callFunc_extern Tryz.func119 κ κ κ κ args w)<|iI h▸E0)))
def fv(fuel:Nat)(rc:(Nat->Nat->Entry->Hp->Option ((Unit)×Hp)))(p0:Nat)(p1:Nat)(p2:Entry)(H:Hp):Option ((Unit)×Hp):=
 (lG fuel p0 p1 p2 H).bind λr1=>
 (bH fuel p1 H).bind λr2=>
 bif r2 then
  (cw 3 ay H p1 0).bind λq3=>
  (dF fuel q3.1 r1.1 [p2]).bind λr5=>
  (bT 3 ay q3.2 p1 0 r5).bind λH6=>
  some ((),H6)
 else
  (aW 1 cP H p1 1).bind λx7=>
  (idx x7 r1.1).bind λx8=>
  x8.bind λi9=>
  (rc p0 i9 p2 H).bind λr10=>
  (aW 3 ay r10.2 i9 0).bind λx11=>
  (aR (cI .i64).cell r10.2 p0 3).bind λx12=>
  bif (decide ((x11.length:Int)>x12))then
   (lr fuel i9 r10.2).bind λr13=>
   (cw 3 ay r13.2 p1 0).bind λq14=>
   (dF fuel q14.1 r1.1 [r13.1.1]).bind λr16=>
   (bT 3 ay q14.2 p1 0 r16).bind λH17=>
   (cw 1 cP H17 p1 1).bind λq18=>
   r13.1.2.bind λi19=>
   (bV fuel q18.1 (IntKind.wrap .i64 (r1.1+1)) [(some i19)]).bind λr20=>
   (bT 1 cP q18.2 p1 1 r20).bind λH21=>
   some ((),H21)
  else
   some ((),r10.2)
def iH:Nat->(Nat->Nat->Entry->Hp->Option ((Unit)×Hp))
 |0=>λ_ _ _ _=>none
 |fuel+1=>fv fuel (iH fuel)
def Nk(x0:Nat):SV:=.d (.list 1 (List.map cP.enc [(some x0)]))
theorem va{fuel:Nat}{rc:(Nat->Nat->Entry->Hp->Option ((Unit)×Hp))}(ih: ∀{p0:Nat} {p1:Nat} {p2:Entry} {H:Hp} {r:(Unit)×Hp},rc p0 p1 p2 H=some r->SC Tryz.prog false 87 [.d (.ptr p0 0),.d (.ptr p1 0),.d (ab p2)] H (.gC []) r.2){p0:Nat}{p1:Nat}{p2:Entry}{H:Hp}{r:(Unit)×Hp}(h:fv fuel rc p0 p1 p2 H=some r):SC Tryz.prog false 87 [.d (.ptr p0 0),.d (.ptr p1 0),.d (ab p2)] H (.gC []) r.2:=by
 refine SC.fc Tryz.func87 rfl ?_
 unfold fv at h
 exact SW.kk 85 H (K17 p0 p1 [(2,kY p2)])<|SW.t 1<|SW.S<|aa.t 3<|bI h λr1 hr h=>aa.g (ls:=[]) (rS hr)<|aa.t 5<|aa.E<|SW.seq<|SW.S<|aa.t 1<|bI h λr2 hr h=>aa.g (ls:=[]) (da hr)<|aa.E<|SW.b h (λh=>SW.seq<|bI h λq3 hq3 h=>bI h λr5 hr_9 h=>bI h λH6 hx_13 h=>SW.kk 85 H [(1,.d (.ptr p1 0)),(5,jQ p2),(6,vI r1.1)]<|SW.gI p1 0 λv4=>SW.lX [0,1,2,3,4,6,5,7] [8,9,10,11,12,13] κ κ<|au.t<|au.t<|au.t<|au.t<|au.t<|au.sg 85 (cK H p1 0 v4) [5,20,24,26] [(5,jQ p2),(20,.d (.ptr p1 0)),(24,.d (.ptr p1 0)),(26,vI r1.1)] κ<|au.p (s:=.d (.raw v4)) (ax.Fl (c:=ay) (n':=3) hq3 κ)<|au.t<|au.D<|aa.ts [25] 1<|aa.fz 85 (cK H p1 0 v4) 28 [20,25,26,28] [(20,.d (.ptr p1 0)),(25,.d (.raw v4)),(26,vI r1.1),(28,JM p2)] κ<|aa.Km (c:=ay) (n':=3) (t:=25) [20,25,26,28] [(20,.d (.ptr p1 0)),(25,B5 q3),(26,vI r1.1),(28,JM p2)] hq3 κ κ κ<|aa.C (d:=some 29) (ls:=[]) (gs:=[(25,0)]) [0] [(20,.d (.ptr p1 0)),(29,.own 3 (List.map ab r5))] (kg hr_9)<|aa.ts [25] 1<|aa.ts [25] 1<|aa.ts [25] 1<|aa.gv 29 hx_13<|aa.E<|SW.ret<|ag<|iI h▸E0) (λh=>SW.skip<|af<|SW.S<|aa.t 3<|bI h λx7 hx h=>aa.p (ax.gK hx)<|aa.t 1<|bI h λx8 hx h=>aa.p (s:=aI (some (.an p1 1)) [cP.enc x8]) (ax.ff (n:=1) hx)<|aa.t 2<|aa.E<|SW.S<|aa.s [] [0,1,6,8,40,41,42] 3<|bI h λi9 hp_i9 h=>aa.nG x8 (λp=>(sp 85 (K17 p0 p1 [(6,vI r1.1),(8,.d (cP.enc p)),(40,.d (.ptr p0 0)),(41,.d (cP.enc p)),(42,kY p2)]) H)) κ hp_i9<|bI h λr10 hr h=>aa.f (ih hr)<|aa.E<|SW.seq<|SW.V<|bb.t 4<|bI h λx11 hx h=>bb.p (ax.gK hx)<|bb.p (ax.len (enc:=ab) (xs:=x11))<|bb.t 3<|bI h λx12 hx h=>bb.p (s:=vI x12) (ax.cN hx)<|bb.t 1<|bb.D<|af<|SW.b h (λh=>SW.S<|aa.t 1<|bI h λr13 hr h=>aa.f (vV hr)<|aa.t 6<|aa.E<|SW.seq<|bI h λq14 hq14 h=>bI h λr16 hr_9 h=>bI h λH17 hx_13 h=>SW.kk 85 r13.2 [(1,.d (.ptr p1 0)),(6,vI r1.1),(9,Nn r13),(10,.d (cP.enc r13.1.2))]<|SW.gI p1 0 λv15=>SW.lX [0,1,2,3,4,6,5,7] [8,9,10,11,12,13] κ κ<|au.t<|au.t<|au.t<|au.t<|au.t<|au.sg 85 (cK r13.2 p1 0 v15) [1,6,9,10,60,64,66] [(1,.d (.ptr p1 0)),(6,vI r1.1),(9,Nn r13),(10,.d (cP.enc r13.1.2)),(60,.d (.ptr p1 0)),(64,.d (.ptr p1 0)),(66,vI r1.1)] κ<|au.p (s:=.d (.raw v15)) (ax.Fl (c:=ay) (n':=3) hq14 κ)<|au.t<|au.D<|aa.ts [65] 1<|aa.fz 85 (cK r13.2 p1 0 v15) 68 [1,6,10,60,65,66,68] [(1,.d (.ptr p1 0)),(6,vI r1.1),(10,.d (cP.enc r13.1.2)),(60,.d (.ptr p1 0)),(65,.d (.raw v15)),(66,vI r1.1),(68,Nm r13)] κ<|aa.Km (c:=ay) (n':=3) (t:=65) [1,6,10,60,65,66,68] [(1,.d (.ptr p1 0)),(6,vI r1.1),(10,.d (cP.enc r13.1.2)),(60,.d (.ptr p1 0)),(65,B5 q14),(66,vI r1.1),(68,Nm r13)] hq14 κ κ κ<|aa.C (d:=some 69) (ls:=[]) (gs:=[(65,0)]) [0] [(1,.d (.ptr p1 0)),(6,vI r1.1),(10,.d (cP.enc r13.1.2)),(60,.d (.ptr p1 0)),(69,.own 3 (List.map ab r16))] (kg hr_9)<|aa.ts [65] 1<|aa.ts [65] 1<|aa.ts [65] 1<|aa.gv 69 hx_13<|aa.E<|SW.al<|aa.ts [77] 4<|bI h λq18 hq h=>aa.tk hq<|aa.s [77] [73,77,79,80] 3<|bI h λi19 hp_i19 h=>aa.nG r13.1.2 (λp=>(sp 85 [(73,.d (.ptr p1 0)),(77,LH q18),(79,Ov r1),(80,.d (cP.enc p))] q18.2)) κ hp_i19<|aa.t 1<|aa.fr 81<|bI h λr20 hr h=>aa.cl 85 q18.2 (d:=some 82) (ls:=[]) (gs:=[(77,0)]) [0] [73,82] [(73,.d (.ptr p1 0)),(82,.own 1 (List.map cP.enc r20))] (jT hr) κ κ κ<|aa.ts [77] 2<|bI h λH21 hx h=>aa.gv 82 hx<|aa.D<|iI h▸EN) (λh=>SW.skip<|iI h▸EN))
end
theorem xN{fuel:Nat}: ∀{p0:Nat} {p1:Nat} {p2:Entry} {H:Hp} {r:(Unit)×Hp},iH fuel p0 p1 p2 H=some r->SC Tryz.prog false 87 [.d (.ptr p0 0),.d (.ptr p1 0),.d (ab p2)] H (.gC []) r.2:=by
 induction fuel with
 |zero=>intros;rename_i h;exact nomatch (show(none:Option ((Unit)×Hp))=some _ from h)
 |succ fuel ih=>exactλh=>va ih h
def cX(fuel:Nat)(p0:Nat)(p1:Entry)(H:Hp):Option ((Unit)×Hp):=
 (aR cP.cell H p0 4).bind λx1=>
 x1.bind λi2=>
 (iH fuel p0 i2 p1 H).bind λr3=>
 (aR cP.cell r3.2 p0 4).bind λx4=>
 x4.bind λi5=>
 (aW 3 ay r3.2 i5 0).bind λx6=>
 (aR (cI .i64).cell r3.2 p0 3).bind λx7=>
 bif (decide ((x6.length:Int)>x7))then
  (aR cP.cell r3.2 p0 4).bind λx8=>
  x8.bind λi9=>
  (lr fuel i9 r3.2).bind λr10=>
  r10.1.2.bind λi12=>
  (kW r10.2 (.cells [.own 3 (List.map ab [r10.1.1]),.own 1 (List.map cP.enc [(some i9),(some i12)])])).bind λq14=>
  (cH cP q14.1 p0 4 (some q14.2)).bind λH15=>
  (aR (cI .i64).cell H15 p0 6).bind λx16=>
  (cH (cI .i64) H15 p0 6 (IntKind.wrap .i64 (x16+1))).bind λH17=>
  some ((),H17)
 else
  (aR (cI .i64).cell r3.2 p0 6).bind λx18=>
  (cH (cI .i64) r3.2 p0 6 (IntKind.wrap .i64 (x18+1))).bind λH19=>
  some ((),H19)
def Ou(x0:Nat)(x1:Nat):SV:=.own 1 (List.map cP.enc [(some x0),(some x1)])
section
attribute [local irreducible] aa aA bb au SW uS
def K47:=λa0 a1 a2 a3 (t:SL)=>((0,.d (.ptr a0 0))::(37,.d (.ptr a1 0))::(39,.gI a2 3 (List.map ab [a3]))::t:SL)
def K57:=λa0 a1 a2 a3 (t:SL)=>((0,.d (.ptr a0 0))::(4,.d (.ptr a1 0))::(6,.d (cP.enc a2))::(37,.d (.ptr a3 0))::t:SL)
theorem m7(h:cX fuel p0 p1 H=some r):SC Tryz.prog false 62 [.d (.ptr p0 0),.d (ab p1)] H (.gC []) r.2:=by
 refine SC.fc Tryz.func62 rfl ?_
 unfold cX at h
 exact SW.kk 55 H [(0,.d (.ptr p0 0)),(1,kY p1)]<|SW.t 1<|SW.seq<|SW.seq<|SW.fS 6 κ κ<|bb.t 4<|bI h λx1 hx h=>bb.p (s:=.d (cP.enc x1)) (ax.cN hx)<|bb.s [] [0,7,11,12] 1<|bb.D<|bI h λi2 hp_i2 h=>aa.nG x1 (λp=>(sp 55 [(0,.d (.ptr p0 0)),(7,.d (.ptr p0 0)),(11,.d (cP.enc p)),(12,kY p1)] H)) κ hp_i2<|bI h λr3 hr h=>aa.f (xN hr)<|aa.E<|SW.seq<|SW.V<|bb.t 3<|bI h λx4 hx h=>bb.p (s:=.d (cP.enc x4)) (ax.cN hx)<|bI h λi5 hp_i5 h=>bb.p (s:=.d (.ptr i5 0)) (ax.dS hp_i5)<|bb.t 2<|bI h λx6 hx h=>bb.p (ax.gK hx)<|bb.p (ax.len (enc:=ab) (xs:=x6))<|bb.t 3<|bI h λx7 hx h=>bb.p (s:=vI x7) (ax.cN hx)<|bb.t 1<|bb.D<|af<|SW.b h (λh=>SW.S<|aa.t 3<|bI h λx8 hx h=>aa.p (s:=.d (cP.enc x8)) (ax.cN hx)<|aa.t 1<|aa.E<|SW.S<|aa.s [] [0,4,33] 1<|bI h λi9 hp_i9 h=>aa.nG x8 (λp=>(sp 55 [(0,.d (.ptr p0 0)),(4,.d (cP.enc p)),(33,.d (cP.enc p))] r3.2)) κ hp_i9<|bI h λr10 hr h=>aa.f (vV hr)<|aa.t 6<|aa.E<|SW.al<|aa.sg 55 r10.2 [] [0,4,6,37,39] 3 (K57 p0 i9 r10.1.2 p0 [(39,Ow r10)]) κ<|aa.GH (n':=3) (t:=39) (xs:=List.map ab [r10.1.1]) (λv11=>(K57 p0 i9 r10.1.2 p0 [(39,.gI v11 3 (List.map ab [r10.1.1]))])) κ (λ_=>by kernel_rfl) λv11=>aa.on 55 r10.2 (d:=some 40) (s:=.d (.agg [.raw v11])) [0,4,6,37,39,40] (K57 p0 i9 r10.1.2 p0 [(39,.gI v11 3 (List.map ab [r10.1.1])),(40,.d (.agg [.raw v11]))]) (ax.NL 39 κ) κ<|aa.s [] [0,37,39,40,41,42] 2<|bI h λi12 hp_i12 h=>aa.nG r10.1.2 (λp=>(sp 55 (K47 p0 p0 v11 r10.1.1 [(40,.d (.agg [.raw v11])),(41,.d (.ptr i9 0)),(42,.d (cP.enc p))]) r10.2)) κ hp_i12<|aa.G 1 (K47 p0 p0 v11 r10.1.1 [(40,.d (.agg [.raw v11])),(43,Ou i9 i12)])<|aa.GH (n':=1) (t:=43) (xs:=List.map cP.enc [(some i9),(some i12)]) (λv13=>(K47 p0 p0 v11 r10.1.1 [(40,.d (.agg [.raw v11])),(43,.gI v13 1 (List.map cP.enc [(some i9),(some i12)]))])) κ (λ_=>by kernel_rfl) λv13=>aa.on 55 r10.2 (d:=some 44) (s:=.d (.agg [.raw v11,.raw v13])) [0,37,39,43,44] (K47 p0 p0 v11 r10.1.1 [(43,.gI v13 1 (List.map cP.enc [(some i9),(some i12)])),(44,.d (.agg [.raw v11,.raw v13]))]) (ax.NL 43 κ) κ<|bI h λq14 hq h=>aa.MB (d:=some 45) 55 [] [(0,39,v11,3,List.map ab [r10.1.1]),(1,43,v13,1,List.map cP.enc [(some i9),(some i12)])] [0,37,45] [(0,.d (.ptr p0 0)),(37,.d (.ptr p0 0)),(45,.d (.ptr q14.2 0))] hq κ κ ⟨κ,κ,κ,κ,κ,κ,trivial⟩ κ<|aa.t 2<|bI h λH15 hx h=>aa.hs hx<|aa.E<|SW.al<|aa.t 3<|bI h λx16 hx h=>aa.p (s:=vI x16) (ax.cN hx)<|aa.t 3<|bI h λH17 hx h=>aa.hs hx<|aa.D<|iI h▸EN) (λh=>SW.skip<|af<|SW.al<|aa.t 3<|bI h λx18 hx h=>aa.p (s:=vI x18) (ax.cN hx)<|aa.t 3<|bI h λH19 hx h=>aa.hs hx<|aa.D<|iI h▸EN)
def cY(fuel:Nat)(p0:Nat)(p1:(List Value))(p2:Int)(H:Hp):Option ((Int×Int)×Hp):=
 (fw fuel p0 p1 p2 H).bind λr1=>
 bif (r1 !=0)then
  some ((0,r1),H)
 else
  aP (λ(j2:Hp)=>
   (aR (cI .i64).cell j2 p0 5).bind λx8=>
   (cH (cI .i64) j2 p0 5 (IntKind.wrap .i64 (x8+1))).bind λH9=>
   (bY fuel p1).bind λr10=>
   (aR (cI .i64).cell H9 p0 5).bind λx11=>
   (cX fuel p0 (⟨r10,p2,x11⟩:Entry) H9).bind λr12=>
   (aR (cI .i64).cell r12.2 p0 5).bind λx13=>
   some ((x13,0),r12.2)) λjp3=>
  (aR (cI .i64).cell H p0 2).bind λx4=>
  bif (x4==1)then
   (iJ fuel p0 p1 H).bind λr5=>
   bif r5.1 then
    some ((0,6),r5.2)
   else
    (aR (cI .i64).cell r5.2 p0 6).bind λx6=>
    bif (decide (x6>=500))then
     some ((0,4),r5.2)
    else
     jp3 r5.2
  else
   (aR (cI .i64).cell H p0 6).bind λx7=>
   bif (decide (x7>=500))then
    some ((0,4),H)
   else
    jp3 H
theorem j9(h:cY fuel p0 p1 p2 H=some r):SC Tryz.prog false 32 [.d (.ptr p0 0),.d (.list 3 (List.map ah p1)),vI p2] H (.gC [vI r.1.1,vI r.1.2]) r.2:=by
 refine SC.fc Tryz.func32 rfl ?_
 unfold cY at h
 exact SW.kk 55 H (K37 p0 p1 p2 [])<|SW.t 1<|SW.seq<|SW.S<|aa.t 3<|bI h λr1 hr h=>aa.g (ls:=[]) (k8 hr)<|aa.t 1<|aa.E<|SW.t 1<|SW.b h (λh=>SW.t 1<|SW.ret<|ag<|iI h▸E0) (λh=>SW.skip<|af<|SW.JH 55 [0,1,2] (λ(j2:Hp)=>(K37 p0 p1 p2 [])) (λ(j2:Hp)=>j2) h (λj2 h=>SW.S<|aa.t 3<|bI h λx8 hx h=>aa.p (s:=vI x8) (ax.cN hx)<|aa.t 3<|bI h λH9 hx h=>aa.hs hx<|aa.E<|SW.seq<|bI h λr10 hr_2 h=>bI h λx11 hx11 h=>bI h λr12 hr_9 h=>SW.kk 55 H9 (K37 p0 p1 p2 [])<|SW.qG 55 r12.2 [(0,.d (.ptr p0 0))] [0,1,3,4,5,6] 4 123 κ κ κ (λX hX=>by subst hX;exact au.t<|au.t<|au.t<|au.t<|au.t<|au.sg 55 H9 [0,41,42,44,47] [(0,.d (.ptr p0 0)),(41,.d (.ptr p0 0)),(42,Z9 p1),(44,vI p2),(47,.d (.ptr p0 5))] κ<|au.D<|OX.auto [] [(2,eV _),(7,eV (vI x11)),(8,eF 43),(9,eH _ _)] ⟨EV.c (gV hr_2),EV.cN (c:=(cI .i64).cell) hx11,EV.z,EV.h (m7 hr_9),trivial⟩) (af<|SW.S<|aa.t 3<|bI h λx13 hx h=>aa.p (s:=vI x13) (ax.cN hx)<|aa.t 2<|aa.E<|SW.ret<|iI h▸E0)) λjp3 h=>SW.block<|SW.S<|aa.t 4<|bI h λx4 hx h=>aa.p (s:=vI x4) (ax.cN hx)<|aa.s [] [0,1,2,23] 2<|aa.b2 (λb=>(sp 55 (K37 p0 p1 p2 [(23,vB b)]) H)) h (λh=>aa.t 2<|bI h λr5 hr h=>aa.f (qD hr)<|aa.t 2<|aa.E<|SW.b h (λh=>SW.t 1<|SW.ret<|az<|ag<|iI h▸E0) (λh=>SW.S<|aa.t 3<|bI h λx6 hx h=>aa.p (s:=vI x6) (ax.cN hx)<|aa.t 2<|aa.E<|SW.b h (λh=>SW.t 1<|SW.ret<|az<|ag<|iI h▸E0) (λh=>SW.skip<|aB<|JQ [] h))) λh=>aa.t 5<|aa.E<|SW.N<|SW.S<|aa.t 3<|bI h λx7 hx h=>aa.p (s:=vI x7) (ax.cN hx)<|aa.t 2<|aa.E<|SW.b h (λh=>SW.t 1<|SW.ret<|az<|ag<|iI h▸E0) (λh=>SW.skip<|aB<|JQ [] h))
def vW(fuel:Nat)(p0:Entry):Option (Entry):=
 (bY fuel p0.Row).bind λr1=>
 some (⟨r1,p0.Key,p0.Number⟩:Entry)
def Ot(x0:Int×Hp):SV:=vI (IntKind.wrap .i64 (x0.1+1))
def Oq(x0:Int):SV:=.d (.list 3 (List.map ah [(⟨1,x0,[]⟩:Value)]))
theorem lS(h:vW fuel p0=some r):PC Tryz.prog 44 [.d (ab p0)] (.d (.agg [.list 3 (List.map ah r.Row),.int .i64 r.Key,.int .i64 r.Number])):=by
 refine PC.bo Tryz.func44 rfl λH=>?_
 unfold vW at h
 exact SW.kk 8 H [(0,kY p0)]<|SW.t 1<|SW.S<|aa.t 2<|bI h λr1 hr h=>aa.d (gV hr)<|aa.t 1<|aa.fr 5<|aa.t 1<|aa.E<|SW.t 1<|SW.ret<|iI h▸E0
def cG(fuel:Nat)(q1:(Hp×Nat))(e5:Entry)(G6:Hp):Option Hp:=
 (cw 3 ay G6 q1.2 0).bind λq7=>
 (vW fuel e5).bind λr8=>
 dx (decide ((q7.1++[r8]).length<=room))<|
 (bT 3 ay q7.2 q1.2 0 (q7.1++[r8])).bind λH10=>
 some H10
def ka(fuel:Nat)(p0:Nat)(H:Hp):Option (((List Entry))×Hp):=
 (kW H (.cells [.own 3 (List.map ab ([]:List Entry))])).bind λq1=>
 (aR cP.cell q1.1 p0 4).bind λx2=>
 x2.bind λi3=>
 (lT fuel i3 q1.1).bind λr4=>
 (jt fuel (cG fuel q1) (some i3) q1.1).bind λH11=>
 (cw 3 ay H11 q1.2 0).bind λq12=>
 some (q12.1,q12.2)
def xZ(x0:((List Entry)×Hp))(x1:Entry):SV:=.own 3 (List.map ab (x0.1++[x1]))
def K46:=λa0 a1 (t:SL)=>((3,.d (.ptr a0 0))::(13,B5 a1)::t:SL)
theorem mO(h:ka fuel p0 H=some r):SC Tryz.prog false 17 [.d (.ptr p0 0)] H (.own 3 (List.map ab r.1)) r.2:=by
 refine SC.sy Tryz.func17 rfl ?_
 unfold ka at h
 exact cV.kp 19 H [0] [(0,.d (.ptr p0 0))] κ<|cV.seq1<|SW.al<|aa.G 1 [(0,.d (.ptr p0 0))]<|aa.E<|cV.seq1<|SW.al<|aa.G 1 [(0,.d (.ptr p0 0)),(3,.box [.d (.bD)])]<|aa.E<|bI h λq1 hq h=>cV.nh hq 3 19 [(0,3)] [0,3] [(0,.d (.ptr p0 0)),(3,.d (.ptr q1.2 0))] κ (by cases hq;kernel_rfl)<|cV.KC<|cV.seq1<|SW.al<|aa.G 2 [(0,.d (.ptr p0 0)),(3,.d (.ptr q1.2 0)),(6,vB true)]<|aa.E<|cV.jL κ<|cV.seq1<|SW.al<|aa.t 3<|bI h λx2 hx h=>aa.o (s:=.d (cP.enc x2)) [3,10] (ax.cN hx)<|bI h λi3 hp_i3 h=>aa.nG x2 (λp=>(sp 19 [(3,.d (.ptr q1.2 0)),(10,.d (cP.enc p))] q1.1)) κ hp_i3<|bI h λr4 hr h=>aa.CR (ls:=[]) (some 11) [(3,.d (.ptr q1.2 0)),(11,Ij i3)] (mM hr)<|aa.E<|cV.block<|bI h λH11 hit h=>cV.KH (f:=78) (caps:=[.dV [.ptr i3 0]]) (H':=H11) [(3,.ptr q1.2 0)] κ κ κ κ (λl R bE hpe hps has hbd hsz=>u9 pW.fr (λe5 G6 H9 h=>by
  unfold cG at h;exact YB.E9 (n:=19) bE hpe hps (hsz.trans (kD _ _ _)) [(3,.d (.ptr q1.2 0)),(12,.d (.agg [.list 3 (List.map ah e5.Row),.int .i64 e5.Key,.int .i64 e5.Number]))] (tb ⟨.inr ⟨by decide,_,rfl,.head _⟩,⟨.inl ⟨rfl,rfl⟩,trivial⟩⟩)<|(by
   rw[has,hbd];exact uk.region κ<|aa.G 2 [(3,.d (.ptr q1.2 0)),(4,jQ e5)]<|aa.D<|uk.block<|bI h λq7 hq_0 h=>bI h λr8 hr_2 h=>lj h λhk9 h=>bI h λH10 hx_5 h=>uk.kp 19 G6 [3,4] [(3,.d (.ptr q1.2 0)),(4,jQ e5)] κ<|(by
    refine uk.Cy 19 H10 [] κ (λX hX=>?_) (by cases h;exact rfl)
    .have c63:X 0 63 (sp 19 [] H10):=by subst hX;exact OX.fin κ
     have c31:X 1 31 (sp 19 [(3,.d (.ptr q1.2 0)),(17,xZ q7 r8)] q7.2):=by
      subst hX
      refine OX.step (i0:=5) (is:=[]) κ κ ⟨?_,trivial⟩
      .refine aa.NR (c:=ay) (n':=3) (s:=17) (xs:=(q7.1++[r8])) 19 [] [] hx_5 κ κ<|aa.D ?_
       exact c63
     have c15:X 2 15 (sp 19 (K46 q1.2 q7 [(16,ui r8)]) q7.2):=by
      subst hX
      refine OX.step (i0:=4) (is:=[]) κ κ ⟨?_,trivial⟩
      .refine aa.app 19 q7.2 (s:=13) (d:=17) (w:=3) [3,17] (zs:=List.map ab (q7.1++[r8])) [(3,.d (.ptr q1.2 0)),(17,xZ q7 r8)] (ys:=(List.map ab [r8])) κ (aS) (bx hk9) κ<|aa.D ?_
       exact c31
     have c7:X 3 7 (sp 19 (K46 q1.2 q7 [(15,kY r8)]) q7.2):=by
      subst hX
      refine OX.step (i0:=3) (is:=[]) κ κ ⟨?_,trivial⟩
      .refine aa.sg 19 q7.2 [13] [3,13,16] 1 (K46 q1.2 q7 [(16,ui r8)]) κ<|aa.D ?_
       exact c15
     have c3:X 4 3 (sp 19 (K46 q1.2 q7 [(14,kY e5)]) q7.2):=by
      subst hX
      refine OX.step (i0:=2) (is:=[]) κ κ ⟨?_,trivial⟩
      .refine aa.cl 19 q7.2 (d:=some 15) (ls:=[]) (gs:=[]) [] [3,13,15] (K46 q1.2 q7 [(15,.d (.agg [.list 3 (List.map ah r8.Row),.int .i64 r8.Key,.int .i64 r8.Number]))]) (lS hr_2) κ κ κ<|aa.D ?_
       exact c7
     have c1:X 5 1 (sp 19 [(3,.d (.ptr q1.2 0)),(4,jQ e5),(13,B5 q7)] q7.2):=by
      subst hX
      refine OX.step (i0:=1) (is:=[]) κ κ ⟨?_,trivial⟩
      .refine aa.sg 19 q7.2 [13] [3,13,14] 1 (K46 q1.2 q7 [(14,kY e5)]) κ<|aa.D ?_
       exact c3
     have c14:X 3 14 (sp 19 [(3,.d (.ptr q1.2 0)),(16,ui r8)] G6):=by
      subst hX
      refine OX.step (i0:=0) (is:=[]) κ κ ⟨?_,trivial⟩
      .refine aa.Mi (c:=ay) (n':=3) (d:=13) (xs:=q7.1) 19 [3,13,16] (K46 q1.2 q7 [(16,ui r8)]) hq_0 κ κ<|aa.D ?_
       exact c15
     have c6:X 4 6 (sp 19 [(3,.d (.ptr q1.2 0)),(15,kY r8)] G6):=by
      subst hX
      refine OX.step (i0:=0) (is:=[3]) κ κ ⟨?_,?_,trivial⟩
      .refine aa.Mi (c:=ay) (n':=3) (d:=13) (xs:=q7.1) 19 [3,13,15] (K46 q1.2 q7 [(15,kY r8)]) hq_0 κ κ<|aa.D ?_
       exact c7
      .refine aa.sg 19 G6 [13] [3,16] 1 [(3,.d (.ptr q1.2 0)),(16,ui r8)] κ<|aa.D ?_
       exact c14
     have c2:X 5 2 (sp 19 [(3,.d (.ptr q1.2 0)),(14,kY e5)] G6):=by
      subst hX
      refine OX.step (i0:=0) (is:=[2]) κ κ ⟨?_,?_,trivial⟩
      .refine aa.Mi (c:=ay) (n':=3) (d:=13) (xs:=q7.1) 19 [3,13,14] (K46 q1.2 q7 [(14,kY e5)]) hq_0 κ κ<|aa.D ?_
       exact c3
      .refine aa.C0 (some 15) [(3,.d (.ptr q1.2 0)),(15,kY r8)] (lS hr_2)<|aa.D ?_
       exact c6
     have c0:X 6 0 (sp 19 [(3,.d (.ptr q1.2 0)),(4,jQ e5)] G6):=by
      subst hX
      refine OX.step (i0:=0) (is:=[1]) κ κ ⟨?_,?_,trivial⟩
      .refine aa.Mi (c:=ay) (n':=3) (d:=13) (xs:=q7.1) 19 [3,4,13] [(3,.d (.ptr q1.2 0)),(4,jQ e5),(13,.own 3 (List.map ab q7.1))] hq_0 κ κ<|aa.D ?_
       exact c1
      .refine aa.sg 19 G6 [13] [3,14] 1 [(3,.d (.ptr q1.2 0)),(14,kY e5)] κ<|aa.D ?_
       exact c2
     exact c0))) hit) (aB<|af<|(by intro ds;exact ta.seq<|ta.region<|Al.M 2<|bI h λq12 hq h=>aa.tk hq<|aa.sg 19 q12.2 [] [2] 1 [(2,B5 q12)] κ<|aa.D<|Al.D<|af<|ta.ret<|iI h▸E0))
def ga(fuel:Nat)(r1:(((List Entry))×Hp))(y2:(List Int)×Int×Hp):Option (((List Int)×Int×Hp)⊕((List Int)×Hp)):=
 bif (decide (y2.2.1<(r1.1.length:Int)))then
  (idx r1.1 y2.2.1).bind λx3=>
  dx (decide ((y2.1++[x3.Key]).length<=room))<|
  some (.inl ((y2.1++[x3.Key]),(IntKind.wrap .i64 (y2.2.1+1)),y2.2.2))
 else
  some (.inr (y2.1,y2.2.2))
def iY(fuel:Nat)(p0:Nat)(H:Hp):Option (((List Int))×Hp):=
 (ka fuel p0 H).bind λr1=>
 (iter (ga fuel r1) fuel (([]:List Int),0,r1.2)).bind λv5=>
 some (v5.1,v5.2)
def LG(x0:(((List Entry))×Hp)):SV:=.own 3 (List.map ab x0.1)
def Oo(x0:(List Int)×Int×Hp):SV:=.own 1 (List.map (D.int .i64) x0.1)
theorem lU(h:iY fuel p0 H=some r):SC Tryz.prog false 33 [.d (.ptr p0 0)] H (.own 1 (List.map (D.int .i64) r.1)) r.2:=by
 refine SC.fc Tryz.func33 rfl ?_
 unfold iY at h
 exact SW.kk 20 H [(0,.d (.ptr p0 0))]<|SW.t 2<|SW.seq<|SW.S<|aa.t 1<|bI h λr1 hr h=>aa.f (mO hr)<|aa.p (ax.len (enc:=ab) (xs:=r1.1))<|aa.t 1<|aa.E<|SW.block<|bI h λv5 hit h=>SW.Fq 20 [3,7,8,9] (λy2=>[(3,.own 1 (List.map (D.int .i64) y2.1)),(7,LG r1),(8,vI (r1.1.length:Int)),(9,vI y2.2.1)]) (λy2=>y2.2.2) (λv5 e s=>(e=.exit 0/\s=(sp 20 [(3,.own 1 (List.map (D.int .i64) v5.1))] v5.2))) hit κ (λy2 o h=>by unfold ga at h;exact SW.t 1<|SW.seq<|SW.b h (λh=>SW.skip<|af<|SW.seq<|SW.block<|SW.S<|bI h λx3 hx h=>aa.p (s:=aI (some (.slot 7)) (Go.Sh.D.cells (ab x3))) (ax.index (n:=3) hx)<|aa.t 3<|aa.E<|SW.al<|aa.ts [13] 4<|lj h λhk h=>aa.ap 13 1 (List.map (D.int .i64) (y2.1++[x3.Key])) (aS) (bx hk)<|aa.ts [13] 1<|aa.D<|aB<|af<|SW.al<|aa.t 2<|aa.D<|LQ h) (λh=>SW.kk 20 y2.2.2 [(3,Oo y2)]<|SW.exit<|aG<|aG<|LR h ⟨rfl,rfl⟩)) (by rintro _ _ ⟨rfl,rfl⟩;exact aM<|af<|SW.S<|aa.ts [19] 2<|aa.E<|SW.ret<|iI h▸E0)
def w4(fuel:Nat)(r1:(((Option Nat)×Int)×Hp))(y2:Int×Hp):Option ((Int×Hp)⊕((Hp)⊕((Bool)))):=
 bif (decide (y2.1<3))then
  (idx [5,5,3] y2.1).bind λx3=>
  r1.1.1.bind λi4=>
  (cY fuel i4 [(⟨1,x3,[]⟩:Value)] (IntKind.wrap .i64 (y2.1+1)) y2.2).bind λr5=>
  bif (r5.1.2 !=0)then
   some (.inr (.inr false))
  else
   some (.inl ((IntKind.wrap .i64 (y2.1+1)),r5.2))
 else
  some (.inr (.inl y2.2))
def qj(fuel:Nat):Option (Bool):=
 (ux fuel (⟨[1],[false],2⟩:ak) 4 []).bind λr1=>
 bif (r1.1.2 !=0)then
  some false
 else
  (iter (w4 fuel r1) fuel (0,r1.2)).bind (Sum.elim (λv7=>
   r1.1.1.bind λi8=>
   (iY fuel i8 v7).bind λr9=>
   bif ((r9.1.length:Int)==3)then
    (idx r9.1 0).bind λx10=>
    bif (x10==3)then
     (idx r9.1 1).bind λx11=>
     bif (x11==2)then
      (idx r9.1 2).bind λx12=>
      some (x12==1)
     else
      some false
    else
     some false
   else
    some false) (λr13=>
   some r13))
def FK(x0:(((List Int))×Hp)):SV:=.own 1 (List.map (D.int .i64) x0.1)
theorem ry(h:qj fuel=some r):PC Tryz.prog 8 [] (vB r):=by
 exact PC.rr Tryz.func8 rfl (by simp[fT,dU,en,vI,vB,vS]) (by simp[fT,dU,en,vI,vB,vS])<|(by unfold qj at h;exact SW.kk 58 [] []<|SW.t 1<|SW.S<|aa.t 2<|aa.fr 8<|aa.fr 9<|aa.t 1<|bI h λr1 hr h=>aa.f (wa hr)<|aa.t 5<|aa.E<|SW.seq<|SW.t 1<|SW.b h (λh=>SW.t 1<|SW.ret<|ag<|iI h▸EL) (λh=>SW.skip<|af<|SW.seq<|SW.t 1<|SW.block<|bI h λz6 hit h=>SW.Fq 58 [1,3] (λy2=>[(1,.d (cP.enc r1.1.1)),(3,vI y2.1)]) (λy2=>y2.2) (λb e s=>((∃v7,b=(.inl v7)/\(e=.exit 0/\s=(sp 58 [(1,.d (cP.enc r1.1.1))] v7)))\/(∃r13,b=(.inr r13)/\(e=.ret/\Dt Tryz.prog Tryz.f8.results.toList (vB r13) .ret s)))) hit κ (λy2 o h=>by unfold w4 at h;exact SW.seq<|SW.t 1<|SW.b h (λh=>SW.skip<|af<|SW.seq<|SW.block<|SW.S<|aa.t 3<|bI h λx3 hx h=>aa.p (s:=aI (some (.slot 22)) (Go.Sh.D.cells ((D.int .i64) x3))) (ax.index (n:=1) hx)<|aa.t 3<|aa.fr 27<|aa.s [] [1,3,21,27,29] 2<|bI h λi4 hp_i4 h=>aa.nG r1.1.1 (λp=>(sp 58 [(1,.d (cP.enc p)),(3,vI y2.1),(21,.d (cP.enc p)),(27,Oq x3),(29,Ot y2)] y2.2)) κ hp_i4<|bI h λr5 hr h=>aa.f (j9 hr)<|aa.t 5<|aa.E<|SW.t 1<|SW.b h (λh=>SW.t 1<|SW.ret<|az<|ag<|ag<|LR h (.inr (⟨false,rfl,rfl,Dt.ret [] κ⟩))) (λh=>SW.skip<|aB<|af<|SW.al<|aa.t 3<|aa.D<|(by cases h;exact⟨((IntKind.wrap .i64 (y2.1+1)),r5.2),rfl,by rw[hp_i4];kernel_rfl⟩))) (λh=>SW.kk 58 y2.2 [(1,.d (cP.enc r1.1.1))]<|SW.exit<|aG<|aG<|LR h (.inl ⟨y2.2,rfl,rfl,rfl⟩))) (by rintro _ _ (⟨v7,rfl,rfl,rfl⟩|⟨r13,rfl,rfl,hE⟩);exact have h:=gd h;aM<|af<|SW.S<|aa.s [] [35] 1<|bI h λi8 hp_i8 h=>aa.nG r1.1.1 (λp=>(sp 58 [(35,.d (cP.enc p))] v7)) κ hp_i8<|bI h λr9 hr h=>aa.f (lU hr)<|aa.t 1<|aa.E<|SW.S<|aa.t 1<|aa.p (ax.len (enc:=(D.int .i64)) (xs:=r9.1))<|aa.s [] [6,40] 2<|aa.b2 (λb=>(sp 58 [(6,FK r9),(40,vB b)] r9.2)) h (λh=>aa.t 1<|bI h λx10 hx h=>aa.p (s:=aI (some (.slot 6)) (Go.Sh.D.cells ((D.int .i64) x10))) (ax.index (n:=1) hx)<|aa.s [] [6,46] 4<|aa.b2 (λb=>(sp 58 [(6,FK r9),(46,vB b)] r9.2)) h (λh=>aa.t 1<|bI h λx11 hx h=>aa.p (s:=aI (some (.slot 6)) (Go.Sh.D.cells ((D.int .i64) x11))) (ax.index (n:=1) hx)<|aa.s [] [6,52] 4<|aa.b2 (λb=>(sp 58 [(6,FK r9),(52,vB b)] r9.2)) h (λh=>aa.ts [53] 1<|bI h λx12 hx h=>aa.p (s:=aI (some (.slot 53)) (Go.Sh.D.cells ((D.int .i64) x12))) (ax.index (n:=1) hx)<|aa.ts [53] 4<|aa.E<|SW.ret<|iI h▸EL) λh=>aa.ts [53] 6<|aa.E<|SW.ret<|iI h▸EL) λh=>aa.ts [53] 12<|aa.E<|SW.ret<|iI h▸EL) λh=>aa.ts [53] 18<|aa.E<|SW.ret<|iI h▸EL;exact have h:=gb h;az<|ag<|(by cases h;exact hE))))
structure Tree where
 S:ak
 Order:Int
 du:(List Entry)
 eP:Int
 deriving DecidableEq,Inhabited
def lC(x:Tree):D:=.agg [.list 1 (List.map (D.int .i64) x.S.aq),.list 1 (List.map D.bool x.S.Down),.int .i64 x.S.cW,.int .i64 x.Order,.list 3 (List.map ab x.du),.int .i64 x.eP]
structure Kr where
 t:(Option Nat)
 r:Tree
 same:Bool
 ok:Bool
 deriving DecidableEq,Inhabited
def lY(fuel:Nat)(p0:ak)(y1:Int):Option ((Int)⊕((Unit)⊕((Bool)))):=
 bif (decide (y1<(p0.aq.length:Int)))then
  (idx p0.aq y1).bind λx2=>
  bif (x2 !=1)then
   (idx p0.aq y1).bind λx3=>
   bif (x3 !=2)then
    some (.inr (.inr false))
   else
    some (.inl (IntKind.wrap .i64 (y1+1)))
  else
   some (.inl (IntKind.wrap .i64 (y1+1)))
 else
  some (.inr (.inl ()))
def qd(fuel:Nat)(p0:ak):Option (Bool):=
 (iter (lY fuel p0) fuel 0).bind (Sum.elim (λv5=>
  bif (decide ((p0.aq.length:Int)>=1))then
   bif (decide ((p0.aq.length:Int)<=8))then
    some ((((p0.Down.length:Int)==(p0.aq.length:Int))&&(decide (p0.cW>=1)))&&(decide (p0.cW<=3)))
   else
    some false
  else
   some false) (λr6=>
  some r6))
def Nj:SV:=.box [.d (.dZ),.d (.bD),.d (.bD),vI 0,vI 0,.d (.bD),vI 0,vB false,vB false]
def qB:SV:=.box [.d (.bD),.d (.bD),vI 0,vI 0,.d (.bD),vI 0]
theorem wA(h:qd fuel p0=some r):PC Tryz.prog 45 [.d (bG p0)] (vB r):=by
 refine PC.bo Tryz.func45 rfl λH=>?_
 unfold qd at h
 exact SW.kk 54 H [(0,Z2 p0)]<|SW.t 1<|SW.seq<|SW.t 1<|SW.block<|bI h λz4 hit h=>SW.it 54 H [1,3] (λy1=>[(1,Z1 p0),(3,vI y1)]) (λb e s=>((∃v5,b=(.inl v5)/\(e=.exit 0/\s=(sp 54 [(1,Z1 p0)] H)))\/(∃r6,b=(.inr r6)/\(e=.ret/\bW Tryz.prog Tryz.f45.results.toList H (vB r6) .ret s)))) hit κ (λy1 o h=>by unfold lY at h;exact SW.seq<|SW.S<|aa.t 3<|aa.p (ax.len (enc:=(D.int .i64)) (xs:=p0.aq))<|aa.t 1<|aa.E<|SW.b h (λh=>SW.skip<|af<|SW.seq<|SW.block<|SW.S<|aa.t 3<|bI h λx2 hx h=>aa.p (s:=aI none (Go.Sh.D.cells ((D.int .i64) x2))) (ax.index (n:=1) hx)<|aa.s [] [1,3,17] 3<|aa.b2 (λb=>(sp 54 [(1,Z1 p0),(3,vI y1),(17,vB b)] H)) h (λh=>aa.t 3<|bI h λx3 hx h=>aa.p (s:=aI none (Go.Sh.D.cells ((D.int .i64) x3))) (ax.index (n:=1) hx)<|aa.t 3<|aa.E<|SW.b h (λh=>SW.t 1<|SW.ret<|az<|ag<|ag<|LR h (.inr (⟨false,rfl,rfl,bW.ret [] κ κ⟩))) (λh=>SW.skip<|aB<|af<|SW.al<|aa.t 3<|aa.D<|LQ h)) λh=>aa.t 7<|aa.E<|SW.N<|SW.skip<|aB<|af<|SW.al<|aa.t 3<|aa.D<|LQ h) (λh=>SW.kk 54 H [(1,Z1 p0)]<|SW.exit<|aG<|aG<|LR h (.inl ⟨(),rfl,rfl,rfl⟩))) (by rintro _ _ (⟨v5,rfl,rfl,rfl⟩|⟨r6,rfl,rfl,hE⟩);exact have h:=gd h;aM<|af<|SW.S<|aa.t 2<|aa.p (ax.len (enc:=(D.int .i64)) (xs:=p0.aq))<|aa.s [] [1,29] 2<|aa.b2 (λb=>(sp 54 [(1,Z1 p0),(29,vB b)] H)) h (λh=>aa.t 2<|aa.p (ax.len (enc:=(D.int .i64)) (xs:=p0.aq))<|aa.s [] [1,35] 3<|aa.b2 (λb=>(sp 54 [(1,Z1 p0),(35,vB b)] H)) h (λh=>aa.t 2<|aa.p (ax.len (enc:=D.bool) (xs:=p0.Down))<|aa.t 2<|aa.p (ax.len (enc:=(D.int .i64)) (xs:=p0.aq))<|aa.s [] [1,44] 3<|aa.mg 54 H [1,48] 4 ((p0.Down.length:Int)==(p0.aq.length:Int)) (λb=>(sp 54 [(1,Z1 p0),(44,vB b)] H)) (λb=>[(1,Z1 p0),(48,vB (b&&(decide (p0.cW>=1))))]) κ κ κ<|aa.s [] [1,49] 1<|aa.mg 54 H [53] 4 (((p0.Down.length:Int)==(p0.aq.length:Int))&&(decide (p0.cW>=1))) (λb=>(sp 54 [(1,Z1 p0),(49,vB b)] H)) (λb=>[(53,vB (b&&(decide (p0.cW<=3))))]) κ κ κ<|aa.t 1<|aa.E<|SW.ret<|iI h▸E0) λh=>aa.t 19<|aa.E<|SW.ret<|iI h▸E0) λh=>aa.t 25<|aa.E<|SW.ret<|iI h▸E0;exact have h:=gb h;az<|ag<|(by cases h;exact hE))
def yB(fuel:Nat)(p0:ak)(p1:Int):Option (Tree×Int):=
 (qd fuel p0).bind λr1=>
 bif (!r1)then
  some ((⟨(⟨([]:List Int),([]:List Bool),0⟩:ak),0,([]:List Entry),0⟩:Tree),1)
 else
  bif ((decide (p1<3))||(decide (p1>32)))then
   some ((⟨(⟨([]:List Int),([]:List Bool),0⟩:ak),0,([]:List Entry),0⟩:Tree),7)
  else
   some ((⟨p0,p1,([]:List Entry),0⟩:Tree),0)
def LF:SV:=.box [.d (.list 1 (List.map (D.int .i64) ([]:List Int))),.d (.bD),vI 0,vI 0,.d (.bD),vI 0]
def LD:SV:=.box [.d (.list 1 (List.map (D.int .i64) ([]:List Int))),.d (.list 1 (List.map D.bool ([]:List Bool))),vI 0,vI 0,.d (.bD),vI 0]
def LB:SV:=.box [.d (.list 1 (List.map (D.int .i64) ([]:List Int))),.d (.list 1 (List.map D.bool ([]:List Bool))),vI 0,vI 0,.d (.list 3 (List.map ab ([]:List Entry))),vI 0]
def On(x0:ak)(x1:Int):SV:=.box [.d (.list 1 (List.map (D.int .i64) x0.aq)),.d (.list 1 (List.map D.bool x0.Down)),vI x0.cW,vI x1,.d (.list 3 (List.map ab ([]:List Entry))),vI 0]
theorem Gw(h:yB fuel p0 p1=some r):PC Tryz.prog 34 [.d (bG p0),vI p1] (.gC [.d (.agg [.list 1 (List.map (D.int .i64) r.1.S.aq),.list 1 (List.map D.bool r.1.S.Down),.int .i64 r.1.S.cW,.int .i64 r.1.Order,.list 3 (List.map ab r.1.du),.int .i64 r.1.eP]),vI r.2]):=by
 refine PC.bo Tryz.func34 rfl λH=>?_
 unfold yB at h
 exact SW.kk 22 H [(0,Z2 p0),(1,vI p1)]<|SW.t 1<|SW.seq<|SW.block<|SW.S<|aa.t 1<|bI h λr1 hr h=>aa.d (wA hr)<|aa.t 2<|aa.E<|SW.b h (λh=>SW.r 1 [4,5]<|SW.nq 4 0 1 22 H [4,5] [(4,LF),(5,vI 1)] κ<|SW.nq 4 1 1 22 H [4,5] [(4,LD),(5,vI 1)] κ<|SW.nq 4 4 3 22 H [4,5] [(4,LB),(5,vI 1)] κ<|SW.ret<|az<|ag<|iI h▸E0) (λh=>SW.S<|aa.s [] [1,2,4,14] 3<|aa.mg 22 H [1,2,4,17] 3 (decide (p1<3)) (λb=>(sp 22 [(1,vI p1),(2,Z1 p0),(4,qB),(14,vB b)] H)) (λb=>[(1,vI p1),(2,Z1 p0),(4,qB),(17,vB (b||(decide (p1>32))))]) κ κ κ<|aa.t 1<|aa.E<|SW.b h (λh=>SW.r 1 [4,5]<|SW.nq 4 0 1 22 H [4,5] [(4,LF),(5,vI 7)] κ<|SW.nq 4 1 1 22 H [4,5] [(4,LD),(5,vI 7)] κ<|SW.nq 4 4 3 22 H [4,5] [(4,LB),(5,vI 7)] κ<|SW.ret<|az<|ag<|iI h▸E0) (λh=>SW.skip<|aB<|af<|SW.r 1 [4,5]<|SW.nq 4 4 3 22 H [4,5] [(4,On p0 p1),(5,vI 0)] κ<|SW.ret<|iI h▸E0))
def gm(fuel:Nat)(p0:Value):Option (Bool):=
 bif (p0.Kind==1)then
  some (((decide (p0.N>=(-1000000000)))&&(decide (p0.N<=1000000000)))&&(p0.S==[]))
 else
  bif ((p0.Kind==2)&&(p0.N==0))then
   some (decide ((p0.S.length:Int)<=40))
  else
   some false
def LA(x0:Tree×Int):SV:=.d (.agg [.list 1 (List.map (D.int .i64) x0.1.S.aq),.list 1 (List.map D.bool x0.1.S.Down),.int .i64 x0.1.S.cW,.int .i64 x0.1.Order,.list 3 (List.map ab x0.1.du),.int .i64 x0.1.eP])
def FJ(x0:Act):SV:=.box [vI x0.Kind,vI x0.Key,.d (.list 3 (List.map ah x0.Row)),.d (.list 3 (List.map ah x0.uj))]
def pV(x0:Tree):SV:=.box [.d (.list 1 (List.map (D.int .i64) x0.S.aq)),.d (.list 1 (List.map D.bool x0.S.Down)),vI x0.S.cW,vI x0.Order,.d (.list 3 (List.map ab x0.du)),vI x0.eP]
theorem sn(h:gm fuel p0=some r):PC Tryz.prog 101 [.d (ah p0)] (vB r):=by
 refine PC.bo Tryz.func101 rfl λH=>?_
 unfold gm at h
 exact SW.kk 33 H [(0,Dq p0)]<|SW.t 1<|SW.seq<|SW.t 1<|SW.b h (λh=>SW.S<|aa.s [] [1,9] 4<|aa.mg 33 H [1,13] 4 (decide (p0.N>=(-1000000000))) (λb=>(sp 33 [(1,Ez p0),(9,vB b)] H)) (λb=>[(1,Ez p0),(13,vB (b&&(decide (p0.N<=1000000000))))]) κ κ κ<|aa.s [] [1,14] 1<|aa.mg 33 H [18] 4 ((decide (p0.N>=(-1000000000)))&&(decide (p0.N<=1000000000))) (λb=>(sp 33 [(1,Ez p0),(14,vB b)] H)) (λb=>[(18,vB (b&&(p0.S==[])))]) κ κ κ<|aa.t 1<|aa.E<|SW.ret<|ag<|iI h▸E0) (λh=>SW.skip<|af<|SW.S<|aa.s [] [1,22] 4<|aa.mg 33 H [1,26] 4 (p0.Kind==2) (λb=>(sp 33 [(1,Ez p0),(22,vB b)] H)) (λb=>[(1,Ez p0),(26,vB (b&&(p0.N==0)))]) κ κ κ<|aa.s [] [1,27] 1<|aa.b2 (λb=>(sp 33 [(1,Ez p0),(27,vB b)] H)) h (λh=>aa.t 2<|aa.t 1<|aa.t 3<|aa.E<|SW.ret<|iI h▸E0) λh=>aa.t 6<|aa.E<|SW.ret<|iI h▸E0)
def fJ(fuel:Nat)(p0:(List Value))(y1:Int):Option ((Int)⊕((Unit)⊕((Bool)))):=
 bif (decide (y1<(p0.length:Int)))then
  (idx p0 y1).bind λx2=>
  (gm fuel x2).bind λr3=>
  bif (!r3)then
   some (.inr (.inr false))
  else
   some (.inl (IntKind.wrap .i64 (y1+1)))
 else
  some (.inr (.inl ()))
def jB(fuel:Nat)(p0:(List Value)):Option (Bool):=
 (iter (fJ fuel p0) fuel 0).bind (Sum.elim (λv5=>
  some (decide ((p0.length:Int)<=8))) (λr6=>
  some r6))
theorem vj(h:jB fuel p0=some r):PC Tryz.prog 82 [.d (.list 3 (List.map ah p0))] (vB r):=by
 refine PC.bo Tryz.func82 rfl λH=>?_
 unfold jB at h
 exact SW.kk 19 H [(0,Z9 p0)]<|SW.t 1<|SW.seq<|SW.t 1<|SW.block<|bI h λz4 hit h=>SW.it 19 H [0,3] (λy1=>[(0,Z9 p0),(3,vI y1)]) (λb e s=>((∃v5,b=(.inl v5)/\(e=.exit 0/\s=(sp 19 [(0,Z9 p0)] H)))\/(∃r6,b=(.inr r6)/\(e=.ret/\bW Tryz.prog Tryz.f82.results.toList H (vB r6) .ret s)))) hit κ (λy1 o h=>by unfold fJ at h;exact SW.seq<|SW.S<|aa.t 2<|aa.p (ax.len (enc:=ah) (xs:=p0))<|aa.t 1<|aa.E<|SW.b h (λh=>SW.skip<|af<|SW.seq<|SW.block<|SW.S<|aa.t 2<|bI h λx2 hx h=>aa.p (s:=aI none (Go.Sh.D.cells (ah x2))) (ax.index (n:=3) hx)<|aa.t 1<|bI h λr3 hr h=>aa.d (sn hr)<|aa.t 1<|aa.E<|SW.b h (λh=>SW.t 1<|SW.ret<|az<|ag<|ag<|LR h (.inr (⟨false,rfl,rfl,bW.ret [] κ κ⟩))) (λh=>SW.skip<|aB<|af<|SW.al<|aa.t 3<|aa.D<|LQ h)) (λh=>SW.kk 19 H [(0,Z9 p0)]<|SW.exit<|aG<|aG<|LR h (.inl ⟨(),rfl,rfl,rfl⟩))) (by rintro _ _ (⟨v5,rfl,rfl,rfl⟩|⟨r6,rfl,rfl,hE⟩);exact have h:=gd h;aM<|af<|SW.S<|aa.t 1<|aa.p (ax.len (enc:=ah) (xs:=p0))<|aa.t 2<|aa.E<|SW.ret<|iI h▸E0;exact have h:=gb h;az<|ag<|(by cases h;exact hE))
def pf(fuel:Nat)(p0:ak)(p1:(List Value))(y4:Int):Option ((Int)⊕((Unit)⊕((Bool)))):=
 bif (decide (y4<(p1.length:Int)))then
  (idx p1 y4).bind λx5=>
  (idx p0.aq y4).bind λx6=>
  bif (x5.Kind !=x6)then
   some (.inr (.inr false))
  else
   some (.inl (IntKind.wrap .i64 (y4+1)))
 else
  some (.inr (.inl ()))
def oH(fuel:Nat)(p0:ak)(p1:(List Value)):Option (Bool):=
 aP (λ(j1:Bool)=>
  bif j1 then
   some false
  else
   (iter (pf fuel p0 p1) fuel 0).bind (Sum.elim (λv8=>
    some true) (λr9=>
    some r9))) λjp2=>
 (jB fuel p1).bind λr3=>
 bif (!r3)then
  jp2 true
 else
  jp2 ((p1.length:Int) !=(p0.aq.length:Int))
theorem pe(h:oH fuel p0 p1=some r):PC Tryz.prog 53 [.d (bG p0),.d (.list 3 (List.map ah p1))] (vB r):=by
 refine PC.bo Tryz.func53 rfl λH=>?_
 unfold oH at h
 exact SW.kk 34 H [(0,Z2 p0),(1,Z9 p1)]<|SW.t 1<|SW.seq<|SW.J 34 H [1,2,16] (λ(j1:Bool)=>[(1,Z9 p1),(2,Z1 p0),(16,vB j1)]) h (λj1 h=>SW.b h (λh=>SW.t 1<|SW.ret<|ag<|iI h▸E0) (λh=>SW.skip<|af<|SW.seq<|SW.t 1<|SW.block<|bI h λz7 hit h=>SW.it 34 H [1,2,5] (λy4=>[(1,Z9 p1),(2,Z1 p0),(5,vI y4)]) (λb e s=>((∃v8,b=(.inl v8)/\(e=.exit 0/\s=(sp 34 [] H)))\/(∃r9,b=(.inr r9)/\(e=.ret/\bW Tryz.prog Tryz.f53.results.toList H (vB r9) .ret s)))) hit κ (λy4 o h=>by unfold pf at h;exact SW.seq<|SW.S<|aa.t 2<|aa.p (ax.len (enc:=ah) (xs:=p1))<|aa.t 1<|aa.E<|SW.b h (λh=>SW.skip<|af<|SW.seq<|SW.block<|SW.seq<|SW.V<|bb.t 2<|bI h λx5 hx h=>bb.p (s:=aI none (Go.Sh.D.cells (ah x5))) (ax.index (n:=3) hx)<|bb.t 5<|bI h λx6 hx h=>bb.p (s:=aI none (Go.Sh.D.cells ((D.int .i64) x6))) (ax.index (n:=1) hx)<|bb.t 2<|bb.D<|af<|SW.b h (λh=>SW.t 1<|SW.ret<|az<|ag<|ag<|LR h (.inr (⟨false,rfl,rfl,bW.ret [] κ κ⟩))) (λh=>SW.skip<|aB<|af<|SW.al<|aa.t 3<|aa.D<|LQ h)) (λh=>SW.kk 34 H []<|SW.exit<|aG<|aG<|LR h (.inl ⟨(),rfl,rfl,rfl⟩))) (by rintro _ _ (⟨v8,rfl,rfl,rfl⟩|⟨r9,rfl,rfl,hE⟩);exact have h:=gd h;aM<|af<|SW.t 1<|SW.ret<|iI h▸E0;exact have h:=gb h;az<|ag<|(by cases h;exact hE)))) λjp2 h=>SW.al<|aa.t 1<|bI h λr3 hr h=>aa.d (vj hr)<|aa.s [] [1,2,9] 2<|aa.b2 (λb=>(sp 34 [(1,Z9 p1),(2,Z1 p0),(9,vB b)] H)) h (λh=>aa.t 7<|aa.D<|JQ [] h) λh=>aa.t 1<|aa.p (ax.len (enc:=ah) (xs:=p1))<|aa.t 2<|aa.p (ax.len (enc:=(D.int .i64)) (xs:=p0.aq))<|aa.t 2<|aa.D<|JQ [] h
def sh(fuel:Nat)(p0:Int):Option (Bool):=
 some ((decide (p0>=1))&&(decide (p0<=1000000)))
theorem sf(h:sh fuel p0=some r):PC Tryz.prog 56 [vI p0] (vB r):=by
 refine PC.bo Tryz.func56 rfl λH=>?_
 unfold sh at h
 exact SW.kk 9 H [(0,vI p0)]<|SW.t 1<|SW.S<|aa.s [] [0,5] 3<|aa.mg 9 H [8] 3 (decide (p0>=1)) (λb=>(sp 9 [(0,vI p0),(5,vB b)] H)) (λb=>[(8,vB (b&&(decide (p0<=1000000))))]) κ κ κ<|aa.t 1<|aa.E<|SW.ret<|iI h▸E0
def ma(fuel:Nat)(p0:Int)(p1:Int):Option (Int):=
 bif (decide (p0<p1))then
  some (-1)
 else
  bif (decide (p0>p1))then
   some 1
  else
   some 0
def s8(x0:Tree):SV:=.d (.agg [.list 1 (List.map (D.int .i64) x0.S.aq),.list 1 (List.map D.bool x0.S.Down),.int .i64 x0.S.cW,.int .i64 x0.Order,.list 3 (List.map ab x0.du),.int .i64 x0.eP])
def xY(x0:Tree):SV:=.d (.list 3 (List.map ab x0.du))
theorem pg(h:ma fuel p0 p1=some r):PC Tryz.prog 95 [vI p0,vI p1] (vI r):=by
 refine PC.bo Tryz.func95 rfl λH=>?_
 unfold ma at h
 exact SW.kk 13 H [(0,vI p0),(1,vI p1)]<|SW.t 1<|SW.seq<|SW.block<|SW.t 1<|SW.b h (λh=>SW.t 1<|SW.ret<|az<|ag<|iI h▸E0) (λh=>SW.t 1<|SW.b h (λh=>SW.t 1<|SW.ret<|az<|ag<|iI h▸E0) (λh=>SW.skip<|aB<|af<|SW.t 1<|SW.ret<|iI h▸E0))
def nm(fuel:Nat)(p0:Int):Option (Int):=
 bif (decide (p0<0))then
  some (-1)
 else
  bif (decide (p0>0))then
   some 1
  else
   some 0
theorem uE(h:nm fuel p0=some r):PC Tryz.prog 114 [vI p0] (vI r):=by
 refine PC.bo Tryz.func114 rfl λH=>?_
 unfold nm at h
 exact SW.kk 9 H [(0,vI p0)]<|SW.t 1<|SW.seq<|SW.block<|SW.t 1<|SW.b h (λh=>SW.t 1<|SW.ret<|az<|ag<|iI h▸E0) (λh=>SW.t 1<|SW.b h (λh=>SW.t 1<|SW.ret<|az<|ag<|iI h▸E0) (λh=>SW.skip<|aB<|af<|SW.t 1<|SW.ret<|iI h▸E0))
def jA(fuel:Nat)(p0:(List UInt8))(p1:(List UInt8))(y1:Int):Option ((Int)⊕((Unit)⊕((Int)))):=
 aP (λ(j2:Bool)=>
  bif j2 then
   (idx p0 y1).bind λb4=>
   (idx p1 y1).bind λb5=>
   bif ((b4.toNat:Int) !=(b5.toNat:Int))then
    (idx p0 y1).bind λb6=>
    (idx p1 y1).bind λb7=>
    (nm fuel (IntKind.wrap .i64 ((IntKind.wrap .i64 (b6.toNat:Int)) - (IntKind.wrap .i64 (b7.toNat:Int))))).bind λr8=>
    some (.inr (.inr r8))
   else
    some (.inl (IntKind.wrap .i64 (y1+1)))
  else
   some (.inr (.inl ()))) λjp3=>
 bif (decide (y1<(p0.length:Int)))then
  jp3 (decide (y1<(p1.length:Int)))
 else
  jp3 false
def nk(fuel:Nat)(p0:(List UInt8))(p1:(List UInt8)):Option (Int):=
 (iter (jA fuel p0 p1) fuel 0).bind (Sum.elim (λv10=>
  (nm fuel (IntKind.wrap .i64 ((p0.length:Int) - (p1.length:Int)))).bind λr11=>
  some r11) (λr12=>
  some r12))
theorem zF(h:nk fuel p0 p1=some r):PC Tryz.prog 102 [vS p0,vS p1] (vI r):=by
 refine PC.bo Tryz.func102 rfl λH=>?_
 unfold nk at h
 exact SW.kk 41 H [(0,vS p0),(1,vS p1)]<|SW.t 1<|SW.seq<|SW.t 1<|SW.block<|bI h λz9 hit h=>SW.it 41 H [0,1,5] (λy1=>[(0,vS p0),(1,vS p1),(5,vI y1)]) (λb e s=>((∃v10,b=(.inl v10)/\(e=.exit 0/\s=(sp 41 [(0,vS p0),(1,vS p1)] H)))\/(∃r12,b=(.inr r12)/\(e=.ret/\bW Tryz.prog Tryz.f102.results.toList H (vI r12) .ret s)))) hit κ (λy1 o h=>by unfold jA at h;exact SW.seq<|SW.J 41 H [0,1,5,15] (λ(j2:Bool)=>[(0,vS p0),(1,vS p1),(5,vI y1),(15,vB j2)]) h (λj2 h=>SW.b h (λh=>SW.skip<|af<|SW.seq<|SW.block<|SW.seq<|SW.V<|bb.t 2<|bI h λb4 hx h=>bb.p (ax.zT hx)<|bb.t 2<|bI h λb5 hx h=>bb.p (ax.zT hx)<|bb.t 1<|bb.D<|af<|SW.b h (λh=>SW.seq<|SW.qq<|aA.t 2<|bI h λb6 hx h=>aA.p (ax.zT hx)<|aA.t 3<|bI h λb7 hx h=>aA.p (ax.zT hx)<|aA.t 2<|bI h λr8 hr h=>aA.d (uE hr)<|aA.t 1<|aA.D<|af<|SW.ret<|az<|ag<|ag<|LR h (.inr (⟨r8,rfl,rfl,bW.ret [] κ κ⟩))) (λh=>SW.skip<|aB<|af<|SW.al<|aa.t 3<|aa.D<|LQ h)) (λh=>SW.K [(0,vS p0),(1,vS p1)]<|SW.exit<|aG<|aG<|LR h (.inl ⟨(),rfl,rfl,rfl⟩))) λjp3 h=>SW.al<|aa.t 2<|aa.t 1<|aa.s [] [0,1,5,10] 2<|aa.b2 (λb=>(sp 41 [(0,vS p0),(1,vS p1),(5,vI y1),(10,vB b)] H)) h (λh=>aa.t 2<|aa.t 1<|aa.t 2<|aa.D<|JQ [] h) λh=>aa.t 5<|aa.D<|JQ [] h) (by rintro _ _ (⟨v10,rfl,rfl,rfl⟩|⟨r12,rfl,rfl,hE⟩);exact have h:=gd h;aM<|af<|SW.S<|aa.t 1<|aa.t 1<|aa.t 1<|aa.t 1<|aa.t 1<|bI h λr11 hr h=>aa.d (uE hr)<|aa.t 1<|aa.E<|SW.ret<|iI h▸E0;exact have h:=gb h;az<|ag<|(by cases h;exact hE))
def ja(fuel:Nat)(p0:Value)(p1:Value):Option (Int):=
 (ma fuel p0.Kind p1.Kind).bind λr1=>
 bif (r1 !=0)then
  some r1
 else
  (ma fuel p0.N p1.N).bind λr2=>
  bif (r2 !=0)then
   some r2
  else
   (nk fuel p0.S p1.S).bind λr3=>
   some r3
theorem ph(h:ja fuel p0 p1=some r):PC Tryz.prog 83 [.d (ah p0),.d (ah p1)] (vI r):=by
 refine PC.bo Tryz.func83 rfl λH=>?_
 unfold ja at h
 exact SW.kk 28 H [(0,Dq p0),(1,Dq p1)]<|SW.t 1<|SW.seq<|SW.S<|aa.t 4<|bI h λr1 hr h=>aa.d (pg hr)<|aa.t 1<|aa.E<|SW.t 1<|SW.b h (λh=>SW.t 1<|SW.ret<|ag<|iI h▸E0) (λh=>SW.skip<|af<|SW.seq<|SW.S<|aa.t 4<|bI h λr2 hr h=>aa.d (pg hr)<|aa.t 1<|aa.E<|SW.t 1<|SW.b h (λh=>SW.t 1<|SW.ret<|ag<|iI h▸E0) (λh=>SW.skip<|af<|SW.S<|aa.t 4<|bI h λr3 hr h=>aa.d (zF hr)<|aa.t 1<|aa.E<|SW.ret<|iI h▸E0))
def bF(fuel:Nat)(p0:(List Value))(p1:(List Value))(y1:Int):Option ((Int)⊕((Unit)⊕((Int)))):=
 aP (λ(j2:Bool)=>
  bif j2 then
   (idx p0 y1).bind λx4=>
   (idx p1 y1).bind λx5=>
   (ja fuel x4 x5).bind λr6=>
   bif (r6 !=0)then
    some (.inr (.inr r6))
   else
    some (.inl (IntKind.wrap .i64 (y1+1)))
  else
   some (.inr (.inl ()))) λjp3=>
 bif (decide (y1<(p0.length:Int)))then
  jp3 (decide (y1<(p1.length:Int)))
 else
  jp3 false
def ew(fuel:Nat)(p0:(List Value))(p1:(List Value)):Option (Int):=
 (iter (bF fuel p0 p1) fuel 0).bind (Sum.elim (λv8=>
  (ma fuel (p0.length:Int) (p1.length:Int)).bind λr9=>
  some r9) (λr10=>
  some r10))
theorem rq(h:ew fuel p0 p1=some r):PC Tryz.prog 77 [.d (.list 3 (List.map ah p0)),.d (.list 3 (List.map ah p1))] (vI r):=by
 refine PC.bo Tryz.func77 rfl λH=>?_
 unfold ew at h
 exact SW.kk 36 H [(0,Z9 p0),(1,Z9 p1)]<|SW.t 1<|SW.seq<|SW.t 1<|SW.block<|bI h λz7 hit h=>SW.it 36 H [0,1,5] (λy1=>[(0,Z9 p0),(1,Z9 p1),(5,vI y1)]) (λb e s=>((∃v8,b=(.inl v8)/\(e=.exit 0/\s=(sp 36 [(0,Z9 p0),(1,Z9 p1)] H)))\/(∃r10,b=(.inr r10)/\(e=.ret/\bW Tryz.prog Tryz.f77.results.toList H (vI r10) .ret s)))) hit κ (λy1 o h=>by unfold bF at h;exact SW.seq<|SW.J 36 H [0,1,5,16] (λ(j2:Bool)=>[(0,Z9 p0),(1,Z9 p1),(5,vI y1),(16,vB j2)]) h (λj2 h=>SW.b h (λh=>SW.skip<|af<|SW.seq<|SW.block<|SW.seq<|SW.qq<|aA.t 2<|bI h λx4 hx h=>aA.p (s:=aI none (Go.Sh.D.cells (ah x4))) (ax.index (n:=3) hx)<|aA.t 3<|bI h λx5 hx h=>aA.p (s:=aI none (Go.Sh.D.cells (ah x5))) (ax.index (n:=3) hx)<|aA.t 1<|bI h λr6 hr h=>aA.d (ph hr)<|aA.t 1<|aA.D<|af<|SW.t 1<|SW.b h (λh=>SW.t 1<|SW.ret<|az<|ag<|ag<|LR h (.inr (⟨r6,rfl,rfl,bW.ret [] κ κ⟩))) (λh=>SW.skip<|aB<|af<|SW.al<|aa.t 3<|aa.D<|LQ h)) (λh=>SW.K [(0,Z9 p0),(1,Z9 p1)]<|SW.exit<|aG<|aG<|LR h (.inl ⟨(),rfl,rfl,rfl⟩))) λjp3 h=>SW.al<|aa.t 2<|aa.p (ax.len (enc:=ah) (xs:=p0))<|aa.s [] [0,1,5,11] 2<|aa.b2 (λb=>(sp 36 [(0,Z9 p0),(1,Z9 p1),(5,vI y1),(11,vB b)] H)) h (λh=>aa.t 2<|aa.p (ax.len (enc:=ah) (xs:=p1))<|aa.t 2<|aa.D<|JQ [] h) λh=>aa.t 5<|aa.D<|JQ [] h) (by rintro _ _ (⟨v8,rfl,rfl,rfl⟩|⟨r10,rfl,rfl,hE⟩);exact have h:=gd h;aM<|af<|SW.S<|aa.t 1<|aa.p (ax.len (enc:=ah) (xs:=p0))<|aa.t 1<|aa.p (ax.len (enc:=ah) (xs:=p1))<|bI h λr9 hr h=>aa.d (pg hr)<|aa.t 1<|aa.E<|SW.ret<|iI h▸E0;exact have h:=gb h;az<|ag<|(by cases h;exact hE))
def hZ(fuel:Nat)(p0:(List Value))(p1:(List Value)):Option (Bool):=
 (ew fuel p0 p1).bind λr1=>
 some (r1==0)
theorem mC(h:hZ fuel p0 p1=some r):PC Tryz.prog 49 [.d (.list 3 (List.map ah p0)),.d (.list 3 (List.map ah p1))] (vB r):=by
 refine PC.bo Tryz.func49 rfl λH=>?_
 unfold hZ at h
 exact SW.kk 9 H [(0,Z9 p0),(1,Z9 p1)]<|SW.t 1<|SW.S<|aa.t 2<|bI h λr1 hr h=>aa.d (rq hr)<|aa.t 2<|aa.E<|SW.ret<|iI h▸E0
def fN(fuel:Nat)(p0:Tree)(p1:(List Value))(y1:Int):Option ((Int)⊕((Unit)⊕((Bool)))):=
 bif (decide (y1<(p0.du.length:Int)))then
  (idx p0.du y1).bind λx2=>
  (hZ fuel x2.Row p1).bind λr3=>
  bif r3 then
   some (.inr (.inr true))
  else
   some (.inl (IntKind.wrap .i64 (y1+1)))
 else
  some (.inr (.inl ()))
def lZ(fuel:Nat)(p0:Tree)(p1:(List Value)):Option (Bool):=
 (iter (fN fuel p0 p1) fuel 0).bind (Sum.elim (λv5=>
  some false) (λr6=>
  some r6))
def Io(x0:Tree):SV:=vI (x0.du.length:Int)
theorem xP(h:lZ fuel p0 p1=some r):PC Tryz.prog 64 [.d (lC p0),.d (.list 3 (List.map ah p1))] (vB r):=by
 refine PC.bo Tryz.func64 rfl λH=>?_
 unfold lZ at h
 exact SW.kk 21 H [(0,s8 p0),(1,Z9 p1)]<|SW.t 1<|SW.seq<|SW.t 1<|SW.block<|bI h λz4 hit h=>SW.it 21 H [1,2,5] (λy1=>[(1,Z9 p1),(2,pV p0),(5,vI y1)]) (λb e s=>((∃v5,b=(.inl v5)/\(e=.exit 0/\s=(sp 21 [] H)))\/(∃r6,b=(.inr r6)/\(e=.ret/\bW Tryz.prog Tryz.f64.results.toList H (vB r6) .ret s)))) hit κ (λy1 o h=>by unfold fN at h;exact SW.seq<|SW.S<|aa.t 3<|aa.p (ax.len (enc:=ab) (xs:=p0.du))<|aa.t 1<|aa.E<|SW.b h (λh=>SW.skip<|af<|SW.seq<|SW.block<|SW.S<|aa.t 3<|bI h λx2 hx h=>aa.p (s:=aI none (Go.Sh.D.cells (ab x2))) (ax.index (n:=3) hx)<|aa.t 3<|bI h λr3 hr h=>aa.d (mC hr)<|aa.E<|SW.b h (λh=>SW.t 1<|SW.ret<|az<|ag<|ag<|LR h (.inr (⟨true,rfl,rfl,bW.ret [] κ κ⟩))) (λh=>SW.skip<|aB<|af<|SW.al<|aa.t 3<|aa.D<|LQ h)) (λh=>SW.kk 21 H []<|SW.exit<|aG<|aG<|LR h (.inl ⟨(),rfl,rfl,rfl⟩))) (by rintro _ _ (⟨v5,rfl,rfl,rfl⟩|⟨r6,rfl,rfl,hE⟩);exact have h:=gd h;aM<|af<|SW.t 1<|SW.ret<|iI h▸E0;exact have h:=gb h;az<|ag<|(by cases h;exact hE))
def l7(fuel:Nat)(p0:ak)(p1:(List Value))(p2:(List Value))(y1:Int):Option ((Int)⊕((Unit)⊕((Int)))):=
 bif (decide (y1<(p1.length:Int)))then
  (idx p1 y1).bind λx2=>
  (idx p2 y1).bind λx3=>
  (ja fuel x2 x3).bind λr4=>
  (idx p0.Down y1).bind λx5=>
  bif x5 then
   bif ((IntKind.wrap .i64 (0 - r4)) !=0)then
    some (.inr (.inr (IntKind.wrap .i64 (0 - r4))))
   else
    some (.inl (IntKind.wrap .i64 (y1+1)))
  else
   bif (r4 !=0)then
    some (.inr (.inr r4))
   else
    some (.inl (IntKind.wrap .i64 (y1+1)))
 else
  some (.inr (.inl ()))
def qe(fuel:Nat)(p0:ak)(p1:(List Value))(p2:(List Value)):Option (Int):=
 (iter (l7 fuel p0 p1 p2) fuel 0).bind (Sum.elim (λv7=>
  some 0) (λr8=>
  some r8))
def Ni(x0:Tree):SV:=.box [.d (.list 1 (List.map (D.int .i64) x0.S.aq)),.d (.list 1 (List.map D.bool x0.S.Down)),vI x0.S.cW,vI x0.Order,.d (.list 3 (List.map ab x0.du)),vI (IntKind.wrap .i64 (x0.eP+1))]
def Om(x0:Tree):SV:=vI (IntKind.wrap .i64 (x0.eP+1))
theorem wE(h:qe fuel p0 p1 p2=some r):PC Tryz.prog 54 [.d (bG p0),.d (.list 3 (List.map ah p1)),.d (.list 3 (List.map ah p2))] (vI r):=by
 refine PC.bo Tryz.func54 rfl λH=>?_
 unfold qe at h
 exact SW.kk 34 H [(0,Z2 p0),(1,Z9 p1),(2,Z9 p2)]<|SW.t 1<|SW.seq<|SW.t 1<|SW.block<|bI h λz6 hit h=>SW.it 34 H [1,2,3,7] (λy1=>[(1,Z9 p1),(2,Z9 p2),(3,Z1 p0),(7,vI y1)]) (λb e s=>((∃v7,b=(.inl v7)/\(e=.exit 0/\s=(sp 34 [] H)))\/(∃r8,b=(.inr r8)/\(e=.ret/\bW Tryz.prog Tryz.f54.results.toList H (vI r8) .ret s)))) hit κ (λy1 o h=>by unfold l7 at h;exact SW.seq<|SW.S<|aa.t 2<|aa.p (ax.len (enc:=ah) (xs:=p1))<|aa.t 1<|aa.E<|SW.b h (λh=>SW.skip<|af<|SW.seq<|SW.block<|SW.seq<|SW.qq<|aA.t 2<|bI h λx2 hx h=>aA.p (s:=aI none (Go.Sh.D.cells (ah x2))) (ax.index (n:=3) hx)<|aA.t 3<|bI h λx3 hx h=>aA.p (s:=aI none (Go.Sh.D.cells (ah x3))) (ax.index (n:=3) hx)<|aA.t 1<|bI h λr4 hr h=>aA.d (ph hr)<|aA.t 1<|aA.D<|af<|SW.seq<|SW.S<|aa.t 3<|bI h λx5 hx h=>aa.p (s:=aI none (Go.Sh.D.cells (D.bool x5))) (ax.index (n:=1) hx)<|aa.t 1<|aa.E<|SW.b h (λh=>SW.al<|aa.t 3<|aa.E<|SW.t 1<|SW.b h (λh=>SW.t 1<|SW.ret<|az<|ag<|ag<|LR h (.inr (⟨(IntKind.wrap .i64 (0 - r4)),rfl,rfl,bW.ret [] κ κ⟩))) (λh=>SW.skip<|aB<|af<|SW.al<|aa.t 3<|aa.D<|LQ h)) (λh=>SW.skip<|af<|SW.t 1<|SW.b h (λh=>SW.t 1<|SW.ret<|az<|ag<|ag<|LR h (.inr (⟨r4,rfl,rfl,bW.ret [] κ κ⟩))) (λh=>SW.skip<|aB<|af<|SW.al<|aa.t 3<|aa.D<|LQ h))) (λh=>SW.kk 34 H []<|SW.exit<|aG<|aG<|LR h (.inl ⟨(),rfl,rfl,rfl⟩))) (by rintro _ _ (⟨v7,rfl,rfl,rfl⟩|⟨r8,rfl,rfl,hE⟩);exact have h:=gd h;aM<|af<|SW.t 1<|SW.ret<|iI h▸E0;exact have h:=gb h;az<|ag<|(by cases h;exact hE))
def nj(fuel:Nat)(p0:ak)(p1:Entry)(p2:Entry):Option (Bool):=
 (qe fuel p0 p1.Row p2.Row).bind λr1=>
 bif (r1 !=0)then
  some (decide (r1<0))
 else
  bif (p0.cW==2)then
   some (decide (p1.Number>p2.Number))
  else
   some (decide (p1.Number<p2.Number))
theorem uC(h:nj fuel p0 p1 p2=some r):PC Tryz.prog 89 [.d (bG p0),.d (ab p1),.d (ab p2)] (vB r):=by
 refine PC.bo Tryz.func89 rfl λH=>?_
 unfold nj at h
 exact SW.kk 31 H [(0,Z2 p0),(1,kY p1),(2,kY p2)]<|SW.t 1<|SW.seq<|SW.S<|aa.t 5<|bI h λr1 hr h=>aa.d (wE hr)<|aa.t 1<|aa.E<|SW.t 1<|SW.b h (λh=>SW.t 1<|SW.ret<|ag<|iI h▸E0) (λh=>SW.skip<|af<|SW.seq<|SW.t 1<|SW.b h (λh=>SW.t 1<|SW.ret<|ag<|iI h▸E0) (λh=>SW.skip<|af<|SW.t 1<|SW.ret<|iI h▸E0))
def gk(fuel:Nat)(p0:Tree)(p1:Entry)(y1:Int):Option ((Int)⊕(Int)):=
 bif (decide (y1<(p0.du.length:Int)))then
  (idx p0.du y1).bind λx2=>
  (nj fuel p0.S x2 p1).bind λr3=>
  bif r3 then
   some (.inl (IntKind.wrap .i64 (y1+1)))
  else
   some (.inr y1)
 else
  some (.inr y1)
def iZ(fuel:Nat)(p0:Tree)(p1:Entry):Option (Tree):=
 (iter (gk fuel p0 p1) fuel 0).bind λv5=>
 dx (kn p0.du 0 v5)<|
 dx (decide ((([]:List Entry)++(sl p0.du 0 v5)).length<=room))<|
 dx (decide (((([]:List Entry)++(sl p0.du 0 v5))++[p1]).length<=room))<|
 dx (kn p0.du v5 (p0.du.length:Int))<|
 dx (decide ((((([]:List Entry)++(sl p0.du 0 v5))++[p1])++(sl p0.du v5 (p0.du.length:Int))).length<=room))<|
 some (⟨p0.S,p0.Order,(((([]:List Entry)++(sl p0.du 0 v5))++[p1])++(sl p0.du v5 (p0.du.length:Int))),p0.eP⟩:Tree)
def Ol(x0:Tree)(x1:Int)(x2:Entry):SV:=.box [.d (.list 1 (List.map (D.int .i64) x0.S.aq)),.d (.list 1 (List.map D.bool x0.S.Down)),vI x0.S.cW,vI x0.Order,.d (.list 3 (List.map ab (((([]:List Entry)++(sl x0.du 0 x1))++[x2])++(sl x0.du x1 (x0.du.length:Int))))),vI x0.eP]
def Ok(x0:Tree)(x1:Int):SV:=.d (.list 3 (List.map ab (sl x0.du 0 x1)))
def K51:=λa0 a1 a2 (t:SL)=>((2,pV a0)::(3,jQ a1)::(4,qB)::(5,vI a2)::t:SL)
theorem wC(h:iZ fuel p0 p1=some r):PC Tryz.prog 65 [.d (lC p0),.d (ab p1)] (.d (.agg [.list 1 (List.map (D.int .i64) r.S.aq),.list 1 (List.map D.bool r.S.Down),.int .i64 r.S.cW,.int .i64 r.Order,.list 3 (List.map ab r.du),.int .i64 r.eP])):=by
 refine PC.bo Tryz.func65 rfl λH=>?_
 unfold iZ at h
 exact SW.kk 40 H [(0,s8 p0),(1,kY p1)]<|SW.t 2<|SW.seq<|SW.block<|bI h λv5 hit h=>SW.it 40 H [2,3,4,5] (λy1=>(K51 p0 p1 y1 [])) (λv5 e s=>(e=.exit 0/\s=(sp 40 (K51 p0 p1 v5 []) H))) hit κ (λy1 o h=>by unfold gk at h;exact SW.seq<|SW.seq<|SW.qq<|aA.t 3<|aA.p (ax.len (enc:=ab) (xs:=p0.du))<|aA.s [] [2,3,4,5,11] 2<|aA.b2 (λb=>(sp 40 (K51 p0 p1 y1 [(11,vB b)]) H)) h (λh=>aA.t 5<|bI h λx2 hx h=>aA.p (s:=aI none (Go.Sh.D.cells (ab x2))) (ax.index (n:=3) hx)<|aA.t 2<|bI h λr3 hr h=>aA.d (uC hr)<|aA.t 1<|aA.D<|af<|SW.b h (λh=>SW.skip<|af<|SW.block<|SW.al<|aa.t 3<|aa.D<|aB<|LQ h) (λh=>SW.kk 40 H (K51 p0 p1 y1 [])<|SW.exit<|aG<|aG<|LR h ⟨rfl,rfl⟩)) λh=>aA.t 10<|aA.D<|af<|SW.N<|SW.kk 40 H (K51 p0 p1 y1 [])<|SW.exit<|aG<|aG<|LR h ⟨rfl,rfl⟩) (by rintro _ _ ⟨rfl,rfl⟩;exact aM<|af<|SW.seq<|lj h λhk6 h=>lj h λhk7 h=>lj h λhk8 h=>lj h λhk9 h=>lj h λhk10 h=>SW.kk 40 H (K51 p0 p1 v5 [])<|SW.qG 40 H [(2,Ol p0 v5 p1),(4,qB)] [3,11,1,2,4] 11 2078 κ κ κ (λX hX=>by subst hX;exact au.t<|au.t<|au.t<|au.t<|au.on 40 H (d:=some 28) (s:=kT none 3 (List.map ab (sl p0.du 0 v5))) [2,3,4,28,35] [(2,pV p0),(3,jQ p1),(4,qB),(28,Ok p0 v5),(35,vI v5)] (ax.slice hk6) κ<|au.D<|OX.auto [24,29,32] [(5,eA 24 3 (List.map ab (([]:List Entry)++(sl p0.du 0 v5)))),(8,eA 29 3 (List.map ab ((([]:List Entry)++(sl p0.du 0 v5))++[p1]))),(12,eV (kT none 3 (List.map ab (sl p0.du v5 (p0.du.length:Int))))),(13,eA 32 3 (List.map ab (((([]:List Entry)++(sl p0.du 0 v5))++[p1])++(sl p0.du v5 (p0.du.length:Int))))),(15,eF 37)] ⟨EV.a (aS) (bx hk7),EV.a (aS) (bx hk8),EV.slice hk9,EV.a (aS) (bx hk10),EV.z,trivial⟩) (af<|SW.t 1<|SW.ret<|iI h▸E0))
def fO(fuel:Nat)(p0:Tree)(p1:(List Value))(p2:Int):Option (Tree×Int×Int):=
 aP (λ(j1:Unit)=>
  dx (decide ((([]:List Value)++p1).length<=room))<|
  (iZ fuel (⟨p0.S,p0.Order,p0.du,(IntKind.wrap .i64 (p0.eP+1))⟩:Tree) (⟨(([]:List Value)++p1),p2,(IntKind.wrap .i64 (p0.eP+1))⟩:Entry)).bind λr9=>
  some (r9,(IntKind.wrap .i64 (p0.eP+1)),0)) λjp2=>
 aP (λ(j3:Bool)=>
  bif j3 then
   some (p0,0,1)
  else
   bif (p0.S.cW==1)then
    (lZ fuel p0 p1).bind λr7=>
    bif r7 then
     some (p0,0,6)
    else
     bif ((p0.du.length:Int)==500)then
      some (p0,0,4)
     else
      jp2 ()
   else
    bif ((p0.du.length:Int)==500)then
     some (p0,0,4)
    else
     jp2 ()) λjp4=>
 (oH fuel p0.S p1).bind λr5=>
 bif (!r5)then
  jp4 true
 else
  (sh fuel p2).bind λr6=>
  jp4 (!r6)
def K52:=λa0 a1 a2 (t:SL)=>((1,Z9 a0)::(2,vI a1)::(3,pV a2)::(6,qB)::t:SL)
theorem ni(h:fO fuel p0 p1 p2=some r):PC Tryz.prog 35 [.d (lC p0),.d (.list 3 (List.map ah p1)),vI p2] (.gC [.d (.agg [.list 1 (List.map (D.int .i64) r.1.S.aq),.list 1 (List.map D.bool r.1.S.Down),.int .i64 r.1.S.cW,.int .i64 r.1.Order,.list 3 (List.map ab r.1.du),.int .i64 r.1.eP]),vI r.2.1,vI r.2.2]):=by
 refine PC.bo Tryz.func35 rfl λH=>?_
 unfold fO at h
 exact SW.kk 53 H [(0,s8 p0),(1,Z9 p1),(2,vI p2)]<|SW.t 1<|SW.J 53 H [1,2,3,6] (λ(j1:Unit)=>(K52 p1 p2 p0 [])) h (λj1 h=>SW.t 1<|SW.seq<|lj h λhk8 h=>bI h λr9 hr_8 h=>SW.kk 53 H [(1,Z9 p1),(2,vI p2),(3,Ni p0),(6,qB)]<|SW.qG 53 H [(6,pV r9),(7,Om p0),(8,vI 0)] [2,4] 12 20 κ κ κ (λX hX=>by subst hX;exact au.t<|au.sg 53 H [3,6,44,46] [(3,Ni p0),(6,qB),(44,Z9 p1),(46,vI p2)] κ<|au.D<|OX.auto [43] [(3,eA 43 3 (List.map ah (([]:List Value)++p1))),(7,eF 45),(8,eV _)] ⟨EV.a (aS) (bx hk8),EV.z,EV.c (wC hr_8),trivial⟩) (af<|SW.ret<|iI h▸E0)) λjp2 h=>SW.block<|SW.J 53 H [1,2,3,6,9] (λ(j3:Bool)=>(K52 p1 p2 p0 [(9,vB j3)])) h (λj3 h=>SW.b h (λh=>SW.t 1<|SW.ret<|az<|ag<|iI h▸E0) (λh=>SW.S<|aa.s [] [1,2,3,6,26] 5<|aa.b2 (λb=>(sp 53 (K52 p1 p2 p0 [(26,vB b)]) H)) h (λh=>aa.t 2<|bI h λr7 hr h=>aa.d (xP hr)<|aa.t 2<|aa.E<|SW.b h (λh=>SW.t 1<|SW.ret<|az<|ag<|iI h▸E0) (λh=>SW.S<|aa.t 2<|aa.p (ax.len (enc:=ab) (xs:=p0.du))<|aa.t 2<|aa.E<|SW.b h (λh=>SW.t 1<|SW.ret<|az<|ag<|iI h▸E0) (λh=>SW.skip<|aB<|JQ [] h))) λh=>aa.t 5<|aa.E<|SW.N<|SW.S<|aa.t 2<|aa.p (ax.len (enc:=ab) (xs:=p0.du))<|aa.t 2<|aa.E<|SW.b h (λh=>SW.t 1<|SW.ret<|az<|ag<|iI h▸E0) (λh=>SW.skip<|aB<|JQ [] h))) λjp4 h=>SW.al<|aa.t 3<|bI h λr5 hr h=>aa.d (pe hr)<|aa.s [] [1,2,3,6,15] 2<|aa.b2 (λb=>(sp 53 (K52 p1 p2 p0 [(15,vB b)]) H)) h (λh=>aa.t 5<|aa.D<|JQ [] h) λh=>aa.t 1<|bI h λr6 hr h=>aa.d (sf hr)<|aa.t 3<|aa.D<|JQ [] h
noncomputable def eh (fuel:Nat) (q1:(Hp×Nat)) (q2:(Hp×Nat)) (q3:(Hp×Nat)) (q4:(Hp×Nat)) (q5:(Hp×Nat)) (q6:(Hp×Nat)) (q7:(Hp×Nat)) (e13:Entry) (G14:Hp):Option (Bool×Hp):=
 (aR (cI .i64).cell G14 q3.2 0).bind λx20=>
 bif (e13.Key==x20)then
  (aR cP.cell G14 q1.2 0).bind λx25=>
  x25.bind λi31=>
  (aR cj.cells G14 i31 0).bind λx42=>
  (aW 3 rL G14 q2.2 0).bind λx53=>
  (mL fuel x42 e13.Row x53).bind λr58=>
  bif (r58==0)then
   (aR (cI .i64).cell G14 q7.2 0).bind λx59=>
   (cH ay G14 q4.2 0 e13).bind λH60=>
   (cH (cI .i64) H60 q5.2 0 x59).bind λH61=>
   (cH cB H61 q6.2 0 true).bind λH62=>
   (aR (cI .i64).cell H60 q7.2 0).bind λx63=>
   BP x59 x63<|
   some (false,H62)
  else
   (aR (cI .i64).cell G14 q7.2 0).bind λx64=>
   (cH (cI .i64) G14 q7.2 0 (IntKind.wrap .i64 (x64+1))).bind λH65=>
   some (true,H65)
 else
  (aR (cI .i64).cell G14 q7.2 0).bind λx66=>
  (cH (cI .i64) G14 q7.2 0 (IntKind.wrap .i64 (x66+1))).bind λH67=>
  some (true,H67)
noncomputable def fZ (fuel:Nat) (p0:Nat) (p1:(List Value)) (p2:Int) (H:Hp):Option ((Entry×Int×Bool)×Hp):=
 (kW H (.cells [.d (.ptr p0 0)])).bind λq1=>
 (kW q1.1 (.cells [.d (.list 3 (List.map ah p1))])).bind λq2=>
 (kW q2.1 (.cells [.d (.int .i64 p2)])).bind λq3=>
 (kW q3.1 (.cells [.d (.list 3 (List.map ah ([]:List Value))),.d (.int .i64 0),.d (.int .i64 0)])).bind λq4=>
 (kW q4.1 (.cells [.d (.int .i64 0)])).bind λq5=>
 (kW q5.1 (.cells [.d (.bool false)])).bind λq6=>
 (kW q6.1 (.cells [.d (.int .i64 0)])).bind λq7=>
 (aR cP.cell q7.1 q1.2 0).bind λx8=>
 x8.bind λi9=>
 (aR cP.cell q7.1 i9 4).bind λx10=>
 x10.bind λi11=>
 (lT fuel i11 q7.1).bind λr12=>
 (kC fuel (eh fuel q1 q2 q3 q4 q5 q6 q7) (some i11) q7.1).bind λq68=>
 bif q68.1 then
  (eo 3 mJ.cells q68.2 q4.2).bind λq69=>
  (eo 1 (cI .i64).cell q69.2 q5.2).bind λq70=>
  (eo 1 cB.cell q70.2 q6.2).bind λq71=>
  some (((⟨([]:List Value),0,0⟩:Entry),0,false),q71.2)
 else
  (eo 3 mJ.cells q68.2 q4.2).bind λq72=>
  (eo 1 (cI .i64).cell q72.2 q5.2).bind λq73=>
  (eo 1 cB.cell q73.2 q6.2).bind λq74=>
  some ((q72.1,q73.1,q74.1),q74.2)
def Lz(x0:Tree×Int×Int):SV:=.box [.d (.list 1 (List.map (D.int .i64) x0.1.S.aq)),.d (.list 1 (List.map D.bool x0.1.S.Down)),vI x0.1.S.cW,vI x0.1.Order,.d (.list 3 (List.map ab x0.1.du)),vI x0.1.eP]
def Ly(x0:Tree×Int×Int):SV:=.d (.agg [.list 1 (List.map (D.int .i64) x0.1.S.aq),.list 1 (List.map D.bool x0.1.S.Down),.int .i64 x0.1.S.cW,.int .i64 x0.1.Order,.list 3 (List.map ab x0.1.du),.int .i64 x0.1.eP])
def FI(x0:(Entry×Hp)):SV:=.box [.d (.list 3 (List.map ah x0.1.Row)),vI x0.1.Key,vI x0.1.Number]
def Oj:SV:=.box [.d (.list 3 (List.map ah ([]:List Value))),vI 0,vI 0]
def K5:=λa0 a1 a2 a3 a4 (t:SL)=>((6,.d (.ptr a0 0))::(7,.d (.ptr a1 0))::(8,.d (.ptr a2 0))::(9,.d (.ptr a3 0))::(10,jQ a4)::(21,vB true)::t:SL)
def K7:=λa0 a1 a2 a3 a4 a5 (t:SL)=>((4,.d (.ptr a0 0))::(6,.d (.ptr a1 0))::(7,.d (.ptr a2 0))::(8,.d (.ptr a3 0))::(9,.d (.ptr a4 0))::(10,jQ a5)::(21,vB true)::t:SL)
def K9:=λa0 a1 a2 a3 a4 a5 a6 (t:SL)=>((3,.d (.ptr a0 0))::(4,.d (.ptr a1 0))::(6,.d (.ptr a2 0))::(7,.d (.ptr a3 0))::(8,.d (.ptr a4 0))::(9,.d (.ptr a5 0))::(10,jQ a6)::t:SL)
def K12:=λa0 a1 a2 (t:SL)=>((6,.d (.ptr a0 0))::(7,.d (.ptr a1 0))::(8,.d (.ptr a2 0))::t:SL)
def K13:=λa0 a1 a2 a3 a4 a5 a6 (t:SL)=>((3,.d (.ptr a0 0))::(4,.d (.ptr a1 0))::(5,.d (.ptr a2 0))::(6,.d (.ptr a3 0))::(7,.d (.ptr a4 0))::(8,.d (.ptr a5 0))::(9,.d (.ptr a6 0))::t:SL)
def K27:=λa0 a1 a2 (t:SL)=>((3,.d (.ptr a0 0))::(4,.d (.ptr a1 0))::(5,.d (.ptr a2 0))::t:SL)
def K28:=λa0 a1 a2 a3 a4 a5 (t:SL)=>((3,.d (.ptr a0 0))::(6,.d (.ptr a1 0))::(7,.d (.ptr a2 0))::(8,.d (.ptr a3 0))::(9,.d (.ptr a4 0))::(10,jQ a5)::(21,vB true)::t:SL)
theorem o0(h:fZ fuel p0 p1 p2 H=some r):SC Tryz.prog false 58 [.d (.ptr p0 0),.d (.list 3 (List.map ah p1)),vI p2] H (.gC [.d (.agg [.list 3 (List.map ah r.1.1.Row),.int .i64 r.1.1.Key,.int .i64 r.1.1.Number]),vI r.1.2.1,vB r.1.2.2]) r.2:=by
 refine SC.sy Tryz.func58 rfl ?_
 unfold fZ at h
 exact cV.kp 37 H [0,1,2] (K37 p0 p1 p2 []) κ<|cV.seq1<|SW.al<|aa.G 6 [(3,.box [.d (.ptr p0 0)]),(4,M4 p1),(5,.box [vI p2]),(6,ya),(7,.box [vI 0]),(8,.box [vB false])]<|aa.E<|cV.seq1<|SW.al<|aa.G 2 [(3,.box [.d (.ptr p0 0)]),(4,M4 p1),(5,.box [vI p2]),(6,ya),(7,.box [vI 0]),(8,.box [vB false]),(9,.box [vI 0])]<|aa.E<|bI h λq1 hq h=>cV.nh hq 3 37 [] [3,4,5,6,7,8,9] [(3,.d (.ptr q1.2 0)),(4,M4 p1),(5,.box [vI p2]),(6,ya),(7,.box [vI 0]),(8,.box [vB false]),(9,.box [vI 0])] κ (by cases hq;kernel_rfl)<|bI h λq2 hq h=>cV.nh hq 4 37 [] [3,4,5,6,7,8,9] [(3,.d (.ptr q1.2 0)),(4,.d (.ptr q2.2 0)),(5,.box [vI p2]),(6,ya),(7,.box [vI 0]),(8,.box [vB false]),(9,.box [vI 0])] κ (by cases hq;kernel_rfl)<|bI h λq3 hq h=>cV.nh hq 5 37 [] [3,4,5,6,7,8,9] (K27 q1.2 q2.2 q3.2 [(6,ya),(7,.box [vI 0]),(8,.box [vB false]),(9,.box [vI 0])]) κ (by cases hq;kernel_rfl)<|bI h λq4 hq h=>cV.nh hq 6 37 [(0,103)] [3,4,5,6,7,8,9] (K27 q1.2 q2.2 q3.2 [(6,.d (.ptr q4.2 0)),(7,.box [vI 0]),(8,.box [vB false]),(9,.box [vI 0])]) κ (by cases hq;kernel_rfl)<|bI h λq5 hq h=>cV.nh hq 7 37 [] [3,4,5,6,7,8,9] (K27 q1.2 q2.2 q3.2 [(6,.d (.ptr q4.2 0)),(7,.d (.ptr q5.2 0)),(8,.box [vB false]),(9,.box [vI 0])]) κ (by cases hq;kernel_rfl)<|bI h λq6 hq h=>cV.nh hq 8 37 [] [3,4,5,6,7,8,9] (K27 q1.2 q2.2 q3.2 [(6,.d (.ptr q4.2 0)),(7,.d (.ptr q5.2 0)),(8,.d (.ptr q6.2 0)),(9,.box [vI 0])]) κ (by cases hq;kernel_rfl)<|bI h λq7 hq h=>cV.nh hq 9 37 [] [3,4,5,6,7,8,9] (K13 q1.2 q2.2 q3.2 q4.2 q5.2 q6.2 q7.2 []) κ (by cases hq;kernel_rfl)<|cV.KC<|cV.seq1<|SW.al<|bI h λx8 hx h=>aa.p (s:=.d (cP.enc x8)) (ax.cN hx)<|bI h λi9 hp_i9 h=>aa.p (s:=.d (.ptr i9 0)) (ax.dS hp_i9)<|aa.t 1<|bI h λx10 hx h=>aa.o (s:=.d (cP.enc x10)) [3,4,5,6,7,8,9,14] (ax.cN hx)<|bI h λi11 hp_i11 h=>aa.nG x10 (λp=>(sp 37 (K13 q1.2 q2.2 q3.2 q4.2 q5.2 q6.2 q7.2 [(14,.d (cP.enc p))]) q7.1)) κ hp_i11<|bI h λr12 hr h=>aa.CR (ls:=[]) (some 15) (K13 q1.2 q2.2 q3.2 q4.2 q5.2 q6.2 q7.2 [(15,Ij i11)]) (mM hr)<|aa.E<|cV.block<|bI h λq68 hit h=>cV.Gv (f:=78) (caps:=[.dV [.ptr i11 0]]) (H':=q68.2) (b:=q68.1) (jc:=.ret) [(3,.ptr q1.2 0),(4,.ptr q2.2 0),(5,.ptr q3.2 0),(6,.ptr q4.2 0),(7,.ptr q5.2 0),(8,.ptr q6.2 0),(9,.ptr q7.2 0)] κ κ κ κ (λl R bE hpe hps has hbd hsz=>mY (λe13 G14 q9 h=>by
  unfold eh at h;exact Dr.yH (n0:=37) bE hpe hps (hsz.trans (kD _ _ _)) (K13 q1.2 q2.2 q3.2 q4.2 q5.2 q6.2 q7.2 [(16,.d (.agg [.list 3 (List.map ah e13.Row),.int .i64 e13.Key,.int .i64 e13.Number]))]) (tb ⟨.inr ⟨by decide,_,rfl,.head _⟩,⟨.inr ⟨by decide,_,rfl,.tail _ (.head _)⟩,⟨.inr ⟨by decide,_,rfl,.tail _ (.tail _ (.head _))⟩,⟨.inr ⟨by decide,_,rfl,.tail _ (.tail _ (.tail _ (.head _)))⟩,⟨.inr ⟨by decide,_,rfl,.tail _ (.tail _ (.tail _ (.tail _ (.head _))))⟩,⟨.inr ⟨by decide,_,rfl,.tail _ (.tail _ (.tail _ (.tail _ (.tail _ (.head _)))))⟩,⟨.inr ⟨by decide,_,rfl,.tail _ (.tail _ (.tail _ (.tail _ (.tail _ (.tail _ (.head _))))))⟩,⟨.inl ⟨rfl,rfl⟩,trivial⟩⟩⟩⟩⟩⟩⟩⟩)<|(by
   rw[has,hbd];exact uk.region κ<|aa.G 2 (K13 q1.2 q2.2 q3.2 q4.2 q5.2 q6.2 q7.2 [(10,jQ e13)])<|aa.D<|jr.block<|jr.seq<|jr.seq<|jr.kp 37 G14 [3,4,5,6,7,8,9,10] (K13 q1.2 q2.2 q3.2 q4.2 q5.2 q6.2 q7.2 [(10,jQ e13)]) κ<|jr.zD 15 κ κ (λl=>OL.G (d':=14) [0] (K13 q1.2 q2.2 q3.2 q4.2 q5.2 q6.2 q7.2 [(10,jQ e13),(17,.loc 10 1)])<|bI h λx20 hx_2 h=>OL.fW (b:=true) (H:=G14) 12 7 37 (K9 q1.2 q2.2 q4.2 q5.2 q6.2 q7.2 e13 [(18,vI e13.Key),(19,vI x20)]) (OL.G (d':=10) [3,4] (K9 q1.2 q2.2 q4.2 q5.2 q6.2 q7.2 e13 [(21,vB (e13.Key==x20))])<|OL.case (e13.Key==x20) (λb=>(sp 37 (K9 q1.2 q2.2 q4.2 q5.2 q6.2 q7.2 e13 [(21,vB b)]) G14)) κ (λhc=>have h:=eQ hc h;OL.G (d':=9) [9] (K9 q1.2 q2.2 q4.2 q5.2 q6.2 q7.2 e13 [(21,vB true),(26,.loc 10 0)])<|bI h λx25 hx_5 h=>bI h λi31 hp_i31 h=>bI h λx42 hx_8 h=>bI h λx53 hx_11 h=>OL.fW (b:=true) (H:=G14) 3 4095 37 (K5 q4.2 q5.2 q6.2 q7.2 e13 [(25,.d (.agg [.list 1 (List.map (D.int .i64) x42.aq),.list 1 (List.map D.bool x42.Down),.int .i64 x42.cW])),(27,qz e13),(28,.bp (.an q2.2 0) 3 (List.map ah x53))]) (bI h λr58 hr_12 h=>OL.F 12 aT<|aa.C (d:=some 29) (ls:=[(.an q2.2 0)]) (gs:=[]) [] (K5 q4.2 q5.2 q6.2 q7.2 e13 [(29,vI r58)]) (lF hr_12)<|aa.D<|OL.G (d':=0) [13,14] (K12 q4.2 q5.2 q6.2 [(9,.d (.ptr q7.2 0)),(10,jQ e13),(31,vB (r58==0))])<|OL.fin κ<|af<|jr.BN (b:=(r58==0)) κ (λhc=>have h:=eQ hc h;jr.seq<|bI h λx59 hx59 h=>bI h λH60 hx_2 h=>bI h λH61 hx_3 h=>bI h λH62 hx_4 h=>bI h λx63 hx63 h=>by
    replace h:=sW h;obtain⟨rfl,h⟩:=h;exact jr.kp 37 G14 [6,7,8,9,10] (K12 q4.2 q5.2 q6.2 [(9,.d (.ptr q7.2 0)),(10,jQ e13)]) κ<|(by
     refine jr.Cy 37 H62 (K12 q4.2 q5.2 q6.2 []) κ (λX hX=>?_) (af<|jr.ret<|ag<|az<|(by cases h;exact⟨rfl,.inr ⟨rfl,rfl⟩⟩))
     .have c31:X 0 31 (sp 37 (K12 q4.2 q5.2 q6.2 []) H62):=by subst hX;exact OX.fin κ
      have c15:X 1 15 (sp 37 (K12 q4.2 q5.2 q6.2 []) H61):=by
       subst hX
       refine OX.step (i0:=4) (is:=[]) κ κ ⟨?_,trivial⟩
       .refine aa.bE 37 H62 [6,7,8] (K12 q4.2 q5.2 q6.2 []) hx_4 κ κ<|aa.D ?_
        exact c31
      have c7:X 2 7 (sp 37 (K12 q4.2 q5.2 q6.2 [(33,vI x59)]) H60):=by
       subst hX
       refine OX.step (i0:=3) (is:=[]) κ κ ⟨?_,trivial⟩
       .refine aa.bE 37 H61 [6,7,8] (K12 q4.2 q5.2 q6.2 []) hx_3 κ κ<|aa.D ?_
        exact c15
      have c3:X 3 3 (sp 37 (K12 q4.2 q5.2 q6.2 [(32,kY e13),(33,vI x59)]) G14):=by
       subst hX
       refine OX.step (i0:=2) (is:=[]) κ κ ⟨?_,trivial⟩
       .refine aa.bE 37 H60 [6,7,8,33] (K12 q4.2 q5.2 q6.2 [(33,vI x59)]) hx_2 κ κ<|aa.D ?_
        exact c7
      have c5:X 3 5 (sp 37 (K12 q4.2 q5.2 q6.2 [(9,.d (.ptr q7.2 0))]) H60):=by
       subst hX
       refine OX.step (i0:=1) (is:=[]) κ κ ⟨?_,trivial⟩
       .refine aa.on 37 H60 (d:=some 33) (s:=vI x59) [6,7,8,33] (K12 q4.2 q5.2 q6.2 [(33,vI x59)]) (ax.cN hx63) κ<|aa.D ?_
        exact c7
      have c1:X 4 1 (sp 37 (K12 q4.2 q5.2 q6.2 [(9,.d (.ptr q7.2 0)),(32,kY e13)]) G14):=by
       subst hX
       refine OX.step (i0:=1) (is:=[2]) κ κ ⟨?_,?_,trivial⟩
       .refine aa.O (d:=some 33) (s:=vI x59) (K12 q4.2 q5.2 q6.2 [(32,kY e13),(33,vI x59)]) (ax.cN hx59)<|aa.D ?_
        exact c3
       .refine aa.bE 37 H60 [6,7,8,9] (K12 q4.2 q5.2 q6.2 [(9,.d (.ptr q7.2 0))]) hx_2 κ κ<|aa.D ?_
        exact c5
      have c2:X 4 2 (sp 37 (K12 q4.2 q5.2 q6.2 [(10,jQ e13),(33,vI x59)]) G14):=by
       subst hX
       refine OX.step (i0:=0) (is:=[]) κ κ ⟨?_,trivial⟩
       .refine aa.sg 37 G14 [] [6,7,8,32,33] 1 (K12 q4.2 q5.2 q6.2 [(32,kY e13),(33,vI x59)]) κ<|aa.D ?_
        exact c3
      have c0:X 5 0 (sp 37 (K12 q4.2 q5.2 q6.2 [(9,.d (.ptr q7.2 0)),(10,jQ e13)]) G14):=by
       subst hX
       refine OX.step (i0:=0) (is:=[1]) κ κ ⟨?_,?_,trivial⟩
       .refine aa.G 1 (K12 q4.2 q5.2 q6.2 [(9,.d (.ptr q7.2 0)),(32,kY e13)])<|aa.D ?_
        exact c1
       .refine aa.O (d:=some 33) (s:=vI x59) (K12 q4.2 q5.2 q6.2 [(10,jQ e13),(33,vI x59)]) (ax.cN hx59)<|aa.D ?_
        exact c2
      exact c0)) (λhc=>have h:=eR hc h;jr.skip<|af<|jr.region κ<|bI h λx64 hx h=>aa.p (s:=vI x64) (ax.cN hx)<|aa.t 1<|bI h λH65 hx h=>aa.bE 37 H65 [] [] hx κ κ<|aa.D<|aB<|(by cases h;exact⟨rfl,.inl ⟨rfl,rfl⟩⟩))) (λc4095=>OL.fW (b:=true) (H:=G14) 4 2047 37 (K7 q2.2 q4.2 q5.2 q6.2 q7.2 e13 [(25,.d (.agg [.list 1 (List.map (D.int .i64) x42.aq),.list 1 (List.map D.bool x42.Down),.int .i64 x42.cW])),(27,qz e13)]) (OL.step (i0:=11) (is:=[]) κ ⟨bw.W (aa.on 37 G14 (d:=some 28) (s:=.bp (.an q2.2 0) 3 (List.map ah x53)) [6,7,8,9,10,21,25,27,28] (K5 q4.2 q5.2 q6.2 q7.2 e13 [(25,Z2 x42),(27,qz e13),(28,xG q2 x53)]) (ax.gK hx_11) κ<|aa.D<|c4095) aT,trivial⟩) (λc2047=>OL.fW (b:=true) (H:=G14) 4 3071 37 (K5 q4.2 q5.2 q6.2 q7.2 e13 [(25,.d (.agg [.list 1 (List.map (D.int .i64) x42.aq),.list 1 (List.map D.bool x42.Down),.int .i64 x42.cW])),(26,.loc 10 0),(28,.bp (.an q2.2 0) 3 (List.map ah x53))]) (OL.step (i0:=10) (is:=[]) κ ⟨bw.W (aa.sg 37 G14 [] [6,7,8,9,10,21,25,27,28] 1 (K5 q4.2 q5.2 q6.2 q7.2 e13 [(25,Z2 x42),(27,qz e13),(28,xG q2 x53)]) κ<|aa.D<|c4095) aT,trivial⟩) (λc3071=>OL.fW (b:=true) (H:=G14) 4 3839 37 (K5 q4.2 q5.2 q6.2 q7.2 e13 [(24,.d (.ptr i31 0)),(27,qz e13),(28,.bp (.an q2.2 0) 3 (List.map ah x53))]) (OL.step (i0:=8) (is:=[]) κ ⟨bw.W (aa.on 37 G14 (d:=some 25) (s:=.d (.agg [.list 1 (List.map (D.int .i64) x42.aq),.list 1 (List.map D.bool x42.Down),.int .i64 x42.cW])) [6,7,8,9,10,21,25,27,28] (K5 q4.2 q5.2 q6.2 q7.2 e13 [(25,Z2 x42),(27,qz e13),(28,xG q2 x53)]) (ax.cN hx_8) κ<|aa.D<|c4095) aT,trivial⟩) (λc3839=>OL.fW (b:=true) (H:=G14) 5 1023 37 (K7 q2.2 q4.2 q5.2 q6.2 q7.2 e13 [(25,.d (.agg [.list 1 (List.map (D.int .i64) x42.aq),.list 1 (List.map D.bool x42.Down),.int .i64 x42.cW])),(26,.loc 10 0)]) (OL.step (i0:=10) (is:=[11]) κ ⟨bw.W (aa.G 1 (K7 q2.2 q4.2 q5.2 q6.2 q7.2 e13 [(25,Z2 x42),(27,qz e13)])<|aa.D<|c2047) aT,bw.W (aa.O (d:=some 28) (s:=.bp (.an q2.2 0) 3 (List.map ah x53)) (K5 q4.2 q5.2 q6.2 q7.2 e13 [(25,Z2 x42),(26,.loc 10 0),(28,xG q2 x53)]) (ax.gK hx_11)<|aa.D<|c3071) aT,trivial⟩) (λc1023=>OL.fW (b:=true) (H:=G14) 5 1791 37 (K7 q2.2 q4.2 q5.2 q6.2 q7.2 e13 [(24,.d (.ptr i31 0)),(27,qz e13)]) (OL.step (i0:=8) (is:=[11]) κ ⟨bw.W (aa.O (d:=some 25) (s:=.d (.agg [.list 1 (List.map (D.int .i64) x42.aq),.list 1 (List.map D.bool x42.Down),.int .i64 x42.cW])) (K7 q2.2 q4.2 q5.2 q6.2 q7.2 e13 [(25,Z2 x42),(27,qz e13)]) (ax.cN hx_8)<|aa.D<|c2047) aT,bw.W (aa.O (d:=some 28) (s:=.bp (.an q2.2 0) 3 (List.map ah x53)) (K5 q4.2 q5.2 q6.2 q7.2 e13 [(24,.d (.ptr i31 0)),(27,qz e13),(28,xG q2 x53)]) (ax.gK hx_11)<|aa.D<|c3839) aT,trivial⟩) (λc1791=>OL.fW (b:=true) (H:=G14) 5 2815 37 (K5 q4.2 q5.2 q6.2 q7.2 e13 [(24,.d (.ptr i31 0)),(26,.loc 10 0),(28,.bp (.an q2.2 0) 3 (List.map ah x53))]) (OL.step (i0:=8) (is:=[10]) κ ⟨bw.W (aa.O (d:=some 25) (s:=.d (.agg [.list 1 (List.map (D.int .i64) x42.aq),.list 1 (List.map D.bool x42.Down),.int .i64 x42.cW])) (K5 q4.2 q5.2 q6.2 q7.2 e13 [(25,Z2 x42),(26,.loc 10 0),(28,xG q2 x53)]) (ax.cN hx_8)<|aa.D<|c3071) aT,bw.W (aa.G 1 (K5 q4.2 q5.2 q6.2 q7.2 e13 [(24,.d (.ptr i31 0)),(27,qz e13),(28,xG q2 x53)])<|aa.D<|c3839) aT,trivial⟩) (λc2815=>OL.fW (b:=true) (H:=G14) 5 3711 37 (K5 q4.2 q5.2 q6.2 q7.2 e13 [(23,.d (.ptr i31 0)),(27,qz e13),(28,.bp (.an q2.2 0) 3 (List.map ah x53))]) (OL.step (i0:=7) (is:=[]) κ ⟨bw.W (aa.sg 37 G14 [] [6,7,8,9,10,21,24,27,28] 1 (K5 q4.2 q5.2 q6.2 q7.2 e13 [(24,.d (.ptr i31 0)),(27,qz e13),(28,xG q2 x53)]) κ<|aa.D<|c3839) aT,trivial⟩) (λc3711=>OL.fW (b:=true) (H:=G14) 6 767 37 (K7 q2.2 q4.2 q5.2 q6.2 q7.2 e13 [(24,.d (.ptr i31 0)),(26,.loc 10 0)]) (OL.step (i0:=8) (is:=[10,11]) κ ⟨bw.W (aa.O (d:=some 25) (s:=.d (.agg [.list 1 (List.map (D.int .i64) x42.aq),.list 1 (List.map D.bool x42.Down),.int .i64 x42.cW])) (K7 q2.2 q4.2 q5.2 q6.2 q7.2 e13 [(25,Z2 x42),(26,.loc 10 0)]) (ax.cN hx_8)<|aa.D<|c1023) aT,bw.W (aa.G 1 (K7 q2.2 q4.2 q5.2 q6.2 q7.2 e13 [(24,.d (.ptr i31 0)),(27,qz e13)])<|aa.D<|c1791) aT,bw.W (aa.O (d:=some 28) (s:=.bp (.an q2.2 0) 3 (List.map ah x53)) (K5 q4.2 q5.2 q6.2 q7.2 e13 [(24,.d (.ptr i31 0)),(26,.loc 10 0),(28,xG q2 x53)]) (ax.gK hx_11)<|aa.D<|c2815) aT,trivial⟩) (λc767=>OL.fW (b:=true) (H:=G14) 6 1663 37 (K7 q2.2 q4.2 q5.2 q6.2 q7.2 e13 [(23,.d (.ptr i31 0)),(27,qz e13)]) (OL.step (i0:=7) (is:=[11]) κ ⟨bw.W (aa.G 1 (K7 q2.2 q4.2 q5.2 q6.2 q7.2 e13 [(24,.d (.ptr i31 0)),(27,qz e13)])<|aa.D<|c1791) aT,bw.W (aa.O (d:=some 28) (s:=.bp (.an q2.2 0) 3 (List.map ah x53)) (K5 q4.2 q5.2 q6.2 q7.2 e13 [(23,.d (.ptr i31 0)),(27,qz e13),(28,xG q2 x53)]) (ax.gK hx_11)<|aa.D<|c3711) aT,trivial⟩) (λc1663=>OL.fW (b:=true) (H:=G14) 6 2687 37 (K5 q4.2 q5.2 q6.2 q7.2 e13 [(23,.d (.ptr i31 0)),(26,.loc 10 0),(28,.bp (.an q2.2 0) 3 (List.map ah x53))]) (OL.step (i0:=7) (is:=[10]) κ ⟨bw.W (aa.G 1 (K5 q4.2 q5.2 q6.2 q7.2 e13 [(24,.d (.ptr i31 0)),(26,.loc 10 0),(28,xG q2 x53)])<|aa.D<|c2815) aT,bw.W (aa.G 1 (K5 q4.2 q5.2 q6.2 q7.2 e13 [(23,.d (.ptr i31 0)),(27,qz e13),(28,xG q2 x53)])<|aa.D<|c3711) aT,trivial⟩) (λc2687=>OL.fW (b:=true) (H:=G14) 6 3647 37 (K5 q4.2 q5.2 q6.2 q7.2 e13 [(22,.d (cP.enc x25)),(27,qz e13),(28,.bp (.an q2.2 0) 3 (List.map ah x53))]) (OL.step (i0:=6) (is:=[]) κ ⟨bw.W (aa.on 37 G14 (d:=some 23) (s:=.d (.ptr i31 0)) [6,7,8,9,10,21,23,27,28] (K5 q4.2 q5.2 q6.2 q7.2 e13 [(23,.d (.ptr i31 0)),(27,qz e13),(28,xG q2 x53)]) (ax.dS hp_i31) κ<|aa.D<|c3711) aT,trivial⟩) (λc3647=>OL.fW (b:=true) (H:=G14) 7 639 37 (K7 q2.2 q4.2 q5.2 q6.2 q7.2 e13 [(23,.d (.ptr i31 0)),(26,.loc 10 0)]) (OL.step (i0:=7) (is:=[10,11]) κ ⟨bw.W (aa.G 1 (K7 q2.2 q4.2 q5.2 q6.2 q7.2 e13 [(24,.d (.ptr i31 0)),(26,.loc 10 0)])<|aa.D<|c767) aT,bw.W (aa.G 1 (K7 q2.2 q4.2 q5.2 q6.2 q7.2 e13 [(23,.d (.ptr i31 0)),(27,qz e13)])<|aa.D<|c1663) aT,bw.W (aa.O (d:=some 28) (s:=.bp (.an q2.2 0) 3 (List.map ah x53)) (K5 q4.2 q5.2 q6.2 q7.2 e13 [(23,.d (.ptr i31 0)),(26,.loc 10 0),(28,xG q2 x53)]) (ax.gK hx_11)<|aa.D<|c2687) aT,trivial⟩) (λc639=>OL.fW (b:=true) (H:=G14) 7 1599 37 (K7 q2.2 q4.2 q5.2 q6.2 q7.2 e13 [(22,.d (cP.enc x25)),(27,qz e13)]) (OL.step (i0:=6) (is:=[11]) κ ⟨bw.W (aa.O (d:=some 23) (s:=.d (.ptr i31 0)) (K7 q2.2 q4.2 q5.2 q6.2 q7.2 e13 [(23,.d (.ptr i31 0)),(27,qz e13)]) (ax.dS hp_i31)<|aa.D<|c1663) aT,bw.W (aa.O (d:=some 28) (s:=.bp (.an q2.2 0) 3 (List.map ah x53)) (K5 q4.2 q5.2 q6.2 q7.2 e13 [(22,.d (cP.enc x25)),(27,qz e13),(28,xG q2 x53)]) (ax.gK hx_11)<|aa.D<|c3647) aT,trivial⟩) (λc1599=>OL.fW (b:=true) (H:=G14) 7 2623 37 (K5 q4.2 q5.2 q6.2 q7.2 e13 [(22,.d (cP.enc x25)),(26,.loc 10 0),(28,.bp (.an q2.2 0) 3 (List.map ah x53))]) (OL.step (i0:=6) (is:=[10]) κ ⟨bw.W (aa.O (d:=some 23) (s:=.d (.ptr i31 0)) (K5 q4.2 q5.2 q6.2 q7.2 e13 [(23,.d (.ptr i31 0)),(26,.loc 10 0),(28,xG q2 x53)]) (ax.dS hp_i31)<|aa.D<|c2687) aT,bw.W (aa.G 1 (K5 q4.2 q5.2 q6.2 q7.2 e13 [(22,.d (cP.enc x25)),(27,qz e13),(28,xG q2 x53)])<|aa.D<|c3647) aT,trivial⟩) (λc2623=>OL.fW (b:=true) (H:=G14) 7 3615 37 (K28 q1.2 q4.2 q5.2 q6.2 q7.2 e13 [(27,qz e13),(28,.bp (.an q2.2 0) 3 (List.map ah x53))]) (OL.step (i0:=5) (is:=[]) κ ⟨bw.W (aa.on 37 G14 (d:=some 22) (s:=.d (cP.enc x25)) [6,7,8,9,10,21,22,27,28] (K5 q4.2 q5.2 q6.2 q7.2 e13 [(22,.d (cP.enc x25)),(27,qz e13),(28,xG q2 x53)]) (ax.cN hx_5) κ<|aa.D<|c3647) aT,trivial⟩) (λc3615=>OL.fW (b:=true) (H:=G14) 8 575 37 (K7 q2.2 q4.2 q5.2 q6.2 q7.2 e13 [(22,.d (cP.enc x25)),(26,.loc 10 0)]) (OL.step (i0:=6) (is:=[10,11]) κ ⟨bw.W (aa.O (d:=some 23) (s:=.d (.ptr i31 0)) (K7 q2.2 q4.2 q5.2 q6.2 q7.2 e13 [(23,.d (.ptr i31 0)),(26,.loc 10 0)]) (ax.dS hp_i31)<|aa.D<|c639) aT,bw.W (aa.G 1 (K7 q2.2 q4.2 q5.2 q6.2 q7.2 e13 [(22,.d (cP.enc x25)),(27,qz e13)])<|aa.D<|c1599) aT,bw.W (aa.O (d:=some 28) (s:=.bp (.an q2.2 0) 3 (List.map ah x53)) (K5 q4.2 q5.2 q6.2 q7.2 e13 [(22,.d (cP.enc x25)),(26,.loc 10 0),(28,xG q2 x53)]) (ax.gK hx_11)<|aa.D<|c2623) aT,trivial⟩) (λc575=>OL.fW (b:=true) (H:=G14) 8 1567 37 (K9 q1.2 q2.2 q4.2 q5.2 q6.2 q7.2 e13 [(21,vB true),(27,qz e13)]) (OL.step (i0:=5) (is:=[11]) κ ⟨bw.W (aa.O (d:=some 22) (s:=.d (cP.enc x25)) (K7 q2.2 q4.2 q5.2 q6.2 q7.2 e13 [(22,.d (cP.enc x25)),(27,qz e13)]) (ax.cN hx_5)<|aa.D<|c1599) aT,bw.W (aa.O (d:=some 28) (s:=.bp (.an q2.2 0) 3 (List.map ah x53)) (K28 q1.2 q4.2 q5.2 q6.2 q7.2 e13 [(27,qz e13),(28,xG q2 x53)]) (ax.gK hx_11)<|aa.D<|c3615) aT,trivial⟩) (λc1567=>OL.fW (b:=true) (H:=G14) 8 2591 37 (K28 q1.2 q4.2 q5.2 q6.2 q7.2 e13 [(26,.loc 10 0),(28,.bp (.an q2.2 0) 3 (List.map ah x53))]) (OL.step (i0:=5) (is:=[10]) κ ⟨bw.W (aa.O (d:=some 22) (s:=.d (cP.enc x25)) (K5 q4.2 q5.2 q6.2 q7.2 e13 [(22,.d (cP.enc x25)),(26,.loc 10 0),(28,xG q2 x53)]) (ax.cN hx_5)<|aa.D<|c2623) aT,bw.W (aa.G 1 (K28 q1.2 q4.2 q5.2 q6.2 q7.2 e13 [(27,qz e13),(28,xG q2 x53)])<|aa.D<|c3615) aT,trivial⟩) (λc2591=>OL.step (i0:=5) (is:=[10,11]) κ ⟨bw.W (aa.O (d:=some 22) (s:=.d (cP.enc x25)) (K7 q2.2 q4.2 q5.2 q6.2 q7.2 e13 [(22,.d (cP.enc x25)),(26,.loc 10 0)]) (ax.cN hx_5)<|aa.D<|c575) aT,bw.W (aa.G 1 (K9 q1.2 q2.2 q4.2 q5.2 q6.2 q7.2 e13 [(21,vB true),(27,qz e13)])<|aa.D<|c1567) aT,bw.W (aa.O (d:=some 28) (s:=.bp (.an q2.2 0) 3 (List.map ah x53)) (K28 q1.2 q4.2 q5.2 q6.2 q7.2 e13 [(26,.loc 10 0),(28,xG q2 x53)]) (ax.gK hx_11)<|aa.D<|c2591) aT,trivial⟩)))))))))))))))))))) (λhc=>have h:=eR hc h;OL.G (d':=0) [5,6,7,8,9,10,11,12,13,14] (K12 q4.2 q5.2 q6.2 [(9,.d (.ptr q7.2 0)),(10,jQ e13),(31,vB false)])<|OL.fin κ<|af<|jr.za κ<|jr.skip<|af<|jr.region κ<|bI h λx66 hx h=>aa.p (s:=vI x66) (ax.cN hx)<|aa.t 1<|bI h λH67 hx h=>aa.bE 37 H67 [] [] hx κ κ<|aa.D<|aB<|(by cases h;exact⟨rfl,.inl ⟨rfl,rfl⟩⟩))) (λc7=>OL.fW (b:=true) (H:=G14) 13 3 37 (K13 q1.2 q2.2 q3.2 q4.2 q5.2 q6.2 q7.2 [(10,jQ e13),(18,vI e13.Key)]) (OL.step (i0:=2) (is:=[]) κ ⟨bw.W (aa.on 37 G14 (d:=some 19) (s:=vI x20) [3,4,6,7,8,9,10,18,19] (K9 q1.2 q2.2 q4.2 q5.2 q6.2 q7.2 e13 [(18,vI e13.Key),(19,vI x20)]) (ax.cN hx_2) κ<|aa.D<|c7) aT,trivial⟩) (λc3=>OL.fW (b:=true) (H:=G14) 13 5 37 (K9 q1.2 q2.2 q4.2 q5.2 q6.2 q7.2 e13 [(17,.loc 10 1),(19,vI x20)]) (OL.step (i0:=1) (is:=[]) κ ⟨bw.W (aa.sg 37 G14 [] [3,4,6,7,8,9,10,18,19] 1 (K9 q1.2 q2.2 q4.2 q5.2 q6.2 q7.2 e13 [(18,vI e13.Key),(19,vI x20)]) κ<|aa.D<|c7) aT,trivial⟩) (λc5=>OL.step (i0:=1) (is:=[2]) κ ⟨bw.W (aa.G 1 (K13 q1.2 q2.2 q3.2 q4.2 q5.2 q6.2 q7.2 [(10,jQ e13),(18,vI e13.Key)])<|aa.D<|c3) aT,bw.W (aa.O (d:=some 19) (s:=vI x20) (K9 q1.2 q2.2 q4.2 q5.2 q6.2 q7.2 e13 [(17,.loc 10 1),(19,vI x20)]) (ax.cN hx_2)<|aa.D<|c5) aT,trivial⟩)))))) hit) (λhb=>have h:=eQ hb h;aB<|af<|(by intro ds;exact bI h λq69 hqq69 h=>ta.IV (jN.AS hqq69 6 37 [3,4,5,6,7,8,9,15] (K27 q1.2 q2.2 q3.2 [(6,FI q69),(7,.d (.ptr q5.2 0)),(8,.d (.ptr q6.2 0)),(9,.d (.ptr q7.2 0)),(15,Ij i11)]) κ κ κ)<|bI h λq70 hqq70 h=>ta.IV (jN.AS hqq70 7 37 [3,4,5,6,7,8,9,15] (K27 q1.2 q2.2 q3.2 [(6,FI q69),(7,.box [vI q70.1]),(8,.d (.ptr q6.2 0)),(9,.d (.ptr q7.2 0)),(15,Ij i11)]) κ κ κ)<|bI h λq71 hqq71 h=>ta.IV (jN.AS hqq71 8 37 [3,4,5,6,7,8,9,15] (K27 q1.2 q2.2 q3.2 [(6,FI q69),(7,.box [vI q70.1]),(8,.box [vB q71.1]),(9,.d (.ptr q7.2 0)),(15,Ij i11)]) κ κ κ)<|ta.seq<|ta.region<|Al.M 4<|aa.G 4 [(6,ya),(7,.box [vI 0]),(8,.box [vB false])]<|aa.D<|Al.D<|af<|ta.nq 6 0 3 37 q71.2 [6,7,8] [(6,Oj),(7,.box [vI 0]),(8,.box [vB false])] κ<|ta.ret<|iI h▸E0)) (λhb=>have h:=eR hb h;bI h λq72 hqq72 h=>bI h λq73 hqq73 h=>bI h λq74 hqq74 h=>⟨.ret,_,rfl,(jN.trans (jN.AS hqq72 6 37 [3,4,5,6,7,8,9,15] (K27 q1.2 q2.2 q3.2 [(6,FI q72),(7,.d (.ptr q5.2 0)),(8,.d (.ptr q6.2 0)),(9,.d (.ptr q7.2 0)),(15,Ij i11)]) κ κ κ) (jN.trans (jN.AS hqq73 7 37 [3,4,5,6,7,8,9,15] (K27 q1.2 q2.2 q3.2 [(6,FI q72),(7,.box [vI q73.1]),(8,.d (.ptr q6.2 0)),(9,.d (.ptr q7.2 0)),(15,Ij i11)]) κ κ κ) (jN.AS hqq74 8 37 [3,4,5,6,7,8,9,15] (K27 q1.2 q2.2 q3.2 [(6,FI q72),(7,.box [vI q73.1]),(8,.box [vB q74.1]),(9,.d (.ptr q7.2 0)),(15,Ij i11)]) κ κ κ))),(az<|ag<|iI h▸E0)⟩)
def dG(fuel:Nat)(p0:(List Entry))(p1:Int)(p2:Int):Option ((List Entry)):=
 dx (decide (0<=p1)&&decide (p1<=p2)&&decide (p2<=(p0.length:Int))&&decide ((p0.length:Int)<=p0.length))<|
 bif (p1==p2)then
  some p0
 else
  dx (decide (0<=p1)&&decide (p1<p2)&&decide (p2<=(p0.length:Int))&&decide (p0.length<=room))<|
  some (List.take (Int.toNat p1) p0++List.drop (Int.toNat p2) p0)
def Nh(x0:((Entry×Int×Bool)×Hp)):SV:=.box [.d (.list 3 (List.map ah x0.1.1.Row)),vI x0.1.1.Key,vI x0.1.1.Number]
def Ng(x0:Int)(x1:(List Entry))(x2:Int):SV:=.own 3 (List.map ab (List.take (Int.toNat x0) x1++List.drop (Int.toNat x2) x1))
theorem kj(h:dG fuel p0 p1 p2=some r):PC Tryz.prog 109 [.own 3 (List.map ab p0),vI p1,vI p2] (.own 3 (List.map ab r)):=by
 refine PC.bo Tryz.func109 rfl λH=>?_
 unfold dG at h
 exact SW.kk 33 H [(0,Iq p0),(1,vI p1),(2,vI p2)]<|SW.t 1<|SW.S<|aa.t 4<|aa.p (ax.len (enc:=ab) (xs:=p0))<|lj h λhk h=>aa.p (s:=.undef) (ax.OF (enc:=ab) (xs:=p0) hk)<|aa.E<|SW.seq<|SW.t 1<|SW.b h (λh=>SW.S<|aa.ts [17] 2<|aa.E<|SW.ret<|ag<|iI h▸E0) (λh=>SW.skip<|af<|SW.S<|aa.t 1<|aa.p (ax.len (enc:=ab) (xs:=p0))<|aa.t 1<|aa.E<|lj h λhk h=>SW.kk 33 H [(0,Iq p0),(1,vI p1),(2,vI p2),(7,vI (p0.length:Int))]<|(by obtain⟨hT,ti,z,zd,hi,hz,hzd,hzn,hsz,hn,hby⟩:=oq (P:=Tryz.prog) (T:=30) (e:=45) (n:=3) κ;exact SW.MV (enc:=ab) (xs:=p0) (i:=p1) (j:=p2) (T:=30) (s:=0) (a1:=1) (a2:=2) (a3:=7) (t1:=20) (t2:=21) (t3:=22) (t4:=23) (t5:=24) (t6:=25) (t7:=26) (u1:=27) (u2:=28) (u3:=29) (u4:=30) (u5:=31) (gD:=(sp 33 [(0,Ng p1 p0 p2),(1,vI p1),(2,vI p2),(7,vI (p0.length:Int))] H)) hk κ κ ⟨rfl,rfl,rfl⟩ ⟨rfl,rfl,rfl⟩ ⟨rfl,rfl,rfl⟩ ⟨rfl,rfl,rfl⟩ ⟨rfl,rfl,rfl⟩ ⟨rfl,rfl,rfl⟩ ⟨rfl,rfl,rfl⟩ ⟨rfl,rfl,rfl⟩ ⟨rfl,rfl,rfl⟩ ⟨rfl,rfl,rfl⟩ ⟨rfl,rfl,rfl⟩ ⟨rfl,rfl,rfl⟩ ⟨rfl,rfl,rfl⟩ ⟨rfl,rfl,rfl⟩ κ κ (by decide) (by decide) hT hi hz hzd hzn hsz hn hby κ κ κ κ κ<|SW.kk 33 H [(0,Ng p1 p0 p2)]<|SW.S<|aa.ts [32] 2<|aa.E<|SW.ret<|iI h▸E0))
def b9(fuel:Nat)(p0:Nat)(H:Hp):Option (Int):=
 (aR (cI .i64).cell H p0 3).bind λx1=>
 some (IntKind.wrap .i64 (Int.tdiv x1 2))
def xX(x0:(List Entry)):SV:=vI (IntKind.wrap .i64 ((x0.length:Int) - 1))
theorem iw(h:b9 fuel p0 H=some r):SC Tryz.prog true 93 [.d (.ptr p0 0)] H (vI r) H:=by
 refine SC.lh Tryz.func93 rfl ?_
 unfold b9 at h
 exact SW.kk 8 H [(0,.d (.ptr p0 0))]<|SW.t 1<|SW.S<|aa.t 3<|bI h λx1 hx h=>aa.p (s:=vI x1) (ax.cN hx)<|aa.t 2<|aa.E<|SW.ret<|iI h▸E0
def cn(fuel:Nat)(p0:(List (Option Nat)))(p1:Int)(p2:Int):Option ((List (Option Nat))):=
 dx (decide (0<=p1)&&decide (p1<=p2)&&decide (p2<=(p0.length:Int))&&decide ((p0.length:Int)<=p0.length))<|
 bif (p1==p2)then
  some p0
 else
  dx (decide (0<=p1)&&decide (p1<p2)&&decide (p2<=(p0.length:Int))&&decide (p0.length<=room))<|
  some (List.take (Int.toNat p1) p0++List.drop (Int.toNat p2) p0)
def FH(x0:Int):SV:=vI (IntKind.wrap .i64 (x0 - 1))
def Oi(x0:(List Entry))(x1:((List Entry)×Hp)):SV:=.own 3 (List.map ab (List.take (Int.toNat (IntKind.wrap .i64 ((x0.length:Int) - 1))) x1.1))
def Nf(x0:(List Entry)):SV:=vI (IntKind.wrap .i64 ((IntKind.wrap .i64 ((x0.length:Int) - 1))+1))
def Oh(x0:(List Entry))(x1:((List (Option Nat))×Hp)):SV:=.own 1 (List.map cP.enc (List.take (Int.toNat (IntKind.wrap .i64 ((IntKind.wrap .i64 ((x0.length:Int) - 1))+1))) x1.1))
def Nd(x0:Int)(x1:(List (Option Nat)))(x2:Int):SV:=.own 1 (List.map cP.enc (List.take (Int.toNat x0) x1++List.drop (Int.toNat x2) x1))
theorem jU(h:cn fuel p0 p1 p2=some r):PC Tryz.prog 121 [.own 1 (List.map cP.enc p0),vI p1,vI p2] (.own 1 (List.map cP.enc r)):=by
 refine PC.bo Tryz.func121 rfl λH=>?_
 unfold cn at h
 exact SW.kk 33 H [(0,Ip p0),(1,vI p1),(2,vI p2)]<|SW.t 1<|SW.S<|aa.t 4<|aa.p (ax.len (enc:=cP.enc) (xs:=p0))<|lj h λhk h=>aa.p (s:=.undef) (ax.OF (enc:=cP.enc) (xs:=p0) hk)<|aa.E<|SW.seq<|SW.t 1<|SW.b h (λh=>SW.S<|aa.ts [17] 2<|aa.E<|SW.ret<|ag<|iI h▸E0) (λh=>SW.skip<|af<|SW.S<|aa.t 1<|aa.p (ax.len (enc:=cP.enc) (xs:=p0))<|aa.t 1<|aa.E<|lj h λhk h=>SW.kk 33 H [(0,Ip p0),(1,vI p1),(2,vI p2),(7,vI (p0.length:Int))]<|(by obtain⟨hT,ti,z,zd,hi,hz,hzd,hzn,hsz,hn,hby⟩:=oq (P:=Tryz.prog) (T:=88) (e:=83) (n:=1) κ;exact SW.MV (enc:=cP.enc) (xs:=p0) (i:=p1) (j:=p2) (T:=88) (s:=0) (a1:=1) (a2:=2) (a3:=7) (t1:=20) (t2:=21) (t3:=22) (t4:=23) (t5:=24) (t6:=25) (t7:=26) (u1:=27) (u2:=28) (u3:=29) (u4:=30) (u5:=31) (gD:=(sp 33 [(0,Nd p1 p0 p2),(1,vI p1),(2,vI p2),(7,vI (p0.length:Int))] H)) hk κ κ ⟨rfl,rfl,rfl⟩ ⟨rfl,rfl,rfl⟩ ⟨rfl,rfl,rfl⟩ ⟨rfl,rfl,rfl⟩ ⟨rfl,rfl,rfl⟩ ⟨rfl,rfl,rfl⟩ ⟨rfl,rfl,rfl⟩ ⟨rfl,rfl,rfl⟩ ⟨rfl,rfl,rfl⟩ ⟨rfl,rfl,rfl⟩ ⟨rfl,rfl,rfl⟩ ⟨rfl,rfl,rfl⟩ ⟨rfl,rfl,rfl⟩ ⟨rfl,rfl,rfl⟩ κ κ (by decide) (by decide) hT hi hz hzd hzn hsz hn hby κ κ κ κ κ<|SW.kk 33 H [(0,Nd p1 p0 p2)]<|SW.S<|aa.ts [32] 2<|aa.E<|SW.ret<|iI h▸E0))
def uQ(xs:List D):D:=D.list 3 (List.map id xs)
def ki(fuel:Nat)(p1:Int):Option ((List D)):=
 bif (decide (p1<0))then
  none
 else
  bif (decide ((IntKind.wrap .i64 (p1 - 0))>0))then
   dx (decide (0<(IntKind.wrap .i64 (p1 - 0)))&&decide ((IntKind.wrap .i64 (p1 - 0))<=(room:Nat)))<|
   some []
  else
   some []
def Ak(x0:(List (List D))):SV:=.d (.list 1 (List.map uQ x0))
def Nc:SV:=.d (.iface 9 (.str [108,101,110,32,111,117,116,32,111,102,32,114,97,110,103,101]))
def Nb(x0:Int×Int)(x1:(List D)):SV:=vI (IntKind.wrap .i64 (x0.1+(x1.length:Int)))
def Na:SV:=.d (.iface 9 (.str [99,97,110,110,111,116,32,98,101,32,110,101,103,97,116,105,118,101]))
def Of(x0:Int):SV:=.own 3 (List.replicate (Int.toNat (IntKind.wrap .i64 (x0 - 0))) (.agg [.bD,.int .i64 0,.int .i64 0]))
theorem qp(h:ki fuel p1=some r):PC Tryz.prog 130 [.d (.bD),vI p1] (.own 3 (List.map id r)):=by
 refine PC.bo Tryz.func130 rfl λH=>?_
 unfold ki at h
 exact SW.kk 27 H [(0,.d (.bD)),(1,vI p1)]<|SW.t 1<|SW.seq<|SW.t 1<|SW.b h (λh=>SW.al<|aa.sg 27 H [] [0,1,7] 1 [(0,.d (.bD)),(1,vI p1),(7,Na)] κ<|(by cases h)) (λh=>SW.skip<|af<|SW.seq<|SW.S<|aa.t 2<|aa.p ax.JE<|aa.t 1<|aa.t 1<|aa.t 3<|aa.E<|SW.t 1<|SW.b h (λh=>SW.al<|aa.ts [20] 2<|aa.p ax.JE<|aa.p ax.OE<|aa.s [20] [0,20,21] 1<|lj h λhk h=>aa.OI (zd:=.agg [.bD,.int .i64 0,.int .i64 0]) (d:=22) (n:=3) (m:=(IntKind.wrap .i64 (p1 - 0))) 27 H [0,22] [(0,.d (.bD)),(22,Of p1)] hk κ κ<|aa.ts [20] 1<|aa.s [] [22,24] 1<|aa.cut (d:=some 25) (s:=22) (n:=3) (enc:=id) (xs:=(List.replicate (Int.toNat (IntKind.wrap .i64 (p1 - 0))) (.agg [.bD,.int .i64 0,.int .i64 0]))) (j:=0) 27 H [25] [(25,.own 3 (List.map id []))] (by simp[kn];omega) (by simp only[List.map_id];kernel_rfl) κ<|aa.ts [20] 1<|aa.E<|SW.S<|aa.ts [26] 2<|aa.E<|SW.ret<|iI h▸E0) (λh=>SW.skip<|af<|SW.t 1<|SW.ret<|iI h▸ER [(4,3)]))
def nc(fuel:Nat)(p0:(List (List D)))(y1:Int×Int):Option ((Int×Int)⊕(Int)):=
 bif (decide (y1.2<(p0.length:Int)))then
  (idx p0 y1.2).bind λx2=>
  bif (decide ((IntKind.wrap .i64 (y1.1+(x2.length:Int)))<0))then
   none
  else
   some (.inl ((IntKind.wrap .i64 (y1.1+(x2.length:Int))),(IntKind.wrap .i64 (y1.2+1))))
 else
  some (.inr y1.1)
def m9(fuel:Nat)(p0:(List (List D)))(y6:(List D)×Int):Option (((List D)×Int)⊕((List D))):=
 bif (decide (y6.2<(p0.length:Int)))then
  (idx p0 y6.2).bind λx7=>
  dx (decide ((y6.1++x7).length<=room))<|
  some (.inl ((y6.1++x7),(IntKind.wrap .i64 (y6.2+1))))
 else
  some (.inr y6.1)
def mQ(fuel:Nat)(p0:(List (List D))):Option ((List D)):=
 (iter (nc fuel p0) fuel (0,0)).bind λv4=>
 (ki fuel v4).bind λr5=>
 (iter (m9 fuel p0) fuel (r5,0)).bind λv9=>
 some v9
theorem tC(h:mQ fuel p0=some r):PC Tryz.prog 122 [.d (.list 1 (List.map uQ p0))] (.own 3 (List.map id r)):=by
 refine PC.bo Tryz.func122 rfl λH=>?_
 unfold mQ at h
 exact SW.kk 36 H [(0,Ak p0)]<|SW.t 2<|SW.seq<|SW.S<|aa.t 1<|aa.p (ax.len (enc:=uQ) (xs:=p0))<|aa.t 1<|aa.E<|SW.block<|bI h λv4 hit h=>SW.it 36 H [0,3,9,10,11] (λy1=>[(0,Ak p0),(3,vI y1.1),(9,Ak p0),(10,vI (p0.length:Int)),(11,vI y1.2)]) (λv4 e s=>(e=.exit 0/\s=(sp 36 [(0,Ak p0),(3,vI v4)] H))) hit κ (λy1 o h=>by unfold nc at h;exact SW.t 1<|SW.seq<|SW.b h (λh=>SW.skip<|af<|SW.seq<|SW.block<|SW.S<|bI h λx2 hx h=>aa.p (s:=aI none (Go.Sh.D.cells (uQ x2))) (ax.index (n:=1) hx)<|aa.t 2<|aa.E<|SW.S<|aa.t 2<|aa.p (ax.len (enc:=id) (xs:=x2))<|aa.t 2<|aa.E<|SW.t 1<|SW.b h (λh=>SW.al<|aa.sg 36 H [] [0,3,9,10,11,21] 1 [(0,Ak p0),(3,Nb y1 x2),(9,Ak p0),(10,vI (p0.length:Int)),(11,vI y1.2),(21,Nc)] κ<|(by cases h)) (λh=>SW.skip<|aB<|af<|SW.al<|aa.t 2<|aa.D<|LQ h)) (λh=>SW.kk 36 H [(0,Ak p0),(3,vI y1.1)]<|SW.exit<|aG<|aG<|LR h ⟨rfl,rfl⟩)) (by rintro _ _ ⟨rfl,rfl⟩;exact aM<|af<|SW.S<|aa.t 1<|bI h λr5 hr h=>aa.cl 36 H (d:=some 24) (ls:=[]) (gs:=[]) [1000] [0,24] [(0,Ak p0),(24,.own 3 (List.map id r5))] (qp hr) κ κ κ<|aa.t 1<|aa.E<|SW.seq<|SW.S<|aa.t 1<|aa.p (ax.len (enc:=uQ) (xs:=p0))<|aa.t 1<|aa.E<|SW.block<|bI h λv9 hit h=>SW.it 36 H [6,25,26,27] (λy6=>[(6,.own 3 (List.map id y6.1)),(25,Ak p0),(26,vI (p0.length:Int)),(27,vI y6.2)]) (λv9 e s=>(e=.exit 2/\s=(sp 36 [(6,.own 3 (List.map id v9))] H))) hit κ (λy6 o h=>by unfold m9 at h;exact SW.t 1<|SW.seq<|SW.b h (λh=>SW.skip<|af<|SW.seq<|SW.block<|SW.S<|bI h λx7 hx h=>aa.p (s:=aI none (Go.Sh.D.cells (uQ x7))) (ax.index (n:=1) hx)<|aa.t 2<|aa.E<|SW.al<|aa.ts [31] 2<|lj h λhk h=>aa.ap 31 3 (List.map id (y6.1++x7)) (aS) (bx hk)<|aa.ts [31] 1<|aa.D<|aB<|af<|SW.al<|aa.t 2<|aa.D<|LQ h) (λh=>SW.kk 36 H [(6,.own 3 (List.map id y6.1))]<|SW.exit<|aG<|aG<|LR h ⟨rfl,rfl⟩)) (by rintro _ _ ⟨rfl,rfl⟩;exact aM<|af<|SW.S<|aa.ts [35] 2<|aa.E<|SW.ret<|iI h▸E0))
end
theorem rU{α:Type}{fuel:Nat}{yss:List (List α)}{r:List α}(hs:yss.length<1000)(h:xW fuel yss=some r):r=yss.flatten/\ ∀zss:List (List D),zss.map List.length=yss.map List.length->PC Tryz.prog 122 [.d (.list 1 (zss.map (.list 3)))] (.own 3 zss.flatten):=by
 obtain⟨h1,h2⟩:=BT hs h
 refine⟨h1,λzss hz=>?_⟩
 have:=tC (show mQ fuel zss=some zss.flatten from h2 zss hz)
 have he:uQ=D.list 3:=by funext xs;simp[uQ]
 rw[he,List.map_id]at this
 exact this
def uP(xs:List D):D:=D.list 1 (List.map id xs)
def fQ(fuel:Nat)(p1:Int):Option ((List D)):=
 bif (decide (p1<0))then
  none
 else
  bif (decide ((IntKind.wrap .i64 (p1 - 0))>0))then
   dx (decide (0<(IntKind.wrap .i64 (p1 - 0)))&&decide ((IntKind.wrap .i64 (p1 - 0))<=(room:Nat)))<|
   some []
  else
   some []
def Aj(x0:(List (List D))):SV:=.d (.list 1 (List.map uP x0))
def Oe(x0:Int):SV:=.own 1 (List.replicate (Int.toNat (IntKind.wrap .i64 (x0 - 0))) (.dZ))
section
attribute [local irreducible] aa aA bb au SW uS
theorem mP(h:fQ fuel p1=some r):PC Tryz.prog 131 [.d (.bD),vI p1] (.own 1 (List.map id r)):=by
 refine PC.bo Tryz.func131 rfl λH=>?_
 unfold fQ at h
 exact SW.kk 27 H [(0,.d (.bD)),(1,vI p1)]<|SW.t 1<|SW.seq<|SW.t 1<|SW.b h (λh=>SW.al<|aa.sg 27 H [] [0,1,7] 1 [(0,.d (.bD)),(1,vI p1),(7,Na)] κ<|(by cases h)) (λh=>SW.skip<|af<|SW.seq<|SW.S<|aa.t 2<|aa.p ax.JE<|aa.t 1<|aa.t 1<|aa.t 3<|aa.E<|SW.t 1<|SW.b h (λh=>SW.al<|aa.ts [20] 2<|aa.p ax.JE<|aa.p ax.OE<|aa.s [20] [0,20,21] 1<|lj h λhk h=>aa.OI (zd:=.dZ) (d:=22) (n:=1) (m:=(IntKind.wrap .i64 (p1 - 0))) 27 H [0,22] [(0,.d (.bD)),(22,Oe p1)] hk κ κ<|aa.ts [20] 1<|aa.s [] [22,24] 1<|aa.cut (d:=some 25) (s:=22) (n:=1) (enc:=id) (xs:=(List.replicate (Int.toNat (IntKind.wrap .i64 (p1 - 0))) (.dZ))) (j:=0) 27 H [25] [(25,.own 1 (List.map id []))] (by simp[kn];omega) (by simp only[List.map_id];kernel_rfl) κ<|aa.ts [20] 1<|aa.E<|SW.S<|aa.ts [26] 2<|aa.E<|SW.ret<|iI h▸E0) (λh=>SW.skip<|af<|SW.t 1<|SW.ret<|iI h▸ER [(4,1)]))
def jW(fuel:Nat)(p0:(List (List D)))(y1:Int×Int):Option ((Int×Int)⊕(Int)):=
 bif (decide (y1.2<(p0.length:Int)))then
  (idx p0 y1.2).bind λx2=>
  bif (decide ((IntKind.wrap .i64 (y1.1+(x2.length:Int)))<0))then
   none
  else
   some (.inl ((IntKind.wrap .i64 (y1.1+(x2.length:Int))),(IntKind.wrap .i64 (y1.2+1))))
 else
  some (.inr y1.1)
def jV(fuel:Nat)(p0:(List (List D)))(y6:(List D)×Int):Option (((List D)×Int)⊕((List D))):=
 bif (decide (y6.2<(p0.length:Int)))then
  (idx p0 y6.2).bind λx7=>
  dx (decide ((y6.1++x7).length<=room))<|
  some (.inl ((y6.1++x7),(IntKind.wrap .i64 (y6.2+1))))
 else
  some (.inr y6.1)
def iK(fuel:Nat)(p0:(List (List D))):Option ((List D)):=
 (iter (jW fuel p0) fuel (0,0)).bind λv4=>
 (fQ fuel v4).bind λr5=>
 (iter (jV fuel p0) fuel (r5,0)).bind λv9=>
 some v9
theorem oN(h:iK fuel p0=some r):PC Tryz.prog 123 [.d (.list 1 (List.map uP p0))] (.own 1 (List.map id r)):=by
 refine PC.bo Tryz.func123 rfl λH=>?_
 unfold iK at h
 exact SW.kk 36 H [(0,Aj p0)]<|SW.t 2<|SW.seq<|SW.S<|aa.t 1<|aa.p (ax.len (enc:=uP) (xs:=p0))<|aa.t 1<|aa.E<|SW.block<|bI h λv4 hit h=>SW.it 36 H [0,3,9,10,11] (λy1=>[(0,Aj p0),(3,vI y1.1),(9,Aj p0),(10,vI (p0.length:Int)),(11,vI y1.2)]) (λv4 e s=>(e=.exit 0/\s=(sp 36 [(0,Aj p0),(3,vI v4)] H))) hit κ (λy1 o h=>by unfold jW at h;exact SW.t 1<|SW.seq<|SW.b h (λh=>SW.skip<|af<|SW.seq<|SW.block<|SW.S<|bI h λx2 hx h=>aa.p (s:=aI none (Go.Sh.D.cells (uP x2))) (ax.index (n:=1) hx)<|aa.t 2<|aa.E<|SW.S<|aa.t 2<|aa.p (ax.len (enc:=id) (xs:=x2))<|aa.t 2<|aa.E<|SW.t 1<|SW.b h (λh=>SW.al<|aa.sg 36 H [] [0,3,9,10,11,21] 1 [(0,Aj p0),(3,Nb y1 x2),(9,Aj p0),(10,vI (p0.length:Int)),(11,vI y1.2),(21,Nc)] κ<|(by cases h)) (λh=>SW.skip<|aB<|af<|SW.al<|aa.t 2<|aa.D<|LQ h)) (λh=>SW.kk 36 H [(0,Aj p0),(3,vI y1.1)]<|SW.exit<|aG<|aG<|LR h ⟨rfl,rfl⟩)) (by rintro _ _ ⟨rfl,rfl⟩;exact aM<|af<|SW.S<|aa.t 1<|bI h λr5 hr h=>aa.cl 36 H (d:=some 24) (ls:=[]) (gs:=[]) [1000] [0,24] [(0,Aj p0),(24,.own 1 (List.map id r5))] (mP hr) κ κ κ<|aa.t 1<|aa.E<|SW.seq<|SW.S<|aa.t 1<|aa.p (ax.len (enc:=uP) (xs:=p0))<|aa.t 1<|aa.E<|SW.block<|bI h λv9 hit h=>SW.it 36 H [6,25,26,27] (λy6=>[(6,.own 1 (List.map id y6.1)),(25,Aj p0),(26,vI (p0.length:Int)),(27,vI y6.2)]) (λv9 e s=>(e=.exit 2/\s=(sp 36 [(6,.own 1 (List.map id v9))] H))) hit κ (λy6 o h=>by unfold jV at h;exact SW.t 1<|SW.seq<|SW.b h (λh=>SW.skip<|af<|SW.seq<|SW.block<|SW.S<|bI h λx7 hx h=>aa.p (s:=aI none (Go.Sh.D.cells (uP x7))) (ax.index (n:=1) hx)<|aa.t 2<|aa.E<|SW.al<|aa.ts [31] 2<|lj h λhk h=>aa.ap 31 1 (List.map id (y6.1++x7)) (aS) (bx hk)<|aa.ts [31] 1<|aa.D<|aB<|af<|SW.al<|aa.t 2<|aa.D<|LQ h) (λh=>SW.kk 36 H [(6,.own 1 (List.map id y6.1))]<|SW.exit<|aG<|aG<|LR h ⟨rfl,rfl⟩)) (by rintro _ _ ⟨rfl,rfl⟩;exact aM<|af<|SW.S<|aa.ts [35] 2<|aa.E<|SW.ret<|iI h▸E0))
end
theorem nS{α:Type}{fuel:Nat}{yss:List (List α)}{r:List α}(hs:yss.length<1000)(h:xW fuel yss=some r):r=yss.flatten/\ ∀zss:List (List D),zss.map List.length=yss.map List.length->PC Tryz.prog 123 [.d (.list 1 (zss.map (.list 1)))] (.own 1 zss.flatten):=by
 obtain⟨h1,h2⟩:=BT hs h
 refine⟨h1,λzss hz=>?_⟩
 have:=oN (show iK fuel zss=some zss.flatten from h2 zss hz)
 have he:uP=D.list 1:=by funext xs;simp[uP]
 rw[he,List.map_id]at this
 exact this
def dr(fuel:Nat)(p0:Nat)(p1:Nat)(p2:Int)(H:Hp):Option ((Unit)×Hp):=
 (aW 1 cP H p1 1).bind λx1=>
 (idx x1 p2).bind λx2=>
 aP (λ(j3:Bool)=>
  bif j3 then
   (aW 1 cP H p1 1).bind λx10=>
   (idx x10 (IntKind.wrap .i64 (p2 - 1))).bind λx11=>
   x11.bind λi12=>
   (aW 3 ay H i12 0).bind λx13=>
   x2.bind λi14=>
   (cw 3 ay H i14 0).bind λq15=>
   (aW 3 ay H p1 0).bind λx17=>
   (idx x17 (IntKind.wrap .i64 (p2 - 1))).bind λx18=>
   (dF fuel q15.1 0 [x18]).bind λr19=>
   x2.bind λi20=>
   (bT 3 ay q15.2 i20 0 r19).bind λH21=>
   x11.bind λi22=>
   (cw 3 ay H21 p1 0).bind λq23=>
   (aW 3 ay H21 i22 0).bind λx25=>
   (idx x25 (IntKind.wrap .i64 ((x13.length:Int) - 1))).bind λx26=>
   (idx q23.1 (IntKind.wrap .i64 (p2 - 1))).bind λx27=>
   dx (decide ((Int.toNat (IntKind.wrap .i64 (p2 - 1)))<q23.1.length))<|
   (bT 3 ay q23.2 p1 0 (List.set q23.1 (Int.toNat (IntKind.wrap .i64 (p2 - 1))) x26)).bind λH28=>
   x11.bind λi29=>
   (cw 3 ay H28 i29 0).bind λq30=>
   dx (kn q30.1 0 (IntKind.wrap .i64 ((x13.length:Int) - 1)))<|
   x11.bind λi31=>
   (bT 3 ay q30.2 i31 0 (List.take (Int.toNat (IntKind.wrap .i64 ((x13.length:Int) - 1))) q30.1)).bind λH32=>
   aP (λ(j33:Hp)=>
    some ((),j33)) λjp34=>
   x2.bind λi35=>
   (bH fuel i35 H32).bind λr36=>
   bif (!r36)then
    x11.bind λi37=>
    (cw 1 cP H32 i35 1).bind λq38=>
    (aW 1 cP H32 i37 1).bind λx40=>
    (idx x40 (IntKind.wrap .i64 ((IntKind.wrap .i64 ((x13.length:Int) - 1))+1))).bind λx41=>
    x41.bind λi42=>
    (bV fuel q38.1 0 [(some i42)]).bind λr43=>
    (bT 1 cP q38.2 i35 1 r43).bind λH44=>
    x11.bind λi45=>
    (cw 1 cP H44 i45 1).bind λq46=>
    dx (kn q46.1 0 (IntKind.wrap .i64 ((IntKind.wrap .i64 ((x13.length:Int) - 1))+1)))<|
    x11.bind λi47=>
    (bT 1 cP q46.2 i47 1 (List.take (Int.toNat (IntKind.wrap .i64 ((IntKind.wrap .i64 ((x13.length:Int) - 1))+1))) q46.1)).bind λH48=>
    jp34 H48
   else
    jp34 H32
  else
   aP (λ(j49:Bool)=>
    bif j49 then
     (aW 1 cP H p1 1).bind λx57=>
     (idx x57 (IntKind.wrap .i64 (p2+1))).bind λx58=>
     x2.bind λi59=>
     (cw 3 ay H i59 0).bind λq60=>
     (aW 3 ay H p1 0).bind λx62=>
     (idx x62 p2).bind λx63=>
     dx (decide ((q60.1++[x63]).length<=room))<|
     x2.bind λi65=>
     (bT 3 ay q60.2 i65 0 (q60.1++[x63])).bind λH66=>
     x58.bind λi67=>
     (cw 3 ay H66 p1 0).bind λq68=>
     (aW 3 ay H66 i67 0).bind λx70=>
     (idx x70 0).bind λx71=>
     (idx q68.1 p2).bind λx72=>
     dx (decide ((Int.toNat p2)<q68.1.length))<|
     (bT 3 ay q68.2 p1 0 (List.set q68.1 (Int.toNat p2) x71)).bind λH73=>
     x58.bind λi74=>
     (cw 3 ay H73 i74 0).bind λq75=>
     (dG fuel q75.1 0 1).bind λr76=>
     x58.bind λi77=>
     (bT 3 ay q75.2 i77 0 r76).bind λH78=>
     aP (λ(j79:Hp)=>
      some ((),j79)) λjp80=>
     x2.bind λi81=>
     (bH fuel i81 H78).bind λr82=>
     bif (!r82)then
      x58.bind λi83=>
      (cw 1 cP H78 i81 1).bind λq84=>
      (aW 1 cP H78 i83 1).bind λx86=>
      (idx x86 0).bind λx87=>
      x87.bind λi88=>
      dx (decide ((q84.1++[(some i88)]).length<=room))<|
      (bT 1 cP q84.2 i81 1 (q84.1++[(some i88)])).bind λH90=>
      x58.bind λi91=>
      (cw 1 cP H90 i91 1).bind λq92=>
      (cn fuel q92.1 0 1).bind λr93=>
      x58.bind λi94=>
      (bT 1 cP q92.2 i94 1 r93).bind λH95=>
      jp80 H95
     else
      jp80 H78
    else
     (aW 1 cP H p1 1).bind λx96=>
     (idx x96 (bif decide (0<(IntKind.wrap .i64 (p2 - 1)))then(IntKind.wrap .i64 (p2 - 1))else 0)).bind λx97=>
     (aW 1 cP H p1 1).bind λx98=>
     (idx x98 (IntKind.wrap .i64 ((bif decide (0<(IntKind.wrap .i64 (p2 - 1)))then(IntKind.wrap .i64 (p2 - 1))else 0)+1))).bind λx99=>
     x97.bind λi100=>
     x99.bind λi101=>
     (aW 3 ay H i100 0).bind λx102=>
     (aW 3 ay H p1 0).bind λx103=>
     dx (kn x103 (bif decide (0<(IntKind.wrap .i64 (p2 - 1)))then(IntKind.wrap .i64 (p2 - 1))else 0) (IntKind.wrap .i64 ((bif decide (0<(IntKind.wrap .i64 (p2 - 1)))then(IntKind.wrap .i64 (p2 - 1))else 0)+1)))<|
     (aW 3 ay H i101 0).bind λx105=>
     (xW fuel [x102,(sl x103 (bif decide (0<(IntKind.wrap .i64 (p2 - 1)))then(IntKind.wrap .i64 (p2 - 1))else 0) (IntKind.wrap .i64 ((bif decide (0<(IntKind.wrap .i64 (p2 - 1)))then(IntKind.wrap .i64 (p2 - 1))else 0)+1))),x105]).bind λr106=>
     x97.bind λi107=>
     (bT 3 ay H i107 0 r106).bind λH108=>
     x97.bind λi109=>
     x99.bind λi110=>
     (aW 1 cP H108 i109 1).bind λx111=>
     (aW 1 cP H108 i110 1).bind λx112=>
     (xW fuel [x111,x112]).bind λr113=>
     x97.bind λi114=>
     (bT 1 cP H108 i114 1 r113).bind λH115=>
     (cw 3 ay H115 p1 0).bind λq116=>
     (dG fuel q116.1 (bif decide (0<(IntKind.wrap .i64 (p2 - 1)))then(IntKind.wrap .i64 (p2 - 1))else 0) (IntKind.wrap .i64 ((bif decide (0<(IntKind.wrap .i64 (p2 - 1)))then(IntKind.wrap .i64 (p2 - 1))else 0)+1))).bind λr117=>
     (bT 3 ay q116.2 p1 0 r117).bind λH118=>
     (cw 1 cP H118 p1 1).bind λq119=>
     (cn fuel q119.1 (IntKind.wrap .i64 ((bif decide (0<(IntKind.wrap .i64 (p2 - 1)))then(IntKind.wrap .i64 (p2 - 1))else 0)+1)) (IntKind.wrap .i64 ((bif decide (0<(IntKind.wrap .i64 (p2 - 1)))then(IntKind.wrap .i64 (p2 - 1))else 0)+2))).bind λr120=>
     (bT 1 cP q119.2 p1 1 r120).bind λH121=>
     some ((),H121)) λjp50=>
   (aW 1 cP H p1 1).bind λx51=>
   bif (decide ((IntKind.wrap .i64 (p2+1))<(x51.length:Int)))then
    (aW 1 cP H p1 1).bind λx52=>
    (idx x52 (IntKind.wrap .i64 (p2+1))).bind λx53=>
    x53.bind λi54=>
    (aW 3 ay H i54 0).bind λx55=>
    (b9 fuel p0 H).bind λr56=>
    jp50 (decide ((x55.length:Int)>r56))
   else
    jp50 false) λjp4=>
 bif (decide (p2>0))then
  (aW 1 cP H p1 1).bind λx5=>
  (idx x5 (IntKind.wrap .i64 (p2 - 1))).bind λx6=>
  x6.bind λi7=>
  (aW 3 ay H i7 0).bind λx8=>
  (b9 fuel p0 H).bind λr9=>
  jp4 (decide ((x8.length:Int)>r9))
 else
  jp4 false
section
attribute [local irreducible] aa aA bb au SW uS
def K21:=λa0 a1 a2 (t:SL)=>((1,.d (.ptr a0 0))::(2,vI a1)::(6,.d (cP.enc a2))::t:SL)
def K36:=λa0 a1 a2 (t:SL)=>((6,.d (cP.enc a0))::(7,.d (cP.enc a1))::(8,xX a2)::t:SL)
def K43:=λa0 a1 (t:SL)=>((6,.d (cP.enc a0))::(9,.d (cP.enc a1))::t:SL)
def K45:=λa0 a1 a2 (t:SL)=>((7,.d (cP.enc a0))::(8,xX a1)::(104,.d (.ptr a2 0))::t:SL)
def K55:=λa0 a1 (t:SL)=>((9,.d (cP.enc a0))::(211,.d (.ptr a1 0))::t:SL)
def K56:=λa0 a1 a2 a3 a4 a5 (t:SL)=>((1,.d (.ptr a0 0))::(2,vI a1)::(6,.d (cP.enc a2))::(7,.d (cP.enc a3))::(8,xX a4)::(54,.d (cP.enc a5))::t:SL)
theorem vY(h:dr fuel p0 p1 p2 H=some r):SC Tryz.prog false 110 [.d (.ptr p0 0),.d (.ptr p1 0),vI p2] H (.gC []) r.2:=by
 refine SC.fc Tryz.func110 rfl ?_
 unfold dr at h
 exact SW.kk 315 H (K17 p0 p1 [(2,vI p2)])<|SW.S<|aa.t 3<|bI h λx1 hx h=>aa.p (ax.gK hx)<|aa.t 1<|bI h λx2 hx h=>aa.p (s:=aI (some (.an p1 1)) [cP.enc x2]) (ax.ff (n:=1) hx)<|aa.t 2<|aa.E<|SW.seq<|SW.J 315 H [0,1,2,6,38] (λ(j3:Bool)=>(K17 p0 p1 [(2,vI p2),(6,.d (cP.enc x2)),(38,vB j3)])) h (λj3 h=>SW.b h (λh=>SW.S<|aa.t 3<|bI h λx10 hx h=>aa.p (ax.gK hx)<|aa.t 2<|bI h λx11 hx h=>aa.p (s:=aI (some (.an p1 1)) [cP.enc x11]) (ax.ff (n:=1) hx)<|aa.t 2<|aa.E<|SW.S<|aa.t 1<|bI h λi12 hp_i12 h=>aa.p (s:=.d (.ptr i12 0)) (ax.dS hp_i12)<|aa.t 2<|bI h λx13 hx h=>aa.p (ax.gK hx)<|aa.p (ax.len (enc:=ab) (xs:=x13))<|aa.t 2<|aa.E<|SW.seq<|bI h λi14 hp_i14 h=>bI h λq15 hq15 h=>bI h λx17 hx_10 h=>bI h λx18 hx18 h=>bI h λr19 hr_16 h=>bI h λi20 hp_i20 h=>bI h λH21 hx_20 h=>SW.kk 315 H (K21 p1 p2 x2 [(7,.d (cP.enc x11)),(8,xX x13)])<|SW.gI i14 0 λv16=>SW.lX [0,1,2,3,4,6,7,8,9,11,12,5,10,13,14] [15,16,17,18,19,20] κ κ<|au.t<|au.t<|au.p (s:=.d (.ptr i14 0)) (ax.dS hp_i14)<|au.t<|au.t<|au.t<|au.t<|au.t<|au.t<|au.t<|au.sg 315 (cK H i14 0 v16) [1,2,6,7,8,54,58,63,66] (K56 p1 p2 x2 x11 x13 x2 [(58,.d (.ptr i14 0)),(63,.d (.ptr p1 0)),(66,FH p2)]) κ<|au.on 315 (cK H i14 0 v16) (d:=some 59) (s:=.d (.raw v16)) [1,2,6,7,8,54,59,63,66] (K56 p1 p2 x2 x11 x13 x2 [(59,.d (.raw v16)),(63,.d (.ptr p1 0)),(66,FH p2)]) (ax.Fl (c:=ay) (n':=3) hq15 κ) κ<|au.p (s:=.bp (.an p1 0) 3 (List.map ab x17)) (ax.pn (ax.gK (c:=ay) hx_10 κ))<|au.p (s:=aI (some (.an p1 0)) (Go.Sh.D.cells (ab x18))) (ax.index (n:=3) hx18)<|au.t<|au.D<|aa.ts [59] 1<|aa.fz 315 (cK H i14 0 v16) 69 [1,2,6,7,8,54,59,69] (K56 p1 p2 x2 x11 x13 x2 [(59,.d (.raw v16)),(69,JM x18)]) κ<|aa.Km (c:=ay) (n':=3) (t:=59) [1,2,6,7,8,54,59,69] (K56 p1 p2 x2 x11 x13 x2 [(59,B5 q15),(69,JM x18)]) hq15 κ κ κ<|aa.C (d:=some 70) (ls:=[]) (gs:=[(59,0)]) [0] (K56 p1 p2 x2 x11 x13 x2 [(70,.own 3 (List.map ab r19))]) (kg hr_16)<|aa.p (s:=.d (.ptr i20 0)) (ax.dS hp_i20)<|aa.ts [59] 1<|aa.ts [59] 1<|aa.gv 70 hx_20<|aa.E<|SW.seq<|bI h λi22 hp_i22 h=>bI h λq23 hq23 h=>bI h λx25 hx_11 h=>bI h λx26 hx26 h=>bI h λx27 hx27 h=>lj h λhk_16 h=>bI h λH28 hH28 h=>SW.kk 315 H21 (K21 p1 p2 x2 [(7,.d (cP.enc x11)),(8,xX x13)])<|SW.gI p1 0 λv24=>SW.lX [0,1,2,3,5,7,8,9,10,12,6,4,11,13,14] [15,16] κ κ<|au.t<|au.t<|au.t<|au.t<|au.t<|au.t<|au.p (s:=.d (.ptr i22 0)) (ax.dS hp_i22)<|au.t<|au.t<|au.t<|au.sg 315 (cK H21 p1 0 v24) [6,7,8,77,80,84,86] (K36 x2 x11 x13 [(77,.d (.ptr p1 0)),(80,FH p2),(84,.d (.ptr i22 0)),(86,xX x13)]) κ<|au.on 315 (cK H21 p1 0 v24) (d:=some 78) (s:=.d (.raw v24)) [6,7,8,78,80,84,86] (K36 x2 x11 x13 [(78,.d (.raw v24)),(80,FH p2),(84,.d (.ptr i22 0)),(86,xX x13)]) (ax.Fl (c:=ay) (n':=3) hq23 κ) κ<|au.p (s:=.bp (.an i22 0) 3 (List.map ab x25)) (ax.pn (ax.gK (c:=ay) hx_11 κ))<|au.p (s:=aI (some (.an i22 0)) (Go.Sh.D.cells (ab x26))) (ax.index (n:=3) hx26)<|au.sg 315 (cK H21 p1 0 v24) [6,7,8,78,80,88] (K36 x2 x11 x13 [(78,.d (.raw v24)),(80,FH p2),(88,kY x26)]) κ<|au.D<|aa.Lm (c:=ay) (n':=3) (t:=78) [6,7,8,78,80,88] (K36 x2 x11 x13 [(78,.gI v24 3 (List.map ab q23.1)),(80,FH p2),(88,kY x26)]) hq23 κ κ κ<|aa.o (s:=.ep 78 3 (Int.toNat (IntKind.wrap .i64 (p2 - 1)))) [6,7,8,78,88,89] (ax.NW (enc:=ab) (xs:=q23.1) hx27)<|aa.sep (s:=78) (n:=3) (j:=(Int.toNat (IntKind.wrap .i64 (p2 - 1)))) (enc:=ab) (xs:=q23.1) (x:=x26) (p:=(some v24)) 315 (sL q23.2 p1 0 v24) [6,7,8,78] (K36 x2 x11 x13 [(78,.gI v24 3 (List.map ab (List.set q23.1 (Int.toNat (IntKind.wrap .i64 (p2 - 1))) x26)))]) hk_16 κ κ<|aa.Kx (c:=ay) (n':=3) (s:=78) [6,7,8] (K36 x2 x11 x13 []) hH28 κ κ κ<|aa.E<|SW.S<|aa.ts [95] 2<|bI h λi29 hp_i29 h=>aa.p (s:=.d (.ptr i29 0)) (ax.dS hp_i29)<|aa.ts [95] 2<|bI h λq30 hq h=>aa.tk hq<|aa.s [95] [6,7,8,90,95,96] 1<|lj h λhk h=>aa.cut (d:=some 97) (s:=95) (n:=3) (enc:=ab) (xs:=q30.1) (j:=(IntKind.wrap .i64 ((x13.length:Int) - 1))) 315 q30.2 [6,7,8,90,97] (K36 x2 x11 x13 [(90,.d (cP.enc x11)),(97,Oi x13 q30)]) hk κ κ<|bI h λi31 hp_i31 h=>aa.p (s:=.d (.ptr i31 0)) (ax.dS hp_i31)<|aa.ts [95] 2<|bI h λH32 hx h=>aa.gv 97 hx<|aa.E<|SW.JH 315 [] (λ(j33:Hp)=>[]) (λ(j33:Hp)=>j33) h (λj33 h=>SW.ret<|ag<|iI h▸E0) λjp34 h=>SW.S<|aa.s [] [6,7,8,101] 1<|bI h λi35 hp_i35 h=>aa.nG x2 (λp=>(sp 315 (K36 p x11 x13 [(101,.d (cP.enc p))]) H32)) κ hp_i35<|bI h λr36 hr h=>aa.g (ls:=[]) (da hr)<|aa.t 1<|aa.E<|SW.b h (λh=>SW.seq<|bI h λi37 hp_i37 h=>bI h λq38 hq38 h=>bI h λx40 hx_8 h=>bI h λx41 hx_11 h=>bI h λi42 hp_i42 h=>bI h λr43 hr_14 h=>bI h λH44 hx_17 h=>SW.kk 315 H32 [(6,.d (.ptr i35 0)),(7,.d (cP.enc x11)),(8,xX x13)]<|SW.gI i35 1 λv39=>SW.lX [0,1,2,3,5,6,7,9,10,4,8,11,12] [13,14,15,16,17] κ κ<|au.t<|au.t<|au.t<|au.t<|au.t<|au.p (s:=.d (.ptr i37 0)) (ax.dS hp_i37)<|au.t<|au.t<|au.sg 315 (cK H32 i35 1 v39) [7,8,104,107,111,114] (K45 x11 x13 i35 [(107,.d (.ptr i35 1)),(111,.d (.ptr i37 1)),(114,Nf x13)]) κ<|au.on 315 (cK H32 i35 1 v39) (d:=some 108) (s:=.d (.raw v39)) [7,8,104,108,111,114] (K45 x11 x13 i35 [(108,.d (.raw v39)),(111,.d (.ptr i37 1)),(114,Nf x13)]) (ax.Fl (c:=cP) (n':=1) hq38 κ) κ<|au.p (s:=.bp (.an i37 1) 1 (List.map cP.enc x40)) (ax.pn (ax.gK (c:=cP) hx_8 κ))<|au.p (s:=aI (some (.an i37 1)) [cP.enc x41]) (ax.ff (n:=1) hx_11)<|au.s [7,8,104,108,116]<|au.D<|aa.nG x41 (λp=>(sp 315 (K45 x11 x13 i35 [(108,.d (.raw v39)),(116,.d (cP.enc p))]) (cK H32 i35 1 v39))) κ hp_i42<|aa.t 1<|aa.fz 315 (cK H32 i35 1 v39) 117 [7,8,104,108,117] (K45 x11 x13 i35 [(108,.d (.raw v39)),(117,Nk i42)]) κ<|aa.Km (c:=cP) (n':=1) (t:=108) [7,8,104,108,117] (K45 x11 x13 i35 [(108,LH q38),(117,Nk i42)]) hq38 κ κ κ<|aa.C (d:=some 118) (ls:=[]) (gs:=[(108,0)]) [0] (K45 x11 x13 i35 [(118,.own 1 (List.map cP.enc r43))]) (jT hr_14)<|aa.ts [108] 1<|aa.ts [108] 1<|aa.gv 118 hx_17<|aa.E<|SW.al<|aa.ts [125] 2<|bI h λi45 hp_i45 h=>aa.p (s:=.d (.ptr i45 0)) (ax.dS hp_i45)<|aa.ts [125] 1<|bI h λq46 hq h=>aa.tk hq<|aa.s [125] [121,125,127] 2<|lj h λhk h=>aa.cut (d:=some 128) (s:=125) (n:=1) (enc:=cP.enc) (xs:=q46.1) (j:=(IntKind.wrap .i64 ((IntKind.wrap .i64 ((x13.length:Int) - 1))+1))) 315 q46.2 [121,128] [(121,.d (cP.enc x11)),(128,Oh x13 q46)] hk κ κ<|bI h λi47 hp_i47 h=>aa.p (s:=.d (.ptr i47 0)) (ax.dS hp_i47)<|aa.ts [125] 1<|bI h λH48 hx h=>aa.gv 128 hx<|aa.D<|JQ [] h) (λh=>SW.skip<|JQ [] h)) (λh=>SW.skip<|af<|SW.seq<|SW.J 315 H [1,2,6,156] (λ(j49:Bool)=>(K21 p1 p2 x2 [(156,vB j49)])) h (λj49 h=>SW.b h (λh=>SW.S<|aa.t 3<|bI h λx57 hx h=>aa.p (ax.gK hx)<|aa.t 2<|bI h λx58 hx h=>aa.p (s:=aI (some (.an p1 1)) [cP.enc x58]) (ax.ff (n:=1) hx)<|aa.t 2<|aa.E<|SW.seq<|bI h λi59 hp_i59 h=>bI h λq60 hq60 h=>bI h λx62 hx_10 h=>bI h λx63 hx63 h=>lj h λhk64 h=>bI h λi65 hp_i65 h=>bI h λH66 hx_19 h=>SW.kk 315 H (K21 p1 p2 x2 [(9,.d (cP.enc x58))])<|SW.gI i59 0 λv61=>SW.lX [0,1,2,3,4,6,7,8,9,11,5,10,12,13] [14,15,16,17,18,19] κ κ<|au.t<|au.t<|au.p (s:=.d (.ptr i59 0)) (ax.dS hp_i59)<|au.t<|au.t<|au.t<|au.t<|au.t<|au.t<|au.sg 315 (cK H i59 0 v61) [1,2,6,9,165,169,174,176] (K21 p1 p2 x2 [(9,.d (cP.enc x58)),(165,.d (cP.enc x2)),(169,.d (.ptr i59 0)),(174,.d (.ptr p1 0)),(176,vI p2)]) κ<|au.on 315 (cK H i59 0 v61) (d:=some 170) (s:=.d (.raw v61)) [1,2,6,9,165,170,174,176] (K21 p1 p2 x2 [(9,.d (cP.enc x58)),(165,.d (cP.enc x2)),(170,.d (.raw v61)),(174,.d (.ptr p1 0)),(176,vI p2)]) (ax.Fl (c:=ay) (n':=3) hq60 κ) κ<|au.p (s:=.bp (.an p1 0) 3 (List.map ab x62)) (ax.pn (ax.gK (c:=ay) hx_10 κ))<|au.p (s:=aI (some (.an p1 0)) (Go.Sh.D.cells (ab x63))) (ax.index (n:=3) hx63)<|au.t<|au.D<|aa.sg 315 (cK H i59 0 v61) [170] [1,2,6,9,165,170,179] 1 (K21 p1 p2 x2 [(9,.d (cP.enc x58)),(165,.d (cP.enc x2)),(170,.d (.raw v61)),(179,ui x63)]) κ<|aa.Km (c:=ay) (n':=3) (t:=170) [1,2,6,9,165,170,179] (K21 p1 p2 x2 [(9,.d (cP.enc x58)),(165,.d (cP.enc x2)),(170,B5 q60),(179,ui x63)]) hq60 κ κ κ<|aa.ap 170 3 (List.map ab (q60.1++[x63])) (aS) (bx hk64)<|aa.p (s:=.d (.ptr i65 0)) (ax.dS hp_i65)<|aa.ts [170] 1<|aa.ts [170] 1<|aa.gv 180 hx_19<|aa.E<|SW.seq<|bI h λi67 hp_i67 h=>bI h λq68 hq68 h=>bI h λx70 hx_10 h=>bI h λx71 hx71 h=>bI h λx72 hx72 h=>lj h λhk_14 h=>bI h λH73 hH73 h=>SW.kk 315 H66 (K21 p1 p2 x2 [(9,.d (cP.enc x58))])<|SW.gI p1 0 λv69=>SW.lX [0,1,2,3,5,6,7,8,9,4,10,11,12] [13,14] κ κ<|au.t<|au.t<|au.t<|au.t<|au.t<|au.t<|au.p (s:=.d (.ptr i67 0)) (ax.dS hp_i67)<|au.t<|au.sg 315 (cK H66 p1 0 v69) [6,9,187,189,193] (K43 x2 x58 [(187,.d (.ptr p1 0)),(189,vI p2),(193,.d (.ptr i67 0))]) κ<|au.on 315 (cK H66 p1 0 v69) (d:=some 188) (s:=.d (.raw v69)) [6,9,188,189,193] (K43 x2 x58 [(188,.d (.raw v69)),(189,vI p2),(193,.d (.ptr i67 0))]) (ax.Fl (c:=ay) (n':=3) hq68 κ) κ<|au.p (s:=.bp (.an i67 0) 3 (List.map ab x70)) (ax.pn (ax.gK (c:=ay) hx_10 κ))<|au.p (s:=aI (some (.an i67 0)) (Go.Sh.D.cells (ab x71))) (ax.index (n:=3) hx71)<|au.sg 315 (cK H66 p1 0 v69) [6,9,188,189,196] (K43 x2 x58 [(188,.d (.raw v69)),(189,vI p2),(196,kY x71)]) κ<|au.D<|aa.Lm (c:=ay) (n':=3) (t:=188) [6,9,188,189,196] (K43 x2 x58 [(188,.gI v69 3 (List.map ab q68.1)),(189,vI p2),(196,kY x71)]) hq68 κ κ κ<|aa.o (s:=.ep 188 3 (Int.toNat p2)) [6,9,188,196,197] (ax.NW (enc:=ab) (xs:=q68.1) hx72)<|aa.sep (s:=188) (n:=3) (j:=(Int.toNat p2)) (enc:=ab) (xs:=q68.1) (x:=x71) (p:=(some v69)) 315 (sL q68.2 p1 0 v69) [6,9,188] (K43 x2 x58 [(188,.gI v69 3 (List.map ab (List.set q68.1 (Int.toNat p2) x71)))]) hk_14 κ κ<|aa.Kx (c:=ay) (n':=3) (s:=188) [6,9] (K43 x2 x58 []) hH73 κ κ κ<|aa.E<|SW.S<|aa.ts [203] 2<|bI h λi74 hp_i74 h=>aa.p (s:=.d (.ptr i74 0)) (ax.dS hp_i74)<|aa.ts [203] 2<|bI h λq75 hq h=>aa.tk hq<|bI h λr76 hr h=>aa.cl 315 q75.2 (d:=some 204) (ls:=[]) (gs:=[(203,0)]) [0] [6,9,198,204] (K43 x2 x58 [(198,.d (cP.enc x58)),(204,.own 3 (List.map ab r76))]) (kj hr) κ κ κ<|bI h λi77 hp_i77 h=>aa.p (s:=.d (.ptr i77 0)) (ax.dS hp_i77)<|aa.ts [203] 2<|bI h λH78 hx h=>aa.gv 204 hx<|aa.E<|SW.JH 315 [] (λ(j79:Hp)=>[]) (λ(j79:Hp)=>j79) h (λj79 h=>SW.ret<|ag<|iI h▸E0) λjp80 h=>SW.S<|aa.s [] [6,9,208] 1<|bI h λi81 hp_i81 h=>aa.nG x2 (λp=>(sp 315 (K43 p x58 [(208,.d (cP.enc p))]) H78)) κ hp_i81<|bI h λr82 hr h=>aa.g (ls:=[]) (da hr)<|aa.t 1<|aa.E<|SW.b h (λh=>SW.seq<|bI h λi83 hp_i83 h=>bI h λq84 hq84 h=>bI h λx86 hx_8 h=>bI h λx87 hx_9 h=>bI h λi88 hp_i88 h=>lj h λhk89 h=>bI h λH90 hx_15 h=>SW.kk 315 H78 [(6,.d (.ptr i81 0)),(9,.d (cP.enc x58))]<|SW.gI i81 1 λv85=>SW.lX [0,1,2,3,5,6,7,4,8,9,10] [11,12,13,14,15] κ κ<|au.t<|au.t<|au.t<|au.t<|au.t<|au.p (s:=.d (.ptr i83 0)) (ax.dS hp_i83)<|au.sg 315 (cK H78 i81 1 v85) [9,211,214,218] (K55 x58 i81 [(214,.d (.ptr i81 1)),(218,.d (.ptr i83 1))]) κ<|au.on 315 (cK H78 i81 1 v85) (d:=some 215) (s:=.d (.raw v85)) [9,211,215,218] (K55 x58 i81 [(215,.d (.raw v85)),(218,.d (.ptr i83 1))]) (ax.Fl (c:=cP) (n':=1) hq84 κ) κ<|au.p (s:=.bp (.an i83 1) 1 (List.map cP.enc x86)) (ax.pn (ax.gK (c:=cP) hx_8 κ))<|au.p (s:=aI (some (.an i83 1)) [cP.enc x87]) (ax.ff (n:=1) hx_9)<|au.s [9,211,215,221]<|au.D<|aa.nG x87 (λp=>(sp 315 (K55 x58 i81 [(215,.d (.raw v85)),(221,.d (cP.enc p))]) (cK H78 i81 1 v85))) κ hp_i88<|aa.G 1 (K55 x58 i81 [(215,.d (.raw v85)),(222,Nl i88)])<|aa.Km (c:=cP) (n':=1) (t:=215) [9,211,215,222] (K55 x58 i81 [(215,LH q84),(222,Nl i88)]) hq84 κ κ κ<|aa.ap 215 1 (List.map cP.enc (q84.1++[(some i88)])) (aS) (bx hk89)<|aa.ts [215] 1<|aa.ts [215] 1<|aa.gv 223 hx_15<|aa.E<|SW.al<|aa.ts [230] 2<|bI h λi91 hp_i91 h=>aa.p (s:=.d (.ptr i91 0)) (ax.dS hp_i91)<|aa.ts [230] 1<|bI h λq92 hq h=>aa.tk hq<|bI h λr93 hr h=>aa.cl 315 q92.2 (d:=some 231) (ls:=[]) (gs:=[(230,0)]) [0] [226,231] [(226,.d (cP.enc x58)),(231,.own 1 (List.map cP.enc r93))] (jU hr) κ κ κ<|bI h λi94 hp_i94 h=>aa.p (s:=.d (.ptr i94 0)) (ax.dS hp_i94)<|aa.ts [230] 1<|bI h λH95 hx h=>aa.gv 231 hx<|aa.D<|JQ [] h) (λh=>SW.skip<|JQ [] h)) (λh=>SW.skip<|af<|SW.S<|aa.t 2<|aa.p (ax.max (kk:=.i64) (i:=0) (j:=(IntKind.wrap .i64 (p2 - 1))))<|aa.t 1<|aa.E<|SW.seq<|bI h λx96 hx_3 h=>bI h λx97 hx_5 h=>bI h λx98 hx_10 h=>bI h λx99 hx_13 h=>SW.kk 315 H [(1,.d (.ptr p1 0)),(2,vI (bif decide (0<(IntKind.wrap .i64 (p2 - 1)))then(IntKind.wrap .i64 (p2 - 1))else 0))]<|SW.lX [0,1,2,4,7,8,9,11,12,3,5,6,10,13,14,15,16] [] κ κ<|au.t<|au.t<|au.t<|au.t<|au.t<|au.t<|au.t<|au.t<|au.t<|au.p (ax.gK hx_3)<|au.p (s:=aI (some (.an p1 1)) [cP.enc x97]) (ax.ff (n:=1) hx_5)<|au.t<|au.p (ax.gK hx_10)<|au.p (s:=aI (some (.an p1 1)) [cP.enc x99]) (ax.ff (n:=1) hx_13)<|au.t<|au.t<|au.t<|au.D<|aa.E<|SW.seq<|bI h λi100 hp_i100 h=>bI h λi101 hp_i101 h=>bI h λx102 hx_5 h=>bI h λx103 hx_10 h=>lj h λhk104 h=>bI h λx105 hx_19 h=>bI h λr106 hr_r106 h=>bI h λi107 hp_i107 h=>bI h λH108 hx_25 h=>SW.kk 315 H [(1,.d (.ptr p1 0)),(2,vI (bif decide (0<(IntKind.wrap .i64 (p2 - 1)))then(IntKind.wrap .i64 (p2 - 1))else 0)),(10,.d (cP.enc x97)),(11,.d (cP.enc x99))]<|SW.lX [0,1,2,3,4,6,7,8,9,11,12,15,16,17,18,13,5,10,14,19] [20,21,22,23,24,25] κ κ<|au.t<|au.t<|au.p (s:=.d (.ptr i100 0)) (ax.dS hp_i100)<|au.t<|au.t<|au.t<|au.t<|au.t<|au.t<|au.t<|au.t<|au.t<|au.p (s:=.d (.ptr i101 0)) (ax.dS hp_i101)<|au.t<|au.t<|au.t<|au.p (ax.gK hx_5)<|au.p (ax.gK hx_10)<|au.p (s:=kT (some (.an p1 0)) 3 (List.map ab (sl x103 (bif decide (0<(IntKind.wrap .i64 (p2 - 1)))then(IntKind.wrap .i64 (p2 - 1))else 0) (IntKind.wrap .i64 ((bif decide (0<(IntKind.wrap .i64 (p2 - 1)))then(IntKind.wrap .i64 (p2 - 1))else 0)+1))))) (ax.slice hk104)<|au.o [1,2,10,11,252,257,266,271] (ax.gK hx_19)<|au.D<|aa.MX (enc:=ab) (yss:=[x102,(sl x103 (bif decide (0<(IntKind.wrap .i64 (p2 - 1)))then(IntKind.wrap .i64 (p2 - 1))else 0) (IntKind.wrap .i64 ((bif decide (0<(IntKind.wrap .i64 (p2 - 1)))then(IntKind.wrap .i64 (p2 - 1))else 0)+1))),x105]) (r:=r106) (n:=3) (d1:=272) (d2:=273) (f:=122) (ts:=[257,266,271]) 315 H [1,2,10,11,252,273] [(1,.d (.ptr p1 0)),(2,vI (bif decide (0<(IntKind.wrap .i64 (p2 - 1)))then(IntKind.wrap .i64 (p2 - 1))else 0)),(10,.d (cP.enc x97)),(11,.d (cP.enc x99)),(252,.d (cP.enc x97)),(273,Iq r106)] (rU ψ hr_r106) κ κ<|aa.p (s:=.d (.ptr i107 0)) (ax.dS hp_i107)<|aa.t 1<|aa.t 1<|aa.gv 273 hx_25<|aa.E<|SW.seq<|bI h λi109 hp_i109 h=>bI h λi110 hp_i110 h=>bI h λx111 hx_4 h=>bI h λx112 hx_8 h=>bI h λr113 hr_r113 h=>bI h λi114 hp_i114 h=>bI h λH115 hx_13 h=>SW.kk 315 H108 [(1,.d (.ptr p1 0)),(2,vI (bif decide (0<(IntKind.wrap .i64 (p2 - 1)))then(IntKind.wrap .i64 (p2 - 1))else 0)),(10,.d (cP.enc x97)),(11,.d (cP.enc x99))]<|SW.lX [0,1,2,3,5,6,7,4,8] [9,10,11,12,13] κ κ<|au.t<|au.t<|au.p (s:=.d (.ptr i109 0)) (ax.dS hp_i109)<|au.t<|au.t<|au.p (s:=.d (.ptr i110 0)) (ax.dS hp_i110)<|au.t<|au.p (ax.gK hx_4)<|au.o [1,2,277,281,285] (ax.gK hx_8)<|au.D<|aa.MX (enc:=cP.enc) (yss:=[x111,x112]) (r:=r113) (n:=1) (d1:=286) (d2:=287) (f:=123) (ts:=[281,285]) 315 H108 [1,2,277,287] [(1,.d (.ptr p1 0)),(2,vI (bif decide (0<(IntKind.wrap .i64 (p2 - 1)))then(IntKind.wrap .i64 (p2 - 1))else 0)),(277,.d (cP.enc x97)),(287,Ip r113)] (nS ψ hr_r113) κ κ<|aa.p (s:=.d (.ptr i114 0)) (ax.dS hp_i114)<|aa.t 1<|aa.gv 287 hx_13<|aa.E<|SW.S<|aa.ts [295] 5<|bI h λq116 hq h=>aa.tk hq<|aa.ts [295] 3<|bI h λr117 hr h=>aa.cl 315 q116.2 (d:=some 299) (ls:=[]) (gs:=[(295,0)]) [0] [1,2,290,299] [(1,.d (.ptr p1 0)),(2,vI (bif decide (0<(IntKind.wrap .i64 (p2 - 1)))then(IntKind.wrap .i64 (p2 - 1))else 0)),(290,.d (.ptr p1 0)),(299,.own 3 (List.map ab r117))] (kj hr) κ κ κ<|aa.ts [295] 3<|bI h λH118 hx h=>aa.gv 299 hx<|aa.E<|SW.al<|aa.ts [307] 4<|bI h λq119 hq h=>aa.tk hq<|aa.ts [307] 4<|bI h λr120 hr h=>aa.cl 315 q119.2 (d:=some 312) (ls:=[]) (gs:=[(307,0)]) [0] [303,312] [(303,.d (.ptr p1 0)),(312,.own 1 (List.map cP.enc r120))] (jU hr) κ κ κ<|aa.ts [307] 2<|bI h λH121 hx h=>aa.gv 312 hx<|aa.D<|iI h▸EN)) λjp50 h=>SW.qq<|aA.t 5<|bI h λx51 hx h=>aA.p (ax.gK hx)<|aA.p (ax.len (enc:=cP.enc) (xs:=x51))<|aA.s [] [0,1,2,6,139] 2<|aA.b2 (λb=>(sp 315 (K17 p0 p1 [(2,vI p2),(6,.d (cP.enc x2)),(139,vB b)]) H)) h (λh=>aA.t 3<|bI h λx52 hx h=>aA.p (ax.gK hx)<|aA.t 2<|bI h λx53 hx h=>aA.p (s:=aI (some (.an p1 1)) [cP.enc x53]) (ax.ff (n:=1) hx)<|aA.t 1<|bI h λi54 hp_i54 h=>aA.p (s:=.d (.ptr i54 0)) (ax.dS hp_i54)<|aA.t 2<|bI h λx55 hx h=>aA.p (ax.gK hx)<|aA.p (ax.len (enc:=ab) (xs:=x55))<|aA.t 1<|bI h λr56 hr h=>aA.g (ls:=[]) (iw hr)<|aA.t 2<|aA.D<|JQ [] h) λh=>aA.t 17<|aA.D<|JQ [] h)) λjp4 h=>SW.qq<|aA.s [] [0,1,2,6,21] 3<|aA.b2 (λb=>(sp 315 (K17 p0 p1 [(2,vI p2),(6,.d (cP.enc x2)),(21,vB b)]) H)) h (λh=>aA.t 3<|bI h λx5 hx h=>aA.p (ax.gK hx)<|aA.t 2<|bI h λx6 hx h=>aA.p (s:=aI (some (.an p1 1)) [cP.enc x6]) (ax.ff (n:=1) hx)<|aA.t 1<|bI h λi7 hp_i7 h=>aA.p (s:=.d (.ptr i7 0)) (ax.dS hp_i7)<|aA.t 2<|bI h λx8 hx h=>aA.p (ax.gK hx)<|aA.p (ax.len (enc:=ab) (xs:=x8))<|aA.t 1<|bI h λr9 hr h=>aA.g (ls:=[]) (iw hr)<|aA.t 2<|aA.D<|JQ [] h) λh=>aA.t 17<|aA.D<|JQ [] h
end
end Go.Sh
