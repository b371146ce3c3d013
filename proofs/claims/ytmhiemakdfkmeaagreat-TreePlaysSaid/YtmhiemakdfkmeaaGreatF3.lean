/- Printed by a program: functions of the program as plain functions, and that the code computes them. -/
import Derived.Test.YtmhiemakdfkmeaaGreatF2
set_option linter.all false
set_option autoImplicit true
set_option relaxedAutoImplicit true
open Go Go.Proofs
namespace Go.Sh
set_option maxRecDepth 100000
section
attribute [local irreducible] aa aA bb au SW uS
noncomputable def kq (fuel:Nat) (p1:Int) (p2:(List Act)) (y4:(List Int)×(List Bool)×Int×(Option Nat)×Int×Int×Int×Bool×Bool×(Option Nat)×(List Int)×(List Bool)×Int×Int×(List Entry)×Int×Bool×Bool×Int×Hp):Option (((List Int)×(List Bool)×Int×(Option Nat)×Int×Int×Int×Bool×Bool×(Option Nat)×(List Int)×(List Bool)×Int×Int×(List Entry)×Int×Bool×Bool×Int×Hp)⊕((Option Nat)×Int×Int×Int×Bool×Bool×(Option Nat)×(List Int)×(List Bool)×Int×Int×(List Entry)×Int×Bool×Bool×Hp)):=
 bif (((decide (y4.2.2.2.2.2.2.2.2.2.2.2.2.2.2.2.2.2.2.1<(p2.length:Int)))&&y4.2.2.2.2.2.2.2.2.2.2.2.2.2.2.2.2.1)&&y4.2.2.2.2.2.2.2.2.2.2.2.2.2.2.2.2.2.1)then
  (idx p2 y4.2.2.2.2.2.2.2.2.2.2.2.2.2.2.2.2.2.2.1).bind λx5=>
  bif (x5.Kind==0)then
   y4.2.2.2.2.2.2.2.2.2.1.bind λi6=>
   (cX fuel i6 x5.Row x5.Key y4.2.2.2.2.2.2.2.2.2.2.2.2.2.2.2.2.2.2.2).bind λr7=>
   (fN fuel (⟨(⟨y4.2.2.2.2.2.2.2.2.2.2.1,y4.2.2.2.2.2.2.2.2.2.2.2.1,y4.2.2.2.2.2.2.2.2.2.2.2.2.1⟩:ak),y4.2.2.2.2.2.2.2.2.2.2.2.2.2.1,y4.2.2.2.2.2.2.2.2.2.2.2.2.2.2.1,y4.2.2.2.2.2.2.2.2.2.2.2.2.2.2.2.1⟩:Tree) x5.Row x5.Key).bind λr8=>
   bif ((r7.1.1==r8.2.1)&&(r7.1.2==r8.2.2))then
    y4.2.2.2.2.2.2.2.2.2.1.bind λi9=>
    (iD fuel i9 r8.1 r7.2).bind λr10=>
    some (.inl (y4.1,y4.2.1,y4.2.2.1,y4.2.2.2.1,y4.2.2.2.2.1,y4.2.2.2.2.2.1,y4.2.2.2.2.2.2.1,y4.2.2.2.2.2.2.2.1,y4.2.2.2.2.2.2.2.2.1,y4.2.2.2.2.2.2.2.2.2.1,r8.1.S.aq,r8.1.S.Down,r8.1.S.cY,r8.1.Order,r8.1.dG,r8.1.eQ,r10.1,y4.2.2.2.2.2.2.2.2.2.2.2.2.2.2.2.2.2.1,(IntKind.wrap .i64 (y4.2.2.2.2.2.2.2.2.2.2.2.2.2.2.2.2.2.2.1+1)),r10.2))
   else
    some (.inl (y4.1,y4.2.1,y4.2.2.1,y4.2.2.2.1,y4.2.2.2.2.1,y4.2.2.2.2.2.1,y4.2.2.2.2.2.2.1,y4.2.2.2.2.2.2.2.1,y4.2.2.2.2.2.2.2.2.1,y4.2.2.2.2.2.2.2.2.2.1,r8.1.S.aq,r8.1.S.Down,r8.1.S.cY,r8.1.Order,r8.1.dG,r8.1.eQ,false,y4.2.2.2.2.2.2.2.2.2.2.2.2.2.2.2.2.2.1,(IntKind.wrap .i64 (y4.2.2.2.2.2.2.2.2.2.2.2.2.2.2.2.2.2.2.1+1)),r7.2))
  else
   bif (x5.Kind==1)then
    y4.2.2.2.2.2.2.2.2.2.1.bind λi11=>
    (eI fuel i11 x5.Row x5.Key y4.2.2.2.2.2.2.2.2.2.2.2.2.2.2.2.2.2.2.2).bind λr12=>
    (hJ fuel (⟨(⟨y4.2.2.2.2.2.2.2.2.2.2.1,y4.2.2.2.2.2.2.2.2.2.2.2.1,y4.2.2.2.2.2.2.2.2.2.2.2.2.1⟩:ak),y4.2.2.2.2.2.2.2.2.2.2.2.2.2.1,y4.2.2.2.2.2.2.2.2.2.2.2.2.2.2.1,y4.2.2.2.2.2.2.2.2.2.2.2.2.2.2.2.1⟩:Tree) x5.Row x5.Key).bind λr13=>
    bif (r12.1==r13.2)then
     y4.2.2.2.2.2.2.2.2.2.1.bind λi14=>
     (iD fuel i14 r13.1 r12.2).bind λr15=>
     some (.inl (y4.1,y4.2.1,y4.2.2.1,y4.2.2.2.1,y4.2.2.2.2.1,y4.2.2.2.2.2.1,y4.2.2.2.2.2.2.1,y4.2.2.2.2.2.2.2.1,y4.2.2.2.2.2.2.2.2.1,y4.2.2.2.2.2.2.2.2.2.1,r13.1.S.aq,r13.1.S.Down,r13.1.S.cY,r13.1.Order,r13.1.dG,r13.1.eQ,r15.1,y4.2.2.2.2.2.2.2.2.2.2.2.2.2.2.2.2.2.1,(IntKind.wrap .i64 (y4.2.2.2.2.2.2.2.2.2.2.2.2.2.2.2.2.2.2.1+1)),r15.2))
    else
     some (.inl (y4.1,y4.2.1,y4.2.2.1,y4.2.2.2.1,y4.2.2.2.2.1,y4.2.2.2.2.2.1,y4.2.2.2.2.2.2.1,y4.2.2.2.2.2.2.2.1,y4.2.2.2.2.2.2.2.2.1,y4.2.2.2.2.2.2.2.2.2.1,r13.1.S.aq,r13.1.S.Down,r13.1.S.cY,r13.1.Order,r13.1.dG,r13.1.eQ,false,y4.2.2.2.2.2.2.2.2.2.2.2.2.2.2.2.2.2.1,(IntKind.wrap .i64 (y4.2.2.2.2.2.2.2.2.2.2.2.2.2.2.2.2.2.2.1+1)),r12.2))
   else
    bif (x5.Kind==2)then
     y4.2.2.2.2.2.2.2.2.2.1.bind λi16=>
     (db fuel i16 x5.Row x5.Key x5.ue y4.2.2.2.2.2.2.2.2.2.2.2.2.2.2.2.2.2.2.2).bind λr17=>
     (jx fuel (⟨(⟨y4.2.2.2.2.2.2.2.2.2.2.1,y4.2.2.2.2.2.2.2.2.2.2.2.1,y4.2.2.2.2.2.2.2.2.2.2.2.2.1⟩:ak),y4.2.2.2.2.2.2.2.2.2.2.2.2.2.1,y4.2.2.2.2.2.2.2.2.2.2.2.2.2.2.1,y4.2.2.2.2.2.2.2.2.2.2.2.2.2.2.2.1⟩:Tree) x5.Row x5.Key x5.ue).bind λr18=>
     bif (r17.1==r18.2)then
      y4.2.2.2.2.2.2.2.2.2.1.bind λi19=>
      (iD fuel i19 r18.1 r17.2).bind λr20=>
      some (.inl (y4.1,y4.2.1,y4.2.2.1,y4.2.2.2.1,y4.2.2.2.2.1,y4.2.2.2.2.2.1,y4.2.2.2.2.2.2.1,y4.2.2.2.2.2.2.2.1,y4.2.2.2.2.2.2.2.2.1,y4.2.2.2.2.2.2.2.2.2.1,r18.1.S.aq,r18.1.S.Down,r18.1.S.cY,r18.1.Order,r18.1.dG,r18.1.eQ,r20.1,y4.2.2.2.2.2.2.2.2.2.2.2.2.2.2.2.2.2.1,(IntKind.wrap .i64 (y4.2.2.2.2.2.2.2.2.2.2.2.2.2.2.2.2.2.2.1+1)),r20.2))
     else
      some (.inl (y4.1,y4.2.1,y4.2.2.1,y4.2.2.2.1,y4.2.2.2.2.1,y4.2.2.2.2.2.1,y4.2.2.2.2.2.2.1,y4.2.2.2.2.2.2.2.1,y4.2.2.2.2.2.2.2.2.1,y4.2.2.2.2.2.2.2.2.2.1,r18.1.S.aq,r18.1.S.Down,r18.1.S.cY,r18.1.Order,r18.1.dG,r18.1.eQ,false,y4.2.2.2.2.2.2.2.2.2.2.2.2.2.2.2.2.2.1,(IntKind.wrap .i64 (y4.2.2.2.2.2.2.2.2.2.2.2.2.2.2.2.2.2.2.1+1)),r17.2))
    else
     bif (x5.Kind==3)then
      y4.2.2.2.2.2.2.2.2.2.1.bind λi21=>
      (kL fuel i21 y4.2.2.2.2.2.2.2.2.2.2.2.2.2.2.2.2.2.2.2).bind λr22=>
      (cX fuel i21 x5.Row 1 r22.2).bind λr23=>
      bif y4.2.2.2.2.2.2.2.2.2.2.2.2.2.2.2.2.1 then
       r22.1.bind λi24=>
       (iD fuel i24 (⟨(⟨y4.2.2.2.2.2.2.2.2.2.2.1,y4.2.2.2.2.2.2.2.2.2.2.2.1,y4.2.2.2.2.2.2.2.2.2.2.2.2.1⟩:ak),y4.2.2.2.2.2.2.2.2.2.2.2.2.2.1,y4.2.2.2.2.2.2.2.2.2.2.2.2.2.2.1,y4.2.2.2.2.2.2.2.2.2.2.2.2.2.2.2.1⟩:Tree) r23.2).bind λr25=>
       some (.inl (y4.1,y4.2.1,y4.2.2.1,y4.2.2.2.1,y4.2.2.2.2.1,y4.2.2.2.2.2.1,y4.2.2.2.2.2.2.1,y4.2.2.2.2.2.2.2.1,y4.2.2.2.2.2.2.2.2.1,r22.1,y4.2.2.2.2.2.2.2.2.2.2.1,y4.2.2.2.2.2.2.2.2.2.2.2.1,y4.2.2.2.2.2.2.2.2.2.2.2.2.1,y4.2.2.2.2.2.2.2.2.2.2.2.2.2.1,y4.2.2.2.2.2.2.2.2.2.2.2.2.2.2.1,y4.2.2.2.2.2.2.2.2.2.2.2.2.2.2.2.1,r25.1,y4.2.2.2.2.2.2.2.2.2.2.2.2.2.2.2.2.2.1,(IntKind.wrap .i64 (y4.2.2.2.2.2.2.2.2.2.2.2.2.2.2.2.2.2.2.1+1)),r25.2))
      else
       some (.inl (y4.1,y4.2.1,y4.2.2.1,y4.2.2.2.1,y4.2.2.2.2.1,y4.2.2.2.2.2.1,y4.2.2.2.2.2.2.1,y4.2.2.2.2.2.2.2.1,y4.2.2.2.2.2.2.2.2.1,r22.1,y4.2.2.2.2.2.2.2.2.2.2.1,y4.2.2.2.2.2.2.2.2.2.2.2.1,y4.2.2.2.2.2.2.2.2.2.2.2.2.1,y4.2.2.2.2.2.2.2.2.2.2.2.2.2.1,y4.2.2.2.2.2.2.2.2.2.2.2.2.2.2.1,y4.2.2.2.2.2.2.2.2.2.2.2.2.2.2.2.1,false,y4.2.2.2.2.2.2.2.2.2.2.2.2.2.2.2.2.2.1,(IntKind.wrap .i64 (y4.2.2.2.2.2.2.2.2.2.2.2.2.2.2.2.2.2.2.1+1)),r23.2))
     else
      aP (λ(j26:(Option Nat)×Int×Int×Hp)=>
       bif ((j26.2.2.1==0)&&(j26.2.1==(-1)))then
        bif ((j26.2.2.1==0)&&(j26.2.1==(-1)))then
         j26.1.bind λi33=>
         (iD fuel i33 (⟨(⟨y4.2.2.2.2.2.2.2.2.2.2.1,y4.2.2.2.2.2.2.2.2.2.2.2.1,y4.2.2.2.2.2.2.2.2.2.2.2.2.1⟩:ak),y4.2.2.2.2.2.2.2.2.2.2.2.2.2.1,y4.2.2.2.2.2.2.2.2.2.2.2.2.2.2.1,y4.2.2.2.2.2.2.2.2.2.2.2.2.2.2.2.1⟩:Tree) j26.2.2.2).bind λr34=>
         some (.inl (y4.1,y4.2.1,y4.2.2.1,y4.2.2.2.1,y4.2.2.2.2.1,y4.2.2.2.2.2.1,y4.2.2.2.2.2.2.1,y4.2.2.2.2.2.2.2.1,y4.2.2.2.2.2.2.2.2.1,j26.1,y4.2.2.2.2.2.2.2.2.2.2.1,y4.2.2.2.2.2.2.2.2.2.2.2.1,y4.2.2.2.2.2.2.2.2.2.2.2.2.1,y4.2.2.2.2.2.2.2.2.2.2.2.2.2.1,y4.2.2.2.2.2.2.2.2.2.2.2.2.2.2.1,y4.2.2.2.2.2.2.2.2.2.2.2.2.2.2.2.1,r34.1,y4.2.2.2.2.2.2.2.2.2.2.2.2.2.2.2.2.2.1,(IntKind.wrap .i64 (y4.2.2.2.2.2.2.2.2.2.2.2.2.2.2.2.2.2.2.1+1)),r34.2))
        else
         some (.inl (y4.1,y4.2.1,y4.2.2.1,y4.2.2.2.1,y4.2.2.2.2.1,y4.2.2.2.2.2.1,y4.2.2.2.2.2.2.1,y4.2.2.2.2.2.2.2.1,y4.2.2.2.2.2.2.2.2.1,j26.1,y4.2.2.2.2.2.2.2.2.2.2.1,y4.2.2.2.2.2.2.2.2.2.2.2.1,y4.2.2.2.2.2.2.2.2.2.2.2.2.1,y4.2.2.2.2.2.2.2.2.2.2.2.2.2.1,y4.2.2.2.2.2.2.2.2.2.2.2.2.2.2.1,y4.2.2.2.2.2.2.2.2.2.2.2.2.2.2.2.1,false,y4.2.2.2.2.2.2.2.2.2.2.2.2.2.2.2.2.2.1,(IntKind.wrap .i64 (y4.2.2.2.2.2.2.2.2.2.2.2.2.2.2.2.2.2.2.1+1)),j26.2.2.2))
       else
        bif ((j26.2.2.1==0)&&(j26.2.1==(-1)))then
         y4.2.2.2.2.2.2.2.2.2.1.bind λi35=>
         (iD fuel i35 (⟨(⟨y4.2.2.2.2.2.2.2.2.2.2.1,y4.2.2.2.2.2.2.2.2.2.2.2.1,y4.2.2.2.2.2.2.2.2.2.2.2.2.1⟩:ak),y4.2.2.2.2.2.2.2.2.2.2.2.2.2.1,y4.2.2.2.2.2.2.2.2.2.2.2.2.2.2.1,y4.2.2.2.2.2.2.2.2.2.2.2.2.2.2.2.1⟩:Tree) j26.2.2.2).bind λr36=>
         some (.inl (y4.1,y4.2.1,y4.2.2.1,y4.2.2.2.1,y4.2.2.2.2.1,y4.2.2.2.2.2.1,y4.2.2.2.2.2.2.1,y4.2.2.2.2.2.2.2.1,y4.2.2.2.2.2.2.2.2.1,y4.2.2.2.2.2.2.2.2.2.1,y4.2.2.2.2.2.2.2.2.2.2.1,y4.2.2.2.2.2.2.2.2.2.2.2.1,y4.2.2.2.2.2.2.2.2.2.2.2.2.1,y4.2.2.2.2.2.2.2.2.2.2.2.2.2.1,y4.2.2.2.2.2.2.2.2.2.2.2.2.2.2.1,y4.2.2.2.2.2.2.2.2.2.2.2.2.2.2.2.1,r36.1,y4.2.2.2.2.2.2.2.2.2.2.2.2.2.2.2.2.2.1,(IntKind.wrap .i64 (y4.2.2.2.2.2.2.2.2.2.2.2.2.2.2.2.2.2.2.1+1)),r36.2))
        else
         some (.inl (y4.1,y4.2.1,y4.2.2.1,y4.2.2.2.1,y4.2.2.2.2.1,y4.2.2.2.2.2.1,y4.2.2.2.2.2.2.1,y4.2.2.2.2.2.2.2.1,y4.2.2.2.2.2.2.2.2.1,y4.2.2.2.2.2.2.2.2.2.1,y4.2.2.2.2.2.2.2.2.2.2.1,y4.2.2.2.2.2.2.2.2.2.2.2.1,y4.2.2.2.2.2.2.2.2.2.2.2.2.1,y4.2.2.2.2.2.2.2.2.2.2.2.2.2.1,y4.2.2.2.2.2.2.2.2.2.2.2.2.2.2.1,y4.2.2.2.2.2.2.2.2.2.2.2.2.2.2.2.1,false,y4.2.2.2.2.2.2.2.2.2.2.2.2.2.2.2.2.2.1,(IntKind.wrap .i64 (y4.2.2.2.2.2.2.2.2.2.2.2.2.2.2.2.2.2.2.1+1)),j26.2.2.2))) λjp27=>
      y4.2.2.2.2.2.2.2.2.2.1.bind λi28=>
      (iW fuel i28 y4.2.2.2.2.2.2.2.2.2.2.2.2.2.2.2.2.2.2.2).bind λr29=>
      y4.2.2.2.2.2.2.2.2.2.1.bind λi30=>
      (fw fuel i30 y4.2.2.2.2.2.2.2.2.2.2.2.2.2.2.2.2.2.2.2).bind λr31=>
      (lT fuel (⟨y4.1,y4.2.1,y4.2.2.1⟩:ak) p1 r29 r31.1 r31.2).bind λr32=>
      jp27 (r32.1.1,r32.1.2.1,r32.1.2.2,r32.2)
 else
  some (.inr (y4.2.2.2.1,y4.2.2.2.2.1,y4.2.2.2.2.2.1,y4.2.2.2.2.2.2.1,y4.2.2.2.2.2.2.2.1,y4.2.2.2.2.2.2.2.2.1,y4.2.2.2.2.2.2.2.2.2.1,y4.2.2.2.2.2.2.2.2.2.2.1,y4.2.2.2.2.2.2.2.2.2.2.2.1,y4.2.2.2.2.2.2.2.2.2.2.2.2.1,y4.2.2.2.2.2.2.2.2.2.2.2.2.2.1,y4.2.2.2.2.2.2.2.2.2.2.2.2.2.2.1,y4.2.2.2.2.2.2.2.2.2.2.2.2.2.2.2.1,y4.2.2.2.2.2.2.2.2.2.2.2.2.2.2.2.2.1,y4.2.2.2.2.2.2.2.2.2.2.2.2.2.2.2.2.2.1,y4.2.2.2.2.2.2.2.2.2.2.2.2.2.2.2.2.2.2.2))
noncomputable def tQ (fuel:Nat) (p0:ak) (p1:Int) (p2:(List Act)) (H:Hp):Option ((Ny)×Hp):=
 (uq fuel p0 p1 H).bind λr1=>
 (yy fuel p0 p1).bind λr2=>
 (iter (kq fuel p1 p2) fuel (p0.aq,p0.Down,p0.cY,none,0,0,0,false,false,r1.1.1,r2.1.S.aq,r2.1.S.Down,r2.1.S.cY,r2.1.Order,r2.1.dG,r2.1.eQ,(r1.1.2==r2.2),(r2.2==0),0,r1.2)).bind λv38=>
 some ((⟨v38.2.2.2.2.2.2.1,(⟨(⟨v38.2.2.2.2.2.2.2.1,v38.2.2.2.2.2.2.2.2.1,v38.2.2.2.2.2.2.2.2.2.1⟩:ak),v38.2.2.2.2.2.2.2.2.2.2.1,v38.2.2.2.2.2.2.2.2.2.2.2.1,v38.2.2.2.2.2.2.2.2.2.2.2.2.1⟩:Tree),v38.2.2.2.2.2.2.2.2.2.2.2.2.2.1,v38.2.2.2.2.2.2.2.2.2.2.2.2.2.2.1⟩:Ny),v38.2.2.2.2.2.2.2.2.2.2.2.2.2.2.2)
def Ie(x0:(List Int)×(List Bool)×Int×(Option Nat)×Int×Int×Int×Bool×Bool×(Option Nat)×(List Int)×(List Bool)×Int×Int×(List Entry)×Int×Bool×Bool×Int×Hp):SV:=.box [.d (.list 1 (List.map (D.int .i64) x0.1)),.d (.list 1 (List.map D.bool x0.2.1)),vI x0.2.2.1]
def FA(x0:(List Int)×(List Bool)×Int×(Option Nat)×Int×Int×Int×Bool×Bool×(Option Nat)×(List Int)×(List Bool)×Int×Int×(List Entry)×Int×Bool×Bool×Int×Hp):SV:=.box [.d (cP.enc x0.2.2.2.1),.d (.bD),.d (.bD),vI x0.2.2.2.2.1,vI x0.2.2.2.2.2.1,.d (.bD),vI x0.2.2.2.2.2.2.1,vB x0.2.2.2.2.2.2.2.1,vB x0.2.2.2.2.2.2.2.2.1]
def Ic(x0:(List Int)×(List Bool)×Int×(Option Nat)×Int×Int×Int×Bool×Bool×(Option Nat)×(List Int)×(List Bool)×Int×Int×(List Entry)×Int×Bool×Bool×Int×Hp):SV:=.box [.d (cP.enc x0.2.2.2.2.2.2.2.2.2.1),.d (.list 1 (List.map (D.int .i64) x0.2.2.2.2.2.2.2.2.2.2.1)),.d (.list 1 (List.map D.bool x0.2.2.2.2.2.2.2.2.2.2.2.1)),vI x0.2.2.2.2.2.2.2.2.2.2.2.2.1,vI x0.2.2.2.2.2.2.2.2.2.2.2.2.2.1,.d (.list 3 (List.map ab x0.2.2.2.2.2.2.2.2.2.2.2.2.2.2.1)),vI x0.2.2.2.2.2.2.2.2.2.2.2.2.2.2.2.1,vB x0.2.2.2.2.2.2.2.2.2.2.2.2.2.2.2.2.1,vB x0.2.2.2.2.2.2.2.2.2.2.2.2.2.2.2.2.2.1]
def oz(x0:(List Int)×(List Bool)×Int×(Option Nat)×Int×Int×Int×Bool×Bool×(Option Nat)×(List Int)×(List Bool)×Int×Int×(List Entry)×Int×Bool×Bool×Int×Hp):SV:=vI x0.2.2.2.2.2.2.2.2.2.2.2.2.2.2.2.2.2.2.1
def jR(x0:(List Int)×(List Bool)×Int×(Option Nat)×Int×Int×Int×Bool×Bool×(Option Nat)×(List Int)×(List Bool)×Int×Int×(List Entry)×Int×Bool×Bool×Int×Hp):SV:=.d (cP.enc x0.2.2.2.2.2.2.2.2.2.1)
def Lo(x0:(List Int)×(List Bool)×Int×(Option Nat)×Int×Int×Int×Bool×Bool×(Option Nat)×(List Int)×(List Bool)×Int×Int×(List Entry)×Int×Bool×Bool×Int×Hp):SV:=.d (.agg [.list 1 (List.map (D.int .i64) x0.2.2.2.2.2.2.2.2.2.2.1),.list 1 (List.map D.bool x0.2.2.2.2.2.2.2.2.2.2.2.1),.int .i64 x0.2.2.2.2.2.2.2.2.2.2.2.2.1,.int .i64 x0.2.2.2.2.2.2.2.2.2.2.2.2.2.1,.list 3 (List.map ab x0.2.2.2.2.2.2.2.2.2.2.2.2.2.2.1),.int .i64 x0.2.2.2.2.2.2.2.2.2.2.2.2.2.2.2.1])
def MX(x0:(List Int)×(List Bool)×Int×(Option Nat)×Int×Int×Int×Bool×Bool×(Option Nat)×(List Int)×(List Bool)×Int×Int×(List Entry)×Int×Bool×Bool×Int×Hp)(x1:Tree×Int×Int)(x2:((Int×Int)×Hp)):SV:=.box [.d (cP.enc x0.2.2.2.2.2.2.2.2.2.1),.d (.list 1 (List.map (D.int .i64) x1.1.S.aq)),.d (.list 1 (List.map D.bool x1.1.S.Down)),vI x1.1.S.cY,vI x1.1.Order,.d (.list 3 (List.map ab x1.1.dG)),vI x1.1.eQ,vB ((x2.1.1==x1.2.1)&&(x2.1.2==x1.2.2)),vB x0.2.2.2.2.2.2.2.2.2.2.2.2.2.2.2.2.2.1]
def JC(x0:(List Int)×(List Bool)×Int×(Option Nat)×Int×Int×Int×Bool×Bool×(Option Nat)×(List Int)×(List Bool)×Int×Int×(List Entry)×Int×Bool×Bool×Int×Hp)(x1:Tree×Int)(x2:((Int)×Hp)):SV:=.box [.d (cP.enc x0.2.2.2.2.2.2.2.2.2.1),.d (.list 1 (List.map (D.int .i64) x1.1.S.aq)),.d (.list 1 (List.map D.bool x1.1.S.Down)),vI x1.1.S.cY,vI x1.1.Order,.d (.list 3 (List.map ab x1.1.dG)),vI x1.1.eQ,vB (x2.1==x1.2),vB x0.2.2.2.2.2.2.2.2.2.2.2.2.2.2.2.2.2.1]
def MV(x0:(((Option Nat))×Hp))(x1:(List Int)×(List Bool)×Int×(Option Nat)×Int×Int×Int×Bool×Bool×(Option Nat)×(List Int)×(List Bool)×Int×Int×(List Entry)×Int×Bool×Bool×Int×Hp):SV:=.box [.d (cP.enc x0.1),.d (.list 1 (List.map (D.int .i64) x1.2.2.2.2.2.2.2.2.2.2.1)),.d (.list 1 (List.map D.bool x1.2.2.2.2.2.2.2.2.2.2.2.1)),vI x1.2.2.2.2.2.2.2.2.2.2.2.2.1,vI x1.2.2.2.2.2.2.2.2.2.2.2.2.2.1,.d (.list 3 (List.map ab x1.2.2.2.2.2.2.2.2.2.2.2.2.2.2.1)),vI x1.2.2.2.2.2.2.2.2.2.2.2.2.2.2.2.1,vB x1.2.2.2.2.2.2.2.2.2.2.2.2.2.2.2.2.1,vB x1.2.2.2.2.2.2.2.2.2.2.2.2.2.2.2.2.2.1]
def NW(x0:(List Int)×(List Bool)×Int×(Option Nat)×Int×Int×Int×Bool×Bool×(Option Nat)×(List Int)×(List Bool)×Int×Int×(List Entry)×Int×Bool×Bool×Int×Hp):SV:=.d (.agg [.list 1 (List.map (D.int .i64) x0.1),.list 1 (List.map D.bool x0.2.1),.int .i64 x0.2.2.1])
def Ln(x0:(List Int)×(List Bool)×Int×(Option Nat)×Int×Int×Int×Bool×Bool×(Option Nat)×(List Int)×(List Bool)×Int×Int×(List Entry)×Int×Bool×Bool×Int×Hp)(x1:(Option Nat)×Int×Int×Hp):SV:=.box [.d (cP.enc x0.2.2.2.2.2.2.2.2.2.1),.d (.list 1 (List.map (D.int .i64) x0.2.2.2.2.2.2.2.2.2.2.1)),.d (.list 1 (List.map D.bool x0.2.2.2.2.2.2.2.2.2.2.2.1)),vI x0.2.2.2.2.2.2.2.2.2.2.2.2.1,vI x0.2.2.2.2.2.2.2.2.2.2.2.2.2.1,.d (.list 3 (List.map ab x0.2.2.2.2.2.2.2.2.2.2.2.2.2.2.1)),vI x0.2.2.2.2.2.2.2.2.2.2.2.2.2.2.2.1,vB ((x1.2.2.1==0)&&(x1.2.1==(-1))),vB x0.2.2.2.2.2.2.2.2.2.2.2.2.2.2.2.2.2.1]
def MU(x0:(Option Nat)×Int×Int×Hp)(x1:(List Int)×(List Bool)×Int×(Option Nat)×Int×Int×Int×Bool×Bool×(Option Nat)×(List Int)×(List Bool)×Int×Int×(List Entry)×Int×Bool×Bool×Int×Hp):SV:=.box [.d (cP.enc x0.1),.d (.list 1 (List.map (D.int .i64) x1.2.2.2.2.2.2.2.2.2.2.1)),.d (.list 1 (List.map D.bool x1.2.2.2.2.2.2.2.2.2.2.2.1)),vI x1.2.2.2.2.2.2.2.2.2.2.2.2.1,vI x1.2.2.2.2.2.2.2.2.2.2.2.2.2.1,.d (.list 3 (List.map ab x1.2.2.2.2.2.2.2.2.2.2.2.2.2.2.1)),vI x1.2.2.2.2.2.2.2.2.2.2.2.2.2.2.2.1,vB ((x0.2.2.1==0)&&(x0.2.1==(-1))),vB x1.2.2.2.2.2.2.2.2.2.2.2.2.2.2.2.2.2.1]
def K1:=λa0 a1 a2 a3 a4 a5 (t:SL)=>((1,vI a0)::(2,Z0 a1)::(3,Ie a2)::(6,FA a3)::(11,Ic a4)::(12,oz a5)::t:SL)
def K25:=λa0 a1 a2 a3 (t:SL)=>((1,vI a0)::(2,Z0 a1)::(3,Ie a2)::(6,FA a3)::t:SL)
def K26:=λa0 a1 a2 a3 a4 a5 a6 a7 (t:SL)=>((1,vI a0)::(2,Z0 a1)::(3,Ie a2)::(6,FA a3)::(11,Ic a4)::(12,oz a5)::(70,NW a6)::(71,vI a7)::t:SL)
def K30:=λa0 a1 a2 a3 a4 a5 a6 (t:SL)=>((1,vI a0)::(2,Z0 a1)::(3,Ie a2)::(6,FA a3)::(11,Ic a4)::(12,oz a5)::(26,.d (cP.enc a6))::t:SL)
def K58:=λa0 a1 a2 a3 a4 a5 a6 a7 (t:SL)=>((1,vI a0)::(2,Z0 a1)::(3,Ie a2)::(6,FA a3)::(11,Ic a4)::(12,oz a5)::(69,gW a6)::(79,.d (cP.enc a7))::t:SL)
theorem Fj{fuel:Nat}{p0:ak}{p1:Int}{p2:(List Act)}{H:Hp}{r:(Ny)×Hp}(h:tQ fuel p0 p1 p2 H=some r):SC Tryz.prog false 9 [.d (bG p0),vI p1,.d (.list 4 (List.map iU p2))] H (.d (.agg [cP.enc r.1.t,.list 1 (List.map (D.int .i64) r.1.r.S.aq),.list 1 (List.map D.bool r.1.r.S.Down),.int .i64 r.1.r.S.cY,.int .i64 r.1.r.Order,.list 3 (List.map ab r.1.r.dG),.int .i64 r.1.r.eQ,.bool r.1.same,.bool r.1.ok])) r.2:=by
 refine SC.eZ Tryz.func9 rfl ?_
 unfold tQ at h
 exact SW.kk 204 H [(0,Z2 p0),(1,vI p1),(2,Z0 p2)]<|SW.t 1<|SW.S<|aa.t 2<|bI h λr1 hr h=>aa.f (vV hr)<|aa.t 5<|aa.E<|SW.S<|aa.t 2<|bI h λr2 hr h=>aa.d (Gt hr)<|aa.t 6<|aa.E<|SW.S<|aa.s [] [1,2,3,6,41,42,45,47] 7<|aa.CN [1,2,3,6,48] 1 r1.1.1 (λp=>(sp 204 [(1,vI p1),(2,Z0 p2),(3,Z1 p0),(6,Nb),(41,.d (cP.enc p)),(42,Lt r2),(45,vB (r1.1.2==r2.2)),(47,vB (r2.2==0))] r1.2)) (λp=>(sp 204 [(1,vI p1),(2,Z0 p2),(3,Z1 p0),(6,Nb),(48,.d (.agg [cP.enc p,.list 1 (List.map (D.int .i64) r2.1.S.aq),.list 1 (List.map D.bool r2.1.S.Down),.int .i64 r2.1.S.cY,.int .i64 r2.1.Order,.list 3 (List.map ab r2.1.dG),.int .i64 r2.1.eQ,.bool (r1.1.2==r2.2),.bool (r2.2==0)]))] r1.2)) (by kernel_rfl) (by kernel_rfl) (λ_=>by kernel_rfl)<|aa.t 2<|aa.E<|SW.seq<|SW.t 1<|SW.block<|bI h λv38 hit h=>SW.Fm 204 [1,2,3,6,11,12] (λy4=>[(1,vI p1),(2,Z0 p2),(3,.box [.d (.list 1 (List.map (D.int .i64) y4.1)),.d (.list 1 (List.map D.bool y4.2.1)),vI y4.2.2.1]),(6,.box [.d (cP.enc y4.2.2.2.1),.d (.bD),.d (.bD),vI y4.2.2.2.2.1,vI y4.2.2.2.2.2.1,.d (.bD),vI y4.2.2.2.2.2.2.1,vB y4.2.2.2.2.2.2.2.1,vB y4.2.2.2.2.2.2.2.2.1]),(11,.box [.d (cP.enc y4.2.2.2.2.2.2.2.2.2.1),.d (.list 1 (List.map (D.int .i64) y4.2.2.2.2.2.2.2.2.2.2.1)),.d (.list 1 (List.map D.bool y4.2.2.2.2.2.2.2.2.2.2.2.1)),vI y4.2.2.2.2.2.2.2.2.2.2.2.2.1,vI y4.2.2.2.2.2.2.2.2.2.2.2.2.2.1,.d (.list 3 (List.map ab y4.2.2.2.2.2.2.2.2.2.2.2.2.2.2.1)),vI y4.2.2.2.2.2.2.2.2.2.2.2.2.2.2.2.1,vB y4.2.2.2.2.2.2.2.2.2.2.2.2.2.2.2.2.1,vB y4.2.2.2.2.2.2.2.2.2.2.2.2.2.2.2.2.2.1]),(12,vI y4.2.2.2.2.2.2.2.2.2.2.2.2.2.2.2.2.2.2.1)]) (λy4=>y4.2.2.2.2.2.2.2.2.2.2.2.2.2.2.2.2.2.2.2) (λv38 e s=>(e=.exit 0/\s=(sp 204 [(6,.box [.d (cP.enc v38.1),.d (.bD),.d (.bD),vI v38.2.1,vI v38.2.2.1,.d (.bD),vI v38.2.2.2.1,vB v38.2.2.2.2.1,vB v38.2.2.2.2.2.1]),(11,.box [.d (cP.enc v38.2.2.2.2.2.2.1),.d (.list 1 (List.map (D.int .i64) v38.2.2.2.2.2.2.2.1)),.d (.list 1 (List.map D.bool v38.2.2.2.2.2.2.2.2.1)),vI v38.2.2.2.2.2.2.2.2.2.1,vI v38.2.2.2.2.2.2.2.2.2.2.1,.d (.list 3 (List.map ab v38.2.2.2.2.2.2.2.2.2.2.2.1)),vI v38.2.2.2.2.2.2.2.2.2.2.2.2.1,vB v38.2.2.2.2.2.2.2.2.2.2.2.2.2.1,vB v38.2.2.2.2.2.2.2.2.2.2.2.2.2.2.1])] v38.2.2.2.2.2.2.2.2.2.2.2.2.2.2.2))) hit (by kernel_rfl) (λy4 o h=>by
  unfold kq at h;exact SW.seq<|SW.S<|aa.t 2<|aa.p (az.len (enc:=iU) (xs:=p2))<|aa.s [] [1,2,3,6,11,12,53] 2<|aa.mg 204 y4.2.2.2.2.2.2.2.2.2.2.2.2.2.2.2.2.2.2.2 [1,2,3,6,11,12,56] 3 (decide (y4.2.2.2.2.2.2.2.2.2.2.2.2.2.2.2.2.2.2.1<(p2.length:Int))) (λb=>(sp 204 (K1 p1 p2 y4 y4 y4 y4 [(53,vB b)]) y4.2.2.2.2.2.2.2.2.2.2.2.2.2.2.2.2.2.2.2)) (λb=>(K1 p1 p2 y4 y4 y4 y4 [(56,vB (b&&y4.2.2.2.2.2.2.2.2.2.2.2.2.2.2.2.2.1))])) (by kernel_rfl) (by kernel_rfl) (by kernel_rfl)<|aa.s [] [1,2,3,6,11,12,57] 1<|aa.mg 204 y4.2.2.2.2.2.2.2.2.2.2.2.2.2.2.2.2.2.2.2 [1,2,3,6,11,12,60] 3 ((decide (y4.2.2.2.2.2.2.2.2.2.2.2.2.2.2.2.2.2.2.1<(p2.length:Int)))&&y4.2.2.2.2.2.2.2.2.2.2.2.2.2.2.2.2.1) (λb=>(sp 204 (K1 p1 p2 y4 y4 y4 y4 [(57,vB b)]) y4.2.2.2.2.2.2.2.2.2.2.2.2.2.2.2.2.2.2.2)) (λb=>(K1 p1 p2 y4 y4 y4 y4 [(60,vB (b&&y4.2.2.2.2.2.2.2.2.2.2.2.2.2.2.2.2.2.1))])) (by kernel_rfl) (by kernel_rfl) (by kernel_rfl)<|aa.E<|SW.b h (λh=>SW.skip<|af<|SW.seq<|SW.block<|SW.S<|aa.t 2<|bI h λx5 hx h=>aa.p (s:=aI none (Go.Sh.D.cells (iU x5))) (az.index (n:=4) hx)<|aa.t 3<|aa.E<|SW.seq<|SW.t 1<|SW.block<|SW.t 1<|SW.b h (λh=>SW.S<|aa.s [] [1,2,3,6,11,12,13,97,99,101] 6<|bI h λi6 hp_i6 h=>aa.nH y4.2.2.2.2.2.2.2.2.2.1 (λp=>(sp 204 (K1 p1 p2 y4 y4 y4 y4 [(13,FG x5),(97,.d (cP.enc p)),(99,Z4 x5),(101,vI x5.Key)]) y4.2.2.2.2.2.2.2.2.2.2.2.2.2.2.2.2.2.2.2)) (by kernel_rfl) hp_i6<|bI h λr7 hr h=>aa.f (j6 hr)<|aa.t 5<|aa.E<|SW.S<|aa.t 6<|bI h λr8 hr h=>aa.d (nh hr)<|aa.t 8<|aa.E<|SW.an<|aa.s [] [1,2,3,6,11,12,15,18,116,120] 5<|aa.mg 204 r7.2 [1,2,3,6,11,12,116,124] 4 (r7.1.1==r8.2.1) (λb=>(sp 204 (K1 p1 p2 y4 y4 y4 y4 [(15,vI r7.1.2),(18,vI r8.2.2),(116,Lr r8),(120,vB b)]) r7.2)) (λb=>(K1 p1 p2 y4 y4 y4 y4 [(116,Lr r8),(124,vB (b&&(r7.1.2==r8.2.2)))])) (by kernel_rfl) (by kernel_rfl) (by kernel_rfl)<|aa.t 4<|aa.D<|aC<|af<|SW.an<|aa.s [] [1,2,3,6,11,12,195] 3<|aa.b2 (λb=>(sp 204 (K25 p1 p2 y4 y4 [(11,MX y4 r8 r7),(12,oz y4),(195,vB b)]) r7.2)) h (λh=>aa.s [] [1,2,3,6,11,12,195,197,199] 4<|bI h λi9 hp_i9 h=>aa.nH y4.2.2.2.2.2.2.2.2.2.1 (λp=>(sp 204 (K25 p1 p2 y4 y4 [(11,MX y4 r8 r7),(12,oz y4),(195,vB true),(197,.d (cP.enc p)),(199,Lr r8)]) r7.2)) (by kernel_rfl) hp_i9<|bI h λr10 hr h=>aa.f (kr hr)<|aa.t 3<|aa.D<|aC<|af<|SW.an<|aa.t 3<|aa.D<|LQ h) λh=>aa.t 8<|aa.D<|aC<|af<|SW.an<|aa.t 3<|aa.D<|LQ h) (λh=>SW.t 1<|SW.b h (λh=>SW.S<|aa.s [] [1,2,3,6,11,12,13,130,132,134] 6<|bI h λi11 hp_i11 h=>aa.nH y4.2.2.2.2.2.2.2.2.2.1 (λp=>(sp 204 (K1 p1 p2 y4 y4 y4 y4 [(13,FG x5),(130,.d (cP.enc p)),(132,Z4 x5),(134,vI x5.Key)]) y4.2.2.2.2.2.2.2.2.2.2.2.2.2.2.2.2.2.2.2)) (by kernel_rfl) hp_i11<|bI h λr12 hr h=>aa.f (tu hr)<|aa.t 1<|aa.E<|SW.S<|aa.t 6<|bI h λr13 hr h=>aa.d (tD hr)<|aa.t 6<|aa.E<|SW.an<|aa.t 8<|aa.D<|aC<|af<|SW.an<|aa.s [] [1,2,3,6,11,12,195] 3<|aa.b2 (λb=>(sp 204 (K25 p1 p2 y4 y4 [(11,JC y4 r13 r12),(12,oz y4),(195,vB b)]) r12.2)) h (λh=>aa.s [] [1,2,3,6,11,12,195,197,199] 4<|bI h λi14 hp_i14 h=>aa.nH y4.2.2.2.2.2.2.2.2.2.1 (λp=>(sp 204 (K25 p1 p2 y4 y4 [(11,JC y4 r13 r12),(12,oz y4),(195,vB true),(197,.d (cP.enc p)),(199,Lt r13)]) r12.2)) (by kernel_rfl) hp_i14<|bI h λr15 hr h=>aa.f (kr hr)<|aa.t 3<|aa.D<|aC<|af<|SW.an<|aa.t 3<|aa.D<|LQ h) λh=>aa.t 8<|aa.D<|aC<|af<|SW.an<|aa.t 3<|aa.D<|LQ h) (λh=>SW.t 1<|SW.b h (λh=>SW.S<|aa.s [] [1,2,3,6,11,12,13,155,157,159,161] 8<|bI h λi16 hp_i16 h=>aa.nH y4.2.2.2.2.2.2.2.2.2.1 (λp=>(sp 204 (K1 p1 p2 y4 y4 y4 y4 [(13,FG x5),(155,.d (cP.enc p)),(157,Z4 x5),(159,vI x5.Key),(161,Z5 x5)]) y4.2.2.2.2.2.2.2.2.2.2.2.2.2.2.2.2.2.2.2)) (by kernel_rfl) hp_i16<|bI h λr17 hr h=>aa.f (u6 hr)<|aa.t 1<|aa.E<|SW.S<|aa.t 8<|bI h λr18 hr h=>aa.d (vb hr)<|aa.t 6<|aa.E<|SW.an<|aa.t 8<|aa.D<|aC<|af<|SW.an<|aa.s [] [1,2,3,6,11,12,195] 3<|aa.b2 (λb=>(sp 204 (K25 p1 p2 y4 y4 [(11,JC y4 r18 r17),(12,oz y4),(195,vB b)]) r17.2)) h (λh=>aa.s [] [1,2,3,6,11,12,195,197,199] 4<|bI h λi19 hp_i19 h=>aa.nH y4.2.2.2.2.2.2.2.2.2.1 (λp=>(sp 204 (K25 p1 p2 y4 y4 [(11,JC y4 r18 r17),(12,oz y4),(195,vB true),(197,.d (cP.enc p)),(199,Lt r18)]) r17.2)) (by kernel_rfl) hp_i19<|bI h λr20 hr h=>aa.f (kr hr)<|aa.t 3<|aa.D<|aC<|af<|SW.an<|aa.t 3<|aa.D<|LQ h) λh=>aa.t 8<|aa.D<|aC<|af<|SW.an<|aa.t 3<|aa.D<|LQ h) (λh=>SW.t 1<|SW.b h (λh=>SW.t 1<|SW.S<|aa.s [] [1,2,3,6,11,12,13,25,186] 2<|bI h λi21 hp_i21 h=>aa.nH y4.2.2.2.2.2.2.2.2.2.1 (λp=>(sp 204 (K1 p1 p2 y4 y4 y4 y4 [(13,FG x5),(25,.d (cP.enc p)),(186,.d (cP.enc p))]) y4.2.2.2.2.2.2.2.2.2.2.2.2.2.2.2.2.2.2.2)) (by kernel_rfl) hp_i21<|bI h λr22 hr h=>aa.f (vU hr)<|aa.s [] [1,2,3,6,11,12,13,25,187,188] 1<|aa.CN [1,2,3,6,11,12,13,25] 1 r22.1 (λp=>(sp 204 (K1 p1 p2 y4 y4 y4 y4 [(13,FG x5),(25,.d (.ptr i21 0)),(187,.d (cP.enc p)),(188,.loc 11 0)]) r22.2)) (λp=>(sp 204 (K25 p1 p2 y4 y4 [(11,.box [.d (cP.enc p),.d (.list 1 (List.map (D.int .i64) y4.2.2.2.2.2.2.2.2.2.2.1)),.d (.list 1 (List.map D.bool y4.2.2.2.2.2.2.2.2.2.2.2.1)),vI y4.2.2.2.2.2.2.2.2.2.2.2.2.1,vI y4.2.2.2.2.2.2.2.2.2.2.2.2.2.1,.d (.list 3 (List.map ab y4.2.2.2.2.2.2.2.2.2.2.2.2.2.2.1)),vI y4.2.2.2.2.2.2.2.2.2.2.2.2.2.2.2.1,vB y4.2.2.2.2.2.2.2.2.2.2.2.2.2.2.2.2.1,vB y4.2.2.2.2.2.2.2.2.2.2.2.2.2.2.2.2.2.1]),(12,oz y4),(13,FG x5),(25,.d (.ptr i21 0))]) r22.2)) (by kernel_rfl) (by kernel_rfl) (λ_=>by kernel_rfl)<|aa.E<|SW.an<|aa.t 3<|bI h λr23 hr h=>aa.f (j6 hr)<|aa.D<|aC<|af<|SW.an<|aa.s [] [1,2,3,6,11,12,195] 3<|aa.b2 (λb=>(sp 204 (K25 p1 p2 y4 y4 [(11,MV r22 y4),(12,oz y4),(195,vB b)]) r23.2)) h (λh=>aa.s [] [1,2,3,6,11,12,195,197,199] 4<|bI h λi24 hp_i24 h=>aa.nH r22.1 (λp=>(sp 204 (K25 p1 p2 y4 y4 [(11,MV r22 y4),(12,oz y4),(195,vB true),(197,.d (cP.enc p)),(199,Lo y4)]) r23.2)) (by kernel_rfl) hp_i24<|bI h λr25 hr h=>aa.f (kr hr)<|aa.t 3<|aa.D<|aC<|af<|SW.an<|aa.t 3<|aa.D<|LQ h) λh=>aa.t 8<|aa.D<|aC<|af<|SW.an<|aa.t 3<|aa.D<|LQ h) (λh=>SW.JH 204 [1,2,3,6,11,12,26,27,28] (λ(j26:(Option Nat)×Int×Int×Hp)=>(K30 p1 p2 y4 y4 y4 y4 j26.1 [(27,vI j26.2.1),(28,vI j26.2.2.1)])) (λ(j26:(Option Nat)×Int×Int×Hp)=>j26.2.2.2) h (λj26 h=>SW.S<|aa.s [] [1,2,3,6,11,12,26,27,84] 3<|aa.mg 204 j26.2.2.2 [1,2,3,6,11,12,26,87] 3 (j26.2.2.1==0) (λb=>(sp 204 (K30 p1 p2 y4 y4 y4 y4 j26.1 [(27,vI j26.2.1),(84,vB b)]) j26.2.2.2)) (λb=>(K30 p1 p2 y4 y4 y4 y4 j26.1 [(87,vB (b&&(j26.2.1==(-1))))])) (by kernel_rfl) (by kernel_rfl) (by kernel_rfl)<|aa.t 2<|aa.E<|SW.t 1<|SW.b h (λh=>SW.an<|aa.s [] [1,2,3,6,11,12,91,92] 2<|aa.CN [1,2,3,6,11,12] 1 j26.1 (λp=>(sp 204 (K25 p1 p2 y4 y4 [(11,Ln y4 j26),(12,oz y4),(91,.d (cP.enc p)),(92,.loc 11 0)]) j26.2.2.2)) (λp=>(sp 204 (K25 p1 p2 y4 y4 [(11,.box [.d (cP.enc p),.d (.list 1 (List.map (D.int .i64) y4.2.2.2.2.2.2.2.2.2.2.1)),.d (.list 1 (List.map D.bool y4.2.2.2.2.2.2.2.2.2.2.2.1)),vI y4.2.2.2.2.2.2.2.2.2.2.2.2.1,vI y4.2.2.2.2.2.2.2.2.2.2.2.2.2.1,.d (.list 3 (List.map ab y4.2.2.2.2.2.2.2.2.2.2.2.2.2.2.1)),vI y4.2.2.2.2.2.2.2.2.2.2.2.2.2.2.2.1,vB ((j26.2.2.1==0)&&(j26.2.1==(-1))),vB y4.2.2.2.2.2.2.2.2.2.2.2.2.2.2.2.2.2.1]),(12,oz y4)]) j26.2.2.2)) (by kernel_rfl) (by kernel_rfl) (λ_=>by kernel_rfl)<|aa.D<|aC<|af<|SW.an<|aa.s [] [1,2,3,6,11,12,195] 3<|aa.b2 (λb=>(sp 204 (K25 p1 p2 y4 y4 [(11,MU j26 y4),(12,oz y4),(195,vB b)]) j26.2.2.2)) h (λh=>aa.s [] [1,2,3,6,11,12,195,197,199] 4<|bI h λi33 hp_i33 h=>aa.nH j26.1 (λp=>(sp 204 (K25 p1 p2 y4 y4 [(11,MU j26 y4),(12,oz y4),(195,vB true),(197,.d (cP.enc p)),(199,Lo y4)]) j26.2.2.2)) (by kernel_rfl) hp_i33<|bI h λr34 hr h=>aa.f (kr hr)<|aa.t 3<|aa.D<|aC<|af<|SW.an<|aa.t 3<|aa.D<|LQ h) λh=>aa.t 8<|aa.D<|aC<|af<|SW.an<|aa.t 3<|aa.D<|LQ h) (λh=>SW.skip<|aC<|af<|SW.an<|aa.s [] [1,2,3,6,11,12,195] 3<|aa.b2 (λb=>(sp 204 (K25 p1 p2 y4 y4 [(11,Ln y4 j26),(12,oz y4),(195,vB b)]) j26.2.2.2)) h (λh=>aa.s [] [1,2,3,6,11,12,195,197,199] 4<|bI h λi35 hp_i35 h=>aa.nH y4.2.2.2.2.2.2.2.2.2.1 (λp=>(sp 204 (K25 p1 p2 y4 y4 [(11,Ln y4 j26),(12,oz y4),(195,vB true),(197,.d (cP.enc p)),(199,Lo y4)]) j26.2.2.2)) (by kernel_rfl) hp_i35<|bI h λr36 hr h=>aa.f (kr hr)<|aa.t 3<|aa.D<|aC<|af<|SW.an<|aa.t 3<|aa.D<|LQ h) λh=>aa.t 8<|aa.D<|aC<|af<|SW.an<|aa.t 3<|aa.D<|LQ h)) λjp27 h=>bI h λi28 hp_i28 h=>bI h λr29 hr_4 h=>bI h λi30 hp_i30 h=>bI h λr31 hr_7 h=>bI h λr32 hr_8 h=>SW.kk 204 y4.2.2.2.2.2.2.2.2.2.2.2.2.2.2.2.2.2.2.2 (K1 p1 p2 y4 y4 y4 y4 [])<|(by
   refine SW.qE 204 r32.2 (K30 p1 p2 y4 y4 y4 y4 r32.1.1 [(27,vI r32.1.2.1),(28,vI r32.1.2.2)]) [1,2,3] 13 14 (by kernel_rfl) (by kernel_rfl) (by kernel_rfl) (λX hX=>?_) (JQ [] h)
   .have c65535:X 0 65535 (sp 204 (K30 p1 p2 y4 y4 y4 y4 r32.1.1 [(27,vI r32.1.2.1),(28,vI r32.1.2.2)]) r32.2):=by subst hX;exact OX.fin (by kernel_rfl)
    have c32767:X 1 32767 (sp 204 (K30 p1 p2 y4 y4 y4 y4 r32.1.1 [(27,vI r32.1.2.1),(81,vI r32.1.2.2)]) r32.2):=by
     subst hX
     refine OX.step (i0:=15) (is:=[]) (by kernel_rfl) (by kernel_rfl) ⟨?_,trivial⟩
     .refine aa.sg 204 r32.2 [] [1,2,3,6,11,12,26,27,28] 1 (K30 p1 p2 y4 y4 y4 y4 r32.1.1 [(27,vI r32.1.2.1),(28,vI r32.1.2.2)]) (by kernel_rfl)<|aa.D ?_
      exact c65535
    have c16383:X 2 16383 (sp 204 (K30 p1 p2 y4 y4 y4 y4 r32.1.1 [(80,vI r32.1.2.1),(81,vI r32.1.2.2)]) r32.2):=by
     subst hX
     refine OX.step (i0:=14) (is:=[]) (by kernel_rfl) (by kernel_rfl) ⟨?_,trivial⟩
     .refine aa.sg 204 r32.2 [] [1,2,3,6,11,12,26,27,81] 1 (K30 p1 p2 y4 y4 y4 y4 r32.1.1 [(27,vI r32.1.2.1),(81,vI r32.1.2.2)]) (by kernel_rfl)<|aa.D ?_
      exact c32767
    have c8191:X 3 8191 (sp 204 (K1 p1 p2 y4 y4 y4 y4 [(79,.d (cP.enc r32.1.1)),(80,vI r32.1.2.1),(81,vI r32.1.2.2)]) r32.2):=by
     subst hX
     refine OX.step (i0:=13) (is:=[]) (by kernel_rfl) (by kernel_rfl) ⟨?_,trivial⟩
     .refine aa.sg 204 r32.2 [] [1,2,3,6,11,12,26,80,81] 1 (K30 p1 p2 y4 y4 y4 y4 r32.1.1 [(80,vI r32.1.2.1),(81,vI r32.1.2.2)]) (by kernel_rfl)<|aa.D ?_
      exact c16383
    have c28671:X 2 28671 (sp 204 (K30 p1 p2 y4 y4 y4 y4 r32.1.1 [(27,vI r32.1.2.1),(69,gW r32)]) r32.2):=by
     subst hX
     refine OX.step (i0:=12) (is:=[]) (by kernel_rfl) (by kernel_rfl) ⟨?_,trivial⟩
     .refine aa.sg 204 r32.2 [] [1,2,3,6,11,12,26,27,81] 1 (K30 p1 p2 y4 y4 y4 y4 r32.1.1 [(27,vI r32.1.2.1),(81,vI r32.1.2.2)]) (by kernel_rfl)<|aa.D ?_
      exact c32767
    have c12287:X 3 12287 (sp 204 (K30 p1 p2 y4 y4 y4 y4 r32.1.1 [(69,gW r32),(80,vI r32.1.2.1)]) r32.2):=by
     subst hX
     refine OX.step (i0:=12) (is:=[14]) (by kernel_rfl) (by kernel_rfl) ⟨?_,?_,trivial⟩
     .refine aa.G 1 (K30 p1 p2 y4 y4 y4 y4 r32.1.1 [(80,vI r32.1.2.1),(81,vI r32.1.2.2)])<|aa.D ?_
      exact c16383
     .refine aa.G 1 (K30 p1 p2 y4 y4 y4 y4 r32.1.1 [(27,vI r32.1.2.1),(69,gW r32)])<|aa.D ?_
      exact c28671
    have c4095:X 4 4095 (sp 204 (K58 p1 p2 y4 y4 y4 y4 r32 r32.1.1 [(80,vI r32.1.2.1)]) r32.2):=by
     subst hX
     refine OX.step (i0:=12) (is:=[13]) (by kernel_rfl) (by kernel_rfl) ⟨?_,?_,trivial⟩
     .refine aa.G 1 (K1 p1 p2 y4 y4 y4 y4 [(79,.d (cP.enc r32.1.1)),(80,vI r32.1.2.1),(81,vI r32.1.2.2)])<|aa.D ?_
      exact c8191
     .refine aa.G 1 (K30 p1 p2 y4 y4 y4 y4 r32.1.1 [(69,gW r32),(80,vI r32.1.2.1)])<|aa.D ?_
      exact c12287
    have c14335:X 3 14335 (sp 204 (K30 p1 p2 y4 y4 y4 y4 r32.1.1 [(69,gW r32),(81,vI r32.1.2.2)]) r32.2):=by
     subst hX
     refine OX.step (i0:=11) (is:=[]) (by kernel_rfl) (by kernel_rfl) ⟨?_,trivial⟩
     .refine aa.sg 204 r32.2 [] [1,2,3,6,11,12,26,80,81] 1 (K30 p1 p2 y4 y4 y4 y4 r32.1.1 [(80,vI r32.1.2.1),(81,vI r32.1.2.2)]) (by kernel_rfl)<|aa.D ?_
      exact c16383
    have c6143:X 4 6143 (sp 204 (K58 p1 p2 y4 y4 y4 y4 r32 r32.1.1 [(81,vI r32.1.2.2)]) r32.2):=by
     subst hX
     refine OX.step (i0:=11) (is:=[13]) (by kernel_rfl) (by kernel_rfl) ⟨?_,?_,trivial⟩
     .refine aa.G 1 (K1 p1 p2 y4 y4 y4 y4 [(79,.d (cP.enc r32.1.1)),(80,vI r32.1.2.1),(81,vI r32.1.2.2)])<|aa.D ?_
      exact c8191
     .refine aa.G 1 (K30 p1 p2 y4 y4 y4 y4 r32.1.1 [(69,gW r32),(81,vI r32.1.2.2)])<|aa.D ?_
      exact c14335
    have c10239:X 4 10239 (sp 204 (K30 p1 p2 y4 y4 y4 y4 r32.1.1 [(69,gW r32)]) r32.2):=by
     subst hX
     refine OX.step (i0:=11) (is:=[12]) (by kernel_rfl) (by kernel_rfl) ⟨?_,?_,trivial⟩
     .refine aa.G 1 (K30 p1 p2 y4 y4 y4 y4 r32.1.1 [(69,gW r32),(80,vI r32.1.2.1)])<|aa.D ?_
      exact c12287
     .refine aa.G 1 (K30 p1 p2 y4 y4 y4 y4 r32.1.1 [(69,gW r32),(81,vI r32.1.2.2)])<|aa.D ?_
      exact c14335
    have c2047:X 5 2047 (sp 204 (K58 p1 p2 y4 y4 y4 y4 r32 r32.1.1 []) r32.2):=by
     subst hX
     refine OX.step (i0:=11) (is:=[12,13]) (by kernel_rfl) (by kernel_rfl) ⟨?_,?_,?_,trivial⟩
     .refine aa.G 1 (K58 p1 p2 y4 y4 y4 y4 r32 r32.1.1 [(80,vI r32.1.2.1)])<|aa.D ?_
      exact c4095
     .refine aa.G 1 (K58 p1 p2 y4 y4 y4 y4 r32 r32.1.1 [(81,vI r32.1.2.2)])<|aa.D ?_
      exact c6143
     .refine aa.G 1 (K30 p1 p2 y4 y4 y4 y4 r32.1.1 [(69,gW r32)])<|aa.D ?_
      exact c10239
    have c7167:X 4 7167 (sp 204 (K1 p1 p2 y4 y4 y4 y4 [(69,gW r32),(80,vI r32.1.2.1),(81,vI r32.1.2.2)]) r32.2):=by
     subst hX
     refine OX.step (i0:=10) (is:=[]) (by kernel_rfl) (by kernel_rfl) ⟨?_,trivial⟩
     .refine aa.sg 204 r32.2 [] [1,2,3,6,11,12,79,80,81] 1 (K1 p1 p2 y4 y4 y4 y4 [(79,.d (cP.enc r32.1.1)),(80,vI r32.1.2.1),(81,vI r32.1.2.2)]) (by kernel_rfl)<|aa.D ?_
      exact c8191
    have c3071:X 5 3071 (sp 204 (K1 p1 p2 y4 y4 y4 y4 [(69,gW r32),(80,vI r32.1.2.1)]) r32.2):=by
     subst hX
     refine OX.step (i0:=10) (is:=[12]) (by kernel_rfl) (by kernel_rfl) ⟨?_,?_,trivial⟩
     .refine aa.G 1 (K58 p1 p2 y4 y4 y4 y4 r32 r32.1.1 [(80,vI r32.1.2.1)])<|aa.D ?_
      exact c4095
     .refine aa.G 1 (K1 p1 p2 y4 y4 y4 y4 [(69,gW r32),(80,vI r32.1.2.1),(81,vI r32.1.2.2)])<|aa.D ?_
      exact c7167
    have c5119:X 5 5119 (sp 204 (K1 p1 p2 y4 y4 y4 y4 [(69,gW r32),(81,vI r32.1.2.2)]) r32.2):=by
     subst hX
     refine OX.step (i0:=10) (is:=[11]) (by kernel_rfl) (by kernel_rfl) ⟨?_,?_,trivial⟩
     .refine aa.G 1 (K58 p1 p2 y4 y4 y4 y4 r32 r32.1.1 [(81,vI r32.1.2.2)])<|aa.D ?_
      exact c6143
     .refine aa.G 1 (K1 p1 p2 y4 y4 y4 y4 [(69,gW r32),(80,vI r32.1.2.1),(81,vI r32.1.2.2)])<|aa.D ?_
      exact c7167
    have c1023:X 6 1023 (sp 204 (K1 p1 p2 y4 y4 y4 y4 [(69,gW r32)]) r32.2):=by
     subst hX
     refine OX.step (i0:=10) (is:=[11,12]) (by kernel_rfl) (by kernel_rfl) ⟨?_,?_,?_,trivial⟩
     .refine aa.G 1 (K58 p1 p2 y4 y4 y4 y4 r32 r32.1.1 [])<|aa.D ?_
      exact c2047
     .refine aa.G 1 (K1 p1 p2 y4 y4 y4 y4 [(69,gW r32),(80,vI r32.1.2.1)])<|aa.D ?_
      exact c3071
     .refine aa.G 1 (K1 p1 p2 y4 y4 y4 y4 [(69,gW r32),(81,vI r32.1.2.2)])<|aa.D ?_
      exact c5119
    have c511:X 7 511 (sp 204 (K1 p1 p2 y4 y4 y4 y4 [(78,gW r32)]) r32.2):=by
     subst hX
     refine OX.step (i0:=9) (is:=[]) (by kernel_rfl) (by kernel_rfl) ⟨?_,trivial⟩
     .refine aa.sg 204 r32.2 [] [1,2,3,6,11,12,69] 1 (K1 p1 p2 y4 y4 y4 y4 [(69,gW r32)]) (by kernel_rfl)<|aa.D ?_
      exact c1023
    have c255:X 8 255 (sp 204 (K26 p1 p2 y4 y4 y4 y4 y4 p1 [(74,vI r29),(77,gz r31)]) r31.2):=by
     subst hX
     refine OX.step (i0:=8) (is:=[]) (by kernel_rfl) (by kernel_rfl) ⟨?_,trivial⟩
     .refine aa.hP 204 (K1 p1 p2 y4 y4 y4 y4 [(78,.gB [.d (cP.enc r32.1.1),vI r32.1.2.1,vI r32.1.2.2])]) (yo hr_8)<|aa.D ?_
      exact c511
    have c127:X 9 127 (sp 204 (K26 p1 p2 y4 y4 y4 y4 y4 p1 [(74,vI r29),(76,jR y4)]) y4.2.2.2.2.2.2.2.2.2.2.2.2.2.2.2.2.2.2.2):=by
     subst hX
     refine OX.step (i0:=7) (is:=[]) (by kernel_rfl) (by kernel_rfl) ⟨?_,trivial⟩
     .refine aa.nH y4.2.2.2.2.2.2.2.2.2.1 (λp=>(sp 204 (K26 p1 p2 y4 y4 y4 y4 y4 p1 [(74,vI r29),(76,.d (cP.enc p))]) y4.2.2.2.2.2.2.2.2.2.2.2.2.2.2.2.2.2.2.2)) (by kernel_rfl) hp_i30<|aa.CH (some 77) (K26 p1 p2 y4 y4 y4 y4 y4 p1 [(74,vI r29),(77,.d (.list 3 (List.map bn r31.1)))]) (bX hr_7)<|aa.D ?_
      exact c255
    have c63:X 10 63 (sp 204 (K26 p1 p2 y4 y4 y4 y4 y4 p1 [(74,vI r29),(75,.loc 11 0)]) y4.2.2.2.2.2.2.2.2.2.2.2.2.2.2.2.2.2.2.2):=by
     subst hX
     refine OX.step (i0:=6) (is:=[]) (by kernel_rfl) (by kernel_rfl) ⟨?_,trivial⟩
     .refine aa.sg 204 y4.2.2.2.2.2.2.2.2.2.2.2.2.2.2.2.2.2.2.2 [] [1,2,3,6,11,12,70,71,74,76] 1 (K26 p1 p2 y4 y4 y4 y4 y4 p1 [(74,vI r29),(76,jR y4)]) (by kernel_rfl)<|aa.D ?_
      exact c127
    have c31:X 11 31 (sp 204 (K26 p1 p2 y4 y4 y4 y4 y4 p1 [(74,vI r29)]) y4.2.2.2.2.2.2.2.2.2.2.2.2.2.2.2.2.2.2.2):=by
     subst hX
     refine OX.step (i0:=5) (is:=[]) (by kernel_rfl) (by kernel_rfl) ⟨?_,trivial⟩
     .refine aa.sg 204 y4.2.2.2.2.2.2.2.2.2.2.2.2.2.2.2.2.2.2.2 [] [1,2,3,6,11,12,70,71,74,75] 1 (K26 p1 p2 y4 y4 y4 y4 y4 p1 [(74,vI r29),(75,.loc 11 0)]) (by kernel_rfl)<|aa.D ?_
      exact c63
    have c111:X 10 111 (sp 204 (K26 p1 p2 y4 y4 y4 y4 y4 p1 [(73,jR y4),(76,jR y4)]) y4.2.2.2.2.2.2.2.2.2.2.2.2.2.2.2.2.2.2.2):=by
     subst hX
     refine OX.step (i0:=4) (is:=[]) (by kernel_rfl) (by kernel_rfl) ⟨?_,trivial⟩
     .refine aa.nH y4.2.2.2.2.2.2.2.2.2.1 (λp=>(sp 204 (K26 p1 p2 y4 y4 y4 y4 y4 p1 [(73,.d (cP.enc p)),(76,jR y4)]) y4.2.2.2.2.2.2.2.2.2.2.2.2.2.2.2.2.2.2.2)) (by kernel_rfl) hp_i28<|aa.CR (ls:=[]) (some 74) (K26 p1 p2 y4 y4 y4 y4 y4 p1 [(74,vI r29),(76,jR y4)]) (dJ hr_4)<|aa.D ?_
      exact c127
    have c47:X 11 47 (sp 204 (K26 p1 p2 y4 y4 y4 y4 y4 p1 [(73,jR y4),(75,.loc 11 0)]) y4.2.2.2.2.2.2.2.2.2.2.2.2.2.2.2.2.2.2.2):=by
     subst hX
     refine OX.step (i0:=4) (is:=[6]) (by kernel_rfl) (by kernel_rfl) ⟨?_,?_,trivial⟩
     .refine aa.nH y4.2.2.2.2.2.2.2.2.2.1 (λp=>(sp 204 (K26 p1 p2 y4 y4 y4 y4 y4 p1 [(73,.d (cP.enc p)),(75,.loc 11 0)]) y4.2.2.2.2.2.2.2.2.2.2.2.2.2.2.2.2.2.2.2)) (by kernel_rfl) hp_i28<|aa.CR (ls:=[]) (some 74) (K26 p1 p2 y4 y4 y4 y4 y4 p1 [(74,vI r29),(75,.loc 11 0)]) (dJ hr_4)<|aa.D ?_
      exact c63
     .refine aa.G 1 (K26 p1 p2 y4 y4 y4 y4 y4 p1 [(73,jR y4),(76,jR y4)])<|aa.D ?_
      exact c111
    have c15:X 12 15 (sp 204 (K26 p1 p2 y4 y4 y4 y4 y4 p1 [(73,jR y4)]) y4.2.2.2.2.2.2.2.2.2.2.2.2.2.2.2.2.2.2.2):=by
     subst hX
     refine OX.step (i0:=4) (is:=[5]) (by kernel_rfl) (by kernel_rfl) ⟨?_,?_,trivial⟩
     .refine aa.nH y4.2.2.2.2.2.2.2.2.2.1 (λp=>(sp 204 (K26 p1 p2 y4 y4 y4 y4 y4 p1 [(73,.d (cP.enc p))]) y4.2.2.2.2.2.2.2.2.2.2.2.2.2.2.2.2.2.2.2)) (by kernel_rfl) hp_i28<|aa.CR (ls:=[]) (some 74) (K26 p1 p2 y4 y4 y4 y4 y4 p1 [(74,vI r29)]) (dJ hr_4)<|aa.D ?_
      exact c31
     .refine aa.G 1 (K26 p1 p2 y4 y4 y4 y4 y4 p1 [(73,jR y4),(75,.loc 11 0)])<|aa.D ?_
      exact c47
    have c254:X 9 254 (sp 204 (K1 p1 p2 y4 y4 y4 y4 [(71,vI p1),(74,vI r29),(77,gz r31)]) r31.2):=by
     subst hX
     refine OX.step (i0:=0) (is:=[]) (by kernel_rfl) (by kernel_rfl) ⟨?_,trivial⟩
     .refine aa.sg 204 r31.2 [] [1,2,3,6,11,12,70,71,74,77] 1 (K26 p1 p2 y4 y4 y4 y4 y4 p1 [(74,vI r29),(77,gz r31)]) (by kernel_rfl)<|aa.D ?_
      exact c255
    have c126:X 10 126 (sp 204 (K1 p1 p2 y4 y4 y4 y4 [(71,vI p1),(74,vI r29),(76,jR y4)]) y4.2.2.2.2.2.2.2.2.2.2.2.2.2.2.2.2.2.2.2):=by
     subst hX
     refine OX.step (i0:=0) (is:=[7]) (by kernel_rfl) (by kernel_rfl) ⟨?_,?_,trivial⟩
     .refine aa.G 1 (K26 p1 p2 y4 y4 y4 y4 y4 p1 [(74,vI r29),(76,jR y4)])<|aa.D ?_
      exact c127
     .refine aa.nH y4.2.2.2.2.2.2.2.2.2.1 (λp=>(sp 204 (K1 p1 p2 y4 y4 y4 y4 [(71,vI p1),(74,vI r29),(76,.d (cP.enc p))]) y4.2.2.2.2.2.2.2.2.2.2.2.2.2.2.2.2.2.2.2)) (by kernel_rfl) hp_i30<|aa.CH (some 77) (K1 p1 p2 y4 y4 y4 y4 [(71,vI p1),(74,vI r29),(77,gz r31)]) (bX hr_7)<|aa.D ?_
      exact c254
    have c62:X 11 62 (sp 204 (K1 p1 p2 y4 y4 y4 y4 [(71,vI p1),(74,vI r29),(75,.loc 11 0)]) y4.2.2.2.2.2.2.2.2.2.2.2.2.2.2.2.2.2.2.2):=by
     subst hX
     refine OX.step (i0:=0) (is:=[6]) (by kernel_rfl) (by kernel_rfl) ⟨?_,?_,trivial⟩
     .refine aa.G 1 (K26 p1 p2 y4 y4 y4 y4 y4 p1 [(74,vI r29),(75,.loc 11 0)])<|aa.D ?_
      exact c63
     .refine aa.G 1 (K1 p1 p2 y4 y4 y4 y4 [(71,vI p1),(74,vI r29),(76,jR y4)])<|aa.D ?_
      exact c126
    have c30:X 12 30 (sp 204 (K1 p1 p2 y4 y4 y4 y4 [(71,vI p1),(74,vI r29)]) y4.2.2.2.2.2.2.2.2.2.2.2.2.2.2.2.2.2.2.2):=by
     subst hX
     refine OX.step (i0:=0) (is:=[5]) (by kernel_rfl) (by kernel_rfl) ⟨?_,?_,trivial⟩
     .refine aa.G 1 (K26 p1 p2 y4 y4 y4 y4 y4 p1 [(74,vI r29)])<|aa.D ?_
      exact c31
     .refine aa.G 1 (K1 p1 p2 y4 y4 y4 y4 [(71,vI p1),(74,vI r29),(75,.loc 11 0)])<|aa.D ?_
      exact c62
    have c110:X 11 110 (sp 204 (K1 p1 p2 y4 y4 y4 y4 [(71,vI p1),(73,jR y4),(76,jR y4)]) y4.2.2.2.2.2.2.2.2.2.2.2.2.2.2.2.2.2.2.2):=by
     subst hX
     refine OX.step (i0:=0) (is:=[4]) (by kernel_rfl) (by kernel_rfl) ⟨?_,?_,trivial⟩
     .refine aa.G 1 (K26 p1 p2 y4 y4 y4 y4 y4 p1 [(73,jR y4),(76,jR y4)])<|aa.D ?_
      exact c111
     .refine aa.nH y4.2.2.2.2.2.2.2.2.2.1 (λp=>(sp 204 (K1 p1 p2 y4 y4 y4 y4 [(71,vI p1),(73,.d (cP.enc p)),(76,jR y4)]) y4.2.2.2.2.2.2.2.2.2.2.2.2.2.2.2.2.2.2.2)) (by kernel_rfl) hp_i28<|aa.CR (ls:=[]) (some 74) (K1 p1 p2 y4 y4 y4 y4 [(71,vI p1),(74,vI r29),(76,jR y4)]) (dJ hr_4)<|aa.D ?_
      exact c126
    have c46:X 12 46 (sp 204 (K1 p1 p2 y4 y4 y4 y4 [(71,vI p1),(73,jR y4),(75,.loc 11 0)]) y4.2.2.2.2.2.2.2.2.2.2.2.2.2.2.2.2.2.2.2):=by
     subst hX
     refine OX.step (i0:=0) (is:=[4,6]) (by kernel_rfl) (by kernel_rfl) ⟨?_,?_,?_,trivial⟩
     .refine aa.G 1 (K26 p1 p2 y4 y4 y4 y4 y4 p1 [(73,jR y4),(75,.loc 11 0)])<|aa.D ?_
      exact c47
     .refine aa.nH y4.2.2.2.2.2.2.2.2.2.1 (λp=>(sp 204 (K1 p1 p2 y4 y4 y4 y4 [(71,vI p1),(73,.d (cP.enc p)),(75,.loc 11 0)]) y4.2.2.2.2.2.2.2.2.2.2.2.2.2.2.2.2.2.2.2)) (by kernel_rfl) hp_i28<|aa.CR (ls:=[]) (some 74) (K1 p1 p2 y4 y4 y4 y4 [(71,vI p1),(74,vI r29),(75,.loc 11 0)]) (dJ hr_4)<|aa.D ?_
      exact c62
     .refine aa.G 1 (K1 p1 p2 y4 y4 y4 y4 [(71,vI p1),(73,jR y4),(76,jR y4)])<|aa.D ?_
      exact c110
    have c14:X 13 14 (sp 204 (K1 p1 p2 y4 y4 y4 y4 [(71,vI p1),(73,jR y4)]) y4.2.2.2.2.2.2.2.2.2.2.2.2.2.2.2.2.2.2.2):=by
     subst hX
     refine OX.step (i0:=0) (is:=[4,5]) (by kernel_rfl) (by kernel_rfl) ⟨?_,?_,?_,trivial⟩
     .refine aa.G 1 (K26 p1 p2 y4 y4 y4 y4 y4 p1 [(73,jR y4)])<|aa.D ?_
      exact c15
     .refine aa.nH y4.2.2.2.2.2.2.2.2.2.1 (λp=>(sp 204 (K1 p1 p2 y4 y4 y4 y4 [(71,vI p1),(73,.d (cP.enc p))]) y4.2.2.2.2.2.2.2.2.2.2.2.2.2.2.2.2.2.2.2)) (by kernel_rfl) hp_i28<|aa.CR (ls:=[]) (some 74) (K1 p1 p2 y4 y4 y4 y4 [(71,vI p1),(74,vI r29)]) (dJ hr_4)<|aa.D ?_
      exact c30
     .refine aa.G 1 (K1 p1 p2 y4 y4 y4 y4 [(71,vI p1),(73,jR y4),(75,.loc 11 0)])<|aa.D ?_
      exact c46
    refine au.t<|au.t<|au.sg 204 y4.2.2.2.2.2.2.2.2.2.2.2.2.2.2.2.2.2.2.2 [1,2,3,6,11,12,71,73] (K1 p1 p2 y4 y4 y4 y4 [(71,vI p1),(73,jR y4)]) (by kernel_rfl)<|au.D ?_
    exact c14)))))) (λh=>SW.K [(6,FA y4),(11,Ic y4)]<|SW.exit<|aH<|aH<|LR h ⟨rfl,rfl⟩)) (by rintro _ _ ⟨rfl,rfl⟩;exact aN<|af<|SW.t 1<|SW.ret<|iI h▸E0)
end
def Fq(x:Act):dU (iU x)=true:=by simp[iU,dU,ei,eJ (f:=ah) pJ,eJ (f:=ah) pJ]
noncomputable def mD (fuel:Nat) (p0:ak) (p1:Int) (p2:(List Act)):Option (Bool):=
 (wZ fuel p0 p2).bind λr1=>
 bif (!r1)then
  (sC fuel).bind λr2=>
  some r2
 else
  (tQ fuel p0 p1 p2 []).bind λr3=>
  bif r3.1.same then
   (sC fuel).bind λr4=>
   some r4
  else
   some false
section
attribute [local irreducible] aa aA bb au SW uS
theorem wY{fuel:Nat}{p0:ak}{p1:Int}{p2:(List Act)}{r:Bool}(h:mD fuel p0 p1 p2=some r):PC Tryz.prog 3 [.d (bG p0),vI p1,.d (.list 4 (List.map iU p2))] (vB r):=by
 exact PC.rp Tryz.func3 rfl (by simp[fS,dU,ei,vI,vB,vS,qJ,eJ (f:=iU) Fq]) (by simp[fS,dU,ei,vI,vB,vS])<|(by unfold mD at h;exact SW.kk 20 [] [(0,Z2 p0),(1,vI p1),(2,Z0 p2)]<|SW.t 1<|SW.seq<|SW.S<|aa.t 2<|bI h λr1 hr h=>aa.d (Fk hr)<|aa.t 1<|aa.E<|SW.b h (λh=>SW.S<|bI h λr2 hr h=>aa.d (wW hr)<|aa.t 1<|aa.E<|SW.ret<|ag<|iI h▸EL) (λh=>SW.skip<|af<|SW.S<|aa.t 3<|bI h λr3 hr h=>aa.f (Fj hr)<|aa.s [] [17] 2<|aa.b2 (λb=>(sp 20 [(17,vB b)] r3.2)) h (λh=>bI h λr4 hr h=>aa.d (wW hr)<|aa.t 2<|aa.E<|SW.ret<|iI h▸EL) λh=>aa.t 3<|aa.E<|SW.ret<|iI h▸EL))
end
end Go.Sh
