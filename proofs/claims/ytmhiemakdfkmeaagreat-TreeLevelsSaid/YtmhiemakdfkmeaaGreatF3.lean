/- Printed by a program: functions of the program as plain functions, and that the code computes them. -/
import Derived.Test.YtmhiemakdfkmeaaGreatF2
set_option linter.all false
set_option autoImplicit true
set_option relaxedAutoImplicit true
open Go Go.Proofs
namespace Go.Sh
set_option maxRecDepth 100000
section
attribute [local irreducible] aa aA bb au SW uS
noncomputable def kr (fuel:Nat) (p1:Int) (p2:(List Act)) (y4:(List Int)×(List Bool)×Int×(Option Nat)×Int×Int×Int×Bool×Bool×(Option Nat)×(List Int)×(List Bool)×Int×Int×(List Entry)×Int×Bool×Bool×Int×Hp):Option (((List Int)×(List Bool)×Int×(Option Nat)×Int×Int×Int×Bool×Bool×(Option Nat)×(List Int)×(List Bool)×Int×Int×(List Entry)×Int×Bool×Bool×Int×Hp)⊕((Option Nat)×Int×Int×Int×Bool×Bool×(Option Nat)×(List Int)×(List Bool)×Int×Int×(List Entry)×Int×Bool×Bool×Hp)):=
 bif (((decide (y4.2.2.2.2.2.2.2.2.2.2.2.2.2.2.2.2.2.2.1<(p2.length:Int)))&&y4.2.2.2.2.2.2.2.2.2.2.2.2.2.2.2.2.1)&&y4.2.2.2.2.2.2.2.2.2.2.2.2.2.2.2.2.2.1)then
  (idx p2 y4.2.2.2.2.2.2.2.2.2.2.2.2.2.2.2.2.2.2.1).bind λx5=>
  bif (x5.Kind==0)then
   y4.2.2.2.2.2.2.2.2.2.1.bind λi6=>
   (cY fuel i6 x5.Row x5.Key y4.2.2.2.2.2.2.2.2.2.2.2.2.2.2.2.2.2.2.2).bind λr7=>
   (fO fuel (⟨(⟨y4.2.2.2.2.2.2.2.2.2.2.1,y4.2.2.2.2.2.2.2.2.2.2.2.1,y4.2.2.2.2.2.2.2.2.2.2.2.2.1⟩:ak),y4.2.2.2.2.2.2.2.2.2.2.2.2.2.1,y4.2.2.2.2.2.2.2.2.2.2.2.2.2.2.1,y4.2.2.2.2.2.2.2.2.2.2.2.2.2.2.2.1⟩:Tree) x5.Row x5.Key).bind λr8=>
   bif ((r7.1.1==r8.2.1)&&(r7.1.2==r8.2.2))then
    y4.2.2.2.2.2.2.2.2.2.1.bind λi9=>
    (iF fuel i9 r8.1 r7.2).bind λr10=>
    some (.inl (y4.1,y4.2.1,y4.2.2.1,y4.2.2.2.1,y4.2.2.2.2.1,y4.2.2.2.2.2.1,y4.2.2.2.2.2.2.1,y4.2.2.2.2.2.2.2.1,y4.2.2.2.2.2.2.2.2.1,y4.2.2.2.2.2.2.2.2.2.1,r8.1.S.aq,r8.1.S.Down,r8.1.S.cW,r8.1.Order,r8.1.du,r8.1.eP,r10.1,y4.2.2.2.2.2.2.2.2.2.2.2.2.2.2.2.2.2.1,(IntKind.wrap .i64 (y4.2.2.2.2.2.2.2.2.2.2.2.2.2.2.2.2.2.2.1+1)),r10.2))
   else
    some (.inl (y4.1,y4.2.1,y4.2.2.1,y4.2.2.2.1,y4.2.2.2.2.1,y4.2.2.2.2.2.1,y4.2.2.2.2.2.2.1,y4.2.2.2.2.2.2.2.1,y4.2.2.2.2.2.2.2.2.1,y4.2.2.2.2.2.2.2.2.2.1,r8.1.S.aq,r8.1.S.Down,r8.1.S.cW,r8.1.Order,r8.1.du,r8.1.eP,false,y4.2.2.2.2.2.2.2.2.2.2.2.2.2.2.2.2.2.1,(IntKind.wrap .i64 (y4.2.2.2.2.2.2.2.2.2.2.2.2.2.2.2.2.2.2.1+1)),r7.2))
  else
   bif (x5.Kind==1)then
    y4.2.2.2.2.2.2.2.2.2.1.bind λi11=>
    (eJ fuel i11 x5.Row x5.Key y4.2.2.2.2.2.2.2.2.2.2.2.2.2.2.2.2.2.2.2).bind λr12=>
    (hU fuel (⟨(⟨y4.2.2.2.2.2.2.2.2.2.2.1,y4.2.2.2.2.2.2.2.2.2.2.2.1,y4.2.2.2.2.2.2.2.2.2.2.2.2.1⟩:ak),y4.2.2.2.2.2.2.2.2.2.2.2.2.2.1,y4.2.2.2.2.2.2.2.2.2.2.2.2.2.2.1,y4.2.2.2.2.2.2.2.2.2.2.2.2.2.2.2.1⟩:Tree) x5.Row x5.Key).bind λr13=>
    bif (r12.1==r13.2)then
     y4.2.2.2.2.2.2.2.2.2.1.bind λi14=>
     (iF fuel i14 r13.1 r12.2).bind λr15=>
     some (.inl (y4.1,y4.2.1,y4.2.2.1,y4.2.2.2.1,y4.2.2.2.2.1,y4.2.2.2.2.2.1,y4.2.2.2.2.2.2.1,y4.2.2.2.2.2.2.2.1,y4.2.2.2.2.2.2.2.2.1,y4.2.2.2.2.2.2.2.2.2.1,r13.1.S.aq,r13.1.S.Down,r13.1.S.cW,r13.1.Order,r13.1.du,r13.1.eP,r15.1,y4.2.2.2.2.2.2.2.2.2.2.2.2.2.2.2.2.2.1,(IntKind.wrap .i64 (y4.2.2.2.2.2.2.2.2.2.2.2.2.2.2.2.2.2.2.1+1)),r15.2))
    else
     some (.inl (y4.1,y4.2.1,y4.2.2.1,y4.2.2.2.1,y4.2.2.2.2.1,y4.2.2.2.2.2.1,y4.2.2.2.2.2.2.1,y4.2.2.2.2.2.2.2.1,y4.2.2.2.2.2.2.2.2.1,y4.2.2.2.2.2.2.2.2.2.1,r13.1.S.aq,r13.1.S.Down,r13.1.S.cW,r13.1.Order,r13.1.du,r13.1.eP,false,y4.2.2.2.2.2.2.2.2.2.2.2.2.2.2.2.2.2.1,(IntKind.wrap .i64 (y4.2.2.2.2.2.2.2.2.2.2.2.2.2.2.2.2.2.2.1+1)),r12.2))
   else
    bif (x5.Kind==2)then
     y4.2.2.2.2.2.2.2.2.2.1.bind λi16=>
     (db fuel i16 x5.Row x5.Key x5.uj y4.2.2.2.2.2.2.2.2.2.2.2.2.2.2.2.2.2.2.2).bind λr17=>
     (jy fuel (⟨(⟨y4.2.2.2.2.2.2.2.2.2.2.1,y4.2.2.2.2.2.2.2.2.2.2.2.1,y4.2.2.2.2.2.2.2.2.2.2.2.2.1⟩:ak),y4.2.2.2.2.2.2.2.2.2.2.2.2.2.1,y4.2.2.2.2.2.2.2.2.2.2.2.2.2.2.1,y4.2.2.2.2.2.2.2.2.2.2.2.2.2.2.2.1⟩:Tree) x5.Row x5.Key x5.uj).bind λr18=>
     bif (r17.1==r18.2)then
      y4.2.2.2.2.2.2.2.2.2.1.bind λi19=>
      (iF fuel i19 r18.1 r17.2).bind λr20=>
      some (.inl (y4.1,y4.2.1,y4.2.2.1,y4.2.2.2.1,y4.2.2.2.2.1,y4.2.2.2.2.2.1,y4.2.2.2.2.2.2.1,y4.2.2.2.2.2.2.2.1,y4.2.2.2.2.2.2.2.2.1,y4.2.2.2.2.2.2.2.2.2.1,r18.1.S.aq,r18.1.S.Down,r18.1.S.cW,r18.1.Order,r18.1.du,r18.1.eP,r20.1,y4.2.2.2.2.2.2.2.2.2.2.2.2.2.2.2.2.2.1,(IntKind.wrap .i64 (y4.2.2.2.2.2.2.2.2.2.2.2.2.2.2.2.2.2.2.1+1)),r20.2))
     else
      some (.inl (y4.1,y4.2.1,y4.2.2.1,y4.2.2.2.1,y4.2.2.2.2.1,y4.2.2.2.2.2.1,y4.2.2.2.2.2.2.1,y4.2.2.2.2.2.2.2.1,y4.2.2.2.2.2.2.2.2.1,y4.2.2.2.2.2.2.2.2.2.1,r18.1.S.aq,r18.1.S.Down,r18.1.S.cW,r18.1.Order,r18.1.du,r18.1.eP,false,y4.2.2.2.2.2.2.2.2.2.2.2.2.2.2.2.2.2.1,(IntKind.wrap .i64 (y4.2.2.2.2.2.2.2.2.2.2.2.2.2.2.2.2.2.2.1+1)),r17.2))
    else
     bif (x5.Kind==3)then
      y4.2.2.2.2.2.2.2.2.2.1.bind λi21=>
      (kM fuel i21 y4.2.2.2.2.2.2.2.2.2.2.2.2.2.2.2.2.2.2.2).bind λr22=>
      (cY fuel i21 x5.Row 1 r22.2).bind λr23=>
      bif y4.2.2.2.2.2.2.2.2.2.2.2.2.2.2.2.2.1 then
       r22.1.bind λi24=>
       (iF fuel i24 (⟨(⟨y4.2.2.2.2.2.2.2.2.2.2.1,y4.2.2.2.2.2.2.2.2.2.2.2.1,y4.2.2.2.2.2.2.2.2.2.2.2.2.1⟩:ak),y4.2.2.2.2.2.2.2.2.2.2.2.2.2.1,y4.2.2.2.2.2.2.2.2.2.2.2.2.2.2.1,y4.2.2.2.2.2.2.2.2.2.2.2.2.2.2.2.1⟩:Tree) r23.2).bind λr25=>
       some (.inl (y4.1,y4.2.1,y4.2.2.1,y4.2.2.2.1,y4.2.2.2.2.1,y4.2.2.2.2.2.1,y4.2.2.2.2.2.2.1,y4.2.2.2.2.2.2.2.1,y4.2.2.2.2.2.2.2.2.1,r22.1,y4.2.2.2.2.2.2.2.2.2.2.1,y4.2.2.2.2.2.2.2.2.2.2.2.1,y4.2.2.2.2.2.2.2.2.2.2.2.2.1,y4.2.2.2.2.2.2.2.2.2.2.2.2.2.1,y4.2.2.2.2.2.2.2.2.2.2.2.2.2.2.1,y4.2.2.2.2.2.2.2.2.2.2.2.2.2.2.2.1,r25.1,y4.2.2.2.2.2.2.2.2.2.2.2.2.2.2.2.2.2.1,(IntKind.wrap .i64 (y4.2.2.2.2.2.2.2.2.2.2.2.2.2.2.2.2.2.2.1+1)),r25.2))
      else
       some (.inl (y4.1,y4.2.1,y4.2.2.1,y4.2.2.2.1,y4.2.2.2.2.1,y4.2.2.2.2.2.1,y4.2.2.2.2.2.2.1,y4.2.2.2.2.2.2.2.1,y4.2.2.2.2.2.2.2.2.1,r22.1,y4.2.2.2.2.2.2.2.2.2.2.1,y4.2.2.2.2.2.2.2.2.2.2.2.1,y4.2.2.2.2.2.2.2.2.2.2.2.2.1,y4.2.2.2.2.2.2.2.2.2.2.2.2.2.1,y4.2.2.2.2.2.2.2.2.2.2.2.2.2.2.1,y4.2.2.2.2.2.2.2.2.2.2.2.2.2.2.2.1,false,y4.2.2.2.2.2.2.2.2.2.2.2.2.2.2.2.2.2.1,(IntKind.wrap .i64 (y4.2.2.2.2.2.2.2.2.2.2.2.2.2.2.2.2.2.2.1+1)),r23.2))
     else
      aP (λ(j26:(Option Nat)×Int×Int×Hp)=>
       bif ((j26.2.2.1==0)&&(j26.2.1==(-1)))then
        bif ((j26.2.2.1==0)&&(j26.2.1==(-1)))then
         j26.1.bind λi33=>
         (iF fuel i33 (⟨(⟨y4.2.2.2.2.2.2.2.2.2.2.1,y4.2.2.2.2.2.2.2.2.2.2.2.1,y4.2.2.2.2.2.2.2.2.2.2.2.2.1⟩:ak),y4.2.2.2.2.2.2.2.2.2.2.2.2.2.1,y4.2.2.2.2.2.2.2.2.2.2.2.2.2.2.1,y4.2.2.2.2.2.2.2.2.2.2.2.2.2.2.2.1⟩:Tree) j26.2.2.2).bind λr34=>
         some (.inl (y4.1,y4.2.1,y4.2.2.1,y4.2.2.2.1,y4.2.2.2.2.1,y4.2.2.2.2.2.1,y4.2.2.2.2.2.2.1,y4.2.2.2.2.2.2.2.1,y4.2.2.2.2.2.2.2.2.1,j26.1,y4.2.2.2.2.2.2.2.2.2.2.1,y4.2.2.2.2.2.2.2.2.2.2.2.1,y4.2.2.2.2.2.2.2.2.2.2.2.2.1,y4.2.2.2.2.2.2.2.2.2.2.2.2.2.1,y4.2.2.2.2.2.2.2.2.2.2.2.2.2.2.1,y4.2.2.2.2.2.2.2.2.2.2.2.2.2.2.2.1,r34.1,y4.2.2.2.2.2.2.2.2.2.2.2.2.2.2.2.2.2.1,(IntKind.wrap .i64 (y4.2.2.2.2.2.2.2.2.2.2.2.2.2.2.2.2.2.2.1+1)),r34.2))
        else
         some (.inl (y4.1,y4.2.1,y4.2.2.1,y4.2.2.2.1,y4.2.2.2.2.1,y4.2.2.2.2.2.1,y4.2.2.2.2.2.2.1,y4.2.2.2.2.2.2.2.1,y4.2.2.2.2.2.2.2.2.1,j26.1,y4.2.2.2.2.2.2.2.2.2.2.1,y4.2.2.2.2.2.2.2.2.2.2.2.1,y4.2.2.2.2.2.2.2.2.2.2.2.2.1,y4.2.2.2.2.2.2.2.2.2.2.2.2.2.1,y4.2.2.2.2.2.2.2.2.2.2.2.2.2.2.1,y4.2.2.2.2.2.2.2.2.2.2.2.2.2.2.2.1,false,y4.2.2.2.2.2.2.2.2.2.2.2.2.2.2.2.2.2.1,(IntKind.wrap .i64 (y4.2.2.2.2.2.2.2.2.2.2.2.2.2.2.2.2.2.2.1+1)),j26.2.2.2))
       else
        bif ((j26.2.2.1==0)&&(j26.2.1==(-1)))then
         y4.2.2.2.2.2.2.2.2.2.1.bind λi35=>
         (iF fuel i35 (⟨(⟨y4.2.2.2.2.2.2.2.2.2.2.1,y4.2.2.2.2.2.2.2.2.2.2.2.1,y4.2.2.2.2.2.2.2.2.2.2.2.2.1⟩:ak),y4.2.2.2.2.2.2.2.2.2.2.2.2.2.1,y4.2.2.2.2.2.2.2.2.2.2.2.2.2.2.1,y4.2.2.2.2.2.2.2.2.2.2.2.2.2.2.2.1⟩:Tree) j26.2.2.2).bind λr36=>
         some (.inl (y4.1,y4.2.1,y4.2.2.1,y4.2.2.2.1,y4.2.2.2.2.1,y4.2.2.2.2.2.1,y4.2.2.2.2.2.2.1,y4.2.2.2.2.2.2.2.1,y4.2.2.2.2.2.2.2.2.1,y4.2.2.2.2.2.2.2.2.2.1,y4.2.2.2.2.2.2.2.2.2.2.1,y4.2.2.2.2.2.2.2.2.2.2.2.1,y4.2.2.2.2.2.2.2.2.2.2.2.2.1,y4.2.2.2.2.2.2.2.2.2.2.2.2.2.1,y4.2.2.2.2.2.2.2.2.2.2.2.2.2.2.1,y4.2.2.2.2.2.2.2.2.2.2.2.2.2.2.2.1,r36.1,y4.2.2.2.2.2.2.2.2.2.2.2.2.2.2.2.2.2.1,(IntKind.wrap .i64 (y4.2.2.2.2.2.2.2.2.2.2.2.2.2.2.2.2.2.2.1+1)),r36.2))
        else
         some (.inl (y4.1,y4.2.1,y4.2.2.1,y4.2.2.2.1,y4.2.2.2.2.1,y4.2.2.2.2.2.1,y4.2.2.2.2.2.2.1,y4.2.2.2.2.2.2.2.1,y4.2.2.2.2.2.2.2.2.1,y4.2.2.2.2.2.2.2.2.2.1,y4.2.2.2.2.2.2.2.2.2.2.1,y4.2.2.2.2.2.2.2.2.2.2.2.1,y4.2.2.2.2.2.2.2.2.2.2.2.2.1,y4.2.2.2.2.2.2.2.2.2.2.2.2.2.1,y4.2.2.2.2.2.2.2.2.2.2.2.2.2.2.1,y4.2.2.2.2.2.2.2.2.2.2.2.2.2.2.2.1,false,y4.2.2.2.2.2.2.2.2.2.2.2.2.2.2.2.2.2.1,(IntKind.wrap .i64 (y4.2.2.2.2.2.2.2.2.2.2.2.2.2.2.2.2.2.2.1+1)),j26.2.2.2))) λjp27=>
      y4.2.2.2.2.2.2.2.2.2.1.bind λi28=>
      (iX fuel i28 y4.2.2.2.2.2.2.2.2.2.2.2.2.2.2.2.2.2.2.2).bind λr29=>
      y4.2.2.2.2.2.2.2.2.2.1.bind λi30=>
      (fx fuel i30 y4.2.2.2.2.2.2.2.2.2.2.2.2.2.2.2.2.2.2.2).bind λr31=>
      (lV fuel (⟨y4.1,y4.2.1,y4.2.2.1⟩:ak) p1 r29 r31.1 r31.2).bind λr32=>
      jp27 (r32.1.1,r32.1.2.1,r32.1.2.2,r32.2)
 else
  some (.inr (y4.2.2.2.1,y4.2.2.2.2.1,y4.2.2.2.2.2.1,y4.2.2.2.2.2.2.1,y4.2.2.2.2.2.2.2.1,y4.2.2.2.2.2.2.2.2.1,y4.2.2.2.2.2.2.2.2.2.1,y4.2.2.2.2.2.2.2.2.2.2.1,y4.2.2.2.2.2.2.2.2.2.2.2.1,y4.2.2.2.2.2.2.2.2.2.2.2.2.1,y4.2.2.2.2.2.2.2.2.2.2.2.2.2.1,y4.2.2.2.2.2.2.2.2.2.2.2.2.2.2.1,y4.2.2.2.2.2.2.2.2.2.2.2.2.2.2.2.1,y4.2.2.2.2.2.2.2.2.2.2.2.2.2.2.2.2.1,y4.2.2.2.2.2.2.2.2.2.2.2.2.2.2.2.2.2.1,y4.2.2.2.2.2.2.2.2.2.2.2.2.2.2.2.2.2.2.2))
noncomputable def tU (fuel:Nat) (p0:ak) (p1:Int) (p2:(List Act)) (H:Hp):Option ((Kr)×Hp):=
 (ux fuel p0 p1 H).bind λr1=>
 (yB fuel p0 p1).bind λr2=>
 (iter (kr fuel p1 p2) fuel (p0.aq,p0.Down,p0.cW,none,0,0,0,false,false,r1.1.1,r2.1.S.aq,r2.1.S.Down,r2.1.S.cW,r2.1.Order,r2.1.du,r2.1.eP,(r1.1.2==r2.2),(r2.2==0),0,r1.2)).bind λv38=>
 some ((⟨v38.2.2.2.2.2.2.1,(⟨(⟨v38.2.2.2.2.2.2.2.1,v38.2.2.2.2.2.2.2.2.1,v38.2.2.2.2.2.2.2.2.2.1⟩:ak),v38.2.2.2.2.2.2.2.2.2.2.1,v38.2.2.2.2.2.2.2.2.2.2.2.1,v38.2.2.2.2.2.2.2.2.2.2.2.2.1⟩:Tree),v38.2.2.2.2.2.2.2.2.2.2.2.2.2.1,v38.2.2.2.2.2.2.2.2.2.2.2.2.2.2.1⟩:Kr),v38.2.2.2.2.2.2.2.2.2.2.2.2.2.2.2)
def Im(x0:(List Int)×(List Bool)×Int×(Option Nat)×Int×Int×Int×Bool×Bool×(Option Nat)×(List Int)×(List Bool)×Int×Int×(List Entry)×Int×Bool×Bool×Int×Hp):SV:=.box [.d (.list 1 (List.map (D.int .i64) x0.1)),.d (.list 1 (List.map D.bool x0.2.1)),vI x0.2.2.1]
def FD(x0:(List Int)×(List Bool)×Int×(Option Nat)×Int×Int×Int×Bool×Bool×(Option Nat)×(List Int)×(List Bool)×Int×Int×(List Entry)×Int×Bool×Bool×Int×Hp):SV:=.box [.d (cP.enc x0.2.2.2.1),.d (.bD),.d (.bD),vI x0.2.2.2.2.1,vI x0.2.2.2.2.2.1,.d (.bD),vI x0.2.2.2.2.2.2.1,vB x0.2.2.2.2.2.2.2.1,vB x0.2.2.2.2.2.2.2.2.1]
def Il(x0:(List Int)×(List Bool)×Int×(Option Nat)×Int×Int×Int×Bool×Bool×(Option Nat)×(List Int)×(List Bool)×Int×Int×(List Entry)×Int×Bool×Bool×Int×Hp):SV:=.box [.d (cP.enc x0.2.2.2.2.2.2.2.2.2.1),.d (.list 1 (List.map (D.int .i64) x0.2.2.2.2.2.2.2.2.2.2.1)),.d (.list 1 (List.map D.bool x0.2.2.2.2.2.2.2.2.2.2.2.1)),vI x0.2.2.2.2.2.2.2.2.2.2.2.2.1,vI x0.2.2.2.2.2.2.2.2.2.2.2.2.2.1,.d (.list 3 (List.map ab x0.2.2.2.2.2.2.2.2.2.2.2.2.2.2.1)),vI x0.2.2.2.2.2.2.2.2.2.2.2.2.2.2.2.1,vB x0.2.2.2.2.2.2.2.2.2.2.2.2.2.2.2.2.1,vB x0.2.2.2.2.2.2.2.2.2.2.2.2.2.2.2.2.2.1]
def oA(x0:(List Int)×(List Bool)×Int×(Option Nat)×Int×Int×Int×Bool×Bool×(Option Nat)×(List Int)×(List Bool)×Int×Int×(List Entry)×Int×Bool×Bool×Int×Hp):SV:=vI x0.2.2.2.2.2.2.2.2.2.2.2.2.2.2.2.2.2.2.1
def jS(x0:(List Int)×(List Bool)×Int×(Option Nat)×Int×Int×Int×Bool×Bool×(Option Nat)×(List Int)×(List Bool)×Int×Int×(List Entry)×Int×Bool×Bool×Int×Hp):SV:=.d (cP.enc x0.2.2.2.2.2.2.2.2.2.1)
def Lv(x0:(List Int)×(List Bool)×Int×(Option Nat)×Int×Int×Int×Bool×Bool×(Option Nat)×(List Int)×(List Bool)×Int×Int×(List Entry)×Int×Bool×Bool×Int×Hp):SV:=.d (.agg [.list 1 (List.map (D.int .i64) x0.2.2.2.2.2.2.2.2.2.2.1),.list 1 (List.map D.bool x0.2.2.2.2.2.2.2.2.2.2.2.1),.int .i64 x0.2.2.2.2.2.2.2.2.2.2.2.2.1,.int .i64 x0.2.2.2.2.2.2.2.2.2.2.2.2.2.1,.list 3 (List.map ab x0.2.2.2.2.2.2.2.2.2.2.2.2.2.2.1),.int .i64 x0.2.2.2.2.2.2.2.2.2.2.2.2.2.2.2.1])
def M7(x0:(List Int)×(List Bool)×Int×(Option Nat)×Int×Int×Int×Bool×Bool×(Option Nat)×(List Int)×(List Bool)×Int×Int×(List Entry)×Int×Bool×Bool×Int×Hp)(x1:Tree×Int×Int)(x2:((Int×Int)×Hp)):SV:=.box [.d (cP.enc x0.2.2.2.2.2.2.2.2.2.1),.d (.list 1 (List.map (D.int .i64) x1.1.S.aq)),.d (.list 1 (List.map D.bool x1.1.S.Down)),vI x1.1.S.cW,vI x1.1.Order,.d (.list 3 (List.map ab x1.1.du)),vI x1.1.eP,vB ((x2.1.1==x1.2.1)&&(x2.1.2==x1.2.2)),vB x0.2.2.2.2.2.2.2.2.2.2.2.2.2.2.2.2.2.1]
def JI(x0:(List Int)×(List Bool)×Int×(Option Nat)×Int×Int×Int×Bool×Bool×(Option Nat)×(List Int)×(List Bool)×Int×Int×(List Entry)×Int×Bool×Bool×Int×Hp)(x1:Tree×Int)(x2:((Int)×Hp)):SV:=.box [.d (cP.enc x0.2.2.2.2.2.2.2.2.2.1),.d (.list 1 (List.map (D.int .i64) x1.1.S.aq)),.d (.list 1 (List.map D.bool x1.1.S.Down)),vI x1.1.S.cW,vI x1.1.Order,.d (.list 3 (List.map ab x1.1.du)),vI x1.1.eP,vB (x2.1==x1.2),vB x0.2.2.2.2.2.2.2.2.2.2.2.2.2.2.2.2.2.1]
def M6(x0:(((Option Nat))×Hp))(x1:(List Int)×(List Bool)×Int×(Option Nat)×Int×Int×Int×Bool×Bool×(Option Nat)×(List Int)×(List Bool)×Int×Int×(List Entry)×Int×Bool×Bool×Int×Hp):SV:=.box [.d (cP.enc x0.1),.d (.list 1 (List.map (D.int .i64) x1.2.2.2.2.2.2.2.2.2.2.1)),.d (.list 1 (List.map D.bool x1.2.2.2.2.2.2.2.2.2.2.2.1)),vI x1.2.2.2.2.2.2.2.2.2.2.2.2.1,vI x1.2.2.2.2.2.2.2.2.2.2.2.2.2.1,.d (.list 3 (List.map ab x1.2.2.2.2.2.2.2.2.2.2.2.2.2.2.1)),vI x1.2.2.2.2.2.2.2.2.2.2.2.2.2.2.2.1,vB x1.2.2.2.2.2.2.2.2.2.2.2.2.2.2.2.2.1,vB x1.2.2.2.2.2.2.2.2.2.2.2.2.2.2.2.2.2.1]
def N3(x0:(List Int)×(List Bool)×Int×(Option Nat)×Int×Int×Int×Bool×Bool×(Option Nat)×(List Int)×(List Bool)×Int×Int×(List Entry)×Int×Bool×Bool×Int×Hp):SV:=.d (.agg [.list 1 (List.map (D.int .i64) x0.1),.list 1 (List.map D.bool x0.2.1),.int .i64 x0.2.2.1])
def Lu(x0:(List Int)×(List Bool)×Int×(Option Nat)×Int×Int×Int×Bool×Bool×(Option Nat)×(List Int)×(List Bool)×Int×Int×(List Entry)×Int×Bool×Bool×Int×Hp)(x1:(Option Nat)×Int×Int×Hp):SV:=.box [.d (cP.enc x0.2.2.2.2.2.2.2.2.2.1),.d (.list 1 (List.map (D.int .i64) x0.2.2.2.2.2.2.2.2.2.2.1)),.d (.list 1 (List.map D.bool x0.2.2.2.2.2.2.2.2.2.2.2.1)),vI x0.2.2.2.2.2.2.2.2.2.2.2.2.1,vI x0.2.2.2.2.2.2.2.2.2.2.2.2.2.1,.d (.list 3 (List.map ab x0.2.2.2.2.2.2.2.2.2.2.2.2.2.2.1)),vI x0.2.2.2.2.2.2.2.2.2.2.2.2.2.2.2.1,vB ((x1.2.2.1==0)&&(x1.2.1==(-1))),vB x0.2.2.2.2.2.2.2.2.2.2.2.2.2.2.2.2.2.1]
def M5(x0:(Option Nat)×Int×Int×Hp)(x1:(List Int)×(List Bool)×Int×(Option Nat)×Int×Int×Int×Bool×Bool×(Option Nat)×(List Int)×(List Bool)×Int×Int×(List Entry)×Int×Bool×Bool×Int×Hp):SV:=.box [.d (cP.enc x0.1),.d (.list 1 (List.map (D.int .i64) x1.2.2.2.2.2.2.2.2.2.2.1)),.d (.list 1 (List.map D.bool x1.2.2.2.2.2.2.2.2.2.2.2.1)),vI x1.2.2.2.2.2.2.2.2.2.2.2.2.1,vI x1.2.2.2.2.2.2.2.2.2.2.2.2.2.1,.d (.list 3 (List.map ab x1.2.2.2.2.2.2.2.2.2.2.2.2.2.2.1)),vI x1.2.2.2.2.2.2.2.2.2.2.2.2.2.2.2.1,vB ((x0.2.2.1==0)&&(x0.2.1==(-1))),vB x1.2.2.2.2.2.2.2.2.2.2.2.2.2.2.2.2.2.1]
def K1:=λa0 a1 a2 a3 a4 a5 (t:SL)=>((1,vI a0)::(2,Z0 a1)::(3,Im a2)::(6,FD a3)::(11,Il a4)::(12,oA a5)::t:SL)
def K25:=λa0 a1 a2 a3 (t:SL)=>((1,vI a0)::(2,Z0 a1)::(3,Im a2)::(6,FD a3)::t:SL)
def K26:=λa0 a1 a2 a3 a4 a5 a6 a7 (t:SL)=>((1,vI a0)::(2,Z0 a1)::(3,Im a2)::(6,FD a3)::(11,Il a4)::(12,oA a5)::(70,N3 a6)::(71,vI a7)::t:SL)
def K30:=λa0 a1 a2 a3 a4 a5 a6 (t:SL)=>((1,vI a0)::(2,Z0 a1)::(3,Im a2)::(6,FD a3)::(11,Il a4)::(12,oA a5)::(26,.d (cP.enc a6))::t:SL)
def K58:=λa0 a1 a2 a3 a4 a5 a6 a7 (t:SL)=>((1,vI a0)::(2,Z0 a1)::(3,Im a2)::(6,FD a3)::(11,Il a4)::(12,oA a5)::(69,gY a6)::(79,.d (cP.enc a7))::t:SL)
theorem Fm(h:tU fuel p0 p1 p2 H=some r):SC Tryz.prog false 9 [.d (bG p0),vI p1,.d (.list 4 (List.map iV p2))] H (.d (.agg [cP.enc r.1.t,.list 1 (List.map (D.int .i64) r.1.r.S.aq),.list 1 (List.map D.bool r.1.r.S.Down),.int .i64 r.1.r.S.cW,.int .i64 r.1.r.Order,.list 3 (List.map ab r.1.r.du),.int .i64 r.1.r.eP,.bool r.1.same,.bool r.1.ok])) r.2:=by
 refine SC.fc Tryz.func9 rfl ?_
 unfold tU at h
 exact SW.kk 204 H [(0,Z2 p0),(1,vI p1),(2,Z0 p2)]<|SW.t 1<|SW.S<|aa.t 2<|bI h λr1 hr h=>aa.f (wa hr)<|aa.t 5<|aa.E<|SW.S<|aa.t 2<|bI h λr2 hr h=>aa.d (Gw hr)<|aa.t 6<|aa.E<|SW.S<|aa.s [] [1,2,3,6,41,42,45,47] 7<|aa.CP [1,2,3,6,48] 1 r1.1.1 (λp=>(sp 204 [(1,vI p1),(2,Z0 p2),(3,Z1 p0),(6,Nj),(41,.d (cP.enc p)),(42,LA r2),(45,vB (r1.1.2==r2.2)),(47,vB (r2.2==0))] r1.2)) (λp=>(sp 204 [(1,vI p1),(2,Z0 p2),(3,Z1 p0),(6,Nj),(48,.d (.agg [cP.enc p,.list 1 (List.map (D.int .i64) r2.1.S.aq),.list 1 (List.map D.bool r2.1.S.Down),.int .i64 r2.1.S.cW,.int .i64 r2.1.Order,.list 3 (List.map ab r2.1.du),.int .i64 r2.1.eP,.bool (r1.1.2==r2.2),.bool (r2.2==0)]))] r1.2)) κ κ (λ_=>by kernel_rfl)<|aa.t 2<|aa.E<|SW.seq<|SW.t 1<|SW.block<|bI h λv38 hit h=>SW.Fq 204 [1,2,3,6,11,12] (λy4=>[(1,vI p1),(2,Z0 p2),(3,.box [.d (.list 1 (List.map (D.int .i64) y4.1)),.d (.list 1 (List.map D.bool y4.2.1)),vI y4.2.2.1]),(6,.box [.d (cP.enc y4.2.2.2.1),.d (.bD),.d (.bD),vI y4.2.2.2.2.1,vI y4.2.2.2.2.2.1,.d (.bD),vI y4.2.2.2.2.2.2.1,vB y4.2.2.2.2.2.2.2.1,vB y4.2.2.2.2.2.2.2.2.1]),(11,.box [.d (cP.enc y4.2.2.2.2.2.2.2.2.2.1),.d (.list 1 (List.map (D.int .i64) y4.2.2.2.2.2.2.2.2.2.2.1)),.d (.list 1 (List.map D.bool y4.2.2.2.2.2.2.2.2.2.2.2.1)),vI y4.2.2.2.2.2.2.2.2.2.2.2.2.1,vI y4.2.2.2.2.2.2.2.2.2.2.2.2.2.1,.d (.list 3 (List.map ab y4.2.2.2.2.2.2.2.2.2.2.2.2.2.2.1)),vI y4.2.2.2.2.2.2.2.2.2.2.2.2.2.2.2.1,vB y4.2.2.2.2.2.2.2.2.2.2.2.2.2.2.2.2.1,vB y4.2.2.2.2.2.2.2.2.2.2.2.2.2.2.2.2.2.1]),(12,vI y4.2.2.2.2.2.2.2.2.2.2.2.2.2.2.2.2.2.2.1)]) (λy4=>y4.2.2.2.2.2.2.2.2.2.2.2.2.2.2.2.2.2.2.2) (λv38 e s=>(e=.exit 0/\s=(sp 204 [(6,.box [.d (cP.enc v38.1),.d (.bD),.d (.bD),vI v38.2.1,vI v38.2.2.1,.d (.bD),vI v38.2.2.2.1,vB v38.2.2.2.2.1,vB v38.2.2.2.2.2.1]),(11,.box [.d (cP.enc v38.2.2.2.2.2.2.1),.d (.list 1 (List.map (D.int .i64) v38.2.2.2.2.2.2.2.1)),.d (.list 1 (List.map D.bool v38.2.2.2.2.2.2.2.2.1)),vI v38.2.2.2.2.2.2.2.2.2.1,vI v38.2.2.2.2.2.2.2.2.2.2.1,.d (.list 3 (List.map ab v38.2.2.2.2.2.2.2.2.2.2.2.1)),vI v38.2.2.2.2.2.2.2.2.2.2.2.2.1,vB v38.2.2.2.2.2.2.2.2.2.2.2.2.2.1,vB v38.2.2.2.2.2.2.2.2.2.2.2.2.2.2.1])] v38.2.2.2.2.2.2.2.2.2.2.2.2.2.2.2))) hit κ (λy4 o h=>by
  unfold kr at h;exact SW.seq<|SW.S<|aa.t 2<|aa.p (ax.len (enc:=iV) (xs:=p2))<|aa.s [] [1,2,3,6,11,12,53] 2<|aa.mg 204 y4.2.2.2.2.2.2.2.2.2.2.2.2.2.2.2.2.2.2.2 [1,2,3,6,11,12,56] 3 (decide (y4.2.2.2.2.2.2.2.2.2.2.2.2.2.2.2.2.2.2.1<(p2.length:Int))) (λb=>(sp 204 (K1 p1 p2 y4 y4 y4 y4 [(53,vB b)]) y4.2.2.2.2.2.2.2.2.2.2.2.2.2.2.2.2.2.2.2)) (λb=>(K1 p1 p2 y4 y4 y4 y4 [(56,vB (b&&y4.2.2.2.2.2.2.2.2.2.2.2.2.2.2.2.2.1))])) κ κ κ<|aa.s [] [1,2,3,6,11,12,57] 1<|aa.mg 204 y4.2.2.2.2.2.2.2.2.2.2.2.2.2.2.2.2.2.2.2 [1,2,3,6,11,12,60] 3 ((decide (y4.2.2.2.2.2.2.2.2.2.2.2.2.2.2.2.2.2.2.1<(p2.length:Int)))&&y4.2.2.2.2.2.2.2.2.2.2.2.2.2.2.2.2.1) (λb=>(sp 204 (K1 p1 p2 y4 y4 y4 y4 [(57,vB b)]) y4.2.2.2.2.2.2.2.2.2.2.2.2.2.2.2.2.2.2.2)) (λb=>(K1 p1 p2 y4 y4 y4 y4 [(60,vB (b&&y4.2.2.2.2.2.2.2.2.2.2.2.2.2.2.2.2.2.1))])) κ κ κ<|aa.E<|SW.b h (λh=>SW.skip<|af<|SW.seq<|SW.block<|SW.S<|aa.t 2<|bI h λx5 hx h=>aa.p (s:=aI none (Go.Sh.D.cells (iV x5))) (ax.index (n:=4) hx)<|aa.t 3<|aa.E<|SW.seq<|SW.t 1<|SW.block<|SW.t 1<|SW.b h (λh=>SW.S<|aa.s [] [1,2,3,6,11,12,13,97,99,101] 6<|bI h λi6 hp_i6 h=>aa.nG y4.2.2.2.2.2.2.2.2.2.1 (λp=>(sp 204 (K1 p1 p2 y4 y4 y4 y4 [(13,FJ x5),(97,.d (cP.enc p)),(99,Z4 x5),(101,vI x5.Key)]) y4.2.2.2.2.2.2.2.2.2.2.2.2.2.2.2.2.2.2.2)) κ hp_i6<|bI h λr7 hr h=>aa.f (j9 hr)<|aa.t 5<|aa.E<|SW.S<|aa.t 6<|bI h λr8 hr h=>aa.d (ni hr)<|aa.t 8<|aa.E<|SW.al<|aa.s [] [1,2,3,6,11,12,15,18,116,120] 5<|aa.mg 204 r7.2 [1,2,3,6,11,12,116,124] 4 (r7.1.1==r8.2.1) (λb=>(sp 204 (K1 p1 p2 y4 y4 y4 y4 [(15,vI r7.1.2),(18,vI r8.2.2),(116,Ly r8),(120,vB b)]) r7.2)) (λb=>(K1 p1 p2 y4 y4 y4 y4 [(116,Ly r8),(124,vB (b&&(r7.1.2==r8.2.2)))])) κ κ κ<|aa.t 4<|aa.D<|aB<|af<|SW.al<|aa.s [] [1,2,3,6,11,12,195] 3<|aa.b2 (λb=>(sp 204 (K25 p1 p2 y4 y4 [(11,M7 y4 r8 r7),(12,oA y4),(195,vB b)]) r7.2)) h (λh=>aa.s [] [1,2,3,6,11,12,195,197,199] 4<|bI h λi9 hp_i9 h=>aa.nG y4.2.2.2.2.2.2.2.2.2.1 (λp=>(sp 204 (K25 p1 p2 y4 y4 [(11,M7 y4 r8 r7),(12,oA y4),(195,vB true),(197,.d (cP.enc p)),(199,Ly r8)]) r7.2)) κ hp_i9<|bI h λr10 hr h=>aa.f (ku hr)<|aa.t 3<|aa.D<|aB<|af<|SW.al<|aa.t 3<|aa.D<|LQ h) λh=>aa.t 8<|aa.D<|aB<|af<|SW.al<|aa.t 3<|aa.D<|LQ h) (λh=>SW.t 1<|SW.b h (λh=>SW.S<|aa.s [] [1,2,3,6,11,12,13,130,132,134] 6<|bI h λi11 hp_i11 h=>aa.nG y4.2.2.2.2.2.2.2.2.2.1 (λp=>(sp 204 (K1 p1 p2 y4 y4 y4 y4 [(13,FJ x5),(130,.d (cP.enc p)),(132,Z4 x5),(134,vI x5.Key)]) y4.2.2.2.2.2.2.2.2.2.2.2.2.2.2.2.2.2.2.2)) κ hp_i11<|bI h λr12 hr h=>aa.f (tz hr)<|aa.t 1<|aa.E<|SW.S<|aa.t 6<|bI h λr13 hr h=>aa.d (tH hr)<|aa.t 6<|aa.E<|SW.al<|aa.t 8<|aa.D<|aB<|af<|SW.al<|aa.s [] [1,2,3,6,11,12,195] 3<|aa.b2 (λb=>(sp 204 (K25 p1 p2 y4 y4 [(11,JI y4 r13 r12),(12,oA y4),(195,vB b)]) r12.2)) h (λh=>aa.s [] [1,2,3,6,11,12,195,197,199] 4<|bI h λi14 hp_i14 h=>aa.nG y4.2.2.2.2.2.2.2.2.2.1 (λp=>(sp 204 (K25 p1 p2 y4 y4 [(11,JI y4 r13 r12),(12,oA y4),(195,vB true),(197,.d (cP.enc p)),(199,LA r13)]) r12.2)) κ hp_i14<|bI h λr15 hr h=>aa.f (ku hr)<|aa.t 3<|aa.D<|aB<|af<|SW.al<|aa.t 3<|aa.D<|LQ h) λh=>aa.t 8<|aa.D<|aB<|af<|SW.al<|aa.t 3<|aa.D<|LQ h) (λh=>SW.t 1<|SW.b h (λh=>SW.S<|aa.s [] [1,2,3,6,11,12,13,155,157,159,161] 8<|bI h λi16 hp_i16 h=>aa.nG y4.2.2.2.2.2.2.2.2.2.1 (λp=>(sp 204 (K1 p1 p2 y4 y4 y4 y4 [(13,FJ x5),(155,.d (cP.enc p)),(157,Z4 x5),(159,vI x5.Key),(161,Z5 x5)]) y4.2.2.2.2.2.2.2.2.2.2.2.2.2.2.2.2.2.2.2)) κ hp_i16<|bI h λr17 hr h=>aa.f (vb hr)<|aa.t 1<|aa.E<|SW.S<|aa.t 8<|bI h λr18 hr h=>aa.d (vh hr)<|aa.t 6<|aa.E<|SW.al<|aa.t 8<|aa.D<|aB<|af<|SW.al<|aa.s [] [1,2,3,6,11,12,195] 3<|aa.b2 (λb=>(sp 204 (K25 p1 p2 y4 y4 [(11,JI y4 r18 r17),(12,oA y4),(195,vB b)]) r17.2)) h (λh=>aa.s [] [1,2,3,6,11,12,195,197,199] 4<|bI h λi19 hp_i19 h=>aa.nG y4.2.2.2.2.2.2.2.2.2.1 (λp=>(sp 204 (K25 p1 p2 y4 y4 [(11,JI y4 r18 r17),(12,oA y4),(195,vB true),(197,.d (cP.enc p)),(199,LA r18)]) r17.2)) κ hp_i19<|bI h λr20 hr h=>aa.f (ku hr)<|aa.t 3<|aa.D<|aB<|af<|SW.al<|aa.t 3<|aa.D<|LQ h) λh=>aa.t 8<|aa.D<|aB<|af<|SW.al<|aa.t 3<|aa.D<|LQ h) (λh=>SW.t 1<|SW.b h (λh=>SW.t 1<|SW.S<|aa.s [] [1,2,3,6,11,12,13,25,186] 2<|bI h λi21 hp_i21 h=>aa.nG y4.2.2.2.2.2.2.2.2.2.1 (λp=>(sp 204 (K1 p1 p2 y4 y4 y4 y4 [(13,FJ x5),(25,.d (cP.enc p)),(186,.d (cP.enc p))]) y4.2.2.2.2.2.2.2.2.2.2.2.2.2.2.2.2.2.2.2)) κ hp_i21<|bI h λr22 hr h=>aa.f (vZ hr)<|aa.s [] [1,2,3,6,11,12,13,25,187,188] 1<|aa.CP [1,2,3,6,11,12,13,25] 1 r22.1 (λp=>(sp 204 (K1 p1 p2 y4 y4 y4 y4 [(13,FJ x5),(25,.d (.ptr i21 0)),(187,.d (cP.enc p)),(188,.loc 11 0)]) r22.2)) (λp=>(sp 204 (K25 p1 p2 y4 y4 [(11,.box [.d (cP.enc p),.d (.list 1 (List.map (D.int .i64) y4.2.2.2.2.2.2.2.2.2.2.1)),.d (.list 1 (List.map D.bool y4.2.2.2.2.2.2.2.2.2.2.2.1)),vI y4.2.2.2.2.2.2.2.2.2.2.2.2.1,vI y4.2.2.2.2.2.2.2.2.2.2.2.2.2.1,.d (.list 3 (List.map ab y4.2.2.2.2.2.2.2.2.2.2.2.2.2.2.1)),vI y4.2.2.2.2.2.2.2.2.2.2.2.2.2.2.2.1,vB y4.2.2.2.2.2.2.2.2.2.2.2.2.2.2.2.2.1,vB y4.2.2.2.2.2.2.2.2.2.2.2.2.2.2.2.2.2.1]),(12,oA y4),(13,FJ x5),(25,.d (.ptr i21 0))]) r22.2)) κ κ (λ_=>by kernel_rfl)<|aa.E<|SW.al<|aa.t 3<|bI h λr23 hr h=>aa.f (j9 hr)<|aa.D<|aB<|af<|SW.al<|aa.s [] [1,2,3,6,11,12,195] 3<|aa.b2 (λb=>(sp 204 (K25 p1 p2 y4 y4 [(11,M6 r22 y4),(12,oA y4),(195,vB b)]) r23.2)) h (λh=>aa.s [] [1,2,3,6,11,12,195,197,199] 4<|bI h λi24 hp_i24 h=>aa.nG r22.1 (λp=>(sp 204 (K25 p1 p2 y4 y4 [(11,M6 r22 y4),(12,oA y4),(195,vB true),(197,.d (cP.enc p)),(199,Lv y4)]) r23.2)) κ hp_i24<|bI h λr25 hr h=>aa.f (ku hr)<|aa.t 3<|aa.D<|aB<|af<|SW.al<|aa.t 3<|aa.D<|LQ h) λh=>aa.t 8<|aa.D<|aB<|af<|SW.al<|aa.t 3<|aa.D<|LQ h) (λh=>SW.JH 204 [1,2,3,6,11,12,26,27,28] (λ(j26:(Option Nat)×Int×Int×Hp)=>(K30 p1 p2 y4 y4 y4 y4 j26.1 [(27,vI j26.2.1),(28,vI j26.2.2.1)])) (λ(j26:(Option Nat)×Int×Int×Hp)=>j26.2.2.2) h (λj26 h=>SW.S<|aa.s [] [1,2,3,6,11,12,26,27,84] 3<|aa.mg 204 j26.2.2.2 [1,2,3,6,11,12,26,87] 3 (j26.2.2.1==0) (λb=>(sp 204 (K30 p1 p2 y4 y4 y4 y4 j26.1 [(27,vI j26.2.1),(84,vB b)]) j26.2.2.2)) (λb=>(K30 p1 p2 y4 y4 y4 y4 j26.1 [(87,vB (b&&(j26.2.1==(-1))))])) κ κ κ<|aa.t 2<|aa.E<|SW.t 1<|SW.b h (λh=>SW.al<|aa.s [] [1,2,3,6,11,12,91,92] 2<|aa.CP [1,2,3,6,11,12] 1 j26.1 (λp=>(sp 204 (K25 p1 p2 y4 y4 [(11,Lu y4 j26),(12,oA y4),(91,.d (cP.enc p)),(92,.loc 11 0)]) j26.2.2.2)) (λp=>(sp 204 (K25 p1 p2 y4 y4 [(11,.box [.d (cP.enc p),.d (.list 1 (List.map (D.int .i64) y4.2.2.2.2.2.2.2.2.2.2.1)),.d (.list 1 (List.map D.bool y4.2.2.2.2.2.2.2.2.2.2.2.1)),vI y4.2.2.2.2.2.2.2.2.2.2.2.2.1,vI y4.2.2.2.2.2.2.2.2.2.2.2.2.2.1,.d (.list 3 (List.map ab y4.2.2.2.2.2.2.2.2.2.2.2.2.2.2.1)),vI y4.2.2.2.2.2.2.2.2.2.2.2.2.2.2.2.1,vB ((j26.2.2.1==0)&&(j26.2.1==(-1))),vB y4.2.2.2.2.2.2.2.2.2.2.2.2.2.2.2.2.2.1]),(12,oA y4)]) j26.2.2.2)) κ κ (λ_=>by kernel_rfl)<|aa.D<|aB<|af<|SW.al<|aa.s [] [1,2,3,6,11,12,195] 3<|aa.b2 (λb=>(sp 204 (K25 p1 p2 y4 y4 [(11,M5 j26 y4),(12,oA y4),(195,vB b)]) j26.2.2.2)) h (λh=>aa.s [] [1,2,3,6,11,12,195,197,199] 4<|bI h λi33 hp_i33 h=>aa.nG j26.1 (λp=>(sp 204 (K25 p1 p2 y4 y4 [(11,M5 j26 y4),(12,oA y4),(195,vB true),(197,.d (cP.enc p)),(199,Lv y4)]) j26.2.2.2)) κ hp_i33<|bI h λr34 hr h=>aa.f (ku hr)<|aa.t 3<|aa.D<|aB<|af<|SW.al<|aa.t 3<|aa.D<|LQ h) λh=>aa.t 8<|aa.D<|aB<|af<|SW.al<|aa.t 3<|aa.D<|LQ h) (λh=>SW.skip<|aB<|af<|SW.al<|aa.s [] [1,2,3,6,11,12,195] 3<|aa.b2 (λb=>(sp 204 (K25 p1 p2 y4 y4 [(11,Lu y4 j26),(12,oA y4),(195,vB b)]) j26.2.2.2)) h (λh=>aa.s [] [1,2,3,6,11,12,195,197,199] 4<|bI h λi35 hp_i35 h=>aa.nG y4.2.2.2.2.2.2.2.2.2.1 (λp=>(sp 204 (K25 p1 p2 y4 y4 [(11,Lu y4 j26),(12,oA y4),(195,vB true),(197,.d (cP.enc p)),(199,Lv y4)]) j26.2.2.2)) κ hp_i35<|bI h λr36 hr h=>aa.f (ku hr)<|aa.t 3<|aa.D<|aB<|af<|SW.al<|aa.t 3<|aa.D<|LQ h) λh=>aa.t 8<|aa.D<|aB<|af<|SW.al<|aa.t 3<|aa.D<|LQ h)) λjp27 h=>bI h λi28 hp_i28 h=>bI h λr29 hr_4 h=>bI h λi30 hp_i30 h=>bI h λr31 hr_7 h=>bI h λr32 hr_8 h=>SW.kk 204 y4.2.2.2.2.2.2.2.2.2.2.2.2.2.2.2.2.2.2.2 (K1 p1 p2 y4 y4 y4 y4 [])<|(by
   refine SW.qG 204 r32.2 (K30 p1 p2 y4 y4 y4 y4 r32.1.1 [(27,vI r32.1.2.1),(28,vI r32.1.2.2)]) [1,2,3] 13 14 κ κ κ (λX hX=>?_) (JQ [] h)
   .have c65535:X 0 65535 (sp 204 (K30 p1 p2 y4 y4 y4 y4 r32.1.1 [(27,vI r32.1.2.1),(28,vI r32.1.2.2)]) r32.2):=by subst hX;exact OX.fin κ
    have c32767:X 1 32767 (sp 204 (K30 p1 p2 y4 y4 y4 y4 r32.1.1 [(27,vI r32.1.2.1),(81,vI r32.1.2.2)]) r32.2):=by
     subst hX
     refine OX.step (i0:=15) (is:=[]) κ κ ⟨?_,trivial⟩
     .refine aa.sg 204 r32.2 [] [1,2,3,6,11,12,26,27,28] 1 (K30 p1 p2 y4 y4 y4 y4 r32.1.1 [(27,vI r32.1.2.1),(28,vI r32.1.2.2)]) κ<|aa.D ?_
      exact c65535
    have c16383:X 2 16383 (sp 204 (K30 p1 p2 y4 y4 y4 y4 r32.1.1 [(80,vI r32.1.2.1),(81,vI r32.1.2.2)]) r32.2):=by
     subst hX
     refine OX.step (i0:=14) (is:=[]) κ κ ⟨?_,trivial⟩
     .refine aa.sg 204 r32.2 [] [1,2,3,6,11,12,26,27,81] 1 (K30 p1 p2 y4 y4 y4 y4 r32.1.1 [(27,vI r32.1.2.1),(81,vI r32.1.2.2)]) κ<|aa.D ?_
      exact c32767
    have c8191:X 3 8191 (sp 204 (K1 p1 p2 y4 y4 y4 y4 [(79,.d (cP.enc r32.1.1)),(80,vI r32.1.2.1),(81,vI r32.1.2.2)]) r32.2):=by
     subst hX
     refine OX.step (i0:=13) (is:=[]) κ κ ⟨?_,trivial⟩
     .refine aa.sg 204 r32.2 [] [1,2,3,6,11,12,26,80,81] 1 (K30 p1 p2 y4 y4 y4 y4 r32.1.1 [(80,vI r32.1.2.1),(81,vI r32.1.2.2)]) κ<|aa.D ?_
      exact c16383
    have c28671:X 2 28671 (sp 204 (K30 p1 p2 y4 y4 y4 y4 r32.1.1 [(27,vI r32.1.2.1),(69,gY r32)]) r32.2):=by
     subst hX
     refine OX.step (i0:=12) (is:=[]) κ κ ⟨?_,trivial⟩
     .refine aa.sg 204 r32.2 [] [1,2,3,6,11,12,26,27,81] 1 (K30 p1 p2 y4 y4 y4 y4 r32.1.1 [(27,vI r32.1.2.1),(81,vI r32.1.2.2)]) κ<|aa.D ?_
      exact c32767
    have c12287:X 3 12287 (sp 204 (K30 p1 p2 y4 y4 y4 y4 r32.1.1 [(69,gY r32),(80,vI r32.1.2.1)]) r32.2):=by
     subst hX
     refine OX.step (i0:=12) (is:=[14]) κ κ ⟨?_,?_,trivial⟩
     .refine aa.G 1 (K30 p1 p2 y4 y4 y4 y4 r32.1.1 [(80,vI r32.1.2.1),(81,vI r32.1.2.2)])<|aa.D ?_
      exact c16383
     .refine aa.G 1 (K30 p1 p2 y4 y4 y4 y4 r32.1.1 [(27,vI r32.1.2.1),(69,gY r32)])<|aa.D ?_
      exact c28671
    have c4095:X 4 4095 (sp 204 (K58 p1 p2 y4 y4 y4 y4 r32 r32.1.1 [(80,vI r32.1.2.1)]) r32.2):=by
     subst hX
     refine OX.step (i0:=12) (is:=[13]) κ κ ⟨?_,?_,trivial⟩
     .refine aa.G 1 (K1 p1 p2 y4 y4 y4 y4 [(79,.d (cP.enc r32.1.1)),(80,vI r32.1.2.1),(81,vI r32.1.2.2)])<|aa.D ?_
      exact c8191
     .refine aa.G 1 (K30 p1 p2 y4 y4 y4 y4 r32.1.1 [(69,gY r32),(80,vI r32.1.2.1)])<|aa.D ?_
      exact c12287
    have c14335:X 3 14335 (sp 204 (K30 p1 p2 y4 y4 y4 y4 r32.1.1 [(69,gY r32),(81,vI r32.1.2.2)]) r32.2):=by
     subst hX
     refine OX.step (i0:=11) (is:=[]) κ κ ⟨?_,trivial⟩
     .refine aa.sg 204 r32.2 [] [1,2,3,6,11,12,26,80,81] 1 (K30 p1 p2 y4 y4 y4 y4 r32.1.1 [(80,vI r32.1.2.1),(81,vI r32.1.2.2)]) κ<|aa.D ?_
      exact c16383
    have c6143:X 4 6143 (sp 204 (K58 p1 p2 y4 y4 y4 y4 r32 r32.1.1 [(81,vI r32.1.2.2)]) r32.2):=by
     subst hX
     refine OX.step (i0:=11) (is:=[13]) κ κ ⟨?_,?_,trivial⟩
     .refine aa.G 1 (K1 p1 p2 y4 y4 y4 y4 [(79,.d (cP.enc r32.1.1)),(80,vI r32.1.2.1),(81,vI r32.1.2.2)])<|aa.D ?_
      exact c8191
     .refine aa.G 1 (K30 p1 p2 y4 y4 y4 y4 r32.1.1 [(69,gY r32),(81,vI r32.1.2.2)])<|aa.D ?_
      exact c14335
    have c10239:X 4 10239 (sp 204 (K30 p1 p2 y4 y4 y4 y4 r32.1.1 [(69,gY r32)]) r32.2):=by
     subst hX
     refine OX.step (i0:=11) (is:=[12]) κ κ ⟨?_,?_,trivial⟩
     .refine aa.G 1 (K30 p1 p2 y4 y4 y4 y4 r32.1.1 [(69,gY r32),(80,vI r32.1.2.1)])<|aa.D ?_
      exact c12287
     .refine aa.G 1 (K30 p1 p2 y4 y4 y4 y4 r32.1.1 [(69,gY r32),(81,vI r32.1.2.2)])<|aa.D ?_
      exact c14335
    have c2047:X 5 2047 (sp 204 (K58 p1 p2 y4 y4 y4 y4 r32 r32.1.1 []) r32.2):=by
     subst hX
     refine OX.step (i0:=11) (is:=[12,13]) κ κ ⟨?_,?_,?_,trivial⟩
     .refine aa.G 1 (K58 p1 p2 y4 y4 y4 y4 r32 r32.1.1 [(80,vI r32.1.2.1)])<|aa.D ?_
      exact c4095
     .refine aa.G 1 (K58 p1 p2 y4 y4 y4 y4 r32 r32.1.1 [(81,vI r32.1.2.2)])<|aa.D ?_
      exact c6143
     .refine aa.G 1 (K30 p1 p2 y4 y4 y4 y4 r32.1.1 [(69,gY r32)])<|aa.D ?_
      exact c10239
    have c7167:X 4 7167 (sp 204 (K1 p1 p2 y4 y4 y4 y4 [(69,gY r32),(80,vI r32.1.2.1),(81,vI r32.1.2.2)]) r32.2):=by
     subst hX
     refine OX.step (i0:=10) (is:=[]) κ κ ⟨?_,trivial⟩
     .refine aa.sg 204 r32.2 [] [1,2,3,6,11,12,79,80,81] 1 (K1 p1 p2 y4 y4 y4 y4 [(79,.d (cP.enc r32.1.1)),(80,vI r32.1.2.1),(81,vI r32.1.2.2)]) κ<|aa.D ?_
      exact c8191
    have c3071:X 5 3071 (sp 204 (K1 p1 p2 y4 y4 y4 y4 [(69,gY r32),(80,vI r32.1.2.1)]) r32.2):=by
     subst hX
     refine OX.step (i0:=10) (is:=[12]) κ κ ⟨?_,?_,trivial⟩
     .refine aa.G 1 (K58 p1 p2 y4 y4 y4 y4 r32 r32.1.1 [(80,vI r32.1.2.1)])<|aa.D ?_
      exact c4095
     .refine aa.G 1 (K1 p1 p2 y4 y4 y4 y4 [(69,gY r32),(80,vI r32.1.2.1),(81,vI r32.1.2.2)])<|aa.D ?_
      exact c7167
    have c5119:X 5 5119 (sp 204 (K1 p1 p2 y4 y4 y4 y4 [(69,gY r32),(81,vI r32.1.2.2)]) r32.2):=by
     subst hX
     refine OX.step (i0:=10) (is:=[11]) κ κ ⟨?_,?_,trivial⟩
     .refine aa.G 1 (K58 p1 p2 y4 y4 y4 y4 r32 r32.1.1 [(81,vI r32.1.2.2)])<|aa.D ?_
      exact c6143
     .refine aa.G 1 (K1 p1 p2 y4 y4 y4 y4 [(69,gY r32),(80,vI r32.1.2.1),(81,vI r32.1.2.2)])<|aa.D ?_
      exact c7167
    have c1023:X 6 1023 (sp 204 (K1 p1 p2 y4 y4 y4 y4 [(69,gY r32)]) r32.2):=by
     subst hX
     refine OX.step (i0:=10) (is:=[11,12]) κ κ ⟨?_,?_,?_,trivial⟩
     .refine aa.G 1 (K58 p1 p2 y4 y4 y4 y4 r32 r32.1.1 [])<|aa.D ?_
      exact c2047
     .refine aa.G 1 (K1 p1 p2 y4 y4 y4 y4 [(69,gY r32),(80,vI r32.1.2.1)])<|aa.D ?_
      exact c3071
     .refine aa.G 1 (K1 p1 p2 y4 y4 y4 y4 [(69,gY r32),(81,vI r32.1.2.2)])<|aa.D ?_
      exact c5119
    have c511:X 7 511 (sp 204 (K1 p1 p2 y4 y4 y4 y4 [(78,gY r32)]) r32.2):=by
     subst hX
     refine OX.step (i0:=9) (is:=[]) κ κ ⟨?_,trivial⟩
     .refine aa.sg 204 r32.2 [] [1,2,3,6,11,12,69] 1 (K1 p1 p2 y4 y4 y4 y4 [(69,gY r32)]) κ<|aa.D ?_
      exact c1023
    have c255:X 8 255 (sp 204 (K26 p1 p2 y4 y4 y4 y4 y4 p1 [(74,vI r29),(77,gA r31)]) r31.2):=by
     subst hX
     refine OX.step (i0:=8) (is:=[]) κ κ ⟨?_,trivial⟩
     .refine aa.hP 204 (K1 p1 p2 y4 y4 y4 y4 [(78,.gC [.d (cP.enc r32.1.1),vI r32.1.2.1,vI r32.1.2.2])]) (yr hr_8)<|aa.D ?_
      exact c511
    have c127:X 9 127 (sp 204 (K26 p1 p2 y4 y4 y4 y4 y4 p1 [(74,vI r29),(76,jS y4)]) y4.2.2.2.2.2.2.2.2.2.2.2.2.2.2.2.2.2.2.2):=by
     subst hX
     refine OX.step (i0:=7) (is:=[]) κ κ ⟨?_,trivial⟩
     .refine aa.nG y4.2.2.2.2.2.2.2.2.2.1 (λp=>(sp 204 (K26 p1 p2 y4 y4 y4 y4 y4 p1 [(74,vI r29),(76,.d (cP.enc p))]) y4.2.2.2.2.2.2.2.2.2.2.2.2.2.2.2.2.2.2.2)) κ hp_i30<|aa.CH (some 77) (K26 p1 p2 y4 y4 y4 y4 y4 p1 [(74,vI r29),(77,.d (.list 3 (List.map bn r31.1)))]) (bX hr_7)<|aa.D ?_
      exact c255
    have c63:X 10 63 (sp 204 (K26 p1 p2 y4 y4 y4 y4 y4 p1 [(74,vI r29),(75,.loc 11 0)]) y4.2.2.2.2.2.2.2.2.2.2.2.2.2.2.2.2.2.2.2):=by
     subst hX
     refine OX.step (i0:=6) (is:=[]) κ κ ⟨?_,trivial⟩
     .refine aa.sg 204 y4.2.2.2.2.2.2.2.2.2.2.2.2.2.2.2.2.2.2.2 [] [1,2,3,6,11,12,70,71,74,76] 1 (K26 p1 p2 y4 y4 y4 y4 y4 p1 [(74,vI r29),(76,jS y4)]) κ<|aa.D ?_
      exact c127
    have c31:X 11 31 (sp 204 (K26 p1 p2 y4 y4 y4 y4 y4 p1 [(74,vI r29)]) y4.2.2.2.2.2.2.2.2.2.2.2.2.2.2.2.2.2.2.2):=by
     subst hX
     refine OX.step (i0:=5) (is:=[]) κ κ ⟨?_,trivial⟩
     .refine aa.sg 204 y4.2.2.2.2.2.2.2.2.2.2.2.2.2.2.2.2.2.2.2 [] [1,2,3,6,11,12,70,71,74,75] 1 (K26 p1 p2 y4 y4 y4 y4 y4 p1 [(74,vI r29),(75,.loc 11 0)]) κ<|aa.D ?_
      exact c63
    have c111:X 10 111 (sp 204 (K26 p1 p2 y4 y4 y4 y4 y4 p1 [(73,jS y4),(76,jS y4)]) y4.2.2.2.2.2.2.2.2.2.2.2.2.2.2.2.2.2.2.2):=by
     subst hX
     refine OX.step (i0:=4) (is:=[]) κ κ ⟨?_,trivial⟩
     .refine aa.nG y4.2.2.2.2.2.2.2.2.2.1 (λp=>(sp 204 (K26 p1 p2 y4 y4 y4 y4 y4 p1 [(73,.d (cP.enc p)),(76,jS y4)]) y4.2.2.2.2.2.2.2.2.2.2.2.2.2.2.2.2.2.2.2)) κ hp_i28<|aa.CR (ls:=[]) (some 74) (K26 p1 p2 y4 y4 y4 y4 y4 p1 [(74,vI r29),(76,jS y4)]) (dJ hr_4)<|aa.D ?_
      exact c127
    have c47:X 11 47 (sp 204 (K26 p1 p2 y4 y4 y4 y4 y4 p1 [(73,jS y4),(75,.loc 11 0)]) y4.2.2.2.2.2.2.2.2.2.2.2.2.2.2.2.2.2.2.2):=by
     subst hX
     refine OX.step (i0:=4) (is:=[6]) κ κ ⟨?_,?_,trivial⟩
     .refine aa.nG y4.2.2.2.2.2.2.2.2.2.1 (λp=>(sp 204 (K26 p1 p2 y4 y4 y4 y4 y4 p1 [(73,.d (cP.enc p)),(75,.loc 11 0)]) y4.2.2.2.2.2.2.2.2.2.2.2.2.2.2.2.2.2.2.2)) κ hp_i28<|aa.CR (ls:=[]) (some 74) (K26 p1 p2 y4 y4 y4 y4 y4 p1 [(74,vI r29),(75,.loc 11 0)]) (dJ hr_4)<|aa.D ?_
      exact c63
     .refine aa.G 1 (K26 p1 p2 y4 y4 y4 y4 y4 p1 [(73,jS y4),(76,jS y4)])<|aa.D ?_
      exact c111
    have c15:X 12 15 (sp 204 (K26 p1 p2 y4 y4 y4 y4 y4 p1 [(73,jS y4)]) y4.2.2.2.2.2.2.2.2.2.2.2.2.2.2.2.2.2.2.2):=by
     subst hX
     refine OX.step (i0:=4) (is:=[5]) κ κ ⟨?_,?_,trivial⟩
     .refine aa.nG y4.2.2.2.2.2.2.2.2.2.1 (λp=>(sp 204 (K26 p1 p2 y4 y4 y4 y4 y4 p1 [(73,.d (cP.enc p))]) y4.2.2.2.2.2.2.2.2.2.2.2.2.2.2.2.2.2.2.2)) κ hp_i28<|aa.CR (ls:=[]) (some 74) (K26 p1 p2 y4 y4 y4 y4 y4 p1 [(74,vI r29)]) (dJ hr_4)<|aa.D ?_
      exact c31
     .refine aa.G 1 (K26 p1 p2 y4 y4 y4 y4 y4 p1 [(73,jS y4),(75,.loc 11 0)])<|aa.D ?_
      exact c47
    have c254:X 9 254 (sp 204 (K1 p1 p2 y4 y4 y4 y4 [(71,vI p1),(74,vI r29),(77,gA r31)]) r31.2):=by
     subst hX
     refine OX.step (i0:=0) (is:=[]) κ κ ⟨?_,trivial⟩
     .refine aa.sg 204 r31.2 [] [1,2,3,6,11,12,70,71,74,77] 1 (K26 p1 p2 y4 y4 y4 y4 y4 p1 [(74,vI r29),(77,gA r31)]) κ<|aa.D ?_
      exact c255
    have c126:X 10 126 (sp 204 (K1 p1 p2 y4 y4 y4 y4 [(71,vI p1),(74,vI r29),(76,jS y4)]) y4.2.2.2.2.2.2.2.2.2.2.2.2.2.2.2.2.2.2.2):=by
     subst hX
     refine OX.step (i0:=0) (is:=[7]) κ κ ⟨?_,?_,trivial⟩
     .refine aa.G 1 (K26 p1 p2 y4 y4 y4 y4 y4 p1 [(74,vI r29),(76,jS y4)])<|aa.D ?_
      exact c127
     .refine aa.nG y4.2.2.2.2.2.2.2.2.2.1 (λp=>(sp 204 (K1 p1 p2 y4 y4 y4 y4 [(71,vI p1),(74,vI r29),(76,.d (cP.enc p))]) y4.2.2.2.2.2.2.2.2.2.2.2.2.2.2.2.2.2.2.2)) κ hp_i30<|aa.CH (some 77) (K1 p1 p2 y4 y4 y4 y4 [(71,vI p1),(74,vI r29),(77,gA r31)]) (bX hr_7)<|aa.D ?_
      exact c254
    have c62:X 11 62 (sp 204 (K1 p1 p2 y4 y4 y4 y4 [(71,vI p1),(74,vI r29),(75,.loc 11 0)]) y4.2.2.2.2.2.2.2.2.2.2.2.2.2.2.2.2.2.2.2):=by
     subst hX
     refine OX.step (i0:=0) (is:=[6]) κ κ ⟨?_,?_,trivial⟩
     .refine aa.G 1 (K26 p1 p2 y4 y4 y4 y4 y4 p1 [(74,vI r29),(75,.loc 11 0)])<|aa.D ?_
      exact c63
     .refine aa.G 1 (K1 p1 p2 y4 y4 y4 y4 [(71,vI p1),(74,vI r29),(76,jS y4)])<|aa.D ?_
      exact c126
    have c30:X 12 30 (sp 204 (K1 p1 p2 y4 y4 y4 y4 [(71,vI p1),(74,vI r29)]) y4.2.2.2.2.2.2.2.2.2.2.2.2.2.2.2.2.2.2.2):=by
     subst hX
     refine OX.step (i0:=0) (is:=[5]) κ κ ⟨?_,?_,trivial⟩
     .refine aa.G 1 (K26 p1 p2 y4 y4 y4 y4 y4 p1 [(74,vI r29)])<|aa.D ?_
      exact c31
     .refine aa.G 1 (K1 p1 p2 y4 y4 y4 y4 [(71,vI p1),(74,vI r29),(75,.loc 11 0)])<|aa.D ?_
      exact c62
    have c110:X 11 110 (sp 204 (K1 p1 p2 y4 y4 y4 y4 [(71,vI p1),(73,jS y4),(76,jS y4)]) y4.2.2.2.2.2.2.2.2.2.2.2.2.2.2.2.2.2.2.2):=by
     subst hX
     refine OX.step (i0:=0) (is:=[4]) κ κ ⟨?_,?_,trivial⟩
     .refine aa.G 1 (K26 p1 p2 y4 y4 y4 y4 y4 p1 [(73,jS y4),(76,jS y4)])<|aa.D ?_
      exact c111
     .refine aa.nG y4.2.2.2.2.2.2.2.2.2.1 (λp=>(sp 204 (K1 p1 p2 y4 y4 y4 y4 [(71,vI p1),(73,.d (cP.enc p)),(76,jS y4)]) y4.2.2.2.2.2.2.2.2.2.2.2.2.2.2.2.2.2.2.2)) κ hp_i28<|aa.CR (ls:=[]) (some 74) (K1 p1 p2 y4 y4 y4 y4 [(71,vI p1),(74,vI r29),(76,jS y4)]) (dJ hr_4)<|aa.D ?_
      exact c126
    have c46:X 12 46 (sp 204 (K1 p1 p2 y4 y4 y4 y4 [(71,vI p1),(73,jS y4),(75,.loc 11 0)]) y4.2.2.2.2.2.2.2.2.2.2.2.2.2.2.2.2.2.2.2):=by
     subst hX
     refine OX.step (i0:=0) (is:=[4,6]) κ κ ⟨?_,?_,?_,trivial⟩
     .refine aa.G 1 (K26 p1 p2 y4 y4 y4 y4 y4 p1 [(73,jS y4),(75,.loc 11 0)])<|aa.D ?_
      exact c47
     .refine aa.nG y4.2.2.2.2.2.2.2.2.2.1 (λp=>(sp 204 (K1 p1 p2 y4 y4 y4 y4 [(71,vI p1),(73,.d (cP.enc p)),(75,.loc 11 0)]) y4.2.2.2.2.2.2.2.2.2.2.2.2.2.2.2.2.2.2.2)) κ hp_i28<|aa.CR (ls:=[]) (some 74) (K1 p1 p2 y4 y4 y4 y4 [(71,vI p1),(74,vI r29),(75,.loc 11 0)]) (dJ hr_4)<|aa.D ?_
      exact c62
     .refine aa.G 1 (K1 p1 p2 y4 y4 y4 y4 [(71,vI p1),(73,jS y4),(76,jS y4)])<|aa.D ?_
      exact c110
    have c14:X 13 14 (sp 204 (K1 p1 p2 y4 y4 y4 y4 [(71,vI p1),(73,jS y4)]) y4.2.2.2.2.2.2.2.2.2.2.2.2.2.2.2.2.2.2.2):=by
     subst hX
     refine OX.step (i0:=0) (is:=[4,5]) κ κ ⟨?_,?_,?_,trivial⟩
     .refine aa.G 1 (K26 p1 p2 y4 y4 y4 y4 y4 p1 [(73,jS y4)])<|aa.D ?_
      exact c15
     .refine aa.nG y4.2.2.2.2.2.2.2.2.2.1 (λp=>(sp 204 (K1 p1 p2 y4 y4 y4 y4 [(71,vI p1),(73,.d (cP.enc p))]) y4.2.2.2.2.2.2.2.2.2.2.2.2.2.2.2.2.2.2.2)) κ hp_i28<|aa.CR (ls:=[]) (some 74) (K1 p1 p2 y4 y4 y4 y4 [(71,vI p1),(74,vI r29)]) (dJ hr_4)<|aa.D ?_
      exact c30
     .refine aa.G 1 (K1 p1 p2 y4 y4 y4 y4 [(71,vI p1),(73,jS y4),(75,.loc 11 0)])<|aa.D ?_
      exact c46
    refine au.t<|au.t<|au.sg 204 y4.2.2.2.2.2.2.2.2.2.2.2.2.2.2.2.2.2.2.2 [1,2,3,6,11,12,71,73] (K1 p1 p2 y4 y4 y4 y4 [(71,vI p1),(73,jS y4)]) κ<|au.D ?_
    exact c14)))))) (λh=>SW.K [(6,FD y4),(11,Il y4)]<|SW.exit<|aG<|aG<|LR h ⟨rfl,rfl⟩)) (by rintro _ _ ⟨rfl,rfl⟩;exact aM<|af<|SW.t 1<|SW.ret<|iI h▸E0)
end
theorem Fu(x:Act):dU (iV x)=true:=by simp[iV,dU,en,eM (f:=ah) pK,eM (f:=ah) pK]
def fK(fuel:Nat)(p1:Int)(r3:((Kr)×Hp))(y7:Int×Int):Option ((Int×Int)⊕(Int)):=
 bif (decide (y7.2<(r3.1.r.du.length:Int)))then
  some (.inl ((IntKind.wrap .i64 (y7.1+1)),(IntKind.wrap .i64 (y7.2 * (IntKind.wrap .i64 (Int.tdiv p1 2))))))
 else
  some (.inr y7.1)
noncomputable def lA (fuel:Nat) (p0:ak) (p1:Int) (p2:(List Act)):Option (Bool):=
 (w5 fuel p0 p2).bind λr1=>
 bif ((!r1)||(decide (p1<4)))then
  (qj fuel).bind λr2=>
  some r2
 else
  (tU fuel p0 p1 p2 []).bind λr3=>
  bif ((!r3.1.same)||(!r3.1.ok))then
   aP (λ(j4:Bool)=>
    some j4) λjp5=>
   bif r3.1.same then
    (qj fuel).bind λr6=>
    jp5 r6
   else
    jp5 false
  else
   (iter (fK fuel p1 r3) fuel (2,1)).bind λv9=>
   r3.1.t.bind λi10=>
   (eK fuel i10 r3.2).bind λr11=>
   bif (decide (r11<=v9))then
    (qj fuel).bind λr12=>
    some r12
   else
    some false
def Ik(x0:((Kr)×Hp)):SV:=.box [.d (cP.enc x0.1.t),.d (.list 1 (List.map (D.int .i64) x0.1.r.S.aq)),.d (.list 1 (List.map D.bool x0.1.r.S.Down)),vI x0.1.r.S.cW,vI x0.1.r.Order,.d (.list 3 (List.map ab x0.1.r.du)),vI x0.1.r.eP,vB x0.1.same,vB x0.1.ok]
section
attribute [local irreducible] aa aA bb au SW uS
theorem vm(h:lA fuel p0 p1 p2=some r):PC Tryz.prog 4 [.d (bG p0),vI p1,.d (.list 4 (List.map iV p2))] (vB r):=by
 exact PC.rr Tryz.func4 rfl (by simp[fT,dU,en,vI,vB,vS,qL,eM (f:=iV) Fu]) (by simp[fT,dU,en,vI,vB,vS])<|(by unfold lA at h;exact SW.kk 56 [] [(0,Z2 p0),(1,vI p1),(2,Z0 p2)]<|SW.t 1<|SW.seq<|SW.S<|aa.t 2<|bI h λr1 hr h=>aa.d (Fo hr)<|aa.s [] [1,2,3,14] 2<|aa.mg 56 [] [1,2,3,17] 3 (!r1) (λb=>(sp 56 [(1,vI p1),(2,Z0 p2),(3,Z1 p0),(14,vB b)] [])) (λb=>[(1,vI p1),(2,Z0 p2),(3,Z1 p0),(17,vB (b||(decide (p1<4))))]) κ κ κ<|aa.E<|SW.b h (λh=>SW.S<|bI h λr2 hr h=>aa.d (ry hr)<|aa.t 1<|aa.E<|SW.ret<|ag<|iI h▸EL) (λh=>SW.skip<|af<|SW.S<|aa.t 3<|bI h λr3 hr h=>aa.f (Fm hr)<|aa.t 2<|aa.E<|SW.seq<|SW.S<|aa.s [] [1,7,26] 4<|aa.mg 56 r3.2 [1,7,30] 4 (!r3.1.same) (λb=>(sp 56 [(1,vI p1),(7,Ik r3),(26,vB b)] r3.2)) (λb=>[(1,vI p1),(7,Ik r3),(30,vB (b||(!r3.1.ok)))]) κ κ κ<|aa.E<|SW.b h (λh=>SW.J 56 r3.2 [6] (λ(j4:Bool)=>[(6,vB j4)]) h (λj4 h=>SW.ret<|ag<|iI h▸EL) λjp5 h=>SW.al<|aa.s [] [33] 3<|aa.b2 (λb=>(sp 56 [(33,vB b)] r3.2)) h (λh=>bI h λr6 hr h=>aa.d (ry hr)<|aa.t 2<|aa.D<|JQ [] h) λh=>aa.t 3<|aa.D<|JQ [] h) (λh=>SW.skip<|af<|SW.t 1<|SW.seq<|SW.t 1<|SW.block<|bI h λv9 hit h=>SW.it 56 r3.2 [1,7,8,9] (λy7=>[(1,vI p1),(7,Ik r3),(8,vI y7.1),(9,vI y7.2)]) (λv9 e s=>(e=.exit 0/\s=(sp 56 [(7,Ik r3),(8,vI v9)] r3.2))) hit κ (λy7 o h=>by unfold fK at h;exact SW.seq<|SW.S<|aa.t 4<|aa.p (ax.len (enc:=ab) (xs:=r3.1.r.du))<|aa.t 1<|aa.E<|SW.b h (λh=>SW.skip<|af<|SW.seq<|SW.block<|SW.al<|aa.t 3<|aa.D<|aB<|af<|SW.al<|aa.t 5<|aa.D<|LQ h) (λh=>SW.kk 56 r3.2 [(7,Ik r3),(8,vI y7.1)]<|SW.exit<|aG<|aG<|LR h ⟨rfl,rfl⟩)) (by rintro _ _ ⟨rfl,rfl⟩;exact aM<|af<|SW.S<|aa.s [] [8,49] 2<|bI h λi10 hp_i10 h=>aa.nG r3.1.t (λp=>(sp 56 [(8,vI v9),(49,.d (cP.enc p))] r3.2)) κ hp_i10<|bI h λr11 hr h=>aa.g (ls:=[]) (eb hr)<|aa.s [] [53] 3<|aa.b2 (λb=>(sp 56 [(53,vB b)] r3.2)) h (λh=>bI h λr12 hr h=>aa.d (ry hr)<|aa.t 2<|aa.E<|SW.ret<|iI h▸EL) λh=>aa.t 3<|aa.E<|SW.ret<|iI h▸EL))))
end
end Go.Sh
