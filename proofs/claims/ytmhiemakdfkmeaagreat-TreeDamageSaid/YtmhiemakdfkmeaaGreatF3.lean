/- Printed by a program: functions of the program as plain functions, and that the code computes them. -/
import Derived.Test.YtmhiemakdfkmeaaGreatF2
set_option linter.all false
set_option autoImplicit true
set_option relaxedAutoImplicit true
open Go Go.Proofs
namespace Go.Sh
set_option maxRecDepth 100000
section
attribute [local irreducible] cf jj lh lH SW uS
noncomputable def mN (fuel:Nat) (p1:Int) (p2:(List Act)) (y4:(List Int)×(List Bool)×Int×(Option Nat)×Int×Int×Int×Bool×Bool×(Option Nat)×(List Int)×(List Bool)×Int×Int×(List Entry)×Int×Bool×Bool×Int×Hp):Option (((List Int)×(List Bool)×Int×(Option Nat)×Int×Int×Int×Bool×Bool×(Option Nat)×(List Int)×(List Bool)×Int×Int×(List Entry)×Int×Bool×Bool×Int×Hp)⊕((Option Nat)×Int×Int×Int×Bool×Bool×(Option Nat)×(List Int)×(List Bool)×Int×Int×(List Entry)×Int×Bool×Bool×Hp)):=
 bif (((decide (y4.2.2.2.2.2.2.2.2.2.2.2.2.2.2.2.2.2.2.1<(p2.length:Int)))&&y4.2.2.2.2.2.2.2.2.2.2.2.2.2.2.2.2.1)&&y4.2.2.2.2.2.2.2.2.2.2.2.2.2.2.2.2.2.1)then
  (idx p2 y4.2.2.2.2.2.2.2.2.2.2.2.2.2.2.2.2.2.2.1).bind λx5=>
  bif (x5.Kind==0)then
   y4.2.2.2.2.2.2.2.2.2.1.bind λi6=>
   (eI fuel i6 x5.Row x5.Key y4.2.2.2.2.2.2.2.2.2.2.2.2.2.2.2.2.2.2.2).bind λr7=>
   (iU fuel (⟨(⟨y4.2.2.2.2.2.2.2.2.2.2.1,y4.2.2.2.2.2.2.2.2.2.2.2.1,y4.2.2.2.2.2.2.2.2.2.2.2.2.1⟩:az),y4.2.2.2.2.2.2.2.2.2.2.2.2.2.1,y4.2.2.2.2.2.2.2.2.2.2.2.2.2.2.1,y4.2.2.2.2.2.2.2.2.2.2.2.2.2.2.2.1⟩:Tree) x5.Row x5.Key).bind λr8=>
   bif ((r7.1.1==r8.2.1)&&(r7.1.2==r8.2.2))then
    y4.2.2.2.2.2.2.2.2.2.1.bind λi9=>
    (kL fuel i9 r8.1 r7.2).bind λr10=>
    some (.inl (y4.1,y4.2.1,y4.2.2.1,y4.2.2.2.1,y4.2.2.2.2.1,y4.2.2.2.2.2.1,y4.2.2.2.2.2.2.1,y4.2.2.2.2.2.2.2.1,y4.2.2.2.2.2.2.2.2.1,y4.2.2.2.2.2.2.2.2.2.1,r8.1.S.aG,r8.1.S.Down,r8.1.S.eD,r8.1.Order,r8.1.fk,r8.1.gK,r10.1,y4.2.2.2.2.2.2.2.2.2.2.2.2.2.2.2.2.2.1,(IntKind.wrap .i64 (y4.2.2.2.2.2.2.2.2.2.2.2.2.2.2.2.2.2.2.1+1)),r10.2))
   else
    some (.inl (y4.1,y4.2.1,y4.2.2.1,y4.2.2.2.1,y4.2.2.2.2.1,y4.2.2.2.2.2.1,y4.2.2.2.2.2.2.1,y4.2.2.2.2.2.2.2.1,y4.2.2.2.2.2.2.2.2.1,y4.2.2.2.2.2.2.2.2.2.1,r8.1.S.aG,r8.1.S.Down,r8.1.S.eD,r8.1.Order,r8.1.fk,r8.1.gK,false,y4.2.2.2.2.2.2.2.2.2.2.2.2.2.2.2.2.2.1,(IntKind.wrap .i64 (y4.2.2.2.2.2.2.2.2.2.2.2.2.2.2.2.2.2.2.1+1)),r7.2))
  else
   bif (x5.Kind==1)then
    y4.2.2.2.2.2.2.2.2.2.1.bind λi11=>
    (gG fuel i11 x5.Row x5.Key y4.2.2.2.2.2.2.2.2.2.2.2.2.2.2.2.2.2.2.2).bind λr12=>
    (kr fuel (⟨(⟨y4.2.2.2.2.2.2.2.2.2.2.1,y4.2.2.2.2.2.2.2.2.2.2.2.1,y4.2.2.2.2.2.2.2.2.2.2.2.2.1⟩:az),y4.2.2.2.2.2.2.2.2.2.2.2.2.2.1,y4.2.2.2.2.2.2.2.2.2.2.2.2.2.2.1,y4.2.2.2.2.2.2.2.2.2.2.2.2.2.2.2.1⟩:Tree) x5.Row x5.Key).bind λr13=>
    bif (r12.1==r13.2)then
     y4.2.2.2.2.2.2.2.2.2.1.bind λi14=>
     (kL fuel i14 r13.1 r12.2).bind λr15=>
     some (.inl (y4.1,y4.2.1,y4.2.2.1,y4.2.2.2.1,y4.2.2.2.2.1,y4.2.2.2.2.2.1,y4.2.2.2.2.2.2.1,y4.2.2.2.2.2.2.2.1,y4.2.2.2.2.2.2.2.2.1,y4.2.2.2.2.2.2.2.2.2.1,r13.1.S.aG,r13.1.S.Down,r13.1.S.eD,r13.1.Order,r13.1.fk,r13.1.gK,r15.1,y4.2.2.2.2.2.2.2.2.2.2.2.2.2.2.2.2.2.1,(IntKind.wrap .i64 (y4.2.2.2.2.2.2.2.2.2.2.2.2.2.2.2.2.2.2.1+1)),r15.2))
    else
     some (.inl (y4.1,y4.2.1,y4.2.2.1,y4.2.2.2.1,y4.2.2.2.2.1,y4.2.2.2.2.2.1,y4.2.2.2.2.2.2.1,y4.2.2.2.2.2.2.2.1,y4.2.2.2.2.2.2.2.2.1,y4.2.2.2.2.2.2.2.2.2.1,r13.1.S.aG,r13.1.S.Down,r13.1.S.eD,r13.1.Order,r13.1.fk,r13.1.gK,false,y4.2.2.2.2.2.2.2.2.2.2.2.2.2.2.2.2.2.1,(IntKind.wrap .i64 (y4.2.2.2.2.2.2.2.2.2.2.2.2.2.2.2.2.2.2.1+1)),r12.2))
   else
    bif (x5.Kind==2)then
     y4.2.2.2.2.2.2.2.2.2.1.bind λi16=>
     (eK fuel i16 x5.Row x5.Key x5.yg y4.2.2.2.2.2.2.2.2.2.2.2.2.2.2.2.2.2.2.2).bind λr17=>
     (lN fuel (⟨(⟨y4.2.2.2.2.2.2.2.2.2.2.1,y4.2.2.2.2.2.2.2.2.2.2.2.1,y4.2.2.2.2.2.2.2.2.2.2.2.2.1⟩:az),y4.2.2.2.2.2.2.2.2.2.2.2.2.2.1,y4.2.2.2.2.2.2.2.2.2.2.2.2.2.2.1,y4.2.2.2.2.2.2.2.2.2.2.2.2.2.2.2.1⟩:Tree) x5.Row x5.Key x5.yg).bind λr18=>
     bif (r17.1==r18.2)then
      y4.2.2.2.2.2.2.2.2.2.1.bind λi19=>
      (kL fuel i19 r18.1 r17.2).bind λr20=>
      some (.inl (y4.1,y4.2.1,y4.2.2.1,y4.2.2.2.1,y4.2.2.2.2.1,y4.2.2.2.2.2.1,y4.2.2.2.2.2.2.1,y4.2.2.2.2.2.2.2.1,y4.2.2.2.2.2.2.2.2.1,y4.2.2.2.2.2.2.2.2.2.1,r18.1.S.aG,r18.1.S.Down,r18.1.S.eD,r18.1.Order,r18.1.fk,r18.1.gK,r20.1,y4.2.2.2.2.2.2.2.2.2.2.2.2.2.2.2.2.2.1,(IntKind.wrap .i64 (y4.2.2.2.2.2.2.2.2.2.2.2.2.2.2.2.2.2.2.1+1)),r20.2))
     else
      some (.inl (y4.1,y4.2.1,y4.2.2.1,y4.2.2.2.1,y4.2.2.2.2.1,y4.2.2.2.2.2.1,y4.2.2.2.2.2.2.1,y4.2.2.2.2.2.2.2.1,y4.2.2.2.2.2.2.2.2.1,y4.2.2.2.2.2.2.2.2.2.1,r18.1.S.aG,r18.1.S.Down,r18.1.S.eD,r18.1.Order,r18.1.fk,r18.1.gK,false,y4.2.2.2.2.2.2.2.2.2.2.2.2.2.2.2.2.2.1,(IntKind.wrap .i64 (y4.2.2.2.2.2.2.2.2.2.2.2.2.2.2.2.2.2.2.1+1)),r17.2))
    else
     bif (x5.Kind==3)then
      y4.2.2.2.2.2.2.2.2.2.1.bind λi21=>
      (ni fuel i21 y4.2.2.2.2.2.2.2.2.2.2.2.2.2.2.2.2.2.2.2).bind λr22=>
      (eI fuel i21 x5.Row 1 r22.2).bind λr23=>
      bif y4.2.2.2.2.2.2.2.2.2.2.2.2.2.2.2.2.1 then
       r22.1.bind λi24=>
       (kL fuel i24 (⟨(⟨y4.2.2.2.2.2.2.2.2.2.2.1,y4.2.2.2.2.2.2.2.2.2.2.2.1,y4.2.2.2.2.2.2.2.2.2.2.2.2.1⟩:az),y4.2.2.2.2.2.2.2.2.2.2.2.2.2.1,y4.2.2.2.2.2.2.2.2.2.2.2.2.2.2.1,y4.2.2.2.2.2.2.2.2.2.2.2.2.2.2.2.1⟩:Tree) r23.2).bind λr25=>
       some (.inl (y4.1,y4.2.1,y4.2.2.1,y4.2.2.2.1,y4.2.2.2.2.1,y4.2.2.2.2.2.1,y4.2.2.2.2.2.2.1,y4.2.2.2.2.2.2.2.1,y4.2.2.2.2.2.2.2.2.1,r22.1,y4.2.2.2.2.2.2.2.2.2.2.1,y4.2.2.2.2.2.2.2.2.2.2.2.1,y4.2.2.2.2.2.2.2.2.2.2.2.2.1,y4.2.2.2.2.2.2.2.2.2.2.2.2.2.1,y4.2.2.2.2.2.2.2.2.2.2.2.2.2.2.1,y4.2.2.2.2.2.2.2.2.2.2.2.2.2.2.2.1,r25.1,y4.2.2.2.2.2.2.2.2.2.2.2.2.2.2.2.2.2.1,(IntKind.wrap .i64 (y4.2.2.2.2.2.2.2.2.2.2.2.2.2.2.2.2.2.2.1+1)),r25.2))
      else
       some (.inl (y4.1,y4.2.1,y4.2.2.1,y4.2.2.2.1,y4.2.2.2.2.1,y4.2.2.2.2.2.1,y4.2.2.2.2.2.2.1,y4.2.2.2.2.2.2.2.1,y4.2.2.2.2.2.2.2.2.1,r22.1,y4.2.2.2.2.2.2.2.2.2.2.1,y4.2.2.2.2.2.2.2.2.2.2.2.1,y4.2.2.2.2.2.2.2.2.2.2.2.2.1,y4.2.2.2.2.2.2.2.2.2.2.2.2.2.1,y4.2.2.2.2.2.2.2.2.2.2.2.2.2.2.1,y4.2.2.2.2.2.2.2.2.2.2.2.2.2.2.2.1,false,y4.2.2.2.2.2.2.2.2.2.2.2.2.2.2.2.2.2.1,(IntKind.wrap .i64 (y4.2.2.2.2.2.2.2.2.2.2.2.2.2.2.2.2.2.2.1+1)),r23.2))
     else
      bz (λ(j26:(Option Nat)×Int×Int×Hp)=>
       bif ((j26.2.2.1==0)&&(j26.2.1==(-1)))then
        bif ((j26.2.2.1==0)&&(j26.2.1==(-1)))then
         j26.1.bind λi33=>
         (kL fuel i33 (⟨(⟨y4.2.2.2.2.2.2.2.2.2.2.1,y4.2.2.2.2.2.2.2.2.2.2.2.1,y4.2.2.2.2.2.2.2.2.2.2.2.2.1⟩:az),y4.2.2.2.2.2.2.2.2.2.2.2.2.2.1,y4.2.2.2.2.2.2.2.2.2.2.2.2.2.2.1,y4.2.2.2.2.2.2.2.2.2.2.2.2.2.2.2.1⟩:Tree) j26.2.2.2).bind λr34=>
         some (.inl (y4.1,y4.2.1,y4.2.2.1,y4.2.2.2.1,y4.2.2.2.2.1,y4.2.2.2.2.2.1,y4.2.2.2.2.2.2.1,y4.2.2.2.2.2.2.2.1,y4.2.2.2.2.2.2.2.2.1,j26.1,y4.2.2.2.2.2.2.2.2.2.2.1,y4.2.2.2.2.2.2.2.2.2.2.2.1,y4.2.2.2.2.2.2.2.2.2.2.2.2.1,y4.2.2.2.2.2.2.2.2.2.2.2.2.2.1,y4.2.2.2.2.2.2.2.2.2.2.2.2.2.2.1,y4.2.2.2.2.2.2.2.2.2.2.2.2.2.2.2.1,r34.1,y4.2.2.2.2.2.2.2.2.2.2.2.2.2.2.2.2.2.1,(IntKind.wrap .i64 (y4.2.2.2.2.2.2.2.2.2.2.2.2.2.2.2.2.2.2.1+1)),r34.2))
        else
         some (.inl (y4.1,y4.2.1,y4.2.2.1,y4.2.2.2.1,y4.2.2.2.2.1,y4.2.2.2.2.2.1,y4.2.2.2.2.2.2.1,y4.2.2.2.2.2.2.2.1,y4.2.2.2.2.2.2.2.2.1,j26.1,y4.2.2.2.2.2.2.2.2.2.2.1,y4.2.2.2.2.2.2.2.2.2.2.2.1,y4.2.2.2.2.2.2.2.2.2.2.2.2.1,y4.2.2.2.2.2.2.2.2.2.2.2.2.2.1,y4.2.2.2.2.2.2.2.2.2.2.2.2.2.2.1,y4.2.2.2.2.2.2.2.2.2.2.2.2.2.2.2.1,false,y4.2.2.2.2.2.2.2.2.2.2.2.2.2.2.2.2.2.1,(IntKind.wrap .i64 (y4.2.2.2.2.2.2.2.2.2.2.2.2.2.2.2.2.2.2.1+1)),j26.2.2.2))
       else
        bif ((j26.2.2.1==0)&&(j26.2.1==(-1)))then
         y4.2.2.2.2.2.2.2.2.2.1.bind λi35=>
         (kL fuel i35 (⟨(⟨y4.2.2.2.2.2.2.2.2.2.2.1,y4.2.2.2.2.2.2.2.2.2.2.2.1,y4.2.2.2.2.2.2.2.2.2.2.2.2.1⟩:az),y4.2.2.2.2.2.2.2.2.2.2.2.2.2.1,y4.2.2.2.2.2.2.2.2.2.2.2.2.2.2.1,y4.2.2.2.2.2.2.2.2.2.2.2.2.2.2.2.1⟩:Tree) j26.2.2.2).bind λr36=>
         some (.inl (y4.1,y4.2.1,y4.2.2.1,y4.2.2.2.1,y4.2.2.2.2.1,y4.2.2.2.2.2.1,y4.2.2.2.2.2.2.1,y4.2.2.2.2.2.2.2.1,y4.2.2.2.2.2.2.2.2.1,y4.2.2.2.2.2.2.2.2.2.1,y4.2.2.2.2.2.2.2.2.2.2.1,y4.2.2.2.2.2.2.2.2.2.2.2.1,y4.2.2.2.2.2.2.2.2.2.2.2.2.1,y4.2.2.2.2.2.2.2.2.2.2.2.2.2.1,y4.2.2.2.2.2.2.2.2.2.2.2.2.2.2.1,y4.2.2.2.2.2.2.2.2.2.2.2.2.2.2.2.1,r36.1,y4.2.2.2.2.2.2.2.2.2.2.2.2.2.2.2.2.2.1,(IntKind.wrap .i64 (y4.2.2.2.2.2.2.2.2.2.2.2.2.2.2.2.2.2.2.1+1)),r36.2))
        else
         some (.inl (y4.1,y4.2.1,y4.2.2.1,y4.2.2.2.1,y4.2.2.2.2.1,y4.2.2.2.2.2.1,y4.2.2.2.2.2.2.1,y4.2.2.2.2.2.2.2.1,y4.2.2.2.2.2.2.2.2.1,y4.2.2.2.2.2.2.2.2.2.1,y4.2.2.2.2.2.2.2.2.2.2.1,y4.2.2.2.2.2.2.2.2.2.2.2.1,y4.2.2.2.2.2.2.2.2.2.2.2.2.1,y4.2.2.2.2.2.2.2.2.2.2.2.2.2.1,y4.2.2.2.2.2.2.2.2.2.2.2.2.2.2.1,y4.2.2.2.2.2.2.2.2.2.2.2.2.2.2.2.1,false,y4.2.2.2.2.2.2.2.2.2.2.2.2.2.2.2.2.2.1,(IntKind.wrap .i64 (y4.2.2.2.2.2.2.2.2.2.2.2.2.2.2.2.2.2.2.1+1)),j26.2.2.2))) λjp27=>
      y4.2.2.2.2.2.2.2.2.2.1.bind λi28=>
      (gz fuel i28 y4.2.2.2.2.2.2.2.2.2.2.2.2.2.2.2.2.2.2.2).bind λr29=>
      y4.2.2.2.2.2.2.2.2.2.1.bind λi30=>
      (eM fuel i30 y4.2.2.2.2.2.2.2.2.2.2.2.2.2.2.2.2.2.2.2).bind λr31=>
      (mC fuel (⟨y4.1,y4.2.1,y4.2.2.1⟩:az) p1 r29 r31.1 r31.2).bind λr32=>
      jp27 (r32.1.1,r32.1.2.1,r32.1.2.2,r32.2)
 else
  some (.inr (y4.2.2.2.1,y4.2.2.2.2.1,y4.2.2.2.2.2.1,y4.2.2.2.2.2.2.1,y4.2.2.2.2.2.2.2.1,y4.2.2.2.2.2.2.2.2.1,y4.2.2.2.2.2.2.2.2.2.1,y4.2.2.2.2.2.2.2.2.2.2.1,y4.2.2.2.2.2.2.2.2.2.2.2.1,y4.2.2.2.2.2.2.2.2.2.2.2.2.1,y4.2.2.2.2.2.2.2.2.2.2.2.2.2.1,y4.2.2.2.2.2.2.2.2.2.2.2.2.2.2.1,y4.2.2.2.2.2.2.2.2.2.2.2.2.2.2.2.1,y4.2.2.2.2.2.2.2.2.2.2.2.2.2.2.2.2.1,y4.2.2.2.2.2.2.2.2.2.2.2.2.2.2.2.2.2.1,y4.2.2.2.2.2.2.2.2.2.2.2.2.2.2.2.2.2.2.2))
noncomputable def xO (fuel:Nat) (p0:az) (p1:Int) (p2:(List Act)) (H:Hp):Option ((S0)×Hp):=
 (yD fuel p0 p1 H).bind λr1=>
 (Dc fuel p0 p1).bind λr2=>
 (iter (mN fuel p1 p2) fuel (p0.aG,p0.Down,p0.eD,none,0,0,0,false,false,r1.1.1,r2.1.S.aG,r2.1.S.Down,r2.1.S.eD,r2.1.Order,r2.1.fk,r2.1.gK,(r1.1.2==r2.2),(r2.2==0),0,r1.2)).bind λv38=>
 some ((⟨v38.2.2.2.2.2.2.1,(⟨(⟨v38.2.2.2.2.2.2.2.1,v38.2.2.2.2.2.2.2.2.1,v38.2.2.2.2.2.2.2.2.2.1⟩:az),v38.2.2.2.2.2.2.2.2.2.2.1,v38.2.2.2.2.2.2.2.2.2.2.2.1,v38.2.2.2.2.2.2.2.2.2.2.2.2.1⟩:Tree),v38.2.2.2.2.2.2.2.2.2.2.2.2.2.1,v38.2.2.2.2.2.2.2.2.2.2.2.2.2.2.1⟩:S0),v38.2.2.2.2.2.2.2.2.2.2.2.2.2.2.2)
def O9(x0:(List Int)×(List Bool)×Int×(Option Nat)×Int×Int×Int×Bool×Bool×(Option Nat)×(List Int)×(List Bool)×Int×Int×(List Entry)×Int×Bool×Bool×Int×Hp):SV:=.box [.d (.list 1 (List.map (D.int .i64) x0.1)),.d (.list 1 (List.map D.bool x0.2.1)),vI x0.2.2.1]
def Mt(x0:(List Int)×(List Bool)×Int×(Option Nat)×Int×Int×Int×Bool×Bool×(Option Nat)×(List Int)×(List Bool)×Int×Int×(List Entry)×Int×Bool×Bool×Int×Hp):SV:=.box [.d (cP.enc x0.2.2.2.1),.d (.cG),.d (.cG),vI x0.2.2.2.2.1,vI x0.2.2.2.2.2.1,.d (.cG),vI x0.2.2.2.2.2.2.1,vB x0.2.2.2.2.2.2.2.1,vB x0.2.2.2.2.2.2.2.2.1]
def O8(x0:(List Int)×(List Bool)×Int×(Option Nat)×Int×Int×Int×Bool×Bool×(Option Nat)×(List Int)×(List Bool)×Int×Int×(List Entry)×Int×Bool×Bool×Int×Hp):SV:=.box [.d (cP.enc x0.2.2.2.2.2.2.2.2.2.1),.d (.list 1 (List.map (D.int .i64) x0.2.2.2.2.2.2.2.2.2.2.1)),.d (.list 1 (List.map D.bool x0.2.2.2.2.2.2.2.2.2.2.2.1)),vI x0.2.2.2.2.2.2.2.2.2.2.2.2.1,vI x0.2.2.2.2.2.2.2.2.2.2.2.2.2.1,.d (.list 3 (List.map ab x0.2.2.2.2.2.2.2.2.2.2.2.2.2.2.1)),vI x0.2.2.2.2.2.2.2.2.2.2.2.2.2.2.2.1,vB x0.2.2.2.2.2.2.2.2.2.2.2.2.2.2.2.2.1,vB x0.2.2.2.2.2.2.2.2.2.2.2.2.2.2.2.2.2.1]
def rk(x0:(List Int)×(List Bool)×Int×(Option Nat)×Int×Int×Int×Bool×Bool×(Option Nat)×(List Int)×(List Bool)×Int×Int×(List Entry)×Int×Bool×Bool×Int×Hp):SV:=vI x0.2.2.2.2.2.2.2.2.2.2.2.2.2.2.2.2.2.2.1
def mh(x0:(List Int)×(List Bool)×Int×(Option Nat)×Int×Int×Int×Bool×Bool×(Option Nat)×(List Int)×(List Bool)×Int×Int×(List Entry)×Int×Bool×Bool×Int×Hp):SV:=.d (cP.enc x0.2.2.2.2.2.2.2.2.2.1)
def SJ(x0:(List Int)×(List Bool)×Int×(Option Nat)×Int×Int×Int×Bool×Bool×(Option Nat)×(List Int)×(List Bool)×Int×Int×(List Entry)×Int×Bool×Bool×Int×Hp):SV:=.d (.agg [.list 1 (List.map (D.int .i64) x0.2.2.2.2.2.2.2.2.2.2.1),.list 1 (List.map D.bool x0.2.2.2.2.2.2.2.2.2.2.2.1),.int .i64 x0.2.2.2.2.2.2.2.2.2.2.2.2.1,.int .i64 x0.2.2.2.2.2.2.2.2.2.2.2.2.2.1,.list 3 (List.map ab x0.2.2.2.2.2.2.2.2.2.2.2.2.2.2.1),.int .i64 x0.2.2.2.2.2.2.2.2.2.2.2.2.2.2.2.1])
def TZ(x0:(List Int)×(List Bool)×Int×(Option Nat)×Int×Int×Int×Bool×Bool×(Option Nat)×(List Int)×(List Bool)×Int×Int×(List Entry)×Int×Bool×Bool×Int×Hp)(x1:Tree×Int×Int)(x2:((Int×Int)×Hp)):SV:=.box [.d (cP.enc x0.2.2.2.2.2.2.2.2.2.1),.d (.list 1 (List.map (D.int .i64) x1.1.S.aG)),.d (.list 1 (List.map D.bool x1.1.S.Down)),vI x1.1.S.eD,vI x1.1.Order,.d (.list 3 (List.map ab x1.1.fk)),vI x1.1.gK,vB ((x2.1.1==x1.2.1)&&(x2.1.2==x1.2.2)),vB x0.2.2.2.2.2.2.2.2.2.2.2.2.2.2.2.2.2.1]
def QT(x0:(List Int)×(List Bool)×Int×(Option Nat)×Int×Int×Int×Bool×Bool×(Option Nat)×(List Int)×(List Bool)×Int×Int×(List Entry)×Int×Bool×Bool×Int×Hp)(x1:Tree×Int)(x2:((Int)×Hp)):SV:=.box [.d (cP.enc x0.2.2.2.2.2.2.2.2.2.1),.d (.list 1 (List.map (D.int .i64) x1.1.S.aG)),.d (.list 1 (List.map D.bool x1.1.S.Down)),vI x1.1.S.eD,vI x1.1.Order,.d (.list 3 (List.map ab x1.1.fk)),vI x1.1.gK,vB (x2.1==x1.2),vB x0.2.2.2.2.2.2.2.2.2.2.2.2.2.2.2.2.2.1]
def TY(x0:(((Option Nat))×Hp))(x1:(List Int)×(List Bool)×Int×(Option Nat)×Int×Int×Int×Bool×Bool×(Option Nat)×(List Int)×(List Bool)×Int×Int×(List Entry)×Int×Bool×Bool×Int×Hp):SV:=.box [.d (cP.enc x0.1),.d (.list 1 (List.map (D.int .i64) x1.2.2.2.2.2.2.2.2.2.2.1)),.d (.list 1 (List.map D.bool x1.2.2.2.2.2.2.2.2.2.2.2.1)),vI x1.2.2.2.2.2.2.2.2.2.2.2.2.1,vI x1.2.2.2.2.2.2.2.2.2.2.2.2.2.1,.d (.list 3 (List.map ab x1.2.2.2.2.2.2.2.2.2.2.2.2.2.2.1)),vI x1.2.2.2.2.2.2.2.2.2.2.2.2.2.2.2.1,vB x1.2.2.2.2.2.2.2.2.2.2.2.2.2.2.2.2.1,vB x1.2.2.2.2.2.2.2.2.2.2.2.2.2.2.2.2.2.1]
def UR(x0:(List Int)×(List Bool)×Int×(Option Nat)×Int×Int×Int×Bool×Bool×(Option Nat)×(List Int)×(List Bool)×Int×Int×(List Entry)×Int×Bool×Bool×Int×Hp):SV:=.d (.agg [.list 1 (List.map (D.int .i64) x0.1),.list 1 (List.map D.bool x0.2.1),.int .i64 x0.2.2.1])
def SG(x0:(List Int)×(List Bool)×Int×(Option Nat)×Int×Int×Int×Bool×Bool×(Option Nat)×(List Int)×(List Bool)×Int×Int×(List Entry)×Int×Bool×Bool×Int×Hp)(x1:(Option Nat)×Int×Int×Hp):SV:=.box [.d (cP.enc x0.2.2.2.2.2.2.2.2.2.1),.d (.list 1 (List.map (D.int .i64) x0.2.2.2.2.2.2.2.2.2.2.1)),.d (.list 1 (List.map D.bool x0.2.2.2.2.2.2.2.2.2.2.2.1)),vI x0.2.2.2.2.2.2.2.2.2.2.2.2.1,vI x0.2.2.2.2.2.2.2.2.2.2.2.2.2.1,.d (.list 3 (List.map ab x0.2.2.2.2.2.2.2.2.2.2.2.2.2.2.1)),vI x0.2.2.2.2.2.2.2.2.2.2.2.2.2.2.2.1,vB ((x1.2.2.1==0)&&(x1.2.1==(-1))),vB x0.2.2.2.2.2.2.2.2.2.2.2.2.2.2.2.2.2.1]
def TX(x0:(Option Nat)×Int×Int×Hp)(x1:(List Int)×(List Bool)×Int×(Option Nat)×Int×Int×Int×Bool×Bool×(Option Nat)×(List Int)×(List Bool)×Int×Int×(List Entry)×Int×Bool×Bool×Int×Hp):SV:=.box [.d (cP.enc x0.1),.d (.list 1 (List.map (D.int .i64) x1.2.2.2.2.2.2.2.2.2.2.1)),.d (.list 1 (List.map D.bool x1.2.2.2.2.2.2.2.2.2.2.2.1)),vI x1.2.2.2.2.2.2.2.2.2.2.2.2.1,vI x1.2.2.2.2.2.2.2.2.2.2.2.2.2.1,.d (.list 3 (List.map ab x1.2.2.2.2.2.2.2.2.2.2.2.2.2.2.1)),vI x1.2.2.2.2.2.2.2.2.2.2.2.2.2.2.2.1,vB ((x0.2.2.1==0)&&(x0.2.1==(-1))),vB x1.2.2.2.2.2.2.2.2.2.2.2.2.2.2.2.2.2.1]
def K1:=λa0 a1 a2 a3 a4 a5 (t:SL)=>((1,vI a0)::(2,Z0 a1)::(3,O9 a2)::(6,Mt a3)::(11,O8 a4)::(12,rk a5)::t:SL)
def K25:=λa0 a1 a2 a3 (t:SL)=>((1,vI a0)::(2,Z0 a1)::(3,O9 a2)::(6,Mt a3)::t:SL)
def K26:=λa0 a1 a2 a3 a4 a5 a6 a7 (t:SL)=>((1,vI a0)::(2,Z0 a1)::(3,O9 a2)::(6,Mt a3)::(11,O8 a4)::(12,rk a5)::(70,UR a6)::(71,vI a7)::t:SL)
def K30:=λa0 a1 a2 a3 a4 a5 a6 (t:SL)=>((1,vI a0)::(2,Z0 a1)::(3,O9 a2)::(6,Mt a3)::(11,O8 a4)::(12,rk a5)::(26,.d (cP.enc a6))::t:SL)
def K58:=λa0 a1 a2 a3 a4 a5 a6 a7 (t:SL)=>((1,vI a0)::(2,Z0 a1)::(3,O9 a2)::(6,Mt a3)::(11,O8 a4)::(12,rk a5)::(69,ey a6)::(79,.d (cP.enc a7))::t:SL)
theorem Mc(h:xO fuel p0 p1 p2 H=some r):SC Tryz.prog false 9 [.d (cD p0),vI p1,.d (.list 4 (List.map ld p2))] H (.d (.agg [cP.enc r.1.t,.list 1 (List.map (D.int .i64) r.1.r.S.aG),.list 1 (List.map D.bool r.1.r.S.Down),.int .i64 r.1.r.S.eD,.int .i64 r.1.r.Order,.list 3 (List.map ab r.1.r.fk),.int .i64 r.1.r.gK,.bool r.1.same,.bool r.1.ok])) r.2:=by
 refine dr Tryz.func9 rfl ?_
 unfold xO at h
 exact aI 204 H [(0,Z2 p0),(1,vI p1),(2,Z0 p2)]<|ar 1<|aA<|aa 2<|bI h λr1 hr h=>b8 (At hr)<|aa 5<|ak<|aA<|aa 2<|bI h λr2 hr h=>bJ (NB hr)<|aa 6<|ak<|aA<|aX [] [1,2,3,6,41,42,45,47] 7<|th [1,2,3,6,48] 1 r1.1.1 (λp=>(sp 204 [(1,vI p1),(2,Z0 p2),(3,Z1 p0),(6,Uk),(41,.d (cP.enc p)),(42,SQ r2),(45,vB (r1.1.2==r2.2)),(47,vB (r2.2==0))] r1.2)) (λp=>(sp 204 [(1,vI p1),(2,Z0 p2),(3,Z1 p0),(6,Uk),(48,.d (.agg [cP.enc p,.list 1 (List.map (D.int .i64) r2.1.S.aG),.list 1 (List.map D.bool r2.1.S.Down),.int .i64 r2.1.S.eD,.int .i64 r2.1.Order,.list 3 (List.map ab r2.1.fk),.int .i64 r2.1.gK,.bool (r1.1.2==r2.2),.bool (r2.2==0)]))] r1.2)) κ κ (λ_=>by kernel_rfl)<|aa 2<|ak<|an<|ar 1<|aM<|bI h λv38 hit h=>l7 204 [1,2,3,6,11,12] (λy4=>[(1,vI p1),(2,Z0 p2),(3,.box [.d (.list 1 (List.map (D.int .i64) y4.1)),.d (.list 1 (List.map D.bool y4.2.1)),vI y4.2.2.1]),(6,.box [.d (cP.enc y4.2.2.2.1),.d (.cG),.d (.cG),vI y4.2.2.2.2.1,vI y4.2.2.2.2.2.1,.d (.cG),vI y4.2.2.2.2.2.2.1,vB y4.2.2.2.2.2.2.2.1,vB y4.2.2.2.2.2.2.2.2.1]),(11,.box [.d (cP.enc y4.2.2.2.2.2.2.2.2.2.1),.d (.list 1 (List.map (D.int .i64) y4.2.2.2.2.2.2.2.2.2.2.1)),.d (.list 1 (List.map D.bool y4.2.2.2.2.2.2.2.2.2.2.2.1)),vI y4.2.2.2.2.2.2.2.2.2.2.2.2.1,vI y4.2.2.2.2.2.2.2.2.2.2.2.2.2.1,.d (.list 3 (List.map ab y4.2.2.2.2.2.2.2.2.2.2.2.2.2.2.1)),vI y4.2.2.2.2.2.2.2.2.2.2.2.2.2.2.2.1,vB y4.2.2.2.2.2.2.2.2.2.2.2.2.2.2.2.2.1,vB y4.2.2.2.2.2.2.2.2.2.2.2.2.2.2.2.2.2.1]),(12,vI y4.2.2.2.2.2.2.2.2.2.2.2.2.2.2.2.2.2.2.1)]) (λy4=>y4.2.2.2.2.2.2.2.2.2.2.2.2.2.2.2.2.2.2.2) (λv38 e s=>(e=.exit 0/\s=(sp 204 [(6,.box [.d (cP.enc v38.1),.d (.cG),.d (.cG),vI v38.2.1,vI v38.2.2.1,.d (.cG),vI v38.2.2.2.1,vB v38.2.2.2.2.1,vB v38.2.2.2.2.2.1]),(11,.box [.d (cP.enc v38.2.2.2.2.2.2.1),.d (.list 1 (List.map (D.int .i64) v38.2.2.2.2.2.2.2.1)),.d (.list 1 (List.map D.bool v38.2.2.2.2.2.2.2.2.1)),vI v38.2.2.2.2.2.2.2.2.2.1,vI v38.2.2.2.2.2.2.2.2.2.2.1,.d (.list 3 (List.map ab v38.2.2.2.2.2.2.2.2.2.2.2.1)),vI v38.2.2.2.2.2.2.2.2.2.2.2.2.1,vB v38.2.2.2.2.2.2.2.2.2.2.2.2.2.1,vB v38.2.2.2.2.2.2.2.2.2.2.2.2.2.2.1])] v38.2.2.2.2.2.2.2.2.2.2.2.2.2.2.2))) hit κ (λy4 o h=>by
  unfold mN at h;exact an<|aA<|aa 2<|ax (aJ (enc:=ld) (xs:=p2))<|aX [] [1,2,3,6,11,12,53] 2<|dO 204 y4.2.2.2.2.2.2.2.2.2.2.2.2.2.2.2.2.2.2.2 [1,2,3,6,11,12,56] 3 (decide (y4.2.2.2.2.2.2.2.2.2.2.2.2.2.2.2.2.2.2.1<(p2.length:Int))) (λb=>(sp 204 (K1 p1 p2 y4 y4 y4 y4 [(53,vB b)]) y4.2.2.2.2.2.2.2.2.2.2.2.2.2.2.2.2.2.2.2)) (λb=>(K1 p1 p2 y4 y4 y4 y4 [(56,vB (b&&y4.2.2.2.2.2.2.2.2.2.2.2.2.2.2.2.2.1))])) κ κ κ<|aX [] [1,2,3,6,11,12,57] 1<|dO 204 y4.2.2.2.2.2.2.2.2.2.2.2.2.2.2.2.2.2.2.2 [1,2,3,6,11,12,60] 3 ((decide (y4.2.2.2.2.2.2.2.2.2.2.2.2.2.2.2.2.2.2.1<(p2.length:Int)))&&y4.2.2.2.2.2.2.2.2.2.2.2.2.2.2.2.2.1) (λb=>(sp 204 (K1 p1 p2 y4 y4 y4 y4 [(57,vB b)]) y4.2.2.2.2.2.2.2.2.2.2.2.2.2.2.2.2.2.2.2)) (λb=>(K1 p1 p2 y4 y4 y4 y4 [(60,vB (b&&y4.2.2.2.2.2.2.2.2.2.2.2.2.2.2.2.2.2.1))])) κ κ κ<|ak<|aT h (λh=>ao<|ag<|an<|aM<|aA<|aa 2<|bI h λx5 hx h=>ax (s:=bb none (ld x5).cells) (aD (n:=4) hx)<|aa 3<|ak<|an<|ar 1<|aM<|ar 1<|aT h (λh=>aA<|aX [] [1,2,3,6,11,12,13,97,99,101] 6<|bI h λi6 hp_i6 h=>bH y4.2.2.2.2.2.2.2.2.2.1 (λp=>(sp 204 (K1 p1 p2 y4 y4 y4 y4 [(13,Mz x5),(97,.d (cP.enc p)),(99,Z4 x5),(101,vI x5.Key)]) y4.2.2.2.2.2.2.2.2.2.2.2.2.2.2.2.2.2.2.2)) κ hp_i6<|bI h λr7 hr h=>b8 (mA hr)<|aa 5<|ak<|aA<|aa 6<|bI h λr8 hr h=>bJ (qd hr)<|aa 8<|ak<|ah<|aX [] [1,2,3,6,11,12,15,18,116,120] 5<|dO 204 r7.2 [1,2,3,6,11,12,116,124] 4 (r7.1.1==r8.2.1) (λb=>(sp 204 (K1 p1 p2 y4 y4 y4 y4 [(15,vI r7.1.2),(18,vI r8.2.2),(116,SO r8),(120,vB b)]) r7.2)) (λb=>(K1 p1 p2 y4 y4 y4 y4 [(116,SO r8),(124,vB (b&&(r7.1.2==r8.2.2)))])) κ κ κ<|aa 4<|af<|aR<|ag<|ah<|aX [] [1,2,3,6,11,12,195] 3<|cn (λb=>(sp 204 (K25 p1 p2 y4 y4 [(11,TZ y4 r8 r7),(12,rk y4),(195,vB b)]) r7.2)) h (λh=>aX [] [1,2,3,6,11,12,195,197,199] 4<|bI h λi9 hp_i9 h=>bH y4.2.2.2.2.2.2.2.2.2.1 (λp=>(sp 204 (K25 p1 p2 y4 y4 [(11,TZ y4 r8 r7),(12,rk y4),(195,vB true),(197,.d (cP.enc p)),(199,SO r8)]) r7.2)) κ hp_i9<|bI h λr10 hr h=>b8 (mO hr)<|aa 3<|af<|aR<|ag<|ah<|aa 3<|af<|LQ h) λh=>aa 8<|af<|aR<|ag<|ah<|aa 3<|af<|LQ h) (λh=>ar 1<|aT h (λh=>aA<|aX [] [1,2,3,6,11,12,13,130,132,134] 6<|bI h λi11 hp_i11 h=>bH y4.2.2.2.2.2.2.2.2.2.1 (λp=>(sp 204 (K1 p1 p2 y4 y4 y4 y4 [(13,Mz x5),(130,.d (cP.enc p)),(132,Z4 x5),(134,vI x5.Key)]) y4.2.2.2.2.2.2.2.2.2.2.2.2.2.2.2.2.2.2.2)) κ hp_i11<|bI h λr12 hr h=>b8 (xx hr)<|aa 1<|ak<|aA<|aa 6<|bI h λr13 hr h=>bJ (xE hr)<|aa 6<|ak<|ah<|aa 8<|af<|aR<|ag<|ah<|aX [] [1,2,3,6,11,12,195] 3<|cn (λb=>(sp 204 (K25 p1 p2 y4 y4 [(11,QT y4 r13 r12),(12,rk y4),(195,vB b)]) r12.2)) h (λh=>aX [] [1,2,3,6,11,12,195,197,199] 4<|bI h λi14 hp_i14 h=>bH y4.2.2.2.2.2.2.2.2.2.1 (λp=>(sp 204 (K25 p1 p2 y4 y4 [(11,QT y4 r13 r12),(12,rk y4),(195,vB true),(197,.d (cP.enc p)),(199,SQ r13)]) r12.2)) κ hp_i14<|bI h λr15 hr h=>b8 (mO hr)<|aa 3<|af<|aR<|ag<|ah<|aa 3<|af<|LQ h) λh=>aa 8<|af<|aR<|ag<|ah<|aa 3<|af<|LQ h) (λh=>ar 1<|aT h (λh=>aA<|aX [] [1,2,3,6,11,12,13,155,157,159,161] 8<|bI h λi16 hp_i16 h=>bH y4.2.2.2.2.2.2.2.2.2.1 (λp=>(sp 204 (K1 p1 p2 y4 y4 y4 y4 [(13,Mz x5),(155,.d (cP.enc p)),(157,Z4 x5),(159,vI x5.Key),(161,Z5 x5)]) y4.2.2.2.2.2.2.2.2.2.2.2.2.2.2.2.2.2.2.2)) κ hp_i16<|bI h λr17 hr h=>b8 (zr hr)<|aa 1<|ak<|aA<|aa 8<|bI h λr18 hr h=>bJ (zx hr)<|aa 6<|ak<|ah<|aa 8<|af<|aR<|ag<|ah<|aX [] [1,2,3,6,11,12,195] 3<|cn (λb=>(sp 204 (K25 p1 p2 y4 y4 [(11,QT y4 r18 r17),(12,rk y4),(195,vB b)]) r17.2)) h (λh=>aX [] [1,2,3,6,11,12,195,197,199] 4<|bI h λi19 hp_i19 h=>bH y4.2.2.2.2.2.2.2.2.2.1 (λp=>(sp 204 (K25 p1 p2 y4 y4 [(11,QT y4 r18 r17),(12,rk y4),(195,vB true),(197,.d (cP.enc p)),(199,SQ r18)]) r17.2)) κ hp_i19<|bI h λr20 hr h=>b8 (mO hr)<|aa 3<|af<|aR<|ag<|ah<|aa 3<|af<|LQ h) λh=>aa 8<|af<|aR<|ag<|ah<|aa 3<|af<|LQ h) (λh=>ar 1<|aT h (λh=>ar 1<|aA<|aX [] [1,2,3,6,11,12,13,25,186] 2<|bI h λi21 hp_i21 h=>bH y4.2.2.2.2.2.2.2.2.2.1 (λp=>(sp 204 (K1 p1 p2 y4 y4 y4 y4 [(13,Mz x5),(25,.d (cP.enc p)),(186,.d (cP.enc p))]) y4.2.2.2.2.2.2.2.2.2.2.2.2.2.2.2.2.2.2.2)) κ hp_i21<|bI h λr22 hr h=>b8 (As hr)<|aX [] [1,2,3,6,11,12,13,25,187,188] 1<|th [1,2,3,6,11,12,13,25] 1 r22.1 (λp=>(sp 204 (K1 p1 p2 y4 y4 y4 y4 [(13,Mz x5),(25,.d (.ptr i21 0)),(187,.d (cP.enc p)),(188,.loc 11 0)]) r22.2)) (λp=>(sp 204 (K25 p1 p2 y4 y4 [(11,.box [.d (cP.enc p),.d (.list 1 (List.map (D.int .i64) y4.2.2.2.2.2.2.2.2.2.2.1)),.d (.list 1 (List.map D.bool y4.2.2.2.2.2.2.2.2.2.2.2.1)),vI y4.2.2.2.2.2.2.2.2.2.2.2.2.1,vI y4.2.2.2.2.2.2.2.2.2.2.2.2.2.1,.d (.list 3 (List.map ab y4.2.2.2.2.2.2.2.2.2.2.2.2.2.2.1)),vI y4.2.2.2.2.2.2.2.2.2.2.2.2.2.2.2.1,vB y4.2.2.2.2.2.2.2.2.2.2.2.2.2.2.2.2.1,vB y4.2.2.2.2.2.2.2.2.2.2.2.2.2.2.2.2.2.1]),(12,rk y4),(13,Mz x5),(25,.d (.ptr i21 0))]) r22.2)) κ κ (λ_=>by kernel_rfl)<|ak<|ah<|aa 3<|bI h λr23 hr h=>b8 (mA hr)<|af<|aR<|ag<|ah<|aX [] [1,2,3,6,11,12,195] 3<|cn (λb=>(sp 204 (K25 p1 p2 y4 y4 [(11,TY r22 y4),(12,rk y4),(195,vB b)]) r23.2)) h (λh=>aX [] [1,2,3,6,11,12,195,197,199] 4<|bI h λi24 hp_i24 h=>bH r22.1 (λp=>(sp 204 (K25 p1 p2 y4 y4 [(11,TY r22 y4),(12,rk y4),(195,vB true),(197,.d (cP.enc p)),(199,SJ y4)]) r23.2)) κ hp_i24<|bI h λr25 hr h=>b8 (mO hr)<|aa 3<|af<|aR<|ag<|ah<|aa 3<|af<|LQ h) λh=>aa 8<|af<|aR<|ag<|ah<|aa 3<|af<|LQ h) (λh=>sY 204 [1,2,3,6,11,12,26,27,28] (λ(j26:(Option Nat)×Int×Int×Hp)=>(K30 p1 p2 y4 y4 y4 y4 j26.1 [(27,vI j26.2.1),(28,vI j26.2.2.1)])) (λ(j26:(Option Nat)×Int×Int×Hp)=>j26.2.2.2) h (λj26 h=>aA<|aX [] [1,2,3,6,11,12,26,27,84] 3<|dO 204 j26.2.2.2 [1,2,3,6,11,12,26,87] 3 (j26.2.2.1==0) (λb=>(sp 204 (K30 p1 p2 y4 y4 y4 y4 j26.1 [(27,vI j26.2.1),(84,vB b)]) j26.2.2.2)) (λb=>(K30 p1 p2 y4 y4 y4 y4 j26.1 [(87,vB (b&&(j26.2.1==(-1))))])) κ κ κ<|aa 2<|ak<|ar 1<|aT h (λh=>ah<|aX [] [1,2,3,6,11,12,91,92] 2<|th [1,2,3,6,11,12] 1 j26.1 (λp=>(sp 204 (K25 p1 p2 y4 y4 [(11,SG y4 j26),(12,rk y4),(91,.d (cP.enc p)),(92,.loc 11 0)]) j26.2.2.2)) (λp=>(sp 204 (K25 p1 p2 y4 y4 [(11,.box [.d (cP.enc p),.d (.list 1 (List.map (D.int .i64) y4.2.2.2.2.2.2.2.2.2.2.1)),.d (.list 1 (List.map D.bool y4.2.2.2.2.2.2.2.2.2.2.2.1)),vI y4.2.2.2.2.2.2.2.2.2.2.2.2.1,vI y4.2.2.2.2.2.2.2.2.2.2.2.2.2.1,.d (.list 3 (List.map ab y4.2.2.2.2.2.2.2.2.2.2.2.2.2.2.1)),vI y4.2.2.2.2.2.2.2.2.2.2.2.2.2.2.2.1,vB ((j26.2.2.1==0)&&(j26.2.1==(-1))),vB y4.2.2.2.2.2.2.2.2.2.2.2.2.2.2.2.2.2.1]),(12,rk y4)]) j26.2.2.2)) κ κ (λ_=>by kernel_rfl)<|af<|aR<|ag<|ah<|aX [] [1,2,3,6,11,12,195] 3<|cn (λb=>(sp 204 (K25 p1 p2 y4 y4 [(11,TX j26 y4),(12,rk y4),(195,vB b)]) j26.2.2.2)) h (λh=>aX [] [1,2,3,6,11,12,195,197,199] 4<|bI h λi33 hp_i33 h=>bH j26.1 (λp=>(sp 204 (K25 p1 p2 y4 y4 [(11,TX j26 y4),(12,rk y4),(195,vB true),(197,.d (cP.enc p)),(199,SJ y4)]) j26.2.2.2)) κ hp_i33<|bI h λr34 hr h=>b8 (mO hr)<|aa 3<|af<|aR<|ag<|ah<|aa 3<|af<|LQ h) λh=>aa 8<|af<|aR<|ag<|ah<|aa 3<|af<|LQ h) (λh=>ao<|aR<|ag<|ah<|aX [] [1,2,3,6,11,12,195] 3<|cn (λb=>(sp 204 (K25 p1 p2 y4 y4 [(11,SG y4 j26),(12,rk y4),(195,vB b)]) j26.2.2.2)) h (λh=>aX [] [1,2,3,6,11,12,195,197,199] 4<|bI h λi35 hp_i35 h=>bH y4.2.2.2.2.2.2.2.2.2.1 (λp=>(sp 204 (K25 p1 p2 y4 y4 [(11,SG y4 j26),(12,rk y4),(195,vB true),(197,.d (cP.enc p)),(199,SJ y4)]) j26.2.2.2)) κ hp_i35<|bI h λr36 hr h=>b8 (mO hr)<|aa 3<|af<|aR<|ag<|ah<|aa 3<|af<|LQ h) λh=>aa 8<|af<|aR<|ag<|ah<|aa 3<|af<|LQ h)) λjp27 h=>bI h λi28 hp_i28 h=>bI h λr29 hr_4 h=>bI h λi30 hp_i30 h=>bI h λr31 hr_7 h=>bI h λr32 hr_8 h=>aI 204 y4.2.2.2.2.2.2.2.2.2.2.2.2.2.2.2.2.2.2.2 (K1 p1 p2 y4 y4 y4 y4 [])<|(by
   refine gW 204 r32.2 (K30 p1 p2 y4 y4 y4 y4 r32.1.1 [(27,vI r32.1.2.1),(28,vI r32.1.2.2)]) [1,2,3] 13 14 κ κ κ (λX hX=>?_) (JQ [] h)
   .have c65535:X 0 65535 (sp 204 (K30 p1 p2 y4 y4 y4 y4 r32.1.1 [(27,vI r32.1.2.1),(28,vI r32.1.2.2)]) r32.2):=by subst hX;exact pA κ
    have c32767:X 1 32767 (sp 204 (K30 p1 p2 y4 y4 y4 y4 r32.1.1 [(27,vI r32.1.2.1),(81,vI r32.1.2.2)]) r32.2):=by subst hX;exact aV 15 [] ⟨bm 204 r32.2 [] [1,2,3,6,11,12,26,27,28] 1 (K30 p1 p2 y4 y4 y4 y4 r32.1.1 [(27,vI r32.1.2.1),(28,vI r32.1.2.2)]) κ<|af c65535,trivial⟩
    have c16383:X 2 16383 (sp 204 (K30 p1 p2 y4 y4 y4 y4 r32.1.1 [(80,vI r32.1.2.1),(81,vI r32.1.2.2)]) r32.2):=by subst hX;exact aV 14 [] ⟨bm 204 r32.2 [] [1,2,3,6,11,12,26,27,81] 1 (K30 p1 p2 y4 y4 y4 y4 r32.1.1 [(27,vI r32.1.2.1),(81,vI r32.1.2.2)]) κ<|af c32767,trivial⟩
    have c8191:X 3 8191 (sp 204 (K1 p1 p2 y4 y4 y4 y4 [(79,.d (cP.enc r32.1.1)),(80,vI r32.1.2.1),(81,vI r32.1.2.2)]) r32.2):=by subst hX;exact aV 13 [] ⟨bm 204 r32.2 [] [1,2,3,6,11,12,26,80,81] 1 (K30 p1 p2 y4 y4 y4 y4 r32.1.1 [(80,vI r32.1.2.1),(81,vI r32.1.2.2)]) κ<|af c16383,trivial⟩
    have c28671:X 2 28671 (sp 204 (K30 p1 p2 y4 y4 y4 y4 r32.1.1 [(27,vI r32.1.2.1),(69,ey r32)]) r32.2):=by subst hX;exact aV 12 [] ⟨bm 204 r32.2 [] [1,2,3,6,11,12,26,27,81] 1 (K30 p1 p2 y4 y4 y4 y4 r32.1.1 [(27,vI r32.1.2.1),(81,vI r32.1.2.2)]) κ<|af c32767,trivial⟩
    have c12287:X 3 12287 (sp 204 (K30 p1 p2 y4 y4 y4 y4 r32.1.1 [(69,ey r32),(80,vI r32.1.2.1)]) r32.2):=by subst hX;exact aV 12 [14] ⟨aK 1 (K30 p1 p2 y4 y4 y4 y4 r32.1.1 [(80,vI r32.1.2.1),(81,vI r32.1.2.2)])<|af c16383,aK 1 (K30 p1 p2 y4 y4 y4 y4 r32.1.1 [(27,vI r32.1.2.1),(69,ey r32)])<|af c28671,trivial⟩
    have c4095:X 4 4095 (sp 204 (K58 p1 p2 y4 y4 y4 y4 r32 r32.1.1 [(80,vI r32.1.2.1)]) r32.2):=by subst hX;exact aV 12 [13] ⟨aK 1 (K1 p1 p2 y4 y4 y4 y4 [(79,.d (cP.enc r32.1.1)),(80,vI r32.1.2.1),(81,vI r32.1.2.2)])<|af c8191,aK 1 (K30 p1 p2 y4 y4 y4 y4 r32.1.1 [(69,ey r32),(80,vI r32.1.2.1)])<|af c12287,trivial⟩
    have c14335:X 3 14335 (sp 204 (K30 p1 p2 y4 y4 y4 y4 r32.1.1 [(69,ey r32),(81,vI r32.1.2.2)]) r32.2):=by subst hX;exact aV 11 [] ⟨bm 204 r32.2 [] [1,2,3,6,11,12,26,80,81] 1 (K30 p1 p2 y4 y4 y4 y4 r32.1.1 [(80,vI r32.1.2.1),(81,vI r32.1.2.2)]) κ<|af c16383,trivial⟩
    have c6143:X 4 6143 (sp 204 (K58 p1 p2 y4 y4 y4 y4 r32 r32.1.1 [(81,vI r32.1.2.2)]) r32.2):=by subst hX;exact aV 11 [13] ⟨aK 1 (K1 p1 p2 y4 y4 y4 y4 [(79,.d (cP.enc r32.1.1)),(80,vI r32.1.2.1),(81,vI r32.1.2.2)])<|af c8191,aK 1 (K30 p1 p2 y4 y4 y4 y4 r32.1.1 [(69,ey r32),(81,vI r32.1.2.2)])<|af c14335,trivial⟩
    have c10239:X 4 10239 (sp 204 (K30 p1 p2 y4 y4 y4 y4 r32.1.1 [(69,ey r32)]) r32.2):=by subst hX;exact aV 11 [12] ⟨aK 1 (K30 p1 p2 y4 y4 y4 y4 r32.1.1 [(69,ey r32),(80,vI r32.1.2.1)])<|af c12287,aK 1 (K30 p1 p2 y4 y4 y4 y4 r32.1.1 [(69,ey r32),(81,vI r32.1.2.2)])<|af c14335,trivial⟩
    have c2047:X 5 2047 (sp 204 (K58 p1 p2 y4 y4 y4 y4 r32 r32.1.1 []) r32.2):=by subst hX;exact aV 11 [12,13] ⟨aK 1 (K58 p1 p2 y4 y4 y4 y4 r32 r32.1.1 [(80,vI r32.1.2.1)])<|af c4095,aK 1 (K58 p1 p2 y4 y4 y4 y4 r32 r32.1.1 [(81,vI r32.1.2.2)])<|af c6143,aK 1 (K30 p1 p2 y4 y4 y4 y4 r32.1.1 [(69,ey r32)])<|af c10239,trivial⟩
    have c7167:X 4 7167 (sp 204 (K1 p1 p2 y4 y4 y4 y4 [(69,ey r32),(80,vI r32.1.2.1),(81,vI r32.1.2.2)]) r32.2):=by subst hX;exact aV 10 [] ⟨bm 204 r32.2 [] [1,2,3,6,11,12,79,80,81] 1 (K1 p1 p2 y4 y4 y4 y4 [(79,.d (cP.enc r32.1.1)),(80,vI r32.1.2.1),(81,vI r32.1.2.2)]) κ<|af c8191,trivial⟩
    have c3071:X 5 3071 (sp 204 (K1 p1 p2 y4 y4 y4 y4 [(69,ey r32),(80,vI r32.1.2.1)]) r32.2):=by subst hX;exact aV 10 [12] ⟨aK 1 (K58 p1 p2 y4 y4 y4 y4 r32 r32.1.1 [(80,vI r32.1.2.1)])<|af c4095,aK 1 (K1 p1 p2 y4 y4 y4 y4 [(69,ey r32),(80,vI r32.1.2.1),(81,vI r32.1.2.2)])<|af c7167,trivial⟩
    have c5119:X 5 5119 (sp 204 (K1 p1 p2 y4 y4 y4 y4 [(69,ey r32),(81,vI r32.1.2.2)]) r32.2):=by subst hX;exact aV 10 [11] ⟨aK 1 (K58 p1 p2 y4 y4 y4 y4 r32 r32.1.1 [(81,vI r32.1.2.2)])<|af c6143,aK 1 (K1 p1 p2 y4 y4 y4 y4 [(69,ey r32),(80,vI r32.1.2.1),(81,vI r32.1.2.2)])<|af c7167,trivial⟩
    have c1023:X 6 1023 (sp 204 (K1 p1 p2 y4 y4 y4 y4 [(69,ey r32)]) r32.2):=by subst hX;exact aV 10 [11,12] ⟨aK 1 (K58 p1 p2 y4 y4 y4 y4 r32 r32.1.1 [])<|af c2047,aK 1 (K1 p1 p2 y4 y4 y4 y4 [(69,ey r32),(80,vI r32.1.2.1)])<|af c3071,aK 1 (K1 p1 p2 y4 y4 y4 y4 [(69,ey r32),(81,vI r32.1.2.2)])<|af c5119,trivial⟩
    have c511:X 7 511 (sp 204 (K1 p1 p2 y4 y4 y4 y4 [(78,ey r32)]) r32.2):=by subst hX;exact aV 9 [] ⟨bm 204 r32.2 [] [1,2,3,6,11,12,69] 1 (K1 p1 p2 y4 y4 y4 y4 [(69,ey r32)]) κ<|af c1023,trivial⟩
    have c255:X 8 255 (sp 204 (K26 p1 p2 y4 y4 y4 y4 y4 p1 [(74,vI r29),(77,jJ r31)]) r31.2):=by subst hX;exact aV 8 [] ⟨tY 204 (K1 p1 p2 y4 y4 y4 y4 [(78,.iQ [.d (cP.enc r32.1.1),vI r32.1.2.1,vI r32.1.2.2])]) (tD hr_8)<|af c511,trivial⟩
    have c127:X 9 127 (sp 204 (K26 p1 p2 y4 y4 y4 y4 y4 p1 [(74,vI r29),(76,mh y4)]) y4.2.2.2.2.2.2.2.2.2.2.2.2.2.2.2.2.2.2.2):=by subst hX;exact aV 7 [] ⟨bH y4.2.2.2.2.2.2.2.2.2.1 (λp=>(sp 204 (K26 p1 p2 y4 y4 y4 y4 y4 p1 [(74,vI r29),(76,.d (cP.enc p))]) y4.2.2.2.2.2.2.2.2.2.2.2.2.2.2.2.2.2.2.2)) κ hp_i30<|j6 (some 77) (K26 p1 p2 y4 y4 y4 y4 y4 p1 [(74,vI r29),(77,.d (.list 3 (List.map cj r31.1)))]) (du hr_7)<|af c255,trivial⟩
    have c63:X 10 63 (sp 204 (K26 p1 p2 y4 y4 y4 y4 y4 p1 [(74,vI r29),(75,.loc 11 0)]) y4.2.2.2.2.2.2.2.2.2.2.2.2.2.2.2.2.2.2.2):=by subst hX;exact aV 6 [] ⟨bm 204 y4.2.2.2.2.2.2.2.2.2.2.2.2.2.2.2.2.2.2.2 [] [1,2,3,6,11,12,70,71,74,76] 1 (K26 p1 p2 y4 y4 y4 y4 y4 p1 [(74,vI r29),(76,mh y4)]) κ<|af c127,trivial⟩
    have c31:X 11 31 (sp 204 (K26 p1 p2 y4 y4 y4 y4 y4 p1 [(74,vI r29)]) y4.2.2.2.2.2.2.2.2.2.2.2.2.2.2.2.2.2.2.2):=by subst hX;exact aV 5 [] ⟨bm 204 y4.2.2.2.2.2.2.2.2.2.2.2.2.2.2.2.2.2.2.2 [] [1,2,3,6,11,12,70,71,74,75] 1 (K26 p1 p2 y4 y4 y4 y4 y4 p1 [(74,vI r29),(75,.loc 11 0)]) κ<|af c63,trivial⟩
    have c111:X 10 111 (sp 204 (K26 p1 p2 y4 y4 y4 y4 y4 p1 [(73,mh y4),(76,mh y4)]) y4.2.2.2.2.2.2.2.2.2.2.2.2.2.2.2.2.2.2.2):=by subst hX;exact aV 4 [] ⟨bH y4.2.2.2.2.2.2.2.2.2.1 (λp=>(sp 204 (K26 p1 p2 y4 y4 y4 y4 y4 p1 [(73,.d (cP.enc p)),(76,mh y4)]) y4.2.2.2.2.2.2.2.2.2.2.2.2.2.2.2.2.2.2.2)) κ hp_i28<|gd (ls:=[]) (some 74) (K26 p1 p2 y4 y4 y4 y4 y4 p1 [(74,vI r29),(76,mh y4)]) (dv hr_4)<|af c127,trivial⟩
    have c47:X 11 47 (sp 204 (K26 p1 p2 y4 y4 y4 y4 y4 p1 [(73,mh y4),(75,.loc 11 0)]) y4.2.2.2.2.2.2.2.2.2.2.2.2.2.2.2.2.2.2.2):=by subst hX;exact aV 4 [6] ⟨bH y4.2.2.2.2.2.2.2.2.2.1 (λp=>(sp 204 (K26 p1 p2 y4 y4 y4 y4 y4 p1 [(73,.d (cP.enc p)),(75,.loc 11 0)]) y4.2.2.2.2.2.2.2.2.2.2.2.2.2.2.2.2.2.2.2)) κ hp_i28<|gd (ls:=[]) (some 74) (K26 p1 p2 y4 y4 y4 y4 y4 p1 [(74,vI r29),(75,.loc 11 0)]) (dv hr_4)<|af c63,aK 1 (K26 p1 p2 y4 y4 y4 y4 y4 p1 [(73,mh y4),(76,mh y4)])<|af c111,trivial⟩
    have c15:X 12 15 (sp 204 (K26 p1 p2 y4 y4 y4 y4 y4 p1 [(73,mh y4)]) y4.2.2.2.2.2.2.2.2.2.2.2.2.2.2.2.2.2.2.2):=by subst hX;exact aV 4 [5] ⟨bH y4.2.2.2.2.2.2.2.2.2.1 (λp=>(sp 204 (K26 p1 p2 y4 y4 y4 y4 y4 p1 [(73,.d (cP.enc p))]) y4.2.2.2.2.2.2.2.2.2.2.2.2.2.2.2.2.2.2.2)) κ hp_i28<|gd (ls:=[]) (some 74) (K26 p1 p2 y4 y4 y4 y4 y4 p1 [(74,vI r29)]) (dv hr_4)<|af c31,aK 1 (K26 p1 p2 y4 y4 y4 y4 y4 p1 [(73,mh y4),(75,.loc 11 0)])<|af c47,trivial⟩
    have c254:X 9 254 (sp 204 (K1 p1 p2 y4 y4 y4 y4 [(71,vI p1),(74,vI r29),(77,jJ r31)]) r31.2):=by subst hX;exact aV 0 [] ⟨bm 204 r31.2 [] [1,2,3,6,11,12,70,71,74,77] 1 (K26 p1 p2 y4 y4 y4 y4 y4 p1 [(74,vI r29),(77,jJ r31)]) κ<|af c255,trivial⟩
    have c126:X 10 126 (sp 204 (K1 p1 p2 y4 y4 y4 y4 [(71,vI p1),(74,vI r29),(76,mh y4)]) y4.2.2.2.2.2.2.2.2.2.2.2.2.2.2.2.2.2.2.2):=by subst hX;exact aV 0 [7] ⟨aK 1 (K26 p1 p2 y4 y4 y4 y4 y4 p1 [(74,vI r29),(76,mh y4)])<|af c127,bH y4.2.2.2.2.2.2.2.2.2.1 (λp=>(sp 204 (K1 p1 p2 y4 y4 y4 y4 [(71,vI p1),(74,vI r29),(76,.d (cP.enc p))]) y4.2.2.2.2.2.2.2.2.2.2.2.2.2.2.2.2.2.2.2)) κ hp_i30<|j6 (some 77) (K1 p1 p2 y4 y4 y4 y4 [(71,vI p1),(74,vI r29),(77,jJ r31)]) (du hr_7)<|af c254,trivial⟩
    have c62:X 11 62 (sp 204 (K1 p1 p2 y4 y4 y4 y4 [(71,vI p1),(74,vI r29),(75,.loc 11 0)]) y4.2.2.2.2.2.2.2.2.2.2.2.2.2.2.2.2.2.2.2):=by subst hX;exact aV 0 [6] ⟨aK 1 (K26 p1 p2 y4 y4 y4 y4 y4 p1 [(74,vI r29),(75,.loc 11 0)])<|af c63,aK 1 (K1 p1 p2 y4 y4 y4 y4 [(71,vI p1),(74,vI r29),(76,mh y4)])<|af c126,trivial⟩
    have c30:X 12 30 (sp 204 (K1 p1 p2 y4 y4 y4 y4 [(71,vI p1),(74,vI r29)]) y4.2.2.2.2.2.2.2.2.2.2.2.2.2.2.2.2.2.2.2):=by subst hX;exact aV 0 [5] ⟨aK 1 (K26 p1 p2 y4 y4 y4 y4 y4 p1 [(74,vI r29)])<|af c31,aK 1 (K1 p1 p2 y4 y4 y4 y4 [(71,vI p1),(74,vI r29),(75,.loc 11 0)])<|af c62,trivial⟩
    have c110:X 11 110 (sp 204 (K1 p1 p2 y4 y4 y4 y4 [(71,vI p1),(73,mh y4),(76,mh y4)]) y4.2.2.2.2.2.2.2.2.2.2.2.2.2.2.2.2.2.2.2):=by subst hX;exact aV 0 [4] ⟨aK 1 (K26 p1 p2 y4 y4 y4 y4 y4 p1 [(73,mh y4),(76,mh y4)])<|af c111,bH y4.2.2.2.2.2.2.2.2.2.1 (λp=>(sp 204 (K1 p1 p2 y4 y4 y4 y4 [(71,vI p1),(73,.d (cP.enc p)),(76,mh y4)]) y4.2.2.2.2.2.2.2.2.2.2.2.2.2.2.2.2.2.2.2)) κ hp_i28<|gd (ls:=[]) (some 74) (K1 p1 p2 y4 y4 y4 y4 [(71,vI p1),(74,vI r29),(76,mh y4)]) (dv hr_4)<|af c126,trivial⟩
    have c46:X 12 46 (sp 204 (K1 p1 p2 y4 y4 y4 y4 [(71,vI p1),(73,mh y4),(75,.loc 11 0)]) y4.2.2.2.2.2.2.2.2.2.2.2.2.2.2.2.2.2.2.2):=by subst hX;exact aV 0 [4,6] ⟨aK 1 (K26 p1 p2 y4 y4 y4 y4 y4 p1 [(73,mh y4),(75,.loc 11 0)])<|af c47,bH y4.2.2.2.2.2.2.2.2.2.1 (λp=>(sp 204 (K1 p1 p2 y4 y4 y4 y4 [(71,vI p1),(73,.d (cP.enc p)),(75,.loc 11 0)]) y4.2.2.2.2.2.2.2.2.2.2.2.2.2.2.2.2.2.2.2)) κ hp_i28<|gd (ls:=[]) (some 74) (K1 p1 p2 y4 y4 y4 y4 [(71,vI p1),(74,vI r29),(75,.loc 11 0)]) (dv hr_4)<|af c62,aK 1 (K1 p1 p2 y4 y4 y4 y4 [(71,vI p1),(73,mh y4),(76,mh y4)])<|af c110,trivial⟩
    have c14:X 13 14 (sp 204 (K1 p1 p2 y4 y4 y4 y4 [(71,vI p1),(73,mh y4)]) y4.2.2.2.2.2.2.2.2.2.2.2.2.2.2.2.2.2.2.2):=by subst hX;exact aV 0 [4,5] ⟨aK 1 (K26 p1 p2 y4 y4 y4 y4 y4 p1 [(73,mh y4)])<|af c15,bH y4.2.2.2.2.2.2.2.2.2.1 (λp=>(sp 204 (K1 p1 p2 y4 y4 y4 y4 [(71,vI p1),(73,.d (cP.enc p))]) y4.2.2.2.2.2.2.2.2.2.2.2.2.2.2.2.2.2.2.2)) κ hp_i28<|gd (ls:=[]) (some 74) (K1 p1 p2 y4 y4 y4 y4 [(71,vI p1),(74,vI r29)]) (dv hr_4)<|af c30,aK 1 (K1 p1 p2 y4 y4 y4 y4 [(71,vI p1),(73,mh y4),(75,.loc 11 0)])<|af c46,trivial⟩
    refine aB<|aB<|dp 204 y4.2.2.2.2.2.2.2.2.2.2.2.2.2.2.2.2.2.2.2 [1,2,3,6,11,12,71,73] (K1 p1 p2 y4 y4 y4 y4 [(71,vI p1),(73,mh y4)]) κ<|dX ?_
    exact c14)))))) (λh=>B1 [(6,Mt y4),(11,O8 y4)]<|bT<|ba<|ba<|LR h ⟨rfl,rfl⟩)) (by rintro _ _ ⟨rfl,rfl⟩;exact bw<|ag<|ar 1<|al<|iI h▸E0)
def vH(fuel:Nat)(p0:az)(p1:Int)(p2:Int)(p3:(List Node)):Option (Int×Int):=
 (mC fuel p0 p1 p2 p3 []).bind λr1=>
 some (r1.1.2.1,r1.1.2.2)
def cO(x0:((S0)×Hp)):SV:=.box [.d (cP.enc x0.1.t),.d (.list 1 (List.map (D.int .i64) x0.1.r.S.aG)),.d (.list 1 (List.map D.bool x0.1.r.S.Down)),vI x0.1.r.S.eD,vI x0.1.r.Order,.d (.list 3 (List.map ab x0.1.r.fk)),vI x0.1.r.gK,vB x0.1.same,vB x0.1.ok]
theorem II(h:vH fuel p0 p1 p2 p3=some r):PC Tryz.prog 12 [.d (cD p0),vI p1,vI p2,.d (.list 3 (List.map cj p3))] (.iQ [vI r.1,vI r.2]):=by
 exact mb Tryz.func12 rfl (by simp[gP,fH,fS,vI,vB,vS,pL,gp (f:=cj) BG]) (by simp[gP,fH,fS,vI,vB,vS])<|(by unfold vH at h;exact aI 21 [] [(0,Z2 p0),(1,vI p1),(2,vI p2),(3,uo p3)]<|ar 1<|aA<|aa 4<|bI h λr1 hr h=>b8 (tD hr)<|aa 6<|ak<|ar 1<|al<|iI h▸EL)
end
theorem Mh(x:Act):fH (ld x)=true:=by simp[ld,fH,fS,gp (f:=ay) sJ,gp (f:=ay) sJ]
theorem Ij{P:Program}{ops:Array Oper}{k i:Nat}{st:St}{Q:St->Prop}(p:Option Nat)(S:Option Nat->St)(h0:st=S p)(hp:p=some i)(h:jj P ops k (S (some i)) Q):jj P ops k st Q:=by
 subst h0
 rw[hp]
 exact h
def Rt(ops:Array Oper)(k:Nat)(st:St):Option (Option Tmp×SV):=
 match fR ops k st with
 |some o=>match o.op with
  |.move (.tmp s)=>match st.tmps[s]? with
   |some (.iQ vs)=>if vs.all (λ|.d _=>true|_=>false)then some (o.dst,.iQ vs)else none
   |_=>none
  |_=>none
 |none=>none
theorem Iv(h:Rt ops k st=some (d,s)):pP P ops k st d s:=by
 unfold Rt at h
 split at h
 .rename_i o ho
  split at h
  .rename_i t hop
   split at h
   .rename_i vs hs
    split at h
    .rename_i hv
     simp only[g_2,g_8]at h
     obtain⟨rfl,rfl⟩:=h
     obtain⟨h1,h2⟩:=bo ho
     refine⟨o,h1,h2,λa w g hr=>?_,rfl,rfl⟩
     obtain⟨us,e1,e2,e3⟩:=hr.tmp t _ hs
     refine⟨valOf a t,dP ⟨us,e1,e2,λj s' hj=>?_⟩,λw' _=>by unfold execOp;rw[hop];rfl⟩
     obtain⟨u,f1,f2⟩:=e3 j s' hj
     have:=h_4.1 hv s' (k_2 hj)
     cases s' with
     |d x=>exact⟨u,x,f1,rfl,f2⟩
     |_=>exact absurd this ψ
    .cases h
   .cases h
  .cases h
 .cases h
def vU(n:Int):SV:=.d (.int .u64 n)
def rJ(a n:Int):Int:=IntKind.wrap .i64 (Int.tmod (IntKind.wrap .u64 a) (IntKind.wrap .u64 n))
def Ml(l:List Node)(i:Int)(x:Node)(k fd b:Int):Option (Option (List Node)):=
 bif (Int.tmod (IntKind.wrap .u64 fd) 4==0)then some (some (l.set i.toNat {x with Level:=IntKind.wrap .i64 (x.Level+b)}))
 else bif (Int.tmod (IntKind.wrap .u64 fd) 4==1)then
  bif ((x.Kids.length:Int)==0)then some none else(idx x.Kids k).bind λy=>some (some (l.set i.toNat {x with Kids:=x.Kids.set k.toNat (IntKind.wrap .i64 (y+b))}))
 else bif (Int.tmod (IntKind.wrap .u64 fd) 4==2)then
  bif ((x.Entries.length:Int)==0)then some none else(idx x.Entries k).bind λe=>some (some (l.set i.toNat {x with Entries:=x.Entries.set k.toNat {e with Number:=IntKind.wrap .i64 (e.Number+b)}}))
 else bif ((x.Entries.length:Int)==0)then some none else(idx x.Entries k).bind λe=>some (some (l.set i.toNat {x with Entries:=x.Entries.set k.toNat {e with Key:=IntKind.wrap .i64 (e.Key+b)}}))
def QI(l:List Node)(at_ pl fd b:Int):Option (Option (List Node)):=
 ff (decide (IntKind.wrap .u64 (l.length:Int)≠0))<|
 (idx l (rJ at_ (l.length:Int))).bind λx=>
 bif decide ((x.Entries.length:Int)>0)then
  ff (decide (IntKind.wrap .u64 (x.Entries.length:Int)≠0))<|
  Ml l (rJ at_ (l.length:Int)) x (rJ pl (x.Entries.length:Int)) fd b
 else Ml l (rJ at_ (l.length:Int)) x 0 fd b
structure uu(oi di:Nat)(v:Go.Value)(us es:List Go.Value)(s:LS)(l:List Node):Prop where
 hl:us.length=l.length
 he:es.length=l.length
 m:s[0]? =some (.au oi 0,v,3,bA l us es)
 k: ∀(p:Nat) (x:Node) (u:Go.Value),l[p]? =some x->us[p]? =some u->s[p+1]? =some (.au oi (p+1),u,1,x.Kids.map (D.int .i64))
 e: ∀(p:Nat) (x:Node) (e:Go.Value),l[p]? =some x->es[p]? =some e->s[l.length+p+1]? =some (.au di (p+1),e,3,x.Entries.map ab)
 h: ∀(p:Nat) (o:Loc) (u:Go.Value) (n:Nat) (xs:List D),s[p]? =some (o,u,n,xs)-> ∀i j,o=.au i j->i=oi\/i=di
 nd:(s.map (·.1)).Nodup
section
variable {oi di:Nat} {v:Go.Value} {l:List Node} {us es:List Go.Value} {s:LS} {i:Nat} {x x':Node} {u e:Go.Value}
theorem MX(hne:di≠oi)(hl:us.length=l.length)(he:es.length=l.length):uu oi di v us es (kK oi di v l us es) l:=
 ⟨hl,he,Ln,λ_ _ _=>PF,λ_ _ _=>PH,λq o u n xs hq i j ho=>by
  subst ho
  rcases JZ hq hl he with⟨-,e⟩|⟨p,x,u',-,-,-,e⟩|⟨p,x,u',-,-,-,e⟩<;>cases e<;>simp,PB hne⟩
theorem Tb(h: ∀(p:Nat) (o:Loc) (u:Go.Value) (n:Nat) (xs:List D),s[p]? =some (o,u,n,xs)-> ∀i j,o=.au i j->i=oi\/i=di)(hq:s[q]? =some (o,u,n,xs)):
  ∀(p:Nat) (o1:Loc) (u1:Go.Value) (n1:Nat) (Te:List D),(s.set q (o,u,n,ys))[p]? =some (o1,u1,n1,Te)-> ∀i j,o1=.au i j->i=oi\/i=di:=λp o1 u1 n1 Te hp=>by
 by_cases e:q=p
 .subst e
  rw[g_0 (aU hq)]at hp
  cases hp
  exact h _ _ _ _ _ hq
 .rw[g_1 e]at hp
  exact h _ _ _ _ _ hp
theorem PD(h:(s.map (·.1)).Nodup)(hq:s[q]? =some (o,u,n,xs)):((s.set q (o,u,n,ys)).map (·.1)).Nodup:=by
 rw[List.map_set]
 have:(s.map (·.1))[q]? =some o:=by rw[h_1,hq];rfl
 obtain⟨h1,h2⟩:=g_5.1 this
 rw[show(s.map (·.1)).set q o=s.map (·.1)by rw[<-h2];exact List.set_getElem_self _]
 exact h
theorem CT(h:l[i]? =some x)(hE:lM x' e u=lM x e u)(hu:us[i]? =some u)(he:es[i]? =some e):bA (l.set i x') us es=bA l us es:=by
 have h1:=Ad (l:=l) (us:=us) (es:=es) (i:=i) (x:=x') (u:=u) he
 rw[show us.set i u=us by obtain⟨h1,h2⟩:=g_5.1 hu;rw[<-h2];exact List.set_getElem_self _]at h1
 rw[h1,hE]
 obtain⟨g1,g2⟩:=g_5.1 (vC h hu he)
 rw[<-g2];exact List.set_getElem_self _
theorem uu.FE(L:uu oi di v us es s l)(hx:l[i]? =some x)(hu:us[i]? =some u)(he:es[i]? =some e)(z:Int):
  uu oi di v us es (s.set 0 (.au oi 0,v,3,(bA l us es).set i (IN (lM x e u) 0 (.int .i64 z)))) (l.set i {x with Level:=z}):=by
 have h0:0<s.length:=aU L.m
 have hg: ∀{p:Nat} {y:Node},(l.set i {x with Level:=z})[p]? =some y-> ∃y0,l[p]? =some y0/\y0.Kids=y.Kids/\y0.Entries=y.Entries:=λ{p y} hy=>by
  rw[List.getElem?_set]at hy
  split at hy
  .rename_i h;subst h
   split at hy
   .cases hy;exact⟨x,hx,rfl,rfl⟩
   .cases hy
  .exact⟨y,hy,rfl,rfl⟩
 refine⟨by rw[k_6];exact L.hl,by rw[k_6];exact L.he,?_,λp y w hy hw=>?_,λp y w hy hw=>?_,Tb L.h L.m,PD L.nd L.m⟩
 .rw[g_0 h0]
  have h1:=Ad (l:=l) (us:=us) (es:=es) (i:=i) (x:={x with Level:=z}) (u:=u) he
  rw[show us.set i u=us by obtain⟨h1,h2⟩:=g_5.1 hu;rw[<-h2];exact List.set_getElem_self _]at h1
  rw[h1]
  rfl
 .obtain⟨y0,h1,h2,h3⟩:=hg hy
  rw[g_1 ω,<-h2]
  exact L.k p y0 w h1 hw
 .obtain⟨y0,h1,h2,h3⟩:=hg hy
  rw[g_1 ω,k_6,<-h3]
  exact L.e p y0 w h1 hw
theorem uu.UK(L:uu oi di v us es s l)(hx:l[i]? =some x)(hu:us[i]? =some u)(he:es[i]? =some e)(k:Nat)(y z:Int):
  uu oi di v us es (s.set (i+1) (.au oi (i+1),u,1,(x.Kids.map (D.int .i64)).set k (IN (.int .i64 y) 0 (.int .i64 z)))) (l.set i {x with Kids:=x.Kids.set k z}):=by
 have hs:=L.k i x u hx hu
 have hil:=aU hx
 refine⟨by rw[k_6];exact L.hl,by rw[k_6];exact L.he,?_,λp y' w hy hw=>?_,λp y' w hy hw=>?_,Tb L.h hs,PD L.nd hs⟩
 .rw[g_1 ω,CT (x':={x with Kids:=x.Kids.set k z}) hx rfl hu he]
  exact L.m
 .by_cases e1:i=p
  .subst e1
   rw[g_0 hil]at hy
   cases hy
   rw[hu]at hw
   cases hw
   rw[g_0 (aU hs),List.map_set]
   rfl
  .rw[g_1 e1]at hy
   rw[g_1 ω]
   exact L.k p y' w hy hw
 .rw[g_1 (by rw[k_6];omega),k_6]
  by_cases e1:i=p
  .subst e1
   rw[g_0 hil]at hy
   cases hy
   exact L.e i x w hx hw
  .rw[g_1 e1]at hy
   exact L.e p y' w hy hw
theorem uu.Vr(L:uu oi di v us es s l)(hx:l[i]? =some x)(hu:us[i]? =some u)(he:es[i]? =some e)(k:Nat)(ys:List Entry)(ds:List D)(hd:ds=ys.map ab):
  uu oi di v us es (s.set (l.length+i+1) (.au di (i+1),e,3,ds)) (l.set i {x with Entries:=ys}):=by
 have hs:=L.e i x e hx he
 have hil:=aU hx
 subst hd
 refine⟨by rw[k_6];exact L.hl,by rw[k_6];exact L.he,?_,λp y' w hy hw=>?_,λp y' w hy hw=>?_,Tb L.h hs,PD L.nd hs⟩
 .rw[g_1 ω,CT (x':={x with Entries:=ys}) hx rfl hu he]
  exact L.m
 .have hp:p<us.length:=aU hw
  have:=L.hl
  rw[g_1 ω]
  by_cases e1:i=p
  .subst e1
   rw[g_0 hil]at hy
   cases hy
   exact L.k i x w hx hw
  .rw[g_1 e1]at hy
   exact L.k p y' w hy hw
 .rw[k_6]
  by_cases e1:i=p
  .subst e1
   rw[g_0 hil]at hy
   cases hy
   rw[he]at hw
   cases hw
   rw[g_0 (aU hs)]
  .rw[g_1 e1]at hy
   rw[g_1 ω]
   exact L.e p y' w hy hw
theorem uu.UH(L:uu oi di v us es s l){st:St}{P:Program}{c:Code}{Q:LS->Exit->St->Prop}(t:Nat)(h1:st.H[oi]? =some .hole)(h2:st.H[di]? =some .hole)(h:rq P CZ RZ [] c (st.set t (.d (.list 3 (l.map cj)))) Q)(ht:st.tmps[t]? =some (.d (.raw v)):=by kernel_rfl)
  (hn:st.tmps.all er=true:=by kernel_rfl):rq P CZ RZ s c st Q:=
 MG t ht (λp o u n xs hp i j ho=>by rcases L.h p o u n xs hp i j ho with rfl|rfl<;>assumption) hn (λg w ha=>DW L.hl L.he (ha _ _ _ _ _ L.m) (λp x u hx hu=>ha _ _ _ _ _ (L.k p x u hx hu)) (λp x e hx he=>ha _ _ _ _ _ (L.e p x e hx he))) h
theorem uu.at_(L:uu oi di v us es s l)(hx:l[i]? =some x): ∃u e,us[i]? =some u/\es[i]? =some e/\(bA l us es)[i]? =some (lM x e u):=by
 have h1:i<us.length:=by rw[L.hl];exact aU hx
 have h2:i<es.length:=by rw[L.he];exact aU hx
 exact⟨_,_,g_6 h1,g_6 h2,vC hx (g_6 h1) (g_6 h2)⟩
end
def Zn(l:List Node):SV:=.d (.list 3 (List.map cj l))
def Ms(x0:((S0)×Hp)):SV:=.d (.list 3 (List.map ab x0.1.r.fk))
noncomputable def jE (fuel:Nat) (p0:az) (p1:Int) (r3:S0×Hp) (H8:Hp) (lq:List Node):Option Bool:=
 r3.1.t.bind λi9=>
 (gz fuel i9 H8).bind λr10=>
 (vH fuel p0 p1 r10 lq).bind λr11=>
 r3.1.t.bind λi12=>
 (gz fuel i12 H8).bind λr13=>
 (tJ fuel p0 p1 r13 lq).bind λr14=>
 bif ((r11.1 !=r14.1)||(r11.2 !=r14.2))then
  some false
 else
  bif (r11.2==0)then
   r3.1.t.bind λi15=>
   (gz fuel i15 H8).bind λr16=>
   (mC fuel p0 p1 r16 lq H8).bind λr17=>
   bif (r17.1.2.2 !=0)then
    some false
   else
    r17.1.1.bind λi18=>
    (kR fuel i18 r17.2).bind λr19=>
    (fE fuel r19.1 r3.1.r.fk).bind λr30=>
    bif r30 then
     some false
    else
     (nW fuel).bind λr31=>
     some r31
  else
   (nW fuel).bind λr32=>
   some r32
noncomputable def nX (fuel:Nat) (p0:az) (p1:Int) (p2:(List Act)) (p3:Int) (p4:Int) (p5:Int) (p6:Int):Option (Bool):=
 (Bk fuel p0 p2).bind λr1=>
 bif ((!r1)||(p6==0))then
  (nW fuel).bind λr2=>
  some r2
 else
  (xO fuel p0 p1 p2 []).bind λr3=>
  bif ((!r3.1.same)||(!r3.1.ok))then
   bz (λ(j4:Bool)=>
    some j4) λjp5=>
   bif r3.1.same then
    (nW fuel).bind λr6=>
    jp5 r6
   else
    jp5 false
  else
   r3.1.t.bind λi7=>
   (eM fuel i7 r3.2).bind λr8=>
   bif ((r8.1.length:Int)==0)then
    some false
   else
    (QI r8.1 p3 p4 p5 p6).bind λo=>o.elim ((nW fuel).bind λr9=>some r9) (jE fuel p0 p1 r3 r8.2)
section
attribute [local irreducible] cf jj lh lH SW uS rq OZ OV CR
theorem zD(h:nX fuel p0 p1 p2 p3 p4 p5 p6=some r):PC Tryz.prog 5 [.d (cD p0),vI p1,.d (.list 4 (List.map ld p2)),vI p3,vI p4,vI p5,vI p6] (vB r):=by
 exact mb Tryz.func5 rfl (by simp[gP,fH,fS,vI,vB,vS,pL,gp (f:=ld) Mh]) (by simp[gP,fH,fS,vI,vB,vS])<|(by
  unfold nX at h;exact aI 231 [] [(0,Z2 p0),(1,vI p1),(2,Z0 p2),(3,vI p3),(4,vI p4),(5,vI p5),(6,vI p6)]<|ar 1<|an<|aA<|aa 2<|bI h λr1 hr h=>bJ (Md hr)<|aX [] [1,2,3,4,5,6,7,31] 2<|dO 231 [] [1,2,3,4,5,6,7,34] 3 (!r1) (λb=>(sp 231 [(1,vI p1),(2,Z0 p2),(3,vI p3),(4,vI p4),(5,vI p5),(6,vI p6),(7,Z1 p0),(31,vB b)] [])) (λb=>[(1,vI p1),(2,Z0 p2),(3,vI p3),(4,vI p4),(5,vI p5),(6,vI p6),(7,Z1 p0),(34,vB (b||(p6==0)))]) κ κ κ<|ak<|aT h (λh=>aA<|bI h λr2 hr h=>bJ (kZ hr)<|aa 1<|ak<|al<|aq<|iI h▸EL) (λh=>ao<|ag<|aA<|aa 3<|bI h λr3 hr h=>b8 (Mc hr)<|aa 2<|ak<|an<|aA<|aX [] [1,3,4,5,6,7,15,43] 4<|dO 231 r3.2 [1,3,4,5,6,7,15,47] 4 (!r3.1.same) (λb=>(sp 231 [(1,vI p1),(3,vI p3),(4,vI p4),(5,vI p5),(6,vI p6),(7,Z1 p0),(15,cO r3),(43,vB b)] r3.2)) (λb=>[(1,vI p1),(3,vI p3),(4,vI p4),(5,vI p5),(6,vI p6),(7,Z1 p0),(15,cO r3),(47,vB (b||(!r3.1.ok)))]) κ κ κ<|ak<|aT h (λh=>gr 231 r3.2 [14] (λ(j4:Bool)=>[(14,vB j4)]) h (λj4 h=>al<|aq<|iI h▸EL) λjp5 h=>ah<|aX [] [50] 3<|cn (λb=>(sp 231 [(50,vB b)] r3.2)) h (λh=>bI h λr6 hr h=>bJ (kZ hr)<|aa 2<|af<|JQ [] h) λh=>aa 3<|af<|JQ [] h) (λh=>ao<|ag<|(by
   obtain⟨i7,hp7,h⟩:=bS h
   obtain⟨r8,hr8,h⟩:=bS h
   have hH8:=rY hr8
   have hne:(r3.2++[aN.cells [.own 3 []]]).length≠r3.2.length:=by simp
   have hoi:r8.2[r3.2.length]? =some aN.hole:=by rw[hH8];simp
   have hdi:r8.2[(r3.2++[aN.cells [.own 3 []]]).length]? =some aN.hole:=by rw[hH8];simp
   refine JG<|bQ pR<|oc ?_
   refine ry 231 r3.2 [1,3,4,5,6,7,15] [(1,vI p1),(3,vI p3),(4,vI p4),(5,vI p5),(6,vI p6),(7,Z1 p0),(15,cO r3)] κ<|CR.F pR (aK 1 [(1,vI p1),(3,vI p3),(4,vI p4),(5,vI p5),(6,vI p6),(7,Z1 p0),(15,cO r3),(53,.loc 15 0)]<|af<|CR.F pR (aK 1 [(1,vI p1),(3,vI p3),(4,vI p4),(5,vI p5),(6,vI p6),(7,Z1 p0),(15,cO r3),(54,.d (cP.enc r3.1.t))]<|af ?_))
   rw[hp7]
   refine mV pR κ<|Ib (o':=some 55) (pZ hr8) κ κ λv ls hP=>?_
   obtain⟨us,es,hlen,hle,hls⟩: ∃us es,us.length=r8.1.length/\es.length=r8.1.length/\ls=kK r3.2.length (r3.2++[aN.cells [.own 3 []]]).length v r8.1 us es:=hP
   have hL:uu r3.2.length (r3.2++[aN.cells [.own 3 []]]).length v us es ls r8.1:=hls▸MX hne hlen hle
   clear hls hP
   refine ry 231 r8.2 [1,3,4,5,6,7,15,55] [(1,vI p1),(3,vI p3),(4,vI p4),(5,vI p5),(6,vI p6),(7,Z1 p0),(15,cO r3),(55,.d (.raw v))] κ<|CR.F pR (aK 1 [(1,vI p1),(3,vI p3),(4,vI p4),(5,vI p5),(6,vI p6),(7,Z1 p0),(15,cO r3),(16,.d (.raw v))]<|af<|w9 pR κ<|bX ?_)
   refine bQ pR<|bQ pR<|gJ 3<|OZ.F 1 (bp 1<|cd<|OZ.view 56 hL.m<|OZ.F 2 (bp 2<|cd<|m8<|nc<|bX ?_))
   refine jd 231 r8.2 [1,3,4,5,6,7,15,16,58] [(1,vI p1),(3,vI p3),(4,vI p4),(5,vI p5),(6,vI p6),(7,Z1 p0),(15,cO r3),(16,.d (.raw v)),(58,vB (((bA r8.1 us es).length:Int)==0))] κ ?_
   rw[oF hlen hle]
   refine jZ (v:=((r8.1.length:Int)==0)) κ ?_
   cases hb:((r8.1.length:Int)==0)with
   |true=>
    replace h:=fh hb h
    exact dF pR<|ar 1<|al<|qO<|iI h▸EL
   |false=>
   replace h:=fi hb h
   obtain⟨oq,hdam,h⟩:=bS h
   unfold QI at hdam
   obtain⟨hk0,hdam⟩:=rh hdam
   obtain⟨x,hx,hdam⟩:=bS hdam
   obtain⟨hi0,hxi⟩:=nZ hx
   obtain⟨u,e,hu,he,hxs⟩:=hL.at_ hxi
   refine dF pR<|ao<|bX ?_
   refine bQ pR<|gJ 8<|OZ.F 3 (bp 3<|cd<|OZ.view 61 hL.m<|OZ.F 2 (bp 2<|cd<|OZ.F 1 (bU (s:=vU (Int.tmod (IntKind.wrap .u64 p3) (IntKind.wrap .u64 ((bA r8.1 us es).length:Int)))) (Eg (l:=false) (by rw[oF hlen hle];exact hk0) κ)<|cd<|OZ.F 2 (bp 2<|cd<|m8<|nc<|bX ?_))))
   refine jd 231 r8.2 [1,3,4,5,6,7,15,16,17] [(1,vI p1),(3,vI p3),(4,vI p4),(5,vI p5),(6,vI p6),(7,Z1 p0),(15,cO r3),(16,.d (.raw v)),(17,vI (IntKind.wrap .i64 (Int.tmod (IntKind.wrap .u64 p3) (IntKind.wrap .u64 ((bA r8.1 us es).length:Int)))))] κ ?_
   rw[oF hlen hle]
   refine bQ pR<|dF pR<|ah<|aa 1<|af<|bX ?_
   refine DV (λs' st'=>s'=ls/\ ∃k,Ml r8.1 (rJ p3 (r8.1.length:Int)) x k p5 p6=some oq/\bu 231 [1,3,4,5,6,7,15,16,17,18] st'=some ([(1,vI p1),(3,vI p3),(4,vI p4),(5,vI p5),(6,vI p6),(7,Z1 p0),(15,cO r3),(16,.d (.raw v)),(17,vI (rJ p3 (r8.1.length:Int))),(18,vI k)],r8.2)) ?_ ?_
   .refine bQ pR<|gJ 7<|OZ.F 2 (bp 2<|cd<|OZ.view 66 hL.m<|OZ.F 3 (bU (s:=bb (some (.au r3.2.length 0)) (lM x e u).cells) (fj (n:=3) κ hi0 hxs)<|bp 2<|cd<|OZ.view 70 (hL.e _ _ _ hxi he)<|OZ.F 2 (bp 2<|cd<|m8<|nc<|bX ?_)))
    refine jd 231 r8.2 [1,3,4,5,6,7,15,16,17,18,19] [(1,vI p1),(3,vI p3),(4,vI p4),(5,vI p5),(6,vI p6),(7,Z1 p0),(15,cO r3),(16,.d (.raw v)),(17,vI (rJ p3 (r8.1.length:Int))),(18,vI 0),(19,vI ((List.map ab x.Entries).length:Int))] κ ?_
    rw[k_0]
    refine bQ pR<|dF pR<|ah<|aa 2<|af<|bX<|jZ (v:=decide ((x.Entries.length:Int)>0)) κ ?_
    cases hb2:decide ((x.Entries.length:Int)>0)with
    |true=>
     replace hdam:=fh hb2 hdam
     obtain⟨hk1,hdam⟩:=rh hdam
     exact dF pR<|ah<|aa 4<|ax (s:=vU (Int.tmod (IntKind.wrap .u64 p4) (IntKind.wrap .u64 (x.Entries.length:Int)))) (Eg (l:=false) hk1 κ)<|aa 2<|af<|bX ⟨rfl,_,hdam,κ⟩
    |false=>
     replace hdam:=fi hb2 hdam
     exact dF pR<|ao<|bX ⟨rfl,_,hdam,κ⟩
   .rintro s' st' ⟨rfl,k,hdam,cR⟩
    refine jd 231 _ _ _ cR ?_
    refine DV (λs' st'=> ∃l',uu r3.2.length (r3.2++[aN.cells [.own 3 []]]).length v us es s' l'/\jE fuel p0 p1 r3 r8.2 l'=some r/\bu 231 [1,7,15,16] st'=some ([(1,vI p1),(7,Z1 p0),(15,cO r3),(16,.d (.raw v))],r8.2)) ?_ ?_
    .unfold Ml at hdam
     refine bQ pR<|dF pR<|ah<|aa 3<|af<|bX<|vA ?_
     refine bQ pR<|dF pR<|ah<|aa 2<|af<|bX<|jZ (v:=(Int.tmod (IntKind.wrap .u64 p5) 4==0)) κ ?_
     cases hb3:(Int.tmod (IntKind.wrap .u64 p5) 4==0)with
     |true=>
      replace hdam:=fh hb3 hdam
      cases hdam
      refine gJ 9<|OZ.F 4 (bp 4<|cd<|OZ.view 114 hL.m<|OZ.F 5 (bU (s:=bb (some (.au r3.2.length 0)) (lM x e u).cells) (fj (n:=3) κ hi0 hxs)<|bp 4<|cd<|m8 ?_))
      exact Fz 231 r8.2 [1,7,15,16,112,113,120] [(1,vI p1),(7,Z1 p0),(15,cO r3),(16,.d (.raw v)),(112,.d (.raw v)),(113,vI (rJ p3 (r8.1.length:Int))),(120,vI (IntKind.wrap .i64 (x.Level+p6)))]<|Ab (o':=some 121) κ hL.m hi0 (aU hxs)<|FA (o':=some 122) (m:=(rJ p3 (r8.1.length:Int)).toNat * 3) (fo:=0) κ hL.m (λe=>by rw[e]at hxs;simp at hxs)<|
       Aa (j:=(rJ p3 (r8.1.length:Int)).toNat) (q:=0) κ hL.m hxs (by simp[lM,Go.Sh.D.cells]) hL.nd (λi j ho=>by cases ho;simp only[fw];exact hoi) κ<|nc<|sQ<|bX ⟨_,hL.FE hxi hu he _,h,κ⟩
     |false=>
     replace hdam:=fi hb3 hdam
     refine bQ pR<|dF pR<|ah<|aa 2<|af<|bX<|jZ (v:=(Int.tmod (IntKind.wrap .u64 p5) 4==1)) κ ?_
     cases hb4:(Int.tmod (IntKind.wrap .u64 p5) 4==1)with
     |true=>
      replace hdam:=fh hb4 hdam
      refine bQ pR<|bQ pR<|gJ 7<|OZ.F 2 (bp 2<|cd<|OZ.view 125 hL.m<|OZ.F 3 (bU (s:=bb (some (.au r3.2.length 0)) (lM x e u).cells) (fj (n:=3) κ hi0 hxs)<|bp 2<|cd<|OZ.view 129 (hL.k _ _ _ hxi hu)<|OZ.F 2 (bp 2<|cd<|m8<|nc<|bX ?_)))
      refine jd 231 r8.2 [1,3,4,5,6,7,15,16,17,18,131] [(1,vI p1),(3,vI p3),(4,vI p4),(5,vI p5),(6,vI p6),(7,Z1 p0),(15,cO r3),(16,.d (.raw v)),(17,vI (rJ p3 (r8.1.length:Int))),(18,vI k),(131,vB (((List.map (D.int .i64) x.Kids).length:Int)==0))] κ ?_
      rw[k_0]
      refine jZ (v:=((x.Kids.length:Int)==0)) κ ?_
      cases hb5:((x.Kids.length:Int)==0)with
      |true=>
       replace hdam:=fh hb5 hdam
       cases hdam
       exact dF pR<|aA<|bI h λr22 hr h=>bJ (kZ hr)<|aa 1<|ak<|al<|qO<|BN<|qO<|iI h▸EL
      |false=>
       replace hdam:=fi hb5 hdam
       obtain⟨y,hy,hdam⟩:=bS hdam
       cases hdam
       obtain⟨hk2,hyk⟩:=nZ hy
       have hym:(x.Kids.map (D.int .i64))[k.toNat]? =some (.int .i64 y):=by rw[h_1,hyk];rfl
       refine dF pR<|ao<|bX ?_
       refine rp 16 κ κ<|OZ.F 2 (bp 2<|cd<|OZ.view 133 hL.m<|OZ.F 6 (bU (s:=bb (some (.au r3.2.length 0)) (lM x e u).cells) (fj (n:=3) κ hi0 hxs)<|bp 5<|cd<|OZ.view 139 hL.m<|OZ.F 4 (bU (s:=bb (some (.au r3.2.length 0)) (lM x e u).cells) (fj (n:=3) κ hi0 hxs)<|bp 3<|cd<|OZ.view 143 (hL.k _ _ _ hxi hu)<|OZ.F 4 (bU (s:=bb (some (.au r3.2.length ((rJ p3 (r8.1.length:Int)).toNat+1))) (D.int .i64 y).cells) (fj (n:=1) κ hk2 hym)<|bp 3<|cd<|m8 ?_))))
       exact Fz 231 r8.2 [1,7,15,16,137,138,148] [(1,vI p1),(7,Z1 p0),(15,cO r3),(16,.d (.raw v)),(137,.d (.raw u)),(138,vI k),(148,vI (IntKind.wrap .i64 (y+p6)))]<|Ab (o':=some 149) κ (hL.k _ _ _ hxi hu) hk2 (aU hym)<|
        Aa (j:=k.toNat) (q:=0) κ (hL.k _ _ _ hxi hu) hym (by simp[Go.Sh.D.cells]) hL.nd (λi j ho=>by cases ho;simp only[fw];exact hoi) κ<|nc<|sQ<|bX ⟨_,hL.UK hxi hu he k.toNat y _,h,κ⟩
     |false=>
     replace hdam:=fi hb4 hdam
     refine bQ pR<|dF pR<|ah<|aa 2<|af<|bX<|jZ (v:=(Int.tmod (IntKind.wrap .u64 p5) 4==2)) κ ?_
     cases hb4':(Int.tmod (IntKind.wrap .u64 p5) 4==2)with
     |true=>
      replace hdam:=fh hb4' hdam
      refine bQ pR<|bQ pR<|gJ 7<|OZ.F 2 (bp 2<|cd<|OZ.view 152 hL.m<|OZ.F 3 (bU (s:=bb (some (.au r3.2.length 0)) (lM x e u).cells) (fj (n:=3) κ hi0 hxs)<|bp 2<|cd<|OZ.view 156 (hL.e _ _ _ hxi he)<|OZ.F 2 (bp 2<|cd<|m8<|nc<|bX ?_)))
      refine jd 231 r8.2 [1,3,4,5,6,7,15,16,17,18,158] [(1,vI p1),(3,vI p3),(4,vI p4),(5,vI p5),(6,vI p6),(7,Z1 p0),(15,cO r3),(16,.d (.raw v)),(17,vI (rJ p3 (r8.1.length:Int))),(18,vI k),(158,vB (((List.map ab x.Entries).length:Int)==0))] κ ?_
      rw[k_0]
      refine jZ (v:=((x.Entries.length:Int)==0)) κ ?_
      cases hb6:((x.Entries.length:Int)==0)with
      |true=>
       replace hdam:=fh hb6 hdam
       cases hdam
       exact dF pR<|aA<|bI h λr22 hr h=>bJ (kZ hr)<|aa 1<|ak<|al<|qO<|BN<|qO<|iI h▸EL
      |false=>
       replace hdam:=fi hb6 hdam
       obtain⟨en,hy,hdam⟩:=bS hdam
       cases hdam
       obtain⟨hk2,hyk⟩:=nZ hy
       have hym:(x.Entries.map ab)[k.toNat]? =some (ab en):=by rw[h_1,hyk];rfl
       refine dF pR<|ao<|bX ?_
       refine rp 17 κ κ<|OZ.F 2 (bp 2<|cd<|OZ.view 160 hL.m<|OZ.F 6 (bU (s:=bb (some (.au r3.2.length 0)) (lM x e u).cells) (fj (n:=3) κ hi0 hxs)<|bp 5<|cd<|OZ.view 166 hL.m<|OZ.F 4 (bU (s:=bb (some (.au r3.2.length 0)) (lM x e u).cells) (fj (n:=3) κ hi0 hxs)<|bp 3<|cd<|OZ.view 170 (hL.e _ _ _ hxi he)<|OZ.F 5 (bU (s:=bb (some (.au (r3.2++[aN.cells [.own 3 []]]).length ((rJ p3 (r8.1.length:Int)).toNat+1))) (ab en).cells) (fj (n:=3) κ hk2 hym)<|bp 4<|cd<|m8 ?_))))
       exact Fz 231 r8.2 [1,7,15,16,164,165,176] [(1,vI p1),(7,Z1 p0),(15,cO r3),(16,.d (.raw v)),(164,.d (.raw e)),(165,vI k),(176,vI (IntKind.wrap .i64 (en.Number+p6)))]<|Ab (o':=some 177) κ (hL.e _ _ _ hxi he) hk2 (aU hym)<|FA (o':=some 178) (m:=k.toNat * 3) (fo:=2) κ (hL.e _ _ _ hxi he) (λe=>by rw[e]at hym;simp at hym)<|
        Aa (j:=k.toNat) (q:=2) κ (hL.e _ _ _ hxi he) hym (by simp[ab,Go.Sh.D.cells]) hL.nd (λi j ho=>by cases ho;simp only[fw];exact hdi) κ<|nc<|sQ<|bX ⟨_,hL.Vr hxi hu he k.toNat (x.Entries.set k.toNat {en with Number:=IntKind.wrap .i64 (en.Number+p6)}) _ (by rw[List.map_set];rfl),h,κ⟩
     |false=>
      replace hdam:=fi hb4' hdam
      refine bQ pR<|bQ pR<|gJ 7<|OZ.F 2 (bp 2<|cd<|OZ.view 83 hL.m<|OZ.F 3 (bU (s:=bb (some (.au r3.2.length 0)) (lM x e u).cells) (fj (n:=3) κ hi0 hxs)<|bp 2<|cd<|OZ.view 87 (hL.e _ _ _ hxi he)<|OZ.F 2 (bp 2<|cd<|m8<|nc<|bX ?_)))
      refine jd 231 r8.2 [1,3,4,5,6,7,15,16,17,18,89] [(1,vI p1),(3,vI p3),(4,vI p4),(5,vI p5),(6,vI p6),(7,Z1 p0),(15,cO r3),(16,.d (.raw v)),(17,vI (rJ p3 (r8.1.length:Int))),(18,vI k),(89,vB (((List.map ab x.Entries).length:Int)==0))] κ ?_
      rw[k_0]
      refine jZ (v:=((x.Entries.length:Int)==0)) κ ?_
      cases hb6:((x.Entries.length:Int)==0)with
      |true=>
       replace hdam:=fh hb6 hdam
       cases hdam
       exact dF pR<|aA<|bI h λr22 hr h=>bJ (kZ hr)<|aa 1<|ak<|al<|qO<|BN<|qO<|iI h▸EL
      |false=>
       replace hdam:=fi hb6 hdam
       obtain⟨en,hy,hdam⟩:=bS hdam
       cases hdam
       obtain⟨hk2,hyk⟩:=nZ hy
       have hym:(x.Entries.map ab)[k.toNat]? =some (ab en):=by rw[h_1,hyk];rfl
       refine dF pR<|ao<|bX ?_
       refine rp 17 κ κ<|OZ.F 2 (bp 2<|cd<|OZ.view 91 hL.m<|OZ.F 6 (bU (s:=bb (some (.au r3.2.length 0)) (lM x e u).cells) (fj (n:=3) κ hi0 hxs)<|bp 5<|cd<|OZ.view 97 hL.m<|OZ.F 4 (bU (s:=bb (some (.au r3.2.length 0)) (lM x e u).cells) (fj (n:=3) κ hi0 hxs)<|bp 3<|cd<|OZ.view 101 (hL.e _ _ _ hxi he)<|OZ.F 5 (bU (s:=bb (some (.au (r3.2++[aN.cells [.own 3 []]]).length ((rJ p3 (r8.1.length:Int)).toNat+1))) (ab en).cells) (fj (n:=3) κ hk2 hym)<|bp 4<|cd<|m8 ?_))))
       exact Fz 231 r8.2 [1,7,15,16,95,96,107] [(1,vI p1),(7,Z1 p0),(15,cO r3),(16,.d (.raw v)),(95,.d (.raw e)),(96,vI k),(107,vI (IntKind.wrap .i64 (en.Key+p6)))]<|Ab (o':=some 108) κ (hL.e _ _ _ hxi he) hk2 (aU hym)<|FA (o':=some 109) (m:=k.toNat * 3) (fo:=1) κ (hL.e _ _ _ hxi he) (λe=>by rw[e]at hym;simp at hym)<|
        Aa (j:=k.toNat) (q:=1) κ (hL.e _ _ _ hxi he) hym (by simp[ab,Go.Sh.D.cells]) hL.nd (λi j ho=>by cases ho;simp only[fw];exact hdi) κ<|nc<|sQ<|bX ⟨_,hL.Vr hxi hu he k.toNat (x.Entries.set k.toNat {en with Key:=IntKind.wrap .i64 (en.Key+p6)}) _ (by rw[List.map_set];rfl),h,κ⟩
    .rintro s' st' ⟨lq,hL',h,cR⟩
     refine jd 231 _ _ _ cR<|hL'.UH 16 hoi hdi<|Pk<|BZ 231 r8.2 [1,7,15,16] [(1,vI p1),(7,Z1 p0),(15,cO r3),(16,Zn lq)] κ ?_
     unfold jE at h
     exact an<|fL<|dn [] [1,7,15,16,180,181,183] 4<|bI h λi9 hp_i9 h=>Ij r3.1.t (λp=>(sp 231 [(1,vI p1),(7,Z1 p0),(15,cO r3),(16,Zn lq),(180,Z2 p0),(181,vI p1),(183,.d (cP.enc p))] r8.2)) κ hp_i9<|bI h λr10 hr h=>iB (ls:=[]) (dv hr)<|aE 1<|bI h λr11 hr h=>fc (II hr)<|bn (s:=.iQ [vI r11.1,vI r11.2]) (Iv κ)<|aE 4<|bG<|ag<|an<|fL<|dn [] [1,7,15,16,20,21,190,191,193] 4<|bI h λi12 hp_i12 h=>Ij r3.1.t (λp=>(sp 231 [(1,vI p1),(7,Z1 p0),(15,cO r3),(16,Zn lq),(20,vI r11.1),(21,vI r11.2),(190,Z2 p0),(191,vI p1),(193,.d (cP.enc p))] r8.2)) κ hp_i12<|bI h λr13 hr h=>iB (ls:=[]) (dv hr)<|aE 1<|bI h λr14 hr h=>fc (AI hr)<|bn (s:=.iQ [vI r14.1,vI r14.2]) (Iv κ)<|aE 4<|bG<|ag<|an<|aA<|aX [] [1,7,15,16,21,23,202] 4<|dO 231 r8.2 [1,7,15,16,21,206] 4 (r11.1 !=r14.1) (λb=>(sp 231 [(1,vI p1),(7,Z1 p0),(15,cO r3),(16,Zn lq),(21,vI r11.2),(23,vI r14.2),(202,vB b)] r8.2)) (λb=>[(1,vI p1),(7,Z1 p0),(15,cO r3),(16,Zn lq),(21,vI r11.2),(206,vB (b||(r11.2 !=r14.2)))]) κ κ κ<|ak<|aT h (λh=>ar 1<|al<|aq<|iI h▸EL) (λh=>ao<|ag<|an<|ar 1<|aT h (λh=>an<|bI h λi15 hp_i15 h=>bI h λr16 hr_4 h=>bI h λr17 hr_6 h=>aI 231 r8.2 [(1,vI p1),(7,Z1 p0),(15,cO r3),(16,Zn lq)]<|(by
   refine gW 231 r17.2 [(15,cO r3),(24,.d (cP.enc r17.1.1)),(26,vI r17.1.2.2)] [1,5,2,3] 10 46 κ κ κ (λX hX=>?_) (ag<|an<|aI 231 r17.2 [(15,cO r3),(24,.d (cP.enc r17.1.1)),(26,vI r17.1.2.2)]<|zi 10 κ κ (λl=>gg (d':=7) [0,1,2] [(15,cO r3),(24,.d (cP.enc r17.1.1)),(222,vB (r17.1.2.2 !=0))]<|tu (r17.1.2.2 !=0) (λb=>(sp 231 [(15,cO r3),(24,.d (cP.enc r17.1.1)),(222,vB b)] r17.2)) κ (λhc=>have h:=fh hc h;gg (d':=0) [3,5,6,7,4,8,9] [(229,vB true)]<|kN κ<|ag<|eS κ<|ar 1<|al<|aq<|iI h▸EL) (λhc=>have h:=fi hc h;gg (d':=4) [3,5,6] [(15,cO r3),(222,vB false),(223,.d (cP.enc r17.1.1)),(226,.loc 15 5)]<|bI h λi18 hp_i18 h=>bI h λr19 hr_4 h=>b9 (b:=true) (H:=r19.2) 2 255 231 [(222,vB false),(224,.own 3 (List.map ab r19.1)),(227,Ms r3)] (bI h λr30 hr_8 h=>qF 8 bD<|tt (d:=some 228) (ls:=[(.slot 224)]) (gs:=[]) [] [(222,vB false),(228,vB r30)] (mM hr_8)<|af<|gg (d':=0) [9] [(229,vB r30)]<|kN κ<|ag<|aT h (λh=>ar 1<|al<|aq<|iI h▸EL) (λh=>ao<|ag<|aA<|bI h λr31 hr h=>bJ (kZ hr)<|aa 1<|ak<|al<|iI h▸EL)) (λc255=>b9 (b:=true) (H:=r19.2) 3 127 231 [(15,cO r3),(222,vB false),(224,.own 3 (List.map ab r19.1)),(226,.loc 15 5)] (bx (i0:=7) (is:=[]) κ ⟨bf (bm 231 r19.2 [] [222,224,227] 1 [(222,vB false),(224,Pb r19),(227,Ms r3)] κ<|af<|c255) bD,trivial⟩) (λc127=>b9 (b:=true) (H:=r17.2) 3 239 231 [(222,vB false),(223,.d (cP.enc r17.1.1)),(227,Ms r3)] (bx (i0:=4) (is:=[]) κ ⟨bf (bH r17.1.1 (λp=>(sp 231 [(222,vB false),(223,.d (cP.enc p)),(227,Ms r3)] r17.2)) κ hp_i18<|j6 (some 224) [(222,vB false),(224,Pb r19),(227,Ms r3)] (kq hr_4)<|af<|c255) bD,trivial⟩) (λc239=>bx (i0:=4) (is:=[7]) κ ⟨bf (bH r17.1.1 (λp=>(sp 231 [(15,cO r3),(222,vB false),(223,.d (cP.enc p)),(226,.loc 15 5)] r17.2)) κ hp_i18<|j6 (some 224) [(15,cO r3),(222,vB false),(224,.own 3 (List.map ab r19.1)),(226,.loc 15 5)] (kq hr_4)<|af<|c127) bD,bf (aK 1 [(222,vB false),(223,.d (cP.enc r17.1.1)),(227,Ms r3)]<|af<|c239) bD,trivial⟩))))))
   .have c16383:X 0 16383 (sp 231 [(15,cO r3),(24,.d (cP.enc r17.1.1)),(26,vI r17.1.2.2)] r17.2):=by subst hX;exact pA κ
    have c8191:X 1 8191 (sp 231 [(15,cO r3),(24,.d (cP.enc r17.1.1)),(219,vI r17.1.2.2)] r17.2):=by subst hX;exact aV 13 [] ⟨bm 231 r17.2 [] [15,24,26] 1 [(15,cO r3),(24,.d (cP.enc r17.1.1)),(26,vI r17.1.2.2)] κ<|af c16383,trivial⟩
    have c4095:X 2 4095 (sp 231 [(15,cO r3),(24,.d (cP.enc r17.1.1)),(218,vI r17.1.2.1),(219,vI r17.1.2.2)] r17.2):=by subst hX;exact aV 12 [] ⟨bm 231 r17.2 [] [15,24,219] 1 [(15,cO r3),(24,.d (cP.enc r17.1.1)),(219,vI r17.1.2.2)] κ<|af c8191,trivial⟩
    have c2047:X 3 2047 (sp 231 [(15,cO r3),(217,.d (cP.enc r17.1.1)),(218,vI r17.1.2.1),(219,vI r17.1.2.2)] r17.2):=by subst hX;exact aV 11 [] ⟨bm 231 r17.2 [] [15,24,218,219] 1 [(15,cO r3),(24,.d (cP.enc r17.1.1)),(218,vI r17.1.2.1),(219,vI r17.1.2.2)] κ<|af c4095,trivial⟩
    have c7167:X 2 7167 (sp 231 [(15,cO r3),(24,.d (cP.enc r17.1.1)),(209,ey r17)] r17.2):=by subst hX;exact aV 10 [] ⟨bm 231 r17.2 [] [15,24,219] 1 [(15,cO r3),(24,.d (cP.enc r17.1.1)),(219,vI r17.1.2.2)] κ<|af c8191,trivial⟩
    have c3071:X 3 3071 (sp 231 [(15,cO r3),(24,.d (cP.enc r17.1.1)),(209,ey r17),(218,vI r17.1.2.1)] r17.2):=by subst hX;exact aV 10 [12] ⟨aK 1 [(15,cO r3),(24,.d (cP.enc r17.1.1)),(218,vI r17.1.2.1),(219,vI r17.1.2.2)]<|af c4095,aK 1 [(15,cO r3),(24,.d (cP.enc r17.1.1)),(209,ey r17)]<|af c7167,trivial⟩
    have c1023:X 4 1023 (sp 231 [(15,cO r3),(209,ey r17),(217,.d (cP.enc r17.1.1)),(218,vI r17.1.2.1)] r17.2):=by subst hX;exact aV 10 [11] ⟨aK 1 [(15,cO r3),(217,.d (cP.enc r17.1.1)),(218,vI r17.1.2.1),(219,vI r17.1.2.2)]<|af c2047,aK 1 [(15,cO r3),(24,.d (cP.enc r17.1.1)),(209,ey r17),(218,vI r17.1.2.1)]<|af c3071,trivial⟩
    have c3583:X 3 3583 (sp 231 [(15,cO r3),(24,.d (cP.enc r17.1.1)),(209,ey r17),(219,vI r17.1.2.2)] r17.2):=by subst hX;exact aV 9 [] ⟨bm 231 r17.2 [] [15,24,218,219] 1 [(15,cO r3),(24,.d (cP.enc r17.1.1)),(218,vI r17.1.2.1),(219,vI r17.1.2.2)] κ<|af c4095,trivial⟩
    have c1535:X 4 1535 (sp 231 [(15,cO r3),(209,ey r17),(217,.d (cP.enc r17.1.1)),(219,vI r17.1.2.2)] r17.2):=by subst hX;exact aV 9 [11] ⟨aK 1 [(15,cO r3),(217,.d (cP.enc r17.1.1)),(218,vI r17.1.2.1),(219,vI r17.1.2.2)]<|af c2047,aK 1 [(15,cO r3),(24,.d (cP.enc r17.1.1)),(209,ey r17),(219,vI r17.1.2.2)]<|af c3583,trivial⟩
    have c2559:X 4 2559 (sp 231 [(15,cO r3),(24,.d (cP.enc r17.1.1)),(209,ey r17)] r17.2):=by subst hX;exact aV 9 [10] ⟨aK 1 [(15,cO r3),(24,.d (cP.enc r17.1.1)),(209,ey r17),(218,vI r17.1.2.1)]<|af c3071,aK 1 [(15,cO r3),(24,.d (cP.enc r17.1.1)),(209,ey r17),(219,vI r17.1.2.2)]<|af c3583,trivial⟩
    have c511:X 5 511 (sp 231 [(15,cO r3),(209,ey r17),(217,.d (cP.enc r17.1.1))] r17.2):=by subst hX;exact aV 9 [10,11] ⟨aK 1 [(15,cO r3),(209,ey r17),(217,.d (cP.enc r17.1.1)),(218,vI r17.1.2.1)]<|af c1023,aK 1 [(15,cO r3),(209,ey r17),(217,.d (cP.enc r17.1.1)),(219,vI r17.1.2.2)]<|af c1535,aK 1 [(15,cO r3),(24,.d (cP.enc r17.1.1)),(209,ey r17)]<|af c2559,trivial⟩
    have c1791:X 4 1791 (sp 231 [(15,cO r3),(209,ey r17),(218,vI r17.1.2.1),(219,vI r17.1.2.2)] r17.2):=by subst hX;exact aV 8 [] ⟨bm 231 r17.2 [] [15,217,218,219] 1 [(15,cO r3),(217,.d (cP.enc r17.1.1)),(218,vI r17.1.2.1),(219,vI r17.1.2.2)] κ<|af c2047,trivial⟩
    have c767:X 5 767 (sp 231 [(15,cO r3),(209,ey r17),(218,vI r17.1.2.1)] r17.2):=by subst hX;exact aV 8 [10] ⟨aK 1 [(15,cO r3),(209,ey r17),(217,.d (cP.enc r17.1.1)),(218,vI r17.1.2.1)]<|af c1023,aK 1 [(15,cO r3),(209,ey r17),(218,vI r17.1.2.1),(219,vI r17.1.2.2)]<|af c1791,trivial⟩
    have c1279:X 5 1279 (sp 231 [(15,cO r3),(209,ey r17),(219,vI r17.1.2.2)] r17.2):=by subst hX;exact aV 8 [9] ⟨aK 1 [(15,cO r3),(209,ey r17),(217,.d (cP.enc r17.1.1)),(219,vI r17.1.2.2)]<|af c1535,aK 1 [(15,cO r3),(209,ey r17),(218,vI r17.1.2.1),(219,vI r17.1.2.2)]<|af c1791,trivial⟩
    have c255:X 6 255 (sp 231 [(15,cO r3),(209,ey r17)] r17.2):=by subst hX;exact aV 8 [9,10] ⟨aK 1 [(15,cO r3),(209,ey r17),(217,.d (cP.enc r17.1.1))]<|af c511,aK 1 [(15,cO r3),(209,ey r17),(218,vI r17.1.2.1)]<|af c767,aK 1 [(15,cO r3),(209,ey r17),(219,vI r17.1.2.2)]<|af c1279,trivial⟩
    have c127:X 7 127 (sp 231 [(15,cO r3),(216,ey r17)] r17.2):=by subst hX;exact aV 7 [] ⟨bm 231 r17.2 [] [15,209] 1 [(15,cO r3),(209,ey r17)] κ<|af c255,trivial⟩
    have c63:X 8 63 (sp 231 [(15,cO r3),(210,Z2 p0),(211,vI p1),(214,vI r16),(215,Zn lq)] r8.2):=by subst hX;exact aV 6 [] ⟨tY 231 [(15,cO r3),(216,.iQ [.d (cP.enc r17.1.1),vI r17.1.2.1,vI r17.1.2.2])] (tD hr_6)<|af c127,trivial⟩
    have c47:X 9 47 (sp 231 [(15,cO r3),(210,Z2 p0),(211,vI p1),(213,.d (cP.enc r3.1.t)),(215,Zn lq)] r8.2):=by subst hX;exact aV 4 [] ⟨bH r3.1.t (λp=>(sp 231 [(15,cO r3),(210,Z2 p0),(211,vI p1),(213,.d (cP.enc p)),(215,Zn lq)] r8.2)) κ hp_i15<|gd (ls:=[]) (some 214) [(15,cO r3),(210,Z2 p0),(211,vI p1),(214,vI r16),(215,Zn lq)] (dv hr_4)<|af c63,trivial⟩
    have c62:X 9 62 (sp 231 [(7,Z1 p0),(15,cO r3),(211,vI p1),(214,vI r16),(215,Zn lq)] r8.2):=by subst hX;exact aV 0 [] ⟨bm 231 r8.2 [] [15,210,211,214,215] 1 [(15,cO r3),(210,Z2 p0),(211,vI p1),(214,vI r16),(215,Zn lq)] κ<|af c63,trivial⟩
    have c46:X 10 46 (sp 231 [(7,Z1 p0),(15,cO r3),(211,vI p1),(213,.d (cP.enc r3.1.t)),(215,Zn lq)] r8.2):=by subst hX;exact aV 0 [4] ⟨aK 1 [(15,cO r3),(210,Z2 p0),(211,vI p1),(213,.d (cP.enc r3.1.t)),(215,Zn lq)]<|af c47,bH r3.1.t (λp=>(sp 231 [(7,Z1 p0),(15,cO r3),(211,vI p1),(213,.d (cP.enc p)),(215,Zn lq)] r8.2)) κ hp_i15<|gd (ls:=[]) (some 214) [(7,Z1 p0),(15,cO r3),(211,vI p1),(214,vI r16),(215,Zn lq)] (dv hr_4)<|af c62,trivial⟩
    refine aB<|aB<|aB<|dp 231 r8.2 [7,15,211,213,215] [(7,Z1 p0),(15,cO r3),(211,vI p1),(213,.d (cP.enc r3.1.t)),(215,Zn lq)] κ<|dX ?_
    exact c46)) (λh=>ao<|ag<|aA<|bI h λr32 hr h=>bJ (kZ hr)<|aa 1<|ak<|al<|iI h▸EL))))))
end
end Go.Sh
