/- Printed by a program: functions of the program as plain functions, and that the code computes them. -/
import Derived.Test.YtmhiemakdfkmeaaGreatF1
set_option linter.all false
set_option autoImplicit true
set_option relaxedAutoImplicit true
open Go Go.Proofs
namespace Go.Sh
set_option maxRecDepth 100000
section
attribute [local irreducible] cf jj lh lH SW uS
def fA(fuel:Nat)(rc:(Nat->Nat->Entry->Hp->Option ((Unit)×Hp)))(p0:Nat)(p1:Nat)(p2:Entry)(H:Hp):Option ((Unit)×Hp):=
 (og fuel p0 p1 p2 H).bind λr1=>
 bz (λ(j2:Hp)=>
  (bL 1 cP j2 p1 1).bind λx37=>
  (idx x37 r1.1).bind λx38=>
  x38.bind λi39=>
  (bL 3 aP j2 i39 0).bind λx40=>
  (dC fuel p0 j2).bind λr41=>
  bif (decide ((x40.length:Int)<r41))then
   (eX fuel p0 p1 r1.1 j2).bind λr42=>
   some ((),r42.2)
  else
   some ((),j2)) λjp3=>
 (cT fuel p1 H).bind λr4=>
 bif r4 then
  bif r1.2 then
   (dQ 3 aP H p1 0).bind λq5=>
   (fD fuel q5.1 r1.1 (IntKind.wrap .i64 (r1.1+1))).bind λr6=>
   (dh 3 aP q5.2 p1 0 r6).bind λH7=>
   some ((),H7)
  else
   some ((),H)
 else
  bif r1.2 then
   (bL 1 cP H p1 1).bind λx8=>
   (idx x8 r1.1).bind λx9=>
   (iter (jn fuel) fuel (x9,H)).bind λv17=>
   v17.1.bind λi18=>
   v17.1.bind λi19=>
   (dQ 3 aP v17.2 p1 0).bind λq20=>
   (bL 3 aP v17.2 i19 0).bind λx22=>
   (bL 3 aP v17.2 i18 0).bind λx23=>
   (idx x23 (IntKind.wrap .i64 ((x22.length:Int) - 1))).bind λx24=>
   (idx q20.1 r1.1).bind λx25=>
   ff (decide ((Int.toNat r1.1)<q20.1.length))<|
   (dh 3 aP q20.2 p1 0 (List.set q20.1 (Int.toNat r1.1) x24)).bind λH26=>
   (bL 1 cP H26 p1 1).bind λx27=>
   (idx x27 r1.1).bind λx28=>
   (bL 3 aP H26 p1 0).bind λx29=>
   (idx x29 r1.1).bind λx30=>
   x28.bind λi31=>
   (rc p0 i31 x30 H26).bind λr32=>
   jp3 r32.2
  else
   (bL 1 cP H p1 1).bind λx33=>
   (idx x33 r1.1).bind λx34=>
   x34.bind λi35=>
   (rc p0 i35 p2 H).bind λr36=>
   jp3 r36.2
def gZ:Nat->(Nat->Nat->Entry->Hp->Option ((Unit)×Hp))
 |0=>λ_ _ _ _=>none
 |fuel+1=>fA fuel (gZ fuel)
theorem xw{fuel:Nat}{rc:(Nat->Nat->Entry->Hp->Option ((Unit)×Hp))}(ih: ∀{p0:Nat} {p1:Nat} {p2:Entry} {H:Hp} {r:(Unit)×Hp},rc p0 p1 p2 H=some r->SC Tryz.prog false 90 [.d (.ptr p0 0),.d (.ptr p1 0),.d (ab p2)] H (.iQ []) r.2){p0:Nat}{p1:Nat}{p2:Entry}{H:Hp}{r:(Unit)×Hp}(h:fA fuel rc p0 p1 p2 H=some r):SC Tryz.prog false 90 [.d (.ptr p0 0),.d (.ptr p1 0),.d (ab p2)] H (.iQ []) r.2:=by
 refine dr Tryz.func90 rfl ?_
 unfold fA at h
 exact aI 124 H (K17 p0 p1 [(2,ny p2)])<|ar 1<|aA<|aa 3<|bI h λr1 hr h=>mc (ls:=[]) (vK hr)<|aa 5<|ak<|sY 124 [0,1,6] (λ(j2:Hp)=>(K17 p0 p1 [(6,vI r1.1)])) (λ(j2:Hp)=>j2) h (λj2 h=>an<|fL<|aE 3<|bI h λx37 hx h=>bn (aY hx)<|aE 1<|bI h λx38 hx h=>bn (s:=bb (some (.au p1 1)) [cP.enc x38]) (cz (n:=1) hx)<|aE 1<|bI h λi39 hp_i39 h=>bn (s:=.d (.ptr i39 0)) (bh hp_i39)<|aE 2<|bI h λx40 hx h=>bn (aY hx)<|bn (aJ (enc:=ab) (xs:=x40))<|aE 1<|bI h λr41 hr h=>iB (ls:=[]) (kH hr)<|aE 1<|bG<|ag<|aT h (λh=>ah<|aa 3<|bI h λr42 hr h=>b8 (Ar hr)<|af<|iI h▸EN) (λh=>ao<|iI h▸EN)) λjp3 h=>aM<|aA<|aa 1<|bI h λr4 hr h=>mc (ls:=[]) (eJ hr)<|aa 1<|ak<|aT h (λh=>an<|ar 1<|aT h (λh=>ah<|aS [35] 5<|bI h λq5 hq h=>m9 hq<|aS [35] 3<|bI h λr6 hr h=>iz 124 q5.2 (d:=some 39) (ls:=[]) (gs:=[(35,0)]) [0] [30,39] [(30,.d (.ptr p1 0)),(39,.own 3 (List.map ab r6))] (mI hr) κ κ κ<|aS [35] 3<|bI h λH7 hx h=>fF 39 hx<|ak<|al<|aQ<|aq<|iI h▸E0) (λh=>ao<|ag<|al<|aQ<|aq<|iI h▸E0)) (λh=>ar 1<|aT h (λh=>aA<|aa 3<|bI h λx8 hx h=>ax (aY hx)<|aa 1<|bI h λx9 hx h=>ax (s:=bb (some (.au p1 1)) [cP.enc x9]) (cz (n:=1) hx)<|aa 2<|ak<|an<|aM<|bI h λv17 hit h=>l7 124 [0,1,6,8] (λy10=>(K17 p0 p1 [(6,vI r1.1),(8,.d (cP.enc y10.1))])) (λy10=>y10.2) (λv17 e s=>(e=.exit 1/\s=(sp 124 (K17 p0 p1 [(6,vI r1.1),(8,.d (cP.enc v17.1))]) v17.2))) hit κ (λy10 o h=>by unfold jn at h;exact an<|aA<|aX [] [0,1,6,8,52] 1<|bI h λi11 hp_i11 h=>bH y10.1 (λp=>(sp 124 (K17 p0 p1 [(6,vI r1.1),(8,.d (cP.enc p)),(52,.d (cP.enc p))]) y10.2)) κ hp_i11<|bI h λr12 hr h=>mc (ls:=[]) (eJ hr)<|aa 1<|ak<|aT h (λh=>ao<|ag<|aM<|g8 12 κ κ<|bp 3<|bI h λx13 hx h=>bU (aY hx)<|bp 3<|bI h λx14 hx h=>bU (aY hx)<|bU (aJ (enc:=cP.enc) (xs:=x14))<|bp 1<|bI h λx15 hx h=>bU (s:=bb (some (.au i11 1)) [cP.enc x15]) (cz (n:=1) hx)<|bp 1<|cd<|aa 1<|af<|aR<|LQ h) (λh=>aI 124 y10.2 (K17 p0 p1 [(6,vI r1.1),(8,.d (.ptr i11 0))])<|bT<|ba<|ba<|LR h ⟨rfl,rfl⟩)) (by rintro _ _ ⟨rfl,rfl⟩;exact bw<|ag<|an<|bI h λi18 hp_i18 h=>bI h λi19 hp_i19 h=>bI h λq20 hq20 h=>bI h λx22 hx_15 h=>bI h λx23 hx_10 h=>bI h λx24 hx24 h=>bI h λx25 hx25 h=>nJ h λhk_21 h=>bI h λH26 hH26 h=>aI 124 v17.2 (K17 p0 p1 [(6,vI r1.1),(8,.d (cP.enc v17.1))])<|lZ p1 0 λv21=>fx [0,1,2,3,5,6,7,8,9,11,12,13,14,15,16,17,4,10,18,19] [20,21] κ κ<|aB<|aB<|aB<|aB<|aB<|aB<|cl (s:=.d (.ptr i18 0)) (bh hp_i18)<|aB<|aB<|aB<|cl (s:=.d (.ptr i19 0)) (bh hp_i19)<|aB<|dp 124 (ei v17.2 p1 0 v21) [0,1,6,70,72,76,81] (K17 p0 p1 [(6,vI r1.1),(70,.d (.ptr p1 0)),(72,vI r1.1),(76,.d (.ptr i18 0)),(81,.d (.ptr i19 0))]) κ<|cl (s:=.cq (.au i19 0) 3 (List.map ab x22)) (pC (aY (c:=aP) hx_15 κ))<|cl (aJ (enc:=ab) (xs:=x22))<|dp 124 (ei v17.2 p1 0 v21) [0,1,6,70,72,76,84] (K17 p0 p1 [(6,vI r1.1),(70,.d (.ptr p1 0)),(72,vI r1.1),(76,.d (.ptr i18 0)),(84,CF x22)]) κ<|jN 124 (ei v17.2 p1 0 v21) (d:=some 71) (s:=.d (.raw v21)) [0,1,6,71,72,76,84] (K17 p0 p1 [(6,vI r1.1),(71,.d (.raw v21)),(72,vI r1.1),(76,.d (.ptr i18 0)),(84,CF x22)]) (gY (c:=aP) (n':=3) hq20 κ) κ<|cl (s:=.cq (.au i18 0) 3 (List.map ab x23)) (pC (aY (c:=aP) hx_10 κ))<|cl (s:=bb (some (.au i18 0)) (ab x24).cells) (aD (n:=3) hx24)<|dp 124 (ei v17.2 p1 0 v21) [0,1,6,71,72,86] (K17 p0 p1 [(6,vI r1.1),(71,.d (.raw v21)),(72,vI r1.1),(86,ny x24)]) κ<|dX<|yr (c:=aP) (n':=3) (t:=71) [0,1,6,71,72,86] (K17 p0 p1 [(6,vI r1.1),(71,.mf v21 3 (List.map ab q20.1)),(72,vI r1.1),(86,ny x24)]) hq20 κ κ κ<|tg (s:=.ep 71 3 (Int.toNat r1.1)) [0,1,6,71,86,87] (Cp (enc:=ab) (xs:=q20.1) hx25)<|Ca (s:=71) (n:=3) (j:=(Int.toNat r1.1)) (enc:=ab) (xs:=q20.1) (x:=x24) (p:=(some v21)) 124 (wE q20.2 p1 0 v21) [0,1,6,71] (K17 p0 p1 [(6,vI r1.1),(71,.mf v21 3 (List.map ab (List.set q20.1 (Int.toNat r1.1) x24)))]) hk_21 κ κ<|yo (c:=aP) (n':=3) (s:=71) [0,1,6] (K17 p0 p1 [(6,vI r1.1)]) hH26 κ κ κ<|ak<|g8 16 κ κ<|bp 4<|bI h λx27 hx h=>bU (aY hx)<|bp 1<|bI h λx28 hx h=>bU (s:=bb (some (.au p1 1)) [cP.enc x28]) (cz (n:=1) hx)<|bp 5<|bI h λx29 hx h=>bU (aY hx)<|bp 1<|bI h λx30 hx h=>bU (s:=bb (some (.au p1 0)) (ab x30).cells) (aD (n:=3) hx)<|pe [] [0,1,6,88,95,103] 1<|cd<|bI h λi31 hp_i31 h=>bH x28 (λp=>(sp 124 (K17 p0 p1 [(6,vI r1.1),(88,.d (.ptr p0 0)),(95,.d (cP.enc p)),(103,ny x30)]) H26)) κ hp_i31<|bI h λr32 hr h=>b8 (ih hr)<|af<|aR<|JQ [] h)) (λh=>g8 9 κ κ<|bp 4<|bI h λx33 hx h=>bU (aY hx)<|bp 1<|bI h λx34 hx h=>bU (s:=bb (some (.au p1 1)) [cP.enc x34]) (cz (n:=1) hx)<|pe [] [0,1,6,16,23,24] 2<|cd<|bI h λi35 hp_i35 h=>bH x34 (λp=>(sp 124 (K17 p0 p1 [(6,vI r1.1),(16,.d (.ptr p0 0)),(23,.d (cP.enc p)),(24,ny p2)]) H)) κ hp_i35<|bI h λr36 hr h=>b8 (ih hr)<|af<|aR<|JQ [] h))
end
theorem Aq{fuel:Nat}: ∀{p0:Nat} {p1:Nat} {p2:Entry} {H:Hp} {r:(Unit)×Hp},gZ fuel p0 p1 p2 H=some r->SC Tryz.prog false 90 [.d (.ptr p0 0),.d (.ptr p1 0),.d (ab p2)] H (.iQ []) r.2:=by
 induction fuel with
 |zero=>intros;rename_i h;exact nomatch (show(none:Option ((Unit)×Hp))=some _ from h)
 |succ fuel ih=>exactλh=>xw ih h
def fB(fuel:Nat)(p0:Nat)(p1:Entry)(H:Hp):Option ((Unit)×Hp):=
 (bE cP.cell H p0 4).bind λx1=>
 x1.bind λi2=>
 (gZ fuel p0 i2 p1 H).bind λr3=>
 bz (λ(j4:Bool)=>
  bif j4 then
   (bE cP.cell r3.2 p0 4).bind λx12=>
   x12.bind λi13=>
   (bL 1 cP r3.2 i13 1).bind λx14=>
   (idx x14 0).bind λx15=>
   (ee cP r3.2 p0 4 x15).bind λH16=>
   (bE (cI .i64).cell H16 p0 6).bind λx17=>
   (ee (cI .i64) H16 p0 6 (IntKind.wrap .i64 (x17 - 1))).bind λH18=>
   some ((),H18)
  else
   (bE (cI .i64).cell r3.2 p0 6).bind λx19=>
   (ee (cI .i64) r3.2 p0 6 (IntKind.wrap .i64 (x19 - 1))).bind λH20=>
   some ((),H20)) λjp5=>
 (bE cP.cell r3.2 p0 4).bind λx6=>
 x6.bind λi7=>
 (bL 3 aP r3.2 i7 0).bind λx8=>
 bif ((x8.length:Int)==0)then
  (bE cP.cell r3.2 p0 4).bind λx9=>
  x9.bind λi10=>
  (cT fuel i10 r3.2).bind λr11=>
  jp5 (!r11)
 else
  jp5 false
section
attribute [local irreducible] cf jj lh lH SW uS
theorem pX(h:fB fuel p0 p1 H=some r):SC Tryz.prog false 66 [.d (.ptr p0 0),.d (ab p1)] H (.iQ []) r.2:=by
 refine dr Tryz.func66 rfl ?_
 unfold fB at h
 exact aI 48 H [(0,.d (.ptr p0 0)),(1,ny p1)]<|ar 1<|an<|g8 6 κ κ<|bp 4<|bI h λx1 hx h=>bU (s:=.d (cP.enc x1)) (aF hx)<|pe [] [0,4,8,9] 1<|cd<|bI h λi2 hp_i2 h=>bH x1 (λp=>(sp 48 [(0,.d (.ptr p0 0)),(4,.d (.ptr p0 0)),(8,.d (cP.enc p)),(9,ny p1)] H)) κ hp_i2<|bI h λr3 hr h=>b8 (Aq hr)<|ak<|an<|gr 48 r3.2 [0,28] (λ(j4:Bool)=>[(0,.d (.ptr p0 0)),(28,vB j4)]) h (λj4 h=>aT h (λh=>ah<|aa 4<|bI h λx12 hx h=>ax (s:=.d (cP.enc x12)) (aF hx)<|bI h λi13 hp_i13 h=>ax (s:=.d (.ptr i13 0)) (bh hp_i13)<|aa 1<|bI h λx14 hx h=>ax (aY hx)<|bI h λx15 hx h=>ax (s:=bb (some (.au i13 1)) [cP.enc x15]) (cz (n:=1) hx)<|aX [] [0,38,40] 3<|bI h λH16 hx h=>D5 48 H16 [0] [(0,.d (.ptr p0 0))] hx κ κ<|ak<|ah<|aa 3<|bI h λx17 hx h=>ax (s:=vI x17) (aF hx)<|aa 3<|bI h λH18 hx h=>ga hx<|af<|iI h▸EN) (λh=>ao<|ag<|ah<|aa 3<|bI h λx19 hx h=>ax (s:=vI x19) (aF hx)<|aa 3<|bI h λH20 hx h=>ga hx<|af<|iI h▸EN)) λjp5 h=>ah<|aa 3<|bI h λx6 hx h=>ax (s:=.d (cP.enc x6)) (aF hx)<|bI h λi7 hp_i7 h=>ax (s:=.d (.ptr i7 0)) (bh hp_i7)<|aa 2<|bI h λx8 hx h=>ax (aY hx)<|ax (aJ (enc:=ab) (xs:=x8))<|aX [] [0,21] 2<|cn (λb=>(sp 48 [(0,.d (.ptr p0 0)),(21,vB b)] r3.2)) h (λh=>aa 3<|bI h λx9 hx h=>tg (s:=.d (cP.enc x9)) [0,21,25] (aF hx)<|bI h λi10 hp_i10 h=>bH x9 (λp=>(sp 48 [(0,.d (.ptr p0 0)),(21,vB true),(25,.d (cP.enc p))] r3.2)) κ hp_i10<|bI h λr11 hr h=>mc (ls:=[]) (eJ hr)<|aa 2<|af<|JQ [] h) λh=>aa 7<|af<|JQ [] h
noncomputable def gG (fuel:Nat) (p0:Nat) (p1:(List Value)) (p2:Int) (H:Hp):Option ((Int)×Hp):=
 (hU fuel p0 p1 p2 H).bind λr1=>
 bif (r1 !=0)then
  some (r1,H)
 else
  (jo fuel p0 p1 p2 H).bind λr2=>
  bif (!r2.1.2.2)then
   some (8,r2.2)
  else
   (fB fuel p0 r2.1.1 r2.2).bind λr3=>
   some (0,r3.2)
theorem xx(h:gG fuel p0 p1 p2 H=some r):SC Tryz.prog false 36 [.d (.ptr p0 0),.d (.list 3 (List.map ay p1)),vI p2] H (vI r.1) r.2:=by
 refine dr Tryz.func36 rfl ?_
 unfold gG at h
 exact aI 31 H (K37 p0 p1 p2 [])<|ar 1<|an<|aA<|aa 3<|bI h λr1 hr h=>mc (ls:=[]) (nF hr)<|aa 1<|ak<|ar 1<|aT h (λh=>ar 1<|al<|aq<|iI h▸E0) (λh=>ao<|ag<|aA<|aa 3<|bI h λr2 hr h=>b8 (rW hr)<|aa 8<|ak<|an<|ar 1<|aT h (λh=>ar 1<|al<|aq<|iI h▸E0) (λh=>ao<|ag<|aA<|aa 2<|bI h λr3 hr h=>b8 (pX hr)<|ak<|ar 1<|al<|iI h▸E0))
def ia(fuel:Nat)(p0:Tree)(p1:(List Value))(p2:Int)(y1:Int):Option ((Int)⊕((Unit)⊕((Int)))):=
 bif (decide (y1<(p0.fk.length:Int)))then
  (idx p0.fk y1).bind λx2=>
  bif (x2.Key==p2)then
   (idx p0.fk y1).bind λx3=>
   (ku fuel x3.Row p1).bind λr4=>
   bif r4 then
    some (.inr (.inr y1))
   else
    some (.inl (IntKind.wrap .i64 (y1+1)))
  else
   some (.inl (IntKind.wrap .i64 (y1+1)))
 else
  some (.inr (.inl ()))
def ou(fuel:Nat)(p0:Tree)(p1:(List Value))(p2:Int):Option (Int):=
 (iter (ia fuel p0 p1 p2) fuel 0).bind (Sum.elim (λv6=>
  some (-1)) (λr7=>
  some r7))
theorem vY(h:ou fuel p0 p1 p2=some r):PC Tryz.prog 57 [.d (n9 p0),.d (.list 3 (List.map ay p1)),vI p2] (vI r):=by
 refine aW Tryz.func57 rfl λH=>?_
 unfold ou at h
 exact aI 34 H [(0,wQ p0),(1,Z9 p1),(2,vI p2)]<|ar 1<|an<|ar 1<|aM<|bI h λz5 hit h=>fM 34 H [1,2,3,7] (λy1=>[(1,Z9 p1),(2,vI p2),(3,sU p0),(7,vI y1)]) (λb e s=>((∃v6,b=(.inl v6)/\(e=.exit 0/\s=(sp 34 [] H)))\/(∃r7,b=(.inr r7)/\(e=.ret/\dw Tryz.prog Tryz.f57.results.toList H (vI r7) .ret s)))) hit κ (λy1 o h=>by unfold ia at h;exact an<|aA<|aa 3<|ax (aJ (enc:=ab) (xs:=p0.fk))<|aa 1<|ak<|aT h (λh=>ao<|ag<|an<|aM<|aA<|aa 3<|bI h λx2 hx h=>ax (s:=bb none (ab x2).cells) (aD (n:=3) hx)<|aX [] [1,2,3,7,23] 5<|cn (λb=>(sp 34 [(1,Z9 p1),(2,vI p2),(3,sU p0),(7,vI y1),(23,vB b)] H)) h (λh=>aa 3<|bI h λx3 hx h=>ax (s:=bb none (ab x3).cells) (aD (n:=3) hx)<|aa 3<|bI h λr4 hr h=>bJ (pn hr)<|aa 1<|ak<|aT h (λh=>ar 1<|al<|aQ<|aq<|aq<|LR h (.inr (⟨y1,rfl,rfl,dw.ret [] κ κ⟩))) (λh=>ao<|aR<|ag<|ah<|aa 3<|af<|LQ h)) λh=>aa 9<|ak<|jK<|ao<|aR<|ag<|ah<|aa 3<|af<|LQ h) (λh=>aI 34 H []<|bT<|ba<|ba<|LR h (.inl ⟨(),rfl,rfl,rfl⟩))) (by rintro _ _ (⟨v6,rfl,rfl,rfl⟩|⟨r7,rfl,rfl,hE⟩);exact have h:=js h;bw<|ag<|ar 1<|al<|iI h▸E0;exact have h:=jr h;aQ<|aq<|(by cases h;exact hE))
def gn(fuel:Nat)(p0:Tree)(p1:Int):Option (Tree):=
 ff (mJ p0.fk 0 p1)<|
 ff (decide ((([]:List Entry)++(sl p0.fk 0 p1)).length<=room))<|
 ff (mJ p0.fk (IntKind.wrap .i64 (p1+1)) (p0.fk.length:Int))<|
 ff (decide (((([]:List Entry)++(sl p0.fk 0 p1))++(sl p0.fk (IntKind.wrap .i64 (p1+1)) (p0.fk.length:Int))).length<=room))<|
 some (⟨p0.S,p0.Order,((([]:List Entry)++(sl p0.fk 0 p1))++(sl p0.fk (IntKind.wrap .i64 (p1+1)) (p0.fk.length:Int))),p0.gK⟩:Tree)
def U2(x0:Tree)(x1:Int):SV:=.box [.d (.list 1 (List.map (D.int .i64) x0.S.aG)),.d (.list 1 (List.map D.bool x0.S.Down)),vI x0.S.eD,vI x0.Order,.d (.list 3 (List.map ab ((([]:List Entry)++(sl x0.fk 0 x1))++(sl x0.fk (IntKind.wrap .i64 (x1+1)) (x0.fk.length:Int))))),vI x0.gK]
theorem pk(h:gn fuel p0 p1=some r):PC Tryz.prog 67 [.d (n9 p0),vI p1] (.d (.agg [.list 1 (List.map (D.int .i64) r.S.aG),.list 1 (List.map D.bool r.S.Down),.int .i64 r.S.eD,.int .i64 r.Order,.list 3 (List.map ab r.fk),.int .i64 r.gK])):=by
 refine aW Tryz.func67 rfl λH=>?_
 unfold gn at h
 exact aI 19 H [(0,wQ p0),(1,vI p1)]<|ar 1<|an<|nJ h λhk1 h=>nJ h λhk2 h=>nJ h λhk3 h=>nJ h λhk4 h=>aI 19 H [(1,vI p1),(2,sU p0),(4,uq)]<|gW 19 H [(2,U2 p0 p1),(4,uq)] [3,8] 12 264 κ κ κ (λX hX=>by subst hX;exact aB<|dp 19 H [2,4,8,13] [(2,sU p0),(4,uq),(8,vI p1),(13,vI p1)] κ<|dX<|nA [5,10] [(4,eV (nq none 3 (List.map ab (sl p0.fk 0 p1)))),(5,eA 5 3 (List.map ab (([]:List Entry)++(sl p0.fk 0 p1)))),(10,eV (nq none 3 (List.map ab (sl p0.fk (IntKind.wrap .i64 (p1+1)) (p0.fk.length:Int))))),(11,eA 10 3 (List.map ab ((([]:List Entry)++(sl p0.fk 0 p1))++(sl p0.fk (IntKind.wrap .i64 (p1+1)) (p0.fk.length:Int))))),(13,eF 16)] ⟨yw hk1,Ee (bF) (cC hk2),yw hk3,Ee (bF) (cC hk4),zo,trivial⟩) (ag<|ar 1<|al<|iI h▸E0)
def kr(fuel:Nat)(p0:Tree)(p1:(List Value))(p2:Int):Option (Tree×Int):=
 bz (λ(j1:Bool)=>
  bif j1 then
   some (p0,1)
  else
   (ou fuel p0 p1 p2).bind λr5=>
   bif (decide (r5<0))then
    some (p0,8)
   else
    (gn fuel p0 r5).bind λr6=>
    some (r6,0)) λjp2=>
 (rD fuel p0.S p1).bind λr3=>
 bif (!r3)then
  jp2 true
 else
  (vW fuel p2).bind λr4=>
  jp2 (!r4)
theorem xE(h:kr fuel p0 p1 p2=some r):PC Tryz.prog 37 [.d (n9 p0),.d (.list 3 (List.map ay p1)),vI p2] (.iQ [.d (.agg [.list 1 (List.map (D.int .i64) r.1.S.aG),.list 1 (List.map D.bool r.1.S.Down),.int .i64 r.1.S.eD,.int .i64 r.1.Order,.list 3 (List.map ab r.1.fk),.int .i64 r.1.gK]),vI r.2]):=by
 refine aW Tryz.func37 rfl λH=>?_
 unfold kr at h
 exact aI 30 H [(0,wQ p0),(1,Z9 p1),(2,vI p2)]<|ar 1<|an<|gr 30 H [1,2,3,6,18] (λ(j1:Bool)=>(K52 p1 p2 p0 [(18,vB j1)])) h (λj1 h=>aT h (λh=>ar 1<|al<|aq<|iI h▸E0) (λh=>ao<|ag<|aA<|aa 3<|bI h λr5 hr h=>bJ (vY hr)<|aa 1<|ak<|an<|ar 1<|aT h (λh=>ar 1<|al<|aq<|iI h▸E0) (λh=>ao<|ag<|aA<|aa 2<|bI h λr6 hr h=>bJ (pk hr)<|aa 2<|ak<|al<|iI h▸E0))) λjp2 h=>ah<|aa 3<|bI h λr3 hr h=>bJ (sf hr)<|aX [] [1,2,3,6,14] 2<|cn (λb=>(sp 30 (K52 p1 p2 p0 [(14,vB b)]) H)) h (λh=>aa 4<|af<|JQ [] h) λh=>aa 1<|bI h λr4 hr h=>bJ (vV hr)<|aa 2<|af<|JQ [] h
noncomputable def eK (fuel:Nat) (p0:Nat) (p1:(List Value)) (p2:Int) (p3:(List Value)) (H:Hp):Option ((Int)×Hp):=
 (hU fuel p0 p1 p2 H).bind λr1=>
 bz (λ(j2:Bool)=>
  bif j2 then
   some (1,H)
  else
   (jo fuel p0 p1 p2 H).bind λr6=>
   bz (λ(j7:Hp)=>
    (fB fuel p0 r6.1.1 j7).bind λr13=>
    (bE (cI .i64).cell r13.2 p0 5).bind λx14=>
    (ee (cI .i64) r13.2 p0 5 (IntKind.wrap .i64 (x14+1))).bind λH15=>
    (dx fuel p3).bind λr16=>
    (bE (cI .i64).cell H15 p0 5).bind λx17=>
    (eG fuel p0 (⟨r16,p2,x17⟩:Entry) H15).bind λr18=>
    some (0,r18.2)) λjp8=>
   bif (!r6.1.2.2)then
    some (8,r6.2)
   else
    (bE dG.cells r6.2 p0 0).bind λx9=>
    (pE fuel x9 p1 p3).bind λr10=>
    bif (r10==0)then
     some (0,r6.2)
    else
     (bE (cI .i64).cell r6.2 p0 2).bind λx11=>
     bif (x11==1)then
      (kQ fuel p0 p3 r6.2).bind λr12=>
      bif r12.1 then
       some (6,r12.2)
      else
       jp8 r12.2
     else
      jp8 r6.2) λjp3=>
 bif (r1 !=0)then
  jp3 true
 else
  (bE dG.cells H p0 0).bind λx4=>
  (uY fuel x4 p3).bind λr5=>
  jp3 (!r5)
theorem zr(h:eK fuel p0 p1 p2 p3 H=some r):SC Tryz.prog false 38 [.d (.ptr p0 0),.d (.list 3 (List.map ay p1)),vI p2,.d (.list 3 (List.map ay p3))] H (vI r.1) r.2:=by
 refine dr Tryz.func38 rfl ?_
 unfold eK at h
 exact aI 80 H (K37 p0 p1 p2 [(3,Z9 p3)])<|ar 1<|an<|aA<|aa 3<|bI h λr1 hr h=>mc (ls:=[]) (nF hr)<|aa 1<|ak<|gr 80 H [0,1,2,3,27] (λ(j2:Bool)=>(K37 p0 p1 p2 [(3,Z9 p3),(27,vB j2)])) h (λj2 h=>aT h (λh=>ar 1<|al<|aq<|iI h▸E0) (λh=>ao<|ag<|aA<|aa 3<|bI h λr6 hr h=>b8 (rW hr)<|aa 8<|ak<|sY 80 [0,2,3,10] (λ(j7:Hp)=>[(0,.d (.ptr p0 0)),(2,vI p2),(3,Z9 p3),(10,Ui r6)]) (λ(j7:Hp)=>j7) h (λj7 h=>aA<|aa 2<|bI h λr13 hr h=>b8 (pX hr)<|ak<|aA<|aa 3<|bI h λx14 hx h=>ax (s:=vI x14) (aF hx)<|aa 3<|bI h λH15 hx h=>ga hx<|ak<|an<|bI h λr16 hr_2 h=>bI h λx17 hx17 h=>bI h λr18 hr_9 h=>aI 80 H15 [(0,.d (.ptr p0 0)),(2,vI p2),(3,Z9 p3)]<|gW 80 r18.2 [] [0,1,3,4,5,6] 4 123 κ κ κ (λX hX=>by subst hX;exact aB<|aB<|aB<|aB<|aB<|dp 80 H15 [70,71,73,76] [(70,.d (.ptr p0 0)),(71,Z9 p3),(73,vI p2),(76,.d (.ptr p0 5))] κ<|dX<|nA [] [(2,eV _),(7,eV (vI x17)),(8,eF 72),(9,eH _ _)] ⟨Cn (ke hr_2),Ac (c:=(cI .i64).cell) hx17,zo,RQ (pY hr_9),trivial⟩) (ag<|ar 1<|al<|iI h▸E0)) λjp8 h=>aM<|ar 1<|aT h (λh=>ar 1<|al<|aQ<|aq<|iI h▸E0) (λh=>aA<|aa 3<|bI h λx9 hx h=>ax (s:=.d (.agg [.list 1 (List.map (D.int .i64) x9.aG),.list 1 (List.map D.bool x9.Down),.int .i64 x9.eD])) (aF hx)<|aa 2<|bI h λr10 hr h=>bJ (oe hr)<|aa 2<|ak<|aT h (λh=>ar 1<|al<|aQ<|aq<|iI h▸E0) (λh=>aA<|aa 4<|bI h λx11 hx h=>ax (s:=vI x11) (aF hx)<|aX [] [0,2,3,10,55] 2<|cn (λb=>(sp 80 [(0,.d (.ptr p0 0)),(2,vI p2),(3,Z9 p3),(10,Ui r6),(55,vB b)] r6.2)) h (λh=>aa 2<|bI h λr12 hr h=>b8 (ux hr)<|aa 2<|ak<|aT h (λh=>ar 1<|al<|aQ<|aq<|iI h▸E0) (λh=>ao<|aR<|JQ [] h)) λh=>aa 5<|ak<|jK<|ao<|aR<|JQ [] h)))) λjp3 h=>ah<|aX [] [0,1,2,3,19] 3<|cn (λb=>(sp 80 (K37 p0 p1 p2 [(3,Z9 p3),(19,vB b)]) H)) h (λh=>aa 8<|af<|JQ [] h) λh=>aa 3<|bI h λx4 hx h=>ax (s:=.d (.agg [.list 1 (List.map (D.int .i64) x4.aG),.list 1 (List.map D.bool x4.Down),.int .i64 x4.eD])) (aF hx)<|aa 1<|bI h λr5 hr h=>bJ (xr hr)<|aa 2<|af<|JQ [] h
def lN(fuel:Nat)(p0:Tree)(p1:(List Value))(p2:Int)(p3:(List Value)):Option (Tree×Int):=
 bz (λ(j1:Bool)=>
  bif j1 then
   some (p0,1)
  else
   (ou fuel p0 p1 p2).bind λr6=>
   bif (decide (r6<0))then
    some (p0,8)
   else
    (ku fuel p1 p3).bind λr7=>
    bif r7 then
     some (p0,0)
    else
     (gn fuel p0 r6).bind λr8=>
     (iU fuel r8 p3 p2).bind λr9=>
     bif (r9.2.2 !=0)then
      some (p0,r9.2.2)
     else
      some (r9.1,0)) λjp2=>
 (rD fuel p0.S p1).bind λr3=>
 bif (!r3)then
  jp2 true
 else
  (vW fuel p2).bind λr4=>
  bif (!r4)then
   jp2 true
  else
   (rD fuel p0.S p3).bind λr5=>
   jp2 (!r5)
theorem zx(h:lN fuel p0 p1 p2 p3=some r):PC Tryz.prog 39 [.d (n9 p0),.d (.list 3 (List.map ay p1)),vI p2,.d (.list 3 (List.map ay p3))] (.iQ [.d (.agg [.list 1 (List.map (D.int .i64) r.1.S.aG),.list 1 (List.map D.bool r.1.S.Down),.int .i64 r.1.S.eD,.int .i64 r.1.Order,.list 3 (List.map ab r.1.fk),.int .i64 r.1.gK]),vI r.2]):=by
 refine aW Tryz.func39 rfl λH=>?_
 unfold lN at h
 exact aI 60 H [(0,wQ p0),(1,Z9 p1),(2,vI p2),(3,Z9 p3)]<|ar 1<|an<|gr 60 H [1,2,3,4,8,30] (λ(j1:Bool)=>[(1,Z9 p1),(2,vI p2),(3,Z9 p3),(4,sU p0),(8,uq),(30,vB j1)]) h (λj1 h=>aT h (λh=>ar 1<|al<|aq<|iI h▸E0) (λh=>ao<|ag<|aA<|aa 3<|bI h λr6 hr h=>bJ (vY hr)<|aa 1<|ak<|an<|aM<|ar 1<|aT h (λh=>ar 1<|al<|aQ<|aq<|iI h▸E0) (λh=>aA<|aa 2<|bI h λr7 hr h=>bJ (pn hr)<|aa 1<|ak<|aT h (λh=>ar 1<|al<|aQ<|aq<|iI h▸E0) (λh=>ao<|aR<|ag<|aA<|aa 2<|bI h λr8 hr h=>bJ (pk hr)<|aa 2<|bI h λr9 hr h=>bJ (qd hr)<|aa 8<|ak<|an<|ar 1<|aT h (λh=>ar 1<|al<|aq<|iI h▸E0) (λh=>ao<|ag<|ar 1<|al<|iI h▸E0))))) λjp2 h=>ah<|aa 3<|bI h λr3 hr h=>bJ (sf hr)<|aX [] [1,2,3,4,8,19] 2<|cn (λb=>(sp 60 [(1,Z9 p1),(2,vI p2),(3,Z9 p3),(4,sU p0),(8,uq),(19,vB b)] H)) h (λh=>aa 11<|af<|JQ [] h) λh=>aa 1<|bI h λr4 hr h=>bJ (vV hr)<|aX [] [1,2,3,4,8,24] 3<|cn (λb=>(sp 60 [(1,Z9 p1),(2,vI p2),(3,Z9 p3),(4,sU p0),(8,uq),(24,vB b)] H)) h (λh=>aa 6<|af<|JQ [] h) λh=>aa 3<|bI h λr5 hr h=>bJ (sf hr)<|aa 2<|af<|JQ [] h
def gS(fuel:Nat)(H:Hp)(y2:Int×(Option Nat)):Option ((Int×(Option Nat))⊕(Int)):=
 y2.2.bind λi3=>
 (cT fuel i3 H).bind λr4=>
 bif (!r4)then
  (bL 1 cP H i3 1).bind λx5=>
  (idx x5 0).bind λx6=>
  some (.inl ((IntKind.wrap .i64 (y2.1+1)),x6))
 else
  some (.inr y2.1)
def iS(fuel:Nat)(p0:Nat)(H:Hp):Option (Int):=
 (bE cP.cell H p0 4).bind λx1=>
 (iter (gS fuel H) fuel (1,x1)).bind λv8=>
 some v8
theorem gR(h:iS fuel p0 H=some r):SC Tryz.prog true 10 [.d (.ptr p0 0)] H (vI r) H:=by
 refine fT Tryz.func10 rfl ?_
 unfold iS at h
 exact aI 23 H [(0,.d (.ptr p0 0))]<|ar 1<|an<|ar 1<|jK<|ao<|ag<|ar 1<|an<|aA<|aa 3<|bI h λx1 hx h=>ax (s:=.d (cP.enc x1)) (aF hx)<|aa 1<|ak<|aM<|bI h λv8 hit h=>fM 23 H [3,4] (λy2=>[(3,vI y2.1),(4,.d (cP.enc y2.2))]) (λv8 e s=>(e=.exit 0/\s=(sp 23 [(3,vI v8)] H))) hit κ (λy2 o h=>by unfold gS at h;exact an<|aA<|aX [] [3,4,11] 1<|bI h λi3 hp_i3 h=>bH y2.2 (λp=>(sp 23 [(3,vI y2.1),(4,.d (cP.enc p)),(11,.d (cP.enc p))] H)) κ hp_i3<|bI h λr4 hr h=>mc (ls:=[]) (eJ hr)<|aa 1<|ak<|aT h (λh=>ao<|ag<|an<|aM<|ah<|aa 3<|af<|aR<|ag<|ah<|aa 3<|bI h λx5 hx h=>ax (aY hx)<|bI h λx6 hx h=>ax (s:=bb (some (.au i3 1)) [cP.enc x6]) (cz (n:=1) hx)<|aa 2<|af<|LQ h) (λh=>aI 23 H [(3,vI y2.1)]<|bT<|ba<|ba<|LR h ⟨rfl,rfl⟩)) (by rintro _ _ ⟨rfl,rfl⟩;exact bw<|ag<|ar 1<|al<|iI h▸E0)
structure Node where
 Level:Int
 Entries:(List Entry)
 Kids:(List Int)
 deriving DecidableEq,Inhabited
def cj(x:Node):D:=.agg [.int .i64 x.Level,.list 3 (List.map ab x.Entries),.list 1 (List.map (D.int .i64) x.Kids)]
def Sy:Cl Node:=((cI .i64).one.pair ((cL 3 aP).one.pair (cL 1 (cI .i64)).one)).Ux (λp=>(⟨p.1,p.2.1,p.2.2⟩:Node)) (λx=>(x.Level,x.Entries,x.Kids)) (λ_=>rfl) (λ_=>rfl)
def BL:Cd Node:=Sy.agg
def lM(x:Node)(e u:Go.Value):D:=.agg [.int .i64 x.Level,.raw e,.raw u]
def k7(l:List Node)(us:List Go.Value):KS:=List.zipWith (λx u=>(u,some x.Kids)) l us
def zF(l:List Node)(es:List Go.Value):ES:=List.zipWith (λx e=>(e,List.map ab x.Entries)) l es
def bA(l:List Node)(us es:List Go.Value):List D:=List.zipWith (λ(x:Node) (p:Go.Value×Go.Value)=>lM x p.1 p.2) l (es.zip us)
end
theorem ph{α β γ:Type}{f:α->β->γ}: ∀(l:List α) (us:List β) (i:Nat) (x:α) (u:β),List.zipWith f (l.set i x) (us.set i u)=(List.zipWith f l us).set i (f x u)
 |[],us,i,x,u=>by simp
 |a::l,[],i,x,u=>by simp
 |a::l,b::us,0,x,u=>by simp
 |a::l,b::us,i+1,x,u=>by simp[ph l us i x u]
theorem N6(h:us.length=l.length):(k7 l us).length=l.length:=by simp[k7,h]
theorem oF(h:us.length=l.length)(he:es.length=l.length):(bA l us es).length=l.length:=by simp[bA,h,he]
theorem vC{l:List Node}{us es:List Go.Value}{i:Nat}{x:Node}{u e:Go.Value}(hx:l[i]? =some x)(hu:us[i]? =some u)(he:es[i]? =some e):(bA l us es)[i]? =some (lM x e u):=by
 simp[bA,v_7,hx,List.zip,hu,he]
theorem Ad{l:List Node}{us es:List Go.Value}{i:Nat}{x:Node}{u e:Go.Value}(he:es[i]? =some e):bA (l.set i x) (us.set i u) es=(bA l us es).set i (lM x e u):=by
 have h1:es.zip (us.set i u)=(es.zip us).set i (e,u):=by
  have:es=es.set i e:=by
   refine m_6 λj=>?_
   rw[List.getElem?_set]
   split
   .rename_i h;subst h
    split
    .exact he
    .rename_i h;rw[List.getElem?_eq_none ω]at he;cases he
   .rfl
  conv=>lhs;rw[this]
  exact ph es us i e u
 rw[bA,h1,ph]
 rfl
theorem Mg(h:l[i]? =some x)(k:List Int):zF (l.set i {x with Kids:=k}) es=zF l es:=by
 refine m_6 λj=>?_
 simp only[zF,v_7,List.getElem?_set]
 by_cases e:i=j
 .subst e
  obtain⟨h1,h2⟩:=g_5.1 h
  simp only[h1,h2,if_true,h]
  cases es[i]? <;>rfl
 .simp[e]
def Ur(x0:Int):SV:=.box [vI x0,.d (.cG),.d (.cG)]
def Lm(x0:Nat)(x1:(List Entry)):SV:=.cq (.au x0 0) 3 (List.map ab x1)
def Vk(x0:Entry):SV:=.box [.d (.list 3 (List.map ay x0.Row)),vI x0.Key,vI x0.Number]
def JX(x0:Entry):SV:=.d (.agg [.list 3 (List.map ay x0.Row),.int .i64 x0.Key,.int .i64 x0.Number])
def Io(x0:Entry):SV:=.own 3 (List.map ab [x0])
def Vn(x0:Int):SV:=.box [vI x0,.own 3 (List.map ab ([]:List Entry)),.d (.cG)]
def Ta(x0:Int×(List Entry)×Int):SV:=.box [vI x0.1,.own 3 (List.map ab x0.2.1),.d (.cG)]
def Vm(x0:Int×(List Entry)×Int)(x1:(List Entry)):SV:=vB (decide (x0.2.2<(x1.length:Int)))
def S9(x0:Int×(List Entry)×Int):SV:=.box [vI x0.1,.undef,.d (.cG)]
def Cj(x0:Int×(List Entry)×Int):SV:=.own 3 (List.map ab x0.2.1)
def Rb(x0:Int×(List Entry)×Int)(x1:Entry):SV:=.box [vI x0.1,.own 3 (List.map ab (x0.2.1++[x1])),.d (.cG)]
def Ra(x0:Int×(List Entry)×Int)(x1:Entry):SV:=.own 3 (List.map ab (x0.2.1++[x1]))
def Vl(x0:Int×(List Entry)×Int):SV:=vI (IntKind.wrap .i64 (x0.2.2+1))
def gy(fuel:Nat)(x1:(List Entry))(y2:Int×(List Entry)×Int):Option ((Int×(List Entry)×Int)⊕(Int×(List Entry))):=
 bif (decide (y2.2.2<(x1.length:Int)))then
  (idx x1 y2.2.2).bind λx3=>
  (Ap fuel x3).bind λr4=>
  ff (decide ((y2.2.1++[r4]).length<=room))<|
  some (.inl (y2.1,(y2.2.1++[r4]),(IntKind.wrap .i64 (y2.2.2+1))))
 else
  some (.inr (y2.1,y2.2.1))
def ye(l:List Node)(j:Nat)(i:Int):Option (List Node):=match l[j]? with
 |some x=>ff (decide ((x.Kids++[i]).length<=room)) (some (l.set j {x with Kids:=x.Kids++[i]}))
 |none=>none
theorem JD(h:ye l j i=some l'): ∃x,l[j]? =some x/\decide ((x.Kids++[i]).length<=room)=true/\l'=l.set j {x with Kids:=x.Kids++[i]}:=by
 unfold ye at h
 split at h
 .rename_i x hx
  obtain⟨hk,h⟩:=rh h
  cases h
  exact⟨x,hx,hk,rfl⟩
 .cases h
def mB(rc:Nat->Int->List Node->Option (Int×List Node))(lv:Int)(at_:Nat)(ks:List (Option Nat))(y:Int×List Node):Option ((Int×List Node)⊕List Node):=
 cond (decide (y.1<(ks.length:Int))) ((idx ks y.1).bind λk=>k.bind λk=>(rc k (IntKind.wrap .i64 (lv - 1)) y.2).bind λr=>(ye r.2 at_ r.1).bind λl'=>some (.inl (IntKind.wrap .i64 (y.1+1),l'))) (some (.inr y.2))
def nj(fuel:Nat)(H:Hp):Nat->Nat->Int->List Node->Option (Int×List Node)
 |0,_,_,_=>none
 |s+1,p0,p1,l=>
  (bL 3 aP H p0 0).bind λx1=>
  (iter (gy fuel x1) fuel (p1,([]:List Entry),0)).bind λv7=>
  ff (decide (l.length+1<=room))<|
  (bL 1 cP H p0 1).bind λks=>
  (iter (mB (nj fuel H s) p1 l.length ks) fuel (0,l++[⟨v7.1,v7.2,[]⟩])).bind λl'=>some ((l.length:Int),l')
def xY(oi di:Nat):D:=.fn (.func 43) [] [.ptr oi 0,.ptr di 0]
def K0:=λa0 a1 a2 a3 a4 a5 a6 a7 (t:SL)=>((1,vI a0)::(2,.d (.ptr a1 0))::(3,.d (.ptr a2 0))::(7,vI (a3:Int))::(43,.cq (.au a4 1) 1 (List.map cP.enc a5))::(44,vI (a6:Int))::(45,vI a7)::t:SL)
def K2:=λa0 a1 a2 a3 a4 (t:SL)=>((0,.d (.ptr a0 0))::(1,vI a1)::(2,.d (.ptr a2 0))::(3,.d (.ptr a3 0))::(7,vI (a4:Int))::t:SL)
def K10:=λa0 a1 (t:SL)=>((0,.d (.ptr a0 0))::(1,vI a1)::t:SL)
def K16:=λa0 a1 a2 a3 a4 a5 a6 a7 a8 a9 (t:SL)=>((1,vI a0)::(2,.d (.ptr a1 0))::(3,.d (.ptr a2 0))::(7,vI (a3:Int))::(43,.cq (.au a4 1) 1 (List.map cP.enc a5))::(44,vI (a6:Int))::(45,vI a7)::(54,.d (.raw a8))::(55,vI (a9:Int))::t:SL)
def K18:=λa0 a1 a2 a3 a4 a5 a6 a7 a8 a9 (t:SL)=>((0,.d (.ptr a0 0))::(1,vI a1)::(2,.d (.ptr a2 0))::(3,.d (.ptr a3 0))::(7,vI (a4:Int))::(8,Ta a5)::(22,Lm a6 a7)::(23,vI (a8:Int))::(24,vI a9)::t:SL)
def K23:=λa0 a1 a2 a3 (t:SL)=>((1,vI a0)::(2,.d (.ptr a1 0))::(3,.d (.ptr a2 0))::(7,vI (a3:Int))::t:SL)
def K24:=λa0 a1 a2 a3 a4 a5 a6 a7 a8 a9 (t:SL)=>((0,.d (.ptr a0 0))::(1,vI a1)::(2,.d (.ptr a2 0))::(3,.d (.ptr a3 0))::(7,vI (a4:Int))::(8,S9 a5)::(22,Lm a6 a7)::(23,vI (a8:Int))::(24,vI a9)::t:SL)
def K48:=λa0 a1 a2 a3 a4 a5 a6 a7 a8 (t:SL)=>((1,vI a0)::(2,.d (.ptr a1 0))::(3,.d (.ptr a2 0))::(7,vI (a3:Int))::(43,.cq (.au a4 1) 1 (List.map cP.enc a5))::(44,vI (a6:Int))::(45,vI a7)::(55,vI (a8:Int))::t:SL)
def K60:=λa0 a1 a2 a3 a4 a5 a6 a7 a8 a9 a10 (t:SL)=>((0,.d (.ptr a0 0))::(1,vI a1)::(2,.d (.ptr a2 0))::(3,.d (.ptr a3 0))::(7,vI (a4:Int))::(8,Ta a5)::(10,Vk a6)::(22,Lm a7 a8)::(23,vI (a9:Int))::(24,vI a10)::t:SL)
theorem FW{fuel oi di:Nat}{H:Hp}(hne:di≠oi)(hoi:H[oi]? =some .hole): ∀(s p0:Nat) (p1:Int) (l:List Node) (us es:List Go.Value) (v:Go.Value) (q:Int×List Node),us.length=l.length->es.length=l.length->nj fuel H s p0 p1 l=some q->
  Vj Tryz.prog oi di 3 (xY oi di) 43 [.d (.ptr p0 0),vI p1,.d (.ptr oi 0),.d (.ptr di 0)] (H.set oi (.cells [.own 3 (bA l us es)])) ((v,k7 l us),zF l es)
   (λs' H' r=> ∃us' es',us'.length=q.2.length/\es'.length=q.2.length/\s'.1.2=k7 q.2 us'/\s'.2=zF q.2 es'/\H'=H.set oi (.cells [.own 3 (bA q.2 us' es')])/\r=q.1):=by
 intro s
 induction s with
 |zero=>intro p0 p1 l us es v q _ _ h;cases h
 |succ s ih=>
  intro p0 p1 l us es v q hlen hle h
  unfold nj at h
  obtain⟨x1,hx0,h1⟩:=bS h
  obtain⟨v7,hit0,h2⟩:=bS h1
  obtain⟨hroom0,h3⟩:=rh h2
  obtain⟨ks,hks,h4⟩:=bS h3
  obtain⟨lq,hit,h5⟩:=bS h4
  cases h5
  clear h h1 h2 h3 h4
  obtain⟨hx0',-⟩:=Dz (X:=.cells [.own 3 (bA l us es)]) hx0 hoi
  have hHs:(H.set oi (.cells [.own 3 (bA l us es)]))[oi]? =some (.cells [.own 3 (bA l us es)]):=g_0 (aU hoi)
  have hroom: ∀e1,(bA l us es++[D.agg [.int .i64 v7.1,.raw e1,.cG]]).length<=room:=λe1=>by
   have:=of_decide_eq_true hroom0
   simp[oF hlen hle];omega
  simp only at ih ⊢
  refine HO Tryz.func43 rfl rfl<|jd 68 (H.set oi (.cells [.own 3 (bA l us es)])) [0,1,2,3] (K10 p0 p1 [(2,.d (.ptr oi 0)),(3,.d (.ptr di 0))]) κ<|bQ (jH hne)<|dF (jH hne)<|ah<|aK 1 (K10 p0 p1 [(2,.d (.ptr oi 0)),(3,.d (.ptr di 0))])<|af<|bX<|bQ (jH hne)<|dF (jH hne)<|ah<|
   bB (d:=some 14) (s:=.cq (.au oi 0) 3 (bA l us es)) (K10 p0 p1 [(2,.d (.ptr oi 0)),(3,.d (.ptr di 0)),(14,.cq (.au oi 0) 3 (bA l us es))]) (tx hHs rfl κ)<|aK 2 (K10 p0 p1 [(2,.d (.ptr oi 0)),(3,.d (.ptr di 0)),(7,vI ((bA l us es).length:Int))])<|af ?_
  rw[oF hlen hle]
  refine bX<|bQ (jH hne)<|dF (jH hne)<|ah<|aK 4 (K2 p0 p1 oi di l.length [(8,Ur p1)])<|af<|bX<|bQ (jH hne)<|dF (jH hne)<|aA<|aK 4 (K2 p0 p1 oi di l.length [(8,Ur p1),(21,.d (.ptr p0 0))]) ?_
  refine bB (d:=some 22) (s:=.cq (.au p0 0) 3 (List.map ab x1)) (K2 p0 p1 oi di l.length [(8,Ur p1),(22,Lm p0 x1)]) (aY (c:=aP) hx0' κ)<|bB (d:=some 23) (K2 p0 p1 oi di l.length [(8,Ur p1),(22,Lm p0 x1),(23,vI (x1.length:Int))]) (aJ (enc:=ab) (xs:=x1) κ)<|aK 1 (K2 p0 p1 oi di l.length [(8,Ur p1),(22,Lm p0 x1),(23,vI (x1.length:Int)),(24,vI 0)])<|ak<|aM ?_
  refine Pf 8 1 3 68 (H.set oi (.cells [.own 3 (bA l us es)])) [0,1,2,3,7,8,22,23,24] (K2 p0 p1 oi di l.length [(8,Vn p1),(22,Lm p0 x1),(23,vI (x1.length:Int)),(24,vI 0)]) κ ?_
  refine fM 68 (H.set oi (.cells [.own 3 (bA l us es)])) [0,1,2,3,7,8,22,23,24] (λy2=>(K2 p0 p1 oi di l.length [(8,.box [vI y2.1,.own 3 (List.map ab y2.2.1),.d (.cG)]),(22,Lm p0 x1),(23,vI (x1.length:Int)),(24,vI y2.2.2)])) (λv7 e s=>(e=.exit 0/\s=(sp 68 (K2 p0 p1 oi di l.length [(8,.box [vI v7.1,.own 3 (List.map ab v7.2),.d (.cG)])]) (H.set oi (.cells [.own 3 (bA l us es)]))))) hit0 κ (λy2 o h=>?_) ?_
  .unfold gy at h
   refine Uq 1 (K18 p0 p1 oi di l.length y2 p0 x1 x1.length y2.2.2 [(25,Vm y2 x1)])<|an ?_
   refine B2 (decide (y2.2.2<(x1.length:Int))) (λhc=>?_) (λhc=>?_)
   .replace h:=fh hc h
    refine ao<|ag<|an<|aM<|aA ?_
    obtain⟨x3,hx,h⟩:=bS h
    refine bB (d:=some 26) (s:=bb (some (.au p0 0)) (ab x3).cells) (K18 p0 p1 oi di l.length y2 p0 x1 x1.length y2.2.2 [(26,.eW (.au p0 0) [.list 3 (List.map ay x3.Row),.int .i64 x3.Key,.int .i64 x3.Number])]) (aD (n:=3) hx κ)<|aK 3 (K60 p0 p1 oi di l.length y2 x3 p0 x1 x1.length y2.2.2 [])<|ak ?_
    obtain⟨r4,hr_3,h⟩:=bS h
    obtain⟨hk5,h⟩:=rh h
    refine BZ 68 (H.set oi (.cells [.own 3 (bA l us es)])) [0,1,2,3,7,8,10,22,23,24] (K60 p0 p1 oi di l.length y2 x3 p0 x1 x1.length y2.2.2 []) κ ?_
    refine Pe 68 (H.set oi (.cells [.own 3 (bA l us es)])) (K2 p0 p1 oi di l.length [(8,Rb y2 r4),(22,Lm p0 x1),(23,vI (x1.length:Int)),(24,vI y2.2.2)]) κ (λX hX=>?_) ?_
    .have c255:X 0 255 (sp 68 (K2 p0 p1 oi di l.length [(8,Rb y2 r4),(22,Lm p0 x1),(23,vI (x1.length:Int)),(24,vI y2.2.2)]) (H.set oi (.cells [.own 3 (bA l us es)]))):=by subst hX;exact pA κ
     have c127:X 1 127 (sp 68 (K24 p0 p1 oi di l.length y2 p0 x1 x1.length y2.2.2 [(33,Ra y2 r4),(34,.loc 8 1)]) (H.set oi (.cells [.own 3 (bA l us es)]))):=by subst hX;exact aV 7 [] ⟨Pr 68 (H.set oi (.cells [.own 3 (bA l us es)])) [0,1,2,3,7,8,22,23,24] (K2 p0 p1 oi di l.length [(8,Rb y2 r4),(22,Lm p0 x1),(23,vI (x1.length:Int)),(24,vI y2.2.2)]) κ<|af c255,trivial⟩
     have c63:X 2 63 (sp 68 (K24 p0 p1 oi di l.length y2 p0 x1 x1.length y2.2.2 [(33,Ra y2 r4)]) (H.set oi (.cells [.own 3 (bA l us es)]))):=by subst hX;exact aV 6 [] ⟨bm 68 (H.set oi (.cells [.own 3 (bA l us es)])) [29] [0,1,2,3,7,8,22,23,24,33,34] 1 (K24 p0 p1 oi di l.length y2 p0 x1 x1.length y2.2.2 [(33,Ra y2 r4),(34,.loc 8 1)]) κ<|af c127,trivial⟩
     have c31:X 3 31 (sp 68 (K24 p0 p1 oi di l.length y2 p0 x1 x1.length y2.2.2 [(29,Cj y2),(32,Io r4)]) (H.set oi (.cells [.own 3 (bA l us es)]))):=by subst hX;exact aV 5 [] ⟨qD 68 (H.set oi (.cells [.own 3 (bA l us es)])) (s:=29) (d:=33) (w:=3) [0,1,2,3,7,8,22,23,24,33] (zs:=List.map ab (y2.2.1++[r4])) (K24 p0 p1 oi di l.length y2 p0 x1 x1.length y2.2.2 [(33,Ra y2 r4)]) (ys:=(List.map ab [r4])) κ (bF) (cC hk5) κ<|af c63,trivial⟩
     have c15:X 4 15 (sp 68 (K24 p0 p1 oi di l.length y2 p0 x1 x1.length y2.2.2 [(29,Cj y2),(31,JX r4)]) (H.set oi (.cells [.own 3 (bA l us es)]))):=by subst hX;exact aV 4 [] ⟨bm 68 (H.set oi (.cells [.own 3 (bA l us es)])) [29] [0,1,2,3,7,8,22,23,24,29,32] 1 (K24 p0 p1 oi di l.length y2 p0 x1 x1.length y2.2.2 [(29,Cj y2),(32,Io r4)]) κ<|af c31,trivial⟩
     have c7:X 5 7 (sp 68 (K24 p0 p1 oi di l.length y2 p0 x1 x1.length y2.2.2 [(29,Cj y2),(30,JX x3)]) (H.set oi (.cells [.own 3 (bA l us es)]))):=by subst hX;exact aV 3 [] ⟨ub (some 31) (K24 p0 p1 oi di l.length y2 p0 x1 x1.length y2.2.2 [(29,Cj y2),(31,.d (.agg [.list 3 (List.map ay r4.Row),.int .i64 r4.Key,.int .i64 r4.Number]))]) (oK hr_3)<|af c15,trivial⟩
     have c3:X 6 3 (sp 68 (K2 p0 p1 oi di l.length [(8,S9 y2),(10,Vk x3),(22,Lm p0 x1),(23,vI (x1.length:Int)),(24,vI y2.2.2),(29,Cj y2)]) (H.set oi (.cells [.own 3 (bA l us es)]))):=by subst hX;exact aV 2 [] ⟨bm 68 (H.set oi (.cells [.own 3 (bA l us es)])) [29] [0,1,2,3,7,8,22,23,24,29,30] 1 (K24 p0 p1 oi di l.length y2 p0 x1 x1.length y2.2.2 [(29,Cj y2),(30,JX x3)]) κ<|af c7,trivial⟩
     have c29:X 4 29 (sp 68 (K18 p0 p1 oi di l.length y2 p0 x1 x1.length y2.2.2 [(28,.loc 8 1),(32,Io r4)]) (H.set oi (.cells [.own 3 (bA l us es)]))):=by subst hX;exact aV 1 [] ⟨w5 68 (H.set oi (.cells [.own 3 (bA l us es)])) [0,1,2,3,7,8,22,23,24,29,32] (K24 p0 p1 oi di l.length y2 p0 x1 x1.length y2.2.2 [(29,Cj y2),(32,Io r4)]) κ<|af c31,trivial⟩
     have c13:X 5 13 (sp 68 (K18 p0 p1 oi di l.length y2 p0 x1 x1.length y2.2.2 [(28,.loc 8 1),(31,JX r4)]) (H.set oi (.cells [.own 3 (bA l us es)]))):=by subst hX;exact aV 1 [4] ⟨w5 68 (H.set oi (.cells [.own 3 (bA l us es)])) [0,1,2,3,7,8,22,23,24,29,31] (K24 p0 p1 oi di l.length y2 p0 x1 x1.length y2.2.2 [(29,Cj y2),(31,JX r4)]) κ<|af c15,bm 68 (H.set oi (.cells [.own 3 (bA l us es)])) [29] [0,1,2,3,7,8,22,23,24,28,32] 1 (K18 p0 p1 oi di l.length y2 p0 x1 x1.length y2.2.2 [(28,.loc 8 1),(32,Io r4)]) κ<|af c29,trivial⟩
     have c5:X 6 5 (sp 68 (K18 p0 p1 oi di l.length y2 p0 x1 x1.length y2.2.2 [(28,.loc 8 1),(30,JX x3)]) (H.set oi (.cells [.own 3 (bA l us es)]))):=by subst hX;exact aV 1 [3] ⟨w5 68 (H.set oi (.cells [.own 3 (bA l us es)])) [0,1,2,3,7,8,22,23,24,29,30] (K24 p0 p1 oi di l.length y2 p0 x1 x1.length y2.2.2 [(29,Cj y2),(30,JX x3)]) κ<|af c7,ub (some 31) (K18 p0 p1 oi di l.length y2 p0 x1 x1.length y2.2.2 [(28,.loc 8 1),(31,JX r4)]) (oK hr_3)<|af c13,trivial⟩
     have c1:X 7 1 (sp 68 (K60 p0 p1 oi di l.length y2 x3 p0 x1 x1.length y2.2.2 [(28,.loc 8 1)]) (H.set oi (.cells [.own 3 (bA l us es)]))):=by subst hX;exact aV 1 [2] ⟨w5 68 (H.set oi (.cells [.own 3 (bA l us es)])) [0,1,2,3,7,8,10,22,23,24,29] (K2 p0 p1 oi di l.length [(8,S9 y2),(10,Vk x3),(22,Lm p0 x1),(23,vI (x1.length:Int)),(24,vI y2.2.2),(29,Cj y2)]) κ<|af c3,bm 68 (H.set oi (.cells [.own 3 (bA l us es)])) [29] [0,1,2,3,7,8,22,23,24,28,30] 1 (K18 p0 p1 oi di l.length y2 p0 x1 x1.length y2.2.2 [(28,.loc 8 1),(30,JX x3)]) κ<|af c5,trivial⟩
     have c28:X 5 28 (sp 68 (K18 p0 p1 oi di l.length y2 p0 x1 x1.length y2.2.2 [(32,Io r4)]) (H.set oi (.cells [.own 3 (bA l us es)]))):=by subst hX;exact aV 0 [] ⟨bm 68 (H.set oi (.cells [.own 3 (bA l us es)])) [29] [0,1,2,3,7,8,22,23,24,28,32] 1 (K18 p0 p1 oi di l.length y2 p0 x1 x1.length y2.2.2 [(28,.loc 8 1),(32,Io r4)]) κ<|af c29,trivial⟩
     have c12:X 6 12 (sp 68 (K18 p0 p1 oi di l.length y2 p0 x1 x1.length y2.2.2 [(31,JX r4)]) (H.set oi (.cells [.own 3 (bA l us es)]))):=by subst hX;exact aV 0 [4] ⟨bm 68 (H.set oi (.cells [.own 3 (bA l us es)])) [29] [0,1,2,3,7,8,22,23,24,28,31] 1 (K18 p0 p1 oi di l.length y2 p0 x1 x1.length y2.2.2 [(28,.loc 8 1),(31,JX r4)]) κ<|af c13,bm 68 (H.set oi (.cells [.own 3 (bA l us es)])) [29] [0,1,2,3,7,8,22,23,24,32] 1 (K18 p0 p1 oi di l.length y2 p0 x1 x1.length y2.2.2 [(32,Io r4)]) κ<|af c28,trivial⟩
     have c4:X 7 4 (sp 68 (K18 p0 p1 oi di l.length y2 p0 x1 x1.length y2.2.2 [(30,JX x3)]) (H.set oi (.cells [.own 3 (bA l us es)]))):=by subst hX;exact aV 0 [3] ⟨bm 68 (H.set oi (.cells [.own 3 (bA l us es)])) [29] [0,1,2,3,7,8,22,23,24,28,30] 1 (K18 p0 p1 oi di l.length y2 p0 x1 x1.length y2.2.2 [(28,.loc 8 1),(30,JX x3)]) κ<|af c5,ub (some 31) (K18 p0 p1 oi di l.length y2 p0 x1 x1.length y2.2.2 [(31,JX r4)]) (oK hr_3)<|af c12,trivial⟩
     have c0:X 8 0 (sp 68 (K60 p0 p1 oi di l.length y2 x3 p0 x1 x1.length y2.2.2 []) (H.set oi (.cells [.own 3 (bA l us es)]))):=by subst hX;exact aV 0 [2] ⟨bm 68 (H.set oi (.cells [.own 3 (bA l us es)])) [29] [0,1,2,3,7,8,10,22,23,24,28] 1 (K60 p0 p1 oi di l.length y2 x3 p0 x1 x1.length y2.2.2 [(28,.loc 8 1)]) κ<|af c1,bm 68 (H.set oi (.cells [.own 3 (bA l us es)])) [29] [0,1,2,3,7,8,22,23,24,30] 1 (K18 p0 p1 oi di l.length y2 p0 x1 x1.length y2.2.2 [(30,JX x3)]) κ<|af c4,trivial⟩
     exact c0
    refine aR<|ag<|ah<|aK 2 (K2 p0 p1 oi di l.length [(8,Rb y2 r4),(22,Lm p0 x1),(23,vI (x1.length:Int)),(24,Vl y2)])<|af ?_
    cases h
    exact⟨(y2.1,(y2.2.1++[r4]),(IntKind.wrap .i64 (y2.2.2+1))),rfl,κ⟩
   .replace h:=fi hc h
    refine B1 (K2 p0 p1 oi di l.length [(8,Ta y2)])<|bT<|ba ?_
    cases h
    refine ba ?_
    exact⟨_,rfl,⟨rfl,rfl⟩⟩
  .rintro _ _ ⟨rfl,rfl⟩
   refine bw<|bX ?_
   refine bQ (jH hne)<|MH (n:=3) (cs:=[vI v7.1,.own 3 (List.map ab v7.2),.d .cG]) (xs:=List.map ab v7.2) 8 1 κ λe1=>?_
   refine jd 68 (H.set oi (.cells [.own 3 (bA l us es)])) [0,1,2,3,7,8] (K2 p0 p1 oi di l.length [(8,.box [vI v7.1,.d (.raw e1),.d (.cG)])]) κ<|oc<|mV (jH hne) κ<|iW.up (CE.fr hne)<|HX (t:=36) (H0:=H.set oi (.cells [.own 3 (bA l us es)])) (n:=3) (xs:=bA l us es) κ hHs<|
    ry 68 ((H.set oi (.cells [.own 3 (bA l us es)])).set oi (.cells [.undef])) [0,1,2,3,7,8,36] (K2 p0 p1 oi di l.length [(8,.box [vI v7.1,.d (.raw e1),.d (.cG)]),(36,.own 3 (bA l us es))]) κ<|CR.F (jH hne) (aK 1 (K2 p0 p1 oi di l.length [(36,.own 3 (bA l us es)),(37,.d (.agg [.int .i64 v7.1,.raw e1,.cG]))])<|af<|CR.F (jH hne) (aK 1 (K2 p0 p1 oi di l.length [(36,.own 3 (bA l us es)),(38,.own 3 [.agg [.int .i64 v7.1,.raw e1,.cG]])])<|af<|CR.F (jH hne)
    (qD 68 ((H.set oi (.cells [.own 3 (bA l us es)])).set oi (.cells [.undef])) (s:=36) (d:=39) (w:=3) [0,1,2,3,7,39] (zs:=bA l us es++[.agg [.int .i64 v7.1,.raw e1,.cG]]) (K2 p0 p1 oi di l.length [(39,.own 3 (bA l us es++[.agg [.int .i64 v7.1,.raw e1,.cG]]))]) (ys:=[.agg [.int .i64 v7.1,.raw e1,.cG]]) κ rfl (hroom e1) κ<|af<|
    mV (jH hne) κ<|iW.up (CE.fr hne)<|HZ (t:=39) (H0:=(H.set oi (.cells [.own 3 (bA l us es)])).set oi (.cells [.undef])) (n:=3) (q:=2) (xs:=bA l us es) (cs:=[.int .i64 v7.1,.raw e1,.cG]) κ (g_0 (aU hHs)) rfl (by rw[N6 hlen,oF hlen hle]) λv1 u1=>?_)))
   have hH2: ∀X Y Z,((H.set oi X).set oi Y).set oi Z=H.set oi Z:=λX Y Z=>by simp
   have f1:k7 l us++[(u1,some [])]=k7 (l++[⟨v7.1,v7.2,[]⟩]) (us++[u1]):=by simp[k7,List.zipWith_append hlen.symm]
   have f2:bA l us es++[.agg ([.int .i64 v7.1,.raw e1,.cG].set 2 (.raw u1))]=bA (l++[⟨v7.1,v7.2,[]⟩]) (us++[u1]) (es++[e1]):=by
    simp only[bA,List.zip_append (hle.trans hlen.symm),List.zipWith_append (show l.length=(es.zip us).length by simp[hle,hlen])]
    rfl
   have f3:zF l es++[(e1,List.map ab v7.2)]=zF (l++[⟨v7.1,v7.2,[]⟩]) (es++[e1]):=by simp[zF,List.zipWith_append hle.symm]
   have hlen1:(us++[u1]).length=(l++[(⟨v7.1,v7.2,[]⟩:Node)]).length:=by simp[hlen]
   have hle1:(es++[e1]).length=(l++[(⟨v7.1,v7.2,[]⟩:Node)]).length:=by simp[hle]
   simp only[f1,f2,f3]
   generalize us++[u1]=us1 at hlen1 ⊢
   generalize es++[e1]=es1 at hle1 ⊢
   generalize l++[(⟨v7.1,v7.2,[]⟩:Node)]=l1 at hlen1 hle1 hit ⊢
   clear f1 f2 f3
   refine ry 68 (((H.set oi (.cells [.own 3 (bA l us es)])).set oi (.cells [.undef])).set oi (.cells [.own 3 (bA l1 us1 es1)])) [0,1,2,3,7] (K2 p0 p1 oi di l.length []) κ ?_
   rw[hH2]
   refine w9 (jH hne) κ<|bX ?_
   obtain⟨hks',hpo⟩:=Dz (X:=.cells [.own 3 (bA l1 us1 es1)]) hks hoi
   refine bQ (jH hne)<|bQ (jH hne)<|dF (jH hne)<|ah<|aK 3 (K23 p1 oi di l.length [(42,.d (.ptr p0 1))])<|
    bB (d:=some 43) (s:=.cq (.au p0 1) 1 (List.map cP.enc ks)) (K23 p1 oi di l.length [(43,.cq (.au p0 1) 1 (List.map cP.enc ks))]) (aY (c:=cP) hks' κ)<|bB (d:=some 44) (K23 p1 oi di l.length [(43,.cq (.au p0 1) 1 (List.map cP.enc ks)),(44,vI (ks.length:Int))]) (aJ (enc:=cP.enc) (xs:=ks) κ)<|aK 1 (K23 p1 oi di l.length [(43,.cq (.au p0 1) 1 (List.map cP.enc ks)),(44,vI (ks.length:Int)),(45,vI 0)])<|af<|bX<|vA<|
    Pm (jH hne) (λ(y:Int×List Node) s st=> ∃us' es',us'.length=y.2.length/\es'.length=y.2.length/\s.1.2=k7 y.2 us'/\s.2=zF y.2 es'/\st=sp 68 (K0 p1 oi di l.length p0 ks ks.length y.1 []) (H.set oi (.cells [.own 3 (bA y.2 us' es')])))
     (λl' s e st=>e=.exit 2/\ ∃us' es',us'.length=l'.length/\es'.length=l'.length/\s.1.2=k7 l' us'/\s.2=zF l' es'/\st=sp 68 [(7,vI (l.length:Int))] (H.set oi (.cells [.own 3 (bA l' us' es')]))) hit ⟨us1,es1,hlen1,hle1,rfl,rfl,rfl⟩ (λx o s st hI ho=>?_) (λs' e st' hE=>?_)
   .obtain⟨y,l2⟩:=x
    obtain⟨us2,es2,hlen2,hle2,hs2,hs2',rfl⟩:=hI
    obtain⟨⟨v2,k2⟩,E2⟩:=s
    cases hs2
    cases hs2'
    unfold mB at ho
    simp only at ho hlen2 hle2 ⊢
    refine bQ (jH hne)<|dF (jH hne)<|ah<|aK 1 (K0 p1 oi di l.length p0 ks ks.length y [(46,vB (decide (y<(ks.length:Int))))])<|af<|bX<|bQ (jH hne)<|jZ (v:=decide (y<(ks.length:Int))) κ ?_
    cases hd:decide (y<(ks.length:Int))with
    |false=>
     rw[hd]at ho
     simp only[cond_false,g_2]at ho
     refine jd 68 (H.set oi (.cells [.own 3 (bA l2 us2 es2)])) [7] [(7,vI (l.length:Int))] κ<|dF (jH hne) λa w g hr=>wp_exit ⟨_,g,?_,hr,Fr.refl _ _ _⟩
     exact⟨l2,ho.symm,rfl,us2,es2,hlen2,hle2,rfl,rfl,rfl⟩
    |true=>
     rw[hd]at ho
     simp only[cond_true]at ho
     obtain⟨k0,hk0,ho1⟩:=bS ho
     obtain⟨k,rfl,ho2⟩:=bS ho1
     obtain⟨r,hrec,ho3⟩:=bS ho2
     obtain⟨l3,hadd,ho4⟩:=bS ho3
     simp only[g_2]at ho4
     refine jd 68 (H.set oi (.cells [.own 3 (bA l2 us2 es2)])) [1,2,3,7,43,44,45] (K0 p1 oi di l.length p0 ks ks.length y []) κ<|dF (jH hne) λa w g hr=>wp_skip ⟨_,g,?_,hr,Fr.refl _ _ _⟩
     refine bX<|bQ (jH hne)<|vA<|bQ (jH hne)<|dF (jH hne)<|ah<|bB (d:=some 47) (s:=.eW (.au p0 1) [cP.enc (some k)]) (K0 p1 oi di l.length p0 ks ks.length y [(47,.eW (.au p0 1) [cP.enc (some k)])]) (cz (l:=some (.au p0 1)) (n:=1) hk0 κ)<|
      aK 2 (K23 p1 oi di l.length [(12,.d (.ptr k 0)),(43,.cq (.au p0 1) 1 (List.map cP.enc ks)),(44,vI (ks.length:Int)),(45,vI y)])<|af<|bX<|bQ (jH hne)<|oc<|mV (jH hne) κ<|iW.up (CE.fr hne)<|lg (o':=some 49) κ<|ry 68 (H.set oi (.cells [.own 3 (bA l2 us2 es2)])) [1,2,3,7,12,43,44,45,49] (K23 p1 oi di l.length [(12,.d (.ptr k 0)),(43,.cq (.au p0 1) 1 (List.map cP.enc ks)),(44,vI (ks.length:Int)),(45,vI y),(49,.d (xY oi di))]) κ<|
      CR.F (jH hne) (aK 1 (K0 p1 oi di l.length p0 ks ks.length y [(49,.d (xY oi di)),(50,.d (.ptr k 0))])<|af<|CR.F (jH hne) (aK 1 (K0 p1 oi di l.length p0 ks ks.length y [(49,.d (xY oi di)),(50,.d (.ptr k 0)),(51,vI p1)])<|af<|CR.F (jH hne) (aK 1 (K0 p1 oi di l.length p0 ks ks.length y [(49,.d (xY oi di)),(50,.d (.ptr k 0)),(52,vI (IntKind.wrap .i64 (p1 - 1)))])<|af<|
      mV (jH hne) κ<|zm (o':=some 53) (ih k (IntKind.wrap .i64 (p1 - 1)) l2 us2 es2 v2 r hlen2 hle2 hrec) κ (Az (by simp[K0,K10,K16,K18,K2,K23,K24,K48,K60,rM,hpo,vI,vB]) rfl) λs3 H3 r3 hP=>?_)))
     obtain⟨us3,es3,hlen3,hle3,hs3,hs3',rfl,rfl⟩:=hP
     obtain⟨⟨v3,k3⟩,E3⟩:=s3
     cases hs3
     cases hs3'
     refine ry 68 (H.set oi (.cells [.own 3 (bA r.2 us3 es3)])) [1,2,3,7,43,44,45,53] (K0 p1 oi di l.length p0 ks ks.length y [(53,vI r.1)]) κ<|CR.F (jH hne) (aK 1 (K23 p1 oi di l.length [(13,vI r.1),(43,.cq (.au p0 1) 1 (List.map cP.enc ks)),(44,vI (ks.length:Int)),(45,vI y)])<|af<|w9 (jH hne) κ<|bX ?_)
     obtain⟨x3,hx3,hroom3,rfl⟩:=JD hadd
     have hj:l.length<us3.length:=by rw[hlen3];exact aU hx3
     obtain⟨u3,hu3⟩: ∃u,us3[l.length]? =some u:=⟨us3[l.length],g_6 hj⟩
     obtain⟨e3,he3⟩: ∃e,es3[l.length]? =some e:=⟨es3[l.length]'(by rw[hle3];exact aU hx3),g_6 (by rw[hle3];exact aU hx3)⟩
     have hxs:(bA r.2 us3 es3)[l.length]? =some (lM x3 e3 u3):=vC hx3 hu3 he3
     have hks3:(k7 r.2 us3)[l.length]? =some (u3,some x3.Kids):=by simp[k7,v_7,hx3,hu3]
     have hH3:(H.set oi (.cells [.own 3 (bA r.2 us3 es3)]))[oi]? =some (.cells [.own 3 (bA r.2 us3 es3)]):=g_0 (aU hoi)
     have hne3:bA r.2 us3 es3≠[]:=λe=>by rw[e]at hxs;simp at hxs
     refine Q2 (CE.fr hne)<|wY κ rE ?_
     refine dW (H:=H.set oi (.cells [.own 3 (bA r.2 us3 es3)])) (s:=(v3,(k7 r.2 us3).set l.length (u3,none))) 3 1023 68 (K16 p1 oi di l.length p0 ks ks.length y v3 l.length [(63,.own 1 ((x3.Kids++[r.1]).map (D.int .i64)))]) ?_ λc9=>?_
     .refine cQ rE (i0:=10) (is:=[]) κ ⟨CQ (o':=some 64) (n:=3) (xs:=bA r.2 us3 es3) (j:=(l.length:Int)) κ hH3 ω (by simpa using aU hxs)<|kh 68 (H.set oi (.cells [.own 3 (bA r.2 us3 es3)])) [1,2,3,7,43,44,45,63,64] (K0 p1 oi di l.length p0 ks ks.length y [(63,.own 1 ((x3.Kids++[r.1]).map (D.int .i64))),(64,.d (.raw (lG v3 ((l.length:Int).toNat * 3))))]) κ<|
       cQ rE (i0:=11) (is:=[]) κ ⟨Fx (o':=some 65) (n:=3) (m:=(l.length:Int).toNat * 3) (fo:=2) (xs:=bA r.2 us3 es3) κ hH3 hne3<|kh 68 (H.set oi (.cells [.own 3 (bA r.2 us3 es3)])) [1,2,3,7,43,44,45,63,65] (K0 p1 oi di l.length p0 ks ks.length y [(63,.own 1 ((x3.Kids++[r.1]).map (D.int .i64))),(65,.d (.raw (lG v3 ((l.length:Int).toNat * 3+2))))]) κ<|
       cQ rE (i0:=12) (is:=[]) κ ⟨Ia (p:=(l.length:Int).toNat) (q:=2) (n:=3) (s0:=63) (xs:=bA r.2 us3 es3) (cs:=[.int .i64 x3.Level,.raw e3,.raw u3]) (ks:=x3.Kids++[r.1]) κ hH3 hxs ψ (Az (by simp[K0,K10,K16,K18,K2,K23,K24,K48,K60,rM,hpo,vI,vB]) rfl) λu4=>?_,trivial⟩,trivial⟩,trivial⟩
      refine Lj rE κ ?_
      refine sQ<|bX ?_
      refine jd 68 ((H.set oi (.cells [.own 3 (bA r.2 us3 es3)])).set oi (.cells [.own 3 ((bA r.2 us3 es3).set (l.length:Int).toNat (.agg ([.int .i64 x3.Level,.raw e3,.raw u3].set 2 (.raw u4))))])) [1,2,3,7,43,44,45] (K0 p1 oi di l.length p0 ks ks.length y []) κ ?_
      rw[m_9]
      have e3':(bA r.2 us3 es3).set (l.length:Int).toNat (.agg ([.int .i64 x3.Level,.raw e3,.raw u3].set 2 (.raw u4)))=bA (r.2.set l.length {x3 with Kids:=x3.Kids++[r.1]}) (us3.set l.length u4) es3:=by
       rw[Ad he3]
       rfl
      have e4:(k7 r.2 us3).set (l.length:Int).toNat (u4,some (x3.Kids++[r.1]))=k7 (r.2.set l.length {x3 with Kids:=x3.Kids++[r.1]}) (us3.set l.length u4):=by
       simp only[k7,ph]
       rfl
      have e5:(l.length:Int).toNat=l.length:=rfl
      rw[e3']
      refine dF (jH hne)<|ah<|aK 2 (K23 p1 oi di l.length [(43,.cq (.au p0 1) 1 (List.map cP.enc ks)),(44,vI (ks.length:Int)),(45,vI (IntKind.wrap .i64 (y+1)))])<|af ?_
      exact⟨_,ho4.symm,68,[1,2,3,7,43,44,45],_,_,κ,us3.set l.length u4,es3,by simp[hlen3],by simp[hle3],(by
       show List.set (List.set (k7 r.2 us3) l.length (u3,none)) (l.length:Int).toNat _=_
       rw[e5,m_9]
       exact e4),(Mg hx3 _).symm,rfl⟩
     refine dW (H:=H.set oi (.cells [.own 3 (bA r.2 us3 es3)])) (s:=(v3,(k7 r.2 us3).set l.length (u3,none))) 4 1022 68 (K48 p1 oi di l.length p0 ks ks.length y l.length [(63,.own 1 ((x3.Kids++[r.1]).map (D.int .i64)))]) (cQ rE (i0:=0) (is:=[]) κ ⟨g9 (o':=some 54) κ<|kh 68 (H.set oi (.cells [.own 3 (bA r.2 us3 es3)])) [1,2,3,7,43,44,45,54,55,63] (K16 p1 oi di l.length p0 ks ks.length y v3 l.length [(63,.own 1 ((x3.Kids++[r.1]).map (D.int .i64)))]) κ<|bV c9,trivial⟩) λc8=>?_
     refine dW (H:=H.set oi (.cells [.own 3 (bA r.2 us3 es3)])) (s:=(v3,k7 r.2 us3)) 4 511 68 (K16 p1 oi di l.length p0 ks ks.length y v3 l.length [(60,.d (.raw u3)),(62,.own 1 (List.map (D.int .i64) [r.1]))]) (cQ rE (i0:=9) (is:=[]) κ ⟨zl (t:=60) (p:=l.length) (u:=u3) (ks:=x3.Kids) κ hks3 (Az (by simp[K0,K10,K16,K18,K2,K23,K24,K48,K60,rM,hpo,vI,vB]) rfl) hH3<|HY 68 (H.set oi (.cells [.own 3 (bA r.2 us3 es3)])) [1,2,3,7,43,44,45,54,55,60,62] (K16 p1 oi di l.length p0 ks ks.length y v3 l.length [(60,.own 1 (List.map (D.int .i64) x3.Kids)),(62,.own 1 (List.map (D.int .i64) [r.1]))]) κ<|dt rE (qD 68 (H.set oi (.cells [.own 3 (bA r.2 us3 es3)])) (s:=60) (d:=63) (w:=1) [1,2,3,7,43,44,45,54,55,63] (zs:=List.map (D.int .i64) (x3.Kids++[r.1])) (K16 p1 oi di l.length p0 ks ks.length y v3 l.length [(63,.own 1 ((x3.Kids++[r.1]).map (D.int .i64)))]) (ys:=List.map (D.int .i64) [r.1]) κ (bF) (cC hroom3) κ<|af<|bV c9),trivial⟩) λc121=>?_
     refine dW (H:=H.set oi (.cells [.own 3 (bA r.2 us3 es3)])) (s:=(v3,k7 r.2 us3)) 5 255 68 (K16 p1 oi di l.length p0 ks ks.length y v3 l.length [(60,.d (.raw u3)),(61,vI r.1)]) (cQ rE (i0:=8) (is:=[]) κ ⟨dt rE (aK 1 (K16 p1 oi di l.length p0 ks ks.length y v3 l.length [(60,.d (.raw u3)),(62,.own 1 (List.map (D.int .i64) [r.1]))])<|af<|bV c121),trivial⟩) λc120=>?_
     refine dW (H:=H.set oi (.cells [.own 3 (bA r.2 us3 es3)])) (s:=(v3,k7 r.2 us3)) 5 447 68 (K16 p1 oi di l.length p0 ks ks.length y v3 l.length [(59,.eW (.au oi 0) [.raw u3]),(62,.own 1 (List.map (D.int .i64) [r.1]))]) (cQ rE (i0:=6) (is:=[]) κ ⟨dt rE (aK 1 (K16 p1 oi di l.length p0 ks ks.length y v3 l.length [(60,.d (.raw u3)),(62,.own 1 (List.map (D.int .i64) [r.1]))])<|af<|bV c121),trivial⟩) λc111=>?_
     refine dW (H:=H.set oi (.cells [.own 3 (bA r.2 us3 es3)])) (s:=(v3,k7 r.2 us3)) 6 191 68 (K16 p1 oi di l.length p0 ks ks.length y v3 l.length [(59,.eW (.au oi 0) [.raw u3]),(61,vI r.1)]) (cQ rE (i0:=6) (is:=[8]) κ ⟨dt rE (aK 1 (K16 p1 oi di l.length p0 ks ks.length y v3 l.length [(60,.d (.raw u3)),(61,vI r.1)])<|af<|bV c120),dt rE (aK 1 (K16 p1 oi di l.length p0 ks ks.length y v3 l.length [(59,.eW (.au oi 0) [.raw u3]),(62,.own 1 (List.map (D.int .i64) [r.1]))])<|af<|bV c111),trivial⟩) λc110=>?_
     refine dW (H:=H.set oi (.cells [.own 3 (bA r.2 us3 es3)])) (s:=(v3,k7 r.2 us3)) 8 395 68 (K16 p1 oi di l.length p0 ks ks.length y v3 l.length [(57,vI (l.length:Int)),(62,.own 1 (List.map (D.int .i64) [r.1]))]) (cQ rE (i0:=2) (is:=[]) κ ⟨dt rE (bB (d:=some 56) (s:=.cq (.au oi 0) 3 (bA r.2 us3 es3)) (K16 p1 oi di l.length p0 ks ks.length y v3 l.length [(56,.cq (.au oi 0) 3 (bA r.2 us3 es3)),(57,vI (l.length:Int)),(62,.own 1 (List.map (D.int .i64) [r.1]))]) (tx hH3 rfl κ)<|af<|Ik (dd:=some 58) (x:=.eW (.au oi 0) (lM x3 e3 u3).cells) 4 (K16 p1 oi di l.length p0 ks ks.length y v3 l.length [(58,.eW (.au oi 0) (lM x3 e3 u3).cells),(62,.own 1 (List.map (D.int .i64) [r.1]))]) (fj (l:=some (.au oi 0)) (n:=3) (j:=(l.length:Int)) κ ω hxs)<|tv 5 (K16 p1 oi di l.length p0 ks ks.length y v3 l.length [(59,.eW (.au oi 0) [.raw u3]),(62,.own 1 (List.map (D.int .i64) [r.1]))])<|bV c111),trivial⟩) λc101=>?_
     refine dW (H:=H.set oi (.cells [.own 3 (bA r.2 us3 es3)])) (s:=(v3,k7 r.2 us3)) 9 139 68 (K16 p1 oi di l.length p0 ks ks.length y v3 l.length [(57,vI (l.length:Int)),(61,vI r.1)]) (cQ rE (i0:=2) (is:=[8]) κ ⟨dt rE (bB (d:=some 56) (s:=.cq (.au oi 0) 3 (bA r.2 us3 es3)) (K16 p1 oi di l.length p0 ks ks.length y v3 l.length [(56,.cq (.au oi 0) 3 (bA r.2 us3 es3)),(57,vI (l.length:Int)),(61,vI r.1)]) (tx hH3 rfl κ)<|af<|Ik (dd:=some 58) (x:=.eW (.au oi 0) (lM x3 e3 u3).cells) 4 (K16 p1 oi di l.length p0 ks ks.length y v3 l.length [(58,.eW (.au oi 0) (lM x3 e3 u3).cells),(61,vI r.1)]) (fj (l:=some (.au oi 0)) (n:=3) (j:=(l.length:Int)) κ ω hxs)<|tv 5 (K16 p1 oi di l.length p0 ks ks.length y v3 l.length [(59,.eW (.au oi 0) [.raw u3]),(61,vI r.1)])<|bV c110),dt rE (aK 1 (K16 p1 oi di l.length p0 ks ks.length y v3 l.length [(57,vI (l.length:Int)),(62,.own 1 (List.map (D.int .i64) [r.1]))])<|af<|bV c101),trivial⟩) λc100=>?_
     refine dW (H:=H.set oi (.cells [.own 3 (bA r.2 us3 es3)])) (s:=(v3,k7 r.2 us3)) 5 510 68 (K48 p1 oi di l.length p0 ks ks.length y l.length [(60,.d (.raw u3)),(62,.own 1 (List.map (D.int .i64) [r.1]))]) (cQ rE (i0:=0) (is:=[9]) κ ⟨g9 (o':=some 54) κ<|kh 68 (H.set oi (.cells [.own 3 (bA r.2 us3 es3)])) [1,2,3,7,43,44,45,54,55,60,62] (K16 p1 oi di l.length p0 ks ks.length y v3 l.length [(60,.d (.raw u3)),(62,.own 1 (List.map (D.int .i64) [r.1]))]) κ<|bV c121,zl (t:=60) (p:=l.length) (u:=u3) (ks:=x3.Kids) κ hks3 (Az (by simp[K0,K10,K16,K18,K2,K23,K24,K48,K60,rM,hpo,vI,vB]) rfl) hH3<|HY 68 (H.set oi (.cells [.own 3 (bA r.2 us3 es3)])) [1,2,3,7,43,44,45,55,60,62] (K48 p1 oi di l.length p0 ks ks.length y l.length [(60,.own 1 (List.map (D.int .i64) x3.Kids)),(62,.own 1 (List.map (D.int .i64) [r.1]))]) κ<|dt rE (qD 68 (H.set oi (.cells [.own 3 (bA r.2 us3 es3)])) (s:=60) (d:=63) (w:=1) [1,2,3,7,43,44,45,55,63] (zs:=List.map (D.int .i64) (x3.Kids++[r.1])) (K48 p1 oi di l.length p0 ks ks.length y l.length [(63,.own 1 ((x3.Kids++[r.1]).map (D.int .i64)))]) (ys:=List.map (D.int .i64) [r.1]) κ (bF) (cC hroom3) κ<|af<|bV c8),trivial⟩) λc021=>?_
     refine dW (H:=H.set oi (.cells [.own 3 (bA r.2 us3 es3)])) (s:=(v3,k7 r.2 us3)) 6 254 68 (K48 p1 oi di l.length p0 ks ks.length y l.length [(60,.d (.raw u3)),(61,vI r.1)]) (cQ rE (i0:=0) (is:=[8]) κ ⟨g9 (o':=some 54) κ<|kh 68 (H.set oi (.cells [.own 3 (bA r.2 us3 es3)])) [1,2,3,7,43,44,45,54,55,60,61] (K16 p1 oi di l.length p0 ks ks.length y v3 l.length [(60,.d (.raw u3)),(61,vI r.1)]) κ<|bV c120,dt rE (aK 1 (K48 p1 oi di l.length p0 ks ks.length y l.length [(60,.d (.raw u3)),(62,.own 1 (List.map (D.int .i64) [r.1]))])<|af<|bV c021),trivial⟩) λc020=>?_
     refine dW (H:=H.set oi (.cells [.own 3 (bA r.2 us3 es3)])) (s:=(v3,k7 r.2 us3)) 6 446 68 (K48 p1 oi di l.length p0 ks ks.length y l.length [(59,.eW (.au oi 0) [.raw u3]),(62,.own 1 (List.map (D.int .i64) [r.1]))]) (cQ rE (i0:=0) (is:=[6]) κ ⟨g9 (o':=some 54) κ<|kh 68 (H.set oi (.cells [.own 3 (bA r.2 us3 es3)])) [1,2,3,7,43,44,45,54,55,59,62] (K16 p1 oi di l.length p0 ks ks.length y v3 l.length [(59,.eW (.au oi 0) [.raw u3]),(62,.own 1 (List.map (D.int .i64) [r.1]))]) κ<|bV c111,dt rE (aK 1 (K48 p1 oi di l.length p0 ks ks.length y l.length [(60,.d (.raw u3)),(62,.own 1 (List.map (D.int .i64) [r.1]))])<|af<|bV c021),trivial⟩) λc011=>?_
     refine dW (H:=H.set oi (.cells [.own 3 (bA r.2 us3 es3)])) (s:=(v3,k7 r.2 us3)) 7 190 68 (K48 p1 oi di l.length p0 ks ks.length y l.length [(59,.eW (.au oi 0) [.raw u3]),(61,vI r.1)]) (cQ rE (i0:=0) (is:=[6,8]) κ ⟨g9 (o':=some 54) κ<|kh 68 (H.set oi (.cells [.own 3 (bA r.2 us3 es3)])) [1,2,3,7,43,44,45,54,55,59,61] (K16 p1 oi di l.length p0 ks ks.length y v3 l.length [(59,.eW (.au oi 0) [.raw u3]),(61,vI r.1)]) κ<|bV c110,dt rE (aK 1 (K48 p1 oi di l.length p0 ks ks.length y l.length [(60,.d (.raw u3)),(61,vI r.1)])<|af<|bV c020),dt rE (aK 1 (K48 p1 oi di l.length p0 ks ks.length y l.length [(59,.eW (.au oi 0) [.raw u3]),(62,.own 1 (List.map (D.int .i64) [r.1]))])<|af<|bV c011),trivial⟩) λc010=>?_
     refine dW (H:=H.set oi (.cells [.own 3 (bA r.2 us3 es3)])) (s:=(v3,k7 r.2 us3)) 9 394 68 (K48 p1 oi di l.length p0 ks ks.length y l.length [(57,vI (l.length:Int)),(62,.own 1 (List.map (D.int .i64) [r.1]))]) (cQ rE (i0:=0) (is:=[2]) κ ⟨g9 (o':=some 54) κ<|kh 68 (H.set oi (.cells [.own 3 (bA r.2 us3 es3)])) [1,2,3,7,43,44,45,54,55,57,62] (K16 p1 oi di l.length p0 ks ks.length y v3 l.length [(57,vI (l.length:Int)),(62,.own 1 (List.map (D.int .i64) [r.1]))]) κ<|bV c101,dt rE (bB (d:=some 56) (s:=.cq (.au oi 0) 3 (bA r.2 us3 es3)) (K48 p1 oi di l.length p0 ks ks.length y l.length [(56,.cq (.au oi 0) 3 (bA r.2 us3 es3)),(57,vI (l.length:Int)),(62,.own 1 (List.map (D.int .i64) [r.1]))]) (tx hH3 rfl κ)<|af<|Ik (dd:=some 58) (x:=.eW (.au oi 0) (lM x3 e3 u3).cells) 4 (K48 p1 oi di l.length p0 ks ks.length y l.length [(58,.eW (.au oi 0) (lM x3 e3 u3).cells),(62,.own 1 (List.map (D.int .i64) [r.1]))]) (fj (l:=some (.au oi 0)) (n:=3) (j:=(l.length:Int)) κ ω hxs)<|tv 5 (K48 p1 oi di l.length p0 ks ks.length y l.length [(59,.eW (.au oi 0) [.raw u3]),(62,.own 1 (List.map (D.int .i64) [r.1]))])<|bV c011),trivial⟩) λc001=>?_
     refine dW (H:=H.set oi (.cells [.own 3 (bA r.2 us3 es3)])) (s:=(v3,k7 r.2 us3)) 10 138 68 (K48 p1 oi di l.length p0 ks ks.length y l.length [(57,vI (l.length:Int)),(61,vI r.1)]) (cQ rE (i0:=0) (is:=[2,8]) κ ⟨g9 (o':=some 54) κ<|kh 68 (H.set oi (.cells [.own 3 (bA r.2 us3 es3)])) [1,2,3,7,43,44,45,54,55,57,61] (K16 p1 oi di l.length p0 ks ks.length y v3 l.length [(57,vI (l.length:Int)),(61,vI r.1)]) κ<|bV c100,dt rE (bB (d:=some 56) (s:=.cq (.au oi 0) 3 (bA r.2 us3 es3)) (K48 p1 oi di l.length p0 ks ks.length y l.length [(56,.cq (.au oi 0) 3 (bA r.2 us3 es3)),(57,vI (l.length:Int)),(61,vI r.1)]) (tx hH3 rfl κ)<|af<|Ik (dd:=some 58) (x:=.eW (.au oi 0) (lM x3 e3 u3).cells) 4 (K48 p1 oi di l.length p0 ks ks.length y l.length [(58,.eW (.au oi 0) (lM x3 e3 u3).cells),(61,vI r.1)]) (fj (l:=some (.au oi 0)) (n:=3) (j:=(l.length:Int)) κ ω hxs)<|tv 5 (K48 p1 oi di l.length p0 ks ks.length y l.length [(59,.eW (.au oi 0) [.raw u3]),(61,vI r.1)])<|bV c010),dt rE (aK 1 (K48 p1 oi di l.length p0 ks ks.length y l.length [(57,vI (l.length:Int)),(62,.own 1 (List.map (D.int .i64) [r.1]))])<|af<|bV c001),trivial⟩) λc000=>?_
     exact tv 1 (K23 p1 oi di l.length [(13,vI r.1),(43,.cq (.au p0 1) 1 (List.map cP.enc ks)),(44,vI (ks.length:Int)),(45,vI y),(55,vI (l.length:Int))])<|tv 3 (K23 p1 oi di l.length [(13,vI r.1),(43,.cq (.au p0 1) 1 (List.map cP.enc ks)),(44,vI (ks.length:Int)),(45,vI y),(55,vI (l.length:Int)),(57,vI (l.length:Int))])<|tv 7 (K48 p1 oi di l.length p0 ks ks.length y l.length [(57,vI (l.length:Int)),(61,vI r.1)])<|bV c000
   .obtain⟨rfl,us',es',hl',hle',hs',hs2',rfl⟩:=hE
    refine OR<|bX<|bQ (jH hne)<|dF (jH hne)<|ah<|aK 2 [(6,vI (l.length:Int))]<|af<|bX<|dF (jH hne) λa w g hr=>wp_ret ⟨_,g,?_,hr,Fr.refl _ _ _⟩
    exact⟨.inr rfl,_,⟨us',es',hl',hle',hs',hs2',rfl,rfl⟩,κ⟩
theorem Rel.TN{st:St}{a:Go.Act}{w:World}{g:Gh}{i:Nat}{y:D}(hr:Rel st a w g)(hi:st.H[i]? =some (.cells [.d y]))(hn:st.tmps.all er=true):
  ∃g',Rel ⟨st.tmps,st.H.set i .hole⟩ a w g'/\Fr false g w g' w/\(∀o,o≠.obj i->aO o g w g' w)/\g'.ρ=g.ρ/\ ∃(k:Nat) (c:Array Go.Value) (T:TypeId) (fz:Nat×Nat) (v:Go.Value),g'.ρ[i]? =some k/\g'.ow k=.out/\w.heap[k]? =some (.cells c T fz)/\c[0]? =some v/\v.oneCell'=true/\Rd g' w v y:=by
 let rn:Own->Own:=λo=>match o with
  |.obj j=>if j=i then .out else .obj j
  |o=>o
 have hk: ∀o,o≠.obj i->aO o g w (g.br rn) w:=λo h1=>aO.br (by
  cases o with
  |obj j=>simp only[rn];rw[if_neg (λe=>h1 (by rw[e]))]
  |_=>rfl)
 have hf:aO .free g w (g.br rn) w:=hk _ ψ
 have hout:aO .out g w (g.br rn) w:=hk _ ψ
 obtain⟨k,c,T,f1,f2,f3,f4,f5⟩:=hr.hp.2 i _ hi
 refine⟨g.br rn,?_,⟨h_0 _,hf,hout,λ_ _ h=>h,nofun,nofun,nofun,⟨rfl,rfl⟩⟩,hk,rfl,?_⟩
 .refine bc hr hr.len hr.dS (λ_ _ h=>h) (λt' s hs=>?_) ⟨by simp[Gh.br,hr.hp.1],λi' o' hi'=>?_⟩
  .refine .inr (.inr ⟨hs,rfl,λo' ho'=>hk o' (λe2=>by subst e2;exact absurd ho' nh),λs0 e0=>⟨rfl,λx hx hb=>⟨x,hx,rfl⟩⟩⟩)
  .simp only at hi'
   by_cases e:i=i'
   .subst e
    rw[g_0 (aU hi)]at hi'
    cases hi'
    trivial
   .rw[g_1 e]at hi'
    exact(hr.hp.2 i' o' hi').nO hf (hk _ (λe2=>by cases e2;exact e rfl)) (λj=>hk _ ψ) (λ_ _ h=>h)
 .obtain⟨u,u1,u2,u3⟩:=f5 0 _ rfl
  exact⟨k,c,T,(0,0),u,f1,by simp[Gh.br,f2,rn],f3,u1,u3,(show Rd g w u y from u2).bg hf (λ_ _ h=>h)⟩
theorem HM{P:Program}{st:St}{Q:SN->Exit->St->Prop}{c:Code}{en:Nat}(oi di m:Nat)(xs:List D)(y:D)(n:Nat)(H:List aN)(L:List Nat)(ll:List (Nat×SV))(hoi:st.H[oi]? =some (.cells [.own m xs]))(hdi:st.H[di]? =some (.cells [.d y]))(hn:st.tmps.all er=true)
  (cR:bu n L ⟨st.tmps,st.H.set di .hole⟩=some (ll,H)) (h: ∀v,rq P (RR oi di en y) RL (.inl ((v,[]),[])) c (sp n ll H) Q):rq P (RR oi di en y) RL (.inr []) c st Q:=by
 intro a w g hr _
 have hne:oi≠di:=λe=>by subst e;rw[hoi]at hdi;cases hdi
 obtain⟨g1,r1,f1,hk,hρ,k,c0,T,fz,v,d1,d2,d3,d4,d5,d6⟩:=hr.TN hdi hn
 obtain⟨kv,cv,Tv,b1,b2,b3,b4,b5⟩:=hr.hp.2 oi _ hoi
 obtain⟨u,u1,u2,u3⟩:=b5 0 _ rfl
 obtain⟨x1,x2⟩:=hk (.obj oi) (λe=>by cases e;exact hne rfl) kv _ b2 b3
 have hC:Lr oi di en y ((u,[]),[]) g1 w:=⟨⟨⟨kv,cv,Tv,_,by rw[hρ];exact b1,x1,x2,u1,u3⟩,λp u' ks hp=>by simp at hp,k,c0,T,fz,v,d1,d2,d3,d4,d5,d6⟩,λp u' xs' hp=>by simp at hp⟩
 refine Code.wp_mono (λe a' w' hh=>?_) (h u a w g1 (r1.bC (aL cR)) hC)
 obtain⟨s',st',g',q,r,c',f⟩:=hh
 exact⟨s',st',g',q,r,c',f1.trans f⟩
def TM(l:List Node)(p:Nat):List D:=(((l[p]?).map (·.Kids)).getD []).map (D.int .i64)
def TR(l:List Node)(p:Nat):List D:=(((l[p]?).map (·.Entries)).getD []).map ab
def N7(oi:Nat)(l:List Node)(us:List Go.Value):LS:=(List.range l.length).map λp=>(Loc.au oi (p+1),us.getD p (.bool false),1,TM l p)
def RE(di:Nat)(l:List Node)(es:List Go.Value):LS:=(List.range l.length).map λp=>(Loc.au di (p+1),es.getD p (.bool false),3,TR l p)
def kK(oi di:Nat)(v:Go.Value)(l:List Node)(us es:List Go.Value):LS:=(Loc.au oi 0,v,3,bA l us es)::(N7 oi l us++RE di l es)
section
variable {oi di:Nat} {v:Go.Value} {l:List Node} {us es:List Go.Value} {p:Nat} {x:Node}
theorem Ln:(kK oi di v l us es)[0]? =some (.au oi 0,v,3,bA l us es):=rfl
theorem PF(hx:l[p]? =some x)(hu:us[p]? =some u):(kK oi di v l us es)[p+1]? =some (.au oi (p+1),u,1,x.Kids.map (D.int .i64)):=by
 have hp:=aU hx
 show(N7 oi l us++RE di l es)[p]? =_
 rw[h_6 (by simp[N7,hp])]
 have hxx:l[p]=x:=(g_5.1 hx).2
 simp[N7,TM,hp,hxx,List.getD,hu]
theorem PH(hx:l[p]? =some x)(he:es[p]? =some e):(kK oi di v l us es)[l.length+p+1]? =some (.au di (p+1),e,3,x.Entries.map ab):=by
 have hp:=aU hx
 show(N7 oi l us++RE di l es)[l.length+p]? =_
 rw[h_5 (by simp[N7])]
 have hxx:l[p]=x:=(g_5.1 hx).2
 simp[N7,RE,TR,hp,hxx,List.getD,he]
theorem JZ(h:(kK oi di v l us es)[q]? =some y)(hlen:us.length=l.length)(hle:es.length=l.length):
  (q=0/\y=(.au oi 0,v,3,bA l us es))\/(∃p x u,q=p+1/\l[p]? =some x/\us[p]? =some u/\y=(.au oi (p+1),u,1,x.Kids.map (D.int .i64)))\/ ∃p x e,q=l.length+p+1/\l[p]? =some x/\es[p]? =some e/\y=(.au di (p+1),e,3,x.Entries.map ab):=by
 cases q with
 |zero=>exact .inl ⟨rfl,by cases h;rfl⟩
 |succ q=>
  by_cases hq:q<l.length
  .have h1:=PF (oi:=oi) (di:=di) (v:=v) (es:=es) (g_6 hq) (g_6 (show q<us.length by omega))
   rw[h]at h1
   exact .inr (.inl ⟨q,_,_,rfl,g_6 hq,g_6 (show q<us.length by omega),Option.some.inj h1⟩)
  .have hq2:q - l.length<l.length:=by
    have h1:q<(N7 oi l us++RE di l es).length:=aU (show(N7 oi l us++RE di l es)[q]? =some y from h)
    simp[N7,RE]at h1
    omega
   have h1:=PH (oi:=oi) (di:=di) (v:=v) (us:=us) (g_6 hq2) (g_6 (show q - l.length<es.length by omega))
   rw[show l.length+(q - l.length)+1=q+1 by omega,h]at h1
   exact .inr (.inr ⟨q - l.length,_,_,ω,g_6 hq2,g_6 (show q - l.length<es.length by omega),Option.some.inj h1⟩)
theorem PB(hne:di≠oi):((kK oi di v l us es).map (·.1)).Nodup:=by
 simp only[kK,N7,RE,h_3,j_9,List.map_map,List.nodup_cons,List.nodup_append]
 refine⟨λh=>?_,List.Pairwise.map _ (λa b h e=>h (by simpa using e)) List.nodup_range,List.Pairwise.map _ (λa b h e=>h (by simpa using e)) List.nodup_range,λa ha b hb e=>?_⟩
 .simp at h
 .simp at ha hb
  obtain⟨_,_,rfl⟩:=ha
  obtain⟨_,_,rfl⟩:=hb
  simp at e
  exact hne e.1.symm
theorem J2{g:Gh}{w:World}{dd:D}(hlen:us.length=l.length)(hle:es.length=l.length)(h:Lr oi di 3 dd ((v,k7 l us),zF l es) g w)(hm:cy g w (.au oi 0) v 3 (bA l us es)):CZ (kK oi di v l us es) g w:=by
 intro q o u n xs hq
 rcases JZ hq hlen hle with⟨-,e⟩|⟨p,x,u',-,h1,h2,e⟩|⟨p,x,u',-,h1,h2,e⟩<;>cases e
 .exact⟨⟨_,_,rfl⟩,hm⟩
 .exact⟨⟨_,_,rfl⟩,h.1.2.1 p _ _ (by simp[k7,v_7,h1,h2])⟩
 .exact⟨⟨_,_,rfl⟩,h.2 p _ _ (by simp[zF,v_7,h1,h2])⟩
theorem DW{g:Gh}{w:World}(hlen:us.length=l.length)(hle:es.length=l.length)(hm:Rd g w v (.list 3 (bA l us es)))(hk: ∀(p:Nat) (x:Node) (u:Go.Value),l[p]? =some x->us[p]? =some u->Rd g w u (.list 1 (x.Kids.map (D.int .i64))))
  (he: ∀(p:Nat) (x:Node) (e:Go.Value),l[p]? =some x->es[p]? =some e->Rd g w e (.list 3 (x.Entries.map ab))):Rd g w v (.list 3 (l.map cj)):=by
 have hxl:=oF hlen hle
 generalize hX:bA l us es=X at hm hxl
 cases hm with
 |mu=>
  have:l=[]:=by cases l with|nil=>rfl|cons _ _=>simp at hxl
  subst this
  exact .mu
 |list uf hk0 hb hl hp hn hc hr=>
  have hget: ∀(i:Nat) (x:Node),l[i]? =some x-> ∃u e,us[i]? =some u/\es[i]? =some e/\X[i]? =some (lM x e u):=λi x hx=>by
   have h1:i<us.length:=by rw[hlen];exact aU hx
   have h2:i<es.length:=by rw[hle];exact aU hx
   exact⟨_,_,g_6 h1,g_6 h2,by rw[<-hX];exact vC hx (g_6 h1) (g_6 h2)⟩
  refine .list uf hk0 hb (by rw[<-hl,hxl];simp) hp (λi y hy=>?_) (λi y hy j z hz=>?_) (λi y hy j z hz=>?_)
  .simp only[h_1,g_4]at hy
   obtain⟨x,hx,rfl⟩:=hy
   rfl
  .simp only[h_1,g_4]at hy
   obtain⟨x,hx,rfl⟩:=hy
   obtain⟨u,e,-,-,hxs⟩:=hget i x hx
   have hj:j<3:=aU hz
   match j,hj with
   |0,_=>exact hc i _ hxs 0 _ rfl
   |1,_=>exact hc i _ hxs 1 _ rfl
   |2,_=>exact hc i _ hxs 2 _ rfl
  .simp only[h_1,g_4]at hy
   obtain⟨x,hx,rfl⟩:=hy
   obtain⟨u,e,hu,hee,hxs⟩:=hget i x hx
   have hj:j<3:=aU hz
   match j,hj with
   |0,_=>cases hz;exact hr i _ hxs 0 _ rfl
   |1,_=>
    cases hz
    have h2:Rd g w (uf i 1) (.raw e):=hr i _ hxs 1 _ rfl
    rw[show uf i 1=e by generalize uf i 1=z at h2;cases h2;rfl]
    exact he i x e hx hee
   |2,_=>
    cases hz
    have h2:Rd g w (uf i 2) (.raw u):=hr i _ hxs 2 _ rfl
    rw[show uf i 2=u by generalize uf i 2=z at h2;cases h2;rfl]
    exact hk i x u hx hu
theorem PG{H:Hp}(hlen:us.length=l.length)(hle:es.length=l.length)(h1:H[oi]? =some .hole)(h2:H[di]? =some .hole): ∀(p:Nat) (o:Loc) (u:Go.Value) (n:Nat) (xs:List D),(kK oi di v l us es)[p]? =some (o,u,n,xs)-> ∀i j,o=.au i j->H[i]? =some .hole:=λq o u n xs hq i j ho=>by
 subst ho
 rcases JZ hq hlen hle with⟨-,e⟩|⟨p,x,u',-,-,-,e⟩|⟨p,x,u',-,-,-,e⟩<;>cases e<;>assumption
end
def eM(fuel:Nat)(p0:Nat)(H:Hp):Option (((List Node))×Hp):=
 (bE cP.cell ((H++[aN.hole,aN.hole]).set H.length (aN.cells [.own 3 []])) p0 4).bind λx=>x.bind λi=>
 (iS fuel p0 ((H++[aN.hole,aN.hole]).set H.length (aN.cells [.own 3 []]))).bind λlv=>
 (nj fuel (H++[aN.hole,aN.hole]) fuel i (IntKind.wrap .i64 (lv - 1)) []).bind λr=>some (r.2,H++[aN.hole,aN.hole])
def K8:=λa0 a1 a2 (t:SL)=>((3,.d (.ptr a0 0))::(8,.d (xY a1 (a2++[aN.cells [.own 3 []]]).length))::t:SL)
def K14:=λa0 a1 (t:SL)=>((3,.d (.ptr a0 0))::(4,.d (.ptr (a1++[aN.cells [.own 3 []]]).length 0))::t:SL)
def K22:=λa0 a1 a2 (t:SL)=>((0,.d (.ptr a0 0))::(3,.d (.ptr a1 0))::(4,.d (.ptr (a2++[aN.cells [.own 3 []]]).length 0))::t:SL)
theorem pZ(h:eM fuel p0 H=some r):UD Tryz.prog 11 [.d (.ptr p0 0)] H r.2 (λv ls=> ∃us es,us.length=r.1.length/\es.length=r.1.length/\ls=kK H.length (H++[aN.cells [.own 3 []]]).length v r.1 us es):=by
 unfold eM at h
 obtain⟨x,hroot,h1⟩:=bS h
 obtain⟨i,rfl,h2⟩:=bS h1
 obtain⟨lv,hlv,h3⟩:=bS h2
 obtain⟨r1,hn,h4⟩:=bS h3
 cases h4
 clear h h1 h2 h3
 have hne:(H++[aN.cells [.own 3 []]]).length≠H.length:=by simp
 refine HP (dd:=xY H.length (H++[aN.cells [.own 3 []]]).length) (n:=3) Tryz.func11 rfl rfl<|jd 18 H [0] [(0,.d (.ptr p0 0))] κ<|bQ (EP hne)<|qw<|ah<|aK 1 [(0,.d (.ptr p0 0))]<|af<|bX<|bQ (EP hne)<|bQ (EP hne)<|qw<|ah<|aK 2 [(0,.d (.ptr p0 0)),(6,vB false)]<|af<|bX<|
  qw<|yh κ<|ao<|bX<|bQ (EP hne)<|qw<|ah<|
  qB (n:=18) (H:=(H++[aN.cells [.own 3 []]])) (d:=some 3) (b:=false) [(0,3,true)] [0,3] [(0,.d (.ptr p0 0)),(3,.d (.ptr H.length 0))] (q:=((H++[aN.cells [.own 3 []]]),H.length)) rfl κ rfl κ<|af<|bX<|bQ (EP hne)<|qw<|ah<|
  qB (n:=18) (H:=((H++[aN.cells [.own 3 []]])++[aN.cells [.d .lu]])) (d:=some 4) (b:=false) [] [0,3,4] (K22 p0 H.length H []) (q:=(((H++[aN.cells [.own 3 []]])++[aN.cells [.d .lu]]),(H++[aN.cells [.own 3 []]]).length)) rfl κ rfl κ<|af<|bX<|bQ (EP hne)<|qw<|ah<|
  aK 1 (K22 p0 H.length H [(7,.d (xY H.length (H++[aN.cells [.own 3 []]]).length))])<|D6 (n:=18) (H0:=((H++[aN.cells [.own 3 []]])++[aN.cells [.d .lu]])) (H:=((H++[aN.cells [.own 3 []]])++[aN.cells [.d (xY H.length (H++[aN.cells [.own 3 []]]).length)]])) (y:=(xY H.length (H++[aN.cells [.own 3 []]]).length)) (i:=(H++[aN.cells [.own 3 []]]).length) (off:=0) [0,3,4] (K22 p0 H.length H []) (Dy (H++[aN.cells [.own 3 []]]) _ _) κ κ<|af<|bX<|
  HM H.length (H++[aN.cells [.own 3 []]]).length 3 [] (xY H.length (H++[aN.cells [.own 3 []]]).length) 18 (((H++[aN.cells [.own 3 []]])++[aN.cells [.d (xY H.length (H++[aN.cells [.own 3 []]]).length)]]).set (H++[aN.cells [.own 3 []]]).length aN.hole) [0,3,4] (K22 p0 H.length H []) (by simp[sp]) (by simp[sp]) κ κ λv=>?_
 have eH:((H++[aN.cells [.own 3 []]])++[aN.cells [.d (xY H.length (H++[aN.cells [.own 3 []]]).length)]]).set (H++[aN.cells [.own 3 []]]).length aN.hole=((H++[aN.hole,aN.hole]).set H.length (aN.cells [.own 3 []])):=by simp
 rw[eH]
 have hoi:(H++[aN.hole,aN.hole])[H.length]? =some aN.hole:=by simp
 have hcall:=FW (di:=(H++[aN.cells [.own 3 []]]).length) hne hoi fuel i (IntKind.wrap .i64 (lv - 1)) [] [] [] v r1 rfl rfl hn
 refine bQ (EP hne)<|HL<|wY κ (jH hne) ?_
 refine dW (H:=((H++[aN.hole,aN.hole]).set H.length (aN.cells [.own 3 []]))) (s:=((v,[]),[])) 1 255 18 (K8 H.length H.length H [(12,.d (.ptr i 0)),(15,vI (IntKind.wrap .i64 (lv - 1)))]) (cQ (jH hne) (i0:=8) (is:=[]) κ ⟨zm (o':=some 16) hcall κ (Az (by simp[K14,K22,K8,rM,vI]) rfl) λs3 H3 r3 hP=>?_,trivial⟩) λc112=>?_
 .obtain⟨us3,es3,hlen3,hle3,hs3,hs3',rfl,rfl⟩:=hP
  obtain⟨⟨v3,k3⟩,E3⟩:=s3
  cases hs3
  cases hs3'
  refine kh 18 ((H++[aN.hole,aN.hole]).set H.length (aN.cells [.own 3 (bA r1.2 us3 es3)])) [3] [(3,.d (.ptr H.length 0))] κ<|Lj (jH hne) κ<|bX<|bQ (EP hne)<|HL<|oc<|mV (jH hne) κ<|iW.up (CE.fr hne)<|
   g9 (o':=some 17) κ<|ry 18 ((H++[aN.hole,aN.hole]).set H.length (aN.cells [.own 3 (bA r1.2 us3 es3)])) [17] [(17,.d (.raw v3))] κ<|CR.F (jH hne) (aK 1 [(2,.d (.raw v3))]<|af<|w9 (jH hne) κ<|bX ?_)
  refine JJ (m:=3) (xs:=bA r1.2 us3 es3) (kK H.length (H++[aN.cells [.own 3 []]]).length v3 r1.2 us3 es3) (g_0 ψ) (λg w hc hm=>J2 hlen3 hle3 hc hm)<|dF (EP hne) λa w g hr=>wp_ret ⟨_,g,?_,hr,Fr.refl _ _ _⟩
  have eE:(((H++[aN.hole,aN.hole]).set H.length (aN.cells [.own 3 (bA r1.2 us3 es3)])).set H.length aN.hole)=H++[aN.hole,aN.hole]:=by simp
  exact⟨.inr rfl,v3,_,rfl,⟨us3,es3,hlen3,hle3,rfl⟩,eE,κ⟩
 refine dW (H:=((H++[aN.hole,aN.hole]).set H.length (aN.cells [.own 3 []]))) (s:=((v,[]),[])) 2 254 18 (K14 H.length H [(12,.d (.ptr i 0)),(15,vI (IntKind.wrap .i64 (lv - 1)))]) (cQ (jH hne) (i0:=0) (is:=[]) κ ⟨iW.up (CE.fr hne)<|lg (o':=some 8) κ<|kh 18 ((H++[aN.hole,aN.hole]).set H.length (aN.cells [.own 3 []])) [3,8,12,15] (K8 H.length H.length H [(12,.d (.ptr i 0)),(15,vI (IntKind.wrap .i64 (lv - 1)))]) κ<|bV c112,trivial⟩) λc012=>?_
 refine dW (H:=((H++[aN.hole,aN.hole]).set H.length (aN.cells [.own 3 []]))) (s:=((v,[]),[])) 2 239 18 (K8 H.length H.length H [(11,.d (.ptr p0 4)),(15,vI (IntKind.wrap .i64 (lv - 1)))]) (cQ (jH hne) (i0:=4) (is:=[]) κ ⟨dt (jH hne) (bB (d:=some 12) (s:=.d (cP.enc (some i))) (K8 H.length H.length H [(12,.d (.ptr i 0)),(15,vI (IntKind.wrap .i64 (lv - 1)))]) (aF (c:=cP.cell) hroot κ)<|af<|bV c112),trivial⟩) λc102=>?_
 refine dW (H:=((H++[aN.hole,aN.hole]).set H.length (aN.cells [.own 3 []]))) (s:=((v,[]),[])) 3 238 18 (K14 H.length H [(11,.d (.ptr p0 4)),(15,vI (IntKind.wrap .i64 (lv - 1)))]) (cQ (jH hne) (i0:=0) (is:=[4]) κ ⟨iW.up (CE.fr hne)<|lg (o':=some 8) κ<|kh 18 ((H++[aN.hole,aN.hole]).set H.length (aN.cells [.own 3 []])) [3,8,11,15] (K8 H.length H.length H [(11,.d (.ptr p0 4)),(15,vI (IntKind.wrap .i64 (lv - 1)))]) κ<|bV c102,dt (jH hne) (bB (d:=some 12) (s:=.d (cP.enc (some i))) (K14 H.length H [(12,.d (.ptr i 0)),(15,vI (IntKind.wrap .i64 (lv - 1)))]) (aF (c:=cP.cell) hroot κ)<|af<|bV c012),trivial⟩) λc002=>?_
 refine dW (H:=((H++[aN.hole,aN.hole]).set H.length (aN.cells [.own 3 []]))) (s:=((v,[]),[])) 2 127 18 (K8 H.length H.length H [(12,.d (.ptr i 0)),(14,vI lv)]) (cQ (jH hne) (i0:=7) (is:=[]) κ ⟨dt (jH hne) (aK 1 (K8 H.length H.length H [(12,.d (.ptr i 0)),(15,vI (IntKind.wrap .i64 (lv - 1)))])<|af<|bV c112),trivial⟩) λc111=>?_
 refine dW (H:=((H++[aN.hole,aN.hole]).set H.length (aN.cells [.own 3 []]))) (s:=((v,[]),[])) 3 126 18 (K14 H.length H [(12,.d (.ptr i 0)),(14,vI lv)]) (cQ (jH hne) (i0:=0) (is:=[7]) κ ⟨iW.up (CE.fr hne)<|lg (o':=some 8) κ<|kh 18 ((H++[aN.hole,aN.hole]).set H.length (aN.cells [.own 3 []])) [3,8,12,14] (K8 H.length H.length H [(12,.d (.ptr i 0)),(14,vI lv)]) κ<|bV c111,dt (jH hne) (aK 1 (K14 H.length H [(12,.d (.ptr i 0)),(15,vI (IntKind.wrap .i64 (lv - 1)))])<|af<|bV c012),trivial⟩) λc011=>?_
 refine dW (H:=((H++[aN.hole,aN.hole]).set H.length (aN.cells [.own 3 []]))) (s:=((v,[]),[])) 3 111 18 (K8 H.length H.length H [(11,.d (.ptr p0 4)),(14,vI lv)]) (cQ (jH hne) (i0:=4) (is:=[7]) κ ⟨dt (jH hne) (bB (d:=some 12) (s:=.d (cP.enc (some i))) (K8 H.length H.length H [(12,.d (.ptr i 0)),(14,vI lv)]) (aF (c:=cP.cell) hroot κ)<|af<|bV c111),dt (jH hne) (aK 1 (K8 H.length H.length H [(11,.d (.ptr p0 4)),(15,vI (IntKind.wrap .i64 (lv - 1)))])<|af<|bV c102),trivial⟩) λc101=>?_
 refine dW (H:=((H++[aN.hole,aN.hole]).set H.length (aN.cells [.own 3 []]))) (s:=((v,[]),[])) 4 110 18 (K14 H.length H [(11,.d (.ptr p0 4)),(14,vI lv)]) (cQ (jH hne) (i0:=0) (is:=[4,7]) κ ⟨iW.up (CE.fr hne)<|lg (o':=some 8) κ<|kh 18 ((H++[aN.hole,aN.hole]).set H.length (aN.cells [.own 3 []])) [3,8,11,14] (K8 H.length H.length H [(11,.d (.ptr p0 4)),(14,vI lv)]) κ<|bV c101,dt (jH hne) (bB (d:=some 12) (s:=.d (cP.enc (some i))) (K14 H.length H [(12,.d (.ptr i 0)),(14,vI lv)]) (aF (c:=cP.cell) hroot κ)<|af<|bV c011),dt (jH hne) (aK 1 (K14 H.length H [(11,.d (.ptr p0 4)),(15,vI (IntKind.wrap .i64 (lv - 1)))])<|af<|bV c002),trivial⟩) λc001=>?_
 refine dW (H:=((H++[aN.hole,aN.hole]).set H.length (aN.cells [.own 3 []]))) (s:=((v,[]),[])) 3 63 18 (K8 H.length H.length H [(12,.d (.ptr i 0)),(13,.d (.ptr p0 0))]) (cQ (jH hne) (i0:=6) (is:=[]) κ ⟨dt (jH hne) (gd (ls:=[]) (some 14) (K8 H.length H.length H [(12,.d (.ptr i 0)),(14,vI lv)]) (gR hlv)<|af<|bV c111),trivial⟩) λc110=>?_
 refine dW (H:=((H++[aN.hole,aN.hole]).set H.length (aN.cells [.own 3 []]))) (s:=((v,[]),[])) 4 62 18 (K14 H.length H [(12,.d (.ptr i 0)),(13,.d (.ptr p0 0))]) (cQ (jH hne) (i0:=0) (is:=[6]) κ ⟨iW.up (CE.fr hne)<|lg (o':=some 8) κ<|kh 18 ((H++[aN.hole,aN.hole]).set H.length (aN.cells [.own 3 []])) [3,8,12,13] (K8 H.length H.length H [(12,.d (.ptr i 0)),(13,.d (.ptr p0 0))]) κ<|bV c110,dt (jH hne) (gd (ls:=[]) (some 14) (K14 H.length H [(12,.d (.ptr i 0)),(14,vI lv)]) (gR hlv)<|af<|bV c011),trivial⟩) λc010=>?_
 refine dW (H:=((H++[aN.hole,aN.hole]).set H.length (aN.cells [.own 3 []]))) (s:=((v,[]),[])) 4 47 18 (K8 H.length H.length H [(11,.d (.ptr p0 4)),(13,.d (.ptr p0 0))]) (cQ (jH hne) (i0:=4) (is:=[6]) κ ⟨dt (jH hne) (bB (d:=some 12) (s:=.d (cP.enc (some i))) (K8 H.length H.length H [(12,.d (.ptr i 0)),(13,.d (.ptr p0 0))]) (aF (c:=cP.cell) hroot κ)<|af<|bV c110),dt (jH hne) (gd (ls:=[]) (some 14) (K8 H.length H.length H [(11,.d (.ptr p0 4)),(14,vI lv)]) (gR hlv)<|af<|bV c101),trivial⟩) λc100=>?_
 refine dW (H:=((H++[aN.hole,aN.hole]).set H.length (aN.cells [.own 3 []]))) (s:=((v,[]),[])) 5 46 18 (K14 H.length H [(11,.d (.ptr p0 4)),(13,.d (.ptr p0 0))]) (cQ (jH hne) (i0:=0) (is:=[4,6]) κ ⟨iW.up (CE.fr hne)<|lg (o':=some 8) κ<|kh 18 ((H++[aN.hole,aN.hole]).set H.length (aN.cells [.own 3 []])) [3,8,11,13] (K8 H.length H.length H [(11,.d (.ptr p0 4)),(13,.d (.ptr p0 0))]) κ<|bV c100,dt (jH hne) (bB (d:=some 12) (s:=.d (cP.enc (some i))) (K14 H.length H [(12,.d (.ptr i 0)),(13,.d (.ptr p0 0))]) (aF (c:=cP.cell) hroot κ)<|af<|bV c010),dt (jH hne) (gd (ls:=[]) (some 14) (K14 H.length H [(11,.d (.ptr p0 4)),(14,vI lv)]) (gR hlv)<|af<|bV c001),trivial⟩) λc000=>?_
 exact tv 1 (K22 p0 H.length H [(9,.d (.ptr p0 0))])<|tv 2 (K22 p0 H.length H [(10,.d (.ptr p0 0))])<|tv 3 (K22 p0 H.length H [(11,.d (.ptr p0 4))])<|tv 5 (K14 H.length H [(11,.d (.ptr p0 4)),(13,.d (.ptr p0 0))])<|bV c000
theorem rY(h:eM fuel p0 H=some r):r.2=H++[aN.hole,aN.hole]:=by
 unfold eM at h
 obtain⟨x,hroot,h1⟩:=bS h
 obtain⟨i,rfl,h2⟩:=bS h1
 obtain⟨lv,hlv,h3⟩:=bS h2
 obtain⟨r1,hn,h4⟩:=bS h3
 cases h4
 rfl
theorem du(h:eM fuel p0 H=some r):SC Tryz.prog false 11 [.d (.ptr p0 0)] H (.d (.list 3 (List.map cj r.1))) r.2:=by
 refine JK (pZ h) λv ls hP=>?_
 obtain⟨us,es,hlen,hle,rfl⟩:=hP
 rw[rY h]
 exact⟨PG hlen hle ψ ψ,λg w ha=>DW hlen hle (ha 0 _ _ _ _ Ln) (λp x u hx hu=>ha _ _ _ _ _ (PF hx hu)) (λp x e hx he=>ha _ _ _ _ _ (PH hx he))⟩
structure nz where
 low:(Option Entry)
 high:(Option Entry)
 deriving DecidableEq,Inhabited
def zV(x:nz):D:=.agg [dE ab x.low,dE ab x.high]
def db(fuel:Nat)(p0:Nat)(p1:Node)(y9:Int×(List Entry)×(List Int)×Int×Hp):Option ((Int×(List Entry)×(List Int)×Int×Hp)⊕((Hp)⊕(((Bool)×Hp)))):=
 bif (decide (y9.2.2.2.1<(p1.Entries.length:Int)))then
  (idx p1.Entries y9.2.2.2.1).bind λx10=>
  bz (λ(j11:Bool)=>
   bif j11 then
    some (.inr (.inr (false,y9.2.2.2.2)))
   else
    (bE cM.cell y9.2.2.2.2 p0 3).bind λx23=>
    (Bv (kI .i64) cB y9.2.2.2.2 x23 x10.Number true).bind λH24=>
    bz (λ(j25:Unit)=>
     bif (decide (y9.2.2.2.1>0))then
      (bE cP.cell H24 p0 0).bind λx32=>
      x32.bind λi33=>
      (bE (cI .i64).cell H24 i33 2).bind λx34=>
      bif (x34==1)then
       (bE cP.cell H24 p0 0).bind λx35=>
       x35.bind λi36=>
       (bE dG.cells H24 i36 0).bind λx37=>
       (idx y9.2.1 (IntKind.wrap .i64 (y9.2.2.2.1 - 1))).bind λx38=>
       (pE fuel x37 x38.Row x10.Row).bind λr39=>
       bif (r39==0)then
        some (.inr (.inr (false,H24)))
       else
        some (.inl (y9.1,y9.2.1,y9.2.2.1,(IntKind.wrap .i64 (y9.2.2.2.1+1)),H24))
      else
       some (.inl (y9.1,y9.2.1,y9.2.2.1,(IntKind.wrap .i64 (y9.2.2.2.1+1)),H24))
     else
      some (.inl (y9.1,y9.2.1,y9.2.2.1,(IntKind.wrap .i64 (y9.2.2.2.1+1)),H24))) λjp26=>
    bif (decide (y9.2.2.2.1>0))then
     (bE cP.cell H24 p0 0).bind λx27=>
     x27.bind λi28=>
     (bE dG.cells H24 i28 0).bind λx29=>
     (idx y9.2.1 (IntKind.wrap .i64 (y9.2.2.2.1 - 1))).bind λx30=>
     (mz fuel x29 x30 x10).bind λr31=>
     bif (decide (r31>=0))then
      some (.inr (.inr (false,H24)))
     else
      jp26 ()
    else
     jp26 ()) λjp12=>
  (bE cP.cell y9.2.2.2.2 p0 0).bind λx13=>
  x13.bind λi14=>
  (bE dG.cells y9.2.2.2.2 i14 0).bind λx15=>
  (uY fuel x15 x10.Row).bind λr16=>
  bif (!r16)then
   jp12 true
  else
   (FV fuel x10.Key).bind λr17=>
   bif ((!r17)||(decide (x10.Number<1)))then
    jp12 true
   else
    (bE cP.cell y9.2.2.2.2 p0 0).bind λx18=>
    x18.bind λi19=>
    (bE (cI .i64).cell y9.2.2.2.2 i19 5).bind λx20=>
    bif (decide (x10.Number>x20))then
     jp12 true
    else
     (bE cM.cell y9.2.2.2.2 p0 3).bind λx21=>
     (Bx (kI .i64) cB y9.2.2.2.2 x21 x10.Number).bind λq22=>
     jp12 (q22.getD false)
 else
  some (.inr (.inl y9.2.2.2.2))
def dH(fuel:Nat)(p0:Nat)(p1:Node)(p2:Bool)(p3:nz)(H:Hp):Option ((Bool)×Hp):=
 bz (λ(j1:Unit)=>
  (iter (db fuel p0 p1) fuel (p1.Level,p1.Entries,p1.Kids,0,H)).bind (Sum.elim (λv41=>
   some (true,v41)) (λr42=>
   some r42))) λjp2=>
 (bE cP.cell H p0 0).bind λx3=>
 x3.bind λi4=>
 (bE (cI .i64).cell H i4 3).bind λx5=>
 bif (decide ((p1.Entries.length:Int)>x5))then
  some (false,H)
 else
  bif (!p2)then
   (bE cP.cell H p0 0).bind λx6=>
   x6.bind λi7=>
   (dC fuel i7 H).bind λr8=>
   bif (decide ((p1.Entries.length:Int)<r8))then
    some (false,H)
   else
    jp2 ()
  else
   jp2 ()
def uo(x0:(List Node)):SV:=.d (.list 3 (List.map cj x0))
def QV(x0:nz):SV:=.box [.d (dE ab x0.low),.d (dE ab x0.high)]
def um(x0:Node):SV:=.box [vI x0.Level,.d (.list 3 (List.map ab x0.Entries)),.d (.list 1 (List.map (D.int .i64) x0.Kids))]
def Mw(x0:Node):SV:=.d (.list 3 (List.map ab x0.Entries))
def qv(x0:Node):SV:=vI (x0.Entries.length:Int)
def U1(x0:Node):SV:=.d (.agg [.int .i64 x0.Level,.list 3 (List.map ab x0.Entries),.list 1 (List.map (D.int .i64) x0.Kids)])
def Ub(x0:nz):SV:=.d (.agg [dE ab x0.low,dE ab x0.high])
def rl(x0:Int×(List Entry)×(List Int)×Int×Hp):SV:=.box [vI x0.1,.d (.list 3 (List.map ab x0.2.1)),.d (.list 1 (List.map (D.int .i64) x0.2.2.1))]
section
attribute [local irreducible] cf jj lh lH SW uS
def K15:=λa0 a1 a2 a3 a4 a5 a6 (t:SL)=>((0,.d (.ptr a0 0))::(5,rl a1)::(10,vI a2)::(11,me a3)::(38,Mw a4)::(39,qv a5)::(40,vI a6)::t:SL)
theorem vG(h:dH fuel p0 p1 p2 p3 H=some r):SC Tryz.prog false 75 [.d (.ptr p0 0),.d (cj p1),vB p2,.d (zV p3)] H (vB r.1) r.2:=by
 refine dr Tryz.func75 rfl ?_
 unfold dH at h
 exact aI 148 H [(0,.d (.ptr p0 0)),(1,U1 p1),(2,vB p2),(3,Ub p3)]<|ar 1<|aA<|aa 2<|ax (aJ (enc:=ab) (xs:=p1.Entries))<|aa 1<|ak<|gr 148 H [0,5] (λ(j1:Unit)=>[(0,.d (.ptr p0 0)),(5,um p1)]) h (λj1 h=>an<|aA<|aa 2<|ax (aJ (enc:=ab) (xs:=p1.Entries))<|aa 1<|ak<|aM<|bI h λz40 hit h=>l7 148 [0,5,38,39,40] (λy9=>[(0,.d (.ptr p0 0)),(5,.box [vI y9.1,.d (.list 3 (List.map ab y9.2.1)),.d (.list 1 (List.map (D.int .i64) y9.2.2.1))]),(38,Mw p1),(39,qv p1),(40,vI y9.2.2.2.1)]) (λy9=>y9.2.2.2.2) (λb e s=>((∃v41,b=(.inl v41)/\(e=.exit 0/\s=(sp 148 [] v41)))\/(∃r42,b=(.inr r42)/\(e=.ret/\dw Tryz.prog Tryz.f75.results.toList r42.2 (vB r42.1) .ret s)))) hit κ (λy9 o h=>by unfold db at h;exact ar 1<|an<|aT h (λh=>ao<|ag<|an<|aM<|aA<|aa 1<|bI h λx10 hx h=>ax (s:=bb none (ab x10).cells) (aD (n:=3) hx)<|aa 4<|ak<|an<|gr 148 y9.2.2.2.2 [0,5,10,11,38,39,40,87] (λ(j11:Bool)=>(K15 p0 y9 y9.2.2.2.1 x10 p1 p1 y9.2.2.2.1 [(87,vB j11)])) h (λj11 h=>aT h (λh=>ar 1<|al<|aq<|aQ<|aq<|aq<|LR h (.inr (⟨(false,y9.2.2.2.2),rfl,rfl,dw.ret [] κ κ⟩))) (λh=>ao<|ag<|an<|g8 6 κ κ<|bp 3<|bI h λx23 hx h=>bU (s:=.d (cM.enc x23)) (aF hx)<|pe [] [0,5,10,11,38,39,40,91,93] 2<|cd<|bI h λH24 hx h=>MM 148 H24 (kc:=(kI .i64)) (v:=cB) (mm:=x23) (key:=x10.Number) (y:=true) [0,5,10,11,38,39,40] (K15 p0 y9 y9.2.2.2.1 x10 p1 p1 y9.2.2.2.1 []) hx κ κ<|ak<|gr 148 H24 [0,5,10,11,38,39,40] (λ(j25:Unit)=>(K15 p0 y9 y9.2.2.2.1 x10 p1 p1 y9.2.2.2.1 [])) h (λj25 h=>an<|fL<|dn [] [0,5,10,11,38,39,40,116] 3<|dV (λb=>(sp 148 (K15 p0 y9 y9.2.2.2.1 x10 p1 p1 y9.2.2.2.1 [(116,vB b)]) H24)) h (λh=>aE 3<|bI h λx32 hx h=>bn (s:=.d (cP.enc x32)) (aF hx)<|bI h λi33 hp_i33 h=>bn (s:=.d (.ptr i33 0)) (bh hp_i33)<|aE 2<|bI h λx34 hx h=>bn (s:=vI x34) (aF hx)<|dn [] [0,5,10,11,38,39,40,127] 3<|dV (λb=>(sp 148 (K15 p0 y9 y9.2.2.2.1 x10 p1 p1 y9.2.2.2.1 [(127,vB b)]) H24)) h (λh=>aE 3<|bI h λx35 hx h=>bn (s:=.d (cP.enc x35)) (aF hx)<|bI h λi36 hp_i36 h=>bn (s:=.d (.ptr i36 0)) (bh hp_i36)<|aE 1<|bI h λx37 hx h=>bn (s:=.d (.agg [.list 1 (List.map (D.int .i64) x37.aG),.list 1 (List.map D.bool x37.Down),.int .i64 x37.eD])) (aF hx)<|aE 4<|bI h λx38 hx h=>bn (s:=bb none (ab x38).cells) (aD (n:=3) hx)<|aE 4<|bI h λr39 hr h=>fc (oe hr)<|aE 2<|bG<|ag<|aT h (λh=>ar 1<|al<|aQ<|aq<|aq<|LR h (.inr (⟨(false,H24),rfl,rfl,dw.ret [] κ κ⟩))) (λh=>ao<|aR<|ag<|ah<|aa 2<|af<|LQ h)) λh=>aE 19<|bG<|ag<|jK<|ao<|aR<|ag<|ah<|aa 2<|af<|LQ h) λh=>aE 30<|bG<|ag<|jK<|ao<|aR<|ag<|ah<|aa 2<|af<|LQ h) λjp26 h=>an<|fL<|dn [] [0,5,10,11,38,39,40,96] 3<|dV (λb=>(sp 148 (K15 p0 y9 y9.2.2.2.1 x10 p1 p1 y9.2.2.2.1 [(96,vB b)]) H24)) h (λh=>aE 3<|bI h λx27 hx h=>bn (s:=.d (cP.enc x27)) (aF hx)<|bI h λi28 hp_i28 h=>bn (s:=.d (.ptr i28 0)) (bh hp_i28)<|aE 1<|bI h λx29 hx h=>bn (s:=.d (.agg [.list 1 (List.map (D.int .i64) x29.aG),.list 1 (List.map D.bool x29.Down),.int .i64 x29.eD])) (aF hx)<|aE 4<|bI h λx30 hx h=>bn (s:=bb none (ab x30).cells) (aD (n:=3) hx)<|aE 2<|bI h λr31 hr h=>fc (qP hr)<|aE 2<|bG<|ag<|aT h (λh=>ar 1<|al<|aq<|aQ<|aq<|aq<|LR h (.inr (⟨(false,H24),rfl,rfl,dw.ret [] κ κ⟩))) (λh=>ao<|JQ [] h)) λh=>aE 17<|bG<|ag<|jK<|ao<|JQ [] h)) λjp12 h=>fL<|aE 3<|bI h λx13 hx h=>bn (s:=.d (cP.enc x13)) (aF hx)<|bI h λi14 hp_i14 h=>bn (s:=.d (.ptr i14 0)) (bh hp_i14)<|aE 1<|bI h λx15 hx h=>bn (s:=.d (.agg [.list 1 (List.map (D.int .i64) x15.aG),.list 1 (List.map D.bool x15.Down),.int .i64 x15.eD])) (aF hx)<|aE 2<|bI h λr16 hr h=>fc (xr hr)<|dn [] [0,5,10,11,38,39,40,56] 2<|dV (λb=>(sp 148 (K15 p0 y9 y9.2.2.2.1 x10 p1 p1 y9.2.2.2.1 [(56,vB b)]) y9.2.2.2.2)) h (λh=>aE 31<|bG<|JQ [] h) λh=>aE 2<|bI h λr17 hr h=>fc (FU hr)<|dn [] [0,5,10,11,38,39,40,62] 3<|Lh 148 y9.2.2.2.2 [0,5,10,11,38,39,40,66] 4 (!r17) (λb=>(sp 148 (K15 p0 y9 y9.2.2.2.1 x10 p1 p1 y9.2.2.2.1 [(62,vB b)]) y9.2.2.2.2)) (λb=>(K15 p0 y9 y9.2.2.2.1 x10 p1 p1 y9.2.2.2.1 [(66,vB (b||(decide (x10.Number<1))))])) κ κ κ<|dn [] [0,5,10,11,38,39,40,67] 1<|dV (λb=>(sp 148 (K15 p0 y9 y9.2.2.2.1 x10 p1 p1 y9.2.2.2.1 [(67,vB b)]) y9.2.2.2.2)) h (λh=>aE 20<|bG<|JQ [] h) λh=>aE 5<|bI h λx18 hx h=>bn (s:=.d (cP.enc x18)) (aF hx)<|bI h λi19 hp_i19 h=>bn (s:=.d (.ptr i19 0)) (bh hp_i19)<|aE 1<|bI h λx20 hx h=>bn (s:=vI x20) (aF hx)<|dn [] [0,5,10,11,38,39,40,79] 3<|dV (λb=>(sp 148 (K15 p0 y9 y9.2.2.2.1 x10 p1 p1 y9.2.2.2.1 [(79,vB b)]) y9.2.2.2.2)) h (λh=>aE 8<|bG<|JQ [] h) λh=>aE 3<|bI h λx21 hx h=>bn (s:=.d (cM.enc x21)) (aF hx)<|aE 2<|bI h λq22 hq h=>bn (MZ (kc:=(kI .i64)) (v:=cB) (ok:=false) (mm:=x21) (key:=x10.Number) (z:=false) hq)<|aE 1<|bG<|JQ [] h) (λh=>aI 148 y9.2.2.2.2 []<|bT<|ba<|ba<|LR h (.inl ⟨y9.2.2.2.2,rfl,rfl,rfl⟩))) (by rintro _ _ (⟨v41,rfl,rfl,rfl⟩|⟨r42,rfl,rfl,hE⟩);exact have h:=js h;bw<|ag<|ar 1<|al<|iI h▸E0;exact have h:=jr h;aQ<|aq<|(by cases h;exact hE))) λjp2 h=>aA<|aa 4<|bI h λx3 hx h=>ax (s:=.d (cP.enc x3)) (aF hx)<|bI h λi4 hp_i4 h=>ax (s:=.d (.ptr i4 0)) (bh hp_i4)<|aa 1<|bI h λx5 hx h=>ax (s:=vI x5) (aF hx)<|aX [] [0,2,5,9,24] 2<|cn (λb=>(sp 148 [(0,.d (.ptr p0 0)),(2,vB p2),(5,um p1),(9,qv p1),(24,vB b)] H)) h (λh=>aa 12<|ak<|eS κ<|ar 1<|al<|aq<|iI h▸E0) λh=>aX [] [0,5,9,24,27] 3<|cn (λb=>(sp 148 [(0,.d (.ptr p0 0)),(5,um p1),(9,qv p1),(24,vB false),(27,vB b)] H)) h (λh=>aa 4<|bI h λx6 hx h=>tg (s:=.d (cP.enc x6)) [0,5,24,27,28,32] (aF hx)<|bI h λi7 hp_i7 h=>bH x6 (λp=>(sp 148 [(0,.d (.ptr p0 0)),(5,um p1),(24,vB false),(27,vB true),(28,qv p1),(32,.d (cP.enc p))] H)) κ hp_i7<|bI h λr8 hr h=>mc (ls:=[]) (kH hr)<|aa 3<|ak<|aT h (λh=>ar 1<|al<|aq<|iI h▸E0) (λh=>ao<|JQ [] h)) λh=>aa 9<|ak<|jK<|ao<|JQ [] h
def cW(fuel:Nat)(p0:Nat)(p1:Entry)(p2:Entry)(H:Hp):Option (Bool):=
 (bE cP.cell H p0 0).bind λx1=>
 x1.bind λi2=>
 (bE dG.cells H i2 0).bind λx3=>
 (mz fuel x3 p1 p2).bind λr4=>
 bif (decide (r4<0))then
  (bE cP.cell H p0 0).bind λx5=>
  x5.bind λi6=>
  (bE (cI .i64).cell H i6 2).bind λx7=>
  bif (x7 !=1)then
   some true
  else
   (bE cP.cell H p0 0).bind λx8=>
   x8.bind λi9=>
   (bE dG.cells H i9 0).bind λx10=>
   (pE fuel x10 p1.Row p2.Row).bind λr11=>
   some (r11 !=0)
 else
  some false
theorem lK(h:cW fuel p0 p1 p2 H=some r):SC Tryz.prog true 76 [.d (.ptr p0 0),.d (ab p1),.d (ab p2)] H (vB r) H:=by
 refine fT Tryz.func76 rfl ?_
 unfold cW at h
 exact aI 44 H [(0,.d (.ptr p0 0)),(1,ny p1),(2,ny p2)]<|ar 1<|an<|fL<|aE 3<|bI h λx1 hx h=>bn (s:=.d (cP.enc x1)) (aF hx)<|bI h λi2 hp_i2 h=>bn (s:=.d (.ptr i2 0)) (bh hp_i2)<|aE 1<|bI h λx3 hx h=>bn (s:=.d (.agg [.list 1 (List.map (D.int .i64) x3.aG),.list 1 (List.map D.bool x3.Down),.int .i64 x3.eD])) (aF hx)<|aE 2<|bI h λr4 hr h=>fc (qP hr)<|dn [] [0,4,5,18] 2<|dV (λb=>(sp 44 [(0,.d (.ptr p0 0)),(4,me p1),(5,me p2),(18,vB b)] H)) h (λh=>aE 3<|bI h λx5 hx h=>bn (s:=.d (cP.enc x5)) (aF hx)<|bI h λi6 hp_i6 h=>bn (s:=.d (.ptr i6 0)) (bh hp_i6)<|aE 2<|bI h λx7 hx h=>bn (s:=vI x7) (aF hx)<|dn [] [0,4,5,18,28] 2<|dV (λb=>(sp 44 [(0,.d (.ptr p0 0)),(4,me p1),(5,me p2),(18,vB true),(28,vB b)] H)) h (λh=>aE 16<|bG<|ag<|al<|iI h▸E0) λh=>aE 3<|bI h λx8 hx h=>bn (s:=.d (cP.enc x8)) (aF hx)<|bI h λi9 hp_i9 h=>bn (s:=.d (.ptr i9 0)) (bh hp_i9)<|aE 1<|bI h λx10 hx h=>bn (s:=.d (.agg [.list 1 (List.map (D.int .i64) x10.aG),.list 1 (List.map D.bool x10.Down),.int .i64 x10.eD])) (aF hx)<|aE 4<|bI h λr11 hr h=>fc (oe hr)<|aE 4<|bG<|ag<|al<|iI h▸E0) λh=>aE 26<|bG<|ag<|al<|iI h▸E0
def et(fuel:Nat)(x7:Node)(q30:(Hp×Nat))(y31:(Option Entry)×(Option Entry)×Int×(List Entry)×(List Int)×Int×Hp):Option (((Option Entry)×(Option Entry)×Int×(List Entry)×(List Int)×Int×Hp)⊕((Option Entry)×(Option Entry)×Int×(List Entry)×(List Int)×Hp)):=
 bif (decide (y31.2.2.2.2.2.1<(x7.Entries.length:Int)))then
  (idx x7.Entries y31.2.2.2.2.2.1).bind λx32=>
  (dQ 3 aP y31.2.2.2.2.2.2 q30.2 0).bind λq33=>
  (Ap fuel x32).bind λr35=>
  ff (decide ((q33.1++[r35]).length<=room))<|
  (dh 3 aP q33.2 q30.2 0 (q33.1++[r35])).bind λH37=>
  some (.inl (y31.1,y31.2.1,y31.2.2.1,y31.2.2.2.1,y31.2.2.2.2.1,(IntKind.wrap .i64 (y31.2.2.2.2.2.1+1)),H37))
 else
  some (.inr (y31.1,y31.2.1,y31.2.2.1,y31.2.2.2.1,y31.2.2.2.2.1,y31.2.2.2.2.2.2))
def cE(fuel:Nat)(rc:(Nat->Int->nz->Hp->Option (((Option Nat))×Hp)))(p0:Nat)(x1:Int)(x7:Node)(j8:Int×Bool)(q30:(Hp×Nat))(v39:(Option Entry)×(Option Entry)×Int×(List Entry)×(List Int)×Hp)(y40:(Option Entry)×(Option Entry)×Int×(List Entry)×(List Int)×Int×Hp):Option (((Option Entry)×(Option Entry)×Int×(List Entry)×(List Int)×Int×Hp)⊕((Hp)⊕((((Option Nat))×Hp)))):=
 bif (decide (y40.2.2.2.2.2.1<(v39.2.2.2.2.1.length:Int)))then
  (idx v39.2.2.2.2.1 y40.2.2.2.2.2.1).bind λx41=>
  bz (λ(j42:Bool)=>
   bif j42 then
    (ee (cI .i64) y40.2.2.2.2.2.2 p0 4 x1).bind λH46=>
    some (.inr (.inr (none,H46)))
   else
    bz (λ(j47:(Option Entry))=>
     bz (λ(j50:(Option Entry))=>
      (rc p0 (IntKind.wrap .i64 (j8.1 - 1)) (⟨j47,j50⟩:nz) y40.2.2.2.2.2.2).bind λr53=>
      (Option.elim r53.1
       (some (.inr (.inr (none,r53.2))))
      (λi54=>
       (dQ 1 cP r53.2 q30.2 1).bind λq55=>
       ff (decide ((q55.1++[(some i54)]).length<=room))<|
       (dh 1 cP q55.2 q30.2 1 (q55.1++[(some i54)])).bind λH56=>
       some (.inl (y40.1,y40.2.1,y40.2.2.1,y40.2.2.2.1,y40.2.2.2.2.1,(IntKind.wrap .i64 (y40.2.2.2.2.2.1+1)),H56))))) λjp51=>
     bif (decide (y40.2.2.2.2.2.1<(x7.Entries.length:Int)))then
      (idx y40.2.2.2.1 y40.2.2.2.2.2.1).bind λx52=>
      jp51 (some x52)
     else
      jp51 y40.2.1) λjp48=>
    bif (decide (y40.2.2.2.2.2.1>0))then
     (idx y40.2.2.2.1 (IntKind.wrap .i64 (y40.2.2.2.2.2.1 - 1))).bind λx49=>
     jp48 (some x49)
    else
     jp48 y40.1) λjp43=>
  (bE (cI .i64).cell y40.2.2.2.2.2.2 p0 2).bind λx44=>
  bif (x41 !=x44)then
   jp43 true
  else
   (bL 3 BL y40.2.2.2.2.2.2 p0 1).bind λx45=>
   jp43 (decide (x41>=(x45.length:Int)))
 else
  some (.inr (.inl y40.2.2.2.2.2.2))
def fQ(fuel:Nat)(rc:(Nat->Int->nz->Hp->Option (((Option Nat))×Hp)))(p0:Nat)(p1:Int)(p2:nz)(H:Hp):Option (((Option Nat))×Hp):=
 (bE (cI .i64).cell H p0 2).bind λx1=>
 (bL 3 BL H p0 1).bind λx2=>
 bif (decide (x1>=(x2.length:Int)))then
  (ee (cI .i64) H p0 4 x1).bind λH3=>
  some (none,H3)
 else
  (bE (cI .i64).cell H p0 2).bind λx4=>
  (ee (cI .i64) H p0 2 (IntKind.wrap .i64 (x4+1))).bind λH5=>
  (bL 3 BL H5 p0 1).bind λx6=>
  (idx x6 x1).bind λx7=>
  bz (λ(j8:Int×Bool)=>
   bz (λ(j10:Int)=>
    bz (λ(j12:Bool×Hp)=>
     bif j12.1 then
      (ee (cI .i64) j12.2 p0 4 x1).bind λH15=>
      some (none,H15)
     else
      bz (λ(j16:(Option Entry)×(Option Entry))=>
       (nv j12.2 (.cells [.own 3 (List.map ab ([]:List Entry)),.own 1 (List.map cP.enc ([]:List (Option Nat)))])).bind λq30=>
       (iter (et fuel x7 q30) fuel (j16.1,j16.2,x7.Level,x7.Entries,x7.Kids,0,q30.1)).bind λv39=>
       (iter (cE fuel rc p0 x1 x7 j8 q30 v39) fuel (v39.1,v39.2.1,v39.2.2.1,v39.2.2.2.1,v39.2.2.2.2.1,0,v39.2.2.2.2.2)).bind (Sum.elim (λv58=>
        some ((some q30.2),v58)) (λr59=>
        some r59))) λjp17=>
      bif (decide ((x7.Entries.length:Int)>0))then
       (Option.elim p2.low
        ((Option.elim p2.high
         (jp17 (none,none))
        (λx19=>
         (idx x7.Entries (IntKind.wrap .i64 ((x7.Entries.length:Int) - 1))).bind λx20=>
         (cW fuel p0 x20 x19 j12.2).bind λr21=>
         bif (!r21)then
          (ee (cI .i64) j12.2 p0 4 x1).bind λH22=>
          some (none,H22)
         else
          jp17 (none,(some x19)))))
       (λx18=>
        (idx x7.Entries 0).bind λx23=>
        (cW fuel p0 x18 x23 j12.2).bind λr24=>
        bif (!r24)then
         (ee (cI .i64) j12.2 p0 4 x1).bind λH25=>
         some (none,H25)
        else
         (Option.elim p2.high
          (jp17 ((some x18),none))
         (λx26=>
          (idx x7.Entries (IntKind.wrap .i64 ((x7.Entries.length:Int) - 1))).bind λx27=>
          (cW fuel p0 x27 x26 j12.2).bind λr28=>
          bif (!r28)then
           (ee (cI .i64) j12.2 p0 4 x1).bind λH29=>
           some (none,H29)
          else
           jp17 ((some x18),(some x26))))))
      else
       jp17 (p2.low,p2.high)) λjp13=>
    (dH fuel p0 x7 j8.2 p2 H5).bind λr14=>
    bif (((!r14.1)||(decide (x7.Level<0)))||(x7.Level !=j8.1))then
     jp13 (true,r14.2)
    else
     jp13 ((((x7.Kids.length:Int) !=j10)||(j10==1)),r14.2)) λjp11=>
   bif (decide (x7.Level>0))then
    jp11 (IntKind.wrap .i64 ((x7.Entries.length:Int)+1))
   else
    jp11 0) λjp9=>
  bif (x1==0)then
   jp9 (x7.Level,true)
  else
   jp9 (p1,false)
def dZ:Nat->(Nat->Int->nz->Hp->Option (((Option Nat))×Hp))
 |0=>λ_ _ _ _=>none
 |fuel+1=>fQ fuel (dZ fuel)
def U0(x0:Entry)(x1:nz):SV:=.box [.d (.fV [.list 3 (List.map ay x0.Row),.int .i64 x0.Key,.int .i64 x0.Number]),.d (dE ab x1.high)]
def SM(x0:(Option Entry)×(Option Entry)×Int×(List Entry)×(List Int)×Int×Hp):SV:=.box [.d (dE ab x0.1),.d (dE ab x0.2.1)]
def SK(x0:(Option Entry)×(Option Entry)×Int×(List Entry)×(List Int)×Int×Hp):SV:=.box [vI x0.2.2.1,.d (.list 3 (List.map ab x0.2.2.2.1)),.d (.list 1 (List.map (D.int .i64) x0.2.2.2.2.1))]
def Mv(x0:(Option Entry)×(Option Entry)×Int×(List Entry)×(List Int)×Hp):SV:=.d (.list 1 (List.map (D.int .i64) x0.2.2.2.2.1))
def Mu(x0:(Option Entry)×(Option Entry)×Int×(List Entry)×(List Int)×Hp):SV:=vI (x0.2.2.2.2.1.length:Int)
def K3:=λa0 a1 a2 a3 a4 a5 a6 a7 a8 a9 (t:SL)=>((0,.d (.ptr a0 0))::(1,vI a1)::(5,SM a2)::(7,vI a3)::(9,SK a4)::(10,qv a5)::(12,.d (.ptr a6 0))::(140,Mw a7)::(141,qv a8)::(142,vI a9)::t:SL)
def K31:=λa0 a1 a2 a3 a4 a5 a6 (t:SL)=>((0,.d (.ptr a0 0))::(1,vI a1)::(5,SM a2)::(7,vI a3)::(9,SK a4)::(10,qv a5)::(12,.d (.ptr a6 0))::t:SL)
def K32:=λa0 a1 a2 a3 a4 a5 a6 a7 a8 a9 (t:SL)=>((0,.d (.ptr a0 0))::(1,vI a1)::(5,.box [.d (dE ab a2),.d (dE ab a3)])::(7,vI a4)::(9,.box [vI a5,.d (.list 3 (List.map ab a6)),.d (.list 1 (List.map (D.int .i64) a7))])::(10,qv a8)::(12,.d (.ptr a9 0))::t:SL)
def K34:=λa0 a1 a2 a3 a4 a5 (t:SL)=>((0,.d (.ptr a0 0))::(1,vI a1)::(5,QV a2)::(7,vI a3)::(9,um a4)::(10,qv a5)::t:SL)
def K54:=λa0 a1 a2 a3 a4 a5 a6 a7 a8 a9 a10 (t:SL)=>((0,.d (.ptr a0 0))::(1,vI a1)::(5,SM a2)::(7,vI a3)::(9,SK a4)::(10,qv a5)::(12,.d (.ptr a6 0))::(140,Mw a7)::(141,qv a8)::(142,vI a9)::(146,.d (.ptr a10 0))::t:SL)
theorem uX{fuel:Nat}{rc:(Nat->Int->nz->Hp->Option (((Option Nat))×Hp))}(ih: ∀{p0:Nat} {p1:Int} {p2:nz} {H:Hp} {r:((Option Nat))×Hp},rc p0 p1 p2 H=some r->SC Tryz.prog false 47 [.d (.ptr p0 0),vI p1,.d (zV p2)] H (.d (cP.enc r.1)) r.2){p0:Nat}{p1:Int}{p2:nz}{H:Hp}{r:((Option Nat))×Hp}(h:fQ fuel rc p0 p1 p2 H=some r):SC Tryz.prog false 47 [.d (.ptr p0 0),vI p1,.d (zV p2)] H (.d (cP.enc r.1)) r.2:=by
 refine dr Tryz.func47 rfl ?_
 unfold fQ at h
 exact aI 223 H (K10 p0 p1 [(2,Ub p2)])<|ar 1<|aA<|aa 3<|bI h λx1 hx h=>ax (s:=vI x1) (aF hx)<|aa 1<|ak<|ar 1<|an<|aA<|aa 4<|bI h λx2 hx h=>ax (aY hx)<|ax (aJ (enc:=cj) (xs:=x2))<|aa 1<|ak<|aT h (λh=>aA<|aa 4<|bI h λH3 hx h=>ga hx<|ak<|ar 1<|al<|aq<|iI h▸E0) (λh=>ao<|ag<|aA<|aa 3<|bI h λx4 hx h=>ax (s:=vI x4) (aF hx)<|aa 3<|bI h λH5 hx h=>ga hx<|ak<|aA<|aa 3<|bI h λx6 hx h=>ax (aY hx)<|aa 1<|bI h λx7 hx h=>ax (s:=bb (some (.au p0 1)) (cj x7).cells) (aD (n:=3) hx)<|aa 3<|ak<|gr 223 H5 [0,1,5,7,8,9] (λ(j8:Int×Bool)=>(K10 p0 j8.1 [(5,QV p2),(7,vI x1),(8,vB j8.2),(9,um x7)])) h (λj8 h=>aA<|aa 2<|ax (aJ (enc:=ab) (xs:=x7.Entries))<|aa 1<|ak<|ar 1<|gr 223 H5 [0,1,5,7,8,9,10,11] (λ(j10:Int)=>(K10 p0 j8.1 [(5,QV p2),(7,vI x1),(8,vB j8.2),(9,um x7),(10,qv x7),(11,vI j10)])) h (λj10 h=>an<|sY 223 [0,1,5,7,9,10,88] (λ(j12:Bool×Hp)=>(K34 p0 j8.1 p2 x1 x7 x7 [(88,vB j12.1)])) (λ(j12:Bool×Hp)=>j12.2) h (λj12 h=>aT h (λh=>aA<|aa 4<|bI h λH15 hx h=>ga hx<|ak<|ar 1<|al<|aq<|iI h▸E0) (λh=>ao<|ag<|gr 223 j12.2 [0,1,5,7,9,10] (λ(j16:(Option Entry)×(Option Entry))=>(K10 p0 j8.1 [(5,.box [.d (dE ab j16.1),.d (dE ab j16.2)]),(7,vI x1),(9,um x7),(10,qv x7)])) h (λj16 h=>aA<|aa 1<|bI h λq30 hq h=>w6 [(0,3,true),(1,1,true)] hq<|aa 1<|ak<|an<|aA<|aa 2<|ax (aJ (enc:=ab) (xs:=x7.Entries))<|aa 1<|ak<|aM<|bI h λv39 hit h=>l7 223 [0,1,5,7,9,10,12,140,141,142] (λy31=>(K32 p0 j8.1 y31.1 y31.2.1 x1 y31.2.2.1 y31.2.2.2.1 y31.2.2.2.2.1 x7 q30.2 [(140,Mw x7),(141,qv x7),(142,vI y31.2.2.2.2.2.1)])) (λy31=>y31.2.2.2.2.2.2) (λv39 e s=>(e=.exit 0/\s=(sp 223 (K32 p0 j8.1 v39.1 v39.2.1 x1 v39.2.2.1 v39.2.2.2.1 v39.2.2.2.2.1 x7 q30.2 []) v39.2.2.2.2.2))) hit κ (λy31 o h=>by
  unfold et at h;exact ar 1<|an<|aT h (λh=>ao<|ag<|an<|aM<|aA<|bI h λx32 hx h=>ax (s:=bb none (ab x32).cells) (aD (n:=3) hx)<|aa 3<|ak<|bI h λq33 hq33 h=>bI h λr35 hr_7 h=>nJ h λhk36 h=>bI h λH37 hx_13 h=>aI 223 y31.2.2.2.2.2.2 (K31 p0 j8.1 y31 x1 y31 x7 q30.2 [(14,me x32),(140,Mw x7),(141,qv x7),(142,vI y31.2.2.2.2.2.1)])<|lZ q30.2 0 λv34=>by
   refine gW 223 H37 (K3 p0 j8.1 y31 x1 y31 x7 q30.2 x7 x7 y31.2.2.2.2.2.1 []) [0,1,2,3,4,6] 8 95 κ κ κ (λX hX=>?_) (aR<|ag<|ah<|aa 2<|af<|LQ h)
   .have c16383:X 0 16383 (sp 223 (K3 p0 j8.1 y31 x1 y31 x7 q30.2 x7 x7 y31.2.2.2.2.2.1 []) H37):=by subst hX;exact pA κ
    have c8191:X 1 8191 (sp 223 (K3 p0 j8.1 y31 x1 y31 x7 q30.2 x7 x7 y31.2.2.2.2.2.1 [(155,CH q33 r35),(158,.d (.ptr q30.2 0))]) q33.2):=by subst hX;exact aV 13 [] ⟨Cb (c:=aP) (n':=3) (s:=155) (xs:=(q33.1++[r35])) 223 [0,1,5,7,9,10,12,140,141,142] (K3 p0 j8.1 y31 x1 y31 x7 q30.2 x7 x7 y31.2.2.2.2.2.1 []) hx_13 κ κ<|af c16383,trivial⟩
    have c4095:X 2 4095 (sp 223 (K3 p0 j8.1 y31 x1 y31 x7 q30.2 x7 x7 y31.2.2.2.2.2.1 [(155,CH q33 r35),(157,.d (.ptr q30.2 0))]) q33.2):=by subst hX;exact aV 12 [] ⟨bm 223 q33.2 [151] [0,1,5,7,9,10,12,140,141,142,155,158] 1 (K3 p0 j8.1 y31 x1 y31 x7 q30.2 x7 x7 y31.2.2.2.2.2.1 [(155,CH q33 r35),(158,.d (.ptr q30.2 0))]) κ<|af c8191,trivial⟩
    have c2047:X 3 2047 (sp 223 (K3 p0 j8.1 y31 x1 y31 x7 q30.2 x7 x7 y31.2.2.2.2.2.1 [(155,CH q33 r35),(156,.d (.ptr q30.2 0))]) q33.2):=by subst hX;exact aV 11 [] ⟨bm 223 q33.2 [151] [0,1,5,7,9,10,12,140,141,142,155,157] 1 (K3 p0 j8.1 y31 x1 y31 x7 q30.2 x7 x7 y31.2.2.2.2.2.1 [(155,CH q33 r35),(157,.d (.ptr q30.2 0))]) κ<|af c4095,trivial⟩
    have c1023:X 4 1023 (sp 223 (K54 p0 j8.1 y31 x1 y31 x7 q30.2 x7 x7 y31.2.2.2.2.2.1 q30.2 [(155,CH q33 r35)]) q33.2):=by subst hX;exact aV 10 [] ⟨bm 223 q33.2 [151] [0,1,5,7,9,10,12,140,141,142,155,156] 1 (K3 p0 j8.1 y31 x1 y31 x7 q30.2 x7 x7 y31.2.2.2.2.2.1 [(155,CH q33 r35),(156,.d (.ptr q30.2 0))]) κ<|af c2047,trivial⟩
    have c511:X 5 511 (sp 223 (K54 p0 j8.1 y31 x1 y31 x7 q30.2 x7 x7 y31.2.2.2.2.2.1 q30.2 [(151,.d (.raw v34)),(154,yf r35)]) (ei y31.2.2.2.2.2.2 q30.2 0 v34)):=by subst hX;exact aV 9 [] ⟨nC (c:=aP) (n':=3) (t:=151) [0,1,5,7,9,10,12,140,141,142,146,151,154] (K54 p0 j8.1 y31 x1 y31 x7 q30.2 x7 x7 y31.2.2.2.2.2.1 q30.2 [(151,Hz q33),(154,yf r35)]) hq33 κ κ κ<|qD 223 q33.2 (s:=151) (d:=155) (w:=3) [0,1,5,7,9,10,12,140,141,142,146,155] (zs:=List.map ab (q33.1++[r35])) (K54 p0 j8.1 y31 x1 y31 x7 q30.2 x7 x7 y31.2.2.2.2.2.1 q30.2 [(155,CH q33 r35)]) (ys:=(List.map ab [r35])) κ (bF) (cC hk36) κ<|af c1023,trivial⟩
    have c255:X 6 255 (sp 223 (K54 p0 j8.1 y31 x1 y31 x7 q30.2 x7 x7 y31.2.2.2.2.2.1 q30.2 [(151,.d (.raw v34)),(153,ny r35)]) (ei y31.2.2.2.2.2.2 q30.2 0 v34)):=by subst hX;exact aV 8 [] ⟨bm 223 (ei y31.2.2.2.2.2.2 q30.2 0 v34) [151] [0,1,5,7,9,10,12,140,141,142,146,151,154] 1 (K54 p0 j8.1 y31 x1 y31 x7 q30.2 x7 x7 y31.2.2.2.2.2.1 q30.2 [(151,.d (.raw v34)),(154,yf r35)]) κ<|af c511,trivial⟩
    have c127:X 7 127 (sp 223 (K54 p0 j8.1 y31 x1 y31 x7 q30.2 x7 x7 y31.2.2.2.2.2.1 q30.2 [(151,.d (.raw v34)),(152,ny x32)]) (ei y31.2.2.2.2.2.2 q30.2 0 v34)):=by subst hX;exact aV 7 [] ⟨iz 223 (ei y31.2.2.2.2.2.2 q30.2 0 v34) (d:=some 153) (ls:=[]) (gs:=[]) [] [0,1,5,7,9,10,12,140,141,142,146,151,153] (K54 p0 j8.1 y31 x1 y31 x7 q30.2 x7 x7 y31.2.2.2.2.2.1 q30.2 [(151,.d (.raw v34)),(153,.d (.agg [.list 3 (List.map ay r35.Row),.int .i64 r35.Key,.int .i64 r35.Number]))]) (oK hr_7) κ κ κ<|af c255,trivial⟩
    have c479:X 6 479 (sp 223 (K54 p0 j8.1 y31 x1 y31 x7 q30.2 x7 x7 y31.2.2.2.2.2.1 q30.2 [(150,.d (.ptr q30.2 0)),(154,yf r35)]) (ei y31.2.2.2.2.2.2 q30.2 0 v34)):=by subst hX;exact aV 5 [] ⟨iw 223 (ei y31.2.2.2.2.2.2 q30.2 0 v34) (d:=some 151) (s:=.d (.raw v34)) [0,1,5,7,9,10,12,140,141,142,146,151,154] (K54 p0 j8.1 y31 x1 y31 x7 q30.2 x7 x7 y31.2.2.2.2.2.1 q30.2 [(151,.d (.raw v34)),(154,yf r35)]) (gY (c:=aP) (n':=3) hq33 κ) κ<|af c511,trivial⟩
    have c223:X 7 223 (sp 223 (K54 p0 j8.1 y31 x1 y31 x7 q30.2 x7 x7 y31.2.2.2.2.2.1 q30.2 [(150,.d (.ptr q30.2 0)),(153,ny r35)]) (ei y31.2.2.2.2.2.2 q30.2 0 v34)):=by subst hX;exact aV 5 [8] ⟨bB (d:=some 151) (s:=.d (.raw v34)) (K54 p0 j8.1 y31 x1 y31 x7 q30.2 x7 x7 y31.2.2.2.2.2.1 q30.2 [(151,.d (.raw v34)),(153,ny r35)]) (gY (c:=aP) (n':=3) hq33 κ)<|af c255,bm 223 (ei y31.2.2.2.2.2.2 q30.2 0 v34) [151] [0,1,5,7,9,10,12,140,141,142,146,150,154] 1 (K54 p0 j8.1 y31 x1 y31 x7 q30.2 x7 x7 y31.2.2.2.2.2.1 q30.2 [(150,.d (.ptr q30.2 0)),(154,yf r35)]) κ<|af c479,trivial⟩
    have c95:X 8 95 (sp 223 (K54 p0 j8.1 y31 x1 y31 x7 q30.2 x7 x7 y31.2.2.2.2.2.1 q30.2 [(150,.d (.ptr q30.2 0)),(152,ny x32)]) (ei y31.2.2.2.2.2.2 q30.2 0 v34)):=by subst hX;exact aV 5 [7] ⟨bB (d:=some 151) (s:=.d (.raw v34)) (K54 p0 j8.1 y31 x1 y31 x7 q30.2 x7 x7 y31.2.2.2.2.2.1 q30.2 [(151,.d (.raw v34)),(152,ny x32)]) (gY (c:=aP) (n':=3) hq33 κ)<|af c127,ub (some 153) (K54 p0 j8.1 y31 x1 y31 x7 q30.2 x7 x7 y31.2.2.2.2.2.1 q30.2 [(150,.d (.ptr q30.2 0)),(153,ny r35)]) (oK hr_7)<|af c223,trivial⟩
    refine aB<|aB<|aB<|aB<|aB<|dp 223 (ei y31.2.2.2.2.2.2 q30.2 0 v34) [0,1,5,7,9,10,12,140,141,142,146,150,152] (K54 p0 j8.1 y31 x1 y31 x7 q30.2 x7 x7 y31.2.2.2.2.2.1 q30.2 [(150,.d (.ptr q30.2 0)),(152,ny x32)]) κ<|dX ?_
    exact c95) (λh=>aI 223 y31.2.2.2.2.2.2 (K31 p0 j8.1 y31 x1 y31 x7 q30.2 [])<|bT<|ba<|ba<|LR h ⟨rfl,rfl⟩)) (by rintro _ _ ⟨rfl,rfl⟩;exact bw<|ag<|an<|aA<|aa 2<|ax (aJ (enc:=(D.int .i64)) (xs:=v39.2.2.2.2.1))<|aa 1<|ak<|aM<|bI h λz57 hit h=>l7 223 [0,1,5,7,9,10,12,161,162,163] (λy40=>(K32 p0 j8.1 y40.1 y40.2.1 x1 y40.2.2.1 y40.2.2.2.1 y40.2.2.2.2.1 x7 q30.2 [(161,Mv v39),(162,Mu v39),(163,vI y40.2.2.2.2.2.1)])) (λy40=>y40.2.2.2.2.2.2) (λb e s=>((∃v58,b=(.inl v58)/\(e=.exit 2/\s=(sp 223 [(12,.d (.ptr q30.2 0))] v58)))\/(∃r59,b=(.inr r59)/\(e=.ret/\dw Tryz.prog Tryz.f47.results.toList r59.2 (.d (cP.enc r59.1)) .ret s)))) hit κ (λy40 o h=>by unfold cE at h;exact ar 1<|an<|aT h (λh=>ao<|ag<|an<|aM<|aA<|aa 1<|bI h λx41 hx h=>ax (s:=bb none (Go.Sh.D.cells ((D.int .i64) x41))) (aD (n:=1) hx)<|aa 3<|ak<|an<|gr 223 y40.2.2.2.2.2.2 [0,1,5,7,9,10,12,15,161,162,163,182] (λ(j42:Bool)=>(K31 p0 j8.1 y40 x1 y40 x7 q30.2 [(15,vI y40.2.2.2.2.2.1),(161,Mv v39),(162,Mu v39),(163,vI y40.2.2.2.2.2.1),(182,vB j42)])) h (λj42 h=>aT h (λh=>aA<|aa 4<|bI h λH46 hx h=>ga hx<|ak<|ar 1<|al<|aq<|aQ<|aq<|aq<|LR h (.inr (⟨(none,H46),rfl,rfl,dw.ret [] κ κ⟩))) (λh=>ao<|ag<|ar 1<|gr 223 y40.2.2.2.2.2.2 [0,1,5,7,9,10,12,15,17,161,162,163] (λ(j47:(Option Entry))=>(K31 p0 j8.1 y40 x1 y40 x7 q30.2 [(15,vI y40.2.2.2.2.2.1),(17,.box [.d (dE ab j47),.d (dE ab y40.2.1)]),(161,Mv v39),(162,Mu v39),(163,vI y40.2.2.2.2.2.1)])) h (λj47 h=>gr 223 y40.2.2.2.2.2.2 [0,1,5,7,9,10,12,17,161,162,163] (λ(j50:(Option Entry))=>(K31 p0 j8.1 y40 x1 y40 x7 q30.2 [(17,.box [.d (dE ab j47),.d (dE ab j50)]),(161,Mv v39),(162,Mu v39),(163,vI y40.2.2.2.2.2.1)])) h (λj50 h=>aA<|aa 4<|bI h λr53 hr h=>b8 (ih hr)<|aa 1<|ak<|an<|aA<|aX [] [0,1,5,7,9,10,12,18,161,162,163,209] 1<|Ce r53.1 (λp=>(sp 223 (K31 p0 j8.1 y40 x1 y40 x7 q30.2 [(18,.d (cP.enc p)),(161,Mv v39),(162,Mu v39),(163,vI y40.2.2.2.2.2.1),(209,.d (cP.enc p))]) r53.2)) κ (λhp=>by rw[hp]at h;exact have h:=oW h;aa 1<|ak<|eS κ<|ar 1<|al<|aq<|aQ<|aq<|aq<|LR h (.inr (⟨(none,r53.2),rfl,rfl,dw.ret [] κ κ⟩))) (λi54 hp=>by rw[hp]at h;exact have h:=oV h;aa 1<|ak<|jK<|ao<|ag<|ah<|aS [215] 4<|bI h λq55 hq h=>m9 hq<|aS [215] 2<|nJ h λhk h=>gb 215 1 (List.map cP.enc (q55.1++[(some i54)])) (bF) (cC hk)<|aS [215] 2<|bI h λH56 hx h=>fF 218 hx<|af<|aR<|ag<|ah<|aa 2<|af<|LQ h)) λjp51 h=>ar 1<|aT h (λh=>ah<|aa 3<|bI h λx52 hx h=>ax (s:=bb none (ab x52).cells) (aD (n:=3) hx)<|aa 2<|af<|JQ [] h) (λh=>ao<|JQ [] h)) λjp48 h=>ar 1<|aT h (λh=>ah<|aa 4<|bI h λx49 hx h=>ax (s:=bb none (ab x49).cells) (aD (n:=3) hx)<|aa 2<|af<|JQ [] h) (λh=>ao<|JQ [] h))) λjp43 h=>ah<|aa 4<|bI h λx44 hx h=>ax (s:=vI x44) (aF hx)<|aX [] [0,1,5,7,9,10,12,15,16,161,162,163,174] 2<|cn (λb=>(sp 223 (K31 p0 j8.1 y40 x1 y40 x7 q30.2 [(15,vI y40.2.2.2.2.2.1),(16,vI x41),(161,Mv v39),(162,Mu v39),(163,vI y40.2.2.2.2.2.1),(174,vB b)]) y40.2.2.2.2.2.2)) h (λh=>aa 8<|af<|JQ [] h) λh=>aa 4<|bI h λx45 hx h=>ax (aY hx)<|ax (aJ (enc:=cj) (xs:=x45))<|aa 2<|af<|JQ [] h) (λh=>aI 223 y40.2.2.2.2.2.2 [(12,.d (.ptr q30.2 0))]<|bT<|ba<|ba<|LR h (.inl ⟨y40.2.2.2.2.2.2,rfl,rfl,rfl⟩))) (by rintro _ _ (⟨v58,rfl,rfl,rfl⟩|⟨r59,rfl,rfl,hE⟩);exact have h:=js h;bw<|ag<|ar 1<|al<|iI h▸E0;exact have h:=jr h;aQ<|aq<|(by cases h;exact hE)))) λjp17 h=>an<|fL<|dn [] [0,1,5,7,9,10,95] 3<|dV (λb=>(sp 223 (K34 p0 j8.1 p2 x1 x7 x7 [(95,vB b)]) j12.2)) h (λh=>dn [] [0,1,5,7,9,10,95,97] 2<|iC p2.low (λp=>(sp 223 (K10 p0 j8.1 [(5,.box [.d (dE ab p),.d (dE ab p2.high)]),(7,vI x1),(9,um x7),(10,qv x7),(95,vB true),(97,.d (dE ab p))]) j12.2)) κ (λhp_x18=>by rw[hp_x18]at h;exact have h:=oW h;dn [] [0,1,5,7,9,10,95,112,114] 17<|iC p2.high (λp=>(sp 223 (K10 p0 j8.1 [(5,.box [.d (.fZ),.d (dE ab p)]),(7,vI x1),(9,um x7),(10,qv x7),(95,vB true),(112,vB false),(114,.d (dE ab p))]) j12.2)) κ (λhp_x19=>by rw[hp_x19]at h;exact have h:=oW h;aE 18<|bG<|ag<|jK<|ao<|JQ [] h) (λx19 hp_x19=>by rw[hp_x19]at h;exact have h:=oV h;aE 7<|bI h λx20 hx h=>bn (s:=bb none (ab x20).cells) (aD (n:=3) hx)<|aE 5<|bI h λr21 hr h=>iB (ls:=[]) (lK hr)<|aE 4<|bG<|ag<|aT h (λh=>aA<|aa 4<|bI h λH22 hx h=>ga hx<|ak<|ar 1<|al<|aq<|iI h▸E0) (λh=>ao<|JQ [] h))) (λx18 hp_x18=>by rw[hp_x18]at h;exact have h:=oV h;aE 9<|bI h λx23 hx h=>bn (s:=bb none (ab x23).cells) (aD (n:=3) hx)<|aE 1<|bI h λr24 hr h=>iB (ls:=[]) (lK hr)<|dn [] [0,1,5,7,9,10,95,112] 3<|dV (λb=>(sp 223 (K10 p0 j8.1 [(5,U0 x18 p2),(7,vI x1),(9,um x7),(10,qv x7),(95,vB true),(112,vB b)]) j12.2)) h (λh=>aE 20<|bG<|ag<|eS κ<|aA<|aa 4<|bI h λH25 hx h=>ga hx<|ak<|ar 1<|al<|aq<|iI h▸E0) λh=>dn [] [0,1,5,7,9,10,95,112,114] 2<|iC p2.high (λp=>(sp 223 (K10 p0 j8.1 [(5,.box [.d (.fV [.list 3 (List.map ay x18.Row),.int .i64 x18.Key,.int .i64 x18.Number]),.d (dE ab p)]),(7,vI x1),(9,um x7),(10,qv x7),(95,vB true),(112,vB false),(114,.d (dE ab p))]) j12.2)) κ (λhp_x26=>by rw[hp_x26]at h;exact have h:=oW h;aE 18<|bG<|ag<|jK<|ao<|JQ [] h) (λx26 hp_x26=>by rw[hp_x26]at h;exact have h:=oV h;aE 7<|bI h λx27 hx h=>bn (s:=bb none (ab x27).cells) (aD (n:=3) hx)<|aE 5<|bI h λr28 hr h=>iB (ls:=[]) (lK hr)<|aE 4<|bG<|ag<|aT h (λh=>aA<|aa 4<|bI h λH29 hx h=>ga hx<|ak<|ar 1<|al<|aq<|iI h▸E0) (λh=>ao<|JQ [] h)))) λh=>aE 37<|bG<|ag<|jK<|ao<|JQ [] h)) λjp13 h=>ah<|aa 4<|bI h λr14 hr h=>b8 (vG hr)<|aX [] [0,1,5,7,9,10,11,67] 2<|dO 223 r14.2 [0,1,5,7,9,10,11,71] 4 (!r14.1) (λb=>(sp 223 (K34 p0 j8.1 p2 x1 x7 x7 [(11,vI j10),(67,vB b)]) r14.2)) (λb=>(K34 p0 j8.1 p2 x1 x7 x7 [(11,vI j10),(71,vB (b||(decide (x7.Level<0))))])) κ κ κ<|aX [] [0,1,5,7,9,10,11,72] 1<|dO 223 r14.2 [0,1,5,7,9,10,11,77] 5 ((!r14.1)||(decide (x7.Level<0))) (λb=>(sp 223 (K34 p0 j8.1 p2 x1 x7 x7 [(11,vI j10),(72,vB b)]) r14.2)) (λb=>(K34 p0 j8.1 p2 x1 x7 x7 [(11,vI j10),(77,vB (b||(x7.Level !=j8.1)))])) κ κ κ<|aX [] [0,1,5,7,9,10,11,78] 1<|cn (λb=>(sp 223 (K34 p0 j8.1 p2 x1 x7 x7 [(11,vI j10),(78,vB b)]) r14.2)) h (λh=>aa 10<|af<|JQ [] h) λh=>aa 2<|ax (aJ (enc:=(D.int .i64)) (xs:=x7.Kids))<|aX [] [0,1,5,7,9,10,11,85] 4<|dO 223 r14.2 [0,1,5,7,9,10,88] 3 ((x7.Kids.length:Int) !=j10) (λb=>(sp 223 (K34 p0 j8.1 p2 x1 x7 x7 [(11,vI j10),(85,vB b)]) r14.2)) (λb=>(K34 p0 j8.1 p2 x1 x7 x7 [(88,vB (b||(j10==1)))])) κ κ κ<|af<|JQ [] h) λjp11 h=>ar 1<|aT h (λh=>ah<|aa 3<|af<|JQ [] h) (λh=>ao<|JQ [] h)) λjp9 h=>HF 1 [0,1,5,7,8,9,50]<|Pg (x1==0) (λb=>(sp 223 (K10 p0 p1 [(5,QV p2),(7,vI x1),(8,vB b),(9,um x7),(50,vB b)]) H5)) κ (λhc=>have h:=fh hc h;eS κ<|ah<|aa 3<|af<|JQ [] h) (λhc=>have h:=fi hc h;jK<|ao<|JQ [] h))
end
theorem xp{fuel:Nat}: ∀{p0:Nat} {p1:Int} {p2:nz} {H:Hp} {r:((Option Nat))×Hp},dZ fuel p0 p1 p2 H=some r->SC Tryz.prog false 47 [.d (.ptr p0 0),vI p1,.d (zV p2)] H (.d (cP.enc r.1)) r.2:=by
 induction fuel with
 |zero=>intros;rename_i h;exact nomatch (show(none:Option (((Option Nat))×Hp))=some _ from h)
 |succ fuel ih=>exactλh=>uX ih h
def mC(fuel:Nat)(p0:az)(p1:Int)(p2:Int)(p3:(List Node))(H:Hp):Option (((Option Nat)×Int×Int)×Hp):=
 (yD fuel p0 p1 H).bind λr1=>
 bif (r1.1.2 !=0)then
  some ((none,0,r1.1.2),r1.2)
 else
  bif (decide (p2<0))then
   some ((none,0,7),r1.2)
  else
   r1.1.1.bind λi2=>
   (ee (cI .i64) r1.2 i2 5 p2).bind λH3=>
   (nv H3 (.map [])).bind λq4=>
   r1.1.1.bind λi5=>
   (nv q4.1 (.cells [.d (.ptr i5 0),.d (.list 3 (List.map cj p3)),.d (.int .i64 0),.d (.map q4.2),.d (.int .i64 0)])).bind λq6=>
   (dZ fuel q6.2 0 (⟨none,none⟩:nz) q6.1).bind λr7=>
   bz (λ(j8:(Option Nat)×Bool)=>
    bif j8.2 then
     (bE (cI .i64).cell r7.2 q6.2 4).bind λx11=>
     some ((none,x11,12),r7.2)
    else
     (bE (cI .i64).cell r7.2 q6.2 2).bind λx12=>
     bif (decide (x12<(p3.length:Int)))then
      (bE (cI .i64).cell r7.2 q6.2 2).bind λx13=>
      some ((none,x13,12),r7.2)
     else
      (bE cM.cell r7.2 q6.2 3).bind λx14=>
      (EM (kI .i64) cB r7.2 x14).bind λq15=>
      bif (decide (q15>500))then
       some ((none,0,4),r7.2)
      else
       (bE cM.cell r7.2 q6.2 3).bind λx16=>
       (EM (kI .i64) cB r7.2 x16).bind λq17=>
       (ee cP r7.2 i5 4 j8.1).bind λH18=>
       (ee (cI .i64) H18 i5 6 q17).bind λH19=>
       (hZ fuel p0.aG).bind λr20=>
       (ee (cL 1 (cI .i64)) H19 i5 0 r20).bind λH21=>
       some (((some i5),(-1),0),H21)) λjp9=>
   (Option.elim r7.1
    (jp9 (none,true))
   (λi10=>
    jp9 ((some i10),false)))
section
attribute [local irreducible] cf jj lh lH SW uS
theorem tD(h:mC fuel p0 p1 p2 p3 H=some r):SC Tryz.prog false 15 [.d (cD p0),vI p1,vI p2,.d (.list 3 (List.map cj p3))] H (.iQ [.d (cP.enc r.1.1),vI r.1.2.1,vI r.1.2.2]) r.2:=by
 refine dr Tryz.func15 rfl ?_
 unfold mC at h
 exact aI 84 H [(0,Z2 p0),(1,vI p1),(2,vI p2),(3,uo p3)]<|ar 1<|aA<|aa 2<|bI h λr1 hr h=>b8 (At hr)<|aa 5<|ak<|an<|ar 1<|aT h (λh=>ar 1<|al<|aq<|iI h▸E0) (λh=>ao<|ag<|an<|ar 1<|aT h (λh=>ar 1<|al<|aq<|iI h▸E0) (λh=>ao<|ag<|aA<|aa 2<|bI h λi2 hp_i2 h=>ax (s:=.d (.ptr i2 0)) (bh hp_i2)<|aa 1<|bI h λH3 hx h=>ga hx<|ak<|aA<|aa 2<|bI h λq4 hq h=>qB 84 q4.1 (d:=some 32) (b:=true) [] [3,4,11,30,31,32] [(3,uo p3),(4,Z1 p0),(11,.d (cP.enc r1.1.1)),(30,.d (cP.enc r1.1.1)),(31,uo p3),(32,.d (.map q4.2))] hq κ rfl κ<|bI h λi5 hp_i5 h=>bH r1.1.1 (λp=>(sp 84 [(3,uo p3),(4,Z1 p0),(11,.d (cP.enc p)),(30,.d (cP.enc p)),(31,uo p3),(32,.d (.map q4.2))] q4.1)) κ hp_i5<|aa 1<|bI h λq6 hq h=>w6 [] hq<|aa 1<|ak<|aA<|aa 2<|bI h λr7 hr h=>b8 (xp hr)<|aa 1<|ak<|an<|aM<|gr 84 r7.2 [3,4,11,13,14,38] (λ(j8:(Option Nat)×Bool)=>[(3,uo p3),(4,Z1 p0),(11,.d (.ptr i5 0)),(13,.d (.ptr q6.2 0)),(14,.d (cP.enc j8.1)),(38,vB j8.2)]) h (λj8 h=>aT h (λh=>an<|bI h λx11 hx11 h=>B1 [(13,.d (.ptr q6.2 0))]<|fx [0,1,2,3,4,5,6] [] κ κ<|aB<|aB<|aB<|cl (s:=vI x11) (aF hx11)<|aB<|aB<|aB<|dX<|ak<|al<|aQ<|aq<|iI h▸E0) (λh=>aA<|aa 3<|bI h λx12 hx h=>ax (s:=vI x12) (aF hx)<|aa 1<|ax (aJ (enc:=cj) (xs:=p3))<|aa 2<|ak<|aT h (λh=>an<|bI h λx13 hx13 h=>aI 84 r7.2 [(13,.d (.ptr q6.2 0))]<|fx [0,1,2,3,4,5,6] [] κ κ<|aB<|aB<|aB<|cl (s:=vI x13) (aF hx13)<|aB<|aB<|aB<|dX<|ak<|al<|aQ<|aq<|iI h▸E0) (λh=>aA<|aa 3<|bI h λx14 hx h=>ax (s:=.d (cM.enc x14)) (aF hx)<|bI h λq15 hq h=>ax (s:=.d (.int .i64 q15)) (Ef (kc:=(kI .i64)) (v:=cB) (mm:=x14) hq)<|aa 2<|ak<|aT h (λh=>ar 1<|al<|aQ<|aq<|iI h▸E0) (λh=>ao<|aR<|ag<|aA<|aa 6<|bI h λx16 hx h=>ax (s:=.d (cM.enc x16)) (aF hx)<|bI h λq17 hq h=>ax (s:=.d (.int .i64 q17)) (Ef (kc:=(kI .i64)) (v:=cB) (mm:=x16) hq)<|aX [] [4,11,65,66,71,73] 2<|bI h λH18 hx h=>D5 84 H18 [4,11,65,71] [(4,Z1 p0),(11,.d (.ptr i5 0)),(65,.d (.ptr i5 0)),(71,vI q17)] hx κ κ<|aa 2<|bI h λH19 hx h=>ga hx<|ak<|aA<|aa 3<|bI h λr20 hr h=>bJ (rB hr)<|aa 3<|tZ 79<|bI h λH21 hx h=>ga hx<|ak<|ar 1<|al<|iI h▸E0)))) λjp9 h=>ah<|aX [] [3,4,11,13,14,39] 1<|Ce r7.1 (λp=>(sp 84 [(3,uo p3),(4,Z1 p0),(11,.d (.ptr i5 0)),(13,.d (.ptr q6.2 0)),(14,.d (cP.enc p)),(39,.d (cP.enc p))] r7.2)) κ (λhp=>by rw[hp]at h;exact have h:=oW h;aa 2<|af<|JQ [] h) (λi10 hp=>by rw[hp]at h;exact have h:=oV h;aa 2<|af<|JQ [] h)))
noncomputable def ni (fuel:Nat) (p0:Nat) (H:Hp):Option (((Option Nat))×Hp):=
 (bE dG.cells H p0 0).bind λx1=>
 (bE (cI .i64).cell H p0 3).bind λx2=>
 (bE (cI .i64).cell H p0 5).bind λx3=>
 (eM fuel p0 H).bind λr4=>
 (mC fuel x1 x2 x3 r4.1 r4.2).bind λr5=>
 (bE (cI .i64).cell r4.2 p0 5).bind λx6=>
 Hj x3 x6<|
 (bE (cI .i64).cell r4.2 p0 3).bind λx7=>
 Hj x2 x7<|
 (bE dG.cells r4.2 p0 0).bind λx8=>
 Hj x1 x8<|
 some (r5.1.1,r5.2)
def ey(x0:(((Option Nat)×Int×Int)×Hp)):SV:=.iQ [.d (cP.enc x0.1.1),vI x0.1.2.1,vI x0.1.2.2]
def jJ(x0:(((List Node))×Hp)):SV:=.d (.list 3 (List.map cj x0.1))
def K38:=λa0 a1 (t:SL)=>((12,Z2 a0)::(15,.d (.ptr a1 3))::t:SL)
def K39:=λa0 a1 (t:SL)=>((11,.d (.ptr a0 0))::(16,vI a1)::t:SL)
def K40:=λa0 a1 (t:SL)=>((11,.d (.ptr a0 0))::(15,.d (.ptr a1 3))::t:SL)
def K42:=λa0 a1 (t:SL)=>((12,Z2 a0)::(16,vI a1)::t:SL)
def K44:=λa0 a1 (t:SL)=>((3,.d (cP.enc a0))::(8,ey a1)::t:SL)
def K50:=λa0 a1 (t:SL)=>((8,ey a0)::(24,.d (cP.enc a1))::t:SL)
theorem As(h:ni fuel p0 H=some r):SC Tryz.prog false 40 [.d (.ptr p0 0)] H (.d (cP.enc r.1)) r.2:=by
 refine dr Tryz.func40 rfl ?_
 unfold ni at h
 exact aI 28 H [(0,.d (.ptr p0 0))]<|ar 1<|an<|ar 1<|jK<|ao<|ag<|an<|bI h λx1 hx1 h=>bI h λx2 hx2 h=>bI h λx3 hx3 h=>bI h λr4 hr_13 h=>bI h λr5 hr_14 h=>bI h λx6 hx6 h=>by
  replace h:=wN h;obtain⟨rfl,h⟩:=h;exact bI h λx7 hx7 h=>by
   replace h:=wN h;obtain⟨rfl,h⟩:=h;exact bI h λx8 hx8 h=>by
    replace h:=wN h;obtain⟨rfl,h⟩:=h;exact aI 28 H [(0,.d (.ptr p0 0))]<|(by
     refine gW 28 r5.2 [(3,.d (cP.enc r5.1.1))] [0,1,2,4,5,6,8,9,10,12] 12 6007 κ κ κ (λX hX=>?_) (ag<|ar 1<|al<|iI h▸E0)
     .have c4194303:X 0 4194303 (sp 28 [(3,.d (cP.enc r5.1.1))] r5.2):=by subst hX;exact pA κ
      have c2097151:X 1 2097151 (sp 28 [(3,.d (cP.enc r5.1.1)),(26,vI r5.1.2.2)] r5.2):=by subst hX;exact aV 21 [] ⟨bm 28 r5.2 [] [3] 1 [(3,.d (cP.enc r5.1.1))] κ<|af c4194303,trivial⟩
      have c1048575:X 2 1048575 (sp 28 [(3,.d (cP.enc r5.1.1)),(25,vI r5.1.2.1),(26,vI r5.1.2.2)] r5.2):=by subst hX;exact aV 20 [] ⟨bm 28 r5.2 [] [3,26] 1 [(3,.d (cP.enc r5.1.1)),(26,vI r5.1.2.2)] κ<|af c2097151,trivial⟩
      have c524287:X 3 524287 (sp 28 [(24,.d (cP.enc r5.1.1)),(25,vI r5.1.2.1),(26,vI r5.1.2.2)] r5.2):=by subst hX;exact aV 19 [] ⟨bm 28 r5.2 [] [3,25,26] 1 [(3,.d (cP.enc r5.1.1)),(25,vI r5.1.2.1),(26,vI r5.1.2.2)] κ<|af c1048575,trivial⟩
      have c1835007:X 2 1835007 (sp 28 (K44 r5.1.1 r5 []) r5.2):=by subst hX;exact aV 18 [] ⟨bm 28 r5.2 [] [3,26] 1 [(3,.d (cP.enc r5.1.1)),(26,vI r5.1.2.2)] κ<|af c2097151,trivial⟩
      have c786431:X 3 786431 (sp 28 (K44 r5.1.1 r5 [(25,vI r5.1.2.1)]) r5.2):=by subst hX;exact aV 18 [20] ⟨aK 1 [(3,.d (cP.enc r5.1.1)),(25,vI r5.1.2.1),(26,vI r5.1.2.2)]<|af c1048575,aK 1 (K44 r5.1.1 r5 [])<|af c1835007,trivial⟩
      have c262143:X 4 262143 (sp 28 (K50 r5 r5.1.1 [(25,vI r5.1.2.1)]) r5.2):=by subst hX;exact aV 18 [19] ⟨aK 1 [(24,.d (cP.enc r5.1.1)),(25,vI r5.1.2.1),(26,vI r5.1.2.2)]<|af c524287,aK 1 (K44 r5.1.1 r5 [(25,vI r5.1.2.1)])<|af c786431,trivial⟩
      have c917503:X 3 917503 (sp 28 (K44 r5.1.1 r5 [(26,vI r5.1.2.2)]) r5.2):=by subst hX;exact aV 17 [] ⟨bm 28 r5.2 [] [3,25,26] 1 [(3,.d (cP.enc r5.1.1)),(25,vI r5.1.2.1),(26,vI r5.1.2.2)] κ<|af c1048575,trivial⟩
      have c393215:X 4 393215 (sp 28 (K50 r5 r5.1.1 [(26,vI r5.1.2.2)]) r5.2):=by subst hX;exact aV 17 [19] ⟨aK 1 [(24,.d (cP.enc r5.1.1)),(25,vI r5.1.2.1),(26,vI r5.1.2.2)]<|af c524287,aK 1 (K44 r5.1.1 r5 [(26,vI r5.1.2.2)])<|af c917503,trivial⟩
      have c655359:X 4 655359 (sp 28 (K44 r5.1.1 r5 []) r5.2):=by subst hX;exact aV 17 [18] ⟨aK 1 (K44 r5.1.1 r5 [(25,vI r5.1.2.1)])<|af c786431,aK 1 (K44 r5.1.1 r5 [(26,vI r5.1.2.2)])<|af c917503,trivial⟩
      have c131071:X 5 131071 (sp 28 (K50 r5 r5.1.1 []) r5.2):=by subst hX;exact aV 17 [18,19] ⟨aK 1 (K50 r5 r5.1.1 [(25,vI r5.1.2.1)])<|af c262143,aK 1 (K50 r5 r5.1.1 [(26,vI r5.1.2.2)])<|af c393215,aK 1 (K44 r5.1.1 r5 [])<|af c655359,trivial⟩
      have c458751:X 4 458751 (sp 28 [(8,ey r5),(25,vI r5.1.2.1),(26,vI r5.1.2.2)] r5.2):=by subst hX;exact aV 16 [] ⟨bm 28 r5.2 [] [24,25,26] 1 [(24,.d (cP.enc r5.1.1)),(25,vI r5.1.2.1),(26,vI r5.1.2.2)] κ<|af c524287,trivial⟩
      have c196607:X 5 196607 (sp 28 [(8,ey r5),(25,vI r5.1.2.1)] r5.2):=by subst hX;exact aV 16 [18] ⟨aK 1 (K50 r5 r5.1.1 [(25,vI r5.1.2.1)])<|af c262143,aK 1 [(8,ey r5),(25,vI r5.1.2.1),(26,vI r5.1.2.2)]<|af c458751,trivial⟩
      have c327679:X 5 327679 (sp 28 [(8,ey r5),(26,vI r5.1.2.2)] r5.2):=by subst hX;exact aV 16 [17] ⟨aK 1 (K50 r5 r5.1.1 [(26,vI r5.1.2.2)])<|af c393215,aK 1 [(8,ey r5),(25,vI r5.1.2.1),(26,vI r5.1.2.2)]<|af c458751,trivial⟩
      have c65535:X 6 65535 (sp 28 [(8,ey r5)] r5.2):=by subst hX;exact aV 16 [17,18] ⟨aK 1 (K50 r5 r5.1.1 [])<|af c131071,aK 1 [(8,ey r5),(25,vI r5.1.2.1)]<|af c196607,aK 1 [(8,ey r5),(26,vI r5.1.2.2)]<|af c327679,trivial⟩
      have c32767:X 7 32767 (sp 28 [(23,ey r5)] r5.2):=by subst hX;exact aV 15 [] ⟨bm 28 r5.2 [] [8] 1 [(8,ey r5)] κ<|af c65535,trivial⟩
      have c16383:X 8 16383 (sp 28 (K42 x1 x2 [(20,vI x3),(22,jJ r4)]) r4.2):=by subst hX;exact aV 14 [] ⟨tY 28 [(23,.iQ [.d (cP.enc r5.1.1),vI r5.1.2.1,vI r5.1.2.2])] (tD hr_14)<|af c32767,trivial⟩
      have c8191:X 9 8191 (sp 28 (K42 x1 x2 [(20,vI x3),(21,.d (.ptr p0 0))]) H):=by subst hX;exact aV 13 [] ⟨tY 28 (K42 x1 x2 [(20,vI x3),(22,.d (.list 3 (List.map cj r4.1)))]) (du hr_13)<|af c16383,trivial⟩
      have c14335:X 9 14335 (sp 28 (K42 x1 x2 [(19,.d (.ptr p0 5)),(22,jJ r4)]) r4.2):=by subst hX;exact aV 11 [] ⟨iw 28 r4.2 (d:=some 20) (s:=vI x3) [12,16,20,22] (K42 x1 x2 [(20,vI x3),(22,jJ r4)]) (aF hx6) κ<|af c16383,trivial⟩
      have c6143:X 10 6143 (sp 28 (K42 x1 x2 [(19,.d (.ptr p0 5)),(21,.d (.ptr p0 0))]) H):=by subst hX;exact aV 11 [13] ⟨bB (d:=some 20) (s:=vI x3) (K42 x1 x2 [(20,vI x3),(21,.d (.ptr p0 0))]) (aF hx3)<|af c8191,j6 (some 22) (K42 x1 x2 [(19,.d (.ptr p0 5)),(22,jJ r4)]) (du hr_13)<|af c14335,trivial⟩
      have c16255:X 9 16255 (sp 28 (K38 x1 p0 [(20,vI x3),(22,jJ r4)]) r4.2):=by subst hX;exact aV 7 [] ⟨iw 28 r4.2 (d:=some 16) (s:=vI x2) [12,16,20,22] (K42 x1 x2 [(20,vI x3),(22,jJ r4)]) (aF hx7) κ<|af c16383,trivial⟩
      have c8063:X 10 8063 (sp 28 (K38 x1 p0 [(20,vI x3),(21,.d (.ptr p0 0))]) H):=by subst hX;exact aV 7 [13] ⟨bB (d:=some 16) (s:=vI x2) (K42 x1 x2 [(20,vI x3),(21,.d (.ptr p0 0))]) (aF hx2)<|af c8191,j6 (some 22) (K38 x1 p0 [(20,vI x3),(22,jJ r4)]) (du hr_13)<|af c16255,trivial⟩
      have c14207:X 10 14207 (sp 28 (K38 x1 p0 [(19,.d (.ptr p0 5)),(22,jJ r4)]) r4.2):=by subst hX;exact aV 7 [11] ⟨bB (d:=some 16) (s:=vI x2) (K42 x1 x2 [(19,.d (.ptr p0 5)),(22,jJ r4)]) (aF hx7)<|af c14335,bB (d:=some 20) (s:=vI x3) (K38 x1 p0 [(20,vI x3),(22,jJ r4)]) (aF hx6)<|af c16255,trivial⟩
      have c6015:X 11 6015 (sp 28 (K38 x1 p0 [(19,.d (.ptr p0 5)),(21,.d (.ptr p0 0))]) H):=by subst hX;exact aV 7 [11,13] ⟨bB (d:=some 16) (s:=vI x2) (K42 x1 x2 [(19,.d (.ptr p0 5)),(21,.d (.ptr p0 0))]) (aF hx2)<|af c6143,bB (d:=some 20) (s:=vI x3) (K38 x1 p0 [(20,vI x3),(21,.d (.ptr p0 0))]) (aF hx3)<|af c8063,j6 (some 22) (K38 x1 p0 [(19,.d (.ptr p0 5)),(22,jJ r4)]) (du hr_13)<|af c14207,trivial⟩
      have c16375:X 9 16375 (sp 28 (K39 p0 x2 [(20,vI x3),(22,jJ r4)]) r4.2):=by subst hX;exact aV 3 [] ⟨iw 28 r4.2 (d:=some 12) (s:=.d (.agg [.list 1 (List.map (D.int .i64) x1.aG),.list 1 (List.map D.bool x1.Down),.int .i64 x1.eD])) [12,16,20,22] (K42 x1 x2 [(20,vI x3),(22,jJ r4)]) (aF hx8) κ<|af c16383,trivial⟩
      have c8183:X 10 8183 (sp 28 (K39 p0 x2 [(20,vI x3),(21,.d (.ptr p0 0))]) H):=by subst hX;exact aV 3 [13] ⟨bB (d:=some 12) (s:=.d (.agg [.list 1 (List.map (D.int .i64) x1.aG),.list 1 (List.map D.bool x1.Down),.int .i64 x1.eD])) (K42 x1 x2 [(20,vI x3),(21,.d (.ptr p0 0))]) (aF hx1)<|af c8191,j6 (some 22) (K39 p0 x2 [(20,vI x3),(22,jJ r4)]) (du hr_13)<|af c16375,trivial⟩
      have c14327:X 10 14327 (sp 28 (K39 p0 x2 [(19,.d (.ptr p0 5)),(22,jJ r4)]) r4.2):=by subst hX;exact aV 3 [11] ⟨bB (d:=some 12) (s:=.d (.agg [.list 1 (List.map (D.int .i64) x1.aG),.list 1 (List.map D.bool x1.Down),.int .i64 x1.eD])) (K42 x1 x2 [(19,.d (.ptr p0 5)),(22,jJ r4)]) (aF hx8)<|af c14335,bB (d:=some 20) (s:=vI x3) (K39 p0 x2 [(20,vI x3),(22,jJ r4)]) (aF hx6)<|af c16375,trivial⟩
      have c6135:X 11 6135 (sp 28 (K39 p0 x2 [(19,.d (.ptr p0 5)),(21,.d (.ptr p0 0))]) H):=by subst hX;exact aV 3 [11,13] ⟨bB (d:=some 12) (s:=.d (.agg [.list 1 (List.map (D.int .i64) x1.aG),.list 1 (List.map D.bool x1.Down),.int .i64 x1.eD])) (K42 x1 x2 [(19,.d (.ptr p0 5)),(21,.d (.ptr p0 0))]) (aF hx1)<|af c6143,bB (d:=some 20) (s:=vI x3) (K39 p0 x2 [(20,vI x3),(21,.d (.ptr p0 0))]) (aF hx3)<|af c8183,j6 (some 22) (K39 p0 x2 [(19,.d (.ptr p0 5)),(22,jJ r4)]) (du hr_13)<|af c14327,trivial⟩
      have c16247:X 10 16247 (sp 28 (K40 p0 p0 [(20,vI x3),(22,jJ r4)]) r4.2):=by subst hX;exact aV 3 [7] ⟨bB (d:=some 12) (s:=.d (.agg [.list 1 (List.map (D.int .i64) x1.aG),.list 1 (List.map D.bool x1.Down),.int .i64 x1.eD])) (K38 x1 p0 [(20,vI x3),(22,jJ r4)]) (aF hx8)<|af c16255,bB (d:=some 16) (s:=vI x2) (K39 p0 x2 [(20,vI x3),(22,jJ r4)]) (aF hx7)<|af c16375,trivial⟩
      have c8055:X 11 8055 (sp 28 (K40 p0 p0 [(20,vI x3),(21,.d (.ptr p0 0))]) H):=by subst hX;exact aV 3 [7,13] ⟨bB (d:=some 12) (s:=.d (.agg [.list 1 (List.map (D.int .i64) x1.aG),.list 1 (List.map D.bool x1.Down),.int .i64 x1.eD])) (K38 x1 p0 [(20,vI x3),(21,.d (.ptr p0 0))]) (aF hx1)<|af c8063,bB (d:=some 16) (s:=vI x2) (K39 p0 x2 [(20,vI x3),(21,.d (.ptr p0 0))]) (aF hx2)<|af c8183,j6 (some 22) (K40 p0 p0 [(20,vI x3),(22,jJ r4)]) (du hr_13)<|af c16247,trivial⟩
      have c14199:X 11 14199 (sp 28 (K40 p0 p0 [(19,.d (.ptr p0 5)),(22,jJ r4)]) r4.2):=by subst hX;exact aV 3 [7,11] ⟨bB (d:=some 12) (s:=.d (.agg [.list 1 (List.map (D.int .i64) x1.aG),.list 1 (List.map D.bool x1.Down),.int .i64 x1.eD])) (K38 x1 p0 [(19,.d (.ptr p0 5)),(22,jJ r4)]) (aF hx8)<|af c14207,bB (d:=some 16) (s:=vI x2) (K39 p0 x2 [(19,.d (.ptr p0 5)),(22,jJ r4)]) (aF hx7)<|af c14327,bB (d:=some 20) (s:=vI x3) (K40 p0 p0 [(20,vI x3),(22,jJ r4)]) (aF hx6)<|af c16247,trivial⟩
      have c6007:X 12 6007 (sp 28 (K40 p0 p0 [(19,.d (.ptr p0 5)),(21,.d (.ptr p0 0))]) H):=by subst hX;exact aV 3 [7,11,13] ⟨bB (d:=some 12) (s:=.d (.agg [.list 1 (List.map (D.int .i64) x1.aG),.list 1 (List.map D.bool x1.Down),.int .i64 x1.eD])) (K38 x1 p0 [(19,.d (.ptr p0 5)),(21,.d (.ptr p0 0))]) (aF hx1)<|af c6015,bB (d:=some 16) (s:=vI x2) (K39 p0 x2 [(19,.d (.ptr p0 5)),(21,.d (.ptr p0 0))]) (aF hx2)<|af c6135,bB (d:=some 20) (s:=vI x3) (K40 p0 p0 [(20,vI x3),(21,.d (.ptr p0 0))]) (aF hx3)<|af c8055,j6 (some 22) (K40 p0 p0 [(19,.d (.ptr p0 5)),(22,jJ r4)]) (du hr_13)<|af c14199,trivial⟩
      refine aB<|aB<|aB<|aB<|aB<|aB<|aB<|aB<|aB<|dp 28 H [11,15,19,21] (K40 p0 p0 [(19,.d (.ptr p0 5)),(21,.d (.ptr p0 0))]) κ<|dX ?_
      exact c6007)
def gz(fuel:Nat)(p0:Nat)(H:Hp):Option (Int):=
 (bE (cI .i64).cell H p0 5).bind λx1=>
 some x1
theorem dv(h:gz fuel p0 H=some r):SC Tryz.prog true 13 [.d (.ptr p0 0)] H (vI r) H:=by
 refine fT Tryz.func13 rfl ?_
 unfold gz at h
 exact aI 9 H [(0,.d (.ptr p0 0))]<|ar 1<|an<|ar 1<|jK<|ao<|ag<|aA<|aa 3<|bI h λx1 hx h=>ax (s:=vI x1) (aF hx)<|aa 1<|ak<|al<|iI h▸E0
def vX(fuel:Nat)(p0:az)(p1:Entry):Option (Bool):=
 (rD fuel p0 p1.Row).bind λr1=>
 bif r1 then
  (vW fuel p1.Key).bind λr2=>
  some (r2&&(decide (p1.Number>=1)))
 else
  some false
theorem IW(h:vX fuel p0 p1=some r):PC Tryz.prog 72 [.d (cD p0),.d (ab p1)] (vB r):=by
 refine aW Tryz.func72 rfl λH=>?_
 unfold vX at h
 exact aI 19 H [(0,Z2 p0),(1,ny p1)]<|ar 1<|aA<|aa 3<|bI h λr1 hr h=>bJ (sf hr)<|aX [] [3,9] 1<|cn (λb=>(sp 19 [(3,me p1),(9,vB b)] H)) h (λh=>aa 2<|bI h λr2 hr h=>bJ (vV hr)<|aX [] [3,14] 2<|dO 19 H [18] 4 r2 (λb=>(sp 19 [(3,me p1),(14,vB b)] H)) (λb=>[(18,vB (b&&(decide (p1.Number>=1))))]) κ κ κ<|aa 1<|ak<|al<|iI h▸E0) λh=>aa 10<|ak<|al<|iI h▸E0
def bq(fuel:Nat)(p0:Nat)(p1:Int)(H:Hp):Option ((Bool)×Hp):=
 (ee (cI .i64) H p0 8 p1).bind λH1=>
 some (false,H1)
theorem bP(h:bq fuel p0 p1 H=some r):SC Tryz.prog false 73 [.d (.ptr p0 0),vI p1] H (vB r.1) r.2:=by
 refine dr Tryz.func73 rfl ?_
 unfold bq at h
 exact aI 9 H (K10 p0 p1 [])<|ar 1<|aA<|aa 4<|bI h λH1 hx h=>ga hx<|ak<|ar 1<|al<|iI h▸E0
def cF(fuel:Nat)(p0:Nat)(p1:Entry)(p2:Entry)(H:Hp):Option (Bool):=
 (bE dG.cells H p0 0).bind λx1=>
 (qe fuel x1 p1 p2).bind λr2=>
 bif r2 then
  (bE (cI .i64).cell H p0 2).bind λx3=>
  bif (x3 !=1)then
   some true
  else
   (bE dG.cells H p0 0).bind λx4=>
   (tM fuel x4 p1.Row p2.Row).bind λr5=>
   some (r5 !=0)
 else
  some false
def Ua(x0:Entry):SV:=.own 1 (List.map (D.int .i64) [x0.Number])
def UY(x0:((List Int)×Hp)):SV:=.own 1 (List.map (D.int .i64) x0.1)
def Hy(x0:Int×(List Entry)×(List Int)×Hp):SV:=.box [vI x0.1,.d (.list 3 (List.map ab x0.2.1)),.d (.list 1 (List.map (D.int .i64) x0.2.2.1))]
def UX(x0:Entry):SV:=.d (.fV [.list 3 (List.map ay x0.Row),.int .i64 x0.Key,.int .i64 x0.Number])
theorem eO(h:cF fuel p0 p1 p2 H=some r):SC Tryz.prog true 74 [.d (.ptr p0 0),.d (ab p1),.d (ab p2)] H (vB r) H:=by
 refine fT Tryz.func74 rfl ?_
 unfold cF at h
 exact aI 34 H [(0,.d (.ptr p0 0)),(1,ny p1),(2,ny p2)]<|ar 1<|an<|fL<|aE 3<|bI h λx1 hx h=>bn (s:=.d (.agg [.list 1 (List.map (D.int .i64) x1.aG),.list 1 (List.map D.bool x1.Down),.int .i64 x1.eD])) (aF hx)<|aE 2<|bI h λr2 hr h=>fc (yI hr)<|dn [] [0,4,5,14] 1<|dV (λb=>(sp 34 [(0,.d (.ptr p0 0)),(4,me p1),(5,me p2),(14,vB b)] H)) h (λh=>aE 4<|bI h λx3 hx h=>bn (s:=vI x3) (aF hx)<|dn [] [0,4,5,14,21] 2<|dV (λb=>(sp 34 [(0,.d (.ptr p0 0)),(4,me p1),(5,me p2),(14,vB true),(21,vB b)] H)) h (λh=>aE 13<|bG<|ag<|al<|iI h▸E0) λh=>aE 3<|bI h λx4 hx h=>bn (s:=.d (.agg [.list 1 (List.map (D.int .i64) x4.aG),.list 1 (List.map D.bool x4.Down),.int .i64 x4.eD])) (aF hx)<|aE 4<|bI h λr5 hr h=>fc (AN hr)<|aE 4<|bG<|ag<|al<|iI h▸E0) λh=>aE 20<|bG<|ag<|al<|iI h▸E0
def fq(fuel:Nat)(p0:Nat)(p1:Int)(x6:Entry)(y13:Int×Hp):Option ((Int×Hp)⊕((Hp)⊕(((Bool)×Hp)))):=
 (bL 1 (cI .i64) y13.2 p0 7).bind λx14=>
 bif (decide (y13.1<(x14.length:Int)))then
  (bL 1 (cI .i64) y13.2 p0 7).bind λx15=>
  (idx x15 y13.1).bind λx16=>
  bif (x16==x6.Number)then
   (bq fuel p0 p1 y13.2).bind λr17=>
   some (.inr (.inr (r17.1,r17.2)))
  else
   some (.inl ((IntKind.wrap .i64 (y13.1+1)),y13.2))
 else
  some (.inr (.inl y13.2))
def dA(fuel:Nat)(p0:Nat)(p1:Int)(y5:Int×(List Entry)×(List Int)×Int×Hp):Option ((Int×(List Entry)×(List Int)×Int×Hp)⊕((Int×(List Entry)×(List Int)×Hp)⊕(((Bool)×Hp)))):=
 bif (decide (y5.2.2.2.1<(y5.2.1.length:Int)))then
  (idx y5.2.1 y5.2.2.2.1).bind λx6=>
  bz (λ(j7:Bool)=>
   bif j7 then
    (bq fuel p0 p1 y5.2.2.2.2).bind λr12=>
    some (.inr (.inr (r12.1,r12.2)))
   else
    (iter (fq fuel p0 p1 x6) fuel (0,y5.2.2.2.2)).bind (Sum.elim (λv19=>
     (dQ 1 (cI .i64) v19 p0 7).bind λq20=>
     ff (decide ((q20.1++[x6.Number]).length<=room))<|
     (dh 1 (cI .i64) q20.2 p0 7 (q20.1++[x6.Number])).bind λH23=>
     some (.inl (y5.1,y5.2.1,y5.2.2.1,(IntKind.wrap .i64 (y5.2.2.2.1+1)),H23))) (λr24=>
     some (.inr (.inr r24))))) λjp8=>
  (bE dG.cells y5.2.2.2.2 p0 0).bind λx9=>
  (vX fuel x9 x6).bind λr10=>
  bif (!r10)then
   jp8 true
  else
   (bE (cI .i64).cell y5.2.2.2.2 p0 4).bind λx11=>
   jp8 (decide (x6.Number>x11))
 else
  some (.inr (.inl (y5.1,y5.2.1,y5.2.2.1,y5.2.2.2.2)))
def fp(fuel:Nat)(p0:Nat)(p1:Int)(p3:(Option Entry))(p4:(Option Entry))(y27:Int×(List Entry)×(List Int)×Int×Hp):Option ((Int×(List Entry)×(List Int)×Int×Hp)⊕((Int×(List Entry)×(List Int)×Hp)⊕(((Bool)×Hp)))):=
 bif (decide (y27.2.2.2.1<(y27.2.1.length:Int)))then
  (idx y27.2.1 y27.2.2.2.1).bind λx28=>
  bif (decide (y27.2.2.2.1>0))then
   (idx y27.2.1 (IntKind.wrap .i64 (y27.2.2.2.1 - 1))).bind λx29=>
   (cF fuel p0 x29 x28 y27.2.2.2.2).bind λr30=>
   bif (!r30)then
    (bq fuel p0 p1 y27.2.2.2.2).bind λr31=>
    some (.inr (.inr (r31.1,r31.2)))
   else
    (Option.elim p3
     ((Option.elim p4
      (some (.inl (y27.1,y27.2.1,y27.2.2.1,(IntKind.wrap .i64 (y27.2.2.2.1+1)),y27.2.2.2.2)))
     (λx33=>
      (cF fuel p0 x28 x33 y27.2.2.2.2).bind λr34=>
      bif (!r34)then
       (bq fuel p0 p1 y27.2.2.2.2).bind λr35=>
       some (.inr (.inr (r35.1,r35.2)))
      else
       some (.inl (y27.1,y27.2.1,y27.2.2.1,(IntKind.wrap .i64 (y27.2.2.2.1+1)),y27.2.2.2.2)))))
    (λx32=>
     (cF fuel p0 x32 x28 y27.2.2.2.2).bind λr36=>
     bif (!r36)then
      (bq fuel p0 p1 y27.2.2.2.2).bind λr37=>
      some (.inr (.inr (r37.1,r37.2)))
     else
      (Option.elim p4
       (some (.inl (y27.1,y27.2.1,y27.2.2.1,(IntKind.wrap .i64 (y27.2.2.2.1+1)),y27.2.2.2.2)))
      (λx38=>
       (cF fuel p0 x28 x38 y27.2.2.2.2).bind λr39=>
       bif (!r39)then
        (bq fuel p0 p1 y27.2.2.2.2).bind λr40=>
        some (.inr (.inr (r40.1,r40.2)))
       else
        some (.inl (y27.1,y27.2.1,y27.2.2.1,(IntKind.wrap .i64 (y27.2.2.2.1+1)),y27.2.2.2.2))))))
  else
   (Option.elim p3
    ((Option.elim p4
     (some (.inl (y27.1,y27.2.1,y27.2.2.1,(IntKind.wrap .i64 (y27.2.2.2.1+1)),y27.2.2.2.2)))
    (λx42=>
     (cF fuel p0 x28 x42 y27.2.2.2.2).bind λr43=>
     bif (!r43)then
      (bq fuel p0 p1 y27.2.2.2.2).bind λr44=>
      some (.inr (.inr (r44.1,r44.2)))
     else
      some (.inl (y27.1,y27.2.1,y27.2.2.1,(IntKind.wrap .i64 (y27.2.2.2.1+1)),y27.2.2.2.2)))))
   (λx41=>
    (cF fuel p0 x41 x28 y27.2.2.2.2).bind λr45=>
    bif (!r45)then
     (bq fuel p0 p1 y27.2.2.2.2).bind λr46=>
     some (.inr (.inr (r46.1,r46.2)))
    else
     (Option.elim p4
      (some (.inl (y27.1,y27.2.1,y27.2.2.1,(IntKind.wrap .i64 (y27.2.2.2.1+1)),y27.2.2.2.2)))
     (λx47=>
      (cF fuel p0 x28 x47 y27.2.2.2.2).bind λr48=>
      bif (!r48)then
       (bq fuel p0 p1 y27.2.2.2.2).bind λr49=>
       some (.inr (.inr (r49.1,r49.2)))
      else
       some (.inl (y27.1,y27.2.1,y27.2.2.1,(IntKind.wrap .i64 (y27.2.2.2.1+1)),y27.2.2.2.2))))))
 else
  some (.inr (.inl (y27.1,y27.2.1,y27.2.2.1,y27.2.2.2.2)))
def dz(fuel:Nat)(rc:(Nat->Int->Int->(Option Entry)->(Option Entry)->Hp->Option ((Bool)×Hp)))(p0:Nat)(p1:Int)(p3:(Option Entry))(p4:(Option Entry))(v51:Int×(List Entry)×(List Int)×Hp)(y65:Int×Hp):Option ((Int×Hp)⊕((Hp)⊕(((Bool)×Hp)))):=
 bif (decide (y65.1<(v51.2.2.1.length:Int)))then
  bz (λ(j66:Bool)=>
   bif j66 then
    (bq fuel p0 p1 y65.2).bind λr72=>
    some (.inr (.inr (r72.1,r72.2)))
   else
    bz (λ(j73:(Option Entry))=>
     bz (λ(j76:(Option Entry))=>
      (idx v51.2.2.1 y65.1).bind λx79=>
      (rc p0 x79 (IntKind.wrap .i64 (v51.1 - 1)) j73 j76 y65.2).bind λr80=>
      bif (!r80.1)then
       some (.inr (.inr (false,r80.2)))
      else
       some (.inl ((IntKind.wrap .i64 (y65.1+1)),r80.2))) λjp77=>
     bif (decide (y65.1<(v51.2.1.length:Int)))then
      (idx v51.2.1 y65.1).bind λx78=>
      jp77 (some x78)
     else
      jp77 p4) λjp74=>
    bif (decide (y65.1>0))then
     (idx v51.2.1 (IntKind.wrap .i64 (y65.1 - 1))).bind λx75=>
     jp74 (some x75)
    else
     jp74 p3) λjp67=>
  (idx v51.2.2.1 y65.1).bind λx68=>
  (bE (cI .i64).cell y65.2 p0 6).bind λx69=>
  bif (x68 !=x69)then
   jp67 true
  else
   (bE (cI .i64).cell y65.2 p0 6).bind λx70=>
   (bL 3 BL y65.2 p0 5).bind λx71=>
   jp67 (decide (x70>=(x71.length:Int)))
 else
  some (.inr (.inl y65.2))
def iH(fuel:Nat)(rc:(Nat->Int->Int->(Option Entry)->(Option Entry)->Hp->Option ((Bool)×Hp)))(p0:Nat)(p1:Int)(p2:Int)(p3:(Option Entry))(p4:(Option Entry))(H:Hp):Option ((Bool)×Hp):=
 (bE (cI .i64).cell H p0 6).bind λx1=>
 (ee (cI .i64) H p0 6 (IntKind.wrap .i64 (x1+1))).bind λH2=>
 (bL 3 BL H2 p0 5).bind λx3=>
 (idx x3 p1).bind λx4=>
 (iter (dA fuel p0 p1) fuel (x4.Level,x4.Entries,x4.Kids,0,H2)).bind (Sum.elim (λv26=>
  (iter (fp fuel p0 p1 p3 p4) fuel (v26.1,v26.2.1,v26.2.2.1,0,v26.2.2.2)).bind (Sum.elim (λv51=>
   (bE (cI .i64).cell v51.2.2.2 p0 3).bind λx52=>
   bz (λ(j53:Int)=>
    bz (λ(j55:Int)=>
     bz (λ(j57:Unit)=>
      (iter (dz fuel rc p0 p1 p3 p4 v51) fuel (0,v51.2.2.2)).bind (Sum.elim (λv82=>
       some (true,v82)) (λr83=>
       some r83))) λjp58=>
     (bE (cI .i64).cell v51.2.2.2 p0 3).bind λx59=>
     bif (decide ((v51.2.1.length:Int)>x59))then
      (bq fuel p0 p1 v51.2.2.2).bind λr60=>
      some (r60.1,r60.2)
     else
      bif ((decide ((v51.2.1.length:Int)<j53))||(decide (v51.1<0)))then
       (bq fuel p0 p1 v51.2.2.2).bind λr61=>
       some (r61.1,r61.2)
      else
       bif (decide (p2>=0))then
        bif (v51.1 !=p2)then
         (bq fuel p0 p1 v51.2.2.2).bind λr62=>
         some (r62.1,r62.2)
        else
         bif ((v51.2.2.1.length:Int) !=j55)then
          (bq fuel p0 p1 v51.2.2.2).bind λr63=>
          some (r63.1,r63.2)
         else
          jp58 ()
       else
        bif ((v51.2.2.1.length:Int) !=j55)then
         (bq fuel p0 p1 v51.2.2.2).bind λr64=>
         some (r64.1,r64.2)
        else
         jp58 ()) λjp56=>
    bif (v51.1==0)then
     jp56 0
    else
     jp56 (IntKind.wrap .i64 ((v51.2.1.length:Int)+1))) λjp54=>
   bif (p1==0)then
    bif (v51.1 !=0)then
     jp54 1
    else
     jp54 0
   else
    jp54 (IntKind.wrap .i64 (Int.tdiv x52 2))) (λr84=>
   some r84))) (λr85=>
  some r85))
def dg:Nat->(Nat->Int->Int->(Option Entry)->(Option Entry)->Hp->Option ((Bool)×Hp))
 |0=>λ_ _ _ _ _ _=>none
 |fuel+1=>iH fuel (dg fuel)
def K6:=λa0 a1 a2 a3 a4 (t:SL)=>((0,.d (.ptr a0 0))::(1,vI a1)::(2,vI a2)::(3,.d (dE ab a3))::(4,.d (dE ab a4))::t:SL)
def K29:=λa0 a1 a2 a3 a4 (t:SL)=>((0,.d (.ptr a0 0))::(1,vI a1)::(3,.d (dE ab a2))::(4,.d (dE ab a3))::(11,Hy a4)::t:SL)
def K49:=λa0 a1 a2 a3 a4 a5 a6 a7 (t:SL)=>((0,.d (.ptr a0 0))::(1,vI a1)::(2,vI a2)::(3,UX a3)::(4,.d (dE ab a4))::(11,rl a5)::(15,vI a6)::(16,me a7)::t:SL)
def K53:=λa0 a1 a2 a3 a4 a5 a6 a7 (t:SL)=>((0,.d (.ptr a0 0))::(1,vI a1)::(2,vI a2)::(3,.d (dE ab a3))::(4,.d (dE ab a4))::(11,.box [vI a5,.d (.list 3 (List.map ab a6)),.d (.list 1 (List.map (D.int .i64) a7))])::t:SL)
theorem vg{fuel:Nat}{rc:(Nat->Int->Int->(Option Entry)->(Option Entry)->Hp->Option ((Bool)×Hp))}(ih: ∀{p0:Nat} {p1:Int} {p2:Int} {p3:(Option Entry)} {p4:(Option Entry)} {H:Hp} {r:(Bool)×Hp},rc p0 p1 p2 p3 p4 H=some r->SC Tryz.prog false 46 [.d (.ptr p0 0),vI p1,vI p2,.d (dE ab p3),.d (dE ab p4)] H (vB r.1) r.2){p0:Nat}{p1:Int}{p2:Int}{p3:(Option Entry)}{p4:(Option Entry)}{H:Hp}{r:(Bool)×Hp}(h:iH fuel rc p0 p1 p2 p3 p4 H=some r):SC Tryz.prog false 46 [.d (.ptr p0 0),vI p1,vI p2,.d (dE ab p3),.d (dE ab p4)] H (vB r.1) r.2:=by
 refine dr Tryz.func46 rfl ?_
 unfold iH at h
 exact aI 275 H (K6 p0 p1 p2 p3 p4 [])<|ar 1<|aA<|aa 3<|bI h λx1 hx h=>ax (s:=vI x1) (aF hx)<|aa 3<|bI h λH2 hx h=>ga hx<|ak<|aA<|aa 3<|bI h λx3 hx h=>ax (aY hx)<|aa 1<|bI h λx4 hx h=>ax (s:=bb (some (.au p0 5)) (cj x4).cells) (aD (n:=3) hx)<|aa 3<|ak<|an<|ar 1<|aM<|bI h λz25 hit h=>l7 275 [0,1,2,3,4,11,12] (λy5=>(K53 p0 p1 p2 p3 p4 y5.1 y5.2.1 y5.2.2.1 [(12,vI y5.2.2.2.1)])) (λy5=>y5.2.2.2.2) (λb e s=>((∃v26,b=(.inl v26)/\(e=.exit 0/\s=(sp 275 (K53 p0 p1 p2 p3 p4 v26.1 v26.2.1 v26.2.2.1 []) v26.2.2.2)))\/(∃r85,b=(.inr r85)/\(e=.ret/\dw Tryz.prog Tryz.f46.results.toList r85.2 (vB r85.1) .ret s)))) hit κ (λy5 o h=>by unfold dA at h;exact an<|aA<|aa 3<|ax (aJ (enc:=ab) (xs:=y5.2.1))<|aa 1<|ak<|aT h (λh=>ao<|ag<|an<|aM<|aA<|aa 3<|bI h λx6 hx h=>ax (s:=bb none (ab x6).cells) (aD (n:=3) hx)<|aa 3<|ak<|an<|gr 275 y5.2.2.2.2 [0,1,2,3,4,11,12,13,63] (λ(j7:Bool)=>(K6 p0 p1 p2 p3 p4 [(11,rl y5),(12,vI y5.2.2.2.1),(13,me x6),(63,vB j7)])) h (λj7 h=>aT h (λh=>aA<|aa 2<|bI h λr12 hr h=>b8 (bP hr)<|aa 1<|ak<|al<|aq<|aQ<|aq<|aq<|LR h (.inr (⟨(r12.1,r12.2),rfl,rfl,dw.ret [] κ κ⟩))) (λh=>ao<|ag<|an<|ar 1<|aM<|bI h λz18 hit h=>l7 275 [0,1,2,3,4,11,12,13,14] (λy13=>(K6 p0 p1 p2 p3 p4 [(11,rl y5),(12,vI y5.2.2.2.1),(13,me x6),(14,vI y13.1)])) (λy13=>y13.2) (λb e s=>((∃v19,b=(.inl v19)/\(e=.exit 2/\s=(sp 275 (K6 p0 p1 p2 p3 p4 [(11,rl y5),(12,vI y5.2.2.2.1),(13,me x6)]) v19)))\/(∃r24,b=(.inr r24)/\(e=.ret/\dw Tryz.prog Tryz.f46.results.toList r24.2 (vB r24.1) .ret s)))) hit κ (λy13 o h=>by unfold fq at h;exact an<|aA<|aa 4<|bI h λx14 hx h=>ax (aY hx)<|ax (aJ (enc:=(D.int .i64)) (xs:=x14))<|aa 1<|ak<|aT h (λh=>ao<|ag<|an<|aM<|an<|zj<|bp 3<|bI h λx15 hx h=>bU (aY hx)<|bp 1<|bI h λx16 hx h=>bU (s:=bb (some (.au p0 7)) (Go.Sh.D.cells ((D.int .i64) x16))) (aD (n:=1) hx)<|bp 4<|cd<|ag<|aT h (λh=>aA<|aa 2<|bI h λr17 hr h=>b8 (bP hr)<|aa 1<|ak<|al<|aQ<|aq<|aq<|LR h (.inr (⟨(r17.1,r17.2),rfl,rfl,dw.ret [] κ κ⟩))) (λh=>ao<|aR<|ag<|ah<|aa 3<|af<|LQ h)) (λh=>aI 275 y13.2 (K6 p0 p1 p2 p3 p4 [(11,rl y5),(12,vI y5.2.2.2.1),(13,me x6)])<|bT<|ba<|ba<|LR h (.inl ⟨y13.2,rfl,rfl,rfl⟩))) (by rintro _ _ (⟨v19,rfl,rfl,rfl⟩|⟨r24,rfl,rfl,hE⟩);exact have h:=js h;bw<|ag<|bI h λq20 hq20 h=>nJ h λhk22 h=>bI h λH23 hx_11 h=>aI 275 v19 (K6 p0 p1 p2 p3 p4 [(11,rl y5),(12,vI y5.2.2.2.1),(13,me x6)])<|lZ p0 7 λv21=>fx [0,1,2,3,4,5,6] [7,8,9,10,11] κ κ<|aB<|aB<|aB<|dp 275 (ei v19 p0 7 v21) [0,1,2,3,4,11,12,13,89,92] (K6 p0 p1 p2 p3 p4 [(11,rl y5),(12,vI y5.2.2.2.1),(13,me x6),(89,.d (.ptr p0 0)),(92,.d (.ptr p0 7))]) κ<|cl (s:=.d (.raw v21)) (gY (c:=(cI .i64)) (n':=1) hq20 κ)<|aB<|aB<|dX<|bm 275 (ei v19 p0 7 v21) [93] [0,1,2,3,4,11,12,89,93,96] 1 (K6 p0 p1 p2 p3 p4 [(11,rl y5),(12,vI y5.2.2.2.1),(89,.d (.ptr p0 0)),(93,.d (.raw v21)),(96,Ua x6)]) κ<|nC (c:=(cI .i64)) (n':=1) (t:=93) [0,1,2,3,4,11,12,89,93,96] (K6 p0 p1 p2 p3 p4 [(11,rl y5),(12,vI y5.2.2.2.1),(89,.d (.ptr p0 0)),(93,UY q20),(96,Ua x6)]) hq20 κ κ κ<|gb 93 1 (List.map (D.int .i64) (q20.1++[x6.Number])) (bF) (cC hk22)<|aS [93] 1<|aS [93] 1<|fF 97 hx_11<|af<|aR<|ag<|ah<|aa 3<|af<|LQ h;exact have h:=jr h;aQ<|aq<|aQ<|aq<|aq<|LR h (.inr (⟨r24,rfl,rfl,hE⟩))))) λjp8 h=>fL<|aE 3<|bI h λx9 hx h=>bn (s:=.d (.agg [.list 1 (List.map (D.int .i64) x9.aG),.list 1 (List.map D.bool x9.Down),.int .i64 x9.eD])) (aF hx)<|aE 1<|bI h λr10 hr h=>fc (IW hr)<|dn [] [0,1,2,3,4,11,12,13,55] 2<|dV (λb=>(sp 275 (K6 p0 p1 p2 p3 p4 [(11,rl y5),(12,vI y5.2.2.2.1),(13,me x6),(55,vB b)]) y5.2.2.2.2)) h (λh=>aE 8<|bG<|JQ [] h) λh=>aE 5<|bI h λx11 hx h=>bn (s:=vI x11) (aF hx)<|aE 2<|bG<|JQ [] h) (λh=>aI 275 y5.2.2.2.2 (K6 p0 p1 p2 p3 p4 [(11,rl y5)])<|bT<|ba<|ba<|LR h (.inl ⟨(y5.1,y5.2.1,y5.2.2.1,y5.2.2.2.2),rfl,rfl,rfl⟩))) (by rintro _ _ (⟨v26,rfl,rfl,rfl⟩|⟨r85,rfl,rfl,hE⟩);exact have h:=js h;bw<|ag<|an<|ar 1<|aM<|bI h λz50 hit h=>l7 275 [0,1,2,3,4,11,15] (λy27=>(K53 p0 p1 p2 p3 p4 y27.1 y27.2.1 y27.2.2.1 [(15,vI y27.2.2.2.1)])) (λy27=>y27.2.2.2.2) (λb e s=>((∃v51,b=(.inl v51)/\(e=.exit 4/\s=(sp 275 (K53 p0 p1 p2 p3 p4 v51.1 v51.2.1 v51.2.2.1 []) v51.2.2.2)))\/(∃r84,b=(.inr r84)/\(e=.ret/\dw Tryz.prog Tryz.f46.results.toList r84.2 (vB r84.1) .ret s)))) hit κ (λy27 o h=>by unfold fp at h;exact an<|aA<|aa 3<|ax (aJ (enc:=ab) (xs:=y27.2.1))<|aa 1<|ak<|aT h (λh=>ao<|ag<|an<|aM<|aA<|aa 3<|bI h λx28 hx h=>ax (s:=bb none (ab x28).cells) (aD (n:=3) hx)<|aa 3<|ak<|an<|fL<|dn [] [0,1,2,3,4,11,15,16,114] 3<|dV (λb=>(sp 275 (K6 p0 p1 p2 p3 p4 [(11,rl y27),(15,vI y27.2.2.2.1),(16,me x28),(114,vB b)]) y27.2.2.2.2)) h (λh=>aE 5<|bI h λx29 hx h=>bn (s:=bb none (ab x29).cells) (aD (n:=3) hx)<|aE 2<|bI h λr30 hr h=>iB (ls:=[]) (eO hr)<|dn [] [0,1,2,3,4,11,15,16,126] 3<|dV (λb=>(sp 275 (K6 p0 p1 p2 p3 p4 [(11,rl y27),(15,vI y27.2.2.2.1),(16,me x28),(126,vB b)]) y27.2.2.2.2)) h (λh=>aE 25<|bG<|ag<|eS κ<|aA<|aa 2<|bI h λr31 hr h=>b8 (bP hr)<|aa 1<|ak<|al<|aQ<|aq<|aq<|LR h (.inr (⟨(r31.1,r31.2),rfl,rfl,dw.ret [] κ κ⟩))) λh=>dn [] [0,1,2,3,4,11,15,16,126,127] 1<|iC p3 (λp=>(sp 275 (K6 p0 p1 p2 p p4 [(11,rl y27),(15,vI y27.2.2.2.1),(16,me x28),(126,vB false),(127,.d (dE ab p))]) y27.2.2.2.2)) κ (λhp_x32=>by rw[hp_x32]at h;exact have h:=oW h;dn [] [0,1,2,3,4,11,15,16,139,140] 13<|iC p4 (λp=>(sp 275 (K10 p0 p1 [(2,vI p2),(3,.d (.fZ)),(4,.d (dE ab p)),(11,rl y27),(15,vI y27.2.2.2.1),(16,me x28),(139,vB false),(140,.d (dE ab p))]) y27.2.2.2.2)) κ (λhp_x33=>by rw[hp_x33]at h;exact have h:=oW h;aE 11<|bG<|ag<|jK<|ao<|aR<|ag<|ah<|aa 3<|af<|(by cases h;exact⟨(y27.1,y27.2.1,y27.2.2.1,(IntKind.wrap .i64 (y27.2.2.2.1+1)),y27.2.2.2.2),rfl,by rw[hp_x32,hp_x33];kernel_rfl⟩)) (λx33 hp_x33=>by rw[hp_x33]at h;exact have h:=oV h;aE 7<|bI h λr34 hr h=>iB (ls:=[]) (eO hr)<|aE 3<|bG<|ag<|aT h (λh=>aA<|aa 2<|bI h λr35 hr h=>b8 (bP hr)<|aa 1<|ak<|al<|aQ<|aq<|aq<|LR h (.inr (⟨(r35.1,r35.2),rfl,rfl,dw.ret [] κ κ⟩))) (λh=>ao<|aR<|ag<|ah<|aa 3<|af<|(by cases h;exact⟨(y27.1,y27.2.1,y27.2.2.1,(IntKind.wrap .i64 (y27.2.2.2.1+1)),y27.2.2.2.2),rfl,by rw[hp_x32,hp_x33];kernel_rfl⟩)))) (λx32 hp_x32=>by rw[hp_x32]at h;exact have h:=oV h;aE 7<|bI h λr36 hr h=>iB (ls:=[]) (eO hr)<|dn [] [0,1,2,3,4,11,15,16,139] 4<|dV (λb=>(sp 275 (K49 p0 p1 p2 x32 p4 y27 y27.2.2.2.1 x28 [(139,vB b)]) y27.2.2.2.2)) h (λh=>aE 12<|bG<|ag<|eS κ<|aA<|aa 2<|bI h λr37 hr h=>b8 (bP hr)<|aa 1<|ak<|al<|aQ<|aq<|aq<|LR h (.inr (⟨(r37.1,r37.2),rfl,rfl,dw.ret [] κ κ⟩))) λh=>dn [] [0,1,2,3,4,11,15,16,139,140] 1<|iC p4 (λp=>(sp 275 (K49 p0 p1 p2 x32 p y27 y27.2.2.2.1 x28 [(139,vB false),(140,.d (dE ab p))]) y27.2.2.2.2)) κ (λhp_x38=>by rw[hp_x38]at h;exact have h:=oW h;aE 11<|bG<|ag<|jK<|ao<|aR<|ag<|ah<|aa 3<|af<|(by cases h;exact⟨(y27.1,y27.2.1,y27.2.2.1,(IntKind.wrap .i64 (y27.2.2.2.1+1)),y27.2.2.2.2),rfl,by rw[hp_x32,hp_x38];kernel_rfl⟩)) (λx38 hp_x38=>by rw[hp_x38]at h;exact have h:=oV h;aE 7<|bI h λr39 hr h=>iB (ls:=[]) (eO hr)<|aE 3<|bG<|ag<|aT h (λh=>aA<|aa 2<|bI h λr40 hr h=>b8 (bP hr)<|aa 1<|ak<|al<|aQ<|aq<|aq<|LR h (.inr (⟨(r40.1,r40.2),rfl,rfl,dw.ret [] κ κ⟩))) (λh=>ao<|aR<|ag<|ah<|aa 3<|af<|(by cases h;exact⟨(y27.1,y27.2.1,y27.2.2.1,(IntKind.wrap .i64 (y27.2.2.2.1+1)),y27.2.2.2.2),rfl,by rw[hp_x32,hp_x38];kernel_rfl⟩))))) λh=>dn [] [0,1,2,3,4,11,15,16,126,127] 13<|iC p3 (λp=>(sp 275 (K6 p0 p1 p2 p p4 [(11,rl y27),(15,vI y27.2.2.2.1),(16,me x28),(126,vB false),(127,.d (dE ab p))]) y27.2.2.2.2)) κ (λhp_x41=>by rw[hp_x41]at h;exact have h:=oW h;dn [] [0,1,2,3,4,11,15,16,139,140] 13<|iC p4 (λp=>(sp 275 (K10 p0 p1 [(2,vI p2),(3,.d (.fZ)),(4,.d (dE ab p)),(11,rl y27),(15,vI y27.2.2.2.1),(16,me x28),(139,vB false),(140,.d (dE ab p))]) y27.2.2.2.2)) κ (λhp_x42=>by rw[hp_x42]at h;exact have h:=oW h;aE 11<|bG<|ag<|jK<|ao<|aR<|ag<|ah<|aa 3<|af<|(by cases h;exact⟨(y27.1,y27.2.1,y27.2.2.1,(IntKind.wrap .i64 (y27.2.2.2.1+1)),y27.2.2.2.2),rfl,by rw[hp_x41,hp_x42];kernel_rfl⟩)) (λx42 hp_x42=>by rw[hp_x42]at h;exact have h:=oV h;aE 7<|bI h λr43 hr h=>iB (ls:=[]) (eO hr)<|aE 3<|bG<|ag<|aT h (λh=>aA<|aa 2<|bI h λr44 hr h=>b8 (bP hr)<|aa 1<|ak<|al<|aQ<|aq<|aq<|LR h (.inr (⟨(r44.1,r44.2),rfl,rfl,dw.ret [] κ κ⟩))) (λh=>ao<|aR<|ag<|ah<|aa 3<|af<|(by cases h;exact⟨(y27.1,y27.2.1,y27.2.2.1,(IntKind.wrap .i64 (y27.2.2.2.1+1)),y27.2.2.2.2),rfl,by rw[hp_x41,hp_x42];kernel_rfl⟩)))) (λx41 hp_x41=>by rw[hp_x41]at h;exact have h:=oV h;aE 7<|bI h λr45 hr h=>iB (ls:=[]) (eO hr)<|dn [] [0,1,2,3,4,11,15,16,139] 4<|dV (λb=>(sp 275 (K49 p0 p1 p2 x41 p4 y27 y27.2.2.2.1 x28 [(139,vB b)]) y27.2.2.2.2)) h (λh=>aE 12<|bG<|ag<|eS κ<|aA<|aa 2<|bI h λr46 hr h=>b8 (bP hr)<|aa 1<|ak<|al<|aQ<|aq<|aq<|LR h (.inr (⟨(r46.1,r46.2),rfl,rfl,dw.ret [] κ κ⟩))) λh=>dn [] [0,1,2,3,4,11,15,16,139,140] 1<|iC p4 (λp=>(sp 275 (K49 p0 p1 p2 x41 p y27 y27.2.2.2.1 x28 [(139,vB false),(140,.d (dE ab p))]) y27.2.2.2.2)) κ (λhp_x47=>by rw[hp_x47]at h;exact have h:=oW h;aE 11<|bG<|ag<|jK<|ao<|aR<|ag<|ah<|aa 3<|af<|(by cases h;exact⟨(y27.1,y27.2.1,y27.2.2.1,(IntKind.wrap .i64 (y27.2.2.2.1+1)),y27.2.2.2.2),rfl,by rw[hp_x41,hp_x47];kernel_rfl⟩)) (λx47 hp_x47=>by rw[hp_x47]at h;exact have h:=oV h;aE 7<|bI h λr48 hr h=>iB (ls:=[]) (eO hr)<|aE 3<|bG<|ag<|aT h (λh=>aA<|aa 2<|bI h λr49 hr h=>b8 (bP hr)<|aa 1<|ak<|al<|aQ<|aq<|aq<|LR h (.inr (⟨(r49.1,r49.2),rfl,rfl,dw.ret [] κ κ⟩))) (λh=>ao<|aR<|ag<|ah<|aa 3<|af<|(by cases h;exact⟨(y27.1,y27.2.1,y27.2.2.1,(IntKind.wrap .i64 (y27.2.2.2.1+1)),y27.2.2.2.2),rfl,by rw[hp_x41,hp_x47];kernel_rfl⟩))))) (λh=>aI 275 y27.2.2.2.2 (K6 p0 p1 p2 p3 p4 [(11,rl y27)])<|bT<|ba<|ba<|LR h (.inl ⟨(y27.1,y27.2.1,y27.2.2.1,y27.2.2.2.2),rfl,rfl,rfl⟩))) (by rintro _ _ (⟨v51,rfl,rfl,rfl⟩|⟨r84,rfl,rfl,hE⟩);exact have h:=js h;bw<|ag<|aA<|aa 3<|bI h λx52 hx h=>ax (s:=vI x52) (aF hx)<|aa 2<|ak<|gr 275 v51.2.2.2 [0,1,2,3,4,11,17] (λ(j53:Int)=>(K6 p0 p1 p2 p3 p4 [(11,Hy v51),(17,vI j53)])) h (λj53 h=>aA<|aa 2<|ax (aJ (enc:=ab) (xs:=v51.2.1))<|aa 2<|ak<|gr 275 v51.2.2.2 [0,1,2,3,4,11,17,18] (λ(j55:Int)=>(K6 p0 p1 p2 p3 p4 [(11,Hy v51),(17,vI j53),(18,vI j55)])) h (λj55 h=>gr 275 v51.2.2.2 [0,1,3,4,11] (λ(j57:Unit)=>(K29 p0 p1 p3 p4 v51 [])) h (λj57 h=>an<|ar 1<|aM<|bI h λz81 hit h=>l7 275 [0,1,3,4,11,19] (λy65=>(K29 p0 p1 p3 p4 v51 [(19,vI y65.1)])) (λy65=>y65.2) (λb e s=>((∃v82,b=(.inl v82)/\(e=.exit 6/\s=(sp 275 [] v82)))\/(∃r83,b=(.inr r83)/\(e=.ret/\dw Tryz.prog Tryz.f46.results.toList r83.2 (vB r83.1) .ret s)))) hit κ (λy65 o h=>by unfold dz at h;exact an<|aA<|aa 3<|ax (aJ (enc:=(D.int .i64)) (xs:=v51.2.2.1))<|aa 1<|ak<|aT h (λh=>ao<|ag<|an<|aM<|an<|gr 275 y65.2 [0,1,3,4,11,19,240] (λ(j66:Bool)=>(K29 p0 p1 p3 p4 v51 [(19,vI y65.1),(240,vB j66)])) h (λj66 h=>aT h (λh=>aA<|aa 2<|bI h λr72 hr h=>b8 (bP hr)<|aa 1<|ak<|al<|aq<|aQ<|aq<|aq<|LR h (.inr (⟨(r72.1,r72.2),rfl,rfl,dw.ret [] κ κ⟩))) (λh=>ao<|ag<|ar 1<|gr 275 y65.2 [0,1,3,4,11,19,20,21] (λ(j73:(Option Entry))=>(K29 p0 p1 p3 p4 v51 [(19,vI y65.1),(20,.d (dE ab j73)),(21,.d (dE ab p4))])) h (λj73 h=>gr 275 y65.2 [0,1,3,4,11,19,20,21] (λ(j76:(Option Entry))=>(K29 p0 p1 p3 p4 v51 [(19,vI y65.1),(20,.d (dE ab j73)),(21,.d (dE ab j76))])) h (λj76 h=>an<|g8 11 κ κ<|bp 4<|bI h λx79 hx h=>bU (s:=bb none (Go.Sh.D.cells ((D.int .i64) x79))) (aD (n:=1) hx)<|bp 6<|cd<|bI h λr80 hr h=>b8 (ih hr)<|aa 1<|ak<|aT h (λh=>ar 1<|al<|aQ<|aq<|aq<|LR h (.inr (⟨(false,r80.2),rfl,rfl,dw.ret [] κ κ⟩))) (λh=>ao<|aR<|ag<|ah<|aa 3<|af<|LQ h)) λjp77 h=>aA<|aa 3<|ax (aJ (enc:=ab) (xs:=v51.2.1))<|aa 1<|ak<|aT h (λh=>ah<|aa 3<|bI h λx78 hx h=>ax (s:=bb none (ab x78).cells) (aD (n:=3) hx)<|aa 1<|af<|JQ [] h) (λh=>ao<|JQ [] h)) λjp74 h=>ar 1<|aT h (λh=>ah<|aa 4<|bI h λx75 hx h=>ax (s:=bb none (ab x75).cells) (aD (n:=3) hx)<|aa 1<|af<|JQ [] h) (λh=>ao<|JQ [] h))) λjp67 h=>zj<|bp 3<|bI h λx68 hx h=>bU (s:=bb none (Go.Sh.D.cells ((D.int .i64) x68))) (aD (n:=1) hx)<|bp 4<|bI h λx69 hx h=>bU (s:=vI x69) (aF hx)<|pe [] [0,1,3,4,11,19,229] 2<|xa (λb=>(sp 275 (K29 p0 p1 p3 p4 v51 [(19,vI y65.1),(229,vB b)]) y65.2)) h (λh=>bp 11<|cd<|JQ [] h) λh=>bp 3<|bI h λx70 hx h=>bU (s:=vI x70) (aF hx)<|bp 3<|bI h λx71 hx h=>bU (aY hx)<|bU (aJ (enc:=cj) (xs:=x71))<|bp 2<|cd<|JQ [] h) (λh=>aI 275 y65.2 []<|bT<|ba<|ba<|LR h (.inl ⟨y65.2,rfl,rfl,rfl⟩))) (by rintro _ _ (⟨v82,rfl,rfl,rfl⟩|⟨r83,rfl,rfl,hE⟩);exact have h:=js h;bw<|ag<|ar 1<|al<|iI h▸E0;exact have h:=jr h;aQ<|aq<|(by cases h;exact hE))) λjp58 h=>an<|zj<|bp 2<|bU (aJ (enc:=ab) (xs:=v51.2.1))<|bp 3<|bI h λx59 hx h=>bU (s:=vI x59) (aF hx)<|pe [] [0,1,2,3,4,11,17,18,180] 2<|xa (λb=>(sp 275 (K6 p0 p1 p2 p3 p4 [(11,Hy v51),(17,vI j53),(18,vI j55),(180,vB b)]) v51.2.2.2)) h (λh=>bp 28<|cd<|ag<|eS κ<|aA<|aa 2<|bI h λr60 hr h=>b8 (bP hr)<|aa 1<|ak<|al<|aq<|iI h▸E0) λh=>bp 2<|bU (aJ (enc:=ab) (xs:=v51.2.1))<|pe [] [0,1,2,3,4,11,18,187] 4<|Q9 275 v51.2.2.2 [0,1,2,3,4,11,18,191] 4 (decide ((v51.2.1.length:Int)<j53)) (λb=>(sp 275 (K6 p0 p1 p2 p3 p4 [(11,Hy v51),(18,vI j55),(187,vB b)]) v51.2.2.2)) (λb=>(K6 p0 p1 p2 p3 p4 [(11,Hy v51),(18,vI j55),(191,vB (b||(decide (v51.1<0))))])) κ κ κ κ<|pe [] [0,1,2,3,4,11,18,192] 1<|xa (λb=>(sp 275 (K6 p0 p1 p2 p3 p4 [(11,Hy v51),(18,vI j55),(192,vB b)]) v51.2.2.2)) h (λh=>bp 16<|cd<|ag<|eS κ<|aA<|aa 2<|bI h λr61 hr h=>b8 (bP hr)<|aa 1<|ak<|al<|aq<|iI h▸E0) λh=>pe [] [0,1,2,3,4,11,18,192,195] 3<|xa (λb=>(sp 275 (K6 p0 p1 p2 p3 p4 [(11,Hy v51),(18,vI j55),(192,vB false),(195,vB b)]) v51.2.2.2)) h (λh=>pe [] [0,1,3,4,11,18,202] 7<|xa (λb=>(sp 275 (K29 p0 p1 p3 p4 v51 [(18,vI j55),(202,vB b)]) v51.2.2.2)) h (λh=>bp 6<|cd<|ag<|eS κ<|aA<|aa 2<|bI h λr62 hr h=>b8 (bP hr)<|aa 1<|ak<|al<|aq<|iI h▸E0) λh=>bp 2<|bU (aJ (enc:=(D.int .i64)) (xs:=v51.2.2.1))<|bp 3<|cd<|ag<|aT h (λh=>aA<|aa 2<|bI h λr63 hr h=>b8 (bP hr)<|aa 1<|ak<|al<|aq<|iI h▸E0) (λh=>ao<|JQ [] h)) λh=>bp 9<|bU (aJ (enc:=(D.int .i64)) (xs:=v51.2.2.1))<|bp 3<|cd<|ag<|aT h (λh=>aA<|aa 2<|bI h λr64 hr h=>b8 (bP hr)<|aa 1<|ak<|al<|aq<|iI h▸E0) (λh=>ao<|JQ [] h)) λjp56 h=>ar 1<|aT h (λh=>ah<|aa 1<|af<|JQ [] h) (λh=>ao<|JQ [] h)) λjp54 h=>ar 1<|aT h (λh=>ar 2<|aT h (λh=>ah<|aa 1<|af<|JQ [] h) (λh=>ao<|JQ [] h)) (λh=>ao<|JQ [] h);exact have h:=jr h;aQ<|aq<|(by cases h;exact hE));exact have h:=jr h;aQ<|aq<|(by cases h;exact hE))
end
theorem xD{fuel:Nat}: ∀{p0:Nat} {p1:Int} {p2:Int} {p3:(Option Entry)} {p4:(Option Entry)} {H:Hp} {r:(Bool)×Hp},dg fuel p0 p1 p2 p3 p4 H=some r->SC Tryz.prog false 46 [.d (.ptr p0 0),vI p1,vI p2,.d (dE ab p3),.d (dE ab p4)] H (vB r.1) r.2:=by
 induction fuel with
 |zero=>intros;rename_i h;exact nomatch (show(none:Option ((Bool)×Hp))=some _ from h)
 |succ fuel ih=>exactλh=>vg ih h
theorem pL(x:az):fH (cD x)=true:=by simp[cD,fH,fS,gp (f:=(D.int .i64)) (λ_=>rfl),gp (f:=D.bool) (λ_=>rfl)]
theorem sJ(x:Value):fH (ay x)=true:=by simp[ay,fH,fS]
theorem G8(x:Entry):fH (ab x)=true:=by simp[ab,fH,fS,gp (f:=ay) sJ]
theorem BG(x:Node):fH (cj x)=true:=by simp[cj,fH,fS,gp (f:=ab) G8,gp (f:=(D.int .i64)) (λ_=>rfl)]
def tJ(fuel:Nat)(p0:az)(p1:Int)(p2:Int)(p3:(List Node)):Option (Int×Int):=
 (tK fuel p0).bind λr1=>
 bif (!r1)then
  some (0,1)
 else
  bif (((decide (p1<3))||(decide (p1>32)))||(decide (p2<0)))then
   some (0,7)
  else
   bif ((p3.length:Int)==0)then
    some (0,12)
   else
    (nv [] (.cells [.d (.list 1 (List.map (D.int .i64) p0.aG)),.d (.list 1 (List.map D.bool p0.Down)),.d (.int .i64 p0.eD),.d (.int .i64 p1),.d (.int .i64 p2),.d (.list 3 (List.map cj p3)),.d (.int .i64 0),.own 1 (List.map (D.int .i64) ([]:List Int)),.d (.int .i64 (-1))])).bind λq2=>
    (dg fuel q2.2 0 (-1) none none q2.1).bind λr3=>
    bif (!r3.1)then
     (bE (cI .i64).cell r3.2 q2.2 8).bind λx4=>
     some (x4,12)
    else
     (bE (cI .i64).cell r3.2 q2.2 6).bind λx5=>
     bif (decide (x5<(p3.length:Int)))then
      (bE (cI .i64).cell r3.2 q2.2 6).bind λx6=>
      some (x6,12)
     else
      (bL 1 (cI .i64) r3.2 q2.2 7).bind λx7=>
      bif (decide ((x7.length:Int)>500))then
       some (0,4)
      else
       some ((-1),0)
section
attribute [local irreducible] cf jj lh lH SW uS
def K59:=λa0 a1 a2 a3 (t:SL)=>((1,vI a0)::(2,vI a1)::(3,uo a2)::(4,Z1 a3)::t:SL)
theorem AI(h:tJ fuel p0 p1 p2 p3=some r):PC Tryz.prog 14 [.d (cD p0),vI p1,vI p2,.d (.list 3 (List.map cj p3))] (.iQ [vI r.1,vI r.2]):=by
 exact mb Tryz.func14 rfl (by simp[gP,fH,fS,vI,vB,vS,pL,gp (f:=cj) BG]) (by simp[gP,fH,fS,vI,vB,vS])<|(by unfold tJ at h;exact aI 60 [] [(0,Z2 p0),(1,vI p1),(2,vI p2),(3,uo p3)]<|ar 1<|an<|aM<|aA<|aa 1<|bI h λr1 hr h=>bJ (AJ hr)<|aa 2<|ak<|aT h (λh=>ar 1<|al<|aQ<|aq<|iI h▸EL) (λh=>aA<|aX [] [1,2,3,4,18] 3<|dO 60 [] [1,2,3,4,21] 3 (decide (p1<3)) (λb=>(sp 60 (K59 p1 p2 p3 p0 [(18,vB b)]) [])) (λb=>(K59 p1 p2 p3 p0 [(21,vB (b||(decide (p1>32))))])) κ κ κ<|aX [] [1,2,3,4,22] 1<|dO 60 [] [1,2,3,4,25] 3 ((decide (p1<3))||(decide (p1>32))) (λb=>(sp 60 (K59 p1 p2 p3 p0 [(22,vB b)]) [])) (λb=>(K59 p1 p2 p3 p0 [(25,vB (b||(decide (p2<0))))])) κ κ κ<|aa 1<|ak<|aT h (λh=>ar 1<|al<|aQ<|aq<|iI h▸EL) (λh=>aA<|aa 1<|ax (aJ (enc:=cj) (xs:=p3))<|aa 2<|ak<|aT h (λh=>ar 1<|al<|aQ<|aq<|iI h▸EL) (λh=>ao<|aR<|ag<|aA<|aa 5<|bI h λq2 hq h=>w6 [(7,1,true)] hq<|aa 1<|ak<|an<|aA<|aa 1<|bI h λr3 hr h=>b8 (xD hr)<|aa 1<|ak<|aT h (λh=>aA<|aa 3<|bI h λx4 hx h=>ax (s:=vI x4) (aF hx)<|aa 2<|ak<|al<|aq<|iI h▸EL) (λh=>ao<|ag<|an<|aA<|aa 3<|bI h λx5 hx h=>ax (s:=vI x5) (aF hx)<|aa 1<|ax (aJ (enc:=cj) (xs:=p3))<|aa 1<|ak<|aT h (λh=>aA<|aa 3<|bI h λx6 hx h=>ax (s:=vI x6) (aF hx)<|aa 2<|ak<|al<|aq<|iI h▸EL) (λh=>ao<|ag<|an<|aA<|aa 3<|bI h λx7 hx h=>ax (aY hx)<|ax (aJ (enc:=(D.int .i64)) (xs:=x7))<|aa 1<|ak<|aT h (λh=>ar 1<|al<|aq<|iI h▸EL) (λh=>ao<|ag<|ar 1<|al<|iI h▸EL)))))))
def gB(fuel:Nat)(rc:((List Node)->Int->Option ((List Entry))))(p0:(List Node))(x1:Node)(y2:(List Entry)×Int):Option (((List Entry)×Int)⊕((List Entry))):=
 bif (decide (y2.2<(x1.Entries.length:Int)))then
  bif (decide ((x1.Kids.length:Int)>0))then
   (idx x1.Kids y2.2).bind λx3=>
   (rc p0 x3).bind λr4=>
   ff (decide ((y2.1++r4).length<=room))<|
   (idx x1.Entries y2.2).bind λx5=>
   ff (decide (((y2.1++r4)++[x5]).length<=room))<|
   some (.inl (((y2.1++r4)++[x5]),(IntKind.wrap .i64 (y2.2+1))))
  else
   (idx x1.Entries y2.2).bind λx6=>
   ff (decide ((y2.1++[x6]).length<=room))<|
   some (.inl ((y2.1++[x6]),(IntKind.wrap .i64 (y2.2+1))))
 else
  some (.inr y2.1)
def ju(fuel:Nat)(rc:((List Node)->Int->Option ((List Entry))))(p0:(List Node))(p1:Int):Option ((List Entry)):=
 (idx p0 p1).bind λx1=>
 (iter (gB fuel rc p0 x1) fuel (([]:List Entry),0)).bind λv8=>
 bif (decide ((x1.Kids.length:Int)>0))then
  (idx x1.Kids (IntKind.wrap .i64 ((x1.Kids.length:Int) - 1))).bind λx9=>
  (rc p0 x9).bind λr10=>
  ff (decide ((v8++r10).length<=room))<|
  some (v8++r10)
 else
  some v8
def jS:Nat->((List Node)->Int->Option ((List Entry)))
 |0=>λ_ _=>none
 |fuel+1=>ju fuel (jS fuel)
def UW(x0:(List Entry)×Int):SV:=.own 3 (List.map ab x0.1)
theorem AH{fuel:Nat}{rc:((List Node)->Int->Option ((List Entry)))}(ih: ∀{p0:(List Node)} {p1:Int} {r:(List Entry)},rc p0 p1=some r->PC Tryz.prog 92 [.d (.list 3 (List.map cj p0)),vI p1] (.own 3 (List.map ab r))){p0:(List Node)}{p1:Int}{r:(List Entry)}(h:ju fuel rc p0 p1=some r):PC Tryz.prog 92 [.d (.list 3 (List.map cj p0)),vI p1] (.own 3 (List.map ab r)):=by
 refine aW Tryz.func92 rfl λH=>?_
 unfold ju at h
 exact aI 57 H [(0,uo p0),(1,vI p1)]<|ar 1<|aA<|aa 2<|bI h λx1 hx h=>ax (s:=bb none (cj x1).cells) (aD (n:=3) hx)<|aa 3<|ak<|ar 1<|an<|ar 1<|aM<|bI h λv8 hit h=>fM 57 H [0,5,6,7] (λy2=>[(0,uo p0),(5,um x1),(6,.own 3 (List.map ab y2.1)),(7,vI y2.2)]) (λv8 e s=>(e=.exit 0/\s=(sp 57 [(0,uo p0),(5,um x1),(6,.own 3 (List.map ab v8))] H))) hit κ (λy2 o h=>by unfold gB at h;exact an<|aA<|aa 3<|ax (aJ (enc:=ab) (xs:=x1.Entries))<|aa 1<|ak<|aT h (λh=>ao<|ag<|an<|aM<|an<|aA<|aa 2<|ax (aJ (enc:=(D.int .i64)) (xs:=x1.Kids))<|aa 1<|ak<|aT h (λh=>ah<|aS [23] 5<|bI h λx3 hx h=>ax (s:=bb none (Go.Sh.D.cells ((D.int .i64) x3))) (aD (n:=1) hx)<|aS [23] 1<|bI h λr4 hr h=>bJ (ih hr)<|nJ h λhk h=>gb 23 3 (List.map ab (y2.1++r4)) (bF) (cC hk)<|aS [23] 1<|ak<|ah<|aS [32] 4<|bI h λx5 hx h=>ax (s:=bb none (ab x5).cells) (aD (n:=3) hx)<|aS [32] 2<|nJ h λhk h=>gb 32 3 (List.map ab ((y2.1++r4)++[x5])) (bF) (cC hk)<|aS [32] 1<|af<|aR<|ag<|ah<|aa 3<|af<|LQ h) (λh=>ao<|ag<|ah<|aS [32] 4<|bI h λx6 hx h=>ax (s:=bb none (ab x6).cells) (aD (n:=3) hx)<|aS [32] 2<|nJ h λhk h=>gb 32 3 (List.map ab (y2.1++[x6])) (bF) (cC hk)<|aS [32] 1<|af<|aR<|ag<|ah<|aa 3<|af<|LQ h)) (λh=>aI 57 H [(0,uo p0),(5,um x1),(6,UW y2)]<|bT<|ba<|ba<|LR h ⟨rfl,rfl⟩)) (by rintro _ _ ⟨rfl,rfl⟩;exact bw<|ag<|an<|aA<|aa 2<|ax (aJ (enc:=(D.int .i64)) (xs:=x1.Kids))<|aa 1<|ak<|aT h (λh=>ah<|aS [44] 6<|ax (aJ (enc:=(D.int .i64)) (xs:=x1.Kids))<|aS [44] 1<|bI h λx9 hx h=>ax (s:=bb none (Go.Sh.D.cells ((D.int .i64) x9))) (aD (n:=1) hx)<|aS [44] 1<|bI h λr10 hr h=>bJ (ih hr)<|nJ h λhk h=>gb 44 3 (List.map ab (v8++r10)) (bF) (cC hk)<|aS [44] 1<|ak<|aA<|aS [56] 2<|ak<|al<|iI h▸E0) (λh=>ao<|ag<|aA<|aS [56] 2<|ak<|al<|iI h▸E0))
end
theorem Et{fuel:Nat}: ∀{p0:(List Node)} {p1:Int} {r:(List Entry)},jS fuel p0 p1=some r->PC Tryz.prog 92 [.d (.list 3 (List.map cj p0)),vI p1] (.own 3 (List.map ab r)):=by
 induction fuel with
 |zero=>intros;rename_i h;exact nomatch (show(none:Option ((List Entry)))=some _ from h)
 |succ fuel ih=>exactλh=>AH ih h
def AO(fuel:Nat)(p0:az)(p1:Int)(p2:Int)(p3:(List Node)):Option (Tree×Int×Int):=
 (tJ fuel p0 p1 p2 p3).bind λr1=>
 bif (r1.2 !=0)then
  some ((⟨(⟨([]:List Int),([]:List Bool),0⟩:az),0,([]:List Entry),0⟩:Tree),r1.1,r1.2)
 else
  (jS fuel p3 0).bind λr2=>
  some ((⟨p0,p1,r2,p2⟩:Tree),r1.1,0)
def UU(x0:az)(x1:Int)(x2:(List Entry))(x3:Int):SV:=.box [.d (.list 1 (List.map (D.int .i64) x0.aG)),.d (.list 1 (List.map D.bool x0.Down)),vI x0.eD,vI x1,.d (.list 3 (List.map ab x2)),vI x3]
section
attribute [local irreducible] cf jj lh lH SW uS
theorem LL(h:AO fuel p0 p1 p2 p3=some r):PC Tryz.prog 69 [.d (cD p0),vI p1,vI p2,.d (.list 3 (List.map cj p3))] (.iQ [.d (.agg [.list 1 (List.map (D.int .i64) r.1.S.aG),.list 1 (List.map D.bool r.1.S.Down),.int .i64 r.1.S.eD,.int .i64 r.1.Order,.list 3 (List.map ab r.1.fk),.int .i64 r.1.gK]),vI r.2.1,vI r.2.2]):=by
 refine aW Tryz.func69 rfl λH=>?_
 unfold AO at h
 exact aI 33 H [(0,Z2 p0),(1,vI p1),(2,vI p2),(3,uo p3)]<|ar 1<|aA<|aa 4<|bI h λr1 hr h=>bJ (AI hr)<|aa 5<|ak<|an<|ar 1<|aT h (λh=>HF 1 [8,9,10]<|kB 8 0 1 33 H [8,9,10] [(8,SU),(9,vI r1.1),(10,vI r1.2)] κ<|kB 8 1 1 33 H [8,9,10] [(8,SS),(9,vI r1.1),(10,vI r1.2)] κ<|kB 8 4 3 33 H [8,9,10] [(8,SR),(9,vI r1.1),(10,vI r1.2)] κ<|al<|aq<|iI h▸E0) (λh=>ao<|ag<|an<|bI h λr2 hr_3 h=>aI 33 H (K59 p1 p2 p3 p0 [(8,uq),(11,vI r1.1)])<|gW 33 H [(8,UU p0 p1 r2 p2),(9,vI r1.1),(10,vI 0)] [1,2,4,6] 6 86 κ κ κ (λX hX=>by subst hX;exact aB<|aB<|aB<|dp 33 H [4,8,27,28,30,32] [(4,Z1 p0),(8,uq),(27,vI p1),(28,uo p3),(30,vI p2),(32,vI r1.1)] κ<|dX<|nA [] [(3,eV _),(5,eF 29)] ⟨Cn (Et hr_3),zo,trivial⟩) (ag<|al<|iI h▸E0))
def dB(fuel:Nat)(p0:(List Entry))(p1:(List Entry))(y1:Int):Option ((Int)⊕((Unit)⊕((Bool)))):=
 bif (decide (y1<(p0.length:Int)))then
  (idx p0 y1).bind λx2=>
  (idx p1 y1).bind λx3=>
  bif (x2.Key !=x3.Key)then
   some (.inr (.inr false))
  else
   (idx p0 y1).bind λx4=>
   (idx p1 y1).bind λx5=>
   bif (x4.Number !=x5.Number)then
    some (.inr (.inr false))
   else
    (idx p0 y1).bind λx6=>
    (idx p1 y1).bind λx7=>
    (ku fuel x6.Row x7.Row).bind λr8=>
    bif (!r8)then
     some (.inr (.inr false))
    else
     some (.inl (IntKind.wrap .i64 (y1+1)))
 else
  some (.inr (.inl ()))
def fE(fuel:Nat)(p0:(List Entry))(p1:(List Entry)):Option (Bool):=
 bif ((p0.length:Int) !=(p1.length:Int))then
  some false
 else
  (iter (dB fuel p0 p1) fuel 0).bind (Sum.elim (λv10=>
   some true) (λr11=>
   some r11))
theorem mM(h:fE fuel p0 p1=some r):PC Tryz.prog 16 [.d (.list 3 (List.map ab p0)),.d (.list 3 (List.map ab p1))] (vB r):=by
 refine aW Tryz.func16 rfl λH=>?_
 unfold fE at h
 exact aI 55 H [(0,Hw p0),(1,Hw p1)]<|ar 1<|an<|aA<|aa 1<|ax (aJ (enc:=ab) (xs:=p0))<|aa 1<|ax (aJ (enc:=ab) (xs:=p1))<|aa 1<|ak<|aT h (λh=>ar 1<|al<|aq<|iI h▸E0) (λh=>ao<|ag<|an<|ar 1<|aM<|bI h λz9 hit h=>fM 55 H [0,1,5] (λy1=>[(0,Hw p0),(1,Hw p1),(5,vI y1)]) (λb e s=>((∃v10,b=(.inl v10)/\(e=.exit 0/\s=(sp 55 [] H)))\/(∃r11,b=(.inr r11)/\(e=.ret/\dw Tryz.prog Tryz.f16.results.toList H (vB r11) .ret s)))) hit κ (λy1 o h=>by unfold dB at h;exact an<|aA<|aa 2<|ax (aJ (enc:=ab) (xs:=p0))<|aa 1<|ak<|aT h (λh=>ao<|ag<|an<|aM<|an<|fL<|aE 2<|bI h λx2 hx h=>bn (s:=bb none (ab x2).cells) (aD (n:=3) hx)<|aE 4<|bI h λx3 hx h=>bn (s:=bb none (ab x3).cells) (aD (n:=3) hx)<|dn [] [0,1,5,28] 4<|dV (λb=>(sp 55 [(0,Hw p0),(1,Hw p1),(5,vI y1),(28,vB b)] H)) h (λh=>aE 26<|bG<|ag<|eS κ<|ar 1<|al<|aQ<|aq<|aq<|LR h (.inr (⟨false,rfl,rfl,dw.ret [] κ κ⟩))) λh=>aE 2<|bI h λx4 hx h=>bn (s:=bb none (ab x4).cells) (aD (n:=3) hx)<|aE 4<|bI h λx5 hx h=>bn (s:=bb none (ab x5).cells) (aD (n:=3) hx)<|dn [] [0,1,5,41] 5<|dV (λb=>(sp 55 [(0,Hw p0),(1,Hw p1),(5,vI y1),(41,vB b)] H)) h (λh=>aE 13<|bG<|ag<|eS κ<|ar 1<|al<|aQ<|aq<|aq<|LR h (.inr (⟨false,rfl,rfl,dw.ret [] κ κ⟩))) λh=>aE 2<|bI h λx6 hx h=>bn (s:=bb none (ab x6).cells) (aD (n:=3) hx)<|aE 4<|bI h λx7 hx h=>bn (s:=bb none (ab x7).cells) (aD (n:=3) hx)<|aE 2<|bI h λr8 hr h=>fc (pn hr)<|aE 2<|bG<|ag<|aT h (λh=>ar 1<|al<|aQ<|aq<|aq<|LR h (.inr (⟨false,rfl,rfl,dw.ret [] κ κ⟩))) (λh=>ao<|aR<|ag<|ah<|aa 3<|af<|LQ h)) (λh=>aI 55 H []<|bT<|ba<|ba<|LR h (.inl ⟨(),rfl,rfl,rfl⟩))) (by rintro _ _ (⟨v10,rfl,rfl,rfl⟩|⟨r11,rfl,rfl,hE⟩);exact have h:=js h;bw<|ag<|ar 1<|al<|iI h▸E0;exact have h:=jr h;aQ<|aq<|(by cases h;exact hE)))
def lL(fuel:Nat)(p0:Nat)(H:Hp):Option (Int):=
 (bE (cI .i64).cell H p0 6).bind λx1=>
 some x1
theorem nG(h:lL fuel p0 H=some r):SC Tryz.prog true 70 [.d (.ptr p0 0)] H (vI r) H:=by
 refine fT Tryz.func70 rfl ?_
 unfold lL at h
 exact aI 9 H [(0,.d (.ptr p0 0))]<|ar 1<|an<|ar 1<|jK<|ao<|ag<|aA<|aa 3<|bI h λx1 hx h=>ax (s:=vI x1) (aF hx)<|aa 1<|ak<|al<|iI h▸E0
def jw(fuel:Nat)(p0:Tree)(y1:(List Int)×Int):Option (((List Int)×Int)⊕((List Int))):=
 bif (decide (y1.2<(p0.fk.length:Int)))then
  (idx p0.fk y1.2).bind λx2=>
  ff (decide ((y1.1++[x2.Key]).length<=room))<|
  some (.inl ((y1.1++[x2.Key]),(IntKind.wrap .i64 (y1.2+1))))
 else
  some (.inr y1.1)
def np(fuel:Nat)(p0:Tree):Option ((List Int)):=
 (iter (jw fuel p0) fuel (([]:List Int),0)).bind λv4=>
 some v4
def UT(x0:Int)(x1:Tree):SV:=vB (x0==(x1.fk.length:Int))
def US(x0:(List Int)×Int):SV:=.own 1 (List.map (D.int .i64) x0.1)
theorem AM(h:np fuel p0=some r):PC Tryz.prog 71 [.d (n9 p0)] (.own 1 (List.map (D.int .i64) r)):=by
 refine aW Tryz.func71 rfl λH=>?_
 unfold np at h
 exact aI 22 H [(0,wQ p0)]<|ar 2<|an<|ar 1<|aM<|bI h λv4 hit h=>fM 22 H [1,3,4] (λy1=>[(1,sU p0),(3,.own 1 (List.map (D.int .i64) y1.1)),(4,vI y1.2)]) (λv4 e s=>(e=.exit 0/\s=(sp 22 [(3,.own 1 (List.map (D.int .i64) v4))] H))) hit κ (λy1 o h=>by unfold jw at h;exact an<|aA<|aa 3<|ax (aJ (enc:=ab) (xs:=p0.fk))<|aa 1<|ak<|aT h (λh=>ao<|ag<|an<|aM<|ah<|aS [12] 4<|bI h λx2 hx h=>ax (s:=bb none (ab x2).cells) (aD (n:=3) hx)<|aS [12] 3<|nJ h λhk h=>gb 12 1 (List.map (D.int .i64) (y1.1++[x2.Key])) (bF) (cC hk)<|aS [12] 1<|af<|aR<|ag<|ah<|aa 3<|af<|LQ h) (λh=>aI 22 H [(3,US y1)]<|bT<|ba<|ba<|LR h ⟨rfl,rfl⟩)) (by rintro _ _ ⟨rfl,rfl⟩;exact bw<|ag<|aA<|aS [21] 2<|ak<|al<|iI h▸E0)
def iJ(fuel:Nat)(p0:(List Int))(p1:(List Int))(y1:Int):Option ((Int)⊕((Unit)⊕((Bool)))):=
 bif (decide (y1<(p0.length:Int)))then
  (idx p0 y1).bind λx2=>
  (idx p1 y1).bind λx3=>
  bif (x2 !=x3)then
   some (.inr (.inr false))
  else
   some (.inl (IntKind.wrap .i64 (y1+1)))
 else
  some (.inr (.inl ()))
def lO(fuel:Nat)(p0:(List Int))(p1:(List Int)):Option (Bool):=
 bif ((p0.length:Int) !=(p1.length:Int))then
  some false
 else
  (iter (iJ fuel p0 p1) fuel 0).bind (Sum.elim (λv5=>
   some true) (λr6=>
   some r6))
theorem zy(h:lO fuel p0 p1=some r):PC Tryz.prog 21 [.d (.list 1 (List.map (D.int .i64) p0)),.d (.list 1 (List.map (D.int .i64) p1))] (vB r):=by
 refine aW Tryz.func21 rfl λH=>?_
 unfold lO at h
 exact aI 26 H [(0,QU p0),(1,QU p1)]<|ar 1<|an<|aA<|aa 1<|ax (aJ (enc:=(D.int .i64)) (xs:=p0))<|aa 1<|ax (aJ (enc:=(D.int .i64)) (xs:=p1))<|aa 1<|ak<|aT h (λh=>ar 1<|al<|aq<|iI h▸E0) (λh=>ao<|ag<|an<|ar 1<|aM<|bI h λz4 hit h=>fM 26 H [0,1,5] (λy1=>[(0,QU p0),(1,QU p1),(5,vI y1)]) (λb e s=>((∃v5,b=(.inl v5)/\(e=.exit 0/\s=(sp 26 [] H)))\/(∃r6,b=(.inr r6)/\(e=.ret/\dw Tryz.prog Tryz.f21.results.toList H (vB r6) .ret s)))) hit κ (λy1 o h=>by unfold iJ at h;exact an<|aA<|aa 2<|ax (aJ (enc:=(D.int .i64)) (xs:=p0))<|aa 1<|ak<|aT h (λh=>ao<|ag<|an<|aM<|an<|zj<|bp 2<|bI h λx2 hx h=>bU (s:=bb none (Go.Sh.D.cells ((D.int .i64) x2))) (aD (n:=1) hx)<|bp 3<|bI h λx3 hx h=>bU (s:=bb none (Go.Sh.D.cells ((D.int .i64) x3))) (aD (n:=1) hx)<|bp 2<|cd<|ag<|aT h (λh=>ar 1<|al<|aQ<|aq<|aq<|LR h (.inr (⟨false,rfl,rfl,dw.ret [] κ κ⟩))) (λh=>ao<|aR<|ag<|ah<|aa 3<|af<|LQ h)) (λh=>aI 26 H []<|bT<|ba<|ba<|LR h (.inl ⟨(),rfl,rfl,rfl⟩))) (by rintro _ _ (⟨v5,rfl,rfl,rfl⟩|⟨r6,rfl,rfl,hE⟩);exact have h:=js h;bw<|ag<|ar 1<|al<|iI h▸E0;exact have h:=jr h;aQ<|aq<|(by cases h;exact hE)))
def kL(fuel:Nat)(p0:Nat)(p1:Tree)(H:Hp):Option ((Bool)×Hp):=
 (eM fuel p0 H).bind λr1=>
 (AO fuel p1.S p1.Order p1.gK r1.1).bind λr2=>
 bz (λ(j3:Bool)=>
  bif j3 then
   some (false,r1.2)
  else
   (lL fuel p0 r1.2).bind λr8=>
   bif (r8==(p1.fk.length:Int))then
    (gz fuel p0 r1.2).bind λr24=>
    bif (r24==p1.gK)then
     (kR fuel p0 r1.2).bind λr35=>
     (fE fuel r35.1 p1.fk).bind λr46=>
     bif r46 then
      (lk fuel p0 r35.2).bind λr47=>
      (np fuel p1).bind λr58=>
      (lO fuel r47.1 r58).bind λr59=>
      some (r59,r47.2)
     else
      some (false,r35.2)
    else
     some (false,r1.2)
   else
    some (false,r1.2)) λjp4=>
 bif ((r2.2.2 !=0)||(r2.2.1 !=(-1)))then
  jp4 true
 else
  (fE fuel r2.1.fk p1.fk).bind λr5=>
  bif (!r5)then
   jp4 true
  else
   (iS fuel p0 r1.2).bind λr6=>
   (idx r1.1 0).bind λx7=>
   jp4 (r6 !=(IntKind.wrap .i64 (x7.Level+1)))
def K11:=λa0 a1 (t:SL)=>((0,.d (.ptr a0 0))::(3,sU a1)::t:SL)
theorem mO(h:kL fuel p0 p1 H=some r):SC Tryz.prog false 41 [.d (.ptr p0 0),.d (n9 p1)] H (vB r.1) r.2:=by
 refine dr Tryz.func41 rfl ?_
 unfold kL at h
 exact aI 74 H [(0,.d (.ptr p0 0)),(1,wQ p1)]<|ar 1<|aA<|aa 1<|bI h λr1 hr h=>b8 (du hr)<|aa 1<|ak<|aA<|aa 7<|bI h λr2 hr h=>bJ (LL hr)<|aa 8<|ak<|an<|gr 74 r1.2 [0,3,46] (λ(j3:Bool)=>(K11 p0 p1 [(46,vB j3)])) h (λj3 h=>aT h (λh=>ar 1<|al<|aq<|iI h▸E0) (λh=>ao<|ag<|an<|B1 (K11 p0 p1 [])<|zi 28 κ κ (λl=>gg (d':=26) [0,2] (K11 p0 p1 [(47,.d (.ptr p0 0)),(49,.loc 3 4)])<|bI h λr8 hr_1 h=>b9 (b:=true) (H:=r1.2) 23 31 74 (K11 p0 p1 [(48,vI r8),(51,Pa p1)]) (gg (d':=21) [5,6] (K11 p0 p1 [(53,UT r8 p1)])<|tu (r8==(p1.fk.length:Int)) (λb=>(sp 74 (K11 p0 p1 [(53,vB b)]) r1.2)) κ (λhc=>have h:=fh hc h;gg (d':=19) [7,9] (K11 p0 p1 [(53,vB true),(54,.d (.ptr p0 0)),(56,.loc 3 5)])<|bI h λr24 hr_8 h=>b9 (b:=true) (H:=r1.2) 17 2047 74 (K11 p0 p1 [(53,vB true),(55,vI r24),(57,vI p1.gK)]) (gg (d':=14) [11,12,13] (K11 p0 p1 [(60,vB (r24==p1.gK))])<|tu (r24==p1.gK) (λb=>(sp 74 (K11 p0 p1 [(60,vB b)]) r1.2)) κ (λhc=>have h:=fh hc h;gg (d':=12) [14,16] (K11 p0 p1 [(60,vB true),(61,.d (.ptr p0 0)),(63,.loc 3 4)])<|bI h λr35 hr_15 h=>b9 (b:=true) (H:=r35.2) 10 262143 74 (K11 p0 p1 [(60,vB true),(62,.own 3 (List.map ab r35.1)),(64,CG p1)]) (bI h λr46 hr_18 h=>qF 18 bD<|tt (d:=some 65) (ls:=[(.slot 62)]) (gs:=[]) [] (K11 p0 p1 [(60,vB true),(65,vB r46)]) (mM hr_18)<|af<|gg (d':=7) [19,20] (K11 p0 p1 [(67,vB r46)])<|tu r46 (λb=>(sp 74 (K11 p0 p1 [(67,vB b)]) r35.2)) κ (λhc=>have h:=fh hc h;gg (d':=6) [21] [(3,sU p1),(67,vB true),(68,.d (.ptr p0 0))]<|bI h λr47 hr_22 h=>b9 (b:=true) (H:=r47.2) 4 16777215 74 [(67,vB true),(69,.own 1 (List.map (D.int .i64) r47.1)),(70,wQ p1)] (bI h λr58 hr_24 h=>qF 24 bD<|ub (some 71) [(67,vB true),(69,MA r47),(71,.own 1 (List.map (D.int .i64) r58))] (AM hr_24)<|af<|bI h λr59 hr_25 h=>qF 25 bD<|tt (d:=some 72) (ls:=[(.slot 69),(.slot 71)]) (gs:=[]) [] [(67,vB true),(72,vB r59)] (zy hr_25)<|af<|gg (d':=0) [26,27] [(4,vB r59)]<|kN κ<|ag<|al<|iI h▸E0) (λc16777215=>b9 (b:=true) (H:=r47.2) 5 8388607 74 [(3,sU p1),(67,vB true),(69,.own 1 (List.map (D.int .i64) r47.1))] (bx (i0:=23) (is:=[]) κ ⟨bf (bm 74 r47.2 [] [67,69,70] 1 [(67,vB true),(69,MA r47),(70,wQ p1)] κ<|af<|c16777215) bD,trivial⟩) (λc8388607=>b9 (b:=true) (H:=r35.2) 5 12582911 74 [(67,vB true),(68,.d (.ptr p0 0)),(70,wQ p1)] (bx (i0:=22) (is:=[]) κ ⟨bf (tY 74 [(67,vB true),(69,MA r47),(70,wQ p1)] (oM hr_22)<|af<|c16777215) bD,trivial⟩) (λc12582911=>bx (i0:=22) (is:=[23]) κ ⟨bf (j6 (some 69) [(3,sU p1),(67,vB true),(69,.own 1 (List.map (D.int .i64) r47.1))] (oM hr_22)<|af<|c8388607) bD,bf (aK 1 [(67,vB true),(68,.d (.ptr p0 0)),(70,wQ p1)]<|af<|c12582911) bD,trivial⟩)))) (λhc=>have h:=fi hc h;gg (d':=0) [21,23,22,24,25,26,27] [(4,vB false)]<|kN κ<|ag<|al<|iI h▸E0)) (λc262143=>b9 (b:=true) (H:=r35.2) 11 131071 74 (K11 p0 p1 [(60,vB true),(62,.own 3 (List.map ab r35.1)),(63,.loc 3 4)]) (bx (i0:=17) (is:=[]) κ ⟨bf (bm 74 r35.2 [] [0,3,60,62,64] 1 (K11 p0 p1 [(60,vB true),(62,Pb r35),(64,CG p1)]) κ<|af<|c262143) bD,trivial⟩) (λc131071=>b9 (b:=true) (H:=r1.2) 11 229375 74 (K11 p0 p1 [(60,vB true),(61,.d (.ptr p0 0)),(64,CG p1)]) (bx (i0:=15) (is:=[]) κ ⟨bf (tY 74 (K11 p0 p1 [(60,vB true),(62,Pb r35),(64,CG p1)]) (kq hr_15)<|af<|c262143) bD,trivial⟩) (λc229375=>bx (i0:=15) (is:=[17]) κ ⟨bf (j6 (some 62) (K11 p0 p1 [(60,vB true),(62,.own 3 (List.map ab r35.1)),(63,.loc 3 4)]) (kq hr_15)<|af<|c131071) bD,bf (aK 1 (K11 p0 p1 [(60,vB true),(61,.d (.ptr p0 0)),(64,CG p1)])<|af<|c229375) bD,trivial⟩)))) (λhc=>have h:=fi hc h;gg (d':=0) [14,16,17,15,18,19,20,21,23,22,24,25,26,27] [(4,vB false)]<|kN κ<|ag<|al<|iI h▸E0)) (λc2047=>b9 (b:=true) (H:=r1.2) 18 1023 74 (K11 p0 p1 [(53,vB true),(55,vI r24),(56,.loc 3 5)]) (bx (i0:=10) (is:=[]) κ ⟨bf (bm 74 r1.2 [] [0,3,53,55,57] 1 (K11 p0 p1 [(53,vB true),(55,vI r24),(57,vI p1.gK)]) κ<|af<|c2047) bD,trivial⟩) (λc1023=>b9 (b:=true) (H:=r1.2) 18 1791 74 (K11 p0 p1 [(53,vB true),(54,.d (.ptr p0 0)),(57,vI p1.gK)]) (bx (i0:=8) (is:=[]) κ ⟨bf (Lg (ls:=[]) 74 r1.2 (K11 p0 p1 [(53,vB true),(55,vI r24),(57,vI p1.gK)]) (dv hr_8)<|af<|c2047) bD,trivial⟩) (λc1791=>bx (i0:=8) (is:=[10]) κ ⟨bf (gd (ls:=[]) (some 55) (K11 p0 p1 [(53,vB true),(55,vI r24),(56,.loc 3 5)]) (dv hr_8)<|af<|c1023) bD,bf (aK 1 (K11 p0 p1 [(53,vB true),(54,.d (.ptr p0 0)),(57,vI p1.gK)])<|af<|c1791) bD,trivial⟩)))) (λhc=>have h:=fi hc h;gg (d':=0) [7,9,10,8,11,12,13,14,16,17,15,18,19,20,21,23,22,24,25,26,27] [(4,vB false)]<|kN κ<|ag<|al<|iI h▸E0)) (λc31=>b9 (b:=true) (H:=r1.2) 24 15 74 (K11 p0 p1 [(48,vI r8),(50,CG p1)]) (bx (i0:=4) (is:=[]) κ ⟨bf (iw 74 r1.2 (d:=some 51) [0,3,48,51] (K11 p0 p1 [(48,vI r8),(51,Pa p1)]) (aJ (enc:=ab) (xs:=p1.fk)) κ<|af<|c31) bD,trivial⟩) (λc15=>b9 (b:=true) (H:=r1.2) 24 29 74 (K11 p0 p1 [(47,.d (.ptr p0 0)),(51,Pa p1)]) (bx (i0:=1) (is:=[]) κ ⟨bf (Lg (ls:=[]) 74 r1.2 (K11 p0 p1 [(48,vI r8),(51,Pa p1)]) (nG hr_1)<|af<|c31) bD,trivial⟩) (λc29=>b9 (b:=true) (H:=r1.2) 25 7 74 (K11 p0 p1 [(48,vI r8),(49,.loc 3 4)]) (bx (i0:=3) (is:=[]) κ ⟨bf (bm 74 r1.2 [] [0,3,48,50] 1 (K11 p0 p1 [(48,vI r8),(50,CG p1)]) κ<|af<|c15) bD,trivial⟩) (λc7=>b9 (b:=true) (H:=r1.2) 25 13 74 (K11 p0 p1 [(47,.d (.ptr p0 0)),(50,CG p1)]) (bx (i0:=1) (is:=[4]) κ ⟨bf (gd (ls:=[]) (some 48) (K11 p0 p1 [(48,vI r8),(50,CG p1)]) (nG hr_1)<|af<|c15) bD,bf (bB (d:=some 51) (K11 p0 p1 [(47,.d (.ptr p0 0)),(51,Pa p1)]) (aJ (enc:=ab) (xs:=p1.fk))<|af<|c29) bD,trivial⟩) (λc13=>bx (i0:=1) (is:=[3]) κ ⟨bf (gd (ls:=[]) (some 48) (K11 p0 p1 [(48,vI r8),(49,.loc 3 4)]) (nG hr_1)<|af<|c7) bD,bf (aK 1 (K11 p0 p1 [(47,.d (.ptr p0 0)),(50,CG p1)])<|af<|c13) bD,trivial⟩)))))))) λjp4 h=>fL<|dn [] [0,3,5,6,7,25] 3<|Lh 74 r1.2 [0,3,5,6,28] 3 (r2.2.2 !=0) (λb=>(sp 74 (K11 p0 p1 [(5,jJ r1),(6,SP r2),(7,vI r2.2.1),(25,vB b)]) r1.2)) (λb=>(K11 p0 p1 [(5,jJ r1),(6,SP r2),(28,vB (b||(r2.2.1 !=(-1))))])) κ κ κ<|dn [] [0,3,5,6,29] 1<|dV (λb=>(sp 74 (K11 p0 p1 [(5,jJ r1),(6,SP r2),(29,vB b)]) r1.2)) h (λh=>aE 17<|bG<|JQ [] h) λh=>aE 4<|bI h λr5 hr h=>fc (mM hr)<|dn [] [0,3,5,37] 3<|dV (λb=>(sp 74 (K11 p0 p1 [(5,jJ r1),(37,vB b)]) r1.2)) h (λh=>aE 9<|bG<|JQ [] h) λh=>aE 1<|bI h λr6 hr h=>iB (ls:=[]) (gR hr)<|aE 1<|bI h λx7 hx h=>bn (s:=bb none (cj x7).cells) (aD (n:=3) hx)<|aE 5<|bG<|JQ [] h
end
end Go.Sh
