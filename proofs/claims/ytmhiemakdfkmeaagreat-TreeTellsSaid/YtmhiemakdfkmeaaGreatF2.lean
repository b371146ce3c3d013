/- Printed by a program: functions of the program as plain functions, and that the code computes them. -/
import Derived.Test.YtmhiemakdfkmeaaGreatF1
set_option linter.all false
set_option autoImplicit true
set_option relaxedAutoImplicit true
open Go Go.Proofs
namespace Go.Sh
set_option maxRecDepth 100000
section
attribute [local irreducible] bX jR lM lQ SW uS
def fp(fuel:Nat)(rc:(Nat->Nat->Entry->Hp->Option ((Unit)×Hp)))(p0:Nat)(p1:Nat)(p2:Entry)(H:Hp):Option ((Unit)×Hp):=
 (oK fuel p0 p1 p2 H).bind λr1=>
 bp (λ(j2:Hp)=>
  (bG 1 cP j2 p1 1).bind λx37=>
  (idx x37 r1.1).bind λx38=>
  x38.bind λi39=>
  (bG 3 aM j2 i39 0).bind λx40=>
  (dA fuel p0 j2).bind λr41=>
  bif (decide ((x40.length:Int)<r41))then
   (eU fuel p0 p1 r1.1 j2).bind λr42=>
   some ((),r42.2)
  else
   some ((),j2)) λjp3=>
 (cJ fuel p1 H).bind λr4=>
 bif r4 then
  bif r1.2 then
   (db 3 aM H p1 0).bind λq5=>
   (fv fuel q5.1 r1.1 (IntKind.wrap .i64 (r1.1+1))).bind λr6=>
   (cz 3 aM q5.2 p1 0 r6).bind λH7=>
   some ((),H7)
  else
   some ((),H)
 else
  bif r1.2 then
   (bG 1 cP H p1 1).bind λx8=>
   (idx x8 r1.1).bind λx9=>
   (iter (jq fuel) fuel (x9,H)).bind λv17=>
   v17.1.bind λi18=>
   v17.1.bind λi19=>
   (db 3 aM v17.2 p1 0).bind λq20=>
   (bG 3 aM v17.2 i19 0).bind λx22=>
   (bG 3 aM v17.2 i18 0).bind λx23=>
   (idx x23 (IntKind.wrap .i64 ((x22.length:Int) - 1))).bind λx24=>
   (idx q20.1 r1.1).bind λx25=>
   et (decide ((Int.toNat r1.1)<q20.1.length))<|
   (cz 3 aM q20.2 p1 0 (List.set q20.1 (Int.toNat r1.1) x24)).bind λH26=>
   (bG 1 cP H26 p1 1).bind λx27=>
   (idx x27 r1.1).bind λx28=>
   (bG 3 aM H26 p1 0).bind λx29=>
   (idx x29 r1.1).bind λx30=>
   x28.bind λi31=>
   (rc p0 i31 x30 H26).bind λr32=>
   jp3 r32.2
  else
   (bG 1 cP H p1 1).bind λx33=>
   (idx x33 r1.1).bind λx34=>
   x34.bind λi35=>
   (rc p0 i35 p2 H).bind λr36=>
   jp3 r36.2
def hJ:Nat->(Nat->Nat->Entry->Hp->Option ((Unit)×Hp))
 |0=>λ_ _ _ _=>none
 |fuel+1=>fp fuel (hJ fuel)
theorem xy{fuel:Nat}{rc:(Nat->Nat->Entry->Hp->Option ((Unit)×Hp))}(ih: ∀{p0:Nat} {p1:Nat} {p2:Entry} {H:Hp} {r:(Unit)×Hp},rc p0 p1 p2 H=some r->SC Tryz.prog false 90 [.d (.ptr p0 0),.d (.ptr p1 0),.d (ab p2)] H (.g8 []) r.2){p0:Nat}{p1:Nat}{p2:Entry}{H:Hp}{r:(Unit)×Hp}(h:fp fuel rc p0 p1 p2 H=some r):SC Tryz.prog false 90 [.d (.ptr p0 0),.d (.ptr p1 0),.d (ab p2)] H (.g8 []) r.2:=by
 refine cf Tryz.func90 rfl ?_
 unfold fp at h
 exact aH 124 H (K18 p0 p1 [(2,lI p2)])<|au 1<|ax<|aa 3<|bI h λr1 hr h=>jf (ls:=[]) (vO hr)<|aa 5<|ak<|tu 124 [0,1,6] (λ(j2:Hp)=>(K18 p0 p1 [(6,vI r1.1)])) (λ(j2:Hp)=>j2) h (λj2 h=>an<|fM<|aF 3<|bI h λx37 hx h=>bm (aV hx)<|aF 1<|bI h λx38 hx h=>bm (s:=bc (some (.az p1 1)) [cP.enc x38]) (cr (n:=1) hx)<|aF 1<|bI h λi39 hp_i39 h=>bm (s:=.d (.ptr i39 0)) (ba hp_i39)<|aF 2<|bI h λx40 hx h=>bm (aV hx)<|bm (aG (enc:=ab) (xs:=x40))<|aF 1<|bI h λr41 hr h=>jN (ls:=[]) (kP hr)<|aF 1<|bF<|ag<|aQ h (λh=>ah<|aa 3<|bI h λr42 hr h=>bJ (Ar hr)<|ae<|iI h▸EN) (λh=>ao<|iI h▸EN)) λjp3 h=>aI<|ax<|aa 1<|bI h λr4 hr h=>jf (ls:=[]) (eC hr)<|aa 1<|ak<|aQ h (λh=>an<|au 1<|aQ h (λh=>ah<|aP [35] 5<|bI h λq5 hq h=>jn hq<|aP [35] 3<|bI h λr6 hr h=>eO 124 q5.2 (d:=some 39) (ls:=[]) (gs:=[(35,0)]) [0] [30,39] [(30,.d (.ptr p1 0)),(39,.own 3 (List.map ab r6))] (m6 hr) κ κ κ<|aP [35] 3<|bI h λH7 hx h=>fw 39 hx<|ak<|al<|aJ<|aq<|iI h▸E0) (λh=>ao<|ag<|al<|aJ<|aq<|iI h▸E0)) (λh=>au 1<|aQ h (λh=>ax<|aa 3<|bI h λx8 hx h=>aw (aV hx)<|aa 1<|bI h λx9 hx h=>aw (s:=bc (some (.az p1 1)) [cP.enc x9]) (cr (n:=1) hx)<|aa 2<|ak<|an<|aI<|bI h λv17 hit h=>mA 124 [0,1,6,8] (λy10=>(K18 p0 p1 [(6,vI r1.1),(8,.d (cP.enc y10.1))])) (λy10=>y10.2) (λv17 e s=>(e=.exit 1/\s=(sp 124 (K18 p0 p1 [(6,vI r1.1),(8,.d (cP.enc v17.1))]) v17.2))) hit κ (λy10 o h=>by unfold jq at h;exact an<|ax<|aU [] [0,1,6,8,52] 1<|bI h λi11 hp_i11 h=>bA y10.1 (λp=>(sp 124 (K18 p0 p1 [(6,vI r1.1),(8,.d (cP.enc p)),(52,.d (cP.enc p))]) y10.2)) κ hp_i11<|bI h λr12 hr h=>jf (ls:=[]) (eC hr)<|aa 1<|ak<|aQ h (λh=>ao<|ag<|aI<|hZ 12 κ κ<|bW 3<|bI h λx13 hx h=>cH (aV hx)<|bW 3<|bI h λx14 hx h=>cH (aV hx)<|cH (aG (enc:=cP.enc) (xs:=x14))<|bW 1<|bI h λx15 hx h=>cH (s:=bc (some (.az i11 1)) [cP.enc x15]) (cr (n:=1) hx)<|bW 1<|gI<|aa 1<|ae<|aL<|LQ h) (λh=>aH 124 y10.2 (K18 p0 p1 [(6,vI r1.1),(8,.d (.ptr i11 0))])<|bN<|aY<|aY<|LR h ⟨rfl,rfl⟩)) (by rintro _ _ ⟨rfl,rfl⟩;exact bq<|ag<|an<|bI h λi18 hp_i18 h=>bI h λi19 hp_i19 h=>bI h λq20 hq20 h=>bI h λx22 hx_15 h=>bI h λx23 hx_10 h=>bI h λx24 hx24 h=>bI h λx25 hx25 h=>nj h λhk_21 h=>bI h λH26 hH26 h=>aH 124 v17.2 (K18 p0 p1 [(6,vI r1.1),(8,.d (cP.enc v17.1))])<|mz p1 0 λv21=>fj [0,1,2,3,5,6,7,8,9,11,12,13,14,15,16,17,4,10,18,19] [20,21] κ κ<|aC<|aC<|aC<|aC<|aC<|aC<|cd (s:=.d (.ptr i18 0)) (ba hp_i18)<|aC<|aC<|aC<|cd (s:=.d (.ptr i19 0)) (ba hp_i19)<|aC<|du 124 (dY v17.2 p1 0 v21) [0,1,6,70,72,76,81] (K18 p0 p1 [(6,vI r1.1),(70,.d (.ptr p1 0)),(72,vI r1.1),(76,.d (.ptr i18 0)),(81,.d (.ptr i19 0))]) κ<|cd (s:=.bS (.az i19 0) 3 (List.map ab x22)) (pX (aV (c:=aM) hx_15 κ))<|cd (aG (enc:=ab) (xs:=x22))<|du 124 (dY v17.2 p1 0 v21) [0,1,6,70,72,76,84] (K18 p0 p1 [(6,vI r1.1),(70,.d (.ptr p1 0)),(72,vI r1.1),(76,.d (.ptr i18 0)),(84,CD x22)]) κ<|jO 124 (dY v17.2 p1 0 v21) (d:=some 71) (s:=.d (.raw v21)) [0,1,6,71,72,76,84] (K18 p0 p1 [(6,vI r1.1),(71,.d (.raw v21)),(72,vI r1.1),(76,.d (.ptr i18 0)),(84,CD x22)]) (gZ (c:=aM) (n':=3) hq20 κ) κ<|cd (s:=.bS (.az i18 0) 3 (List.map ab x23)) (pX (aV (c:=aM) hx_10 κ))<|cd (s:=bc (some (.az i18 0)) (ab x24).cells) (aB (n:=3) hx24)<|du 124 (dY v17.2 p1 0 v21) [0,1,6,71,72,86] (K18 p0 p1 [(6,vI r1.1),(71,.d (.raw v21)),(72,vI r1.1),(86,lI x24)]) κ<|dZ<|yt (c:=aM) (n':=3) (t:=71) [0,1,6,71,72,86] (K18 p0 p1 [(6,vI r1.1),(71,.mI v21 3 (List.map ab q20.1)),(72,vI r1.1),(86,lI x24)]) hq20 κ κ κ<|qd (s:=.ep 71 3 (Int.toNat r1.1)) [0,1,6,71,86,87] (Cn (enc:=ab) (xs:=q20.1) hx25)<|Ca (s:=71) (n:=3) (j:=(Int.toNat r1.1)) (enc:=ab) (xs:=q20.1) (x:=x24) (p:=(some v21)) 124 (wI q20.2 p1 0 v21) [0,1,6,71] (K18 p0 p1 [(6,vI r1.1),(71,.mI v21 3 (List.map ab (List.set q20.1 (Int.toNat r1.1) x24)))]) hk_21 κ κ<|yp (c:=aM) (n':=3) (s:=71) [0,1,6] (K18 p0 p1 [(6,vI r1.1)]) hH26 κ κ κ<|ak<|hZ 16 κ κ<|bW 4<|bI h λx27 hx h=>cH (aV hx)<|bW 1<|bI h λx28 hx h=>cH (s:=bc (some (.az p1 1)) [cP.enc x28]) (cr (n:=1) hx)<|bW 5<|bI h λx29 hx h=>cH (aV hx)<|bW 1<|bI h λx30 hx h=>cH (s:=bc (some (.az p1 0)) (ab x30).cells) (aB (n:=3) hx)<|pE [] [0,1,6,88,95,103] 1<|gI<|bI h λi31 hp_i31 h=>bA x28 (λp=>(sp 124 (K18 p0 p1 [(6,vI r1.1),(88,.d (.ptr p0 0)),(95,.d (cP.enc p)),(103,lI x30)]) H26)) κ hp_i31<|bI h λr32 hr h=>bJ (ih hr)<|ae<|aL<|JQ [] h)) (λh=>hZ 9 κ κ<|bW 4<|bI h λx33 hx h=>cH (aV hx)<|bW 1<|bI h λx34 hx h=>cH (s:=bc (some (.az p1 1)) [cP.enc x34]) (cr (n:=1) hx)<|pE [] [0,1,6,16,23,24] 2<|gI<|bI h λi35 hp_i35 h=>bA x34 (λp=>(sp 124 (K18 p0 p1 [(6,vI r1.1),(16,.d (.ptr p0 0)),(23,.d (cP.enc p)),(24,lI p2)]) H)) κ hp_i35<|bI h λr36 hr h=>bJ (ih hr)<|ae<|aL<|JQ [] h))
end
theorem Aq{fuel:Nat}: ∀{p0:Nat} {p1:Nat} {p2:Entry} {H:Hp} {r:(Unit)×Hp},hJ fuel p0 p1 p2 H=some r->SC Tryz.prog false 90 [.d (.ptr p0 0),.d (.ptr p1 0),.d (ab p2)] H (.g8 []) r.2:=by
 induction fuel with
 |zero=>intros;rename_i h;exact nomatch (show(none:Option ((Unit)×Hp))=some _ from h)
 |succ fuel ih=>exactλh=>xy ih h
def fq(fuel:Nat)(p0:Nat)(p1:Entry)(H:Hp):Option ((Unit)×Hp):=
 (bz cP.cell H p0 4).bind λx1=>
 x1.bind λi2=>
 (hJ fuel p0 i2 p1 H).bind λr3=>
 bp (λ(j4:Bool)=>
  bif j4 then
   (bz cP.cell r3.2 p0 4).bind λx12=>
   x12.bind λi13=>
   (bG 1 cP r3.2 i13 1).bind λx14=>
   (idx x14 0).bind λx15=>
   (dW cP r3.2 p0 4 x15).bind λH16=>
   (bz (cI .i64).cell H16 p0 6).bind λx17=>
   (dW (cI .i64) H16 p0 6 (IntKind.wrap .i64 (x17 - 1))).bind λH18=>
   some ((),H18)
  else
   (bz (cI .i64).cell r3.2 p0 6).bind λx19=>
   (dW (cI .i64) r3.2 p0 6 (IntKind.wrap .i64 (x19 - 1))).bind λH20=>
   some ((),H20)) λjp5=>
 (bz cP.cell r3.2 p0 4).bind λx6=>
 x6.bind λi7=>
 (bG 3 aM r3.2 i7 0).bind λx8=>
 bif ((x8.length:Int)==0)then
  (bz cP.cell r3.2 p0 4).bind λx9=>
  x9.bind λi10=>
  (cJ fuel i10 r3.2).bind λr11=>
  jp5 (!r11)
 else
  jp5 false
section
attribute [local irreducible] bX jR lM lQ SW uS
theorem qi(h:fq fuel p0 p1 H=some r):SC Tryz.prog false 66 [.d (.ptr p0 0),.d (ab p1)] H (.g8 []) r.2:=by
 refine cf Tryz.func66 rfl ?_
 unfold fq at h
 exact aH 48 H [(0,.d (.ptr p0 0)),(1,lI p1)]<|au 1<|an<|hZ 6 κ κ<|bW 4<|bI h λx1 hx h=>cH (s:=.d (cP.enc x1)) (aA hx)<|pE [] [0,4,8,9] 1<|gI<|bI h λi2 hp_i2 h=>bA x1 (λp=>(sp 48 [(0,.d (.ptr p0 0)),(4,.d (.ptr p0 0)),(8,.d (cP.enc p)),(9,lI p1)] H)) κ hp_i2<|bI h λr3 hr h=>bJ (Aq hr)<|ak<|an<|eb 48 r3.2 [0,28] (λ(j4:Bool)=>[(0,.d (.ptr p0 0)),(28,vB j4)]) h (λj4 h=>aQ h (λh=>ah<|aa 4<|bI h λx12 hx h=>aw (s:=.d (cP.enc x12)) (aA hx)<|bI h λi13 hp_i13 h=>aw (s:=.d (.ptr i13 0)) (ba hp_i13)<|aa 1<|bI h λx14 hx h=>aw (aV hx)<|bI h λx15 hx h=>aw (s:=bc (some (.az i13 1)) [cP.enc x15]) (cr (n:=1) hx)<|aU [] [0,38,40] 3<|bI h λH16 hx h=>DM 48 H16 [0] [(0,.d (.ptr p0 0))] hx κ κ<|ak<|ah<|aa 3<|bI h λx17 hx h=>aw (s:=vI x17) (aA hx)<|aa 3<|bI h λH18 hx h=>fW hx<|ae<|iI h▸EN) (λh=>ao<|ag<|ah<|aa 3<|bI h λx19 hx h=>aw (s:=vI x19) (aA hx)<|aa 3<|bI h λH20 hx h=>fW hx<|ae<|iI h▸EN)) λjp5 h=>ah<|aa 3<|bI h λx6 hx h=>aw (s:=.d (cP.enc x6)) (aA hx)<|bI h λi7 hp_i7 h=>aw (s:=.d (.ptr i7 0)) (ba hp_i7)<|aa 2<|bI h λx8 hx h=>aw (aV hx)<|aw (aG (enc:=ab) (xs:=x8))<|aU [] [0,21] 2<|bE (λb=>(sp 48 [(0,.d (.ptr p0 0)),(21,vB b)] r3.2)) h (λh=>aa 3<|bI h λx9 hx h=>qd (s:=.d (cP.enc x9)) [0,21,25] (aA hx)<|bI h λi10 hp_i10 h=>bA x9 (λp=>(sp 48 [(0,.d (.ptr p0 0)),(21,vB true),(25,.d (cP.enc p))] r3.2)) κ hp_i10<|bI h λr11 hr h=>jf (ls:=[]) (eC hr)<|aa 2<|ae<|JQ [] h) λh=>aa 7<|ae<|JQ [] h
noncomputable def gG (fuel:Nat) (p0:Nat) (p1:(List Value)) (p2:Int) (H:Hp):Option ((Int)×Hp):=
 (eD fuel p0 p1 p2 H).bind λr1=>
 bif (r1 !=0)then
  some (r1,H)
 else
  (gz fuel p0 p1 p2 H).bind λr2=>
  bif (!r2.1.2.2)then
   some (8,r2.2)
  else
   (fq fuel p0 r2.1.1 r2.2).bind λr3=>
   some (0,r3.2)
theorem xz(h:gG fuel p0 p1 p2 H=some r):SC Tryz.prog false 36 [.d (.ptr p0 0),.d (.list 3 (List.map ar p1)),vI p2] H (vI r.1) r.2:=by
 refine cf Tryz.func36 rfl ?_
 unfold gG at h
 exact aH 31 H (K32 p0 p1 p2 [])<|au 1<|an<|ax<|aa 3<|bI h λr1 hr h=>jf (ls:=[]) (fK hr)<|aa 1<|ak<|au 1<|aQ h (λh=>au 1<|al<|aq<|iI h▸E0) (λh=>ao<|ag<|ax<|aa 3<|bI h λr2 hr h=>bJ (lV hr)<|aa 8<|ak<|an<|au 1<|aQ h (λh=>au 1<|al<|aq<|iI h▸E0) (λh=>ao<|ag<|ax<|aa 2<|bI h λr3 hr h=>bJ (qi hr)<|ak<|au 1<|al<|iI h▸E0))
def iz(fuel:Nat)(p0:Tree)(p1:(List Value))(p2:Int)(y1:Int):Option ((Int)⊕((Unit)⊕((Int)))):=
 bif (decide (y1<(p0.ea.length:Int)))then
  (idx p0.ea y1).bind λx2=>
  bif (x2.Key==p2)then
   (idx p0.ea y1).bind λx3=>
   (jC fuel x3.Row p1).bind λr4=>
   bif r4 then
    some (.inr (.inr y1))
   else
    some (.inl (IntKind.wrap .i64 (y1+1)))
  else
   some (.inl (IntKind.wrap .i64 (y1+1)))
 else
  some (.inr (.inl ()))
def ly(fuel:Nat)(p0:Tree)(p1:(List Value))(p2:Int):Option (Int):=
 (iter (iz fuel p0 p1 p2) fuel 0).bind (Sum.elim (λv6=>
  some (-1)) (λr7=>
  some r7))
theorem oA(h:ly fuel p0 p1 p2=some r):PC Tryz.prog 57 [.d (jj p0),.d (.list 3 (List.map ar p1)),vI p2] (vI r):=by
 refine aW Tryz.func57 rfl λH=>?_
 unfold ly at h
 exact aH 34 H (K65 p0 p1 p2 [])<|au 1<|an<|au 1<|aI<|bI h λz5 hit h=>eY 34 H [1,2,3,7] (λy1=>(K43 p1 p2 p0 [(7,vI y1)])) (λb e s=>((∃v6,b=(.inl v6)/\(e=.exit 0/\s=(sp 34 [] H)))\/(∃r7,b=(.inr r7)/\(e=.ret/\dp Tryz.prog Tryz.f57.results.toList H (vI r7) .ret s)))) hit κ (λy1 o h=>by unfold iz at h;exact an<|ax<|aa 3<|aw (aG (enc:=ab) (xs:=p0.ea))<|aa 1<|ak<|aQ h (λh=>ao<|ag<|an<|aI<|ax<|aa 3<|bI h λx2 hx h=>aw (s:=bc none (ab x2).cells) (aB (n:=3) hx)<|aU [] [1,2,3,7,23] 5<|bE (λb=>(sp 34 (K43 p1 p2 p0 [(7,vI y1),(23,vB b)]) H)) h (λh=>aa 3<|bI h λx3 hx h=>aw (s:=bc none (ab x3).cells) (aB (n:=3) hx)<|aa 3<|bI h λr4 hr h=>bw (nN hr)<|aa 1<|ak<|aQ h (λh=>au 1<|al<|aJ<|aq<|aq<|LR h (.inr (⟨y1,rfl,rfl,dp.ret [] κ κ⟩))) (λh=>ao<|aL<|ag<|ah<|aa 3<|ae<|LQ h)) λh=>aa 9<|ak<|iV<|ao<|aL<|ag<|ah<|aa 3<|ae<|LQ h) (λh=>aH 34 H []<|bN<|aY<|aY<|LR h (.inl ⟨(),rfl,rfl,rfl⟩))) (by rintro _ _ (⟨v6,rfl,rfl,rfl⟩|⟨r7,rfl,rfl,hE⟩);exact have h:=jv h;bq<|ag<|au 1<|al<|iI h▸E0;exact have h:=ju h;aJ<|aq<|(by cases h;exact hE))
def gh(fuel:Nat)(p0:Tree)(p1:Int):Option (Tree):=
 et (m7 p0.ea 0 p1)<|
 et (decide ((([]:List Entry)++(sl p0.ea 0 p1)).length<=room))<|
 et (m7 p0.ea (IntKind.wrap .i64 (p1+1)) (p0.ea.length:Int))<|
 et (decide (((([]:List Entry)++(sl p0.ea 0 p1))++(sl p0.ea (IntKind.wrap .i64 (p1+1)) (p0.ea.length:Int))).length<=room))<|
 some (⟨p0.S,p0.Order,((([]:List Entry)++(sl p0.ea 0 p1))++(sl p0.ea (IntKind.wrap .i64 (p1+1)) (p0.ea.length:Int))),p0.gJ⟩:Tree)
def Uf(x0:Tree)(x1:Int):SV:=.box [.d (.list 1 (List.map (D.int .i64) x0.S.aD)),.d (.list 1 (List.map D.bool x0.S.Down)),vI x0.S.ee,vI x0.Order,.d (.list 3 (List.map ab ((([]:List Entry)++(sl x0.ea 0 x1))++(sl x0.ea (IntKind.wrap .i64 (x1+1)) (x0.ea.length:Int))))),vI x0.gJ]
theorem pJ(h:gh fuel p0 p1=some r):PC Tryz.prog 67 [.d (jj p0),vI p1] (.d (.agg [.list 1 (List.map (D.int .i64) r.S.aD),.list 1 (List.map D.bool r.S.Down),.int .i64 r.S.ee,.int .i64 r.Order,.list 3 (List.map ab r.ea),.int .i64 r.gJ])):=by
 refine aW Tryz.func67 rfl λH=>?_
 unfold gh at h
 exact aH 19 H [(0,yh p0),(1,vI p1)]<|au 1<|an<|nj h λhk1 h=>nj h λhk2 h=>nj h λhk3 h=>nj h λhk4 h=>aH 19 H [(1,vI p1),(2,pH p0),(4,qc)]<|jb 19 H [(2,Uf p0 p1),(4,qc)] [3,8] 12 264 κ κ κ (λX hX=>by subst hX;exact aC<|du 19 H [2,4,8,13] [(2,pH p0),(4,qc),(8,vI p1),(13,vI p1)] κ<|dZ<|mD [5,10] [(4,eV (nP none 3 (List.map ab (sl p0.ea 0 p1)))),(5,eA 5 3 (List.map ab (([]:List Entry)++(sl p0.ea 0 p1)))),(10,eV (nP none 3 (List.map ab (sl p0.ea (IntKind.wrap .i64 (p1+1)) (p0.ea.length:Int))))),(11,eA 10 3 (List.map ab ((([]:List Entry)++(sl p0.ea 0 p1))++(sl p0.ea (IntKind.wrap .i64 (p1+1)) (p0.ea.length:Int))))),(13,eF 16)] ⟨yz hk1,DV (bt) (bZ hk2),yz hk3,DV (bt) (bZ hk4),zr,trivial⟩) (ag<|au 1<|al<|iI h▸E0)
def kF(fuel:Nat)(p0:Tree)(p1:(List Value))(p2:Int):Option (Tree×Int):=
 bp (λ(j1:Bool)=>
  bif j1 then
   some (p0,1)
  else
   (ly fuel p0 p1 p2).bind λr5=>
   bif (decide (r5<0))then
    some (p0,8)
   else
    (gh fuel p0 r5).bind λr6=>
    some (r6,0)) λjp2=>
 (oo fuel p0.S p1).bind λr3=>
 bif (!r3)then
  jp2 true
 else
  (sI fuel p2).bind λr4=>
  jp2 (!r4)
theorem xH(h:kF fuel p0 p1 p2=some r):PC Tryz.prog 37 [.d (jj p0),.d (.list 3 (List.map ar p1)),vI p2] (.g8 [.d (.agg [.list 1 (List.map (D.int .i64) r.1.S.aD),.list 1 (List.map D.bool r.1.S.Down),.int .i64 r.1.S.ee,.int .i64 r.1.Order,.list 3 (List.map ab r.1.ea),.int .i64 r.1.gJ]),vI r.2]):=by
 refine aW Tryz.func37 rfl λH=>?_
 unfold kF at h
 exact aH 30 H (K65 p0 p1 p2 [])<|au 1<|an<|eb 30 H [1,2,3,6,18] (λ(j1:Bool)=>(K43 p1 p2 p0 [(6,qc),(18,vB j1)])) h (λj1 h=>aQ h (λh=>au 1<|al<|aq<|iI h▸E0) (λh=>ao<|ag<|ax<|aa 3<|bI h λr5 hr h=>bw (oA hr)<|aa 1<|ak<|an<|au 1<|aQ h (λh=>au 1<|al<|aq<|iI h▸E0) (λh=>ao<|ag<|ax<|aa 2<|bI h λr6 hr h=>bw (pJ hr)<|aa 2<|ak<|al<|iI h▸E0))) λjp2 h=>ah<|aa 3<|bI h λr3 hr h=>bw (mc hr)<|aU [] [1,2,3,6,14] 2<|bE (λb=>(sp 30 (K43 p1 p2 p0 [(6,qc),(14,vB b)]) H)) h (λh=>aa 4<|ae<|JQ [] h) λh=>aa 1<|bI h λr4 hr h=>bw (qp hr)<|aa 2<|ae<|JQ [] h
noncomputable def eG (fuel:Nat) (p0:Nat) (p1:(List Value)) (p2:Int) (p3:(List Value)) (H:Hp):Option ((Int)×Hp):=
 (eD fuel p0 p1 p2 H).bind λr1=>
 bp (λ(j2:Bool)=>
  bif j2 then
   some (1,H)
  else
   (gz fuel p0 p1 p2 H).bind λr6=>
   bp (λ(j7:Hp)=>
    (fq fuel p0 r6.1.1 j7).bind λr13=>
    (bz (cI .i64).cell r13.2 p0 5).bind λx14=>
    (dW (cI .i64) r13.2 p0 5 (IntKind.wrap .i64 (x14+1))).bind λH15=>
    (dv fuel p3).bind λr16=>
    (bz (cI .i64).cell H15 p0 5).bind λx17=>
    (ey fuel p0 (⟨r16,p2,x17⟩:Entry) H15).bind λr18=>
    some (0,r18.2)) λjp8=>
   bif (!r6.1.2.2)then
    some (8,r6.2)
   else
    (bz cV.cells r6.2 p0 0).bind λx9=>
    (oa fuel x9 p1 p3).bind λr10=>
    bif (r10==0)then
     some (0,r6.2)
    else
     (bz (cI .i64).cell r6.2 p0 2).bind λx11=>
     bif (x11==1)then
      (kW fuel p0 p3 r6.2).bind λr12=>
      bif r12.1 then
       some (6,r12.2)
      else
       jp8 r12.2
     else
      jp8 r6.2) λjp3=>
 bif (r1 !=0)then
  jp3 true
 else
  (bz cV.cells H p0 0).bind λx4=>
  (vb fuel x4 p3).bind λr5=>
  jp3 (!r5)
theorem zx(h:eG fuel p0 p1 p2 p3 H=some r):SC Tryz.prog false 38 [.d (.ptr p0 0),.d (.list 3 (List.map ar p1)),vI p2,.d (.list 3 (List.map ar p3))] H (vI r.1) r.2:=by
 refine cf Tryz.func38 rfl ?_
 unfold eG at h
 exact aH 80 H (K32 p0 p1 p2 [(3,Z9 p3)])<|au 1<|an<|ax<|aa 3<|bI h λr1 hr h=>jf (ls:=[]) (fK hr)<|aa 1<|ak<|eb 80 H [0,1,2,3,27] (λ(j2:Bool)=>(K32 p0 p1 p2 [(3,Z9 p3),(27,vB j2)])) h (λj2 h=>aQ h (λh=>au 1<|al<|aq<|iI h▸E0) (λh=>ao<|ag<|ax<|aa 3<|bI h λr6 hr h=>bJ (lV hr)<|aa 8<|ak<|tu 80 [0,2,3,10] (λ(j7:Hp)=>[(0,.d (.ptr p0 0)),(2,vI p2),(3,Z9 p3),(10,To r6)]) (λ(j7:Hp)=>j7) h (λj7 h=>ax<|aa 2<|bI h λr13 hr h=>bJ (qi hr)<|ak<|ax<|aa 3<|bI h λx14 hx h=>aw (s:=vI x14) (aA hx)<|aa 3<|bI h λH15 hx h=>fW hx<|ak<|an<|bI h λr16 hr_2 h=>bI h λx17 hx17 h=>bI h λr18 hr_9 h=>aH 80 H15 [(0,.d (.ptr p0 0)),(2,vI p2),(3,Z9 p3)]<|jb 80 r18.2 [] [0,1,3,4,5,6] 4 123 κ κ κ (λX hX=>by subst hX;exact aC<|aC<|aC<|aC<|aC<|du 80 H15 [70,71,73,76] [(70,.d (.ptr p0 0)),(71,Z9 p3),(73,vI p2),(76,.d (.ptr p0 5))] κ<|dZ<|mD [] [(2,eV _),(7,eV (vI x17)),(8,eF 72),(9,eH _ _)] ⟨zt (kj hr_2),uo (c:=(cI .i64).cell) hx17,zr,Ri (qj hr_9),trivial⟩) (ag<|au 1<|al<|iI h▸E0)) λjp8 h=>aI<|au 1<|aQ h (λh=>au 1<|al<|aJ<|aq<|iI h▸E0) (λh=>ax<|aa 3<|bI h λx9 hx h=>aw (s:=.d (.agg [.list 1 (List.map (D.int .i64) x9.aD),.list 1 (List.map D.bool x9.Down),.int .i64 x9.ee])) (aA hx)<|aa 2<|bI h λr10 hr h=>bw (lj hr)<|aa 2<|ak<|aQ h (λh=>au 1<|al<|aJ<|aq<|iI h▸E0) (λh=>ax<|aa 4<|bI h λx11 hx h=>aw (s:=vI x11) (aA hx)<|aU [] [0,2,3,10,55] 2<|bE (λb=>(sp 80 [(0,.d (.ptr p0 0)),(2,vI p2),(3,Z9 p3),(10,To r6),(55,vB b)] r6.2)) h (λh=>aa 2<|bI h λr12 hr h=>bJ (uE hr)<|aa 2<|ak<|aQ h (λh=>au 1<|al<|aJ<|aq<|iI h▸E0) (λh=>ao<|aL<|JQ [] h)) λh=>aa 5<|ak<|iV<|ao<|aL<|JQ [] h)))) λjp3 h=>ah<|aU [] [0,1,2,3,19] 3<|bE (λb=>(sp 80 (K32 p0 p1 p2 [(3,Z9 p3),(19,vB b)]) H)) h (λh=>aa 8<|ae<|JQ [] h) λh=>aa 3<|bI h λx4 hx h=>aw (s:=.d (.agg [.list 1 (List.map (D.int .i64) x4.aD),.list 1 (List.map D.bool x4.Down),.int .i64 x4.ee])) (aA hx)<|aa 1<|bI h λr5 hr h=>bw (xw hr)<|aa 2<|ae<|JQ [] h
def ma(fuel:Nat)(p0:Tree)(p1:(List Value))(p2:Int)(p3:(List Value)):Option (Tree×Int):=
 bp (λ(j1:Bool)=>
  bif j1 then
   some (p0,1)
  else
   (ly fuel p0 p1 p2).bind λr6=>
   bif (decide (r6<0))then
    some (p0,8)
   else
    (jC fuel p1 p3).bind λr7=>
    bif r7 then
     some (p0,0)
    else
     (gh fuel p0 r6).bind λr8=>
     (ja fuel r8 p3 p2).bind λr9=>
     bif (r9.2.2 !=0)then
      some (p0,r9.2.2)
     else
      some (r9.1,0)) λjp2=>
 (oo fuel p0.S p1).bind λr3=>
 bif (!r3)then
  jp2 true
 else
  (sI fuel p2).bind λr4=>
  bif (!r4)then
   jp2 true
  else
   (oo fuel p0.S p3).bind λr5=>
   jp2 (!r5)
theorem zE(h:ma fuel p0 p1 p2 p3=some r):PC Tryz.prog 39 [.d (jj p0),.d (.list 3 (List.map ar p1)),vI p2,.d (.list 3 (List.map ar p3))] (.g8 [.d (.agg [.list 1 (List.map (D.int .i64) r.1.S.aD),.list 1 (List.map D.bool r.1.S.Down),.int .i64 r.1.S.ee,.int .i64 r.1.Order,.list 3 (List.map ab r.1.ea),.int .i64 r.1.gJ]),vI r.2]):=by
 refine aW Tryz.func39 rfl λH=>?_
 unfold ma at h
 exact aH 60 H (K65 p0 p1 p2 [(3,Z9 p3)])<|au 1<|an<|eb 60 H [1,2,3,4,8,30] (λ(j1:Bool)=>[(1,Z9 p1),(2,vI p2),(3,Z9 p3),(4,pH p0),(8,qc),(30,vB j1)]) h (λj1 h=>aQ h (λh=>au 1<|al<|aq<|iI h▸E0) (λh=>ao<|ag<|ax<|aa 3<|bI h λr6 hr h=>bw (oA hr)<|aa 1<|ak<|an<|aI<|au 1<|aQ h (λh=>au 1<|al<|aJ<|aq<|iI h▸E0) (λh=>ax<|aa 2<|bI h λr7 hr h=>bw (nN hr)<|aa 1<|ak<|aQ h (λh=>au 1<|al<|aJ<|aq<|iI h▸E0) (λh=>ao<|aL<|ag<|ax<|aa 2<|bI h λr8 hr h=>bw (pJ hr)<|aa 2<|bI h λr9 hr h=>bw (qt hr)<|aa 8<|ak<|an<|au 1<|aQ h (λh=>au 1<|al<|aq<|iI h▸E0) (λh=>ao<|ag<|au 1<|al<|iI h▸E0))))) λjp2 h=>ah<|aa 3<|bI h λr3 hr h=>bw (mc hr)<|aU [] [1,2,3,4,8,19] 2<|bE (λb=>(sp 60 [(1,Z9 p1),(2,vI p2),(3,Z9 p3),(4,pH p0),(8,qc),(19,vB b)] H)) h (λh=>aa 11<|ae<|JQ [] h) λh=>aa 1<|bI h λr4 hr h=>bw (qp hr)<|aU [] [1,2,3,4,8,24] 3<|bE (λb=>(sp 60 [(1,Z9 p1),(2,vI p2),(3,Z9 p3),(4,pH p0),(8,qc),(24,vB b)] H)) h (λh=>aa 6<|ae<|JQ [] h) λh=>aa 3<|bI h λr5 hr h=>bw (mc hr)<|aa 2<|ae<|JQ [] h
def gR(fuel:Nat)(H:Hp)(y2:Int×(Option Nat)):Option ((Int×(Option Nat))⊕(Int)):=
 y2.2.bind λi3=>
 (cJ fuel i3 H).bind λr4=>
 bif (!r4)then
  (bG 1 cP H i3 1).bind λx5=>
  (idx x5 0).bind λx6=>
  some (.inl ((IntKind.wrap .i64 (y2.1+1)),x6))
 else
  some (.inr y2.1)
def iY(fuel:Nat)(p0:Nat)(H:Hp):Option (Int):=
 (bz cP.cell H p0 4).bind λx1=>
 (iter (gR fuel H) fuel (1,x1)).bind λv8=>
 some v8
theorem gQ(h:iY fuel p0 H=some r):SC Tryz.prog true 10 [.d (.ptr p0 0)] H (vI r) H:=by
 refine fN Tryz.func10 rfl ?_
 unfold iY at h
 exact aH 23 H [(0,.d (.ptr p0 0))]<|au 1<|an<|au 1<|iV<|ao<|ag<|au 1<|an<|ax<|aa 3<|bI h λx1 hx h=>aw (s:=.d (cP.enc x1)) (aA hx)<|aa 1<|ak<|aI<|bI h λv8 hit h=>eY 23 H [3,4] (λy2=>[(3,vI y2.1),(4,.d (cP.enc y2.2))]) (λv8 e s=>(e=.exit 0/\s=(sp 23 [(3,vI v8)] H))) hit κ (λy2 o h=>by unfold gR at h;exact an<|ax<|aU [] [3,4,11] 1<|bI h λi3 hp_i3 h=>bA y2.2 (λp=>(sp 23 [(3,vI y2.1),(4,.d (cP.enc p)),(11,.d (cP.enc p))] H)) κ hp_i3<|bI h λr4 hr h=>jf (ls:=[]) (eC hr)<|aa 1<|ak<|aQ h (λh=>ao<|ag<|an<|aI<|ah<|aa 3<|ae<|aL<|ag<|ah<|aa 3<|bI h λx5 hx h=>aw (aV hx)<|bI h λx6 hx h=>aw (s:=bc (some (.az i3 1)) [cP.enc x6]) (cr (n:=1) hx)<|aa 2<|ae<|LQ h) (λh=>aH 23 H [(3,vI y2.1)]<|bN<|aY<|aY<|LR h ⟨rfl,rfl⟩)) (by rintro _ _ ⟨rfl,rfl⟩;exact bq<|ag<|au 1<|al<|iI h▸E0)
structure Node where
 Level:Int
 Entries:(List Entry)
 Kids:(List Int)
 deriving DecidableEq,Inhabited
def b8(x:Node):D:=.agg [.int .i64 x.Level,.list 3 (List.map ab x.Entries),.list 1 (List.map (D.int .i64) x.Kids)]
def RM:Cl Node:=((cI .i64).one.pair ((cL 3 aM).one.pair (cL 1 (cI .i64)).one)).TD (λp=>(⟨p.1,p.2.1,p.2.2⟩:Node)) (λx=>(x.Level,x.Entries,x.Kids)) (λ_=>rfl) (λ_=>rfl)
def BU:Cd Node:=RM.agg
def zD(x:Node)(u:Go.Value):D:=.agg [.int .i64 x.Level,.list 3 (List.map ab x.Entries),.raw u]
def kH(l:List Node)(us:List Go.Value):KS:=List.zipWith (λx u=>(u,some x.Kids)) l us
def bM(l:List Node)(us:List Go.Value):List D:=List.zipWith zD l us
end
theorem sq{α β γ:Type}{f:α->β->γ}: ∀(l:List α) (us:List β) (i:Nat) (x:α) (u:β),List.zipWith f (l.set i x) (us.set i u)=(List.zipWith f l us).set i (f x u)
 |[],us,i,x,u=>by simp
 |a::l,[],i,x,u=>by simp
 |a::l,b::us,0,x,u=>by simp
 |a::l,b::us,i+1,x,u=>by simp[sq l us i x u]
theorem NO(h:us.length=l.length):(kH l us).length=l.length:=by simp[kH,h]
theorem sr(h:us.length=l.length):(bM l us).length=l.length:=by simp[bM,h]
def Tx(x0:Int):SV:=.box [vI x0,.d (.cm),.d (.cm)]
def KN(x0:Nat)(x1:(List Entry)):SV:=.bS (.az x0 0) 3 (List.map ab x1)
def Ux(x0:Entry):SV:=.box [.d (.list 3 (List.map ar x0.Row)),vI x0.Key,vI x0.Number]
def Jy(x0:Entry):SV:=.d (.agg [.list 3 (List.map ar x0.Row),.int .i64 x0.Key,.int .i64 x0.Number])
def HT(x0:Entry):SV:=.own 3 (List.map ab [x0])
def UA(x0:Int):SV:=.box [vI x0,.own 3 (List.map ab ([]:List Entry)),.d (.cm)]
def Sm(x0:Int×(List Entry)×Int):SV:=.box [vI x0.1,.own 3 (List.map ab x0.2.1),.d (.cm)]
def Uz(x0:Int×(List Entry)×Int)(x1:(List Entry)):SV:=vB (decide (x0.2.2<(x1.length:Int)))
def Sl(x0:Int×(List Entry)×Int):SV:=.box [vI x0.1,.undef,.d (.cm)]
def Cj(x0:Int×(List Entry)×Int):SV:=.own 3 (List.map ab x0.2.1)
def QN(x0:Int×(List Entry)×Int)(x1:Entry):SV:=.box [vI x0.1,.own 3 (List.map ab (x0.2.1++[x1])),.d (.cm)]
def QM(x0:Int×(List Entry)×Int)(x1:Entry):SV:=.own 3 (List.map ab (x0.2.1++[x1]))
def Uy(x0:Int×(List Entry)×Int):SV:=vI (IntKind.wrap .i64 (x0.2.2+1))
def gA(fuel:Nat)(x1:(List Entry))(y2:Int×(List Entry)×Int):Option ((Int×(List Entry)×Int)⊕(Int×(List Entry))):=
 bif (decide (y2.2.2<(x1.length:Int)))then
  (idx x1 y2.2.2).bind λx3=>
  (vL fuel x3).bind λr4=>
  et (decide ((y2.2.1++[r4]).length<=room))<|
  some (.inl (y2.1,(y2.2.1++[r4]),(IntKind.wrap .i64 (y2.2.2+1))))
 else
  some (.inr (y2.1,y2.2.1))
def yg(l:List Node)(j:Nat)(i:Int):Option (List Node):=match l[j]? with
 |some x=>et (decide ((x.Kids++[i]).length<=room)) (some (l.set j {x with Kids:=x.Kids++[i]}))
 |none=>none
theorem Ji(h:yg l j i=some l'): ∃x,l[j]? =some x/\decide ((x.Kids++[i]).length<=room)=true/\l'=l.set j {x with Kids:=x.Kids++[i]}:=by
 unfold yg at h
 split at h
 .rename_i x hx
  obtain⟨hk,h⟩:=wP h
  cases h
  exact⟨x,hx,hk,rfl⟩
 .cases h
def mV(rc:Nat->Int->List Node->Option (Int×List Node))(lv:Int)(at_:Nat)(ks:List (Option Nat))(y:Int×List Node):Option ((Int×List Node)⊕List Node):=
 cond (decide (y.1<(ks.length:Int))) ((idx ks y.1).bind λk=>k.bind λk=>(rc k (IntKind.wrap .i64 (lv - 1)) y.2).bind λr=>(yg r.2 at_ r.1).bind λl'=>some (.inl (IntKind.wrap .i64 (y.1+1),l'))) (some (.inr y.2))
def nD(fuel:Nat)(H:Hp):Nat->Nat->Int->List Node->Option (Int×List Node)
 |0,_,_,_=>none
 |s+1,p0,p1,l=>
  (bG 3 aM H p0 0).bind λx1=>
  (iter (gA fuel x1) fuel (p1,([]:List Entry),0)).bind λv7=>
  et (decide (l.length+1<=room))<|
  (bG 1 cP H p0 1).bind λks=>
  (iter (mV (nD fuel H s) p1 l.length ks) fuel (0,l++[⟨v7.1,v7.2,[]⟩])).bind λl'=>some ((l.length:Int),l')
def zJ(oi di:Nat):D:=.fn (.func 43) [] [.ptr oi 0,.ptr di 0]
def K0:=λa0 a1 a2 a3 a4 a5 a6 a7 (t:SL)=>((1,vI a0)::(2,.d (.ptr a1 0))::(3,.d (.ptr a2 0))::(7,vI (a3:Int))::(43,.bS (.az a4 1) 1 (List.map cP.enc a5))::(44,vI (a6:Int))::(45,vI a7)::t:SL)
def K2:=λa0 a1 a2 a3 a4 (t:SL)=>((0,.d (.ptr a0 0))::(1,vI a1)::(2,.d (.ptr a2 0))::(3,.d (.ptr a3 0))::(7,vI (a4:Int))::t:SL)
def K12:=λa0 a1 (t:SL)=>((0,.d (.ptr a0 0))::(1,vI a1)::t:SL)
def K17:=λa0 a1 a2 a3 a4 a5 a6 a7 a8 a9 (t:SL)=>((1,vI a0)::(2,.d (.ptr a1 0))::(3,.d (.ptr a2 0))::(7,vI (a3:Int))::(43,.bS (.az a4 1) 1 (List.map cP.enc a5))::(44,vI (a6:Int))::(45,vI a7)::(54,.d (.raw a8))::(55,vI (a9:Int))::t:SL)
def K20:=λa0 a1 a2 a3 a4 a5 a6 a7 a8 a9 (t:SL)=>((0,.d (.ptr a0 0))::(1,vI a1)::(2,.d (.ptr a2 0))::(3,.d (.ptr a3 0))::(7,vI (a4:Int))::(8,Sm a5)::(22,KN a6 a7)::(23,vI (a8:Int))::(24,vI a9)::t:SL)
def K27:=λa0 a1 a2 a3 (t:SL)=>((1,vI a0)::(2,.d (.ptr a1 0))::(3,.d (.ptr a2 0))::(7,vI (a3:Int))::t:SL)
def K28:=λa0 a1 a2 a3 a4 a5 a6 a7 a8 a9 (t:SL)=>((0,.d (.ptr a0 0))::(1,vI a1)::(2,.d (.ptr a2 0))::(3,.d (.ptr a3 0))::(7,vI (a4:Int))::(8,Sl a5)::(22,KN a6 a7)::(23,vI (a8:Int))::(24,vI a9)::t:SL)
def K56:=λa0 a1 a2 a3 a4 a5 a6 a7 a8 (t:SL)=>((1,vI a0)::(2,.d (.ptr a1 0))::(3,.d (.ptr a2 0))::(7,vI (a3:Int))::(43,.bS (.az a4 1) 1 (List.map cP.enc a5))::(44,vI (a6:Int))::(45,vI a7)::(55,vI (a8:Int))::t:SL)
def K72:=λa0 a1 a2 a3 a4 a5 a6 a7 a8 a9 a10 (t:SL)=>((0,.d (.ptr a0 0))::(1,vI a1)::(2,.d (.ptr a2 0))::(3,.d (.ptr a3 0))::(7,vI (a4:Int))::(8,Sm a5)::(10,Ux a6)::(22,KN a7 a8)::(23,vI (a9:Int))::(24,vI a10)::t:SL)
theorem FF{fuel oi di:Nat}{H:Hp}(hoi:H[oi]? =some .hole): ∀(s p0:Nat) (p1:Int) (l:List Node) (us:List Go.Value) (v:Go.Value) (q:Int×List Node),us.length=l.length->nD fuel H s p0 p1 l=some q->
  Uw Tryz.prog oi di (zJ oi di) 43 [.d (.ptr p0 0),vI p1,.d (.ptr oi 0),.d (.ptr di 0)] (H.set oi (.cells [.own 3 (bM l us)])) (v,kH l us)
   (λs' H' r=> ∃us',us'.length=q.2.length/\s'.2=kH q.2 us'/\H'=H.set oi (.cells [.own 3 (bM q.2 us')])/\r=q.1):=by
 intro s
 induction s with
 |zero=>intro p0 p1 l us v q _ h;cases h
 |succ s ih=>
  intro p0 p1 l us v q hlen h
  unfold nD at h
  obtain⟨x1,hx0,h1⟩:=cW h
  obtain⟨v7,hit0,h2⟩:=cW h1
  obtain⟨hroom0,h3⟩:=wP h2
  obtain⟨ks,hks,h4⟩:=cW h3
  obtain⟨lq,hit,h5⟩:=cW h4
  cases h5
  clear h h1 h2 h3 h4
  obtain⟨hx0',-⟩:=Dl (X:=.cells [.own 3 (bM l us)]) hx0 hoi
  have hHs:(H.set oi (.cells [.own 3 (bM l us)]))[oi]? =some (.cells [.own 3 (bM l us)]):=g_0 (aX hoi)
  have hroom:(bM l us++[D.agg [.int .i64 v7.1,.list 3 (List.map ab v7.2),.cm]]).length<=room:=by
   have:=of_decide_eq_true hroom0
   simp[sr hlen];omega
  simp only at ih ⊢
  refine Hz Tryz.func43 rfl rfl<|Ac 68 (H.set oi (.cells [.own 3 (bM l us)])) [0,1,2,3] (K12 p0 p1 [(2,.d (.ptr oi 0)),(3,.d (.ptr di 0))]) κ<|gq fh<|ka fh<|ah<|aK 1 (K12 p0 p1 [(2,.d (.ptr oi 0)),(3,.d (.ptr di 0))])<|ae<|ie<|gq fh<|ka fh<|ah<|
   bb (d:=some 14) (s:=.bS (.az oi 0) 3 (bM l us)) (K12 p0 p1 [(2,.d (.ptr oi 0)),(3,.d (.ptr di 0)),(14,.bS (.az oi 0) 3 (bM l us))]) (tI hHs rfl κ)<|aK 2 (K12 p0 p1 [(2,.d (.ptr oi 0)),(3,.d (.ptr di 0)),(7,vI ((bM l us).length:Int))])<|ae ?_
  rw[sr hlen]
  refine ie<|gq fh<|ka fh<|ah<|aK 4 (K2 p0 p1 oi di l.length [(8,Tx p1)])<|ae<|ie<|gq fh<|ka fh<|ax<|aK 4 (K2 p0 p1 oi di l.length [(8,Tx p1),(21,.d (.ptr p0 0))]) ?_
  refine bb (d:=some 22) (s:=.bS (.az p0 0) 3 (List.map ab x1)) (K2 p0 p1 oi di l.length [(8,Tx p1),(22,KN p0 x1)]) (aV (c:=aM) hx0' κ)<|bb (d:=some 23) (K2 p0 p1 oi di l.length [(8,Tx p1),(22,KN p0 x1),(23,vI (x1.length:Int))]) (aG (enc:=ab) (xs:=x1) κ)<|aK 1 (K2 p0 p1 oi di l.length [(8,Tx p1),(22,KN p0 x1),(23,vI (x1.length:Int)),(24,vI 0)])<|ak<|aI ?_
  refine OU 8 1 3 68 (H.set oi (.cells [.own 3 (bM l us)])) [0,1,2,3,7,8,22,23,24] (K2 p0 p1 oi di l.length [(8,UA p1),(22,KN p0 x1),(23,vI (x1.length:Int)),(24,vI 0)]) κ ?_
  refine eY 68 (H.set oi (.cells [.own 3 (bM l us)])) [0,1,2,3,7,8,22,23,24] (λy2=>(K2 p0 p1 oi di l.length [(8,.box [vI y2.1,.own 3 (List.map ab y2.2.1),.d (.cm)]),(22,KN p0 x1),(23,vI (x1.length:Int)),(24,vI y2.2.2)])) (λv7 e s=>(e=.exit 0/\s=(sp 68 (K2 p0 p1 oi di l.length [(8,.box [vI v7.1,.own 3 (List.map ab v7.2),.d (.cm)])]) (H.set oi (.cells [.own 3 (bM l us)]))))) hit0 κ (λy2 o h=>?_) ?_
  .unfold gA at h
   refine OY 1 (K20 p0 p1 oi di l.length y2 p0 x1 x1.length y2.2.2 [(25,Uz y2 x1)])<|an ?_
   refine B4 (decide (y2.2.2<(x1.length:Int))) (λhc=>?_) (λhc=>?_)
   .replace h:=fP hc h
    refine ao<|ag<|an<|aI<|ax ?_
    obtain⟨x3,hx,h⟩:=cW h
    refine bb (d:=some 26) (s:=bc (some (.az p0 0)) (ab x3).cells) (K20 p0 p1 oi di l.length y2 p0 x1 x1.length y2.2.2 [(26,.eS (.az p0 0) [.list 3 (List.map ar x3.Row),.int .i64 x3.Key,.int .i64 x3.Number])]) (aB (n:=3) hx κ)<|aK 3 (K72 p0 p1 oi di l.length y2 x3 p0 x1 x1.length y2.2.2 [])<|ak ?_
    obtain⟨r4,hr_3,h⟩:=cW h
    obtain⟨hk5,h⟩:=wP h
    refine EY 68 (H.set oi (.cells [.own 3 (bM l us)])) [0,1,2,3,7,8,10,22,23,24] (K72 p0 p1 oi di l.length y2 x3 p0 x1 x1.length y2.2.2 []) κ ?_
    refine OS 68 (H.set oi (.cells [.own 3 (bM l us)])) (K2 p0 p1 oi di l.length [(8,QN y2 r4),(22,KN p0 x1),(23,vI (x1.length:Int)),(24,vI y2.2.2)]) κ (λX hX=>?_) ?_
    .have c255:X 0 255 (sp 68 (K2 p0 p1 oi di l.length [(8,QN y2 r4),(22,KN p0 x1),(23,vI (x1.length:Int)),(24,vI y2.2.2)]) (H.set oi (.cells [.own 3 (bM l us)]))):=by subst hX;exact oI κ
     have c127:X 1 127 (sp 68 (K28 p0 p1 oi di l.length y2 p0 x1 x1.length y2.2.2 [(33,QM y2 r4),(34,.loc 8 1)]) (H.set oi (.cells [.own 3 (bM l us)]))):=by subst hX;exact aR 7 [] ⟨O9 68 (H.set oi (.cells [.own 3 (bM l us)])) [0,1,2,3,7,8,22,23,24] (K2 p0 p1 oi di l.length [(8,QN y2 r4),(22,KN p0 x1),(23,vI (x1.length:Int)),(24,vI y2.2.2)]) κ<|ae c255,trivial⟩
     have c63:X 2 63 (sp 68 (K28 p0 p1 oi di l.length y2 p0 x1 x1.length y2.2.2 [(33,QM y2 r4)]) (H.set oi (.cells [.own 3 (bM l us)]))):=by subst hX;exact aR 6 [] ⟨bf 68 (H.set oi (.cells [.own 3 (bM l us)])) [29] [0,1,2,3,7,8,22,23,24,33,34] 1 (K28 p0 p1 oi di l.length y2 p0 x1 x1.length y2.2.2 [(33,QM y2 r4),(34,.loc 8 1)]) κ<|ae c127,trivial⟩
     have c31:X 3 31 (sp 68 (K28 p0 p1 oi di l.length y2 p0 x1 x1.length y2.2.2 [(29,Cj y2),(32,HT r4)]) (H.set oi (.cells [.own 3 (bM l us)]))):=by subst hX;exact aR 5 [] ⟨n8 68 (H.set oi (.cells [.own 3 (bM l us)])) (s:=29) (d:=33) (w:=3) [0,1,2,3,7,8,22,23,24,33] (zs:=List.map ab (y2.2.1++[r4])) (K28 p0 p1 oi di l.length y2 p0 x1 x1.length y2.2.2 [(33,QM y2 r4)]) (ys:=(List.map ab [r4])) κ (bt) (bZ hk5) κ<|ae c63,trivial⟩
     have c15:X 4 15 (sp 68 (K28 p0 p1 oi di l.length y2 p0 x1 x1.length y2.2.2 [(29,Cj y2),(31,Jy r4)]) (H.set oi (.cells [.own 3 (bM l us)]))):=by subst hX;exact aR 4 [] ⟨bf 68 (H.set oi (.cells [.own 3 (bM l us)])) [29] [0,1,2,3,7,8,22,23,24,29,32] 1 (K28 p0 p1 oi di l.length y2 p0 x1 x1.length y2.2.2 [(29,Cj y2),(32,HT r4)]) κ<|ae c31,trivial⟩
     have c7:X 5 7 (sp 68 (K28 p0 p1 oi di l.length y2 p0 x1 x1.length y2.2.2 [(29,Cj y2),(30,Jy x3)]) (H.set oi (.cells [.own 3 (bM l us)]))):=by subst hX;exact aR 3 [] ⟨rU (some 31) (K28 p0 p1 oi di l.length y2 p0 x1 x1.length y2.2.2 [(29,Cj y2),(31,.d (.agg [.list 3 (List.map ar r4.Row),.int .i64 r4.Key,.int .i64 r4.Number]))]) (lS hr_3)<|ae c15,trivial⟩
     have c3:X 6 3 (sp 68 (K2 p0 p1 oi di l.length [(8,Sl y2),(10,Ux x3),(22,KN p0 x1),(23,vI (x1.length:Int)),(24,vI y2.2.2),(29,Cj y2)]) (H.set oi (.cells [.own 3 (bM l us)]))):=by subst hX;exact aR 2 [] ⟨bf 68 (H.set oi (.cells [.own 3 (bM l us)])) [29] [0,1,2,3,7,8,22,23,24,29,30] 1 (K28 p0 p1 oi di l.length y2 p0 x1 x1.length y2.2.2 [(29,Cj y2),(30,Jy x3)]) κ<|ae c7,trivial⟩
     have c29:X 4 29 (sp 68 (K20 p0 p1 oi di l.length y2 p0 x1 x1.length y2.2.2 [(28,.loc 8 1),(32,HT r4)]) (H.set oi (.cells [.own 3 (bM l us)]))):=by subst hX;exact aR 1 [] ⟨xa 68 (H.set oi (.cells [.own 3 (bM l us)])) [0,1,2,3,7,8,22,23,24,29,32] (K28 p0 p1 oi di l.length y2 p0 x1 x1.length y2.2.2 [(29,Cj y2),(32,HT r4)]) κ<|ae c31,trivial⟩
     have c13:X 5 13 (sp 68 (K20 p0 p1 oi di l.length y2 p0 x1 x1.length y2.2.2 [(28,.loc 8 1),(31,Jy r4)]) (H.set oi (.cells [.own 3 (bM l us)]))):=by subst hX;exact aR 1 [4] ⟨xa 68 (H.set oi (.cells [.own 3 (bM l us)])) [0,1,2,3,7,8,22,23,24,29,31] (K28 p0 p1 oi di l.length y2 p0 x1 x1.length y2.2.2 [(29,Cj y2),(31,Jy r4)]) κ<|ae c15,bf 68 (H.set oi (.cells [.own 3 (bM l us)])) [29] [0,1,2,3,7,8,22,23,24,28,32] 1 (K20 p0 p1 oi di l.length y2 p0 x1 x1.length y2.2.2 [(28,.loc 8 1),(32,HT r4)]) κ<|ae c29,trivial⟩
     have c5:X 6 5 (sp 68 (K20 p0 p1 oi di l.length y2 p0 x1 x1.length y2.2.2 [(28,.loc 8 1),(30,Jy x3)]) (H.set oi (.cells [.own 3 (bM l us)]))):=by subst hX;exact aR 1 [3] ⟨xa 68 (H.set oi (.cells [.own 3 (bM l us)])) [0,1,2,3,7,8,22,23,24,29,30] (K28 p0 p1 oi di l.length y2 p0 x1 x1.length y2.2.2 [(29,Cj y2),(30,Jy x3)]) κ<|ae c7,rU (some 31) (K20 p0 p1 oi di l.length y2 p0 x1 x1.length y2.2.2 [(28,.loc 8 1),(31,Jy r4)]) (lS hr_3)<|ae c13,trivial⟩
     have c1:X 7 1 (sp 68 (K72 p0 p1 oi di l.length y2 x3 p0 x1 x1.length y2.2.2 [(28,.loc 8 1)]) (H.set oi (.cells [.own 3 (bM l us)]))):=by subst hX;exact aR 1 [2] ⟨xa 68 (H.set oi (.cells [.own 3 (bM l us)])) [0,1,2,3,7,8,10,22,23,24,29] (K2 p0 p1 oi di l.length [(8,Sl y2),(10,Ux x3),(22,KN p0 x1),(23,vI (x1.length:Int)),(24,vI y2.2.2),(29,Cj y2)]) κ<|ae c3,bf 68 (H.set oi (.cells [.own 3 (bM l us)])) [29] [0,1,2,3,7,8,22,23,24,28,30] 1 (K20 p0 p1 oi di l.length y2 p0 x1 x1.length y2.2.2 [(28,.loc 8 1),(30,Jy x3)]) κ<|ae c5,trivial⟩
     have c28:X 5 28 (sp 68 (K20 p0 p1 oi di l.length y2 p0 x1 x1.length y2.2.2 [(32,HT r4)]) (H.set oi (.cells [.own 3 (bM l us)]))):=by subst hX;exact aR 0 [] ⟨bf 68 (H.set oi (.cells [.own 3 (bM l us)])) [29] [0,1,2,3,7,8,22,23,24,28,32] 1 (K20 p0 p1 oi di l.length y2 p0 x1 x1.length y2.2.2 [(28,.loc 8 1),(32,HT r4)]) κ<|ae c29,trivial⟩
     have c12:X 6 12 (sp 68 (K20 p0 p1 oi di l.length y2 p0 x1 x1.length y2.2.2 [(31,Jy r4)]) (H.set oi (.cells [.own 3 (bM l us)]))):=by subst hX;exact aR 0 [4] ⟨bf 68 (H.set oi (.cells [.own 3 (bM l us)])) [29] [0,1,2,3,7,8,22,23,24,28,31] 1 (K20 p0 p1 oi di l.length y2 p0 x1 x1.length y2.2.2 [(28,.loc 8 1),(31,Jy r4)]) κ<|ae c13,bf 68 (H.set oi (.cells [.own 3 (bM l us)])) [29] [0,1,2,3,7,8,22,23,24,32] 1 (K20 p0 p1 oi di l.length y2 p0 x1 x1.length y2.2.2 [(32,HT r4)]) κ<|ae c28,trivial⟩
     have c4:X 7 4 (sp 68 (K20 p0 p1 oi di l.length y2 p0 x1 x1.length y2.2.2 [(30,Jy x3)]) (H.set oi (.cells [.own 3 (bM l us)]))):=by subst hX;exact aR 0 [3] ⟨bf 68 (H.set oi (.cells [.own 3 (bM l us)])) [29] [0,1,2,3,7,8,22,23,24,28,30] 1 (K20 p0 p1 oi di l.length y2 p0 x1 x1.length y2.2.2 [(28,.loc 8 1),(30,Jy x3)]) κ<|ae c5,rU (some 31) (K20 p0 p1 oi di l.length y2 p0 x1 x1.length y2.2.2 [(31,Jy r4)]) (lS hr_3)<|ae c12,trivial⟩
     have c0:X 8 0 (sp 68 (K72 p0 p1 oi di l.length y2 x3 p0 x1 x1.length y2.2.2 []) (H.set oi (.cells [.own 3 (bM l us)]))):=by subst hX;exact aR 0 [2] ⟨bf 68 (H.set oi (.cells [.own 3 (bM l us)])) [29] [0,1,2,3,7,8,10,22,23,24,28] 1 (K72 p0 p1 oi di l.length y2 x3 p0 x1 x1.length y2.2.2 [(28,.loc 8 1)]) κ<|ae c1,bf 68 (H.set oi (.cells [.own 3 (bM l us)])) [29] [0,1,2,3,7,8,22,23,24,30] 1 (K20 p0 p1 oi di l.length y2 p0 x1 x1.length y2.2.2 [(30,Jy x3)]) κ<|ae c4,trivial⟩
     exact c0
    refine aL<|ag<|ah<|aK 2 (K2 p0 p1 oi di l.length [(8,QN y2 r4),(22,KN p0 x1),(23,vI (x1.length:Int)),(24,Uy y2)])<|ae ?_
    cases h
    exact⟨(y2.1,(y2.2.1++[r4]),(IntKind.wrap .i64 (y2.2.2+1))),rfl,κ⟩
   .replace h:=fQ hc h
    refine zm (K2 p0 p1 oi di l.length [(8,Sm y2)])<|bN<|aY ?_
    cases h
    refine aY ?_
    exact⟨_,rfl,⟨rfl,rfl⟩⟩
  .rintro _ _ ⟨rfl,rfl⟩
   refine bq<|ie ?_
   refine gq fh<|O5 fh 8 1 68 (H.set oi (.cells [.own 3 (bM l us)])) [0,1,2,3,7,8] (K2 p0 p1 oi di l.length [(8,.box [vI v7.1,.d (.list 3 (List.map ab v7.2)),.d (.cm)])]) κ<|rR<|oS fh κ<|HG (t:=36) (H0:=H.set oi (.cells [.own 3 (bM l us)])) (n:=3) (xs:=bM l us) κ hHs<|
    um 68 ((H.set oi (.cells [.own 3 (bM l us)])).set oi (.cells [.undef])) [0,1,2,3,7,8,36] (K2 p0 p1 oi di l.length [(8,.box [vI v7.1,.d (.list 3 (List.map ab v7.2)),.d (.cm)]),(36,.own 3 (bM l us))]) κ<|Fl.F fh (aK 1 (K2 p0 p1 oi di l.length [(36,.own 3 (bM l us)),(37,.d (.agg [.int .i64 v7.1,.list 3 (List.map ab v7.2),.cm]))])<|ae<|Fl.F fh (aK 1 (K2 p0 p1 oi di l.length [(36,.own 3 (bM l us)),(38,.own 3 [.agg [.int .i64 v7.1,.list 3 (List.map ab v7.2),.cm]])])<|ae<|Fl.F fh
    (n8 68 ((H.set oi (.cells [.own 3 (bM l us)])).set oi (.cells [.undef])) (s:=36) (d:=39) (w:=3) [0,1,2,3,7,39] (zs:=bM l us++[.agg [.int .i64 v7.1,.list 3 (List.map ab v7.2),.cm]]) (K2 p0 p1 oi di l.length [(39,.own 3 (bM l us++[.agg [.int .i64 v7.1,.list 3 (List.map ab v7.2),.cm]]))]) (ys:=[.agg [.int .i64 v7.1,.list 3 (List.map ab v7.2),.cm]]) κ rfl hroom κ<|ae<|
    oS fh κ<|HI (t:=39) (H0:=(H.set oi (.cells [.own 3 (bM l us)])).set oi (.cells [.undef])) (n:=3) (q:=2) (xs:=bM l us) (cs:=[.int .i64 v7.1,.list 3 (List.map ab v7.2),.cm]) κ (g_0 (aX hHs)) rfl (by rw[NO hlen,sr hlen]) λv1 u1=>?_)))
   have hH2: ∀X Y Z,((H.set oi X).set oi Y).set oi Z=H.set oi Z:=λX Y Z=>by simp
   have e1:kH l us++[(u1,some [])]=kH (l++[⟨v7.1,v7.2,[]⟩]) (us++[u1]):=by simp[kH,List.zipWith_append hlen.symm]
   have e2:bM l us++[.agg ([.int .i64 v7.1,.list 3 (List.map ab v7.2),.cm].set 2 (.raw u1))]=bM (l++[⟨v7.1,v7.2,[]⟩]) (us++[u1]):=by
    simp[bM,List.zipWith_append hlen.symm,zD]
   have hlen1:(us++[u1]).length=(l++[(⟨v7.1,v7.2,[]⟩:Node)]).length:=by simp[hlen]
   simp only[e1,e2]
   generalize us++[u1]=us1 at hlen1 ⊢
   generalize l++[(⟨v7.1,v7.2,[]⟩:Node)]=l1 at hlen1 hit ⊢
   clear e1 e2
   refine um 68 (((H.set oi (.cells [.own 3 (bM l us)])).set oi (.cells [.undef])).set oi (.cells [.own 3 (bM l1 us1)])) [0,1,2,3,7] (K2 p0 p1 oi di l.length []) κ ?_
   rw[hH2]
   refine Ci fh κ<|ie ?_
   obtain⟨hks',hpo⟩:=Dl (X:=.cells [.own 3 (bM l1 us1)]) hks hoi
   refine gq fh<|gq fh<|ka fh<|ah<|aK 3 (K27 p1 oi di l.length [(42,.d (.ptr p0 1))])<|
    bb (d:=some 43) (s:=.bS (.az p0 1) 1 (List.map cP.enc ks)) (K27 p1 oi di l.length [(43,.bS (.az p0 1) 1 (List.map cP.enc ks))]) (aV (c:=cP) hks' κ)<|bb (d:=some 44) (K27 p1 oi di l.length [(43,.bS (.az p0 1) 1 (List.map cP.enc ks)),(44,vI (ks.length:Int))]) (aG (enc:=cP.enc) (xs:=ks) κ)<|aK 1 (K27 p1 oi di l.length [(43,.bS (.az p0 1) 1 (List.map cP.enc ks)),(44,vI (ks.length:Int)),(45,vI 0)])<|ae<|ie<|B7<|
    O4 fh (λ(y:Int×List Node) s st=> ∃us',us'.length=y.2.length/\s.2=kH y.2 us'/\st=sp 68 (K0 p1 oi di l.length p0 ks ks.length y.1 []) (H.set oi (.cells [.own 3 (bM y.2 us')])))
     (λl' s e st=>e=.exit 2/\ ∃us',us'.length=l'.length/\s.2=kH l' us'/\st=sp 68 [(7,vI (l.length:Int))] (H.set oi (.cells [.own 3 (bM l' us')]))) hit ⟨us1,hlen1,rfl,rfl⟩ (λx o s st hI ho=>?_) (λs' e st' hE=>?_)
   .obtain⟨y,l2⟩:=x
    obtain⟨us2,hlen2,hs2,rfl⟩:=hI
    obtain⟨v2,k2⟩:=s
    cases hs2
    unfold mV at ho
    simp only at ho hlen2 ⊢
    refine gq fh<|ka fh<|ah<|aK 1 (K0 p1 oi di l.length p0 ks ks.length y [(46,vB (decide (y<(ks.length:Int))))])<|ae<|ie<|gq fh<|Mi (v:=decide (y<(ks.length:Int))) κ ?_
    cases hd:decide (y<(ks.length:Int))with
    |false=>
     rw[hd]at ho
     simp only[cond_false,g_4]at ho
     refine Ac 68 (H.set oi (.cells [.own 3 (bM l2 us2)])) [7] [(7,vI (l.length:Int))] κ<|ka fh λa w g hr=>wp_exit ⟨_,g,?_,hr,Fr.refl _ _ _⟩
     exact⟨l2,ho.symm,rfl,us2,hlen2,rfl,rfl⟩
    |true=>
     rw[hd]at ho
     simp only[cond_true]at ho
     obtain⟨k0,hk0,ho1⟩:=cW ho
     obtain⟨k,rfl,ho2⟩:=cW ho1
     obtain⟨r,hrec,ho3⟩:=cW ho2
     obtain⟨l3,hadd,ho4⟩:=cW ho3
     simp only[g_4]at ho4
     refine Ac 68 (H.set oi (.cells [.own 3 (bM l2 us2)])) [1,2,3,7,43,44,45] (K0 p1 oi di l.length p0 ks ks.length y []) κ<|ka fh λa w g hr=>wp_skip ⟨_,g,?_,hr,Fr.refl _ _ _⟩
     refine ie<|gq fh<|B7<|gq fh<|ka fh<|ah<|bb (d:=some 47) (s:=.eS (.az p0 1) [cP.enc (some k)]) (K0 p1 oi di l.length p0 ks ks.length y [(47,.eS (.az p0 1) [cP.enc (some k)])]) (cr (l:=some (.az p0 1)) (n:=1) hk0 κ)<|
      aK 2 (K27 p1 oi di l.length [(12,.d (.ptr k 0)),(43,.bS (.az p0 1) 1 (List.map cP.enc ks)),(44,vI (ks.length:Int)),(45,vI y)])<|ae<|ie<|gq fh<|rR<|oS fh κ<|lh (o':=some 49) κ<|um 68 (H.set oi (.cells [.own 3 (bM l2 us2)])) [1,2,3,7,12,43,44,45,49] (K27 p1 oi di l.length [(12,.d (.ptr k 0)),(43,.bS (.az p0 1) 1 (List.map cP.enc ks)),(44,vI (ks.length:Int)),(45,vI y),(49,.d (zJ oi di))]) κ<|
      Fl.F fh (aK 1 (K0 p1 oi di l.length p0 ks ks.length y [(49,.d (zJ oi di)),(50,.d (.ptr k 0))])<|ae<|Fl.F fh (aK 1 (K0 p1 oi di l.length p0 ks ks.length y [(49,.d (zJ oi di)),(50,.d (.ptr k 0)),(51,vI p1)])<|ae<|Fl.F fh (aK 1 (K0 p1 oi di l.length p0 ks ks.length y [(49,.d (zJ oi di)),(50,.d (.ptr k 0)),(52,vI (IntKind.wrap .i64 (p1 - 1)))])<|ae<|
      oS fh κ<|zp (o':=some 53) (ih k (IntKind.wrap .i64 (p1 - 1)) l2 us2 v2 r hlen2 hrec) κ (xA (by simp[K0,K12,K17,K2,K20,K27,K28,K56,K72,pf,hpo,vI,vB]) rfl) λs3 H3 r3 hP=>?_)))
     obtain⟨us3,hlen3,hs3,rfl,rfl⟩:=hP
     obtain⟨v3,k3⟩:=s3
     cases hs3
     refine um 68 (H.set oi (.cells [.own 3 (bM r.2 us3)])) [1,2,3,7,43,44,45,53] (K0 p1 oi di l.length p0 ks ks.length y [(53,vI r.1)]) κ<|Fl.F fh (aK 1 (K27 p1 oi di l.length [(13,vI r.1),(43,.bS (.az p0 1) 1 (List.map cP.enc ks)),(44,vI (ks.length:Int)),(45,vI y)])<|ae<|Ci fh κ<|ie ?_)
     obtain⟨x3,hx3,hroom3,rfl⟩:=Ji hadd
     have hj:l.length<us3.length:=by rw[hlen3];exact aX hx3
     obtain⟨u3,hu3⟩: ∃u,us3[l.length]? =some u:=⟨us3[l.length],h_6 hj⟩
     have hxs:(bM r.2 us3)[l.length]? =some (zD x3 u3):=by simp[bM,List.getElem?_zipWith,hx3,hu3]
     have hks3:(kH r.2 us3)[l.length]? =some (u3,some x3.Kids):=by simp[kH,List.getElem?_zipWith,hx3,hu3]
     have hH3:(H.set oi (.cells [.own 3 (bM r.2 us3)]))[oi]? =some (.cells [.own 3 (bM r.2 us3)]):=g_0 (aX hoi)
     have hne3:bM r.2 us3≠[]:=λe=>by rw[e]at hxs;simp at hxs
     refine w6 κ fh ?_
     refine dQ (H:=H.set oi (.cells [.own 3 (bM r.2 us3)])) (s:=(v3,(kH r.2 us3).set l.length (u3,none))) 3 1023 68 (K17 p1 oi di l.length p0 ks ks.length y v3 l.length [(63,.own 1 ((x3.Kids++[r.1]).map (D.int .i64)))]) ?_ λc9=>?_
     .refine cF fh (i0:=10) (is:=[]) κ ⟨CI (o':=some 64) (n:=3) (xs:=bM r.2 us3) (j:=(l.length:Int)) κ hH3 ω (by simpa using aX hxs)<|ku 68 (H.set oi (.cells [.own 3 (bM r.2 us3)])) [1,2,3,7,43,44,45,63,64] (K0 p1 oi di l.length p0 ks ks.length y [(63,.own 1 ((x3.Kids++[r.1]).map (D.int .i64))),(64,.d (.raw (uA v3 ((l.length:Int).toNat * 3))))]) κ<|
       cF fh (i0:=11) (is:=[]) κ ⟨Fi (o':=some 65) (n:=3) (m:=(l.length:Int).toNat * 3) (fo:=2) (xs:=bM r.2 us3) κ hH3 hne3<|ku 68 (H.set oi (.cells [.own 3 (bM r.2 us3)])) [1,2,3,7,43,44,45,63,65] (K0 p1 oi di l.length p0 ks ks.length y [(63,.own 1 ((x3.Kids++[r.1]).map (D.int .i64))),(65,.d (.raw (uA v3 ((l.length:Int).toNat * 3+2))))]) κ<|
       cF fh (i0:=12) (is:=[]) κ ⟨HJ (p:=(l.length:Int).toNat) (q:=2) (n:=3) (s0:=63) (xs:=bM r.2 us3) (cs:=[.int .i64 x3.Level,.list 3 (List.map ab x3.Entries),.raw u3]) (ks:=x3.Kids++[r.1]) κ hH3 hxs ψ (xA (by simp[K0,K12,K17,K2,K20,K27,K28,K56,K72,pf,hpo,vI,vB]) rfl) λu4=>?_,trivial⟩,trivial⟩,trivial⟩
      refine KI fh κ ?_
      refine Oz<|ie ?_
      refine Ac 68 ((H.set oi (.cells [.own 3 (bM r.2 us3)])).set oi (.cells [.own 3 ((bM r.2 us3).set (l.length:Int).toNat (.agg ([.int .i64 x3.Level,.list 3 (List.map ab x3.Entries),.raw u3].set 2 (.raw u4))))])) [1,2,3,7,43,44,45] (K0 p1 oi di l.length p0 ks ks.length y []) κ ?_
      rw[m_7]
      have e3:(bM r.2 us3).set (l.length:Int).toNat (.agg ([.int .i64 x3.Level,.list 3 (List.map ab x3.Entries),.raw u3].set 2 (.raw u4)))=bM (r.2.set l.length {x3 with Kids:=x3.Kids++[r.1]}) (us3.set l.length u4):=by
       simp only[bM,sq]
       rfl
      have e4:(kH r.2 us3).set (l.length:Int).toNat (u4,some (x3.Kids++[r.1]))=kH (r.2.set l.length {x3 with Kids:=x3.Kids++[r.1]}) (us3.set l.length u4):=by
       simp only[kH,sq]
       rfl
      have e5:(l.length:Int).toNat=l.length:=rfl
      rw[e3]
      refine ka fh<|ah<|aK 2 (K27 p1 oi di l.length [(43,.bS (.az p0 1) 1 (List.map cP.enc ks)),(44,vI (ks.length:Int)),(45,vI (IntKind.wrap .i64 (y+1)))])<|ae ?_
      exact⟨_,ho4.symm,68,[1,2,3,7,43,44,45],_,_,κ,us3.set l.length u4,by simp[hlen3],(by
       show List.set (List.set (kH r.2 us3) l.length (u3,none)) (l.length:Int).toNat _=_
       rw[e5,m_7]
       exact e4),rfl⟩
     refine dQ (H:=H.set oi (.cells [.own 3 (bM r.2 us3)])) (s:=(v3,(kH r.2 us3).set l.length (u3,none))) 4 1022 68 (K56 p1 oi di l.length p0 ks ks.length y l.length [(63,.own 1 ((x3.Kids++[r.1]).map (D.int .i64)))]) (cF fh (i0:=0) (is:=[]) κ ⟨ia (o':=some 54) κ<|ku 68 (H.set oi (.cells [.own 3 (bM r.2 us3)])) [1,2,3,7,43,44,45,54,55,63] (K17 p1 oi di l.length p0 ks ks.length y v3 l.length [(63,.own 1 ((x3.Kids++[r.1]).map (D.int .i64)))]) κ<|bT c9,trivial⟩) λc8=>?_
     refine dQ (H:=H.set oi (.cells [.own 3 (bM r.2 us3)])) (s:=(v3,kH r.2 us3)) 4 511 68 (K17 p1 oi di l.length p0 ks ks.length y v3 l.length [(60,.d (.raw u3)),(62,.own 1 (List.map (D.int .i64) [r.1]))]) (cF fh (i0:=9) (is:=[]) κ ⟨zo (t:=60) (p:=l.length) (u:=u3) (ks:=x3.Kids) κ hks3 (xA (by simp[K0,K12,K17,K2,K20,K27,K28,K56,K72,pf,hpo,vI,vB]) rfl) hH3<|HH 68 (H.set oi (.cells [.own 3 (bM r.2 us3)])) [1,2,3,7,43,44,45,54,55,60,62] (K17 p1 oi di l.length p0 ks ks.length y v3 l.length [(60,.own 1 (List.map (D.int .i64) x3.Kids)),(62,.own 1 (List.map (D.int .i64) [r.1]))]) κ<|dn fh (n8 68 (H.set oi (.cells [.own 3 (bM r.2 us3)])) (s:=60) (d:=63) (w:=1) [1,2,3,7,43,44,45,54,55,63] (zs:=List.map (D.int .i64) (x3.Kids++[r.1])) (K17 p1 oi di l.length p0 ks ks.length y v3 l.length [(63,.own 1 ((x3.Kids++[r.1]).map (D.int .i64)))]) (ys:=List.map (D.int .i64) [r.1]) κ (bt) (bZ hroom3) κ<|ae<|bT c9),trivial⟩) λc121=>?_
     refine dQ (H:=H.set oi (.cells [.own 3 (bM r.2 us3)])) (s:=(v3,kH r.2 us3)) 5 255 68 (K17 p1 oi di l.length p0 ks ks.length y v3 l.length [(60,.d (.raw u3)),(61,vI r.1)]) (cF fh (i0:=8) (is:=[]) κ ⟨dn fh (aK 1 (K17 p1 oi di l.length p0 ks ks.length y v3 l.length [(60,.d (.raw u3)),(62,.own 1 (List.map (D.int .i64) [r.1]))])<|ae<|bT c121),trivial⟩) λc120=>?_
     refine dQ (H:=H.set oi (.cells [.own 3 (bM r.2 us3)])) (s:=(v3,kH r.2 us3)) 5 447 68 (K17 p1 oi di l.length p0 ks ks.length y v3 l.length [(59,.eS (.az oi 0) [.raw u3]),(62,.own 1 (List.map (D.int .i64) [r.1]))]) (cF fh (i0:=6) (is:=[]) κ ⟨dn fh (aK 1 (K17 p1 oi di l.length p0 ks ks.length y v3 l.length [(60,.d (.raw u3)),(62,.own 1 (List.map (D.int .i64) [r.1]))])<|ae<|bT c121),trivial⟩) λc111=>?_
     refine dQ (H:=H.set oi (.cells [.own 3 (bM r.2 us3)])) (s:=(v3,kH r.2 us3)) 6 191 68 (K17 p1 oi di l.length p0 ks ks.length y v3 l.length [(59,.eS (.az oi 0) [.raw u3]),(61,vI r.1)]) (cF fh (i0:=6) (is:=[8]) κ ⟨dn fh (aK 1 (K17 p1 oi di l.length p0 ks ks.length y v3 l.length [(60,.d (.raw u3)),(61,vI r.1)])<|ae<|bT c120),dn fh (aK 1 (K17 p1 oi di l.length p0 ks ks.length y v3 l.length [(59,.eS (.az oi 0) [.raw u3]),(62,.own 1 (List.map (D.int .i64) [r.1]))])<|ae<|bT c111),trivial⟩) λc110=>?_
     refine dQ (H:=H.set oi (.cells [.own 3 (bM r.2 us3)])) (s:=(v3,kH r.2 us3)) 8 395 68 (K17 p1 oi di l.length p0 ks ks.length y v3 l.length [(57,vI (l.length:Int)),(62,.own 1 (List.map (D.int .i64) [r.1]))]) (cF fh (i0:=2) (is:=[]) κ ⟨dn fh (bb (d:=some 56) (s:=.bS (.az oi 0) 3 (bM r.2 us3)) (K17 p1 oi di l.length p0 ks ks.length y v3 l.length [(56,.bS (.az oi 0) 3 (bM r.2 us3)),(57,vI (l.length:Int)),(62,.own 1 (List.map (D.int .i64) [r.1]))]) (tI hH3 rfl κ)<|ae<|HQ (dd:=some 58) (x:=.eS (.az oi 0) (zD x3 u3).cells) 4 (K17 p1 oi di l.length p0 ks ks.length y v3 l.length [(58,.eS (.az oi 0) (zD x3 u3).cells),(62,.own 1 (List.map (D.int .i64) [r.1]))]) (xi (l:=some (.az oi 0)) (n:=3) (j:=(l.length:Int)) κ ω hxs)<|tG 5 (K17 p1 oi di l.length p0 ks ks.length y v3 l.length [(59,.eS (.az oi 0) [.raw u3]),(62,.own 1 (List.map (D.int .i64) [r.1]))])<|bT c111),trivial⟩) λc101=>?_
     refine dQ (H:=H.set oi (.cells [.own 3 (bM r.2 us3)])) (s:=(v3,kH r.2 us3)) 9 139 68 (K17 p1 oi di l.length p0 ks ks.length y v3 l.length [(57,vI (l.length:Int)),(61,vI r.1)]) (cF fh (i0:=2) (is:=[8]) κ ⟨dn fh (bb (d:=some 56) (s:=.bS (.az oi 0) 3 (bM r.2 us3)) (K17 p1 oi di l.length p0 ks ks.length y v3 l.length [(56,.bS (.az oi 0) 3 (bM r.2 us3)),(57,vI (l.length:Int)),(61,vI r.1)]) (tI hH3 rfl κ)<|ae<|HQ (dd:=some 58) (x:=.eS (.az oi 0) (zD x3 u3).cells) 4 (K17 p1 oi di l.length p0 ks ks.length y v3 l.length [(58,.eS (.az oi 0) (zD x3 u3).cells),(61,vI r.1)]) (xi (l:=some (.az oi 0)) (n:=3) (j:=(l.length:Int)) κ ω hxs)<|tG 5 (K17 p1 oi di l.length p0 ks ks.length y v3 l.length [(59,.eS (.az oi 0) [.raw u3]),(61,vI r.1)])<|bT c110),dn fh (aK 1 (K17 p1 oi di l.length p0 ks ks.length y v3 l.length [(57,vI (l.length:Int)),(62,.own 1 (List.map (D.int .i64) [r.1]))])<|ae<|bT c101),trivial⟩) λc100=>?_
     refine dQ (H:=H.set oi (.cells [.own 3 (bM r.2 us3)])) (s:=(v3,kH r.2 us3)) 5 510 68 (K56 p1 oi di l.length p0 ks ks.length y l.length [(60,.d (.raw u3)),(62,.own 1 (List.map (D.int .i64) [r.1]))]) (cF fh (i0:=0) (is:=[9]) κ ⟨ia (o':=some 54) κ<|ku 68 (H.set oi (.cells [.own 3 (bM r.2 us3)])) [1,2,3,7,43,44,45,54,55,60,62] (K17 p1 oi di l.length p0 ks ks.length y v3 l.length [(60,.d (.raw u3)),(62,.own 1 (List.map (D.int .i64) [r.1]))]) κ<|bT c121,zo (t:=60) (p:=l.length) (u:=u3) (ks:=x3.Kids) κ hks3 (xA (by simp[K0,K12,K17,K2,K20,K27,K28,K56,K72,pf,hpo,vI,vB]) rfl) hH3<|HH 68 (H.set oi (.cells [.own 3 (bM r.2 us3)])) [1,2,3,7,43,44,45,55,60,62] (K56 p1 oi di l.length p0 ks ks.length y l.length [(60,.own 1 (List.map (D.int .i64) x3.Kids)),(62,.own 1 (List.map (D.int .i64) [r.1]))]) κ<|dn fh (n8 68 (H.set oi (.cells [.own 3 (bM r.2 us3)])) (s:=60) (d:=63) (w:=1) [1,2,3,7,43,44,45,55,63] (zs:=List.map (D.int .i64) (x3.Kids++[r.1])) (K56 p1 oi di l.length p0 ks ks.length y l.length [(63,.own 1 ((x3.Kids++[r.1]).map (D.int .i64)))]) (ys:=List.map (D.int .i64) [r.1]) κ (bt) (bZ hroom3) κ<|ae<|bT c8),trivial⟩) λc021=>?_
     refine dQ (H:=H.set oi (.cells [.own 3 (bM r.2 us3)])) (s:=(v3,kH r.2 us3)) 6 254 68 (K56 p1 oi di l.length p0 ks ks.length y l.length [(60,.d (.raw u3)),(61,vI r.1)]) (cF fh (i0:=0) (is:=[8]) κ ⟨ia (o':=some 54) κ<|ku 68 (H.set oi (.cells [.own 3 (bM r.2 us3)])) [1,2,3,7,43,44,45,54,55,60,61] (K17 p1 oi di l.length p0 ks ks.length y v3 l.length [(60,.d (.raw u3)),(61,vI r.1)]) κ<|bT c120,dn fh (aK 1 (K56 p1 oi di l.length p0 ks ks.length y l.length [(60,.d (.raw u3)),(62,.own 1 (List.map (D.int .i64) [r.1]))])<|ae<|bT c021),trivial⟩) λc020=>?_
     refine dQ (H:=H.set oi (.cells [.own 3 (bM r.2 us3)])) (s:=(v3,kH r.2 us3)) 6 446 68 (K56 p1 oi di l.length p0 ks ks.length y l.length [(59,.eS (.az oi 0) [.raw u3]),(62,.own 1 (List.map (D.int .i64) [r.1]))]) (cF fh (i0:=0) (is:=[6]) κ ⟨ia (o':=some 54) κ<|ku 68 (H.set oi (.cells [.own 3 (bM r.2 us3)])) [1,2,3,7,43,44,45,54,55,59,62] (K17 p1 oi di l.length p0 ks ks.length y v3 l.length [(59,.eS (.az oi 0) [.raw u3]),(62,.own 1 (List.map (D.int .i64) [r.1]))]) κ<|bT c111,dn fh (aK 1 (K56 p1 oi di l.length p0 ks ks.length y l.length [(60,.d (.raw u3)),(62,.own 1 (List.map (D.int .i64) [r.1]))])<|ae<|bT c021),trivial⟩) λc011=>?_
     refine dQ (H:=H.set oi (.cells [.own 3 (bM r.2 us3)])) (s:=(v3,kH r.2 us3)) 7 190 68 (K56 p1 oi di l.length p0 ks ks.length y l.length [(59,.eS (.az oi 0) [.raw u3]),(61,vI r.1)]) (cF fh (i0:=0) (is:=[6,8]) κ ⟨ia (o':=some 54) κ<|ku 68 (H.set oi (.cells [.own 3 (bM r.2 us3)])) [1,2,3,7,43,44,45,54,55,59,61] (K17 p1 oi di l.length p0 ks ks.length y v3 l.length [(59,.eS (.az oi 0) [.raw u3]),(61,vI r.1)]) κ<|bT c110,dn fh (aK 1 (K56 p1 oi di l.length p0 ks ks.length y l.length [(60,.d (.raw u3)),(61,vI r.1)])<|ae<|bT c020),dn fh (aK 1 (K56 p1 oi di l.length p0 ks ks.length y l.length [(59,.eS (.az oi 0) [.raw u3]),(62,.own 1 (List.map (D.int .i64) [r.1]))])<|ae<|bT c011),trivial⟩) λc010=>?_
     refine dQ (H:=H.set oi (.cells [.own 3 (bM r.2 us3)])) (s:=(v3,kH r.2 us3)) 9 394 68 (K56 p1 oi di l.length p0 ks ks.length y l.length [(57,vI (l.length:Int)),(62,.own 1 (List.map (D.int .i64) [r.1]))]) (cF fh (i0:=0) (is:=[2]) κ ⟨ia (o':=some 54) κ<|ku 68 (H.set oi (.cells [.own 3 (bM r.2 us3)])) [1,2,3,7,43,44,45,54,55,57,62] (K17 p1 oi di l.length p0 ks ks.length y v3 l.length [(57,vI (l.length:Int)),(62,.own 1 (List.map (D.int .i64) [r.1]))]) κ<|bT c101,dn fh (bb (d:=some 56) (s:=.bS (.az oi 0) 3 (bM r.2 us3)) (K56 p1 oi di l.length p0 ks ks.length y l.length [(56,.bS (.az oi 0) 3 (bM r.2 us3)),(57,vI (l.length:Int)),(62,.own 1 (List.map (D.int .i64) [r.1]))]) (tI hH3 rfl κ)<|ae<|HQ (dd:=some 58) (x:=.eS (.az oi 0) (zD x3 u3).cells) 4 (K56 p1 oi di l.length p0 ks ks.length y l.length [(58,.eS (.az oi 0) (zD x3 u3).cells),(62,.own 1 (List.map (D.int .i64) [r.1]))]) (xi (l:=some (.az oi 0)) (n:=3) (j:=(l.length:Int)) κ ω hxs)<|tG 5 (K56 p1 oi di l.length p0 ks ks.length y l.length [(59,.eS (.az oi 0) [.raw u3]),(62,.own 1 (List.map (D.int .i64) [r.1]))])<|bT c011),trivial⟩) λc001=>?_
     refine dQ (H:=H.set oi (.cells [.own 3 (bM r.2 us3)])) (s:=(v3,kH r.2 us3)) 10 138 68 (K56 p1 oi di l.length p0 ks ks.length y l.length [(57,vI (l.length:Int)),(61,vI r.1)]) (cF fh (i0:=0) (is:=[2,8]) κ ⟨ia (o':=some 54) κ<|ku 68 (H.set oi (.cells [.own 3 (bM r.2 us3)])) [1,2,3,7,43,44,45,54,55,57,61] (K17 p1 oi di l.length p0 ks ks.length y v3 l.length [(57,vI (l.length:Int)),(61,vI r.1)]) κ<|bT c100,dn fh (bb (d:=some 56) (s:=.bS (.az oi 0) 3 (bM r.2 us3)) (K56 p1 oi di l.length p0 ks ks.length y l.length [(56,.bS (.az oi 0) 3 (bM r.2 us3)),(57,vI (l.length:Int)),(61,vI r.1)]) (tI hH3 rfl κ)<|ae<|HQ (dd:=some 58) (x:=.eS (.az oi 0) (zD x3 u3).cells) 4 (K56 p1 oi di l.length p0 ks ks.length y l.length [(58,.eS (.az oi 0) (zD x3 u3).cells),(61,vI r.1)]) (xi (l:=some (.az oi 0)) (n:=3) (j:=(l.length:Int)) κ ω hxs)<|tG 5 (K56 p1 oi di l.length p0 ks ks.length y l.length [(59,.eS (.az oi 0) [.raw u3]),(61,vI r.1)])<|bT c010),dn fh (aK 1 (K56 p1 oi di l.length p0 ks ks.length y l.length [(57,vI (l.length:Int)),(62,.own 1 (List.map (D.int .i64) [r.1]))])<|ae<|bT c001),trivial⟩) λc000=>?_
     exact tG 1 (K27 p1 oi di l.length [(13,vI r.1),(43,.bS (.az p0 1) 1 (List.map cP.enc ks)),(44,vI (ks.length:Int)),(45,vI y),(55,vI (l.length:Int))])<|tG 3 (K27 p1 oi di l.length [(13,vI r.1),(43,.bS (.az p0 1) 1 (List.map cP.enc ks)),(44,vI (ks.length:Int)),(45,vI y),(55,vI (l.length:Int)),(57,vI (l.length:Int))])<|tG 7 (K56 p1 oi di l.length p0 ks ks.length y l.length [(57,vI (l.length:Int)),(61,vI r.1)])<|bT c000
   .obtain⟨rfl,us',hl',hs',rfl⟩:=hE
    refine Oy<|ie<|gq fh<|ka fh<|ah<|aK 2 [(6,vI (l.length:Int))]<|ae<|ie<|ka fh λa w g hr=>wp_ret ⟨_,g,?_,hr,Fr.refl _ _ _⟩
    exact⟨.inr rfl,_,⟨us',hl',hs',rfl,rfl⟩,κ⟩
theorem Rel.S3{st:St}{a:Go.Act}{w:World}{g:Gh}{i:Nat}{y:D}(hr:Rel st a w g)(hi:st.H[i]? =some (.cells [.d y]))(hn:st.tmps.all fF=true):
  ∃g',Rel ⟨st.tmps,st.H.set i .hole⟩ a w g'/\Fr false g w g' w/\(∀o,o≠.obj i->aS o g w g' w)/\g'.ρ=g.ρ/\ ∃(k:Nat) (c:Array Go.Value) (T:TypeId) (fz:Nat×Nat) (v:Go.Value),g'.ρ[i]? =some k/\g'.ow k=.out/\w.heap[k]? =some (.cells c T fz)/\c[0]? =some v/\v.oneCell'=true/\Rd g' w v y:=by
 let rn:Own->Own:=λo=>match o with
  |.obj j=>if j=i then .out else .obj j
  |o=>o
 have hk: ∀o,o≠.obj i->aS o g w (g.br rn) w:=λo h1=>aS.br (by
  cases o with
  |obj j=>simp only[rn];rw[if_neg (λe=>h1 (by rw[e]))]
  |_=>rfl)
 have hf:aS .free g w (g.br rn) w:=hk _ ψ
 have hout:aS .out g w (g.br rn) w:=hk _ ψ
 obtain⟨k,c,T,f1,f2,f3,f4,f5⟩:=hr.hp.2 i _ hi
 refine⟨g.br rn,?_,⟨g_9 _,hf,hout,λ_ _ h=>h,nofun,nofun,nofun,⟨rfl,rfl⟩⟩,hk,rfl,?_⟩
 .refine bg hr hr.len hr.ei (λ_ _ h=>h) (λt' s hs=>?_) ⟨by simp[Gh.br,hr.hp.1],λi' o' hi'=>?_⟩
  .refine .inr (.inr ⟨hs,rfl,λo' ho'=>hk o' (λe2=>by subst e2;exact absurd ho' oV),λs0 e0=>⟨rfl,λx hx hb=>⟨x,hx,rfl⟩⟩⟩)
  .simp only at hi'
   by_cases e:i=i'
   .subst e
    rw[g_0 (aX hi)]at hi'
    cases hi'
    trivial
   .rw[g_1 e]at hi'
    exact(hr.hp.2 i' o' hi').ph hf (hk _ (λe2=>by cases e2;exact e rfl)) (λj=>hk _ ψ) (λ_ _ h=>h)
 .obtain⟨u,u1,u2,u3⟩:=f5 0 _ rfl
  exact⟨k,c,T,(0,0),u,f1,by simp[Gh.br,f2,rn],f3,u1,u3,(show Rd g w u y from u2).bo hf (λ_ _ h=>h)⟩
theorem Jl{P:Program}{st:St}{Q:Exit->St->Prop}{c:Code}(oi di m:Nat)(xs:List D)(y:D)(n:Nat)(H:List aT)(L:List Nat)(ll:List (Nat×SV))(hoi:st.H[oi]? =some (.cells [.own m xs]))(hdi:st.H[di]? =some (.cells [.d y]))(hn:st.tmps.all fF=true)
  (cG:bx n L ⟨st.tmps,st.H.set di .hole⟩=some (ll,H)) (h: ∀v,Fu P (CK oi di y) (RK oi) (v,[]) c (sp n ll H) (λ_ e st=>Q e st)):SW P false c st Q:=by
 intro a w g hr
 have hne:oi≠di:=λe=>by subst e;rw[hoi]at hdi;cases hdi
 obtain⟨g1,r1,f1,hk,hρ,k,c0,T,fz,v,d1,d2,d3,d4,d5,d6⟩:=hr.S3 hdi hn
 obtain⟨kv,cv,Tv,b1,b2,b3,b4,b5⟩:=hr.hp.2 oi _ hoi
 obtain⟨u,u1,u2,u3⟩:=b5 0 _ rfl
 obtain⟨x1,x2⟩:=hk (.obj oi) (λe=>by cases e;exact hne rfl) kv _ b2 b3
 have hC:CK oi di y (u,[]) g1 w:=⟨⟨kv,cv,Tv,_,by rw[hρ];exact b1,x1,x2,u1,u3⟩,λp u' ks hp=>by simp at hp,k,c0,T,fz,v,d1,d2,d3,d4,d5,d6⟩
 refine Code.wp_mono (λe a' w' hh=>?_) (h u a w g1 (r1.bC (aO cG)) hC)
 obtain⟨s',st',g',q,r,c',f⟩:=hh
 exact⟨st',g',q,r,f1.trans (zq.fr f)⟩
theorem Mt{P:Program}{oi di k t:Nat}{dd:D}{ops:Array Oper}{st:St}{v:Go.Value}{l:List Node}{us:List Go.Value}{K:Go.Value×KS->St->Prop}(ht:st.tmps[t]? =some (.d (.raw v)))(hlen:us.length=l.length)(hH:st.H[oi]? =some (.cells [.own 3 (bM l us)]))
  (hn:st.tmps.all (pf oi)=true) (h:Fl P (CK oi di dd) (RK oi) ops k (v,[]) ⟨(st.set t (.d (.list 3 (l.map b8)))).tmps,st.H.set oi .hole⟩ K):Fl P (CK oi di dd) (RK oi) ops k (v,kH l us) st K:=by
 intro a w g hr hc X hX
 let rn:Own->Own:=λo=>match o with
  |.bR (.az j c)=>if j=oi then .free else .bR (.az j c)
  |o=>o
 have hk: ∀o,(∀c,o≠.bR (.az oi c))->aS o g w (g.br rn) w:=λo h1=>aS.br (by
  cases o with
  |bR l=>
   cases l with
   |az j c=>simp only[rn];rw[if_neg (λe=>h1 c (by rw[e]))]
   |_=>rfl
  |_=>rfl)
 have hrn: ∀c,rn (.bR (.az oi c))=.free:=λc=>by simp[rn]
 have hf:aS .free g w (g.br rn) w:=hk _ ψ
 obtain⟨kv,cv,Tv,m1,m2,m3,m4,m5,hO⟩:=xh hr.hp hc hH
 have kp: ∀{v:Go.Value} {d:D},Rd g w v d->Rd (g.br rn) w v d:=λh=>h.bo hf (λ_ _ h=>h)
 have hlist:Rd (g.br rn) w v (.list 3 (l.map b8)):=by
  rcases hO with⟨h0,a0,h1⟩|⟨km,off,cap,c,T0,uf,e1,e2,e3,e4,e5,e6,e7,e8⟩
  .have hl0:l=[]:=by
    have:=sr hlen
    rw[h0]at this
    cases l with
    |nil=>rfl
    |cons _ _=>simp at this
   subst hl0
   have h1:v=_:=h1
   rw[h1]
   exact .nO
  .have e1:v=_:=e1
   rw[e1]
   have hget: ∀(i:Nat) (x:Node),l[i]? =some x-> ∃u,us[i]? =some u/\(bM l us)[i]? =some (zD x u):=λi x hx=>by
    have hlt:i<us.length:=by rw[hlen];exact aX hx
    exact⟨us[i],h_6 hlt,by simp[bM,List.getElem?_zipWith,hx,h_6 hlt]⟩
   refine .list uf (by simp[Gh.br,e2,hrn]) e3 (by rw[sr hlen];simp) e4 (λi y hy=>?_) (λi y hy j z hz=>?_) (λi y hy j z hz=>?_)
   .simp only[h_0,g_2]at hy
    obtain⟨x,hx,rfl⟩:=hy
    rfl
   .simp only[h_0,g_2]at hy
    obtain⟨x,hx,rfl⟩:=hy
    obtain⟨u,hu,hxs⟩:=hget i x hx
    have hj:j<3:=aX hz
    match j,hj with
    |0,_=>exact e7 i _ hxs 0 _ rfl
    |1,_=>exact e7 i _ hxs 1 _ rfl
    |2,_=>exact e7 i _ hxs 2 _ rfl
   .simp only[h_0,g_2]at hy
    obtain⟨x,hx,rfl⟩:=hy
    obtain⟨u,hu,hxs⟩:=hget i x hx
    have hj:j<3:=aX hz
    match j,hj with
    |0,_=>cases hz;exact kp (e8 i _ hxs 0 _ rfl)
    |1,_=>cases hz;exact kp (e8 i _ hxs 1 _ rfl)
    |2,_=>
     cases hz
     have hu2:Rd g w (uf i 2) (.raw u):=e8 i _ hxs 2 _ rfl
     have hu3:uf i 2=u:=by generalize uf i 2=z at hu2;cases hu2;rfl
     rw[hu3]
     have hks:(kH l us)[i]? =some (u,some x.Kids):=by simp[kH,List.getElem?_zipWith,hx,hu]
     have hro:=hc.2.1 i u x.Kids hks
     exact eX.free (l:=.az oi (i+1)) rfl (by simp[hrn]) (eN hro)
 have hrel:Rel ⟨(st.set t (.d (.list 3 (l.map b8)))).tmps,st.H.set oi .hole⟩ a w (g.br rn):=by
  refine bg hr (by simp[St.set,hr.len]) hr.ei (λ_ _ h=>h) (λt' sv hs=>?_) ⟨by simp[Gh.br,hr.hp.1],λi' o' hi'=>?_⟩
  .by_cases e:t=t'
   .subst e
    simp only[St.set]at hs
    rw[g_0 (aX ht)]at hs
    cases hs
    refine .inr (.inl ?_)
    have hv:Rd g w (valOf a t) (.raw v):=hr.tmp t _ ht
    have hv2:valOf a t=v:=by generalize valOf a t=z at hv;cases hv;rfl
    show Rd _ _ (valOf a t) _
    rw[hv2]
    exact hlist
   .simp only[St.set]at hs
    rw[g_1 e]at hs
    have hnh:pf oi sv=true:=h_2.1 hn sv (h_4.2 ⟨t',hs⟩)
    refine .inr (.inr ⟨hs,rfl,λo' ho'=>hk o' (λc e2=>?_),λs0 e0=>⟨rfl,λy hy hb=>⟨y,?_,rfl⟩⟩⟩)
    .subst e2
     cases sv<;>simp[ki]at ho'
     .subst ho';simp[pf]at hnh
     .subst ho';simp[pf]at hnh
    .have hne:t≠s0:=λe3=>by
      subst e3
      rw[ht]at hy
      cases hy
      simp[gp]at hb
     show((st.set t _).tmps)[s0]? =some y
     simp only[St.set]
     rw[g_1 hne]
     exact hy
  .simp only at hi'
   by_cases e:oi=i'
   .subst e
    rw[g_0 (aX hH)]at hi'
    cases hi'
    trivial
   .rw[g_1 e]at hi'
    exact(hr.hp.2 i' o' hi').ph hf (hk _ ψ) (λj=>hk _ (λc e2=>by cases e2;exact e rfl)) (λ_ _ h=>h)
 have hfr:zq oi g w (g.br rn) w:=⟨g_9 _,hf,hk _ ψ,rfl,λj _=>hk _ ψ,λj c hj=>hk _ (λc' e=>by cases e;exact hj rfl),fE.refl _⟩
 have hC':CK oi di dd (v,[]) (g.br rn) w:=by
  obtain⟨⟨kv,c,T,fz,a1,a2,a3,a4,a5⟩,b,⟨k,c',T',fz',v',d1,d2,d3,d4,d5,d6⟩⟩:=hc
  exact⟨⟨kv,c,T,fz,a1,by simp[Gh.br,a2,rn],a3,a4,a5⟩,λp u ks hp=>by simp at hp,k,c',T',fz',v',d1,by simp[Gh.br,d2,rn],d3,d4,d5,d6.bo hf (λ_ _ h=>h)⟩
 exact h a w (g.br rn) hrel hC' X λs' st' a' w' g2 q r c f=>hX s' st' a' w' g2 q r c (hfr.trans f)
def ir(fuel:Nat)(p0:Nat)(H:Hp):Option (((List Node))×Hp):=
 (bz cP.cell ((H++[aT.hole,aT.hole]).set H.length (aT.cells [.own 3 []])) p0 4).bind λx=>x.bind λi=>
 (iY fuel p0 ((H++[aT.hole,aT.hole]).set H.length (aT.cells [.own 3 []]))).bind λlv=>
 (nD fuel (H++[aT.hole,aT.hole]) fuel i (IntKind.wrap .i64 (lv - 1)) []).bind λr=>some (r.2,H++[aT.hole,aT.hole])
def K11:=λa0 a1 a2 (t:SL)=>((3,.d (.ptr a0 0))::(8,.d (zJ a1 (a2++[aT.cells [.own 3 []]]).length))::t:SL)
def K15:=λa0 a1 (t:SL)=>((3,.d (.ptr a0 0))::(4,.d (.ptr (a1++[aT.cells [.own 3 []]]).length 0))::t:SL)
def K26:=λa0 a1 a2 (t:SL)=>((0,.d (.ptr a0 0))::(3,.d (.ptr a1 0))::(4,.d (.ptr (a2++[aT.cells [.own 3 []]]).length 0))::t:SL)
theorem dr(h:ir fuel p0 H=some r):SC Tryz.prog false 11 [.d (.ptr p0 0)] H (.d (.list 3 (List.map b8 r.1))) r.2:=by
 unfold ir at h
 obtain⟨x,hroot,h1⟩:=cW h
 obtain⟨i,rfl,h2⟩:=cW h1
 obtain⟨lv,hlv,h3⟩:=cW h2
 obtain⟨r1,hn,h4⟩:=cW h3
 cases h4
 clear h h1 h2 h3
 refine cf Tryz.func11 rfl<|aH 18 H [(0,.d (.ptr p0 0))]<|OY 1 [(0,.d (.ptr p0 0))]<|an<|ax<|aK 2 [(0,.d (.ptr p0 0)),(6,vB false)]<|ae<|ag<|
  yj κ<|ao<|ag<|an<|ah<|
  qT (n:=18) (H:=(H++[aT.cells [.own 3 []]])) (d:=some 3) (b:=false) [(0,3,true)] [0,3] [(0,.d (.ptr p0 0)),(3,.d (.ptr H.length 0))] (q:=((H++[aT.cells [.own 3 []]]),H.length)) rfl κ rfl κ<|ae<|ag<|an<|ah<|
  qT (n:=18) (H:=((H++[aT.cells [.own 3 []]])++[aT.cells [.d .lA]])) (d:=some 4) (b:=false) [] [0,3,4] (K26 p0 H.length H []) (q:=(((H++[aT.cells [.own 3 []]])++[aT.cells [.d .lA]]),(H++[aT.cells [.own 3 []]]).length)) rfl κ rfl κ<|ae<|ag<|an<|ah<|
  aK 1 (K26 p0 H.length H [(7,.d (zJ H.length (H++[aT.cells [.own 3 []]]).length))])<|DN (n:=18) (H0:=((H++[aT.cells [.own 3 []]])++[aT.cells [.d .lA]])) (H:=((H++[aT.cells [.own 3 []]])++[aT.cells [.d (zJ H.length (H++[aT.cells [.own 3 []]]).length)]])) (y:=(zJ H.length (H++[aT.cells [.own 3 []]]).length)) (i:=(H++[aT.cells [.own 3 []]]).length) (off:=0) [0,3,4] (K26 p0 H.length H []) (Dk (H++[aT.cells [.own 3 []]]) _ _) κ κ<|ae<|ag<|
  Jl H.length (H++[aT.cells [.own 3 []]]).length 3 [] (zJ H.length (H++[aT.cells [.own 3 []]]).length) 18 (((H++[aT.cells [.own 3 []]])++[aT.cells [.d (zJ H.length (H++[aT.cells [.own 3 []]]).length)]]).set (H++[aT.cells [.own 3 []]]).length aT.hole) [0,3,4] (K26 p0 H.length H []) (by simp[sp]) (by simp[sp]) κ κ λv=>?_
 have eH:((H++[aT.cells [.own 3 []]])++[aT.cells [.d (zJ H.length (H++[aT.cells [.own 3 []]]).length)]]).set (H++[aT.cells [.own 3 []]]).length aT.hole=((H++[aT.hole,aT.hole]).set H.length (aT.cells [.own 3 []])):=by simp
 rw[eH]
 have hoi:(H++[aT.hole,aT.hole])[H.length]? =some aT.hole:=by simp
 have hcall:=FF (di:=(H++[aT.cells [.own 3 []]]).length) hoi fuel i (IntKind.wrap .i64 (lv - 1)) [] [] v r1 rfl hn
 refine gq fh<|w6 κ fh ?_
 refine dQ (H:=((H++[aT.hole,aT.hole]).set H.length (aT.cells [.own 3 []]))) (s:=(v,[])) 1 255 18 (K11 H.length H.length H [(12,.d (.ptr i 0)),(15,vI (IntKind.wrap .i64 (lv - 1)))]) (cF fh (i0:=8) (is:=[]) κ ⟨zp (o':=some 16) hcall κ (xA (by simp[K11,K15,K26,pf,vI]) rfl) λs3 H3 r3 hP=>?_,trivial⟩) λc112=>?_
 .obtain⟨us3,hlen3,hs3,rfl,rfl⟩:=hP
  obtain⟨v3,k3⟩:=s3
  cases hs3
  refine ku 18 ((H++[aT.hole,aT.hole]).set H.length (aT.cells [.own 3 (bM r1.2 us3)])) [3] [(3,.d (.ptr H.length 0))] κ<|KI fh κ<|ie<|gq fh<|rR<|oS fh κ<|
   ia (o':=some 17) κ<|um 18 ((H++[aT.hole,aT.hole]).set H.length (aT.cells [.own 3 (bM r1.2 us3)])) [17] [(17,.d (.raw v3))] κ<|
   Mt (t:=17) κ hlen3 (g_0 ψ) (xA (by simp[K11,K15,K26,pf]) rfl)<|
   um 18 (((H++[aT.hole,aT.hole]).set H.length (aT.cells [.own 3 (bM r1.2 us3)])).set H.length aT.hole) [17] [(17,.d (.list 3 (List.map b8 r1.2)))] κ ?_
  have eE:(((H++[aT.hole,aT.hole]).set H.length (aT.cells [.own 3 (bM r1.2 us3)])).set H.length aT.hole)=H++[aT.hole,aT.hole]:=by simp
  rw[eE]
  refine Fl.F fh (aK 1 [(2,.d (.list 3 (List.map b8 r1.2)))]<|ae<|Ci fh κ<|ie<|ka fh λa w g hr=>wp_ret ⟨_,g,?_,hr,Fr.refl _ _ _⟩)
  exact dp.ret [] κ rfl
 refine dQ (H:=((H++[aT.hole,aT.hole]).set H.length (aT.cells [.own 3 []]))) (s:=(v,[])) 2 254 18 (K15 H.length H [(12,.d (.ptr i 0)),(15,vI (IntKind.wrap .i64 (lv - 1)))]) (cF fh (i0:=0) (is:=[]) κ ⟨lh (o':=some 8) κ<|ku 18 ((H++[aT.hole,aT.hole]).set H.length (aT.cells [.own 3 []])) [3,8,12,15] (K11 H.length H.length H [(12,.d (.ptr i 0)),(15,vI (IntKind.wrap .i64 (lv - 1)))]) κ<|bT c112,trivial⟩) λc012=>?_
 refine dQ (H:=((H++[aT.hole,aT.hole]).set H.length (aT.cells [.own 3 []]))) (s:=(v,[])) 2 239 18 (K11 H.length H.length H [(11,.d (.ptr p0 4)),(15,vI (IntKind.wrap .i64 (lv - 1)))]) (cF fh (i0:=4) (is:=[]) κ ⟨dn fh (bb (d:=some 12) (s:=.d (cP.enc (some i))) (K11 H.length H.length H [(12,.d (.ptr i 0)),(15,vI (IntKind.wrap .i64 (lv - 1)))]) (aA (c:=cP.cell) hroot κ)<|ae<|bT c112),trivial⟩) λc102=>?_
 refine dQ (H:=((H++[aT.hole,aT.hole]).set H.length (aT.cells [.own 3 []]))) (s:=(v,[])) 3 238 18 (K15 H.length H [(11,.d (.ptr p0 4)),(15,vI (IntKind.wrap .i64 (lv - 1)))]) (cF fh (i0:=0) (is:=[4]) κ ⟨lh (o':=some 8) κ<|ku 18 ((H++[aT.hole,aT.hole]).set H.length (aT.cells [.own 3 []])) [3,8,11,15] (K11 H.length H.length H [(11,.d (.ptr p0 4)),(15,vI (IntKind.wrap .i64 (lv - 1)))]) κ<|bT c102,dn fh (bb (d:=some 12) (s:=.d (cP.enc (some i))) (K15 H.length H [(12,.d (.ptr i 0)),(15,vI (IntKind.wrap .i64 (lv - 1)))]) (aA (c:=cP.cell) hroot κ)<|ae<|bT c012),trivial⟩) λc002=>?_
 refine dQ (H:=((H++[aT.hole,aT.hole]).set H.length (aT.cells [.own 3 []]))) (s:=(v,[])) 2 127 18 (K11 H.length H.length H [(12,.d (.ptr i 0)),(14,vI lv)]) (cF fh (i0:=7) (is:=[]) κ ⟨dn fh (aK 1 (K11 H.length H.length H [(12,.d (.ptr i 0)),(15,vI (IntKind.wrap .i64 (lv - 1)))])<|ae<|bT c112),trivial⟩) λc111=>?_
 refine dQ (H:=((H++[aT.hole,aT.hole]).set H.length (aT.cells [.own 3 []]))) (s:=(v,[])) 3 126 18 (K15 H.length H [(12,.d (.ptr i 0)),(14,vI lv)]) (cF fh (i0:=0) (is:=[7]) κ ⟨lh (o':=some 8) κ<|ku 18 ((H++[aT.hole,aT.hole]).set H.length (aT.cells [.own 3 []])) [3,8,12,14] (K11 H.length H.length H [(12,.d (.ptr i 0)),(14,vI lv)]) κ<|bT c111,dn fh (aK 1 (K15 H.length H [(12,.d (.ptr i 0)),(15,vI (IntKind.wrap .i64 (lv - 1)))])<|ae<|bT c012),trivial⟩) λc011=>?_
 refine dQ (H:=((H++[aT.hole,aT.hole]).set H.length (aT.cells [.own 3 []]))) (s:=(v,[])) 3 111 18 (K11 H.length H.length H [(11,.d (.ptr p0 4)),(14,vI lv)]) (cF fh (i0:=4) (is:=[7]) κ ⟨dn fh (bb (d:=some 12) (s:=.d (cP.enc (some i))) (K11 H.length H.length H [(12,.d (.ptr i 0)),(14,vI lv)]) (aA (c:=cP.cell) hroot κ)<|ae<|bT c111),dn fh (aK 1 (K11 H.length H.length H [(11,.d (.ptr p0 4)),(15,vI (IntKind.wrap .i64 (lv - 1)))])<|ae<|bT c102),trivial⟩) λc101=>?_
 refine dQ (H:=((H++[aT.hole,aT.hole]).set H.length (aT.cells [.own 3 []]))) (s:=(v,[])) 4 110 18 (K15 H.length H [(11,.d (.ptr p0 4)),(14,vI lv)]) (cF fh (i0:=0) (is:=[4,7]) κ ⟨lh (o':=some 8) κ<|ku 18 ((H++[aT.hole,aT.hole]).set H.length (aT.cells [.own 3 []])) [3,8,11,14] (K11 H.length H.length H [(11,.d (.ptr p0 4)),(14,vI lv)]) κ<|bT c101,dn fh (bb (d:=some 12) (s:=.d (cP.enc (some i))) (K15 H.length H [(12,.d (.ptr i 0)),(14,vI lv)]) (aA (c:=cP.cell) hroot κ)<|ae<|bT c011),dn fh (aK 1 (K15 H.length H [(11,.d (.ptr p0 4)),(15,vI (IntKind.wrap .i64 (lv - 1)))])<|ae<|bT c002),trivial⟩) λc001=>?_
 refine dQ (H:=((H++[aT.hole,aT.hole]).set H.length (aT.cells [.own 3 []]))) (s:=(v,[])) 3 63 18 (K11 H.length H.length H [(12,.d (.ptr i 0)),(13,.d (.ptr p0 0))]) (cF fh (i0:=6) (is:=[]) κ ⟨dn fh (fX (ls:=[]) (some 14) (K11 H.length H.length H [(12,.d (.ptr i 0)),(14,vI lv)]) (gQ hlv)<|ae<|bT c111),trivial⟩) λc110=>?_
 refine dQ (H:=((H++[aT.hole,aT.hole]).set H.length (aT.cells [.own 3 []]))) (s:=(v,[])) 4 62 18 (K15 H.length H [(12,.d (.ptr i 0)),(13,.d (.ptr p0 0))]) (cF fh (i0:=0) (is:=[6]) κ ⟨lh (o':=some 8) κ<|ku 18 ((H++[aT.hole,aT.hole]).set H.length (aT.cells [.own 3 []])) [3,8,12,13] (K11 H.length H.length H [(12,.d (.ptr i 0)),(13,.d (.ptr p0 0))]) κ<|bT c110,dn fh (fX (ls:=[]) (some 14) (K15 H.length H [(12,.d (.ptr i 0)),(14,vI lv)]) (gQ hlv)<|ae<|bT c011),trivial⟩) λc010=>?_
 refine dQ (H:=((H++[aT.hole,aT.hole]).set H.length (aT.cells [.own 3 []]))) (s:=(v,[])) 4 47 18 (K11 H.length H.length H [(11,.d (.ptr p0 4)),(13,.d (.ptr p0 0))]) (cF fh (i0:=4) (is:=[6]) κ ⟨dn fh (bb (d:=some 12) (s:=.d (cP.enc (some i))) (K11 H.length H.length H [(12,.d (.ptr i 0)),(13,.d (.ptr p0 0))]) (aA (c:=cP.cell) hroot κ)<|ae<|bT c110),dn fh (fX (ls:=[]) (some 14) (K11 H.length H.length H [(11,.d (.ptr p0 4)),(14,vI lv)]) (gQ hlv)<|ae<|bT c101),trivial⟩) λc100=>?_
 refine dQ (H:=((H++[aT.hole,aT.hole]).set H.length (aT.cells [.own 3 []]))) (s:=(v,[])) 5 46 18 (K15 H.length H [(11,.d (.ptr p0 4)),(13,.d (.ptr p0 0))]) (cF fh (i0:=0) (is:=[4,6]) κ ⟨lh (o':=some 8) κ<|ku 18 ((H++[aT.hole,aT.hole]).set H.length (aT.cells [.own 3 []])) [3,8,11,13] (K11 H.length H.length H [(11,.d (.ptr p0 4)),(13,.d (.ptr p0 0))]) κ<|bT c100,dn fh (bb (d:=some 12) (s:=.d (cP.enc (some i))) (K15 H.length H [(12,.d (.ptr i 0)),(13,.d (.ptr p0 0))]) (aA (c:=cP.cell) hroot κ)<|ae<|bT c010),dn fh (fX (ls:=[]) (some 14) (K15 H.length H [(11,.d (.ptr p0 4)),(14,vI lv)]) (gQ hlv)<|ae<|bT c001),trivial⟩) λc000=>?_
 exact tG 1 (K26 p0 H.length H [(9,.d (.ptr p0 0))])<|tG 2 (K26 p0 H.length H [(10,.d (.ptr p0 0))])<|tG 3 (K26 p0 H.length H [(11,.d (.ptr p0 4))])<|tG 5 (K15 H.length H [(11,.d (.ptr p0 4)),(13,.d (.ptr p0 0))])<|bT c000
structure nU where
 low:(Option Entry)
 high:(Option Entry)
 deriving DecidableEq,Inhabited
def zX(x:nU):D:=.agg [dC ab x.low,dC ab x.high]
def cY(fuel:Nat)(p0:Nat)(p1:Node)(y9:Int×(List Entry)×(List Int)×Int×Hp):Option ((Int×(List Entry)×(List Int)×Int×Hp)⊕((Hp)⊕(((Bool)×Hp)))):=
 bif (decide (y9.2.2.2.1<(p1.Entries.length:Int)))then
  (idx p1.Entries y9.2.2.2.1).bind λx10=>
  bp (λ(j11:Bool)=>
   bif j11 then
    some (.inr (.inr (false,y9.2.2.2.2)))
   else
    (bz cM.cell y9.2.2.2.2 p0 3).bind λx23=>
    (BF (kI .i64) cB y9.2.2.2.2 x23 x10.Number true).bind λH24=>
    bp (λ(j25:Unit)=>
     bif (decide (y9.2.2.2.1>0))then
      (bz cP.cell H24 p0 0).bind λx32=>
      x32.bind λi33=>
      (bz (cI .i64).cell H24 i33 2).bind λx34=>
      bif (x34==1)then
       (bz cP.cell H24 p0 0).bind λx35=>
       x35.bind λi36=>
       (bz cV.cells H24 i36 0).bind λx37=>
       (idx y9.2.1 (IntKind.wrap .i64 (y9.2.2.2.1 - 1))).bind λx38=>
       (oa fuel x37 x38.Row x10.Row).bind λr39=>
       bif (r39==0)then
        some (.inr (.inr (false,H24)))
       else
        some (.inl (y9.1,y9.2.1,y9.2.2.1,(IntKind.wrap .i64 (y9.2.2.2.1+1)),H24))
      else
       some (.inl (y9.1,y9.2.1,y9.2.2.1,(IntKind.wrap .i64 (y9.2.2.2.1+1)),H24))
     else
      some (.inl (y9.1,y9.2.1,y9.2.2.1,(IntKind.wrap .i64 (y9.2.2.2.1+1)),H24))) λjp26=>
    bif (decide (y9.2.2.2.1>0))then
     (bz cP.cell H24 p0 0).bind λx27=>
     x27.bind λi28=>
     (bz cV.cells H24 i28 0).bind λx29=>
     (idx y9.2.1 (IntKind.wrap .i64 (y9.2.2.2.1 - 1))).bind λx30=>
     (mT fuel x29 x30 x10).bind λr31=>
     bif (decide (r31>=0))then
      some (.inr (.inr (false,H24)))
     else
      jp26 ()
    else
     jp26 ()) λjp12=>
  (bz cP.cell y9.2.2.2.2 p0 0).bind λx13=>
  x13.bind λi14=>
  (bz cV.cells y9.2.2.2.2 i14 0).bind λx15=>
  (vb fuel x15 x10.Row).bind λr16=>
  bif (!r16)then
   jp12 true
  else
   (FE fuel x10.Key).bind λr17=>
   bif ((!r17)||(decide (x10.Number<1)))then
    jp12 true
   else
    (bz cP.cell y9.2.2.2.2 p0 0).bind λx18=>
    x18.bind λi19=>
    (bz (cI .i64).cell y9.2.2.2.2 i19 5).bind λx20=>
    bif (decide (x10.Number>x20))then
     jp12 true
    else
     (bz cM.cell y9.2.2.2.2 p0 3).bind λx21=>
     (BH (kI .i64) cB y9.2.2.2.2 x21 x10.Number).bind λq22=>
     jp12 (q22.getD false)
 else
  some (.inr (.inl y9.2.2.2.2))
def dE(fuel:Nat)(p0:Nat)(p1:Node)(p2:Bool)(p3:nU)(H:Hp):Option ((Bool)×Hp):=
 bp (λ(j1:Unit)=>
  (iter (cY fuel p0 p1) fuel (p1.Level,p1.Entries,p1.Kids,0,H)).bind (Sum.elim (λv41=>
   some (true,v41)) (λr42=>
   some r42))) λjp2=>
 (bz cP.cell H p0 0).bind λx3=>
 x3.bind λi4=>
 (bz (cI .i64).cell H i4 3).bind λx5=>
 bif (decide ((p1.Entries.length:Int)>x5))then
  some (false,H)
 else
  bif (!p2)then
   (bz cP.cell H p0 0).bind λx6=>
   x6.bind λi7=>
   (dA fuel i7 H).bind λr8=>
   bif (decide ((p1.Entries.length:Int)<r8))then
    some (false,H)
   else
    jp2 ()
  else
   jp2 ()
def vF(x0:(List Node)):SV:=.d (.list 3 (List.map b8 x0))
def Qz(x0:nU):SV:=.box [.d (dC ab x0.low),.d (dC ab x0.high)]
def uC(x0:Node):SV:=.box [vI x0.Level,.d (.list 3 (List.map ab x0.Entries)),.d (.list 1 (List.map (D.int .i64) x0.Kids))]
def LZ(x0:Node):SV:=.d (.list 3 (List.map ab x0.Entries))
def qJ(x0:Node):SV:=vI (x0.Entries.length:Int)
def Ue(x0:Node):SV:=.d (.agg [.int .i64 x0.Level,.list 3 (List.map ab x0.Entries),.list 1 (List.map (D.int .i64) x0.Kids)])
def Th(x0:nU):SV:=.d (.agg [dC ab x0.low,dC ab x0.high])
def rN(x0:Int×(List Entry)×(List Int)×Int×Hp):SV:=.box [vI x0.1,.d (.list 3 (List.map ab x0.2.1)),.d (.list 1 (List.map (D.int .i64) x0.2.2.1))]
section
attribute [local irreducible] bX jR lM lQ SW uS
def K16:=λa0 a1 a2 a3 a4 a5 a6 (t:SL)=>((0,.d (.ptr a0 0))::(5,rN a1)::(10,vI a2)::(11,j6 a3)::(38,LZ a4)::(39,qJ a5)::(40,vI a6)::t:SL)
theorem vM(h:dE fuel p0 p1 p2 p3 H=some r):SC Tryz.prog false 75 [.d (.ptr p0 0),.d (b8 p1),vB p2,.d (zX p3)] H (vB r.1) r.2:=by
 refine cf Tryz.func75 rfl ?_
 unfold dE at h
 exact aH 148 H [(0,.d (.ptr p0 0)),(1,Ue p1),(2,vB p2),(3,Th p3)]<|au 1<|ax<|aa 2<|aw (aG (enc:=ab) (xs:=p1.Entries))<|aa 1<|ak<|eb 148 H [0,5] (λ(j1:Unit)=>[(0,.d (.ptr p0 0)),(5,uC p1)]) h (λj1 h=>an<|ax<|aa 2<|aw (aG (enc:=ab) (xs:=p1.Entries))<|aa 1<|ak<|aI<|bI h λz40 hit h=>mA 148 [0,5,38,39,40] (λy9=>[(0,.d (.ptr p0 0)),(5,.box [vI y9.1,.d (.list 3 (List.map ab y9.2.1)),.d (.list 1 (List.map (D.int .i64) y9.2.2.1))]),(38,LZ p1),(39,qJ p1),(40,vI y9.2.2.2.1)]) (λy9=>y9.2.2.2.2) (λb e s=>((∃v41,b=(.inl v41)/\(e=.exit 0/\s=(sp 148 [] v41)))\/(∃r42,b=(.inr r42)/\(e=.ret/\dp Tryz.prog Tryz.f75.results.toList r42.2 (vB r42.1) .ret s)))) hit κ (λy9 o h=>by unfold cY at h;exact au 1<|an<|aQ h (λh=>ao<|ag<|an<|aI<|ax<|aa 1<|bI h λx10 hx h=>aw (s:=bc none (ab x10).cells) (aB (n:=3) hx)<|aa 4<|ak<|an<|eb 148 y9.2.2.2.2 [0,5,10,11,38,39,40,87] (λ(j11:Bool)=>(K16 p0 y9 y9.2.2.2.1 x10 p1 p1 y9.2.2.2.1 [(87,vB j11)])) h (λj11 h=>aQ h (λh=>au 1<|al<|aq<|aJ<|aq<|aq<|LR h (.inr (⟨(false,y9.2.2.2.2),rfl,rfl,dp.ret [] κ κ⟩))) (λh=>ao<|ag<|an<|hZ 6 κ κ<|bW 3<|bI h λx23 hx h=>cH (s:=.d (cM.enc x23)) (aA hx)<|pE [] [0,5,10,11,38,39,40,91,93] 2<|gI<|bI h λH24 hx h=>Mo 148 H24 (kc:=(kI .i64)) (v:=cB) (mm:=x23) (key:=x10.Number) (y:=true) [0,5,10,11,38,39,40] (K16 p0 y9 y9.2.2.2.1 x10 p1 p1 y9.2.2.2.1 []) hx κ κ<|ak<|eb 148 H24 [0,5,10,11,38,39,40] (λ(j25:Unit)=>(K16 p0 y9 y9.2.2.2.1 x10 p1 p1 y9.2.2.2.1 [])) h (λj25 h=>an<|fM<|dt [] [0,5,10,11,38,39,40,116] 3<|dP (λb=>(sp 148 (K16 p0 y9 y9.2.2.2.1 x10 p1 p1 y9.2.2.2.1 [(116,vB b)]) H24)) h (λh=>aF 3<|bI h λx32 hx h=>bm (s:=.d (cP.enc x32)) (aA hx)<|bI h λi33 hp_i33 h=>bm (s:=.d (.ptr i33 0)) (ba hp_i33)<|aF 2<|bI h λx34 hx h=>bm (s:=vI x34) (aA hx)<|dt [] [0,5,10,11,38,39,40,127] 3<|dP (λb=>(sp 148 (K16 p0 y9 y9.2.2.2.1 x10 p1 p1 y9.2.2.2.1 [(127,vB b)]) H24)) h (λh=>aF 3<|bI h λx35 hx h=>bm (s:=.d (cP.enc x35)) (aA hx)<|bI h λi36 hp_i36 h=>bm (s:=.d (.ptr i36 0)) (ba hp_i36)<|aF 1<|bI h λx37 hx h=>bm (s:=.d (.agg [.list 1 (List.map (D.int .i64) x37.aD),.list 1 (List.map D.bool x37.Down),.int .i64 x37.ee])) (aA hx)<|aF 4<|bI h λx38 hx h=>bm (s:=bc none (ab x38).cells) (aB (n:=3) hx)<|aF 4<|bI h λr39 hr h=>fk (lj hr)<|aF 2<|bF<|ag<|aQ h (λh=>au 1<|al<|aJ<|aq<|aq<|LR h (.inr (⟨(false,H24),rfl,rfl,dp.ret [] κ κ⟩))) (λh=>ao<|aL<|ag<|ah<|aa 2<|ae<|LQ h)) λh=>aF 19<|bF<|ag<|iV<|ao<|aL<|ag<|ah<|aa 2<|ae<|LQ h) λh=>aF 30<|bF<|ag<|iV<|ao<|aL<|ag<|ah<|aa 2<|ae<|LQ h) λjp26 h=>an<|fM<|dt [] [0,5,10,11,38,39,40,96] 3<|dP (λb=>(sp 148 (K16 p0 y9 y9.2.2.2.1 x10 p1 p1 y9.2.2.2.1 [(96,vB b)]) H24)) h (λh=>aF 3<|bI h λx27 hx h=>bm (s:=.d (cP.enc x27)) (aA hx)<|bI h λi28 hp_i28 h=>bm (s:=.d (.ptr i28 0)) (ba hp_i28)<|aF 1<|bI h λx29 hx h=>bm (s:=.d (.agg [.list 1 (List.map (D.int .i64) x29.aD),.list 1 (List.map D.bool x29.Down),.int .i64 x29.ee])) (aA hx)<|aF 4<|bI h λx30 hx h=>bm (s:=bc none (ab x30).cells) (aB (n:=3) hx)<|aF 2<|bI h λr31 hr h=>fk (rk hr)<|aF 2<|bF<|ag<|aQ h (λh=>au 1<|al<|aq<|aJ<|aq<|aq<|LR h (.inr (⟨(false,H24),rfl,rfl,dp.ret [] κ κ⟩))) (λh=>ao<|JQ [] h)) λh=>aF 17<|bF<|ag<|iV<|ao<|JQ [] h)) λjp12 h=>fM<|aF 3<|bI h λx13 hx h=>bm (s:=.d (cP.enc x13)) (aA hx)<|bI h λi14 hp_i14 h=>bm (s:=.d (.ptr i14 0)) (ba hp_i14)<|aF 1<|bI h λx15 hx h=>bm (s:=.d (.agg [.list 1 (List.map (D.int .i64) x15.aD),.list 1 (List.map D.bool x15.Down),.int .i64 x15.ee])) (aA hx)<|aF 2<|bI h λr16 hr h=>fk (xw hr)<|dt [] [0,5,10,11,38,39,40,56] 2<|dP (λb=>(sp 148 (K16 p0 y9 y9.2.2.2.1 x10 p1 p1 y9.2.2.2.1 [(56,vB b)]) y9.2.2.2.2)) h (λh=>aF 31<|bF<|JQ [] h) λh=>aF 2<|bI h λr17 hr h=>fk (FD hr)<|dt [] [0,5,10,11,38,39,40,62] 3<|KG 148 y9.2.2.2.2 [0,5,10,11,38,39,40,66] 4 (!r17) (λb=>(sp 148 (K16 p0 y9 y9.2.2.2.1 x10 p1 p1 y9.2.2.2.1 [(62,vB b)]) y9.2.2.2.2)) (λb=>(K16 p0 y9 y9.2.2.2.1 x10 p1 p1 y9.2.2.2.1 [(66,vB (b||(decide (x10.Number<1))))])) κ κ κ<|dt [] [0,5,10,11,38,39,40,67] 1<|dP (λb=>(sp 148 (K16 p0 y9 y9.2.2.2.1 x10 p1 p1 y9.2.2.2.1 [(67,vB b)]) y9.2.2.2.2)) h (λh=>aF 20<|bF<|JQ [] h) λh=>aF 5<|bI h λx18 hx h=>bm (s:=.d (cP.enc x18)) (aA hx)<|bI h λi19 hp_i19 h=>bm (s:=.d (.ptr i19 0)) (ba hp_i19)<|aF 1<|bI h λx20 hx h=>bm (s:=vI x20) (aA hx)<|dt [] [0,5,10,11,38,39,40,79] 3<|dP (λb=>(sp 148 (K16 p0 y9 y9.2.2.2.1 x10 p1 p1 y9.2.2.2.1 [(79,vB b)]) y9.2.2.2.2)) h (λh=>aF 8<|bF<|JQ [] h) λh=>aF 3<|bI h λx21 hx h=>bm (s:=.d (cM.enc x21)) (aA hx)<|aF 2<|bI h λq22 hq h=>bm (Mx (kc:=(kI .i64)) (v:=cB) (ok:=false) (mm:=x21) (key:=x10.Number) (z:=false) hq)<|aF 1<|bF<|JQ [] h) (λh=>aH 148 y9.2.2.2.2 []<|bN<|aY<|aY<|LR h (.inl ⟨y9.2.2.2.2,rfl,rfl,rfl⟩))) (by rintro _ _ (⟨v41,rfl,rfl,rfl⟩|⟨r42,rfl,rfl,hE⟩);exact have h:=jv h;bq<|ag<|au 1<|al<|iI h▸E0;exact have h:=ju h;aJ<|aq<|(by cases h;exact hE))) λjp2 h=>ax<|aa 4<|bI h λx3 hx h=>aw (s:=.d (cP.enc x3)) (aA hx)<|bI h λi4 hp_i4 h=>aw (s:=.d (.ptr i4 0)) (ba hp_i4)<|aa 1<|bI h λx5 hx h=>aw (s:=vI x5) (aA hx)<|aU [] [0,2,5,9,24] 2<|bE (λb=>(sp 148 [(0,.d (.ptr p0 0)),(2,vB p2),(5,uC p1),(9,qJ p1),(24,vB b)] H)) h (λh=>aa 12<|ak<|en κ<|au 1<|al<|aq<|iI h▸E0) λh=>aU [] [0,5,9,24,27] 3<|bE (λb=>(sp 148 [(0,.d (.ptr p0 0)),(5,uC p1),(9,qJ p1),(24,vB false),(27,vB b)] H)) h (λh=>aa 4<|bI h λx6 hx h=>qd (s:=.d (cP.enc x6)) [0,5,24,27,28,32] (aA hx)<|bI h λi7 hp_i7 h=>bA x6 (λp=>(sp 148 [(0,.d (.ptr p0 0)),(5,uC p1),(24,vB false),(27,vB true),(28,qJ p1),(32,.d (cP.enc p))] H)) κ hp_i7<|bI h λr8 hr h=>jf (ls:=[]) (kP hr)<|aa 3<|ak<|aQ h (λh=>au 1<|al<|aq<|iI h▸E0) (λh=>ao<|JQ [] h)) λh=>aa 9<|ak<|iV<|ao<|JQ [] h
def cQ(fuel:Nat)(p0:Nat)(p1:Entry)(p2:Entry)(H:Hp):Option (Bool):=
 (bz cP.cell H p0 0).bind λx1=>
 x1.bind λi2=>
 (bz cV.cells H i2 0).bind λx3=>
 (mT fuel x3 p1 p2).bind λr4=>
 bif (decide (r4<0))then
  (bz cP.cell H p0 0).bind λx5=>
  x5.bind λi6=>
  (bz (cI .i64).cell H i6 2).bind λx7=>
  bif (x7 !=1)then
   some true
  else
   (bz cP.cell H p0 0).bind λx8=>
   x8.bind λi9=>
   (bz cV.cells H i9 0).bind λx10=>
   (oa fuel x10 p1.Row p2.Row).bind λr11=>
   some (r11 !=0)
 else
  some false
theorem lU(h:cQ fuel p0 p1 p2 H=some r):SC Tryz.prog true 76 [.d (.ptr p0 0),.d (ab p1),.d (ab p2)] H (vB r) H:=by
 refine fN Tryz.func76 rfl ?_
 unfold cQ at h
 exact aH 44 H [(0,.d (.ptr p0 0)),(1,lI p1),(2,lI p2)]<|au 1<|an<|fM<|aF 3<|bI h λx1 hx h=>bm (s:=.d (cP.enc x1)) (aA hx)<|bI h λi2 hp_i2 h=>bm (s:=.d (.ptr i2 0)) (ba hp_i2)<|aF 1<|bI h λx3 hx h=>bm (s:=.d (.agg [.list 1 (List.map (D.int .i64) x3.aD),.list 1 (List.map D.bool x3.Down),.int .i64 x3.ee])) (aA hx)<|aF 2<|bI h λr4 hr h=>fk (rk hr)<|dt [] [0,4,5,18] 2<|dP (λb=>(sp 44 [(0,.d (.ptr p0 0)),(4,j6 p1),(5,j6 p2),(18,vB b)] H)) h (λh=>aF 3<|bI h λx5 hx h=>bm (s:=.d (cP.enc x5)) (aA hx)<|bI h λi6 hp_i6 h=>bm (s:=.d (.ptr i6 0)) (ba hp_i6)<|aF 2<|bI h λx7 hx h=>bm (s:=vI x7) (aA hx)<|dt [] [0,4,5,18,28] 2<|dP (λb=>(sp 44 [(0,.d (.ptr p0 0)),(4,j6 p1),(5,j6 p2),(18,vB true),(28,vB b)] H)) h (λh=>aF 16<|bF<|ag<|al<|iI h▸E0) λh=>aF 3<|bI h λx8 hx h=>bm (s:=.d (cP.enc x8)) (aA hx)<|bI h λi9 hp_i9 h=>bm (s:=.d (.ptr i9 0)) (ba hp_i9)<|aF 1<|bI h λx10 hx h=>bm (s:=.d (.agg [.list 1 (List.map (D.int .i64) x10.aD),.list 1 (List.map D.bool x10.Down),.int .i64 x10.ee])) (aA hx)<|aF 4<|bI h λr11 hr h=>fk (lj hr)<|aF 4<|bF<|ag<|al<|iI h▸E0) λh=>aF 26<|bF<|ag<|al<|iI h▸E0
def eg(fuel:Nat)(x7:Node)(q30:(Hp×Nat))(y31:(Option Entry)×(Option Entry)×Int×(List Entry)×(List Int)×Int×Hp):Option (((Option Entry)×(Option Entry)×Int×(List Entry)×(List Int)×Int×Hp)⊕((Option Entry)×(Option Entry)×Int×(List Entry)×(List Int)×Hp)):=
 bif (decide (y31.2.2.2.2.2.1<(x7.Entries.length:Int)))then
  (idx x7.Entries y31.2.2.2.2.2.1).bind λx32=>
  (db 3 aM y31.2.2.2.2.2.2 q30.2 0).bind λq33=>
  (vL fuel x32).bind λr35=>
  et (decide ((q33.1++[r35]).length<=room))<|
  (cz 3 aM q33.2 q30.2 0 (q33.1++[r35])).bind λH37=>
  some (.inl (y31.1,y31.2.1,y31.2.2.1,y31.2.2.2.1,y31.2.2.2.2.1,(IntKind.wrap .i64 (y31.2.2.2.2.2.1+1)),H37))
 else
  some (.inr (y31.1,y31.2.1,y31.2.2.1,y31.2.2.2.1,y31.2.2.2.2.1,y31.2.2.2.2.2.2))
def cw(fuel:Nat)(rc:(Nat->Int->nU->Hp->Option (((Option Nat))×Hp)))(p0:Nat)(x1:Int)(x7:Node)(j8:Int×Bool)(q30:(Hp×Nat))(v39:(Option Entry)×(Option Entry)×Int×(List Entry)×(List Int)×Hp)(y40:(Option Entry)×(Option Entry)×Int×(List Entry)×(List Int)×Int×Hp):Option (((Option Entry)×(Option Entry)×Int×(List Entry)×(List Int)×Int×Hp)⊕((Hp)⊕((((Option Nat))×Hp)))):=
 bif (decide (y40.2.2.2.2.2.1<(v39.2.2.2.2.1.length:Int)))then
  (idx v39.2.2.2.2.1 y40.2.2.2.2.2.1).bind λx41=>
  bp (λ(j42:Bool)=>
   bif j42 then
    (dW (cI .i64) y40.2.2.2.2.2.2 p0 4 x1).bind λH46=>
    some (.inr (.inr (none,H46)))
   else
    bp (λ(j47:(Option Entry))=>
     bp (λ(j50:(Option Entry))=>
      (rc p0 (IntKind.wrap .i64 (j8.1 - 1)) (⟨j47,j50⟩:nU) y40.2.2.2.2.2.2).bind λr53=>
      (Option.elim r53.1
       (some (.inr (.inr (none,r53.2))))
      (λi54=>
       (db 1 cP r53.2 q30.2 1).bind λq55=>
       et (decide ((q55.1++[(some i54)]).length<=room))<|
       (cz 1 cP q55.2 q30.2 1 (q55.1++[(some i54)])).bind λH56=>
       some (.inl (y40.1,y40.2.1,y40.2.2.1,y40.2.2.2.1,y40.2.2.2.2.1,(IntKind.wrap .i64 (y40.2.2.2.2.2.1+1)),H56))))) λjp51=>
     bif (decide (y40.2.2.2.2.2.1<(x7.Entries.length:Int)))then
      (idx y40.2.2.2.1 y40.2.2.2.2.2.1).bind λx52=>
      jp51 (some x52)
     else
      jp51 y40.2.1) λjp48=>
    bif (decide (y40.2.2.2.2.2.1>0))then
     (idx y40.2.2.2.1 (IntKind.wrap .i64 (y40.2.2.2.2.2.1 - 1))).bind λx49=>
     jp48 (some x49)
    else
     jp48 y40.1) λjp43=>
  (bz (cI .i64).cell y40.2.2.2.2.2.2 p0 2).bind λx44=>
  bif (x41 !=x44)then
   jp43 true
  else
   (bG 3 BU y40.2.2.2.2.2.2 p0 1).bind λx45=>
   jp43 (decide (x41>=(x45.length:Int)))
 else
  some (.inr (.inl y40.2.2.2.2.2.2))
def fJ(fuel:Nat)(rc:(Nat->Int->nU->Hp->Option (((Option Nat))×Hp)))(p0:Nat)(p1:Int)(p2:nU)(H:Hp):Option (((Option Nat))×Hp):=
 (bz (cI .i64).cell H p0 2).bind λx1=>
 (bG 3 BU H p0 1).bind λx2=>
 bif (decide (x1>=(x2.length:Int)))then
  (dW (cI .i64) H p0 4 x1).bind λH3=>
  some (none,H3)
 else
  (bz (cI .i64).cell H p0 2).bind λx4=>
  (dW (cI .i64) H p0 2 (IntKind.wrap .i64 (x4+1))).bind λH5=>
  (bG 3 BU H5 p0 1).bind λx6=>
  (idx x6 x1).bind λx7=>
  bp (λ(j8:Int×Bool)=>
   bp (λ(j10:Int)=>
    bp (λ(j12:Bool×Hp)=>
     bif j12.1 then
      (dW (cI .i64) j12.2 p0 4 x1).bind λH15=>
      some (none,H15)
     else
      bp (λ(j16:(Option Entry)×(Option Entry))=>
       (ko j12.2 (.cells [.own 3 (List.map ab ([]:List Entry)),.own 1 (List.map cP.enc ([]:List (Option Nat)))])).bind λq30=>
       (iter (eg fuel x7 q30) fuel (j16.1,j16.2,x7.Level,x7.Entries,x7.Kids,0,q30.1)).bind λv39=>
       (iter (cw fuel rc p0 x1 x7 j8 q30 v39) fuel (v39.1,v39.2.1,v39.2.2.1,v39.2.2.2.1,v39.2.2.2.2.1,0,v39.2.2.2.2.2)).bind (Sum.elim (λv58=>
        some ((some q30.2),v58)) (λr59=>
        some r59))) λjp17=>
      bif (decide ((x7.Entries.length:Int)>0))then
       (Option.elim p2.low
        ((Option.elim p2.high
         (jp17 (none,none))
        (λx19=>
         (idx x7.Entries (IntKind.wrap .i64 ((x7.Entries.length:Int) - 1))).bind λx20=>
         (cQ fuel p0 x20 x19 j12.2).bind λr21=>
         bif (!r21)then
          (dW (cI .i64) j12.2 p0 4 x1).bind λH22=>
          some (none,H22)
         else
          jp17 (none,(some x19)))))
       (λx18=>
        (idx x7.Entries 0).bind λx23=>
        (cQ fuel p0 x18 x23 j12.2).bind λr24=>
        bif (!r24)then
         (dW (cI .i64) j12.2 p0 4 x1).bind λH25=>
         some (none,H25)
        else
         (Option.elim p2.high
          (jp17 ((some x18),none))
         (λx26=>
          (idx x7.Entries (IntKind.wrap .i64 ((x7.Entries.length:Int) - 1))).bind λx27=>
          (cQ fuel p0 x27 x26 j12.2).bind λr28=>
          bif (!r28)then
           (dW (cI .i64) j12.2 p0 4 x1).bind λH29=>
           some (none,H29)
          else
           jp17 ((some x18),(some x26))))))
      else
       jp17 (p2.low,p2.high)) λjp13=>
    (dE fuel p0 x7 j8.2 p2 H5).bind λr14=>
    bif (((!r14.1)||(decide (x7.Level<0)))||(x7.Level !=j8.1))then
     jp13 (true,r14.2)
    else
     jp13 ((((x7.Kids.length:Int) !=j10)||(j10==1)),r14.2)) λjp11=>
   bif (decide (x7.Level>0))then
    jp11 (IntKind.wrap .i64 ((x7.Entries.length:Int)+1))
   else
    jp11 0) λjp9=>
  bif (x1==0)then
   jp9 (x7.Level,true)
  else
   jp9 (p1,false)
def dU:Nat->(Nat->Int->nU->Hp->Option (((Option Nat))×Hp))
 |0=>λ_ _ _ _=>none
 |fuel+1=>fJ fuel (dU fuel)
def Ud(x0:Entry)(x1:nU):SV:=.box [.d (.fG [.list 3 (List.map ar x0.Row),.int .i64 x0.Key,.int .i64 x0.Number]),.d (dC ab x1.high)]
def RY(x0:(Option Entry)×(Option Entry)×Int×(List Entry)×(List Int)×Int×Hp):SV:=.box [.d (dC ab x0.1),.d (dC ab x0.2.1)]
def RX(x0:(Option Entry)×(Option Entry)×Int×(List Entry)×(List Int)×Int×Hp):SV:=.box [vI x0.2.2.1,.d (.list 3 (List.map ab x0.2.2.2.1)),.d (.list 1 (List.map (D.int .i64) x0.2.2.2.2.1))]
def LY(x0:(Option Entry)×(Option Entry)×Int×(List Entry)×(List Int)×Hp):SV:=.d (.list 1 (List.map (D.int .i64) x0.2.2.2.2.1))
def LX(x0:(Option Entry)×(Option Entry)×Int×(List Entry)×(List Int)×Hp):SV:=vI (x0.2.2.2.2.1.length:Int)
def K3:=λa0 a1 a2 a3 a4 a5 a6 a7 a8 a9 (t:SL)=>((0,.d (.ptr a0 0))::(1,vI a1)::(5,RY a2)::(7,vI a3)::(9,RX a4)::(10,qJ a5)::(12,.d (.ptr a6 0))::(140,LZ a7)::(141,qJ a8)::(142,vI a9)::t:SL)
def K36:=λa0 a1 a2 a3 a4 a5 a6 (t:SL)=>((0,.d (.ptr a0 0))::(1,vI a1)::(5,RY a2)::(7,vI a3)::(9,RX a4)::(10,qJ a5)::(12,.d (.ptr a6 0))::t:SL)
def K37:=λa0 a1 a2 a3 a4 a5 a6 a7 a8 a9 (t:SL)=>((0,.d (.ptr a0 0))::(1,vI a1)::(5,.box [.d (dC ab a2),.d (dC ab a3)])::(7,vI a4)::(9,.box [vI a5,.d (.list 3 (List.map ab a6)),.d (.list 1 (List.map (D.int .i64) a7))])::(10,qJ a8)::(12,.d (.ptr a9 0))::t:SL)
def K39:=λa0 a1 a2 a3 a4 a5 (t:SL)=>((0,.d (.ptr a0 0))::(1,vI a1)::(5,Qz a2)::(7,vI a3)::(9,uC a4)::(10,qJ a5)::t:SL)
def K64:=λa0 a1 a2 a3 a4 a5 a6 a7 a8 a9 a10 (t:SL)=>((0,.d (.ptr a0 0))::(1,vI a1)::(5,RY a2)::(7,vI a3)::(9,RX a4)::(10,qJ a5)::(12,.d (.ptr a6 0))::(140,LZ a7)::(141,qJ a8)::(142,vI a9)::(146,.d (.ptr a10 0))::t:SL)
theorem va{fuel:Nat}{rc:(Nat->Int->nU->Hp->Option (((Option Nat))×Hp))}(ih: ∀{p0:Nat} {p1:Int} {p2:nU} {H:Hp} {r:((Option Nat))×Hp},rc p0 p1 p2 H=some r->SC Tryz.prog false 47 [.d (.ptr p0 0),vI p1,.d (zX p2)] H (.d (cP.enc r.1)) r.2){p0:Nat}{p1:Int}{p2:nU}{H:Hp}{r:((Option Nat))×Hp}(h:fJ fuel rc p0 p1 p2 H=some r):SC Tryz.prog false 47 [.d (.ptr p0 0),vI p1,.d (zX p2)] H (.d (cP.enc r.1)) r.2:=by
 refine cf Tryz.func47 rfl ?_
 unfold fJ at h
 exact aH 223 H (K12 p0 p1 [(2,Th p2)])<|au 1<|ax<|aa 3<|bI h λx1 hx h=>aw (s:=vI x1) (aA hx)<|aa 1<|ak<|au 1<|an<|ax<|aa 4<|bI h λx2 hx h=>aw (aV hx)<|aw (aG (enc:=b8) (xs:=x2))<|aa 1<|ak<|aQ h (λh=>ax<|aa 4<|bI h λH3 hx h=>fW hx<|ak<|au 1<|al<|aq<|iI h▸E0) (λh=>ao<|ag<|ax<|aa 3<|bI h λx4 hx h=>aw (s:=vI x4) (aA hx)<|aa 3<|bI h λH5 hx h=>fW hx<|ak<|ax<|aa 3<|bI h λx6 hx h=>aw (aV hx)<|aa 1<|bI h λx7 hx h=>aw (s:=bc (some (.az p0 1)) (b8 x7).cells) (aB (n:=3) hx)<|aa 3<|ak<|eb 223 H5 [0,1,5,7,8,9] (λ(j8:Int×Bool)=>(K12 p0 j8.1 [(5,Qz p2),(7,vI x1),(8,vB j8.2),(9,uC x7)])) h (λj8 h=>ax<|aa 2<|aw (aG (enc:=ab) (xs:=x7.Entries))<|aa 1<|ak<|au 1<|eb 223 H5 [0,1,5,7,8,9,10,11] (λ(j10:Int)=>(K12 p0 j8.1 [(5,Qz p2),(7,vI x1),(8,vB j8.2),(9,uC x7),(10,qJ x7),(11,vI j10)])) h (λj10 h=>an<|tu 223 [0,1,5,7,9,10,88] (λ(j12:Bool×Hp)=>(K39 p0 j8.1 p2 x1 x7 x7 [(88,vB j12.1)])) (λ(j12:Bool×Hp)=>j12.2) h (λj12 h=>aQ h (λh=>ax<|aa 4<|bI h λH15 hx h=>fW hx<|ak<|au 1<|al<|aq<|iI h▸E0) (λh=>ao<|ag<|eb 223 j12.2 [0,1,5,7,9,10] (λ(j16:(Option Entry)×(Option Entry))=>(K12 p0 j8.1 [(5,.box [.d (dC ab j16.1),.d (dC ab j16.2)]),(7,vI x1),(9,uC x7),(10,qJ x7)])) h (λj16 h=>ax<|aa 1<|bI h λq30 hq h=>xb [(0,3,true),(1,1,true)] hq<|aa 1<|ak<|an<|ax<|aa 2<|aw (aG (enc:=ab) (xs:=x7.Entries))<|aa 1<|ak<|aI<|bI h λv39 hit h=>mA 223 [0,1,5,7,9,10,12,140,141,142] (λy31=>(K37 p0 j8.1 y31.1 y31.2.1 x1 y31.2.2.1 y31.2.2.2.1 y31.2.2.2.2.1 x7 q30.2 [(140,LZ x7),(141,qJ x7),(142,vI y31.2.2.2.2.2.1)])) (λy31=>y31.2.2.2.2.2.2) (λv39 e s=>(e=.exit 0/\s=(sp 223 (K37 p0 j8.1 v39.1 v39.2.1 x1 v39.2.2.1 v39.2.2.2.1 v39.2.2.2.2.1 x7 q30.2 []) v39.2.2.2.2.2))) hit κ (λy31 o h=>by
  unfold eg at h;exact au 1<|an<|aQ h (λh=>ao<|ag<|an<|aI<|ax<|bI h λx32 hx h=>aw (s:=bc none (ab x32).cells) (aB (n:=3) hx)<|aa 3<|ak<|bI h λq33 hq33 h=>bI h λr35 hr_7 h=>nj h λhk36 h=>bI h λH37 hx_13 h=>aH 223 y31.2.2.2.2.2.2 (K36 p0 j8.1 y31 x1 y31 x7 q30.2 [(14,j6 x32),(140,LZ x7),(141,qJ x7),(142,vI y31.2.2.2.2.2.1)])<|mz q30.2 0 λv34=>by
   refine jb 223 H37 (K3 p0 j8.1 y31 x1 y31 x7 q30.2 x7 x7 y31.2.2.2.2.2.1 []) [0,1,2,3,4,6] 8 95 κ κ κ (λX hX=>?_) (aL<|ag<|ah<|aa 2<|ae<|LQ h)
   .have c16383:X 0 16383 (sp 223 (K3 p0 j8.1 y31 x1 y31 x7 q30.2 x7 x7 y31.2.2.2.2.2.1 []) H37):=by subst hX;exact oI κ
    have c8191:X 1 8191 (sp 223 (K3 p0 j8.1 y31 x1 y31 x7 q30.2 x7 x7 y31.2.2.2.2.2.1 [(155,zL q33 r35),(158,.d (.ptr q30.2 0))]) q33.2):=by subst hX;exact aR 13 [] ⟨tD (c:=aM) (n':=3) (s:=155) (xs:=(q33.1++[r35])) 223 [0,1,5,7,9,10,12,140,141,142] (K3 p0 j8.1 y31 x1 y31 x7 q30.2 x7 x7 y31.2.2.2.2.2.1 []) hx_13 κ κ<|ae c16383,trivial⟩
    have c4095:X 2 4095 (sp 223 (K3 p0 j8.1 y31 x1 y31 x7 q30.2 x7 x7 y31.2.2.2.2.2.1 [(155,zL q33 r35),(157,.d (.ptr q30.2 0))]) q33.2):=by subst hX;exact aR 12 [] ⟨bf 223 q33.2 [151] [0,1,5,7,9,10,12,140,141,142,155,158] 1 (K3 p0 j8.1 y31 x1 y31 x7 q30.2 x7 x7 y31.2.2.2.2.2.1 [(155,zL q33 r35),(158,.d (.ptr q30.2 0))]) κ<|ae c8191,trivial⟩
    have c2047:X 3 2047 (sp 223 (K3 p0 j8.1 y31 x1 y31 x7 q30.2 x7 x7 y31.2.2.2.2.2.1 [(155,zL q33 r35),(156,.d (.ptr q30.2 0))]) q33.2):=by subst hX;exact aR 11 [] ⟨bf 223 q33.2 [151] [0,1,5,7,9,10,12,140,141,142,155,157] 1 (K3 p0 j8.1 y31 x1 y31 x7 q30.2 x7 x7 y31.2.2.2.2.2.1 [(155,zL q33 r35),(157,.d (.ptr q30.2 0))]) κ<|ae c4095,trivial⟩
    have c1023:X 4 1023 (sp 223 (K64 p0 j8.1 y31 x1 y31 x7 q30.2 x7 x7 y31.2.2.2.2.2.1 q30.2 [(155,zL q33 r35)]) q33.2):=by subst hX;exact aR 10 [] ⟨bf 223 q33.2 [151] [0,1,5,7,9,10,12,140,141,142,155,156] 1 (K3 p0 j8.1 y31 x1 y31 x7 q30.2 x7 x7 y31.2.2.2.2.2.1 [(155,zL q33 r35),(156,.d (.ptr q30.2 0))]) κ<|ae c2047,trivial⟩
    have c511:X 5 511 (sp 223 (K64 p0 j8.1 y31 x1 y31 x7 q30.2 x7 x7 y31.2.2.2.2.2.1 q30.2 [(151,.d (.raw v34)),(154,sm r35)]) (dY y31.2.2.2.2.2.2 q30.2 0 v34)):=by subst hX;exact aR 9 [] ⟨nZ (c:=aM) (n':=3) (t:=151) [0,1,5,7,9,10,12,140,141,142,146,151,154] (K64 p0 j8.1 y31 x1 y31 x7 q30.2 x7 x7 y31.2.2.2.2.2.1 q30.2 [(151,zM q33),(154,sm r35)]) hq33 κ κ κ<|n8 223 q33.2 (s:=151) (d:=155) (w:=3) [0,1,5,7,9,10,12,140,141,142,146,155] (zs:=List.map ab (q33.1++[r35])) (K64 p0 j8.1 y31 x1 y31 x7 q30.2 x7 x7 y31.2.2.2.2.2.1 q30.2 [(155,zL q33 r35)]) (ys:=(List.map ab [r35])) κ (bt) (bZ hk36) κ<|ae c1023,trivial⟩
    have c255:X 6 255 (sp 223 (K64 p0 j8.1 y31 x1 y31 x7 q30.2 x7 x7 y31.2.2.2.2.2.1 q30.2 [(151,.d (.raw v34)),(153,lI r35)]) (dY y31.2.2.2.2.2.2 q30.2 0 v34)):=by subst hX;exact aR 8 [] ⟨bf 223 (dY y31.2.2.2.2.2.2 q30.2 0 v34) [151] [0,1,5,7,9,10,12,140,141,142,146,151,154] 1 (K64 p0 j8.1 y31 x1 y31 x7 q30.2 x7 x7 y31.2.2.2.2.2.1 q30.2 [(151,.d (.raw v34)),(154,sm r35)]) κ<|ae c511,trivial⟩
    have c127:X 7 127 (sp 223 (K64 p0 j8.1 y31 x1 y31 x7 q30.2 x7 x7 y31.2.2.2.2.2.1 q30.2 [(151,.d (.raw v34)),(152,lI x32)]) (dY y31.2.2.2.2.2.2 q30.2 0 v34)):=by subst hX;exact aR 7 [] ⟨eO 223 (dY y31.2.2.2.2.2.2 q30.2 0 v34) (d:=some 153) (ls:=[]) (gs:=[]) [] [0,1,5,7,9,10,12,140,141,142,146,151,153] (K64 p0 j8.1 y31 x1 y31 x7 q30.2 x7 x7 y31.2.2.2.2.2.1 q30.2 [(151,.d (.raw v34)),(153,.d (.agg [.list 3 (List.map ar r35.Row),.int .i64 r35.Key,.int .i64 r35.Number]))]) (lS hr_7) κ κ κ<|ae c255,trivial⟩
    have c479:X 6 479 (sp 223 (K64 p0 j8.1 y31 x1 y31 x7 q30.2 x7 x7 y31.2.2.2.2.2.1 q30.2 [(150,.d (.ptr q30.2 0)),(154,sm r35)]) (dY y31.2.2.2.2.2.2 q30.2 0 v34)):=by subst hX;exact aR 5 [] ⟨fV 223 (dY y31.2.2.2.2.2.2 q30.2 0 v34) (d:=some 151) (s:=.d (.raw v34)) [0,1,5,7,9,10,12,140,141,142,146,151,154] (K64 p0 j8.1 y31 x1 y31 x7 q30.2 x7 x7 y31.2.2.2.2.2.1 q30.2 [(151,.d (.raw v34)),(154,sm r35)]) (gZ (c:=aM) (n':=3) hq33 κ) κ<|ae c511,trivial⟩
    have c223:X 7 223 (sp 223 (K64 p0 j8.1 y31 x1 y31 x7 q30.2 x7 x7 y31.2.2.2.2.2.1 q30.2 [(150,.d (.ptr q30.2 0)),(153,lI r35)]) (dY y31.2.2.2.2.2.2 q30.2 0 v34)):=by subst hX;exact aR 5 [8] ⟨bb (d:=some 151) (s:=.d (.raw v34)) (K64 p0 j8.1 y31 x1 y31 x7 q30.2 x7 x7 y31.2.2.2.2.2.1 q30.2 [(151,.d (.raw v34)),(153,lI r35)]) (gZ (c:=aM) (n':=3) hq33 κ)<|ae c255,bf 223 (dY y31.2.2.2.2.2.2 q30.2 0 v34) [151] [0,1,5,7,9,10,12,140,141,142,146,150,154] 1 (K64 p0 j8.1 y31 x1 y31 x7 q30.2 x7 x7 y31.2.2.2.2.2.1 q30.2 [(150,.d (.ptr q30.2 0)),(154,sm r35)]) κ<|ae c479,trivial⟩
    have c95:X 8 95 (sp 223 (K64 p0 j8.1 y31 x1 y31 x7 q30.2 x7 x7 y31.2.2.2.2.2.1 q30.2 [(150,.d (.ptr q30.2 0)),(152,lI x32)]) (dY y31.2.2.2.2.2.2 q30.2 0 v34)):=by subst hX;exact aR 5 [7] ⟨bb (d:=some 151) (s:=.d (.raw v34)) (K64 p0 j8.1 y31 x1 y31 x7 q30.2 x7 x7 y31.2.2.2.2.2.1 q30.2 [(151,.d (.raw v34)),(152,lI x32)]) (gZ (c:=aM) (n':=3) hq33 κ)<|ae c127,rU (some 153) (K64 p0 j8.1 y31 x1 y31 x7 q30.2 x7 x7 y31.2.2.2.2.2.1 q30.2 [(150,.d (.ptr q30.2 0)),(153,lI r35)]) (lS hr_7)<|ae c223,trivial⟩
    refine aC<|aC<|aC<|aC<|aC<|du 223 (dY y31.2.2.2.2.2.2 q30.2 0 v34) [0,1,5,7,9,10,12,140,141,142,146,150,152] (K64 p0 j8.1 y31 x1 y31 x7 q30.2 x7 x7 y31.2.2.2.2.2.1 q30.2 [(150,.d (.ptr q30.2 0)),(152,lI x32)]) κ<|dZ ?_
    exact c95) (λh=>aH 223 y31.2.2.2.2.2.2 (K36 p0 j8.1 y31 x1 y31 x7 q30.2 [])<|bN<|aY<|aY<|LR h ⟨rfl,rfl⟩)) (by rintro _ _ ⟨rfl,rfl⟩;exact bq<|ag<|an<|ax<|aa 2<|aw (aG (enc:=(D.int .i64)) (xs:=v39.2.2.2.2.1))<|aa 1<|ak<|aI<|bI h λz57 hit h=>mA 223 [0,1,5,7,9,10,12,161,162,163] (λy40=>(K37 p0 j8.1 y40.1 y40.2.1 x1 y40.2.2.1 y40.2.2.2.1 y40.2.2.2.2.1 x7 q30.2 [(161,LY v39),(162,LX v39),(163,vI y40.2.2.2.2.2.1)])) (λy40=>y40.2.2.2.2.2.2) (λb e s=>((∃v58,b=(.inl v58)/\(e=.exit 2/\s=(sp 223 [(12,.d (.ptr q30.2 0))] v58)))\/(∃r59,b=(.inr r59)/\(e=.ret/\dp Tryz.prog Tryz.f47.results.toList r59.2 (.d (cP.enc r59.1)) .ret s)))) hit κ (λy40 o h=>by unfold cw at h;exact au 1<|an<|aQ h (λh=>ao<|ag<|an<|aI<|ax<|aa 1<|bI h λx41 hx h=>aw (s:=bc none (Go.Sh.D.cells ((D.int .i64) x41))) (aB (n:=1) hx)<|aa 3<|ak<|an<|eb 223 y40.2.2.2.2.2.2 [0,1,5,7,9,10,12,15,161,162,163,182] (λ(j42:Bool)=>(K36 p0 j8.1 y40 x1 y40 x7 q30.2 [(15,vI y40.2.2.2.2.2.1),(161,LY v39),(162,LX v39),(163,vI y40.2.2.2.2.2.1),(182,vB j42)])) h (λj42 h=>aQ h (λh=>ax<|aa 4<|bI h λH46 hx h=>fW hx<|ak<|au 1<|al<|aq<|aJ<|aq<|aq<|LR h (.inr (⟨(none,H46),rfl,rfl,dp.ret [] κ κ⟩))) (λh=>ao<|ag<|au 1<|eb 223 y40.2.2.2.2.2.2 [0,1,5,7,9,10,12,15,17,161,162,163] (λ(j47:(Option Entry))=>(K36 p0 j8.1 y40 x1 y40 x7 q30.2 [(15,vI y40.2.2.2.2.2.1),(17,.box [.d (dC ab j47),.d (dC ab y40.2.1)]),(161,LY v39),(162,LX v39),(163,vI y40.2.2.2.2.2.1)])) h (λj47 h=>eb 223 y40.2.2.2.2.2.2 [0,1,5,7,9,10,12,17,161,162,163] (λ(j50:(Option Entry))=>(K36 p0 j8.1 y40 x1 y40 x7 q30.2 [(17,.box [.d (dC ab j47),.d (dC ab j50)]),(161,LY v39),(162,LX v39),(163,vI y40.2.2.2.2.2.1)])) h (λj50 h=>ax<|aa 4<|bI h λr53 hr h=>bJ (ih hr)<|aa 1<|ak<|an<|ax<|aU [] [0,1,5,7,9,10,12,18,161,162,163,209] 1<|Cb r53.1 (λp=>(sp 223 (K36 p0 j8.1 y40 x1 y40 x7 q30.2 [(18,.d (cP.enc p)),(161,LY v39),(162,LX v39),(163,vI y40.2.2.2.2.2.1),(209,.d (cP.enc p))]) r53.2)) κ (λhp=>by rw[hp]at h;exact have h:=po h;aa 1<|ak<|en κ<|au 1<|al<|aq<|aJ<|aq<|aq<|LR h (.inr (⟨(none,r53.2),rfl,rfl,dp.ret [] κ κ⟩))) (λi54 hp=>by rw[hp]at h;exact have h:=pn h;aa 1<|ak<|iV<|ao<|ag<|ah<|aP [215] 4<|bI h λq55 hq h=>jn hq<|aP [215] 2<|nj h λhk h=>fx 215 1 (List.map cP.enc (q55.1++[(some i54)])) (bt) (bZ hk)<|aP [215] 2<|bI h λH56 hx h=>fw 218 hx<|ae<|aL<|ag<|ah<|aa 2<|ae<|LQ h)) λjp51 h=>au 1<|aQ h (λh=>ah<|aa 3<|bI h λx52 hx h=>aw (s:=bc none (ab x52).cells) (aB (n:=3) hx)<|aa 2<|ae<|JQ [] h) (λh=>ao<|JQ [] h)) λjp48 h=>au 1<|aQ h (λh=>ah<|aa 4<|bI h λx49 hx h=>aw (s:=bc none (ab x49).cells) (aB (n:=3) hx)<|aa 2<|ae<|JQ [] h) (λh=>ao<|JQ [] h))) λjp43 h=>ah<|aa 4<|bI h λx44 hx h=>aw (s:=vI x44) (aA hx)<|aU [] [0,1,5,7,9,10,12,15,16,161,162,163,174] 2<|bE (λb=>(sp 223 (K36 p0 j8.1 y40 x1 y40 x7 q30.2 [(15,vI y40.2.2.2.2.2.1),(16,vI x41),(161,LY v39),(162,LX v39),(163,vI y40.2.2.2.2.2.1),(174,vB b)]) y40.2.2.2.2.2.2)) h (λh=>aa 8<|ae<|JQ [] h) λh=>aa 4<|bI h λx45 hx h=>aw (aV hx)<|aw (aG (enc:=b8) (xs:=x45))<|aa 2<|ae<|JQ [] h) (λh=>aH 223 y40.2.2.2.2.2.2 [(12,.d (.ptr q30.2 0))]<|bN<|aY<|aY<|LR h (.inl ⟨y40.2.2.2.2.2.2,rfl,rfl,rfl⟩))) (by rintro _ _ (⟨v58,rfl,rfl,rfl⟩|⟨r59,rfl,rfl,hE⟩);exact have h:=jv h;bq<|ag<|au 1<|al<|iI h▸E0;exact have h:=ju h;aJ<|aq<|(by cases h;exact hE)))) λjp17 h=>an<|fM<|dt [] [0,1,5,7,9,10,95] 3<|dP (λb=>(sp 223 (K39 p0 j8.1 p2 x1 x7 x7 [(95,vB b)]) j12.2)) h (λh=>dt [] [0,1,5,7,9,10,95,97] 2<|iH p2.low (λp=>(sp 223 (K12 p0 j8.1 [(5,.box [.d (dC ab p),.d (dC ab p2.high)]),(7,vI x1),(9,uC x7),(10,qJ x7),(95,vB true),(97,.d (dC ab p))]) j12.2)) κ (λhp_x18=>by rw[hp_x18]at h;exact have h:=po h;dt [] [0,1,5,7,9,10,95,112,114] 17<|iH p2.high (λp=>(sp 223 (K12 p0 j8.1 [(5,.box [.d (.fU),.d (dC ab p)]),(7,vI x1),(9,uC x7),(10,qJ x7),(95,vB true),(112,vB false),(114,.d (dC ab p))]) j12.2)) κ (λhp_x19=>by rw[hp_x19]at h;exact have h:=po h;aF 18<|bF<|ag<|iV<|ao<|JQ [] h) (λx19 hp_x19=>by rw[hp_x19]at h;exact have h:=pn h;aF 7<|bI h λx20 hx h=>bm (s:=bc none (ab x20).cells) (aB (n:=3) hx)<|aF 5<|bI h λr21 hr h=>jN (ls:=[]) (lU hr)<|aF 4<|bF<|ag<|aQ h (λh=>ax<|aa 4<|bI h λH22 hx h=>fW hx<|ak<|au 1<|al<|aq<|iI h▸E0) (λh=>ao<|JQ [] h))) (λx18 hp_x18=>by rw[hp_x18]at h;exact have h:=pn h;aF 9<|bI h λx23 hx h=>bm (s:=bc none (ab x23).cells) (aB (n:=3) hx)<|aF 1<|bI h λr24 hr h=>jN (ls:=[]) (lU hr)<|dt [] [0,1,5,7,9,10,95,112] 3<|dP (λb=>(sp 223 (K12 p0 j8.1 [(5,Ud x18 p2),(7,vI x1),(9,uC x7),(10,qJ x7),(95,vB true),(112,vB b)]) j12.2)) h (λh=>aF 20<|bF<|ag<|en κ<|ax<|aa 4<|bI h λH25 hx h=>fW hx<|ak<|au 1<|al<|aq<|iI h▸E0) λh=>dt [] [0,1,5,7,9,10,95,112,114] 2<|iH p2.high (λp=>(sp 223 (K12 p0 j8.1 [(5,.box [.d (.fG [.list 3 (List.map ar x18.Row),.int .i64 x18.Key,.int .i64 x18.Number]),.d (dC ab p)]),(7,vI x1),(9,uC x7),(10,qJ x7),(95,vB true),(112,vB false),(114,.d (dC ab p))]) j12.2)) κ (λhp_x26=>by rw[hp_x26]at h;exact have h:=po h;aF 18<|bF<|ag<|iV<|ao<|JQ [] h) (λx26 hp_x26=>by rw[hp_x26]at h;exact have h:=pn h;aF 7<|bI h λx27 hx h=>bm (s:=bc none (ab x27).cells) (aB (n:=3) hx)<|aF 5<|bI h λr28 hr h=>jN (ls:=[]) (lU hr)<|aF 4<|bF<|ag<|aQ h (λh=>ax<|aa 4<|bI h λH29 hx h=>fW hx<|ak<|au 1<|al<|aq<|iI h▸E0) (λh=>ao<|JQ [] h)))) λh=>aF 37<|bF<|ag<|iV<|ao<|JQ [] h)) λjp13 h=>ah<|aa 4<|bI h λr14 hr h=>bJ (vM hr)<|aU [] [0,1,5,7,9,10,11,67] 2<|dO 223 r14.2 [0,1,5,7,9,10,11,71] 4 (!r14.1) (λb=>(sp 223 (K39 p0 j8.1 p2 x1 x7 x7 [(11,vI j10),(67,vB b)]) r14.2)) (λb=>(K39 p0 j8.1 p2 x1 x7 x7 [(11,vI j10),(71,vB (b||(decide (x7.Level<0))))])) κ κ κ<|aU [] [0,1,5,7,9,10,11,72] 1<|dO 223 r14.2 [0,1,5,7,9,10,11,77] 5 ((!r14.1)||(decide (x7.Level<0))) (λb=>(sp 223 (K39 p0 j8.1 p2 x1 x7 x7 [(11,vI j10),(72,vB b)]) r14.2)) (λb=>(K39 p0 j8.1 p2 x1 x7 x7 [(11,vI j10),(77,vB (b||(x7.Level !=j8.1)))])) κ κ κ<|aU [] [0,1,5,7,9,10,11,78] 1<|bE (λb=>(sp 223 (K39 p0 j8.1 p2 x1 x7 x7 [(11,vI j10),(78,vB b)]) r14.2)) h (λh=>aa 10<|ae<|JQ [] h) λh=>aa 2<|aw (aG (enc:=(D.int .i64)) (xs:=x7.Kids))<|aU [] [0,1,5,7,9,10,11,85] 4<|dO 223 r14.2 [0,1,5,7,9,10,88] 3 ((x7.Kids.length:Int) !=j10) (λb=>(sp 223 (K39 p0 j8.1 p2 x1 x7 x7 [(11,vI j10),(85,vB b)]) r14.2)) (λb=>(K39 p0 j8.1 p2 x1 x7 x7 [(88,vB (b||(j10==1)))])) κ κ κ<|ae<|JQ [] h) λjp11 h=>au 1<|aQ h (λh=>ah<|aa 3<|ae<|JQ [] h) (λh=>ao<|JQ [] h)) λjp9 h=>mS 1 [0,1,5,7,8,9,50]<|OV (x1==0) (λb=>(sp 223 (K12 p0 p1 [(5,Qz p2),(7,vI x1),(8,vB b),(9,uC x7),(50,vB b)]) H5)) κ (λhc=>have h:=fP hc h;en κ<|ah<|aa 3<|ae<|JQ [] h) (λhc=>have h:=fQ hc h;iV<|ao<|JQ [] h))
end
theorem xu{fuel:Nat}: ∀{p0:Nat} {p1:Int} {p2:nU} {H:Hp} {r:((Option Nat))×Hp},dU fuel p0 p1 p2 H=some r->SC Tryz.prog false 47 [.d (.ptr p0 0),vI p1,.d (zX p2)] H (.d (cP.enc r.1)) r.2:=by
 induction fuel with
 |zero=>intros;rename_i h;exact nomatch (show(none:Option (((Option Nat))×Hp))=some _ from h)
 |succ fuel ih=>exactλh=>va ih h
def oZ(fuel:Nat)(p0:ay)(p1:Int)(p2:Int)(p3:(List Node))(H:Hp):Option (((Option Nat)×Int×Int)×Hp):=
 (yF fuel p0 p1 H).bind λr1=>
 bif (r1.1.2 !=0)then
  some ((none,0,r1.1.2),r1.2)
 else
  bif (decide (p2<0))then
   some ((none,0,7),r1.2)
  else
   r1.1.1.bind λi2=>
   (dW (cI .i64) r1.2 i2 5 p2).bind λH3=>
   (ko H3 (.map [])).bind λq4=>
   r1.1.1.bind λi5=>
   (ko q4.1 (.cells [.d (.ptr i5 0),.d (.list 3 (List.map b8 p3)),.d (.int .i64 0),.d (.map q4.2),.d (.int .i64 0)])).bind λq6=>
   (dU fuel q6.2 0 (⟨none,none⟩:nU) q6.1).bind λr7=>
   bp (λ(j8:(Option Nat)×Bool)=>
    bif j8.2 then
     (bz (cI .i64).cell r7.2 q6.2 4).bind λx11=>
     some ((none,x11,12),r7.2)
    else
     (bz (cI .i64).cell r7.2 q6.2 2).bind λx12=>
     bif (decide (x12<(p3.length:Int)))then
      (bz (cI .i64).cell r7.2 q6.2 2).bind λx13=>
      some ((none,x13,12),r7.2)
     else
      (bz cM.cell r7.2 q6.2 3).bind λx14=>
      (Ex (kI .i64) cB r7.2 x14).bind λq15=>
      bif (decide (q15>500))then
       some ((none,0,4),r7.2)
      else
       (bz cM.cell r7.2 q6.2 3).bind λx16=>
       (Ex (kI .i64) cB r7.2 x16).bind λq17=>
       (dW cP r7.2 i5 4 j8.1).bind λH18=>
       (dW (cI .i64) H18 i5 6 q17).bind λH19=>
       (iw fuel p0.aD).bind λr20=>
       (dW (cL 1 (cI .i64)) H19 i5 0 r20).bind λH21=>
       some (((some i5),(-1),0),H21)) λjp9=>
   (Option.elim r7.1
    (jp9 (none,true))
   (λi10=>
    jp9 ((some i10),false)))
section
attribute [local irreducible] bX jR lM lQ SW uS
theorem CV(h:oZ fuel p0 p1 p2 p3 H=some r):SC Tryz.prog false 15 [.d (cD p0),vI p1,vI p2,.d (.list 3 (List.map b8 p3))] H (.g8 [.d (cP.enc r.1.1),vI r.1.2.1,vI r.1.2.2]) r.2:=by
 refine cf Tryz.func15 rfl ?_
 unfold oZ at h
 exact aH 84 H [(0,Z2 p0),(1,vI p1),(2,vI p2),(3,vF p3)]<|au 1<|ax<|aa 2<|bI h λr1 hr h=>bJ (Aw hr)<|aa 5<|ak<|an<|au 1<|aQ h (λh=>au 1<|al<|aq<|iI h▸E0) (λh=>ao<|ag<|an<|au 1<|aQ h (λh=>au 1<|al<|aq<|iI h▸E0) (λh=>ao<|ag<|ax<|aa 2<|bI h λi2 hp_i2 h=>aw (s:=.d (.ptr i2 0)) (ba hp_i2)<|aa 1<|bI h λH3 hx h=>fW hx<|ak<|ax<|aa 2<|bI h λq4 hq h=>qT 84 q4.1 (d:=some 32) (b:=true) [] [3,4,11,30,31,32] [(3,vF p3),(4,Z1 p0),(11,.d (cP.enc r1.1.1)),(30,.d (cP.enc r1.1.1)),(31,vF p3),(32,.d (.map q4.2))] hq κ rfl κ<|bI h λi5 hp_i5 h=>bA r1.1.1 (λp=>(sp 84 [(3,vF p3),(4,Z1 p0),(11,.d (cP.enc p)),(30,.d (cP.enc p)),(31,vF p3),(32,.d (.map q4.2))] q4.1)) κ hp_i5<|aa 1<|bI h λq6 hq h=>xb [] hq<|aa 1<|ak<|ax<|aa 2<|bI h λr7 hr h=>bJ (xu hr)<|aa 1<|ak<|an<|aI<|eb 84 r7.2 [3,4,11,13,14,38] (λ(j8:(Option Nat)×Bool)=>[(3,vF p3),(4,Z1 p0),(11,.d (.ptr i5 0)),(13,.d (.ptr q6.2 0)),(14,.d (cP.enc j8.1)),(38,vB j8.2)]) h (λj8 h=>aQ h (λh=>an<|bI h λx11 hx11 h=>zm [(13,.d (.ptr q6.2 0))]<|fj [0,1,2,3,4,5,6] [] κ κ<|aC<|aC<|aC<|cd (s:=vI x11) (aA hx11)<|aC<|aC<|aC<|dZ<|ak<|al<|aJ<|aq<|iI h▸E0) (λh=>ax<|aa 3<|bI h λx12 hx h=>aw (s:=vI x12) (aA hx)<|aa 1<|aw (aG (enc:=b8) (xs:=p3))<|aa 2<|ak<|aQ h (λh=>an<|bI h λx13 hx13 h=>aH 84 r7.2 [(13,.d (.ptr q6.2 0))]<|fj [0,1,2,3,4,5,6] [] κ κ<|aC<|aC<|aC<|cd (s:=vI x13) (aA hx13)<|aC<|aC<|aC<|dZ<|ak<|al<|aJ<|aq<|iI h▸E0) (λh=>ax<|aa 3<|bI h λx14 hx h=>aw (s:=.d (cM.enc x14)) (aA hx)<|bI h λq15 hq h=>aw (s:=.d (.int .i64 q15)) (DW (kc:=(kI .i64)) (v:=cB) (mm:=x14) hq)<|aa 2<|ak<|aQ h (λh=>au 1<|al<|aJ<|aq<|iI h▸E0) (λh=>ao<|aL<|ag<|ax<|aa 6<|bI h λx16 hx h=>aw (s:=.d (cM.enc x16)) (aA hx)<|bI h λq17 hq h=>aw (s:=.d (.int .i64 q17)) (DW (kc:=(kI .i64)) (v:=cB) (mm:=x16) hq)<|aU [] [4,11,65,66,71,73] 2<|bI h λH18 hx h=>DM 84 H18 [4,11,65,71] [(4,Z1 p0),(11,.d (.ptr i5 0)),(65,.d (.ptr i5 0)),(71,vI q17)] hx κ κ<|aa 2<|bI h λH19 hx h=>fW hx<|ak<|ax<|aa 3<|bI h λr20 hr h=>bw (rW hr)<|aa 3<|uk 79<|bI h λH21 hx h=>fW hx<|ak<|au 1<|al<|iI h▸E0)))) λjp9 h=>ah<|aU [] [3,4,11,13,14,39] 1<|Cb r7.1 (λp=>(sp 84 [(3,vF p3),(4,Z1 p0),(11,.d (.ptr i5 0)),(13,.d (.ptr q6.2 0)),(14,.d (cP.enc p)),(39,.d (cP.enc p))] r7.2)) κ (λhp=>by rw[hp]at h;exact have h:=po h;aa 2<|ae<|JQ [] h) (λi10 hp=>by rw[hp]at h;exact have h:=pn h;aa 2<|ae<|JQ [] h)))
noncomputable def nC (fuel:Nat) (p0:Nat) (H:Hp):Option (((Option Nat))×Hp):=
 (bz cV.cells H p0 0).bind λx1=>
 (bz (cI .i64).cell H p0 3).bind λx2=>
 (bz (cI .i64).cell H p0 5).bind λx3=>
 (ir fuel p0 H).bind λr4=>
 (oZ fuel x1 x2 x3 r4.1 r4.2).bind λr5=>
 (bz (cI .i64).cell r4.2 p0 5).bind λx6=>
 G0 x3 x6<|
 (bz (cI .i64).cell r4.2 p0 3).bind λx7=>
 G0 x2 x7<|
 (bz cV.cells r4.2 p0 0).bind λx8=>
 G0 x1 x8<|
 some (r5.1.1,r5.2)
def kr(x0:(((Option Nat)×Int×Int)×Hp)):SV:=.g8 [.d (cP.enc x0.1.1),vI x0.1.2.1,vI x0.1.2.2]
def jL(x0:(((List Node))×Hp)):SV:=.d (.list 3 (List.map b8 x0.1))
def K44:=λa0 a1 (t:SL)=>((12,Z2 a0)::(15,.d (.ptr a1 3))::t:SL)
def K45:=λa0 a1 (t:SL)=>((11,.d (.ptr a0 0))::(16,vI a1)::t:SL)
def K46:=λa0 a1 (t:SL)=>((11,.d (.ptr a0 0))::(15,.d (.ptr a1 3))::t:SL)
def K48:=λa0 a1 (t:SL)=>((12,Z2 a0)::(16,vI a1)::t:SL)
def K51:=λa0 a1 (t:SL)=>((3,.d (cP.enc a0))::(8,kr a1)::t:SL)
def K58:=λa0 a1 (t:SL)=>((8,kr a0)::(24,.d (cP.enc a1))::t:SL)
theorem Av(h:nC fuel p0 H=some r):SC Tryz.prog false 40 [.d (.ptr p0 0)] H (.d (cP.enc r.1)) r.2:=by
 refine cf Tryz.func40 rfl ?_
 unfold nC at h
 exact aH 28 H [(0,.d (.ptr p0 0))]<|au 1<|an<|au 1<|iV<|ao<|ag<|an<|bI h λx1 hx1 h=>bI h λx2 hx2 h=>bI h λx3 hx3 h=>bI h λr4 hr_13 h=>bI h λr5 hr_14 h=>bI h λx6 hx6 h=>by
  replace h:=wQ h;obtain⟨rfl,h⟩:=h;exact bI h λx7 hx7 h=>by
   replace h:=wQ h;obtain⟨rfl,h⟩:=h;exact bI h λx8 hx8 h=>by
    replace h:=wQ h;obtain⟨rfl,h⟩:=h;exact aH 28 H [(0,.d (.ptr p0 0))]<|(by
     refine jb 28 r5.2 [(3,.d (cP.enc r5.1.1))] [0,1,2,4,5,6,8,9,10,12] 12 6007 κ κ κ (λX hX=>?_) (ag<|au 1<|al<|iI h▸E0)
     .have c4194303:X 0 4194303 (sp 28 [(3,.d (cP.enc r5.1.1))] r5.2):=by subst hX;exact oI κ
      have c2097151:X 1 2097151 (sp 28 [(3,.d (cP.enc r5.1.1)),(26,vI r5.1.2.2)] r5.2):=by subst hX;exact aR 21 [] ⟨bf 28 r5.2 [] [3] 1 [(3,.d (cP.enc r5.1.1))] κ<|ae c4194303,trivial⟩
      have c1048575:X 2 1048575 (sp 28 [(3,.d (cP.enc r5.1.1)),(25,vI r5.1.2.1),(26,vI r5.1.2.2)] r5.2):=by subst hX;exact aR 20 [] ⟨bf 28 r5.2 [] [3,26] 1 [(3,.d (cP.enc r5.1.1)),(26,vI r5.1.2.2)] κ<|ae c2097151,trivial⟩
      have c524287:X 3 524287 (sp 28 [(24,.d (cP.enc r5.1.1)),(25,vI r5.1.2.1),(26,vI r5.1.2.2)] r5.2):=by subst hX;exact aR 19 [] ⟨bf 28 r5.2 [] [3,25,26] 1 [(3,.d (cP.enc r5.1.1)),(25,vI r5.1.2.1),(26,vI r5.1.2.2)] κ<|ae c1048575,trivial⟩
      have c1835007:X 2 1835007 (sp 28 (K51 r5.1.1 r5 []) r5.2):=by subst hX;exact aR 18 [] ⟨bf 28 r5.2 [] [3,26] 1 [(3,.d (cP.enc r5.1.1)),(26,vI r5.1.2.2)] κ<|ae c2097151,trivial⟩
      have c786431:X 3 786431 (sp 28 (K51 r5.1.1 r5 [(25,vI r5.1.2.1)]) r5.2):=by subst hX;exact aR 18 [20] ⟨aK 1 [(3,.d (cP.enc r5.1.1)),(25,vI r5.1.2.1),(26,vI r5.1.2.2)]<|ae c1048575,aK 1 (K51 r5.1.1 r5 [])<|ae c1835007,trivial⟩
      have c262143:X 4 262143 (sp 28 (K58 r5 r5.1.1 [(25,vI r5.1.2.1)]) r5.2):=by subst hX;exact aR 18 [19] ⟨aK 1 [(24,.d (cP.enc r5.1.1)),(25,vI r5.1.2.1),(26,vI r5.1.2.2)]<|ae c524287,aK 1 (K51 r5.1.1 r5 [(25,vI r5.1.2.1)])<|ae c786431,trivial⟩
      have c917503:X 3 917503 (sp 28 (K51 r5.1.1 r5 [(26,vI r5.1.2.2)]) r5.2):=by subst hX;exact aR 17 [] ⟨bf 28 r5.2 [] [3,25,26] 1 [(3,.d (cP.enc r5.1.1)),(25,vI r5.1.2.1),(26,vI r5.1.2.2)] κ<|ae c1048575,trivial⟩
      have c393215:X 4 393215 (sp 28 (K58 r5 r5.1.1 [(26,vI r5.1.2.2)]) r5.2):=by subst hX;exact aR 17 [19] ⟨aK 1 [(24,.d (cP.enc r5.1.1)),(25,vI r5.1.2.1),(26,vI r5.1.2.2)]<|ae c524287,aK 1 (K51 r5.1.1 r5 [(26,vI r5.1.2.2)])<|ae c917503,trivial⟩
      have c655359:X 4 655359 (sp 28 (K51 r5.1.1 r5 []) r5.2):=by subst hX;exact aR 17 [18] ⟨aK 1 (K51 r5.1.1 r5 [(25,vI r5.1.2.1)])<|ae c786431,aK 1 (K51 r5.1.1 r5 [(26,vI r5.1.2.2)])<|ae c917503,trivial⟩
      have c131071:X 5 131071 (sp 28 (K58 r5 r5.1.1 []) r5.2):=by subst hX;exact aR 17 [18,19] ⟨aK 1 (K58 r5 r5.1.1 [(25,vI r5.1.2.1)])<|ae c262143,aK 1 (K58 r5 r5.1.1 [(26,vI r5.1.2.2)])<|ae c393215,aK 1 (K51 r5.1.1 r5 [])<|ae c655359,trivial⟩
      have c458751:X 4 458751 (sp 28 [(8,kr r5),(25,vI r5.1.2.1),(26,vI r5.1.2.2)] r5.2):=by subst hX;exact aR 16 [] ⟨bf 28 r5.2 [] [24,25,26] 1 [(24,.d (cP.enc r5.1.1)),(25,vI r5.1.2.1),(26,vI r5.1.2.2)] κ<|ae c524287,trivial⟩
      have c196607:X 5 196607 (sp 28 [(8,kr r5),(25,vI r5.1.2.1)] r5.2):=by subst hX;exact aR 16 [18] ⟨aK 1 (K58 r5 r5.1.1 [(25,vI r5.1.2.1)])<|ae c262143,aK 1 [(8,kr r5),(25,vI r5.1.2.1),(26,vI r5.1.2.2)]<|ae c458751,trivial⟩
      have c327679:X 5 327679 (sp 28 [(8,kr r5),(26,vI r5.1.2.2)] r5.2):=by subst hX;exact aR 16 [17] ⟨aK 1 (K58 r5 r5.1.1 [(26,vI r5.1.2.2)])<|ae c393215,aK 1 [(8,kr r5),(25,vI r5.1.2.1),(26,vI r5.1.2.2)]<|ae c458751,trivial⟩
      have c65535:X 6 65535 (sp 28 [(8,kr r5)] r5.2):=by subst hX;exact aR 16 [17,18] ⟨aK 1 (K58 r5 r5.1.1 [])<|ae c131071,aK 1 [(8,kr r5),(25,vI r5.1.2.1)]<|ae c196607,aK 1 [(8,kr r5),(26,vI r5.1.2.2)]<|ae c327679,trivial⟩
      have c32767:X 7 32767 (sp 28 [(23,kr r5)] r5.2):=by subst hX;exact aR 15 [] ⟨bf 28 r5.2 [] [8] 1 [(8,kr r5)] κ<|ae c65535,trivial⟩
      have c16383:X 8 16383 (sp 28 (K48 x1 x2 [(20,vI x3),(22,jL r4)]) r4.2):=by subst hX;exact aR 14 [] ⟨xc 28 [(23,.g8 [.d (cP.enc r5.1.1),vI r5.1.2.1,vI r5.1.2.2])] (CV hr_14)<|ae c32767,trivial⟩
      have c8191:X 9 8191 (sp 28 (K48 x1 x2 [(20,vI x3),(21,.d (.ptr p0 0))]) H):=by subst hX;exact aR 13 [] ⟨xc 28 (K48 x1 x2 [(20,vI x3),(22,.d (.list 3 (List.map b8 r4.1)))]) (dr hr_13)<|ae c16383,trivial⟩
      have c14335:X 9 14335 (sp 28 (K48 x1 x2 [(19,.d (.ptr p0 5)),(22,jL r4)]) r4.2):=by subst hX;exact aR 11 [] ⟨fV 28 r4.2 (d:=some 20) (s:=vI x3) [12,16,20,22] (K48 x1 x2 [(20,vI x3),(22,jL r4)]) (aA hx6) κ<|ae c16383,trivial⟩
      have c6143:X 10 6143 (sp 28 (K48 x1 x2 [(19,.d (.ptr p0 5)),(21,.d (.ptr p0 0))]) H):=by subst hX;exact aR 11 [13] ⟨bb (d:=some 20) (s:=vI x3) (K48 x1 x2 [(20,vI x3),(21,.d (.ptr p0 0))]) (aA hx3)<|ae c8191,mF (some 22) (K48 x1 x2 [(19,.d (.ptr p0 5)),(22,jL r4)]) (dr hr_13)<|ae c14335,trivial⟩
      have c16255:X 9 16255 (sp 28 (K44 x1 p0 [(20,vI x3),(22,jL r4)]) r4.2):=by subst hX;exact aR 7 [] ⟨fV 28 r4.2 (d:=some 16) (s:=vI x2) [12,16,20,22] (K48 x1 x2 [(20,vI x3),(22,jL r4)]) (aA hx7) κ<|ae c16383,trivial⟩
      have c8063:X 10 8063 (sp 28 (K44 x1 p0 [(20,vI x3),(21,.d (.ptr p0 0))]) H):=by subst hX;exact aR 7 [13] ⟨bb (d:=some 16) (s:=vI x2) (K48 x1 x2 [(20,vI x3),(21,.d (.ptr p0 0))]) (aA hx2)<|ae c8191,mF (some 22) (K44 x1 p0 [(20,vI x3),(22,jL r4)]) (dr hr_13)<|ae c16255,trivial⟩
      have c14207:X 10 14207 (sp 28 (K44 x1 p0 [(19,.d (.ptr p0 5)),(22,jL r4)]) r4.2):=by subst hX;exact aR 7 [11] ⟨bb (d:=some 16) (s:=vI x2) (K48 x1 x2 [(19,.d (.ptr p0 5)),(22,jL r4)]) (aA hx7)<|ae c14335,bb (d:=some 20) (s:=vI x3) (K44 x1 p0 [(20,vI x3),(22,jL r4)]) (aA hx6)<|ae c16255,trivial⟩
      have c6015:X 11 6015 (sp 28 (K44 x1 p0 [(19,.d (.ptr p0 5)),(21,.d (.ptr p0 0))]) H):=by subst hX;exact aR 7 [11,13] ⟨bb (d:=some 16) (s:=vI x2) (K48 x1 x2 [(19,.d (.ptr p0 5)),(21,.d (.ptr p0 0))]) (aA hx2)<|ae c6143,bb (d:=some 20) (s:=vI x3) (K44 x1 p0 [(20,vI x3),(21,.d (.ptr p0 0))]) (aA hx3)<|ae c8063,mF (some 22) (K44 x1 p0 [(19,.d (.ptr p0 5)),(22,jL r4)]) (dr hr_13)<|ae c14207,trivial⟩
      have c16375:X 9 16375 (sp 28 (K45 p0 x2 [(20,vI x3),(22,jL r4)]) r4.2):=by subst hX;exact aR 3 [] ⟨fV 28 r4.2 (d:=some 12) (s:=.d (.agg [.list 1 (List.map (D.int .i64) x1.aD),.list 1 (List.map D.bool x1.Down),.int .i64 x1.ee])) [12,16,20,22] (K48 x1 x2 [(20,vI x3),(22,jL r4)]) (aA hx8) κ<|ae c16383,trivial⟩
      have c8183:X 10 8183 (sp 28 (K45 p0 x2 [(20,vI x3),(21,.d (.ptr p0 0))]) H):=by subst hX;exact aR 3 [13] ⟨bb (d:=some 12) (s:=.d (.agg [.list 1 (List.map (D.int .i64) x1.aD),.list 1 (List.map D.bool x1.Down),.int .i64 x1.ee])) (K48 x1 x2 [(20,vI x3),(21,.d (.ptr p0 0))]) (aA hx1)<|ae c8191,mF (some 22) (K45 p0 x2 [(20,vI x3),(22,jL r4)]) (dr hr_13)<|ae c16375,trivial⟩
      have c14327:X 10 14327 (sp 28 (K45 p0 x2 [(19,.d (.ptr p0 5)),(22,jL r4)]) r4.2):=by subst hX;exact aR 3 [11] ⟨bb (d:=some 12) (s:=.d (.agg [.list 1 (List.map (D.int .i64) x1.aD),.list 1 (List.map D.bool x1.Down),.int .i64 x1.ee])) (K48 x1 x2 [(19,.d (.ptr p0 5)),(22,jL r4)]) (aA hx8)<|ae c14335,bb (d:=some 20) (s:=vI x3) (K45 p0 x2 [(20,vI x3),(22,jL r4)]) (aA hx6)<|ae c16375,trivial⟩
      have c6135:X 11 6135 (sp 28 (K45 p0 x2 [(19,.d (.ptr p0 5)),(21,.d (.ptr p0 0))]) H):=by subst hX;exact aR 3 [11,13] ⟨bb (d:=some 12) (s:=.d (.agg [.list 1 (List.map (D.int .i64) x1.aD),.list 1 (List.map D.bool x1.Down),.int .i64 x1.ee])) (K48 x1 x2 [(19,.d (.ptr p0 5)),(21,.d (.ptr p0 0))]) (aA hx1)<|ae c6143,bb (d:=some 20) (s:=vI x3) (K45 p0 x2 [(20,vI x3),(21,.d (.ptr p0 0))]) (aA hx3)<|ae c8183,mF (some 22) (K45 p0 x2 [(19,.d (.ptr p0 5)),(22,jL r4)]) (dr hr_13)<|ae c14327,trivial⟩
      have c16247:X 10 16247 (sp 28 (K46 p0 p0 [(20,vI x3),(22,jL r4)]) r4.2):=by subst hX;exact aR 3 [7] ⟨bb (d:=some 12) (s:=.d (.agg [.list 1 (List.map (D.int .i64) x1.aD),.list 1 (List.map D.bool x1.Down),.int .i64 x1.ee])) (K44 x1 p0 [(20,vI x3),(22,jL r4)]) (aA hx8)<|ae c16255,bb (d:=some 16) (s:=vI x2) (K45 p0 x2 [(20,vI x3),(22,jL r4)]) (aA hx7)<|ae c16375,trivial⟩
      have c8055:X 11 8055 (sp 28 (K46 p0 p0 [(20,vI x3),(21,.d (.ptr p0 0))]) H):=by subst hX;exact aR 3 [7,13] ⟨bb (d:=some 12) (s:=.d (.agg [.list 1 (List.map (D.int .i64) x1.aD),.list 1 (List.map D.bool x1.Down),.int .i64 x1.ee])) (K44 x1 p0 [(20,vI x3),(21,.d (.ptr p0 0))]) (aA hx1)<|ae c8063,bb (d:=some 16) (s:=vI x2) (K45 p0 x2 [(20,vI x3),(21,.d (.ptr p0 0))]) (aA hx2)<|ae c8183,mF (some 22) (K46 p0 p0 [(20,vI x3),(22,jL r4)]) (dr hr_13)<|ae c16247,trivial⟩
      have c14199:X 11 14199 (sp 28 (K46 p0 p0 [(19,.d (.ptr p0 5)),(22,jL r4)]) r4.2):=by subst hX;exact aR 3 [7,11] ⟨bb (d:=some 12) (s:=.d (.agg [.list 1 (List.map (D.int .i64) x1.aD),.list 1 (List.map D.bool x1.Down),.int .i64 x1.ee])) (K44 x1 p0 [(19,.d (.ptr p0 5)),(22,jL r4)]) (aA hx8)<|ae c14207,bb (d:=some 16) (s:=vI x2) (K45 p0 x2 [(19,.d (.ptr p0 5)),(22,jL r4)]) (aA hx7)<|ae c14327,bb (d:=some 20) (s:=vI x3) (K46 p0 p0 [(20,vI x3),(22,jL r4)]) (aA hx6)<|ae c16247,trivial⟩
      have c6007:X 12 6007 (sp 28 (K46 p0 p0 [(19,.d (.ptr p0 5)),(21,.d (.ptr p0 0))]) H):=by subst hX;exact aR 3 [7,11,13] ⟨bb (d:=some 12) (s:=.d (.agg [.list 1 (List.map (D.int .i64) x1.aD),.list 1 (List.map D.bool x1.Down),.int .i64 x1.ee])) (K44 x1 p0 [(19,.d (.ptr p0 5)),(21,.d (.ptr p0 0))]) (aA hx1)<|ae c6015,bb (d:=some 16) (s:=vI x2) (K45 p0 x2 [(19,.d (.ptr p0 5)),(21,.d (.ptr p0 0))]) (aA hx2)<|ae c6135,bb (d:=some 20) (s:=vI x3) (K46 p0 p0 [(20,vI x3),(21,.d (.ptr p0 0))]) (aA hx3)<|ae c8055,mF (some 22) (K46 p0 p0 [(19,.d (.ptr p0 5)),(22,jL r4)]) (dr hr_13)<|ae c14199,trivial⟩
      refine aC<|aC<|aC<|aC<|aC<|aC<|aC<|aC<|aC<|du 28 H [11,15,19,21] (K46 p0 p0 [(19,.d (.ptr p0 5)),(21,.d (.ptr p0 0))]) κ<|dZ ?_
      exact c6007)
def ln(fuel:Nat)(p0:Nat)(H:Hp):Option (Int):=
 (bz (cI .i64).cell H p0 5).bind λx1=>
 some x1
theorem fA(h:ln fuel p0 H=some r):SC Tryz.prog true 13 [.d (.ptr p0 0)] H (vI r) H:=by
 refine fN Tryz.func13 rfl ?_
 unfold ln at h
 exact aH 9 H [(0,.d (.ptr p0 0))]<|au 1<|an<|au 1<|iV<|ao<|ag<|ax<|aa 3<|bI h λx1 hx h=>aw (s:=vI x1) (aA hx)<|aa 1<|ak<|al<|iI h▸E0
def vY(fuel:Nat)(p0:ay)(p1:Entry):Option (Bool):=
 (oo fuel p0 p1.Row).bind λr1=>
 bif r1 then
  (sI fuel p1.Key).bind λr2=>
  some (r2&&(decide (p1.Number>=1)))
 else
  some false
theorem Iw(h:vY fuel p0 p1=some r):PC Tryz.prog 72 [.d (cD p0),.d (ab p1)] (vB r):=by
 refine aW Tryz.func72 rfl λH=>?_
 unfold vY at h
 exact aH 19 H [(0,Z2 p0),(1,lI p1)]<|au 1<|ax<|aa 3<|bI h λr1 hr h=>bw (mc hr)<|aU [] [3,9] 1<|bE (λb=>(sp 19 [(3,j6 p1),(9,vB b)] H)) h (λh=>aa 2<|bI h λr2 hr h=>bw (qp hr)<|aU [] [3,14] 2<|dO 19 H [18] 4 r2 (λb=>(sp 19 [(3,j6 p1),(14,vB b)] H)) (λb=>[(18,vB (b&&(decide (p1.Number>=1))))]) κ κ κ<|aa 1<|ak<|al<|iI h▸E0) λh=>aa 10<|ak<|al<|iI h▸E0
def bn(fuel:Nat)(p0:Nat)(p1:Int)(H:Hp):Option ((Bool)×Hp):=
 (dW (cI .i64) H p0 8 p1).bind λH1=>
 some (false,H1)
theorem bQ(h:bn fuel p0 p1 H=some r):SC Tryz.prog false 73 [.d (.ptr p0 0),vI p1] H (vB r.1) r.2:=by
 refine cf Tryz.func73 rfl ?_
 unfold bn at h
 exact aH 9 H (K12 p0 p1 [])<|au 1<|ax<|aa 4<|bI h λH1 hx h=>fW hx<|ak<|au 1<|al<|iI h▸E0
def cy(fuel:Nat)(p0:Nat)(p1:Entry)(p2:Entry)(H:Hp):Option (Bool):=
 (bz cV.cells H p0 0).bind λx1=>
 (qu fuel x1 p1 p2).bind λr2=>
 bif r2 then
  (bz (cI .i64).cell H p0 2).bind λx3=>
  bif (x3 !=1)then
   some true
  else
   (bz cV.cells H p0 0).bind λx4=>
   (rA fuel x4 p1.Row p2.Row).bind λr5=>
   some (r5 !=0)
 else
  some false
def Tg(x0:Entry):SV:=.own 1 (List.map (D.int .i64) [x0.Number])
def Tf(x0:((List Int)×Hp)):SV:=.own 1 (List.map (D.int .i64) x0.1)
def Hl(x0:Int×(List Entry)×(List Int)×Hp):SV:=.box [vI x0.1,.d (.list 3 (List.map ab x0.2.1)),.d (.list 1 (List.map (D.int .i64) x0.2.2.1))]
def Ub(x0:Entry):SV:=.d (.fG [.list 3 (List.map ar x0.Row),.int .i64 x0.Key,.int .i64 x0.Number])
theorem eJ(h:cy fuel p0 p1 p2 H=some r):SC Tryz.prog true 74 [.d (.ptr p0 0),.d (ab p1),.d (ab p2)] H (vB r) H:=by
 refine fN Tryz.func74 rfl ?_
 unfold cy at h
 exact aH 34 H [(0,.d (.ptr p0 0)),(1,lI p1),(2,lI p2)]<|au 1<|an<|fM<|aF 3<|bI h λx1 hx h=>bm (s:=.d (.agg [.list 1 (List.map (D.int .i64) x1.aD),.list 1 (List.map D.bool x1.Down),.int .i64 x1.ee])) (aA hx)<|aF 2<|bI h λr2 hr h=>fk (yK hr)<|dt [] [0,4,5,14] 1<|dP (λb=>(sp 34 [(0,.d (.ptr p0 0)),(4,j6 p1),(5,j6 p2),(14,vB b)] H)) h (λh=>aF 4<|bI h λx3 hx h=>bm (s:=vI x3) (aA hx)<|dt [] [0,4,5,14,21] 2<|dP (λb=>(sp 34 [(0,.d (.ptr p0 0)),(4,j6 p1),(5,j6 p2),(14,vB true),(21,vB b)] H)) h (λh=>aF 13<|bF<|ag<|al<|iI h▸E0) λh=>aF 3<|bI h λx4 hx h=>bm (s:=.d (.agg [.list 1 (List.map (D.int .i64) x4.aD),.list 1 (List.map D.bool x4.Down),.int .i64 x4.ee])) (aA hx)<|aF 4<|bI h λr5 hr h=>fk (vn hr)<|aF 4<|bF<|ag<|al<|iI h▸E0) λh=>aF 20<|bF<|ag<|al<|iI h▸E0
def ff(fuel:Nat)(p0:Nat)(p1:Int)(x6:Entry)(y13:Int×Hp):Option ((Int×Hp)⊕((Hp)⊕(((Bool)×Hp)))):=
 (bG 1 (cI .i64) y13.2 p0 7).bind λx14=>
 bif (decide (y13.1<(x14.length:Int)))then
  (bG 1 (cI .i64) y13.2 p0 7).bind λx15=>
  (idx x15 y13.1).bind λx16=>
  bif (x16==x6.Number)then
   (bn fuel p0 p1 y13.2).bind λr17=>
   some (.inr (.inr (r17.1,r17.2)))
  else
   some (.inl ((IntKind.wrap .i64 (y13.1+1)),y13.2))
 else
  some (.inr (.inl y13.2))
def dx(fuel:Nat)(p0:Nat)(p1:Int)(y5:Int×(List Entry)×(List Int)×Int×Hp):Option ((Int×(List Entry)×(List Int)×Int×Hp)⊕((Int×(List Entry)×(List Int)×Hp)⊕(((Bool)×Hp)))):=
 bif (decide (y5.2.2.2.1<(y5.2.1.length:Int)))then
  (idx y5.2.1 y5.2.2.2.1).bind λx6=>
  bp (λ(j7:Bool)=>
   bif j7 then
    (bn fuel p0 p1 y5.2.2.2.2).bind λr12=>
    some (.inr (.inr (r12.1,r12.2)))
   else
    (iter (ff fuel p0 p1 x6) fuel (0,y5.2.2.2.2)).bind (Sum.elim (λv19=>
     (db 1 (cI .i64) v19 p0 7).bind λq20=>
     et (decide ((q20.1++[x6.Number]).length<=room))<|
     (cz 1 (cI .i64) q20.2 p0 7 (q20.1++[x6.Number])).bind λH23=>
     some (.inl (y5.1,y5.2.1,y5.2.2.1,(IntKind.wrap .i64 (y5.2.2.2.1+1)),H23))) (λr24=>
     some (.inr (.inr r24))))) λjp8=>
  (bz cV.cells y5.2.2.2.2 p0 0).bind λx9=>
  (vY fuel x9 x6).bind λr10=>
  bif (!r10)then
   jp8 true
  else
   (bz (cI .i64).cell y5.2.2.2.2 p0 4).bind λx11=>
   jp8 (decide (x6.Number>x11))
 else
  some (.inr (.inl (y5.1,y5.2.1,y5.2.2.1,y5.2.2.2.2)))
def fe(fuel:Nat)(p0:Nat)(p1:Int)(p3:(Option Entry))(p4:(Option Entry))(y27:Int×(List Entry)×(List Int)×Int×Hp):Option ((Int×(List Entry)×(List Int)×Int×Hp)⊕((Int×(List Entry)×(List Int)×Hp)⊕(((Bool)×Hp)))):=
 bif (decide (y27.2.2.2.1<(y27.2.1.length:Int)))then
  (idx y27.2.1 y27.2.2.2.1).bind λx28=>
  bif (decide (y27.2.2.2.1>0))then
   (idx y27.2.1 (IntKind.wrap .i64 (y27.2.2.2.1 - 1))).bind λx29=>
   (cy fuel p0 x29 x28 y27.2.2.2.2).bind λr30=>
   bif (!r30)then
    (bn fuel p0 p1 y27.2.2.2.2).bind λr31=>
    some (.inr (.inr (r31.1,r31.2)))
   else
    (Option.elim p3
     ((Option.elim p4
      (some (.inl (y27.1,y27.2.1,y27.2.2.1,(IntKind.wrap .i64 (y27.2.2.2.1+1)),y27.2.2.2.2)))
     (λx33=>
      (cy fuel p0 x28 x33 y27.2.2.2.2).bind λr34=>
      bif (!r34)then
       (bn fuel p0 p1 y27.2.2.2.2).bind λr35=>
       some (.inr (.inr (r35.1,r35.2)))
      else
       some (.inl (y27.1,y27.2.1,y27.2.2.1,(IntKind.wrap .i64 (y27.2.2.2.1+1)),y27.2.2.2.2)))))
    (λx32=>
     (cy fuel p0 x32 x28 y27.2.2.2.2).bind λr36=>
     bif (!r36)then
      (bn fuel p0 p1 y27.2.2.2.2).bind λr37=>
      some (.inr (.inr (r37.1,r37.2)))
     else
      (Option.elim p4
       (some (.inl (y27.1,y27.2.1,y27.2.2.1,(IntKind.wrap .i64 (y27.2.2.2.1+1)),y27.2.2.2.2)))
      (λx38=>
       (cy fuel p0 x28 x38 y27.2.2.2.2).bind λr39=>
       bif (!r39)then
        (bn fuel p0 p1 y27.2.2.2.2).bind λr40=>
        some (.inr (.inr (r40.1,r40.2)))
       else
        some (.inl (y27.1,y27.2.1,y27.2.2.1,(IntKind.wrap .i64 (y27.2.2.2.1+1)),y27.2.2.2.2))))))
  else
   (Option.elim p3
    ((Option.elim p4
     (some (.inl (y27.1,y27.2.1,y27.2.2.1,(IntKind.wrap .i64 (y27.2.2.2.1+1)),y27.2.2.2.2)))
    (λx42=>
     (cy fuel p0 x28 x42 y27.2.2.2.2).bind λr43=>
     bif (!r43)then
      (bn fuel p0 p1 y27.2.2.2.2).bind λr44=>
      some (.inr (.inr (r44.1,r44.2)))
     else
      some (.inl (y27.1,y27.2.1,y27.2.2.1,(IntKind.wrap .i64 (y27.2.2.2.1+1)),y27.2.2.2.2)))))
   (λx41=>
    (cy fuel p0 x41 x28 y27.2.2.2.2).bind λr45=>
    bif (!r45)then
     (bn fuel p0 p1 y27.2.2.2.2).bind λr46=>
     some (.inr (.inr (r46.1,r46.2)))
    else
     (Option.elim p4
      (some (.inl (y27.1,y27.2.1,y27.2.2.1,(IntKind.wrap .i64 (y27.2.2.2.1+1)),y27.2.2.2.2)))
     (λx47=>
      (cy fuel p0 x28 x47 y27.2.2.2.2).bind λr48=>
      bif (!r48)then
       (bn fuel p0 p1 y27.2.2.2.2).bind λr49=>
       some (.inr (.inr (r49.1,r49.2)))
      else
       some (.inl (y27.1,y27.2.1,y27.2.2.1,(IntKind.wrap .i64 (y27.2.2.2.1+1)),y27.2.2.2.2))))))
 else
  some (.inr (.inl (y27.1,y27.2.1,y27.2.2.1,y27.2.2.2.2)))
def dw(fuel:Nat)(rc:(Nat->Int->Int->(Option Entry)->(Option Entry)->Hp->Option ((Bool)×Hp)))(p0:Nat)(p1:Int)(p3:(Option Entry))(p4:(Option Entry))(v51:Int×(List Entry)×(List Int)×Hp)(y65:Int×Hp):Option ((Int×Hp)⊕((Hp)⊕(((Bool)×Hp)))):=
 bif (decide (y65.1<(v51.2.2.1.length:Int)))then
  bp (λ(j66:Bool)=>
   bif j66 then
    (bn fuel p0 p1 y65.2).bind λr72=>
    some (.inr (.inr (r72.1,r72.2)))
   else
    bp (λ(j73:(Option Entry))=>
     bp (λ(j76:(Option Entry))=>
      (idx v51.2.2.1 y65.1).bind λx79=>
      (rc p0 x79 (IntKind.wrap .i64 (v51.1 - 1)) j73 j76 y65.2).bind λr80=>
      bif (!r80.1)then
       some (.inr (.inr (false,r80.2)))
      else
       some (.inl ((IntKind.wrap .i64 (y65.1+1)),r80.2))) λjp77=>
     bif (decide (y65.1<(v51.2.1.length:Int)))then
      (idx v51.2.1 y65.1).bind λx78=>
      jp77 (some x78)
     else
      jp77 p4) λjp74=>
    bif (decide (y65.1>0))then
     (idx v51.2.1 (IntKind.wrap .i64 (y65.1 - 1))).bind λx75=>
     jp74 (some x75)
    else
     jp74 p3) λjp67=>
  (idx v51.2.2.1 y65.1).bind λx68=>
  (bz (cI .i64).cell y65.2 p0 6).bind λx69=>
  bif (x68 !=x69)then
   jp67 true
  else
   (bz (cI .i64).cell y65.2 p0 6).bind λx70=>
   (bG 3 BU y65.2 p0 5).bind λx71=>
   jp67 (decide (x70>=(x71.length:Int)))
 else
  some (.inr (.inl y65.2))
def iO(fuel:Nat)(rc:(Nat->Int->Int->(Option Entry)->(Option Entry)->Hp->Option ((Bool)×Hp)))(p0:Nat)(p1:Int)(p2:Int)(p3:(Option Entry))(p4:(Option Entry))(H:Hp):Option ((Bool)×Hp):=
 (bz (cI .i64).cell H p0 6).bind λx1=>
 (dW (cI .i64) H p0 6 (IntKind.wrap .i64 (x1+1))).bind λH2=>
 (bG 3 BU H2 p0 5).bind λx3=>
 (idx x3 p1).bind λx4=>
 (iter (dx fuel p0 p1) fuel (x4.Level,x4.Entries,x4.Kids,0,H2)).bind (Sum.elim (λv26=>
  (iter (fe fuel p0 p1 p3 p4) fuel (v26.1,v26.2.1,v26.2.2.1,0,v26.2.2.2)).bind (Sum.elim (λv51=>
   (bz (cI .i64).cell v51.2.2.2 p0 3).bind λx52=>
   bp (λ(j53:Int)=>
    bp (λ(j55:Int)=>
     bp (λ(j57:Unit)=>
      (iter (dw fuel rc p0 p1 p3 p4 v51) fuel (0,v51.2.2.2)).bind (Sum.elim (λv82=>
       some (true,v82)) (λr83=>
       some r83))) λjp58=>
     (bz (cI .i64).cell v51.2.2.2 p0 3).bind λx59=>
     bif (decide ((v51.2.1.length:Int)>x59))then
      (bn fuel p0 p1 v51.2.2.2).bind λr60=>
      some (r60.1,r60.2)
     else
      bif ((decide ((v51.2.1.length:Int)<j53))||(decide (v51.1<0)))then
       (bn fuel p0 p1 v51.2.2.2).bind λr61=>
       some (r61.1,r61.2)
      else
       bif (decide (p2>=0))then
        bif (v51.1 !=p2)then
         (bn fuel p0 p1 v51.2.2.2).bind λr62=>
         some (r62.1,r62.2)
        else
         bif ((v51.2.2.1.length:Int) !=j55)then
          (bn fuel p0 p1 v51.2.2.2).bind λr63=>
          some (r63.1,r63.2)
         else
          jp58 ()
       else
        bif ((v51.2.2.1.length:Int) !=j55)then
         (bn fuel p0 p1 v51.2.2.2).bind λr64=>
         some (r64.1,r64.2)
        else
         jp58 ()) λjp56=>
    bif (v51.1==0)then
     jp56 0
    else
     jp56 (IntKind.wrap .i64 ((v51.2.1.length:Int)+1))) λjp54=>
   bif (p1==0)then
    bif (v51.1 !=0)then
     jp54 1
    else
     jp54 0
   else
    jp54 (IntKind.wrap .i64 (Int.tdiv x52 2))) (λr84=>
   some r84))) (λr85=>
  some r85))
def da:Nat->(Nat->Int->Int->(Option Entry)->(Option Entry)->Hp->Option ((Bool)×Hp))
 |0=>λ_ _ _ _ _ _=>none
 |fuel+1=>iO fuel (da fuel)
def K6:=λa0 a1 a2 a3 a4 (t:SL)=>((0,.d (.ptr a0 0))::(1,vI a1)::(2,vI a2)::(3,.d (dC ab a3))::(4,.d (dC ab a4))::t:SL)
def K34:=λa0 a1 a2 a3 a4 (t:SL)=>((0,.d (.ptr a0 0))::(1,vI a1)::(3,.d (dC ab a2))::(4,.d (dC ab a3))::(11,Hl a4)::t:SL)
def K57:=λa0 a1 a2 a3 a4 a5 a6 a7 (t:SL)=>((0,.d (.ptr a0 0))::(1,vI a1)::(2,vI a2)::(3,Ub a3)::(4,.d (dC ab a4))::(11,rN a5)::(15,vI a6)::(16,j6 a7)::t:SL)
def K63:=λa0 a1 a2 a3 a4 a5 a6 a7 (t:SL)=>((0,.d (.ptr a0 0))::(1,vI a1)::(2,vI a2)::(3,.d (dC ab a3))::(4,.d (dC ab a4))::(11,.box [vI a5,.d (.list 3 (List.map ab a6)),.d (.list 1 (List.map (D.int .i64) a7))])::t:SL)
theorem vm{fuel:Nat}{rc:(Nat->Int->Int->(Option Entry)->(Option Entry)->Hp->Option ((Bool)×Hp))}(ih: ∀{p0:Nat} {p1:Int} {p2:Int} {p3:(Option Entry)} {p4:(Option Entry)} {H:Hp} {r:(Bool)×Hp},rc p0 p1 p2 p3 p4 H=some r->SC Tryz.prog false 46 [.d (.ptr p0 0),vI p1,vI p2,.d (dC ab p3),.d (dC ab p4)] H (vB r.1) r.2){p0:Nat}{p1:Int}{p2:Int}{p3:(Option Entry)}{p4:(Option Entry)}{H:Hp}{r:(Bool)×Hp}(h:iO fuel rc p0 p1 p2 p3 p4 H=some r):SC Tryz.prog false 46 [.d (.ptr p0 0),vI p1,vI p2,.d (dC ab p3),.d (dC ab p4)] H (vB r.1) r.2:=by
 refine cf Tryz.func46 rfl ?_
 unfold iO at h
 exact aH 275 H (K6 p0 p1 p2 p3 p4 [])<|au 1<|ax<|aa 3<|bI h λx1 hx h=>aw (s:=vI x1) (aA hx)<|aa 3<|bI h λH2 hx h=>fW hx<|ak<|ax<|aa 3<|bI h λx3 hx h=>aw (aV hx)<|aa 1<|bI h λx4 hx h=>aw (s:=bc (some (.az p0 5)) (b8 x4).cells) (aB (n:=3) hx)<|aa 3<|ak<|an<|au 1<|aI<|bI h λz25 hit h=>mA 275 [0,1,2,3,4,11,12] (λy5=>(K63 p0 p1 p2 p3 p4 y5.1 y5.2.1 y5.2.2.1 [(12,vI y5.2.2.2.1)])) (λy5=>y5.2.2.2.2) (λb e s=>((∃v26,b=(.inl v26)/\(e=.exit 0/\s=(sp 275 (K63 p0 p1 p2 p3 p4 v26.1 v26.2.1 v26.2.2.1 []) v26.2.2.2)))\/(∃r85,b=(.inr r85)/\(e=.ret/\dp Tryz.prog Tryz.f46.results.toList r85.2 (vB r85.1) .ret s)))) hit κ (λy5 o h=>by unfold dx at h;exact an<|ax<|aa 3<|aw (aG (enc:=ab) (xs:=y5.2.1))<|aa 1<|ak<|aQ h (λh=>ao<|ag<|an<|aI<|ax<|aa 3<|bI h λx6 hx h=>aw (s:=bc none (ab x6).cells) (aB (n:=3) hx)<|aa 3<|ak<|an<|eb 275 y5.2.2.2.2 [0,1,2,3,4,11,12,13,63] (λ(j7:Bool)=>(K6 p0 p1 p2 p3 p4 [(11,rN y5),(12,vI y5.2.2.2.1),(13,j6 x6),(63,vB j7)])) h (λj7 h=>aQ h (λh=>ax<|aa 2<|bI h λr12 hr h=>bJ (bQ hr)<|aa 1<|ak<|al<|aq<|aJ<|aq<|aq<|LR h (.inr (⟨(r12.1,r12.2),rfl,rfl,dp.ret [] κ κ⟩))) (λh=>ao<|ag<|an<|au 1<|aI<|bI h λz18 hit h=>mA 275 [0,1,2,3,4,11,12,13,14] (λy13=>(K6 p0 p1 p2 p3 p4 [(11,rN y5),(12,vI y5.2.2.2.1),(13,j6 x6),(14,vI y13.1)])) (λy13=>y13.2) (λb e s=>((∃v19,b=(.inl v19)/\(e=.exit 2/\s=(sp 275 (K6 p0 p1 p2 p3 p4 [(11,rN y5),(12,vI y5.2.2.2.1),(13,j6 x6)]) v19)))\/(∃r24,b=(.inr r24)/\(e=.ret/\dp Tryz.prog Tryz.f46.results.toList r24.2 (vB r24.1) .ret s)))) hit κ (λy13 o h=>by unfold ff at h;exact an<|ax<|aa 4<|bI h λx14 hx h=>aw (aV hx)<|aw (aG (enc:=(D.int .i64)) (xs:=x14))<|aa 1<|ak<|aQ h (λh=>ao<|ag<|an<|aI<|an<|zl<|bW 3<|bI h λx15 hx h=>cH (aV hx)<|bW 1<|bI h λx16 hx h=>cH (s:=bc (some (.az p0 7)) (Go.Sh.D.cells ((D.int .i64) x16))) (aB (n:=1) hx)<|bW 4<|gI<|ag<|aQ h (λh=>ax<|aa 2<|bI h λr17 hr h=>bJ (bQ hr)<|aa 1<|ak<|al<|aJ<|aq<|aq<|LR h (.inr (⟨(r17.1,r17.2),rfl,rfl,dp.ret [] κ κ⟩))) (λh=>ao<|aL<|ag<|ah<|aa 3<|ae<|LQ h)) (λh=>aH 275 y13.2 (K6 p0 p1 p2 p3 p4 [(11,rN y5),(12,vI y5.2.2.2.1),(13,j6 x6)])<|bN<|aY<|aY<|LR h (.inl ⟨y13.2,rfl,rfl,rfl⟩))) (by rintro _ _ (⟨v19,rfl,rfl,rfl⟩|⟨r24,rfl,rfl,hE⟩);exact have h:=jv h;bq<|ag<|bI h λq20 hq20 h=>nj h λhk22 h=>bI h λH23 hx_11 h=>aH 275 v19 (K6 p0 p1 p2 p3 p4 [(11,rN y5),(12,vI y5.2.2.2.1),(13,j6 x6)])<|mz p0 7 λv21=>fj [0,1,2,3,4,5,6] [7,8,9,10,11] κ κ<|aC<|aC<|aC<|du 275 (dY v19 p0 7 v21) [0,1,2,3,4,11,12,13,89,92] (K6 p0 p1 p2 p3 p4 [(11,rN y5),(12,vI y5.2.2.2.1),(13,j6 x6),(89,.d (.ptr p0 0)),(92,.d (.ptr p0 7))]) κ<|cd (s:=.d (.raw v21)) (gZ (c:=(cI .i64)) (n':=1) hq20 κ)<|aC<|aC<|dZ<|bf 275 (dY v19 p0 7 v21) [93] [0,1,2,3,4,11,12,89,93,96] 1 (K6 p0 p1 p2 p3 p4 [(11,rN y5),(12,vI y5.2.2.2.1),(89,.d (.ptr p0 0)),(93,.d (.raw v21)),(96,Tg x6)]) κ<|nZ (c:=(cI .i64)) (n':=1) (t:=93) [0,1,2,3,4,11,12,89,93,96] (K6 p0 p1 p2 p3 p4 [(11,rN y5),(12,vI y5.2.2.2.1),(89,.d (.ptr p0 0)),(93,Tf q20),(96,Tg x6)]) hq20 κ κ κ<|fx 93 1 (List.map (D.int .i64) (q20.1++[x6.Number])) (bt) (bZ hk22)<|aP [93] 1<|aP [93] 1<|fw 97 hx_11<|ae<|aL<|ag<|ah<|aa 3<|ae<|LQ h;exact have h:=ju h;aJ<|aq<|aJ<|aq<|aq<|LR h (.inr (⟨r24,rfl,rfl,hE⟩))))) λjp8 h=>fM<|aF 3<|bI h λx9 hx h=>bm (s:=.d (.agg [.list 1 (List.map (D.int .i64) x9.aD),.list 1 (List.map D.bool x9.Down),.int .i64 x9.ee])) (aA hx)<|aF 1<|bI h λr10 hr h=>fk (Iw hr)<|dt [] [0,1,2,3,4,11,12,13,55] 2<|dP (λb=>(sp 275 (K6 p0 p1 p2 p3 p4 [(11,rN y5),(12,vI y5.2.2.2.1),(13,j6 x6),(55,vB b)]) y5.2.2.2.2)) h (λh=>aF 8<|bF<|JQ [] h) λh=>aF 5<|bI h λx11 hx h=>bm (s:=vI x11) (aA hx)<|aF 2<|bF<|JQ [] h) (λh=>aH 275 y5.2.2.2.2 (K6 p0 p1 p2 p3 p4 [(11,rN y5)])<|bN<|aY<|aY<|LR h (.inl ⟨(y5.1,y5.2.1,y5.2.2.1,y5.2.2.2.2),rfl,rfl,rfl⟩))) (by rintro _ _ (⟨v26,rfl,rfl,rfl⟩|⟨r85,rfl,rfl,hE⟩);exact have h:=jv h;bq<|ag<|an<|au 1<|aI<|bI h λz50 hit h=>mA 275 [0,1,2,3,4,11,15] (λy27=>(K63 p0 p1 p2 p3 p4 y27.1 y27.2.1 y27.2.2.1 [(15,vI y27.2.2.2.1)])) (λy27=>y27.2.2.2.2) (λb e s=>((∃v51,b=(.inl v51)/\(e=.exit 4/\s=(sp 275 (K63 p0 p1 p2 p3 p4 v51.1 v51.2.1 v51.2.2.1 []) v51.2.2.2)))\/(∃r84,b=(.inr r84)/\(e=.ret/\dp Tryz.prog Tryz.f46.results.toList r84.2 (vB r84.1) .ret s)))) hit κ (λy27 o h=>by unfold fe at h;exact an<|ax<|aa 3<|aw (aG (enc:=ab) (xs:=y27.2.1))<|aa 1<|ak<|aQ h (λh=>ao<|ag<|an<|aI<|ax<|aa 3<|bI h λx28 hx h=>aw (s:=bc none (ab x28).cells) (aB (n:=3) hx)<|aa 3<|ak<|an<|fM<|dt [] [0,1,2,3,4,11,15,16,114] 3<|dP (λb=>(sp 275 (K6 p0 p1 p2 p3 p4 [(11,rN y27),(15,vI y27.2.2.2.1),(16,j6 x28),(114,vB b)]) y27.2.2.2.2)) h (λh=>aF 5<|bI h λx29 hx h=>bm (s:=bc none (ab x29).cells) (aB (n:=3) hx)<|aF 2<|bI h λr30 hr h=>jN (ls:=[]) (eJ hr)<|dt [] [0,1,2,3,4,11,15,16,126] 3<|dP (λb=>(sp 275 (K6 p0 p1 p2 p3 p4 [(11,rN y27),(15,vI y27.2.2.2.1),(16,j6 x28),(126,vB b)]) y27.2.2.2.2)) h (λh=>aF 25<|bF<|ag<|en κ<|ax<|aa 2<|bI h λr31 hr h=>bJ (bQ hr)<|aa 1<|ak<|al<|aJ<|aq<|aq<|LR h (.inr (⟨(r31.1,r31.2),rfl,rfl,dp.ret [] κ κ⟩))) λh=>dt [] [0,1,2,3,4,11,15,16,126,127] 1<|iH p3 (λp=>(sp 275 (K6 p0 p1 p2 p p4 [(11,rN y27),(15,vI y27.2.2.2.1),(16,j6 x28),(126,vB false),(127,.d (dC ab p))]) y27.2.2.2.2)) κ (λhp_x32=>by rw[hp_x32]at h;exact have h:=po h;dt [] [0,1,2,3,4,11,15,16,139,140] 13<|iH p4 (λp=>(sp 275 (K12 p0 p1 [(2,vI p2),(3,.d (.fU)),(4,.d (dC ab p)),(11,rN y27),(15,vI y27.2.2.2.1),(16,j6 x28),(139,vB false),(140,.d (dC ab p))]) y27.2.2.2.2)) κ (λhp_x33=>by rw[hp_x33]at h;exact have h:=po h;aF 11<|bF<|ag<|iV<|ao<|aL<|ag<|ah<|aa 3<|ae<|(by cases h;exact⟨(y27.1,y27.2.1,y27.2.2.1,(IntKind.wrap .i64 (y27.2.2.2.1+1)),y27.2.2.2.2),rfl,by rw[hp_x32,hp_x33];kernel_rfl⟩)) (λx33 hp_x33=>by rw[hp_x33]at h;exact have h:=pn h;aF 7<|bI h λr34 hr h=>jN (ls:=[]) (eJ hr)<|aF 3<|bF<|ag<|aQ h (λh=>ax<|aa 2<|bI h λr35 hr h=>bJ (bQ hr)<|aa 1<|ak<|al<|aJ<|aq<|aq<|LR h (.inr (⟨(r35.1,r35.2),rfl,rfl,dp.ret [] κ κ⟩))) (λh=>ao<|aL<|ag<|ah<|aa 3<|ae<|(by cases h;exact⟨(y27.1,y27.2.1,y27.2.2.1,(IntKind.wrap .i64 (y27.2.2.2.1+1)),y27.2.2.2.2),rfl,by rw[hp_x32,hp_x33];kernel_rfl⟩)))) (λx32 hp_x32=>by rw[hp_x32]at h;exact have h:=pn h;aF 7<|bI h λr36 hr h=>jN (ls:=[]) (eJ hr)<|dt [] [0,1,2,3,4,11,15,16,139] 4<|dP (λb=>(sp 275 (K57 p0 p1 p2 x32 p4 y27 y27.2.2.2.1 x28 [(139,vB b)]) y27.2.2.2.2)) h (λh=>aF 12<|bF<|ag<|en κ<|ax<|aa 2<|bI h λr37 hr h=>bJ (bQ hr)<|aa 1<|ak<|al<|aJ<|aq<|aq<|LR h (.inr (⟨(r37.1,r37.2),rfl,rfl,dp.ret [] κ κ⟩))) λh=>dt [] [0,1,2,3,4,11,15,16,139,140] 1<|iH p4 (λp=>(sp 275 (K57 p0 p1 p2 x32 p y27 y27.2.2.2.1 x28 [(139,vB false),(140,.d (dC ab p))]) y27.2.2.2.2)) κ (λhp_x38=>by rw[hp_x38]at h;exact have h:=po h;aF 11<|bF<|ag<|iV<|ao<|aL<|ag<|ah<|aa 3<|ae<|(by cases h;exact⟨(y27.1,y27.2.1,y27.2.2.1,(IntKind.wrap .i64 (y27.2.2.2.1+1)),y27.2.2.2.2),rfl,by rw[hp_x32,hp_x38];kernel_rfl⟩)) (λx38 hp_x38=>by rw[hp_x38]at h;exact have h:=pn h;aF 7<|bI h λr39 hr h=>jN (ls:=[]) (eJ hr)<|aF 3<|bF<|ag<|aQ h (λh=>ax<|aa 2<|bI h λr40 hr h=>bJ (bQ hr)<|aa 1<|ak<|al<|aJ<|aq<|aq<|LR h (.inr (⟨(r40.1,r40.2),rfl,rfl,dp.ret [] κ κ⟩))) (λh=>ao<|aL<|ag<|ah<|aa 3<|ae<|(by cases h;exact⟨(y27.1,y27.2.1,y27.2.2.1,(IntKind.wrap .i64 (y27.2.2.2.1+1)),y27.2.2.2.2),rfl,by rw[hp_x32,hp_x38];kernel_rfl⟩))))) λh=>dt [] [0,1,2,3,4,11,15,16,126,127] 13<|iH p3 (λp=>(sp 275 (K6 p0 p1 p2 p p4 [(11,rN y27),(15,vI y27.2.2.2.1),(16,j6 x28),(126,vB false),(127,.d (dC ab p))]) y27.2.2.2.2)) κ (λhp_x41=>by rw[hp_x41]at h;exact have h:=po h;dt [] [0,1,2,3,4,11,15,16,139,140] 13<|iH p4 (λp=>(sp 275 (K12 p0 p1 [(2,vI p2),(3,.d (.fU)),(4,.d (dC ab p)),(11,rN y27),(15,vI y27.2.2.2.1),(16,j6 x28),(139,vB false),(140,.d (dC ab p))]) y27.2.2.2.2)) κ (λhp_x42=>by rw[hp_x42]at h;exact have h:=po h;aF 11<|bF<|ag<|iV<|ao<|aL<|ag<|ah<|aa 3<|ae<|(by cases h;exact⟨(y27.1,y27.2.1,y27.2.2.1,(IntKind.wrap .i64 (y27.2.2.2.1+1)),y27.2.2.2.2),rfl,by rw[hp_x41,hp_x42];kernel_rfl⟩)) (λx42 hp_x42=>by rw[hp_x42]at h;exact have h:=pn h;aF 7<|bI h λr43 hr h=>jN (ls:=[]) (eJ hr)<|aF 3<|bF<|ag<|aQ h (λh=>ax<|aa 2<|bI h λr44 hr h=>bJ (bQ hr)<|aa 1<|ak<|al<|aJ<|aq<|aq<|LR h (.inr (⟨(r44.1,r44.2),rfl,rfl,dp.ret [] κ κ⟩))) (λh=>ao<|aL<|ag<|ah<|aa 3<|ae<|(by cases h;exact⟨(y27.1,y27.2.1,y27.2.2.1,(IntKind.wrap .i64 (y27.2.2.2.1+1)),y27.2.2.2.2),rfl,by rw[hp_x41,hp_x42];kernel_rfl⟩)))) (λx41 hp_x41=>by rw[hp_x41]at h;exact have h:=pn h;aF 7<|bI h λr45 hr h=>jN (ls:=[]) (eJ hr)<|dt [] [0,1,2,3,4,11,15,16,139] 4<|dP (λb=>(sp 275 (K57 p0 p1 p2 x41 p4 y27 y27.2.2.2.1 x28 [(139,vB b)]) y27.2.2.2.2)) h (λh=>aF 12<|bF<|ag<|en κ<|ax<|aa 2<|bI h λr46 hr h=>bJ (bQ hr)<|aa 1<|ak<|al<|aJ<|aq<|aq<|LR h (.inr (⟨(r46.1,r46.2),rfl,rfl,dp.ret [] κ κ⟩))) λh=>dt [] [0,1,2,3,4,11,15,16,139,140] 1<|iH p4 (λp=>(sp 275 (K57 p0 p1 p2 x41 p y27 y27.2.2.2.1 x28 [(139,vB false),(140,.d (dC ab p))]) y27.2.2.2.2)) κ (λhp_x47=>by rw[hp_x47]at h;exact have h:=po h;aF 11<|bF<|ag<|iV<|ao<|aL<|ag<|ah<|aa 3<|ae<|(by cases h;exact⟨(y27.1,y27.2.1,y27.2.2.1,(IntKind.wrap .i64 (y27.2.2.2.1+1)),y27.2.2.2.2),rfl,by rw[hp_x41,hp_x47];kernel_rfl⟩)) (λx47 hp_x47=>by rw[hp_x47]at h;exact have h:=pn h;aF 7<|bI h λr48 hr h=>jN (ls:=[]) (eJ hr)<|aF 3<|bF<|ag<|aQ h (λh=>ax<|aa 2<|bI h λr49 hr h=>bJ (bQ hr)<|aa 1<|ak<|al<|aJ<|aq<|aq<|LR h (.inr (⟨(r49.1,r49.2),rfl,rfl,dp.ret [] κ κ⟩))) (λh=>ao<|aL<|ag<|ah<|aa 3<|ae<|(by cases h;exact⟨(y27.1,y27.2.1,y27.2.2.1,(IntKind.wrap .i64 (y27.2.2.2.1+1)),y27.2.2.2.2),rfl,by rw[hp_x41,hp_x47];kernel_rfl⟩))))) (λh=>aH 275 y27.2.2.2.2 (K6 p0 p1 p2 p3 p4 [(11,rN y27)])<|bN<|aY<|aY<|LR h (.inl ⟨(y27.1,y27.2.1,y27.2.2.1,y27.2.2.2.2),rfl,rfl,rfl⟩))) (by rintro _ _ (⟨v51,rfl,rfl,rfl⟩|⟨r84,rfl,rfl,hE⟩);exact have h:=jv h;bq<|ag<|ax<|aa 3<|bI h λx52 hx h=>aw (s:=vI x52) (aA hx)<|aa 2<|ak<|eb 275 v51.2.2.2 [0,1,2,3,4,11,17] (λ(j53:Int)=>(K6 p0 p1 p2 p3 p4 [(11,Hl v51),(17,vI j53)])) h (λj53 h=>ax<|aa 2<|aw (aG (enc:=ab) (xs:=v51.2.1))<|aa 2<|ak<|eb 275 v51.2.2.2 [0,1,2,3,4,11,17,18] (λ(j55:Int)=>(K6 p0 p1 p2 p3 p4 [(11,Hl v51),(17,vI j53),(18,vI j55)])) h (λj55 h=>eb 275 v51.2.2.2 [0,1,3,4,11] (λ(j57:Unit)=>(K34 p0 p1 p3 p4 v51 [])) h (λj57 h=>an<|au 1<|aI<|bI h λz81 hit h=>mA 275 [0,1,3,4,11,19] (λy65=>(K34 p0 p1 p3 p4 v51 [(19,vI y65.1)])) (λy65=>y65.2) (λb e s=>((∃v82,b=(.inl v82)/\(e=.exit 6/\s=(sp 275 [] v82)))\/(∃r83,b=(.inr r83)/\(e=.ret/\dp Tryz.prog Tryz.f46.results.toList r83.2 (vB r83.1) .ret s)))) hit κ (λy65 o h=>by unfold dw at h;exact an<|ax<|aa 3<|aw (aG (enc:=(D.int .i64)) (xs:=v51.2.2.1))<|aa 1<|ak<|aQ h (λh=>ao<|ag<|an<|aI<|an<|eb 275 y65.2 [0,1,3,4,11,19,240] (λ(j66:Bool)=>(K34 p0 p1 p3 p4 v51 [(19,vI y65.1),(240,vB j66)])) h (λj66 h=>aQ h (λh=>ax<|aa 2<|bI h λr72 hr h=>bJ (bQ hr)<|aa 1<|ak<|al<|aq<|aJ<|aq<|aq<|LR h (.inr (⟨(r72.1,r72.2),rfl,rfl,dp.ret [] κ κ⟩))) (λh=>ao<|ag<|au 1<|eb 275 y65.2 [0,1,3,4,11,19,20,21] (λ(j73:(Option Entry))=>(K34 p0 p1 p3 p4 v51 [(19,vI y65.1),(20,.d (dC ab j73)),(21,.d (dC ab p4))])) h (λj73 h=>eb 275 y65.2 [0,1,3,4,11,19,20,21] (λ(j76:(Option Entry))=>(K34 p0 p1 p3 p4 v51 [(19,vI y65.1),(20,.d (dC ab j73)),(21,.d (dC ab j76))])) h (λj76 h=>an<|hZ 11 κ κ<|bW 4<|bI h λx79 hx h=>cH (s:=bc none (Go.Sh.D.cells ((D.int .i64) x79))) (aB (n:=1) hx)<|bW 6<|gI<|bI h λr80 hr h=>bJ (ih hr)<|aa 1<|ak<|aQ h (λh=>au 1<|al<|aJ<|aq<|aq<|LR h (.inr (⟨(false,r80.2),rfl,rfl,dp.ret [] κ κ⟩))) (λh=>ao<|aL<|ag<|ah<|aa 3<|ae<|LQ h)) λjp77 h=>ax<|aa 3<|aw (aG (enc:=ab) (xs:=v51.2.1))<|aa 1<|ak<|aQ h (λh=>ah<|aa 3<|bI h λx78 hx h=>aw (s:=bc none (ab x78).cells) (aB (n:=3) hx)<|aa 1<|ae<|JQ [] h) (λh=>ao<|JQ [] h)) λjp74 h=>au 1<|aQ h (λh=>ah<|aa 4<|bI h λx75 hx h=>aw (s:=bc none (ab x75).cells) (aB (n:=3) hx)<|aa 1<|ae<|JQ [] h) (λh=>ao<|JQ [] h))) λjp67 h=>zl<|bW 3<|bI h λx68 hx h=>cH (s:=bc none (Go.Sh.D.cells ((D.int .i64) x68))) (aB (n:=1) hx)<|bW 4<|bI h λx69 hx h=>cH (s:=vI x69) (aA hx)<|pE [] [0,1,3,4,11,19,229] 2<|xg (λb=>(sp 275 (K34 p0 p1 p3 p4 v51 [(19,vI y65.1),(229,vB b)]) y65.2)) h (λh=>bW 11<|gI<|JQ [] h) λh=>bW 3<|bI h λx70 hx h=>cH (s:=vI x70) (aA hx)<|bW 3<|bI h λx71 hx h=>cH (aV hx)<|cH (aG (enc:=b8) (xs:=x71))<|bW 2<|gI<|JQ [] h) (λh=>aH 275 y65.2 []<|bN<|aY<|aY<|LR h (.inl ⟨y65.2,rfl,rfl,rfl⟩))) (by rintro _ _ (⟨v82,rfl,rfl,rfl⟩|⟨r83,rfl,rfl,hE⟩);exact have h:=jv h;bq<|ag<|au 1<|al<|iI h▸E0;exact have h:=ju h;aJ<|aq<|(by cases h;exact hE))) λjp58 h=>an<|zl<|bW 2<|cH (aG (enc:=ab) (xs:=v51.2.1))<|bW 3<|bI h λx59 hx h=>cH (s:=vI x59) (aA hx)<|pE [] [0,1,2,3,4,11,17,18,180] 2<|xg (λb=>(sp 275 (K6 p0 p1 p2 p3 p4 [(11,Hl v51),(17,vI j53),(18,vI j55),(180,vB b)]) v51.2.2.2)) h (λh=>bW 28<|gI<|ag<|en κ<|ax<|aa 2<|bI h λr60 hr h=>bJ (bQ hr)<|aa 1<|ak<|al<|aq<|iI h▸E0) λh=>bW 2<|cH (aG (enc:=ab) (xs:=v51.2.1))<|pE [] [0,1,2,3,4,11,18,187] 4<|QL 275 v51.2.2.2 [0,1,2,3,4,11,18,191] 4 (decide ((v51.2.1.length:Int)<j53)) (λb=>(sp 275 (K6 p0 p1 p2 p3 p4 [(11,Hl v51),(18,vI j55),(187,vB b)]) v51.2.2.2)) (λb=>(K6 p0 p1 p2 p3 p4 [(11,Hl v51),(18,vI j55),(191,vB (b||(decide (v51.1<0))))])) κ κ κ κ<|pE [] [0,1,2,3,4,11,18,192] 1<|xg (λb=>(sp 275 (K6 p0 p1 p2 p3 p4 [(11,Hl v51),(18,vI j55),(192,vB b)]) v51.2.2.2)) h (λh=>bW 16<|gI<|ag<|en κ<|ax<|aa 2<|bI h λr61 hr h=>bJ (bQ hr)<|aa 1<|ak<|al<|aq<|iI h▸E0) λh=>pE [] [0,1,2,3,4,11,18,192,195] 3<|xg (λb=>(sp 275 (K6 p0 p1 p2 p3 p4 [(11,Hl v51),(18,vI j55),(192,vB false),(195,vB b)]) v51.2.2.2)) h (λh=>pE [] [0,1,3,4,11,18,202] 7<|xg (λb=>(sp 275 (K34 p0 p1 p3 p4 v51 [(18,vI j55),(202,vB b)]) v51.2.2.2)) h (λh=>bW 6<|gI<|ag<|en κ<|ax<|aa 2<|bI h λr62 hr h=>bJ (bQ hr)<|aa 1<|ak<|al<|aq<|iI h▸E0) λh=>bW 2<|cH (aG (enc:=(D.int .i64)) (xs:=v51.2.2.1))<|bW 3<|gI<|ag<|aQ h (λh=>ax<|aa 2<|bI h λr63 hr h=>bJ (bQ hr)<|aa 1<|ak<|al<|aq<|iI h▸E0) (λh=>ao<|JQ [] h)) λh=>bW 9<|cH (aG (enc:=(D.int .i64)) (xs:=v51.2.2.1))<|bW 3<|gI<|ag<|aQ h (λh=>ax<|aa 2<|bI h λr64 hr h=>bJ (bQ hr)<|aa 1<|ak<|al<|aq<|iI h▸E0) (λh=>ao<|JQ [] h)) λjp56 h=>au 1<|aQ h (λh=>ah<|aa 1<|ae<|JQ [] h) (λh=>ao<|JQ [] h)) λjp54 h=>au 1<|aQ h (λh=>au 2<|aQ h (λh=>ah<|aa 1<|ae<|JQ [] h) (λh=>ao<|JQ [] h)) (λh=>ao<|JQ [] h);exact have h:=ju h;aJ<|aq<|(by cases h;exact hE));exact have h:=ju h;aJ<|aq<|(by cases h;exact hE))
end
theorem xG{fuel:Nat}: ∀{p0:Nat} {p1:Int} {p2:Int} {p3:(Option Entry)} {p4:(Option Entry)} {H:Hp} {r:(Bool)×Hp},da fuel p0 p1 p2 p3 p4 H=some r->SC Tryz.prog false 46 [.d (.ptr p0 0),vI p1,vI p2,.d (dC ab p3),.d (dC ab p4)] H (vB r.1) r.2:=by
 induction fuel with
 |zero=>intros;rename_i h;exact nomatch (show(none:Option ((Bool)×Hp))=some _ from h)
 |succ fuel ih=>exactλh=>vm ih h
theorem uL(x:ay):fO (cD x)=true:=by simp[cD,fO,gm,gl (f:=(D.int .i64)) (λ_=>rfl),gl (f:=D.bool) (λ_=>rfl)]
theorem pR(x:Value):fO (ar x)=true:=by simp[ar,fO,gm]
theorem GP(x:Entry):fO (ab x)=true:=by simp[ab,fO,gm,gl (f:=ar) pR]
theorem IV(x:Node):fO (b8 x)=true:=by simp[b8,fO,gm,gl (f:=ab) GP,gl (f:=(D.int .i64)) (λ_=>rfl)]
def vZ(fuel:Nat)(p0:ay)(p1:Int)(p2:Int)(p3:(List Node)):Option (Int×Int):=
 (tT fuel p0).bind λr1=>
 bif (!r1)then
  some (0,1)
 else
  bif (((decide (p1<3))||(decide (p1>32)))||(decide (p2<0)))then
   some (0,7)
  else
   bif ((p3.length:Int)==0)then
    some (0,12)
   else
    (ko [] (.cells [.d (.list 1 (List.map (D.int .i64) p0.aD)),.d (.list 1 (List.map D.bool p0.Down)),.d (.int .i64 p0.ee),.d (.int .i64 p1),.d (.int .i64 p2),.d (.list 3 (List.map b8 p3)),.d (.int .i64 0),.own 1 (List.map (D.int .i64) ([]:List Int)),.d (.int .i64 (-1))])).bind λq2=>
    (da fuel q2.2 0 (-1) none none q2.1).bind λr3=>
    bif (!r3.1)then
     (bz (cI .i64).cell r3.2 q2.2 8).bind λx4=>
     some (x4,12)
    else
     (bz (cI .i64).cell r3.2 q2.2 6).bind λx5=>
     bif (decide (x5<(p3.length:Int)))then
      (bz (cI .i64).cell r3.2 q2.2 6).bind λx6=>
      some (x6,12)
     else
      (bG 1 (cI .i64) r3.2 q2.2 7).bind λx7=>
      bif (decide ((x7.length:Int)>500))then
       some (0,4)
      else
       some ((-1),0)
section
attribute [local irreducible] bX jR lM lQ SW uS
def K71:=λa0 a1 a2 a3 (t:SL)=>((1,vI a0)::(2,vI a1)::(3,vF a2)::(4,Z1 a3)::t:SL)
theorem Ix(h:vZ fuel p0 p1 p2 p3=some r):PC Tryz.prog 14 [.d (cD p0),vI p1,vI p2,.d (.list 3 (List.map b8 p3))] (.g8 [vI r.1,vI r.2]):=by
 exact pB Tryz.func14 rfl (by simp[jh,fO,gm,vI,vB,vS,uL,gl (f:=b8) IV]) (by simp[jh,fO,gm,vI,vB,vS])<|(by unfold vZ at h;exact aH 60 [] [(0,Z2 p0),(1,vI p1),(2,vI p2),(3,vF p3)]<|au 1<|an<|aI<|ax<|aa 1<|bI h λr1 hr h=>bw (AP hr)<|aa 2<|ak<|aQ h (λh=>au 1<|al<|aJ<|aq<|iI h▸EL) (λh=>ax<|aU [] [1,2,3,4,18] 3<|dO 60 [] [1,2,3,4,21] 3 (decide (p1<3)) (λb=>(sp 60 (K71 p1 p2 p3 p0 [(18,vB b)]) [])) (λb=>(K71 p1 p2 p3 p0 [(21,vB (b||(decide (p1>32))))])) κ κ κ<|aU [] [1,2,3,4,22] 1<|dO 60 [] [1,2,3,4,25] 3 ((decide (p1<3))||(decide (p1>32))) (λb=>(sp 60 (K71 p1 p2 p3 p0 [(22,vB b)]) [])) (λb=>(K71 p1 p2 p3 p0 [(25,vB (b||(decide (p2<0))))])) κ κ κ<|aa 1<|ak<|aQ h (λh=>au 1<|al<|aJ<|aq<|iI h▸EL) (λh=>ax<|aa 1<|aw (aG (enc:=b8) (xs:=p3))<|aa 2<|ak<|aQ h (λh=>au 1<|al<|aJ<|aq<|iI h▸EL) (λh=>ao<|aL<|ag<|ax<|aa 5<|bI h λq2 hq h=>xb [(7,1,true)] hq<|aa 1<|ak<|an<|ax<|aa 1<|bI h λr3 hr h=>bJ (xG hr)<|aa 1<|ak<|aQ h (λh=>ax<|aa 3<|bI h λx4 hx h=>aw (s:=vI x4) (aA hx)<|aa 2<|ak<|al<|aq<|iI h▸EL) (λh=>ao<|ag<|an<|ax<|aa 3<|bI h λx5 hx h=>aw (s:=vI x5) (aA hx)<|aa 1<|aw (aG (enc:=b8) (xs:=p3))<|aa 1<|ak<|aQ h (λh=>ax<|aa 3<|bI h λx6 hx h=>aw (s:=vI x6) (aA hx)<|aa 2<|ak<|al<|aq<|iI h▸EL) (λh=>ao<|ag<|an<|ax<|aa 3<|bI h λx7 hx h=>aw (aV hx)<|aw (aG (enc:=(D.int .i64)) (xs:=x7))<|aa 1<|ak<|aQ h (λh=>au 1<|al<|aq<|iI h▸EL) (λh=>ao<|ag<|au 1<|al<|iI h▸EL)))))))
def gB(fuel:Nat)(rc:((List Node)->Int->Option ((List Entry))))(p0:(List Node))(x1:Node)(y2:(List Entry)×Int):Option (((List Entry)×Int)⊕((List Entry))):=
 bif (decide (y2.2<(x1.Entries.length:Int)))then
  bif (decide ((x1.Kids.length:Int)>0))then
   (idx x1.Kids y2.2).bind λx3=>
   (rc p0 x3).bind λr4=>
   et (decide ((y2.1++r4).length<=room))<|
   (idx x1.Entries y2.2).bind λx5=>
   et (decide (((y2.1++r4)++[x5]).length<=room))<|
   some (.inl (((y2.1++r4)++[x5]),(IntKind.wrap .i64 (y2.2+1))))
  else
   (idx x1.Entries y2.2).bind λx6=>
   et (decide ((y2.1++[x6]).length<=room))<|
   some (.inl ((y2.1++[x6]),(IntKind.wrap .i64 (y2.2+1))))
 else
  some (.inr y2.1)
def jy(fuel:Nat)(rc:((List Node)->Int->Option ((List Entry))))(p0:(List Node))(p1:Int):Option ((List Entry)):=
 (idx p0 p1).bind λx1=>
 (iter (gB fuel rc p0 x1) fuel (([]:List Entry),0)).bind λv8=>
 bif (decide ((x1.Kids.length:Int)>0))then
  (idx x1.Kids (IntKind.wrap .i64 ((x1.Kids.length:Int) - 1))).bind λx9=>
  (rc p0 x9).bind λr10=>
  et (decide ((v8++r10).length<=room))<|
  some (v8++r10)
 else
  some v8
def jV:Nat->((List Node)->Int->Option ((List Entry)))
 |0=>λ_ _=>none
 |fuel+1=>jy fuel (jV fuel)
def ON(x0:(List Entry)×Int):SV:=.own 3 (List.map ab x0.1)
theorem AO{fuel:Nat}{rc:((List Node)->Int->Option ((List Entry)))}(ih: ∀{p0:(List Node)} {p1:Int} {r:(List Entry)},rc p0 p1=some r->PC Tryz.prog 92 [.d (.list 3 (List.map b8 p0)),vI p1] (.own 3 (List.map ab r))){p0:(List Node)}{p1:Int}{r:(List Entry)}(h:jy fuel rc p0 p1=some r):PC Tryz.prog 92 [.d (.list 3 (List.map b8 p0)),vI p1] (.own 3 (List.map ab r)):=by
 refine aW Tryz.func92 rfl λH=>?_
 unfold jy at h
 exact aH 57 H [(0,vF p0),(1,vI p1)]<|au 1<|ax<|aa 2<|bI h λx1 hx h=>aw (s:=bc none (b8 x1).cells) (aB (n:=3) hx)<|aa 3<|ak<|au 1<|an<|au 1<|aI<|bI h λv8 hit h=>eY 57 H [0,5,6,7] (λy2=>[(0,vF p0),(5,uC x1),(6,.own 3 (List.map ab y2.1)),(7,vI y2.2)]) (λv8 e s=>(e=.exit 0/\s=(sp 57 [(0,vF p0),(5,uC x1),(6,.own 3 (List.map ab v8))] H))) hit κ (λy2 o h=>by unfold gB at h;exact an<|ax<|aa 3<|aw (aG (enc:=ab) (xs:=x1.Entries))<|aa 1<|ak<|aQ h (λh=>ao<|ag<|an<|aI<|an<|ax<|aa 2<|aw (aG (enc:=(D.int .i64)) (xs:=x1.Kids))<|aa 1<|ak<|aQ h (λh=>ah<|aP [23] 5<|bI h λx3 hx h=>aw (s:=bc none (Go.Sh.D.cells ((D.int .i64) x3))) (aB (n:=1) hx)<|aP [23] 1<|bI h λr4 hr h=>bw (ih hr)<|nj h λhk h=>fx 23 3 (List.map ab (y2.1++r4)) (bt) (bZ hk)<|aP [23] 1<|ak<|ah<|aP [32] 4<|bI h λx5 hx h=>aw (s:=bc none (ab x5).cells) (aB (n:=3) hx)<|aP [32] 2<|nj h λhk h=>fx 32 3 (List.map ab ((y2.1++r4)++[x5])) (bt) (bZ hk)<|aP [32] 1<|ae<|aL<|ag<|ah<|aa 3<|ae<|LQ h) (λh=>ao<|ag<|ah<|aP [32] 4<|bI h λx6 hx h=>aw (s:=bc none (ab x6).cells) (aB (n:=3) hx)<|aP [32] 2<|nj h λhk h=>fx 32 3 (List.map ab (y2.1++[x6])) (bt) (bZ hk)<|aP [32] 1<|ae<|aL<|ag<|ah<|aa 3<|ae<|LQ h)) (λh=>aH 57 H [(0,vF p0),(5,uC x1),(6,ON y2)]<|bN<|aY<|aY<|LR h ⟨rfl,rfl⟩)) (by rintro _ _ ⟨rfl,rfl⟩;exact bq<|ag<|an<|ax<|aa 2<|aw (aG (enc:=(D.int .i64)) (xs:=x1.Kids))<|aa 1<|ak<|aQ h (λh=>ah<|aP [44] 6<|aw (aG (enc:=(D.int .i64)) (xs:=x1.Kids))<|aP [44] 1<|bI h λx9 hx h=>aw (s:=bc none (Go.Sh.D.cells ((D.int .i64) x9))) (aB (n:=1) hx)<|aP [44] 1<|bI h λr10 hr h=>bw (ih hr)<|nj h λhk h=>fx 44 3 (List.map ab (v8++r10)) (bt) (bZ hk)<|aP [44] 1<|ak<|ax<|aP [56] 2<|ak<|al<|iI h▸E0) (λh=>ao<|ag<|ax<|aP [56] 2<|ak<|al<|iI h▸E0))
end
theorem Ed{fuel:Nat}: ∀{p0:(List Node)} {p1:Int} {r:(List Entry)},jV fuel p0 p1=some r->PC Tryz.prog 92 [.d (.list 3 (List.map b8 p0)),vI p1] (.own 3 (List.map ab r)):=by
 induction fuel with
 |zero=>intros;rename_i h;exact nomatch (show(none:Option ((List Entry)))=some _ from h)
 |succ fuel ih=>exactλh=>AO ih h
def AW(fuel:Nat)(p0:ay)(p1:Int)(p2:Int)(p3:(List Node)):Option (Tree×Int×Int):=
 (vZ fuel p0 p1 p2 p3).bind λr1=>
 bif (r1.2 !=0)then
  some ((⟨(⟨([]:List Int),([]:List Bool),0⟩:ay),0,([]:List Entry),0⟩:Tree),r1.1,r1.2)
 else
  (jV fuel p3 0).bind λr2=>
  some ((⟨p0,p1,r2,p2⟩:Tree),r1.1,0)
def Ua(x0:ay)(x1:Int)(x2:(List Entry))(x3:Int):SV:=.box [.d (.list 1 (List.map (D.int .i64) x0.aD)),.d (.list 1 (List.map D.bool x0.Down)),vI x0.ee,vI x1,.d (.list 3 (List.map ab x2)),vI x3]
section
attribute [local irreducible] bX jR lM lQ SW uS
theorem Lk(h:AW fuel p0 p1 p2 p3=some r):PC Tryz.prog 69 [.d (cD p0),vI p1,vI p2,.d (.list 3 (List.map b8 p3))] (.g8 [.d (.agg [.list 1 (List.map (D.int .i64) r.1.S.aD),.list 1 (List.map D.bool r.1.S.Down),.int .i64 r.1.S.ee,.int .i64 r.1.Order,.list 3 (List.map ab r.1.ea),.int .i64 r.1.gJ]),vI r.2.1,vI r.2.2]):=by
 refine aW Tryz.func69 rfl λH=>?_
 unfold AW at h
 exact aH 33 H [(0,Z2 p0),(1,vI p1),(2,vI p2),(3,vF p3)]<|au 1<|ax<|aa 4<|bI h λr1 hr h=>bw (Ix hr)<|aa 5<|ak<|an<|au 1<|aQ h (λh=>mS 1 [8,9,10]<|dH 8 0 1 33 H [8,9,10] [(8,Sa),(9,vI r1.1),(10,vI r1.2)] κ<|dH 8 1 1 33 H [8,9,10] [(8,R9),(9,vI r1.1),(10,vI r1.2)] κ<|dH 8 4 3 33 H [8,9,10] [(8,R8),(9,vI r1.1),(10,vI r1.2)] κ<|al<|aq<|iI h▸E0) (λh=>ao<|ag<|an<|bI h λr2 hr_3 h=>aH 33 H (K71 p1 p2 p3 p0 [(8,qc),(11,vI r1.1)])<|jb 33 H [(8,Ua p0 p1 r2 p2),(9,vI r1.1),(10,vI 0)] [1,2,4,6] 6 86 κ κ κ (λX hX=>by subst hX;exact aC<|aC<|aC<|du 33 H [4,8,27,28,30,32] [(4,Z1 p0),(8,qc),(27,vI p1),(28,vF p3),(30,vI p2),(32,vI r1.1)] κ<|dZ<|mD [] [(3,eV _),(5,eF 29)] ⟨zt (Ed hr_3),zr,trivial⟩) (ag<|al<|iI h▸E0))
def gV(fuel:Nat)(p0:(List Entry))(p1:(List Entry))(y1:Int):Option ((Int)⊕((Unit)⊕((Bool)))):=
 bif (decide (y1<(p0.length:Int)))then
  (idx p0 y1).bind λx2=>
  (idx p1 y1).bind λx3=>
  bif (x2.Key !=x3.Key)then
   some (.inr (.inr false))
  else
   (idx p0 y1).bind λx4=>
   (idx p1 y1).bind λx5=>
   bif (x4.Number !=x5.Number)then
    some (.inr (.inr false))
   else
    (idx p0 y1).bind λx6=>
    (idx p1 y1).bind λx7=>
    (jC fuel x6.Row x7.Row).bind λr8=>
    bif (!r8)then
     some (.inr (.inr false))
    else
     some (.inl (IntKind.wrap .i64 (y1+1)))
 else
  some (.inr (.inl ()))
def dI(fuel:Nat)(p0:(List Entry))(p1:(List Entry)):Option (Bool):=
 bif ((p0.length:Int) !=(p1.length:Int))then
  some false
 else
  (iter (gV fuel p0 p1) fuel 0).bind (Sum.elim (λv10=>
   some true) (λr11=>
   some r11))
theorem gb(h:dI fuel p0 p1=some r):PC Tryz.prog 16 [.d (.list 3 (List.map ab p0)),.d (.list 3 (List.map ab p1))] (vB r):=by
 refine aW Tryz.func16 rfl λH=>?_
 unfold dI at h
 exact aH 55 H [(0,Hk p0),(1,Hk p1)]<|au 1<|an<|ax<|aa 1<|aw (aG (enc:=ab) (xs:=p0))<|aa 1<|aw (aG (enc:=ab) (xs:=p1))<|aa 1<|ak<|aQ h (λh=>au 1<|al<|aq<|iI h▸E0) (λh=>ao<|ag<|an<|au 1<|aI<|bI h λz9 hit h=>eY 55 H [0,1,5] (λy1=>[(0,Hk p0),(1,Hk p1),(5,vI y1)]) (λb e s=>((∃v10,b=(.inl v10)/\(e=.exit 0/\s=(sp 55 [] H)))\/(∃r11,b=(.inr r11)/\(e=.ret/\dp Tryz.prog Tryz.f16.results.toList H (vB r11) .ret s)))) hit κ (λy1 o h=>by unfold gV at h;exact an<|ax<|aa 2<|aw (aG (enc:=ab) (xs:=p0))<|aa 1<|ak<|aQ h (λh=>ao<|ag<|an<|aI<|an<|fM<|aF 2<|bI h λx2 hx h=>bm (s:=bc none (ab x2).cells) (aB (n:=3) hx)<|aF 4<|bI h λx3 hx h=>bm (s:=bc none (ab x3).cells) (aB (n:=3) hx)<|dt [] [0,1,5,28] 4<|dP (λb=>(sp 55 [(0,Hk p0),(1,Hk p1),(5,vI y1),(28,vB b)] H)) h (λh=>aF 26<|bF<|ag<|en κ<|au 1<|al<|aJ<|aq<|aq<|LR h (.inr (⟨false,rfl,rfl,dp.ret [] κ κ⟩))) λh=>aF 2<|bI h λx4 hx h=>bm (s:=bc none (ab x4).cells) (aB (n:=3) hx)<|aF 4<|bI h λx5 hx h=>bm (s:=bc none (ab x5).cells) (aB (n:=3) hx)<|dt [] [0,1,5,41] 5<|dP (λb=>(sp 55 [(0,Hk p0),(1,Hk p1),(5,vI y1),(41,vB b)] H)) h (λh=>aF 13<|bF<|ag<|en κ<|au 1<|al<|aJ<|aq<|aq<|LR h (.inr (⟨false,rfl,rfl,dp.ret [] κ κ⟩))) λh=>aF 2<|bI h λx6 hx h=>bm (s:=bc none (ab x6).cells) (aB (n:=3) hx)<|aF 4<|bI h λx7 hx h=>bm (s:=bc none (ab x7).cells) (aB (n:=3) hx)<|aF 2<|bI h λr8 hr h=>fk (nN hr)<|aF 2<|bF<|ag<|aQ h (λh=>au 1<|al<|aJ<|aq<|aq<|LR h (.inr (⟨false,rfl,rfl,dp.ret [] κ κ⟩))) (λh=>ao<|aL<|ag<|ah<|aa 3<|ae<|LQ h)) (λh=>aH 55 H []<|bN<|aY<|aY<|LR h (.inl ⟨(),rfl,rfl,rfl⟩))) (by rintro _ _ (⟨v10,rfl,rfl,rfl⟩|⟨r11,rfl,rfl,hE⟩);exact have h:=jv h;bq<|ag<|au 1<|al<|iI h▸E0;exact have h:=ju h;aJ<|aq<|(by cases h;exact hE)))
def lX(fuel:Nat)(p0:Nat)(H:Hp):Option (Int):=
 (bz (cI .i64).cell H p0 6).bind λx1=>
 some x1
theorem oc(h:lX fuel p0 H=some r):SC Tryz.prog true 70 [.d (.ptr p0 0)] H (vI r) H:=by
 refine fN Tryz.func70 rfl ?_
 unfold lX at h
 exact aH 9 H [(0,.d (.ptr p0 0))]<|au 1<|an<|au 1<|iV<|ao<|ag<|ax<|aa 3<|bI h λx1 hx h=>aw (s:=vI x1) (aA hx)<|aa 1<|ak<|al<|iI h▸E0
def jA(fuel:Nat)(p0:Tree)(y1:(List Int)×Int):Option (((List Int)×Int)⊕((List Int))):=
 bif (decide (y1.2<(p0.ea.length:Int)))then
  (idx p0.ea y1.2).bind λx2=>
  et (decide ((y1.1++[x2.Key]).length<=room))<|
  some (.inl ((y1.1++[x2.Key]),(IntKind.wrap .i64 (y1.2+1))))
 else
  some (.inr y1.1)
def nI(fuel:Nat)(p0:Tree):Option ((List Int)):=
 (iter (jA fuel p0) fuel (([]:List Int),0)).bind λv4=>
 some v4
def TZ(x0:Int)(x1:Tree):SV:=vB (x0==(x1.ea.length:Int))
def RW(x0:(List Int)×Int):SV:=.own 1 (List.map (D.int .i64) x0.1)
theorem AR(h:nI fuel p0=some r):PC Tryz.prog 71 [.d (jj p0)] (.own 1 (List.map (D.int .i64) r)):=by
 refine aW Tryz.func71 rfl λH=>?_
 unfold nI at h
 exact aH 22 H [(0,yh p0)]<|au 2<|an<|au 1<|aI<|bI h λv4 hit h=>eY 22 H [1,3,4] (λy1=>[(1,pH p0),(3,.own 1 (List.map (D.int .i64) y1.1)),(4,vI y1.2)]) (λv4 e s=>(e=.exit 0/\s=(sp 22 [(3,.own 1 (List.map (D.int .i64) v4))] H))) hit κ (λy1 o h=>by unfold jA at h;exact an<|ax<|aa 3<|aw (aG (enc:=ab) (xs:=p0.ea))<|aa 1<|ak<|aQ h (λh=>ao<|ag<|an<|aI<|ah<|aP [12] 4<|bI h λx2 hx h=>aw (s:=bc none (ab x2).cells) (aB (n:=3) hx)<|aP [12] 3<|nj h λhk h=>fx 12 1 (List.map (D.int .i64) (y1.1++[x2.Key])) (bt) (bZ hk)<|aP [12] 1<|ae<|aL<|ag<|ah<|aa 3<|ae<|LQ h) (λh=>aH 22 H [(3,RW y1)]<|bN<|aY<|aY<|LR h ⟨rfl,rfl⟩)) (by rintro _ _ ⟨rfl,rfl⟩;exact bq<|ag<|ax<|aP [21] 2<|ak<|al<|iI h▸E0)
def iP(fuel:Nat)(p0:(List Int))(p1:(List Int))(y1:Int):Option ((Int)⊕((Unit)⊕((Bool)))):=
 bif (decide (y1<(p0.length:Int)))then
  (idx p0 y1).bind λx2=>
  (idx p1 y1).bind λx3=>
  bif (x2 !=x3)then
   some (.inr (.inr false))
  else
   some (.inl (IntKind.wrap .i64 (y1+1)))
 else
  some (.inr (.inl ()))
def jW(fuel:Nat)(p0:(List Int))(p1:(List Int)):Option (Bool):=
 bif ((p0.length:Int) !=(p1.length:Int))then
  some false
 else
  (iter (iP fuel p0 p1) fuel 0).bind (Sum.elim (λv5=>
   some true) (λr6=>
   some r6))
theorem rY(h:jW fuel p0 p1=some r):PC Tryz.prog 21 [.d (.list 1 (List.map (D.int .i64) p0)),.d (.list 1 (List.map (D.int .i64) p1))] (vB r):=by
 refine aW Tryz.func21 rfl λH=>?_
 unfold jW at h
 exact aH 26 H [(0,Qy p0),(1,Qy p1)]<|au 1<|an<|ax<|aa 1<|aw (aG (enc:=(D.int .i64)) (xs:=p0))<|aa 1<|aw (aG (enc:=(D.int .i64)) (xs:=p1))<|aa 1<|ak<|aQ h (λh=>au 1<|al<|aq<|iI h▸E0) (λh=>ao<|ag<|an<|au 1<|aI<|bI h λz4 hit h=>eY 26 H [0,1,5] (λy1=>[(0,Qy p0),(1,Qy p1),(5,vI y1)]) (λb e s=>((∃v5,b=(.inl v5)/\(e=.exit 0/\s=(sp 26 [] H)))\/(∃r6,b=(.inr r6)/\(e=.ret/\dp Tryz.prog Tryz.f21.results.toList H (vB r6) .ret s)))) hit κ (λy1 o h=>by unfold iP at h;exact an<|ax<|aa 2<|aw (aG (enc:=(D.int .i64)) (xs:=p0))<|aa 1<|ak<|aQ h (λh=>ao<|ag<|an<|aI<|an<|zl<|bW 2<|bI h λx2 hx h=>cH (s:=bc none (Go.Sh.D.cells ((D.int .i64) x2))) (aB (n:=1) hx)<|bW 3<|bI h λx3 hx h=>cH (s:=bc none (Go.Sh.D.cells ((D.int .i64) x3))) (aB (n:=1) hx)<|bW 2<|gI<|ag<|aQ h (λh=>au 1<|al<|aJ<|aq<|aq<|LR h (.inr (⟨false,rfl,rfl,dp.ret [] κ κ⟩))) (λh=>ao<|aL<|ag<|ah<|aa 3<|ae<|LQ h)) (λh=>aH 26 H []<|bN<|aY<|aY<|LR h (.inl ⟨(),rfl,rfl,rfl⟩))) (by rintro _ _ (⟨v5,rfl,rfl,rfl⟩|⟨r6,rfl,rfl,hE⟩);exact have h:=jv h;bq<|ag<|au 1<|al<|iI h▸E0;exact have h:=ju h;aJ<|aq<|(by cases h;exact hE)))
def kS(fuel:Nat)(p0:Nat)(p1:Tree)(H:Hp):Option ((Bool)×Hp):=
 (ir fuel p0 H).bind λr1=>
 (AW fuel p1.S p1.Order p1.gJ r1.1).bind λr2=>
 bp (λ(j3:Bool)=>
  bif j3 then
   some (false,r1.2)
  else
   (lX fuel p0 r1.2).bind λr8=>
   bif (r8==(p1.ea.length:Int))then
    (ln fuel p0 r1.2).bind λr24=>
    bif (r24==p1.gJ)then
     (iu fuel p0 r1.2).bind λr35=>
     (dI fuel r35.1 p1.ea).bind λr46=>
     bif r46 then
      (lp fuel p0 r35.2).bind λr47=>
      (nI fuel p1).bind λr58=>
      (jW fuel r47.1 r58).bind λr59=>
      some (r59,r47.2)
     else
      some (false,r35.2)
    else
     some (false,r1.2)
   else
    some (false,r1.2)) λjp4=>
 bif ((r2.2.2 !=0)||(r2.2.1 !=(-1)))then
  jp4 true
 else
  (dI fuel r2.1.ea p1.ea).bind λr5=>
  bif (!r5)then
   jp4 true
  else
   (iY fuel p0 r1.2).bind λr6=>
   (idx r1.1 0).bind λx7=>
   jp4 (r6 !=(IntKind.wrap .i64 (x7.Level+1)))
def K13:=λa0 a1 (t:SL)=>((0,.d (.ptr a0 0))::(3,pH a1)::t:SL)
theorem nf(h:kS fuel p0 p1 H=some r):SC Tryz.prog false 41 [.d (.ptr p0 0),.d (jj p1)] H (vB r.1) r.2:=by
 refine cf Tryz.func41 rfl ?_
 unfold kS at h
 exact aH 74 H [(0,.d (.ptr p0 0)),(1,yh p1)]<|au 1<|ax<|aa 1<|bI h λr1 hr h=>bJ (dr hr)<|aa 1<|ak<|ax<|aa 7<|bI h λr2 hr h=>bw (Lk hr)<|aa 8<|ak<|an<|eb 74 r1.2 [0,3,46] (λ(j3:Bool)=>(K13 p0 p1 [(46,vB j3)])) h (λj3 h=>aQ h (λh=>au 1<|al<|aq<|iI h▸E0) (λh=>ao<|ag<|an<|zm (K13 p0 p1 [])<|Hr 28 κ κ (λl=>gL (d':=26) [0,2] (K13 p0 p1 [(47,.d (.ptr p0 0)),(49,.loc 3 4)])<|bI h λr8 hr_1 h=>cg (b:=true) (H:=r1.2) 23 31 74 (K13 p0 p1 [(48,vI r8),(51,OO p1)]) (gL (d':=21) [5,6] (K13 p0 p1 [(53,TZ r8 p1)])<|xf (r8==(p1.ea.length:Int)) (λb=>(sp 74 (K13 p0 p1 [(53,vB b)]) r1.2)) κ (λhc=>have h:=fP hc h;gL (d':=19) [7,9] (K13 p0 p1 [(53,vB true),(54,.d (.ptr p0 0)),(56,.loc 3 5)])<|bI h λr24 hr_8 h=>cg (b:=true) (H:=r1.2) 17 2047 74 (K13 p0 p1 [(53,vB true),(55,vI r24),(57,vI p1.gJ)]) (gL (d':=14) [11,12,13] (K13 p0 p1 [(60,vB (r24==p1.gJ))])<|xf (r24==p1.gJ) (λb=>(sp 74 (K13 p0 p1 [(60,vB b)]) r1.2)) κ (λhc=>have h:=fP hc h;gL (d':=12) [14,16] (K13 p0 p1 [(60,vB true),(61,.d (.ptr p0 0)),(63,.loc 3 4)])<|bI h λr35 hr_15 h=>cg (b:=true) (H:=r35.2) 10 262143 74 (K13 p0 p1 [(60,vB true),(62,.own 3 (List.map ab r35.1)),(64,CE p1)]) (bI h λr46 hr_18 h=>sg 18 bK<|vG (d:=some 65) (ls:=[(.slot 62)]) (gs:=[]) [] (K13 p0 p1 [(60,vB true),(65,vB r46)]) (gb hr_18)<|ae<|gL (d':=7) [19,20] (K13 p0 p1 [(67,vB r46)])<|xf r46 (λb=>(sp 74 (K13 p0 p1 [(67,vB b)]) r35.2)) κ (λhc=>have h:=fP hc h;gL (d':=6) [21] [(3,pH p1),(67,vB true),(68,.d (.ptr p0 0))]<|bI h λr47 hr_22 h=>cg (b:=true) (H:=r47.2) 4 16777215 74 [(67,vB true),(69,.own 1 (List.map (D.int .i64) r47.1)),(70,yh p1)] (bI h λr58 hr_24 h=>sg 24 bK<|rU (some 71) [(67,vB true),(69,Ma r47),(71,.own 1 (List.map (D.int .i64) r58))] (AR hr_24)<|ae<|bI h λr59 hr_25 h=>sg 25 bK<|vG (d:=some 72) (ls:=[(.slot 69),(.slot 71)]) (gs:=[]) [] [(67,vB true),(72,vB r59)] (rY hr_25)<|ae<|gL (d':=0) [26,27] [(4,vB r59)]<|ny κ<|ag<|al<|iI h▸E0) (λc16777215=>cg (b:=true) (H:=r47.2) 5 8388607 74 [(3,pH p1),(67,vB true),(69,.own 1 (List.map (D.int .i64) r47.1))] (bD (i0:=23) (is:=[]) κ ⟨bh (bf 74 r47.2 [] [67,69,70] 1 [(67,vB true),(69,Ma r47),(70,yh p1)] κ<|ae<|c16777215) bK,trivial⟩) (λc8388607=>cg (b:=true) (H:=r35.2) 5 12582911 74 [(67,vB true),(68,.d (.ptr p0 0)),(70,yh p1)] (bD (i0:=22) (is:=[]) κ ⟨bh (xc 74 [(67,vB true),(69,Ma r47),(70,yh p1)] (oY hr_22)<|ae<|c16777215) bK,trivial⟩) (λc12582911=>bD (i0:=22) (is:=[23]) κ ⟨bh (mF (some 69) [(3,pH p1),(67,vB true),(69,.own 1 (List.map (D.int .i64) r47.1))] (oY hr_22)<|ae<|c8388607) bK,bh (aK 1 [(67,vB true),(68,.d (.ptr p0 0)),(70,yh p1)]<|ae<|c12582911) bK,trivial⟩)))) (λhc=>have h:=fQ hc h;gL (d':=0) [21,23,22,24,25,26,27] [(4,vB false)]<|ny κ<|ag<|al<|iI h▸E0)) (λc262143=>cg (b:=true) (H:=r35.2) 11 131071 74 (K13 p0 p1 [(60,vB true),(62,.own 3 (List.map ab r35.1)),(63,.loc 3 4)]) (bD (i0:=17) (is:=[]) κ ⟨bh (bf 74 r35.2 [] [0,3,60,62,64] 1 (K13 p0 p1 [(60,vB true),(62,Mb r35),(64,CE p1)]) κ<|ae<|c262143) bK,trivial⟩) (λc131071=>cg (b:=true) (H:=r1.2) 11 229375 74 (K13 p0 p1 [(60,vB true),(61,.d (.ptr p0 0)),(64,CE p1)]) (bD (i0:=15) (is:=[]) κ ⟨bh (xc 74 (K13 p0 p1 [(60,vB true),(62,Mb r35),(64,CE p1)]) (kD hr_15)<|ae<|c262143) bK,trivial⟩) (λc229375=>bD (i0:=15) (is:=[17]) κ ⟨bh (mF (some 62) (K13 p0 p1 [(60,vB true),(62,.own 3 (List.map ab r35.1)),(63,.loc 3 4)]) (kD hr_15)<|ae<|c131071) bK,bh (aK 1 (K13 p0 p1 [(60,vB true),(61,.d (.ptr p0 0)),(64,CE p1)])<|ae<|c229375) bK,trivial⟩)))) (λhc=>have h:=fQ hc h;gL (d':=0) [14,16,17,15,18,19,20,21,23,22,24,25,26,27] [(4,vB false)]<|ny κ<|ag<|al<|iI h▸E0)) (λc2047=>cg (b:=true) (H:=r1.2) 18 1023 74 (K13 p0 p1 [(53,vB true),(55,vI r24),(56,.loc 3 5)]) (bD (i0:=10) (is:=[]) κ ⟨bh (bf 74 r1.2 [] [0,3,53,55,57] 1 (K13 p0 p1 [(53,vB true),(55,vI r24),(57,vI p1.gJ)]) κ<|ae<|c2047) bK,trivial⟩) (λc1023=>cg (b:=true) (H:=r1.2) 18 1791 74 (K13 p0 p1 [(53,vB true),(54,.d (.ptr p0 0)),(57,vI p1.gJ)]) (bD (i0:=8) (is:=[]) κ ⟨bh (KE (ls:=[]) 74 r1.2 (K13 p0 p1 [(53,vB true),(55,vI r24),(57,vI p1.gJ)]) (fA hr_8)<|ae<|c2047) bK,trivial⟩) (λc1791=>bD (i0:=8) (is:=[10]) κ ⟨bh (fX (ls:=[]) (some 55) (K13 p0 p1 [(53,vB true),(55,vI r24),(56,.loc 3 5)]) (fA hr_8)<|ae<|c1023) bK,bh (aK 1 (K13 p0 p1 [(53,vB true),(54,.d (.ptr p0 0)),(57,vI p1.gJ)])<|ae<|c1791) bK,trivial⟩)))) (λhc=>have h:=fQ hc h;gL (d':=0) [7,9,10,8,11,12,13,14,16,17,15,18,19,20,21,23,22,24,25,26,27] [(4,vB false)]<|ny κ<|ag<|al<|iI h▸E0)) (λc31=>cg (b:=true) (H:=r1.2) 24 15 74 (K13 p0 p1 [(48,vI r8),(50,CE p1)]) (bD (i0:=4) (is:=[]) κ ⟨bh (fV 74 r1.2 (d:=some 51) [0,3,48,51] (K13 p0 p1 [(48,vI r8),(51,OO p1)]) (aG (enc:=ab) (xs:=p1.ea)) κ<|ae<|c31) bK,trivial⟩) (λc15=>cg (b:=true) (H:=r1.2) 24 29 74 (K13 p0 p1 [(47,.d (.ptr p0 0)),(51,OO p1)]) (bD (i0:=1) (is:=[]) κ ⟨bh (KE (ls:=[]) 74 r1.2 (K13 p0 p1 [(48,vI r8),(51,OO p1)]) (oc hr_1)<|ae<|c31) bK,trivial⟩) (λc29=>cg (b:=true) (H:=r1.2) 25 7 74 (K13 p0 p1 [(48,vI r8),(49,.loc 3 4)]) (bD (i0:=3) (is:=[]) κ ⟨bh (bf 74 r1.2 [] [0,3,48,50] 1 (K13 p0 p1 [(48,vI r8),(50,CE p1)]) κ<|ae<|c15) bK,trivial⟩) (λc7=>cg (b:=true) (H:=r1.2) 25 13 74 (K13 p0 p1 [(47,.d (.ptr p0 0)),(50,CE p1)]) (bD (i0:=1) (is:=[4]) κ ⟨bh (fX (ls:=[]) (some 48) (K13 p0 p1 [(48,vI r8),(50,CE p1)]) (oc hr_1)<|ae<|c15) bK,bh (bb (d:=some 51) (K13 p0 p1 [(47,.d (.ptr p0 0)),(51,OO p1)]) (aG (enc:=ab) (xs:=p1.ea))<|ae<|c29) bK,trivial⟩) (λc13=>bD (i0:=1) (is:=[3]) κ ⟨bh (fX (ls:=[]) (some 48) (K13 p0 p1 [(48,vI r8),(49,.loc 3 4)]) (oc hr_1)<|ae<|c7) bK,bh (aK 1 (K13 p0 p1 [(47,.d (.ptr p0 0)),(50,CE p1)])<|ae<|c13) bK,trivial⟩)))))))) λjp4 h=>fM<|dt [] [0,3,5,6,7,25] 3<|KG 74 r1.2 [0,3,5,6,28] 3 (r2.2.2 !=0) (λb=>(sp 74 (K13 p0 p1 [(5,jL r1),(6,R0 r2),(7,vI r2.2.1),(25,vB b)]) r1.2)) (λb=>(K13 p0 p1 [(5,jL r1),(6,R0 r2),(28,vB (b||(r2.2.1 !=(-1))))])) κ κ κ<|dt [] [0,3,5,6,29] 1<|dP (λb=>(sp 74 (K13 p0 p1 [(5,jL r1),(6,R0 r2),(29,vB b)]) r1.2)) h (λh=>aF 17<|bF<|JQ [] h) λh=>aF 4<|bI h λr5 hr h=>fk (gb hr)<|dt [] [0,3,5,37] 3<|dP (λb=>(sp 74 (K13 p0 p1 [(5,jL r1),(37,vB b)]) r1.2)) h (λh=>aF 9<|bF<|JQ [] h) λh=>aF 1<|bI h λr6 hr h=>jN (ls:=[]) (gQ hr)<|aF 1<|bI h λx7 hx h=>bm (s:=bc none (b8 x7).cells) (aB (n:=3) hx)<|aF 5<|bF<|JQ [] h
noncomputable def nc (fuel:Nat) (p1:Int) (p2:(List Act)) (y4:(List Int)×(List Bool)×Int×(Option Nat)×Int×Int×Int×Bool×Bool×(Option Nat)×(List Int)×(List Bool)×Int×Int×(List Entry)×Int×Bool×Bool×Int×Hp):Option (((List Int)×(List Bool)×Int×(Option Nat)×Int×Int×Int×Bool×Bool×(Option Nat)×(List Int)×(List Bool)×Int×Int×(List Entry)×Int×Bool×Bool×Int×Hp)⊕((Option Nat)×Int×Int×Int×Bool×Bool×(Option Nat)×(List Int)×(List Bool)×Int×Int×(List Entry)×Int×Bool×Bool×Hp)):=
 bif (((decide (y4.2.2.2.2.2.2.2.2.2.2.2.2.2.2.2.2.2.2.1<(p2.length:Int)))&&y4.2.2.2.2.2.2.2.2.2.2.2.2.2.2.2.2.1)&&y4.2.2.2.2.2.2.2.2.2.2.2.2.2.2.2.2.2.1)then
  (idx p2 y4.2.2.2.2.2.2.2.2.2.2.2.2.2.2.2.2.2.2.1).bind λx5=>
  bif (x5.Kind==0)then
   y4.2.2.2.2.2.2.2.2.2.1.bind λi6=>
   (eB fuel i6 x5.Row x5.Key y4.2.2.2.2.2.2.2.2.2.2.2.2.2.2.2.2.2.2.2).bind λr7=>
   (ja fuel (⟨(⟨y4.2.2.2.2.2.2.2.2.2.2.1,y4.2.2.2.2.2.2.2.2.2.2.2.1,y4.2.2.2.2.2.2.2.2.2.2.2.2.1⟩:ay),y4.2.2.2.2.2.2.2.2.2.2.2.2.2.1,y4.2.2.2.2.2.2.2.2.2.2.2.2.2.2.1,y4.2.2.2.2.2.2.2.2.2.2.2.2.2.2.2.1⟩:Tree) x5.Row x5.Key).bind λr8=>
   bif ((r7.1.1==r8.2.1)&&(r7.1.2==r8.2.2))then
    y4.2.2.2.2.2.2.2.2.2.1.bind λi9=>
    (kS fuel i9 r8.1 r7.2).bind λr10=>
    some (.inl (y4.1,y4.2.1,y4.2.2.1,y4.2.2.2.1,y4.2.2.2.2.1,y4.2.2.2.2.2.1,y4.2.2.2.2.2.2.1,y4.2.2.2.2.2.2.2.1,y4.2.2.2.2.2.2.2.2.1,y4.2.2.2.2.2.2.2.2.2.1,r8.1.S.aD,r8.1.S.Down,r8.1.S.ee,r8.1.Order,r8.1.ea,r8.1.gJ,r10.1,y4.2.2.2.2.2.2.2.2.2.2.2.2.2.2.2.2.2.1,(IntKind.wrap .i64 (y4.2.2.2.2.2.2.2.2.2.2.2.2.2.2.2.2.2.2.1+1)),r10.2))
   else
    some (.inl (y4.1,y4.2.1,y4.2.2.1,y4.2.2.2.1,y4.2.2.2.2.1,y4.2.2.2.2.2.1,y4.2.2.2.2.2.2.1,y4.2.2.2.2.2.2.2.1,y4.2.2.2.2.2.2.2.2.1,y4.2.2.2.2.2.2.2.2.2.1,r8.1.S.aD,r8.1.S.Down,r8.1.S.ee,r8.1.Order,r8.1.ea,r8.1.gJ,false,y4.2.2.2.2.2.2.2.2.2.2.2.2.2.2.2.2.2.1,(IntKind.wrap .i64 (y4.2.2.2.2.2.2.2.2.2.2.2.2.2.2.2.2.2.2.1+1)),r7.2))
  else
   bif (x5.Kind==1)then
    y4.2.2.2.2.2.2.2.2.2.1.bind λi11=>
    (gG fuel i11 x5.Row x5.Key y4.2.2.2.2.2.2.2.2.2.2.2.2.2.2.2.2.2.2.2).bind λr12=>
    (kF fuel (⟨(⟨y4.2.2.2.2.2.2.2.2.2.2.1,y4.2.2.2.2.2.2.2.2.2.2.2.1,y4.2.2.2.2.2.2.2.2.2.2.2.2.1⟩:ay),y4.2.2.2.2.2.2.2.2.2.2.2.2.2.1,y4.2.2.2.2.2.2.2.2.2.2.2.2.2.2.1,y4.2.2.2.2.2.2.2.2.2.2.2.2.2.2.2.1⟩:Tree) x5.Row x5.Key).bind λr13=>
    bif (r12.1==r13.2)then
     y4.2.2.2.2.2.2.2.2.2.1.bind λi14=>
     (kS fuel i14 r13.1 r12.2).bind λr15=>
     some (.inl (y4.1,y4.2.1,y4.2.2.1,y4.2.2.2.1,y4.2.2.2.2.1,y4.2.2.2.2.2.1,y4.2.2.2.2.2.2.1,y4.2.2.2.2.2.2.2.1,y4.2.2.2.2.2.2.2.2.1,y4.2.2.2.2.2.2.2.2.2.1,r13.1.S.aD,r13.1.S.Down,r13.1.S.ee,r13.1.Order,r13.1.ea,r13.1.gJ,r15.1,y4.2.2.2.2.2.2.2.2.2.2.2.2.2.2.2.2.2.1,(IntKind.wrap .i64 (y4.2.2.2.2.2.2.2.2.2.2.2.2.2.2.2.2.2.2.1+1)),r15.2))
    else
     some (.inl (y4.1,y4.2.1,y4.2.2.1,y4.2.2.2.1,y4.2.2.2.2.1,y4.2.2.2.2.2.1,y4.2.2.2.2.2.2.1,y4.2.2.2.2.2.2.2.1,y4.2.2.2.2.2.2.2.2.1,y4.2.2.2.2.2.2.2.2.2.1,r13.1.S.aD,r13.1.S.Down,r13.1.S.ee,r13.1.Order,r13.1.ea,r13.1.gJ,false,y4.2.2.2.2.2.2.2.2.2.2.2.2.2.2.2.2.2.1,(IntKind.wrap .i64 (y4.2.2.2.2.2.2.2.2.2.2.2.2.2.2.2.2.2.2.1+1)),r12.2))
   else
    bif (x5.Kind==2)then
     y4.2.2.2.2.2.2.2.2.2.1.bind λi16=>
     (eG fuel i16 x5.Row x5.Key x5.yi y4.2.2.2.2.2.2.2.2.2.2.2.2.2.2.2.2.2.2.2).bind λr17=>
     (ma fuel (⟨(⟨y4.2.2.2.2.2.2.2.2.2.2.1,y4.2.2.2.2.2.2.2.2.2.2.2.1,y4.2.2.2.2.2.2.2.2.2.2.2.2.1⟩:ay),y4.2.2.2.2.2.2.2.2.2.2.2.2.2.1,y4.2.2.2.2.2.2.2.2.2.2.2.2.2.2.1,y4.2.2.2.2.2.2.2.2.2.2.2.2.2.2.2.1⟩:Tree) x5.Row x5.Key x5.yi).bind λr18=>
     bif (r17.1==r18.2)then
      y4.2.2.2.2.2.2.2.2.2.1.bind λi19=>
      (kS fuel i19 r18.1 r17.2).bind λr20=>
      some (.inl (y4.1,y4.2.1,y4.2.2.1,y4.2.2.2.1,y4.2.2.2.2.1,y4.2.2.2.2.2.1,y4.2.2.2.2.2.2.1,y4.2.2.2.2.2.2.2.1,y4.2.2.2.2.2.2.2.2.1,y4.2.2.2.2.2.2.2.2.2.1,r18.1.S.aD,r18.1.S.Down,r18.1.S.ee,r18.1.Order,r18.1.ea,r18.1.gJ,r20.1,y4.2.2.2.2.2.2.2.2.2.2.2.2.2.2.2.2.2.1,(IntKind.wrap .i64 (y4.2.2.2.2.2.2.2.2.2.2.2.2.2.2.2.2.2.2.1+1)),r20.2))
     else
      some (.inl (y4.1,y4.2.1,y4.2.2.1,y4.2.2.2.1,y4.2.2.2.2.1,y4.2.2.2.2.2.1,y4.2.2.2.2.2.2.1,y4.2.2.2.2.2.2.2.1,y4.2.2.2.2.2.2.2.2.1,y4.2.2.2.2.2.2.2.2.2.1,r18.1.S.aD,r18.1.S.Down,r18.1.S.ee,r18.1.Order,r18.1.ea,r18.1.gJ,false,y4.2.2.2.2.2.2.2.2.2.2.2.2.2.2.2.2.2.1,(IntKind.wrap .i64 (y4.2.2.2.2.2.2.2.2.2.2.2.2.2.2.2.2.2.2.1+1)),r17.2))
    else
     bif (x5.Kind==3)then
      y4.2.2.2.2.2.2.2.2.2.1.bind λi21=>
      (nC fuel i21 y4.2.2.2.2.2.2.2.2.2.2.2.2.2.2.2.2.2.2.2).bind λr22=>
      (eB fuel i21 x5.Row 1 r22.2).bind λr23=>
      bif y4.2.2.2.2.2.2.2.2.2.2.2.2.2.2.2.2.1 then
       r22.1.bind λi24=>
       (kS fuel i24 (⟨(⟨y4.2.2.2.2.2.2.2.2.2.2.1,y4.2.2.2.2.2.2.2.2.2.2.2.1,y4.2.2.2.2.2.2.2.2.2.2.2.2.1⟩:ay),y4.2.2.2.2.2.2.2.2.2.2.2.2.2.1,y4.2.2.2.2.2.2.2.2.2.2.2.2.2.2.1,y4.2.2.2.2.2.2.2.2.2.2.2.2.2.2.2.1⟩:Tree) r23.2).bind λr25=>
       some (.inl (y4.1,y4.2.1,y4.2.2.1,y4.2.2.2.1,y4.2.2.2.2.1,y4.2.2.2.2.2.1,y4.2.2.2.2.2.2.1,y4.2.2.2.2.2.2.2.1,y4.2.2.2.2.2.2.2.2.1,r22.1,y4.2.2.2.2.2.2.2.2.2.2.1,y4.2.2.2.2.2.2.2.2.2.2.2.1,y4.2.2.2.2.2.2.2.2.2.2.2.2.1,y4.2.2.2.2.2.2.2.2.2.2.2.2.2.1,y4.2.2.2.2.2.2.2.2.2.2.2.2.2.2.1,y4.2.2.2.2.2.2.2.2.2.2.2.2.2.2.2.1,r25.1,y4.2.2.2.2.2.2.2.2.2.2.2.2.2.2.2.2.2.1,(IntKind.wrap .i64 (y4.2.2.2.2.2.2.2.2.2.2.2.2.2.2.2.2.2.2.1+1)),r25.2))
      else
       some (.inl (y4.1,y4.2.1,y4.2.2.1,y4.2.2.2.1,y4.2.2.2.2.1,y4.2.2.2.2.2.1,y4.2.2.2.2.2.2.1,y4.2.2.2.2.2.2.2.1,y4.2.2.2.2.2.2.2.2.1,r22.1,y4.2.2.2.2.2.2.2.2.2.2.1,y4.2.2.2.2.2.2.2.2.2.2.2.1,y4.2.2.2.2.2.2.2.2.2.2.2.2.1,y4.2.2.2.2.2.2.2.2.2.2.2.2.2.1,y4.2.2.2.2.2.2.2.2.2.2.2.2.2.2.1,y4.2.2.2.2.2.2.2.2.2.2.2.2.2.2.2.1,false,y4.2.2.2.2.2.2.2.2.2.2.2.2.2.2.2.2.2.1,(IntKind.wrap .i64 (y4.2.2.2.2.2.2.2.2.2.2.2.2.2.2.2.2.2.2.1+1)),r23.2))
     else
      bp (λ(j26:(Option Nat)×Int×Int×Hp)=>
       bif ((j26.2.2.1==0)&&(j26.2.1==(-1)))then
        bif ((j26.2.2.1==0)&&(j26.2.1==(-1)))then
         j26.1.bind λi33=>
         (kS fuel i33 (⟨(⟨y4.2.2.2.2.2.2.2.2.2.2.1,y4.2.2.2.2.2.2.2.2.2.2.2.1,y4.2.2.2.2.2.2.2.2.2.2.2.2.1⟩:ay),y4.2.2.2.2.2.2.2.2.2.2.2.2.2.1,y4.2.2.2.2.2.2.2.2.2.2.2.2.2.2.1,y4.2.2.2.2.2.2.2.2.2.2.2.2.2.2.2.1⟩:Tree) j26.2.2.2).bind λr34=>
         some (.inl (y4.1,y4.2.1,y4.2.2.1,y4.2.2.2.1,y4.2.2.2.2.1,y4.2.2.2.2.2.1,y4.2.2.2.2.2.2.1,y4.2.2.2.2.2.2.2.1,y4.2.2.2.2.2.2.2.2.1,j26.1,y4.2.2.2.2.2.2.2.2.2.2.1,y4.2.2.2.2.2.2.2.2.2.2.2.1,y4.2.2.2.2.2.2.2.2.2.2.2.2.1,y4.2.2.2.2.2.2.2.2.2.2.2.2.2.1,y4.2.2.2.2.2.2.2.2.2.2.2.2.2.2.1,y4.2.2.2.2.2.2.2.2.2.2.2.2.2.2.2.1,r34.1,y4.2.2.2.2.2.2.2.2.2.2.2.2.2.2.2.2.2.1,(IntKind.wrap .i64 (y4.2.2.2.2.2.2.2.2.2.2.2.2.2.2.2.2.2.2.1+1)),r34.2))
        else
         some (.inl (y4.1,y4.2.1,y4.2.2.1,y4.2.2.2.1,y4.2.2.2.2.1,y4.2.2.2.2.2.1,y4.2.2.2.2.2.2.1,y4.2.2.2.2.2.2.2.1,y4.2.2.2.2.2.2.2.2.1,j26.1,y4.2.2.2.2.2.2.2.2.2.2.1,y4.2.2.2.2.2.2.2.2.2.2.2.1,y4.2.2.2.2.2.2.2.2.2.2.2.2.1,y4.2.2.2.2.2.2.2.2.2.2.2.2.2.1,y4.2.2.2.2.2.2.2.2.2.2.2.2.2.2.1,y4.2.2.2.2.2.2.2.2.2.2.2.2.2.2.2.1,false,y4.2.2.2.2.2.2.2.2.2.2.2.2.2.2.2.2.2.1,(IntKind.wrap .i64 (y4.2.2.2.2.2.2.2.2.2.2.2.2.2.2.2.2.2.2.1+1)),j26.2.2.2))
       else
        bif ((j26.2.2.1==0)&&(j26.2.1==(-1)))then
         y4.2.2.2.2.2.2.2.2.2.1.bind λi35=>
         (kS fuel i35 (⟨(⟨y4.2.2.2.2.2.2.2.2.2.2.1,y4.2.2.2.2.2.2.2.2.2.2.2.1,y4.2.2.2.2.2.2.2.2.2.2.2.2.1⟩:ay),y4.2.2.2.2.2.2.2.2.2.2.2.2.2.1,y4.2.2.2.2.2.2.2.2.2.2.2.2.2.2.1,y4.2.2.2.2.2.2.2.2.2.2.2.2.2.2.2.1⟩:Tree) j26.2.2.2).bind λr36=>
         some (.inl (y4.1,y4.2.1,y4.2.2.1,y4.2.2.2.1,y4.2.2.2.2.1,y4.2.2.2.2.2.1,y4.2.2.2.2.2.2.1,y4.2.2.2.2.2.2.2.1,y4.2.2.2.2.2.2.2.2.1,y4.2.2.2.2.2.2.2.2.2.1,y4.2.2.2.2.2.2.2.2.2.2.1,y4.2.2.2.2.2.2.2.2.2.2.2.1,y4.2.2.2.2.2.2.2.2.2.2.2.2.1,y4.2.2.2.2.2.2.2.2.2.2.2.2.2.1,y4.2.2.2.2.2.2.2.2.2.2.2.2.2.2.1,y4.2.2.2.2.2.2.2.2.2.2.2.2.2.2.2.1,r36.1,y4.2.2.2.2.2.2.2.2.2.2.2.2.2.2.2.2.2.1,(IntKind.wrap .i64 (y4.2.2.2.2.2.2.2.2.2.2.2.2.2.2.2.2.2.2.1+1)),r36.2))
        else
         some (.inl (y4.1,y4.2.1,y4.2.2.1,y4.2.2.2.1,y4.2.2.2.2.1,y4.2.2.2.2.2.1,y4.2.2.2.2.2.2.1,y4.2.2.2.2.2.2.2.1,y4.2.2.2.2.2.2.2.2.1,y4.2.2.2.2.2.2.2.2.2.1,y4.2.2.2.2.2.2.2.2.2.2.1,y4.2.2.2.2.2.2.2.2.2.2.2.1,y4.2.2.2.2.2.2.2.2.2.2.2.2.1,y4.2.2.2.2.2.2.2.2.2.2.2.2.2.1,y4.2.2.2.2.2.2.2.2.2.2.2.2.2.2.1,y4.2.2.2.2.2.2.2.2.2.2.2.2.2.2.2.1,false,y4.2.2.2.2.2.2.2.2.2.2.2.2.2.2.2.2.2.1,(IntKind.wrap .i64 (y4.2.2.2.2.2.2.2.2.2.2.2.2.2.2.2.2.2.2.1+1)),j26.2.2.2))) λjp27=>
      y4.2.2.2.2.2.2.2.2.2.1.bind λi28=>
      (ln fuel i28 y4.2.2.2.2.2.2.2.2.2.2.2.2.2.2.2.2.2.2.2).bind λr29=>
      y4.2.2.2.2.2.2.2.2.2.1.bind λi30=>
      (ir fuel i30 y4.2.2.2.2.2.2.2.2.2.2.2.2.2.2.2.2.2.2.2).bind λr31=>
      (oZ fuel (⟨y4.1,y4.2.1,y4.2.2.1⟩:ay) p1 r29 r31.1 r31.2).bind λr32=>
      jp27 (r32.1.1,r32.1.2.1,r32.1.2.2,r32.2)
 else
  some (.inr (y4.2.2.2.1,y4.2.2.2.2.1,y4.2.2.2.2.2.1,y4.2.2.2.2.2.2.1,y4.2.2.2.2.2.2.2.1,y4.2.2.2.2.2.2.2.2.1,y4.2.2.2.2.2.2.2.2.2.1,y4.2.2.2.2.2.2.2.2.2.2.1,y4.2.2.2.2.2.2.2.2.2.2.2.1,y4.2.2.2.2.2.2.2.2.2.2.2.2.1,y4.2.2.2.2.2.2.2.2.2.2.2.2.2.1,y4.2.2.2.2.2.2.2.2.2.2.2.2.2.2.1,y4.2.2.2.2.2.2.2.2.2.2.2.2.2.2.2.1,y4.2.2.2.2.2.2.2.2.2.2.2.2.2.2.2.2.1,y4.2.2.2.2.2.2.2.2.2.2.2.2.2.2.2.2.2.1,y4.2.2.2.2.2.2.2.2.2.2.2.2.2.2.2.2.2.2.2))
noncomputable def xS (fuel:Nat) (p0:ay) (p1:Int) (p2:(List Act)) (H:Hp):Option ((Tw)×Hp):=
 (yF fuel p0 p1 H).bind λr1=>
 (C1 fuel p0 p1).bind λr2=>
 (iter (nc fuel p1 p2) fuel (p0.aD,p0.Down,p0.ee,none,0,0,0,false,false,r1.1.1,r2.1.S.aD,r2.1.S.Down,r2.1.S.ee,r2.1.Order,r2.1.ea,r2.1.gJ,(r1.1.2==r2.2),(r2.2==0),0,r1.2)).bind λv38=>
 some ((⟨v38.2.2.2.2.2.2.1,(⟨(⟨v38.2.2.2.2.2.2.2.1,v38.2.2.2.2.2.2.2.2.1,v38.2.2.2.2.2.2.2.2.2.1⟩:ay),v38.2.2.2.2.2.2.2.2.2.2.1,v38.2.2.2.2.2.2.2.2.2.2.2.1,v38.2.2.2.2.2.2.2.2.2.2.2.2.1⟩:Tree),v38.2.2.2.2.2.2.2.2.2.2.2.2.2.1,v38.2.2.2.2.2.2.2.2.2.2.2.2.2.2.1⟩:Tw),v38.2.2.2.2.2.2.2.2.2.2.2.2.2.2.2)
def OM(x0:(List Int)×(List Bool)×Int×(Option Nat)×Int×Int×Int×Bool×Bool×(Option Nat)×(List Int)×(List Bool)×Int×Int×(List Entry)×Int×Bool×Bool×Int×Hp):SV:=.box [.d (.list 1 (List.map (D.int .i64) x0.1)),.d (.list 1 (List.map D.bool x0.2.1)),vI x0.2.2.1]
def LW(x0:(List Int)×(List Bool)×Int×(Option Nat)×Int×Int×Int×Bool×Bool×(Option Nat)×(List Int)×(List Bool)×Int×Int×(List Entry)×Int×Bool×Bool×Int×Hp):SV:=.box [.d (cP.enc x0.2.2.2.1),.d (.cm),.d (.cm),vI x0.2.2.2.2.1,vI x0.2.2.2.2.2.1,.d (.cm),vI x0.2.2.2.2.2.2.1,vB x0.2.2.2.2.2.2.2.1,vB x0.2.2.2.2.2.2.2.2.1]
def OK(x0:(List Int)×(List Bool)×Int×(Option Nat)×Int×Int×Int×Bool×Bool×(Option Nat)×(List Int)×(List Bool)×Int×Int×(List Entry)×Int×Bool×Bool×Int×Hp):SV:=.box [.d (cP.enc x0.2.2.2.2.2.2.2.2.2.1),.d (.list 1 (List.map (D.int .i64) x0.2.2.2.2.2.2.2.2.2.2.1)),.d (.list 1 (List.map D.bool x0.2.2.2.2.2.2.2.2.2.2.2.1)),vI x0.2.2.2.2.2.2.2.2.2.2.2.2.1,vI x0.2.2.2.2.2.2.2.2.2.2.2.2.2.1,.d (.list 3 (List.map ab x0.2.2.2.2.2.2.2.2.2.2.2.2.2.2.1)),vI x0.2.2.2.2.2.2.2.2.2.2.2.2.2.2.2.1,vB x0.2.2.2.2.2.2.2.2.2.2.2.2.2.2.2.2.1,vB x0.2.2.2.2.2.2.2.2.2.2.2.2.2.2.2.2.2.1]
end
end Go.Sh
