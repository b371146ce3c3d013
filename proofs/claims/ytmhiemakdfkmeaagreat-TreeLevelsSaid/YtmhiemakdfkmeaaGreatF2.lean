/- Printed by a program: functions of the program as plain functions, and that the code computes them. -/
import Derived.Test.YtmhiemakdfkmeaaGreatF1
set_option linter.all false
set_option autoImplicit true
set_option relaxedAutoImplicit true
open Go Go.Proofs
namespace Go.Sh
set_option maxRecDepth 100000
section
attribute [local irreducible] aa aA bb au SW uS
def fY(fuel:Nat)(y10:(Option Nat)×Hp):Option (((Option Nat)×Hp)⊕((Option Nat)×Hp)):=
 y10.1.bind λi11=>
 (bH fuel i11 y10.2).bind λr12=>
 bif (!r12)then
  (aW 1 cP y10.2 i11 1).bind λx13=>
  (aW 1 cP y10.2 i11 1).bind λx14=>
  (idx x13 (IntKind.wrap .i64 ((x14.length:Int) - 1))).bind λx15=>
  some (.inl (x15,y10.2))
 else
  some (.inr ((some i11),y10.2))
def dD(fuel:Nat)(rc:(Nat->Nat->Entry->Hp->Option ((Unit)×Hp)))(p0:Nat)(p1:Nat)(p2:Entry)(H:Hp):Option ((Unit)×Hp):=
 (lG fuel p0 p1 p2 H).bind λr1=>
 aP (λ(j2:Hp)=>
  (aW 1 cP j2 p1 1).bind λx37=>
  (idx x37 r1.1).bind λx38=>
  x38.bind λi39=>
  (aW 3 ay j2 i39 0).bind λx40=>
  (b9 fuel p0 j2).bind λr41=>
  bif (decide ((x40.length:Int)<r41))then
   (dr fuel p0 p1 r1.1 j2).bind λr42=>
   some ((),r42.2)
  else
   some ((),j2)) λjp3=>
 (bH fuel p1 H).bind λr4=>
 bif r4 then
  bif r1.2 then
   (cw 3 ay H p1 0).bind λq5=>
   (dG fuel q5.1 r1.1 (IntKind.wrap .i64 (r1.1+1))).bind λr6=>
   (bT 3 ay q5.2 p1 0 r6).bind λH7=>
   some ((),H7)
  else
   some ((),H)
 else
  bif r1.2 then
   (aW 1 cP H p1 1).bind λx8=>
   (idx x8 r1.1).bind λx9=>
   (iter (fY fuel) fuel (x9,H)).bind λv17=>
   v17.1.bind λi18=>
   v17.1.bind λi19=>
   (cw 3 ay v17.2 p1 0).bind λq20=>
   (aW 3 ay v17.2 i19 0).bind λx22=>
   (aW 3 ay v17.2 i18 0).bind λx23=>
   (idx x23 (IntKind.wrap .i64 ((x22.length:Int) - 1))).bind λx24=>
   (idx q20.1 r1.1).bind λx25=>
   dx (decide ((Int.toNat r1.1)<q20.1.length))<|
   (bT 3 ay q20.2 p1 0 (List.set q20.1 (Int.toNat r1.1) x24)).bind λH26=>
   (aW 1 cP H26 p1 1).bind λx27=>
   (idx x27 r1.1).bind λx28=>
   (aW 3 ay H26 p1 0).bind λx29=>
   (idx x29 r1.1).bind λx30=>
   x28.bind λi31=>
   (rc p0 i31 x30 H26).bind λr32=>
   jp3 r32.2
  else
   (aW 1 cP H p1 1).bind λx33=>
   (idx x33 r1.1).bind λx34=>
   x34.bind λi35=>
   (rc p0 i35 p2 H).bind λr36=>
   jp3 r36.2
def fk:Nat->(Nat->Nat->Entry->Hp->Option ((Unit)×Hp))
 |0=>λ_ _ _ _=>none
 |fuel+1=>dD fuel (fk fuel)
theorem tx{fuel:Nat}{rc:(Nat->Nat->Entry->Hp->Option ((Unit)×Hp))}(ih: ∀{p0:Nat} {p1:Nat} {p2:Entry} {H:Hp} {r:(Unit)×Hp},rc p0 p1 p2 H=some r->SC Tryz.prog false 90 [.d (.ptr p0 0),.d (.ptr p1 0),.d (ab p2)] H (.gC []) r.2){p0:Nat}{p1:Nat}{p2:Entry}{H:Hp}{r:(Unit)×Hp}(h:dD fuel rc p0 p1 p2 H=some r):SC Tryz.prog false 90 [.d (.ptr p0 0),.d (.ptr p1 0),.d (ab p2)] H (.gC []) r.2:=by
 refine SC.fc Tryz.func90 rfl ?_
 unfold dD at h
 exact SW.kk 124 H (K17 p0 p1 [(2,kY p2)])<|SW.t 1<|SW.S<|aa.t 3<|bI h λr1 hr h=>aa.g (ls:=[]) (rS hr)<|aa.t 5<|aa.E<|SW.JH 124 [0,1,6] (λ(j2:Hp)=>(K17 p0 p1 [(6,vI r1.1)])) (λ(j2:Hp)=>j2) h (λj2 h=>SW.seq<|SW.qq<|aA.t 3<|bI h λx37 hx h=>aA.p (ax.gK hx)<|aA.t 1<|bI h λx38 hx h=>aA.p (s:=aI (some (.an p1 1)) [cP.enc x38]) (ax.ff (n:=1) hx)<|aA.t 1<|bI h λi39 hp_i39 h=>aA.p (s:=.d (.ptr i39 0)) (ax.dS hp_i39)<|aA.t 2<|bI h λx40 hx h=>aA.p (ax.gK hx)<|aA.p (ax.len (enc:=ab) (xs:=x40))<|aA.t 1<|bI h λr41 hr h=>aA.g (ls:=[]) (iw hr)<|aA.t 1<|aA.D<|af<|SW.b h (λh=>SW.al<|aa.t 3<|bI h λr42 hr h=>aa.f (vY hr)<|aa.D<|iI h▸EN) (λh=>SW.skip<|iI h▸EN)) λjp3 h=>SW.block<|SW.S<|aa.t 1<|bI h λr4 hr h=>aa.g (ls:=[]) (da hr)<|aa.t 1<|aa.E<|SW.b h (λh=>SW.seq<|SW.t 1<|SW.b h (λh=>SW.al<|aa.ts [35] 5<|bI h λq5 hq h=>aa.tk hq<|aa.ts [35] 3<|bI h λr6 hr h=>aa.cl 124 q5.2 (d:=some 39) (ls:=[]) (gs:=[(35,0)]) [0] [30,39] [(30,.d (.ptr p1 0)),(39,.own 3 (List.map ab r6))] (kj hr) κ κ κ<|aa.ts [35] 3<|bI h λH7 hx h=>aa.gv 39 hx<|aa.E<|SW.ret<|az<|ag<|iI h▸E0) (λh=>SW.skip<|af<|SW.ret<|az<|ag<|iI h▸E0)) (λh=>SW.t 1<|SW.b h (λh=>SW.S<|aa.t 3<|bI h λx8 hx h=>aa.p (ax.gK hx)<|aa.t 1<|bI h λx9 hx h=>aa.p (s:=aI (some (.an p1 1)) [cP.enc x9]) (ax.ff (n:=1) hx)<|aa.t 2<|aa.E<|SW.seq<|SW.block<|bI h λv17 hit h=>SW.Fq 124 [0,1,6,8] (λy10=>(K17 p0 p1 [(6,vI r1.1),(8,.d (cP.enc y10.1))])) (λy10=>y10.2) (λv17 e s=>(e=.exit 1/\s=(sp 124 (K17 p0 p1 [(6,vI r1.1),(8,.d (cP.enc v17.1))]) v17.2))) hit κ (λy10 o h=>by unfold fY at h;exact SW.seq<|SW.S<|aa.s [] [0,1,6,8,52] 1<|bI h λi11 hp_i11 h=>aa.nG y10.1 (λp=>(sp 124 (K17 p0 p1 [(6,vI r1.1),(8,.d (cP.enc p)),(52,.d (cP.enc p))]) y10.2)) κ hp_i11<|bI h λr12 hr h=>aa.g (ls:=[]) (da hr)<|aa.t 1<|aa.E<|SW.b h (λh=>SW.skip<|af<|SW.block<|SW.fS 12 κ κ<|bb.t 3<|bI h λx13 hx h=>bb.p (ax.gK hx)<|bb.t 3<|bI h λx14 hx h=>bb.p (ax.gK hx)<|bb.p (ax.len (enc:=cP.enc) (xs:=x14))<|bb.t 1<|bI h λx15 hx h=>bb.p (s:=aI (some (.an i11 1)) [cP.enc x15]) (ax.ff (n:=1) hx)<|bb.t 1<|bb.D<|aa.t 1<|aa.D<|aB<|LQ h) (λh=>SW.kk 124 y10.2 (K17 p0 p1 [(6,vI r1.1),(8,.d (.ptr i11 0))])<|SW.exit<|aG<|aG<|LR h ⟨rfl,rfl⟩)) (by rintro _ _ ⟨rfl,rfl⟩;exact aM<|af<|SW.seq<|bI h λi18 hp_i18 h=>bI h λi19 hp_i19 h=>bI h λq20 hq20 h=>bI h λx22 hx_15 h=>bI h λx23 hx_10 h=>bI h λx24 hx24 h=>bI h λx25 hx25 h=>lj h λhk_21 h=>bI h λH26 hH26 h=>SW.kk 124 v17.2 (K17 p0 p1 [(6,vI r1.1),(8,.d (cP.enc v17.1))])<|SW.gI p1 0 λv21=>SW.lX [0,1,2,3,5,6,7,8,9,11,12,13,14,15,16,17,4,10,18,19] [20,21] κ κ<|au.t<|au.t<|au.t<|au.t<|au.t<|au.t<|au.p (s:=.d (.ptr i18 0)) (ax.dS hp_i18)<|au.t<|au.t<|au.t<|au.p (s:=.d (.ptr i19 0)) (ax.dS hp_i19)<|au.t<|au.sg 124 (cK v17.2 p1 0 v21) [0,1,6,70,72,76,81] (K17 p0 p1 [(6,vI r1.1),(70,.d (.ptr p1 0)),(72,vI r1.1),(76,.d (.ptr i18 0)),(81,.d (.ptr i19 0))]) κ<|au.p (s:=.bp (.an i19 0) 3 (List.map ab x22)) (ax.pn (ax.gK (c:=ay) hx_15 κ))<|au.p (ax.len (enc:=ab) (xs:=x22))<|au.sg 124 (cK v17.2 p1 0 v21) [0,1,6,70,72,76,84] (K17 p0 p1 [(6,vI r1.1),(70,.d (.ptr p1 0)),(72,vI r1.1),(76,.d (.ptr i18 0)),(84,xX x22)]) κ<|au.on 124 (cK v17.2 p1 0 v21) (d:=some 71) (s:=.d (.raw v21)) [0,1,6,71,72,76,84] (K17 p0 p1 [(6,vI r1.1),(71,.d (.raw v21)),(72,vI r1.1),(76,.d (.ptr i18 0)),(84,xX x22)]) (ax.Fl (c:=ay) (n':=3) hq20 κ) κ<|au.p (s:=.bp (.an i18 0) 3 (List.map ab x23)) (ax.pn (ax.gK (c:=ay) hx_10 κ))<|au.p (s:=aI (some (.an i18 0)) (Go.Sh.D.cells (ab x24))) (ax.index (n:=3) hx24)<|au.sg 124 (cK v17.2 p1 0 v21) [0,1,6,71,72,86] (K17 p0 p1 [(6,vI r1.1),(71,.d (.raw v21)),(72,vI r1.1),(86,kY x24)]) κ<|au.D<|aa.Lm (c:=ay) (n':=3) (t:=71) [0,1,6,71,72,86] (K17 p0 p1 [(6,vI r1.1),(71,.gI v21 3 (List.map ab q20.1)),(72,vI r1.1),(86,kY x24)]) hq20 κ κ κ<|aa.o (s:=.ep 71 3 (Int.toNat r1.1)) [0,1,6,71,86,87] (ax.NW (enc:=ab) (xs:=q20.1) hx25)<|aa.sep (s:=71) (n:=3) (j:=(Int.toNat r1.1)) (enc:=ab) (xs:=q20.1) (x:=x24) (p:=(some v21)) 124 (sL q20.2 p1 0 v21) [0,1,6,71] (K17 p0 p1 [(6,vI r1.1),(71,.gI v21 3 (List.map ab (List.set q20.1 (Int.toNat r1.1) x24)))]) hk_21 κ κ<|aa.Kx (c:=ay) (n':=3) (s:=71) [0,1,6] (K17 p0 p1 [(6,vI r1.1)]) hH26 κ κ κ<|aa.E<|SW.fS 16 κ κ<|bb.t 4<|bI h λx27 hx h=>bb.p (ax.gK hx)<|bb.t 1<|bI h λx28 hx h=>bb.p (s:=aI (some (.an p1 1)) [cP.enc x28]) (ax.ff (n:=1) hx)<|bb.t 5<|bI h λx29 hx h=>bb.p (ax.gK hx)<|bb.t 1<|bI h λx30 hx h=>bb.p (s:=aI (some (.an p1 0)) (Go.Sh.D.cells (ab x30))) (ax.index (n:=3) hx)<|bb.s [] [0,1,6,88,95,103] 1<|bb.D<|bI h λi31 hp_i31 h=>aa.nG x28 (λp=>(sp 124 (K17 p0 p1 [(6,vI r1.1),(88,.d (.ptr p0 0)),(95,.d (cP.enc p)),(103,kY x30)]) H26)) κ hp_i31<|bI h λr32 hr h=>aa.f (ih hr)<|aa.D<|aB<|JQ [] h)) (λh=>SW.fS 9 κ κ<|bb.t 4<|bI h λx33 hx h=>bb.p (ax.gK hx)<|bb.t 1<|bI h λx34 hx h=>bb.p (s:=aI (some (.an p1 1)) [cP.enc x34]) (ax.ff (n:=1) hx)<|bb.s [] [0,1,6,16,23,24] 2<|bb.D<|bI h λi35 hp_i35 h=>aa.nG x34 (λp=>(sp 124 (K17 p0 p1 [(6,vI r1.1),(16,.d (.ptr p0 0)),(23,.d (cP.enc p)),(24,kY p2)]) H)) κ hp_i35<|bI h λr36 hr h=>aa.f (ih hr)<|aa.D<|aB<|JQ [] h))
end
theorem vX{fuel:Nat}: ∀{p0:Nat} {p1:Nat} {p2:Entry} {H:Hp} {r:(Unit)×Hp},fk fuel p0 p1 p2 H=some r->SC Tryz.prog false 90 [.d (.ptr p0 0),.d (.ptr p1 0),.d (ab p2)] H (.gC []) r.2:=by
 induction fuel with
 |zero=>intros;rename_i h;exact nomatch (show(none:Option ((Unit)×Hp))=some _ from h)
 |succ fuel ih=>exactλh=>tx ih h
def dE(fuel:Nat)(p0:Nat)(p1:Entry)(H:Hp):Option ((Unit)×Hp):=
 (aR cP.cell H p0 4).bind λx1=>
 x1.bind λi2=>
 (fk fuel p0 i2 p1 H).bind λr3=>
 aP (λ(j4:Bool)=>
  bif j4 then
   (aR cP.cell r3.2 p0 4).bind λx12=>
   x12.bind λi13=>
   (aW 1 cP r3.2 i13 1).bind λx14=>
   (idx x14 0).bind λx15=>
   (cH cP r3.2 p0 4 x15).bind λH16=>
   (aR (cI .i64).cell H16 p0 6).bind λx17=>
   (cH (cI .i64) H16 p0 6 (IntKind.wrap .i64 (x17 - 1))).bind λH18=>
   some ((),H18)
  else
   (aR (cI .i64).cell r3.2 p0 6).bind λx19=>
   (cH (cI .i64) r3.2 p0 6 (IntKind.wrap .i64 (x19 - 1))).bind λH20=>
   some ((),H20)) λjp5=>
 (aR cP.cell r3.2 p0 4).bind λx6=>
 x6.bind λi7=>
 (aW 3 ay r3.2 i7 0).bind λx8=>
 bif ((x8.length:Int)==0)then
  (aR cP.cell r3.2 p0 4).bind λx9=>
  x9.bind λi10=>
  (bH fuel i10 r3.2).bind λr11=>
  jp5 (!r11)
 else
  jp5 false
section
attribute [local irreducible] aa aA bb au SW uS
theorem m6(h:dE fuel p0 p1 H=some r):SC Tryz.prog false 66 [.d (.ptr p0 0),.d (ab p1)] H (.gC []) r.2:=by
 refine SC.fc Tryz.func66 rfl ?_
 unfold dE at h
 exact SW.kk 48 H [(0,.d (.ptr p0 0)),(1,kY p1)]<|SW.t 1<|SW.seq<|SW.fS 6 κ κ<|bb.t 4<|bI h λx1 hx h=>bb.p (s:=.d (cP.enc x1)) (ax.cN hx)<|bb.s [] [0,4,8,9] 1<|bb.D<|bI h λi2 hp_i2 h=>aa.nG x1 (λp=>(sp 48 [(0,.d (.ptr p0 0)),(4,.d (.ptr p0 0)),(8,.d (cP.enc p)),(9,kY p1)] H)) κ hp_i2<|bI h λr3 hr h=>aa.f (vX hr)<|aa.E<|SW.seq<|SW.J 48 r3.2 [0,28] (λ(j4:Bool)=>[(0,.d (.ptr p0 0)),(28,vB j4)]) h (λj4 h=>SW.b h (λh=>SW.al<|aa.t 4<|bI h λx12 hx h=>aa.p (s:=.d (cP.enc x12)) (ax.cN hx)<|bI h λi13 hp_i13 h=>aa.p (s:=.d (.ptr i13 0)) (ax.dS hp_i13)<|aa.t 1<|bI h λx14 hx h=>aa.p (ax.gK hx)<|bI h λx15 hx h=>aa.p (s:=aI (some (.an i13 1)) [cP.enc x15]) (ax.ff (n:=1) hx)<|aa.s [] [0,38,40] 3<|bI h λH16 hx h=>aa.MI 48 H16 [0] [(0,.d (.ptr p0 0))] hx κ κ<|aa.E<|SW.al<|aa.t 3<|bI h λx17 hx h=>aa.p (s:=vI x17) (ax.cN hx)<|aa.t 3<|bI h λH18 hx h=>aa.hs hx<|aa.D<|iI h▸EN) (λh=>SW.skip<|af<|SW.al<|aa.t 3<|bI h λx19 hx h=>aa.p (s:=vI x19) (ax.cN hx)<|aa.t 3<|bI h λH20 hx h=>aa.hs hx<|aa.D<|iI h▸EN)) λjp5 h=>SW.al<|aa.t 3<|bI h λx6 hx h=>aa.p (s:=.d (cP.enc x6)) (ax.cN hx)<|bI h λi7 hp_i7 h=>aa.p (s:=.d (.ptr i7 0)) (ax.dS hp_i7)<|aa.t 2<|bI h λx8 hx h=>aa.p (ax.gK hx)<|aa.p (ax.len (enc:=ab) (xs:=x8))<|aa.s [] [0,21] 2<|aa.b2 (λb=>(sp 48 [(0,.d (.ptr p0 0)),(21,vB b)] r3.2)) h (λh=>aa.t 3<|bI h λx9 hx h=>aa.o (s:=.d (cP.enc x9)) [0,21,25] (ax.cN hx)<|bI h λi10 hp_i10 h=>aa.nG x9 (λp=>(sp 48 [(0,.d (.ptr p0 0)),(21,vB true),(25,.d (cP.enc p))] r3.2)) κ hp_i10<|bI h λr11 hr h=>aa.g (ls:=[]) (da hr)<|aa.t 2<|aa.D<|JQ [] h) λh=>aa.t 7<|aa.D<|JQ [] h
noncomputable def eJ (fuel:Nat) (p0:Nat) (p1:(List Value)) (p2:Int) (H:Hp):Option ((Int)×Hp):=
 (fw fuel p0 p1 p2 H).bind λr1=>
 bif (r1 !=0)then
  some (r1,H)
 else
  (fZ fuel p0 p1 p2 H).bind λr2=>
  bif (!r2.1.2.2)then
   some (8,r2.2)
  else
   (dE fuel p0 r2.1.1 r2.2).bind λr3=>
   some (0,r3.2)
theorem tz(h:eJ fuel p0 p1 p2 H=some r):SC Tryz.prog false 36 [.d (.ptr p0 0),.d (.list 3 (List.map ah p1)),vI p2] H (vI r.1) r.2:=by
 refine SC.fc Tryz.func36 rfl ?_
 unfold eJ at h
 exact SW.kk 31 H (K37 p0 p1 p2 [])<|SW.t 1<|SW.seq<|SW.S<|aa.t 3<|bI h λr1 hr h=>aa.g (ls:=[]) (k8 hr)<|aa.t 1<|aa.E<|SW.t 1<|SW.b h (λh=>SW.t 1<|SW.ret<|ag<|iI h▸E0) (λh=>SW.skip<|af<|SW.S<|aa.t 3<|bI h λr2 hr h=>aa.f (o0 hr)<|aa.t 8<|aa.E<|SW.seq<|SW.t 1<|SW.b h (λh=>SW.t 1<|SW.ret<|ag<|iI h▸E0) (λh=>SW.skip<|af<|SW.S<|aa.t 2<|bI h λr3 hr h=>aa.f (m6 hr)<|aa.E<|SW.t 1<|SW.ret<|iI h▸E0))
def fA(fuel:Nat)(p0:Tree)(p1:(List Value))(p2:Int)(y1:Int):Option ((Int)⊕((Unit)⊕((Int)))):=
 bif (decide (y1<(p0.du.length:Int)))then
  (idx p0.du y1).bind λx2=>
  bif (x2.Key==p2)then
   (idx p0.du y1).bind λx3=>
   (hZ fuel x3.Row p1).bind λr4=>
   bif r4 then
    some (.inr (.inr y1))
   else
    some (.inl (IntKind.wrap .i64 (y1+1)))
  else
   some (.inl (IntKind.wrap .i64 (y1+1)))
 else
  some (.inr (.inl ()))
def lJ(fuel:Nat)(p0:Tree)(p1:(List Value))(p2:Int):Option (Int):=
 (iter (fA fuel p0 p1 p2) fuel 0).bind (Sum.elim (λv6=>
  some (-1)) (λr7=>
  some r7))
theorem sm(h:lJ fuel p0 p1 p2=some r):PC Tryz.prog 57 [.d (lC p0),.d (.list 3 (List.map ah p1)),vI p2] (vI r):=by
 refine PC.bo Tryz.func57 rfl λH=>?_
 unfold lJ at h
 exact SW.kk 34 H [(0,s8 p0),(1,Z9 p1),(2,vI p2)]<|SW.t 1<|SW.seq<|SW.t 1<|SW.block<|bI h λz5 hit h=>SW.it 34 H [1,2,3,7] (λy1=>[(1,Z9 p1),(2,vI p2),(3,pV p0),(7,vI y1)]) (λb e s=>((∃v6,b=(.inl v6)/\(e=.exit 0/\s=(sp 34 [] H)))\/(∃r7,b=(.inr r7)/\(e=.ret/\bW Tryz.prog Tryz.f57.results.toList H (vI r7) .ret s)))) hit κ (λy1 o h=>by unfold fA at h;exact SW.seq<|SW.S<|aa.t 3<|aa.p (ax.len (enc:=ab) (xs:=p0.du))<|aa.t 1<|aa.E<|SW.b h (λh=>SW.skip<|af<|SW.seq<|SW.block<|SW.S<|aa.t 3<|bI h λx2 hx h=>aa.p (s:=aI none (Go.Sh.D.cells (ab x2))) (ax.index (n:=3) hx)<|aa.s [] [1,2,3,7,23] 5<|aa.b2 (λb=>(sp 34 [(1,Z9 p1),(2,vI p2),(3,pV p0),(7,vI y1),(23,vB b)] H)) h (λh=>aa.t 3<|bI h λx3 hx h=>aa.p (s:=aI none (Go.Sh.D.cells (ab x3))) (ax.index (n:=3) hx)<|aa.t 3<|bI h λr4 hr h=>aa.d (mC hr)<|aa.t 1<|aa.E<|SW.b h (λh=>SW.t 1<|SW.ret<|az<|ag<|ag<|LR h (.inr (⟨y1,rfl,rfl,bW.ret [] κ κ⟩))) (λh=>SW.skip<|aB<|af<|SW.al<|aa.t 3<|aa.D<|LQ h)) λh=>aa.t 9<|aa.E<|SW.N<|SW.skip<|aB<|af<|SW.al<|aa.t 3<|aa.D<|LQ h) (λh=>SW.kk 34 H []<|SW.exit<|aG<|aG<|LR h (.inl ⟨(),rfl,rfl,rfl⟩))) (by rintro _ _ (⟨v6,rfl,rfl,rfl⟩|⟨r7,rfl,rfl,hE⟩);exact have h:=gd h;aM<|af<|SW.t 1<|SW.ret<|iI h▸E0;exact have h:=gb h;az<|ag<|(by cases h;exact hE))
def ei(fuel:Nat)(p0:Tree)(p1:Int):Option (Tree):=
 dx (kn p0.du 0 p1)<|
 dx (decide ((([]:List Entry)++(sl p0.du 0 p1)).length<=room))<|
 dx (kn p0.du (IntKind.wrap .i64 (p1+1)) (p0.du.length:Int))<|
 dx (decide (((([]:List Entry)++(sl p0.du 0 p1))++(sl p0.du (IntKind.wrap .i64 (p1+1)) (p0.du.length:Int))).length<=room))<|
 some (⟨p0.S,p0.Order,((([]:List Entry)++(sl p0.du 0 p1))++(sl p0.du (IntKind.wrap .i64 (p1+1)) (p0.du.length:Int))),p0.eP⟩:Tree)
def Od(x0:Tree)(x1:Int):SV:=.box [.d (.list 1 (List.map (D.int .i64) x0.S.aq)),.d (.list 1 (List.map D.bool x0.S.Down)),vI x0.S.cW,vI x0.Order,.d (.list 3 (List.map ab ((([]:List Entry)++(sl x0.du 0 x1))++(sl x0.du (IntKind.wrap .i64 (x1+1)) (x0.du.length:Int))))),vI x0.eP]
theorem mB(h:ei fuel p0 p1=some r):PC Tryz.prog 67 [.d (lC p0),vI p1] (.d (.agg [.list 1 (List.map (D.int .i64) r.S.aq),.list 1 (List.map D.bool r.S.Down),.int .i64 r.S.cW,.int .i64 r.Order,.list 3 (List.map ab r.du),.int .i64 r.eP])):=by
 refine PC.bo Tryz.func67 rfl λH=>?_
 unfold ei at h
 exact SW.kk 19 H [(0,s8 p0),(1,vI p1)]<|SW.t 1<|SW.seq<|lj h λhk1 h=>lj h λhk2 h=>lj h λhk3 h=>lj h λhk4 h=>SW.kk 19 H [(1,vI p1),(2,pV p0),(4,qB)]<|SW.qG 19 H [(2,Od p0 p1),(4,qB)] [3,8] 12 264 κ κ κ (λX hX=>by subst hX;exact au.t<|au.sg 19 H [2,4,8,13] [(2,pV p0),(4,qB),(8,vI p1),(13,vI p1)] κ<|au.D<|OX.auto [5,10] [(4,eV (kT none 3 (List.map ab (sl p0.du 0 p1)))),(5,eA 5 3 (List.map ab (([]:List Entry)++(sl p0.du 0 p1)))),(10,eV (kT none 3 (List.map ab (sl p0.du (IntKind.wrap .i64 (p1+1)) (p0.du.length:Int))))),(11,eA 10 3 (List.map ab ((([]:List Entry)++(sl p0.du 0 p1))++(sl p0.du (IntKind.wrap .i64 (p1+1)) (p0.du.length:Int))))),(13,eF 16)] ⟨EV.slice hk1,EV.a (aS) (bx hk2),EV.slice hk3,EV.a (aS) (bx hk4),EV.z,trivial⟩) (af<|SW.t 1<|SW.ret<|iI h▸E0)
def hU(fuel:Nat)(p0:Tree)(p1:(List Value))(p2:Int):Option (Tree×Int):=
 aP (λ(j1:Bool)=>
  bif j1 then
   some (p0,1)
  else
   (lJ fuel p0 p1 p2).bind λr5=>
   bif (decide (r5<0))then
    some (p0,8)
   else
    (ei fuel p0 r5).bind λr6=>
    some (r6,0)) λjp2=>
 (oH fuel p0.S p1).bind λr3=>
 bif (!r3)then
  jp2 true
 else
  (sh fuel p2).bind λr4=>
  jp2 (!r4)
theorem tH(h:hU fuel p0 p1 p2=some r):PC Tryz.prog 37 [.d (lC p0),.d (.list 3 (List.map ah p1)),vI p2] (.gC [.d (.agg [.list 1 (List.map (D.int .i64) r.1.S.aq),.list 1 (List.map D.bool r.1.S.Down),.int .i64 r.1.S.cW,.int .i64 r.1.Order,.list 3 (List.map ab r.1.du),.int .i64 r.1.eP]),vI r.2]):=by
 refine PC.bo Tryz.func37 rfl λH=>?_
 unfold hU at h
 exact SW.kk 30 H [(0,s8 p0),(1,Z9 p1),(2,vI p2)]<|SW.t 1<|SW.seq<|SW.J 30 H [1,2,3,6,18] (λ(j1:Bool)=>(K52 p1 p2 p0 [(18,vB j1)])) h (λj1 h=>SW.b h (λh=>SW.t 1<|SW.ret<|ag<|iI h▸E0) (λh=>SW.skip<|af<|SW.S<|aa.t 3<|bI h λr5 hr h=>aa.d (sm hr)<|aa.t 1<|aa.E<|SW.seq<|SW.t 1<|SW.b h (λh=>SW.t 1<|SW.ret<|ag<|iI h▸E0) (λh=>SW.skip<|af<|SW.S<|aa.t 2<|bI h λr6 hr h=>aa.d (mB hr)<|aa.t 2<|aa.E<|SW.ret<|iI h▸E0))) λjp2 h=>SW.al<|aa.t 3<|bI h λr3 hr h=>aa.d (pe hr)<|aa.s [] [1,2,3,6,14] 2<|aa.b2 (λb=>(sp 30 (K52 p1 p2 p0 [(14,vB b)]) H)) h (λh=>aa.t 4<|aa.D<|JQ [] h) λh=>aa.t 1<|bI h λr4 hr h=>aa.d (sf hr)<|aa.t 2<|aa.D<|JQ [] h
noncomputable def db (fuel:Nat) (p0:Nat) (p1:(List Value)) (p2:Int) (p3:(List Value)) (H:Hp):Option ((Int)×Hp):=
 (fw fuel p0 p1 p2 H).bind λr1=>
 aP (λ(j2:Bool)=>
  bif j2 then
   some (1,H)
  else
   (fZ fuel p0 p1 p2 H).bind λr6=>
   aP (λ(j7:Hp)=>
    (dE fuel p0 r6.1.1 j7).bind λr13=>
    (aR (cI .i64).cell r13.2 p0 5).bind λx14=>
    (cH (cI .i64) r13.2 p0 5 (IntKind.wrap .i64 (x14+1))).bind λH15=>
    (bY fuel p3).bind λr16=>
    (aR (cI .i64).cell H15 p0 5).bind λx17=>
    (cX fuel p0 (⟨r16,p2,x17⟩:Entry) H15).bind λr18=>
    some (0,r18.2)) λjp8=>
   bif (!r6.1.2.2)then
    some (8,r6.2)
   else
    (aR cj.cells r6.2 p0 0).bind λx9=>
    (mL fuel x9 p1 p3).bind λr10=>
    bif (r10==0)then
     some (0,r6.2)
    else
     (aR (cI .i64).cell r6.2 p0 2).bind λx11=>
     bif (x11==1)then
      (iJ fuel p0 p3 r6.2).bind λr12=>
      bif r12.1 then
       some (6,r12.2)
      else
       jp8 r12.2
     else
      jp8 r6.2) λjp3=>
 bif (r1 !=0)then
  jp3 true
 else
  (aR cj.cells H p0 0).bind λx4=>
  (qZ fuel x4 p3).bind λr5=>
  jp3 (!r5)
theorem vb(h:db fuel p0 p1 p2 p3 H=some r):SC Tryz.prog false 38 [.d (.ptr p0 0),.d (.list 3 (List.map ah p1)),vI p2,.d (.list 3 (List.map ah p3))] H (vI r.1) r.2:=by
 refine SC.fc Tryz.func38 rfl ?_
 unfold db at h
 exact SW.kk 80 H (K37 p0 p1 p2 [(3,Z9 p3)])<|SW.t 1<|SW.seq<|SW.S<|aa.t 3<|bI h λr1 hr h=>aa.g (ls:=[]) (k8 hr)<|aa.t 1<|aa.E<|SW.J 80 H [0,1,2,3,27] (λ(j2:Bool)=>(K37 p0 p1 p2 [(3,Z9 p3),(27,vB j2)])) h (λj2 h=>SW.b h (λh=>SW.t 1<|SW.ret<|ag<|iI h▸E0) (λh=>SW.skip<|af<|SW.S<|aa.t 3<|bI h λr6 hr h=>aa.f (o0 hr)<|aa.t 8<|aa.E<|SW.JH 80 [0,2,3,10] (λ(j7:Hp)=>[(0,.d (.ptr p0 0)),(2,vI p2),(3,Z9 p3),(10,Nh r6)]) (λ(j7:Hp)=>j7) h (λj7 h=>SW.S<|aa.t 2<|bI h λr13 hr h=>aa.f (m6 hr)<|aa.E<|SW.S<|aa.t 3<|bI h λx14 hx h=>aa.p (s:=vI x14) (ax.cN hx)<|aa.t 3<|bI h λH15 hx h=>aa.hs hx<|aa.E<|SW.seq<|bI h λr16 hr_2 h=>bI h λx17 hx17 h=>bI h λr18 hr_9 h=>SW.kk 80 H15 [(0,.d (.ptr p0 0)),(2,vI p2),(3,Z9 p3)]<|SW.qG 80 r18.2 [] [0,1,3,4,5,6] 4 123 κ κ κ (λX hX=>by subst hX;exact au.t<|au.t<|au.t<|au.t<|au.t<|au.sg 80 H15 [70,71,73,76] [(70,.d (.ptr p0 0)),(71,Z9 p3),(73,vI p2),(76,.d (.ptr p0 5))] κ<|au.D<|OX.auto [] [(2,eV _),(7,eV (vI x17)),(8,eF 72),(9,eH _ _)] ⟨EV.c (gV hr_2),EV.cN (c:=(cI .i64).cell) hx17,EV.z,EV.h (m7 hr_9),trivial⟩) (af<|SW.t 1<|SW.ret<|iI h▸E0)) λjp8 h=>SW.block<|SW.t 1<|SW.b h (λh=>SW.t 1<|SW.ret<|az<|ag<|iI h▸E0) (λh=>SW.S<|aa.t 3<|bI h λx9 hx h=>aa.p (s:=.d (.agg [.list 1 (List.map (D.int .i64) x9.aq),.list 1 (List.map D.bool x9.Down),.int .i64 x9.cW])) (ax.cN hx)<|aa.t 2<|bI h λr10 hr h=>aa.d (lF hr)<|aa.t 2<|aa.E<|SW.b h (λh=>SW.t 1<|SW.ret<|az<|ag<|iI h▸E0) (λh=>SW.S<|aa.t 4<|bI h λx11 hx h=>aa.p (s:=vI x11) (ax.cN hx)<|aa.s [] [0,2,3,10,55] 2<|aa.b2 (λb=>(sp 80 [(0,.d (.ptr p0 0)),(2,vI p2),(3,Z9 p3),(10,Nh r6),(55,vB b)] r6.2)) h (λh=>aa.t 2<|bI h λr12 hr h=>aa.f (qD hr)<|aa.t 2<|aa.E<|SW.b h (λh=>SW.t 1<|SW.ret<|az<|ag<|iI h▸E0) (λh=>SW.skip<|aB<|JQ [] h)) λh=>aa.t 5<|aa.E<|SW.N<|SW.skip<|aB<|JQ [] h)))) λjp3 h=>SW.al<|aa.s [] [0,1,2,3,19] 3<|aa.b2 (λb=>(sp 80 (K37 p0 p1 p2 [(3,Z9 p3),(19,vB b)]) H)) h (λh=>aa.t 8<|aa.D<|JQ [] h) λh=>aa.t 3<|bI h λx4 hx h=>aa.p (s:=.d (.agg [.list 1 (List.map (D.int .i64) x4.aq),.list 1 (List.map D.bool x4.Down),.int .i64 x4.cW])) (ax.cN hx)<|aa.t 1<|bI h λr5 hr h=>aa.d (tu hr)<|aa.t 2<|aa.D<|JQ [] h
def jy(fuel:Nat)(p0:Tree)(p1:(List Value))(p2:Int)(p3:(List Value)):Option (Tree×Int):=
 aP (λ(j1:Bool)=>
  bif j1 then
   some (p0,1)
  else
   (lJ fuel p0 p1 p2).bind λr6=>
   bif (decide (r6<0))then
    some (p0,8)
   else
    (hZ fuel p1 p3).bind λr7=>
    bif r7 then
     some (p0,0)
    else
     (ei fuel p0 r6).bind λr8=>
     (fO fuel r8 p3 p2).bind λr9=>
     bif (r9.2.2 !=0)then
      some (p0,r9.2.2)
     else
      some (r9.1,0)) λjp2=>
 (oH fuel p0.S p1).bind λr3=>
 bif (!r3)then
  jp2 true
 else
  (sh fuel p2).bind λr4=>
  bif (!r4)then
   jp2 true
  else
   (oH fuel p0.S p3).bind λr5=>
   jp2 (!r5)
theorem vh(h:jy fuel p0 p1 p2 p3=some r):PC Tryz.prog 39 [.d (lC p0),.d (.list 3 (List.map ah p1)),vI p2,.d (.list 3 (List.map ah p3))] (.gC [.d (.agg [.list 1 (List.map (D.int .i64) r.1.S.aq),.list 1 (List.map D.bool r.1.S.Down),.int .i64 r.1.S.cW,.int .i64 r.1.Order,.list 3 (List.map ab r.1.du),.int .i64 r.1.eP]),vI r.2]):=by
 refine PC.bo Tryz.func39 rfl λH=>?_
 unfold jy at h
 exact SW.kk 60 H [(0,s8 p0),(1,Z9 p1),(2,vI p2),(3,Z9 p3)]<|SW.t 1<|SW.seq<|SW.J 60 H [1,2,3,4,8,30] (λ(j1:Bool)=>[(1,Z9 p1),(2,vI p2),(3,Z9 p3),(4,pV p0),(8,qB),(30,vB j1)]) h (λj1 h=>SW.b h (λh=>SW.t 1<|SW.ret<|ag<|iI h▸E0) (λh=>SW.skip<|af<|SW.S<|aa.t 3<|bI h λr6 hr h=>aa.d (sm hr)<|aa.t 1<|aa.E<|SW.seq<|SW.block<|SW.t 1<|SW.b h (λh=>SW.t 1<|SW.ret<|az<|ag<|iI h▸E0) (λh=>SW.S<|aa.t 2<|bI h λr7 hr h=>aa.d (mC hr)<|aa.t 1<|aa.E<|SW.b h (λh=>SW.t 1<|SW.ret<|az<|ag<|iI h▸E0) (λh=>SW.skip<|aB<|af<|SW.S<|aa.t 2<|bI h λr8 hr h=>aa.d (mB hr)<|aa.t 2<|bI h λr9 hr h=>aa.d (ni hr)<|aa.t 8<|aa.E<|SW.seq<|SW.t 1<|SW.b h (λh=>SW.t 1<|SW.ret<|ag<|iI h▸E0) (λh=>SW.skip<|af<|SW.t 1<|SW.ret<|iI h▸E0))))) λjp2 h=>SW.al<|aa.t 3<|bI h λr3 hr h=>aa.d (pe hr)<|aa.s [] [1,2,3,4,8,19] 2<|aa.b2 (λb=>(sp 60 [(1,Z9 p1),(2,vI p2),(3,Z9 p3),(4,pV p0),(8,qB),(19,vB b)] H)) h (λh=>aa.t 11<|aa.D<|JQ [] h) λh=>aa.t 1<|bI h λr4 hr h=>aa.d (sf hr)<|aa.s [] [1,2,3,4,8,24] 3<|aa.b2 (λb=>(sp 60 [(1,Z9 p1),(2,vI p2),(3,Z9 p3),(4,pV p0),(8,qB),(24,vB b)] H)) h (λh=>aa.t 6<|aa.D<|JQ [] h) λh=>aa.t 3<|bI h λr5 hr h=>aa.d (pe hr)<|aa.t 2<|aa.D<|JQ [] h
def eX(fuel:Nat)(H:Hp)(y2:Int×(Option Nat)):Option ((Int×(Option Nat))⊕(Int)):=
 y2.2.bind λi3=>
 (bH fuel i3 H).bind λr4=>
 bif (!r4)then
  (aW 1 cP H i3 1).bind λx5=>
  (idx x5 0).bind λx6=>
  some (.inl ((IntKind.wrap .i64 (y2.1+1)),x6))
 else
  some (.inr y2.1)
def eK(fuel:Nat)(p0:Nat)(H:Hp):Option (Int):=
 (aR cP.cell H p0 4).bind λx1=>
 (iter (eX fuel H) fuel (1,x1)).bind λv8=>
 some v8
theorem eb(h:eK fuel p0 H=some r):SC Tryz.prog true 10 [.d (.ptr p0 0)] H (vI r) H:=by
 refine SC.lh Tryz.func10 rfl ?_
 unfold eK at h
 exact SW.kk 23 H [(0,.d (.ptr p0 0))]<|SW.t 1<|SW.seq<|SW.t 1<|SW.N<|SW.skip<|af<|SW.t 1<|SW.seq<|SW.S<|aa.t 3<|bI h λx1 hx h=>aa.p (s:=.d (cP.enc x1)) (ax.cN hx)<|aa.t 1<|aa.E<|SW.block<|bI h λv8 hit h=>SW.it 23 H [3,4] (λy2=>[(3,vI y2.1),(4,.d (cP.enc y2.2))]) (λv8 e s=>(e=.exit 0/\s=(sp 23 [(3,vI v8)] H))) hit κ (λy2 o h=>by unfold eX at h;exact SW.seq<|SW.S<|aa.s [] [3,4,11] 1<|bI h λi3 hp_i3 h=>aa.nG y2.2 (λp=>(sp 23 [(3,vI y2.1),(4,.d (cP.enc p)),(11,.d (cP.enc p))] H)) κ hp_i3<|bI h λr4 hr h=>aa.g (ls:=[]) (da hr)<|aa.t 1<|aa.E<|SW.b h (λh=>SW.skip<|af<|SW.seq<|SW.block<|SW.al<|aa.t 3<|aa.D<|aB<|af<|SW.al<|aa.t 3<|bI h λx5 hx h=>aa.p (ax.gK hx)<|bI h λx6 hx h=>aa.p (s:=aI (some (.an i3 1)) [cP.enc x6]) (ax.ff (n:=1) hx)<|aa.t 2<|aa.D<|LQ h) (λh=>SW.kk 23 H [(3,vI y2.1)]<|SW.exit<|aG<|aG<|LR h ⟨rfl,rfl⟩)) (by rintro _ _ ⟨rfl,rfl⟩;exact aM<|af<|SW.t 1<|SW.ret<|iI h▸E0)
structure Node where
 Level:Int
 Entries:(List Entry)
 Kids:(List Int)
 deriving DecidableEq,Inhabited
def bn(x:Node):D:=.agg [.int .i64 x.Level,.list 3 (List.map ab x.Entries),.list 1 (List.map (D.int .i64) x.Kids)]
def Ln:Cl Node:=((cI .i64).one.pair ((cL 3 ay).one.pair (cL 1 (cI .i64)).one)).Nz (λp=>(⟨p.1,p.2.1,p.2.2⟩:Node)) (λx=>(x.Level,x.Entries,x.Kids)) (λ_=>rfl) (λ_=>rfl)
def xz:Cd Node:=Ln.agg
def vg(x:Node)(u:Go.Value):D:=.agg [.int .i64 x.Level,.list 3 (List.map ab x.Entries),.raw u]
def ic(l:List Node)(us:List Go.Value):KS:=List.zipWith (λx u=>(u,some x.Kids)) l us
def aV(l:List Node)(us:List Go.Value):List D:=List.zipWith vg l us
end
theorem oS{α β γ:Type}{f:α->β->γ}: ∀(l:List α) (us:List β) (i:Nat) (x:α) (u:β),List.zipWith f (l.set i x) (us.set i u)=(List.zipWith f l us).set i (f x u)
 |[],us,i,x,u=>by simp
 |a::l,[],i,x,u=>by simp
 |a::l,b::us,0,x,u=>by simp
 |a::l,b::us,i+1,x,u=>by simp[oS l us i x u]
theorem Hd(h:us.length=l.length):(ic l us).length=l.length:=by simp[ic,h]
theorem oT(h:us.length=l.length):(aV l us).length=l.length:=by simp[aV,h]
def Np(x0:Int):SV:=.box [vI x0,.d (.bD),.d (.bD)]
def EC(x0:Nat)(x1:(List Entry)):SV:=.bp (.an x0 0) 3 (List.map ab x1)
def Ox(x0:Entry):SV:=.box [.d (.list 3 (List.map ah x0.Row)),vI x0.Key,vI x0.Number]
def Ds(x0:Entry):SV:=.d (.agg [.list 3 (List.map ah x0.Row),.int .i64 x0.Key,.int .i64 x0.Number])
def B6(x0:Entry):SV:=.own 3 (List.map ab [x0])
def OA(x0:Int):SV:=.box [vI x0,.own 3 (List.map ab ([]:List Entry)),.d (.bD)]
def LM(x0:Int×(List Entry)×Int):SV:=.box [vI x0.1,.own 3 (List.map ab x0.2.1),.d (.bD)]
def Oz(x0:Int×(List Entry)×Int)(x1:(List Entry)):SV:=vB (decide (x0.2.2<(x1.length:Int)))
def LL(x0:Int×(List Entry)×Int):SV:=.box [vI x0.1,.undef,.d (.bD)]
def xK(x0:Int×(List Entry)×Int):SV:=.own 3 (List.map ab x0.2.1)
def JR(x0:Int×(List Entry)×Int)(x1:Entry):SV:=.box [vI x0.1,.own 3 (List.map ab (x0.2.1++[x1])),.d (.bD)]
def JP(x0:Int×(List Entry)×Int)(x1:Entry):SV:=.own 3 (List.map ab (x0.2.1++[x1]))
def Oy(x0:Int×(List Entry)×Int):SV:=vI (IntKind.wrap .i64 (x0.2.2+1))
def eB(fuel:Nat)(x1:(List Entry))(y2:Int×(List Entry)×Int):Option ((Int×(List Entry)×Int)⊕(Int×(List Entry))):=
 bif (decide (y2.2.2<(x1.length:Int)))then
  (idx x1 y2.2.2).bind λx3=>
  (vW fuel x3).bind λr4=>
  dx (decide ((y2.2.1++[r4]).length<=room))<|
  some (.inl (y2.1,(y2.2.1++[r4]),(IntKind.wrap .i64 (y2.2.2+1))))
 else
  some (.inr (y2.1,y2.2.1))
def uh(l:List Node)(j:Nat)(i:Int):Option (List Node):=match l[j]? with
 |some x=>dx (decide ((x.Kids++[i]).length<=room)) (some (l.set j {x with Kids:=x.Kids++[i]}))
 |none=>none
theorem Dp(h:uh l j i=some l'): ∃x,l[j]? =some x/\decide ((x.Kids++[i]).length<=room)=true/\l'=l.set j {x with Kids:=x.Kids++[i]}:=by
 unfold uh at h
 split at h
 .rename_i x hx
  obtain⟨hk,h⟩:=sU h
  cases h
  exact⟨x,hx,hk,rfl⟩
 .cases h
def kd(rc:Nat->Int->List Node->Option (Int×List Node))(lv:Int)(at_:Nat)(ks:List (Option Nat))(y:Int×List Node):Option ((Int×List Node)⊕List Node):=
 cond (decide (y.1<(ks.length:Int))) ((idx ks y.1).bind λk=>k.bind λk=>(rc k (IntKind.wrap .i64 (lv - 1)) y.2).bind λr=>(uh r.2 at_ r.1).bind λl'=>some (.inl (IntKind.wrap .i64 (y.1+1),l'))) (some (.inr y.2))
def kN(fuel:Nat)(H:Hp):Nat->Nat->Int->List Node->Option (Int×List Node)
 |0,_,_,_=>none
 |s+1,p0,p1,l=>
  (aW 3 ay H p0 0).bind λx1=>
  (iter (eB fuel x1) fuel (p1,([]:List Entry),0)).bind λv7=>
  dx (decide (l.length+1<=room))<|
  (aW 1 cP H p0 1).bind λks=>
  (iter (kd (kN fuel H s) p1 l.length ks) fuel (0,l++[⟨v7.1,v7.2,[]⟩])).bind λl'=>some ((l.length:Int),l')
def vo(oi di:Nat):D:=.fn (.func 43) [] [.ptr oi 0,.ptr di 0]
def K0:=λa0 a1 a2 a3 a4 a5 a6 a7 (t:SL)=>((1,vI a0)::(2,.d (.ptr a1 0))::(3,.d (.ptr a2 0))::(7,vI (a3:Int))::(43,.bp (.an a4 1) 1 (List.map cP.enc a5))::(44,vI (a6:Int))::(45,vI a7)::t:SL)
def K2:=λa0 a1 a2 a3 a4 (t:SL)=>((0,.d (.ptr a0 0))::(1,vI a1)::(2,.d (.ptr a2 0))::(3,.d (.ptr a3 0))::(7,vI (a4:Int))::t:SL)
def K10:=λa0 a1 (t:SL)=>((0,.d (.ptr a0 0))::(1,vI a1)::t:SL)
def K16:=λa0 a1 a2 a3 a4 a5 a6 a7 a8 a9 (t:SL)=>((1,vI a0)::(2,.d (.ptr a1 0))::(3,.d (.ptr a2 0))::(7,vI (a3:Int))::(43,.bp (.an a4 1) 1 (List.map cP.enc a5))::(44,vI (a6:Int))::(45,vI a7)::(54,.d (.raw a8))::(55,vI (a9:Int))::t:SL)
def K18:=λa0 a1 a2 a3 a4 a5 a6 a7 a8 a9 (t:SL)=>((0,.d (.ptr a0 0))::(1,vI a1)::(2,.d (.ptr a2 0))::(3,.d (.ptr a3 0))::(7,vI (a4:Int))::(8,LM a5)::(22,EC a6 a7)::(23,vI (a8:Int))::(24,vI a9)::t:SL)
def K23:=λa0 a1 a2 a3 (t:SL)=>((1,vI a0)::(2,.d (.ptr a1 0))::(3,.d (.ptr a2 0))::(7,vI (a3:Int))::t:SL)
def K24:=λa0 a1 a2 a3 a4 a5 a6 a7 a8 a9 (t:SL)=>((0,.d (.ptr a0 0))::(1,vI a1)::(2,.d (.ptr a2 0))::(3,.d (.ptr a3 0))::(7,vI (a4:Int))::(8,LL a5)::(22,EC a6 a7)::(23,vI (a8:Int))::(24,vI a9)::t:SL)
def K48:=λa0 a1 a2 a3 a4 a5 a6 a7 a8 (t:SL)=>((1,vI a0)::(2,.d (.ptr a1 0))::(3,.d (.ptr a2 0))::(7,vI (a3:Int))::(43,.bp (.an a4 1) 1 (List.map cP.enc a5))::(44,vI (a6:Int))::(45,vI a7)::(55,vI (a8:Int))::t:SL)
def K60:=λa0 a1 a2 a3 a4 a5 a6 a7 a8 a9 a10 (t:SL)=>((0,.d (.ptr a0 0))::(1,vI a1)::(2,.d (.ptr a2 0))::(3,.d (.ptr a3 0))::(7,vI (a4:Int))::(8,LM a5)::(10,Ox a6)::(22,EC a7 a8)::(23,vI (a9:Int))::(24,vI a10)::t:SL)
theorem Ay{fuel oi di:Nat}{H:Hp}(hoi:H[oi]? =some .hole): ∀(s p0:Nat) (p1:Int) (l:List Node) (us:List Go.Value) (v:Go.Value) (q:Int×List Node),us.length=l.length->kN fuel H s p0 p1 l=some q->
  No Tryz.prog oi di (vo oi di) 43 [.d (.ptr p0 0),vI p1,.d (.ptr oi 0),.d (.ptr di 0)] (H.set oi (.cells [.own 3 (aV l us)])) (v,ic l us)
   (λs' H' r=> ∃us',us'.length=q.2.length/\s'.2=ic q.2 us'/\H'=H.set oi (.cells [.own 3 (aV q.2 us')])/\r=q.1):=by
 intro s
 induction s with
 |zero=>intro p0 p1 l us v q _ h;cases h
 |succ s ih=>
  intro p0 p1 l us v q hlen h
  unfold kN at h
  obtain⟨x1,hx0,h1⟩:=bP h
  obtain⟨v7,hit0,h2⟩:=bP h1
  obtain⟨hroom0,h3⟩:=sU h2
  obtain⟨ks,hks,h4⟩:=bP h3
  obtain⟨lq,hit,h5⟩:=bP h4
  cases h5
  clear h h1 h2 h3 h4
  obtain⟨hx0',-⟩:=yX (X:=.cells [.own 3 (aV l us)]) hx0 hoi
  have hHs:(H.set oi (.cells [.own 3 (aV l us)]))[oi]? =some (.cells [.own 3 (aV l us)]):=g_0 (aE hoi)
  have hroom:(aV l us++[D.agg [.int .i64 v7.1,.list 3 (List.map ab v7.2),.bD]]).length<=room:=by
   have:=of_decide_eq_true hroom0
   simp[oT hlen];omega
  simp only at ih ⊢
  refine No.KO Tryz.func43 rfl rfl<|gO.kp 68 (H.set oi (.cells [.own 3 (aV l us)])) [0,1,2,3] (K10 p0 p1 [(2,.d (.ptr oi 0)),(3,.d (.ptr di 0))]) κ<|gO.seq dC<|gO.of dC<|SW.al<|aa.G 1 (K10 p0 p1 [(2,.d (.ptr oi 0)),(3,.d (.ptr di 0))])<|aa.D<|fu<|gO.seq dC<|gO.of dC<|SW.al<|
   aa.O (d:=some 14) (s:=.bp (.an oi 0) 3 (aV l us)) (K10 p0 p1 [(2,.d (.ptr oi 0)),(3,.d (.ptr di 0)),(14,.bp (.an oi 0) 3 (aV l us))]) (ax.vv hHs rfl κ)<|aa.G 2 (K10 p0 p1 [(2,.d (.ptr oi 0)),(3,.d (.ptr di 0)),(7,vI ((aV l us).length:Int))])<|aa.D ?_
  rw[oT hlen]
  refine fu<|gO.seq dC<|gO.of dC<|SW.al<|aa.G 4 (K2 p0 p1 oi di l.length [(8,Np p1)])<|aa.D<|fu<|gO.seq dC<|gO.of dC<|SW.S<|aa.G 4 (K2 p0 p1 oi di l.length [(8,Np p1),(21,.d (.ptr p0 0))]) ?_
  refine aa.O (d:=some 22) (s:=.bp (.an p0 0) 3 (List.map ab x1)) (K2 p0 p1 oi di l.length [(8,Np p1),(22,EC p0 x1)]) (ax.gK (c:=ay) hx0' κ)<|aa.O (d:=some 23) (K2 p0 p1 oi di l.length [(8,Np p1),(22,EC p0 x1),(23,vI (x1.length:Int))]) (ax.len (enc:=ab) (xs:=x1) κ)<|aa.G 1 (K2 p0 p1 oi di l.length [(8,Np p1),(22,EC p0 x1),(23,vI (x1.length:Int)),(24,vI 0)])<|aa.E<|SW.block ?_
  refine SW.CJ 8 1 3 68 (H.set oi (.cells [.own 3 (aV l us)])) [0,1,2,3,7,8,22,23,24] (K2 p0 p1 oi di l.length [(8,OA p1),(22,EC p0 x1),(23,vI (x1.length:Int)),(24,vI 0)]) κ ?_
  refine SW.it 68 (H.set oi (.cells [.own 3 (aV l us)])) [0,1,2,3,7,8,22,23,24] (λy2=>(K2 p0 p1 oi di l.length [(8,.box [vI y2.1,.own 3 (List.map ab y2.2.1),.d (.bD)]),(22,EC p0 x1),(23,vI (x1.length:Int)),(24,vI y2.2.2)])) (λv7 e s=>(e=.exit 0/\s=(sp 68 (K2 p0 p1 oi di l.length [(8,.box [vI v7.1,.own 3 (List.map ab v7.2),.d (.bD)])]) (H.set oi (.cells [.own 3 (aV l us)]))))) hit0 κ (λy2 o h=>?_) ?_
  .unfold eB at h
   refine SW.R 1 (K18 p0 p1 oi di l.length y2 p0 x1 x1.length y2.2.2 [(25,Oz y2 x1)])<|SW.seq ?_
   refine SW.B (decide (y2.2.2<(x1.length:Int))) (λhc=>?_) (λhc=>?_)
   .replace h:=eQ hc h
    refine SW.skip<|af<|SW.seq<|SW.block<|SW.S ?_
    obtain⟨x3,hx,h⟩:=bP h
    refine aa.O (d:=some 26) (s:=aI (some (.an p0 0)) (Go.Sh.D.cells (ab x3))) (K18 p0 p1 oi di l.length y2 p0 x1 x1.length y2.2.2 [(26,.dq (.an p0 0) [.list 3 (List.map ah x3.Row),.int .i64 x3.Key,.int .i64 x3.Number])]) (ax.index (n:=3) hx κ)<|aa.G 3 (K60 p0 p1 oi di l.length y2 x3 p0 x1 x1.length y2.2.2 [])<|aa.E ?_
    obtain⟨r4,hr_3,h⟩:=bP h
    obtain⟨hk5,h⟩:=sU h
    refine SW.kp 68 (H.set oi (.cells [.own 3 (aV l us)])) [0,1,2,3,7,8,10,22,23,24] (K60 p0 p1 oi di l.length y2 x3 p0 x1 x1.length y2.2.2 []) κ ?_
    refine SW.Cy 68 (H.set oi (.cells [.own 3 (aV l us)])) (K2 p0 p1 oi di l.length [(8,JR y2 r4),(22,EC p0 x1),(23,vI (x1.length:Int)),(24,vI y2.2.2)]) κ (λX hX=>?_) ?_
    .have c255:X 0 255 (sp 68 (K2 p0 p1 oi di l.length [(8,JR y2 r4),(22,EC p0 x1),(23,vI (x1.length:Int)),(24,vI y2.2.2)]) (H.set oi (.cells [.own 3 (aV l us)]))):=by subst hX;exact OX.fin κ
     have c127:X 1 127 (sp 68 (K24 p0 p1 oi di l.length y2 p0 x1 x1.length y2.2.2 [(33,JP y2 r4),(34,.loc 8 1)]) (H.set oi (.cells [.own 3 (aV l us)]))):=by
      subst hX
      refine OX.step (i0:=7) (is:=[]) κ κ ⟨?_,trivial⟩
      .refine aa.OU 68 (H.set oi (.cells [.own 3 (aV l us)])) [0,1,2,3,7,8,22,23,24] (K2 p0 p1 oi di l.length [(8,JR y2 r4),(22,EC p0 x1),(23,vI (x1.length:Int)),(24,vI y2.2.2)]) κ<|aa.D ?_
       exact c255
     have c63:X 2 63 (sp 68 (K24 p0 p1 oi di l.length y2 p0 x1 x1.length y2.2.2 [(33,JP y2 r4)]) (H.set oi (.cells [.own 3 (aV l us)]))):=by
      subst hX
      refine OX.step (i0:=6) (is:=[]) κ κ ⟨?_,trivial⟩
      .refine aa.sg 68 (H.set oi (.cells [.own 3 (aV l us)])) [29] [0,1,2,3,7,8,22,23,24,33,34] 1 (K24 p0 p1 oi di l.length y2 p0 x1 x1.length y2.2.2 [(33,JP y2 r4),(34,.loc 8 1)]) κ<|aa.D ?_
       exact c127
     have c31:X 3 31 (sp 68 (K24 p0 p1 oi di l.length y2 p0 x1 x1.length y2.2.2 [(29,xK y2),(32,B6 r4)]) (H.set oi (.cells [.own 3 (aV l us)]))):=by
      subst hX
      refine OX.step (i0:=5) (is:=[]) κ κ ⟨?_,trivial⟩
      .refine aa.app 68 (H.set oi (.cells [.own 3 (aV l us)])) (s:=29) (d:=33) (w:=3) [0,1,2,3,7,8,22,23,24,33] (zs:=List.map ab (y2.2.1++[r4])) (K24 p0 p1 oi di l.length y2 p0 x1 x1.length y2.2.2 [(33,JP y2 r4)]) (ys:=(List.map ab [r4])) κ (aS) (bx hk5) κ<|aa.D ?_
       exact c63
     have c15:X 4 15 (sp 68 (K24 p0 p1 oi di l.length y2 p0 x1 x1.length y2.2.2 [(29,xK y2),(31,Ds r4)]) (H.set oi (.cells [.own 3 (aV l us)]))):=by
      subst hX
      refine OX.step (i0:=4) (is:=[]) κ κ ⟨?_,trivial⟩
      .refine aa.sg 68 (H.set oi (.cells [.own 3 (aV l us)])) [29] [0,1,2,3,7,8,22,23,24,29,32] 1 (K24 p0 p1 oi di l.length y2 p0 x1 x1.length y2.2.2 [(29,xK y2),(32,B6 r4)]) κ<|aa.D ?_
       exact c31
     have c7:X 5 7 (sp 68 (K24 p0 p1 oi di l.length y2 p0 x1 x1.length y2.2.2 [(29,xK y2),(30,Ds x3)]) (H.set oi (.cells [.own 3 (aV l us)]))):=by
      subst hX
      refine OX.step (i0:=3) (is:=[]) κ κ ⟨?_,trivial⟩
      .refine aa.C0 (some 31) (K24 p0 p1 oi di l.length y2 p0 x1 x1.length y2.2.2 [(29,xK y2),(31,.d (.agg [.list 3 (List.map ah r4.Row),.int .i64 r4.Key,.int .i64 r4.Number]))]) (lS hr_3)<|aa.D ?_
       exact c15
     have c3:X 6 3 (sp 68 (K2 p0 p1 oi di l.length [(8,LL y2),(10,Ox x3),(22,EC p0 x1),(23,vI (x1.length:Int)),(24,vI y2.2.2),(29,xK y2)]) (H.set oi (.cells [.own 3 (aV l us)]))):=by
      subst hX
      refine OX.step (i0:=2) (is:=[]) κ κ ⟨?_,trivial⟩
      .refine aa.sg 68 (H.set oi (.cells [.own 3 (aV l us)])) [29] [0,1,2,3,7,8,22,23,24,29,30] 1 (K24 p0 p1 oi di l.length y2 p0 x1 x1.length y2.2.2 [(29,xK y2),(30,Ds x3)]) κ<|aa.D ?_
       exact c7
     have c29:X 4 29 (sp 68 (K18 p0 p1 oi di l.length y2 p0 x1 x1.length y2.2.2 [(28,.loc 8 1),(32,B6 r4)]) (H.set oi (.cells [.own 3 (aV l us)]))):=by
      subst hX
      refine OX.step (i0:=1) (is:=[]) κ κ ⟨?_,trivial⟩
      .refine aa.Nt 68 (H.set oi (.cells [.own 3 (aV l us)])) [0,1,2,3,7,8,22,23,24,29,32] (K24 p0 p1 oi di l.length y2 p0 x1 x1.length y2.2.2 [(29,xK y2),(32,B6 r4)]) κ<|aa.D ?_
       exact c31
     have c13:X 5 13 (sp 68 (K18 p0 p1 oi di l.length y2 p0 x1 x1.length y2.2.2 [(28,.loc 8 1),(31,Ds r4)]) (H.set oi (.cells [.own 3 (aV l us)]))):=by
      subst hX
      refine OX.step (i0:=1) (is:=[4]) κ κ ⟨?_,?_,trivial⟩
      .refine aa.Nt 68 (H.set oi (.cells [.own 3 (aV l us)])) [0,1,2,3,7,8,22,23,24,29,31] (K24 p0 p1 oi di l.length y2 p0 x1 x1.length y2.2.2 [(29,xK y2),(31,Ds r4)]) κ<|aa.D ?_
       exact c15
      .refine aa.sg 68 (H.set oi (.cells [.own 3 (aV l us)])) [29] [0,1,2,3,7,8,22,23,24,28,32] 1 (K18 p0 p1 oi di l.length y2 p0 x1 x1.length y2.2.2 [(28,.loc 8 1),(32,B6 r4)]) κ<|aa.D ?_
       exact c29
     have c5:X 6 5 (sp 68 (K18 p0 p1 oi di l.length y2 p0 x1 x1.length y2.2.2 [(28,.loc 8 1),(30,Ds x3)]) (H.set oi (.cells [.own 3 (aV l us)]))):=by
      subst hX
      refine OX.step (i0:=1) (is:=[3]) κ κ ⟨?_,?_,trivial⟩
      .refine aa.Nt 68 (H.set oi (.cells [.own 3 (aV l us)])) [0,1,2,3,7,8,22,23,24,29,30] (K24 p0 p1 oi di l.length y2 p0 x1 x1.length y2.2.2 [(29,xK y2),(30,Ds x3)]) κ<|aa.D ?_
       exact c7
      .refine aa.C0 (some 31) (K18 p0 p1 oi di l.length y2 p0 x1 x1.length y2.2.2 [(28,.loc 8 1),(31,Ds r4)]) (lS hr_3)<|aa.D ?_
       exact c13
     have c1:X 7 1 (sp 68 (K60 p0 p1 oi di l.length y2 x3 p0 x1 x1.length y2.2.2 [(28,.loc 8 1)]) (H.set oi (.cells [.own 3 (aV l us)]))):=by
      subst hX
      refine OX.step (i0:=1) (is:=[2]) κ κ ⟨?_,?_,trivial⟩
      .refine aa.Nt 68 (H.set oi (.cells [.own 3 (aV l us)])) [0,1,2,3,7,8,10,22,23,24,29] (K2 p0 p1 oi di l.length [(8,LL y2),(10,Ox x3),(22,EC p0 x1),(23,vI (x1.length:Int)),(24,vI y2.2.2),(29,xK y2)]) κ<|aa.D ?_
       exact c3
      .refine aa.sg 68 (H.set oi (.cells [.own 3 (aV l us)])) [29] [0,1,2,3,7,8,22,23,24,28,30] 1 (K18 p0 p1 oi di l.length y2 p0 x1 x1.length y2.2.2 [(28,.loc 8 1),(30,Ds x3)]) κ<|aa.D ?_
       exact c5
     have c28:X 5 28 (sp 68 (K18 p0 p1 oi di l.length y2 p0 x1 x1.length y2.2.2 [(32,B6 r4)]) (H.set oi (.cells [.own 3 (aV l us)]))):=by
      subst hX
      refine OX.step (i0:=0) (is:=[]) κ κ ⟨?_,trivial⟩
      .refine aa.sg 68 (H.set oi (.cells [.own 3 (aV l us)])) [29] [0,1,2,3,7,8,22,23,24,28,32] 1 (K18 p0 p1 oi di l.length y2 p0 x1 x1.length y2.2.2 [(28,.loc 8 1),(32,B6 r4)]) κ<|aa.D ?_
       exact c29
     have c12:X 6 12 (sp 68 (K18 p0 p1 oi di l.length y2 p0 x1 x1.length y2.2.2 [(31,Ds r4)]) (H.set oi (.cells [.own 3 (aV l us)]))):=by
      subst hX
      refine OX.step (i0:=0) (is:=[4]) κ κ ⟨?_,?_,trivial⟩
      .refine aa.sg 68 (H.set oi (.cells [.own 3 (aV l us)])) [29] [0,1,2,3,7,8,22,23,24,28,31] 1 (K18 p0 p1 oi di l.length y2 p0 x1 x1.length y2.2.2 [(28,.loc 8 1),(31,Ds r4)]) κ<|aa.D ?_
       exact c13
      .refine aa.sg 68 (H.set oi (.cells [.own 3 (aV l us)])) [29] [0,1,2,3,7,8,22,23,24,32] 1 (K18 p0 p1 oi di l.length y2 p0 x1 x1.length y2.2.2 [(32,B6 r4)]) κ<|aa.D ?_
       exact c28
     have c4:X 7 4 (sp 68 (K18 p0 p1 oi di l.length y2 p0 x1 x1.length y2.2.2 [(30,Ds x3)]) (H.set oi (.cells [.own 3 (aV l us)]))):=by
      subst hX
      refine OX.step (i0:=0) (is:=[3]) κ κ ⟨?_,?_,trivial⟩
      .refine aa.sg 68 (H.set oi (.cells [.own 3 (aV l us)])) [29] [0,1,2,3,7,8,22,23,24,28,30] 1 (K18 p0 p1 oi di l.length y2 p0 x1 x1.length y2.2.2 [(28,.loc 8 1),(30,Ds x3)]) κ<|aa.D ?_
       exact c5
      .refine aa.C0 (some 31) (K18 p0 p1 oi di l.length y2 p0 x1 x1.length y2.2.2 [(31,Ds r4)]) (lS hr_3)<|aa.D ?_
       exact c12
     have c0:X 8 0 (sp 68 (K60 p0 p1 oi di l.length y2 x3 p0 x1 x1.length y2.2.2 []) (H.set oi (.cells [.own 3 (aV l us)]))):=by
      subst hX
      refine OX.step (i0:=0) (is:=[2]) κ κ ⟨?_,?_,trivial⟩
      .refine aa.sg 68 (H.set oi (.cells [.own 3 (aV l us)])) [29] [0,1,2,3,7,8,10,22,23,24,28] 1 (K60 p0 p1 oi di l.length y2 x3 p0 x1 x1.length y2.2.2 [(28,.loc 8 1)]) κ<|aa.D ?_
       exact c1
      .refine aa.sg 68 (H.set oi (.cells [.own 3 (aV l us)])) [29] [0,1,2,3,7,8,22,23,24,30] 1 (K18 p0 p1 oi di l.length y2 p0 x1 x1.length y2.2.2 [(30,Ds x3)]) κ<|aa.D ?_
       exact c4
     exact c0
    refine aB<|af<|SW.al<|aa.G 2 (K2 p0 p1 oi di l.length [(8,JR y2 r4),(22,EC p0 x1),(23,vI (x1.length:Int)),(24,Oy y2)])<|aa.D ?_
    cases h
    exact⟨(y2.1,(y2.2.1++[r4]),(IntKind.wrap .i64 (y2.2.2+1))),rfl,κ⟩
   .replace h:=eR hc h
    refine SW.K (K2 p0 p1 oi di l.length [(8,LM y2)])<|SW.exit<|aG ?_
    cases h
    refine aG ?_
    exact⟨_,rfl,⟨rfl,rfl⟩⟩
  .rintro _ _ ⟨rfl,rfl⟩
   refine aM<|fu ?_
   refine gO.seq dC<|gO.NS dC 8 1 68 (H.set oi (.cells [.own 3 (aV l us)])) [0,1,2,3,7,8] (K2 p0 p1 oi di l.length [(8,.box [vI v7.1,.d (.list 3 (List.map ab v7.2)),.d (.bD)])]) κ<|gO.fS<|oC.step dC κ<|bz.Mj (t:=36) (H0:=H.set oi (.cells [.own 3 (aV l us)])) (n:=3) (xs:=aV l us) κ hHs<|
    oC.kp 68 ((H.set oi (.cells [.own 3 (aV l us)])).set oi (.cells [.undef])) [0,1,2,3,7,8,36] (K2 p0 p1 oi di l.length [(8,.box [vI v7.1,.d (.list 3 (List.map ab v7.2)),.d (.bD)]),(36,.own 3 (aV l us))]) κ<|oC.F dC (aa.G 1 (K2 p0 p1 oi di l.length [(36,.own 3 (aV l us)),(37,.d (.agg [.int .i64 v7.1,.list 3 (List.map ab v7.2),.bD]))])<|aa.D<|oC.F dC (aa.G 1 (K2 p0 p1 oi di l.length [(36,.own 3 (aV l us)),(38,.own 3 [.agg [.int .i64 v7.1,.list 3 (List.map ab v7.2),.bD]])])<|aa.D<|oC.F dC
    (aa.app 68 ((H.set oi (.cells [.own 3 (aV l us)])).set oi (.cells [.undef])) (s:=36) (d:=39) (w:=3) [0,1,2,3,7,39] (zs:=aV l us++[.agg [.int .i64 v7.1,.list 3 (List.map ab v7.2),.bD]]) (K2 p0 p1 oi di l.length [(39,.own 3 (aV l us++[.agg [.int .i64 v7.1,.list 3 (List.map ab v7.2),.bD]]))]) (ys:=[.agg [.int .i64 v7.1,.list 3 (List.map ab v7.2),.bD]]) κ rfl hroom κ<|aa.D<|
    oC.step dC κ<|bz.ML (t:=39) (H0:=(H.set oi (.cells [.own 3 (aV l us)])).set oi (.cells [.undef])) (n:=3) (q:=2) (xs:=aV l us) (cs:=[.int .i64 v7.1,.list 3 (List.map ab v7.2),.bD]) κ (g_0 (aE hHs)) rfl (by rw[Hd hlen,oT hlen]) λv1 u1=>?_)))
   have hH2: ∀X Y Z,((H.set oi X).set oi Y).set oi Z=H.set oi Z:=λX Y Z=>by simp
   have e1:ic l us++[(u1,some [])]=ic (l++[⟨v7.1,v7.2,[]⟩]) (us++[u1]):=by simp[ic,List.zipWith_append hlen.symm]
   have e2:aV l us++[.agg ([.int .i64 v7.1,.list 3 (List.map ab v7.2),.bD].set 2 (.raw u1))]=aV (l++[⟨v7.1,v7.2,[]⟩]) (us++[u1]):=by
    simp[aV,List.zipWith_append hlen.symm,vg]
   have hlen1:(us++[u1]).length=(l++[(⟨v7.1,v7.2,[]⟩:Node)]).length:=by simp[hlen]
   simp only[e1,e2]
   generalize us++[u1]=us1 at hlen1 ⊢
   generalize l++[(⟨v7.1,v7.2,[]⟩:Node)]=l1 at hlen1 hit ⊢
   clear e1 e2
   refine oC.kp 68 (((H.set oi (.cells [.own 3 (aV l us)])).set oi (.cells [.undef])).set oi (.cells [.own 3 (aV l1 us1)])) [0,1,2,3,7] (K2 p0 p1 oi di l.length []) κ ?_
   rw[hH2]
   refine oC.fin dC κ<|fu ?_
   obtain⟨hks',hpo⟩:=yX (X:=.cells [.own 3 (aV l1 us1)]) hks hoi
   refine gO.seq dC<|gO.seq dC<|gO.of dC<|SW.al<|aa.G 3 (K23 p1 oi di l.length [(42,.d (.ptr p0 1))])<|
    aa.O (d:=some 43) (s:=.bp (.an p0 1) 1 (List.map cP.enc ks)) (K23 p1 oi di l.length [(43,.bp (.an p0 1) 1 (List.map cP.enc ks))]) (ax.gK (c:=cP) hks' κ)<|aa.O (d:=some 44) (K23 p1 oi di l.length [(43,.bp (.an p0 1) 1 (List.map cP.enc ks)),(44,vI (ks.length:Int))]) (ax.len (enc:=cP.enc) (xs:=ks) κ)<|aa.G 1 (K23 p1 oi di l.length [(43,.bp (.an p0 1) 1 (List.map cP.enc ks)),(44,vI (ks.length:Int)),(45,vI 0)])<|aa.D<|fu<|gO.block<|
    gO.OS dC (λ(y:Int×List Node) s st=> ∃us',us'.length=y.2.length/\s.2=ic y.2 us'/\st=sp 68 (K0 p1 oi di l.length p0 ks ks.length y.1 []) (H.set oi (.cells [.own 3 (aV y.2 us')])))
     (λl' s e st=>e=.exit 2/\ ∃us',us'.length=l'.length/\s.2=ic l' us'/\st=sp 68 [(7,vI (l.length:Int))] (H.set oi (.cells [.own 3 (aV l' us')]))) hit ⟨us1,hlen1,rfl,rfl⟩ (λx o s st hI ho=>?_) (λs' e st' hE=>?_)
   .obtain⟨y,l2⟩:=x
    obtain⟨us2,hlen2,hs2,rfl⟩:=hI
    obtain⟨v2,k2⟩:=s
    cases hs2
    unfold kd at ho
    simp only at ho hlen2 ⊢
    refine gO.seq dC<|gO.of dC<|SW.al<|aa.G 1 (K0 p1 oi di l.length p0 ks ks.length y [(46,vB (decide (y<(ks.length:Int))))])<|aa.D<|fu<|gO.seq dC<|gO.cond (v:=decide (y<(ks.length:Int))) κ ?_
    cases hd:decide (y<(ks.length:Int))with
    |false=>
     rw[hd]at ho
     simp only[cond_false,g_4]at ho
     refine gO.kp 68 (H.set oi (.cells [.own 3 (aV l2 us2)])) [7] [(7,vI (l.length:Int))] κ<|gO.of dC λa w g hr=>wp_exit ⟨_,g,?_,hr,Fr.refl _ _ _⟩
     exact⟨l2,ho.symm,rfl,us2,hlen2,rfl,rfl⟩
    |true=>
     rw[hd]at ho
     simp only[cond_true]at ho
     obtain⟨k0,hk0,ho1⟩:=bP ho
     obtain⟨k,rfl,ho2⟩:=bP ho1
     obtain⟨r,hrec,ho3⟩:=bP ho2
     obtain⟨l3,hadd,ho4⟩:=bP ho3
     simp only[g_4]at ho4
     refine gO.kp 68 (H.set oi (.cells [.own 3 (aV l2 us2)])) [1,2,3,7,43,44,45] (K0 p1 oi di l.length p0 ks ks.length y []) κ<|gO.of dC λa w g hr=>wp_skip ⟨_,g,?_,hr,Fr.refl _ _ _⟩
     refine fu<|gO.seq dC<|gO.block<|gO.seq dC<|gO.of dC<|SW.al<|aa.O (d:=some 47) (s:=.dq (.an p0 1) [cP.enc (some k)]) (K0 p1 oi di l.length p0 ks ks.length y [(47,.dq (.an p0 1) [cP.enc (some k)])]) (ax.ff (l:=some (.an p0 1)) (n:=1) hk0 κ)<|
      aa.G 2 (K23 p1 oi di l.length [(12,.d (.ptr k 0)),(43,.bp (.an p0 1) 1 (List.map cP.enc ks)),(44,vI (ks.length:Int)),(45,vI y)])<|aa.D<|fu<|gO.seq dC<|gO.fS<|oC.step dC κ<|bz.CU (o':=some 49) κ<|oC.kp 68 (H.set oi (.cells [.own 3 (aV l2 us2)])) [1,2,3,7,12,43,44,45,49] (K23 p1 oi di l.length [(12,.d (.ptr k 0)),(43,.bp (.an p0 1) 1 (List.map cP.enc ks)),(44,vI (ks.length:Int)),(45,vI y),(49,.d (vo oi di))]) κ<|
      oC.F dC (aa.G 1 (K0 p1 oi di l.length p0 ks ks.length y [(49,.d (vo oi di)),(50,.d (.ptr k 0))])<|aa.D<|oC.F dC (aa.G 1 (K0 p1 oi di l.length p0 ks ks.length y [(49,.d (vo oi di)),(50,.d (.ptr k 0)),(51,vI p1)])<|aa.D<|oC.F dC (aa.G 1 (K0 p1 oi di l.length p0 ks ks.length y [(49,.d (vo oi di)),(50,.d (.ptr k 0)),(52,vI (IntKind.wrap .i64 (p1 - 1)))])<|aa.D<|
      oC.step dC κ<|bz.BU (o':=some 53) (ih k (IntKind.wrap .i64 (p1 - 1)) l2 us2 v2 r hlen2 hrec) κ (tA (by simp[K0,K10,K16,K18,K2,K23,K24,K48,K60,mb,hpo,vI,vB]) rfl) λs3 H3 r3 hP=>?_)))
     obtain⟨us3,hlen3,hs3,rfl,rfl⟩:=hP
     obtain⟨v3,k3⟩:=s3
     cases hs3
     refine oC.kp 68 (H.set oi (.cells [.own 3 (aV r.2 us3)])) [1,2,3,7,43,44,45,53] (K0 p1 oi di l.length p0 ks ks.length y [(53,vI r.1)]) κ<|oC.F dC (aa.G 1 (K23 p1 oi di l.length [(13,vI r.1),(43,.bp (.an p0 1) 1 (List.map cP.enc ks)),(44,vI (ks.length:Int)),(45,vI y)])<|aa.D<|oC.fin dC κ<|fu ?_)
     obtain⟨x3,hx3,hroom3,rfl⟩:=Dp hadd
     have hj:l.length<us3.length:=by rw[hlen3];exact aE hx3
     obtain⟨u3,hu3⟩: ∃u,us3[l.length]? =some u:=⟨us3[l.length],h_7 hj⟩
     have hxs:(aV r.2 us3)[l.length]? =some (vg x3 u3):=by simp[aV,List.getElem?_zipWith,hx3,hu3]
     have hks3:(ic r.2 us3)[l.length]? =some (u3,some x3.Kids):=by simp[ic,List.getElem?_zipWith,hx3,hu3]
     have hH3:(H.set oi (.cells [.own 3 (aV r.2 us3)]))[oi]? =some (.cells [.own 3 (aV r.2 us3)]):=g_0 (aE hoi)
     have hne3:aV r.2 us3≠[]:=λe=>by rw[e]at hxs;simp at hxs
     refine gO.se κ dC ?_
     refine OG.fW (H:=H.set oi (.cells [.own 3 (aV r.2 us3)])) (s:=(v3,(ic r.2 us3).set l.length (u3,none))) 3 1023 68 (K16 p1 oi di l.length p0 ks ks.length y v3 l.length [(63,.own 1 ((x3.Kids++[r.1]).map (D.int .i64)))]) ?_ λc9=>?_
     .refine OG.step dC (i0:=10) (is:=[]) κ ⟨bz.Jv (o':=some 64) (n:=3) (xs:=aV r.2 us3) (j:=(l.length:Int)) κ hH3 ω (by simpa using aE hxs)<|OG.kp 68 (H.set oi (.cells [.own 3 (aV r.2 us3)])) [1,2,3,7,43,44,45,63,64] (K0 p1 oi di l.length p0 ks ks.length y [(63,.own 1 ((x3.Kids++[r.1]).map (D.int .i64))),(64,.d (.raw (qx v3 ((l.length:Int).toNat * 3))))]) κ<|
       OG.step dC (i0:=11) (is:=[]) κ ⟨bz.Lg (o':=some 65) (n:=3) (m:=(l.length:Int).toNat * 3) (fo:=2) (xs:=aV r.2 us3) κ hH3 hne3<|OG.kp 68 (H.set oi (.cells [.own 3 (aV r.2 us3)])) [1,2,3,7,43,44,45,63,65] (K0 p1 oi di l.length p0 ks ks.length y [(63,.own 1 ((x3.Kids++[r.1]).map (D.int .i64))),(65,.d (.raw (qx v3 ((l.length:Int).toNat * 3+2))))]) κ<|
       OG.step dC (i0:=12) (is:=[]) κ ⟨bz.MM (p:=(l.length:Int).toNat) (q:=2) (n:=3) (s0:=63) (xs:=aV r.2 us3) (cs:=[.int .i64 x3.Level,.list 3 (List.map ab x3.Entries),.raw u3]) (ks:=x3.Kids++[r.1]) κ hH3 hxs ψ (tA (by simp[K0,K10,K16,K18,K2,K23,K24,K48,K60,mb,hpo,vI,vB]) rfl) λu4=>?_,trivial⟩,trivial⟩,trivial⟩
      refine OG.fin dC κ ?_
      refine HX<|fu ?_
      refine gO.kp 68 ((H.set oi (.cells [.own 3 (aV r.2 us3)])).set oi (.cells [.own 3 ((aV r.2 us3).set (l.length:Int).toNat (.agg ([.int .i64 x3.Level,.list 3 (List.map ab x3.Entries),.raw u3].set 2 (.raw u4))))])) [1,2,3,7,43,44,45] (K0 p1 oi di l.length p0 ks ks.length y []) κ ?_
      rw[m_6]
      have e3:(aV r.2 us3).set (l.length:Int).toNat (.agg ([.int .i64 x3.Level,.list 3 (List.map ab x3.Entries),.raw u3].set 2 (.raw u4)))=aV (r.2.set l.length {x3 with Kids:=x3.Kids++[r.1]}) (us3.set l.length u4):=by
       simp only[aV,oS]
       rfl
      have e4:(ic r.2 us3).set (l.length:Int).toNat (u4,some (x3.Kids++[r.1]))=ic (r.2.set l.length {x3 with Kids:=x3.Kids++[r.1]}) (us3.set l.length u4):=by
       simp only[ic,oS]
       rfl
      have e5:(l.length:Int).toNat=l.length:=rfl
      rw[e3]
      refine gO.of dC<|SW.al<|aa.G 2 (K23 p1 oi di l.length [(43,.bp (.an p0 1) 1 (List.map cP.enc ks)),(44,vI (ks.length:Int)),(45,vI (IntKind.wrap .i64 (y+1)))])<|aa.D ?_
      exact⟨_,ho4.symm,68,[1,2,3,7,43,44,45],_,_,κ,us3.set l.length u4,by simp[hlen3],(by
       show List.set (List.set (ic r.2 us3) l.length (u3,none)) (l.length:Int).toNat _=_
       rw[e5,m_6]
       exact e4),rfl⟩
     refine OG.fW (H:=H.set oi (.cells [.own 3 (aV r.2 us3)])) (s:=(v3,(ic r.2 us3).set l.length (u3,none))) 4 1022 68 (K48 p1 oi di l.length p0 ks ks.length y l.length [(63,.own 1 ((x3.Kids++[r.1]).map (D.int .i64)))]) (OG.step dC (i0:=0) (is:=[]) κ ⟨bz.uM (o':=some 54) κ<|OG.kp 68 (H.set oi (.cells [.own 3 (aV r.2 us3)])) [1,2,3,7,43,44,45,54,55,63] (K16 p1 oi di l.length p0 ks ks.length y v3 l.length [(63,.own 1 ((x3.Kids++[r.1]).map (D.int .i64)))]) κ<|OG.at_ c9,trivial⟩) λc8=>?_
     refine OG.fW (H:=H.set oi (.cells [.own 3 (aV r.2 us3)])) (s:=(v3,ic r.2 us3)) 4 511 68 (K16 p1 oi di l.length p0 ks ks.length y v3 l.length [(60,.d (.raw u3)),(62,.own 1 (List.map (D.int .i64) [r.1]))]) (OG.step dC (i0:=9) (is:=[]) κ ⟨bz.JV (t:=60) (p:=l.length) (u:=u3) (ks:=x3.Kids) κ hks3 (tA (by simp[K0,K10,K16,K18,K2,K23,K24,K48,K60,mb,hpo,vI,vB]) rfl) hH3<|bz.kp 68 (H.set oi (.cells [.own 3 (aV r.2 us3)])) [1,2,3,7,43,44,45,54,55,60,62] (K16 p1 oi di l.length p0 ks ks.length y v3 l.length [(60,.own 1 (List.map (D.int .i64) x3.Kids)),(62,.own 1 (List.map (D.int .i64) [r.1]))]) κ<|bz.W dC (aa.app 68 (H.set oi (.cells [.own 3 (aV r.2 us3)])) (s:=60) (d:=63) (w:=1) [1,2,3,7,43,44,45,54,55,63] (zs:=List.map (D.int .i64) (x3.Kids++[r.1])) (K16 p1 oi di l.length p0 ks ks.length y v3 l.length [(63,.own 1 ((x3.Kids++[r.1]).map (D.int .i64)))]) (ys:=List.map (D.int .i64) [r.1]) κ (aS) (bx hroom3) κ<|aa.D<|OG.at_ c9),trivial⟩) λc121=>?_
     refine OG.fW (H:=H.set oi (.cells [.own 3 (aV r.2 us3)])) (s:=(v3,ic r.2 us3)) 5 255 68 (K16 p1 oi di l.length p0 ks ks.length y v3 l.length [(60,.d (.raw u3)),(61,vI r.1)]) (OG.step dC (i0:=8) (is:=[]) κ ⟨bz.W dC (aa.G 1 (K16 p1 oi di l.length p0 ks ks.length y v3 l.length [(60,.d (.raw u3)),(62,.own 1 (List.map (D.int .i64) [r.1]))])<|aa.D<|OG.at_ c121),trivial⟩) λc120=>?_
     refine OG.fW (H:=H.set oi (.cells [.own 3 (aV r.2 us3)])) (s:=(v3,ic r.2 us3)) 5 447 68 (K16 p1 oi di l.length p0 ks ks.length y v3 l.length [(59,.dq (.an oi 0) [.raw u3]),(62,.own 1 (List.map (D.int .i64) [r.1]))]) (OG.step dC (i0:=6) (is:=[]) κ ⟨bz.W dC (aa.G 1 (K16 p1 oi di l.length p0 ks ks.length y v3 l.length [(60,.d (.raw u3)),(62,.own 1 (List.map (D.int .i64) [r.1]))])<|aa.D<|OG.at_ c121),trivial⟩) λc111=>?_
     refine OG.fW (H:=H.set oi (.cells [.own 3 (aV r.2 us3)])) (s:=(v3,ic r.2 us3)) 6 191 68 (K16 p1 oi di l.length p0 ks ks.length y v3 l.length [(59,.dq (.an oi 0) [.raw u3]),(61,vI r.1)]) (OG.step dC (i0:=6) (is:=[8]) κ ⟨bz.W dC (aa.G 1 (K16 p1 oi di l.length p0 ks ks.length y v3 l.length [(60,.d (.raw u3)),(61,vI r.1)])<|aa.D<|OG.at_ c120),bz.W dC (aa.G 1 (K16 p1 oi di l.length p0 ks ks.length y v3 l.length [(59,.dq (.an oi 0) [.raw u3]),(62,.own 1 (List.map (D.int .i64) [r.1]))])<|aa.D<|OG.at_ c111),trivial⟩) λc110=>?_
     refine OG.fW (H:=H.set oi (.cells [.own 3 (aV r.2 us3)])) (s:=(v3,ic r.2 us3)) 8 395 68 (K16 p1 oi di l.length p0 ks ks.length y v3 l.length [(57,vI (l.length:Int)),(62,.own 1 (List.map (D.int .i64) [r.1]))]) (OG.step dC (i0:=2) (is:=[]) κ ⟨bz.W dC (aa.O (d:=some 56) (s:=.bp (.an oi 0) 3 (aV r.2 us3)) (K16 p1 oi di l.length p0 ks ks.length y v3 l.length [(56,.bp (.an oi 0) 3 (aV r.2 us3)),(57,vI (l.length:Int)),(62,.own 1 (List.map (D.int .i64) [r.1]))]) (ax.vv hH3 rfl κ)<|aa.D<|OG.B (dd:=some 58) (x:=.dq (.an oi 0) (vg x3 u3).cells) 4 (K16 p1 oi di l.length p0 ks ks.length y v3 l.length [(58,.dq (.an oi 0) (vg x3 u3).cells),(62,.own 1 (List.map (D.int .i64) [r.1]))]) (ax.Ny (l:=some (.an oi 0)) (n:=3) (j:=(l.length:Int)) κ ω hxs)<|OG.b 5 (K16 p1 oi di l.length p0 ks ks.length y v3 l.length [(59,.dq (.an oi 0) [.raw u3]),(62,.own 1 (List.map (D.int .i64) [r.1]))])<|OG.at_ c111),trivial⟩) λc101=>?_
     refine OG.fW (H:=H.set oi (.cells [.own 3 (aV r.2 us3)])) (s:=(v3,ic r.2 us3)) 9 139 68 (K16 p1 oi di l.length p0 ks ks.length y v3 l.length [(57,vI (l.length:Int)),(61,vI r.1)]) (OG.step dC (i0:=2) (is:=[8]) κ ⟨bz.W dC (aa.O (d:=some 56) (s:=.bp (.an oi 0) 3 (aV r.2 us3)) (K16 p1 oi di l.length p0 ks ks.length y v3 l.length [(56,.bp (.an oi 0) 3 (aV r.2 us3)),(57,vI (l.length:Int)),(61,vI r.1)]) (ax.vv hH3 rfl κ)<|aa.D<|OG.B (dd:=some 58) (x:=.dq (.an oi 0) (vg x3 u3).cells) 4 (K16 p1 oi di l.length p0 ks ks.length y v3 l.length [(58,.dq (.an oi 0) (vg x3 u3).cells),(61,vI r.1)]) (ax.Ny (l:=some (.an oi 0)) (n:=3) (j:=(l.length:Int)) κ ω hxs)<|OG.b 5 (K16 p1 oi di l.length p0 ks ks.length y v3 l.length [(59,.dq (.an oi 0) [.raw u3]),(61,vI r.1)])<|OG.at_ c110),bz.W dC (aa.G 1 (K16 p1 oi di l.length p0 ks ks.length y v3 l.length [(57,vI (l.length:Int)),(62,.own 1 (List.map (D.int .i64) [r.1]))])<|aa.D<|OG.at_ c101),trivial⟩) λc100=>?_
     refine OG.fW (H:=H.set oi (.cells [.own 3 (aV r.2 us3)])) (s:=(v3,ic r.2 us3)) 5 510 68 (K48 p1 oi di l.length p0 ks ks.length y l.length [(60,.d (.raw u3)),(62,.own 1 (List.map (D.int .i64) [r.1]))]) (OG.step dC (i0:=0) (is:=[9]) κ ⟨bz.uM (o':=some 54) κ<|OG.kp 68 (H.set oi (.cells [.own 3 (aV r.2 us3)])) [1,2,3,7,43,44,45,54,55,60,62] (K16 p1 oi di l.length p0 ks ks.length y v3 l.length [(60,.d (.raw u3)),(62,.own 1 (List.map (D.int .i64) [r.1]))]) κ<|OG.at_ c121,bz.JV (t:=60) (p:=l.length) (u:=u3) (ks:=x3.Kids) κ hks3 (tA (by simp[K0,K10,K16,K18,K2,K23,K24,K48,K60,mb,hpo,vI,vB]) rfl) hH3<|bz.kp 68 (H.set oi (.cells [.own 3 (aV r.2 us3)])) [1,2,3,7,43,44,45,55,60,62] (K48 p1 oi di l.length p0 ks ks.length y l.length [(60,.own 1 (List.map (D.int .i64) x3.Kids)),(62,.own 1 (List.map (D.int .i64) [r.1]))]) κ<|bz.W dC (aa.app 68 (H.set oi (.cells [.own 3 (aV r.2 us3)])) (s:=60) (d:=63) (w:=1) [1,2,3,7,43,44,45,55,63] (zs:=List.map (D.int .i64) (x3.Kids++[r.1])) (K48 p1 oi di l.length p0 ks ks.length y l.length [(63,.own 1 ((x3.Kids++[r.1]).map (D.int .i64)))]) (ys:=List.map (D.int .i64) [r.1]) κ (aS) (bx hroom3) κ<|aa.D<|OG.at_ c8),trivial⟩) λc021=>?_
     refine OG.fW (H:=H.set oi (.cells [.own 3 (aV r.2 us3)])) (s:=(v3,ic r.2 us3)) 6 254 68 (K48 p1 oi di l.length p0 ks ks.length y l.length [(60,.d (.raw u3)),(61,vI r.1)]) (OG.step dC (i0:=0) (is:=[8]) κ ⟨bz.uM (o':=some 54) κ<|OG.kp 68 (H.set oi (.cells [.own 3 (aV r.2 us3)])) [1,2,3,7,43,44,45,54,55,60,61] (K16 p1 oi di l.length p0 ks ks.length y v3 l.length [(60,.d (.raw u3)),(61,vI r.1)]) κ<|OG.at_ c120,bz.W dC (aa.G 1 (K48 p1 oi di l.length p0 ks ks.length y l.length [(60,.d (.raw u3)),(62,.own 1 (List.map (D.int .i64) [r.1]))])<|aa.D<|OG.at_ c021),trivial⟩) λc020=>?_
     refine OG.fW (H:=H.set oi (.cells [.own 3 (aV r.2 us3)])) (s:=(v3,ic r.2 us3)) 6 446 68 (K48 p1 oi di l.length p0 ks ks.length y l.length [(59,.dq (.an oi 0) [.raw u3]),(62,.own 1 (List.map (D.int .i64) [r.1]))]) (OG.step dC (i0:=0) (is:=[6]) κ ⟨bz.uM (o':=some 54) κ<|OG.kp 68 (H.set oi (.cells [.own 3 (aV r.2 us3)])) [1,2,3,7,43,44,45,54,55,59,62] (K16 p1 oi di l.length p0 ks ks.length y v3 l.length [(59,.dq (.an oi 0) [.raw u3]),(62,.own 1 (List.map (D.int .i64) [r.1]))]) κ<|OG.at_ c111,bz.W dC (aa.G 1 (K48 p1 oi di l.length p0 ks ks.length y l.length [(60,.d (.raw u3)),(62,.own 1 (List.map (D.int .i64) [r.1]))])<|aa.D<|OG.at_ c021),trivial⟩) λc011=>?_
     refine OG.fW (H:=H.set oi (.cells [.own 3 (aV r.2 us3)])) (s:=(v3,ic r.2 us3)) 7 190 68 (K48 p1 oi di l.length p0 ks ks.length y l.length [(59,.dq (.an oi 0) [.raw u3]),(61,vI r.1)]) (OG.step dC (i0:=0) (is:=[6,8]) κ ⟨bz.uM (o':=some 54) κ<|OG.kp 68 (H.set oi (.cells [.own 3 (aV r.2 us3)])) [1,2,3,7,43,44,45,54,55,59,61] (K16 p1 oi di l.length p0 ks ks.length y v3 l.length [(59,.dq (.an oi 0) [.raw u3]),(61,vI r.1)]) κ<|OG.at_ c110,bz.W dC (aa.G 1 (K48 p1 oi di l.length p0 ks ks.length y l.length [(60,.d (.raw u3)),(61,vI r.1)])<|aa.D<|OG.at_ c020),bz.W dC (aa.G 1 (K48 p1 oi di l.length p0 ks ks.length y l.length [(59,.dq (.an oi 0) [.raw u3]),(62,.own 1 (List.map (D.int .i64) [r.1]))])<|aa.D<|OG.at_ c011),trivial⟩) λc010=>?_
     refine OG.fW (H:=H.set oi (.cells [.own 3 (aV r.2 us3)])) (s:=(v3,ic r.2 us3)) 9 394 68 (K48 p1 oi di l.length p0 ks ks.length y l.length [(57,vI (l.length:Int)),(62,.own 1 (List.map (D.int .i64) [r.1]))]) (OG.step dC (i0:=0) (is:=[2]) κ ⟨bz.uM (o':=some 54) κ<|OG.kp 68 (H.set oi (.cells [.own 3 (aV r.2 us3)])) [1,2,3,7,43,44,45,54,55,57,62] (K16 p1 oi di l.length p0 ks ks.length y v3 l.length [(57,vI (l.length:Int)),(62,.own 1 (List.map (D.int .i64) [r.1]))]) κ<|OG.at_ c101,bz.W dC (aa.O (d:=some 56) (s:=.bp (.an oi 0) 3 (aV r.2 us3)) (K48 p1 oi di l.length p0 ks ks.length y l.length [(56,.bp (.an oi 0) 3 (aV r.2 us3)),(57,vI (l.length:Int)),(62,.own 1 (List.map (D.int .i64) [r.1]))]) (ax.vv hH3 rfl κ)<|aa.D<|OG.B (dd:=some 58) (x:=.dq (.an oi 0) (vg x3 u3).cells) 4 (K48 p1 oi di l.length p0 ks ks.length y l.length [(58,.dq (.an oi 0) (vg x3 u3).cells),(62,.own 1 (List.map (D.int .i64) [r.1]))]) (ax.Ny (l:=some (.an oi 0)) (n:=3) (j:=(l.length:Int)) κ ω hxs)<|OG.b 5 (K48 p1 oi di l.length p0 ks ks.length y l.length [(59,.dq (.an oi 0) [.raw u3]),(62,.own 1 (List.map (D.int .i64) [r.1]))])<|OG.at_ c011),trivial⟩) λc001=>?_
     refine OG.fW (H:=H.set oi (.cells [.own 3 (aV r.2 us3)])) (s:=(v3,ic r.2 us3)) 10 138 68 (K48 p1 oi di l.length p0 ks ks.length y l.length [(57,vI (l.length:Int)),(61,vI r.1)]) (OG.step dC (i0:=0) (is:=[2,8]) κ ⟨bz.uM (o':=some 54) κ<|OG.kp 68 (H.set oi (.cells [.own 3 (aV r.2 us3)])) [1,2,3,7,43,44,45,54,55,57,61] (K16 p1 oi di l.length p0 ks ks.length y v3 l.length [(57,vI (l.length:Int)),(61,vI r.1)]) κ<|OG.at_ c100,bz.W dC (aa.O (d:=some 56) (s:=.bp (.an oi 0) 3 (aV r.2 us3)) (K48 p1 oi di l.length p0 ks ks.length y l.length [(56,.bp (.an oi 0) 3 (aV r.2 us3)),(57,vI (l.length:Int)),(61,vI r.1)]) (ax.vv hH3 rfl κ)<|aa.D<|OG.B (dd:=some 58) (x:=.dq (.an oi 0) (vg x3 u3).cells) 4 (K48 p1 oi di l.length p0 ks ks.length y l.length [(58,.dq (.an oi 0) (vg x3 u3).cells),(61,vI r.1)]) (ax.Ny (l:=some (.an oi 0)) (n:=3) (j:=(l.length:Int)) κ ω hxs)<|OG.b 5 (K48 p1 oi di l.length p0 ks ks.length y l.length [(59,.dq (.an oi 0) [.raw u3]),(61,vI r.1)])<|OG.at_ c010),bz.W dC (aa.G 1 (K48 p1 oi di l.length p0 ks ks.length y l.length [(57,vI (l.length:Int)),(62,.own 1 (List.map (D.int .i64) [r.1]))])<|aa.D<|OG.at_ c001),trivial⟩) λc000=>?_
     exact OG.b 1 (K23 p1 oi di l.length [(13,vI r.1),(43,.bp (.an p0 1) 1 (List.map cP.enc ks)),(44,vI (ks.length:Int)),(45,vI y),(55,vI (l.length:Int))])<|OG.b 3 (K23 p1 oi di l.length [(13,vI r.1),(43,.bp (.an p0 1) 1 (List.map cP.enc ks)),(44,vI (ks.length:Int)),(45,vI y),(55,vI (l.length:Int)),(57,vI (l.length:Int))])<|OG.b 7 (K48 p1 oi di l.length p0 ks ks.length y l.length [(57,vI (l.length:Int)),(61,vI r.1)])<|OG.at_ c000
   .obtain⟨rfl,us',hl',hs',rfl⟩:=hE
    refine HW<|fu<|gO.seq dC<|gO.of dC<|SW.al<|aa.G 2 [(6,vI (l.length:Int))]<|aa.D<|fu<|gO.of dC λa w g hr=>wp_ret ⟨_,g,?_,hr,Fr.refl _ _ _⟩
    exact⟨.inr rfl,_,⟨us',hl',hs',rfl,rfl⟩,κ⟩
theorem Rel.MK{st:St}{a:Go.Act}{w:World}{g:Gh}{i:Nat}{y:D}(hr:Rel st a w g)(hi:st.H[i]? =some (.cells [.d y]))(hn:st.tmps.all dN=true):
  ∃g',Rel ⟨st.tmps,st.H.set i .hole⟩ a w g'/\Fr false g w g' w/\(∀o,o≠.obj i->aC o g w g' w)/\g'.ρ=g.ρ/\ ∃(k:Nat) (c:Array Go.Value) (T:TypeId) (fz:Nat×Nat) (v:Go.Value),g'.ρ[i]? =some k/\g'.ow k=.out/\w.heap[k]? =some (.cells c T fz)/\c[0]? =some v/\v.oneCell'=true/\Rd g' w v y:=by
 let rn:Own->Own:=λo=>match o with
  |.obj j=>if j=i then .out else .obj j
  |o=>o
 have hk: ∀o,o≠.obj i->aC o g w (g.aK rn) w:=λo h1=>aC.aK (by
  cases o with
  |obj j=>simp only[rn];rw[if_neg (λe=>h1 (by rw[e]))]
  |_=>rfl)
 have hf:aC .free g w (g.aK rn) w:=hk _ ψ
 have hout:aC .out g w (g.aK rn) w:=hk _ ψ
 obtain⟨k,c,T,f1,f2,f3,f4,f5⟩:=hr.hp.2 i _ hi
 refine⟨g.aK rn,?_,⟨g_9 _,hf,hout,λ_ _ h=>h,nofun,nofun,nofun,⟨rfl,rfl⟩⟩,hk,rfl,?_⟩
 .refine Rel.step hr hr.len hr.cR (λ_ _ h=>h) (λt' s hs=>?_) ⟨by simp[Gh.aK,hr.hp.1],λi' o' hi'=>?_⟩
  .refine .inr (.inr ⟨hs,rfl,λo' ho'=>hk o' (λe2=>by subst e2;exact absurd ho' lP),λs0 e0=>⟨rfl,λx hx hb=>⟨x,hx,rfl⟩⟩⟩)
  .simp only at hi'
   by_cases e:i=i'
   .subst e
    rw[g_0 (aE hi)]at hi'
    cases hi'
    trivial
   .rw[g_1 e]at hi'
    exact(hr.hp.2 i' o' hi').me hf (hk _ (λe2=>by cases e2;exact e rfl)) (λj=>hk _ ψ) (λ_ _ h=>h)
 .obtain⟨u,u1,u2,u3⟩:=f5 0 _ rfl
  exact⟨k,c,T,(0,0),u,f1,by simp[Gh.aK,f2,rn],f3,u1,u3,(show Rd g w u y from u2).aF hf (λ_ _ h=>h)⟩
theorem SW.Lj{P:Program}{st:St}{Q:Exit->St->Prop}{c:Code}(oi di m:Nat)(xs:List D)(y:D)(n:Nat)(H:List aD)(L:List Nat)(ll:List (Nat×SV))(hoi:st.H[oi]? =some (.cells [.own m xs]))(hdi:st.H[di]? =some (.cells [.d y]))(hn:st.tmps.all dN=true)
  (bE:aN n L ⟨st.tmps,st.H.set di .hole⟩=some (ll,H)) (h: ∀v,gO P (CK oi di y) (RK oi) (v,[]) c (sp n ll H) (λ_ e st=>Q e st)):SW P false c st Q:=by
 intro a w g hr
 have hne:oi≠di:=λe=>by subst e;rw[hoi]at hdi;cases hdi
 obtain⟨g1,r1,f1,hk,hρ,k,c0,T,fz,v,d1,d2,d3,d4,d5,d6⟩:=hr.MK hdi hn
 obtain⟨kv,cv,Tv,b1,b2,b3,b4,b5⟩:=hr.hp.2 oi _ hoi
 obtain⟨u,u1,u2,u3⟩:=b5 0 _ rfl
 obtain⟨x1,x2⟩:=hk (.obj oi) (λe=>by cases e;exact hne rfl) kv _ b2 b3
 have hC:CK oi di y (u,[]) g1 w:=⟨⟨kv,cv,Tv,_,by rw[hρ];exact b1,x1,x2,u1,u3⟩,λp u' ks hp=>by simp at hp,k,c0,T,fz,v,d1,d2,d3,d4,d5,d6⟩
 refine Code.wp_mono (λe a' w' hh=>?_) (h u a w g1 (r1.aQ (ar bE)) hC)
 obtain⟨s',st',g',q,r,c',f⟩:=hh
 exact⟨st',g',q,r,f1.trans (u7.fr f)⟩
theorem oC.NJ{P:Program}{oi di k t:Nat}{dd:D}{ops:Array Oper}{st:St}{v:Go.Value}{l:List Node}{us:List Go.Value}{K:Go.Value×KS->St->Prop}(ht:st.tmps[t]? =some (.d (.raw v)))(hlen:us.length=l.length)(hH:st.H[oi]? =some (.cells [.own 3 (aV l us)]))
  (hn:st.tmps.all (mb oi)=true) (h:oC P (CK oi di dd) (RK oi) ops k (v,[]) ⟨(st.set t (.d (.list 3 (l.map bn)))).tmps,st.H.set oi .hole⟩ K):oC P (CK oi di dd) (RK oi) ops k (v,ic l us) st K:=by
 intro a w g hr hc X hX
 let rn:Own->Own:=λo=>match o with
  |.ba (.an j c)=>if j=oi then .free else .ba (.an j c)
  |o=>o
 have hk: ∀o,(∀c,o≠.ba (.an oi c))->aC o g w (g.aK rn) w:=λo h1=>aC.aK (by
  cases o with
  |ba l=>
   cases l with
   |an j c=>simp only[rn];rw[if_neg (λe=>h1 c (by rw[e]))]
   |_=>rfl
  |_=>rfl)
 have hrn: ∀c,rn (.ba (.an oi c))=.free:=λc=>by simp[rn]
 have hf:aC .free g w (g.aK rn) w:=hk _ ψ
 obtain⟨kv,cv,Tv,m1,m2,m3,m4,m5,hO⟩:=CK.main hr.hp hc hH
 have kp: ∀{v:Go.Value} {d:D},Rd g w v d->Rd (g.aK rn) w v d:=λh=>h.aF hf (λ_ _ h=>h)
 have hlist:Rd (g.aK rn) w v (.list 3 (l.map bn)):=by
  rcases hO with⟨h0,a0,h1⟩|⟨km,off,cap,c,T0,uf,e1,e2,e3,e4,e5,e6,e7,e8⟩
  .have hl0:l=[]:=by
    have:=oT hlen
    rw[h0]at this
    cases l with
    |nil=>rfl
    |cons _ _=>simp at this
   subst hl0
   have h1:v=_:=h1
   rw[h1]
   exact .kS
  .have e1:v=_:=e1
   rw[e1]
   have hget: ∀(i:Nat) (x:Node),l[i]? =some x-> ∃u,us[i]? =some u/\(aV l us)[i]? =some (vg x u):=λi x hx=>by
    have hlt:i<us.length:=by rw[hlen];exact aE hx
    exact⟨us[i],h_7 hlt,by simp[aV,List.getElem?_zipWith,hx,h_7 hlt]⟩
   refine .list uf (by simp[Gh.aK,e2,hrn]) e3 (by rw[oT hlen];simp) e4 (λi y hy=>?_) (λi y hy j z hz=>?_) (λi y hy j z hz=>?_)
   .simp only[h_0,g_2]at hy
    obtain⟨x,hx,rfl⟩:=hy
    rfl
   .simp only[h_0,g_2]at hy
    obtain⟨x,hx,rfl⟩:=hy
    obtain⟨u,hu,hxs⟩:=hget i x hx
    have hj:j<3:=aE hz
    match j,hj with
    |0,_=>exact e7 i _ hxs 0 _ rfl
    |1,_=>exact e7 i _ hxs 1 _ rfl
    |2,_=>exact e7 i _ hxs 2 _ rfl
   .simp only[h_0,g_2]at hy
    obtain⟨x,hx,rfl⟩:=hy
    obtain⟨u,hu,hxs⟩:=hget i x hx
    have hj:j<3:=aE hz
    match j,hj with
    |0,_=>cases hz;exact kp (e8 i _ hxs 0 _ rfl)
    |1,_=>cases hz;exact kp (e8 i _ hxs 1 _ rfl)
    |2,_=>
     cases hz
     have hu2:Rd g w (uf i 2) (.raw u):=e8 i _ hxs 2 _ rfl
     have hu3:uf i 2=u:=by generalize uf i 2=z at hu2;cases hu2;rfl
     rw[hu3]
     have hks:(ic l us)[i]? =some (u,some x.Kids):=by simp[ic,List.getElem?_zipWith,hx,hu]
     have hro:=hc.2.1 i u x.Kids hks
     exact dt.free (l:=.an oi (i+1)) rfl (by simp[hrn]) (bh.lR hro)
 have hrel:Rel ⟨(st.set t (.d (.list 3 (l.map bn)))).tmps,st.H.set oi .hole⟩ a w (g.aK rn):=by
  refine Rel.step hr (by simp[St.set,hr.len]) hr.cR (λ_ _ h=>h) (λt' sv hs=>?_) ⟨by simp[Gh.aK,hr.hp.1],λi' o' hi'=>?_⟩
  .by_cases e:t=t'
   .subst e
    simp only[St.set]at hs
    rw[g_0 (aE ht)]at hs
    cases hs
    refine .inr (.inl ?_)
    have hv:Rd g w (valOf a t) (.raw v):=hr.tmp t _ ht
    have hv2:valOf a t=v:=by generalize valOf a t=z at hv;cases hv;rfl
    show Rd _ _ (valOf a t) _
    rw[hv2]
    exact hlist
   .simp only[St.set]at hs
    rw[g_1 e]at hs
    have hnh:mb oi sv=true:=h_2.1 hn sv (h_4.2 ⟨t',hs⟩)
    refine .inr (.inr ⟨hs,rfl,λo' ho'=>hk o' (λc e2=>?_),λs0 e0=>⟨rfl,λy hy hb=>⟨y,?_,rfl⟩⟩⟩)
    .subst e2
     cases sv<;>simp[gU]at ho'
     .subst ho';simp[mb]at hnh
     .subst ho';simp[mb]at hnh
    .have hne:t≠s0:=λe3=>by
      subst e3
      rw[ht]at hy
      cases hy
      simp[er]at hb
     show((st.set t _).tmps)[s0]? =some y
     simp only[St.set]
     rw[g_1 hne]
     exact hy
  .simp only at hi'
   by_cases e:oi=i'
   .subst e
    rw[g_0 (aE hH)]at hi'
    cases hi'
    trivial
   .rw[g_1 e]at hi'
    exact(hr.hp.2 i' o' hi').me hf (hk _ ψ) (λj=>hk _ (λc e2=>by cases e2;exact e rfl)) (λ_ _ h=>h)
 have hfr:u7 oi g w (g.aK rn) w:=⟨g_9 _,hf,hk _ ψ,rfl,λj _=>hk _ ψ,λj c hj=>hk _ (λc' e=>by cases e;exact hj rfl),dM.refl _⟩
 have hC':CK oi di dd (v,[]) (g.aK rn) w:=by
  obtain⟨⟨kv,c,T,fz,a1,a2,a3,a4,a5⟩,b,⟨k,c',T',fz',v',d1,d2,d3,d4,d5,d6⟩⟩:=hc
  exact⟨⟨kv,c,T,fz,a1,by simp[Gh.aK,a2,rn],a3,a4,a5⟩,λp u ks hp=>by simp at hp,k,c',T',fz',v',d1,by simp[Gh.aK,d2,rn],d3,d4,d5,d6.aF hf (λ_ _ h=>h)⟩
 exact h a w (g.aK rn) hrel hC' X λs' st' a' w' g2 q r c f=>hX s' st' a' w' g2 q r c (hfr.trans f)
def fx(fuel:Nat)(p0:Nat)(H:Hp):Option (((List Node))×Hp):=
 (aR cP.cell ((H++[aD.hole,aD.hole]).set H.length (aD.cells [.own 3 []])) p0 4).bind λx=>x.bind λi=>
 (eK fuel p0 ((H++[aD.hole,aD.hole]).set H.length (aD.cells [.own 3 []]))).bind λlv=>
 (kN fuel (H++[aD.hole,aD.hole]) fuel i (IntKind.wrap .i64 (lv - 1)) []).bind λr=>some (r.2,H++[aD.hole,aD.hole])
def K8:=λa0 a1 a2 (t:SL)=>((3,.d (.ptr a0 0))::(8,.d (vo a1 (a2++[aD.cells [.own 3 []]]).length))::t:SL)
def K14:=λa0 a1 (t:SL)=>((3,.d (.ptr a0 0))::(4,.d (.ptr (a1++[aD.cells [.own 3 []]]).length 0))::t:SL)
def K22:=λa0 a1 a2 (t:SL)=>((0,.d (.ptr a0 0))::(3,.d (.ptr a1 0))::(4,.d (.ptr (a2++[aD.cells [.own 3 []]]).length 0))::t:SL)
theorem bX(h:fx fuel p0 H=some r):SC Tryz.prog false 11 [.d (.ptr p0 0)] H (.d (.list 3 (List.map bn r.1))) r.2:=by
 unfold fx at h
 obtain⟨x,hroot,h1⟩:=bP h
 obtain⟨i,rfl,h2⟩:=bP h1
 obtain⟨lv,hlv,h3⟩:=bP h2
 obtain⟨r1,hn,h4⟩:=bP h3
 cases h4
 clear h h1 h2 h3
 refine SC.fc Tryz.func11 rfl<|SW.kk 18 H [(0,.d (.ptr p0 0))]<|SW.R 1 [(0,.d (.ptr p0 0))]<|SW.seq<|SW.S<|aa.G 2 [(0,.d (.ptr p0 0)),(6,vB false)]<|aa.D<|af<|
  SW.za κ<|SW.skip<|af<|SW.seq<|SW.al<|
  aa.oh (n:=18) (H:=(H++[aD.cells [.own 3 []]])) (d:=some 3) (b:=false) [(0,3,true)] [0,3] [(0,.d (.ptr p0 0)),(3,.d (.ptr H.length 0))] (q:=((H++[aD.cells [.own 3 []]]),H.length)) rfl κ rfl κ<|aa.D<|af<|SW.seq<|SW.al<|
  aa.oh (n:=18) (H:=((H++[aD.cells [.own 3 []]])++[aD.cells [.d .jb]])) (d:=some 4) (b:=false) [] [0,3,4] (K22 p0 H.length H []) (q:=(((H++[aD.cells [.own 3 []]])++[aD.cells [.d .jb]]),(H++[aD.cells [.own 3 []]]).length)) rfl κ rfl κ<|aa.D<|af<|SW.seq<|SW.al<|
  aa.G 1 (K22 p0 H.length H [(7,.d (vo H.length (H++[aD.cells [.own 3 []]]).length))])<|aa.MJ (n:=18) (H0:=((H++[aD.cells [.own 3 []]])++[aD.cells [.d .jb]])) (H:=((H++[aD.cells [.own 3 []]])++[aD.cells [.d (vo H.length (H++[aD.cells [.own 3 []]]).length)]])) (y:=(vo H.length (H++[aD.cells [.own 3 []]]).length)) (i:=(H++[aD.cells [.own 3 []]]).length) (off:=0) [0,3,4] (K22 p0 H.length H []) (yW (H++[aD.cells [.own 3 []]]) _ _) κ κ<|aa.D<|af<|
  SW.Lj H.length (H++[aD.cells [.own 3 []]]).length 3 [] (vo H.length (H++[aD.cells [.own 3 []]]).length) 18 (((H++[aD.cells [.own 3 []]])++[aD.cells [.d (vo H.length (H++[aD.cells [.own 3 []]]).length)]]).set (H++[aD.cells [.own 3 []]]).length aD.hole) [0,3,4] (K22 p0 H.length H []) (by simp[sp]) (by simp[sp]) κ κ λv=>?_
 have eH:((H++[aD.cells [.own 3 []]])++[aD.cells [.d (vo H.length (H++[aD.cells [.own 3 []]]).length)]]).set (H++[aD.cells [.own 3 []]]).length aD.hole=((H++[aD.hole,aD.hole]).set H.length (aD.cells [.own 3 []])):=by simp
 rw[eH]
 have hoi:(H++[aD.hole,aD.hole])[H.length]? =some aD.hole:=by simp
 have hcall:=Ay (di:=(H++[aD.cells [.own 3 []]]).length) hoi fuel i (IntKind.wrap .i64 (lv - 1)) [] [] v r1 rfl hn
 refine gO.seq dC<|gO.se κ dC ?_
 refine OG.fW (H:=((H++[aD.hole,aD.hole]).set H.length (aD.cells [.own 3 []]))) (s:=(v,[])) 1 255 18 (K8 H.length H.length H [(12,.d (.ptr i 0)),(15,vI (IntKind.wrap .i64 (lv - 1)))]) (OG.step dC (i0:=8) (is:=[]) κ ⟨bz.BU (o':=some 16) hcall κ (tA (by simp[K14,K22,K8,mb,vI]) rfl) λs3 H3 r3 hP=>?_,trivial⟩) λc112=>?_
 .obtain⟨us3,hlen3,hs3,rfl,rfl⟩:=hP
  obtain⟨v3,k3⟩:=s3
  cases hs3
  refine OG.kp 18 ((H++[aD.hole,aD.hole]).set H.length (aD.cells [.own 3 (aV r1.2 us3)])) [3] [(3,.d (.ptr H.length 0))] κ<|OG.fin dC κ<|fu<|gO.seq dC<|gO.fS<|oC.step dC κ<|
   bz.uM (o':=some 17) κ<|oC.kp 18 ((H++[aD.hole,aD.hole]).set H.length (aD.cells [.own 3 (aV r1.2 us3)])) [17] [(17,.d (.raw v3))] κ<|
   oC.NJ (t:=17) κ hlen3 (g_0 ψ) (tA (by simp[K14,K22,K8,mb]) rfl)<|
   oC.kp 18 (((H++[aD.hole,aD.hole]).set H.length (aD.cells [.own 3 (aV r1.2 us3)])).set H.length aD.hole) [17] [(17,.d (.list 3 (List.map bn r1.2)))] κ ?_
  have eE:(((H++[aD.hole,aD.hole]).set H.length (aD.cells [.own 3 (aV r1.2 us3)])).set H.length aD.hole)=H++[aD.hole,aD.hole]:=by simp
  rw[eE]
  refine oC.F dC (aa.G 1 [(2,.d (.list 3 (List.map bn r1.2)))]<|aa.D<|oC.fin dC κ<|fu<|gO.of dC λa w g hr=>wp_ret ⟨_,g,?_,hr,Fr.refl _ _ _⟩)
  exact bW.ret [] κ rfl
 refine OG.fW (H:=((H++[aD.hole,aD.hole]).set H.length (aD.cells [.own 3 []]))) (s:=(v,[])) 2 254 18 (K14 H.length H [(12,.d (.ptr i 0)),(15,vI (IntKind.wrap .i64 (lv - 1)))]) (OG.step dC (i0:=0) (is:=[]) κ ⟨bz.CU (o':=some 8) κ<|OG.kp 18 ((H++[aD.hole,aD.hole]).set H.length (aD.cells [.own 3 []])) [3,8,12,15] (K8 H.length H.length H [(12,.d (.ptr i 0)),(15,vI (IntKind.wrap .i64 (lv - 1)))]) κ<|OG.at_ c112,trivial⟩) λc012=>?_
 refine OG.fW (H:=((H++[aD.hole,aD.hole]).set H.length (aD.cells [.own 3 []]))) (s:=(v,[])) 2 239 18 (K8 H.length H.length H [(11,.d (.ptr p0 4)),(15,vI (IntKind.wrap .i64 (lv - 1)))]) (OG.step dC (i0:=4) (is:=[]) κ ⟨bz.W dC (aa.O (d:=some 12) (s:=.d (cP.enc (some i))) (K8 H.length H.length H [(12,.d (.ptr i 0)),(15,vI (IntKind.wrap .i64 (lv - 1)))]) (ax.cN (c:=cP.cell) hroot κ)<|aa.D<|OG.at_ c112),trivial⟩) λc102=>?_
 refine OG.fW (H:=((H++[aD.hole,aD.hole]).set H.length (aD.cells [.own 3 []]))) (s:=(v,[])) 3 238 18 (K14 H.length H [(11,.d (.ptr p0 4)),(15,vI (IntKind.wrap .i64 (lv - 1)))]) (OG.step dC (i0:=0) (is:=[4]) κ ⟨bz.CU (o':=some 8) κ<|OG.kp 18 ((H++[aD.hole,aD.hole]).set H.length (aD.cells [.own 3 []])) [3,8,11,15] (K8 H.length H.length H [(11,.d (.ptr p0 4)),(15,vI (IntKind.wrap .i64 (lv - 1)))]) κ<|OG.at_ c102,bz.W dC (aa.O (d:=some 12) (s:=.d (cP.enc (some i))) (K14 H.length H [(12,.d (.ptr i 0)),(15,vI (IntKind.wrap .i64 (lv - 1)))]) (ax.cN (c:=cP.cell) hroot κ)<|aa.D<|OG.at_ c012),trivial⟩) λc002=>?_
 refine OG.fW (H:=((H++[aD.hole,aD.hole]).set H.length (aD.cells [.own 3 []]))) (s:=(v,[])) 2 127 18 (K8 H.length H.length H [(12,.d (.ptr i 0)),(14,vI lv)]) (OG.step dC (i0:=7) (is:=[]) κ ⟨bz.W dC (aa.G 1 (K8 H.length H.length H [(12,.d (.ptr i 0)),(15,vI (IntKind.wrap .i64 (lv - 1)))])<|aa.D<|OG.at_ c112),trivial⟩) λc111=>?_
 refine OG.fW (H:=((H++[aD.hole,aD.hole]).set H.length (aD.cells [.own 3 []]))) (s:=(v,[])) 3 126 18 (K14 H.length H [(12,.d (.ptr i 0)),(14,vI lv)]) (OG.step dC (i0:=0) (is:=[7]) κ ⟨bz.CU (o':=some 8) κ<|OG.kp 18 ((H++[aD.hole,aD.hole]).set H.length (aD.cells [.own 3 []])) [3,8,12,14] (K8 H.length H.length H [(12,.d (.ptr i 0)),(14,vI lv)]) κ<|OG.at_ c111,bz.W dC (aa.G 1 (K14 H.length H [(12,.d (.ptr i 0)),(15,vI (IntKind.wrap .i64 (lv - 1)))])<|aa.D<|OG.at_ c012),trivial⟩) λc011=>?_
 refine OG.fW (H:=((H++[aD.hole,aD.hole]).set H.length (aD.cells [.own 3 []]))) (s:=(v,[])) 3 111 18 (K8 H.length H.length H [(11,.d (.ptr p0 4)),(14,vI lv)]) (OG.step dC (i0:=4) (is:=[7]) κ ⟨bz.W dC (aa.O (d:=some 12) (s:=.d (cP.enc (some i))) (K8 H.length H.length H [(12,.d (.ptr i 0)),(14,vI lv)]) (ax.cN (c:=cP.cell) hroot κ)<|aa.D<|OG.at_ c111),bz.W dC (aa.G 1 (K8 H.length H.length H [(11,.d (.ptr p0 4)),(15,vI (IntKind.wrap .i64 (lv - 1)))])<|aa.D<|OG.at_ c102),trivial⟩) λc101=>?_
 refine OG.fW (H:=((H++[aD.hole,aD.hole]).set H.length (aD.cells [.own 3 []]))) (s:=(v,[])) 4 110 18 (K14 H.length H [(11,.d (.ptr p0 4)),(14,vI lv)]) (OG.step dC (i0:=0) (is:=[4,7]) κ ⟨bz.CU (o':=some 8) κ<|OG.kp 18 ((H++[aD.hole,aD.hole]).set H.length (aD.cells [.own 3 []])) [3,8,11,14] (K8 H.length H.length H [(11,.d (.ptr p0 4)),(14,vI lv)]) κ<|OG.at_ c101,bz.W dC (aa.O (d:=some 12) (s:=.d (cP.enc (some i))) (K14 H.length H [(12,.d (.ptr i 0)),(14,vI lv)]) (ax.cN (c:=cP.cell) hroot κ)<|aa.D<|OG.at_ c011),bz.W dC (aa.G 1 (K14 H.length H [(11,.d (.ptr p0 4)),(15,vI (IntKind.wrap .i64 (lv - 1)))])<|aa.D<|OG.at_ c002),trivial⟩) λc001=>?_
 refine OG.fW (H:=((H++[aD.hole,aD.hole]).set H.length (aD.cells [.own 3 []]))) (s:=(v,[])) 3 63 18 (K8 H.length H.length H [(12,.d (.ptr i 0)),(13,.d (.ptr p0 0))]) (OG.step dC (i0:=6) (is:=[]) κ ⟨bz.W dC (aa.CR (ls:=[]) (some 14) (K8 H.length H.length H [(12,.d (.ptr i 0)),(14,vI lv)]) (eb hlv)<|aa.D<|OG.at_ c111),trivial⟩) λc110=>?_
 refine OG.fW (H:=((H++[aD.hole,aD.hole]).set H.length (aD.cells [.own 3 []]))) (s:=(v,[])) 4 62 18 (K14 H.length H [(12,.d (.ptr i 0)),(13,.d (.ptr p0 0))]) (OG.step dC (i0:=0) (is:=[6]) κ ⟨bz.CU (o':=some 8) κ<|OG.kp 18 ((H++[aD.hole,aD.hole]).set H.length (aD.cells [.own 3 []])) [3,8,12,13] (K8 H.length H.length H [(12,.d (.ptr i 0)),(13,.d (.ptr p0 0))]) κ<|OG.at_ c110,bz.W dC (aa.CR (ls:=[]) (some 14) (K14 H.length H [(12,.d (.ptr i 0)),(14,vI lv)]) (eb hlv)<|aa.D<|OG.at_ c011),trivial⟩) λc010=>?_
 refine OG.fW (H:=((H++[aD.hole,aD.hole]).set H.length (aD.cells [.own 3 []]))) (s:=(v,[])) 4 47 18 (K8 H.length H.length H [(11,.d (.ptr p0 4)),(13,.d (.ptr p0 0))]) (OG.step dC (i0:=4) (is:=[6]) κ ⟨bz.W dC (aa.O (d:=some 12) (s:=.d (cP.enc (some i))) (K8 H.length H.length H [(12,.d (.ptr i 0)),(13,.d (.ptr p0 0))]) (ax.cN (c:=cP.cell) hroot κ)<|aa.D<|OG.at_ c110),bz.W dC (aa.CR (ls:=[]) (some 14) (K8 H.length H.length H [(11,.d (.ptr p0 4)),(14,vI lv)]) (eb hlv)<|aa.D<|OG.at_ c101),trivial⟩) λc100=>?_
 refine OG.fW (H:=((H++[aD.hole,aD.hole]).set H.length (aD.cells [.own 3 []]))) (s:=(v,[])) 5 46 18 (K14 H.length H [(11,.d (.ptr p0 4)),(13,.d (.ptr p0 0))]) (OG.step dC (i0:=0) (is:=[4,6]) κ ⟨bz.CU (o':=some 8) κ<|OG.kp 18 ((H++[aD.hole,aD.hole]).set H.length (aD.cells [.own 3 []])) [3,8,11,13] (K8 H.length H.length H [(11,.d (.ptr p0 4)),(13,.d (.ptr p0 0))]) κ<|OG.at_ c100,bz.W dC (aa.O (d:=some 12) (s:=.d (cP.enc (some i))) (K14 H.length H [(12,.d (.ptr i 0)),(13,.d (.ptr p0 0))]) (ax.cN (c:=cP.cell) hroot κ)<|aa.D<|OG.at_ c010),bz.W dC (aa.CR (ls:=[]) (some 14) (K14 H.length H [(11,.d (.ptr p0 4)),(14,vI lv)]) (eb hlv)<|aa.D<|OG.at_ c001),trivial⟩) λc000=>?_
 exact OG.b 1 (K22 p0 H.length H [(9,.d (.ptr p0 0))])<|OG.b 2 (K22 p0 H.length H [(10,.d (.ptr p0 0))])<|OG.b 3 (K22 p0 H.length H [(11,.d (.ptr p0 4))])<|OG.b 5 (K14 H.length H [(11,.d (.ptr p0 4)),(13,.d (.ptr p0 0))])<|OG.at_ c000
structure kZ where
 low:(Option Entry)
 high:(Option Entry)
 deriving DecidableEq,Inhabited
def vC(x:kZ):D:=.agg [cg ab x.low,cg ab x.high]
def bQ(fuel:Nat)(p0:Nat)(p1:Node)(y9:Int×(List Entry)×(List Int)×Int×Hp):Option ((Int×(List Entry)×(List Int)×Int×Hp)⊕((Hp)⊕(((Bool)×Hp)))):=
 bif (decide (y9.2.2.2.1<(p1.Entries.length:Int)))then
  (idx p1.Entries y9.2.2.2.1).bind λx10=>
  aP (λ(j11:Bool)=>
   bif j11 then
    some (.inr (.inr (false,y9.2.2.2.2)))
   else
    (aR cM.cell y9.2.2.2.2 p0 3).bind λx23=>
    (xg (kI .i64) cB y9.2.2.2.2 x23 x10.Number true).bind λH24=>
    aP (λ(j25:Unit)=>
     bif (decide (y9.2.2.2.1>0))then
      (aR cP.cell H24 p0 0).bind λx32=>
      x32.bind λi33=>
      (aR (cI .i64).cell H24 i33 2).bind λx34=>
      bif (x34==1)then
       (aR cP.cell H24 p0 0).bind λx35=>
       x35.bind λi36=>
       (aR cj.cells H24 i36 0).bind λx37=>
       (idx y9.2.1 (IntKind.wrap .i64 (y9.2.2.2.1 - 1))).bind λx38=>
       (mL fuel x37 x38.Row x10.Row).bind λr39=>
       bif (r39==0)then
        some (.inr (.inr (false,H24)))
       else
        some (.inl (y9.1,y9.2.1,y9.2.2.1,(IntKind.wrap .i64 (y9.2.2.2.1+1)),H24))
      else
       some (.inl (y9.1,y9.2.1,y9.2.2.1,(IntKind.wrap .i64 (y9.2.2.2.1+1)),H24))
     else
      some (.inl (y9.1,y9.2.1,y9.2.2.1,(IntKind.wrap .i64 (y9.2.2.2.1+1)),H24))) λjp26=>
    bif (decide (y9.2.2.2.1>0))then
     (aR cP.cell H24 p0 0).bind λx27=>
     x27.bind λi28=>
     (aR cj.cells H24 i28 0).bind λx29=>
     (idx y9.2.1 (IntKind.wrap .i64 (y9.2.2.2.1 - 1))).bind λx30=>
     (j6 fuel x29 x30 x10).bind λr31=>
     bif (decide (r31>=0))then
      some (.inr (.inr (false,H24)))
     else
      jp26 ()
    else
     jp26 ()) λjp12=>
  (aR cP.cell y9.2.2.2.2 p0 0).bind λx13=>
  x13.bind λi14=>
  (aR cj.cells y9.2.2.2.2 i14 0).bind λx15=>
  (qZ fuel x15 x10.Row).bind λr16=>
  bif (!r16)then
   jp12 true
  else
   (Ax fuel x10.Key).bind λr17=>
   bif ((!r17)||(decide (x10.Number<1)))then
    jp12 true
   else
    (aR cP.cell y9.2.2.2.2 p0 0).bind λx18=>
    x18.bind λi19=>
    (aR (cI .i64).cell y9.2.2.2.2 i19 5).bind λx20=>
    bif (decide (x10.Number>x20))then
     jp12 true
    else
     (aR cM.cell y9.2.2.2.2 p0 3).bind λx21=>
     (xi (kI .i64) cB y9.2.2.2.2 x21 x10.Number).bind λq22=>
     jp12 (q22.getD false)
 else
  some (.inr (.inl y9.2.2.2.2))
def cm(fuel:Nat)(p0:Nat)(p1:Node)(p2:Bool)(p3:kZ)(H:Hp):Option ((Bool)×Hp):=
 aP (λ(j1:Unit)=>
  (iter (bQ fuel p0 p1) fuel (p1.Level,p1.Entries,p1.Kids,0,H)).bind (Sum.elim (λv41=>
   some (true,v41)) (λr42=>
   some r42))) λjp2=>
 (aR cP.cell H p0 0).bind λx3=>
 x3.bind λi4=>
 (aR (cI .i64).cell H i4 3).bind λx5=>
 bif (decide ((p1.Entries.length:Int)>x5))then
  some (false,H)
 else
  bif (!p2)then
   (aR cP.cell H p0 0).bind λx6=>
   x6.bind λi7=>
   (b9 fuel i7 H).bind λr8=>
   bif (decide ((p1.Entries.length:Int)<r8))then
    some (false,H)
   else
    jp2 ()
  else
   jp2 ()
def rN(x0:(List Node)):SV:=.d (.list 3 (List.map bn x0))
def JK(x0:kZ):SV:=.box [.d (cg ab x0.low),.d (cg ab x0.high)]
def qA(x0:Node):SV:=.box [vI x0.Level,.d (.list 3 (List.map ab x0.Entries)),.d (.list 1 (List.map (D.int .i64) x0.Kids))]
def FG(x0:Node):SV:=.d (.list 3 (List.map ab x0.Entries))
def nH(x0:Node):SV:=vI (x0.Entries.length:Int)
def Oc(x0:Node):SV:=.d (.agg [.int .i64 x0.Level,.list 3 (List.map ab x0.Entries),.list 1 (List.map (D.int .i64) x0.Kids)])
def M9(x0:kZ):SV:=.d (.agg [cg ab x0.low,cg ab x0.high])
def oB(x0:Int×(List Entry)×(List Int)×Int×Hp):SV:=.box [vI x0.1,.d (.list 3 (List.map ab x0.2.1)),.d (.list 1 (List.map (D.int .i64) x0.2.2.1))]
section
attribute [local irreducible] aa aA bb au SW uS
def K15:=λa0 a1 a2 a3 a4 a5 a6 (t:SL)=>((0,.d (.ptr a0 0))::(5,oB a1)::(10,vI a2)::(11,jQ a3)::(38,FG a4)::(39,nH a5)::(40,vI a6)::t:SL)
theorem rQ(h:cm fuel p0 p1 p2 p3 H=some r):SC Tryz.prog false 75 [.d (.ptr p0 0),.d (bn p1),vB p2,.d (vC p3)] H (vB r.1) r.2:=by
 refine SC.fc Tryz.func75 rfl ?_
 unfold cm at h
 exact SW.kk 148 H [(0,.d (.ptr p0 0)),(1,Oc p1),(2,vB p2),(3,M9 p3)]<|SW.t 1<|SW.S<|aa.t 2<|aa.p (ax.len (enc:=ab) (xs:=p1.Entries))<|aa.t 1<|aa.E<|SW.J 148 H [0,5] (λ(j1:Unit)=>[(0,.d (.ptr p0 0)),(5,qA p1)]) h (λj1 h=>SW.seq<|SW.S<|aa.t 2<|aa.p (ax.len (enc:=ab) (xs:=p1.Entries))<|aa.t 1<|aa.E<|SW.block<|bI h λz40 hit h=>SW.Fq 148 [0,5,38,39,40] (λy9=>[(0,.d (.ptr p0 0)),(5,.box [vI y9.1,.d (.list 3 (List.map ab y9.2.1)),.d (.list 1 (List.map (D.int .i64) y9.2.2.1))]),(38,FG p1),(39,nH p1),(40,vI y9.2.2.2.1)]) (λy9=>y9.2.2.2.2) (λb e s=>((∃v41,b=(.inl v41)/\(e=.exit 0/\s=(sp 148 [] v41)))\/(∃r42,b=(.inr r42)/\(e=.ret/\bW Tryz.prog Tryz.f75.results.toList r42.2 (vB r42.1) .ret s)))) hit κ (λy9 o h=>by unfold bQ at h;exact SW.t 1<|SW.seq<|SW.b h (λh=>SW.skip<|af<|SW.seq<|SW.block<|SW.S<|aa.t 1<|bI h λx10 hx h=>aa.p (s:=aI none (Go.Sh.D.cells (ab x10))) (ax.index (n:=3) hx)<|aa.t 4<|aa.E<|SW.seq<|SW.J 148 y9.2.2.2.2 [0,5,10,11,38,39,40,87] (λ(j11:Bool)=>(K15 p0 y9 y9.2.2.2.1 x10 p1 p1 y9.2.2.2.1 [(87,vB j11)])) h (λj11 h=>SW.b h (λh=>SW.t 1<|SW.ret<|ag<|az<|ag<|ag<|LR h (.inr (⟨(false,y9.2.2.2.2),rfl,rfl,bW.ret [] κ κ⟩))) (λh=>SW.skip<|af<|SW.seq<|SW.fS 6 κ κ<|bb.t 3<|bI h λx23 hx h=>bb.p (s:=.d (cM.enc x23)) (ax.cN hx)<|bb.s [] [0,5,10,11,38,39,40,91,93] 2<|bb.D<|bI h λH24 hx h=>aa.NO 148 H24 (kc:=(kI .i64)) (v:=cB) (mm:=x23) (key:=x10.Number) (y:=true) [0,5,10,11,38,39,40] (K15 p0 y9 y9.2.2.2.1 x10 p1 p1 y9.2.2.2.1 []) hx κ κ<|aa.E<|SW.J 148 H24 [0,5,10,11,38,39,40] (λ(j25:Unit)=>(K15 p0 y9 y9.2.2.2.1 x10 p1 p1 y9.2.2.2.1 [])) h (λj25 h=>SW.seq<|SW.qq<|aA.s [] [0,5,10,11,38,39,40,116] 3<|aA.b2 (λb=>(sp 148 (K15 p0 y9 y9.2.2.2.1 x10 p1 p1 y9.2.2.2.1 [(116,vB b)]) H24)) h (λh=>aA.t 3<|bI h λx32 hx h=>aA.p (s:=.d (cP.enc x32)) (ax.cN hx)<|bI h λi33 hp_i33 h=>aA.p (s:=.d (.ptr i33 0)) (ax.dS hp_i33)<|aA.t 2<|bI h λx34 hx h=>aA.p (s:=vI x34) (ax.cN hx)<|aA.s [] [0,5,10,11,38,39,40,127] 3<|aA.b2 (λb=>(sp 148 (K15 p0 y9 y9.2.2.2.1 x10 p1 p1 y9.2.2.2.1 [(127,vB b)]) H24)) h (λh=>aA.t 3<|bI h λx35 hx h=>aA.p (s:=.d (cP.enc x35)) (ax.cN hx)<|bI h λi36 hp_i36 h=>aA.p (s:=.d (.ptr i36 0)) (ax.dS hp_i36)<|aA.t 1<|bI h λx37 hx h=>aA.p (s:=.d (.agg [.list 1 (List.map (D.int .i64) x37.aq),.list 1 (List.map D.bool x37.Down),.int .i64 x37.cW])) (ax.cN hx)<|aA.t 4<|bI h λx38 hx h=>aA.p (s:=aI none (Go.Sh.D.cells (ab x38))) (ax.index (n:=3) hx)<|aA.t 4<|bI h λr39 hr h=>aA.d (lF hr)<|aA.t 2<|aA.D<|af<|SW.b h (λh=>SW.t 1<|SW.ret<|az<|ag<|ag<|LR h (.inr (⟨(false,H24),rfl,rfl,bW.ret [] κ κ⟩))) (λh=>SW.skip<|aB<|af<|SW.al<|aa.t 2<|aa.D<|LQ h)) λh=>aA.t 19<|aA.D<|af<|SW.N<|SW.skip<|aB<|af<|SW.al<|aa.t 2<|aa.D<|LQ h) λh=>aA.t 30<|aA.D<|af<|SW.N<|SW.skip<|aB<|af<|SW.al<|aa.t 2<|aa.D<|LQ h) λjp26 h=>SW.seq<|SW.qq<|aA.s [] [0,5,10,11,38,39,40,96] 3<|aA.b2 (λb=>(sp 148 (K15 p0 y9 y9.2.2.2.1 x10 p1 p1 y9.2.2.2.1 [(96,vB b)]) H24)) h (λh=>aA.t 3<|bI h λx27 hx h=>aA.p (s:=.d (cP.enc x27)) (ax.cN hx)<|bI h λi28 hp_i28 h=>aA.p (s:=.d (.ptr i28 0)) (ax.dS hp_i28)<|aA.t 1<|bI h λx29 hx h=>aA.p (s:=.d (.agg [.list 1 (List.map (D.int .i64) x29.aq),.list 1 (List.map D.bool x29.Down),.int .i64 x29.cW])) (ax.cN hx)<|aA.t 4<|bI h λx30 hx h=>aA.p (s:=aI none (Go.Sh.D.cells (ab x30))) (ax.index (n:=3) hx)<|aA.t 2<|bI h λr31 hr h=>aA.d (nR hr)<|aA.t 2<|aA.D<|af<|SW.b h (λh=>SW.t 1<|SW.ret<|ag<|az<|ag<|ag<|LR h (.inr (⟨(false,H24),rfl,rfl,bW.ret [] κ κ⟩))) (λh=>SW.skip<|JQ [] h)) λh=>aA.t 17<|aA.D<|af<|SW.N<|SW.skip<|JQ [] h)) λjp12 h=>SW.qq<|aA.t 3<|bI h λx13 hx h=>aA.p (s:=.d (cP.enc x13)) (ax.cN hx)<|bI h λi14 hp_i14 h=>aA.p (s:=.d (.ptr i14 0)) (ax.dS hp_i14)<|aA.t 1<|bI h λx15 hx h=>aA.p (s:=.d (.agg [.list 1 (List.map (D.int .i64) x15.aq),.list 1 (List.map D.bool x15.Down),.int .i64 x15.cW])) (ax.cN hx)<|aA.t 2<|bI h λr16 hr h=>aA.d (tu hr)<|aA.s [] [0,5,10,11,38,39,40,56] 2<|aA.b2 (λb=>(sp 148 (K15 p0 y9 y9.2.2.2.1 x10 p1 p1 y9.2.2.2.1 [(56,vB b)]) y9.2.2.2.2)) h (λh=>aA.t 31<|aA.D<|JQ [] h) λh=>aA.t 2<|bI h λr17 hr h=>aA.d (Aw hr)<|aA.s [] [0,5,10,11,38,39,40,62] 3<|aA.mg 148 y9.2.2.2.2 [0,5,10,11,38,39,40,66] 4 (!r17) (λb=>(sp 148 (K15 p0 y9 y9.2.2.2.1 x10 p1 p1 y9.2.2.2.1 [(62,vB b)]) y9.2.2.2.2)) (λb=>(K15 p0 y9 y9.2.2.2.1 x10 p1 p1 y9.2.2.2.1 [(66,vB (b||(decide (x10.Number<1))))])) κ κ κ<|aA.s [] [0,5,10,11,38,39,40,67] 1<|aA.b2 (λb=>(sp 148 (K15 p0 y9 y9.2.2.2.1 x10 p1 p1 y9.2.2.2.1 [(67,vB b)]) y9.2.2.2.2)) h (λh=>aA.t 20<|aA.D<|JQ [] h) λh=>aA.t 5<|bI h λx18 hx h=>aA.p (s:=.d (cP.enc x18)) (ax.cN hx)<|bI h λi19 hp_i19 h=>aA.p (s:=.d (.ptr i19 0)) (ax.dS hp_i19)<|aA.t 1<|bI h λx20 hx h=>aA.p (s:=vI x20) (ax.cN hx)<|aA.s [] [0,5,10,11,38,39,40,79] 3<|aA.b2 (λb=>(sp 148 (K15 p0 y9 y9.2.2.2.1 x10 p1 p1 y9.2.2.2.1 [(79,vB b)]) y9.2.2.2.2)) h (λh=>aA.t 8<|aA.D<|JQ [] h) λh=>aA.t 3<|bI h λx21 hx h=>aA.p (s:=.d (cM.enc x21)) (ax.cN hx)<|aA.t 2<|bI h λq22 hq h=>aA.p (ax.look (kc:=(kI .i64)) (v:=cB) (ok:=false) (mm:=x21) (key:=x10.Number) (z:=false) hq)<|aA.t 1<|aA.D<|JQ [] h) (λh=>SW.kk 148 y9.2.2.2.2 []<|SW.exit<|aG<|aG<|LR h (.inl ⟨y9.2.2.2.2,rfl,rfl,rfl⟩))) (by rintro _ _ (⟨v41,rfl,rfl,rfl⟩|⟨r42,rfl,rfl,hE⟩);exact have h:=gd h;aM<|af<|SW.t 1<|SW.ret<|iI h▸E0;exact have h:=gb h;az<|ag<|(by cases h;exact hE))) λjp2 h=>SW.S<|aa.t 4<|bI h λx3 hx h=>aa.p (s:=.d (cP.enc x3)) (ax.cN hx)<|bI h λi4 hp_i4 h=>aa.p (s:=.d (.ptr i4 0)) (ax.dS hp_i4)<|aa.t 1<|bI h λx5 hx h=>aa.p (s:=vI x5) (ax.cN hx)<|aa.s [] [0,2,5,9,24] 2<|aa.b2 (λb=>(sp 148 [(0,.d (.ptr p0 0)),(2,vB p2),(5,qA p1),(9,nH p1),(24,vB b)] H)) h (λh=>aa.t 12<|aa.E<|SW.jL κ<|SW.t 1<|SW.ret<|ag<|iI h▸E0) λh=>aa.s [] [0,5,9,24,27] 3<|aa.b2 (λb=>(sp 148 [(0,.d (.ptr p0 0)),(5,qA p1),(9,nH p1),(24,vB false),(27,vB b)] H)) h (λh=>aa.t 4<|bI h λx6 hx h=>aa.o (s:=.d (cP.enc x6)) [0,5,24,27,28,32] (ax.cN hx)<|bI h λi7 hp_i7 h=>aa.nG x6 (λp=>(sp 148 [(0,.d (.ptr p0 0)),(5,qA p1),(24,vB false),(27,vB true),(28,nH p1),(32,.d (cP.enc p))] H)) κ hp_i7<|bI h λr8 hr h=>aa.g (ls:=[]) (iw hr)<|aa.t 3<|aa.E<|SW.b h (λh=>SW.t 1<|SW.ret<|ag<|iI h▸E0) (λh=>SW.skip<|JQ [] h)) λh=>aa.t 9<|aa.E<|SW.N<|SW.skip<|JQ [] h
def bL(fuel:Nat)(p0:Nat)(p1:Entry)(p2:Entry)(H:Hp):Option (Bool):=
 (aR cP.cell H p0 0).bind λx1=>
 x1.bind λi2=>
 (aR cj.cells H i2 0).bind λx3=>
 (j6 fuel x3 p1 p2).bind λr4=>
 bif (decide (r4<0))then
  (aR cP.cell H p0 0).bind λx5=>
  x5.bind λi6=>
  (aR (cI .i64).cell H i6 2).bind λx7=>
  bif (x7 !=1)then
   some true
  else
   (aR cP.cell H p0 0).bind λx8=>
   x8.bind λi9=>
   (aR cj.cells H i9 0).bind λx10=>
   (mL fuel x10 p1.Row p2.Row).bind λr11=>
   some (r11 !=0)
 else
  some false
theorem ju(h:bL fuel p0 p1 p2 H=some r):SC Tryz.prog true 76 [.d (.ptr p0 0),.d (ab p1),.d (ab p2)] H (vB r) H:=by
 refine SC.lh Tryz.func76 rfl ?_
 unfold bL at h
 exact SW.kk 44 H [(0,.d (.ptr p0 0)),(1,kY p1),(2,kY p2)]<|SW.t 1<|SW.seq<|SW.qq<|aA.t 3<|bI h λx1 hx h=>aA.p (s:=.d (cP.enc x1)) (ax.cN hx)<|bI h λi2 hp_i2 h=>aA.p (s:=.d (.ptr i2 0)) (ax.dS hp_i2)<|aA.t 1<|bI h λx3 hx h=>aA.p (s:=.d (.agg [.list 1 (List.map (D.int .i64) x3.aq),.list 1 (List.map D.bool x3.Down),.int .i64 x3.cW])) (ax.cN hx)<|aA.t 2<|bI h λr4 hr h=>aA.d (nR hr)<|aA.s [] [0,4,5,18] 2<|aA.b2 (λb=>(sp 44 [(0,.d (.ptr p0 0)),(4,jQ p1),(5,jQ p2),(18,vB b)] H)) h (λh=>aA.t 3<|bI h λx5 hx h=>aA.p (s:=.d (cP.enc x5)) (ax.cN hx)<|bI h λi6 hp_i6 h=>aA.p (s:=.d (.ptr i6 0)) (ax.dS hp_i6)<|aA.t 2<|bI h λx7 hx h=>aA.p (s:=vI x7) (ax.cN hx)<|aA.s [] [0,4,5,18,28] 2<|aA.b2 (λb=>(sp 44 [(0,.d (.ptr p0 0)),(4,jQ p1),(5,jQ p2),(18,vB true),(28,vB b)] H)) h (λh=>aA.t 16<|aA.D<|af<|SW.ret<|iI h▸E0) λh=>aA.t 3<|bI h λx8 hx h=>aA.p (s:=.d (cP.enc x8)) (ax.cN hx)<|bI h λi9 hp_i9 h=>aA.p (s:=.d (.ptr i9 0)) (ax.dS hp_i9)<|aA.t 1<|bI h λx10 hx h=>aA.p (s:=.d (.agg [.list 1 (List.map (D.int .i64) x10.aq),.list 1 (List.map D.bool x10.Down),.int .i64 x10.cW])) (ax.cN hx)<|aA.t 4<|bI h λr11 hr h=>aA.d (lF hr)<|aA.t 4<|aA.D<|af<|SW.ret<|iI h▸E0) λh=>aA.t 26<|aA.D<|af<|SW.ret<|iI h▸E0
def cO(fuel:Nat)(x7:Node)(q30:(Hp×Nat))(y31:(Option Entry)×(Option Entry)×Int×(List Entry)×(List Int)×Int×Hp):Option (((Option Entry)×(Option Entry)×Int×(List Entry)×(List Int)×Int×Hp)⊕((Option Entry)×(Option Entry)×Int×(List Entry)×(List Int)×Hp)):=
 bif (decide (y31.2.2.2.2.2.1<(x7.Entries.length:Int)))then
  (idx x7.Entries y31.2.2.2.2.2.1).bind λx32=>
  (cw 3 ay y31.2.2.2.2.2.2 q30.2 0).bind λq33=>
  (vW fuel x32).bind λr35=>
  dx (decide ((q33.1++[r35]).length<=room))<|
  (bT 3 ay q33.2 q30.2 0 (q33.1++[r35])).bind λH37=>
  some (.inl (y31.1,y31.2.1,y31.2.2.1,y31.2.2.2.1,y31.2.2.2.2.1,(IntKind.wrap .i64 (y31.2.2.2.2.2.1+1)),H37))
 else
  some (.inr (y31.1,y31.2.1,y31.2.2.1,y31.2.2.2.1,y31.2.2.2.2.1,y31.2.2.2.2.2.2))
def bA(fuel:Nat)(rc:(Nat->Int->kZ->Hp->Option (((Option Nat))×Hp)))(p0:Nat)(x1:Int)(x7:Node)(j8:Int×Bool)(q30:(Hp×Nat))(v39:(Option Entry)×(Option Entry)×Int×(List Entry)×(List Int)×Hp)(y40:(Option Entry)×(Option Entry)×Int×(List Entry)×(List Int)×Int×Hp):Option (((Option Entry)×(Option Entry)×Int×(List Entry)×(List Int)×Int×Hp)⊕((Hp)⊕((((Option Nat))×Hp)))):=
 bif (decide (y40.2.2.2.2.2.1<(v39.2.2.2.2.1.length:Int)))then
  (idx v39.2.2.2.2.1 y40.2.2.2.2.2.1).bind λx41=>
  aP (λ(j42:Bool)=>
   bif j42 then
    (cH (cI .i64) y40.2.2.2.2.2.2 p0 4 x1).bind λH46=>
    some (.inr (.inr (none,H46)))
   else
    aP (λ(j47:(Option Entry))=>
     aP (λ(j50:(Option Entry))=>
      (rc p0 (IntKind.wrap .i64 (j8.1 - 1)) (⟨j47,j50⟩:kZ) y40.2.2.2.2.2.2).bind λr53=>
      (Option.elim r53.1
       (some (.inr (.inr (none,r53.2))))
      (λi54=>
       (cw 1 cP r53.2 q30.2 1).bind λq55=>
       dx (decide ((q55.1++[(some i54)]).length<=room))<|
       (bT 1 cP q55.2 q30.2 1 (q55.1++[(some i54)])).bind λH56=>
       some (.inl (y40.1,y40.2.1,y40.2.2.1,y40.2.2.2.1,y40.2.2.2.2.1,(IntKind.wrap .i64 (y40.2.2.2.2.2.1+1)),H56))))) λjp51=>
     bif (decide (y40.2.2.2.2.2.1<(x7.Entries.length:Int)))then
      (idx y40.2.2.2.1 y40.2.2.2.2.2.1).bind λx52=>
      jp51 (some x52)
     else
      jp51 y40.2.1) λjp48=>
    bif (decide (y40.2.2.2.2.2.1>0))then
     (idx y40.2.2.2.1 (IntKind.wrap .i64 (y40.2.2.2.2.2.1 - 1))).bind λx49=>
     jp48 (some x49)
    else
     jp48 y40.1) λjp43=>
  (aR (cI .i64).cell y40.2.2.2.2.2.2 p0 2).bind λx44=>
  bif (x41 !=x44)then
   jp43 true
  else
   (aW 3 xz y40.2.2.2.2.2.2 p0 1).bind λx45=>
   jp43 (decide (x41>=(x45.length:Int)))
 else
  some (.inr (.inl y40.2.2.2.2.2.2))
def dQ(fuel:Nat)(rc:(Nat->Int->kZ->Hp->Option (((Option Nat))×Hp)))(p0:Nat)(p1:Int)(p2:kZ)(H:Hp):Option (((Option Nat))×Hp):=
 (aR (cI .i64).cell H p0 2).bind λx1=>
 (aW 3 xz H p0 1).bind λx2=>
 bif (decide (x1>=(x2.length:Int)))then
  (cH (cI .i64) H p0 4 x1).bind λH3=>
  some (none,H3)
 else
  (aR (cI .i64).cell H p0 2).bind λx4=>
  (cH (cI .i64) H p0 2 (IntKind.wrap .i64 (x4+1))).bind λH5=>
  (aW 3 xz H5 p0 1).bind λx6=>
  (idx x6 x1).bind λx7=>
  aP (λ(j8:Int×Bool)=>
   aP (λ(j10:Int)=>
    aP (λ(j12:Bool×Hp)=>
     bif j12.1 then
      (cH (cI .i64) j12.2 p0 4 x1).bind λH15=>
      some (none,H15)
     else
      aP (λ(j16:(Option Entry)×(Option Entry))=>
       (kW j12.2 (.cells [.own 3 (List.map ab ([]:List Entry)),.own 1 (List.map cP.enc ([]:List (Option Nat)))])).bind λq30=>
       (iter (cO fuel x7 q30) fuel (j16.1,j16.2,x7.Level,x7.Entries,x7.Kids,0,q30.1)).bind λv39=>
       (iter (bA fuel rc p0 x1 x7 j8 q30 v39) fuel (v39.1,v39.2.1,v39.2.2.1,v39.2.2.2.1,v39.2.2.2.2.1,0,v39.2.2.2.2.2)).bind (Sum.elim (λv58=>
        some ((some q30.2),v58)) (λr59=>
        some r59))) λjp17=>
      bif (decide ((x7.Entries.length:Int)>0))then
       (Option.elim p2.low
        ((Option.elim p2.high
         (jp17 (none,none))
        (λx19=>
         (idx x7.Entries (IntKind.wrap .i64 ((x7.Entries.length:Int) - 1))).bind λx20=>
         (bL fuel p0 x20 x19 j12.2).bind λr21=>
         bif (!r21)then
          (cH (cI .i64) j12.2 p0 4 x1).bind λH22=>
          some (none,H22)
         else
          jp17 (none,(some x19)))))
       (λx18=>
        (idx x7.Entries 0).bind λx23=>
        (bL fuel p0 x18 x23 j12.2).bind λr24=>
        bif (!r24)then
         (cH (cI .i64) j12.2 p0 4 x1).bind λH25=>
         some (none,H25)
        else
         (Option.elim p2.high
          (jp17 ((some x18),none))
         (λx26=>
          (idx x7.Entries (IntKind.wrap .i64 ((x7.Entries.length:Int) - 1))).bind λx27=>
          (bL fuel p0 x27 x26 j12.2).bind λr28=>
          bif (!r28)then
           (cH (cI .i64) j12.2 p0 4 x1).bind λH29=>
           some (none,H29)
          else
           jp17 ((some x18),(some x26))))))
      else
       jp17 (p2.low,p2.high)) λjp13=>
    (cm fuel p0 x7 j8.2 p2 H5).bind λr14=>
    bif (((!r14.1)||(decide (x7.Level<0)))||(x7.Level !=j8.1))then
     jp13 (true,r14.2)
    else
     jp13 ((((x7.Kids.length:Int) !=j10)||(j10==1)),r14.2)) λjp11=>
   bif (decide (x7.Level>0))then
    jp11 (IntKind.wrap .i64 ((x7.Entries.length:Int)+1))
   else
    jp11 0) λjp9=>
  bif (x1==0)then
   jp9 (x7.Level,true)
  else
   jp9 (p1,false)
def cF:Nat->(Nat->Int->kZ->Hp->Option (((Option Nat))×Hp))
 |0=>λ_ _ _ _=>none
 |fuel+1=>dQ fuel (cF fuel)
def Ob(x0:Entry)(x1:kZ):SV:=.box [.d (.dV [.list 3 (List.map ah x0.Row),.int .i64 x0.Key,.int .i64 x0.Number]),.d (cg ab x1.high)]
def Lx(x0:(Option Entry)×(Option Entry)×Int×(List Entry)×(List Int)×Int×Hp):SV:=.box [.d (cg ab x0.1),.d (cg ab x0.2.1)]
def Lw(x0:(Option Entry)×(Option Entry)×Int×(List Entry)×(List Int)×Int×Hp):SV:=.box [vI x0.2.2.1,.d (.list 3 (List.map ab x0.2.2.2.1)),.d (.list 1 (List.map (D.int .i64) x0.2.2.2.2.1))]
def FF(x0:(Option Entry)×(Option Entry)×Int×(List Entry)×(List Int)×Hp):SV:=.d (.list 1 (List.map (D.int .i64) x0.2.2.2.2.1))
def FE(x0:(Option Entry)×(Option Entry)×Int×(List Entry)×(List Int)×Hp):SV:=vI (x0.2.2.2.2.1.length:Int)
def K3:=λa0 a1 a2 a3 a4 a5 a6 a7 a8 a9 (t:SL)=>((0,.d (.ptr a0 0))::(1,vI a1)::(5,Lx a2)::(7,vI a3)::(9,Lw a4)::(10,nH a5)::(12,.d (.ptr a6 0))::(140,FG a7)::(141,nH a8)::(142,vI a9)::t:SL)
def K31:=λa0 a1 a2 a3 a4 a5 a6 (t:SL)=>((0,.d (.ptr a0 0))::(1,vI a1)::(5,Lx a2)::(7,vI a3)::(9,Lw a4)::(10,nH a5)::(12,.d (.ptr a6 0))::t:SL)
def K32:=λa0 a1 a2 a3 a4 a5 a6 a7 a8 a9 (t:SL)=>((0,.d (.ptr a0 0))::(1,vI a1)::(5,.box [.d (cg ab a2),.d (cg ab a3)])::(7,vI a4)::(9,.box [vI a5,.d (.list 3 (List.map ab a6)),.d (.list 1 (List.map (D.int .i64) a7))])::(10,nH a8)::(12,.d (.ptr a9 0))::t:SL)
def K34:=λa0 a1 a2 a3 a4 a5 (t:SL)=>((0,.d (.ptr a0 0))::(1,vI a1)::(5,JK a2)::(7,vI a3)::(9,qA a4)::(10,nH a5)::t:SL)
def K54:=λa0 a1 a2 a3 a4 a5 a6 a7 a8 a9 a10 (t:SL)=>((0,.d (.ptr a0 0))::(1,vI a1)::(5,Lx a2)::(7,vI a3)::(9,Lw a4)::(10,nH a5)::(12,.d (.ptr a6 0))::(140,FG a7)::(141,nH a8)::(142,vI a9)::(146,.d (.ptr a10 0))::t:SL)
theorem qY{fuel:Nat}{rc:(Nat->Int->kZ->Hp->Option (((Option Nat))×Hp))}(ih: ∀{p0:Nat} {p1:Int} {p2:kZ} {H:Hp} {r:((Option Nat))×Hp},rc p0 p1 p2 H=some r->SC Tryz.prog false 47 [.d (.ptr p0 0),vI p1,.d (vC p2)] H (.d (cP.enc r.1)) r.2){p0:Nat}{p1:Int}{p2:kZ}{H:Hp}{r:((Option Nat))×Hp}(h:dQ fuel rc p0 p1 p2 H=some r):SC Tryz.prog false 47 [.d (.ptr p0 0),vI p1,.d (vC p2)] H (.d (cP.enc r.1)) r.2:=by
 refine SC.fc Tryz.func47 rfl ?_
 unfold dQ at h
 exact SW.kk 223 H (K10 p0 p1 [(2,M9 p2)])<|SW.t 1<|SW.S<|aa.t 3<|bI h λx1 hx h=>aa.p (s:=vI x1) (ax.cN hx)<|aa.t 1<|aa.E<|SW.t 1<|SW.seq<|SW.S<|aa.t 4<|bI h λx2 hx h=>aa.p (ax.gK hx)<|aa.p (ax.len (enc:=bn) (xs:=x2))<|aa.t 1<|aa.E<|SW.b h (λh=>SW.S<|aa.t 4<|bI h λH3 hx h=>aa.hs hx<|aa.E<|SW.t 1<|SW.ret<|ag<|iI h▸E0) (λh=>SW.skip<|af<|SW.S<|aa.t 3<|bI h λx4 hx h=>aa.p (s:=vI x4) (ax.cN hx)<|aa.t 3<|bI h λH5 hx h=>aa.hs hx<|aa.E<|SW.S<|aa.t 3<|bI h λx6 hx h=>aa.p (ax.gK hx)<|aa.t 1<|bI h λx7 hx h=>aa.p (s:=aI (some (.an p0 1)) (Go.Sh.D.cells (bn x7))) (ax.index (n:=3) hx)<|aa.t 3<|aa.E<|SW.J 223 H5 [0,1,5,7,8,9] (λ(j8:Int×Bool)=>(K10 p0 j8.1 [(5,JK p2),(7,vI x1),(8,vB j8.2),(9,qA x7)])) h (λj8 h=>SW.S<|aa.t 2<|aa.p (ax.len (enc:=ab) (xs:=x7.Entries))<|aa.t 1<|aa.E<|SW.t 1<|SW.J 223 H5 [0,1,5,7,8,9,10,11] (λ(j10:Int)=>(K10 p0 j8.1 [(5,JK p2),(7,vI x1),(8,vB j8.2),(9,qA x7),(10,nH x7),(11,vI j10)])) h (λj10 h=>SW.seq<|SW.JH 223 [0,1,5,7,9,10,88] (λ(j12:Bool×Hp)=>(K34 p0 j8.1 p2 x1 x7 x7 [(88,vB j12.1)])) (λ(j12:Bool×Hp)=>j12.2) h (λj12 h=>SW.b h (λh=>SW.S<|aa.t 4<|bI h λH15 hx h=>aa.hs hx<|aa.E<|SW.t 1<|SW.ret<|ag<|iI h▸E0) (λh=>SW.skip<|af<|SW.J 223 j12.2 [0,1,5,7,9,10] (λ(j16:(Option Entry)×(Option Entry))=>(K10 p0 j8.1 [(5,.box [.d (cg ab j16.1),.d (cg ab j16.2)]),(7,vI x1),(9,qA x7),(10,nH x7)])) h (λj16 h=>SW.S<|aa.t 1<|bI h λq30 hq h=>aa.nw [(0,3,true),(1,1,true)] hq<|aa.t 1<|aa.E<|SW.seq<|SW.S<|aa.t 2<|aa.p (ax.len (enc:=ab) (xs:=x7.Entries))<|aa.t 1<|aa.E<|SW.block<|bI h λv39 hit h=>SW.Fq 223 [0,1,5,7,9,10,12,140,141,142] (λy31=>(K32 p0 j8.1 y31.1 y31.2.1 x1 y31.2.2.1 y31.2.2.2.1 y31.2.2.2.2.1 x7 q30.2 [(140,FG x7),(141,nH x7),(142,vI y31.2.2.2.2.2.1)])) (λy31=>y31.2.2.2.2.2.2) (λv39 e s=>(e=.exit 0/\s=(sp 223 (K32 p0 j8.1 v39.1 v39.2.1 x1 v39.2.2.1 v39.2.2.2.1 v39.2.2.2.2.1 x7 q30.2 []) v39.2.2.2.2.2))) hit κ (λy31 o h=>by
  unfold cO at h;exact SW.t 1<|SW.seq<|SW.b h (λh=>SW.skip<|af<|SW.seq<|SW.block<|SW.S<|bI h λx32 hx h=>aa.p (s:=aI none (Go.Sh.D.cells (ab x32))) (ax.index (n:=3) hx)<|aa.t 3<|aa.E<|bI h λq33 hq33 h=>bI h λr35 hr_7 h=>lj h λhk36 h=>bI h λH37 hx_13 h=>SW.kk 223 y31.2.2.2.2.2.2 (K31 p0 j8.1 y31 x1 y31 x7 q30.2 [(14,jQ x32),(140,FG x7),(141,nH x7),(142,vI y31.2.2.2.2.2.1)])<|SW.gI q30.2 0 λv34=>by
   refine SW.qG 223 H37 (K3 p0 j8.1 y31 x1 y31 x7 q30.2 x7 x7 y31.2.2.2.2.2.1 []) [0,1,2,3,4,6] 8 95 κ κ κ (λX hX=>?_) (aB<|af<|SW.al<|aa.t 2<|aa.D<|LQ h)
   .have c16383:X 0 16383 (sp 223 (K3 p0 j8.1 y31 x1 y31 x7 q30.2 x7 x7 y31.2.2.2.2.2.1 []) H37):=by subst hX;exact OX.fin κ
    have c8191:X 1 8191 (sp 223 (K3 p0 j8.1 y31 x1 y31 x7 q30.2 x7 x7 y31.2.2.2.2.2.1 [(155,xZ q33 r35),(158,.d (.ptr q30.2 0))]) q33.2):=by
     subst hX
     refine OX.step (i0:=13) (is:=[]) κ κ ⟨?_,trivial⟩
     .refine aa.NR (c:=ay) (n':=3) (s:=155) (xs:=(q33.1++[r35])) 223 [0,1,5,7,9,10,12,140,141,142] (K3 p0 j8.1 y31 x1 y31 x7 q30.2 x7 x7 y31.2.2.2.2.2.1 []) hx_13 κ κ<|aa.D ?_
      exact c16383
    have c4095:X 2 4095 (sp 223 (K3 p0 j8.1 y31 x1 y31 x7 q30.2 x7 x7 y31.2.2.2.2.2.1 [(155,xZ q33 r35),(157,.d (.ptr q30.2 0))]) q33.2):=by
     subst hX
     refine OX.step (i0:=12) (is:=[]) κ κ ⟨?_,trivial⟩
     .refine aa.sg 223 q33.2 [151] [0,1,5,7,9,10,12,140,141,142,155,158] 1 (K3 p0 j8.1 y31 x1 y31 x7 q30.2 x7 x7 y31.2.2.2.2.2.1 [(155,xZ q33 r35),(158,.d (.ptr q30.2 0))]) κ<|aa.D ?_
      exact c8191
    have c2047:X 3 2047 (sp 223 (K3 p0 j8.1 y31 x1 y31 x7 q30.2 x7 x7 y31.2.2.2.2.2.1 [(155,xZ q33 r35),(156,.d (.ptr q30.2 0))]) q33.2):=by
     subst hX
     refine OX.step (i0:=11) (is:=[]) κ κ ⟨?_,trivial⟩
     .refine aa.sg 223 q33.2 [151] [0,1,5,7,9,10,12,140,141,142,155,157] 1 (K3 p0 j8.1 y31 x1 y31 x7 q30.2 x7 x7 y31.2.2.2.2.2.1 [(155,xZ q33 r35),(157,.d (.ptr q30.2 0))]) κ<|aa.D ?_
      exact c4095
    have c1023:X 4 1023 (sp 223 (K54 p0 j8.1 y31 x1 y31 x7 q30.2 x7 x7 y31.2.2.2.2.2.1 q30.2 [(155,xZ q33 r35)]) q33.2):=by
     subst hX
     refine OX.step (i0:=10) (is:=[]) κ κ ⟨?_,trivial⟩
     .refine aa.sg 223 q33.2 [151] [0,1,5,7,9,10,12,140,141,142,155,156] 1 (K3 p0 j8.1 y31 x1 y31 x7 q30.2 x7 x7 y31.2.2.2.2.2.1 [(155,xZ q33 r35),(156,.d (.ptr q30.2 0))]) κ<|aa.D ?_
      exact c2047
    have c511:X 5 511 (sp 223 (K54 p0 j8.1 y31 x1 y31 x7 q30.2 x7 x7 y31.2.2.2.2.2.1 q30.2 [(151,.d (.raw v34)),(154,ui r35)]) (cK y31.2.2.2.2.2.2 q30.2 0 v34)):=by
     subst hX
     refine OX.step (i0:=9) (is:=[]) κ κ ⟨?_,trivial⟩
     .refine aa.Km (c:=ay) (n':=3) (t:=151) [0,1,5,7,9,10,12,140,141,142,146,151,154] (K54 p0 j8.1 y31 x1 y31 x7 q30.2 x7 x7 y31.2.2.2.2.2.1 q30.2 [(151,B5 q33),(154,ui r35)]) hq33 κ κ κ<|aa.app 223 q33.2 (s:=151) (d:=155) (w:=3) [0,1,5,7,9,10,12,140,141,142,146,155] (zs:=List.map ab (q33.1++[r35])) (K54 p0 j8.1 y31 x1 y31 x7 q30.2 x7 x7 y31.2.2.2.2.2.1 q30.2 [(155,xZ q33 r35)]) (ys:=(List.map ab [r35])) κ (aS) (bx hk36) κ<|aa.D ?_
      exact c1023
    have c255:X 6 255 (sp 223 (K54 p0 j8.1 y31 x1 y31 x7 q30.2 x7 x7 y31.2.2.2.2.2.1 q30.2 [(151,.d (.raw v34)),(153,kY r35)]) (cK y31.2.2.2.2.2.2 q30.2 0 v34)):=by
     subst hX
     refine OX.step (i0:=8) (is:=[]) κ κ ⟨?_,trivial⟩
     .refine aa.sg 223 (cK y31.2.2.2.2.2.2 q30.2 0 v34) [151] [0,1,5,7,9,10,12,140,141,142,146,151,154] 1 (K54 p0 j8.1 y31 x1 y31 x7 q30.2 x7 x7 y31.2.2.2.2.2.1 q30.2 [(151,.d (.raw v34)),(154,ui r35)]) κ<|aa.D ?_
      exact c511
    have c127:X 7 127 (sp 223 (K54 p0 j8.1 y31 x1 y31 x7 q30.2 x7 x7 y31.2.2.2.2.2.1 q30.2 [(151,.d (.raw v34)),(152,kY x32)]) (cK y31.2.2.2.2.2.2 q30.2 0 v34)):=by
     subst hX
     refine OX.step (i0:=7) (is:=[]) κ κ ⟨?_,trivial⟩
     .refine aa.cl 223 (cK y31.2.2.2.2.2.2 q30.2 0 v34) (d:=some 153) (ls:=[]) (gs:=[]) [] [0,1,5,7,9,10,12,140,141,142,146,151,153] (K54 p0 j8.1 y31 x1 y31 x7 q30.2 x7 x7 y31.2.2.2.2.2.1 q30.2 [(151,.d (.raw v34)),(153,.d (.agg [.list 3 (List.map ah r35.Row),.int .i64 r35.Key,.int .i64 r35.Number]))]) (lS hr_7) κ κ κ<|aa.D ?_
      exact c255
    have c479:X 6 479 (sp 223 (K54 p0 j8.1 y31 x1 y31 x7 q30.2 x7 x7 y31.2.2.2.2.2.1 q30.2 [(150,.d (.ptr q30.2 0)),(154,ui r35)]) (cK y31.2.2.2.2.2.2 q30.2 0 v34)):=by
     subst hX
     refine OX.step (i0:=5) (is:=[]) κ κ ⟨?_,trivial⟩
     .refine aa.on 223 (cK y31.2.2.2.2.2.2 q30.2 0 v34) (d:=some 151) (s:=.d (.raw v34)) [0,1,5,7,9,10,12,140,141,142,146,151,154] (K54 p0 j8.1 y31 x1 y31 x7 q30.2 x7 x7 y31.2.2.2.2.2.1 q30.2 [(151,.d (.raw v34)),(154,ui r35)]) (ax.Fl (c:=ay) (n':=3) hq33 κ) κ<|aa.D ?_
      exact c511
    have c223:X 7 223 (sp 223 (K54 p0 j8.1 y31 x1 y31 x7 q30.2 x7 x7 y31.2.2.2.2.2.1 q30.2 [(150,.d (.ptr q30.2 0)),(153,kY r35)]) (cK y31.2.2.2.2.2.2 q30.2 0 v34)):=by
     subst hX
     refine OX.step (i0:=5) (is:=[8]) κ κ ⟨?_,?_,trivial⟩
     .refine aa.O (d:=some 151) (s:=.d (.raw v34)) (K54 p0 j8.1 y31 x1 y31 x7 q30.2 x7 x7 y31.2.2.2.2.2.1 q30.2 [(151,.d (.raw v34)),(153,kY r35)]) (ax.Fl (c:=ay) (n':=3) hq33 κ)<|aa.D ?_
      exact c255
     .refine aa.sg 223 (cK y31.2.2.2.2.2.2 q30.2 0 v34) [151] [0,1,5,7,9,10,12,140,141,142,146,150,154] 1 (K54 p0 j8.1 y31 x1 y31 x7 q30.2 x7 x7 y31.2.2.2.2.2.1 q30.2 [(150,.d (.ptr q30.2 0)),(154,ui r35)]) κ<|aa.D ?_
      exact c479
    have c95:X 8 95 (sp 223 (K54 p0 j8.1 y31 x1 y31 x7 q30.2 x7 x7 y31.2.2.2.2.2.1 q30.2 [(150,.d (.ptr q30.2 0)),(152,kY x32)]) (cK y31.2.2.2.2.2.2 q30.2 0 v34)):=by
     subst hX
     refine OX.step (i0:=5) (is:=[7]) κ κ ⟨?_,?_,trivial⟩
     .refine aa.O (d:=some 151) (s:=.d (.raw v34)) (K54 p0 j8.1 y31 x1 y31 x7 q30.2 x7 x7 y31.2.2.2.2.2.1 q30.2 [(151,.d (.raw v34)),(152,kY x32)]) (ax.Fl (c:=ay) (n':=3) hq33 κ)<|aa.D ?_
      exact c127
     .refine aa.C0 (some 153) (K54 p0 j8.1 y31 x1 y31 x7 q30.2 x7 x7 y31.2.2.2.2.2.1 q30.2 [(150,.d (.ptr q30.2 0)),(153,kY r35)]) (lS hr_7)<|aa.D ?_
      exact c223
    refine au.t<|au.t<|au.t<|au.t<|au.t<|au.sg 223 (cK y31.2.2.2.2.2.2 q30.2 0 v34) [0,1,5,7,9,10,12,140,141,142,146,150,152] (K54 p0 j8.1 y31 x1 y31 x7 q30.2 x7 x7 y31.2.2.2.2.2.1 q30.2 [(150,.d (.ptr q30.2 0)),(152,kY x32)]) κ<|au.D ?_
    exact c95) (λh=>SW.kk 223 y31.2.2.2.2.2.2 (K31 p0 j8.1 y31 x1 y31 x7 q30.2 [])<|SW.exit<|aG<|aG<|LR h ⟨rfl,rfl⟩)) (by rintro _ _ ⟨rfl,rfl⟩;exact aM<|af<|SW.seq<|SW.S<|aa.t 2<|aa.p (ax.len (enc:=(D.int .i64)) (xs:=v39.2.2.2.2.1))<|aa.t 1<|aa.E<|SW.block<|bI h λz57 hit h=>SW.Fq 223 [0,1,5,7,9,10,12,161,162,163] (λy40=>(K32 p0 j8.1 y40.1 y40.2.1 x1 y40.2.2.1 y40.2.2.2.1 y40.2.2.2.2.1 x7 q30.2 [(161,FF v39),(162,FE v39),(163,vI y40.2.2.2.2.2.1)])) (λy40=>y40.2.2.2.2.2.2) (λb e s=>((∃v58,b=(.inl v58)/\(e=.exit 2/\s=(sp 223 [(12,.d (.ptr q30.2 0))] v58)))\/(∃r59,b=(.inr r59)/\(e=.ret/\bW Tryz.prog Tryz.f47.results.toList r59.2 (.d (cP.enc r59.1)) .ret s)))) hit κ (λy40 o h=>by unfold bA at h;exact SW.t 1<|SW.seq<|SW.b h (λh=>SW.skip<|af<|SW.seq<|SW.block<|SW.S<|aa.t 1<|bI h λx41 hx h=>aa.p (s:=aI none (Go.Sh.D.cells ((D.int .i64) x41))) (ax.index (n:=1) hx)<|aa.t 3<|aa.E<|SW.seq<|SW.J 223 y40.2.2.2.2.2.2 [0,1,5,7,9,10,12,15,161,162,163,182] (λ(j42:Bool)=>(K31 p0 j8.1 y40 x1 y40 x7 q30.2 [(15,vI y40.2.2.2.2.2.1),(161,FF v39),(162,FE v39),(163,vI y40.2.2.2.2.2.1),(182,vB j42)])) h (λj42 h=>SW.b h (λh=>SW.S<|aa.t 4<|bI h λH46 hx h=>aa.hs hx<|aa.E<|SW.t 1<|SW.ret<|ag<|az<|ag<|ag<|LR h (.inr (⟨(none,H46),rfl,rfl,bW.ret [] κ κ⟩))) (λh=>SW.skip<|af<|SW.t 1<|SW.J 223 y40.2.2.2.2.2.2 [0,1,5,7,9,10,12,15,17,161,162,163] (λ(j47:(Option Entry))=>(K31 p0 j8.1 y40 x1 y40 x7 q30.2 [(15,vI y40.2.2.2.2.2.1),(17,.box [.d (cg ab j47),.d (cg ab y40.2.1)]),(161,FF v39),(162,FE v39),(163,vI y40.2.2.2.2.2.1)])) h (λj47 h=>SW.J 223 y40.2.2.2.2.2.2 [0,1,5,7,9,10,12,17,161,162,163] (λ(j50:(Option Entry))=>(K31 p0 j8.1 y40 x1 y40 x7 q30.2 [(17,.box [.d (cg ab j47),.d (cg ab j50)]),(161,FF v39),(162,FE v39),(163,vI y40.2.2.2.2.2.1)])) h (λj50 h=>SW.S<|aa.t 4<|bI h λr53 hr h=>aa.f (ih hr)<|aa.t 1<|aa.E<|SW.seq<|SW.S<|aa.s [] [0,1,5,7,9,10,12,18,161,162,163,209] 1<|aa.oK r53.1 (λp=>(sp 223 (K31 p0 j8.1 y40 x1 y40 x7 q30.2 [(18,.d (cP.enc p)),(161,FF v39),(162,FE v39),(163,vI y40.2.2.2.2.2.1),(209,.d (cP.enc p))]) r53.2)) κ (λhp=>by rw[hp]at h;exact have h:=ml h;aa.t 1<|aa.E<|SW.jL κ<|SW.t 1<|SW.ret<|ag<|az<|ag<|ag<|LR h (.inr (⟨(none,r53.2),rfl,rfl,bW.ret [] κ κ⟩))) (λi54 hp=>by rw[hp]at h;exact have h:=mj h;aa.t 1<|aa.E<|SW.N<|SW.skip<|af<|SW.al<|aa.ts [215] 4<|bI h λq55 hq h=>aa.tk hq<|aa.ts [215] 2<|lj h λhk h=>aa.ap 215 1 (List.map cP.enc (q55.1++[(some i54)])) (aS) (bx hk)<|aa.ts [215] 2<|bI h λH56 hx h=>aa.gv 218 hx<|aa.D<|aB<|af<|SW.al<|aa.t 2<|aa.D<|LQ h)) λjp51 h=>SW.t 1<|SW.b h (λh=>SW.al<|aa.t 3<|bI h λx52 hx h=>aa.p (s:=aI none (Go.Sh.D.cells (ab x52))) (ax.index (n:=3) hx)<|aa.t 2<|aa.D<|JQ [] h) (λh=>SW.skip<|JQ [] h)) λjp48 h=>SW.t 1<|SW.b h (λh=>SW.al<|aa.t 4<|bI h λx49 hx h=>aa.p (s:=aI none (Go.Sh.D.cells (ab x49))) (ax.index (n:=3) hx)<|aa.t 2<|aa.D<|JQ [] h) (λh=>SW.skip<|JQ [] h))) λjp43 h=>SW.al<|aa.t 4<|bI h λx44 hx h=>aa.p (s:=vI x44) (ax.cN hx)<|aa.s [] [0,1,5,7,9,10,12,15,16,161,162,163,174] 2<|aa.b2 (λb=>(sp 223 (K31 p0 j8.1 y40 x1 y40 x7 q30.2 [(15,vI y40.2.2.2.2.2.1),(16,vI x41),(161,FF v39),(162,FE v39),(163,vI y40.2.2.2.2.2.1),(174,vB b)]) y40.2.2.2.2.2.2)) h (λh=>aa.t 8<|aa.D<|JQ [] h) λh=>aa.t 4<|bI h λx45 hx h=>aa.p (ax.gK hx)<|aa.p (ax.len (enc:=bn) (xs:=x45))<|aa.t 2<|aa.D<|JQ [] h) (λh=>SW.kk 223 y40.2.2.2.2.2.2 [(12,.d (.ptr q30.2 0))]<|SW.exit<|aG<|aG<|LR h (.inl ⟨y40.2.2.2.2.2.2,rfl,rfl,rfl⟩))) (by rintro _ _ (⟨v58,rfl,rfl,rfl⟩|⟨r59,rfl,rfl,hE⟩);exact have h:=gd h;aM<|af<|SW.t 1<|SW.ret<|iI h▸E0;exact have h:=gb h;az<|ag<|(by cases h;exact hE)))) λjp17 h=>SW.seq<|SW.qq<|aA.s [] [0,1,5,7,9,10,95] 3<|aA.b2 (λb=>(sp 223 (K34 p0 j8.1 p2 x1 x7 x7 [(95,vB b)]) j12.2)) h (λh=>aA.s [] [0,1,5,7,9,10,95,97] 2<|aA.oK p2.low (λp=>(sp 223 (K10 p0 j8.1 [(5,.box [.d (cg ab p),.d (cg ab p2.high)]),(7,vI x1),(9,qA x7),(10,nH x7),(95,vB true),(97,.d (cg ab p))]) j12.2)) κ (λhp_x18=>by rw[hp_x18]at h;exact have h:=ml h;aA.s [] [0,1,5,7,9,10,95,112,114] 17<|aA.oK p2.high (λp=>(sp 223 (K10 p0 j8.1 [(5,.box [.d (.dZ),.d (cg ab p)]),(7,vI x1),(9,qA x7),(10,nH x7),(95,vB true),(112,vB false),(114,.d (cg ab p))]) j12.2)) κ (λhp_x19=>by rw[hp_x19]at h;exact have h:=ml h;aA.t 18<|aA.D<|af<|SW.N<|SW.skip<|JQ [] h) (λx19 hp_x19=>by rw[hp_x19]at h;exact have h:=mj h;aA.t 7<|bI h λx20 hx h=>aA.p (s:=aI none (Go.Sh.D.cells (ab x20))) (ax.index (n:=3) hx)<|aA.t 5<|bI h λr21 hr h=>aA.g (ls:=[]) (ju hr)<|aA.t 4<|aA.D<|af<|SW.b h (λh=>SW.S<|aa.t 4<|bI h λH22 hx h=>aa.hs hx<|aa.E<|SW.t 1<|SW.ret<|ag<|iI h▸E0) (λh=>SW.skip<|JQ [] h))) (λx18 hp_x18=>by rw[hp_x18]at h;exact have h:=mj h;aA.t 9<|bI h λx23 hx h=>aA.p (s:=aI none (Go.Sh.D.cells (ab x23))) (ax.index (n:=3) hx)<|aA.t 1<|bI h λr24 hr h=>aA.g (ls:=[]) (ju hr)<|aA.s [] [0,1,5,7,9,10,95,112] 3<|aA.b2 (λb=>(sp 223 (K10 p0 j8.1 [(5,Ob x18 p2),(7,vI x1),(9,qA x7),(10,nH x7),(95,vB true),(112,vB b)]) j12.2)) h (λh=>aA.t 20<|aA.D<|af<|SW.jL κ<|SW.S<|aa.t 4<|bI h λH25 hx h=>aa.hs hx<|aa.E<|SW.t 1<|SW.ret<|ag<|iI h▸E0) λh=>aA.s [] [0,1,5,7,9,10,95,112,114] 2<|aA.oK p2.high (λp=>(sp 223 (K10 p0 j8.1 [(5,.box [.d (.dV [.list 3 (List.map ah x18.Row),.int .i64 x18.Key,.int .i64 x18.Number]),.d (cg ab p)]),(7,vI x1),(9,qA x7),(10,nH x7),(95,vB true),(112,vB false),(114,.d (cg ab p))]) j12.2)) κ (λhp_x26=>by rw[hp_x26]at h;exact have h:=ml h;aA.t 18<|aA.D<|af<|SW.N<|SW.skip<|JQ [] h) (λx26 hp_x26=>by rw[hp_x26]at h;exact have h:=mj h;aA.t 7<|bI h λx27 hx h=>aA.p (s:=aI none (Go.Sh.D.cells (ab x27))) (ax.index (n:=3) hx)<|aA.t 5<|bI h λr28 hr h=>aA.g (ls:=[]) (ju hr)<|aA.t 4<|aA.D<|af<|SW.b h (λh=>SW.S<|aa.t 4<|bI h λH29 hx h=>aa.hs hx<|aa.E<|SW.t 1<|SW.ret<|ag<|iI h▸E0) (λh=>SW.skip<|JQ [] h)))) λh=>aA.t 37<|aA.D<|af<|SW.N<|SW.skip<|JQ [] h)) λjp13 h=>SW.al<|aa.t 4<|bI h λr14 hr h=>aa.f (rQ hr)<|aa.s [] [0,1,5,7,9,10,11,67] 2<|aa.mg 223 r14.2 [0,1,5,7,9,10,11,71] 4 (!r14.1) (λb=>(sp 223 (K34 p0 j8.1 p2 x1 x7 x7 [(11,vI j10),(67,vB b)]) r14.2)) (λb=>(K34 p0 j8.1 p2 x1 x7 x7 [(11,vI j10),(71,vB (b||(decide (x7.Level<0))))])) κ κ κ<|aa.s [] [0,1,5,7,9,10,11,72] 1<|aa.mg 223 r14.2 [0,1,5,7,9,10,11,77] 5 ((!r14.1)||(decide (x7.Level<0))) (λb=>(sp 223 (K34 p0 j8.1 p2 x1 x7 x7 [(11,vI j10),(72,vB b)]) r14.2)) (λb=>(K34 p0 j8.1 p2 x1 x7 x7 [(11,vI j10),(77,vB (b||(x7.Level !=j8.1)))])) κ κ κ<|aa.s [] [0,1,5,7,9,10,11,78] 1<|aa.b2 (λb=>(sp 223 (K34 p0 j8.1 p2 x1 x7 x7 [(11,vI j10),(78,vB b)]) r14.2)) h (λh=>aa.t 10<|aa.D<|JQ [] h) λh=>aa.t 2<|aa.p (ax.len (enc:=(D.int .i64)) (xs:=x7.Kids))<|aa.s [] [0,1,5,7,9,10,11,85] 4<|aa.mg 223 r14.2 [0,1,5,7,9,10,88] 3 ((x7.Kids.length:Int) !=j10) (λb=>(sp 223 (K34 p0 j8.1 p2 x1 x7 x7 [(11,vI j10),(85,vB b)]) r14.2)) (λb=>(K34 p0 j8.1 p2 x1 x7 x7 [(88,vB (b||(j10==1)))])) κ κ κ<|aa.D<|JQ [] h) λjp11 h=>SW.t 1<|SW.b h (λh=>SW.al<|aa.t 3<|aa.D<|JQ [] h) (λh=>SW.skip<|JQ [] h)) λjp9 h=>SW.r 1 [0,1,5,7,8,9,50]<|SW.case (x1==0) (λb=>(sp 223 (K10 p0 p1 [(5,JK p2),(7,vI x1),(8,vB b),(9,qA x7),(50,vB b)]) H5)) κ (λhc=>have h:=eQ hc h;SW.jL κ<|SW.al<|aa.t 3<|aa.D<|JQ [] h) (λhc=>have h:=eR hc h;SW.N<|SW.skip<|JQ [] h))
end
theorem tt{fuel:Nat}: ∀{p0:Nat} {p1:Int} {p2:kZ} {H:Hp} {r:((Option Nat))×Hp},cF fuel p0 p1 p2 H=some r->SC Tryz.prog false 47 [.d (.ptr p0 0),vI p1,.d (vC p2)] H (.d (cP.enc r.1)) r.2:=by
 induction fuel with
 |zero=>intros;rename_i h;exact nomatch (show(none:Option (((Option Nat))×Hp))=some _ from h)
 |succ fuel ih=>exactλh=>qY ih h
def lV(fuel:Nat)(p0:ak)(p1:Int)(p2:Int)(p3:(List Node))(H:Hp):Option (((Option Nat)×Int×Int)×Hp):=
 (ux fuel p0 p1 H).bind λr1=>
 bif (r1.1.2 !=0)then
  some ((none,0,r1.1.2),r1.2)
 else
  bif (decide (p2<0))then
   some ((none,0,7),r1.2)
  else
   r1.1.1.bind λi2=>
   (cH (cI .i64) r1.2 i2 5 p2).bind λH3=>
   (kW H3 (.map [])).bind λq4=>
   r1.1.1.bind λi5=>
   (kW q4.1 (.cells [.d (.ptr i5 0),.d (.list 3 (List.map bn p3)),.d (.int .i64 0),.d (.map q4.2),.d (.int .i64 0)])).bind λq6=>
   (cF fuel q6.2 0 (⟨none,none⟩:kZ) q6.1).bind λr7=>
   aP (λ(j8:(Option Nat)×Bool)=>
    bif j8.2 then
     (aR (cI .i64).cell r7.2 q6.2 4).bind λx11=>
     some ((none,x11,12),r7.2)
    else
     (aR (cI .i64).cell r7.2 q6.2 2).bind λx12=>
     bif (decide (x12<(p3.length:Int)))then
      (aR (cI .i64).cell r7.2 q6.2 2).bind λx13=>
      some ((none,x13,12),r7.2)
     else
      (aR cM.cell r7.2 q6.2 3).bind λx14=>
      (zV (kI .i64) cB r7.2 x14).bind λq15=>
      bif (decide (q15>500))then
       some ((none,0,4),r7.2)
      else
       (aR cM.cell r7.2 q6.2 3).bind λx16=>
       (zV (kI .i64) cB r7.2 x16).bind λq17=>
       (cH cP r7.2 i5 4 j8.1).bind λH18=>
       (cH (cI .i64) H18 i5 6 q17).bind λH19=>
       (fy fuel p0.aq).bind λr20=>
       (cH (cL 1 (cI .i64)) H19 i5 0 r20).bind λH21=>
       some (((some i5),(-1),0),H21)) λjp9=>
   (Option.elim r7.1
    (jp9 (none,true))
   (λi10=>
    jp9 ((some i10),false)))
section
attribute [local irreducible] aa aA bb au SW uS
theorem yr(h:lV fuel p0 p1 p2 p3 H=some r):SC Tryz.prog false 15 [.d (bG p0),vI p1,vI p2,.d (.list 3 (List.map bn p3))] H (.gC [.d (cP.enc r.1.1),vI r.1.2.1,vI r.1.2.2]) r.2:=by
 refine SC.fc Tryz.func15 rfl ?_
 unfold lV at h
 exact SW.kk 84 H [(0,Z2 p0),(1,vI p1),(2,vI p2),(3,rN p3)]<|SW.t 1<|SW.S<|aa.t 2<|bI h λr1 hr h=>aa.f (wa hr)<|aa.t 5<|aa.E<|SW.seq<|SW.t 1<|SW.b h (λh=>SW.t 1<|SW.ret<|ag<|iI h▸E0) (λh=>SW.skip<|af<|SW.seq<|SW.t 1<|SW.b h (λh=>SW.t 1<|SW.ret<|ag<|iI h▸E0) (λh=>SW.skip<|af<|SW.S<|aa.t 2<|bI h λi2 hp_i2 h=>aa.p (s:=.d (.ptr i2 0)) (ax.dS hp_i2)<|aa.t 1<|bI h λH3 hx h=>aa.hs hx<|aa.E<|SW.S<|aa.t 2<|bI h λq4 hq h=>aa.oh 84 q4.1 (d:=some 32) (b:=true) [] [3,4,11,30,31,32] [(3,rN p3),(4,Z1 p0),(11,.d (cP.enc r1.1.1)),(30,.d (cP.enc r1.1.1)),(31,rN p3),(32,.d (.map q4.2))] hq κ rfl κ<|bI h λi5 hp_i5 h=>aa.nG r1.1.1 (λp=>(sp 84 [(3,rN p3),(4,Z1 p0),(11,.d (cP.enc p)),(30,.d (cP.enc p)),(31,rN p3),(32,.d (.map q4.2))] q4.1)) κ hp_i5<|aa.t 1<|bI h λq6 hq h=>aa.nw [] hq<|aa.t 1<|aa.E<|SW.S<|aa.t 2<|bI h λr7 hr h=>aa.f (tt hr)<|aa.t 1<|aa.E<|SW.seq<|SW.block<|SW.J 84 r7.2 [3,4,11,13,14,38] (λ(j8:(Option Nat)×Bool)=>[(3,rN p3),(4,Z1 p0),(11,.d (.ptr i5 0)),(13,.d (.ptr q6.2 0)),(14,.d (cP.enc j8.1)),(38,vB j8.2)]) h (λj8 h=>SW.b h (λh=>SW.seq<|bI h λx11 hx11 h=>SW.K [(13,.d (.ptr q6.2 0))]<|SW.lX [0,1,2,3,4,5,6] [] κ κ<|au.t<|au.t<|au.t<|au.p (s:=vI x11) (ax.cN hx11)<|au.t<|au.t<|au.t<|au.D<|aa.E<|SW.ret<|az<|ag<|iI h▸E0) (λh=>SW.S<|aa.t 3<|bI h λx12 hx h=>aa.p (s:=vI x12) (ax.cN hx)<|aa.t 1<|aa.p (ax.len (enc:=bn) (xs:=p3))<|aa.t 2<|aa.E<|SW.b h (λh=>SW.seq<|bI h λx13 hx13 h=>SW.kk 84 r7.2 [(13,.d (.ptr q6.2 0))]<|SW.lX [0,1,2,3,4,5,6] [] κ κ<|au.t<|au.t<|au.t<|au.p (s:=vI x13) (ax.cN hx13)<|au.t<|au.t<|au.t<|au.D<|aa.E<|SW.ret<|az<|ag<|iI h▸E0) (λh=>SW.S<|aa.t 3<|bI h λx14 hx h=>aa.p (s:=.d (cM.enc x14)) (ax.cN hx)<|bI h λq15 hq h=>aa.p (s:=.d (.int .i64 q15)) (ax.Jl (kc:=(kI .i64)) (v:=cB) (mm:=x14) hq)<|aa.t 2<|aa.E<|SW.b h (λh=>SW.t 1<|SW.ret<|az<|ag<|iI h▸E0) (λh=>SW.skip<|aB<|af<|SW.S<|aa.t 6<|bI h λx16 hx h=>aa.p (s:=.d (cM.enc x16)) (ax.cN hx)<|bI h λq17 hq h=>aa.p (s:=.d (.int .i64 q17)) (ax.Jl (kc:=(kI .i64)) (v:=cB) (mm:=x16) hq)<|aa.s [] [4,11,65,66,71,73] 2<|bI h λH18 hx h=>aa.MI 84 H18 [4,11,65,71] [(4,Z1 p0),(11,.d (.ptr i5 0)),(65,.d (.ptr i5 0)),(71,vI q17)] hx κ κ<|aa.t 2<|bI h λH19 hx h=>aa.hs hx<|aa.E<|SW.S<|aa.t 3<|bI h λr20 hr h=>aa.d (oE hr)<|aa.t 3<|aa.fr 79<|bI h λH21 hx h=>aa.hs hx<|aa.E<|SW.t 1<|SW.ret<|iI h▸E0)))) λjp9 h=>SW.al<|aa.s [] [3,4,11,13,14,39] 1<|aa.oK r7.1 (λp=>(sp 84 [(3,rN p3),(4,Z1 p0),(11,.d (.ptr i5 0)),(13,.d (.ptr q6.2 0)),(14,.d (cP.enc p)),(39,.d (cP.enc p))] r7.2)) κ (λhp=>by rw[hp]at h;exact have h:=ml h;aa.t 2<|aa.D<|JQ [] h) (λi10 hp=>by rw[hp]at h;exact have h:=mj h;aa.t 2<|aa.D<|JQ [] h)))
noncomputable def kM (fuel:Nat) (p0:Nat) (H:Hp):Option (((Option Nat))×Hp):=
 (aR cj.cells H p0 0).bind λx1=>
 (aR (cI .i64).cell H p0 3).bind λx2=>
 (aR (cI .i64).cell H p0 5).bind λx3=>
 (fx fuel p0 H).bind λr4=>
 (lV fuel x1 x2 x3 r4.1 r4.2).bind λr5=>
 (aR (cI .i64).cell r4.2 p0 5).bind λx6=>
 BP x3 x6<|
 (aR (cI .i64).cell r4.2 p0 3).bind λx7=>
 BP x2 x7<|
 (aR cj.cells r4.2 p0 0).bind λx8=>
 BP x1 x8<|
 some (r5.1.1,r5.2)
def gY(x0:(((Option Nat)×Int×Int)×Hp)):SV:=.gC [.d (cP.enc x0.1.1),vI x0.1.2.1,vI x0.1.2.2]
def gA(x0:(((List Node))×Hp)):SV:=.d (.list 3 (List.map bn x0.1))
def K38:=λa0 a1 (t:SL)=>((12,Z2 a0)::(15,.d (.ptr a1 3))::t:SL)
def K39:=λa0 a1 (t:SL)=>((11,.d (.ptr a0 0))::(16,vI a1)::t:SL)
def K40:=λa0 a1 (t:SL)=>((11,.d (.ptr a0 0))::(15,.d (.ptr a1 3))::t:SL)
def K42:=λa0 a1 (t:SL)=>((12,Z2 a0)::(16,vI a1)::t:SL)
def K44:=λa0 a1 (t:SL)=>((3,.d (cP.enc a0))::(8,gY a1)::t:SL)
def K50:=λa0 a1 (t:SL)=>((8,gY a0)::(24,.d (cP.enc a1))::t:SL)
theorem vZ(h:kM fuel p0 H=some r):SC Tryz.prog false 40 [.d (.ptr p0 0)] H (.d (cP.enc r.1)) r.2:=by
 refine SC.fc Tryz.func40 rfl ?_
 unfold kM at h
 exact SW.kk 28 H [(0,.d (.ptr p0 0))]<|SW.t 1<|SW.seq<|SW.t 1<|SW.N<|SW.skip<|af<|SW.seq<|bI h λx1 hx1 h=>bI h λx2 hx2 h=>bI h λx3 hx3 h=>bI h λr4 hr_13 h=>bI h λr5 hr_14 h=>bI h λx6 hx6 h=>by
  replace h:=sW h;obtain⟨rfl,h⟩:=h;exact bI h λx7 hx7 h=>by
   replace h:=sW h;obtain⟨rfl,h⟩:=h;exact bI h λx8 hx8 h=>by
    replace h:=sW h;obtain⟨rfl,h⟩:=h;exact SW.kk 28 H [(0,.d (.ptr p0 0))]<|(by
     refine SW.qG 28 r5.2 [(3,.d (cP.enc r5.1.1))] [0,1,2,4,5,6,8,9,10,12] 12 6007 κ κ κ (λX hX=>?_) (af<|SW.t 1<|SW.ret<|iI h▸E0)
     .have c4194303:X 0 4194303 (sp 28 [(3,.d (cP.enc r5.1.1))] r5.2):=by subst hX;exact OX.fin κ
      have c2097151:X 1 2097151 (sp 28 [(3,.d (cP.enc r5.1.1)),(26,vI r5.1.2.2)] r5.2):=by
       subst hX
       refine OX.step (i0:=21) (is:=[]) κ κ ⟨?_,trivial⟩
       .refine aa.sg 28 r5.2 [] [3] 1 [(3,.d (cP.enc r5.1.1))] κ<|aa.D ?_
        exact c4194303
      have c1048575:X 2 1048575 (sp 28 [(3,.d (cP.enc r5.1.1)),(25,vI r5.1.2.1),(26,vI r5.1.2.2)] r5.2):=by
       subst hX
       refine OX.step (i0:=20) (is:=[]) κ κ ⟨?_,trivial⟩
       .refine aa.sg 28 r5.2 [] [3,26] 1 [(3,.d (cP.enc r5.1.1)),(26,vI r5.1.2.2)] κ<|aa.D ?_
        exact c2097151
      have c524287:X 3 524287 (sp 28 [(24,.d (cP.enc r5.1.1)),(25,vI r5.1.2.1),(26,vI r5.1.2.2)] r5.2):=by
       subst hX
       refine OX.step (i0:=19) (is:=[]) κ κ ⟨?_,trivial⟩
       .refine aa.sg 28 r5.2 [] [3,25,26] 1 [(3,.d (cP.enc r5.1.1)),(25,vI r5.1.2.1),(26,vI r5.1.2.2)] κ<|aa.D ?_
        exact c1048575
      have c1835007:X 2 1835007 (sp 28 (K44 r5.1.1 r5 []) r5.2):=by
       subst hX
       refine OX.step (i0:=18) (is:=[]) κ κ ⟨?_,trivial⟩
       .refine aa.sg 28 r5.2 [] [3,26] 1 [(3,.d (cP.enc r5.1.1)),(26,vI r5.1.2.2)] κ<|aa.D ?_
        exact c2097151
      have c786431:X 3 786431 (sp 28 (K44 r5.1.1 r5 [(25,vI r5.1.2.1)]) r5.2):=by
       subst hX
       refine OX.step (i0:=18) (is:=[20]) κ κ ⟨?_,?_,trivial⟩
       .refine aa.G 1 [(3,.d (cP.enc r5.1.1)),(25,vI r5.1.2.1),(26,vI r5.1.2.2)]<|aa.D ?_
        exact c1048575
       .refine aa.G 1 (K44 r5.1.1 r5 [])<|aa.D ?_
        exact c1835007
      have c262143:X 4 262143 (sp 28 (K50 r5 r5.1.1 [(25,vI r5.1.2.1)]) r5.2):=by
       subst hX
       refine OX.step (i0:=18) (is:=[19]) κ κ ⟨?_,?_,trivial⟩
       .refine aa.G 1 [(24,.d (cP.enc r5.1.1)),(25,vI r5.1.2.1),(26,vI r5.1.2.2)]<|aa.D ?_
        exact c524287
       .refine aa.G 1 (K44 r5.1.1 r5 [(25,vI r5.1.2.1)])<|aa.D ?_
        exact c786431
      have c917503:X 3 917503 (sp 28 (K44 r5.1.1 r5 [(26,vI r5.1.2.2)]) r5.2):=by
       subst hX
       refine OX.step (i0:=17) (is:=[]) κ κ ⟨?_,trivial⟩
       .refine aa.sg 28 r5.2 [] [3,25,26] 1 [(3,.d (cP.enc r5.1.1)),(25,vI r5.1.2.1),(26,vI r5.1.2.2)] κ<|aa.D ?_
        exact c1048575
      have c393215:X 4 393215 (sp 28 (K50 r5 r5.1.1 [(26,vI r5.1.2.2)]) r5.2):=by
       subst hX
       refine OX.step (i0:=17) (is:=[19]) κ κ ⟨?_,?_,trivial⟩
       .refine aa.G 1 [(24,.d (cP.enc r5.1.1)),(25,vI r5.1.2.1),(26,vI r5.1.2.2)]<|aa.D ?_
        exact c524287
       .refine aa.G 1 (K44 r5.1.1 r5 [(26,vI r5.1.2.2)])<|aa.D ?_
        exact c917503
      have c655359:X 4 655359 (sp 28 (K44 r5.1.1 r5 []) r5.2):=by
       subst hX
       refine OX.step (i0:=17) (is:=[18]) κ κ ⟨?_,?_,trivial⟩
       .refine aa.G 1 (K44 r5.1.1 r5 [(25,vI r5.1.2.1)])<|aa.D ?_
        exact c786431
       .refine aa.G 1 (K44 r5.1.1 r5 [(26,vI r5.1.2.2)])<|aa.D ?_
        exact c917503
      have c131071:X 5 131071 (sp 28 (K50 r5 r5.1.1 []) r5.2):=by
       subst hX
       refine OX.step (i0:=17) (is:=[18,19]) κ κ ⟨?_,?_,?_,trivial⟩
       .refine aa.G 1 (K50 r5 r5.1.1 [(25,vI r5.1.2.1)])<|aa.D ?_
        exact c262143
       .refine aa.G 1 (K50 r5 r5.1.1 [(26,vI r5.1.2.2)])<|aa.D ?_
        exact c393215
       .refine aa.G 1 (K44 r5.1.1 r5 [])<|aa.D ?_
        exact c655359
      have c458751:X 4 458751 (sp 28 [(8,gY r5),(25,vI r5.1.2.1),(26,vI r5.1.2.2)] r5.2):=by
       subst hX
       refine OX.step (i0:=16) (is:=[]) κ κ ⟨?_,trivial⟩
       .refine aa.sg 28 r5.2 [] [24,25,26] 1 [(24,.d (cP.enc r5.1.1)),(25,vI r5.1.2.1),(26,vI r5.1.2.2)] κ<|aa.D ?_
        exact c524287
      have c196607:X 5 196607 (sp 28 [(8,gY r5),(25,vI r5.1.2.1)] r5.2):=by
       subst hX
       refine OX.step (i0:=16) (is:=[18]) κ κ ⟨?_,?_,trivial⟩
       .refine aa.G 1 (K50 r5 r5.1.1 [(25,vI r5.1.2.1)])<|aa.D ?_
        exact c262143
       .refine aa.G 1 [(8,gY r5),(25,vI r5.1.2.1),(26,vI r5.1.2.2)]<|aa.D ?_
        exact c458751
      have c327679:X 5 327679 (sp 28 [(8,gY r5),(26,vI r5.1.2.2)] r5.2):=by
       subst hX
       refine OX.step (i0:=16) (is:=[17]) κ κ ⟨?_,?_,trivial⟩
       .refine aa.G 1 (K50 r5 r5.1.1 [(26,vI r5.1.2.2)])<|aa.D ?_
        exact c393215
       .refine aa.G 1 [(8,gY r5),(25,vI r5.1.2.1),(26,vI r5.1.2.2)]<|aa.D ?_
        exact c458751
      have c65535:X 6 65535 (sp 28 [(8,gY r5)] r5.2):=by
       subst hX
       refine OX.step (i0:=16) (is:=[17,18]) κ κ ⟨?_,?_,?_,trivial⟩
       .refine aa.G 1 (K50 r5 r5.1.1 [])<|aa.D ?_
        exact c131071
       .refine aa.G 1 [(8,gY r5),(25,vI r5.1.2.1)]<|aa.D ?_
        exact c196607
       .refine aa.G 1 [(8,gY r5),(26,vI r5.1.2.2)]<|aa.D ?_
        exact c327679
      have c32767:X 7 32767 (sp 28 [(23,gY r5)] r5.2):=by
       subst hX
       refine OX.step (i0:=15) (is:=[]) κ κ ⟨?_,trivial⟩
       .refine aa.sg 28 r5.2 [] [8] 1 [(8,gY r5)] κ<|aa.D ?_
        exact c65535
      have c16383:X 8 16383 (sp 28 (K42 x1 x2 [(20,vI x3),(22,gA r4)]) r4.2):=by
       subst hX
       refine OX.step (i0:=14) (is:=[]) κ κ ⟨?_,trivial⟩
       .refine aa.hP 28 [(23,.gC [.d (cP.enc r5.1.1),vI r5.1.2.1,vI r5.1.2.2])] (yr hr_14)<|aa.D ?_
        exact c32767
      have c8191:X 9 8191 (sp 28 (K42 x1 x2 [(20,vI x3),(21,.d (.ptr p0 0))]) H):=by
       subst hX
       refine OX.step (i0:=13) (is:=[]) κ κ ⟨?_,trivial⟩
       .refine aa.hP 28 (K42 x1 x2 [(20,vI x3),(22,.d (.list 3 (List.map bn r4.1)))]) (bX hr_13)<|aa.D ?_
        exact c16383
      have c14335:X 9 14335 (sp 28 (K42 x1 x2 [(19,.d (.ptr p0 5)),(22,gA r4)]) r4.2):=by
       subst hX
       refine OX.step (i0:=11) (is:=[]) κ κ ⟨?_,trivial⟩
       .refine aa.on 28 r4.2 (d:=some 20) (s:=vI x3) [12,16,20,22] (K42 x1 x2 [(20,vI x3),(22,gA r4)]) (ax.cN hx6) κ<|aa.D ?_
        exact c16383
      have c6143:X 10 6143 (sp 28 (K42 x1 x2 [(19,.d (.ptr p0 5)),(21,.d (.ptr p0 0))]) H):=by
       subst hX
       refine OX.step (i0:=11) (is:=[13]) κ κ ⟨?_,?_,trivial⟩
       .refine aa.O (d:=some 20) (s:=vI x3) (K42 x1 x2 [(20,vI x3),(21,.d (.ptr p0 0))]) (ax.cN hx3)<|aa.D ?_
        exact c8191
       .refine aa.CH (some 22) (K42 x1 x2 [(19,.d (.ptr p0 5)),(22,gA r4)]) (bX hr_13)<|aa.D ?_
        exact c14335
      have c16255:X 9 16255 (sp 28 (K38 x1 p0 [(20,vI x3),(22,gA r4)]) r4.2):=by
       subst hX
       refine OX.step (i0:=7) (is:=[]) κ κ ⟨?_,trivial⟩
       .refine aa.on 28 r4.2 (d:=some 16) (s:=vI x2) [12,16,20,22] (K42 x1 x2 [(20,vI x3),(22,gA r4)]) (ax.cN hx7) κ<|aa.D ?_
        exact c16383
      have c8063:X 10 8063 (sp 28 (K38 x1 p0 [(20,vI x3),(21,.d (.ptr p0 0))]) H):=by
       subst hX
       refine OX.step (i0:=7) (is:=[13]) κ κ ⟨?_,?_,trivial⟩
       .refine aa.O (d:=some 16) (s:=vI x2) (K42 x1 x2 [(20,vI x3),(21,.d (.ptr p0 0))]) (ax.cN hx2)<|aa.D ?_
        exact c8191
       .refine aa.CH (some 22) (K38 x1 p0 [(20,vI x3),(22,gA r4)]) (bX hr_13)<|aa.D ?_
        exact c16255
      have c14207:X 10 14207 (sp 28 (K38 x1 p0 [(19,.d (.ptr p0 5)),(22,gA r4)]) r4.2):=by
       subst hX
       refine OX.step (i0:=7) (is:=[11]) κ κ ⟨?_,?_,trivial⟩
       .refine aa.O (d:=some 16) (s:=vI x2) (K42 x1 x2 [(19,.d (.ptr p0 5)),(22,gA r4)]) (ax.cN hx7)<|aa.D ?_
        exact c14335
       .refine aa.O (d:=some 20) (s:=vI x3) (K38 x1 p0 [(20,vI x3),(22,gA r4)]) (ax.cN hx6)<|aa.D ?_
        exact c16255
      have c6015:X 11 6015 (sp 28 (K38 x1 p0 [(19,.d (.ptr p0 5)),(21,.d (.ptr p0 0))]) H):=by
       subst hX
       refine OX.step (i0:=7) (is:=[11,13]) κ κ ⟨?_,?_,?_,trivial⟩
       .refine aa.O (d:=some 16) (s:=vI x2) (K42 x1 x2 [(19,.d (.ptr p0 5)),(21,.d (.ptr p0 0))]) (ax.cN hx2)<|aa.D ?_
        exact c6143
       .refine aa.O (d:=some 20) (s:=vI x3) (K38 x1 p0 [(20,vI x3),(21,.d (.ptr p0 0))]) (ax.cN hx3)<|aa.D ?_
        exact c8063
       .refine aa.CH (some 22) (K38 x1 p0 [(19,.d (.ptr p0 5)),(22,gA r4)]) (bX hr_13)<|aa.D ?_
        exact c14207
      have c16375:X 9 16375 (sp 28 (K39 p0 x2 [(20,vI x3),(22,gA r4)]) r4.2):=by
       subst hX
       refine OX.step (i0:=3) (is:=[]) κ κ ⟨?_,trivial⟩
       .refine aa.on 28 r4.2 (d:=some 12) (s:=.d (.agg [.list 1 (List.map (D.int .i64) x1.aq),.list 1 (List.map D.bool x1.Down),.int .i64 x1.cW])) [12,16,20,22] (K42 x1 x2 [(20,vI x3),(22,gA r4)]) (ax.cN hx8) κ<|aa.D ?_
        exact c16383
      have c8183:X 10 8183 (sp 28 (K39 p0 x2 [(20,vI x3),(21,.d (.ptr p0 0))]) H):=by
       subst hX
       refine OX.step (i0:=3) (is:=[13]) κ κ ⟨?_,?_,trivial⟩
       .refine aa.O (d:=some 12) (s:=.d (.agg [.list 1 (List.map (D.int .i64) x1.aq),.list 1 (List.map D.bool x1.Down),.int .i64 x1.cW])) (K42 x1 x2 [(20,vI x3),(21,.d (.ptr p0 0))]) (ax.cN hx1)<|aa.D ?_
        exact c8191
       .refine aa.CH (some 22) (K39 p0 x2 [(20,vI x3),(22,gA r4)]) (bX hr_13)<|aa.D ?_
        exact c16375
      have c14327:X 10 14327 (sp 28 (K39 p0 x2 [(19,.d (.ptr p0 5)),(22,gA r4)]) r4.2):=by
       subst hX
       refine OX.step (i0:=3) (is:=[11]) κ κ ⟨?_,?_,trivial⟩
       .refine aa.O (d:=some 12) (s:=.d (.agg [.list 1 (List.map (D.int .i64) x1.aq),.list 1 (List.map D.bool x1.Down),.int .i64 x1.cW])) (K42 x1 x2 [(19,.d (.ptr p0 5)),(22,gA r4)]) (ax.cN hx8)<|aa.D ?_
        exact c14335
       .refine aa.O (d:=some 20) (s:=vI x3) (K39 p0 x2 [(20,vI x3),(22,gA r4)]) (ax.cN hx6)<|aa.D ?_
        exact c16375
      have c6135:X 11 6135 (sp 28 (K39 p0 x2 [(19,.d (.ptr p0 5)),(21,.d (.ptr p0 0))]) H):=by
       subst hX
       refine OX.step (i0:=3) (is:=[11,13]) κ κ ⟨?_,?_,?_,trivial⟩
       .refine aa.O (d:=some 12) (s:=.d (.agg [.list 1 (List.map (D.int .i64) x1.aq),.list 1 (List.map D.bool x1.Down),.int .i64 x1.cW])) (K42 x1 x2 [(19,.d (.ptr p0 5)),(21,.d (.ptr p0 0))]) (ax.cN hx1)<|aa.D ?_
        exact c6143
       .refine aa.O (d:=some 20) (s:=vI x3) (K39 p0 x2 [(20,vI x3),(21,.d (.ptr p0 0))]) (ax.cN hx3)<|aa.D ?_
        exact c8183
       .refine aa.CH (some 22) (K39 p0 x2 [(19,.d (.ptr p0 5)),(22,gA r4)]) (bX hr_13)<|aa.D ?_
        exact c14327
      have c16247:X 10 16247 (sp 28 (K40 p0 p0 [(20,vI x3),(22,gA r4)]) r4.2):=by
       subst hX
       refine OX.step (i0:=3) (is:=[7]) κ κ ⟨?_,?_,trivial⟩
       .refine aa.O (d:=some 12) (s:=.d (.agg [.list 1 (List.map (D.int .i64) x1.aq),.list 1 (List.map D.bool x1.Down),.int .i64 x1.cW])) (K38 x1 p0 [(20,vI x3),(22,gA r4)]) (ax.cN hx8)<|aa.D ?_
        exact c16255
       .refine aa.O (d:=some 16) (s:=vI x2) (K39 p0 x2 [(20,vI x3),(22,gA r4)]) (ax.cN hx7)<|aa.D ?_
        exact c16375
      have c8055:X 11 8055 (sp 28 (K40 p0 p0 [(20,vI x3),(21,.d (.ptr p0 0))]) H):=by
       subst hX
       refine OX.step (i0:=3) (is:=[7,13]) κ κ ⟨?_,?_,?_,trivial⟩
       .refine aa.O (d:=some 12) (s:=.d (.agg [.list 1 (List.map (D.int .i64) x1.aq),.list 1 (List.map D.bool x1.Down),.int .i64 x1.cW])) (K38 x1 p0 [(20,vI x3),(21,.d (.ptr p0 0))]) (ax.cN hx1)<|aa.D ?_
        exact c8063
       .refine aa.O (d:=some 16) (s:=vI x2) (K39 p0 x2 [(20,vI x3),(21,.d (.ptr p0 0))]) (ax.cN hx2)<|aa.D ?_
        exact c8183
       .refine aa.CH (some 22) (K40 p0 p0 [(20,vI x3),(22,gA r4)]) (bX hr_13)<|aa.D ?_
        exact c16247
      have c14199:X 11 14199 (sp 28 (K40 p0 p0 [(19,.d (.ptr p0 5)),(22,gA r4)]) r4.2):=by
       subst hX
       refine OX.step (i0:=3) (is:=[7,11]) κ κ ⟨?_,?_,?_,trivial⟩
       .refine aa.O (d:=some 12) (s:=.d (.agg [.list 1 (List.map (D.int .i64) x1.aq),.list 1 (List.map D.bool x1.Down),.int .i64 x1.cW])) (K38 x1 p0 [(19,.d (.ptr p0 5)),(22,gA r4)]) (ax.cN hx8)<|aa.D ?_
        exact c14207
       .refine aa.O (d:=some 16) (s:=vI x2) (K39 p0 x2 [(19,.d (.ptr p0 5)),(22,gA r4)]) (ax.cN hx7)<|aa.D ?_
        exact c14327
       .refine aa.O (d:=some 20) (s:=vI x3) (K40 p0 p0 [(20,vI x3),(22,gA r4)]) (ax.cN hx6)<|aa.D ?_
        exact c16247
      have c6007:X 12 6007 (sp 28 (K40 p0 p0 [(19,.d (.ptr p0 5)),(21,.d (.ptr p0 0))]) H):=by
       subst hX
       refine OX.step (i0:=3) (is:=[7,11,13]) κ κ ⟨?_,?_,?_,?_,trivial⟩
       .refine aa.O (d:=some 12) (s:=.d (.agg [.list 1 (List.map (D.int .i64) x1.aq),.list 1 (List.map D.bool x1.Down),.int .i64 x1.cW])) (K38 x1 p0 [(19,.d (.ptr p0 5)),(21,.d (.ptr p0 0))]) (ax.cN hx1)<|aa.D ?_
        exact c6015
       .refine aa.O (d:=some 16) (s:=vI x2) (K39 p0 x2 [(19,.d (.ptr p0 5)),(21,.d (.ptr p0 0))]) (ax.cN hx2)<|aa.D ?_
        exact c6135
       .refine aa.O (d:=some 20) (s:=vI x3) (K40 p0 p0 [(20,vI x3),(21,.d (.ptr p0 0))]) (ax.cN hx3)<|aa.D ?_
        exact c8055
       .refine aa.CH (some 22) (K40 p0 p0 [(19,.d (.ptr p0 5)),(22,gA r4)]) (bX hr_13)<|aa.D ?_
        exact c14199
      refine au.t<|au.t<|au.t<|au.t<|au.t<|au.t<|au.t<|au.t<|au.t<|au.sg 28 H [11,15,19,21] (K40 p0 p0 [(19,.d (.ptr p0 5)),(21,.d (.ptr p0 0))]) κ<|au.D ?_
      exact c6007)
def iX(fuel:Nat)(p0:Nat)(H:Hp):Option (Int):=
 (aR (cI .i64).cell H p0 5).bind λx1=>
 some x1
theorem dJ(h:iX fuel p0 H=some r):SC Tryz.prog true 13 [.d (.ptr p0 0)] H (vI r) H:=by
 refine SC.lh Tryz.func13 rfl ?_
 unfold iX at h
 exact SW.kk 9 H [(0,.d (.ptr p0 0))]<|SW.t 1<|SW.seq<|SW.t 1<|SW.N<|SW.skip<|af<|SW.S<|aa.t 3<|bI h λx1 hx h=>aa.p (s:=vI x1) (ax.cN hx)<|aa.t 1<|aa.E<|SW.ret<|iI h▸E0
def sj(fuel:Nat)(p0:ak)(p1:Entry):Option (Bool):=
 (oH fuel p0 p1.Row).bind λr1=>
 bif r1 then
  (sh fuel p1.Key).bind λr2=>
  some (r2&&(decide (p1.Number>=1)))
 else
  some false
theorem CB(h:sj fuel p0 p1=some r):PC Tryz.prog 72 [.d (bG p0),.d (ab p1)] (vB r):=by
 refine PC.bo Tryz.func72 rfl λH=>?_
 unfold sj at h
 exact SW.kk 19 H [(0,Z2 p0),(1,kY p1)]<|SW.t 1<|SW.S<|aa.t 3<|bI h λr1 hr h=>aa.d (pe hr)<|aa.s [] [3,9] 1<|aa.b2 (λb=>(sp 19 [(3,jQ p1),(9,vB b)] H)) h (λh=>aa.t 2<|bI h λr2 hr h=>aa.d (sf hr)<|aa.s [] [3,14] 2<|aa.mg 19 H [18] 4 r2 (λb=>(sp 19 [(3,jQ p1),(14,vB b)] H)) (λb=>[(18,vB (b&&(decide (p1.Number>=1))))]) κ κ κ<|aa.t 1<|aa.E<|SW.ret<|iI h▸E0) λh=>aa.t 10<|aa.E<|SW.ret<|iI h▸E0
def aJ(fuel:Nat)(p0:Nat)(p1:Int)(H:Hp):Option ((Bool)×Hp):=
 (cH (cI .i64) H p0 8 p1).bind λH1=>
 some (false,H1)
theorem aZ(h:aJ fuel p0 p1 H=some r):SC Tryz.prog false 73 [.d (.ptr p0 0),vI p1] H (vB r.1) r.2:=by
 refine SC.fc Tryz.func73 rfl ?_
 unfold aJ at h
 exact SW.kk 9 H (K10 p0 p1 [])<|SW.t 1<|SW.S<|aa.t 4<|bI h λH1 hx h=>aa.hs hx<|aa.E<|SW.t 1<|SW.ret<|iI h▸E0
def bC(fuel:Nat)(p0:Nat)(p1:Entry)(p2:Entry)(H:Hp):Option (Bool):=
 (aR cj.cells H p0 0).bind λx1=>
 (nj fuel x1 p1 p2).bind λr2=>
 bif r2 then
  (aR (cI .i64).cell H p0 2).bind λx3=>
  bif (x3 !=1)then
   some true
  else
   (aR cj.cells H p0 0).bind λx4=>
   (qe fuel x4 p1.Row p2.Row).bind λr5=>
   some (r5 !=0)
 else
  some false
def M8(x0:Entry):SV:=.own 1 (List.map (D.int .i64) [x0.Number])
def N9(x0:((List Int)×Hp)):SV:=.own 1 (List.map (D.int .i64) x0.1)
def B4(x0:Int×(List Entry)×(List Int)×Hp):SV:=.box [vI x0.1,.d (.list 3 (List.map ab x0.2.1)),.d (.list 1 (List.map (D.int .i64) x0.2.2.1))]
def N8(x0:Entry):SV:=.d (.dV [.list 3 (List.map ah x0.Row),.int .i64 x0.Key,.int .i64 x0.Number])
theorem dh(h:bC fuel p0 p1 p2 H=some r):SC Tryz.prog true 74 [.d (.ptr p0 0),.d (ab p1),.d (ab p2)] H (vB r) H:=by
 refine SC.lh Tryz.func74 rfl ?_
 unfold bC at h
 exact SW.kk 34 H [(0,.d (.ptr p0 0)),(1,kY p1),(2,kY p2)]<|SW.t 1<|SW.seq<|SW.qq<|aA.t 3<|bI h λx1 hx h=>aA.p (s:=.d (.agg [.list 1 (List.map (D.int .i64) x1.aq),.list 1 (List.map D.bool x1.Down),.int .i64 x1.cW])) (ax.cN hx)<|aA.t 2<|bI h λr2 hr h=>aA.d (uC hr)<|aA.s [] [0,4,5,14] 1<|aA.b2 (λb=>(sp 34 [(0,.d (.ptr p0 0)),(4,jQ p1),(5,jQ p2),(14,vB b)] H)) h (λh=>aA.t 4<|bI h λx3 hx h=>aA.p (s:=vI x3) (ax.cN hx)<|aA.s [] [0,4,5,14,21] 2<|aA.b2 (λb=>(sp 34 [(0,.d (.ptr p0 0)),(4,jQ p1),(5,jQ p2),(14,vB true),(21,vB b)] H)) h (λh=>aA.t 13<|aA.D<|af<|SW.ret<|iI h▸E0) λh=>aA.t 3<|bI h λx4 hx h=>aA.p (s:=.d (.agg [.list 1 (List.map (D.int .i64) x4.aq),.list 1 (List.map D.bool x4.Down),.int .i64 x4.cW])) (ax.cN hx)<|aA.t 4<|bI h λr5 hr h=>aA.d (wE hr)<|aA.t 4<|aA.D<|af<|SW.ret<|iI h▸E0) λh=>aA.t 20<|aA.D<|af<|SW.ret<|iI h▸E0
def dA(fuel:Nat)(p0:Nat)(p1:Int)(x6:Entry)(y13:Int×Hp):Option ((Int×Hp)⊕((Hp)⊕(((Bool)×Hp)))):=
 (aW 1 (cI .i64) y13.2 p0 7).bind λx14=>
 bif (decide (y13.1<(x14.length:Int)))then
  (aW 1 (cI .i64) y13.2 p0 7).bind λx15=>
  (idx x15 y13.1).bind λx16=>
  bif (x16==x6.Number)then
   (aJ fuel p0 p1 y13.2).bind λr17=>
   some (.inr (.inr (r17.1,r17.2)))
  else
   some (.inl ((IntKind.wrap .i64 (y13.1+1)),y13.2))
 else
  some (.inr (.inl y13.2))
def b8(fuel:Nat)(p0:Nat)(p1:Int)(y5:Int×(List Entry)×(List Int)×Int×Hp):Option ((Int×(List Entry)×(List Int)×Int×Hp)⊕((Int×(List Entry)×(List Int)×Hp)⊕(((Bool)×Hp)))):=
 bif (decide (y5.2.2.2.1<(y5.2.1.length:Int)))then
  (idx y5.2.1 y5.2.2.2.1).bind λx6=>
  aP (λ(j7:Bool)=>
   bif j7 then
    (aJ fuel p0 p1 y5.2.2.2.2).bind λr12=>
    some (.inr (.inr (r12.1,r12.2)))
   else
    (iter (dA fuel p0 p1 x6) fuel (0,y5.2.2.2.2)).bind (Sum.elim (λv19=>
     (cw 1 (cI .i64) v19 p0 7).bind λq20=>
     dx (decide ((q20.1++[x6.Number]).length<=room))<|
     (bT 1 (cI .i64) q20.2 p0 7 (q20.1++[x6.Number])).bind λH23=>
     some (.inl (y5.1,y5.2.1,y5.2.2.1,(IntKind.wrap .i64 (y5.2.2.2.1+1)),H23))) (λr24=>
     some (.inr (.inr r24))))) λjp8=>
  (aR cj.cells y5.2.2.2.2 p0 0).bind λx9=>
  (sj fuel x9 x6).bind λr10=>
  bif (!r10)then
   jp8 true
  else
   (aR (cI .i64).cell y5.2.2.2.2 p0 4).bind λx11=>
   jp8 (decide (x6.Number>x11))
 else
  some (.inr (.inl (y5.1,y5.2.1,y5.2.2.1,y5.2.2.2.2)))
def dz(fuel:Nat)(p0:Nat)(p1:Int)(p3:(Option Entry))(p4:(Option Entry))(y27:Int×(List Entry)×(List Int)×Int×Hp):Option ((Int×(List Entry)×(List Int)×Int×Hp)⊕((Int×(List Entry)×(List Int)×Hp)⊕(((Bool)×Hp)))):=
 bif (decide (y27.2.2.2.1<(y27.2.1.length:Int)))then
  (idx y27.2.1 y27.2.2.2.1).bind λx28=>
  bif (decide (y27.2.2.2.1>0))then
   (idx y27.2.1 (IntKind.wrap .i64 (y27.2.2.2.1 - 1))).bind λx29=>
   (bC fuel p0 x29 x28 y27.2.2.2.2).bind λr30=>
   bif (!r30)then
    (aJ fuel p0 p1 y27.2.2.2.2).bind λr31=>
    some (.inr (.inr (r31.1,r31.2)))
   else
    (Option.elim p3
     ((Option.elim p4
      (some (.inl (y27.1,y27.2.1,y27.2.2.1,(IntKind.wrap .i64 (y27.2.2.2.1+1)),y27.2.2.2.2)))
     (λx33=>
      (bC fuel p0 x28 x33 y27.2.2.2.2).bind λr34=>
      bif (!r34)then
       (aJ fuel p0 p1 y27.2.2.2.2).bind λr35=>
       some (.inr (.inr (r35.1,r35.2)))
      else
       some (.inl (y27.1,y27.2.1,y27.2.2.1,(IntKind.wrap .i64 (y27.2.2.2.1+1)),y27.2.2.2.2)))))
    (λx32=>
     (bC fuel p0 x32 x28 y27.2.2.2.2).bind λr36=>
     bif (!r36)then
      (aJ fuel p0 p1 y27.2.2.2.2).bind λr37=>
      some (.inr (.inr (r37.1,r37.2)))
     else
      (Option.elim p4
       (some (.inl (y27.1,y27.2.1,y27.2.2.1,(IntKind.wrap .i64 (y27.2.2.2.1+1)),y27.2.2.2.2)))
      (λx38=>
       (bC fuel p0 x28 x38 y27.2.2.2.2).bind λr39=>
       bif (!r39)then
        (aJ fuel p0 p1 y27.2.2.2.2).bind λr40=>
        some (.inr (.inr (r40.1,r40.2)))
       else
        some (.inl (y27.1,y27.2.1,y27.2.2.1,(IntKind.wrap .i64 (y27.2.2.2.1+1)),y27.2.2.2.2))))))
  else
   (Option.elim p3
    ((Option.elim p4
     (some (.inl (y27.1,y27.2.1,y27.2.2.1,(IntKind.wrap .i64 (y27.2.2.2.1+1)),y27.2.2.2.2)))
    (λx42=>
     (bC fuel p0 x28 x42 y27.2.2.2.2).bind λr43=>
     bif (!r43)then
      (aJ fuel p0 p1 y27.2.2.2.2).bind λr44=>
      some (.inr (.inr (r44.1,r44.2)))
     else
      some (.inl (y27.1,y27.2.1,y27.2.2.1,(IntKind.wrap .i64 (y27.2.2.2.1+1)),y27.2.2.2.2)))))
   (λx41=>
    (bC fuel p0 x41 x28 y27.2.2.2.2).bind λr45=>
    bif (!r45)then
     (aJ fuel p0 p1 y27.2.2.2.2).bind λr46=>
     some (.inr (.inr (r46.1,r46.2)))
    else
     (Option.elim p4
      (some (.inl (y27.1,y27.2.1,y27.2.2.1,(IntKind.wrap .i64 (y27.2.2.2.1+1)),y27.2.2.2.2)))
     (λx47=>
      (bC fuel p0 x28 x47 y27.2.2.2.2).bind λr48=>
      bif (!r48)then
       (aJ fuel p0 p1 y27.2.2.2.2).bind λr49=>
       some (.inr (.inr (r49.1,r49.2)))
      else
       some (.inl (y27.1,y27.2.1,y27.2.2.1,(IntKind.wrap .i64 (y27.2.2.2.1+1)),y27.2.2.2.2))))))
 else
  some (.inr (.inl (y27.1,y27.2.1,y27.2.2.1,y27.2.2.2.2)))
def bZ(fuel:Nat)(rc:(Nat->Int->Int->(Option Entry)->(Option Entry)->Hp->Option ((Bool)×Hp)))(p0:Nat)(p1:Int)(p3:(Option Entry))(p4:(Option Entry))(v51:Int×(List Entry)×(List Int)×Hp)(y65:Int×Hp):Option ((Int×Hp)⊕((Hp)⊕(((Bool)×Hp)))):=
 bif (decide (y65.1<(v51.2.2.1.length:Int)))then
  aP (λ(j66:Bool)=>
   bif j66 then
    (aJ fuel p0 p1 y65.2).bind λr72=>
    some (.inr (.inr (r72.1,r72.2)))
   else
    aP (λ(j73:(Option Entry))=>
     aP (λ(j76:(Option Entry))=>
      (idx v51.2.2.1 y65.1).bind λx79=>
      (rc p0 x79 (IntKind.wrap .i64 (v51.1 - 1)) j73 j76 y65.2).bind λr80=>
      bif (!r80.1)then
       some (.inr (.inr (false,r80.2)))
      else
       some (.inl ((IntKind.wrap .i64 (y65.1+1)),r80.2))) λjp77=>
     bif (decide (y65.1<(v51.2.1.length:Int)))then
      (idx v51.2.1 y65.1).bind λx78=>
      jp77 (some x78)
     else
      jp77 p4) λjp74=>
    bif (decide (y65.1>0))then
     (idx v51.2.1 (IntKind.wrap .i64 (y65.1 - 1))).bind λx75=>
     jp74 (some x75)
    else
     jp74 p3) λjp67=>
  (idx v51.2.2.1 y65.1).bind λx68=>
  (aR (cI .i64).cell y65.2 p0 6).bind λx69=>
  bif (x68 !=x69)then
   jp67 true
  else
   (aR (cI .i64).cell y65.2 p0 6).bind λx70=>
   (aW 3 xz y65.2 p0 5).bind λx71=>
   jp67 (decide (x70>=(x71.length:Int)))
 else
  some (.inr (.inl y65.2))
def fH(fuel:Nat)(rc:(Nat->Int->Int->(Option Entry)->(Option Entry)->Hp->Option ((Bool)×Hp)))(p0:Nat)(p1:Int)(p2:Int)(p3:(Option Entry))(p4:(Option Entry))(H:Hp):Option ((Bool)×Hp):=
 (aR (cI .i64).cell H p0 6).bind λx1=>
 (cH (cI .i64) H p0 6 (IntKind.wrap .i64 (x1+1))).bind λH2=>
 (aW 3 xz H2 p0 5).bind λx3=>
 (idx x3 p1).bind λx4=>
 (iter (b8 fuel p0 p1) fuel (x4.Level,x4.Entries,x4.Kids,0,H2)).bind (Sum.elim (λv26=>
  (iter (dz fuel p0 p1 p3 p4) fuel (v26.1,v26.2.1,v26.2.2.1,0,v26.2.2.2)).bind (Sum.elim (λv51=>
   (aR (cI .i64).cell v51.2.2.2 p0 3).bind λx52=>
   aP (λ(j53:Int)=>
    aP (λ(j55:Int)=>
     aP (λ(j57:Unit)=>
      (iter (bZ fuel rc p0 p1 p3 p4 v51) fuel (0,v51.2.2.2)).bind (Sum.elim (λv82=>
       some (true,v82)) (λr83=>
       some r83))) λjp58=>
     (aR (cI .i64).cell v51.2.2.2 p0 3).bind λx59=>
     bif (decide ((v51.2.1.length:Int)>x59))then
      (aJ fuel p0 p1 v51.2.2.2).bind λr60=>
      some (r60.1,r60.2)
     else
      bif ((decide ((v51.2.1.length:Int)<j53))||(decide (v51.1<0)))then
       (aJ fuel p0 p1 v51.2.2.2).bind λr61=>
       some (r61.1,r61.2)
      else
       bif (decide (p2>=0))then
        bif (v51.1 !=p2)then
         (aJ fuel p0 p1 v51.2.2.2).bind λr62=>
         some (r62.1,r62.2)
        else
         bif ((v51.2.2.1.length:Int) !=j55)then
          (aJ fuel p0 p1 v51.2.2.2).bind λr63=>
          some (r63.1,r63.2)
         else
          jp58 ()
       else
        bif ((v51.2.2.1.length:Int) !=j55)then
         (aJ fuel p0 p1 v51.2.2.2).bind λr64=>
         some (r64.1,r64.2)
        else
         jp58 ()) λjp56=>
    bif (v51.1==0)then
     jp56 0
    else
     jp56 (IntKind.wrap .i64 ((v51.2.1.length:Int)+1))) λjp54=>
   bif (p1==0)then
    bif (v51.1 !=0)then
     jp54 1
    else
     jp54 0
   else
    jp54 (IntKind.wrap .i64 (Int.tdiv x52 2))) (λr84=>
   some r84))) (λr85=>
  some r85))
def bS:Nat->(Nat->Int->Int->(Option Entry)->(Option Entry)->Hp->Option ((Bool)×Hp))
 |0=>λ_ _ _ _ _ _=>none
 |fuel+1=>fH fuel (bS fuel)
def K6:=λa0 a1 a2 a3 a4 (t:SL)=>((0,.d (.ptr a0 0))::(1,vI a1)::(2,vI a2)::(3,.d (cg ab a3))::(4,.d (cg ab a4))::t:SL)
def K29:=λa0 a1 a2 a3 a4 (t:SL)=>((0,.d (.ptr a0 0))::(1,vI a1)::(3,.d (cg ab a2))::(4,.d (cg ab a3))::(11,B4 a4)::t:SL)
def K49:=λa0 a1 a2 a3 a4 a5 a6 a7 (t:SL)=>((0,.d (.ptr a0 0))::(1,vI a1)::(2,vI a2)::(3,N8 a3)::(4,.d (cg ab a4))::(11,oB a5)::(15,vI a6)::(16,jQ a7)::t:SL)
def K53:=λa0 a1 a2 a3 a4 a5 a6 a7 (t:SL)=>((0,.d (.ptr a0 0))::(1,vI a1)::(2,vI a2)::(3,.d (cg ab a3))::(4,.d (cg ab a4))::(11,.box [vI a5,.d (.list 3 (List.map ab a6)),.d (.list 1 (List.map (D.int .i64) a7))])::t:SL)
theorem rm{fuel:Nat}{rc:(Nat->Int->Int->(Option Entry)->(Option Entry)->Hp->Option ((Bool)×Hp))}(ih: ∀{p0:Nat} {p1:Int} {p2:Int} {p3:(Option Entry)} {p4:(Option Entry)} {H:Hp} {r:(Bool)×Hp},rc p0 p1 p2 p3 p4 H=some r->SC Tryz.prog false 46 [.d (.ptr p0 0),vI p1,vI p2,.d (cg ab p3),.d (cg ab p4)] H (vB r.1) r.2){p0:Nat}{p1:Int}{p2:Int}{p3:(Option Entry)}{p4:(Option Entry)}{H:Hp}{r:(Bool)×Hp}(h:fH fuel rc p0 p1 p2 p3 p4 H=some r):SC Tryz.prog false 46 [.d (.ptr p0 0),vI p1,vI p2,.d (cg ab p3),.d (cg ab p4)] H (vB r.1) r.2:=by
 refine SC.fc Tryz.func46 rfl ?_
 unfold fH at h
 exact SW.kk 275 H (K6 p0 p1 p2 p3 p4 [])<|SW.t 1<|SW.S<|aa.t 3<|bI h λx1 hx h=>aa.p (s:=vI x1) (ax.cN hx)<|aa.t 3<|bI h λH2 hx h=>aa.hs hx<|aa.E<|SW.S<|aa.t 3<|bI h λx3 hx h=>aa.p (ax.gK hx)<|aa.t 1<|bI h λx4 hx h=>aa.p (s:=aI (some (.an p0 5)) (Go.Sh.D.cells (bn x4))) (ax.index (n:=3) hx)<|aa.t 3<|aa.E<|SW.seq<|SW.t 1<|SW.block<|bI h λz25 hit h=>SW.Fq 275 [0,1,2,3,4,11,12] (λy5=>(K53 p0 p1 p2 p3 p4 y5.1 y5.2.1 y5.2.2.1 [(12,vI y5.2.2.2.1)])) (λy5=>y5.2.2.2.2) (λb e s=>((∃v26,b=(.inl v26)/\(e=.exit 0/\s=(sp 275 (K53 p0 p1 p2 p3 p4 v26.1 v26.2.1 v26.2.2.1 []) v26.2.2.2)))\/(∃r85,b=(.inr r85)/\(e=.ret/\bW Tryz.prog Tryz.f46.results.toList r85.2 (vB r85.1) .ret s)))) hit κ (λy5 o h=>by unfold b8 at h;exact SW.seq<|SW.S<|aa.t 3<|aa.p (ax.len (enc:=ab) (xs:=y5.2.1))<|aa.t 1<|aa.E<|SW.b h (λh=>SW.skip<|af<|SW.seq<|SW.block<|SW.S<|aa.t 3<|bI h λx6 hx h=>aa.p (s:=aI none (Go.Sh.D.cells (ab x6))) (ax.index (n:=3) hx)<|aa.t 3<|aa.E<|SW.seq<|SW.J 275 y5.2.2.2.2 [0,1,2,3,4,11,12,13,63] (λ(j7:Bool)=>(K6 p0 p1 p2 p3 p4 [(11,oB y5),(12,vI y5.2.2.2.1),(13,jQ x6),(63,vB j7)])) h (λj7 h=>SW.b h (λh=>SW.S<|aa.t 2<|bI h λr12 hr h=>aa.f (aZ hr)<|aa.t 1<|aa.E<|SW.ret<|ag<|az<|ag<|ag<|LR h (.inr (⟨(r12.1,r12.2),rfl,rfl,bW.ret [] κ κ⟩))) (λh=>SW.skip<|af<|SW.seq<|SW.t 1<|SW.block<|bI h λz18 hit h=>SW.Fq 275 [0,1,2,3,4,11,12,13,14] (λy13=>(K6 p0 p1 p2 p3 p4 [(11,oB y5),(12,vI y5.2.2.2.1),(13,jQ x6),(14,vI y13.1)])) (λy13=>y13.2) (λb e s=>((∃v19,b=(.inl v19)/\(e=.exit 2/\s=(sp 275 (K6 p0 p1 p2 p3 p4 [(11,oB y5),(12,vI y5.2.2.2.1),(13,jQ x6)]) v19)))\/(∃r24,b=(.inr r24)/\(e=.ret/\bW Tryz.prog Tryz.f46.results.toList r24.2 (vB r24.1) .ret s)))) hit κ (λy13 o h=>by unfold dA at h;exact SW.seq<|SW.S<|aa.t 4<|bI h λx14 hx h=>aa.p (ax.gK hx)<|aa.p (ax.len (enc:=(D.int .i64)) (xs:=x14))<|aa.t 1<|aa.E<|SW.b h (λh=>SW.skip<|af<|SW.seq<|SW.block<|SW.seq<|SW.V<|bb.t 3<|bI h λx15 hx h=>bb.p (ax.gK hx)<|bb.t 1<|bI h λx16 hx h=>bb.p (s:=aI (some (.an p0 7)) (Go.Sh.D.cells ((D.int .i64) x16))) (ax.index (n:=1) hx)<|bb.t 4<|bb.D<|af<|SW.b h (λh=>SW.S<|aa.t 2<|bI h λr17 hr h=>aa.f (aZ hr)<|aa.t 1<|aa.E<|SW.ret<|az<|ag<|ag<|LR h (.inr (⟨(r17.1,r17.2),rfl,rfl,bW.ret [] κ κ⟩))) (λh=>SW.skip<|aB<|af<|SW.al<|aa.t 3<|aa.D<|LQ h)) (λh=>SW.kk 275 y13.2 (K6 p0 p1 p2 p3 p4 [(11,oB y5),(12,vI y5.2.2.2.1),(13,jQ x6)])<|SW.exit<|aG<|aG<|LR h (.inl ⟨y13.2,rfl,rfl,rfl⟩))) (by rintro _ _ (⟨v19,rfl,rfl,rfl⟩|⟨r24,rfl,rfl,hE⟩);exact have h:=gd h;aM<|af<|bI h λq20 hq20 h=>lj h λhk22 h=>bI h λH23 hx_11 h=>SW.kk 275 v19 (K6 p0 p1 p2 p3 p4 [(11,oB y5),(12,vI y5.2.2.2.1),(13,jQ x6)])<|SW.gI p0 7 λv21=>SW.lX [0,1,2,3,4,5,6] [7,8,9,10,11] κ κ<|au.t<|au.t<|au.t<|au.sg 275 (cK v19 p0 7 v21) [0,1,2,3,4,11,12,13,89,92] (K6 p0 p1 p2 p3 p4 [(11,oB y5),(12,vI y5.2.2.2.1),(13,jQ x6),(89,.d (.ptr p0 0)),(92,.d (.ptr p0 7))]) κ<|au.p (s:=.d (.raw v21)) (ax.Fl (c:=(cI .i64)) (n':=1) hq20 κ)<|au.t<|au.t<|au.D<|aa.sg 275 (cK v19 p0 7 v21) [93] [0,1,2,3,4,11,12,89,93,96] 1 (K6 p0 p1 p2 p3 p4 [(11,oB y5),(12,vI y5.2.2.2.1),(89,.d (.ptr p0 0)),(93,.d (.raw v21)),(96,M8 x6)]) κ<|aa.Km (c:=(cI .i64)) (n':=1) (t:=93) [0,1,2,3,4,11,12,89,93,96] (K6 p0 p1 p2 p3 p4 [(11,oB y5),(12,vI y5.2.2.2.1),(89,.d (.ptr p0 0)),(93,N9 q20),(96,M8 x6)]) hq20 κ κ κ<|aa.ap 93 1 (List.map (D.int .i64) (q20.1++[x6.Number])) (aS) (bx hk22)<|aa.ts [93] 1<|aa.ts [93] 1<|aa.gv 97 hx_11<|aa.D<|aB<|af<|SW.al<|aa.t 3<|aa.D<|LQ h;exact have h:=gb h;az<|ag<|az<|ag<|ag<|LR h (.inr (⟨r24,rfl,rfl,hE⟩))))) λjp8 h=>SW.qq<|aA.t 3<|bI h λx9 hx h=>aA.p (s:=.d (.agg [.list 1 (List.map (D.int .i64) x9.aq),.list 1 (List.map D.bool x9.Down),.int .i64 x9.cW])) (ax.cN hx)<|aA.t 1<|bI h λr10 hr h=>aA.d (CB hr)<|aA.s [] [0,1,2,3,4,11,12,13,55] 2<|aA.b2 (λb=>(sp 275 (K6 p0 p1 p2 p3 p4 [(11,oB y5),(12,vI y5.2.2.2.1),(13,jQ x6),(55,vB b)]) y5.2.2.2.2)) h (λh=>aA.t 8<|aA.D<|JQ [] h) λh=>aA.t 5<|bI h λx11 hx h=>aA.p (s:=vI x11) (ax.cN hx)<|aA.t 2<|aA.D<|JQ [] h) (λh=>SW.kk 275 y5.2.2.2.2 (K6 p0 p1 p2 p3 p4 [(11,oB y5)])<|SW.exit<|aG<|aG<|LR h (.inl ⟨(y5.1,y5.2.1,y5.2.2.1,y5.2.2.2.2),rfl,rfl,rfl⟩))) (by rintro _ _ (⟨v26,rfl,rfl,rfl⟩|⟨r85,rfl,rfl,hE⟩);exact have h:=gd h;aM<|af<|SW.seq<|SW.t 1<|SW.block<|bI h λz50 hit h=>SW.Fq 275 [0,1,2,3,4,11,15] (λy27=>(K53 p0 p1 p2 p3 p4 y27.1 y27.2.1 y27.2.2.1 [(15,vI y27.2.2.2.1)])) (λy27=>y27.2.2.2.2) (λb e s=>((∃v51,b=(.inl v51)/\(e=.exit 4/\s=(sp 275 (K53 p0 p1 p2 p3 p4 v51.1 v51.2.1 v51.2.2.1 []) v51.2.2.2)))\/(∃r84,b=(.inr r84)/\(e=.ret/\bW Tryz.prog Tryz.f46.results.toList r84.2 (vB r84.1) .ret s)))) hit κ (λy27 o h=>by unfold dz at h;exact SW.seq<|SW.S<|aa.t 3<|aa.p (ax.len (enc:=ab) (xs:=y27.2.1))<|aa.t 1<|aa.E<|SW.b h (λh=>SW.skip<|af<|SW.seq<|SW.block<|SW.S<|aa.t 3<|bI h λx28 hx h=>aa.p (s:=aI none (Go.Sh.D.cells (ab x28))) (ax.index (n:=3) hx)<|aa.t 3<|aa.E<|SW.seq<|SW.qq<|aA.s [] [0,1,2,3,4,11,15,16,114] 3<|aA.b2 (λb=>(sp 275 (K6 p0 p1 p2 p3 p4 [(11,oB y27),(15,vI y27.2.2.2.1),(16,jQ x28),(114,vB b)]) y27.2.2.2.2)) h (λh=>aA.t 5<|bI h λx29 hx h=>aA.p (s:=aI none (Go.Sh.D.cells (ab x29))) (ax.index (n:=3) hx)<|aA.t 2<|bI h λr30 hr h=>aA.g (ls:=[]) (dh hr)<|aA.s [] [0,1,2,3,4,11,15,16,126] 3<|aA.b2 (λb=>(sp 275 (K6 p0 p1 p2 p3 p4 [(11,oB y27),(15,vI y27.2.2.2.1),(16,jQ x28),(126,vB b)]) y27.2.2.2.2)) h (λh=>aA.t 25<|aA.D<|af<|SW.jL κ<|SW.S<|aa.t 2<|bI h λr31 hr h=>aa.f (aZ hr)<|aa.t 1<|aa.E<|SW.ret<|az<|ag<|ag<|LR h (.inr (⟨(r31.1,r31.2),rfl,rfl,bW.ret [] κ κ⟩))) λh=>aA.s [] [0,1,2,3,4,11,15,16,126,127] 1<|aA.oK p3 (λp=>(sp 275 (K6 p0 p1 p2 p p4 [(11,oB y27),(15,vI y27.2.2.2.1),(16,jQ x28),(126,vB false),(127,.d (cg ab p))]) y27.2.2.2.2)) κ (λhp_x32=>by rw[hp_x32]at h;exact have h:=ml h;aA.s [] [0,1,2,3,4,11,15,16,139,140] 13<|aA.oK p4 (λp=>(sp 275 (K10 p0 p1 [(2,vI p2),(3,.d (.dZ)),(4,.d (cg ab p)),(11,oB y27),(15,vI y27.2.2.2.1),(16,jQ x28),(139,vB false),(140,.d (cg ab p))]) y27.2.2.2.2)) κ (λhp_x33=>by rw[hp_x33]at h;exact have h:=ml h;aA.t 11<|aA.D<|af<|SW.N<|SW.skip<|aB<|af<|SW.al<|aa.t 3<|aa.D<|(by cases h;exact⟨(y27.1,y27.2.1,y27.2.2.1,(IntKind.wrap .i64 (y27.2.2.2.1+1)),y27.2.2.2.2),rfl,by rw[hp_x32,hp_x33];kernel_rfl⟩)) (λx33 hp_x33=>by rw[hp_x33]at h;exact have h:=mj h;aA.t 7<|bI h λr34 hr h=>aA.g (ls:=[]) (dh hr)<|aA.t 3<|aA.D<|af<|SW.b h (λh=>SW.S<|aa.t 2<|bI h λr35 hr h=>aa.f (aZ hr)<|aa.t 1<|aa.E<|SW.ret<|az<|ag<|ag<|LR h (.inr (⟨(r35.1,r35.2),rfl,rfl,bW.ret [] κ κ⟩))) (λh=>SW.skip<|aB<|af<|SW.al<|aa.t 3<|aa.D<|(by cases h;exact⟨(y27.1,y27.2.1,y27.2.2.1,(IntKind.wrap .i64 (y27.2.2.2.1+1)),y27.2.2.2.2),rfl,by rw[hp_x32,hp_x33];kernel_rfl⟩)))) (λx32 hp_x32=>by rw[hp_x32]at h;exact have h:=mj h;aA.t 7<|bI h λr36 hr h=>aA.g (ls:=[]) (dh hr)<|aA.s [] [0,1,2,3,4,11,15,16,139] 4<|aA.b2 (λb=>(sp 275 (K49 p0 p1 p2 x32 p4 y27 y27.2.2.2.1 x28 [(139,vB b)]) y27.2.2.2.2)) h (λh=>aA.t 12<|aA.D<|af<|SW.jL κ<|SW.S<|aa.t 2<|bI h λr37 hr h=>aa.f (aZ hr)<|aa.t 1<|aa.E<|SW.ret<|az<|ag<|ag<|LR h (.inr (⟨(r37.1,r37.2),rfl,rfl,bW.ret [] κ κ⟩))) λh=>aA.s [] [0,1,2,3,4,11,15,16,139,140] 1<|aA.oK p4 (λp=>(sp 275 (K49 p0 p1 p2 x32 p y27 y27.2.2.2.1 x28 [(139,vB false),(140,.d (cg ab p))]) y27.2.2.2.2)) κ (λhp_x38=>by rw[hp_x38]at h;exact have h:=ml h;aA.t 11<|aA.D<|af<|SW.N<|SW.skip<|aB<|af<|SW.al<|aa.t 3<|aa.D<|(by cases h;exact⟨(y27.1,y27.2.1,y27.2.2.1,(IntKind.wrap .i64 (y27.2.2.2.1+1)),y27.2.2.2.2),rfl,by rw[hp_x32,hp_x38];kernel_rfl⟩)) (λx38 hp_x38=>by rw[hp_x38]at h;exact have h:=mj h;aA.t 7<|bI h λr39 hr h=>aA.g (ls:=[]) (dh hr)<|aA.t 3<|aA.D<|af<|SW.b h (λh=>SW.S<|aa.t 2<|bI h λr40 hr h=>aa.f (aZ hr)<|aa.t 1<|aa.E<|SW.ret<|az<|ag<|ag<|LR h (.inr (⟨(r40.1,r40.2),rfl,rfl,bW.ret [] κ κ⟩))) (λh=>SW.skip<|aB<|af<|SW.al<|aa.t 3<|aa.D<|(by cases h;exact⟨(y27.1,y27.2.1,y27.2.2.1,(IntKind.wrap .i64 (y27.2.2.2.1+1)),y27.2.2.2.2),rfl,by rw[hp_x32,hp_x38];kernel_rfl⟩))))) λh=>aA.s [] [0,1,2,3,4,11,15,16,126,127] 13<|aA.oK p3 (λp=>(sp 275 (K6 p0 p1 p2 p p4 [(11,oB y27),(15,vI y27.2.2.2.1),(16,jQ x28),(126,vB false),(127,.d (cg ab p))]) y27.2.2.2.2)) κ (λhp_x41=>by rw[hp_x41]at h;exact have h:=ml h;aA.s [] [0,1,2,3,4,11,15,16,139,140] 13<|aA.oK p4 (λp=>(sp 275 (K10 p0 p1 [(2,vI p2),(3,.d (.dZ)),(4,.d (cg ab p)),(11,oB y27),(15,vI y27.2.2.2.1),(16,jQ x28),(139,vB false),(140,.d (cg ab p))]) y27.2.2.2.2)) κ (λhp_x42=>by rw[hp_x42]at h;exact have h:=ml h;aA.t 11<|aA.D<|af<|SW.N<|SW.skip<|aB<|af<|SW.al<|aa.t 3<|aa.D<|(by cases h;exact⟨(y27.1,y27.2.1,y27.2.2.1,(IntKind.wrap .i64 (y27.2.2.2.1+1)),y27.2.2.2.2),rfl,by rw[hp_x41,hp_x42];kernel_rfl⟩)) (λx42 hp_x42=>by rw[hp_x42]at h;exact have h:=mj h;aA.t 7<|bI h λr43 hr h=>aA.g (ls:=[]) (dh hr)<|aA.t 3<|aA.D<|af<|SW.b h (λh=>SW.S<|aa.t 2<|bI h λr44 hr h=>aa.f (aZ hr)<|aa.t 1<|aa.E<|SW.ret<|az<|ag<|ag<|LR h (.inr (⟨(r44.1,r44.2),rfl,rfl,bW.ret [] κ κ⟩))) (λh=>SW.skip<|aB<|af<|SW.al<|aa.t 3<|aa.D<|(by cases h;exact⟨(y27.1,y27.2.1,y27.2.2.1,(IntKind.wrap .i64 (y27.2.2.2.1+1)),y27.2.2.2.2),rfl,by rw[hp_x41,hp_x42];kernel_rfl⟩)))) (λx41 hp_x41=>by rw[hp_x41]at h;exact have h:=mj h;aA.t 7<|bI h λr45 hr h=>aA.g (ls:=[]) (dh hr)<|aA.s [] [0,1,2,3,4,11,15,16,139] 4<|aA.b2 (λb=>(sp 275 (K49 p0 p1 p2 x41 p4 y27 y27.2.2.2.1 x28 [(139,vB b)]) y27.2.2.2.2)) h (λh=>aA.t 12<|aA.D<|af<|SW.jL κ<|SW.S<|aa.t 2<|bI h λr46 hr h=>aa.f (aZ hr)<|aa.t 1<|aa.E<|SW.ret<|az<|ag<|ag<|LR h (.inr (⟨(r46.1,r46.2),rfl,rfl,bW.ret [] κ κ⟩))) λh=>aA.s [] [0,1,2,3,4,11,15,16,139,140] 1<|aA.oK p4 (λp=>(sp 275 (K49 p0 p1 p2 x41 p y27 y27.2.2.2.1 x28 [(139,vB false),(140,.d (cg ab p))]) y27.2.2.2.2)) κ (λhp_x47=>by rw[hp_x47]at h;exact have h:=ml h;aA.t 11<|aA.D<|af<|SW.N<|SW.skip<|aB<|af<|SW.al<|aa.t 3<|aa.D<|(by cases h;exact⟨(y27.1,y27.2.1,y27.2.2.1,(IntKind.wrap .i64 (y27.2.2.2.1+1)),y27.2.2.2.2),rfl,by rw[hp_x41,hp_x47];kernel_rfl⟩)) (λx47 hp_x47=>by rw[hp_x47]at h;exact have h:=mj h;aA.t 7<|bI h λr48 hr h=>aA.g (ls:=[]) (dh hr)<|aA.t 3<|aA.D<|af<|SW.b h (λh=>SW.S<|aa.t 2<|bI h λr49 hr h=>aa.f (aZ hr)<|aa.t 1<|aa.E<|SW.ret<|az<|ag<|ag<|LR h (.inr (⟨(r49.1,r49.2),rfl,rfl,bW.ret [] κ κ⟩))) (λh=>SW.skip<|aB<|af<|SW.al<|aa.t 3<|aa.D<|(by cases h;exact⟨(y27.1,y27.2.1,y27.2.2.1,(IntKind.wrap .i64 (y27.2.2.2.1+1)),y27.2.2.2.2),rfl,by rw[hp_x41,hp_x47];kernel_rfl⟩))))) (λh=>SW.kk 275 y27.2.2.2.2 (K6 p0 p1 p2 p3 p4 [(11,oB y27)])<|SW.exit<|aG<|aG<|LR h (.inl ⟨(y27.1,y27.2.1,y27.2.2.1,y27.2.2.2.2),rfl,rfl,rfl⟩))) (by rintro _ _ (⟨v51,rfl,rfl,rfl⟩|⟨r84,rfl,rfl,hE⟩);exact have h:=gd h;aM<|af<|SW.S<|aa.t 3<|bI h λx52 hx h=>aa.p (s:=vI x52) (ax.cN hx)<|aa.t 2<|aa.E<|SW.J 275 v51.2.2.2 [0,1,2,3,4,11,17] (λ(j53:Int)=>(K6 p0 p1 p2 p3 p4 [(11,B4 v51),(17,vI j53)])) h (λj53 h=>SW.S<|aa.t 2<|aa.p (ax.len (enc:=ab) (xs:=v51.2.1))<|aa.t 2<|aa.E<|SW.J 275 v51.2.2.2 [0,1,2,3,4,11,17,18] (λ(j55:Int)=>(K6 p0 p1 p2 p3 p4 [(11,B4 v51),(17,vI j53),(18,vI j55)])) h (λj55 h=>SW.J 275 v51.2.2.2 [0,1,3,4,11] (λ(j57:Unit)=>(K29 p0 p1 p3 p4 v51 [])) h (λj57 h=>SW.seq<|SW.t 1<|SW.block<|bI h λz81 hit h=>SW.Fq 275 [0,1,3,4,11,19] (λy65=>(K29 p0 p1 p3 p4 v51 [(19,vI y65.1)])) (λy65=>y65.2) (λb e s=>((∃v82,b=(.inl v82)/\(e=.exit 6/\s=(sp 275 [] v82)))\/(∃r83,b=(.inr r83)/\(e=.ret/\bW Tryz.prog Tryz.f46.results.toList r83.2 (vB r83.1) .ret s)))) hit κ (λy65 o h=>by unfold bZ at h;exact SW.seq<|SW.S<|aa.t 3<|aa.p (ax.len (enc:=(D.int .i64)) (xs:=v51.2.2.1))<|aa.t 1<|aa.E<|SW.b h (λh=>SW.skip<|af<|SW.seq<|SW.block<|SW.seq<|SW.J 275 y65.2 [0,1,3,4,11,19,240] (λ(j66:Bool)=>(K29 p0 p1 p3 p4 v51 [(19,vI y65.1),(240,vB j66)])) h (λj66 h=>SW.b h (λh=>SW.S<|aa.t 2<|bI h λr72 hr h=>aa.f (aZ hr)<|aa.t 1<|aa.E<|SW.ret<|ag<|az<|ag<|ag<|LR h (.inr (⟨(r72.1,r72.2),rfl,rfl,bW.ret [] κ κ⟩))) (λh=>SW.skip<|af<|SW.t 1<|SW.J 275 y65.2 [0,1,3,4,11,19,20,21] (λ(j73:(Option Entry))=>(K29 p0 p1 p3 p4 v51 [(19,vI y65.1),(20,.d (cg ab j73)),(21,.d (cg ab p4))])) h (λj73 h=>SW.J 275 y65.2 [0,1,3,4,11,19,20,21] (λ(j76:(Option Entry))=>(K29 p0 p1 p3 p4 v51 [(19,vI y65.1),(20,.d (cg ab j73)),(21,.d (cg ab j76))])) h (λj76 h=>SW.seq<|SW.fS 11 κ κ<|bb.t 4<|bI h λx79 hx h=>bb.p (s:=aI none (Go.Sh.D.cells ((D.int .i64) x79))) (ax.index (n:=1) hx)<|bb.t 6<|bb.D<|bI h λr80 hr h=>aa.f (ih hr)<|aa.t 1<|aa.E<|SW.b h (λh=>SW.t 1<|SW.ret<|az<|ag<|ag<|LR h (.inr (⟨(false,r80.2),rfl,rfl,bW.ret [] κ κ⟩))) (λh=>SW.skip<|aB<|af<|SW.al<|aa.t 3<|aa.D<|LQ h)) λjp77 h=>SW.S<|aa.t 3<|aa.p (ax.len (enc:=ab) (xs:=v51.2.1))<|aa.t 1<|aa.E<|SW.b h (λh=>SW.al<|aa.t 3<|bI h λx78 hx h=>aa.p (s:=aI none (Go.Sh.D.cells (ab x78))) (ax.index (n:=3) hx)<|aa.t 1<|aa.D<|JQ [] h) (λh=>SW.skip<|JQ [] h)) λjp74 h=>SW.t 1<|SW.b h (λh=>SW.al<|aa.t 4<|bI h λx75 hx h=>aa.p (s:=aI none (Go.Sh.D.cells (ab x75))) (ax.index (n:=3) hx)<|aa.t 1<|aa.D<|JQ [] h) (λh=>SW.skip<|JQ [] h))) λjp67 h=>SW.V<|bb.t 3<|bI h λx68 hx h=>bb.p (s:=aI none (Go.Sh.D.cells ((D.int .i64) x68))) (ax.index (n:=1) hx)<|bb.t 4<|bI h λx69 hx h=>bb.p (s:=vI x69) (ax.cN hx)<|bb.s [] [0,1,3,4,11,19,229] 2<|bb.b2 (λb=>(sp 275 (K29 p0 p1 p3 p4 v51 [(19,vI y65.1),(229,vB b)]) y65.2)) h (λh=>bb.t 11<|bb.D<|JQ [] h) λh=>bb.t 3<|bI h λx70 hx h=>bb.p (s:=vI x70) (ax.cN hx)<|bb.t 3<|bI h λx71 hx h=>bb.p (ax.gK hx)<|bb.p (ax.len (enc:=bn) (xs:=x71))<|bb.t 2<|bb.D<|JQ [] h) (λh=>SW.kk 275 y65.2 []<|SW.exit<|aG<|aG<|LR h (.inl ⟨y65.2,rfl,rfl,rfl⟩))) (by rintro _ _ (⟨v82,rfl,rfl,rfl⟩|⟨r83,rfl,rfl,hE⟩);exact have h:=gd h;aM<|af<|SW.t 1<|SW.ret<|iI h▸E0;exact have h:=gb h;az<|ag<|(by cases h;exact hE))) λjp58 h=>SW.seq<|SW.V<|bb.t 2<|bb.p (ax.len (enc:=ab) (xs:=v51.2.1))<|bb.t 3<|bI h λx59 hx h=>bb.p (s:=vI x59) (ax.cN hx)<|bb.s [] [0,1,2,3,4,11,17,18,180] 2<|bb.b2 (λb=>(sp 275 (K6 p0 p1 p2 p3 p4 [(11,B4 v51),(17,vI j53),(18,vI j55),(180,vB b)]) v51.2.2.2)) h (λh=>bb.t 28<|bb.D<|af<|SW.jL κ<|SW.S<|aa.t 2<|bI h λr60 hr h=>aa.f (aZ hr)<|aa.t 1<|aa.E<|SW.ret<|ag<|iI h▸E0) λh=>bb.t 2<|bb.p (ax.len (enc:=ab) (xs:=v51.2.1))<|bb.s [] [0,1,2,3,4,11,18,187] 4<|bb.mg 275 v51.2.2.2 [0,1,2,3,4,11,18,191] 4 (decide ((v51.2.1.length:Int)<j53)) (λb=>(sp 275 (K6 p0 p1 p2 p3 p4 [(11,B4 v51),(18,vI j55),(187,vB b)]) v51.2.2.2)) (λb=>(K6 p0 p1 p2 p3 p4 [(11,B4 v51),(18,vI j55),(191,vB (b||(decide (v51.1<0))))])) κ κ κ κ<|bb.s [] [0,1,2,3,4,11,18,192] 1<|bb.b2 (λb=>(sp 275 (K6 p0 p1 p2 p3 p4 [(11,B4 v51),(18,vI j55),(192,vB b)]) v51.2.2.2)) h (λh=>bb.t 16<|bb.D<|af<|SW.jL κ<|SW.S<|aa.t 2<|bI h λr61 hr h=>aa.f (aZ hr)<|aa.t 1<|aa.E<|SW.ret<|ag<|iI h▸E0) λh=>bb.s [] [0,1,2,3,4,11,18,192,195] 3<|bb.b2 (λb=>(sp 275 (K6 p0 p1 p2 p3 p4 [(11,B4 v51),(18,vI j55),(192,vB false),(195,vB b)]) v51.2.2.2)) h (λh=>bb.s [] [0,1,3,4,11,18,202] 7<|bb.b2 (λb=>(sp 275 (K29 p0 p1 p3 p4 v51 [(18,vI j55),(202,vB b)]) v51.2.2.2)) h (λh=>bb.t 6<|bb.D<|af<|SW.jL κ<|SW.S<|aa.t 2<|bI h λr62 hr h=>aa.f (aZ hr)<|aa.t 1<|aa.E<|SW.ret<|ag<|iI h▸E0) λh=>bb.t 2<|bb.p (ax.len (enc:=(D.int .i64)) (xs:=v51.2.2.1))<|bb.t 3<|bb.D<|af<|SW.b h (λh=>SW.S<|aa.t 2<|bI h λr63 hr h=>aa.f (aZ hr)<|aa.t 1<|aa.E<|SW.ret<|ag<|iI h▸E0) (λh=>SW.skip<|JQ [] h)) λh=>bb.t 9<|bb.p (ax.len (enc:=(D.int .i64)) (xs:=v51.2.2.1))<|bb.t 3<|bb.D<|af<|SW.b h (λh=>SW.S<|aa.t 2<|bI h λr64 hr h=>aa.f (aZ hr)<|aa.t 1<|aa.E<|SW.ret<|ag<|iI h▸E0) (λh=>SW.skip<|JQ [] h)) λjp56 h=>SW.t 1<|SW.b h (λh=>SW.al<|aa.t 1<|aa.D<|JQ [] h) (λh=>SW.skip<|JQ [] h)) λjp54 h=>SW.t 1<|SW.b h (λh=>SW.t 2<|SW.b h (λh=>SW.al<|aa.t 1<|aa.D<|JQ [] h) (λh=>SW.skip<|JQ [] h)) (λh=>SW.skip<|JQ [] h);exact have h:=gb h;az<|ag<|(by cases h;exact hE));exact have h:=gb h;az<|ag<|(by cases h;exact hE))
end
theorem tG{fuel:Nat}: ∀{p0:Nat} {p1:Int} {p2:Int} {p3:(Option Entry)} {p4:(Option Entry)} {H:Hp} {r:(Bool)×Hp},bS fuel p0 p1 p2 p3 p4 H=some r->SC Tryz.prog false 46 [.d (.ptr p0 0),vI p1,vI p2,.d (cg ab p3),.d (cg ab p4)] H (vB r.1) r.2:=by
 induction fuel with
 |zero=>intros;rename_i h;exact nomatch (show(none:Option ((Bool)×Hp))=some _ from h)
 |succ fuel ih=>exactλh=>rm ih h
theorem qL(x:ak):dU (bG x)=true:=by simp[bG,dU,en,eM (f:=(D.int .i64)) (λ_=>rfl),eM (f:=D.bool) (λ_=>rfl)]
theorem pK(x:Value):dU (ah x)=true:=by simp[ah,dU,en]
theorem BE(x:Entry):dU (ab x)=true:=by simp[ab,dU,en,eM (f:=ah) pK]
theorem C6(x:Node):dU (bn x)=true:=by simp[bn,dU,en,eM (f:=ab) BE,eM (f:=(D.int .i64)) (λ_=>rfl)]
def sk(fuel:Nat)(p0:ak)(p1:Int)(p2:Int)(p3:(List Node)):Option (Int×Int):=
 (qd fuel p0).bind λr1=>
 bif (!r1)then
  some (0,1)
 else
  bif (((decide (p1<3))||(decide (p1>32)))||(decide (p2<0)))then
   some (0,7)
  else
   bif ((p3.length:Int)==0)then
    some (0,12)
   else
    (kW [] (.cells [.d (.list 1 (List.map (D.int .i64) p0.aq)),.d (.list 1 (List.map D.bool p0.Down)),.d (.int .i64 p0.cW),.d (.int .i64 p1),.d (.int .i64 p2),.d (.list 3 (List.map bn p3)),.d (.int .i64 0),.own 1 (List.map (D.int .i64) ([]:List Int)),.d (.int .i64 (-1))])).bind λq2=>
    (bS fuel q2.2 0 (-1) none none q2.1).bind λr3=>
    bif (!r3.1)then
     (aR (cI .i64).cell r3.2 q2.2 8).bind λx4=>
     some (x4,12)
    else
     (aR (cI .i64).cell r3.2 q2.2 6).bind λx5=>
     bif (decide (x5<(p3.length:Int)))then
      (aR (cI .i64).cell r3.2 q2.2 6).bind λx6=>
      some (x6,12)
     else
      (aW 1 (cI .i64) r3.2 q2.2 7).bind λx7=>
      bif (decide ((x7.length:Int)>500))then
       some (0,4)
      else
       some ((-1),0)
section
attribute [local irreducible] aa aA bb au SW uS
def K59:=λa0 a1 a2 a3 (t:SL)=>((1,vI a0)::(2,vI a1)::(3,rN a2)::(4,Z1 a3)::t:SL)
theorem CD(h:sk fuel p0 p1 p2 p3=some r):PC Tryz.prog 14 [.d (bG p0),vI p1,vI p2,.d (.list 3 (List.map bn p3))] (.gC [vI r.1,vI r.2]):=by
 exact PC.rr Tryz.func14 rfl (by simp[fT,dU,en,vI,vB,vS,qL,eM (f:=bn) C6]) (by simp[fT,dU,en,vI,vB,vS])<|(by unfold sk at h;exact SW.kk 60 [] [(0,Z2 p0),(1,vI p1),(2,vI p2),(3,rN p3)]<|SW.t 1<|SW.seq<|SW.block<|SW.S<|aa.t 1<|bI h λr1 hr h=>aa.d (wA hr)<|aa.t 2<|aa.E<|SW.b h (λh=>SW.t 1<|SW.ret<|az<|ag<|iI h▸EL) (λh=>SW.S<|aa.s [] [1,2,3,4,18] 3<|aa.mg 60 [] [1,2,3,4,21] 3 (decide (p1<3)) (λb=>(sp 60 (K59 p1 p2 p3 p0 [(18,vB b)]) [])) (λb=>(K59 p1 p2 p3 p0 [(21,vB (b||(decide (p1>32))))])) κ κ κ<|aa.s [] [1,2,3,4,22] 1<|aa.mg 60 [] [1,2,3,4,25] 3 ((decide (p1<3))||(decide (p1>32))) (λb=>(sp 60 (K59 p1 p2 p3 p0 [(22,vB b)]) [])) (λb=>(K59 p1 p2 p3 p0 [(25,vB (b||(decide (p2<0))))])) κ κ κ<|aa.t 1<|aa.E<|SW.b h (λh=>SW.t 1<|SW.ret<|az<|ag<|iI h▸EL) (λh=>SW.S<|aa.t 1<|aa.p (ax.len (enc:=bn) (xs:=p3))<|aa.t 2<|aa.E<|SW.b h (λh=>SW.t 1<|SW.ret<|az<|ag<|iI h▸EL) (λh=>SW.skip<|aB<|af<|SW.S<|aa.t 5<|bI h λq2 hq h=>aa.nw [(7,1,true)] hq<|aa.t 1<|aa.E<|SW.seq<|SW.S<|aa.t 1<|bI h λr3 hr h=>aa.f (tG hr)<|aa.t 1<|aa.E<|SW.b h (λh=>SW.S<|aa.t 3<|bI h λx4 hx h=>aa.p (s:=vI x4) (ax.cN hx)<|aa.t 2<|aa.E<|SW.ret<|ag<|iI h▸EL) (λh=>SW.skip<|af<|SW.seq<|SW.S<|aa.t 3<|bI h λx5 hx h=>aa.p (s:=vI x5) (ax.cN hx)<|aa.t 1<|aa.p (ax.len (enc:=bn) (xs:=p3))<|aa.t 1<|aa.E<|SW.b h (λh=>SW.S<|aa.t 3<|bI h λx6 hx h=>aa.p (s:=vI x6) (ax.cN hx)<|aa.t 2<|aa.E<|SW.ret<|ag<|iI h▸EL) (λh=>SW.skip<|af<|SW.seq<|SW.S<|aa.t 3<|bI h λx7 hx h=>aa.p (ax.gK hx)<|aa.p (ax.len (enc:=(D.int .i64)) (xs:=x7))<|aa.t 1<|aa.E<|SW.b h (λh=>SW.t 1<|SW.ret<|ag<|iI h▸EL) (λh=>SW.skip<|af<|SW.t 1<|SW.ret<|iI h▸EL)))))))
def eC(fuel:Nat)(rc:((List Node)->Int->Option ((List Entry))))(p0:(List Node))(x1:Node)(y2:(List Entry)×Int):Option (((List Entry)×Int)⊕((List Entry))):=
 bif (decide (y2.2<(x1.Entries.length:Int)))then
  bif (decide ((x1.Kids.length:Int)>0))then
   (idx x1.Kids y2.2).bind λx3=>
   (rc p0 x3).bind λr4=>
   dx (decide ((y2.1++r4).length<=room))<|
   (idx x1.Entries y2.2).bind λx5=>
   dx (decide (((y2.1++r4)++[x5]).length<=room))<|
   some (.inl (((y2.1++r4)++[x5]),(IntKind.wrap .i64 (y2.2+1))))
  else
   (idx x1.Entries y2.2).bind λx6=>
   dx (decide ((y2.1++[x6]).length<=room))<|
   some (.inl ((y2.1++[x6]),(IntKind.wrap .i64 (y2.2+1))))
 else
  some (.inr y2.1)
def gh(fuel:Nat)(rc:((List Node)->Int->Option ((List Entry))))(p0:(List Node))(p1:Int):Option ((List Entry)):=
 (idx p0 p1).bind λx1=>
 (iter (eC fuel rc p0 x1) fuel (([]:List Entry),0)).bind λv8=>
 bif (decide ((x1.Kids.length:Int)>0))then
  (idx x1.Kids (IntKind.wrap .i64 ((x1.Kids.length:Int) - 1))).bind λx9=>
  (rc p0 x9).bind λr10=>
  dx (decide ((v8++r10).length<=room))<|
  some (v8++r10)
 else
  some v8
def gH:Nat->((List Node)->Int->Option ((List Entry)))
 |0=>λ_ _=>none
 |fuel+1=>gh fuel (gH fuel)
def N7(x0:(List Entry)×Int):SV:=.own 3 (List.map ab x0.1)
theorem wz{fuel:Nat}{rc:((List Node)->Int->Option ((List Entry)))}(ih: ∀{p0:(List Node)} {p1:Int} {r:(List Entry)},rc p0 p1=some r->PC Tryz.prog 92 [.d (.list 3 (List.map bn p0)),vI p1] (.own 3 (List.map ab r))){p0:(List Node)}{p1:Int}{r:(List Entry)}(h:gh fuel rc p0 p1=some r):PC Tryz.prog 92 [.d (.list 3 (List.map bn p0)),vI p1] (.own 3 (List.map ab r)):=by
 refine PC.bo Tryz.func92 rfl λH=>?_
 unfold gh at h
 exact SW.kk 57 H [(0,rN p0),(1,vI p1)]<|SW.t 1<|SW.S<|aa.t 2<|bI h λx1 hx h=>aa.p (s:=aI none (Go.Sh.D.cells (bn x1))) (ax.index (n:=3) hx)<|aa.t 3<|aa.E<|SW.t 1<|SW.seq<|SW.t 1<|SW.block<|bI h λv8 hit h=>SW.it 57 H [0,5,6,7] (λy2=>[(0,rN p0),(5,qA x1),(6,.own 3 (List.map ab y2.1)),(7,vI y2.2)]) (λv8 e s=>(e=.exit 0/\s=(sp 57 [(0,rN p0),(5,qA x1),(6,.own 3 (List.map ab v8))] H))) hit κ (λy2 o h=>by unfold eC at h;exact SW.seq<|SW.S<|aa.t 3<|aa.p (ax.len (enc:=ab) (xs:=x1.Entries))<|aa.t 1<|aa.E<|SW.b h (λh=>SW.skip<|af<|SW.seq<|SW.block<|SW.seq<|SW.S<|aa.t 2<|aa.p (ax.len (enc:=(D.int .i64)) (xs:=x1.Kids))<|aa.t 1<|aa.E<|SW.b h (λh=>SW.al<|aa.ts [23] 5<|bI h λx3 hx h=>aa.p (s:=aI none (Go.Sh.D.cells ((D.int .i64) x3))) (ax.index (n:=1) hx)<|aa.ts [23] 1<|bI h λr4 hr h=>aa.d (ih hr)<|lj h λhk h=>aa.ap 23 3 (List.map ab (y2.1++r4)) (aS) (bx hk)<|aa.ts [23] 1<|aa.E<|SW.al<|aa.ts [32] 4<|bI h λx5 hx h=>aa.p (s:=aI none (Go.Sh.D.cells (ab x5))) (ax.index (n:=3) hx)<|aa.ts [32] 2<|lj h λhk h=>aa.ap 32 3 (List.map ab ((y2.1++r4)++[x5])) (aS) (bx hk)<|aa.ts [32] 1<|aa.D<|aB<|af<|SW.al<|aa.t 3<|aa.D<|LQ h) (λh=>SW.skip<|af<|SW.al<|aa.ts [32] 4<|bI h λx6 hx h=>aa.p (s:=aI none (Go.Sh.D.cells (ab x6))) (ax.index (n:=3) hx)<|aa.ts [32] 2<|lj h λhk h=>aa.ap 32 3 (List.map ab (y2.1++[x6])) (aS) (bx hk)<|aa.ts [32] 1<|aa.D<|aB<|af<|SW.al<|aa.t 3<|aa.D<|LQ h)) (λh=>SW.kk 57 H [(0,rN p0),(5,qA x1),(6,N7 y2)]<|SW.exit<|aG<|aG<|LR h ⟨rfl,rfl⟩)) (by rintro _ _ ⟨rfl,rfl⟩;exact aM<|af<|SW.seq<|SW.S<|aa.t 2<|aa.p (ax.len (enc:=(D.int .i64)) (xs:=x1.Kids))<|aa.t 1<|aa.E<|SW.b h (λh=>SW.al<|aa.ts [44] 6<|aa.p (ax.len (enc:=(D.int .i64)) (xs:=x1.Kids))<|aa.ts [44] 1<|bI h λx9 hx h=>aa.p (s:=aI none (Go.Sh.D.cells ((D.int .i64) x9))) (ax.index (n:=1) hx)<|aa.ts [44] 1<|bI h λr10 hr h=>aa.d (ih hr)<|lj h λhk h=>aa.ap 44 3 (List.map ab (v8++r10)) (aS) (bx hk)<|aa.ts [44] 1<|aa.E<|SW.S<|aa.ts [56] 2<|aa.E<|SW.ret<|iI h▸E0) (λh=>SW.skip<|af<|SW.S<|aa.ts [56] 2<|aa.E<|SW.ret<|iI h▸E0))
end
theorem zE{fuel:Nat}: ∀{p0:(List Node)} {p1:Int} {r:(List Entry)},gH fuel p0 p1=some r->PC Tryz.prog 92 [.d (.list 3 (List.map bn p0)),vI p1] (.own 3 (List.map ab r)):=by
 induction fuel with
 |zero=>intros;rename_i h;exact nomatch (show(none:Option ((List Entry)))=some _ from h)
 |succ fuel ih=>exactλh=>wz ih h
def wF(fuel:Nat)(p0:ak)(p1:Int)(p2:Int)(p3:(List Node)):Option (Tree×Int×Int):=
 (sk fuel p0 p1 p2 p3).bind λr1=>
 bif (r1.2 !=0)then
  some ((⟨(⟨([]:List Int),([]:List Bool),0⟩:ak),0,([]:List Entry),0⟩:Tree),r1.1,r1.2)
 else
  (gH fuel p3 0).bind λr2=>
  some ((⟨p0,p1,r2,p2⟩:Tree),r1.1,0)
def N6(x0:ak)(x1:Int)(x2:(List Entry))(x3:Int):SV:=.box [.d (.list 1 (List.map (D.int .i64) x0.aq)),.d (.list 1 (List.map D.bool x0.Down)),vI x0.cW,vI x1,.d (.list 3 (List.map ab x2)),vI x3]
section
attribute [local irreducible] aa aA bb au SW uS
theorem EZ(h:wF fuel p0 p1 p2 p3=some r):PC Tryz.prog 69 [.d (bG p0),vI p1,vI p2,.d (.list 3 (List.map bn p3))] (.gC [.d (.agg [.list 1 (List.map (D.int .i64) r.1.S.aq),.list 1 (List.map D.bool r.1.S.Down),.int .i64 r.1.S.cW,.int .i64 r.1.Order,.list 3 (List.map ab r.1.du),.int .i64 r.1.eP]),vI r.2.1,vI r.2.2]):=by
 refine PC.bo Tryz.func69 rfl λH=>?_
 unfold wF at h
 exact SW.kk 33 H [(0,Z2 p0),(1,vI p1),(2,vI p2),(3,rN p3)]<|SW.t 1<|SW.S<|aa.t 4<|bI h λr1 hr h=>aa.d (CD hr)<|aa.t 5<|aa.E<|SW.seq<|SW.t 1<|SW.b h (λh=>SW.r 1 [8,9,10]<|SW.nq 8 0 1 33 H [8,9,10] [(8,LF),(9,vI r1.1),(10,vI r1.2)] κ<|SW.nq 8 1 1 33 H [8,9,10] [(8,LD),(9,vI r1.1),(10,vI r1.2)] κ<|SW.nq 8 4 3 33 H [8,9,10] [(8,LB),(9,vI r1.1),(10,vI r1.2)] κ<|SW.ret<|ag<|iI h▸E0) (λh=>SW.skip<|af<|SW.seq<|bI h λr2 hr_3 h=>SW.kk 33 H (K59 p1 p2 p3 p0 [(8,qB),(11,vI r1.1)])<|SW.qG 33 H [(8,N6 p0 p1 r2 p2),(9,vI r1.1),(10,vI 0)] [1,2,4,6] 6 86 κ κ κ (λX hX=>by subst hX;exact au.t<|au.t<|au.t<|au.sg 33 H [4,8,27,28,30,32] [(4,Z1 p0),(8,qB),(27,vI p1),(28,rN p3),(30,vI p2),(32,vI r1.1)] κ<|au.D<|OX.auto [] [(3,eV _),(5,eF 29)] ⟨EV.c (zE hr_3),EV.z,trivial⟩) (af<|SW.ret<|iI h▸E0))
def fe(fuel:Nat)(p0:(List Entry))(p1:(List Entry))(y1:Int):Option ((Int)⊕((Unit)⊕((Bool)))):=
 bif (decide (y1<(p0.length:Int)))then
  (idx p0 y1).bind λx2=>
  (idx p1 y1).bind λx3=>
  bif (x2.Key !=x3.Key)then
   some (.inr (.inr false))
  else
   (idx p0 y1).bind λx4=>
   (idx p1 y1).bind λx5=>
   bif (x4.Number !=x5.Number)then
    some (.inr (.inr false))
   else
    (idx p0 y1).bind λx6=>
    (idx p1 y1).bind λx7=>
    (hZ fuel x6.Row x7.Row).bind λr8=>
    bif (!r8)then
     some (.inr (.inr false))
    else
     some (.inl (IntKind.wrap .i64 (y1+1)))
 else
  some (.inr (.inl ()))
def fP(fuel:Nat)(p0:(List Entry))(p1:(List Entry)):Option (Bool):=
 bif ((p0.length:Int) !=(p1.length:Int))then
  some false
 else
  (iter (fe fuel p0 p1) fuel 0).bind (Sum.elim (λv10=>
   some true) (λr11=>
   some r11))
theorem nC(h:fP fuel p0 p1=some r):PC Tryz.prog 16 [.d (.list 3 (List.map ab p0)),.d (.list 3 (List.map ab p1))] (vB r):=by
 refine PC.bo Tryz.func16 rfl λH=>?_
 unfold fP at h
 exact SW.kk 55 H [(0,B3 p0),(1,B3 p1)]<|SW.t 1<|SW.seq<|SW.S<|aa.t 1<|aa.p (ax.len (enc:=ab) (xs:=p0))<|aa.t 1<|aa.p (ax.len (enc:=ab) (xs:=p1))<|aa.t 1<|aa.E<|SW.b h (λh=>SW.t 1<|SW.ret<|ag<|iI h▸E0) (λh=>SW.skip<|af<|SW.seq<|SW.t 1<|SW.block<|bI h λz9 hit h=>SW.it 55 H [0,1,5] (λy1=>[(0,B3 p0),(1,B3 p1),(5,vI y1)]) (λb e s=>((∃v10,b=(.inl v10)/\(e=.exit 0/\s=(sp 55 [] H)))\/(∃r11,b=(.inr r11)/\(e=.ret/\bW Tryz.prog Tryz.f16.results.toList H (vB r11) .ret s)))) hit κ (λy1 o h=>by unfold fe at h;exact SW.seq<|SW.S<|aa.t 2<|aa.p (ax.len (enc:=ab) (xs:=p0))<|aa.t 1<|aa.E<|SW.b h (λh=>SW.skip<|af<|SW.seq<|SW.block<|SW.seq<|SW.qq<|aA.t 2<|bI h λx2 hx h=>aA.p (s:=aI none (Go.Sh.D.cells (ab x2))) (ax.index (n:=3) hx)<|aA.t 4<|bI h λx3 hx h=>aA.p (s:=aI none (Go.Sh.D.cells (ab x3))) (ax.index (n:=3) hx)<|aA.s [] [0,1,5,28] 4<|aA.b2 (λb=>(sp 55 [(0,B3 p0),(1,B3 p1),(5,vI y1),(28,vB b)] H)) h (λh=>aA.t 26<|aA.D<|af<|SW.jL κ<|SW.t 1<|SW.ret<|az<|ag<|ag<|LR h (.inr (⟨false,rfl,rfl,bW.ret [] κ κ⟩))) λh=>aA.t 2<|bI h λx4 hx h=>aA.p (s:=aI none (Go.Sh.D.cells (ab x4))) (ax.index (n:=3) hx)<|aA.t 4<|bI h λx5 hx h=>aA.p (s:=aI none (Go.Sh.D.cells (ab x5))) (ax.index (n:=3) hx)<|aA.s [] [0,1,5,41] 5<|aA.b2 (λb=>(sp 55 [(0,B3 p0),(1,B3 p1),(5,vI y1),(41,vB b)] H)) h (λh=>aA.t 13<|aA.D<|af<|SW.jL κ<|SW.t 1<|SW.ret<|az<|ag<|ag<|LR h (.inr (⟨false,rfl,rfl,bW.ret [] κ κ⟩))) λh=>aA.t 2<|bI h λx6 hx h=>aA.p (s:=aI none (Go.Sh.D.cells (ab x6))) (ax.index (n:=3) hx)<|aA.t 4<|bI h λx7 hx h=>aA.p (s:=aI none (Go.Sh.D.cells (ab x7))) (ax.index (n:=3) hx)<|aA.t 2<|bI h λr8 hr h=>aA.d (mC hr)<|aA.t 2<|aA.D<|af<|SW.b h (λh=>SW.t 1<|SW.ret<|az<|ag<|ag<|LR h (.inr (⟨false,rfl,rfl,bW.ret [] κ κ⟩))) (λh=>SW.skip<|aB<|af<|SW.al<|aa.t 3<|aa.D<|LQ h)) (λh=>SW.kk 55 H []<|SW.exit<|aG<|aG<|LR h (.inl ⟨(),rfl,rfl,rfl⟩))) (by rintro _ _ (⟨v10,rfl,rfl,rfl⟩|⟨r11,rfl,rfl,hE⟩);exact have h:=gd h;aM<|af<|SW.t 1<|SW.ret<|iI h▸E0;exact have h:=gb h;az<|ag<|(by cases h;exact hE)))
def jv(fuel:Nat)(p0:Nat)(H:Hp):Option (Int):=
 (aR (cI .i64).cell H p0 6).bind λx1=>
 some x1
theorem k9(h:jv fuel p0 H=some r):SC Tryz.prog true 70 [.d (.ptr p0 0)] H (vI r) H:=by
 refine SC.lh Tryz.func70 rfl ?_
 unfold jv at h
 exact SW.kk 9 H [(0,.d (.ptr p0 0))]<|SW.t 1<|SW.seq<|SW.t 1<|SW.N<|SW.skip<|af<|SW.S<|aa.t 3<|bI h λx1 hx h=>aa.p (s:=vI x1) (ax.cN hx)<|aa.t 1<|aa.E<|SW.ret<|iI h▸E0
def gl(fuel:Nat)(p0:Tree)(y1:(List Int)×Int):Option (((List Int)×Int)⊕((List Int))):=
 bif (decide (y1.2<(p0.du.length:Int)))then
  (idx p0.du y1.2).bind λx2=>
  dx (decide ((y1.1++[x2.Key]).length<=room))<|
  some (.inl ((y1.1++[x2.Key]),(IntKind.wrap .i64 (y1.2+1))))
 else
  some (.inr y1.1)
def kR(fuel:Nat)(p0:Tree):Option ((List Int)):=
 (iter (gl fuel p0) fuel (([]:List Int),0)).bind λv4=>
 some v4
def N5(x0:Int)(x1:Tree):SV:=vB (x0==(x1.du.length:Int))
def N4(x0:(List Int)×Int):SV:=.own 1 (List.map (D.int .i64) x0.1)
theorem wD(h:kR fuel p0=some r):PC Tryz.prog 71 [.d (lC p0)] (.own 1 (List.map (D.int .i64) r)):=by
 refine PC.bo Tryz.func71 rfl λH=>?_
 unfold kR at h
 exact SW.kk 22 H [(0,s8 p0)]<|SW.t 2<|SW.seq<|SW.t 1<|SW.block<|bI h λv4 hit h=>SW.it 22 H [1,3,4] (λy1=>[(1,pV p0),(3,.own 1 (List.map (D.int .i64) y1.1)),(4,vI y1.2)]) (λv4 e s=>(e=.exit 0/\s=(sp 22 [(3,.own 1 (List.map (D.int .i64) v4))] H))) hit κ (λy1 o h=>by unfold gl at h;exact SW.seq<|SW.S<|aa.t 3<|aa.p (ax.len (enc:=ab) (xs:=p0.du))<|aa.t 1<|aa.E<|SW.b h (λh=>SW.skip<|af<|SW.seq<|SW.block<|SW.al<|aa.ts [12] 4<|bI h λx2 hx h=>aa.p (s:=aI none (Go.Sh.D.cells (ab x2))) (ax.index (n:=3) hx)<|aa.ts [12] 3<|lj h λhk h=>aa.ap 12 1 (List.map (D.int .i64) (y1.1++[x2.Key])) (aS) (bx hk)<|aa.ts [12] 1<|aa.D<|aB<|af<|SW.al<|aa.t 3<|aa.D<|LQ h) (λh=>SW.kk 22 H [(3,N4 y1)]<|SW.exit<|aG<|aG<|LR h ⟨rfl,rfl⟩)) (by rintro _ _ ⟨rfl,rfl⟩;exact aM<|af<|SW.S<|aa.ts [21] 2<|aa.E<|SW.ret<|iI h▸E0)
def fI(fuel:Nat)(p0:(List Int))(p1:(List Int))(y1:Int):Option ((Int)⊕((Unit)⊕((Bool)))):=
 bif (decide (y1<(p0.length:Int)))then
  (idx p0 y1).bind λx2=>
  (idx p1 y1).bind λx3=>
  bif (x2 !=x3)then
   some (.inr (.inr false))
  else
   some (.inl (IntKind.wrap .i64 (y1+1)))
 else
  some (.inr (.inl ()))
def jz(fuel:Nat)(p0:(List Int))(p1:(List Int)):Option (Bool):=
 bif ((p0.length:Int) !=(p1.length:Int))then
  some false
 else
  (iter (fI fuel p0 p1) fuel 0).bind (Sum.elim (λv5=>
   some true) (λr6=>
   some r6))
theorem vi(h:jz fuel p0 p1=some r):PC Tryz.prog 21 [.d (.list 1 (List.map (D.int .i64) p0)),.d (.list 1 (List.map (D.int .i64) p1))] (vB r):=by
 refine PC.bo Tryz.func21 rfl λH=>?_
 unfold jz at h
 exact SW.kk 26 H [(0,JJ p0),(1,JJ p1)]<|SW.t 1<|SW.seq<|SW.S<|aa.t 1<|aa.p (ax.len (enc:=(D.int .i64)) (xs:=p0))<|aa.t 1<|aa.p (ax.len (enc:=(D.int .i64)) (xs:=p1))<|aa.t 1<|aa.E<|SW.b h (λh=>SW.t 1<|SW.ret<|ag<|iI h▸E0) (λh=>SW.skip<|af<|SW.seq<|SW.t 1<|SW.block<|bI h λz4 hit h=>SW.it 26 H [0,1,5] (λy1=>[(0,JJ p0),(1,JJ p1),(5,vI y1)]) (λb e s=>((∃v5,b=(.inl v5)/\(e=.exit 0/\s=(sp 26 [] H)))\/(∃r6,b=(.inr r6)/\(e=.ret/\bW Tryz.prog Tryz.f21.results.toList H (vB r6) .ret s)))) hit κ (λy1 o h=>by unfold fI at h;exact SW.seq<|SW.S<|aa.t 2<|aa.p (ax.len (enc:=(D.int .i64)) (xs:=p0))<|aa.t 1<|aa.E<|SW.b h (λh=>SW.skip<|af<|SW.seq<|SW.block<|SW.seq<|SW.V<|bb.t 2<|bI h λx2 hx h=>bb.p (s:=aI none (Go.Sh.D.cells ((D.int .i64) x2))) (ax.index (n:=1) hx)<|bb.t 3<|bI h λx3 hx h=>bb.p (s:=aI none (Go.Sh.D.cells ((D.int .i64) x3))) (ax.index (n:=1) hx)<|bb.t 2<|bb.D<|af<|SW.b h (λh=>SW.t 1<|SW.ret<|az<|ag<|ag<|LR h (.inr (⟨false,rfl,rfl,bW.ret [] κ κ⟩))) (λh=>SW.skip<|aB<|af<|SW.al<|aa.t 3<|aa.D<|LQ h)) (λh=>SW.kk 26 H []<|SW.exit<|aG<|aG<|LR h (.inl ⟨(),rfl,rfl,rfl⟩))) (by rintro _ _ (⟨v5,rfl,rfl,rfl⟩|⟨r6,rfl,rfl,hE⟩);exact have h:=gd h;aM<|af<|SW.t 1<|SW.ret<|iI h▸E0;exact have h:=gb h;az<|ag<|(by cases h;exact hE)))
def iF(fuel:Nat)(p0:Nat)(p1:Tree)(H:Hp):Option ((Bool)×Hp):=
 (fx fuel p0 H).bind λr1=>
 (wF fuel p1.S p1.Order p1.eP r1.1).bind λr2=>
 aP (λ(j3:Bool)=>
  bif j3 then
   some (false,r1.2)
  else
   (jv fuel p0 r1.2).bind λr8=>
   bif (r8==(p1.du.length:Int))then
    (iX fuel p0 r1.2).bind λr24=>
    bif (r24==p1.eP)then
     (ka fuel p0 r1.2).bind λr35=>
     (fP fuel r35.1 p1.du).bind λr46=>
     bif r46 then
      (iY fuel p0 r35.2).bind λr47=>
      (kR fuel p1).bind λr58=>
      (jz fuel r47.1 r58).bind λr59=>
      some (r59,r47.2)
     else
      some (false,r35.2)
    else
     some (false,r1.2)
   else
    some (false,r1.2)) λjp4=>
 bif ((r2.2.2 !=0)||(r2.2.1 !=(-1)))then
  jp4 true
 else
  (fP fuel r2.1.du p1.du).bind λr5=>
  bif (!r5)then
   jp4 true
  else
   (eK fuel p0 r1.2).bind λr6=>
   (idx r1.1 0).bind λx7=>
   jp4 (r6 !=(IntKind.wrap .i64 (x7.Level+1)))
def K11:=λa0 a1 (t:SL)=>((0,.d (.ptr a0 0))::(3,pV a1)::t:SL)
theorem ku(h:iF fuel p0 p1 H=some r):SC Tryz.prog false 41 [.d (.ptr p0 0),.d (lC p1)] H (vB r.1) r.2:=by
 refine SC.fc Tryz.func41 rfl ?_
 unfold iF at h
 exact SW.kk 74 H [(0,.d (.ptr p0 0)),(1,s8 p1)]<|SW.t 1<|SW.S<|aa.t 1<|bI h λr1 hr h=>aa.f (bX hr)<|aa.t 1<|aa.E<|SW.S<|aa.t 7<|bI h λr2 hr h=>aa.d (EZ hr)<|aa.t 8<|aa.E<|SW.seq<|SW.J 74 r1.2 [0,3,46] (λ(j3:Bool)=>(K11 p0 p1 [(46,vB j3)])) h (λj3 h=>SW.b h (λh=>SW.t 1<|SW.ret<|ag<|iI h▸E0) (λh=>SW.skip<|af<|SW.seq<|SW.K (K11 p0 p1 [])<|SW.zD 28 κ κ (λl=>OL.G (d':=26) [0,2] (K11 p0 p1 [(47,.d (.ptr p0 0)),(49,.loc 3 4)])<|bI h λr8 hr_1 h=>OL.fW (b:=true) (H:=r1.2) 23 31 74 (K11 p0 p1 [(48,vI r8),(51,Io p1)]) (OL.G (d':=21) [5,6] (K11 p0 p1 [(53,N5 r8 p1)])<|OL.case (r8==(p1.du.length:Int)) (λb=>(sp 74 (K11 p0 p1 [(53,vB b)]) r1.2)) κ (λhc=>have h:=eQ hc h;OL.G (d':=19) [7,9] (K11 p0 p1 [(53,vB true),(54,.d (.ptr p0 0)),(56,.loc 3 5)])<|bI h λr24 hr_8 h=>OL.fW (b:=true) (H:=r1.2) 17 2047 74 (K11 p0 p1 [(53,vB true),(55,vI r24),(57,vI p1.eP)]) (OL.G (d':=14) [11,12,13] (K11 p0 p1 [(60,vB (r24==p1.eP))])<|OL.case (r24==p1.eP) (λb=>(sp 74 (K11 p0 p1 [(60,vB b)]) r1.2)) κ (λhc=>have h:=eQ hc h;OL.G (d':=12) [14,16] (K11 p0 p1 [(60,vB true),(61,.d (.ptr p0 0)),(63,.loc 3 4)])<|bI h λr35 hr_15 h=>OL.fW (b:=true) (H:=r35.2) 10 262143 74 (K11 p0 p1 [(60,vB true),(62,.own 3 (List.map ab r35.1)),(64,xY p1)]) (bI h λr46 hr_18 h=>OL.F 18 aT<|aa.C (d:=some 65) (ls:=[(.slot 62)]) (gs:=[]) [] (K11 p0 p1 [(60,vB true),(65,vB r46)]) (nC hr_18)<|aa.D<|OL.G (d':=7) [19,20] (K11 p0 p1 [(67,vB r46)])<|OL.case r46 (λb=>(sp 74 (K11 p0 p1 [(67,vB b)]) r35.2)) κ (λhc=>have h:=eQ hc h;OL.G (d':=6) [21] [(3,pV p1),(67,vB true),(68,.d (.ptr p0 0))]<|bI h λr47 hr_22 h=>OL.fW (b:=true) (H:=r47.2) 4 16777215 74 [(67,vB true),(69,.own 1 (List.map (D.int .i64) r47.1)),(70,s8 p1)] (bI h λr58 hr_24 h=>OL.F 24 aT<|aa.C0 (some 71) [(67,vB true),(69,FK r47),(71,.own 1 (List.map (D.int .i64) r58))] (wD hr_24)<|aa.D<|bI h λr59 hr_25 h=>OL.F 25 aT<|aa.C (d:=some 72) (ls:=[(.slot 69),(.slot 71)]) (gs:=[]) [] [(67,vB true),(72,vB r59)] (vi hr_25)<|aa.D<|OL.G (d':=0) [26,27] [(4,vB r59)]<|OL.fin κ<|af<|SW.ret<|iI h▸E0) (λc16777215=>OL.fW (b:=true) (H:=r47.2) 5 8388607 74 [(3,pV p1),(67,vB true),(69,.own 1 (List.map (D.int .i64) r47.1))] (OL.step (i0:=23) (is:=[]) κ ⟨bw.W (aa.sg 74 r47.2 [] [67,69,70] 1 [(67,vB true),(69,FK r47),(70,s8 p1)] κ<|aa.D<|c16777215) aT,trivial⟩) (λc8388607=>OL.fW (b:=true) (H:=r35.2) 5 12582911 74 [(67,vB true),(68,.d (.ptr p0 0)),(70,s8 p1)] (OL.step (i0:=22) (is:=[]) κ ⟨bw.W (aa.hP 74 [(67,vB true),(69,FK r47),(70,s8 p1)] (lU hr_22)<|aa.D<|c16777215) aT,trivial⟩) (λc12582911=>OL.step (i0:=22) (is:=[23]) κ ⟨bw.W (aa.CH (some 69) [(3,pV p1),(67,vB true),(69,.own 1 (List.map (D.int .i64) r47.1))] (lU hr_22)<|aa.D<|c8388607) aT,bw.W (aa.G 1 [(67,vB true),(68,.d (.ptr p0 0)),(70,s8 p1)]<|aa.D<|c12582911) aT,trivial⟩)))) (λhc=>have h:=eR hc h;OL.G (d':=0) [21,23,22,24,25,26,27] [(4,vB false)]<|OL.fin κ<|af<|SW.ret<|iI h▸E0)) (λc262143=>OL.fW (b:=true) (H:=r35.2) 11 131071 74 (K11 p0 p1 [(60,vB true),(62,.own 3 (List.map ab r35.1)),(63,.loc 3 4)]) (OL.step (i0:=17) (is:=[]) κ ⟨bw.W (aa.sg 74 r35.2 [] [0,3,60,62,64] 1 (K11 p0 p1 [(60,vB true),(62,LG r35),(64,xY p1)]) κ<|aa.D<|c262143) aT,trivial⟩) (λc131071=>OL.fW (b:=true) (H:=r1.2) 11 229375 74 (K11 p0 p1 [(60,vB true),(61,.d (.ptr p0 0)),(64,xY p1)]) (OL.step (i0:=15) (is:=[]) κ ⟨bw.W (aa.hP 74 (K11 p0 p1 [(60,vB true),(62,LG r35),(64,xY p1)]) (mO hr_15)<|aa.D<|c262143) aT,trivial⟩) (λc229375=>OL.step (i0:=15) (is:=[17]) κ ⟨bw.W (aa.CH (some 62) (K11 p0 p1 [(60,vB true),(62,.own 3 (List.map ab r35.1)),(63,.loc 3 4)]) (mO hr_15)<|aa.D<|c131071) aT,bw.W (aa.G 1 (K11 p0 p1 [(60,vB true),(61,.d (.ptr p0 0)),(64,xY p1)])<|aa.D<|c229375) aT,trivial⟩)))) (λhc=>have h:=eR hc h;OL.G (d':=0) [14,16,17,15,18,19,20,21,23,22,24,25,26,27] [(4,vB false)]<|OL.fin κ<|af<|SW.ret<|iI h▸E0)) (λc2047=>OL.fW (b:=true) (H:=r1.2) 18 1023 74 (K11 p0 p1 [(53,vB true),(55,vI r24),(56,.loc 3 5)]) (OL.step (i0:=10) (is:=[]) κ ⟨bw.W (aa.sg 74 r1.2 [] [0,3,53,55,57] 1 (K11 p0 p1 [(53,vB true),(55,vI r24),(57,vI p1.eP)]) κ<|aa.D<|c2047) aT,trivial⟩) (λc1023=>OL.fW (b:=true) (H:=r1.2) 18 1791 74 (K11 p0 p1 [(53,vB true),(54,.d (.ptr p0 0)),(57,vI p1.eP)]) (OL.step (i0:=8) (is:=[]) κ ⟨bw.W (aa.qP (ls:=[]) 74 r1.2 (K11 p0 p1 [(53,vB true),(55,vI r24),(57,vI p1.eP)]) (dJ hr_8)<|aa.D<|c2047) aT,trivial⟩) (λc1791=>OL.step (i0:=8) (is:=[10]) κ ⟨bw.W (aa.CR (ls:=[]) (some 55) (K11 p0 p1 [(53,vB true),(55,vI r24),(56,.loc 3 5)]) (dJ hr_8)<|aa.D<|c1023) aT,bw.W (aa.G 1 (K11 p0 p1 [(53,vB true),(54,.d (.ptr p0 0)),(57,vI p1.eP)])<|aa.D<|c1791) aT,trivial⟩)))) (λhc=>have h:=eR hc h;OL.G (d':=0) [7,9,10,8,11,12,13,14,16,17,15,18,19,20,21,23,22,24,25,26,27] [(4,vB false)]<|OL.fin κ<|af<|SW.ret<|iI h▸E0)) (λc31=>OL.fW (b:=true) (H:=r1.2) 24 15 74 (K11 p0 p1 [(48,vI r8),(50,xY p1)]) (OL.step (i0:=4) (is:=[]) κ ⟨bw.W (aa.on 74 r1.2 (d:=some 51) [0,3,48,51] (K11 p0 p1 [(48,vI r8),(51,Io p1)]) (ax.len (enc:=ab) (xs:=p1.du)) κ<|aa.D<|c31) aT,trivial⟩) (λc15=>OL.fW (b:=true) (H:=r1.2) 24 29 74 (K11 p0 p1 [(47,.d (.ptr p0 0)),(51,Io p1)]) (OL.step (i0:=1) (is:=[]) κ ⟨bw.W (aa.qP (ls:=[]) 74 r1.2 (K11 p0 p1 [(48,vI r8),(51,Io p1)]) (k9 hr_1)<|aa.D<|c31) aT,trivial⟩) (λc29=>OL.fW (b:=true) (H:=r1.2) 25 7 74 (K11 p0 p1 [(48,vI r8),(49,.loc 3 4)]) (OL.step (i0:=3) (is:=[]) κ ⟨bw.W (aa.sg 74 r1.2 [] [0,3,48,50] 1 (K11 p0 p1 [(48,vI r8),(50,xY p1)]) κ<|aa.D<|c15) aT,trivial⟩) (λc7=>OL.fW (b:=true) (H:=r1.2) 25 13 74 (K11 p0 p1 [(47,.d (.ptr p0 0)),(50,xY p1)]) (OL.step (i0:=1) (is:=[4]) κ ⟨bw.W (aa.CR (ls:=[]) (some 48) (K11 p0 p1 [(48,vI r8),(50,xY p1)]) (k9 hr_1)<|aa.D<|c15) aT,bw.W (aa.O (d:=some 51) (K11 p0 p1 [(47,.d (.ptr p0 0)),(51,Io p1)]) (ax.len (enc:=ab) (xs:=p1.du))<|aa.D<|c29) aT,trivial⟩) (λc13=>OL.step (i0:=1) (is:=[3]) κ ⟨bw.W (aa.CR (ls:=[]) (some 48) (K11 p0 p1 [(48,vI r8),(49,.loc 3 4)]) (k9 hr_1)<|aa.D<|c7) aT,bw.W (aa.G 1 (K11 p0 p1 [(47,.d (.ptr p0 0)),(50,xY p1)])<|aa.D<|c13) aT,trivial⟩)))))))) λjp4 h=>SW.qq<|aA.s [] [0,3,5,6,7,25] 3<|aA.mg 74 r1.2 [0,3,5,6,28] 3 (r2.2.2 !=0) (λb=>(sp 74 (K11 p0 p1 [(5,gA r1),(6,Lz r2),(7,vI r2.2.1),(25,vB b)]) r1.2)) (λb=>(K11 p0 p1 [(5,gA r1),(6,Lz r2),(28,vB (b||(r2.2.1 !=(-1))))])) κ κ κ<|aA.s [] [0,3,5,6,29] 1<|aA.b2 (λb=>(sp 74 (K11 p0 p1 [(5,gA r1),(6,Lz r2),(29,vB b)]) r1.2)) h (λh=>aA.t 17<|aA.D<|JQ [] h) λh=>aA.t 4<|bI h λr5 hr h=>aA.d (nC hr)<|aA.s [] [0,3,5,37] 3<|aA.b2 (λb=>(sp 74 (K11 p0 p1 [(5,gA r1),(37,vB b)]) r1.2)) h (λh=>aA.t 9<|aA.D<|JQ [] h) λh=>aA.t 1<|bI h λr6 hr h=>aA.g (ls:=[]) (eb hr)<|aA.t 1<|bI h λx7 hx h=>aA.p (s:=aI none (Go.Sh.D.cells (bn x7))) (ax.index (n:=3) hx)<|aA.t 5<|aA.D<|JQ [] h
end
end Go.Sh
