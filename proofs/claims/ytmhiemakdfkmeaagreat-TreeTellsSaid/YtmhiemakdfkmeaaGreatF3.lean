/- Printed by a program: functions of the program as plain functions, and that the code computes them. -/
import Derived.Test.YtmhiemakdfkmeaaGreatF2
set_option linter.all false
set_option autoImplicit true
set_option relaxedAutoImplicit true
open Go Go.Proofs
namespace Go.Sh
set_option maxRecDepth 100000
section
attribute [local irreducible] bX jR lM lQ SW uS
def rM(x0:(List Int)×(List Bool)×Int×(Option Nat)×Int×Int×Int×Bool×Bool×(Option Nat)×(List Int)×(List Bool)×Int×Int×(List Entry)×Int×Bool×Bool×Int×Hp):SV:=vI x0.2.2.2.2.2.2.2.2.2.2.2.2.2.2.2.2.2.2.1
def mK(x0:(List Int)×(List Bool)×Int×(Option Nat)×Int×Int×Int×Bool×Bool×(Option Nat)×(List Int)×(List Bool)×Int×Int×(List Entry)×Int×Bool×Bool×Int×Hp):SV:=.d (cP.enc x0.2.2.2.2.2.2.2.2.2.1)
def RV(x0:(List Int)×(List Bool)×Int×(Option Nat)×Int×Int×Int×Bool×Bool×(Option Nat)×(List Int)×(List Bool)×Int×Int×(List Entry)×Int×Bool×Bool×Int×Hp):SV:=.d (.agg [.list 1 (List.map (D.int .i64) x0.2.2.2.2.2.2.2.2.2.2.1),.list 1 (List.map D.bool x0.2.2.2.2.2.2.2.2.2.2.2.1),.int .i64 x0.2.2.2.2.2.2.2.2.2.2.2.2.1,.int .i64 x0.2.2.2.2.2.2.2.2.2.2.2.2.2.1,.list 3 (List.map ab x0.2.2.2.2.2.2.2.2.2.2.2.2.2.2.1),.int .i64 x0.2.2.2.2.2.2.2.2.2.2.2.2.2.2.2.1])
def Te(x0:(List Int)×(List Bool)×Int×(Option Nat)×Int×Int×Int×Bool×Bool×(Option Nat)×(List Int)×(List Bool)×Int×Int×(List Entry)×Int×Bool×Bool×Int×Hp)(x1:Tree×Int×Int)(x2:((Int×Int)×Hp)):SV:=.box [.d (cP.enc x0.2.2.2.2.2.2.2.2.2.1),.d (.list 1 (List.map (D.int .i64) x1.1.S.aD)),.d (.list 1 (List.map D.bool x1.1.S.Down)),vI x1.1.S.ee,vI x1.1.Order,.d (.list 3 (List.map ab x1.1.ea)),vI x1.1.gJ,vB ((x2.1.1==x1.2.1)&&(x2.1.2==x1.2.2)),vB x0.2.2.2.2.2.2.2.2.2.2.2.2.2.2.2.2.2.1]
def Qx(x0:(List Int)×(List Bool)×Int×(Option Nat)×Int×Int×Int×Bool×Bool×(Option Nat)×(List Int)×(List Bool)×Int×Int×(List Entry)×Int×Bool×Bool×Int×Hp)(x1:Tree×Int)(x2:((Int)×Hp)):SV:=.box [.d (cP.enc x0.2.2.2.2.2.2.2.2.2.1),.d (.list 1 (List.map (D.int .i64) x1.1.S.aD)),.d (.list 1 (List.map D.bool x1.1.S.Down)),vI x1.1.S.ee,vI x1.1.Order,.d (.list 3 (List.map ab x1.1.ea)),vI x1.1.gJ,vB (x2.1==x1.2),vB x0.2.2.2.2.2.2.2.2.2.2.2.2.2.2.2.2.2.1]
def Td(x0:(((Option Nat))×Hp))(x1:(List Int)×(List Bool)×Int×(Option Nat)×Int×Int×Int×Bool×Bool×(Option Nat)×(List Int)×(List Bool)×Int×Int×(List Entry)×Int×Bool×Bool×Int×Hp):SV:=.box [.d (cP.enc x0.1),.d (.list 1 (List.map (D.int .i64) x1.2.2.2.2.2.2.2.2.2.2.1)),.d (.list 1 (List.map D.bool x1.2.2.2.2.2.2.2.2.2.2.2.1)),vI x1.2.2.2.2.2.2.2.2.2.2.2.2.1,vI x1.2.2.2.2.2.2.2.2.2.2.2.2.2.1,.d (.list 3 (List.map ab x1.2.2.2.2.2.2.2.2.2.2.2.2.2.2.1)),vI x1.2.2.2.2.2.2.2.2.2.2.2.2.2.2.2.1,vB x1.2.2.2.2.2.2.2.2.2.2.2.2.2.2.2.2.1,vB x1.2.2.2.2.2.2.2.2.2.2.2.2.2.2.2.2.2.1]
def TY(x0:(List Int)×(List Bool)×Int×(Option Nat)×Int×Int×Int×Bool×Bool×(Option Nat)×(List Int)×(List Bool)×Int×Int×(List Entry)×Int×Bool×Bool×Int×Hp):SV:=.d (.agg [.list 1 (List.map (D.int .i64) x0.1),.list 1 (List.map D.bool x0.2.1),.int .i64 x0.2.2.1])
def RU(x0:(List Int)×(List Bool)×Int×(Option Nat)×Int×Int×Int×Bool×Bool×(Option Nat)×(List Int)×(List Bool)×Int×Int×(List Entry)×Int×Bool×Bool×Int×Hp)(x1:(Option Nat)×Int×Int×Hp):SV:=.box [.d (cP.enc x0.2.2.2.2.2.2.2.2.2.1),.d (.list 1 (List.map (D.int .i64) x0.2.2.2.2.2.2.2.2.2.2.1)),.d (.list 1 (List.map D.bool x0.2.2.2.2.2.2.2.2.2.2.2.1)),vI x0.2.2.2.2.2.2.2.2.2.2.2.2.1,vI x0.2.2.2.2.2.2.2.2.2.2.2.2.2.1,.d (.list 3 (List.map ab x0.2.2.2.2.2.2.2.2.2.2.2.2.2.2.1)),vI x0.2.2.2.2.2.2.2.2.2.2.2.2.2.2.2.1,vB ((x1.2.2.1==0)&&(x1.2.1==(-1))),vB x0.2.2.2.2.2.2.2.2.2.2.2.2.2.2.2.2.2.1]
def Tc(x0:(Option Nat)×Int×Int×Hp)(x1:(List Int)×(List Bool)×Int×(Option Nat)×Int×Int×Int×Bool×Bool×(Option Nat)×(List Int)×(List Bool)×Int×Int×(List Entry)×Int×Bool×Bool×Int×Hp):SV:=.box [.d (cP.enc x0.1),.d (.list 1 (List.map (D.int .i64) x1.2.2.2.2.2.2.2.2.2.2.1)),.d (.list 1 (List.map D.bool x1.2.2.2.2.2.2.2.2.2.2.2.1)),vI x1.2.2.2.2.2.2.2.2.2.2.2.2.1,vI x1.2.2.2.2.2.2.2.2.2.2.2.2.2.1,.d (.list 3 (List.map ab x1.2.2.2.2.2.2.2.2.2.2.2.2.2.2.1)),vI x1.2.2.2.2.2.2.2.2.2.2.2.2.2.2.2.1,vB ((x0.2.2.1==0)&&(x0.2.1==(-1))),vB x1.2.2.2.2.2.2.2.2.2.2.2.2.2.2.2.2.2.1]
def K1:=λa0 a1 a2 a3 a4 a5 (t:SL)=>((1,vI a0)::(2,Z0 a1)::(3,OM a2)::(6,LW a3)::(11,OK a4)::(12,rM a5)::t:SL)
def K29:=λa0 a1 a2 a3 (t:SL)=>((1,vI a0)::(2,Z0 a1)::(3,OM a2)::(6,LW a3)::t:SL)
def K31:=λa0 a1 a2 a3 a4 a5 a6 a7 (t:SL)=>((1,vI a0)::(2,Z0 a1)::(3,OM a2)::(6,LW a3)::(11,OK a4)::(12,rM a5)::(70,TY a6)::(71,vI a7)::t:SL)
def K35:=λa0 a1 a2 a3 a4 a5 a6 (t:SL)=>((1,vI a0)::(2,Z0 a1)::(3,OM a2)::(6,LW a3)::(11,OK a4)::(12,rM a5)::(26,.d (cP.enc a6))::t:SL)
def K70:=λa0 a1 a2 a3 a4 a5 a6 a7 (t:SL)=>((1,vI a0)::(2,Z0 a1)::(3,OM a2)::(6,LW a3)::(11,OK a4)::(12,rM a5)::(69,kr a6)::(79,.d (cP.enc a7))::t:SL)
theorem LF(h:xS fuel p0 p1 p2 H=some r):SC Tryz.prog false 9 [.d (cD p0),vI p1,.d (.list 4 (List.map lg p2))] H (.d (.agg [cP.enc r.1.t,.list 1 (List.map (D.int .i64) r.1.r.S.aD),.list 1 (List.map D.bool r.1.r.S.Down),.int .i64 r.1.r.S.ee,.int .i64 r.1.r.Order,.list 3 (List.map ab r.1.r.ea),.int .i64 r.1.r.gJ,.bool r.1.same,.bool r.1.ok])) r.2:=by
 refine cf Tryz.func9 rfl ?_
 unfold xS at h
 exact aH 204 H [(0,Z2 p0),(1,vI p1),(2,Z0 p2)]<|au 1<|ax<|aa 2<|bI h λr1 hr h=>bJ (Aw hr)<|aa 5<|ak<|ax<|aa 2<|bI h λr2 hr h=>bw (Nh hr)<|aa 6<|ak<|ax<|aU [] [1,2,3,6,41,42,45,47] 7<|tC [1,2,3,6,48] 1 r1.1.1 (λp=>(sp 204 [(1,vI p1),(2,Z0 p2),(3,Z1 p0),(6,Tq),(41,.d (cP.enc p)),(42,R7 r2),(45,vB (r1.1.2==r2.2)),(47,vB (r2.2==0))] r1.2)) (λp=>(sp 204 [(1,vI p1),(2,Z0 p2),(3,Z1 p0),(6,Tq),(48,.d (.agg [cP.enc p,.list 1 (List.map (D.int .i64) r2.1.S.aD),.list 1 (List.map D.bool r2.1.S.Down),.int .i64 r2.1.S.ee,.int .i64 r2.1.Order,.list 3 (List.map ab r2.1.ea),.int .i64 r2.1.gJ,.bool (r1.1.2==r2.2),.bool (r2.2==0)]))] r1.2)) κ κ (λ_=>by kernel_rfl)<|aa 2<|ak<|an<|au 1<|aI<|bI h λv38 hit h=>mA 204 [1,2,3,6,11,12] (λy4=>[(1,vI p1),(2,Z0 p2),(3,.box [.d (.list 1 (List.map (D.int .i64) y4.1)),.d (.list 1 (List.map D.bool y4.2.1)),vI y4.2.2.1]),(6,.box [.d (cP.enc y4.2.2.2.1),.d (.cm),.d (.cm),vI y4.2.2.2.2.1,vI y4.2.2.2.2.2.1,.d (.cm),vI y4.2.2.2.2.2.2.1,vB y4.2.2.2.2.2.2.2.1,vB y4.2.2.2.2.2.2.2.2.1]),(11,.box [.d (cP.enc y4.2.2.2.2.2.2.2.2.2.1),.d (.list 1 (List.map (D.int .i64) y4.2.2.2.2.2.2.2.2.2.2.1)),.d (.list 1 (List.map D.bool y4.2.2.2.2.2.2.2.2.2.2.2.1)),vI y4.2.2.2.2.2.2.2.2.2.2.2.2.1,vI y4.2.2.2.2.2.2.2.2.2.2.2.2.2.1,.d (.list 3 (List.map ab y4.2.2.2.2.2.2.2.2.2.2.2.2.2.2.1)),vI y4.2.2.2.2.2.2.2.2.2.2.2.2.2.2.2.1,vB y4.2.2.2.2.2.2.2.2.2.2.2.2.2.2.2.2.1,vB y4.2.2.2.2.2.2.2.2.2.2.2.2.2.2.2.2.2.1]),(12,vI y4.2.2.2.2.2.2.2.2.2.2.2.2.2.2.2.2.2.2.1)]) (λy4=>y4.2.2.2.2.2.2.2.2.2.2.2.2.2.2.2.2.2.2.2) (λv38 e s=>(e=.exit 0/\s=(sp 204 [(6,.box [.d (cP.enc v38.1),.d (.cm),.d (.cm),vI v38.2.1,vI v38.2.2.1,.d (.cm),vI v38.2.2.2.1,vB v38.2.2.2.2.1,vB v38.2.2.2.2.2.1]),(11,.box [.d (cP.enc v38.2.2.2.2.2.2.1),.d (.list 1 (List.map (D.int .i64) v38.2.2.2.2.2.2.2.1)),.d (.list 1 (List.map D.bool v38.2.2.2.2.2.2.2.2.1)),vI v38.2.2.2.2.2.2.2.2.2.1,vI v38.2.2.2.2.2.2.2.2.2.2.1,.d (.list 3 (List.map ab v38.2.2.2.2.2.2.2.2.2.2.2.1)),vI v38.2.2.2.2.2.2.2.2.2.2.2.2.1,vB v38.2.2.2.2.2.2.2.2.2.2.2.2.2.1,vB v38.2.2.2.2.2.2.2.2.2.2.2.2.2.2.1])] v38.2.2.2.2.2.2.2.2.2.2.2.2.2.2.2))) hit κ (λy4 o h=>by
  unfold nc at h;exact an<|ax<|aa 2<|aw (aG (enc:=lg) (xs:=p2))<|aU [] [1,2,3,6,11,12,53] 2<|dO 204 y4.2.2.2.2.2.2.2.2.2.2.2.2.2.2.2.2.2.2.2 [1,2,3,6,11,12,56] 3 (decide (y4.2.2.2.2.2.2.2.2.2.2.2.2.2.2.2.2.2.2.1<(p2.length:Int))) (λb=>(sp 204 (K1 p1 p2 y4 y4 y4 y4 [(53,vB b)]) y4.2.2.2.2.2.2.2.2.2.2.2.2.2.2.2.2.2.2.2)) (λb=>(K1 p1 p2 y4 y4 y4 y4 [(56,vB (b&&y4.2.2.2.2.2.2.2.2.2.2.2.2.2.2.2.2.1))])) κ κ κ<|aU [] [1,2,3,6,11,12,57] 1<|dO 204 y4.2.2.2.2.2.2.2.2.2.2.2.2.2.2.2.2.2.2.2 [1,2,3,6,11,12,60] 3 ((decide (y4.2.2.2.2.2.2.2.2.2.2.2.2.2.2.2.2.2.2.1<(p2.length:Int)))&&y4.2.2.2.2.2.2.2.2.2.2.2.2.2.2.2.2.1) (λb=>(sp 204 (K1 p1 p2 y4 y4 y4 y4 [(57,vB b)]) y4.2.2.2.2.2.2.2.2.2.2.2.2.2.2.2.2.2.2.2)) (λb=>(K1 p1 p2 y4 y4 y4 y4 [(60,vB (b&&y4.2.2.2.2.2.2.2.2.2.2.2.2.2.2.2.2.2.1))])) κ κ κ<|ak<|aQ h (λh=>ao<|ag<|an<|aI<|ax<|aa 2<|bI h λx5 hx h=>aw (s:=bc none (lg x5).cells) (aB (n:=4) hx)<|aa 3<|ak<|an<|au 1<|aI<|au 1<|aQ h (λh=>ax<|aU [] [1,2,3,6,11,12,13,97,99,101] 6<|bI h λi6 hp_i6 h=>bA y4.2.2.2.2.2.2.2.2.2.1 (λp=>(sp 204 (K1 p1 p2 y4 y4 y4 y4 [(13,L9 x5),(97,.d (cP.enc p)),(99,Z4 x5),(101,vI x5.Key)]) y4.2.2.2.2.2.2.2.2.2.2.2.2.2.2.2.2.2.2.2)) κ hp_i6<|bI h λr7 hr h=>bJ (mU hr)<|aa 5<|ak<|ax<|aa 6<|bI h λr8 hr h=>bw (qt hr)<|aa 8<|ak<|ah<|aU [] [1,2,3,6,11,12,15,18,116,120] 5<|dO 204 r7.2 [1,2,3,6,11,12,116,124] 4 (r7.1.1==r8.2.1) (λb=>(sp 204 (K1 p1 p2 y4 y4 y4 y4 [(15,vI r7.1.2),(18,vI r8.2.2),(116,RZ r8),(120,vB b)]) r7.2)) (λb=>(K1 p1 p2 y4 y4 y4 y4 [(116,RZ r8),(124,vB (b&&(r7.1.2==r8.2.2)))])) κ κ κ<|aa 4<|ae<|aL<|ag<|ah<|aU [] [1,2,3,6,11,12,195] 3<|bE (λb=>(sp 204 (K29 p1 p2 y4 y4 [(11,Te y4 r8 r7),(12,rM y4),(195,vB b)]) r7.2)) h (λh=>aU [] [1,2,3,6,11,12,195,197,199] 4<|bI h λi9 hp_i9 h=>bA y4.2.2.2.2.2.2.2.2.2.1 (λp=>(sp 204 (K29 p1 p2 y4 y4 [(11,Te y4 r8 r7),(12,rM y4),(195,vB true),(197,.d (cP.enc p)),(199,RZ r8)]) r7.2)) κ hp_i9<|bI h λr10 hr h=>bJ (nf hr)<|aa 3<|ae<|aL<|ag<|ah<|aa 3<|ae<|LQ h) λh=>aa 8<|ae<|aL<|ag<|ah<|aa 3<|ae<|LQ h) (λh=>au 1<|aQ h (λh=>ax<|aU [] [1,2,3,6,11,12,13,130,132,134] 6<|bI h λi11 hp_i11 h=>bA y4.2.2.2.2.2.2.2.2.2.1 (λp=>(sp 204 (K1 p1 p2 y4 y4 y4 y4 [(13,L9 x5),(130,.d (cP.enc p)),(132,Z4 x5),(134,vI x5.Key)]) y4.2.2.2.2.2.2.2.2.2.2.2.2.2.2.2.2.2.2.2)) κ hp_i11<|bI h λr12 hr h=>bJ (xz hr)<|aa 1<|ak<|ax<|aa 6<|bI h λr13 hr h=>bw (xH hr)<|aa 6<|ak<|ah<|aa 8<|ae<|aL<|ag<|ah<|aU [] [1,2,3,6,11,12,195] 3<|bE (λb=>(sp 204 (K29 p1 p2 y4 y4 [(11,Qx y4 r13 r12),(12,rM y4),(195,vB b)]) r12.2)) h (λh=>aU [] [1,2,3,6,11,12,195,197,199] 4<|bI h λi14 hp_i14 h=>bA y4.2.2.2.2.2.2.2.2.2.1 (λp=>(sp 204 (K29 p1 p2 y4 y4 [(11,Qx y4 r13 r12),(12,rM y4),(195,vB true),(197,.d (cP.enc p)),(199,R7 r13)]) r12.2)) κ hp_i14<|bI h λr15 hr h=>bJ (nf hr)<|aa 3<|ae<|aL<|ag<|ah<|aa 3<|ae<|LQ h) λh=>aa 8<|ae<|aL<|ag<|ah<|aa 3<|ae<|LQ h) (λh=>au 1<|aQ h (λh=>ax<|aU [] [1,2,3,6,11,12,13,155,157,159,161] 8<|bI h λi16 hp_i16 h=>bA y4.2.2.2.2.2.2.2.2.2.1 (λp=>(sp 204 (K1 p1 p2 y4 y4 y4 y4 [(13,L9 x5),(155,.d (cP.enc p)),(157,Z4 x5),(159,vI x5.Key),(161,Z5 x5)]) y4.2.2.2.2.2.2.2.2.2.2.2.2.2.2.2.2.2.2.2)) κ hp_i16<|bI h λr17 hr h=>bJ (zx hr)<|aa 1<|ak<|ax<|aa 8<|bI h λr18 hr h=>bw (zE hr)<|aa 6<|ak<|ah<|aa 8<|ae<|aL<|ag<|ah<|aU [] [1,2,3,6,11,12,195] 3<|bE (λb=>(sp 204 (K29 p1 p2 y4 y4 [(11,Qx y4 r18 r17),(12,rM y4),(195,vB b)]) r17.2)) h (λh=>aU [] [1,2,3,6,11,12,195,197,199] 4<|bI h λi19 hp_i19 h=>bA y4.2.2.2.2.2.2.2.2.2.1 (λp=>(sp 204 (K29 p1 p2 y4 y4 [(11,Qx y4 r18 r17),(12,rM y4),(195,vB true),(197,.d (cP.enc p)),(199,R7 r18)]) r17.2)) κ hp_i19<|bI h λr20 hr h=>bJ (nf hr)<|aa 3<|ae<|aL<|ag<|ah<|aa 3<|ae<|LQ h) λh=>aa 8<|ae<|aL<|ag<|ah<|aa 3<|ae<|LQ h) (λh=>au 1<|aQ h (λh=>au 1<|ax<|aU [] [1,2,3,6,11,12,13,25,186] 2<|bI h λi21 hp_i21 h=>bA y4.2.2.2.2.2.2.2.2.2.1 (λp=>(sp 204 (K1 p1 p2 y4 y4 y4 y4 [(13,L9 x5),(25,.d (cP.enc p)),(186,.d (cP.enc p))]) y4.2.2.2.2.2.2.2.2.2.2.2.2.2.2.2.2.2.2.2)) κ hp_i21<|bI h λr22 hr h=>bJ (Av hr)<|aU [] [1,2,3,6,11,12,13,25,187,188] 1<|tC [1,2,3,6,11,12,13,25] 1 r22.1 (λp=>(sp 204 (K1 p1 p2 y4 y4 y4 y4 [(13,L9 x5),(25,.d (.ptr i21 0)),(187,.d (cP.enc p)),(188,.loc 11 0)]) r22.2)) (λp=>(sp 204 (K29 p1 p2 y4 y4 [(11,.box [.d (cP.enc p),.d (.list 1 (List.map (D.int .i64) y4.2.2.2.2.2.2.2.2.2.2.1)),.d (.list 1 (List.map D.bool y4.2.2.2.2.2.2.2.2.2.2.2.1)),vI y4.2.2.2.2.2.2.2.2.2.2.2.2.1,vI y4.2.2.2.2.2.2.2.2.2.2.2.2.2.1,.d (.list 3 (List.map ab y4.2.2.2.2.2.2.2.2.2.2.2.2.2.2.1)),vI y4.2.2.2.2.2.2.2.2.2.2.2.2.2.2.2.1,vB y4.2.2.2.2.2.2.2.2.2.2.2.2.2.2.2.2.1,vB y4.2.2.2.2.2.2.2.2.2.2.2.2.2.2.2.2.2.1]),(12,rM y4),(13,L9 x5),(25,.d (.ptr i21 0))]) r22.2)) κ κ (λ_=>by kernel_rfl)<|ak<|ah<|aa 3<|bI h λr23 hr h=>bJ (mU hr)<|ae<|aL<|ag<|ah<|aU [] [1,2,3,6,11,12,195] 3<|bE (λb=>(sp 204 (K29 p1 p2 y4 y4 [(11,Td r22 y4),(12,rM y4),(195,vB b)]) r23.2)) h (λh=>aU [] [1,2,3,6,11,12,195,197,199] 4<|bI h λi24 hp_i24 h=>bA r22.1 (λp=>(sp 204 (K29 p1 p2 y4 y4 [(11,Td r22 y4),(12,rM y4),(195,vB true),(197,.d (cP.enc p)),(199,RV y4)]) r23.2)) κ hp_i24<|bI h λr25 hr h=>bJ (nf hr)<|aa 3<|ae<|aL<|ag<|ah<|aa 3<|ae<|LQ h) λh=>aa 8<|ae<|aL<|ag<|ah<|aa 3<|ae<|LQ h) (λh=>tu 204 [1,2,3,6,11,12,26,27,28] (λ(j26:(Option Nat)×Int×Int×Hp)=>(K35 p1 p2 y4 y4 y4 y4 j26.1 [(27,vI j26.2.1),(28,vI j26.2.2.1)])) (λ(j26:(Option Nat)×Int×Int×Hp)=>j26.2.2.2) h (λj26 h=>ax<|aU [] [1,2,3,6,11,12,26,27,84] 3<|dO 204 j26.2.2.2 [1,2,3,6,11,12,26,87] 3 (j26.2.2.1==0) (λb=>(sp 204 (K35 p1 p2 y4 y4 y4 y4 j26.1 [(27,vI j26.2.1),(84,vB b)]) j26.2.2.2)) (λb=>(K35 p1 p2 y4 y4 y4 y4 j26.1 [(87,vB (b&&(j26.2.1==(-1))))])) κ κ κ<|aa 2<|ak<|au 1<|aQ h (λh=>ah<|aU [] [1,2,3,6,11,12,91,92] 2<|tC [1,2,3,6,11,12] 1 j26.1 (λp=>(sp 204 (K29 p1 p2 y4 y4 [(11,RU y4 j26),(12,rM y4),(91,.d (cP.enc p)),(92,.loc 11 0)]) j26.2.2.2)) (λp=>(sp 204 (K29 p1 p2 y4 y4 [(11,.box [.d (cP.enc p),.d (.list 1 (List.map (D.int .i64) y4.2.2.2.2.2.2.2.2.2.2.1)),.d (.list 1 (List.map D.bool y4.2.2.2.2.2.2.2.2.2.2.2.1)),vI y4.2.2.2.2.2.2.2.2.2.2.2.2.1,vI y4.2.2.2.2.2.2.2.2.2.2.2.2.2.1,.d (.list 3 (List.map ab y4.2.2.2.2.2.2.2.2.2.2.2.2.2.2.1)),vI y4.2.2.2.2.2.2.2.2.2.2.2.2.2.2.2.1,vB ((j26.2.2.1==0)&&(j26.2.1==(-1))),vB y4.2.2.2.2.2.2.2.2.2.2.2.2.2.2.2.2.2.1]),(12,rM y4)]) j26.2.2.2)) κ κ (λ_=>by kernel_rfl)<|ae<|aL<|ag<|ah<|aU [] [1,2,3,6,11,12,195] 3<|bE (λb=>(sp 204 (K29 p1 p2 y4 y4 [(11,Tc j26 y4),(12,rM y4),(195,vB b)]) j26.2.2.2)) h (λh=>aU [] [1,2,3,6,11,12,195,197,199] 4<|bI h λi33 hp_i33 h=>bA j26.1 (λp=>(sp 204 (K29 p1 p2 y4 y4 [(11,Tc j26 y4),(12,rM y4),(195,vB true),(197,.d (cP.enc p)),(199,RV y4)]) j26.2.2.2)) κ hp_i33<|bI h λr34 hr h=>bJ (nf hr)<|aa 3<|ae<|aL<|ag<|ah<|aa 3<|ae<|LQ h) λh=>aa 8<|ae<|aL<|ag<|ah<|aa 3<|ae<|LQ h) (λh=>ao<|aL<|ag<|ah<|aU [] [1,2,3,6,11,12,195] 3<|bE (λb=>(sp 204 (K29 p1 p2 y4 y4 [(11,RU y4 j26),(12,rM y4),(195,vB b)]) j26.2.2.2)) h (λh=>aU [] [1,2,3,6,11,12,195,197,199] 4<|bI h λi35 hp_i35 h=>bA y4.2.2.2.2.2.2.2.2.2.1 (λp=>(sp 204 (K29 p1 p2 y4 y4 [(11,RU y4 j26),(12,rM y4),(195,vB true),(197,.d (cP.enc p)),(199,RV y4)]) j26.2.2.2)) κ hp_i35<|bI h λr36 hr h=>bJ (nf hr)<|aa 3<|ae<|aL<|ag<|ah<|aa 3<|ae<|LQ h) λh=>aa 8<|ae<|aL<|ag<|ah<|aa 3<|ae<|LQ h)) λjp27 h=>bI h λi28 hp_i28 h=>bI h λr29 hr_4 h=>bI h λi30 hp_i30 h=>bI h λr31 hr_7 h=>bI h λr32 hr_8 h=>aH 204 y4.2.2.2.2.2.2.2.2.2.2.2.2.2.2.2.2.2.2.2 (K1 p1 p2 y4 y4 y4 y4 [])<|(by
   refine jb 204 r32.2 (K35 p1 p2 y4 y4 y4 y4 r32.1.1 [(27,vI r32.1.2.1),(28,vI r32.1.2.2)]) [1,2,3] 13 14 κ κ κ (λX hX=>?_) (JQ [] h)
   .have c65535:X 0 65535 (sp 204 (K35 p1 p2 y4 y4 y4 y4 r32.1.1 [(27,vI r32.1.2.1),(28,vI r32.1.2.2)]) r32.2):=by subst hX;exact oI κ
    have c32767:X 1 32767 (sp 204 (K35 p1 p2 y4 y4 y4 y4 r32.1.1 [(27,vI r32.1.2.1),(81,vI r32.1.2.2)]) r32.2):=by subst hX;exact aR 15 [] ⟨bf 204 r32.2 [] [1,2,3,6,11,12,26,27,28] 1 (K35 p1 p2 y4 y4 y4 y4 r32.1.1 [(27,vI r32.1.2.1),(28,vI r32.1.2.2)]) κ<|ae c65535,trivial⟩
    have c16383:X 2 16383 (sp 204 (K35 p1 p2 y4 y4 y4 y4 r32.1.1 [(80,vI r32.1.2.1),(81,vI r32.1.2.2)]) r32.2):=by subst hX;exact aR 14 [] ⟨bf 204 r32.2 [] [1,2,3,6,11,12,26,27,81] 1 (K35 p1 p2 y4 y4 y4 y4 r32.1.1 [(27,vI r32.1.2.1),(81,vI r32.1.2.2)]) κ<|ae c32767,trivial⟩
    have c8191:X 3 8191 (sp 204 (K1 p1 p2 y4 y4 y4 y4 [(79,.d (cP.enc r32.1.1)),(80,vI r32.1.2.1),(81,vI r32.1.2.2)]) r32.2):=by subst hX;exact aR 13 [] ⟨bf 204 r32.2 [] [1,2,3,6,11,12,26,80,81] 1 (K35 p1 p2 y4 y4 y4 y4 r32.1.1 [(80,vI r32.1.2.1),(81,vI r32.1.2.2)]) κ<|ae c16383,trivial⟩
    have c28671:X 2 28671 (sp 204 (K35 p1 p2 y4 y4 y4 y4 r32.1.1 [(27,vI r32.1.2.1),(69,kr r32)]) r32.2):=by subst hX;exact aR 12 [] ⟨bf 204 r32.2 [] [1,2,3,6,11,12,26,27,81] 1 (K35 p1 p2 y4 y4 y4 y4 r32.1.1 [(27,vI r32.1.2.1),(81,vI r32.1.2.2)]) κ<|ae c32767,trivial⟩
    have c12287:X 3 12287 (sp 204 (K35 p1 p2 y4 y4 y4 y4 r32.1.1 [(69,kr r32),(80,vI r32.1.2.1)]) r32.2):=by subst hX;exact aR 12 [14] ⟨aK 1 (K35 p1 p2 y4 y4 y4 y4 r32.1.1 [(80,vI r32.1.2.1),(81,vI r32.1.2.2)])<|ae c16383,aK 1 (K35 p1 p2 y4 y4 y4 y4 r32.1.1 [(27,vI r32.1.2.1),(69,kr r32)])<|ae c28671,trivial⟩
    have c4095:X 4 4095 (sp 204 (K70 p1 p2 y4 y4 y4 y4 r32 r32.1.1 [(80,vI r32.1.2.1)]) r32.2):=by subst hX;exact aR 12 [13] ⟨aK 1 (K1 p1 p2 y4 y4 y4 y4 [(79,.d (cP.enc r32.1.1)),(80,vI r32.1.2.1),(81,vI r32.1.2.2)])<|ae c8191,aK 1 (K35 p1 p2 y4 y4 y4 y4 r32.1.1 [(69,kr r32),(80,vI r32.1.2.1)])<|ae c12287,trivial⟩
    have c14335:X 3 14335 (sp 204 (K35 p1 p2 y4 y4 y4 y4 r32.1.1 [(69,kr r32),(81,vI r32.1.2.2)]) r32.2):=by subst hX;exact aR 11 [] ⟨bf 204 r32.2 [] [1,2,3,6,11,12,26,80,81] 1 (K35 p1 p2 y4 y4 y4 y4 r32.1.1 [(80,vI r32.1.2.1),(81,vI r32.1.2.2)]) κ<|ae c16383,trivial⟩
    have c6143:X 4 6143 (sp 204 (K70 p1 p2 y4 y4 y4 y4 r32 r32.1.1 [(81,vI r32.1.2.2)]) r32.2):=by subst hX;exact aR 11 [13] ⟨aK 1 (K1 p1 p2 y4 y4 y4 y4 [(79,.d (cP.enc r32.1.1)),(80,vI r32.1.2.1),(81,vI r32.1.2.2)])<|ae c8191,aK 1 (K35 p1 p2 y4 y4 y4 y4 r32.1.1 [(69,kr r32),(81,vI r32.1.2.2)])<|ae c14335,trivial⟩
    have c10239:X 4 10239 (sp 204 (K35 p1 p2 y4 y4 y4 y4 r32.1.1 [(69,kr r32)]) r32.2):=by subst hX;exact aR 11 [12] ⟨aK 1 (K35 p1 p2 y4 y4 y4 y4 r32.1.1 [(69,kr r32),(80,vI r32.1.2.1)])<|ae c12287,aK 1 (K35 p1 p2 y4 y4 y4 y4 r32.1.1 [(69,kr r32),(81,vI r32.1.2.2)])<|ae c14335,trivial⟩
    have c2047:X 5 2047 (sp 204 (K70 p1 p2 y4 y4 y4 y4 r32 r32.1.1 []) r32.2):=by subst hX;exact aR 11 [12,13] ⟨aK 1 (K70 p1 p2 y4 y4 y4 y4 r32 r32.1.1 [(80,vI r32.1.2.1)])<|ae c4095,aK 1 (K70 p1 p2 y4 y4 y4 y4 r32 r32.1.1 [(81,vI r32.1.2.2)])<|ae c6143,aK 1 (K35 p1 p2 y4 y4 y4 y4 r32.1.1 [(69,kr r32)])<|ae c10239,trivial⟩
    have c7167:X 4 7167 (sp 204 (K1 p1 p2 y4 y4 y4 y4 [(69,kr r32),(80,vI r32.1.2.1),(81,vI r32.1.2.2)]) r32.2):=by subst hX;exact aR 10 [] ⟨bf 204 r32.2 [] [1,2,3,6,11,12,79,80,81] 1 (K1 p1 p2 y4 y4 y4 y4 [(79,.d (cP.enc r32.1.1)),(80,vI r32.1.2.1),(81,vI r32.1.2.2)]) κ<|ae c8191,trivial⟩
    have c3071:X 5 3071 (sp 204 (K1 p1 p2 y4 y4 y4 y4 [(69,kr r32),(80,vI r32.1.2.1)]) r32.2):=by subst hX;exact aR 10 [12] ⟨aK 1 (K70 p1 p2 y4 y4 y4 y4 r32 r32.1.1 [(80,vI r32.1.2.1)])<|ae c4095,aK 1 (K1 p1 p2 y4 y4 y4 y4 [(69,kr r32),(80,vI r32.1.2.1),(81,vI r32.1.2.2)])<|ae c7167,trivial⟩
    have c5119:X 5 5119 (sp 204 (K1 p1 p2 y4 y4 y4 y4 [(69,kr r32),(81,vI r32.1.2.2)]) r32.2):=by subst hX;exact aR 10 [11] ⟨aK 1 (K70 p1 p2 y4 y4 y4 y4 r32 r32.1.1 [(81,vI r32.1.2.2)])<|ae c6143,aK 1 (K1 p1 p2 y4 y4 y4 y4 [(69,kr r32),(80,vI r32.1.2.1),(81,vI r32.1.2.2)])<|ae c7167,trivial⟩
    have c1023:X 6 1023 (sp 204 (K1 p1 p2 y4 y4 y4 y4 [(69,kr r32)]) r32.2):=by subst hX;exact aR 10 [11,12] ⟨aK 1 (K70 p1 p2 y4 y4 y4 y4 r32 r32.1.1 [])<|ae c2047,aK 1 (K1 p1 p2 y4 y4 y4 y4 [(69,kr r32),(80,vI r32.1.2.1)])<|ae c3071,aK 1 (K1 p1 p2 y4 y4 y4 y4 [(69,kr r32),(81,vI r32.1.2.2)])<|ae c5119,trivial⟩
    have c511:X 7 511 (sp 204 (K1 p1 p2 y4 y4 y4 y4 [(78,kr r32)]) r32.2):=by subst hX;exact aR 9 [] ⟨bf 204 r32.2 [] [1,2,3,6,11,12,69] 1 (K1 p1 p2 y4 y4 y4 y4 [(69,kr r32)]) κ<|ae c1023,trivial⟩
    have c255:X 8 255 (sp 204 (K31 p1 p2 y4 y4 y4 y4 y4 p1 [(74,vI r29),(77,jL r31)]) r31.2):=by subst hX;exact aR 8 [] ⟨xc 204 (K1 p1 p2 y4 y4 y4 y4 [(78,.g8 [.d (cP.enc r32.1.1),vI r32.1.2.1,vI r32.1.2.2])]) (CV hr_8)<|ae c511,trivial⟩
    have c127:X 9 127 (sp 204 (K31 p1 p2 y4 y4 y4 y4 y4 p1 [(74,vI r29),(76,mK y4)]) y4.2.2.2.2.2.2.2.2.2.2.2.2.2.2.2.2.2.2.2):=by subst hX;exact aR 7 [] ⟨bA y4.2.2.2.2.2.2.2.2.2.1 (λp=>(sp 204 (K31 p1 p2 y4 y4 y4 y4 y4 p1 [(74,vI r29),(76,.d (cP.enc p))]) y4.2.2.2.2.2.2.2.2.2.2.2.2.2.2.2.2.2.2.2)) κ hp_i30<|mF (some 77) (K31 p1 p2 y4 y4 y4 y4 y4 p1 [(74,vI r29),(77,.d (.list 3 (List.map b8 r31.1)))]) (dr hr_7)<|ae c255,trivial⟩
    have c63:X 10 63 (sp 204 (K31 p1 p2 y4 y4 y4 y4 y4 p1 [(74,vI r29),(75,.loc 11 0)]) y4.2.2.2.2.2.2.2.2.2.2.2.2.2.2.2.2.2.2.2):=by subst hX;exact aR 6 [] ⟨bf 204 y4.2.2.2.2.2.2.2.2.2.2.2.2.2.2.2.2.2.2.2 [] [1,2,3,6,11,12,70,71,74,76] 1 (K31 p1 p2 y4 y4 y4 y4 y4 p1 [(74,vI r29),(76,mK y4)]) κ<|ae c127,trivial⟩
    have c31:X 11 31 (sp 204 (K31 p1 p2 y4 y4 y4 y4 y4 p1 [(74,vI r29)]) y4.2.2.2.2.2.2.2.2.2.2.2.2.2.2.2.2.2.2.2):=by subst hX;exact aR 5 [] ⟨bf 204 y4.2.2.2.2.2.2.2.2.2.2.2.2.2.2.2.2.2.2.2 [] [1,2,3,6,11,12,70,71,74,75] 1 (K31 p1 p2 y4 y4 y4 y4 y4 p1 [(74,vI r29),(75,.loc 11 0)]) κ<|ae c63,trivial⟩
    have c111:X 10 111 (sp 204 (K31 p1 p2 y4 y4 y4 y4 y4 p1 [(73,mK y4),(76,mK y4)]) y4.2.2.2.2.2.2.2.2.2.2.2.2.2.2.2.2.2.2.2):=by subst hX;exact aR 4 [] ⟨bA y4.2.2.2.2.2.2.2.2.2.1 (λp=>(sp 204 (K31 p1 p2 y4 y4 y4 y4 y4 p1 [(73,.d (cP.enc p)),(76,mK y4)]) y4.2.2.2.2.2.2.2.2.2.2.2.2.2.2.2.2.2.2.2)) κ hp_i28<|fX (ls:=[]) (some 74) (K31 p1 p2 y4 y4 y4 y4 y4 p1 [(74,vI r29),(76,mK y4)]) (fA hr_4)<|ae c127,trivial⟩
    have c47:X 11 47 (sp 204 (K31 p1 p2 y4 y4 y4 y4 y4 p1 [(73,mK y4),(75,.loc 11 0)]) y4.2.2.2.2.2.2.2.2.2.2.2.2.2.2.2.2.2.2.2):=by subst hX;exact aR 4 [6] ⟨bA y4.2.2.2.2.2.2.2.2.2.1 (λp=>(sp 204 (K31 p1 p2 y4 y4 y4 y4 y4 p1 [(73,.d (cP.enc p)),(75,.loc 11 0)]) y4.2.2.2.2.2.2.2.2.2.2.2.2.2.2.2.2.2.2.2)) κ hp_i28<|fX (ls:=[]) (some 74) (K31 p1 p2 y4 y4 y4 y4 y4 p1 [(74,vI r29),(75,.loc 11 0)]) (fA hr_4)<|ae c63,aK 1 (K31 p1 p2 y4 y4 y4 y4 y4 p1 [(73,mK y4),(76,mK y4)])<|ae c111,trivial⟩
    have c15:X 12 15 (sp 204 (K31 p1 p2 y4 y4 y4 y4 y4 p1 [(73,mK y4)]) y4.2.2.2.2.2.2.2.2.2.2.2.2.2.2.2.2.2.2.2):=by subst hX;exact aR 4 [5] ⟨bA y4.2.2.2.2.2.2.2.2.2.1 (λp=>(sp 204 (K31 p1 p2 y4 y4 y4 y4 y4 p1 [(73,.d (cP.enc p))]) y4.2.2.2.2.2.2.2.2.2.2.2.2.2.2.2.2.2.2.2)) κ hp_i28<|fX (ls:=[]) (some 74) (K31 p1 p2 y4 y4 y4 y4 y4 p1 [(74,vI r29)]) (fA hr_4)<|ae c31,aK 1 (K31 p1 p2 y4 y4 y4 y4 y4 p1 [(73,mK y4),(75,.loc 11 0)])<|ae c47,trivial⟩
    have c254:X 9 254 (sp 204 (K1 p1 p2 y4 y4 y4 y4 [(71,vI p1),(74,vI r29),(77,jL r31)]) r31.2):=by subst hX;exact aR 0 [] ⟨bf 204 r31.2 [] [1,2,3,6,11,12,70,71,74,77] 1 (K31 p1 p2 y4 y4 y4 y4 y4 p1 [(74,vI r29),(77,jL r31)]) κ<|ae c255,trivial⟩
    have c126:X 10 126 (sp 204 (K1 p1 p2 y4 y4 y4 y4 [(71,vI p1),(74,vI r29),(76,mK y4)]) y4.2.2.2.2.2.2.2.2.2.2.2.2.2.2.2.2.2.2.2):=by subst hX;exact aR 0 [7] ⟨aK 1 (K31 p1 p2 y4 y4 y4 y4 y4 p1 [(74,vI r29),(76,mK y4)])<|ae c127,bA y4.2.2.2.2.2.2.2.2.2.1 (λp=>(sp 204 (K1 p1 p2 y4 y4 y4 y4 [(71,vI p1),(74,vI r29),(76,.d (cP.enc p))]) y4.2.2.2.2.2.2.2.2.2.2.2.2.2.2.2.2.2.2.2)) κ hp_i30<|mF (some 77) (K1 p1 p2 y4 y4 y4 y4 [(71,vI p1),(74,vI r29),(77,jL r31)]) (dr hr_7)<|ae c254,trivial⟩
    have c62:X 11 62 (sp 204 (K1 p1 p2 y4 y4 y4 y4 [(71,vI p1),(74,vI r29),(75,.loc 11 0)]) y4.2.2.2.2.2.2.2.2.2.2.2.2.2.2.2.2.2.2.2):=by subst hX;exact aR 0 [6] ⟨aK 1 (K31 p1 p2 y4 y4 y4 y4 y4 p1 [(74,vI r29),(75,.loc 11 0)])<|ae c63,aK 1 (K1 p1 p2 y4 y4 y4 y4 [(71,vI p1),(74,vI r29),(76,mK y4)])<|ae c126,trivial⟩
    have c30:X 12 30 (sp 204 (K1 p1 p2 y4 y4 y4 y4 [(71,vI p1),(74,vI r29)]) y4.2.2.2.2.2.2.2.2.2.2.2.2.2.2.2.2.2.2.2):=by subst hX;exact aR 0 [5] ⟨aK 1 (K31 p1 p2 y4 y4 y4 y4 y4 p1 [(74,vI r29)])<|ae c31,aK 1 (K1 p1 p2 y4 y4 y4 y4 [(71,vI p1),(74,vI r29),(75,.loc 11 0)])<|ae c62,trivial⟩
    have c110:X 11 110 (sp 204 (K1 p1 p2 y4 y4 y4 y4 [(71,vI p1),(73,mK y4),(76,mK y4)]) y4.2.2.2.2.2.2.2.2.2.2.2.2.2.2.2.2.2.2.2):=by subst hX;exact aR 0 [4] ⟨aK 1 (K31 p1 p2 y4 y4 y4 y4 y4 p1 [(73,mK y4),(76,mK y4)])<|ae c111,bA y4.2.2.2.2.2.2.2.2.2.1 (λp=>(sp 204 (K1 p1 p2 y4 y4 y4 y4 [(71,vI p1),(73,.d (cP.enc p)),(76,mK y4)]) y4.2.2.2.2.2.2.2.2.2.2.2.2.2.2.2.2.2.2.2)) κ hp_i28<|fX (ls:=[]) (some 74) (K1 p1 p2 y4 y4 y4 y4 [(71,vI p1),(74,vI r29),(76,mK y4)]) (fA hr_4)<|ae c126,trivial⟩
    have c46:X 12 46 (sp 204 (K1 p1 p2 y4 y4 y4 y4 [(71,vI p1),(73,mK y4),(75,.loc 11 0)]) y4.2.2.2.2.2.2.2.2.2.2.2.2.2.2.2.2.2.2.2):=by subst hX;exact aR 0 [4,6] ⟨aK 1 (K31 p1 p2 y4 y4 y4 y4 y4 p1 [(73,mK y4),(75,.loc 11 0)])<|ae c47,bA y4.2.2.2.2.2.2.2.2.2.1 (λp=>(sp 204 (K1 p1 p2 y4 y4 y4 y4 [(71,vI p1),(73,.d (cP.enc p)),(75,.loc 11 0)]) y4.2.2.2.2.2.2.2.2.2.2.2.2.2.2.2.2.2.2.2)) κ hp_i28<|fX (ls:=[]) (some 74) (K1 p1 p2 y4 y4 y4 y4 [(71,vI p1),(74,vI r29),(75,.loc 11 0)]) (fA hr_4)<|ae c62,aK 1 (K1 p1 p2 y4 y4 y4 y4 [(71,vI p1),(73,mK y4),(76,mK y4)])<|ae c110,trivial⟩
    have c14:X 13 14 (sp 204 (K1 p1 p2 y4 y4 y4 y4 [(71,vI p1),(73,mK y4)]) y4.2.2.2.2.2.2.2.2.2.2.2.2.2.2.2.2.2.2.2):=by subst hX;exact aR 0 [4,5] ⟨aK 1 (K31 p1 p2 y4 y4 y4 y4 y4 p1 [(73,mK y4)])<|ae c15,bA y4.2.2.2.2.2.2.2.2.2.1 (λp=>(sp 204 (K1 p1 p2 y4 y4 y4 y4 [(71,vI p1),(73,.d (cP.enc p))]) y4.2.2.2.2.2.2.2.2.2.2.2.2.2.2.2.2.2.2.2)) κ hp_i28<|fX (ls:=[]) (some 74) (K1 p1 p2 y4 y4 y4 y4 [(71,vI p1),(74,vI r29)]) (fA hr_4)<|ae c30,aK 1 (K1 p1 p2 y4 y4 y4 y4 [(71,vI p1),(73,mK y4),(75,.loc 11 0)])<|ae c46,trivial⟩
    refine aC<|aC<|du 204 y4.2.2.2.2.2.2.2.2.2.2.2.2.2.2.2.2.2.2.2 [1,2,3,6,11,12,71,73] (K1 p1 p2 y4 y4 y4 y4 [(71,vI p1),(73,mK y4)]) κ<|dZ ?_
    exact c14)))))) (λh=>zm [(6,LW y4),(11,OK y4)]<|bN<|aY<|aY<|LR h ⟨rfl,rfl⟩)) (by rintro _ _ ⟨rfl,rfl⟩;exact bq<|ag<|au 1<|al<|iI h▸E0)
end
theorem LL(x:Act):fO (lg x)=true:=by simp[lg,fO,gm,gl (f:=ar) pR,gl (f:=ar) pR]
section
attribute [local irreducible] bX jR lM lQ SW uS
def OJ(x0:((Tw)×Hp)):SV:=.box [.d (cP.enc x0.1.t),.d (.list 1 (List.map (D.int .i64) x0.1.r.S.aD)),.d (.list 1 (List.map D.bool x0.1.r.S.Down)),vI x0.1.r.S.ee,vI x0.1.r.Order,.d (.list 3 (List.map ab x0.1.r.ea)),vI x0.1.r.gJ,vB x0.1.same,vB x0.1.ok]
def jt(fuel:Nat)(q2:(Hp×Nat))(q3:(Hp×Nat))(q4:(Hp×Nat))(e10:Entry)(G11:Hp):Option (Bool×Hp):=
 (bz cP.cell G11 q2.2 0).bind λx12=>
 x12.bind λi13=>
 (bz cV.cells G11 i13 0).bind λx14=>
 (bG 3 og G11 q3.2 0).bind λx15=>
 (oa fuel x14 e10.Row x15).bind λr16=>
 bif (r16==0)then
  (db 1 (cI .i64) G11 q4.2 0).bind λq17=>
  et (decide ((q17.1++[e10.Key]).length<=room))<|
  (cz 1 (cI .i64) q17.2 q4.2 0 (q17.1++[e10.Key])).bind λH18=>
  some (true,H18)
 else
  some (true,G11)
def lr(fuel:Nat)(p0:Nat)(p1:(List Value))(H:Hp):Option (((List Int)×Int)×Hp):=
 (eD fuel p0 p1 1 H).bind λr1=>
 bif (r1 !=0)then
  some ((([]:List Int),r1),H)
 else
  (ko H (.cells [.d (.ptr p0 0)])).bind λq2=>
  (ko q2.1 (.cells [.d (.list 3 (List.map ar p1))])).bind λq3=>
  (ko q3.1 (.cells [.own 1 (List.map (D.int .i64) ([]:List Int))])).bind λq4=>
  (bz cP.cell q4.1 q2.2 0).bind λx5=>
  x5.bind λi6=>
  (bz cP.cell q4.1 i6 4).bind λx7=>
  x7.bind λi8=>
  (kU fuel i8 q4.1).bind λr9=>
  (iX fuel (jt fuel q2 q3 q4) (some i8) q4.1).bind λq19=>
  bif q19.1 then
   (db 1 (cI .i64) q19.2 q4.2 0).bind λq20=>
   some ((q20.1,0),q20.2)
  else
   none
def TX(x0:((List Int)×Hp))(x1:Entry):SV:=.own 1 (List.map (D.int .i64) (x0.1++[x1.Key]))
theorem Au(h:lr fuel p0 p1 H=some r):SC Tryz.prog false 19 [.d (.ptr p0 0),.d (.list 3 (List.map ar p1))] H (.g8 [.own 1 (List.map (D.int .i64) r.1.1),vI r.1.2]) r.2:=by
 refine nX Tryz.func19 rfl ?_
 unfold lr at h
 exact tv 36 H [0,1] [(0,.d (.ptr p0 0)),(1,Z9 p1)] κ<|dz<|ah<|aK 4 [(2,.box [.d (.ptr p0 0)]),(3,Qw p1)]<|ak<|dz<|ax<|aa 2<|bI h λr1 hr h=>jf (ls:=[]) (fK hr)<|aa 1<|ak<|ax<|bf 36 H [] [2,3,6,13] 2 [(2,.box [.d (.ptr p0 0)]),(3,Qw p1),(6,vI r1),(13,vB (r1 !=0))] κ<|ak<|aQ h (λh=>au 1<|al<|aq<|iI h▸E0) (λh=>ao<|ag<|dz<|ah<|aK 1 [(2,.box [.d (.ptr p0 0)]),(3,Qw p1),(7,.box [.d (.cm)])]<|ak<|bI h λq2 hq h=>cN hq 2 36 [] [2,3,7] [(2,.d (.ptr q2.2 0)),(3,Qw p1),(7,.box [.d (.cm)])] κ (by cases hq;kernel_rfl)<|bI h λq3 hq h=>cN hq 3 36 [] [2,3,7] (K30 q2.2 q3.2 [(7,.box [.d (.cm)])]) κ (by cases hq;kernel_rfl)<|bI h λq4 hq h=>cN hq 7 36 [(0,1)] [2,3,7] (K30 q2.2 q3.2 [(7,.d (.ptr q4.2 0))]) κ (by cases hq;kernel_rfl)<|pA<|dz<|ah<|bI h λx5 hx h=>aw (s:=.d (cP.enc x5)) (aA hx)<|bI h λi6 hp_i6 h=>aw (s:=.d (.ptr i6 0)) (ba hp_i6)<|aa 1<|bI h λx7 hx h=>qd (s:=.d (cP.enc x7)) [2,3,7,18] (aA hx)<|bI h λi8 hp_i8 h=>bA x7 (λp=>(sp 36 (K30 q2.2 q3.2 [(7,.d (.ptr q4.2 0)),(18,.d (cP.enc p))]) q4.1)) κ hp_i8<|bI h λr9 hr h=>fX (ls:=[]) (some 19) (K30 q2.2 q3.2 [(7,.d (.ptr q4.2 0)),(19,LV i8)]) (kB hr)<|ak<|nW<|bI h λq19 hit h=>oH (f:=78) (caps:=[.fG [.ptr i8 0]]) (H':=q19.2) (b:=q19.1) (jc:=Code.skip) [(2,.ptr q2.2 0),(3,.ptr q3.2 0),(7,.ptr q4.2 0)] κ κ κ κ (λl R cG hpe hps has hbd hsz=>jT (λe10 G11 q9 h=>by unfold jt at h;exact mw (n0:=36) cG hpe hps (hsz.trans (kR _ _ _)) (K30 q2.2 q3.2 [(7,.d (.ptr q4.2 0)),(20,.d (.agg [.list 3 (List.map ar e10.Row),.int .i64 e10.Key,.int .i64 e10.Number]))]) (qW ⟨.inr ⟨by decide,_,rfl,.head _⟩,⟨.inr ⟨by decide,_,rfl,.tail _ (.head _)⟩,⟨.inr ⟨by decide,_,rfl,.tail _ (.tail _ (.head _))⟩,⟨.inl ⟨rfl,rfl⟩,trivial⟩⟩⟩⟩)<|(by rw[has,hbd];exact lK κ<|aK 2 (K30 q2.2 q3.2 [(7,.d (.ptr q4.2 0)),(8,j6 e10)])<|ae<|rQ<|mB<|bI h λx12 hx12 h=>bI h λi13 hp_i13 h=>bI h λx14 hx14 h=>bI h λx15 hx_6 h=>bI h λr16 hr_7 h=>uh 36 G11 [2,3,7,8] (K30 q2.2 q3.2 [(7,.d (.ptr q4.2 0)),(8,j6 e10)]) κ<|qM 36 G11 [(7,.d (.ptr q4.2 0)),(8,j6 e10),(29,vB (r16==0))] κ (λX hX=>by subst hX;exact mD [] [(0,eV (.d (cP.enc x12))),(1,eV (.d (.ptr i13 0))),(3,eV (.d (.agg [.list 1 (List.map (D.int .i64) x14.aD),.list 1 (List.map D.bool x14.Down),.int .i64 x14.ee]))),(6,eV (.bS (.az q3.2 0) 3 (List.map ar x15))),(7,eV _)] ⟨uo (c:=cP.cell) hx12,HX (p:=x12) hp_i13,uo (c:=cV.cells) hx14,KO (c:=og) hx_6,zt (ls:=[(.az q3.2 0)]) (lj hr_7),trivial⟩) (ag<|pz (b:=(r16==0)) κ (λhc=>have h:=fP hc h;nV κ<|bI h λq17 hq h=>jn hq<|aP [30] 3<|nj h λhk h=>n8 36 q17.2 (s:=30) (d:=34) (w:=1) [7,34] (zs:=List.map (D.int .i64) (q17.1++[e10.Key])) [(7,.d (.ptr q4.2 0)),(34,TX q17 e10)] (ys:=(List.map (D.int .i64) [e10.Key])) κ (bt) (bZ hk) κ<|bI h λH18 hx h=>tD (c:=(cI .i64)) (n':=1) (s:=34) (xs:=(q17.1++[e10.Key])) 36 [] [] hx κ κ<|ae<|aL<|(by cases h;exact⟨rfl,.inl ⟨rfl,rfl⟩⟩)) (λhc=>have h:=fQ hc h;oR<|aL<|(by cases h;exact⟨rfl,.inl ⟨rfl,rfl⟩⟩))))) hit) (λhb=>have h:=fP hb h;aL<|ag<|(by intro ds;exact qK<|lJ<|yw 3<|bI h λq20 hq h=>jn hq<|bf 36 q20.2 [] [4,5] 2 [(4,Tf q20),(5,vI 0)] κ<|ae<|Ib.D<|ag<|qL<|iI h▸E0)) (λhb=>by replace h:=fQ hb h;cases h))
def gT(fuel:Nat)(p0:Tree)(p1:(List Value))(y2:(List Int)×Int):Option (((List Int)×Int)⊕((List Int))):=
 bif (decide (y2.2<(p0.ea.length:Int)))then
  (idx p0.ea y2.2).bind λx3=>
  (jC fuel x3.Row p1).bind λr4=>
  bif r4 then
   (idx p0.ea y2.2).bind λx5=>
   et (decide ((y2.1++[x5.Key]).length<=room))<|
   some (.inl ((y2.1++[x5.Key]),(IntKind.wrap .i64 (y2.2+1))))
  else
   some (.inl (y2.1,(IntKind.wrap .i64 (y2.2+1))))
 else
  some (.inr y2.1)
def nL(fuel:Nat)(p0:Tree)(p1:(List Value)):Option ((List Int)×Int):=
 (oo fuel p0.S p1).bind λr1=>
 bif (!r1)then
  some (([]:List Int),1)
 else
  (iter (gT fuel p0 p1) fuel (([]:List Int),0)).bind λv7=>
  some (v7,0)
def TW(x0:(((List Int)×Int)×Hp)):SV:=.own 1 (List.map (D.int .i64) x0.1.1)
theorem AU(h:nL fuel p0 p1=some r):PC Tryz.prog 20 [.d (jj p0),.d (.list 3 (List.map ar p1))] (.g8 [.own 1 (List.map (D.int .i64) r.1),vI r.2]):=by
 refine aW Tryz.func20 rfl λH=>?_
 unfold nL at h
 exact aH 38 H [(0,yh p0),(1,Z9 p1)]<|au 1<|an<|ax<|aa 3<|bI h λr1 hr h=>bw (mc hr)<|aa 1<|ak<|aQ h (λh=>au 1<|al<|aq<|iI h▸E0) (λh=>ao<|ag<|au 1<|an<|au 1<|aI<|bI h λv7 hit h=>eY 38 H [1,2,6,7] (λy2=>[(1,Z9 p1),(2,pH p0),(6,.own 1 (List.map (D.int .i64) y2.1)),(7,vI y2.2)]) (λv7 e s=>(e=.exit 0/\s=(sp 38 [(6,.own 1 (List.map (D.int .i64) v7))] H))) hit κ (λy2 o h=>by unfold gT at h;exact an<|ax<|aa 3<|aw (aG (enc:=ab) (xs:=p0.ea))<|aa 1<|ak<|aQ h (λh=>ao<|ag<|an<|aI<|ax<|aa 3<|bI h λx3 hx h=>aw (s:=bc none (ab x3).cells) (aB (n:=3) hx)<|aa 3<|bI h λr4 hr h=>bw (nN hr)<|ak<|aQ h (λh=>ah<|aP [28] 4<|bI h λx5 hx h=>aw (s:=bc none (ab x5).cells) (aB (n:=3) hx)<|aP [28] 3<|nj h λhk h=>fx 28 1 (List.map (D.int .i64) (y2.1++[x5.Key])) (bt) (bZ hk)<|aP [28] 1<|ae<|aL<|ag<|ah<|aa 3<|ae<|LQ h) (λh=>ao<|aL<|ag<|ah<|aa 3<|ae<|LQ h)) (λh=>aH 38 H [(6,RW y2)]<|bN<|aY<|aY<|LR h ⟨rfl,rfl⟩)) (by rintro _ _ ⟨rfl,rfl⟩;exact bq<|ag<|ax<|aP [37] 3<|ak<|al<|iI h▸E0))
def gg(fuel:Nat)(q2:(Hp×Nat))(q3:(Hp×Nat))(q4:(Hp×Nat))(q5:(Hp×Nat))(e11:Entry)(G12:Hp):Option (Bool×Hp):=
 (bG 3 aM G12 q5.2 0).bind λx13=>
 (bz (cI .i64).cell G12 q4.2 0).bind λx14=>
 bif ((x13.length:Int)==x14)then
  some (false,G12)
 else
  (bz cP.cell G12 q2.2 0).bind λx15=>
  x15.bind λi16=>
  (bz cV.cells G12 i16 0).bind λx17=>
  (bG 3 og G12 q3.2 0).bind λx18=>
  (oa fuel x17 e11.Row x18).bind λr19=>
  bif (decide (r19>=0))then
   (db 3 aM G12 q5.2 0).bind λq20=>
   (vL fuel e11).bind λr21=>
   et (decide ((q20.1++[r21]).length<=room))<|
   (cz 3 aM q20.2 q5.2 0 (q20.1++[r21])).bind λH23=>
   some (true,H23)
  else
   some (true,G12)
def js(fuel:Nat)(p0:Nat)(p1:(List Value))(p2:Int)(H:Hp):Option (((List Entry)×Int)×Hp):=
 (eD fuel p0 p1 1 H).bind λr1=>
 bif (r1 !=0)then
  some ((([]:List Entry),r1),H)
 else
  bif (decide (p2<0))then
   some ((([]:List Entry),7),H)
  else
   (ko H (.cells [.d (.ptr p0 0)])).bind λq2=>
   (ko q2.1 (.cells [.d (.list 3 (List.map ar p1))])).bind λq3=>
   (ko q3.1 (.cells [.d (.int .i64 p2)])).bind λq4=>
   (ko q4.1 (.cells [.own 3 (List.map ab ([]:List Entry))])).bind λq5=>
   (bz cP.cell q5.1 q2.2 0).bind λx6=>
   x6.bind λi7=>
   (bz cP.cell q5.1 i7 4).bind λx8=>
   x8.bind λi9=>
   (kU fuel i9 q5.1).bind λr10=>
   (iX fuel (gg fuel q2 q3 q4 q5) (some i9) q5.1).bind λq24=>
   bif q24.1 then
    (db 3 aM q24.2 q5.2 0).bind λq25=>
    some ((q25.1,0),q25.2)
   else
    (db 3 aM q24.2 q5.2 0).bind λq26=>
    some ((q26.1,0),q26.2)
def TV(x0:(List Entry))(x1:Int):SV:=vB ((x0.length:Int)==x1)
def K9:=λa0 a1 a2 (t:SL)=>((4,.d (.ptr a0 0))::(9,.d (.ptr a1 0))::(10,j6 a2)::t:SL)
def K10:=λa0 a1 (t:SL)=>((9,.d (.ptr a0 0))::(10,j6 a1)::t:SL)
def K42:=λa0 a1 a2 (t:SL)=>((3,.d (.ptr a0 0))::(9,.d (.ptr a1 0))::(10,j6 a2)::t:SL)
def K54:=λa0 a1 (t:SL)=>((9,.d (.ptr a0 0))::(38,zM a1)::t:SL)
def K60:=λa0 a1 a2 (t:SL)=>((9,.d (.ptr a0 0))::(10,j6 a1)::(31,.d (.ptr a2 0))::t:SL)
def K61:=λa0 a1 a2 (t:SL)=>((9,.d (.ptr a0 0))::(10,j6 a1)::(30,.d (.ptr a2 0))::t:SL)
def K62:=λa0 a1 a2 (t:SL)=>((9,.d (.ptr a0 0))::(10,j6 a1)::(29,.d (cP.enc a2))::t:SL)
def K67:=λa0 a1 a2 a3 (t:SL)=>((3,.d (.ptr a0 0))::(4,.d (.ptr a1 0))::(9,.d (.ptr a2 0))::(10,j6 a3)::t:SL)
theorem At(h:js fuel p0 p1 p2 H=some r):SC Tryz.prog false 22 [.d (.ptr p0 0),.d (.list 3 (List.map ar p1)),vI p2] H (.g8 [.own 3 (List.map ab r.1.1),vI r.1.2]) r.2:=by
 refine nX Tryz.func22 rfl ?_
 unfold js at h
 exact tv 44 H [0,1,2] (K32 p0 p1 p2 []) κ<|dz<|ah<|aK 5 (K49 p0 p1 p2 [])<|ak<|dz<|ax<|aa 2<|bI h λr1 hr h=>jf (ls:=[]) (fK hr)<|aa 1<|ak<|ax<|bf 44 H [] [3,4,5,8,15] 2 (K49 p0 p1 p2 [(8,vI r1),(15,vB (r1 !=0))]) κ<|ak<|aQ h (λh=>au 1<|al<|aq<|iI h▸E0) (λh=>ao<|ag<|dz<|OY 1 (K49 p0 p1 p2 [(18,vB (decide (p2<0)))])<|aQ h (λh=>au 1<|al<|aq<|iI h▸E0) (λh=>ao<|ag<|dz<|ah<|aK 1 (K49 p0 p1 p2 [(9,.box [.d (.cm)])])<|ak<|bI h λq2 hq h=>cN hq 3 44 [] [3,4,5,9] [(3,.d (.ptr q2.2 0)),(4,Qw p1),(5,.box [vI p2]),(9,.box [.d (.cm)])] κ (by cases hq;kernel_rfl)<|bI h λq3 hq h=>cN hq 4 44 [] [3,4,5,9] (K8 q2.2 q3.2 [(5,.box [vI p2]),(9,.box [.d (.cm)])]) κ (by cases hq;kernel_rfl)<|bI h λq4 hq h=>cN hq 5 44 [] [3,4,5,9] (K47 q2.2 q3.2 q4.2 [(9,.box [.d (.cm)])]) κ (by cases hq;kernel_rfl)<|bI h λq5 hq h=>cN hq 9 44 [(0,3)] [3,4,5,9] (K47 q2.2 q3.2 q4.2 [(9,.d (.ptr q5.2 0))]) κ (by cases hq;kernel_rfl)<|pA<|dz<|ah<|bI h λx6 hx h=>aw (s:=.d (cP.enc x6)) (aA hx)<|bI h λi7 hp_i7 h=>aw (s:=.d (.ptr i7 0)) (ba hp_i7)<|aa 1<|bI h λx8 hx h=>qd (s:=.d (cP.enc x8)) [3,4,5,9,22] (aA hx)<|bI h λi9 hp_i9 h=>bA x8 (λp=>(sp 44 (K47 q2.2 q3.2 q4.2 [(9,.d (.ptr q5.2 0)),(22,.d (cP.enc p))]) q5.1)) κ hp_i9<|bI h λr10 hr h=>fX (ls:=[]) (some 23) (K47 q2.2 q3.2 q4.2 [(9,.d (.ptr q5.2 0)),(23,LV i9)]) (kB hr)<|ak<|nW<|bI h λq24 hit h=>oH (f:=78) (caps:=[.fG [.ptr i9 0]]) (H':=q24.2) (b:=q24.1) (jc:=(.exit 0)) [(3,.ptr q2.2 0),(4,.ptr q3.2 0),(5,.ptr q4.2 0),(9,.ptr q5.2 0)] κ κ κ κ (λl R cG hpe hps has hbd hsz=>jT (λe11 G12 q9 h=>by
  unfold gg at h;exact mw (n0:=44) cG hpe hps (hsz.trans (kR _ _ _)) (K47 q2.2 q3.2 q4.2 [(9,.d (.ptr q5.2 0)),(24,.d (.agg [.list 3 (List.map ar e11.Row),.int .i64 e11.Key,.int .i64 e11.Number]))]) (qW ⟨.inr ⟨by decide,_,rfl,.head _⟩,⟨.inr ⟨by decide,_,rfl,.tail _ (.head _)⟩,⟨.inr ⟨by decide,_,rfl,.tail _ (.tail _ (.head _))⟩,⟨.inr ⟨by decide,_,rfl,.tail _ (.tail _ (.tail _ (.head _)))⟩,⟨.inl ⟨rfl,rfl⟩,trivial⟩⟩⟩⟩⟩)<|(by
   rw[has,hbd];exact lK κ<|aK 2 (K47 q2.2 q3.2 q4.2 [(9,.d (.ptr q5.2 0)),(10,j6 e11)])<|ae<|rQ<|mB<|mB<|nV κ<|bI h λx13 hx h=>aw (aV hx)<|aw (aG (enc:=ab) (xs:=x13))<|bI h λx14 hx h=>aw (s:=vI x14) (aA hx)<|bf 44 G12 [] [3,4,9,10,28] 1 (K67 q2.2 q3.2 q5.2 e11 [(28,TV x13 x14)]) κ<|ak<|pz (b:=((x13.length:Int)==x14)) κ (λhc=>have h:=fP hc h;Mf<|aY<|He rfl<|(by cases h;exact⟨rfl,.inr ⟨rfl,rfl⟩⟩)) (λhc=>have h:=fQ hc h;oR<|ag<|mB<|bI h λx15 hx15 h=>bI h λi16 hp_i16 h=>bI h λx17 hx17 h=>bI h λx18 hx_6 h=>bI h λr19 hr_7 h=>uh 44 G12 [3,4,9,10] (K67 q2.2 q3.2 q5.2 e11 []) κ<|(by
    refine qM 44 G12 (K10 q5.2 e11 [(37,vB (decide (r19>=0)))]) κ (λX hX=>?_) (ag<|pz (b:=(decide (r19>=0))) κ (λhc=>have h:=fP hc h;bI h λq20 hq_0 h=>bI h λr21 hr_2 h=>nj h λhk22 h=>bI h λH23 hx_5 h=>uh 44 G12 [9,10] (K10 q5.2 e11 []) κ<|(by
     refine qM 44 H23 [] κ (λX hX=>?_) (aL<|(by cases h;exact⟨rfl,.inl ⟨rfl,rfl⟩⟩))
     .have c63:X 0 63 (sp 44 [] H23):=by subst hX;exact oI κ
      have c31:X 1 31 (sp 44 [(9,.d (.ptr q5.2 0)),(42,zL q20 r21)] q20.2):=by subst hX;exact aR 5 [] ⟨tD (c:=aM) (n':=3) (s:=42) (xs:=(q20.1++[r21])) 44 [] [] hx_5 κ κ<|ae c63,trivial⟩
      have c15:X 2 15 (sp 44 (K54 q5.2 q20 [(41,sm r21)]) q20.2):=by subst hX;exact aR 4 [] ⟨n8 44 q20.2 (s:=38) (d:=42) (w:=3) [9,42] (zs:=List.map ab (q20.1++[r21])) [(9,.d (.ptr q5.2 0)),(42,zL q20 r21)] (ys:=(List.map ab [r21])) κ (bt) (bZ hk22) κ<|ae c31,trivial⟩
      have c7:X 3 7 (sp 44 (K54 q5.2 q20 [(40,lI r21)]) q20.2):=by subst hX;exact aR 3 [] ⟨bf 44 q20.2 [38] [9,38,41] 1 (K54 q5.2 q20 [(41,sm r21)]) κ<|ae c15,trivial⟩
      have c3:X 4 3 (sp 44 (K54 q5.2 q20 [(39,lI e11)]) q20.2):=by subst hX;exact aR 2 [] ⟨eO 44 q20.2 (d:=some 40) (ls:=[]) (gs:=[]) [] [9,38,40] (K54 q5.2 q20 [(40,.d (.agg [.list 3 (List.map ar r21.Row),.int .i64 r21.Key,.int .i64 r21.Number]))]) (lS hr_2) κ κ κ<|ae c7,trivial⟩
      have c1:X 5 1 (sp 44 (K10 q5.2 e11 [(38,zM q20)]) q20.2):=by subst hX;exact aR 1 [] ⟨bf 44 q20.2 [38] [9,38,39] 1 (K54 q5.2 q20 [(39,lI e11)]) κ<|ae c3,trivial⟩
      have c14:X 3 14 (sp 44 [(9,.d (.ptr q5.2 0)),(41,sm r21)] G12):=by subst hX;exact aR 0 [] ⟨mE (c:=aM) (n':=3) (d:=38) (xs:=q20.1) 44 [9,38,41] (K54 q5.2 q20 [(41,sm r21)]) hq_0 κ κ<|ae c15,trivial⟩
      have c6:X 4 6 (sp 44 [(9,.d (.ptr q5.2 0)),(40,lI r21)] G12):=by subst hX;exact aR 0 [3] ⟨mE (c:=aM) (n':=3) (d:=38) (xs:=q20.1) 44 [9,38,40] (K54 q5.2 q20 [(40,lI r21)]) hq_0 κ κ<|ae c7,bf 44 G12 [38] [9,41] 1 [(9,.d (.ptr q5.2 0)),(41,sm r21)] κ<|ae c14,trivial⟩
      have c2:X 5 2 (sp 44 [(9,.d (.ptr q5.2 0)),(39,lI e11)] G12):=by subst hX;exact aR 0 [2] ⟨mE (c:=aM) (n':=3) (d:=38) (xs:=q20.1) 44 [9,38,39] (K54 q5.2 q20 [(39,lI e11)]) hq_0 κ κ<|ae c3,rU (some 40) [(9,.d (.ptr q5.2 0)),(40,lI r21)] (lS hr_2)<|ae c6,trivial⟩
      have c0:X 6 0 (sp 44 (K10 q5.2 e11 []) G12):=by subst hX;exact aR 0 [1] ⟨mE (c:=aM) (n':=3) (d:=38) (xs:=q20.1) 44 [9,10,38] (K10 q5.2 e11 [(38,.own 3 (List.map ab q20.1))]) hq_0 κ κ<|ae c1,bf 44 G12 [38] [9,39] 1 [(9,.d (.ptr q5.2 0)),(39,lI e11)] κ<|ae c2,trivial⟩
      exact c0)) (λhc=>have h:=fQ hc h;oR<|aL<|(by cases h;exact⟨rfl,.inl ⟨rfl,rfl⟩⟩)))
    .have c511:X 0 511 (sp 44 (K10 q5.2 e11 [(37,vB (decide (r19>=0)))]) G12):=by subst hX;exact oI κ
     have c255:X 1 255 (sp 44 (K10 q5.2 e11 [(36,vI r19)]) G12):=by subst hX;exact aR 8 [] ⟨bf 44 G12 [] [9,10,37] 1 (K10 q5.2 e11 [(37,vB (decide (r19>=0)))]) κ<|ae c511,trivial⟩
     have c127:X 2 127 (sp 44 (K10 q5.2 e11 [(32,Z2 x17),(34,ky e11),(35,je q3 x18)]) G12):=by subst hX;exact aR 7 [] ⟨eO 44 G12 (d:=some 36) (ls:=[(.az q3.2 0)]) (gs:=[]) [] [9,10,36] (K10 q5.2 e11 [(36,vI r19)]) (lj hr_7) κ κ κ<|ae c255,trivial⟩
     have c63:X 3 63 (sp 44 (K9 q3.2 q5.2 e11 [(32,Z2 x17),(34,ky e11)]) G12):=by subst hX;exact aR 6 [] ⟨fV 44 G12 (d:=some 35) (s:=.bS (.az q3.2 0) 3 (List.map ar x18)) [9,10,32,34,35] (K10 q5.2 e11 [(32,Z2 x17),(34,ky e11),(35,je q3 x18)]) (aV hx_6) κ<|ae c127,trivial⟩
     have c95:X 3 95 (sp 44 (K10 q5.2 e11 [(32,Z2 x17),(33,.loc 10 0),(35,je q3 x18)]) G12):=by subst hX;exact aR 5 [] ⟨bf 44 G12 [] [9,10,32,34,35] 1 (K10 q5.2 e11 [(32,Z2 x17),(34,ky e11),(35,je q3 x18)]) κ<|ae c127,trivial⟩
     have c31:X 4 31 (sp 44 (K9 q3.2 q5.2 e11 [(32,Z2 x17),(33,.loc 10 0)]) G12):=by subst hX;exact aR 5 [6] ⟨aK 1 (K9 q3.2 q5.2 e11 [(32,Z2 x17),(34,ky e11)])<|ae c63,bb (d:=some 35) (s:=.bS (.az q3.2 0) 3 (List.map ar x18)) (K10 q5.2 e11 [(32,Z2 x17),(33,.loc 10 0),(35,je q3 x18)]) (aV hx_6)<|ae c95,trivial⟩
     have c79:X 4 79 (sp 44 (K10 q5.2 e11 [(32,Z2 x17),(35,je q3 x18)]) G12):=by subst hX;exact aR 4 [] ⟨bf 44 G12 [] [9,10,32,33,35] 1 (K10 q5.2 e11 [(32,Z2 x17),(33,.loc 10 0),(35,je q3 x18)]) κ<|ae c95,trivial⟩
     have c15:X 5 15 (sp 44 (K9 q3.2 q5.2 e11 [(32,Z2 x17)]) G12):=by subst hX;exact aR 4 [6] ⟨aK 1 (K9 q3.2 q5.2 e11 [(32,Z2 x17),(33,.loc 10 0)])<|ae c31,bb (d:=some 35) (s:=.bS (.az q3.2 0) 3 (List.map ar x18)) (K10 q5.2 e11 [(32,Z2 x17),(35,je q3 x18)]) (aV hx_6)<|ae c79,trivial⟩
     have c119:X 3 119 (sp 44 (K60 q5.2 e11 i16 [(34,ky e11),(35,je q3 x18)]) G12):=by subst hX;exact aR 3 [] ⟨fV 44 G12 (d:=some 32) (s:=.d (.agg [.list 1 (List.map (D.int .i64) x17.aD),.list 1 (List.map D.bool x17.Down),.int .i64 x17.ee])) [9,10,32,34,35] (K10 q5.2 e11 [(32,Z2 x17),(34,ky e11),(35,je q3 x18)]) (aA hx17) κ<|ae c127,trivial⟩
     have c55:X 4 55 (sp 44 (K9 q3.2 q5.2 e11 [(31,.d (.ptr i16 0)),(34,ky e11)]) G12):=by subst hX;exact aR 3 [6] ⟨bb (d:=some 32) (s:=.d (.agg [.list 1 (List.map (D.int .i64) x17.aD),.list 1 (List.map D.bool x17.Down),.int .i64 x17.ee])) (K9 q3.2 q5.2 e11 [(32,Z2 x17),(34,ky e11)]) (aA hx17)<|ae c63,bb (d:=some 35) (s:=.bS (.az q3.2 0) 3 (List.map ar x18)) (K60 q5.2 e11 i16 [(34,ky e11),(35,je q3 x18)]) (aV hx_6)<|ae c119,trivial⟩
     have c87:X 4 87 (sp 44 (K60 q5.2 e11 i16 [(33,.loc 10 0),(35,je q3 x18)]) G12):=by subst hX;exact aR 3 [5] ⟨bb (d:=some 32) (s:=.d (.agg [.list 1 (List.map (D.int .i64) x17.aD),.list 1 (List.map D.bool x17.Down),.int .i64 x17.ee])) (K10 q5.2 e11 [(32,Z2 x17),(33,.loc 10 0),(35,je q3 x18)]) (aA hx17)<|ae c95,aK 1 (K60 q5.2 e11 i16 [(34,ky e11),(35,je q3 x18)])<|ae c119,trivial⟩
     have c23:X 5 23 (sp 44 (K9 q3.2 q5.2 e11 [(31,.d (.ptr i16 0)),(33,.loc 10 0)]) G12):=by subst hX;exact aR 3 [5,6] ⟨bb (d:=some 32) (s:=.d (.agg [.list 1 (List.map (D.int .i64) x17.aD),.list 1 (List.map D.bool x17.Down),.int .i64 x17.ee])) (K9 q3.2 q5.2 e11 [(32,Z2 x17),(33,.loc 10 0)]) (aA hx17)<|ae c31,aK 1 (K9 q3.2 q5.2 e11 [(31,.d (.ptr i16 0)),(34,ky e11)])<|ae c55,bb (d:=some 35) (s:=.bS (.az q3.2 0) 3 (List.map ar x18)) (K60 q5.2 e11 i16 [(33,.loc 10 0),(35,je q3 x18)]) (aV hx_6)<|ae c87,trivial⟩
     have c71:X 5 71 (sp 44 (K60 q5.2 e11 i16 [(35,je q3 x18)]) G12):=by subst hX;exact aR 3 [4] ⟨bb (d:=some 32) (s:=.d (.agg [.list 1 (List.map (D.int .i64) x17.aD),.list 1 (List.map D.bool x17.Down),.int .i64 x17.ee])) (K10 q5.2 e11 [(32,Z2 x17),(35,je q3 x18)]) (aA hx17)<|ae c79,aK 1 (K60 q5.2 e11 i16 [(33,.loc 10 0),(35,je q3 x18)])<|ae c87,trivial⟩
     have c7:X 6 7 (sp 44 (K9 q3.2 q5.2 e11 [(31,.d (.ptr i16 0))]) G12):=by subst hX;exact aR 3 [4,6] ⟨bb (d:=some 32) (s:=.d (.agg [.list 1 (List.map (D.int .i64) x17.aD),.list 1 (List.map D.bool x17.Down),.int .i64 x17.ee])) (K9 q3.2 q5.2 e11 [(32,Z2 x17)]) (aA hx17)<|ae c15,aK 1 (K9 q3.2 q5.2 e11 [(31,.d (.ptr i16 0)),(33,.loc 10 0)])<|ae c23,bb (d:=some 35) (s:=.bS (.az q3.2 0) 3 (List.map ar x18)) (K60 q5.2 e11 i16 [(35,je q3 x18)]) (aV hx_6)<|ae c71,trivial⟩
     have c115:X 4 115 (sp 44 (K61 q5.2 e11 i16 [(34,ky e11),(35,je q3 x18)]) G12):=by subst hX;exact aR 2 [] ⟨bf 44 G12 [] [9,10,31,34,35] 1 (K60 q5.2 e11 i16 [(34,ky e11),(35,je q3 x18)]) κ<|ae c119,trivial⟩
     have c51:X 5 51 (sp 44 (K9 q3.2 q5.2 e11 [(30,.d (.ptr i16 0)),(34,ky e11)]) G12):=by subst hX;exact aR 2 [6] ⟨aK 1 (K9 q3.2 q5.2 e11 [(31,.d (.ptr i16 0)),(34,ky e11)])<|ae c55,bb (d:=some 35) (s:=.bS (.az q3.2 0) 3 (List.map ar x18)) (K61 q5.2 e11 i16 [(34,ky e11),(35,je q3 x18)]) (aV hx_6)<|ae c115,trivial⟩
     have c83:X 5 83 (sp 44 (K61 q5.2 e11 i16 [(33,.loc 10 0),(35,je q3 x18)]) G12):=by subst hX;exact aR 2 [5] ⟨aK 1 (K60 q5.2 e11 i16 [(33,.loc 10 0),(35,je q3 x18)])<|ae c87,aK 1 (K61 q5.2 e11 i16 [(34,ky e11),(35,je q3 x18)])<|ae c115,trivial⟩
     have c19:X 6 19 (sp 44 (K9 q3.2 q5.2 e11 [(30,.d (.ptr i16 0)),(33,.loc 10 0)]) G12):=by subst hX;exact aR 2 [5,6] ⟨aK 1 (K9 q3.2 q5.2 e11 [(31,.d (.ptr i16 0)),(33,.loc 10 0)])<|ae c23,aK 1 (K9 q3.2 q5.2 e11 [(30,.d (.ptr i16 0)),(34,ky e11)])<|ae c51,bb (d:=some 35) (s:=.bS (.az q3.2 0) 3 (List.map ar x18)) (K61 q5.2 e11 i16 [(33,.loc 10 0),(35,je q3 x18)]) (aV hx_6)<|ae c83,trivial⟩
     have c67:X 6 67 (sp 44 (K61 q5.2 e11 i16 [(35,je q3 x18)]) G12):=by subst hX;exact aR 2 [4] ⟨aK 1 (K60 q5.2 e11 i16 [(35,je q3 x18)])<|ae c71,aK 1 (K61 q5.2 e11 i16 [(33,.loc 10 0),(35,je q3 x18)])<|ae c83,trivial⟩
     have c3:X 7 3 (sp 44 (K9 q3.2 q5.2 e11 [(30,.d (.ptr i16 0))]) G12):=by subst hX;exact aR 2 [4,6] ⟨aK 1 (K9 q3.2 q5.2 e11 [(31,.d (.ptr i16 0))])<|ae c7,aK 1 (K9 q3.2 q5.2 e11 [(30,.d (.ptr i16 0)),(33,.loc 10 0)])<|ae c19,bb (d:=some 35) (s:=.bS (.az q3.2 0) 3 (List.map ar x18)) (K61 q5.2 e11 i16 [(35,je q3 x18)]) (aV hx_6)<|ae c67,trivial⟩
     have c113:X 5 113 (sp 44 (K62 q5.2 e11 x15 [(34,ky e11),(35,je q3 x18)]) G12):=by subst hX;exact aR 1 [] ⟨fV 44 G12 (d:=some 30) (s:=.d (.ptr i16 0)) [9,10,30,34,35] (K61 q5.2 e11 i16 [(34,ky e11),(35,je q3 x18)]) (ba hp_i16) κ<|ae c115,trivial⟩
     have c49:X 6 49 (sp 44 (K9 q3.2 q5.2 e11 [(29,.d (cP.enc x15)),(34,ky e11)]) G12):=by subst hX;exact aR 1 [6] ⟨bb (d:=some 30) (s:=.d (.ptr i16 0)) (K9 q3.2 q5.2 e11 [(30,.d (.ptr i16 0)),(34,ky e11)]) (ba hp_i16)<|ae c51,bb (d:=some 35) (s:=.bS (.az q3.2 0) 3 (List.map ar x18)) (K62 q5.2 e11 x15 [(34,ky e11),(35,je q3 x18)]) (aV hx_6)<|ae c113,trivial⟩
     have c81:X 6 81 (sp 44 (K62 q5.2 e11 x15 [(33,.loc 10 0),(35,je q3 x18)]) G12):=by subst hX;exact aR 1 [5] ⟨bb (d:=some 30) (s:=.d (.ptr i16 0)) (K61 q5.2 e11 i16 [(33,.loc 10 0),(35,je q3 x18)]) (ba hp_i16)<|ae c83,aK 1 (K62 q5.2 e11 x15 [(34,ky e11),(35,je q3 x18)])<|ae c113,trivial⟩
     have c17:X 7 17 (sp 44 (K9 q3.2 q5.2 e11 [(29,.d (cP.enc x15)),(33,.loc 10 0)]) G12):=by subst hX;exact aR 1 [5,6] ⟨bb (d:=some 30) (s:=.d (.ptr i16 0)) (K9 q3.2 q5.2 e11 [(30,.d (.ptr i16 0)),(33,.loc 10 0)]) (ba hp_i16)<|ae c19,aK 1 (K9 q3.2 q5.2 e11 [(29,.d (cP.enc x15)),(34,ky e11)])<|ae c49,bb (d:=some 35) (s:=.bS (.az q3.2 0) 3 (List.map ar x18)) (K62 q5.2 e11 x15 [(33,.loc 10 0),(35,je q3 x18)]) (aV hx_6)<|ae c81,trivial⟩
     have c65:X 7 65 (sp 44 (K62 q5.2 e11 x15 [(35,je q3 x18)]) G12):=by subst hX;exact aR 1 [4] ⟨bb (d:=some 30) (s:=.d (.ptr i16 0)) (K61 q5.2 e11 i16 [(35,je q3 x18)]) (ba hp_i16)<|ae c67,aK 1 (K62 q5.2 e11 x15 [(33,.loc 10 0),(35,je q3 x18)])<|ae c81,trivial⟩
     have c1:X 8 1 (sp 44 (K9 q3.2 q5.2 e11 [(29,.d (cP.enc x15))]) G12):=by subst hX;exact aR 1 [4,6] ⟨bb (d:=some 30) (s:=.d (.ptr i16 0)) (K9 q3.2 q5.2 e11 [(30,.d (.ptr i16 0))]) (ba hp_i16)<|ae c3,aK 1 (K9 q3.2 q5.2 e11 [(29,.d (cP.enc x15)),(33,.loc 10 0)])<|ae c17,bb (d:=some 35) (s:=.bS (.az q3.2 0) 3 (List.map ar x18)) (K62 q5.2 e11 x15 [(35,je q3 x18)]) (aV hx_6)<|ae c65,trivial⟩
     have c112:X 6 112 (sp 44 (K42 q2.2 q5.2 e11 [(34,ky e11),(35,je q3 x18)]) G12):=by subst hX;exact aR 0 [] ⟨fV 44 G12 (d:=some 29) (s:=.d (cP.enc x15)) [9,10,29,34,35] (K62 q5.2 e11 x15 [(34,ky e11),(35,je q3 x18)]) (aA hx15) κ<|ae c113,trivial⟩
     have c48:X 7 48 (sp 44 (K67 q2.2 q3.2 q5.2 e11 [(34,ky e11)]) G12):=by subst hX;exact aR 0 [6] ⟨bb (d:=some 29) (s:=.d (cP.enc x15)) (K9 q3.2 q5.2 e11 [(29,.d (cP.enc x15)),(34,ky e11)]) (aA hx15)<|ae c49,bb (d:=some 35) (s:=.bS (.az q3.2 0) 3 (List.map ar x18)) (K42 q2.2 q5.2 e11 [(34,ky e11),(35,je q3 x18)]) (aV hx_6)<|ae c112,trivial⟩
     have c80:X 7 80 (sp 44 (K42 q2.2 q5.2 e11 [(33,.loc 10 0),(35,je q3 x18)]) G12):=by subst hX;exact aR 0 [5] ⟨bb (d:=some 29) (s:=.d (cP.enc x15)) (K62 q5.2 e11 x15 [(33,.loc 10 0),(35,je q3 x18)]) (aA hx15)<|ae c81,aK 1 (K42 q2.2 q5.2 e11 [(34,ky e11),(35,je q3 x18)])<|ae c112,trivial⟩
     have c16:X 8 16 (sp 44 (K67 q2.2 q3.2 q5.2 e11 [(33,.loc 10 0)]) G12):=by subst hX;exact aR 0 [5,6] ⟨bb (d:=some 29) (s:=.d (cP.enc x15)) (K9 q3.2 q5.2 e11 [(29,.d (cP.enc x15)),(33,.loc 10 0)]) (aA hx15)<|ae c17,aK 1 (K67 q2.2 q3.2 q5.2 e11 [(34,ky e11)])<|ae c48,bb (d:=some 35) (s:=.bS (.az q3.2 0) 3 (List.map ar x18)) (K42 q2.2 q5.2 e11 [(33,.loc 10 0),(35,je q3 x18)]) (aV hx_6)<|ae c80,trivial⟩
     have c64:X 8 64 (sp 44 (K42 q2.2 q5.2 e11 [(35,je q3 x18)]) G12):=by subst hX;exact aR 0 [4] ⟨bb (d:=some 29) (s:=.d (cP.enc x15)) (K62 q5.2 e11 x15 [(35,je q3 x18)]) (aA hx15)<|ae c65,aK 1 (K42 q2.2 q5.2 e11 [(33,.loc 10 0),(35,je q3 x18)])<|ae c80,trivial⟩
     have c0:X 9 0 (sp 44 (K67 q2.2 q3.2 q5.2 e11 []) G12):=by subst hX;exact aR 0 [4,6] ⟨bb (d:=some 29) (s:=.d (cP.enc x15)) (K9 q3.2 q5.2 e11 [(29,.d (cP.enc x15))]) (aA hx15)<|ae c1,aK 1 (K67 q2.2 q3.2 q5.2 e11 [(33,.loc 10 0)])<|ae c16,bb (d:=some 35) (s:=.bS (.az q3.2 0) 3 (List.map ar x18)) (K42 q2.2 q5.2 e11 [(35,je q3 x18)]) (aV hx_6)<|ae c64,trivial⟩
     exact c0)))) hit) (λhb=>have h:=fP hb h;aL<|ag<|(by intro ds;exact qK<|lJ<|yw 3<|bI h λq25 hq h=>jn hq<|bf 44 q25.2 [] [6,7] 2 [(6,zM q25),(7,vI 0)] κ<|ae<|Ib.D<|ag<|qL<|iI h▸E0)) (λhb=>have h:=fQ hb h;⟨.exit 0,_,rfl,tz.refl,(bq<|ag<|(by intro ds;exact qK<|lJ<|yw 3<|bI h λq26 hq h=>jn hq<|bf 44 q26.2 [] [6,7] 2 [(6,zM q26),(7,vI 0)] κ<|ae<|Ib.D<|ag<|qL<|iI h▸E0))⟩)))
def gk(fuel:Nat)(p0:Tree)(p1:(List Value))(p2:Int)(y2:(List Entry)×Int):Option (((List Entry)×Int)⊕((List Entry))):=
 bp (λ(j3:Bool)=>
  bif j3 then
   (idx p0.ea y2.2).bind λx5=>
   (rA fuel p0.S x5.Row p1).bind λr6=>
   bif (decide (r6>=0))then
    (idx p0.ea y2.2).bind λx7=>
    et (decide ((y2.1++[x7]).length<=room))<|
    some (.inl ((y2.1++[x7]),(IntKind.wrap .i64 (y2.2+1))))
   else
    some (.inl (y2.1,(IntKind.wrap .i64 (y2.2+1))))
  else
   some (.inr y2.1)) λjp4=>
 bif (decide (y2.2<(p0.ea.length:Int)))then
  jp4 (decide ((y2.1.length:Int)<p2))
 else
  jp4 false
def nJ(fuel:Nat)(p0:Tree)(p1:(List Value))(p2:Int):Option ((List Entry)×Int):=
 (oo fuel p0.S p1).bind λr1=>
 bif (!r1)then
  some (([]:List Entry),1)
 else
  bif (decide (p2<0))then
   some (([]:List Entry),7)
  else
   (iter (gk fuel p0 p1 p2) fuel (([]:List Entry),0)).bind λv9=>
   some (v9,0)
def TU(x0:(((List Entry)×Int)×Hp)):SV:=.own 3 (List.map ab x0.1.1)
theorem AS(h:nJ fuel p0 p1 p2=some r):PC Tryz.prog 23 [.d (jj p0),.d (.list 3 (List.map ar p1)),vI p2] (.g8 [.own 3 (List.map ab r.1),vI r.2]):=by
 refine aW Tryz.func23 rfl λH=>?_
 unfold nJ at h
 exact aH 52 H (K65 p0 p1 p2 [])<|au 1<|an<|aI<|ax<|aa 3<|bI h λr1 hr h=>bw (mc hr)<|aa 2<|ak<|aQ h (λh=>au 1<|al<|aJ<|aq<|iI h▸E0) (λh=>au 1<|aQ h (λh=>au 1<|al<|aJ<|aq<|iI h▸E0) (λh=>ao<|aL<|ag<|au 1<|an<|au 1<|aI<|bI h λv9 hit h=>eY 52 H [1,2,3,8,9] (λy2=>(K43 p1 p2 p0 [(8,.own 3 (List.map ab y2.1)),(9,vI y2.2)])) (λv9 e s=>(e=.exit 1/\s=(sp 52 [(8,.own 3 (List.map ab v9))] H))) hit κ (λy2 o h=>by unfold gk at h;exact an<|eb 52 H [1,2,3,8,9,29] (λ(j3:Bool)=>(K43 p1 p2 p0 [(8,ON y2),(9,vI y2.2),(29,vB j3)])) h (λj3 h=>aQ h (λh=>ao<|ag<|an<|aI<|an<|fM<|aF 5<|bI h λx5 hx h=>bm (s:=bc none (ab x5).cells) (aB (n:=3) hx)<|aF 3<|bI h λr6 hr h=>fk (vn hr)<|aF 1<|bF<|ag<|aQ h (λh=>ah<|aP [43] 4<|bI h λx7 hx h=>aw (s:=bc none (ab x7).cells) (aB (n:=3) hx)<|aP [43] 2<|nj h λhk h=>fx 43 3 (List.map ab (y2.1++[x7])) (bt) (bZ hk)<|aP [43] 1<|ae<|aL<|ag<|ah<|aa 3<|ae<|LQ h) (λh=>ao<|aL<|ag<|ah<|aa 3<|ae<|LQ h)) (λh=>zm [(8,ON y2)]<|bN<|aY<|aY<|LR h ⟨rfl,rfl⟩)) λjp4 h=>ah<|aa 3<|aw (aG (enc:=ab) (xs:=p0.ea))<|aU [] [1,2,3,8,9,24] 2<|bE (λb=>(sp 52 (K43 p1 p2 p0 [(8,ON y2),(9,vI y2.2),(24,vB b)]) H)) h (λh=>aa 1<|aw (aG (enc:=ab) (xs:=y2.1))<|aa 3<|ae<|JQ [] h) λh=>aa 5<|ae<|JQ [] h) (by rintro _ _ ⟨rfl,rfl⟩;exact bq<|ag<|ax<|aP [51] 3<|ak<|al<|iI h▸E0)))
noncomputable def fY (fuel:Nat) (p0:Nat) (p1:(List Value)) (p2:Int) (p3:Int) (H:Hp):Option ((Entry×Int)×Hp):=
 (eD fuel p0 p1 p2 H).bind λr1=>
 bif (r1 !=0)then
  some (((⟨([]:List Value),0,0⟩:Entry),r1),H)
 else
  (gz fuel p0 p1 p2 H).bind λr2=>
  bif (!r2.1.2.2)then
   some (((⟨([]:List Value),0,0⟩:Entry),8),r2.2)
  else
   (iu fuel p0 r2.2).bind λr3=>
   bif (decide ((IntKind.wrap .i64 (r2.1.2.1+p3))<0))then
    some (((⟨([]:List Value),0,0⟩:Entry),9),r3.2)
   else
    bif (decide ((IntKind.wrap .i64 (r2.1.2.1+p3))>=(r3.1.length:Int)))then
     some (((⟨([]:List Value),0,0⟩:Entry),9),r3.2)
    else
     (idx r3.1 (IntKind.wrap .i64 (r2.1.2.1+p3))).bind λx4=>
     some ((x4,0),r3.2)
theorem qk(h:fY fuel p0 p1 p2 p3 H=some r):SC Tryz.prog false 55 [.d (.ptr p0 0),.d (.list 3 (List.map ar p1)),vI p2,vI p3] H (.g8 [.d (.agg [.list 3 (List.map ar r.1.1.Row),.int .i64 r.1.1.Key,.int .i64 r.1.1.Number]),vI r.1.2]) r.2:=by
 refine cf Tryz.func55 rfl ?_
 unfold fY at h
 exact aH 55 H (K32 p0 p1 p2 [(3,vI p3)])<|au 1<|an<|ax<|aa 3<|bI h λr1 hr h=>jf (ls:=[]) (fK hr)<|aa 1<|ak<|au 1<|aQ h (λh=>mS 1 [8,9]<|dH 8 0 3 55 H [8,9] [(8,wV),(9,vI r1)] κ<|al<|aq<|iI h▸E0) (λh=>ao<|ag<|ax<|aa 3<|bI h λr2 hr h=>bJ (lV hr)<|aa 8<|ak<|an<|au 1<|aQ h (λh=>mS 1 [8,9]<|dH 8 0 3 55 r2.2 [8,9] [(8,wV),(9,vI 8)] κ<|al<|aq<|iI h▸E0) (λh=>ao<|ag<|ax<|aa 1<|bI h λr3 hr h=>bJ (kD hr)<|aa 1<|ak<|an<|ax<|aU [] [3,8,12,14,40] 5<|bE (λb=>(sp 55 [(3,vI p3),(8,rO),(12,vI r2.1.2.1),(14,Mb r3),(40,vB b)] r3.2)) h (λh=>aa 7<|ak<|en κ<|mS 1 [8,9]<|dH 8 0 3 55 r3.2 [8,9] [(8,wV),(9,vI 9)] κ<|al<|aq<|iI h▸E0) λh=>aa 4<|aw (aG (enc:=ab) (xs:=r3.1))<|aa 2<|ak<|aQ h (λh=>mS 1 [8,9]<|dH 8 0 3 55 r3.2 [8,9] [(8,wV),(9,vI 9)] κ<|al<|aq<|iI h▸E0) (λh=>ao<|ag<|ax<|aP [49] 4<|bI h λx4 hx h=>aw (s:=bc (some (.slot 49)) (ab x4).cells) (aB (n:=3) hx)<|aP [49] 3<|ak<|al<|iI h▸E0)))
noncomputable def nB (fuel:Nat) (p0:Nat) (p1:(List Value)) (p2:Int) (H:Hp):Option ((Entry×Int)×Hp):=
 (fY fuel p0 p1 p2 1 H).bind λr1=>
 some ((r1.1.1,r1.1.2),r1.2)
def EO(x0:((Entry×Int)×Hp)):SV:=.box [.d (.list 3 (List.map ar x0.1.1.Row)),vI x0.1.1.Key,vI x0.1.1.Number]
theorem As(h:nB fuel p0 p1 p2 H=some r):SC Tryz.prog false 24 [.d (.ptr p0 0),.d (.list 3 (List.map ar p1)),vI p2] H (.g8 [.d (.agg [.list 3 (List.map ar r.1.1.Row),.int .i64 r.1.1.Key,.int .i64 r.1.1.Number]),vI r.1.2]) r.2:=by
 refine cf Tryz.func24 rfl ?_
 unfold nB at h
 exact aH 14 H (K32 p0 p1 p2 [])<|au 1<|ax<|aa 3<|bI h λr1 hr h=>bJ (qk hr)<|aa 4<|ak<|al<|iI h▸E0
def lx(fuel:Nat)(p0:Tree)(p1:(List Value))(p2:Int)(p3:Int):Option (Entry×Int):=
 bp (λ(j1:Bool)=>
  bif j1 then
   some ((⟨([]:List Value),0,0⟩:Entry),1)
  else
   (ly fuel p0 p1 p2).bind λr5=>
   bif (decide (r5<0))then
    some ((⟨([]:List Value),0,0⟩:Entry),8)
   else
    bif (decide ((IntKind.wrap .i64 (r5+p3))<0))then
     some ((⟨([]:List Value),0,0⟩:Entry),9)
    else
     bif (decide ((IntKind.wrap .i64 (r5+p3))>=(p0.ea.length:Int)))then
      some ((⟨([]:List Value),0,0⟩:Entry),9)
     else
      (idx p0.ea (IntKind.wrap .i64 (r5+p3))).bind λx6=>
      some (x6,0)) λjp2=>
 (oo fuel p0.S p1).bind λr3=>
 bif (!r3)then
  jp2 true
 else
  (sI fuel p2).bind λr4=>
  jp2 (!r4)
theorem sJ(h:lx fuel p0 p1 p2 p3=some r):PC Tryz.prog 25 [.d (jj p0),.d (.list 3 (List.map ar p1)),vI p2,vI p3] (.g8 [.d (.agg [.list 3 (List.map ar r.1.Row),.int .i64 r.1.Key,.int .i64 r.1.Number]),vI r.2]):=by
 refine aW Tryz.func25 rfl λH=>?_
 unfold lx at h
 exact aH 52 H (K65 p0 p1 p2 [(3,vI p3)])<|au 1<|an<|eb 52 H [1,2,3,4,8,20] (λ(j1:Bool)=>[(1,Z9 p1),(2,vI p2),(3,vI p3),(4,pH p0),(8,rO),(20,vB j1)]) h (λj1 h=>aQ h (λh=>mS 1 [8,9]<|dH 8 0 3 52 H [8,9] [(8,wV),(9,vI 1)] κ<|al<|aq<|iI h▸E0) (λh=>ao<|ag<|ax<|aa 3<|bI h λr5 hr h=>bw (oA hr)<|aa 1<|ak<|an<|aI<|au 1<|aQ h (λh=>mS 1 [8,9]<|dH 8 0 3 52 H [8,9] [(8,wV),(9,vI 8)] κ<|al<|aJ<|aq<|iI h▸E0) (λh=>ax<|aU [] [3,4,8,10,35] 5<|bE (λb=>(sp 52 [(3,vI p3),(4,pH p0),(8,rO),(10,vI r5),(35,vB b)] H)) h (λh=>aa 9<|ak<|en κ<|mS 1 [8,9]<|dH 8 0 3 52 H [8,9] [(8,wV),(9,vI 9)] κ<|al<|aJ<|aq<|iI h▸E0) λh=>aa 5<|aw (aG (enc:=ab) (xs:=p0.ea))<|aa 3<|ak<|aQ h (λh=>mS 1 [8,9]<|dH 8 0 3 52 H [8,9] [(8,wV),(9,vI 9)] κ<|al<|aJ<|aq<|iI h▸E0) (λh=>ao<|aL<|ag<|ax<|aa 5<|bI h λx6 hx h=>aw (s:=bc none (ab x6).cells) (aB (n:=3) hx)<|aa 3<|ak<|al<|iI h▸E0)))) λjp2 h=>ah<|aa 3<|bI h λr3 hr h=>bw (mc hr)<|aU [] [1,2,3,4,8,16] 2<|bE (λb=>(sp 52 [(1,Z9 p1),(2,vI p2),(3,vI p3),(4,pH p0),(8,rO),(16,vB b)] H)) h (λh=>aa 4<|ae<|JQ [] h) λh=>aa 1<|bI h λr4 hr h=>bw (qp hr)<|aa 2<|ae<|JQ [] h
noncomputable def lW (fuel:Nat) (p0:Nat) (p1:(List Value)) (p2:Int) (H:Hp):Option ((Entry×Int)×Hp):=
 (fY fuel p0 p1 p2 (-1) H).bind λr1=>
 some ((r1.1.1,r1.1.2),r1.2)
def EM(x0:Entry×Int):SV:=.box [.d (.list 3 (List.map ar x0.1.Row)),vI x0.1.Key,vI x0.1.Number]
theorem zy(h:lW fuel p0 p1 p2 H=some r):SC Tryz.prog false 26 [.d (.ptr p0 0),.d (.list 3 (List.map ar p1)),vI p2] H (.g8 [.d (.agg [.list 3 (List.map ar r.1.1.Row),.int .i64 r.1.1.Key,.int .i64 r.1.1.Number]),vI r.1.2]) r.2:=by
 refine cf Tryz.func26 rfl ?_
 unfold lW at h
 exact aH 14 H (K32 p0 p1 p2 [])<|au 1<|ax<|aa 3<|bI h λr1 hr h=>bJ (qk hr)<|aa 4<|ak<|al<|iI h▸E0
def oX(fuel:Nat)(p0:Nat)(p1:Int)(H:Hp):Option ((Entry×Int)×Hp):=
 (iu fuel p0 H).bind λr1=>
 bif (p1==0)then
  some (((⟨([]:List Value),0,0⟩:Entry),7),r1.2)
 else
  bp (λ(j2:Bool)=>
   bif j2 then
    some (((⟨([]:List Value),0,0⟩:Entry),8),r1.2)
   else
    bif (decide (p1<0))then
     (idx r1.1 (IntKind.wrap .i64 ((r1.1.length:Int)+p1))).bind λx4=>
     some ((x4,0),r1.2)
    else
     (idx r1.1 (IntKind.wrap .i64 (p1 - 1))).bind λx5=>
     some ((x5,0),r1.2)) λjp3=>
  bif (decide (p1<(IntKind.wrap .i64 (0 - (r1.1.length:Int)))))then
   jp3 true
  else
   jp3 (decide (p1>(r1.1.length:Int)))
theorem Cq(h:oX fuel p0 p1 H=some r):SC Tryz.prog false 27 [.d (.ptr p0 0),vI p1] H (.g8 [.d (.agg [.list 3 (List.map ar r.1.1.Row),.int .i64 r.1.1.Key,.int .i64 r.1.1.Number]),vI r.1.2]) r.2:=by
 refine cf Tryz.func27 rfl ?_
 unfold oX at h
 exact aH 44 H (K12 p0 p1 [])<|au 1<|an<|au 1<|iV<|ao<|ag<|ax<|aa 1<|bI h λr1 hr h=>bJ (kD hr)<|aa 1<|ak<|an<|aI<|au 1<|aQ h (λh=>mS 1 [4,5]<|dH 4 0 3 44 r1.2 [4,5] [(4,wV),(5,vI 7)] κ<|al<|aJ<|aq<|iI h▸E0) (λh=>eb 44 r1.2 [1,4,6,16] (λ(j2:Bool)=>[(1,vI p1),(4,rO),(6,Mb r1),(16,vB j2)]) h (λj2 h=>aQ h (λh=>mS 1 [4,5]<|dH 4 0 3 44 r1.2 [4,5] [(4,wV),(5,vI 8)] κ<|al<|aJ<|aq<|iI h▸E0) (λh=>au 1<|aQ h (λh=>ax<|aa 2<|aw (aG (enc:=ab) (xs:=r1.1))<|aa 2<|bI h λx4 hx h=>aw (s:=bc (some (.slot 6)) (ab x4).cells) (aB (n:=3) hx)<|aa 3<|ak<|al<|aJ<|aq<|iI h▸E0) (λh=>ao<|aL<|ag<|ax<|aP [39] 3<|bI h λx5 hx h=>aw (s:=bc (some (.slot 39)) (ab x5).cells) (aB (n:=3) hx)<|aP [39] 3<|ak<|al<|iI h▸E0))) λjp3 h=>ah<|aa 2<|aw (aG (enc:=ab) (xs:=r1.1))<|aU [] [1,4,6,22] 3<|bE (λb=>(sp 44 [(1,vI p1),(4,rO),(6,Mb r1),(22,vB b)] r1.2)) h (λh=>aa 6<|ae<|JQ [] h) λh=>aa 2<|aw (aG (enc:=ab) (xs:=r1.1))<|aa 3<|ae<|JQ [] h)
def pc(fuel:Nat)(p0:Tree)(p1:Int):Option (Entry×Int):=
 bif (p1==0)then
  some ((⟨([]:List Value),0,0⟩:Entry),7)
 else
  bp (λ(j1:Bool)=>
   bif j1 then
    (idx p0.ea (IntKind.wrap .i64 (p1 - 1))).bind λx3=>
    some (x3,0)
   else
    bif (decide (p1<0))then
     bif (decide (p1>=(IntKind.wrap .i64 (0 - (p0.ea.length:Int)))))then
      (idx p0.ea (IntKind.wrap .i64 ((p0.ea.length:Int)+p1))).bind λx4=>
      some (x4,0)
     else
      some ((⟨([]:List Value),0,0⟩:Entry),8)
    else
     some ((⟨([]:List Value),0,0⟩:Entry),8)) λjp2=>
  bif (decide (p1>0))then
   jp2 (decide (p1<=(p0.ea.length:Int)))
  else
   jp2 false
theorem Ct(h:pc fuel p0 p1=some r):PC Tryz.prog 28 [.d (jj p0),vI p1] (.g8 [.d (.agg [.list 3 (List.map ar r.1.Row),.int .i64 r.1.Key,.int .i64 r.1.Number]),vI r.2]):=by
 refine aW Tryz.func28 rfl λH=>?_
 unfold pc at h
 exact aH 47 H [(0,yh p0),(1,vI p1)]<|au 1<|an<|aI<|au 1<|aQ h (λh=>mS 1 [4,5]<|dH 4 0 3 47 H [4,5] [(4,wV),(5,vI 7)] κ<|al<|aJ<|aq<|iI h▸E0) (λh=>eb 47 H [1,2,4,10] (λ(j1:Bool)=>[(1,vI p1),(2,pH p0),(4,rO),(10,vB j1)]) h (λj1 h=>aQ h (λh=>ax<|aa 4<|bI h λx3 hx h=>aw (s:=bc none (ab x3).cells) (aB (n:=3) hx)<|aa 3<|ak<|al<|aJ<|aq<|iI h▸E0) (λh=>ax<|aU [] [1,2,4,29] 3<|bE (λb=>(sp 47 [(1,vI p1),(2,pH p0),(4,rO),(29,vB b)] H)) h (λh=>aa 3<|aw (aG (enc:=ab) (xs:=p0.ea))<|aa 4<|ak<|aQ h (λh=>ax<|aa 4<|aw (aG (enc:=ab) (xs:=p0.ea))<|aa 2<|bI h λx4 hx h=>aw (s:=bc none (ab x4).cells) (aB (n:=3) hx)<|aa 3<|ak<|al<|aJ<|aq<|iI h▸E0) (λh=>ao<|aL<|ag<|mS 1 [4,5]<|dH 4 0 3 47 H [4,5] [(4,wV),(5,vI 8)] κ<|al<|iI h▸E0)) λh=>aa 8<|ak<|iV<|ao<|aL<|ag<|mS 1 [4,5]<|dH 4 0 3 47 H [4,5] [(4,wV),(5,vI 8)] κ<|al<|iI h▸E0)) λjp2 h=>ah<|aU [] [1,2,4,13] 3<|bE (λb=>(sp 47 [(1,vI p1),(2,pH p0),(4,rO),(13,vB b)] H)) h (λh=>aa 3<|aw (aG (enc:=ab) (xs:=p0.ea))<|aa 3<|ae<|JQ [] h) λh=>aa 7<|ae<|JQ [] h)
noncomputable def im (fuel:Nat) (p0:Nat) (p1:(List Value)) (p2:Int) (H:Hp):Option ((Int×Int)×Hp):=
 (eD fuel p0 p1 p2 H).bind λr1=>
 bif (r1 !=0)then
  some ((0,r1),H)
 else
  (gz fuel p0 p1 p2 H).bind λr2=>
  bif (!r2.1.2.2)then
   some ((0,8),r2.2)
  else
   some (((IntKind.wrap .i64 (r2.1.2.1+1)),0),r2.2)
theorem zz(h:im fuel p0 p1 p2 H=some r):SC Tryz.prog false 29 [.d (.ptr p0 0),.d (.list 3 (List.map ar p1)),vI p2] H (.g8 [vI r.1.1,vI r.1.2]) r.2:=by
 refine cf Tryz.func29 rfl ?_
 unfold im at h
 exact aH 31 H (K32 p0 p1 p2 [])<|au 1<|an<|ax<|aa 3<|bI h λr1 hr h=>jf (ls:=[]) (fK hr)<|aa 1<|ak<|au 1<|aQ h (λh=>au 1<|al<|aq<|iI h▸E0) (λh=>ao<|ag<|ax<|aa 3<|bI h λr2 hr h=>bJ (lV hr)<|aa 8<|ak<|an<|au 1<|aQ h (λh=>au 1<|al<|aq<|iI h▸E0) (λh=>ao<|ag<|au 1<|al<|iI h▸E0))
def mb(fuel:Nat)(p0:Tree)(p1:(List Value))(p2:Int):Option (Int×Int):=
 bp (λ(j1:Bool)=>
  bif j1 then
   some (0,1)
  else
   (ly fuel p0 p1 p2).bind λr5=>
   bif (decide (r5<0))then
    some (0,8)
   else
    some ((IntKind.wrap .i64 (r5+1)),0)) λjp2=>
 (oo fuel p0.S p1).bind λr3=>
 bif (!r3)then
  jp2 true
 else
  (sI fuel p2).bind λr4=>
  jp2 (!r4)
theorem zF(h:mb fuel p0 p1 p2=some r):PC Tryz.prog 30 [.d (jj p0),.d (.list 3 (List.map ar p1)),vI p2] (.g8 [vI r.1,vI r.2]):=by
 refine aW Tryz.func30 rfl λH=>?_
 unfold mb at h
 exact aH 27 H (K65 p0 p1 p2 [])<|au 1<|an<|eb 27 H [1,2,3,18] (λ(j1:Bool)=>(K43 p1 p2 p0 [(18,vB j1)])) h (λj1 h=>aQ h (λh=>au 1<|al<|aq<|iI h▸E0) (λh=>ao<|ag<|ax<|aa 3<|bI h λr5 hr h=>bw (oA hr)<|aa 1<|ak<|an<|au 1<|aQ h (λh=>au 1<|al<|aq<|iI h▸E0) (λh=>ao<|ag<|au 1<|al<|iI h▸E0))) λjp2 h=>ah<|aa 3<|bI h λr3 hr h=>bw (mc hr)<|aU [] [1,2,3,14] 2<|bE (λb=>(sp 27 (K43 p1 p2 p0 [(14,vB b)]) H)) h (λh=>aa 4<|ae<|JQ [] h) λh=>aa 1<|bI h λr4 hr h=>bw (qp hr)<|aa 2<|ae<|JQ [] h
noncomputable def pM (fuel:Nat) (p0:ay) (p1:Int) (p2:(List Act)) (p3:(List Value)) (p4:Int) (p5:Int):Option (Bool):=
 bp (λ(j1:Bool)=>
  bif j1 then
   (tZ fuel).bind λr5=>
   some r5
  else
   (xS fuel p0 p1 p2 []).bind λr6=>
   bif ((!r6.1.same)||(!r6.1.ok))then
    bp (λ(j7:Bool)=>
     some j7) λjp8=>
    bif r6.1.same then
     (tZ fuel).bind λr9=>
     jp8 r9
    else
     jp8 false
   else
    r6.1.t.bind λi10=>
    (lr fuel i10 p3 r6.2).bind λr11=>
    (nL fuel r6.1.r p3).bind λr12=>
    bp (λ(j13:Bool)=>
     bif j13 then
      some false
     else
      r6.1.t.bind λi16=>
      (js fuel i16 p3 p5 r11.2).bind λr17=>
      (nJ fuel r6.1.r p3 p5).bind λr18=>
      bp (λ(j19:Bool)=>
       bif j19 then
        some false
       else
        r6.1.t.bind λi22=>
        (nB fuel i22 p3 p4 r17.2).bind λr23=>
        (lx fuel r6.1.r p3 p4 1).bind λr24=>
        bp (λ(j25:Bool)=>
         bif j25 then
          some false
         else
          r6.1.t.bind λi28=>
          (lW fuel i28 p3 p4 r23.2).bind λr29=>
          (lx fuel r6.1.r p3 p4 (-1)).bind λr30=>
          bp (λ(j31:Bool)=>
           bif j31 then
            some false
           else
            r6.1.t.bind λi34=>
            (oX fuel i34 p5 r29.2).bind λr35=>
            (pc fuel r6.1.r p5).bind λr36=>
            bp (λ(j37:Bool)=>
             bif j37 then
              some false
             else
              r6.1.t.bind λi40=>
              (im fuel i40 p3 p4 r35.2).bind λr41=>
              (mb fuel r6.1.r p3 p4).bind λr42=>
              bif ((r41.1.1==r42.1)&&(r41.1.2==r42.2))then
               (tZ fuel).bind λr43=>
               some r43
              else
               some false) λjp38=>
            bif (r35.1.2 !=r36.2)then
             jp38 true
            else
             (dI fuel [r35.1.1] [r36.1]).bind λr39=>
             jp38 (!r39)) λjp32=>
          bif (r29.1.2 !=r30.2)then
           jp32 true
          else
           (dI fuel [r29.1.1] [r30.1]).bind λr33=>
           jp32 (!r33)) λjp26=>
        bif (r23.1.2 !=r24.2)then
         jp26 true
        else
         (dI fuel [r23.1.1] [r24.1]).bind λr27=>
         jp26 (!r27)) λjp20=>
      bif (r17.1.2 !=r18.2)then
       jp20 true
      else
       (dI fuel r17.1.1 r18.1).bind λr21=>
       jp20 (!r21)) λjp14=>
    bif (r11.1.2 !=r12.2)then
     jp14 true
    else
     (jW fuel r11.1.1 r12.1).bind λr15=>
     jp14 (!r15)) λjp2=>
 (Bt fuel p0 p2).bind λr3=>
 bif (!r3)then
  jp2 true
 else
  (qG fuel [p3]).bind λr4=>
  jp2 (!r4)
def K22:=λa0 a1 a2 a3 (t:SL)=>((3,Z9 a0)::(4,vI a1)::(5,vI a2)::(13,OJ a3)::t:SL)
theorem Bs(h:pM fuel p0 p1 p2 p3 p4 p5=some r):PC Tryz.prog 6 [.d (cD p0),vI p1,.d (.list 4 (List.map lg p2)),.d (.list 3 (List.map ar p3)),vI p4,vI p5] (vB r):=by
 exact pB Tryz.func6 rfl (by simp[jh,fO,gm,vI,vB,vS,uL,gl (f:=lg) LL,gl (f:=ar) pR]) (by simp[jh,fO,gm,vI,vB,vS])<|(by unfold pM at h;exact aH 206 [] [(0,Z2 p0),(1,vI p1),(2,Z0 p2),(3,Z9 p3),(4,vI p4),(5,vI p5)]<|au 1<|an<|eb 206 [] [1,2,3,4,5,6,33] (λ(j1:Bool)=>[(1,vI p1),(2,Z0 p2),(3,Z9 p3),(4,vI p4),(5,vI p5),(6,Z1 p0),(33,vB j1)]) h (λj1 h=>aQ h (λh=>ax<|bI h λr5 hr h=>bw (vq hr)<|aa 1<|ak<|al<|aq<|iI h▸EL) (λh=>ao<|ag<|ax<|aa 3<|bI h λr6 hr h=>bJ (LF hr)<|aa 2<|ak<|an<|ax<|aU [] [3,4,5,13,42] 4<|dO 206 r6.2 [3,4,5,13,46] 4 (!r6.1.same) (λb=>(sp 206 (K22 p3 p4 p5 r6 [(42,vB b)]) r6.2)) (λb=>(K22 p3 p4 p5 r6 [(46,vB (b||(!r6.1.ok)))])) κ κ κ<|ak<|aQ h (λh=>eb 206 r6.2 [12] (λ(j7:Bool)=>[(12,vB j7)]) h (λj7 h=>al<|aq<|iI h▸EL) λjp8 h=>ah<|aU [] [49] 3<|bE (λb=>(sp 206 [(49,vB b)] r6.2)) h (λh=>bI h λr9 hr h=>bw (vq hr)<|aa 2<|ae<|JQ [] h) λh=>aa 3<|ae<|JQ [] h) (λh=>ao<|ag<|ax<|aU [] [3,4,5,13,54,55] 3<|bI h λi10 hp_i10 h=>bA r6.1.t (λp=>(sp 206 (K22 p3 p4 p5 r6 [(54,.d (cP.enc p)),(55,Z9 p3)]) r6.2)) κ hp_i10<|bI h λr11 hr h=>bJ (Au hr)<|aa 5<|ak<|ax<|aa 3<|bI h λr12 hr h=>bw (AU hr)<|aa 5<|ak<|an<|eb 206 r11.2 [3,4,5,13,74] (λ(j13:Bool)=>(K22 p3 p4 p5 r6 [(74,vB j13)])) h (λj13 h=>aQ h (λh=>au 1<|al<|aq<|iI h▸EL) (λh=>ao<|ag<|ax<|aU [] [3,4,5,13,77,78,79] 4<|bI h λi16 hp_i16 h=>bA r6.1.t (λp=>(sp 206 (K22 p3 p4 p5 r6 [(77,.d (cP.enc p)),(78,Z9 p3),(79,vI p5)]) r11.2)) κ hp_i16<|bI h λr17 hr h=>bJ (At hr)<|aa 5<|ak<|ax<|aa 4<|bI h λr18 hr h=>bw (AS hr)<|aa 5<|ak<|an<|eb 206 r17.2 [3,4,5,13,99] (λ(j19:Bool)=>(K22 p3 p4 p5 r6 [(99,vB j19)])) h (λj19 h=>aQ h (λh=>au 1<|al<|aq<|iI h▸EL) (λh=>ao<|ag<|ax<|aU [] [3,4,5,13,102,103,104] 4<|bI h λi22 hp_i22 h=>bA r6.1.t (λp=>(sp 206 (K22 p3 p4 p5 r6 [(102,.d (cP.enc p)),(103,Z9 p3),(104,vI p4)]) r17.2)) κ hp_i22<|bI h λr23 hr h=>bJ (As hr)<|aa 6<|ak<|ax<|aa 4<|bI h λr24 hr h=>bw (sJ hr)<|aa 6<|ak<|an<|eb 206 r23.2 [3,4,5,13,20,21,126] (λ(j25:Bool)=>(K22 p3 p4 p5 r6 [(20,EO r23),(21,EM r24),(126,vB j25)])) h (λj25 h=>aQ h (λh=>au 1<|al<|aq<|iI h▸EL) (λh=>ao<|ag<|ax<|aU [] [3,4,5,13,20,21,129,130,131] 4<|bI h λi28 hp_i28 h=>bA r6.1.t (λp=>(sp 206 (K22 p3 p4 p5 r6 [(20,EO r23),(21,EM r24),(129,.d (cP.enc p)),(130,Z9 p3),(131,vI p4)]) r23.2)) κ hp_i28<|bI h λr29 hr h=>bJ (zy hr)<|aa 5<|ak<|ax<|aa 4<|bI h λr30 hr h=>bw (sJ hr)<|aa 5<|ak<|an<|eb 206 r29.2 [3,4,5,13,20,21,153] (λ(j31:Bool)=>(K22 p3 p4 p5 r6 [(20,EO r29),(21,EM r30),(153,vB j31)])) h (λj31 h=>aQ h (λh=>au 1<|al<|aq<|iI h▸EL) (λh=>ao<|ag<|ax<|aU [] [3,4,5,13,20,21,156,157] 3<|bI h λi34 hp_i34 h=>bA r6.1.t (λp=>(sp 206 (K22 p3 p4 p5 r6 [(20,EO r29),(21,EM r30),(156,.d (cP.enc p)),(157,vI p5)]) r29.2)) κ hp_i34<|bI h λr35 hr h=>bJ (Cq hr)<|aa 5<|ak<|ax<|aa 3<|bI h λr36 hr h=>bw (Ct hr)<|aa 5<|ak<|an<|eb 206 r35.2 [3,4,13,178] (λ(j37:Bool)=>[(3,Z9 p3),(4,vI p4),(13,OJ r6),(178,vB j37)]) h (λj37 h=>aQ h (λh=>au 1<|al<|aq<|iI h▸EL) (λh=>ao<|ag<|ax<|aU [] [3,4,13,181,182,183] 4<|bI h λi40 hp_i40 h=>bA r6.1.t (λp=>(sp 206 [(3,Z9 p3),(4,vI p4),(13,OJ r6),(181,.d (cP.enc p)),(182,Z9 p3),(183,vI p4)] r35.2)) κ hp_i40<|bI h λr41 hr h=>bJ (zz hr)<|aa 5<|ak<|ax<|aa 4<|bI h λr42 hr h=>bw (zF hr)<|aa 5<|ak<|ax<|aU [] [15,17,198] 4<|dO 206 r41.2 [202] 4 (r41.1.1==r42.1) (λb=>(sp 206 [(15,vI r41.1.2),(17,vI r42.2),(198,vB b)] r41.2)) (λb=>[(202,vB (b&&(r41.1.2==r42.2)))]) κ κ κ<|aU [] [203] 1<|bE (λb=>(sp 206 [(203,vB b)] r41.2)) h (λh=>bI h λr43 hr h=>bw (vq hr)<|aa 2<|ak<|al<|iI h▸EL) λh=>aa 3<|ak<|al<|iI h▸EL)) λjp38 h=>ah<|aU [] [3,4,13,20,21,171] 4<|bE (λb=>(sp 206 [(3,Z9 p3),(4,vI p4),(13,OJ r6),(20,EO r35),(21,EM r36),(171,vB b)] r35.2)) h (λh=>aa 7<|ae<|JQ [] h) λh=>aa 4<|bI h λr39 hr h=>eO 206 r35.2 (d:=some 176) (ls:=[(.slot 173),(.slot 175)]) (gs:=[]) [] [3,4,13,171,176] [(3,Z9 p3),(4,vI p4),(13,OJ r6),(171,vB false),(176,vB r39)] (gb hr) κ κ κ<|aa 2<|ae<|JQ [] h)) λjp32 h=>ah<|aU [] [3,4,5,13,20,21,146] 4<|bE (λb=>(sp 206 (K22 p3 p4 p5 r6 [(20,EO r29),(21,EM r30),(146,vB b)]) r29.2)) h (λh=>aa 7<|ae<|JQ [] h) λh=>aa 4<|bI h λr33 hr h=>eO 206 r29.2 (d:=some 151) (ls:=[(.slot 148),(.slot 150)]) (gs:=[]) [] [3,4,5,13,20,21,146,151] (K22 p3 p4 p5 r6 [(20,EO r29),(21,EM r30),(146,vB false),(151,vB r33)]) (gb hr) κ κ κ<|aa 2<|ae<|JQ [] h)) λjp26 h=>ah<|aU [] [3,4,5,13,20,21,119] 4<|bE (λb=>(sp 206 (K22 p3 p4 p5 r6 [(20,EO r23),(21,EM r24),(119,vB b)]) r23.2)) h (λh=>aa 7<|ae<|JQ [] h) λh=>aa 4<|bI h λr27 hr h=>eO 206 r23.2 (d:=some 124) (ls:=[(.slot 121),(.slot 123)]) (gs:=[]) [] [3,4,5,13,20,21,119,124] (K22 p3 p4 p5 r6 [(20,EO r23),(21,EM r24),(119,vB false),(124,vB r27)]) (gb hr) κ κ κ<|aa 2<|ae<|JQ [] h)) λjp20 h=>ah<|aU [] [3,4,5,13,18,19,94] 4<|bE (λb=>(sp 206 (K22 p3 p4 p5 r6 [(18,TU r17),(19,ON r18),(94,vB b)]) r17.2)) h (λh=>aa 5<|ae<|JQ [] h) λh=>aP [95,96] 2<|bI h λr21 hr h=>eO 206 r17.2 (d:=some 97) (ls:=[(.slot 95),(.slot 96)]) (gs:=[]) [] [3,4,5,13,94,97] (K22 p3 p4 p5 r6 [(94,vB false),(97,vB r21)]) (gb hr) κ κ κ<|aP [95,96] 2<|ae<|JQ [] h)) λjp14 h=>ah<|aU [] [3,4,5,13,14,16,69] 4<|bE (λb=>(sp 206 (K22 p3 p4 p5 r6 [(14,TW r11),(16,RW r12),(69,vB b)]) r11.2)) h (λh=>aa 5<|ae<|JQ [] h) λh=>aP [70,71] 2<|bI h λr15 hr h=>eO 206 r11.2 (d:=some 72) (ls:=[(.slot 70),(.slot 71)]) (gs:=[]) [] [3,4,5,13,69,72] (K22 p3 p4 p5 r6 [(69,vB false),(72,vB r15)]) (rY hr) κ κ κ<|aP [70,71] 2<|ae<|JQ [] h))) λjp2 h=>ah<|aa 2<|bI h λr3 hr h=>bw (LG hr)<|aU [] [1,2,3,4,5,6,28] 2<|bE (λb=>(sp 206 [(1,vI p1),(2,Z0 p2),(3,Z9 p3),(4,vI p4),(5,vI p5),(6,Z1 p0),(28,vB b)] [])) h (λh=>aa 5<|ae<|JQ [] h) λh=>aa 2<|bI h λr4 hr h=>eO 206 [] (d:=some 31) (ls:=[(.slot 30)]) (gs:=[]) [] [1,2,3,4,5,6,28,31] [(1,vI p1),(2,Z0 p2),(3,Z9 p3),(4,vI p4),(5,vI p5),(6,Z1 p0),(28,vB false),(31,vB r4)] (yW hr) κ κ κ<|aa 2<|ae<|JQ [] h)
end
end Go.Sh
