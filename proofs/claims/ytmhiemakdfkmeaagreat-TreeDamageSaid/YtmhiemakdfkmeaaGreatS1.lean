/- Contracts of functions over plain data. -/
import Derived.Lib.QuietBelow
import Derived.Laws.Sem
import Derived.Laws.StructEq
import Derived.Laws.Cells
import Derived.Laws.Slices
import Derived.Laws.Strings
import Derived.Laws.Build
import Derived.Laws.BytesArg
import Derived.Tactics
import Derived.StillTail
import Derived.Laws.AppendOwn
import Derived.KernelRfl
set_option linter.all false
set_option autoImplicit true
set_option relaxedAutoImplicit true
namespace Go.Sh
theorem κ{p:Prop}(h:p:=by kernel_rfl):p:=h
theorem ω{p:Prop}(h:p:=by omega):p:=h
theorem ψ{p:Prop}(h:p:=by simp):p:=h
theorem φ{p:Prop}(h:p:=by grind):p:=h
theorem χ{p:Prop}(h:p:=by(simp;omega)):p:=h
def g_0:=@List.getElem?_set_self
def g_1:=@List.getElem?_set_ne
def g_2:=@Option.some.injEq
def g_3:=@Bool.and_eq_true
def g_4:=@Option.map_eq_some_iff
def g_5:=@List.getElem?_eq_some_iff
def g_6:=@List.getElem?_eq_getElem
def g_7:=@Bool.false_eq_true
def g_8:=@Prod.mk.injEq
def g_9:=@Option.bind_eq_some_iff
def h_0:=@Nat.le_refl
def h_1:=@List.getElem?_map
def h_2:=@List.mem_iff_getElem?
def h_3:=@List.map_cons
def h_4:=@List.all_eq_true
def h_5:=@List.getElem?_append_right
def h_6:=@List.getElem?_append_left
def h_7:=@Nat.mul_le_mul_right
def h_8:=@List.mem_cons
def h_9:=@List.length_append
def j_0:=@List.getElem_mem
def j_1:=@List.cons.inj
def j_2:=@List.append_assoc
def j_3:=@List.getElem?_cons_zero
def j_4:=@List.length_cons
def j_5:=@Option.bind_some
def j_6:=@Ne.symm
def j_7:=@List.pairwise_cons
def j_8:=@Bool.true_and
def j_9:=@List.map_append
def k_0:=@List.length_map
def k_1:=@Option.isSome_iff_exists
def k_2:=@List.mem_of_getElem?
def k_3:=@List.pairwise_append
def k_4:=@Bool.not_eq_true'
def k_5:=@Array.getElem?_extract
def k_6:=@List.length_set
def k_7:=@Array.getD_eq_getD_getElem?
def k_8:=@List.getElem?_cons_succ
def k_9:=@List.mem_append
def m_0:=@Array.getElem?_eq_some_iff
def m_1:=@List.mem_cons_of_mem
def m_2:=@Option.isNone_iff_eq_none
def m_3:=@Bool.false_and
def m_4:=@Option.map_some
def m_5:=@List.nil_append
def m_6:=@List.ext_getElem?
def m_7:=@List.cons_append
def m_8:=@List.take_append_drop
def m_9:=@List.set_set
def p_0:=@List.drop_of_length_le
def p_1:=@List.take_of_length_le
def p_2:=@List.map_toArray
def p_3:=@List.drop_length
def p_4:=@List.append_nil
def p_5:=@Array.length_toList
def p_6:=@Bool.or_eq_true
def p_7:=@Nat.min_eq_left
def p_8:=@List.flatten_cons
def p_9:=@List.drop_eq_getElem_cons
def q_0:=@Array.getElem?_append_right
def q_1:=@List.drop_zero
def q_2:=@Bool.eq_false_iff
def q_3:=@List.length_eq_zero_iff
def q_4:=@Nat.zero_add
def q_5:=@List.mem_cons_self
def q_6:=@List.map_eq_nil_iff
def q_7:=@List.map_nil
def q_8:=@List.take_append_getElem
def q_9:=@Nat.zero_le
def v_0:=@Nat.add_mul
def v_1:=@List.all_cons
def v_2:=@Nat.le_trans
def v_3:=@List.length_nil
def v_4:=@List.getElem?_mapIdx
def v_5:=@Array.ext'
def v_6:=@Array.getElem?_append_left
def v_7:=@List.getElem?_zipWith
def v_8:=@Array.getElem?_modify
def v_9:=@Nat.succ_mul
def w_0:=@List.mem_map
def w_1:=@Array.getElem?_toList
def w_2:=@List.mem_singleton
def w_3:=@List.mem_append_right
def w_4:=@Bool.and_false
def w_5:=@List.mem_of_mem_drop
def w_6:=@Int.toNat_natCast
def w_7:=@Sum.elim_inl
def w_8:=@List.filter_eq_self
def w_9:=@Option.getD_some
inductive D where
 |bool (b:Bool)
 |int (k:IntKind) (n:Int)
 |str (l:List UInt8)
 |cG
 |list (n:Nat) (xs:List D)
 |agg (cs:List D)
 |nilIface
 |iface (t:TypeId) (x:D)
 |fn (f:Fn) (first caps:List D)
 |lu
 |fZ
 |ptr (i off:Nat)
 |fV (cs:List D)
 |kf
 |map (i:Nat)
 |raw (v:Value)
 deriving Inhabited
def D.cells:D->List D
 |.agg cs=>cs
 |x=>[x]
def mk(l:List UInt8):ByteArray:=⟨⟨l⟩⟩
def qZ(l:List UInt8):(mk l).size=l.length:=rfl
inductive Loc where
 |slot (t:Nat)
 |comp (t j:Nat)
 |cell (t j:Nat)
 |au (i j:Nat)
 |TS
 deriving DecidableEq
inductive Own where
 |free
 |out
 |box (t:Nat)
 |obj (i:Nat)
 |bN (l:Loc)
 deriving DecidableEq
structure Gh where
 ow:Nat->Own
 ρ:List Nat
def Gh.xe(g:Gh)(k:Nat)(o:Own):Gh:={g with ow:=λb=>if b=k then o else g.ow b}
@[simp] theorem Re(g:Gh)(k:Nat)(o:Own):(g.xe k o).ow k=o:=by simp[Gh.xe]
def uO(g:Gh)(o:Own)(h:b≠k):(g.xe k o).ow b=g.ow b:=by simp[Gh.xe,h]
@[simp] theorem RP(g:Gh)(k:Nat)(o:Own):(g.xe k o).ρ=g.ρ:=rfl
inductive Rd (g:Gh) (w:World):Value->D->Prop
 |bool {b}:Rd g w (.bool b) (.bool b)
 |int {k n}:Rd g w (.int k n) (.int k n)
 |str {l}:Rd g w (.string (mk l)) (.str l)
 |cG {a}:Rd g w (.slice a 0 0) .cG
 |mu {a cap n}:Rd g w (.slice a 0 cap) (.list n [])
 |list {k off len cap n:Nat} {xs:List D} {c:Array Value} {T:TypeId} {fz:Nat×Nat} (us:Nat->Nat->Value) (hk:g.ow k=.free) (hb:w.heap[k]? =some (.cells c T fz)) (hl:xs.length=len) (hp:len<=cap)
   (hn: ∀(i:Nat) (x:D),xs[i]? =some x->x.cells.length=n)
   (hc: ∀(i:Nat) (x:D),xs[i]? =some x-> ∀(j:Nat) (y:D),x.cells[j]? =some y->c[off+i * n+j]? =some (us i j)/\(us i j).oneCell'=true)
   (hr: ∀(i:Nat) (x:D),xs[i]? =some x-> ∀(j:Nat) (y:D),x.cells[j]? =some y->Rd g w (us i j) y):
   Rd g w (.slice (some ⟨k,off,none⟩) len cap) (.list n xs)
 |agg {vs:Array Value} {cs:List D} (hl:vs.size=cs.length) (us:Nat->Value) (hc: ∀(j:Nat) (y:D),cs[j]? =some y->vs[j]? =some (us j)/\(us j).oneCell'=true)
   (hr: ∀(j:Nat) (y:D),cs[j]? =some y->Rd g w (us j) y):Rd g w (.agg vs) (.agg cs)
 |nilIface:Rd g w .nilIface .nilIface
 |iface {t v x} (h:Rd g w v x):Rd g w (.iface t v) (.iface t x)
 |fn {f} {first caps:Array Value} {fs cs:List D} (hl1:first.size=fs.length) (hl2:caps.size=cs.length) (us1 us2:Nat->Value)
   (hc1: ∀(j:Nat) (y:D),fs[j]? =some y->first[j]? =some (us1 j)) (hr1: ∀(j:Nat) (y:D),fs[j]? =some y->Rd g w (us1 j) y)
   (hc2: ∀(j:Nat) (y:D),cs[j]? =some y->caps[j]? =some (us2 j)) (hr2: ∀(j:Nat) (y:D),cs[j]? =some y->Rd g w (us2 j) y):
   Rd g w (.func f first caps) (.fn f fs cs)
 |lu:Rd g w .nilFunc .lu
 |fZ:Rd g w (.pointer none) .fZ
 |ptr {i off k} (h:g.ρ[i]? =some k):Rd g w (.pointer (some ⟨k,off,none⟩)) (.ptr i off)
 |fV {k off:Nat} {cs:List D} {c:Array Value} {T:TypeId} {fz:Nat×Nat} (us:Nat->Value) (hk:g.ow k=.free) (hb:w.heap[k]? =some (.cells c T fz))
   (hc: ∀(j:Nat) (y:D),cs[j]? =some y->c[off+j]? =some (us j)/\(us j).oneCell'=true) (hr: ∀(j:Nat) (y:D),cs[j]? =some y->Rd g w (us j) y):
   Rd g w (.pointer (some ⟨k,off,none⟩)) (.fV cs)
 |kf:Rd g w (.map none) .kf
 |map {i k} (h:g.ρ[i]? =some k):Rd g w (.map (some k)) (.map i)
 |raw {v:Value} (h:v.oneCell'=true):Rd g w v (.raw v)
def Rd.jA(h:Rd g w v .cG): ∃a,v=.slice a 0 0:=by
 cases h;exact⟨_,rfl⟩
def aO(tag:Own)(g:Gh)(w:World)(g':Gh)(w':World):Prop:=
 ∀(k:Nat) (o:Obj),g.ow k=tag->w.heap[k]? =some o->g'.ow k=tag/\w'.heap[k]? =some o
def eB(g g':Gh):Prop:= ∀(i k:Nat),g.ρ[i]? =some k->g'.ρ[i]? =some k
def Rd.bg(h:aO .free g w g' w')(hρ:eB g g')(hr:Rd g w v x):Rd g' w' v x:=by
 induction hr with
 |bool=>exact .bool
 |int=>exact .int
 |str=>exact .str
 |cG=>exact .cG
 |mu=>exact .mu
 |list us hk hb hl hp hn hc _ ih=>exact .list us (h _ _ hk hb).1 (h _ _ hk hb).2 hl hp hn hc ih
 |agg hl us hc _ ih=>exact .agg hl us hc ih
 |nilIface=>exact .nilIface
 |iface _ ih=>exact .iface ih
 |fn hl1 hl2 us1 us2 hc1 _ hc2 _ ih1 ih2=>exact .fn hl1 hl2 us1 us2 hc1 ih1 hc2 ih2
 |lu=>exact .lu
 |fZ=>exact .fZ
 |ptr h=>exact .ptr (hρ _ _ h)
 |fV us hk hb hc _ ih=>exact .fV us (h _ _ hk hb).1 (h _ _ hk hb).2 hc ih
 |kf=>exact .kf
 |map h=>exact .map (hρ _ _ h)
 |raw h=>exact .raw h
def aO.refl(tag:Own)(g:Gh)(w:World):aO tag g w g w:=λ_ _ h1 h2=>⟨h1,h2⟩
def eB.refl(g:Gh):eB g g:=λ_ _ h=>h
def aO.trans(h:aO tag g1 w1 g2 w2)(h':aO tag g2 w2 g3 w3):aO tag g1 w1 g3 w3:=
 λk o a b=>let⟨c,d⟩:=h k o a b;h' k o c d
def IZ(l:Option Loc):Own->Prop
 |.free=>True
 |.bN l'=>l=some l'
 |_=>False
def eZ(g:Gh)(w:World)(l:Option Loc)(v:Value)(n:Nat)(xs:List D):Prop:=
 (xs=[]/\ ∃a cap,v=.slice a 0 cap)\/
 ∃(k off cap:Nat) (c:Array Value) (T:TypeId) (fz:Nat×Nat) (us:Nat->Nat->Value),v=.slice (some ⟨k,off,none⟩) xs.length cap/\IZ l (g.ow k)/\w.heap[k]? =some (.cells c T fz)/\xs.length<=cap/\
  (∀(i:Nat) (x:D),xs[i]? =some x->x.cells.length=n)/\
  (∀(i:Nat) (x:D),xs[i]? =some x-> ∀(j:Nat) (y:D),x.cells[j]? =some y->c[off+i * n+j]? =some (us i j)/\(us i j).oneCell'=true)/\
  (∀(i:Nat) (x:D),xs[i]? =some x-> ∀(j:Nat) (y:D),x.cells[j]? =some y->Rd g w (us i j) y)
def rP(g:Gh)(w:World)(l:Option Loc)(v:Value)(cs:List D):Prop:=
 ∃(k off:Nat) (c:Array Value) (T:TypeId) (fz:Nat×Nat) (us:Nat->Value),v=.pointer (some ⟨k,off,none⟩)/\IZ l (g.ow k)/\w.heap[k]? =some (.cells c T fz)/\
  (∀(j:Nat) (y:D),cs[j]? =some y->c[off+j]? =some (us j)/\(us j).oneCell'=true)/\(∀(j:Nat) (y:D),cs[j]? =some y->Rd g w (us j) y)
def lR:IZ none o<->o=.free:=by cases o<;>simp[IZ]
def Sg(h:IZ none o):IZ l o:=by rw[lR.1 h];trivial
def Rd.toList(h:Rd g w v (.list n xs)):eZ g w none v n xs:=by
 cases h with
 |mu=>exact .inl ⟨rfl,_,_,rfl⟩
 |list us hk hb hl hp hn hc hr=>subst hl;exact .inr ⟨_,_,_,_,_,_,us,rfl,lR.2 hk,hb,hp,hn,hc,hr⟩
def eZ.Nm(h:eZ g w none v n xs):Rd g w v (.list n xs):=by
 rcases h with⟨rfl,a,cap,rfl⟩|⟨k,off,cap,c,T,fz,us,rfl,hk,hb,hp,hn,hc,hr⟩
 .exact .mu
 .exact .list us (lR.1 hk) hb rfl hp hn hc hr
def Rd.Tr(h:Rd g w v (.fV cs)):rP g w none v cs:=by
 cases h with
 |fV us hk hb hc hr=>exact⟨_,_,_,_,_,us,rfl,lR.2 hk,hb,hc,hr⟩
def rP.Nm(h:rP g w none v cs):Rd g w v (.fV cs):=by
 obtain⟨k,off,c,T,fz,us,rfl,hk,hb,hc,hr⟩:=h
 exact .fV us (lR.1 hk) hb hc hr
def eZ.up(h:eZ g w none v n xs):eZ g w l v n xs:=by
 rcases h with h|⟨k,off,cap,c,T,fz,us,hv,hk,h⟩
 .exact .inl h
 .exact .inr ⟨k,off,cap,c,T,fz,us,hv,Sg hk,h⟩
def Gp(h:aO .free g w g' w')(h': ∀l',l=some l'->aO (.bN l') g w g' w')
  (hk:IZ l (g.ow k)) (hb:w.heap[k]? =some o):IZ l (g'.ow k)/\w'.heap[k]? =some o:=by
 cases ho:g.ow k<;>simp only[ho,IZ]at hk
 .obtain⟨a,b⟩:=h k o ho hb;exact⟨by rw[a];trivial,b⟩
 .obtain⟨a,b⟩:=h' _ hk k o ho hb;exact⟨by rw[a];exact hk,b⟩
def eZ.bg(h:aO .free g w g' w')(h': ∀l',l=some l'->aO (.bN l') g w g' w')
  (hρ:eB g g') (hr:eZ g w l v n xs):eZ g' w' l v n xs:=by
 rcases hr with hr|⟨k,off,cap,c,T,fz,us,hv,hk,hb,hp,hn,hc,hr⟩
 .exact .inl hr
 .obtain⟨a,b⟩:=Gp h h' hk hb
  exact .inr ⟨k,off,cap,c,T,fz,us,hv,a,b,hp,hn,hc,λi x hx j y hy=>(hr i x hx j y hy).bg h hρ⟩
def rP.bg(h:aO .free g w g' w')(h': ∀l',l=some l'->aO (.bN l') g w g' w')
  (hρ:eB g g') (hr:rP g w l v cs):rP g' w' l v cs:=by
 obtain⟨k,off,c,T,fz,us,hv,hk,hb,hc,hr⟩:=hr
 obtain⟨a,b⟩:=Gp h h' hk hb
 exact⟨k,off,c,T,fz,us,hv,a,b,hc,λj y hy=>(hr j y hy).bg h hρ⟩
def fK(w w':World):Prop:=w'.os=w.os/\w'.output=w.output
def fK.refl(w:World):fK w w:=⟨rfl,rfl⟩
def fK.trans(h:fK w1 w2)(h':fK w2 w3):fK w1 w3:=⟨h'.1.trans h.1,h'.2.trans h.2⟩
structure Fr(pu:Bool)(g:Gh)(w:World)(g':Gh)(w':World):Prop where
 size:w.heap.size<=w'.heap.size
 free:aO .free g w g' w'
 out:aO .out g w g' w'
 qH:eB g g'
 obj:pu=true-> ∀i,aO (.obj i) g w g' w'
 au:pu=true-> ∀i j,aO (.bN (.au i j)) g w g' w'
 len:pu=true->g'.ρ=g.ρ
 os:fK w w':=by exact⟨rfl,rfl⟩
def Fr.refl(pu:Bool)(g:Gh)(w:World):Fr pu g w g w:=⟨h_0 _,aO.refl _ _ _,aO.refl _ _ _,eB.refl _,λ_ _=>aO.refl _ _ _,λ_ _ _=>aO.refl _ _ _,λ_=>rfl,fK.refl _⟩
def Fr.trans(h:Fr pu g1 w1 g2 w2)(h':Fr pu g2 w2 g3 w3):Fr pu g1 w1 g3 w3:=
 ⟨v_2 h.size h'.size,h.free.trans h'.free,h.out.trans h'.out,λi k a=>h'.qH i k (h.qH i k a),λp i=>(h.obj p i).trans (h'.obj p i),λp i j=>(h.au p i j).trans (h'.au p i j),
  λp=>(h'.len p).trans (h.len p),h.os.trans h'.os⟩
def Fr.of(X:Own->Prop)(hx: ∀o,X o->o≠.free/\o≠.out/\(∀i,o≠.obj i)/\ ∀i j,o≠.bN (.au i j))(hs:w.heap.size<=w'.heap.size)
  (hk: ∀o,¬X o->aO o g w g' w') (hρ:g'.ρ=g.ρ) (hos:fK w w':=by exact⟨rfl,rfl⟩):Fr pu g w g' w':=
 ⟨hs,hk _ λh=>(hx _ h).1 rfl,hk _ λh=>(hx _ h).2.1 rfl,λi k h=>by rw[hρ];exact h,λ_ i=>hk _ λh=>(hx _ h).2.2.1 i rfl,λ_ i j=>hk _ λh=>(hx _ h).2.2.2 i j rfl,λ_=>hρ,hos⟩
inductive SV where
 |d (x:D)
 |own (n:Nat) (xs:List D)
 |cq (l:Loc) (n:Nat) (xs:List D)
 |eW (l:Loc) (cs:List D)
 |box (cs:List SV)
 |loc (s off:Nat)
 |iQ (vs:List SV)
 |undef
 |PR (s:Nat)
 |ep (s n j:Nat)
 |mf (v:Value) (n:Nat) (xs:List D)
 deriving Inhabited
inductive aN where
 |cells (cs:List SV)
 |map (es:List (D×D))
 |hole
 |iter (kb clock:Nat)
 |Qv (kb clock:Nat) (ms:Array MapEntry) (es:List (D×D))
 |SA (T e:TypeId) (bs:List UInt8)
 deriving Inhabited
structure St where
 tmps:List SV
 H:List aN
def cy(g:Gh)(w:World)(o:Loc)(v:Value)(n:Nat)(xs:List D):Prop:=
 (xs=[]/\ ∃a,v=.slice a 0 0)\/
 ∃(k off cap:Nat) (c:Array Value) (T:TypeId) (us:Nat->Nat->Value),v=.slice (some ⟨k,off,none⟩) xs.length cap/\g.ow k=.bN o/\
  w.heap[k]? =some (.cells c T (0,0))/\xs.length<=cap/\off+cap * n<=c.size/\
  (∀(i:Nat) (x:D),xs[i]? =some x->x.cells.length=n)/\
  (∀(i:Nat) (x:D),xs[i]? =some x-> ∀(j:Nat) (y:D),x.cells[j]? =some y->c[off+i * n+j]? =some (us i j)/\(us i j).oneCell'=true)/\
  (∀(i:Nat) (x:D),xs[i]? =some x-> ∀(j:Nat) (y:D),x.cells[j]? =some y->Rd g w (us i j) y)
def RC(g:Gh)(w:World)(o:Loc)(v:Value):SV->Prop
 |.d x=>Rd g w v x
 |.own n xs=>cy g w o v n xs
 |.undef=>True
 |.mf v0 n xs=>match o with
  |.au _ _=>v=v0/\cy g w o v n xs
  |_=>False
 |_=>False
def gl:SV->Nat
 |.box _=>1
 |.own _ _=>2
 |.mf _ _ _=>2
 |_=>0
def dep:SV->Option Nat
 |.loc s _=>some s
 |.PR s=>some s
 |.ep s _ _=>some s
 |_=>none
def RS(g:Gh)(w:World)(tm:List SV)(val:Nat->Value)(t:Nat)(v:Value):SV->Prop
 |.d x=>Rd g w v x
 |.own n xs=>cy g w (.slot t) v n xs
 |.cq l n xs=>eZ g w (some l) v n xs
 |.eW l cs=>rP g w (some l) v cs
 |.box cs=> ∃(k:Nat) (c:Array Value) (T:TypeId),v=.pointer (some ⟨k,0,none⟩)/\g.ow k=.box t/\w.heap[k]? =some (.cells c T (0,0))/\c.size=cs.length/\
   ∀(j:Nat) (s:SV),cs[j]? =some s-> ∃u,c[j]? =some u/\RC g w (.cell t j) u s/\u.oneCell'=true
 |.loc s off=>(∃cs,tm[s]? =some (.box cs))/\ ∃k,val s=.pointer (some ⟨k,0,none⟩)/\v=.pointer (some ⟨k,off,none⟩)
 |.iQ vs=> ∃us:Array Value,v=.tuple us/\us.size=vs.length/\ ∀(j:Nat) (s:SV),vs[j]? =some s-> ∃u,us[j]? =some u/\RC g w (.comp t j) u s
 |.undef=>True
 |.PR s=>(∃x,tm[s]? =some x/\gl x=2)/\v=val s
 |.ep s n j=>(∃x,tm[s]? =some x/\gl x=2)/\ ∃k off len cap,val s=.slice (some ⟨k,off,none⟩) len cap/\v=.pointer (some ⟨k,off+j * n,none⟩)
 |.mf v0 n xs=>v=v0/\cy g w (.slot t) v n xs
def Jw(ms:Array MapEntry)(clock:Nat):Prop:=(∀m,m∈ms.toList->m.born<clock)/\(ms.toList.map (·.born)).Nodup
def Q3(g:Gh)(w:World)(i k:Nat)(T e:TypeId)(bs:List UInt8)(p v:Value):Prop:=
 w.heap[k]? =some (.cells #[p,v] T (0,0))/\(p=.pointer none\/p=.pointer (some ⟨k,0,none⟩))/\
 ((v=.slice none 0 0/\bs=[])\/ ∃(r cap:Nat) (cur:Array Value) (fz:Nat×Nat),v=.slice (some ⟨r,0,none⟩) bs.length cap/\bs≠[]/\g.ow r=.bN (.au i 1)/\w.heap[r]? =some (.cells cur e fz)/\
  fz.2<=bs.length/\bs.length<=cap/\cap<=maxLen/\cur.size=cap/\cur.toList.take bs.length=bs.map (λx=>Value.int .u8 x.toNat))
def RO(g:Gh)(w:World)(i:Nat):aN->Prop
 |.cells cs=> ∃(k:Nat) (c:Array Value) (T:TypeId),g.ρ[i]? =some k/\g.ow k=.obj i/\w.heap[k]? =some (.cells c T (0,0))/\c.size=cs.length/\
   ∀(j:Nat) (s:SV),cs[j]? =some s-> ∃u,c[j]? =some u/\RC g w (.au i j) u s/\u.oneCell'=true
 |.map es=> ∃(k:Nat) (ms:Array MapEntry) (clock:Nat),g.ρ[i]? =some k/\g.ow k=.obj i/\w.heap[k]? =some (.map ms clock)/\ms.size=es.length/\Jw ms clock/\
   ∀(j:Nat) (p:D×D),es[j]? =some p-> ∃m,ms[j]? =some m/\Rd g w m.key p.1/\Rd g w m.val p.2
 |.hole=>True
 |.iter kb clock=> ∃k:Nat,g.ρ[i]? =some k/\g.ow k=.obj i/\w.heap[k]? =some (.mapIter (some kb) clock #[] clock)
 |.Qv kb clock ms es=>g.ρ[i]? =some kb/\g.ow kb=.obj i/\w.heap[kb]? =some (.map ms clock)/\ms.size=es.length/\Jw ms clock/\
   ∀(j:Nat) (p:D×D),es[j]? =some p-> ∃m,ms[j]? =some m/\Rd g w m.key p.1/\Rd g w m.val p.2
 |.SA T e bs=> ∃(k:Nat) (p v:Value),g.ρ[i]? =some k/\g.ow k=.obj i/\Q3 g w i k T e bs p v
def RH(g:Gh)(w:World)(H:List aN):Prop:=g.ρ.length=H.length/\ ∀(i:Nat) (o:aN),H[i]? =some o->RO g w i o
def valOf(a:Act)(t:Nat):Value:=a.tmps.getD t undef
structure Rel(st:St)(a:Act)(w:World)(g:Gh):Prop where
 len:a.tmps.size=st.tmps.length
 dS:a.defers=[]
 tmp: ∀(t:Nat) (s:SV),st.tmps[t]? =some s->RS g w st.tmps (valOf a) t (valOf a t) s
 hp:RH g w st.H
def jQ(t:Nat):SV->Own->Prop
 |.d _,o=>o=.free
 |.own _ _,o=>o=.free\/o=.bN (.slot t)
 |.cq l _ _,o=>o=.free\/o=.bN l
 |.eW l _,o=>o=.free\/o=.bN l
 |.box _,o=>o=.free\/o=.box t\/ ∃j,o=.bN (.cell t j)
 |.loc _ _,_=>False
 |.iQ _,o=>o=.free\/ ∃j,o=.bN (.comp t j)
 |.undef,_=>False
 |.PR _,_=>False
 |.ep _ _ _,_=>False
 |.mf _ _ _,o=>o=.free\/o=.bN (.slot t)
def cy.bg(h0:aO .free g w g' w')(h1:aO (.bN o) g w g' w')(hρ:eB g g')
  (h:cy g w o v n xs):cy g' w' o v n xs:=by
 rcases h with h|⟨k,off,cap,c,T,us,hv,hk,hb,hl,hz,hn,hc,hr⟩
 .exact .inl h
 .obtain⟨hk',hb'⟩:=h1 k _ hk hb
  exact .inr ⟨k,off,cap,c,T,us,hv,hk',hb',hl,hz,hn,hc,λi x hx j y hy=>(hr i x hx j y hy).bg h0 hρ⟩
def RC.bg(h0:aO .free g w g' w')(h1:aO (.bN o) g w g' w')(hρ:eB g g')
  (h:RC g w o v s):RC g' w' o v s:=by
 cases s<;>simp only[RC]at h ⊢
 .exact h.bg h0 hρ
 .exact h.bg h0 h1 hρ
 .cases o<;>simp only at h ⊢
  exact⟨h.1,h.2.bg h0 h1 hρ⟩
def OS{tm:List SV}{s:Nat}{x:SV}{cs:List SV}(h:tm[s]? =some x)(hk:gl x=gl (.box cs)): ∃cs',tm[s]? =some (.box cs'):=by
 cases x<;>simp[gl]at hk
 exact⟨_,h⟩
def RS.bg{g g':Gh}{w w':World}{tm tm':List SV}{val val':Nat->Value}{t:Nat}{v:Value}{s:SV}(hk: ∀o,jQ t s o->aO o g w g' w')(hρ:eB g g')
  (hl: ∀s',dep s=some s'->val' s'=val s'/\ ∀x,tm[s']? =some x->gl x≠0-> ∃x',tm'[s']? =some x'/\gl x'=gl x)
  (h:RS g w tm val t v s):RS g' w' tm' val' t v s:=by
 cases s with
 |d x=>exact Rd.bg (hk _ rfl) hρ h
 |own n xs=>exact cy.bg (hk _ (.inl rfl)) (hk _ (.inr rfl)) hρ h
 |cq l n xs=>exact eZ.bg (hk _ (.inl rfl)) (λl' e=>by cases e;exact hk _ (.inr rfl)) hρ h
 |eW l cs=>exact rP.bg (hk _ (.inl rfl)) (λl' e=>by cases e;exact hk _ (.inr rfl)) hρ h
 |box cs=>
  obtain⟨k,c,T,hv,ho,hb,hs,hc⟩:=h
  obtain⟨ho',hb'⟩:=hk (.box t) (.inr (.inl rfl)) k _ ho hb
  exact⟨k,c,T,hv,ho',hb',hs,λj s hj=>let⟨u,h1,h2,h3⟩:=hc j s hj;⟨u,h1,h2.bg (hk _ (.inl rfl)) (hk _ (.inr (.inr ⟨j,rfl⟩))) hρ,h3⟩⟩
 |loc s' off=>
  obtain⟨⟨cs,hcs⟩,k,h1,h2⟩:=h
  obtain⟨hv,hb⟩:=hl s' rfl
  obtain⟨x',e1,e2⟩:=hb _ hcs (by simp[gl])
  exact⟨OS e1 e2,k,by rw[hv];exact h1,h2⟩
 |PR s'=>
  obtain⟨⟨x,h1,h2⟩,h3⟩:=h
  obtain⟨hv,hb⟩:=hl s' rfl
  obtain⟨x',e1,e2⟩:=hb x h1 ω
  exact⟨⟨x',e1,ω⟩,by rw[hv];exact h3⟩
 |ep s' n j=>
  obtain⟨⟨x,h1,h2⟩,h3⟩:=h
  obtain⟨hv,hb⟩:=hl s' rfl
  obtain⟨x',e1,e2⟩:=hb x h1 ω
  exact⟨⟨x',e1,ω⟩,by rw[hv];exact h3⟩
 |iQ vs=>
  obtain⟨us,hv,hs,hc⟩:=h
  exact⟨us,hv,hs,λj s hj=>let⟨u,h1,h2⟩:=hc j s hj;⟨u,h1,h2.bg (hk _ (.inl rfl)) (hk _ (.inr ⟨j,rfl⟩)) hρ⟩⟩
 |undef=>trivial
 |mf v0 n xs=>exact⟨h.1,cy.bg (hk _ (.inl rfl)) (hk _ (.inr rfl)) hρ h.2⟩
def kn:Own->Prop
 |.free|.obj _|.bN (.au _ _)=>True
 |_=>False
def Q3.bg(h2:aO (.bN (.au i 1)) g w g' w')(hk:w'.heap[k]? =w.heap[k]?)(h:Q3 g w i k T e bs p v):Q3 g' w' i k T e bs p v:=by
 obtain⟨b1,b2,b3⟩:=h
 refine⟨hk.trans b1,b2,?_⟩
 rcases b3 with b3|⟨r,cap,cur,fz,c1,c2,c3,c4,c5,c6,c7,c8,c9⟩
 .exact .inl b3
 .obtain⟨d1,d2⟩:=h2 r _ c3 c4
  exact .inr ⟨r,cap,cur,fz,c1,c2,d1,d2,c5,c6,c7,c8,c9⟩
def RO.bg(hk: ∀o,kn o->aO o g w g' w')(hρ:eB g g')(h:RO g w i o):RO g' w' i o:=by
 cases o with
 |cells cs=>
  obtain⟨k,c,T,hr,ho,hb,hs,hc⟩:=h
  obtain⟨ho',hb'⟩:=hk (.obj i) trivial k _ ho hb
  exact⟨k,c,T,hρ _ _ hr,ho',hb',hs,λj s hj=>let⟨u,h1,h2,h3⟩:=hc j s hj;⟨u,h1,h2.bg (hk _ trivial) (hk _ trivial) hρ,h3⟩⟩
 |map es=>
  obtain⟨k,ms,clock,hr,ho,hb,hs,hbo,hc⟩:=h
  obtain⟨ho',hb'⟩:=hk (.obj i) trivial k _ ho hb
  exact⟨k,ms,clock,hρ _ _ hr,ho',hb',hs,hbo,λj p hj=>let⟨m,h1,h2,h3⟩:=hc j p hj;⟨m,h1,h2.bg (hk _ trivial) hρ,h3.bg (hk _ trivial) hρ⟩⟩
 |hole=>trivial
 |iter kb clock=>
  obtain⟨k,hr,ho,hb⟩:=h
  obtain⟨ho',hb'⟩:=hk (.obj i) trivial k _ ho hb
  exact⟨k,hρ _ _ hr,ho',hb'⟩
 |Qv kb clock ms es=>
  obtain⟨hr,ho,hb,hs,hbo,hc⟩:=h
  obtain⟨ho',hb'⟩:=hk (.obj i) trivial kb _ ho hb
  exact⟨hρ _ _ hr,ho',hb',hs,hbo,λj p hj=>let⟨m,h1,h2,h3⟩:=hc j p hj;⟨m,h1,h2.bg (hk _ trivial) hρ,h3.bg (hk _ trivial) hρ⟩⟩
 |SA T e bs=>
  obtain⟨k,p,v,hr,ho,hb⟩:=h
  obtain⟨ho',hb'⟩:=hk (.obj i) trivial k _ ho hb.1
  exact⟨k,p,v,hρ _ _ hr,ho',hb.bg (hk _ trivial) (hb'.trans hb.1.symm)⟩
def dM(t0:Nat):SV->Bool
 |.loc s _=>s==t0
 |.PR s=>s==t0
 |.ep s _ _=>s==t0
 |.cq (.slot s) _ _|.eW (.slot s) _|.cq (.cell s _) _ _|.eW (.cell s _) _|.cq (.comp s _) _ _|.eW (.comp s _) _=>s==t0
 |_=>false
def uB:SV->Bool
 |.own _ _|.box _|.iQ (_::_)|.mf _ _ _=>true
 |_=>false
def kM{val:Nat->Value}(h:RS g w tm val t v s)(hd:dep s=some s'): ∃x,tm[s']? =some x/\gl x≠0:=by
 cases s<;>simp[dep]at hd
 .obtain⟨⟨cs,hcs⟩,-⟩:=h;subst hd;exact⟨_,hcs,by simp[gl]⟩
 .obtain⟨⟨x,h1,h2⟩,-⟩:=h;grind
 .obtain⟨⟨x,h1,h2⟩,-⟩:=h;grind
def cH(hd:dep s=some s'):dM s' s=true:=by cases s<;>simp[dep]at hd<;>simp[dM,hd]
def gI(h:gl x≠0):uB x=true:=by cases x<;>simp[gl]at h<;>rfl
def eQ(h:gl x≠0)(t:Nat):dM t x=false:=by cases x<;>simp[gl]at h<;>rfl
def St.kill(st:St)(t0:Nat):St:={st with tmps:=st.tmps.map λs=>if dM t0 s then .undef else s}
def St.set(st:St)(t:Nat)(s:SV):St:={st with tmps:=st.tmps.set t s}
def St.put(st:St)(dst:Option Tmp)(s:SV):St:=
 match dst with
 |none=>st
 |some t=>match st.tmps[t]? with
  |some old=>if uB old then(st.kill t).set t s else st.set t s
  |none=>st
def cr(h:d≠some t):valOf (a.put d v) t=valOf a t:=by
 cases d with
 |none=>rfl
 |some e=>
  have:e≠t:=λh'=>h (by rw[h'])
  simp[valOf,Act.put,k_7,Array.getElem?_setIfInBounds_ne this]
def bW{a:Act}{v:Value}{t:Nat}(h:t<a.tmps.size):valOf (a.put (some t) v) t=v:=by
 simp[valOf,Act.put,k_7,h]
def eb{a:Act}{d:Option Tmp}{v:Value}:(a.put d v).tmps.size=a.tmps.size:=by
 cases d<;>simp[Act.put]
def put_defers{a:Act}{d:Option Tmp}{v:Value}:(a.put d v).defers=a.defers:=by
 cases d<;>rfl
@[simp] theorem wS(st:St)(t:Nat):(st.kill t).tmps.length=st.tmps.length:=by simp[St.kill]
@[simp] theorem zg(st:St)(t:Nat)(s:SV):(st.set t s).tmps.length=st.tmps.length:=by simp[St.set]
@[simp] theorem cU(st:St)(d:Option Tmp)(s:SV):(st.put d s).tmps.length=st.tmps.length:=by
 cases d with
 |none=>rfl
 |some t=>simp only[St.put];split<;>(try split)<;>simp
@[simp] theorem S3(st:St)(t:Nat):(st.kill t).H=st.H:=rfl
@[simp] theorem MC(st:St)(t:Nat)(s:SV):(st.set t s).H=st.H:=rfl
@[simp] theorem fw(st:St)(d:Option Tmp)(s:SV):(st.put d s).H=st.H:=by
 cases d with
 |none=>rfl
 |some t=>simp only[St.put];split<;>(try split)<;>rfl
def lY{st:St}{t0 t:Nat}{s:SV}(h:(st.kill t0).tmps[t]? =some s):s=.undef\/(st.tmps[t]? =some s/\dM t0 s=false):=by
 simp only[St.kill,h_1,g_4]at h
 grind
def eu{st:St}{t0 t:Nat}{s s':SV}(hne:t≠t0)(h:(st.put (some t0) s).tmps[t]? =some s'):
  s'=.undef\/(st.tmps[t]? =some s'/\ ∀old,st.tmps[t0]? =some old->uB old=true->dM t0 s'=false):=by
 simp only[St.put]at h
 split at h
 .rename_i old ho
  split at h
  .simp only[St.set,g_1 (j_6 hne)]at h
   rcases lY h with h|⟨h1,h2⟩
   .exact .inl h
   grind
  .rename_i hh
   simp only[St.set,g_1 (j_6 hne)]at h
   grind
 grind
def bY{st:St}{t:Nat}{s s':SV}(h:(st.put (some t) s).tmps[t]? =some s'):s'=s/\t<st.tmps.length:=by
 simp only[St.put]at h
 split at h
 .rename_i old ho
  have hlt:t<st.tmps.length:=(g_5.1 ho).1
  split at h
  .rw[St.set,g_0 (by simpa using hlt)]at h
   exact⟨by cases h;rfl,hlt⟩
  .rw[St.set,g_0 hlt]at h
   exact⟨by cases h;rfl,hlt⟩
 grind
def bc(h:Rel st a w g)(hlen:a'.tmps.size=st'.tmps.length)(hd:a'.defers=[])(hρ:eB g g')
  (ht: ∀(t:Nat) (s:SV),st'.tmps[t]? =some s->s=.undef\/RS g' w' st'.tmps (valOf a') t (valOf a' t) s\/
   (st.tmps[t]? =some s/\valOf a' t=valOf a t/\(∀o,jQ t s o->aO o g w g' w')/\
    ∀s',dep s=some s'->valOf a' s'=valOf a s'/\ ∀x,st.tmps[s']? =some x->gl x≠0-> ∃x',st'.tmps[s']? =some x'/\gl x'=gl x))
  (hH:RH g' w' st'.H):Rel st' a' w' g':=by
 refine⟨hlen,hd,λt s hs=>?_,hH⟩
 rcases ht t s hs with rfl|hr|⟨h1,h2,h3,h4⟩
 .trivial
 .exact hr
 .rw[h2]
  exact RS.bg h3 hρ h4 (h.tmp t s h1)
def RH.bg(hk: ∀o,kn o->aO o g w g' w')(hρ:eB g g')(hl:g'.ρ.length=g.ρ.length)(h:RH g w H):RH g' w' H:=
 ⟨hl.trans h.1,λi o hi=>(h.2 i o hi).bg hk hρ⟩
def Rel.world(h:Rel st a w g)(hk: ∀o,aO o g w g' w')(hρ:eB g g')(hl:g'.ρ.length=g.ρ.length):Rel st a w' g':=by
 refine bc h h.len h.dS hρ (λt s hs=>.inr (.inr ⟨hs,rfl,λo ho=>hk o,λs' _=>⟨rfl,λx hx _=>⟨x,hx,rfl⟩⟩⟩)) (h.hp.bg (λo ho=>hk o) hρ hl)
def pf(g:Gh)(w:World)(v:Value):SV->Prop
 |.d x=>Rd g w v x
 |.cq l n xs=>eZ g w (some l) v n xs
 |.eW l cs=>rP g w (some l) v cs
 |.own _ xs=>xs=[]/\ ∃a,v=.slice a 0 0
 |.iQ vs=> ∃us:Array Value,v=.tuple us/\us.size=vs.length/\ ∀(j:Nat) (s:SV),vs[j]? =some s-> ∃u x,us[j]? =some u/\s=.d x/\Rd g w u x
 |.undef=>True
 |_=>False
def pf.rs(h:pf g w v s)(tm:List SV)(val:Nat->Value)(t:Nat):RS g w tm val t v s:=by
 cases s<;>simp only[pf]at h<;>try exact h
 .exact .inl h
 .obtain⟨us,h1,h2,h3⟩:=h
  exact⟨us,h1,h2,λj s hj=>let⟨u,x,e1,e2,e3⟩:=h3 j s hj;⟨u,e1,by subst e2;exact e3⟩⟩
def jP(hne:t≠t0)(hm:dM t0 s=false)(ho:jQ t s o):
  o≠.box t0/\o≠.bN (.slot t0)/\(∀j,o≠.bN (.cell t0 j))/\(∀j,o≠.bN (.comp t0 j)):=by
 cases s<;>simp only[jQ]at ho
 .subst ho;simp
 .grind
 .rename_i l _ _
  rcases ho with rfl|rfl
  .simp
  .cases l<;>simp[dM]at hm ⊢ <;>exact hm
 .rename_i l _
  rcases ho with rfl|rfl
  .simp
  .cases l<;>simp[dM]at hm ⊢ <;>exact hm
 .grind
 .grind
 grind
def Rel.put{st:St}{a:Act}{w:World}{g:Gh}{s:SV}{v:Value}(h:Rel st a w g)(d:Option Tmp)
  (hs: ∀t,d=some t->t<st.tmps.length->RS g w (st.put d s).tmps (valOf (a.put d v)) t v s):Rel (st.put d s) (a.put d v) w g:=by
 refine bc h (by rw[eb,cU];exact h.len) (by rw[put_defers];exact h.dS) (eB.refl g) (λt s' hs'=>?_) (by rw[fw];exact h.hp)
 cases d with
 |none=>exact .inr (.inr ⟨hs',rfl,λ_ _=>aO.refl _ _ _,λs' _=>⟨rfl,λx hx _=>⟨x,hx,rfl⟩⟩⟩)
 |some t0=>
  by_cases hne:t=t0
  .subst hne
   obtain⟨rfl,hlt⟩:=bY hs'
   refine .inr (.inl ?_)
   rw[bW (by rw[h.len];exact hlt)]
   exact hs t rfl hlt
  .rcases eu hne hs' with hu|⟨h1,h2⟩
   .exact .inl hu
   .refine .inr (.inr ⟨h1,cr (by simpa using j_6 hne),λ_ _=>aO.refl _ _ _,λs0 e=>?_⟩)
    obtain⟨x0,hx0,hb0⟩:=kM (h.tmp t _ h1) e
    have hs0:s0≠t0:=by
     rintro rfl
     have:=h2 _ hx0 (gI hb0)
     rw[cH e]at this
     cases this
    refine⟨cr (by simpa using j_6 hs0),λx hx hb=>⟨x,?_,rfl⟩⟩
    simp only[St.put]
    split
    .split
     .simp only[St.set,St.kill,g_1 (j_6 hs0),h_1,hx,m_4,eQ hb]
      simp
     .simp only[St.set,g_1 (j_6 hs0),hx]
    .exact hx
def Rel.cu(h:Rel st a w g)(d:Option Tmp)(hs:pf g w v s):Rel (st.put d s) (a.put d v) w g:=
 h.put d λ_ _ _=>hs.rs _ _ _
def nN:D->Option Value
 |.bool b=>some (.bool b)
 |.int k n=>some (.int k n)
 |.str l=>some (.string (mk l))
 |.nilIface=>some .nilIface
 |.lu=>some .nilFunc
 |.fZ=>some (.pointer none)
 |.kf=>some (.map none)
 |.iface t x=>(nN x).map (.iface t)
 |_=>none
def yR:Value->Option D
 |.bool b=>some (.bool b)
 |.int k n=>some (.int k n)
 |.string s=>some (.str s.data.toList)
 |.nilIface=>some .nilIface
 |.nilFunc=>some .lu
 |.pointer none=>some .fZ
 |.map none=>some .kf
 |.slice none 0 0=>some .cG
 |_=>none
def Bg:List Value->Option (List D)
 |[]=>some []
 |v::vs=>match yR v,Bg vs with
  |some x,some xs=>some (x::xs)
  |_,_=>none
def mR:Value->Option D
 |.agg cs=>(Bg cs.toList).map .agg
 |v=>yR v
def GD: ∀{u v:Value},nN d=some u->Rd g w v d->v=u:=by
 induction d using D.rec (motive_2:=λ_=>True)with
 |iface t x ih=>
  intro u v h hr
  simp only[nN,g_4]at h
  obtain⟨u',h1,rfl⟩:=h
  cases hr with
  |iface hr=>rw[ih h1 hr]
 |_=>first|trivial|(intro u v h hr;cases hr<;>simp_all[nN])
def Ny: ∀{u:Value},nN d=some u->Rd g w u d:=by
 induction d using D.rec (motive_2:=λ_=>True)with
 |iface t x ih=>
  intro u h
  simp only[nN,g_4]at h
  obtain⟨u',h1,rfl⟩:=h
  exact .iface (ih h1)
 |_=>first|trivial|(intro u h;simp only[nN,g_2,reduceCtorEq]at h;try (subst h;constructor))
def Bh(h:yR v=some x):Rd g w v x:=by
 unfold yR at h
 split at h<;>simp at h<;>subst h<;>try constructor
def Mb(h:yR v=some x):v.oneCell'=true:=by
 unfold yR at h
 split at h<;>simp at h<;>rfl
def Du: ∀{vs:List Value} {xs:List D},Bg vs=some xs->vs.length=xs.length/\ ∀(j:Nat) (y:D),xs[j]? =some y-> ∃u,vs[j]? =some u/\Rd g w u y/\u.oneCell'=true
 |[],xs,h=>by simp[Bg]at h;subst h;simp
 |v::vs,xs,h=>by
  simp only[Bg]at h
  split at h
  .rename_i x xs' h1 h2
   simp at h;subst h
   obtain⟨hl,hr⟩:=Du (g:=g) (w:=w) h2
   refine⟨by simp[hl],λj y hj=>?_⟩
   cases j with
   |zero=>simp at hj;subst hj;exact⟨v,ψ,Bh h1,Mb h1⟩
   |succ j=>simp at hj;simpa using hr j y hj
  .simp at h
def td(hl:vs.size=cs.length)(h: ∀(j:Nat) (y:D),cs[j]? =some y-> ∃u,vs[j]? =some u/\Rd g w u y/\u.oneCell'=true):Rd g w (.agg vs) (.agg cs):=by
 refine .agg hl (λj=>vs.getD j undef) (λj y hy=>?_) (λj y hy=>?_)
 .obtain⟨u,h1,h2,h3⟩:=h j y hy
  simp_all
 .obtain⟨u,h1,h2,h3⟩:=h j y hy
  simp_all
def oB(h:mR v=some x):Rd g w v x:=by
 unfold mR at h
 split at h
 .rename_i cs
  simp only[g_4]at h
  obtain⟨xs,h1,rfl⟩:=h
  obtain⟨hl,hr⟩:=Du (g:=g) (w:=w) h1
  exact td (by simpa using hl) (λj y hj=>by simpa using hr j y hj)
 .exact Bh h
def lV(P:Program){α:Type}:Sem α->Option α
 |.pure a=>some a
 |.program k=>lV P (k P)
 |_=>none
def GF{P:Program}{α:Type}: ∀{s:Sem α} {a:α},lV P s=some a-> ∀w,s.run P w=.ok a w:=by
 intro s
 induction s with
 |pure a=>intro b h w;simp[lV]at h;subst h;rfl
 |program k ih=>intro b h w;simp only[lV]at h;simp only[Sem.run];exact ih _ h w
 |_=>intro b h;simp[lV]at h
def DN(v:Option Value):Option D:=v.bind yR
section
variable (P:Program)
def fy(T:TypeId):Nat:=match P.underlying T with|some (.slice e)=>P.cellsOf e|_=>0
def fI(T:TypeId):Bool:=match P.underlying T with|some (.struct _)|some (.array _ _)=>true|_=>false
def val(st:St):Operand->Option SV
 |.tmp t=>st.tmps[t]?
 |.const v=>(mR v).map .d
 |.func f=>some (.d (.fn (.func f) [] []))
 |.global _=>none
def cx(st:St)(x:Operand):Option D:=match val st x with|some (.d d)=>some d|_=>none
def IU(s:Nat):SV->Option SV
 |.d x=>some (.d x)
 |.cq l n xs=>some (.cq l n xs)
 |.eW l cs=>some (.eW l cs)
 |.loc t off=>some (.loc t off)
 |.own n xs=>some (.cq (.slot s) n xs)
 |.mf _ n xs=>some (.cq (.slot s) n xs)
 |.box _=>some (.loc s 0)
 |.undef=>some .undef
 |_=>none
def AG(st:St)(T:TypeId):Operand->Option SV
 |.tmp s=>(st.tmps[s]?).bind (IU s)
 |.const (.slice none 0 0)=>some (.own (fy P T) [])
 |x=>val st x
def rI(st:St):Operand->Option (Nat×Nat)
 |.tmp s=>match st.tmps[s]? with
  |some (.box _)=>some (s,0)
  |some (.loc t off)=>some (t,off)
  |_=>none
 |_=>none
def BM(st:St)(s:Nat):Option (List SV):=match st.tmps[s]? with|some (.box cs)=>some cs|_=>none
def yb:List SV->Option (List D)
 |[]=>some []
 |.d x::r=>(yb r).map (x:: ·)
 |_::_=>none
def Kx(T:TypeId)(cs:List D):Option D:=
 if(P.underlying T).isNone then none
 else if fI P T then(if 0<P.cellsOf T/\P.cellsOf T<=cs.length then some (.agg (cs.take (P.cellsOf T)))else none)
 else cs.head?
def qo(T:TypeId)(l:Loc)(cs:List SV):Option SV:=
 if(P.underlying T).isNone then none
 else if fI P T then(if 0<P.cellsOf T/\P.cellsOf T<=cs.length then(yb (cs.take (P.cellsOf T))).map λys=>.d (.agg ys)else none)
 else match cs with
  |.d x::_=>some (.d x)
  |.own n xs::_=>some (.cq l n xs)
  |_=>none
end
def sO{w:World}{k:Nat}{c:Array Value}{T:TypeId}{fz:Nat×Nat}(h:w.heap[k]? =some (.cells c T fz))(j:Nat):w.cell? ⟨k,j,none⟩=c[j]? :=by
 simp[World.cell?,h]
section
variable {P:Program}
def info_of_underlying(h:(P.underlying T).isNone=false): ∃i,P.info? T=some i:=by
 unfold Program.underlying at h
 grind
def gA(h:(P.underlying T).isNone=false)(w:World):(sizeOf T).run P w=.ok (P.cellsOf T) w:=by
 obtain⟨i,hi⟩:=info_of_underlying h
 simp[sizeOf,typeInfo,hi,Program.cellsOf]
def mK(h:(P.underlying T).isNone=false)(w:World):(isAgg T).run P w=.ok (fI P T) w:=by
 cases hu:P.underlying T with
 |none=>rw[hu]at h;simp at h
 |some d=>
  simp only[isAgg,Sem.run_bind,run_underlying hu,Result.andThen_ok,fI,hu]
  cases d<;>rfl
def jR{w:World}{k off n:Nat}{c:Array Value}{T0:TypeId}{fz:Nat×Nat}(hb:w.heap[k]? =some (.cells c T0 fz))(hs:off+n<=c.size):
  (loadCells ⟨k,off,none⟩ n).run P w=.ok (c.extract off (off+n)) w:=by
 have:=run_loadCells_list (P:=P) w ⟨k,off,none⟩ (c.extract off (off+n)).toList (λj v hj=>by
  rw[Addr.add_lit,sO hb]
  grind)
 have hl:(c.extract off (off+n)).toList.length=n:=by simp;omega
 rw[hl,Array.toArray_toList]at this
 exact this
def zu(hu:(P.underlying T).isNone=false)(ha:fI P T=true)
  (hb:w.heap[k]? =some (.cells c T0 fz)) (hs:off+P.cellsOf T<=c.size):(loadVar T ⟨k,off,none⟩).run P w=.ok (.agg (c.extract off (off+P.cellsOf T))) w:=by
 simp only[loadVar,Sem.run_bind,mK hu,Result.andThen_ok,ha,if_true,gA hu,jR hb hs,Sem.run_pure]
def eh{T:TypeId}(hu:(P.underlying T).isNone=false)(ha:fI P T=false){w:World}{k off:Nat}{c:Array Value}{T0:TypeId}{fz:Nat×Nat}{v:Value}
  (hb:w.heap[k]? =some (.cells c T0 fz)) (hv:c[off]? =some v):(loadVar T ⟨k,off,none⟩).run P w=.ok v w:=by
 simp only[loadVar,Sem.run_bind,mK hu,Result.andThen_ok,ha,g_7,if_false,run_load,sO hb,hv]
def aU{α:Type}{l:List α}{x:α}(h:l[j]? =some x):j<l.length:=(g_5.1 h).1
def pb{α:Type}{l:Array α}{x:α}(h:l[j]? =some x):j<l.size:=(m_0.1 h).1
def N0
  (hc: ∀(j:Nat) (y:D),cs[j]? =some y-> ∃u,c[off+j]? =some u/\Rd g w0 u y/\u.oneCell'=true) (hl:Kx P T cs=some d):
  ∃v,Rd g w0 v d/\ ∀w:World,w.heap[k]? =some (.cells c T0 fz)->(loadVar T ⟨k,off,none⟩).run P w=.ok v w:=by
 unfold Kx at hl
 split at hl
 .cases hl
 .rename_i hu
  have hu:(P.underlying T).isNone=false:=q_2.2 hu
  split at hl
  .rename_i ha
   split at hl
   .rename_i hn
    obtain⟨h0,hn⟩:=hn
    cases hl
    have hs:off+P.cellsOf T<=c.size:=by
     have hlt:P.cellsOf T - 1<cs.length:=by omega
     obtain⟨u,hu',-⟩:=hc (P.cellsOf T - 1) cs[P.cellsOf T - 1] (by simp[hlt])
     have:=pb hu'
     omega
    refine⟨.agg (c.extract off (off+P.cellsOf T)),td ?_ (λj y hj=>?_),λw hb=>zu hu ha hb hs⟩
    .grind
    grind
   .cases hl
  .rename_i ha
   have ha:fI P T=false:=by simpa using ha
   obtain⟨u,h1,h2,-⟩:=hc 0 d (by cases cs<;>simp_all)
   exact⟨u,h2,λw hb=>eh hu ha hb (by simpa using h1)⟩
def Hv: ∀{cs:List SV} {ys:List D},yb cs=some ys->cs.length=ys.length/\ ∀(j:Nat) (y:D),ys[j]? =some y->cs[j]? =some (.d y)
 |[],ys,h=>by simp[yb]at h;subst h;simp
 |.d x::r,ys,h=>by
  simp only[yb,g_4]at h
  obtain⟨zs,h1,rfl⟩:=h
  obtain⟨hl,hr⟩:=Hv h1
  grind
 |.own _ _::_,_,h=>by simp[yb]at h
 |.cq _ _ _::_,_,h=>by simp[yb]at h
 |.eW _ _::_,_,h=>by simp[yb]at h
 |.box _::_,_,h=>by simp[yb]at h
 |.loc _ _::_,_,h=>by simp[yb]at h
 |.iQ _::_,_,h=>by simp[yb]at h
 |.undef::_,_,h=>by simp[yb]at h
def cy.oJ(h:cy g w o v n xs):eZ g w (some o) v n xs:=by
 rcases h with⟨h,a,h'⟩|⟨k,off,cap,c,T,us,hv,hk,hb,hp,-,hn,hc,hr⟩
 .exact .inl ⟨h,a,0,h'⟩
 .exact .inr ⟨k,off,cap,c,T,(0,0),us,hv,by rw[hk];rfl,hb,hp,hn,hc,hr⟩
def Jc{l:Nat->Loc}
  (hc: ∀(j:Nat) (y:SV),cs[j]? =some y-> ∃u,c[off+j]? =some u/\RC g w0 (l (off+j)) u y/\u.oneCell'=true) (hl:qo P T (l off) cs=some s):
  ∃v,pf g w0 v s/\ ∀w:World,w.heap[k]? =some (.cells c T0 fz)->(loadVar T ⟨k,off,none⟩).run P w=.ok v w:=by
 unfold qo at hl
 split at hl
 .cases hl
 .rename_i hu
  have hu:(P.underlying T).isNone=false:=q_2.2 hu
  split at hl
  .rename_i ha
   split at hl
   .rename_i hn
    obtain⟨h0,hn⟩:=hn
    simp only[g_4]at hl
    obtain⟨ys,h1,rfl⟩:=hl
    obtain⟨hly,hgy⟩:=Hv h1
    have hlen:P.cellsOf T=ys.length:=by grind
    have hd:=N0 (P:=P) (g:=g) (w0:=w0) (T:=T) (k:=k) (off:=off) (c:=c) (T0:=T0) (fz:=fz) (cs:=ys) (d:=.agg ys) (λj y hj=>by
     have h2:=hgy j y hj
     rw[List.getElem?_take]at h2
     split at h2
     .obtain⟨u,h3,h4,h5⟩:=hc j _ h2
      exact⟨u,h3,h4,h5⟩
     .cases h2) (by
      have hu':(P.underlying T).isNone=false:=hu
      have h0':0<ys.length:=by omega
      simp[Kx,hu',ha,hlen,h0'])
    exact hd
   .cases hl
  .rename_i ha
   have ha:fI P T=false:=by simpa using ha
   split at hl
   .rename_i x r
    cases hl
    obtain⟨u,h1,h2,-⟩:=hc 0 (.d x) ψ
    exact⟨u,h2,λw hb=>eh hu ha hb (by simpa using h1)⟩
   .rename_i n xs r
    cases hl
    obtain⟨u,h1,h2,-⟩:=hc 0 (.own n xs) ψ
    exact⟨u,cy.oJ h2,λw hb=>eh hu ha hb (by simpa using h1)⟩
   .cases hl
end
section
variable (P:Program)
def sF(T:TypeId):Bool:=match P.underlying T with|some .string=>true|_=>false
def kY(st:St):Operand->Option (Option Loc×Nat×List D)
 |.tmp s=>match st.tmps[s]? with
  |some (.d (.list n xs))=>some (none,n,xs)
  |some (.d .cG)=>some (none,0,[])
  |some (.cq l n xs)=>some (some l,n,xs)
  |some (.own n xs)=>some (some (.slot s),n,xs)
  |some (.mf _ n xs)=>some (some (.slot s),n,xs)
  |_=>none
 |.const (.slice none 0 0)=>some (none,0,[])
 |_=>none
def Dh(st:St):Operand->Option (Option Loc×List D)
 |.tmp s=>match st.tmps[s]? with
  |some (.d (.fV cs))=>some (none,cs)
  |some (.eW l cs)=>some (some l,cs)
  |_=>none
 |_=>none
def bb:Option Loc->List D->SV
 |none,cs=>.d (.fV cs)
 |some l,cs=>.eW l cs
def nq:Option Loc->Nat->List D->SV
 |none,n,xs=>.d (.list n xs)
 |some l,n,xs=>.cq l n xs
def fJ(st:St)(x:Operand):Option (IntKind×Int):=match cx st x with|some (.int k n)=>some (k,n)|_=>none
def sk(st:St)(x:Operand):Option (Nat×Nat):=match cx st x with|some (.ptr i off)=>some (i,off)|_=>none
def wJ(S:TypeId)(f:Nat):Option Nat:=
 match P.underlying S with
 |some (.struct fs)=>match fs[f]? with
  |some fl=>if P.cellsOf fl.type=0 then none else some fl.offset
  |none=>none
 |_=>none
def Kk(T:TypeId)(cs:List D)(off:Nat):Option D:=
 if(P.underlying T).isNone then none
 else if fI P T then some (.agg ((cs.drop off).take (P.cellsOf T)))
 else cs[off]?
def Jx(op:BinOp)(e l:Bool):Option Bool:=
 match op with
 |.eql=>some e
 |.neq=>some (!e)
 |.lss=>some l
 |.leq=>some (l||e)
 |.gtr=>some !(l||e)
 |.geq=>some !l
 |_=>none
def EW:Option TypeDesc->D->D->Option Bool
 |some .bool,.bool a,.bool b=>some (a==b)
 |some (.int _),.int k a,.int k' b=>if k=k' then some (a==b)else none
 |some .string,.str a,.str b=>some (a==b)
 |_,_,_=>none
def Jn(i:Nat):List Field->List D->List D->Option Bool
 |[],[],[]=>some true
 |f::fs,x::xs,y::ys=>
  if f.name != "_" &&f.offset==i then
   match EW (P.underlying f.type) x y,Jn (i+1) fs xs ys with
   |some a,some b=>some (a&&b)
   |_,_=>none
  else none
 |_,_,_=>none
def Oo(T:TypeId)(a b:List D):Option Bool:=
 match P.underlying T with
 |some (.struct fs)=>if !P.stoodInHeld T&&!P.eqGuardType P.depth T then Jn P 0 fs.toList a b else none
 |_=>none
def vL:SV->Nat
 |.d (.fV _)|.d (.ptr _ _)|.loc _ _|.eW _ _|.box _=>1
 |.d (.iface _ _)=>2
 |.d (.fn _ _ _)=>3
 |.d (.map _)=>4
 |_=>0
def Qp:D->Nat
 |.fZ=>1
 |.nilIface=>2
 |.lu=>3
 |.kf=>4
 |_=>0
def Ak(T:TypeId):Nat:=
 match P.underlying T with
 |some (.pointer _)=>1
 |some (.interface _)=>2
 |some (.func ..)=>3
 |some (.map ..)=>4
 |_=>5
def Ko(st:St)(T:TypeId)(x y:Operand):Bool:=
 match val st x,cx st y with
 |some s,some d=>vL s==Ak P T&&Qp d==Ak P T
 |_,_=>false
def QQ(st:St)(op:BinOp)(T:TypeId)(x y:Operand):Option D:=
 match cx st x,cx st y with
 |some (.str a),some (.str b)=>
  if op matches .add then(if a.length+b.length<=maxLen then some (.str (a++b))else none)
  else(Jx op (a==b) (Op.bytesLess a b)).map .bool
 |some (.agg a),some (.agg b)=>
  match op,Oo P T a b with
  |.eql,some r=>some (.bool r)
  |.neq,some r=>some (.bool !r)
  |_,_=>none
 |p,q=>
  match p.bind nN,q.bind nN with
  |some u,some v=>DN (lV P (do eqGuard op T x y u v;binOp op T u v))
  |_,_=>
   if Ko P st T x y||Ko P st T y x then
    match op with
    |.eql=>some (.bool false)
    |.neq=>some (.bool true)
    |_=>none
   else none
def UG(st:St)(op:UnOp)(x:Operand):Option D:=
 match(cx st x).bind nN with
 |some u=>DN (lV P (Op.unary op u))
 |none=>none
def bytesOf:List D->Option (List UInt8)
 |[]=>some []
 |.int .u8 n::r=>(bytesOf r).map (UInt8.ofNat n.toNat:: ·)
 |_::_=>none
def Bs(T:TypeId):Bool:=match P.underlying T with|some (.slice e)=>(match P.underlying e with|some (.int .u8)=>true|_=>false)|_=>false
def Ju(st:St)(src dst:TypeId)(x:Operand):Option D:=
 if Bs P src&&sF P dst then
  match kY st x with
  |some (_,n,xs)=>if n=1\/xs.isEmpty then(bytesOf xs).map .str else none
  |none=>none
 else none
def Oy(st:St)(src dst:TypeId)(x:Operand):Option D:=
 match(cx st x).bind nN with
 |some u=>DN (lV P (convert src dst u))
 |none=>Ju P st src dst x
def yU(place:Nat->Option (Nat×Nat))(cells:List D):List (Nat×D)->Option (List D)
 |[]=>some cells
 |(i,x)::rest=>
  match place i with
  |none=>none
  |some (off,size)=>
   if x.cells.length≠size\/off+size>cells.length then none
   else yU place (cells.take off++x.cells++cells.drop (off+size)) rest
def qY(st:St):List (Nat×Operand)->Option (List (Nat×D))
 |[]=>some []
 |(i,x)::r=>match cx st x,qY st r with
  |some d,some ds=>some ((i,d)::ds)
  |_,_=>none
def placesOf(T:TypeId):Option (Nat->Option (Nat×Nat)):=
 match P.underlying T with
 |some (.struct fs)=>if fs.all (λf=>(P.info? f.type).isSome)then some (λi=>(fs[i]?).map λf=>(f.offset,P.cellsOf f.type))else none
 |some (.array _ e)=>if(P.info? e).isSome then some (λi=>some (i * P.cellsOf e,P.cellsOf e))else none
 |_=>none
def yB(T:TypeId):Option D:=((P.info? T).bind (·.zero)).bind mR
def Jv(st:St)(T:TypeId)(parts:List (Nat×Operand)):Option D:=
 match placesOf P T,yB P T,qY st parts with
 |some pl,some z,some ds=>(yU pl z.cells ds).map .agg
 |_,_,_=>none
def sy(st:St)(T:TypeId)(x:Operand):Option SV:=
 match rI st x with
 |some (s,off)=>match BM st s with|some cs=>qo P T (.cell s off) (cs.drop off)|none=>none
 |none=>match Dh st x with
  |some (_,cs)=>(Kx P T cs).map .d
  |none=>match sk st x with
   |some (i,off)=>match st.H[i]? with|some (.cells cs)=>qo P T (.au i off) (cs.drop off)|_=>none
   |none=>none
def sI(st:St)(S:TypeId)(x:Operand)(f:Nat):Option SV:=
 match wJ P S f with
 |none=>none
 |some fo=>match rI st x with
  |some (s,off)=>some (.loc s (off+fo))
  |none=>match Dh st x with
   |some (l,cs)=>some (bb l (cs.drop fo))
   |none=>match sk st x with
    |some (i,off)=>some (.d (.ptr i (off+fo)))
    |none=>none
def arrayOf(T:TypeId):Option (Nat×Nat):=match P.underlying T with|some (.array n e)=>some (n,P.cellsOf e)|_=>none
def pr(st:St)(T:TypeId)(x i:Operand):Option SV:=
 match fJ st i with
 |none=>none
 |some (_,j)=>match arrayOf P T with
  |some (n,sz)=>if sz≠0/\0<=j/\j<n then
    match rI st x with
    |some (s,off)=>some (.loc s (off+j.toNat * sz))
    |none=>match sk st x with
     |some (i,off)=>some (.d (.ptr i (off+j.toNat * sz)))
     |none=>none
   else none
  |none=>match kY st x with
   |some (l,n,xs)=>if n≠0/\n=fy P T/\0<=j then(xs[j.toNat]?).map λx=>bb l x.cells else none
   |none=>none
def zS(st:St)(T:TypeId)(x i:Operand):Option D:=
 match cx st x,fJ st i with
 |some (.str l),some (_,j)=>if sF P T=true/\0<=j then(l[j.toNat]?).map λb=>.int .u8 b.toNat else none
 |some (.agg cs),some (_,j)=>match P.underlying T with
  |some (.array n e)=>if P.cellsOf e≠0/\0<=j/\j<n then Kk P e cs (j.toNat * P.cellsOf e)else none
  |_=>none
 |_,_=>none
def EU(st:St)(T:TypeId)(x:Operand)(f:Nat):Option D:=
 match cx st x,P.underlying T with
 |some (.agg cs),some (.struct fs)=>match fs[f]? with|some fl=>Kk P fl.type cs fl.offset|none=>none
 |_,_=>none
def Hs(st:St)(dflt:Nat):Option Operand->Option Nat
 |none=>some dflt
 |some x=>match fJ st x with|some (_,j)=>if 0<=j then some j.toNat else none|none=>none
def isZero(st:St)(x:Option Operand):Bool:=match x with|some x=>(match fJ st x with|some (_,j)=>j==0|none=>false)|none=>false
def zM(st:St)(T:TypeId)(x:Operand)(lo hi mx:Option Operand):Option SV:=
 if mx.isSome then(if lo.isNone&&isZero st hi&&isZero st mx&&fy P T !=0&&(kY st x).isSome then some (.d .cG)else none)else
 match cx st x with
 |some (.str l)=>match Hs st 0 lo,Hs st l.length hi with
  |some i,some j=>if sF P T=true/\i<=j/\j<=l.length then some (.d (.str ((l.take j).drop i)))else none
  |_,_=>none
 |_=>match kY st x with
  |some (l,n,xs)=>match Hs st 0 lo,Hs st xs.length hi with
   |some i,some j=>if fy P T≠0/\(n=fy P T\/xs.isEmpty)/\i<=j/\j<=xs.length then some (nq l n ((xs.take j).drop i))else none
   |_,_=>none
  |none=>none
def N2(st:St)(T:TypeId)(x:Operand):Option D:=
 match cx st x with
 |some (.str l)=>if sF P T=true then some (.int .i64 l.length)else none
 |_=>match kY st x with
  |some (_,_,xs)=>match P.underlying T with|some (.slice _)=>some (.int .i64 xs.length)|_=>none
  |none=>none
def xX(st:St)(x:Operand)(j:Nat):Option D:=
 match x with
 |.tmp s=>match st.tmps[s]? with
  |some (.iQ vs)=>match vs[j]? with|some (.d d)=>some d|_=>none
  |_=>none
 |_=>none
def G9(st:St):List Operand->Option (List D)
 |[]=>some []
 |x::r=>match cx st x,G9 st r with
  |some d,some ds=>some (d::ds)
  |_,_=>none
def Sv:SV->Bool
 |.d (.fn (.func _) _ _)=>true
 |.d (.fn _ _ _)=>false
 |_=>true
def CD(st:St)(o:Oper):Option SV:=
 match o.op with
 |.move x|.assign x=>AG P st o.type x
 |.pick c x y=>match cx st c with|some (.bool b)=>(cx st (if b then x else y)).map .d|_=>none
 |.load T x=>sy P st T x
 |.nilCheck x=>match AG P st o.type x with
  |some s=>if vL s !=0&&Sv s then some s else none
  |none=>none
 |.binOp op T x y _=>(QQ P st op T x y).map .d
 |.unOp op _ x=>(UG P st op x).map .d
 |.convert src dst x=>(Oy P st src dst x).map .d
 |.makeInterface T x=>match P.underlying T with
  |some (.interface _)|none=>none
  |some _=>(cx st x).map λd=>.d (.iface T d)
 |.makeFunc fn first caps=>match G9 st first.toList,G9 st caps.toList with
  |some fs,some cs=>some (.d (.fn fn fs cs))
  |_,_=>none
 |.build T parts=>(Jv P st T parts.toList).map .d
 |.fieldAddr S x f=>sI P st S x f
 |.field T x f=>(EU P st T x f).map .d
 |.indexAddr T x i=>pr P st T x i
 |.index T x i=>(zS P st T x i).map .d
 |.slice T x lo hi mx=>zM P st T x lo hi mx
 |.extract x j=>(xX st x j).map .d
 |.call c=>match c.callee,c.args.toList,c.argTypes.toList with
  |.builtin .len,[x],[T]=>(N2 P st T x).map .d
  |_,_,_=>none
 |_=>none
end
section
variable {P:Program}
def BC(a:Act)(s:Nat):a.eval (.tmp s)=valOf a s:=rfl
variable {st:St} {a:Act} {w:World} {g:Gh}
def Rel.rs(h:Rel st a w g)(hs:st.tmps[s]? =some sv):RS g w st.tmps (valOf a) s (a.eval (.tmp s)) sv:=h.tmp s sv hs
def Nf(h:Rel st a w g)(hv:val st x=some (.d d)):Rd g w (a.eval x) d:=by
 cases x with
 |tmp s=>exact h.rs hv
 |const v=>
  simp only[val,g_4,SV.d.injEq]at hv
  obtain⟨d',h1,rfl⟩:=hv
  exact oB h1
 |func f=>
  simp only[val,g_2,SV.d.injEq]at hv
  subst hv
  exact .fn rfl rfl (λ_=>undef) (λ_=>undef) (λj y hj=>by simp at hj) (λj y hj=>by simp at hj) (λj y hj=>by simp at hj) (λj y hj=>by simp at hj)
 |global g=>simp[val]at hv
def cw(h:Rel st a w g)(hv:cx st x=some d):Rd g w (a.eval x) d:=by
 unfold cx at hv
 split at hv
 .cases hv;rename_i h1;exact Nf h h1
 .cases hv
def gD(h:Rel st a w g)(hv:kY st x=some (l,n,xs)):eZ g w l (a.eval x) n xs:=by
 unfold kY at hv
 split at hv
 .split at hv
  .rename_i hs;cases hv;exact(h.rs hs:Rd g w _ _).toList
  .rename_i hs;cases hv;obtain⟨a',e⟩:=Rd.jA (h.rs hs);exact .inl ⟨rfl,a',0,e⟩
  .rename_i hs;cases hv;exact h.rs hs
  .rename_i hs;cases hv;exact cy.oJ (h.rs hs)
  .rename_i hs;cases hv;exact cy.oJ (h.rs hs).2
  .cases hv
 .cases hv;exact .inl ⟨rfl,none,0,rfl⟩
 .cases hv
def yM(h:Rel st a w g)(hv:Dh st x=some (l,cs)):rP g w l (a.eval x) cs:=by
 unfold Dh at hv
 split at hv
 .split at hv
  .rename_i hs;cases hv;exact(h.rs hs:Rd g w _ _).Tr
  .rename_i hs;cases hv;exact h.rs hs
  .cases hv
 .cases hv
def kW(h:Rel st a w g)(hv:sk st x=some (i,off)): ∃k,g.ρ[i]? =some k/\a.eval x=.pointer (some ⟨k,off,none⟩):=by
 unfold sk at hv
 split at hv
 .rename_i i' off' hd
  cases hv
  have:=cw h hd
  generalize a.eval x=v at this
  cases this with
  |ptr hk=>exact⟨_,hk,rfl⟩
 .cases hv
def lB(h:Rel st a w g)(hv:rI st x=some (s,off)):
  ∃cs k,st.tmps[s]? =some (.box cs)/\valOf a s=.pointer (some ⟨k,0,none⟩)/\a.eval x=.pointer (some ⟨k,off,none⟩):=by
 unfold rI at hv
 split at hv
 .split at hv
  .rename_i s0 cs hs
   cases hv
   obtain⟨k,c,T,h1,-⟩:=h.rs hs
   exact⟨cs,k,hs,h1,h1⟩
  .rename_i s0 t off' hs
   cases hv
   obtain⟨⟨cs,hcs⟩,k,h1,h2⟩:=h.rs hs
   exact⟨cs,k,hcs,h1,h2⟩
  .cases hv
 .cases hv
def jF(h:Rel st a w g)(hv:fJ st x=some (k,n)):a.eval x=.int k n:=by
 unfold fJ at hv
 split at hv
 .rename_i k' n' hd
  cases hv
  have:=cw h hd
  generalize a.eval x=v at this
  cases this;rfl
 .cases hv
def BV(g:Gh)(w:World)(st:St)(a:Act)(v:Value):SV->Prop
 |.loc s off=>(∃cs,st.tmps[s]? =some (.box cs))/\ ∃k,valOf a s=.pointer (some ⟨k,0,none⟩)/\v=.pointer (some ⟨k,off,none⟩)
 |.PR s=>(∃x,st.tmps[s]? =some x/\gl x=2)/\v=valOf a s
 |.ep s n j=>(∃x,st.tmps[s]? =some x/\gl x=2)/\ ∃k off len cap,valOf a s=.slice (some ⟨k,off,none⟩) len cap/\v=.pointer (some ⟨k,off+j * n,none⟩)
 |s=>pf g w v s
def Up(w w':World):Prop:= ∀(k:Nat) (o:Obj),w.heap[k]? =some o->w'.heap[k]? =some o
def Up.refl(w:World):Up w w:=λ_ _ h=>h
def dP(h:pf g w v s):BV g w st a v s:=by
 cases s<;>simp only[pf]at h<;>first|exact h|exact h.elim
def yP(h:rP g w l v cs):pf g w v (bb l cs):=by
 cases l with
 |none=>exact h.Nm
 |some l=>exact h
def yQ(h:eZ g w l v n xs):pf g w v (nq l n xs):=by
 cases l with
 |none=>exact h.Nm
 |some l=>exact h
def qW(h:Rel st a w g)(hv:AG P st T x=some s):BV g w st a (a.eval x) s:=by
 unfold AG at hv
 split at hv
 .rename_i t
  simp only[g_9]at hv
  obtain⟨sv,h1,h2⟩:=hv
  have hr:=h.rs h1
  cases sv<;>simp only[IU,g_2,reduceCtorEq]at h2<;>subst h2
  .exact hr
  .exact cy.oJ hr
  .exact hr
  .exact hr
  .obtain⟨k,c,T,e1,-⟩:=hr
   exact⟨⟨_,h1⟩,k,e1,e1⟩
  .exact hr
  .trivial
  .exact cy.oJ hr.2
 .cases hv;exact⟨rfl,none,rfl⟩
 .rename_i hx1 hx2
  cases x with
  |tmp t=>exact(hx1 t rfl).elim
  |const v=>
   simp only[val,g_4]at hv
   obtain⟨d,h1,rfl⟩:=hv
   exact oB (v:=v) h1
  |func f=>
   have:s=.d (.fn (.func f) [] []):=by simpa[val,eq_comm]using hv
   subst this
   exact Nf h (x:=.func f) rfl
  |global g=>simp[val]at hv
def EF(h:Rel st a w g)(hv:sy P st T x=some s):
  ∃v,pf g w v s/\ ∀w',Up w w'->(Instr.loadAt T (a.eval x)).run P w'=.ok v w':=by
 unfold sy at hv
 split at hv
 .rename_i s0 off hl
  obtain⟨cs,k,h1,h2,h3⟩:=lB h hl
  have hb:BM st s0=some cs:=by simp[BM,h1]
  simp only[hb]at hv
  obtain⟨k',c,T0,e1,e2,e3,e4,e5⟩:=h.tmp s0 _ h1
  rw[h2]at e1
  simp only[Value.pointer.injEq,g_2,Addr.mk.injEq,and_true]at e1
  subst e1
  obtain⟨v,hL,hR⟩:=Jc (P:=P) (g:=g) (w0:=w) (T:=T) (k:=k) (off:=off) (c:=c) (T0:=T0) (fz:=(0,0)) (l:=λj=>.cell s0 j) (λj y hj=>e5 (off+j) y (by simpa[List.getElem?_drop]using hj)) hv
  exact⟨v,hL,λw' hw=>by simp[Instr.loadAt,h3,Instr.sureAddr,hR w' (hw _ _ e3)]⟩
 .split at hv
  .rename_i l cs hp
   simp only[g_4]at hv
   obtain⟨d,h1,rfl⟩:=hv
   obtain⟨k,off,c,T0,fz,us,e1,e2,e3,e4,e5⟩:=yM h hp
   obtain⟨v,hL,hR⟩:=N0 (P:=P) (g:=g) (w0:=w) (T:=T) (k:=k) (off:=off) (c:=c) (T0:=T0) (fz:=fz) (λj y hj=>⟨us j,(e4 j y hj).1,e5 j y hj,(e4 j y hj).2⟩) h1
   exact⟨v,hL,λw' hw=>by simp[Instr.loadAt,e1,Instr.sureAddr,hR w' (hw _ _ e3)]⟩
  .split at hv
   .rename_i i off hp
    split at hv
    .rename_i cs ho
     obtain⟨k,hk,e1⟩:=kW h hp
     obtain⟨k',c,T0,f1,f2,f3,f4,f5⟩:=h.hp.2 i _ ho
     rw[hk]at f1;cases f1
     obtain⟨v,hL,hR⟩:=Jc (P:=P) (g:=g) (w0:=w) (T:=T) (k:=k) (off:=off) (c:=c) (T0:=T0) (fz:=(0,0)) (l:=λj=>.au i j) (λj y hj=>f5 (off+j) y (by simpa[List.getElem?_drop]using hj)) hv
     exact⟨v,hL,λw' hw=>by simp[Instr.loadAt,e1,Instr.sureAddr,hR w' (hw _ _ f3)]⟩
    .cases hv
   .cases hv
def rP.drop(h:rP g w l v cs)(n:Nat):
  ∃k off,v=.pointer (some ⟨k,off,none⟩)/\rP g w l (.pointer (some ⟨k,off+n,none⟩)) (cs.drop n):=by
 obtain⟨k,off,c,T0,fz,us,e1,e2,e3,e4,e5⟩:=h
 refine⟨k,off,e1,k,off+n,c,T0,fz,λj=>us (n+j),rfl,e2,e3,λj y hj=>?_,λj y hj=>?_⟩
 .grind
 grind
def kA(hf:wJ P S f=some fo)(w:World):
  (Instr.fieldAt S (.pointer (some ⟨k,off,none⟩)) f).run P w=.ok (.pointer (some ⟨k,off+fo,none⟩)) w:=by
 unfold wJ at hf
 split at hf
 .rename_i fs hu
  split at hf
  .rename_i fl hfl
   split at hf
   .cases hf
   .rename_i hn
    cases hf
    have: ∃i,P.info? fl.type=some i:=by
     cases hi:P.info? fl.type with
     |none=>simp[Program.cellsOf,hi]at hn
     |some i=>exact⟨i,rfl⟩
    obtain⟨i,hi⟩:=this
    have hz:i.size≠0:=by simpa[Program.cellsOf,hi]using hn
    simp[Instr.fieldAt,run_underlying hu,hfl,Instr.sureAddr,fieldPlace,sizeOf,typeInfo,hi,hz,Addr.add_lit]
  .cases hf
 .cases hf
def wK(h:Rel st a w g)(hv:sI P st S x f=some s):
  ∃v,BV g w st a v s/\ ∀w',(Instr.fieldAt S (a.eval x) f).run P w'=.ok v w':=by
 unfold sI at hv
 split at hv
 .cases hv
 .rename_i fo hf
  split at hv
  .rename_i s0 off hl
   cases hv
   obtain⟨cs,k,h1,h2,h3⟩:=lB h hl
   exact⟨.pointer (some ⟨k,off+fo,none⟩),⟨⟨cs,h1⟩,k,h2,rfl⟩,λw'=>by rw[h3];exact kA hf w'⟩
  .split at hv
   .rename_i l cs hp
    cases hv
    obtain⟨k,off,e1,e2⟩:=(yM h hp).drop fo
    exact⟨_,dP (yP e2),λw'=>by rw[e1];exact kA hf w'⟩
   .split at hv
    .rename_i i off hp
     cases hv
     obtain⟨k,hk,e1⟩:=kW h hp
     exact⟨.pointer (some ⟨k,off+fo,none⟩),Rd.ptr hk,λw'=>by rw[e1];exact kA hf w'⟩
    .cases hv
def gh(h:P.cellsOf e≠0)(w:World):(sizeOf e).run P w=.ok (P.cellsOf e) w:=by
 cases hi:P.info? e with
 |none=>simp[Program.cellsOf,hi]at h
 |some i=>simp[sizeOf,typeInfo,hi,Program.cellsOf]
def uA{T:TypeId}{n e:Nat}(hu:P.underlying T=some (.array n e))(hz:P.cellsOf e≠0){k off:Nat}{ik:IntKind}{j:Int}(h0:0<=j)(h1:j<n)(w:World):
  (Instr.indexAt T (.pointer (some ⟨k,off,none⟩)) (.int ik j)).run P w=.ok (.pointer (some ⟨k,off+j.toNat * P.cellsOf e,none⟩)) w:=by
 simp[Instr.indexAt,asIntOf,run_underlying hu,Instr.sureAddr,h0,h1,gh hz,Addr.add_lit]
def nY{T e:TypeId}(hu:P.underlying T=some (.slice e))(hz:P.cellsOf e≠0){k off len cap:Nat}{ik:IntKind}{j:Int}(h0:0<=j)(h1:j<len)(w:World):
  (Instr.indexAt T (.slice (some ⟨k,off,none⟩) len cap) (.int ik j)).run P w=.ok (.pointer (some ⟨k,off+j.toNat * P.cellsOf e,none⟩)) w:=by
 simp[Instr.indexAt,asIntOf,run_underlying hu,h0,h1,gh hz,Addr.add_lit]
def oX(h:fy P T≠0): ∃e,P.underlying T=some (.slice e)/\fy P T=P.cellsOf e:=by
 unfold fy at h ⊢
 grind
def wA(h:Rel st a w g){T:TypeId}{x i:Operand}{s:SV}(hv:pr P st T x i=some s):
  ∃v,BV g w st a v s/\ ∀w',(Instr.indexAt T (a.eval x) (a.eval i)).run P w'=.ok v w':=by
 unfold pr at hv
 split at hv
 .cases hv
 .rename_i ik j hi
  have hei:=jF h hi
  split at hv
  .rename_i n sz ha
   have⟨e,hu,hsz⟩: ∃e,P.underlying T=some (.array n e)/\sz=P.cellsOf e:=by
    unfold arrayOf at ha
    grind
   subst hsz
   split at hv
   .rename_i hc
    obtain⟨hz,h0,h1⟩:=hc
    split at hv
    .rename_i s0 off hl
     cases hv
     obtain⟨cs,k,e1,e2,e3⟩:=lB h hl
     exact⟨.pointer (some ⟨k,off+j.toNat * P.cellsOf e,none⟩),⟨⟨cs,e1⟩,k,e2,rfl⟩,λw'=>by rw[e3,hei];exact uA hu hz h0 h1 w'⟩
    .split at hv
     .rename_i i' off hp
      cases hv
      obtain⟨k,hk,e1⟩:=kW h hp
      exact⟨.pointer (some ⟨k,off+j.toNat * P.cellsOf e,none⟩),Rd.ptr hk,λw'=>by rw[e1,hei];exact uA hu hz h0 h1 w'⟩
     .cases hv
   .cases hv
  .split at hv
   .rename_i l n xs hl
    split at hv
    .rename_i hc
     obtain⟨hn,hw,h0⟩:=hc
     simp only[g_4]at hv
     obtain⟨y,hy,rfl⟩:=hv
     obtain⟨e,hu,he⟩:=oX (P:=P) (T:=T) (by rw[<-hw];exact hn)
     rcases gD h hl with⟨rfl,-⟩|⟨k,off,cap,c,T0,fz,us,e1,e2,e3,e4,e5,e6,e7⟩
     .simp at hy
     .have hlt:=aU hy
      refine⟨.pointer (some ⟨k,off+j.toNat * P.cellsOf e,none⟩),dP (yP ⟨k,_,c,T0,fz,us j.toNat,rfl,e2,e3,λm z hz=>?_,λm z hz=>e7 _ y hy m z hz⟩),
       λw'=>by rw[e1,hei];exact nY hu (by rw[<-he,<-hw];exact hn) h0 ω w'⟩
      grind
    .cases hv
   .cases hv
def yN(hv:Kk P T cs off=some d)(hr:Rd g w (.agg vs) (.agg cs)):
  ∃v,Rd g w v d/\ ∀w',(part T vs off).run P w'=.ok v w':=by
 unfold Kk at hv
 split at hv
 .cases hv
 .rename_i hu
  have hu:(P.underlying T).isNone=false:=q_2.2 hu
  cases hr with
  |agg hl us hc hr=>
   split at hv
   .rename_i ha
    cases hv
    refine⟨.agg (vs.extract off (off+P.cellsOf T)),td ?_ (λj y hj=>?_),λw'=>?_⟩
    .grind
    .grind
    .simp[part,mK hu,ha,gA hu]
   .rename_i ha
    have ha:fI P T=false:=q_2.2 ha
    exact⟨us off,hr _ _ hv,λw'=>by simp[part,mK hu,ha,(hc _ _ hv).1]⟩
end
section
variable {P:Program} {st:St} {a:Act} {w:World} {g:Gh}
def xI(l:List UInt8):(mk l).toList=l:=by rw[ByteArray.toList_eq];rfl
def L7(x y:List UInt8):mk x++mk y=mk (x++y):=by
 apply ByteArray.ext
 simp[mk,ByteArray.data_append]
def cg(h:Rel st a w g)(hv:cx st x=some d)(hl:nN d=some u):a.eval x=u:=GD hl (cw h hv)
def BQ(hv:DN (lV P s)=some d): ∃v,Rd g w v d/\ ∀w',s.run P w'=.ok v w':=by
 simp only[DN,g_9]at hv
 obtain⟨v,h1,h2⟩:=hv
 exact⟨v,Bh h2,GF h1⟩
def FZ
  (hv:(if op matches .add then(if p.length+q.length<=maxLen then some (D.str (p++q))else none)else(Jx op (p==q) (Op.bytesLess p q)).map .bool)=some d):
  ∃v,Rd g w v d/\ ∀w',(do eqGuard op T x y (.string (mk p)) (.string (mk q));binOp op T (.string (mk p)) (.string (mk q)):Sem Value).run P w'=.ok v w':=by
 have hg:eqGuard op T x y (.string (mk p)) (.string (mk q))=pure ():=eqGuard_at_string op T x y (.string (mk q)) (mk p)
 cases op<;>simp only[g_7,if_false,if_true,Jx,m_4,Option.map_none,g_2,reduceCtorEq]at hv
 case add=>
  split at hv
  .rename_i hle
   cases hv
   refine⟨.string (mk (p++q)),.str,λw'=>?_⟩
   have hle': ¬(((mk p).size+(mk q).size:Nat):Int)>IntKind.i64.max:=by
    rw[qZ,qZ,IntKind.max_i64]
    unfold maxLen at hle
    omega
   rw[hg]
   simp only[binOp,Op.stringOp,Sem.run_bind,Sem.run_pure,Result.andThen_ok]
   rw[if_neg hle',L7]
   rfl
  .cases hv
 all_goals
  subst hv
  refine⟨_,.bool,λw'=>?_⟩
  rw[hg]
  simp only[binOp,Op.stringOp,xI,Sem.run_bind,Sem.run_pure,Result.andThen_ok]
def EV(hv:EW (P.underlying T) x y=some r)(hx:Rd g w u x)(hy:Rd g w v y)(d:Nat)(w':World):
  (Op.equalIn (d+1) T u v).run P w'=.ok r w'/\fI P T=false/\(P.underlying T).isNone=false:=by
 cases hu:P.underlying T with
 |none=>rw[hu]at hv;cases x<;>cases y<;>simp[EW]at hv
 |some t=>
  rw[hu]at hv
  cases t<;>cases x<;>cases y<;>simp only[EW,reduceCtorEq]at hv
  case bool.bool.bool a b=>
   cases hx;cases hy;cases hv
   exact⟨run_equalIn_bool' w' d T _ _ hu,by simp[fI,hu],rfl⟩
  case int.int.int k0 k a k' b=>
   split at hv
   .rename_i hk
    subst hk
    cases hx;cases hy;cases hv
    exact⟨run_equalIn_int w' d T _ _ _ _ hu,by simp[fI,hu],rfl⟩
   .cases hv
  case string.str.str a b=>
   cases hx;cases hy;cases hv
   refine⟨?_,by simp[fI,hu],rfl⟩
   rw[run_equalIn_string w' d T _ _ hu,xI,xI]
def BF(d:Nat)(w':World): ∀(fs:List Field) (i:Nat) (xs ys:List D) (r:Bool),Jn P i fs xs ys=some r->
  (∀(j:Nat) (y:D),xs[j]? =some y-> ∃u,us[i+j]? =some u/\Rd g w u y)->(∀(j:Nat) (y:D),ys[j]? =some y-> ∃u,vs[i+j]? =some u/\Rd g w u y)->
  (Op.eqFields (d+1) us vs fs).run P w'=.ok r w'
 |[],i,xs,ys,r,h,_,_=>by
  cases xs<;>cases ys<;>simp[Jn]at h
  subst h;simp[Op.eqFields]
 |f::fs,i,[],ys,r,h,_,_=>by cases ys<;>simp[Jn]at h
 |f::fs,i,x::xs,[],r,h,_,_=>by simp[Jn]at h
 |f::fs,i,x::xs,y::ys,r,h,hx,hy=>by
  simp only[Jn]at h
  split at h
  .rename_i hc
   simp only[g_3,bne_iff_ne,beq_iff_eq]at hc
   obtain⟨hn,ho⟩:=hc
   split at h
   .rename_i p q h1 h2
    cases h
    obtain⟨u,hu1,hu2⟩:=hx 0 x ψ
    obtain⟨v,hv1,hv2⟩:=hy 0 y ψ
    simp only[Nat.add_zero]at hu1 hv1
    obtain⟨e1,e2,e3⟩:=EV h1 hu2 hv2 d w'
    have ih:=BF d w' (us:=us) (vs:=vs) fs (i+1) xs ys q h2 (λj z hz=>by have:=hx (j+1) z (by simpa using hz);grind)
     (λj z hz=>by have:=hy (j+1) z (by simpa using hz);grind)
    have p1:(part f.type us f.offset).run P w'=.ok u w':=by simp[part,mK e3,e2,ho,hu1]
    have p2:(part f.type vs f.offset).run P w'=.ok v w':=by simp[part,mK e3,e2,ho,hv1]
    simp only[Op.eqFields,if_pos hn,Sem.run_bind,p1,p2,e1,Result.andThen_ok]
    cases p<;>simp[ih]
   .cases h
  .cases h
def tS(h:sF P T=true):P.underlying T=some .string:=by
 unfold sF at h
 grind
def ze(hv:Oo P T xs ys=some r)(hx:Rd g w u (.agg xs))(hy:Rd g w v (.agg ys))(x y:Operand)(w':World):
  (do eqGuard .eql T x y u v;binOp .eql T u v:Sem Value).run P w'=.ok (.bool r) w'/\(do eqGuard .neq T x y u v;binOp .neq T u v:Sem Value).run P w'=.ok (.bool !r) w':=by
 unfold Oo at hv
 split at hv
 .rename_i fs hu
  split at hv
  .rename_i hc
   simp only[g_3,k_4]at hc
   obtain⟨h1,h2⟩:=hc
   cases hx with
   |agg hl us hc hr=>
    cases hy with
    |agg hl' us' hc' hr'=>
     have hf:P.fieldsOf T=fs:=by simp[Program.fieldsOf,hu]
     have hs:=BF 9998 w' fs.toList 0 xs ys r hv (λj z hz=>⟨us j,by simpa using(hc j z hz).1,hr j z hz⟩) (λj z hz=>⟨us' j,by simpa using(hc' j z hz).1,hr' j z hz⟩)
     refine⟨?_,?_⟩
     .simp only[Sem.run_bind,run_eqGuard_agg w' _ T x y _ _ h2,Result.andThen_ok,run_eql_struct,run_equalIn_struct (P:=P) w' 9999 T _ _ (by rw[hf];exact hu) h1,hf,hs]
     .simp only[Sem.run_bind,run_eqGuard_agg w' _ T x y _ _ h2,Result.andThen_ok,run_neq_struct,run_equalIn_struct (P:=P) w' 9999 T _ _ (by rw[hf];exact hu) h1,hf,hs]
  .cases hv
 .cases hv
def vb:Value->Nat
 |.pointer (some _)=>1
 |.iface _ _=>2
 |.func _ _ _=>3
 |.map (some _)=>4
 |_=>0
def Dl:Value->Nat
 |.pointer none=>1
 |.nilIface=>2
 |.nilFunc=>3
 |.map none=>4
 |_=>0
def P7(h:Rel st a w g)(hv:val st x=some s)(hs:vL s≠0):vb (a.eval x)=vL s:=by
 cases s with
 |d d=>
  have:=Nf h hv
  generalize a.eval x=v at this
  cases this<;>simp[vL,vb]at hs ⊢
 |loc s off=>
  cases x with
  |tmp t=>obtain⟨-,k,-,e⟩:=h.rs hv;rw[e];rfl
  |const v=>simp[val]at hv
  |func f=>simp[val]at hv
  |global f=>simp[val]at hv
 |eW l cs=>
  cases x with
  |tmp t=>obtain⟨k,off,c,T0,fz,us,e,-⟩:=h.rs hv;rw[e];rfl
  |const v=>simp[val]at hv
  |func f=>simp[val]at hv
  |global f=>simp[val]at hv
 |box cs=>
  cases x with
  |tmp t=>obtain⟨k,c,T0,e,-⟩:=h.rs hv;rw[e];rfl
  |const v=>simp[val]at hv
  |func f=>simp[val]at hv
  |global f=>simp[val]at hv
 |_=>simp[vL]at hs
def Sj(h:Rel st a w g)(hv:cx st x=some d)(hs:Qp d≠0):Dl (a.eval x)=Qp d:=by
 have:=cw h hv
 generalize a.eval x=v at this
 cases this<;>simp[Qp,Dl]at hs ⊢
def G0(d:Nat)(w':World)(h1:vb u=Ak P T)(h2:Dl v=Ak P T):
  (Op.equalIn (d+1) T u v).run P w'=.ok false w'/\(Op.equalIn (d+1) T v u).run P w'=.ok false w':=by
 unfold Ak at h1 h2
 cases hu:P.underlying T with
 |none=>rw[hu]at h1;unfold vb at h1;split at h1<;>simp at h1
 |some t=>
  rw[hu]at h1 h2
  unfold vb at h1
  unfold Dl at h2
  cases t<;>simp only[]at h1 h2<;>(split at h1<;>simp at h1)<;>(split at h2<;>simp at h2)<;>
   (refine⟨?_,?_⟩<;>(unfold Op.equalIn;simp[run_underlying hu]))
def TQ(w':World)(h1:vb u=Ak P T)(h2:Dl v=Ak P T):
  (Op.equal T u v).run P w'=.ok false w'/\(Op.equal T v u).run P w'=.ok false w'/\
  (∀op ox oy,eqGuard op T ox oy u v=pure ()/\eqGuard op T ox oy v u=pure ())/\
  (binOp .eql T u v=(do pure (.bool (<-Op.equal T u v)):Sem Value)/\binOp .neq T u v=(do pure (.bool (!(<-Op.equal T u v))):Sem Value)/\
   binOp .eql T v u=(do pure (.bool (<-Op.equal T v u)):Sem Value)/\binOp .neq T v u=(do pure (.bool (!(<-Op.equal T v u))):Sem Value)):=by
 obtain⟨e1,e2⟩:=G0 9999 w' h1 h2
 refine⟨e1,e2,?_⟩
 have hne:Ak P T≠0:=by unfold Ak;split<;>simp
 rw[<-h1]at hne h2
 unfold vb at hne h2
 unfold Dl at h2
 split at hne<;>simp at hne<;>(split at h2<;>simp at h2)<;>exact⟨λop ox oy=>⟨by cases op<;>rfl,by cases op<;>rfl⟩,rfl,rfl,rfl,rfl⟩
def po(h:Rel st a w g)(hv:Ko P st T x y=true)(ox oy:Operand)(w':World):
  (do eqGuard .eql T ox oy (a.eval x) (a.eval y);binOp .eql T (a.eval x) (a.eval y):Sem Value).run P w'=.ok (.bool false) w'/\
  (do eqGuard .neq T ox oy (a.eval x) (a.eval y);binOp .neq T (a.eval x) (a.eval y):Sem Value).run P w'=.ok (.bool true) w'/\
  (do eqGuard .eql T ox oy (a.eval y) (a.eval x);binOp .eql T (a.eval y) (a.eval x):Sem Value).run P w'=.ok (.bool false) w'/\
  (do eqGuard .neq T ox oy (a.eval y) (a.eval x);binOp .neq T (a.eval y) (a.eval x):Sem Value).run P w'=.ok (.bool true) w':=by
 unfold Ko at hv
 split at hv
 .rename_i s d h1 h2
  simp only[g_3,beq_iff_eq]at hv
  obtain⟨e1,e2⟩:=hv
  have hne:Ak P T≠0:=by unfold Ak;split<;>simp
  have a1:=P7 h h1 (by rw[e1];exact hne)
  have a2:=Sj h h2 (by rw[e2];exact hne)
  obtain⟨b1,b2,b3,b4⟩:=TQ (P:=P) w' (a1.trans e1) (a2.trans e2)
  simp_all
 .cases hv
def Jy(h:Rel st a w g)(hv:QQ P st op T x y=some d):
  ∃v,Rd g w v d/\ ∀w',(do eqGuard op T x y (a.eval x) (a.eval y);binOp op T (a.eval x) (a.eval y):Sem Value).run P w'=.ok v w':=by
 unfold QQ at hv
 split at hv
 .rename_i p q h1 h2
  rw[cg h h1 rfl,cg h h2 rfl]
  exact FZ hv
 .rename_i p q h1 h2
  have r1:=cw h h1
  have r2:=cw h h2
  split at hv
  .rename_i r h3
   cases hv
   exact⟨_,.bool,λw'=>(ze h3 r1 r2 x y w').1⟩
  .rename_i r h3
   cases hv
   exact⟨_,.bool,λw'=>(ze h3 r1 r2 x y w').2⟩
  .cases hv
 .split at hv
  .rename_i u v h1 h2
   simp only[g_9]at h1 h2
   obtain⟨d1,f1,f2⟩:=h1
   obtain⟨d2,f3,f4⟩:=h2
   rw[cg h f1 f2,cg h f3 f4]
   exact BQ hv
  .split at hv
   .rename_i hn
    rw[p_6]at hn
    rcases hn with hn|hn
    .split at hv
     .cases hv;exact⟨_,.bool,λw'=>(po h hn x y w').1⟩
     .cases hv;exact⟨_,.bool,λw'=>(po h hn x y w').2.1⟩
     .cases hv
    .split at hv
     .cases hv;exact⟨_,.bool,λw'=>(po h hn x y w').2.2.1⟩
     .cases hv;exact⟨_,.bool,λw'=>(po h hn x y w').2.2.2⟩
     .cases hv
   .cases hv
def LB(h:Rel st a w g)(hv:UG P st op x=some d): ∃v,Rd g w v d/\ ∀w',(Op.unary op (a.eval x)).run P w'=.ok v w':=by
 unfold UG at hv
 split at hv
 .rename_i u h1
  simp only[g_9]at h1
  obtain⟨d1,f1,f2⟩:=h1
  rw[cg h f1 f2]
  exact BQ hv
 .cases hv
def za: ∀{xs:List D} {bs:List UInt8},bytesOf xs=some bs-> ∃ns:List Int,ns.length=xs.length/\bs=ns.map (λn=>UInt8.ofNat n.toNat)/\ ∀(i:Nat) (x:D),xs[i]? =some x->x=.int .u8 (ns.getD i 0)
 |[],bs,h=>by simp[bytesOf]at h;simp_all
 |x::xs,bs,h=>by
  cases x with
  |int k n=>
   cases k<;>simp only[bytesOf,reduceCtorEq,g_4]at h
   obtain⟨bs',h1,rfl⟩:=h
   obtain⟨ns,e1,e2,e3⟩:=za h1
   refine⟨n::ns,by simp[e1],by simp[e2],λi x hx=>?_⟩
   grind
  |_=>simp[bytesOf]at h
def GL(h:Bs P T=true): ∃e,P.underlying T=some (.slice e)/\P.underlying e=some (.int .u8):=by
 unfold Bs at h
 grind
def E4(h:Rel st a w g)(hv:Ju P st src dst x=some d): ∃v,Rd g w v d/\ ∀w',Up w w'->(convert src dst (a.eval x)).run P w'=.ok v w':=by
 unfold Ju at hv
 split at hv
 .rename_i hT
  rw[g_3]at hT
  obtain⟨e,hs,he⟩:=GL hT.1
  have hd:=tS hT.2
  split at hv
  .rename_i l n xs hl
   split at hv
   .rename_i hn
    simp only[g_4]at hv
    obtain⟨bs,hb,rfl⟩:=hv
    obtain⟨ns,e1,rfl,e3⟩:=za hb
    refine⟨_,.str,λw' hw=>?_⟩
    rcases gD h hl with⟨rfl,a0,cap,f1⟩|⟨k,off,cap,c,T0,fz,us,f1,f2,f3,f4,f5,f6,f7⟩
    .have:ns=[]:=by simpa using e1
     subst this
     rw[f1]
     cases a0 with
     |none=>exact run_convert_bytes_nil w' src e hs he 0 cap dst hd
     |some a0=>
      rw[run_convert_bytes_string w' src dst e _ 0 cap hs he hd]
      simp[Conv.bytesToString,loadCells,loadCellsFrom,mk]
      rfl
    .rw[f1]
     have h1:n=1\/xs.length=0:=by
      grind
     rw[run_convert_bytes_arg w' src e hs he k off xs.length cap ns e1 (λi hi=>?_) dst hd]
     .rfl
     .have hx:xs[i]? =some xs[i]:=by simp[hi]
      have hn1:n=1:=by omega
      subst hn1
      have hi':=e3 i _ hx
      have hc:=(f6 i _ hx 0 (.int .u8 (ns.getD i 0)) (by rw[hi'];rfl)).1
      have hr:=f7 i _ hx 0 (.int .u8 (ns.getD i 0)) (by rw[hi'];rfl)
      generalize us i 0=u at hc hr
      cases hr
      rw[sO (hw _ _ f3)]
      simpa using hc
   .cases hv
  .cases hv
 .cases hv
def Hh(h:Rel st a w g)(hv:Oy P st src dst x=some d): ∃v,Rd g w v d/\ ∀w',Up w w'->(convert src dst (a.eval x)).run P w'=.ok v w':=by
 unfold Oy at hv
 split at hv
 .rename_i u h1
  simp only[g_9]at h1
  obtain⟨d1,f1,f2⟩:=h1
  rw[cg h f1 f2]
  obtain⟨v,e1,e2⟩:=BQ (g:=g) (w:=w) hv
  grind
 .exact E4 h hv
def Cx(h:Rel st a w g)(hv:zS P st T x i=some d):
  ∃v,Rd g w v d/\ ∀w',(Instr.index T (a.eval x) (a.eval i)).run P w'=.ok v w':=by
 unfold zS at hv
 split at hv
 .rename_i l k j h1 h2
  have e1:=cg h h1 rfl
  have e2:=jF h h2
  split at hv
  .rename_i hc
   obtain⟨hu,h0⟩:=hc
   have hu:=tS hu
   simp only[g_4]at hv
   obtain⟨b,hb,rfl⟩:=hv
   have hlt:=aU hb
   refine⟨_,.int,λw'=>?_⟩
   rw[e1,e2,run_index_string w' T _ k j hu,dif_pos ⟨h0,by rw[qZ];omega⟩]
   congr 3
   have:(mk l)[j.toNat]'(by rw[qZ];omega)=b:=by
    have:l[j.toNat]'hlt=b:=by grind
    rw[<-this];rfl
   rw[this]
  .cases hv
 .rename_i cs k j h1 h2
  have r1:=cw h h1
  have e2:=jF h h2
  split at hv
  .rename_i n e hu
   split at hv
   .rename_i hc
    obtain⟨hz,h0,hn⟩:=hc
    rw[e2]
    generalize a.eval x=v at r1
    cases r1 with
    |agg hl us hc hr=>
     obtain⟨u,hu1,hu2⟩:=yN hv (Rd.agg hl us hc hr)
     exact⟨u,hu1,λw'=>by simp[Instr.index,asIntOf,run_underlying hu,h0,hn,gh hz,hu2]⟩
   .cases hv
  .cases hv
 .cases hv
def Cz(h:Rel st a w g)(hv:EU P st T x f=some d):
  ∃v,Rd g w v d/\ ∀w',(Instr.field T (a.eval x) f).run P w'=.ok v w':=by
 unfold EU at hv
 split at hv
 .rename_i cs fs h1 hu
  split at hv
  .rename_i fl hfl
   have r1:=cw h h1
   generalize a.eval x=v at r1
   cases r1 with
   |agg hl us hc hr=>
    obtain⟨u,hu1,hu2⟩:=yN hv (Rd.agg hl us hc hr)
    exact⟨u,hu1,λw'=>by simp[Instr.field,run_underlying hu,hfl,asAgg,hu2]⟩
  .cases hv
 .cases hv
def DL(h:Rel st a w g)(hv:Hs st dflt x=some n):
  (x=none/\n=dflt)\/ ∃o k j,x=some o/\a.eval o=.int k j/\0<=j/\n=j.toNat:=by
 unfold Hs at hv
 split at hv
 .cases hv;exact .inl ⟨rfl,rfl⟩
 .rename_i o
  split at hv
  .rename_i k j hi
   split at hv
   .rename_i h0
    cases hv
    exact .inr ⟨o,k,j,rfl,jF h hi,h0,rfl⟩
   .cases hv
  .cases hv
def mT(h:Rel st a w g)(h1:Hs st 0 lo=some i)(h2:Hs st len hi=some j)(hij:i<=j)(hj:j<=len)(hc:len<=cap)(w':World):
  (Instr.sliceBounds sl len cap (lo.map a.eval) (hi.map a.eval) none).run P w'=.ok (i,j,cap) w':=by
 rcases DL h h1 with⟨rfl,rfl⟩|⟨o1,k1,j1,rfl,e1,f1,rfl⟩<;>rcases DL h h2 with⟨rfl,rfl⟩|⟨o2,k2,j2,rfl,e2,f2,rfl⟩
 .simp[Instr.sliceBounds]
 .have:j2<=(cap:Int):=by omega
  simp[Instr.sliceBounds,e2,run_sliceBound w' k2 j2 cap _ f2 this]
 .have:j1<=(j:Int):=by omega
  simp[Instr.sliceBounds,e1,run_sliceBound w' k1 j1 j _ f1 this]
 .have:j2<=(cap:Int):=by omega
  have:j1<=(j2.toNat:Int):=by omega
  simp[Instr.sliceBounds,e1,e2,run_sliceBound w' k2 j2 cap _ f2 ω,run_sliceBound w' k1 j1 j2.toNat _ f1 this]
def pw(h:P.underlying T=some (.slice e)):P.elem T=e:=by simp[Program.elem,h]
def Ct(h:Rel st a w g)(hv:zM P st T x lo hi mx=some s):
  ∃v,pf g w v s/\ ∀w',(Instr.sliceAt T (a.eval x) (lo.map a.eval) (hi.map a.eval) (mx.map a.eval)).run P w'=.ok v w':=by
 unfold zM at hv
 split at hv
 .rename_i hmx
  split at hv
  .rename_i hc
   cases hv
   simp only[g_3,bne_iff_ne,m_2]at hc
   obtain⟨⟨⟨⟨rfl,hhi⟩,hm⟩,hz⟩,hls⟩:=hc
   obtain⟨⟨l,n,xs⟩,hl⟩:=k_1.1 hls
   have zero: ∀x,isZero st x=true-> ∃o k,x=some o/\a.eval o=.int k 0:=λx hx=>by
    unfold isZero at hx
    split at hx
    .rename_i o
     split at hx
     .rename_i k j hj
      have:j=0:=by simpa using hx
      subst this
      exact⟨o,k,rfl,jF h hj⟩
     .cases hx
    .cases hx
   obtain⟨o1,k1,rfl,e1⟩:=zero _ hhi
   obtain⟨o2,k2,rfl,e2⟩:=zero _ hm
   obtain⟨e,hu,he⟩:=oX hz
   have hue:P.underlying T=some (.slice (P.elem T)):=by rw[pw hu];exact hu
   have hsz: ∀w',(sizeOf (P.elem T)).run P w'=.ok (P.cellsOf e) w':=λw'=>by rw[pw hu];exact gh (by rw[<-he];exact hz) w'
   have hsl: ∃a0 len cap,a.eval x=.slice a0 len cap:=by
    rcases gD h hl with⟨-,a0,cap,e⟩|⟨k,off,cap,c,T0,fz,us,e,-⟩
    .exact⟨_,_,_,e⟩
    .exact⟨_,_,_,e⟩
   obtain⟨a0,len,cap,ex⟩:=hsl
   refine⟨sliced a0 0 0 0 (P.cellsOf e),Rd.cG,λw'=>?_⟩
   rw[run_sliceAt_slice w' T _ _ _ _ hue,ex,m_4,m_4,e1,e2,Option.map_none,run_slice_hm w' T a0 len cap hue k1 k2 0 0 ω ω ω]
   simp[hsz]
  .cases hv
 .rename_i hmx
  have hmx:mx=none:=by cases mx<;>simp at hmx ⊢
  subst hmx
  split at hv
  .rename_i l h1
   have e1:=cg h h1 rfl
   split at hv
   .rename_i i j b1 b2
    split at hv
    .rename_i hc
     obtain⟨hu,hij,hj⟩:=hc
     cases hv
     have hu:=tS hu
     refine⟨.string (mk ((l.take j).drop i)),Rd.str,λw'=>?_⟩
     rw[run_sliceAt_string w' T _ _ _ _ hu,e1]
     have hb:=mT (P:=P) h (sl:=false) (cap:=l.length) b1 b2 hij hj (h_0 _) w'
     have:(mk l).extract i j=mk ((l.take j).drop i):=by
      apply ByteArray.ext
      simp[mk,ByteArray.data_extract,List.drop_take]
     simp[Instr.slice,run_underlying hu,qZ,hb,this]
    .cases hv
   .cases hv
  .split at hv
   .rename_i l n xs hl
    split at hv
    .rename_i i j b1 b2
     split at hv
     .rename_i hc
      obtain⟨hz,hn,hij,hj⟩:=hc
      cases hv
      obtain⟨e,hu,he⟩:=oX hz
      have hue:P.underlying T=some (.slice (P.elem T)):=by rw[pw hu];exact hu
      have hsz: ∀w',(sizeOf (P.elem T)).run P w'=.ok (P.cellsOf e) w':=λw'=>by rw[pw hu];exact gh (by rw[<-he];exact hz) w'
      rcases gD h hl with⟨rfl,a0,cap,e1⟩|⟨k,off,cap,c,T0,fz,us,e1,e2,e3,e4,e5,e6,e7⟩
      .have hj0:j=0:=by simpa using hj
       subst hj0
       have hi0:i=0:=by omega
       subst hi0
       have hb:=mT (P:=P) h (sl:=true) (len:=0) (cap:=cap) b1 b2 (h_0 _) (h_0 _) (q_9 _)
       refine⟨sliced a0 0 0 cap (P.cellsOf e),yQ (.inl ⟨ψ,_,_,rfl⟩),λw'=>?_⟩
       rw[run_sliceAt_slice w' T _ _ _ _ hue,e1,run_slice_any w' T a0 0 cap hue]
       simp[hb,hsz]
      .have hb:=mT (P:=P) h (sl:=true) (len:=xs.length) (cap:=cap) b1 b2 hij hj e4
       refine⟨sliced (some ⟨k,off,none⟩) i j cap (P.cellsOf e),yQ ?_,λw'=>?_⟩
       .by_cases hji:j=i
        .subst hji
         refine .inl ⟨ψ,(if cap=j then some ⟨k,off,none⟩else(some (⟨k,off,none⟩:Addr)).map (·.add (j * P.cellsOf e))),cap - j,?_⟩
         unfold sliced
         rw[Nat.sub_self]
        .have hn':n=P.cellsOf e:=by
          grind
         subst hn'
         have hci:cap≠i:=by omega
         refine .inr ⟨k,off+i * P.cellsOf e,cap - i,c,T0,fz,λm=>us (i+m),?_,e2,e3,?_,λm y hy=>?_,λm y hy p z hz=>?_,λm y hy p z hz=>?_⟩
         .simp[sliced,hci,Addr.add_lit,p_7 hj]
         .simp[p_7 hj];omega
         all_goals
          grind
       .rw[run_sliceAt_slice w' T _ _ _ _ hue,e1,run_slice_any w' T _ _ cap hue]
        simp[hb,hsz]
     .cases hv
    .cases hv
   .cases hv
def GA(h:Rel st a w g)(hv:N2 P st T x=some d):
  ∃v,Rd g w v d/\ ∀w',(Builtin.len_ #[T] ty #[a.eval x]).run P w'=.ok v w':=by
 unfold N2 at hv
 split at hv
 .rename_i l h1
  split at hv
  .rename_i hu
   cases hv
   exact⟨_,.int,λw'=>by rw[cg h h1 rfl,run_len_string w' T ty _ (tS hu)];rfl⟩
  .cases hv
 .split at hv
  .rename_i l n xs hl
   split at hv
   .rename_i e hu
    cases hv
    refine⟨_,.int,λw'=>?_⟩
    rcases gD h hl with⟨rfl,a0,cap,e1⟩|⟨k,off,cap,c,T0,fz,us,e1,-⟩<;>rw[e1]<;>simp[Builtin.len_,run_underlying hu,goInt]
   .cases hv
  .cases hv
def zE(h:Rel st a w g)(hv:xX st x j=some d): ∃v,Rd g w v d/\ ∀w',(Instr.extract (a.eval x) j).run P w'=.ok v w':=by
 unfold xX at hv
 split at hv
 .split at hv
  .rename_i vs hs
   split at hv
   .rename_i d' hd
    cases hv
    obtain⟨us,e1,e2,e3⟩:=h.rs hs
    obtain⟨u,f1,f2⟩:=e3 j _ hd
    exact⟨u,f2,λw'=>by rw[e1];simp[Instr.extract,f1]⟩
   .cases hv
  .cases hv
 .cases hv
def vp(h:Rel st a w g): ∀{xs:List Operand} {ds:List D},G9 st xs=some ds->xs.length=ds.length/\ ∀(j:Nat) (y:D),ds[j]? =some y-> ∃o,xs[j]? =some o/\Rd g w (a.eval o) y
 |[],ds,hv=>by simp[G9]at hv;subst hv;simp
 |x::xs,ds,hv=>by
  simp only[G9]at hv
  split at hv
  .rename_i d ds' h1 h2
   cases hv
   obtain⟨hl,hr⟩:=vp h h2
   refine⟨by simp[hl],λj y hj=>?_⟩
   cases j with
   |zero=>simp at hj;subst hj;exact⟨x,ψ,cw h h1⟩
   |succ j=>grind
  .cases hv
def Bc(h:Rel st a w g){fn:Fn}{first caps:Array Operand}{fs cs:List D}(h1:G9 st first.toList=some fs)(h2:G9 st caps.toList=some cs):
  Rd g w (.func fn (first.map a.eval) (caps.map a.eval)) (.fn fn fs cs):=by
 obtain⟨l1,r1⟩:=vp h h1
 obtain⟨l2,r2⟩:=vp h h2
 refine .fn (by simpa using l1) (by simpa using l2) (λj=>((first[j]?).map a.eval).getD undef) (λj=>((caps[j]?).map a.eval).getD undef) (λj y hj=>?_) (λj y hj=>?_) (λj y hj=>?_) (λj y hj=>?_)
 .grind
 .grind
 .grind
 grind
end
section
variable {P:Program} {st:St} {a:Act} {w:World} {g:Gh}
def ma(g:Gh)(w:World)(vs:Array Value)(cs:List D):Prop:=vs.size=cs.length/\ ∀(j:Nat) (y:D),cs[j]? =some y-> ∃u,vs[j]? =some u/\Rd g w u y/\u.oneCell'=true
def Rd.cells(h:Rd g w v x):ma g w v.cells x.cells:=by
 have one: ∀(v:Value) (x:D),Rd g w v x->v.oneCell'=true->ma g w #[v] [x]:=λv x h h1=>⟨rfl,λj y hj=>by
  grind⟩
 cases h with
 |agg hl us hc hr=>exact⟨hl,λj y hj=>⟨us j,(hc j y hj).1,hr j y hj,(hc j y hj).2⟩⟩
 |bool=>exact one _ _ .bool rfl
 |int=>exact one _ _ .int rfl
 |str=>exact one _ _ .str rfl
 |cG=>exact one _ _ .cG rfl
 |mu=>exact one _ _ .mu rfl
 |list us hk hb hl hp hn hc hr=>exact one _ _ (.list us hk hb hl hp hn hc hr) rfl
 |nilIface=>exact one _ _ .nilIface rfl
 |iface h=>exact one _ _ (.iface h) rfl
 |fn hl1 hl2 us1 us2 hc1 hr1 hc2 hr2=>exact one _ _ (.fn hl1 hl2 us1 us2 hc1 hr1 hc2 hr2) rfl
 |lu=>exact one _ _ .lu rfl
 |fZ=>exact one _ _ .fZ rfl
 |ptr h=>exact one _ _ (.ptr h) rfl
 |fV us hk hb hc hr=>exact one _ _ (.fV us hk hb hc hr) rfl
 |kf=>exact one _ _ .kf rfl
 |map h=>exact one _ _ (.map h) rfl
 |raw h=>
  have e:v.cells= #[v]:=by cases v<;>simp_all[Value.oneCell',Value.cells]
  rw[e]
  exact one _ _ (.raw h) h
def ma.agg(h:ma g w vs cs):Rd g w (.agg vs) (.agg cs):=td h.1 h.2
def qS: ∀(l:List Value) (k off:Nat) (cells:Array Value) (i:Nat),
  ((l.zipIdx k).foldl (λcs p=>cs.setIfInBounds (off+p.2) p.1) cells).size=cells.size/\
  ((l.zipIdx k).foldl (λcs p=>cs.setIfInBounds (off+p.2) p.1) cells)[i]? =if off+k<=i/\i<off+k+l.length/\i<cells.size then l[i - (off+k)]? else cells[i]?
 |[],k,off,cells,i=>by simp;intro h1 h2;omega
 |v::l,k,off,cells,i=>by
  simp only[List.zipIdx_cons,List.foldl_cons]
  obtain⟨h1,h2⟩:=qS l (k+1) off (cells.setIfInBounds (off+k) v) i
  grind
def P9(h1:ma g w vs ys)(h2:ma g w cells cs)(hb:off+ys.length<=cs.length):
  ma g w (vs.zipIdx.foldl (λcs p=>cs.setIfInBounds (off+p.2) p.1) cells) (cs.take off++ys++cs.drop (off+ys.length)):=by
 have he:vs.zipIdx.foldl (λcs p=>cs.setIfInBounds (off+p.2) p.1) cells=(vs.toList.zipIdx 0).foldl (λcs p=>cs.setIfInBounds (off+p.2) p.1) cells:=by
  rw[<-Array.foldl_toList,Array.toList_zipIdx]
 rw[he]
 refine⟨?_,λj y hj=>?_⟩
 .rw[(qS _ 0 off cells 0).1,h2.1]
  simp;omega
 .rw[(qS _ 0 off cells j).2]
  have hvl:vs.toList.length=ys.length:=by simpa using h1.1
  have hcl:=h2.1
  rw[hvl]
  by_cases c1:j<off
  .rw[if_neg ω]
   refine h2.2 j y ?_
   grind
  .by_cases c2:j<off+ys.length
   .rw[if_pos ω]
    rw[h_6 χ,h_5 χ]at hj
    simp only[List.length_take]at hj
    rw[p_7 ω]at hj
    obtain⟨u,e1,e2⟩:=h1.2 _ y hj
    grind
   .rw[if_neg ω]
    refine h2.2 j y ?_
    rw[h_5 χ,List.getElem?_drop]at hj
    grind
def rb{place place':Nat->Option (Nat×Nat)}(hp: ∀i,place i=place' i): ∀(ps:List (Nat×D)) (qs:List (Nat×Value)) (cells:Array Value) (cs cs':List D),
  ma g w cells cs->ps.length=qs.length->(∀(j:Nat) (p:Nat×D),ps[j]? =some p-> ∃v,qs[j]? =some (p.1,v)/\Rd g w v p.2)->
  yU place cs ps=some cs'-> ∃cells',Instr.fill place' cells qs=some cells'/\ma g w cells' cs'
 |[],[],cells,cs,cs',h1,_,_,h=>by
  simp only[yU,g_2]at h
  subst h
  exact⟨cells,rfl,h1⟩
 |[],_::_,_,_,_,_,h,_,_=>by simp at h
 |_::_,[],_,_,_,_,h,_,_=>by simp at h
 |(i,x)::ps,q::qs,cells,cs,cs',h1,hl,hq,h=>by
  obtain⟨v,e1,e2⟩:=hq 0 (i,x) ψ
  simp only[j_3,g_2]at e1
  subst e1
  simp only[yU]at h
  split at h
  .cases h
  .rename_i off size hpl
   split at h
   .cases h
   .rename_i hc
    have hv:=e2.cells
    simp only at hv hc
    have hc1:x.cells.length=size:=by omega
    subst hc1
    have hsz: ¬(decide (v.cells.size≠x.cells.length)||decide (off+v.cells.size>cells.size))=true:=by rw[hv.1,h1.1];simp;omega
    obtain⟨cells',f1,f2⟩:=rb hp ps qs _ _ cs' (P9 (off:=off) hv h1 ω) (by simpa using hl) (λj p hj=>by simpa using hq (j+1) p (by simpa using hj)) h
    refine⟨cells',?_,f2⟩
    simp only[Instr.fill,<-hp i,hpl]
    rw[if_neg hsz]
    exact f1
def qX(h:Rel st a w g): ∀{xs:List (Nat×Operand)} {ds:List (Nat×D)},qY st xs=some ds->
  ds.length=xs.length/\ ∀(j:Nat) (p:Nat×D),ds[j]? =some p-> ∃o,xs[j]? =some (p.1,o)/\Rd g w (a.eval o) p.2
 |[],ds,hv=>by simp[qY]at hv;subst hv;simp
 |(i,x)::xs,ds,hv=>by
  simp only[qY]at hv
  split at hv
  .rename_i d ds' h1 h2
   cases hv
   obtain⟨hl,hr⟩:=qX h h2
   refine⟨by simp[hl],λj p hj=>?_⟩
   cases j with
   |zero=>simp at hj;subst hj;exact⟨x,ψ,cw h h1⟩
   |succ j=>grind
  .cases hv
def uy{α β:Type}(f:α->Sem β)(r:α->β)(w':World): ∀(l:List α),(∀x∈l,(f x).run P w'=.ok (r x) w')->(l.mapM f).run P w'=.ok (l.map r) w'
 |[],_=>by simp
 |x::l,h=>by
  simp only[List.mapM_cons,Sem.run_bind,h x ψ,Result.andThen_ok,uy f r w' l (λy hy=>h y (by simp[hy])),Sem.run_pure,h_3]
def pj(hv:yB P T=some z): ∃v,Rd g w v z/\ ∀w',(zeroValue T).run P w'=.ok v w':=by
 simp only[yB,g_9]at hv
 obtain⟨v,⟨i,h1,h2⟩,h3⟩:=hv
 exact⟨v,oB h3,λw'=>by simp[zeroValue,typeInfo,h1,h2]⟩
def E5(h:Rel st a w g){T:TypeId}{parts:Array (Nat×Operand)}{d:D}(hv:Jv P st T parts.toList=some d):
  ∃v,Rd g w v d/\ ∀w',(Instr.build T (parts.map λ(i,x)=>(i,a.eval x))).run P w'=.ok v w':=by
 unfold Jv at hv
 split at hv
 .rename_i pl z ds h1 h2 h3
  simp only[g_4]at hv
  obtain⟨cs,h4,rfl⟩:=hv
  obtain⟨zv,z1,z2⟩:=pj (g:=g) (w:=w) h2
  obtain⟨hl,hr⟩:=qX h h3
  have hq: ∀(j:Nat) (p:Nat×D),ds[j]? =some p-> ∃v,(parts.map λ(i,x)=>(i,a.eval x)).toList[j]? =some (p.1,v)/\Rd g w v p.2:=λj p hj=>by
   grind
  unfold placesOf at h1
  split at h1
  .rename_i fs hu
   split at h1
   .rename_i hall
    cases h1
    obtain⟨cells',f1,f2⟩:=rb (g:=g) (w:=w) (place':=λi=>(fs.map λf=>(f.offset,P.cellsOf f.type))[i]?) (λi=>by rw[Array.getElem?_map]) ds _ _ _ cs z1.cells (by simpa using hl) hq h4
    refine⟨.agg cells',f2.agg,λw'=>?_⟩
    have hm:(fs.mapM λf=>(do pure (f.offset,<-sizeOf f.type):Sem (Nat×Nat))).run P w'=.ok (fs.map λf=>(f.offset,P.cellsOf f.type)) w':=by
     rw[Array.mapM_eq_mapM_toList]
     simp only[Sem.run_map]
     rw[uy _ (λf=>(f.offset,P.cellsOf f.type)) w' fs.toList (λf hf=>by
      have hi:(P.info? f.type).isSome=true:=by
       rw[Array.all_eq_true']at hall
       exact hall f (by simpa using hf)
      obtain⟨i,hi⟩:=k_1.1 hi
      simp[sizeOf,typeInfo,hi,Program.cellsOf])]
     simp only[Result.andThen_ok]
     congr 1
     exact v_5 ψ
    simp only[Instr.build,Sem.run_bind,z2,Result.andThen_ok,run_underlying hu,hm,f1,Sem.run_pure]
   .cases h1
  .rename_i n e hu
   split at h1
   .rename_i hi
    cases h1
    obtain⟨i,hi⟩:=k_1.1 hi
    obtain⟨cells',f1,f2⟩:=rb (g:=g) (w:=w) (place':=λi=>some (i * P.cellsOf e,P.cellsOf e)) (λi=>rfl) ds _ _ _ cs z1.cells (by simpa using hl) hq h4
    refine⟨.agg cells',f2.agg,λw'=>?_⟩
    have hsz:(sizeOf e).run P w'=.ok (P.cellsOf e) w':=by simp[sizeOf,typeInfo,hi,Program.cellsOf]
    simp only[Instr.build,Sem.run_bind,z2,Result.andThen_ok,run_underlying hu,hsz,f1,Sem.run_pure]
   .cases h1
  .cases h1
 .cases hv
def rC(s:Sem Value)(w':World)(h:s.run P w'=.ok v w'):(do pure (.value (<-s)):Sem Next).run P w'=.ok (.value v) w':=by
 simp[h]
def DK(h:Rel st a w g)(hv:CD P st o=some s): ∃v,BV g w st a v s/\ ∀w',Up w w'->(execOp a.eval o).run P w'=.ok (.value v) w':=by
 obtain⟨dst,op,type,pos,after,guard⟩:=o
 unfold CD at hv
 cases op<;>simp only[reduceCtorEq]at hv
 case move x=>exact⟨_,qW h hv,λw' _=>rfl⟩
 case assign x=>exact⟨_,qW h hv,λw' _=>rfl⟩
 case pick c x y=>
  split at hv
  .rename_i b hb
   simp only[g_4]at hv
   obtain⟨d,h1,rfl⟩:=hv
   refine⟨_,dP (cw h h1:pf g w _ (.d d)),λw' _=>?_⟩
   simp only[execOp,cg h hb rfl,asBool]
   cases b<;>rfl
  .cases hv
 case build T parts=>
  simp only[g_4]at hv
  obtain⟨d,h1,rfl⟩:=hv
  obtain⟨v,e1,e2⟩:=E5 h h1
  exact⟨v,dP (s:=.d d) e1,λw' _=>rC _ w' (e2 w')⟩
 case load T x=>
  obtain⟨v,e1,e2⟩:=EF h hv
  exact⟨v,dP e1,λw' hw=>rC _ w' (e2 w' hw)⟩
 case nilCheck x=>
  split at hv
  .rename_i s' hs'
   split at hv
   .rename_i hc
    cases hv
    have hb:=qW h hs'
    refine⟨_,hb,λw' _=>?_⟩
    simp only[g_3,bne_iff_ne]at hc
    obtain⟨c1,c2⟩:=hc
    simp only[execOp]
    cases s with
    |d d=>
     have hb':Rd g w (a.eval x) d:=hb
     generalize a.eval x=v at hb'
     cases hb'<;>simp[vL]at c1<;>try rfl
     rename_i f _ _ _ _ _ _ _ _ _ _ _ _
     cases f<;>simp[Sv]at c2
     rfl
    |loc s off=>obtain⟨-,k,-,e⟩:=hb;rw[e];rfl
    |eW l cs=>obtain⟨k,off,c,T0,fz,us,e,-⟩:=hb;rw[e];rfl
    |box cs=>exact hb.elim
    |_=>simp[vL]at c1
   .cases hv
  .cases hv
 case binOp op T x y yT=>
  simp only[g_4]at hv
  obtain⟨d,h1,rfl⟩:=hv
  obtain⟨v,e1,e2⟩:=Jy h h1
  exact⟨v,dP (s:=.d d) e1,λw' _=>rC _ w' (e2 w')⟩
 case unOp op T x=>
  simp only[g_4]at hv
  obtain⟨d,h1,rfl⟩:=hv
  obtain⟨v,e1,e2⟩:=LB h h1
  exact⟨v,dP (s:=.d d) e1,λw' _=>rC _ w' (e2 w')⟩
 case convert src dst x=>
  simp only[g_4]at hv
  obtain⟨d,h1,rfl⟩:=hv
  obtain⟨v,e1,e2⟩:=Hh h h1
  exact⟨v,dP (s:=.d d) e1,λw' hw=>rC _ w' (e2 w' hw)⟩
 case makeInterface T x=>
  split at hv
  .cases hv
  .cases hv
  .rename_i t hne hu
   simp only[g_4]at hv
   obtain⟨d,h1,rfl⟩:=hv
   refine⟨.iface T (a.eval x),dP (s:=.d (.iface T d)) (.iface (cw h h1)),λw' _=>rC _ w' ?_⟩
   simp only[Instr.makeInterface,Sem.run_bind,run_underlying hu,Result.andThen_ok]
   rfl
 case makeFunc fn first caps=>
  split at hv
  .rename_i fs cs h1 h2
   cases hv
   exact⟨_,dP (s:=.d (.fn fn fs cs)) (Bc h h1 h2),λw' _=>rfl⟩
  .cases hv
 case slice T x lo hi mx=>
  obtain⟨v,e1,e2⟩:=Ct h hv
  exact⟨v,dP e1,λw' _=>rC _ w' (e2 w')⟩
 case fieldAddr S x f=>
  obtain⟨v,e1,e2⟩:=wK h hv
  exact⟨v,e1,λw' _=>rC _ w' (e2 w')⟩
 case field T x f=>
  simp only[g_4]at hv
  obtain⟨d,h1,rfl⟩:=hv
  obtain⟨v,e1,e2⟩:=Cz h h1
  exact⟨v,dP (s:=.d d) e1,λw' _=>rC _ w' (e2 w')⟩
 case indexAddr T x i=>
  obtain⟨v,e1,e2⟩:=wA h hv
  exact⟨v,e1,λw' _=>rC _ w' (e2 w')⟩
 case index T x i=>
  simp only[g_4]at hv
  obtain⟨d,h1,rfl⟩:=hv
  obtain⟨v,e1,e2⟩:=Cx h h1
  exact⟨v,dP (s:=.d d) e1,λw' _=>rC _ w' (e2 w')⟩
 case extract x j=>
  simp only[g_4]at hv
  obtain⟨d,h1,rfl⟩:=hv
  obtain⟨v,e1,e2⟩:=zE h h1
  exact⟨v,dP (s:=.d d) e1,λw' _=>rC _ w' (e2 w')⟩
 case call c=>
  split at hv
  .rename_i x T hc hargs hts
   simp only[g_4]at hv
   obtain⟨d,h1,rfl⟩:=hv
   obtain⟨v,e1,e2⟩:=GA (ty:=type) h h1
   refine⟨v,dP (s:=.d d) e1,λw' _=>?_⟩
   obtain⟨callee,args,argTypes⟩:=c
   have ha:args= #[x]:=by apply v_5;simpa using hargs
   have ht:argTypes= #[T]:=by apply v_5;simpa using hts
   subst ha ht
   simp only at hc
   subst hc
   simp only[execOp,resolve,p_2,h_3,q_7,Sem.run_bind,Sem.run_pure,Result.andThen_ok,invoke,builtin]
   simp[e2 w']
  .cases hv
end
def yn(g:Gh)(w:World)(v:Value):SV->Prop
 |.iQ vs=> ∃us:Array Value,v=.tuple us/\us.size=vs.length/\ ∀(j:Nat) (s:SV),vs[j]? =some s-> ∃u,us[j]? =some u/\RC g w (.comp 0 j) u s
 |s=>RC g w (.slot 0) v s
def jM(g:Gh)(w:World)(vs:Array Value)(args:List SV):Prop:=
 vs.size=args.length/\ ∀(j:Nat) (s:SV),args[j]? =some s-> ∃u,vs[j]? =some u/\RC g w (.slot j) u s
def SC(P:Program)(pu:Bool)(f:FuncId)(args:List SV)(H:List aN)(r:SV)(H':List aN):Prop:=
 ∀(w:World) (g:Gh) (vs:Array Value),jM g w vs args->RH g w H->
  Calls P f vs w λe w'=> ∃v g',e=.returned v/\yn g' w' v r/\RH g' w' H'/\Fr pu g w g' w'
def PC(P:Program)(f:FuncId)(args:List SV)(r:SV):Prop:= ∀H,SC P true f args H r H
section
variable (P:Program)
def fG(ops:Array Oper)(st:St)(o:Oper):Option Bool:=
 match o.guard with
 |none=>some true
 |some (j,want)=>match((ops[j]?).bind (·.dst)).bind (st.tmps[·]?)with
  |some (.d (.bool b))=>some (b==want)
  |some (.iQ _)=>some false
  |_=>none
def OW(pu:Bool)(ops:Array Oper)(l:List Oper)(st:St)(Q:St->Prop):Prop:=
 ∀a w g,Rel st a w g-> ∀Qc:Exit->Act->World->Prop,(∀st' a' w' g',Q st'->Rel st' a' w' g'->Fr pu g w g' w'->Qc .normal a' w')->wpList P ops Qc l a w
def SW(pu:Bool)(c:Code)(st:St)(Q:Exit->St->Prop):Prop:=
 ∀a w g,Rel st a w g->c.wp P (λe a' w'=> ∃st' g',Q e st'/\Rel st' a' w' g'/\Fr pu g w g' w') a w
end
section
variable {P:Program} {pu:Bool} {ops:Array Oper} {rest:List Oper} {st:St} {Q:St->Prop}
def OW.nil(h:Q st):OW P pu ops [] st Q:=λ_ _ g hr _ hq=>hq st _ _ g h hr (Fr.refl _ _ _)
def bt(h:Rel st a w g)(hv:fG ops st o=some b):Region.wanted o (yielded ops a.tmps)=b:=by
 unfold fG at hv
 unfold Region.wanted
 split at hv
 .grind
 .rename_i j want hg
  rw[hg]
  simp only
  have key: ∀s,((ops[j]?).bind (·.dst)).bind (st.tmps[·]?)=some s-> ∃t,(ops[j]?).bind (·.dst)=some t/\st.tmps[t]? =some s/\a.tmps[t]? =some (valOf a t):=λs hs=>by
   simp only[g_9]at hs
   obtain⟨t,h1,h2⟩:=hs
   have hlt:t<a.tmps.size:=by rw[h.len];exact aU h2
   exact⟨t,φ,h2,by simp[valOf,k_7,hlt]⟩
  split at hv
  .rename_i b' hs
   cases hv
   obtain⟨t,h1,h2,h3⟩:=key _ hs
   have hr:Rd g w (valOf a t) (.bool b'):=h.tmp t _ h2
   unfold yielded
   rw[h1,j_5,h3]
   generalize valOf a t=v at hr
   cases hr
   cases b'<;>cases want<;>rfl
  .rename_i vs hs
   cases hv
   obtain⟨t,h1,h2,h3⟩:=key _ hs
   obtain⟨us,e,-⟩:=h.tmp t _ h2
   unfold yielded
   grind
  .cases hv
def OW.skip(hw:fG ops st o=some false)(h:OW P pu ops rest (st.put o.dst (.iQ [])) Q):OW P pu ops (o::rest) st Q:=by
 intro a w g hr Qc hq
 unfold wpList
 rw[bt hr hw,if_neg ψ]
 exact h _ w g (hr.cu o.dst (v:=undef) ⟨#[],rfl,rfl,ψ⟩) Qc hq
def kx(dst:Option Tmp):SV->Bool
 |.loc s _=>dst !=some s
 |.PR s=>dst !=some s
 |.ep s _ _=>dst !=some s
 |_=>true
def eY(h:st.tmps[s1]? =some x)(hb:gl x≠0)(hd:d≠some s1):(st.put d s0).tmps[s1]? =some x:=by
 cases d with
 |none=>exact h
 |some t0=>
  have hne0:t0≠s1:=λe=>hd (by rw[e])
  simp only[St.put]
  split
  .split
   .simp[St.set,St.kill,g_1 hne0,h,eQ hb]
   .simp[St.set,g_1 hne0,h]
  .exact h
def Rel.wa(h:Rel st a w g)(hb:BV g w st a v s)(hl:kx d s=true):Rel (st.put d s) (a.put d v) w g:=by
 cases s with
 |loc s off=>
  refine h.put d λt ht hlt=>?_
  subst ht
  obtain⟨⟨cs,hcs⟩,k,h1,h2⟩:=hb
  have hne:t≠s:=by simpa[kx]using hl
  exact⟨⟨cs,eY hcs (by simp[gl]) (by simpa using hne)⟩,k,by rw[cr (by simpa using hne)];exact h1,h2⟩
 |PR s=>
  refine h.put d λt ht hlt=>?_
  subst ht
  obtain⟨⟨x,h1,h2⟩,h3⟩:=hb
  have hne:t≠s:=by simpa[kx]using hl
  exact⟨⟨x,eY h1 ω (by simpa using hne),h2⟩,by rw[cr (by simpa using hne)];exact h3⟩
 |ep s n j=>
  refine h.put d λt ht hlt=>?_
  subst ht
  obtain⟨⟨x,h1,h2⟩,h3⟩:=hb
  have hne:t≠s:=by simpa[kx]using hl
  exact⟨⟨x,eY h1 ω (by simpa using hne),h2⟩,by rw[cr (by simpa using hne)];exact h3⟩
 |d x=>exact h.cu d hb
 |own n xs=>exact h.cu d hb
 |cq l n xs=>exact h.cu d hb
 |eW l cs=>exact h.cu d hb
 |box cs=>exact hb.elim
 |iQ vs=>exact h.cu d hb
 |undef=>exact h.cu d hb
 |mf v0 n xs=>exact hb.elim
def jO(P:Program)(pu:Bool)(st:St)(o:Oper)(st':St):Prop:=
 ∀a w g,Rel st a w g-> ∃a' w' g' r,(execOp a.eval o).run P w=r/\(∀next Q,o.upon P a next Q r=next a' w')/\Rel st' a' w' g'/\Fr pu g w g' w'
def OW.op(hw:fG ops st o=some true)(ho:jO P pu st o st')(h:OW P pu ops rest st' Q):OW P pu ops (o::rest) st Q:=by
 intro a w g hr Qc hq
 unfold wpList
 rw[bt hr hw,if_pos rfl]
 refine .inl ?_
 obtain⟨a',w',g',r,e1,e2,e3,e4⟩:=ho a w g hr
 unfold Oper.wp
 rw[e1,e2]
 exact h a' w' g' e3 Qc λiY a2 w2 g2 q2 r2 f2=>hq iY a2 w2 g2 q2 r2 (e4.trans f2)
def OW.mono{Q':St->Prop}(h:OW P pu ops l st Q)(hq: ∀s,Q s->Q' s):OW P pu ops l st Q':=
 λa w g hr Qc hc=>h a w g hr Qc λst' a' w' g' q r f=>hc st' a' w' g' (hq _ q) r f
end
section
variable {P:Program} {pu:Bool} {st:St} {Q:Exit->St->Prop}
def wU{Q':Exit->St->Prop}(h:SW P pu c st Q)(hq: ∀e s,Q e s->Q' e s):SW P pu c st Q':=
 λa w g hr=>Code.wp_mono (λ_ _ _ ⟨st',g',q,r⟩=>⟨st',g',hq _ _ q,r⟩) (h a w g hr)
def ao(h:Q .normal st):SW P pu .skip st Q:=λ_ _ g hr=>wp_skip ⟨st,g,h,hr,Fr.refl _ _ _⟩
def bT{id:Nat}(h:Q (.exit id) st):SW P pu (.exit id) st Q:=λ_ _ g hr=>wp_exit ⟨st,g,h,hr,Fr.refl _ _ _⟩
def al(h:Q .ret st):SW P pu .ret st Q:=λ_ _ g hr=>wp_ret ⟨st,g,h,hr,Fr.refl _ _ _⟩
def thenS(n:St->Prop)(Q:Exit->St->Prop):Exit->St->Prop
 |.normal,s=>n s
 |e,s=>Q e s
def an(h:SW P pu x st (thenS (λs=>SW P pu y s Q) Q)):SW P pu (.seq x y) st Q:=by
 intro a w g hr
 refine wp_seq (Code.wp_mono (λe a' w' hh=>?_) (h a w g hr))
 obtain⟨st',g',q,r,f⟩:=hh
 cases e with
 |normal=>
  refine Code.wp_mono (λe2 a2 w2 hh2=>?_) (q a' w' g' r)
  obtain⟨iY,g2,q2,r2,f2⟩:=hh2
  exact⟨iY,g2,q2,r2,f.trans f2⟩
 |_=>exact⟨st',g',q,r,f⟩
def HI(hc:cx st c=some (.bool b))(h:SW P pu (if b then x else y) st Q):SW P pu (.cond c x y) st Q:=
 λa w g hr=>wp_cond (cg hr hc rfl) (h a w g hr)
def eS(hc:cx st c=some (.bool true))(h:SW P pu x st Q):SW P pu (.cond c x y) st Q:=HI hc h
def yh(hc:cx st c=some (.bool false))(h:SW P pu y st Q):SW P pu (.cond c x y) st Q:=HI hc h
def DR(hc:cx st c=some (.bool b))(hT:b=true->SW P pu x st Q)(hF:b=false->SW P pu y st Q):SW P pu (.cond c x y) st Q:=by
 cases b
 .exact yh hc (hF rfl)
 .exact eS hc (hT rfl)
def o0(id:Nat)(Q:Exit->St->Prop):Exit->St->Prop
 |.exit id',s=>if id'=id then Q .normal s else Q (.exit id') s
 |e,s=>Q e s
def aM{id:Nat}{c:Code}(h:SW P pu c st (o0 id Q)):SW P pu (.block id c) st Q:=by
 intro a w g hr
 refine wp_block (Code.wp_mono (λe a' w' hh=>?_) (h a w g hr))
 obtain⟨st',g',q,r,f⟩:=hh
 cases e with
 |exit id'=>
  simp only[o0]at q
  simp only[Exit.inBlock]
  grind
 |_=>exact⟨st',g',q,r,f⟩
end
def RC.rs(h:RC g w (.slot t) v s)(tm:List SV)(val:Nat->Value):RS g w tm val t v s:=by
 cases s<;>simp only[RC]at h<;>first|exact h|exact h.elim
def k8(n:Nat)(args:List SV)(H:List aN):St:=⟨args++List.replicate (n - args.length) (.iQ []),H⟩
def oD(h:jM g w vs args)(hH:RH g w H)(n:Nat):
  Rel (k8 n args H) {tmps:=vs++Array.replicate (n - vs.size) undef,defers:=[]} w g:=by
 obtain⟨hl,hr⟩:=h
 refine⟨by simp[k8,hl],rfl,λt s hs=>?_,hH⟩
 simp only[k8]at hs
 by_cases ht:t<args.length
 .rw[h_6 ht]at hs
  obtain⟨u,e1,e2⟩:=hr t s hs
  have:valOf {tmps:=vs++Array.replicate (n - vs.size) undef,defers:=[]} t=u:=by
   simp[valOf,k_7,v_6 (by omega:t<vs.size),e1]
  rw[this]
  exact e2.rs _ _
 .rw[h_5 ω,List.getElem?_replicate]at hs
  split at hs
  .rename_i hlt
   cases hs
   refine⟨#[],?_,rfl,ψ⟩
   simp[valOf,k_7,q_0 (by omega:vs.size<=t),Array.getElem?_replicate,hl,hlt]
   rfl
  .cases hs
def Nx(P:Program)(st:St):ResultVar->Option (SV×Option Nat)
 |.tmp t=>match st.tmps[t]? with
  |some (.d x)=>some (.d x,none)
  |some (.own n xs)=>some (.own n xs,some t)
  |some (.cq (.slot s) n xs)=>match st.tmps[s]? with
   |some (.own _ _)=>some (.d (.list n xs),none)
   |_=>none
  |_=>none
 |.cell a T=>match BM st a with
  |some cs=>match qo P T (.cell a 0) cs with
   |some (.d x)=>some (.d x,none)
   |_=>none
  |none=>none
def C9(P:Program)(st:St):List ResultVar->Option (List (SV×Option Nat))
 |[]=>some []
 |r::rs=>match Nx P st r,C9 P st rs with
  |some x,some xs=>some (x::xs)
  |_,_=>none
def Qe(xs:List (SV×Option Nat)):SV:=
 match xs with
 |[x]=>x.1
 |xs=>.iQ (xs.map (·.1))
def Gf(xs:List (SV×Option Nat))(t:Nat):Option Loc:=
 match xs with
 |[x]=>if x.2=some t then some (.slot 0)else none
 |xs=>(xs.findIdx? (·.2==some t)).map (.comp 0)
def Ki(xs:List (SV×Option Nat)):Bool:=
 (xs.zipIdx).all λp=>match p.1.2 with
  |some t=>match xs with
   |[_]=>true
   |_=>xs.findIdx? (·.2==some t)==some p.2
  |none=>true
def kd(xs:List (SV×Option Nat)):Own->Own
 |.bN (.slot t)=>match Gf xs t with|some l=>.bN l|none=>.free
 |.bN (.au i j)=>.bN (.au i j)
 |.bN _=>.free
 |.box _=>.bN .TS
 |o=>o
def Gh.br(g:Gh)(f:Own->Own):Gh:={g with ow:=λk=>f (g.ow k)}
def aO.br{f:Own->Own}(h:f o=o):aO o g w (g.br f) w:=λk b h1 h2=>⟨by simp[Gh.br,h1,h],h2⟩
section
variable {P:Program} {pu:Bool}
def cy.br{f:Own->Own}(h0:f .free=.free)(h1:f (.bN o)=.bN o')(h:cy g w o v n xs):cy (g.br f) w o' v n xs:=by
 rcases h with h|⟨k,off,cap,c,T,us,hv,hk,hb,hl,hz,hn,hc,hr⟩
 .exact .inl h
 .exact .inr ⟨k,off,cap,c,T,us,hv,by simp[Gh.br,hk,h1],hb,hl,hz,hn,hc,λi x hx j y hy=>(hr i x hx j y hy).bg (aO.br h0) (λ_ _ h=>h)⟩
def eZ.free{f:Own->Own}(h0:f .free=.free)(h1:f (.bN l)=.free)(h:eZ g w (some l) v n xs):Rd (g.br f) w v (.list n xs):=by
 refine eZ.Nm ?_
 rcases h with h|⟨k,off,cap,c,T,fz,us,hv,hk,hb,hp,hn,hc,hr⟩
 .exact .inl h
 .refine .inr ⟨k,off,cap,c,T,fz,us,hv,?_,hb,hp,hn,hc,λi x hx j y hy=>(hr i x hx j y hy).bg (aO.br h0) (λ_ _ h=>h)⟩
  refine lR.2 ?_
  simp only[Gh.br]
  cases ho:g.ow k<;>simp only[ho,IZ]at hk
  .exact h0
  .cases hk;exact h1
def kU(tm:Array Value):ResultVar->Sem Value
 |.tmp t=>pure (tm.getD t undef)
 |.cell x T=>do loadVar T (<-asAddr (tm.getD x undef))
def IT(fn:Func)(tm:Array Value):results fn tm=(do let vs <-fn.results.mapM (kU tm);pure (if h:vs.size=1 then vs[0]else .tuple vs)):=by
 unfold results
 congr 1
def AF(h:Rel st a w g)(hv:Nx P st rv=some (s,t)){f:Own->Own}(h0:f .free=.free)(l:Loc)
  (h1: ∀t',t=some t'->f (.bN (.slot t'))=.bN l) (h2: ∀s',rv=.tmp s'-> ∀t' n xs,st.tmps[s']? =some (.cq (.slot t') n xs)->f (.bN (.slot t'))=.free):
  ∃v,RC (g.br f) w l v s/\(kU a.tmps rv).run P w=.ok v w:=by
 cases rv with
 |tmp t0=>
  simp only[Nx]at hv
  split at hv
  .rename_i x hs
   cases hv
   exact⟨_,Rd.bg (aO.br h0) (λ_ _ h=>h) (h.tmp t0 _ hs:Rd g w _ x),rfl⟩
  .rename_i n xs hs
   cases hv
   exact⟨_,cy.br h0 (h1 _ rfl) (h.tmp t0 _ hs),rfl⟩
  .rename_i s0 n xs hs
   split at hv
   .cases hv
    exact⟨_,eZ.free h0 (h2 t0 rfl _ _ _ hs) (h.tmp t0 _ hs),rfl⟩
   .cases hv
  .cases hv
 |cell x T=>
  simp only[Nx]at hv
  split at hv
  .rename_i cs hb
   split at hv
   .rename_i d hl
    cases hv
    unfold BM at hb
    split at hb
    .rename_i cs' hs
     cases hb
     obtain⟨k,c,T0,e1,e2,e3,e4,e5⟩:=h.tmp x _ hs
     obtain⟨v,hL,hR⟩:=Jc (P:=P) (g:=g) (w0:=w) (T:=T) (k:=k) (off:=0) (c:=c) (T0:=T0) (fz:=(0,0)) (l:=λj=>.cell x j) (λj y hj=>by simpa using e5 j y hj) hl
     refine⟨v,(hL:Rd g w v d).bg (aO.br h0) (λ_ _ h=>h),?_⟩
     have e1':a.tmps.getD x undef=.pointer (some ⟨k,0,none⟩):=e1
     simp[kU,e1',asAddr,hR w e3]
    .cases hb
   .cases hv
  .cases hv
def xC: ∀{rs:List ResultVar} {xs:List (SV×Option Nat)},C9 P st rs=some xs->rs.length=xs.length/\ ∀(j:Nat) (x:SV×Option Nat),xs[j]? =some x-> ∃r,rs[j]? =some r/\Nx P st r=some x
 |[],xs,h=>by simp[C9]at h;subst h;simp
 |r::rs,xs,h=>by
  simp only[C9]at h
  split at h
  .rename_i x xs' h1 h2
   cases h
   obtain⟨hl,hr⟩:=xC h2
   grind
  .cases h
def EG(st:St)(rs:List ResultVar)(xs:List (SV×Option Nat)):Bool:=
 rs.all λr=>match r with
  |.tmp s=>match st.tmps[s]? with
   |some (.cq (.slot t) _ _)=>(Gf xs t).isNone
   |_=>true
  |_=>true
def KM(P:Program)(rs:List ResultVar)(st:St)(r:SV):Prop:=
 ∃xs,C9 P st rs=some xs/\Ki xs=true/\EG st rs xs=true/\Qe xs=r
def ln{fn:Func}{tm:Array Value}{w:World}{vs:List Value}(hl:vs.length=fn.results.size)
  (h: ∀(j:Nat) (rv:ResultVar),fn.results[j]? =some rv-> ∃v,vs[j]? =some v/\(kU tm rv).run P w=.ok v w):
  (results fn tm).run P w=.ok (if h:vs.toArray.size=1 then vs.toArray[0]else .tuple vs.toArray) w:=by
 have hm: ∀(l:List ResultVar) (vs:List Value),vs.length=l.length->(∀(j:Nat) (rv:ResultVar),l[j]? =some rv-> ∃v,vs[j]? =some v/\(kU tm rv).run P w=.ok v w)->
   (l.mapM (kU tm)).run P w=.ok vs w:=by
  intro l
  induction l with
  |nil=>simp_all
  |cons r l ih=>
   intro vs hl h
   cases vs with
   |nil=>simp at hl
   |cons v vs=>
    obtain⟨v',e1,e2⟩:=h 0 r ψ
    simp only[j_3,g_2]at e1
    subst e1
    simp only[List.mapM_cons,Sem.run_bind,e2,Result.andThen_ok,ih vs (by simpa using hl) (λj rv hj=>by simpa using h (j+1) rv (by simpa using hj)),Sem.run_pure]
 have:=hm fn.results.toList vs (by simpa using hl) (λj rv hj=>h j rv (by simpa using hj))
 rw[IT,Array.mapM_eq_mapM_toList]
 simp_all
def kV(n j:Nat):Loc:=if n=1 then .slot 0 else .comp 0 j
def Da(hok:Ki xs=true)(hj:xs[j]? =some (s,some t)):Gf xs t=some (kV xs.length j):=by
 match xs,hok,hj with
 |[x],_,hj=>
  cases j with
  |zero=>simp at hj;subst hj;simp[Gf,kV]
  |succ j=>simp at hj
 |x::y::r,hok,hj=>
  unfold Ki at hok
  rw[h_4]at hok
  have:=hok ((s,some t),j) (h_2.2 ⟨j,by rw[List.getElem?_zipIdx,hj];simp⟩)
  simp only[beq_iff_eq]at this
  simp[Gf,this,kV]
def y7{f:FuncId}{fn:Func}{c:Code}{args:List SV}{H:List aN}{r:SV}(C:List aN->Prop)(hf:P.funcs[f]? =some fn)(hb:fn.body=some c)
  (h:SW P pu c (k8 fn.ntmps args H) (λe st'=>(e=.normal\/e=.ret)/\KM P fn.results.toList st' r/\C st'.H)) (w:World) (g:Gh) (vs:Array Value) (ha:jM g w vs args) (hH:RH g w H):
  Calls P f vs w λe w'=> ∃v g' H',C H'/\e=.returned v/\yn g' w' v r/\RH g' w' H'/\Fr pu g w g' w':=by
 refine calls_of_wp hf hb (Code.wp_mono (λe a' w' hh=>?_) (h _ _ g (oD ha hH fn.ntmps)))
 obtain⟨st',g',⟨he,⟨xs,hx1,hx2,hx3,hx4⟩,hH'⟩,hr,hfr⟩:=hh
 obtain⟨hl,hg⟩:=xC hx1
 have one: ∀j,j<xs.length-> ∃v,(∀s t,xs[j]? =some (s,t)->RC (g'.br (kd xs)) w' (kV xs.length j) v s)/\ ∀rv,fn.results[j]? =some rv->(kU a'.tmps rv).run P w'=.ok v w':=λj hj=>by
  obtain⟨rv,e1,e2⟩:=hg j xs[j] (by simp[hj])
  obtain⟨v,f1,f2⟩:=AF (P:=P) hr (s:=xs[j].1) (t:=xs[j].2) e2 (f:=kd xs) rfl (kV xs.length j)
   (λt' ht'=>by
    have:=Da hx2 (j:=j) (s:=xs[j].1) (t:=t') φ
    simp only[kd,this])
   (λs' hs' t' n ys hlent=>by
    subst hs'
    unfold EG at hx3
    rw[h_4]at hx3
    have:=hx3 (.tmp s') (h_2.2 ⟨j,e1⟩)
    simp only[hlent,m_2]at this
    simp only[kd,this])
  refine⟨v,λs t cR=>?_,λrv' hrv'=>?_⟩
  .grind
  grind
 have all: ∃us:List Value,us.length=xs.length/\(∀(j:Nat) (s:SV) (t:Option Nat),xs[j]? =some (s,t)-> ∃u,us[j]? =some u/\RC (g'.br (kd xs)) w' (kV xs.length j) u s)/\
   ∀(j:Nat) (rv:ResultVar),fn.results[j]? =some rv-> ∃v,us[j]? =some v/\(kU a'.tmps rv).run P w'=.ok v w':=by
  have: ∃F:Nat->Value,∀j,j<xs.length->(∀s t,xs[j]? =some (s,t)->RC (g'.br (kd xs)) w' (kV xs.length j) (F j) s)/\ ∀rv,fn.results[j]? =some rv->(kU a'.tmps rv).run P w'=.ok (F j) w':=
   ⟨λj=>if hj:j<xs.length then Classical.choose (one j hj)else undef,λj hj=>by grind⟩
  obtain⟨F,hF⟩:=this
  refine⟨(List.range xs.length).map F,ψ,λj s t hj=>⟨F j,by simp[aU hj],(hF j (aU hj)).1 s t hj⟩,λj rv hj=>?_⟩
  grind
 obtain⟨us,u1,u2,u3⟩:=all
 have hrun:=ln (P:=P) (fn:=fn) (tm:=a'.tmps) (w:=w') (vs:=us) (by rw[u1,<-hl];simp) u3
 have hfr':Fr pu g w (g'.br (kd xs)) w':=hfr.trans ⟨h_0 _,aO.br rfl,aO.br rfl,λ_ _ h=>h,λ_ i=>aO.br rfl,λ_ i j=>aO.br rfl,λ_=>rfl,⟨rfl,rfl⟩⟩
 have hRH:RH (g'.br (kd xs)) w' st'.H:=by
  refine RH.bg (g:=g') (w:=w') (λo ho=>?_) (λ_ _ h=>h) rfl hr.hp
  refine aO.br ?_
  cases o<;>simp only[kn]at ho<;>try rfl
  rename_i l
  cases l<;>simp only[kn]at ho
  rfl
 have hres:yn (g'.br (kd xs)) w' (if h:us.toArray.size=1 then us.toArray[0]else .tuple us.toArray) r:=by
  rw[<-hx4]
  match xs,u1,u2 with
  |[x],u1,u2=>
   match us,u1 with
   |[u],_=>
    obtain⟨u',e1,e2⟩:=u2 0 x.1 x.2 ψ
    simp only[j_3,g_2]at e1
    subst e1
    simp only[List.size_toArray,j_4,v_3,q_4,dite_true,Qe]
    have e2:RC (g'.br (kd [x])) w' (.slot 0) u x.1:=e2
    have:yn (g'.br (kd [x])) w' u x.1:=by
     obtain⟨s,t⟩:=x
     cases s<;>first|exact e2|exact e2.elim
    simpa using this
  |[],u1,u2=>
   match us,u1 with
   |[],_=>exact⟨#[],ψ,rfl,ψ⟩
  |x::y::r',u1,u2=>
   have hne: ¬us.toArray.size=1:=by simp[u1]
   rw[dif_neg hne]
   refine⟨us.toArray,rfl,by simp[u1],λj s hj=>?_⟩
   simp only[h_1,g_4]at hj
   obtain⟨⟨s',t⟩,h1,h2⟩:=hj
   simp only at h2
   subst h2
   obtain⟨u,e1,e2⟩:=u2 j s' t h1
   rw[show kV (x::y::r').length j=.comp 0 j by simp[kV]]at e2
   grind
 have fin: ∃v g' H',C H'/\Ending.returned (if h:us.toArray.size=1 then us.toArray[0]else .tuple us.toArray)=.returned v/\yn g' w' v r/\RH g' w' H'/\Fr pu g w g' w':=⟨_,_,_,hH',rfl,hres,hRH,hfr'⟩
 rcases he with rfl|rfl
 .exact⟨hr.dS,_,hrun,fin⟩
 .exact⟨hr.dS,_,hrun,fin⟩
def yk(hf:P.funcs[f]? =some fn)(hb:fn.body=some c)
  (h:SW P pu c (k8 fn.ntmps args H) (λe st'=>(e=.normal\/e=.ret)/\KM P fn.results.toList st' r/\st'.H=H')):SC P pu f args H r H':=by
 intro w g vs ha hH
 refine(y7 (·=H') hf hb h w g vs ha hH).mono λe w' hh=>?_
 grind
end
def KG:D->Bool
 |.bool _|.int _ _|.str _|.cG|.nilIface|.lu|.fZ|.kf|.ptr _ _|.map _=>true
 |.iface _ x=>KG x
 |_=>false
def mP:SV->Bool
 |.d x=>KG x
 |.iQ vs=>vs.all λ|.d x=>KG x|_=>false
 |_=>false
def Rd.flat(hρ:eB g g')(h:Rd g w v x)(hf:KG x=true):Rd g' w' v x:=by
 induction h with
 |bool=>exact .bool
 |int=>exact .int
 |str=>exact .str
 |cG=>exact .cG
 |nilIface=>exact .nilIface
 |iface _ ih=>exact .iface (ih hf)
 |lu=>exact .lu
 |fZ=>exact .fZ
 |ptr h=>exact .ptr (hρ _ _ h)
 |kf=>exact .kf
 |map h=>exact .map (hρ _ _ h)
 |_=>cases hf
section
variable (P:Program)
def Sp(T:TypeId):Bool:=match P.underlying T with|some (.pointer _)=>true|_=>false
def SF(st:St)(T:TypeId)(x:Operand):Option (SV×Option Loc):=
 match x with
 |.tmp s=>match st.tmps[s]? with
  |some (.d x)=>match Sp P T with
   |true=>some (.d x,none)
   |false=>match x with
    |.cG=>some (.d (.list (fy P T) []),none)
    |x=>some (.d x,none)
  |some (.own n xs)=>some (.d (.list n xs),some (.slot s))
  |some (.cq l n xs)=>some (.d (.list n xs),some l)
  |some (.eW l cs)=>some (.d (.fV cs),some l)
  |_=>none
 |x=>match cx st x with
  |some .cG=>some (.d (.list (fy P T) []),none)
  |some d=>some (.d d,none)
  |none=>none
def Oj(st:St)(x:Operand):Option (SV×Nat):=
 match x with
 |.tmp s=>match st.tmps[s]? with
  |some (.own n xs)=>some (.own n xs,s)
  |_=>none
 |_=>none
def SD(st:St)(tr:List Nat)(p:Nat)(T:TypeId)(x:Operand):Option (SV×Option Loc):=
 match tr.contains (p+1000)with
 |true=>(cx st x).map λd=>(.d d,none)
 |false=>SF P st T x
def DO(st:St)(tr:List Nat)(p:Nat):List Operand->List TypeId->Option (List SV×List Loc×List (Nat×Nat))
 |[],_=>some ([],[],[])
 |x::xs,ts=>
  if tr.contains p then
   match Oj st x,DO st tr (p+1) xs ts.tail with
   |some (s,t),some (ss,ls,gs)=>some (s::ss,ls,(t,p)::gs)
   |_,_=>none
  else
   match SD P st tr p (ts.headD 0) x,DO st tr (p+1) xs ts.tail with
   |some (s,none),some (ss,ls,gs)=>some (s::ss,ls,gs)
   |some (s,some l),some (ss,ls,gs)=>some (s::ss,l::ls,gs)
   |_,_=>none
def EJ(f:FuncId):Bool:=match P.funcs[f]? with|some fn=>fn.name != "runtime.NumGoroutine" &&fn.body.isSome|none=>false
end
def aC(ls:List Loc)(gs:List (Nat×Nat)):Own->Own
 |.free=>.free
 |.out|.box _=>.out
 |.obj i=>.obj i
 |.bN l=>if ls.contains l then .free else
  match l with
  |.slot s=>match gs.lookup s with|some p=>.bN (.slot p)|none=>.out
  |.au i j=>.bN (.au i j)
  |_=>.out
def vx(t:Nat):Own->Own
 |.free=>.free
 |.bN (.slot 0)=>.bN (.slot t)
 |.bN (.comp 0 j)=>.bN (.comp t j)
 |_=>.bN .TS
def oa(n:Nat)(ls:List Loc)(gs:List (Nat×Nat))(t:Nat)(ow ow':Nat->Own)(k:Nat):Own:=
 if k<n then
  match ow k with
  |.bN (.slot s)=>if ls.contains (.slot s)then .bN (.slot s)else match gs.lookup s with|some _=>vx t (ow' k)|none=>.bN (.slot s)
  |o=>o
 else vx t (ow' k)
def St.lI(st:St):List (Nat×Nat)->St
 |[]=>st
 |(s,_)::gs=>(((st.kill s).set s .undef)).lI gs
section
variable {P:Program} {pu:Bool} {ops:Array Oper} {rest:List Oper} {st:St} {Q:St->Prop}
@[simp] theorem uK(st:St)(gs:List (Nat×Nat)):(st.lI gs).tmps.length=st.tmps.length:=by
 induction gs generalizing st with
 |nil=>rfl
 |cons p gs ih=>obtain⟨s,p⟩:=p;simp[St.lI,ih]
@[simp] theorem HA(st:St)(gs:List (Nat×Nat)):(st.lI gs).H=st.H:=by
 induction gs generalizing st with
 |nil=>rfl
 |cons p gs ih=>obtain⟨s,p⟩:=p;simp[St.lI,ih]
def uL: ∀{st:St} {t:Nat} {s:SV},(st.lI gs).tmps[t]? =some s->s=.undef\/(st.tmps[t]? =some s/\ ∀p∈gs,t≠p.1/\dM p.1 s=false):=by
 induction gs with
 |nil=>intro st t s h;exact .inr ⟨h,ψ⟩
 |cons q gs ih=>
  intro st t s h
  obtain⟨s0,p0⟩:=q
  simp only[St.lI]at h
  rcases ih h with h|⟨h1,h2⟩
  .exact .inl h
  .by_cases ht:t=s0
   .subst ht
    simp only[St.set]at h1
    grind
   .simp only[St.set,g_1 (j_6 ht)]at h1
    rcases lY h1 with h1|⟨h1,h3⟩
    .exact .inl h1
    grind
def GV(h:Rel st a w g)(hv:Oj st x=some (s,t)):
  ∃n xs,s=.own n xs/\x=.tmp t/\cy g w (.slot t) (a.eval x) n xs:=by
 unfold Oj at hv
 split at hv
 .split at hv
  .rename_i hs
   cases hv
   exact⟨_,_,rfl,rfl,h.rs hs⟩
  .cases hv
 .cases hv
def eZ.Gz(hl:l∈ls)(h:eZ g w (some l) v n xs):Rd (g.br (aC ls gs)) w v (.list n xs):=
 eZ.free rfl (by simp[aC,hl]) h
def rP.Gz(hl:l∈ls)(h:rP g w (some l) v cs):Rd (g.br (aC ls gs)) w v (.fV cs):=by
 obtain⟨k,off,c,T,fz,us,hv,hk,hb,hc,hr⟩:=h
 refine rP.Nm ⟨k,off,c,T,fz,us,hv,lR.2 ?_,hb,hc,λj y hy=>(hr j y hy).bg (aO.br rfl) (λ_ _ h=>h)⟩
 simp only[Gh.br]
 cases ho:g.ow k<;>simp only[ho,IZ]at hk
 .rfl
 .cases hk;simp[aC,hl]
def Jz(h:Rel st a w g)(hv:SF P st T x=some (s,l))(hl: ∀l',l=some l'->l'∈ls)(o:Loc):
  RC (g.br (aC ls gs)) w o (a.eval x) s:=by
 have kp: ∀{v:Value} {d:D},Rd g w v d->Rd (g.br (aC ls gs)) w v d:=λhr=>hr.bg (aO.br rfl) (λ_ _ h=>h)
 have nil: ∀{v:Value} {n:Nat},Rd g w v .cG->Rd (g.br (aC ls gs)) w v (.list n []):=λhr=>by
  obtain⟨a',rfl⟩:=Rd.jA hr
  exact .mu
 unfold SF at hv
 split at hv
 .split at hv
  .rename_i hs
   split at hv
   .cases hv;exact kp (h.rs hs)
   .split at hv
    .cases hv;exact nil (h.rs hs)
    .cases hv;exact kp (h.rs hs)
  .rename_i hs;cases hv;exact(cy.oJ (h.rs hs)).Gz (hl _ rfl)
  .rename_i hs;cases hv;exact eZ.Gz (hl _ rfl) (h.rs hs)
  .rename_i hs;cases hv;exact rP.Gz (hl _ rfl) (h.rs hs)
  .cases hv
 .split at hv
  .rename_i hs;cases hv;exact nil (cw h hs)
  .rename_i hne hs;cases hv;exact kp (cw h hs)
  .cases hv
def BS(h:Rel st a w g)(hv:SD P st tr p T x=some (s,l))(hl: ∀l',l=some l'->l'∈ls)(o:Loc):
  RC (g.br (aC ls gs)) w o (a.eval x) s:=by
 unfold SD at hv
 split at hv
 .simp only[g_4,g_8]at hv
  obtain⟨d,hd,rfl,rfl⟩:=hv
  exact(cw h hd).bg (aO.br rfl) (λ_ _ h=>h)
 .exact Jz h hv hl o
def jI(h:Rel st a w g)(hgs: ∀s p,(s,p)∈gs->gs.lookup s=some p/\Loc.slot s∉ls):
  ∀{xs:List Operand} {ts:List TypeId} {p:Nat} {ss:List SV} {ls':List Loc} {gs':List (Nat×Nat)},DO P st tr p xs ts=some (ss,ls',gs')->(∀l∈ls',l∈ls)->(∀q∈gs',q∈gs)->
  xs.length=ss.length/\ ∀(j:Nat) (s:SV),ss[j]? =some s-> ∃o,xs[j]? =some o/\RC (g.br (aC ls gs)) w (.slot (p+j)) (a.eval o) s
 |[],ts,p,ss,ls',gs',hv,_,_=>by simp[DO]at hv;obtain⟨rfl,-⟩:=hv;simp
 |x::xs,ts,p,ss,ls',gs',hv,hl,hg=>by
  simp only[DO]at hv
  split at hv
  .split at hv
   .rename_i s t ss1 ls1 gs1 h1 h2
    cases hv
    obtain⟨hlen,hr⟩:=jI h hgs h2 hl (λq hq=>hg q (m_1 _ hq))
    refine⟨by simp[hlen],λj s' hj=>?_⟩
    cases j with
    |zero=>
     simp only[j_3,g_2]at hj
     subst hj
     obtain⟨n,ys,rfl,rfl,hO⟩:=GV h h1
     obtain⟨g1,g2⟩:=hgs t p (hg _ ψ)
     exact⟨_,ψ,cy.br rfl (by simp[aC,g1,g2]) hO⟩
    |succ j=>
     grind
   .cases hv
  .split at hv
   .rename_i s ss1 ls1 gs1 h1 h2
    cases hv
    obtain⟨hlen,hr⟩:=jI h hgs h2 hl hg
    refine⟨by simp[hlen],λj s' hj=>?_⟩
    cases j with
    |zero=>
     simp only[j_3,g_2]at hj
     subst hj
     exact⟨x,ψ,BS h h1 ψ _⟩
    |succ j=>
     grind
   .rename_i s l ss1 ls1 gs1 h1 h2
    cases hv
    obtain⟨hlen,hr⟩:=jI h hgs h2 (λl' hl'=>hl l' (m_1 _ hl')) hg
    refine⟨by simp[hlen],λj s' hj=>?_⟩
    cases j with
    |zero=>
     simp only[j_3,g_2]at hj
     subst hj
     exact⟨x,ψ,BS h h1 (λl' e=>by cases e;exact hl _ ψ) _⟩
    |succ j=>
     grind
   .cases hv
def Jk(ls:List Loc)(gs:List (Nat×Nat)):Bool:=gs.all λq=>gs.lookup q.1==some q.2&&!ls.contains (.slot q.1)
def pt(h:Jk ls gs=true): ∀s p,(s,p)∈gs->gs.lookup s=some p/\Loc.slot s∉ls:=by
 intro s p hm
 unfold Jk at h
 grind
def Gv{gs:List (Nat×Nat)}{s:Nat}(h: ∀p∈gs,s≠p.1):gs.lookup s=none:=by
 grind
def JB(hf:Fr true (g.br (aC ls gs)) w g' w')(ho: ∀s,o=.bN (.slot s)->Loc.slot s∈ls\/gs.lookup s=none):
  aO o g w ⟨oa w.heap.size ls gs t g.ow g'.ow,g'.ρ⟩ w':=by
 intro k b hk hb
 have hlt:k<w.heap.size:=(m_0.1 hb).1
 have hcal: ∀o',aC ls gs o=o'->(g.br (aC ls gs)).ow k=o':=λo' h=>by simp[Gh.br,hk,h]
 have hblk:w'.heap[k]? =some b:=by
  cases o with
  |free=>exact(hf.free k b (hcal _ rfl) hb).2
  |out=>exact(hf.out k b (hcal _ rfl) hb).2
  |box i=>exact(hf.out k b (hcal _ rfl) hb).2
  |obj i=>exact(hf.obj rfl i k b (hcal _ rfl) hb).2
  |bN l=>
   by_cases hl:l∈ls
   .exact(hf.free k b (hcal _ (by simp[aC,hl])) hb).2
   .cases l with
    |slot s=>
     rcases ho s rfl with h|h
     .exact absurd h hl
     .exact(hf.out k b (hcal _ (by simp[aC,hl,h])) hb).2
    |au i j=>exact(hf.au rfl i j k b (hcal _ (by simp[aC,hl])) hb).2
    |comp i j=>exact(hf.out k b (hcal _ (by simp[aC,hl])) hb).2
    |cell i j=>exact(hf.out k b (hcal _ (by simp[aC,hl])) hb).2
    |TS=>exact(hf.out k b (hcal _ (by simp[aC,hl])) hb).2
 refine⟨?_,hblk⟩
 simp only[oa,hlt,if_true,hk]
 grind
structure PK where
 f:FuncId
 args:List SV
 ls:List Loc
 gs:List (Nat×Nat)
def rH(P:Program)(st:St)(tr:List Nat)(c:Call):Option PK:=
 match c.callee with
 |.value fo=>match cx st fo with
  |some (.fn (.func f) first caps)=>match DO P st tr first.length c.args.toList c.argTypes.toList with
   |some (ss,ls,gs)=>if Jk ls gs&&EJ P f then some ⟨f,first.map .d++ss++caps.map .d,ls,gs⟩else none
   |none=>none
  |_=>none
 |_=>none
def pg:SV->Bool
 |.d _|.own _ _=>true
 |.iQ vs=>vs.all λ|.d _|.own _ _=>true|_=>false
 |_=>false
def sd{c:Call}{fo:Operand}{f:FuncId}{a:Act}{first caps:Array Value}{ty:TypeId}(hc:c.callee=.value fo)(hf:a.eval fo=.func (.func f) first caps)(hi:EJ P f=true)(w:World):
  (do let d <-resolve a.eval c ty;invoke d.target d.args:Sem Next).run P w=.ok (.enter f (first++c.args.map a.eval++caps)) w:=by
 unfold EJ at hi
 split at hi
 .rename_i fn hfn
  simp only[g_3,bne_iff_ne]at hi
  obtain⟨h1,h2⟩:=hi
  have h2':fn.body.isNone=false:=by simp_all
  simp only[resolve,hc,Deferred.ofValue,hf,Sem.run_bind,Sem.run_pure,Result.andThen_ok,invoke,callFunc,run_program,hfn]
  rw[if_neg (by simpa using h1),h2']
  rfl
 .cases hi
def w4(h0:aO .free g w g' w)(h1: ∀k b,g.ow k=.bN o->w.heap[k]? =some b->g'.ow k=.bN o')(hρ:eB g g')(h:RC g w o v s)(hp: ∀v0 n xs,s≠.mf v0 n xs:=by intros;simp):RC g' w o' v s:=by
 cases s with
 |d x=>exact Rd.bg h0 hρ h
 |own n xs=>
  rcases h with h|⟨k,off,cap,c,T,us,hv,hk,hb,hl,hz,hn,hc,hr⟩
  .exact .inl h
  .exact .inr ⟨k,off,cap,c,T,us,hv,h1 k _ hk hb,hb,hl,hz,hn,hc,λi x hx j y hy=>(hr i x hx j y hy).bg h0 hρ⟩
 |mf v0 n xs=>exact absurd rfl (hp v0 n xs)
 |undef=>trivial
 |_=>exact h.elim
def sA(ls:List Loc)(i j:Nat):SV->SV
 |.own n xs=>if ls.contains (.au i j)then .d (.list n xs)else .own n xs
 |.mf v n xs=>if ls.contains (.au i j)then .undef else .mf v n xs
 |s=>s
def lT(ls:List Loc)(i:Nat):aN->aN
 |.cells cs=>.cells (cs.mapIdx (sA ls i))
 |.SA T e bs=>if ls.contains (.au i 1)then .hole else .SA T e bs
 |o=>o
def RH.Gz(h:RH g w H):RH (g.br (aC ls gs)) w (H.mapIdx (lT ls)):=by
 refine⟨by simpa[Gh.br]using h.1,λi ob hi=>?_⟩
 simp only[v_4,g_4]at hi
 obtain⟨ob',hi,rfl⟩:=hi
 have hro:=h.2 i ob' hi
 cases ob' with
 |cells cs=>
  obtain⟨kk,cc,T,r1,r2,r3,r4,r5⟩:=hro
  refine⟨kk,cc,T,r1,by simp[Gh.br,r2,aC],r3,by simpa using r4,λj s hj=>?_⟩
  simp only[v_4,g_4]at hj
  obtain⟨s',hj,rfl⟩:=hj
  obtain⟨u,u1,u2,u3⟩:=r5 j s' hj
  refine⟨u,u1,?_,φ⟩
  cases s' with
  |d x=>exact Rd.bg (aO.br rfl) (λ_ _ h=>h) u2
  |own n xs=>
   simp only[sA]
   split
   .rename_i hl
    exact eZ.Gz (by simpa using hl) (cy.oJ u2)
   .rename_i hl
    refine cy.br rfl ?_ u2
    have hl':ls.contains (.au i j)=false:=q_2.2 hl
    simp only[aC,hl']
    rfl
  |mf v0 n xs=>
   simp only[sA]
   split
   .trivial
   .rename_i hl
    have hl':ls.contains (.au i j)=false:=q_2.2 hl
    exact⟨u2.1,cy.br rfl (by simp only[aC,hl'];rfl) u2.2⟩
  |undef=>trivial
  |_=>exact u2.elim
 |map es=>
  obtain⟨kk,ms,clock,r1,r2,r3,r4,r6,r5⟩:=hro
  exact⟨kk,ms,clock,r1,by simp[Gh.br,r2,aC],r3,r4,r6,λj p hj=>let⟨m,h1,h2,h3⟩:=r5 j p hj;⟨m,h1,h2.bg (aO.br rfl) (λ_ _ h=>h),h3.bg (aO.br rfl) (λ_ _ h=>h)⟩⟩
 |hole=>trivial
 |iter kb clock=>
  obtain⟨k,hr,ho,hb⟩:=hro
  exact⟨k,hr,by simp[Gh.br,ho,aC],hb⟩
 |Qv kb clock ms es=>
  obtain⟨hr,ho,hb,hs,hbo,hc⟩:=hro
  exact⟨hr,by simp[Gh.br,ho,aC],hb,hs,hbo,λj p hj=>let⟨m,h1,h2,h3⟩:=hc j p hj;⟨m,h1,h2.bg (aO.br rfl) (λ_ _ h=>h),h3.bg (aO.br rfl) (λ_ _ h=>h)⟩⟩
 |SA T e bs=>
  obtain⟨k,p,v,hr,ho,hb⟩:=hro
  simp only[lT]
  split
  .trivial
  .rename_i hl
   have hl':ls.contains (.au i 1)=false:=q_2.2 hl
   exact⟨k,p,v,hr,by simp[Gh.br,ho,aC],hb.bg (aO.br (by simp only[aC,hl'];rfl)) rfl⟩
def y8{g g':Gh}{w w':World}{ls:List Loc}{gs:List (Nat×Nat)}(hf:Fr true (g.br (aC ls gs)) w g' w'){k:Nat}{b:Obj}(hb:w.heap[k]? =some b)
  (hn: ∀s,g.ow k=.bN (.slot s)->Loc.slot s∈ls\/gs.lookup s=none):
  g'.ow k=aC ls gs (g.ow k)/\(∀l,aC ls gs (g.ow k)=.bN l-> ∃i j,l=.au i j)/\(aC ls gs (g.ow k)=.free->g.ow k=.free\/ls≠[]):=by
 have key: ∀o',aC ls gs (g.ow k)=o'->(o'=.free\/o'=.out\/(∃i,o'=.obj i)\/ ∃i j,o'=.bN (.au i j))->g'.ow k=o':=λo' h1 h2=>by
  have h1':(g.br (aC ls gs)).ow k=o':=h1
  rcases h2 with rfl|rfl|⟨i,rfl⟩|⟨i,j,rfl⟩
  .exact(hf.free k b h1' hb).1
  .exact(hf.out k b h1' hb).1
  .exact(hf.obj rfl i k b h1' hb).1
  .exact(hf.au rfl i j k b h1' hb).1
 cases ho:g.ow k with
 |free=>rw[ho]at key;exact⟨key _ rfl (.inl rfl),by simp[aC],ψ⟩
 |out=>rw[ho]at key;exact⟨key _ rfl (.inr (.inl rfl)),by simp[aC],by simp[aC]⟩
 |box t=>rw[ho]at key;exact⟨key _ rfl (.inr (.inl rfl)),by simp[aC],by simp[aC]⟩
 |obj i=>rw[ho]at key;exact⟨key _ rfl (.inr (.inr (.inl ⟨i,rfl⟩))),by simp[aC],by simp[aC]⟩
 |bN l=>
  rw[ho]at key
  by_cases hl:l∈ls
  .have e:aC ls gs (.bN l)=.free:=by simp[aC,hl]
   grind
  .have out: ∀(e:aC ls gs (.bN l)=.out),g'.ow k=aC ls gs (.bN l)/\(∀l',aC ls gs (.bN l)=.bN l'-> ∃i j,l'=.au i j)/\(aC ls gs (.bN l)=.free->Own.bN l=.free\/ls≠[]):=λe=>by
    grind
   cases l with
   |slot s=>
    rcases hn s ho with h|h
    .exact absurd h hl
    .exact out (by simp[aC,hl,h])
   |au i j=>
    have e:aC ls gs (.bN (.au i j))=.bN (.au i j):=by simp[aC,hl]
    grind
   |comp i j=>exact out (by simp[aC,hl])
   |cell i j=>exact out (by simp[aC,hl])
   |TS=>exact out (by simp[aC,hl])
def Mq{g g':Gh}{w w':World}{ls:List Loc}{gs:List (Nat×Nat)}{t:Nat}(hf:Fr true (g.br (aC ls gs)) w g' w'){k:Nat}{l:Loc}(hl:(∀i j,l≠.au i j))(hk:g'.ow k=.bN l):
  oa w.heap.size ls gs t g.ow g'.ow k=vx t (.bN l):=by
 simp only[oa]
 split
 .rename_i hlt
  obtain⟨b,hb⟩: ∃b,w.heap[k]? =some b:=⟨w.heap[k],by simp[hlt]⟩
  by_cases hg: ∃s,g.ow k=.bN (.slot s)/\Loc.slot s∉ls/\gs.lookup s≠none
  .grind
  .have:=y8 hf hb (λs hs=>by
    grind)
   grind
 .rw[hk]
def JC{g g':Gh}{w w':World}{gs:List (Nat×Nat)}{t:Nat}(hf:Fr true (g.br (aC [] gs)) w g' w'):aO .free g' w' ⟨oa w.heap.size [] gs t g.ow g'.ow,g'.ρ⟩ w':=by
 intro k b hk hb
 refine⟨?_,hb⟩
 simp only[oa]
 split
 .rename_i hlt
  obtain⟨b',hb'⟩: ∃b,w.heap[k]? =some b:=⟨w.heap[k],by simp[hlt]⟩
  by_cases hg: ∃s,g.ow k=.bN (.slot s)/\gs.lookup s≠none
  .obtain⟨s,h1,h3⟩:=hg
   rw[h1]
   simp only[List.contains_nil,g_7,if_false]
   cases hlk:gs.lookup s with
   |none=>exact absurd hlk h3
   |some p=>simp[hk,vx]
  .have:=y8 hf hb' (λs hs=>.inr (by
     grind))
   grind
 .rw[hk];rfl
def uM: ∀{st:St} {t:Nat} {x:SV},st.tmps[t]? =some x->gl x≠0->(∀p∈gs,t≠p.1)->(st.lI gs).tmps[t]? =some x:=by
 induction gs with
 |nil=>intro st t x h _ _;exact h
 |cons q gs ih=>
  intro st t x h hb hne
  obtain⟨s0,p0⟩:=q
  simp only[St.lI]
  refine ih ?_ hb (λp hp=>hne p (m_1 _ hp))
  have:t≠s0:=hne (s0,p0) ψ
  simp[St.set,St.kill,g_1 (j_6 this),h,eQ hb]
def pT(ho:jQ t s (.bN (.slot s0))):s0=t\/dM s0 s=true:=by
 cases s<;>simp[jQ,dM]at ho ⊢
 .exact ho
 .rw[<-ho];simp
 .rw[<-ho];simp
 .exact ho
def yt{o:Oper}{c:Call}(tr:List Nat){k:PK}{r:SV}{H':List aN}(hw:fG ops st o=some true)(hop:o.op=.call c)(hc:rH P st tr c=some k)(hp:SC P true k.f k.args (st.H.mapIdx (lT k.ls)) r H')
  (hr:pg r=true) (hlend:k.ls.isEmpty=true\/mP r=true) (h:OW P pu ops rest ((st.lI k.gs).put o.dst r) Q):OW P pu ops (o::rest) st Q:=by
 intro a w g hrel Qc hq
 unfold wpList
 rw[bt hrel hw,if_pos rfl]
 refine .inl ?_
 unfold rH at hc
 split at hc
 .rename_i fo hcallee
  split at hc
  .rename_i f first caps hfo
   split at hc
   .rename_i ss ls gs hargs
    split at hc
    .rename_i hok
     cases hc
     rw[g_3]at hok
     obtain⟨hgive,hfn⟩:=hok
     have hgs:=pt hgive
     have hrf:=cw hrel hfo
     obtain⟨vf,vc,hev,lf,lc,rf,rc⟩: ∃vf vc:Array Value,a.eval fo=.func (.func f) vf vc/\vf.size=first.length/\vc.size=caps.length/\
       (∀(j:Nat) (y:D),first[j]? =some y-> ∃u,vf[j]? =some u/\Rd g w u y)/\(∀(j:Nat) (y:D),caps[j]? =some y-> ∃u,vc[j]? =some u/\Rd g w u y):=by
      generalize a.eval fo=v at hrf
      cases hrf with
      |fn hl1 hl2 us1 us2 hc1 hr1 hc2 hr2=>grind
     obtain⟨la,ra⟩:=jI hrel hgs hargs (λ_ h=>h) (λ_ h=>h)
     have hexec:(execOp a.eval o).run P w=.ok (.enter f (vf++c.args.map a.eval++vc)) w:=by
      unfold execOp
      rw[hop]
      exact sd hcallee hev hfn w
     unfold Oper.wp
     rw[hexec,Oper.upon_enter]
     have hRA:jM (g.br (aC ls gs)) w (vf++c.args.map a.eval++vc) (first.map .d++ss++caps.map .d):=by
      have hla:(c.args.map a.eval).size=ss.length:=by rw[<-la];simp
      have hla':c.args.size=ss.length:=by rw[<-la];simp
      refine⟨by simp[lf,lc,<-la],λj s hj=>?_⟩
      have kp: ∀{v:Value} {d:D},Rd g w v d->Rd (g.br (aC ls gs)) w v d:=λhr=>hr.bg (aO.br rfl) (λ_ _ h=>h)
      by_cases j1:j<first.length
      .rw[j_2,h_6 (by simpa using j1),h_1]at hj
       simp only[g_4]at hj
       obtain⟨d,hd,rfl⟩:=hj
       obtain⟨u,e1,e2⟩:=rf j d hd
       exact⟨u,φ,kp e2⟩
      .by_cases j2:j<first.length+ss.length
       .grind
       .rw[h_5 χ,h_1]at hj
        simp only[g_4,h_9,k_0]at hj
        obtain⟨d,hd,rfl⟩:=hj
        obtain⟨u,e1,e2⟩:=rc _ d hd
        refine⟨u,?_,kp e2⟩
        grind
     refine(hp w (g.br (aC ls gs)) _ hRA (hrel.hp.Gz (ls:=ls) (gs:=gs))).mono λe w' hh=>?_
     obtain⟨v,g',rfl,hres,-,hf⟩:=hh
     have hρ:g'.ρ=g.ρ:=hf.len rfl
     have hρ':eB g ⟨oa w.heap.size ls gs (o.dst.getD 0) g.ow g'.ow,g'.ρ⟩:=λi k h=>by rw[hρ];exact h
     have hkp:=λo' ho'=>JB (t:=o.dst.getD 0) hf (o:=o') ho'
     have hfr:Fr pu g w ⟨oa w.heap.size ls gs (o.dst.getD 0) g.ow g'.ow,g'.ρ⟩ w':=
      ⟨hf.size,hkp _ ψ,hkp _ ψ,hρ',λ_ i=>hkp _ ψ,λ_ i j=>hkp _ ψ,λ_=>hρ,hf.os⟩
     refine h (a.put o.dst v) w' _ ?_ Qc λiY a2 w2 g2 q2 r2 f2=>hq iY a2 w2 g2 q2 r2 (hfr.trans f2)
     refine bc hrel (by rw[eb,cU,uK];exact hrel.len) (by rw[put_defers];exact hrel.dS) hρ' (λt s hs=>?_) ?_
     .by_cases hd:o.dst=some t
      .
       rw[hd]at hs ⊢
       obtain⟨rfl,hlt⟩:=bY hs
       rw[uK]at hlt
       refine .inr (.inl ?_)
       rw[bW (by rw[hrel.len];exact hlt)]
       simp only[w_9]
       have tag: ∀l,(∀i j,l≠.au i j)-> ∀k b,g'.ow k=.bN l->w'.heap[k]? =some b->(⟨oa w.heap.size ls gs t g.ow g'.ow,g'.ρ⟩:Gh).ow k=vx t (.bN l):=λl hl k b hk _=>Mq hf hl hk
       rcases hlend with hl|hflat
       .have hls:ls=[]:=by simpa using hl
        subst hls
        have h0:=JC (t:=t) hf
        cases hrr:s with
        |d x=>rw[hrr]at hres;exact Rd.bg h0 (λ_ _ h=>h) (hres:Rd g' w' v x)
        |own n xs=>
         rw[hrr]at hres
         exact(w4 h0 (tag (.slot 0) ψ) (λ_ _ h=>h) (hres:RC g' w' (.slot 0) v (.own n xs)):RC _ _ (.slot t) v (.own n xs))
        |iQ vs=>
         rw[hrr]at hres hr
         obtain⟨us,e1,e2,e3⟩:=hres
         refine⟨us,e1,e2,λj s' hj=>?_⟩
         obtain⟨u,f1,f2⟩:=e3 j s' hj
         exact⟨u,f1,w4 h0 (tag (.comp 0 j) ψ) (λ_ _ h=>h) f2 (by rintro v0 n xs rfl;exact f2)⟩
        |_=>rw[hrr]at hr;simp[pg]at hr
       .cases hrr:s with
        |d x=>rw[hrr]at hres hflat;show Rd _ w' v x;refine Rd.flat (g:=g') (w:=w') ?_ hres hflat;exactλ_ _ h=>h
        |iQ vs=>
         rw[hrr]at hres hflat
         obtain⟨us,e1,e2,e3⟩:=hres
         refine⟨us,e1,e2,λj s' hj=>?_⟩
         obtain⟨u,f1,f2⟩:=e3 j s' hj
         simp only[mP,h_4]at hflat
         have:=hflat s' (h_2.2 ⟨j,hj⟩)
         cases s' with
         |d x=>refine⟨u,f1,?_⟩;show Rd _ w' u x;refine Rd.flat (g:=g') (w:=w') ?_ f2 this;exactλ_ _ h=>h
         |_=>simp at this
        |_=>rw[hrr]at hflat;simp[mP]at hflat
      .
       have hput:s=.undef\/((st.lI gs).tmps[t]? =some s/\ ∀t0 old,o.dst=some t0->(st.lI gs).tmps[t0]? =some old->uB old=true->dM t0 s=false):=by
        cases hdst:o.dst with
        |none=>rw[hdst]at hs;exact .inr ⟨hs,ψ⟩
        |some t0=>
         rw[hdst]at hs hd
         rcases eu (λe=>hd (by rw[e])) hs with h|⟨h1,h2⟩
         .exact .inl h
         grind
       rcases hput with rfl|⟨hs1,hs2⟩
       .exact .inl rfl
       .rcases uL hs1 with rfl|⟨hs3,hs4⟩
        .exact .inl rfl
        .refine .inr (.inr ⟨hs3,cr hd,λo' ho'=>hkp o' λs0 e=>.inr (Gv λp hp=>?_),λs0 e=>?_⟩)
         .subst e
          rcases pT ho' with rfl|hm
          .exact(hs4 p hp).1
          grind
         .obtain⟨x0,hx0,hb0⟩:=kM (hrel.tmp t _ hs3) e
          have hne: ∀p∈gs,s0≠p.1:=λp hp e2=>by
           have:=(hs4 p hp).2
           rw[<-e2,cH e]at this
           cases this
          have hbox: ∀x,st.tmps[s0]? =some x->gl x≠0->(st.lI gs).tmps[s0]? =some x:=λx h hb=>uM h hb hne
          have hd0:o.dst≠some s0:=λe2=>by
           have:=hs2 s0 _ e2 (hbox x0 hx0 hb0) (gI hb0)
           rw[cH e]at this
           cases this
          exact⟨cr hd0,λx hx hb=>⟨x,eY (hbox x hx hb) hb hd0,rfl⟩⟩
     .rw[fw,HA]
      refine hrel.hp.bg (λo' ho'=>hkp o' λs e=>?_) hρ' (by rw[hρ])
      subst e
      exact ho'.elim
    .cases hc
   .cases hc
  .cases hc
 .cases hc
def OW.call(tr:List Nat)(hw:fG ops st o=some true)(hop:o.op=.call c)(hc:rH P st tr c=some k)(hp:PC P k.f k.args r)
  (hr:pg r=true) (hlend:k.ls.isEmpty=true\/mP r=true) (h:OW P pu ops rest ((st.lI k.gs).put o.dst r) Q):OW P pu ops (o::rest) st Q:=yt tr hw hop hc (hp _) hr hlend h
end
section
variable {P:Program} {pu:Bool} {ops:Array Oper} {rest:List Oper} {st:St} {Q:St->Prop}
def jO.value(h: ∀a w g,Rel st a w g-> ∃v w' g',(execOp a.eval o).run P w=.ok (.value v) w'/\Rel st' (a.put o.dst v) w' g'/\Fr pu g w g' w'):jO P pu st o st':=
 λa w g hr=>let⟨v,w',g',e,r,f⟩:=h a w g hr;⟨_,w',g',_,e,λ_ _=>rfl,r,f⟩
def jO.skip(h: ∀a w g,Rel st a w g-> ∃w' g',(execOp a.eval o).run P w=.ok .skip w'/\Rel st' (a.put o.dst undef) w' g'/\Fr pu g w g' w'):jO P pu st o st':=
 λa w g hr=>let⟨w',g',e,r,f⟩:=h a w g hr;⟨_,w',g',_,e,λ_ _=>rfl,r,f⟩
def mL{jh:St}{a:Act}{w:World}{g:Gh}(h:Rel st a w g){d:Option Tmp}{s0 s:SV}(v:Value){t:Nat}(h1: ∀(t:Nat) (s:SV),jh.tmps[t]? =some s->s=.undef\/st.tmps[t]? =some s)
  (hbox: ∀(t:Nat) (s x:SV),jh.tmps[t]? =some s-> ∀s1,dep s=some s1->st.tmps[s1]? =some x->gl x≠0-> ∃x',jh.tmps[s1]? =some x'/\gl x'=gl x) (hd:d≠some t) (hs:(jh.put d s0).tmps[t]? =some s):
  s=.undef\/(jh.tmps[t]? =some s/\st.tmps[t]? =some s/\valOf (a.put d v) t=valOf a t/\(∀t0 old,d=some t0->jh.tmps[t0]? =some old->uB old=true->dM t0 s=false)/\
   ∀s',dep s=some s'->valOf (a.put d v) s'=valOf a s'/\ ∀x,st.tmps[s']? =some x->gl x≠0-> ∃x',(jh.put d s0).tmps[s']? =some x'/\gl x'=gl x):=by
 have hput:s=.undef\/(jh.tmps[t]? =some s/\ ∀t0 old,d=some t0->jh.tmps[t0]? =some old->uB old=true->dM t0 s=false):=by
  cases d with
  |none=>exact .inr ⟨hs,ψ⟩
  |some t0=>
   rcases eu (λe=>hd (by rw[e])) hs with h|⟨h1,h2⟩
   .exact .inl h
   grind
 rcases hput with hu|⟨h2,h3⟩
 .exact .inl hu
 .rcases h1 t s h2 with hu|h4
  .exact .inl hu
  .refine .inr ⟨h2,h4,cr hd,h3,λs1 e=>?_⟩
   obtain⟨x0,hx0,hb0⟩:=kM (h.tmp t _ h4) e
   obtain⟨x1,hx1,hb1⟩:=hbox t _ x0 h2 s1 e hx0 hb0
   have hd0:d≠some s1:=λe2=>by
    have:=h3 s1 _ e2 hx1 (gI ω)
    rw[cH e]at this
    cases this
   refine⟨cr hd0,λx hx hb=>?_⟩
   obtain⟨x',hx',hb'⟩:=hbox t _ x h2 s1 e hx hb
   exact⟨x',eY hx' ω hd0,hb'⟩
def St.take(st:St)(s:Nat):St:=(st.kill s).set s .undef
def zf(st:St)(s p:Nat):st.take s=st.lI [(s,p)]:=rfl
@[simp] theorem gF(st:St)(s:Nat):(st.take s).tmps.length=st.tmps.length:=by simp[St.take]
@[simp] theorem pc(st:St)(s:Nat):(st.take s).H=st.H:=rfl
def cJ(h:(st.take s0).tmps[t]? =some s):s=.undef\/(st.tmps[t]? =some s/\t≠s0/\dM s0 s=false):=by
 rw[zf st s0 0]at h
 rcases uL h with h|⟨h1,h2⟩
 .exact .inl h
 simp_all
def jY{s0 t:Nat}{s x:SV}(h:(st.take s0).tmps[t]? =some s)(s1:Nat)(e:dep s=some s1)(hx:st.tmps[s1]? =some x)(hb:gl x≠0): ∃x',(st.take s0).tmps[s1]? =some x'/\gl x'=gl x:=by
 rcases cJ h with h|⟨-,-,h3⟩
 .subst h;cases e
 .have:s1≠s0:=λe2=>by rw[<-e2,cH e]at h3;cases h3
  exact⟨x,by rw[zf st s0 0];exact uM hx hb (by simpa using this),rfl⟩
def Ge(l l':Loc)(o:Own):Own:=if o=.bN l then .bN l' else o
def se(l l':Loc):Ge l l' (.bN l)=.bN l':=by simp[Ge]
def eR(h:o≠.bN l):Ge l l' o=o:=by simp[Ge,h]
def Fr.br(hl: ∀i j,l≠.au i j):Fr pu g w (g.br (Ge l l')) w:=
 ⟨h_0 _,aO.br (eR ψ),aO.br (eR ψ),λ_ _ h=>h,λ_ i=>aO.br (eR ψ),λ_ i j=>aO.br (eR (λe=>hl i j (by cases e;rfl))),λ_=>rfl,⟨rfl,rfl⟩⟩
def RH.br(hl: ∀i j,l≠.au i j)(h:RH g w H):RH (g.br (Ge l l')) w H:=by
 refine RH.bg (g:=g) (w:=w) (λo ho=>aO.br (eR λe=>?_)) (λ_ _ h=>h) rfl h
 subst e
 cases l<;>simp only[kn]at ho
 exact hl _ _ rfl
def jO.move{o:Oper}{s:Nat}{n:Nat}{xs:List D}(hop:o.op=.move (.tmp s)\/o.op=.assign (.tmp s))(hs:st.tmps[s]? =some (.own n xs)):jO P pu st o ((st.take s).put o.dst (.own n xs)):=by
 refine jO.value λa w g hr=>?_
 have hexec:(execOp a.eval o).run P w=.ok (.value (valOf a s)) w:=by rcases hop with h|h<;>(unfold execOp;rw[h];rfl)
 cases hd:o.dst with
 |none=>
  refine⟨_,w,g,hexec,?_,Fr.refl _ _ _⟩
  refine bc hr (by simp[hr.len,eb]) (by rw[put_defers];exact hr.dS) (λ_ _ h=>h) (λt s' hs'=>?_) hr.hp
  rcases cJ hs' with h|⟨h1,h2,h3⟩
  .exact .inl h
  .refine .inr (.inr ⟨h1,rfl,λ_ _=>aO.refl _ _ _,λs1 e=>⟨rfl,λx hx hb=>jY hs' s1 e hx hb⟩⟩)
 |some d=>
  refine⟨_,w,g.br (Ge (.slot s) (.slot d)),hexec,?_,Fr.br ψ⟩
  refine bc hr (by rw[eb,cU,gF];exact hr.len) (by rw[put_defers];exact hr.dS) (λ_ _ h=>h) (λt s' hs'=>?_) (by rw[fw,pc];exact hr.hp.br ψ)
  by_cases ht:t=d
  .subst ht
   obtain⟨rfl,hlt⟩:=bY hs'
   refine .inr (.inl ?_)
   rw[bW (by rw[hr.len];simpa using hlt)]
   exact cy.br (eR ψ) (se _ _) (hr.tmp s _ hs)
  .rcases mL hr (jh:=st.take s) (valOf a s) (λt s h=>(cJ h).imp id λh=>h.1) (λt s x h s1 e hx hb=>jY h s1 e hx hb) (by simpa using j_6 ht) hs' with h|⟨h1,h2,h3,h4,h5⟩
   .exact .inl h
   .rcases cJ h1 with h|⟨-,h6,h7⟩
    .exact .inl h
    .exact .inr (.inr ⟨h2,h3,λo' ho'=>aO.br (eR (jP h6 h7 ho').2.1),h5⟩)
def jO.extract(hop:o.op=.extract (.tmp s) j)(hs:st.tmps[s]? =some (.iQ vs))(hj:vs[j]? =some (.own n xs))(hds:o.dst≠some s):
  jO P pu st o (((st.kill s).set s (.iQ (vs.set j .undef))).put o.dst (.own n xs)):=by
 refine jO.value λa w g hr=>?_
 obtain⟨us,e1,e2,e3⟩:=hr.tmp s _ hs
 obtain⟨u,f1,f2⟩:=e3 j _ hj
 have hexec:(execOp a.eval o).run P w=.ok (.value u) w:=by
  unfold execOp;rw[hop]
  have:a.eval (.tmp s)=.tuple us:=e1
  simp[Instr.extract,this,f1]
 have hslt:=aU hs
 have tupS: ∀g':Gh,eB g g'->aO .free g w g' w->(∀i,i≠j->aO (.bN (.comp s i)) g w g' w)-> ∀tm val,RS g' w tm val s (valOf a s) (.iQ (vs.set j .undef)):=λg' h0 h1 h2 tm val=>by
  refine⟨us,e1,by simpa using e2,λi s' hi=>?_⟩
  by_cases hij:i=j
  .subst hij
   rw[g_0 (aU hj)]at hi
   cases hi
   exact⟨u,f1,trivial⟩
  .rw[g_1 (j_6 hij)]at hi
   obtain⟨u',g1,g2⟩:=e3 i s' hi
   exact⟨u',g1,g2.bg h1 (h2 i hij) h0⟩
 have get1: ∀(t:Nat) (s':SV),((st.kill s).set s (.iQ (vs.set j .undef))).tmps[t]? =some s'->(t=s/\s'=.iQ (vs.set j .undef))\/s'=.undef\/(t≠s/\st.tmps[t]? =some s'/\dM s s'=false):=λt s' h=>by
  by_cases ht:t=s
  .subst ht
   rw[St.set,g_0 (by simpa using hslt)]at h
   grind
  .simp only[St.set,g_1 (j_6 ht)]at h
   rcases lY h with h|⟨h1,h2⟩
   .exact .inr (.inl h)
   grind
 have box1: ∀(s1:Nat) (x:SV),st.tmps[s1]? =some x->gl x≠0->((st.kill s).set s (.iQ (vs.set j .undef))).tmps[s1]? =some x:=λs1 x h hb=>by
  have:s1≠s:=λe=>by rw[e,hs]at h;cases h;simp[gl]at hb
  simp[St.set,St.kill,g_1 (j_6 this),h,eQ hb]
 cases hd:o.dst with
 |none=>
  refine⟨_,w,g,hexec,?_,Fr.refl _ _ _⟩
  refine bc hr (by rw[eb,cU,zg,wS];exact hr.len) (by rw[put_defers];exact hr.dS) (λ_ _ h=>h) (λt s' hs'=>?_) hr.hp
  rcases get1 t s' hs' with⟨rfl,rfl⟩|h|⟨h1,h2,h3⟩
  .exact .inr (.inl (tupS g (λ_ _ h=>h) (aO.refl _ _ _) (λ_ _=>aO.refl _ _ _) _ _))
  .exact .inl h
  .exact .inr (.inr ⟨h2,rfl,λ_ _=>aO.refl _ _ _,λs1 e=>⟨rfl,λx hx hb=>⟨x,box1 s1 x hx hb,rfl⟩⟩⟩)
 |some d=>
  rw[hd]at hds
  have hds':d≠s:=λe=>hds (by rw[e])
  refine⟨_,w,g.br (Ge (.comp s j) (.slot d)),hexec,?_,Fr.br ψ⟩
  refine bc hr (by rw[eb,cU,zg,wS];exact hr.len) (by rw[put_defers];exact hr.dS) (λ_ _ h=>h) (λt s' hs'=>?_) (by rw[fw,MC];exact hr.hp.br ψ)
  by_cases ht:t=d
  .subst ht
   obtain⟨rfl,hlt⟩:=bY hs'
   refine .inr (.inl ?_)
   rw[bW (by rw[hr.len];simpa using hlt)]
   exact cy.br (eR ψ) (se _ _) f2
  .by_cases hts:t=s
   .subst hts
    rcases eu ht hs' with h|⟨h1,h2⟩
    .exact .inl h
    .rcases get1 t s' h1 with⟨-,rfl⟩|h|⟨h,-⟩
     .refine .inr (.inl ?_)
      rw[cr (by simpa using hds')]
      exact tupS (g.br (Ge (.comp t j) (.slot d))) (λ_ _ h=>h) (aO.br (eR ψ)) (λi hi=>aO.br (eR (by simpa using hi))) _ _
     .exact .inl h
     .exact absurd rfl h
   .have cR: ∀t2,t2≠s-> ∀s2,((st.kill s).set s (.iQ (vs.set j .undef))).tmps[t2]? =some s2->s2=.undef\/(st.tmps[t2]? =some s2/\dM s s2=false):=λt2 h2 s2 h=>by
     grind
    rcases eu ht hs' with h|⟨h1,h2⟩
    .exact .inl h
    .rcases cR t hts s' h1 with h|⟨h3,h4⟩
     .exact .inl h
     .refine .inr (.inr ⟨h3,cr (by simpa using j_6 ht),λo' ho'=>aO.br (eR ((jP hts h4 ho').2.2.2 j)),λs1 e=>?_⟩)
      obtain⟨x0,hx0,hb0⟩:=kM (hr.tmp t _ h3) e
      have hb:=box1 s1 x0 hx0 hb0
      have hd0:s1≠d:=λe2=>by
       subst e2
       have:=h2 _ hb (gI hb0)
       rw[cH e]at this
       cases this
      exact⟨cr (by simpa using j_6 hd0),λx hx hb=>⟨x,eY (box1 s1 x hx hb) hb (by simpa using j_6 hd0),rfl⟩⟩
def aO.alloc:aO o' g w (g.xe w.heap.size t) (w.alloc o):=by
 intro k b hk hb
 have hlt:=pb hb
 refine⟨by rw[uO _ _ ω];exact hk,?_⟩
 simp only[World.alloc]
 grind
def Fr.alloc:Fr pu g w (g.xe w.heap.size t) (w.alloc o):=
 ⟨ψ,aO.alloc,aO.alloc,λ_ _ h=>h,λ_ _=>aO.alloc,λ_ _ _=>aO.alloc,λ_=>rfl,⟨rfl,rfl⟩⟩
def heap_alloc(w:World)(o:Obj):(w.alloc o).heap[w.heap.size]? =some o:=by
 show(w.heap.push o)[w.heap.size]? =_
 simp
def Rel.NS{a:Act}{w:World}{g:Gh}(hr:Rel st a w g){d:Nat}{c:Array Value}{T:TypeId}{cs:List SV}(hl:c.size=cs.length)
  (hc: ∀(j:Nat) (s:SV),cs[j]? =some s-> ∃u,c[j]? =some u/\RC g w (.cell d j) u s/\u.oneCell'=true) (hown: ∀(j:Nat) n xs,cs[j]? =some (.own n xs)->xs=[]/\ ∀u,c[j]? =some u-> ∃x,u=.slice x 0 0):
  Rel (st.put (some d) (.box cs)) (a.put (some d) (.pointer (some ⟨w.heap.size,0,none⟩))) (w.alloc (.cells c T)) (g.xe w.heap.size (.box d)):=by
 refine bc hr (by rw[eb,cU];exact hr.len) (by rw[put_defers];exact hr.dS) (λ_ _ h=>h) (λt s' hs'=>?_) (by rw[fw];exact hr.hp.bg (λ_ _=>aO.alloc) (λ_ _ h=>h) rfl)
 by_cases ht:t=d
 .subst ht
  obtain⟨rfl,hlt⟩:=bY hs'
  refine .inr (.inl ?_)
  rw[bW (by rw[hr.len];exact hlt)]
  refine⟨w.heap.size,c,T,rfl,ψ,heap_alloc _ _,hl,λj s hj=>?_⟩
  obtain⟨u,e1,e2,e3⟩:=hc j s hj
  refine⟨u,e1,?_,e3⟩
  cases s with
  |d x=>exact Rd.bg aO.alloc (λ_ _ h=>h) e2
  |own n xs=>
   obtain⟨rfl,h2⟩:=hown j n xs hj
   exact .inl ⟨rfl,h2 u e1⟩
  |undef=>trivial
  |_=>exact e2.elim
 .rcases mL hr (jh:=st) (.pointer (some ⟨w.heap.size,0,none⟩)) (λt s h=>.inr h) (λt s x h s1 e hx hb=>⟨x,hx,rfl⟩) (by simpa using j_6 ht) hs' with h|⟨h1,h2,h3,h4,h5⟩
  .exact .inl h
  .exact .inr (.inr ⟨h2,h3,λo' ho'=>aO.alloc,h5⟩)
def zeroCells(P:Program)(T:TypeId):Option (List D):=(yB P T).map D.cells
def jO.alloc(hop:o.op=.alloc T)(hd:o.dst=some d)(hz:zeroCells P T=some cs):jO P pu st o (st.put (some d) (.box (cs.map .d))):=by
 refine jO.value λa w g hr=>?_
 simp only[zeroCells,g_4]at hz
 obtain⟨z,h1,rfl⟩:=hz
 obtain⟨v,e1,e2⟩:=pj (P:=P) (g:=g) (w:=w) h1
 obtain⟨c1,c2⟩:=e1.cells
 rw[hd]
 refine⟨.pointer (some ⟨w.heap.size,0,none⟩),w.alloc (.cells v.cells T),_,?_,hr.NS (T:=T) (by simpa using c1) (λj s hj=>?_) (λj n xs hj=>?_),Fr.alloc⟩
 .unfold execOp;rw[hop]
  simp only[Instr.alloc,Sem.run_bind,e2,Result.andThen_ok,newVar,newRow,run_newObj,Sem.run_pure]
  rfl
 .simp only[h_1,g_4]at hj
  obtain⟨x,hx,rfl⟩:=hj
  exact c2 j x hx
 .simp at hj
def jO.box(hop:o.op=.box T x)(hd:o.dst=some d)(hy:cx st x=some y):jO P pu st o (st.put (some d) (.box (y.cells.map .d))):=by
 refine jO.value λa w g hr=>?_
 have e2:=cw hr hy
 obtain⟨c1,c2⟩:=e2.cells
 rw[hd]
 refine⟨.pointer (some ⟨w.heap.size,0,none⟩),w.alloc (.cells (a.eval x).cells T),_,?_,hr.NS (T:=T) (by simpa using c1) (λj s hj=>?_) (λj n xs hj=>?_),Fr.alloc⟩
 .unfold execOp;rw[hop]
  simp only[Instr.box,Sem.run_bind,newVar,newRow,run_newObj,Result.andThen_ok,Sem.run_pure]
  rfl
 .simp only[h_1,g_4]at hj
  obtain⟨x,hx,rfl⟩:=hj
  exact c2 j x hx
 .simp at hj
def setCells(cs:List SV)(off:Nat)(ys:List D):List SV:=cs.take off++ys.map .d++cs.drop (off+ys.length)
def cm(k off:Nat)(T:TypeId): ∀(vs:List Value) (i:Nat) (c:Array Value) (w:World),w.heap[k]? =some (.cells c T (0,0))->off+i+vs.length<=c.size->(∀v∈vs,v.oneCell'=true)->
  ∃w',(storeCells ⟨k,off,none⟩ vs i).run P w=.ok () w'/\w'.heap.size=w.heap.size/\(∀k',k'≠k->w'.heap[k']? =w.heap[k']?)/\ ∃c':Array Value,w'.heap[k]? =some (.cells c' T (0,0))/\c'.size=c.size/\
   ∀j,c'[j]? =if off+i<=j/\j<off+i+vs.length then vs[j - (off+i)]? else c[j]?
 |[],i,c,w,hb,hs,_=>⟨w,rfl,rfl,λ_ _=>rfl,c,hb,rfl,λj=>by rw[if_neg ψ]⟩
 |v::vs,i,c,w,hb,hs,hv=>by
  simp only[j_4]at hs
  have au:w.cell? ⟨k,off+i,none⟩=some (c[off+i]' ω):=by rw[sO hb];simp
  have hfz:w.frozen? ⟨k,off+i,none⟩=false:=by simp[World.frozen?,hb]
  have hb1:(w.setCell ⟨k,off+i,none⟩ v).heap[k]? =some (.cells (c.setIfInBounds (off+i) v) T (0,0)):=by
   simp[World.setCell,v_8,hb]
  obtain⟨w',e1,e2,e3,c',e4,e5,e6⟩:=cm k off T vs (i+1) (c.setIfInBounds (off+i) v) (w.setCell ⟨k,off+i,none⟩ v) hb1 χ (λu hu=>hv u (by simp[hu]))
  refine⟨w',?_,by rw[e2];simp,λk' hk'=>?_,c',e4,by simpa using e5,λj=>?_⟩
  .simp only[storeCells,Sem.run_bind,Addr.add_lit]
   rw[run_store P w _ v .plain (hv v ψ)]
   simp_all
  .rw[e3 k' hk']
   simp[World.setCell,v_8,j_6 hk']
  grind
def cK(k off:Nat)(T:TypeId): ∀(vs:List Value) (i:Nat) (c:Array Value) (w w':World),w.heap[k]? =some (.cells c T (0,0))->off+i+vs.length<=c.size->(∀v∈vs,v.oneCell'=true)->
  (storeCells ⟨k,off,none⟩ vs i).run P w=.ok () w'->fK w w'
 |[],i,c,w,w',hb,hs,_,h=>by
  unfold storeCells at h
  rw[Sem.run_pure]at h
  cases h;exact fK.refl _
 |v::vs,i,c,w,w',hb,hs,hv,h=>by
  simp only[j_4]at hs
  have au:w.cell? ⟨k,off+i,none⟩=some (c[off+i]' ω):=by rw[sO hb];simp
  have hfz:w.frozen? ⟨k,off+i,none⟩=false:=by simp[World.frozen?,hb]
  have hb1:(w.setCell ⟨k,off+i,none⟩ v).heap[k]? =some (.cells (c.setIfInBounds (off+i) v) T (0,0)):=by
   simp[World.setCell,v_8,hb]
  simp only[storeCells,Sem.run_bind,Addr.add_lit]at h
  rw[run_store P w _ v .plain (hv v ψ)]at h
  simp only[au,hfz,Result.andThen_ok,g_7,if_false]at h
  exact fK.trans (w2:=w.setCell ⟨k,off+i,none⟩ v) ⟨rfl,rfl⟩ (cK k off T vs (i+1) (c.setIfInBounds (off+i) v) (w.setCell ⟨k,off+i,none⟩ v) w' hb1 χ (λu hu=>hv u (by simp[hu])) h)
end
section
variable {P:Program} {pu:Bool} {st:St}
def Aw(P:Program)(st:St)(T:TypeId)(x y:Operand):Option St:=
 match rI st x,cx st y with
 |some (s,off),some d=>match BM st s with
  |some cs=>if(P.underlying T).isNone=false/\d.cells.length=P.cellsOf T/\off+P.cellsOf T<=cs.length then some (st.set s (.box (setCells cs off d.cells)))else none
  |none=>none
 |_,_=>none
def vQ(hb:off+ys.length<=cs.length)(h:(setCells cs off ys)[j]? =some s):
  (off<=j/\j<off+ys.length/\ ∃y,ys[j - off]? =some y/\s=.d y)\/((j<off\/off+ys.length<=j)/\cs[j]? =some s):=by
 unfold setCells at h
 by_cases c1:j<off
 .grind
 .by_cases c2:j<off+ys.length
  .grind
  .rw[h_5 χ,List.getElem?_drop]at h
   grind
def vP(hb:off+ys.length<=cs.length):(setCells cs off ys).length=cs.length:=by
 simp[setCells];omega
def aO.block(hk:g.ow k=tag)(ho:o≠tag)(hw: ∀k',k'≠k->w'.heap[k']? =w.heap[k']?):aO o g w g w':=by
 intro k' b h1 h2
 grind
def jO.store(hop:o.op=.store T x y)(hd:o.dst=none)(hv:Aw P st T x y=some st'):jO P pu st o st':=by
 refine jO.skip λa w g hr=>?_
 unfold Aw at hv
 split at hv
 .rename_i s off d hx hy
  split at hv
  .rename_i cs hb
   split at hv
   .rename_i hc
    obtain⟨hu,hsz,hfit⟩:=hc
    cases hv
    have hs:st.tmps[s]? =some (.box cs):=by
     unfold BM at hb
     grind
    obtain⟨cs',k,e1,e2,e3⟩:=lB hr hx
    obtain⟨k',c,T0,f1,f2,f3,f4,f5⟩:=hr.tmp s _ hs
    rw[e2]at f1
    simp only[Value.pointer.injEq,g_2,Addr.mk.injEq,and_true]at f1
    subst f1
    have hrd:=cw hr hy
    obtain⟨c1,c2⟩:=hrd.cells
    have hone: ∀v∈(a.eval y).cells.toList,v.oneCell'=true:=λv hv=>by
     obtain⟨j,hj⟩:=h_2.1 hv
     have hlt:j<d.cells.length:=by grind
     obtain⟨u,u1,u2,u3⟩:=c2 j d.cells[j] (by simp[hlt])
     grind
    obtain⟨w',r1,r2,r3,c',r4,r5,r6⟩:=cm (P:=P) k off T0 (a.eval y).cells.toList 0 c w f3 (by simp[c1];omega) hone
    refine⟨w',g,?_,?_,?_⟩
    .unfold execOp;rw[hop]
     simp only[Instr.storeAt,Sem.run_bind,e3,Instr.sureAddr,Sem.run_pure,Result.andThen_ok,storeVar,gA hu]
     simp_all
    .rw[hd]
     have hlt:=aU hs
     refine bc hr (by simp[hr.len,eb]) hr.dS (λ_ _ h=>h) (λt s' hs'=>?_) ?_
     .by_cases ht:t=s
      .subst ht
       rw[St.set,g_0 hlt]at hs'
       cases hs'
       refine .inr (.inl ⟨k,c',T0,e2,f2,r4,by rw[r5,f4,vP ω],λj sv hj=>?_⟩)
       have hkp: ∀o',o'≠.box t->aO o' g w g w':=λo' ho=>aO.block f2 ho r3
       rcases vQ ω hj with⟨h1,h2,y',h3,rfl⟩|⟨h1,h2⟩
       .obtain⟨u,u1,u2,u3⟩:=c2 _ _ h3
        refine⟨u,?_,Rd.bg (hkp _ ψ) (λ_ _ h=>h) u2,u3⟩
        grind
       .obtain⟨u,u1,u2,u3⟩:=f5 j sv h2
        refine⟨u,?_,u2.bg (hkp _ ψ) (hkp _ ψ) (λ_ _ h=>h),u3⟩
        grind
      .simp only[St.set,g_1 (j_6 ht)]at hs'
       refine .inr (.inr ⟨hs',rfl,λo' ho'=>aO.block f2 (λe=>?_) r3,λs1 e=>⟨rfl,λxq hxq hb=>?_⟩⟩)
       .subst e
        cases s'<;>simp[jQ]at ho'
        exact ht ho'.symm
       .by_cases h1:s1=s
        .subst h1
         rw[hs]at hxq;cases hxq
         exact⟨.box (setCells cs _ d.cells),by rw[St.set,g_0 hlt],rfl⟩
        .exact⟨xq,by simp[St.set,g_1 (j_6 h1),hxq],rfl⟩
     .refine hr.hp.bg (λo' ho'=>aO.block f2 (λe=>?_) r3) (λ_ _ h=>h) rfl
      subst e
      exact ho'.elim
    .exact Fr.of (λo=>o=.box s) (by rintro _ rfl;simp) (by rw[r2];exact h_0 _) (λo' ho'=>aO.block f2 ho' r3) rfl (cK (P:=P) k off T0 (a.eval y).cells.toList 0 c w w' f3 (by simp[c1];omega) hone r1)
   .cases hv
  .cases hv
 .cases hv
def je(g:Gh)(w:World)(news:Array Value)(n:Nat)(ys:List D):Prop:=
 news.size=ys.length * n/\(∀(i:Nat) (x:D),ys[i]? =some x->x.cells.length=n)/\
 ∀(i:Nat) (x:D),ys[i]? =some x-> ∀(j:Nat) (y:D),x.cells[j]? =some y-> ∃u,news[i * n+j]? =some u/\Rd g w u y/\u.oneCell'=true
def je.one(h:je g w news n ys): ∀v∈news.toList,v.oneCell'=true:=by
 intro v hv
 obtain⟨j,hj⟩:=h_2.1 hv
 have hlt:j<ys.length * n:=by rw[<-h.1];have:=aU hj;simpa using this
 have hn:0<n:=by
  grind
 have h1:j / n<ys.length:=(Nat.div_lt_iff_lt_mul hn).2 hlt
 have h2:j % n<n:=Nat.mod_lt _ hn
 have hw:=h.2.1 (j / n) ys[j / n] (by simp[h1])
 obtain⟨u,u1,u2,u3⟩:=h.2.2 (j / n) ys[j / n] (by simp[h1]) (j % n) (ys[j / n].cells[j % n]' ω) ψ
 rw[Nat.div_add_mod' j n]at u1
 grind
def eZ.flat(hn:0<n)(h:eZ g w l v n xs):
  ∃news,je g w news n xs/\(∀w',(Builtin.lenOf v).run P w'=.ok xs.length w')/\ ∀w',Up w w'->(Builtin.firstCells n xs.length v).run P w'=.ok news w':=by
 rcases h with⟨rfl,a,cap,rfl⟩|⟨k,off,cap,c,T,fz,us,rfl,hk,hb,hp,hw,hc,hr⟩
 .refine⟨#[],⟨ψ,ψ,ψ⟩,λ_=>rfl,λw' _=>?_⟩
  cases a<;>simp[Builtin.firstCells,loadCells,loadCellsFrom]
 .rcases Nat.eq_zero_or_pos xs.length with h0|h0
  .have:xs=[]:=List.eq_nil_of_length_eq_zero h0
   subst this
   refine⟨#[],⟨ψ,ψ,ψ⟩,λ_=>rfl,λw' _=>?_⟩
   simp[Builtin.firstCells,loadCells,loadCellsFrom]
  have hs:off+xs.length * n<=c.size:=by
   have hlt:xs.length - 1<xs.length:=by omega
   have hx:xs[xs.length - 1]? =some xs[xs.length - 1]:=by simp[hlt]
   have hcl:=hw _ _ hx
   obtain⟨h1,-⟩:=hc _ _ hx (n - 1) (xs[xs.length - 1].cells[n - 1]' ω) ψ
   have:=pb h1
   have h2:xs.length * n=(xs.length - 1) * n+n:=by
    obtain⟨m,hm⟩: ∃m,xs.length=m+1:=⟨xs.length - 1,ω⟩
    grind
   omega
  refine⟨c.extract off (off+xs.length * n),⟨?_,hw,λi x hx j y hy=>?_⟩,λ_=>rfl,λw' hw'=>?_⟩
  .simp[p_7 hs]
  .refine⟨us i j,?_,hr i x hx j y hy,(hc i x hx j y hy).2⟩
   have hi:=aU hx
   have hj:j<n:=by rw[<-hw i x hx];exact aU hy
   have hlt:i * n+j<xs.length * n:=by
    have:(i+1) * n<=xs.length * n:=h_7 n hi
    grind
   grind
  .simp only[Builtin.firstCells]
   exact jR (P:=P) (hw' _ _ hb) hs
def kg(l:List UInt8):List D:=l.map λb=>.int .u8 b.toNat
def Nr:
  ∃news,je g w news 1 (kg l)/\(∀w',(Builtin.lenOf (.string (mk l))).run P w'=.ok (kg l).length w')/\ ∀w',(Builtin.firstCells 1 (kg l).length (.string (mk l))).run P w'=.ok news w':=by
 refine⟨(l.map λb=>Value.int .u8 b.toNat).toArray,⟨by simp[kg],λi x hx=>?_,λi x hx j y hy=>?_⟩,λw'=>?_,λw'=>?_⟩
 .simp only[kg,h_1,g_4]at hx
  obtain⟨b,-,rfl⟩:=hx;rfl
 .simp only[kg,h_1,g_4]at hx
  obtain⟨b,hb,rfl⟩:=hx
  cases j with
  |zero=>simp[D.cells]at hy;subst hy;exact⟨.int .u8 b.toNat,by simp[hb],.int,rfl⟩
  |succ j=>simp[D.cells]at hy
 .simp[Builtin.lenOf,kg,qZ]
 .simp only[Builtin.firstCells,kg,k_0,Sem.run_pure]
  congr 1
  apply v_5
  simp[mk,ByteArray.data_extract]
def zc(hv:v=.slice base sLen sCap)
  (ht:P.underlying T=some (.slice e)) (hi:P.info? e=some i) (hz:i.zero=some z) (h2: ∃d,P.underlying T2=some d/\ ∀k,d≠.int k)
  (hlen: ∀w',(Builtin.lenOf x).run P w'=.ok m w') (xU: ∀w',Up w w'->(Builtin.firstCells i.size m x).run P w'=.ok news w') (hold: ∀w',Up w w'->(Builtin.firstCells i.size sLen v).run P w'=.ok olds w')
  (h63:sLen+m<=maxLen) (hb:(sLen+m) * i.bytes<=140737488355328):
  (sLen+m<=sCap->(Builtin.append_ #[T,T2] ty #[v,x]).run P w=((match base with|some a=>storeCells (a.add (sLen * i.size)) news.toList|none=>pure ()).run P w).andThen λ_ w'=>.ok (.slice base (sLen+m) sCap) w')/\
  (sCap<sLen+m->(Builtin.append_ #[T,T2] ty #[v,x]).run P w=.ok (.slice (some ⟨w.heap.size,0,none⟩) (sLen+m) (grownCap w (sLen+m) sCap e))
   (w.drew.alloc (.cells (olds++news++Builtin.zeroCells z.cells (grownCap w (sLen+m) sCap e - (sLen+m))) e))):=by
 subst hv
 obtain⟨d,hd,hd2⟩:=h2
 have hzeros:(match d with|.int _=>true|_=>false)=false:=by cases d<;>simp at hd2 ⊢
 have h63': ¬((9223372036854775807:Int)<(sLen:Int)+(m:Int)):=by unfold maxLen at h63;omega
 constructor
 .intro hc
  cases base with
  |some a=>simp[Builtin.append_,run_underlying ht,run_underlying hd,sizeOf,typeInfo,hi,hlen,hzeros,hc,xU w (Up.refl w)]
  |none=>simp[Builtin.append_,run_underlying ht,run_underlying hd,sizeOf,typeInfo,hi,hlen,hzeros,hc,xU w (Up.refl w)]
 .intro hc
  have hn: ¬(sLen+m<=sCap):=by omega
  have h48: ¬(281474976710656<Builtin.nextslicecap (sLen+m) sCap * i.bytes):=by have:=growslice_fits hc hb;omega
  have hup:Up w w.drew:=λ_ _ h=>h
  simp[Builtin.append_,run_underlying ht,run_underlying hd,sizeOf,typeInfo,zeroValue,hi,hz,hlen,hzeros,hn,h63',h48,Question.forced,xU w.drew hup,hold w.drew hup,newRow,grownCap]
def Rel.replace(hr:Rel st a w g)(hk: ∀o,o≠.bN (.slot s)->aO o g w g' w')(hρ:g'.ρ=g.ρ)
  (hres: ∀tm val,RS g' w' tm val d v' sv):Rel ((st.take s).put (some d) sv) (a.put (some d) v') w' g':=by
 refine bc hr (by rw[eb,cU,gF];exact hr.len) (by rw[put_defers];exact hr.dS) (λ_ _ h=>by rw[hρ];exact h) (λt s' hs'=>?_) ?_
 .by_cases ht:t=d
  .subst ht
   obtain⟨rfl,hlt⟩:=bY hs'
   refine .inr (.inl ?_)
   rw[bW (by rw[hr.len];simpa using hlt)]
   exact hres _ _
  .rcases mL hr (jh:=st.take s) v' (λt s h=>(cJ h).imp id λh=>h.1) (λt s x h s1 e hx hb=>jY h s1 e hx hb) (by simpa using j_6 ht) hs' with h|⟨h1,h2,h3,h4,h5⟩
   .exact .inl h
   .rcases cJ h1 with h|⟨-,h6,h7⟩
    .exact .inl h
    .exact .inr (.inr ⟨h2,h3,λo' ho'=>hk o' (jP h6 h7 ho').2.1,h5⟩)
 .rw[fw,pc]
  refine hr.hp.bg (λo' ho'=>hk o' λe=>?_) (λ_ _ h=>by rw[hρ];exact h) (by rw[hρ])
  subst e;exact ho'.elim
def Rel.NH(hr:Rel st a w g)(hk: ∀o,aO o g w g' w')(hρ:g'.ρ=g.ρ)
  (hres: ∀tm val,RS g' w' tm val d v' sv):Rel (st.put (some d) sv) (a.put (some d) v') w' g':=by
 refine bc hr (by rw[eb,cU];exact hr.len) (by rw[put_defers];exact hr.dS) (λ_ _ h=>by rw[hρ];exact h) (λt s' hs'=>?_) ?_
 .by_cases ht:t=d
  .subst ht
   obtain⟨rfl,hlt⟩:=bY hs'
   refine .inr (.inl ?_)
   rw[bW (by rw[hr.len];exact hlt)]
   exact hres _ _
  .rcases mL hr (jh:=st) v' (λt s h=>.inr h) (λt s x h s1 e hx hb=>⟨x,hx,rfl⟩) (by simpa using j_6 ht) hs' with h|⟨h1,h2,h3,h4,h5⟩
   .exact .inl h
   grind
 .rw[fw]
  exact hr.hp.bg (λo' ho'=>hk o') (λ_ _ h=>by rw[hρ];exact h) (by rw[hρ])
def lD(hl: ∀i j,l≠.au i j)(hs:w.heap.size<=w'.heap.size)(hk: ∀o,o≠.bN l->aO o g w g' w')(hρ:g'.ρ=g.ρ)(hos:fK w w':=by exact⟨rfl,rfl⟩):Fr pu g w g' w':=
 Fr.of (λo=>o=.bN l) φ hs hk hρ hos
def cy.new(hfl:je g w news n ys)(hb:w'.heap[k]? =some (.cells (news++rest) e (0,0)))(ho:g'.ow k=.bN o)
  (hm:ys.length=m) (hcap:m<=cap) (hrest:rest.size=(cap - m) * n) (hk:aO .free g w g' w') (hρ:eB g g'):cy g' w' o (.slice (some ⟨k,0,none⟩) m cap) n ys:=by
 obtain⟨h1,h2,h3⟩:=hfl
 have: ∃us:Nat->Nat->Value,∀(i:Nat) (x:D),ys[i]? =some x-> ∀(j:Nat) (y:D),x.cells[j]? =some y->news[i * n+j]? =some (us i j)/\Rd g w (us i j) y/\(us i j).oneCell'=true:=
  ⟨λi j=>news.getD (i * n+j) undef,λi x hx j y hy=>by
   obtain⟨u,u1,u2,u3⟩:=h3 i x hx j y hy
   simp_all⟩
 obtain⟨us,hus⟩:=this
 subst hm
 refine .inr ⟨k,0,cap,news++rest,e,us,rfl,ho,hb,hcap,?_,h2,λi x hx j y hy=>?_,λi x hx j y hy=>(hus i x hx j y hy).2.1.bg hk hρ⟩
 .rw[Array.size_append,h1,hrest,<-v_0,q_4]
  grind
 grind
def je.append(h1:je g w a n xs)(h2:je g w b n ys):je g w (a++b) n (xs++ys):=by
 refine⟨by rw[Array.size_append,h1.1,h2.1,h_9,v_0],λi x hx=>?_,λi x hx j y hy=>?_⟩
 .by_cases hi:i<xs.length
  .rw[h_6 hi]at hx;exact h1.2.1 i x hx
  .rw[h_5 ω]at hx;exact h2.2.1 _ x hx
 .by_cases hi:i<xs.length
  .rw[h_6 hi]at hx
   obtain⟨u,u1,u2⟩:=h1.2.2 i x hx j y hy
   grind
  .rw[h_5 ω]at hx
   obtain⟨u,u1,u2⟩:=h2.2.2 _ x hx j y hy
   refine⟨u,?_,u2⟩
   have hge:xs.length * n<=i * n:=h_7 n ω
   rw[q_0 (by rw[h1.1];omega),h1.1]
   rw[show i * n+j - xs.length * n=(i - xs.length) * n+j by rw[Nat.sub_mul];omega]
   exact u1
def ve(P:Program)(T:TypeId):Option (Nat×Nat):=
 match P.underlying T with
 |some (.slice e)=>match P.info? e with
  |some i=>match i.zero with
   |some z=>if(z.cells.size=i.size/\(mR z).isSome=true)/\0<i.size then some (i.size,i.bytes)else none
   |none=>none
  |none=>none
 |_=>none
def NO(P:Program)(T:TypeId):Bool:=match P.underlying T with|some (.int _)|none=>false|_=>true
def Ke(st:St)(x:Operand):Option (Nat×List D):=
 match cx st x with
 |some (.str l)=>some (1,kg l)
 |_=>match kY st x with
  |some (_,n,xs)=>some (n,xs)
  |none=>none
def F6(hr:Rel st a w g)(hv:Ke st x=some (m,ys))(hn:0<n)(hm:m=n\/ys=[]):
  ∃news,je g w news n ys/\(∀w',(Builtin.lenOf (a.eval x)).run P w'=.ok ys.length w')/\ ∀w',Up w w'->(Builtin.firstCells n ys.length (a.eval x)).run P w'=.ok news w':=by
 unfold Ke at hv
 split at hv
 .rename_i l hl
  cases hv
  rw[cg hr hl rfl]
  by_cases h1:1=n
  .subst h1
   obtain⟨news,e1,e2,e3⟩:=Nr (P:=P) (g:=g) (w:=w) (l:=l)
   grind
  .have h2:kg l=[]:=hm.resolve_left h1
   have:l=[]:=by simpa[kg]using h2
   subst this
   refine⟨#[],⟨by simp[kg],by simp[kg],by simp[kg]⟩,λw'=>by simp[Builtin.lenOf,kg,qZ],λw' _=>?_⟩
   simp[Builtin.firstCells,kg,mk,ByteArray.data_extract]
 .split at hv
  .rename_i l n' xs hl
   cases hv
   have hL:=gD hr hl
   rcases hm with rfl|rfl
   .exact hL.flat hn
   .have hL':eZ g w l (a.eval x) n []:=by
     rcases hL with h|⟨k,off,cap,c,T,fz,us,h1,h2,h3,h4,h5⟩
     .exact .inl h
     .exact .inl ⟨rfl,_,_,h1⟩
    exact hL'.flat hn
  .cases hv
def Fq(hn:0<n)(h:cy g w o v n xs):
  ∃olds base cap,v=.slice base xs.length cap/\je g w olds n xs/\ ∀w',Up w w'->(Builtin.firstCells n xs.length v).run P w'=.ok olds w':=by
 obtain⟨olds,e1,-,e3⟩:=(cy.oJ h).flat (P:=P) hn
 rcases h with⟨rfl,a,rfl⟩|⟨k,off,cap,c,T,us,rfl,-⟩
 .exact⟨olds,_,_,rfl,e1,e3⟩
 grind
def iG{o:Oper}{c:Call}{a:Act}{w:World}{x y:Operand}{T T2:TypeId}(hop:o.op=.call c)(hc:c.callee=.builtin .append)(ha:c.args.toList=[x,y])(ht:c.argTypes.toList=[T,T2]){v:Value}{w':World}
  (h:(Builtin.append_ #[T,T2] o.type #[a.eval x,a.eval y]).run P w=.ok v w'):(execOp a.eval o).run P w=.ok (.value v) w':=by
 obtain⟨callee,args,argTypes⟩:=c
 have ha2:args= #[x,y]:=by apply v_5;simpa using ha
 have ht2:argTypes= #[T,T2]:=by apply v_5;simpa using ht
 subst ha2 ht2
 simp only at hc
 subst hc
 unfold execOp
 rw[hop]
 simp only[resolve,p_2,h_3,q_7,Sem.run_bind,Sem.run_pure,Result.andThen_ok,invoke,builtin]
 simp[h]
def jO.append(hop:o.op=.call c)(hc:c.callee=.builtin .append)(ha:c.args.toList=[.tmp s,y])(ht:c.argTypes.toList=[T,T2])
  (hd:o.dst=some d) (hs:st.tmps[s]? =some (.own n xs)) (hy:Ke st y=some (m,ys)) (hT:ve P T=some (n,b)) (h2:NO P T2=true) (hm:m=n\/ys=[])
  (hlen:xs.length+ys.length<=maxLen) (hby:(xs.length+ys.length) * b<=140737488355328):jO P pu st o ((st.take s).put (some d) (.own n (xs++ys))):=by
 refine jO.value λa w g hr=>?_
 unfold ve at hT
 split at hT
 .rename_i e hu
  split at hT
  .rename_i i hi
   split at hT
   .rename_i z hz
    split at hT
    .rename_i hsz
     obtain⟨⟨hzs,-⟩,hn⟩:=hsz
     cases hT
     have h2': ∃dd,P.underlying T2=some dd/\ ∀k,dd≠.int k:=by
      unfold NO at h2
      cases hu2:P.underlying T2 with
      |none=>rw[hu2]at h2;simp at h2
      |some dd=>grind
     have hO:=hr.tmp s _ hs
     obtain⟨news,n1,n2,n3⟩:=F6 (P:=P) hr hy hn hm
     obtain⟨olds,base,cap,hv,o1,o2⟩:=Fq (P:=P) hn (hO:cy g w (.slot s) (valOf a s) i.size xs)
     obtain⟨room,grow⟩:=zc (P:=P) (T:=T) (T2:=T2) (ty:=o.type) (v:=valOf a s) (x:=a.eval y) (w:=w) hv hu hi hz h2' n2 n3 o2 hlen hby
     rw[hd]
     by_cases hroom:xs.length+ys.length<=cap
     .
      have hr1:=room hroom
      rcases hO with⟨hx,a0,hva⟩|⟨k,off,cap',cc,T0,us,hva,hk,hb,hcap,hfit,hw,hcc,hrr⟩
      .have hva':valOf a s=.slice a0 0 0:=hva
       rw[hva']at hv
       simp only[Value.slice.injEq]at hv
       obtain⟨rfl,-,rfl⟩:=hv
       subst hx
       have hys:ys=[]:=List.eq_nil_of_length_eq_zero (by simpa using hroom)
       subst hys
       have hnews:news= #[]:=Array.eq_empty_of_size_eq_zero (by rw[n1.1];simp)
       subst hnews
       refine⟨.slice a0 0 0,w,g,iG hop hc ha ht ?_,?_,Fr.refl _ _ _⟩
       .rw[BC,hr1]
        cases a0<;>simp[storeCells]
       .exact hr.replace (λ_ _=>aO.refl _ _ _) rfl (λ_ _=>.inl ⟨rfl,a0,rfl⟩)
      .have hva':valOf a s=.slice (some ⟨k,off,none⟩) xs.length cap':=hva
       rw[hva']at hv
       simp only[Value.slice.injEq]at hv
       obtain⟨rfl,-,rfl⟩:=hv
       have hmul:(xs.length+ys.length) * i.size<=cap' * i.size:=h_7 _ hroom
       rw[v_0]at hmul
       obtain⟨w',r1,r2,r3,c',r4,r5,r6⟩:=cm (P:=P) k (off+xs.length * i.size) T0 news.toList 0 cc w hb (by simp[n1.1];omega) n1.one
       have hkeep: ∀o',o'≠.bN (.slot s)->aO o' g w (g.br (Ge (.slot s) (.slot d))) w':=λo' ho' k' b' h1 h2=>by
        have:k'≠k:=by grind
        refine⟨by simp only[Gh.br,h1];exact eR ho',by rw[r3 k' this];exact h2⟩
       refine⟨.slice (some ⟨k,off,none⟩) (xs.length+ys.length) cap',w',g.br (Ge (.slot s) (.slot d)),iG hop hc ha ht ?_,?_,lD ψ (by rw[r2];exact h_0 _) hkeep rfl (cK (P:=P) k (off+xs.length * i.size) T0 news.toList 0 cc w w' hb (by simp[n1.1];omega) n1.one r1)⟩
       .rw[BC,hr1]
        simp only[Addr.add_lit,r1,Result.andThen_ok]
       .refine hr.replace hkeep rfl λ_ _=>?_
        have hkf:aO .free g w (g.br (Ge (.slot s) (.slot d))) w':=hkeep _ ψ
        have: ∃us':Nat->Nat->Value,∀(i':Nat) (x:D),ys[i']? =some x-> ∀(j:Nat) (y:D),x.cells[j]? =some y->news[i' * i.size+j]? =some (us' i' j)/\Rd g w (us' i' j) y/\(us' i' j).oneCell'=true:=
         ⟨λi' j=>news.getD (i' * i.size+j) undef,λi' x hx j y hy=>by
          obtain⟨u,u1,u2,u3⟩:=n1.2.2 i' x hx j y hy
          simp_all⟩
        obtain⟨us',hus'⟩:=this
        refine .inr ⟨k,off,cap',c',T0,λi' j=>if i'<xs.length then us i' j else us' (i' - xs.length) j,by rw[h_9],by simp[Gh.br,hk,se],r4,by simpa using hroom,by rw[r5];exact hfit,λi' x hx=>?_,λi' x hx j y hy=>?_,λi' x hx j y hy=>?_⟩
        .by_cases h:i'<xs.length
         .grind
         .rw[h_5 ω]at hx;exact n1.2.1 _ x hx
        .by_cases h:i'<xs.length
         .rw[h_6 h]at hx
          simp only[h,if_true]
          have hj:j<i.size:=by grind
          have hlt:i' * i.size+j<xs.length * i.size:=by
           have:(i'+1) * i.size<=xs.length * i.size:=h_7 _ h
           grind
          grind
         .rw[h_5 ω]at hx
          simp only[h,if_false]
          obtain⟨u1,u2,u3⟩:=hus' _ x hx j y hy
          have hlt:=pb u1
          have hge:xs.length * i.size<=i' * i.size:=h_7 _ ω
          have hsub:(i' - xs.length) * i.size=i' * i.size - xs.length * i.size:=Nat.sub_mul _ _ _
          rw[r6,if_pos χ]
          grind
        .by_cases h:i'<xs.length
         .rw[h_6 h]at hx
          simp only[h,if_true]
          exact(hrr i' x hx j y hy).bg hkf (λ_ _ h=>h)
         .rw[h_5 ω]at hx
          simp only[h,if_false]
          exact(hus' _ x hx j y hy).2.1.bg hkf (λ_ _ h=>h)
     .
      have hr2:=grow ω
      have hge:=grownCap_ge w (xs.length+ys.length) cap e
      generalize hgc:grownCap w (xs.length+ys.length) cap e=gc at hr2 hge
      have hkeep: ∀o',o'≠.bN (.slot s)->aO o' g w ((g.br (Ge (.slot s) (.slot d))).xe w.heap.size (.bN (.slot d))) (w.drew.alloc (.cells (olds++news++Builtin.zeroCells z.cells (gc - (xs.length+ys.length))) e)):=λo' ho'=>
       aO.trans (aO.br (eR ho')) (aO.alloc (w:=w.drew))
      refine⟨_,_,(g.br (Ge (.slot s) (.slot d))).xe w.heap.size (.bN (.slot d)),iG hop hc ha ht (by rw[BC,hr2]),?_,lD ψ ψ hkeep rfl⟩
      refine hr.replace hkeep rfl λ_ _=>?_
      exact cy.new (je.append o1 n1) (heap_alloc w.drew _) ψ ψ hge (by rw[size_zeroCells,hzs]) (hkeep _ ψ) (λ_ _ h=>h)
    .cases hT
   .cases hT
  .cases hT
 .cases hT
end
section
variable {P:Program} {pu:Bool} {st:St}
def Sb(s:Sem Value)(h:s.run P w=.ok v w'):(do pure (.value (<-s)):Sem Next).run P w=.ok (.value v) w':=by
 simp[h]
def jV(ds:List (Nat×D)):List D:=(ds.map λp=>p.2.cells).flatten
def qp(n:Nat)(k:Nat):List (Nat×D)->Bool
 |[]=>true
 |(i,x)::r=>i==k&&x.cells.length==n&&qp n (k+1) r
def uD: ∀{k:Nat} {ds:List (Nat×D)},qp n k ds=true->(jV ds).length=ds.length * n
 |k,[],_=>by simp[jV]
 |k,(i,x)::r,h=>by
  simp only[qp,g_3,beq_iff_eq]at h
  have ih:=uD h.2
  simp only[jV,h_3,p_8,h_9,j_4]at ih ⊢
  rw[ih,h.1.2,v_9];omega
def DA(hn:0<n): ∀{ds:List (Nat×D)} {k:Nat} {done zs:List D},qp n k ds=true->done.length=k * n->zs.length=ds.length * n->
  yU (λi=>some (i * n,n)) (done++zs) ds=some (done++jV ds)
 |[],k,done,zs,_,_,hz=>by
  have:zs=[]:=List.eq_nil_of_length_eq_zero (by simpa using hz)
  subst this
  simp[yU,jV]
 |(i,x)::r,k,done,zs,h,hd,hz=>by
  simp only[qp,g_3,beq_iff_eq]at h
  obtain⟨⟨rfl,hx⟩,hr⟩:=h
  simp only[j_4,v_9]at hz
  simp only[yU]
  rw[if_neg (by simp[hx,hd];omega)]
  have e1:List.take (i * n) (done++zs)=done:=by rw[<-hd];exact List.take_left
  have e2:List.drop (i * n+n) (done++zs)=zs.drop n:=by
   rw[<-hd,List.drop_append]
   simp
  rw[e1,e2,DA hn hr (by simp[hd,hx,v_9]) χ]
  simp[jV]
def uE: ∀{ds:List (Nat×D)} {k:Nat},qp n k ds=true-> ∀(i:Nat) (x:D),(ds.map (·.2))[i]? =some x-> ∀(j:Nat) (y:D),x.cells[j]? =some y->(jV ds)[i * n+j]? =some y
 |[],k,_,i,x,hx,_,_,_=>by simp at hx
 |(i0,x0)::r,k,h,i,x,hx,j,y,hy=>by
  simp only[qp,g_3,beq_iff_eq]at h
  simp only[jV,h_3,p_8]
  cases i with
  |zero=>
   grind
  |succ i=>
   simp only[h_3,k_8]at hx
   rw[h_5 (by rw[h.1.2,v_9];omega),h.1.2,v_9]
   rw[show i * n+n+j - n=i * n+j by omega]
   exact uE h.2 i x hx j y hy
def yO: ∀{ds:List (Nat×D)} {k:Nat},qp n k ds=true-> ∀(i:Nat) (x:D),(ds.map (·.2))[i]? =some x->x.cells.length=n
 |[],k,_,i,x,hx=>by simp at hx
 |(i0,x0)::r,k,h,i,x,hx=>by
  simp only[qp,g_3,beq_iff_eq]at h
  cases i with
  |zero=>simp at hx;subst hx;exact h.1.2
  |succ i=>exact yO h.2 i x (by simpa using hx)
def jO.buildSlice(hop:o.op=.buildSlice T len parts)(hd:o.dst=some d)(hT:ve P T=some (n,b))
  (hp:qY st parts.toList=some ds) (hl:ds.length=len) (hok:qp n 0 ds=true) (hsz:len * n<=16777216):jO P pu st o (st.put (some d) (.own n (ds.map (·.2)))):=by
 refine jO.value λa w g hr=>?_
 unfold ve at hT
 split at hT
 .rename_i e hu
  split at hT
  .rename_i i hi
   split at hT
   .rename_i z hz
    split at hT
    .rename_i hs
     obtain⟨⟨hzs,hzd⟩,hn⟩:=hs
     cases hT
     obtain⟨hpl,hpr⟩:=qX hr hp
     have hfill: ∃cells',Instr.fill (λk=>some (k * i.size,i.size)) ((Array.range (len * i.size)).map λk=>z.cells[k % z.cells.size]!) (parts.map λ(k,x)=>(k,a.eval x)).toList=some cells'/\ma g w cells' (jV ds):=by
      obtain⟨zd,hzd⟩:=k_1.1 hzd
      have hzr:=(oB (g:=g) (w:=w) hzd).cells
      have hinit:ma g w ((Array.range (len * i.size)).map λk=>z.cells[k % z.cells.size]!) ((List.range (len * i.size)).map λk=>zd.cells.getD (k % i.size) .cG):=by
       refine⟨ψ,λj y hj=>?_⟩
       simp only[h_1,g_4]at hj
       obtain⟨j',hj',rfl⟩:=hj
       have hjj:j'=j:=by
        grind
       subst hjj
       have hjl:j'<len * i.size:=by grind
       have hm:j' % i.size<zd.cells.length:=by rw[<-hzr.1,hzs];exact Nat.mod_lt _ hn
       obtain⟨u,u1,u2,u3⟩:=hzr.2 (j' % i.size) zd.cells[j' % i.size] (by simp[hm])
       grind
      have hfd:=DA (n:=i.size) hn (ds:=ds) (k:=0) (done:=[]) (zs:=(List.range (len * i.size)).map λk=>zd.cells.getD (k % i.size) .cG) hok ψ (by simp[hl])
      simp only[m_5]at hfd
      exact rb (λ_=>rfl) ds _ _ _ _ hinit (by simpa using hpl) (λj p hj=>by
       grind) hfd
     obtain⟨cells',f1,f2⟩:=hfill
     rw[hd]
     have hkeep: ∀o',aO o' g w (g.xe w.heap.size (.bN (.slot d))) (w.alloc (.cells cells' e)):=λo'=>aO.alloc
     refine⟨.slice (some ⟨w.heap.size,0,none⟩) len len,w.alloc (.cells cells' e),g.xe w.heap.size (.bN (.slot d)),?_,?_,Fr.of (λ_=>False) ψ ψ (λo _=>hkeep o) rfl⟩
     .have hex:execOp a.eval o=(do pure (.value (<-Instr.buildSlice T len (parts.map λ(i,x)=>(i,a.eval x)))):Sem Next):=by unfold execOp;rw[hop]
      rw[hex]
      refine Sb _ ?_
      have hsize:(sizeOf e).run P w=.ok i.size w:=by simp[sizeOf,typeInfo,hi]
      have hzero:(zeroValue e).run P w=.ok z w:=by simp[zeroValue,typeInfo,hi,hz]
      simp only[Instr.buildSlice,Sem.run_bind,run_underlying hu,Result.andThen_ok,hsize]
      rw[if_neg (by simpa using hsz)]
      by_cases h0:len * i.size=0
      .have hlen0:len=0:=by
        rcases Nat.mul_eq_zero.1 h0 with h|h
        .exact h
        .omega
       subst hlen0
       have hp0:parts= #[]:=by
        grind
       subst hp0
       have hc0:cells'= #[]:=by
        simp[Instr.fill]at f1
        grind
       subst hc0
       have hr0:(Array.range 0).map (λk=>(#[]:Array Value)[k % (#[]:Array Value).size]!)= #[]:=v_5 ψ
       simp[Instr.fill,newRow]
       congr 2
      .simp only[h0,if_false,Sem.run_bind,hzero,Result.andThen_ok,Sem.run_pure]
       have f1':Instr.fill (λk=>some (k * i.size,i.size)) ((Array.range (len * i.size)).map λk=>z.cells[k % z.cells.size]!) (List.map (λx=>(x.fst,a.eval x.snd)) parts.toList)=some cells':=by
        simp_all
       simp[f1',newRow]
     .refine hr.NH hkeep rfl λ_ _=>?_
      have hflat:je g w cells' i.size (ds.map (·.2)):=by
       refine⟨by rw[f2.1,uD hok];simp,λk x hx=>yO hok k x hx,λk x hx j y hy=>?_⟩
       exact f2.2 _ y (uE hok k x hx j y hy)
      have:=cy.new (rest:= #[]) (m:=len) (cap:=len) (o:=.slot d) hflat (w':=w.alloc (.cells cells' e)) (g':=g.xe w.heap.size (.bN (.slot d))) (e:=e) (k:=w.heap.size) (by rw[Array.append_empty];exact heap_alloc _ _) ψ (by simpa using hl) (h_0 _) ψ (hkeep _) (λ_ _ h=>h)
      exact this
    .cases hT
   .cases hT
  .cases hT
 .cases hT
end
section
variable {P:Program} {pu:Bool} {st:St}
def iP(P:Program)(st:St)(o:Oper)(s:SV):Prop:=
 ∀a w g,Rel st a w g-> ∃v,BV g w st a v s/\ ∀w',Up w w'->(execOp a.eval o).run P w'=.ok (.value v) w'
def cA(h:CD P st o=some s):iP P st o s:=λ_ _ _ hr=>DK hr h
def MY(h:iP P st o s)(e:s=s'):iP P st o s':=e▸h
def iP.indexAddr{k:IntKind}(hop:o.op=.indexAddr T x i)(hl:kY st x=some (l,n,xs))(hi:fJ st i=some (k,j))
  (hn:(n !=0&&n==fy P T&&(arrayOf P T).isNone)=true) (h0:0<=j) (hy:xs[j.toNat]? =some y):iP P st o (bb l y.cells):=by
 simp only[g_3,bne_iff_ne,beq_iff_eq,m_2]at hn
 refine cA ?_
 simp only[CD,hop,pr,hi,hn.2,hl]
 grind
def iP.index{k:IntKind}(hop:o.op=.index T x i)(hl:cx st x=some (.str l))(hi:fJ st i=some (k,j))(hT:sF P T=true)(h0:0<=j)(hy:l[j.toNat]? =some b):
  iP P st o (.d (.int .u8 b.toNat)):=by
 refine cA ?_
 simp only[CD,hop,zS,hl,hi]
 rw[if_pos ⟨hT,h0⟩,hy]
 rfl
def iP.slice(hop:o.op=.slice T x lo hi none)(hx:(match cx st x with|some (.str _)=>false|_=>true)=true)
  (hl:kY st x=some (l,n,xs)) (hi':Hs st 0 lo=some i) (hj':Hs st xs.length hi=some j) (hn:(fy P T !=0&&n==fy P T)=true) (hij:i<=j) (hj:j<=xs.length):iP P st o (nq l n ((xs.take j).drop i)):=by
 simp only[g_3,bne_iff_ne,beq_iff_eq]at hn
 refine cA ?_
 simp only[CD,hop,zM,Option.isSome_none,g_7,if_false]
 grind
def Uu(s d:Nat):Own->Own
 |.bN (.comp t j)=>if t=s then .bN (.comp d j)else .bN (.comp t j)
 |o=>o
def Fv(hop:o.op=.move (.tmp s))(hs:st.tmps[s]? =some (.iQ vs))(hd:o.dst=some d)(hv:vs≠[]):jO P pu st o ((st.take s).put (some d) (.iQ vs)):=by
 refine jO.value λa w g hr=>?_
 have hexec:(execOp a.eval o).run P w=.ok (.value (valOf a s)) w:=by unfold execOp;rw[hop];rfl
 have hother: ∀o',(∀j,o'≠.bN (.comp s j))->Uu s d o'=o':=λo' h=>by
  unfold Uu
  grind
 rw[hd]
 refine⟨_,w,g.br (Uu s d),hexec,?_,⟨h_0 _,aO.br rfl,aO.br rfl,λ_ _ h=>h,λ_ i=>aO.br rfl,λ_ i j=>aO.br rfl,λ_=>rfl,⟨rfl,rfl⟩⟩⟩
 refine bc hr (by rw[eb,cU,gF];exact hr.len) (by rw[put_defers];exact hr.dS) (λ_ _ h=>h) (λt s' hs'=>?_) ?_
 .by_cases ht:t=d
  .subst ht
   obtain⟨rfl,hlt⟩:=bY hs'
   refine .inr (.inl ?_)
   rw[bW (by rw[hr.len];simpa using hlt)]
   obtain⟨us,e1,e2,e3⟩:=hr.tmp s _ hs
   refine⟨us,e1,e2,λj s' hj=>?_⟩
   obtain⟨u,f1,f2⟩:=e3 j s' hj
   refine⟨u,f1,?_⟩
   cases s' with
   |d x=>exact Rd.bg (aO.br rfl) (λ_ _ h=>h) f2
   |own n xs=>exact cy.br rfl (by simp[Uu]) f2
   |undef=>trivial
   |_=>exact f2.elim
  .rcases mL hr (jh:=st.take s) (valOf a s) (λt s h=>(cJ h).imp id λh=>h.1) (λt s x h s1 e hx hb=>jY h s1 e hx hb) (by simpa using j_6 ht) hs' with h|⟨h1,h2,h3,h4,h5⟩
   .exact .inl h
   .rcases cJ h1 with h|⟨-,h6,h7⟩
    .exact .inl h
    .exact .inr (.inr ⟨h2,h3,λo' ho'=>aO.br (hother o' (jP h6 h7 ho').2.2.2),h5⟩)
 .rw[fw,pc]
  refine RH.bg (g:=g) (w:=w) (λo' ho'=>aO.br (hother o' λj e=>?_)) (λ_ _ h=>h) rfl hr.hp
  subst e
  exact ho'.elim
def On(P:Program)(bO:List Nat)(st:St)(o:Oper):Option St:=
 match o.op with
 |.move (.tmp s)=>match st.tmps[s]? with
  |some (.own n xs)=>if(o.dst.map λd=>bO.contains d)=some true then some ((st.take s).put o.dst (.own n xs))else none
  |some (.iQ (v::vs))=>match o.dst with|some d=>some ((st.take s).put (some d) (.iQ (v::vs)))|none=>none
  |_=>none
 |.assign (.tmp s)=>match st.tmps[s]? with
  |some (.own n xs)=>some ((st.take s).put o.dst (.own n xs))
  |_=>none
 |.extract (.tmp s) j=>match st.tmps[s]? with
  |some (.iQ vs)=>match vs[j]? with
   |some (.own n xs)=>if o.dst≠some s then some (((st.kill s).set s (.iQ (vs.set j .undef))).put o.dst (.own n xs))else none
   |_=>none
  |_=>none
 |.alloc T=>match o.dst,zeroCells P T with
  |some d,some cs=>some (st.put (some d) (.box (cs.map .d)))
  |_,_=>none
 |.box _ x=>match o.dst,cx st x with
  |some d,some y=>some (st.put (some d) (.box (y.cells.map .d)))
  |_,_=>none
 |.store T x y=>if o.dst=none then Aw P st T x y else none
 |.buildSlice T len parts=>match o.dst,ve P T,qY st parts.toList with
  |some d,some (n,_),some ds=>if ds.length=len/\qp n 0 ds=true/\len * n<=16777216 then some (st.put (some d) (.own n (ds.map (·.2))))else none
  |_,_,_=>none
 |_=>none
def GZ(h:On P bO st o=some st'):jO P pu st o st':=by
 unfold On at h
 split at h
 .rename_i s hop
  split at h
  .rename_i n xs hs
   split at h
   .cases h;exact jO.move (.inl hop) hs
   .cases h
  .rename_i v vs hs
   split at h
   .rename_i d hd;cases h;exact Fv hop hs hd ψ
   .cases h
  .cases h
 .rename_i s hop
  split at h
  .rename_i n xs hs;cases h;exact jO.move (.inr hop) hs
  .cases h
 .rename_i s j hop
  split at h
  .rename_i vs hs
   split at h
   .rename_i n xs hj
    split at h
    .rename_i hd;cases h;exact jO.extract hop hs hj hd
    .cases h
   .cases h
  .cases h
 .rename_i T hop
  split at h
  .rename_i d cs hd hz;cases h;exact jO.alloc hop hd hz
  .cases h
 .rename_i T x hop
  split at h
  .rename_i d y hd hy;cases h;exact jO.box hop hd hy
  .cases h
 .rename_i T x y hop
  split at h
  .rename_i hd;exact jO.store hop hd h
  .cases h
 .rename_i T len parts hop
  split at h
  .rename_i d n b ds hd hT hp
   split at h
   .rename_i hc;cases h;exact jO.buildSlice hop hd hT hp hc.1 hc.2.1 hc.2.2
   .cases h
  .cases h
 .cases h
def NK(P:Program)(bO:List Nat)(ops:Array Oper)(st:St)(o:Oper):Option St:=
 match fG ops st o with
 |some false=>some (st.put o.dst (.iQ []))
 |some true=>match On P bO st o with
  |some st'=>some st'
  |none=>match CD P st o with
   |some s=>if kx o.dst s then some (st.put o.dst s)else none
   |none=>none
 |none=>none
def fX(P:Program)(bO:List Nat)(ops:Array Oper):Nat->Nat->St->Option St
 |0,_,st=>some st
 |n+1,k,st=>match ops[k]? with
  |some o=>match NK P bO ops st o with
   |some st'=>fX P bO ops n (k+1) st'
   |none=>none
  |none=>none
def cf(P:Program)(pu:Bool)(ops:Array Oper)(k:Nat)(st:St)(Q:St->Prop):Prop:=OW P pu ops (ops.toList.drop k) st Q
variable {ops:Array Oper} {Q:St->Prop} {k:Nat}
def drop_cons(h:ops[k]? =some o):ops.toList.drop k=o::ops.toList.drop (k+1):=by
 have hlt:=pb h
 rw[p_9 (by simpa using hlt)]
 grind
def Ig(h:(ops.size<=k)=True)(hq:Q st):cf P pu ops k st Q:=by
 have h:ops.size<=k:=of_eq_true h
 unfold cf
 rw[p_0 (by simpa using h)]
 exact OW.nil hq
def Fy(ho:ops[k]? =some o)(hw:fG ops st o=some true)(hb:iP P st o s)(hl:kx o.dst s=true)(cR:st.put o.dst s=st')(h:cf P pu ops (k+1) st' Q):cf P pu ops k st Q:=by
 subst cR
 unfold cf at h ⊢
 rw[drop_cons ho]
 intro a w g hr Qc hq
 unfold wpList
 rw[bt hr hw,if_pos rfl]
 refine .inl ?_
 obtain⟨v,e1,e2⟩:=hb a w g hr
 unfold Oper.wp
 rw[e2 w (Up.refl w),Oper.upon_value]
 exact h _ w g (hr.wa e1 hl) Qc hq
def pO(ho:ops[k]? =some o)(hw:fG ops st o=some true)(he:jO P pu st o st')(h:cf P pu ops (k+1) st' Q):cf P pu ops k st Q:=by
 unfold cf at h ⊢
 rw[drop_cons ho]
 exact OW.op hw he h
def qy(n:Nat)(hr:fX P bO ops n k st=some st')(h:cf P pu ops (k+n) st' Q):cf P pu ops k st Q:=by
 induction n generalizing k st with
 |zero=>cases hr;exact h
 |succ n ih=>
  simp only[fX]at hr
  split at hr
  .rename_i o ho
   split at hr
   .rename_i jh h1
    have ih':=ih hr φ
    unfold NK at h1
    split at h1
    .rename_i hw
     cases h1
     unfold cf at ih' ⊢
     rw[drop_cons ho]
     exact OW.skip hw ih'
    .rename_i hw
     split at h1
     .rename_i iY h2
      cases h1
      exact pO ho hw (GZ h2) ih'
     .split at h1
      .rename_i s hb
       split at h1
       .rename_i hl
        cases h1
        exact Fy ho hw (cA hb) hl rfl ih'
       .cases h1
      .cases h1
    .cases h1
   .cases hr
  .cases hr
def MP(tr:List Nat){cs:PK}(ho:ops[k]? =some o)(hw:fG ops st o=some true)(hop:o.op=.call c)
  (hc:rH P st tr c=some ⟨f,args,ls,gs⟩) (hp:PC P f args r) (hr:pg r=true) (hlend:(ls.isEmpty||mP r)=true) (cR:(st.lI gs).put o.dst r=st') (h:cf P pu ops (k+1) st' Q):cf P pu ops k st Q:=by
 subst cR
 unfold cf at h ⊢
 rw[drop_cons ho]
 exact OW.call tr hw hop hc hp hr (by simpa using hlend) h
def ah{id:Nat}{Q:Exit->St->Prop}(h:cf P pu ops 0 st (Q .normal)):SW P pu (.region id ops false) st Q:=
 λa w g hr=>wp_region_list (h a w g hr _ λst' _ _ g' q r f=>⟨st',g',q,r,f⟩)
def Rel.drew(h:Rel st a w g):Rel st a w.drew g:=h.world (λ_ _ _ h1 h2=>⟨h1,h2⟩) (λ_ _ h=>h) rfl
def Fr.drew:Fr pu g w g w.drew:=⟨h_0 _,λ_ _ h1 h2=>⟨h1,h2⟩,λ_ _ h1 h2=>⟨h1,h2⟩,λ_ _ h=>h,λ_ _ _ _ h1 h2=>⟨h1,h2⟩,λ_ _ _ _ _ h1 h2=>⟨h1,h2⟩,λ_=>rfl,⟨rfl,rfl⟩⟩
def OB(P:Program)(ops:Array Oper)(l:List Oper)(st:St)(Q:St->Prop):Prop:=
 ∀a w g,Rel st a w g-> ∀Qc:Act->Prop,(∀st' a' g',Q st'->Rel st' a' w g'->(∀pu,Fr pu g w g' w)->Qc a')->wpStill P ops w Qc l a
def lh(P:Program)(ops:Array Oper)(m k:Nat)(st:St)(Q:St->Prop):Prop:=OB P ops ((ops.toList.take m).drop k) st Q
def Px(h:(m<=k)=True)(hq:Q st):lh P ops m k st Q:=by
 have h:m<=k:=of_eq_true h
 unfold lh
 rw[p_0 χ]
 exactλa w g hr Qc hc=>hc st a g hq hr λ_=>Fr.refl _ _ _
def vq(h:ops[k]? =some o)(hm:k<m):(ops.toList.take m).drop k=o::(ops.toList.take m).drop (k+1):=by
 have hlt:=pb h
 rw[p_9 χ]
 grind
def Py(hm:(k<m)=True)(ho:ops[k]? =some o)(hw:fG ops st o=some true)(hb:iP P st o s)(hl:kx o.dst s=true)(cR:st.put o.dst s=st')(h:lh P ops m (k+1) st' Q):lh P ops m k st Q:=by
 subst cR
 unfold lh at h ⊢
 rw[vq ho (of_eq_true hm)]
 intro a w g hr Qc hc
 unfold wpStill
 rw[bt hr hw,if_pos rfl]
 obtain⟨v,e1,e2⟩:=hb a w g hr
 unfold Oper.still
 rw[e2 w (Up.refl w),Oper.stillUpon_value]
 exact h _ w g (hr.wa e1 hl) Qc hc
def Rel.Ks(P:Program){a:Act}{w:World}{g:Gh}(h:Rel st a w g){o:Oper}{s n:Nat}{xs:List D}(hop:o.op=.move (.tmp s))(hs:st.tmps[s]? =some (.own n xs)):
  ∃g',Rel ((st.take s).put o.dst (.own n xs)) (a.put o.dst (valOf a s)) w g'/\Fr pu g w g' w:=by
 obtain⟨a',w',g',r,e1,e2,e3,e4⟩:=jO.move (P:=P) (pu:=pu) (.inl hop) hs a w g h
 have hexec:(execOp a.eval o).run P w=.ok (.value (valOf a s)) w:=by unfold execOp;rw[hop];rfl
 have h1:=e2 (λx y=>x=a.put o.dst (valOf a s)/\y=w) (λ_ _ _=>False)
 rw[<-e1,hexec,Oper.upon_value]at h1
 grind
def Ax(bO:List Nat)(st:St)(o:Oper):Option St:=
 match o.op with
 |.move (.tmp s)=>match st.tmps[s]? with
  |some (.own n xs)=>if(o.dst.map λd=>bO.contains d)=some true then some ((st.take s).put o.dst (.own n xs))else none
  |_=>none
 |_=>none
def JW{m:Nat}{o:Oper}{bO:List Nat}{st':St}(hm:(k<m)=True)(ho:ops[k]? =some o)(hw:fG ops st o=some true)(hb:Ax bO st o=some st')(h:lh P ops m (k+1) st' Q):lh P ops m k st Q:=by
 unfold Ax at hb
 split at hb
 .rename_i s hop
  split at hb
  .rename_i n xs hs
   split at hb
   .cases hb
    unfold lh at h ⊢
    rw[vq ho (of_eq_true hm)]
    intro a w g hr Qc hc
    unfold wpStill
    rw[bt hr hw,if_pos rfl]
    have hexec:(execOp a.eval o).run P w=.ok (.value (valOf a s)) w:=by unfold execOp;rw[hop];rfl
    unfold Oper.still
    rw[hexec,Oper.stillUpon_value]
    obtain⟨g',r,f⟩:=hr.Ks (pu:=true) P hop hs
    exact h _ w g' r Qc λst' a' g2 q r2 f2=>hc st' a' g2 q r2 λpu=>Fr.trans ⟨f.1,f.2,f.3,f.4,λ_=>f.5 rfl,λ_=>f.6 rfl,λ_=>f.7 rfl,f.8⟩ (f2 pu)
   .cases hb
  .cases hb
 .cases hb
def Ex(P:Program)(bO:List Nat)(ops:Array Oper)(st:St)(o:Oper):Option St:=
 match fG ops st o with
 |some false=>some (st.put o.dst (.iQ []))
 |some true=>match Ax bO st o with
  |some st'=>some st'
  |none=>match CD P st o with
   |some s=>if kx o.dst s then some (st.put o.dst s)else none
   |none=>none
 |none=>none
def dJ(P:Program)(bO:List Nat)(ops:Array Oper):Nat->Nat->St->Option St
 |0,_,st=>some st
 |n+1,k,st=>match ops[k]? with
  |some o=>match Ex P bO ops st o with
   |some st'=>dJ P bO ops n (k+1) st'
   |none=>none
  |none=>none
def Pw{m:Nat}{bO:List Nat}{st':St}(n:Nat)(hm:(k+n<=m)=True)(hr:dJ P bO ops n k st=some st')(h:lh P ops m (k+n) st' Q):lh P ops m k st Q:=by
 have hm:k+n<=m:=of_eq_true hm
 induction n generalizing k st with
 |zero=>cases hr;exact h
 |succ n ih=>
  simp only[dJ]at hr
  split at hr
  .rename_i o ho
   split at hr
   .rename_i jh h1
    have ih':=ih (eq_true ω) hr φ ω
    have hkm:(k<m)=True:=eq_true ω
    unfold Ex at h1
    split at h1
    .rename_i hw
     cases h1
     unfold lh at ih' ⊢
     rw[vq ho ω]
     intro a w g hr Qc hc
     unfold wpStill
     rw[bt hr hw,if_neg ψ]
     exact ih' _ w g (hr.cu o.dst (v:=undef) ⟨#[],rfl,rfl,ψ⟩) Qc hc
    .rename_i hw
     split at h1
     .rename_i iY h2
      cases h1
      exact JW hkm ho hw h2 ih'
     .split at h1
      .rename_i s hb
       split at h1
       .rename_i hl
        cases h1
        exact Py hkm ho hw (cA hb) hl rfl ih'
       .cases h1
      .cases h1
    .cases h1
   .cases hr
  .cases hr
def HE{id:Nat}{l:List Oper}{Q:Exit->St->Prop}(hm:P.follows .mixedOrders=true)(hB:Region.lexB .any l.toArray=true)(h:lh P l.toArray l.toArray.size 0 st (Q .normal)):SW P pu (.region id l.toArray true) st Q:=by
 intro a w g hr
 refine wp_region_still hm hB ?_
 unfold lh at h
 rw[q_1,p_1 ψ]at h
 exact h a w.drew g hr.drew _ λst' a' g' q r f=>⟨st',g',q,r,Fr.drew.trans (f pu)⟩
def g8{id:Nat}{l:List Oper}{Q:Exit->St->Prop}(n:Nat)(hm:P.follows .mixedOrders=true)(hB:Region.lexTailB .any l.toArray n=true)(h:lh P l.toArray n 0 st (λjh=>cf P pu l.toArray n jh (Q .normal))):
  SW P pu (.region id l.toArray true) st Q:=by
 intro a w g hr
 refine wp_region_still_tail n hm hB ?_
 unfold lh at h
 rw[q_1]at h
 exact h a w.drew g hr.drew _ λjh a1 g1 q1 r1 f1=>q1 a1 w.drew g1 r1 _ λst' a' w' g' q r f=>⟨st',g',q,r,(Fr.drew.trans (f1 pu)).trans f⟩
end
def iter{α β:Type}(body:α->Option (α⊕β)):Nat->α->Option β
 |0,_=>none
 |n+1,x=>match body x with
  |some (.inl y)=>iter body n y
  |some (.inr b)=>some b
  |none=>none
def idx{α:Type}(l:List α)(i:Int):Option α:=if 0<=i then l[i.toNat]? else none
def nZ{α:Type}{l:List α}{x:α}(h:idx l i=some x):0<=i/\l[i.toNat]? =some x:=by
 unfold idx at h
 grind
def QA{α:Type}{l:List α}{x:α}(f:α->D)(h:idx l i=some x):(l.map f)[i.toNat]? =some (f x):=by
 rw[h_1,(nZ h).2];rfl
def ff{α:Type}(b:Bool)(x:Option α):Option α:=bif b then x else none
section
variable {α β:Type} {a b:α} {c:Bool} {r:α}
def fh(hc:c=true)(h:(bif c then a else b)=r):a=r:=by subst hc;exact h
def fi(hc:c=false)(h:(bif c then a else b)=r):b=r:=by subst hc;exact h
def bS{o:Option α}{f:α->Option β}{r:β}(h:o.bind f=some r): ∃x,o=some x/\f x=some r:=by
 cases o with
 |none=>cases h
 |some x=>exact⟨x,rfl,h⟩
def rh{o:Option α}(h:ff c o=some r):c=true/\o=some r:=by
 unfold ff at h
 grind
end
section
variable {P:Program} {pu:Bool} {st:St} {ops:Array Oper} {k:Nat}
def ag{n:St->Prop}{Q:Exit->St->Prop}(h:n s):thenS n Q .normal s:=h
def ba{n:St->Prop}{Q:Exit->St->Prop}(h:Q (.exit i) s):thenS n Q (.exit i) s:=h
def aq{n:St->Prop}{Q:Exit->St->Prop}(h:Q .ret s):thenS n Q .ret s:=h
def aR{id:Nat}{Q:Exit->St->Prop}{s:St}(h:Q .normal s):o0 id Q .normal s:=h
def aQ{id:Nat}{Q:Exit->St->Prop}{s:St}(h:Q .ret s):o0 id Q .ret s:=h
def bw{id:Nat}{Q:Exit->St->Prop}{s:St}(h:Q .normal s):o0 id Q (.exit id) s:=by simp only[o0,if_pos];exact h
def qJ{γ β:Type}{c:Code}{Q:Exit->Act->World->Prop}(body:γ->Option (γ⊕β))(I:γ->Act->World->Prop)(b:β)
  (round: ∀x a w,I x a w-> ∀o,body x=some o->c.wp P (Exit.then (λa' w'=> ∃y,o=.inl y/\I y a' w') (λe a' w'=> ∃b',o=.inr b'/\(b'=b->Q e a' w'))) a w):
  ∀n x a w,I x a w->iter body n x=some b->(Code.loop c).wp P Q a w:=by
 intro n
 intro x a w hI hit kb k cs
 have key: ∀n x a w,I x a w->iter body n x=some b->
   ∃e a' w',Q e a' w'/\Arrives P (lone (kb.at a (.code c::.inLoop c::k)) cs w) kb k cs e a' w':=by
  intro n
  induction n with
  |zero=>intro x a w _ h;cases h
  |succ n ih=>
   intro x a w hI hit
   simp only[iter]at hit
   have hsome: ∃o,body x=some o:=by
    grind
   obtain⟨o,ho⟩:=hsome
   obtain⟨e,a₁,w₁,hq,harr⟩:=round x a w hI o ho kb (.inLoop c::k) cs
   rw[ho]at hit
   cases e with
   |normal=>
    obtain⟨y,rfl,hI₁⟩:=hq
    obtain⟨e₂,a₂,w₂,hq₂,harr₂⟩:=ih y a₁ w₁ hI₁ hit
    exact⟨e₂,a₂,w₂,hq₂,.of_steps (Steps.trans harr (.one step_inLoop)) harr₂⟩
   |exit id=>obtain⟨b',rfl,hq⟩:=hq;exact⟨_,a₁,w₁,hq (by simpa using hit),.pass (x:=.inLoop c) rfl (λ_ _=>.inl ψ) harr⟩
   |goto l=>obtain⟨b',rfl,hq⟩:=hq;exact⟨_,a₁,w₁,hq (by simpa using hit),.pass (x:=.inLoop c) rfl (λ_ _=>.inl ψ) harr⟩
   |ret=>obtain⟨b',rfl,hq⟩:=hq;exact⟨_,a₁,w₁,hq (by simpa using hit),.pass (x:=.inLoop c) rfl (λ_ _=>.inl ψ) harr⟩
   |panic ch=>obtain⟨b',rfl,hq⟩:=hq;exact⟨_,a₁,w₁,hq (by simpa using hit),.pass (x:=.inLoop c) rfl (λ_ _=>.inl ψ) harr⟩
   |outgrown=>obtain⟨b',rfl,hq⟩:=hq;exact⟨_,a₁,w₁,hq (by simpa using hit),.pass (x:=.inLoop c) rfl (λ_ _=>.inl ψ) harr⟩
 obtain⟨e,a',w',hq,harr⟩:=key n x a w hI hit
 exact⟨e,a',w',hq,.of_steps (.one step_loop) harr⟩
def MO{Q:St->Prop}(b:Bool)(S:Bool->St)(h0:st=S b)(hT:b=true->cf P pu ops k (S true) Q)(hF:b=false->cf P pu ops k (S false) Q):cf P pu ops k st Q:=by
 subst h0
 cases b
 .exact hF rfl
 .exact hT rfl
def MV{Q:St->Prop}(b:Bool)(S:Bool->St)(h0:st=S b)(hT:b=true->lh P ops m k (S true) Q)(hF:b=false->lh P ops m k (S false) Q):lh P ops m k st Q:=by
 subst h0
 cases b
 .exact hF rfl
 .exact hT rfl
def Rel.Si{a:Act}(h:Rel st a w g)(ht:st.tmps[t]? =some (.d .cG)):Rel (st.set t (.own n [])) a w g:=by
 have hlt:=aU ht
 refine bc h (by simp[St.set,h.len]) h.dS (λ_ _ h=>h) (λt' s' hs'=>?_) h.hp
 by_cases hne:t=t'
 .subst hne
  simp only[St.set,g_0 hlt,g_2]at hs'
  subst hs'
  refine .inr (.inl (.inl ⟨rfl,?_⟩))
  exact Rd.jA (h.tmp t _ ht)
 .simp only[St.set,g_1 hne]at hs'
  refine .inr (.inr ⟨hs',rfl,λ_ _=>aO.refl _ _ _,λs0 e=>⟨rfl,λx hx hb=>⟨x,?_,rfl⟩⟩⟩)
  simp only[St.set]
  by_cases h2:t=s0
  .subst h2;rw[ht]at hx;cases hx;simp[gl]at hb
  grind
def St.kX(st:St):List (Nat×Nat)->St
 |[]=>st
 |(t,n)::l=>(match st.tmps[t]? with|some (.d .cG)=>st.set t (.own n [])|_=>st).kX l
def Rel.kX{a:Act}: ∀{l:List (Nat×Nat)} {st:St},Rel st a w g->Rel (st.kX l) a w g
 |[],_,h=>h
 |(t,n)::l,st,h=>by
  simp only[St.kX]
  refine Rel.kX ?_
  split
  .exact h.Si (by assumption)
  .exact h
def CA(P:Program)(rs:List ResultVar)(st:St):Option SV:=
 match C9 P st rs with
 |some xs=>if Ki xs&&EG st rs xs then some (Qe xs)else none
 |none=>none
def wL{r:SV}(h:CA P rs st=some r):KM P rs st r:=by
 unfold CA at h
 split at h
 .rename_i xs hx
  split at h
  .rename_i hc
   rw[g_3]at hc
   exact⟨xs,hx,hc.1,hc.2,by simpa using h⟩
  .cases h
 .cases h
def dw(P:Program)(rs:List ResultVar)(H:List aN)(r:SV)(e:Exit)(st:St):Prop:=
 (e=.normal\/e=.ret)/\ ∃l,CA P rs (st.kX l)=some r/\st.H=H
def dw.ret{r:SV}(l:List (Nat×Nat))(h:CA P rs (st.kX l)=some r)(hH:st.H=H):dw P rs H r .ret st:=⟨.inr rfl,l,h,hH⟩
def dw.normal{r:SV}(l:List (Nat×Nat))(h:CA P rs (st.kX l)=some r)(hH:st.H=H):dw P rs H r .normal st:=⟨.inl rfl,l,h,hH⟩
def rm(l:List (Nat×Nat)): ∀st:St,(st.kX l).H=st.H:=by
 induction l with
 |nil=>intro st;rfl
 |cons p l ih=>
  intro st
  obtain⟨t,n⟩:=p
  simp only[St.kX]
  rw[ih]
  split<;>rfl
def aW{c:Code}{r:SV}(hf:P.funcs[f]? =some fn)(hb:fn.body=some c)
  (h: ∀H,SW P true c (k8 fn.ntmps args H) (dw P fn.results.toList H r)):PC P f args r:=by
 intro H
 refine yk hf hb ?_
 intro a w g hr
 refine Code.wp_mono (λe a' w' hh=>?_) (h H a w g hr)
 obtain⟨st',g',⟨he,l,h1,h2⟩,r1,f⟩:=hh
 exact⟨st'.kX l,g',⟨he,wL h1,by rw[rm];exact h2⟩,r1.kX,f⟩
end
def va(l:List (Nat×SV)):Nat->Nat->List SV
 |0,_=>[]
 |n+1,t=>match l with
  |[]=>.undef::va [] n (t+1)
  |(t',s)::r=>if t'=t then s::va r n (t+1)else .undef::va l n (t+1)
def sp(n:Nat)(l:List (Nat×SV))(H:List aN):St:=⟨va l n 0,H⟩
def jb:List Nat->Nat->List SV->List SV
 |_,_,[]=>[]
 |[],t,s::r=>.undef::jb [] (t+1) r
 |k::ks,t,s::r=>if k=t then s::jb ks (t+1) r else .undef::jb (k::ks) (t+1) r
def sC(L:List Nat):List SV->Bool
 |[]=>true
 |s::r=>(match dep s with|some s'=>L.contains s'|none=>true)&&sC L r
def GJ(L:List Nat)(st:St):Option St:=
 let r:=jb L 0 st.tmps
 if sC L r then some {st with tmps:=r}else none
def xP: ∀(L:List Nat) (t:Nat) (l:List SV),(jb L t l).length=l.length
 |_,_,[]=>by simp[jb]
 |[],t,s::r=>by simp[jb,xP]
 |k::ks,t,s::r=>by simp only[jb];split<;>simp[xP]
def tR: ∀(L:List Nat) (t:Nat) (l:List SV) (i:Nat) (s:SV),(jb L t l)[i]? =some s->s=.undef\/l[i]? =some s
 |_,_,[],i,s,h=>by simp[jb]at h
 |[],t,x::r,i,s,h=>by
  simp only[jb]at h
  cases i with
  |zero=>simp at h;exact .inl h.symm
  |succ i=>simpa using tR [] (t+1) r i s (by simpa using h)
 |k::ks,t,x::r,i,s,h=>by
  simp only[jb]at h
  split at h
  .cases i with
   |zero=>simp at h;exact .inr (by simp[h])
   |succ i=>simpa using tR ks (t+1) r i s (by simpa using h)
  .cases i with
   |zero=>simp at h;exact .inl h.symm
   |succ i=>simpa using tR (k::ks) (t+1) r i s (by simpa using h)
def sD: ∀(L:List Nat) (t:Nat) (l:List SV) (i:Nat) (s:SV),l[i]? =some s->List.Pairwise (·< ·) L->(∀x∈L,t<=x)->t+i∈L->(jb L t l)[i]? =some s
 |_,_,[],i,s,h,_,_,_=>by simp at h
 |[],t,x::r,i,s,h,_,_,hm=>by simp at hm
 |k::ks,t,x::r,i,s,h,hp,hlo,hm=>by
  simp only[jb]
  have hk:=hlo k ψ
  rw[j_7]at hp
  split
  .rename_i e
   subst e
   cases i with
   |zero=>simpa using h
   |succ i=>
    simp only[k_8]at h ⊢
    refine sD ks (k+1) r i s h hp.2 (λx hx=>hp.1 x hx) ?_
    grind
  .rename_i hne
   cases i with
   |zero=>
    grind
   |succ i=>
    simp only[k_8]at h ⊢
    refine sD (k::ks) (t+1) r i s h (j_7.2 hp) (λx hx=>?_) φ
    grind
def Bm: ∀{l:List SV},sC L l=true-> ∀(i s:Nat) {x:SV},l[i]? =some x->dep x=some s->s∈L
 |[],_,i,s,x,h,_=>by simp at h
 |y::r,hk,i,s,x,h,hd=>by
  simp only[sC,g_3]at hk
  cases i with
  |zero=>
   grind
  |succ i=>exact Bm (l:=r) hk.2 i s (by simpa using h) hd
def rising:List Nat->Bool
 |a::b::l=>decide (a<b)&&rising (b::l)
 |_=>true
def xB: ∀{l:List Nat},rising l=true->List.Pairwise (·< ·) l
 |[],_=>.nil
 |[a],_=>by simp
 |a::b::l,h=>by
  simp only[rising,g_3,decide_eq_true_eq]at h
  have ih:=xB (l:=b::l) h.2
  refine j_7.2 ⟨λx hx=>?_,ih⟩
  rcases h_8.1 hx with e|e
  .omega
  .have:=(j_7.1 ih).1 x e;omega
def bC(L:List Nat)(st:St):Option St:=if rising L then GJ L st else none
def Rel.bC{st:St}(h:Rel st a w g)(hk:Sh.bC L st=some st'):Rel st' a w g:=by
 unfold Sh.bC at hk
 split at hk
 .rename_i hL
  simp only[GJ]at hk
  split at hk
  .rename_i hok
   cases hk
   refine bc h (by simp[xP,h.len]) h.dS (λ_ _ h=>h) (λt s hs=>?_) h.hp
   rcases tR L 0 st.tmps t s hs with e|e
   .exact .inl e
   .refine .inr (.inr ⟨e,rfl,λ_ _=>aO.refl _ _ _,λs0 e0=>⟨rfl,λx hx hb=>⟨x,?_,rfl⟩⟩⟩)
    exact sD L 0 st.tmps s0 _ hx (xB hL) (λ_ _=>q_9 _) (by simpa using Bm hok t s0 hs e0)
  .cases hk
 .cases hk
section
variable {P:Program} {pu:Bool} {st:St} {ops:Array Oper} {k:Nat} {Q:St->Prop}
def B0{Q:Exit->St->Prop}(L:List Nat)(cR:bC L st=some st')(h:SW P pu c st' Q):SW P pu c st Q:=
 λa w g hr=>h a w g (hr.bC cR)
def da(L:List Nat)(cR:bC L st=some st')(h:cf P pu ops k st' Q):cf P pu ops k st Q:=
 λa w g hr=>h a w g (hr.bC cR)
def Ed(L:List Nat)(cR:bC L st=some st')(h:lh P ops m k st' Q):lh P ops m k st Q:=
 λa w g hr=>h a w g (hr.bC cR)
def tX(bO L:List Nat)(n:Nat)(hr:(fX P bO ops n k st).bind (bC L)=some st')(h:cf P pu ops (k+n) st' Q):cf P pu ops k st Q:=by
 simp only[g_9]at hr
 obtain⟨jh,h1,h2⟩:=hr
 exact qy n h1 (da L h2 h)
def Eb(bO L:List Nat)(n:Nat)(hm:(k+n<=m)=True)(hr:(dJ P bO ops n k st).bind (bC L)=some st')(h:lh P ops m (k+n) st' Q):lh P ops m k st Q:=by
 simp only[g_9]at hr
 obtain⟨jh,h1,h2⟩:=hr
 exact Pw n hm h1 (Ed L h2 h)
def Ie(L:List Nat)(n:Nat)(b:Bool)(S S':Bool->St)(h0:st=S b)(hT:(fX P [] ops n k (S true)).bind (bC L)=some (S' true))(hF:(fX P [] ops n k (S false)).bind (bC L)=some (S' false))
  (h:cf P pu ops (k+n) (S' b) Q):cf P pu ops k st Q:=by
 subst h0
 have key:(fX P [] ops n k (S b)).bind (bC L)=some (S' b):=by cases b<;>assumption
 exact tX [] L n key h
def Il(L:List Nat)(n:Nat)(b:Bool)(S S':Bool->St)(hm:(k+n<=m)=True)(h0:st=S b)(hT:(dJ P [] ops n k (S true)).bind (bC L)=some (S' true))(hF:(dJ P [] ops n k (S false)).bind (bC L)=some (S' false))
  (h:lh P ops m (k+n) (S' b) Q):lh P ops m k st Q:=by
 subst h0
 have key:(dJ P [] ops n k (S b)).bind (bC L)=some (S' b):=by cases b<;>assumption
 exact Eb [] L n hm key h
def pP(P:Program)(ops:Array Oper)(k:Nat)(st:St)(d:Option Tmp)(s:SV):Prop:=
 ∃o,ops[k]? =some o/\fG ops st o=some true/\iP P st o s/\kx o.dst s=true/\o.dst=d
def Ih(L:List Nat)(hb:pP P ops k st d s)(cR:bC L (st.put d s)=some st')(h:cf P pu ops (k+1) st' Q):cf P pu ops k st Q:=by
 obtain⟨o,h1,h2,h3,h4,rfl⟩:=hb
 exact Fy h1 h2 h3 h4 rfl (da L cR h)
def Pz(L:List Nat)(hm:(k<m)=True)(hb:pP P ops k st d s)(cR:bC L (st.put d s)=some st')(h:lh P ops m (k+1) st' Q):lh P ops m k st Q:=by
 obtain⟨o,h1,h2,h3,h4,rfl⟩:=hb
 exact Py hm h1 h2 h3 h4 rfl (Ed L cR h)
def fR(ops:Array Oper)(k:Nat)(st:St):Option Oper:=
 match ops[k]? with
 |some o=>if fG ops st o=some true then some o else none
 |none=>none
def bo(h:fR ops k st=some o):ops[k]? =some o/\fG ops st o=some true:=by
 unfold fR at h
 grind
def GP(P:Program)(ops:Array Oper)(k:Nat)(st:St):Option (Option Tmp×Option Loc×Nat×List D×Int):=
 match fR ops k st with
 |some o=>match o.op with
  |.indexAddr T x i=>match kY st x,fJ st i with
   |some (l,n,xs),some (_,j)=>if n !=0&&n==fy P T&&(arrayOf P T).isNone then some (o.dst,l,n,xs,j)else none
   |_,_=>none
  |_=>none
 |none=>none
def Dt:kx d (bb l cs)=true:=by cases l<;>rfl
def Ma:kx d (nq l n cs)=true:=by cases l<;>rfl
def aD{α:Type}{enc:α->D}{xs:List α}{y:α}(hy:idx xs j=some y)(h:GP P ops k st=some (d,l,n,xs.map enc,j):=by kernel_rfl):pP P ops k st d (bb l (enc y).cells):=by
 unfold GP at h
 split at h
 .rename_i o ho
  split at h
  .rename_i T x i hop
   split at h
   .rename_i l' n' xs' kk j' hl hi
    split at h
    .rename_i hn
     simp only[g_2,g_8]at h
     obtain⟨rfl,rfl,rfl,rfl,rfl⟩:=h
     obtain⟨h1,h2⟩:=bo ho
     exact⟨o,h1,h2,iP.indexAddr hop hl hi hn (nZ hy).1 (QA enc hy),Dt,rfl⟩
    .cases h
   .cases h
  .cases h
 .cases h
def N9(P:Program)(ops:Array Oper)(k:Nat)(st:St):Option (Option Tmp×List UInt8×Int):=
 match fR ops k st with
 |some o=>match o.op with
  |.index T x i=>match cx st x,fJ st i with
   |some (.str l),some (_,j)=>if sF P T then some (o.dst,l,j)else none
   |_,_=>none
  |_=>none
 |none=>none
def pD(hy:idx l j=some b)(h:N9 P ops k st=some (d,l,j):=by kernel_rfl):pP P ops k st d (.d (.int .u8 b.toNat)):=by
 unfold N9 at h
 split at h
 .rename_i o ho
  split at h
  .rename_i T x i hop
   split at h
   .rename_i l' kk j' hl hi
    split at h
    .rename_i hn
     simp only[g_2,g_8]at h
     obtain⟨rfl,rfl,rfl⟩:=h
     obtain⟨h1,h2⟩:=bo ho
     exact⟨o,h1,h2,iP.index hop hl hi hn (nZ hy).1 (nZ hy).2,rfl,rfl⟩
    .cases h
   .cases h
  .cases h
 .cases h
def Hq(P:Program)(ops:Array Oper)(k:Nat)(st:St):Option (Option Tmp×SV):=
 match fR ops k st with
 |some o=>match CD P st o with
  |some s=>if kx o.dst s then some (o.dst,s)else none
  |none=>none
 |none=>none
def FD(h:Hq P ops k st=some (d,s))(e:s=s'):pP P ops k st d s':=by
 subst e
 unfold Hq at h
 split at h
 .rename_i o ho
  split at h
  .rename_i s0 hs
   split at h
   .rename_i hl
    simp only[g_2,g_8]at h
    obtain⟨rfl,rfl⟩:=h
    obtain⟨h1,h2⟩:=bo ho
    exact⟨o,h1,h2,cA hs,hl,rfl⟩
   .cases h
  .cases h
 .cases h
def aJ{α:Type}{enc:α->D}{xs:List α}(h:Hq P ops k st=some (d,.d (.int .i64 ((xs.map enc).length:Nat))):=by kernel_rfl):pP P ops k st d (.d (.int .i64 (xs.length:Nat))):=
 FD h (by rw[k_0])
def sl{α:Type}(xs:List α)(i j:Int):List α:=(xs.take j.toNat).drop i.toNat
def mJ{α:Type}(xs:List α)(i j:Int):Bool:=decide (0<=i)&&decide (i<=j)&&decide (j<=xs.length)
def ON(st:St)(dflt:Int):Option Operand->Option Int
 |none=>some dflt
 |some x=>match fJ st x with|some (_,j)=>some j|none=>none
def Hr{dflt:Nat}{x:Option Operand}{j:Int}(h:ON st dflt x=some j)(h0:0<=j):Hs st dflt x=some j.toNat:=by
 cases x with
 |none=>simp only[ON,g_2]at h;subst h;rfl
 |some x=>
  simp only[ON]at h
  simp only[Hs]
  grind
def R7(P:Program)(ops:Array Oper)(k:Nat)(st:St)(len:Int):Option (Option Tmp×Option Loc×Nat×List D×Int×Int):=
 match fR ops k st with
 |some o=>match o.op with
  |.slice T x lo hi none=>match(match cx st x with|some (.str _)=>none|_=>kY st x),ON st 0 lo,ON st len hi with
   |some (l,n,xs),some i,some j=>if fy P T !=0&&n==fy P T then some (o.dst,l,n,xs,i,j)else none
   |_,_,_=>none
  |_=>none
 |none=>none
def iD{α:Type}{enc:α->D}{xs:List α}{d:Option Tmp}{l:Option Loc}{n:Nat}{i j:Int}(hc:mJ xs i j=true)(h:R7 P ops k st xs.length=some (d,l,n,xs.map enc,i,j):=by kernel_rfl):pP P ops k st d (nq l n ((sl xs i j).map enc)):=by
 unfold R7 at h
 split at h
 .rename_i o ho
  split at h
  .rename_i T x lo hi hop
   split at h
   .rename_i l' n' xs' i' j' hl hi' hj'
    split at h
    .rename_i hn
     simp only[g_2,g_8]at h
     obtain⟨rfl,rfl,rfl,rfl,rfl,rfl⟩:=h
     obtain⟨h1,h2⟩:=bo ho
     simp only[mJ,g_3,decide_eq_true_eq]at hc
     have e1:=Hr (dflt:=0) hi' hc.1.1
     have e2:=Hr (dflt:=xs.length) hj' ω
     split at hl
     .cases hl
     .rename_i hns
      refine⟨o,h1,h2,MY (iP.slice hop ?_ hl e1 (by rw[k_0];exact e2) hn ω (by rw[k_0];omega)) ?_,Ma,rfl⟩
      .grind
      .simp[sl,List.map_drop,List.map_take]
    .cases h
   .cases h
  .cases h
 .cases h
def room:Nat:=16777216
def Hu(P:Program)(ops:Array Oper)(k:Nat)(st:St):Option (Nat×Nat×Nat×List D×List D):=
 match fR ops k st with
 |some o=>match o.op,o.dst with
  |.call c,some d=>match c.callee,c.args.toList,c.argTypes.toList with
   |.builtin .append,[.tmp s,y],[T,T2]=>match st.tmps[s]?,Ke st y,ve P T with
    |some (.own n xs),some (m,ys),some (n',b)=>if n==n'&&(m==n||ys.isEmpty)&&NO P T2&&decide (b<=65536)then some (s,d,n,xs,ys)else none
    |_,_,_=>none
   |_,_,_=>none
  |_,_=>none
 |none=>none
def tq(L:List Nat)(h:Hu P ops k st=some (s,d,n,xs,ys))(hz:xs++ys=zs)(hc:zs.length<=room)(cR:bC L ((st.take s).put (some d) (.own n zs))=some st')
  (hn:cf P pu ops (k+1) st' Q):cf P pu ops k st Q:=by
 subst hz
 unfold Hu at h
 split at h
 .rename_i o ho
  split at h
  .rename_i c d' hop hd
   split at h
   .rename_i s' y T T2 hcal ha ht
    split at h
    .rename_i n0 xs0 m ys0 n' b hs hy hT
     split at h
     .rename_i hcond
      simp only[g_2,g_8]at h
      obtain⟨rfl,rfl,rfl,rfl,rfl⟩:=h
      simp only[g_3,p_6,beq_iff_eq,List.isEmpty_iff,decide_eq_true_eq]at hcond
      obtain⟨⟨⟨hnn,hm⟩,h2⟩,hb⟩:=hcond
      subst hnn
      obtain⟨h1,h3⟩:=bo ho
      rw[h_9]at hc
      refine pO h1 h3 (jO.append hop hcal ha ht hd hs hy hT h2 hm (v_2 hc (by decide)) ?_) (da L cR hn)
      exact v_2 (Nat.mul_le_mul hc hb) (by decide)
     .cases h
    .cases h
   .cases h
  .cases h
 .cases h
def eg(P:Program)(ops:Array Oper)(k:Nat)(st:St)(tr:List Nat):Option (Option Tmp×FuncId×List SV×List Loc×List (Nat×Nat)):=
 match fR ops k st with
 |some o=>match o.op with
  |.call c=>match rH P st tr c with
   |some cs=>some (o.dst,cs.f,cs.args,cs.ls,cs.gs)
   |none=>none
  |_=>none
 |none=>none
def Cf(tr L:List Nat)(hp:PC P f args r)(h:eg P ops k st tr=some (d,f,args,ls,gs))(hr:(pg r&&(ls.isEmpty||mP r))=true)
  (cR:bC L ((st.lI gs).put d r)=some st') (hn:cf P pu ops (k+1) st' Q):cf P pu ops k st Q:=by
 unfold eg at h
 split at h
 .rename_i o ho
  split at h
  .rename_i c hop
   split at h
   .rename_i cs hcs
    simp only[g_2,g_8]at h
    obtain⟨rfl,rfl,rfl,rfl,rfl⟩:=h
    obtain⟨h1,h2⟩:=bo ho
    rw[g_3]at hr
    exact MP (cs:=cs) tr h1 h2 hop hcs hp hr.1 hr.2 rfl (da L cR hn)
   .cases h
  .cases h
 .cases h
def St.freeze(st:St)(t:Nat):St:=match st.tmps[t]? with|some (.own n xs)=>(st.kill t).set t (.d (.list n xs))|_=>st
def Rel.freeze(h:Rel st a w g)(t:Nat): ∃g',Rel (st.freeze t) a w g'/\Fr pu g w g' w:=by
 unfold St.freeze
 split
 .rename_i n xs ht
  let rn:Own->Own:=λo=>if o=.bN (.slot t)then .free else o
  have rnO: ∀{o},o≠.bN (.slot t)->rn o=o:=λh=>by simp[rn,h]
  refine⟨g.br rn,?_,h_0 _,aO.br (rnO ψ),aO.br (rnO ψ),λ_ _ h=>h,λ_ i=>aO.br (rnO ψ),λ_ i j=>aO.br (rnO ψ),λ_=>rfl,⟨rfl,rfl⟩⟩
  have hlt:=aU ht
  refine bc h (by simp[St.set,h.len]) h.dS (λ_ _ h=>h) (λt' s' hs'=>?_) (RH.bg (g:=g) (w:=w) (λo ho=>aO.br (rnO λe=>by subst e;exact ho.elim)) (λ_ _ h=>h) rfl h.hp)
  by_cases hne:t=t'
  .subst hne
   rw[St.set,g_0 (by simpa using hlt)]at hs'
   cases hs'
   refine .inr (.inl ?_)
   have ho:cy g w (.slot t) (valOf a t) n xs:=h.tmp t _ ht
   refine eZ.free (l:=.slot t) (rnO ψ) (by simp[rn]) ?_
   rcases ho with⟨rfl,a,e⟩|⟨k,off,cap,c,T,us,hv,hk,hb,hl,hz,hn,hc,hr⟩
   .exact .inl ⟨rfl,a,_,e⟩
   .exact .inr ⟨k,off,cap,c,T,_,us,hv,by simp[hk,IZ],hb,hl,hn,hc,hr⟩
  .simp only[St.set,g_1 hne]at hs'
   rcases lY hs' with e|⟨e1,e2⟩
   .exact .inl e
   .refine .inr (.inr ⟨e1,rfl,λo ho=>aO.br (rnO ?_),λs0 e=>⟨rfl,λx hx hb=>⟨?x,?hx,?hb⟩⟩⟩)
    .rintro rfl
     cases s' with
     |own n xs=>simp only[jQ,Own.bN.injEq,Loc.slot.injEq,reduceCtorEq,false_or]at ho;exact hne ho
     |cq l n xs=>
      simp only[jQ,Own.bN.injEq,reduceCtorEq,false_or]at ho
      subst ho
      simp[dM]at e2
     |eW l cs=>
      simp only[jQ,Own.bN.injEq,reduceCtorEq,false_or]at ho
      subst ho
      simp[dM]at e2
     |mf v0 n xs=>simp only[jQ,Own.bN.injEq,Loc.slot.injEq,reduceCtorEq,false_or]at ho;exact hne ho
     |_=>simp[jQ]at ho
    .exact x
    .have h2:t≠s0:=λe3=>by rw[e3,cH e]at e2;cases e2
     simp[St.set,g_1 h2,St.kill,hx,eQ hb]
    .rfl
 .exact⟨g,h,Fr.refl _ _ _⟩
def tn(t:Nat)(cR:st.freeze t=st')(h:cf P pu ops k st' Q):cf P pu ops k st Q:=by
 subst cR
 intro a w g hr Qc hq
 obtain⟨g',r,f⟩:=hr.freeze (pu:=pu) t
 exact h a w g' r Qc λiY a2 w2 g2 q2 r2 f2=>hq iY a2 w2 g2 q2 r2 (f.trans f2)
def DQ{γ β:Type}{Q:Exit->St->Prop}(L:List Nat){body:γ->Option (γ⊕β)}(S:γ->St)(E:β->Exit->St->Prop){x:γ}{b:β}(hit:Sh.iter body fuel x=some b)(h0:bC L st=some (S x))
  (round: ∀x o,body x=some o->SW P pu c (S x) (thenS (λs'=> ∃y,o=.inl y/\bC L s'=some (S y)) (λe s'=> ∃b,o=.inr b/\E b e s')))
  (after: ∀e s',E b e s'->Q e s'):SW P pu (.loop c) st Q:=by
 refine B0 L h0 ?_
 intro a w g hr
 refine qJ (γ:=γ) body (λx a' w'=> ∃g',Rel (S x) a' w' g'/\Fr pu g w g' w') b (λx a1 w1 ⟨g1,r1,f1⟩ o ho=>?_) fuel x a w ⟨g,hr,Fr.refl _ _ _⟩ hit
 refine Code.wp_mono (λe a' w' hh=>?_) (round x o ho a1 w1 g1 r1)
 obtain⟨st',g',q,r,f⟩:=hh
 cases e with
 |normal=>obtain⟨y,rfl,h1⟩:=q;exact⟨y,rfl,g',r.bC h1,f1.trans f⟩
 |_=>obtain⟨b',rfl,h1⟩:=q;exact⟨b',rfl,λe=>⟨st',g',after _ _ (e▸h1),r,f1.trans f⟩⟩
end
section
variable {P:Program} {pu:Bool} {st:St} {ops:Array Oper} {k:Nat} {Q:St->Prop}
def MU(h:decide (m<=k)=true)(hq:Q st):lh P ops m k st Q:=Px (eq_true (of_decide_eq_true h)) hq
def Ec(bO L:List Nat)(n:Nat)(hm:decide (k+n<=m)=true)(hr:(dJ P bO ops n k st).bind (bC L)=some st')(h:lh P ops m (k+n) st' Q):lh P ops m k st Q:=Eb bO L n (eq_true (of_decide_eq_true hm)) hr h
def Im(L:List Nat)(n:Nat)(b:Bool)(S S':Bool->St)(hm:decide (k+n<=m)=true)(h0:st=S b)(hT:(dJ P [] ops n k (S true)).bind (bC L)=some (S' true))(hF:(dJ P [] ops n k (S false)).bind (bC L)=some (S' false))
  (h:lh P ops m (k+n) (S' b) Q):lh P ops m k st Q:=Il L n b S S' (eq_true (of_decide_eq_true hm)) h0 hT hF h
def PA(L:List Nat)(hm:decide (k<m)=true)(hb:pP P ops k st d s)(cR:bC L (st.put d s)=some st')(h:lh P ops m (k+1) st' Q):lh P ops m k st Q:=Pz L (eq_true (of_decide_eq_true hm)) hb cR h
def Fh{Q:Exit->St->Prop}{id:Nat}{l:List Oper}(hm:P.follows .mixedOrders=true)(hB:Region.lexB .any l.toArray=true)(h:lh P l.toArray l.toArray.size 0 st (Q .normal)):SW P pu (.region id l.toArray true) st Q:=HE hm hB h
def yq(h:decide (ops.size<=k)=true)(hq:Q st):cf P pu ops k st Q:=Ig (eq_true (of_decide_eq_true h)) hq
end
def cC{α:Type}{f:α->D}{l:List α}(h:decide (l.length<=room)=true):(l.map f).length<=room:=by
 grind
def bF{α:Type}{f:α->D}{xs ys:List α}:xs.map f++ys.map f=(xs++ys).map f:=(j_9).symm
def js{α β γ:Type}{f:α->γ}{g:β->γ}{x:α}{r:γ}(h:Sum.elim f g (.inl x)=r):f x=r:=h
def jr{α β γ:Type}{f:α->γ}{g:β->γ}{x:β}{r:γ}(h:Sum.elim f g (.inr x)=r):g x=r:=h
def Pg{P:Program}{pu:Bool}{st:St}{Q:Exit->St->Prop}(b:Bool)(S:Bool->St)(h0:st=S b)(hT:b=true->SW P pu c (S true) Q)(hF:b=false->SW P pu c (S false) Q):SW P pu c st Q:=by
 subst h0
 cases b
 .exact hF rfl
 .exact hT rfl
section
variable {P:Program} {st:St} {ops:Array Oper} {k:Nat}
end
section
variable {P:Program} {pu:Bool} {st:St}
def bz{α β:Type}(b:α->β)(a:(α->β)->β):β:=a b
def HB{α:Type}{Q:Exit->St->Prop}(L:List Nat)(S:α->St)(C:α->Prop)(hj: ∀v,C v->SW P pu y (S v) Q)(h:SW P pu x st (thenS (λs=> ∃v l,bC L (s.kX l)=some (S v)/\C v) Q)):SW P pu (.seq x y) st Q:=by
 refine an ?_
 intro a w g hr
 refine Code.wp_mono (λe a' w' hh=>?_) (h a w g hr)
 obtain⟨st',g',q,r,f⟩:=hh
 cases e with
 |normal=>
  obtain⟨v,l,h1,h2⟩:=q
  exact⟨S v,g',hj v h2,r.kX.bC h1,f⟩
 |_=>exact⟨st',g',q,r,f⟩
end
def vI(n:Int):SV:=.d (.int .i64 n)
def vB(b:Bool):SV:=.d (.bool b)
def vS(l:List UInt8):SV:=.d (.str l)
def mr:List Nat->Nat->List SV->List (Nat×SV)
 |_,_,[]=>[]
 |[],t,s::r=>[]
 |k::ks,t,s::r=>if k=t then(k,s)::mr ks (t+1) r else mr (k::ks) (t+1) r
def Dv: ∀(t:Nat) (l:List SV),jb [] t l=va [] l.length t
 |_,[]=>rfl
 |t,s::r=>by simp[jb,va,Dv (t+1) r]
def Ns{n:Nat}(h:t'≠t):va ((t',s)::l) (n+1) t=.undef::va ((t',s)::l) n (t+1):=by simp[va,h]
def AU: ∀(L:List Nat) (t:Nat) (l:List SV),(∀x∈L,t<=x)->List.Pairwise (·< ·) L->jb L t l=va (mr L t l) l.length t
 |[],t,l,_,_=>by cases l<;>simp[mr,Dv,jb,va]
 |k::ks,t,[],_,_=>by simp[jb,mr,va]
 |k::ks,t,s::r,hlo,hp=>by
  simp only[jb,mr,j_4]
  rw[j_7]at hp
  split
  .rename_i e
   subst e
   simp only[va,if_true]
   rw[AU ks (k+1) r (λx hx=>hp.1 x hx) hp.2]
  .rename_i hne
   have hlo': ∀x∈k::ks,t+1<=x:=λx hx=>by
    have h1:=hlo k ψ
    grind
   rw[AU (k::ks) (t+1) r hlo' (j_7.2 hp)]
   have hgt: ∀p∈mr (k::ks) (t+1) r,t<p.1:=Gm (k::ks) (t+1) r hlo'
   cases hq:mr (k::ks) (t+1) r with
   |nil=>simp[va]
   |cons p q=>
    obtain⟨t',s'⟩:=p
    have:=hgt (t',s') (by rw[hq];simp)
    rw[Ns (by simp only at this;omega)]
where
 Gm: ∀(L:List Nat) (t:Nat) (l:List SV),(∀x∈L,t<=x)-> ∀p∈mr L t l,t<=p.1
  |[],t,l,_,p,h=>by cases l<;>simp[mr]at h
  |k::ks,t,[],_,p,h=>by simp[mr]at h
  |k::ks,t,s::r,hlo,p,h=>by
   simp only[mr]at h
   split at h
   .rename_i e
    subst e
    rcases h_8.1 h with e|e
    .subst e;exact h_0 _
    .by_cases hk: ∀x∈ks,k+1<=x
     .have:=Gm ks (k+1) r hk p e;omega
     .have:=tN ks (k+1) r p e
      exact hlo p.1 (by simp[this])
   .rename_i hne
    have:=tN (k::ks) (t+1) r p h
    exact hlo p.1 this
 tN: ∀(L:List Nat) (t:Nat) (l:List SV),∀p∈mr L t l,p.1∈L
  |[],t,l,p,h=>by cases l<;>simp[mr]at h
  |k::ks,t,[],p,h=>by simp[mr]at h
  |k::ks,t,s::r,p,h=>by
   simp only[mr]at h
   split at h
   .rcases h_8.1 h with e|e
    .subst e;simp
    .exact m_1 _ (tN ks (t+1) r p e)
   .exact tN (k::ks) (t+1) r p h
def bu(n:Nat)(L:List Nat)(st:St):Option (List (Nat×SV)×List aN):=
 if rising L&&(st.tmps.length==n&&sC L (jb L 0 st.tmps))then some (mr L 0 st.tmps,st.H)else none
def aL{n:Nat}{st:St}{H:List aN}(h:bu n L st=some (l,H)):bC L st=some (sp n l H):=by
 unfold bu at h
 split at h
 .rename_i hc
  simp only[g_3,beq_iff_eq]at hc
  simp only[g_2,g_8]at h
  obtain⟨rfl,rfl⟩:=h
  obtain⟨h1,h2,h3⟩:=hc
  unfold bC GJ
  rw[if_pos h1]
  simp only[h3,if_true,g_2,sp]
  rw[AU L 0 st.tmps (λ_ _=>q_9 _) (xB h1),h2]
 .cases h
def oC{n:Nat}{L:List Nat}{o:Option St}{l:List (Nat×SV)}{H:List aN}(h:o.bind (bu n L)=some (l,H)):o.bind (bC L)=some (sp n l H):=by
 simp only[g_9]at h ⊢
 obtain⟨st,h1,h2⟩:=h
 exact⟨st,h1,aL h2⟩
section
variable {P:Program} {pu:Bool} {st:St} {ops:Array Oper} {k:Nat} {Q:St->Prop} {m:Nat} (n:Nat) (H:List aN)
def BZ{Q:Exit->St->Prop}(L:List Nat)(l:List (Nat×SV))(cR:bu n L st=some (l,H))(h:SW P pu c (sp n l H) Q):SW P pu c st Q:=B0 L (aL cR) h
def bm(bO L:List Nat)(j:Nat)(l:List (Nat×SV))(hr:(fX P bO ops j k st).bind (bu n L)=some (l,H))(h:cf P pu ops (k+j) (sp n l H) Q):cf P pu ops k st Q:=tX bO L j (oC hr) h
def dO(L:List Nat)(j:Nat)(b:Bool)(S:Bool->St)(l:Bool->List (Nat×SV))(h0:st=S b)(hT:(fX P [] ops j k (S true)).bind (bu n L)=some (l true,H))(hF:(fX P [] ops j k (S false)).bind (bu n L)=some (l false,H))
  (h:cf P pu ops (k+j) (sp n (l b) H) Q):cf P pu ops k st Q:=Ie L j b S (λb=>sp n (l b) H) h0 (oC hT) (oC hF) h
def Q9(L:List Nat)(j:Nat)(b:Bool)(S:Bool->St)(l:Bool->List (Nat×SV))(hm:decide (k+j<=m)=true)(h0:st=S b)(hT:(dJ P [] ops j k (S true)).bind (bu n L)=some (l true,H))(hF:(dJ P [] ops j k (S false)).bind (bu n L)=some (l false,H))
  (h:lh P ops m (k+j) (sp n (l b) H) Q):lh P ops m k st Q:=Im L j b S (λb=>sp n (l b) H) hm h0 (oC hT) (oC hF) h
def iw(L:List Nat)(l:List (Nat×SV))(hb:pP P ops k st d s)(cR:bu n L (st.put d s)=some (l,H))(h:cf P pu ops (k+1) (sp n l H) Q):cf P pu ops k st Q:=Ih L hb (aL cR) h
def qD(L:List Nat)(l:List (Nat×SV))(h:Hu P ops k st=some (s,d,w,xs,ys))(hz:xs++ys=zs)(hc:zs.length<=room)(cR:bu n L ((st.take s).put (some d) (.own w zs))=some (l,H))
  (hn:cf P pu ops (k+1) (sp n l H) Q):cf P pu ops k st Q:=tq L h hz hc (aL cR) hn
def iz(tr L:List Nat)(l:List (Nat×SV))(hp:PC P f args r)(h:eg P ops k st tr=some (d,f,args,ls,gs))(hr:(pg r&&(ls.isEmpty||mP r))=true)
  (cR:bu n L ((st.lI gs).put d r)=some (l,H)) (hn:cf P pu ops (k+1) (sp n l H) Q):cf P pu ops k st Q:=Cf tr L hp h hr (aL cR) hn
def z8(t:Nat)(L:List Nat)(l:List (Nat×SV))(cR:bu n L (st.freeze t)=some (l,H))(h:cf P pu ops k (sp n l H) Q):cf P pu ops k st Q:=tn t rfl (da L (aL cR) h)
def S4{α:Type}{Q:Exit->St->Prop}(L:List Nat)(l:α->List (Nat×SV))(C:α->Prop)(hj: ∀v,C v->SW P pu y (sp n (l v) H) Q)(h:SW P pu x st (thenS (λs=> ∃v ll,bu n L (s.kX ll)=some (l v,H)/\C v) Q)):SW P pu (.seq x y) st Q:=
 HB L (λv=>sp n (l v) H) C hj (wU h λe s hh=>by
  cases e with
  |normal=>obtain⟨v,ll,h1,h2⟩:=hh;exact⟨v,ll,aL h1,h2⟩
  |_=>exact hh)
def fM{γ β:Type}{Q:Exit->St->Prop}(L:List Nat){body:γ->Option (γ⊕β)}(l:γ->List (Nat×SV))(E:β->Exit->St->Prop){x:γ}{b:β}(hit:Sh.iter body fuel x=some b)(h0:bu n L st=some (l x,H))
  (round: ∀x o,body x=some o->SW P pu c (sp n (l x) H) (thenS (λs'=> ∃y,o=.inl y/\bu n L s'=some (l y,H)) (λe s'=> ∃b,o=.inr b/\E b e s')))
  (after: ∀e s',E b e s'->Q e s'):SW P pu (.loop c) st Q:=
 DQ L (λx=>sp n (l x) H) E hit (aL h0) (λx o h=>wU (round x o h) λe s hh=>by
  cases e with
  |normal=>obtain⟨y,h1,h2⟩:=hh;exact⟨y,h1,aL h2⟩
  |_=>exact hh) after
end
end Go.Sh
