/- Lemmas for the claim (contracts of the functions that it reaches, and what they compute), without conditions. -/
import Derived.Orders
import Derived.Below
import Derived.Laws.World
import Derived.Laws.Cells
import Derived.Laws.CopyRow
import Derived.Laws.NewBlocks
import Derived.WalkKit
set_option linter.unusedVariables false
set_option linter.unusedSimpArgs false
set_option maxRecDepth 10000
set_option maxHeartbeats 2000000
namespace GoAbs
open Go Go.RowKit
inductive AV where
 | any
 | int (k:IntKind) (n:Int)
 | bool (b:Bool)
 | str (s:ByteArray)
 | agg (cs:List AV)
 | tup (vs:List AV)
 | nils
 | sl (l:List AV)
 | osl (ek:Option Nat) (b off len:Nat)
 | ptr (b off:Nat)
 | rp (cs:List AV)
 | fn (f:Nat) (first cap:List AV)
 | nilp
 | nilfn
 | mp (b:Nat)
 | ifc (t:TypeId) (x:AV)
 | nilif
 deriving Inhabited
def es:Option Nat→Nat
 | none=>1
 | some n=>n
def AV.cells:AV→List AV
 | .agg cs=>cs
 | v => [v]
inductive Blk where
 | unborn
 | dead
 | cells (l:List AV)
 | map (es:List (AV×AV))
 deriving Inhabited
abbrev Heap:=List Blk
structure St where
 env:Nat→AV
 H:Heap
abbrev Pl:=Nat→Option (Nat×Nat)
def noPl:Pl:=fun _=>none
inductive Rep (w:World) (O:Nat→Prop):Pl→AV→Value→Prop
 | any {ρ:Pl} (v:Value):Rep w O ρ .any v
 | int {ρ:Pl} (k:IntKind) (n:Int):Rep w O ρ (.int k n) (.int k n)
 | bool {ρ:Pl} (b:Bool):Rep w O ρ (.bool b) (.bool b)
 | str {ρ:Pl} (s:ByteArray):Rep w O ρ (.str s) (.string s)
 | agg {ρ:Pl} (cs:List AV) (vs:Array Value) (hl:vs.size=cs.length) (h1:∀ v,v∈vs.toList→v.oneCell'=true)
   (h:∀ (i:Nat) (x:AV) (v:Value),cs[i]? = some x→vs[i]? = some v→Rep w O ρ x v):Rep w O ρ (.agg cs) (.agg vs)
 | tup {ρ:Pl} (cs:List AV) (vs:Array Value) (hl:vs.size=cs.length)
   (h:∀ (i:Nat) (x:AV) (v:Value),cs[i]? = some x→vs[i]? = some v→Rep w O ρ x v):Rep w O ρ (.tup cs) (.tuple vs)
 | nils {ρ:Pl} (A:Option Addr):Rep w O ρ .nils (.slice A 0 0)
 | sl {ρ:Pl} (l:List AV) (A:Option Addr) (c sz blk off:Nat) (g:Nat→Value) (hc:l.length≤c)
   (hA:0<l.length→A=some ⟨blk,off,none⟩∧¬ O blk∧blk<w.heap.size)
   (hz:∀ x,x∈l→x.cells.length=sz)
   (hg:∀ (i:Nat) (x:AV) (j:Nat) (y:AV),l[i]? = some x→x.cells[j]? = some y→w.cell? ⟨blk,off+(i*sz+j),none⟩=some (g (i*sz+j)))
   (h1:∀ (i:Nat) (x:AV) (j:Nat) (y:AV),l[i]? = some x→x.cells[j]? = some y→(g (i*sz+j)).oneCell'=true)
   (h:∀ (i:Nat) (x:AV) (j:Nat) (y:AV),l[i]? = some x→x.cells[j]? = some y→Rep w O noPl y (g (i*sz+j))):Rep w O ρ (.sl l) (.slice A l.length c)
 | osl {ρ:Pl} (ek:Option Nat) (b off len c blk o:Nat) (hb:ρ b=some (blk,o)) (hc:len≤c)
   (hs:∃ e n,w.shape? blk=some (e,n)∧o+off+c*es ek≤n):Rep w O ρ (.osl ek b off len) (.slice (some ⟨blk,o+off,none⟩) len c)
 | osl0 {ρ:Pl} (ek:Option Nat) (b off:Nat) (A:Option Addr):Rep w O ρ (.osl ek b off 0) (.slice A 0 0)
 | ptr {ρ:Pl} (b off blk o:Nat) (hb:ρ b=some (blk,o)):Rep w O ρ (.ptr b off) (.pointer (some ⟨blk,o+off,none⟩))
 | rp {ρ:Pl} (cs:List AV) (blk off:Nat) (g:Nat→Value) (hO:¬ O blk∧blk<w.heap.size)
   (hg:∀ (j:Nat) (y:AV),cs[j]? = some y→w.cell? ⟨blk,off+j,none⟩=some (g j))
   (h1:∀ (j:Nat) (y:AV),cs[j]? = some y→(g j).oneCell'=true)
   (h:∀ (j:Nat) (y:AV),cs[j]? = some y→Rep w O noPl y (g j)):Rep w O ρ (.rp cs) (.pointer (some ⟨blk,off,none⟩))
 | fn {ρ:Pl} (f:Nat) (first cap:List AV) (first' cap':Array Value) (hl:first'.size=first.length) (hl':cap'.size=cap.length)
   (h:∀ (i:Nat) (x:AV) (v:Value),first[i]? = some x→first'[i]? = some v→Rep w O ρ x v)
   (h':∀ (i:Nat) (x:AV) (v:Value),cap[i]? = some x→cap'[i]? = some v→Rep w O ρ x v):Rep w O ρ (.fn f first cap) (.func (.func f) first' cap')
 | nilp {ρ:Pl}:Rep w O ρ .nilp (.pointer none)
 | nilfn {ρ:Pl}:Rep w O ρ .nilfn .nilFunc
 | mp {ρ:Pl} (b blk:Nat) (hb:ρ b=some (blk,0)):Rep w O ρ (.mp b) (.map (some blk))
 | ifc {ρ:Pl} (t:TypeId) (x:AV) (v:Value) (h:Rep w O ρ x v):Rep w O ρ (.ifc t x) (.iface t v)
 | nilif {ρ:Pl}:Rep w O ρ .nilif .nilIface
structure Keep (w:World) (O:Nat→Prop) (w':World) (O':Nat→Prop):Prop where
 size:w.heap.size≤w'.heap.size
 keep:∀ b,b<w.heap.size→¬ O b→w'.heap[b]? = w.heap[b]?
 own:∀ b,O' b→O b∨w.heap.size≤b
 shp:∀ b,b<w.heap.size→w'.shape? b=w.shape? b
theorem Keep.refl (w:World) (O:Nat→Prop):Keep w O w O:=⟨Nat.le_refl _,fun _ _ _=>rfl,fun _ h => .inl h,fun _ _=>rfl⟩
theorem Keep.trans {w w1 w2:World}{O O1 O2:Nat→Prop}(h:Keep w O w1 O1) (k:Keep w1 O1 w2 O2):Keep w O w2 O2 :=
 ⟨Nat.le_trans h.size k.size,
   fun b hb hO=>(k.keep b (Nat.lt_of_lt_of_le hb h.size) (fun h1=>(h.own b h1).elim hO (fun h2=>by omega))).trans (h.keep b hb hO),
   fun b hb=>(k.own b hb).elim (fun h1=>h.own b h1) (fun h1 => .inr (Nat.le_trans h.size h1)),
   fun b hb=>(k.shp b (Nat.lt_of_lt_of_le hb h.size)).trans (h.shp b hb)⟩
theorem Y7z {w:World}{b o:Nat}{v:Value}(h:w.cell? ⟨b,o,none⟩=some v):b<w.heap.size:=by
 rcases Nat.lt_or_ge b w.heap.size with h1 | h1
 ·exact h1
 ·simp [World.cell?,Array.getElem?_eq_none h1] at h
theorem Y4i {w:World}{b:Nat}{p:TypeId×Nat}(h:w.shape? b=some p):b<w.heap.size:=by
 rcases Nat.lt_or_ge b w.heap.size with h1 | h1
 ·exact h1
 ·simp [World.shape?,Array.getElem?_eq_none h1] at h
theorem Yxn {w w':World}{b o:Nat}(h:w'.heap[b]? = w.heap[b]?):w'.cell? ⟨b,o,none⟩=w.cell? ⟨b,o,none⟩:=by
 simp [World.cell?,h]
theorem Rep.keep {w w':World}{O O':Nat→Prop}{ρ ρ':Pl}{x:AV}{v:Value}(h:Rep w O ρ x v) (E:Keep w O w' O') (hρ:∀ i p,ρ i=some p→ρ' i=some p):Rep w' O' ρ' x v:=by
 have far:∀ {blk},¬ O blk∧blk<w.heap.size→¬ O' blk∧blk<w'.heap.size:=fun h =>
  ⟨fun hO'=>(E.own _ hO').elim h.1 (fun h1=>by have:=h.2; omega),Nat.lt_of_lt_of_le h.2 E.size⟩
 induction h generalizing ρ' with
 | any v=>exact .any v
 | int k n=>exact .int k n
 | bool b=>exact .bool b
 | str s=>exact .str s
 | agg cs vs hl h1 h ih=>exact .agg cs vs hl h1 (fun i x v hx hv=>ih i x v hx hv hρ)
 | tup cs vs hl h ih=>exact .tup cs vs hl (fun i x v hx hv=>ih i x v hx hv hρ)
 | nils A=>exact .nils A
 | sl l A c sz blk off g hc hA hz hg h1 h ih =>
  refine .sl l A c sz blk off g hc (fun h0=>⟨(hA h0).1,far (hA h0).2⟩) hz (fun i x j y hx hy=>?_) h1 (fun i x j y hx hy=>ih i x j y hx hy (fun _ _ h=>h))
  have h0:0<l.length:=by
   cases l with
   | nil=>simp at hx
   | cons a t=>simp
  exact (Yxn (E.keep _ (hA h0).2.2 (hA h0).2.1)).trans (hg i x j y hx hy)
 | osl ek b off len c blk o hb hc hs =>
  obtain ⟨e,n,h1,h2⟩:=hs
  exact .osl ek b off len c blk o (hρ _ _ hb) hc ⟨e,n,(E.shp _ (Y4i h1)).trans h1,h2⟩
 | osl0 ek b off A=>exact .osl0 ek b off A
 | ptr b off blk o hb=>exact .ptr b off blk o (hρ _ _ hb)
 | rp cs blk off g hO hg h1 h ih=>exact .rp cs blk off g (far hO) (fun j y hy=>(Yxn (E.keep _ hO.2 hO.1)).trans (hg j y hy)) h1 (fun j y hy=>ih j y hy (fun _ _ h=>h))
 | fn f first cap first' cap' hl hl' h h' ih ih'=>exact .fn f first cap first' cap' hl hl' (fun i x v hx hv=>ih i x v hx hv hρ) (fun i x v hx hv=>ih' i x v hx hv hρ)
 | nilp=>exact .nilp
 | nilfn=>exact .nilfn
 | mp b blk hb=>exact .mp b blk (hρ _ _ hb)
 | ifc t x v h ih=>exact .ifc t x v (ih hρ)
 | nilif=>exact .nilif
theorem Rep.less {w:World}{O O':Nat→Prop}{ρ:Pl}{x:AV}{v:Value}(h:Rep w O ρ x v) (hO:∀ b,O' b→O b):Rep w O' ρ x v :=
 h.keep ⟨Nat.le_refl _,fun _ _ _=>rfl,fun b hb => .inl (hO b hb),fun _ _=>rfl⟩ (fun _ _ h=>h)
def Own (X:Nat→Prop) (ρ:Pl) (H:Heap) (b:Nat):Prop:=X b∨∃ i p,ρ i=some p∧p.1=b∧∃ bl,H[i]? = some bl∧(bl ≠ .unborn∧bl ≠ .dead)
structure HSim (X:Nat→Prop) (B:Nat) (w:World) (ρ:Pl) (H:Heap):Prop where
 dom:∀ i p,ρ i=some p→∃ bl,H[i]? = some bl∧bl ≠ .unborn
 cells:∀ (i:Nat) (l:List AV),H[i]? = some (.cells l)→(l = []∧ρ i=none)∨∃ bk o cs e,ρ i=some (bk,o)∧B≤bk∧w.heap[bk]? = some (.cells cs e (0,0))∧o+l.length≤cs.size ∧
  ∀ (j:Nat) (y:AV),l[j]? = some y→∃ v,cs[o+j]? = some v∧v.oneCell'=true∧Rep w (Own X ρ H) ρ y v
 map:∀ (i:Nat) (es:List (AV×AV)),H[i]? = some (.map es)→∃ bk ms ck,ρ i=some (bk,0)∧B≤bk∧w.heap[bk]? = some (.map ms ck)∧ms.size=es.length ∧
  ∀ (j:Nat) (x y:AV) (m:MapEntry),es[j]? = some (x,y)→ms[j]? = some m→Rep w (Own X ρ H) ρ x m.key∧Rep w (Own X ρ H) ρ y m.val∧m.born<ck
 inj:∀ i j p q b c,ρ i=some p→ρ j=some q→p.1=q.1→H[i]? = some b→H[j]? = some c→b ≠ .dead→c ≠ .dead→i=j
structure Nxt (X:Nat→Prop) (B:Nat) (w0 w:World) (ρ:Pl) (H:Heap) (x:AV) (H':Heap) (v:Value) (w':World) (ρ':Pl):Prop where
 rep:Rep w' (Own X ρ' H') ρ' x v
 heap:HSim X B w' ρ' H'
 keep:Keep w (Own X ρ H) w' (Own X ρ' H')
 rho:∀ i p,ρ i=some p→ρ' i=some p
 below:Below B w0 w'
end GoAbs
