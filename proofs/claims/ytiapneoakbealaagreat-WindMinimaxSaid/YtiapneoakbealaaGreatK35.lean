/- Lemmas for the claim (contracts of the functions that it reaches, and what they compute), without conditions. -/
import Derived.Test.YtiapneoakbealaaGreatK34
import Derived.Deep.Slices
import Derived.Deep.Fields
import Derived.ChangeSame
import Derived.OpenShut
import Derived.ShutString
import Derived.WideShapes
set_option linter.unusedVariables false
set_option linter.unusedSimpArgs false
set_option maxRecDepth 10000
set_option maxHeartbeats 2000000
namespace GoAbs
open Go Go.RowKit Go.ChangeShapes Go.WideShapes Go.Deep
def noX:Nat→Prop:=fun _=>False
def RepC (w:World) (av:List AV) (cs:List Value):Prop:=av.length=cs.length∧∀ (i:Nat) (a:AV) (v:Value),av[i]? = some a→cs[i]? = some v→v.oneCell'=true∧Rep w noX noPl a v
def Opens (P:Program) (t:TypeId) (S:List AV→Prop):Prop :=
 ∀ {H:Type} (enc:TypeId×Value→H) (w:World) (base:Nat) (spare:Nat→Bool) (held:Bool) (fuel:Nat) (cs:List Value) (x:DataW H×List MemPlace),
  DataW.trod enc P w base spare held fuel t cs=some x→∃ av,RepC w av cs∧S av
theorem Z2a {P:Program}{t:TypeId}{k:IntKind}(ht:P.underlying t=some (.int k)):Opens P t (fun av=>∃ n,av = [.int k n]∧(Lit.int k n).wf=true):=fun enc w base spare held fuel cs x h=>by
 obtain ⟨n,rfl,_,hw⟩:=DataW.trod_int ht h
 refine ⟨[.int k n],⟨rfl,fun i a v ha hv=>?_⟩,n,rfl,hw⟩
 cases i with
 | zero=>simp at ha hv; subst ha hv; exact ⟨rfl,.int k n⟩
 | succ i=>simp at ha
def OpensF (P:Program) (total:Nat) (fs:List Field) (off:Nat) (S:List AV→Prop):Prop :=
 ∀ {H:Type} (enc:TypeId×Value→H) (w:World) (base:Nat) (spare:Nat→Bool) (held:Bool) (fuel:Nat) (cs:List Value),cs.length=total →
  (∀ (i:Nat) (f:Field),fs[i]? = some f→∃ x:DataW H×List MemPlace,DataW.trod enc P w base spare held fuel f.type ((cs.drop f.offset).take (P.cellsOf f.type))=some x)→∃ av,RepC w av (cs.drop off)∧S av
theorem Ys1 {P:Program}{total:Nat}:OpensF P total [] total (fun av=>av = []):=fun enc w base spare held fuel cs hl h=>by
 refine ⟨[],⟨?_,fun i a v ha=>by simp at ha⟩,rfl⟩
 rw [List.length_drop]; simp; omega
theorem RepC.append {w:World}{av bs:List AV}{cs ds:List Value}(h:RepC w av cs) (k:RepC w bs ds):RepC w (av++bs) (cs++ds):=by
 refine ⟨by rw [List.length_append,List.length_append,h.1,k.1],fun i a v ha hv=>?_⟩
 by_cases hi:i<av.length
 ·rw [List.getElem?_append_left hi] at ha
  rw [List.getElem?_append_left (by rw [← h.1]; exact hi)] at hv
  exact h.2 i a v ha hv
 ·rw [List.getElem?_append_right (by omega)] at ha
  rw [List.getElem?_append_right (by rw [← h.1]; omega), ← h.1] at hv
  exact k.2 _ a v ha hv
theorem Zj4 {P:Program}{total off k:Nat}{f:Field}{fs:List Field}{S S':List AV→Prop}(ho:f.offset=off) (hk:P.cellsOf f.type=k) (hkt:off+k≤total) (hf:Opens P f.type S) (hr:OpensF P total fs (off+k) S') :
  OpensF P total (f::fs) off (fun av=>∃ a b,av=a++b∧a.length=k∧S a∧S' b):=fun enc w base spare held fuel cs hl h=>by
 obtain ⟨x,hx⟩:=h 0 f rfl
 rw [ho,hk] at hx
 obtain ⟨a,ha,hSa⟩:=hf enc w base spare held fuel _ x hx
 obtain ⟨b,hb,hSb⟩:=hr enc w base spare held fuel cs hl (fun i g hg=>h (i+1) g hg)
 refine ⟨a++b,?_,a,b,rfl,?_,hSa,hSb⟩
 ·have:=ha.append hb
  rwa [show (cs.drop off).take k++cs.drop (off+k)=cs.drop off by rw [← List.drop_drop,List.take_append_drop]] at this
 ·rw [ha.1,List.length_take,List.length_drop]; omega
theorem Y2d {P:Program}{t:TypeId}{fs:Array Field}{n:Nat}{S:List AV→Prop}(ht:P.underlying t=some (.struct fs)) (hc:P.cellsOf t=n) (hf:OpensF P n fs.toList 0 S):Opens P t S:=fun enc w base spare held fuel cs x h=>by
 obtain ⟨xs,m,hm,_,hl,hxs,hi⟩:=DataW.trod_struct ht h
 obtain ⟨av,h1,h2⟩:=hf enc w base spare held m cs (by rw [hl,hc]) (fun i f hf=>by
  have hf':fs[i]? = some f:=by simpa using hf
  have hil:i<xs.length:=by rw [hxs]; exact (Array.getElem?_eq_some_iff.1 hf').1
  exact ⟨xs[i],by rw [hi i f hf']; exact List.getElem?_eq_getElem hil⟩)
 exact ⟨av,by simpa using h1,h2⟩
theorem Yys {P:Program}{t e:TypeId}{n:Nat}{S:List AV→Prop}(mk:List AV→AV) (hmk:∀ c,c.length=n→S c→(mk c).cells=c) (ht:P.underlying t=some (.slice e)) (hc:P.cellsOf e=n) (hn:0<n) (he:Opens P e S) :
  Opens P t (fun av=>∃ l:List (List AV),av = [.sl (l.map mk)]∧∀ c,c∈l→c.length=n∧S c):=fun {H} enc w base spare held fuel cs x h=>by
 rcases open_slice ht h with ⟨rfl,_⟩ | ⟨a,len,cap,m,k,D,Pl,rfl,_,hl,_,hm,_,hx⟩
 ·refine ⟨[.sl []],⟨rfl,fun i a v ha hv=>?_⟩,[],rfl,fun c hc=>by simp at hc⟩
  cases i with
  | zero =>
   simp at ha hv; subst ha hv
   exact ⟨rfl,.sl [] none 0 0 0 0 (fun _ => .nilFunc) (Nat.le_refl _) (fun h=>by simp at h) (fun x h=>by simp at h) (fun i x j y h=>by simp at h) (fun i x j y h=>by simp at h) (fun i x j y h=>by simp at h)⟩
  | succ i=>simp at ha
 ·have hml:len≤m:=by rw [hm]; split <;> omega
  have hex:∀ i,∃ av:List AV,i<len→av.length=n∧S av∧∀ j,j<n→∃ y v,av[j]? = some y∧w.cell? (a.add (i*n+j))=some v∧v.oneCell'=true∧Rep w noX noPl y v:=fun i=>by
   by_cases hi:i<len
   ·obtain ⟨cs',h1,h2⟩:=hx i (by omega)
    rw [hc] at h1
    obtain ⟨av,hr,hS⟩:=he enc w base spare held k cs' _ h2
    obtain ⟨_,hcl,hat⟩:=World.cells?_some h1
    refine ⟨av,fun _=>⟨hr.1.trans hcl,hS,fun j hj=>?_⟩⟩
    have hj1:av[j]? = some (av[j]'(by rw [hr.1,hcl]; exact hj)):=List.getElem?_eq_getElem _
    have hj2:cs'[j]? = some (cs'[j]'(by rw [hcl]; exact hj)):=List.getElem?_eq_getElem _
    obtain ⟨g1,g2⟩:=hr.2 j _ _ hj1 hj2
    exact ⟨_,_,hj1,by rw [← Go.Deep.add_add,hat j hj,hj2],g1,g2⟩
   ·exact ⟨[],fun h=>absurd h hi⟩
  obtain ⟨F,hF⟩:=Classical.skolem.1 hex
  have hget:∀ (i:Nat) (x:AV) (j:Nat) (y:AV),(((List.range len).map F).map mk)[i]? = some x→x.cells[j]? = some y→i<len∧j<n∧∃ v,w.cell? (a.add (i*n+j))=some v∧v.oneCell'=true∧Rep w noX noPl y v:=fun i x j y h1 h2=>by
   rw [List.getElem?_map,List.getElem?_map] at h1
   have hi:i<len:=by
    rcases Nat.lt_or_ge i len with hi | hi
    ·exact hi
    ·rw [List.getElem?_eq_none (by simpa using hi)] at h1; simp at h1
   rw [List.getElem?_range hi] at h1
   simp at h1
   obtain ⟨k1,k2,k3⟩:=hF i hi
   rw [← h1,hmk _ k1 k2] at h2
   have hj:j<n:=by rw [← k1]; exact (List.getElem?_eq_some_iff.1 h2).1
   obtain ⟨y',v,g1,g2,g3,g4⟩:=k3 j hj
   rw [h2] at g1; cases g1
   exact ⟨hi,hj,v,g2,g3,g4⟩
  have hmem:∀ x,x∈((List.range len).map F).map mk→x.cells.length=n:=fun x hx=>by
   obtain ⟨c,hc',rfl⟩:=List.mem_map.1 hx
   obtain ⟨i,hi,rfl⟩:=List.mem_map.1 hc'
   obtain ⟨k1,k2,_⟩:=hF i (List.mem_range.1 hi)
   rw [hmk _ k1 k2,k1]
  have hsp:0<len→a=⟨a.block,a.off,none⟩∧a.block<w.heap.size:=fun h0=>by
   obtain ⟨_,_,k3⟩:=hF 0 h0
   obtain ⟨y,v,_,g2,_⟩:=k3 0 hn
   obtain ⟨b,o,sp⟩:=a
   have hs:sp=none:=by simpa [Addr.add] using World.cell?_spot g2
   subst hs
   simp [Addr.add] at g2
   exact ⟨rfl,Y7z g2⟩
  refine ⟨[.sl (((List.range len).map F).map mk)],⟨rfl,fun i b v hb hv=>?_⟩,(List.range len).map F,rfl,fun c hc'=>?_⟩
  ·cases i with
   | succ i=>simp at hb
   | zero =>
    simp only [List.getElem?_cons_zero,Option.some.injEq] at hb hv
    subst hb hv
    refine ⟨rfl,?_⟩
    have:=Rep.sl (w:=w) (O:=noX) (ρ:=noPl) (((List.range len).map F).map mk) (some a) cap n a.block a.off (fun k=>(w.cell? ⟨a.block,a.off+k,none⟩).getD .nilFunc) (by simpa using hl)
     (fun h0=>by
      have h1:=hsp (by simpa using h0)
      exact ⟨congrArg some h1.1,fun h=>h,h1.2⟩) hmem
     (fun i x j y h1 h2=>by
      obtain ⟨hi,hj,v,g2,_⟩:=hget i x j y h1 h2
      rw [(hsp (by omega)).1,Go.WideShapes.add_plain] at g2
      rw [g2]; rfl)
     (fun i x j y h1 h2=>by
      obtain ⟨hi,hj,v,g2,g3,_⟩:=hget i x j y h1 h2
      rw [(hsp (by omega)).1,Go.WideShapes.add_plain] at g2
      rw [g2]; exact g3)
     (fun i x j y h1 h2=>by
      obtain ⟨hi,hj,v,g2,_,g4⟩:=hget i x j y h1 h2
      rw [(hsp (by omega)).1,Go.WideShapes.add_plain] at g2
      rw [g2]; exact g4)
    simpa using this
  ·obtain ⟨i,hi,rfl⟩:=List.mem_map.1 hc'
   obtain ⟨k1,k2,_⟩:=hF i (List.mem_range.1 hi)
   exact ⟨k1,k2⟩
theorem Yxs {P:Program}{t e:TypeId}{S:List AV→Prop}(hS:∀ x,S [x]→x.cells = [x]) (ht:P.underlying t=some (.slice e)) (hc:P.cellsOf e=1) (he:Opens P e S) :
  Opens P t (fun av=>∃ l:List AV,av = [.sl l]∧∀ c,c∈l→S [c]):=fun enc w base spare held fuel cs x h=>by
 have one:∀ c:List AV,c.length=1→c = [c.headD .any]:=fun c hc=>by
  match c,hc with
  | [x],_=>rfl
 obtain ⟨av,h1,l,rfl,hl⟩:=Yys (n:=1) (fun c=>c.headD .any) (fun c hc hs=>by
  rw [one c hc] at hs ⊢
  exact hS _ hs) ht hc (by omega) he enc w base spare held fuel cs x h
 refine ⟨_,h1,_,rfl,fun c hc=>?_⟩
 obtain ⟨d,hd,rfl⟩:=List.mem_map.1 hc
 obtain ⟨k1,k2⟩:=hl d hd
 rwa [← one d k1]
theorem Y8f {H:Type}{enc:TypeId×Value→H}{P:Program}{w:World}{base b0:Nat}{spare:Nat→Bool}{held:Bool}{r:Reach}{t:TypeId}{v:Value}{d:DataW H}{ps:List MemPlace}{fs:Array Field}{S:List AV→Prop}
  (ht:P.underlying t=some (.struct fs)) (ho:Opens P t S) (hv:Value.okWide P w r b0 t v) (hd:DataW.Trod enc P w base spare held t v d ps):∃ av,Rep w noX noPl (.agg av) v∧S av:=by
 obtain ⟨cs,rfl,_⟩:=okWide_struct ht hv
 obtain ⟨fuel,hf⟩:=hd
 obtain ⟨av,hr,hS⟩:=ho enc w base spare held fuel _ _ hf
 exact ⟨av,.agg av cs (by have:=hr.1; simpa [Value.cells] using this.symm) (fun v hv=>by
  obtain ⟨i,hi,he⟩:=List.getElem_of_mem hv
  have hvi:cs.toList[i]? = some v:=by rw [← he]; exact List.getElem?_eq_getElem hi
  exact (hr.2 i _ v (List.getElem?_eq_getElem (by rw [hr.1]; exact hi)) hvi).1) (fun i x v hx hv=>(hr.2 i x v hx (by simpa [Value.cells] using hv)).2),hS⟩
theorem Y8i {H:Type}{enc:TypeId×Value→H}{P:Program}{w:World}{base:Nat}{spare:Nat→Bool}{held:Bool}{t:TypeId}{v:Value}{d:DataW H}{ps:List MemPlace}{S:List AV→Prop}
  (ho:Opens P t S) (hv:v.cells = #[v]) (hd:DataW.Trod enc P w base spare held t v d ps):∃ a,Rep w noX noPl a v∧S [a]:=by
 obtain ⟨fuel,hf⟩:=hd
 rw [hv] at hf
 obtain ⟨av,hr,hS⟩:=ho enc w base spare held fuel _ _ hf
 match av,hr with
 | [a],hr=>exact ⟨a,(hr.2 0 a v rfl rfl).2,hS⟩
end GoAbs
