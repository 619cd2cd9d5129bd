/- Lemmas for the claim (contracts of the functions that it reaches, and what they compute), without conditions. -/
import Derived.Test.YtiapneoakbealaaGreatK01
set_option linter.unusedVariables false
set_option linter.unusedSimpArgs false
set_option maxRecDepth 10000
set_option maxHeartbeats 2000000
namespace GoAbs
open Go Go.RowKit
inductive Ox where
 | t (n:Nat)
 | c (v:AV)
 deriving Inhabited
def Ox.ev (e:Nat→AV):Ox→AV
 | .t n=>e n
 | .c v=>v
inductive COp where
 | mv (x:Ox)
 | pick (c a b:Ox)
 | bin (o:BinOp) (x y:Ox)
 | beq (n:Bool) (x y:Ox)
 | un (o:UnOp) (x:Ox)
 | cvi (k:IntKind) (x:Ox)
 | cvs (x:Ox)
 | alloc (zs:List AV)
 | box (x:Ox)
 | build (zs:List AV) (parts:List (Nat×Nat×Ox))
 | bsl (ek:Option Nat) (n:Nat) (zs:List AV) (parts:List (Nat×Ox))
 | ld (ag:Option Nat) (a:Ox)
 | st (n:Nat) (a x:Ox)
 | nilck (x:Ox)
 | mks (ek:Option Nat) (bytes:Nat) (zs:List AV) (l c:Ox)
 | slc (n:Nat) (x:Ox) (lo hi:Option Ox)
 | sslc (x:Ox) (lo hi:Option Ox)
 | fa (off:Nat) (x:Ox)
 | fld (ag:Option Nat) (off:Nat) (x:Ox)
 | idx (n:Nat) (x i:Ox)
 | idxa (n len:Nat) (x i:Ox)
 | sidx (x i:Ox)
 | ext (i:Nat) (x:Ox)
 | call (f:Nat) (xs:List Ox)
 | callv (x:Ox) (xs:List Ox)
 | len (x:Ox)
 | slen (x:Ox)
 | app (ek:Option Nat) (bytes:Nat) (s x:Ox)
 | mn (x y:Ox)
 | mx (x y:Ox)
 | mkf (f:Nat) (first cap:List Ox)
 | b2s (x:Ox)
 | cpy (n:Nat) (d x:Ox)
 | xt (f:Nat) (xs:List Ox)
 | callw (f:Nat) (xs:List Ox)
 | calle (f:Nat) (xs:List Ox)
 | mki (t:TypeId) (x:Ox)
 | ta (t:TypeId) (ok:Bool) (z:AV) (x:Ox)
 | inv (tbl:List (TypeId×Nat)) (x:Ox) (xs:List Ox)
 | callu (x:Ox) (xs:List Ox)
 | bad
 deriving Inhabited
structure IOp where
 dst:Option Nat
 op:COp
 id:Nat:=0
 oks:List Nat := []
 nw:List Nat := []
 guard:Option (Nat×Bool):=none
 deriving Inhabited
abbrev oI (d:Nat) (c:COp) (n:Nat):IOp:=⟨some d,c,n,[],[],none⟩
abbrev cI (n:Int):Ox := .c (.int .i64 n)
abbrev mI (d s n:Nat):IOp:=⟨some d,.mv (.t s),n,[],[],none⟩
abbrev lI (d s n:Nat):IOp:=⟨some d,.ld none (.t s),n,[],[],none⟩
abbrev lJ (d k s n:Nat):IOp:=⟨some d,.ld (some k) (.t s),n,[],[],none⟩
abbrev fI (d k s n:Nat):IOp:=⟨some d,.fa k (.t s),n,[],[],none⟩
abbrev xI (d k s t n:Nat):IOp:=⟨some d,.idx k (.t s) (.t t),n,[],[],none⟩
abbrev eI (d k s n:Nat):IOp:=⟨some d,.ext k (.t s),n,[],[],none⟩
abbrev gI (d:Nat) (c:COp) (n g:Nat) (b:Bool):IOp:=⟨some d,c,n,[],[],some (g,b)⟩
inductive CC where
 | skip
 | rg (draw:Bool) (l:List IOp)
 | seq (a b:CC)
 | cond (c:Ox) (a b:CC)
 | block (id:Nat) (a:CC)
 | loop (a:CC)
 | exit (id:Nat)
 | ret
 deriving Inhabited
abbrev Md:=Option (Nat×(Nat→Nat→Prop))
structure Dm where
 base:Nat
 W:Nat→Nat→Prop
 id:Nat
 oks:List Nat
 nw:List Nat
def IOp.dm (io:IOp) (md:Md):Option Dm:=md.map fun p=>⟨p.1,p.2,io.id,io.oks,io.nw⟩
def NewB (d:Option Dm) (H:Heap) (bl:Blk) (i:Nat) (H':Heap):Prop :=
 match d with
 | none=>i=H.length∧H'=H ++ [bl]
 | some d=>i=d.base+d.id∧H[i]? = some .unborn∧H'=H.set i bl
def OkI (d:Dm) (b:Nat):Prop:=b<d.base∨∃ k,k∈d.oks∧b=d.base+k
def NoW (W:Nat→Nat→Prop) (b:Nat):List Nat→Prop
 | []=>True
 | t::r=>¬ W t b∧NoW W b r
theorem Ypq {W:Nat→Nat→Prop}{b t:Nat}:∀ {l:List Nat},NoW W b l→t∈l→¬ W t b
 | [],_,h=>by simp at h
 | u::r,h,ht=>by
  rcases List.mem_cons.1 ht with rfl | ht
  ·exact h.1
  ·exact Ypq h.2 ht
def OkB (d:Option Dm) (b:Nat):Prop :=
 match d with
 | none=>True
 | some d=>OkI d b∧NoW d.W b d.nw
def OkW (d:Option Dm) (b:Nat):Prop :=
 match d with
 | none=>True
 | some d=>OkI d b∧d.W d.id b
def Ldv (ag:Option Nat) (cs:List AV) (v:AV):Prop :=
 match ag with
 | none=>cs[0]? = some v
 | some n=>n≤cs.length∧v = .agg (cs.take n)
def binI (o:BinOp) (k k':IntKind) (a b:Int) (v:AV):Prop :=
 match o with
 | .shl=>0≤b∧v = .int k (k.wrap (a*2 ^ (min b.toNat k.bits)))
 | .shr=>0≤b∧v = .int k (a.fdiv (2 ^ (min b.toNat k.bits)))
 | .add=>k=k'∧v = .int k (k.wrap (a+b))
 | .sub=>k=k'∧v = .int k (k.wrap (a - b))
 | .mul=>k=k'∧v = .int k (k.wrap (a*b))
 | .quo=>k=k'∧b≠0∧v = .int k (k.wrap (a.tdiv b))
 | .rem=>k=k'∧b≠0∧v = .int k (a.tmod b)
 | .and=>k=k'∧v = .int k (k.wrap (BitVec.ofInt k.bits a &&& BitVec.ofInt k.bits b).toNat)
 | .or=>k=k'∧v = .int k (k.wrap (BitVec.ofInt k.bits a ||| BitVec.ofInt k.bits b).toNat)
 | .xor=>k=k'∧v = .int k (k.wrap (BitVec.ofInt k.bits a ^^^ BitVec.ofInt k.bits b).toNat)
 | .andNot=>k=k'∧v = .int k (k.wrap (BitVec.ofInt k.bits a &&& ~~~BitVec.ofInt k.bits b).toNat)
 | .eql=>k=k'∧v = .bool (a == b)
 | .neq=>k=k'∧v = .bool (a != b)
 | .lss=>k=k'∧v = .bool (decide (a<b))
 | .leq=>k=k'∧v = .bool (decide (a≤b))
 | .gtr=>k=k'∧v = .bool (decide (a > b))
 | .geq=>k=k'∧v = .bool (decide (a≥b))
def binS (o:BinOp) (s t:ByteArray) (v:AV):Prop :=
 match o with
 | .add=>((s.size+t.size:Nat):Int)≤IntKind.i64.max∧v = .str (s++t)
 | .eql=>v = .bool (s.toList == t.toList)
 | .neq=>v = .bool (!(s.toList == t.toList))
 | .lss=>v = .bool (Op.bytesLess s.toList t.toList)
 | .leq=>v = .bool (Op.bytesLess s.toList t.toList || s.toList == t.toList)
 | .gtr=>v = .bool (!(Op.bytesLess s.toList t.toList || s.toList == t.toList))
 | .geq=>v = .bool (!Op.bytesLess s.toList t.toList)
 | _=>False
def unI (o:UnOp) (x v:AV):Prop :=
 match o,x with
 | .neg,.int k n=>v = .int k (k.wrap (0 - n))
 | .xor,.int k n=>v = .int k (k.wrap (BitVec.ofInt k.bits (if k.signed then -1 else k.max) ^^^ BitVec.ofInt k.bits n).toNat)
 | .not,.bool b=>v = .bool (!b)
 | _,_=>False
def fillA (cs:List AV):List (Nat×AV)→List AV
 | []=>cs
 | (o,x)::r=>fillA (cs.take o++x.cells++cs.drop (o+x.cells.length)) r
def AV.known:AV→Prop
 | .any=>False
 | .tup _=>False
 | _=>True
def Bnd (e:Ox→AV) (x:Option Ox) (d n:Nat):Prop :=
 match x with
 | none=>n=d
 | some o=>match e o with
  | .int _ i=>0≤i∧n=i.toNat
  | _=>False
def Cont (q:Nat→Prop) (n:Nat) (H:Heap) (x:AV) (cs:List AV):Prop :=
 match x with
 | .nils=>cs = []
 | .sl l=>(∀ y,y∈l→y.cells.length=n)∧cs=l.flatMap AV.cells
 | .osl ek b off len=>es ek=n∧((len=0∧cs = [])∨(q b∧∃ l,H[b]? = some (.cells l)∧off+len*n≤l.length∧cs=(l.drop off).take (len*n)))
 | _=>False
def kill (ids:List Nat) (H:Heap):Heap:=ids.foldl (fun H i=>H.set i .dead) H
inductive BV (H:Heap) (ids:List Nat):AV→AV→Prop
 | int (k:IntKind) (n:Int):BV H ids (.int k n) (.int k n)
 | bool (b:Bool):BV H ids (.bool b) (.bool b)
 | str (s:ByteArray):BV H ids (.str s) (.str s)
 | any:BV H ids .any .any
 | agg (cs ds:List AV) (hl:ds.length=cs.length) (h:∀ (i:Nat) (x y:AV),cs[i]? = some x→ds[i]? = some y→BV H ids x y):BV H ids (.agg cs) (.agg ds)
 | tup (cs ds:List AV) (hl:ds.length=cs.length) (h:∀ (i:Nat) (x y:AV),cs[i]? = some x→ds[i]? = some y→BV H ids x y):BV H ids (.tup cs) (.tup ds)
 | nils:BV H ids .nils .nils
 | nilsl:BV H ids .nils (.sl [])
 | sl (l:List AV):BV H ids (.sl l) (.sl l)
 | rp (cs:List AV):BV H ids (.rp cs) (.rp cs)
 | nilp:BV H ids .nilp .nilp
 | osl (ek:Option Nat) (b off len:Nat) (l:List AV) (r:List AV) (hb:H[b]? = some (.cells l)) (hi:b∈ids) (hr:r.length=len)
   (hz:∀ x,x∈r→x.cells.length=es ek) (hlen:off+len*es ek≤l.length)
   (h:∀ (i:Nat) (x:AV) (j:Nat) (y z:AV),r[i]? = some x→x.cells[j]? = some y→l[off+(i*es ek+j)]? = some z→BV H ids z y):BV H ids (.osl ek b off len) (.sl r)
 | osl0 (ek:Option Nat) (b off:Nat):BV H ids (.osl ek b off 0) (.sl [])
 | ptr (b off:Nat) (l r:List AV) (hb:H[b]? = some (.cells l)) (hi:b∈ids) (hl:off+r.length≤l.length)
   (h:∀ (j:Nat) (y z:AV),r[j]? = some y→l[off+j]? = some z→BV H ids z y):BV H ids (.ptr b off) (.rp r)
 | fn (f:Nat) (first cap:List AV) (first' cap':List AV) (hl:first'.length=first.length) (hl':cap'.length=cap.length)
   (h:∀ (i:Nat) (x y:AV),first[i]? = some x→first'[i]? = some y→BV H ids x y)
   (h':∀ (i:Nat) (x y:AV),cap[i]? = some x→cap'[i]? = some y→BV H ids x y):BV H ids (.fn f first cap) (.fn f first' cap')
 | ifc (t:TypeId) (x y:AV) (h:BV H ids x y):BV H ids (.ifc t x) (.ifc t y)
 | nilif:BV H ids .nilif .nilif
inductive BVs (H:Heap) (ids:List Nat):List AV→List AV→Prop
 | nil:BVs H ids [] []
 | cons {x y:AV} {xs ys:List AV} (h:BV H ids x y) (t:BVs H ids xs ys):BVs H ids (x::xs) (y::ys)
inductive Flat:AV→Prop
 | any:Flat .any
 | int (k:IntKind) (n:Int):Flat (.int k n)
 | bool (b:Bool):Flat (.bool b)
 | str (s:ByteArray):Flat (.str s)
 | tup (cs:List AV) (h:∀ x,x∈cs→Flat x):Flat (.tup cs)
 | agg (cs:List AV) (h:∀ x,x∈cs→Flat x):Flat (.agg cs)
 | nilsl:Flat (.sl [])
 | nils:Flat .nils
def Callable (P : Program) (f : Nat) : Prop := ∃ fn, P.funcs[f]? = some fn ∧ fn.body.isSome = true ∧ (fn.name == "runtime.NumGoroutine") = false
def Reps (w:World) (O:Nat→Prop) (ρ:Pl) (xs:List AV) (vs:Array Value):Prop :=
 vs.size=xs.length∧∀ (i:Nat) (x:AV) (v:Value),xs[i]? = some x→vs[i]? = some v→Rep w O ρ x v
def SpecV (P:Program) (f:Nat) (xs:List AV) (r:AV):Prop :=
 Callable P f∧∀ (X:Nat→Prop) (w:World) (vs:Array Value),(∀ b,X b→b<w.heap.size)→Reps w X noPl xs vs →
  Calls P f vs w fun e w'=>∃ v,e = .returned v∧Rep w' X noPl r v∧Below w.heap.size w w'
def SpecR (P:Program) (f:Nat) (H:Heap) (xs:List AV) (r:AV) (H':Heap):Prop :=
 Callable P f∧∀ (X:Nat→Prop) (B:Nat) (w0 w:World) (ρ:Pl) (vs:Array Value),HSim X B w ρ H→(∀ b,X b→b<B)→Below B w0 w→B≤w.heap.size →
  Reps w (Own X ρ H) ρ xs vs→Calls P f vs w fun e w'=>∃ v ρ',e = .returned v∧Nxt X B w0 w ρ H r H' v w' ρ'
def PureX (P:Program) (f:Nat) (xs:List AV) (v:AV):Prop :=
 Flat v∧∀ (w:World) (O:Nat→Prop) (ρ:Pl) (vs:Array Value),Reps w O ρ xs vs→∃ v',(callFunc f vs).run P w = .ok (.value v') w∧Rep w O ρ v v'
def LessB (H1 H0:Heap):Prop:=H1.length=H0.length∧∀ i:Nat,H1[i]? = H0[i]? ∨ H1[i]? = some Blk.unborn
theorem LessB.refl (H:Heap):LessB H H:=⟨rfl,fun _ => .inl rfl⟩
theorem LessB.trans {H1 H2 H3:Heap}(h:LessB H1 H2) (k:LessB H2 H3):LessB H1 H3 :=
 ⟨h.1.trans k.1,fun i=>(h.2 i).elim (fun g=>(k.2 i).elim (fun g2 => .inl (g.trans g2)) (fun g2 => .inr (g.trans g2))) .inr⟩
def ap (M:List (Nat×Blk)) (H:Heap):Heap:=M.foldl (fun H p=>H.set p.1 p.2) H
def R (P:Program) (d:Option Dm) (e:Ox→AV) (H:Heap) (op:COp) (v:AV) (H':Heap):Prop :=
 match op with
 | .mv x=>v=e x∧H'=H
 | .pick c a b=>(match e c with | .bool t=>v=(bif t then e a else e b) | _=>False)∧H'=H
 | .bin o x y=>(match e x,e y with
  | .int k a,.int k' b=>binI o k k' a b v
  | .str s,.str t=>binS o s t v
  | _,_=>False)∧H'=H
 | .beq n x y=>(match e x,e y with | .bool a,.bool b=>v = .bool (bif n then !(a == b) else a == b) | _,_=>False)∧H'=H
 | .un o x=>unI o (e x) v∧H'=H
 | .cvi k x=>(match e x with | .int _ n=>v = .int k (k.wrap n) | _=>False)∧H'=H
 | .cvs x=>(match e x with | .str s=>v = .str s | _=>False)∧H'=H
 | .alloc zs=>∃ i,NewB d H (.cells zs) i H'∧v = .ptr i 0
 | .box x=>(e x).known∧∃ i,NewB d H (.cells (e x).cells) i H'∧v = .ptr i 0
 | .build zs parts=>(∀ p,p∈parts→(e p.2.2).known∧(e p.2.2).cells.length=p.2.1)∧v = .agg (fillA zs (parts.map fun p=>(p.1,e p.2.2)))∧H'=H
 | .bsl ek n zs parts=>match n with
  | 0=>v = .nils∧H'=H
  | n+1=>(∀ p,p∈parts→(e p.2).known∧(e p.2).cells.length=es ek) ∧
   ∃ i,NewB d H (.cells (fillA (List.replicate (n+1) zs).flatten (parts.map fun p=>(p.1*es ek,e p.2)))) i H'∧v = .osl ek i 0 (n+1)
 | .ld ag a=>(match e a with
  | .ptr b off=>OkB d b∧∃ l,H[b]? = some (.cells l)∧Ldv ag (l.drop off) v
  | .rp cs=>Ldv ag cs v
  | _=>False)∧H'=H
 | .st n a x=>(match e a with
  | .ptr b off=>OkW d b∧(e x).known∧(e x).cells.length=n∧∃ l,H[b]? = some (.cells l)∧off+n≤l.length∧H'=H.set b (.cells (fillA l [(off,e x)]))∧v = .any
  | _=>False)
 | .nilck x=>(match e x with
  | .ptr b o=>v = .ptr b o
  | .rp cs=>v = .rp cs
  | .fn f a b=>v = .fn f a b
  | _=>False)∧H'=H
 | .mks ek bytes zs l c=>(match e l,e c with
  | .int _ n,.int _ m=>0≤n∧n≤m∧bytes*m≤281474976710656∧∃ i,NewB d H (.cells (List.replicate m.toNat zs).flatten) i H'∧v = .osl ek i 0 n.toNat
  | _,_=>False)
 | .slc n x lo hi=>(match e x with
  | .nils=>∃ a b,Bnd e lo 0 a∧Bnd e hi 0 b∧a=0∧b=0∧v = .nils
  | .sl l=>∃ a b,Bnd e lo 0 a∧Bnd e hi l.length b∧a≤b∧b≤l.length∧(∀ y,y∈l→y.cells.length=n)∧v = .sl ((l.take b).drop a)
  | .osl ek bl off len=>∃ a b,Bnd e lo 0 a∧Bnd e hi len b∧a≤b∧b≤len∧es ek=n∧v = .osl ek bl (off+a*n) (b - a)
  | _=>False)∧H'=H
 | .sslc x lo hi=>(match e x with
  | .str s=>∃ a b,Bnd e lo 0 a∧Bnd e hi s.size b∧a≤b∧b≤s.size∧v = .str (s.extract a b)
  | _=>False)∧H'=H
 | .fa off x=>(match e x with | .ptr b o=>v = .ptr b (o+off) | .rp cs=>v = .rp (cs.drop off) | _=>False)∧H'=H
 | .fld ag off x=>(match e x with | .agg cs=>Ldv ag (cs.drop off) v | _=>False)∧H'=H
 | .idx n x i=>(match e x,e i with
  | .sl l,.int _ j=>0≤j∧∃ y,l[j.toNat]? = some y∧y.cells.length=n∧v = .rp y.cells
  | .osl ek b off len,.int _ j=>es ek=n∧0≤j∧j<len∧v = .ptr b (off+j.toNat*n)
  | _,_=>False)∧H'=H
 | .idxa n len x i=>(match e x,e i with
  | .ptr b off,.int _ j=>0≤j∧j<len∧v = .ptr b (off+j.toNat*n)
  | _,_=>False)∧H'=H
 | .sidx x i=>(match e x,e i with
  | .str s,.int _ j=>0≤j∧∃ c,s[j.toNat]? = some c∧v = .int .u8 c.toNat
  | _,_=>False)∧H'=H
 | .ext i x=>(match e x with | .tup vs=>vs[i]? = some v | _=>False)∧H'=H
 | .call f xs=>match d with
  | none=>SpecR P f H (xs.map e) v H'
  | some _=>H'=H∧∃ ys ids,BVs H ids (xs.map e) ys∧(∀ b,b∈ids→OkB d b)∧(ids = []∨Flat v)∧SpecV P f ys v
 | .callv x xs=>match e x with
  | .fn f first cap=>(match d with
   | none=>SpecR P f H (first++xs.map e++cap) v H'
   | some _=>H'=H∧∃ ys ids,BVs H ids (first++xs.map e++cap) ys∧(∀ b,b∈ids→OkB d b)∧(ids = []∨Flat v)∧SpecV P f ys v)
  | _=>False
 | .len x=>(match e x with
  | .nils=>v = .int .i64 0
  | .sl l=>v = .int .i64 l.length
  | .osl _ _ _ n=>v = .int .i64 n
  | _=>False)∧H'=H
 | .slen x=>(match e x with
  | .str s=>v = .int .i64 s.size
  | _=>False)∧H'=H
 | .app ek bytes s x=>∃ cs m,Cont (OkB d) (es ek) H (e x) cs∧cs.length=m*es ek∧(match e s with
  | .nils=>m*bytes≤1099511627776∧∃ i,NewB d H (.cells cs) i H'∧v = .osl ek i 0 m
  | .osl ek' b off len=>es ek'=es ek∧(len+m)*bytes≤1099511627776∧OkW d b∧∃ l,H[b]? = some (.cells l)∧off+len*es ek≤l.length ∧
    ∃ i,NewB d (H.set b .dead) (.cells ((l.drop off).take (len*es ek)++cs)) i H'∧v = .osl ek i 0 (len+m)
  | _=>False)
 | .mn x y=>(match e x,e y with | .int k a,.int _ b=>v = .int k (if b<a then b else a) | _,_=>False)∧H'=H
 | .mx x y=>(match e x,e y with | .int k a,.int _ b=>v = .int k (if b > a then b else a) | _,_=>False)∧H'=H
 | .mkf f first cap=>v = .fn f (first.map e) (cap.map e)∧H'=H
 | .b2s x=>H'=H∧∃ cs,Cont (OkB d) 1 H (e x) cs∧∃ bs:List UInt8,cs=bs.map (fun b => .int .u8 b.toNat)∧v = .str ⟨bs.toArray⟩
 | .cpy n y x=>∃ cs m,Cont (OkB d) n H (e x) cs∧cs.length=m*n∧(match e y with
  | .osl ek b off len=>es ek=n∧OkW d b∧∃ l,H[b]? = some (.cells l)∧off+len*n≤l.length∧H'=H.set b (.cells (fillA l [(off,.agg (cs.take (min m len*n)))]))∧v = .int .i64 (min m len:Nat)
  | .nils=>H'=H∧v = .int .i64 0
  | _=>False)
 | .xt f xs=>((∀ x,x∈xs→Flat (e x))∧PureX P f (xs.map e) v)∧H'=H
 | .callw f xs=>SpecR P f H (xs.map e) v H'
 | .calle f xs=>match d with
  | none=>SpecR P f H (xs.map e) v H'
  | some D=>∃ H0 K K':Heap,H0.length=D.base+D.id∧H=H0++K∧H'=H0++K'∧∀ H1:Heap,LessB H1 H0→SpecR P f (H1++K) (xs.map e) v (H1++K')
 | .mki t x=>((e x).known∧v = .ifc t (e x))∧H'=H
 | .ta t ok z x=>(match e x with
  | .ifc u y=>if u=t then v=(if ok=true then .tup [y,.bool true] else y) else (ok=true∧v = .tup [z,.bool false])
  | _=>False)∧H'=H
 | .inv tbl x xs=>match e x with
  | .ifc u y=>(match tbl.lookup u with
   | some f=>(match d with
    | none=>SpecR P f H (y::xs.map e) v H'
    | some _=>H'=H∧∃ ys ids,BVs H ids (y::xs.map e) ys∧(∀ b,b∈ids→OkB d b)∧(ids = []∨Flat v)∧SpecV P f ys v)
   | none=>False)
  | _=>False
 | .callu x xs=>match e x with
  | .fn f first cap=>(match d with
   | none=>SpecR P f H (first++xs.map e++cap) v H'
   | some D=>∃ M:List (Nat×Blk),H'=ap M H∧(∀ p,p∈M→OkI D p.1∧D.W D.id p.1) ∧
     ∀ H2:Heap,LessB H2 H→SpecR P f H2 (first++xs.map e++cap) v (ap M H2))
  | _=>False
 | .bad=>False
def COp.toW:COp→COp
 | .call f xs => .callw f xs
 | c=>c
def COp.toE:COp→COp
 | .call f xs => .calle f xs
 | c=>c
def COp.toU:COp→COp
 | .callv x xs => .callu x xs
 | c=>c
def upd (e:Nat→AV) (d:Option Nat) (v:AV):Nat→AV :=
 match d with
 | none=>e
 | some t=>fun u=>if u=t then v else e u
def gv (v:AV) (want:Bool):Option Bool :=
 match v with
 | .bool b=>some (b == want)
 | .tup []=>some false
 | _=>none
def IOp.gst (io:IOp) (e:Nat→AV):Option Bool :=
 match io.guard with
 | none=>some true
 | some (g,want)=>gv (e g) want
def istep (P:Program) (md:Md) (io:IOp) (K:St→Prop) (st:St):Prop :=
 match io.gst st.env with
 | some true=>∃ v H',R P (io.dm md) (Ox.ev st.env) st.H io.op v H'∧K ⟨upd st.env io.dst v,H'⟩
 | some false=>K ⟨upd st.env io.dst (.tup []),st.H⟩
 | none=>False
def iexec (P:Program) (md:Md) (ops:List IOp) (K:St→Prop) (st:St):Prop :=
 match ops with
 | []=>K st
 | io::r=>istep P md io (iexec P md r K) st
end GoAbs
