/- Lemmas for the claim (contracts of the functions that it reaches, and what they compute), without conditions. -/
import Derived.Test.YtiapneoakbealaaGreatK05
set_option linter.unusedVariables false
set_option linter.unusedSimpArgs false
set_option maxRecDepth 10000
set_option maxHeartbeats 2000000
namespace GoAbs
open Go Go.RowKit
variable {X:Nat→Prop} {B:Nat} {w0 w w':World} {ρ ρ':Pl} {H H':Heap} {P:Program} {O:Nat→Prop}
def Env (w:World) (O:Nat→Prop) (ρ:Pl) (e:Nat→AV) (a:Act):Prop:=∀ t,Rep w O ρ (e t) (a.tmps.getD t undef)
theorem Zv5 {o:Oper}{a:Act}{next:Act→World→Prop}{Q:Exit→Act→World→Prop}{v':Value}(h:(execOp a.eval o).run P w = .ok (.value v') w')
  (hk:next (a.put o.dst v') w'):o.wp P a w next Q:=by
 unfold Oper.wp
 rw [h]
 exact hk
theorem Y8v {o:Oper}{a:Act}{next:Act→World→Prop}{Q:Exit→Act→World→Prop}(h:(execOp a.eval o).run P w = .ok .skip w')
  (hk:next (a.put o.dst undef) w'):o.wp P a w next Q:=by
 unfold Oper.wp
 rw [h]
 exact hk
theorem Yxv {v:Value}{x:AV}(h:cL v=some x):Rep w O ρ x v∧v.oneCell'=true∧x.cells = [x]∧v.cells = #[v]:=by
 unfold cL at h
 split at h <;> first | (cases h; exact ⟨by constructor,rfl,rfl,rfl⟩) | cases h
theorem Yxi:∀ {vs:List Value}{xs:List AV},cLs vs=some xs→xs.length=vs.length∧∀ (i:Nat) (x:AV) (v:Value),xs[i]? = some x→vs[i]? = some v→Rep w O ρ x v∧v.oneCell'=true
 | [],xs,h=>by cases h; simp
 | v::r,xs,h=>by
  unfold cLs at h
  split at h
  ·rename_i x ys h1 h2
   cases h
   obtain ⟨h3,h4⟩:=Yxi h2
   refine ⟨by simp [h3],fun i y u hy hu=>?_⟩
   cases i with
   | zero =>
    simp at hy hu; subst hy; subst hu
    exact ⟨(Yxv h1).1,(Yxv (w:=w) (O:=O) (ρ:=ρ) h1).2.1⟩
   | succ i=>exact h4 i y u (by simpa using hy) (by simpa using hu)
  ·cases h
theorem Yl3 {v:Value}{x:AV}(h:cV v=some x):Rep w O ρ x v∧v.cells.size=x.cells.length ∧
  ∀ (j:Nat) (y:AV) (u:Value),x.cells[j]? = some y→v.cells[j]? = some u→Rep w O ρ y u∧u.oneCell'=true:=by
 unfold cV at h
 split at h
 ·rename_i cs
  cases h1:cLs cs.toList with
  | none=>rw [h1] at h; cases h
  | some xs =>
   rw [h1] at h; cases h
   obtain ⟨h2,h3⟩:=Yxi (w:=w) (O:=O) (ρ:=ρ) h1
   have h4:∀ (i:Nat) (x:AV) (v:Value),xs[i]? = some x→cs[i]? = some v→Rep w O ρ x v∧v.oneCell'=true:=fun i x v hx hv=>h3 i x v hx (by rw [Array.getElem?_toList]; exact hv)
   refine ⟨.agg xs cs (by simpa using h2.symm) (fun v hv=>?_) (fun i x v hx hv=>(h4 i x v hx hv).1),?_,fun j y u hy hu=>h4 j y u hy hu⟩
   ·obtain ⟨i,hi⟩:=List.getElem?_of_mem hv
    have hlt:i<xs.length:=by
     rw [h2]
     rcases Nat.lt_or_ge i cs.toList.length with h5 | h5
     ·exact h5
     ·rw [List.getElem?_eq_none h5] at hi; cases hi
    exact (h3 i _ v (List.getElem?_eq_getElem hlt) hi).2
   ·simpa [Value.cells,AV.cells] using h2.symm
 ·obtain ⟨h1,h2,h3,h4⟩:=Yxv (w:=w) (O:=O) (ρ:=ρ) h
  refine ⟨h1,by rw [h3,h4]; rfl,fun j y u hy hu=>?_⟩
  rw [h3] at hy
  rw [h4] at hu
  cases j with
  | zero=>simp at hy hu; subst hy; subst hu; exact ⟨h1,h2⟩
  | succ j=>simp at hy
theorem Za4 {e:Nat→AV}{a:Act}(hE:Env w O ρ e a) {x:Operand}{y:Ox}(h:cOx x=some y):Rep w O ρ (y.ev e) (a.eval x):=by
 cases x with
 | tmp t=>cases h; exact hE t
 | const v =>
  simp only [cOx] at h
  cases h1:cV v with
  | none=>rw [h1] at h; cases h
  | some z=>rw [h1] at h; cases h; exact (Yl3 h1).1
 | func f=>cases h; exact .fn f [] [] #[] #[] rfl rfl (fun i x v hx=>by simp at hx) (fun i x v hx=>by simp at hx)
 | global g=>cases h
theorem Zz9 {e:Nat→AV}{a:Act}(hE:Env w O ρ e a):∀ {xs:List Operand}{ys:List Ox},cOxs xs=some ys →
  (ys.map (Ox.ev e)).length=(xs.map a.eval).length∧∀ (i:Nat) (x:AV) (v:Value),(ys.map (Ox.ev e))[i]? = some x→(xs.map a.eval)[i]? = some v→Rep w O ρ x v
 | [],ys,h=>by cases h; simp
 | x::r,ys,h=>by
  unfold cOxs at h
  split at h
  ·rename_i y zs h1 h2
   cases h
   obtain ⟨h3,h4⟩:=Zz9 hE h2
   refine ⟨by simpa using h3,fun i z u hz hu=>?_⟩
   cases i with
   | zero=>simp at hz hu; subst hz; subst hu; exact Za4 hE h1
   | succ i=>exact h4 i z u (by simpa using hz) (by simpa using hu)
  ·cases h
theorem Zc0 {k:IntKind}{n:Int}{v:Value}(h:Rep w O ρ (.int k n) v):v = .int k n:=by cases h; rfl
theorem Zqc {b:Bool}{v:Value}(h:Rep w O ρ (.bool b) v):v = .bool b:=by cases h; rfl
theorem Z6c {s:ByteArray}{v:Value}(h:Rep w O ρ (.str s) v):v = .string s:=by cases h; rfl
theorem Ym8 {xs:List AV}{v:Value}(h:Rep w O ρ (.tup xs) v):∃ us:Array Value,v = .tuple us∧us.size=xs.length∧∀ (i:Nat) (x:AV) (u:Value),xs[i]? = some x→us[i]? = some u→Rep w O ρ x u:=by
 cases h with | tup cs vs hl h=>exact ⟨vs,rfl,hl,h⟩
theorem Ynz {xs:List AV}{v:Value}(h:Rep w O ρ (.agg xs) v):∃ us:Array Value,v = .agg us∧us.size=xs.length∧(∀ u,u∈us.toList→u.oneCell'=true)∧∀ (i:Nat) (x:AV) (u:Value),xs[i]? = some x→us[i]? = some u→Rep w O ρ x u:=by
 cases h with | agg cs vs hl h1 h=>exact ⟨vs,rfl,hl,h1,h⟩
theorem Ydx {b off:Nat}{v:Value}(h:Rep w O ρ (.ptr b off) v):∃ blk o,v = .pointer (some ⟨blk,o+off,none⟩)∧ρ b=some (blk,o):=by
 cases h with | ptr b off blk o hb=>exact ⟨blk,o,rfl,hb⟩
theorem Ykr {cs:List AV}{v:Value}(h:Rep w O ρ (.rp cs) v):∃ (blk off:Nat) (g:Nat→Value),v = .pointer (some ⟨blk,off,none⟩)∧(¬ O blk∧blk<w.heap.size) ∧
  (∀ (j:Nat) (y:AV),cs[j]? = some y→w.cell? ⟨blk,off+j,none⟩=some (g j))∧(∀ (j:Nat) (y:AV),cs[j]? = some y→(g j).oneCell'=true) ∧
  (∀ (j:Nat) (y:AV),cs[j]? = some y→Rep w O noPl y (g j)):=by
 cases h with | rp cs blk off g hO hg h1 h=>exact ⟨blk,off,g,rfl,hO,hg,h1,h⟩
theorem Y1h {f:Nat}{p q:List AV}{v:Value}(h:Rep w O ρ (.fn f p q) v):∃ p' q':Array Value,v = .func (.func f) p' q'∧p'.size=p.length∧q'.size=q.length ∧
  (∀ (i:Nat) (x:AV) (u:Value),p[i]? = some x→p'[i]? = some u→Rep w O ρ x u)∧(∀ (i:Nat) (x:AV) (u:Value),q[i]? = some x→q'[i]? = some u→Rep w O ρ x u):=by
 cases h with | fn f p q p' q' hl hl' h h'=>exact ⟨p',q',rfl,hl,hl',h,h'⟩
theorem Zhe {v:Value}(h:Rep w O ρ .nils v):∃ A,v = .slice A 0 0:=by
 cases h with | nils A=>exact ⟨A,rfl⟩
theorem Yff {l:List AV}{v:Value}(h:Rep w O ρ (.sl l) v):∃ (A:Option Addr) (c sz blk off:Nat) (g:Nat→Value),v = .slice A l.length c∧l.length≤c ∧
  (0<l.length→A=some ⟨blk,off,none⟩∧¬ O blk∧blk<w.heap.size)∧(∀ x,x∈l→x.cells.length=sz) ∧
  (∀ (i:Nat) (x:AV) (j:Nat) (y:AV),l[i]? = some x→x.cells[j]? = some y→w.cell? ⟨blk,off+(i*sz+j),none⟩=some (g (i*sz+j))) ∧
  (∀ (i:Nat) (x:AV) (j:Nat) (y:AV),l[i]? = some x→x.cells[j]? = some y→(g (i*sz+j)).oneCell'=true) ∧
  (∀ (i:Nat) (x:AV) (j:Nat) (y:AV),l[i]? = some x→x.cells[j]? = some y→Rep w O noPl y (g (i*sz+j))):=by
 cases h with | sl l A c sz blk off g hc hA hz hg h1 h=>exact ⟨A,c,sz,blk,off,g,rfl,hc,hA,hz,hg,h1,h⟩
theorem Zqu {ek:Option Nat}{b off len:Nat}{v:Value}(h:Rep w O ρ (.osl ek b off len) v):(∃ A,len=0∧v = .slice A 0 0) ∨
  ∃ c blk o,v = .slice (some ⟨blk,o+off,none⟩) len c∧ρ b=some (blk,o)∧len≤c∧∃ e n,w.shape? blk=some (e,n)∧o+off+c*es ek≤n:=by
 cases h with
 | osl ek b off len c blk o hb hc hs=>exact .inr ⟨c,blk,o,rfl,hb,hc,hs⟩
 | osl0 ek b off A=>exact .inl ⟨A,rfl,rfl⟩
theorem Yau (op:BinOp) (t:TypeId) (x y:Operand) (k k':IntKind) (m n:Int):(eqGuard op t x y (.int k m) (.int k' n)).run P w = .ok () w:=by
 cases op <;> rfl
theorem Yb9 (op:BinOp) (t:TypeId) (x y:Operand) (m n:ByteArray):(eqGuard op t x y (.string m) (.string n)).run P w = .ok () w:=by
 cases op <;> rfl
theorem Z9n (op:BinOp) (t:TypeId) (x y:Operand) (m n:Bool):(eqGuard op t x y (.bool m) (.bool n)).run P w = .ok () w:=by
 cases op <;> rfl
theorem Y5r {op:BinOp}{t:TypeId}{k k':IntKind}{m n:Int}{v:AV}(h:binI op k k' m n v) :
  ∃ v',(binOp op t (.int k m) (.int k' n)).run P w = .ok v' w∧Rep w O ρ v v':=by
 cases op <;> simp only [binI] at h
 case shl=>obtain ⟨h0,rfl⟩:=h; exact ⟨_,by simp only [binOp,Op.shift]; rw [if_neg (by omega)]; rfl,.int _ _⟩
 case shr=>obtain ⟨h0,rfl⟩:=h; exact ⟨_,by simp only [binOp,Op.shift]; rw [if_neg (by omega)]; rfl,.int _ _⟩
 case quo=>obtain ⟨rfl,h0,rfl⟩:=h; exact ⟨_,by simp only [binOp,Op.intDiv]; rw [if_neg (by simp),if_neg h0]; rfl,.int _ _⟩
 case rem=>obtain ⟨rfl,h0,rfl⟩:=h; exact ⟨_,by simp only [binOp,Op.intDiv]; rw [if_neg (by simp),if_neg h0]; rfl,.int _ _⟩
 all_goals (obtain ⟨rfl,rfl⟩:=h; exact ⟨_,(by simp only [binOp,Op.intArith,Op.intBits,Op.intCmp]; rw [if_neg (by simp)]; rfl),(by first | exact .int _ _ | exact .bool _)⟩)
theorem Y5h {op:BinOp}{t:TypeId}{m n:ByteArray}{v:AV}(h:binS op m n v) :
  ∃ v',(binOp op t (.string m) (.string n)).run P w = .ok v' w∧Rep w O ρ v v':=by
 cases op <;> simp only [binS] at h
 case add=>obtain ⟨h0,rfl⟩:=h; exact ⟨_,by simp only [binOp,Op.stringOp]; rw [if_neg (by omega)]; rfl,.str _⟩
 all_goals first | exact h.elim | (subst h; exact ⟨_,rfl,.bool _⟩)
def Does (P:Program) (o:Oper) (c:COp):Prop :=
 ∀ {X:Nat→Prop} {B:Nat} {w0 w:World} {ρ:Pl} {H:Heap} {e:Nat→AV} {a:Act} {d:Option Dm} {v:AV} {H':Heap} {next:Act→World→Prop} {Q:Exit→Act→World→Prop},
  Ctx X B w0 w ρ H→Env w (Own X ρ H) ρ e a→R P d (Ox.ev e) H c v H' →
  (∀ v' w' ρ',Nxt X B w0 w ρ H v H' v' w' ρ'→next (a.put o.dst v') w')→o.wp P a w next Q
theorem Zag {o:Oper}{a:Act}{next:Act→World→Prop}{Q:Exit→Act→World→Prop}{v:AV}{v':Value}(hC:Ctx X B w0 w ρ H)
  (hn:∀ v' w' ρ',Nxt X B w0 w ρ H v H' v' w' ρ'→next (a.put o.dst v') w') (hH:H'=H) (hr:Rep w (Own X ρ H) ρ v v') (h:(execOp a.eval o).run P w = .ok (.value v') w):o.wp P a w next Q:=by
 subst hH
 exact Zv5 h (hn _ _ _ (Yq2 hC hr))
theorem Yl8 {o:Oper}{x:Operand}{y:Ox}(ho:o.op = .move x∨o.op = .assign x) (hx:cOx x=some y):Does P o (.mv y):=by
 intro X B w0 w ρ H e a d v H' next Q hC hE hr hn
 simp only [R] at hr
 refine Zag hC hn hr.2 (hr.1 ▸ Za4 hE hx) ?_
 rcases ho with ho | ho <;> simp [execOp,ho]
theorem Yyr {o:Oper}{c x1 x2:Operand}{yc y1 y2:Ox}(ho:o.op = .pick c x1 x2) (hc:cOx c=some yc) (h1:cOx x1=some y1) (h2:cOx x2=some y2):Does P o (.pick yc y1 y2):=by
 intro X B w0 w ρ H e a d v H' next Q hC hE hr hn
 simp only [R] at hr
 obtain ⟨hr,hH⟩:=hr
 have rc:=Za4 hE hc
 split at hr
 ·rename_i t ht
  rw [ht] at rc
  have hv:=Zqc rc
  cases t
  ·simp only [cond_false] at hr; subst hr; exact Zag hC hn hH (Za4 hE h2) (by simp [execOp,ho,hv,asBool])
  ·simp only [cond_true] at hr; subst hr; exact Zag hC hn hH (Za4 hE h1) (by simp [execOp,ho,hv,asBool])
 ·exact hr.elim
theorem Yrg {o:Oper}{op:BinOp}{t u:TypeId}{x1 x2:Operand}{y1 y2:Ox}(ho:o.op = .binOp op t x1 x2 u) (h1:cOx x1=some y1) (h2:cOx x2=some y2):Does P o (.bin op y1 y2):=by
 intro X B w0 w ρ H e a d v H' next Q hC hE hr hn
 simp only [R] at hr
 obtain ⟨hr,hH⟩:=hr
 have r1:=Za4 hE h1
 have r2:=Za4 hE h2
 split at hr
 ·rename_i k m k' n e1 e2
  rw [e1] at r1
  rw [e2] at r2
  obtain ⟨v',hv,hrep⟩:=Y5r (P:=P) (w:=w) (O:=Own X ρ H) (ρ:=ρ) (t:=t) hr
  exact Zag hC hn hH hrep (by simp [execOp,ho,Zc0 r1,Zc0 r2,Yau,hv])
 ·rename_i m n e1 e2
  rw [e1] at r1
  rw [e2] at r2
  obtain ⟨v',hv,hrep⟩:=Y5h (P:=P) (w:=w) (O:=Own X ρ H) (ρ:=ρ) (t:=t) hr
  exact Zag hC hn hH hrep (by simp [execOp,ho,Z6c r1,Z6c r2,Yb9,hv])
 ·exact hr.elim
theorem Yeg {t:TypeId}(hu:P.underlying t=some .bool) (m n:Bool):(Op.equal t (.bool m) (.bool n)).run P w = .ok (m == n) w:=by
 have key:∀ d,(Op.equalIn (d+1) t (.bool m) (.bool n)).run P w = .ok (m == n) w:=fun d=>by
  simp only [Op.equalIn,Sem.run_bind,run_underlying hu,Result.andThen_ok]
  rfl
 exact key 9999
theorem Yqg {o:Oper}{t u:TypeId}{x1 x2:Operand}{y1 y2:Ox}{b:Bool}(ho:o.op = .binOp (if b then .neq else .eql) t x1 x2 u) (hu:P.underlying t=some .bool) (h1:cOx x1=some y1) (h2:cOx x2=some y2) :
  Does P o (.beq b y1 y2):=by
 intro X B w0 w ρ H e a d v H' next Q hC hE hr hn
 simp only [R] at hr
 obtain ⟨hr,hH⟩:=hr
 have r1:=Za4 hE h1
 have r2:=Za4 hE h2
 split at hr
 ·rename_i m n e1 e2
  rw [e1] at r1
  rw [e2] at r2
  subst hr
  refine Zag (v' := .bool (bif b then !(m == n) else m == n)) hC hn hH (.bool _) ?_
  cases b <;> simp [execOp,ho,Zqc r1,Zqc r2,Z9n,binOp,Yeg hu]
 ·exact hr.elim
theorem Y9o {o:Oper}{op:UnOp}{t:TypeId}{x:Operand}{y:Ox}(ho:o.op = .unOp op t x) (hx:cOx x=some y):Does P o (.un op y):=by
 intro X B w0 w ρ H e a d v H' next Q hC hE hr hn
 simp only [R] at hr
 obtain ⟨hr,hH⟩:=hr
 have r1:=Za4 hE hx
 unfold unI at hr
 split at hr
 ·rename_i k n e1
  rw [e1] at r1; subst hr
  exact Zag hC hn hH (.int _ _) (by simp [execOp,ho,Zc0 r1,Op.unary,Op.intArith])
 ·rename_i k n e1
  rw [e1] at r1; subst hr
  exact Zag hC hn hH (.int _ _) (by simp only [execOp,ho,Zc0 r1,Op.unary,Op.intBits]; rfl)
 ·rename_i b e1
  rw [e1] at r1; subst hr
  exact Zag hC hn hH (.bool _) (by simp [execOp,ho,Zqc r1,Op.unary])
 ·exact hr.elim
theorem Y3k {o:Oper}{s t:TypeId}{x:Operand}{y:Ox}{k:IntKind}{ds:TypeDesc}(ho:o.op = .convert s t x) (hs:P.underlying s=some ds) (ht:P.underlying t=some (.int k)) (hx:cOx x=some y):Does P o (.cvi k y):=by
 intro X B w0 w ρ H e a d v H' next Q hC hE hr hn
 simp only [R] at hr
 obtain ⟨hr,hH⟩:=hr
 have r1:=Za4 hE hx
 split at hr
 ·rename_i k' n e1
  rw [e1] at r1; subst hr
  refine Zag hC hn hH (.int _ _) ?_
  simp only [execOp,ho,Zc0 r1,convert,Sem.run_bind,run_underlying hs,run_underlying ht,Result.andThen_ok,Conv.intToInt]
  cases ds <;> rfl
 ·exact hr.elim
theorem Y40 {o:Oper}{s t:TypeId}{x:Operand}{y:Ox}(ho:o.op = .convert s t x) (hs:P.underlying s=some .string) (ht:P.underlying t=some .string) (hx:cOx x=some y):Does P o (.cvs y):=by
 intro X B w0 w ρ H e a d v H' next Q hC hE hr hn
 simp only [R] at hr
 obtain ⟨hr,hH⟩:=hr
 have r1:=Za4 hE hx
 split at hr
 ·rename_i s e1
  rw [e1] at r1; subst hr
  exact Zag hC hn hH (.str _) (by simp only [execOp,ho,Z6c r1,convert,Sem.run_bind,run_underlying hs,run_underlying ht,Result.andThen_ok]; rfl)
 ·exact hr.elim
theorem Y46 {o:Oper}{x:Operand}{y:Ox}{i:Nat}(ho:o.op = .extract x i) (hx:cOx x=some y):Does P o (.ext i y):=by
 intro X B w0 w ρ H e a d v H' next Q hC hE hr hn
 simp only [R] at hr
 obtain ⟨hr,hH⟩:=hr
 have r1:=Za4 hE hx
 split at hr
 ·rename_i vs e1
  rw [e1] at r1
  obtain ⟨us,hv,hl,h⟩:=Ym8 r1
  have hlt:i<us.size:=by
   have:i<vs.length:=(List.getElem?_eq_some_iff.1 hr).1
   omega
  have hu:us[i]? = some us[i]:=Array.getElem?_eq_getElem hlt
  exact Zag hC hn hH (h i v _ hr hu) (by simp only [execOp,ho,hv,Instr.extract,hu]; rfl)
 ·exact hr.elim
theorem Yvd {o:Oper}{x:Operand}{y:Ox}(ho:o.op = .nilCheck x) (hx:cOx x=some y):Does P o (.nilck y):=by
 intro X B w0 w ρ H e a d v H' next Q hC hE hr hn
 simp only [R] at hr
 obtain ⟨hr,hH⟩:=hr
 have r1:=Za4 hE hx
 split at hr
 ·rename_i b of e1
  rw [e1] at r1; subst hr
  refine Zag hC hn hH r1 ?_
  obtain ⟨blk,o',hv,_⟩:=Ydx r1
  simp only [execOp,ho,hv]; rfl
 ·rename_i cs e1
  rw [e1] at r1; subst hr
  refine Zag hC hn hH r1 ?_
  obtain ⟨blk,o',g,hv,_⟩:=Ykr r1
  simp only [execOp,ho,hv]; rfl
 ·rename_i f p q e1
  rw [e1] at r1; subst hr
  refine Zag hC hn hH r1 ?_
  obtain ⟨p',q',hv,_⟩:=Y1h r1
  simp only [execOp,ho,hv]; rfl
 ·exact hr.elim
theorem Y43 {o:Oper}{f:FuncId}{p q:Array Operand}{yp yq:List Ox}(ho:o.op = .makeFunc (.func f) p q) (hp:cOxs p.toList=some yp) (hq:cOxs q.toList=some yq):Does P o (.mkf f yp yq):=by
 intro X B w0 w ρ H e a d v H' next Q hC hE hr hn
 simp only [R] at hr
 obtain ⟨hr,hH⟩:=hr
 obtain ⟨l1,r1⟩:=Zz9 hE hp
 obtain ⟨l2,r2⟩:=Zz9 hE hq
 subst hr
 refine Zag (v' := .func (.func f) (p.map a.eval) (q.map a.eval)) hC hn hH (.fn f _ _ _ _ (by simpa using l1.symm) (by simpa using l2.symm) (fun i x v hx hv=>r1 i x v hx ?_) (fun i x v hx hv=>r2 i x v hx ?_)) ?_
 ·rw [← Array.toList_map,Array.getElem?_toList]; exact hv
 ·rw [← Array.toList_map,Array.getElem?_toList]; exact hv
 ·simp only [execOp,ho]; rfl
theorem Xbl {o:Oper}{c:Call}{y1 y2:Ox}(ho:o.op = .call c) (hb:c.callee = .builtin .min) (hx:cOxs c.args.toList=some [y1,y2]):Does P o (.mn y1 y2):=by
 intro X B w0 w ρ H e a d v H' next Q hC hE hr hn
 simp only [R] at hr
 obtain ⟨hr,hH⟩:=hr
 obtain ⟨l1,r1⟩:=Zz9 hE hx
 have hlen:(c.args.toList.map a.eval).length=2:=by simpa using l1.symm
 obtain ⟨u1,u2,hu⟩:∃ u1 u2,c.args.toList.map a.eval = [u1,u2]:=by
  match h:c.args.toList.map a.eval,hlen with
  | [u1,u2],_=>exact ⟨u1,u2,rfl⟩
 have g1:=r1 0 (y1.ev e) u1 rfl (by rw [hu]; rfl)
 have g2:=r1 1 (y2.ev e) u2 rfl (by rw [hu]; rfl)
 have hm:c.args.map a.eval = #[u1,u2]:=by
  apply Array.ext'
  rw [Array.toList_map,hu]
 split at hr
 ·rename_i k m k' n e1 e2
  rw [e1] at g1
  rw [e2] at g2
  subst hr
  refine Zag hC hn hH (.int _ _) ?_
  simp only [execOp,ho,resolve,hb,hm,invoke,builtin,Builtin.min_,Zc0 g1,Zc0 g2,Sem.run_bind]
  rfl
 ·exact hr.elim
theorem Xaj {o:Oper}{c:Call}{y1 y2:Ox}(ho:o.op = .call c) (hb:c.callee = .builtin .max) (hx:cOxs c.args.toList=some [y1,y2]):Does P o (.mx y1 y2):=by
 intro X B w0 w ρ H e a d v H' next Q hC hE hr hn
 simp only [R] at hr
 obtain ⟨hr,hH⟩:=hr
 obtain ⟨l1,r1⟩:=Zz9 hE hx
 have hlen:(c.args.toList.map a.eval).length=2:=by simpa using l1.symm
 obtain ⟨u1,u2,hu⟩:∃ u1 u2,c.args.toList.map a.eval = [u1,u2]:=by
  match h:c.args.toList.map a.eval,hlen with
  | [u1,u2],_=>exact ⟨u1,u2,rfl⟩
 have g1:=r1 0 (y1.ev e) u1 rfl (by rw [hu]; rfl)
 have g2:=r1 1 (y2.ev e) u2 rfl (by rw [hu]; rfl)
 have hm:c.args.map a.eval = #[u1,u2]:=by
  apply Array.ext'
  rw [Array.toList_map,hu]
 split at hr
 ·rename_i k m k' n e1 e2
  rw [e1] at g1
  rw [e2] at g2
  subst hr
  refine Zag hC hn hH (.int _ _) ?_
  simp only [execOp,ho,resolve,hb,hm,invoke,builtin,Builtin.max_,Zc0 g1,Zc0 g2,Sem.run_bind]
  rfl
 ·exact hr.elim
theorem Yr5 {c:Call}{x:Operand}{a:Act}(hx:c.args.toList = [x]):c.args.map a.eval = #[a.eval x]:=by
 apply Array.ext'
 rw [Array.toList_map,hx]; rfl
theorem Y4k {o:Oper}{c:Call}{t el:TypeId}{x:Operand}{y:Ox}(ho:o.op = .call c) (hb:c.callee = .builtin .len) (ht:c.argTypes[0]? = some t) (hx:c.args.toList = [x])
  (hu:P.underlying t=some (.slice el)) (hy:cOx x=some y):Does P o (.len y):=by
 intro X B w0 w ρ H e a d v H' next Q hC hE hr hn
 simp only [R] at hr
 obtain ⟨hr,hH⟩:=hr
 have r1:=Za4 hE hy
 have run:∀ {A m cp},a.eval x = .slice A m cp→(execOp a.eval o).run P w = .ok (.value (.int .i64 m)) w:=fun {A m cp} he=>by
  simp only [execOp,ho,resolve,hb,Yr5 hx,invoke,builtin,Builtin.len_,Sem.run_bind,Sem.run_pure,Result.andThen_ok,he,ht]
  simp only [List.getElem?_toArray,List.getElem?_cons_zero,Sem.run_bind,run_underlying hu,Result.andThen_ok]
  rfl
 split at hr
 ·rename_i e1; rw [e1] at r1; subst hr
  obtain ⟨A,hv⟩:=Zhe r1
  exact Zag hC hn hH (.int _ _) (run hv)
 ·rename_i l e1; rw [e1] at r1; subst hr
  obtain ⟨A,cp,_,_,_,_,hv,_⟩:=Yff r1
  exact Zag hC hn hH (.int _ _) (run hv)
 ·rename_i ek b off n e1; rw [e1] at r1; subst hr
  rcases Zqu r1 with ⟨A,hn0,hv⟩ | ⟨cp,blk,o',hv,_⟩
  ·subst hn0
   exact Zag hC hn hH (.int _ _) (run hv)
  ·exact Zag hC hn hH (.int _ _) (run hv)
 ·exact hr.elim
theorem Yxu {o:Oper}{c:Call}{t:TypeId}{x:Operand}{y:Ox}(ho:o.op = .call c) (hb:c.callee = .builtin .len) (ht:c.argTypes[0]? = some t) (hx:c.args.toList = [x])
  (hu:P.underlying t=some .string) (hy:cOx x=some y):Does P o (.slen y):=by
 intro X B w0 w ρ H e a d v H' next Q hC hE hr hn
 simp only [R] at hr
 obtain ⟨hr,hH⟩:=hr
 have r1:=Za4 hE hy
 split at hr
 ·rename_i s e1; rw [e1] at r1; subst hr
  refine Zag hC hn hH (.int _ _) ?_
  simp only [execOp,ho,resolve,hb,Yr5 hx,invoke,builtin,Builtin.len_,Sem.run_bind,Sem.run_pure,Result.andThen_ok,Z6c r1,ht]
  simp only [List.getElem?_toArray,List.getElem?_cons_zero,Sem.run_bind,run_underlying hu,Result.andThen_ok]
  rfl
 ·exact hr.elim
theorem Yzn {o:Oper}{t:TypeId}{x i:Operand}{y j:Ox}(ho:o.op = .index t x i) (hu:P.underlying t=some .string) (hx:cOx x=some y) (hi:cOx i=some j):Does P o (.sidx y j):=by
 intro X B w0 w ρ H e a d v H' next Q hC hE hr hn
 simp only [R] at hr
 obtain ⟨hr,hH⟩:=hr
 have r1:=Za4 hE hx
 have r2:=Za4 hE hi
 split at hr
 ·rename_i s k n e1 e2
  rw [e1] at r1; rw [e2] at r2
  obtain ⟨h0,c,hc,rfl⟩:=hr
  refine Zag hC hn hH (.int _ _) ?_
  simp only [execOp,ho,Z6c r1,Zc0 r2,Instr.index,asIntOf,Sem.run_bind,Sem.run_pure,Result.andThen_ok,run_underlying hu]
  rw [if_pos h0,hc]
  rfl
 ·exact hr.elim
theorem Yr9 {P:Program}{t:TypeId}{ag:Option Nat}(h:agOf P t=some ag):∃ i,P.info? t=some i ∧
  ((ag=some i.size∧∀ w,(isAgg t).run P w = .ok true w)∨(ag=none∧i.size=1∧∀ w,(isAgg t).run P w = .ok false w)):=by
 unfold agOf at h
 split at h
 ·rename_i fs i h1 h2
  cases h
  exact ⟨i,h2,.inl ⟨rfl,fun w=>by simp only [isAgg,Sem.run_bind,run_underlying h1,Result.andThen_ok]; rfl⟩⟩
 ·rename_i n el i h1 h2
  cases h
  exact ⟨i,h2,.inl ⟨rfl,fun w=>by simp only [isAgg,Sem.run_bind,run_underlying h1,Result.andThen_ok]; rfl⟩⟩
 ·rename_i d i hs ha h1 h2
  split at h
  ·rename_i hsz
   cases h
   refine ⟨i,h2,.inr ⟨rfl,hsz,fun w=>?_⟩⟩
   simp only [isAgg,Sem.run_bind,run_underlying h1,Result.andThen_ok]
   cases d with
   | struct fs=>exact (hs fs rfl).elim
   | array n el=>exact (ha n el rfl).elim
   | _=>rfl
  ·cases h
 ·cases h
theorem Zdd {t:TypeId}{i:TypeInfo}(h:P.info? t=some i) (w:World):(Go.sizeOf t).run P w = .ok i.size w:=by
 rw [run_sizeOf w h]
 simp [Program.cellsOf,h]
theorem Y4t {o:Oper}{t:TypeId}{x:Operand}{y:Ox}{n:Nat}{fs:Array Field}{f:Field}{ag:Option Nat}(ho:o.op = .field t x n) (hu:P.underlying t=some (.struct fs)) (hf:fs[n]? = some f)
  (ha:agOf P f.type=some ag) (hx:cOx x=some y):Does P o (.fld ag f.offset y):=by
 intro X B w0 w ρ H e a d v H' next Q hC hE hr hn
 simp only [R] at hr
 obtain ⟨hr,hH⟩:=hr
 have r1:=Za4 hE hx
 obtain ⟨i,hi,hag⟩:=Yr9 ha
 split at hr
 ·rename_i cs e1
  rw [e1] at r1
  obtain ⟨us,hv,hl,h1,hrep⟩:=Ynz r1
  rcases hag with ⟨rfl,hagg⟩ | ⟨rfl,hsz,hagg⟩
  ·obtain ⟨h2,rfl⟩:=hr
   rw [List.length_drop] at h2
   refine Zag (v' := .agg (us.extract f.offset (f.offset+i.size))) hC hn hH (.agg _ _ ?_ (fun u hu=>h1 u ?_) (fun j z u hz hu'=>hrep (f.offset+j) z u ?_ ?_)) ?_
   ·simp; omega
   ·rw [Array.toList_extract] at hu
    exact List.mem_of_mem_drop (List.mem_of_mem_take hu)
   ·rw [List.getElem?_take] at hz
    split at hz
    ·rw [List.getElem?_drop] at hz; exact hz
    ·cases hz
   ·rw [Array.getElem?_extract] at hu'
    split at hu'
    ·exact hu'
    ·cases hu'
   ·simp only [execOp,ho,hv,Instr.field,Sem.run_bind,run_underlying hu,Result.andThen_ok,hf,asAgg,Sem.run_pure,part,hagg,if_true,Zdd hi]
  ·simp only [Ldv,List.getElem?_drop,Nat.add_zero] at hr
   have hlt:f.offset<us.size:=by
    have:f.offset<cs.length:=(List.getElem?_eq_some_iff.1 hr).1
    omega
   have hu':us[f.offset]? = some us[f.offset]:=Array.getElem?_eq_getElem hlt
   refine Zag (v':=us[f.offset]) hC hn hH (hrep _ _ _ hr hu') ?_
   simp only [execOp,ho,hv,Instr.field,Sem.run_bind,run_underlying hu,Result.andThen_ok,hf,asAgg,Sem.run_pure,part,hagg,Bool.false_eq_true,if_false,hu']
 ·exact hr.elim
end GoAbs
