/- Lemmas for the claim (contracts of the functions that it reaches, and what they compute), without conditions. -/
import Derived.Test.YtiapneoakbealaaGreatK35
set_option linter.unusedVariables false
set_option linter.unusedSimpArgs false
set_option maxRecDepth 10000
set_option maxHeartbeats 2000000
namespace GoAbs
open Go Go.Proofs
theorem Xgr (s:ByteArray):∃ l,s=bs l:=⟨s.data.toList,by simp [bs]⟩
theorem Opens.mono {P:Program}{t:TypeId}{S S':List AV→Prop}(h:Opens P t S) (hs:∀ av,S av→S' av):Opens P t S':=fun enc w base spare held fuel cs x hx=>by
 obtain ⟨av,h1,h2⟩:=h enc w base spare held fuel cs x hx
 exact ⟨av,h1,hs av h2⟩
theorem Yva {P:Program}{f:Nat}{xs:List AV}{vs:Array Value}{w:World}(h:SpecV P f xs (.bool true)) (hr:Reps w noX noPl xs vs):Calls P f vs w fun e w'=>e = .returned (.bool true)∧Go.RowKit.Below w.heap.size w w' :=
 (h.2 noX w vs (fun _ hb=>hb.elim) hr).mono fun e w' he=>by
  obtain ⟨v,rfl,hv,hb⟩:=he
  cases hv
  exact ⟨rfl,hb⟩
theorem Ydf {w:World}{x:AV}{xs:List AV}{v:Value}{l:List Value}(h:Rep w noX noPl x v) (k:Reps w noX noPl xs l.toArray):Reps w noX noPl (x::xs) (v::l).toArray:=by
 refine ⟨by have:=k.1; simp at this ⊢; exact this,fun i y u hy hu=>?_⟩
 cases i with
 | zero=>simp at hy hu; subst hy hu; exact h
 | succ i=>exact k.2 i y u (by simpa using hy) (by simpa using hu)
theorem reps3 {w:World}{x y z:AV}{v u t:Value}(h:Rep w noX noPl x v) (k:Rep w noX noPl y u) (m:Rep w noX noPl z t):Reps w noX noPl [x,y,z] #[v,u,t]:=Ydf h (Ydf k (Ydf (l := []) m ⟨rfl,fun i z t hz=>by simp at hz⟩))
theorem Xah {P:Program}{W:World}{r:Reach}{base:Nat}{t:TypeId}{v:Value}{k:IntKind}(ht:P.underlying t=some (.int k)) (h:Value.okWide P W r base t v):v.cells = #[v]:=by
 obtain ⟨n,rfl⟩:=Go.WideShapes.okWide_int ht h; rfl
theorem Xac {P:Program}{W:World}{r:Reach}{base:Nat}{t:TypeId}{v:Value}{e:TypeId}(ht:P.underlying t=some (.slice e)) (h:Value.okWide P W r base t v):v.cells = #[v]:=by
 obtain ⟨a,l,c,rfl⟩:=Go.WideShapes.okWide_slice ht h; rfl
theorem Y8p {P:Program}{W:World}{r:Reach}{base:Nat}{t:TypeId}{v:Value}(ht:P.underlying t=some .string) (h:Value.okWide P W r base t v):v.cells = #[v]:=by
 obtain ⟨s,rfl⟩:=Go.WideShapes.okWide_string ht h; rfl
theorem opensNum:Opens Tryz.prog 23 (fun av=>∃ l:List UInt8,av = [.str (bs l)]):=by
 refine Opens.mono (Yxb Tryz.underlying23) ?_
 rintro av ⟨s,rfl,_⟩
 obtain ⟨l,rfl⟩:=Xgr s
 exact ⟨l,rfl⟩
theorem opensMove:Opens Tryz.prog 63 (fun av=>∃ m:Mv,av=mvC m):=by
 refine Opens.mono (Yrn (n:=2) Tryz.underlying63 (by kernel_rfl) (Zjw (off:=0) (k:=1) rfl (by kernel_rfl) (by omega) (Yd4 Tryz.underlying3) (Zjw (off:=1) (k:=1) rfl (by kernel_rfl) (by omega) opensNum Yf3))) ?_
 rintro av ⟨a,b,rfl,_,⟨n,rfl,_⟩,c,d,rfl,_,⟨l,rfl⟩,rfl⟩
 exact ⟨(n,l),rfl⟩
theorem rowsOf {α:Type}{f:α→List AV}{n:Nat}:∀ l:List (List AV),(∀ c,c∈l→c.length=n∧∃ s:α,c=f s)→∃ L:List α,l.map AV.agg=L.map fun s=>AV.agg (f s):=by
 intro l
 induction l with
 | nil=>intro _; exact ⟨[],rfl⟩
 | cons c l ih =>
  intro h
  obtain ⟨L,hL⟩:=ih (fun d hd=>h d (by simp [hd]))
  obtain ⟨_,s,hs⟩:=h c (by simp)
  exact ⟨s::L,by rw [List.map_cons,List.map_cons,hL,hs]⟩
theorem opensMoves:Opens Tryz.prog 56 (fun av=>∃ L:List Mv,av = [.sl (L.map mvAV)]):=by
 refine Opens.mono (Ylf (n:=2) Tryz.underlying56 (by kernel_rfl) (by omega) opensMove) ?_
 rintro av ⟨l,rfl,h⟩
 obtain ⟨L,hL⟩:=rowsOf l h
 exact ⟨L,by rw [hL]; rfl⟩
theorem opensNode:Opens Tryz.prog 58 (fun av=>∃ n:Nd,av=ndC n):=by
 refine Opens.mono (Yrn (n:=3) Tryz.underlying58 (by kernel_rfl) (Zjw (off:=0) (k:=1) rfl (by kernel_rfl) (by omega) (Yd4 Tryz.underlying3) (Zjw (off:=1) (k:=1) rfl (by kernel_rfl) (by omega) opensNum
  (Zjw (off:=2) (k:=1) rfl (by kernel_rfl) (by omega) opensMoves Yf3)))) ?_
 rintro av ⟨a,b,rfl,_,⟨n,rfl,_⟩,c,d,rfl,_,⟨l,rfl⟩,e,f,rfl,_,⟨M,rfl⟩,rfl⟩
 exact ⟨⟨n,l,M⟩,rfl⟩
theorem opensNodes:Opens Tryz.prog 22 (fun av=>∃ L:List Nd,av = [.sl (L.map ndAV)]):=by
 refine Opens.mono (Ylf (n:=3) Tryz.underlying22 (by kernel_rfl) (by omega) opensNode) ?_
 rintro av ⟨l,rfl,h⟩
 obtain ⟨L,hL⟩:=rowsOf l h
 exact ⟨L,by rw [hL]; rfl⟩
end GoAbs
