/- Lemmas for the claim (contracts of the functions that it reaches, and what they compute), without conditions. -/
import Derived.Test.YtiapneoakbealaaGreatK13
set_option linter.unusedVariables false
set_option linter.unusedSimpArgs false
set_option maxRecDepth 10000
set_option maxHeartbeats 2000000
namespace GoAbs
open Go Go.RowKit
variable {X:Nat→Prop} {B:Nat} {w0 w w':World} {ρ ρ':Pl} {H H':Heap} {P:Program} {O:Nat→Prop}
variable {nt n0:Nat} {st st':St} {Q:Ex→St→Prop}
inductive RV where
 | tmp (t:Nat)
 | cell (a:Nat) (ag:Option Nat)
 deriving Inhabited
def cRV (P:Program):ResultVar→Option RV
 | .tmp t=>some (.tmp t)
 | .cell a t=>(agOf P t).map (.cell a)
def cRVs (P:Program):List ResultVar→Option (List RV)
 | []=>some []
 | r::l=>match cRV P r,cRVs P l with
  | some x,some xs=>some (x::xs)
  | _,_=>none
def RVal (st:St):RV→AV→Prop
 | .tmp t,v=>v=st.env t
 | .cell a ag,v=>match st.env a with
  | .ptr b off=>∃ l,st.H[b]? = some (.cells l)∧Ldv ag (l.drop off) v
  | .rp cs=>Ldv ag cs v
  | _=>False
def RVals (st:St):List RV→List AV→Prop
 | [],[]=>True
 | r::rs,v::vs=>RVal st r v∧RVals st rs vs
 | _,_=>False
def RRes (st:St) (rs:List RV) (v:AV):Prop :=
 match rs with
 | [r]=>RVal st r v
 | rs=>∃ vs,RVals st rs vs∧v = .tup vs
def fnOk (P:Program) (f:Nat):Option (Nat×CC×List RV) :=
 match P.funcs[f]? with
 | some fn=>match fn.body with
  | some c=>match cCode P fn.ntmps c,cRVs P fn.results.toList with
   | some cc, some rs => if (fn.name == "runtime.NumGoroutine") = false then some (fn.ntmps, cc, rs) else none
   | _,_=>none
  | none=>none
 | none=>none
theorem Z47 {f:Nat}{cc:CC}{rs:List RV}(h:fnOk P f=some (nt,cc,rs)) :
  ∃ fn c, P.funcs[f]? = some fn ∧ fn.body = some c ∧ cCode P nt c = some cc ∧ cRVs P fn.results.toList = some rs ∧ (fn.name == "runtime.NumGoroutine") = false ∧ fn.ntmps = nt := by
 unfold fnOk at h
 split at h
 ·rename_i fn hf
  split at h
  ·rename_i c hc
   split at h
   ·rename_i cc' rs' h1 h2
    obtain ⟨h3,h4⟩:=Ywu h
    cases h4
    exact ⟨fn,c,hf,hc,h1,h2,h3,rfl⟩
   ·cases h
  ·cases h
 ·cases h
theorem Zpu {f:Nat}{cc:CC}{rs:List RV}(h:fnOk P f=some (nt,cc,rs)):Callable P f:=by
 obtain ⟨fn,c,h1,h2,_,_,h3,_⟩:=Z47 h
 exact ⟨fn,h1,by rw [h2]; rfl,h3⟩
theorem Z1p {α:Type}{f:α→Sem Value}{w:World}:∀ (rs:List α) (vs:List Value),rs.length=vs.length→(∀ (i:Nat) (r:α) (v:Value),rs[i]? = some r→vs[i]? = some v→(f r).run P w = .ok v w)→(rs.mapM f).run P w = .ok vs w
 | [],[],_,_=>by simp [Sem.run_pure]
 | r::rs,v::vs,hl,h=>by
  have h1:=h 0 r v rfl rfl
  have h2:=Z1p rs vs (by simpa using hl) (fun i r v hr hv=>h (i+1) r v (by simpa using hr) (by simpa using hv))
  simp only [List.mapM_cons,Sem.run_bind,h1,h2,Result.andThen_ok,Sem.run_pure]
 | [],_::_,hl,_=>by simp at hl
 | _::_,[],hl,_=>by simp at hl
def rvSem (tmps:Array Value):ResultVar→Sem Value
 | .tmp t=>pure (tmps.getD t undef)
 | .cell a t=>do loadVar t (← asAddr (tmps.getD a undef))
theorem Ytd (fn:Func) (tmps:Array Value):results fn tmps=(do
  let vs ← fn.results.mapM (rvSem tmps)
  pure (if h:vs.size=1 then vs[0] else .tuple vs)):=by
 unfold results
 congr 1
theorem Y2s {b:Base}{a:Act}(hs:Sim b nt st a w ρ) {r:ResultVar}{x:RV}(hx:cRV P r=some x) {v:AV}(h:RVal st x v) :
  ∃ v',(rvSem a.tmps r).run P w = .ok v' w∧Rep w (Own b.X ρ st.H) ρ v v':=by
 cases r with
 | tmp t =>
  cases hx
  simp only [RVal] at h
  subst h
  exact ⟨_,by simp [rvSem,Sem.run_pure],hs.env t⟩
 | cell u t =>
  obtain ⟨ag,ha,rfl⟩:=Option.map_eq_some_iff.1 hx
  simp only [RVal] at h
  have r1:=hs.env u
  split at h
  ·rename_i bb off e1
   rw [e1] at r1
   obtain ⟨l,hl,hv⟩:=h
   obtain ⟨blk,o',cs,ty,hv',hp,hB,hw,hsz,hcs⟩:=Yx8 hs.ctx.heap r1 hl
   obtain ⟨v',hrun,hrep⟩:=Zqz (P:=P) (blk:=blk) (off:=o'+off) (w:=w) (O:=Own b.X ρ st.H) (ρ:=ρ) ha hv (fun j z hz=>by
    rw [List.getElem?_drop] at hz
    obtain ⟨u,g1,g2,g3⟩:=hcs _ _ hz
    exact ⟨u,by simp only [World.cell?,hw]; rw [Nat.add_assoc]; simpa using g1,g2,g3⟩)
   exact ⟨v',by simp only [rvSem,hv',asAddr,Sem.run_bind,Sem.run_pure,Result.andThen_ok,hrun],hrep⟩
  ·rename_i cs e1
   rw [e1] at r1
   obtain ⟨blk,off,g,hv',hO,hg,h1,h2⟩:=Ykr r1
   obtain ⟨v',hrun,hrep⟩:=Zqz (P:=P) (blk:=blk) (off:=off) (w:=w) (O:=Own b.X ρ st.H) (ρ:=noPl) ha h (fun j z hz=>⟨g j,hg j z hz,h1 j z hz,h2 j z hz⟩)
   exact ⟨v',by simp only [rvSem,hv',asAddr,Sem.run_bind,Sem.run_pure,Result.andThen_ok,hrun],hrep.keep (Keep.refl _ _) (fun _ _ h=>by cases h)⟩
  ·exact h.elim
theorem Yly {b:Base}{a:Act}(hs:Sim b nt st a w ρ):∀ {rs:List ResultVar}{xs:List RV}{vs:List AV},cRVs P rs=some xs→RVals st xs vs →
  ∃ us:List Value,us.length=rs.length∧us.length=vs.length∧(∀ (i:Nat) (r:ResultVar) (u:Value),rs[i]? = some r→us[i]? = some u →
   (rvSem a.tmps r).run P w = .ok u w) ∧
   ∀ (i:Nat) (v:AV) (u:Value),vs[i]? = some v→us[i]? = some u→Rep w (Own b.X ρ st.H) ρ v u
 | [],xs,vs,h,hv=>by
  cases h
  cases vs with
  | nil=>exact ⟨[],rfl,rfl,fun i r u hr=>by simp at hr,fun i v u hv=>by simp at hv⟩
  | cons v vs=>exact hv.elim
 | r::rs,xs,vs,h,hv=>by
  unfold cRVs at h
  split at h
  ·rename_i x xs' h1 h2
   cases h
   cases vs with
   | nil=>exact hv.elim
   | cons v vs =>
    obtain ⟨u,g1,g2⟩:=Y2s hs h1 hv.1
    obtain ⟨us,k1,k2,k3,k4⟩:=Yly hs h2 hv.2
    refine ⟨u::us,by simp [k1],by simp [k2],fun i r' u' hr hu=>?_,fun i v' u' hv' hu=>?_⟩
    ·cases i with
     | zero=>simp only [List.getElem?_cons_zero,Option.some.injEq] at hr hu; subst hr; subst hu; exact g1
     | succ i=>exact k3 i r' u' (by simpa using hr) (by simpa using hu)
    ·cases i with
     | zero=>simp only [List.getElem?_cons_zero,Option.some.injEq] at hv' hu; subst hv'; subst hu; exact g2
     | succ i=>exact k4 i v' u' (by simpa using hv') (by simpa using hu)
  ·cases h
theorem Ynl {b:Base}{a:Act}{fn:Func}{rs:List RV}(hs:Sim b nt st a w ρ) (hr:cRVs P fn.results.toList=some rs) {v:AV}(h:RRes st rs v) :
  ∃ v',(results fn a.tmps).run P w = .ok v' w∧Rep w (Own b.X ρ st.H) ρ v v':=by
 have many:∀ {vs:List AV},RVals st rs vs→∃ us:List Value,us.length=fn.results.size∧us.length=vs.length∧(results fn a.tmps).run P w = .ok (if h:us.toArray.size=1 then us.toArray[0] else .tuple us.toArray) w ∧
   ∀ (i:Nat) (v:AV) (u:Value),vs[i]? = some v→us[i]? = some u→Rep w (Own b.X ρ st.H) ρ v u:=fun {vs} hv=>by
  obtain ⟨us,k1,k2,k3,k4⟩:=Yly hs hr hv
  refine ⟨us,by simpa using k1,k2,?_,k4⟩
  have hm:=Z1p (P:=P) (w:=w) fn.results.toList us k1.symm k3
  obtain ⟨l,hl⟩:∃ l,fn.results=l.toArray:=⟨fn.results.toList,by simp⟩
  rw [Ytd,hl]
  rw [hl] at hm
  simp only [] at hm
  simp only [List.mapM_toArray,Sem.run_bind,map_eq_pure_bind,bind_assoc,hm,Result.andThen_ok,Sem.run_pure,pure_bind]
 unfold RRes at h
 split at h
 ·rename_i r
  obtain ⟨us,k1,k2,k3,k4⟩:=many (vs := [v]) ⟨h,trivial⟩
  match us,k2 with
  | [u],_ =>
   refine ⟨u,by rw [k3]; simp,k4 0 v u rfl rfl⟩
 ·rename_i hne
  obtain ⟨vs,hv,rfl⟩:=h
  obtain ⟨us,k1,k2,k3,k4⟩:=many hv
  have hlen:us.length≠1:=fun h1=>by
   have:rs.length=1:=by
    have:∀ {rs:List RV} {vs:List AV},RVals st rs vs→rs.length=vs.length:=by
     intro rs
     induction rs with
     | nil=>intro vs h; cases vs with | nil=>rfl | cons=>exact h.elim
     | cons r rs ih=>intro vs h; cases vs with | nil=>exact h.elim | cons v vs=>simp [ih h.2]
    rw [this hv, ← k2,h1]
   match rs,this with
   | [r],_=>exact hne r rfl
  exact ⟨.tuple us.toArray,by rw [k3,dif_neg (by simpa using hlen)],.tup vs us.toArray (by simpa using k2) (fun i x u hx hu=>k4 i x u hx (by simpa using hu))⟩
def argE (xs:List AV):Nat→AV:=fun t=>xs.getD t .any
theorem Ydy {xs:List AV}{vs:Array Value}(hr:Reps w O ρ xs vs) (k:Nat):Env w O ρ (argE xs) { tmps:=vs++Array.replicate k undef,defers := [] }:=fun t=>by
 unfold argE
 simp only
 rw [List.getD_eq_getElem?_getD]
 cases hx:xs[t]? with
 | none=>exact .any _
 | some x =>
  have hlt:t<vs.size:=by rw [hr.1]; exact (List.getElem?_eq_some_iff.1 hx).1
  have:(vs++Array.replicate k undef).getD t undef=vs[t]:=by
   rw [Array.getD_eq_getD_getElem?,Array.getElem?_append_left hlt,Array.getElem?_eq_getElem hlt]; rfl
  rw [this]
  exact hr.2 t x _ hx (Array.getElem?_eq_getElem hlt)
def allOf (H:Heap):List Nat:=List.range H.length
theorem Yqu {f:Nat}{cc:CC}{rs:List RV}{xs:List AV}{r:AV}(hf:fnOk P f=some (nt,cc,rs)) (hx:xs.length≤nt)
  (h:T P nt 0 cc ⟨argE xs,[]⟩ (fun e st=>(match e with | .exit _=>False | _=>True)∧∃ v,RRes st rs v∧BV st.H (allOf st.H) v r)):SpecV P f xs r:=by
 refine ⟨Zpu hf,fun X w vs hX hr=>?_⟩
 obtain ⟨fn,c,h1,h2,h3,h4,_,h5⟩:=Z47 hf
 have hO:∀ c,Own X noPl [] c→X c:=fun c hc=>hc.elim id (fun ⟨_,_,h,_⟩=>by cases h)
 have hO':∀ c,X c→Own X noPl [] c:=fun c hc => .inl hc
 let b:Base:=⟨X,w.heap.size,w,w,noPl,X⟩
 refine calls_of_wp h1 h2 (h c h3 b _ w noPl (fun i p hp=>by cases hp) ⟨⟨⟨(fun i p hp=>by cases hp),(fun i l hl=>by simp at hl),(fun i es hl=>by simp at hl),(fun i j p q bl cl hp=>by cases hp)⟩,hX,Below.refl _ _,Nat.le_refl _⟩,
  fun t=>(Ydy hr _ t).less hO,by simp [hr.1,h5]; omega,rfl,Zh7 hO,fun i p hp=>by cases hp⟩ _ (fun e st' a' w' ρ' hQ hs'=>?_))
 obtain ⟨he,v,hv,hb⟩:=hQ
 have fin:a'.defers = []∧∃ v,(results fn a'.tmps).run P w' = .ok v w'∧∃ u,Ending.returned v = .returned u∧Rep w' X noPl r u∧Below w.heap.size w w':=by
  obtain ⟨v',g1,g2⟩:=Ynl hs' h4 hv
  refine ⟨hs'.defers,v',g1,v',rfl,?_,hs'.ctx.below⟩
  exact (Yjs hs'.ctx hb g2).less (fun c hc => .inl hc)
 cases e with
 | exit id=>exact he.elim
 | normal=>exact fin
 | ret=>exact fin
theorem Y4a {f:Nat}{cc:CC}{rs:List RV}{xs:List AV}{r:AV}(hf:fnOk P f=some (nt,cc,rs)) (hx:xs.length≤nt)
  (h:T P nt H.length cc ⟨argE xs,H⟩ (fun e st=>(match e with | .exit _=>False | _=>True)∧RRes st rs r∧st.H=H')):SpecR P f H xs r H':=by
 refine ⟨Zpu hf,fun X B w0 w ρ vs hh hX hbel hB hr=>?_⟩
 obtain ⟨fn,c,h1,h2,h3,h4,_,h5⟩:=Z47 hf
 let b:Base:=⟨X,B,w0,w,ρ,Own X ρ H⟩
 refine calls_of_wp h1 h2 (h c h3 b _ w ρ (fun i p hp=>?_) ⟨⟨hh,hX,hbel,hB⟩,fun t=>Ydy hr _ t,by simp [hr.1,h5]; omega,rfl,Keep.refl _ _,fun i p hp=>hp⟩ _ (fun e st' a' w' ρ' hQ hs'=>?_))
 ·obtain ⟨bl,g1,_⟩:=hh.dom i p hp
  exact (List.getElem?_eq_some_iff.1 g1).1
 ·obtain ⟨he,hv,rfl⟩:=hQ
  have fin:a'.defers = []∧∃ v,(results fn a'.tmps).run P w' = .ok v w'∧∃ u ρ'',Ending.returned v = .returned u∧Nxt X B w0 w ρ H r st'.H u w' ρ'':=by
   obtain ⟨v',g1,g2⟩:=Ynl hs' h4 hv
   exact ⟨hs'.defers,v',g1,v',ρ',rfl,⟨g2,hs'.ctx.heap,hs'.keep,hs'.rho,hs'.ctx.below⟩⟩
  cases e with
  | exit id=>exact he.elim
  | normal=>exact fin
  | ret=>exact fin
theorem Xbt {f:Nat}{ids:List Nat}{xs ys:List AV}{v:AV}(h:BVs H ids xs ys) (hf:ids = []∨Flat v) (hs:SpecV P f ys v):SpecR P f H xs v H :=
 ⟨hs.1,fun X B w0 w ρ vs hh hX hbel hB hr=>(callV ⟨hh,hX,hbel,hB⟩ h hf hs hr).mono fun e w' he=>let ⟨v',g1,g2⟩:=he; ⟨v',ρ,g1,g2⟩⟩
theorem Y9u {f:Nat}{ids:List Nat}{xs ys:List AV}{v:AV}(h:BVs H ids xs ys) (hs:SpecV P f ys v):SpecR P f H xs v (kill ids H):=by
 refine ⟨hs.1,fun X B w0 w ρ vs hh hX hbel hB hr=>?_⟩
 obtain ⟨h1,hown⟩:=HSim.killed (ids:=ids) hh
 have hC:Ctx X B w0 w ρ H:=⟨hh,hX,hbel,hB⟩
 refine (hs.2 (Own X ρ (kill ids H)) w vs (fun b hb=>Own.lt h1 hX hB hb) (Z24 hC h hr)).mono fun e w' he=>?_
 obtain ⟨v',rfl,g1,g2⟩:=he
 exact ⟨v',ρ,rfl,(Ymy ⟨h1,hX,hbel,hB⟩ g2 (g1.keep (Keep.refl _ _) (fun _ _ h=>by cases h))).of_less hown⟩
end GoAbs
