/- Lemmas for the claim (contracts of the functions that it reaches, and what they compute), without conditions. -/
import Derived.Test.YtiapneoakbealaaGreatK10
set_option linter.unusedVariables false
set_option linter.unusedSimpArgs false
set_option maxRecDepth 10000
set_option maxHeartbeats 2000000
namespace GoAbs
open Go Go.RowKit
variable {X:Nat→Prop} {B:Nat} {w0 w w':World} {ρ ρ':Pl} {H H':Heap} {P:Program} {O:Nat→Prop}
theorem Z95 (o:Oper):Does P o .bad:=by
 intro X B w0 w ρ H e a d v H' next Q hC hE hr hn
 exact hr.elim
theorem Ytz {o:Oper}{c:Call}{k:COp}(ho:o.op = .call c) (h:cCall P c=some k):Does P o k:=by
 unfold cCall at h
 split at h
 ·rename_i f hc
  split at h
  ·rename_i xs hx
   split at h
   ·cases h; exact Y0r ho hc hx
   ·cases h; exact Y8j ho hc hx
  ·cases h
 ·rename_i x hne hc
  split at h
  ·rename_i y xs hy hxs
   cases h; exact Yfr ho hc hy hxs
  ·cases h
 ·rename_i x name hc
  split at h
  ·rename_i y xs hy hxs
   cases h; exact Y3o ho hc hy hxs
  ·cases h
 ·rename_i hc
  split at h
  ·rename_i t x ht hx
   split at h
   ·rename_i y hu hy; cases h; exact Yxu ho hc ht hx hu hy
   ·rename_i el y hu hy; cases h; exact Y4k ho hc ht hx hu hy
   ·cases h
  ·cases h
 ·rename_i hc
  split at h
  ·rename_i x y hx; cases h; exact Xbl ho hc hx
  ·cases h
 ·rename_i hc
  split at h
  ·rename_i x y hx; cases h; exact Xaj ho hc hx
  ·cases h
 ·rename_i hc
  split at h
  ·rename_i t u s x ht hx
   split at h
   ·rename_i el hu
    split at h
    ·rename_i ek i zs hag hi hz
     split at h
     ·rename_i hh
      obtain ⟨rfl,h1,h2,h3⟩:=hh
      cases h
      exact Y2a ho hc ht hx hu hz hi h1 h2 h3
     ·cases h
    ·cases h
   ·cases h
  ·cases h
 ·rename_i hc
  split at h
  ·rename_i t d x ht hx
   split at h
   ·rename_i el hu
    split at h
    ·rename_i n hs
     split at h
     ·rename_i h0; cases h; exact Y2x ho hc ht hx hu hs h0
     ·cases h
    ·cases h
   ·cases h
  ·cases h
 ·cases h
theorem Ya9 {o:Oper}{c:Call}{f:Nat}{xs:List Ox}(ho:o.op = .call c) (h:cCall P c=some (.call f xs)):Does P o (.callw f xs):=by
 unfold cCall at h
 split at h
 ·rename_i f' hc
  split at h
  ·rename_i xs' hx
   split at h
   ·cases h; exact Ys0 ho hc hx
   ·cases h
  ·cases h
 all_goals ((repeat' split at h) <;> cases h)
theorem Yo3 {o:Oper}{c:Call}{f:Nat}{xs:List Ox}(ho:o.op = .call c) (h:cCall P c=some (.call f xs)):Does P o (.calle f xs):=by
 have hW:Does P o (.callw f xs):=Ya9 ho h
 intro X B w0 w ρ H e a d v H' next Q hC hE hr hn
 have hr':R P d (Ox.ev e) H (.callw f xs) v H':=by
  cases d with
  | none=>exact hr
  | some D =>
   obtain ⟨H0,K,K',hl,rfl,rfl,hs⟩:=hr
   exact hs H0 (LessB.refl _)
 exact hW hC hE hr' hn
theorem Ypk {o:Oper}{c:Call}{y:Ox}{xs:List Ox}(ho:o.op = .call c) (h:cCall P c=some (.callv y xs)):Does P o (.callu y xs):=by
 unfold cCall at h
 split at h
 ·(repeat' split at h) <;> cases h
 ·rename_i x _ hc
  split at h
  ·rename_i y' xs' hx hxs
   cases h; exact Ysx ho hc hx hxs
  ·cases h
 all_goals ((repeat' split at h) <;> cases h)
theorem Yg8 {o:Oper}{c:COp}(h:cOp P o.op=some c):Does P o c:=by
 generalize hop:o.op=op at h
 unfold cOp at h
 split at h
 ·obtain ⟨y,hy,rfl⟩:=Option.map_eq_some_iff.1 h; exact Yl8 (.inl hop) hy
 ·obtain ⟨y,hy,rfl⟩:=Option.map_eq_some_iff.1 h; exact Yl8 (.inr hop) hy
 ·split at h
  ·rename_i h1 h2 h3; cases h; exact Yyr hop h1 h2 h3
  ·cases h
 ·obtain ⟨y,hy,rfl⟩:=Option.map_eq_some_iff.1 h; exact Ytf hop hy
 ·obtain ⟨y,hy,rfl⟩:=Option.map_eq_some_iff.1 h; exact Y5f hop hy
 ·split at h
  ·rename_i hu hz
   split at h
   ·rename_i places hpl
    split at h
    ·rename_i l hl; cases h; exact Ye8 hop hz (.inl ⟨_,_,hu,hpl,hl⟩)
    ·cases h
   ·cases h
  ·rename_i hu hz
   split at h
   ·rename_i ie hie
    split at h
    ·rename_i l hl; cases h; exact Ye8 hop hz (.inr ⟨_,_,_,hu,hie,hl⟩)
    ·cases h
   ·cases h
  ·cases h
 ·split at h
  ·rename_i hu
   split at h
   ·rename_i ek zs l hag hz hl
    split at h
    ·rename_i hh; cases h; exact Y6c hop hu hz hl hh.1 hh.2.1 hh.2.2
    ·cases h
   ·cases h
  ·cases h
 ·split at h
  ·rename_i h1 h2; cases h; exact Xa3 hop h1 h2
  ·cases h
 ·split at h
  ·rename_i h1 h2 h3; cases h; exact Y9p hop h1 h2 h3
  ·cases h
 ·obtain ⟨y,hy,rfl⟩:=Option.map_eq_some_iff.1 h; exact Yvd hop hy
 ·split at h
  ·rename_i h1 h2
   split at h
   ·rename_i hu; cases h; exact Yqg (b:=false) hop hu h1 h2
   ·rename_i hu; cases h; exact Yqg (b:=true) hop hu h1 h2
   ·cases h; exact Yrg hop h1 h2
   ·cases h; exact Yrg hop h1 h2
   ·cases h
  ·cases h
 ·obtain ⟨y,hy,rfl⟩:=Option.map_eq_some_iff.1 h; exact Y9o hop hy
 ·split at h
  ·rename_i h1 h2 h3; cases h; exact Y3k hop h1 h2 h3
  ·rename_i h1 h2 h3; cases h; exact Y40 hop h1 h2 h3
  ·rename_i h1 h2 h3
   split at h
   ·rename_i he; cases h; exact Y5q hop h1 he h2 h3
   ·cases h
  ·cases h
 ·split at h
  ·rename_i hu
   split at h
   ·rename_i h1 h2 h3 h4 h5
    split at h
    ·rename_i hh; cases h; exact Y3e hop hu h2 h3 h4 h5 hh.1 hh.2.1 hh.2.2
    ·cases h
   ·cases h
  ·cases h
 ·split at h
  ·rename_i h1 h2 h3 h4; cases h; exact Ywp hop h1 h2 h3 h4
  ·rename_i h1 h2 h3 h4
   obtain ⟨n,hs,rfl⟩:=Option.map_eq_some_iff.1 h
   exact Y6k hop h1 hs h2 h3 h4
  ·cases h
 ·split at h
  ·rename_i h1 h2
   split at h
   ·rename_i f hf
    split at h
    ·rename_i hs; cases h; exact Y7n hop h1 hf hs h2
    ·cases h
   ·cases h
  ·cases h
 ·split at h
  ·rename_i h1 h2
   split at h
   ·rename_i f hf
    obtain ⟨ag,ha,rfl⟩:=Option.map_eq_some_iff.1 h
    exact Y4t hop h1 hf ha h2
   ·cases h
  ·cases h
 ·split at h
  ·rename_i h1 h2 h3
   obtain ⟨n,hs,rfl⟩:=Option.map_eq_some_iff.1 h
   exact Y41 hop h1 hs h2 h3
  ·rename_i h1 h2 h3
   obtain ⟨n,hs,rfl⟩:=Option.map_eq_some_iff.1 h
   exact Y0b hop h1 hs h2 h3
  ·cases h
 ·split at h
  ·rename_i h1 h2 h3; cases h; exact Yzn hop h1 h2 h3
  ·cases h
 ·obtain ⟨y,hy,rfl⟩:=Option.map_eq_some_iff.1 h; exact Y46 hop hy
 ·exact Ytz hop h
 ·split at h
  ·cases h
  ·rename_i h1 h2 h3 h4; cases h; exact Y26 hop h3 (fun m hm=>h2 m (by first | exact hm | exact congrArg some hm)) h4
  ·cases h
 ·split at h
  ·cases h
  ·rename_i h1 h2 h3 h4 h5; cases h; exact Xac hop h3 (fun m hm=>h2 m (by first | exact hm | exact congrArg some hm)) h4 h5
  ·cases h
 ·split at h
  ·rename_i h1 h2; cases h; exact Y43 hop h1 h2
  ·cases h
 ·cases h
theorem Y2h {o:Oper}{c:COp}(h:cOp P o.op=some c):Does P o c.toW:=by
 have main:∀ f xs,c = .call f xs→Does P o (.callw f xs):=fun f xs hc=>by
  subst hc
  generalize hop:o.op=op at h
  cases op with
  | call cc=>exact Ya9 hop h
  | _ =>
   simp only [cOp] at h
   (repeat' split at h) <;> first | (cases h; done) | (obtain ⟨y,hy,he⟩:=Option.map_eq_some_iff.1 h; cases he; done) | (rename_i heq; cases heq; done)
 rcases Classical.em (∃ f xs,c = .call f xs) with hc | hc
 ·obtain ⟨f,xs,rfl⟩:=hc
  show Does P o (.callw f xs)
  exact main f xs rfl
 ·have:c.toW=c:=by
   cases c <;> first | rfl | exact (hc ⟨_,_,rfl⟩).elim
  have g:∀ c',c'=c→Does P o c':=fun c' hc'=>by rw [hc']; exact @Yg8 P o c h
  exact @g _ this
theorem Y2e {o:Oper}{c:COp}(h:cOp P o.op=some c):Does P o c.toE:=by
 have main:∀ f xs,c = .call f xs→Does P o (.calle f xs):=fun f xs hc=>by
  subst hc
  generalize hop:o.op=op at h
  cases op with
  | call cc=>exact Yo3 hop h
  | _ =>
   simp only [cOp] at h
   (repeat' split at h) <;> first | (cases h; done) | (obtain ⟨y,hy,he⟩:=Option.map_eq_some_iff.1 h; cases he; done) | (rename_i heq; cases heq; done)
 rcases Classical.em (∃ f xs,c = .call f xs) with hc | hc
 ·obtain ⟨f,xs,rfl⟩:=hc
  show Does P o (.calle f xs)
  exact main f xs rfl
 ·have:c.toE=c:=by
   cases c <;> first | rfl | exact (hc ⟨_,_,rfl⟩).elim
  have g:∀ c',c'=c→Does P o c':=fun c' hc'=>by rw [hc']; exact @Yg8 P o c h
  exact @g _ this
theorem Y2t {o:Oper}{c:COp}(h:cOp P o.op=some c):Does P o c.toU:=by
 have main:∀ y xs,c = .callv y xs→Does P o (.callu y xs):=fun y xs hc=>by
  subst hc
  generalize hop:o.op=op at h
  cases op with
  | call cc=>exact Ypk hop h
  | _ =>
   simp only [cOp] at h
   (repeat' split at h) <;> first | (cases h; done) | (obtain ⟨y,hy,he⟩:=Option.map_eq_some_iff.1 h; cases he; done) | (rename_i heq; cases heq; done)
 rcases Classical.em (∃ y xs,c = .callv y xs) with hc | hc
 ·obtain ⟨y,xs,rfl⟩:=hc
  show Does P o (.callu y xs)
  exact main y xs rfl
 ·have:c.toU=c:=by
   cases c <;> first | rfl | exact (hc ⟨_,_,rfl⟩).elim
  have g:∀ c',c'=c→Does P o c':=fun c' hc'=>by rw [hc']; exact @Yg8 P o c h
  exact @g _ this
structure Base where
 X:Nat→Prop
 B:Nat
 w0:World
 wS:World
 ρS:Pl
 OS:Nat→Prop
structure Sim (b:Base) (nt:Nat) (st:St) (a:Act) (w:World) (ρ:Pl):Prop where
 ctx:Ctx b.X b.B b.w0 w ρ st.H
 env:Env w (Own b.X ρ st.H) ρ st.env a
 size:a.tmps.size=nt
 defers:a.defers = []
 keep:Keep b.wS b.OS w (Own b.X ρ st.H)
 rho:∀ i p,b.ρS i=some p→ρ i=some p
theorem Sim.put {b:Base}{nt:Nat}{st:St}{a:Act}(h:Sim b nt st a w ρ) {dst:Option Nat}(hd:∀ d,dst=some d→d<nt) {v:AV}{v':Value}(n:Nxt b.X b.B b.w0 w ρ st.H v H' v' w' ρ') :
  Sim b nt ⟨upd st.env dst v,H'⟩ (a.put dst v') w' ρ':=by
 refine ⟨h.ctx.next n,fun t=>?_,?_,?_,h.keep.trans n.keep,fun i p hp=>n.rho i p (h.rho i p hp)⟩
 ·cases dst with
  | none=>exact (h.env t).keep n.keep n.rho
  | some d =>
   simp only [upd,Act.put]
   by_cases ht:t=d
   ·subst ht
    have hlt:t<a.tmps.size:=by rw [h.size]; exact hd t rfl
    simp only [if_true]
    simpa [Array.getD_eq_getD_getElem?,hlt] using n.rep
   ·rw [if_neg ht]
    have:=(h.env t).keep n.keep n.rho
    rw [Array.getD_eq_getD_getElem?] at this ⊢
    rw [Array.getElem?_setIfInBounds,if_neg (fun h=>ht h.symm)]
    exact this
 ·cases dst <;> simp [Act.put,h.size]
 ·cases dst <;> simp [Act.put,h.defers]
structure OpOk (P:Program) (nt:Nat) (ops:Array Oper) (o:Oper) (io:IOp):Prop where
 dst:io.dst=o.dst
 op:io.op=(cOp P o.op).getD .bad∨io.op=((cOp P o.op).getD .bad).toW∨io.op=((cOp P o.op).getD .bad).toE∨io.op=((cOp P o.op).getD .bad).toU
 gd:match o.guard with
  | none=>io.guard=none
  | some (j,w)=>∃ oj d,ops[j]? = some oj∧oj.dst=some d∧io.guard=some (d,w)
 lt:∀ d,o.dst=some d→d<nt
theorem Xbf {nt:Nat}{ops:Array Oper}{o:Oper}{io:IOp}(h:OpOk P nt ops o io):Does P o io.op:=by
 rcases h.op with h1 | h1 | h1 | h1
 ·rw [h1]
  cases hc:cOp P o.op with
  | none=>exact Z95 o
  | some c=>exact Yg8 hc
 ·rw [h1]
  cases hc:cOp P o.op with
  | none=>exact Z95 o
  | some c=>exact Y2h hc
 ·rw [h1]
  cases hc:cOp P o.op with
  | none=>exact Z95 o
  | some c=>exact Y2e hc
 ·rw [h1]
  cases hc:cOp P o.op with
  | none=>exact Z95 o
  | some c=>exact Y2t hc
theorem Yq8 {b:Base}{nt:Nat}{ops:Array Oper}{i:Nat}{o:Oper}{io:IOp}{md:Md}{K:St→Prop}{st:St}{a:Act}{next:Act→World→Prop}{Q:Exit→Act→World→Prop}
  (ho:ops[i]? = some o) (hok:OpOk P nt ops o io) (hs:Sim b nt st a w ρ) (h:istep P md io K st) (hn:∀ st' a' w' ρ',K st'→Sim b nt st' a' w' ρ'→next a' w'):wpOp P ops Q i next a w:=by
 unfold wpOp
 rw [ho]
 simp only
 unfold istep at h
 have run:(∃ v H',R P (io.dm md) (Ox.ev st.env) st.H io.op v H'∧K ⟨upd st.env io.dst v,H'⟩)→o.wp P a w next Q:=by
  rintro ⟨v,H',hr,hK⟩
  refine Xbf hok hs.ctx hs.env hr (fun v' w' ρ' n=>?_)
  rw [hok.dst] at hK
  exact hn _ _ _ _ hK (hs.put hok.lt n)
 have hgd:=hok.gd
 unfold IOp.gst at h
 cases hg:io.guard with
 | none =>
  have hog:o.guard=none:=by
   cases hgu:o.guard with
   | none=>rfl
   | some p =>
    rw [hgu] at hgd
    obtain ⟨oj,d,_,_,h3⟩:=hgd
    rw [hg] at h3; cases h3
  simp only [hg] at h
  simp only [Region.wanted,hog,if_true]
  exact .inl (run h)
 | some gw =>
  obtain ⟨g,want⟩:=gw
  simp only [hg] at h
  cases hgu:o.guard with
  | none=>rw [hgu] at hgd; simp only [hg] at hgd; cases hgd
  | some p =>
   obtain ⟨j,w1⟩:=p
   rw [hgu] at hgd
   obtain ⟨oj,d,h1,h2,h3⟩:=hgd
   rw [hg] at h3; cases h3
   have hrep:=hs.env g
   have skip:K ⟨upd st.env io.dst (.tup []),st.H⟩→next (a.put o.dst undef) w:=fun hK=>by
    rw [hok.dst] at hK
    exact hn _ _ _ ρ hK (hs.put hok.lt (Yq2 hs.ctx (.tup [] #[] rfl (fun i x v hx=>by simp at hx))))
   unfold gv at h
   split at h
   ·
    rename_i hw
    split at hw
    ·rename_i t ht
     rw [ht] at hrep
     have hv:=Zqc hrep
     have hy:yielded ops a.tmps j=some t:=by
      unfold yielded
      rw [h1]
      simp only [Option.bind_some,h2]
      rw [Array.getD_eq_getD_getElem?] at hv
      cases hx:a.tmps[g]? with
      | none=>rw [hx] at hv; simp [undef] at hv
      | some u=>rw [hx] at hv; simp only [Option.getD_some] at hv; subst hv; rfl
     simp only [Option.some.injEq,beq_iff_eq] at hw
     subst hw
     simp only [Region.wanted,hgu,hy,beq_self_eq_true,if_true]
     exact .inl (run h)
    ·cases hw
    ·cases hw
   ·rename_i hw
    have hnw:(yielded ops a.tmps j == some want)=false:=by
     split at hw
     ·rename_i t ht
      rw [ht] at hrep
      have hv:=Zqc hrep
      have hy:yielded ops a.tmps j=some t:=by
       unfold yielded
       rw [h1]
       simp only [Option.bind_some,h2]
       rw [Array.getD_eq_getD_getElem?] at hv
       cases hx:a.tmps[g]? with
       | none=>rw [hx] at hv; simp [undef] at hv
       | some u=>rw [hx] at hv; simp only [Option.getD_some] at hv; subst hv; rfl
      rw [hy]
      simpa using hw
     ·rename_i ht
      rw [ht] at hrep
      have hy:yielded ops a.tmps j=none:=by
       unfold yielded
       rw [h1]
       simp only [Option.bind_some,h2]
       rw [Array.getD_eq_getD_getElem?] at hrep
       cases hx:a.tmps[g]? with
       | none=>rfl
       | some u =>
        rw [hx] at hrep
        simp only [Option.getD_some] at hrep
        cases hrep
        rfl
      rw [hy]; rfl
     ·cases hw
    simp only [Region.wanted,hgu,hnw]
    simp only [Bool.false_eq_true,if_false]
    exact skip h
   ·exact h.elim
theorem Ywu {c:Prop} [Decidable c] {α:Type}{x y:α}(h:(if c then some x else none)=some y):c∧x=y:=by
 by_cases hc:c
 ·rw [if_pos hc] at h; cases h; exact ⟨hc,rfl⟩
 ·rw [if_neg hc] at h; cases h
theorem Ylw {nt:Nat}{ops:Array Oper}:∀ {l:List Oper}{n:Nat}{ios:List IOp},cOps P nt ops n l=some ios→ios.length=l.length∧∀ (i:Nat) (o:Oper) (io:IOp),l[i]? = some o→ios[i]? = some io→OpOk P nt ops o io
 | [],n,ios,h=>by cases h; exact ⟨rfl,fun i o io ho=>by simp at ho⟩
 | o::r,n,ios,h=>by
  unfold cOps at h
  simp only at h
  split at h
  ·rename_i g l hg hl
   obtain ⟨hlt,rfl⟩:=Ywu h
   obtain ⟨h1,h2⟩:=Ylw hl
   refine ⟨by simp [h1],fun i o' io ho hio=>?_⟩
   cases i with
   | succ i=>exact h2 i o' io (by simpa using ho) (by simpa using hio)
   | zero =>
    simp only [List.getElem?_cons_zero,Option.some.injEq] at ho hio
    subst ho; subst hio
    refine ⟨rfl,.inl rfl,?_,fun d hd=>?_⟩
    ·split at hg
     ·cases hg; rename_i hgu; rw [hgu]
     ·rename_i j w1 hgu
      rw [hgu]
      split at hg
      ·rename_i oj hoj
       obtain ⟨d,hd,rfl⟩:=Option.map_eq_some_iff.1 hg
       exact ⟨oj,d,hoj,hd,rfl⟩
      ·cases hg
    ·rw [hd] at hlt; simpa using hlt
  ·cases h
def Var (c x:COp):Prop:=x=c∨x=c.toW∨x=c.toE∨x=c.toU
theorem Var.trans {c x y:COp}(h:Var c x) (k:Var x y):Var c y:=by
 unfold Var at *
 cases c <;> rcases h with h | h | h | h <;> subst h <;> rcases k with k | k | k | k <;> subst k <;> simp [COp.toW,COp.toE,COp.toU]
theorem Ytk {l:List IOp}:(withU l).length=l.length∧∀ (i:Nat) (io:IOp),(withU l)[i]? = some io→∃ io',l[i]? = some io'∧io.dst=io'.dst∧Var io'.op io.op∧io.guard=io'.guard:=by
 unfold withU
 split
 ·refine ⟨by simp,fun i io h=>?_⟩
  rw [List.getElem?_map] at h
  obtain ⟨io',h1,rfl⟩:=Option.map_eq_some_iff.1 h
  exact ⟨io',h1,rfl,.inr (.inr (.inr rfl)),rfl⟩
 ·exact ⟨rfl,fun i io h=>⟨io,h,rfl,.inl rfl,rfl⟩⟩
theorem Yla {en:Nat→Bool}{bf:Array Nat}{l:List IOp}:(withOks en bf l).length=l.length∧∀ (i:Nat) (io:IOp),(withOks en bf l)[i]? = some io→∃ io',l[i]? = some io'∧io.dst=io'.dst∧Var io'.op io.op∧io.guard=io'.guard:=by
 unfold withOks
 obtain ⟨u1,u2⟩:=Ytk (l:=l)
 refine ⟨by simp [u1],fun i io h=>?_⟩
 dsimp only at h
 rw [List.getElem?_map,List.getElem?_zipIdx] at h
 cases hl:(withU l)[i]? with
 | none=>rw [hl] at h; cases h
 | some io1 =>
  rw [hl] at h
  simp only [Option.map_some,Option.some.injEq] at h
  subst h
  obtain ⟨io',k1,k2,k3,k4⟩:=u2 i io1 hl
  refine ⟨io',k1,k2,k3.trans ?_,k4⟩
  dsimp only
  split
  ·exact .inr (.inl rfl)
  ·split
   ·exact .inr (.inr (.inl rfl))
   ·exact .inl rfl
theorem Z6n {nt:Nat}{ops:Array Oper}{draw:Bool}{ios:List IOp}(h:cRegion P nt ops draw=some ios) :
  ios.length=ops.size∧(∀ (i:Nat) (o:Oper) (io:IOp),ops[i]? = some o→ios[i]? = some io→OpOk P nt ops o io)∧(draw=true→drawOk ops ios (Region.before ops)=true):=by
 unfold cRegion at h
 split at h
 ·cases h
 ·rename_i l hl
  obtain ⟨h1,h2⟩:=Ylw hl
  cases draw with
  | false =>
   simp only [Bool.false_eq_true,if_false] at h
   cases h
   exact ⟨by simpa using h1,fun i o io ho hio=>h2 i o io (by rw [Array.getElem?_toList]; exact ho) hio,fun h=>by cases h⟩
  | true =>
   simp only [if_true] at h
   split at h
   ·rename_i hd
    cases h
    obtain ⟨g1,g2⟩:=Yla (bf:=Region.before ops) (l:=l)
    refine ⟨by rw [g1,h1]; simp,fun i o io ho hio=>?_,fun _=>hd⟩
    obtain ⟨io',k1,k2,k3,k4⟩:=g2 i io hio
    have:=h2 i o io' (by rw [Array.getElem?_toList]; exact ho) k1
    refine ⟨k2.trans this.dst,?_,by rw [k4]; exact this.gd,this.lt⟩
    exact Var.trans this.op k3
   ·cases h
theorem Ylt {b:Base}{nt:Nat}{ops:Array Oper}{ios:List IOp}{md:Md}{K:St→Prop}{Q:Exit→Act→World→Prop}(hlen:ios.length=ops.size)
  (hok:∀ (i:Nat) (o:Oper) (io:IOp),ops[i]? = some o→ios[i]? = some io→OpOk P nt ops o io) (hQ:∀ st' a' w' ρ',K st'→Sim b nt st' a' w' ρ'→Q .normal a' w') :
  ∀ (k m:Nat) (st:St) (a:Act) (w:World) (ρ:Pl),m+k=ops.size→Sim b nt st a w ρ→iexec P md (ios.drop m) K st→wpOps P ops Q (List.range' m k) a w
 | 0,m,st,a,w,ρ,hm,hs,h=>by
  rw [List.drop_eq_nil_of_le (by omega)] at h
  exact hQ _ _ _ _ h hs
 | k+1,m,st,a,w,ρ,hm,hs,h=>by
  have h1:m<ios.length:=by omega
  have h2:m<ops.size:=by omega
  rw [List.drop_eq_getElem_cons h1] at h
  rw [List.range'_succ,wpOps_cons]
  exact Yq8 (Array.getElem?_eq_getElem h2) (hok m _ _ (Array.getElem?_eq_getElem h2) (List.getElem?_eq_getElem h1)) hs h
   (fun st' a' w' ρ' hK hs'=>Ylt hlen hok hQ k (m+1) st' a' w' ρ' (by omega) hs' hK)
theorem Ymp {b:Base}{nt:Nat}{ops:Array Oper}{ios:List IOp}{base:Nat×(Nat→Nat→Prop)}{K:St→Prop}{Q:Exit→Act→World→Prop}(hlen:ios.length=ops.size)
  (hok:∀ (i:Nat) (o:Oper) (io:IOp),ops[i]? = some o→ios[i]? = some io→OpOk P nt ops o io) (hQ:∀ st' a' w' ρ',K st'→Sim b nt st' a' w' ρ'→Q .normal a' w') :
  ∀ (fuel:Nat) (listed:Array Bool) (st:St) (a:Act) (w:World) (ρ:Pl),Sim b nt st a w ρ→iAny P base ops ios K fuel listed st→wpAny P .any ops Q fuel listed a w
 | 0,listed,st,a,w,ρ,hs,h=>⟨h.1,hQ _ _ _ _ h.2 hs⟩
 | fuel+1,listed,st,a,w,ρ,hs,h=>by
  refine ⟨fun h0=>hQ _ _ _ _ (h.1 h0) hs,fun i hi=>?_⟩
  obtain ⟨io,hio,hst⟩:=h.2 i hi
  have h2:i<ops.size:=by have:=(List.getElem?_eq_some_iff.1 hio).1; omega
  exact Yq8 (Array.getElem?_eq_getElem h2) (hok i _ _ (Array.getElem?_eq_getElem h2) hio) hs hst
   (fun st' a' w' ρ' hK hs'=>Ymp hlen hok hQ fuel _ st' a' w' ρ' hs' hK)
end GoAbs
