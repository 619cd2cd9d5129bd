/- Lemmas for the claim (contracts of the functions that it reaches, and what they compute), without conditions. -/
import Derived.Test.YtiapneoakbealaaGreatK22
import Derived.Test.YtiapneoakbealaaGreatProg
import Derived.KernelRfl
import Derived.Laws.Externs
import Derived.Lib.Bytealg
set_option linter.unusedVariables false
set_option linter.unusedSimpArgs false
set_option maxRecDepth 10000
set_option maxHeartbeats 2000000
namespace GoAbs
open Go Go.Proofs
def swp (L:List AV) (k:Nat):List AV:=(List.range L.length).map fun x=>if x<k∨L.length - k≤x then L.getD (L.length - 1 - x) .any else L.getD x .any
theorem Zle (L:List AV) (k:Nat):(swp L k).length=L.length:=by simp [swp]
theorem Z57 {L:List AV}{k x:Nat}(h:x<L.length):(swp L k)[x]? = some (if x<k∨L.length - k≤x then L.getD (L.length - 1 - x) .any else L.getD x .any):=by
 simp [swp,h]
theorem Z9y {L:List AV}{x:Nat}(h:x<L.length):L[x]? = some (L.getD x .any):=by
 rw [List.getD_eq_getElem?_getD,List.getElem?_eq_getElem h]; rfl
theorem Y6d (L:List AV):swp L 0=L:=by
 apply List.ext_getElem?
 intro x
 by_cases h:x<L.length
 ·rw [Z57 h,if_neg (by omega),Z9y h]
 ·rw [List.getElem?_eq_none (by rw [Zle]; omega),List.getElem?_eq_none (by omega)]
theorem Y8e {L:List AV}{k:Nat}(h:L.length≤2*k+1):swp L k=L.reverse:=by
 apply List.ext_getElem?
 intro x
 by_cases hx:x<L.length
 ·rw [Z57 hx,List.getElem?_reverse hx,Z9y (by omega)]
  congr 1
  by_cases h1:x<k∨L.length - k≤x
  ·rw [if_pos h1]
  ·rw [if_neg h1]
   have:L.length - 1 - x=x:=by omega
   rw [this]
 ·rw [List.getElem?_eq_none (by rw [Zle]; omega),List.getElem?_eq_none (by simp; omega)]
theorem Y5b {L:List AV}{k:Nat}(h:2*k+1<L.length):((swp L k).set k (L.getD (L.length - 1 - k) .any)).set (L.length - 1 - k) (L.getD k .any)=swp L (k+1):=by
 apply List.ext_getElem?
 intro x
 by_cases hx:x<L.length
 ·rw [Z57 hx]
  by_cases h1:x=L.length - 1 - k
  ·subst h1
   rw [List.getElem?_set_self (by rw [List.length_set,Zle]; omega),if_pos (by omega)]
   congr 2; omega
  ·rw [List.getElem?_set_ne (by omega)]
   by_cases h2:x=k
   ·subst h2
    rw [List.getElem?_set_self (by rw [Zle]; omega),if_pos (by omega)]
   ·rw [List.getElem?_set_ne (by omega),Z57 hx]
    by_cases h3:x<k∨L.length - k≤x
    ·rw [if_pos h3,if_pos (by omega)]
    ·rw [if_neg h3,if_neg (by omega)]
 ·rw [List.getElem?_eq_none (by rw [List.length_set,List.length_set,Zle]; omega),List.getElem?_eq_none (by rw [Zle]; omega)]
def Plain (L:List AV):Prop:=∀ x,x∈L→x.known∧x.cells = [x]
theorem Yku {H:Heap}{b n:Nat}{L:List AV}(hH:H[b]? = some (.cells L)) (hn:L.length=n) (hp:Plain L) (hnl:n≤1099511627776) :
  SpecR Tryz.prog Z9t H [.osl none b 0 n] (.tup []) (H.set b (.cells L.reverse)):=by
 have hb:b<H.length:=(List.getElem?_eq_some_iff.1 hH).1
 have hm:Tryz.prog.follows .mixedOrders=true:=by kernel_rfl
 have hself:H=H.set b (.cells (swp L 0)):=by
  rw [Y6d]
  apply List.ext_getElem?
  intro i
  by_cases h:b=i
  ·subst h; rw [List.getElem?_set_self hb,hH]
  ·rw [List.getElem?_set_ne h]
 refine Z05 Z52 (by simp) ?_
 unfold Ztd
 have e0:IntKind.i64.wrap ((n:Int) - 1)=(n:Int) - 1:=by rw [Zac (by omega) (by omega)]
 simp only [go_sem,Zlq,e0]
 refine Zaf (fun k:Nat=>⟨envL [(0,.osl none b 0 n),(2,.int .i64 (k:Int)),(3,.int .i64 ((n:Int) - 1 - k))],H.set b (.cells (swp L k))⟩)
  (fun k=>2*k≤n) (fun k=>n - k) 0 (by simp) (by rw [← hself]; exact Zab _ (by simp only [go_sem]; simp)) (fun k hk N hN=>?_)
 unfold Zl1
 by_cases hlt:2*k+1<n
 ·have hki:(k:Int)<(n:Int) - 1 - k:=by omega
  have ej:((n:Int) - 1 - k)=((n - 1 - k:Nat):Int):=by omega
  rw [ej]
  have hki':(k:Int)<((n - 1 - k:Nat):Int):=by omega
  have p1:(0:Int)≤(k:Int):=by omega
  have p2:(0:Int)≤((n - 1 - k:Nat):Int):=by omega
  have p3:(k:Int)<(n:Int):=by omega
  have p4:((n - 1 - k:Nat):Int)<(n:Int):=by omega
  have e1:IntKind.i64.wrap ((k:Int)+1)=((k+1:Nat):Int):=by rw [Zac (by omega) (by omega)]; omega
  have e2:IntKind.i64.wrap (((n - 1 - k:Nat):Int) - 1)=(n:Int) - 1 - ((k+1:Nat):Int):=by rw [Zac (by omega) (by omega)]; omega
  have g1:(swp L k)[k]? = some (L.getD k .any):=by rw [Z57 (by omega),if_neg (by omega)]
  have g2:(swp L k)[n - 1 - k]? = some (L.getD (n - 1 - k) .any):=by rw [Z57 (by omega),if_neg (by omega)]
  have hx:=hp _ (List.mem_of_getElem? (Z9y (L:=L) (x:=k) (by omega)))
  have hy:=hp _ (List.mem_of_getElem? (Z9y (L:=L) (x:=n - 1 - k) (by omega)))
  have hs:=Y5b (L:=L) (k:=k) (by omega)
  rw [hn] at hs
  generalize L.getD k .any=x at *
  generalize L.getD (n - 1 - k) .any=y at *
  have hbs:∀ bl:Blk,(H.set b bl)[b]? = some bl:=fun bl=>List.getElem?_set_self hb
  have kx:∀ {C:Prop},knownC x C=C:=fun {C}=>by simp [knownC,hx.1]
  have ky:∀ {C:Prop},knownC y C=C:=fun {C}=>by simp [knownC,hy.1]
  have hl1:∀ z w:AV,k+1≤(swp L k).length:=fun _ _=>by rw [Zle]; omega
  simp only [go_sem,Zf4,Zfp,Zf3,hki',hm,p1,p2,p3,p4,hbs,List.getElem?_drop,g1,g2,List.length_set,hb,kx,ky,hx.2,hy.2]
  refine ⟨by rw [Zle]; omega,?_⟩
  rw [Za6 (by rw [Zle]; omega),List.set_set]
  simp only [go_sem,hbs,Zf3,e1,e2,hx.2]
  refine ⟨by rw [List.length_set,Zle]; omega,?_⟩
  rw [Za6 (by rw [List.length_set,Zle]; omega),List.set_set,hs]
  exact hN (k+1) _ (by omega) (by omega) (Zab _ (by simp only [go_sem]))
 ·have hki:¬ (k:Int)<(n:Int) - 1 - k:=by omega
  simp only [go_sem,Zf4,hki]
  rw [Y8e (by omega)]
end GoAbs
namespace GoAbs
open Go Go.Proofs
def digs (n:Nat):List UInt8:=if h:n=0 then [] else UInt8.ofNat (48+n % 10)::digs (n / 10)
 termination_by n
 decreasing_by omega
theorem Zf6:digs 0 = []:=by unfold digs; simp
theorem Zfu {n:Nat}(h:n≠0):digs n=UInt8.ofNat (48+n % 10)::digs (n / 10):=by rw [digs]; simp [h]
theorem Yi9:∀ {k n:Nat},n<10 ^ k→(digs n).length≤k
 | 0,n,h=>by
  have:n=0:=by simpa using h
  subst this; simp [Zf6]
 | k+1,n,h=>by
  by_cases h0:n=0
  ·subst h0; simp [Zf6]
  ·rw [Zfu h0,List.length_cons]
   have:(digs (n / 10)).length≤k:=Yi9 (by rw [Nat.div_lt_iff_lt_mul (by omega), ← Nat.pow_succ]; exact h)
   omega
def decL (n:Nat):List UInt8:=if n=0 then [48] else (digs n).reverse
def decB (n:Nat):ByteArray:=⟨(decL n).toArray⟩
def byc (l:List UInt8):List AV:=l.map fun b=>AV.int .u8 (b.toNat:Int)
theorem Z6h (l:List UInt8):(byc l).length=l.length:=by simp [byc]
theorem Ysy {l r:List UInt8}:byc (l++r)=byc l++byc r:=by simp [byc]
theorem Yw6 (l:List UInt8):Plain (byc l):=fun x hx=>by
 obtain ⟨b,_,rfl⟩:=List.mem_map.1 hx
 exact ⟨trivial,rfl⟩
theorem Ypp (l:List UInt8):(byc l).reverse=byc l.reverse:=by simp [byc]
def Tx (n:Nat):Prop:=lenN n≤10000000000
theorem Yur {n k:Nat}(h:n<4294967296 ^ k):(digs n).length≤10*k:=by
 refine Yi9 (Nat.lt_of_lt_of_le h ?_)
 rw [Nat.pow_mul]
 exact Nat.pow_le_pow_left (by decide) _
theorem Tx.len {n:Nat}(h:Tx n):(digs n).length≤100000000000:=by
 have:=Yur (Z0c n)
 unfold Tx at h
 omega
theorem Tx.mono {m n:Nat}(h:Tx n) (hm:m≤n):Tx m:=Nat.le_trans (Znq hm) h
theorem Ys9 (r:Nat):∃ d:UInt8,d=UInt8.ofNat (48+r % 10)∧(d.toNat:Int)=48+(r % 10:Nat):=by
 refine ⟨_,rfl,?_⟩
 have:r % 10<10:=Nat.mod_lt _ (by omega)
 rw [UInt8.toNat_ofNat']
 have:(48+r % 10) % 2 ^ 8=48+r % 10:=Nat.mod_eq_of_lt (by omega)
 omega
theorem Y6i {x:Int}(h1:0≤x) (h2:x≤255):IntKind.u8.wrap x=x:=by
 rw [IntKind.wrap_u8]; omega
theorem Yvq {n q r:Nat}{l:List UInt8}(hn:(digs n).length≤100000000000) (hr:r<1000000000) (hl:l++digs (q*10 ^ 9+r)=digs n) {X:AV}(hX:X.gc (pos [2])=X) {K:Ex→St→Prop}
  (hK:∀ l' e,l'++digs q=digs n→e 0=X→e 3 = .osl none 0 0 l'.length→e 4 = .sl (u32c (limbs q))→K (.exit 2) ⟨e,[.cells (byc l')]⟩) :
  T Tryz.prog 45 0 (.loop Zu5) ⟨envL [(0,X),(3,.osl none 0 0 l.length),(4,.sl (u32c (limbs q))),(5,.int .u32 (r:Int)),(6,.int .i64 0)],[.cells (byc l)]⟩ K:=by
 refine Zaf (fun z:Nat×Nat×List UInt8=>⟨envL [(0,X),(3,.osl none 0 0 z.2.2.length),(4,.sl (u32c (limbs q))),(5,.int .u32 (z.2.1:Int)),(6,.int .i64 (z.1:Int))],[.cells (byc z.2.2)]⟩)
  (fun z=>z.1≤9∧z.2.1<10 ^ (9 - z.1)∧z.2.2++digs (q*10 ^ (9 - z.1)+z.2.1)=digs n) (fun z=>9 - z.1) (0,r,l) ⟨by simp,hr,hl⟩ (Zab _ (by simp only [go_sem]; simp)) (fun z hI N hN=>?_)
 obtain ⟨i,r1,l1⟩:=z
 obtain ⟨h1,h2,h3⟩:=hI
 simp only at h1 h2 h3 ⊢
 unfold Zu5
 by_cases hi:i<9
 ·have pi:(i:Int)<9:=by omega
  have hpow:(10:Nat) ^ (9 - i)=10 ^ (9 - (i+1))*10:=by rw [← Nat.pow_succ]; congr 1; omega
  have hple:(10:Nat) ^ (9 - i)≤10 ^ 9:=Nat.pow_le_pow_right (by omega) (by omega)
  by_cases hz:q=0∧r1=0
  ·obtain ⟨rfl,rfl⟩:=hz
   have p1:¬ (0:Int)<((0:Nat):Int):=by omega
   simp only [go_sem,Zl4,pi,Zap,Zhn,p1]
   rw [Nat.zero_mul] at h3
   exact hK l1 _ h3 (by simp only [go_sem]) (by simp only [go_sem]) (by simp only [go_sem,Zap,Zhn])
  ·have hpos:q*10 ^ (9 - i)+r1≠0:=by
    intro h
    apply hz
    have h4:q*10 ^ (9 - i)=0:=by omega
    rcases Nat.mul_eq_zero.1 h4 with h5 | h5
    ·exact ⟨h5,by omega⟩
    ·have:=Nat.pow_pos (n:=9 - i) (show 0<10 by omega); omega
   have hmod:(q*10 ^ (9 - i)+r1) % 10=r1 % 10:=by rw [hpow, ← Nat.mul_assoc,Nat.add_comm,Nat.add_mul_mod_self_right]
   have hdiv:(q*10 ^ (9 - i)+r1) / 10=q*10 ^ (9 - (i+1))+r1 / 10:=by rw [hpow, ← Nat.mul_assoc,Nat.add_comm,Nat.add_mul_div_right _ _ (by omega)]; omega
   rw [Zfu hpos,hmod,hdiv] at h3
   obtain ⟨d,hd,hdn⟩:=Ys9 r1
   rw [← hd] at h3
   have hlen:l1.length+1≤100000000000:=by
    have:=congrArg List.length h3
    simp at this; omega
   have e1:((r1:Nat):Int).tmod 10=((r1 % 10:Nat):Int):=Zww (b:=10)
   have e2:IntKind.u32.wrap (48+((r1 % 10:Nat):Int))=(d.toNat:Int):=by rw [Zf9 (by omega) (by omega)]; omega
   have e3:IntKind.u8.wrap (d.toNat:Int)=(d.toNat:Int):=Y6i (by omega) (by have:=d.toNat_lt; omega)
   have e4:IntKind.u32.wrap (((r1:Nat):Int).tdiv 10)=((r1 / 10:Nat):Int):=by
    have:((r1:Nat):Int).tdiv 10=((r1 / 10:Nat):Int):=(Int.ofNat_tdiv r1 10).symm
    rw [this,Zf9 (by omega) (by omega)]
   have e5:IntKind.i64.wrap ((i:Int)+1)=((i+1:Nat):Int):=by rw [Zac (by omega) (by omega)]; omega
   have p10:¬ (10:Int)=0:=by omega
   have hsz:(l1.length+1)*1≤1099511627776:=by omega
   have hfit:0+l1.length*1≤(byc l1).length:=by rw [Z6h]; omega
   have done:∀ e:Nat→AV,e 0=X→e 3 = .osl none 2 0 (l1.length+1)→e 4 = .sl (u32c (limbs q))→e 5 = .int .u32 ((r1 / 10:Nat):Int)→e 6 = .int .i64 ((i+1:Nat):Int) →
     N ⟨e,[.dead,.cells [.int .u8 (d.toNat:Int)],.cells (byc l1 ++ [.int .u8 (d.toNat:Int)])]⟩:=fun e q0 q3 q4 q5 q6=>by
    refine hN (i+1,r1 / 10,l1 ++ [d]) _ ⟨hi,?_,by simpa using h3⟩ (by show 9 - (i+1)<9 - i; omega) ?_
    ·simp only
     rw [Nat.div_lt_iff_lt_mul (by omega), ← hpow]; exact h2
    ·refine Zbz (Zgb [2] (by simp) (fun i hi=>by omega) [(0,X),(3,.osl none 2 0 (l1.length+1)),(4,.sl (u32c (limbs q))),(5,.int .u32 ((r1 / 10:Nat):Int)),(6,.int .i64 ((i+1:Nat):Int))] ⟨q0,q3,q4,q5,q6,trivial⟩) ?_
     have hg:gcL (pos [2]) (byc l1 ++ [.int .u8 (d.toNat:Int)])=byc (l1 ++ [d]):=by
      rw [Zax,Ysy,List.map_append]
      congr 1
      unfold byc
      rw [List.map_map]
      rfl
     have hp2:pos [2] 2=some 0:=rfl
     simp only [List.map_cons,List.map_nil,List.getD_cons_succ,List.getD_cons_zero,Blk.gc,hg,AV.gc,hp2,List.length_append,List.length_singleton,hX]
   simp only [go_sem,Zl4,Z74,Z23,Z4o,pi,p10,e1,e2,e3,e4,e5,hsz,hfit]
   have hl1:l1.length≤(byc l1).length:=by rw [Z6h]; omega
   have htake:(byc l1).take l1.length=byc l1:=List.take_of_length_le (by rw [Z6h]; omega)
   rw [htake]
   refine ⟨fun h=>⟨by omega,hl1,done _ (by simp only [go_sem]) (by simp only [go_sem]) (by simp only [go_sem]) (by simp only [go_sem]) (by simp only [go_sem])⟩,fun h=>⟨fun h2=>⟨by omega,hl1,done _ (by simp only [go_sem]) (by simp only [go_sem]) (by simp only [go_sem]) (by simp only [go_sem]) (by simp only [go_sem])⟩,fun h2=>?_⟩⟩
   exfalso
   apply hz
   rw [Zae,Zdc] at h
   exact ⟨Classical.byContradiction h,by omega⟩
 ·have hi9:i=9:=by omega
  subst hi9
  have pi:¬ ((9:Nat):Int)<9:=by omega
  simp only [go_sem,Zl4,pi]
  have hr0:r1=0:=by simpa using h2
  subst hr0
  simp only [Nat.sub_self,Nat.pow_zero,Nat.mul_one,Nat.add_zero] at h3
  exact hK l1 _ h3 (by simp only [go_sem]) (by simp only [go_sem]) (by simp only [go_sem])
theorem Ywv {n:Nat}(hn:Tx n) {K:Ex→St→Prop}
  (hK:∀ l e,l=digs n→e 3 = .osl none 0 0 l.length→K (.exit 0) ⟨e,[.cells (byc l)]⟩) :
  T Tryz.prog 45 0 (.loop Zup) ⟨envL [(3,.osl none 0 0 0),(0,.sl (u32c (limbs n)))],[.cells []]⟩ K:=by
 refine Zaf (fun z:Nat×List UInt8=>⟨envL [(3,.osl none 0 0 z.2.length),(0,.sl (u32c (limbs z.1)))],[.cells (byc z.2)]⟩)
  (fun z=>Tx z.1∧z.2++digs z.1=digs n) (fun z=>z.1) (n,[]) ⟨hn,rfl⟩ (Zab _ (by simp only [go_sem])) (fun z hI N hN=>?_)
 obtain ⟨m,l⟩:=z
 obtain ⟨h1,h2⟩:=hI
 simp only at h1 h2 ⊢
 unfold Zup
 by_cases hm:m=0
 ·subst hm
  have p1:¬ (0:Int)<((0:Nat):Int):=by omega
  simp only [go_sem,Ztw,Zap,Zhn,p1]
  rw [Zf6,List.append_nil] at h2
  exact hK l _ h2 (by simp only [go_sem])
 ·have p1:=(Zdc (n:=m)).2 hm
  simp only [go_sem,Ztw,Z9e,Z79,Zae,p1]
  refine Zaa (Ycs (w:=1000000000) (Zbt m) (Nat.le_trans h1 (by omega)) (by omega) (by omega)) (by simp only [go_sem]) ?_
  rw [Zay]
  simp only [go_sem]
  have hdm:m / 1000000000*10 ^ 9+m % 1000000000=m:=by rw [show (10:Nat) ^ 9=1000000000 from rfl,Nat.mul_comm]; exact Nat.div_add_mod _ _
  refine Zar [(0,.sl (u32c (limbs m))),(3,.osl none 0 0 l.length),(4,.sl (u32c (limbs (m / 1000000000)))),(5,.int .u32 ((m % 1000000000:Nat):Int)),(6,.int .i64 0)] (by simp only [go_sem])
   (Yvq (n:=n) hn.len (Nat.mod_lt _ (by omega)) (by rw [hdm]; exact h2) rfl (fun l' e k1 k2 k3 k4=>?_))
  simp only [go_sem,Z4z,k4]
  exact hN (m / 1000000000,l') _ ⟨h1.mono (Nat.div_le_self _ _),k1⟩ (Nat.div_lt_self (by omega) (by omega)) (Zab _ (by simp only [go_sem,k3]))
theorem Z3w {n:Nat}(hn:Tx n):SpecV Tryz.prog Yu5 [.sl (u32c (limbs n))] (.str (decB n)):=by
 refine Zba Ym5 (by simp) (Zbg 2 rfl ?_)
 unfold Ykg
 by_cases h0:n=0
 ·subst h0
  have p1:((0:Nat):Int)=0:=rfl
  simp only [go_sem,Zt4,Zux,Z9b,Zap,Zhn,p1]
  rfl
 ·have p1:¬ ((limbs n).length:Int)=0:=by have:=(Zdc (n:=n)).2 h0; omega
  simp only [go_sem,Zt4,Zux,Z69,Zae,p1]
  refine T_le (Zkb 3 none (by simp only [go_sem]) [(0,.sl (u32c (limbs n)))] (by simp only [go_sem])) (T_W ?_)
  simp only [go_sem]
  refine Ywv hn (fun l e k1 k2=>?_)
  have hlen:l.length≤100000000000:=by rw [k1]; exact hn.len
  simp only [go_sem,Z2w,k2]
  refine Zd4 (Yku (H := [.cells (byc l)]) rfl (Z6h l) (Yw6 l) (by omega)) ?_
  simp only [go_sem,Z3n,k2]
  have hl0:l.length≠0:=by
   rw [k1,Zfu h0]; simp
  refine ⟨fun h=>absurd h hl0,fun _=>⟨by rw [List.length_reverse,Z6h]; omega,l.reverse,?_,?_⟩⟩
  ·rw [List.take_of_length_le (by rw [List.length_reverse,Z6h]; omega),Ypp]; rfl
  ·show _=_
   rw [decB,decL,if_neg h0,k1]
end GoAbs
namespace GoAbs
open Go Go.Proofs
def bs (l:List UInt8):ByteArray:=⟨l.toArray⟩
theorem Zam (l:List UInt8):(bs l).size=l.length:=by simp [bs,ByteArray.size]
theorem Zfo (l:List UInt8) (i:Nat):(bs l)[i]? = l[i]?:=by
 by_cases h:i<l.length
 ·rw [getElem?_pos (bs l) i (by rw [Zam]; exact h),List.getElem?_eq_getElem h]
  rfl
 ·rw [getElem?_neg (bs l) i (by rw [Zam]; exact h),List.getElem?_eq_none (by omega)]
theorem bs_inj {l r:List UInt8}:bs l=bs r↔l=r:=by
 constructor
 ·intro h
  have:=congrArg (fun b=>b.data.toList) h
  simpa [bs] using this
 ·intro h; rw [h]
theorem Zfl (l:List UInt8) (a b:Nat):(bs l).extract a b=bs ((l.take b).drop a):=by
 apply ByteArray.ext
 simp only [ByteArray.data_extract,bs]
 apply Array.ext'
 simp [List.drop_take]
theorem Zkl (l r:List UInt8):bs l++bs r=bs (l++r):=by
 apply ByteArray.ext
 simp [bs]
theorem Yhw (n:Nat):decB n=bs (decL n):=rfl
def isDig (c:UInt8):Prop:=48≤c.toNat∧c.toNat≤57
instance (c:UInt8):Decidable (isDig c):=by unfold isDig; infer_instance
def numL (l:List UInt8):Nat:=l.foldl (fun a c=>10*a+(c.toNat - 48)) 0
theorem Yv5 (l:List UInt8):∀ a:Nat,l.foldl (fun a c=>10*a+(c.toNat - 48)) a=a*10 ^ l.length+numL l:=by
 unfold numL
 induction l with
 | nil=>intro a; simp
 | cons c l ih =>
  intro a
  simp only [List.foldl_cons,List.length_cons]
  rw [ih (10*a+(c.toNat - 48)),ih (10*0+(c.toNat - 48)),Nat.pow_succ]
  generalize (10:Nat) ^ l.length=p
  generalize c.toNat - 48=d
  grind
theorem Zg5 (l r:List UInt8):numL (l++r)=numL l*10 ^ r.length+numL r:=by
 have:numL (l++r)=r.foldl (fun a c=>10*a+(c.toNat - 48)) (numL l):=by simp [numL,List.foldl_append]
 rw [this,Yv5]
theorem Zuv (l:List UInt8) (c:UInt8):numL (l ++ [c])=10*numL l+(c.toNat - 48):=by
 rw [Zg5]; simp [numL]; omega
theorem Zv3 {l:List UInt8}(h:∀ c,c∈l→isDig c):numL l<10 ^ l.length:=by
 have main:∀ l:List UInt8,(∀ c,c∈l.reverse→isDig c)→numL l.reverse<10 ^ l.length:=by
  intro l
  induction l with
  | nil=>intro _; simp [numL]
  | cons c l ih =>
   intro h
   rw [List.reverse_cons] at h ⊢
   have h1:=ih (fun d hd=>h d (by simp at hd ⊢; exact .inl hd))
   have h2:=h c (by simp)
   rw [Zuv,List.length_cons,Nat.pow_succ]
   unfold isDig at h2
   omega
 have:=main l.reverse (by simpa using h)
 simpa using this
def digOk (l:List UInt8):Prop:=(∀ c,c∈l→isDig c)∧l ≠ []∧¬ (l.head? = some 48∧1<l.length)∧l.length≤4000
instance (l:List UInt8):Decidable (digOk l):=by unfold digOk; infer_instance
theorem Yhx {n k:Nat}(h:n<10 ^ k):lenN n≤k:=Z5i (Nat.lt_of_lt_of_le h (Nat.pow_le_pow_left (by decide) _))
theorem Yt3 {l:List UInt8}{k:Nat}(hd:∀ c,c∈l→isDig c) (hk:k≤9) (hkl:k≤l.length) {X:AV}{K:Ex→St→Prop}
  (hK:∀ e,e 0 = .str (bs l)→e 5=X→e 6 = .int .i64 (k:Int)→e 7 = .int .u32 ((numL (l.take k):Nat):Int)→e 8 = .int .u32 ((10 ^ k:Nat):Int)→K (.exit 4) ⟨e,[]⟩) :
  T Tryz.prog 77 0 (.loop Zto) ⟨envL [(0,.str (bs l)),(5,X),(6,.int .i64 (k:Int)),(7,.int .u32 0),(8,.int .u32 1),(50,.int .i64 (k:Int)),(51,.int .i64 0)],[]⟩ K:=by
 refine Zaf (fun i:Nat=>⟨envL [(0,.str (bs l)),(5,X),(6,.int .i64 (k:Int)),(7,.int .u32 ((numL (l.take i):Nat):Int)),(8,.int .u32 ((10 ^ i:Nat):Int)),(50,.int .i64 (k:Int)),(51,.int .i64 (i:Int))],[]⟩)
  (fun i=>i≤k) (fun i=>k - i) 0 (by simp) (Zab _ (by simp only [go_sem]; simp [numL])) (fun i hi N hN=>?_)
 unfold Zto
 by_cases hik:i<k
 ·have gi:=List.getElem?_eq_getElem (show i<l.length by omega)
  generalize l[i]'(by omega)=c at gi
  have hc:=hd c (List.mem_of_getElem? gi)
  obtain ⟨hc1,hc2⟩:=hc
  have hlt:numL (l.take i)<10 ^ i:=by
   have:=Zv3 (l:=l.take i) (fun c hc=>hd c (List.mem_of_mem_take hc))
   rwa [List.length_take,Nat.min_eq_left (by omega)] at this
  have hpow:(10:Nat) ^ i≤10 ^ 8:=Nat.pow_le_pow_right (by omega) (by omega)
  have htake:l.take (i+1)=l.take i ++ [c]:=by rw [List.take_add_one,gi]; rfl
  have p1:(i:Int)<(k:Int):=by omega
  have p2:(0:Int)≤(i:Int):=by omega
  have e1:IntKind.u8.wrap ((c.toNat:Int) - 48)=((c.toNat - 48:Nat):Int):=by rw [Y6i (by omega) (by omega)]; omega
  have e2:IntKind.u32.wrap ((c.toNat - 48:Nat):Int)=((c.toNat - 48:Nat):Int):=Zf9 (by omega) (by omega)
  have e3:IntKind.u32.wrap (10*((numL (l.take i):Nat):Int))=((10*numL (l.take i):Nat):Int):=by rw [Zf9 (by omega) (by omega)]; omega
  have e4:IntKind.u32.wrap (((10*numL (l.take i):Nat):Int)+((c.toNat - 48:Nat):Int))=((numL (l.take (i+1)):Nat):Int):=by
   rw [htake,Zuv,Zf9 (by omega) (by omega)]; omega
  have e5:IntKind.u32.wrap (10*((10 ^ i:Nat):Int))=((10 ^ (i+1):Nat):Int):=by
   rw [Nat.pow_succ,Zf9 (by omega) (by omega)]; omega
  have e6:IntKind.i64.wrap ((i:Int)+1)=((i+1:Nat):Int):=by rw [Zac (by omega) (by omega)]; omega
  simp only [go_sem,Zoz,Z4u,Z40,Z3y,p1,p2,Zfo,gi,e1,e2,e3,e4,e5,e6]
  exact hN (i+1) _ (by omega) (by omega) (Zab _ (by simp only [go_sem]))
 ·have hi':i=k:=by omega
  subst hi'
  have p1:¬ (i:Int)<(i:Int):=by omega
  simp only [go_sem,Zoz,p1]
  exact hK _ (by simp only [go_sem]) (by simp only [go_sem]) (by simp only [go_sem]) (by simp only [go_sem]) (by simp only [go_sem])
theorem Y04 {l:List UInt8}(hd:∀ c,c∈l→isDig c) (hl:l.length≤4000) {K:Ex→St→Prop}
  (hK:∀ e,e 5 = .sl (u32c (limbs (numL l)))→K (.exit 2) ⟨e,[]⟩) :
  T Tryz.prog 77 0 (.loop Zlr) ⟨envL [(0,.str (bs l)),(5,.sl [])],[]⟩ K:=by
 refine Zaf (fun z:Nat×List UInt8=>⟨envL [(0,.str (bs z.2)),(5,.sl (u32c (limbs z.1)))],[]⟩)
  (fun z=>(∀ c,c∈z.2→isDig c)∧z.2.length≤4000∧z.1*10 ^ z.2.length+numL z.2=numL l) (fun z=>z.2.length) (0,l) ⟨hd,hl,by simp⟩ (Zab _ (by simp only [go_sem,Zap,Zhn])) (fun z hI N hN=>?_)
 obtain ⟨X,r⟩:=z
 obtain ⟨h1,h2,h3⟩:=hI
 simp only at h1 h2 h3 ⊢
 unfold Zlr
 by_cases hr:r = []
 ·subst hr
  have p1:¬ (bs []≠(⟨#[]⟩:ByteArray)):=fun h=>h rfl
  simp only [go_sem,Zpr,p1]
  simp only [List.length_nil,Nat.pow_zero,Nat.mul_one] at h3
  have:X=numL l:=by simpa [numL] using h3
  refine hK _ ?_
  rw [← this]; simp only [go_sem]
 ·have p1:bs r≠(⟨#[]⟩:ByteArray):=fun h=>hr (bs_inj.1 h)
  have hlen:0<r.length:=List.length_pos_iff.2 hr
  obtain ⟨k,hk⟩:∃ k,k=(r.length - 1) % 9+1:=⟨_,rfl⟩
  have hk9:k≤9:=by omega
  have hkl:k≤r.length:=by omega
  have e1:IntKind.i64.wrap ((r.length:Int) - 1)=((r.length - 1:Nat):Int):=by rw [Zac (by omega) (by omega)]; omega
  have e2:((r.length - 1:Nat):Int).tmod 9=(((r.length - 1) % 9:Nat):Int):=Zww (b:=9)
  have e3:IntKind.i64.wrap ((((r.length - 1) % 9:Nat):Int)+1)=(k:Int):=by rw [Zac (by omega) (by omega)]; omega
  have p9:¬ (9:Int)=0:=by omega
  simp only [go_sem,Zpr,Z31,Z46,Z1t,p1,p9,Zam,e1,e2,e3]
  refine Zar [(0,.str (bs r)),(5,.sl (u32c (limbs X))),(6,.int .i64 (k:Int)),(7,.int .u32 0),(8,.int .u32 1),(50,.int .i64 (k:Int)),(51,.int .i64 0)] (by simp only [go_sem])
   (Yt3 h1 hk9 hkl (fun e k0 k5 k6 k7 k8=>?_))
  have hXk:X*10 ^ k+numL (r.take k)≤numL l:=by
   have h4:numL r=numL (r.take k)*10 ^ (r.drop k).length+numL (r.drop k):=by rw [← Zg5,List.take_append_drop]
   have h5:r.length=k+(r.drop k).length:=by rw [List.length_drop]; omega
   rw [h4,h5,Nat.pow_add, ← Nat.mul_assoc] at h3
   have h6:1≤10 ^ (r.drop k).length:=Nat.pow_pos (by omega)
   have h7:(X*10 ^ k+numL (r.take k))*1≤(X*10 ^ k+numL (r.take k))*10 ^ (r.drop k).length:=Nat.mul_le_mul_left _ h6
   rw [Nat.add_mul _ _ (10 ^ (r.drop k).length)] at h7
   omega
  have hlim:numL l<10 ^ l.length:=Zv3 hd
  have hsz:∀ m,m≤numL l→lenN m≤4000:=fun m hm=>Nat.le_trans (Yhx (Nat.lt_of_le_of_lt hm hlim)) hl
  have hX:lenN X≤4000:=by
   refine hsz X (Nat.le_trans ?_ hXk)
   have:X*1≤X*10 ^ k:=Nat.mul_le_mul_left _ (Nat.pow_pos (by omega))
   omega
  have hp9:(10:Nat) ^ k≤10 ^ 9:=Nat.pow_le_pow_right (by omega) hk9
  have hv9:numL (r.take k)<10 ^ k:=by
   have:=Zv3 (l:=r.take k) (fun c hc=>h1 c (List.mem_of_mem_take hc))
   rwa [List.length_take,Nat.min_eq_left hkl] at this
  have okS:Ok32 [10 ^ k]:=fun x hx=>by simp at hx; omega
  have okV:Ok32 [numL (r.take k)]:=fun x hx=>by simp at hx; omega
  simp only [go_sem,Z4l,k0,k5,k6,k7,k8]
  have hs:=Yfl (Zbt X) okS (Nat.le_trans hX (by omega)) (by simp)
  rw [Zay] at hs
  simp only [val,Nat.mul_zero,Nat.add_zero] at hs
  refine Zjb (ids := [0]) hs ?_ ?_
  ·simp only [go_sem]
   exact Zdq (r := [10 ^ k]) rfl (by simp) rfl rfl
  simp only [go_sem,k0,k5,k6,k7,k8]
  refine Zjb (ids := [1]) (Zc5 [numL (r.take k)] (by simp)) ?_ ?_
  ·simp only [go_sem]
   exact Zdq (r := [numL (r.take k)]) rfl (by simp) rfl rfl
  have htv:trimL [numL (r.take k)]=limbs (numL (r.take k)):=by rw [← Zc3 okV]; simp [val]
  rw [htv]
  simp only [go_sem,k0,k6]
  refine Zaa (Yqk (m:=X*10 ^ k) (n:=numL (r.take k)) (Nat.le_trans (hsz _ (by omega)) (by omega)) (Nat.le_trans (hsz _ (by omega)) (by omega))) (by simp only [go_sem]) ?_
  have p0:(0:Int)≤(k:Int):=by omega
  simp only [go_sem,Z3z,k0,k6,p0,Zam,hkl,Nat.le_refl,Zfl,List.take_length]
  have h5:r.length=k+(r.drop k).length:=by rw [List.length_drop]; omega
  have h4:numL r=numL (r.take k)*10 ^ (r.drop k).length+numL (r.drop k):=by rw [← Zg5,List.take_append_drop]
  refine hN (X*10 ^ k+numL (r.take k),r.drop k) _ ⟨fun c hc=>h1 c (List.mem_of_mem_drop hc),by simp; omega,?_⟩ (by show (r.drop k).length<r.length; omega) ?_
  ·simp only
   rw [← h3,h4]
   conv=>rhs; rw [h5,Nat.pow_add]
   rw [Nat.add_mul,Nat.mul_assoc]; omega
  ·refine Zbz (Zgb [] (by simp) (fun i hi=>by omega) [(0,.str (bs (r.drop k))),(5,.sl (u32c (limbs (X*10 ^ k+numL (r.take k)))))] ?_) ?_
   ·simp only [go_sem]
   ·rfl
theorem Yow {l:List UInt8}(hl:l.length≤1000000000) {K:Ex→St→Prop}
  (hgood:(∀ c,c∈l→isDig c)→∀ e,e 0 = .str (bs l)→K (.exit 0) ⟨e,[]⟩)
  (hbad:(¬ ∀ c,c∈l→isDig c)→∀ e,e 2 = .nils→e 3 = .bool false→K .ret ⟨e,[]⟩) :
  T Tryz.prog 77 0 (.loop Zu7) ⟨envL [(0,.str (bs l)),(11,.int .i64 (l.length:Int)),(12,.int .i64 0)],[]⟩ K:=by
 refine Zaf (fun i:Nat=>⟨envL [(0,.str (bs l)),(11,.int .i64 (l.length:Int)),(12,.int .i64 (i:Int))],[]⟩)
  (fun i=>i≤l.length∧∀ c,c∈l.take i→isDig c) (fun i=>l.length - i) 0 ⟨by simp,by simp⟩ (Zab _ (by simp only [go_sem]; simp)) (fun i hI N hN=>?_)
 obtain ⟨hi,hd⟩:=hI
 unfold Zu7
 by_cases hil:i<l.length
 ·have gi:=List.getElem?_eq_getElem hil
  generalize l[i]'hil=c at gi
  have p1:(i:Int)<(l.length:Int):=by omega
  have p2:(0:Int)≤(i:Int):=by omega
  have e6:IntKind.i64.wrap ((i:Int)+1)=((i+1:Nat):Int):=by rw [Zac (by omega) (by omega)]; omega
  by_cases hc:isDig c
  ·have hc':=hc
   obtain ⟨hc1,hc2⟩:=hc'
   have q1:¬ (c.toNat:Int)<48:=by omega
   have q2:¬ (57:Int)<(c.toNat:Int):=by omega
   simp only [go_sem,Zhx,Zl2,Zlo,Z6z,p1,p2,Zfo,gi,q1,q2,e6]
   refine hN (i+1) _ ⟨by omega,fun d hdm=>?_⟩ (by omega) (Zab _ (by simp only [go_sem]))
   rw [List.take_add_one,gi] at hdm
   rcases List.mem_append.1 hdm with h | h
   ·exact hd d h
   ·simp at h; rw [h]; exact hc
  ·have hnb:¬ ∀ c,c∈l→isDig c:=fun h=>hc (h c (List.mem_of_getElem? gi))
   by_cases q1:(c.toNat:Int)<48
   ·simp only [go_sem,Zhx,Zl2,Zlo,Zv7,p1,p2,Zfo,gi,q1]
    exact hbad hnb _ (by simp only [go_sem]) (by simp only [go_sem])
   ·have q2:(57:Int)<(c.toNat:Int):=by unfold isDig at hc; omega
    simp only [go_sem,Zhx,Zl2,Zlo,Zv7,p1,p2,Zfo,gi,q1,q2]
    exact hbad hnb _ (by simp only [go_sem]) (by simp only [go_sem])
 ·have p1:¬ (i:Int)<(l.length:Int):=by omega
  simp only [go_sem,Zhx,p1]
  rw [List.take_of_length_le (by omega)] at hd
  exact hgood hd _ (by simp only [go_sem])
theorem Yj4 {l:List UInt8}(hl:l.length≤1000000000) :
  SpecV Tryz.prog Ytm [.str (bs l)] (if digOk l then .tup [.sl (u32c (limbs (numL l))),.bool true] else .tup [.nils,.bool false]):=by
 refine Zba Ypu (by simp) (Zbg 2 rfl ?_)
 unfold Ymd
 have fin:digOk l→∀ e:Nat→AV,e 0 = .str (bs l)→T Tryz.prog 77 0 (.seq (.rg false Zp2) (.seq (.block 2 (.loop Zlr)) (.seq (.rg false Zqf) .ret))) ⟨e,[]⟩
   (retQ [.tmp 2,.tmp 3] (if digOk l then .tup [.sl (u32c (limbs (numL l))),.bool true] else .tup [.nils,.bool false])):=fun hok e e0=>T_W (by
  rw [if_pos hok]
  simp only [go_sem,Zp2,e0]
  refine Zp6 [] [(0,.str (bs l)),(5,.sl [])] ⟨.inr (by simp only [go_sem,e0]),.inl (by simp only [go_sem]),trivial⟩ (Y04 hok.1 hok.2.2.2 (fun e e5=>?_))
  simp only [go_sem,Zqf,e5])
 simp only [go_sem,Z9d,Z7k,Zam]
 refine Zar [(0,.str (bs l)),(11,.int .i64 (l.length:Int)),(12,.int .i64 0)] (by simp only [go_sem]) (Yow hl (fun hd e e0=>?_) (fun hnd e e2 e3=>?_))
 ·by_cases h1:l = []
  ·subst h1
   have hno:¬ digOk []:=fun h=>h.2.1 rfl
   have p1:bs []=(⟨#[]⟩:ByteArray):=rfl
   rw [if_neg hno]
   simp only [go_sem,Zfj,Zfg,e0,p1]
  ·have p1:¬ bs l=(⟨#[]⟩:ByteArray):=fun h=>h1 (bs_inj.1 h)
   obtain ⟨c,g0,hh⟩:∃ c,l[0]? = some c∧l.head? = some c:=by cases l with
    | nil=>exact absurd rfl h1
    | cons c r=>exact ⟨c,rfl,rfl⟩
   by_cases h4:4000<l.length
   ·have hno:¬ digOk l:=fun h=>by have:=h.2.2.2; omega
    have q4:(4000:Int)<(l.length:Int):=by omega
    have q3:(1:Int)<(l.length:Int):=by omega
    rw [if_neg hno]
    simp only [go_sem,Zfj,Zfg,e0,p1,Zfo,g0,Zam,q3,q4]
   ·have q4:¬ (4000:Int)<(l.length:Int):=by omega
    by_cases hc:(c.toNat:Int)=48
    ·by_cases h3:1<l.length
     ·have hc48:c=48:=by apply UInt8.toNat_inj.1; show c.toNat=48; omega
      have hno:¬ digOk l:=fun h=>h.2.2.1 ⟨by rw [hh,hc48],h3⟩
      have q3:(1:Int)<(l.length:Int):=by omega
      rw [if_neg hno]
      simp only [go_sem,Zfj,Zfg,e0,p1,Zfo,g0,Zam,hc,q3]
     ·have hok:digOk l:=⟨hd,h1,fun h=>h3 h.2,by omega⟩
      have q3:¬ (1:Int)<(l.length:Int):=by omega
      simp only [go_sem,Zfj,Zfg,e0,p1,Zfo,g0,Zam,hc,q3,q4]
      exact fin hok _ (by simp only [go_sem,e0])
    ·have hok:digOk l:=⟨hd,h1,fun h=>hc (by
      have:=h.1.symm.trans hh
      simp at this
      rw [← this]; rfl),by omega⟩
     simp only [go_sem,Zfj,Zfg,e0,p1,Zfo,g0,Zam,hc,q4]
     exact fin hok _ (by simp only [go_sem,e0])
 ·have hno:¬ digOk l:=fun h=>hnd h.1
  rw [if_neg hno]
  simp only [go_sem,e2,e3]
end GoAbs
namespace GoAbs
open Go Go.Proofs
def Zko:List IOp := [oI 4 (.mv (.c (.str ⟨#[]⟩))) 0,oI 5 (.mv (.c (.str ⟨#[]⟩))) 0,oI 6 (.mv (.c (.bool false))) 0]
def Zkk:List IOp := [mI 7 0 0,mI 8 1 0,oI 9 (.call 118 [.t 7,.t 8]) 0,eI 10 0 9 0,eI 11 1 9 0,eI 12 2 9 0,mI 4 10 0,mI 5 11 0,mI 6 12 0]
def Zvb:CC := .seq (.rg false Zko) (.seq (.rg false Zkk) .ret)
abbrev Zjr:Nat:=96
theorem Zx5:fnOk Tryz.prog 96=some (13,Zvb,[.tmp 4,.tmp 5,.tmp 6]):=by kernel_rfl
def Zh9:List IOp := [oI 4 (.mv (.c (.str ⟨#[]⟩))) 0,oI 5 (.mv (.c (.bool false))) 0]
def Zic:List IOp := [mI 6 0 0,mI 7 1 0,oI 8 (.call 119 [.t 6,.t 7]) 0,eI 9 0 8 0,eI 10 1 8 0,mI 4 9 0,mI 5 10 0]
def Zl5:CC := .seq (.rg false Zh9) (.seq (.rg false Zic) .ret)
abbrev Zkr:Nat:=97
theorem Zw2:fnOk Tryz.prog 97=some (11,Zl5,[.tmp 4,.tmp 5]):=by kernel_rfl
def Ze1:List IOp := [oI 4 (.mv (.c (.str ⟨#[]⟩))) 0,oI 5 (.mv (.c (.str ⟨#[]⟩))) 0,oI 6 (.mv (.c (.bool false))) 0]
def Zey:List IOp := [mI 8 0 0,mI 9 1 0,oI 10 (.call 135 [.t 8,.t 9]) 0,mI 7 10 0]
def Zes:List IOp := [mI 11 7 0,oI 12 (.bin .geq (.t 11) (cI 0)) 0]
def Zfb:List IOp := [mI 13 0 0,mI 14 7 0,oI 15 (.sslc (.t 13) none (some (.t 14))) 0,mI 16 0 0,mI 17 7 0,mI 18 1 0,oI 19 (.slen (.t 18)) 0,oI 20 (.bin .add (.t 17) (.t 19)) 0,oI 21 (.sslc (.t 16) (some (.t 20)) none) 0,mI 4 15 0,mI 5 21 0,oI 6 (.mv (.c (.bool true))) 0]
@[go_sem ↓] theorem Zti : autoK Zfb = (0, 0) := by kernel_rfl
@[go_sem] theorem Yjl : autoK [mI 13 0 0, mI 14 7 0, oI 15 (.sslc (.t 13) none (some (.t 14))) 0, mI 16 0 0, mI 17 7 0, mI 18 1 0, oI 19 (.slen (.t 18)) 0, oI 20 (.bin .add (.t 17) (.t 19)) 0, oI 21 (.sslc (.t 16) (some (.t 20)) none) 0, mI 4 15 0, mI 5 21 0, oI 6 (.mv (.c (.bool true))) 0] = (0, 0) := Zti
def Zkx:List IOp := [mI 22 0 0,mI 4 22 0,oI 5 (.mv (.c (.str ⟨#[]⟩))) 0,oI 6 (.mv (.c (.bool false))) 0]
def Zig:CC := .seq (.rg false Ze1) (.seq (.seq (.rg false Zey) (.seq (.rg false Zes) (.cond (.t 12) (.seq (.rg true Zfb) .ret) .skip))) (.seq (.rg false Zkx) .ret))
abbrev Zn3:Nat:=118
theorem Zlu:fnOk Tryz.prog 118=some (23,Zig,[.tmp 4,.tmp 5,.tmp 6]):=by kernel_rfl
def Zdz:List IOp := [oI 4 (.mv (.c (.str ⟨#[]⟩))) 0,oI 5 (.mv (.c (.bool false))) 0]
def Zd0:List IOp := [mI 6 0 0,mI 7 1 0,oI 8 (.call 136 [.t 6,.t 7]) 0,oI 9 (.un .not (.t 8)) 0]
def Zd5:List IOp := [mI 10 0 0,mI 4 10 0,oI 5 (.mv (.c (.bool false))) 0]
def Zek:List IOp := [mI 11 0 0,mI 12 1 0,oI 13 (.slen (.t 12)) 0,oI 14 (.sslc (.t 11) (some (.t 13)) none) 0,mI 4 14 0,oI 5 (.mv (.c (.bool true))) 0]
def Zgr:CC := .seq (.rg false Zdz) (.seq (.seq (.rg false Zd0) (.cond (.t 9) (.seq (.rg false Zd5) .ret) .skip)) (.seq (.rg false Zek) .ret))
abbrev Zp8:Nat:=119
theorem Zn1:fnOk Tryz.prog 119=some (15,Zgr,[.tmp 4,.tmp 5]):=by kernel_rfl
def Zcz:List IOp := [oI 4 (.mv (cI 0)) 0]
def Zc1:List IOp := [mI 14 1 0,oI 15 (.slen (.t 14)) 0,mI 5 15 0]
def Zc2:List IOp := [mI 17 5 0,oI 18 (.bin .eql (.t 17) (cI 0)) 0,mI 19 18 0,gI 20 (.mv (.t 1)) 0 19 false,gI 21 (.mv (.t 0)) 0 19 false,gI 22 (.bin .eql (.t 20) (.t 21)) 0 19 false,oI 23 (.pick (.t 19) (.c (.bool true)) (.t 22)) 0,mI 16 23 0]
def Zh0:List IOp := [oI 4 (.mv (cI 0)) 0]
def Zhu:List IOp := [mI 25 5 0,oI 26 (.bin .eql (.t 25) (cI 1)) 0,mI 24 26 0]
def Zh3:List IOp := [mI 27 0 0,mI 28 1 0,oI 29 (.sidx (.t 28) (cI 0)) 0,oI 30 (.call 144 [.t 27,.t 29]) 0,mI 4 30 0]
def Zv2:List IOp := [mI 32 5 0,mI 33 0 0,oI 34 (.slen (.t 33)) 0,oI 35 (.bin .geq (.t 32) (.t 34)) 0,mI 31 35 0]
def Zvw:List IOp := [oI 4 (.mv (cI (-1))) 0]
def Zs7:List IOp := [mI 37 5 0,oI 38 .bad 0,oI 39 (.bin .leq (.t 37) (.t 38)) 0,mI 40 39 0,gI 41 (.mv (.t 0)) 0 40 true,gI 42 (.slen (.t 41)) 0 40 true,gI 43 (.bin .leq (.t 42) (cI 64)) 0 40 true,oI 44 (.pick (.t 40) (.t 43) (.c (.bool false))) 0,mI 36 44 0]
def Zsw:List IOp := [mI 45 0 0,mI 46 1 0,oI 47 (.xt 145 [.t 45,.t 46]) 0,mI 4 47 0]
def Zsf:List IOp := [mI 48 1 0,oI 49 (.sidx (.t 48) (cI 0)) 0,mI 6 49 0]
def Zse:List IOp := [mI 50 1 0,oI 51 (.sidx (.t 50) (cI 1)) 0,mI 7 51 0]
def Zst:List IOp := [oI 8 (.mv (cI 0)) 0]
def Zsm:List IOp := [mI 52 0 0,oI 53 (.slen (.t 52)) 0,mI 54 5 0,oI 55 (.bin .sub (.t 53) (.t 54)) 0,oI 56 (.bin .add (.t 55) (cI 1)) 0,mI 9 56 0]
def Zss:List IOp := [oI 10 (.mv (cI 0)) 0]
def Zr7:List IOp := [mI 57 8 0,mI 58 9 0,oI 59 (.bin .lss (.t 57) (.t 58)) 0]
def Zso:List IOp := [mI 60 0 0,mI 61 8 0,oI 62 (.sidx (.t 60) (.t 61)) 0,mI 63 6 0,oI 64 (.bin .neq (.t 62) (.t 63)) 0]
def Zr2:List IOp := [mI 65 0 0,mI 66 8 0,oI 67 (.bin .add (.t 66) (cI 1)) 0,mI 68 9 0,oI 69 (.sslc (.t 65) (some (.t 67)) (some (.t 68))) 0,mI 70 6 0,oI 71 (.call 144 [.t 69,.t 70]) 0,mI 11 71 0]
def Zsl:List IOp := [mI 72 11 0,oI 73 (.bin .lss (.t 72) (cI 0)) 0]
def Zsy:List IOp := [oI 4 (.mv (cI (-1))) 0]
def Zr3:List IOp := [mI 74 8 0,mI 75 11 0,oI 76 (.bin .add (.t 75) (cI 1)) 0,oI 77 (.bin .add (.t 74) (.t 76)) 0,mI 8 77 0]
def Zsx:List IOp := [mI 78 0 0,mI 79 8 0,oI 80 (.bin .add (.t 79) (cI 1)) 0,oI 81 (.sidx (.t 78) (.t 80)) 0,mI 82 7 0,oI 83 (.bin .eql (.t 81) (.t 82)) 0,mI 84 83 0,gI 85 (.mv (.t 0)) 0 84 true,gI 86 (.mv (.t 8)) 0 84 true,gI 87 (.mv (.t 8)) 0 84 true,gI 88 (.mv (.t 5)) 0 84 true,gI 89 (.bin .add (.t 87) (.t 88)) 0 84 true,gI 90 (.sslc (.t 85) (some (.t 86)) (some (.t 89))) 0 84 true,gI 91 (.mv (.t 1)) 0 84 true,gI 92 (.bin .eql (.t 90) (.t 91)) 0 84 true,oI 93 (.pick (.t 84) (.t 92) (.c (.bool false))) 0]
def Zsn:List IOp := [mI 94 8 0,mI 4 94 0]
def Zr9:List IOp := [mI 95 8 0,oI 96 (.bin .add (.t 95) (cI 1)) 0,mI 8 96 0]
def Zsv:List IOp := [mI 97 10 0,oI 98 (.bin .add (.t 97) (cI 1)) 0,mI 10 98 0]
def Zsh:List IOp := [mI 99 5 0,oI 100 .bad 0,oI 101 (.bin .leq (.t 99) (.t 100)) 0,mI 102 101 0,gI 103 (.mv (.t 10)) 0 102 true,gI 104 (.mv (.t 8)) 0 102 true,gI 105 (.call 146 [.t 104]) 0 102 true,gI 106 (.bin .gtr (.t 103) (.t 105)) 0 102 true,oI 107 (.pick (.t 102) (.t 106) (.c (.bool false))) 0]
def Zr8:List IOp := [mI 108 0 0,mI 109 8 0,oI 110 (.sslc (.t 108) (some (.t 109)) none) 0,mI 111 1 0,oI 112 (.xt 145 [.t 110,.t 111]) 0,mI 12 112 0]
def Zsu:List IOp := [mI 113 12 0,oI 114 (.bin .geq (.t 113) (cI 0)) 0]
def Zsz:List IOp := [mI 115 12 0,mI 116 8 0,oI 117 (.bin .add (.t 115) (.t 116)) 0,mI 4 117 0]
def Zsb:List IOp := [oI 4 (.mv (cI (-1))) 0]
def Zr5:List IOp := [mI 118 5 0,oI 119 .bad 0,oI 120 (.bin .gtr (.t 118) (.t 119)) 0,mI 121 120 0,gI 122 (.mv (.t 10)) 0 121 true,gI 123 (.mv (.t 8)) 0 121 true,gI 124 (.bin .shr (.t 123) (.c (.int .u64 4))) 0 121 true,gI 125 (.bin .add (cI 4) (.t 124)) 0 121 true,gI 126 (.bin .geq (.t 122) (.t 125)) 0 121 true,oI 127 (.pick (.t 121) (.t 126) (.c (.bool false))) 0,mI 128 127 0,gI 129 (.mv (.t 8)) 0 128 true,gI 130 (.mv (.t 9)) 0 128 true,gI 131 (.bin .lss (.t 129) (.t 130)) 0 128 true,oI 132 (.pick (.t 128) (.t 131) (.c (.bool false))) 0]
def Zsk:List IOp := [mI 133 0 0,mI 134 8 0,oI 135 (.sslc (.t 133) (some (.t 134)) none) 0,mI 136 1 0,oI 137 (.call 147 [.t 135,.t 136]) 0,mI 13 137 0]
def Zr6:List IOp := [mI 138 13 0,oI 139 (.bin .lss (.t 138) (cI 0)) 0]
def Zsr:List IOp := [oI 4 (.mv (cI (-1))) 0]
def Zsd:List IOp := [mI 140 8 0,mI 141 13 0,oI 142 (.bin .add (.t 140) (.t 141)) 0,mI 4 142 0]
def Zty:CC := .seq (.seq (.rg false Zr7) (.cond (.t 59) .skip (.exit 1))) (.block 2 (.seq (.seq (.rg false Zso) (.cond (.t 64) (.seq (.rg false Zr2) (.seq (.seq (.rg false Zsl) (.cond (.t 73) (.seq (.rg false Zsy) .ret) .skip)) (.rg false Zr3))) .skip)) (.seq (.seq (.rg false Zsx) (.cond (.t 93) (.seq (.rg false Zsn) .ret) .skip)) (.seq (.rg false Zr9) (.seq (.rg false Zsv) (.seq (.rg false Zsh) (.cond (.t 107) (.seq (.rg false Zr8) (.seq (.seq (.rg false Zsu) (.cond (.t 114) (.seq (.rg false Zsz) .ret) .skip)) (.seq (.rg false Zsb) .ret))) (.seq (.rg false Zr5) (.cond (.t 132) (.seq (.rg false Zsk) (.seq (.seq (.rg false Zr6) (.cond (.t 139) (.seq (.rg false Zsr) .ret) .skip)) (.seq (.rg false Zsd) .ret))) .skip)))))))))
def Zsc:List IOp := [oI 4 (.mv (cI (-1))) 0]
def Zl3:CC := .seq (.rg false Zcz) (.seq (.rg false Zc1) (.seq (.block 0 (.seq (.rg false Zc2) (.cond (.t 16) (.seq (.rg false Zh0) .ret) (.seq (.rg false Zhu) (.cond (.t 24) (.seq (.rg false Zh3) .ret) (.seq (.rg false Zv2) (.cond (.t 31) (.seq (.rg false Zvw) .ret) (.seq (.rg false Zs7) (.cond (.t 36) (.seq (.rg false Zsw) .ret) .skip))))))))) (.seq (.rg false Zsf) (.seq (.rg false Zse) (.seq (.rg false Zst) (.seq (.rg false Zsm) (.seq (.rg false Zss) (.seq (.block 1 (.loop Zty)) (.seq (.rg false Zsc) .ret)))))))))
abbrev Z1h:Nat:=135
theorem Zw5:fnOk Tryz.prog 135=some (143,Zl3,[.tmp 4]):=by kernel_rfl
def Zeh:List IOp := [oI 4 (.mv (cI 0)) 0]
def Zej:List IOp := [mI 5 0 0,mI 6 1 0,oI 7 (.xt 151 [.t 5,.t 6]) 0,mI 4 7 0]
def Zgs:CC := .seq (.rg false Zeh) (.seq (.rg false Zej) .ret)
abbrev Zol:Nat:=144
theorem Znu:fnOk Tryz.prog 144=some (8,Zgs,[.tmp 4]):=by kernel_rfl
def Zb3:List IOp := [oI 4 (.mv (.c (.bool false))) 0]
def Zb6:List IOp := [mI 5 0 0,oI 6 (.slen (.t 5)) 0,mI 7 1 0,oI 8 (.slen (.t 7)) 0,oI 9 (.bin .geq (.t 6) (.t 8)) 0,mI 10 9 0,gI 11 (.mv (.t 0)) 0 10 true,gI 12 (.mv (.t 1)) 0 10 true,gI 13 (.slen (.t 12)) 0 10 true,gI 14 (.sslc (.t 11) none (some (.t 13))) 0 10 true,gI 15 (.mv (.t 1)) 0 10 true,gI 16 (.bin .eql (.t 14) (.t 15)) 0 10 true,oI 17 (.pick (.t 10) (.t 16) (.c (.bool false))) 0,mI 4 17 0]
def Zgt:CC := .seq (.rg false Zb3) (.seq (.rg false Zb6) .ret)
abbrev Zp9:Nat:=136
theorem Znm:fnOk Tryz.prog 136=some (18,Zgt,[.tmp 4]):=by kernel_rfl
end GoAbs
namespace GoAbs
open Go Go.Proofs
def idxB:List UInt8→UInt8→Int
 | [],_ => -1
 | b::l,c=>if b=c then 0 else if idxB l c = -1 then -1 else idxB l c+1
theorem Y79 (l:List UInt8) (c:UInt8):Lib.indexByte l c=idxB l c:=by
 induction l with
 | nil=>rfl
 | cons b l ih=>unfold Lib.indexByte idxB; rw [ih]; simp
theorem Z5v (l:List UInt8) (c:UInt8):PureX Tryz.prog 151 [.str (bs l),.int .u8 (c.toNat:Int)] (.int .i64 (idxB l c)):=by
 refine ⟨.int _ _,fun w O ρ vs hr=>?_⟩
 obtain ⟨h1,h2⟩:=hr
 have h1:vs.size=2:=h1
 obtain ⟨a,b,rfl⟩:∃ a b,vs = #[a,b]:=⟨vs[0],vs[1],by
  apply Array.ext
  ·simpa using h1
  ·intro i hi hj
   have:i=0∨i=1:=by simp at hj; omega
   rcases this with rfl | rfl <;> rfl⟩
 have ha:=h2 0 _ a rfl rfl
 have hb:=h2 1 _ b rfl rfl
 cases ha
 cases hb
 refine ⟨.int .i64 (idxB l c),?_,.int _ _⟩
 have hf:Tryz.prog.funcs[151]? = some Tryz.f151:=by kernel_rfl
 rw [run_callFunc_extern hf (by kernel_rfl) (by kernel_rfl) (by kernel_rfl) (e:=Extern.BytealgIndexByte.indexByte) (by kernel_rfl),Lib.run_indexByteString]
 have e1:(bs l).data.toList=l:=by simp [bs]
 have e2:((c.toNat:Int).toNat.toUInt8)=c:=by simp
 rw [e1,e2,Y79]
 rfl
theorem Yeq (l:List UInt8) (c:UInt8):SpecV Tryz.prog Zol [.str (bs l),.int .u8 (c.toNat:Int)] (.int .i64 (idxB l c)):=by
 refine Zad Znu (by simp) ?_
 unfold Zgs
 simp only [go_sem,Zeh,Zej]
 refine Xcl (Z5v l c) (fun x hx=>?_) ?_
 ·rcases List.mem_cons.1 hx with rfl | hx
  ·exact .str _
  ·rcases List.mem_cons.1 hx with rfl | hx
   ·exact .int _ _
   ·simp at hx
 ·simp only [go_sem]
theorem Ylx (l:List UInt8) (c:UInt8):SpecV Tryz.prog Z1h [.str (bs l),.str (bs [c])] (.int .i64 (idxB l c)):=by
 refine Zad Zw5 (by simp) ?_
 unfold Zl3
 have e1:(bs [c]).size=1:=rfl
 have g0:(bs [c])[0]? = some c:=rfl
 have q0:¬ ((1:Nat):Int)=0:=by omega
 have q1:((1:Nat):Int)=1:=rfl
 by_cases he:bs [c]=bs l
 ·have hl:=(bs_inj.1 he).symm
  subst hl
  simp only [go_sem,Zcz,Zc1,Zc2,Zh0,e1,q0]
  show _=_
  simp [idxB]
 ·simp only [go_sem,Zcz,Zc1,Zc2,Zhu,Zh3,e1,q0,q1,g0,he]
  refine Zaa (Yeq l c) (by simp only [go_sem]) ?_
  simp only [go_sem]
theorem Ywt {l:List UInt8}{c:UInt8}:idxB l c = -1↔c ∉ l:=by
 induction l with
 | nil=>simp [idxB]
 | cons b l ih =>
  unfold idxB
  by_cases hb:b=c
  ·simp [hb]
  ·rw [if_neg hb]
   by_cases hi:idxB l c = -1
   ·rw [if_pos hi]
    have:=ih.1 hi
    simp [this,Ne.symm hb]
   ·rw [if_neg hi]
    have h1:c∈l:=Classical.byContradiction fun h=>hi (ih.2 h)
    constructor
    ·intro h
     have:∀ l:List UInt8,-1≤idxB l c:=by
      intro l
      induction l with
      | nil=>simp [idxB]
      | cons b l ih=>unfold idxB; (repeat' split) <;> omega
     have:=this l
     omega
    ·intro h; simp [h1] at h
theorem Yzj {l r:List UInt8}{c:UInt8}(h:c ∉ l):idxB (l++c::r) c=l.length:=by
 induction l with
 | nil=>simp [idxB]
 | cons b l ih =>
  simp only [List.mem_cons,not_or] at h
  simp only [List.cons_append,idxB]
  rw [if_neg (fun e=>h.1 e.symm),ih h.2,if_neg (by omega)]
  simp
theorem Xdz (l:List UInt8) (c:UInt8):c ∉ l∨∃ a b,c ∉ a∧l=a++c::b:=by
 induction l with
 | nil=>simp
 | cons x l ih =>
  by_cases hx:x=c
  ·exact .inr ⟨[],l,by simp,by simp [hx]⟩
  ·rcases ih with h | ⟨a,b,h1,h2⟩
   ·exact .inl (by simp [Ne.symm hx,h])
   ·exact .inr ⟨x::a,b,by simp [Ne.symm hx,h1],by simp [h2]⟩
theorem Y7y {l:List UInt8}{c:UInt8}(h:c ∉ l):SpecV Tryz.prog Zn3 [.str (bs l),.str (bs [c])] (.tup [.str (bs l),.str (bs []),.bool false]):=by
 refine Zad Zlu (by simp) ?_
 unfold Zig
 simp only [go_sem,Ze1,Zey]
 refine Zaa (Ylx l c) (by simp only [go_sem]) ?_
 have q1:¬ (0:Int) ≤ -1:=by omega
 rw [Ywt.2 h]
 simp only [go_sem,Zes,Zkx,q1]
 rfl
theorem Y3b {a b:List UInt8}{c:UInt8}(h:c ∉ a) (hl:(a++c::b).length≤1000000000):SpecV Tryz.prog Zn3 [.str (bs (a++c::b)),.str (bs [c])] (.tup [.str (bs a),.str (bs b),.bool true]):=by
 refine Zad Zlu (by simp) ?_
 unfold Zig
 simp only [go_sem,Ze1,Zey]
 refine Zaa (Ylx _ c) (by simp only [go_sem]) ?_
 rw [Yzj h]
 have hm:Tryz.prog.follows .mixedOrders=true:=by kernel_rfl
 have q1:(0:Int)≤(a.length:Int):=by omega
 simp at hl
 have e1:IntKind.i64.wrap ((a.length:Int)+((1:Nat):Int))=((a.length+1:Nat):Int):=by rw [Zac (by omega) (by omega)]; omega
 have q2:(0:Int)≤((a.length+1:Nat):Int):=by omega
 have e2:((bs [c]).size:Int)=1:=rfl
 have l1:a.length≤(a++c::b).length:=by simp
 have l2:a.length+1≤(a++c::b).length:=by simp
 have t1:(a++c::b).take a.length=a:=by simp
 have t2:(a++c::b).drop (a.length+1)=b:=by
  simp [List.drop_append]
 simp only [go_sem,Zes,Zfb,q1,q2,e1,hm,Zam,Zfl,l1,l2,Nat.zero_le,Nat.le_refl,t1,t2,List.take_length]
theorem Xd2 {l:List UInt8}{c:UInt8}(h:c ∉ l):SpecV Tryz.prog Zjr [.str (bs l),.str (bs [c])] (.tup [.str (bs l),.str (bs []),.bool false]):=by
 refine Zad Zx5 (by simp) ?_
 unfold Zvb
 simp only [go_sem,Zko,Zkk]
 refine Zaa (Y7y h) (by simp only [go_sem]) ?_
 simp only [go_sem]
theorem Xbs {a b:List UInt8}{c:UInt8}(h:c ∉ a) (hl:(a++c::b).length≤1000000000):SpecV Tryz.prog Zjr [.str (bs (a++c::b)),.str (bs [c])] (.tup [.str (bs a),.str (bs b),.bool true]):=by
 refine Zad Zx5 (by simp) ?_
 unfold Zvb
 simp only [go_sem,Zko,Zkk]
 refine Zaa (Y3b h hl) (by simp only [go_sem]) ?_
 simp only [go_sem]
theorem Yhh (l:List UInt8) (c:UInt8):SpecV Tryz.prog Zp9 [.str (bs l),.str (bs [c])] (.bool (decide (l.head? = some c))):=by
 refine Zad Znm (by simp) ?_
 unfold Zgt
 have e2:((bs [c]).size:Int)=1:=rfl
 have e3:(bs [c]).size=1:=rfl
 cases l with
 | nil =>
  have q1:¬ (1:Int)≤((0:Nat):Int):=by omega
  simp only [go_sem,Zb3,Zb6,e2,Zam,q1]
  simp
 | cons b r =>
  have q1:((1:Nat):Int)≤((r.length+1:Nat):Int):=by omega
  have q2:(0:Int)≤((1:Nat):Int):=by omega
  have l1:1≤r.length+1:=by omega
  simp only [go_sem,Zb3,Zb6,Zam,q1,q2,l1,Nat.zero_le,Zfl]
  have:(bs [b]=bs [c])↔b=c:=by rw [bs_inj]; simp
  refine ⟨fun h=>?_,fun h=>?_⟩
  ·rw [this] at h; simp [h]
  ·rw [this] at h; simp [h]
theorem Yi0 (l:List UInt8) (c:UInt8):SpecV Tryz.prog Zkr [.str (bs l),.str (bs [c])] (if l.head? = some c then .tup [.str (bs l.tail),.bool true] else .tup [.str (bs l),.bool false]):=by
 have inner:SpecV Tryz.prog Zp8 [.str (bs l),.str (bs [c])] (if l.head? = some c then .tup [.str (bs l.tail),.bool true] else .tup [.str (bs l),.bool false]):=by
  refine Zad Zn1 (by simp) ?_
  unfold Zgr
  have e2:((bs [c]).size:Int)=1:=rfl
  simp only [go_sem,Zdz,Zd0]
  refine Zaa (Yhh l c) (by simp only [go_sem]) ?_
  by_cases h:l.head? = some c
  ·have q2:(0:Int)≤1:=by omega
   have l1:1≤l.length:=by cases l with
    | nil=>simp at h
    | cons b r=>simp
   rw [if_pos h]
   simp only [go_sem,decide_eq_true h,Zek,e2,Zam,l1,Nat.le_refl,Zfl,List.take_length]
   simp
  ·rw [if_neg h]
   simp only [go_sem,decide_eq_false h,Zd5]
 refine Zad Zw2 (by simp) ?_
 unfold Zl5
 simp only [go_sem,Zh9,Zic]
 refine Zaa inner (by simp only [go_sem]) ?_
 by_cases h:l.head? = some c
 ·rw [if_pos h]; simp only [go_sem]
 ·rw [if_neg h]; simp only [go_sem]
end GoAbs
namespace GoAbs
open Go Go.Proofs
theorem Yx1 {slash minus:Bool}{N D:Nat}(hN:Sz N) (hD:Sz D)
  {e:Nat→AV} (e2:e 2 = .ptr 0 0) (e6:e 6 = .bool slash) (e8:e 8 = .bool minus) (e9:e 9 = .sl (u32c (limbs N))) (e11:e 11 = .sl (u32c (limbs D))) :
  T Tryz.prog 78 0 (.seq (.rg false Zb1) (.seq (.rg true Zbp) .ret)) ⟨e,[.cells [.bool false,.nils,.bool false,.nils]]⟩
   (retQ [.cell 2 (some 4),.tmp 3] (.tup [avF (if minus then -(N:Int) else N) D,.bool (!slash || decide (Int.gcd (if minus then -(N:Int) else N) D=1))])):=by
 have hm:Tryz.prog.follows .mixedOrders=true:=by kernel_rfl
 refine T_W ?_
 generalize hz:(if minus=true then -(N:Int) else N)=z
 have hzn:z.natAbs=N:=by subst hz; cases minus <;> simp
 have hzS:Sz z.natAbs:=by rw [hzn]; exact hN
 have hDS:Sz (D:Int).natAbs:=by simpa using hD
 have hD0:decide ((D:Int)<0)=false:=by simp
 simp only [go_sem,Zb1,e2,e6,e8,e9,e11]
 refine Zaa (Zqn (s:=minus) (n:=N) (z:=z) hz) (by simp only [go_sem]) ?_
 simp only [go_sem,e11]
 refine Zaa (Zqn (s:=false) (n:=D) (z:=(D:Int)) (by simp)) (by simp only [go_sem]) ?_
 simp only [go_sem,Zaj,Zbp,hm,e2,e6]
 cases slash with
 | false=>simp only [go_sem,e2,e6]; simp
 | true =>
  simp only [go_sem,e2,e6]
  refine Zaa (Yqs hzS hDS) (by simp only [go_sem,Zaj]) ?_
  simp only [go_sem]
  refine Zaa Z14 (by simp only [go_sem]) ?_
  simp only [go_sem]
  have hgs:Sz (Int.gcd z D:Int).natAbs:=by
   have:Int.gcd z D≤max N D:=by
    rcases Nat.eq_zero_or_pos D with h | h
    ·subst h
     simp [hzn]
    ·exact Nat.le_trans (Nat.le_of_dvd h (by simpa using Int.gcd_dvd_natAbs_right z D)) (Nat.le_max_right _ _)
   simp only [Int.natAbs_natCast]
   rcases Nat.le_total N D with h | h
   ·exact hD.mono (by omega)
   ·exact hN.mono (by omega)
  refine Zaa (Yis (b:=1) hgs.l Sz.one.l) (by simp only [go_sem,Zaj]) ?_
  simp only [go_sem,Zaj,e2,e6]
  have key:((if (Int.gcd z D:Int)<1 then (-1:Int) else if (1:Int)<(Int.gcd z D:Int) then 1 else 0)=0)↔Int.gcd z D=1:=by
   split
   ·constructor
    ·intro h; omega
    ·intro h; omega
   ·split
    ·constructor
     ·intro h; omega
     ·intro h; omega
    ·constructor
     ·intro h; omega
     ·intro h; rfl
  refine ⟨fun h=>?_,fun h=>?_⟩
  ·rw [key] at h
   simp [h]
  ·rw [key] at h
   simp [h]
def badQ:AV := .tup [.agg [.bool false,.nils,.bool false,.nils],.bool false]
def goodQ (slash minus:Bool) (N D:Nat):AV := .tup [avF (if minus then -(N:Int) else N) D,.bool (!slash || decide (Int.gcd (if minus then -(N:Int) else N) D=1))]
theorem Z39 {slash minus ok t:Bool}{X Y r:AV}{N D:Nat}(hX:ok=true→X = .sl (u32c (limbs N))) (hN:Sz N) (hD:Sz D) (hY:t=true→Y = .sl (u32c (limbs D)))
  (hbad:ok=false∨t=false∨(minus=true∧N=0)→r=badQ) (hgood:ok=true→t=true→¬ (minus=true∧N=0)→r=goodQ slash minus N D)
  {e:Nat→AV} (e2:e 2 = .ptr 0 0) (e6:e 6 = .bool slash) (e8:e 8 = .bool minus) (e9:e 9=X) (e10:e 10 = .bool ok) (e11:e 11=Y) (e12:e 12 = .bool t) :
  T Tryz.prog 78 0 (.seq (.seq (.rg false Zbk) (.cond (.t 57) (.seq (.rg false Zbd) .ret) .skip)) (.seq (.rg false Zb1) (.seq (.rg true Zbp) .ret))) ⟨e,[.cells [.bool false,.nils,.bool false,.nils]]⟩
   (retQ [.cell 2 (some 4),.tmp 3] r):=by
 refine Zbg 0 rfl ?_
 cases ok with
 | false =>
  rw [hbad (.inl rfl)]
  simp only [go_sem,Zbk,Zbd,e2,e6,e8,e9,e10,e11,e12,badQ]
 | true =>
  cases t with
  | false =>
   rw [hbad (.inr (.inl rfl))]
   simp only [go_sem,Zbk,Zbd,e2,e6,e8,e9,e10,e11,e12,badQ]
  | true =>
   have hx:=hX rfl
   have hy:=hY rfl
   have fin:¬ (minus=true∧N=0)→∀ e:Nat→AV,e 2 = .ptr 0 0→e 6 = .bool slash→e 8 = .bool minus→e 9=X→e 11=Y →
     T Tryz.prog 78 0 (.seq (.rg false Zb1) (.seq (.rg true Zbp) .ret)) ⟨e,[.cells [.bool false,.nils,.bool false,.nils]]⟩ (retQ [.cell 2 (some 4),.tmp 3] r):=fun h e q2 q6 q8 q9 q11=>by
    rw [hgood rfl rfl h]
    exact Yx1 hN hD q2 q6 q8 (q9.trans hx) (q11.trans hy)
   cases minus with
   | false =>
    simp only [go_sem,Zbk,Zbd,e2,e6,e8,e9,e10,e11,e12]
    exact fin (fun h=>by cases h.1) _ (by simp only [go_sem,e2]) (by simp only [go_sem,e6]) (by simp only [go_sem,e8]) (by simp only [go_sem,e9]) (by simp only [go_sem,e11])
   | true =>
    by_cases h0:N=0
    ·rw [hbad (.inr (.inr ⟨rfl,h0⟩))]
     subst h0
     have q1:((0:Nat):Int)=0:=rfl
     simp only [go_sem,Zbk,Zbd,e2,e6,e8,e9,e10,e11,e12,hx,Zap,Zhn,q1,badQ]
    ·have q1:¬ ((limbs N).length:Int)=0:=by have:=(Zdc (n:=N)).2 h0; omega
     simp only [go_sem,Zbk,Zbd,e2,e6,e8,e9,e10,e11,e12,hx,Zae,q1]
     exact fin (fun h=>h0 h.2) _ (by simp only [go_sem,e2]) (by simp only [go_sem,e6]) (by simp only [go_sem,e8]) (by simp only [go_sem,e9,hx]) (by simp only [go_sem,e11])
theorem Ykx {slash minus ok:Bool}{X r:AV}{N:Nat}{under:List UInt8}(hul:under.length≤1000000000) (hX:ok=true→X = .sl (u32c (limbs N))) (hN:Sz N)
  (hbad:ok=false∨(slash=true∧¬ (digOk under∧1<numL under))∨(minus=true∧N=0)→r=badQ)
  (hgood:ok=true→(slash=true→digOk under∧1<numL under)→¬ (minus=true∧N=0)→r=goodQ slash minus N (if slash=true then numL under else 1))
  {e:Nat→AV} (e2:e 2 = .ptr 0 0) (e5:e 5 = .str (bs under)) (e6:e 6 = .bool slash) (e8:e 8 = .bool minus) (e9:e 9=X) (e10:e 10 = .bool ok) (e11:e 11 = .sl (u32c (limbs 1))) (e12:e 12 = .bool true) :
  T Tryz.prog 78 0 (.seq (.seq (.rg false Zfv) (.cond (.t 31) (.seq (.rg false Zjq) (.rg false Zfs)) .skip)) (.seq (.seq (.rg false Zbk) (.cond (.t 57) (.seq (.rg false Zbd) .ret) .skip)) (.seq (.rg false Zb1) (.seq (.rg true Zbp) .ret)))) ⟨e,[.cells [.bool false,.nils,.bool false,.nils]]⟩
   (retQ [.cell 2 (some 4),.tmp 3] r):=by
 refine Zbg 0 rfl ?_
 cases slash with
 | false =>
  simp only [go_sem,Zfv,e6]
  exact Z39 (slash:=false) (minus:=minus) (ok:=ok) (t:=true) (D:=1) hX hN Sz.one (fun _=>rfl) (fun h=>hbad (h.elim .inl (fun h=>h.elim (fun h=>by cases h) (fun h => .inr (.inr h)))))
   (fun h1 h2 h3=>hgood h1 (fun h=>by cases h) h3) (by simp only [go_sem,e2]) (by simp only [go_sem,e6]) (by simp only [go_sem,e8]) (by simp only [go_sem,e9]) (by simp only [go_sem,e10]) (by simp only [go_sem,e11]) (by simp only [go_sem,e12])
 | true =>
  simp only [go_sem,Zfv,Zjq,e5,e6]
  refine Zaa (Yj4 hul) (by simp only [go_sem]) ?_
  have s4:digOk under→Sz (numL under):=fun h=>by
   have:=Yhx (Zv3 h.1)
   have:=h.2.2.2
   unfold Sz; omega
  have one:limbs 1 = [1]:=by rw [Zcj (by omega),show 1 / 4294967296=0 by omega,Zap]
  by_cases hu:digOk under
  ·rw [if_pos hu]
   simp only [go_sem,Zfs]
   refine Zus (ids := [1]) (Z06 (m:=numL under) (n:=1) (s4 hu).l Sz.one.l) ?_ (.inr (.int _ _)) (fun b hb=>trivial) ?_
   ·simp only [go_sem]
    rw [one]
    exact Zdq (r := [1]) rfl (by simp) rfl rfl
   ·by_cases h1:1<numL under
    ·have q1:¬ numL under<1:=by omega
     have q2:(0:Int)<1:=by omega
     simp only [go_sem,q1,h1,q2]
     refine T_le (Zgb [0] (by simp) (fun i hi=>by omega) [(2,.ptr 0 0),(6,.bool true),(8,.bool minus),(9,X),(10,.bool ok),(11,.sl (u32c (limbs (numL under)))),(12,.bool true)] (by simp only [go_sem,e2,e6,e8,e9,e10])) ?_
     exact Z39 (slash:=true) (minus:=minus) (ok:=ok) (t:=true) (D:=numL under) (X:=X.gc (pos [0])) (fun h=>by rw [hX h]; rfl) hN (s4 hu) (fun _=>rfl) (fun h=>hbad (h.elim .inl (fun h=>h.elim (fun h=>by cases h) (fun h => .inr (.inr h)))))
      (fun h1 h2 h3=>hgood h1 (fun _=>⟨hu,by assumption⟩) h3) rfl rfl rfl rfl rfl rfl rfl
    ·have q2:¬ (0:Int)<(if numL under<1 then -1 else 0):=by split <;> omega
     simp only [go_sem,h1,q2]
     refine T_le (Zgb [0] (by simp) (fun i hi=>by omega) [(2,.ptr 0 0),(6,.bool true),(8,.bool minus),(9,X),(10,.bool ok),(11,.sl (u32c (limbs (numL under)))),(12,.bool false)] (by simp only [go_sem,e2,e6,e8,e9,e10])) ?_
     exact Z39 (slash:=true) (minus:=minus) (ok:=ok) (t:=false) (D:=numL under) (X:=X.gc (pos [0])) (fun h=>by rw [hX h]; rfl) hN (s4 hu) (fun _=>rfl) (fun _=>hbad (.inr (.inl ⟨rfl,fun h=>h1 h.2⟩)))
      (fun h1 h2 h3=>by cases h2) rfl rfl rfl rfl rfl rfl rfl
  ·rw [if_neg hu]
   simp only [go_sem,Zfs]
   exact Z39 (slash:=true) (minus:=minus) (ok:=ok) (t:=false) (D:=1) (Y := .nils) hX hN Sz.one (fun h=>by cases h) (fun _=>hbad (.inr (.inl ⟨rfl,fun h=>hu h.1⟩)))
      (fun h1 h2 h3=>by cases h2) (by simp only [go_sem,e2]) (by simp only [go_sem,e6]) (by simp only [go_sem,e8]) (by simp only [go_sem,e9]) (by simp only [go_sem,e10]) (by simp only [go_sem]) (by simp only [go_sem])
theorem Yob {l over under:List UInt8}{slash:Bool}{r:AV}(hol:over.length≤1000000000) (hul:under.length≤1000000000)
  (hcut:SpecV Tryz.prog Zjr [.str (bs l),.str (bs [47])] (.tup [.str (bs over),.str (bs under),.bool slash]))
  (minus:Bool) (digits:List UInt8) (hmd:(over.head? = some 45∧minus=true∧digits=over.tail)∨(¬ over.head? = some 45∧minus=false∧digits=over))
  (hbad:¬ digOk digits∨(slash=true∧¬ (digOk under∧1<numL under))∨(minus=true∧numL digits=0)→r=badQ)
  (hgood:digOk digits→(slash=true→digOk under∧1<numL under)→¬ (minus=true∧numL digits=0)→r=goodQ slash minus (numL digits) (if slash=true then numL under else 1)) :
  SpecV Tryz.prog Zqi [.str (bs l)] r:=by
 refine Zba Ymr (by simp) (Zbg 4 rfl ?_)
 unfold Ygs
 have c47:(⟨#[47]⟩:ByteArray)=bs [47]:=rfl
 have c45:(⟨#[45]⟩:ByteArray)=bs [45]:=rfl
 simp only [go_sem,Z4v,Z4g,c47]
 refine Zaa hcut (by simp only [go_sem]) ?_
 simp only [go_sem,Z28,c45]
 have hcp:SpecV Tryz.prog Zkr [.str (bs over),.str (bs [45])] (.tup [.str (bs digits),.bool minus]):=by
  have:=Yi0 over 45
  rcases hmd with ⟨h1,h2,h3⟩ | ⟨h1,h2,h3⟩
  ·rw [if_pos h1] at this; rw [h2,h3]; exact this
  ·rw [if_neg h1] at this; rw [h2,h3]; exact this
 have hdl:digits.length≤1000000000:=by
  rcases hmd with ⟨_,_,h3⟩ | ⟨_,_,h3⟩
  ·rw [h3,List.length_tail]; omega
  ·rw [h3]; exact hol
 refine Zaa hcp (by simp only [go_sem]) ?_
 simp only [go_sem,Z4e]
 refine Zaa (Yj4 hdl) (by simp only [go_sem]) ?_
 have one:limbs 1 = [1]:=by rw [Zcj (by omega),show 1 / 4294967296=0 by omega,Zap]
 have fin:∀ (X:AV) (ok:Bool),(ok=true→X = .sl (u32c (limbs (numL digits))))→X.gc (pos [0])=X→(ok=true↔digOk digits)→∀ e:Nat→AV,e 2 = .ptr 0 0→e 5 = .str (bs under)→e 6 = .bool slash→e 8 = .bool minus→e 9=X→e 10 = .bool ok→e 11 = .osl none 1 0 1→e 12 = .bool true →
   T Tryz.prog 78 0 (.seq (.seq (.rg false Zfv) (.cond (.t 31) (.seq (.rg false Zjq) (.rg false Zfs)) .skip)) (.seq (.seq (.rg false Zbk) (.cond (.t 57) (.seq (.rg false Zbd) .ret) .skip)) (.seq (.rg false Zb1) (.seq (.rg true Zbp) .ret))))
    ⟨e,[.cells [.bool false,.nils,.bool false,.nils],.cells [.int .u32 1]]⟩ (retQ [.cell 2 (some 4),.tmp 3] r):=fun X ok hX hXg hok e q2 q5 q6 q8 q9 q10 q11 q12=>by
  refine Zp6 [1] [(2,.ptr 0 0),(5,.str (bs under)),(6,.bool slash),(8,.bool minus),(9,X),(10,.bool ok),(11,.sl (u32c (limbs 1))),(12,.bool true)]
   ⟨.inr q2,.inr q5,.inr q6,.inr q8,.inr q9,.inr q10,.inl (by show BV _ _ (e 11) _; rw [q11,one]; exact Zdq (r := [1]) rfl (by simp) rfl rfl),.inr q12,trivial⟩ ?_
  refine T_le (Zgb [0] (by simp) (fun i hi=>by omega) [(2,.ptr 0 0),(5,.str (bs under)),(6,.bool slash),(8,.bool minus),(9,X),(10,.bool ok),(11,.sl (u32c (limbs 1))),(12,.bool true)] (by simp only [go_sem])) ?_
  have hN:Sz (numL digits)∨ok=false:=by
   cases ok with
   | false=>exact .inr rfl
   | true =>
    have h:=hok.1 rfl
    have:=Yhx (Zv3 h.1)
    have:=h.2.2.2
    exact .inl (by unfold Sz; omega)
  rcases hN with hN | hN
  ·exact Ykx (slash:=slash) (minus:=minus) (ok:=ok) (N:=numL digits) hul (X:=X) (fun h=>hX h) hN
    (fun h=>hbad (h.elim (fun h => .inl (fun h2=>by rw [hok.2 h2] at h; cases h)) .inr)) (fun h1 h2 h3=>hgood (hok.1 h1) h2 h3) rfl rfl rfl rfl hXg rfl rfl rfl
  ·subst hN
   have hnd:¬ digOk digits:=fun h=>by cases hok.2 h
   exact Ykx (slash:=slash) (minus:=minus) (ok:=false) (N:=0) hul (fun h=>by cases h) (Sz.one.mono (by omega))
    (fun _=>hbad (.inl hnd)) (fun h1 h2 h3=>by cases h1) rfl rfl rfl rfl rfl rfl rfl rfl
 by_cases hd:digOk digits
 ·rw [if_pos hd]
  simp only [go_sem,Zps]
  exact fin (.sl (u32c (limbs (numL digits)))) true (fun _=>rfl) rfl ⟨fun _=>hd,fun _=>rfl⟩ _ (by simp only [go_sem]) (by simp only [go_sem]) (by simp only [go_sem]) (by simp only [go_sem]) (by simp only [go_sem]) (by simp only [go_sem]) (by simp only [go_sem]) (by simp only [go_sem])
 ·rw [if_neg hd]
  simp only [go_sem,Zps]
  exact fin .nils false (fun h=>by cases h) rfl ⟨fun h=>(by cases h),fun h=>absurd h hd⟩ _ (by simp only [go_sem]) (by simp only [go_sem]) (by simp only [go_sem]) (by simp only [go_sem]) (by simp only [go_sem]) (by simp only [go_sem]) (by simp only [go_sem]) (by simp only [go_sem])
def cutL (l:List UInt8):List UInt8×List UInt8×Bool:=if 47∈l then (l.takeWhile (· != 47),(l.dropWhile (· != 47)).tail,true) else (l,[],false)
def signL (o:List UInt8):List UInt8×Bool:=if o.head? = some 45 then (o.tail,true) else (o,false)
def partsL (l:List UInt8):Int×Nat×Bool :=
 (if (signL (cutL l).1).2 then -(numL (signL (cutL l).1).1:Int) else numL (signL (cutL l).1).1,if (cutL l).2.2 then numL (cutL l).2.1 else 1,(cutL l).2.2)
def formL (l:List UInt8):Prop:=digOk (signL (cutL l).1).1∧((cutL l).2.2=true→digOk (cutL l).2.1∧1<numL (cutL l).2.1)∧¬ ((signL (cutL l).1).2=true∧numL (signL (cutL l).1).1=0)
instance (l:List UInt8):Decidable (formL l):=by unfold formL; infer_instance
def parseL (l:List UInt8):Option Rat:=if formL l∧((partsL l).2.2=true→Int.gcd (partsL l).1 (partsL l).2.1=1) then some (Rat.divInt (partsL l).1 (partsL l).2.1) else none
theorem Yzz {l:List UInt8}(hl:l.length≤1000000000):SpecV Tryz.prog Zjr [.str (bs l),.str (bs [47])] (.tup [.str (bs (cutL l).1),.str (bs (cutL l).2.1),.bool (cutL l).2.2])∧(cutL l).1.length≤l.length∧(cutL l).2.1.length≤l.length:=by
 rcases Xdz l 47 with h | ⟨a,b,h,rfl⟩
 ·unfold cutL
  rw [if_neg h]
  exact ⟨Xd2 h,Nat.le_refl _,by simp⟩
 ·have h1:∀ x,x∈a→(x != 47)=true:=fun x hx=>by
   have:x≠47:=fun e=>h (e ▸ hx)
   simpa using this
  have e:cutL (a++47::b)=(a,b,true):=by
   unfold cutL
   rw [if_pos (by simp),List.takeWhile_append_of_pos h1,List.dropWhile_append_of_pos h1]
   simp
  rw [e]
  refine ⟨Xbs h hl,by simp,by simp; omega⟩
theorem Yoz {l:List UInt8}:goodQ (cutL l).2.2 (signL (cutL l).1).2 (numL (signL (cutL l).1).1) (if (cutL l).2.2=true then numL (cutL l).2.1 else 1) =
  .tup [avF (partsL l).1 (partsL l).2.1,.bool (!(partsL l).2.2 || decide (Int.gcd (partsL l).1 (partsL l).2.1=1))]:=rfl
theorem Ycl {l:List UInt8}{r:AV}(hl:l.length≤1000000000) (hbad:¬ formL l→r=badQ)
  (hgood:formL l→r = .tup [avF (partsL l).1 (partsL l).2.1,.bool (!(partsL l).2.2 || decide (Int.gcd (partsL l).1 (partsL l).2.1=1))]):SpecV Tryz.prog Zqi [.str (bs l)] r:=by
 obtain ⟨h1,h2,h3⟩:=Yzz hl
 refine Yob (by omega) (by omega) h1 (signL (cutL l).1).2 (signL (cutL l).1).1 ?_ (fun h=>hbad (fun hf=>?_)) (fun a b c=>?_)
 ·unfold signL
  by_cases h:(cutL l).1.head? = some 45
  ·rw [if_pos h]; exact .inl ⟨h,rfl,rfl⟩
  ·rw [if_neg h]; exact .inr ⟨h,rfl,rfl⟩
 ·obtain ⟨f1,f2,f3⟩:=hf
  rcases h with h | ⟨h,h'⟩ | h
  ·exact h f1
  ·exact h' (f2 h)
  ·exact f3 h
 ·rw [Yoz]
  exact hgood ⟨a,b,c⟩
theorem Yu0 {l:List UInt8}(h:formL l):(0:Int)<((partsL l).2.1:Int):=by
 unfold partsL
 simp only
 split
 ·have:=(h.2.1 (by assumption)).2; omega
 ·omega
theorem Ys6 {l:List UInt8}{q:Rat}(hl:l.length≤1000000000) (h:parseL l=some q):SpecV Tryz.prog Zqi [.str (bs l)] (.tup [avQ q,.bool true]):=by
 unfold parseL at h
 split at h
 ·rename_i hc
  obtain ⟨hf,hg⟩:=hc
  cases h
  refine Ycl hl (fun h=>absurd hf h) (fun _=>?_)
  have hpos:=Yu0 hf
  have hgcd:Int.gcd (partsL l).1 (partsL l).2.1=1:=by
   cases hs:(partsL l).2.2 with
   | true=>exact hg hs
   | false =>
    have:(partsL l).2.1=1:=by
     unfold partsL at hs ⊢
     simp only at hs ⊢
     rw [hs]; rfl
    rw [this]; simp
  rw [Yfp hpos hgcd,hgcd]
  simp
 ·cases h
def Wk (x:AV):Prop:=x = .agg [.bool false,.nils,.bool false,.nils]∨∃ n d,x=avF n d
theorem Ys4 {l:List UInt8}(hl:l.length≤1000000000) (h:parseL l=none):∃ x,Wk x∧SpecV Tryz.prog Zqi [.str (bs l)] (.tup [x,.bool false]):=by
 unfold parseL at h
 split at h
 ·cases h
 ·rename_i hc
  by_cases hf:formL l
  ·refine ⟨avF (partsL l).1 (partsL l).2.1,.inr ⟨_,_,rfl⟩,Ycl hl (fun h=>absurd hf h) (fun _=>?_)⟩
   have hg:¬ ((partsL l).2.2=true→Int.gcd (partsL l).1 (partsL l).2.1=1):=fun h=>hc ⟨hf,h⟩
   have hs:(partsL l).2.2=true:=Classical.byContradiction fun h=>hg (fun h2=>absurd h2 h)
   have hg':¬ Int.gcd (partsL l).1 (partsL l).2.1=1:=fun h=>hg (fun _=>h)
   rw [hs]
   simp [hg']
  ·exact ⟨_,.inl rfl,Ycl hl (fun _=>rfl) (fun h=>absurd h hf)⟩
end GoAbs
namespace GoAbs
open Go Go.Proofs
theorem Z50 {n k:Nat}(h:n<2 ^ k) (hk:k≤300000000000):Tx n:=by
 have h1:n<4294967296 ^ (k / 32+1):=by
  have e:(4294967296:Nat)=2 ^ 32:=by decide
  rw [e, ← Nat.pow_mul]
  exact Nat.lt_of_lt_of_le h (Nat.pow_le_pow_right (by omega) (by omega))
 have h2:=Z5i h1
 unfold Tx
 omega
theorem Ysc {n:Nat}(h:Tx n):(decL n).length≤100000000000:=by
 unfold decL
 split
 ·simp
 ·rw [List.length_reverse]; exact h.len
theorem Yrp (n:Nat):1≤(decL n).length:=by
 unfold decL
 split
 ·simp
 ·rename_i h; rw [List.length_reverse,Zfu h]; simp
def numS (q:Rat):List UInt8:=(if q.num<0 then [45] else [])++decL q.num.natAbs++(if q.den=1 then [] else 47::decL q.den)
def NumOk (q:Rat):Prop:=(decL q.num.natAbs).length≤4000∧(q.den=1∨(decL q.den).length≤4000)
instance (q:Rat):Decidable (NumOk q):=by unfold NumOk; infer_instance
theorem Y7c {q:Rat}{d:Int}(hn:Tx q.num.natAbs) (hd:Tx q.den):SpecV Tryz.prog Ytj [avQ q,.int .i64 d] (.bool (decide (((decL q.num.natAbs).length:Int)≤d∧((decL q.den).length:Int)≤d))):=by
 refine Zad Ypt (by simp) ?_
 unfold Ymf
 simp only [go_sem,Zez,Z6s,Z8u]
 refine Zaa (Z3w hn) (by simp only [go_sem]) ?_
 rw [Yhw]
 have ht:=Z3w hd
 rw [Yhw] at ht
 by_cases h1:((decL q.num.natAbs).length:Int)≤d
 ·simp only [go_sem,Zam,h1,Zbq]
  refine Zaa ht (by simp only [go_sem]) ?_
  by_cases h2:((decL q.den).length:Int)≤d
  ·simp only [go_sem,Zam,h2]; simp
  ·simp only [go_sem,Zam,h2]; simp
 ·simp only [go_sem,Zam,h1]; simp
theorem Yyx {q:Rat}(hn:Tx q.num.natAbs) (hd:Tx q.den) (ho:(decL q.num.natAbs).length≤4000) {S:List UInt8}(hS:S=(if q.num<0 then [45] else [])++decL q.num.natAbs)
  {e:Nat→AV} (e1:e 1 = .ptr 0 0) (e4:e 4 = .str (bs S)) :
  T Tryz.prog 32 0 (.seq (.seq (.rg false Z1f) (.cond (.t 19) (.seq (.rg false Z1e) .ret) .skip)) (.seq (.rg false Z1a) (.seq (.seq (.rg false Zlv) (.cond (.t 27) (.seq (.rg false Zvy) .ret) .skip)) (.seq (.rg false Zwt) .ret))))
   ⟨e,[.cells [.bool (decide (q.num<0)),.sl (u32c (limbs q.num.natAbs)),.bool (decide ((q.den:Int)<0)),.sl (u32c (limbs (q.den:Int).natAbs))]]⟩
   (retQ [.tmp 2,.tmp 3] (if q.den=1∨(decL q.den).length≤4000 then .tup [.str (bs (numS q)),.int .i64 0] else .tup [.str (bs []),.int .i64 4])):=by
 refine T_W ?_
 have hSl:S.length≤4001:=by
  rw [hS,List.length_append]
  split <;> simp <;> omega
 simp only [go_sem,Z1f,e1]
 refine Zaa (Zh1 (a:=q.num) (b:=q.den) (den_pos' q)) (by simp only [go_sem]) ?_
 by_cases h1:(q.den:Int)=1
 ·have h1':q.den=1:=by omega
  rw [if_pos (.inl h1')]
  simp only [go_sem,decide_eq_true h1,Z1e,e4]
  rw [hS,numS,if_pos h1',List.append_nil]
 ·have h1':¬ q.den=1:=by omega
  have ht:=Z3w hd
  rw [Yhw] at ht
  simp only [go_sem,decide_eq_false h1,Z1a,e1,Zbq]
  refine Zaa ht (by simp only [go_sem]) ?_
  have hdl:=Ysc hd
  by_cases h2:(decL q.den).length≤4000
  ·have q2:¬ (4000:Int)<((decL q.den).length:Int):=by omega
   have hmax:IntKind.i64.max=9223372036854775807:=rfl
   have m1:((S.length+1:Nat):Int)≤IntKind.i64.max:=by rw [hmax]; omega
   have m2:(((S ++ [47]).length+(decL q.den).length:Nat):Int)≤IntKind.i64.max:=by rw [hmax]; simp; omega
   have c47:(⟨#[47]⟩:ByteArray)=bs [47]:=rfl
   rw [if_pos (.inr h2)]
   simp only [go_sem,Zlv,Zwt,Zam,q2,e4,c47,Zkl,m1,m2]
   rw [hS,numS,if_neg h1']
   simp
  ·have q2:(4000:Int)<((decL q.den).length:Int):=by omega
   rw [if_neg (fun h=>h.elim h1' h2)]
   simp only [go_sem,Zlv,Zvy,Zam,q2]
   first | exact ⟨trivial,trivial⟩ | rfl
theorem Xhd {q:Rat}(hn:Tx q.num.natAbs) (hd:Tx q.den):SpecV Tryz.prog Yy1 [avQ q] (if NumOk q then .tup [.str (bs (numS q)),.int .i64 0] else .tup [.str (bs []),.int .i64 4]):=by
 refine Zba Ysr (by simp) (Zbg 3 rfl ?_)
 unfold Yrv
 simp only [go_sem,Zez,Ydv,Ycy]
 refine Zaa (Z3w hn) (by simp only [go_sem]) ?_
 rw [Yhw]
 have hnl:=Ysc hn
 by_cases ho:(decL q.num.natAbs).length≤4000
 ·have q1:¬ (4000:Int)<((decL q.num.natAbs).length:Int):=by omega
  have hk:NumOk q↔(q.den=1∨(decL q.den).length≤4000):=⟨fun h=>h.2,fun h=>⟨ho,h⟩⟩
  simp only [hk]
  have c45:(⟨#[45]⟩:ByteArray)=bs [45]:=rfl
  by_cases hs:q.num<0
  ·have hmax:IntKind.i64.max=9223372036854775807:=rfl
   have m1:((1+(decL q.num.natAbs).length:Nat):Int)≤IntKind.i64.max:=by rw [hmax]; omega
   simp only [go_sem,Zox,Z03,Z0y,Zam,q1,decide_eq_true hs,c45,Zkl,m1]
   have:=fun e e1 e4=>Yyx (q:=q) hn hd ho (S:=45::decL q.num.natAbs) (by rw [if_pos hs]; rfl) (e:=e) e1 e4
   rw [decide_eq_true hs] at this
   refine this _ ?_ ?_ <;> simp only [go_sem]
  ·simp only [go_sem,Zox,Z03,Z0y,Zam,q1,decide_eq_false hs]
   have:=fun e e1 e4=>Yyx (q:=q) hn hd ho (S:=decL q.num.natAbs) (by rw [if_neg hs]; rfl) (e:=e) e1 e4
   rw [decide_eq_false hs] at this
   refine this _ ?_ ?_ <;> simp only [go_sem]
 ·have q1:(4000:Int)<((decL q.num.natAbs).length:Int):=by omega
  have hk:¬ NumOk q:=fun h=>ho h.1
  rw [if_neg hk]
  simp only [go_sem,Zox,Ya6,Zam,q1]
  first | exact ⟨trivial,trivial⟩ | rfl
end GoAbs
namespace GoAbs
open Go Go.Proofs
def Zn6:List IOp := [oI 4 (.mv (.c .nils)) 0]
def Znl:List IOp := [mI 9 1 0,oI 10 (.bin .lss (.t 9) (cI 0)) 0]
def Z5j:List IOp := [oI 11 (.mki 9 (.c (.str ⟨#[99,97,110,110,111,116,32,98,101,32,110,101,103,97,116,105,118,101]⟩))) 0,⟨none,.bad,0,[],[],none⟩]
def Znp:List IOp := [mI 13 0 0,oI 14 (.len (.t 13)) 0,oI 15 (.cvi .u64 (.t 14)) 0,mI 16 1 0,oI 17 (.cvi .u64 (.t 16)) 0,oI 18 (.call 142 [.t 15,.t 17]) 0,mI 12 18 0,eI 19 0 12 0,eI 20 1 12 0,mI 5 19 0,mI 6 20 0]
def Znn:List IOp := [mI 21 5 0,oI 22 (.bin .gtr (.t 21) (.c (.int .u64 0))) 0,mI 23 22 0,gI 24 (.mv (.t 6)) 0 23 false,gI 25 (.bin .gtr (.t 24) (.c (.int .u64 9223372036854775807))) 0 23 false,oI 26 (.pick (.t 23) (.c (.bool true)) (.t 25)) 0]
def Z51:List IOp := [oI 27 (.mki 9 (.c (.str ⟨#[116,104,101,32,114,101,115,117,108,116,32,111,102,32,40,108,101,110,40,120,41,32,42,32,99,111,117,110,116,41,32,111,118,101,114,102,108,111,119,115]⟩))) 0,⟨none,.bad,0,[],[],none⟩]
def Znj:List IOp := [mI 28 6 0,oI 29 (.cvi .i64 (.t 28)) 0,oI 30 (.mks (some 4) 64 [.bool false,.nils,.bool false,.nils] (.t 29) (.t 29)) 0,mI 7 30 1]
def Znz:List IOp := [mI 31 7 0,mI 32 0 0,oI 33 (.cpy 4 (.t 31) (.t 32)) 0,mI 8 33 0]
def Zg6:List IOp := [mI 34 8 0,mI 35 7 0,oI 36 (.len (.t 35)) 0,oI 37 (.bin .lss (.t 34) (.t 36)) 0]
def Zfw:List IOp := [mI 38 8 0,mI 39 7 0,mI 40 8 0,oI 41 (.slc 4 (.t 39) (some (.t 40)) none) 0,mI 42 7 0,mI 43 8 0,oI 44 (.slc 4 (.t 42) none (some (.t 43))) 0,oI 45 (.cpy 4 (.t 41) (.t 44)) 0,oI 46 (.bin .add (.t 38) (.t 45)) 0,mI 8 46 0]
@[go_sem ↓] theorem Zw6 : autoK Zfw = (0, 1) := by kernel_rfl
@[go_sem] theorem Ylh : autoK [mI 38 8 0, mI 39 7 0, mI 40 8 0, oI 41 (.slc 4 (.t 39) (some (.t 40)) none) 0, mI 42 7 0, mI 43 8 0, oI 44 (.slc 4 (.t 42) none (some (.t 43))) 0, oI 45 (.cpy 4 (.t 41) (.t 44)) 0, oI 46 (.bin .add (.t 38) (.t 45)) 0, mI 8 46 0] = (0, 1) := Zw6
def Zob:CC := .seq (.seq (.rg false Zg6) (.cond (.t 37) .skip (.exit 0))) (.block 1 (.rg true Zfw))
def Zl6:List IOp := [mI 47 7 0,mI 4 47 0]
def Zzi:CC := .seq (.rg false Zn6) (.seq (.seq (.rg false Znl) (.cond (.t 10) (.rg false Z5j) .skip)) (.seq (.rg false Znp) (.seq (.seq (.rg false Znn) (.cond (.t 26) (.rg false Z51) .skip)) (.seq (.rg false Znj) (.seq (.rg false Znz) (.seq (.block 0 (.loop Zob)) (.seq (.rg false Zl6) .ret)))))))
abbrev Zs8:Nat:=124
theorem Z9k:fnOk Tryz.prog 124=some (48,Zzi,[.tmp 4]):=by kernel_rfl
def Z8n:List IOp := [oI 4 (.mv (.c (.int .u64 0))) 0,oI 5 (.mv (.c (.int .u64 0))) 0]
def Ykc:List IOp := [mI 11 0 0,oI 12 (.cvi .u32 (.t 11)) 0,mI 13 1 0,oI 14 (.cvi .u32 (.t 13)) 0,oI 15 (.call 149 [.t 12,.t 14]) 0,mI 10 15 0,eI 16 0 10 0,eI 17 1 10 0,mI 6 16 0,mI 7 17 0]
def Yk1:List IOp := [mI 18 6 0,oI 19 (.cvi .u64 (.t 18)) 0,mI 20 7 0,oI 21 (.cvi .u64 (.t 20)) 0,mI 4 19 0,mI 5 21 0]
def Z72:List IOp := [mI 23 0 0,mI 24 1 0,oI 25 (.call 150 [.t 23,.t 24]) 0,mI 22 25 0,eI 26 0 22 0,eI 27 1 22 0,mI 8 26 0,mI 9 27 0]
def Z9c:List IOp := [mI 28 8 0,mI 29 9 0,mI 4 28 0,mI 5 29 0]
def Yjq:CC := .seq (.rg false Z8n) (.seq (.cond (.c (.bool false)) (.seq (.rg false Ykc) (.seq (.rg false Yk1) .ret)) .skip) (.seq (.rg false Z72) (.seq (.rg false Z9c) .ret)))
abbrev Yt2:Nat:=142
theorem Yoa:fnOk Tryz.prog 142=some (30,Yjq,[.tmp 4,.tmp 5]):=by kernel_rfl
def Zxd:List IOp := [oI 4 (.mv (.c (.int .u64 0))) 0,oI 5 (.mv (.c (.int .u64 0))) 0]
def Zzv:List IOp := [mI 14 0 0,oI 15 (.bin .and (.t 14) (.c (.int .u64 4294967295))) 0,mI 6 15 0]
def Zy5:List IOp := [mI 16 0 0,oI 17 (.bin .shr (.t 16) (.c (.int .u64 32))) 0,mI 7 17 0]
def Zzs:List IOp := [mI 18 1 0,oI 19 (.bin .and (.t 18) (.c (.int .u64 4294967295))) 0,mI 8 19 0]
def Zzc:List IOp := [mI 20 1 0,oI 21 (.bin .shr (.t 20) (.c (.int .u64 32))) 0,mI 9 21 0]
def Zx3:List IOp := [mI 22 6 0,mI 23 8 0,oI 24 (.bin .mul (.t 22) (.t 23)) 0,mI 10 24 0]
def Zyf:List IOp := [mI 25 7 0,mI 26 8 0,oI 27 (.bin .mul (.t 25) (.t 26)) 0,mI 28 10 0,oI 29 (.bin .shr (.t 28) (.c (.int .u64 32))) 0,oI 30 (.bin .add (.t 27) (.t 29)) 0,mI 11 30 0]
def Zx0:List IOp := [mI 31 11 0,oI 32 (.bin .and (.t 31) (.c (.int .u64 4294967295))) 0,mI 12 32 0]
def Zzz:List IOp := [mI 33 11 0,oI 34 (.bin .shr (.t 33) (.c (.int .u64 32))) 0,mI 13 34 0]
def Zv9:List IOp := [mI 35 12 0,mI 36 6 0,mI 37 9 0,oI 38 (.bin .mul (.t 36) (.t 37)) 0,oI 39 (.bin .add (.t 35) (.t 38)) 0,mI 12 39 0]
def Zul:List IOp := [mI 40 7 0,mI 41 9 0,oI 42 (.bin .mul (.t 40) (.t 41)) 0,mI 43 13 0,oI 44 (.bin .add (.t 42) (.t 43)) 0,mI 45 12 0,oI 46 (.bin .shr (.t 45) (.c (.int .u64 32))) 0,oI 47 (.bin .add (.t 44) (.t 46)) 0,mI 4 47 0]
def Ztm:List IOp := [mI 48 0 0,mI 49 1 0,oI 50 (.bin .mul (.t 48) (.t 49)) 0,mI 5 50 0]
def Ycb:CC := .seq (.rg false Zxd) (.seq (.rg false Zzv) (.seq (.rg false Zy5) (.seq (.rg false Zzs) (.seq (.rg false Zzc) (.seq (.rg false Zx3) (.seq (.rg false Zyf) (.seq (.rg false Zx0) (.seq (.rg false Zzz) (.seq (.rg false Zv9) (.seq (.rg false Zul) (.seq (.rg false Ztm) .ret)))))))))))
abbrev Ykv:Nat:=150
theorem Yjd:fnOk Tryz.prog 150=some (51,Ycb,[.tmp 4,.tmp 5]):=by kernel_rfl
def Zuc:List IOp := [oI 4 (.mv (.c .nils)) 0]
def Ztf:List IOp := [mI 7 0 0,oI 8 (.mks none 24 [.nils] (.t 7) (.t 7)) 0,mI 5 8 1]
def Zth:List IOp := [mI 9 5 0,oI 10 (.len (.t 9)) 0,oI 11 (.mv (cI 0)) 0]
def Zlg:List IOp := [oI 12 (.bin .lss (.t 11) (.t 10)) 0]
def Zun:List IOp := [mI 13 11 0,mI 6 13 0]
def Zvs:List IOp := [mI 14 5 0,mI 15 6 0,oI 16 (.call 49 [cI 0]) 0,oI 17 (.bsl (some 4) 1 [.bool false,.nils,.bool false,.nils] [(0,.t 16)]) 0,mI 18 1 1,oI 19 (.call 124 [.t 17,.t 18]) 1,xI 20 1 14 15 1,⟨none,.st 1 (.t 20) (.t 19),1,[],[],none⟩]
def Zvg:List IOp := [oI 21 (.bin .add (.t 11) (cI 1)) 0,mI 11 21 0]
def Zvv:CC := .seq (.rg false Zlg) (.seq (.cond (.t 12) .skip (.exit 0)) (.seq (.block 1 (.seq (.rg false Zun) (.rg false Zvs))) (.rg false Zvg)))
def Zve:List IOp := [mI 22 5 0,mI 4 22 0]
def Z8d:CC := .seq (.rg false Zuc) (.seq (.rg false Ztf) (.seq (.seq (.rg false Zth) (.block 0 (.loop Zvv))) (.seq (.rg false Zve) .ret)))
abbrev Yit:Nat:=104
theorem Yem:fnOk Tryz.prog 104=some (23,Z8d,[.tmp 4]):=by kernel_rfl
def Zzp:List IOp := [oI 7 (.box (.t 3)) 0]
def Zmu:List IOp := [mI 8 0 0,mI 9 1 0,xI 10 1 8 9 0,lI 11 10 0,mI 12 2 0,mI 13 0 0,mI 14 1 0,xI 15 1 13 14 0,lI 16 15 0,mI 17 2 0,xI 18 4 16 17 0,lJ 19 4 18 0,lJ 20 4 7 0,oI 21 (.call 82 [.t 19,.t 20]) 0,xI 22 4 11 12 0,⟨none,.st 4 (.t 22) (.t 21),0,[],[],none⟩]
@[go_sem ↓] theorem Z9o : autoK Zmu = (0, 1) := by kernel_rfl
@[go_sem] theorem Yta : autoK [mI 8 0 0, mI 9 1 0, xI 10 1 8 9 0, lI 11 10 0, mI 12 2 0, mI 13 0 0, mI 14 1 0, xI 15 1 13 14 0, lI 16 15 0, mI 17 2 0, xI 18 4 16 17 0, lJ 19 4 18 0, lJ 20 4 7 0, oI 21 (.call 82 [.t 19, .t 20]) 0, xI 22 4 11 12 0, ⟨none, .st 4 (.t 22) (.t 21), 0, [], [], none⟩] = (0, 1) := Z9o
def Yak:CC := .seq (.rg false Zzp) (.rg true Zmu)
abbrev Zvt:Nat:=105
theorem Yhl:fnOk Tryz.prog 105=some (23,Yak,[]):=by kernel_rfl
def Zln:List IOp := [oI 2 (.alloc [.bool false,.nils,.bool false,.nils]) 0]
def Zkn:List IOp := [oI 9 (.call 49 [cI 1]) 0,oI 3 (.alloc [.bool false,.nils,.bool false,.nils]) 0,⟨none,.st 4 (.t 3) (.t 9),1,[],[],none⟩]
def Zkm:List IOp := [mI 10 0 0,oI 11 (.len (.t 10)) 0,oI 12 (.mv (cI 0)) 0]
def Ze2:List IOp := [oI 13 (.bin .lss (.t 12) (.t 11)) 0]
def Zj2:List IOp := [mI 14 12 0,mI 4 14 0]
def Zld:List IOp := [mI 15 4 0,mI 5 15 0]
def Zcf:List IOp := [mI 16 5 0,mI 17 0 0,oI 18 (.len (.t 17)) 0,oI 19 (.bin .lss (.t 16) (.t 18)) 0,mI 20 19 0,gI 21 (.mv (.t 0)) 0 20 true,gI 22 (.mv (.t 5)) 0 20 true,gI 23 (.idx 1 (.t 21) (.t 22)) 0 20 true,gI 24 (.ld none (.t 23)) 0 20 true,gI 25 (.mv (.t 4)) 0 20 true,gI 26 (.idx 4 (.t 24) (.t 25)) 0 20 true,gI 27 (.ld (some 4) (.t 26)) 0 20 true,gI 28 (.call 80 [.t 27]) 0 20 true,gI 29 (.bin .eql (.t 28) (cI 0)) 0 20 true,oI 30 (.pick (.t 20) (.t 29) (.c (.bool false))) 0]
def Zlm:List IOp := [mI 31 5 0,oI 32 (.bin .add (.t 31) (cI 1)) 0,mI 5 32 0]
def Zbs:CC := .seq (.seq (.rg false Zcf) (.cond (.t 30) .skip (.exit 2))) (.block 3 (.rg false Zlm))
def Zeu:List IOp := [mI 33 5 0,mI 34 0 0,oI 35 (.len (.t 34)) 0,oI 36 (.bin .eql (.t 33) (.t 35)) 0]
def Zi9:List IOp := [oI 37 (.call 49 [cI 0]) 0,⟨none,.st 4 (.t 2) (.t 37),0,[],[],none⟩]
def Zje:List IOp := [mI 38 5 0,mI 39 4 0,oI 40 (.bin .neq (.t 38) (.t 39)) 0]
def Zi1:List IOp := [mI 41 0 0,mI 42 5 0,mI 43 0 0,mI 44 4 0,mI 45 0 0,mI 46 4 0,xI 47 1 45 46 0,lI 48 47 0,mI 49 0 0,mI 50 5 0,xI 51 1 49 50 0,lI 52 51 0,xI 53 1 41 42 0,⟨none,.st 1 (.t 53) (.t 48),0,[],[],none⟩,xI 54 1 43 44 0,⟨none,.st 1 (.t 54) (.t 52),0,[],[],none⟩]
@[go_sem ↓] theorem Zsq : autoK Zi1 = (0, 1) := by kernel_rfl
@[go_sem] theorem Yi8 : autoK [mI 41 0 0, mI 42 5 0, mI 43 0 0, mI 44 4 0, mI 45 0 0, mI 46 4 0, xI 47 1 45 46 0, lI 48 47 0, mI 49 0 0, mI 50 5 0, xI 51 1 49 50 0, lI 52 51 0, xI 53 1 41 42 0, ⟨none, .st 1 (.t 53) (.t 48), 0, [], [], none⟩, xI 54 1 43 44 0, ⟨none, .st 1 (.t 54) (.t 52), 0, [], [], none⟩] = (0, 1) := Zsq
def Zw3:List IOp := [lJ 55 4 3 0,oI 56 (.call 106 [.t 55]) 0,⟨none,.st 4 (.t 3) (.t 56),0,[],[],none⟩]
def Zdm:List IOp := [lJ 57 4 3 0,mI 58 0 0,mI 59 4 0,xI 60 1 58 59 0,lI 61 60 0,mI 62 4 0,xI 63 4 61 62 0,lJ 64 4 63 0,oI 65 (.callw 84 [.t 57,.t 64]) 0,⟨none,.st 4 (.t 3) (.t 65),0,[],[],none⟩]
@[go_sem ↓] theorem Zsa : autoK Zdm = (0, 1) := by kernel_rfl
@[go_sem] theorem Yh0 : autoK [lJ 57 4 3 0, mI 58 0 0, mI 59 4 0, xI 60 1 58 59 0, lI 61 60 0, mI 62 4 0, xI 63 4 61 62 0, lJ 64 4 63 0, oI 65 (.callw 84 [.t 57, .t 64]) 0, ⟨none, .st 4 (.t 3) (.t 65), 0, [], [], none⟩] = (0, 1) := Zsa
def Zi0:List IOp := [mI 66 4 0,oI 67 (.bin .add (.t 66) (cI 1)) 0,mI 6 67 0]
def Zdk:List IOp := [mI 68 6 0,mI 69 0 0,oI 70 (.len (.t 69)) 0,oI 71 (.bin .lss (.t 68) (.t 70)) 0]
def Zja:List IOp := [mI 74 0 0,mI 75 6 0,xI 76 1 74 75 0,lI 77 76 0,mI 78 4 0,xI 79 4 77 78 0,lJ 80 4 79 0,oI 81 (.call 80 [.t 80]) 0,oI 82 (.bin .eql (.t 81) (cI 0)) 0]
def Zdi:List IOp := [mI 83 0 0,mI 84 6 0,xI 85 1 83 84 0,lI 86 85 0,mI 87 4 0,xI 88 4 86 87 0,lJ 89 4 88 0,mI 90 0 0,mI 91 4 0,xI 92 1 90 91 0,lI 93 92 0,mI 94 4 0,xI 95 4 93 94 0,lJ 96 4 95 0,oI 97 (.call 128 [.t 89,.t 96]) 0,oI 7 (.alloc [.bool false,.nils,.bool false,.nils]) 0,⟨none,.st 4 (.t 7) (.t 97),1,[0],[],none⟩]
@[go_sem ↓] theorem Zsj : autoK Zdi = (1, 1) := by kernel_rfl
@[go_sem] theorem Yha : autoK [mI 83 0 0, mI 84 6 0, xI 85 1 83 84 0, lI 86 85 0, mI 87 4 0, xI 88 4 86 87 0, lJ 89 4 88 0, mI 90 0 0, mI 91 4 0, xI 92 1 90 91 0, lI 93 92 0, mI 94 4 0, xI 95 4 93 94 0, lJ 96 4 95 0, oI 97 (.call 128 [.t 89, .t 96]) 0, oI 7 (.alloc [.bool false, .nils, .bool false, .nils]) 0, ⟨none, .st 4 (.t 7) (.t 97), 1, [0], [], none⟩] = (1, 1) := Zsj
def Zix:List IOp := [mI 98 4 0,mI 8 98 0]
def Zdt:List IOp := [mI 99 8 0,mI 100 0 0,mI 101 6 0,xI 102 1 100 101 0,lI 103 102 0,oI 104 (.len (.t 103)) 0,oI 105 (.bin .lss (.t 99) (.t 104)) 0]
def Zdg:List IOp := [mI 108 0 0,mI 109 6 0,xI 110 1 108 109 0,lI 111 110 0,mI 112 8 0,mI 113 0 0,mI 114 6 0,xI 115 1 113 114 0,lI 116 115 0,mI 117 8 0,xI 118 4 116 117 0,lJ 119 4 118 0,lJ 120 4 7 0,mI 121 0 0,mI 122 4 0,xI 123 1 121 122 0,lI 124 123 0,mI 125 8 0,xI 126 4 124 125 0,lJ 127 4 126 0,oI 128 (.call 84 [.t 120,.t 127]) 0,oI 129 (.call 127 [.t 119,.t 128]) 0,xI 130 4 111 112 0,⟨none,.st 4 (.t 130) (.t 129),0,[],[],none⟩]
@[go_sem ↓] theorem Zsg : autoK Zdg = (0, 1) := by kernel_rfl
@[go_sem] theorem Yje : autoK [mI 108 0 0, mI 109 6 0, xI 110 1 108 109 0, lI 111 110 0, mI 112 8 0, mI 113 0 0, mI 114 6 0, xI 115 1 113 114 0, lI 116 115 0, mI 117 8 0, xI 118 4 116 117 0, lJ 119 4 118 0, lJ 120 4 7 0, mI 121 0 0, mI 122 4 0, xI 123 1 121 122 0, lI 124 123 0, mI 125 8 0, xI 126 4 124 125 0, lJ 127 4 126 0, oI 128 (.call 84 [.t 120, .t 127]) 0, oI 129 (.call 127 [.t 119, .t 128]) 0, xI 130 4 111 112 0, ⟨none, .st 4 (.t 130) (.t 129), 0, [], [], none⟩] = (0, 1) := Zsg
def Zi3:List IOp := [mI 106 8 0,oI 107 (.bin .add (.t 106) (cI 1)) 0,mI 8 107 0]
def Ze4:CC := .seq (.seq (.rg false Zdt) (.cond (.t 105) .skip (.exit 6))) (.seq (.block 7 (.rg true Zdg)) (.rg false Zi3))
def Zdj:List IOp := [mI 72 6 0,oI 73 (.bin .add (.t 72) (cI 1)) 0,mI 6 73 0]
def Zex:CC := .seq (.seq (.rg false Zdk) (.cond (.t 71) .skip (.exit 4))) (.seq (.block 5 (.seq (.seq (.rg false Zja) (.cond (.t 82) (.exit 5) .skip)) (.seq (.rg true Zdi) (.seq (.rg false Zix) (.block 6 (.loop Ze4)))))) (.rg false Zdj))
def Zi2:List IOp := [oI 131 (.bin .add (.t 12) (cI 1)) 0,mI 12 131 0]
def Ze8:CC := .seq (.rg false Ze2) (.seq (.cond (.t 13) .skip (.exit 0)) (.seq (.block 1 (.seq (.rg false Zj2) (.seq (.rg false Zld) (.seq (.block 2 (.loop Zbs)) (.seq (.seq (.rg false Zeu) (.cond (.t 36) (.seq (.rg false Zi9) .ret) .skip)) (.seq (.seq (.rg false Zje) (.cond (.t 40) (.seq (.rg true Zi1) (.rg false Zw3)) .skip)) (.seq (.rg true Zdm) (.seq (.rg false Zi0) (.block 4 (.loop Zex)))))))))) (.rg false Zi2)))
def Ziy:List IOp := [lJ 132 4 3 0,⟨none,.st 4 (.t 2) (.t 132),0,[],[],none⟩]
def Zrc:CC := .seq (.rg false Zln) (.seq (.rg false Zkn) (.seq (.seq (.rg false Zkm) (.block 0 (.loop Ze8))) (.seq (.rg false Ziy) .ret)))
abbrev Zn2:Nat:=126
theorem Z2v:fnOk Tryz.prog 126=some (133,Zrc,[.cell 2 (some 4)]):=by kernel_rfl

end GoAbs
namespace GoAbs
open Go Go.Proofs
theorem Yxx {n:Nat}(hn:n<4294967296):SpecV Tryz.prog Ykv [.int .u64 1,.int .u64 (n:Int)] (.tup [.int .u64 0,.int .u64 (n:Int)]):=by
 refine Zad Yjd (by simp) ?_
 unfold Ycb
 have h32:(32:Int)=((32:Nat):Int):=rfl
 have a1:andI .u64 1 4294967295=1:=by have:=and64 (a:=1) (b:=4294967295) (by omega) (by omega); simpa using this
 have a2:andI .u64 (n:Int) 4294967295=n:=by
  have:=and64 (a:=n) (b:=4294967295) (by omega) (by omega)
  rw [show ((4294967295:Nat):Int)=4294967295 from rfl] at this
  rw [this,show (4294967295:Nat)=2 ^ 32 - 1 from rfl,Nat.and_two_pow_sub_one_eq_mod,Nat.mod_eq_of_lt (by simpa using hn)]
 have a0:andI .u64 0 4294967295=0:=by have:=and64 (a:=0) (b:=4294967295) (by omega) (by omega); simpa using this
 have s1:shrI .u64 1 32=0:=by
  have:=Ze7 .u64 1 32 (by decide)
  rw [h32]; simpa using this
 have s2:shrI .u64 (n:Int) 32=0:=by
  rw [h32,Ze7 .u64 n 32 (by decide),Nat.div_eq_of_lt (by simpa using hn)]; rfl
 have s0:shrI .u64 0 32=0:=by
  have:=Ze7 .u64 0 32 (by decide)
  rw [h32]; simpa using this
 have w0:IntKind.u64.wrap 0=0:=Za5 (by omega) (by omega)
 have wn:IntKind.u64.wrap (n:Int)=n:=Za5 (by omega) (by omega)
 have p32:(0:Int)≤32:=by omega
 have m1:(1:Int)*n=n:=Int.one_mul _
 have m2:(0:Int)*n=0:=Int.zero_mul _
 simp only [go_sem,Zxd,Zzv,Zy5,Zzs,Zzc,Zx3,Zyf,Zx0,Zzz,Zv9,Zul,Ztm,a0,a1,a2,s0,s1,s2,w0,wn,p32,m1,m2,Int.mul_zero,Int.add_zero]
theorem mul_one {n:Nat}(hn:n<4294967296):SpecV Tryz.prog Yt2 [.int .u64 1,.int .u64 (n:Int)] (.tup [.int .u64 0,.int .u64 (n:Int)]):=by
 refine Zad Yoa (by simp) ?_
 unfold Yjq
 simp only [go_sem,Z8n,Z72]
 refine Zaa (Yxx hn) (by simp only [go_sem]) ?_
 simp only [go_sem,Z9c]
def rows (c:Nat) (x:List AV):List AV:=(List.replicate c x).flatten
theorem Zft {c:Nat}{x:List AV}(hx:x.length=4):(rows c x).length=c*4:=by
 unfold rows
 induction c with
 | zero=>rfl
 | succ c ih=>rw [List.replicate_succ,List.flatten_cons,List.length_append,ih,hx]; omega
theorem Z2z {a b:Nat}{x:List AV}:rows (a+b) x=rows a x++rows b x:=by
 unfold rows
 rw [← List.replicate_append_replicate,List.flatten_append]
theorem Yx4 {c k n:Nat}{x z:List AV}(hx:x.length=4) (hz:z.length=4) (hk:k≤c) (hkn:c+k≤n) :
  (rows c x++rows (n - c) z).take (c*4)++((rows c x++rows (n - c) z).take (c*4)).take (k*4)++(rows c x++rows (n - c) z).drop (c*4+((((rows c x++rows (n - c) z).take (c*4)).take (k*4)).length))=rows (c+k) x++rows (n - (c+k)) z:=by
 have h1:(rows c x++rows (n - c) z).take (c*4)=rows c x:=by rw [← Zft hx,List.take_left]
 have h2:(rows c x).take (k*4)=rows k x:=by
  have:rows c x=rows k x++rows (c - k) x:=by rw [← Z2z]; congr 1; omega
  rw [this, ← Zft hx (c:=k),List.take_left]
 rw [h1,h2,Zft hx]
 have h3:(rows c x++rows (n - c) z).drop (c*4+k*4)=rows (n - (c+k)) z:=by
  rw [← List.drop_drop]
  have:(rows c x++rows (n - c) z).drop (c*4)=rows (n - c) z:=by rw [← Zft hx,List.drop_left]
  rw [this]
  have:rows (n - c) z=rows k z++rows (n - (c+k)) z:=by rw [← Z2z]; congr 1; omega
  rw [this, ← Zft hz (c:=k),List.drop_left]
 rw [h3,Z2z]
theorem Ytq {n:Nat}{x:List AV}(hn:1≤n) (hnl:n≤1000000) (hx:x.length=4) :
  SpecR Tryz.prog Zs8 [] [.sl [.agg x],.int .i64 (n:Int)] (.osl (some 4) 0 0 n) [.cells (rows n x)]:=by
 have hm:Tryz.prog.follows .mixedOrders=true:=by kernel_rfl
 refine Z05 Z9k (by simp) ?_
 unfold Zzi
 have q0:¬ (n:Int)<0:=by omega
 have e1:IntKind.u64.wrap ((1:Nat):Int)=1:=Za5 (by omega) (by omega)
 have e1':IntKind.u64.wrap 1=1:=Za5 (by omega) (by omega)
 have e2:IntKind.u64.wrap (n:Int)=n:=Za5 (by omega) (by omega)
 have q00:¬ (0:Int)<0:=by omega
 have q1:¬ (9223372036854775807:Int)<(n:Int):=by omega
 have e3:IntKind.i64.wrap (n:Int)=n:=Zac (by omega) (by omega)
 simp only [go_sem,Zn6,Znl,Znp,q0,e1,e1',e2]
 refine Zaa (mul_one (n:=n) (by omega)) (by simp only [go_sem]) ?_
 have p0:(0:Int)≤(n:Int):=by omega
 have p1:(n:Int)≤n:=Int.le_refl _
 have p2:(64:Int)*(n:Int)≤281474976710656:=by omega
 have p4:(0:Nat)<4:=by omega
 have hmin:min 1 n=1:=by omega
 simp only [go_sem,Znn,Znj,Znz,q00,q1,e3,p0,p1,p2,hx]
 have hzl:(rows n [AV.bool false,AV.nils,AV.bool false,AV.nils]).length=n*4:=Zft rfl
 refine ⟨by omega,fun y hy=>by subst hy; exact hx,by show n*4≤(rows n _).length; omega,?_⟩
 refine Zaf (fun c:Nat=>⟨envL [(7,.osl (some 4) 0 0 n),(8,.int .i64 (c:Int))],[.cells (rows c x++rows (n - c) [.bool false,.nils,.bool false,.nils])]⟩)
  (fun c=>1≤c∧c≤n) (fun c=>n - c) 1 ⟨by omega,hn⟩ ?_ (fun c hI N hN=>?_)
 ·have hfill:fillA (List.replicate n [AV.bool false,.nils,.bool false,.nils]).flatten [(0,.agg ((x ++ []).take (min 1 n*4)))]=rows 1 x++rows (n - 1) [.bool false,.nils,.bool false,.nils]:=by
   rw [hmin,List.append_nil]
   simp only [fillA,AV.cells]
   have ht:x.take (1*4)=x:=List.take_of_length_le (by omega)
   rw [ht,hx,List.take_zero,List.nil_append]
   have h1:(List.replicate n [AV.bool false,.nils,.bool false,.nils]).flatten=rows 1 [.bool false,.nils,.bool false,.nils]++rows (n - 1) [.bool false,.nils,.bool false,.nils]:=by
    rw [← Z2z]; show rows n _=_; congr 1; omega
   rw [h1]
   simp [rows]
  refine Zbz (Zab [(7,.osl (some 4) 0 0 n),(8,.int .i64 ((1:Nat):Int))] (by simp only [go_sem,hmin])) ?_
  rw [← hfill]
  simp only [fillA,Ymw,List.append_nil,List.take_zero,List.nil_append,Nat.zero_add,List.flatMap_cons,List.flatMap_nil]
 ·obtain ⟨h1,h2⟩:=hI
  unfold Zob
  have hl:(rows c x++rows (n - c) [AV.bool false,.nils,.bool false,.nils]).length=n*4:=by rw [List.length_append,Zft hx,Zft rfl, ← Nat.add_mul]; congr 1; omega
  by_cases hc:c<n
  ·have r1:(c:Int)<(n:Int):=by omega
   have r0:(0:Int)≤(c:Int):=by omega
   have e5:IntKind.i64.wrap ((c:Int)+((min c (n - c):Nat):Int))=((c+min c (n - c):Nat):Int):=by rw [Zac (by omega) (by omega)]; omega
   have e5':IntKind.i64.wrap (((min c (n - c):Nat):Int)+(c:Int))=((c+min c (n - c):Nat):Int):=by rw [Zac (by omega) (by omega)]; omega
   have r2:c≤n:=h2
   have r3:¬ c=0:=by omega
   simp only [go_sem,Zg6,Zfw,r1,r0,r2,r3,hm,Nat.le_refl,Nat.zero_le,Nat.sub_zero,e5,e5',hl]
   have hk:min c (n - c)≤c:=Nat.min_le_left _ _
   have hkn:c+min c (n - c)≤n:=by omega
   have hst:=Yx4 (z := [.bool false,.nils,.bool false,.nils]) hx rfl hk hkn
   refine ⟨by omega,by omega,?_⟩
   rw [hst]
   exact hN (c+min c (n - c)) _ ⟨by omega,hkn⟩ (by omega) (Zab _ (by simp only [go_sem]))
  ·have hcn:c=n:=by omega
   subst hcn
   have r1:¬ (c:Int)<(c:Int):=by omega
   simp only [go_sem,Zg6,Zl6,r1,Nat.sub_self]
   simp [rows]
end GoAbs
