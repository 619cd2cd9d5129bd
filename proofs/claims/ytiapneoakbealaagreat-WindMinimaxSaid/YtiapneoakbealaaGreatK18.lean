/- Lemmas for the claim (contracts of the functions that it reaches, and what they compute), without conditions. -/
import Derived.Test.YtiapneoakbealaaGreatK17
import Derived.Test.YtiapneoakbealaaGreatProg
import Derived.KernelRfl
set_option linter.unusedVariables false
set_option linter.unusedSimpArgs false
set_option maxRecDepth 10000
set_option maxHeartbeats 2000000
namespace GoAbs
open Go Go.Proofs
def downL (l:List Nat) (n:Nat):Nat→List Nat
 | 0 => []
 | i+1=>downL l n i ++ [(l.getD (i+1) 0*4294967296+l.getD i 0) / 2 ^ n % 4294967296]
theorem Zgi (l:List Nat) (n:Nat):∀ i,(downL l n i).length=i
 | 0=>rfl
 | i+1=>by simp [downL,Zgi l n i]
theorem Yq1 (l:List Nat) (n:Nat):∀ i,Ok32 (downL l n i)
 | 0=>fun x hx=>by simp [downL] at hx
 | i+1=>(Yq1 l n i).append (fun x hx=>by rw [List.mem_singleton] at hx; subst hx; exact Nat.mod_lt _ (by omega))
theorem Y3p {p B D d V X:Nat}(h:D+p*(d+B*V)=X):D+p*(d+B*0)+p*B*V=X:=by
 rw [← h,Nat.mul_zero,Nat.add_zero,Nat.mul_add,Nat.mul_assoc,Nat.add_assoc]
theorem Ykf {l:List Nat}{n:Nat}(hok:Ok32 l) (hn:n<32):∀ i,i≤l.length→val (downL l n i)+4294967296 ^ i*(val (l.drop i) / 2 ^ n)=val l / 2 ^ n
 | 0,_=>by simp [downL,val]
 | i+1,hi=>by
  have ih:=Ykf hok hn i (by omega)
  have g:=getElem?_getD (show i<l.length by omega)
  rw [Yyo g hok hn] at ih
  rw [downL,Zbw,Zgi,Nat.pow_succ]
  generalize (l.getD (i+1) 0*4294967296+l.getD i 0) / 2 ^ n % 4294967296=d at ih ⊢
  have hv1:val [d]=d+4294967296*0:=rfl
  rw [hv1]
  exact Y3p ih
theorem Yxo {a:List Nat}{n:Nat}(ha:Ok32 a) (hla:a.length≤549755813888) (hn:n<32) :
  SpecV Tryz.prog Yss [.sl (u32c a),.int .i64 (n:Int)] (.sl (u32c (limbs (val a / 2 ^ n)))):=by
 refine Zad Yn8 (by simp) ?_
 unfold Yll
 simp only [go_sem,Z6r,Z7e,Z8w,Zae,Zp1]
 refine ⟨by omega,by omega,by omega,?_⟩
 refine Zaf (fun i:Nat=>⟨envL [(0,.sl (u32c a)),(1,.int .i64 (n:Int)),(5,.osl none 0 0 a.length),(12,.int .i64 (a.length:Int)),(13,.int .i64 (i:Int))],[.cells (u32c (row (downL a n i) a.length))]⟩)
  (fun i=>i≤a.length) (fun i=>a.length - i) 0 (by omega) (by
   have:List.replicate a.length 0=row (downL a n 0) a.length:=by simp [row,downL]
   rw [this]; exact Zab _ (by simp only [go_sem]; rfl)) (fun i h1 N hN=>?_)
 unfold Z6u
 by_cases hi:i<a.length
 ·have ga:=getElem?_getD hi
  have hga:=ha.get ga
  have hga2:a.getD (i+1) 0<4294967296:=by
   by_cases h2:i+1<a.length
   ·exact ha.get (getElem?_getD h2)
   ·rw [List.getD_eq_getElem?_getD,List.getElem?_eq_none (by omega)]; simp
  obtain ⟨t,d,ht,k1,k2,hd,k3⟩:=Ywq hga hga2 hn
  have hrow:row (downL a n (i+1)) a.length=(row (downL a n i) a.length).set i d:=by
   have:=Yhr (s:=downL a n i) (n:=a.length) (x:=d) (by rw [Zgi]; exact hi)
   rw [Zgi] at this
   rw [this,downL,hd,ht]
  have hrl:(row (downL a n i) a.length).length=a.length:=Ybc (by rw [Zgi]; omega)
  have hpi:(i:Int)<(a.length:Int):=by omega
  have hnn:(0:Int)≤(i:Int):=by omega
  have hn0:(0:Int)≤(n:Int):=by omega
  have hi1:(0:Int)≤((i+1:Nat):Int):=by omega
  have h32:(32:Int)=((32:Nat):Int):=rfl
  have e6:IntKind.i64.wrap ((i:Int)+1)=(i+1:Nat):=by rw [Zac (by omega) (by omega)]; omega
  have e2:IntKind.u64.wrap ((a.getD i 0:Nat):Int)=(a.getD i 0:Nat):=Za5 (by omega) (by omega)
  have e3:IntKind.u64.wrap ((a.getD (i+1) 0:Nat):Int)=(a.getD (i+1) 0:Nat):=Za5 (by omega) (by omega)
  generalize a.getD i 0=v at ga hga ht k1 k2 e2
  generalize hyd:a.getD (i+1) 0=y at hga2 ht k1 k2 e3
  have e4:shlI .u64 (y:Int) 32=(y*4294967296:Nat):=by
   rw [h32,Ztl _ _ (by omega),Nat.mod_eq_of_lt (by omega)]
  have e5:orI .u64 (v:Int) ((y*4294967296:Nat):Int)=(t:Nat):=by rw [or64 (by omega) (by omega),k2]
  have e7:shrI .u64 (t:Int) (n:Int)=(t / 2 ^ n:Nat):=Ze7 _ _ _ (by show n≤64; omega)
  have e8:IntKind.u32.wrap ((t / 2 ^ n:Nat):Int)=(d:Nat):=by rw [Z0v,hd]
  have fin:∀ e:Nat→AV,e 0 = .sl (u32c a)→e 1 = .int .i64 (n:Int)→e 5 = .osl none 0 0 a.length→e 12 = .int .i64 (a.length:Int)→e 13 = .int .i64 ((i+1:Nat):Int) →
    N ⟨e,[.cells ((u32c (row (downL a n i) a.length)).set i (.int .u32 (d:Int)))]⟩:=fun e q1 q2 q3 q4 q5=>by
   refine hN (i+1) _ hi (by show a.length - (i+1)<a.length - i; omega) ?_
   rw [Zcx, ← hrow]
   exact Zab _ (by simp only [Has,q1,q2,q3,q4,q5]; simp)
  have hl1:i+1≤(u32c (row (downL a n i) a.length)).length:=by rw [Zae,hrl]; omega
  simp only [go_sem,Zu9,Z75,Z68,Z8y,Z86,Z60,Z5d,hpi,hnn,hn0,hi1,Zae,Zal ga,e2,e6,hl1,hrl]
  refine ⟨fun hb=>?_,fun hb=>?_⟩
  ·have gb:=getElem?_getD (show i+1<a.length by omega)
   rw [hyd] at gb
   simp only [go_sem,Zal gb,e3,e4,e5,e7,e8,hnn,hpi,hn0,hi1,e6,hl1,hrl,Zae]
   rw [Za6 (by omega)]
   exact ⟨by omega,fin _ (by simp only [go_sem]) (by simp only [go_sem]) (by simp only [go_sem]) (by simp only [go_sem]) (by simp only [go_sem])⟩
  ·have hy0:y=0:=by
    rw [← hyd,List.getD_eq_getElem?_getD,List.getElem?_eq_none (by omega)]; rfl
   have htv:t=v:=by omega
   subst htv
   simp only [go_sem,e7,e8,e6]
   rw [Za6 (by rw [Zae,hrl]; omega)]
   exact ⟨by omega,fin _ (by simp only [go_sem]) (by simp only [go_sem]) (by simp only [go_sem]) (by simp only [go_sem]) (by simp only [go_sem])⟩
 ·have hia:i=a.length:=by omega
  subst hia
  have hp:¬ ((a.length:Nat):Int)<(a.length:Int):=by omega
  simp only [go_sem,Zu9,hp,Z11]
  rw [Yhe (Zgi _ _ _)]
  refine Zjb (ids := [0]) (Zc5 (downL a n a.length) (by rw [Zgi]; omega)) ?_ ?_
  ·simp only [go_sem]
   exact Zdq rfl (by simp) (Zgi _ _ _) (by rw [List.drop_zero,List.take_of_length_le (by rw [Zae,Zgi]; omega)])
  ·simp only [go_sem]
   have hv:=Ykf ha hn a.length (Nat.le_refl _)
   rw [List.drop_length] at hv
   simp only [val,Nat.zero_div,Nat.mul_zero,Nat.add_zero] at hv
   rw [← hv,Zc3 (Yq1 _ _ _)]
end GoAbs
namespace GoAbs
open Go Go.Proofs
def lenN (n:Nat):Nat:=(limbs n).length
def avS (s:Bool) (n:Nat):AV := .agg [.bool s,.sl (u32c (limbs n))]
def avI (z:Int):AV:=avS (decide (z<0)) z.natAbs
theorem Zaa {P:Program}{d:Option Dm}{H:Heap}{C:AV→Heap→Prop}{f:Nat}{xs:List AV}{v:AV}(hs:SpecV P f xs v) (h:BVs H [] xs xs) (hc:C v H):callC P d f H xs C :=
 Zus hs h (.inl rfl) (fun b hb=>by simp at hb) hc
theorem Yd3 (neg:Bool) (n:Nat):SpecV Tryz.prog Zns [.bool neg,.sl (u32c (limbs n))] (avI (if neg then -(n:Int) else n)):=by
 refine Zad Yos (by simp) ?_
 unfold Yky
 have h0:(limbs n).length=0↔n=0:=by rw [List.length_eq_zero_iff,Zht]
 cases neg
 ·simp only [go_sem,Zvx,Ztb,avI,avS,Zae]
  have e1:((n:Int)).natAbs=n:=by omega
  have e2:decide ((n:Int)<0)=false:=by simp
  simp only [go_sem,e1,e2]
 ·simp only [go_sem,Zvx,Ztb,avI,avS,Zae]
  have e1:(-(n:Int)).natAbs=n:=by omega
  refine ⟨fun h=>?_,fun h=>?_⟩
  ·have e2:decide (-(n:Int)<0)=true:=by simp; omega
   simp only [go_sem,e1,e2]
  ·have e2:decide (-(n:Int)<0)=false:=by simp; omega
   simp only [go_sem,e1,e2]
theorem Z96 (z:Int):SpecV Tryz.prog Y08 [avI z] (avI (-z)):=by
 refine Zad Yvr (by simp) ?_
 unfold Yqy
 have hm:SpecV Tryz.prog Zns [.bool (!decide (z<0)),.sl (u32c (limbs z.natAbs))] (avI (-z)):=by
  have:=Yd3 (!decide (z<0)) z.natAbs
  have e:(if (!decide (z<0))=true then -((z.natAbs:Nat):Int) else (z.natAbs:Nat)) = -z:=by
   by_cases h:z<0 <;> simp [h] <;> omega
  rw [e] at this; exact this
 rw [avI,avS]
 simp only [go_sem,Yds,Ybn]
 refine Zaa hm (by simp only [go_sem]) ?_
 unfold avI avS
 simp only [go_sem]
theorem Y1k {m n:Nat}(hm:lenN m≤549755813888) (hn:lenN n≤549755813888) :
  SpecV Tryz.prog Yar [.sl (u32c (limbs m)),.sl (u32c (limbs n))] (.sl (u32c (limbs (m*n)))):=by
 have:=Yfl (Zbt m) (Zbt n) hm hn
 rw [Zay,Zay] at this; exact this
theorem Yqk {m n:Nat}(hm:lenN m≤549755813888) (hn:lenN n≤549755813888) :
  SpecV Tryz.prog Ygl [.sl (u32c (limbs m)),.sl (u32c (limbs n))] (.sl (u32c (limbs (m+n)))):=by
 have:=Yz9 (Zbt m) (Zbt n) (Nat.le_trans hm (by omega)) (Nat.le_trans hn (by omega))
 rw [Zay,Zay] at this; exact this
theorem Zha {a b:Int}(ha:lenN a.natAbs≤549755813888) (hb:lenN b.natAbs≤549755813888):SpecV Tryz.prog Y0u [avI a,avI b] (avI (a*b)):=by
 refine Zad Yvw (by simp) ?_
 unfold Yrl
 have hm:∀ s:Bool,s=(decide (a<0) != decide (b<0))→SpecV Tryz.prog Zns [.bool s,.sl (u32c (limbs (a.natAbs*b.natAbs)))] (avI (a*b)):=fun s hs=>by
  have:=Yd3 s (a.natAbs*b.natAbs)
  have e:(if s=true then -((a.natAbs*b.natAbs:Nat):Int) else ((a.natAbs*b.natAbs:Nat):Int))=a*b:=by
   subst hs
   rw [Int.natCast_mul]
   by_cases h1:a<0 <;> by_cases h2:b<0
   ·have e1:(a.natAbs:Int) = -a:=by omega
    have e2:(b.natAbs:Int) = -b:=by omega
    simp [h1,h2,e1,e2,Int.neg_mul,Int.mul_neg]
   ·have e1:(a.natAbs:Int) = -a:=by omega
    have e2:(b.natAbs:Int)=b:=by omega
    simp [h1,h2,e1,e2,Int.neg_mul,Int.mul_neg]
   ·have e1:(a.natAbs:Int)=a:=by omega
    have e2:(b.natAbs:Int) = -b:=by omega
    simp [h1,h2,e1,e2,Int.neg_mul,Int.mul_neg]
   ·have e1:(a.natAbs:Int)=a:=by omega
    have e2:(b.natAbs:Int)=b:=by omega
    simp [h1,h2,e1,e2,Int.neg_mul,Int.mul_neg]
  rw [e] at this; exact this
 rw [avI,avI,avS,avS]
 simp only [go_sem,Yb0,Z0g]
 refine Zaa (Y1k ha hb) (by simp only [go_sem]) ?_
 simp only [go_sem]
 refine Zaa (hm _ rfl) (by simp only [go_sem]) ?_
 unfold avI avS
 simp only [go_sem]
end GoAbs
namespace GoAbs
open Go Go.Proofs
theorem Z3e {p x y X Y:Nat}(hX:X<p) (h:x<y):X+p*x<Y+p*y:=by
 have:p*(x+1)≤p*y:=Nat.mul_le_mul_left _ h
 rw [Nat.mul_add,Nat.mul_one] at this
 omega
theorem Ygu {a b:List Nat}(ha:Ok32 a) (hb:Ok32 b):∀ n,n≤a.length→n≤b.length →
  cmpTop n a b=if val (a.take n)<val (b.take n) then -1 else if val (b.take n)<val (a.take n) then 1 else 0
 | 0,_,_=>by simp [cmpTop,val]
 | n+1,h1,h2=>by
  have ga:=getElem?_getD (show n<a.length by omega)
  have gb:=getElem?_getD (show n<b.length by omega)
  have la:val (a.take n)<4294967296 ^ n:=by have:=Zz2 (ha.take (n:=n)); rwa [List.length_take,Nat.min_eq_left (by omega)] at this
  have lb:val (b.take n)<4294967296 ^ n:=by have:=Zz2 (hb.take (n:=n)); rwa [List.length_take,Nat.min_eq_left (by omega)] at this
  rw [Zaq ga,Zaq gb,cmpTop,Ygu ha hb n (by omega) (by omega)]
  generalize a.getD n 0=x
  generalize b.getD n 0=y
  generalize val (a.take n)=X at la ⊢
  generalize val (b.take n)=Y at lb ⊢
  generalize 4294967296 ^ n=p at la lb ⊢
  by_cases hxy:x<y
  ·rw [if_pos hxy,if_pos (Z3e la hxy)]
  ·rw [if_neg hxy]
   by_cases hyx:y<x
   ·have:=Z3e (X:=Y) (Y:=X) lb hyx
    rw [if_pos hyx,if_neg (by omega),if_pos this]
   ·have:x=y:=by omega
    subst this
    rw [if_neg hyx]
    by_cases h3:X<Y
    ·have h5:X+p*x<Y+p*x:=by omega
     rw [if_pos h3,if_pos h5]
    ·have h5:¬ X+p*x<Y+p*x:=by omega
     rw [if_neg h3,if_neg h5]
     by_cases h4:Y<X
     ·have h6:Y+p*x<X+p*x:=by omega
      rw [if_pos h4,if_pos h6]
     ·have h6:¬ Y+p*x<X+p*x:=by omega
      rw [if_neg h4,if_neg h6]
theorem Znq {m n:Nat}(h:m≤n):lenN m≤lenN n:=by
 unfold lenN
 induction n using Nat.strongRecOn generalizing m with
 | _ n ih =>
  by_cases hm:m=0
  ·subst hm; simp [Zap]
  ·rw [Zcj hm,Zcj (show n≠0 by omega),List.length_cons,List.length_cons]
   have := @ih (n / 4294967296) (by omega) (m / 4294967296) (Nat.div_le_div_right h)
   omega
theorem Yub (m n:Nat):cmpL (limbs m) (limbs n)=if m<n then -1 else if n<m then 1 else 0:=by
 unfold cmpL
 by_cases h1:(limbs m).length<(limbs n).length
 ·have:m<n:=by
   rcases Nat.lt_or_ge m n with h | h
   ·exact h
   ·have:=Znq h; unfold lenN at this; omega
  rw [if_pos h1,if_pos this]
 ·rw [if_neg h1]
  by_cases h2:(limbs n).length<(limbs m).length
  ·have:n<m:=by
    rcases Nat.lt_or_ge n m with h | h
    ·exact h
    ·have:=Znq h; unfold lenN at this; omega
   rw [if_pos h2,if_neg (by omega),if_pos this]
  ·have h3:(limbs m).length=(limbs n).length:=by omega
   rw [if_neg h2,Ygu (Zbt m) (Zbt n) _ (Nat.le_refl _) (by omega),List.take_length,h3,List.take_length,Zay,Zay]
theorem Z06 {m n:Nat}(hm:lenN m≤549755813888) (hn:lenN n≤549755813888) :
  SpecV Tryz.prog Z42 [.sl (u32c (limbs m)),.sl (u32c (limbs n))] (.int .i64 (if m<n then -1 else if n<m then 1 else 0)):=by
 have:=Ylc (limbs m) (limbs n) (Nat.le_trans hm (by omega)) (Nat.le_trans hn (by omega))
 rw [Yub] at this; exact this
theorem Ymv {m n:Nat}(hm:lenN m≤549755813888) (h:n≤m) :
  SpecV Tryz.prog Yb7 [.sl (u32c (limbs m)),.sl (u32c (limbs n))] (.sl (u32c (limbs (m - n)))):=by
 have:=Yu1 (Zbt m) (Zbt n) (Nat.le_trans hm (by omega)) (Znq h) (by rw [Zay,Zay]; exact h)
 rw [Zay,Zay] at this; exact this
theorem Zqn {s:Bool}{n:Nat}{z:Int}(h:(if s=true then -(n:Int) else n)=z):SpecV Tryz.prog Zns [.bool s,.sl (u32c (limbs n))] (avI z):=by
 have:=Yd3 s n
 rw [h] at this; exact this
theorem Z93 {a b:Int}(ha:lenN a.natAbs≤549755813888) (hb:lenN b.natAbs≤549755813888):SpecV Tryz.prog Yw4 [avI a,avI b] (avI (a+b)):=by
 refine Zad Yul (by simp) ?_
 unfold Yqf
 rw [avI,avI,avS,avS]
 have key:∀ s t:Bool,s=decide (a<0)→t=decide (b<0)→W Tryz.prog 42 0 (.seq (.rg false Zop) (.seq (.block 0 (.seq (.rg false Zqh) (.cond (.t 5) (.seq (.rg true Zok) .ret) (.seq (.rg false Z0z) (.cond (.t 19) (.seq (.rg true Zp3) .ret) .skip))))) (.seq (.rg true Zqd) .ret)))
   ⟨argE [.agg [.bool s,.sl (u32c (limbs a.natAbs))],.agg [.bool t,.sl (u32c (limbs b.natAbs))]],[]⟩ (retQ [.cell 4 (some 2)] (avI (a+b))):=by
  have same:∀ s:Bool,s=decide (a<0)→s=decide (b<0)→(if s=true then -((a.natAbs+b.natAbs:Nat):Int) else (a.natAbs+b.natAbs:Nat))=a+b:=by
   intro s h1 h2
   cases s <;> simp at h1 h2 ⊢ <;> omega
  have diff:∀ s:Bool,s=decide (a<0)→(!s)=decide (b<0)→(b.natAbs≤a.natAbs→(if s=true then -((a.natAbs - b.natAbs:Nat):Int) else (a.natAbs - b.natAbs:Nat))=a+b) ∧
    (a.natAbs≤b.natAbs→(if (!s)=true then -((b.natAbs - a.natAbs:Nat):Int) else (b.natAbs - a.natAbs:Nat))=a+b):=by
   intro s h1 h2
   cases s <;> simp at h1 h2 ⊢ <;> omega
  have fin:avI (a+b) = .agg [.bool (decide (a+b<0)),.sl (u32c (limbs (a+b).natAbs))]:=rfl
  intro s t h1 h2
  by_cases hst:s=t
  ·subst hst
   have m1:=Zqn (same s h1 h2)
   cases s <;>
   ·simp only [go_sem,Zop,Zqh,Zok]
    refine Zaa (Yqk ha hb) (by simp only [go_sem]) ?_
    simp only [go_sem]
    refine Zaa m1 (by simp only [go_sem]) ?_
    rw [fin]
    simp only [go_sem]
  ·have ht:t = !s:=by cases s <;> cases t <;> simp_all
   subst ht
   obtain ⟨d1,d2⟩:=diff s h1 h2
   cases s <;>
   ·simp only [go_sem,Zop,Zqh,Z0z]
    refine Zaa (Z06 ha hb) (by simp only [go_sem]) ?_
    simp only [go_sem]
    refine ⟨fun h=>?_,fun h=>?_⟩
    ·have hba:b.natAbs≤a.natAbs:=by
      rcases Nat.lt_or_ge a.natAbs b.natAbs with h3 | h3
      ·rw [if_pos h3] at h; omega
      ·exact h3
     simp only [go_sem,Zp3]
     refine Zaa (Ymv ha hba) (by simp only [go_sem]) ?_
     simp only [go_sem]
     refine Zaa (Zqn (d1 hba)) (by simp only [go_sem]) ?_
     rw [fin]
     simp only [go_sem]
    ·have hab:a.natAbs≤b.natAbs:=by
      rcases Nat.lt_or_ge a.natAbs b.natAbs with h3 | h3
      ·omega
      ·exfalso; apply h; rw [if_neg (by omega)]; split <;> omega
     simp only [go_sem,Zqd]
     refine Zaa (Ymv hb hab) (by simp only [go_sem]) ?_
     simp only [go_sem]
     refine Zaa (Zqn (d2 hab)) (by simp only [go_sem]) ?_
     rw [fin]
     simp only [go_sem]
 exact key _ _ rfl rfl
end GoAbs
namespace GoAbs
open Go Go.Proofs
theorem Zaj (z:Int):avI z = .agg [.bool (decide (z<0)),.sl (u32c (limbs z.natAbs))]:=rfl
attribute [go_sem] Zaj
theorem Yr0 (z:Int):SpecV Tryz.prog Yga [avI z] (.int .i64 (if z=0 then 0 else if z<0 then -1 else 1)):=by
 have h:=Y0m (decide (z<0)) (limbs z.natAbs)
 have e:(if limbs z.natAbs = [] then (0:Int) else if decide (z<0)=true then -1 else 1)=if z=0 then 0 else if z<0 then -1 else 1:=by
  have h0:limbs z.natAbs = []↔z=0:=by rw [Zht]; omega
  by_cases h1:z=0
  ·rw [if_pos h1,if_pos (h0.2 h1)]
  ·rw [if_neg h1,if_neg (fun h=>h1 (h0.1 h))]; simp
 rw [e] at h
 exact h
theorem Yp7 {a b:Int}(ha:lenN a.natAbs≤549755813888) (hb:lenN b.natAbs≤549755813888):SpecV Tryz.prog Yzv [avI a,avI b] (avI (a - b)):=by
 refine Zad Yto (by simp) ?_
 unfold Yrb
 have h2:=Z93 (a:=a) (b := -b) ha (by rw [Int.natAbs_neg]; exact hb)
 rw [show a + -b=a - b by omega] at h2
 simp only [go_sem,Ycg,Z0e]
 refine Zaa (Z96 b) (by simp only [go_sem]) ?_
 simp only [go_sem]
 refine Zaa h2 (by simp only [go_sem]) ?_
 simp only [go_sem]
theorem Yis {a b:Int}(ha:lenN a.natAbs≤549755813888) (hb:lenN b.natAbs≤549755813888):SpecV Tryz.prog Yz7 [avI a,avI b] (.int .i64 (if a<b then -1 else if b<a then 1 else 0)):=by
 refine Zad Ys8 (by simp) ?_
 unfold Yqq
 simp only [go_sem,Ydn,Yco]
 refine Zaa (Yp7 ha hb) (by simp only [go_sem]) ?_
 simp only [go_sem]
 refine Zaa (Yr0 (a - b)) (by simp only [go_sem]) ?_
 simp only [go_sem]
 split <;> split <;> (try split) <;> omega
theorem Y6b {n:Nat}(h:n<18446744073709551616):limbs n=trimL [n % 4294967296,n / 4294967296]:=by
 have hok:Ok32 [n % 4294967296,n / 4294967296]:=fun x hx=>by
  rcases List.mem_cons.1 hx with rfl | hx
  ·omega
  ·rw [List.mem_singleton] at hx; omega
 rw [← Zc3 hok]
 congr 1
 simp only [val]; omega
theorem Ywg {z:Int}(h1 : -9223372036854775808≤z) (h2:z≤9223372036854775807):SpecV Tryz.prog Yri [.int .i64 z] (avI z):=by
 refine Zad Ywx (by simp) ?_
 unfold Y1f
 have h32:(32:Int)=((32:Nat):Int):=rfl
 have hn:z.natAbs<18446744073709551616:=by omega
 have hw:=Y6b hn
 generalize hm:z.natAbs=m at hn hw
 have e3:IntKind.u32.wrap (m:Int)=(m % 4294967296:Nat):=Z0v m
 have e4:shrI .u64 (m:Int) 32=(m / 4294967296:Nat):=by rw [h32,Ze7 _ _ _ (by decide)]
 have e5:IntKind.u32.wrap ((m / 4294967296:Nat):Int)=(m / 4294967296:Nat):=Zf9 (by omega) (by omega)
 have ht:=Zc5 [m % 4294967296,m / 4294967296] (by simp)
 rw [← hw] at ht
 have hmade:∀ s:Bool,s=decide (z<0)→SpecV Tryz.prog Zns [.bool s,.sl (u32c (limbs m))] (avI z):=fun s hs=>Zqn (by
  subst hs
  by_cases h:z<0 <;> simp [h] <;> omega)
 simp only [go_sem,Yge,Yfb,Yf1]
 refine ⟨fun hz=>?_,fun hz=>?_⟩
 ·have e1:IntKind.u64.wrap (0 - IntKind.u64.wrap z)=(m:Nat):=by rw [IntKind.wrap_u64,IntKind.wrap_u64]; omega
  simp only [go_sem,Yfd,Z5k,hz,e1,e3,e4,e5]
  refine Zjb (ids := [1]) ht ?_ ?_
  ·simp only [go_sem]
   exact Zdq rfl (by simp) rfl rfl
  ·simp only [go_sem]
   refine Zaa (hmade true (by simp [hz])) (by simp only [go_sem]) ?_
   simp only [go_sem,hm]
   try simp [hz]
 ·have e1:IntKind.u64.wrap z=(m:Nat):=by rw [IntKind.wrap_u64]; omega
  simp only [go_sem,Z5k,hz,e1,e3,e4,e5]
  refine Zjb (ids := [1]) ht ?_ ?_
  ·simp only [go_sem]
   exact Zdq rfl (by simp) rfl rfl
  ·simp only [go_sem]
   refine Zaa (hmade false (by simp [hz])) (by simp only [go_sem]) ?_
   simp only [go_sem,hm]
   try simp [hz]
end GoAbs
namespace GoAbs
open Go Go.Proofs
def Z3q:List IOp := [oI 2 (.alloc [.bool false,.nils,.bool false,.nils]) 0]
def Z2b:List IOp := [mI 3 0 0,oI 4 (.call 83 [.t 3]) 0,oI 5 (.call 83 [cI 1]) 0,oI 6 (.build [.bool false,.nils,.bool false,.nils] [(0,2,.t 4),(2,2,.t 5)]) 0,⟨none,.st 4 (.t 2) (.t 6),0,[],[],none⟩]
def Ye2:CC := .seq (.rg false Z3q) (.seq (.rg false Z2b) .ret)
abbrev Zqr:Nat:=49
theorem Yk6:fnOk Tryz.prog 49=some (7,Ye2,[.cell 2 (some 4)]):=by kernel_rfl
def Zvz:List IOp := [oI 1 (.box (.t 0)) 0,oI 2 (.alloc [.bool false,.nils,.bool false,.nils]) 1]
def Zkj:List IOp := [lJ 3 2 1 0,oI 4 (.call 83 [cI 1]) 0,oI 5 (.build [.bool false,.nils,.bool false,.nils] [(0,2,.t 3),(2,2,.t 4)]) 0,⟨none,.st 4 (.t 2) (.t 5),0,[],[],none⟩]
@[go_sem ↓] theorem Z53 : autoK Zkj = (0, 1) := by kernel_rfl
@[go_sem] theorem Ysm : autoK [lJ 3 2 1 0, oI 4 (.call 83 [cI 1]) 0, oI 5 (.build [.bool false, .nils, .bool false, .nils] [(0, 2, .t 3), (2, 2, .t 4)]) 0, ⟨none, .st 4 (.t 2) (.t 5), 0, [], [], none⟩] = (0, 1) := Z53
def Z7t:CC := .seq (.rg false Zvz) (.seq (.rg true Zkj) .ret)
abbrev Yiq:Nat:=114
theorem Yeh:fnOk Tryz.prog 114=some (6,Z7t,[.cell 2 (some 4)]):=by kernel_rfl
def Zpb:List IOp := [oI 2 (.box (.t 0)) 0,oI 3 (.box (.t 1)) 1,oI 4 (.alloc [.bool false,.nils,.bool false,.nils]) 2]
def Zo6:List IOp := [fI 10 0 3 0,lI 11 10 0]
def Zoi:List IOp := [lJ 12 2 2 0,oI 13 (.call 125 [.t 12]) 0,lJ 14 2 3 0,oI 15 (.callw 125 [.t 14]) 0,⟨none,.st 2 (.t 2) (.t 13),0,[],[],none⟩,⟨none,.st 2 (.t 3) (.t 15),0,[],[],none⟩]
@[go_sem ↓] theorem Ycx : autoK Zoi = (0, 1) := by kernel_rfl
@[go_sem] theorem Yv6 : autoK [lJ 12 2 2 0, oI 13 (.call 125 [.t 12]) 0, lJ 14 2 3 0, oI 15 (.callw 125 [.t 14]) 0, ⟨none, .st 2 (.t 2) (.t 13), 0, [], [], none⟩, ⟨none, .st 2 (.t 3) (.t 15), 0, [], [], none⟩] = (0, 1) := Ycx
def Zo4:List IOp := [lJ 16 2 2 0,lJ 17 2 3 0,oI 18 (.call 101 [.t 16,.t 17]) 0,oI 5 (.alloc [.bool false,.nils]) 0,⟨none,.st 2 (.t 5) (.t 18),1,[],[],none⟩]
def Zjp:List IOp := [lJ 19 2 5 0,oI 20 (.call 83 [cI 1]) 0,oI 21 (.callw 102 [.t 19,.t 20]) 0,oI 22 (.bin .eql (.t 21) (cI 0)) 0]
@[go_sem ↓] theorem Yee : autoK Zjp = (0, 0) := by kernel_rfl
@[go_sem] theorem Yv7 : autoK [lJ 19 2 5 0, oI 20 (.call 83 [cI 1]) 0, oI 21 (.callw 102 [.t 19, .t 20]) 0, oI 22 (.bin .eql (.t 21) (cI 0)) 0] = (0, 0) := Yee
def Zpi:List IOp := [lJ 23 2 2 0,lJ 24 2 3 0,oI 25 (.build [.bool false,.nils,.bool false,.nils] [(0,2,.t 23),(2,2,.t 24)]) 0,⟨none,.st 4 (.t 4) (.t 25),0,[],[],none⟩]
def Zqj:List IOp := [lJ 27 2 2 0,lJ 28 2 5 0,oI 29 (.call 134 [.t 27,.t 28]) 0,mI 26 29 0,eI 30 0 26 0,eI 31 1 26 0,oI 6 (.alloc [.bool false,.nils]) 0,oI 7 (.alloc [.bool false,.nils]) 1,⟨none,.st 2 (.t 6) (.t 30),2,[],[],none⟩,⟨none,.st 2 (.t 7) (.t 31),2,[],[],none⟩]
def Zor:List IOp := [lJ 33 2 3 0,lJ 34 2 5 0,oI 35 (.call 134 [.t 33,.t 34]) 0,mI 32 35 0,eI 36 0 32 0,eI 37 1 32 0,oI 8 (.alloc [.bool false,.nils]) 0,oI 9 (.alloc [.bool false,.nils]) 1,⟨none,.st 2 (.t 8) (.t 36),2,[],[],none⟩,⟨none,.st 2 (.t 9) (.t 37),2,[],[],none⟩]
def Zou:List IOp := [lJ 38 2 6 0,lJ 39 2 8 0,oI 40 (.build [.bool false,.nils,.bool false,.nils] [(0,2,.t 38),(2,2,.t 39)]) 0,⟨none,.st 4 (.t 4) (.t 40),0,[],[],none⟩]
def Ye9:CC := .seq (.rg false Zpb) (.seq (.seq (.rg false Zo6) (.cond (.t 11) (.rg true Zoi) .skip)) (.seq (.rg false Zo4) (.seq (.seq (.rg true Zjp) (.cond (.t 22) (.seq (.rg false Zpi) .ret) .skip)) (.seq (.rg false Zqj) (.seq (.rg false Zor) (.seq (.rg false Zou) .ret))))))
abbrev Ypf:Nat:=116
theorem Yju:fnOk Tryz.prog 116=some (41,Ye9,[.cell 4 (some 4)]):=by kernel_rfl
def Zwj:List IOp := [oI 1 (.box (.t 0)) 0,oI 2 (.mv (.c (.bool false))) 1]
def Zu1:List IOp := [fI 3 2 1 0,fI 4 1 3 0,lI 5 4 0,oI 6 (.len (.t 5)) 0,oI 7 (.bin .eql (.t 6) (cI 1)) 0,mI 8 7 0,gI 9 (.fa 2 (.t 1)) 0 8 true,gI 10 (.fa 1 (.t 9)) 0 8 true,gI 11 (.ld none (.t 10)) 0 8 true,gI 12 (.idx 1 (.t 11) (cI 0)) 0 8 true,gI 13 (.ld none (.t 12)) 0 8 true,gI 14 (.bin .eql (.t 13) (.c (.int .u32 1))) 0 8 true,oI 15 (.pick (.t 8) (.t 14) (.c (.bool false))) 0,mI 2 15 0]
def Z6l:CC := .seq (.rg false Zwj) (.seq (.rg false Zu1) .ret)
abbrev Yhs:Nat:=113
theorem Yey:fnOk Tryz.prog 113=some (16,Z6l,[.tmp 2]):=by kernel_rfl
def Z8j:List IOp := [oI 1 (.box (.t 0)) 0,oI 2 (.mv (cI 0)) 1]
def Z8c:List IOp := [fI 3 0 1 0,lJ 4 2 3 0,oI 5 (.call 111 [.t 4]) 0,mI 2 5 0]
def Yk9:CC := .seq (.rg false Z8j) (.seq (.rg false Z8c) .ret)
abbrev Ygm:Nat:=80
theorem Yng:fnOk Tryz.prog 80=some (6,Yk9,[.tmp 2]):=by kernel_rfl
def Ydi:List IOp := [oI 1 (.box (.t 0)) 0,oI 2 (.alloc [.bool false,.nils,.bool false,.nils]) 1]
def Z0i:List IOp := [fI 3 0 1 0,lJ 4 2 3 0,oI 5 (.call 125 [.t 4]) 0,fI 6 2 1 0,lJ 7 2 6 0,oI 8 (.build [.bool false,.nils,.bool false,.nils] [(0,2,.t 5),(2,2,.t 7)]) 0,⟨none,.st 4 (.t 2) (.t 8),0,[],[],none⟩]
@[go_sem ↓] theorem Yht : autoK Z0i = (0, 1) := by kernel_rfl
@[go_sem] theorem Y14 : autoK [fI 3 0 1 0, lJ 4 2 3 0, oI 5 (.call 125 [.t 4]) 0, fI 6 2 1 0, lJ 7 2 6 0, oI 8 (.build [.bool false, .nils, .bool false, .nils] [(0, 2, .t 5), (2, 2, .t 7)]) 0, ⟨none, .st 4 (.t 2) (.t 8), 0, [], [], none⟩] = (0, 1) := Yht
def Yr6:CC := .seq (.rg false Ydi) (.seq (.rg true Z0i) .ret)
abbrev Ylu:Nat:=106
theorem Yte:fnOk Tryz.prog 106=some (9,Yr6,[.cell 2 (some 4)]):=by kernel_rfl
def Ydz:List IOp := [oI 2 (.box (.t 0)) 0,oI 3 (.box (.t 1)) 1,oI 4 (.alloc [.bool false,.nils,.bool false,.nils]) 2]
def Yai:List IOp := [lJ 5 4 2 0,oI 6 (.call 113 [.t 5]) 0,mI 7 6 0,gI 8 (.ld (some 4) (.t 3)) 0 7 true,gI 9 (.call 113 [.t 8]) 0 7 true,oI 10 (.pick (.t 7) (.t 9) (.c (.bool false))) 0]
def Ycr:List IOp := [fI 11 0 2 0,lJ 12 2 11 0,fI 13 0 3 0,lJ 14 2 13 0,oI 15 (.call 115 [.t 12,.t 14]) 0,oI 16 (.call 114 [.t 15]) 0,⟨none,.st 4 (.t 4) (.t 16),0,[],[],none⟩]
def Zo7:List IOp := [fI 17 0 2 0,lJ 18 2 17 0,fI 19 2 3 0,lJ 20 2 19 0,oI 21 (.call 103 [.t 18,.t 20]) 0,fI 22 0 3 0,lJ 23 2 22 0,fI 24 2 2 0,lJ 25 2 24 0,oI 26 (.call 103 [.t 23,.t 25]) 0,oI 27 (.call 115 [.t 21,.t 26]) 0,fI 28 2 2 0,lJ 29 2 28 0,fI 30 2 3 0,lJ 31 2 30 0,oI 32 (.callw 103 [.t 29,.t 31]) 0,oI 33 (.callw 116 [.t 27,.t 32]) 0,⟨none,.st 4 (.t 4) (.t 33),0,[],[],none⟩]
@[go_sem ↓] theorem Yhm : autoK Zo7 = (0, 1) := by kernel_rfl
@[go_sem] theorem Y1s : autoK [fI 17 0 2 0, lJ 18 2 17 0, fI 19 2 3 0, lJ 20 2 19 0, oI 21 (.call 103 [.t 18, .t 20]) 0, fI 22 0 3 0, lJ 23 2 22 0, fI 24 2 2 0, lJ 25 2 24 0, oI 26 (.call 103 [.t 23, .t 25]) 0, oI 27 (.call 115 [.t 21, .t 26]) 0, fI 28 2 2 0, lJ 29 2 28 0, fI 30 2 3 0, lJ 31 2 30 0, oI 32 (.callw 103 [.t 29, .t 31]) 0, oI 33 (.callw 116 [.t 27, .t 32]) 0, ⟨none, .st 4 (.t 4) (.t 33), 0, [], [], none⟩] = (0, 1) := Yhm
def Ysh:CC := .seq (.rg false Ydz) (.seq (.seq (.rg false Yai) (.cond (.t 10) (.seq (.rg false Ycr) .ret) .skip)) (.seq (.rg true Zo7) .ret))
abbrev Ykz:Nat:=82
theorem Yv4:fnOk Tryz.prog 82=some (34,Ysh,[.cell 4 (some 4)]):=by kernel_rfl
def Yc7:List IOp := [oI 2 (.box (.t 0)) 0,oI 3 (.box (.t 1)) 1,oI 4 (.alloc [.bool false,.nils,.bool false,.nils]) 2]
def Z1d:List IOp := [lJ 5 4 2 0,lJ 6 4 3 0,oI 7 (.call 106 [.t 6]) 0,oI 8 (.callw 82 [.t 5,.t 7]) 0,⟨none,.st 4 (.t 4) (.t 8),0,[],[],none⟩]
@[go_sem ↓] theorem Yib : autoK Z1d = (0, 1) := by kernel_rfl
@[go_sem] theorem Y1o : autoK [lJ 5 4 2 0, lJ 6 4 3 0, oI 7 (.call 106 [.t 6]) 0, oI 8 (.callw 82 [.t 5, .t 7]) 0, ⟨none, .st 4 (.t 4) (.t 8), 0, [], [], none⟩] = (0, 1) := Yib
def Ysn:CC := .seq (.rg false Yc7) (.seq (.rg true Z1d) .ret)
abbrev Yy6:Nat:=127
theorem Yug:fnOk Tryz.prog 127=some (9,Ysn,[.cell 4 (some 4)]):=by kernel_rfl
def Yea:List IOp := [oI 2 (.box (.t 0)) 0,oI 3 (.box (.t 1)) 1,oI 4 (.alloc [.bool false,.nils,.bool false,.nils]) 2]
def Yd0:List IOp := [lJ 5 4 2 0,oI 6 (.call 113 [.t 5]) 0,mI 7 6 0,gI 8 (.ld (some 4) (.t 3)) 0 7 true,gI 9 (.call 113 [.t 8]) 0 7 true,oI 10 (.pick (.t 7) (.t 9) (.c (.bool false))) 0]
def Ycn:List IOp := [fI 11 0 2 0,lJ 12 2 11 0,fI 13 0 3 0,lJ 14 2 13 0,oI 15 (.call 103 [.t 12,.t 14]) 0,oI 16 (.call 114 [.t 15]) 0,⟨none,.st 4 (.t 4) (.t 16),0,[],[],none⟩]
def Zoo:List IOp := [fI 17 0 2 0,lJ 18 2 17 0,fI 19 0 3 0,lJ 20 2 19 0,oI 21 (.call 103 [.t 18,.t 20]) 0,fI 22 2 2 0,lJ 23 2 22 0,fI 24 2 3 0,lJ 25 2 24 0,oI 26 (.callw 103 [.t 23,.t 25]) 0,oI 27 (.callw 116 [.t 21,.t 26]) 0,⟨none,.st 4 (.t 4) (.t 27),0,[],[],none⟩]
@[go_sem ↓] theorem Yjf : autoK Zoo = (0, 1) := by kernel_rfl
@[go_sem] theorem Y1q : autoK [fI 17 0 2 0, lJ 18 2 17 0, fI 19 0 3 0, lJ 20 2 19 0, oI 21 (.call 103 [.t 18, .t 20]) 0, fI 22 2 2 0, lJ 23 2 22 0, fI 24 2 3 0, lJ 25 2 24 0, oI 26 (.callw 103 [.t 23, .t 25]) 0, oI 27 (.callw 116 [.t 21, .t 26]) 0, ⟨none, .st 4 (.t 4) (.t 27), 0, [], [], none⟩] = (0, 1) := Yjf
def Yqx:CC := .seq (.rg false Yea) (.seq (.seq (.rg false Yd0) (.cond (.t 10) (.seq (.rg false Ycn) .ret) .skip)) (.seq (.rg true Zoo) .ret))
abbrev Yyy:Nat:=84
theorem Yti:fnOk Tryz.prog 84=some (28,Yqx,[.cell 4 (some 4)]):=by kernel_rfl
def Yb6:List IOp := [oI 2 (.box (.t 0)) 0,oI 3 (.box (.t 1)) 1,oI 4 (.alloc [.bool false,.nils,.bool false,.nils]) 2]
def Z1g:List IOp := [fI 5 0 2 0,lJ 6 2 5 0,fI 7 2 3 0,lJ 8 2 7 0,oI 9 (.call 103 [.t 6,.t 8]) 0,fI 10 2 2 0,lJ 11 2 10 0,fI 12 0 3 0,lJ 13 2 12 0,oI 14 (.callw 103 [.t 11,.t 13]) 0,oI 15 (.callw 116 [.t 9,.t 14]) 0,⟨none,.st 4 (.t 4) (.t 15),0,[],[],none⟩]
@[go_sem ↓] theorem Yhn : autoK Z1g = (0, 1) := by kernel_rfl
@[go_sem] theorem Y15 : autoK [fI 5 0 2 0, lJ 6 2 5 0, fI 7 2 3 0, lJ 8 2 7 0, oI 9 (.call 103 [.t 6, .t 8]) 0, fI 10 2 2 0, lJ 11 2 10 0, fI 12 0 3 0, lJ 13 2 12 0, oI 14 (.callw 103 [.t 11, .t 13]) 0, oI 15 (.callw 116 [.t 9, .t 14]) 0, ⟨none, .st 4 (.t 4) (.t 15), 0, [], [], none⟩] = (0, 1) := Yhn
def Yqt:CC := .seq (.rg false Yb6) (.seq (.rg true Z1g) .ret)
abbrev Yx5:Nat:=128
theorem Yue:fnOk Tryz.prog 128=some (16,Yqt,[.cell 4 (some 4)]):=by kernel_rfl
def Z6s:List IOp := [oI 2 (.box (.t 0)) 0,oI 4 (.mv (.c (.bool false))) 1]
def Z8u:List IOp := [fI 5 0 2 0,fI 6 1 5 0,lI 7 6 0,oI 8 (.call 112 [.t 7]) 0,oI 9 (.slen (.t 8)) 0,mI 10 1 0,oI 11 (.bin .leq (.t 9) (.t 10)) 0,mI 12 11 0,gI 13 (.fa 2 (.t 2)) 0 12 true,gI 14 (.fa 1 (.t 13)) 0 12 true,gI 15 (.ld none (.t 14)) 0 12 true,gI 16 (.call 112 [.t 15]) 0 12 true,gI 17 (.slen (.t 16)) 0 12 true,gI 18 (.mv (.t 1)) 0 12 true,gI 19 (.bin .leq (.t 17) (.t 18)) 0 12 true,oI 20 (.pick (.t 12) (.t 19) (.c (.bool false))) 0,mI 4 20 0]
def Ymf:CC := .seq (.rg false Z6s) (.seq (.rg false Z8u) .ret)
abbrev Ytj:Nat:=81
theorem Ypt:fnOk Tryz.prog 81=some (21,Ymf,[.tmp 4]):=by kernel_rfl
def Ydv:List IOp := [oI 1 (.box (.t 0)) 0,oI 2 (.mv (.c (.str ⟨#[]⟩))) 1,oI 3 (.mv (cI 0)) 1]
def Ycy:List IOp := [fI 6 0 1 0,fI 7 1 6 0,lI 8 7 0,oI 9 (.call 112 [.t 8]) 0,mI 4 9 0]
def Zox:List IOp := [mI 10 4 0,oI 11 (.slen (.t 10)) 0,oI 12 (.bin .gtr (.t 11) (cI 4000)) 0]
def Ya6:List IOp := [oI 2 (.mv (.c (.str ⟨#[]⟩))) 0,oI 3 (.mv (cI 4)) 0]
def Z03:List IOp := [fI 13 0 1 0,fI 14 0 13 0,lI 15 14 0]
def Z0y:List IOp := [mI 16 4 0,oI 17 (.bin .add (.c (.str ⟨#[45]⟩)) (.t 16)) 0,mI 4 17 0]
def Z1f:List IOp := [lJ 18 4 1 0,oI 19 (.call 113 [.t 18]) 0]
def Z1e:List IOp := [mI 20 4 0,mI 2 20 0,oI 3 (.mv (cI 0)) 0]
def Z1a:List IOp := [fI 21 2 1 0,fI 22 1 21 0,lI 23 22 0,oI 24 (.call 112 [.t 23]) 0,mI 5 24 0]
def Zlv:List IOp := [mI 25 5 0,oI 26 (.slen (.t 25)) 0,oI 27 (.bin .gtr (.t 26) (cI 4000)) 0]
def Zvy:List IOp := [oI 2 (.mv (.c (.str ⟨#[]⟩))) 0,oI 3 (.mv (cI 4)) 0]
def Zwt:List IOp := [mI 28 4 0,oI 29 (.bin .add (.t 28) (.c (.str ⟨#[47]⟩))) 0,mI 30 5 0,oI 31 (.bin .add (.t 29) (.t 30)) 0,mI 2 31 0,oI 3 (.mv (cI 0)) 0]
def Yrv:CC := .seq (.rg false Ydv) (.seq (.rg false Ycy) (.seq (.seq (.rg false Zox) (.cond (.t 12) (.seq (.rg false Ya6) .ret) .skip)) (.seq (.seq (.rg false Z03) (.cond (.t 15) (.rg false Z0y) .skip)) (.seq (.seq (.rg false Z1f) (.cond (.t 19) (.seq (.rg false Z1e) .ret) .skip)) (.seq (.rg false Z1a) (.seq (.seq (.rg false Zlv) (.cond (.t 27) (.seq (.rg false Zvy) .ret) .skip)) (.seq (.rg false Zwt) .ret)))))))
abbrev Yy1:Nat:=85
theorem Ysr:fnOk Tryz.prog 85=some (32,Yrv,[.tmp 2,.tmp 3]):=by kernel_rfl
def Zt4:List IOp := [oI 2 (.mv (.c (.str ⟨#[]⟩))) 0]
def Zux:List IOp := [mI 7 0 0,oI 8 (.len (.t 7)) 0,oI 9 (.bin .eql (.t 8) (cI 0)) 0]
def Z9b:List IOp := [oI 2 (.mv (.c (.str ⟨#[48]⟩))) 0]
def Z69:List IOp := [oI 3 (.mv (.c .nils)) 0]
def Ztw:List IOp := [mI 10 0 0,oI 11 (.len (.t 10)) 0,oI 12 (.bin .gtr (.t 11) (cI 0)) 0]
def Z9e:List IOp := [mI 14 0 0,oI 15 (.call 131 [.t 14,.c (.int .u32 1000000000)]) 0,mI 13 15 0,eI 16 0 13 0,eI 17 1 13 0,mI 4 16 0,mI 5 17 0]
def Z79:List IOp := [oI 6 (.mv (cI 0)) 0]
def Zl4:List IOp := [mI 18 6 0,oI 19 (.bin .lss (.t 18) (cI 9)) 0,mI 20 19 0,gI 21 (.mv (.t 4)) 0 20 true,gI 22 (.len (.t 21)) 0 20 true,gI 23 (.bin .gtr (.t 22) (cI 0)) 0 20 true,gI 24 (.mv (.t 23)) 0 20 true,gI 25 (.mv (.t 5)) 0 24 false,gI 26 (.bin .gtr (.t 25) (.c (.int .u32 0))) 0 24 false,gI 27 (.pick (.t 24) (.c (.bool true)) (.t 26)) 0 20 true,oI 28 (.pick (.t 20) (.t 27) (.c (.bool false))) 0]
def Z74:List IOp := [mI 31 3 0,mI 32 5 0,oI 33 (.bin .rem (.t 32) (.c (.int .u32 10))) 0,oI 34 (.bin .add (.c (.int .u32 48)) (.t 33)) 0,oI 35 (.cvi .u8 (.t 34)) 0,oI 36 (.bsl none 1 [.int .u8 0] [(0,.t 35)]) 0,oI 37 (.app none 1 (.t 31) (.t 36)) 1,mI 3 37 2]
def Z23:List IOp := [mI 38 5 0,oI 39 (.bin .quo (.t 38) (.c (.int .u32 10))) 0,mI 5 39 0]
def Z4o:List IOp := [mI 29 6 0,oI 30 (.bin .add (.t 29) (cI 1)) 0,mI 6 30 0]
def Zu5:CC := .seq (.seq (.rg false Zl4) (.cond (.t 28) .skip (.exit 2))) (.seq (.block 3 (.seq (.rg false Z74) (.rg false Z23))) (.rg false Z4o))
def Z4z:List IOp := [mI 40 4 0,mI 0 40 0]
def Zup:CC := .seq (.seq (.rg false Ztw) (.cond (.t 12) .skip (.exit 0))) (.block 1 (.seq (.rg false Z9e) (.seq (.seq (.rg false Z79) (.block 2 (.loop Zu5))) (.rg false Z4z))))
def Z2w:List IOp := [mI 41 3 0,oI 42 (.call 132 [.t 41]) 0]
def Z3n:List IOp := [mI 43 3 0,oI 44 (.b2s (.t 43)) 0,mI 2 44 0]
def Ykg:CC := .seq (.rg false Zt4) (.seq (.seq (.rg false Zux) (.cond (.t 9) (.seq (.rg false Z9b) .ret) .skip)) (.seq (.rg false Z69) (.seq (.block 0 (.loop Zup)) (.seq (.rg false Z2w) (.seq (.rg false Z3n) .ret)))))
abbrev Yu5:Nat:=112
theorem Ym5:fnOk Tryz.prog 112=some (45,Ykg,[.tmp 2]):=by kernel_rfl
def Z9d:List IOp := [oI 2 (.mv (.c .nils)) 0,oI 3 (.mv (.c (.bool false))) 0]
def Z7k:List IOp := [mI 10 0 0,oI 11 (.slen (.t 10)) 0,oI 12 (.mv (cI 0)) 0]
def Zhx:List IOp := [oI 13 (.bin .lss (.t 12) (.t 11)) 0]
def Zl2:List IOp := [mI 14 12 0,mI 4 14 0]
def Zlo:List IOp := [mI 15 0 0,mI 16 4 0,oI 17 (.sidx (.t 15) (.t 16)) 0,oI 18 (.bin .lss (.t 17) (.c (.int .u8 48))) 0,mI 19 18 0,gI 20 (.mv (.t 0)) 0 19 false,gI 21 (.mv (.t 4)) 0 19 false,gI 22 (.sidx (.t 20) (.t 21)) 0 19 false,gI 23 (.bin .gtr (.t 22) (.c (.int .u8 57))) 0 19 false,oI 24 (.pick (.t 19) (.c (.bool true)) (.t 23)) 0]
def Zv7:List IOp := [oI 2 (.mv (.c .nils)) 0,oI 3 (.mv (.c (.bool false))) 0]
def Z6z:List IOp := [oI 25 (.bin .add (.t 12) (cI 1)) 0,mI 12 25 0]
def Zu7:CC := .seq (.rg false Zhx) (.seq (.cond (.t 13) .skip (.exit 0)) (.seq (.block 1 (.seq (.rg false Zl2) (.seq (.rg false Zlo) (.cond (.t 24) (.seq (.rg false Zv7) .ret) .skip)))) (.rg false Z6z)))
def Zfj:List IOp := [mI 26 0 0,oI 27 (.bin .eql (.t 26) (.c (.str ⟨#[]⟩))) 0,mI 28 27 0,gI 29 (.mv (.t 0)) 0 28 false,gI 30 (.sidx (.t 29) (cI 0)) 0 28 false,gI 31 (.bin .eql (.t 30) (.c (.int .u8 48))) 0 28 false,gI 32 (.mv (.t 31)) 0 28 false,gI 33 (.mv (.t 0)) 0 32 true,gI 34 (.slen (.t 33)) 0 32 true,gI 35 (.bin .gtr (.t 34) (cI 1)) 0 32 true,gI 36 (.pick (.t 32) (.t 35) (.c (.bool false))) 0 28 false,oI 37 (.pick (.t 28) (.c (.bool true)) (.t 36)) 0,mI 38 37 0,gI 39 (.mv (.t 0)) 0 38 false,gI 40 (.slen (.t 39)) 0 38 false,gI 41 (.bin .gtr (.t 40) (cI 4000)) 0 38 false,oI 42 (.pick (.t 38) (.c (.bool true)) (.t 41)) 0]
def Zfg:List IOp := [oI 2 (.mv (.c .nils)) 0,oI 3 (.mv (.c (.bool false))) 0]
def Zp2:List IOp := [oI 5 (.mv (.c .nils)) 0]
def Zpr:List IOp := [mI 43 0 0,oI 44 (.bin .neq (.t 43) (.c (.str ⟨#[]⟩))) 0]
def Z31:List IOp := [mI 45 0 0,oI 46 (.slen (.t 45)) 0,oI 47 (.bin .sub (.t 46) (cI 1)) 0,oI 48 (.bin .rem (.t 47) (cI 9)) 0,oI 49 (.bin .add (.t 48) (cI 1)) 0,mI 6 49 0]
def Z46:List IOp := [oI 7 (.mv (.c (.int .u32 0))) 0,oI 8 (.mv (.c (.int .u32 1))) 0]
def Z1t:List IOp := [mI 50 6 0,oI 51 (.mv (cI 0)) 0]
def Zoz:List IOp := [oI 52 (.bin .lss (.t 51) (.t 50)) 0]
def Z4u:List IOp := [mI 53 51 0,mI 9 53 0]
def Z40:List IOp := [mI 54 7 0,oI 55 (.bin .mul (.c (.int .u32 10)) (.t 54)) 0,mI 56 0 0,mI 57 9 0,oI 58 (.sidx (.t 56) (.t 57)) 0,oI 59 (.bin .sub (.t 58) (.c (.int .u8 48))) 0,oI 60 (.cvi .u32 (.t 59)) 0,oI 61 (.bin .add (.t 55) (.t 60)) 0,mI 62 8 0,oI 63 (.bin .mul (.c (.int .u32 10)) (.t 62)) 0,mI 7 61 0,mI 8 63 0]
def Z3y:List IOp := [oI 64 (.bin .add (.t 51) (cI 1)) 0,mI 51 64 0]
def Zto:CC := .seq (.rg false Zoz) (.seq (.cond (.t 52) .skip (.exit 4)) (.seq (.block 5 (.seq (.rg false Z4u) (.rg false Z40))) (.rg false Z3y)))
def Z4l:List IOp := [mI 65 5 0,mI 66 8 0,oI 67 (.bsl none 1 [.int .u32 0] [(0,.t 66)]) 0,oI 68 (.call 121 [.t 65,.t 67]) 1,mI 69 7 1,oI 70 (.bsl none 1 [.int .u32 0] [(0,.t 69)]) 1,oI 71 (.call 117 [.t 70]) 2,oI 72 (.call 120 [.t 68,.t 71]) 2,mI 5 72 2]
def Z3z:List IOp := [mI 73 0 0,mI 74 6 0,oI 75 (.sslc (.t 73) (some (.t 74)) none) 0,mI 0 75 0]
def Zlr:CC := .seq (.seq (.rg false Zpr) (.cond (.t 44) .skip (.exit 2))) (.block 3 (.seq (.rg false Z31) (.seq (.rg false Z46) (.seq (.seq (.rg false Z1t) (.block 4 (.loop Zto))) (.seq (.rg false Z4l) (.rg false Z3z))))))
def Zqf:List IOp := [mI 76 5 0,mI 2 76 0,oI 3 (.mv (.c (.bool true))) 0]
def Ymd:CC := .seq (.rg false Z9d) (.seq (.seq (.rg false Z7k) (.block 0 (.loop Zu7))) (.seq (.seq (.rg false Zfj) (.cond (.t 42) (.seq (.rg false Zfg) .ret) .skip)) (.seq (.rg false Zp2) (.seq (.block 2 (.loop Zlr)) (.seq (.rg false Zqf) .ret)))))
abbrev Ytm:Nat:=98
theorem Ypu:fnOk Tryz.prog 98=some (77,Ymd,[.tmp 2,.tmp 3]):=by kernel_rfl
def Z4v:List IOp := [oI 2 (.alloc [.bool false,.nils,.bool false,.nils]) 0,oI 3 (.mv (.c (.bool false))) 1]
def Z4g:List IOp := [mI 15 0 0,oI 16 (.call 96 [.t 15,.c (.str ⟨#[47]⟩)]) 0,mI 14 16 0,eI 17 0 14 0,eI 18 1 14 0,eI 19 2 14 0,mI 4 17 0,mI 5 18 0,mI 6 19 0]
def Z28:List IOp := [mI 21 4 0,oI 22 (.call 97 [.t 21,.c (.str ⟨#[45]⟩)]) 0,mI 20 22 0,eI 23 0 20 0,eI 24 1 20 0,mI 7 23 0,mI 8 24 0]
def Z4e:List IOp := [mI 26 7 0,oI 27 (.call 98 [.t 26]) 0,mI 25 27 0,eI 28 0 25 0,eI 29 1 25 0,mI 9 28 0,mI 10 29 0]
def Zps:List IOp := [oI 30 (.bsl none 1 [.int .u32 0] [(0,.c (.int .u32 1))]) 0,mI 11 30 1,oI 12 (.mv (.c (.bool true))) 1]
def Zfv:List IOp := [mI 31 6 0]
def Zjq:List IOp := [mI 33 5 0,oI 34 (.call 98 [.t 33]) 0,mI 32 34 0,eI 35 0 32 0,eI 36 1 32 0,mI 11 35 0,mI 12 36 0]
def Zfs:List IOp := [mI 37 12 0,mI 38 37 0,gI 39 (.mv (.t 11)) 0 38 true,gI 40 (.bsl none 1 [.int .u32 0] [(0,.c (.int .u32 1))]) 0 38 true,gI 41 (.call 99 [.t 39,.t 40]) 1 38 true,gI 42 (.bin .gtr (.t 41) (cI 0)) 1 38 true,oI 43 (.pick (.t 38) (.t 42) (.c (.bool false))) 1,mI 12 43 1]
def Zbk:List IOp := [mI 44 10 0,oI 45 (.un .not (.t 44)) 0,mI 46 45 0,gI 47 (.mv (.t 12)) 0 46 false,gI 48 (.un .not (.t 47)) 0 46 false,oI 49 (.pick (.t 46) (.c (.bool true)) (.t 48)) 0,mI 50 49 0,gI 51 (.mv (.t 8)) 0 50 false,gI 52 (.mv (.t 51)) 0 50 false,gI 53 (.mv (.t 9)) 0 52 true,gI 54 (.len (.t 53)) 0 52 true,gI 55 (.bin .eql (.t 54) (cI 0)) 0 52 true,gI 56 (.pick (.t 52) (.t 55) (.c (.bool false))) 0 50 false,oI 57 (.pick (.t 50) (.c (.bool true)) (.t 56)) 0]
def Zbd:List IOp := [oI 58 (.build [.bool false,.nils,.bool false,.nils] []) 0,⟨none,.st 4 (.t 2) (.t 58),0,[],[],none⟩,oI 3 (.mv (.c (.bool false))) 0]
def Zb1:List IOp := [mI 59 8 0,mI 60 9 0,oI 61 (.call 100 [.t 59,.t 60]) 0,mI 62 11 0,oI 63 (.call 100 [.c (.bool false),.t 62]) 0,oI 64 (.build [.bool false,.nils,.bool false,.nils] [(0,2,.t 61),(2,2,.t 63)]) 0,oI 13 (.alloc [.bool false,.nils,.bool false,.nils]) 0,⟨none,.st 4 (.t 13) (.t 64),1,[],[],none⟩]
def Zbp:List IOp := [lJ 65 4 13 0,mI 66 6 0,oI 67 (.un .not (.t 66)) 0,mI 68 67 0,gI 69 (.fa 0 (.t 13)) 0 68 false,gI 70 (.ld (some 2) (.t 69)) 0 68 false,gI 71 (.fa 2 (.t 13)) 0 68 false,gI 72 (.ld (some 2) (.t 71)) 0 68 false,gI 73 (.call 101 [.t 70,.t 72]) 0 68 false,gI 74 (.call 83 [cI 1]) 0 68 false,gI 75 (.call 102 [.t 73,.t 74]) 0 68 false,gI 76 (.bin .eql (.t 75) (cI 0)) 0 68 false,oI 77 (.pick (.t 68) (.c (.bool true)) (.t 76)) 0,⟨none,.st 4 (.t 2) (.t 65),0,[],[],none⟩,mI 3 77 0]
@[go_sem ↓] theorem Z9l : autoK Zbp = (0, 1) := by kernel_rfl
@[go_sem] theorem Yv3 : autoK [lJ 65 4 13 0, mI 66 6 0, oI 67 (.un .not (.t 66)) 0, mI 68 67 0, gI 69 (.fa 0 (.t 13)) 0 68 false, gI 70 (.ld (some 2) (.t 69)) 0 68 false, gI 71 (.fa 2 (.t 13)) 0 68 false, gI 72 (.ld (some 2) (.t 71)) 0 68 false, gI 73 (.call 101 [.t 70, .t 72]) 0 68 false, gI 74 (.call 83 [cI 1]) 0 68 false, gI 75 (.call 102 [.t 73, .t 74]) 0 68 false, gI 76 (.bin .eql (.t 75) (cI 0)) 0 68 false, oI 77 (.pick (.t 68) (.c (.bool true)) (.t 76)) 0, ⟨none, .st 4 (.t 2) (.t 65), 0, [], [], none⟩, mI 3 77 0] = (0, 1) := Z9l
def Ygs:CC := .seq (.rg false Z4v) (.seq (.rg false Z4g) (.seq (.rg false Z28) (.seq (.rg false Z4e) (.seq (.rg false Zps) (.seq (.seq (.rg false Zfv) (.cond (.t 31) (.seq (.rg false Zjq) (.rg false Zfs)) .skip)) (.seq (.seq (.rg false Zbk) (.cond (.t 57) (.seq (.rg false Zbd) .ret) .skip)) (.seq (.rg false Zb1) (.seq (.rg true Zbp) .ret))))))))
abbrev Zqi:Nat:=68
theorem Ymr:fnOk Tryz.prog 68=some (78,Ygs,[.cell 2 (some 4),.tmp 3]):=by kernel_rfl
def Zlq:List IOp := [mI 4 0 0,oI 5 (.len (.t 4)) 0,oI 6 (.bin .sub (.t 5) (cI 1)) 0,oI 2 (.mv (cI 0)) 0,mI 3 6 0]
def Zf4:List IOp := [mI 7 2 0,mI 8 3 0,oI 9 (.bin .lss (.t 7) (.t 8)) 0]
def Zfp:List IOp := [mI 14 0 0,mI 15 2 0,mI 16 0 0,mI 17 3 0,mI 18 0 0,mI 19 3 0,xI 20 1 18 19 0,lI 21 20 0,mI 22 0 0,mI 23 2 0,xI 24 1 22 23 0,lI 25 24 0,xI 26 1 14 15 0,⟨none,.st 1 (.t 26) (.t 21),0,[],[],none⟩,xI 27 1 16 17 0,⟨none,.st 1 (.t 27) (.t 25),0,[],[],none⟩]
@[go_sem ↓] theorem Zw7 : autoK Zfp = (0, 1) := by kernel_rfl
@[go_sem] theorem Yl7 : autoK [mI 14 0 0, mI 15 2 0, mI 16 0 0, mI 17 3 0, mI 18 0 0, mI 19 3 0, xI 20 1 18 19 0, lI 21 20 0, mI 22 0 0, mI 23 2 0, xI 24 1 22 23 0, lI 25 24 0, xI 26 1 14 15 0, ⟨none, .st 1 (.t 26) (.t 21), 0, [], [], none⟩, xI 27 1 16 17 0, ⟨none, .st 1 (.t 27) (.t 25), 0, [], [], none⟩] = (0, 1) := Zw7
def Zf3:List IOp := [mI 10 2 0,oI 11 (.bin .add (.t 10) (cI 1)) 0,mI 12 3 0,oI 13 (.bin .sub (.t 12) (cI 1)) 0,mI 2 11 0,mI 3 13 0]
def Zl1:CC := .seq (.seq (.rg false Zf4) (.cond (.t 9) .skip (.exit 0))) (.seq (.block 1 (.rg true Zfp)) (.rg false Zf3))
def Ztd:CC := .seq (.rg false Zlq) (.block 0 (.loop Zl1))
abbrev Z9t:Nat:=132
theorem Z52:fnOk Tryz.prog 132=some (28,Ztd,[]):=by kernel_rfl
end GoAbs
namespace GoAbs
open Go Go.Proofs
def avF (a b:Int):AV := .agg [.bool (decide (a<0)),.sl (u32c (limbs a.natAbs)),.bool (decide (b<0)),.sl (u32c (limbs b.natAbs))]
def avQ (q:Rat):AV:=avF q.num q.den
theorem Ypl (a b:Int):avF a b = .agg [.bool (decide (a<0)),.sl (u32c (limbs a.natAbs)),.bool (decide (b<0)),.sl (u32c (limbs b.natAbs))]:=rfl
attribute [go_sem] Ypl
theorem Zez (q:Rat):avQ q=avF q.num q.den:=rfl
theorem Z14:SpecV Tryz.prog Yri [.int .i64 1] (avI 1):=Ywg (by omega) (by omega)
theorem Z6t (z:Int):SpecV Tryz.prog Yiq [avI z] (avF z 1):=by
 refine Zad Yeh (by simp) ?_
 unfold Z7t
 simp only [go_sem,Zvz,Zkj]
 refine Zaa Z14 (by simp only [go_sem]) ?_
 simp only [go_sem]
theorem Yt9 {z:Int}(h1 : -9223372036854775808≤z) (h2:z≤9223372036854775807):SpecV Tryz.prog Zqr [.int .i64 z] (avF z 1):=by
 refine Zad Yk6 (by simp) ?_
 unfold Ye2
 simp only [go_sem,Z3q,Z2b]
 refine Zaa (Ywg h1 h2) (by simp only [go_sem]) ?_
 simp only [go_sem]
 refine Zaa Z14 (by simp only [go_sem]) ?_
 simp only [go_sem]
theorem Yl1 (a b:Int):SpecV Tryz.prog Ygm [avF a b] (.int .i64 (if a=0 then 0 else if a<0 then -1 else 1)):=by
 refine Zad Yng (by simp) ?_
 unfold Yk9
 simp only [go_sem,Z8j,Z8c]
 refine Zaa (Yr0 a) (by simp only [go_sem]) ?_
 simp only [go_sem]
theorem Yof (a b:Int):SpecV Tryz.prog Ylu [avF a b] (avF (-a) b):=by
 refine Zad Yte (by simp) ?_
 unfold Yr6
 simp only [go_sem,Ydi,Z0i]
 refine Zaa (Z96 a) (by simp only [go_sem]) ?_
 simp only [go_sem]
theorem Zh1 {a b:Int}(hb:0<b):SpecV Tryz.prog Yhs [avF a b] (.bool (decide (b=1))):=by
 refine Zad Yey (by simp) ?_
 unfold Z6l
 simp only [go_sem,Zwj,Zu1,Zae]
 refine ⟨fun h=>?_,fun h=>?_⟩
 ·obtain ⟨x,hx⟩:∃ x,limbs b.natAbs = [x]:=List.length_eq_one_iff.1 (by omega)
  have hv:=Zay b.natAbs
  rw [hx] at hv ⊢
  simp only [val] at hv
  simp only [go_sem,Yl2,Zhn]
  refine ⟨fun h=>?_,fun h=>?_⟩ <;> simp <;> omega
 ·have hb1:b≠1:=fun h1=>by
   subst h1
   apply h
   have:limbs (1:Int).natAbs = [1]:=by
    show limbs 1 = [1]
    rw [Zcj (by omega),show 1 / 4294967296=0 by omega,Zap]
   rw [this]; rfl
  simp [hb1]
end GoAbs
namespace GoAbs
open Go Go.Proofs
def bl (n:Nat):Nat:=if n=0 then 0 else Nat.log2 n+1
def tab8:ByteArray:=match Zct with
 | [_,_,_,⟨_,.sidx (.c (.str s)) _,_,_,_,_⟩,_,_,_]=>s
 | _=>default
theorem Y6f:∀ k:Fin 256,tab8[k.val]? = some (UInt8.ofNat (bl k.val)):=by decide
theorem Yii {x j:Nat}(h:2 ^ j≤x):bl (x / 2 ^ j)+j=bl x:=by
 have hp:0<2 ^ j:=Nat.pow_pos (by omega)
 have hx:x≠0:=by omega
 have hd:x / 2 ^ j≠0:=by
  have:1≤x / 2 ^ j:=(Nat.le_div_iff_mul_le hp).2 (by omega)
  omega
 unfold bl
 rw [if_neg hx,if_neg hd]
 have hj:j≤x.log2:=(Nat.le_log2 hx).2 h
 have h1:2 ^ x.log2≤x:=(Nat.le_log2 hx).1 (Nat.le_refl _)
 have h2:x<2 ^ (x.log2+1):=(Nat.log2_lt hx).1 (by omega)
 have h3:x.log2 - j≤(x / 2 ^ j).log2:=by
  rw [Nat.le_log2 hd,Nat.le_div_iff_mul_le hp, ← Nat.pow_add,Nat.sub_add_cancel hj]; exact h1
 have h4:(x / 2 ^ j).log2<x.log2 - j+1:=by
  rw [Nat.log2_lt hd,Nat.div_lt_iff_lt_mul hp, ← Nat.pow_add]
  rw [show x.log2 - j+1+j=x.log2+1 by omega]; exact h2
 omega
theorem Z29 {x:Nat}(h:x<256):bl x≤8:=by
 unfold bl
 split
 ·omega
 ·rename_i hx
  have:=(Nat.log2_lt hx (k:=8)).2 (by omega)
  omega
theorem Ytc {x:Nat}(hx:x<4294967296):SpecV Tryz.prog Ykn [.int .u32 (x:Int)] (.int .i64 (bl x:Int)):=by
 refine Zad Yh2 (by simp) ?_
 unfold Ycc
 have h16:(16:Int)=((16:Nat):Int):=rfl
 have h8:(8:Int)=((8:Nat):Int):=rfl
 have e1:shrI .u32 (x:Int) 16=(x / 65536:Nat):=by rw [h16,Ze7 _ _ _ (by decide)]
 have look:∀ (k:Nat) (C:UInt8→Prop),k<256→C (UInt8.ofNat (bl k))→optC tab8[k]? C:=fun k C hk hc=>by
  rw [Y6f ⟨k,hk⟩]; exact hc
 have fin:∀ k:Nat,k<256→IntKind.i64.wrap (((UInt8.ofNat (bl k)).toNat:Nat):Int)=(bl k:Nat):=fun k hk=>by
  have:=Z29 hk
  have h1:(UInt8.ofNat (bl k)).toNat=bl k:=by rw [UInt8.toNat_ofNat']; omega
  rw [h1,Zac (by omega) (by omega)]
 have u8:∀ k:Nat,k<256→IntKind.u8.wrap (k:Int)=k:=fun k hk=>by rw [IntKind.wrap_u8]; omega
 have w8:IntKind.i64.wrap 8=8:=by decide
 have w24:IntKind.i64.wrap 24=24:=by decide
 have w0:(0:Int)+8=8:=rfl
 by_cases a1:65536≤x
 ·have q1:((65536:Int)≤(x:Int)):=by omega
  have hb1:=Yii (x:=x) (j:=16) (by omega)
  rw [show (2:Nat) ^ 16=65536 from rfl] at hb1
  by_cases a2:256≤x / 65536
  ·have hk:x / 65536 / 256<256:=by omega
   have q2:((256:Int)≤((x / 65536:Nat):Int)):=by omega
   have hb2:=Yii (x:=x / 65536) (j:=8) (by omega)
   have e2:shrI .u32 ((x / 65536:Nat):Int) 8=(x / 65536 / 256:Nat):=by rw [h8,Ze7 _ _ _ (by decide)]
   rw [show (2:Nat) ^ 8=256 from rfl] at hb2
   have e3:=u8 _ hk
   have e4:=fin _ hk
   have hn:(0:Int)≤((x / 65536 / 256:Nat):Int):=by omega
   have hs:=Z29 hk
   have e6:IntKind.i64.wrap ((24:Int)+(bl (x / 65536 / 256):Nat))=(bl x:Nat):=by rw [Zac (by omega) (by omega)]; omega
   simp only [go_sem,Zd9,Zdv,Zeg,Zd1,Zeb,Zel,Zdx,Zct,q1,q2,e1,e2,e3,hn,w8,w24]
   refine look _ _ hk ?_
   simp only [go_sem,e4,e6]
  ·have hk:x / 65536<256:=by omega
   have q2:¬ ((256:Int)≤((x / 65536:Nat):Int)):=by omega
   have e2:True:=trivial
   have e3:=u8 _ hk
   have e4:=fin _ hk
   have hn:(0:Int)≤((x / 65536:Nat):Int):=by omega
   have hs:=Z29 hk
   have e6:IntKind.i64.wrap ((16:Int)+(bl (x / 65536):Nat))=(bl x:Nat):=by rw [Zac (by omega) (by omega)]; omega
   simp only [go_sem,Zd9,Zdv,Zeg,Zd1,Zeb,Zel,Zdx,Zct,q1,q2,e1,e2,e3,hn,w8,w24]
   refine look _ _ hk ?_
   simp only [go_sem,e4,e6]
 ·have q1:¬ ((65536:Int)≤(x:Int)):=by omega
  by_cases a2:256≤x
  ·have hk:x / 256<256:=by omega
   have q2:((256:Int)≤((x:Nat):Int)):=by omega
   have hb2:=Yii (x:=x) (j:=8) (by omega)
   have e2:shrI .u32 ((x:Nat):Int) 8=(x / 256:Nat):=by rw [h8,Ze7 _ _ _ (by decide)]
   rw [show (2:Nat) ^ 8=256 from rfl] at hb2
   have e3:=u8 _ hk
   have e4:=fin _ hk
   have hn:(0:Int)≤((x / 256:Nat):Int):=by omega
   have hs:=Z29 hk
   have e6:IntKind.i64.wrap ((8:Int)+(bl (x / 256):Nat))=(bl x:Nat):=by rw [Zac (by omega) (by omega)]; omega
   simp only [go_sem,Zd9,Zdv,Zeg,Zd1,Zeb,Zel,Zdx,Zct,q1,q2,e1,e2,e3,hn,w8,w24]
   refine look _ _ hk ?_
   simp only [go_sem,e4,e6]
  ·have hk:x<256:=by omega
   have q2:¬ ((256:Int)≤((x:Nat):Int)):=by omega
   have e2:True:=trivial
   have e3:=u8 _ hk
   have e4:=fin _ hk
   have hn:(0:Int)≤((x:Nat):Int):=by omega
   have hs:=Z29 hk
   have e6:IntKind.i64.wrap ((0:Int)+(bl (x):Nat))=(bl x:Nat):=by rw [Zac (by omega) (by omega)]; omega
   simp only [go_sem,Zd9,Zdv,Zeg,Zd1,Zeb,Zel,Zdx,Zct,q1,q2,e1,e2,e3,hn,w8,w24]
   refine look _ _ hk ?_
   simp only [go_sem,e4,e6]
theorem Yo9 {x:Nat}(hx:x<4294967296) (h:bl x≤32):SpecV Tryz.prog Zuq [.int .u32 (x:Int)] (.int .i64 ((32 - bl x:Nat):Int)):=by
 refine Zad Zr4 (by simp) ?_
 unfold Zjf
 simp only [go_sem,Zgl,Zgm]
 refine Zaa (Ytc hx) (by simp only [go_sem]) ?_
 have e:IntKind.i64.wrap ((32:Int) - (bl x:Nat))=((32 - bl x:Nat):Int):=by rw [Zac (by omega) (by omega)]; omega
 simp only [go_sem,e]
end GoAbs
namespace GoAbs
theorem Yvt {p T U U' V V' g w:Nat}(hV:V=w*p+V') (hU:U=T*p+U') (hU':U'<p) (h:T<g*w):U<g*V:=by
 have h1:(T+1)*p≤g*w*p:=Nat.mul_le_mul_right _ h
 have h2:g*V=g*w*p+g*V':=by rw [hV,Nat.mul_add,Nat.mul_assoc]
 rw [Nat.add_mul] at h1
 omega
theorem Yu6 {p T U U' V V' g w B:Nat}(hV:V=w*p+V') (hV':V'<p) (hU:U=T*p+U') (h:g*w≤T) (hg:g<B) (hw:B≤w):g*V<U+V:=by
 have h1:g*w*p≤T*p:=Nat.mul_le_mul_right _ h
 have h2:g*V=g*w*p+g*V':=by rw [hV,Nat.mul_add,Nat.mul_assoc]
 have h3:g*V'≤g*p:=Nat.mul_le_mul_left _ (by omega)
 have h4:(g+1)*p≤w*p:=Nat.mul_le_mul_right _ (by omega)
 rw [Nat.add_mul] at h4
 omega
theorem Yf9 {u0 u1 u2 v1 v2 g r B:Nat}(h:g*v1+r=u0*B+u1):(g*(v1*B+v2)≤(u0*B+u1)*B+u2↔g*v2≤r*B+u2):=by
 have e:g*(v1*B+v2)=(g*v1)*B+g*v2:=by rw [Nat.mul_add,Nat.mul_assoc]
 rw [e, ← h,Nat.add_mul]
 omega
theorem Yn2 {u0 u1 v1 g r B:Nat}(h:g*v1+r=u0*B+u1) (hr:B≤r) (hu:u0≤v1) (hu1:u1<B):g<B:=by
 rcases Nat.lt_or_ge g B with h1 | h1
 ·exact h1
 ·have h2:B*v1≤g*v1:=Nat.mul_le_mul_right _ h1
  have h3:u0*B≤v1*B:=Nat.mul_le_mul_right _ hu
  rw [Nat.mul_comm B v1] at h2
  omega
theorem Ytb {U V g:Nat}(hV:0<V) (h1:U / V≤g) (h2:g*V<U+V):(g*V≤U∧g=U / V)∨(U<g*V∧g=U / V+1):=by
 have h3:=Nat.div_add_mod U V
 have h4:=Nat.mod_lt U hV
 rcases Nat.lt_or_ge U (g*V) with h | h
 ·right
  refine ⟨h,?_⟩
  have h5:g≤U / V+1:=by
   rcases Nat.lt_or_ge (U / V+1) g with h6 | h6
   ·exfalso
    have h7:(U / V+2)*V≤g*V:=Nat.mul_le_mul_right _ h6
    rw [Nat.add_mul] at h7
    rw [Nat.mul_comm V] at h3
    omega
   ·exact h6
  have h6:g≠U / V:=fun h7=>by
   rw [h7,Nat.mul_comm] at h
   omega
  omega
 ·left
  refine ⟨h,?_⟩
  have:g≤U / V:=(Nat.le_div_iff_mul_le hV).2 h
  omega
end GoAbs
namespace GoAbs
open Go Go.Proofs
theorem Yne {H:Heap}{n0 b off n:Nat}{U v:List Nat}{u0 u1 u2 v1 v2 q g0 r0:Nat}(hH:H[b]? = some (.cells (u32c U))) (hoff:off+(n+1)≤U.length) (hv:v.length=n) (hn:2≤n) (hnl:n≤549755813888)
  (gu2:U[off+(n - 2)]? = some u2) (gv1:v[n - 1]? = some v1) (gv2:v[n - 2]? = some v2) (lu1:u1<4294967296) (lu2:u2<4294967296) (lv1:v1<4294967296) (lv2:v2<4294967296) (hu0:u0≤v1)
  (hg0:g0*v1+r0=u0*4294967296+u1) (hr0:r0<4294967296) (hgl:g0<18446744073709551616) (hq0:q≤g0) (hqB:q<4294967296)
  (over:∀ g r,g*v1+r=u0*4294967296+u1→r*4294967296+u2<g*v2→q<g) {K:Ex→St→Prop}
  (hK:∀ g r e,g*v1+r=u0*4294967296+u1→q≤g→g<4294967296→g*v2≤r*4294967296+u2 →
   e 0 = .osl none b off (n+1)→e 1 = .sl (u32c v)→e 5 = .int .i64 (n:Int)→e 7 = .int .u64 (g:Int)→K (.exit 0) ⟨e,H⟩) :
  T Tryz.prog 162 n0 (.loop Zqo) ⟨envL [(0,.osl none b off (n+1)),(1,.sl (u32c v)),(5,.int .i64 (n:Int)),(7,.int .u64 (g0:Int)),(8,.int .u64 (r0:Int))],H⟩ K:=by
 refine Zaf (fun z:Nat×Nat=>⟨envL [(0,.osl none b off (n+1)),(1,.sl (u32c v)),(5,.int .i64 (n:Int)),(7,.int .u64 (z.1:Int)),(8,.int .u64 (z.2:Int))],H⟩)
  (fun z=>z.1*v1+z.2=u0*4294967296+u1∧z.2<4294967296∧z.1<18446744073709551616∧q≤z.1) (fun z=>z.1) (g0,r0) ⟨hg0,hr0,hgl,hq0⟩ (Zab _ (by simp only [go_sem])) (fun z hI N hN=>?_)
 obtain ⟨g,r⟩:=z
 obtain ⟨h1,h2,h3,h4⟩:=hI
 simp only at h1 h2 h3 h4 ⊢
 unfold Zqo
 have h32:(32:Int)=((32:Nat):Int):=rfl
 have e1:shrI .u64 (g:Int) 32=(g / 4294967296:Nat):=by rw [h32,Ze7 _ _ _ (by decide)]
 have hbl:b<H.length:=(List.getElem?_eq_some_iff.1 hH).1
 have hn1:IntKind.i64.wrap ((n:Int) - 1)=(n - 1:Nat):=by rw [Zac (by omega) (by omega)]; omega
 have hn2:IntKind.i64.wrap ((n:Int) - 2)=(n - 2:Nat):=by rw [Zac (by omega) (by omega)]; omega
 have p1:(0:Int)≤((n - 1:Nat):Int):=by omega
 have p2:(0:Int)≤((n - 2:Nat):Int):=by omega
 have p3:((n - 2:Nat):Int)<((n+1:Nat):Int):=by omega
 have w1:IntKind.u64.wrap (v1:Int)=v1:=Za5 (by omega) (by omega)
 have w2:IntKind.u64.wrap (v2:Int)=v2:=Za5 (by omega) (by omega)
 have w3:IntKind.u64.wrap (u2:Int)=u2:=Za5 (by omega) (by omega)
 have s1:IntKind.u64.wrap ((r:Int)+v1)=(r+v1:Nat):=by rw [Za5 (by omega) (by omega)]; omega
 have s2:shrI .u64 ((r+v1:Nat):Int) 32=((r+v1) / 4294967296:Nat):=by rw [h32,Ze7 _ _ _ (by decide)]
 have down:q<g→(∀ e:Nat→AV,e 0 = .osl none b off (n+1)→e 1 = .sl (u32c v)→e 5 = .int .i64 (n:Int)→e 7 = .int .u64 ((g - 1:Nat):Int)→e 8 = .int .u64 ((r+v1:Nat):Int) →
   ((r+v1)<4294967296→N ⟨e,H⟩)∧(4294967296≤r+v1→K (.exit 0) ⟨e,H⟩)):=fun hq e z0 z1 z5 z7 z8=>by
  have hstep:(g - 1)*v1+(r+v1)=u0*4294967296+u1:=by
   obtain ⟨k,rfl⟩:∃ k,g=k+1:=⟨g - 1,by omega⟩
   rw [Nat.add_mul,Nat.one_mul] at h1
   rw [Nat.add_sub_cancel]; omega
  refine ⟨fun hr=>?_,fun hr=>?_⟩
  ·refine hN (g - 1,r+v1) _ ⟨hstep,hr,by omega,by omega⟩ (by show g - 1<g; omega) ?_
   exact Zab _ (by simp only [Has,z0,z1,z5,z7,z8]; simp)
  ·have hs:=Yn2 hstep hr hu0 lu1
   refine hK (g - 1) (r+v1) e hstep (by omega) hs ?_ z0 z1 z5 z7
   have h5:(g - 1)*v2≤4294967296*v2:=Nat.mul_le_mul_right _ (by omega)
   omega
 by_cases hg:4294967296≤g
 ·have q1:(0:Int)<((g / 4294967296:Nat):Int):=by omega
  have s3:IntKind.u64.wrap ((g:Int) - 1)=(g - 1:Nat):=by rw [Za5 (by omega) (by omega)]; omega
  simp (maxSteps:=1000000) only [go_sem,Zf0,Zoj,Zod,Zov,e1,q1,hn1,p1,Zal gv1,w1,s1,s2,s3]
  refine ⟨fun h=>?_,fun h=>?_⟩
  ·exact (down (by omega) _ (by simp only [go_sem]) (by simp only [go_sem]) (by simp only [go_sem]) (by simp only [go_sem]) (by simp only [go_sem])).2 (by omega)
  ·exact (down (by omega) _ (by simp only [go_sem]) (by simp only [go_sem]) (by simp only [go_sem]) (by simp only [go_sem]) (by simp only [go_sem])).1 (by omega)
 ·have q1:¬ (0:Int)<((g / 4294967296:Nat):Int):=by omega
  have gl:g<4294967296:=by omega
  have hmul:g*v2≤4294967295*4294967295:=Nat.mul_le_mul (by omega) (by omega)
  have s4:IntKind.u64.wrap ((g:Int)*v2)=(g*v2:Nat):=by rw [← Int.natCast_mul,Za5 (by omega) (by omega)]
  have s5:shlI .u64 (r:Int) 32=(r*4294967296:Nat):=by rw [h32,Ztl _ _ (by decide)]; rw [show (2:Nat)^32=4294967296 from rfl,Nat.mod_eq_of_lt (by omega)]
  have s6:orI .u64 ((r*4294967296:Nat):Int) (u2:Int)=(r*4294967296+u2:Nat):=by rw [or64 (by omega) (by omega),Yq3 lu2]
  by_cases hc:r*4294967296+u2<g*v2
  ·have q2:((r*4294967296+u2:Nat):Int)<((g*v2:Nat):Int):=by omega
   have hqg:q<g:=over g r h1 hc
   have s3:IntKind.u64.wrap ((g:Int) - 1)=(g - 1:Nat):=by rw [Za5 (by omega) (by omega)]; omega
   simp (maxSteps:=1000000) only [go_sem,Zf0,Zoj,Zod,Zov,e1,q1,hn1,hn2,p1,p2,p3,hH,hbl,true_or,List.getElem?_drop,Zal gv1,Zal gv2,Zal gu2,w1,w2,w3,s1,s2,s3,s4,s5,s6,q2]
   refine ⟨fun h=>?_,fun h=>?_⟩
   ·exact (down (by omega) _ (by simp only [go_sem]) (by simp only [go_sem]) (by simp only [go_sem]) (by simp only [go_sem]) (by simp only [go_sem])).2 (by omega)
   ·exact (down (by omega) _ (by simp only [go_sem]) (by simp only [go_sem]) (by simp only [go_sem]) (by simp only [go_sem]) (by simp only [go_sem])).1 (by omega)
  ·have q2:¬ ((r*4294967296+u2:Nat):Int)<((g*v2:Nat):Int):=by omega
   simp (maxSteps:=1000000) only [go_sem,Zf0,e1,q1,hn1,hn2,p1,p2,p3,hH,hbl,true_or,List.getElem?_drop,Zal gv1,Zal gv2,Zal gu2,w1,w2,w3,s1,s2,s4,s5,s6,q2]
   exact hK g r _ h1 h4 gl (by omega) (by simp only [go_sem]) (by simp only [go_sem]) (by simp only [go_sem]) (by simp only [go_sem])
end GoAbs
namespace GoAbs
open Go Go.Proofs
def seg (U:List Nat) (off i:Nat):List Nat:=(U.drop off).take i
theorem Z5q {U:List Nat}{off i:Nat}(h:off+i≤U.length):(seg U off i).length=i:=by simp [seg]; omega
theorem Yrm {U:List Nat}{off i x:Nat}(h:U[off+i]? = some x):seg U off (i+1)=seg U off i ++ [x]:=by
 unfold seg
 have h1:(U.drop off)[i]? = some x:=by rw [List.getElem?_drop]; exact h
 rw [List.take_add_one,h1]; rfl
theorem Xar {U:List Nat}{off i d:Nat}(h:off+i<U.length):seg (U.set (off+i) d) off (i+1)=seg U off i ++ [d]:=by
 have h1:(U.set (off+i) d)[off+i]? = some d:=by rw [List.getElem?_set_self h]
 rw [Yrm h1]
 congr 1
 unfold seg
 rw [List.drop_set,if_neg (by omega),Nat.add_sub_cancel_left,List.take_set_of_le (Nat.le_refl _)]
theorem Zc8 {U:List Nat}{off i x:Nat}(h:U[off+i]? = some x) (hl:off+i≤U.length):val (seg U off (i+1))=val (seg U off i)+4294967296 ^ i*x:=by
 rw [Yrm h,Zbw,Z5q hl]; simp [val]
theorem Zq1 {U:List Nat}{off i d:Nat}(h:off+i<U.length):val (seg (U.set (off+i) d) off (i+1))=val (seg U off i)+4294967296 ^ i*d:=by
 rw [Xar h,Zbw,Z5q (by omega)]; simp [val]
structure Same (U U':List Nat) (off i:Nat):Prop where
 len:U'.length=U.length
 pre:U'.take off=U.take off
 post:U'.drop (off+i)=U.drop (off+i)
theorem Same.refl (U:List Nat) (off:Nat):Same U U off 0:=⟨rfl,rfl,rfl⟩
theorem Same.more {U U':List Nat}{off i j:Nat}(h:Same U U' off i) (hij:i≤j):Same U U' off j:=⟨h.len,h.pre,by
 have e:∀ V:List Nat,V.drop (off+j)=(V.drop (off+i)).drop (j - i):=fun V=>by rw [List.drop_drop]; congr 1; omega
 rw [e,e,h.post]⟩
theorem Same.set {U U':List Nat}{off i k d:Nat}(h:Same U U' off i) (hk:k<i):Same U (U'.set (off+k) d) off i :=
 ⟨by rw [List.length_set,h.len],by rw [List.take_set_of_le (by omega),h.pre],by rw [List.drop_set,if_pos (by omega),h.post]⟩
theorem Same.get {U U':List Nat}{off i k:Nat}(h:Same U U' off i) (hk:i≤k):U'[off+k]? = U[off+k]?:=by
 have e:∀ V:List Nat,V[off+k]? = (V.drop (off+i))[k - i]?:=fun V=>by rw [List.getElem?_drop]; congr 1; omega
 rw [e,e,h.post]
theorem Same.whole {U U':List Nat}{off i:Nat}(h:Same U U' off i) (hl:off+i≤U.length):U'=U.take off++seg U' off i++U.drop (off+i):=by
 rw [← h.pre, ← h.post]
 unfold seg
 rw [List.append_assoc, ← List.drop_drop,List.take_append_drop,List.take_append_drop]
theorem Yyk {g y c:Nat}(hg:g<4294967296) (hy:y<4294967296) (hc:c<4294967296) :
  ∃ t lo hi:Nat,t=g*y+c∧g*y<18446744073709551616∧t<18446744073709551616∧lo=t % 4294967296∧hi=t / 4294967296∧lo<4294967296∧hi<4294967296∧lo+4294967296*hi=g*y+c:=by
 have h:g*y≤4294967295*4294967295:=Nat.mul_le_mul (by omega) (by omega)
 exact ⟨_,_,_,rfl,by omega,by omega,rfl,rfl,by omega,by omega,by omega⟩
theorem Y5o {p B V g S W lo hi c o d o' x y:Nat}(ih:V+g*W=S+p*(c+o)) (h1:lo+B*hi=g*y+c) (h2:x+B*o'=d+lo+o) :
  (V+p*d)+g*(W+p*y)=(S+p*x)+p*B*(hi+o'):=by
 have e1:p*lo+p*B*hi=p*(g*y)+p*c:=by rw [Nat.mul_assoc, ← Nat.mul_add,h1,Nat.mul_add]
 have e2:p*x+p*B*o'=p*d+p*lo+p*o:=by rw [Nat.mul_assoc, ← Nat.mul_add,h2,Nat.mul_add,Nat.mul_add]
 rw [Nat.mul_add] at ih
 rw [Nat.mul_add g,Nat.mul_add (p*B),Nat.mul_left_comm g p y]
 omega
theorem Y0f {H:Heap}{n0 b off n:Nat}{U v:List Nat}{g:Nat}(hb:b<H.length) (hH:H[b]? = some (.cells (u32c U))) (hU:Ok32 U) (hok:Ok32 v) (hoff:off+(n+1)≤U.length) (hv:v.length=n) (hnl:n≤549755813888)
  (hg:g<4294967296) {K:Ex→St→Prop}
  (hK:∀ U' c o e,Same U U' off n→Ok32 U'→c<4294967296→o≤1→val (seg U' off n)+g*val v=val (seg U off n)+4294967296 ^ n*(c+o) →
   e 0 = .osl none b off (n+1)→e 1 = .sl (u32c v)→e 5 = .int .i64 (n:Int)→e 7 = .int .u64 (g:Int)→e 9 = .int .u64 (c:Int)→e 10 = .int .u32 (o:Int)→K (.exit 2) ⟨e,H.set b (.cells (u32c U'))⟩) :
  T Tryz.prog 162 n0 (.loop Zqs) ⟨envL [(0,.osl none b off (n+1)),(1,.sl (u32c v)),(5,.int .i64 (n:Int)),(7,.int .u64 (g:Int)),(9,.int .u64 0),(10,.int .u32 0),(83,.int .i64 (n:Int)),(84,.int .i64 0)],H⟩ K:=by
 have hset:H=H.set b (.cells (u32c U)):=by
  apply List.ext_getElem?
  intro i
  by_cases h:b=i
  ·subst h; rw [List.getElem?_set_self hb,hH]
  ·rw [List.getElem?_set_ne h]
 refine Zaf (fun z:Nat×List Nat×Nat×Nat=>⟨envL [(0,.osl none b off (n+1)),(1,.sl (u32c v)),(5,.int .i64 (n:Int)),(7,.int .u64 (g:Int)),(9,.int .u64 (z.2.2.1:Int)),(10,.int .u32 (z.2.2.2:Int)),(83,.int .i64 (n:Int)),(84,.int .i64 (z.1:Int))],H.set b (.cells (u32c z.2.1))⟩)
  (fun z=>z.1≤n∧Same U z.2.1 off z.1∧Ok32 z.2.1∧z.2.2.1<4294967296∧z.2.2.2≤1∧val (seg z.2.1 off z.1)+g*val (v.take z.1)=val (seg U off z.1)+4294967296 ^ z.1*(z.2.2.1+z.2.2.2)) (fun z=>n - z.1) (0,U,0,0)
  ⟨by simp,Same.refl _ _,hU,by simp,by simp,by simp [seg,val]⟩ (by rw [← hset]; exact Zab _ (by simp only [go_sem]; simp)) (fun z hI N hN=>?_)
 obtain ⟨i,U',c,o⟩:=z
 obtain ⟨h1,h2,h3,h4,h5,h6⟩:=hI
 simp only at h1 h2 h3 h4 h5 h6 ⊢
 have hlen:=h2.len
 have hbs:∀ bl:Blk,(H.set b bl)[b]? = some bl:=fun bl=>List.getElem?_set_self hb
 unfold Zqs
 by_cases hi:i<n
 ·have gv:=getElem?_getD (show i<v.length by omega)
  have hgv:=hok.get gv
  generalize hy:v.getD i 0=y at gv hgv
  have gu:=getElem?_getD (show off+i<U'.length by omega)
  have hgu:=h3.get gu
  generalize hx:U'.getD (off+i) 0=x at gu hgu
  obtain ⟨t,lo,hh,ht,k1,k2,hlo,hhh,k3,k4,k5⟩:=Yyk hg hgv h4
  obtain ⟨d,o',hd,ho',hw,hs⟩:=Yaa x lo o hgu k3 h5
  have p1:(i:Int)<(n:Int):=by omega
  have p2:(0:Int)≤(i:Int):=by omega
  have p3:(i:Int)<((n+1:Nat):Int):=by omega
  have e1:IntKind.u64.wrap (y:Int)=y:=Za5 (by omega) (by omega)
  have e2:IntKind.u64.wrap ((g:Int)*y)=(g*y:Nat):=by rw [← Int.natCast_mul,Za5 (by omega) (by omega)]
  have e3:IntKind.u64.wrap (((g*y:Nat):Int)+c)=(t:Nat):=by rw [← Int.natCast_add, ← ht,Za5 (by omega) (by omega)]
  have e4:shrI .u64 (t:Int) 32=(hh:Nat):=by
   have h32:(32:Int)=((32:Nat):Int):=rfl
   rw [h32,Ze7 _ _ _ (by decide),hhh]
  have e5:IntKind.u32.wrap (t:Int)=(lo:Nat):=by rw [Z0v,hlo]
  have e6:IntKind.i64.wrap ((i:Int)+1)=(i+1:Nat):=by rw [Zac (by omega) (by omega)]; omega
  have hl1:off+i+1≤(u32c U').length:=by rw [Zae]; omega
  simp only [go_sem,Zm6,Zy7,Zyd,Zzo,Zzx,Zxz,p1,p2,p3,Zal gv,e1,e2,e3,e4,e5,hbs,List.getElem?_drop,Zal gu]
  refine Zus hs (ids := []) (by simp only [go_sem]) (.inl rfl) (fun b hb=>by simp at hb) ?_
  simp only [go_sem,p2,p3,hbs,hl1,e6]
  rw [Za6 (by rw [Zae]; omega),Zcx,List.set_set]
  refine hN (i+1,U'.set (off+i) d,hh,o') _ ⟨hi,(h2.more (by omega)).set (by omega),h3.set hd,k4,ho',?_⟩ (by show n - (i+1)<n - i; omega) (Zab _ (by simp only [go_sem]))
  have gU:U[off+i]? = some x:=by rw [← h2.get (Nat.le_refl _)]; exact gu
  simp only
  rw [Zq1 (by omega),Zaq gv,Zc8 gU (by omega),Nat.pow_succ]
  exact Y5o h6 k5 hw
 ·have hin:i=n:=by omega
  subst hin
  have p1:¬ (i:Int)<(i:Int):=by omega
  simp only [go_sem,Zm6,p1]
  rw [← hv,List.take_length,hv] at h6
  exact hK U' c o _ h2 h3 h4 h5 h6 (by simp only [go_sem]) (by simp only [go_sem]) (by simp only [go_sem]) (by simp only [go_sem]) (by simp only [go_sem]) (by simp only [go_sem])
theorem Y47 {p B V S W o d o' x y:Nat}(ih:V+p*o=S+W) (h:d+B*o'=x+y+o):(V+p*d)+p*B*o'=(S+p*x)+(W+p*y):=by
 have e1:p*d+p*B*o'=p*x+p*y+p*o:=by rw [Nat.mul_assoc, ← Nat.mul_add,h,Nat.mul_add,Nat.mul_add]
 omega
theorem Y24 (x y c:Nat) (hx:x<4294967296) (hy:y<4294967296) (hc:c≤1) :
  ∃ d c':Nat,d<4294967296∧c'≤1∧d+4294967296*c'=x+y+c∧SpecV Tryz.prog Z8s [.int .u32 x,.int .u32 y,.int .u32 c] (.tup [.int .u32 (d:Nat),.int .u32 (c':Nat)]) :=
 ⟨_,_,by omega,by omega,by omega,Yfi x y c hx hy hc⟩
theorem Ywz {H:Heap}{n0 b off n:Nat}{U v:List Nat}{g:Nat}(hb:b<H.length) (hH:H[b]? = some (.cells (u32c U))) (hU:Ok32 U) (hok:Ok32 v) (hoff:off+(n+1)≤U.length) (hv:v.length=n) (hnl:n≤549755813888)
  {K:Ex→St→Prop}
  (hK:∀ U' o e,Same U U' off n→Ok32 U'→o≤1→val (seg U' off n)+4294967296 ^ n*o=val (seg U off n)+val v →
   e 0 = .osl none b off (n+1)→e 5 = .int .i64 (n:Int)→e 7 = .int .u64 (g:Int)→e 13 = .int .u32 (o:Int)→K (.exit 4) ⟨e,H.set b (.cells (u32c U'))⟩) :
  T Tryz.prog 162 n0 (.loop Zqe) ⟨envL [(0,.osl none b off (n+1)),(1,.sl (u32c v)),(5,.int .i64 (n:Int)),(7,.int .u64 (g:Int)),(13,.int .u32 0),(132,.int .i64 (n:Int)),(133,.int .i64 0)],H⟩ K:=by
 have hset:H=H.set b (.cells (u32c U)):=by
  apply List.ext_getElem?
  intro i
  by_cases h:b=i
  ·subst h; rw [List.getElem?_set_self hb,hH]
  ·rw [List.getElem?_set_ne h]
 refine Zaf (fun z:Nat×List Nat×Nat=>⟨envL [(0,.osl none b off (n+1)),(1,.sl (u32c v)),(5,.int .i64 (n:Int)),(7,.int .u64 (g:Int)),(13,.int .u32 (z.2.2:Int)),(132,.int .i64 (n:Int)),(133,.int .i64 (z.1:Int))],H.set b (.cells (u32c z.2.1))⟩)
  (fun z=>z.1≤n∧Same U z.2.1 off z.1∧Ok32 z.2.1∧z.2.2≤1∧val (seg z.2.1 off z.1)+4294967296 ^ z.1*z.2.2=val (seg U off z.1)+val (v.take z.1)) (fun z=>n - z.1) (0,U,0)
  ⟨by simp,Same.refl _ _,hU,by simp,by simp [seg,val]⟩ (by rw [← hset]; exact Zab _ (by simp only [go_sem]; simp)) (fun z hI N hN=>?_)
 obtain ⟨i,U',o⟩:=z
 obtain ⟨h1,h2,h3,h5,h6⟩:=hI
 simp only at h1 h2 h3 h5 h6 ⊢
 have hlen:=h2.len
 have hbs:∀ bl:Blk,(H.set b bl)[b]? = some bl:=fun bl=>List.getElem?_set_self hb
 have hm:Tryz.prog.follows .mixedOrders=true:=by kernel_rfl
 unfold Zqe
 by_cases hi:i<n
 ·have gv:=getElem?_getD (show i<v.length by omega)
  have hgv:=hok.get gv
  generalize hy:v.getD i 0=y at gv hgv
  have gu:=getElem?_getD (show off+i<U'.length by omega)
  have hgu:=h3.get gu
  generalize hx:U'.getD (off+i) 0=x at gu hgu
  obtain ⟨d,o',hd,ho',hw,hs⟩:=Y24 x y o hgu hgv h5
  have p1:(i:Int)<(n:Int):=by omega
  have p2:(0:Int)≤(i:Int):=by omega
  have p3:(i:Int)<((n+1:Nat):Int):=by omega
  have e6:IntKind.i64.wrap ((i:Int)+1)=(i+1:Nat):=by rw [Zac (by omega) (by omega)]; omega
  have hl1:off+i+1≤(u32c U').length:=by rw [Zae]; omega
  simp only [go_sem,Zna,Zxh,Zmb,Zy3,p1,p2,p3,Zal gv,hbs,List.getElem?_drop,Zal gu,List.length_set,hb,hm]
  refine Zus hs (ids := []) (by simp only [go_sem]) (.inl rfl) (fun b hb=>by simp at hb) ?_
  simp only [go_sem,p2,p3,hbs,hl1,e6,List.length_set,hb]
  rw [Za6 (by rw [Zae]; omega),Zcx,List.set_set]
  refine hN (i+1,U'.set (off+i) d,o') _ ⟨hi,(h2.more (by omega)).set (by omega),h3.set hd,ho',?_⟩ (by show n - (i+1)<n - i; omega) (Zab _ (by simp only [go_sem]))
  have gU:U[off+i]? = some x:=by rw [← h2.get (Nat.le_refl _)]; exact gu
  simp only
  rw [Zq1 (by omega),Zaq gv,Zc8 gU (by omega),Nat.pow_succ]
  exact Y47 h6 hw
 ·have hin:i=n:=by omega
  subst hin
  have p1:¬ (i:Int)<(i:Int):=by omega
  simp only [go_sem,Zna,p1]
  rw [← hv,List.take_length,hv] at h6
  exact hK U' o _ h2 h3 h5 h6 (by simp only [go_sem]) (by simp only [go_sem]) (by simp only [go_sem]) (by simp only [go_sem])
end GoAbs
namespace GoAbs
open Go Go.Proofs
theorem split2 {p B V' v2 v1 V:Nat}(h:V=V'+p*v2+p*B*v1):V=(v1*B+v2)*p+V':=by
 rw [h,Nat.add_mul,Nat.mul_assoc p B v1,Nat.mul_comm v1 B,Nat.mul_comm (B*v1) p,Nat.mul_comm v2 p]; omega
theorem split3 {p B U' u2 u1 u0 U:Nat}(h:U=U'+p*u2+p*B*u1+p*B*B*u0):U=((u0*B+u1)*B+u2)*p+U':=by
 rw [h]
 have e1:p*B*u1=u1*B*p:=by rw [Nat.mul_comm p B,Nat.mul_comm (B*p),Nat.mul_assoc]
 have e2:p*B*B*u0=u0*B*B*p:=by rw [Nat.mul_comm _ u0,Nat.mul_assoc p,Nat.mul_comm p,Nat.mul_assoc u0 B B, ← Nat.mul_assoc u0]
 rw [Nat.add_mul,Nat.add_mul,Nat.add_mul,e1,e2,Nat.mul_comm p u2]; omega
theorem Yn0 {p B U U' V V' u0 u1 u2 v1 v2:Nat}(hB:0<B) (hp:0<p) (hV:V=(v1*B+v2)*p+V') (hV':V'<p) (hU:U=((u0*B+u1)*B+u2)*p+U') (hU':U'<p)
  (hv1:0<v1) (hv2:v2<B) (hu1:u1<B) (hu2:u2<B) (hlt:U<B*V) :
  u0≤v1∧U / V<B∧0<V∧U / V≤(u0*B+u1) / v1∧(∀ g r,g*v1+r=u0*B+u1→r*B+u2<g*v2→U / V<g) ∧
  (∀ g r,g*v1+r=u0*B+u1→U / V≤g→g<B→g*v2≤r*B+u2→(g*V≤U∧g=U / V)∨(U<g*V∧g=U / V+1)):=by
 have hw:0<v1*B:=Nat.mul_pos hv1 hB
 have hVpos:0<V:=by
  have:0<(v1*B+v2)*p:=Nat.mul_pos (by omega) hp
  omega
 have hq:U / V<B:=(Nat.div_lt_iff_lt_mul hVpos).2 hlt
 refine ⟨?_,hq,hVpos,?_,fun g r h1 h2=>?_,fun g r h1 h2 h3 h4=>?_⟩
 ·rcases Nat.lt_or_ge v1 u0 with h | h
  ·exfalso
   have h1:(v1+1)*B*B*p≤u0*B*B*p:=Nat.mul_le_mul_right _ (Nat.mul_le_mul_right _ (Nat.mul_le_mul_right _ h))
   have h2:V<(v1+1)*B*p:=by
    have h3:V<(v1*B+v2+1)*p:=by rw [hV,Nat.add_mul (v1*B+v2)]; omega
    have h4:(v1*B+v2+1)*p≤(v1*B+B)*p:=Nat.mul_le_mul_right _ (by omega)
    have h5:(v1+1)*B=v1*B+B:=by rw [Nat.add_mul]; omega
    rw [h5]; omega
   have h3:B*V<B*((v1+1)*B*p):=Nat.mul_lt_mul_of_pos_left h2 hB
   have h4:B*((v1+1)*B*p)=(v1+1)*B*B*p:=by rw [Nat.mul_comm B,Nat.mul_assoc _ p B,Nat.mul_comm p B, ← Nat.mul_assoc]
   have h5:u0*B*B*p≤U:=by
    rw [hU]
    have:u0*B*B≤(u0*B+u1)*B+u2:=by rw [Nat.add_mul]; omega
    have:=Nat.mul_le_mul_right p this
    omega
   omega
  ·exact h
 ·rw [Nat.le_div_iff_mul_le hv1]
  
  have h1:U / V*V≤U:=Nat.div_mul_le_self _ _
  have h2:U / V*(v1*B*p)≤U / V*V:=Nat.mul_le_mul_left _ (by rw [hV,Nat.add_mul]; omega)
  have h3:U<(u0*B+u1+1)*B*p:=by
   have h4:U<((u0*B+u1)*B+u2+1)*p:=by rw [hU,Nat.add_mul _ 1]; omega
   have h5:((u0*B+u1)*B+u2+1)*p≤((u0*B+u1)*B+B)*p:=Nat.mul_le_mul_right _ (by omega)
   have h6:(u0*B+u1+1)*B=(u0*B+u1)*B+B:=by rw [Nat.add_mul]; omega
   rw [h6]; omega
  have h4:U / V*v1*(B*p)<(u0*B+u1+1)*(B*p):=by
   have e1:U / V*v1*(B*p)=U / V*(v1*B*p):=by rw [Nat.mul_assoc,Nat.mul_assoc v1]
   have e2:(u0*B+u1+1)*(B*p)=(u0*B+u1+1)*B*p:=by rw [Nat.mul_assoc]
   rw [e1,e2]; omega
  have:=Nat.lt_of_mul_lt_mul_right h4
  omega
 ·have h3:¬ g*(v1*B+v2)≤(u0*B+u1)*B+u2:=fun h=>by
   rw [Yf9 h1] at h
   omega
  have h4:=Yvt hV hU hU' (Nat.lt_of_not_le h3)
  exact (Nat.div_lt_iff_lt_mul hVpos).2 h4
 ·have h5:=(Yf9 (B:=B) (u2:=u2) (v2:=v2) h1).2 h4
  exact Ytb hVpos h2 (Yu6 hV hV' hU h5 h3 (by
   have:1*B≤v1*B:=Nat.mul_le_mul_right _ hv1
   omega))
theorem Y2c {a b:Nat}(h:a<18446744073709551616):IntKind.u64.wrap ((a:Int).tdiv b)=(a / b:Nat):=by
 have h1:(a:Int).tdiv b=((a / b:Nat):Int):=(Int.ofNat_tdiv _ _).symm
 have h2:=Nat.div_le_self a b
 rw [h1]
 generalize a / b=q at *
 rw [Za5 (by omega) (by omega)]
theorem Zww {a b:Nat}:(a:Int).tmod b=(a % b:Nat):=(Int.ofNat_tmod _ _).symm
theorem shl32 {r:Nat}(h:r<4294967296):shlI .u64 (r:Int) 32=(r*4294967296:Nat):=by
 have h32:(32:Int)=((32:Nat):Int):=rfl
 rw [h32,Ztl _ _ (by decide)]; rw [show (2:Nat)^32=4294967296 from rfl,Nat.mod_eq_of_lt (by omega)]
theorem Xgm {a b:Nat}(ha:a<4294967296) (hb:b<4294967296):orI .u64 ((a*4294967296:Nat):Int) (b:Int)=(a*4294967296+b:Nat):=by rw [or64 (by omega) (by omega),Yq3 hb]
theorem Y2o (x:Nat):∃ y k,y<4294967296∧y+4294967296*k=x∧y=x % 4294967296:=⟨_,_,Nat.mod_lt _ (by omega),Nat.mod_add_div x 4294967296,rfl⟩
theorem Xbg {H:Heap}{b:Nat}{bl:Blk}(hb:b<H.length):(H.set b bl)[b]? = some bl:=List.getElem?_set_self hb
theorem Ylm {U:List Nat}{off k X:Nat}(hU:Ok32 U) (hl:off+k≤U.length) (h:val (seg U off k)=X):seg U off k=fixL k X:=by
 have h1:(seg U off k).length=k:=Z5q hl
 have h2:Ok32 (seg U off k):=fun x hx=>hU x (List.mem_of_mem_drop (List.mem_of_mem_take hx))
 have:=Yhu h2
 rw [h1,h] at this
 exact this.symm
theorem Yzs {p B W g s S c o d x o':Nat}(h:s+g*W=S+p*(c+o)) (hw:x+B*o'=d+c+o):s+p*d+g*W=S+p*x+p*B*o':=by
 have e:p*x+p*B*o'=p*d+p*c+p*o:=by rw [Nat.mul_assoc, ← Nat.mul_add,hw,Nat.mul_add,Nat.mul_add]
 rw [Nat.mul_add] at h
 omega
theorem Xao {p B s x o k y s3 W:Nat}(h1:s3+p*o=s+W) (h2:y+B*k=x+o):s3+p*y+p*B*k=s+p*x+W:=by
 have e:p*y+p*B*k=p*x+p*o:=by rw [Nat.mul_assoc, ← Nat.mul_add,h2,Nat.mul_add]
 omega
theorem Y6a {Z s1 s2 W S g q rr k:Nat}(tot:s1+g*W=S+Z*1) (tot2:s2+Z*k=s1+W) (hg:g=q+1) (hdm:q*W+rr=S) (hml:rr<W) (b2:s2<Z) (hW:W≤Z):s2=rr:=by
 rw [hg,Nat.add_mul] at tot
 have h1:s2+Z*k=rr+Z:=by omega
 have hk:k=1:=by
  rcases Nat.lt_or_ge k 1 with h | h
  ·have:k=0:=by omega
   subst this
   omega
  ·rcases Nat.lt_or_ge 1 k with h2 | h2
   ·exfalso
    have:=Nat.mul_le_mul_left Z h2
    omega
   ·omega
 subst hk
 omega
theorem Yt1 {H:Heap}{b off m:Nat}{U v:List Nat}{v1:Nat}(hH:H[b]? = some (.cells (u32c U))) (hU:Ok32 U) (hok:Ok32 v) (hoff:off+(m+3)≤U.length) (hv:v.length=m+2) (hnl:m+2≤549755813888)
  (gv1:v[m+1]? = some v1) (hv1:0<v1) (hlt:val (seg U off (m+3))<4294967296*val v) :
  SpecR Tryz.prog Yn4 H [.osl none b off (m+3),.sl (u32c v)] (.int .u32 ((val (seg U off (m+3)) / val v:Nat):Int))
   (H.set b (.cells (u32c (U.take off++fixL (m+3) (val (seg U off (m+3)) % val v)++U.drop (off+(m+3)))))):=by
 have hb:b<H.length:=(List.getElem?_eq_some_iff.1 hH).1
 have gu0:=getElem?_getD (show off+(m+2)<U.length by omega)
 have gu1:=getElem?_getD (show off+(m+1)<U.length by omega)
 have gu2:=getElem?_getD (show off+m<U.length by omega)
 have gv2:=getElem?_getD (show m<v.length by omega)
 have lu0:=hU.get gu0
 have lu1:=hU.get gu1
 have lu2:=hU.get gu2
 have lv1:=hok.get gv1
 have lv2:=hok.get gv2
 generalize U.getD (off+(m+2)) 0=u0 at gu0 lu0
 generalize U.getD (off+(m+1)) 0=u1 at gu1 lu1
 generalize U.getD (off+m) 0=u2 at gu2 lu2
 generalize v.getD m 0=v2 at gv2 lv2
 have hm:Tryz.prog.follows .mixedOrders=true:=by kernel_rfl
 have okS:∀ k,Ok32 (seg U off k):=fun k x hx=>hU x (List.mem_of_mem_drop (List.mem_of_mem_take hx))
 have sV:val v=val (v.take m)+4294967296 ^ m*v2+4294967296 ^ m*4294967296*v1:=by
  have h1:=Zaq gv2
  have h2:=Zaq gv1
  rw [List.take_of_length_le (by omega)] at h2
  rw [h2,h1,Nat.pow_succ]
 have sU:val (seg U off (m+3))=val (seg U off m)+4294967296 ^ m*u2+4294967296 ^ m*4294967296*u1+4294967296 ^ m*4294967296*4294967296*u0:=by
  rw [Zc8 gu0 (by omega),Zc8 gu1 (by omega),Zc8 gu2 (by omega)]
  have e1:4294967296 ^ (m+1)=4294967296 ^ m*4294967296:=Nat.pow_succ _ _
  have e2:4294967296 ^ (m+2)=4294967296 ^ (m+1)*4294967296:=Nat.pow_succ _ _
  rw [e2,e1]
 have lV:val (v.take m)<4294967296 ^ m:=by
  have:=Zz2 (hok.take (n:=m))
  rwa [List.length_take,Nat.min_eq_left (by omega)] at this
 have lU:val (seg U off m)<4294967296 ^ m:=by
  have:=Zz2 (okS m)
  rwa [Z5q (by omega)] at this
 have hVn:val v<4294967296 ^ (m+2):=by
  have:=Zz2 hok
  rwa [hv] at this
 generalize hSS:val (seg U off (m+3))=S at sU hlt ⊢
 have hSn:S=val (seg U off (m+2))+4294967296 ^ (m+2)*u0:=by rw [← hSS,Zc8 gu0 (by omega)]
 obtain ⟨hu0,hqB,hVpos,hq0,over,quot⟩:=Yn0 (by omega) (Nat.pow_pos (by omega)) (split2 sV) lV (split3 sU) lU hv1 lv2 lu1 lu2 hlt
 have htop:u0*4294967296+u1<18446744073709551616:=by omega
 have hg0:(u0*4294967296+u1) / v1*v1+(u0*4294967296+u1) % v1=u0*4294967296+u1:=by rw [Nat.mul_comm]; exact Nat.div_add_mod _ _
 have hr0:(u0*4294967296+u1) % v1<v1:=Nat.mod_lt _ hv1
 have hgl:(u0*4294967296+u1) / v1<18446744073709551616:=Nat.lt_of_le_of_lt (Nat.div_le_self _ _) htop
 refine Z05 Yl9 (by simp) ?_
 unfold Yfz
 have hn1:IntKind.i64.wrap (((m+2:Nat):Int) - 1)=(m+1:Nat):=by rw [Zac (by omega) (by omega)]; omega
 have p0:(0:Int)≤((m+2:Nat):Int):=by omega
 have p1:(0:Int)≤((m+1:Nat):Int):=by omega
 have p2:((m+2:Nat):Int)<((m+3:Nat):Int):=by omega
 have p3:((m+1:Nat):Int)<((m+3:Nat):Int):=by omega
 have w0:IntKind.u64.wrap (u0:Int)=u0:=Za5 (by omega) (by omega)
 have w1:IntKind.u64.wrap (u1:Int)=u1:=Za5 (by omega) (by omega)
 have w2:IntKind.u64.wrap (v1:Int)=v1:=Za5 (by omega) (by omega)
 have s1:shlI .u64 (u0:Int) 32=(u0*4294967296:Nat):=shl32 lu0
 have s2:orI .u64 ((u0*4294967296:Nat):Int) (u1:Int)=(u0*4294967296+u1:Nat):=Xgm lu0 lu1
 have s3:IntKind.u64.wrap (((u0*4294967296+u1:Nat):Int).tdiv v1)=((u0*4294967296+u1) / v1:Nat):=Y2c htop
 have s4:((u0*4294967296+u1:Nat):Int).tmod v1=((u0*4294967296+u1) % v1:Nat):=Zww
 have hv0:((v1:Nat):Int)≠0:=by omega
 simp only [go_sem,Z48,Z1r,Zpv,Zpk,Zae,hv,hn1,p0,p1,p2,p3,hH,hb,hm,List.getElem?_drop,Zal gu0,Zal gu1,Zal gv1,w0,w1,w2,s1,s2,s3,s4,hv0]
 refine Zar [(0,.osl none b off (m+2+1)),(1,.sl (u32c v)),(5,.int .i64 ((m+2:Nat):Int)),(7,.int .u64 (((u0*4294967296+u1) / v1:Nat):Int)),(8,.int .u64 (((u0*4294967296+u1) % v1:Nat):Int))] (by simp only [go_sem])
  (Yne (q:=S / val v) hH hoff hv (by omega) hnl gu2 gv1 gv2 lu1 lu2 lv1 lv2 hu0 hg0 (by omega) hgl hq0 hqB over (fun g r e q1 q2 q3 q4 e0 e1 e5 e7=>?_))
 have hqt:=quot g r q1 q2 q3 q4
 simp only [go_sem,Z3x,Zyn,e0,e1,e5,e7,Zae,hv]
 refine Zar [(0,.osl none b off (m+2+1)),(1,.sl (u32c v)),(5,.int .i64 ((m+2:Nat):Int)),(7,.int .u64 (g:Int)),(9,.int .u64 0),(10,.int .u32 0),(83,.int .i64 ((m+2:Nat):Int)),(84,.int .i64 0)] (by simp only [go_sem,e0,e1,e5,e7])
  (Y0f hb hH hU hok hoff hv hnl q3 (fun U' c o e k1 k2 k3 k4 k5 z0 z1 z5 z7 z9 z10=>?_))
 have hlen:=k1.len
 have g0:U'[off+(m+2)]? = some u0:=by rw [k1.get (Nat.le_refl _)]; exact gu0
 obtain ⟨d,o',hd,ho',hw,hs⟩:=Yaa u0 c o lu0 k3 k4
 have hbs:∀ bl:Blk,(H.set b bl)[b]? = some bl:=fun bl=>Xbg hb
 have wc:IntKind.u32.wrap (c:Int)=c:=Zf9 (by omega) (by omega)
 have p4:((m+2:Nat):Int)<((m+2+1:Nat):Int):=by omega
 simp only [go_sem,Zys,z0,z1,z5,z7,z9,z10,p0,p4,hbs,List.getElem?_drop,Zal g0,wc]
 refine Zus hs (ids := []) (by simp only [go_sem]) (.inl rfl) (fun b hb=>by simp at hb) ?_
 have hl1:off+(m+2)+1≤(u32c U').length:=by rw [Zae]; omega
 have hset1:val (seg (U'.set (off+(m+2)) d) off (m+3))=val (seg U' off (m+2))+4294967296 ^ (m+2)*d:=Zq1 (by omega)
 have ok1:Ok32 (U'.set (off+(m+2)) d):=k2.set hd
 have same1:Same U (U'.set (off+(m+2)) d) off (m+3):=(k1.more (by omega)).set (by omega)
 have tot:val (seg (U'.set (off+(m+2)) d) off (m+3))+g*val v=S+4294967296 ^ (m+2)*4294967296*o':=by rw [hset1,hSn]; exact Yzs k5 hw
 have bnd:∀ V:List Nat,Ok32 V→V.length=U.length→val (seg V off (m+3))<4294967296 ^ (m+2)*4294967296:=fun V hV hVl=>by
  have h1:Ok32 (seg V off (m+3)):=fun x hx=>hV x (List.mem_of_mem_drop (List.mem_of_mem_take hx))
  have:=Zz2 h1
  rwa [Z5q (by omega),Nat.pow_succ] at this
 have hsetL:(U'.set (off+(m+2)) d).length=U.length:=same1.len
 have b1:=bnd _ ok1 hsetL
 simp only [go_sem,z0,z1,z5,z7,z9,z10,p0,p4,hbs,hl1,Zxw]
 rw [Za6 (by rw [Zae]; omega),Zcx,List.set_set]
 generalize hU1:U'.set (off+(m+2)) d=U1 at *
 have hdm:=Nat.div_add_mod S (val v)
 have hml:=Nat.mod_lt S hVpos
 rw [Nat.mul_comm] at hdm
 have hWZ:val v≤4294967296 ^ (m+2)*4294967296:=Nat.le_trans (Nat.le_of_lt hVn) (Nat.le_mul_of_pos_right _ (by omega))
 generalize hqd:S / val v=q at *
 generalize hrd:S % val v=rr at *
 refine ⟨fun h=>?_,fun h=>?_⟩
 ·
  have ho1:o'=1:=by omega
  subst ho1
  have hg:U1.length=U1.length:=rfl
  rcases hqt with ⟨t1,t2⟩ | ⟨t1,t2⟩
  ·exfalso; omega
  have sg:IntKind.u64.wrap ((g:Int) - 1)=(g - 1:Nat):=by rw [Za5 (by omega) (by omega)]; omega
  simp only [go_sem,Zxb,Zzr,Zyu,z0,z1,z5,z7,Zae,hv,sg]
  have hb':b<(H.set b (.cells (u32c U1))).length:=by rw [List.length_set]; exact hb
  refine Zar [(0,.osl none b off (m+2+1)),(1,.sl (u32c v)),(5,.int .i64 ((m+2:Nat):Int)),(7,.int .u64 ((g - 1:Nat):Int)),(13,.int .u32 0),(132,.int .i64 ((m+2:Nat):Int)),(133,.int .i64 0)] (by simp only [go_sem,z0,z1,z5,z7])
   (Ywz hb' (hbs _) ok1 hok (by omega) hv hnl (fun U2 ov e j1 j2 j3 j4 y0 y5 y7 y13=>?_))
  rw [List.set_set]
  have gd:U1[off+(m+2)]? = some d:=by rw [← hU1]; exact List.getElem?_set_self (by omega)
  have g2:U2[off+(m+2)]? = some d:=by rw [j1.get (Nat.le_refl _)]; exact gd
  have hlen2:=j1.len
  obtain ⟨y,k,hy,hk,hyk⟩:∃ y k,y<4294967296∧y+4294967296*k=d+ov∧y=(d+ov) % 4294967296:=Y2o _
  have wy:IntKind.u32.wrap ((d:Int)+ov)=y:=by rw [← Int.natCast_add,Z0v,hyk]
  have hl2:off+(m+2)+1≤(u32c U2).length:=by rw [Zae]; omega
  have wg:IntKind.u32.wrap ((g - 1:Nat):Int)=((g - 1:Nat):Int):=Zf9 (by omega) (by omega)
  simp only [go_sem,Zw9,Zl7,y0,y5,y7,y13,p0,p4,hbs,List.getElem?_drop,Zal g2,wy,hl2,wg]
  rw [Za6 (by rw [Zae]; omega),Zcx,List.set_set]
  have same2:Same U (U2.set (off+(m+2)) y) off (m+3):=by
   have h1:Same U1 (U2.set (off+(m+2)) y) off (m+3):=(j1.more (by omega)).set (by omega)
   exact ⟨h1.len.trans same1.len,h1.pre.trans same1.pre,h1.post.trans same1.post⟩
  have ok2:Ok32 (U2.set (off+(m+2)) y):=j2.set hy
  have b2:=bnd _ ok2 same2.len
  have v2:val (seg (U2.set (off+(m+2)) y) off (m+3))=val (seg U2 off (m+2))+4294967296 ^ (m+2)*y:=Zq1 (by omega)
  have v1':val (seg U1 off (m+3))=val (seg U1 off (m+2))+4294967296 ^ (m+2)*d:=Zc8 gd (by omega)
  have tot2:=Xao (B:=4294967296) j4 hk
  rw [← v2, ← v1'] at tot2
  have e1:val (seg (U2.set (off+(m+2)) y) off (m+3))=rr:=by
   exact Y6a tot tot2 t2 hdm hml b2 hWZ
  rw [same2.whole (by omega),Ylm ok2 (by rw [same2.len]; omega) e1]
  have e3:g - 1=q:=by omega
  rw [e3]
  trivial
 ·have ho0:o'=0:=by omega
  subst ho0
  rcases hqt with ⟨t1,t2⟩ | ⟨t1,t2⟩
  ·have wg:IntKind.u32.wrap (g:Int)=g:=Zf9 (by omega) (by omega)
   simp only [go_sem,Zl7,z7,wg]
   have e1:val (seg U1 off (m+3))=rr:=by rw [t2] at tot; omega
   rw [same1.whole (by omega),Ylm ok1 (by rw [same1.len]; omega) e1, ← t2]
   trivial
  ·exfalso; omega
end GoAbs
