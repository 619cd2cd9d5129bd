/- Lemmas for the claim (contracts of the functions that it reaches, and what they compute), without conditions. -/
import Derived.Test.YtiapneoakbealaaGreatK20
set_option linter.unusedVariables false
set_option linter.unusedSimpArgs false
set_option maxRecDepth 10000
set_option maxHeartbeats 2000000
namespace GoAbs
open Go Go.Proofs
theorem Z5i {x k:Nat}(h:x<4294967296 ^ k):lenN x≤k:=by
 by_cases h0:x=0
 ·subst h0; simp [lenN,Zap]
 ·obtain ⟨t,h1,h2⟩:=Z56 h0
  obtain ⟨ys,hy⟩:=List.getLast?_eq_some_iff.1 h1
  have hv:=Zay x
  rw [hy,Zbw] at hv
  simp only [val,Nat.mul_zero,Nat.add_zero] at hv
  unfold lenN
  rw [hy,List.length_append,List.length_singleton]
  rcases Nat.lt_or_ge ys.length k with h3 | h3
  ·omega
  ·exfalso
   have h4:4294967296 ^ k≤4294967296 ^ ys.length:=Nat.pow_le_pow_right (by omega) h3
   have h5:4294967296 ^ ys.length*1≤4294967296 ^ ys.length*t:=Nat.mul_le_mul_left _ (by omega)
   generalize 4294967296 ^ ys.length=Z at *
   generalize 4294967296 ^ k=Y at *
   omega
theorem Z0c (x:Nat):x<4294967296 ^ lenN x:=by
 have:=Zz2 (Zbt x)
 rwa [Zay] at this
theorem Xbb {x k:Nat}(h:4294967296 ^ k≤x):k<lenN x:=by
 have h1:=Z0c x
 exact (Nat.pow_lt_pow_iff_right (by omega:1<4294967296)).1 (Nat.lt_of_le_of_lt h h1)
theorem Yp9:∀ {k n j:Nat},j<k→(fixL k n)[j]? = some (n / 4294967296 ^ j % 4294967296)
 | 0,n,j,h=>by omega
 | k+1,n,0,h=>by simp [fixL]
 | k+1,n,j+1,h=>by
  simp only [fixL,List.getElem?_cons_succ]
  rw [Yp9 (by omega),Nat.div_div_eq_div_mul,Nat.pow_succ,Nat.mul_comm]
theorem Yum {k x:Nat}(h:x<4294967296 ^ k):limbs x=trimL (fixL k x):=by
 have:=Zc3 (Yc4 k x)
 rw [Z92,Nat.mod_eq_of_lt h] at this
 exact this
theorem Yyw {t:Nat}(h0:t≠0) (h:t<4294967296):1≤bl t∧bl t≤32∧t<2 ^ bl t∧2 ^ bl t≤2*t:=by
 unfold bl
 rw [if_neg h0]
 have h1:2 ^ t.log2≤t:=(Nat.le_log2 h0).1 (Nat.le_refl _)
 have h2:t<2 ^ (t.log2+1):=(Nat.log2_lt h0).1 (by omega)
 have h3:t.log2<32:=(Nat.log2_lt h0).2 (by simpa using h)
 refine ⟨by omega,by omega,h2,?_⟩
 rw [Nat.pow_succ]; omega
theorem Y23 {t:Nat}(h0:t≠0) (h:t<4294967296):bl t≤32∧32 - bl t<32∧t*2 ^ (32 - bl t)+2 ^ (32 - bl t)≤4294967296∧2147483648≤t*2 ^ (32 - bl t)∧2 ^ (32 - bl t)≤2147483648:=by
 obtain ⟨h1,h2,h3,h4⟩:=Yyw h0 h
 have e:2 ^ bl t*2 ^ (32 - bl t)=4294967296:=by rw [← Nat.pow_add,show bl t+(32 - bl t)=32 by omega]
 have e2:(t+1)*2 ^ (32 - bl t)≤2 ^ bl t*2 ^ (32 - bl t):=Nat.mul_le_mul_right _ h3
 have e3:2 ^ bl t*2 ^ (32 - bl t)≤2*t*2 ^ (32 - bl t):=Nat.mul_le_mul_right _ h4
 have e4:2*t*2 ^ (32 - bl t)=2*(t*2 ^ (32 - bl t)):=Nat.mul_assoc _ _ _
 have e5:(2:Nat) ^ (32 - bl t)≤2 ^ 31:=Nat.pow_le_pow_right (by omega) (by omega)
 rw [Nat.add_mul] at e2
 refine ⟨h2,by omega,?_,?_,by simpa using e5⟩
 ·omega
 ·omega
theorem Yy9 {p t lo s b:Nat}(hb:b=lo+p*t) (hlo:lo<p) (h1:t*s+s≤4294967296) (h2:2147483648≤t*s) (hs:0<s):b*s<p*4294967296∧p*2147483648≤b*s:=by
 have e1:b*s=lo*s+p*(t*s):=by rw [hb,Nat.add_mul,Nat.mul_assoc]
 have e2:lo*s<p*s:=Nat.mul_lt_mul_of_pos_right hlo hs
 have e3:p*(t*s)+p*s≤p*4294967296:=by rw [← Nat.mul_add]; exact Nat.mul_le_mul_left _ h1
 have e4:p*2147483648≤p*(t*s):=Nat.mul_le_mul_left _ h2
 omega
theorem Yux {B p A V X:Nat}(hB:0<B) (hV:0<V) (hX:X=A / p % B+B*(A / (p*B) % V)):A / p / V=B*(A / (p*B) / V)+X / V∧A / p % V=X % V∧X<B*V:=by
 have e1:A / (p*B)=A / p / B:=(Nat.div_div_eq_div_mul _ _ _).symm
 rw [e1] at hX ⊢
 generalize A / p=Y at *
 have h1:=Nat.mod_add_div Y B
 have h2:=Nat.mod_add_div (Y / B) V
 have h3:=Nat.mod_lt Y hB
 have h4:=Nat.mod_lt (Y / B) hV
 generalize Y / B / V=q at *
 generalize Y / B % V=r at *
 have h5:Y=X+V*(B*q):=by
  have h7:Y=Y % B+B*(r+V*q):=by rw [h2]; exact h1.symm
  rw [Nat.mul_add,Nat.mul_left_comm B V q] at h7
  omega
 have h6:X<B*V:=by
  have:B*(r+1)≤B*V:=Nat.mul_le_mul_left _ h4
  rw [Nat.mul_add] at this
  omega
 refine ⟨?_,?_,h6⟩
 ·rw [h5,Nat.add_mul_div_left _ _ hV]; omega
 ·rw [h5,Nat.add_mul_mod_self_left]
theorem Yz2 {U:List Nat}{A V j n L:Nat}(hU:Ok32 U) (hlen:j+(n+1)≤U.length) (hd:val (U.drop (j+1))=A / 4294967296 ^ (j+1) % V) (ht:U.take (j+1)=(fixL L A).take (j+1)) (hj:j<L)
  (hV:V<4294967296 ^ n) (hV0:0<V) :
  ∃ X,val (seg U j (n+1))=X∧X<4294967296*V∧A / 4294967296 ^ j / V=4294967296*(A / 4294967296 ^ (j+1) / V)+X / V∧A / 4294967296 ^ j % V=X % V∧val (U.drop (j+(n+1)))=0:=by
 have gj:U[j]? = some (A / 4294967296 ^ j % 4294967296):=by
  have h1:(U.take (j+1))[j]? = U[j]? := List.getElem?_take_of_lt (by omega)
  have h2:((fixL L A).take (j+1))[j]? = (fixL L A)[j]? := List.getElem?_take_of_lt (by omega)
  rw [← h1,ht,h2,Yp9 hj]
 have hX:val (U.drop j)=A / 4294967296 ^ j % 4294967296+4294967296*(A / 4294967296 ^ (j+1) % V):=by rw [Z16 gj,hd]
 rw [Nat.pow_succ] at hX ⊢
 obtain ⟨h1,h2,h3⟩:=Yux (by omega) hV0 hX
 have hsplit:val (U.drop j)=val (seg U j (n+1))+4294967296 ^ (n+1)*val (U.drop (j+(n+1))):=by
  have e:U.drop j=seg U j (n+1)++U.drop (j+(n+1)):=by
   unfold seg
   rw [← List.drop_drop,List.take_append_drop]
  have e2:=Zbw (seg U j (n+1)) (U.drop (j+(n+1)))
  rw [Z5q hlen] at e2
  rw [e,e2]
 have hz:val (U.drop (j+(n+1)))=0:=by
  have h4:4294967296*V<4294967296 ^ (n+1):=by
   rw [Nat.pow_succ,Nat.mul_comm]; exact Nat.mul_lt_mul_of_pos_right hV (by omega)
  rcases Nat.eq_zero_or_pos (val (U.drop (j+(n+1)))) with h | h
  ·exact h
  ·have h5:4294967296 ^ (n+1)*1≤4294967296 ^ (n+1)*val (U.drop (j+(n+1))):=Nat.mul_le_mul_left _ h
   generalize 4294967296 ^ (n+1)=Z at *
   omega
 rw [hz,Nat.mul_zero,Nat.add_zero] at hsplit
 exact ⟨val (U.drop j),hsplit.symm,h3,h1,h2,hz⟩
theorem Y0i {A V n la:Nat}{v:List Nat}{s:Nat}{a:List Nat}(hv:v=limbs V) (hn:v.length=n) (hn2:2≤n) (hla:a.length=la) (hle:n≤la) (hlal:la≤549755813887) (hV:V<4294967296 ^ n) (hV0:0<V)
  (hA:A / 4294967296 ^ (la - n+1)<V) (hAl:A<4294967296 ^ (la+1)) {K:Ex→St→Prop}
  (hK:∀ U Q e,Ok32 U→Ok32 Q→U.length=la+1→Q.length=la - n+1→val U=A % V→val Q=A / V →
   e 8 = .int .i64 (s:Int)→e 10 = .osl none 0 0 (la+1)→e 11 = .int .i64 (n:Int)→e 12 = .osl none 1 0 (la - n+1)→K (.exit 0) ⟨e,[.cells (u32c U),.cells (u32c Q)]⟩) :
  T Tryz.prog 85 0 (.loop Ztg) ⟨envL [(0,.sl (u32c a)),(8,.int .i64 (s:Int)),(9,.sl (u32c v)),(10,.osl none 0 0 (la+1)),(11,.int .i64 (n:Int)),(12,.osl none 1 0 (la - n+1)),(13,.int .i64 ((la - n:Nat):Int))],[.cells (u32c (fixL (la+1) A)),.cells (u32c (List.replicate (la - n+1) 0))]⟩ K:=by
 refine Zaf (fun z:Nat×List Nat×List Nat=>⟨envL [(0,.sl (u32c a)),(8,.int .i64 (s:Int)),(9,.sl (u32c v)),(10,.osl none 0 0 (la+1)),(11,.int .i64 (n:Int)),(12,.osl none 1 0 (la - n+1)),(13,.int .i64 ((z.1:Int) - 1))],[.cells (u32c z.2.1),.cells (u32c z.2.2)]⟩)
  (fun z=>z.1≤la - n+1∧Ok32 z.2.1∧Ok32 z.2.2∧z.2.1.length=la+1∧z.2.2.length=la - n+1∧val (z.2.1.drop z.1)=A / 4294967296 ^ z.1 % V∧z.2.1.take z.1=(fixL (la+1) A).take z.1∧val (z.2.2.drop z.1)=A / 4294967296 ^ z.1 / V) (fun z=>z.1) (la - n+1,fixL (la+1) A,List.replicate (la - n+1) 0)
  ⟨Nat.le_refl _,Yc4 _ _,Ok32.rep,Zpj _ _,by simp,?_,rfl,?_⟩ ?_ (fun z hI N hN=>?_)
 ·simp only
  rw [Nat.mod_eq_of_lt hA]
  have h1:val (fixL (la+1) A)=A:=by rw [Z92,Nat.mod_eq_of_lt hAl]
  have hl:la - n+1≤(fixL (la+1) A).length:=by rw [Zpj]; omega
  have h2:=Zbw ((fixL (la+1) A).take (la - n+1)) ((fixL (la+1) A).drop (la - n+1))
  rw [List.take_append_drop,h1,List.length_take,Nat.min_eq_left hl] at h2
  have h3:=Zz2 ((Yc4 (la+1) A).take (n:=la - n+1))
  rw [List.length_take,Nat.min_eq_left hl] at h3
  generalize val (List.drop (la - n+1) (fixL (la+1) A))=D at h2 ⊢
  generalize val (List.take (la - n+1) (fixL (la+1) A))=T at h2 h3
  rw [h2,Nat.add_mul_div_left _ _ (by omega),Nat.div_eq_of_lt h3,Nat.zero_add]
 ·simp only
  rw [List.drop_of_length_le (by simp),Nat.div_eq_of_lt hA]; rfl
 ·refine Zab _ ?_
  have:((la - n+1:Nat):Int) - 1=((la - n:Nat):Int):=by omega
  simp only [go_sem,this]
 ·obtain ⟨k,U,Q⟩:=z
  obtain ⟨h1,h2,h3,h4,h5,h6,h7,h8⟩:=hI
  simp only at h1 h2 h3 h4 h5 h6 h7 h8 ⊢
  unfold Ztg
  cases k with
  | zero =>
   have p1:¬ (0:Int)≤((0:Nat):Int) - 1:=by omega
   simp only [go_sem,Zo5,p1]
   rw [List.drop_zero,Nat.pow_zero,Nat.div_one] at h6 h8
   exact hK U Q _ h2 h3 h4 h5 h6 h8 (by simp only [go_sem]) (by simp only [go_sem]) (by simp only [go_sem]) (by simp only [go_sem])
  | succ j =>
   obtain ⟨X,k1,k2,k3,k4,k5⟩:=Yz2 h2 (by omega) h6 h7 (show j<la+1 by omega) hV hV0
   have hj:((j+1:Nat):Int) - 1=(j:Int):=by omega
   have p1:(0:Int)≤(j:Int):=by omega
   have e1:IntKind.i64.wrap ((j:Int)+n)=(j+n:Nat):=by rw [Zac (by omega) (by omega)]; omega
   have e2:IntKind.i64.wrap (((j+n:Nat):Int)+1)=(j+n+1:Nat):=by rw [Zac (by omega) (by omega)]; omega
   have e3:IntKind.i64.wrap ((j:Int) - 1)=(j:Int) - 1:=by rw [Zac (by omega) (by omega)]
   have p2:(0:Int)≤((j+n+1:Nat):Int):=by omega
   have p3:j≤j+n+1:=by omega
   have p4:j+n+1≤la+1:=by omega
   have p5:(j:Int)<((la - n+1:Nat):Int):=by omega
   simp only [go_sem,Zo5,Z21,hj,p1,e1,e2,p2,p3,p4]
   obtain ⟨m,rfl⟩:∃ m,n=m+2:=⟨n - 2,by omega⟩
   have hlen:j+(m+2)+1 - j=m+3:=by omega
   rw [hlen]
   obtain ⟨v1,hv1,hv10⟩:=Z56 (n:=V) (by omega)
   have gv1:v[m+1]? = some v1:=by
    rw [← hv,List.getLast?_eq_getElem?] at hv1
    rw [← hv1]; congr 1; omega
   have hX:val (seg U j (m+3))=X:=k1
   have hvV:val v=V:=by rw [hv,Zay]
   have spec:=Yt1 (H := [.cells (u32c U),.cells (u32c Q)]) (b:=0) (off:=j) (m:=m) (U:=U) (v:=v) (v1:=v1) rfl h2 (by rw [hv]; exact Zbt V) (by omega) hn (by omega) gv1 (by omega) (by rw [hX,hvV]; exact k2)
   rw [hX,hvV] at spec
   refine Zd4 spec ?_
   have hl1:j+1≤(u32c Q).length:=by rw [Zae]; omega
   simp only [go_sem,Z43,p1,p5,hl1,e3]
   rw [Za6 (by rw [Zae]; omega),Zcx]
   have hXV:X % V<4294967296 ^ (m+3):=Nat.lt_trans (Nat.mod_lt _ hV0) (Nat.lt_of_lt_of_le hV (Nat.pow_le_pow_right (by omega) (by omega)))
   have hq:X / V<4294967296:=(Nat.div_lt_iff_lt_mul hV0).2 k2
   refine hN (j,U.take j++fixL (m+3) (X % V)++U.drop (j+(m+3)),Q.set j (X / V)) _ ⟨by omega,?_,h3.set hq,?_,by simp [h5],?_,?_,?_⟩ (by show j<j+1; omega) (Zab _ (by simp only [go_sem]))
   ·exact (h2.take.append (Yc4 _ _)).append h2.drop
   ·simp only [List.length_append,List.length_take,List.length_drop,Zpj]; omega
   ·simp only
    have hl:(U.take j).length=j:=by simp; omega
    rw [List.append_assoc,List.drop_append_of_le_length (by omega),List.drop_of_length_le (by omega),List.nil_append,Zbw,k5,Z92,Nat.mod_eq_of_lt hXV,k4]; omega
   ·simp only
    have hl:(U.take j).length=j:=by simp; omega
    rw [List.append_assoc,List.take_append_of_le_length (by omega),List.take_of_length_le (by omega)]
    have:=congrArg (List.take j) h7
    rw [List.take_take,List.take_take,Nat.min_eq_left (by omega)] at this
    exact this
   ·simp only
    rw [Z7g (by omega),h8,k3]; omega
end GoAbs
namespace GoAbs
open Go Go.Proofs
theorem Y6h {k x:Nat}(h:x<4294967296 ^ k):trimL (fixL k x)=limbs x:=(Yum h).symm
theorem Xcx {a b s:Nat}(hs:0<s):a*s / (b*s)=a / b∧a*s % (b*s)=a % b*s :=
 ⟨Nat.mul_div_mul_right a b hs,Nat.mul_mod_mul_right s a b⟩
theorem Xdj {b n:Nat}(hb:b≠0) (hn:lenN b=n+1):∃ t,(limbs b)[n]? = some t∧t≠0∧t<4294967296∧b=val ((limbs b).take n)+4294967296 ^ n*t∧val ((limbs b).take n)<4294967296 ^ n:=by
 have hn':(limbs b).length=n+1:=hn
 obtain ⟨t,h1,h2⟩:=Z56 hb
 rw [List.getLast?_eq_getElem?,hn',Nat.add_sub_cancel] at h1
 refine ⟨t,h1,h2,(Zbt b).get h1,?_,?_⟩
 ·have:=Zaq h1
  rw [List.take_of_length_le (by omega),Zay] at this
  exact this
 ·have:=Zz2 ((Zbt b).take (n:=n))
  rwa [List.length_take,Nat.min_eq_left (by omega)] at this
theorem Yjo {a b:Nat}(hb:b≠0) (ha:lenN a≤274877906944) (hlb:lenN b≤549755813888) :
  SpecV Tryz.prog Yuy [.sl (u32c (limbs a)),.sl (u32c (limbs b))] (.tup [.sl (u32c (limbs (a / b))),.sl (u32c (limbs (a % b)))]):=by
 refine Zba Ynj (by simp) (Zbg 7 rfl ?_)
 unfold Ymz
 simp only [go_sem,Z8v,Z8g]
 refine Zaa (Z06 (Nat.le_trans ha (by omega)) hlb) (by simp only [go_sem]) ?_
 have hla:(limbs a).length=lenN a:=rfl
 have hlb':(limbs b).length=lenN b:=rfl
 by_cases hab:a<b
 ·have hc:((-1:Int)<0):=by omega
  simp only [go_sem,hab,hc,Z71]
  refine ⟨fun y hy=>Yi5 y hy,by rw [Zae]; omega,?_⟩
  refine ⟨?_,?_⟩
  ·rw [Nat.div_eq_of_lt hab,Zap]; exact .nilsl
  ·rw [Nat.mod_eq_of_lt hab,Yxw,Zae]
   exact Zdq rfl (by simp [allOf]) rfl (by rw [List.drop_zero,List.take_of_length_le (by rw [Zae]; omega)])
 ·have hc:¬ ((if b<a then (1:Int) else 0)<0):=by split <;> omega
  simp only [go_sem,hab,hc,Z6q,Zae,hlb']
  have hb1:1≤lenN b:=by
   rcases Nat.eq_zero_or_pos (lenN b) with h | h
   ·exact absurd (Zht.1 (List.length_eq_zero_iff.1 h)) hb
   ·exact h
  have hle:lenN b≤lenN a:=Znq (by omega)
  obtain ⟨n,hn⟩:∃ n,lenN b=n+1:=⟨lenN b - 1,by omega⟩
  obtain ⟨t,gt,ht0,ht,hbt,hblo⟩:=Xdj hb hn
  refine ⟨fun h1=>?_,fun h1=>?_⟩
  ·
   have hn0:n=0:=by omega
   subst hn0
   have hbt':b=t:=by
    rw [hbt]; simp [val]
   have p0:(0:Int)≤0:=by omega
   have g0:(u32c (limbs b))[Int.toNat 0]? = some (.int .u32 (t:Int)):=Zal gt
   simp only [go_sem,Z7h,Zal gt]
   refine Zaa (Ycs (Zbt a) (by omega) (by omega) ht) (by simp only [go_sem]) ?_
   rw [Zay, ← hbt']
   simp only [go_sem,Z6x]
   have hr:trimL [a % b]=limbs (a % b):=by
    have:Ok32 [a % b]:=fun x hx=>by
     have:=Nat.mod_lt a (Nat.pos_of_ne_zero hb)
     simp at hx; omega
    rw [← Zc3 this]; simp [val]
   refine Zjb (ids := [0]) (Zc5 [a % b] (by simp)) ?_ ?_
   ·simp only [go_sem]
    exact Zdq rfl (by simp) rfl rfl
   ·rw [hr]
    simp only [go_sem]
  ·have hnn:1≤n:=by omega
   have e1:IntKind.i64.wrap (((n+1:Nat):Int) - 1)=(n:Nat):=by rw [Zac (by omega) (by omega)]; omega
   have p1:(0:Int)≤((n:Nat):Int):=by omega
   obtain ⟨q1,q2,q3,q4,q5⟩:=Y23 ht0 ht
   simp only [go_sem,Z8a,Zae,hlb',hn,e1,p1,Zal gt]
   refine Zaa (Yo9 ht q1) (by simp only [go_sem]) ?_
   generalize hsd:32 - bl t=s at *
   have hs0:0<2 ^ s:=Nat.pow_pos (by omega)
   obtain ⟨z1,z2⟩:=Yy9 hbt hblo q3 q4 hs0
   rw [← Nat.pow_succ] at z1
   simp only [go_sem,Z78]
   refine Zaa (Y7w (Zbt b) (by omega) q2) (by simp only [go_sem]) ?_
   rw [Zay,hlb',hn]
   simp only [go_sem]
   have hVlt2:b*2 ^ s<4294967296 ^ (n+1+1):=Nat.lt_of_lt_of_le z1 (Nat.pow_le_pow_right (by omega) (by omega))
   refine Zaa (Zc5 (fixL (n+1+1) (b*2 ^ s)) (by rw [Zpj]; omega)) (by simp only [go_sem]) ?_
   rw [Y6h hVlt2]
   simp only [go_sem]
   refine Zd4 (Z0h (H := []) (Xet (Zbt a) (by omega) q2) (by simp only [go_sem])) ?_
   have hV0:0<b*2 ^ s:=Nat.mul_pos (Nat.pos_of_ne_zero hb) hs0
   have hlV:lenN (b*2 ^ s)=n+1:=by
    have h2:=Z5i z1
    have h3:n<lenN (b*2 ^ s):=Xbb (Nat.le_trans (Nat.le_mul_of_pos_right _ (by omega)) z2)
    omega
   have hlV':(limbs (b*2 ^ s)).length=n+1:=hlV
   have halt:a<4294967296 ^ lenN a:=Z0c a
   have hAl:a*2 ^ s<4294967296 ^ (lenN a+1):=by
    rw [Nat.pow_succ]
    exact Nat.mul_lt_mul_of_lt_of_le halt (by omega) (by omega)
   have hA:a*2 ^ s / 4294967296 ^ (lenN a - (n+1)+1)<b*2 ^ s:=by
    rw [Nat.div_lt_iff_lt_mul (Nat.pow_pos (by omega))]
    have h2:4294967296 ^ n*2147483648*4294967296 ^ (lenN a - (n+1)+1)≤b*2 ^ s*4294967296 ^ (lenN a - (n+1)+1):=Nat.mul_le_mul_right _ z2
    have h3:4294967296 ^ n*2147483648*4294967296 ^ (lenN a - (n+1)+1)=4294967296 ^ lenN a*2147483648:=by
     rw [Nat.mul_right_comm, ← Nat.pow_add]
     congr 2; omega
    have h4:a*2 ^ s<4294967296 ^ lenN a*2147483648:=Nat.mul_lt_mul_of_lt_of_le halt q5 (by omega)
    omega
   obtain ⟨w1,w2⟩ := @Xcx a b (2 ^ s) hs0
   have hgc:(AV.osl none 0 0 ((limbs a).length+1)).gc (fun i=>some (i+([]:Heap).length)) = .osl none 0 0 (lenN a+1):=by rfl
   have hgc2:([] ++ [Blk.cells (u32c (fixL ((limbs a).length+1) (val (limbs a)*2 ^ s)))].map (Blk.gc (fun i=>some (i+([]:Heap).length)))) = [.cells (u32c (fixL (lenN a+1) (a*2 ^ s)))]:=by
    rw [Zay]
    simp only [List.map_cons,List.map_nil,List.nil_append,Blk.gc,Zax]
    congr 2
    unfold u32c
    rw [List.map_map]
    rfl
   rw [hgc,hgc2]
   have e2:IntKind.i64.wrap ((lenN a:Int) - ((n+1:Nat):Int))=(lenN a - (n+1):Nat):=by rw [Zac (by omega) (by omega)]; omega
   have e3:IntKind.i64.wrap (((lenN a - (n+1):Nat):Int)+1)=(lenN a - (n+1)+1:Nat):=by rw [Zac (by omega) (by omega)]; omega
   have p2:(0:Int)≤((lenN a - (n+1)+1:Nat):Int):=by omega
   have p3:(4:Int)*((lenN a - (n+1)+1:Nat):Int)≤281474976710656:=by omega
   simp only [go_sem,Z64,Z2s,Z1x,Zae,hla,hlV',e2,e3,p2,Zp1]
   refine ⟨Int.le_refl _,p3,?_⟩
   refine Zar [(0,.sl (u32c (limbs a))),(8,.int .i64 (s:Int)),(9,.sl (u32c (limbs (b*2 ^ s)))),(10,.osl none 0 0 (lenN a+1)),(11,.int .i64 ((n+1:Nat):Int)),(12,.osl none 1 0 (lenN a - (n+1)+1)),(13,.int .i64 ((lenN a - (n+1):Nat):Int))] (by simp only [go_sem])
    (Y0i (A:=a*2 ^ s) (V:=b*2 ^ s) rfl hlV (by omega) rfl (by omega) (by omega) z1 hV0 hA hAl (fun U Q e g1 g2 g3 g4 g5 g6 y8 y10 y11 y12=>?_))
   rw [w2] at g5
   rw [w1] at g6
   simp only [go_sem]
   refine Zp6 [0,1] [(8,.int .i64 (s:Int)),(10,.sl (u32c U)),(11,.int .i64 ((n+1:Nat):Int)),(12,.sl (u32c Q))] ⟨.inr y8,.inl ?_,.inr y11,.inl ?_,trivial⟩ (T_W ?_)
   ·show BV _ _ (e 10) _
    rw [y10]
    exact Zdq rfl (by simp) g3 (by rw [List.drop_zero,List.take_of_length_le (by rw [Zae]; omega)])
   ·show BV _ _ (e 12) _
    rw [y12]
    exact Zdq rfl (by simp) g4 (by rw [List.drop_zero,List.take_of_length_le (by rw [Zae]; omega)])
   have hm:Tryz.prog.follows .mixedOrders=true:=by kernel_rfl
   simp only [go_sem,Zom,hm]
   refine Zaa (Zc5 Q (by omega)) (by simp only [go_sem]) ?_
   have p5:(0:Int)≤((n+1:Nat):Int):=by omega
   simp only [go_sem,p5,Zae,g3,Ykj]
   refine ⟨by omega,fun y hy=>Yi5 y hy,?_⟩
   refine Zaa (Zc5 (U.take (n+1)) (by rw [List.length_take]; omega)) (by simp only [go_sem]) ?_
   have hUn:val (U.take (n+1))=a % b*2 ^ s:=by
    have h2:=Zbw (U.take (n+1)) (U.drop (n+1))
    rw [List.take_append_drop,g5,List.length_take,Nat.min_eq_left (by omega)] at h2
    have h3:a % b*2 ^ s<4294967296 ^ (n+1):=Nat.lt_trans (Nat.mul_lt_mul_of_pos_right (Nat.mod_lt a (Nat.pos_of_ne_zero hb)) hs0) z1
    rcases Nat.eq_zero_or_pos (val (U.drop (n+1))) with h | h
    ·rw [h] at h2; omega
    ·have h5:4294967296 ^ (n+1)*1≤4294967296 ^ (n+1)*val (U.drop (n+1)):=Nat.mul_le_mul_left _ h
     generalize 4294967296 ^ (n+1)=Z at *
     omega
   rw [← Zc3 g1.take,hUn, ← Zc3 g2,g6]
   simp only [go_sem]
   have hlR:(limbs (a % b*2 ^ s)).length≤n+1:=Z5i (Nat.lt_trans (Nat.mul_lt_mul_of_pos_right (Nat.mod_lt a (Nat.pos_of_ne_zero hb)) hs0) z1)
   refine Zaa (Yxo (Zbt _) (by omega) q2) (by simp only [go_sem]) ?_
   rw [Zay,Nat.mul_div_cancel _ hs0]
   simp only [go_sem]
end GoAbs
namespace GoAbs
open Go Go.Proofs
def Sz (n:Nat):Prop:=lenN n≤274877906944
theorem Sz.l {n:Nat}(h:Sz n):lenN n≤549755813888:=Nat.le_trans h (by omega)
theorem Sz.mono {m n:Nat}(h:Sz n) (hm:m≤n):Sz m:=Nat.le_trans (Znq hm) h
theorem Sz.one:Sz 1:=by
 have:lenN 1≤1:=Z5i (by decide)
 unfold Sz; omega
theorem Zdc {n:Nat}:(0:Int)<((limbs n).length:Int)↔n≠0:=by
 rw [ne_eq, ← Zht, ← List.length_eq_zero_iff]; omega
theorem Yqs {a b:Int}(ha:Sz a.natAbs) (hb:Sz b.natAbs):SpecV Tryz.prog Yy8 [avI a,avI b] (avI (Int.gcd a b)):=by
 refine Zad Yvm (by simp) ?_
 unfold Ypw
 have hm:Tryz.prog.follows .mixedOrders=true:=by kernel_rfl
 simp only [go_sem,Zaj,Ybp,Zz8,hm]
 refine Zaf (fun z:Nat×Nat=>⟨envL [(4,.ptr 2 0),(5,.sl (u32c (limbs z.1))),(6,.sl (u32c (limbs z.2)))],[.cells [.bool (decide (a<0)),.sl (u32c (limbs a.natAbs))],.cells [.bool (decide (b<0)),.sl (u32c (limbs b.natAbs))],.cells [.bool false,.nils]]⟩)
  (fun z=>Nat.gcd z.1 z.2=Int.gcd a b∧Sz z.1∧Sz z.2) (fun z=>z.2) (a.natAbs,b.natAbs) ⟨rfl,ha,hb⟩ (Zab _ (by simp only [go_sem])) (fun z hI N hN=>?_)
 obtain ⟨x,y⟩:=z
 obtain ⟨h1,h2,h3⟩:=hI
 simp only at h1 h2 h3 ⊢
 unfold Yb8
 by_cases hy:y=0
 ·subst hy
  have p1:¬ (0:Int)<((0:Nat):Int):=by omega
  simp only [go_sem,Z07,Ybj,Zap,Zhn,p1]
  rw [Nat.gcd_zero_right] at h1
  refine Zaa (Zqn (s:=false) (n:=x) (z:=(x:Int)) (by simp)) (by simp only [go_sem]) ?_
  simp only [go_sem,Zaj]
  subst h1
  refine ⟨?_,rfl⟩
  simp
 ·have p1:=(Zdc (n:=y)).2 hy
  simp only [go_sem,Z07,Ybw,Yan,Zae,p1]
  refine Zaa (Yjo hy h2 h3.l) (by simp only [go_sem]) ?_
  simp only [go_sem]
  have hlt:=Nat.mod_lt x (Nat.pos_of_ne_zero hy)
  refine hN (y,x % y) _ ⟨?_,h3,h3.mono (Nat.le_of_lt hlt)⟩ hlt (Zab _ (by simp only [go_sem]))
  simp only
  rw [← h1,Nat.gcd_comm y, ← Nat.gcd_rec,Nat.gcd_comm]
theorem Xeb {a b:Int}(hb:b≠0) (h:a.natAbs % b.natAbs≠0) (hs:decide (a<0)≠decide (b<0)):a.tdiv b - 1=a.fdiv b∧a.tmod b+b=a.fmod b:=by
 have hd:¬ b∣a:=fun hd=>h (Nat.mod_eq_zero_of_dvd (Int.natAbs_dvd_natAbs.2 hd))
 have h3:=Int.tmod_add_mul_tdiv a b
 have h4:=Int.fmod_add_mul_fdiv a b
 have hq:a.fdiv b=a.tdiv b - 1:=by
  rw [Int.fdiv_eq_tdiv,if_neg hd]
  have:(a<0)≠(b<0):=fun e=>hs (by simp only [e])
  by_cases h1:0≤a
  ·have h2:¬ 0≤b:=fun h2=>this (by simp [show ¬ a<0 by omega,show ¬ b<0 by omega])
   rw [if_pos h1,if_neg h2]
  ·have h2:0≤b:=by
    rcases Int.lt_or_le b 0 with h2 | h2
    ·exact absurd (by simp [show a<0 by omega,h2]) this
    ·exact h2
   rw [if_neg h1,if_pos h2,Int.sign_eq_one_of_pos (by omega)]
 refine ⟨hq.symm,?_⟩
 rw [hq,Int.mul_sub] at h4
 omega
theorem Xbh {a b:Int}(hb:b≠0) (h:a.natAbs % b.natAbs=0∨decide (a<0)=decide (b<0)):a.tdiv b=a.fdiv b∧a.tmod b=a.fmod b:=by
 have h3:=Int.tmod_add_mul_tdiv a b
 have h4:=Int.fmod_add_mul_fdiv a b
 have hq:a.fdiv b=a.tdiv b:=by
  rw [Int.fdiv_eq_tdiv]
  by_cases hd:b∣a
  ·rw [if_pos hd]; omega
  ·rw [if_neg hd]
   have hs:decide (a<0)=decide (b<0):=h.elim (fun h=>absurd (Int.natAbs_dvd_natAbs.1 (Nat.dvd_of_mod_eq_zero h)) hd) id
   by_cases h1:0≤a
   ·have h2:0≤b:=by
     have:¬ b<0:=by
      have:decide (b<0)=false:=by rw [← hs]; simp; omega
      simpa using this
     omega
    rw [if_pos h1,if_pos h2]; omega
   ·have h2:¬ 0≤b:=by
     have:b<0:=by
      have:decide (b<0)=true:=by rw [← hs]; simp; omega
      simpa using this
     omega
    rw [if_neg h1,if_neg h2,Int.sign_eq_neg_one_of_neg (by omega)]; omega
 refine ⟨hq.symm,?_⟩
 rw [hq] at h4
 omega
theorem Y1e {a b:Int}{s:Bool}(hs:s = !(decide (a<0) == decide (b<0))):(if s=true then -((a.natAbs / b.natAbs:Nat):Int) else ((a.natAbs / b.natAbs:Nat):Int))=a.tdiv b:=by
 subst hs
 rcases Int.natAbs_eq a with ha | ha <;> rcases Int.natAbs_eq b with hb | hb
 all_goals
  generalize a.natAbs=m at *
  generalize b.natAbs=n at *
  subst ha hb
  simp only [Int.neg_tdiv,Int.tdiv_neg, ← Int.ofNat_tdiv]
 ·have h1:¬ ((m:Int)<0):=by omega
  have h2:¬ ((n:Int)<0):=by omega
  simp [h1,h2]
 ·by_cases h0:n=0
  ·subst h0; simp
  ·have h1:¬ ((m:Int)<0):=by omega
   have h2 : -(n:Int)<0:=by omega
   simp [h1,h2]
   intro h; exact absurd h h0
 ·by_cases h0:m=0
  ·subst h0; simp
  ·have h1 : -(m:Int)<0:=by omega
   have h2:¬ ((n:Int)<0):=by omega
   simp [h1,h2]
   intro h; exact absurd h h0
 ·by_cases h0:m=0
  ·subst h0; simp
  ·by_cases h0':n=0
   ·subst h0'; simp
   ·have h1 : -(m:Int)<0:=by omega
    have h2 : -(n:Int)<0:=by omega
    simp only [h1,h2]
    simp
theorem Yw1 {a b:Int}:(if decide (a<0)=true then -((a.natAbs % b.natAbs:Nat):Int) else ((a.natAbs % b.natAbs:Nat):Int))=a.tmod b:=by
 have hb:a.tmod b=a.tmod (b.natAbs:Int):=by
  rcases Int.natAbs_eq b with hb | hb
  ·rw [← hb]
  ·conv=>lhs; rw [hb,Int.tmod_neg]
 rw [hb]
 rcases Int.natAbs_eq a with ha | ha
 ·have h1:¬ a<0:=by omega
  rw [if_neg (by simpa using h1)]
  conv=>rhs; rw [ha]
  exact Int.ofNat_tmod _ _
 ·by_cases h0:a=0
  ·subst h0; simp
  ·have h1:a<0:=by omega
   rw [if_pos (by simpa using h1)]
   conv=>rhs; rw [ha,Int.neg_tmod, ← Int.ofNat_tmod]
theorem Yry {a b:Int}(ha:Sz a.natAbs) (hb:Sz b.natAbs) (hb0:b≠0):SpecV Tryz.prog Y0o [avI a,avI b] (.tup [avI (a.fdiv b),avI (a.fmod b)]):=by
 refine Zad Ytw (by simp) ?_
 unfold Yrn
 have hm:Tryz.prog.follows .mixedOrders=true:=by kernel_rfl
 have hbn:b.natAbs≠0:=by omega
 rw [Zaj a,Zaj b]
 simp only [go_sem,Yaf,Ybl]
 refine Zaa (Yjo hbn ha hb.l) (by simp only [go_sem]) ?_
 have hr:a.natAbs % b.natAbs≤b.natAbs:=Nat.le_of_lt (Nat.mod_lt _ (by omega))
 simp only [go_sem,Zz5,hm]
 refine Zaa (Zqn (Y1e rfl)) (by simp only [go_sem]) ?_
 simp only [go_sem]
 refine Zaa (Zqn Yw1) (by simp only [go_sem]) ?_
 have hrl:(0:Int)<((limbs (a.natAbs % b.natAbs)).length:Int)↔a.natAbs % b.natAbs≠0:=Zdc
 by_cases hc:a.natAbs % b.natAbs≠0∧decide (a<0)≠decide (b<0)
 ·obtain ⟨q1,q2⟩:=Xeb hb0 hc.1 hc.2
  have p1:=hrl.2 hc.1
  have p2:(!(decide (a<0) == decide (b<0)))=true:=by simpa using hc.2
  simp only [go_sem,Zaj,Zpx,Z0x,Zae,p1,p2,hm]
  refine Zaa Z14 (by simp only [go_sem]) ?_
  simp only [go_sem,Zaj]
  have s1:Sz (a.tdiv b).natAbs:=ha.mono (by rw [Int.natAbs_tdiv]; exact Nat.div_le_self _ _)
  have s2:Sz (a.tmod b).natAbs:=hb.mono (by rw [Int.natAbs_tmod]; exact hr)
  refine Zaa (Yp7 (b:=1) s1.l Sz.one.l) (by simp only [go_sem,Zaj]) ?_
  simp only [go_sem]
  refine Zaa (Z93 s2.l hb.l) (by simp only [go_sem,Zaj]) ?_
  simp only [go_sem,Zaj]
  refine Yce hm (fun _ b=>b=2∨b=3) 0 ?_
  simp only [go_sem,Zkq,q1,q2]
 ·obtain ⟨q1,q2⟩:=Xbh hb0 (a:=a) (by
   by_cases h:a.natAbs % b.natAbs=0
   ·exact .inl h
   ·exact .inr (Classical.byContradiction fun h2=>hc ⟨h,h2⟩))
  have p2:¬ (0:Int)<((limbs (a.natAbs % b.natAbs)).length:Int)∨(!(decide (a<0) == decide (b<0)))=false:=by
   rcases Classical.em (a.natAbs % b.natAbs=0) with h | h
   ·exact .inl (fun h2=>(hrl.1 h2) h)
   ·exact .inr (by
     have:decide (a<0)=decide (b<0):=Classical.byContradiction fun h2=>hc ⟨h,h2⟩
     rw [this]; simp)
  have fin:∀ (e:Nat→AV),e 4 = .ptr 2 0→e 5 = .ptr 3 0→e 8 = .ptr 4 0→e 9 = .ptr 5 0→W Tryz.prog 47 0 ((CC.rg true Zkq).seq CC.ret) ⟨e,[Blk.cells [AV.bool (decide (a<0)),AV.sl (u32c (limbs a.natAbs))],
    Blk.cells [AV.bool (decide (b<0)),AV.sl (u32c (limbs b.natAbs))],Blk.cells [AV.bool false,AV.nils],
    Blk.cells [AV.bool false,AV.nils],
    Blk.cells [AV.bool (decide (a.tdiv b<0)),AV.sl (u32c (limbs (a.tdiv b).natAbs))],
    Blk.cells [AV.bool (decide (a.tmod b<0)),AV.sl (u32c (limbs (a.tmod b).natAbs))]]⟩ (retQ [RV.cell 4 (some 2),RV.cell 5 (some 2)] (.tup [avI (a.fdiv b),avI (a.fmod b)])):=fun e e4 e5 e8 e9=>by
   simp only [go_sem]
   refine Yce hm (fun _ b=>b=2∨b=3) 0 ?_
   simp only [go_sem,Zkq,e4,e5,e8,e9,q1,q2,Zaj]
  rcases p2 with p2 | p2
  ·simp only [go_sem,Zaj,Zpx,Zae,p2]
   exact fin _ (by simp only [go_sem]) (by simp only [go_sem]) (by simp only [go_sem]) (by simp only [go_sem])
  ·simp only [go_sem,Zaj,Zpx,Zae,p2]
   refine ⟨fun _=>?_,fun _=>?_⟩
   ·exact fin _ (by simp only [go_sem]) (by simp only [go_sem]) (by simp only [go_sem]) (by simp only [go_sem])
   ·exact fin _ (by simp only [go_sem]) (by simp only [go_sem]) (by simp only [go_sem]) (by simp only [go_sem])
end GoAbs
namespace GoAbs
open Go Go.Proofs
theorem Ygb {n d:Int}(hd:0<d):(Rat.divInt n d).num=n / (Int.gcd n d:Int)∧((Rat.divInt n d).den:Int)=d / (Int.gcd n d:Int):=by
 refine ⟨?_,?_⟩
 ·rw [Rat.num_divInt,Int.sign_eq_one_of_pos hd,Int.one_mul,Int.gcd_comm]
 ·rw [Rat.den_divInt,if_neg (by omega),Int.natCast_ediv,Int.natAbs_of_nonneg (by omega),Int.gcd_comm]
theorem Yfp {n d:Int}(hd:0<d) (hg:Int.gcd n d=1):avF n d=avQ (Rat.divInt n d):=by
 obtain ⟨h1,h2⟩:=Ygb (n:=n) hd
 rw [hg] at h1 h2
 rw [avQ,h1,h2]; simp
theorem Y91 {n d:Int}(hd:0<d):avF (n.fdiv (Int.gcd n d)) (d.fdiv (Int.gcd n d))=avQ (Rat.divInt n d):=by
 obtain ⟨h1,h2⟩:=Ygb (n:=n) hd
 rw [avQ,h1,h2,Int.fdiv_eq_ediv_of_nonneg _ (by omega),Int.fdiv_eq_ediv_of_nonneg _ (by omega)]
theorem Ymc {n d:Int}(hn:Sz n.natAbs) (hd:Sz d.natAbs) (h0:0<d) {H:Heap}(a b:AV) (hH:H = [.cells [.bool (decide (n<0)),.sl (u32c (limbs n.natAbs))],.cells [.bool (decide (d<0)),.sl (u32c (limbs d.natAbs))],.cells [.bool false,.nils,.bool false,.nils]])
  (e:Nat→AV) (e2:e 2 = .ptr 0 0) (e3:e 3 = .ptr 1 0) (e4:e 4 = .ptr 2 0) :
  W Tryz.prog 41 0 (.seq (.rg false Zo4) (.seq (.seq (.rg true Zjp) (.cond (.t 22) (.seq (.rg false Zpi) .ret) .skip)) (.seq (.rg false Zqj) (.seq (.rg false Zor) (.seq (.rg false Zou) .ret))))) ⟨e,H⟩
   (retQ [.cell 4 (some 4)] (avQ (Rat.divInt n d))):=by
 subst hH
 have hm:Tryz.prog.follows .mixedOrders=true:=by kernel_rfl
 simp only [go_sem,Zo4,e2,e3,e4]
 refine Zaa (Yqs hn hd) (by simp only [go_sem,Zaj]) ?_
 have hgn:(Int.gcd n d:Int).natAbs=Int.gcd n d:=by simp
 have hgp:0<Int.gcd n d:=Int.gcd_pos_of_ne_zero_right _ (by omega)
 have hgd:Int.gcd n d≤d.natAbs:=Nat.le_of_dvd (by omega) (Int.gcd_dvd_natAbs_right n d)
 have hgs:Sz (Int.gcd n d:Int).natAbs:=by rw [hgn]; exact hd.mono hgd
 have hg0:(Int.gcd n d:Int)≠0:=by omega
 simp only [go_sem,Zaj,Zjp,hm]
 refine Zaa Z14 (by simp only [go_sem]) ?_
 simp only [go_sem,Zaj]
 refine Zaa (Yis (b:=1) hgs.l Sz.one.l) (by simp only [go_sem,Zaj]) ?_
 by_cases hg1:Int.gcd n d=1
 ·have p1:¬ (Int.gcd n d:Int)<1:=by omega
  have p2:¬ (1:Int)<(Int.gcd n d:Int):=by omega
  rw [← Yfp h0 hg1]
  simp only [go_sem,p1,p2,Zpi,e2,e3,e4]
 ·have p1:¬ (Int.gcd n d:Int)<1:=by omega
  have p2:(1:Int)<(Int.gcd n d:Int):=by omega
  have p3:¬ (1:Int)=0:=by omega
  simp only [go_sem,p1,p2,p3,Zqj,Zor,Zou,e2,e3,e4]
  refine Zaa (Yry hn hgs hg0) (by simp only [go_sem,Zaj]) ?_
  simp only [go_sem,Zaj,e2,e3,e4]
  refine Zaa (Yry hd hgs hg0) (by simp only [go_sem,Zaj]) ?_
  rw [← Y91 h0]
  simp only [go_sem,Zaj,e2,e3,e4]
theorem Z6a {n d:Int}(hn:Sz n.natAbs) (hd:Sz d.natAbs) (h0:d≠0):SpecV Tryz.prog Ypf [avI n,avI d] (avQ (Rat.divInt n d)):=by
 refine Zad Yju (by simp) ?_
 unfold Ye9
 have hm:Tryz.prog.follows .mixedOrders=true:=by kernel_rfl
 rw [Y51]
 by_cases hs:d<0
 ·simp only [go_sem,Zaj,Zpb,Zo6,Zoi,hs,hm,decide_true]
  refine Zaa (Z96 n) (by simp only [go_sem,Zaj]) ?_
  simp only [go_sem,Zaj,hs,decide_true]
  have hneg:=Z96 d
  rw [Zaj d,show decide (d<0)=true by simpa using hs] at hneg
  refine Zaa hneg (by simp only [go_sem]) ?_
  simp only [go_sem,Zaj]
  have h:=Ymc (n := -n) (d := -d) (by simpa using hn) (by simpa using hd) (by omega) (H:=_) .any .any rfl
  rw [Rat.neg_divInt_neg] at h
  have h2:=fun e e2 e3 e4=>h e e2 e3 e4
  simp only [Y51,W_rg] at h2
  exact h2 _ (by simp only [go_sem]) (by simp only [go_sem]) (by simp only [go_sem])
 ·have h:=Ymc hn hd (by omega) (H:=_) .any .any rfl
  have hf:decide (d<0)=false:=by simpa using hs
  simp only [go_sem,Zaj,Zpb,Zo6,hf]
  have h2:=fun e e2 e3 e4=>h e e2 e3 e4
  simp only [Y51,W_rg,hf] at h2
  exact h2 _ (by simp only [go_sem]) (by simp only [go_sem]) (by simp only [go_sem])
theorem Yiu {q:Rat}:(q.den:Int)=1↔q=(q.num:Rat):=by
 constructor
 ·intro h
  exact Rat.ext (by simp) (by simp; omega)
 ·intro h
  rw [h]; simp
theorem Yo4 (z:Int):avQ (z:Rat)=avF z 1:=by simp [avQ]
theorem den_pos' (q:Rat):(0:Int)<q.den:=by have:=q.den_pos; omega
theorem Zbq (q:Rat):(q.den:Int).natAbs=q.den:=by simp
structure Sz2 (a b:Rat):Prop where
 nd:Sz (a.num*b.den).natAbs
 dn:Sz (b.num*a.den).natAbs
 nn:Sz (a.num*b.num).natAbs
 dd:Sz (a.den*b.den)
 sm:Sz (a.num*b.den+b.num*a.den).natAbs
 an:Sz a.num.natAbs
 bn:Sz b.num.natAbs
 ad:Sz a.den
 bd:Sz b.den
 si:Sz (a.num+b.num).natAbs
theorem Yn7 {a b:Rat}:Rat.divInt (a.num*b.den+b.num*a.den) (a.den*b.den)=a+b:=by
 have h1:=Rat.num_divInt_den a
 have h2:=Rat.num_divInt_den b
 conv=>rhs; rw [← h1, ← h2]
 rw [Rat.divInt_add_divInt _ _ (by have:=den_pos' a; omega) (by have:=den_pos' b; omega)]
theorem Yny {a b:Rat}:Rat.divInt (a.num*b.num) (a.den*b.den)=a*b:=by
 have h1:=Rat.num_divInt_den a
 have h2:=Rat.num_divInt_den b
 conv=>rhs; rw [← h1, ← h2]
 rw [Rat.divInt_mul_divInt]
theorem Yno {a b:Rat}:Rat.divInt (a.num*b.den) (a.den*b.num)=a / b:=by
 have h1:=Rat.num_divInt_den a
 have h2:=Rat.num_divInt_den b
 conv=>rhs; rw [← h1, ← h2]
 rw [Rat.div_def,Rat.inv_divInt,Rat.divInt_mul_divInt]
theorem Xap {a b:Rat}(h:Sz2 a b):SpecV Tryz.prog Ykz [avQ a,avQ b] (avQ (a+b)):=by
 refine Zba Yv4 (by simp) (Zbg 1 rfl ?_)
 unfold Ysh
 have hm:Tryz.prog.follows .mixedOrders=true:=by kernel_rfl
 have full:∀ (e:Nat→AV),e 2 = .ptr 0 0→e 3 = .ptr 1 0→e 4 = .ptr 2 0→T Tryz.prog 34 0 (.seq (.rg true Zo7) .ret) ⟨e,[.cells [.bool (decide (a.num<0)),.sl (u32c (limbs a.num.natAbs)),.bool (decide ((a.den:Int)<0)),.sl (u32c (limbs (a.den:Int).natAbs))],
   .cells [.bool (decide (b.num<0)),.sl (u32c (limbs b.num.natAbs)),.bool (decide ((b.den:Int)<0)),.sl (u32c (limbs (b.den:Int).natAbs))],.cells [.bool false,.nils,.bool false,.nils]]⟩ (retQ [.cell 4 (some 4)] (avQ (a+b))):=fun e e2 e3 e4=>T_W (by
  simp only [go_sem,Zo7,e2,e3,e4,hm]
  refine Zaa (Zha (a:=a.num) (b:=b.den) h.an.l (by rw [Zbq]; exact h.bd.l)) (by simp only [go_sem,Zaj]) ?_
  simp only [go_sem,e2,e3,e4]
  refine Zaa (Zha (a:=b.num) (b:=a.den) h.bn.l (by rw [Zbq]; exact h.ad.l)) (by simp only [go_sem,Zaj]) ?_
  simp only [go_sem,Zaj,e2,e3,e4]
  refine Zaa (Z93 (a:=a.num*b.den) (b:=b.num*a.den) h.nd.l h.dn.l) (by simp only [go_sem,Zaj]) ?_
  simp only [go_sem,e2,e3,e4]
  refine Zaa (Zha (a:=a.den) (b:=b.den) (by rw [Zbq]; exact h.ad.l) (by rw [Zbq]; exact h.bd.l)) (by simp only [go_sem,Zaj]) ?_
  simp only [go_sem,Zaj,e2,e3,e4]
  refine Zaa (Z6a h.sm (by rw [← Int.natCast_mul,Int.natAbs_natCast]; exact h.dd) (by have:=den_pos' a; have:=den_pos' b; exact Int.mul_ne_zero (by omega) (by omega))) (by simp only [go_sem,Zaj]) ?_
  rw [Yn7]
  simp only [go_sem,Zez,e2,e3,e4])
 simp only [go_sem,Zez,Ydz,Yai]
 refine Zaa (Zh1 (a:=a.num) (b:=a.den) (den_pos' a)) (by simp only [go_sem]) ?_
 by_cases ha:(a.den:Int)=1
 ·simp only [go_sem,decide_eq_true ha]
  refine Zaa (Zh1 (a:=b.num) (b:=b.den) (den_pos' b)) (by simp only [go_sem]) ?_
  by_cases hb:(b.den:Int)=1
  ·simp only [go_sem,decide_eq_true hb,Ycr]
   refine Zaa (Z93 h.an.l h.bn.l) (by simp only [go_sem,Zaj]) ?_
   simp only [go_sem]
   refine Zaa (Z6t (a.num+b.num)) (by simp only [go_sem,Zaj]) ?_
   have:avQ (a+b)=avF (a.num+b.num) 1:=by
    have h1:=Yiu.1 ha
    have h2:=Yiu.1 hb
    rw [h1,h2, ← Rat.intCast_add,Yo4]; simp
   rw [← Ypl, ← Zez,this]
   simp only [go_sem]
  ·simp only [go_sem,decide_eq_false hb]
   exact full _ (by simp only [go_sem]) (by simp only [go_sem]) (by simp only [go_sem])
 ·simp only [go_sem,decide_eq_false ha]
  exact full _ (by simp only [go_sem]) (by simp only [go_sem]) (by simp only [go_sem])
end GoAbs
namespace GoAbs
open Go Go.Proofs
theorem Zme {n k:Nat}(h:n<2 ^ k) (hk:k≤1000000000000):Sz n:=by
 have h1:n<4294967296 ^ (k / 32+1):=by
  have e:(4294967296:Nat)=2 ^ 32:=by decide
  rw [e, ← Nat.pow_mul]
  exact Nat.lt_of_lt_of_le h (Nat.pow_le_pow_right (by omega) (by omega))
 have h2:=Z5i h1
 unfold Sz
 omega
structure Qb (k:Nat) (q:Rat):Prop where
 n:q.num.natAbs<2 ^ k
 d:q.den<2 ^ k
theorem Qb.mono {k l:Nat}{q:Rat}(h:Qb k q) (hkl:k≤l):Qb l q :=
 ⟨Nat.lt_of_lt_of_le h.n (Nat.pow_le_pow_right (by omega) hkl),Nat.lt_of_lt_of_le h.d (Nat.pow_le_pow_right (by omega) hkl)⟩
theorem Zed {n d:Int}(hd:d≠0):(Rat.divInt n d).num.natAbs≤n.natAbs∧(Rat.divInt n d).den≤d.natAbs:=by
 refine ⟨?_,?_⟩
 ·rw [Rat.num_divInt,Int.natAbs_ediv_of_dvd,Int.natAbs_mul]
  ·have:d.sign.natAbs≤1:=by
    rcases Int.lt_trichotomy d 0 with h | h | h
    ·rw [Int.sign_eq_neg_one_of_neg h]; decide
    ·exact absurd h hd
    ·rw [Int.sign_eq_one_of_pos h]; decide
   refine Nat.le_trans (Nat.div_le_self _ _) ?_
   have:=Nat.mul_le_mul_right n.natAbs this
   omega
  ·exact Int.dvd_mul_of_dvd_right (Int.gcd_dvd_right d n)
 ·rw [Rat.den_divInt,if_neg hd]; exact Nat.div_le_self _ _
theorem Zcd {a b k:Nat}(ha:a<2 ^ k) (hb:b<2 ^ k):a*b<2 ^ (2*k):=by
 rw [show 2*k=k+k by omega,Nat.pow_add]
 exact Nat.mul_lt_mul'' ha hb
theorem Y7e {a b c d:Int}{k:Nat}(ha:a.natAbs<2 ^ k) (hb:b.natAbs<2 ^ k) (hc:c.natAbs<2 ^ k) (hd:d.natAbs<2 ^ k):(a*b+c*d).natAbs<2 ^ (2*k+1):=by
 have h1:=Int.natAbs_add_le (a*b) (c*d)
 rw [Int.natAbs_mul,Int.natAbs_mul] at h1
 have h2:=Zcd ha hb
 have h3:=Zcd hc hd
 rw [Nat.pow_succ]
 omega
theorem Qb.dz {k:Nat}{q:Rat}(h:Qb k q):(q.den:Int).natAbs<2 ^ k:=by rw [Zbq]; exact h.d
theorem Qb.add {k:Nat}{a b:Rat}(ha:Qb k a) (hb:Qb k b):Qb (2*k+1) (a+b):=by
 rw [← Yn7]
 have h0:(a.den:Int)*b.den≠0:=by have:=den_pos' a; have:=den_pos' b; exact Int.mul_ne_zero (by omega) (by omega)
 obtain ⟨h1,h2⟩:=Zed (n:=a.num*b.den+b.num*a.den) h0
 refine ⟨Nat.lt_of_le_of_lt h1 (Y7e ha.n hb.dz hb.n ha.dz),?_⟩
 rw [Int.natAbs_mul] at h2
 have:=Zcd ha.dz hb.dz
 rw [Nat.pow_succ]
 omega
theorem Qb.mul {k:Nat}{a b:Rat}(ha:Qb k a) (hb:Qb k b):Qb (2*k) (a*b):=by
 rw [← Yny]
 have h0:(a.den:Int)*b.den≠0:=by have:=den_pos' a; have:=den_pos' b; exact Int.mul_ne_zero (by omega) (by omega)
 obtain ⟨h1,h2⟩:=Zed (n:=a.num*b.num) h0
 rw [Int.natAbs_mul] at h1 h2
 exact ⟨Nat.lt_of_le_of_lt h1 (Zcd ha.n hb.n),Nat.lt_of_le_of_lt h2 (Zcd ha.dz hb.dz)⟩
theorem Qb.div {k:Nat}{a b:Rat}(ha:Qb k a) (hb:Qb k b) (h0:b≠0):Qb (2*k) (a / b):=by
 rw [← Yno]
 have hn:b.num≠0:=fun h=>h0 (Rat.num_eq_zero.1 h)
 have h0:(a.den:Int)*b.num≠0:=by have:=den_pos' a; exact Int.mul_ne_zero (by omega) hn
 obtain ⟨h1,h2⟩:=Zed (n:=a.num*b.den) h0
 rw [Int.natAbs_mul] at h1 h2
 exact ⟨Nat.lt_of_le_of_lt h1 (Zcd ha.n hb.dz),Nat.lt_of_le_of_lt h2 (Zcd ha.dz hb.n)⟩
theorem Qb.neg {k:Nat}{a:Rat}(ha:Qb k a):Qb k (-a):=by
 have h1:(-a).num = -a.num:=rfl
 have h2:(-a).den=a.den:=rfl
 exact ⟨by rw [h1,Int.natAbs_neg]; exact ha.n,by rw [h2]; exact ha.d⟩
theorem Qb.sub {k:Nat}{a b:Rat}(ha:Qb k a) (hb:Qb k b):Qb (2*k+1) (a - b):=by
 rw [Rat.sub_eq_add_neg]; exact ha.add hb.neg
theorem Qb.zero {k:Nat}(hk:1≤k):Qb k 0:=by
 have:2 ^ 1≤2 ^ k:=Nat.pow_le_pow_right (by omega) hk
 exact ⟨by show 0<_; omega,by show 1<_; omega⟩
theorem Qb.one {k:Nat}(hk:1≤k):Qb k 1:=by
 have:2 ^ 1≤2 ^ k:=Nat.pow_le_pow_right (by omega) hk
 exact ⟨by show 1<_; omega,by show 1<_; omega⟩
theorem Qb.sz2 {k:Nat}{a b:Rat}(ha:Qb k a) (hb:Qb k b) (hk:2*k+1≤1000000000000):Sz2 a b where
 nd:=Zme (by rw [Int.natAbs_mul]; exact Zcd ha.n hb.dz) (by omega)
 dn:=Zme (by rw [Int.natAbs_mul]; exact Zcd hb.n ha.dz) (by omega)
 nn:=Zme (by rw [Int.natAbs_mul]; exact Zcd ha.n hb.n) (by omega)
 dd:=Zme (Zcd ha.d hb.d) (by omega)
 sm:=Zme (Y7e ha.n hb.dz hb.n ha.dz) hk
 an:=Zme ha.n (by omega)
 bn:=Zme hb.n (by omega)
 ad:=Zme ha.d (by omega)
 bd:=Zme hb.d (by omega)
 si:=Zme (k:=k+1) (by
  have:=Int.natAbs_add_le a.num b.num
  have:=ha.n
  have:=hb.n
  rw [Nat.pow_succ]; omega) (by omega)
theorem Yx3 {a b:Rat}{k:Nat}(ha:Qb k a) (hb:Qb k b) (hk:2*k+1≤1000000000000):SpecV Tryz.prog Ykz [avQ a,avQ b] (avQ (a+b)):=Xap (ha.sz2 hb hk)
theorem Yts {a b:Rat}{k:Nat}(ha:Qb k a) (hb:Qb k b) (hk:2*k+1≤1000000000000):SpecV Tryz.prog Yyy [avQ a,avQ b] (avQ (a*b)):=by
 have h:=ha.sz2 hb hk
 refine Zba Yti (by simp) (Zbg 1 rfl ?_)
 unfold Yqx
 have hm:Tryz.prog.follows .mixedOrders=true:=by kernel_rfl
 have full:∀ (e:Nat→AV),e 2 = .ptr 0 0→e 3 = .ptr 1 0→e 4 = .ptr 2 0→T Tryz.prog 28 0 (.seq (.rg true Zoo) .ret) ⟨e,[.cells [.bool (decide (a.num<0)),.sl (u32c (limbs a.num.natAbs)),.bool (decide ((a.den:Int)<0)),.sl (u32c (limbs (a.den:Int).natAbs))],
   .cells [.bool (decide (b.num<0)),.sl (u32c (limbs b.num.natAbs)),.bool (decide ((b.den:Int)<0)),.sl (u32c (limbs (b.den:Int).natAbs))],.cells [.bool false,.nils,.bool false,.nils]]⟩ (retQ [.cell 4 (some 4)] (avQ (a*b))):=fun e e2 e3 e4=>T_W (by
  simp only [go_sem,Zoo,e2,e3,e4,hm]
  refine Zaa (Zha (a:=a.num) (b:=b.num) h.an.l h.bn.l) (by simp only [go_sem,Zaj]) ?_
  simp only [go_sem,e2,e3,e4]
  refine Zaa (Zha (a:=a.den) (b:=b.den) (by rw [Zbq]; exact h.ad.l) (by rw [Zbq]; exact h.bd.l)) (by simp only [go_sem,Zaj]) ?_
  simp only [go_sem,Zaj,e2,e3,e4]
  refine Zaa (Z6a h.nn (by rw [← Int.natCast_mul,Int.natAbs_natCast]; exact h.dd) (by have:=den_pos' a; have:=den_pos' b; exact Int.mul_ne_zero (by omega) (by omega))) (by simp only [go_sem,Zaj]) ?_
  rw [Yny]
  simp only [go_sem,Zez,e2,e3,e4])
 simp only [go_sem,Zez,Yea,Yd0]
 refine Zaa (Zh1 (a:=a.num) (b:=a.den) (den_pos' a)) (by simp only [go_sem]) ?_
 by_cases ha:(a.den:Int)=1
 ·simp only [go_sem,decide_eq_true ha]
  refine Zaa (Zh1 (a:=b.num) (b:=b.den) (den_pos' b)) (by simp only [go_sem]) ?_
  by_cases hb:(b.den:Int)=1
  ·simp only [go_sem,decide_eq_true hb,Ycn]
   refine Zaa (Zha h.an.l h.bn.l) (by simp only [go_sem,Zaj]) ?_
   simp only [go_sem]
   refine Zaa (Z6t (a.num*b.num)) (by simp only [go_sem,Zaj]) ?_
   have:avQ (a*b)=avF (a.num*b.num) 1:=by
    have h1:=Yiu.1 ha
    have h2:=Yiu.1 hb
    rw [h1,h2, ← Rat.intCast_mul,Yo4]; simp
   rw [← Ypl, ← Zez,this]
   simp only [go_sem]
  ·simp only [go_sem,decide_eq_false hb]
   exact full _ (by simp only [go_sem]) (by simp only [go_sem]) (by simp only [go_sem])
 ·simp only [go_sem,decide_eq_false ha]
  exact full _ (by simp only [go_sem]) (by simp only [go_sem]) (by simp only [go_sem])
theorem Yvp (a:Rat):SpecV Tryz.prog Ylu [avQ a] (avQ (-a)):=Yof a.num a.den
theorem Xdf {a b:Rat}{k:Nat}(ha:Qb k a) (hb:Qb k b) (hk:2*k+1≤1000000000000):SpecV Tryz.prog Yy6 [avQ a,avQ b] (avQ (a - b)):=by
 refine Zad Yug (by simp) ?_
 unfold Ysn
 have hm:Tryz.prog.follows .mixedOrders=true:=by kernel_rfl
 simp only [go_sem,Zez,Yc7,Z1d,hm]
 refine Zaa (Yvp b) (by simp only [go_sem,Zez]) ?_
 simp only [go_sem]
 refine Zaa (Yx3 ha hb.neg hk) (by simp only [go_sem,Zez]) ?_
 rw [Rat.sub_eq_add_neg]
 simp only [go_sem,Zez]
theorem Xeo {a b:Rat}{k:Nat}(ha:Qb k a) (hb:Qb k b) (h0:b≠0) (hk:2*k+1≤1000000000000):SpecV Tryz.prog Yx5 [avQ a,avQ b] (avQ (a / b)):=by
 have h:=ha.sz2 hb hk
 have hn:b.num≠0:=fun h=>h0 (Rat.num_eq_zero.1 h)
 refine Zad Yue (by simp) ?_
 unfold Yqt
 have hm:Tryz.prog.follows .mixedOrders=true:=by kernel_rfl
 simp only [go_sem,Zez,Yb6,Z1g,hm]
 refine Zaa (Zha (a:=a.num) (b:=b.den) h.an.l (by rw [Zbq]; exact h.bd.l)) (by simp only [go_sem,Zaj]) ?_
 simp only [go_sem]
 refine Zaa (Zha (a:=a.den) (b:=b.num) (by rw [Zbq]; exact h.ad.l) h.bn.l) (by simp only [go_sem,Zaj]) ?_
 simp only [go_sem,Zaj]
 refine Zaa (Z6a (n:=a.num*b.den) (d:=a.den*b.num) h.nd (by rw [Int.mul_comm]; exact h.dn) (by have:=den_pos' a; exact Int.mul_ne_zero (by omega) hn)) (by simp only [go_sem,Zaj]) ?_
 rw [Yno]
 simp only [go_sem,Zez]
theorem Yma (a:Rat):SpecV Tryz.prog Ygm [avQ a] (.int .i64 (if a=0 then 0 else if a<0 then -1 else 1)):=by
 have:=Yl1 a.num a.den
 have e1:(a.num=0)=(a=0):=propext Rat.num_eq_zero
 have e2:(a.num<0)=(a<0):=propext (by rw [Rat.lt_iff]; simp)
 simp only [e1,e2] at this
 exact this
theorem Y0x {z:Int}(h1 : -9223372036854775808≤z) (h2:z≤9223372036854775807):SpecV Tryz.prog Zqr [.int .i64 z] (avQ (z:Rat)):=by
 rw [Yo4]; exact Yt9 h1 h2
theorem Yjn:SpecV Tryz.prog Zqr [.int .i64 0] (avQ 0):=Y0x (z:=0) (by omega) (by omega)
theorem Y3u:SpecV Tryz.prog Zqr [.int .i64 1] (avQ 1):=Y0x (z:=1) (by omega) (by omega)
end GoAbs
namespace GoAbs
open Go Go.Proofs
def cmpR (a b:Rat):Int:=if a<b then -1 else if b<a then 1 else 0
theorem Y3q {a b:Rat}{k:Nat}(ha:Qb k a) (hb:Qb k b) (hk:2*k+1≤1000000000000):SpecV Tryz.prog Yze [avQ a,avQ b] (.int .i64 (cmpR a b)):=by
 have h:=ha.sz2 hb hk
 have c:=Yis (a:=a.num*b.den) (b:=b.num*a.den) h.nd.l h.dn.l
 have e1:(a.num*b.den<b.num*a.den)=(a<b):=propext (Rat.lt_iff ..).symm
 have e2:(b.num*a.den<a.num*b.den)=(b<a):=propext (Rat.lt_iff ..).symm
 rw [show (if a.num*b.den<b.num*a.den then (-1:Int) else if b.num*a.den<a.num*b.den then 1 else 0)=cmpR a b from by unfold cmpR; simp only [e1,e2]] at c
 refine Zad Ysv (by simp) ?_
 unfold Yrx
 have hm:Tryz.prog.follows .mixedOrders=true:=by kernel_rfl
 simp only [go_sem,Zez,Ybr,Z0u,hm]
 refine Zaa (Zha (a:=a.num) (b:=b.den) h.an.l (by rw [Zbq]; exact h.bd.l)) (by simp only [go_sem,Zaj]) ?_
 simp only [go_sem]
 refine Zaa (Zha (a:=b.num) (b:=a.den) h.bn.l (by rw [Zbq]; exact h.ad.l)) (by simp only [go_sem,Zaj]) ?_
 simp only [go_sem,Zaj]
 refine Zaa c (by simp only [go_sem,Zaj]) ?_
 simp only [go_sem]
end GoAbs
