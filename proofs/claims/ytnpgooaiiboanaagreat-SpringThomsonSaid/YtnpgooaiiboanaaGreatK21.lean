/- Lemmas for the claim (contracts of the functions that it reaches, and what they compute), without conditions. -/
import Derived.Test.YtnpgooaiiboanaaGreatK20
set_option linter.unusedVariables false
set_option linter.unusedSimpArgs false
set_option maxRecDepth 10000
set_option maxHeartbeats 2000000
namespace GoAbs
open Go Go.Proofs
theorem Z4n {x k:Nat}(h:x<4294967296 ^ k):lenN x≤k:=by
 by_cases h0:x=0
 ·subst h0; simp [lenN,Zas]
 ·obtain ⟨t,h1,h2⟩:=Z4i h0
  obtain ⟨ys,hy⟩:=List.getLast?_eq_some_iff.1 h1
  have hv:=Zay x
  rw [hy,Zbl] at hv
  simp only [val,Nat.mul_zero,Nat.add_zero] at hv
  unfold lenN
  rw [hy,List.length_append,List.length_singleton]
  rcases Nat.lt_or_ge ys.length k with h3 | h3
  ·omega
  ·exfalso
   have h4:4294967296 ^ k≤4294967296 ^ ys.length:=Nat.pow_le_pow_right (by omega) h3
   have h5:4294967296 ^ ys.length*1≤4294967296 ^ ys.length*t:=Nat.mul_le_mul_left _ (by omega)
   generalize 4294967296 ^ ys.length=Z at *
   generalize 4294967296 ^ k=Y at *
   omega
theorem Z0h (x:Nat):x<4294967296 ^ lenN x:=by
 have:=Zwx (Zbj x)
 rwa [Zay] at this
theorem Y56 {x k:Nat}(h:4294967296 ^ k≤x):k<lenN x:=by
 have h1:=Z0h x
 exact (Nat.pow_lt_pow_iff_right (by omega:1<4294967296)).1 (Nat.lt_of_le_of_lt h h1)
theorem Ynz:∀ {k n j:Nat},j<k→(fixL k n)[j]? = some (n / 4294967296 ^ j % 4294967296)
 | 0,n,j,h=>by omega
 | k+1,n,0,h=>by simp [fixL]
 | k+1,n,j+1,h=>by
  simp only [fixL,List.getElem?_cons_succ]
  rw [Ynz (by omega),Nat.div_div_eq_div_mul,Nat.pow_succ,Nat.mul_comm]
theorem Ysb {k x:Nat}(h:x<4294967296 ^ k):limbs x=trimL (fixL k x):=by
 have:=Zc3 (Ybm k x)
 rw [Z8b,Nat.mod_eq_of_lt h] at this
 exact this
theorem Yy7 {t:Nat}(h0:t≠0) (h:t<4294967296):1≤bl t∧bl t≤32∧t<2 ^ bl t∧2 ^ bl t≤2*t:=by
 unfold bl
 rw [if_neg h0]
 have h1:2 ^ t.log2≤t:=(Nat.le_log2 h0).1 (Nat.le_refl _)
 have h2:t<2 ^ (t.log2+1):=(Nat.log2_lt h0).1 (by omega)
 have h3:t.log2<32:=(Nat.log2_lt h0).2 (by simpa using h)
 refine ⟨by omega,by omega,h2,?_⟩
 rw [Nat.pow_succ]; omega
theorem Y29 {t:Nat}(h0:t≠0) (h:t<4294967296):bl t≤32∧32 - bl t<32∧t*2 ^ (32 - bl t)+2 ^ (32 - bl t)≤4294967296∧2147483648≤t*2 ^ (32 - bl t)∧2 ^ (32 - bl t)≤2147483648:=by
 obtain ⟨h1,h2,h3,h4⟩:=Yy7 h0 h
 have e:2 ^ bl t*2 ^ (32 - bl t)=4294967296:=by rw [← Nat.pow_add,show bl t+(32 - bl t)=32 by omega]
 have e2:(t+1)*2 ^ (32 - bl t)≤2 ^ bl t*2 ^ (32 - bl t):=Nat.mul_le_mul_right _ h3
 have e3:2 ^ bl t*2 ^ (32 - bl t)≤2*t*2 ^ (32 - bl t):=Nat.mul_le_mul_right _ h4
 have e4:2*t*2 ^ (32 - bl t)=2*(t*2 ^ (32 - bl t)):=Nat.mul_assoc _ _ _
 have e5:(2:Nat) ^ (32 - bl t)≤2 ^ 31:=Nat.pow_le_pow_right (by omega) (by omega)
 rw [Nat.add_mul] at e2
 refine ⟨h2,by omega,?_,?_,by simpa using e5⟩
 ·omega
 ·omega
theorem Ywn {p t lo s b:Nat}(hb:b=lo+p*t) (hlo:lo<p) (h1:t*s+s≤4294967296) (h2:2147483648≤t*s) (hs:0<s):b*s<p*4294967296∧p*2147483648≤b*s:=by
 have e1:b*s=lo*s+p*(t*s):=by rw [hb,Nat.add_mul,Nat.mul_assoc]
 have e2:lo*s<p*s:=Nat.mul_lt_mul_of_pos_right hlo hs
 have e3:p*(t*s)+p*s≤p*4294967296:=by rw [← Nat.mul_add]; exact Nat.mul_le_mul_left _ h1
 have e4:p*2147483648≤p*(t*s):=Nat.mul_le_mul_left _ h2
 omega
theorem Ysw {B p A V X:Nat}(hB:0<B) (hV:0<V) (hX:X=A / p % B+B*(A / (p*B) % V)):A / p / V=B*(A / (p*B) / V)+X / V∧A / p % V=X % V∧X<B*V:=by
 have e1:A / (p*B)=A / p / B:=(Nat.div_div_eq_div_mul _ _ _).symm
 rw [e1] at hX ⊢
 generalize A / p=Y at *
 have h1:=Nat.mod_add_div Y B
 have h2:=Nat.mod_add_div (Y / B) V
 have h3:=Nat.mod_lt Y hB
 have h4:=Nat.mod_lt (Y / B) hV
 generalize Y / B / V=q at *
 generalize Y / B % V=r at *
 have h5:Y=X+V*(B*q):=by
  have h7:Y=Y % B+B*(r+V*q):=by rw [h2]; exact h1.symm
  rw [Nat.mul_add,Nat.mul_left_comm B V q] at h7
  omega
 have h6:X<B*V:=by
  have:B*(r+1)≤B*V:=Nat.mul_le_mul_left _ h4
  rw [Nat.mul_add] at this
  omega
 refine ⟨?_,?_,h6⟩
 ·rw [h5,Nat.add_mul_div_left _ _ hV]; omega
 ·rw [h5,Nat.add_mul_mod_self_left]
theorem Yvt {U:List Nat}{A V j n L:Nat}(hU:Ok32 U) (hlen:j+(n+1)≤U.length) (hd:val (U.drop (j+1))=A / 4294967296 ^ (j+1) % V) (ht:U.take (j+1)=(fixL L A).take (j+1)) (hj:j<L)
  (hV:V<4294967296 ^ n) (hV0:0<V) :
  ∃ X,val (seg U j (n+1))=X∧X<4294967296*V∧A / 4294967296 ^ j / V=4294967296*(A / 4294967296 ^ (j+1) / V)+X / V∧A / 4294967296 ^ j % V=X % V∧val (U.drop (j+(n+1)))=0:=by
 have gj:U[j]? = some (A / 4294967296 ^ j % 4294967296):=by
  have h1:(U.take (j+1))[j]? = U[j]? := List.getElem?_take_of_lt (by omega)
  have h2:((fixL L A).take (j+1))[j]? = (fixL L A)[j]? := List.getElem?_take_of_lt (by omega)
  rw [← h1,ht,h2,Ynz hj]
 have hX:val (U.drop j)=A / 4294967296 ^ j % 4294967296+4294967296*(A / 4294967296 ^ (j+1) % V):=by rw [Z17 gj,hd]
 rw [Nat.pow_succ] at hX ⊢
 obtain ⟨h1,h2,h3⟩:=Ysw (by omega) hV0 hX
 have hsplit:val (U.drop j)=val (seg U j (n+1))+4294967296 ^ (n+1)*val (U.drop (j+(n+1))):=by
  have e:U.drop j=seg U j (n+1)++U.drop (j+(n+1)):=by
   unfold seg
   rw [← List.drop_drop,List.take_append_drop]
  have e2:=Zbl (seg U j (n+1)) (U.drop (j+(n+1)))
  rw [Z31 hlen] at e2
  rw [e,e2]
 have hz:val (U.drop (j+(n+1)))=0:=by
  have h4:4294967296*V<4294967296 ^ (n+1):=by
   rw [Nat.pow_succ,Nat.mul_comm]; exact Nat.mul_lt_mul_of_pos_right hV (by omega)
  rcases Nat.eq_zero_or_pos (val (U.drop (j+(n+1)))) with h | h
  ·exact h
  ·have h5:4294967296 ^ (n+1)*1≤4294967296 ^ (n+1)*val (U.drop (j+(n+1))):=Nat.mul_le_mul_left _ h
   generalize 4294967296 ^ (n+1)=Z at *
   omega
 rw [hz,Nat.mul_zero,Nat.add_zero] at hsplit
 exact ⟨val (U.drop j),hsplit.symm,h3,h1,h2,hz⟩
theorem Yx1 {A V n la:Nat}{v:List Nat}{s:Nat}{a:List Nat}(hv:v=limbs V) (hn:v.length=n) (hn2:2≤n) (hla:a.length=la) (hle:n≤la) (hlal:la≤549755813887) (hV:V<4294967296 ^ n) (hV0:0<V)
  (hA:A / 4294967296 ^ (la - n+1)<V) (hAl:A<4294967296 ^ (la+1)) {K:Ex→St→Prop}
  (hK:∀ U Q e,Ok32 U→Ok32 Q→U.length=la+1→Q.length=la - n+1→val U=A % V→val Q=A / V →
   e 8 = .int .i64 (s:Int)→e 10 = .osl none 0 0 (la+1)→e 11 = .int .i64 (n:Int)→e 12 = .osl none 1 0 (la - n+1)→K (.exit 0) ⟨e,[.cells (u32c U),.cells (u32c Q)]⟩) :
  T Tryz.prog 85 0 (.loop Zsk) ⟨envL [(0,.sl (u32c a)),(8,.int .i64 (s:Int)),(9,.sl (u32c v)),(10,.osl none 0 0 (la+1)),(11,.int .i64 (n:Int)),(12,.osl none 1 0 (la - n+1)),(13,.int .i64 ((la - n:Nat):Int))],[.cells (u32c (fixL (la+1) A)),.cells (u32c (List.replicate (la - n+1) 0))]⟩ K:=by
 refine Zag (fun z:Nat×List Nat×List Nat=>⟨envL [(0,.sl (u32c a)),(8,.int .i64 (s:Int)),(9,.sl (u32c v)),(10,.osl none 0 0 (la+1)),(11,.int .i64 (n:Int)),(12,.osl none 1 0 (la - n+1)),(13,.int .i64 ((z.1:Int) - 1))],[.cells (u32c z.2.1),.cells (u32c z.2.2)]⟩)
  (fun z=>z.1≤la - n+1∧Ok32 z.2.1∧Ok32 z.2.2∧z.2.1.length=la+1∧z.2.2.length=la - n+1∧val (z.2.1.drop z.1)=A / 4294967296 ^ z.1 % V∧z.2.1.take z.1=(fixL (la+1) A).take z.1∧val (z.2.2.drop z.1)=A / 4294967296 ^ z.1 / V) (fun z=>z.1) (la - n+1,fixL (la+1) A,List.replicate (la - n+1) 0)
  ⟨Nat.le_refl _,Ybm _ _,Ok32.rep,Zo9 _ _,by simp,?_,rfl,?_⟩ ?_ (fun z hI N hN=>?_)
 ·simp only
  rw [Nat.mod_eq_of_lt hA]
  have h1:val (fixL (la+1) A)=A:=by rw [Z8b,Nat.mod_eq_of_lt hAl]
  have hl:la - n+1≤(fixL (la+1) A).length:=by rw [Zo9]; omega
  have h2:=Zbl ((fixL (la+1) A).take (la - n+1)) ((fixL (la+1) A).drop (la - n+1))
  rw [List.take_append_drop,h1,List.length_take,Nat.min_eq_left hl] at h2
  have h3:=Zwx ((Ybm (la+1) A).take (n:=la - n+1))
  rw [List.length_take,Nat.min_eq_left hl] at h3
  generalize val (List.drop (la - n+1) (fixL (la+1) A))=D at h2 ⊢
  generalize val (List.take (la - n+1) (fixL (la+1) A))=T at h2 h3
  rw [h2,Nat.add_mul_div_left _ _ (by omega),Nat.div_eq_of_lt h3,Nat.zero_add]
 ·simp only
  rw [List.drop_of_length_le (by simp),Nat.div_eq_of_lt hA]; rfl
 ·refine Zab _ ?_
  have:((la - n+1:Nat):Int) - 1=((la - n:Nat):Int):=by omega
  simp only [go_sem,this]
 ·obtain ⟨k,U,Q⟩:=z
  obtain ⟨h1,h2,h3,h4,h5,h6,h7,h8⟩:=hI
  simp only at h1 h2 h3 h4 h5 h6 h7 h8 ⊢
  unfold Zsk
  cases k with
  | zero =>
   have p1:¬ (0:Int)≤((0:Nat):Int) - 1:=by omega
   simp only [go_sem,Zo0,p1]
   rw [List.drop_zero,Nat.pow_zero,Nat.div_one] at h6 h8
   exact hK U Q _ h2 h3 h4 h5 h6 h8 (by simp only [go_sem]) (by simp only [go_sem]) (by simp only [go_sem]) (by simp only [go_sem])
  | succ j =>
   obtain ⟨X,k1,k2,k3,k4,k5⟩:=Yvt h2 (by omega) h6 h7 (show j<la+1 by omega) hV hV0
   have hj:((j+1:Nat):Int) - 1=(j:Int):=by omega
   have p1:(0:Int)≤(j:Int):=by omega
   have e1:IntKind.i64.wrap ((j:Int)+n)=(j+n:Nat):=by rw [Zac (by omega) (by omega)]; omega
   have e2:IntKind.i64.wrap (((j+n:Nat):Int)+1)=(j+n+1:Nat):=by rw [Zac (by omega) (by omega)]; omega
   have e3:IntKind.i64.wrap ((j:Int) - 1)=(j:Int) - 1:=by rw [Zac (by omega) (by omega)]
   have p2:(0:Int)≤((j+n+1:Nat):Int):=by omega
   have p3:j≤j+n+1:=by omega
   have p4:j+n+1≤la+1:=by omega
   have p5:(j:Int)<((la - n+1:Nat):Int):=by omega
   simp only [go_sem,Zo0,Z1y,hj,p1,e1,e2,p2,p3,p4]
   obtain ⟨m,rfl⟩:∃ m,n=m+2:=⟨n - 2,by omega⟩
   have hlen:j+(m+2)+1 - j=m+3:=by omega
   rw [hlen]
   obtain ⟨v1,hv1,hv10⟩:=Z4i (n:=V) (by omega)
   have gv1:v[m+1]? = some v1:=by
    rw [← hv,List.getLast?_eq_getElem?] at hv1
    rw [← hv1]; congr 1; omega
   have hX:val (seg U j (m+3))=X:=k1
   have hvV:val v=V:=by rw [hv,Zay]
   have spec:=Ysd (H := [.cells (u32c U),.cells (u32c Q)]) (b:=0) (off:=j) (m:=m) (U:=U) (v:=v) (v1:=v1) rfl h2 (by rw [hv]; exact Zbj V) (by omega) hn (by omega) gv1 (by omega) (by rw [hX,hvV]; exact k2)
   rw [hX,hvV] at spec
   refine Zi0 spec ?_
   have hl1:j+1≤(u32c Q).length:=by rw [Zad]; omega
   simp only [go_sem,Z0y,p1,p5,hl1,e3]
   rw [Za5 (by rw [Zad]; omega),Zcs]
   have hXV:X % V<4294967296 ^ (m+3):=Nat.lt_trans (Nat.mod_lt _ hV0) (Nat.lt_of_lt_of_le hV (Nat.pow_le_pow_right (by omega) (by omega)))
   have hq:X / V<4294967296:=(Nat.div_lt_iff_lt_mul hV0).2 k2
   refine hN (j,U.take j++fixL (m+3) (X % V)++U.drop (j+(m+3)),Q.set j (X / V)) _ ⟨by omega,?_,h3.set hq,?_,by simp [h5],?_,?_,?_⟩ (by show j<j+1; omega) (Zab _ (by simp only [go_sem]))
   ·exact (h2.take.append (Ybm _ _)).append h2.drop
   ·simp only [List.length_append,List.length_take,List.length_drop,Zo9]; omega
   ·simp only
    have hl:(U.take j).length=j:=by simp; omega
    rw [List.append_assoc,List.drop_append_of_le_length (by omega),List.drop_of_length_le (by omega),List.nil_append,Zbl,k5,Z8b,Nat.mod_eq_of_lt hXV,k4]; omega
   ·simp only
    have hl:(U.take j).length=j:=by simp; omega
    rw [List.append_assoc,List.take_append_of_le_length (by omega),List.take_of_length_le (by omega)]
    have:=congrArg (List.take j) h7
    rw [List.take_take,List.take_take,Nat.min_eq_left (by omega)] at this
    exact this
   ·simp only
    rw [Z6o (by omega),h8,k3]; omega
end GoAbs
