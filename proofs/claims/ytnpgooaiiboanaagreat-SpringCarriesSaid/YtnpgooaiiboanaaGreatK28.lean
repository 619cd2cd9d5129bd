/- Lemmas for the claim (contracts of the functions that it reaches, and what they compute), without conditions. -/
import Derived.Test.YtnpgooaiiboanaaGreatK27
import Derived.Test.YtnpgooaiiboanaaGreatProg
import Derived.KernelRfl
set_option linter.unusedVariables false
set_option linter.unusedSimpArgs false
set_option maxRecDepth 10000
set_option maxHeartbeats 2000000
namespace GoAbs
open Go Go.Proofs
theorem rover {a b:Int}:SpecV Tryz.prog Ysa [avZ a,avZ b] (if b<0 then avR (-a) (-b) else avR a b):=by
 have hm:Tryz.prog.follows .mixedOrders=true:=by kernel_rfl
 refine Zad Ymq (by simp) ?_
 unfold Yjg
 have n1:=Yo9 (z:=a)
 have n2:=Yo9 (z:=b)
 rw [Zah,Zah] at n1 n2
 rw [Zah,Zah]
 by_cases h:b<0
 ·rw [if_pos h,Zax]
  simp only [go_sem,Zsv,Zu2,Ztf,Ztd,h,decide_true,hm]
  simp only [h,decide_true] at n2
  refine Zaa n1 (by simp only [go_sem]) ?_
  simp only [go_sem]
  refine Zaa n2 (by simp only [go_sem]) ?_
  simp only [go_sem]
 ·rw [if_neg h,Zax]
  simp only [go_sem,Zsv,Zu2,Ztd,h,decide_false]
theorem rsubq {n1 d1 n2 d2:Int}{k:Nat}(h1:Ib k n1) (h2:Ib k d1) (h3:Ib k n2) (h4:Ib k d2) (hk:k≤1000000):SpecV Tryz.prog Yeb [avR n1 d1,avR n2 d2] (avR (n1*d2 - n2*d1) (d1*d2)):=by
 have hm:Tryz.prog.follows .mixedOrders=true:=by kernel_rfl
 refine Zad Ykj (by simp) ?_
 unfold Yhc
 have z1:=h1.zs (by omega)
 have z2:=h2.zs (by omega)
 have z3:=h3.zs (by omega)
 have z4:=h4.zs (by omega)
 have m1:=Znq z1 z4
 have m2:=Znq z3 z2
 have m3:=Znq z2 z4
 have m4:=You ((h1.mul h4).zs (by omega)) ((h3.mul h2).zs (by omega))
 rw [Zah,Zah,Zah] at m1 m2 m3 m4
 rw [Zax,Zax,Zax]
 simp only [go_sem,Z5m,Zvt,hm]
 refine Zaa m1 (by simp only [go_sem]) ?_
 simp only [go_sem]
 refine Zaa m2 (by simp only [go_sem]) ?_
 simp only [go_sem]
 refine Zaa m4 (by simp only [go_sem]) ?_
 simp only [go_sem]
 refine Zaa m3 (by simp only [go_sem]) ?_
 simp only [go_sem]
theorem rcmpq {n1 d1 n2 d2:Int}{k:Nat}(h1:Ib k n1) (h2:Ib k d1) (h3:Ib k n2) (h4:Ib k d2) (hk:k≤1000000):SpecV Tryz.prog Yd7 [avR n1 d1,avR n2 d2] (.int .i64 (if n1*d2=n2*d1 then 0 else if n1*d2<n2*d1 then -1 else 1)):=by
 have hm:Tryz.prog.follows .mixedOrders=true:=by kernel_rfl
 refine Zad Ylq (by simp) ?_
 unfold Yim
 have z1:=h1.zs (by omega)
 have z2:=h2.zs (by omega)
 have z3:=h3.zs (by omega)
 have z4:=h4.zs (by omega)
 have m1:=Znq z1 z4
 have m2:=Znq z3 z2
 have m4:=Yt7 ((h1.mul h4).zs (by omega)) ((h3.mul h2).zs (by omega))
 rw [Zah,Zah,Zah] at m1 m2
 rw [Zah,Zah] at m4
 rw [Zax,Zax]
 simp only [go_sem,Z7a,Zvz,hm]
 refine Zaa m1 (by simp only [go_sem]) ?_
 simp only [go_sem]
 refine Zaa m2 (by simp only [go_sem]) ?_
 simp only [go_sem]
 refine Zaa m4 (by simp only [go_sem]) ?_
 simp only [go_sem]
theorem rdivq {n1 d1 n2 d2:Int}{k:Nat}(h1:Ib k n1) (h2:Ib k d1) (h3:Ib k n2) (h4:Ib k d2) (hk:k≤1000000):SpecV Tryz.prog Ydr [avR n1 d1,avR n2 d2] (if d1*n2<0 then avR (-(n1*d2)) (-(d1*n2)) else avR (n1*d2) (d1*n2)):=by
 have hm:Tryz.prog.follows .mixedOrders=true:=by kernel_rfl
 refine Zad Yk5 (by simp) ?_
 unfold Yi1
 have z1:=h1.zs (by omega)
 have z2:=h2.zs (by omega)
 have z3:=h3.zs (by omega)
 have z4:=h4.zs (by omega)
 have m1:=Znq z1 z4
 have m2:=Znq z2 z3
 have m3:=rover (a:=n1*d2) (b:=d1*n2)
 rw [Zah,Zah,Zah] at m1 m2
 rw [Zah,Zah] at m3
 rw [Zax,Zax]
 simp only [go_sem,Z72,Zut,hm]
 refine Zaa m1 (by simp only [go_sem]) ?_
 simp only [go_sem]
 refine Zaa m2 (by simp only [go_sem]) ?_
 simp only [go_sem]
 by_cases h:d1*n2<0
 ·rw [if_pos h,Zax] at m3 ⊢
  refine Zaa m3 (by simp only [go_sem]) ?_
  simp only [go_sem]
 ·rw [if_neg h,Zax] at m3 ⊢
  refine Zaa m3 (by simp only [go_sem]) ?_
  simp only [go_sem]
end GoAbs
namespace GoAbs
open Go Go.Proofs
theorem Y4b {l:List UInt8}{lo hi n0:Nat}{b1 b2:Blk}(hlo:lo≤hi) (hh:hi≤lo+4) (hl:hi≤l.length) (hll:l.length≤4000) {K:Ex→St→Prop}
  (hbad:∀ e:Nat→AV,¬ AllD l→e 2 = .ptr 0 0→e 3 = .bool false→K .ret ⟨e,[.cells [.bool false,.nils],b1,b2]⟩)
  (hK:∀ e:Nat→AV,AllD ((l.take hi).drop lo)→e 0 = .str (bs l)→e 2 = .ptr 0 0→e 4 = .ptr 1 0→e 5 = .int .i64 (hi:Int)→e 6 = .int .i64 (numL ((l.take hi).drop lo):Int)→K (.exit 2) ⟨e,[.cells [.bool false,.nils],b1,b2]⟩) :
  T Tryz.prog 69 n0 (.loop Zmv) ⟨envL [(0,.str (bs l)),(2,.ptr 0 0),(4,.ptr 1 0),(5,.int .i64 (hi:Int)),(6,.int .i64 0),(7,.int .i64 (lo:Int))],[.cells [.bool false,.nils],b1,b2]⟩ K:=by
 refine Zaf (fun i:Nat=>⟨envL [(0,.str (bs l)),(2,.ptr 0 0),(4,.ptr 1 0),(5,.int .i64 (hi:Int)),(6,.int .i64 (numL ((l.take i).drop lo):Int)),(7,.int .i64 (i:Int))],[.cells [.bool false,.nils],b1,b2]⟩)
  (fun i=>lo≤i∧i≤hi∧AllD ((l.take i).drop lo)) (fun i=>hi - i) lo
  ⟨Nat.le_refl _,hlo,fun c hc=>by rw [List.drop_eq_nil_of_le (by simp; omega)] at hc; simp at hc⟩ (Zab _ (by
   have:(l.take lo).drop lo = []:=List.drop_eq_nil_of_le (by simp; omega)
   simp only [go_sem,this,Zwb]; simp)) (fun i hI N hN=>?_)
 obtain ⟨h1,h2,h3⟩:=hI
 unfold Zmv
 by_cases hi':i<hi
 ·obtain ⟨c,gi⟩:∃ c,l[i]? = some c:=⟨_,List.getElem?_eq_getElem (show i<l.length by omega)⟩
  have p1:(i:Int)<(hi:Int):=by omega
  have p2:(0:Int)≤(i:Int):=by omega
  have e6:IntKind.i64.wrap ((i:Int)+1)=((i+1:Nat):Int):=by rw [Zac (by omega) (by omega)]; omega
  have hst:(l.take (i+1)).drop lo=(l.take i).drop lo ++ [c]:=by
   rw [List.take_add_one,gi]
   rw [List.drop_append_of_le_length (by simp; omega)]; rfl
  have hlt:numL ((l.take i).drop lo)<10 ^ 4:=by
   refine Nat.lt_of_lt_of_le (Zqb h3) (Nat.pow_le_pow_right (by omega) ?_)
   simp; omega
  by_cases c1:c.toNat<48
  ·have q1:(c.toNat:Int)<48:=by omega
   have hnd:¬ AllD l:=fun h=>by have:=h c (List.mem_of_getElem? gi); unfold isDig at this; omega
   simp only [go_sem,Zdw,Zf1,Zkj,p1,p2,Zb6,gi,q1]
   exact hbad _ hnd (by simp only [go_sem]) (by simp only [go_sem])
  ·have q1:¬ (c.toNat:Int)<48:=by omega
   by_cases c2:57<c.toNat
   ·have q2:(57:Int)<(c.toNat:Int):=by omega
    have hnd:¬ AllD l:=fun h=>by have:=h c (List.mem_of_getElem? gi); unfold isDig at this; omega
    simp only [go_sem,Zdw,Zf1,Zkj,p1,p2,Zb6,gi,q1,q2]
    exact hbad _ hnd (by simp only [go_sem]) (by simp only [go_sem])
   ·have q2:¬ (57:Int)<(c.toNat:Int):=by omega
    have e1:IntKind.u8.wrap ((c.toNat:Int) - 48)=((c.toNat - 48:Nat):Int):=by rw [Y2j (by omega) (by omega)]; omega
    have e2:IntKind.i64.wrap ((c.toNat - 48:Nat):Int)=((c.toNat - 48:Nat):Int):=Zac (by omega) (by omega)
    have e3:IntKind.i64.wrap (10*((numL ((l.take i).drop lo):Nat):Int))=((10*numL ((l.take i).drop lo):Nat):Int):=by rw [Zac (by omega) (by omega)]; omega
    have e4:IntKind.i64.wrap (((10*numL ((l.take i).drop lo):Nat):Int)+((c.toNat - 48:Nat):Int))=((numL ((l.take (i+1)).drop lo):Nat):Int):=by
     rw [hst,Z18,Zac (by omega) (by omega)]; omega
    simp only [go_sem,Zdw,Zf1,Zv8,Zue,p1,p2,Zb6,gi,q1,q2,e1,e2,e3,e4,e6]
    refine hN (i+1) _ ⟨by omega,by omega,fun x hx=>?_⟩ (by omega) (Zab _ (by simp only [go_sem]))
    rw [hst] at hx
    rcases List.mem_append.1 hx with hx | hx
    ·exact h3 x hx
    ·simp at hx; subst hx; unfold isDig; omega
 ·have he:i=hi:=by omega
  subst he
  have p1:¬ (i:Int)<(i:Int):=by omega
  simp only [go_sem,Zdw,p1]
  exact hK _ h3 (by simp only [go_sem]) (by simp only [go_sem]) (by simp only [go_sem]) (by simp only [go_sem]) (by simp only [go_sem])
theorem Y56 {l:List UInt8}(hl0:l ≠ []) (hll:l.length≤4000) {K:Ex→St→Prop}
  (hbad:∀ (e:Nat→AV) (b1 b2:Blk),¬ AllD l→e 2 = .ptr 0 0→e 3 = .bool false→K .ret ⟨e,[.cells [.bool false,.nils],b1,b2]⟩)
  (hK:∀ (e:Nat→AV) (s:List Nat),AllD l→Od s→vd s=numL l→s.length≤4001→e 2 = .ptr 0 0→e 4 = .ptr 1 0→K (.exit 0) ⟨e,[.cells [.bool false,.nils],.cells [.bool false,.osl none 2 0 s.length],.cells (ic s)]⟩) :
  T Tryz.prog 69 0 (.loop Zhr) ⟨envL [(0,.str (bs l)),(2,.ptr 0 0),(4,.ptr 1 0),(5,.int .i64 (l.length:Int))],[.cells [.bool false,.nils],.cells [.bool false,.osl none 2 0 0],.cells []]⟩ K:=by
 refine Zaf (fun s:List Nat=>⟨envL [(0,.str (bs l)),(2,.ptr 0 0),(4,.ptr 1 0),(5,.int .i64 ((l.length:Int) - 4*s.length))],[.cells [.bool false,.nils],.cells [.bool false,.osl none 2 0 s.length],.cells (ic s)]⟩)
  (fun s=>Od s∧4*s.length<l.length+4∧AllD (l.drop (l.length - 4*s.length))∧vd s=numL (l.drop (l.length - 4*s.length))) (fun s=>l.length+4 - 4*s.length) []
  ⟨fun x hx=>by simp at hx,by simp,fun c hc=>by simp at hc,by simp [vd,Zwb]⟩ (Zab _ (by simp only [go_sem]; simp)) (fun s hI N hN=>?_)
 obtain ⟨h1,h2,h3,h4⟩:=hI
 unfold Zhr
 by_cases hgo:4*s.length<l.length
 ·obtain ⟨hi,hhi⟩:∃ hi,hi=l.length - 4*s.length:=⟨_,rfl⟩
  obtain ⟨lo,hlo⟩:∃ lo,lo=hi - 4:=⟨_,rfl⟩
  have ehi:(l.length:Int) - 4*(s.length:Int)=(hi:Int):=by omega
  have p1:(0:Int)<(hi:Int):=by omega
  have e1:IntKind.i64.wrap ((hi:Int) - 4)=(hi:Int) - 4:=Zac (by omega) (by omega)
  have e2:(if (hi:Int) - 4 > 0 then (hi:Int) - 4 else 0)=(lo:Int):=by split <;> omega
  simp only [go_sem,Zmr,Zy9,Zyw,ehi,p1,e1]
  rw [← hhi] at h3 h4
  have hlo2:l.length - 4*(s.length+1)=lo:=by omega
  refine Za0 [(0,.str (bs l)),(2,.ptr 0 0),(4,.ptr 1 0),(5,.int .i64 (hi:Int)),(6,.int .i64 0),(7,.int .i64 (lo:Int))] (by simp only [go_sem,e2])
   (Y4b (by omega) (by omega) (by omega) hll (fun e hn k2 k3=>by simp only [go_sem]; exact hbad e _ _ hn k2 k3) (fun e g1 k0 k2 k4 k5 k6=>?_))
  have hsz:(s.length+1)*8≤1099511627776:=by omega
  have hfit:s.length≤(ic s).length:=by rw [Zap]; omega
  have htake:(ic s).take s.length=ic s:=List.take_of_length_le (by rw [Zap]; omega)
  have e3:(hi:Int) - 4=(l.length:Int) - 4*((s.length+1:Nat):Int):=by omega
  have hgl:((l.take hi).drop lo).length≤4:=by simp; omega
  have hsplit:l.drop lo=(l.take hi).drop lo++l.drop hi:=by
   have h:=List.take_append_drop hi l
   conv=>lhs; rw [← h]
   rw [List.drop_append_of_le_length (by simp; omega)]
  have hnum:numL (l.drop lo)=numL ((l.take hi).drop lo)*10000 ^ s.length+numL (l.drop hi):=by
   rw [hsplit,Zg2]
   have:(l.drop hi).length=4*s.length:=by rw [List.length_drop]; omega
   rw [this,Nat.pow_mul]
  have hd4:numL ((l.take hi).drop lo)<10000:=by
   have h1:=Zqb g1
   have h2:10 ^ ((l.take hi).drop lo).length≤10 ^ 4:=Nat.pow_le_pow_right (by omega) hgl
   exact Nat.lt_of_lt_of_le h1 h2
  generalize numL ((l.take hi).drop lo)=d at *
  simp only [go_sem,Zs1,Zvp,k4,k5,k6,hsz,hfit,htake,e1]
  refine hN (s ++ [d]) _ ⟨h1.append (fun x hx=>by simp at hx; omega),by rw [List.length_append,List.length_singleton]; omega,?_,?_⟩ (by show _<_; rw [List.length_append,List.length_singleton]; omega) ?_
  ·rw [List.length_append,List.length_singleton,hlo2,hsplit]
   intro x hx
   rcases List.mem_append.1 hx with hx | hx
   ·exact g1 x hx
   ·exact h3 x hx
  ·rw [List.length_append,List.length_singleton,hlo2,hnum,Zk0,h4]
   simp only [vd,Nat.mul_zero,Nat.add_zero]
   rw [Nat.mul_comm d]; omega
  ·refine Zgo (Zjl [0,1,4] (by decide) (fun i hi=>by omega) [(0,.str (bs l)),(2,.ptr 0 0),(4,.ptr 1 0),(5,.int .i64 ((l.length:Int) - 4*((s.length+1:Nat):Int)))] (by simp only [go_sem,k0,k2,k4,e3])) ?_
   have h1:ic s ++ [AV.int .i64 (d:Int)]=ic (s ++ [d]):=by rw [Z9w]; rfl
   simp only [List.length_append,List.length_singleton]
   congr 1
   show [Blk.cells [.bool false,.nils],Blk.cells [.bool false,.osl none 2 0 (s.length+1)],Blk.cells (gcL _ (ic s ++ [AV.int .i64 (d:Int)]))]=_
   rw [h1,Y2o]
 ·have p1:¬ (0:Int)<(l.length:Int) - 4*(s.length:Int):=by omega
  have hz:l.length - 4*s.length=0:=by omega
  rw [hz,List.drop_zero] at h3 h4
  simp only [go_sem,Zmr,p1]
  exact hK _ s h3 h1 h4 (by omega) (by simp only [go_sem]) (by simp only [go_sem])
end GoAbs
namespace GoAbs
open Go Go.Proofs
def digR (l:List UInt8):AV:=if digOk l then .tup [avZ (numL l),.bool true] else .tup [.agg [.bool false,.nils],.bool false]
theorem rdigits {l:List UInt8}(hlen:l.length≤1000000000):SpecV Tryz.prog Yik [.str (bs l)] (digR l):=by
 refine Zbt Ye2 (by simp) (Ze7 1 rfl ?_)
 unfold Ybg
 have tail:∀ (e:Nat→AV),l ≠ []→l.length≤4000→¬ (l.head? = some 48∧1<l.length)→e 0 = .str (bs l)→e 2 = .ptr 0 0 →
   T Tryz.prog 69 0 (.seq (.rg false Zmx) (.seq (.seq (.rg false Zma) (.block 0 (.loop Zhr))) (.seq (.rg false Zjz) .ret))) ⟨e,[.cells [.bool false,.nils]]⟩ (retQ [.cell 2 (some 2),.tmp 3] (digR l)):=fun e h0 hl h48 k0 k2=>by
  refine Zms (T_W ?_)
  simp only [go_sem,Zmx]
  refine Za0 [(0,.str (bs l)),(2,.ptr 0 0),(4,.ptr 1 0)] (by simp only [go_sem,k0,k2]) ?_
  refine T_le (Z8u (b:=1) (l := [.bool false,.nils]) (l' := [.bool false,.osl none 2 0 0]) rfl rfl (fun j x y hx hy=>?_)) (T_le Yjn ?_)
  ·match j,hx,hy with
   | 0,hx,hy=>simp at hx hy; subst hx; subst hy; exact .inl rfl
   | 1,hx,hy=>simp at hx hy; subst hx; subst hy; exact .inr ⟨rfl,_,_,_,rfl⟩
   | j+2,hx,hy=>simp at hx
  refine Zms (Zms (T_W ?_))
  simp only [go_sem,Zma,Zaj]
  refine Zov ?_
  refine Za0 [(0,.str (bs l)),(2,.ptr 0 0),(4,.ptr 1 0),(5,.int .i64 (l.length:Int))] (by simp only [go_sem]) ?_
  refine Y56 h0 hl (fun e2 b1 b2 hn j2 j3=>?_) (fun e2 s g1 g2 g3 g4 j2 j4=>?_)
  ·have hr:digR l = .tup [.agg [.bool false,.nils],.bool false]:=by unfold digR; rw [if_neg (fun h=>hn h.1)]
   rw [hr]
   simp only [go_sem,j2,j3]
  ·have hr:digR l = .tup [avZ (numL l),.bool true]:=by unfold digR; rw [if_pos ⟨g1,h0,h48,hl⟩]
   rw [hr]
   have hln:=Zmq (m:=false) g2 (by omega)
   rw [g3] at hln
   simp only [Bool.false_eq_true,if_false] at hln
   rw [Zat] at hln ⊢
   simp only [go_sem]
   refine T_W ?_
   simp only [go_sem,Zjz,j2,j4]
   refine Zki (ids := [2]) hln ?_ ?_
   ·simp only [go_sem]
    exact Yip (r:=s) rfl (by simp) rfl (by rw [List.drop_zero]; exact List.take_of_length_le (by simp [Zap]))
   simp only [go_sem,j2]
 have bad:¬ digOk l→digR l = .tup [.agg [.bool false,.nils],.bool false]:=fun h=>by unfold digR; rw [if_neg h]
 by_cases h0:l = []
 ·have q1:(l.length:Int)<1:=by rw [h0]; simp
  rw [bad (fun h=>h.2.1 h0)]
  simp only [go_sem,Zcd,Zca,Zhk,Zaj,q1]
 ·have hpos:0<l.length:=List.length_pos_iff.2 h0
  have q1:¬ (l.length:Int)<1:=by omega
  obtain ⟨c,gi⟩:∃ c,l[0]? = some c:=⟨_,List.getElem?_eq_getElem hpos⟩
  have hhd:l.head? = some c:=by rw [List.head?_eq_getElem?]; exact gi
  by_cases h4:l.length≤4000
  ·have q2:¬ (4000:Int)<(l.length:Int):=by omega
   by_cases hc:c=48
   ·have hci:(c.toNat:Int)=48:=by rw [hc]; rfl
    by_cases h1:1<l.length
    ·have q3:(1:Int)<(l.length:Int):=by omega
     rw [bad (fun h=>h.2.2.1 ⟨by rw [hhd,hc],h1⟩)]
     simp only [go_sem,Zcd,Zca,Zhk,Zaj,Zb6,gi,q1,q2,q3,hci]
    ·have q3:¬ (1:Int)<(l.length:Int):=by omega
     simp only [go_sem,Zcd,Zca,Zaj,Zb6,gi,q1,q2,q3,hci]
     exact tail _ h0 h4 (fun h=>h1 h.2) (by simp only [go_sem]) (by simp only [go_sem])
   ·have hci:¬ (c.toNat:Int)=48:=fun h=>hc (UInt8.toNat_inj.1 (by have:(48:UInt8).toNat=48:=rfl; omega))
    simp only [go_sem,Zcd,Zca,Zaj,Zb6,gi,q1,q2,hci]
    exact tail _ h0 h4 (fun h=>hc (by rw [hhd] at h; simpa using h.1)) (by simp only [go_sem]) (by simp only [go_sem])
  ·have q2:(4000:Int)<(l.length:Int):=by omega
   rw [bad (fun h=>h4 h.2.2.2)]
   simp only [go_sem,Zcd,Zca,Zhk,Zaj,q1,q2]
end GoAbs
namespace GoAbs
open Go Go.Proofs
def befL (o:List UInt8):List UInt8:=o.takeWhile (· != 47)
def aftL (o:List UInt8):List UInt8:=(o.dropWhile (· != 47)).tail
theorem Yxv {o:List UInt8}{i:Nat}{c:UInt8}(h:o[i]? = some c):(befL (o.drop i))=if c=47 then [] else c::befL (o.drop (i+1)):=by
 obtain ⟨hi,he⟩:=List.getElem?_eq_some_iff.1 h
 rw [List.drop_eq_getElem_cons hi,he]
 unfold befL
 rw [List.takeWhile_cons]
 by_cases hc:c=47 <;> simp [hc]
theorem Yyd {o:List UInt8}{m:Bool}{n0:Nat}{H:Heap}(ho:o.length≤1000000000) {K:Ex→St→Prop}
  (hK:∀ e:Nat→AV,e 2 = .ptr 0 0→e 4 = .str (bs o)→e 5 = .bool m→e 6 = .int .i64 ((befL o).length:Int)→K (.exit 0) ⟨e,H⟩) :
  T Tryz.prog 98 n0 (.loop Zjk) ⟨envL [(2,.ptr 0 0),(4,.str (bs o)),(5,.bool m),(6,.int .i64 (o.length:Int)),(7,.int .i64 ((o.length:Int) - 1))],H⟩ K:=by
 refine Zaf (fun i:Nat=>⟨envL [(2,.ptr 0 0),(4,.str (bs o)),(5,.bool m),(6,.int .i64 ((i+(befL (o.drop i)).length:Nat):Int)),(7,.int .i64 ((i:Int) - 1))],H⟩)
  (fun i=>i≤o.length) (fun i=>i) o.length (Nat.le_refl _) (Zab _ (by simp only [go_sem,List.drop_length]; simp [befL])) (fun i hi N hN=>?_)
 unfold Zjk
 cases i with
 | zero =>
  have q1:¬ (0:Int)≤((0:Nat):Int) - 1:=by omega
  simp only [go_sem,Zjd,q1]
  exact hK _ (by simp only [go_sem]) (by simp only [go_sem]) (by simp only [go_sem]) (by simp only [go_sem,List.drop_zero,Nat.zero_add])
 | succ j =>
  have e0:((j+1:Nat):Int) - 1=(j:Int):=by omega
  have q1:(0:Int)≤(j:Int):=by omega
  have e1:IntKind.i64.wrap ((j:Int) - 1)=(j:Int) - 1:=Zac (by omega) (by omega)
  obtain ⟨c,gi⟩:∃ c,o[j]? = some c:=⟨_,List.getElem?_eq_getElem (show j<o.length by omega)⟩
  have hb:=Yxv gi
  by_cases hc:c=47
  ·have hci:(c.toNat:Int)=47:=by rw [hc]; rfl
   rw [if_pos hc] at hb
   simp only [go_sem,Zjd,Zmp,Zym,Zl6,e0,q1,Zb6,gi,hci,e1]
   refine hN j _ (by omega) (by omega) (Zab _ (by simp only [go_sem,hb]; try simp))
  ·have hci:¬ (c.toNat:Int)=47:=fun h=>hc (UInt8.toNat_inj.1 (by have:(47:UInt8).toNat=47:=rfl; omega))
   rw [if_neg hc] at hb
   simp only [go_sem,Zjd,Zmp,Zl6,e0,q1,Zb6,gi,hci,e1]
   refine hN j _ (by omega) (by omega) (Zab _ (by simp only [go_sem,hb,List.length_cons]; simp; try omega))
theorem Yf9 (o:List UInt8):o.take (befL o).length=befL o:=by
 have h:=List.takeWhile_append_dropWhile (p:=(· != 47)) (l:=o)
 have h2:(o.takeWhile (· != 47)++o.dropWhile (· != 47)).take (befL o).length=befL o:=List.take_left' rfl
 rwa [h] at h2
theorem Ypr (o:List UInt8):(befL o).length<o.length↔47∈o:=by
 have h:=List.takeWhile_append_dropWhile (p:=(· != 47)) (l:=o)
 have hl:=congrArg List.length h
 rw [List.length_append] at hl
 have key:(o.dropWhile (· != 47)) = []↔¬ 47∈o:=by
  clear h hl
  induction o with
  | nil=>simp
  | cons x o ih =>
   rw [List.dropWhile_cons]
   by_cases hx:x=47
   ·subst hx; simp
   ·have hx':¬ 47=x:=fun e=>hx e.symm
    simp [hx,hx',ih]
 unfold befL
 constructor
 ·intro h1
  by_cases h2:47∈o
  ·exact h2
  ·rw [key.2 h2] at hl; simp at hl; omega
 ·intro h1
  have:(o.dropWhile (· != 47)) ≠ []:=fun e=>key.1 e h1
  have:=List.length_pos_iff.2 this
  omega
theorem Ye9 (o:List UInt8):o.drop ((befL o).length+1)=aftL o:=by
 have h:=List.takeWhile_append_dropWhile (p:=(· != 47)) (l:=o)
 rw [← List.drop_drop]
 have:o.drop (befL o).length=o.dropWhile (· != 47):=by
  have h2:(o.takeWhile (· != 47)++o.dropWhile (· != 47)).drop (befL o).length=o.dropWhile (· != 47):=List.drop_left' rfl
  rwa [h] at h2
 rw [this]
 unfold aftL
 rw [List.drop_one]
end GoAbs
namespace GoAbs
open Go Go.Proofs
def badR:AV := .tup [.agg [.bool false,.nils,.bool false,.nils],.bool false]
def digC (l:List UInt8):List AV:=if digOk l then [.bool false,.sl (ic (dg (numL l)))] else [.bool false,.nils]
theorem Ytn (l:List UInt8):digR l = .tup [.agg (digC l),.bool (decide (digOk l))]:=by
 unfold digR digC
 by_cases h:digOk l
 ·rw [if_pos h,if_pos h,Zat]; simp [h]
 ·rw [if_neg h,if_neg h]; simp [h]
theorem Yen {e:Nat→AV}{a:List UInt8}{m:Bool}{D:Nat}{rest:Heap}(e2:e 2 = .ptr 0 0) (e5:e 5 = .bool m) (e8:e 8 = .ptr 1 0) (e9:e 9 = .bool (decide (digOk a))) (e10:e 10 = .ptr 2 0) :
  T Tryz.prog 98 0 (.seq (.seq (.rg false Zbd) (.cond (.t 90) (.seq (.rg false Zce) .ret) .skip)) (.seq (.seq (.rg false Zb9) (.cond (.t 92) (.rg false Zd6) .skip)) (.seq (.rg false Zb8) .ret)))
   ⟨e,.cells [.bool false,.nils,.bool false,.nils] :: .cells (digC a) :: .cells [.bool false,.sl (ic (dg D))]::rest⟩
   (retQ [.cell 2 (some 4),.tmp 3] (if digOk a∧¬ (m=true∧numL a=0) then .tup [avR (if m then -(numL a:Int) else numL a) (D:Int),.bool true] else badR)):=by
 refine T_W ?_
 have hz2:([AV.bool false,.nils]:List AV).length=2:=rfl
 by_cases hA:digOk a
 ·have hc:digC a = [.bool false,.sl (ic (dg (numL a)))]:=by unfold digC; rw [if_pos hA]
  have hd:decide (digOk a)=true:=by simp [hA]
  rw [hc]
  cases m with
  | false =>
   have hr:(if digOk a∧¬ (false=true∧numL a=0) then AV.tup [avR (if false=true then -(numL a:Int) else numL a) (D:Int),.bool true] else badR) = .tup [.agg [.bool false,.sl (ic (dg (numL a))),.bool false,.sl (ic (dg D))],.bool true]:=by
    rw [if_pos ⟨hA,by simp⟩,Zax]; simp
   rw [hr]
   simp only [go_sem,Zbd,Zb9,Zb8,e2,e5,e8,e9,e10,hd,Bool.not_true,Bool.not_false]
  | true =>
   by_cases h0:numL a=0
   ·have hr:(if digOk a∧¬ (true=true∧numL a=0) then AV.tup [avR (if true=true then -(numL a:Int) else numL a) (D:Int),.bool true] else badR)=badR:=if_neg (fun h=>h.2 ⟨rfl,h0⟩)
    rw [hr]
    have hl:(((dg (numL a)).length:Nat):Int)=0:=by rw [h0,Zb0]; rfl
    unfold badR
    simp only [go_sem,Zbd,Zce,e2,e5,e8,e9,e10,hd,Bool.not_true,Bool.not_false,Zap,hl]
   ·have hr:(if digOk a∧¬ (true=true∧numL a=0) then AV.tup [avR (if true=true then -(numL a:Int) else numL a) (D:Int),.bool true] else badR) = .tup [.agg [.bool (decide (-(numL a:Int)<0)),.sl (ic (dg (-(numL a:Int)).natAbs)),.bool false,.sl (ic (dg D))],.bool true]:=by
     rw [if_pos ⟨hA,fun h=>h0 h.2⟩,Zax]; simp
    rw [hr]
    have hl:¬ (((dg (numL a)).length:Nat):Int)=0:=by have:=(Zg0 (n:=numL a)).2 h0; omega
    have hn:=Yo9 (z:=(numL a:Int))
    rw [Zat,Zah] at hn
    simp only [go_sem,Zbd,Zb9,Zd6,e2,e5,e8,e9,e10,hd,Bool.not_true,Bool.not_false,Zap,hl]
    refine Zaa hn (by simp only [go_sem]) ?_
    simp only [go_sem,Zb8,e2,e8,e10]
 ·have hc:digC a = [.bool false,.nils]:=by unfold digC; rw [if_neg hA]
  have hd:decide (digOk a)=false:=by simp [hA]
  rw [hc,if_neg (fun h=>hA h.1)]
  unfold badR
  simp only [go_sem,Zbd,Zce,e2,e5,e8,e9,e10,hd,Bool.not_true,Bool.not_false]
end GoAbs
namespace GoAbs
open Go Go.Proofs
def slashOk (o:List UInt8):Prop:=digOk (aftL o)∧2≤numL (aftL o)∧Nat.gcd (if digOk (befL o) then numL (befL o) else 0) (numL (aftL o))=1
instance (o:List UInt8):Decidable (slashOk o):=by unfold slashOk; infer_instance
def midR (o:List UInt8) (m:Bool):AV :=
 if 47∈o→slashOk o then (if digOk (befL o)∧¬ (m=true∧numL (befL o)=0) then .tup [avR (if m then -(numL (befL o):Int) else numL (befL o)) ((if 47∈o then numL (aftL o) else 1:Nat):Int),.bool true] else badR) else badR
theorem Y0f {H:Heap}{a:List UInt8}:BVs H [] (digC a) [.bool false,.sl (ic (dg (if digOk a then numL a else 0)))]:=by
 unfold digC
 by_cases h:digOk a
 ·rw [if_pos h,if_pos h]; simp only [go_sem]
 ·rw [if_neg h,if_neg h,Zb0,Ync]; simp only [go_sem]
theorem Yfx {a:List UInt8}:(digC a).length=2:=by unfold digC; split <;> rfl
theorem Yow {l:List UInt8}(h:digOk l):lenD (numL l)≤4000:=by
 refine Zpd (Nat.lt_of_lt_of_le (Zqb h.1) ?_)
 exact Nat.le_trans (Nat.pow_le_pow_right (by omega) h.2.2.2) (Nat.pow_le_pow_left (show 10≤10000 by decide) 4000)
theorem Yp5 {e:Nat→AV}{o:List UInt8}{m:Bool}(ho:o.length≤1000000000) (e2:e 2 = .ptr 0 0) (e4:e 4 = .str (bs o)) (e5:e 5 = .bool m) (e6:e 6 = .int .i64 ((befL o).length:Int)) :
  T Tryz.prog 98 0 (.seq (.rg false Zhm) (.seq (.rg false Zho) (.seq (.seq (.rg false Zhq) (.cond (.t 53) (.seq (.rg false Zhi) (.seq (.seq (.rg true Zcf) (.cond (.t 77) (.seq (.rg false Zcg) .ret) .skip)) (.rg false Zhl))) .skip))
   (.seq (.seq (.rg false Zbd) (.cond (.t 90) (.seq (.rg false Zce) .ret) .skip)) (.seq (.seq (.rg false Zb9) (.cond (.t 92) (.rg false Zd6) .skip)) (.seq (.rg false Zb8) .ret))))))
   ⟨e,[.cells [.bool false,.nils,.bool false,.nils]]⟩ (retQ [.cell 2 (some 4),.tmp 3] (midR o m)):=by
 have hm:Tryz.prog.follows .mixedOrders=true:=by kernel_rfl
 refine Ze7 2 rfl ?_
 have hbl:(befL o).length≤o.length:=by
  have:=congrArg List.length (Yf9 o)
  rw [List.length_take] at this
  omega
 have p0:(0:Int)≤((befL o).length:Int):=by omega
 have hdA:=rdigits (l:=befL o) (by omega)
 rw [Ytn] at hdA
 have hdB:=rdigits (l:=aftL o) (by rw [← Ye9,List.length_drop]; omega)
 rw [Ytn] at hdB
 have i1:SpecV Tryz.prog Yaq [.int .i64 1] (.agg [.bool false,.sl (ic (dg 1))]):=by
  have:=Ydi (v:=1) (by decide)
  rwa [show avZ 1 = .agg [.bool false,.sl (ic (dg 1))] from Zat (m:=1)] at this
 have i2:SpecV Tryz.prog Yaq [.int .i64 2] (.agg [.bool false,.sl (ic (dg 2))]):=by
  have:=Ydi (v:=2) (by decide)
  rwa [show avZ 2 = .agg [.bool false,.sl (ic (dg 2))] from Zat (m:=2)] at this
 have htk:o.take (befL o).length=befL o:=Yf9 o
 have d2:(digC (befL o)).drop 2 = []:=List.drop_eq_nil_of_le (by rw [Yfx]; omega)
 have dl:=Yfx (a:=befL o)
 simp only [go_sem,Zhm,Zho,Zhq,e2,e4,e5,e6,Zaj,Zcb,htk,p0,hbl,List.drop_zero]
 refine ⟨by omega,?_⟩
 refine Zaa hdA (by simp only [go_sem]) ?_
 simp only [go_sem,dl,d2]
 refine Zaa i1 (by simp only [go_sem]) ?_
 by_cases h47:47∈o
 ·have q1:((befL o).length:Int)<(o.length:Int):=by have:=(Ypr o).2 h47; omega
  have e1:IntKind.i64.wrap (((befL o).length:Int)+1)=(((befL o).length+1:Nat):Int):=by rw [Zac (by omega) (by omega)]; omega
  have p1:(0:Int)≤(((befL o).length+1:Nat):Int):=by omega
  have hle:(befL o).length+1≤o.length:=by omega
  have hdr:(o.take o.length).drop ((befL o).length+1)=aftL o:=by rw [List.take_length]; exact Ye9 o
  have hmid:midR o m=if slashOk o then (if digOk (befL o)∧¬ (m=true∧numL (befL o)=0) then .tup [avR (if m then -(numL (befL o):Int) else numL (befL o)) (numL (aftL o):Int),.bool true] else badR) else badR:=by
   unfold midR
   simp only [h47,if_true,true_implies]
  have db:=Yfx (a:=aftL o)
  have d2b:(digC (aftL o)).drop 2 = []:=List.drop_eq_nil_of_le (by omega)
  have t2b:(digC (aftL o)).take 2=digC (aftL o):=List.take_of_length_le (by omega)
  have t2a:(digC (befL o)).take 2=digC (befL o):=List.take_of_length_le (by omega)
  have l2a:2≤(digC (befL o)).length:=by omega
  have l2b:2≤(digC (aftL o)).length:=by omega
  simp only [go_sem,e2,e4,e5,e6,Zaj,Zcb,q1,Zhi,e1,p1,hle,hdr]
  refine ⟨Nat.le_refl _,?_⟩
  refine Zaa hdB (by simp only [go_sem]) ?_
  by_cases hB:digOk (aftL o)
  ·have hd:decide (digOk (aftL o))=true:=by simp [hB]
   have hcB:digC (aftL o) = [.bool false,.sl (ic (dg (numL (aftL o))))]:=by unfold digC; rw [if_pos hB]
   have lB:=Yow hB
   rw [hcB] at db d2b t2b l2b ⊢
   rw [hd]
   simp only [go_sem,db,d2b,Zcf,hm,Bool.not_true]
   refine Zaa i2 (by simp only [go_sem]) ?_
   simp only [go_sem]
   have hc2:=Yt7 (a:=(numL (aftL o):Int)) (b:=2) (by rw [Int.natAbs_natCast]; unfold Zs; omega) (by have:lenD 2≤1:=Zwf (by omega); show lenD 2≤_; omega)
   rw [Zat,show avZ 2 = .agg [.bool false,.sl (ic (dg 2))] from Zat (m:=2)] at hc2
   refine Zaa hc2 (by simp only [go_sem]) ?_
   by_cases hD2:2≤numL (aftL o)
   ·have hlt:¬ (if (numL (aftL o):Int)=2 then (0:Int) else if (numL (aftL o):Int)<2 then -1 else 1)<0:=by split <;> (try split) <;> omega
    obtain ⟨N',hN'⟩:∃ N',N'=(if digOk (befL o) then numL (befL o) else 0):=⟨_,rfl⟩
    have lN:lenD N'≤10000000:=by
     rw [hN']; split
     ·rename_i h; have:=Yow h; omega
     ·show (dg 0).length≤_; rw [Zb0]; simp
    have hgcd:=Y24 (a:=(N':Int)) (b:=(numL (aftL o):Int)) (by rw [Int.natAbs_natCast]; exact lN) (by rw [Int.natAbs_natCast]; omega)
    have hgn:Int.gcd (N':Int) (numL (aftL o):Int)=Nat.gcd N' (numL (aftL o)):=rfl
    rw [hgn,Zat,Zat,Zat] at hgcd
    have lg:lenD (Nat.gcd N' (numL (aftL o)))≤4000:=Nat.le_trans (Za5 (Nat.le_of_dvd (by omega) (Nat.gcd_dvd_right _ _))) lB
    have hc1:=Yt7 (a:=(Nat.gcd N' (numL (aftL o)):Int)) (b:=1) (by rw [Int.natAbs_natCast]; unfold Zs; omega) (by have:lenD 1≤1:=Zwf (by omega); show lenD 1≤_; omega)
    rw [Zat,show avZ 1 = .agg [.bool false,.sl (ic (dg 1))] from Zat (m:=1)] at hc1
    have bvA:=fun (H:Heap)=>Y0f (H:=H) (a:=befL o)
    rw [← hN'] at bvA
    simp only [go_sem,hlt,l2a,t2a]
    refine Zw1 (ids := []) hgcd (by simp only [go_sem]; exact bvA _) (.inl rfl) (fun b hb=>by simp at hb) ?_
    simp only [go_sem]
    refine Zaa i1 (by simp only [go_sem]) ?_
    simp only [go_sem]
    refine Zaa hc1 (by simp only [go_sem]) ?_
    by_cases hg:Nat.gcd N' (numL (aftL o))=1
    ·have hne:(if ((Nat.gcd N' (numL (aftL o)):Nat):Int)=1 then (0:Int) else if ((Nat.gcd N' (numL (aftL o)):Nat):Int)<1 then -1 else 1)=0:=if_pos (by omega)
     have hso:slashOk o:=⟨hB,hD2,by rw [← hN']; exact hg⟩
     rw [hmid,if_pos hso]
     simp only [go_sem,hne,Zhl]
     exact Yen (by simp only [go_sem,e2]) (by simp only [go_sem,e5]) (by simp only [go_sem]) (by simp only [go_sem]) (by simp only [go_sem])
    ·have hne:¬ (if ((Nat.gcd N' (numL (aftL o)):Nat):Int)=1 then (0:Int) else if ((Nat.gcd N' (numL (aftL o)):Nat):Int)<1 then -1 else 1)=0:=by
      rw [if_neg (by omega)]; split <;> omega
     have hso:¬ slashOk o:=fun h=>hg (by rw [hN']; exact h.2.2)
     rw [hmid,if_neg hso]
     unfold badR
     simp only [go_sem,hne,Zcg,e2]
   ·have hlt:(if (numL (aftL o):Int)=2 then (0:Int) else if (numL (aftL o):Int)<2 then -1 else 1)<0:=by rw [if_neg (by omega),if_pos (by omega)]; omega
    have hso:¬ slashOk o:=fun h=>hD2 h.2.1
    rw [hmid,if_neg hso]
    unfold badR
    simp only [go_sem,hlt,Zcg,e2]
  ·have hd:decide (digOk (aftL o))=false:=by simp [hB]
   have hso:¬ slashOk o:=fun h=>hB h.1
   rw [hd,hmid,if_neg hso]
   unfold badR
   simp only [go_sem,db,d2b,Zcf,Zcg,hm,Bool.not_false,e2]
 ·have q1:¬ ((befL o).length:Int)<(o.length:Int):=fun h=>h47 ((Ypr o).1 (by omega))
  have hmid:midR o m=if digOk (befL o)∧¬ (m=true∧numL (befL o)=0) then .tup [avR (if m then -(numL (befL o):Int) else numL (befL o)) ((1:Nat):Int),.bool true] else badR:=by
   unfold midR
   simp only [h47,if_false,false_implies,if_true]
  rw [hmid]
  simp only [go_sem,e2,e4,e5,e6,Zaj,q1]
  exact Yen (D:=1) (rest := []) (by simp only [go_sem,e2]) (by simp only [go_sem,e5]) (by simp only [go_sem]) (by simp only [go_sem]) (by simp only [go_sem])
end GoAbs
namespace GoAbs
open Go Go.Proofs
def refP (l:List UInt8):AV:=if 8002<l.length then badR else midR (signL l).1 (signL l).2
theorem Yr6 {l:List UInt8}(hlen:l.length≤1000000000):SpecV Tryz.prog Ybb [.str (bs l)] (refP l):=by
 refine Zbt Yi8 (by simp) (Ze7 4 rfl ?_)
 unfold Yc0
 by_cases hbig:8002<l.length
 ·have q1:(8002:Int)<(l.length:Int):=by omega
  unfold refP
  rw [if_pos hbig]
  unfold badR
  simp only [go_sem,Zfp,Zfl,Zf2,Z0w,Zaj,q1]
 ·have q1:¬ (8002:Int)<(l.length:Int):=by omega
  unfold refP
  rw [if_neg hbig]
  have tail:∀ (e:Nat→AV) (o:List UInt8) (m:Bool),o.length≤1000000000→e 2 = .ptr 0 0→e 4 = .str (bs o)→e 5 = .bool m→e 6 = .int .i64 (o.length:Int) →
    T Tryz.prog 98 0 (.seq (.seq (.rg false Zom) (.block 0 (.loop Zjk))) (.seq (.rg false Zhm) (.seq (.rg false Zho) (.seq (.seq (.rg false Zhq) (.cond (.t 53) (.seq (.rg false Zhi) (.seq (.seq (.rg true Zcf) (.cond (.t 77) (.seq (.rg false Zcg) .ret) .skip)) (.rg false Zhl))) .skip))
     (.seq (.seq (.rg false Zbd) (.cond (.t 90) (.seq (.rg false Zce) .ret) .skip)) (.seq (.seq (.rg false Zb9) (.cond (.t 92) (.rg false Zd6) .skip)) (.seq (.rg false Zb8) .ret)))))))
     ⟨e,[.cells [.bool false,.nils,.bool false,.nils]]⟩ (retQ [.cell 2 (some 4),.tmp 3] (midR o m)):=fun e o m ho k2 k4 k5 k6=>by
   have e1:IntKind.i64.wrap ((o.length:Int) - 1)=(o.length:Int) - 1:=Zac (by omega) (by omega)
   refine Zms (Zms (T_W ?_))
   simp only [go_sem,Zom,k4,Zaj,e1]
   refine Zov ?_
   refine Za0 [(2,.ptr 0 0),(4,.str (bs o)),(5,.bool m),(6,.int .i64 (o.length:Int)),(7,.int .i64 ((o.length:Int) - 1))] (by simp only [go_sem,k2,k4,k5,k6]) ?_
   refine Yyd ho (fun e2 j2 j4 j5 j6=>?_)
   simp only [go_sem]
   exact Yp5 ho j2 j4 j5 j6
  by_cases hpos:0<l.length
  ·have q2:(0:Int)<(l.length:Int):=by omega
   obtain ⟨c,gi⟩:∃ c,l[0]? = some c:=⟨_,List.getElem?_eq_getElem hpos⟩
   have hhd:l.head? = some c:=by rw [List.head?_eq_getElem?]; exact gi
   by_cases hc:c=45
   ·have hci:(c.toNat:Int)=45:=by rw [hc]; rfl
    have hs:signL l=(l.tail,true):=by unfold signL; rw [if_pos (by rw [hhd,hc])]
    have h1:1≤l.length:=hpos
    have hdr:(l.take l.length).drop 1=l.tail:=by rw [List.take_length,List.drop_one]
    rw [hs]
    simp only [go_sem,Zfp,Zfl,Zf2,Zje,Z4g,Zjf,Zaj,Zb6,Zcb,q1,q2,gi,hci,h1,hdr]
    refine ⟨Nat.le_refl _,?_⟩
    exact tail _ l.tail true (by rw [List.length_tail]; omega) (by simp only [go_sem]) (by simp only [go_sem]) (by simp only [go_sem]) (by simp only [go_sem])
   ·have hci:¬ (c.toNat:Int)=45:=fun h=>hc (UInt8.toNat_inj.1 (by have:(45:UInt8).toNat=45:=rfl; omega))
    have hs:signL l=(l,false):=by unfold signL; rw [if_neg (by rw [hhd]; simpa using hc)]
    rw [hs]
    simp only [go_sem,Zfp,Zfl,Zf2,Zje,Zjf,Zaj,Zb6,q1,q2,gi,hci]
    exact tail _ l false hlen (by simp only [go_sem]) (by simp only [go_sem]) (by simp only [go_sem]) (by simp only [go_sem])
  ·have q2:¬ (0:Int)<(l.length:Int):=by omega
   have hs:signL l=(l,false):=by
    have:l = []:=List.length_eq_zero_iff.1 (by omega)
    subst this; rfl
   rw [hs]
   simp only [go_sem,Zfp,Zfl,Zf2,Zje,Zjf,Zaj,q1,q2]
   exact tail _ l false hlen (by simp only [go_sem]) (by simp only [go_sem]) (by simp only [go_sem]) (by simp only [go_sem])
end GoAbs
namespace GoAbs
open Go Go.Proofs
theorem Ymv {o:List UInt8}(h:47 ∉ o):befL o=o:=by
 have h1:=Yf9 o
 have h2:¬ (befL o).length<o.length:=fun h3=>h ((Ypr o).1 h3)
 rw [List.take_of_length_le (by omega)] at h1
 exact h1.symm
theorem Yvy (l:List UInt8):(cutL l).1=befL l:=by
 unfold cutL
 split
 ·rfl
 ·rename_i h; exact (Ymv h).symm
theorem Ye7 (l:List UInt8):(cutL l).2.2=decide (47∈l):=by
 unfold cutL
 split
 ·rename_i h; simp [h]
 ·rename_i h; simp [h]
theorem Yxg {l:List UInt8}(h:47∈l):(cutL l).2.1=aftL l:=by
 unfold cutL
 rw [if_pos h]; rfl
theorem Yzh (l:List UInt8):signL (befL l)=(befL (signL l).1,(signL l).2)∧(47∈l↔47∈(signL l).1)∧aftL l=aftL (signL l).1:=by
 cases l with
 | nil=>exact ⟨rfl,Iff.rfl,rfl⟩
 | cons c r =>
  by_cases hc:c=45
  ·subst hc
   have hs:signL (45::r)=(r,true):=rfl
   have hb:befL (45::r)=45::befL r:=by unfold befL; rw [List.takeWhile_cons]; rfl
   rw [hs,hb]
   refine ⟨rfl,by simp,?_⟩
   unfold aftL
   rw [List.dropWhile_cons]; rfl
  ·have hs:signL (c::r)=(c::r,false):=by unfold signL; rw [if_neg (by simpa using hc)]
   rw [hs]
   refine ⟨?_,Iff.rfl,rfl⟩
   by_cases h47:c=47
   ·subst h47; rfl
   ·have hb:befL (c::r)=c::befL r:=by unfold befL; rw [List.takeWhile_cons]; simp [h47]
    rw [hb]
    unfold signL
    rw [if_neg (by simpa using hc)]
theorem Yi2 {n:Int}{d:Nat}(hd:0<d) (hg:Int.gcd n d=1):(Rat.divInt n d).num=n∧(Rat.divInt n d).den=d:=by
 have hg':Int.gcd (d:Int) n=1:=by rw [Int.gcd_comm]; exact hg
 refine ⟨?_,?_⟩
 ·rw [Rat.num_divInt,hg',Int.sign_eq_one_of_pos (by omega)]; simp
 ·rw [Rat.den_divInt,if_neg (by omega),hg']; simp
theorem Yvm {o:List UInt8}(h:47∈o):o.length=(befL o).length+1+(aftL o).length:=by
 have h1:=(Ypr o).2 h
 have h2:=congrArg List.length (Ye9 o)
 rw [List.length_drop] at h2
 omega
theorem Ywo (l:List UInt8):refP l=match parseL l with | some q => .tup [avR q.num q.den,.bool true] | none=>badR:=by
 obtain ⟨s1,s2,s3⟩:=Yzh l
 have hll:l.length≤(signL l).1.length+1:=by unfold signL; split <;> simp <;> omega
 have hp1:(partsL l).1=if (signL l).2 then -(numL (befL (signL l).1):Int) else numL (befL (signL l).1):=by unfold partsL; rw [Yvy,s1]
 have hp2:(partsL l).2.1=if 47∈(signL l).1 then numL (aftL (signL l).1) else 1:=by
  unfold partsL
  simp only [Ye7,decide_eq_true_eq,s2]
  by_cases h:47∈(signL l).1
  ·rw [if_pos h,if_pos h,Yxg (s2.2 h),s3]
  ·rw [if_neg h,if_neg h]
 have hp3:((partsL l).2.2=true)↔47∈(signL l).1:=by unfold partsL; simp only [Ye7,decide_eq_true_eq,s2]
 have hform:formL l↔(digOk (befL (signL l).1)∧(47∈(signL l).1→digOk (aftL (signL l).1)∧1<numL (aftL (signL l).1))∧¬ ((signL l).2=true∧numL (befL (signL l).1)=0)):=by
  unfold formL
  rw [Yvy,s1,Ye7]
  simp only [decide_eq_true_eq,s2]
  by_cases h:47∈(signL l).1
  ·rw [Yxg (s2.2 h),s3]
  ·simp [h]
 unfold parseL
 rw [hp1,hp2]
 simp only [hform,hp3]
 unfold refP midR
 have hs':(signL l).1=(signL l).1:=rfl
 by_cases hA:digOk (befL (signL l).1)
 ·by_cases hM:(signL l).2=true∧numL (befL (signL l).1)=0
  ·simp only [hM,and_true,not_true,and_false,false_and,if_false,ite_self]
  ·have hcond:(digOk (befL (signL l).1)∧¬ ((signL l).2=true∧numL (befL (signL l).1)=0)):=⟨hA,hM⟩
   generalize hz:(if (signL l).2=true then -(numL (befL (signL l).1):Int) else (numL (befL (signL l).1):Int))=z at *
   have hgz:∀ D:Nat,Int.gcd z (D:Int)=Nat.gcd (numL (befL (signL l).1)) D:=fun D=>by
    rw [← hz]; split
    ·rw [Int.neg_gcd]; rfl
    ·rfl
   by_cases h47:47∈(signL l).1
   ·simp only [h47,if_true,true_implies]
    by_cases hS:slashOk (signL l).1
    ·obtain ⟨g1,g2,g3⟩:=hS
     rw [if_pos hA] at g3
     have hg:=hgz (numL (aftL (signL l).1))
     rw [g3] at hg
     have hlen:=Yvm h47
     have hb1:=hA.2.2.2
     have hb2:=g1.2.2.2
     rw [if_neg (show ¬ 8002<l.length by omega),if_pos (show slashOk (signL l).1 from ⟨g1,g2,by rw [if_pos hA]; exact g3⟩),if_pos hcond,if_pos ⟨⟨hA,⟨g1,by omega⟩,hM⟩,hg⟩]
     obtain ⟨q1,q2⟩:=Yi2 (n:=z) (d:=numL (aftL (signL l).1)) (by omega) hg
     simp only [q1,q2]
    ·have hno:¬ ((digOk (befL (signL l).1)∧(digOk (aftL (signL l).1)∧1<numL (aftL (signL l).1))∧¬ ((signL l).2=true∧numL (befL (signL l).1)=0))∧Int.gcd z (numL (aftL (signL l).1):Int)=1):=fun h=>hS ⟨h.1.2.1.1,by have:=h.1.2.1.2; omega,by rw [if_pos hA, ← hgz]; exact h.2⟩
     rw [if_neg hS,if_neg hno,ite_self]
   ·simp only [h47,if_false,false_implies,if_true,true_and]
    have hb1:=hA.2.2.2
    rw [Ymv h47] at hb1
    rw [if_neg (show ¬ 8002<l.length by omega),if_pos hcond,if_pos ⟨hcond,trivial⟩]
    obtain ⟨q1,q2⟩:=Yi2 (n:=z) (d:=1) (by omega) (by rw [hgz]; simp)
    simp only [q1,q2]
 ·simp only [hA,false_and,if_false,ite_self]
end GoAbs
namespace GoAbs
open Go Go.Proofs
theorem rparse {l:List UInt8}(hlen:l.length≤1000000000):SpecV Tryz.prog Ybb [.str (bs l)] (match parseL l with | some q => .tup [avR q.num q.den,.bool true] | none=>badR):=by
 have:=Yr6 hlen
 rwa [Ywo] at this
theorem rvalid {l:List UInt8}(hlen:l.length≤1000000000):SpecV Tryz.prog Yk6 [.str (bs l)] (.bool (parseL l).isSome):=by
 have hp:=rparse hlen
 refine Zad Yih (by simp) ?_
 unfold Yef
 cases h:parseL l with
 | some q =>
  rw [h] at hp
  simp only [Zax] at hp
  simp only [go_sem,Zoe,Zo4]
  refine Zaa hp (by simp only [go_sem]) ?_
  simp only [go_sem,Zpv,Option.isSome_some]
 | none =>
  rw [h] at hp
  unfold badR at hp
  simp only [go_sem,Zoe,Zo4]
  refine Zaa hp (by simp only [go_sem]) ?_
  simp only [go_sem,Zpv,Option.isSome_none]
theorem rof {l:List UInt8}{q:Rat}(hlen:l.length≤1000000000) (h:parseL l=some q):SpecV Tryz.prog Y0i [.str (bs l)] (avR q.num q.den):=by
 have hp:=rparse hlen
 rw [h] at hp
 simp only [Zax] at hp
 refine Zad Yxl (by simp) ?_
 unfold Ytp
 rw [Zax]
 simp only [go_sem,Ydv,Yek]
 refine Zaa hp (by simp only [go_sem]) ?_
 simp only [go_sem,Yc2]
end GoAbs
namespace GoAbs
open Go Go.Proofs
def Zwd:List IOp := [oI 6 (.mv (.c (.bool false))) 0]
def Zwg:List IOp := [mI 7 0 0,mI 8 1 0,oI 9 (.bin .geq (.t 7) (.t 8)) 0,mI 10 9 0,gI 11 (.mv (.t 0)) 0 10 true,gI 12 (.mv (.t 2)) 0 10 true,gI 13 (.bin .leq (.t 11) (.t 12)) 0 10 true,oI 14 (.pick (.t 10) (.t 13) (.c (.bool false))) 0,mI 6 14 0]
def Ywk:CC := .seq (.rg false Zwd) (.seq (.rg false Zwg) .ret)
abbrev Y1f:Nat:=67
theorem Ywl:fnOk Tryz.prog 67=some (15,Ywk,[.tmp 6]):=by kernel_rfl
def Z1s:List IOp := [oI 2 (.mv (cI 0)) 0]
def Z3y:List IOp := [oI 3 (.mv (cI 0)) 0]
def Zpy:List IOp := [mI 4 3 0,mI 5 0 0,oI 6 (.len (.t 5)) 0,oI 7 (.bin .lss (.t 4) (.t 6)) 0]
def Z25:List IOp := [mI 10 0 0,mI 11 3 0,xI 12 3 10 11 0,fI 13 2 12 0,lI 14 13 0,oI 15 (.call 34 [.t 14]) 0,oI 16 (.un .not (.t 15)) 0]
def Z2r:List IOp := [oI 2 (.mv (cI 2)) 0]
def Z3w:List IOp := [mI 8 3 0,oI 9 (.bin .add (.t 8) (cI 1)) 0,mI 3 9 0]
def Z2o:CC := .seq (.seq (.rg false Zpy) (.cond (.t 7) .skip (.exit 0))) (.seq (.block 1 (.seq (.rg false Z25) (.cond (.t 16) (.seq (.rg false Z2r) .ret) .skip))) (.rg false Z3w))
def Z1r:List IOp := [oI 2 (.mv (cI 0)) 0]
def Yeh:CC := .seq (.rg false Z1s) (.seq (.seq (.rg false Z3y) (.block 0 (.loop Z2o))) (.seq (.rg false Z1r) .ret))
abbrev Ym2:Nat:=66
theorem Yhs:fnOk Tryz.prog 66=some (17,Yeh,[.tmp 2]):=by kernel_rfl
def Z3c:List IOp := [oI 6 (.mv (cI 0)) 0]
def Z33:List IOp := [mI 11 1 0,oI 12 (.call 66 [.t 11]) 0,mI 7 12 0]
def Zqh:List IOp := [mI 13 7 0,oI 14 (.bin .neq (.t 13) (cI 0)) 0]
def Z03:List IOp := [mI 15 7 0,mI 6 15 0]
def Z35:List IOp := [mI 16 2 0,oI 17 (.call 51 [.t 16]) 0,mI 8 17 0]
def Zps:List IOp := [mI 18 8 0,oI 19 (.bin .neq (.t 18) (cI 0)) 0]
def Z08:List IOp := [mI 20 8 0,mI 6 20 0]
def Z0z:List IOp := [mI 21 0 0,oI 22 (.call 67 [.t 21,cI 2,cI 10]) 0,oI 23 (.un .not (.t 22)) 0,mI 24 23 0,gI 25 (.mv (.t 1)) 0 24 false,gI 26 (.len (.t 25)) 0 24 false,gI 27 (.bin .gtr (.t 26) (cI 40)) 0 24 false,oI 28 (.pick (.t 24) (.c (.bool true)) (.t 27)) 0,mI 9 28 0]
def Zji:List IOp := [oI 10 (.mv (cI 0)) 0]
def Zmw:List IOp := [mI 29 10 0,mI 30 1 0,oI 31 (.len (.t 30)) 0,oI 32 (.bin .lss (.t 29) (.t 31)) 0]
def Zds:List IOp := [mI 35 9 0,mI 36 35 0,gI 37 (.mv (.t 1)) 0 36 false,gI 38 (.mv (.t 10)) 0 36 false,gI 39 (.idx 3 (.t 37) (.t 38)) 0 36 false,gI 40 (.fa 0 (.t 39)) 0 36 false,gI 41 (.ld none (.t 40)) 0 36 false,gI 42 (.mv (.t 0)) 0 36 false,gI 43 (.bin .sub (.t 42) (cI 1)) 0 36 false,gI 44 (.callw 67 [.t 41,cI 0,.t 43]) 0 36 false,gI 45 (.un .not (.t 44)) 0 36 false,oI 46 (.pick (.t 36) (.c (.bool true)) (.t 45)) 0,mI 47 46 0,gI 48 (.mv (.t 1)) 0 47 false,gI 49 (.mv (.t 10)) 0 47 false,gI 50 (.idx 3 (.t 48) (.t 49)) 0 47 false,gI 51 (.fa 1 (.t 50)) 0 47 false,gI 52 (.ld none (.t 51)) 0 47 false,gI 53 (.mv (.t 0)) 0 47 false,gI 54 (.bin .sub (.t 53) (cI 1)) 0 47 false,gI 55 (.callw 67 [.t 52,cI 0,.t 54]) 0 47 false,gI 56 (.un .not (.t 55)) 0 47 false,oI 57 (.pick (.t 47) (.c (.bool true)) (.t 56)) 0,mI 58 57 0,gI 59 (.mv (.t 1)) 0 58 false,gI 60 (.mv (.t 10)) 0 58 false,gI 61 (.idx 3 (.t 59) (.t 60)) 0 58 false,gI 62 (.fa 0 (.t 61)) 0 58 false,gI 63 (.ld none (.t 62)) 0 58 false,gI 64 (.mv (.t 1)) 0 58 false,gI 65 (.mv (.t 10)) 0 58 false,gI 66 (.idx 3 (.t 64) (.t 65)) 0 58 false,gI 67 (.fa 1 (.t 66)) 0 58 false,gI 68 (.ld none (.t 67)) 0 58 false,gI 69 (.bin .eql (.t 63) (.t 68)) 0 58 false,oI 70 (.pick (.t 58) (.c (.bool true)) (.t 69)) 0,mI 71 70 0,gI 72 (.mv (.t 1)) 0 71 false,gI 73 (.mv (.t 10)) 0 71 false,gI 74 (.idx 3 (.t 72) (.t 73)) 0 71 false,gI 75 (.fa 2 (.t 74)) 0 71 false,gI 76 (.ld none (.t 75)) 0 71 false,gI 77 (.callw 29 [.t 76]) 0 71 false,gI 78 (.fld (some 2) 0 (.t 77)) 0 71 false,gI 79 (.callw 68 [.t 78]) 0 71 false,gI 80 (.bin .leq (.t 79) (cI 0)) 0 71 false,oI 81 (.pick (.t 71) (.c (.bool true)) (.t 80)) 0,mI 82 81 0,gI 83 (.mv (.t 1)) 0 82 false,gI 84 (.mv (.t 10)) 0 82 false,gI 85 (.idx 3 (.t 83) (.t 84)) 0 82 false,gI 86 (.fa 2 (.t 85)) 0 82 false,gI 87 (.ld none (.t 86)) 0 82 false,gI 88 (.callw 69 [.t 87,cI 20]) 0 82 false,gI 89 (.un .not (.t 88)) 0 82 false,oI 90 (.pick (.t 82) (.c (.bool true)) (.t 89)) 0,mI 9 90 0]
@[go_sem ↓] theorem Z8f : autoK Zds = (0, 0) := by kernel_rfl
@[go_sem] theorem Yrt : autoK [mI 35 9 0, mI 36 35 0, gI 37 (.mv (.t 1)) 0 36 false, gI 38 (.mv (.t 10)) 0 36 false, gI 39 (.idx 3 (.t 37) (.t 38)) 0 36 false, gI 40 (.fa 0 (.t 39)) 0 36 false, gI 41 (.ld none (.t 40)) 0 36 false, gI 42 (.mv (.t 0)) 0 36 false, gI 43 (.bin .sub (.t 42) (cI 1)) 0 36 false, gI 44 (.callw 67 [.t 41, cI 0, .t 43]) 0 36 false, gI 45 (.un .not (.t 44)) 0 36 false, oI 46 (.pick (.t 36) (.c (.bool true)) (.t 45)) 0, mI 47 46 0, gI 48 (.mv (.t 1)) 0 47 false, gI 49 (.mv (.t 10)) 0 47 false, gI 50 (.idx 3 (.t 48) (.t 49)) 0 47 false, gI 51 (.fa 1 (.t 50)) 0 47 false, gI 52 (.ld none (.t 51)) 0 47 false, gI 53 (.mv (.t 0)) 0 47 false, gI 54 (.bin .sub (.t 53) (cI 1)) 0 47 false, gI 55 (.callw 67 [.t 52, cI 0, .t 54]) 0 47 false, gI 56 (.un .not (.t 55)) 0 47 false, oI 57 (.pick (.t 47) (.c (.bool true)) (.t 56)) 0, mI 58 57 0, gI 59 (.mv (.t 1)) 0 58 false, gI 60 (.mv (.t 10)) 0 58 false, gI 61 (.idx 3 (.t 59) (.t 60)) 0 58 false, gI 62 (.fa 0 (.t 61)) 0 58 false, gI 63 (.ld none (.t 62)) 0 58 false, gI 64 (.mv (.t 1)) 0 58 false, gI 65 (.mv (.t 10)) 0 58 false, gI 66 (.idx 3 (.t 64) (.t 65)) 0 58 false, gI 67 (.fa 1 (.t 66)) 0 58 false, gI 68 (.ld none (.t 67)) 0 58 false, gI 69 (.bin .eql (.t 63) (.t 68)) 0 58 false, oI 70 (.pick (.t 58) (.c (.bool true)) (.t 69)) 0, mI 71 70 0, gI 72 (.mv (.t 1)) 0 71 false, gI 73 (.mv (.t 10)) 0 71 false, gI 74 (.idx 3 (.t 72) (.t 73)) 0 71 false, gI 75 (.fa 2 (.t 74)) 0 71 false, gI 76 (.ld none (.t 75)) 0 71 false, gI 77 (.callw 29 [.t 76]) 0 71 false, gI 78 (.fld (some 2) 0 (.t 77)) 0 71 false, gI 79 (.callw 68 [.t 78]) 0 71 false, gI 80 (.bin .leq (.t 79) (cI 0)) 0 71 false, oI 81 (.pick (.t 71) (.c (.bool true)) (.t 80)) 0, mI 82 81 0, gI 83 (.mv (.t 1)) 0 82 false, gI 84 (.mv (.t 10)) 0 82 false, gI 85 (.idx 3 (.t 83) (.t 84)) 0 82 false, gI 86 (.fa 2 (.t 85)) 0 82 false, gI 87 (.ld none (.t 86)) 0 82 false, gI 88 (.callw 69 [.t 87, cI 20]) 0 82 false, gI 89 (.un .not (.t 88)) 0 82 false, oI 90 (.pick (.t 82) (.c (.bool true)) (.t 89)) 0, mI 9 90 0] = (0, 0) := Z8f
def Zw2:List IOp := [mI 33 10 0,oI 34 (.bin .add (.t 33) (cI 1)) 0,mI 10 34 0]
def Zjc:CC := .seq (.seq (.rg false Zmw) (.cond (.t 32) .skip (.exit 0))) (.seq (.block 1 (.rg true Zds)) (.rg false Zw2))
def Zd9:List IOp := [mI 91 9 0]
def Zhn:List IOp := [oI 6 (.mv (cI 1)) 0]
def Zyc:List IOp := [oI 6 (.mv (cI 0)) 0]
def Ycx:CC := .seq (.rg false Z3c) (.seq (.seq (.rg false Z33) (.seq (.rg false Zqh) (.cond (.t 14) (.seq (.rg false Z03) .ret) .skip))) (.seq (.seq (.rg false Z35) (.seq (.rg false Zps) (.cond (.t 19) (.seq (.rg false Z08) .ret) .skip))) (.seq (.rg false Z0z) (.seq (.seq (.rg false Zji) (.block 0 (.loop Zjc))) (.seq (.seq (.rg false Zd9) (.cond (.t 91) (.seq (.rg false Zhn) .ret) .skip)) (.seq (.rg false Zyc) .ret))))))
abbrev Zpi:Nat:=17
theorem Yjh:fnOk Tryz.prog 17=some (92,Ycx,[.tmp 6]):=by kernel_rfl
def Ze3:List IOp := [oI 1 (.box (.t 0)) 0,oI 2 (.alloc [.int .i64 0,.nils]) 1]
def Zem:List IOp := [oI 3 (.mv (cI 9)) 0]
def Ze5:List IOp := [fI 7 1 1 0,lI 8 7 0,oI 9 (.len (.t 8)) 0,oI 10 (.bin .gtr (.t 9) (cI 40)) 0]
def Zp5:List IOp := [oI 3 (.mv (cI 41)) 0]
def Ze6:List IOp := [fI 11 0 1 0,lI 12 11 0,oI 13 (.build [.int .i64 0,.nils] [(0,1,.t 12)]) 0,oI 4 (.alloc [.int .i64 0,.nils]) 0,⟨none,.st 2 (.t 4) (.t 13),1,[],[],none⟩]
def Zez:List IOp := [fI 14 0 4 0,lI 15 14 0,oI 16 (.bin .gtr (.t 15) (cI 6)) 0,mI 17 16 0,gI 18 (.fa 0 (.t 4)) 0 17 true,gI 19 (.ld none (.t 18)) 0 17 true,gI 20 (.bin .leq (.t 19) (cI 10)) 0 17 true,oI 21 (.pick (.t 17) (.t 20) (.c (.bool false))) 0]
def Zzn:List IOp := [fI 22 0 4 0,⟨none,.st 1 (.t 22) (cI 6),0,[],[],none⟩]
def Zz9:List IOp := [oI 5 (.mv (cI 0)) 0]
def Zpq:List IOp := [mI 23 5 0,fI 24 1 1 0,lI 25 24 0,oI 26 (.len (.t 25)) 0,oI 27 (.bin .lss (.t 23) (.t 26)) 0,mI 28 27 0,gI 29 (.mv (.t 5)) 0 28 true,gI 30 (.mv (.t 3)) 0 28 true,gI 31 (.bin .lss (.t 29) (.t 30)) 0 28 true,oI 32 (.pick (.t 28) (.t 31) (.c (.bool false))) 0]
def Z6y:List IOp := [fI 35 1 1 0,lI 36 35 0,mI 37 5 0,xI 38 3 36 37 0,lJ 39 3 38 0,oI 6 (.alloc [.int .i64 0,.int .i64 0,.str ⟨#[]⟩]) 0,⟨none,.st 3 (.t 6) (.t 39),1,[],[],none⟩]
def Zs9:List IOp := [fI 40 1 4 0,lI 41 40 0,fI 42 0 6 0,lI 43 42 0,fI 44 1 6 0,lI 45 44 0,fI 46 2 6 0,lI 47 46 0,oI 48 (.call 61 [.t 47]) 0,oI 49 (.build [.int .i64 0,.int .i64 0,.str ⟨#[]⟩] [(0,1,.t 43),(1,1,.t 45),(2,1,.t 48)]) 0,oI 50 (.bsl (some 3) 1 [.int .i64 0,.int .i64 0,.str ⟨#[]⟩] [(0,.t 49)]) 0,⟨some 51,.app (some 3) 32 (.t 41) (.t 50),1,[0],[],none⟩,⟨some 52,.fa 1 (.t 4),2,[0,1],[],none⟩,⟨none,.st 1 (.t 52) (.t 51),2,[0,1],[],none⟩]
@[go_sem ↓] theorem Yce : autoK Zs9 = (2, 1) := by kernel_rfl
@[go_sem] theorem Yyf : autoK [fI 40 1 4 0, lI 41 40 0, fI 42 0 6 0, lI 43 42 0, fI 44 1 6 0, lI 45 44 0, fI 46 2 6 0, lI 47 46 0, oI 48 (.call 61 [.t 47]) 0, oI 49 (.build [.int .i64 0, .int .i64 0, .str ⟨#[]⟩] [(0, 1, .t 43), (1, 1, .t 45), (2, 1, .t 48)]) 0, oI 50 (.bsl (some 3) 1 [.int .i64 0, .int .i64 0, .str ⟨#[]⟩] [(0, .t 49)]) 0, ⟨some 51, .app (some 3) 32 (.t 41) (.t 50), 1, [0], [], none⟩, ⟨some 52, .fa 1 (.t 4), 2, [0, 1], [], none⟩, ⟨none, .st 1 (.t 52) (.t 51), 2, [0, 1], [], none⟩] = (2, 1) := Yce
def Z6q:List IOp := [mI 33 5 0,oI 34 (.bin .add (.t 33) (cI 1)) 0,mI 5 34 0]
def Zp8:CC := .seq (.seq (.rg false Zpq) (.cond (.t 32) .skip (.exit 0))) (.seq (.block 1 (.seq (.rg false Z6y) (.rg true Zs9))) (.rg false Z6q))
def Zv1:List IOp := [lJ 53 2 4 0,⟨none,.st 2 (.t 2) (.t 53),0,[],[],none⟩]
def Yo5:CC := .seq (.rg false Ze3) (.seq (.rg false Zem) (.seq (.seq (.rg false Ze5) (.cond (.t 10) (.rg false Zp5) .skip)) (.seq (.rg false Ze6) (.seq (.seq (.rg false Zez) (.cond (.t 21) (.rg false Zzn) .skip)) (.seq (.seq (.rg false Zz9) (.block 0 (.loop Zp8))) (.seq (.rg false Zv1) .ret))))))
abbrev Yhv:Nat:=15
theorem Yrg:fnOk Tryz.prog 15=some (54,Yo5,[.cell 2 (some 2)]):=by kernel_rfl
def Zpa:List IOp := [oI 2 (.mv (.c (.str ⟨#[]⟩))) 0]
def Zob:List IOp := [mI 3 0 0,oI 4 (.slen (.t 3)) 0,oI 5 (.bin .gtr (.t 4) (cI 20)) 0]
def Z3u:List IOp := [mI 6 0 0,mI 7 0 0,oI 8 (.slen (.t 7)) 0,oI 9 (.mn (.t 8) (cI 23)) 0,oI 10 (.sslc (.t 6) none (some (.t 9))) 0,mI 2 10 0]
def Z1n:List IOp := [mI 11 0 0,mI 12 0 0,oI 13 (.slen (.t 12)) 0,oI 14 (.mn (.t 13) (cI 6)) 0,oI 15 (.sslc (.t 11) none (some (.t 14))) 0,mI 2 15 0]
def Ycz:CC := .seq (.rg false Zpa) (.seq (.seq (.rg false Zob) (.cond (.t 5) (.seq (.rg false Z3u) .ret) .skip)) (.seq (.rg false Z1n) .ret))
abbrev Yko:Nat:=61
theorem Yjl:fnOk Tryz.prog 61=some (16,Ycz,[.tmp 2]):=by kernel_rfl
def Z1f:List IOp := [oI 1 (.box (.t 0)) 0,oI 2 (.mv (.c (.bool false))) 1]
def Z1m:List IOp := [oI 3 (.mv (cI 0)) 0]
def Zf4:List IOp := [mI 4 3 0,fI 5 1 1 0,lI 6 5 0,oI 7 (.len (.t 6)) 0,oI 8 (.bin .lss (.t 4) (.t 7)) 0]
def Zoz:List IOp := [fI 11 1 1 0,lI 12 11 0,mI 13 3 0,xI 14 3 12 13 0,fI 15 2 14 0,lI 16 15 0,oI 17 (.slen (.t 16)) 0,oI 18 (.bin .gtr (.t 17) (cI 6)) 0]
def Z2k:List IOp := [oI 2 (.mv (.c (.bool false))) 0]
def Z3m:List IOp := [mI 9 3 0,oI 10 (.bin .add (.t 9) (cI 1)) 0,mI 3 10 0]
def Z21:CC := .seq (.seq (.rg false Zf4) (.cond (.t 8) .skip (.exit 0))) (.seq (.block 1 (.seq (.rg false Zoz) (.cond (.t 18) (.seq (.rg false Z2k) .ret) .skip))) (.rg false Z3m))
def Zqd:List IOp := [fI 19 1 1 0,lI 20 19 0,oI 21 (.len (.t 20)) 0,oI 22 (.bin .leq (.t 21) (cI 9)) 0,mI 2 22 0]
def Yer:CC := .seq (.rg false Z1f) (.seq (.seq (.rg false Z1m) (.block 0 (.loop Z21))) (.seq (.rg false Zqd) .ret))
abbrev Yk9:Nat:=19
theorem Yib:fnOk Tryz.prog 19=some (23,Yer,[.tmp 2]):=by kernel_rfl
def Z34:List IOp := [oI 0 (.mv (.c (.bool false))) 0]
def Z0y:List IOp := [oI 6 (.build [.int .i64 0,.int .i64 0,.str ⟨#[]⟩] [(0,1,cI 0),(1,1,cI 1),(2,1,.c (.str ⟨#[49]⟩))]) 0,oI 7 (.build [.int .i64 0,.int .i64 0,.str ⟨#[]⟩] [(0,1,cI 1),(1,1,cI 2),(2,1,.c (.str ⟨#[49]⟩))]) 0,oI 8 (.build [.int .i64 0,.int .i64 0,.str ⟨#[]⟩] [(0,1,cI 0),(1,1,cI 2),(2,1,.c (.str ⟨#[49]⟩))]) 0,oI 9 (.bsl (some 3) 3 [.int .i64 0,.int .i64 0,.str ⟨#[]⟩] [(0,.t 6),(1,.t 7),(2,.t 8)]) 0,mI 1 9 1]
def Z3t:List IOp := [mI 11 1 0,oI 12 (.call 16 [cI 3,.t 11]) 0,mI 10 12 0,eI 13 0 10 0,eI 14 1 10 0,mI 2 13 0,mI 3 14 0]
def Z2e:List IOp := [mI 16 1 0,oI 17 (.call 31 [cI 3,.t 16,cI 0,cI 1]) 0,mI 15 17 0,eI 18 0 15 0,eI 19 1 15 0,mI 4 18 0,mI 5 19 0]
def Z17:List IOp := [mI 20 2 0,oI 21 (.bin .eql (.t 20) (.c (.str ⟨#[51]⟩))) 0,mI 22 21 0,gI 23 (.mv (.t 3)) 0 22 true,gI 24 (.bin .eql (.t 23) (cI 0)) 0 22 true,oI 25 (.pick (.t 22) (.t 24) (.c (.bool false))) 0,mI 26 25 0,gI 27 (.mv (.t 4)) 0 26 true,⟨some 28,.bin .eql (.t 27) (.c (.str ⟨#[51,47,50]⟩)),0,[],[],some (26,true)⟩,oI 29 (.pick (.t 26) (.t 28) (.c (.bool false))) 0,mI 30 29 0,gI 31 (.mv (.t 5)) 0 30 true,gI 32 (.bin .eql (.t 31) (cI 0)) 0 30 true,oI 33 (.pick (.t 30) (.t 32) (.c (.bool false))) 0,mI 0 33 0]
def Yeu:CC := .seq (.rg false Z34) (.seq (.rg false Z0y) (.seq (.rg false Z3t) (.seq (.rg false Z2e) (.seq (.rg false Z17) .ret))))
abbrev Yk3:Nat:=18
theorem Yjf:fnOk Tryz.prog 18=some (34,Yeu,[.tmp 0]):=by kernel_rfl
end GoAbs
namespace GoAbs
open Go Go.Proofs
theorem rin {v a b:Int}:SpecV Tryz.prog Y1f [.int .i64 v,.int .i64 a,.int .i64 b] (.bool (decide (a≤v∧v≤b))):=by
 refine Zad Ywl (by simp) ?_
 unfold Ywk
 by_cases h1:a≤v
 ·by_cases h2:v≤b
  ·have hd:decide (a≤v∧v≤b)=true:=by simp [h1,h2]
   rw [hd]; simp only [go_sem,Zwd,Zwg,h1,h2]
  ·have hd:decide (a≤v∧v≤b)=false:=by simp [h2]
   rw [hd]; simp only [go_sem,Zwd,Zwg,h1,h2]
 ·have hd:decide (a≤v∧v≤b)=false:=by simp [h1]
  rw [hd]; simp only [go_sem,Zwd,Zwg,h1]
def formsE (L:List Spr):Int:=if (L.all fun s=>(parseL s.2.2).isSome) then 0 else 2
theorem rforms {L:List Spr}(hL:L.length≤1000000000) (hl:∀ s,s∈L→s.2.2.length≤1000000000):SpecV Tryz.prog Ym2 [.sl (L.map sprAV)] (.int .i64 (formsE L)):=by
 obtain ⟨ls,hls⟩:∃ ls,ls=L.map sprAV:=⟨_,rfl⟩
 have hlsl:ls.length=L.length:=by rw [hls,List.length_map]
 rw [← hls]
 refine Zad Yhs (by simp) ?_
 unfold Yeh
 simp only [go_sem,Z1s,Z3y]
 refine Zaf (fun i:Nat=>⟨envL [(0,.sl ls),(3,.int .i64 (i:Int))],[]⟩) (fun i=>i≤L.length∧((L.take i).all fun s=>(parseL s.2.2).isSome)=true) (fun i=>L.length - i) 0 ⟨by simp,by simp⟩ (Zab _ (by simp only [go_sem]; simp)) (fun i hI N hN=>?_)
 obtain ⟨h1,h2⟩:=hI
 unfold Z2o
 by_cases hi:i<L.length
 ·obtain ⟨⟨a,b,l⟩,he⟩:∃ s:Spr,L[i]? = some s:=⟨_,List.getElem?_eq_getElem hi⟩
  have hll:=hl _ (List.mem_of_getElem? he)
  simp only at hll
  have hlsi:ls[i]? = some (.agg [.int .i64 a,.int .i64 b,.str (bs l)]):=by
   rw [hls,List.getElem?_map,he]; rfl
  have q0:(0:Int)≤(i:Int):=by omega
  have q1:(i:Int)<(L.length:Int):=by omega
  have e1:IntKind.i64.wrap ((i:Int)+1)=((i+1:Nat):Int):=by rw [Zac (by omega) (by omega)]; omega
  have tk:((L.take (i+1)).all fun s=>(parseL s.2.2).isSome)=(((L.take i).all fun s=>(parseL s.2.2).isSome) && (parseL l).isSome):=by
   rw [List.take_add_one,he]; simp [List.all_append]
  simp only [go_sem,Zpy,Z25,hlsl,q0,q1,hlsi]
  refine Zaa (rvalid hll) (by simp only [go_sem]) ?_
  cases hp:(parseL l).isSome with
  | true =>
   simp only [go_sem,Bool.not_true,Z3w,e1]
   exact hN (i+1) _ ⟨by omega,by rw [tk,h2,hp]; rfl⟩ (by omega) (Zab _ (by simp only [go_sem]))
  | false =>
   have hf:formsE L=2:=by
    unfold formsE
    rw [if_neg]
    intro hall
    have:=List.all_eq_true.1 hall _ (List.mem_of_getElem? he)
    simp only at this
    rw [hp] at this; cases this
   rw [hf]
   simp only [go_sem,Bool.not_false,Z2r]
 ·have hie:i=L.length:=by omega
  subst hie
  have q1:¬ ((L.length:Nat):Int)<(L.length:Int):=by omega
  rw [List.take_length] at h2
  have hf:formsE L=0:=by unfold formsE; rw [if_pos h2]
  rw [hf]
  simp only [go_sem,Zpy,Z1r,hlsl,q1]
end GoAbs
namespace GoAbs
open Go Go.Proofs
def stepS (k:Nat) (c:UInt8):Nat:=if c=47 then 0 else if c=45 then k else k+1
def shortL (n:Nat):Nat→List UInt8→Bool
 | _,[]=>true
 | k,c::r=>if n<stepS k c then false else shortL n (stepS k c) r
theorem Zop {n k:Nat}{c:UInt8}{r:List UInt8}:shortL n k (c::r)=if n<stepS k c then false else shortL n (stepS k c) r:=rfl
theorem rshort {l:List UInt8}{n:Nat}(hlen:l.length≤1000000000) (hn:n≤1000000000):SpecV Tryz.prog Yk1 [.str (bs l),.int .i64 (n:Int)] (.bool (shortL n 0 l)):=by
 refine Zad Yht (by simp) ?_
 unfold Yed
 simp only [go_sem,Z11,Z3q,Z1p]
 refine Zaf (fun z:Nat×Nat=>⟨envL [(0,.str (bs l)),(1,.int .i64 (n:Int)),(5,.int .i64 (z.2:Int)),(6,.int .i64 (z.1:Int))],[]⟩) (fun z=>z.1≤l.length∧z.2≤z.1∧shortL n z.2 (l.drop z.1)=shortL n 0 l) (fun z=>l.length - z.1) (0,0) ⟨by simp,by simp,by simp⟩ (Zab _ (by simp only [go_sem]; simp)) (fun z hI N hN=>?_)
 obtain ⟨i,k⟩:=z
 obtain ⟨h1,h2,h3⟩:=hI
 simp only at h1 h2 h3 ⊢
 unfold Z20
 by_cases hi:i<l.length
 ·obtain ⟨c,gi⟩:∃ c,l[i]? = some c:=⟨_,List.getElem?_eq_getElem hi⟩
  have hdr:l.drop i=c::l.drop (i+1):=by
   rw [List.drop_eq_getElem_cons hi]
   congr 1
   have:=List.getElem?_eq_getElem hi
   rw [gi] at this
   exact (Option.some.inj this).symm
  have q0:(0:Int)≤(i:Int):=by omega
  have q1:(i:Int)<(l.length:Int):=by omega
  have e1:IntKind.i64.wrap ((i:Int)+1)=((i+1:Nat):Int):=by rw [Zac (by omega) (by omega)]; omega
  have e2:IntKind.i64.wrap ((k:Int)+1)=((k+1:Nat):Int):=by rw [Zac (by omega) (by omega)]; omega
  rw [hdr,Zop] at h3
  by_cases hc:c=47
  ·have hci:(c.toNat:Int)=47:=by rw [hc]; rfl
   have hst:stepS k c=0:=by unfold stepS; rw [if_pos hc]
   have q2:¬ (n:Int)<0:=by omega
   rw [hst,if_neg (by omega)] at h3
   simp only [go_sem,Zb1,Zdc,Z2l,Zde,Zhh,Zb6,Zaj,gi,q0,q1,q2,hci,e1]
   exact hN (i+1,0) _ ⟨hi,by simp,h3⟩ (by show l.length - (i+1)<l.length - i; omega) (Zab _ (by simp only [go_sem]; simp))
  ·have hci:¬ (c.toNat:Int)=47:=fun h=>hc (UInt8.toNat_inj.1 (by have:(47:UInt8).toNat=47:=rfl; omega))
   by_cases hc5:c=45
   ·have hci5:(c.toNat:Int)=45:=by rw [hc5]; rfl
    have hst:stepS k c=k:=by unfold stepS; rw [if_neg hc,if_pos hc5]
    rw [hst] at h3
    by_cases hk:n<k
    ·have q2:(n:Int)<(k:Int):=by omega
     rw [if_pos hk] at h3
     rw [← h3]
     simp only [go_sem,Zb1,Zdc,Zfu,Zde,Zmf,Zb6,Zaj,gi,q0,q1,q2,hci,hci5]
    ·have q2:¬ (n:Int)<(k:Int):=by omega
     rw [if_neg hk] at h3
     simp only [go_sem,Zb1,Zdc,Zfu,Zde,Zhh,Zb6,Zaj,gi,q0,q1,q2,hci,hci5,e1]
     exact hN (i+1,k) _ ⟨hi,by simp only; omega,h3⟩ (by show l.length - (i+1)<l.length - i; omega) (Zab _ (by simp only [go_sem]))
   ·have hci5:¬ (c.toNat:Int)=45:=fun h=>hc5 (UInt8.toNat_inj.1 (by have:(45:UInt8).toNat=45:=rfl; omega))
    have hst:stepS k c=k+1:=by unfold stepS; rw [if_neg hc,if_neg hc5]
    rw [hst] at h3
    by_cases hk:n<k+1
    ·have q2:(n:Int)<((k+1:Nat):Int):=by omega
     rw [if_pos hk] at h3
     rw [← h3]
     simp only [go_sem,Zb1,Zdc,Zfu,Zoi,Zde,Zmf,Zb6,Zaj,gi,q0,q1,q2,hci,hci5,e2]
    ·have q2:¬ (n:Int)<((k+1:Nat):Int):=by omega
     rw [if_neg hk] at h3
     simp only [go_sem,Zb1,Zdc,Zfu,Zoi,Zde,Zhh,Zb6,Zaj,gi,q0,q1,q2,hci,hci5,e1,e2]
     exact hN (i+1,k+1) _ ⟨hi,by simp only; omega,h3⟩ (by show l.length - (i+1)<l.length - i; omega) (Zab _ (by simp only [go_sem]))
 ·have hie:i=l.length:=by omega
  subst hie
  have q1:¬ ((l.length:Nat):Int)<(l.length:Int):=by omega
  rw [List.drop_length] at h3
  rw [← h3]
  simp only [go_sem,Zb1,Zxd,Zaj,q1]
  rfl
end GoAbs
namespace GoAbs
open Go Go.Proofs
def numsE (L:List (List UInt8)):Int:=if (L.all fun s=>(parseL s).isSome) then 0 else 2
def strAV (s:List UInt8):AV := .str (bs s)
theorem rnums {L:List (List UInt8)}(hL:L.length≤1000000000) (hl:∀ s,s∈L→s.length≤1000000000):SpecV Tryz.prog Yq2 [.sl (L.map strAV)] (.int .i64 (numsE L)):=by
 obtain ⟨ls,hls⟩:∃ ls,ls=L.map strAV:=⟨_,rfl⟩
 have hlsl:ls.length=L.length:=by rw [hls,List.length_map]
 rw [← hls]
 refine Zad Ylb (by simp) ?_
 unfold Yjq
 simp only [go_sem,Z7y,Z6t]
 refine Zaf (fun i:Nat=>⟨envL [(0,.sl ls),(3,.int .i64 (i:Int))],[]⟩) (fun i=>i≤L.length∧((L.take i).all fun s=>(parseL s).isSome)=true) (fun i=>L.length - i) 0 ⟨by simp,by simp⟩ (Zab _ (by simp only [go_sem]; simp)) (fun i hI N hN=>?_)
 obtain ⟨h1,h2⟩:=hI
 unfold Z7m
 by_cases hi:i<L.length
 ·obtain ⟨l,he⟩:∃ s,L[i]? = some s:=⟨_,List.getElem?_eq_getElem hi⟩
  have hll:=hl _ (List.mem_of_getElem? he)
  have hlsi:ls[i]? = some (.str (bs l)):=by
   rw [hls,List.getElem?_map,he]; rfl
  have q0:(0:Int)≤(i:Int):=by omega
  have q1:(i:Int)<(L.length:Int):=by omega
  have e1:IntKind.i64.wrap ((i:Int)+1)=((i+1:Nat):Int):=by rw [Zac (by omega) (by omega)]; omega
  have tk:((L.take (i+1)).all fun s=>(parseL s).isSome)=(((L.take i).all fun s=>(parseL s).isSome) && (parseL l).isSome):=by
   rw [List.take_add_one,he]; simp [List.all_append]
  simp only [go_sem,Zu7,Z6c,hlsl,q0,q1,hlsi]
  refine Zaa (rvalid hll) (by simp only [go_sem]) ?_
  cases hp:(parseL l).isSome with
  | true =>
   simp only [go_sem,Bool.not_true,Z7z,e1]
   exact hN (i+1) _ ⟨by omega,by rw [tk,h2,hp]; rfl⟩ (by omega) (Zab _ (by simp only [go_sem]))
  | false =>
   have hf:numsE L=2:=by
    unfold numsE
    rw [if_neg]
    intro hall
    have:=List.all_eq_true.1 hall _ (List.mem_of_getElem? he)
    rw [hp] at this; cases this
   rw [hf]
   simp only [go_sem,Bool.not_false,Z7f]
 ·have hie:i=L.length:=by omega
  subst hie
  have q1:¬ ((L.length:Nat):Int)<(L.length:Int):=by omega
  rw [List.take_length] at h2
  have hf:numsE L=0:=by unfold numsE; rw [if_pos h2]
  rw [hf]
  simp only [go_sem,Zu7,Z64,hlsl,q1]
theorem Zp7 {n:Nat}:∀ {l r:List UInt8}{k:Nat},AllD l→k≤n→shortL n k (l++r)=(decide (k+l.length≤n) && shortL n (k+l.length) r)
 | [],r,k,_,hk=>by simp [hk]
 | c::l,r,k,hd,hk=>by
  have hc:=hd c (by simp)
  unfold isDig at hc
  have h1:c≠47:=fun e=>by rw [e] at hc; have:(47:UInt8).toNat=47:=rfl; omega
  have h2:c≠45:=fun e=>by rw [e] at hc; have:(45:UInt8).toNat=45:=rfl; omega
  have hst:stepS k c=k+1:=by unfold stepS; rw [if_neg h1,if_neg h2]
  rw [List.cons_append,Zop,hst]
  by_cases hn:n<k+1
  ·rw [if_pos hn]
   have:decide (k+(c::l).length≤n)=false:=by simp; omega
   rw [this]; rfl
  ·rw [if_neg hn,Zp7 (fun x hx=>hd x (by simp [hx])) (by omega),List.length_cons]
   have e:k+1+l.length=k+(l.length+1):=by omega
   rw [e]
end GoAbs
namespace GoAbs
open Go Go.Proofs
theorem Yeq {a:List UInt8}(h:digOk a):decL (numL a)=a:=by
 obtain ⟨h1,h2,h3,_⟩:=h
 by_cases hh:a.head? = some 48
 ·have hl:¬ 1<a.length:=fun hl=>h3 ⟨hh,hl⟩
  cases a with
  | nil=>exact absurd rfl h2
  | cons c r =>
   have hr:r = []:=List.length_eq_zero_iff.1 (by rw [List.length_cons] at hl; omega)
   subst hr
   simp at hh
   subst hh
   rfl
 ·exact Z9x h1 h2 hh
theorem Y3l:∀ {a b:List Nat},ic a=ic b→a=b
 | [],[],_=>rfl
 | [],y::b,h=>by simp [ic] at h
 | x::a,[],h=>by simp [ic] at h
 | x::a,y::b,h=>by
  rw [Yl6,Yl6] at h
  injection h with h1 h2
  injection h1 with _ h3
  have h4:x=y:=by omega
  rw [h4,Y3l h2]
theorem Y20 {m n:Nat}(h:ic (dg m)=ic (dg n)):m=n:=by
 have:=congrArg vd (Y3l h)
 rwa [Zne,Zne] at this
theorem Y3y {n d n' d':Int}(h:AV.tup [avR n d,.bool true] = .tup [avR n' d',.bool true]):n.natAbs=n'.natAbs∧d.natAbs=d'.natAbs:=by
 rw [Zax,Zax] at h
 injection h with h
 injection h with h _
 injection h with h
 injection h with _ h
 injection h with h1 h
 injection h with _ h
 injection h with h2 _
 injection h1 with h1
 injection h2 with h2
 exact ⟨Y20 h1,Y20 h2⟩
theorem Yem {l:List UInt8}{q:Rat}(h:parseL l=some q):digOk (befL (signL l).1)∧decL q.num.natAbs=befL (signL l).1∧(47∈(signL l).1→digOk (aftL (signL l).1)∧decL q.den=aftL (signL l).1)∧(47 ∉ (signL l).1→q.den=1):=by
 have hr:=Ywo l
 rw [h] at hr
 simp only at hr
 unfold refP midR at hr
 have hb:badR ≠ .tup [avR q.num q.den,.bool true]:=by unfold badR; intro e; simp at e
 split at hr
 ·exact absurd hr hb
 ·split at hr
  ·rename_i hs
   split at hr
   ·rename_i hc
    have hA:=hc.1
    obtain ⟨e1,e2⟩:=Y3y hr
    have e1':numL (befL (signL l).1)=q.num.natAbs:=by rw [← e1]; split <;> simp
    rw [Int.natAbs_natCast,Int.natAbs_natCast] at e2
    refine ⟨hA,by rw [← e1']; exact Yeq hA,fun h47=>?_,fun h47=>?_⟩
    ·have:=hs h47
     rw [if_pos h47] at e2
     exact ⟨this.1,by rw [← e2]; exact Yeq this.1⟩
    ·rw [if_neg h47] at e2
     exact e2.symm
   ·exact absurd hr hb
  ·exact absurd hr hb
theorem Yh4 {o:List UInt8}(h:47∈o):o=befL o++47::aftL o:=by
 have h1:=List.takeWhile_append_dropWhile (p:=(· != 47)) (l:=o)
 have h2:∀ l:List UInt8,47∈l→l.dropWhile (· != 47)=47::(l.dropWhile (· != 47)).tail:=by
  intro l
  induction l with
  | nil=>intro h; simp at h
  | cons x l ih =>
   intro h
   rw [List.dropWhile_cons]
   by_cases hx:x=47
   ·subst hx; rfl
   ·have hx':(x != 47)=true:=by simpa using hx
    rw [if_pos hx']
    exact ih (by rcases List.mem_cons.1 h with h | h; exact absurd h.symm hx; exact h)
 rw [h2 o h] at h1
 exact h1.symm
theorem Yq8 {l:List UInt8}{q:Rat}(h:parseL l=some q):shortL 20 0 l=decide (Fitd 20 q):=by
 obtain ⟨h1,h2,h3,h4⟩:=Yem h
 have hs:shortL 20 0 l=shortL 20 0 (signL l).1:=by
  unfold signL
  split
  ·rename_i hh
   cases l with
   | nil=>simp at hh
   | cons c r =>
    simp at hh
    subst hh
    rw [Zop]
    rfl
  ·rfl
 have hF:decide (Fitd 20 q)=(decide ((befL (signL l).1).length≤20) && decide ((decL q.den).length≤20)):=by
  rw [Bool.eq_iff_iff]; simp [Fitd,h2]
 rw [hs,hF]
 by_cases h47:47∈(signL l).1
 ·obtain ⟨g1,g2⟩:=h3 h47
  rw [g2]
  have e:=Yh4 h47
  rw [congrArg (shortL 20 0) e,Zp7 h1.1 (by omega),Zop]
  have hst:∀ k,stepS k 47=0:=fun k=>rfl
  rw [hst,if_neg (by omega)]
  have:=Zp7 (n:=20) (r := []) (k:=0) g1.1 (by omega)
  rw [List.append_nil] at this
  rw [this]
  simp [shortL]
 ·rw [h4 h47]
  have e:=Ymv h47
  have:=Zp7 (n:=20) (r := []) (k:=0) h1.1 (by omega)
  rw [List.append_nil,e] at this
  rw [this,e]
  have:(decL 1).length=1:=by rw [Ye6.2 rfl]; rfl
  simp [shortL,this]
end GoAbs
namespace GoAbs
end GoAbs
