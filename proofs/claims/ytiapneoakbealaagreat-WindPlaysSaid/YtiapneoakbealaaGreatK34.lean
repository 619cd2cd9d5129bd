/- Lemmas for the claim (contracts of the functions that it reaches, and what they compute), without conditions. -/
import Derived.Test.YtiapneoakbealaaGreatK33
import Derived.Test.YtiapneoakbealaaGreatProg
import Derived.KernelRfl
set_option linter.unusedVariables false
set_option linter.unusedSimpArgs false
set_option maxRecDepth 10000
set_option maxHeartbeats 2000000
namespace GoAbs
open Go Go.Proofs
set_option maxHeartbeats 4000000
theorem Yeg {l:List UInt8}{q:Rat}(h:parseL l=some q):shortL 12 0 l=decide (Fitd 12 q):=by
 obtain ⟨h1,h2,h3,h4⟩:=Z8t h
 have hs:shortL 12 0 l=shortL 12 0 (signL l).1:=by
  unfold signL
  split
  ·rename_i hh
   cases l with
   | nil=>simp at hh
   | cons c r =>
    simp at hh
    subst hh
    rw [Zqq]
    rfl
  ·rfl
 have hF:decide (Fitd 12 q)=(decide ((befL (signL l).1).length≤12) && decide ((decL q.den).length≤12)):=by
  rw [Bool.eq_iff_iff]; simp [Fitd,h2]
 rw [hs,hF]
 by_cases h47:47∈(signL l).1
 ·obtain ⟨g1,g2⟩:=h3 h47
  rw [g2]
  have e:=Yd7 h47
  rw [congrArg (shortL 12 0) e,Zr1 h1.1 (by omega),Zqq]
  have hst:∀ k,stepS k 47=0:=fun k=>rfl
  rw [hst,if_neg (by omega)]
  have:=Zr1 (n:=12) (r := []) (k:=0) g1.1 (by omega)
  rw [List.append_nil] at this
  rw [this]
  simp [shortL]
 ·rw [h4 h47]
  have e:=Ys7 h47
  have:=Zr1 (n:=12) (r := []) (k:=0) h1.1 (by omega)
  rw [List.append_nil,e] at this
  rw [this,e]
  have:(decL 1).length=1:=by rw [Ymw.2 rfl]; rfl
  simp [shortL,this]
theorem num_pos' {q:Rat}:(0<q)↔(0<q.num):=by
 rw [Rat.lt_iff]; simp
theorem Y2z {a b:Rat}{k:Nat}(ha:Qb k a) (hb:Qb k b) (hk:k≤1000000):SpecV Tryz.prog Yir [.agg (rq a),.agg (rq b)] (.int .i64 (cmpR a b)):=by
 have h:=rcmpq ha.ib.1 ha.ib.2 hb.ib.1 hb.ib.2 hk
 have e:(if a.num*(b.den:Int)=b.num*(a.den:Int) then (0:Int) else if a.num*(b.den:Int)<b.num*(a.den:Int) then -1 else 1)=cmpR a b:=by
  unfold cmpR
  simp only [Rat.lt_iff]
  generalize a.num*(b.den:Int)=x
  generalize b.num*(a.den:Int)=y
  by_cases h1:x=y
  ·rw [if_pos h1,if_neg (by omega),if_neg (by omega)]
  ·rw [if_neg h1]
   by_cases h2:x<y
   ·rw [if_pos h2,if_pos h2]
   ·rw [if_neg h2,if_neg h2,if_pos (by omega)]
 rw [e] at h
 exact h
theorem Xlu {a b:Rat}:(cmpR a b=0)=(a=b):=propext (by unfold cmpR; constructor <;> intro h <;> grind)
theorem Z98 {l:List UInt8}(h:okB l=true):smallB l=shortL 12 0 l:=by
 rw [Yeg (okBq h)]
 unfold smallB
 rw [okBq h]; rfl
theorem Y2b {v a b:Int}(h:a≤v∧v≤b):SpecV Tryz.prog Ymn [.int .i64 v,.int .i64 a,.int .i64 b] (.bool true):=by
 have:=rin (v:=v) (a:=a) (b:=b)
 rwa [decide_eq_true h] at this
theorem Y3l {v a b:Int}(h:¬ (a≤v∧v≤b)):SpecV Tryz.prog Ymn [.int .i64 v,.int .i64 a,.int .i64 b] (.bool false):=by
 have:=rin (v:=v) (a:=a) (b:=b)
 rwa [decide_eq_false h] at this
theorem Y9t {ls:List AV}{n:Nd}{ms:List AV}(hms:ms=n.mv.map mvAV) (hls:ls.length≤1000000) (hml:n.mv.length≤7) (hm:∀ m,m∈n.mv→m.2.length≤23) (hv:vaM n.mv=true) {K:Ex→St→Prop}
  (hK:fiM ls.length n.kind n.mv=true→∀ e:Nat→AV,e 3 = .ptr 0 0→e 5 = .ptr 1 0→K (.exit 0) ⟨e,[.cells [.int .i64 n.kind,.str (bs n.rew),.sl ms],.cells (rq (sumM n.mv))]⟩)
  (hK0:fiM ls.length n.kind n.mv=false→∀ e:Nat→AV,∀ H,e 4 = .bool false→K .ret ⟨e,H⟩) :
  T Tryz.prog 84 0 (.loop Zu8) ⟨envL [(0,.sl ls),(3,.ptr 0 0),(5,.ptr 1 0),(6,.int .i64 0)],[.cells [.int .i64 n.kind,.str (bs n.rew),.sl ms],.cells (rq 0)]⟩ K:=by
 have hmx:Tryz.prog.follows .mixedOrders=true:=by kernel_rfl
 have hmsl:ms.length=n.mv.length:=by rw [hms,List.length_map]
 refine Zad (fun i:Nat=>⟨envL [(0,.sl ls),(3,.ptr 0 0),(5,.ptr 1 0),(6,.int .i64 (i:Int))],[.cells [.int .i64 n.kind,.str (bs n.rew),.sl ms],.cells (rq (sumM (n.mv.take i)))]⟩)
  (fun i=>i≤n.mv.length∧fiM ls.length n.kind (n.mv.take i)=true) (fun i=>n.mv.length - i) 0 ⟨by omega,rfl⟩ (Zbj (Zab [(0,.sl ls),(3,.ptr 0 0),(5,.ptr 1 0),(6,.int .i64 0)] (by simp only [go_sem])) rfl) (fun i hI N hN=>?_)
 obtain ⟨hi,hfi⟩:=hI
 unfold Zu8
 by_cases hin:i<n.mv.length
 ·obtain ⟨m,hmi⟩:∃ m,n.mv[i]? = some m:=⟨_,List.getElem?_eq_getElem hin⟩
  have hmm:=List.mem_of_getElem? hmi
  have hml2:=hm m hmm
  have tk:n.mv.take (i+1)=n.mv.take i ++ [m]:=by rw [List.take_add_one,hmi]; rfl
  have hmsi:ms[i]? = some (.agg [.int .i64 m.1,.str (bs m.2)]):=by rw [hms,List.getElem?_map,hmi]; rfl
  have hsb:=Z6f (l:=n.mv.take i) (fun m h=>hm m (List.mem_of_mem_take h))
  have hst:sumM (n.mv.take (i+1))=stepM (sumM (n.mv.take i)) m:=by rw [tk,Ydv]
  have hsf:fiM ls.length n.kind (n.mv.take (i+1))=mvFit ls.length n.kind m:=by
   rw [tk]; unfold fiM at *; rw [List.all_append,hfi]; simp
  have hbad:mvFit ls.length n.kind m=false→fiM ls.length n.kind n.mv=false:=fun h=>by
   unfold fiM
   rw [← Bool.not_eq_true,List.all_eq_true]
   intro h2
   rw [h2 m hmm] at h; cases h
  have hvm:m.2.isEmpty=true∨okB m.2=true:=by
   have:=List.all_eq_true.1 hv m hmm
   simpa using this
  have hlt:(n.mv.take i).length≤7:=by rw [List.length_take]; omega
  generalize sumM (n.mv.take i)=s at *
  have q0:(0:Int)≤(i:Int):=by omega
  have q1:(i:Int)<(n.mv.length:Int):=by omega
  have e1:IntKind.i64.wrap ((i:Int)+1)=((i+1:Nat):Int):=by rw [Zac (by omega) (by omega)]; omega
  have e2:IntKind.i64.wrap ((ls.length:Int) - 1)=(ls.length:Int) - 1:=Zac (by omega) (by omega)
  have rl:∀ q:Rat,(rq q).length=4:=fun q=>rfl
  have bvsr:∀ {H ids} {q:Rat},BVs H ids (rq q) (rq q)=True:=fun {H ids q}=>by unfold rq rc; simp only [go_sem]
  have hdrop:∀ (kd:Int) (e:Nat→AV) (post:Heap) (z:Rat),kd=n.kind→e 0 = .sl ls→e 3 = .ptr 0 0→e 5 = .ptr 1 0→e 6 = .int .i64 ((i+1:Nat):Int)→z=sumM (n.mv.take (i+1))→mvFit ls.length n.kind m=true →
    N ⟨e,[.cells [.int .i64 kd,.str (bs n.rew),.sl ms],.cells (rq z)]++post⟩:=fun kd e post z hkd f0 f3 f5 f6 hz hf=>by
   subst hkd
   refine hN (i+1) _ ⟨by omega,by rw [hsf,hf]⟩ (by omega) (Zbj (Ze4 (K := [.cells [.int .i64 n.kind,.str (bs n.rew),.sl ms],.cells (rq z)]) (m:=2) rfl (show Clo 2 [.cells [.int .i64 n.kind,.str (bs n.rew),.sl ms],.cells (rq z)] from rfl) (by omega) [(0,.sl ls),(3,.ptr 0 0),(5,.ptr 1 0),(6,.int .i64 ((i+1:Nat):Int))] (by simp only [go_sem,f0,f3,f5,f6]) ?_) (by rw [hz]))
   simp [AV.gc,Zbb]
  simp only [go_sem,Zxy,Ybo,Yb6,q0,q1,hmsl,hmsi,e2]
  have hsh:=rshort (l:=m.2) (n:=12) (by omega) (by omega)
  by_cases a1:0≤m.1∧m.1≤(ls.length:Int) - 1
  ·refine Zaa (Y2b a1) (by simp only [go_sem]) ?_
   have d1:decide (0≤m.1)=true:=decide_eq_true a1.1
   have d2:decide (m.1<(ls.length:Int))=true:=decide_eq_true (by omega)
   by_cases a2:m.2 = []
   ·have hemp:m.2.isEmpty=true:=by rw [a2]; rfl
    have hs0:shortL 12 0 m.2=true:=by rw [a2]; rfl
    rw [hs0] at hsh
    by_cases a3:n.kind=3
    ·have hf:mvFit ls.length n.kind m=false:=by unfold mvFit mvFit1; rw [hemp,a3]; simp
     simp only [go_sem,Zyv,a2,a3,Ziq]
     exact hK0 (hbad hf) _ _ (by simp only [go_sem])
    ·have hf:mvFit ls.length n.kind m=true:=by unfold mvFit mvFit1; rw [hemp,d1,d2]; simp [a3]
     have hsum:s=sumM (n.mv.take (i+1)):=by rw [hst]; unfold stepM; rw [if_pos hemp]
     simp only [go_sem,Zyv,a2,a3]
     rw [a2] at hsh
     refine Zaa hsh (by simp only [go_sem]) ?_
     simp only [go_sem,Zyv,a2,a3,Zqy,Zqd,e1]
     exact hdrop _ _ [_] s rfl (by simp only [go_sem]) (by simp only [go_sem]) (by simp only [go_sem]) (by simp only [go_sem]) hsum hf
   ·have hemp:m.2.isEmpty=false:=by simpa using a2
    by_cases a3:n.kind=3
    ·have hok:okB m.2=true:=by rcases hvm with h | h; rw [h] at hemp; cases hemp; exact h
     obtain ⟨q,hq⟩:∃ q,parseL m.2=some q:=⟨_,okBq hok⟩
     have hfit:mvFit ls.length n.kind m=(shortL 12 0 m.2 && decide (0<q)):=by
      unfold mvFit mvFit1 mvFit2
      rw [hemp,hq,d1,d2,a3,Yeg hq]
      simp [Bool.and_comm]
     have hof:=rof (by omega) hq
     rw [Zaq] at hof
     have hqb:=Zkh hq hml2
     simp only [go_sem,Zyv,a2,a3]
     cases hsv:shortL 12 0 m.2 with
     | false =>
      rw [hsv] at hsh hfit
      refine Zaa hsh (by simp only [go_sem]) ?_
      simp only [go_sem,Ziq]
      exact hK0 (hbad hfit) _ _ (by simp only [go_sem])
     | true =>
      rw [hsv] at hsh hfit
      refine Zaa hsh (by simp only [go_sem]) ?_
      simp only [go_sem,Zyv,a2,Zqy,Z7p]
      refine Zaa hof (by simp only [go_sem]) ?_
      simp only [go_sem]
      refine Zaa (Yss (z:=q.num)) (by simp only [go_sem,Zai]) ?_
      have hnz:decide (0<q)=decide (0<q.num):=decide_eq_decide.2 num_pos'
      by_cases a4:0<q.num
      ·have c1:¬ (if q.num=0 then (0:Int) else if q.num<0 then -1 else 1)≤0:=by rw [if_neg (by omega),if_neg (by omega)]; decide
       have hf:mvFit ls.length n.kind m=true:=by rw [hfit,hnz]; simp [a4]
       have hsum:s+q=sumM (n.mv.take (i+1)):=by rw [hst]; unfold stepM; rw [if_neg (by rw [hemp]; decide),hq]
       obtain ⟨X,x1,x2,x3⟩:=Xjz (a:=s) (b:=q) (k:=1+78*7) (hsb.mono (by omega)) (hqb.mono (by omega)) (by omega)
       have hoq:SpecV Tryz.prog Zza [.str (bs m.2)] (.agg (rq q)):=hof
       simp only [go_sem,c1,Zpr,rl,Zcb,Zc5,hmx]
       refine Zaa hoq (by simp only [go_sem]) ?_
       simp only [go_sem,rl,Zcb,Zc5]
       refine Zaa x1 (by simp only [go_sem,bvsr]) ?_
       simp only [go_sem]
       refine Zaa x3 (by simp only [go_sem,x2]) ?_
       simp only [go_sem,rl,Zcb,Zc5,Zqd,e1]
       exact hdrop _ _ [_] (s+q) a3.symm (by simp only [go_sem]) (by simp only [go_sem]) (by simp only [go_sem]) (by simp only [go_sem]) hsum hf
      ·have c1:(if q.num=0 then (0:Int) else if q.num<0 then -1 else 1)≤0:=by split; decide; rw [if_pos (by omega)]; decide
       have hf:mvFit ls.length n.kind m=false:=by rw [hfit,hnz]; simp [a4]
       simp only [go_sem,c1,Z5c]
       exact hK0 (hbad hf) _ _ (by simp only [go_sem])
    ·have hf:mvFit ls.length n.kind m=false:=by unfold mvFit mvFit1; rw [hemp]; simp [a3]
     simp only [go_sem,Zyv,a2,a3,Ziq]
     exact hK0 (hbad hf) _ _ (by simp only [go_sem])
  ·have hf:mvFit ls.length n.kind m=false:=by
    unfold mvFit mvFit1
    by_cases h0:0≤m.1
    ·have:¬ m.1<(ls.length:Int):=by omega
     simp [this]
    ·simp [h0]
   refine Zaa (Y3l a1) (by simp only [go_sem]) ?_
   simp only [go_sem,Ziq]
   exact hK0 (hbad hf) _ _ (by simp only [go_sem])
 ·have hie:i=n.mv.length:=by omega
  subst hie
  have q1:¬ ((n.mv.length:Nat):Int)<(n.mv.length:Int):=by omega
  rw [List.take_length] at hfi ⊢
  simp only [go_sem,Zxy,hmsl,q1]
  exact hK hfi _ (by simp only [go_sem]) (by simp only [go_sem])
theorem rnode {ls:List AV}{n:Nd}(hls:ls.length≤1000000) (hr:n.rew.length≤23) (hml:n.mv.length≤7) (hm:∀ m,m∈n.mv→m.2.length≤23) (hv:ndVa n=true) :
  SpecV Tryz.prog Yz2 [.sl ls,ndAV n] (.bool (ndFi ls.length n)):=by
 have hmx:Tryz.prog.follows .mixedOrders=true:=by kernel_rfl
 unfold ndVa at hv
 rw [Bool.and_eq_true] at hv
 have hsm:=Z98 hv.1
 have hsh:=rshort (l:=n.rew) (n:=12) (by omega) (by omega)
 rw [← hsm] at hsh
 obtain ⟨ms,hms⟩:∃ ms,ms=n.mv.map mvAV:=⟨_,rfl⟩
 have hmsl:ms.length=n.mv.length:=by rw [hms,List.length_map]
 have rl:∀ q:Rat,(rq q).length=4:=fun q=>rfl
 have bvsr:∀ {H ids} {q:Rat},BVs H ids (rq q) (rq q)=True:=fun {H ids q}=>by unfold rq rc; simp only [go_sem]
 have hA:ndAV n = .agg [.int .i64 n.kind,.str (bs n.rew),.sl ms]:=by unfold ndAV; rw [hms]
 rw [hA]
 refine Za0 Ytz (by simp) (Za9 1 rfl ?_)
 unfold Yoa
 simp only [go_sem,Ycb,Z93]
 have nf:∀ b,b=false→(smallB n.rew && fiM ls.length n.kind n.mv && decide (1≤n.mv.length∧n.mv.length≤6) && kindF n)=b→ndFi ls.length n=false:=fun b hb h=>by unfold ndFi; rw [h,hb]
 by_cases a1:1≤n.kind∧n.kind≤3
 ·refine Zaa (Y2b a1) (by simp only [go_sem]) ?_
  simp only [go_sem]
  cases hsv:smallB n.rew with
  | false =>
   rw [hsv] at hsh nf
   rw [nf false rfl (by simp)]
   refine Zaa hsh (by simp only [go_sem]) ?_
   simp only [go_sem,Zmk]
  | true =>
   rw [hsv] at hsh
   refine Zaa hsh (by simp only [go_sem]) ?_
   simp only [go_sem,hmsl]
   by_cases a2:(1:Int)≤(n.mv.length:Int)∧(n.mv.length:Int)≤6
   ·refine Zaa (Y2b a2) (by simp only [go_sem]) ?_
    simp only [go_sem]
    refine Za9 0 rfl ?_
    simp only [go_sem,Yad]
    have w0:SpecV Tryz.prog Ze3 [.int .i64 0] (.agg (rq 0)):=rwhole (v:=0) (by decide)
    have w1:SpecV Tryz.prog Ze3 [.int .i64 1] (.agg (rq 1)):=rwhole (v:=1) (by decide)
    refine Zaa w0 (by simp only [go_sem]) ?_
    simp only [go_sem,rl,Zcb,Zc5]
    refine Zau (Zau (T_W ?_))
    simp only [go_sem,Yba]
    refine Zat (Zap [(0,.sl ls),(3,.ptr 0 0),(5,.ptr 1 0),(6,.int .i64 0)] (by simp only [go_sem]) (Y9t hms hls hml hm hv.2 (fun hf e k3 k5=>?_) (fun hf e H k4=>?_)))
    ·show T Tryz.prog 84 0 (.seq (.rg true Zgc) .ret) _ _
     refine T_W ?_
     have hF:ndFi ls.length n=kindF n:=by
      unfold ndFi
      rw [hsv,hf,decide_eq_true (show 1≤n.mv.length∧n.mv.length≤6 by omega)]; simp
     rw [hF]
     unfold kindF
     have sb:=Z6f hm
     have hc:=Y2z (k:=1000) (sb.mono (by omega)) (Qb.one (k:=1000) (by omega)) (by omega)
     by_cases a3:n.kind=3
     ·have b1:decide (n.kind=1)=false:=decide_eq_false (by omega)
      have b2:decide (n.kind=2)=false:=decide_eq_false (by omega)
      have b3:decide (n.kind=3)=true:=decide_eq_true a3
      rw [b1,b2,b3,Bool.false_or,Bool.false_or,Bool.true_and]
      clear b1 b2 b3
      simp only [go_sem,Zgc,k3,k5,a3,rl,Zcb,Zc5,hmx]
      refine Zaa w1 (by simp only [go_sem]) ?_
      simp only [go_sem]
      refine Zaa hc (by simp only [go_sem,bvsr]) ?_
      simp only [go_sem,Xlu]
      exact ⟨fun h=>decide_eq_true h,fun h=>decide_eq_false h⟩
     ·have b:decide (n.kind=3)=false:=decide_eq_false a3
      have b0:(decide (n.kind=1) || decide (n.kind=2))=true:=by
       have:n.kind=1∨n.kind=2:=by omega
       simpa using this
      rw [b,Bool.false_and,Bool.or_false,b0]
      simp only [go_sem,Zgc,k3,k5,a3,rl,Zcb,Zc5,hmx]
    ·have hF:ndFi ls.length n=false:=nf false rfl (by rw [hf]; simp)
     rw [hF]
     simp only [go_sem,k4]
   ·rw [nf false rfl (by rw [decide_eq_false (show ¬ (1≤n.mv.length∧n.mv.length≤6) by omega)]; simp)]
    refine Zaa (Y3l a2) (by simp only [go_sem]) ?_
    simp only [go_sem,Zmk]
 ·have hk:kindF n=false:=by
   unfold kindF
   have h1:n.kind≠1:=by omega
   have h2:n.kind≠2:=by omega
   have h3:n.kind≠3:=by omega
   simp [h1,h2,h3]
  rw [nf false rfl (by rw [hk]; simp)]
  refine Zaa (Y3l a1) (by simp only [go_sem]) ?_
  simp only [go_sem,Zmk]
end GoAbs
namespace GoAbs
open Go Go.Proofs
set_option maxHeartbeats 4000000
theorem rvalid' {l:List UInt8}(hlen:l.length≤1000000000):SpecV Tryz.prog Ygg [.str (bs l)] (.bool (okB l)):=rvalid hlen
theorem Xf2 {ls:List AV}{d:ByteArray}{L:List Nd}{n:Nd}{b:Bool}{i:Nat}(hls:ls=L.map ndAV) (hll:L.length≤1000000) (hi:L[i]? = some n) (hml:n.mv.length≤7) (hm:∀ m,m∈n.mv→m.2.length≤23) {K:Ex→St→Prop}
  (hK:∀ e:Nat→AV,e 0 = .sl ls→e 1 = .str d→e 7 = .bool (b && vaM n.mv)→e 8 = .int .i64 (i:Int)→K (.exit 2) ⟨e,[]⟩) :
  T Tryz.prog 109 0 (.loop Zj2) ⟨envL [(0,.sl ls),(1,.str d),(7,.bool b),(8,.int .i64 (i:Int)),(9,.int .i64 0)],[]⟩ K:=by
 obtain ⟨ms,hms⟩:∃ ms,ms=n.mv.map mvAV:=⟨_,rfl⟩
 have hmsl:ms.length=n.mv.length:=by rw [hms,List.length_map]
 have hil:=(List.getElem?_eq_some_iff.1 hi).1
 have hlsl:ls.length=L.length:=by rw [hls,List.length_map]
 have hget:ls[i]? = some (.agg [.int .i64 n.kind,.str (bs n.rew),.sl ms]):=by rw [hls,List.getElem?_map,hi,hms]; rfl
 refine Zad (fun k:Nat=>⟨envL [(0,.sl ls),(1,.str d),(7,.bool (b && vaM (n.mv.take k))),(8,.int .i64 (i:Int)),(9,.int .i64 (k:Int))],[]⟩)
  (fun k=>k≤n.mv.length) (fun k=>n.mv.length - k) 0 (by omega) (Zab _ (by simp only [go_sem]; simp [vaM])) (fun k hk N hN=>?_)
 unfold Zj2
 have p0:(0:Int)≤(i:Int):=by omega
 have p1:(i:Int)<(L.length:Int):=by omega
 by_cases hkn:k<n.mv.length
 ·obtain ⟨m,hmi⟩:∃ m,n.mv[k]? = some m:=⟨_,List.getElem?_eq_getElem hkn⟩
  have hml2:=hm m (List.mem_of_getElem? hmi)
  have tk:vaM (n.mv.take (k+1))=(vaM (n.mv.take k) && (m.2.isEmpty || okB m.2)):=by rw [List.take_add_one,hmi]; unfold vaM; simp
  have hmsi:ms[k]? = some (.agg [.int .i64 m.1,.str (bs m.2)]):=by rw [hms,List.getElem?_map,hmi]; rfl
  have q0:(0:Int)≤(k:Int):=by omega
  have q1:(k:Int)<(n.mv.length:Int):=by omega
  have e1:IntKind.i64.wrap ((k:Int)+1)=((k+1:Nat):Int):=by rw [Zac (by omega) (by omega)]; omega
  generalize vaM (n.mv.take k)=v at *
  have fin:∀ (x:Bool) (e:Nat→AV),x=(b && vaM (n.mv.take (k+1)))→Has e [(0,.sl ls),(1,.str d),(7,.bool x),(8,.int .i64 (i:Int)),(9,.int .i64 ((k+1:Nat):Int))]→N ⟨e,[]⟩:=fun x e hx he=>by
   refine hN (k+1) _ (by omega) (by omega) (Zab _ ?_)
   rw [← hx]; exact he
  cases hbv:(b && v) with
  | false =>
   simp only [go_sem,Zf6,Zjv,Zjx,p0,p1,q0,q1,hlsl,hget,hmsl,e1]
   exact fin false _ (by rw [tk, ← Bool.and_assoc,hbv]; rfl) (by simp only [go_sem])
  | true =>
   by_cases a2:m.2 = []
   ·have hemp:m.2.isEmpty=true:=by rw [a2]; rfl
    simp only [go_sem,Zf6,Zjv,Zjx,p0,p1,q0,q1,hlsl,hget,hmsl,hmsi,Zyv,a2,e1]
    exact fin true _ (by rw [tk, ← Bool.and_assoc,hbv,hemp]; rfl) (by simp only [go_sem])
   ·have hemp:m.2.isEmpty=false:=by simpa using a2
    simp only [go_sem,Zf6,Zjv,p0,p1,q0,q1,hlsl,hget,hmsl,hmsi,Zyv,a2]
    refine Zaa (rvalid' (by omega)) (by simp only [go_sem]) ?_
    simp only [go_sem,Zjx,e1]
    exact fin (okB m.2) _ (by rw [tk, ← Bool.and_assoc,hbv,hemp]; simp) (by simp only [go_sem])
 ·have hke:k=n.mv.length:=by omega
  subst hke
  have q1:¬ ((n.mv.length:Nat):Int)<(n.mv.length:Int):=by omega
  rw [List.take_length]
  simp only [go_sem,Zf6,p0,p1,hlsl,hget,hmsl,q1]
  exact hK _ (by simp only [go_sem]) (by simp only [go_sem]) (by simp only [go_sem]) (by simp only [go_sem])
theorem Xcl {ls:List AV}{d:ByteArray}{L:List Nd}{b:Bool}(hls:ls=L.map ndAV) (hll:L.length≤1000000) (hok:∀ n,n∈L→n.rew.length≤23∧n.mv.length≤7∧∀ m,m∈n.mv→m.2.length≤23) {K:Ex→St→Prop}
  (hK:∀ e:Nat→AV,e 0 = .sl ls→e 1 = .str d→e 7 = .bool (b && L.all ndVa)→K (.exit 0) ⟨e,[]⟩) :
  T Tryz.prog 109 0 (.loop Zju) ⟨envL [(0,.sl ls),(1,.str d),(7,.bool b),(8,.int .i64 0)],[]⟩ K:=by
 have hlsl:ls.length=L.length:=by rw [hls,List.length_map]
 refine Zfy (fun i:Nat=>⟨envL [(0,.sl ls),(1,.str d),(7,.bool (b && (L.take i).all ndVa)),(8,.int .i64 (i:Int))],[]⟩)
  (fun i=>i≤L.length) (fun i=>L.length - i) 0 (by omega) (Zab _ (by simp only [go_sem]; simp)) (fun i hi N hN=>?_)
 unfold Zju
 by_cases hin:i<L.length
 ·obtain ⟨n,hn⟩:∃ n,L[i]? = some n:=⟨_,List.getElem?_eq_getElem hin⟩
  obtain ⟨o1,o2,o3⟩:=hok n (List.mem_of_getElem? hn)
  have tk:(L.take (i+1)).all ndVa=((L.take i).all ndVa && (okB n.rew && vaM n.mv)):=by rw [List.take_add_one,hn]; simp [ndVa]
  have hget:ls[i]? = some (.agg [.int .i64 n.kind,.str (bs n.rew),.sl (n.mv.map mvAV)]):=by rw [hls,List.getElem?_map,hn]; rfl
  have q0:(0:Int)≤(i:Int):=by omega
  have q1:(i:Int)<(L.length:Int):=by omega
  have e1:IntKind.i64.wrap ((i:Int)+1)=((i+1:Nat):Int):=by rw [Zac (by omega) (by omega)]; omega
  generalize (L.take i).all ndVa=v at *
  have rest:∀ (x:Bool) (e:Nat→AV),x=(b && v && okB n.rew)→Has e [(0,.sl ls),(1,.str d),(7,.bool x),(8,.int .i64 (i:Int)),(9,.int .i64 0)] →
    T Tryz.prog 109 0 (.loop Zj2) ⟨e,[]⟩ (blockQ 2 (blockQ 1 (thenQ (goT Tryz.prog 109 0 (.rg false Zhs) (thenQ N K)) (thenQ N K)))):=fun x e hx he=>by
   refine T_le (Zab _ he) (Xf2 hls hll hn o2 o3 (fun e k0 k1 k7 k8=>?_))
   show T Tryz.prog 109 0 (.rg false Zhs) _ _
   refine T_W ?_
   simp only [go_sem,Zhs,k8,e1]
   refine hN (i+1) _ (by omega) (by omega) (Zab _ ?_)
   simp only [go_sem,k0,k1,k7]
   rw [tk,hx]; simp [Bool.and_assoc]
  refine Za9 1 rfl ?_
  cases hbv:(b && v) with
  | false =>
   rw [hbv] at rest
   simp only [go_sem,Zkd,Zqe,Zsk,q0,q1,hlsl]
   exact rest false _ rfl (by simp only [go_sem])
  | true =>
   rw [hbv] at rest
   simp only [go_sem,Zkd,Zqe,q0,q1,hlsl,hget]
   refine Zaa (rvalid' (by omega)) (by simp only [go_sem]) ?_
   simp only [go_sem,Zsk]
   exact rest (okB n.rew) _ rfl (by simp only [go_sem])
 ·have hie:i=L.length:=by omega
  subst hie
  have q1:¬ ((L.length:Nat):Int)<(L.length:Int):=by omega
  refine T_W ?_
  rw [List.take_length]
  simp only [go_sem,Zkd,hlsl,q1]
  exact hK _ (by simp only [go_sem]) (by simp only [go_sem]) (by simp only [go_sem])
theorem Xd4 {ls:List AV}{L:List Nd}{b:Bool}(hls:ls=L.map ndAV) (hll:L.length≤1000000) (hok:∀ n,n∈L→n.rew.length≤23∧n.mv.length≤7∧∀ m,m∈n.mv→m.2.length≤23) (hv:L.all ndVa=true) {K:Ex→St→Prop}
  (hK:∀ e:Nat→AV,e 10 = .bool (b && L.all (ndFi L.length))→K (.exit 4) ⟨e,[]⟩) :
  T Tryz.prog 109 0 (.loop Zdl) ⟨envL [(0,.sl ls),(10,.bool b),(11,.int .i64 0)],[]⟩ K:=by
 have hlsl:ls.length=L.length:=by rw [hls,List.length_map]
 refine Zad (fun i:Nat=>⟨envL [(0,.sl ls),(10,.bool (b && (L.take i).all (ndFi L.length))),(11,.int .i64 (i:Int))],[]⟩)
  (fun i=>i≤L.length) (fun i=>L.length - i) 0 (by omega) (Zab _ (by simp only [go_sem]; simp)) (fun i hi N hN=>?_)
 unfold Zdl
 by_cases hin:i<L.length
 ·obtain ⟨n,hn⟩:∃ n,L[i]? = some n:=⟨_,List.getElem?_eq_getElem hin⟩
  have hnm:=List.mem_of_getElem? hn
  obtain ⟨o1,o2,o3⟩:=hok n hnm
  have tk:(L.take (i+1)).all (ndFi L.length)=((L.take i).all (ndFi L.length) && ndFi L.length n):=by rw [List.take_add_one,hn]; simp
  have hget:ls[i]? = some (ndAV n):=by rw [hls,List.getElem?_map,hn]; rfl
  have hnd:=rnode (ls:=ls) (by omega) o1 o2 o3 (List.all_eq_true.1 hv n hnm)
  rw [hlsl] at hnd
  have hA:ndAV n = .agg [.int .i64 n.kind,.str (bs n.rew),.sl (n.mv.map mvAV)]:=rfl
  have q0:(0:Int)≤(i:Int):=by omega
  have q1:(i:Int)<(L.length:Int):=by omega
  have e1:IntKind.i64.wrap ((i:Int)+1)=((i+1:Nat):Int):=by rw [Zac (by omega) (by omega)]; omega
  generalize (L.take i).all (ndFi L.length)=v at *
  have fin:∀ (x:Bool) (e:Nat→AV),x=(b && (L.take (i+1)).all (ndFi L.length))→Has e [(0,.sl ls),(10,.bool x),(11,.int .i64 ((i+1:Nat):Int))]→N ⟨e,[]⟩:=fun x e hx he=>by
   refine hN (i+1) _ (by omega) (by omega) (Zab _ ?_)
   rw [← hx]; exact he
  cases hbv:(b && v) with
  | false =>
   simp only [go_sem,Zhm,Zm3,Znm,q0,q1,hlsl,e1]
   exact fin false _ (by rw [tk, ← Bool.and_assoc,hbv]; rfl) (by simp only [go_sem])
  | true =>
   rw [hA] at hget hnd
   simp only [go_sem,Zhm,Zm3,q0,q1,hlsl,hget]
   refine Zaa hnd (by simp only [go_sem]) ?_
   simp only [go_sem,Znm,e1]
   exact fin (ndFi L.length n) _ (by rw [tk, ← Bool.and_assoc,hbv]; rfl) (by simp only [go_sem])
 ·have hie:i=L.length:=by omega
  subst hie
  have q1:¬ ((L.length:Nat):Int)<(L.length:Int):=by omega
  rw [List.take_length]
  simp only [go_sem,Zhm,hlsl,q1]
  exact hK _ (by simp only [go_sem])
def chkC (L:List Nd) (d:List UInt8) (M:List (List UInt8)):Int :=
 if (okB d && (M.all okB) && L.all ndVa)=false then 2 else if gFit L d=false then 1 else 0
theorem rcheck {L:List Nd}{d:List UInt8}{M:List (List UInt8)}(hll:L.length≤1000000) (hok:∀ n,n∈L→n.rew.length≤23∧n.mv.length≤7∧∀ m,m∈n.mv→m.2.length≤23) (hd:d.length≤23) (hM:M.length≤1000) (hMl:∀ s,s∈M→s.length≤1000000000) :
  SpecV Tryz.prog Yfl [.sl (L.map ndAV),.str (bs d),.sl (M.map strAV)] (.int .i64 (chkC L d M)):=by
 obtain ⟨ls,hls⟩:∃ ls,ls=L.map ndAV:=⟨_,rfl⟩
 obtain ⟨nm,hnm⟩:∃ nm,nm=M.map strAV:=⟨_,rfl⟩
 have hlsl:ls.length=L.length:=by rw [hls,List.length_map]
 have hn:=rnums (L:=M) (by omega) hMl
 have hnE:numsE M=if M.all okB=true then 0 else 2:=rfl
 rw [← hls, ← hnm]
 rw [← hnm] at hn
 have tail:∀ (e:Nat→AV),e 0 = .sl ls→e 1 = .str (bs d)→okB d=true→M.all okB=true→L.all ndVa=true →
   T Tryz.prog 109 0 (.seq (.rg false Zhw) (.seq (.seq (.rg false Zec) (.block 4 (.loop Zdl))) (.seq (.seq (.rg false Zb4) (.cond (.t 108) (.seq (.rg false Zc4) .ret) .skip)) (.seq (.rg false Zc1) .ret)))) ⟨e,[]⟩ (retQ [.tmp 6] (.int .i64 (chkC L d M))):=fun e k0 k1 h1 h2 h3=>by
  have hc:chkC L d M=if gFit L d=false then 1 else 0:=by unfold chkC; rw [h1,h2,h3]; rfl
  rw [hc]
  obtain ⟨q,hq⟩:∃ q,parseL d=some q:=⟨_,okBq h1⟩
  have hg:gFit L d=(decide (1≤L.length∧L.length≤10) && smallB d && decide (0≤q) && decide (q<1) && L.all (ndFi L.length)):=by
   unfold gFit disF
   rw [hq]
   cases decide (1≤L.length∧L.length≤10) <;> cases L.all (ndFi L.length) <;> simp [Bool.and_assoc]
  have hsh:=rshort (l:=d) (n:=12) (by omega) (by omega)
  rw [← Z98 h1] at hsh
  have hof:=rof (by omega) hq
  rw [Zaq] at hof
  have hoq:SpecV Tryz.prog Zza [.str (bs d)] (.agg (rq q)):=hof
  have hqb:=Zkh hq hd
  have bvsr:∀ {H ids} {q:Rat},BVs H ids (rq q) (rq q)=True:=fun {H ids q}=>by unfold rq rc; simp only [go_sem]
  have w1:SpecV Tryz.prog Ze3 [.int .i64 1] (.agg (rq 1)):=rwhole (v:=1) (by decide)
  have hcm:=Y2z (k:=100) (hqb.mono (by omega)) (Qb.one (k:=100) (by omega)) (by omega)
  have rest:∀ (x:Bool) (e:Nat→AV),x=(decide (1≤L.length∧L.length≤10) && smallB d && decide (0≤q) && decide (q<1))→e 0 = .sl ls→e 10 = .bool x →
    T Tryz.prog 109 0 (.seq (.seq (.rg false Zec) (.block 4 (.loop Zdl))) (.seq (.seq (.rg false Zb4) (.cond (.t 108) (.seq (.rg false Zc4) .ret) .skip)) (.seq (.rg false Zc1) .ret))) ⟨e,[]⟩ (retQ [.tmp 6] (.int .i64 (if gFit L d=false then 1 else 0))):=fun x e hx k0 k10=>by
   refine Zau (Zau (T_W ?_))
   simp only [go_sem,Zec]
   refine Zat (Zap [(0,.sl ls),(10,.bool x),(11,.int .i64 0)] (by simp only [go_sem,k0,k10]) (Xd4 hls hll hok h3 (fun e k10=>?_)))
   show T Tryz.prog 109 0 (.seq (.seq (.rg false Zb4) (.cond (.t 108) (.seq (.rg false Zc4) .ret) .skip)) (.seq (.rg false Zc1) .ret)) _ _
   rw [hx, ← hg] at k10
   refine T_W ?_
   cases hgf:gFit L d with
   | false=>simp only [go_sem,Zb4,Zc4,k10,hgf]
   | true=>simp only [go_sem,Zb4,Zc1,k10,hgf]
  refine Za9 0 rfl ?_
  simp only [go_sem,Zhw,k0,k1,hlsl]
  by_cases a1:(1:Int)≤(L.length:Int)∧(L.length:Int)≤10
  ·have b1:decide (1≤L.length∧L.length≤10)=true:=decide_eq_true (by omega)
   refine Zaa (Y2b a1) (by simp only [go_sem]) ?_
   simp only [go_sem,k0,k1]
   refine Zaa hsh (by simp only [go_sem]) ?_
   cases hsv:smallB d with
   | false =>
    simp only [go_sem]
    exact rest false _ (by rw [hsv,b1]; rfl) (by simp only [go_sem,k0]) (by simp only [go_sem])
   | true =>
    simp only [go_sem,k0,k1]
    refine Zaa hof (by simp only [go_sem]) ?_
    simp only [go_sem,k0,k1]
    refine Zaa (Yss (z:=q.num)) (by simp only [go_sem,Zai]) ?_
    have hz:(q.num<0)=(q<0):=propext (by rw [Rat.lt_iff]; simp)
    by_cases s0:q<0
    ·have c1:¬ (0:Int)≤(if q.num=0 then (0:Int) else if q.num<0 then -1 else 1):=by
      rw [← hz] at s0
      rw [if_neg (by omega),if_pos s0]; decide
     have b2:decide (0≤q)=false:=decide_eq_false (by grind)
     simp only [go_sem,c1]
     exact rest false _ (by rw [hsv,b1,b2]; rfl) (by simp only [go_sem,k0]) (by simp only [go_sem])
    ·have c1:(0:Int)≤(if q.num=0 then (0:Int) else if q.num<0 then -1 else 1):=by
      rw [← hz] at s0
      split <;> first | decide | (rw [if_neg s0]; decide)
     have b2:decide (0≤q)=true:=decide_eq_true (by grind)
     simp only [go_sem,c1,k0,k1]
     refine Zaa hoq (by simp only [go_sem]) ?_
     simp only [go_sem]
     refine Zaa w1 (by simp only [go_sem]) ?_
     simp only [go_sem]
     refine Zaa hcm (by simp only [go_sem,bvsr]) ?_
     have hlt:(cmpR q 1<0)=(q<1):=propext (by unfold cmpR; constructor <;> intro h <;> grind)
     by_cases s1:q<1
     ·have c2:cmpR q 1<0:=by rw [hlt]; exact s1
      simp only [go_sem,c2]
      exact rest true _ (by rw [hsv,b1,b2,decide_eq_true s1]; rfl) (by simp only [go_sem,k0]) (by simp only [go_sem])
     ·have c2:¬ cmpR q 1<0:=by rw [hlt]; exact s1
      simp only [go_sem,c2]
      exact rest false _ (by rw [hsv,b1,b2,decide_eq_false s1]; rfl) (by simp only [go_sem,k0]) (by simp only [go_sem])
  ·have b1:decide (1≤L.length∧L.length≤10)=false:=decide_eq_false (by omega)
   refine Zaa (Y3l a1) (by simp only [go_sem]) ?_
   simp only [go_sem]
   exact rest false _ (by rw [b1]; rfl) (by simp only [go_sem,k0]) (by simp only [go_sem])
 have mid:∀ (x:Bool) (e:Nat→AV),x=(okB d && M.all okB)→e 0 = .sl ls→e 1 = .str (bs d)→e 7 = .bool x →
   T Tryz.prog 109 0 (.seq (.seq (.rg false Zrj) (.block 0 (.loop Zju))) (.seq (.seq (.rg false Zed) (.cond (.t 70) (.seq (.rg false Zib) .ret) .skip)) (.seq (.rg false Zhw) (.seq (.seq (.rg false Zec) (.block 4 (.loop Zdl))) (.seq (.seq (.rg false Zb4) (.cond (.t 108) (.seq (.rg false Zc4) .ret) .skip)) (.seq (.rg false Zc1) .ret)))))) ⟨e,[]⟩ (retQ [.tmp 6] (.int .i64 (chkC L d M))):=fun x e hx k0 k1 k7=>by
  refine Zau (Zau (T_W ?_))
  simp only [go_sem,Zrj]
  refine Zat (Zap [(0,.sl ls),(1,.str (bs d)),(7,.bool x),(8,.int .i64 0)] (by simp only [go_sem,k0,k1,k7]) (Xcl hls hll hok (fun e k0 k1 k7=>?_)))
  show T Tryz.prog 109 0 (.seq (.seq (.rg false Zed) (.cond (.t 70) (.seq (.rg false Zib) .ret) .skip)) _) _ _
  rw [hx] at k7
  cases hv:(okB d && M.all okB && L.all ndVa) with
  | false =>
   have hc:chkC L d M=2:=by unfold chkC; rw [hv]; rfl
   rw [hc]
   rw [hv] at k7
   refine Za9 0 rfl ?_
   simp only [go_sem,Zed,Zib,k7]
  | true =>
   rw [hv] at k7
   simp only [Bool.and_eq_true] at hv
   refine Za9 0 rfl ?_
   simp only [go_sem,Zed,k7]
   exact tail _ (by simp only [go_sem,k0]) (by simp only [go_sem,k1]) hv.1.1 hv.1.2 hv.2
 refine Za0 Yqg (by simp) (Za9 1 rfl ?_)
 unfold Yjd
 simp only [go_sem,Z6o,Z5u]
 refine Zaa (rvalid' (by omega)) (by simp only [go_sem]) ?_
 cases hb:okB d with
 | false =>
  simp only [go_sem]
  exact mid false _ (by rw [hb]; rfl) (by simp only [go_sem]) (by simp only [go_sem]) (by simp only [go_sem])
 | true =>
  simp only [go_sem]
  refine Zaa hn (by simp only [go_sem]) ?_
  rw [hnE]
  cases hm:M.all okB with
  | false =>
   simp only [go_sem]
   exact mid false _ (by rw [hm]; simp) (by simp only [go_sem]) (by simp only [go_sem]) (by simp only [go_sem])
  | true =>
   simp only [go_sem]
   exact mid true _ (by rw [hb,hm]; rfl) (by simp only [go_sem]) (by simp only [go_sem]) (by simp only [go_sem])
end GoAbs
namespace GoAbs
open Go Go.Proofs
open Classical in
noncomputable def cntP {α:Type} (L:List α) (P:α→Prop):Nat:=L.countP (fun x=>decide (P x))
theorem Y1c {α:Type}{P Q:α→Prop}:∀ {L:List α},(∀ x,x∈L→P x→Q x)→cntP L P≤cntP L Q
 | [],_=>Nat.le_refl _
 | x::L,h=>by
  have ih:=Y1c (P:=P) (Q:=Q) (L:=L) (fun y hy=>h y (List.mem_cons_of_mem _ hy))
  have hx:=h x List.mem_cons_self
  unfold cntP at *
  rw [List.countP_cons,List.countP_cons]
  by_cases hp:P x
  ·simp only [hp,hx hp,decide_true,if_true]; omega
  ·by_cases hq:Q x <;> simp [hp,hq] <;> omega
theorem Y43 {α:Type}{P Q:α→Prop}:∀ {L:List α},(∀ x,x∈L→P x→Q x)→(∃ x,x∈L∧Q x∧¬ P x)→cntP L P<cntP L Q
 | [],_,h=>by obtain ⟨x,hx,_⟩:=h; simp at hx
 | x::L,h,⟨y,hy,hq,hp⟩=>by
  have hL:=fun y hy=>h y (List.mem_cons_of_mem x hy)
  have hx:=h x List.mem_cons_self
  rcases List.mem_cons.1 hy with rfl | hy
  ·have ih:=Y1c (P:=P) (Q:=Q) hL
   unfold cntP at *
   rw [List.countP_cons,List.countP_cons]
   simp [hp,hq]; omega
  ·have ih:=Y43 (P:=P) (Q:=Q) hL ⟨y,hy,hq,hp⟩
   unfold cntP at *
   rw [List.countP_cons,List.countP_cons]
   by_cases hp:P x
   ·simp only [hp,hx hp,decide_true,if_true]; omega
   ·by_cases hq:Q x <;> simp [hp,hq] <;> omega
def allP:List GN→List (List Int)
 | [] => [[]]
 | x::r=>(List.range x.to.length).flatMap fun (k:Nat)=>(allP r).map fun q=>(k:Int)::q
theorem Yu1:∀ {ns:List GN}{p:List Int},p.length=ns.length→(∀ i,i<ns.length→0≤p.getD i 0∧p.getD i 0<((ns.getD i default).to.length:Int))→p∈allP ns
 | [],p,hl,_=>by
  cases p with
  | nil=>simp [allP]
  | cons a p=>simp at hl
 | x::r,p,hl,h=>by
  cases p with
  | nil=>simp at hl
  | cons a p =>
   have h0:=h 0 (by simp)
   have ht:=Yu1 (ns:=r) (p:=p) (by simpa using hl) (fun i hi=>by
    have:=h (i+1) (by simp; omega)
    simpa using this)
   simp at h0
   unfold allP
   rw [List.mem_flatMap]
   refine ⟨a.toNat,by rw [List.mem_range]; omega,?_⟩
   rw [List.mem_map]
   exact ⟨p,ht,by rw [Int.toNat_of_nonneg h0.1]⟩
theorem POk0.mem {g:Gm}{p:List Int}(h:POk0 g p):p∈allP g.nodes:=Yu1 h.1 h.2
theorem Xfh {a:Rat}{who:Nat}:cmpR a a≠sgn who:=by
 unfold cmpR sgn
 rw [if_neg (by grind),if_neg (by grind)]
 split <;> decide
theorem Yt8 {g:Gm}{v:List Rat}{who:Nat}{p:List Int}:betC g v who (betP g v who p)=false:=by
 unfold betC
 rw [List.any_eq_false]
 intro i hi
 have hi:i<g.nodes.length:=by simpa using hi
 have e:pget (betP g v who p) i=if bet1 g v who p i=true then bestA v (nodeAt g i).to (sgn who) else pget p i:=by
  unfold pget
  rw [Zrr hi]
  unfold betI
  split <;> simp
 by_cases hb:bet1 g v who p i=true
 ·rw [if_pos hb] at e
  unfold bet1
  rw [e]
  simp [Xfh]
 ·rw [if_neg hb] at e
  have:bet1 g v who (betP g v who p) i=bet1 g v who p i:=by unfold bet1; rw [e]
  rw [this]
  exact hb
theorem Y1b {g:Gm}(hd:g.d=0) {p:List Int}{v:List Rat}(h:PVal g p v) (hr:g.rew.length=g.nodes.length):v=g.rew:=by
 refine Zmo (by rw [h.1,hr]) (fun i hi=>?_)
 rw [h.2 i (by omega)]
 unfold planV
 rw [hd]; grind
open Classical in
noncomputable def mIn (g:Gm) (V:List Int→List Rat) (p:List Int):Nat :=
 2*cntP (allP g.nodes) (fun q=>Ltv g.nodes.length (V q) (V p))+(if betC g (V p) 2 p=true then 1 else 0)
theorem Xj8 {g:Gm}(hg:GmP g) (h:g.d≠0):0<g.d:=by have:=hg.d0; grind
theorem Xjq {g:Gm}(hg:GmP g) {V:List Int→List Rat}(hV:∀ q,POk0 g q→PVal g q (V q)) {p:List Int}(hp:POk0 g p) (hc:betC g (V p) 2 p=true):mIn g V (betP g (V p) 2 p)<mIn g V p:=by
 have hq:=Ye6 hg (v:=V p) (who:=2) hp
 unfold mIn
 rw [if_pos hc]
 by_cases hd:g.d=0
 ·have e1:=Y1b hd (hV p hp) hg.ok.rew
  have e2:=Y1b hd (hV _ hq) hg.ok.rew
  have hi:=Yt8 (g:=g) (v:=V p) (who:=2) (p:=p)
  rw [e2,e1] at *
  rw [if_neg (by rw [hi]; decide)]
  omega
 ·have hl:=better2 hg hp (hV p hp) (Xj8 hg hd) hc (hV _ hq)
  have:=Y43 (L:=allP g.nodes) (P:=fun q=>Ltv g.nodes.length (V q) (V (betP g (V p) 2 p))) (Q:=fun q=>Ltv g.nodes.length (V q) (V p)) (fun q _ h=>h.trans hl) ⟨_,hq.mem,hl,fun h=>h.irrefl⟩
  split <;> omega
def Abv (g:Gm) (u:Option (List Rat)) (w:List Rat):Prop:=g.d=0∨match u with | none=>True | some u=>Ltv g.nodes.length u w
noncomputable def mOut (g:Gm) (V:List Int→List Rat) (s:Option (List Rat)×List Int):Nat :=
 2*cntP (allP g.nodes) (fun q=>Abv g s.1 (V q))+(if betC g g.rew 1 s.2=true then 1 else 0)
def OutI (g:Gm) (V:List Int→List Rat) (s:Option (List Rat)×List Int):Prop:=POk0 g s.2∧∀ q,POk0 g q→Same1 g q s.2→Abv g s.1 (V q)
theorem Yzt {g:Gm}{v:List Rat}{p q:List Int}(h:Same1 g p q):betC g v 1 p=betC g v 1 q:=by
 unfold betC
 rw [Bool.eq_iff_iff,List.any_eq_true,List.any_eq_true]
 have e:∀ i,i<g.nodes.length→bet1 g v 1 p i=bet1 g v 1 q i:=fun i hi=>by
  unfold bet1
  by_cases h1:(nodeAt g i).kind=1
  ·unfold pget; rw [h i hi h1]
  ·simp [h1]
 constructor
 ·rintro ⟨i,hi,hb⟩
  exact ⟨i,hi,by rw [← e i (by simpa using hi)]; exact hb⟩
 ·rintro ⟨i,hi,hb⟩
  exact ⟨i,hi,by rw [e i (by simpa using hi)]; exact hb⟩
theorem Xa4 {g:Gm}(hg:GmP g) {V:List Int→List Rat}(hV:∀ q,POk0 g q→PVal g q (V q)) {s:Option (List Rat)×List Int}(hs:OutI g V s) {p:List Int}(hp:POk0 g p) (hsm:Same1 g p s.2) (h2:betC g (V p) 2 p=false) (h1:betC g (V p) 1 p=true) :
  OutI g V (some (V p),betP g (V p) 1 p)∧mOut g V (some (V p),betP g (V p) 1 p)<mOut g V s:=by
 have hq:=Ye6 hg (v:=V p) (who:=1) hp
 by_cases hd:g.d=0
 ·have e1:=Y1b hd (hV p hp) hg.ok.rew
  refine ⟨⟨hq,fun q _ _ => .inl hd⟩,?_⟩
  have hi:=Yt8 (g:=g) (v:=V p) (who:=1) (p:=p)
  have hb:betC g g.rew 1 s.2=true:=by rw [← Yzt hsm, ← e1]; exact h1
  unfold mOut
  rw [if_pos hb]
  have hi':betC g g.rew 1 (betP g (V p) 1 p)=false:=by rw [← e1]; exact hi
  rw [show (some (V p),betP g (V p) 1 p).2=betP g (V p) 1 p from rfl,if_neg (by rw [hi']; decide)]
  have:=Y1c (L:=allP g.nodes) (P:=fun q=>Abv g (some (V p),betP g (V p) 1 p).1 (V q)) (Q:=fun q=>Abv g s.1 (V q)) (fun q _ _ => .inl hd)
  omega
 ·have hdp:=Xj8 hg hd
  refine ⟨⟨hq,fun q hq hs => .inr (better1 hg hp (hV p hp) hdp h2 h1 hq hs (hV q hq))⟩,?_⟩
  have ha:=hs.2 p hp hsm
  have:=Y43 (L:=allP g.nodes) (P:=fun q=>Abv g (some (V p),betP g (V p) 1 p).1 (V q)) (Q:=fun q=>Abv g s.1 (V q)) (fun q _ h=>by
    refine h.elim (fun h=>absurd h hd) (fun h=>?_)
    refine ha.elim (fun h=>absurd h hd) (fun ha => .inr ?_)
    cases hu:s.1 with
    | none=>trivial
    | some u=>rw [hu] at ha; exact Ltv.trans ha h) ⟨p,hp.mem,ha,fun h=>h.elim (fun h=>hd h) (fun h=>Ltv.irrefl h)⟩
  unfold mOut
  split <;> omega
end GoAbs
namespace GoAbs
open Go Go.Proofs
def Dom (m c k:Nat) (M:RM):Prop:=∀ i,c≤i→i<m→(∀ j,c≤j→j<m→j≠i→mget M i j≤0)∧0<sumL (List.range' (c+1) k) (fun j=>mget M i (j - 1))
theorem Yf3 {R:List Nat}{f:Nat→Rat}(h:∀ i,i∈R→f i≤0):sumL R f≤0:=by
 have h1:=Ys1 (R:=R) (f:=fun i => -1*f i) (fun i hi=>by have:=h i hi; grind)
 rw [Zey] at h1
 grind
theorem Yxr {R:List Nat}{f:Nat→Rat}{a:Nat}(hn:R.Nodup) (ha:a∈R) (h:∀ i,i∈R→i≠a→f i≤0):sumL R f≤f a:=by
 induction R with
 | nil=>simp at ha
 | cons b R ih =>
  rw [List.nodup_cons] at hn
  rw [Zaw]
  rcases List.mem_cons.1 ha with rfl | ha'
  ·have:=Yf3 (R:=R) (f:=f) (fun i hi=>h i (List.mem_cons_of_mem _ hi) (fun e=>hn.1 (e ▸ hi)))
   grind
  ·have h1:=ih hn.2 ha' (fun i hi=>h i (List.mem_cons_of_mem _ hi))
   have h2:=h b List.mem_cons_self (fun e=>hn.1 (e ▸ ha'))
   grind
theorem Dom.pos {m c k:Nat}{M:RM}(h:Dom m c k M) (hk:c+k=m) {i:Nat}(h1:c≤i) (h2:i<m):0<mget M i i:=by
 obtain ⟨a,b⟩:=h i h1 h2
 have:=Yxr (R:=List.range' (c+1) k) (f:=fun j=>mget M i (j - 1)) (a:=i+1) List.nodup_range' (by rw [List.mem_range'_1]; omega) (fun j hj hne=>by
  have hj':=List.mem_range'_1.1 hj
  exact a (j - 1) (by omega) (by omega) (by omega))
 rw [Nat.add_sub_cancel] at this
 grind
theorem Xh3 {a b:Rat}(ha:a≤0) (hb:0<b):a / b≤0:=by
 have h1:=Rat.inv_pos.2 hb
 have:=Rat.mul_nonneg (show 0 ≤ -a by grind) (Rat.le_of_lt h1)
 rw [Rat.div_def]
 grind
theorem Dom.elim {m c k:Nat}{M:RM}(h:Dom m c (k+1) M) (hk:c+(k+1)=m) (hM:M.length=m) (hW:Wid (m+1) M):Dom m (c+1) k (elimCol M c M.length):=fun i h1 h2=>by
 have hp:=h.pos hk (Nat.le_refl c) (by omega)
 have h0:mget M c c≠0:=fun e=>by rw [e] at hp; exact absurd hp (by decide)
 obtain ⟨a,b⟩:=h i (by omega) h2
 obtain ⟨a',b'⟩:=h c (Nat.le_refl _) (by omega)
 have hq:=Xh3 (a c (Nat.le_refl _) (by omega) (by omega)) hp
 refine ⟨fun j hj hjm hji=>?_,?_⟩
 ·rw [Zwi hW (by omega) (by omega) (by omega) (by omega) h0]
  have x1:=a j (by omega) hjm hji
  have x2:=a' j (by omega) hjm (by omega)
  have x3:=Rat.mul_nonneg (show 0 ≤ -(mget M i c / mget M c c) by grind) (show 0 ≤ -mget M c j by grind)
  have x4:mget M i c*mget M c j / mget M c c=mget M i c / mget M c c*mget M c j:=by grind
  grind
 ·have e1:sumL (List.range' (c+1+1) k) (fun j=>mget (elimCol M c M.length) i (j - 1))=sumL (List.range' (c+1+1) k) (fun j=>mget M i (j - 1))+(-(mget M i c / mget M c c))*sumL (List.range' (c+1+1) k) (fun j=>mget M c (j - 1)):=by
   rw [← Zey, ← Zy1]
   refine Zas (fun j hj=>?_)
   have hj':=List.mem_range'_1.1 hj
   rw [Zwi hW (by omega) (by omega) (by omega) (by omega) h0]
   grind
  rw [e1]
  rw [List.range'_succ,Zaw,Nat.add_sub_cancel] at b b'
  have x1:=Rat.mul_nonneg (show 0 ≤ -(mget M i c / mget M c c) by grind) (Rat.le_of_lt b')
  have x2:mget M i c / mget M c c*mget M c c=mget M i c:=by grind
  generalize sumL (List.range' (c+1+1) k) (fun j=>mget M i (j - 1))=s at *
  generalize sumL (List.range' (c+1+1) k) (fun j=>mget M c (j - 1))=t at *
  generalize mget M i c / mget M c c=q at *
  grind
theorem Y4j {m:Nat}:∀ {k c:Nat}{M:RM}{d:Rat},c+k=m→M.length=m→Wid (m+1) M→Dom m c k M →
  NoSw k c M∧(∀ i,c≤i→i<m→mget (tri k c M d).2 i i≠0)∧Wid (m+1) (tri k c M d).2 ∧
  ∀ x:Nat→Rat,(∀ i,c≤i→i<m→sumL (List.range' (i+1) (m - i)) (fun j=>x j*mget (tri k c M d).2 i (j - 1))=mget (tri k c M d).2 i m) →
   ∀ i,c≤i→i<m→sumL (List.range' (c+1) k) (fun j=>x j*mget M i (j - 1))=mget M i m
 | 0,c,M,d,hk,_,hW,_=>⟨trivial,fun i h1 h2=>by omega,hW,fun _ _ i h1 h2=>by omega⟩
 | k+1,c,M,d,hk,hM,hW,hD=>by
  have hp:=hD.pos hk (Nat.le_refl c) (by omega)
  have h0:mget M c c≠0:=fun e=>by rw [e] at hp; exact absurd hp (by decide)
  obtain ⟨i1,i2,i3,i4⟩:=Y4j (m:=m) (k:=k) (c:=c+1) (M:=elimCol M c M.length) (d:=d*mget M c c) (by omega) (by rw [Zbk,hM]) hW.elim (hD.elim hk hM hW)
  unfold tri NoSw
  rw [if_neg h0]
  refine ⟨⟨fun h=>absurd h h0,fun _=>i1⟩,fun i h1 h2=>?_,i3,fun x hx=>?_⟩
  ·by_cases hi:i=c
   ·rw [hi,Ynj (by omega),Zim (by omega)]; exact h0
   ·exact i2 i (by omega) h2
  ·have ih:=i4 x (fun i h1 h2=>hx i (by omega) h2)
   have hc:=hx c (by omega) (by omega)
   rw [show m - c=k+1 by omega,List.range'_succ,Zaw,Ynj (by omega),Ynj (by omega),Zim (by omega),Zim (by omega)] at hc
   have hcs:sumL (List.range' (c+1+1) k) (fun j=>x j*mget (tri k (c+1) (elimCol M c M.length) (d*mget M c c)).2 c (j - 1))=sumL (List.range' (c+1+1) k) (fun j=>x j*mget M c (j - 1)) :=
    Zas (fun j _=>by rw [Ynj (by omega),Zim (by omega)])
   rw [hcs] at hc
   intro i h1 h2
   rw [List.range'_succ,Zaw]
   rw [Nat.add_sub_cancel] at hc ⊢
   by_cases hi:i=c
   ·rw [hi]; exact hc
   ·have hm:=ih i (by omega) h2
    have e1:sumL (List.range' (c+1+1) k) (fun j=>x j*mget (elimCol M c M.length) i (j - 1))=sumL (List.range' (c+1+1) k) (fun j=>x j*mget M i (j - 1))+(-(mget M i c / mget M c c))*sumL (List.range' (c+1+1) k) (fun j=>x j*mget M c (j - 1)):=by
     rw [← Zey, ← Zy1]
     refine Zas (fun j hj=>?_)
     have hj':=List.mem_range'_1.1 hj
     rw [Zwi hW (by omega) (by omega) (by omega) (by omega) h0]
     grind
    rw [e1,Zwi hW (by omega) (by omega) (by omega) (by omega) h0] at hm
    generalize sumL (List.range' (c+1+1) k) (fun j=>x j*mget M i (j - 1))=s at *
    generalize sumL (List.range' (c+1+1) k) (fun j=>x j*mget M c (j - 1))=t at *
    have ht:t=mget M c m - x (c+1)*mget M c c:=by grind
    rw [ht] at hm
    grind
def solvR (n:Nat) (M:RM) (r:List Rat):List Rat:=bsub (tri n 0 (aug M r) 1).2 n n
theorem Z4y {n:Nat}{M:RM}{r:List Rat}(hM:M.length=n) (hW:Wid n M) (hr:r.length=n) (hD:Dom n 0 n M) :
  NoSw n 0 (aug M r)∧(∀ i,i<n→rget ((tri n 0 (aug M r) 1).2.getD i []) i≠0)∧Wid (n+1) (tri n 0 (aug M r) 1).2 ∧
  (solvR n M r).length=n∧∀ i,i<n→sumL (List.range n) (fun j=>rget (solvR n M r) j*mget M i j)=rget r i:=by
 have hm:=fun i (hi:i<n)=>Yu9 hM hW hr hi
 have hD':Dom n 0 n (aug M r):=fun i h1 h2=>by
  obtain ⟨a,b⟩:=hD i h1 h2
  refine ⟨fun j hj hjn hji=>by rw [(hm i h2).1 j hjn]; exact a j hj hjn hji,?_⟩
  rw [Zas (g:=fun j=>mget M i (j - 1)) (fun j hj=>by
   have hj':=List.mem_range'_1.1 hj
   exact (hm i h2).1 (j - 1) (by omega))]
  exact b
 obtain ⟨a1,a2,a3,a4⟩:=Y4j (m:=n) (k:=n) (c:=0) (M:=aug M r) (d:=1) (by omega) (by rw [Z23 (by omega),hM]) (Yec hW) hD'
 refine ⟨a1,fun i hi=>a2 i (by omega) hi,a3,Zyw n,fun i hi=>?_⟩
 have h:=a4 (solX (tri n 0 (aug M r) 1).2 n) (fun i _ hi=>Y68 (n:=n) (fun i hi=>a2 i (by omega) hi) i hi) i (by omega) hi
 rw [(hm i hi).2] at h
 rw [← h,List.range'_eq_map_range,Z48]
 refine Zas (fun j hj=>?_)
 have hj':=List.mem_range.1 hj
 rw [show 0+1+j=j+1 by omega,Yd3,Nat.add_sub_cancel,(hm i hi).1 j hj']
 rfl
end GoAbs
namespace GoAbs
open Go Go.Proofs
def addOdds (d:Rat) (i:Nat) (odds:List Rat) (to:List Nat):Nat→RM→RM
 | 0,M=>M
 | k+1,M=>addAt (addOdds d i odds to k M) i (to.getD k 0) (-(d*rget odds k))
def nodeM (g:Gm) (p:List Int) (M:RM) (i:Nat):RM :=
 if (nodeAt g i).kind=3 then addOdds g.d i (nodeAt g i).odds (nodeAt g i).to (nodeAt g i).to.length (addAt M i i 1) else addAt (addAt M i i 1) i ((nodeAt g i).to.getD (pget p i) 0) (-g.d)
def planM (g:Gm) (p:List Int):Nat→RM
 | 0=>List.replicate g.nodes.length (List.replicate g.nodes.length 0)
 | i+1=>nodeM g p (planM g p i) i
structure Pm (n:Nat) (M:RM):Prop where
 len:M.length=n
 wid:Wid n M
 np:∀ i j,i≠j→mget M i j≤0
def rdot (n:Nat) (M:RM) (i:Nat) (v:List Rat):Rat:=sumL (List.range n) (fun j=>rget v j*mget M i j)
theorem Pm.add {n:Nat}{M:RM}(h:Pm n M) {i j:Nat}{x:Rat}(hi:i<n) (hj:j<n) (hx:i=j∨x≤0):Pm n (addAt M i j x):=by
 refine ⟨by rw [Zcn,h.len],h.wid.addAt,fun a b hab=>?_⟩
 rw [Zkj h.wid (by rw [h.len]; exact hi) hj]
 have:=h.np a b hab
 split
 ·rename_i he
  rcases hx with e | hx
  ·exact absurd (he.1.trans (e.trans he.2.symm)) hab
  ·grind
 ·grind
theorem Yk6 {n:Nat}{M:RM}(h:Pm n M) {i j a:Nat}{x:Rat}{v:List Rat}(hi:i<n) (hj:j<n):rdot n (addAt M i j x) a v=rdot n M a v+if a=i then rget v j*x else 0:=by
 unfold rdot
 have e:∀ b,rget v b*mget (addAt M i j x) a b=rget v b*mget M a b+(if a=i then x else 0)*((if b=j then 1 else 0)*rget v b):=fun b=>by
  rw [Zkj h.wid (by rw [h.len]; exact hi) hj]
  by_cases h1:a=i <;> by_cases h2:b=j <;> simp [h1,h2] <;> grind
 rw [Zas (fun b _=>e b),Zy1,Zey,Yps List.nodup_range,if_pos (List.mem_range.2 hj)]
 split <;> grind
theorem Yjp {n i:Nat}{d:Rat}{odds:List Rat}{to:List Nat}(d0:0≤d) (hi:i<n) (ho:∀ t,t<to.length→0≤rget odds t) (hto:∀ x,x∈to→x<n):∀ {k:Nat}{M:RM},k≤to.length→Pm n M →
  Pm n (addOdds d i odds to k M)∧∀ a v,rdot n (addOdds d i odds to k M) a v=rdot n M a v - if a=i then d*dotW odds v to k else 0
 | 0,M,_,h=>⟨h,fun a v=>by unfold addOdds dotW; split <;> grind⟩
 | k+1,M,hk,h=>by
  obtain ⟨h1,h2⟩:=Yjp (n:=n) (i:=i) (d:=d) (odds:=odds) (to:=to) d0 hi ho hto (k:=k) (M:=M) (by omega) h
  have ht:=hto _ (Zbi (to:=to) (k:=k) (by omega))
  have hx:=Rat.mul_nonneg d0 (ho k (by omega))
  unfold addOdds
  refine ⟨h1.add hi ht (.inr (by grind)),fun a v=>?_⟩
  rw [Yk6 h1 hi ht,h2]
  simp only [dotW]
  split <;> grind
theorem Y8t {g:Gm}(hg:GmP g) {p:List Int}(hp:POk g p) {M:RM}{i:Nat}(hi:i<g.nodes.length) (h:Pm g.nodes.length M) :
  Pm g.nodes.length (nodeM g p M i)∧∀ a v,rdot g.nodes.length (nodeM g p M i) a v=rdot g.nodes.length M a v+if a=i then rget v i - g.d*worthP (nodeAt g i) (pget p i) v else 0:=by
 have hx:=Zbf hi
 have hok:=hg.ok.node _ hx
 have hlt:=hp.lt hi
 have hod:=hg.odds _ hx
 have d0:=hg.d0
 unfold nodeM
 generalize nodeAt g i=x at *
 have h1:=h.add (x:=1) hi hi (.inl rfl)
 have r1:=fun a v=>Yk6 (x:=1) (a:=a) (v:=v) h hi hi
 split
 ·rename_i h3
  have ho:=(hok.odds h3).1
  obtain ⟨a1,a2⟩:=Yjp (n:=g.nodes.length) (i:=i) (d:=g.d) (odds:=x.odds) (to:=x.to) d0 hi (fun t ht=>(hod h3).1 _ (List.mem_of_getElem? (Zag (by omega)))) hok.lt (k:=x.to.length) (Nat.le_refl _) h1
  refine ⟨a1,fun a v=>?_⟩
  rw [a2,r1]
  unfold worthP
  rw [if_pos h3]
  split <;> grind
 ·rename_i h3
  have ht:=hok.lt _ (Zbi (hlt h3))
  refine ⟨h1.add hi ht (.inr (by grind)),fun a v=>?_⟩
  rw [Yk6 h1 hi ht,r1]
  unfold worthP
  rw [if_neg h3]
  split <;> grind
theorem Z6b {g:Gm}(hg:GmP g) {p:List Int}(hp:POk g p):∀ {k:Nat},k≤g.nodes.length →
  Pm g.nodes.length (planM g p k)∧∀ a v,rdot g.nodes.length (planM g p k) a v=if a<k then rget v a - g.d*worthP (nodeAt g a) (pget p a) v else 0
 | 0,_=>by
  have h0:∀ i j,mget (List.replicate g.nodes.length (List.replicate g.nodes.length (0:Rat))) i j=0:=fun i j=>by
   unfold mget rget
   rw [List.getD_eq_getElem?_getD,List.getD_eq_getElem?_getD,List.getElem?_replicate]
   split
   ·rw [Option.getD_some,List.getElem?_replicate]; split <;> rfl
   ·simp
  unfold planM
  refine ⟨⟨List.length_replicate,fun r hr=>by rw [(List.mem_replicate.1 hr).2,List.length_replicate],fun i j _=>by rw [h0]; grind⟩,fun a v=>?_⟩
  unfold rdot
  rw [if_neg (by omega)]
  exact Y1n (fun j _=>by rw [h0]; grind)
 | k+1,hk=>by
  obtain ⟨h1,h2⟩:=Z6b hg hp (k:=k) (by omega)
  obtain ⟨h3,h4⟩:=Y8t hg hp (M:=planM g p k) (i:=k) (by omega) h1
  unfold planM
  refine ⟨h3,fun a v=>?_⟩
  rw [h4,h2]
  by_cases ha:a=k
  ·rw [ha,if_neg (by omega),if_pos rfl,if_pos (by omega)]; grind
  ·rw [if_neg ha]
   by_cases hl:a<k
   ·rw [if_pos hl,if_pos (by omega)]; grind
   ·rw [if_neg hl,if_neg (by omega)]; grind
theorem Zht {n j:Nat}{x:Rat}(h:j<n):rget (List.replicate n x) j=x:=by
 unfold rget
 rw [List.getD_eq_getElem?_getD,List.getElem?_replicate,if_pos h]; rfl
theorem Yur {odds:List Rat}{to:List Nat}{n:Nat}:∀ {k:Nat},k≤to.length→(∀ x,x∈to→x<n)→dotW odds (List.replicate n 1) to k=sumO odds k
 | 0,_,_=>rfl
 | k+1,hk,h=>by
  simp only [dotW,sumO]
  rw [Yur (by omega) h,Zht (h _ (Zbi (by omega)))]
  grind
theorem Yw5 {g:Gm}(hg:GmP g) {p:List Int}(hp:POk g p) {i:Nat}(hi:i<g.nodes.length):worthP (nodeAt g i) (pget p i) (List.replicate g.nodes.length 1)=1:=by
 have hx:=Zbf hi
 have hok:=hg.ok.node _ hx
 have hlt:=hp.lt hi
 have hod:=hg.odds _ hx
 unfold worthP
 split
 ·rename_i h3
  rw [Yur (Nat.le_refl _) hok.lt,(hod h3).2]
 ·rename_i h3
  exact Zht (hok.lt _ (Zbi (hlt h3)))
def valP (g:Gm) (p:List Int):List Rat:=solvR g.nodes.length (planM g p g.nodes.length) g.rew
theorem Zy0 {g:Gm}(hg:GmP g) {p:List Int}(hp:POk g p):Dom g.nodes.length 0 g.nodes.length (planM g p g.nodes.length):=fun i _ hi=>by
 obtain ⟨h1,h2⟩:=Z6b hg hp (Nat.le_refl g.nodes.length)
 refine ⟨fun j _ _ hji=>h1.np i j (fun e=>hji e.symm),?_⟩
 have h3:=h2 i (List.replicate g.nodes.length 1)
 rw [if_pos hi,Yw5 hg hp hi,Zht hi] at h3
 have e:sumL (List.range' (0+1) g.nodes.length) (fun j=>mget (planM g p g.nodes.length) i (j - 1))=rdot g.nodes.length (planM g p g.nodes.length) i (List.replicate g.nodes.length 1):=by
  unfold rdot
  rw [List.range'_eq_map_range,Z48]
  refine Zas (fun j hj=>?_)
  rw [Zht (List.mem_range.1 hj),show 0+1+j - 1=j by omega]
  grind
 rw [e,h3]
 have:=hg.d1
 grind
theorem Zy5 {g:Gm}(hg:GmP g) {p:List Int}(hp:POk g p):PVal g p (valP g p):=by
 obtain ⟨h1,h2⟩:=Z6b hg hp (Nat.le_refl g.nodes.length)
 obtain ⟨_,_,_,h3,h4⟩:=Z4y h1.len h1.wid hg.ok.rew (Zy0 hg hp)
 refine ⟨h3,fun i hi=>?_⟩
 have h5:=h4 i hi
 have h6:=h2 i (valP g p)
 rw [if_pos hi] at h6
 unfold planV
 unfold rdot at h6
 have e:rget g.rew i=rget (valP g p) i - g.d*worthP (nodeAt g i) (pget p i) (valP g p):=by rw [← h6, ← h5]; rfl
 rw [e]; grind
end GoAbs
namespace GoAbs
open Go Go.Proofs
def Zz0:List IOp := [oI 4 (.mv (.c .nils)) 0]
def Znb:List IOp := [mI 13 0 0,oI 14 (.nilck (.t 13)) 0,fI 15 0 14 0,lI 16 15 0,oI 17 (.len (.t 16)) 0,mI 18 0 0,oI 19 (.nilck (.t 18)) 0,fI 20 0 19 0,lI 21 20 0,oI 22 (.len (.t 21)) 0,oI 23 (.callw 104 [.t 17,.t 22]) 0,mI 5 23 0]
@[go_sem ↓] theorem Ycv : autoK Znb = (0, 0) := by kernel_rfl
@[go_sem] theorem Yz0 : autoK [mI 13 0 0, oI 14 (.nilck (.t 13)) 0, fI 15 0 14 0, lI 16 15 0, oI 17 (.len (.t 16)) 0, mI 18 0 0, oI 19 (.nilck (.t 18)) 0, fI 20 0 19 0, lI 21 20 0, oI 22 (.len (.t 21)) 0, oI 23 (.callw 104 [.t 17, .t 22]) 0, mI 5 23 0] = (0, 0) := Ycv
def Zz7:List IOp := [mI 24 0 0,oI 25 (.nilck (.t 24)) 0,fI 26 0 25 0,lI 27 26 0,oI 28 (.len (.t 27)) 0,oI 29 (.mv (cI 0)) 0]
def Zoj:List IOp := [oI 30 (.bin .lss (.t 29) (.t 28)) 0]
def Z1q:List IOp := [mI 31 29 0,xI 32 1 27 29 0,lI 33 32 0,mI 6 31 0,mI 7 33 0]
def Zz6:List IOp := [mI 34 5 0,mI 35 6 0,mI 36 6 0,oI 37 (.call 49 [cI 1]) 0,oI 38 (.call 105 [.t 34,.t 35,.t 36,.t 37]) 0]
def Z19:List IOp := [mI 39 7 0]
def Z13:List IOp := [oI 40 (.ta 129 true (.agg [.nils]) (.t 39)) 0,eI 41 1 40 0,eI 42 0 40 0]
def Zok:List IOp := [oI 8 (.alloc [.nils]) 0,⟨none,.st 1 (.t 8) (.t 42),1,[],[],none⟩]
def Zk7:List IOp := [mI 43 5 0,mI 44 6 0,fI 45 0 8 0,lI 46 45 0,mI 47 1 0,mI 48 6 0,xI 49 1 47 48 0,lI 50 49 0,xI 51 1 46 50 0,lI 52 51 0,mI 53 0 0,oI 54 (.nilck (.t 53)) 0,fI 55 2 54 0,lJ 56 4 55 0,oI 57 (.call 106 [.t 56]) 0,oI 58 (.callw 105 [.t 43,.t 44,.t 52,.t 57]) 0]
@[go_sem ↓] theorem Z8z : autoK Zk7 = (0, 0) := by kernel_rfl
@[go_sem] theorem Yv0 : autoK [mI 43 5 0, mI 44 6 0, fI 45 0 8 0, lI 46 45 0, mI 47 1 0, mI 48 6 0, xI 49 1 47 48 0, lI 50 49 0, xI 51 1 46 50 0, lI 52 51 0, mI 53 0 0, oI 54 (.nilck (.t 53)) 0, fI 55 2 54 0, lJ 56 4 55 0, oI 57 (.call 106 [.t 56]) 0, oI 58 (.callw 105 [.t 43, .t 44, .t 52, .t 57]) 0] = (0, 0) := Z8z
def Zk4:List IOp := [oI 59 (.ta 131 true (.agg [.nils]) (.t 39)) 0,eI 60 1 59 0,eI 61 0 59 0]
def Zxl:List IOp := [oI 9 (.alloc [.nils]) 0,⟨none,.st 1 (.t 9) (.t 61),1,[],[],none⟩]
def Zlu:List IOp := [mI 62 5 0,mI 63 6 0,fI 64 0 9 0,lI 65 64 0,mI 66 1 0,mI 67 6 0,xI 68 1 66 67 0,lI 69 68 0,xI 70 1 65 69 0,lI 71 70 0,mI 72 0 0,oI 73 (.nilck (.t 72)) 0,fI 74 2 73 0,lJ 75 4 74 0,oI 76 (.call 106 [.t 75]) 0,oI 77 (.callw 105 [.t 62,.t 63,.t 71,.t 76]) 0]
@[go_sem ↓] theorem Z8r : autoK Zlu = (0, 0) := by kernel_rfl
@[go_sem] theorem Ywp : autoK [mI 62 5 0, mI 63 6 0, fI 64 0 9 0, lI 65 64 0, mI 66 1 0, mI 67 6 0, xI 68 1 66 67 0, lI 69 68 0, xI 70 1 65 69 0, lI 71 70 0, mI 72 0 0, oI 73 (.nilck (.t 72)) 0, fI 74 2 73 0, lJ 75 4 74 0, oI 76 (.call 106 [.t 75]) 0, oI 77 (.callw 105 [.t 62, .t 63, .t 71, .t 76]) 0] = (0, 0) := Z8r
def Zuu:List IOp := [oI 78 (.ta 140 true (.agg [.nils,.nils]) (.t 39)) 0,eI 79 1 78 0,eI 80 0 78 0]
def Zwm:List IOp := [oI 10 (.alloc [.nils,.nils]) 0,⟨none,.st 2 (.t 10) (.t 80),1,[],[],none⟩]
def Zuy:List IOp := [fI 81 0 10 0,lI 82 81 0,oI 83 (.len (.t 82)) 0,oI 84 (.mv (cI 0)) 0]
def Zlg:List IOp := [oI 85 (.bin .lss (.t 84) (.t 83)) 0]
def Zx8:List IOp := [mI 86 84 0,xI 87 1 82 84 0,lI 88 87 0,mI 11 86 0,mI 12 88 0]
def Zlv:List IOp := [mI 89 5 0,mI 90 6 0,mI 91 12 0,mI 92 0 0,oI 93 (.nilck (.t 92)) 0,fI 94 2 93 0,lJ 95 4 94 0,fI 96 1 10 0,lI 97 96 0,mI 98 11 0,xI 99 4 97 98 0,lJ 100 4 99 0,oI 101 (.call 84 [.t 95,.t 100]) 0,oI 102 (.call 106 [.t 101]) 0,oI 103 (.callw 105 [.t 89,.t 90,.t 91,.t 102]) 0]
@[go_sem ↓] theorem Z8h : autoK Zlv = (0, 0) := by kernel_rfl
@[go_sem] theorem Ywg : autoK [mI 89 5 0, mI 90 6 0, mI 91 12 0, mI 92 0 0, oI 93 (.nilck (.t 92)) 0, fI 94 2 93 0, lJ 95 4 94 0, fI 96 1 10 0, lI 97 96 0, mI 98 11 0, xI 99 4 97 98 0, lJ 100 4 99 0, oI 101 (.call 84 [.t 95, .t 100]) 0, oI 102 (.call 106 [.t 101]) 0, oI 103 (.callw 105 [.t 89, .t 90, .t 91, .t 102]) 0] = (0, 0) := Z8h
def Zys:List IOp := [oI 104 (.bin .add (.t 84) (cI 1)) 0,mI 84 104 0]
def Zod:CC := .seq (.rg false Zlg) (.seq (.cond (.t 85) .skip (.exit 3)) (.seq (.block 4 (.seq (.rg false Zx8) (.rg true Zlv))) (.rg false Zys)))
def Zcc:List IOp := [oI 105 (.bin .add (.t 29) (cI 1)) 0,mI 29 105 0]
def Znh:CC := .seq (.rg false Zoj) (.seq (.cond (.t 30) .skip (.exit 0)) (.seq (.block 1 (.seq (.rg false Z1q) (.seq (.rg false Zz6) (.seq (.rg false Z19) (.block 2 (.seq (.rg false Z13) (.cond (.t 41) (.seq (.rg false Zok) (.rg true Zk7)) (.seq (.rg false Zk4) (.cond (.t 60) (.seq (.rg false Zxl) (.rg true Zlu)) (.seq (.rg false Zuu) (.cond (.t 79) (.seq (.rg false Zwm) (.seq (.rg false Zuy) (.block 3 (.loop Zod)))) .skip))))))))))) (.rg false Zcc)))
def Zku:List IOp := [mI 106 5 0,mI 107 0 0,oI 108 (.nilck (.t 107)) 0,fI 109 1 108 0,lI 110 109 0,oI 111 (.call 107 [.t 106,.t 110]) 0,mI 4 111 0]
def Ygz:CC := .seq (.rg false Zz0) (.seq (.rg true Znb) (.seq (.seq (.rg false Zz7) (.block 0 (.loop Znh))) (.seq (.rg false Zku) .ret)))
abbrev Yof:Nat:=71
theorem Ymx:fnOk Tryz.prog 71=some (112,Ygz,[.tmp 4]):=by kernel_rfl
def Zi4:List IOp := [oI 4 (.mv (.c (.bool false))) 0]
def Zi7:List IOp := [mI 11 1 0,oI 12 (.len (.t 11)) 0,mI 13 0 0,oI 14 (.nilck (.t 13)) 0,fI 15 0 14 0,lI 16 15 0,oI 17 (.len (.t 16)) 0,oI 18 (.bin .neq (.t 12) (.t 17)) 0]
def Zs4:List IOp := [oI 4 (.mv (.c (.bool false))) 0]
def Zts:List IOp := [mI 19 0 0,oI 20 (.nilck (.t 19)) 0,fI 21 0 20 0,lI 22 21 0,oI 23 (.len (.t 22)) 0,oI 24 (.mv (cI 0)) 0]
def Zax:List IOp := [oI 25 (.bin .lss (.t 24) (.t 23)) 0]
def Za8:List IOp := [mI 26 24 0,xI 27 1 22 24 0,lI 28 27 0,mI 5 26 0,mI 6 28 0]
def Za5:List IOp := [oI 7 (.mv (cI 0)) 0]
def Za7:List IOp := [mI 29 6 0]
def Za6:List IOp := [oI 30 (.ta 129 true (.agg [.nils]) (.t 29)) 0,eI 31 1 30 0,eI 32 0 30 0]
def Zdk:List IOp := [oI 8 (.alloc [.nils]) 0,⟨none,.st 1 (.t 8) (.t 32),1,[],[],none⟩]
def Zdm:List IOp := [fI 33 0 8 0,lI 34 33 0,oI 35 (.len (.t 34)) 0,mI 7 35 0]
def Zbs:List IOp := [oI 36 (.ta 131 true (.agg [.nils]) (.t 29)) 0,eI 37 1 36 0,eI 38 0 36 0]
def Zdt:List IOp := [oI 9 (.alloc [.nils]) 0,⟨none,.st 1 (.t 9) (.t 38),1,[],[],none⟩]
def Zds:List IOp := [fI 39 0 9 0,lI 40 39 0,oI 41 (.len (.t 40)) 0,mI 7 41 0]
def Zg8:List IOp := [oI 42 (.ta 140 true (.agg [.nils,.nils]) (.t 29)) 0,eI 43 1 42 0,eI 44 0 42 0]
def Zg2:List IOp := [oI 10 (.alloc [.nils,.nils]) 0,⟨none,.st 2 (.t 10) (.t 44),1,[],[],none⟩]
def Zg5:List IOp := [mI 45 1 0,mI 46 5 0,xI 47 1 45 46 0,lI 48 47 0,oI 49 (.bin .neq (.t 48) (cI (-1))) 0]
def Zo2:List IOp := [oI 4 (.mv (.c (.bool false))) 0]
def Zbg:List IOp := [mI 50 1 0,mI 51 5 0,xI 52 1 50 51 0,lI 53 52 0,oI 54 (.bin .lss (.t 53) (cI 0)) 0,mI 55 54 0,gI 56 (.mv (.t 1)) 0 55 false,gI 57 (.mv (.t 5)) 0 55 false,gI 58 (.idx 1 (.t 56) (.t 57)) 0 55 false,gI 59 (.ld none (.t 58)) 0 55 false,gI 60 (.mv (.t 7)) 0 55 false,gI 61 (.bin .geq (.t 59) (.t 60)) 0 55 false,oI 62 (.pick (.t 55) (.c (.bool true)) (.t 61)) 0]
def Zce:List IOp := [oI 4 (.mv (.c (.bool false))) 0]
def Zdj:List IOp := [oI 63 (.bin .add (.t 24) (cI 1)) 0,mI 24 63 0]
def Zi1:CC := .seq (.rg false Zax) (.seq (.cond (.t 25) .skip (.exit 0)) (.seq (.block 1 (.seq (.rg false Za8) (.seq (.rg false Za5) (.seq (.seq (.rg false Za7) (.block 2 (.seq (.rg false Za6) (.cond (.t 31) (.seq (.rg false Zdk) (.rg false Zdm)) (.seq (.rg false Zbs) (.cond (.t 37) (.seq (.rg false Zdt) (.rg false Zds)) (.seq (.rg false Zg8) (.cond (.t 43) (.seq (.rg false Zg2) (.seq (.seq (.rg false Zg5) (.cond (.t 49) (.seq (.rg false Zo2) .ret) .skip)) (.exit 1))) .skip)))))))) (.seq (.rg false Zbg) (.cond (.t 62) (.seq (.rg false Zce) .ret) .skip)))))) (.rg false Zdj)))
def Zha:List IOp := [oI 4 (.mv (.c (.bool true))) 0]
def Z5o:CC := .seq (.rg false Zi4) (.seq (.seq (.rg false Zi7) (.cond (.t 18) (.seq (.rg false Zs4) .ret) .skip)) (.seq (.seq (.rg false Zts) (.block 0 (.loop Zi1))) (.seq (.rg false Zha) .ret)))
abbrev Yh0:Nat:=70
theorem Yha:fnOk Tryz.prog 70=some (64,Z5o,[.tmp 4]):=by kernel_rfl
def Zhx:List IOp := [oI 6 (.mv (.c .nils)) 0,oI 7 (.mv (cI 0)) 0]
def Zh4:List IOp := [mI 11 0 0,mI 12 1 0,oI 13 (.call 48 [.t 11,.t 12]) 0,mI 10 13 0,eI 14 0 10 0,eI 15 1 10 0,mI 8 14 0,mI 9 15 0]
def Zh8:List IOp := [mI 17 9 0,oI 18 (.bin .neq (.t 17) (cI 0)) 0,mI 16 18 0]
def Z0d:List IOp := [mI 19 9 0,oI 6 (.mv (.c .nils)) 0,mI 7 19 0]
def Zm1:List IOp := [mI 21 8 0,mI 22 2 0,oI 23 (.call 70 [.t 21,.t 22]) 0,oI 24 (.un .not (.t 23)) 0,mI 20 24 0]
def Z2f:List IOp := [oI 6 (.mv (.c .nils)) 0,oI 7 (.mv (cI 1)) 0]
def Z0u:List IOp := [mI 25 8 0,mI 26 2 0,oI 27 (.call 71 [.t 25,.t 26]) 0,oI 28 (.call 51 [.t 27]) 0,eI 29 0 28 0,eI 30 1 28 0,mI 6 29 0,mI 7 30 0]
def Zsr:CC := .seq (.rg false Zhx) (.seq (.rg false Zh4) (.seq (.block 0 (.seq (.rg false Zh8) (.cond (.t 16) (.seq (.rg false Z0d) .ret) (.seq (.rg false Zm1) (.cond (.t 20) (.seq (.rg false Z2f) .ret) .skip))))) (.seq (.rg false Z0u) .ret)))
abbrev Yqf:Nat:=38
theorem Zqn:fnOk Tryz.prog 38=some (31,Zsr,[.tmp 6,.tmp 7]):=by kernel_rfl
def Zlf:List IOp := [mI 10 1 0,lI 11 3 0,mI 12 2 0,oI 13 (.call 76 [.t 10,.t 11,.t 12]) 0,mI 9 13 0]
def Ze7:List IOp := [lI 14 3 0,mI 15 1 0,mI 16 9 0,xI 17 1 15 16 0,lI 18 17 0,xI 19 4 14 18 0,lJ 20 4 19 0,lI 21 3 0,mI 22 1 0,lI 23 4 0,mI 24 0 0,xI 25 1 23 24 0,lI 26 25 0,xI 27 1 22 26 0,lI 28 27 0,xI 29 4 21 28 0,lJ 30 4 29 0,oI 31 (.call 69 [.t 20,.t 30]) 0,mI 32 2 0,oI 33 (.bin .eql (.t 31) (.t 32)) 0]
@[go_sem ↓] theorem Zyg : autoK Ze7 = (0, 0) := by kernel_rfl
@[go_sem] theorem Yna : autoK [lI 14 3 0, mI 15 1 0, mI 16 9 0, xI 17 1 15 16 0, lI 18 17 0, xI 19 4 14 18 0, lJ 20 4 19 0, lI 21 3 0, mI 22 1 0, lI 23 4 0, mI 24 0 0, xI 25 1 23 24 0, lI 26 25 0, xI 27 1 22 26 0, lI 28 27 0, xI 29 4 21 28 0, lJ 30 4 29 0, oI 31 (.call 69 [.t 20, .t 30]) 0, mI 32 2 0, oI 33 (.bin .eql (.t 31) (.t 32)) 0] = (0, 0) := Zyg
def Zlq:List IOp := [lI 34 4 0,mI 35 0 0,mI 36 9 0,xI 37 1 34 35 0,⟨none,.st 1 (.t 37) (.t 36),0,[],[],none⟩,⟨none,.st 1 (.t 5) (.c (.bool true)),0,[],[],none⟩]
def Zs0:CC := .seq (.rg false Zlf) (.seq (.rg true Ze7) (.cond (.t 33) (.rg false Zlq) .skip))
abbrev Z8y:Nat:=130
theorem Z60:fnOk Tryz.prog 130=some (38,Zs0,[]):=by kernel_rfl
def Zwb:List IOp := [oI 5 (.box (.t 1)) 0,oI 6 (.box (.t 2)) 1,oI 8 (.mv (.c (.bool false))) 2]
def Zu7:List IOp := [oI 9 (.alloc [.bool false]) 0,⟨none,.st 1 (.t 9) (.c (.bool false)),1,[],[],none⟩]
def Zyk:List IOp := [oI 15 (.mkf 130 [] [.t 6,.t 5,.t 9]) 0,mI 10 15 0]
def Zw5:List IOp := [mI 16 0 0,oI 17 (.nilck (.t 16)) 0,fI 18 0 17 0,lI 19 18 0,oI 20 (.len (.t 19)) 0,oI 21 (.mv (cI 0)) 0]
def Zlp:List IOp := [oI 22 (.bin .lss (.t 21) (.t 20)) 0]
def Zw9:List IOp := [mI 23 21 0,xI 24 1 19 21 0,lI 25 24 0,mI 11 23 0,mI 12 25 0]
def Zxb:List IOp := [mI 26 12 0]
def Zx1:List IOp := [oI 27 (.ta 129 true (.agg [.nils]) (.t 26)) 0,eI 28 1 27 0,eI 29 0 27 0]
def Zl4:List IOp := [oI 13 (.alloc [.nils]) 0,⟨none,.st 1 (.t 13) (.t 29),1,[],[],none⟩]
def Zix:List IOp := [mI 30 3 0,oI 31 (.bin .eql (.t 30) (cI 1)) 0]
def Ztw:List IOp := [mI 32 10 0,mI 33 11 0,fI 34 0 13 0,lI 35 34 0,oI 36 (.callv (.t 32) [.t 33,.t 35,cI 1]) 0]
def Zez:List IOp := [oI 37 (.ta 131 true (.agg [.nils]) (.t 26)) 0,eI 38 1 37 0,eI 39 0 37 0]
def Zi2:List IOp := [oI 14 (.alloc [.nils]) 0,⟨none,.st 1 (.t 14) (.t 39),1,[],[],none⟩]
def Zi6:List IOp := [mI 40 3 0,oI 41 (.bin .eql (.t 40) (cI 2)) 0]
def Zsy:List IOp := [mI 42 10 0,mI 43 11 0,fI 44 0 14 0,lI 45 44 0,oI 46 (.callv (.t 42) [.t 43,.t 45,cI (-1)]) 0]
def Zb0:List IOp := [oI 47 (.bin .add (.t 21) (cI 1)) 0,mI 21 47 0]
def Zls:CC := .seq (.rg false Zlp) (.seq (.cond (.t 22) .skip (.exit 0)) (.seq (.block 1 (.seq (.rg false Zw9) (.seq (.rg false Zxb) (.block 2 (.seq (.rg false Zx1) (.cond (.t 28) (.seq (.rg false Zl4) (.seq (.rg false Zix) (.cond (.t 31) (.rg false Ztw) .skip))) (.seq (.rg false Zez) (.cond (.t 38) (.seq (.rg false Zi2) (.seq (.rg false Zi6) (.cond (.t 41) (.rg false Zsy) .skip))) .skip)))))))) (.rg false Zb0)))
def Zi5:List IOp := [lI 48 9 0,mI 8 48 0]
def Z9t:CC := .seq (.rg false Zwb) (.seq (.rg false Zu7) (.seq (.rg false Zyk) (.seq (.seq (.rg false Zw5) (.block 0 (.loop Zls))) (.seq (.rg false Zi5) .ret))))
abbrev Ymr:Nat:=110
theorem Yh5:fnOk Tryz.prog 110=some (49,Z9t,[.tmp 8]):=by kernel_rfl
def Z0v:List IOp := [oI 2 (.mv (.c .nils)) 0]
def Z1r:List IOp := [mI 5 0 0,oI 6 (.nilck (.t 5)) 0,fI 7 0 6 0,lI 8 7 0,oI 9 (.len (.t 8)) 0,oI 10 (.mks none 8 [.int .i64 0] (.t 9) (.t 9)) 0,mI 3 10 1]
def Z1d:List IOp := [mI 11 0 0,mI 12 3 0,oI 13 (.call 71 [.t 11,.t 12]) 0,mI 4 13 0]
def Zzq:List IOp := [mI 14 0 0,mI 15 3 0,mI 16 4 0,oI 17 (.call 110 [.t 14,.t 15,.t 16,cI 2]) 0]
def Z12:List IOp := [mI 18 0 0,mI 19 3 0,oI 20 (.call 71 [.t 18,.t 19]) 0,mI 4 20 0]
def Zoc:CC := .seq (.seq (.rg false Zzq) (.cond (.t 17) .skip (.exit 2))) (.block 3 (.rg false Z12))
def Zno:List IOp := [mI 21 0 0,mI 22 3 0,mI 23 4 0,oI 24 (.call 110 [.t 21,.t 22,.t 23,cI 1]) 0,oI 25 (.un .not (.t 24)) 0]
def Znu:List IOp := [mI 26 4 0,mI 2 26 0]
def Zz2:CC := .block 1 (.seq (.rg false Z1d) (.seq (.block 2 (.loop Zoc)) (.seq (.rg false Zno) (.cond (.t 25) (.seq (.rg false Znu) .ret) .skip))))
def Yf1:CC := .seq (.rg false Z0v) (.seq (.rg false Z1r) (.block 0 (.loop Zz2)))
abbrev Ynh:Nat:=75
theorem Ymz:fnOk Tryz.prog 75=some (27,Yf1,[.tmp 2]):=by kernel_rfl
def Zmv:List IOp := [oI 4 (.mv (.c .nils)) 0,oI 5 (.mv (cI 0)) 0]
def Zni:List IOp := [mI 9 0 0,mI 10 1 0,oI 11 (.call 48 [.t 9,.t 10]) 0,mI 8 11 0,eI 12 0 8 0,eI 13 1 8 0,mI 6 12 0,mI 7 13 0]
def Znr:List IOp := [mI 14 7 0,oI 15 (.bin .neq (.t 14) (cI 0)) 0]
def Z1u:List IOp := [mI 16 7 0,oI 4 (.mv (.c .nils)) 0,mI 5 16 0]
def Z1z:List IOp := [mI 17 6 0,oI 18 (.call 75 [.t 17]) 0,oI 19 (.call 51 [.t 18]) 0,eI 20 0 19 0,eI 21 1 19 0,mI 4 20 0,mI 5 21 0]
def Z3g:CC := .seq (.rg false Zmv) (.seq (.rg false Zni) (.seq (.seq (.rg false Znr) (.cond (.t 15) (.seq (.rg false Z1u) .ret) .skip)) (.seq (.rg false Z1z) .ret)))
abbrev Ynr:Nat:=43
theorem Z61:fnOk Tryz.prog 43=some (22,Z3g,[.tmp 4,.tmp 5]):=by kernel_rfl
end GoAbs
namespace GoAbs
open Go Go.Proofs
set_option maxHeartbeats 8000000
theorem Ydg {n i k:Nat}{d:Rat}{odds:List Rat}{to:List Nat}(hd:Qb 40 d) (ho:∀ t,t<to.length→Qb 40 (rget odds t)) (hk:1≤k):∀ {t:Nat}{M:RM},t≤to.length→M.length=n→Wid n M→Mb k M →
  (addOdds d i odds to t M).length=n∧Wid n (addOdds d i odds to t M)∧Mb (k+81*t) (addOdds d i odds to t M)
 | 0,M,_,hl,hw,h=>⟨hl,hw,h⟩
 | t+1,M,ht,hl,hw,h=>by
  obtain ⟨h1,h2,h3⟩:=Ydg (i:=i) (odds:=odds) (to:=to) hd ho hk (t:=t) (M:=M) (by omega) hl hw h
  unfold addOdds
  refine ⟨by rw [Zcn,h1],h2.addAt,fun r hr=>(h3.addAt (l:=80) ((hd.mul2 (ho t (by omega))).neg) (by omega) r hr).mono (by omega)⟩
theorem Zpo {g:Gm}(hg:GmOk g) {p:List Int}:∀ {k:Nat},k≤g.nodes.length→(planM g p k).length=g.nodes.length∧Wid g.nodes.length (planM g p k)∧Mb (1+600*k) (planM g p k)
 | 0,_=>by
  unfold planM
  refine ⟨List.length_replicate,fun r hr=>by rw [(List.mem_replicate.1 hr).2,List.length_replicate],fun r hr x hx=>?_⟩
  rw [(List.mem_replicate.1 hr).2] at hx
  rw [(List.mem_replicate.1 hx).2]
  exact Qb.zero (by omega)
 | k+1,hk=>by
  obtain ⟨h1,h2,h3⟩:=Zpo hg (p:=p) (k:=k) (by omega)
  have hx:=Zbf (g:=g) (i:=k) (by omega)
  have hok:=hg.node _ hx
  unfold planM nodeM
  generalize nodeAt g k=x at *
  have a1:Mb (1+600*k+1+1) (addAt (planM g p k) k k 1):=h3.addAt (Qb.one (by omega)) (by omega)
  have a2:(addAt (planM g p k) k k 1).length=g.nodes.length:=by rw [Zcn,h1]
  have a3:Wid g.nodes.length (addAt (planM g p k) k k 1):=h2.addAt
  split
  ·rename_i h3
   obtain ⟨ho,hb⟩:=hok.odds h3
   obtain ⟨b1,b2,b3⟩:=Ydg (i:=k) (odds:=x.odds) (to:=x.to) hg.db (fun t ht=>hb.get (by omega)) (by omega) (Nat.le_refl _) a2 a3 a1
   have:=hok.len
   exact ⟨b1,b2,fun r hr=>(b3 r hr).mono (by omega)⟩
  ·exact ⟨by rw [Zcn,a2],a3.addAt,fun r hr=>(a1.addAt (l:=40) hg.db.neg (by omega) r hr).mono (by omega)⟩
theorem Xl4 {pre:Heap}{o n0 n i k:Nat}{gc:List AV}{pl:AV}{s27:AV}{d:Rat}{odds:List Rat}{to:List Nat}{M:RM}{b1:Blk}(hpre:pre.length=o) (hclo:∀ m,Clo m pre) (hn0:n0≤o) (hol:o≤1) (hpl:∀ m,o+1≤m→pl.gc (pos (List.range m))=pl) (hs27:∀ f,s27.gc f=s27)
  (hgd:gc.drop 2=qcell d) (hgg:∀ f,gcL f gc=gc) (hb1:∀ f,b1.gc f=b1) (hd:Qb 40 d) (ho:odds.length=to.length) (hob:Rb 40 odds) (hto:∀ x,x∈to→x<n) (htl:to.length≤6) (hn:n≤100) (hi:i<n)
  (hM:M.length=n) (hW:Wid n M) (hB:Mb k M) (hk1:1≤k) (hk:k≤1000000) {K:Ex→St→Prop}
  (hK:∀ e:Nat→AV,e 0 = .rp gc→e 1=pl→e 5 = .osl none o 0 n→e 27=s27→e 28 = .int .i64 (n:Int)→e 29 = .int .i64 (i:Int)→K (.exit 3) ⟨e,pre++(matH o n (addOdds d i odds to to.length M) ++ [b1,.cells [.sl (ivs (nv to)),.sl (condsR odds)]])⟩) :
  T Tryz.prog 112 n0 (.loop Zod) ⟨envL [(0,.rp gc),(1,pl),(5,.osl none o 0 n),(6,.int .i64 (i:Int)),(10,.ptr (o+(1+2*n)+1) 0),(27,s27),(28,.int .i64 (n:Int)),(29,.int .i64 (i:Int)),(82,.sl (ivs (nv to))),(83,.int .i64 (to.length:Int)),(84,.int .i64 0)],
   pre++(matH o n M ++ [b1,.cells [.sl (ivs (nv to)),.sl (condsR odds)]])⟩ K:=by
 have hmx:Tryz.prog.follows .mixedOrders=true:=by kernel_rfl
 refine Zad (fun t:Nat=>⟨envL [(0,.rp gc),(1,pl),(5,.osl none o 0 n),(6,.int .i64 (i:Int)),(10,.ptr (o+(1+2*n)+1) 0),(27,s27),(28,.int .i64 (n:Int)),(29,.int .i64 (i:Int)),(82,.sl (ivs (nv to))),(83,.int .i64 (to.length:Int)),(84,.int .i64 (t:Int))],
   pre++(matH o n (addOdds d i odds to t M) ++ [b1,.cells [.sl (ivs (nv to)),.sl (condsR odds)]])⟩)
  (fun t=>t≤to.length) (fun t=>to.length - t) 0 (by omega) (Zab _ (by simp only [go_sem]; simp)) (fun t ht N hN=>?_)
 unfold Zod
 by_cases htn:t<to.length
 ·obtain ⟨w1,w2,w3⟩:=Ydg (i:=i) (odds:=odds) (to:=to) hd (fun t ht=>hob.get (by omega)) hk1 (t:=t) ht hM hW hB
  have hnx:addOdds d i odds to (t+1) M=addAt (addOdds d i odds to t M) i (to.getD t 0) (-(d*rget odds t)):=rfl
  generalize addOdds d i odds to t M=S at *
  have gi:=Zcp htn
  have mi:=hto _ (List.mem_of_getElem? gi)
  have go:odds[t]? = some (rget odds t):=Zag (by omega)
  have bo:=hob.get (j:=t) (by omega)
  generalize to.getD t 0=x at *
  generalize rget odds t=w at *
  have mu:=Yy5 (k:=40) hd bo (by omega)
  have bx:Qb 80 (-(d*w)):=(hd.mul2 bo).neg
  have q0:(0:Int)≤(t:Int):=by omega
  have q1:(t:Int)<(to.length:Int):=by omega
  have e1:IntKind.i64.wrap ((t:Int)+1)=((t+1:Nat):Int):=by rw [Zac (by omega) (by omega)]; omega
  have ql:∀ q:Rat,(qcell q).length=4:=fun q=>rfl
  have qt:∀ q:Rat,(qcell q).take 4=qcell q:=fun q=>rfl
  have qd:∀ q:Rat,(qcell q).drop 4 = []:=fun q=>rfl
  have gP:∀ (S':RM) (post':Heap) (t':Nat),S'.length=n→(pre++(matH o n S'++post'))[o+(1+2*n)+t']? = post'[t']?:=fun S' post' t' h=>Ydc hpre h
  have gL:∀ (S':RM) (post':Heap),S'.length=n→(pre++(matH o n S'++post')).length=o+(1+2*n)+post'.length:=fun S' post' h=>by rw [List.length_append,List.length_append,Zb1,h,hpre]; omega
  have l0:o+(1+2*n)+1<o+(1+2*n)+2:=by omega
  have ma:=Ytq (post := [b1,.cells [.sl (ivs (nv to)),.sl (condsR odds)]]) (i:=i) (j:=x) (x := -(d*w)) (k:=k+1000) hpre w2 (by omega) mi (by omega) (by omega) (fun r hr=>(w3 r hr).mono (by omega)) (bx.mono (by omega)) (by omega)
  rw [w1] at ma
  simp only [go_sem,Zlg,Zx8,Zlv,q0,q1,Za4,Zgi,Zfi,ho,Ztd gi,Zbz go,hgd,gP _ _ _ w1,gL _ _ w1,l0,ql,qt,qd,hmx,List.length_cons,List.length_nil]
  refine Zaa mu (by simp only [go_sem,Za1,Zaj]) ?_
  simp only [go_sem,Za1]
  refine Zaa (Yz9 _) (by simp only [go_sem,Za1,Zaj]) ?_
  simp only [go_sem,Za1]
  refine Zd5 ma ?_
  simp only [go_sem,Zys,e1,List.cons_append,List.nil_append]
  rw [← hnx]
  have w4:(addOdds d i odds to (t+1) M).length=n:=by rw [hnx,Zcn,w1]
  have hsplit:∀ Y:Blk,pre++(matH o n (addOdds d i odds to (t+1) M) ++ [b1,.cells [.sl (ivs (nv to)),.sl (condsR odds)],Y])=(pre++(matH o n (addOdds d i odds to (t+1) M) ++ [b1,.cells [.sl (ivs (nv to)),.sl (condsR odds)]])) ++ [Y]:=fun Y=>by simp
  rw [hsplit]
  have cv:∀ f,AV.gc f (.sl (ivs (nv to))) = .sl (ivs (nv to)):=fun f=>rfl
  refine hN (t+1) _ (by omega) (by omega) (Ze4 (m:=o+(1+2*n)+2) (gL _ _ w4) ((hclo _).append ((Yly (by rw [w4]; omega)).append ?_)) (by omega)
   [(0,.rp gc),(1,pl),(5,.osl none o 0 n),(6,.int .i64 (i:Int)),(10,.ptr (o+(1+2*n)+1) 0),(27,s27),(28,.int .i64 (n:Int)),(29,.int .i64 (i:Int)),(82,.sl (ivs (nv to))),(83,.int .i64 (to.length:Int)),(84,.int .i64 ((t+1:Nat):Int))] (by simp only [go_sem]) ?_)
  ·unfold Clo
   show [b1.gc _,.cells [_,_]]=_
   rw [hb1]; rfl
  ·have p1:pos (List.range (o+(1+2*n)+2)) o=some o:=Zbb (by omega)
   have p2:pos (List.range (o+(1+2*n)+2)) (o+(1+2*n)+1)=some (o+(1+2*n)+1):=Zbb (by omega)
   have p3:=hpl (o+(1+2*n)+2) (by omega)
   simp [AV.gc,p1,p2,p3,hs27]
 ·have hte:t=to.length:=by omega
  subst hte
  have q1:¬ ((to.length:Nat):Int)<(to.length:Int):=by omega
  simp only [go_sem,Zlg,q1]
  exact hK _ (by simp only [go_sem]) (by simp only [go_sem]) (by simp only [go_sem]) (by simp only [go_sem]) (by simp only [go_sem]) (by simp only [go_sem])
end GoAbs
namespace GoAbs
open Go Go.Proofs
set_option maxHeartbeats 8000000
theorem Xky {pre:Heap}{o n0 n:Nat}{g:Gm}{p:List Int}{pl:AV}(hpre:pre.length=o) (hclo:∀ m,Clo m pre) (hn0:n0≤o) (hol:o≤1) (hpgc:∀ m,o+1≤m→pl.gc (pos (List.range m))=pl)
  (hpl:pl = .sl (ivs p)∨(pl = .osl none 0 0 n∧∀ X,(pre++X)[0]? = some (.cells (ivs p)))) (hg:GmOk g) (hp:POk g p) (hn:n=g.nodes.length) {K:Ex→St→Prop}
  (hK:∀ e:Nat→AV,e 0 = .rp (gmC g)→e 5 = .osl none o 0 n→K (.exit 0) ⟨e,pre++matH o n (planM g p n)⟩) :
  T Tryz.prog 112 n0 (.loop Znh) ⟨envL [(0,.rp (gmC g)),(1,pl),(5,.osl none o 0 n),(27,.sl (g.nodes.map gnAV)),(28,.int .i64 (n:Int)),(29,.int .i64 0)],pre++matH o n (planM g p 0)⟩ K:=by
 have hmx:Tryz.prog.follows .mixedOrders=true:=by kernel_rfl
 have hnl:=hg.n
 refine Zad (fun i:Nat=>⟨envL [(0,.rp (gmC g)),(1,pl),(5,.osl none o 0 n),(27,.sl (g.nodes.map gnAV)),(28,.int .i64 (n:Int)),(29,.int .i64 (i:Int))],pre++matH o n (planM g p i)⟩)
  (fun i=>i≤n) (fun i=>n - i) 0 (by omega) (Zab _ (by simp only [go_sem]; simp)) (fun i hi N hN=>?_)
 unfold Znh
 by_cases hin:i<n
 ·have hig:i<g.nodes.length:=by omega
  obtain ⟨w1,w2,w3⟩:=Zpo hg (p:=p) (k:=i) (by omega)
  have hnx:planM g p (i+1)=nodeM g p (planM g p i) i:=rfl
  obtain ⟨x,hx⟩:∃ x,g.nodes[i]? = some x:=⟨_,List.getElem?_eq_getElem hig⟩
  have hxa:nodeAt g i=x:=by unfold nodeAt; rw [List.getD_eq_getElem?_getD,hx]; rfl
  have hxg:(g.nodes.map gnAV)[i]? = some (gnAV x):=by rw [List.getElem?_map,hx]; rfl
  have hok:=hg.node x (List.mem_of_getElem? hx)
  have hlt:=hp.lt hig
  have hp2:=hp.2 i hig
  have hpl1:=hp.1
  rw [hxa] at hlt hp2
  rw [← hn] at w1 w2 hok
  have q0:(0:Int)≤(i:Int):=by omega
  have q1:(i:Int)<(n:Int):=by omega
  have e1:IntKind.i64.wrap ((i:Int)+1)=((i+1:Nat):Int):=by rw [Zac (by omega) (by omega)]; omega
  have ql:∀ q:Rat,(qcell q).length=4:=fun q=>rfl
  have qt:∀ q:Rat,(qcell q).take 4=qcell q:=fun q=>rfl
  have qd:∀ q:Rat,(qcell q).drop 4 = []:=fun q=>rfl
  have gd2:(gmC g).drop 2=qcell g.d:=rfl
  have gd0:(gmC g)[0]? = some (.sl (g.nodes.map gnAV)):=rfl
  have gcg:∀ f,gcL f (gmC g)=gmC g:=fun f=>by unfold gmC; rfl
  have gP:∀ (S':RM) (post':Heap) (t':Nat),S'.length=n→(pre++(matH o n S'++post'))[o+(1+2*n)+t']? = post'[t']?:=fun S' post' t' h=>Ydc hpre h
  have gL:∀ (S':RM) (post':Heap),S'.length=n→(pre++(matH o n S'++post')).length=o+(1+2*n)+post'.length:=fun S' post' h=>by rw [List.length_append,List.length_append,Zb1,h,hpre]; omega
  have sP:∀ (S':RM) (post':Heap) (t':Nat) (bl:Blk),S'.length=n→(pre++(matH o n S'++post')).set (o+(1+2*n)+t') bl=pre++(matH o n S'++post'.set t' bl):=fun S' post' t' bl h=>Yaa hpre h
  have eA:∀ (S':RM) (post':Heap) (Y:Blk),(pre++(matH o n S'++post')) ++ [Y]=pre++(matH o n S'++(post' ++ [Y])):=fun S' post' Y=>by simp
  have fin:∀ (e:Nat→AV) (post:Heap) (S':RM),S'=planM g p (i+1)→Has e [(0,.rp (gmC g)),(1,pl),(5,.osl none o 0 n),(27,.sl (g.nodes.map gnAV)),(28,.int .i64 (n:Int)),(29,.int .i64 ((i+1:Nat):Int))]→N ⟨e,pre++(matH o n S'++post)⟩:=fun e post S' hS he=>by
   subst hS
   have w4:=(Zpo hg (p:=p) (k:=i+1) (by omega)).1
   rw [← hn] at w4
   rw [← List.append_assoc]
   refine hN (i+1) _ (by omega) (by omega) (Ze4 (m:=o+(1+2*n)) (by rw [List.length_append,Zb1,w4,hpre]) ((hclo _).append (Yly (by rw [w4]; omega))) (by omega) _ he ?_)
   have p1:pos (List.range (o+(1+2*n))) o=some o:=Zbb (by omega)
   have p3:=hpgc (o+(1+2*n)) (by omega)
   simp [AV.gc,p1,p3]
  have ma:=Ytq (post := []) (i:=i) (j:=i) (x:=1) (k:=1+600*i) hpre w2 (by omega) hin (by omega) (by omega) w3 (Qb.one (by omega)) (by omega)
  rw [w1,List.append_nil,List.nil_append] at ma
  have a1:Mb (1+600*i+1+1) (addAt (planM g p i) i i 1):=w3.addAt (Qb.one (by omega)) (by omega)
  have a2:(addAt (planM g p i) i i 1).length=n:=by rw [Zcn,w1]
  have a3:Wid n (addAt (planM g p i) i i 1):=w2.addAt
  unfold nodeM at hnx
  rw [hxa] at hnx
  generalize planM g p i=S at *
  generalize addAt S i i 1=S1 at *
  have hgp:((ivs p).drop i)[0]? = some (.int .i64 (p.getD i 0)):=by
   rw [List.getElem?_drop,Nat.add_zero]
   refine Z9e ?_
   rw [List.getD_eq_getElem?_getD,List.getElem?_eq_getElem (by omega)]; rfl
  have hgp2:(ivs p)[i]? = some (.int .i64 (p.getD i 0)):=by
   have:=hgp
   rwa [List.getElem?_drop,Nat.add_zero] at this
  have hpll:(ivs p).length=n:=by rw [Za4]; omega
  have mv:∀ (S2:RM) (j:Nat) (post:Heap),j<n→S2=addAt S1 i j (-g.d)→SpecR Tryz.prog Zxv (pre++(matH o n S1++post)) [.osl none o 0 n,.int .i64 (i:Int),.int .i64 (j:Int),.agg (qcell (-g.d))] (.tup []) (pre++(matH o n S2++(post ++ [.cells (qcell (-g.d))]))):=fun S2 j post hj h=>by
   have:=Ytq (post:=post) (i:=i) (j:=j) (x := -g.d) (k:=10000) hpre a3 (by omega) hj (by omega) (by omega) (fun r hr=>(a1 r hr).mono (by omega)) (hg.db.neg.mono (by omega)) (by omega)
   rw [a2, ← h] at this
   exact this
  have xc:(gnAV x).cells = [gnAV x]:=by unfold gnAV; split; rfl; split <;> rfl
  simp only [go_sem,Zoj,Z1q,Zz6,q0,q1,hxg,xc,List.length_map]
  refine Zaa Y82 (by simp only [go_sem]) ?_
  simp only [go_sem,Za1]
  refine Zd5 ma ?_
  simp only [go_sem,Z19,Z13]
  have l0:o+(1+2*n)+1<o+(1+2*n)+2:=by omega
  have l1:0<o+(1+2*n)+2:=by omega
  have r0:(0:Int)≤(pget p i:Int):=by omega
  by_cases k3:x.kind=3
  ·have hgx:gnAV x = .ifc 140 (.agg [.sl (ivs (nv x.to)),.sl (condsR x.odds)]):=by unfold gnAV; rw [if_neg (by omega),if_neg (by omega)]
   rw [if_pos k3] at hnx
   obtain ⟨ho1,ho2⟩:=hok.odds k3
   have hlen:=hok.len
   rw [hgx]
   simp only [go_sem,Zok,Zk4,Zuu,Zwm,Zuy,eA,List.cons_append,List.nil_append,sP _ _ _ _ a2,gP _ _ _ a2,gL _ _ a2,Za4,Zgi]
   refine Zap [(0,.rp (gmC g)),(1,pl),(5,.osl none o 0 n),(6,.int .i64 (i:Int)),(10,.ptr (o+(1+2*n)+1) 0),(27,.sl (g.nodes.map gnAV)),(28,.int .i64 (n:Int)),(29,.int .i64 (i:Int)),(82,.sl (ivs (nv x.to))),(83,.int .i64 (x.to.length:Int)),(84,.int .i64 0)] (by simp only [go_sem]) ?_
   refine Xl4 (d:=g.d) (k:=1+600*i+1+1) hpre hclo hn0 hol hpgc (fun f=>rfl) gd2 gcg (fun f=>by simp only [Blk.gc,Z76]) hg.db ho1 ho2 hok.lt hlen (by omega) hin a2 a3 a1 (by omega) (by omega) (fun e k0 k1 k5 k27 k28 k29=>?_)
   rw [← hnx]
   simp only [go_sem,Zcc,k29,e1]
   exact fin _ _ _ rfl (by simp only [go_sem,k0,k1,k5,k27,k28])
  ·have hlt':=hlt k3
   have hp2':=hp2 k3
   rw [if_neg k3] at hnx
   have gi:=Zcp hlt'
   have mi:=hok.lt _ (Zbi hlt')
   have hpe:p.getD i 0=(pget p i:Int):=by unfold pget; omega
   have r1:(pget p i:Int)<(x.to.length:Int):=by omega
   have gl':(planM g p (i+1)).length=n:=by rw [hnx,Zcn,a2]
   rw [hpe] at hgp hgp2
   generalize x.to.getD (pget p i) 0=y at *
   generalize pget p i=pi at *
   have mvv:=mv _ y [.cells (qcell 1),.cells [.sl (ivs (nv x.to))]] mi hnx
   by_cases k1:x.kind=1
   ·have hgx:gnAV x = .ifc 129 (.agg [.sl (ivs (nv x.to))]):=by unfold gnAV; rw [if_pos k1]
    rw [hgx]
    simp only [go_sem,Zok,Zk7,eA,List.cons_append,List.nil_append,sP _ _ _ _ a2,gP _ _ _ a2,gL _ _ a2,l0]
    rcases hpl with rfl | ⟨rfl,hX⟩
    ·simp only [go_sem,q0,q1,r0,r1,hpll,hgp2,Za4,Zgi,Ztd gi,gd2,ql,qt,qd,hmx]
     refine Zaa (Yz9 _) (by simp only [go_sem,Za1,Zaj]) ?_
     simp only [go_sem,Za1]
     refine Zd5 mvv ?_
     simp only [go_sem,Zcc,e1]
     exact fin _ _ _ rfl (by simp only [go_sem])
    ·simp only [go_sem,q0,q1,r0,r1,l0,l1,hX,hpll,hgp,hgp2,Za4,Zgi,Ztd gi,gd2,ql,qt,qd,hmx,List.getElem?_drop]
     refine Zaa (Yz9 _) (by simp only [go_sem,Za1,Zaj]) ?_
     simp only [go_sem,Za1]
     refine Zd5 mvv ?_
     simp only [go_sem,Zcc,e1]
     exact fin _ _ _ rfl (by simp only [go_sem])
   ·have hgx:gnAV x = .ifc 131 (.agg [.sl (ivs (nv x.to))]):=by unfold gnAV; rw [if_neg k1,if_pos (by have:=hok.kind; omega)]
    rw [hgx]
    simp only [go_sem,Zk4,Zxl,Zlu,eA,List.cons_append,List.nil_append,sP _ _ _ _ a2,gP _ _ _ a2,gL _ _ a2,l0]
    rcases hpl with rfl | ⟨rfl,hX⟩
    ·simp only [go_sem,q0,q1,r0,r1,hpll,hgp2,Za4,Zgi,Ztd gi,gd2,ql,qt,qd,hmx]
     refine Zaa (Yz9 _) (by simp only [go_sem,Za1,Zaj]) ?_
     simp only [go_sem,Za1]
     refine Zd5 mvv ?_
     simp only [go_sem,Zcc,e1]
     exact fin _ _ _ rfl (by simp only [go_sem])
    ·simp only [go_sem,q0,q1,r0,r1,l0,l1,hX,hpll,hgp,hgp2,Za4,Zgi,Ztd gi,gd2,ql,qt,qd,hmx,List.getElem?_drop]
     refine Zaa (Yz9 _) (by simp only [go_sem,Za1,Zaj]) ?_
     simp only [go_sem,Za1]
     refine Zd5 mvv ?_
     simp only [go_sem,Zcc,e1]
     exact fin _ _ _ rfl (by simp only [go_sem])
 ·have hie:i=n:=by omega
  subst hie
  have q1:¬ ((i:Nat):Int)<(i:Int):=by omega
  simp only [go_sem,Zoj,q1]
  exact hK _ (by simp only [go_sem]) (by simp only [go_sem])
end GoAbs
namespace GoAbs
open Go Go.Proofs
set_option maxHeartbeats 8000000
theorem bbit5:∀ k,k≤5→bbit 9687500 k≤2000000000:=by
 intro k hk
 have:k=0∨k=1∨k=2∨k=3∨k=4∨k=5:=by omega
 rcases this with rfl | rfl | rfl | rfl | rfl | rfl <;> decide
theorem Yju {g:Gm}(hg:GmOk g) (hn:g.nodes.length≤5) {p:List Int}:Mb 3100 (aug (planM g p g.nodes.length) g.rew):=fun r hr x hx=>by
 obtain ⟨w1,w2,w3⟩:=Zpo hg (p:=p) (Nat.le_refl _)
 obtain ⟨i,hi⟩:=List.getElem?_of_mem hr
 unfold aug at hi
 rw [List.getElem?_zipWith] at hi
 split at hi
 ·rename_i a b ha hb
  cases hi
  rcases List.mem_append.1 hx with h | h
  ·exact (w3 a (List.mem_of_getElem? ha) x h).mono (by omega)
  ·rw [List.mem_singleton.1 h]
   exact (hg.rb b (List.mem_of_getElem? hb)).mono (by omega)
 ·cases hi
theorem Zo6 {g:Gm}(hg:GmP g) {p:List Int}(hp:POk g p) (hn5:g.nodes.length≤5) :
  NoSw g.nodes.length 0 (aug (planM g p g.nodes.length) g.rew)∧(∀ i,i<g.nodes.length→rget ((tri g.nodes.length 0 (aug (planM g p g.nodes.length) g.rew) 1).2.getD i []) i≠0)∧Wid (g.nodes.length+1) (tri g.nodes.length 0 (aug (planM g p g.nodes.length) g.rew) 1).2 ∧
  Mb 9687500 (tri g.nodes.length 0 (aug (planM g p g.nodes.length) g.rew) 1).2∧Rb 2000000000 (valP g p):=by
 obtain ⟨w1,w2,w3⟩:=Zpo hg.ok (p:=p) (Nat.le_refl _)
 obtain ⟨a1,a2,a3,_,_⟩:=Z4y w1 w2 hg.ok.rew (Zy0 hg hp)
 have hl:(aug (planM g p g.nodes.length) g.rew).length=g.nodes.length:=by rw [Z23 (by rw [w1]; exact hg.ok.rew),w1]
 have hb:=Y1t (w:=g.nodes.length+1) (k:=g.nodes.length) (c:=0) (d:=1) (by omega) (by omega) (Yec w2) (Yju hg.ok hn5 (p:=p)) (by omega)
 have h5:5 ^ g.nodes.length*3100≤9687500:=by
  have:5 ^ g.nodes.length≤5 ^ 5:=Nat.pow_le_pow_right (by omega) hn5
  omega
 have hb':Mb 9687500 (tri g.nodes.length 0 (aug (planM g p g.nodes.length) g.rew) 1).2:=fun r hr=>(hb r hr).mono h5
 refine ⟨a1,a2,a3,hb',?_⟩
 exact (Yg6 hb' a3 (by rw [Ylw,hl]) a2 g.nodes.length (Nat.le_refl _)).mono (bbit5 _ hn5)
theorem Z80 {pre:Heap}{o:Nat}{g:Gm}{p:List Int}{pl:AV}(hpre:pre.length=o) (hpure:PureH pre) (hol:o≤1) (hpgc:∀ m,o+1≤m→pl.gc (pos (List.range m))=pl)
  (hpl:pl = .sl (ivs p)∨(pl = .osl none 0 0 g.nodes.length∧∀ X,(pre++X)[0]? = some (.cells (ivs p)))) (hg:GmP g) (hp:POk g p) (hn1:1≤g.nodes.length) (hn5:g.nodes.length≤5) :
  SpecR Tryz.prog Yof pre [.rp (gmC g),pl] (.sl (condsR (valP g p))) pre:=by
 obtain ⟨a1,a2,a3,a4,_⟩:=Zo6 hg hp hn5
 obtain ⟨w1,w2,w3⟩:=Zpo hg.ok (p:=p) (Nat.le_refl _)
 obtain ⟨n,hn⟩:∃ n,n=g.nodes.length:=⟨_,rfl⟩
 have hmx:Tryz.prog.follows .mixedOrders=true:=by kernel_rfl
 have hclo:∀ m,Clo m pre:=fun m=>hpure _
 have hsv:=Yyj (pre:=pre) (o:=o) (n:=n) (k:=3100) (M:=planM g p n) (r:=g.rew) hpre hpure (by rw [hn,w1]) (by rw [hn,hg.ok.rew]) (by omega) (by rw [hn]; exact w2) (by rw [hn]; exact Yju hg.ok hn5) (by omega) (by
   have:9 ^ n≤9 ^ 5:=Nat.pow_le_pow_right (by omega) (by omega)
   omega) (by rw [hn]; exact a1) (a:=9687500) (by rw [hn]; exact a4) (by rw [hn]; exact a3) (by rw [hn]; exact a2) (fun k hk=>by
   have:k=0∨k=1∨k=2∨k=3∨k=4:=by omega
   rcases this with rfl | rfl | rfl | rfl | rfl <;> decide)
 have hz:=Z2p (H:=pre) (Y8n (m:=n) (n:=n) (by omega) (by omega) (by omega)) (by simp only [go_sem])
 rw [Xf5,Nat.zero_add] at hz
 have ez:(AV.osl none 0 0 n).gc (fun i=>some (i+pre.length)) = .osl none o 0 n:=by simp only [AV.gc,hpre,Nat.zero_add]
 rw [ez,hpre] at hz
 have gd0:(gmC g)[0]? = some (.sl (g.nodes.map gnAV)):=rfl
 have gd1:(gmC g).drop 1 = .sl (condsR g.rew)::qcell g.d:=rfl
 refine Z5i Ymx (by simp) (Za9 1 rfl ?_)
 unfold Ygz
 obtain ⟨gc,hgc⟩:∃ gc,gc=gmC g:=⟨_,rfl⟩
 rw [← hgc] at gd0 gd1 ⊢
 simp only [go_sem,Zz0,Znb,gd0,List.length_map,hmx]
 rw [← hn]
 refine Zd5 hz ?_
 simp only [go_sem]
 refine Zau (Zau (T_W ?_))
 simp only [go_sem,Zz7,gd0,List.length_map]
 rw [← hn,hgc]
 refine Zat (Zap [(0,.rp (gmC g)),(1,pl),(5,.osl none o 0 n),(27,.sl (g.nodes.map gnAV)),(28,.int .i64 (n:Int)),(29,.int .i64 0)] (by simp only [go_sem]) (T_le (Zbj (Xdd) ?_) (Xky hpre hclo (by omega) hol hpgc (by rw [hn]; exact hpl) hg.ok hp hn (fun e k0 k5=>?_))))
 ·rw [show planM g p 0=List.replicate n (List.replicate n 0) by rw [hn]; rfl]
 ·show T Tryz.prog 112 _ (.seq (.rg false Zku) .ret) _ _
  refine T_W ?_
  rw [← hgc] at k0
  simp only [go_sem,Zku,k0,k5,gd1]
  refine Zd5 hsv ?_
  simp only [go_sem]
  exact ⟨by rw [hn]; rfl,rfl,_,Ze4 rfl (hclo _) (Nat.le_refl _) [] trivial (fun p hp=>by simp at hp),rfl⟩
end GoAbs
namespace GoAbs
open Go Go.Proofs
set_option maxHeartbeats 8000000
theorem Y78 {p:List Int}{i:Nat}{x:Int}(hi:i<p.length):(ivs p).take i ++ [AV.int .i64 x]++(ivs p).drop (i+1)=ivs (p.set i x):=by
 unfold ivs
 rw [List.map_set]
 rw [List.set_eq_take_append_cons_drop,if_pos (by simpa using hi)]
 simp
theorem Xaf {n i pi k:Nat}{p:List Int}{v:List Rat}{to:List Nat}{sg:Int}{ch:Bool}{b4:Blk}(hv:Rb k v) (hk:2*k+1≤1000000000000) (hvl:v.length=n) (hn:n≤100) (hpl:p.length=n) (hi:i<n) (hto:∀ x,x∈to→x<n) (h0:0<to.length) (hl:to.length≤6)
  (hp:p.getD i 0=(pi:Int)) (hpi:pi<to.length) (c:Bool) (hc:c=decide (cmpR (rget v (to.getD (bestA v to sg) 0)) (rget v (to.getD pi 0))=sg)) :
  SpecR Tryz.prog Z8y [.cells (ivs p),.cells [.osl none 0 0 n],.cells [.sl (condsR v)],.cells [.bool ch],b4] [.int .i64 (i:Int),.sl (ivs (nv to)),.int .i64 sg,.ptr 2 0,.ptr 1 0,.ptr 3 0] (.tup [])
   [.cells (ivs (if c=true then p.set i (bestA v to sg:Int) else p)),.cells [.osl none 0 0 n],.cells [.sl (condsR v)],.cells [.bool (c || ch)],b4]:=by
 have hmx:Tryz.prog.follows .mixedOrders=true:=by kernel_rfl
 have hb:=Yeu (sg:=sg) (to:=to) hv hk (fun x hx=>by rw [hvl]; exact hto x hx) h0 (by omega) (by omega)
 have hbl:bestA v to sg<to.length:=Zmi h0 (Nat.le_refl _)
 generalize bestA v to sg=b at *
 have g1:=Zcp hbl
 have g2:=Zcp hpi
 have m1:=hto _ (Zbi hbl)
 have m2:=hto _ (Zbi hpi)
 generalize to.getD b 0=x at *
 generalize to.getD pi 0=y at *
 have hcm:=Y84 (hv.get (j:=x) (by omega)) (hv.get (j:=y) (by omega)) hk
 have q0:(0:Int)≤(i:Int):=by omega
 have q1:(i:Int)<(n:Int):=by omega
 have q2:(0:Int)≤(b:Int):=by omega
 have q3:(b:Int)<(to.length:Int):=by omega
 have q4:(0:Int)≤(x:Int):=by omega
 have q5:(x:Int)<(n:Int):=by omega
 have q6:(0:Int)≤(y:Int):=by omega
 have q7:(y:Int)<(n:Int):=by omega
 have q8:(0:Int)≤(pi:Int):=by omega
 have q9:(pi:Int)<(to.length:Int):=by omega
 have ql:∀ q,(qcell q).length=4:=fun q=>rfl
 have qt:∀ q,(qcell q).take 4=qcell q:=fun q=>rfl
 have qd:∀ q,(qcell q).drop 4 = []:=fun q=>rfl
 have hgp:(ivs p)[i]? = some (.int .i64 (pi:Int)):=by
  refine Z9e ?_
  rw [← hp,List.getD_eq_getElem?_getD,List.getElem?_eq_getElem (by omega)]; rfl
 have hpll:(ivs p).length=n:=by rw [Za4]; omega
 have f1:i+1≤n:=by omega
 have hf:=Y78 (p:=p) (i:=i) (x:=(b:Int)) (by omega)
 refine Z3e Z60 (by simp) ?_
 unfold Zs0
 simp only [go_sem,Zlf,Ze7]
 refine Zaa hb (by simp only [go_sem]) ?_
 simp only [go_sem,q0,q1,q2,q3,q4,q5,q6,q7,q8,q9,Za4,Zgi,Zfi,hvl,Ztd g1,Ztd g2,hgp,List.getElem?_drop,Zbz (Zag (r:=v) (j:=x) (by omega)),Zbz (Zag (r:=v) (j:=y) (by omega)),ql,qt,qd,hmx]
 refine Zaa hcm (by simp only [go_sem,Za1,Zaj]) ?_
 by_cases hcc:cmpR (rget v x) (rget v y)=sg
 ·have hct:c=true:=by rw [hc]; exact decide_eq_true hcc
  subst hct
  simp only [go_sem,hcc,Zlq,q0,q1,hpll,f1,hf]
  rw [Bool.true_or]
 ·have hct:c=false:=by rw [hc]; exact decide_eq_false hcc
  subst hct
  simp only [go_sem,hcc]
  rw [Bool.false_or]
def betU (g:Gm) (v:List Rat) (who:Nat) (p:List Int) (i:Nat):List Int:=(List.range g.nodes.length).map fun j=>if j<i then betI g v who p j else p.getD j 0
theorem Zyz {g:Gm}{v:List Rat}{who:Nat}{p:List Int}{i:Nat}:(betU g v who p i).length=g.nodes.length:=by unfold betU; rw [List.length_map,List.length_range]
theorem Xhh {g:Gm}{v:List Rat}{who:Nat}{p:List Int}(h:p.length=g.nodes.length):betU g v who p 0=p:=by
 refine List.ext_getElem (by rw [Zyz,h]) (fun i h1 h2=>?_)
 simp [betU,h2]
theorem Xh0 {g:Gm}{v:List Rat}{who:Nat}{p:List Int}:betU g v who p g.nodes.length=betP g v who p:=by
 unfold betU betP
 exact List.map_congr_left fun j hj=>by rw [if_pos (List.mem_range.1 hj)]
theorem Yvl {g:Gm}{v:List Rat}{who:Nat}{p:List Int}{i:Nat}(h:i<g.nodes.length):(betU g v who p i).getD i 0=p.getD i 0:=by
 unfold betU
 rw [List.getD_eq_getElem?_getD,List.getElem?_map,List.getElem?_range h]
 simp
theorem Y13 {g:Gm}{v:List Rat}{who:Nat}{p:List Int}{i j:Nat}(h:j<g.nodes.length):(betU g v who p i)[j]? = some (if j<i then betI g v who p j else p.getD j 0):=by
 unfold betU
 rw [List.getElem?_map,List.getElem?_range h]; rfl
theorem Y1v {g:Gm}{v:List Rat}{who:Nat}{p:List Int}{i:Nat}(h:i<g.nodes.length) :
  betU g v who p (i+1)=if bet1 g v who p i=true then (betU g v who p i).set i (bestA v (nodeAt g i).to (sgn who):Int) else betU g v who p i:=by
 have e:∀ z:Int,z=betI g v who p i→betU g v who p (i+1)=(betU g v who p i).set i z:=fun z hz=>by
  refine List.ext_getElem? (fun j=>?_)
  rw [List.getElem?_set,Zyz]
  by_cases hjn:j<g.nodes.length
  ·rw [Y13 hjn,Y13 hjn]
   by_cases hj:i=j
   ·rw [if_pos hj,if_pos (by omega),hz, ← hj,if_pos (by omega)]
   ·rw [if_neg hj]
    by_cases hl:j<i
    ·rw [if_pos hl,if_pos (by omega)]
    ·rw [if_neg hl,if_neg (by omega)]
  ·rw [if_neg (by omega),List.getElem?_eq_none (by rw [Zyz]; omega),List.getElem?_eq_none (by rw [Zyz]; omega)]
 by_cases hb:bet1 g v who p i=true
 ·rw [if_pos hb]
  exact e _ (by unfold betI; rw [if_pos hb])
 ·rw [if_neg hb,e (p.getD i 0) (by unfold betI; rw [if_neg hb])]
  have h2:=Yvl (g:=g) (v:=v) (who:=who) (p:=p) h
  have hl:i<(betU g v who p i).length:=by rw [Zyz]; exact h
  rw [← h2,List.getD_eq_getElem?_getD,List.getElem?_eq_getElem hl,Option.getD_some,List.set_getElem_self]
theorem Y5z {g:Gm}{v:List Rat}{who n k:Nat}{p:List Int}(hv:Rb k v) (hk:2*k+1≤1000000000000) (hvl:v.length=n) (hg:GmOk g) (hp:POk0 g p) (hn:n=g.nodes.length) (hw:who=1∨who=2) {K:Ex→St→Prop}
  (hK:∀ e:Nat→AV,e 9 = .ptr 3 0→K (.exit 0) ⟨e,[.cells (ivs (betP g v who p)),.cells [.osl none 0 0 n],.cells [.sl (condsR v)],.cells [.bool (betC g v who p)]]⟩) :
  T Tryz.prog 49 1 (.loop Zls) ⟨envL [(3,.int .i64 (who:Int)),(9,.ptr 3 0),(10,.fn 130 [] [.ptr 2 0,.ptr 1 0,.ptr 3 0]),(19,.sl (g.nodes.map gnAV)),(20,.int .i64 (n:Int)),(21,.int .i64 0)],
   [.cells (ivs p),.cells [.osl none 0 0 n],.cells [.sl (condsR v)],.cells [.bool false]]⟩ K:=by
 have hmx:Tryz.prog.follows .mixedOrders=true:=by kernel_rfl
 have hnl:=hg.n
 refine Zad (fun i:Nat=>⟨envL [(3,.int .i64 (who:Int)),(9,.ptr 3 0),(10,.fn 130 [] [.ptr 2 0,.ptr 1 0,.ptr 3 0]),(19,.sl (g.nodes.map gnAV)),(20,.int .i64 (n:Int)),(21,.int .i64 (i:Int))],
   [.cells (ivs (betU g v who p i)),.cells [.osl none 0 0 n],.cells [.sl (condsR v)],.cells [.bool ((List.range i).any (bet1 g v who p))]]⟩)
  (fun i=>i≤n) (fun i=>n - i) 0 (by omega) (Zbj (Zab [(3,.int .i64 (who:Int)),(9,.ptr 3 0),(10,.fn 130 [] [.ptr 2 0,.ptr 1 0,.ptr 3 0]),(19,.sl (g.nodes.map gnAV)),(20,.int .i64 (n:Int)),(21,.int .i64 0)] (by simp only [go_sem])) (by rw [Xhh hp.1]; rfl)) (fun i hi N hN=>?_)
 unfold Zls
 by_cases hin:i<n
 ·have hig:i<g.nodes.length:=by omega
  obtain ⟨x,hx⟩:∃ x,g.nodes[i]? = some x:=⟨_,List.getElem?_eq_getElem hig⟩
  have hxa:nodeAt g i=x:=by unfold nodeAt; rw [List.getD_eq_getElem?_getD,hx]; rfl
  have hxg:(g.nodes.map gnAV)[i]? = some (gnAV x):=by rw [List.getElem?_map,hx]; rfl
  have hok:=hg.node x (List.mem_of_getElem? hx)
  have hp2:=hp.2 i hig
  have hs:=Y1v (v:=v) (who:=who) (p:=p) hig
  have hu:=Yvl (v:=v) (who:=who) (p:=p) hig
  have hul:=Zyz (g:=g) (v:=v) (who:=who) (p:=p) (i:=i)
  have hpe:p.getD i 0=(pget p i:Int):=by unfold pget; omega
  rw [hxa] at hp2 hs
  have hb1:bet1 g v who p i=(decide (x.kind=who) && decide (cmpR (rget v (x.to.getD (bestA v x.to (sgn who)) 0)) (rget v (x.to.getD (pget p i) 0))=sgn who)):=by unfold bet1; rw [hxa]
  have hany:(List.range (i+1)).any (bet1 g v who p)=((List.range i).any (bet1 g v who p) || bet1 g v who p i):=by rw [List.range_succ,List.any_append]; simp
  have q0:(0:Int)≤(i:Int):=by omega
  have q1:(i:Int)<(n:Int):=by omega
  have e1:IntKind.i64.wrap ((i:Int)+1)=((i+1:Nat):Int):=by rw [Zac (by omega) (by omega)]; omega
  have xc:(gnAV x).cells = [gnAV x]:=by unfold gnAV; split; rfl; split <;> rfl
  have fin:∀ (e:Nat→AV) (post:Heap) (pp:List Int) (ch:Bool),pp=betU g v who p (i+1)→ch=(List.range (i+1)).any (bet1 g v who p)→Has e [(3,.int .i64 (who:Int)),(9,.ptr 3 0),(10,.fn 130 [] [.ptr 2 0,.ptr 1 0,.ptr 3 0]),(19,.sl (g.nodes.map gnAV)),(20,.int .i64 (n:Int)),(21,.int .i64 ((i+1:Nat):Int))] →
    N ⟨e,[.cells (ivs pp),.cells [.osl none 0 0 n],.cells [.sl (condsR v)],.cells [.bool ch]]++post⟩:=fun e post pp ch h1 h2 he=>by
   subst h1 h2
   refine hN (i+1) _ (by omega) (by omega) (Ze4 (K := [.cells (ivs (betU g v who p (i+1))),.cells [.osl none 0 0 n],.cells [.sl (condsR v)],.cells [.bool ((List.range (i+1)).any (bet1 g v who p))]]) (m:=4) rfl ?_ (by omega) _ he ?_)
   ·unfold Clo
    show [Blk.cells (gcL _ (ivs _)),.cells [.osl none 0 0 n],_,_]=_
    rw [Xc7]; rfl
   ·simp [AV.gc,gcL,Zbb]
  rw [hpe] at hu
  generalize betU g v who p i=pp at *
  generalize (List.range i).any (bet1 g v who p)=ch at *
  have ht:∀ (sg:Int) (b4:Blk) (c:Bool),c=decide (cmpR (rget v (x.to.getD (bestA v x.to sg) 0)) (rget v (x.to.getD (pget p i) 0))=sg)→_:=fun sg b4 c hc=>Xaf (p:=pp) (pi:=pget p i) (ch:=ch) (b4:=b4) hv hk hvl (by omega) (by omega) hin (fun y hy=>by rw [hn]; exact hok.lt y hy) hok.pos hok.len hu (by unfold pget; omega) c hc
  simp only [go_sem,Zlp,Zw9,Zxb,Zx1,q0,q1,hxg,xc,List.length_map]
  have skip:x.kind≠who→bet1 g v who p i=false:=fun h=>by rw [hb1,decide_eq_false h]; rfl
  have hsk:∀ (e:Nat→AV) (post:Heap),x.kind≠who→Has e [(3,.int .i64 (who:Int)),(9,.ptr 3 0),(10,.fn 130 [] [.ptr 2 0,.ptr 1 0,.ptr 3 0]),(19,.sl (g.nodes.map gnAV)),(20,.int .i64 (n:Int)),(21,.int .i64 ((i+1:Nat):Int))] →
    N ⟨e,[.cells (ivs pp),.cells [.osl none 0 0 n],.cells [.sl (condsR v)],.cells [.bool ch]]++post⟩:=fun e post h he=>by
   have hb:=skip h
   exact fin e post pp ch (by rw [hs,if_neg (by rw [hb]; decide)]) (by rw [hany,hb,Bool.or_false]) he
  by_cases k1:x.kind=1
  ·have hgx:gnAV x = .ifc 129 (.agg [.sl (ivs (nv x.to))]):=by unfold gnAV; rw [if_pos k1]
   rw [hgx]
   by_cases hw1:who=1
   ·subst hw1
    have hw:((1:Nat):Int)=1:=rfl
    simp only [go_sem,Zl4,Zix,Ztw,hw,List.cons_append,List.nil_append]
    have hb:bet1 g v 1 p i=decide (cmpR (rget v (x.to.getD (bestA v x.to 1) 0)) (rget v (x.to.getD (pget p i) 0))=1):=by rw [hb1,decide_eq_true k1]; rfl
    refine Zd5 (ht 1 _ (bet1 g v 1 p i) hb) ?_
    simp only [go_sem,Zb0,e1]
    exact fin _ [_] _ _ (by rw [hs]; rfl) (by rw [hany,Bool.or_comm]) (by simp only [go_sem]; rfl)
   ·have hw1':¬ ((who:Nat):Int)=1:=by omega
    simp only [go_sem,Zl4,Zix,hw1',Zb0,e1,List.cons_append,List.nil_append]
    exact hsk _ [_] (by omega) (by simp only [go_sem])
  ·by_cases k2:x.kind=2
   ·have hgx:gnAV x = .ifc 131 (.agg [.sl (ivs (nv x.to))]):=by unfold gnAV; rw [if_neg k1,if_pos k2]
    rw [hgx]
    by_cases hw1:who=2
    ·subst hw1
     have hw:((2:Nat):Int)=2:=rfl
     simp only [go_sem,Zez,Zi2,Zi6,Zsy,hw,List.cons_append,List.nil_append]
     have hb:bet1 g v 2 p i=decide (cmpR (rget v (x.to.getD (bestA v x.to (-1)) 0)) (rget v (x.to.getD (pget p i) 0)) = -1):=by rw [hb1,decide_eq_true k2]; rfl
     refine Zd5 (ht (-1) _ (bet1 g v 2 p i) hb) ?_
     simp only [go_sem,Zb0,e1]
     exact fin _ [_] _ _ (by rw [hs]; rfl) (by rw [hany,Bool.or_comm]) (by simp only [go_sem]; rfl)
    ·have hw1':¬ ((who:Nat):Int)=2:=by omega
     simp only [go_sem,Zez,Zi2,Zi6,hw1',Zb0,e1,List.cons_append,List.nil_append]
     exact hsk _ [_] (by omega) (by simp only [go_sem])
   ·have hgx:gnAV x = .ifc 140 (.agg [.sl (ivs (nv x.to)),.sl (condsR x.odds)]):=by unfold gnAV; rw [if_neg k1,if_neg k2]
    rw [hgx]
    simp only [go_sem,Zez,Zb0,e1]
    exact hsk _ [] (by omega) (by simp only [go_sem])
 ·have hie:i=n:=by omega
  subst hie
  have q1:¬ ((i:Nat):Int)<(i:Int):=by omega
  simp only [go_sem,Zlp,q1]
  have h1:betU g v who p i=betP g v who p:=by rw [hn,Xh0]
  have h2:(List.range i).any (bet1 g v who p)=betC g v who p:=by unfold betC; rw [hn]
  rw [h1,h2]
  exact hK _ (by simp only [go_sem])
end GoAbs
namespace GoAbs
open Go Go.Proofs
set_option maxHeartbeats 8000000
theorem Ymq {p:List Int}:PureH [Blk.cells (ivs p)]:=fun f=>by
 show [Blk.cells (gcL f (ivs p))]=_
 rw [Xc7]
theorem Ye3 {g:Gm}{v:List Rat}{who n k:Nat}{p:List Int}(hv:Rb k v) (hk:2*k+1≤1000000000000) (hvl:v.length=n) (hg:GmOk g) (hp:POk0 g p) (hn:n=g.nodes.length) (hw:who=1∨who=2) :
  SpecR Tryz.prog Ymr [.cells (ivs p)] [.rp (gmC g),.osl none 0 0 n,.sl (condsR v),.int .i64 (who:Int)] (.bool (betC g v who p)) [.cells (ivs (betP g v who p))]:=by
 have gd0:(gmC g)[0]? = some (.sl (g.nodes.map gnAV)):=rfl
 refine Z5i Yh5 (by simp) (Za9 2 rfl ?_)
 unfold Z9t
 obtain ⟨gc,hgc⟩:∃ gc,gc=gmC g:=⟨_,rfl⟩
 rw [← hgc] at gd0 ⊢
 simp only [go_sem,Zwb,Zu7,Zyk]
 refine Zau (Zau (T_W ?_))
 simp only [go_sem,Zw5,gd0,List.length_map]
 rw [← hn]
 refine Zat (Zap [(3,.int .i64 (who:Int)),(9,.ptr 3 0),(10,.fn 130 [] [.ptr 2 0,.ptr 1 0,.ptr 3 0]),(19,.sl (g.nodes.map gnAV)),(20,.int .i64 (n:Int)),(21,.int .i64 0)] (by simp only [go_sem])
  (Y5z hv hk hvl hg hp hn hw (fun e k9=>?_)))
 show T Tryz.prog 49 1 (.seq (.rg false Zi5) .ret) _ _
 refine T_W ?_
 simp only [go_sem,Zi5,k9]
 exact ⟨rfl,_,Ze4 (K := [.cells (ivs (betP g v who p))]) (post := [_,_,_]) (m:=1) rfl (Ymq _) (Nat.le_refl _) [] trivial (fun p hp=>by simp at hp),rfl⟩
theorem Y4m {g:Gm}{v:List Rat}{who:Nat}{p:List Int}(hp:p.length=g.nodes.length) (h:betC g v who p=false):betP g v who p=p:=by
 refine List.ext_getElem? (fun j=>?_)
 by_cases hj:j<g.nodes.length
 ·unfold betP
  rw [List.getElem?_map,List.getElem?_range hj]
  show some (betI g v who p j)=_
  unfold betI
  rw [if_neg (by rw [nobetter h hj]; decide),List.getD_eq_getElem?_getD,List.getElem?_eq_getElem (by omega)]; rfl
 ·rw [List.getElem?_eq_none (by unfold betP; rw [List.length_map,List.length_range]; omega),List.getElem?_eq_none (by omega)]
theorem pval {g:Gm}(hg:GmP g):∀ q,POk0 g q→PVal g q (valP g q):=fun q hq=>Zy5 hg hq.ok
theorem Ygi {g:Gm}{p q r:List Int}(h:Same1 g p q) (k:Same1 g q r):Same1 g p r:=fun i hi h1=>(h i hi h1).trans (k i hi h1)
theorem Y7r {g:Gm}(hg:GmP g):POk0 g (List.replicate g.nodes.length 0):=by
 refine ⟨List.length_replicate,fun i hi=>?_⟩
 have:=(hg.ok.node _ (Zbf hi)).pos
 have e:(List.replicate g.nodes.length (0:Int)).getD i 0=0:=by rw [List.getD_eq_getElem?_getD,List.getElem?_replicate]; split <;> rfl
 rw [e]
 omega
theorem out0 {g:Gm}(hg:GmP g):OutI g (valP g) (none,List.replicate g.nodes.length 0):=⟨Y7r hg,fun q _ _ => .inr trivial⟩
theorem Y1a {g:Gm}(hg:GmP g):∀ (m:Nat) {p:List Int},POk0 g p→mIn g (valP g) p<m→∃ q,POk0 g q∧Same1 g q p∧betC g (valP g q) 2 q=false
 | 0,_,_,h=>absurd h (by omega)
 | m+1,p,hp,h=>by
  cases hc:betC g (valP g p) 2 p with
  | false=>exact ⟨p,hp,fun _ _ _=>rfl,hc⟩
  | true =>
   have h1:=Xjq hg (pval hg) hp hc
   obtain ⟨q,h2,h3,h4⟩:=Y1a hg m (Ye6 hg (v:=valP g p) (who:=2) hp) (by omega)
   exact ⟨q,h2,Ygi h3 Ybb,h4⟩
theorem Yvz {g:Gm}(hg:GmP g):∀ (m:Nat) {s:Option (List Rat)×List Int},OutI g (valP g) s→mOut g (valP g) s<m→∃ q,POk0 g q∧betC g (valP g q) 1 q=false∧betC g (valP g q) 2 q=false
 | 0,_,_,h=>absurd h (by omega)
 | m+1,s,hs,h=>by
  obtain ⟨q,h1,h2,h3⟩:=Y1a hg _ hs.1 (Nat.lt_succ_self _)
  cases hc:betC g (valP g q) 1 q with
  | false=>exact ⟨q,h1,hc,h3⟩
  | true =>
   obtain ⟨h4,h5⟩:=Xa4 hg (pval hg) hs h1 h2 h3 hc
   exact Yvz hg m h4 (by omega)
theorem Yd0 {g:Gm}(hg:GmP g):∃ q,POk0 g q∧betC g (valP g q) 1 q=false∧betC g (valP g q) 2 q=false:=Yvz hg _ (out0 hg) (Nat.lt_succ_self _)
open Classical in
noncomputable def valG (g:Gm):List Rat:=if h:GmP g then valP g (Yd0 h).choose else []
theorem Yn7 {g:Gm}(hg:GmP g):∃ q,POk0 g q∧valG g=valP g q:=by
 unfold valG
 rw [dif_pos hg]
 exact ⟨_,(Yd0 hg).choose_spec.1,rfl⟩
theorem Ylb {g:Gm}(hg:GmP g):(valG g).length=g.nodes.length:=by
 obtain ⟨q,h1,h2⟩:=Yn7 hg
 rw [h2,(pval hg q h1).1]
theorem Y3e {g:Gm}(hg:GmP g):∀ i,i<g.nodes.length→rget (valG g) i=nextV g (valG g) i:=by
 unfold valG
 rw [dif_pos hg]
 obtain ⟨h1,h2,h3⟩:=(Yd0 hg).choose_spec
 exact Yu6 hg h1 (pval hg _ h1) h2 h3
theorem Yql {g:Gm}(hg:GmP g) {v:List Rat}(hl:v.length=g.nodes.length) (h:∀ i,i<g.nodes.length→rget v i=nextV g v i):v=valG g :=
 Zmo (by rw [hl,Ylb hg]) (fun i hi=>(Xd0 hg).uniq hg.d1 h (Y3e hg) i (by rw [Ylb hg] at hi; exact hi))
theorem Y7x {g:Gm}(hg:GmP g) {p:List Int}(hp:POk0 g p) (h1:betC g (valP g p) 1 p=false) (h2:betC g (valP g p) 2 p=false):valP g p=valG g :=
 Yql hg (pval hg p hp).1 (Yu6 hg hp (pval hg p hp) h1 h2)
theorem Y9i {g:Gm}{n:Nat}{p0:List Int}(hg:GmP g) (hn:n=g.nodes.length) (hn1:1≤n) (hn5:n≤5) (hp0:POk0 g p0) {K:Ex→St→Prop}
  (hK:∀ (q:List Int) (e:Nat→AV),POk0 g q→Same1 g q p0→betC g (valP g q) 2 q=false→e 0 = .rp (gmC g)→e 3 = .osl none 0 0 n→e 4 = .sl (condsR (valP g q))→K (.exit 2) ⟨e,[.cells (ivs q)]⟩) :
  T Tryz.prog 27 0 (.loop Zoc) ⟨envL [(0,.rp (gmC g)),(3,.osl none 0 0 n),(4,.sl (condsR (valP g p0)))],[.cells (ivs p0)]⟩ K:=by
 refine Zad (fun p:List Int=>⟨envL [(0,.rp (gmC g)),(3,.osl none 0 0 n),(4,.sl (condsR (valP g p)))],[.cells (ivs p)]⟩)
  (fun p=>POk0 g p∧Same1 g p p0) (fun p=>mIn g (valP g) p) p0 ⟨hp0,fun _ _ _=>rfl⟩ (Zab _ (by simp only [go_sem])) (fun p hI N hN=>?_)
 obtain ⟨hp,hsm⟩:=hI
 unfold Zoc
 have hvl:=(pval hg p hp).1
 have hrb:=(Zo6 hg hp.ok (by omega)).2.2.2.2
 have hbt:=Ye3 (who:=2) hrb (by omega) (by rw [hvl,hn]) hg.ok hp hn (.inr rfl)
 have hq:=Ye6 hg (v:=valP g p) (who:=2) hp
 simp only [go_sem,Zzq]
 refine Zd5 hbt ?_
 cases hc:betC g (valP g p) 2 p with
 | true =>
  have hpl:=Z80 (pre := [.cells (ivs (betP g (valP g p) 2 p))]) (o:=1) (p:=betP g (valP g p) 2 p) (pl := .osl none 0 0 n) rfl Ymq (by omega) (fun m hm=>by simp only [AV.gc,Zbb (show 0<m by omega)]) (.inr ⟨by rw [hn],fun X=>rfl⟩) hg hq.ok (by omega) (by omega)
  simp only [go_sem,Z12]
  refine Zd5 hpl ?_
  simp only [go_sem]
  exact hN (betP g (valP g p) 2 p) _ ⟨hq,Ygi Ybb hsm⟩ (Xjq hg (pval hg) hp hc) (Zab _ (by simp only [go_sem]))
 | false =>
  rw [Y4m hp.1 hc]
  simp only [go_sem]
  exact hK p _ hp hsm hc (by simp only [go_sem]) (by simp only [go_sem]) (by simp only [go_sem])
theorem Yzm {g:Gm}(hg:GmP g) (hn1:1≤g.nodes.length) (hn5:g.nodes.length≤5):SpecV Tryz.prog Ynh [.rp (gmC g)] (.sl (condsR (valG g))):=by
 obtain ⟨n,hn⟩:∃ n,n=g.nodes.length:=⟨_,rfl⟩
 have gd0:(gmC g)[0]? = some (.sl (g.nodes.map gnAV)):=rfl
 refine Za0 Ymz (by simp) (Za9 1 rfl ?_)
 unfold Yf1
 obtain ⟨gc,hgc⟩:∃ gc,gc=gmC g:=⟨_,rfl⟩
 have hsz:(8:Int)*(n:Int)≤281474976710656:=by omega
 have z0:(0:Int)≤(n:Int):=by omega
 rw [← hgc] at gd0 ⊢
 simp only [go_sem,Z0v,Z1r,gd0,List.length_map]
 rw [← hn]
 simp only [go_sem,hsz,z0,Int.le_refl]
 refine ⟨by omega,?_⟩
 have hzr:(List.replicate n [AV.int .i64 0]).flatten=ivs (List.replicate n 0):=by
  unfold ivs
  rw [List.map_replicate]
  clear hn hsz z0 gd0 hgc
  induction n with
  | zero=>rfl
  | succ n ih=>rw [List.replicate_succ,List.flatten_cons,ih,List.replicate_succ]; rfl
 rw [hzr,hgc]
 have h0:=out0 hg
 rw [← hn] at h0
 refine Zat (Zfy (fun s:Option (List Rat)×List Int=>⟨envL [(0,.rp (gmC g)),(3,.osl none 0 0 n)],[.cells (ivs s.2)]⟩)
  (fun s=>OutI g (valP g) s) (fun s=>mOut g (valP g) s) (none,List.replicate n 0) h0 (Zab _ (by simp only [go_sem])) (fun s hs N hN=>?_))
 obtain ⟨u,p⟩:=s
 have hp:POk0 g p:=hs.1
 have hpl:=Z80 (pre := [.cells (ivs p)]) (o:=1) (p:=p) (pl := .osl none 0 0 n) rfl Ymq (by omega) (fun m hm=>by simp only [AV.gc,Zbb (show 0<m by omega)]) (.inr ⟨by rw [hn],fun X=>rfl⟩) hg hp.ok (by omega) (by omega)
 unfold Zz2
 refine Zat (Za9 0 rfl ?_)
 simp only [go_sem,Z1d]
 refine Zd5 hpl ?_
 simp only [go_sem]
 refine Zau (Zat (Zap [(0,.rp (gmC g)),(3,.osl none 0 0 n),(4,.sl (condsR (valP g p)))] (by simp only [go_sem]) (Y9i hg hn (by omega) (by omega) hp (fun q e hq hsm h2 k0 k3 k4=>?_))))
 show T Tryz.prog 27 0 (.seq (.rg false Zno) (.cond (.t 25) (.seq (.rg false Znu) .ret) .skip)) _ _
 have hvl:=(pval hg q hq).1
 have hrb:=(Zo6 hg hq.ok (by omega)).2.2.2.2
 have hbt:=Ye3 (who:=1) hrb (by omega) (by rw [hvl,hn]) hg.ok hq hn (.inl rfl)
 refine T_W ?_
 simp only [go_sem,Zno,k0,k3,k4]
 refine Zd5 hbt ?_
 cases hc:betC g (valP g q) 1 q with
 | true =>
  obtain ⟨h4,h5⟩:=Xa4 hg (pval hg) hs hq hsm h2 hc
  simp only [go_sem]
  exact hN (some (valP g q),betP g (valP g q) 1 q) _ h4 h5 (Zab _ (by simp only [go_sem,k0,k3]))
 | false =>
  rw [← Y7x hg hq hc h2]
  simp only [go_sem,Znu,k4]
end GoAbs
namespace GoAbs
open Go Go.Proofs
set_option maxHeartbeats 8000000
structure GIn (L:List Nd) (d:List UInt8):Prop where
 len:L.length≤5∨L.length=11
 d:d.length≤23
 ok:∀ n,n∈L→n.rew.length≤23∧n.mv.length≤7∧∀ m,m∈n.mv→m.2.length≤23
theorem GIn.le {L:List Nd}{d:List UInt8}(h:GIn L d):L.length≤11:=by have:=h.len; omega
def eC (L:List Nd) (d:List UInt8):Int:=if (L.all ndVa && okB d)=false then 2 else if gFit L d=false then 1 else 0
theorem Xjv {L:List Nd}{d:List UInt8}:chkC L d []=eC L d:=by
 unfold chkC eC
 rw [show (okB d && ([]:List (List UInt8)).all okB && L.all ndVa)=(L.all ndVa && okB d) by simp [Bool.and_comm]]
theorem Z5m {L:List Nd}{d:List UInt8}(h:GIn L d) :
  (eC L d≠0∧SpecV Tryz.prog Z33 [.sl (L.map ndAV),.str (bs d)] (.tup [.nilp,.int .i64 (eC L d)])) ∨
  (eC L d=0∧SpecV Tryz.prog Z33 [.sl (L.map ndAV),.str (bs d)] (.tup [.rp (gmC (toGm L d)),.int .i64 0])∧GmP (toGm L d)∧(toGm L d).nodes.length=L.length∧1≤L.length∧L.length≤5):=by
 have hs:=Yzl (L:=L) (d:=d) (by have:=h.le; omega) h.d h.ok
 unfold gmR at hs
 unfold eC
 by_cases h1:(L.all ndVa && okB d)=false
 ·rw [if_pos h1] at hs ⊢
  exact .inl ⟨by decide,hs⟩
 ·rw [if_neg h1] at hs ⊢
  by_cases h2:gFit L d=false
  ·rw [if_pos h2] at hs ⊢
   exact .inl ⟨by decide,hs⟩
  ·rw [if_neg h2] at hs ⊢
   obtain ⟨g1,g2⟩:=Xk2 (by simpa using h1) (by simpa using h2) h.d h.ok
   rw [g1] at hs
   refine .inr ⟨rfl,hs,g2,by unfold toGm; rw [List.length_map],?_⟩
   have h3:gFit L d=true:=by simpa using h2
   unfold gFit at h3
   simp only [Bool.and_eq_true,decide_eq_true_eq] at h3
   have:=h.len
   omega
theorem Xd7 {k:Nat}{v:List Rat}(h:Rb k v) (hk:k≤300000000000):∀ q,q∈v→Tx q.num.natAbs∧Tx q.den:=fun q hq=>⟨Z82 (h q hq).n hk,Z82 (h q hq).d hk⟩
theorem Xdl {g:Gm}(hg:GmP g) (hn5:g.nodes.length≤5):Rb 2000000000 (valG g):=by
 obtain ⟨q,h1,h2⟩:=Yn7 hg
 rw [h2]
 exact (Zo6 hg h1.ok hn5).2.2.2.2
theorem wvalue {L:List Nd}{d:List UInt8}(h:GIn L d):SpecV Tryz.prog Ynr [.sl (L.map ndAV),.str (bs d)] (if eC L d=0 then numsR (valG (toGm L d)) else .tup [.nils,.int .i64 (eC L d)]):=by
 rcases Z5m h with ⟨h1,hs⟩ | ⟨h1,hs,hg,hn,hn1,hn5⟩
 ·rw [if_neg h1]
  refine Zae Z61 (by simp) ?_
  unfold Z3g
  simp only [go_sem,Zmv,Zni]
  refine Zaa hs (by simp only [go_sem]) ?_
  simp only [go_sem,Znr,Z1u,h1]
 ·rw [if_pos h1]
  have hv:=Yzm hg (by omega) (by omega)
  have hm:=Yeq (Xd7 (Xdl hg (by omega)) (by omega)) (by rw [Ylb hg]; omega)
  refine Zae Z61 (by simp) ?_
  unfold Z3g
  simp only [go_sem,Zmv,Zni]
  refine Zaa hs (by simp only [go_sem]) ?_
  simp only [go_sem,Znr,Z1z]
  refine Zaa hv (by simp only [go_sem]) ?_
  simp only [go_sem]
  refine Zaa hm (by simp only [go_sem]) ?_
  by_cases hN:∀ q,q∈valG (toGm L d)→NumOk q
  ·rw [show numsR (valG (toGm L d)) = .tup [.sl (ss (valG (toGm L d))),.int .i64 0] from if_pos hN]
   simp only [go_sem]
  ·rw [show numsR (valG (toGm L d)) = .tup [.nils,.int .i64 4] from if_neg hN]
   simp only [go_sem]
end GoAbs
namespace GoAbs
open Go Go.Proofs
set_option maxHeartbeats 4000000
structure NdG (N:Nat) (n:Nd):Prop where
 ok:GnOk N (toGN n)
 kind:n.kind=((toGN n).kind:Int)
 len:n.mv.length=(toGN n).to.length
 to:∀ k m,n.mv[k]? = some m→m.1=((toGN n).to.getD k 0:Int)∧m.2.length≤23∧((toGN n).kind=3→parseL m.2=some (rget (toGN n).odds k))
 rew:n.rew.length≤23
 rq:parseL n.rew=some ((parseL n.rew).getD 0)∧Fitd 12 ((parseL n.rew).getD 0)
theorem Xhe {N:Nat}{n:Nd}(hv:ndVa n=true) (hf:ndFi N n=true) (hl:n.rew.length≤23∧n.mv.length≤7∧∀ m,m∈n.mv→m.2.length≤23):NdG N n:=by
 have hok:=(Xgx hv hf hl).2.1
 unfold ndVa at hv
 rw [Bool.and_eq_true] at hv
 unfold ndFi at hf
 simp only [Bool.and_eq_true,decide_eq_true_eq] at hf
 obtain ⟨⟨⟨f1,f2⟩,f3⟩,f4⟩:=hf
 have hk:n.kind=1∨n.kind=2∨n.kind=3:=by
  unfold kindF at f4
  simp only [Bool.or_eq_true,Bool.and_eq_true,decide_eq_true_eq] at f4
  omega
 have hkk:n.kind=((toGN n).kind:Int):=by show n.kind=(n.kind.toNat:Int); omega
 have hm:∀ m,m∈n.mv→0≤m.1∧(!m.2.isEmpty)=decide (n.kind=3)∧(m.2.isEmpty=false→okB m.2=true):=fun m hmm=>by
  have a:=List.all_eq_true.1 f2 m hmm
  have b:=List.all_eq_true.1 hv.2 m hmm
  unfold mvFit mvFit1 at a
  simp only [Bool.and_eq_true,decide_eq_true_eq,beq_iff_eq,Bool.or_eq_true] at a b
  refine ⟨a.1.1.1,a.1.2,fun he=>?_⟩
  rcases b with b | b
  ·rw [b] at he; exact absurd he (by decide)
  ·exact b
 refine ⟨hok,hkk,by show _=(n.mv.map _).length; rw [List.length_map],fun k m hkm=>?_,hl.1,okBq hv.1,Z8j f1⟩
 have hmm:=List.mem_of_getElem? hkm
 obtain ⟨a1,a2,a3⟩:=hm m hmm
 refine ⟨?_,hl.2.2 m hmm,fun h3=>?_⟩
 ·show m.1=(((n.mv.map (·.1.toNat)).getD k 0:Nat):Int)
  rw [List.getD_eq_getElem?_getD,List.getElem?_map,hkm]
  show m.1=((m.1.toNat:Nat):Int)
  omega
 ·have h3':n.kind=3:=by omega
  have hfl:n.mv.filter hasO=n.mv:=List.filter_eq_self.2 fun m hmm=>by
   have:=(hm m hmm).2.1
   rw [h3'] at this
   unfold hasO
   rw [this]; rfl
  have he:m.2.isEmpty=false:=by rw [h3'] at a2; simpa using a2
  have:rget (toGN n).odds k=(parseL m.2).getD 0:=by
   show rget ((n.mv.filter hasO).map _) k=_
   rw [hfl]
   unfold rget
   rw [List.getD_eq_getElem?_getD,List.getElem?_map,hkm]; rfl
  rw [this]
  exact okBq (a3 he)
end GoAbs
namespace GoAbs
open Go Go.Proofs
set_option maxHeartbeats 8000000
def rndR (g:Gm):Nat→List Rat
 | 0=>List.replicate g.nodes.length 0
 | k+1=>nextR g (rndR g k)
theorem Yc6 {g:Gm}:∀ k,(rndR g k).length=g.nodes.length
 | 0=>List.length_replicate
 | k+1=>Yed
def rndB:Nat→Nat
 | 0=>1
 | k+1=>6*rndB k+331
theorem Ypq:∀ {k:Nat},k≤9→rndB k≤1000000000:=by
 intro k hk
 have:k=0∨k=1∨k=2∨k=3∨k=4∨k=5∨k=6∨k=7∨k=8∨k=9:=by omega
 rcases this with rfl | rfl | rfl | rfl | rfl | rfl | rfl | rfl | rfl | rfl <;> decide
theorem Ysx {g:Gm}(hg:GmOk g):∀ k,Rb (rndB k) (rndR g k)
 | 0=>fun q hq=>by rw [(List.mem_replicate.1 hq).2]; exact Qb.zero (by unfold rndB; omega)
 | k+1=>Y3s hg (Ysx hg k) (Yc6 k)
theorem Xii {n:Nat}{gc:List AV}{r:Int}{K:Ex→St→Prop}(hn:n≤100)
  (hK:∀ e:Nat→AV,e 2 = .int .i64 r→e 8 = .rp gc→e 10 = .osl (some 4) 0 0 n→K (.exit 1) ⟨e,[.cells (rows n (qcell 0))]⟩) :
  T Tryz.prog 53 0 (.loop Zk1) ⟨envL [(2,.int .i64 r),(8,.rp gc),(10,.osl (some 4) 0 0 n),(33,.int .i64 (n:Int)),(34,.int .i64 0)],[.cells (rows n z4)]⟩ K:=by
 refine Zad (fun i:Nat=>⟨envL [(2,.int .i64 r),(8,.rp gc),(10,.osl (some 4) 0 0 n),(33,.int .i64 (n:Int)),(34,.int .i64 (i:Int))],[.cells (rows i (qcell 0)++rows (n - i) z4)]⟩)
  (fun i=>i≤n) (fun i=>n - i) 0 (by omega) (Zab _ (by simp only [go_sem]; simp [rows])) (fun i hi N hN=>?_)
 unfold Zk1
 by_cases hin:i<n
 ·have q0:(0:Int)≤(i:Int):=by omega
  have q1:(i:Int)<(n:Int):=by omega
  have e1:IntKind.i64.wrap ((i:Int)+1)=((i+1:Nat):Int):=by rw [Zac (by omega) (by omega)]; omega
  have rl:∀ (m:Nat) (c:List AV),c.length=4→(rows m c).length=m*4:=fun m c hc=>by unfold rows; rw [Z8a (fun d hd=>by rw [(List.mem_replicate.1 hd).2,hc]),List.length_replicate]
  have ql:(qcell 0).length=4:=rfl
  have zl:z4.length=4:=rfl
  have hfit:i*4+4≤(rows i (qcell 0)++rows (n - i) z4).length:=by rw [List.length_append,rl _ _ ql,rl _ _ zl]; omega
  have hset:(rows i (qcell 0)++rows (n - i) z4).take (i*4)++qcell 0++(rows i (qcell 0)++rows (n - i) z4).drop (i*4+4)=rows (i+1) (qcell 0)++rows (n - (i+1)) z4:=by
   have h1:rows (n - i) z4=z4++rows (n - (i+1)) z4:=by
    unfold rows
    rw [show n - i=(n - (i+1))+1 by omega,List.replicate_succ,List.flatten_cons]
   have h2:rows (i+1) (qcell 0)=rows i (qcell 0)++qcell 0:=by
    unfold rows
    rw [List.replicate_succ',List.flatten_append]; simp
   rw [h1,h2,List.take_append_of_le_length (by rw [rl _ _ ql]; omega),List.take_of_length_le (by rw [rl _ _ ql]; omega)]
   rw [show i*4+4=(rows i (qcell 0)).length+z4.length by rw [rl _ _ ql,zl], ← List.append_assoc, ← List.length_append,List.drop_left]
  simp only [go_sem,Zks,Ztn,Zs3,q0,q1]
  refine Zaa Ypr (by simp only [go_sem]) ?_
  simp only [go_sem,Za1,ql,hfit,hset,Zsx,e1,Zao]
  exact ⟨q0,q1,hN (i+1) _ (by omega) (by omega) (Zab _ (by simp only [go_sem]))⟩
 ·have hie:i=n:=by omega
  subst hie
  have q1:¬ ((i:Nat):Int)<(i:Int):=by omega
  simp only [go_sem,Zks,q1]
  have:rows i (qcell 0)++rows (i - i) z4=rows i (qcell 0):=by rw [Nat.sub_self]; simp [rows]
  rw [this]
  exact hK _ (by simp only [go_sem]) (by simp only [go_sem]) (by simp only [go_sem])
theorem Xj9 {g:Gm}{r:Nat}{H:Heap}(hg:GmOk g) (hr:r≤8) {K:Ex→St→Prop}
  (hK:∀ e:Nat→AV,e 10 = .sl (condsR (rndR g r))→K (.exit 3) ⟨e,H⟩) :
  T Tryz.prog 53 0 (.loop Zfu) ⟨envL [(8,.rp (gmC g)),(10,.sl (condsR (rndR g 0))),(42,.int .i64 (r:Int)),(43,.int .i64 0)],H⟩ K:=by
 refine Zad (fun i:Nat=>⟨envL [(8,.rp (gmC g)),(10,.sl (condsR (rndR g i))),(42,.int .i64 (r:Int)),(43,.int .i64 (i:Int))],H⟩)
  (fun i=>i≤r) (fun i=>r - i) 0 (by omega) (Zab _ (by simp only [go_sem]; simp)) (fun i hi N hN=>?_)
 unfold Zfu
 by_cases hin:i<r
 ·have hb:=Ysx hg i
  have hnx:=Y2a hg hb (Yc6 i) (by have:=Ypq (k:=i) (by omega); omega)
  have hs:nextR g (rndR g i)=rndR g (i+1):=rfl
  rw [hs] at hnx
  have q1:(i:Int)<(r:Int):=by omega
  have e1:IntKind.i64.wrap ((i:Int)+1)=((i+1:Nat):Int):=by rw [Zac (by omega) (by omega)]; omega
  simp only [go_sem,Ziy,Ztu,q1]
  refine Zaa hnx (by simp only [go_sem]) ?_
  simp only [go_sem,Ztj,e1]
  exact hN (i+1) _ (by omega) (by omega) (Zab _ (by simp only [go_sem]))
 ·have hie:i=r:=by omega
  subst hie
  have q1:¬ ((i:Nat):Int)<(i:Int):=by omega
  simp only [go_sem,Ziy,q1]
  exact hK _ (by simp only [go_sem])
def rC (L:List Nd) (d:List UInt8) (r:Int):Int:=if eC L d=0 then (if r<0∨30<r then 1 else 0) else eC L d
theorem wrounds {L:List Nd}{d:List UInt8}{r:Int}(h:GIn L d) (hr:r<0∨30<r∨r≤8) :
  SpecV Tryz.prog Ymi [.sl (L.map ndAV),.str (bs d),.int .i64 r] (if rC L d r=0 then numsR (rndR (toGm L d) r.toNat) else .tup [.nils,.int .i64 (rC L d r)]):=by
 rcases Z5m h with ⟨h1,hs⟩ | ⟨h1,hs,hg,hn,hn1,hn5⟩
 ·rw [show rC L d r=eC L d from if_neg h1,if_neg h1]
  refine Za0 Zn1 (by simp) (Za9 2 rfl ?_)
  unfold Zmb
  simp only [go_sem,Zf2,Zgm]
  refine Zaa hs (by simp only [go_sem]) ?_
  simp only [go_sem,Zde,Zwt,h1]
 ·rw [show rC L d r=if r<0∨30<r then 1 else 0 from if_pos h1]
  by_cases hbad:r<0∨30<r
  ·rw [if_pos hbad,if_neg (by decide)]
   refine Za0 Zn1 (by simp) (Za9 2 rfl ?_)
   unfold Zmb
   simp only [go_sem,Zf2,Zgm]
   refine Zaa hs (by simp only [go_sem]) ?_
   by_cases b1:r<0
   ·simp only [go_sem,Zde,Zf3,Zky,b1]
   ·have b2:30<r:=by omega
    simp only [go_sem,Zde,Zf3,Zky,b1,b2]
  ·rw [if_neg hbad,if_pos rfl]
   have b1:¬ r<0:=by omega
   have b2:¬ 30<r:=by omega
   obtain ⟨k,hk⟩:∃ k:Nat,r=k:=⟨r.toNat,by omega⟩
   subst hk
   have hkt:((k:Nat):Int).toNat=k:=by omega
   rw [hkt]
   have hk8:k≤8:=by omega
   generalize toGm L d=g at *
   have hm:=Yeq (x:=rndR g k) (Xd7 ((Ysx hg.ok k).mono (Ypq (by omega))) (by omega)) (by rw [Yc6]; omega)
   obtain ⟨n,hn'⟩:∃ n,n=L.length:=⟨_,rfl⟩
   have hsz:(64:Int)*(n:Int)≤281474976710656:=by omega
   have z0:(0:Int)≤(n:Int):=by omega
   refine Za0 Zn1 (by simp) (Za9 3 rfl ?_)
   unfold Zmb
   simp only [go_sem,Zf2,Zgm]
   refine Zaa hs (by simp only [go_sem]) ?_
   simp only [go_sem,Zde,Zf3,Zvm,b1,b2,List.length_map]
   rw [← hn']
   simp only [go_sem,hsz,z0,Int.le_refl,Int.toNat_natCast]
   refine ⟨by omega,?_⟩
   refine Zau (Zau (T_W ?_))
   simp only [go_sem,Zyd]
   rw [show (List.replicate n [AV.bool false,AV.nils,AV.bool false,AV.nils]).flatten=rows n z4 from rfl]
   refine Zat (Zap [(2,.int .i64 (k:Int)),(8,.rp (gmC g)),(10,.osl (some 4) 0 0 n),(33,.int .i64 (n:Int)),(34,.int .i64 0)] (by simp only [go_sem]) (Xii (by omega) (fun e k2 k8 k10=>?_)))
   show T Tryz.prog 53 0 (.seq (.seq (.rg false Zi8) (.block 3 (.loop Zfu))) (.seq (.rg false Zex) .ret)) _ _
   have h0:rows n (qcell 0)=qc (rndR g 0):=by
    show _=qc (List.replicate g.nodes.length 0)
    unfold rows qc
    rw [hn, ← hn',List.flatMap_def,List.map_replicate]
   have hl0:n=(rndR g 0).length:=by rw [Yc6,hn,hn']
   rw [h0]
   refine Zq1 [0] [(2,.int .i64 (k:Int)),(8,.rp (gmC g)),(10,.sl (condsR (rndR g 0)))] ?_ ?_
   ·refine ⟨.inr k2,.inr k8,.inl ?_,trivial⟩
    show BV [Blk.cells (qc (rndR g 0))] [0] (e 10) _
    rw [k10]
    have hbv:=Yld (H := [Blk.cells (qc (rndR g 0))]) (ids := [0]) (b:=0) (r:=rndR g 0) rfl (by simp)
    rw [← hl0] at hbv
    exact hbv
   refine Zau (Zau (T_W ?_))
   simp only [go_sem,Zi8]
   refine Zat (Zap [(8,.rp (gmC g)),(10,.sl (condsR (rndR g 0))),(42,.int .i64 (k:Int)),(43,.int .i64 0)] (by simp only [go_sem]) (Xj9 hg.ok hk8 (fun e k10=>?_)))
   show T Tryz.prog 53 0 (.seq (.rg false Zex) .ret) _ _
   refine T_W ?_
   simp only [go_sem,Zex,k10]
   refine Zaa hm (by simp only [go_sem]) ?_
   by_cases hN:∀ q,q∈rndR g k→NumOk q
   ·rw [show numsR (rndR g k) = .tup [.sl (ss (rndR g k)),.int .i64 0] from if_pos hN]
    simp only [go_sem]
   ·rw [show numsR (rndR g k) = .tup [.nils,.int .i64 4] from if_neg hN]
    simp only [go_sem]
end GoAbs
namespace GoAbs
open Go Go.Proofs
set_option maxHeartbeats 4000000
theorem Y5l {r:List Rat}{q:Rat}:qr (r ++ [q])=qr r++rq q:=by unfold qr; rw [List.flatMap_append]; simp
end GoAbs
