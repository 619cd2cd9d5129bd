/- Lemmas for the claim (contracts of the functions that it reaches, and what they compute), without conditions. -/
import Derived.Test.YtnpgooaiiboanaaGreatK35
set_option linter.unusedVariables false
set_option linter.unusedSimpArgs false
set_option maxRecDepth 10000
set_option maxHeartbeats 2000000
namespace GoAbs
open Go Go.Proofs
theorem Ydu:(∀ (k s b:Nat) (t:List Nat),s≤b→b<s+k→pos (List.range' s k++t) b=some (b - s))∧(∀ k s x:Nat,s+k≤x→pos (List.range' s k ++ [x]) x=some k):=by
 constructor
 ·intro k
  induction k with
  | zero=>intro s b t h1 h2; omega
  | succ k ih =>
   intro s b t h1 h2
   rw [List.range'_succ,List.cons_append]
   unfold pos
   by_cases h:s=b
   ·rw [if_pos h,h,Nat.sub_self]
   ·rw [if_neg h,ih (s+1) b t (by omega) (by omega)]
    simp only [Option.map_some,Option.some.injEq]
    omega
 ·intro k
  induction k with
  | zero=>intro s x _; show pos [x] x=some 0; unfold pos; rw [if_pos rfl]
  | succ k ih =>
   intro s x h
   rw [List.range'_succ,List.cons_append]
   unfold pos
   rw [if_neg (by omega),ih (s+1) x (by omega)]
   rfl
theorem Yo8 {i:Nat}:(∀ j,j<i→pos ((i+5)::(List.range' 1 i ++ [i+3])) (1+j)=some (1+j))∧pos ((i+5)::(List.range' 1 i ++ [i+3])) (i+3)=some (i+1)∧pos ((i+5)::(List.range' 1 i ++ [i+3])) (i+5)=some 0:=by
 refine ⟨fun j hj=>?_,?_,by unfold pos; rw [if_pos rfl]⟩
 ·unfold pos
  rw [if_neg (by omega),Ydu.1 i 1 (1+j) _ (by omega) (by omega)]
  simp only [Option.map_some,Option.some.injEq]; omega
 ·unfold pos
  rw [if_neg (by omega),Ydu.2 i 1 (i+3) (by omega)]
  rfl
theorem Xag {nt w i:Nat}{e:Nat→AV}{M:RM}{r:List Rat}{b1 b2 b3:Blk}(hM:M.length=i) (l:List (Nat×AV)) (hl:Has e l) :
  Le nt 0 ⟨e,.dead::(rowsR M ++ [b1,b2,.cells (qr r),b3,.cells (ptrR w i ++ [.osl (some 4) (i+3) 0 w])])⟩ ⟨envL (l.map fun p=>(p.1,p.2.gc (pos ((i+5)::(List.range' 1 i ++ [i+3]))))),matR w (M ++ [r])⟩:=by
 have hrl:(rowsR M).length=i:=by simp [rowsR,hM]
 refine Zb8 (Zje ((i+5)::(List.range' 1 i ++ [i+3])) ?_ (fun i hi=>by omega) l hl) (congrArg (St.mk _) ?_)
 ·rw [List.nodup_cons,List.mem_append,List.mem_range'_1,List.mem_singleton,List.nodup_append]
  refine ⟨by omega,List.nodup_range',by simp,fun a ha b hb=>?_⟩
  rw [List.mem_range'_1] at ha; rw [List.mem_singleton] at hb; omega
 ·show List.map (fun j=>((Blk.dead::(rowsR M ++ [b1,b2,.cells (qr r),b3,.cells (ptrR w i ++ [.osl (some 4) (i+3) 0 w])])).getD j Blk.dead).gc (pos ((i+5)::(List.range' 1 i ++ [i+3])))) ((i+5)::(List.range' 1 i ++ [i+3]))=_
  rw [List.map_cons,List.map_append,List.map_singleton]
  have hp:(Blk.dead::(rowsR M ++ [b1,b2,.cells (qr r),b3,.cells (ptrR w i ++ [.osl (some 4) (i+3) 0 w])])).getD (i+5) Blk.dead = .cells (ptrR w i ++ [.osl (some 4) (i+3) 0 w]):=by
   rw [List.getD_eq_getElem?_getD,show i+5=(i+4)+1 by omega,List.getElem?_cons_succ,List.getElem?_append_right (by omega),hrl,show i+4 - i=4 by omega]
   rfl
  have hr:(Blk.dead::(rowsR M ++ [b1,b2,.cells (qr r),b3,.cells (ptrR w i ++ [.osl (some 4) (i+3) 0 w])])).getD (i+3) Blk.dead = .cells (qr r):=by
   rw [List.getD_eq_getElem?_getD,show i+3=(i+2)+1 by omega,List.getElem?_cons_succ,List.getElem?_append_right (by omega),hrl,show i+2 - i=2 by omega]
   rfl
  rw [hp,hr]
  unfold matR
  rw [List.length_append,hM]
  have hrs:rowsR (M ++ [r])=rowsR M ++ [.cells (qr r)]:=by unfold rowsR; rw [List.map_append]; rfl
  rw [hrs]
  congr 1
  ·show Blk.gc _ (Blk.cells (ptrR w i ++ [.osl (some 4) (i+3) 0 w]))=Blk.cells (ptrR w (i+1))
   rw [Ymb]
   simp only [Blk.gc,Zat,List.map_append,List.map_cons,List.map_nil]
   congr 2
   ·unfold ptrR
    rw [List.map_map]
    refine List.map_congr_left fun j hj=>?_
    have hj':=List.mem_range.1 hj
    simp only [Function.comp,AV.gc]
    rw [Yo8.1 j (by omega)]
   ·simp only [AV.gc]
    rw [Yo8.2.1,Nat.add_comm i 1]
  ·congr 1
   ·apply List.ext_getElem?
    intro j
    rw [List.getElem?_map]
    by_cases hj:j<i
    ·rw [List.getElem?_range' hj]
     show some (Blk.gc _ ((Blk.dead::(rowsR M ++ [b1,b2,.cells (qr r),b3,.cells (ptrR w i ++ [.osl (some 4) (i+3) 0 w])])).getD (1+1*j) Blk.dead))=_
     have hg:(Blk.dead::(rowsR M ++ [b1,b2,.cells (qr r),b3,.cells (ptrR w i ++ [.osl (some 4) (i+3) 0 w])])).getD (1+1*j) Blk.dead = .cells (qr (M.getD j [])):=by
      rw [List.getD_eq_getElem?_getD,show 1+1*j=j+1 by omega,List.getElem?_cons_succ,List.getElem?_append_left (by omega)]
      unfold rowsR
      rw [List.getElem?_map,getD_some (by omega)]; rfl
     rw [hg]
     unfold rowsR
     rw [List.getElem?_map,getD_some (M:=M) (by omega)]
     simp only [Blk.gc,Yir,Option.map_some]
    ·rw [List.getElem?_eq_none (by rw [List.length_range']; omega),List.getElem?_eq_none (by omega)]; rfl
   ·simp only [Blk.gc,Yir]
theorem Xbs {w n:Nat}{M:RM}(hn:M.length=n) (hW:Wid w M):BV (matR w M) (allOf (matR w M)) (.osl none 0 0 n) (.sl (rowsV M)):=by
 have hv:(rowsV M).length=n:=by simp [rowsV,hn]
 have hall:∀ i,i<1+n→i∈allOf (matR w M):=fun i hi=>by
  unfold allOf; rw [List.mem_range,Zax]; omega
 refine .osl none 0 0 n (ptrR w n) (rowsV M) (by unfold matR; rw [hn]; rfl) (hall 0 (by omega)) hv (fun x hx=>?_) (by rw [Zlq]; simp [es]) (fun i x j y z hx hy hz=>?_)
 ·unfold rowsV at hx; obtain ⟨r,_,rfl⟩:=List.mem_map.1 hx; rfl
 ·have hi:i<n:=by have:=(List.getElem?_eq_some_iff.1 hx).1; omega
  have hri:M[i]? = some (M.getD i []):=getD_some (by omega)
  have hx':x=rowV (M.getD i []):=by
   unfold rowsV at hx; rw [List.getElem?_map,hri] at hx; exact (Option.some.inj hx).symm
  subst hx'
  have hj:j=0:=by
   have:=(List.getElem?_eq_some_iff.1 hy).1
   unfold rowV at this; simp [AV.cells] at this; omega
  subst hj
  have hy':y=rowV (M.getD i []):=by unfold rowV at hy ⊢; simp [AV.cells] at hy; exact hy.symm
  subst hy'
  have hz':z = .osl (some 4) (1+i) 0 w:=by
   simp only [es,Nat.mul_one,Nat.add_zero,Nat.zero_add] at hz
   unfold ptrR at hz
   rw [List.getElem?_map,List.getElem?_range hi] at hz
   exact (Option.some.inj hz).symm
  subst hz'
  have hw:=hW.get (i:=i) (by omega)
  have:=Yp1 (H:=matR w M) (ids:=allOf (matR w M)) (b:=1+i) (x:=M.getD i []) (by have:=Zi6 (w:=w) (post := []) hri; rwa [List.append_nil] at this) (hall _ (by omega))
  rwa [hw] at this
theorem Xg2 {m l:Nat}{L:List Spr}{ls:List AV}{f:List Rat}(hls:ls=L.map sprAV) (hL:L.length≤1000) (hm:m≤900) (hl1:1≤l) (hl:l≤1000) (hf:f.length=m+1)
  (hok:∀ s,s∈L→EndsOk ((m+1:Nat):Int) s.1 s.2.1∧s.2.2.length≤1000000000∧∃ q,parseL s.2.2=some q∧Qb l q) (hb:1+L.length*(2*(l+1))≤390000) {K:Ex→St→Prop}
  (hK:∀ e:Nat→AV,e 0 = .int .i64 ((m+1:Nat):Int)→e 7 = .osl none 0 0 m→K (.exit 0) ⟨e,matR (m+1) (rowsM m (L.map toE) f m)⟩) :
  T Tryz.prog 110 0 (.loop Zt9) ⟨envL [(0,.int .i64 ((m+1:Nat):Int)),(1,.sl ls),(2,rowV f),(7,.osl none 0 0 0),(8,.int .i64 1)],matR (m+1) []⟩ K:=by
 have hmx:Tryz.prog.follows .mixedOrders=true:=by kernel_rfl
 refine Zae (fun c:Nat=>⟨envL [(0,.int .i64 ((m+1:Nat):Int)),(1,.sl ls),(2,rowV f),(7,.osl none 0 0 c),(8,.int .i64 ((c+1:Nat):Int))],matR (m+1) (rowsM m (L.map toE) f c)⟩)
  (fun c=>c≤m) (fun c=>m - c) 0 (by omega) (Zab _ (by simp only [go_sem]; simp)) (fun c hc N hN=>?_)
 unfold Zt9
 by_cases hcm:c<m
 ·have q1:((c+1:Nat):Int)<((m+1:Nat):Int):=by omega
  simp only [go_sem,Zt2,Z9u,Z82,q1]
  refine T_le (Zij 9 (some 4) (by simp only [go_sem]) [(0,.int .i64 ((m+1:Nat):Int)),(1,.sl ls),(2,rowV f),(7,.osl none 0 0 c),(8,.int .i64 ((c+1:Nat):Int)),(10,.int .i64 1)] (by simp only [go_sem])) ?_
  refine Zar [(0,.int .i64 ((m+1:Nat):Int)),(1,.sl ls),(2,rowV f),(7,.osl none 0 0 c),(8,.int .i64 ((c+1:Nat):Int)),(9,.osl (some 4) (1+c) 0 0),(10,.int .i64 1)] (by simp only [go_sem,Zax,Zuz]) ?_
  refine Xf0 (w:=m+1) (J:=rowsM m (L.map toE) f c) Zuz (by omega) (fun g=>rfl) (fun g=>rfl) (fun e e0 e1 e2 e7 e8 e9=>?_)
  simp only [go_sem,Z50]
  refine Zar [(0,.int .i64 ((m+1:Nat):Int)),(1,.sl ls),(2,rowV f),(7,.osl none 0 0 c),(8,.int .i64 ((c+1:Nat):Int)),(9,.osl (some 4) (1+c) 0 m),(11,.int .i64 0)] (by simp only [go_sem,e0,e1,e2,e7,e8,e9]) ?_
  refine Xgp (w:=m+1) (J:=rowsM m (L.map toE) f c) hls hL Zuz (by omega) (by omega) (by omega) hl1 hl (fun g=>rfl) hok hb (fun e e0 e1 e2 e7 e8 e9=>?_)
  have tk:=Yuk (m:=m) (c:=c) (E:=L.map toE) (f:=f)
  have hJ:(rowsM m (L.map toE) f c).length=c:=Zuz
  generalize rowsM m (L.map toE) f c=J at *
  have hr:(rowE (c+1) m (L.map toE)).length=m:=Ybg
  generalize rowE (c+1) m (L.map toE)=r at *
  have hfl:(f.map fun q=>AV.agg (rq q)).length=m+1:=by rw [List.length_map,hf]
  have hg:(f.map fun q=>AV.agg (rq q))[c+1]? = some (.agg (rq (rget f (c+1)))):=by rw [List.getElem?_map,Zag (by omega)]; rfl
  have q0:(0:Int)≤((c+1:Nat):Int):=by omega
  have q2:((c+1:Nat):Int).toNat=c+1:=by omega
  have w1:IntKind.i64.wrap (((c+1:Nat):Int)+1)=((c+1+1:Nat):Int):=by rw [Zac (by omega) (by omega)]; omega
  have hform:matR (m+1) J = .cells (ptrR (m+1) c)::rowsR J:=by unfold matR; rw [hJ]
  have pl:=Zlq (m+1) c
  have pt:(ptrR (m+1) c).take c=ptrR (m+1) c:=List.take_of_length_le (by omega)
  have ql:(qr r).length=m*4:=by rw [Zr3,hr]
  have qt:(qr r).take (m*4)=qr r:=List.take_of_length_le (by omega)
  have s1:(m+1)*64≤1099511627776:=by omega
  have s2:(c+1)*24≤1099511627776:=by omega
  have gL:∀ post:Heap,(matR (m+1) J++post).length=1+c+post.length:=fun post=>by rw [Zhw,hJ]
  have gO:∀ (post:Heap) (t:Nat),(matR (m+1) J++post)[1+c+t]? = post[t]?:=fun post t=>Zfm hJ
  have gO0:∀ (post:Heap),(matR (m+1) J++post)[1+c]? = post[0]?:=fun post=>gO post 0
  have gP:∀ post:Heap,(matR (m+1) J++post)[0]? = some (.cells (ptrR (m+1) c)):=fun post=>by rw [hform]; rfl
  have hset0:∀ (post:Heap) (bl:Blk),(matR (m+1) J++post).set 0 bl=bl::(rowsR J++post):=fun post bl=>by rw [hform]; rfl
  have hsetC:∀ (post:Heap) (y:Blk),(matR (m+1) J++post).set (1+c) y=matR (m+1) J++post.set 0 y:=fun post y=>by
   rw [List.set_append_right _ _ (by rw [Zax]; omega),Zax,hJ]
   congr 2; omega
  have hln:∀ a b c' d:Blk,(rowsR J ++ [a,b,c',d]).length+1=c+5:=fun a b c' d=>by simp [rowsR,hJ]
  have hc3:1+c+2=c+3:=by omega
  unfold rowV at e2
  simp only [go_sem,Z5f,e0,e1,e2,e7,e8,e9,hfl,hg,q0,q1,q2,Zdi,Zb2,Zdu,List.append_assoc,gL,gO,gO0,gP,hsetC,hset0,pl,pt,ql,qt,s1,s2,Z2j,w1,hc3]
  refine ⟨Nat.le_refl _,Nat.le_refl _,hN (c+1) _ (by omega) (by omega) ?_⟩
  rw [tk]
  have hqr:qr (r ++ [rget f (c+1)])=qr r++rq (rget f (c+1)):=by rw [Znb]; simp [qr]
  rw [← hqr]
  refine Zb8 (Xag (i:=c) (r:=r ++ [rget f (c+1)]) hJ [(0,.int .i64 ((m+1:Nat):Int)),(1,.sl ls),(2,.sl (f.map fun q=>AV.agg (rq q))),(7,.osl none (c+5) 0 (c+1)),(8,.int .i64 ((c+1+1:Nat):Int))] (by simp only [go_sem,e0,e1,e2,hln])) ?_
  simp only [List.map_cons,List.map_nil,AV.gc]
  rw [Yo8.2.2]
  rfl
 ·have hce:c=m:=by omega
  subst hce
  have q1:¬ ((c+1:Nat):Int)<((c+1:Nat):Int):=by omega
  simp only [go_sem,Zt2,q1]
  exact hK _ (by simp only [go_sem]) (by simp only [go_sem])
theorem rmove {m l k0:Nat}{L:List Spr}{f:List Rat}(h:NetC (m+1) (L.map toE)) (hL:L.length≤1000) (hm1:1≤m) (hm:m≤900) (hl1:1≤l) (hl:l≤1000) (hf:f.length=m+1)
  (hok:∀ s,s∈L→EndsOk ((m+1:Nat):Int) s.1 s.2.1∧s.2.2.length≤1000000000∧∃ q,parseL s.2.2=some q∧Qb l q) (hb:1+L.length*(2*(l+1))≤390000)
  (hB:Mb k0 (lapl m (L.map toE))) (hfB:Rb k0 f) (hk0:1≤k0) (hk:4 ^ (m - 1)*(3*k0+1)≤600001) :
  SpecV Tryz.prog Yug [.int .i64 ((m+1:Nat):Int),.sl (L.map sprAV),rowV f] (rowV (moveX m (L.map toE) f)):=by
 obtain ⟨p1,p2,p3,p4,p5⟩:=Yql h hf
 obtain ⟨_,_,hI⟩:=Yd6 h.ok
 have hE:∀ e,e∈L.map toE→e.1≤m∧e.2.1≤m∧e.1≠e.2.1:=fun e he=>⟨by have:=(hI e he).1; omega,by have:=(hI e he).2; omega,(h.ok.e e he).2.2.1⟩
 have hag:=Y0m (f:=f) hE hf
 have hMB:Mb k0 (aug (lapl m (L.map toE)) (f.drop 1)):=Y7z hB (fun x hx=>hfB x (List.mem_of_mem_drop hx))
 have hs:=rsolve p3 hm1 hm p2 hMB hk0 hk p1 p4
 have hmx:Tryz.prog.follows .mixedOrders=true:=by kernel_rfl
 have hsl:(solR (jorN m 0 (aug (lapl m (L.map toE)) (f.drop 1))) m m).length=m:=by simp [solR]
 rw [← p5]
 refine Zba Ypc (by simp) (Zct 3 rfl ?_)
 unfold Ymd
 unfold rowV
 simp only [go_sem,Z76,Z9d,Z86]
 refine T_le (Zij 7 none (by simp only [go_sem]) [(0,.int .i64 ((m+1:Nat):Int)),(1,.sl (L.map sprAV)),(2,.sl (f.map fun q=>AV.agg (rq q))),(8,.int .i64 1)] (by simp only [go_sem])) ?_
 refine Zar [(0,.int .i64 ((m+1:Nat):Int)),(1,.sl (L.map sprAV)),(2,.sl (f.map fun q=>AV.agg (rq q))),(7,.osl none 0 0 0),(8,.int .i64 1)] (by simp only [go_sem]) ?_
 refine Xg2 rfl hL hm hl1 hl hf hok hb (fun e e0 e7=>?_)
 rw [hag]
 generalize aug (lapl m (L.map toE)) (f.drop 1)=M at *
 have w1:IntKind.i64.wrap (((m+1:Nat):Int) - 1)=(m:Int):=by rw [Zac (by omega) (by omega)]; omega
 have hbv:=Xbs p3 p2
 simp only [go_sem,Z39,e0,e7,w1]
 refine Zj4 (ids:=allOf (matR (m+1) M)) hs (by simp only [go_sem]; exact hbv) ?_
 unfold rowV
 simp only [go_sem]
 generalize solR (jorN m 0 M) m m=x at *
 refine T_le (Zje [] (by simp) (fun i hi=>by omega) [(15,.sl (x.map fun q=>AV.agg (rq q)))] (by simp only [go_sem])) ?_
 show T Tryz.prog 110 0 _ ⟨envL [(15,.sl (x.map fun q=>AV.agg (rq q)))],[]⟩ _
 refine T_W ?_
 have w0:=rwhole (v:=0) (by decide)
 have cl:(rc 0 1).length=4:=rfl
 have ct:(rc 0 1).take 4=rc 0 1:=rfl
 have cd:(rc 0 1).drop 4 = []:=rfl
 have hxl:(x.map fun q=>AV.agg (rq q)).length=m:=by rw [List.length_map,hsl]
 have s1:(1+m)*64≤1099511627776:=by omega
 have ql:(qr x).length=m*4:=by rw [Zr3,hsl]
 simp only [go_sem,Z5s]
 refine Zaa w0 (by simp only [go_sem]) ?_
 simp only [go_sem,avR,cl,ct,cd,hxl,Yls,s1,ql]
 refine ⟨Ykw,?_⟩
 have:=Yp1 (H := [.dead,.cells (rc 0 1++qr x)]) (ids:=allOf [.dead,.cells (rc 0 1++qr x)]) (b:=1) (x:=0::x) (by show some (Blk.cells (rc 0 1++qr x))=_; rfl) (by simp [allOf])
 rwa [List.length_cons,hsl,Nat.add_comm m 1] at this
end GoAbs
namespace GoAbs
open Go Go.Proofs
set_option exponentiation.threshold 20000
end GoAbs
namespace GoAbs
open Go Go.Proofs
end GoAbs
namespace GoAbs
open Go Go.Proofs
theorem Yrc {L:List Spr}:(fewL L).length=min (mostL L) L.length:=by unfold fewL; rw [List.length_map,List.length_take]
theorem Ywy {L:List Spr}:∀ s,s∈fewL L→s.2.2.length≤23:=fun s hs=>by
 obtain ⟨t,_,rfl⟩:=List.mem_map.1 hs
 exact Ygu
theorem Z62 {n:Int}{s:Spr}{q:Rat}(h:sprOk n s=true) (hq:parseL s.2.2=some q):EndsOk n s.1 s.2.1∧StiffOk q:=by
 unfold sprOk at h
 rw [hq] at h
 obtain ⟨h1,h2⟩:=Bool.and_eq_true_iff.1 h
 exact ⟨of_decide_eq_true h1,of_decide_eq_true h2⟩
end GoAbs
namespace GoAbs
open Go Go.Proofs
set_option exponentiation.threshold 20000
theorem Y67 {n:Nat}{L:List Spr}(h:∀ s,s∈L→EndsOk (n:Int) s.1 s.2.1):EndsAt n (L.map sprAV) (L.map toE):=by
 refine ⟨by simp,fun k e he=>?_⟩
 rw [List.getElem?_map] at he
 cases hs:L[k]? with
 | none=>rw [hs] at he; simp at he
 | some s =>
  rw [hs] at he
  obtain rfl:toE s=e:=by simpa using he
  obtain ⟨h1,h2,h3,h4,h5⟩:=h s (List.mem_of_getElem? hs)
  refine ⟨by show s.1.toNat<n; omega,by show s.2.1.toNat<n; omega,.str (bs s.2.2),?_⟩
  rw [List.getElem?_map,hs]
  show some (AV.agg [.int .i64 s.1,.int .i64 s.2.1,.str (bs s.2.2)])=some (AV.agg [.int .i64 ((s.1.toNat:Nat):Int),.int .i64 ((s.2.1.toNat:Nat):Int),.str (bs s.2.2)])
  rw [Int.toNat_of_nonneg h1,Int.toNat_of_nonneg h3]
theorem Yzz {n:Int}{L:List Spr}(hL:L.length≤9) (h:∀ s,s∈L→sprOk n s=true∧∃ q,parseL s.2.2=some q) (h6:∀ s,s∈L→s.2.2.length≤6) (hn:0≤n):NetL n.toNat L:=by
 refine ⟨by omega,fun s hs=>?_⟩
 obtain ⟨h1,q,hq⟩:=h s hs
 obtain ⟨he,hp,_⟩:=Z62 h1 hq
 obtain ⟨m1,m2⟩:=Yrq hq (h6 s hs)
 rw [Int.toNat_of_nonneg hn]
 exact ⟨he,q,hq,hp,m1,m2,by have:=h6 s hs; omega⟩
end GoAbs
namespace GoAbs
open Go Go.Proofs
set_option exponentiation.threshold 20000
end GoAbs
namespace GoAbs
open Go Go.Proofs
set_option exponentiation.threshold 20000
def numsL (L:List (List UInt8)):List (List UInt8):=(L.take 42).map shortS
theorem Y04 {L:List (List UInt8)}:(numsL L).length≤42:=by unfold numsL; rw [List.length_map,List.length_take]; omega
theorem Yqm {L:List (List UInt8)}:∀ l,l∈numsL L→l.length≤23:=fun l hl=>by
 unfold numsL at hl; obtain ⟨t,_,rfl⟩:=List.mem_map.1 hl; exact Ygu
theorem Y7o {L:List (List UInt8)}{K:Ex→St→Prop}
  (hK:∀ e:Nat→AV,e 3 = .osl none 0 0 (numsL L).length→K (.exit 0) ⟨e,[.cells (txts (numsL L))]⟩) :
  T Tryz.prog 25 0 (.loop Zv8) ⟨envL [(0,.sl (txts L)),(3,.osl none 0 0 0),(4,.int .i64 0)],[.cells []]⟩ K:=by
 have hm:Tryz.prog.follows .mixedOrders=true:=by kernel_rfl
 refine Zae (fun i:Nat=>⟨envL [(0,.sl (txts L)),(3,.osl none 0 0 i),(4,.int .i64 (i:Int))],[.cells (txts ((L.take i).map shortS))]⟩)
  (fun i=>i≤L.length∧i≤42) (fun i=>L.length - i) 0 ⟨by omega,by omega⟩ (Zab _ (by simp only [go_sem]; simp)) (fun i hI N hN=>?_)
 obtain ⟨h1,h2⟩:=hI
 unfold Zv8
 by_cases hi:i<L.length
 ·have q0:(0:Int)≤(i:Int):=by omega
  have q1:(i:Int)<(L.length:Int):=by omega
  by_cases h42:i<42
  ·have q2:(i:Int)<42:=by omega
   obtain ⟨l,hli⟩:∃ l,L[i]? = some l:=⟨_,List.getElem?_eq_getElem hi⟩
   have gl:=Z4x hli
   have tk:(L.take (i+1)).map shortS=(L.take i).map shortS ++ [shortS l]:=by rw [List.take_add_one,hli,List.map_append]; rfl
   have e1:IntKind.i64.wrap ((i:Int)+1)=((i+1:Nat):Int):=by rw [Zac (by omega) (by omega)]; omega
   have l1:(txts ((L.take i).map shortS)).length=i:=by rw [Zbv,List.length_map,List.length_take]; omega
   have l2:(txts ((L.take i).map shortS)).take i=txts ((L.take i).map shortS):=List.take_of_length_le (by omega)
   have s1:(i+1)*16≤1099511627776:=by omega
   simp only [go_sem,Zlt,Z9t,Zbv,q0,q1,q2,gl]
   refine Zaa lshort (by simp only [go_sem]) ?_
   simp only [go_sem,l1,l2,s1,Z70,e1]
   refine ⟨Nat.le_refl _,hN (i+1) _ ⟨by omega,by omega⟩ (by omega) (Zb8 (Zje [2] (by decide) (fun i hi=>by omega) [(0,.sl (txts L)),(3,.osl none 2 0 (i+1)),(4,.int .i64 ((i+1:Nat):Int))] (by simp only [go_sem])) ?_)⟩
   have hs:txts ((L.take (i+1)).map shortS)=txts ((L.take i).map shortS) ++ [.str (bs (shortS l))]:=by rw [tk]; unfold txts; rw [List.map_append]; rfl
   show St.mk _ [Blk.cells (gcL _ (txts ((L.take i).map shortS) ++ [.str (bs (shortS l))]))]=_
   rw [← hs,Xb3]
   rfl
  ·have q2:¬ (i:Int)<42:=by omega
   have hf:(L.take i).map shortS=numsL L:=by unfold numsL; rw [show i=42 by omega]
   have hfl:(numsL L).length=i:=by rw [← hf,List.length_map,List.length_take]; omega
   rw [hfl] at hK
   rw [hf]
   simp only [go_sem,Zlt,Zbv,q1,q2]
   exact hK _ (by simp only [go_sem])
 ·have q1:¬ (i:Int)<(L.length:Int):=by omega
  have hf:(L.take i).map shortS=numsL L:=by unfold numsL; rw [List.take_of_length_le (by omega),List.take_of_length_le (by omega)]
  have hfl:(numsL L).length=i:=by rw [← hf,List.length_map,List.length_take]; omega
  rw [hfl] at hK
  rw [hf]
  simp only [go_sem,Zlt,Zbv,q1]
  exact hK _ (by simp only [go_sem])
theorem lnums {L:List (List UInt8)}:SpecV Tryz.prog Yvo [.sl (txts L)] (.sl (txts (numsL L))):=by
 refine Zba Yqw (by simp) (Zct 1 rfl ?_)
 unfold Ynu
 simp only [go_sem,Z8b,Z9l]
 refine T_le (Zij 3 none (by simp only [go_sem]) [(0,.sl (txts L))] (by simp only [go_sem])) ?_
 refine T_W ?_
 simp only [go_sem,Z95]
 refine Zar [(0,.sl (txts L)),(3,.osl none 0 0 0),(4,.int .i64 0)] (by simp only [go_sem]) ?_
 refine Y7o (fun e e3=>?_)
 simp only [go_sem,Z9e,e3]
 exact Xab rfl (by simp [allOf])
theorem Xd2 {L:List (List UInt8)}(hl:∀ l,l∈L→l.length≤1000000000∧(parseL l).isSome=true) (hL:L.length≤1000000) {K:Ex→St→Prop}
  (hK:∀ e:Nat→AV,e 3 = .osl (some 4) 0 0 L.length→K (.exit 0) ⟨e,[.cells (qr (L.map toQ))]⟩) :
  T Tryz.prog 21 0 (.loop Z7g) ⟨envL [(0,.sl (txts L)),(3,.osl (some 4) 0 0 0),(4,.int .i64 0)],[.cells []]⟩ K:=by
 have hm:Tryz.prog.follows .mixedOrders=true:=by kernel_rfl
 refine Zae (fun i:Nat=>⟨envL [(0,.sl (txts L)),(3,.osl (some 4) 0 0 i),(4,.int .i64 (i:Int))],[.cells (qr ((L.take i).map toQ))]⟩)
  (fun i=>i≤L.length) (fun i=>L.length - i) 0 (by omega) (Zab _ (by simp only [go_sem]; simp)) (fun i h1 N hN=>?_)
 unfold Z7g
 by_cases hi:i<L.length
 ·have q0:(0:Int)≤(i:Int):=by omega
  have q1:(i:Int)<(L.length:Int):=by omega
  obtain ⟨l,hli⟩:∃ l,L[i]? = some l:=⟨_,List.getElem?_eq_getElem hi⟩
  obtain ⟨k1,k2⟩:=hl l (List.mem_of_getElem? hli)
  obtain ⟨q,hq⟩:=Option.isSome_iff_exists.1 k2
  have hqq:toQ l=q:=by unfold toQ; rw [hq]; rfl
  have ho:=rof k1 hq
  have gl:=Z4x hli
  have e1:IntKind.i64.wrap ((i:Int)+1)=((i+1:Nat):Int):=by rw [Zac (by omega) (by omega)]; omega
  have tk:qr ((L.take (i+1)).map toQ)=qr ((L.take i).map toQ)++rq q:=by rw [List.take_add_one,hli,List.map_append,Znb, ← hqq]; simp [qr]
  have l1:(qr ((L.take i).map toQ)).length=i*4:=by rw [Zr3,List.length_map,List.length_take]; congr 1; omega
  have l2:(qr ((L.take i).map toQ)).take (i*4)=qr ((L.take i).map toQ):=List.take_of_length_le (by omega)
  have s1:(i+1)*64≤1099511627776:=by omega
  have hr4:rc q.num q.den=rq q:=rfl
  simp only [go_sem,Z6v,Yg8,Zbv,q0,q1,gl]
  refine Zaa ho (by simp only [go_sem]) ?_
  simp only [go_sem,avR,hr4,Zdi,Zb2,Zdu,l1,l2,s1,Yha,e1]
  refine ⟨Nat.le_refl _,hN (i+1) _ (by omega) (by omega) (Zb8 (Zje [2] (by decide) (fun i hi=>by omega) [(0,.sl (txts L)),(3,.osl (some 4) 2 0 (i+1)),(4,.int .i64 ((i+1:Nat):Int))] (by simp only [go_sem])) ?_)⟩
  show St.mk _ [Blk.cells (gcL _ (qr ((L.take i).map toQ)++rq q))]=_
  rw [← tk,Yir]
  rfl
 ·have hie:i=L.length:=by omega
  subst hie
  have q1:¬ ((L.length:Nat):Int)<(L.length:Int):=by omega
  simp only [go_sem,Z6v,Zbv,q1,List.take_length]
  exact hK _ (by simp only [go_sem])
theorem rqs {L:List (List UInt8)}(hl:∀ l,l∈L→l.length≤1000000000∧(parseL l).isSome=true) (hL:L.length≤1000000):SpecV Tryz.prog Y4l [.sl (txts L)] (rowV (L.map toQ)):=by
 refine Zba Yyh (by simp) (Zct 1 rfl ?_)
 unfold Y03
 simp only [go_sem,Yf7,Yg6]
 refine T_le (Zij 3 (some 4) (by simp only [go_sem]) [(0,.sl (txts L))] (by simp only [go_sem])) ?_
 refine T_W ?_
 simp only [go_sem,Ygk]
 refine Zar [(0,.sl (txts L)),(3,.osl (some 4) 0 0 0),(4,.int .i64 0)] (by simp only [go_sem]) ?_
 refine Xd2 hl hL (fun e e3=>?_)
 simp only [go_sem,Yhd,e3]
 have:=Yp1 (H := [.cells (qr (L.map toQ))]) (ids:=allOf [.cells (qr (L.map toQ))]) (b:=0) (x:=L.map toQ) rfl (by simp [allOf])
 rwa [List.length_map] at this
end GoAbs
namespace GoAbs
open Go Go.Proofs
set_option exponentiation.threshold 20000
theorem Ysj {l:List UInt8}{q:Rat}{k:Nat}(hk:1≤k) (h:parseL l=some q) (hl:l.length≤k):q.num.natAbs<10 ^ k∧q.den<10 ^ k:=by
 obtain ⟨_,h2,h3,h4⟩:=Z6p h
 have hs:(signL l).1.length≤k:=by
  unfold signL
  split
  ·show l.tail.length≤k
   rw [List.length_tail]; omega
  ·exact hl
 have hb:(befL (signL l).1).length≤k:=by
  unfold befL
  exact Nat.le_trans (List.takeWhile_sublist _).length_le hs
 refine ⟨Z0t (k:=k) (by rw [h2]; exact hb),?_⟩
 by_cases h47:47∈(signL l).1
 ·refine Z0t (k:=k) ?_
  rw [(h3 h47).2]
  have:=Yci h47
  have h5:=congrArg List.length this
  rw [List.length_append,List.length_cons] at h5
  omega
 ·rw [h4 h47]; exact Nat.one_lt_pow (by omega) (by omega)
theorem Yvr {l:List UInt8}{q:Rat}(h:parseL l=some q) (hl:l.length≤23):Qb 77 q:=by
 obtain ⟨h1,h2⟩:=Ysj (by omega) h hl
 have c:10 ^ 23<2 ^ 77:=by decide
 exact ⟨Nat.lt_trans h1 c,Nat.lt_trans h2 c⟩
theorem Yvh {l:List UInt8}{q:Rat}(h:parseL l=some q) (hl:l.length≤6):Qb 20 q:=by
 obtain ⟨h1,h2⟩:=Ysj (by omega) h hl
 have c:10 ^ 6<2 ^ 20:=by decide
 exact ⟨Nat.lt_trans h1 c,Nat.lt_trans h2 c⟩
theorem Xfp {low high:Nat}{L:List Spr}{t:Spr}(h:t∈oneS low high L):∃ s,s∈L∧t.2.2=s.2.2:=by
 unfold oneS at h
 obtain ⟨s,hs,ht⟩:=List.mem_flatMap.1 h
 unfold one1 at ht
 split at ht
 ·simp at ht
 ·rw [List.mem_singleton.1 ht]; exact ⟨s,hs,rfl⟩
structure NetT (n:Nat) (L:List Spr):Prop where
 net:NetL n L
 nine:L.length≤9
 six:∀ s,s∈L→s.2.2.length≤6
theorem NetT.F {n:Nat}{L:List Spr}(h:NetT n L) (m k:Nat):Qb 190 (Fsum m id k (L.map toE)):=by
 have:=Yup (n:=m) (k:=k) h.nine (fun s hs=>⟨h.six s hs,by obtain ⟨_,q,hq,_⟩:=h.net.ok s hs; exact ⟨q,hq⟩⟩)
 have c:10 ^ 57<2 ^ 190:=by decide
 exact ⟨Nat.lt_trans this.1 c,Nat.lt_trans this.2 c⟩
theorem NetT.G {n a b:Nat}{L:List Spr}(h:NetT n L) (h2:2≤n) (ha:a<n) (hb:b<n):Qb 190 (Gr n (L.map toE) a b):=by
 unfold Gr
 split
 ·exact Qb.zero (by omega)
 ·rename_i hab
  rw [Yuf h2 h.net ha hb hab]
  have hone:=Xal h.net (low:=min a b) (high:=max a b) (by omega) (by omega)
  have hl:(oneS (min a b) (max a b) L).length≤L.length:=by
   unfold oneS
   generalize L=Y
   induction Y with
   | nil=>simp
   | cons s Y ih =>
    rw [List.flatMap_cons,List.length_append,List.length_cons]
    have:(one1 (min a b) (max a b) s).length≤1:=by unfold one1; split <;> simp
    omega
  exact NetT.F (n:=n - 1) ⟨hone,by have:=h.nine; omega,fun t ht=>by obtain ⟨s,hs,e⟩:=Xfp ht; rw [e]; exact h.six s hs⟩ _ _
theorem Y08 {R:List Nat}{g:Nat→Rat}{k:Nat}(h:∀ i,i∈R→Qb k (g i)):Qb (1+R.length*(k+1)) (sumL R g):=by
 induction R with
 | nil=>exact Qb.zero (by omega)
 | cons i R ih =>
  rw [Zam]
  exact ((h i (by simp)).add2 (ih (fun j hj=>h j (by simp [hj])))).mono (by rw [List.length_cons,Nat.add_mul]; omega)
theorem Sol.upto {n:Nat}{E:List Sp}{x y v:Nat→Rat}(h:Sol n E x v) (hxy:∀ i,i∈Rn n→y i=x i):Sol n E y v:=fun i hi=>by
 rw [← h i hi]; exact Zai (fun j hj=>by rw [hxy j hj])
theorem Yxd {m:Nat}{E:List Sp}{f:List Rat}(h:NetC (m+1) E) (hf:f.length=m+1) {p:Nat}(hp1:1≤p) (hp:p<m+1) :
  rget (moveX m E f) p=sumL (Rn (m+1)) (fun c=>rget f c*(Gr (m+1) E p 0+Gr (m+1) E 0 c - Gr (m+1) E p c)) / (2*Fsum (m+1) id m E):=by
 have hz:∃ z:Nat→Nat→Rat,∀ c,c<m+1→Sol (m+1) E (z c) (edge c 0)∧z c 0=0:=by
  refine ⟨fun c=>if hc:c<m+1 then (fun j=>if j=0 then 0 else Classical.choose (h.unit hc (show 0<m+1 by omega)) j) else fun _=>0,fun c hc=>?_⟩
  have hs:=(Classical.choose_spec (h.unit hc (show 0<m+1 by omega))).1
  have e:(if hc:c<m+1 then (fun j=>if j=0 then (0:Rat) else Classical.choose (h.unit hc (show 0<m+1 by omega)) j) else fun _=>0)=(fun j=>if j=0 then (0:Rat) else Classical.choose (h.unit hc (show 0<m+1 by omega)) j):=dif_pos hc
  show Sol (m+1) E (if hc:c<m+1 then (fun j=>if j=0 then (0:Rat) else Classical.choose (h.unit hc (show 0<m+1 by omega)) j) else fun _=>0) _∧(if hc:c<m+1 then (fun j=>if j=0 then (0:Rat) else Classical.choose (h.unit hc (show 0<m+1 by omega)) j) else fun _=>0) 0=0
  rw [e]
  refine ⟨hs.upto (fun i hi=>?_),?_⟩
  ·have:=List.mem_range'_1.1 hi
   show (if i=0 then (0:Rat) else _)=_
   rw [if_neg (by omega)]
  ·show (if (0:Nat)=0 then (0:Rat) else _)=0
   rw [if_pos rfl]
 obtain ⟨z,hz⟩:=hz
 have hx:Sol (m+1) E (fun j=>sumL (Rn (m+1)) (fun c=>rget f c*z c j)) (rget f):=fun i hi=>by
  have hi':=List.mem_range'_1.1 hi
  have e1:sumL (Rn (m+1)) (fun j=>sumL (Rn (m+1)) (fun c=>rget f c*z c j)*Lm id E i j)=sumL (Rn (m+1)) (fun c=>rget f c*sumL (Rn (m+1)) (fun j=>z c j*Lm id E i j)):=by
   have e2:∀ j,j∈Rn (m+1)→sumL (Rn (m+1)) (fun c=>rget f c*z c j)*Lm id E i j=sumL (Rn (m+1)) (fun c=>rget f c*(z c j*Lm id E i j)):=fun j _=>by
    rw [Rat.mul_comm, ← Zbb]
    exact Zai (fun c _=>by grind)
   rw [Zai e2,Ylf]
   exact Zai (fun c _=>Zbb)
  rw [e1]
  have e3:sumL (Rn (m+1)) (fun c=>rget f c*sumL (Rn (m+1)) (fun j=>z c j*Lm id E i j))=sumL (Rn (m+1)) (fun c=>(if c=i then 1 else 0)*rget f c):=Zai (fun c hc=>by
   have hc':=List.mem_range'_1.1 hc
   rw [(hz c (by omega)).1 i hi]
   unfold edge
   by_cases hci:c=i
   ·rw [if_pos hci.symm,if_pos hci,if_neg (by omega)]; grind
   ·rw [if_neg (fun k=>hci k.symm),if_neg hci,if_neg (by omega)]; grind)
  rw [e3,Z6i List.nodup_range',if_pos hi]
 have hu:=h.uniq (Yrv h hf) hx p (by show p∈List.range' 1 (m+1 - 1); rw [List.mem_range'_1]; omega)
 have hD:=h.dt.2
 rw [Nat.add_sub_cancel] at hD
 rw [hu]
 have e4:∀ c,c∈Rn (m+1)→rget f c*z c p=(1 / (2*Fsum (m+1) id m E))*(rget f c*(Gr (m+1) E p 0+Gr (m+1) E 0 c - Gr (m+1) E p c)):=fun c hc=>by
  have hc':=List.mem_range'_1.1 hc
  have ht:=h.transfer (a:=c) (b:=0) (p:=p) (q:=0) (by omega) (by omega) hp (by omega) (hz c (by omega)).1
  rw [Y50 hp (by omega) (hz c (by omega)).2,(hz c (by omega)).2,Y60,Y60,Y60,Y60,Nat.add_sub_cancel] at ht
  have g0:Gr (m+1) E 0 0=0:=by unfold Gr; rw [if_pos rfl]
  rw [g0] at ht
  have hzp:z c p=(Gr (m+1) E p 0 / Fsum (m+1) id m E+Gr (m+1) E 0 c / Fsum (m+1) id m E - Gr (m+1) E p c / Fsum (m+1) id m E - 0 / Fsum (m+1) id m E) / 2:=by rw [← ht]; grind
  rw [hzp]
  generalize Fsum (m+1) id m E=D at *
  have hD0:D≠0:=by grind
  grind
 rw [Zai e4,Zbb]
 generalize sumL (Rn (m+1)) (fun c=>rget f c*(Gr (m+1) E p 0+Gr (m+1) E 0 c - Gr (m+1) E p c))=S
 generalize Fsum (m+1) id m E=D at *
 have hD0:D≠0:=by grind
 grind
theorem NetT.move {m:Nat}{L:List Spr}(h:NetT (m+1) L) (hm5:m≤5) (hm:1≤m) (hc:connE (m+1) (L.map toE)) {f:List Rat}(hf:f.length=m+1) (hfb:Rb 20 f):Rb 4000 (moveX m (L.map toE) f):=fun x hx=>by
 have hn:=h.net.netC (by omega) (by omega) hc
 obtain ⟨p,hp⟩:=List.mem_iff_getElem?.1 hx
 have hpl:p<(moveX m (L.map toE) f).length:=(List.getElem?_eq_some_iff.1 hp).1
 rw [Z44] at hpl
 have hxp:x=rget (moveX m (L.map toE) f) p:=by rw [Zag (by rw [Z44]; exact hpl)] at hp; exact (Option.some.inj hp).symm
 rw [hxp]
 by_cases h0:p=0
 ·subst h0; rw [Y1v]; exact Qb.zero (by omega)
 ·rw [Yxd hn hf (by omega) hpl]
  have hD:=hn.dt.2
  rw [Nat.add_sub_cancel] at hD
  have kD:=h.F (m+1) m
  have k2:Qb 2 (2:Rat):=⟨by decide+kernel,by decide+kernel⟩
  have ks:=Y08 (R:=Rn (m+1)) (k:=592) (g:=fun c=>rget f c*(Gr (m+1) (L.map toE) p 0+Gr (m+1) (L.map toE) 0 c - Gr (m+1) (L.map toE) p c)) (fun c hc=>by
   have hc':=List.mem_range'_1.1 hc
   exact ((hfb.get (j:=c) (by omega)).mul2 (((h.G (by omega) hpl (by omega)).add2 (h.G (by omega) (by omega) (by omega))).sub2 (h.G (by omega) hpl (by omega)))).mono (by omega))
  have hR:(Rn (m+1)).length=m:=by simp
  rw [hR] at ks
  exact (ks.div2 (k2.mul2 kD) (by generalize Fsum (m+1) id m (L.map toE)=D at *; grind)).mono (by
   have:m*(592+1)≤5*593:=Nat.mul_le_mul_right _ hm5
   omega)
end GoAbs
namespace GoAbs
open Go Go.Proofs
set_option exponentiation.threshold 20000
theorem Yl9 {n e c:Int}{L:List Spr}{F:List (List UInt8)}{nc:List AV}(hL:L.length≤1000000000) (hl:∀ s,s∈L→s.2.2.length≤1000000000) (h:readR n L = .tup [.agg nc,.int .i64 e]) (hn3:nc.length=3)
  (hF:∀ l,l∈F→l.length≤1000000000) (hFl:F.length≤1000000)
  (hk:(c=2∧(e=2∨¬ ∀ l,l∈F→(parseL l).isSome=true))∨(c=1∧e≠2∧(∀ l,l∈F→(parseL l).isSome=true)∧(e≠0∨(F.length:Int)≠n))) :
  SpecV Tryz.prog Zi9 [.int .i64 n,.sl (L.map sprAV),.sl (txts F)] (.tup [.nils,.int .i64 c]):=by
 have hr:=Zh2 (n:=n) hL hl
 rw [h] at hr
 have hv:=Z16 hF hFl
 unfold vecR at hv
 have t3:nc.drop 3 = []:=List.drop_eq_nil_of_le (by omega)
 refine Zad Zmy (by simp) ?_
 unfold Zld
 simp only [go_sem,Zgb,Zge]
 refine Zaa hr (by simp only [go_sem]) ?_
 simp only [go_sem,Zfh,hn3,t3]
 by_cases hall:∀ l,l∈F→(parseL l).isSome=true
 ·rw [if_pos hall] at hv
  refine Zaa hv (by simp only [go_sem]) ?_
  rcases hk with ⟨rfl,rfl | hn⟩ | ⟨rfl,h2,_,h0⟩
  ·simp only [go_sem,Za7,Zf6]
  ·exact absurd hall hn
  ·have hcl:(condsR (F.map toQ)).length=F.length:=by rw [Zg2,List.length_map]
   by_cases he:e=0
   ·subst he
    have hln:¬ (F.length:Int)=n:=by rcases h0 with h | h; exact absurd rfl h; exact h
    simp only [go_sem,Za7,h2,Bool.not_true,Zcx,hcl,hln,Zj5]
   ·simp only [go_sem,Za7,h2,Bool.not_true,Zcx,he,Zj5]
 ·rw [if_neg hall] at hv
  refine Zaa hv (by simp only [go_sem]) ?_
  rcases hk with ⟨rfl,_⟩ | ⟨_,_,h3,_⟩
  ·by_cases he:e=2
   ·subst he
    simp only [go_sem,Za7,Zf6]
   ·simp only [go_sem,Za7,he,Bool.not_false,Zf6]
  ·exact absurd h3 hall
theorem Yun {m k:Nat}{L:List Spr}{E:List Sp}{F:List (List UInt8)}(hL:L.length≤1000000000) (hl:∀ s,s∈L→s.2.2.length≤1000000000) (h:readR ((m+1:Nat):Int) L = .tup [.agg (netC (m+1) E),.int .i64 0])
  (hF:∀ l,l∈F→l.length≤1000000000∧(parseL l).isSome=true) (hFl:F.length=m+1) (hm:m≤900) (hf:Rb k (F.map toQ)) (hk:1≤k) (hkl:k≤1000000)
  (hE:InN (m+1) E) (hEl:E.length≤1000000000) (hc:connB (m+1) E=false∨(connB (m+1) E=true∧sumQ (F.map toQ)≠0)) :
  SpecV Tryz.prog Zi9 [.int .i64 ((m+1:Nat):Int),.sl (L.map sprAV),.sl (txts F)] (.tup [.nils,.int .i64 5]):=by
 have hr:=Zh2 (n:=((m+1:Nat):Int)) hL hl
 rw [h] at hr
 have hv:=Z16 (L:=F) (fun l h=>(hF l h).1) (by omega)
 unfold vecR at hv
 rw [if_pos (fun l h=>(hF l h).2)] at hv
 have hcon:=Zme (n:=m+1) (E:=E) (by omega) (by omega) hE hEl
 have hfo:=Ylp hf hk (by rw [List.length_map]; omega) hkl
 obtain ⟨nc,hnc⟩:∃ nc,nc=netC (m+1) E:=⟨_,rfl⟩
 have hn3:nc.length=3:=by rw [hnc]; rfl
 have t3:nc.drop 3 = []:=by rw [hnc]; rfl
 have k3:nc.take 3=nc:=by rw [hnc]; rfl
 have hbv:∀ (H:Heap) (ids:List Nat),BVs H ids nc nc=True:=fun H ids=>by rw [hnc]; unfold netC; simp only [go_sem]
 rw [← hnc] at hr hcon
 have h02:¬ (0:Int)=2:=by decide
 have hcl:(condsR (F.map toQ)).length=m+1:=by rw [Zg2,List.length_map,hFl]
 have bq:∀ (H:Heap) (ids:List Nat) (q:Rat),BVs H ids (qcell q) (qcell q)=True:=fun H ids q=>Zaq
 refine Zad Zmy (by simp) ?_
 unfold Zld
 simp only [go_sem,Zgb,Zge]
 refine Zaa hr (by simp only [go_sem]) ?_
 simp only [go_sem,Zfh,hn3,t3]
 refine Zaa hv (by simp only [go_sem]) ?_
 simp only [go_sem,Za7,Zcx,h02,Bool.not_true,hcl]
 simp only [go_sem,Zki,hn3,t3,k3]
 rcases hc with hc | ⟨hc,hs⟩
 ·rw [hc] at hcon
  refine Zaa hcon (by simp only [go_sem,hbv]) ?_
  simp only [go_sem,Bool.not_false,Zkr]
 ·rw [hc] at hcon
  have hsg:=Ygc (sumQ (F.map toQ))
  rw [if_neg hs] at hsg
  have hne:¬ (if sumQ (F.map toQ)<0 then (-1:Int) else 1)=0:=by split <;> decide
  generalize (if sumQ (F.map toQ)<0 then (-1:Int) else 1)=sg at *
  refine Zaa hcon (by simp only [go_sem,hbv]) ?_
  simp only [go_sem,Bool.not_true]
  refine Zaa Yg7 (by simp only [go_sem]) ?_
  simp only [go_sem]
  refine Zaa hfo (by simp only [go_sem,Zbz,bq]; exact BV.fn _ _ _ _ _ rfl rfl (fun i x y h=>by simp at h) (fun i x y h=>by simp at h)) ?_
  simp only [go_sem]
  refine Zaa hsg (by simp only [go_sem,Zbz,bq]) ?_
  simp only [go_sem,hne,Zkr]
end GoAbs
namespace GoAbs
open Go Go.Proofs
set_option exponentiation.threshold 20000
theorem Yl5 {r:List Rat}{i:Nat}(hi:i<r.length):sumQ (r.take (i+1))=sumQ (r.take i)+rget r i:=by
 unfold sumQ
 rw [List.take_add_one,Zag hi,List.foldl_append]; rfl
theorem Yyy {k:Nat}{r:List Rat}(hr:Rb k r) (hk:1≤k):∀ i,i≤r.length→Qb (k+i*(k+1)) (sumQ (r.take i)):=fun i=>by
 induction i with
 | zero=>intro _; exact Qb.zero (by omega)
 | succ i ih =>
  intro h
  rw [Yl5 (by omega)]
  exact ((ih (by omega)).add2 (hr.get (j:=i) (by omega))).mono (by rw [Nat.succ_mul]; omega)
theorem Y79 {n0 n x:Int}{ls0 ls v7:AV}{F:List (List UInt8)}(hF:∀ l,l∈F→l.length≤1000000000∧(parseL l).isSome=true) (hFl:F.length≤1000) (hb:Rb 77 (F.map toQ)) (hv7:∀ f,v7.gc f=v7) (h0:∀ f,ls0.gc f=ls0) (h1:∀ f,ls.gc f=ls) {K:Ex→St→Prop}
  (hK:∀ e:Nat→AV,e 5 = .ptr 1 0→e 6 = .sl (txts F)→e 7=v7→e 8 = .int .i64 x→e 9 = .int .i64 0→e 10 = .ptr 2 0→K (.exit 0) ⟨e,[.cells [.int .i64 n0,ls0],.cells [.int .i64 n,ls],.cells (rq (sumQ (F.map toQ)))]⟩) :
  T Tryz.prog 115 0 (.loop Zep) ⟨envL [(5,.ptr 1 0),(6,.sl (txts F)),(7,v7),(8,.int .i64 x),(9,.int .i64 0),(10,.ptr 2 0),(11,.int .i64 0)],[.cells [.int .i64 n0,ls0],.cells [.int .i64 n,ls],.cells (rq 0)]⟩ K:=by
 have hm:Tryz.prog.follows .mixedOrders=true:=by kernel_rfl
 refine Zae (fun i:Nat=>⟨envL [(5,.ptr 1 0),(6,.sl (txts F)),(7,v7),(8,.int .i64 x),(9,.int .i64 0),(10,.ptr 2 0),(11,.int .i64 (i:Int))],[.cells [.int .i64 n0,ls0],.cells [.int .i64 n,ls],.cells (rq (sumQ ((F.map toQ).take i)))]⟩)
  (fun i=>i≤F.length) (fun i=>F.length - i) 0 (by omega) (Zab _ (by simp only [go_sem]; simp)) (fun i hi N hN=>?_)
 unfold Zep
 have hml:(F.map toQ).length=F.length:=by simp
 by_cases hin:i<F.length
 ·obtain ⟨l,hli⟩:∃ l,F[i]? = some l:=⟨_,List.getElem?_eq_getElem hin⟩
  obtain ⟨k1,k2⟩:=hF l (List.mem_of_getElem? hli)
  obtain ⟨q,hq⟩:=Option.isSome_iff_exists.1 k2
  have hqq:rget (F.map toQ) i=q:=by
   have:=Zag (r:=F.map toQ) (j:=i) (by omega)
   rw [List.getElem?_map,hli] at this
   rw [← Option.some.inj this]; unfold toQ; rw [hq]; rfl
  have ho:=rof k1 hq
  have gl:=Z4x hli
  have hs:=Yl5 (r:=F.map toQ) (i:=i) (by omega)
  have hbs:=Yyy hb (by omega) i (by omega)
  have hqb:=hb.get (j:=i) (by omega)
  rw [hqq] at hs hqb
  have hm1:i*(77+1)≤1000*(77+1):=Nat.mul_le_mul_right _ (by omega)
  obtain ⟨X,x1,x2,x3⟩:=Y2n (hbs.mono (show _≤100000 by omega)) (hqb.mono (show 77≤100000 by omega)) (by omega)
  have q0:(0:Int)≤(i:Int):=by omega
  have q1:(i:Int)<(F.length:Int):=by omega
  have e1:IntKind.i64.wrap ((i:Int)+1)=((i+1:Nat):Int):=by rw [Zac (by omega) (by omega)]; omega
  have hr4:rc q.num q.den=rq q:=rfl
  have bq:∀ (H:Heap) (ids:List Nat) (q:Rat),BVs H ids (rq q) (rq q)=True:=fun H ids q=>Zfa
  generalize sumQ ((F.map toQ).take i)=S at *
  simp only [go_sem,Zdq,Zdk,Zbv,q0,q1,gl,hm,Zdi,Zb2,Zdu]
  refine Zaa ho (by simp only [go_sem]) ?_
  simp only [go_sem,avR,hr4,Zdi,Zb2,Zdu]
  refine Zaa x1 (by simp only [go_sem,bq]) ?_
  simp only [go_sem]
  refine Zaa x3 (by simp only [go_sem,x2]) ?_
  simp only [go_sem,Zdi,Zb2,Zdu,Ziy,e1]
  refine hN (i+1) _ (by omega) (by omega) ?_
  rw [hs]
  exact Zab _ (by simp only [go_sem])
 ·have hie:i=F.length:=by omega
  subst hie
  have q1:¬ ((F.length:Nat):Int)<(F.length:Int):=by omega
  rw [List.take_of_length_le (by omega)]
  simp only [go_sem,Zdq,Zbv,q1]
  exact hK _ (by simp only [go_sem]) (by simp only [go_sem]) (by simp only [go_sem]) (by simp only [go_sem]) (by simp only [go_sem]) (by simp only [go_sem])
theorem Xeh {x:Int}{v7:AV}{F:List (List UInt8)}{H:Heap}(hFl:F.length≤1000) {K:Ex→St→Prop}
  (hK0:(¬ ∀ l,l∈F→l.length≤6)→∀ (e:Nat→AV),e 4 = .bool true→K .ret ⟨e,H⟩)
  (hK:(∀ l,l∈F→l.length≤6)→∀ e:Nat→AV,e 5 = .ptr 1 0→e 6 = .sl (txts F)→e 7=v7→e 8 = .int .i64 x→K (.exit 2) ⟨e,H⟩) :
  T Tryz.prog 115 0 (.loop Zes) ⟨envL [(5,.ptr 1 0),(6,.sl (txts F)),(7,v7),(8,.int .i64 x),(12,.int .i64 0)],H⟩ K:=by
 have hm:Tryz.prog.follows .mixedOrders=true:=by kernel_rfl
 refine Zae (fun i:Nat=>⟨envL [(5,.ptr 1 0),(6,.sl (txts F)),(7,v7),(8,.int .i64 x),(12,.int .i64 (i:Int))],H⟩)
  (fun i=>i≤F.length∧∀ l,l∈F.take i→l.length≤6) (fun i=>F.length - i) 0 ⟨by omega,by simp⟩ (Zab _ (by simp only [go_sem]; simp)) (fun i hi N hN=>?_)
 obtain ⟨hi,hall⟩:=hi
 unfold Zes
 by_cases hin:i<F.length
 ·obtain ⟨l,hli⟩:∃ l,F[i]? = some l:=⟨_,List.getElem?_eq_getElem hin⟩
  have gl:=Z4x hli
  have q0:(0:Int)≤(i:Int):=by omega
  have q1:(i:Int)<(F.length:Int):=by omega
  have e1:IntKind.i64.wrap ((i:Int)+1)=((i+1:Nat):Int):=by rw [Zac (by omega) (by omega)]; omega
  by_cases h6:l.length≤6
  ·have q2:¬ (l.length:Int) > 6:=by omega
   simp only [go_sem,Zb0,Zdo,Zbv,q0,q1,gl,Zal,q2,Zis,e1]
   refine hN (i+1) _ ⟨by omega,fun y hy=>?_⟩ (by omega) (Zab _ (by simp only [go_sem]))
   rw [List.take_add_one,hli] at hy
   rcases List.mem_append.1 hy with h | h
   ·exact hall y h
   ·rw [List.mem_singleton.1 h]; exact h6
  ·have q2:(l.length:Int) > 6:=by omega
   simp only [go_sem,Zb0,Zdo,Zbv,q0,q1,gl,Zal,q2,Zi2]
   refine Zaa llives (by simp only [go_sem]) ?_
   simp only [go_sem]
   exact hK0 (fun h=>h6 (h l (List.mem_of_getElem? hli))) _ (by simp only [go_sem])
 ·have hie:i=F.length:=by omega
  subst hie
  have q1:¬ ((F.length:Nat):Int)<(F.length:Int):=by omega
  rw [List.take_length] at hall
  simp only [go_sem,Zb0,Zbv,q1]
  exact hK hall _ (by simp only [go_sem]) (by simp only [go_sem]) (by simp only [go_sem]) (by simp only [go_sem])
end GoAbs
namespace GoAbs
open Go Go.Proofs
set_option exponentiation.threshold 20000
theorem Yyb (n:Int) (L:List Spr) (F:List (List UInt8)):(∃ (c e:Int) (nc:List AV),c≠0∧checkE n L F=c∧nc.length=3∧readR n L = .tup [.agg nc,.int .i64 e] ∧
   ((c=2∧(e=2∨¬ ∀ l,l∈F→(parseL l).isSome=true))∨(c=1∧e=1∧(∀ l,l∈F→(parseL l).isSome=true)))) ∨
  (checkE n L F=0∧(∀ l,l∈F→(parseL l).isSome=true)∧readR n L = .tup [.agg (netC n.toNat (L.map toE)),.int .i64 0]∧2≤n∧n≤10∧L.length≤40∧∀ s,s∈L→sprOk n s=true∧∃ q,parseL s.2.2=some q):=by
 unfold checkE readR formsE fewN
 cases h1:(L.all fun s=>(parseL s.2.2).isSome) with
 | false=>exact .inl ⟨2,2,_,by decide,by simp,rfl,by simp; rfl,.inl ⟨rfl,.inl rfl⟩⟩
 | true =>
  by_cases hF:∀ l,l∈F→(parseL l).isSome=true
  ·have hn:numsE F=0:=by unfold numsE; rw [if_pos (List.all_eq_true.2 hF)]
   cases h2:(decide (2≤n∧n≤10∧L.length≤40) && L.all (sprOk n)) with
   | false=>exact .inl ⟨1,1,_,by decide,by simp [hn],rfl,by simp; rfl,.inr ⟨rfl,rfl,hF⟩⟩
   | true =>
    obtain ⟨h3,h4⟩:=Bool.and_eq_true_iff.1 h2
    obtain ⟨g1,g2,g3⟩:=of_decide_eq_true h3
    refine .inr ⟨by simp [hn],hF,by simp,g1,g2,g3,fun s hs=>⟨List.all_eq_true.1 h4 s hs,?_⟩⟩
    exact Option.isSome_iff_exists.1 (List.all_eq_true.1 h1 s hs)
  ·have hn:numsE F=2:=by unfold numsE; rw [if_neg (fun h=>hF (List.all_eq_true.1 h))]
   cases h2:(decide (2≤n∧n≤10∧L.length≤40) && L.all (sprOk n)) with
   | false=>exact .inl ⟨2,1,_,by decide,by simp [hn],rfl,by simp; rfl,.inl ⟨rfl,.inr hF⟩⟩
   | true=>exact .inl ⟨2,0,_,by decide,by simp [hn],rfl,by simp; rfl,.inl ⟨rfl,.inr hF⟩⟩
theorem Yzo {n:Int}{L:List Spr}{M:List (List UInt8)}:SpecV Tryz.prog Z7c [.agg [.int .i64 n,.sl (L.map sprAV)],.sl (txts M)] (.bool true):=by
 have hm:Tryz.prog.follows .mixedOrders=true:=by kernel_rfl
 have hf:=lfew (n:=n) (L:=L)
 have hnu:=lnums (L:=M)
 have hk6:10<fewK n∨fewK n≤6:=by unfold fewK; split <;> omega
 have hm40:40<(fewL L).length∨(fewL L).length≤9:=by
  rw [Yrc]; unfold mostL; split <;> omega
 have h41:(fewL L).length≤41:=by rw [Yrc]; unfold mostL; split <;> omega
 have hsh:=Ywy (L:=L)
 have hFl:=Y04 (L:=M)
 have hFs:=Yqm (L:=M)
 generalize fewK n=n' at *
 generalize fewL L=L' at *
 generalize numsL M=F at *
 have hl':∀ s,s∈L'→s.2.2.length≤1000000000:=fun s hs=>by have:=hsh s hs; omega
 have hF9:∀ l,l∈F→l.length≤1000000000:=fun l hl=>by have:=hFs l hl; omega
 have hchk:SpecV Tryz.prog Ybt [.int .i64 n',.sl (L'.map sprAV),.sl (txts F)] (.int .i64 (checkE n' L' F)):=rcheck (n:=n') (L:=L') (M:=F) (by omega) hl' (by omega) hF9
 rcases Yyb n' L' F with ⟨c,e,nc,hc0,hce,hn3,hre,hk⟩ | ⟨hce,hFp,hre,g1,g2,g3,hall⟩
 ·have hmv:=Yl9 (c:=c) (by omega) hl' hre hn3 hF9 (by omega) (by
   rcases hk with h | ⟨h1,h2,h3⟩
   ·exact .inl h
   ·exact .inr ⟨h1,by omega,h3,.inl (by omega)⟩)
  rw [hce] at hchk
  refine Zad Zcs (by simp) ?_
  unfold Zce
  simp only [go_sem,Zbi,Zbo]
  refine Zaa hf (by simp only [go_sem]) ?_
  simp only [go_sem]
  refine Zaa hnu (by simp only [go_sem]) ?_
  simp only [go_sem,Zbh]
  refine Zaa hmv (by simp only [go_sem]) ?_
  simp only [go_sem,Zbk]
  refine Zaa hchk (by simp only [go_sem]) ?_
  simp only [go_sem,Zbj,Zbm,Za3,Za9,hc0]
  refine Zaa llives (by simp only [go_sem]) ?_
  simp only [go_sem]
 ·have hn6:n'≤6:=by omega
  have hL9:L'.length≤9:=by omega
  obtain ⟨m,hmn⟩:∃ m:Nat,n'=((m+1:Nat):Int):=⟨n'.toNat - 1,by omega⟩
  have hnt:n'.toNat=m+1:=by omega
  subst hmn
  rw [hce] at hchk
  by_cases hln:F.length=m+1
  ·have hends:∀ s,s∈L'→EndsOk ((m+1:Nat):Int) s.1 s.2.1:=fun s hs=>by
    obtain ⟨h1,q,hq⟩:=hall s hs
    exact (Z62 h1 hq).1
   have hok:NetOk (m+1) (L'.map toE):=by
    refine ⟨by omega,fun e he=>?_⟩
    obtain ⟨s,hs,rfl⟩:=List.mem_map.1 he
    obtain ⟨h1,q,hq⟩:=hall s hs
    obtain ⟨⟨k1,k2,k3,k4,k5⟩,k6,k7⟩:=Z62 h1 hq
    have h3:(toE s).2.2=q:=by simp [toE,hq]
    rw [h3]
    exact ⟨by show s.1.toNat<_; omega,by show s.2.1.toNat<_; omega,by show s.1.toNat≠s.2.1.toNat; omega,k6,k7⟩
   obtain ⟨_,_,hI⟩:=Yd6 hok
   have hcn:=rconn (n:=m+1) (by omega) (by omega) (Y67 hends) (by rw [List.length_map]; omega)
   rw [hnt] at hre
   have hF2:∀ l,l∈F→l.length≤1000000000∧(parseL l).isSome=true:=fun l hl=>⟨hF9 l hl,hFp l hl⟩
   have hFb:Rb 77 (F.map toQ):=fun x hx=>by
    obtain ⟨l,hl,rfl⟩:=List.mem_map.1 hx
    obtain ⟨q,hq⟩:=Option.isSome_iff_exists.1 (hFp l hl)
    have:toQ l=q:=by unfold toQ; rw [hq]; rfl
    rw [this]; exact Yvr hq (hFs l hl)
   have hln':(F.length:Int)=((m+1:Nat):Int):=by omega
   have w0:=rwhole (v:=0) (by decide)
   have cl:(rc 0 1).length=4:=rfl
   have ct:(rc 0 1).take 4=rc 0 1:=rfl
   have cd:(rc 0 1).drop 4 = []:=rfl
   have hcB:connB (m+1) (L'.map toE)=decide (connE (m+1) (L'.map toE)):=Yrd (by omega) hI
   by_cases hgood:connE (m+1) (L'.map toE)∧sumQ (F.map toQ)=0
   ·obtain ⟨hc,hs0⟩:=hgood
    rw [decide_eq_true hc] at hcn
    have hmv:=Yor rfl (by omega) hl' hre hok (by omega) hc hF2 hln (hFb.mono (by omega)) hs0
    have hlt:=llight (n:=((m+1:Nat):Int)) (L:=L') (by omega) hl'
    obtain ⟨v7,x,hv7,hgc⟩:∃ (v:AV) (x:Int),numsR (moveX m (L'.map toE) (F.map toQ)) = .tup [v,.int .i64 x]∧∀ f,v.gc f=v:=by
     unfold numsR; split
     ·exact ⟨_,_,rfl,fun f=>rfl⟩
     ·exact ⟨_,_,rfl,fun f=>rfl⟩
    have hnr:=hv7
    rw [hv7] at hmv
    have hz:=rzero (n:=(sumQ (F.map toQ)).num) (d:=(sumQ (F.map toQ)).den)
    rw [decide_eq_true (show (sumQ (F.map toQ)).num=0 by rw [hs0]; rfl)] at hz
    unfold avR at hz
    refine Zad Zcs (by simp) ?_
    unfold Zce
    simp only [go_sem,Zbi,Zbo]
    refine Zaa hf (by simp only [go_sem]) ?_
    simp only [go_sem]
    refine Zaa hnu (by simp only [go_sem]) ?_
    simp only [go_sem,Zbh]
    refine Zaa hmv (by simp only [go_sem]) ?_
    simp only [go_sem,Zbk]
    refine Zaa hchk (by simp only [go_sem]) ?_
    simp only [go_sem,Zbj,Zbv,hln',Zbm,Ze4]
    refine Zaa w0 (by simp only [go_sem]) ?_
    simp only [go_sem,avR,cl,ct,cd,Ze3]
    refine Zar [(5,.ptr 1 0),(6,.sl (txts F)),(7,v7),(8,.int .i64 x),(9,.int .i64 0),(10,.ptr 2 0),(11,.int .i64 0)] (by simp only [go_sem]) ?_
    refine Y79 hF2 (by omega) hFb hgc (fun f=>rfl) (fun f=>rfl) (fun e e5 e6 e7 e8 e9 e10=>?_)
    have hq4:rq (sumQ (F.map toQ))=rc (sumQ (F.map toQ)).num (sumQ (F.map toQ)).den:=rfl
    have bq:∀ (H:Heap) (ids:List Nat) (q:Rat),BVs H ids (rq q) (rq q)=True:=fun H ids q=>Zfa
    rw [← hq4] at hz
    simp only [go_sem,Zb1,e5,e6,e7,e8,e9,e10]
    refine Zaa hcn (by simp only [go_sem]) ?_
    simp only [go_sem,Bool.not_true,e10,Zdi,Zb2]
    refine Zaa hz (by simp only [go_sem,bq]) ?_
    simp only [go_sem,Bool.not_true,Za3,e9,Ziz,e5]
    refine Zaa hlt (by simp only [go_sem]) ?_
    cases hlb:lightB L' with
    | false =>
     simp only [go_sem,Bool.not_false,Zix]
     refine Zaa llives (by simp only [go_sem]) ?_
     simp only [go_sem]
    | true =>
     simp only [go_sem,Bool.not_true,Zir]
     refine Zar [(5,.ptr 1 0),(6,.sl (txts F)),(7,v7),(8,.int .i64 x),(12,.int .i64 0)] (by simp only [go_sem,e5,e6,e7,e8]) ?_
     refine Xeh (by omega) (fun _ e e4=>by simp only [go_sem,e4]) (fun h6F e e5 e6 e7 e8=>?_)
     obtain ⟨b1,_⟩:=Bool.and_eq_true_iff.1 hlb
     have h6:∀ s,s∈L'→s.2.2.length≤6:=fun s hs=>of_decide_eq_true (List.all_eq_true.1 b1 s hs)
     have hnet:=Yzz hL9 hall h6 (by omega)
     rw [hnt] at hnet
     have hT:NetT (m+1) L':=⟨hnet,hL9,h6⟩
     have hm1:1≤m:=by omega
     have hF20:Rb 20 (F.map toQ):=fun x hx=>by
      obtain ⟨l,hl,rfl⟩:=List.mem_map.1 hx
      obtain ⟨q,hq⟩:=Option.isSome_iff_exists.1 (hFp l hl)
      have:toQ l=q:=by unfold toQ; rw [hq]; rfl
      rw [this]; exact Yvh hq (h6F l hl)
     have hml:(F.map toQ).length=m+1:=by rw [List.length_map,hln]
     have hxb:=hT.move (by omega) hm1 hc hml hF20
     have hxok:∀ q,q∈moveX m (L'.map toE) (F.map toQ)→NumOk q:=fun q hq=>Yu7 (hxb q hq) (by omega)
     have hn:=hnet.netC (by omega) (by omega) hc
     have c20:(1000000:Nat)<2 ^ 20:=by decide
     have hspr:∀ s,s∈L'→EndsOk ((m+1:Nat):Int) s.1 s.2.1∧s.2.2.length≤1000000000∧∃ q,parseL s.2.2=some q∧Qb 20 q:=fun s hs=>by
      obtain ⟨he,q,hq,_,q1,q2,_⟩:=hnet.ok s hs
      exact ⟨he,hl' s hs,q,hq,Nat.lt_of_le_of_lt q1 c20,Nat.lt_of_le_of_lt q2 c20⟩
     have hE:∀ e,e∈L'.map toE→Qb 20 e.2.2:=fun e he=>by
      obtain ⟨s,hs,rfl⟩:=List.mem_map.1 he
      obtain ⟨_,_,q,hq,hb⟩:=hspr s hs
      have:(toE s).2.2=q:=by simp [toE,hq]
      rw [this]; exact hb
     have hB:Mb 776 (lapl m (L'.map toE)):=(Ye0 hE (by omega)).mono (by rw [List.length_map]; omega)
     have h4:4 ^ (m - 1)≤4 ^ 4:=Nat.pow_le_pow_right (by omega) (by omega)
     have h5:4 ^ (m - 1)*(3*776+1)≤600001:=Nat.le_trans (Nat.mul_le_mul_right _ h4) (by decide)
     have hrm:=rmove (k0:=776) (l:=20) (f:=F.map toQ) hn (by omega) hm1 (by omega) (by omega) (by omega) hml hspr (by
      have:=Nat.mul_le_mul_right (2*(20+1)) hL9; omega) hB (hF20.mono (by omega)) (by omega) h5
     have hrq:=rqs hF2 (by omega)
     have har:=rare hxb (by omega) (by rw [Z44]; omega) hxok
     unfold numsR at hnr
     rw [if_pos hxok] at hnr
     injection hnr with hnr
     injection hnr with hv hx
     injection hx with hx
     injection hx with _ hx
     subst hx
     unfold rowV at hrq hrm har
     generalize moveX m (L'.map toE) (F.map toQ)=X at *
     simp only [go_sem,Zdt,hm,e5,e6,e7,e8]
     refine Zaa hrq (by simp only [go_sem]) ?_
     simp only [go_sem]
     refine Zaa hrm (by simp only [go_sem]) ?_
     simp only [go_sem, ← hv]
     refine Zaa har (by simp only [go_sem]) ?_
     simp only [go_sem,e8]
     refine Zaa llives (by simp only [go_sem]) ?_
     simp only [go_sem]
   ·have hmv:=Yun (k:=77) (by omega) hl' hre hF2 hln (by omega) hFb (by omega) (by omega) hI (by rw [List.length_map]; omega) (by
     rw [hcB]
     by_cases hc:connE (m+1) (L'.map toE)
     ·rw [decide_eq_true hc]; exact .inr ⟨rfl,fun h=>hgood ⟨hc,h⟩⟩
     ·rw [decide_eq_false hc]; exact .inl rfl)
    refine Zad Zcs (by simp) ?_
    unfold Zce
    simp only [go_sem,Zbi,Zbo]
    refine Zaa hf (by simp only [go_sem]) ?_
    simp only [go_sem]
    refine Zaa hnu (by simp only [go_sem]) ?_
    simp only [go_sem,Zbh]
    refine Zaa hmv (by simp only [go_sem]) ?_
    simp only [go_sem,Zbk]
    refine Zaa hchk (by simp only [go_sem]) ?_
    simp only [go_sem,Zbj,Zbv,hln',Zbm,Ze4]
    refine Zaa w0 (by simp only [go_sem]) ?_
    simp only [go_sem,avR,cl,ct,cd,Ze3]
    refine Zar [(5,.ptr 1 0),(6,.sl (txts F)),(7,.nils),(8,.int .i64 5),(9,.int .i64 0),(10,.ptr 2 0),(11,.int .i64 0)] (by simp only [go_sem]) ?_
    refine Y79 hF2 (by omega) hFb (fun f=>rfl) (fun f=>rfl) (fun f=>rfl) (fun e e5 e6 e7 e8 e9 e10=>?_)
    by_cases hc:connE (m+1) (L'.map toE)
    ·rw [decide_eq_true hc] at hcn
     have hs0:sumQ (F.map toQ)≠0:=fun h=>hgood ⟨hc,h⟩
     have hz:=rzero (n:=(sumQ (F.map toQ)).num) (d:=(sumQ (F.map toQ)).den)
     rw [decide_eq_false (show ¬ (sumQ (F.map toQ)).num=0 from fun h=>hs0 (Rat.num_eq_zero.1 h))] at hz
     unfold avR at hz
     have hq4:rq (sumQ (F.map toQ))=rc (sumQ (F.map toQ)).num (sumQ (F.map toQ)).den:=rfl
     have bq:∀ (H:Heap) (ids:List Nat) (q:Rat),BVs H ids (rq q) (rq q)=True:=fun H ids q=>Zfa
     rw [← hq4] at hz
     simp only [go_sem,Zb1,e5,e6,e7,e8,e9,e10]
     refine Zaa hcn (by simp only [go_sem]) ?_
     simp only [go_sem,Bool.not_true,e10,Zdi,Zb2]
     refine Zaa hz (by simp only [go_sem,bq]) ?_
     simp only [go_sem,Bool.not_false,Zdv,Za3,Za9,e7,e8]
     refine Zaa llives (by simp only [go_sem]) ?_
     simp only [go_sem]
    ·rw [decide_eq_false hc] at hcn
     simp only [go_sem,Zb1,e5,e6,e7,e8,e9,e10]
     refine Zaa hcn (by simp only [go_sem]) ?_
     simp only [go_sem,Bool.not_false,Zdv,Za3,Za9,e7,e8]
     refine Zaa llives (by simp only [go_sem]) ?_
     simp only [go_sem]
  ·have hmv:=Yl9 (c:=1) (by omega) hl' hre rfl hF9 (by omega) (.inr ⟨rfl,by decide,hFp,.inr (by omega)⟩)
   have hln':¬ (F.length:Int)=((m+1:Nat):Int):=by omega
   refine Zad Zcs (by simp) ?_
   unfold Zce
   simp only [go_sem,Zbi,Zbo]
   refine Zaa hf (by simp only [go_sem]) ?_
   simp only [go_sem]
   refine Zaa hnu (by simp only [go_sem]) ?_
   simp only [go_sem,Zbh]
   refine Zaa hmv (by simp only [go_sem]) ?_
   simp only [go_sem,Zbk]
   refine Zaa hchk (by simp only [go_sem]) ?_
   simp only [go_sem,Zbj,Zbv,hln',Zj2,Zbm,Za3,Za9]
   refine Zaa llives (by simp only [go_sem]) ?_
   simp only [go_sem]
end GoAbs
