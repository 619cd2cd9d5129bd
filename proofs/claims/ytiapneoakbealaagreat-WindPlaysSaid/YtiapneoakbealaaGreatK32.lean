/- Lemmas for the claim (contracts of the functions that it reaches, and what they compute), without conditions. -/
import Derived.Test.YtiapneoakbealaaGreatK31
import Derived.Test.YtiapneoakbealaaGreatProg
import Derived.KernelRfl
set_option linter.unusedVariables false
set_option linter.unusedSimpArgs false
set_option maxRecDepth 10000
set_option maxHeartbeats 2000000
namespace GoAbs
open Go Go.Proofs
def Zs7:List IOp := [oI 4 (.mv (.c .nils)) 0]
def Ztl:List IOp := [mI 11 0 0,oI 12 (.len (.t 11)) 0,oI 13 (.mv (cI 0)) 0]
def Zi3:List IOp := [oI 14 (.bin .lss (.t 13) (.t 12)) 0]
def Zs6:List IOp := [mI 15 13 0,mI 5 15 0]
def Ze0:List IOp := [mI 16 0 0,mI 17 5 0,mI 18 0 0,mI 19 5 0,xI 20 1 18 19 0,lI 21 20 0,mI 22 1 0,mI 23 5 0,xI 24 4 22 23 0,lJ 25 4 24 0,oI 26 (.bsl (some 4) 1 [.bool false,.nils,.bool false,.nils] [(0,.t 25)]) 0,⟨some 27,.app (some 4) 64 (.t 21) (.t 26),1,[0],[],none⟩,⟨some 28,.idx 1 (.t 16) (.t 17),2,[0,1],[],none⟩,⟨none,.st 1 (.t 28) (.t 27),2,[0,1],[],none⟩]
@[go_sem ↓] theorem Z62 : autoK Ze0 = (2, 1) := by kernel_rfl
@[go_sem] theorem Ysj : autoK [mI 16 0 0, mI 17 5 0, mI 18 0 0, mI 19 5 0, xI 20 1 18 19 0, lI 21 20 0, mI 22 1 0, mI 23 5 0, xI 24 4 22 23 0, lJ 25 4 24 0, oI 26 (.bsl (some 4) 1 [.bool false, .nils, .bool false, .nils] [(0, .t 25)]) 0, ⟨some 27, .app (some 4) 64 (.t 21) (.t 26), 1, [0], [], none⟩, ⟨some 28, .idx 1 (.t 16) (.t 17), 2, [0, 1], [], none⟩, ⟨none, .st 1 (.t 28) (.t 27), 2, [0, 1], [], none⟩] = (2, 1) := Z62
def Ztb:List IOp := [oI 29 (.bin .add (.t 13) (cI 1)) 0,mI 13 29 0]
def Zjf:CC := .seq (.rg false Zi3) (.seq (.cond (.t 14) .skip (.exit 0)) (.seq (.block 1 (.seq (.rg false Zs6) (.rg true Ze0))) (.rg false Ztb)))
def Ztr:List IOp := [mI 30 0 0,oI 31 (.call 126 [.t 30]) 0]
def Ztv:List IOp := [mI 32 0 0,oI 33 (.len (.t 32)) 0,mI 6 33 0]
def Ztx:List IOp := [mI 34 6 0,oI 35 (.mks (some 4) 64 [.bool false,.nils,.bool false,.nils] (.t 34) (.t 34)) 0,mI 7 35 1]
def Zor:List IOp := [mI 36 6 0,oI 37 (.bin .sub (.t 36) (cI 1)) 0,mI 8 37 0]
def Zhc:List IOp := [mI 38 8 0,oI 39 (.bin .geq (.t 38) (cI 0)) 0]
def Zo0:List IOp := [mI 42 0 0,mI 43 8 0,xI 44 1 42 43 0,lI 45 44 0,mI 46 6 0,xI 47 4 45 46 0,lJ 48 4 47 0,oI 9 (.alloc [.bool false,.nils,.bool false,.nils]) 0,⟨none,.st 4 (.t 9) (.t 48),1,[],[],none⟩]
def Zov:List IOp := [mI 49 8 0,oI 50 (.bin .add (.t 49) (cI 1)) 0,mI 10 50 0]
def Zg4:List IOp := [mI 51 10 0,mI 52 6 0,oI 53 (.bin .lss (.t 51) (.t 52)) 0]
def Zg7:List IOp := [lJ 56 4 9 0,mI 57 0 0,mI 58 8 0,xI 59 1 57 58 0,lI 60 59 0,mI 61 10 0,xI 62 4 60 61 0,lJ 63 4 62 0,mI 64 7 0,mI 65 10 0,xI 66 4 64 65 0,lJ 67 4 66 0,oI 68 (.call 84 [.t 63,.t 67]) 0,oI 69 (.callw 127 [.t 56,.t 68]) 0,⟨none,.st 4 (.t 9) (.t 69),0,[],[],none⟩]
@[go_sem ↓] theorem Z2n : autoK Zg7 = (0, 1) := by kernel_rfl
@[go_sem] theorem Yq1 : autoK [lJ 56 4 9 0, mI 57 0 0, mI 58 8 0, xI 59 1 57 58 0, lI 60 59 0, mI 61 10 0, xI 62 4 60 61 0, lJ 63 4 62 0, mI 64 7 0, mI 65 10 0, xI 66 4 64 65 0, lJ 67 4 66 0, oI 68 (.call 84 [.t 63, .t 67]) 0, oI 69 (.callw 127 [.t 56, .t 68]) 0, ⟨none, .st 4 (.t 9) (.t 69), 0, [], [], none⟩] = (0, 1) := Z2n
def Zo7:List IOp := [mI 54 10 0,oI 55 (.bin .add (.t 54) (cI 1)) 0,mI 10 55 0]
def Zje:CC := .seq (.seq (.rg false Zg4) (.cond (.t 53) .skip (.exit 4))) (.seq (.block 5 (.rg true Zg7)) (.rg false Zo7))
def Zg3:List IOp := [mI 70 7 0,mI 71 8 0,lJ 72 4 9 0,mI 73 0 0,mI 74 8 0,xI 75 1 73 74 0,lI 76 75 0,mI 77 8 0,xI 78 4 76 77 0,lJ 79 4 78 0,oI 80 (.call 128 [.t 72,.t 79]) 0,xI 81 4 70 71 0,⟨none,.st 4 (.t 81) (.t 80),0,[],[],none⟩]
@[go_sem ↓] theorem Z34 : autoK Zg3 = (0, 1) := by kernel_rfl
@[go_sem] theorem Yq0 : autoK [mI 70 7 0, mI 71 8 0, lJ 72 4 9 0, mI 73 0 0, mI 74 8 0, xI 75 1 73 74 0, lI 76 75 0, mI 77 8 0, xI 78 4 76 77 0, lJ 79 4 78 0, oI 80 (.call 128 [.t 72, .t 79]) 0, xI 81 4 70 71 0, ⟨none, .st 4 (.t 81) (.t 80), 0, [], [], none⟩] = (0, 1) := Z34
def Zo4:List IOp := [mI 40 8 0,oI 41 (.bin .sub (.t 40) (cI 1)) 0,mI 8 41 0]
def Zjc:CC := .seq (.seq (.rg false Zhc) (.cond (.t 39) .skip (.exit 2))) (.seq (.block 3 (.seq (.rg false Zo0) (.seq (.seq (.rg false Zov) (.block 4 (.loop Zje))) (.rg true Zg3)))) (.rg false Zo4))
def Zhb:List IOp := [mI 82 7 0,mI 4 82 0]
def Z4l:CC := .seq (.rg false Zs7) (.seq (.seq (.rg false Ztl) (.block 0 (.loop Zjf))) (.seq (.rg false Ztr) (.seq (.rg false Ztv) (.seq (.rg false Ztx) (.seq (.seq (.rg false Zor) (.block 2 (.loop Zjc))) (.seq (.rg false Zhb) .ret))))))
abbrev Yif:Nat:=107
theorem Yeb:fnOk Tryz.prog 107=some (83,Z4l,[.tmp 4]):=by kernel_rfl
end GoAbs
namespace GoAbs
open Go Go.Proofs
theorem Xjb {nt n0:Nat}{e:Nat→AV}{H:Heap}{Q:Ex→St→Prop}{o n i L b N:Nat}{P ls c row:List AV}(e0:e 0 = .osl none o 0 N) (e1:e 1 = .sl ls) (e5:e 5 = .int .i64 (i:Int)) (hiN:i<N) (hL:H.length=L) (ho:H[o]? = some (.cells P)) (hPN:N≤P.length)
  (hP:P[i]? = some (.osl (some 4) b 0 n)) (hb:H[b]? = some (.cells row)) (hr:row.length=n*4) (hbo:b≠o) (hls:ls[i]? = some (.agg c)) (hc:c.length=4) (hn:n≤1000000)
  (hQ:∀ e',e' 0=e 0→e' 1=e 1→e' 12=e 12→e' 13=e 13→Q .normal ⟨e',(H.set b .dead).set o (.cells (P.set i (.osl (some 4) (L+1) 0 (n+1)))) ++ [.cells c,.cells (row++c)]⟩) :
  T Tryz.prog nt n0 (.rg true Ze0) ⟨e,H⟩ Q:=by
 have hm:Tryz.prog.follows .mixedOrders=true:=by kernel_rfl
 have hoL:o<H.length:=(List.getElem?_eq_some_iff.1 ho).1
 have hbL:b<H.length:=(List.getElem?_eq_some_iff.1 hb).1
 have q0:(0:Int)≤(i:Int):=by omega
 have q1:(i:Int)<(N:Int):=by omega
 have q2:(i:Int)<(ls.length:Int):=by have:=(List.getElem?_eq_some_iff.1 hls).1; omega
 have g1:∀ X:Heap,(H++X)[o]? = some (.cells P):=fun X=>by rw [List.getElem?_append_left hoL]; exact ho
 have g2:∀ X:Heap,(H++X)[b]? = some (.cells row):=fun X=>by rw [List.getElem?_append_left hbL]; exact hb
 have s1:∀ X:Heap,(H++X).set b .dead=H.set b .dead++X:=fun X=>List.set_append_left _ _ hbL
 have g3:∀ X:Heap,(H.set b .dead++X)[o]? = some (.cells P):=fun X=>by rw [List.getElem?_append_left (by rw [List.length_set]; exact hoL),List.getElem?_set_ne hbo]; exact ho
 have s2:∀ (X:Heap) (y:Blk),(H.set b .dead++X).set o y=(H.set b .dead).set o y++X:=fun X y=>List.set_append_left _ _ (by rw [List.length_set]; exact hoL)
 have p0:∀ x y:Blk,(H ++ [x,y])[L]? = some x:=fun x y=>by rw [List.getElem?_append_right (by omega),hL,Nat.sub_self]; rfl
 have p1:∀ x y:Blk,(H.set b .dead ++ [x,y])[L+1]? = some y:=fun x y=>by rw [List.getElem?_append_right (by rw [List.length_set]; omega),List.length_set,hL,Nat.add_sub_cancel_left]; rfl
 have p2:∀ x y z:Blk,(H ++ [x,y]).set L z=H ++ [z,y]:=fun x y z=>by rw [List.set_append_right _ _ (by omega),hL,Nat.sub_self]; rfl
 have p3:∀ x y z:Blk,(H.set b .dead ++ [x,y]).set (L+1) z=H.set b .dead ++ [x,z]:=fun x y z=>by rw [List.set_append_right _ _ (by rw [List.length_set]; omega),List.length_set,hL,Nat.add_sub_cancel_left]; rfl
 have hi:i<P.length:=(List.getElem?_eq_some_iff.1 hP).1
 have hset:∀ v:AV,P.take i++v::P.drop (i+1)=P.set i v:=fun v=>by rw [List.set_eq_take_append_cons_drop,if_pos hi]
 have hPd:P.drop i = .osl (some 4) b 0 n::P.drop (i+1):=by
  have:=List.drop_eq_getElem_cons hi
  rw [this]; congr 1
  exact (List.getElem?_eq_some_iff.1 hP).2
 have z1:(n+1)*64≤1099511627776:=by omega
 have z2:n*4≤row.length:=by omega
 have tr:row.take (n*4)=row:=List.take_of_length_le (by omega)
 have tc:c.take 4=c:=List.take_of_length_le (by omega)
 have dc:c.drop 4 = []:=List.drop_eq_nil_of_le (by omega)
 have lc:4≤c.length:=by omega
 have z3:i+1≤P.length:=hi
 refine T_W ?_
 simp only [go_sem,Ze0,e0,e1,e5,hL,g1,g2,g3,s1,s2,p0,p1,p2,p3,q0,q1,q2,hls,hc,hP,hPd,hset,z1,z2,z3,tr,tc,dc,lc,hm]
 have hset':∀ v:AV,P.take i ++ [v]++P.drop (i+1)=P.set i v:=fun v=>by rw [← hset,List.append_assoc]; rfl
 refine ⟨.inl (by omega),.inl (by omega),.inl (by omega),?_⟩
 rw [hset']
 exact hQ _ (by simp only [go_sem]) (by simp only [go_sem]) (by simp only [go_sem]) (by simp only [go_sem])
def aug (M:RM) (r:List Rat):RM:=List.zipWith (fun row x=>row ++ [x]) M r
theorem Z23 {M:RM}{r:List Rat}(h:r.length=M.length):(aug M r).length=M.length:=by unfold aug; rw [List.length_zipWith]; omega
theorem Yec {M:RM}{r:List Rat}{w:Nat}(h:Wid w M):Wid (w+1) (aug M r):=fun row hr=>by
 unfold aug at hr
 obtain ⟨i,hi,he⟩:=List.getElem_of_mem hr
 rw [List.getElem_zipWith] at he
 rw [← he,List.length_append,h _ (List.getElem_mem _)]; rfl
theorem Yrv {M:RM}{r:List Rat}{i:Nat}{row:List Rat}{x:Rat}(h1:M[i]? = some row) (h2:r[i]? = some x):(aug M r)[i]? = some (row ++ [x]):=by
 unfold aug; rw [List.getElem?_zipWith,h1,h2]
def ptrsA (o n i:Nat):List AV:=((List.range i).map fun j=>AV.osl (some 4) (o+2+2*n+2*j) 0 (n+1))++((List.range' i (n - i)).map fun j=>AV.osl (some 4) (o+2+2*j) 0 n)
theorem Y1o {o n i:Nat}(h:i≤n):(ptrsA o n i).length=n:=by unfold ptrsA; simp; omega
theorem Yxs {o n:Nat}:ptrsA o n 0=ptrs o n n:=by unfold ptrsA ptrs; simp [List.range_eq_range']
theorem Y11 {o n i:Nat}(h:i<n):(ptrsA o n i)[i]? = some (.osl (some 4) (o+2+2*i) 0 n):=by
 unfold ptrsA
 rw [List.getElem?_append_right (by simp),List.length_map,List.length_range,Nat.sub_self,List.getElem?_map,List.getElem?_range' (by omega)]
 rfl
theorem Y5h {o n i:Nat}(h:i<n):(ptrsA o n i).set i (.osl (some 4) (o+2+2*n+2*i) 0 (n+1))=ptrsA o n (i+1):=by
 unfold ptrsA
 rw [List.set_append_right _ _ (by simp),List.length_map,List.length_range,Nat.sub_self,List.range_succ,List.map_append,show n - i=(n - (i+1))+1 by omega,List.range'_succ,List.map_cons,List.set_cons_zero]
 simp
def heapA (o n i:Nat) (M:RM) (r:List Rat):Heap := .cells (ptrsA o n i)::(List.replicate (2*i) .dead++(rowsH (M.drop i)++rowsH ((aug M r).take i)))
theorem Ywy {o n:Nat}{M:RM}{r:List Rat}(h:M.length=n):heapA o n 0 M r=matH o n M:=by
 unfold heapA matH; rw [Yxs,h]; simp [rowsH]
theorem Y5j {o n i:Nat}{M:RM}{r:List Rat}(hM:M.length=n) (hr:r.length=n) (hi:i≤n):(heapA o n i M r).length=1+2*n+2*i:=by
 unfold heapA
 rw [List.length_cons,List.length_append,List.length_append,Zdh,Zdh,List.length_replicate,List.length_drop,List.length_take,Z23 (by omega)]
 omega
theorem Y22 {o n i:Nat}{M:RM}{r row:List Rat}(hi:i<n) (hM:M.length=n) (hrow:M[i]? = some row):(heapA o n i M r)[2+2*i]? = some (.cells (qc row)):=by
 unfold heapA
 rw [show 2+2*i=(1+2*i)+1 by omega,List.getElem?_cons_succ,List.getElem?_append_right (by simp),List.length_replicate,show 1+2*i - 2*i=1 by omega]
 rw [List.drop_eq_getElem_cons (by omega)]
 show some (Blk.cells (qc (M[i]'(by omega))))=_
 have:=List.getElem?_eq_some_iff.1 hrow
 rw [← this.2]
theorem Yw9 {o n i:Nat}{M:RM}{r row:List Rat}{x:Rat}(hi:i<n) (hM:M.length=n) (hrow:M[i]? = some row) (hx:r[i]? = some x) (hw:row.length=n) :
  ((heapA o n i M r).set (2+2*i) .dead).set 0 (.cells ((ptrsA o n i).set i (.osl (some 4) (o+2+2*n+2*i) 0 (n+1)))) ++ [.dead,.cells (qc row++qcell x)]=heapA o n (i+1) M r:=by
 rw [Y5h hi]
 unfold heapA
 rw [show 2+2*i=(1+2*i)+1 by omega,List.set_cons_succ,List.set_cons_zero,List.set_append_right _ _ (by simp),List.length_replicate,show 1+2*i - 2*i=1 by omega]
 have hd:M.drop i=row::M.drop (i+1):=by
  rw [List.drop_eq_getElem_cons (by omega)]
  congr 1
  exact (List.getElem?_eq_some_iff.1 hrow).2
 have hr:rowsH (row::M.drop (i+1)) = .dead :: .cells (qc row)::rowsH (M.drop (i+1)):=rfl
 rw [hd,hr,List.set_append_left _ _ (by simp)]
 have ht:(aug M r).take (i+1)=(aug M r).take i ++ [row ++ [x]]:=by
  rw [List.take_add_one,Yrv hrow hx]; rfl
 have hq:qc (row ++ [x])=qc row++qcell x:=by rw [Yg4]; simp [qc]
 have happ:rowsH ((aug M r).take i ++ [row ++ [x]])=rowsH ((aug M r).take i) ++ [.dead,.cells (qc row++qcell x)]:=by
  unfold rowsH
  rw [List.flatMap_append]
  simp [hq]
 have hrep:(List.replicate (2*(i+1)) Blk.dead)=List.replicate (2*i) .dead ++ [.dead,.dead]:=by
  rw [show 2*(i+1)=2*i+2 by omega, ← List.replicate_append_replicate]; rfl
 rw [ht,happ,hrep]
 simp
end GoAbs
namespace GoAbs
open Go Go.Proofs
def condsR (r:List Rat):List AV:=r.map avQ
theorem Zfi (r:List Rat):(condsR r).length=r.length:=by simp [condsR]
theorem Zbz {r:List Rat}{i:Nat}{x:Rat}(h:r[i]? = some x):(condsR r)[i]? = some (.agg (qcell x)):=by
 unfold condsR; rw [List.getElem?_map,h]; rfl
theorem Xja {pre:Heap}{o n n0:Nat}{M:RM}{r:List Rat}(ho:pre.length=o) (hM:M.length=n) (hr:r.length=n) (hW:Wid n M) (hn:n≤1000000) {K:Ex→St→Prop}
  (hK:∀ e:Nat→AV,e 0 = .osl none o 0 n→K (.exit 0) ⟨e,pre++heapA o n n M r⟩) :
  T Tryz.prog 83 n0 (.loop Zjf) ⟨envL [(0,.osl none o 0 n),(1,.sl (condsR r)),(12,.int .i64 (n:Int)),(13,.int .i64 0)],pre++matH o n M⟩ K:=by
 refine Zfy (fun i:Nat=>⟨envL [(0,.osl none o 0 n),(1,.sl (condsR r)),(12,.int .i64 (n:Int)),(13,.int .i64 (i:Int))],pre++heapA o n i M r⟩) (fun i=>i≤n) (fun i=>n - i) 0 (by omega)
  (Zbj (Zab [(0,.osl none o 0 n),(1,.sl (condsR r)),(12,.int .i64 (n:Int)),(13,.int .i64 0)] (by simp only [go_sem])) (by rw [Ywy hM]; rfl)) (fun i hi N hN=>?_)
 unfold Zjf
 by_cases hin:i<n
 ·obtain ⟨row,hrow⟩:∃ row,M[i]? = some row:=⟨_,List.getElem?_eq_getElem (by omega)⟩
  obtain ⟨x,hx⟩:∃ x,r[i]? = some x:=⟨_,List.getElem?_eq_getElem (by omega)⟩
  have hw:row.length=n:=hW _ (List.mem_of_getElem? hrow)
  have q1:(i:Int)<(n:Int):=by omega
  have e1:IntKind.i64.wrap ((i:Int)+1)=((i+1:Nat):Int):=by rw [Zac (by omega) (by omega)]; omega
  have hAl:=Y5j (o:=o) hM hr (show i≤n by omega)
  have hL:(pre++heapA o n i M r).length=o+(1+2*n+2*i):=by rw [List.length_append,hAl,ho]
  have hgo:(pre++heapA o n i M r)[o]? = some (.cells (ptrsA o n i)):=by rw [List.getElem?_append_right (by omega),ho,Nat.sub_self]; rfl
  have hgb:(pre++heapA o n i M r)[o+2+2*i]? = some (.cells (qc row)):=by
   rw [List.getElem?_append_right (by omega),ho,show o+2+2*i - o=2+2*i by omega]; exact Y22 hin hM hrow
  refine Za9 1 rfl ?_
  simp only [go_sem,Zi3,q1]
  refine Zau (Zat (Za9 0 rfl ?_))
  simp only [go_sem,Zs6]
  refine Xjb (o:=o) (n:=n) (i:=i) (N:=n) (ls:=condsR r) (P:=ptrsA o n i) (row:=qc row) (c:=qcell x) (by simp only [go_sem]) (by simp only [go_sem]) (by simp only [go_sem]) hin hL hgo (by rw [Y1o hi]; exact Nat.le_refl _) (Y11 hin) hgb (by rw [Yo3,hw]) (by omega) (Zbz hx) rfl hn (fun e' h0 h1 h12 h13=>?_)
  simp only [go_sem] at h0 h1 h12 h13
  refine T_W ?_
  simp only [go_sem,Ztb,h13,e1]
  refine hN (i+1) _ (by omega) (by omega) (Zbj (Ye1 [o+(1+2*n+2*i)] [(0,.osl none o 0 n),(1,.sl (condsR r)),(12,.int .i64 (n:Int)),(13,.int .i64 ((i+1:Nat):Int))] ⟨.inr (by simp only [go_sem,h0]),.inr (by simp only [go_sem,h1]),.inr (by simp only [go_sem,h12]),.inr (by simp only [go_sem]),trivial⟩) ?_)
  congr 1
  rw [← Yw9 (o:=o) (n:=n) (x:=x) hin hM hrow hx hw]
  show List.set _ (o+(1+2*n+2*i)) Blk.dead=_
  rw [List.set_append_right _ _ (by rw [List.length_set,List.length_set,hL]; exact Nat.le_refl _),List.length_set,List.length_set,hL,Nat.sub_self,List.set_cons_zero]
  rw [List.set_append_right _ _ (by omega),ho,show o+2+2*i - o=2+2*i by omega,List.set_append_right _ _ (by omega),ho,Nat.sub_self,List.append_assoc]
  rw [show o+(1+2*n+2*i)+1=o+2+2*n+2*i by omega]
 ·have hie:i=n:=by omega
  subst hie
  have q1:¬ ((i:Nat):Int)<(i:Int):=by omega
  refine T_W ?_
  simp only [go_sem,Zi3,q1]
  exact hK _ (by simp only [go_sem])
end GoAbs
namespace GoAbs
open Go Go.Proofs
def heapT (o n:Nat) (A:RM):Heap := .cells (ptrsA o n n)::(List.replicate (2*n) .dead++rowsH A)
theorem Yw7 {o n:Nat}{M:RM}{r:List Rat}(hM:M.length=n) (hr:r.length=n):heapA o n n M r=heapT o n (aug M r):=by
 unfold heapA heapT
 rw [List.drop_eq_nil_of_le (by omega),List.take_of_length_le (by rw [Z23 (by omega)]; omega)]
 rfl
theorem Y1f {o n:Nat}{A:RM}(hA:A.length=n):(heapT o n A).length=1+4*n:=by
 unfold heapT
 rw [List.length_cons,List.length_append,List.length_replicate,Zdh]; omega
def swB (o n i:Nat):Nat:=if o+1≤i∧i<o+1+2*n then i+2*n else if o+1+2*n≤i∧i<o+1+4*n then i - 2*n else i
theorem Xcy (o n:Nat):∀ i,swB o n (swB o n i)=i:=fun i=>by
 unfold swB
 by_cases h1:o+1≤i∧i<o+1+2*n
 ·rw [if_pos h1,if_neg (by omega),if_pos (by omega)]; omega
 ·by_cases h2:o+1+2*n≤i∧i<o+1+4*n
  ·rw [if_neg h1,if_pos h2,if_pos (by omega)]; omega
  ·rw [if_neg h1,if_neg h2,if_neg h1,if_neg h2]
def PureH (K:Heap):Prop:=∀ f,K.map (Blk.gc f)=K
theorem PureH.clo {K:Heap}(h:PureH K) (m:Nat):Clo m K:=h _
theorem Ykg {A:RM}:PureH (rowsH A):=fun f=>Yv3
theorem Xh4 {pre:Heap}{o n:Nat}{A:RM}(ho:pre.length=o) (hp:PureH pre) (hA:A.length=n):Ren (swB o n) (pre++(matH o (n+1) A++List.replicate (2*n) .dead)) (pre++heapT o n A):=fun i=>by
 have hml:(matH o (n+1) A).length=1+2*n:=by rw [Zb1,hA]
 have hrl:(rowsH A).length=2*n:=by rw [Zdh,hA]
 have gp:∀ (j:Nat) (b:Blk),pre[j]? = some b→b.gc (sg (swB o n))=b:=fun j b hb=>by
  have:=congrArg (fun l:Heap=>l[j]?) (hp (sg (swB o n)))
  simp only [List.getElem?_map,hb,Option.map_some,Option.some.injEq] at this
  exact this
 have gr:∀ (j:Nat) (b:Blk),(rowsH A)[j]? = some b→b.gc (sg (swB o n))=b:=fun j b hb=>by
  have:=congrArg (fun l:Heap=>l[j]?) (Ykg (A:=A) (sg (swB o n)))
  simp only [List.getElem?_map,hb,Option.map_some,Option.some.injEq] at this
  exact this
 have mapid:∀ (x:Option Blk),(∀ b,x=some b→b.gc (sg (swB o n))=b)→x.map (Blk.gc (sg (swB o n)))=x:=fun x hx=>by
  cases x with
  | none=>rfl
  | some b=>rw [Option.map_some,hx b rfl]
 unfold heapT
 by_cases h0:i<o
 ·have hs:swB o n i=i:=by unfold swB; rw [if_neg (by omega),if_neg (by omega)]
  rw [hs,List.getElem?_append_left (by omega),List.getElem?_append_left (by omega),mapid _ (fun b hb=>gp i b hb)]
 ·by_cases h1:i=o
  ·have hs:swB o n i=i:=by unfold swB; rw [if_neg (by omega),if_neg (by omega)]
   rw [hs,h1,List.getElem?_append_right (by omega),List.getElem?_append_right (by omega),ho,Nat.sub_self]
   show some (Blk.cells (ptrsA o n n))=some (Blk.gc (sg (swB o n)) (.cells (ptrs o (n+1) A.length)))
   rw [hA]
   simp only [Blk.gc,Option.some.injEq,Blk.cells.injEq]
   rw [Zay]
   unfold ptrsA ptrs
   rw [Nat.sub_self]
   simp only [List.range'_zero,List.map_nil,List.append_nil,List.map_map]
   refine List.map_congr_left fun j hj=>?_
   have hj':j<n:=List.mem_range.1 hj
   simp only [Function.comp,AV.gc,sg]
   congr 1
   unfold swB; rw [if_pos (by omega)]; omega
  ·by_cases h2:i<o+1+2*n
   ·have hs:swB o n i=i+2*n:=by unfold swB; rw [if_pos (by omega)]
    rw [hs,List.getElem?_append_right (by omega),List.getElem?_append_right (by omega),ho,List.getElem?_append_right (by omega),hml]
    rw [show i - o=(i - o - 1)+1 by omega,List.getElem?_cons_succ,List.getElem?_append_left (by rw [List.length_replicate]; omega),List.getElem?_replicate,if_pos (by omega),List.getElem?_replicate,if_pos (by omega)]
    rfl
   ·by_cases h3:i<o+1+4*n
    ·have hs:swB o n i=i - 2*n:=by unfold swB; rw [if_neg (by omega),if_pos (by omega)]
     rw [hs,List.getElem?_append_right (by omega),List.getElem?_append_right (by omega),ho,List.getElem?_append_left (by omega)]
     unfold matH
     rw [show i - o=(i - o - 1)+1 by omega,List.getElem?_cons_succ,List.getElem?_append_right (by rw [List.length_replicate]; omega),List.length_replicate,show i - 2*n - o=(i - 2*n - o - 1)+1 by omega,List.getElem?_cons_succ,
      show i - o - 1 - 2*n=i - 2*n - o - 1 by omega,mapid _ (fun b hb=>gr _ b hb)]
    ·have hs:swB o n i=i:=by unfold swB; rw [if_neg (by omega),if_neg (by omega)]
     rw [hs,List.getElem?_eq_none,List.getElem?_eq_none]
     ·rfl
     ·rw [List.length_append,List.length_append,hml,List.length_replicate]; omega
     ·rw [List.length_append,List.length_cons,List.length_append,List.length_replicate,hrl]; omega
theorem Ylw:∀ {k c:Nat}{M:RM}{d:Rat},(tri k c M d).2.length=M.length
 | 0,c,M,d=>rfl
 | k+1,c,M,d=>by
  unfold tri
  split
  ·rfl
  ·rw [Ylw,Zbk]
theorem Xk6 {pre:Heap}{o n k:Nat}{A:RM}(ho:pre.length=o) (hp:PureH pre) (hA:A.length=n) (hnl:n≤999999) (hW:Wid (n+1) A) (hB:Mb k A) (hk1:1≤k) (hk:9 ^ n*k≤100000000000) (hns:NoSw n 0 A) :
  SpecR Tryz.prog Zop (pre++heapT o n A) [.osl none o 0 n] (.agg (qcell (tri n 0 A 1).1)) (pre++heapT o n (tri n 0 A 1).2):=by
 have h:=Xam (pre:=pre) (PP:=List.replicate (2*n) .dead) (o:=o) (w:=n+1) (n:=n) (k:=k) (M:=A) ho hA (by omega) (by omega) (by omega) hW hB hk1 hk hns (fun m _=>hp.clo m) (fun m _=>by unfold Clo; rw [List.map_replicate]; rfl)
 have hl:(tri n 0 A 1).2.length=n:=by rw [Ylw,hA]
 have:=Y1z (Xcy o n) (Xh4 ho hp hA) (Xh4 ho hp hl) h
 have e1 : [AV.osl none o 0 n].map (AV.gc (sg (swB o n))) = [.osl none o 0 n]:=by
  simp only [List.map_cons,List.map_nil,AV.gc,sg]
  have hs:swB o n o=o:=by unfold swB; rw [if_neg (by omega),if_neg (by omega)]
  rw [hs]
 rw [e1] at this
 exact this
end GoAbs
namespace GoAbs
open Go Go.Proofs
def bacc (row T:List Rat) (i n:Nat):Nat→Rat
 | 0=>rget row n
 | t+1=>bacc row T i n t - rget row (i+1+t)*rget T t
def bsub (A:RM) (n:Nat):Nat→List Rat
 | 0 => []
 | k+1=>bacc (A.getD (n - 1 - k) []) (bsub A n k) (n - 1 - k) n k / rget (A.getD (n - 1 - k) []) (n - 1 - k)::bsub A n k
theorem Zyw {A:RM}{n:Nat}:∀ k,(bsub A n k).length=k
 | 0=>rfl
 | k+1=>by unfold bsub; rw [List.length_cons,Zyw k]
theorem Qb.sub2 {k l:Nat}{a b:Rat}(ha:Qb k a) (hb:Qb l b):Qb (k+l+1) (a - b):=by
 rw [Rat.sub_eq_add_neg]; exact ha.add2 hb.neg
theorem Qb.mul2 {k l:Nat}{a b:Rat}(ha:Qb k a) (hb:Qb l b):Qb (k+l) (a*b):=by
 rw [← Yrt]
 have h0:(a.den:Int)*b.den≠0:=by have:=den_pos' a; have:=den_pos' b; exact Int.mul_ne_zero (by omega) (by omega)
 obtain ⟨h1,h2⟩:=Zgu (n:=a.num*b.num) h0
 refine ⟨Nat.lt_of_le_of_lt h1 ?_,Nat.lt_of_le_of_lt h2 ?_⟩
 ·rw [Int.natAbs_mul,Nat.pow_add]; exact Nat.mul_lt_mul'' ha.n hb.n
 ·rw [Int.natAbs_mul,Nat.pow_add]; exact Nat.mul_lt_mul'' ha.dz hb.dz
theorem Qb.div2 {k l:Nat}{a b:Rat}(ha:Qb k a) (hb:Qb l b) (h0:b≠0):Qb (k+l) (a / b):=by
 rw [← Yrp]
 have hn:b.num≠0:=fun h=>h0 (Rat.num_eq_zero.1 h)
 have h0:(a.den:Int)*b.num≠0:=by have:=den_pos' a; exact Int.mul_ne_zero (by omega) hn
 obtain ⟨h1,h2⟩:=Zgu (n:=a.num*b.den) h0
 refine ⟨Nat.lt_of_le_of_lt h1 ?_,Nat.lt_of_le_of_lt h2 ?_⟩
 ·rw [Int.natAbs_mul,Nat.pow_add]; exact Nat.mul_lt_mul'' ha.n hb.dz
 ·rw [Int.natAbs_mul,Nat.pow_add]; exact Nat.mul_lt_mul'' ha.dz hb.n
def bbit (a:Nat):Nat→Nat
 | 0=>a
 | k+1=>2*a+k*(a+bbit a k+1)
theorem Y2y {a k:Nat}:bbit a k≤bbit a (k+1):=by
 cases k with
 | zero=>show a≤2*a+0*_; omega
 | succ k =>
  show bbit a (k+1)≤2*a+(k+1)*(a+bbit a (k+1)+1)
  have:bbit a (k+1)≤(k+1)*(a+bbit a (k+1)+1):=Nat.le_trans (by omega) (Nat.le_mul_of_pos_left _ (by omega))
  omega
theorem Z4r {row T:List Rat}{i n a l:Nat}(hr:Rb a row) (hT:Rb l T) (hn:row.length=n+1) (hi:i+1+T.length≤n):∀ t,t≤T.length→Qb (a+t*(a+l+1)) (bacc row T i n t)
 | 0,_=>by have:=hr.get (j:=n) (by omega); simpa [bacc] using this
 | t+1,h=>by
  have h1:=Z4r hr hT hn hi t (by omega)
  have:=h1.sub2 ((hr.get (j:=i+1+t) (by omega)).mul2 (hT.get (j:=t) (by omega)))
  refine this.mono ?_
  rw [Nat.add_mul]; omega
theorem Yg6 {A:RM}{n a:Nat}(hA:Mb a A) (hW:Wid (n+1) A) (hn:A.length=n) (hp:∀ i,i<n→rget (A.getD i []) i≠0):∀ k,k≤n→Rb (bbit a k) (bsub A n k)
 | 0,_=>fun x hx=>by simp [bsub] at hx
 | k+1,h=>by
  have ih:=Yg6 hA hW hn hp k (by omega)
  have hr:=hA.get (i:=n - 1 - k) (by omega)
  have hw:=hW.get (i:=n - 1 - k) (by omega)
  intro x hx
  unfold bsub at hx
  rcases List.mem_cons.1 hx with rfl | hx
  ·have h1:=Z4r (i:=n - 1 - k) hr ih hw (by rw [Zyw]; omega) k (by rw [Zyw]; exact Nat.le_refl _)
   have h2:=h1.div2 (hr.get (j:=n - 1 - k) (by omega)) (hp _ (by omega))
   refine h2.mono ?_
   show _≤2*a+k*(a+bbit a k+1)
   omega
  ·exact (ih x hx).mono Y2y
def xC (m:Nat) (T:List Rat):List AV:=rows m z4++qc T
theorem Xhi {m:Nat}{T:List Rat}:(xC m T).length=(m+T.length)*4:=by
 unfold xC; rw [List.length_append,Zgg rfl,Yo3]; omega
theorem Xi1 {m t:Nat}{T:List Rat}(h:t<T.length):((xC m T).drop ((m+t)*4)).take 4=qcell (rget T t)∧4≤((xC m T).drop ((m+t)*4)).length:=by
 have hl:(rows m z4).length=m*4:=Zgg rfl
 have:(xC m T).drop ((m+t)*4)=(qc T).drop (t*4):=by
  unfold xC
  rw [List.drop_append,List.drop_eq_nil_of_le (by rw [hl]; omega),List.nil_append,hl]
  congr 1; omega
 rw [this]
 exact ⟨Zew (Zag h),Zja (Zag h)⟩
theorem Xg6 {m:Nat}{T:List Rat}{x:Rat}:(xC (m+1) T).take (m*4)++qcell x++(xC (m+1) T).drop (m*4+4)=xC m (x::T):=by
 have hl:(rows m z4).length=m*4:=Zgg rfl
 unfold xC
 rw [Z6y (a:=m) (b:=1),show rows 1 z4=z4 by simp [rows],List.append_assoc (rows m z4) z4 (qc T),List.take_left' hl, ← List.drop_drop,List.drop_left' hl]
 have:(z4++qc T).drop 4=qc T:=rfl
 rw [this]
 simp [qc]
theorem Xli {f:Nat→Option Nat}{m:Nat}{T:List Rat}:gcL f (xC m T)=xC m T:=by
 unfold xC
 rw [Zay,List.map_append, ← Zay, ← Zay,Xcp]
 congr 1
 rw [Zay]
 unfold rows
 rw [List.map_flatten,List.map_replicate]
 rfl
theorem Xip {H0:Heap}{o n i L bR n0 a l:Nat}{V row:List Rat}(hL:H0.length=L) (ho:H0[o]? = some (.cells (ptrsA o n n))) (hb:bR=o+2+2*n+2*i) (hR:H0[bR]? = some (.cells (qc row))) (hi:i<n) (hnl:n≤1000000)
  (hw:row.length=n+1) (hT:i+1+V.length=n) (br:Rb a row) (bT:Rb l V) (hk:2*(a+V.length*(a+l+1)+l)+1≤1000000000000) {K:Ex→St→Prop}
  (hK:∀ e:Nat→AV,e 0 = .osl none o 0 n→e 6 = .int .i64 (n:Int)→e 7 = .osl (some 4) L 0 n→e 8 = .int .i64 (i:Int)→e 9 = .ptr (L+1) 0 →
   K (.exit 4) ⟨e,H0 ++ [.cells (xC (i+1) V),.cells (qcell (bacc row V i n V.length))]⟩) :
  T Tryz.prog 83 n0 (.loop Zje) ⟨envL [(0,.osl none o 0 n),(6,.int .i64 (n:Int)),(7,.osl (some 4) L 0 n),(8,.int .i64 (i:Int)),(9,.ptr (L+1) 0),(10,.int .i64 ((i+1:Nat):Int))],
   H0 ++ [.cells (xC (i+1) V),.cells (qcell (rget row n))]⟩ K:=by
 have hm:Tryz.prog.follows .mixedOrders=true:=by kernel_rfl
 refine Zad (fun t:Nat=>⟨envL [(0,.osl none o 0 n),(6,.int .i64 (n:Int)),(7,.osl (some 4) L 0 n),(8,.int .i64 (i:Int)),(9,.ptr (L+1) 0),(10,.int .i64 ((i+1+t:Nat):Int))],
   H0 ++ [.cells (xC (i+1) V),.cells (qcell (bacc row V i n t))]⟩) (fun t=>t≤V.length) (fun t=>V.length - t) 0 (by omega) (Zab _ (by simp only [go_sem])) (fun t ht N hN=>?_)
 unfold Zje
 by_cases htl:t<V.length
 ·have q0:(0:Int)≤(i:Int):=by omega
  have q1:(i:Int)<(n:Int):=by omega
  have r0:(0:Int)≤((i+1+t:Nat):Int):=by omega
  have r1:((i+1+t:Nat):Int)<(n:Int):=by omega
  have r2:((i+1+t:Nat):Int)<((n+1:Nat):Int):=by omega
  have e1:IntKind.i64.wrap (((i+1+t:Nat):Int)+1)=((i+1+(t+1):Nat):Int):=by rw [Zac (by omega) (by omega)]; omega
  have g0:∀ X:Heap,(H0++X)[o]? = some (.cells (ptrsA o n n)):=fun X=>by rw [List.getElem?_append_left (List.getElem?_eq_some_iff.1 ho).1]; exact ho
  have g1:∀ X:Heap,(H0++X)[bR]? = some (.cells (qc row)):=fun X=>by rw [List.getElem?_append_left (List.getElem?_eq_some_iff.1 hR).1]; exact hR
  have gx:∀ x y:Blk,(H0 ++ [x,y])[L]? = some x:=fun x y=>by rw [List.getElem?_append_right (by omega),hL,Nat.sub_self]; rfl
  have gs:∀ x y:Blk,(H0 ++ [x,y])[L+1]? = some y:=fun x y=>by rw [List.getElem?_append_right (by omega),hL,Nat.add_sub_cancel_left]; rfl
  have ss:∀ x y z:Blk,(H0 ++ [x,y]).set (L+1) z=H0 ++ [x,z]:=fun x y z=>by rw [List.set_append_right _ _ (by omega),hL,Nat.add_sub_cancel_left]; rfl
  have gp:(ptrsA o n n)[i]? = some (.osl (some 4) bR 0 (n+1)):=by
   unfold ptrsA
   rw [List.getElem?_append_left (by simp; exact hi),List.getElem?_map,List.getElem?_range hi,hb]; rfl
  have rJ:row[i+1+t]? = some (rget row (i+1+t)):=Zag (by omega)
  have t1:=Zew rJ
  have t2:=Zja rJ
  obtain ⟨t3,t4⟩:=Xi1 (m:=i+1) htl
  have hql:∀ q:Rat,(4:Nat)≤(qcell q).length:=fun q=>by rw [Zao]; omega
  have hqt:∀ q:Rat,(qcell q).take 4=qcell q:=fun q=>List.take_of_length_le (by rw [Zao]; omega)
  have hqd:∀ q:Rat,(qcell q).drop 4 = []:=fun q=>rfl
  have hlen:∀ x y:Blk,(H0 ++ [x,y]).length=L+2:=fun x y=>by rw [List.length_append,hL]; rfl
  have l0:o<L+2:=by have:=(List.getElem?_eq_some_iff.1 ho).1; omega
  have l1:bR<L+2:=by have:=(List.getElem?_eq_some_iff.1 hR).1; omega
  have l2:L<L+2:=by omega
  have l3:L+1<L+2:=by omega
  have b1:Qb (a+l) (rget row (i+1+t)*rget V t):=(br.get (j:=i+1+t) (by omega)).mul2 (bT.get (j:=t) htl)
  have b2:=Z4r (i:=i) (n:=n) br bT hw (by omega) t ht
  have hmul:t*(a+l+1)≤V.length*(a+l+1):=Nat.mul_le_mul_right _ ht
  simp only [go_sem,Zg4,Zg7,hm,q0,q1,r0,r1,r2,g0,g1,gx,gs,gp,List.getElem?_drop,t1,t2,t3,t4,hql,hqt,hlen,l0,l1,l2,l3]
  refine Zaa (Yy5 (k:=a+l) ((br.get (j:=i+1+t) (by omega)).mono (by omega)) ((bT.get (j:=t) htl).mono (by omega)) (by omega)) (by simp only [go_sem,Za1,Zaj]) ?_
  simp only [go_sem,Za1]
  refine Zaa (Xi4 (k:=a+V.length*(a+l+1)+l) (b2.mono (by omega)) (b1.mono (by omega)) hk) (by simp only [go_sem,Za1,Zaj]) ?_
  simp only [go_sem,Za1,gs,ss,hlen,l3,Zao,hqd,hqt,Zo7,e1]
  exact hN (t+1) _ (by omega) (by omega) (Zab _ (by simp only [go_sem]))
 ·have hte:t=V.length:=by omega
  subst hte
  have r1:¬ ((i+1+V.length:Nat):Int)<(n:Int):=by omega
  simp only [go_sem,Zg4,r1]
  exact hK _ (by simp only [go_sem]) (by simp only [go_sem]) (by simp only [go_sem]) (by simp only [go_sem]) (by simp only [go_sem])
end GoAbs
namespace GoAbs
open Go Go.Proofs
theorem Xix {H0:Heap}{o n L n0 a:Nat}{A:RM}(hL:H0.length=L) (hclo:Clo (L+1) H0) (hn0:n0≤L) (hoL:o<L) (ho:H0[o]? = some (.cells (ptrsA o n n))) (hR:∀ i,i<n→H0[o+2+2*n+2*i]? = some (.cells (qc (A.getD i []))))
  (hn:A.length=n) (hnl:n≤1000000) (hW:Wid (n+1) A) (hB:Mb a A) (hp:∀ i,i<n→rget (A.getD i []) i≠0) (hk:∀ k,k<n→2*(a+k*(a+bbit a k+1)+bbit a k)+1≤1000000000000) {K:Ex→St→Prop}
  (hK:∀ e:Nat→AV,e 7 = .osl (some 4) L 0 n→K (.exit 2) ⟨e,H0 ++ [.cells (qc (bsub A n n))]⟩) :
  T Tryz.prog 83 n0 (.loop Zjc) ⟨envL [(0,.osl none o 0 n),(6,.int .i64 (n:Int)),(7,.osl (some 4) L 0 n),(8,.int .i64 ((n:Int) - 1))],H0 ++ [.cells (rows n z4)]⟩ K:=by
 have hm:Tryz.prog.follows .mixedOrders=true:=by kernel_rfl
 refine Zad (fun k:Nat=>⟨envL [(0,.osl none o 0 n),(6,.int .i64 (n:Int)),(7,.osl (some 4) L 0 n),(8,.int .i64 ((n:Int) - 1 - (k:Int)))],H0 ++ [.cells (xC (n - k) (bsub A n k))]⟩) (fun k=>k≤n) (fun k=>n - k) 0 (by omega)
  (Zbj (Zab [(0,.osl none o 0 n),(6,.int .i64 (n:Int)),(7,.osl (some 4) L 0 n),(8,.int .i64 ((n:Int) - 1))] (by simp only [go_sem])) (by simp [xC,bsub,qc])) (fun k hkn N hN=>?_)
 unfold Zjc
 by_cases hlt:k<n
 ·obtain ⟨i,hi⟩:∃ i,i=n - 1 - k:=⟨_,rfl⟩
  have hin:i<n:=by omega
  have ei:(n:Int) - 1 - (k:Int)=(i:Int):=by omega
  have enk:n - k=i+1:=by omega
  have enk':n - (k+1)=i:=by omega
  have hw:=hW.get (i:=i) (by omega)
  have br:=hB.get (i:=i) (by omega)
  have bT:=Yg6 hB hW hn hp k hkn
  have hTl:(bsub A n k).length=k:=Zyw k
  have hnext:bsub A n (k+1)=bacc (A.getD i []) (bsub A n k) i n k / rget (A.getD i []) i::bsub A n k:=by rw [bsub, ← hi]
  have hRi:=hR i hin
  have hpi:=hp i hin
  generalize hrow:A.getD i []=row at *
  generalize bsub A n k=V at *
  rw [ei,enk]
  have q0:(0:Int)≤(i:Int):=by omega
  have q1:(i:Int)<(n:Int):=by omega
  have q2:(i:Int)<((n+1:Nat):Int):=by omega
  have z0:(0:Int)≤(n:Int):=by omega
  have z1:(n:Int)<((n+1:Nat):Int):=by omega
  have e1:IntKind.i64.wrap ((i:Int)+1)=((i+1:Nat):Int):=by rw [Zac (by omega) (by omega)]; omega
  have e2:IntKind.i64.wrap ((i:Int) - 1)=(n:Int) - 1 - ((k+1:Nat):Int):=by rw [Zac (by omega) (by omega)]; omega
  have g0:∀ X:Heap,(H0++X)[o]? = some (.cells (ptrsA o n n)):=fun X=>by rw [List.getElem?_append_left (List.getElem?_eq_some_iff.1 ho).1]; exact ho
  have g1:∀ X:Heap,(H0++X)[o+2+2*n+2*i]? = some (.cells (qc row)):=fun X=>by rw [List.getElem?_append_left (List.getElem?_eq_some_iff.1 hRi).1]; exact hRi
  have gx:∀ x y:Blk,(H0 ++ [x,y])[L]? = some x:=fun x y=>by rw [List.getElem?_append_right (by omega),hL,Nat.sub_self]; rfl
  have gs:∀ x y:Blk,(H0 ++ [x,y])[L+1]? = some y:=fun x y=>by rw [List.getElem?_append_right (by omega),hL,Nat.add_sub_cancel_left]; rfl
  have ss:∀ x y z:Blk,(H0 ++ [x,y]).set (L+1) z=H0 ++ [x,z]:=fun x y z=>by rw [List.set_append_right _ _ (by omega),hL,Nat.add_sub_cancel_left]; rfl
  have sx:∀ x y z:Blk,(H0 ++ [x,y]).set L z=H0 ++ [z,y]:=fun x y z=>by rw [List.set_append_right _ _ (by omega),hL,Nat.sub_self]; rfl
  have eA:∀ x y:Blk,H0 ++ [x] ++ [y]=H0 ++ [x,y]:=fun x y=>by simp
  have gp:(ptrsA o n n)[i]? = some (.osl (some 4) (o+2+2*n+2*i) 0 (n+1)):=by
   unfold ptrsA
   rw [List.getElem?_append_left (by simp; exact hin),List.getElem?_map,List.getElem?_range hin]; rfl
  have rN:row[n]? = some (rget row n):=Zag (by omega)
  have rI:row[i]? = some (rget row i):=Zag (by omega)
  have t1:=Zew rN
  have t2:=Zja rN
  have t3:=Zew rI
  have t4:=Zja rI
  have hql:∀ q:Rat,(4:Nat)≤(qcell q).length:=fun q=>by rw [Zao]; omega
  have hqt:∀ q:Rat,(qcell q).take 4=qcell q:=fun q=>List.take_of_length_le (by rw [Zao]; omega)
  have hqd:∀ q:Rat,(qcell q).drop 4 = []:=fun q=>rfl
  have hlen1:∀ x:Blk,(H0 ++ [x]).length=L+1:=fun x=>by rw [List.length_append,hL]; rfl
  have hlen:∀ x y:Blk,(H0 ++ [x,y]).length=L+2:=fun x y=>by rw [List.length_append,hL]; rfl
  have l0:o<L+2:=by omega
  have l1:o+2+2*n+2*i<L+2:=by have:=(List.getElem?_eq_some_iff.1 hRi).1; omega
  have l2:L<L+2:=by omega
  have l3:L+1<L+2:=by omega
  have hxl:(xC (i+1) V).length=n*4:=by rw [Xhi]; congr 1; omega
  have fit:i*4+4≤n*4:=by omega
  simp only [go_sem,Zhc,Zo0,Zov,q0,q1,q2,z0,z1,g0,g1,gp,eA,gs,ss,hlen1,List.getElem?_drop,t1,t2,Zao,hql,hqt,e1]
  refine Zap [(0,.osl none o 0 n),(6,.int .i64 (n:Int)),(7,.osl (some 4) L 0 n),(8,.int .i64 (i:Int)),(9,.ptr (L+1) 0),(10,.int .i64 ((i+1:Nat):Int))] (by simp only [go_sem]) ?_
  refine Xip (a:=a) (l:=bbit a k) hL ho rfl hRi hin hnl hw (by omega) br bT (by rw [hTl]; exact hk k hlt) (fun e k0 k6 k7 k8 k9=>?_)
  rw [hTl]
  have b2:=Z4r (i:=i) (n:=n) br bT hw (by omega) k (by omega)
  have hkk:=hk k hlt
  simp only [go_sem,Zg3,hm,k0,k6,k7,k8,k9,q0,q1,q2,g0,g1,gx,gs,sx,gp,List.getElem?_drop,t3,t4,hql,hqt,hlen,l0,l1,l2,l3]
  refine Zaa (Xi5 (k:=a+k*(a+bbit a k+1)) b2 ((br.get (j:=i) (by omega)).mono (by omega)) hpi (by omega)) (by simp only [go_sem,Za1,Zaj]) ?_
  simp only [go_sem,Za1,k7,k8,q0,q1,gx,sx,hxl,fit,hlen,l2,Zao,Xg6,Zo4,e2]
  have hsplit:∀ x y:Blk,H0 ++ [x,y]=(H0 ++ [x]) ++ [y]:=fun x y=>by simp
  rw [hsplit]
  refine hN (k+1) _ (by omega) (by omega) (Zbj (Ze4 (m:=L+1) (by rw [List.length_append,hL]; rfl) (hclo.append (by unfold Clo; simp only [List.map_cons,List.map_nil,Blk.gc,Xli])) (by omega)
   [(0,.osl none o 0 n),(6,.int .i64 (n:Int)),(7,.osl (some 4) L 0 n),(8,.int .i64 ((n:Int) - 1 - ((k+1:Nat):Int)))] (by simp only [go_sem,k0,k6,k7]) ?_) (by rw [enk',hnext]))
  have p1:pos (List.range (L+1)) o=some o:=Zbb (by omega)
  have p2:pos (List.range (L+1)) L=some L:=Zbb (by omega)
  simp [AV.gc,p1,p2]
 ·have hke:k=n:=by omega
  subst hke
  have q1:¬ (0:Int)≤(k:Int) - 1 - (k:Int):=by omega
  simp only [go_sem,Zhc,q1]
  have:xC (k - k) (bsub A k k)=qc (bsub A k k):=by rw [Nat.sub_self]; rfl
  rw [this]
  exact hK _ (by simp only [go_sem])
theorem Y2r {pre:Heap}{o n:Nat}{A:RM}(ho:pre.length=o) (hA:A.length=n):(pre++heapT o n A)[o]? = some (.cells (ptrsA o n n))∧∀ i,i<n→(pre++heapT o n A)[o+2+2*n+2*i]? = some (.cells (qc (A.getD i []))):=by
 refine ⟨by rw [List.getElem?_append_right (by omega),ho,Nat.sub_self]; rfl,fun i hi=>?_⟩
 rw [List.getElem?_append_right (by omega),ho,show o+2+2*n+2*i - o=(1+2*n+2*i)+1 by omega]
 unfold heapT
 rw [List.getElem?_cons_succ,List.getElem?_append_right (by rw [List.length_replicate]; omega),List.length_replicate,show 1+2*n+2*i - 2*n=2*i+1 by omega]
 exact Ydp (getD_some (by omega))
theorem Ypm {pre:Heap}{o n m:Nat}{A:RM}(hp:PureH pre) (hm:o+1+4*n≤m):Clo m (pre++heapT o n A):=by
 refine (hp.clo m).append ?_
 unfold Clo heapT
 rw [List.map_cons,List.map_append,Ykg,List.map_replicate]
 congr 1
 simp only [Blk.gc,Blk.cells.injEq]
 rw [Zay]
 unfold ptrsA
 rw [Nat.sub_self]
 simp only [List.range'_zero,List.map_nil,List.append_nil,List.map_map]
 refine List.map_congr_left fun j hj=>?_
 have hj':j<n:=List.mem_range.1 hj
 have:pos (List.range m) (o+2+2*n+2*j)=some (o+2+2*n+2*j):=Zbb (by omega)
 simp [AV.gc,this]
theorem Yld {H:Heap}{ids:List Nat}{b:Nat}{r:List Rat}(hb:H[b]? = some (.cells (qc r))) (hi:b∈ids):BV H ids (.osl (some 4) b 0 r.length) (.sl (condsR r)):=by
 have:=Z32 (H:=H) (ids:=ids) (w:=4) (b:=b) (R:=r.map qcell) hb hi (by unfold qc; rw [List.flatMap_def]) (fun d hd=>by obtain ⟨j,_,rfl⟩:=List.mem_map.1 hd; rfl) (fun d hd=>by
  obtain ⟨j,_,rfl⟩:=List.mem_map.1 hd; rw [Zaj]; trivial)
 rw [List.length_map,List.map_map] at this
 exact this
theorem Yyj {pre:Heap}{o n k:Nat}{M:RM}{r:List Rat}(ho:pre.length=o) (hp:PureH pre) (hM:M.length=n) (hr:r.length=n) (hnl:n≤999999) (hW:Wid n M) (hB:Mb k (aug M r)) (hk1:1≤k) (hk:9 ^ n*k≤100000000000)
  (hns:NoSw n 0 (aug M r)) {a:Nat} (hB':Mb a (tri n 0 (aug M r) 1).2) (hW':Wid (n+1) (tri n 0 (aug M r) 1).2) (hpv:∀ i,i<n→rget ((tri n 0 (aug M r) 1).2.getD i []) i≠0) (hka:∀ k,k<n→2*(a+k*(a+bbit a k+1)+bbit a k)+1≤1000000000000) :
  SpecR Tryz.prog Yif (pre++matH o n M) [.osl none o 0 n,.sl (condsR r)] (.sl (condsR (bsub (tri n 0 (aug M r) 1).2 n n))) (pre++heapT o n (tri n 0 (aug M r) 1).2):=by
 have hAl:(aug M r).length=n:=by rw [Z23 (by omega),hM]
 have ht:=Xk6 ho hp hAl hnl (Yec hW) hB hk1 hk hns
 have hl:(tri n 0 (aug M r) 1).2.length=n:=by rw [Ylw,hAl]
 have hL0:(pre++matH o n M).length=o+(1+2*n):=by rw [List.length_append,Zb1,hM,ho]
 refine Z5i Yeb (by simp) (Za9 5 rfl ?_)
 unfold Z4l
 simp only [go_sem,Zs7,Ztl]
 refine Zap [(0,.osl none o 0 n),(1,.sl (condsR r)),(12,.int .i64 (n:Int)),(13,.int .i64 0)] (by simp only [go_sem]) ?_
 refine Xja ho hM hr hW (by omega) (fun e h0=>?_)
 rw [Yw7 hM hr]
 simp only [go_sem,Ztr,h0]
 refine Zd5 ht ?_
 generalize hA:(tri n 0 (aug M r) 1).2=A at *
 obtain ⟨f0,f1⟩:=Y2r (pre:=pre) (o:=o) (n:=n) (A:=A) ho hl
 have hLT:(pre++heapT o n A).length=o+1+4*n:=by rw [List.length_append,Y1f hl,ho]; omega
 have hclo:=Ypm (pre:=pre) (o:=o) (n:=n) (m:=o+1+4*n) (A:=A) hp (Nat.le_refl _)
 have hclo1:=Ypm (pre:=pre) (o:=o) (n:=n) (m:=o+1+4*n+1) (A:=A) hp (Nat.le_succ _)
 generalize pre++heapT o n A=HT at *
 have hsz:((64:Nat):Int)*(n:Int)≤281474976710656:=by omega
 have z0:(0:Int)≤(n:Int):=by omega
 have e2:IntKind.i64.wrap ((n:Int) - 1)=(n:Int) - 1:=Zac (by omega) (by omega)
 simp only [go_sem,Ztv,Ztx,Zor,h0,hsz,z0,e2,hLT,Int.toNat_natCast,Int.le_refl]
 have hrows:(List.replicate n [AV.bool false,.nils,.bool false,.nils]).flatten=rows n z4:=rfl
 rw [hrows]
 refine Zap [(0,.osl none o 0 n),(6,.int .i64 (n:Int)),(7,.osl (some 4) (o+1+4*n) 0 n),(8,.int .i64 ((n:Int) - 1))] (by simp only [go_sem,h0]) ?_
 refine Xix (a:=a) hLT hclo1 (by rw [hL0]; omega) (by omega) f0 f1 hl (by omega) hW' hB' hpv hka (fun e k7=>?_)
 show T Tryz.prog 83 _ (.seq (.rg false Zhb) .ret) _ _
 have hx:(bsub A n n).length=n:=Zyw n
 have hbv:=Yld (H:=HT ++ [.cells (qc (bsub A n n))]) (ids := [o+1+4*n]) (b:=o+1+4*n) (r:=bsub A n n) (by rw [List.getElem?_append_right (by omega),hLT,Nat.sub_self]; rfl) (by simp)
 rw [hx] at hbv
 refine T_le (Ye1 [o+1+4*n] [(7,.sl (condsR (bsub A n n)))] ⟨.inl (by show BV _ _ (e 7) _; rw [k7]; exact hbv),trivial⟩) (T_W ?_)
 have hkill:kill [o+1+4*n] (HT ++ [Blk.cells (qc (bsub A n n))])=HT ++ [.dead]:=by
  show List.set _ (o+1+4*n) Blk.dead=_
  rw [List.set_append_right _ _ (by omega),hLT,Nat.sub_self]; rfl
 rw [hkill]
 simp only [go_sem,Zhb]
 refine ⟨rfl,_,Ze4 hLT hclo (by rw [hL0]; omega) [] trivial (fun p hp=>by simp at hp),rfl⟩
end GoAbs
namespace GoAbs
open Go Go.Proofs
def bc (s:List Bool):List AV:=s.map AV.bool
def start (n:Nat):List Bool:=(List.replicate n false).set 0 true
end GoAbs
namespace GoAbs
theorem Xac {R S:List Nat}{f:Nat→Rat}:sumL (R++S) f=sumL R f+sumL S f:=by
 induction R with
 | nil=>rw [List.nil_append,Yc3]; grind
 | cons i R ih=>rw [List.cons_append,Zaw,Zaw,ih]; grind
end GoAbs
namespace GoAbs
theorem Zim {M:RM}{c i j:Nat}(hi:i≤c):mget (elimCol M c M.length) i j=mget M i j:=by
 by_cases hl:i<M.length
 ·unfold mget
  rw [List.getD_eq_getElem?_getD (l:=elimCol M c M.length),Zfa hl,if_neg (by omega)]
  rfl
 ·unfold mget
  rw [List.getD_eq_getElem?_getD,List.getD_eq_getElem?_getD,List.getElem?_eq_none (by rw [Zbk]; omega),List.getElem?_eq_none (by omega)]
theorem Ynj:∀ {k c:Nat}{M:RM}{d:Rat}{i j:Nat},i≤c→mget (tri k c M d).2 i j=mget M i j
 | 0,_,_,_,_,_,_=>rfl
 | k+1,c,M,d,i,j,hi=>by
  unfold tri
  split
  ·rfl
  ·rw [Ynj (by omega),Zim hi]
theorem Yqv {A:RM}{n k:Nat}:bsub A n (k+1)=bacc (A.getD (n - 1 - k) []) (bsub A n k) (n - 1 - k) n k / rget (A.getD (n - 1 - k) []) (n - 1 - k)::bsub A n k:=by rw [bsub]
theorem Yne {A:RM}{n:Nat}:∀ {d k:Nat},(bsub A n (k+d)).drop d=bsub A n k
 | 0,k=>rfl
 | d+1,k=>by
  rw [show k+(d+1)=(k+d)+1 by omega,Yqv,List.drop_succ_cons]
  exact Yne
theorem Yvx {A:RM}{n k s:Nat}(hk:k≤n):rget (bsub A n k) s=rget (bsub A n n) (n - k+s):=by
 have h:=Yne (A:=A) (n:=n) (d:=n - k) (k:=k)
 rw [show k+(n - k)=n by omega] at h
 rw [← h]
 unfold rget
 rw [List.getD_eq_getElem?_getD,List.getD_eq_getElem?_getD,List.getElem?_drop]
theorem Yvj {row T:List Rat}{i n:Nat}:∀ {t:Nat},bacc row T i n t=rget row n - sumL (List.range' (i+2) t) (fun j=>rget T (j - i - 2)*rget row (j - 1))
 | 0=>by unfold bacc; rw [List.range'_zero,Yc3]; grind
 | t+1=>by
  unfold bacc
  rw [Yvj,List.range'_1_concat,Xac,Zaw,Yc3,show i+2+t - i - 2=t by omega,show i+2+t - 1=i+1+t by omega]
  grind
def solX (A:RM) (n:Nat):Nat→Rat:=fun j=>rget (0::bsub A n n) j
theorem Yd3 {A:RM}{n j:Nat}:solX A n (j+1)=rget (bsub A n n) j:=by unfold solX rget; rfl
theorem Y68 {A:RM}{n:Nat}(hp:∀ i,i<n→mget A i i≠0):∀ i,i<n→sumL (List.range' (i+1) (n - i)) (fun j=>solX A n j*mget A i (j - 1))=mget A i n:=fun i hi=>by
 obtain ⟨k,hk⟩:∃ k,k=n - 1 - i:=⟨_,rfl⟩
 have hik:n - 1 - k=i:=by omega
 have h1:rget (bsub A n (k+1)) 0=bacc (A.getD i []) (bsub A n k) i n k / mget A i i:=by
  rw [Yqv,hik]
  rfl
 rw [Yvx (by omega),Yvj] at h1
 rw [show n - i=k+1 by omega,List.range'_succ,Zaw,Yd3,Nat.add_sub_cancel]
 rw [show n - (k+1)+0=i by omega] at h1
 have h2:sumL (List.range' (i+1+1) k) (fun j=>solX A n j*mget A i (j - 1))=sumL (List.range' (i+2) k) (fun j=>rget (bsub A n k) (j - i - 2)*rget (A.getD i []) (j - 1)):=Zas (fun j hj=>by
  have hj':=List.mem_range'_1.1 hj
  rw [Yvx (by omega),show n - k+(j - i - 2)=j - 1 by omega]
  obtain ⟨j',rfl⟩:∃ j',j=j'+1:=⟨j - 1,by omega⟩
  rw [Yd3,Nat.add_sub_cancel]
  rfl)
 rw [h2,h1]
 have h3:=hp i hi
 show _ / _*_+_=rget (A.getD i []) n
 generalize sumL _ _=s
 grind
theorem Yu9 {M:RM}{r:List Rat}{m i:Nat}(hM:M.length=m) (hW:Wid m M) (hr:r.length=m) (hi:i<m):(∀ j,j<m→mget (aug M r) i j=mget M i j)∧mget (aug M r) i m=rget r i:=by
 have h:=Yrv (M:=M) (r:=r) (getD_some (M:=M) (i:=i) (by omega)) (Zag (r:=r) (j:=i) (by omega))
 have e:(aug M r).getD i []=M.getD i [] ++ [rget r i]:=by rw [List.getD_eq_getElem?_getD,h]; rfl
 have hl:=hW.get (i:=i) (by omega)
 refine ⟨fun j hj=>?_,?_⟩
 ·show rget ((aug M r).getD i []) j=rget (M.getD i []) j
  rw [e]; unfold rget
  rw [List.getD_eq_getElem?_getD,List.getElem?_append_left (by omega), ← List.getD_eq_getElem?_getD]
 ·show rget ((aug M r).getD i []) m=_
  rw [e]; unfold rget
  rw [List.getD_eq_getElem?_getD,List.getElem?_append_right (by omega),hl,Nat.sub_self]; rfl
end GoAbs
namespace GoAbs
open Go Go.Proofs
theorem Yps {R:List Nat}{a:Nat}{x:Nat→Rat}(hn:R.Nodup):sumL R (fun i=>(if i=a then 1 else 0)*x i)=if a∈R then x a else 0:=by
 induction R with
 | nil=>simp [Yc3]
 | cons r R ih =>
  obtain ⟨h1,h2⟩:=List.nodup_cons.1 hn
  rw [Zaw,ih h2]
  by_cases h:r=a
  ·subst h; rw [if_pos rfl,if_neg h1,if_pos (by simp)]; grind
  ·rw [if_neg h]
   by_cases h':a∈R
   ·rw [if_pos h',if_pos (by simp [h'])]; grind
   ·have h2:¬ a=r:=fun e=>h e.symm
    rw [if_neg h',if_neg (by simp [h',h2])]; grind
theorem Rb.elim5 {k:Nat}{p r:List Rat}{c:Nat}(hr:Rb k r) (hp:Rb k p) (hl:p.length=r.length) (hc:c<r.length) (hk:1≤k) (h0:rget p c≠0):Rb (5*k) (GoAbs.elimRow p c r):=fun x hx=>by
 unfold GoAbs.elimRow at hx
 split at hx
 ·exact (hr x hx).mono (by omega)
 ·unfold GoAbs.elimTo at hx
  obtain ⟨j,hj,rfl⟩:=List.mem_map.1 hx
  have hj':=List.mem_range.1 hj
  split
  ·exact ((hr.get hj').sub2 (((hr.get hc).div2 (hp.get (by omega)) h0).mul2 (hp.get (by omega)))).mono (by omega)
  ·exact (hr.get hj').mono (by omega)
theorem Mb.elim5 {k w:Nat}{M:RM}(h:Mb k M) (hw:Wid w M) {c I:Nat}(hcM:c<M.length) (hc:c<w) (hk:1≤k) (h0:mget M c c≠0):Mb (5*k) (elimCol M c I):=fun r hr=>by
 unfold elimCol at hr
 obtain ⟨i,hi,rfl⟩:=List.mem_map.1 hr
 have hi':=List.mem_range.1 hi
 split
 ·exact Rb.elim5 (h.get hi') (h.get hcM) (by rw [hw.get hcM,hw.get hi']) (by rw [hw.get hi']; exact hc) hk h0
 ·exact (h.get hi').mono (by omega)
theorem Y1t {w:Nat}:∀ {k c l:Nat}{M:RM}{d:Rat},c+k≤M.length→M.length≤w→Wid w M→Mb l M→1≤l→Mb (5 ^ k*l) (tri k c M d).2
 | 0,c,l,M,d,_,_,_,hM,_=>by simpa [tri] using hM
 | k+1,c,l,M,d,hc,hw,hW,hM,hl=>by
  unfold tri
  split
  ·refine hM.mono ?_
   have:1≤5 ^ (k+1):=Nat.pow_pos (by omega)
   exact Nat.le_mul_of_pos_left l this
  ·rename_i h0
   have:=Y1t (k:=k) (c:=c+1) (d:=d*mget M c c) (by rw [Zbk]; omega) (by rw [Zbk]; exact hw) (hW.elim (c:=c) (I:=M.length)) (hM.elim5 hW (by omega) (by omega) hl h0) (by omega)
   exact this.mono (by rw [Nat.pow_succ,Nat.mul_assoc]; exact Nat.le_refl _)
end GoAbs
namespace GoAbs
open Go Go.Proofs
end GoAbs
namespace GoAbs
open Go Go.Proofs
set_option exponentiation.threshold 20000
theorem Xly {q w:Rat}:Rat.divInt (q.num*w.den) ((q.den:Int)*w.num)=q / w:=by
 rw [Rat.div_def, ← Rat.num_divInt_den q,Rat.num_divInt_den]
 have:w⁻¹=Rat.divInt w.den w.num:=by rw [Rat.inv_def]
 rw [this]
 conv=>rhs; rw [← Rat.num_divInt_den q]
 rw [Rat.divInt_mul_divInt]
theorem Xa7 {H:Heap}{ids:List Nat}{b:Nat}{p:List Int}(hb:H[b]? = some (.cells (ivs p))) (hi:b∈ids):BV H ids (.osl none b 0 p.length) (.sl (ivs p)):=by
 refine .osl none b 0 p.length (ivs p) (ivs p) hb hi (Za4 p) (fun x hx=>?_) (by rw [Za4]; simp [es]) (fun i x j y z hx hy hz=>?_)
 ·obtain ⟨c,_,rfl⟩:=List.mem_map.1 hx; rfl
 ·obtain ⟨c,_,rfl⟩:=List.mem_map.1 (List.mem_of_getElem? hx)
  have hj:j=0:=by
   have:=(List.getElem?_eq_some_iff.1 hy).1
   simp [AV.cells] at this; omega
  subst hj
  simp [AV.cells] at hy
  subst hy
  simp [es] at hz
  rw [hx] at hz
  cases hz
  exact .int _ _
end GoAbs
namespace GoAbs
open Go Go.Proofs
set_option exponentiation.threshold 20000
theorem Z48 {R:List Nat}{g:Nat→Nat}{f:Nat→Rat}:sumL (R.map g) f=sumL R (fun i=>f (g i)):=by
 induction R with
 | nil=>rfl
 | cons r R ih=>rw [List.map_cons,Zaw,Zaw,ih]
end GoAbs
namespace GoAbs
open Go Go.Proofs
set_option exponentiation.threshold 20000
theorem Qb.ib {k:Nat}{q:Rat}(h:Qb k q):Ib k q.num∧Ib k (q.den:Int):=⟨h.n,by show (q.den:Int).natAbs<_; rw [Int.natAbs_natCast]; exact h.d⟩
end GoAbs
namespace GoAbs
def jorCol (M:RM) (c I:Nat):RM:=(List.range M.length).map fun i=>if i≠c∧i<I then elimRow (M.getD c []) c (M.getD i []) else M.getD i []
theorem Zdn {M:RM}{c I:Nat}:(jorCol M c I).length=M.length:=by simp [jorCol]
theorem Zki {M:RM}{c I i:Nat}(h:i<M.length):(jorCol M c I)[i]? = some (if i≠c∧i<I then elimRow (M.getD c []) c (M.getD i []) else M.getD i []):=by simp [jorCol,h]
theorem Yei {M:RM}{c I i:Nat}(h:i<M.length):(jorCol M c I).getD i []=if i≠c∧i<I then elimRow (M.getD c []) c (M.getD i []) else M.getD i []:=by
 rw [List.getD_eq_getElem?_getD,Zki h]; rfl
theorem Yri {M:RM}{c:Nat}:jorCol M c 0=M:=by
 apply List.ext_getElem?
 intro i
 by_cases hi:i<M.length
 ·rw [Zki hi,if_neg (by omega),getD_some hi]
 ·rw [List.getElem?_eq_none (by rw [Zdn]; omega),List.getElem?_eq_none (by omega)]
theorem Yti {M:RM}{c I:Nat}(hI:I<M.length) (hc:I≠c):(jorCol M c I).set I (elimRow (M.getD c []) c (M.getD I []))=jorCol M c (I+1):=by
 apply List.ext_getElem?
 intro i
 by_cases hi:i<M.length
 ·rw [Zki hi]
  by_cases h1:i=I
  ·subst h1
   rw [List.getElem?_set_self (by rw [Zdn]; exact hi),if_pos ⟨hc,by omega⟩]
  ·rw [List.getElem?_set_ne (by omega),Zki hi]
   by_cases h2:i≠c∧i<I
   ·rw [if_pos h2,if_pos ⟨h2.1,by omega⟩]
   ·rw [if_neg h2,if_neg (by omega)]
 ·rw [List.getElem?_eq_none (by rw [List.length_set,Zdn]; omega),List.getElem?_eq_none (by rw [Zdn]; omega)]
theorem Ysu {M:RM}{c:Nat}:jorCol M c (c+1)=jorCol M c c:=by
 unfold jorCol
 refine List.map_congr_left fun i _=>?_
 by_cases h:i≠c∧i<c
 ·rw [if_pos h,if_pos ⟨h.1,by omega⟩]
 ·rw [if_neg h,if_neg (by omega)]
theorem Wid.jor {w:Nat}{M:RM}(h:Wid w M) {c I:Nat}:Wid w (jorCol M c I):=fun r hr=>by
 unfold jorCol at hr
 obtain ⟨i,hi,rfl⟩:=List.mem_map.1 hr
 have hi':=List.mem_range.1 hi
 split
 ·rw [Ygr]; exact h.get hi'
 ·exact h.get hi'
def jorN:Nat→Nat→RM→RM
 | 0,_,M=>M
 | k+1,c,M=>jorN k (c+1) (jorCol M c M.length)
theorem Z67 {M:RM}{w c i j:Nat}(hW:Wid w M) (hi:i<M.length) (hj:j<w) (hci:i≠c) (hp:mget M c c≠0) :
  mget (jorCol M c M.length) i j=if c≤j then mget M i j - mget M i c*mget M c j / mget M c c else mget M i j:=by
 unfold mget
 rw [Yei hi,if_pos ⟨hci,hi⟩]
 unfold elimRow
 have hl:=hW.get hi
 split
 ·rename_i h0
  rw [h0]
  split
  ·grind
  ·rfl
 ·show (elimTo _ _ _ _ _).getD j 0=_
  rw [List.getD_eq_getElem?_getD,Zg1 (by rw [hl]; exact hj)]
  simp only [Option.getD_some]
  by_cases h:c≤j
  ·rw [if_pos ⟨h,by rw [hl]; exact hj⟩,if_pos h]
   unfold mget at hp
   grind
  ·rw [if_neg (fun k=>h k.1),if_neg h]
theorem Zzb {M:RM}{c j:Nat}(hc:c<M.length):mget (jorCol M c M.length) c j=mget M c j:=by
 unfold mget
 rw [Yei hc,if_neg (by omega)]
def Piv:Nat→Nat→RM→Prop
 | 0,_,_=>True
 | k+1,c,M=>mget M c c≠0∧Piv k (c+1) (jorCol M c M.length)
end GoAbs
namespace GoAbs
open Go Go.Proofs
def Zwg:List IOp := [oI 2 (.mv (.c .nils)) 0,oI 3 (.mv (cI 0)) 0]
def Zv6:List IOp := [oI 4 (.mv (.c .nils)) 0]
def Zu3:List IOp := [mI 9 0 0,oI 10 (.len (.t 9)) 0,oI 11 (.mv (cI 0)) 0]
def Zla:List IOp := [oI 12 (.bin .lss (.t 11) (.t 10)) 0]
def Zw0:List IOp := [xI 13 4 9 11 0,lJ 14 4 13 0,oI 6 (.alloc [.bool false,.nils,.bool false,.nils]) 0,⟨none,.st 4 (.t 6) (.t 14),1,[],[],none⟩]
def Zw7:List IOp := [lJ 16 4 6 0,oI 17 (.call 85 [.t 16]) 0,mI 15 17 0,eI 18 0 15 0,eI 19 1 15 0,mI 7 18 0,mI 8 19 0]
def Zld:List IOp := [mI 20 8 0,oI 21 (.bin .neq (.t 20) (cI 0)) 0]
def Zyo:List IOp := [mI 22 8 0,oI 2 (.mv (.c .nils)) 0,mI 3 22 0]
def Zyr:List IOp := [mI 23 4 0,mI 24 7 0,oI 25 (.bsl none 1 [.str ⟨#[]⟩] [(0,.t 24)]) 0,oI 26 (.app none 16 (.t 23) (.t 25)) 1,mI 4 26 2]
def Ztq:List IOp := [oI 27 (.bin .add (.t 11) (cI 1)) 0,mI 11 27 0]
def Zkq:CC := .seq (.rg false Zla) (.seq (.cond (.t 12) .skip (.exit 0)) (.seq (.block 1 (.seq (.rg false Zw0) (.seq (.rg false Zw7) (.seq (.seq (.rg false Zld) (.cond (.t 21) (.seq (.rg false Zyo) .ret) .skip)) (.rg false Zyr))))) (.rg false Ztq)))
def Zta:List IOp := [mI 28 4 0,mI 2 28 0,oI 3 (.mv (cI 0)) 0]
def Z96:CC := .seq (.rg false Zwg) (.seq (.rg false Zv6) (.seq (.seq (.rg false Zu3) (.block 0 (.loop Zkq))) (.seq (.rg false Zta) .ret)))
abbrev Yli:Nat:=51
theorem Yhv:fnOk Tryz.prog 51=some (29,Z96,[.tmp 2,.tmp 3]):=by kernel_rfl
def Z7i:List IOp := [oI 4 (.mv (.c .nils)) 0,oI 5 (.mv (.c (.bool false))) 0]
def Z5k:List IOp := [oI 16 (.bsl none 0 [.nils] []) 0,mI 6 16 1]
def Z6d:List IOp := [oI 7 (.mv (cI 0)) 0]
def Zpw:List IOp := [mI 17 7 0,mI 18 0 0,oI 19 (.len (.t 18)) 0,oI 20 (.bin .lss (.t 17) (.t 19)) 0]
def Z5w:List IOp := [mI 23 6 0,oI 24 (.bsl (some 4) 0 [.bool false,.nils,.bool false,.nils] []) 0,mI 25 0 1,mI 26 7 1,xI 27 1 25 26 1,lI 28 27 1,oI 29 (.app (some 4) 64 (.t 24) (.t 28)) 1,oI 30 (.bsl none 1 [.nils] [(0,.t 29)]) 2,oI 31 (.app none 24 (.t 23) (.t 30)) 3,mI 6 31 4]
def Z4n:List IOp := [mI 21 7 0,oI 22 (.bin .add (.t 21) (cI 1)) 0,mI 7 22 0]
def Zqw:CC := .seq (.seq (.rg false Zpw) (.cond (.t 20) .skip (.exit 0))) (.seq (.block 1 (.rg false Z5w)) (.rg false Z4n))
def Z7j:List IOp := [oI 8 (.mv (cI 0)) 0]
def Zp2:List IOp := [mI 32 8 0,mI 33 1 0,oI 34 (.bin .lss (.t 32) (.t 33)) 0]
def Z7z:List IOp := [oI 9 (.mv (cI (-1))) 0]
def Z2g:List IOp := [mI 37 8 0,mI 10 37 0]
def Zhz:List IOp := [mI 38 10 0,mI 39 1 0,oI 40 (.bin .lss (.t 38) (.t 39)) 0,mI 41 40 0,gI 42 (.mv (.t 9)) 0 41 true,gI 43 (.bin .lss (.t 42) (cI 0)) 0 41 true,oI 44 (.pick (.t 41) (.t 43) (.c (.bool false))) 0]
def Z1h:List IOp := [mI 47 6 0,mI 48 10 0,xI 49 1 47 48 0,lI 50 49 0,mI 51 8 0,xI 52 4 50 51 0,lJ 53 4 52 0,oI 54 (.call 109 [.t 53]) 0,oI 55 (.un .not (.t 54)) 0]
def Zm4:List IOp := [mI 56 10 0,mI 9 56 0]
def Zm6:List IOp := [mI 45 10 0,oI 46 (.bin .add (.t 45) (cI 1)) 0,mI 10 46 0]
def Zsg:CC := .seq (.seq (.rg false Zhz) (.cond (.t 44) .skip (.exit 4))) (.seq (.block 5 (.seq (.rg false Z1h) (.cond (.t 55) (.rg false Zm4) .skip))) (.rg false Zm6))
def Z0j:List IOp := [mI 57 9 0,oI 58 (.bin .lss (.t 57) (cI 0)) 0]
def Yht:List IOp := [oI 4 (.mv (.c .nils)) 0,oI 5 (.mv (.c (.bool false))) 0]
def Zof:List IOp := [mI 59 6 0,mI 60 8 0,mI 61 6 0,mI 62 9 0,mI 63 6 0,mI 64 9 0,xI 65 1 63 64 0,lI 66 65 0,mI 67 6 0,mI 68 8 0,xI 69 1 67 68 0,lI 70 69 0,xI 71 1 59 60 0,⟨none,.st 1 (.t 71) (.t 66),0,[],[],none⟩,xI 72 1 61 62 0,⟨none,.st 1 (.t 72) (.t 70),0,[],[],none⟩]
@[go_sem ↓] theorem Ycj : autoK Zof = (0, 1) := by kernel_rfl
@[go_sem] theorem Yx4 : autoK [mI 59 6 0, mI 60 8 0, mI 61 6 0, mI 62 9 0, mI 63 6 0, mI 64 9 0, xI 65 1 63 64 0, lI 66 65 0, mI 67 6 0, mI 68 8 0, xI 69 1 67 68 0, lI 70 69 0, xI 71 1 59 60 0, ⟨none, .st 1 (.t 71) (.t 66), 0, [], [], none⟩, xI 72 1 61 62 0, ⟨none, .st 1 (.t 72) (.t 70), 0, [], [], none⟩] = (0, 1) := Ycj
def Z1k:List IOp := [oI 11 (.mv (cI 0)) 0]
def Zej:List IOp := [mI 73 11 0,mI 74 1 0,oI 75 (.bin .lss (.t 73) (.t 74)) 0]
def Zhn:List IOp := [mI 78 11 0,mI 79 8 0,oI 80 (.bin .eql (.t 78) (.t 79)) 0,mI 81 80 0,gI 82 (.mv (.t 6)) 0 81 false,gI 83 (.mv (.t 11)) 0 81 false,gI 84 (.idx 1 (.t 82) (.t 83)) 0 81 false,gI 85 (.ld none (.t 84)) 0 81 false,gI 86 (.mv (.t 8)) 0 81 false,gI 87 (.idx 4 (.t 85) (.t 86)) 0 81 false,gI 88 (.ld (some 4) (.t 87)) 0 81 false,gI 89 (.call 109 [.t 88]) 0 81 false,oI 90 (.pick (.t 81) (.c (.bool true)) (.t 89)) 0]
def Zmz:List IOp := [mI 91 6 0,mI 92 11 0,xI 93 1 91 92 0,lI 94 93 0,mI 95 8 0,xI 96 4 94 95 0,lJ 97 4 96 0,mI 98 6 0,mI 99 8 0,xI 100 1 98 99 0,lI 101 100 0,mI 102 8 0,xI 103 4 101 102 0,lJ 104 4 103 0,oI 105 (.call 33 [.t 97,.t 104]) 0,oI 106 (.call 73 [.t 105]) 0,oI 12 (.alloc [.bool false,.nils,.bool false,.nils]) 0,⟨none,.st 4 (.t 12) (.t 106),1,[0],[],none⟩]
@[go_sem ↓] theorem Ycl : autoK Zmz = (1, 1) := by kernel_rfl
@[go_sem] theorem Yy9 : autoK [mI 91 6 0, mI 92 11 0, xI 93 1 91 92 0, lI 94 93 0, mI 95 8 0, xI 96 4 94 95 0, lJ 97 4 96 0, mI 98 6 0, mI 99 8 0, xI 100 1 98 99 0, lI 101 100 0, mI 102 8 0, xI 103 4 101 102 0, lJ 104 4 103 0, oI 105 (.call 33 [.t 97, .t 104]) 0, oI 106 (.call 73 [.t 105]) 0, oI 12 (.alloc [.bool false, .nils, .bool false, .nils]) 0, ⟨none, .st 4 (.t 12) (.t 106), 1, [0], [], none⟩] = (1, 1) := Ycl
def Zzl:List IOp := [mI 107 8 0,mI 13 107 0]
def Zm5:List IOp := [mI 108 13 0,mI 109 1 0,oI 110 (.bin .leq (.t 108) (.t 109)) 0]
def Zmy:List IOp := [mI 113 6 0,mI 114 11 0,xI 115 1 113 114 0,lI 116 115 0,mI 117 13 0,mI 118 6 0,mI 119 11 0,xI 120 1 118 119 0,lI 121 120 0,mI 122 13 0,xI 123 4 121 122 0,lJ 124 4 123 0,lJ 125 4 12 0,mI 126 6 0,mI 127 8 0,xI 128 1 126 127 0,lI 129 128 0,mI 130 13 0,xI 131 4 129 130 0,lJ 132 4 131 0,oI 133 (.call 28 [.t 125,.t 132]) 0,oI 134 (.call 34 [.t 124,.t 133]) 0,oI 135 (.call 73 [.t 134]) 0,xI 136 4 116 117 0,⟨none,.st 4 (.t 136) (.t 135),0,[],[],none⟩]
@[go_sem ↓] theorem Ycf : autoK Zmy = (0, 1) := by kernel_rfl
@[go_sem] theorem Yzy : autoK [mI 113 6 0, mI 114 11 0, xI 115 1 113 114 0, lI 116 115 0, mI 117 13 0, mI 118 6 0, mI 119 11 0, xI 120 1 118 119 0, lI 121 120 0, mI 122 13 0, xI 123 4 121 122 0, lJ 124 4 123 0, lJ 125 4 12 0, mI 126 6 0, mI 127 8 0, xI 128 1 126 127 0, lI 129 128 0, mI 130 13 0, xI 131 4 129 130 0, lJ 132 4 131 0, oI 133 (.call 28 [.t 125, .t 132]) 0, oI 134 (.call 34 [.t 124, .t 133]) 0, oI 135 (.call 73 [.t 134]) 0, xI 136 4 116 117 0, ⟨none, .st 4 (.t 136) (.t 135), 0, [], [], none⟩] = (0, 1) := Ycf
def Z0e:List IOp := [mI 111 13 0,oI 112 (.bin .add (.t 111) (cI 1)) 0,mI 13 112 0]
def Zqh:CC := .seq (.seq (.rg false Zm5) (.cond (.t 110) .skip (.exit 8))) (.seq (.block 9 (.rg true Zmy)) (.rg false Z0e))
def Zhk:List IOp := [mI 76 11 0,oI 77 (.bin .add (.t 76) (cI 1)) 0,mI 11 77 0]
def Zr0:CC := .seq (.seq (.rg false Zej) (.cond (.t 75) .skip (.exit 6))) (.seq (.block 7 (.seq (.seq (.rg false Zhn) (.cond (.t 90) (.exit 7) .skip)) (.seq (.rg true Zmz) (.seq (.rg false Zzl) (.block 8 (.loop Zqh)))))) (.rg false Zhk))
def Z1p:List IOp := [mI 35 8 0,oI 36 (.bin .add (.t 35) (cI 1)) 0,mI 8 36 0]
def Zq3:CC := .seq (.seq (.rg false Zp2) (.cond (.t 34) .skip (.exit 2))) (.seq (.block 3 (.seq (.rg false Z7z) (.seq (.seq (.rg false Z2g) (.block 4 (.loop Zsg))) (.seq (.seq (.rg false Z0j) (.cond (.t 58) (.seq (.rg false Yht) .ret) .skip)) (.seq (.rg true Zof) (.seq (.rg false Z1k) (.block 6 (.loop Zr0)))))))) (.rg false Z1p))
def Z1c:List IOp := [oI 137 (.bsl (some 4) 0 [.bool false,.nils,.bool false,.nils] []) 0,mI 14 137 1]
def Zzp:List IOp := [oI 15 (.mv (cI 0)) 0]
def Znp:List IOp := [mI 138 15 0,mI 139 1 0,oI 140 (.bin .lss (.t 138) (.t 139)) 0]
def Zog:List IOp := [mI 143 14 0,mI 144 6 0,mI 145 15 0,xI 146 1 144 145 0,lI 147 146 0,mI 148 1 0,xI 149 4 147 148 0,lJ 150 4 149 0,mI 151 6 0,mI 152 15 0,xI 153 1 151 152 0,lI 154 153 0,mI 155 15 0,xI 156 4 154 155 0,lJ 157 4 156 0,oI 158 (.call 33 [.t 150,.t 157]) 0,oI 159 (.call 73 [.t 158]) 0,oI 160 (.bsl (some 4) 1 [.bool false,.nils,.bool false,.nils] [(0,.t 159)]) 0,⟨some 161,.app (some 4) 64 (.t 143) (.t 160),1,[0],[],none⟩,⟨some 14,.mv (.t 161),2,[0,1],[],none⟩]
@[go_sem ↓] theorem Ycn : autoK Zog = (2, 1) := by kernel_rfl
@[go_sem] theorem Yzi : autoK [mI 143 14 0, mI 144 6 0, mI 145 15 0, xI 146 1 144 145 0, lI 147 146 0, mI 148 1 0, xI 149 4 147 148 0, lJ 150 4 149 0, mI 151 6 0, mI 152 15 0, xI 153 1 151 152 0, lI 154 153 0, mI 155 15 0, xI 156 4 154 155 0, lJ 157 4 156 0, oI 158 (.call 33 [.t 150, .t 157]) 0, oI 159 (.call 73 [.t 158]) 0, oI 160 (.bsl (some 4) 1 [.bool false, .nils, .bool false, .nils] [(0, .t 159)]) 0, ⟨some 161, .app (some 4) 64 (.t 143) (.t 160), 1, [0], [], none⟩, ⟨some 14, .mv (.t 161), 2, [0, 1], [], none⟩] = (2, 1) := Ycn
def Z1m:List IOp := [mI 141 15 0,oI 142 (.bin .add (.t 141) (cI 1)) 0,mI 15 142 0]
def Zr6:CC := .seq (.seq (.rg false Znp) (.cond (.t 140) .skip (.exit 10))) (.seq (.block 11 (.rg true Zog)) (.rg false Z1m))
def Zzr:List IOp := [mI 162 14 0,mI 4 162 0,oI 5 (.mv (.c (.bool true))) 0]
def Ykd:CC := .seq (.rg false Z7i) (.seq (.rg false Z5k) (.seq (.seq (.rg false Z6d) (.block 0 (.loop Zqw))) (.seq (.seq (.rg false Z7j) (.block 2 (.loop Zq3))) (.seq (.rg false Z1c) (.seq (.seq (.rg false Zzp) (.block 10 (.loop Zr6))) (.seq (.rg false Zzr) .ret))))))
abbrev Ytd:Nat:=74
theorem Ynn:fnOk Tryz.prog 74=some (163,Ykd,[.tmp 4,.tmp 5]):=by kernel_rfl
def Ye8:List IOp := [oI 4 (.mv (.c (.bool false))) 0]
def Ygw:List IOp := [mI 6 0 0,oI 7 (.len (.t 6)) 0,mI 8 1 0,oI 9 (.len (.t 8)) 0,oI 10 (.bin .neq (.t 7) (.t 9)) 0]
def Ysy:List IOp := [oI 4 (.mv (.c (.bool false))) 0]
def Yg3:List IOp := [oI 5 (.mv (cI 0)) 0]
def Z2j:List IOp := [mI 11 5 0,mI 12 0 0,oI 13 (.len (.t 12)) 0,oI 14 (.bin .lss (.t 11) (.t 13)) 0]
def Z3p:List IOp := [mI 17 0 0,mI 18 5 0,xI 19 1 17 18 0,lI 20 19 0,mI 21 1 0,mI 22 5 0,xI 23 4 21 22 0,lJ 24 4 23 0,oI 25 (.callw 57 [.t 20,.t 24]) 0,oI 26 (.un .not (.t 25)) 0]
@[go_sem ↓] theorem Ykq : autoK Z3p = (0, 0) := by kernel_rfl
@[go_sem] theorem Y6a : autoK [mI 17 0 0, mI 18 5 0, xI 19 1 17 18 0, lI 20 19 0, mI 21 1 0, mI 22 5 0, xI 23 4 21 22 0, lJ 24 4 23 0, oI 25 (.callw 57 [.t 20, .t 24]) 0, oI 26 (.un .not (.t 25)) 0] = (0, 0) := Ykq
def Yrw:List IOp := [oI 4 (.mv (.c (.bool false))) 0]
def Z3h:List IOp := [mI 15 5 0,oI 16 (.bin .add (.t 15) (cI 1)) 0,mI 5 16 0]
def Z2t:CC := .seq (.seq (.rg false Z2j) (.cond (.t 14) .skip (.exit 0))) (.seq (.block 1 (.seq (.rg true Z3p) (.cond (.t 26) (.seq (.rg false Yrw) .ret) .skip))) (.rg false Z3h))
def Ydo:List IOp := [oI 4 (.mv (.c (.bool true))) 0]
def Yuc:CC := .seq (.rg false Ye8) (.seq (.seq (.rg false Ygw) (.cond (.t 10) (.seq (.rg false Ysy) .ret) .skip)) (.seq (.seq (.rg false Yg3) (.block 0 (.loop Z2t))) (.seq (.rg false Ydo) .ret)))
abbrev Y30:Nat:=19
theorem Yy3:fnOk Tryz.prog 19=some (27,Yuc,[.tmp 4]):=by kernel_rfl
end GoAbs
namespace GoAbs
open Go Go.Proofs
def rq (q:Rat):List AV:=rc q.num q.den
theorem Yf2 {q:Rat}:(rq q).length=4:=rfl
theorem Zcb {q:Rat}:(rq q).take 4=rq q:=rfl
theorem Zc5 {q:Rat}:(rq q).drop 4 = []:=rfl
def qr (r:List Rat):List AV:=r.flatMap rq
theorem Z2c (r:List Rat):(qr r).length=r.length*4:=by
 induction r with
 | nil=>rfl
 | cons q r ih=>show (rq q++qr r).length=_; rw [List.length_append,ih,List.length_cons,Yf2]; omega
theorem Ygj {r s:List Rat}:qr (r++s)=qr r++qr s:=by simp [qr]
theorem Yk8 {r:List Rat}{j:Nat}{q:Rat}(h:r[j]? = some q):qr r=qr (r.take j)++(rq q++qr (r.drop (j+1))):=by
 obtain ⟨hj,he⟩:=List.getElem?_eq_some_iff.1 h
 have:r=r.take j++(q::r.drop (j+1)):=by
  rw [← he]; simp
 conv=>lhs; rw [this,Ygj]
 rfl
theorem Xa2 {r:List Rat}{j:Nat}(h:j≤r.length):(qr (r.take j)).length=j*4:=by rw [Z2c,List.length_take,Nat.min_eq_left h]
theorem Yr0 {r:List Rat}{j:Nat}{q:Rat}(h:r[j]? = some q):(qr r).drop (j*4)=rq q++qr (r.drop (j+1)):=by
 have hj:=(List.getElem?_eq_some_iff.1 h).1
 rw [Yk8 h, ← Xa2 (r:=r) (j:=j) (by omega),List.drop_left]
theorem Zq6 {r:List Rat}{j:Nat}{q:Rat}(h:r[j]? = some q):((qr r).drop (j*4)).take 4=rq q:=by
 rw [Yr0 h]; exact List.take_left' rfl
theorem Z3u {r:List Rat}{j:Nat}{q:Rat}(h:r[j]? = some q):4≤((qr r).drop (j*4)).length:=by
 rw [Yr0 h,List.length_append,Yf2]; omega
theorem Xhf {r:List Rat}{j:Nat}{x:Rat}(h:j<r.length):(qr r).take (j*4)++rq x++(qr r).drop (j*4+4)=qr (r.set j x):=by
 have hg:=List.getElem?_eq_getElem h
 have h1:(qr r).take (j*4)=qr (r.take j):=by rw [Yk8 hg, ← Xa2 (r:=r) (j:=j) (by omega),List.take_left]
 have h2:(qr r).drop (j*4+4)=qr (r.drop (j+1)):=by
  rw [← List.drop_drop,Yr0 hg]; exact List.drop_left' rfl
 rw [h1,h2,List.set_eq_take_append_cons_drop,if_pos h,Ygj,List.append_assoc]
 rfl
theorem Ysz {f:Nat→Option Nat}(r:List Rat):gcL f (qr r)=qr r:=by
 induction r with
 | nil=>rfl
 | cons q r ih =>
  show gcL f (rq q++qr r)=rq q++qr r
  rw [Zay] at ih ⊢
  rw [List.map_append,ih]
  rfl
def ptrR (w n:Nat):List AV:=(List.range n).map fun i=>AV.osl (some 4) (1+i) 0 w
def rowsR (M:RM):Heap:=M.map fun r => .cells (qr r)
def matR (w:Nat) (M:RM):Heap := .cells (ptrR w M.length)::rowsR M
theorem Zyx (w n:Nat):(ptrR w n).length=n:=by simp [ptrR]
theorem Zp0 {w n i:Nat}(h:i<n):(ptrR w n)[i]? = some (.osl (some 4) (1+i) 0 w):=by simp [ptrR,h]
theorem Zck {w:Nat}{M:RM}:(matR w M).length=1+M.length:=by simp [matR,rowsR]; omega
section
variable {w:Nat} {M:RM} {post:Heap}
theorem Zma {i:Nat}{r:List Rat}(h:M[i]? = some r):(matR w M++post)[1+i]? = some (.cells (qr r)):=by
 have hi:=(List.getElem?_eq_some_iff.1 h).1
 rw [List.getElem?_append_left (by rw [Zck]; omega)]
 show (_::rowsR M)[1+i]? = _
 rw [Nat.add_comm,List.getElem?_cons_succ]
 unfold rowsR
 rw [List.getElem?_map,h]; rfl
theorem Zy2:(matR w M++post)[0]? = some (.cells (ptrR w M.length)):=rfl
theorem Zve {n t:Nat}(hn:M.length=n):(matR w M++post)[1+n+t]? = post[t]?:=by
 rw [List.getElem?_append_right (by rw [Zck]; omega),Zck]
 congr 1; omega
theorem Xaz {i:Nat}{r:List Rat}(h:i<M.length):(matR w M++post).set (1+i) (.cells (qr r))=matR w (M.set i r)++post:=by
 rw [List.set_append_left _ _ (by rw [Zck]; omega)]
 congr 1
 show (_::rowsR M).set (1+i) _=_::rowsR (M.set i r)
 rw [Nat.add_comm,List.set_cons_succ,List.length_set]
 unfold rowsR
 rw [List.map_set]
theorem Ydi:(matR w M++post).length=1+M.length+post.length:=by rw [List.length_append,Zck]
end
theorem Xa1 {a f b:Rat}{k:Nat}(ha:Qb k a) (hf:Qb (2*k) f) (hb:Qb k b) (hk1:1≤k) (hk:k≤200000) :
  SpecV Tryz.prog Yiq [.agg (rq f),.agg (rq b)] (avR (f.num*b.num) ((f.den:Int)*b.den)) ∧
  SpecV Tryz.prog Yje [.agg (rq a),avR (f.num*b.num) ((f.den:Int)*b.den)] (avR (a.num*((f.den:Int)*b.den) - f.num*b.num*a.den) ((a.den:Int)*((f.den:Int)*b.den))) ∧
  SpecV Tryz.prog Zml [avR (a.num*((f.den:Int)*b.den) - f.num*b.num*a.den) ((a.den:Int)*((f.den:Int)*b.den))] (.agg (rq (a - f*b))):=by
 have da:=a.den_pos
 have df:=f.den_pos
 have db:=b.den_pos
 have i1:Ib (3*k) (f.num*b.num):=(hf.ib.1.mul hb.ib.1).mono (by omega)
 have i2:Ib (3*k) ((f.den:Int)*b.den):=(hf.ib.2.mul hb.ib.2).mono (by omega)
 have h1:=rmulq (k:=2*k) hf.ib.1 hf.ib.2 (hb.ib.1.mono (by omega)) (hb.ib.2.mono (by omega)) (by omega)
 have h2:=rsubq (k:=3*k) (ha.ib.1.mono (by omega)) (ha.ib.2.mono (by omega)) i1 i2 (by omega)
 have hd:(0:Int)<(f.den:Int)*b.den:=Int.mul_pos (by omega) (by omega)
 have e:Rat.divInt (a.num*((f.den:Int)*b.den) - f.num*b.num*a.den) ((a.den:Int)*((f.den:Int)*b.den))=a - f*b:=by
  have h:=Xiv (q:=a) (w := -(f*b)) (wn := -(f.num*b.num)) (wd:=(f.den:Int)*b.den) (by omega) (by rw [← Rat.neg_divInt, ← Rat.divInt_mul_divInt,Rat.num_divInt_den,Rat.num_divInt_den])
  rw [Int.neg_mul, ← Int.sub_eq_add_neg] at h
  rw [h]; grind
 have i3:Ib (4*k) (-(f.num*b.num*a.den)):=by have:=i1.mul ha.ib.2; show Int.natAbs _<_; rw [Int.natAbs_neg]; exact (this.mono (by omega):Ib (4*k) _)
 have h3:=rlow (k:=4*k+1) (n:=a.num*((f.den:Int)*b.den) - f.num*b.num*a.den) (d:=(a.den:Int)*((f.den:Int)*b.den)) (by
  rw [Int.sub_eq_add_neg]
  exact (Ib.add (k:=4*k) ((ha.ib.1.mul i2).mono (by omega)) i3).mono (by omega)) ((ha.ib.2.mul i2).mono (by omega)) (Int.mul_pos (by omega) hd) (by omega)
 rw [e] at h3
 exact ⟨h1,h2,h3⟩
theorem Xhs {w n i c:Nat}{M:RM}{post:Heap}{f:Rat}{k:Nat}{p r:List Rat}{bz:Nat}(hn:M.length=n) (hnl:n≤1000) (hw:w=n+1) (hi:i<n) (hc:c<n) (hci:c≠i)
  (hp:M[c]? = some p) (hr:M[i]? = some r) (hpw:p.length=w) (hrw:r.length=w) (hbz:bz=1+n) (hpost:post[0]? = some (.cells (rq f))) (bp:Rb k p) (br:Rb k r) (bf:Qb (2*k) f) (hk1:1≤k) (hk:k≤200000) {K:Ex→St→Prop}
  (hK:∀ e:Nat→AV,e 1 = .int .i64 (n:Int)→e 6 = .osl none 0 0 n→e 8 = .int .i64 (c:Int)→e 11 = .int .i64 (i:Int)→K (.exit 8) ⟨e,matR w (M.set i (elimTo p c f r w))++post⟩) :
  T Tryz.prog 163 0 (.loop Zqh) ⟨envL [(1,.int .i64 (n:Int)),(6,.osl none 0 0 n),(8,.int .i64 (c:Int)),(11,.int .i64 (i:Int)),(12,.ptr bz 0),(13,.int .i64 (c:Int))],matR w M++post⟩ K:=by
 have hm:Tryz.prog.follows .mixedOrders=true:=by kernel_rfl
 have hMset:M.set i r=M:=by
  apply List.ext_getElem?
  intro x
  by_cases hx:i=x
  ·subst hx; rw [List.getElem?_set_self (by omega),hr]
  ·rw [List.getElem?_set_ne hx]
 refine Zad (fun J:Nat=>⟨envL [(1,.int .i64 (n:Int)),(6,.osl none 0 0 n),(8,.int .i64 (c:Int)),(11,.int .i64 (i:Int)),(12,.ptr bz 0),(13,.int .i64 (J:Int))],matR w (M.set i (elimTo p c f r J))++post⟩)
  (fun J=>c≤J∧J≤w) (fun J=>w - J) c ⟨Nat.le_refl _,by omega⟩ (Zbj (Zab [(1,.int .i64 (n:Int)),(6,.osl none 0 0 n),(8,.int .i64 (c:Int)),(11,.int .i64 (i:Int)),(12,.ptr bz 0),(13,.int .i64 (c:Int))] (by simp only [go_sem])) (by rw [Yes (Nat.le_refl _),hMset])) (fun J hJ N hN=>?_)
 obtain ⟨h1,h2⟩:=hJ
 unfold Zqh
 have hnS:(M.set i (elimTo p c f r J)).length=n:=by rw [List.length_set,hn]
 have gP:=Zy2 (w:=w) (M:=M.set i (elimTo p c f r J)) (post:=post)
 rw [hnS] at gP
 have gi:=Zp0 (w:=w) hi
 have gc:=Zp0 (w:=w) hc
 have q0:(0:Int)≤(i:Int):=by omega
 have q1:(i:Int)<(n:Int):=by omega
 have q2:(0:Int)≤(c:Int):=by omega
 have q3:(c:Int)<(n:Int):=by omega
 by_cases hJw:J<w
 ·have rJ:(M.set i (elimTo p c f r J))[i]? = some (elimTo p c f r J):=List.getElem?_set_self (by omega)
  have rcc:(M.set i (elimTo p c f r J))[c]? = some p:=by rw [List.getElem?_set_ne (by omega)]; exact hp
  have gR:=Zma (w:=w) (post:=post) rJ
  have gC:=Zma (w:=w) (post:=post) rcc
  have gQ:=Zve (w:=w) (post:=post) (t:=0) hnS
  rw [hpost,Nat.add_zero, ← hbz] at gQ
  have eJ:(elimTo p c f r J)[J]? = some (rget r J):=by rw [Zg1 (by omega),if_neg (by omega)]
  have pJ:p[J]? = some (rget p J):=Zag (by omega)
  have t1:=Zq6 eJ
  have t2:=Z3u eJ
  have t3:=Zq6 pJ
  have t4:=Z3u pJ
  have r0:(0:Int)≤(J:Int):=by omega
  have r1:(J:Int)<(w:Int):=by omega
  have r2:(J:Int)≤(n:Int):=by omega
  have e1:IntKind.i64.wrap ((J:Int)+1)=((J+1:Nat):Int):=by rw [Zac (by omega) (by omega)]; omega
  have hlen:(matR w (M.set i (elimTo p c f r J))++post).length=1+n+post.length:=by rw [Ydi,hnS]
  have ht:0<post.length:=(List.getElem?_eq_some_iff.1 hpost).1
  have l0:0<1+n+post.length:=by omega
  have l1:1+i<1+n+post.length:=by omega
  have l2:1+c<1+n+post.length:=by omega
  have l3:bz<1+n+post.length:=by omega
  have hfit:J*4+4≤(qr (elimTo p c f r J)).length:=by rw [Z2c,Zdu]; omega
  obtain ⟨m1,m2,m3⟩:=Xa1 (br.get (j:=J) (by omega)) bf (bp.get (j:=J) (by omega)) hk1 hk
  have pl:=Zyx w n
  simp only [go_sem,Zm5,Zmy,Z0e,hm,q0,q1,q2,q3,gP,gi,gc,gR,gC,gQ,List.getElem?_drop,r0,r1,r2,hlen,l0,l1,l2,l3,Yf2,Zcb,t1,t2,t3,t4,pl]
  have bq:∀ (H:Heap) (ids:List Nat) (q:Rat),BVs H ids (rq q) (rq q)=True:=fun H ids q=>Zlr
  refine Zaa m1 (by simp only [go_sem,bq]) ?_
  simp only [go_sem]
  refine Zaa m2 (by simp only [go_sem,bq,avR,Zlr]) ?_
  simp only [go_sem]
  refine Zaa m3 (by simp only [go_sem,avR,Zlr]) ?_
  simp only [go_sem,gR,hlen,l1,Yf2,Zcb,Zc5,hfit,e1,r0,r1]
  rw [Xhf (by rw [Zdu]; omega),Xaz (by omega),Ypb,Yhg (by omega) h1]
  exact hN (J+1) _ ⟨by omega,by omega⟩ (by omega) (Zab _ (by simp only [go_sem]))
 ·have hJw':J=w:=by omega
  have r1:¬ (J:Int)≤(n:Int):=by omega
  simp only [go_sem,Zm5,r1]
  rw [hJw']
  exact hK _ (by simp only [go_sem]) (by simp only [go_sem]) (by simp only [go_sem]) (by simp only [go_sem])
theorem Xa6 {a b:Rat}{k:Nat}(ha:Qb k a) (hb:Qb k b) (h0:b≠0) (hk:k≤1000000):∃ X,SpecV Tryz.prog Ykb [.agg (rq a),.agg (rq b)] (.agg X)∧(∀ H ids,BVs H ids X X=True)∧SpecV Tryz.prog Zml [.agg X] (.agg (rq (a / b))):=by
 have da:=a.den_pos
 have db:=b.den_pos
 have hbn:b.num≠0:=fun h=>h0 (Rat.num_eq_zero.1 h)
 have hd:=rdivq ha.ib.1 ha.ib.2 hb.ib.1 hb.ib.2 (by omega)
 have e:=Xly (q:=a) (w:=b)
 have i1:=ha.ib.1.mul hb.ib.2
 have i2:=ha.ib.2.mul hb.ib.1
 by_cases h:(a.den:Int)*b.num<0
 ·rw [if_pos h] at hd
  have j1:Ib (k+k) (-(a.num*b.den)):=by show Int.natAbs _<_; rw [Int.natAbs_neg]; exact i1
  have j2:Ib (k+k) (-((a.den:Int)*b.num)):=by show Int.natAbs _<_; rw [Int.natAbs_neg]; exact i2
  have hl:=rlow j1 j2 (by omega) (by omega)
  have e':Rat.divInt (-(a.num*b.den)) (-((a.den:Int)*b.num))=a / b:=by
   rw [← e]
   exact (Rat.divInt_eq_divInt_iff (by omega) (by omega)).2 (by rw [Int.neg_mul,Int.mul_neg])
  rw [e'] at hl
  exact ⟨_,hd,fun H ids=>Zlr,hl⟩
 ·rw [if_neg h] at hd
  have hne:(a.den:Int)*b.num≠0:=Int.mul_ne_zero (by omega) hbn
  have hl:=rlow i1 i2 (by omega) (by omega)
  rw [e] at hl
  exact ⟨_,hd,fun H ids=>Zlr,hl⟩
theorem Y7v {w m:Nat}{M:RM}(h:1+M.length≤m):Clo m (matR w M):=by
 unfold Clo matR
 rw [List.map_cons]
 congr 1
 ·simp only [Blk.gc,Zay]
  congr 1
  unfold ptrR
  rw [List.map_map]
  refine List.map_congr_left fun i hi=>?_
  have hi':=List.mem_range.1 hi
  simp only [Function.comp,AV.gc]
  rw [Zbb (by omega)]
 ·unfold rowsR
  rw [List.map_map]
  exact List.map_congr_left fun r _=>by simp only [Function.comp,Blk.gc,Ysz]
theorem Xic {w n c:Nat}{M:RM}{k:Nat}(hn:M.length=n) (hnl:n≤1000) (hw:w=n+1) (hc:c<n) (hW:Wid w M) (hB:Mb k M) (h0:mget M c c≠0) (hk1:1≤k) (hk:k≤200000) {K:Ex→St→Prop}
  (hK:∀ e:Nat→AV,e 1 = .int .i64 (n:Int)→e 6 = .osl none 0 0 n→e 8 = .int .i64 (c:Int)→K (.exit 6) ⟨e,matR w (jorCol M c n)⟩) :
  T Tryz.prog 163 0 (.loop Zr0) ⟨envL [(1,.int .i64 (n:Int)),(6,.osl none 0 0 n),(8,.int .i64 (c:Int)),(11,.int .i64 0)],matR w M⟩ K:=by
 have hm:Tryz.prog.follows .mixedOrders=true:=by kernel_rfl
 refine Zad (fun I:Nat=>⟨envL [(1,.int .i64 (n:Int)),(6,.osl none 0 0 n),(8,.int .i64 (c:Int)),(11,.int .i64 (I:Int))],matR w (jorCol M c I)⟩)
  (fun I=>I≤n) (fun I=>n - I) 0 (by omega) (Zbj (Zab [(1,.int .i64 (n:Int)),(6,.osl none 0 0 n),(8,.int .i64 (c:Int)),(11,.int .i64 0)] (by simp only [go_sem])) (by rw [Yri]; rfl)) (fun I hI N hN=>?_)
 unfold Zr0
 by_cases hIn:I<n
 ·have q0:(0:Int)≤(I:Int):=by omega
  have q1:(I:Int)<(n:Int):=by omega
  have q2:(0:Int)≤(c:Int):=by omega
  have q3:(c:Int)<(n:Int):=by omega
  have q4:(c:Int)<(w:Int):=by omega
  have e1:IntKind.i64.wrap ((I:Int)+1)=((I+1:Nat):Int):=by rw [Zac (by omega) (by omega)]; omega
  have hnJ:(jorCol M c I).length=n:=by rw [Zdn,hn]
  by_cases hIc:I=c
  ·have hIc':(I:Int)=(c:Int):=by omega
   have e1c:IntKind.i64.wrap ((c:Int)+1)=((I+1:Nat):Int):=by rw [← hIc']; exact e1
   simp only [go_sem,Zej,Zhn,Zhk,q3,hIc',e1c]
   refine hN (I+1) _ (by omega) (by omega) (Zbj (Zab [(1,.int .i64 (n:Int)),(6,.osl none 0 0 n),(8,.int .i64 (c:Int)),(11,.int .i64 ((I+1:Nat):Int))] (by simp only [go_sem])) ?_)
   rw [hIc,Ysu]
  ·have hIc':¬ (I:Int)=(c:Int):=by omega
   have hrI:(jorCol M c I)[I]? = some (M.getD I []):=by rw [Zki (by omega),if_neg (by omega)]
   have hrc:(jorCol M c I)[c]? = some (M.getD c []):=by rw [Zki (by omega),if_neg (by omega)]
   have wI:=hW.get (i:=I) (by omega)
   have wc:=hW.get (i:=c) (by omega)
   have bI:=hB.get (i:=I) (by omega)
   have bc:=hB.get (i:=c) (by omega)
   have gP:=Zy2 (w:=w) (M:=jorCol M c I) (post := [])
   rw [hnJ,List.append_nil] at gP
   have gI:=Zma (w:=w) (post := []) hrI
   have gC:=Zma (w:=w) (post := []) hrc
   rw [List.append_nil] at gI gC
   have gi:=Zp0 (w:=w) hIn
   have gc:=Zp0 (w:=w) hc
   have pl:=Zyx w n
   have hlen:(matR w (jorCol M c I)).length=1+n:=by rw [Zck,hnJ]
   have l0:0<1+n:=by omega
   have l1:1+I<1+n:=by omega
   have l2:1+c<1+n:=by omega
   have tI:=Zq6 (Zag (show c<(M.getD I []).length by omega))
   have uI:=Z3u (Zag (show c<(M.getD I []).length by omega))
   have tC:=Zq6 (Zag (show c<(M.getD c []).length by omega))
   have uC:=Z3u (Zag (show c<(M.getD c []).length by omega))
   have hz:=rzero (n:=(rget (M.getD I []) c).num) (d:=(rget (M.getD I []) c).den)
   have hstep:=Yti (M:=M) (c:=c) (I:=I) (by omega) hIc
   have hsame:rget (M.getD I []) c=0→jorCol M c (I+1)=jorCol M c I:=fun hz0=>by
    have:elimRow (M.getD c []) c (M.getD I [])=M.getD I []:=by unfold elimRow; rw [if_pos hz0]
    rw [← hstep,this]
    apply List.ext_getElem?
    intro x
    by_cases hx:I=x
    ·subst hx; rw [List.getElem?_set_self (by omega),hrI]
    ·rw [List.getElem?_set_ne hx]
   by_cases hz0:rget (M.getD I []) c=0
   ·rw [decide_eq_true (by rw [hz0]; rfl)] at hz
    simp only [go_sem,Zej,Zhn,q0,q1,q2,q3,q4,hIc',gP,gi,gI,hlen,l0,l1,List.getElem?_drop,tI,uI,pl]
    refine Zaa hz (by simp only [go_sem,avR]; show BVs _ _ (rc _ _) (rc _ _); rw [Zlr]; trivial) ?_
    simp only [go_sem,Zhk,e1]
    refine hN (I+1) _ (by omega) (by omega) (Zbj (Zab [(1,.int .i64 (n:Int)),(6,.osl none 0 0 n),(8,.int .i64 (c:Int)),(11,.int .i64 ((I+1:Nat):Int))] (by simp only [go_sem])) ?_)
    rw [hsame hz0]
   ·rw [decide_eq_false (fun h=>hz0 (Rat.num_eq_zero.1 h))] at hz
    simp only [go_sem,Zej,Zhn,q0,q1,q2,q3,q4,hIc',gP,gi,gI,hlen,l0,l1,List.getElem?_drop,tI,uI,pl]
    refine Zaa hz (by simp only [go_sem,avR]; show BVs _ _ (rc _ _) (rc _ _); rw [Zlr]; trivial) ?_
    have gP1:=Zy2 (w:=w) (M:=jorCol M c I) (post := [.unborn])
    rw [hnJ] at gP1
    have gI1:=Zma (w:=w) (post := [.unborn]) hrI
    have gC1:=Zma (w:=w) (post := [.unborn]) hrc
    have hlen1:(matR w (jorCol M c I) ++ [Blk.unborn]).length=1+n+1:=by rw [List.length_append,hlen]; rfl
    have l3:0<1+n+1:=by omega
    have l4:1+I<1+n+1:=by omega
    have l5:1+c<1+n+1:=by omega
    obtain ⟨Y,d1,d2,d3⟩:=Xa6 (bI.get (j:=c) (by omega)) (bc.get (j:=c) (by omega)) h0 (by omega)
    simp only [go_sem,Zmz,hm,q0,q1,q2,q3,q4,gP1,gi,gI1,gC1,gc,hlen1,l0,l1,l2,l3,l4,l5,List.getElem?_drop,tI,uI,tC,uC,pl,hlen,true_or,true_and]
    have bq:∀ (H:Heap) (ids:List Nat) (q:Rat),BVs H ids (rq q) (rq q)=True:=fun H ids q=>Zlr
    refine Zaa d1 (by simp only [go_sem,bq]) ?_
    simp only [go_sem]
    refine Zaa d3 (by simp only [go_sem,d2]) ?_
    have hget:∀ bl:Blk,(matR w (jorCol M c I) ++ [bl])[1+n]? = some bl:=fun bl=>by
     have:=Zve (w:=w) (M:=jorCol M c I) (post := [bl]) (t:=0) hnJ
     rw [Nat.add_zero] at this
     rw [this]; rfl
    have hset:∀ x y:Blk,(matR w (jorCol M c I) ++ [x]).set (1+n) y=matR w (jorCol M c I) ++ [y]:=fun x y=>by
     rw [List.set_append_right _ _ (by omega),hlen,Nat.sub_self]; rfl
    simp only [go_sem,hlen1,hlen,Yf2,Zcb,Zc5,hget,hset,Zzl,true_and]
    refine Zap [(1,.int .i64 (n:Int)),(6,.osl none 0 0 n),(8,.int .i64 (c:Int)),(11,.int .i64 (I:Int)),(12,.ptr (1+n) 0),(13,.int .i64 (c:Int))] (by simp only [go_sem]) ?_
    have bf:Qb (2*k) (rget (M.getD I []) c / rget (M.getD c []) c):=((bI.get (j:=c) (by omega)).div2 (bc.get (j:=c) (by omega)) h0).mono (by omega)
    refine Xhs (f:=rget (M.getD I []) c / rget (M.getD c []) c) (k:=k) hnJ hnl hw hIn hc (fun e=>hIc e.symm) hrc hrI wc wI rfl rfl bc bI bf hk1 hk (fun e e1' e6 e8 e11=>?_)
    have hrow:elimRow (M.getD c []) c (M.getD I [])=elimTo (M.getD c []) c (rget (M.getD I []) c / rget (M.getD c []) c) (M.getD I []) w:=by unfold elimRow; rw [if_neg hz0,wI]
    rw [← hrow,hstep]
    simp only [go_sem,Zhk,e11,e1]
    refine hN (I+1) _ (by omega) (by omega) (Ze4 (m:=1+n) (by rw [Zck,Zdn,hn]) (Y7v (by rw [Zdn,hn]; exact Nat.le_refl _)) (by omega) [(1,.int .i64 (n:Int)),(6,.osl none 0 0 n),(8,.int .i64 (c:Int)),(11,.int .i64 ((I+1:Nat):Int))] (by simp only [go_sem,e1',e6,e8]) (fun p hp=>?_))
    simp only [List.mem_cons,List.not_mem_nil,or_false] at hp
    rcases hp with rfl | rfl | rfl | rfl
    ·rfl
    ·simp only [AV.gc]; rw [Zbb (by omega)]
    ·rfl
    ·rfl
 ·have hIe:I=n:=by omega
  have q1:¬ (I:Int)<(n:Int):=by omega
  simp only [go_sem,Zej,q1]
  rw [hIe]
  exact hK _ (by simp only [go_sem]) (by simp only [go_sem]) (by simp only [go_sem])
end GoAbs
namespace GoAbs
open Go Go.Proofs
theorem Rb.elim4 {k:Nat}{p r:List Rat}{c:Nat}(hr:Rb k r) (hp:Rb k p) (hl:p.length=r.length) (hc:c<r.length) (h0:rget p c≠0):Rb (4*k+1) (GoAbs.elimRow p c r):=fun x hx=>by
 unfold GoAbs.elimRow at hx
 split at hx
 ·exact (hr x hx).mono (by omega)
 ·unfold GoAbs.elimTo at hx
  obtain ⟨j,hj,rfl⟩:=List.mem_map.1 hx
  have hj':=List.mem_range.1 hj
  split
  ·exact ((hr.get hj').sub2 (((hr.get hc).div2 (hp.get (by omega)) h0).mul2 (hp.get (by omega)))).mono (by omega)
  ·exact (hr.get hj').mono (by omega)
theorem Mb.jor4 {k w:Nat}{M:RM}(h:Mb k M) (hw:Wid w M) {c I:Nat}(hcM:c<M.length) (hc:c<w) (h0:mget M c c≠0):Mb (4*k+1) (jorCol M c I):=fun r hr=>by
 unfold jorCol at hr
 obtain ⟨i,hi,rfl⟩:=List.mem_map.1 hr
 have hi':=List.mem_range.1 hi
 split
 ·exact Rb.elim4 (h.get hi') (h.get hcM) (by rw [hw.get hcM,hw.get hi']) (by rw [hw.get hi']; exact hc) h0
 ·exact (h.get hi').mono (by omega)
theorem Xjd {w n c:Nat}{M:RM}(hn:M.length=n) (hnl:n≤1000) (hc:c<n) (hcw:c<w) (hW:Wid w M) (h0:mget M c c≠0) {K:Ex→St→Prop}
  (hK:∀ e:Nat→AV,e 1 = .int .i64 (n:Int)→e 6 = .osl none 0 0 n→e 8 = .int .i64 (c:Int)→e 9 = .int .i64 (c:Int)→K (.exit 4) ⟨e,matR w M⟩) :
  T Tryz.prog 163 0 (.loop Zsg) ⟨envL [(1,.int .i64 (n:Int)),(6,.osl none 0 0 n),(8,.int .i64 (c:Int)),(9,.int .i64 (-1)),(10,.int .i64 (c:Int))],matR w M⟩ K:=by
 have hm:Tryz.prog.follows .mixedOrders=true:=by kernel_rfl
 refine Zad (fun y:Nat=>⟨envL [(1,.int .i64 (n:Int)),(6,.osl none 0 0 n),(8,.int .i64 (c:Int)),(9,.int .i64 (if y=0 then -1 else (c:Int))),(10,.int .i64 ((c+y:Nat):Int))],matR w M⟩)
  (fun y=>y≤1) (fun y=>1 - y) 0 (by omega) (Zab _ (by simp only [go_sem])) (fun y hy N hN=>?_)
 unfold Zsg
 have q2:(0:Int)≤(c:Int):=by omega
 have q3:(c:Int)<(n:Int):=by omega
 have q4:(c:Int)<(w:Int):=by omega
 have hrc:M[c]? = some (M.getD c []):=getD_some (by omega)
 have wc:=hW.get (i:=c) (by omega)
 have gP:=Zy2 (w:=w) (M:=M) (post := [])
 rw [hn,List.append_nil] at gP
 have gC:=Zma (w:=w) (post := []) hrc
 rw [List.append_nil] at gC
 have gc:=Zp0 (w:=w) hc
 have pl:=Zyx w n
 have hlen:(matR w M).length=1+n:=by rw [Zck,hn]
 have l0:0<1+n:=by omega
 have l2:1+c<1+n:=by omega
 have tC:=Zq6 (Zag (show c<(M.getD c []).length by omega))
 have uC:=Z3u (Zag (show c<(M.getD c []).length by omega))
 have hz:=rzero (n:=(rget (M.getD c []) c).num) (d:=(rget (M.getD c []) c).den)
 have h0':¬ (rget (M.getD c []) c).num=0:=fun h=>h0 (Rat.num_eq_zero.1 h)
 rw [decide_eq_false h0'] at hz
 have e1:IntKind.i64.wrap ((c:Int)+1)=((c+1:Nat):Int):=by rw [Zac (by omega) (by omega)]; omega
 have m1:(-1:Int)<0:=by decide
 by_cases h:y=0
 ·subst h
  simp only [go_sem,Nat.add_zero,if_true,Zhz,Z1h,Zm4,Zm6,q2,q3,q4,m1,gP,gc,gC,hlen,l0,l2,List.getElem?_drop,tC,uC,pl]
  refine Zaa hz (by simp only [go_sem,avR]; show BVs _ _ (rc _ _) (rc _ _); rw [Zlr]; trivial) ?_
  simp only [go_sem,Bool.not_false,Zm4,Zm6,e1]
  exact hN 1 _ (by omega) (by omega) (Zab _ (by simp only [go_sem]))
 ·have:y=1:=by omega
  subst this
  have m2:¬ (c:Int)<0:=by omega
  by_cases hcn:((c+1:Nat):Int)<(n:Int)
  ·simp only [go_sem,Zhz,hcn,h,if_false,m2]
   exact hK _ (by simp only [go_sem]) (by simp only [go_sem]) (by simp only [go_sem]) (by simp only [go_sem])
  ·simp only [go_sem,Zhz,hcn,h,if_false,m2]
   exact hK _ (by simp only [go_sem]) (by simp only [go_sem]) (by simp only [go_sem]) (by simp only [go_sem])
def jorI (M:RM):Nat→RM
 | 0=>M
 | c+1=>jorCol (jorI M c) c M.length
theorem Yk3 {w n k0:Nat}{M:RM}(hn:M.length=n) (hnw:n≤w) (hW:Wid w M) (hB:Mb k0 M) (hP:Piv n 0 M):∀ c,c≤n→(jorI M c).length=n∧Wid w (jorI M c)∧Piv (n - c) c (jorI M c)∧jorN (n - c) c (jorI M c)=jorN n 0 M∧∃ k,3*k+1=4 ^ c*(3*k0+1)∧Mb k (jorI M c)
 | 0,_=>⟨hn,hW,hP,rfl,k0,by rw [Nat.pow_zero]; omega,hB⟩
 | c+1,h=>by
  obtain ⟨a1,a2,a3,a4,k,a5,a6⟩:=Yk3 hn hnw hW hB hP c (by omega)
  obtain ⟨d,hd⟩:∃ d,n - c=d+1:=⟨n - c - 1,by omega⟩
  have hd':n - (c+1)=d:=by omega
  rw [hd] at a3 a4
  have e:jorCol (jorI M c) c (jorI M c).length=jorI M (c+1):=by rw [a1, ← hn]; rfl
  obtain ⟨b1,b2⟩:=a3
  rw [e] at b2
  refine ⟨by rw [← e,Zdn,a1],by rw [← e]; exact a2.jor,by rw [hd']; exact b2,?_,4*k+1,by rw [Nat.pow_succ,Nat.mul_comm (4 ^ c) 4,Nat.mul_assoc, ← a5]; omega,by rw [← e]; exact a6.jor4 a2 (by omega) (by omega) b1⟩
  rw [hd', ← a4, ← e]
  rfl
theorem Xju {w n k0:Nat}{M:RM}(hn:M.length=n) (hnl:n≤1000) (hw:w=n+1) (hW:Wid w M) (hB:Mb k0 M) (hk0:1≤k0) (hk:4 ^ (n - 1)*(3*k0+1)≤600001) (hP:Piv n 0 M) {K:Ex→St→Prop}
  (hK:∀ e:Nat→AV,e 1 = .int .i64 (n:Int)→e 6 = .osl none 0 0 n→K (.exit 2) ⟨e,matR w (jorI M n)⟩) :
  T Tryz.prog 163 0 (.loop Zq3) ⟨envL [(1,.int .i64 (n:Int)),(6,.osl none 0 0 n),(8,.int .i64 0)],matR w M⟩ K:=by
 have hm:Tryz.prog.follows .mixedOrders=true:=by kernel_rfl
 refine Zad (fun c:Nat=>⟨envL [(1,.int .i64 (n:Int)),(6,.osl none 0 0 n),(8,.int .i64 (c:Int))],matR w (jorI M c)⟩)
  (fun c=>c≤n) (fun c=>n - c) 0 (by omega) (Zab _ (by simp only [go_sem]; simp)) (fun c hc N hN=>?_)
 unfold Zq3
 by_cases hcn:c<n
 ·obtain ⟨a1,a2,a3,_,k,a5,a6⟩:=Yk3 hn (by omega) hW hB hP c hc
  obtain ⟨d,hd⟩:∃ d,n - c=d+1:=⟨n - c - 1,by omega⟩
  rw [hd] at a3
  have h0:=a3.1
  have hk4:4 ^ c*(3*k0+1)≤600001:=Nat.le_trans (Nat.mul_le_mul_right _ (Nat.pow_le_pow_right (by omega) (by omega))) hk
  have hk1:1≤k:=by
   have:1≤4 ^ c:=Nat.pow_pos (by omega)
   have:=Nat.le_mul_of_pos_left (3*k0+1) this
   omega
  have hnext:jorI M (c+1)=jorCol (jorI M c) c n:=by show jorCol (jorI M c) c M.length=_; rw [hn]
  generalize jorI M c=J at *
  have q2:(0:Int)≤(c:Int):=by omega
  have q3:(c:Int)<(n:Int):=by omega
  have m2:¬ (c:Int)<0:=by omega
  have e1:IntKind.i64.wrap ((c:Int)+1)=((c+1:Nat):Int):=by rw [Zac (by omega) (by omega)]; omega
  simp only [go_sem,Zp2,Z7z,Z2g,q3]
  refine Zap [(1,.int .i64 (n:Int)),(6,.osl none 0 0 n),(8,.int .i64 (c:Int)),(9,.int .i64 (-1)),(10,.int .i64 (c:Int))] (by simp only [go_sem]) ?_
  refine Xjd a1 hnl hcn (by omega) a2 h0 (fun e x1 x6 x8 x9=>?_)
  have gP:=Zy2 (w:=w) (M:=J) (post := [])
  rw [a1,List.append_nil] at gP
  have gc:=Zp0 (w:=w) hcn
  have pl:=Zyx w n
  have hlen:(matR w J).length=1+n:=by rw [Zck,a1]
  have l0:0<1+n:=by omega
  have l2:1+c<1+n:=by omega
  have hset:(ptrR w n).take c ++ [.osl (some 4) (1+c) 0 w]++(ptrR w n).drop (c+1)=ptrR w n:=by
   have:=List.set_eq_take_append_cons_drop (l:=ptrR w n) (i:=c) (a:=AV.osl (some 4) (1+c) 0 w)
   rw [if_pos (by omega)] at this
   rw [List.append_assoc,List.singleton_append, ← this]
   apply List.ext_getElem?
   intro x
   by_cases hx:c=x
   ·subst hx; rw [List.getElem?_set_self (by omega),gc]
   ·rw [List.getElem?_set_ne hx]
  have hset0:(matR w J).set 0 (.cells (ptrR w n))=matR w J:=by unfold matR; rw [a1]; rfl
  simp only [go_sem,Z0j,Zof,x1,x6,x8,x9,m2,hm,q2,q3,gP,gc,pl,hlen,l0,l2,List.getElem?_drop,hset,hset0]
  refine ⟨by omega,by omega,?_⟩
  simp only [go_sem,Z1k]
  refine Zap [(1,.int .i64 (n:Int)),(6,.osl none 0 0 n),(8,.int .i64 (c:Int)),(11,.int .i64 0)] (by simp only [go_sem,x1,x6,x8]) ?_
  refine Xic a1 hnl hw hcn a2 a6 h0 hk1 (by omega) (fun e' y1 y6 y8=>?_)
  rw [← hnext]
  simp only [go_sem,Z1p,y8,e1]
  exact hN (c+1) _ (by omega) (by omega) (Zab _ (by simp only [go_sem,y1,y6]))
 ·have hce:c=n:=by omega
  have q1:¬ (c:Int)<(n:Int):=by omega
  simp only [go_sem,Zp2,q1]
  rw [hce]
  exact hK _ (by simp only [go_sem]) (by simp only [go_sem])
end GoAbs
namespace GoAbs
open Go Go.Proofs
theorem Yth:∀ {A B:List Nat}{b:Nat},pos (A++B) b=match pos A b with | some j=>some j | none=>(pos B b).map (· + A.length)
 | [],B,b=>by show pos B b=(pos B b).map (· + 0); cases pos B b <;> rfl
 | x::A,B,b=>by
  show (if x=b then some 0 else (pos (A++B) b).map (· + 1))=match (if x=b then some 0 else (pos A b).map (· + 1)) with | some j=>some j | none=>(pos B b).map (· + (A.length+1))
  by_cases h:x=b
  ·rw [if_pos h,if_pos h]
  ·rw [if_neg h,if_neg h,Yth]
   cases pos A b with
   | some j=>rfl
   | none=>cases pos B b with
    | none=>rfl
    | some j=>show some _=some _; congr 1
theorem Ym6 {m:Nat}:(∀ i,i<m→pos (List.range m ++ [m+2]) i=some i)∧pos (List.range m ++ [m+2]) (m+2)=some m:=by
 refine ⟨fun i hi=>by rw [Yth,Zbb hi],?_⟩
 have:pos (List.range m) (m+2)=none:=by
  cases h:pos (List.range m) (m+2) with
  | none=>rfl
  | some j =>
   have:=Ysa h
   have hj:=(List.getElem?_eq_some_iff.1 this).1
   rw [List.length_range] at hj
   rw [List.getElem?_range hj] at this
   cases this
   omega
 rw [Yth,this]
 simp [pos]
theorem Xdu {nt n0 m:Nat}{e:Nat→AV}{K:Heap}{b1 b2:Blk}{cs:List AV}(hm:K.length=m) (hn:n0≤m) (hK:∀ f:Nat→Option Nat,(∀ i,i<m→f i=some i)→K.map (Blk.gc f)=K) (hc:∀ f,gcL f cs=cs) (l:List (Nat×AV)) (hl:Has e l) :
  Le nt n0 ⟨e,K ++ [b1,b2,.cells cs]⟩ ⟨envL (l.map fun p=>(p.1,p.2.gc (pos (List.range m ++ [m+2])))),K ++ [.cells cs]⟩:=by
 refine Zbj (Zgv (List.range m ++ [m+2]) ?_ (fun i hi=>by rw [List.getElem?_append_left (by rw [List.length_range]; omega),List.getElem?_range (by omega)]) l hl) ?_
 ·rw [List.nodup_append]
  refine ⟨List.nodup_range,by simp,fun a ha b hb=>?_⟩
  have:=List.mem_range.1 ha
  rw [List.mem_singleton] at hb
  omega
 ·refine congrArg (St.mk _) ?_
  show List.map (fun i=>((K ++ [b1,b2,Blk.cells cs]).getD i Blk.dead).gc (pos (List.range m ++ [m+2]))) (List.range m ++ [m+2])=K ++ [.cells cs]
  rw [List.map_append,List.map_singleton]
  congr 1
  ·conv=>rhs; rw [← hK (pos (List.range m ++ [m+2])) Ym6.1]
   apply List.ext_getElem?
   intro i
   rw [List.getElem?_map,List.getElem?_map]
   by_cases hi:i<m
   ·rw [List.getElem?_range hi,List.getElem?_eq_getElem (show i<K.length by omega)]
    show some (((K ++ [b1,b2,Blk.cells cs]).getD i Blk.dead).gc _)=some _
    rw [List.getD_eq_getElem?_getD,List.getElem?_append_left (by omega),List.getElem?_eq_getElem (by omega)]
    rfl
   ·rw [List.getElem?_eq_none (by rw [List.length_range]; omega),List.getElem?_eq_none (by omega)]; rfl
  ·rw [List.getD_eq_getElem?_getD,List.getElem?_append_right (by omega),hm,show m+2 - m=2 by omega]
   show [Blk.cells (gcL _ cs)]=_
   rw [hc]
theorem Xd1 {w:Nat}{M:RM}{f:Nat→Option Nat}(hf:∀ i,i<1+M.length→f i=some i):(matR w M).map (Blk.gc f)=matR w M:=by
 unfold matR
 rw [List.map_cons]
 congr 1
 ·simp only [Blk.gc,Zay]
  congr 1
  unfold ptrR
  rw [List.map_map]
  refine List.map_congr_left fun i hi=>?_
  have hi':=List.mem_range.1 hi
  simp only [Function.comp,AV.gc]
  rw [hf _ (by omega)]
 ·unfold rowsR
  rw [List.map_map]
  exact List.map_congr_left fun r _=>by simp only [Function.comp,Blk.gc,Ysz]
def solR (T:RM) (n i:Nat):List Rat:=(List.range i).map fun c=>mget T c n / mget T c c
theorem Y3x {T:RM}{n i:Nat}:solR T n (i+1)=solR T n i ++ [mget T i n / mget T i i]:=by unfold solR; rw [List.range_succ,List.map_append]; rfl
theorem Xjn {w n k:Nat}{T:RM}(hn:T.length=n) (hnl:n≤1000) (hw:w=n+1) (hW:Wid w T) (hB:Mb k T) (hk:k≤1000000) (h0:∀ i,i<n→mget T i i≠0) {K:Ex→St→Prop}
  (hK:∀ e:Nat→AV,e 14 = .osl (some 4) (1+n) 0 n→K (.exit 10) ⟨e,matR w T ++ [.cells (qr (solR T n n))]⟩) :
  GoAbs.T Tryz.prog 163 0 (.loop Zr6) ⟨envL [(1,.int .i64 (n:Int)),(6,.osl none 0 0 n),(14,.osl (some 4) (1+n) 0 0),(15,.int .i64 0)],matR w T ++ [.cells []]⟩ K:=by
 have hm:Tryz.prog.follows .mixedOrders=true:=by kernel_rfl
 refine Zad (fun i:Nat=>⟨envL [(1,.int .i64 (n:Int)),(6,.osl none 0 0 n),(14,.osl (some 4) (1+n) 0 i),(15,.int .i64 (i:Int))],matR w T ++ [.cells (qr (solR T n i))]⟩)
  (fun i=>i≤n) (fun i=>n - i) 0 (by omega) (Zab _ (by simp only [go_sem]; simp)) (fun i hi N hN=>?_)
 unfold Zr6
 by_cases hin:i<n
 ·have q0:(0:Int)≤(i:Int):=by omega
  have q1:(i:Int)<(n:Int):=by omega
  have q2:(0:Int)≤(n:Int):=by omega
  have q3:(n:Int)<(w:Int):=by omega
  have q4:(i:Int)<(w:Int):=by omega
  have e1:IntKind.i64.wrap ((i:Int)+1)=((i+1:Nat):Int):=by rw [Zac (by omega) (by omega)]; omega
  have hri:T[i]? = some (T.getD i []):=getD_some (by omega)
  have wi:=hW.get (i:=i) (by omega)
  have bi:=hB.get (i:=i) (by omega)
  have gi:=Zp0 (w:=w) hin
  have pl:=Zyx w n
  have tN:=Zq6 (Zag (show n<(T.getD i []).length by omega))
  have uN:=Z3u (Zag (show n<(T.getD i []).length by omega))
  have tI:=Zq6 (Zag (show i<(T.getD i []).length by omega))
  have uI:=Z3u (Zag (show i<(T.getD i []).length by omega))
  obtain ⟨Y,d1,d2,d3⟩:=Xa6 (bi.get (j:=n) (by omega)) (bi.get (j:=i) (by omega)) (h0 i hin) hk
  have lo:(solR T n i).length=i:=by simp [solR]
  have l1:(qr (solR T n i)).length=i*4:=by rw [Z2c,lo]
  have l2:(qr (solR T n i)).take (i*4)=qr (solR T n i):=List.take_of_length_le (by omega)
  have s1:(i+1)*64≤1099511627776:=by omega
  have gP:∀ post:Heap,(matR w T++post)[0]? = some (.cells (ptrR w n)):=fun post=>by have:=Zy2 (w:=w) (M:=T) (post:=post); rwa [hn] at this
  have gI:∀ post:Heap,(matR w T++post)[1+i]? = some (.cells (qr (T.getD i []))):=fun post=>Zma hri
  have gO:∀ (post:Heap) (t:Nat),(matR w T++post)[1+n+t]? = post[t]?:=fun post t=>Zve hn
  have hlen:∀ post:Heap,(matR w T++post).length=1+n+post.length:=fun post=>by rw [Ydi,hn]
  have bq:∀ (H:Heap) (ids:List Nat) (q:Rat),BVs H ids (rq q) (rq q)=True:=fun H ids q=>Zlr
  have l3:0<1+n+1:=by omega
  have l4:1+i<1+n+1:=by omega
  have hset:∀ (post:Heap) (t:Nat) (y:Blk),(matR w T++post).set (1+n+t) y=matR w T++post.set t y:=fun post t y=>by
   rw [List.set_append_right _ _ (by rw [Zck]; omega),Zck]
   congr 2; omega
  have fin:∀ (e:Nat→AV) (b1 b2:Blk),Has e [(1,.int .i64 (n:Int)),(6,.osl none 0 0 n),(14,.osl (some 4) (1+n+2) 0 (i+1)),(15,.int .i64 ((i+1:Nat):Int))]→N ⟨e,matR w T ++ [b1,b2,.cells (qr (solR T n i)++rq (rget (T.getD i []) n / rget (T.getD i []) i))]⟩:=fun e b1 b2 he=>by
   have hs:qr (solR T n (i+1))=qr (solR T n i)++rq (rget (T.getD i []) n / rget (T.getD i []) i):=by rw [Y3x,Ygj]; simp [qr,mget]
   rw [← hs]
   refine hN (i+1) _ (by omega) (by omega) (Zbj (Xdu (m:=1+n) (K:=matR w T) (by rw [Zck,hn]) (by omega) (fun f hf=>Xd1 (by rw [hn]; exact hf)) (fun f=>Ysz _) _ he) ?_)
   simp only [List.map_cons,List.map_nil,AV.gc]
   rw [Ym6.2,Ym6.1 0 (by omega)]
  simp only [go_sem,Znp,Zog,hm,q0,q1,q2,q3,q4,gP,gi,gI,gO,hlen,List.getElem?_drop,tN,uN,tI,uI,pl,List.append_assoc,l3,l4,true_or,true_and]
  refine Zaa d1 (by simp only [go_sem,bq]) ?_
  simp only [go_sem]
  refine Zaa d3 (by simp only [go_sem,d2]) ?_
  have gO0:∀ (post:Heap),(matR w T++post)[1+n]? = post[0]?:=fun post=>gO post 0
  have hset0:∀ (post:Heap) (y:Blk),(matR w T++post).set (1+n) y=matR w T++post.set 0 y:=fun post y=>hset post 0 y
  have l5:1+n<1+n+1:=by omega
  simp only [go_sem,hlen,gO,gO0,hset,hset0,Yf2,Zcb,Zc5,l1,l2,l5,s1,true_or,true_and,Z1m,e1]
  have e2:1+n+1+1=1+n+2:=by omega
  rw [e2,hset]
  exact ⟨Nat.le_refl _,by rw [gO]; rfl,fin _ _ _ (by simp only [go_sem])⟩
 ·have hie:i=n:=by omega
  have q1:¬ (i:Int)<(n:Int):=by omega
  simp only [go_sem,Znp,q1]
  rw [hie]
  exact hK _ (by simp only [go_sem])
end GoAbs
namespace GoAbs
open Go Go.Proofs
def rowV (r:List Rat):AV := .sl (r.map fun q => .agg (rq q))
def rowsV (M:RM):List AV:=M.map rowV
theorem Y5e {r:List Rat}:(r.map fun q=>AV.agg (rq q)).flatMap AV.cells=qr r:=by rw [List.flatMap_map]; rfl
theorem Y28 {r:List Rat}:∀ y,y∈(r.map fun q=>AV.agg (rq q))→y.cells.length=4:=fun y hy=>by obtain ⟨q,_,rfl⟩:=List.mem_map.1 hy; rfl
theorem Y32 {w n:Nat}:ptrR w (n+1)=ptrR w n ++ [.osl (some 4) (1+n) 0 w]:=by unfold ptrR; rw [List.range_succ,List.map_append]; rfl
theorem Ynf {i:Nat}:(∀ j,j≤i→pos ((i+3)::List.range' 1 (i+1)) (1+j)=some (1+j))∧pos ((i+3)::List.range' 1 (i+1)) (i+3)=some 0:=by
 refine ⟨fun j hj=>?_,by unfold pos; rw [if_pos rfl]⟩
 unfold pos
 rw [if_neg (by omega)]
 have main:∀ (k s b:Nat),s≤b→b<s+k→pos (List.range' s k) b=some (b - s):=by
  intro k
  induction k with
  | zero=>intro s b h1 h2; omega
  | succ k ih =>
   intro s b h1 h2
   rw [List.range'_succ]
   unfold pos
   by_cases h:s=b
   ·rw [if_pos h,h,Nat.sub_self]
   ·rw [if_neg h,ih (s+1) b (by omega) (by omega)]
    simp only [Option.map_some,Option.some.injEq]
    omega
 rw [main (i+1) 1 (1+j) (by omega) (by omega)]
 simp only [Option.map_some,Option.some.injEq]
 omega
theorem Xdc {nt w i:Nat}{e:Nat→AV}{M:RM}{r:List Rat}{b1:Blk}(hM:M.length=i) (l:List (Nat×AV)) (hl:Has e l) :
  Le nt 0 ⟨e,.dead::(rowsR M ++ [.cells (qr r),b1,.cells (ptrR w i ++ [.osl (some 4) (1+i) 0 w])])⟩ ⟨envL (l.map fun p=>(p.1,p.2.gc (pos ((i+3)::List.range' 1 (i+1))))),matR w (M ++ [r])⟩:=by
 have hrl:(rowsR M).length=i:=by simp [rowsR,hM]
 refine Zbj (Zgv ((i+3)::List.range' 1 (i+1)) ?_ (fun i hi=>by omega) l hl) (congrArg (St.mk _) ?_)
 ·rw [List.nodup_cons]
  exact ⟨by rw [List.mem_range'_1]; omega,List.nodup_range'⟩
 ·show List.map (fun j=>((Blk.dead::(rowsR M ++ [.cells (qr r),b1,.cells (ptrR w i ++ [.osl (some 4) (1+i) 0 w])])).getD j Blk.dead).gc (pos ((i+3)::List.range' 1 (i+1)))) ((i+3)::List.range' 1 (i+1))=_
  rw [List.map_cons]
  have hp:(Blk.dead::(rowsR M ++ [.cells (qr r),b1,.cells (ptrR w i ++ [.osl (some 4) (1+i) 0 w])])).getD (i+3) Blk.dead = .cells (ptrR w (i+1)):=by
   rw [List.getD_eq_getElem?_getD,show i+3=(i+2)+1 by omega,List.getElem?_cons_succ,List.getElem?_append_right (by omega),hrl,show i+2 - i=2 by omega,Y32]
   rfl
  rw [hp]
  unfold matR
  rw [List.length_append,hM]
  congr 1
  ·show Blk.gc _ (Blk.cells (ptrR w (i+1)))=Blk.cells (ptrR w (i+1))
   simp only [Blk.gc,Zay]
   congr 1
   unfold ptrR
   rw [List.map_map]
   refine List.map_congr_left fun j hj=>?_
   have hj':=List.mem_range.1 hj
   simp only [Function.comp,AV.gc]
   rw [Ynf.1 j (by omega)]
  ·apply List.ext_getElem?
   intro j
   rw [List.getElem?_map]
   by_cases hj:j<i+1
   ·rw [List.getElem?_range' hj]
    show some (Blk.gc _ ((Blk.dead::(rowsR M ++ [.cells (qr r),b1,.cells (ptrR w i ++ [.osl (some 4) (1+i) 0 w])])).getD (1+1*j) Blk.dead))=_
    have hg:(Blk.dead::(rowsR M ++ [.cells (qr r),b1,.cells (ptrR w i ++ [.osl (some 4) (1+i) 0 w])])).getD (1+1*j) Blk.dead = .cells (qr ((M ++ [r]).getD j [])):=by
     rw [List.getD_eq_getElem?_getD,show 1+1*j=j+1 by omega,List.getElem?_cons_succ,List.getD_eq_getElem?_getD]
     by_cases hji:j<i
     ·rw [List.getElem?_append_left (by omega),List.getElem?_append_left (by omega)]
      unfold rowsR
      rw [List.getElem?_map,List.getElem?_eq_getElem (by omega)]; rfl
     ·have:j=i:=by omega
      subst this
      rw [List.getElem?_append_right (by omega),hrl,List.getElem?_append_right (by omega),hM,Nat.sub_self]; rfl
    rw [hg]
    unfold rowsR
    rw [List.getElem?_map,getD_some (M:=M ++ [r]) (by rw [List.length_append,hM]; simpa using hj)]
    simp only [Blk.gc,Ysz,Option.map_some]
   ·rw [List.getElem?_eq_none (by rw [List.length_range']; omega),List.getElem?_eq_none (by simp [rowsR,hM]; omega)]; rfl
theorem Xh7 {w n:Nat}{M:RM}(hn:M.length=n) (hnl:n≤1000) (hwl:w≤1000) (hW:Wid w M) {K:Ex→St→Prop}
  (hK:∀ e:Nat→AV,e 1 = .int .i64 (n:Int)→e 6 = .osl none 0 0 n→K (.exit 0) ⟨e,matR w M⟩) :
  T Tryz.prog 163 0 (.loop Zqw) ⟨envL [(0,.sl (rowsV M)),(1,.int .i64 (n:Int)),(6,.osl none 0 0 0),(7,.int .i64 0)],matR w []⟩ K:=by
 have hm:Tryz.prog.follows .mixedOrders=true:=by kernel_rfl
 refine Zad (fun i:Nat=>⟨envL [(0,.sl (rowsV M)),(1,.int .i64 (n:Int)),(6,.osl none 0 0 i),(7,.int .i64 (i:Int))],matR w (M.take i)⟩)
  (fun i=>i≤n) (fun i=>n - i) 0 (by omega) (Zab _ (by simp only [go_sem]; simp)) (fun i hi N hN=>?_)
 unfold Zqw
 have hvl:(rowsV M).length=n:=by simp [rowsV,hn]
 by_cases hin:i<n
 ·have q0:(0:Int)≤(i:Int):=by omega
  have q1:(i:Int)<(n:Int):=by omega
  have e1:IntKind.i64.wrap ((i:Int)+1)=((i+1:Nat):Int):=by rw [Zac (by omega) (by omega)]; omega
  have hri:M[i]? = some (M.getD i []):=getD_some (by omega)
  have gv:(rowsV M)[i]? = some (rowV (M.getD i [])):=by unfold rowsV; rw [List.getElem?_map,hri]; rfl
  have wi:=hW.get (i:=i) (by omega)
  have tk:M.take (i+1)=M.take i ++ [M.getD i []]:=by rw [List.take_add_one,hri]; rfl
  have hMl:(M.take i).length=i:=by rw [List.length_take]; omega
  generalize M.getD i []=r at *
  generalize M.take i=J at *
  have hrv:(r.map fun q=>AV.agg (rq q)).length=w:=by rw [List.length_map,wi]
  have hlen:(matR w J).length=1+i:=by rw [Zck,hMl]
  have hform:matR w J = .cells (ptrR w i)::rowsR J:=by unfold matR; rw [hMl]
  have pl:=Zyx w i
  have s1:w*64≤1099511627776:=by omega
  have s2:(i+1)*24≤1099511627776:=by omega
  have ql:(qr r).length=w*4:=by rw [Z2c,wi]
  have qt:(qr r).take (w*4)=qr r:=List.take_of_length_le (by omega)
  have pt:(ptrR w i).take i=ptrR w i:=List.take_of_length_le (by omega)
  unfold rowV at gv
  simp only [go_sem,Zpw,Z5w,q0,q1,hvl,gv,hrv,Y5e,s1,s2,hlen,pl,pt,ql,qt]
  refine ⟨Y28,?_⟩
  have gL:∀ post:Heap,(matR w J++post).length=1+i+post.length:=fun post=>by rw [Ydi,hMl]
  have gO:∀ (post:Heap) (t:Nat),(matR w J++post)[1+i+t]? = post[t]?:=fun post t=>Zve hMl
  have gP:∀ post:Heap,(matR w J++post)[0]? = some (.cells (ptrR w i)):=fun post=>by rw [hform]; rfl
  have hset0:∀ (post:Heap) (bl:Blk),(matR w J++post).set 0 bl=bl::(rowsR J++post):=fun post bl=>by rw [hform]; rfl
  simp only [go_sem,List.append_assoc,gL,gO,gP,hset0,pl,pt,s2,e1,Z4n]
  have hln:∀ a b:Blk,(rowsR J ++ [a,b]).length+1=i+3:=fun a b=>by simp [rowsR,hMl]
  refine ⟨Nat.le_refl _,hN (i+1) _ (by omega) (by omega) ?_⟩
  rw [tk]
  refine Zbj (Xdc (i:=i) hMl [(0,.sl (rowsV M)),(1,.int .i64 (n:Int)),(6,.osl none (i+3) 0 (i+1)),(7,.int .i64 ((i+1:Nat):Int))] (by simp only [go_sem,hln])) ?_
  simp only [List.map_cons,List.map_nil,AV.gc]
  rw [Ynf.2]
 ·have hie:i=n:=by omega
  have q1:¬ (i:Int)<(n:Int):=by omega
  have hall:M.take n=M:=List.take_of_length_le (by omega)
  simp only [go_sem,Zpw,q1,hvl]
  rw [hie,hall]
  exact hK _ (by simp only [go_sem]) (by simp only [go_sem])
theorem rsolve {n k0:Nat}{M:RM}(hn:M.length=n) (hn1:1≤n) (hnl:n≤900) (hW:Wid (n+1) M) (hB:Mb k0 M) (hk0:1≤k0) (hk:4 ^ (n - 1)*(3*k0+1)≤600001) (hP:Piv n 0 M) (h0:∀ i,i<n→mget (jorN n 0 M) i i≠0) :
  SpecV Tryz.prog Ytd [.sl (rowsV M),.int .i64 (n:Int)] (.tup [rowV (solR (jorN n 0 M) n n),.bool true]):=by
 obtain ⟨a1,a2,_,a4,k,a5,a6⟩:=Yk3 hn (by omega) hW hB hP n (Nat.le_refl _)
 rw [Nat.sub_self] at a4
 have hJ:jorI M n=jorN n 0 M:=a4
 rw [hJ] at a1 a2 a6
 have hk4:k≤1000000:=by
  have e:4 ^ n=4*4 ^ (n - 1):=by
   obtain ⟨m,rfl⟩:∃ m,n=m+1:=⟨n - 1,by omega⟩
   rw [Nat.pow_succ,Nat.mul_comm]; rfl
  rw [e,Nat.mul_assoc] at a5
  omega
 refine Za0 Ynn (by simp) (Za9 1 rfl ?_)
 unfold Ykd
 simp only [go_sem,Z7i,Z5k]
 refine T_le (Zgz 6 none (by simp only [go_sem]) [(0,.sl (rowsV M)),(1,.int .i64 (n:Int)),(4,.nils),(5,.bool false)] (by simp only [go_sem])) ?_
 refine Zau (Zau (T_W ?_))
 simp only [go_sem,Z6d]
 refine Zat (Zap [(0,.sl (rowsV M)),(1,.int .i64 (n:Int)),(6,.osl none 0 0 0),(7,.int .i64 0)] (by simp only [go_sem]) ?_)
 refine Xh7 hn (by omega) (by omega) hW (fun e e1 e6=>?_)
 show T Tryz.prog 163 0 _ _ _
 refine Zau (Zau (T_W ?_))
 simp only [go_sem,Z7j]
 refine Zat (Zap [(1,.int .i64 (n:Int)),(6,.osl none 0 0 n),(8,.int .i64 0)] (by simp only [go_sem,e1,e6]) ?_)
 refine Xju hn (by omega) rfl hW hB hk0 hk hP (fun e e1 e6=>?_)
 show T Tryz.prog 163 0 _ _ _
 rw [hJ]
 refine Za9 0 rfl ?_
 simp only [go_sem,Z1c]
 refine T_le (Zgz 14 (some 4) (by simp only [go_sem]) [(1,.int .i64 (n:Int)),(6,.osl none 0 0 n)] (by simp only [go_sem,e1,e6])) ?_
 refine Zau (Zau (T_W ?_))
 simp only [go_sem,Zzp]
 refine Zat (Zap [(1,.int .i64 (n:Int)),(6,.osl none 0 0 n),(14,.osl (some 4) (1+n) 0 0),(15,.int .i64 0)] (by simp only [go_sem,Zck,a1]) ?_)
 refine Xjn a1 (by omega) rfl a2 a6 hk4 h0 (fun e e14=>?_)
 show T Tryz.prog 163 0 _ _ _
 refine T_W ?_
 simp only [go_sem,Zzr,e14]
 have hsl:(solR (jorN n 0 M) n n).length=n:=by simp [solR]
 have hg:(matR (n+1) (jorN n 0 M) ++ [Blk.cells (qr (solR (jorN n 0 M) n n))])[1+n]? = some (.cells (qr (solR (jorN n 0 M) n n))):=by
  have:=Zve (w:=n+1) (M:=jorN n 0 M) (post := [Blk.cells (qr (solR (jorN n 0 M) n n))]) (t:=0) a1
  exact this
 have hbv:=Z32 (H:=matR (n+1) (jorN n 0 M) ++ [Blk.cells (qr (solR (jorN n 0 M) n n))]) (ids:=allOf (matR (n+1) (jorN n 0 M) ++ [Blk.cells (qr (solR (jorN n 0 M) n n))])) (w:=4) (b:=1+n) (R:=(solR (jorN n 0 M) n n).map rq) hg (by
  unfold allOf
  rw [List.mem_range,List.length_append,Zck,a1]
  simp) (by unfold qr; rw [List.flatMap_def]) (fun c hc=>by obtain ⟨q,_,rfl⟩:=List.mem_map.1 hc; rfl) (fun c hc=>by obtain ⟨q,_,rfl⟩:=List.mem_map.1 hc; exact of_eq_true Zlr)
 rw [List.length_map,hsl,List.map_map] at hbv
 exact hbv
end GoAbs
namespace GoAbs
open Go Go.Proofs
set_option exponentiation.threshold 20000
def ss (x:List Rat):List AV:=x.map fun q => .str (bs (numS q))
theorem Yn0 (x:List Rat):(ss x).length=x.length:=by simp [ss]
theorem Xkz {H:Heap}{ids:List Nat}{b:Nat}{x:List Rat}(hb:H[b]? = some (.cells (ss x))) (hi:b∈ids):BV H ids (.osl none b 0 x.length) (.sl (ss x)):=by
 refine .osl none b 0 x.length (ss x) (ss x) hb hi (Yn0 x) (fun y hy=>?_) (by rw [Yn0]; simp [es]) (fun i y j z w hy hz hw=>?_)
 ·obtain ⟨c,_,rfl⟩:=List.mem_map.1 hy; rfl
 ·obtain ⟨c,_,rfl⟩:=List.mem_map.1 (List.mem_of_getElem? hy)
  have hj:j=0:=by
   have:=(List.getElem?_eq_some_iff.1 hz).1
   simp [AV.cells] at this; omega
  subst hj
  simp [AV.cells] at hz
  subst hz
  simp [es] at hw
  rw [hy] at hw
  cases hw
  exact .str _
theorem Xk1 {f:Nat→Option Nat}{x:List Rat}:gcL f (ss x)=ss x:=by
 rw [Zay]; unfold ss; rw [List.map_map]; rfl
def numsR (x:List Rat):AV:=if ∀ q,q∈x→NumOk q then .tup [.sl (ss x),.int .i64 0] else .tup [.nils,.int .i64 4]
theorem Xdg {x:List Rat}(hx:∀ q,q∈x→Tx q.num.natAbs∧Tx q.den) (hl:x.length≤1000000) {K:Ex→St→Prop}
  (hK:(∀ q,q∈x→NumOk q)→∀ e:Nat→AV,e 4 = .osl none 0 0 x.length→K (.exit 0) ⟨e,[.cells (ss x)]⟩)
  (hK0:(¬ ∀ q,q∈x→NumOk q)→∀ e:Nat→AV,∀ H,e 2 = .nils→e 3 = .int .i64 4→K .ret ⟨e,H⟩) :
  T Tryz.prog 29 0 (.loop Zkq) ⟨envL [(4,.osl none 0 0 0),(9,.sl (condsR x)),(10,.int .i64 (x.length:Int)),(11,.int .i64 0)],[.cells []]⟩ K:=by
 have hm:Tryz.prog.follows .mixedOrders=true:=by kernel_rfl
 refine Zad (fun i:Nat=>⟨envL [(4,.osl none 0 0 i),(9,.sl (condsR x)),(10,.int .i64 (x.length:Int)),(11,.int .i64 (i:Int))],[.cells (ss (x.take i))]⟩)
  (fun i=>i≤x.length∧∀ q,q∈x.take i→NumOk q) (fun i=>x.length - i) 0 ⟨by omega,by simp⟩ (Zab _ (by simp only [go_sem]; simp)) (fun i hi N hN=>?_)
 obtain ⟨hi,hall⟩:=hi
 unfold Zkq
 by_cases hin:i<x.length
 ·have gx:=Zag hin
  have gc:=Zbz gx
  have hmem:=List.mem_of_getElem? gx
  have hq:=Xl3 (hx _ hmem).1 (hx _ hmem).2
  have tk:x.take (i+1)=x.take i ++ [rget x i]:=by rw [List.take_add_one,gx]; rfl
  have q0:(0:Int)≤(i:Int):=by omega
  have q1:(i:Int)<(x.length:Int):=by omega
  have e1:IntKind.i64.wrap ((i:Int)+1)=((i+1:Nat):Int):=by rw [Zac (by omega) (by omega)]; omega
  have l1:(ss (x.take i)).length=i:=by rw [Yn0,List.length_take]; omega
  have l2:(ss (x.take i)).take i=ss (x.take i):=List.take_of_length_le (by omega)
  have s1:(i+1)*16≤1099511627776:=by omega
  have ql:(qcell (rget x i)).length=4:=rfl
  have qt:(qcell (rget x i)).take 4=qcell (rget x i):=rfl
  have qd:(qcell (rget x i)).drop 4 = []:=rfl
  simp only [go_sem,Zla,Zw0,Zw7,q0,q1,gc,ql,qt,qd]
  refine Zaa hq (by simp only [go_sem,Za1,Zaj]) ?_
  by_cases hok:NumOk (rget x i)
  ·rw [if_pos hok]
   simp only [go_sem,Zld,Zyr,Ztq,e1,l1,l2,s1]
   refine ⟨Nat.le_refl _,hN (i+1) _ ⟨by omega,?_⟩ (by omega) ?_⟩
   ·rw [tk]; intro q hq
    rcases List.mem_append.1 hq with h | h
    ·exact hall q h
    ·rw [List.mem_singleton.1 h]; exact hok
   ·refine Zbj (Zgv [3] (by decide) (fun i hi=>by omega) [(4,.osl none 3 0 (i+1)),(9,.sl (condsR x)),(10,.int .i64 (x.length:Int)),(11,.int .i64 ((i+1:Nat):Int))] (by simp only [go_sem])) ?_
    have hss:ss (x.take (i+1))=ss (x.take i) ++ [.str (bs (numS (rget x i)))]:=by rw [tk]; unfold ss; rw [List.map_append]; rfl
    show St.mk _ [Blk.cells (gcL _ (ss (x.take i) ++ [.str (bs (numS (rget x i)))]))]=_
    rw [← hss,Xk1]
    rfl
  ·rw [if_neg hok]
   have h4:¬ (4:Int)=0:=by decide
   simp only [go_sem,Zld,Zyo,h4]
   exact hK0 (fun h=>hok (h _ hmem)) _ _ (by simp only [go_sem]) (by simp only [go_sem])
 ·have hie:i=x.length:=by omega
  subst hie
  have q1:¬ ((x.length:Nat):Int)<(x.length:Int):=by omega
  rw [List.take_length] at hall ⊢
  simp only [go_sem,Zla,q1]
  exact hK hall _ (by simp only [go_sem])
theorem Yeq {x:List Rat}(hx:∀ q,q∈x→Tx q.num.natAbs∧Tx q.den) (hl:x.length≤1000000):SpecV Tryz.prog Yli [.sl (condsR x)] (numsR x):=by
 refine Za0 Yhv (by simp) (Za9 1 rfl ?_)
 unfold Z96
 simp only [go_sem,Zwg,Zv6]
 refine T_le (Zgz 4 none (by simp only [go_sem]) [(0,.sl (condsR x)),(2,.nils),(3,.int .i64 0)] (by simp only [go_sem])) ?_
 refine T_W ?_
 simp only [go_sem,Zu3,Zfi]
 refine Zap [(4,.osl none 0 0 0),(9,.sl (condsR x)),(10,.int .i64 (x.length:Int)),(11,.int .i64 0)] (by simp only [go_sem]) ?_
 refine Xdg hx hl (fun hall e e4=>?_) (fun hall e H e2 e3=>?_)
 ·simp only [go_sem,Zta,e4,numsR,if_pos hall]
  exact Xkz rfl (by simp [allOf])
 ·simp only [go_sem,e2,e3,numsR,if_neg hall]
end GoAbs
namespace GoAbs
open Go Go.Proofs
theorem Xhj {x:List Rat}{k:Nat}(hb:Rb k x) (hk:k≤10000000) (hl:x.length≤1000000) (hok:∀ q,q∈x→NumOk q) {K:Ex→St→Prop}
  (hK:∀ e:Nat→AV,K (.exit 0) ⟨e,[]⟩) :
  T Tryz.prog 27 0 (.loop Z2t) ⟨envL [(0,.sl (ss x)),(1,rowV x),(5,.int .i64 0)],[]⟩ K:=by
 have hm:Tryz.prog.follows .mixedOrders=true:=by kernel_rfl
 refine Zad (fun i:Nat=>⟨envL [(0,.sl (ss x)),(1,rowV x),(5,.int .i64 (i:Int))],[]⟩)
  (fun i=>i≤x.length) (fun i=>x.length - i) 0 (by omega) (Zab _ (by simp only [go_sem]; simp)) (fun i hi N hN=>?_)
 unfold Z2t
 have hsl:=Yn0 x
 have hrl:(x.map fun q=>AV.agg (rq q)).length=x.length:=by simp
 unfold rowV at hN ⊢
 by_cases hin:i<x.length
 ·have gx:=Zag hin
  have hmem:=List.mem_of_getElem? gx
  have okq:=hok _ hmem
  have bq:=hb.get hin
  have g1:(ss x)[i]? = some (.str (bs (numS (rget x i)))):=by unfold ss; rw [List.getElem?_map,gx]; rfl
  have g2:(x.map fun q=>AV.agg (rq q))[i]? = some (.agg (rq (rget x i))):=by rw [List.getElem?_map,gx]; rfl
  have hd:=(rget x i).den_pos
  have his:=ris (s:=bs (numS (rget x i))) bq.ib.1 bq.ib.2 (by omega) hk (Rat.num_divInt_den _)
  rw [decide_eq_true ⟨okq,rfl⟩] at his
  have q0:(0:Int)≤(i:Int):=by omega
  have q1:(i:Int)<(x.length:Int):=by omega
  have e1:IntKind.i64.wrap ((i:Int)+1)=((i+1:Nat):Int):=by rw [Zac (by omega) (by omega)]; omega
  generalize rget x i=q at *
  simp only [go_sem,Z2j,Z3p,Z3h,hm,q0,q1,hsl,hrl,g1,g2,Yf2,Zcb]
  refine Zaa his (by simp only [go_sem,avR]; show BVs _ _ (rc _ _) (rc _ _); rw [Zlr]; trivial) ?_
  simp only [go_sem,Bool.not_true,Z3h,e1]
  exact hN (i+1) _ (by omega) (by omega) (Zab _ (by simp only [go_sem]))
 ·have hie:i=x.length:=by omega
  subst hie
  have q1:¬ ((x.length:Nat):Int)<(x.length:Int):=by omega
  simp only [go_sem,Z2j,q1,hsl]
  exact hK _
theorem rare {x:List Rat}{k:Nat}(hb:Rb k x) (hk:k≤10000000) (hl:x.length≤1000000) (hok:∀ q,q∈x→NumOk q):SpecV Tryz.prog Y30 [.sl (ss x),rowV x] (.bool true):=by
 have hsl:=Yn0 x
 have hrl:(x.map fun q=>AV.agg (rq q)).length=x.length:=by simp
 refine Za0 Yy3 (by simp) (Za9 1 rfl ?_)
 unfold Yuc
 unfold rowV
 simp only [go_sem,Ye8,Ygw,hsl,hrl]
 refine Zau (Zau (T_W ?_))
 simp only [go_sem,Yg3]
 refine Zat (Zap [(0,.sl (ss x)),(1,.sl (x.map fun q=>AV.agg (rq q))),(5,.int .i64 0)] (by simp only [go_sem]) ?_)
 refine Xhj hb hk hl hok (fun e=>?_)
 show T Tryz.prog 27 0 _ _ _
 refine T_W ?_
 simp only [go_sem,Ydo]
theorem Xe8 {H:Heap}{ids:List Nat}{b:Nat}{x:List Rat}(hb:H[b]? = some (.cells (qr x))) (hi:b∈ids):BV H ids (.osl (some 4) b 0 x.length) (rowV x):=by
 have h:=Z32 (H:=H) (ids:=ids) (w:=4) (b:=b) (R:=x.map rq) hb hi (by unfold qr; rw [List.flatMap_def]) (fun c hc=>by obtain ⟨q,_,rfl⟩:=List.mem_map.1 hc; rfl) (fun c hc=>by obtain ⟨q,_,rfl⟩:=List.mem_map.1 hc; exact of_eq_true Zlr)
 rw [List.length_map,List.map_map] at h
 exact h
end GoAbs
namespace GoAbs
open Go Go.Proofs
theorem Xjz {a b:Rat}{k:Nat}(ha:Qb k a) (hb:Qb k b) (hk:k≤400000):∃ X,SpecV Tryz.prog Yj8 [.agg (rq a),.agg (rq b)] (.agg X)∧(∀ H ids,BVs H ids X X=True)∧SpecV Tryz.prog Zml [.agg X] (.agg (rq (a+b))):=by
 have da:=a.den_pos
 have db:=b.den_pos
 have h1:=raddq ha.ib.1 ha.ib.2 hb.ib.1 hb.ib.2 (by omega)
 have h2:=rlow (k:=2*k+1) (Ib.add (k:=2*k) ((ha.ib.1.mul hb.ib.2).mono (by omega)) ((hb.ib.1.mul ha.ib.2).mono (by omega))) ((ha.ib.2.mul hb.ib.2).mono (by omega)) (Int.mul_pos (by omega) (by omega)) (by omega)
 rw [Xiv (q:=a) (w:=b) (by omega) (Rat.num_divInt_den _).symm] at h2
 exact ⟨_,h1,fun H ids=>Zlr,h2⟩
end GoAbs
namespace GoAbs
open Go Go.Proofs
end GoAbs
namespace GoAbs
open Go Go.Proofs
set_option exponentiation.threshold 20000
end GoAbs
namespace GoAbs
open Go Go.Proofs
set_option exponentiation.threshold 20000
theorem Y0d {k:Nat}{q:Rat}(h:Qb k q) (hk:k≤12000):NumOk q:=by
 have e:2 ^ k≤10 ^ 4000:=by
  have h1:2 ^ k≤2 ^ 12000:=Nat.pow_le_pow_right (by omega) hk
  have h2:2 ^ 12000=8 ^ 4000:=by rw [show (8:Nat)=2 ^ 3 by decide, ← Nat.pow_mul]
  have h3:8 ^ 4000≤10 ^ 4000:=Nat.pow_le_pow_left (by omega) _
  rw [h2] at h1
  exact Nat.le_trans h1 h3
 exact ⟨Y2l (by omega) (Nat.lt_of_lt_of_le h.n e),.inr (Y2l (by omega) (Nat.lt_of_lt_of_le h.d e))⟩
theorem Yjt {n i:Nat}{f:Nat→Rat}(hi:i<n):rget ((List.range n).map f) i=f i:=by
 unfold rget
 rw [List.getD_eq_getElem?_getD,List.getElem?_map,List.getElem?_range hi]; rfl
end GoAbs
namespace GoAbs
open Go Go.Proofs
end GoAbs
namespace GoAbs
open Go Go.Proofs
set_option exponentiation.threshold 20000
end GoAbs
namespace GoAbs
open Go Go.Proofs
set_option exponentiation.threshold 20000
theorem Yvn {l:List UInt8}{q:Rat}{k:Nat}(hk:1≤k) (h:parseL l=some q) (hl:l.length≤k):q.num.natAbs<10 ^ k∧q.den<10 ^ k:=by
 obtain ⟨_,h2,h3,h4⟩:=Z8t h
 have hs:(signL l).1.length≤k:=by
  unfold signL
  split
  ·show l.tail.length≤k
   rw [List.length_tail]; omega
  ·exact hl
 have hb:(befL (signL l).1).length≤k:=by
  unfold befL
  exact Nat.le_trans (List.takeWhile_sublist _).length_le hs
 refine ⟨Z9b (k:=k) (by rw [h2]; exact hb),?_⟩
 by_cases h47:47∈(signL l).1
 ·refine Z9b (k:=k) ?_
  rw [(h3 h47).2]
  have:=Yd7 h47
  have h5:=congrArg List.length this
  rw [List.length_append,List.length_cons] at h5
  omega
 ·rw [h4 h47]; exact Nat.one_lt_pow (by omega) (by omega)
theorem Zkh {l:List UInt8}{q:Rat}(h:parseL l=some q) (hl:l.length≤23):Qb 77 q:=by
 obtain ⟨h1,h2⟩:=Yvn (by omega) h hl
 have c:10 ^ 23<2 ^ 77:=by decide
 exact ⟨Nat.lt_trans h1 c,Nat.lt_trans h2 c⟩
end GoAbs
namespace GoAbs
open Go Go.Proofs
def smallB (l:List UInt8):Bool:=match parseL l with
 | some q=>decide (Fitd 12 q)
 | none=>false
def okB (l:List UInt8):Bool:=(parseL l).isSome
structure Rt (l:List UInt8) (c:List AV):Prop where
 len:c.length=4
 gc:∀ f,gcL f c=c
 bv:∀ H ids,BVs H ids c c=True
 q:∀ q,parseL l=some q→c=qcell q
theorem Yoc {l:List UInt8}(hl:l.length≤23):∃ c,Rt l c∧SpecV Tryz.prog Zxj [.str (bs l)] (.tup [.agg c,.bool (okB l),.bool (smallB l)]):=by
 have hm:Tryz.prog.follows .mixedOrders=true:=by kernel_rfl
 have z4:∀ c:List AV,c.length=4→c.take 4=c∧c.drop 4 = []:=fun c h=>⟨List.take_of_length_le (by omega),List.drop_eq_nil_of_le (by omega)⟩
 cases hp:parseL l with
 | some q =>
  have hb:=Zkh hp hl
  have hF:decide (((decL q.num.natAbs).length:Int)≤12∧((decL q.den).length:Int)≤12)=decide (Fitd 12 q):=by
   unfold Fitd
   apply decide_eq_decide.2
   omega
  have hs:=Yya (l:=l) (q:=q) (by omega) hp
  have ql:(qcell q).length=4:=rfl
  have qt:(qcell q).take 4=qcell q:=rfl
  have qd:(qcell q).drop 4 = []:=rfl
  refine ⟨qcell q,⟨rfl,fun f=>Z76,fun H ids=>Zaj,fun q' h=>by rw [hp] at h; cases h; rfl⟩,?_⟩
  have hok:okB l=true:=by unfold okB; rw [hp]; rfl
  have hsm:smallB l=decide (Fitd 12 q):=by unfold smallB; rw [hp]
  rw [hok,hsm]
  refine Zae Zsf (by simp) ?_
  unfold Zsq
  simp only [go_sem,Zh0,Zhd]
  refine Zaa hs (by simp only [go_sem]) ?_
  simp only [go_sem,Za1,ql,qt,qd,Zei,hm]
  refine Zaa (Xbk (Z82 hb.n (by omega)) (Z82 hb.d (by omega))) (by simp only [go_sem,Za1,Zaj]) ?_
  simp only [go_sem,hF,ql,qt,qd,Zaj]
 | none =>
  have hok:okB l=false:=by unfold okB; rw [hp]; rfl
  have hsm:smallB l=false:=by unfold smallB; rw [hp]
  rw [hok,hsm]
  obtain ⟨x,hx,hs⟩:=Yyp (l:=l) (by omega) hp
  rcases hx with rfl | ⟨n,d,rfl⟩
  ·refine ⟨[.bool false,.nils,.bool false,.nils],⟨rfl,fun f=>rfl,fun H ids=>by simp only [go_sem],fun q' h=>by rw [hp] at h; cases h⟩,?_⟩
   refine Zae Zsf (by simp) ?_
   unfold Zsq
   simp only [go_sem,Zh0,Zhd]
   refine Zaa hs (by simp only [go_sem]) ?_
   simp only [go_sem,Zei,hm]
  ·refine ⟨[.bool (decide (n<0)),.sl (u32c (limbs n.natAbs)),.bool (decide (d<0)),.sl (u32c (limbs d.natAbs))],⟨rfl,fun f=>rfl,fun H ids=>by simp only [go_sem],fun q' h=>by rw [hp] at h; cases h⟩,?_⟩
   refine Zae Zsf (by simp) ?_
   unfold Zsq
   simp only [go_sem,Zh0,Zhd]
   refine Zaa hs (by simp only [go_sem]) ?_
   simp only [go_sem,Zei,hm]
theorem Ydq {H:Heap}{bi bj n:Nat}{va fi o s:Bool}{l:List UInt8}{c:List AV}(hn:H.length=n) (hclo:Clo n H) (hne:bi≠bj) (h1:H[bi]? = some (.cells [.bool va])) (h2:H[bj]? = some (.cells [.bool fi]))
  (hc:Rt l c) (hs:SpecV Tryz.prog Zxj [.str (bs l)] (.tup [.agg c,.bool o,.bool s])) :
  SpecR Tryz.prog Za2 H [.str (bs l),.ptr bi 0,.ptr bj 0] (.agg c) ((H.set bi (.cells [.bool (va && o)])).set bj (.cells [.bool (fi && s)])):=by
 have b1:bi<n:=by rw [← hn]; exact (List.getElem?_eq_some_iff.1 h1).1
 have b2:bj<n:=by rw [← hn]; exact (List.getElem?_eq_some_iff.1 h2).1
 have l1:∀ x:Blk,(H ++ [x]).length=n+1:=fun x=>by simp [hn]
 have lS:∀ (K:Heap) (X:List Blk) (j:Nat) (z:Blk),K.length=n→j<n→(K++X).set j z=K.set j z++X:=fun K X j z hK hj=>List.set_append_left _ _ (by omega)
 have g1:∀ X:Heap,(H++X)[bi]? = some (.cells [.bool va]):=fun X=>by rw [List.getElem?_append_left (by omega)]; exact h1
 have g2:∀ (X:Heap) (z:Blk),(H.set bi z++X)[bj]? = some (.cells [.bool fi]):=fun X z=>by rw [List.getElem?_append_left (by simp; omega),List.getElem?_set_ne hne]; exact h2
 have g3:∀ X:Heap,(H++X)[bj]? = some (.cells [.bool fi]):=fun X=>by rw [List.getElem?_append_left (by omega)]; exact h2
 have ga:∀ (K:Heap) (x y:Blk),K.length=n→(K ++ [x,y])[n]? = some x:=fun K x y hK=>by rw [List.getElem?_append_right (by omega),hK,Nat.sub_self]; rfl
 have gb:∀ (K:Heap) (x y:Blk),K.length=n→(K ++ [x,y])[n+1]? = some y:=fun K x y hK=>by rw [List.getElem?_append_right (by omega),hK,Nat.add_sub_cancel_left]; rfl
 have sa:∀ (K:Heap) (x y z:Blk),K.length=n→(K ++ [x,y]).set n z=K ++ [z,y]:=fun K x y z hK=>by rw [List.set_append_right _ _ (by omega),hK,Nat.sub_self]; rfl
 have sb:∀ (K:Heap) (x y z:Blk),K.length=n→(K ++ [x,y]).set (n+1) z=K ++ [x,z]:=fun K x y z hK=>by rw [List.set_append_right _ _ (by omega),hK,Nat.add_sub_cancel_left]; rfl
 have s1:∀ z,(H.set bi z).length=n:=fun z=>by simp [hn]
 have s2:∀ z z',((H.set bi z).set bj z').length=n:=fun z z'=>by simp [hn]
 have ct:c.take 4=c:=List.take_of_length_le (by have:=hc.len; omega)
 have cd:c.drop 4 = []:=List.drop_eq_nil_of_le (by have:=hc.len; omega)
 have cl:=hc.len
 have gcb:∀ b:Bool,(Blk.cells [.bool b]).gc (pos (List.range n))=Blk.cells [.bool b]:=fun b=>rfl
 have hclo2:∀ b d:Bool,Clo n ((H.set bi (.cells [.bool b])).set bj (.cells [.bool d])):=fun b d=>by
  unfold Clo at hclo ⊢
  rw [List.map_set,List.map_set,hclo]; rfl
 have eva:∀ b d:Bool,(bif b then AV.bool d else AV.bool false)=AV.bool (b && d):=fun b d=>by cases b <;> rfl
 refine Z5i Ycx (by simp) (T_W ?_)
 unfold Z0b
 simp only [go_sem,Zpa,Zou,hn]
 refine Zaa hs (by simp only [go_sem]) ?_
 simp only [go_sem,cl,ct,cd,hn,l1,List.append_assoc,List.cons_append,List.nil_append,sb H,sa H,ga H,gb H]
 cases va <;> cases fi <;> simp only [go_sem,Zpf,Zph,g1,g2,g3,cl,ct,cd,hn,s1,s2,lS,b1,b2,ga,gb,sa,sb]
 all_goals exact ⟨by show AV.agg (gcL _ c)=_; rw [hc.gc],_,Ze4 (by simp [hn]) (hclo2 _ _) (Nat.le_refl _) [] trivial (fun p hp=>by simp at hp),rfl⟩
end GoAbs
namespace GoAbs
open Go Go.Proofs
def nv (to:List Nat):List Int:=to.map fun (n:Nat)=>(n:Int)
theorem Zgi (to:List Nat):(nv to).length=to.length:=by simp [nv]
theorem Z9e {p:List Int}{i:Nat}{v:Int}(h:p[i]? = some v):(ivs p)[i]? = some (.int .i64 v):=by simp [ivs,h]
theorem Ztd {to:List Nat}{i x:Nat}(h:to[i]? = some x):(ivs (nv to))[i]? = some (.int .i64 (x:Int)):=Z9e (by simp [nv,h])
def bestG (v:List Rat) (to:List Nat) (sg:Int):Nat→Nat
 | 0=>0
 | k+1=>if cmpR (rget v (to.getD k 0)) (rget v (to.getD (bestG v to sg k) 0))=sg then k else bestG v to sg k
def bestA (v:List Rat) (to:List Nat) (sg:Int):Nat:=bestG v to sg to.length
theorem Zmi {v:List Rat}{to:List Nat}{sg:Int}{k:Nat}(h0:0<to.length) (hk:k≤to.length):bestG v to sg k<to.length:=by
 induction k with
 | zero=>exact h0
 | succ k ih =>
  unfold bestG
  split
  ·omega
  ·exact ih (by omega)
theorem Zcp {to:List Nat}{i:Nat}(h:i<to.length):to[i]? = some (to.getD i 0):=by
 rw [List.getD_eq_getElem?_getD,List.getElem?_eq_getElem h]; rfl
theorem Yeu {v:List Rat}{to:List Nat}{sg:Int}{k:Nat}(hv:Rb k v) (hk:2*k+1≤1000000000000) (hto:∀ x,x∈to→x<v.length) (h0:0<to.length) (hl:to.length≤1000000) (hvl:v.length≤1000000) :
  SpecV Tryz.prog Yra [.sl (ivs (nv to)),.sl (condsR v),.int .i64 sg] (.int .i64 (bestA v to sg:Int)):=by
 have hm:Tryz.prog.follows .mixedOrders=true:=by kernel_rfl
 refine Zae Yod (by simp) ?_
 unfold Yiz
 simp only [go_sem,Z5r,Z66,Z65,Za4,Zgi]
 refine Zad (fun i:Nat=>⟨envL [(0,.sl (ivs (nv to))),(1,.sl (condsR v)),(2,.int .i64 sg),(7,.int .i64 (bestG v to sg i:Int)),(10,.sl (ivs (nv to))),(11,.int .i64 (to.length:Int)),(12,.int .i64 (i:Int))],[]⟩)
  (fun i=>i≤to.length) (fun i=>to.length - i) 0 (by omega) (Zab _ (by simp only [go_sem,bestG]; simp)) (fun i hi N hN=>?_)
 unfold Z5j
 by_cases hin:i<to.length
 ·have gi:=Zcp hin
  have hb:=Zmi (v:=v) (to:=to) (sg:=sg) h0 hi
  have gb:=Zcp hb
  have mi:=hto _ (List.mem_of_getElem? gi)
  have mb:=hto _ (List.mem_of_getElem? gb)
  have hs:bestG v to sg (i+1)=if cmpR (rget v (to.getD i 0)) (rget v (to.getD (bestG v to sg i) 0))=sg then i else bestG v to sg i:=rfl
  generalize to.getD i 0=x at *
  generalize bestG v to sg i=y at *
  generalize to.getD y 0=z at *
  have q0:(0:Int)≤(i:Int):=by omega
  have q1:(i:Int)<(to.length:Int):=by omega
  have q2:(0:Int)≤(y:Int):=by omega
  have q3:(y:Int)<(to.length:Int):=by omega
  have q4:(0:Int)≤(x:Int):=by omega
  have q5:(x:Int)<(v.length:Int):=by omega
  have q6:(0:Int)≤(z:Int):=by omega
  have q7:(z:Int)<(v.length:Int):=by omega
  have e1:IntKind.i64.wrap ((i:Int)+1)=((i+1:Nat):Int):=by rw [Zac (by omega) (by omega)]; omega
  have ql:∀ q,(qcell q).length=4:=fun q=>rfl
  have qt:∀ q,(qcell q).take 4=qcell q:=fun q=>rfl
  have qd:∀ q,(qcell q).drop 4 = []:=fun q=>rfl
  simp only [go_sem,Zsu,Z6v,Zpz,q0,q1,q2,q3,q4,q5,q6,q7,Za4,Zgi,Zfi,Ztd gi,Ztd gb,Zbz (Zag mi),Zbz (Zag mb),ql,qt,qd,hm]
  refine Zaa (Y84 (hv.get mi) (hv.get mb) hk) (by simp only [go_sem,Za1,Zaj]) ?_
  by_cases hc:cmpR (rget v x) (rget v z)=sg
  ·simp only [go_sem,hc,Z58,Zqo,e1]
   rw [if_pos hc] at hs
   exact hN (i+1) _ (by omega) (by omega) (Zab _ (by simp only [go_sem,hs]))
  ·simp only [go_sem,hc,Zqo,e1]
   rw [if_neg hc] at hs
   exact hN (i+1) _ (by omega) (by omega) (Zab _ (by simp only [go_sem,hs]))
 ·have hie:i=to.length:=by omega
  subst hie
  have q1:¬ ((to.length:Nat):Int)<(to.length:Int):=by omega
  simp only [go_sem,Zsu,Z4o,q1,bestA]
end GoAbs
