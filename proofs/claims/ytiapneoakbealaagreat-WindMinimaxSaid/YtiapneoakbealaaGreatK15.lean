/- Lemmas for the claim (contracts of the functions that it reaches, and what they compute), without conditions. -/
import Derived.Test.YtiapneoakbealaaGreatK14
set_option linter.unusedVariables false
set_option linter.unusedSimpArgs false
set_option maxRecDepth 10000
set_option maxHeartbeats 2000000
namespace GoAbs
open Go Go.RowKit
variable {P:Program} {md:Md} {d:Option Dm} {e:Nat→AV} {H:Heap}
def wpR (P:Program) (d:Option Dm) (e:Nat→AV) (H:Heap) (op:COp) (C:AV→Heap→Prop):Prop:=∃ v H',R P d (Ox.ev e) H op v H'∧C v H'
def mkC (v:AV) (C:AV→Prop):Prop:=C v
@[congr] theorem Xef {v v' : AV} {C : AV → Prop} (h : v = v') : mkC v C = mkC v' C := by rw [h]
theorem Xaz {v:AV}{C:AV→Prop}:mkC v C=C v:=rfl
def mkH (v:AV) (H:Heap) (C:AV→Heap→Prop):Prop:=C v H
@[congr] theorem Xdt {v v' : AV} {H H' : Heap} {C : AV → Heap → Prop} (h : v = v') (h' : H = H') : mkH v H C = mkH v' H' C := by rw [h, h']
theorem Y8b {v:AV}{H:Heap}{C:AV→Heap→Prop}:mkH v H C=C v H:=rfl
def mkN (i:Nat) (H:Heap) (C:Nat→Heap→Prop):Prop:=C i H
@[congr] theorem Xc9 {i i' : Nat} {H H' : Heap} {C : Nat → Heap → Prop} (h : i = i') (h' : H = H') : mkN i H C = mkN i' H' C := by rw [h, h']
theorem Y94 {i:Nat}{H:Heap}{C:Nat→Heap→Prop}:mkN i H C=C i H:=rfl
def mkS (H:Heap) (C:Heap→Prop):Prop:=C H
@[congr] theorem Xcy {H H' : Heap} {C : Heap → Prop} (h' : H = H') : mkS H C = mkS H' C := by rw [h']
theorem Y7l {H:Heap}{C:Heap→Prop}:mkS H C=C H:=rfl
@[congr] theorem Y89 {l l' : List IOp} {K : St → Prop} {st : St} (h : l = l') : iexec P md l K st = iexec P md l' K st := by rw [h]
theorem Yxl {K:St→Prop}{st:St}:iexec P md [] K st=K st:=rfl
def guardC (b:AV) (want:Bool) (x y:Prop):Prop:=match b with
 | .bool b=>if b=want then x else y
 | .tup []=>y
 | _=>False
theorem Yba {dst:Option Nat}{op:COp}{id g:Nat}{want:Bool}{oks:List Nat}{nw:List Nat}{r:List IOp}{K:St→Prop} :
  iexec P md (⟨dst,op,id,oks,nw,some (g,want)⟩::r) K ⟨e,H⟩ =
   guardC (e g) want (wpR P (IOp.dm ⟨dst,op,id,oks,nw,some (g,want)⟩ md) e H op (fun v H'=>iexec P md r K ⟨upd e dst v,H'⟩)) (iexec P md r K ⟨upd e dst (.tup []),H⟩):=by
 show istep _ _ _ _ _=_
 unfold istep
 have h:(IOp.gst ⟨dst,op,id,oks,nw,some (g,want)⟩ e)=gv (e g) want:=rfl
 simp only [h]
 cases e g with
 | bool b=>cases b <;> cases want <;> simp [gv,guardC,wpR]
 | tup l=>cases l <;> rfl
 | _=>rfl
theorem Yud {dst:Option Nat}{op:COp}{id g:Nat}{want:Bool}{oks:List Nat}{nw:List Nat}{r:List IOp}{K:St→Prop} :
  iexec P none (⟨dst,op,id,oks,nw,some (g,want)⟩::r) K ⟨e,H⟩=guardC (e g) want (wpR P none e H op (fun v H'=>iexec P none r K ⟨upd e dst v,H'⟩)) (iexec P none r K ⟨upd e dst (.tup []),H⟩):=Yba
theorem Yvo {dst:Option Nat}{op:COp}{id g b:Nat}{W:Nat→Nat→Prop}{want:Bool}{oks:List Nat}{nw:List Nat}{r:List IOp}{K:St→Prop} :
  iexec P (some (b,W)) (⟨dst,op,id,oks,nw,some (g,want)⟩::r) K ⟨e,H⟩ =
   guardC (e g) want (wpR P (some ⟨b,W,id,oks,nw⟩) e H op (fun v H'=>iexec P (some (b,W)) r K ⟨upd e dst v,H'⟩)) (iexec P (some (b,W)) r K ⟨upd e dst (.tup []),H⟩):=Yba
@[congr] theorem Y67 {b b' : AV} {want : Bool} {x y : Prop} (h : b = b') : guardC b want x y = guardC b' want x y := by rw [h]
theorem Y2g {x y:Prop}:guardC (.bool true) true x y=x:=by simp [guardC]
theorem Y4v {x y:Prop}:guardC (.bool false) false x y=x:=by simp [guardC]
theorem Y2k {x y:Prop}:guardC (.bool true) false x y=y:=by simp [guardC]
theorem Y9y {want:Bool}{x y:Prop}:guardC (.tup []) want x y=y:=by simp [guardC]
theorem Y4o {x y:Prop}:guardC (.bool false) true x y=y:=by simp [guardC]
theorem nr {α:Type}{a b:α}(h:a=b):a=b:=by cases h; exact Eq.refl _
theorem ev_t {n:Nat}:Ox.ev e (.t n)=e n:=nr rfl
theorem ev_c {v:AV}:Ox.ev e (.c v)=v:=nr rfl
theorem Y39 {v:AV}:upd e none v=e:=rfl
def sel (b:Bool) (x y:AV):AV:=bif b then x else y
@[congr] theorem Xe1 {b b' : Bool} {x y : AV} (h : b = b') : sel b x y = sel b' x y := by rw [h]
theorem Xgl {x y:AV}:sel true x y=x:=nr rfl
theorem Xft {x y:AV}:sel false x y=y:=nr rfl
theorem Y2v {t u:Nat}{v:AV}:upd e (some t) v u=sel (u == t) v (e u):=by
 by_cases h:u=t
 ·subst h; simp [upd,sel]
 ·have:(u == t)=false:=by simpa using h
  simp [upd,sel,h,this]
theorem Y4h {t:Nat}:envL [] t = .any:=nr rfl
theorem Yz1 {u t:Nat}{v:AV}{r:List (Nat×AV)}:envL ((u,v)::r) t=sel (t == u) v (envL r t):=by
 by_cases h:t=u
 ·subst h; simp [envL,sel]
 ·have:(t == u)=false:=by simpa using h
  simp [envL,sel,h,this]
theorem Y29 {xs:List AV}{t:Nat}:argE xs t=xs.getD t .any:=nr rfl
def boolC (p:Prop) (C:AV→Prop):Prop:=(p→C (.bool true))∧(¬ p→C (.bool false))
theorem Zch {p:Prop} [Decidable p] {C:AV→Prop}:C (.bool (decide p))↔boolC p C:=by
 unfold boolC
 by_cases h:p <;> simp [h]
theorem Yvv {C:AV→Prop}:boolC True C=C (.bool true):=by simp [boolC]
theorem Yov {C:AV→Prop}:boolC False C=C (.bool false):=by simp [boolC]
theorem Y0v {p:Prop}{C:AV→Prop}:boolC p C=((p→C (.bool true))∧(¬ p→C (.bool false))):=rfl
variable {C:AV→Heap→Prop}
theorem Zck {p:AV→Prop}:(∃ v H',(p v∧H'=H)∧C v H')=∃ v,p v∧C v H :=
 propext ⟨fun ⟨v,H',⟨h1,h2⟩,h3⟩=>⟨v,h1,h2 ▸ h3⟩,fun ⟨v,h1,h2⟩=>⟨v,H,⟨h1,rfl⟩,h2⟩⟩
theorem Xfz {x:Ox}:wpR P d e H (.mv x) C=mkC (x.ev e) (fun v=>C v H):=by simp only [wpR,R,Zck,exists_eq_left,mkC]
def pickC (c a b:AV) (C:AV→Prop):Prop:=match c with | .bool t=>C (bif t then a else b) | _=>False
theorem Y77 {c a b:Ox}:wpR P d e H (.pick c a b) C=pickC (c.ev e) (a.ev e) (b.ev e) (fun v=>C v H):=by
 simp only [wpR,R,pickC,Zck]
 cases c.ev e <;> simp
theorem Xc2 {a b:AV}{C:AV→Prop}:pickC (.bool true) a b C=C a:=rfl
theorem Xfj {a b:AV}{C:AV→Prop}:pickC (.bool false) a b C=C b:=rfl
def binC (o:BinOp) (x y:AV) (C:AV→Prop):Prop:=match x,y with
 | .int k a,.int k' b=>∃ v,binI o k k' a b v∧C v
 | .str s,.str t=>∃ v,binS o s t v∧C v
 | _,_=>False
theorem Xel {o:BinOp}{x y:Ox}:wpR P d e H (.bin o x y) C=binC o (x.ev e) (y.ev e) (fun v=>C v H):=by
 simp only [wpR,R,binC,Zck]
 cases x.ev e <;> cases y.ev e <;> simp
def andI (k:IntKind) (a b:Int):Int:=k.wrap (BitVec.ofInt k.bits a &&& BitVec.ofInt k.bits b).toNat
def orI (k:IntKind) (a b:Int):Int:=k.wrap (BitVec.ofInt k.bits a ||| BitVec.ofInt k.bits b).toNat
def xorI (k:IntKind) (a b:Int):Int:=k.wrap (BitVec.ofInt k.bits a ^^^ BitVec.ofInt k.bits b).toNat
def clrI (k:IntKind) (a b:Int):Int:=k.wrap (BitVec.ofInt k.bits a &&& ~~~BitVec.ofInt k.bits b).toNat
def notI (k:IntKind) (n:Int):Int:=k.wrap (BitVec.ofInt k.bits (if k.signed then -1 else k.max) ^^^ BitVec.ofInt k.bits n).toNat
def shlI (k:IntKind) (a b:Int):Int:=k.wrap (a*2 ^ (min b.toNat k.bits))
def shrI (k:IntKind) (a b:Int):Int:=a.fdiv (2 ^ (min b.toNat k.bits))
section bin
variable {k k':IntKind} {a b:Int} {s t:ByteArray} {C:AV→Prop}
theorem Y8z:binC .add (.int k a) (.int k b) C=mkC (.int k (k.wrap (a+b))) C:=by simp [binC,binI,mkC]
theorem Y8d:binC .sub (.int k a) (.int k b) C=mkC (.int k (k.wrap (a - b))) C:=by simp [binC,binI,mkC]
theorem Y8h:binC .mul (.int k a) (.int k b) C=mkC (.int k (k.wrap (a*b))) C:=by simp [binC,binI,mkC]
theorem Y75:binC .quo (.int k a) (.int k b) C=(b≠0∧mkC (.int k (k.wrap (a.tdiv b))) C):=by simp [binC,binI,and_assoc,mkC]
theorem Y99:binC .rem (.int k a) (.int k b) C=(b≠0∧mkC (.int k (a.tmod b)) C):=by simp [binC,binI,and_assoc,mkC]
theorem Y78:binC .and (.int k a) (.int k b) C=mkC (.int k (andI k a b)) C:=by simp [binC,binI,mkC,andI,orI,xorI,clrI,shlI,shrI]
theorem Xdq:binC .or (.int k a) (.int k b) C=mkC (.int k (orI k a b)) C:=by simp [binC,binI,mkC,andI,orI,xorI,clrI,shlI,shrI]
theorem Xa8:binC .xor (.int k a) (.int k b) C=mkC (.int k (xorI k a b)) C:=by simp [binC,binI,mkC,andI,orI,xorI,clrI,shlI,shrI]
theorem Ytg:binC .andNot (.int k a) (.int k b) C=mkC (.int k (clrI k a b)) C:=by simp [binC,binI,mkC,andI,orI,xorI,clrI,shlI,shrI]
theorem Xba:binC .shl (.int k a) (.int k' b) C=(0≤b∧mkC (.int k (shlI k a b)) C):=by simp [binC,binI,and_assoc,mkC,andI,orI,xorI,clrI,shlI,shrI]
theorem Y7v:binC .shr (.int k a) (.int k' b) C=(0≤b∧mkC (.int k (shrI k a b)) C):=by simp [binC,binI,and_assoc,mkC,andI,orI,xorI,clrI,shlI,shrI]
theorem Y9c:binC .eql (.int k a) (.int k b) C=boolC (a=b) C:=by
 have:(a == b)=decide (a=b):=by rw [Bool.eq_iff_iff]; simp only [beq_iff_eq,decide_eq_true_eq]
 simp only [binC,binI,true_and,exists_eq_left,this]
 exact propext Zch
theorem Xbp:binC .neq (.int k a) (.int k b) C=boolC (a≠b) C:=by
 have:(a != b)=decide (a≠b):=by
  have h:(a == b)=decide (a=b):=by rw [Bool.eq_iff_iff]; simp only [beq_iff_eq,decide_eq_true_eq]
  simp [bne,decide_not,h]
 simp only [binC,binI,true_and,exists_eq_left,this]
 exact propext Zch
theorem Y83:binC .lss (.int k a) (.int k b) C=boolC (a<b) C:=by
 simp only [binC,binI,true_and,exists_eq_left]; exact propext Zch
theorem Xag:binC .leq (.int k a) (.int k b) C=boolC (a≤b) C:=by
 simp only [binC,binI,true_and,exists_eq_left]; exact propext Zch
theorem Xae:binC .gtr (.int k a) (.int k b) C=boolC (b<a) C:=by
 simp only [binC,binI,true_and,exists_eq_left]; exact propext Zch
theorem Xa4:binC .geq (.int k a) (.int k b) C=boolC (b≤a) C:=by
 simp only [binC,binI,true_and,exists_eq_left]; exact propext Zch
theorem Y6l (s t:ByteArray):(s.toList == t.toList)=decide (s=t):=by
 have:s.toList=t.toList↔s=t:=by
  constructor
  ·intro h
   rw [ByteArray.toList_eq,ByteArray.toList_eq] at h
   have:s.data=t.data:=Array.ext' h
   cases s; cases t; simp at this; simp [this]
  ·rintro rfl; rfl
 by_cases h:s=t
 ·simp [h]
 ·simp [h,this]
end bin
section bin
variable {s t:ByteArray} {C:AV→Prop}
theorem Y7k:binC .add (.str s) (.str t) C=(((s.size+t.size:Nat):Int)≤IntKind.i64.max∧mkC (.str (s++t)) C):=by simp [binC,binS,and_assoc,mkC]
theorem Y9k:binC .eql (.str s) (.str t) C=boolC (s=t) C:=by
 simp only [binC,binS,exists_eq_left,Y6l]; exact propext Zch
theorem Y7q:binC .neq (.str s) (.str t) C=boolC (s≠t) C:=by
 have:(!(s.toList == t.toList))=decide (s≠t):=by rw [Y6l]; simp
 simp only [binC,binS,exists_eq_left,this]; exact propext Zch
theorem Xbr:binC .lss (.str s) (.str t) C=boolC (Op.bytesLess s.toList t.toList=true) C:=by
 have:∀ b:Bool,AV.bool b = .bool (decide (b=true)):=fun b=>by simp
 simp only [binC,binS,exists_eq_left]; rw [this]; exact propext Zch
end bin
def beqC (n:Bool) (x y:AV) (C:AV→Prop):Prop:=match x,y with
 | .bool a,.bool b=>C (.bool (bif n then !(a == b) else a == b))
 | _,_=>False
theorem Xey {n:Bool}{x y:Ox}:wpR P d e H (.beq n x y) C=beqC n (x.ev e) (y.ev e) (fun v=>C v H):=by
 simp only [wpR,R,beqC,Zck]
 cases x.ev e <;> cases y.ev e <;> simp
theorem Y2m {n a b:Bool}{C:AV→Prop}:beqC n (.bool a) (.bool b) C=mkC (.bool (bif n then !(a == b) else a == b)) C:=rfl
def unC (o:UnOp) (x:AV) (C:AV→Prop):Prop:=∃ v,unI o x v∧C v
theorem Xhf {o:UnOp}{x:Ox}:wpR P d e H (.un o x) C=unC o (x.ev e) (fun v=>C v H):=by simp only [wpR,R,unC,Zck]
section un
variable {k:IntKind} {n:Int} {b:Bool} {C:AV→Prop}
theorem Xfn:unC .neg (.int k n) C=mkC (.int k (k.wrap (0 - n))) C:=by simp [unC,unI,mkC]
theorem Xcn:unC .xor (.int k n) C=mkC (.int k (notI k n)) C:=by simp [unC,unI,mkC,notI]
theorem Xec:unC .not (.bool b) C=mkC (.bool (!b)) C:=by simp [unC,unI,mkC]
end un
def cviC (k:IntKind) (x:AV) (C:AV→Prop):Prop:=match x with | .int _ n=>C (.int k (k.wrap n)) | _=>False
theorem Xdk {k:IntKind}{x:Ox}:wpR P d e H (.cvi k x) C=cviC k (x.ev e) (fun v=>C v H):=by
 simp only [wpR,R,cviC,Zck]; cases x.ev e <;> simp
theorem Y8r {k k':IntKind}{n:Int}{C:AV→Prop}:cviC k (.int k' n) C=mkC (.int k (k.wrap n)) C:=rfl
def cvsC (x:AV) (C:AV→Prop):Prop:=match x with | .str s=>C (.str s) | _=>False
theorem Xcw {x:Ox}:wpR P d e H (.cvs x) C=cvsC (x.ev e) (fun v=>C v H):=by
 simp only [wpR,R,cvsC,Zck]; cases x.ev e <;> simp
theorem Y9s {s:ByteArray}{C:AV→Prop}:cvsC (.str s) C=C (.str s):=rfl
def newC (d:Option Dm) (H:Heap) (bl:Blk) (C:Nat→Heap→Prop):Prop:=∃ i H',NewB d H bl i H'∧C i H'
theorem Y4e {bl:Blk}{C:Nat→Heap→Prop}:newC none H bl C=mkN H.length (H ++ [bl]) C :=
 propext ⟨fun ⟨i,H',h,hc⟩=>by obtain ⟨rfl,rfl⟩:=h; exact hc,fun h=>⟨_,_,⟨rfl,rfl⟩,h⟩⟩
theorem Y4u {bl:Blk}{b id:Nat}{W:Nat→Nat→Prop}{oks:List Nat}{nw:List Nat}{C:Nat→Heap→Prop}:newC (some ⟨b,W,id,oks,nw⟩) H bl C=(H[b+id]? = some .unborn∧mkN (b+id) (H.set (b+id) bl) C) :=
 propext ⟨fun ⟨i,H',h,hc⟩=>by obtain ⟨rfl,h2,rfl⟩:=h; exact ⟨h2,hc⟩,fun h=>⟨_,_,⟨rfl,h.1,rfl⟩,h.2⟩⟩
theorem Y4g {zs:List AV}:wpR P d e H (.alloc zs) C=newC d H (.cells zs) (fun i H'=>C (.ptr i 0) H') :=
 propext ⟨fun ⟨v,H',⟨i,h1,h2⟩,hc⟩=>⟨i,H',h1,by subst h2; exact hc⟩,fun ⟨i,H',h1,hc⟩=>⟨_,H',⟨i,h1,rfl⟩,hc⟩⟩
def knownC (x:AV) (p:Prop):Prop:=x.known∧p
section known
variable {p:Prop}
theorem Yx9 {k:IntKind}{n:Int}:knownC (.int k n) p=p:=by simp [knownC,AV.known]
theorem Ysp {b:Bool}:knownC (.bool b) p=p:=by simp [knownC,AV.known]
theorem Ywj {b:ByteArray}:knownC (.str b) p=p:=by simp [knownC,AV.known]
theorem Yx7 {b:List AV}:knownC (.agg b) p=p:=by simp [knownC,AV.known]
theorem Ytp:knownC .nils p=p:=by simp [knownC,AV.known]
theorem Y52 {l:List AV}:knownC (.sl l) p=p:=by simp [knownC,AV.known]
theorem Ywr {ek:Option Nat}{b o n:Nat}:knownC (.osl ek b o n) p=p:=by simp [knownC,AV.known]
theorem Yyn {b o:Nat}:knownC (.ptr b o) p=p:=by simp [knownC,AV.known]
theorem Y48 {l:List AV}:knownC (.rp l) p=p:=by simp [knownC,AV.known]
theorem Y34 {f:Nat}{a b:List AV}:knownC (.fn f a b) p=p:=by simp [knownC,AV.known]
theorem Yun:knownC .nilp p=p:=by simp [knownC,AV.known]
theorem Ypd:knownC .nilfn p=p:=by simp [knownC,AV.known]
theorem Y2n {b:Nat}:knownC (.mp b) p=p:=by simp [knownC,AV.known]
theorem Ybb {t:TypeId}{x:AV}:knownC (.ifc t x) p=p:=by simp [knownC,AV.known]
theorem Yom:knownC .nilif p=p:=by simp [knownC,AV.known]
end known
theorem Xfk {x:Ox}:wpR P d e H (.box x) C=knownC (x.ev e) (newC d H (.cells (x.ev e).cells) (fun i H'=>C (.ptr i 0) H')) :=
 propext ⟨fun ⟨v,H',⟨h0,i,h1,h2⟩,hc⟩=>⟨h0,i,H',h1,by subst h2; exact hc⟩,fun ⟨h0,i,H',h1,hc⟩=>⟨_,H',⟨h0,i,h1,rfl⟩,hc⟩⟩
def partsC (e:Nat→AV):List (Nat×Nat×Ox)→Prop→Prop
 | [],p=>p
 | (_,s,x)::r,p=>knownC (x.ev e) ((x.ev e).cells.length=s∧partsC e r p)
theorem Yt8 {parts:List (Nat×Nat×Ox)}{p:Prop}:partsC e parts p↔(∀ q,q∈parts→(q.2.2.ev e).known∧(q.2.2.ev e).cells.length=q.2.1)∧p:=by
 induction parts with
 | nil=>simp [partsC]
 | cons q r ih=>obtain ⟨a,b,c⟩:=q; simp [partsC,knownC,ih,and_assoc]
theorem Y02 {p:Prop}:partsC e [] p=p:=rfl
theorem Yvy {a s:Nat}{x:Ox}{r:List (Nat×Nat×Ox)}{p:Prop}:partsC e ((a,s,x)::r) p=knownC (x.ev e) ((x.ev e).cells.length=s∧partsC e r p):=rfl
def valsP (e:Nat→AV):List (Nat×Nat×Ox)→List (Nat×AV)
 | [] => []
 | (a,_,x)::r=>(a,x.ev e)::valsP e r
theorem Ysk {parts:List (Nat×Nat×Ox)}:(parts.map fun p=>(p.1,p.2.2.ev e))=valsP e parts:=by
 induction parts with
 | nil=>rfl
 | cons q r ih=>obtain ⟨a,b,c⟩:=q; simp [valsP,ih]
theorem Y5z {zs:List AV}{parts:List (Nat×Nat×Ox)}:wpR P d e H (.build zs parts) C=partsC e parts (mkC (.agg (fillA zs (valsP e parts))) (fun v=>C v H)):=by
 apply propext
 rw [Yt8]
 constructor
 ·rintro ⟨v,H',⟨h1,rfl,rfl⟩,hc⟩
  rw [Ysk] at hc
  exact ⟨h1,hc⟩
 ·rintro ⟨h1,hc⟩
  exact ⟨_,_,⟨h1,rfl,rfl⟩,by rw [Ysk]; exact hc⟩
def parts2C (e:Nat→AV) (k:Nat):List (Nat×Ox)→Prop→Prop
 | [],p=>p
 | (_,x)::r,p=>knownC (x.ev e) ((x.ev e).cells.length=k∧parts2C e k r p)
theorem Ypo {k:Nat}{parts:List (Nat×Ox)}{p:Prop}:parts2C e k parts p↔(∀ q,q∈parts→(q.2.ev e).known∧(q.2.ev e).cells.length=k)∧p:=by
 induction parts with
 | nil=>simp [parts2C]
 | cons q r ih=>obtain ⟨a,c⟩:=q; simp [parts2C,knownC,ih,and_assoc]
theorem Yvf {k:Nat}{p:Prop}:parts2C e k [] p=p:=rfl
theorem Ypr {k a:Nat}{x:Ox}{r:List (Nat×Ox)}{p:Prop}:parts2C e k ((a,x)::r) p=knownC (x.ev e) ((x.ev e).cells.length=k∧parts2C e k r p):=rfl
def vals2 (e:Nat→AV) (k:Nat):List (Nat×Ox)→List (Nat×AV)
 | [] => []
 | (a,x)::r=>(a*k,x.ev e)::vals2 e k r
theorem Yq0 {k:Nat}{parts:List (Nat×Ox)}:(parts.map fun p=>(p.1*k,p.2.ev e))=vals2 e k parts:=by
 induction parts with
 | nil=>rfl
 | cons q r ih=>obtain ⟨a,c⟩:=q; simp [vals2,ih]
theorem Y7t {ek:Option Nat}{zs:List AV}{parts:List (Nat×Ox)}:wpR P d e H (.bsl ek 0 zs parts) C=C .nils H:=by
 simp only [wpR,R,Zck,exists_eq_left]
theorem Xex {ek:Option Nat}{n:Nat}{zs:List AV}{parts:List (Nat×Ox)}:wpR P d e H (.bsl ek (n+1) zs parts) C =
  parts2C e (es ek) parts (newC d H (.cells (fillA (List.replicate (n+1) zs).flatten (vals2 e (es ek) parts))) (fun i H'=>C (.osl ek i 0 (n+1)) H')):=by
 apply propext
 rw [Ypo]
 constructor
 ·rintro ⟨v,H',⟨h1,i,h2,rfl⟩,hc⟩
  rw [Yq0] at h2
  exact ⟨h1,i,H',h2,hc⟩
 ·rintro ⟨h1,i,H',h2,hc⟩
  exact ⟨_,H',⟨h1,i,by rw [Yq0]; exact h2,rfl⟩,hc⟩
def cellsC (b:Option Blk) (C:List AV→Prop):Prop:=match b with | some (.cells l)=>C l | _=>False
theorem Yuw {l:List AV}{C:List AV→Prop}:cellsC (some (.cells l)) C=C l:=rfl
theorem Zcc {b:Option Blk}{C:List AV→Prop}:cellsC b C↔∃ l,b=some (.cells l)∧C l:=by
 unfold cellsC
 split
 ·simp
 ·rename_i h
  constructor
  ·exact False.elim
  ·rintro ⟨l,h1,_⟩; exact h l h1
def optC {α:Type}(x:Option α) (C:α→Prop):Prop:=match x with | some v=>C v | none=>False
theorem Y5l {α:Type}{v:α}{C:α→Prop}:optC (some v) C=C v:=rfl
theorem Z99 {α:Type}{x:Option α}{C:α→Prop}:optC x C↔∃ v,x=some v∧C v:=by
 cases x <;> simp [optC]
def ldvC (ag:Option Nat) (cs:List AV) (C:AV→Prop):Prop:=match ag with
 | none=>optC cs[0]? C
 | some n=>n≤cs.length∧C (.agg (cs.take n))
theorem Y2i {cs:List AV}{C:AV→Prop}:ldvC none cs C=optC cs[0]? C:=rfl
theorem Y50 {n:Nat}{cs:List AV}{C:AV→Prop}:ldvC (some n) cs C=(n≤cs.length∧mkC (.agg (cs.take n)) C):=rfl
theorem ldvC_iff {ag:Option Nat}{cs:List AV}{C:AV→Prop}:ldvC ag cs C↔∃ v,Ldv ag cs v∧C v:=by
 cases ag with
 | none=>simp only [ldvC,Ldv]; exact Z99
 | some n=>simp only [ldvC,Ldv,and_assoc,exists_and_left,exists_eq_left]
def ldC (d:Option Dm) (H:Heap) (ag:Option Nat) (a:AV) (C:AV→Prop):Prop:=match a with
 | .ptr b off=>OkB d b∧cellsC H[b]? (fun l=>ldvC ag (l.drop off) C)
 | .rp cs=>ldvC ag cs C
 | _=>False
theorem Xgt {ag:Option Nat}{cs:List AV}{C:AV→Prop}:ldC d H ag (.rp cs) C=ldvC ag cs C:=rfl
theorem Xg0 {ag:Option Nat}{a:Ox}:wpR P d e H (.ld ag a) C=ldC d H ag (a.ev e) (fun v=>C v H):=by
 simp only [wpR,R,Zck]
 cases a.ev e with
 | ptr b off =>
  simp only [ldC]
  apply propext
  constructor
  ·rintro ⟨v,⟨h1,l,h2,h3⟩,h4⟩; exact ⟨h1,Zcc.2 ⟨l,h2,ldvC_iff.2 ⟨v,h3,h4⟩⟩⟩
  ·rintro ⟨h1,h2⟩
   obtain ⟨l,h2,h3⟩:=Zcc.1 h2
   obtain ⟨v,h3,h4⟩:=ldvC_iff.1 h3
   exact ⟨v,⟨h1,l,h2,h3⟩,h4⟩
 | rp cs=>simp only [ldC]; exact propext ldvC_iff.symm
 | _=>simp [ldC]
theorem Y31 {b:Nat}:OkB none b=True:=rfl
theorem Y3r {b:Nat}:OkW none b=True:=rfl
theorem Y3j {base id b:Nat}{W:Nat→Nat→Prop}{oks:List Nat}{nw:List Nat}:OkB (some ⟨base,W,id,oks,nw⟩) b=((b<base∨∃ k,k∈oks∧b=base+k)∧NoW W b nw):=rfl
theorem Y5t {base id b:Nat}{W:Nat→Nat→Prop}{oks:List Nat}{nw:List Nat}:OkW (some ⟨base,W,id,oks,nw⟩) b=((b<base∨∃ k,k∈oks∧b=base+k)∧W id b):=rfl
def stC (d:Option Dm) (H:Heap) (n:Nat) (a x:AV) (C:Heap→Prop):Prop:=match a with
 | .ptr b off=>OkW d b∧knownC x (x.cells.length=n∧cellsC H[b]? (fun l=>off+n≤l.length∧C (H.set b (.cells (fillA l [(off,x)])))))
 | _=>False
theorem Xfw {n:Nat}{a x:Ox}:wpR P d e H (.st n a x) C=stC d H n (a.ev e) (x.ev e) (fun H'=>C .any H'):=by
 simp only [wpR,R,stC]
 cases a.ev e with
 | ptr b off =>
  apply propext
  constructor
  ·rintro ⟨v,H',⟨h1,h2,h3,l,h4,h5,rfl,rfl⟩,hc⟩; exact ⟨h1,h2,h3,Zcc.2 ⟨l,h4,h5,hc⟩⟩
  ·rintro ⟨h1,h2,h3,h4⟩
   obtain ⟨l,h4,h5,hc⟩:=Zcc.1 h4
   exact ⟨_,_,⟨h1,h2,h3,l,h4,h5,rfl,rfl⟩,hc⟩
 | _=>simp
def nilckC (x:AV) (C:AV→Prop):Prop:=match x with
 | .ptr b o=>C (.ptr b o)
 | .rp cs=>C (.rp cs)
 | .fn f a b=>C (.fn f a b)
 | _=>False
theorem Y33 {x:Ox}:wpR P d e H (.nilck x) C=nilckC (x.ev e) (fun v=>C v H):=by
 simp only [wpR,R,nilckC,Zck]; cases x.ev e <;> simp
theorem Yz8 {b o:Nat}{C:AV→Prop}:nilckC (.ptr b o) C=C (.ptr b o):=rfl
theorem Y5s {cs:List AV}{C:AV→Prop}:nilckC (.rp cs) C=C (.rp cs):=rfl
theorem Y2u {f:Nat}{a b:List AV}{C:AV→Prop}:nilckC (.fn f a b) C=C (.fn f a b):=rfl
def mksC (d:Option Dm) (H:Heap) (ek:Option Nat) (bytes:Nat) (zs:List AV) (l c:AV) (C:AV→Heap→Prop):Prop:=match l,c with
 | .int _ n,.int _ m=>0≤n∧n≤m∧bytes*m≤281474976710656∧newC d H (.cells (List.replicate m.toNat zs).flatten) (fun i H'=>C (.osl ek i 0 n.toNat) H')
 | _,_=>False
theorem Xer {ek:Option Nat}{bytes:Nat}{zs:List AV}{l c:Ox}:wpR P d e H (.mks ek bytes zs l c) C=mksC d H ek bytes zs (l.ev e) (c.ev e) C:=by
 simp only [wpR,R,mksC]
 apply propext
 cases l.ev e <;> cases c.ev e <;> simp
 rename_i k n k' m
 constructor
 ·rintro ⟨v,H',⟨h1,h2,h3,i,h4,rfl⟩,hc⟩; exact ⟨h1,h2,h3,i,H',h4,hc⟩
 ·rintro ⟨h1,h2,h3,i,H',h4,hc⟩; exact ⟨_,H',⟨h1,h2,h3,i,h4,rfl⟩,hc⟩
def bndC (e:Nat→AV) (x:Option Ox) (dd:Nat) (C:Nat→Prop):Prop:=match x with
 | none=>C dd
 | some o=>match o.ev e with
  | .int _ i=>0≤i∧C i.toNat
  | _=>False
def bndV (v:AV) (C:Nat→Prop):Prop:=match v with
 | .int _ i=>0≤i∧C i.toNat
 | _=>False
theorem Y2j {dd:Nat}{C:Nat→Prop}:bndC e none dd C=C dd:=rfl
theorem Y21 {dd:Nat}{o:Ox}{C:Nat→Prop}:bndC e (some o) dd C=bndV (o.ev e) C:=rfl
theorem Y3z {k:IntKind}{i:Int}{C:Nat→Prop}:bndV (.int k i) C=(0≤i∧C i.toNat):=rfl
theorem Yq4 {x:Option Ox}{dd:Nat}{C:Nat→Prop}:bndC e x dd C↔∃ n,Bnd (Ox.ev e) x dd n∧C n:=by
 unfold bndC Bnd
 cases x with
 | none=>simp
 | some o=>simp only []; cases o.ev e <;> simp [and_assoc]
def slcC (e:Nat→AV) (n:Nat) (x:AV) (lo hi:Option Ox) (C:AV→Prop):Prop:=match x with
 | .nils=>bndC e lo 0 fun a=>bndC e hi 0 fun b=>a=0∧b=0∧C .nils
 | .sl l=>bndC e lo 0 fun a=>bndC e hi l.length fun b=>a≤b∧b≤l.length∧(∀ y,y∈l→y.cells.length=n)∧C (.sl ((l.take b).drop a))
 | .osl ek bl off len=>bndC e lo 0 fun a=>bndC e hi len fun b=>a≤b∧b≤len∧es ek=n∧C (.osl ek bl (off+a*n) (b - a))
 | _=>False
theorem Xck {n:Nat}{x:Ox}{lo hi:Option Ox}:wpR P d e H (.slc n x lo hi) C=slcC e n (x.ev e) lo hi (fun v=>C v H):=by
 simp only [wpR,R,slcC,Zck]
 apply propext
 cases x.ev e <;> simp only [Yq4,false_and,exists_false]
 all_goals
  constructor
  ·rintro ⟨v,⟨a,b,h1,h2,h3⟩,hc⟩
   obtain ⟨h3,h4,h5⟩:=h3
   first
    | (obtain ⟨h5,rfl⟩:=h5; exact ⟨a,h1,b,h2,h3,h4,h5,hc⟩)
    | (subst h5; exact ⟨a,h1,b,h2,h3,h4,hc⟩)
  ·rintro ⟨a,h1,b,h2,h3⟩
   first
    | (obtain ⟨h3,h4,h5,hc⟩:=h3; exact ⟨_,⟨a,b,h1,h2,h3,h4,h5,rfl⟩,hc⟩)
    | (obtain ⟨h3,h4,hc⟩:=h3; exact ⟨_,⟨a,b,h1,h2,h3,h4,rfl⟩,hc⟩)
def sslcC (e:Nat→AV) (x:AV) (lo hi:Option Ox) (C:AV→Prop):Prop:=match x with
 | .str s=>bndC e lo 0 fun a=>bndC e hi s.size fun b=>a≤b∧b≤s.size∧C (.str (s.extract a b))
 | _=>False
theorem Y9v {x:Ox}{lo hi:Option Ox}:wpR P d e H (.sslc x lo hi) C=sslcC e (x.ev e) lo hi (fun v=>C v H):=by
 simp only [wpR,R,sslcC,Zck]
 apply propext
 cases x.ev e <;> simp only [Yq4,false_and,exists_false]
 constructor
 ·rintro ⟨v,⟨a,b,h1,h2,h3,h4,rfl⟩,hc⟩; exact ⟨a,h1,b,h2,h3,h4,hc⟩
 ·rintro ⟨a,h1,b,h2,h3,h4,hc⟩; exact ⟨_,⟨a,b,h1,h2,h3,h4,rfl⟩,hc⟩
def faC (off:Nat) (x:AV) (C:AV→Prop):Prop:=match x with | .ptr b o=>C (.ptr b (o+off)) | .rp cs=>C (.rp (cs.drop off)) | _=>False
theorem Xg9 {off:Nat}{x:Ox}:wpR P d e H (.fa off x) C=faC off (x.ev e) (fun v=>C v H):=by
 simp only [wpR,R,faC,Zck]; cases x.ev e <;> simp
theorem Xff {off b o:Nat}{C:AV→Prop}:faC off (.ptr b o) C=mkC (.ptr b (o+off)) C:=rfl
theorem Xfv {off:Nat}{cs:List AV}{C:AV→Prop}:faC off (.rp cs) C=mkC (.rp (cs.drop off)) C:=rfl
def fldC (ag:Option Nat) (off:Nat) (x:AV) (C:AV→Prop):Prop:=match x with | .agg cs=>ldvC ag (cs.drop off) C | _=>False
theorem Xdx {ag:Option Nat}{off:Nat}{x:Ox}:wpR P d e H (.fld ag off x) C=fldC ag off (x.ev e) (fun v=>C v H):=by
 simp only [wpR,R,fldC,Zck]
 apply propext
 cases x.ev e <;> simp [ldvC_iff]
theorem Y70 {ag:Option Nat}{off:Nat}{cs:List AV}{C:AV→Prop}:fldC ag off (.agg cs) C=ldvC ag (cs.drop off) C:=rfl
def idxC (n:Nat) (x i:AV) (C:AV→Prop):Prop:=match x,i with
 | .sl l,.int _ j=>0≤j∧optC l[j.toNat]? (fun y=>y.cells.length=n∧C (.rp y.cells))
 | .osl ek b off len,.int _ j=>es ek=n∧0≤j∧j<len∧C (.ptr b (off+j.toNat*n))
 | _,_=>False
theorem Y8w {n:Nat}{ek:Option Nat}{b off len:Nat}{k:IntKind}{j:Int}{C:AV→Prop}:idxC n (.osl ek b off len) (.int k j) C=(es ek=n∧0≤j∧j<len∧mkC (.ptr b (off+j.toNat*n)) C):=rfl
theorem Xdu {n:Nat}{x i:Ox}:wpR P d e H (.idx n x i) C=idxC n (x.ev e) (i.ev e) (fun v=>C v H):=by
 simp only [wpR,R,idxC,Zck]
 apply propext
 cases x.ev e <;> cases i.ev e <;> simp [Z99]
 ·constructor
  ·rintro ⟨v,⟨h1,y,h2,h3,rfl⟩,hc⟩; exact ⟨h1,y,h2,h3,hc⟩
  ·rintro ⟨h1,y,h2,h3,hc⟩; exact ⟨_,⟨h1,y,h2,h3,rfl⟩,hc⟩
 ·constructor
  ·rintro ⟨v,⟨h1,h2,h3,rfl⟩,hc⟩; exact ⟨h1,h2,h3,hc⟩
  ·rintro ⟨h1,h2,h3,hc⟩; exact ⟨_,⟨h1,h2,h3,rfl⟩,hc⟩
def idxaC (n len:Nat) (x i:AV) (C:AV→Prop):Prop:=match x,i with
 | .ptr b off,.int _ j=>0≤j∧j<len∧C (.ptr b (off+j.toNat*n))
 | _,_=>False
theorem Y30 {n len b off:Nat}{k:IntKind}{j:Int}{C:AV→Prop}:idxaC n len (.ptr b off) (.int k j) C=(0≤j∧j<len∧mkC (.ptr b (off+j.toNat*n)) C):=rfl
theorem Xbn {n len:Nat}{x i:Ox}:wpR P d e H (.idxa n len x i) C=idxaC n len (x.ev e) (i.ev e) (fun v=>C v H):=by
 simp only [wpR,R,idxaC,Zck]
 apply propext
 cases x.ev e <;> cases i.ev e <;> simp
 constructor
 ·rintro ⟨v,⟨h1,h2,rfl⟩,hc⟩; exact ⟨h1,h2,hc⟩
 ·rintro ⟨h1,h2,hc⟩; exact ⟨_,⟨h1,h2,rfl⟩,hc⟩
def sidxC (x i:AV) (C:AV→Prop):Prop:=match x,i with
 | .str s,.int _ j=>0≤j∧optC s[j.toNat]? (fun c=>C (.int .u8 c.toNat))
 | _,_=>False
theorem Xat {x i:Ox}:wpR P d e H (.sidx x i) C=sidxC (x.ev e) (i.ev e) (fun v=>C v H):=by
 simp only [wpR,R,sidxC,Zck]
 apply propext
 cases x.ev e <;> cases i.ev e <;> simp [Z99]
 constructor
 ·rintro ⟨v,⟨h1,c,h2,rfl⟩,hc⟩; exact ⟨h1,c,h2,hc⟩
 ·rintro ⟨h1,c,h2,hc⟩; exact ⟨_,⟨h1,c,h2,rfl⟩,hc⟩
def extC (i:Nat) (x:AV) (C:AV→Prop):Prop:=match x with | .tup vs=>optC vs[i]? C | _=>False
theorem Xaf {i:Nat}{vs:List AV}{C:AV→Prop}:extC i (.tup vs) C=optC vs[i]? C:=rfl
theorem Xdr {i:Nat}{x:Ox}:wpR P d e H (.ext i x) C=extC i (x.ev e) (fun v=>C v H):=by
 simp only [wpR,R,extC,Zck]
 apply propext
 cases x.ev e <;> simp [Z99]
def lenC (x:AV) (C:AV→Prop):Prop:=match x with
 | .nils=>C (.int .i64 0)
 | .sl l=>C (.int .i64 l.length)
 | .osl _ _ _ n=>C (.int .i64 n)
 | _=>False
theorem Y54 {C:AV→Prop}:lenC .nils C=C (.int .i64 0):=rfl
theorem Xc0 {l:List AV}{C:AV→Prop}:lenC (.sl l) C=mkC (.int .i64 l.length) C:=rfl
theorem Y9m {ek:Option Nat}{b off n:Nat}{C:AV→Prop}:lenC (.osl ek b off n) C=C (.int .i64 n):=rfl
theorem Xfq {x:Ox}:wpR P d e H (.len x) C=lenC (x.ev e) (fun v=>C v H):=by
 simp only [wpR,R,lenC,Zck]; cases x.ev e <;> simp
def slenC (x:AV) (C:AV→Prop):Prop:=match x with | .str s=>C (.int .i64 s.size) | _=>False
theorem Y2f {s:ByteArray}{C:AV→Prop}:slenC (.str s) C=mkC (.int .i64 s.size) C:=rfl
theorem Y81 {x:Ox}:wpR P d e H (.slen x) C=slenC (x.ev e) (fun v=>C v H):=by
 simp only [wpR,R,slenC,Zck]; cases x.ev e <;> simp
def mnC (x y:AV) (C:AV→Prop):Prop:=match x,y with | .int k a,.int _ b=>C (.int k (if b<a then b else a)) | _,_=>False
theorem Xdh {k k':IntKind}{a b:Int}{C:AV→Prop}:mnC (.int k a) (.int k' b) C=mkC (.int k (if b<a then b else a)) C:=rfl
theorem Xf4 {x y:Ox}:wpR P d e H (.mn x y) C=mnC (x.ev e) (y.ev e) (fun v=>C v H):=by
 simp only [wpR,R,mnC,Zck]; cases x.ev e <;> cases y.ev e <;> simp
def mxC (x y:AV) (C:AV→Prop):Prop:=match x,y with | .int k a,.int _ b=>C (.int k (if b > a then b else a)) | _,_=>False
theorem Xfo {k k':IntKind}{a b:Int}{C:AV→Prop}:mxC (.int k a) (.int k' b) C=mkC (.int k (if b > a then b else a)) C:=rfl
theorem Xf1 {x y:Ox}:wpR P d e H (.mx x y) C=mxC (x.ev e) (y.ev e) (fun v=>C v H):=by
 simp only [wpR,R,mxC,Zck]; cases x.ev e <;> cases y.ev e <;> simp
theorem Xcp {f:Nat}{a b:List Ox}:wpR P d e H (.mkf f a b) C=mkC (.fn f (a.map (Ox.ev e)) (b.map (Ox.ev e))) (fun v=>C v H):=by
 simp only [wpR,R,Zck,exists_eq_left,mkC]
theorem Xbc:es none=1:=rfl
theorem Xav {n:Nat}:es (some n)=n:=rfl
def contC (d:Option Dm) (n:Nat) (H:Heap) (x:AV) (C:List AV→Nat→Prop):Prop:=∃ cs m,Cont (OkB d) n H x cs∧cs.length=m*n∧C cs m
theorem Ywo {n:Nat}{C:List AV→Nat→Prop}(hn:0<n):contC d n H .nils C=C [] 0:=by
 apply propext
 constructor
 ·rintro ⟨cs,m,h1,h2,h3⟩
  simp only [Cont] at h1
  subst h1
  have:m=0:=by rcases Nat.mul_eq_zero.1 h2.symm with h | h <;> omega
  subst this; exact h3
 ·intro h; exact ⟨[],0,rfl,by simp,h⟩
theorem Y9l {n:Nat}{l:List AV}{C:List AV→Nat→Prop}(hn:0<n):contC d n H (.sl l) C=((∀ y,y∈l→y.cells.length=n)∧C (l.flatMap AV.cells) l.length):=by
 apply propext
 constructor
 ·rintro ⟨cs,m,⟨h1,rfl⟩,h2,h3⟩
  have:l.length=m:=Nat.eq_of_mul_eq_mul_right hn ((Zql hn l h1).1.symm.trans h2)
  subst this; exact ⟨h1,h3⟩
 ·rintro ⟨h1,h2⟩; exact ⟨_,_,⟨h1,rfl⟩,(Zql hn l h1).1,h2⟩
theorem Y55 {n:Nat}{ek:Option Nat}{b off len:Nat}{C:List AV→Nat→Prop}(hn:0<n):contC d n H (.osl ek b off len) C =
  (es ek=n∧(len=0→C [] 0)∧(len≠0→OkB d b∧cellsC H[b]? (fun l=>off+len*n≤l.length∧C ((l.drop off).take (len*n)) len))):=by
 apply propext
 constructor
 ·rintro ⟨cs,m,⟨h1,h2⟩,h3,h4⟩
  rcases h2 with ⟨rfl,rfl⟩ | ⟨h2,l,h5,h6,rfl⟩
  ·have:m=0:=by rcases Nat.mul_eq_zero.1 h3.symm with h | h <;> omega
   subst this; exact ⟨h1,fun _=>h4,fun h=>absurd rfl h⟩
  ·have hl:((l.drop off).take (len*n)).length=len*n:=by rw [List.length_take,List.length_drop]; omega
   have:len=m:=Nat.eq_of_mul_eq_mul_right hn (hl.symm.trans h3)
   subst this
   exact ⟨h1,fun h=>by subst h; simpa using h4,fun _=>⟨h2,Zcc.2 ⟨l,h5,h6,h4⟩⟩⟩
 ·rintro ⟨h1,h2,h3⟩
  by_cases h0:len=0
  ·exact ⟨[],0,⟨h1,.inl ⟨h0,rfl⟩⟩,by simp,h2 h0⟩
  ·obtain ⟨g1,g2⟩:=h3 h0
   obtain ⟨l,g3,g4,g5⟩:=Zcc.1 g2
   exact ⟨_,len,⟨h1,.inr ⟨g1,l,g3,g4,rfl⟩⟩,by rw [List.length_take,List.length_drop]; omega,g5⟩
def appC (d:Option Dm) (H:Heap) (ek:Option Nat) (bytes:Nat) (s:AV) (cs:List AV) (m:Nat) (C:AV→Heap→Prop):Prop:=match s with
 | .nils=>m*bytes≤1099511627776∧newC d H (.cells cs) (fun i H'=>C (.osl ek i 0 m) H')
 | .osl ek' b off len=>es ek'=es ek∧(len+m)*bytes≤1099511627776∧OkW d b∧cellsC H[b]? (fun l=>off+len*es ek≤l.length ∧
   newC d (H.set b .dead) (.cells ((l.drop off).take (len*es ek)++cs)) (fun i H'=>C (.osl ek i 0 (len+m)) H'))
 | _=>False
theorem Xeq {ek:Option Nat}{bytes:Nat}{s x:Ox}:wpR P d e H (.app ek bytes s x) C=contC d (es ek) H (x.ev e) (fun cs m=>appC d H ek bytes (s.ev e) cs m C):=by
 simp only [wpR,R,contC]
 apply propext
 constructor
 ·rintro ⟨v,H',⟨cs,m,h1,h2,h3⟩,hc⟩
  refine ⟨cs,m,h1,h2,?_⟩
  cases hs:s.ev e <;> rw [hs] at h3 <;> try exact h3.elim
  ·obtain ⟨h4,i,h5,rfl⟩:=h3; exact ⟨h4,i,H',h5,hc⟩
  ·obtain ⟨h4,h5,h6,l,h7,h8,i,h9,rfl⟩:=h3; exact ⟨h4,h5,h6,Zcc.2 ⟨l,h7,h8,i,H',h9,hc⟩⟩
 ·rintro ⟨cs,m,h1,h2,h3⟩
  cases hs:s.ev e <;> rw [hs] at h3 <;> try exact h3.elim
  ·obtain ⟨h4,i,H',h5,hc⟩:=h3; exact ⟨_,H',⟨cs,m,h1,h2,h4,i,h5,rfl⟩,hc⟩
  ·obtain ⟨h4,h5,h6,h7⟩:=h3
   obtain ⟨l,h7,h8,i,H',h9,hc⟩:=Zcc.1 h7
   exact ⟨_,H',⟨cs,m,h1,h2,h4,h5,h6,l,h7,h8,i,h9,rfl⟩,hc⟩
theorem Xc4 {x:Ox}:wpR P d e H (.b2s x) C=contC d 1 H (x.ev e) (fun cs _=>∃ bs:List UInt8,cs=bs.map (fun b => .int .u8 b.toNat)∧C (.str ⟨bs.toArray⟩) H):=by
 simp only [wpR,R,contC]
 apply propext
 constructor
 ·rintro ⟨v,H',⟨rfl,cs,h1,bs,h2,rfl⟩,hc⟩; exact ⟨cs,cs.length,h1,by omega,bs,h2,hc⟩
 ·rintro ⟨cs,m,h1,_,bs,h2,hc⟩; exact ⟨_,H,⟨rfl,cs,h1,bs,h2,rfl⟩,hc⟩
def cpyC (d:Option Dm) (H:Heap) (n:Nat) (y:AV) (cs:List AV) (m:Nat) (C:AV→Heap→Prop):Prop:=match y with
 | .osl ek b off len=>es ek=n∧OkW d b∧cellsC H[b]? (fun l=>off+len*n≤l.length∧C (.int .i64 (min m len:Nat)) (H.set b (.cells (fillA l [(off,.agg (cs.take (min m len*n)))]))))
 | .nils=>C (.int .i64 0) H
 | _=>False
theorem Y5w {n m:Nat}{cs:List AV}:cpyC d H n .nils cs m C=C (.int .i64 0) H:=rfl
theorem Xcq {n:Nat}{y x:Ox}:wpR P d e H (.cpy n y x) C=contC d n H (x.ev e) (fun cs m=>cpyC d H n (y.ev e) cs m C):=by
 simp only [wpR,R,contC]
 apply propext
 constructor
 ·rintro ⟨v,H',⟨cs,m,h1,h2,h3⟩,hc⟩
  refine ⟨cs,m,h1,h2,?_⟩
  cases hy:y.ev e <;> rw [hy] at h3 <;> try exact h3.elim
  ·obtain ⟨rfl,rfl⟩:=h3; exact hc
  ·obtain ⟨h4,h5,l,h6,h7,rfl,rfl⟩:=h3; exact ⟨h4,h5,Zcc.2 ⟨l,h6,h7,hc⟩⟩
 ·rintro ⟨cs,m,h1,h2,h3⟩
  cases hy:y.ev e <;> rw [hy] at h3 <;> try exact h3.elim
  ·exact ⟨_,H,⟨cs,m,h1,h2,rfl,rfl⟩,h3⟩
  ·obtain ⟨h4,h5,h6⟩:=h3
   obtain ⟨l,h6,h7,hc⟩:=Zcc.1 h6
   exact ⟨_,_,⟨cs,m,h1,h2,h4,h5,l,h6,h7,rfl,rfl⟩,hc⟩
def evs (e:Nat→AV):List Ox→List AV
 | [] => []
 | x::r=>x.ev e::evs e r
theorem Y80:evs e [] = []:=rfl
theorem Y2y {x:Ox}{r:List Ox}:evs e (x::r)=x.ev e::evs e r:=rfl
theorem Z32 {l:List Ox}:l.map (Ox.ev e)=evs e l:=by
 induction l with
 | nil=>rfl
 | cons x r ih=>simp [evs,ih]
def callC (P:Program) (d:Option Dm) (f:Nat) (H:Heap) (xs:List AV) (C:AV→Heap→Prop):Prop:=match d with
 | none=>∃ v H',SpecR P f H xs v H'∧C v H'
 | some d=>∃ v,(∃ ys ids,BVs H ids xs ys∧(∀ b,b∈ids→OkB (some d) b)∧(ids = []∨Flat v)∧SpecV P f ys v)∧C v H
theorem Y73 {f:Nat}{xs:List Ox}:wpR P d e H (.call f xs) C=callC P d f H (evs e xs) C:=by
 apply propext
 rw [← Z32]
 cases d with
 | none=>exact Iff.rfl
 | some d =>
  constructor
  ·rintro ⟨v,H',⟨rfl,h⟩,hc⟩; exact ⟨v,h,hc⟩
  ·rintro ⟨v,h,hc⟩; exact ⟨v,H,⟨rfl,h⟩,hc⟩
theorem Y5i {f:Nat}{xs:List Ox}:wpR P d e H (.callw f xs) C=callC P none f H (evs e xs) C:=by
 rw [← Z32]; rfl
def calleC (P:Program) (d:Option Dm) (f:Nat) (H:Heap) (xs:List AV) (C:AV→Heap→Prop):Prop:=match d with
 | none=>callC P none f H xs C
 | some D=>∃ v,∃ H0 K K':Heap,H0.length=D.base+D.id∧H=H0++K∧(∀ H1:Heap,LessB H1 H0→SpecR P f (H1++K) xs v (H1++K'))∧C v (H0++K')
theorem Y5u {f:Nat}{xs:List Ox}:wpR P d e H (.calle f xs) C=calleC P d f H (evs e xs) C:=by
 apply propext
 rw [← Z32]
 cases d with
 | none=>exact Iff.rfl
 | some D =>
  constructor
  ·rintro ⟨v,H',⟨H0,K,K',h1,h2,rfl,h3⟩,hc⟩; exact ⟨v,H0,K,K',h1,h2,h3,hc⟩
  ·rintro ⟨v,H0,K,K',h1,h2,h3,hc⟩; exact ⟨v,_,⟨H0,K,K',h1,h2,rfl,h3⟩,hc⟩
def calluC (P:Program) (d:Option Dm) (H:Heap) (x:AV) (xs:List AV) (C:AV→Heap→Prop):Prop:=match x with
 | .fn f first cap=>(match d with
  | none=>callC P none f H (first++xs++cap) C
  | some D=>∃ v,∃ M:List (Nat×Blk),(∀ p,p∈M→OkI D p.1∧D.W D.id p.1)∧(∀ H2:Heap,LessB H2 H→SpecR P f H2 (first++xs++cap) v (ap M H2))∧C v (ap M H))
 | _=>False
theorem Y2b {x:Ox}{xs:List Ox}:wpR P d e H (.callu x xs) C=calluC P d H (x.ev e) (evs e xs) C:=by
 apply propext
 rw [← Z32]
 simp only [wpR,R,calluC]
 cases x.ev e with
 | fn f a b =>
  cases d with
  | none=>exact Iff.rfl
  | some D =>
   constructor
   ·rintro ⟨v,H',⟨M,rfl,h1,h2⟩,hc⟩; exact ⟨v,M,h1,h2,hc⟩
   ·rintro ⟨v,M,h1,h2,hc⟩; exact ⟨v,_,⟨M,rfl,h1,h2⟩,hc⟩
 | _=>simp
theorem Xdm {P:Program}{D:Dm}{f:Nat}{H:Heap}{first cap xs:List AV}{v:AV}{C:AV→Heap→Prop}(M:List (Nat×Blk)) (hM:∀ p,p∈M→OkI D p.1∧D.W D.id p.1)
  (hs:∀ H2:Heap,LessB H2 H→SpecR P f H2 (first++xs++cap) v (ap M H2)) (hc:C v (ap M H)):calluC P (some D) H (.fn f first cap) xs C:=⟨v,M,hM,hs,hc⟩
def xtC (P:Program) (f:Nat) (xs:List AV) (C:AV→Prop):Prop:=∃ v,(∀ x,x∈xs→Flat x)∧PureX P f xs v∧C v
theorem Xf6 {f:Nat}{xs:List Ox}:wpR P d e H (.xt f xs) C=xtC P f (evs e xs) (fun v=>C v H):=by
 rw [← Z32]
 refine propext ⟨fun ⟨v,H',⟨⟨h1,h2⟩,hH⟩,h3⟩=>?_,fun ⟨v,h1,h2,h3⟩=>⟨v,H,⟨⟨fun x hx=>h1 _ (List.mem_map.2 ⟨x,hx,rfl⟩),h2⟩,rfl⟩,h3⟩⟩
 subst hH
 exact ⟨v,fun y hy=>let ⟨x,hx,he⟩:=List.mem_map.1 hy; he ▸ h1 x hx,h2,h3⟩
theorem Xcl {P:Program}{f:Nat}{xs:List AV}{v:AV}{C:AV→Prop}(h:PureX P f xs v) (hx:∀ x,x∈xs→Flat x) (hc:C v):xtC P f xs C:=⟨v,hx,h,hc⟩
def mkiC (t:TypeId) (x:AV) (C:AV→Prop):Prop:=knownC x (C (.ifc t x))
theorem Y9f {t:TypeId}{x:AV}{C:AV→Prop}:mkiC t x C=knownC x (C (.ifc t x)):=rfl
theorem Xde {t:TypeId}{x:Ox}:wpR P d e H (.mki t x) C=mkiC t (x.ev e) (fun v=>C v H):=by
 simp only [wpR,R,mkiC,knownC,Zck]
 exact propext ⟨fun ⟨v,⟨h1,h2⟩,h3⟩=>by subst h2; exact ⟨h1,h3⟩,fun ⟨h1,h2⟩=>⟨_,⟨h1,rfl⟩,h2⟩⟩
def taC (t:TypeId) (ok:Bool) (z x:AV) (C:AV→Prop):Prop:=match x with
 | .ifc u y=>(u=t→C (bif ok then .tup [y,.bool true] else y))∧(¬ u=t→ok=true∧C (.tup [z,.bool false]))
 | _=>False
theorem Xco {t u:TypeId}{ok:Bool}{z y:AV}{C:AV→Prop}:taC t ok z (.ifc u y) C=((u=t→C (bif ok then .tup [y,.bool true] else y))∧(¬ u=t→ok=true∧C (.tup [z,.bool false]))):=rfl
theorem Xgx {t:TypeId}{ok:Bool}{z:AV}{x:Ox}:wpR P d e H (.ta t ok z x) C=taC t ok z (x.ev e) (fun v=>C v H):=by
 simp only [wpR,R,taC,Zck]
 cases x.ev e <;> simp only [false_and,exists_false]
 rename_i u y
 apply propext
 by_cases h:u=t
 ·simp only [h,if_true,not_true_eq_false,false_implies,and_true,true_implies]
  cases ok <;> simp
 ·simp only [h,if_false,not_false_eq_true,true_implies,false_implies,true_and]
  constructor
  ·rintro ⟨v,⟨h1,rfl⟩,h2⟩; exact ⟨h1,h2⟩
  ·rintro ⟨h1,h2⟩; exact ⟨_,⟨h1,rfl⟩,h2⟩
def invC (P:Program) (d:Option Dm) (H:Heap) (tbl:List (TypeId×Nat)) (x:AV) (xs:List AV) (C:AV→Heap→Prop):Prop:=match x with
 | .ifc u y=>match tbl.lookup u with
  | some f=>callC P d f H (y::xs) C
  | none=>False
 | _=>False
theorem Yod {tbl:List (TypeId×Nat)}{u:TypeId}{f:Nat}{y:AV}{xs:List AV}(h:tbl.lookup u=some f):invC P d H tbl (.ifc u y) xs C=callC P d f H (y::xs) C:=by
 simp only [invC,h]
theorem Xdb {tbl:List (TypeId×Nat)}{x:Ox}{xs:List Ox}:wpR P d e H (.inv tbl x xs) C=invC P d H tbl (x.ev e) (evs e xs) C:=by
 apply propext
 rw [← Z32]
 simp only [wpR,R,invC]
 cases x.ev e with
 | ifc u y =>
  simp only
  cases tbl.lookup u with
  | none=>simp
  | some f =>
   cases d with
   | none=>exact Iff.rfl
   | some d =>
    constructor
    ·rintro ⟨v,H',⟨rfl,h⟩,hc⟩; exact ⟨v,h,hc⟩
    ·rintro ⟨v,h,hc⟩; exact ⟨v,H,⟨rfl,h⟩,hc⟩
 | _=>simp
def callvC (P:Program) (d:Option Dm) (H:Heap) (x:AV) (xs:List AV) (C:AV→Heap→Prop):Prop:=match x with
 | .fn f first cap=>callC P d f H (first++xs++cap) C
 | _=>False
theorem Y4p {f:Nat}{first cap xs:List AV}:callvC P d H (.fn f first cap) xs C=callC P d f H (first++xs++cap) C:=rfl
theorem Y3x {x:Ox}{xs:List Ox}:wpR P d e H (.callv x xs) C=callvC P d H (x.ev e) (evs e xs) C:=by
 apply propext
 rw [← Z32]
 simp only [wpR,R,callvC]
 cases x.ev e with
 | fn f a b =>
  cases d with
  | none=>exact Iff.rfl
  | some d =>
   constructor
   ·rintro ⟨v,H',⟨rfl,h⟩,hc⟩; exact ⟨v,h,hc⟩
   ·rintro ⟨v,h,hc⟩; exact ⟨v,H,⟨rfl,h⟩,hc⟩
 | _=>simp
theorem Zus {f:Nat}{xs ys:List AV}{ids:List Nat}{v:AV}(hs:SpecV P f ys v) (h:BVs H ids xs ys) (hf:ids = []∨Flat v) (hk:∀ b,b∈ids→OkB d b) (hc:C v H):callC P d f H xs C:=by
 cases d with
 | none=>exact ⟨v,H,Xbt h hf hs,hc⟩
 | some d=>exact ⟨v,⟨ys,ids,h,hk,hf,hs⟩,hc⟩
theorem Zjb {f:Nat}{xs ys:List AV}{ids:List Nat}{v:AV}(hs:SpecV P f ys v) (h:BVs H ids xs ys) (hc:C v (kill ids H)):callC P none f H xs C :=
 ⟨v,_,Y9u h hs,hc⟩
theorem Zd4 {f:Nat}{xs:List AV}{H':Heap}{v:AV}(hs:SpecR P f H xs v H') (hc:C v H'):callC P none f H xs C:=⟨v,H',hs,hc⟩
section congr
variable {x x' y y' z z':AV} {C1:AV→Prop} {C2:AV→Heap→Prop} {C3:Nat→Heap→Prop} {C4:Heap→Prop} {p q:Prop}
@[congr] theorem Y7m (h : x = x') : pickC x y z C1 = pickC x' y z C1 := by rw [h]
@[congr] theorem Xcf {o : BinOp} (h : x = x') (h' : y = y') : binC o x y C1 = binC o x' y' C1 := by rw [h, h']
@[congr] theorem Xb9 {n : Bool} (h : x = x') (h' : y = y') : beqC n x y C1 = beqC n x' y' C1 := by rw [h, h']
@[congr] theorem Xdw {o : UnOp} (h : x = x') : unC o x C1 = unC o x' C1 := by rw [h]
@[congr] theorem Xce {k : IntKind} (h : x = x') : cviC k x C1 = cviC k x' C1 := by rw [h]
@[congr] theorem Xb5 (h : x = x') : cvsC x C1 = cvsC x' C1 := by rw [h]
@[congr] theorem Y7r (h : p = q) : boolC p C1 = boolC q C1 := by rw [h]
@[congr] theorem Xb7 {bl bl' : Blk} {H' : Heap} (hH : H = H') (h : bl = bl') : newC d H bl C3 = newC d H' bl' C3 := by rw [h, hH]
@[congr] theorem Y6s (h : x = x') : knownC x p = knownC x' p := by rw [h]
@[congr] theorem Y68 {b b' : Option Blk} {C : List AV → Prop} (h : b = b') : cellsC b C = cellsC b' C := by rw [h]
@[congr] theorem Xb6 {α : Type} {b b' : Option α} {C : α → Prop} (h : b = b') : optC b C = optC b' C := by rw [h]
@[congr] theorem Xci {ag : Option Nat} {l l' : List AV} (h : l = l') : ldvC ag l C1 = ldvC ag l' C1 := by rw [h]
@[congr] theorem Xee {ag : Option Nat} (h : x = x') : ldC d H ag x C1 = ldC d H ag x' C1 := by rw [h]
@[congr] theorem Xd0 {n : Nat} (h : x = x') (h' : y = y') : stC d H n x y C4 = stC d H n x' y' C4 := by rw [h, h']
@[congr] theorem Y63 (h : x = x') : nilckC x C1 = nilckC x' C1 := by rw [h]
@[congr] theorem Xcd {ek : Option Nat} {n : Nat} {zs : List AV} (h : x = x') (h' : y = y') : mksC d H ek n zs x y C2 = mksC d H ek n zs x' y' C2 := by rw [h, h']
@[congr] theorem Xca {C : Nat → Prop} (h : x = x') : bndV x C = bndV x' C := by rw [h]
@[congr] theorem Xb1 {n : Nat} {lo hi : Option Ox} (h : x = x') : slcC e n x lo hi C1 = slcC e n x' lo hi C1 := by rw [h]
@[congr] theorem Y9j {lo hi : Option Ox} (h : x = x') : sslcC e x lo hi C1 = sslcC e x' lo hi C1 := by rw [h]
@[congr] theorem Xea {n : Nat} (h : x = x') : faC n x C1 = faC n x' C1 := by rw [h]
@[congr] theorem Xb2 {ag : Option Nat} {n : Nat} (h : x = x') : fldC ag n x C1 = fldC ag n x' C1 := by rw [h]
@[congr] theorem Xb4 {n : Nat} (h : x = x') (h' : y = y') : idxC n x y C1 = idxC n x' y' C1 := by rw [h, h']
@[congr] theorem Y82 {n m : Nat} (h : x = x') (h' : y = y') : idxaC n m x y C1 = idxaC n m x' y' C1 := by rw [h, h']
@[congr] theorem Y8y (h : x = x') (h' : y = y') : sidxC x y C1 = sidxC x' y' C1 := by rw [h, h']
@[congr] theorem Xcg {n : Nat} (h : x = x') : extC n x C1 = extC n x' C1 := by rw [h]
@[congr] theorem Xcb (h : x = x') : lenC x C1 = lenC x' C1 := by rw [h]
@[congr] theorem Xa1 (h : x = x') : slenC x C1 = slenC x' C1 := by rw [h]
@[congr] theorem Xe7 (h : x = x') (h' : y = y') : mnC x y C1 = mnC x' y' C1 := by rw [h, h']
@[congr] theorem Xfh (h : x = x') (h' : y = y') : mxC x y C1 = mxC x' y' C1 := by rw [h, h']
@[congr] theorem Xbm {n n' : Nat} {C : List AV → Nat → Prop} (hn : n = n') (h : x = x') : contC d n H x C = contC d n' H x' C := by rw [h, hn]
@[congr] theorem Xb8 {ek : Option Nat} {n m m' : Nat} {cs cs' : List AV} (h : x = x') (hc : cs = cs') (hm : m = m') : appC d H ek n x cs m C2 = appC d H ek n x' cs' m' C2 := by rw [h, hc, hm]
@[congr] theorem Xb3 {n m m' : Nat} {cs cs' : List AV} (h : x = x') (hc : cs = cs') (hm : m = m') : cpyC d H n x cs m C2 = cpyC d H n x' cs' m' C2 := by rw [h, hc, hm]
@[congr] theorem Xbk {f : Nat} {xs xs' : List AV} (h : xs = xs') : callC P d f H xs C2 = callC P d f H xs' C2 := by rw [h]
@[congr] theorem Y7d {xs xs' : List AV} (h : x = x') (h2 : xs = xs') : calluC P d H x xs C2 = calluC P d H x' xs' C2 := by rw [h, h2]
@[congr] theorem Y7g {f : Nat} {xs xs' : List AV} (h : xs = xs') : calleC P d f H xs C2 = calleC P d f H xs' C2 := by rw [h]
@[congr] theorem Xda {f : Nat} {xs xs' : List AV} (h : xs = xs') : xtC P f xs C1 = xtC P f xs' C1 := by rw [h]
@[congr] theorem Xch {t : TypeId} (h : x = x') : mkiC t x C1 = mkiC t x' C1 := by rw [h]
@[congr] theorem Xew {t : TypeId} {ok : Bool} {z : AV} (h : x = x') : taC t ok z x C1 = taC t ok z x' C1 := by rw [h]
@[congr] theorem Xb0 {tbl : List (TypeId × Nat)} {xs xs' : List AV} (h : x = x') (hx : xs = xs') : invC P d H tbl x xs C2 = invC P d H tbl x' xs' C2 := by rw [h, hx]
@[congr] theorem Y62 {xs xs' : List AV} (h : x = x') (hx : xs = xs') : callvC P d H x xs C2 = callvC P d H x' xs' C2 := by rw [h, hx]
end congr
end GoAbs
