/- Lemmas for the claim (contracts of the functions that it reaches, and what they compute), without conditions. -/
import Derived.Test.YtiapneoakbealaaGreatK15
set_option linter.unusedVariables false
set_option linter.unusedSimpArgs false
set_option maxRecDepth 10000
set_option maxHeartbeats 2000000
namespace GoAbs
open Go Go.RowKit
section rules
variable {P:Program} {md:Md} {d:Option Dm} {e:Nat→AV} {H:Heap} {C:AV→Heap→Prop} {C1:AV→Prop}
def goC (P:Program) (md:Md) (r:List IOp) (K:St→Prop) (e:Nat→AV) (dst:Option Nat) (v:AV) (H:Heap):Prop:=iexec P md r K ⟨upd e dst v,H⟩
theorem Xbq {r:List IOp}{K:St→Prop}{dst:Option Nat}{v:AV}:goC P md r K e dst v H=iexec P md r K ⟨upd e dst v,H⟩:=rfl
section
variable {dst:Option Nat} {op:COp} {id g b:Nat} {want:Bool} {W:Nat→Nat→Prop} {oks:List Nat} {nw:List Nat} {r:List IOp} {K:St→Prop}
theorem Xgr:iexec P none (⟨dst,op,id,oks,nw,none⟩::r) K ⟨e,H⟩=wpR P none e H op (goC P none r K e dst):=rfl
theorem Xf7:iexec P (some (b,W)) (⟨dst,op,id,oks,nw,none⟩::r) K ⟨e,H⟩=wpR P (some ⟨b,W,id,oks,nw⟩) e H op (goC P (some (b,W)) r K e dst):=rfl
theorem Xc6:iexec P none (⟨dst,op,id,oks,nw,some (g,want)⟩::r) K ⟨e,H⟩=guardC (e g) want (wpR P none e H op (goC P none r K e dst)) (iexec P none r K ⟨upd e dst (.tup []),H⟩):=Yud
theorem Xdy:iexec P (some (b,W)) (⟨dst,op,id,oks,nw,some (g,want)⟩::r) K ⟨e,H⟩=guardC (e g) want (wpR P (some ⟨b,W,id,oks,nw⟩) e H op (goC P (some (b,W)) r K e dst)) (iexec P (some (b,W)) r K ⟨upd e dst (.tup []),H⟩):=Yvo
end
def atH (C:AV→Heap→Prop) (H:Heap) (v:AV):Prop:=C v H
theorem Y7o {v:AV}:atH C H v=C v H:=rfl
def ptrK (C:AV→Heap→Prop) (i:Nat) (H:Heap):Prop:=C (.ptr i 0) H
theorem Y38 {i:Nat}:ptrK C i H=C (.ptr i 0) H:=rfl
def oslK (C:AV→Heap→Prop) (ek:Option Nat) (n i:Nat) (H:Heap):Prop:=C (.osl ek i 0 n) H
theorem Y35 {ek:Option Nat}{n i:Nat}:oslK C ek n i H=C (.osl ek i 0 n) H:=rfl
def ldK (ag:Option Nat) (off:Nat) (C:AV→Prop) (l:List AV):Prop:=ldvC ag (l.drop off) C
theorem Y8n {ag:Option Nat}{off:Nat}{l:List AV}:ldK ag off C1 l=ldvC ag (l.drop off) C1:=rfl
def anyK (C:AV→Heap→Prop) (H:Heap):Prop:=C .any H
theorem Y4n:anyK C H=C .any H:=rfl
def stK (H:Heap) (b off n:Nat) (x:AV) (C:Heap→Prop) (l:List AV):Prop:=off+n≤l.length∧mkS (H.set b (.cells (fillA l [(off,x)]))) C
theorem Y87 {b off n:Nat}{x:AV}{C:Heap→Prop}{l:List AV}:stK H b off n x C l=(off+n≤l.length∧mkS (H.set b (.cells (fillA l [(off,x)]))) C):=rfl
def slcHi1 (l:List AV) (n:Nat) (C:AV→Prop) (a b:Nat):Prop:=a≤b∧b≤l.length∧(∀ y,y∈l→y.cells.length=n)∧mkC (.sl ((l.take b).drop a)) C
theorem Ytx {l:List AV}{n a b:Nat}:slcHi1 l n C1 a b=(a≤b∧b≤l.length∧(∀ y,y∈l→y.cells.length=n)∧mkC (.sl ((l.take b).drop a)) C1):=rfl
def slcHi2 (ek:Option Nat) (bl off len n:Nat) (C:AV→Prop) (a b:Nat):Prop:=a≤b∧b≤len∧es ek=n∧mkC (.osl ek bl (off+a*n) (b - a)) C
theorem Ysz {ek:Option Nat}{bl off len n a b:Nat}:slcHi2 ek bl off len n C1 a b=(a≤b∧b≤len∧es ek=n∧mkC (.osl ek bl (off+a*n) (b - a)) C1):=rfl
def slcHi0 (C:AV→Prop) (a b:Nat):Prop:=a=0∧b=0∧C .nils
theorem Yuk {a b:Nat}:slcHi0 C1 a b=(a=0∧b=0∧C1 .nils):=rfl
def sslcHi (s:ByteArray) (C:AV→Prop) (a b:Nat):Prop:=a≤b∧b≤s.size∧mkC (.str (s.extract a b)) C
theorem Yu3 {s:ByteArray}{a b:Nat}:sslcHi s C1 a b=(a≤b∧b≤s.size∧mkC (.str (s.extract a b)) C1):=rfl
def slcLo (e:Nat→AV) (hi:Option Ox) (n:Nat) (C:Nat→Nat→Prop) (a:Nat):Prop:=bndC e hi n (C a)
theorem Yyg {hi:Option Ox}{n a:Nat}{C:Nat→Nat→Prop}:slcLo e hi n C a=bndC e hi n (C a):=rfl
def idxK (n:Nat) (C:AV→Prop) (y:AV):Prop:=y.cells.length=n∧mkC (.rp y.cells) C
theorem Y4m {n:Nat}{y:AV}:idxK n C1 y=(y.cells.length=n∧mkC (.rp y.cells) C1):=rfl
def sidxK (C:AV→Prop) (c:UInt8):Prop:=mkC (.int .u8 c.toNat) C
theorem Yz5 {c:UInt8}:sidxK C1 c=mkC (.int .u8 c.toNat) C1:=rfl
def appCK (d:Option Dm) (H:Heap) (ek:Option Nat) (bytes:Nat) (s:AV) (C:AV→Heap→Prop) (cs:List AV) (m:Nat):Prop:=appC d H ek bytes s cs m C
theorem Yxz {ek:Option Nat}{bytes:Nat}{s:AV}{cs:List AV}{m:Nat}:appCK d H ek bytes s C cs m=appC d H ek bytes s cs m C:=rfl
def appK (d:Option Dm) (H:Heap) (ek:Option Nat) (b off len m:Nat) (cs:List AV) (C:AV→Heap→Prop) (l:List AV):Prop :=
 off+len*es ek≤l.length∧newC d (H.set b .dead) (.cells ((l.drop off).take (len*es ek)++cs)) (oslK C ek (len+m))
theorem Y59 {ek:Option Nat}{b off len m:Nat}{cs l:List AV}:appK d H ek b off len m cs C l =
 (off+len*es ek≤l.length∧newC d (H.set b .dead) (.cells ((l.drop off).take (len*es ek)++cs)) (oslK C ek (len+m))):=rfl
def contK (off len n:Nat) (C:List AV→Nat→Prop) (l:List AV):Prop:=off+len*n≤l.length∧C ((l.drop off).take (len*n)) len
theorem Yzy {off len n:Nat}{C:List AV→Nat→Prop}{l:List AV}:contK off len n C l=(off+len*n≤l.length∧C ((l.drop off).take (len*n)) len):=rfl
def b2sK (H:Heap) (C:AV→Heap→Prop) (cs:List AV) (_:Nat):Prop:=∃ bs:List UInt8,cs=bs.map (fun b => .int .u8 b.toNat)∧C (.str ⟨bs.toArray⟩) H
theorem Y57 {cs:List AV}{m:Nat}:b2sK H C cs m=∃ bs:List UInt8,cs=bs.map (fun b => .int .u8 b.toNat)∧C (.str ⟨bs.toArray⟩) H:=rfl
def cpyCK (d:Option Dm) (H:Heap) (n:Nat) (y:AV) (C:AV→Heap→Prop) (cs:List AV) (m:Nat):Prop:=cpyC d H n y cs m C
theorem Y06 {n m:Nat}{y:AV}{cs:List AV}:cpyCK d H n y C cs m=cpyC d H n y cs m C:=rfl
def cpyK (H:Heap) (b off len n m:Nat) (cs:List AV) (C:AV→Heap→Prop) (l:List AV):Prop:=off+len*n≤l.length∧mkH (.int .i64 (min m len:Nat)) (H.set b (.cells (fillA l [(off,.agg (cs.take (min m len*n)))]))) C
theorem Y42 {b off len n m:Nat}{cs l:List AV}:cpyK H b off len n m cs C l=(off+len*n≤l.length∧mkH (.int .i64 (min m len:Nat)) (H.set b (.cells (fillA l [(off,.agg (cs.take (min m len*n)))]))) C):=rfl
theorem y_mv {x:Ox}:wpR P d e H (.mv x) C=mkC (x.ev e) (atH C H):=Xfz
theorem Xej {c a b:Ox}:wpR P d e H (.pick c a b) C=pickC (c.ev e) (a.ev e) (b.ev e) (atH C H):=Y77
theorem Xg8 {o:BinOp}{x y:Ox}:wpR P d e H (.bin o x y) C=binC o (x.ev e) (y.ev e) (atH C H):=Xel
theorem Xgz {n:Bool}{x y:Ox}:wpR P d e H (.beq n x y) C=beqC n (x.ev e) (y.ev e) (atH C H):=Xey
theorem y_un {o:UnOp}{x:Ox}:wpR P d e H (.un o x) C=unC o (x.ev e) (atH C H):=Xhf
theorem Xgs {k:IntKind}{x:Ox}:wpR P d e H (.cvi k x) C=cviC k (x.ev e) (atH C H):=Xdk
theorem Xg3 {x:Ox}:wpR P d e H (.cvs x) C=cvsC (x.ev e) (atH C H):=Xcw
theorem Xaw {zs:List AV}:wpR P d e H (.alloc zs) C=newC d H (.cells zs) (ptrK C):=Y4g
theorem Xhh {x:Ox}:wpR P d e H (.box x) C=knownC (x.ev e) (newC d H (.cells (x.ev e).cells) (ptrK C)):=Xfk
theorem Y9q {zs:List AV}{parts:List (Nat×Nat×Ox)}:wpR P d e H (.build zs parts) C=partsC e parts (mkC (.agg (fillA zs (valsP e parts))) (atH C H)):=Y5z
theorem Xgf {ek:Option Nat}{n:Nat}{zs:List AV}{parts:List (Nat×Ox)}:wpR P d e H (.bsl ek (n+1) zs parts) C =
  parts2C e (es ek) parts (newC d H (.cells (fillA (List.replicate (n+1) zs).flatten (vals2 e (es ek) parts))) (oslK C ek (n+1))):=Xex
theorem y_ld {ag:Option Nat}{a:Ox}:wpR P d e H (.ld ag a) C=ldC d H ag (a.ev e) (atH C H):=Xg0
theorem Y8k {ag:Option Nat}{b off:Nat}:ldC d H ag (.ptr b off) C1=(OkB d b∧cellsC H[b]? (ldK ag off C1)):=rfl
theorem y_st {n:Nat}{a x:Ox}:wpR P d e H (.st n a x) C=stC d H n (a.ev e) (x.ev e) (anyK C):=Xfw
theorem Y8u {n b off:Nat}{x:AV}{C:Heap→Prop}:stC d H n (.ptr b off) x C=(OkW d b∧knownC x (x.cells.length=n∧cellsC H[b]? (stK H b off n x C))):=rfl
theorem Xam {x:Ox}:wpR P d e H (.nilck x) C=nilckC (x.ev e) (atH C H):=Y33
theorem Y6g {ek:Option Nat}{bytes:Nat}{zs:List AV}{k k':IntKind}{n m:Int}:mksC d H ek bytes zs (.int k n) (.int k' m) C =
  (0≤n∧n≤m∧bytes*m≤281474976710656∧newC d H (.cells (List.replicate m.toNat zs).flatten) (oslK C ek n.toNat)):=rfl
theorem Xge {n:Nat}{x:Ox}{lo hi:Option Ox}:wpR P d e H (.slc n x lo hi) C=slcC e n (x.ev e) lo hi (atH C H):=Xck
theorem Xfm {n:Nat}{lo hi:Option Ox}:slcC e n .nils lo hi C1=bndC e lo 0 (slcLo e hi 0 (slcHi0 C1)):=rfl
theorem Xd6 {n:Nat}{l:List AV}{lo hi:Option Ox}:slcC e n (.sl l) lo hi C1=bndC e lo 0 (slcLo e hi l.length (slcHi1 l n C1)):=rfl
theorem Xem {n:Nat}{ek:Option Nat}{bl off len:Nat}{lo hi:Option Ox}:slcC e n (.osl ek bl off len) lo hi C1=bndC e lo 0 (slcLo e hi len (slcHi2 ek bl off len n C1)):=rfl
theorem Xed {x:Ox}{lo hi:Option Ox}:wpR P d e H (.sslc x lo hi) C=sslcC e (x.ev e) lo hi (atH C H):=Y9v
theorem Y74 {s:ByteArray}{lo hi:Option Ox}:sslcC e (.str s) lo hi C1=bndC e lo 0 (slcLo e hi s.size (sslcHi s C1)):=rfl
theorem y_fa {off:Nat}{x:Ox}:wpR P d e H (.fa off x) C=faC off (x.ev e) (atH C H):=Xg9
theorem Xgo {ag:Option Nat}{off:Nat}{x:Ox}:wpR P d e H (.fld ag off x) C=fldC ag off (x.ev e) (atH C H):=Xdx
theorem Xf2 {n:Nat}{x i:Ox}:wpR P d e H (.idx n x i) C=idxC n (x.ev e) (i.ev e) (atH C H):=Xdu
theorem Xau {n:Nat}{l:List AV}{k:IntKind}{j:Int}:idxC n (.sl l) (.int k j) C1=(0≤j∧optC l[j.toNat]? (idxK n C1)):=rfl
theorem Xes {n len:Nat}{x i:Ox}:wpR P d e H (.idxa n len x i) C=idxaC n len (x.ev e) (i.ev e) (atH C H):=Xbn
theorem Xdo {x i:Ox}:wpR P d e H (.sidx x i) C=sidxC (x.ev e) (i.ev e) (atH C H):=Xat
theorem Y9w {s:ByteArray}{k:IntKind}{j:Int}:sidxC (.str s) (.int k j) C1=(0≤j∧optC s[j.toNat]? (sidxK C1)):=rfl
theorem Xgk {i:Nat}{x:Ox}:wpR P d e H (.ext i x) C=extC i (x.ev e) (atH C H):=Xdr
theorem Xgd {x:Ox}:wpR P d e H (.len x) C=lenC (x.ev e) (atH C H):=Xfq
theorem Xdv {x:Ox}:wpR P d e H (.slen x) C=slenC (x.ev e) (atH C H):=Y81
theorem y_mn {x y:Ox}:wpR P d e H (.mn x y) C=mnC (x.ev e) (y.ev e) (atH C H):=Xf4
theorem y_mx {x y:Ox}:wpR P d e H (.mx x y) C=mxC (x.ev e) (y.ev e) (atH C H):=Xf1
theorem Xgy {f:Nat}{a b:List Ox}:wpR P d e H (.mkf f a b) C=mkC (.fn f (evs e a) (evs e b)) (atH C H):=by rw [Xcp,Z32,Z32]; rfl
theorem Xhi {t:TypeId}{x:Ox}:wpR P d e H (.mki t x) C=mkiC t (x.ev e) (atH C H):=Xde
theorem y_ta {t:TypeId}{ok:Bool}{z:AV}{x:Ox}:wpR P d e H (.ta t ok z x) C=taC t ok z (x.ev e) (atH C H):=Xgx
theorem y_xt {f:Nat}{xs:List Ox}:wpR P d e H (.xt f xs) C=xtC P f (evs e xs) (atH C H):=Xf6
theorem Xhg {ek:Option Nat}{bytes:Nat}{s x:Ox}:wpR P d e H (.app ek bytes s x) C=contC d (es ek) H (x.ev e) (appCK d H ek bytes (s.ev e) C):=Xeq
theorem Xdl {ek:Option Nat}{bytes m:Nat}{cs:List AV}:appC d H ek bytes .nils cs m C=(m*bytes≤1099511627776∧newC d H (.cells cs) (oslK C ek m)):=rfl
theorem Xds {ek ek':Option Nat}{bytes m b off len:Nat}{cs:List AV}:appC d H ek bytes (.osl ek' b off len) cs m C =
  (es ek'=es ek∧(len+m)*bytes≤1099511627776∧OkW d b∧cellsC H[b]? (appK d H ek b off len m cs C)):=rfl
theorem Xe2 {n:Nat}{ek:Option Nat}{b off len:Nat}{C:List AV→Nat→Prop}(hn:0<n):contC d n H (.osl ek b off len) C =
  (es ek=n∧(len=0→C [] 0)∧(len≠0→OkB d b∧cellsC H[b]? (contK off len n C))):=Y55 hn
theorem Xf5 {x:Ox}:wpR P d e H (.b2s x) C=contC d 1 H (x.ev e) (b2sK H C):=Xc4
theorem Xha {n:Nat}{y x:Ox}:wpR P d e H (.cpy n y x) C=contC d n H (x.ev e) (cpyCK d H n (y.ev e) C):=Xcq
theorem Xfc {n m b off len:Nat}{ek:Option Nat}{cs:List AV}:cpyC d H n (.osl ek b off len) cs m C=(es ek=n∧OkW d b∧cellsC H[b]? (cpyK H b off len n m cs C)):=rfl
end rules
theorem Ymw {cs:List AV}:(AV.agg cs).cells=cs:=rfl
theorem Yx0:AV.any.cells = [.any]:=rfl
theorem Y1n {k:IntKind}{n:Int}:(AV.int k n).cells = [.int k n]:=rfl
theorem Ys2 {b:Bool}:(AV.bool b).cells = [.bool b]:=rfl
theorem Yyl {s:ByteArray}:(AV.str s).cells = [.str s]:=rfl
theorem Yyi {l:List AV}:(AV.tup l).cells = [.tup l]:=rfl
theorem Yve:AV.nils.cells = [.nils]:=rfl
theorem Y2z {l:List AV}:(AV.sl l).cells = [.sl l]:=rfl
theorem Y1d {ek:Option Nat}{b off n:Nat}:(AV.osl ek b off n).cells = [.osl ek b off n]:=rfl
theorem Yyh {b off:Nat}:(AV.ptr b off).cells = [.ptr b off]:=rfl
theorem Y4x {l:List AV}:(AV.rp l).cells = [.rp l]:=rfl
theorem Y5n {f:Nat}{a b:List AV}:(AV.fn f a b).cells = [.fn f a b]:=rfl
theorem Yui:AV.nilp.cells = [.nilp]:=rfl
theorem Ynb:AV.nilfn.cells = [.nilfn]:=rfl
theorem Y4c {b:Nat}:(AV.mp b).cells = [.mp b]:=rfl
theorem Y1i {t:TypeId}{x:AV}:(AV.ifc t x).cells = [.ifc t x]:=rfl
theorem Yn6:AV.nilif.cells = [.nilif]:=rfl
attribute [go_sem ↓] Y2v Y39 Yz1 Y4h ev_t ev_c
attribute [go_sem ↓] Yxl Xgr Xf7 Xc6 Xdy Xbq Y7o Y38 Y35 Y8n Y4n Y87 Ytx Ysz Yuk Yu3 Yyg Y4m Yz5 Yxz Y59 Yzy Y57 Y06 Y42
attribute [go_sem ↓] y_mv Xej Xg8 Xgz y_un Xgs Xg3 Xaw Xhh Y9q Y7t Xgf y_ld y_st Xam Xer Xge Xed y_fa Xgo Xf2 Xes Xdo Xgk Xgd Xdv y_mn y_mx Xgy Xhi y_ta Xdb y_xt Xhg Xf5 Xha Y73 Y5i Y5u Y2b Y3x Y2j Y21
attribute [go_sem] Xgl Xft Nat.reduceBEq beq_self_eq_true Xaz Y8b Y94 Y7l Y9y Y2g Y4v Y2k Y4o Y29 Yvv Yov Xc2 Xfj
 Y8z Y8d Y8h Y75 Y99 Y78 Xdq Xa8 Ytg Xba Y7v Y9c Xbp Y83 Xag Xae Xa4 Y7k Y9k Y7q Xbr Y2m Xfn Xcn Xec Y8r
 Y9s Y4e Y4u Yx9 Ysp Ywj Yx7 Ytp Y52 Ywr Yyn Y48 Y34 Yun Ypd Y2n Ybb Yom Y9f Xco Y02 Yvy Yvf Ypr
 Yuw Y5l Y2i Y50 Y8k Xgt Y31 Y3r Y3j Y5t Y8u Yz8 Y5s Y2u Y6g Y3z Xfm Xd6 Xem
 Y74 Xff Xfv Y70 Xau Y8w Y30 Y9w Xaf Y54 Xc0 Y9m Y2f Xdh Xfo Xbc Xav
 Ywo Y9l Xe2 Xdl Xds Xfc Y5w Y80 Y2y Y4p valsP vals2 Ymw Yx0 Y1n Ys2 Yyl Yyi Yve Y2z Y1d Yyh Y4x Y5n Yui Ynb Y4c Y1i Yn6
attribute [go_sem] if_true if_false true_and and_true false_and and_false List.getElem?_cons_zero List.getElem?_cons_succ List.getElem?_nil List.length_cons List.length_nil List.drop_zero List.drop_succ_cons List.drop_nil
 List.take_zero List.take_succ_cons List.take_nil List.nil_append List.cons_append List.append_nil List.set_cons_zero List.set_cons_succ Nat.add_zero Nat.zero_add Nat.reduceAdd Nat.reduceMul Nat.reduceSub Nat.reduceEqDiff Nat.reduceLT Nat.reduceLeDiff
 Int.toNat_natCast cond_true cond_false Bool.not_false Bool.not_true Bool.true_beq Bool.false_beq reduceIte reduceCtorEq Option.some.injEq List.getD_cons_zero List.getD_cons_succ List.getD_nil Int.reduceToNat Int.reduceLE Int.reduceLT Int.reduceEq Int.reduceNe Int.reduceAdd Int.reduceSub Int.reduceMul Int.reduceNeg Nat.mul_one Nat.one_mul
 Bool.false_eq_true Bool.true_eq_false not_true_eq_false not_false_eq_true true_implies false_implies ne_eq fillA implies_true true_or or_true List.mem_range List.mem_append List.mem_cons List.not_mem_nil List.flatten_cons List.flatten_nil kill List.foldl_cons List.foldl_nil
theorem Yj5 {k:St→Prop}{Q:Ex→St→Prop}{st:St}:thenQ k Q .normal st=k st:=rfl
theorem Yt6 {k:St→Prop}{Q:Ex→St→Prop}{st:St}{id:Nat}:thenQ k Q (.exit id) st=Q (.exit id) st:=rfl
theorem Yzo {k:St→Prop}{Q:Ex→St→Prop}{st:St}:thenQ k Q .ret st=Q .ret st:=rfl
theorem Yik {id:Nat}{Q:Ex→St→Prop}{st:St}:blockQ id Q .normal st=Q .normal st:=rfl
theorem Yt5 {id:Nat}{Q:Ex→St→Prop}{st:St}:blockQ id Q .ret st=Q .ret st:=rfl
theorem Ynk {id id':Nat}{Q:Ex→St→Prop}{st:St}:blockQ id Q (.exit id') st=if id'=id then Q .normal st else Q (.exit id') st:=rfl
attribute [go_sem ↓] Yj5 Yt6 Yzo Yik Yt5 Ynk
attribute [go_sem] Has
def autoK (l:List IOp):Nat×Nat :=
 (l.foldl (fun n io=>if io.op.makes then n+1 else n) 0,if l.any (fun io=>io.op.cls == 2) then (if l.any (fun io => !io.nw.isEmpty) then 2 else 1) else 0)
def allW:Nat→Nat→Prop:=fun _ _=>True
theorem Y36 {t b:Nat}:allW t b=True:=rfl
theorem Xby {W:Nat→Nat→Prop}{b:Nat}:NoW W b []=True:=rfl
theorem Y5v {W:Nat→Nat→Prop}{b t:Nat}{r:List Nat}:NoW W b (t::r)=(¬ W t b∧NoW W b r):=rfl
attribute [go_sem] Y36 Xby Y5v
def W (P:Program) (nt n0:Nat):CC→St→(Ex→St→Prop)→Prop
 | .skip,st,Q=>Q .normal st
 | .rg false l,st,Q=>iexec P none l (Q .normal) st
 | .rg true l,st,Q=>drawC (autoK l) (T P nt n0 (.rg true l) st Q) (fun k w=>P.follows .mixedOrders=true∧iexec P (some (st.H.length,allW)) l (Q .normal) ⟨st.env,st.H++List.replicate k .unborn⟩)
 | .seq a b,st,Q=>W P nt n0 a st (thenQ (fun st'=>W P nt n0 b st' Q) Q)
 | .cond c a b,st,Q=>condC (c.ev st.env) (W P nt n0 a st Q) (W P nt n0 b st Q)
 | .block id a,st,Q=>W P nt n0 a st (blockQ id Q)
 | .loop a,st,Q=>T P nt n0 (.loop a) st Q
 | .exit id,st,Q=>Q (.exit id) st
 | .ret,st,Q=>Q .ret st
 where
 drawC (k:Nat×Nat) (x:Prop) (y:Nat→Nat→Prop):Prop:=if k.2=2 then x else y k.1 k.2
 condC (c:AV) (x y:Prop):Prop:=match c with
  | .bool t=>if t then x else y
  | _=>False
variable {P:Program} {nt n0:Nat} {st:St} {Q:Ex→St→Prop}
theorem T_W {cc:CC}:∀ {st:St}{Q:Ex→St→Prop},W P nt n0 cc st Q→T P nt n0 cc st Q:=by
 induction cc with
 | skip=>intro st Q h; exact Yyf h
 | rg draw l =>
  intro st Q h
  cases draw with
  | false=>exact T_rg h
  | true =>
   simp only [W,W.drawC] at h
   split at h
   ·exact h
   ·exact Yce h.1 _ _ h.2
 | seq a b iha ihb =>
  intro st Q h
  refine Zbc (Yft (iha h) (fun e st' he=>?_))
  cases e with
  | normal=>exact ihb he
  | exit id=>exact he
  | ret=>exact he
 | cond c a b iha ihb =>
  intro st Q h
  refine Ylb ?_
  simp only [W,W.condC] at h
  cases hc:c.ev st.env with
  | bool t =>
   rw [hc] at h
   cases t with
   | false=>exact ⟨(fun h=>by cases h),fun _=>ihb (by simpa using h)⟩
   | true=>exact ⟨fun _=>iha (by simpa using h),(fun h=>by cases h)⟩
  | _=>rw [hc] at h; exact h.elim
 | block id a iha=>intro st Q h; exact Za8 (iha h)
 | loop a _=>intro st Q h; exact h
 | exit id=>intro st Q h; exact Xeg h
 | ret=>intro st Q h; exact Xf0 h
theorem Xei:W P nt n0 .skip st Q=Q .normal st:=rfl
theorem W_rg {l:List IOp}:W P nt n0 (.rg false l) st Q=iexec P none l (Q .normal) st:=rfl
def drawK (P:Program) (l:List IOp) (K:St→Prop) (e:Nat→AV) (H:Heap) (k w:Nat):Prop:=P.follows .mixedOrders=true∧drawS H k (fun b W H'=>iexec P (some (b,W)) l K ⟨e,H'⟩) allW
 where drawS (H:Heap) (k:Nat) (C:Nat→(Nat→Nat→Prop)→Heap→Prop) (W:Nat→Nat→Prop):Prop:=C H.length W (H++List.replicate k .unborn)
def drawN (b:Nat) (W:Nat→Nat→Prop) (H:Heap) (P:Program) (l:List IOp) (K:St→Prop) (e:Nat→AV):Prop:=iexec P (some (b,W)) l K ⟨e,H⟩
@[congr] theorem Y9x {b b' : Nat} {W W' : Nat → Nat → Prop} {H H' : Heap} {l : List IOp} {K : St → Prop} {e : Nat → AV} (h1 : b = b') (h2 : W = W') (h3 : H = H') : drawN b W H P l K e = drawN b' W' H' P l K e := by rw [h1, h2, h3]
theorem Yym {b:Nat}{W:Nat→Nat→Prop}{H:Heap}{l:List IOp}{K:St→Prop}{e:Nat→AV}:drawN b W H P l K e=iexec P (some (b,W)) l K ⟨e,H⟩:=rfl
theorem Xbz {l:List IOp}{K:St→Prop}{e:Nat→AV}{H:Heap}{k:Nat}:drawK P l K e H k 0=(P.follows .mixedOrders=true∧drawN H.length allW (H++List.replicate k .unborn) P l K e):=rfl
theorem Xa9 {l:List IOp}{K:St→Prop}{e:Nat→AV}{H:Heap}{k:Nat}:drawK P l K e H k 1=(P.follows .mixedOrders=true∧drawN H.length allW (H++List.replicate k .unborn) P l K e):=rfl
theorem Xfg {l:List IOp}{e:Nat→AV}{H:Heap}:W P nt n0 (.rg true l) ⟨e,H⟩ Q=W.drawC (autoK l) (T P nt n0 (.rg true l) ⟨e,H⟩ Q) (drawK P l (Q .normal) e H):=rfl
theorem Xe8 {k:Nat}{x:Prop}{y:Nat→Nat→Prop}:W.drawC (k,0) x y=y k 0:=rfl
theorem Xeh {k:Nat}{x:Prop}{y:Nat→Nat→Prop}:W.drawC (k,1) x y=y k 1:=rfl
theorem Xe6 {k:Nat}{x:Prop}{y:Nat→Nat→Prop}:W.drawC (k,2) x y=x:=rfl
def goW (P:Program) (nt n0:Nat) (b:CC) (Q:Ex→St→Prop) (st:St):Prop:=W P nt n0 b st Q
theorem Y9t {b:CC}{e:Nat→AV}{H:Heap}:goW P nt n0 b Q ⟨e,H⟩=W P nt n0 b ⟨e,H⟩ Q:=rfl
theorem Y51 {a b:CC}:W P nt n0 (.seq a b) st Q=W P nt n0 a st (thenQ (goW P nt n0 b Q) Q):=rfl
theorem Xc5 {c:Ox}{a b:CC}:W P nt n0 (.cond c a b) st Q=W.condC (c.ev st.env) (W P nt n0 a st Q) (W P nt n0 b st Q):=rfl
theorem Xcz {x y:Prop}:W.condC (.bool true) x y=x:=by simp [W.condC]
theorem Xfe {x y:Prop}:W.condC (.bool false) x y=y:=by simp [W.condC]
theorem Y9n {id:Nat}{a:CC}:W P nt n0 (.block id a) st Q=W P nt n0 a st (blockQ id Q):=rfl
theorem Xe3 {a:CC}:W P nt n0 (.loop a) st Q=T P nt n0 (.loop a) st Q:=rfl
theorem Xep {id:Nat}:W P nt n0 (.exit id) st Q=Q (.exit id) st:=rfl
theorem Xgb:W P nt n0 .ret st Q=Q .ret st:=rfl
attribute [go_sem ↓] Y9t Xbz Xa9 Xei W_rg Xfg Y51 Xc5 Y9n Xe3 Xep Xgb
attribute [go_sem] Yym Xe8 Xeh Xe6 Xcz Xfe List.replicate_zero List.reduceReplicate
@[congr] theorem Xfs {cc cc' : CC} (h : cc = cc') : W P nt n0 cc st Q = W P nt n0 cc' st Q := by rw [h]
@[congr] theorem Xg7 {nt' : Nat} {cc : CC} (h : nt = nt') : T P nt n0 cc st Q = T P nt' n0 cc st Q := by rw [h]
@[congr] theorem Y9h {k k' : Nat × Nat} {x : Prop} {y : Nat → Nat → Prop} (h : k = k') : W.drawC k x y = W.drawC k' x y := by rw [h]
@[congr] theorem Y8g {c c' : AV} {x y : Prop} (h : c = c') : W.condC c x y = W.condC c' x y := by rw [h]
theorem Zaf {α:Type}(mk:α→St) (I:α→Prop) (μ:α→Nat) {x:CC}(x0:α) (h0:I x0) (hl:Le nt n0 st (mk x0))
  (round:∀ y,I y→∀ N:St→Prop,(∀ z st',I z→μ z<μ y→Le nt n0 st' (mk z)→N st')→W P nt n0 x (mk y) (thenQ N Q)):T P nt n0 (.loop x) st Q :=
 Ykm mk I μ x0 h0 hl (fun y hy=>T_W (round y hy _ (fun z _ h1 h2 h3=>⟨z,h1,h2,h3⟩)))
def resC (H:Heap) (ag:Option Nat) (a:AV) (C:AV→Prop):Prop:=match a with
 | .ptr b off=>cellsC H[b]? (ldK ag off C)
 | .rp cs=>ldvC ag cs C
 | _=>False
theorem Y8l {H:Heap}{ag:Option Nat}{b off:Nat}{C:AV→Prop}:resC H ag (.ptr b off) C=cellsC H[b]? (ldK ag off C):=rfl
theorem Xcm {H:Heap}{ag:Option Nat}{cs:List AV}{C:AV→Prop}:resC H ag (.rp cs) C=ldvC ag cs C:=rfl
@[congr] theorem Xcc {H : Heap} {ag : Option Nat} {a a' : AV} {C : AV → Prop} (h : a = a') : resC H ag a C = resC H ag a' C := by rw [h]
def resV (r:RV) (e:Nat→AV) (H:Heap) (C:AV→Prop):Prop:=match r with
 | .tmp t=>mkC (e t) C
 | .cell a ag=>resC H ag (e a) C
def resM (rs:List RV) (e:Nat→AV) (H:Heap) (acc:List AV) (C:AV→Prop):Prop:=match rs with
 | []=>mkC (.tup acc) C
 | r::rs=>resV r e H (fun v=>resM rs e H (acc ++ [v]) C)
def resMK (rs:List RV) (e:Nat→AV) (H:Heap) (acc:List AV) (C:AV→Prop) (v:AV):Prop:=resM rs e H (acc ++ [v]) C
theorem Yxa {rs:List RV}{e:Nat→AV}{H:Heap}{acc:List AV}{C:AV→Prop}{v:AV}:resMK rs e H acc C v=resM rs e H (acc ++ [v]) C:=rfl
theorem Y44 {t:Nat}{e:Nat→AV}{H:Heap}{C:AV→Prop}:resV (.tmp t) e H C=mkC (e t) C:=rfl
theorem Y0n {a:Nat}{ag:Option Nat}{e:Nat→AV}{H:Heap}{C:AV→Prop}:resV (.cell a ag) e H C=resC H ag (e a) C:=rfl
theorem Y5k {e:Nat→AV}{H:Heap}{acc:List AV}{C:AV→Prop}:resM [] e H acc C=mkC (.tup acc) C:=rfl
theorem Ywl {r:RV}{rs:List RV}{e:Nat→AV}{H:Heap}{acc:List AV}{C:AV→Prop}:resM (r::rs) e H acc C=resV r e H (resMK rs e H acc C):=rfl
def resA (rs:List RV) (e:Nat→AV) (H:Heap) (C:AV→Prop):Prop:=match rs with
 | [r]=>resV r e H C
 | rs=>resM rs e H [] C
theorem Y37 {r:RV}{e:Nat→AV}{H:Heap}{C:AV→Prop}:resA [r] e H C=resV r e H C:=rfl
theorem Y5m {e:Nat→AV}{H:Heap}{C:AV→Prop}:resA [] e H C=resM [] e H [] C:=rfl
theorem Yzk {r r':RV}{rs:List RV}{e:Nat→AV}{H:Heap}{C:AV→Prop}:resA (r::r'::rs) e H C=resM (r::r'::rs) e H [] C:=rfl
theorem Yqi {r:RV}{e:Nat→AV}{H:Heap}{C:AV→Prop}:resV r e H C→∃ v,RVal ⟨e,H⟩ r v∧C v:=by
 cases r with
 | tmp t=>intro h; exact ⟨_,rfl,h⟩
 | cell a ag =>
  intro h
  simp only [resV,resC] at h
  simp only [RVal]
  split at h
  ·rename_i b off hb
   obtain ⟨l,h1,h2⟩:=Zcc.1 h
   obtain ⟨v,h3,h4⟩:=ldvC_iff.1 h2
   exact ⟨v,by rw [hb]; exact ⟨l,h1,h3⟩,h4⟩
  ·rename_i cs hb
   obtain ⟨v,h3,h4⟩:=ldvC_iff.1 h
   exact ⟨v,by rw [hb]; exact h3,h4⟩
  ·exact h.elim
theorem Y5a {rs:List RV}{e:Nat→AV}{H:Heap}{C:AV→Prop}:∀ {acc:List AV},resM rs e H acc C→∃ vs,RVals ⟨e,H⟩ rs vs∧C (.tup (acc++vs)):=by
 induction rs with
 | nil=>intro acc h; exact ⟨[],trivial,by simpa [resM,mkC] using h⟩
 | cons r rs ih =>
  intro acc h
  obtain ⟨v,h1,h2⟩:=Yqi (C:=fun v=>resM rs e H (acc ++ [v]) C) h
  obtain ⟨vs,h3,h4⟩:=ih h2
  exact ⟨v::vs,⟨h1,h3⟩,by simpa using h4⟩
theorem Zl0 {rs:List RV}{e:Nat→AV}{H:Heap}{C:AV→Prop}(h:resA rs e H C):∃ v,RRes ⟨e,H⟩ rs v∧C v:=by
 unfold resA at h
 split at h
 ·exact Yqi h
 ·rename_i hne
  obtain ⟨vs,h1,h2⟩:=Y5a h
  refine ⟨.tup vs,?_,by simpa using h2⟩
  unfold RRes
  split
  ·rename_i r; exact absurd rfl (hne r)
  ·exact ⟨vs,h1,rfl⟩
def bvK (H:Heap) (r v:AV):Prop:=BV H (allOf H) v r
theorem Xbw {H:Heap}{r v:AV}:bvK H r v=BV H (allOf H) v r:=rfl
def retQ (rs:List RV) (r:AV) (e:Ex) (st:St):Prop:=match e with
 | .exit _=>False
 | _=>resA rs st.env st.H (bvK st.H r)
theorem Y4b {rs:List RV}{r:AV}{e:Nat→AV}{H:Heap}:retQ rs r .ret ⟨e,H⟩=resA rs e H (bvK H r):=rfl
theorem Yon {rs:List RV}{r:AV}{e:Nat→AV}{H:Heap}:retQ rs r .normal ⟨e,H⟩=resA rs e H (bvK H r):=rfl
def eqK (H H':Heap) (r v:AV):Prop:=v=r∧H=H'
theorem Xah {H H':Heap}{r v:AV}:eqK H H' r v=(v=r∧H=H'):=rfl
def retR (rs:List RV) (H':Heap) (r:AV) (e:Ex) (st:St):Prop:=match e with
 | .exit _=>False
 | _=>resA rs st.env st.H (eqK st.H H' r)
theorem Y5j {rs:List RV}{r:AV}{e:Nat→AV}{H H':Heap}:retR rs H' r .ret ⟨e,H⟩=resA rs e H (eqK H H' r):=rfl
theorem Yo1 {rs:List RV}{r:AV}{e:Nat→AV}{H H':Heap}:retR rs H' r .normal ⟨e,H⟩=resA rs e H (eqK H H' r):=rfl
attribute [go_sem ↓] Yxa Y44 Y0n Y5k Ywl Y37 Y5m Yzk Y4b Yon Y5j Yo1 Xbw Xah
attribute [go_sem] Y8l Xcm
theorem Zad {f:Nat}{cc:CC}{rs:List RV}{xs:List AV}{r:AV}(hf:fnOk P f=some (nt,cc,rs)) (hx:xs.length≤nt)
  (h:W P nt 0 cc ⟨argE xs,[]⟩ (retQ rs r)):SpecV P f xs r:=Yqu hf hx (Yft (T_W h) (fun e st he=>by
 cases e with
 | exit id=>exact he.elim
 | normal=>exact ⟨trivial,Zl0 he⟩
 | ret=>exact ⟨trivial,Zl0 he⟩))
theorem Zba {f:Nat}{cc:CC}{rs:List RV}{xs:List AV}{r:AV}(hf:fnOk P f=some (nt,cc,rs)) (hx:xs.length≤nt)
  (h:T P nt 0 cc ⟨argE xs,[]⟩ (retQ rs r)):SpecV P f xs r:=Yqu hf hx (Yft h (fun e st he=>by
 cases e with
 | exit id=>exact he.elim
 | normal=>exact ⟨trivial,Zl0 he⟩
 | ret=>exact ⟨trivial,Zl0 he⟩))
theorem Z05 {f:Nat}{cc:CC}{rs:List RV}{xs:List AV}{r:AV}{H H':Heap}(hf:fnOk P f=some (nt,cc,rs)) (hx:xs.length≤nt)
  (h:W P nt H.length cc ⟨argE xs,H⟩ (retR rs H' r)):SpecR P f H xs r H':=Y4a hf hx (Yft (T_W h) (fun e st he=>by
 cases e with
 | exit id=>exact he.elim
 | normal=>obtain ⟨v,h1,rfl,h2⟩:=Zl0 he; exact ⟨trivial,h1,h2⟩
 | ret=>obtain ⟨v,h1,rfl,h2⟩:=Zl0 he; exact ⟨trivial,h1,h2⟩))
section BVs
variable {H:Heap} {ids:List Nat}
theorem Xe4 {k:IntKind}{n:Int}{y:AV}:BV H ids (.int k n) y=(y = .int k n):=propext ⟨fun h=>by cases h; rfl,fun h=>by subst h; exact .int k n⟩
theorem Y96 {b:Bool}{y:AV}:BV H ids (.bool b) y=(y = .bool b):=propext ⟨fun h=>by cases h; rfl,fun h=>by subst h; exact .bool b⟩
theorem Xdg {b:ByteArray}{y:AV}:BV H ids (.str b) y=(y = .str b):=propext ⟨fun h=>by cases h; rfl,fun h=>by subst h; exact .str b⟩
theorem Xhj {l:List AV}{y:AV}:BV H ids (.sl l) y=(y = .sl l):=propext ⟨fun h=>by cases h; rfl,fun h=>by subst h; exact .sl l⟩
theorem Xf3 {l:List AV}{y:AV}:BV H ids (.rp l) y=(y = .rp l):=propext ⟨fun h=>by cases h; rfl,fun h=>by subst h; exact .rp l⟩
theorem Xbd:BVs H ids [] []=True:=by simp [BVs.nil]
theorem Y3n {x y:AV}{xs ys:List AV}:BVs H ids (x::xs) (y::ys)=(BV H ids x y∧BVs H ids xs ys):=propext ⟨fun h=>by cases h with | cons h t=>exact ⟨h,t⟩,fun h => .cons h.1 h.2⟩
theorem Yw5 {cs ds:List AV}(h:BVs H ids cs ds):ds.length=cs.length∧∀ (i:Nat) (x y:AV),cs[i]? = some x→ds[i]? = some y→BV H ids x y:=Zs9 h
theorem Y65 {cs ds:List AV}(h:BVs H ids cs ds):BV H ids (.agg cs) (.agg ds) := .agg cs ds (Zs9 h).1 (Zs9 h).2
theorem Xdi {cs ds:List AV}(h:BVs H ids cs ds):BV H ids (.tup cs) (.tup ds) := .tup cs ds (Zs9 h).1 (Zs9 h).2
theorem Y00 {cs ds:List AV}:BVs H ids cs ds↔ds.length=cs.length∧∀ (i:Nat) (x y:AV),cs[i]? = some x→ds[i]? = some y→BV H ids x y:=by
 constructor
 ·exact Zs9
 ·induction cs generalizing ds with
  | nil=>intro h; have:ds = []:=List.length_eq_zero_iff.1 (by simpa using h.1); subst this; exact .nil
  | cons x cs ih =>
   intro h
   cases ds with
   | nil=>simp at h
   | cons y ds=>exact .cons (h.2 0 x y rfl rfl) (ih ⟨by simpa using h.1,fun i a b ha hb=>h.2 (i+1) a b (by simpa using ha) (by simpa using hb)⟩)
theorem bv_agg' {cs ds:List AV}:BV H ids (.agg cs) (.agg ds)=BVs H ids cs ds:=propext ⟨fun h=>by cases h with | agg _ _ hl h=>exact Y00.2 ⟨hl,h⟩,Y65⟩
theorem bv_tup' {cs ds:List AV}:BV H ids (.tup cs) (.tup ds)=BVs H ids cs ds:=propext ⟨fun h=>by cases h with | tup _ _ hl h=>exact Y00.2 ⟨hl,h⟩,Xdi⟩
theorem Xfb {b off len:Nat}{l r:List AV}(hb:H[b]? = some (.cells l)) (hi:b∈ids) (hr:r.length=len) (hlen:off+len≤l.length) (hc:∀ x,x∈r→x.cells.length=1)
  (h:∀ (i:Nat) (x y:AV),r[i]? = some x→x.cells = [y]→∀ z,l[off+i]? = some z→BV H ids z y):BV H ids (.osl none b off len) (.sl r):=by
 refine .osl none b off len l r hb hi hr hc (by simpa [es] using hlen) (fun i x j y z hx hy hz=>?_)
 have hx1:=hc x (List.mem_of_getElem? hx)
 obtain ⟨y',hy'⟩:∃ y',x.cells = [y']:=List.length_eq_one_iff.1 hx1
 rw [hy'] at hy
 cases j with
 | succ j=>simp at hy
 | zero =>
  simp only [List.getElem?_cons_zero,Option.some.injEq] at hy
  subst hy
  exact h i x _ hx hy' z (by simpa [es] using hz)
theorem Yw3 {α:Type}{b off len:Nat}{k:IntKind}{f:α→Int}{l:List AV}{r:List α}(hb:H[b]? = some (.cells l)) (hi:b∈ids) (hr:r.length=len) (hl:(l.drop off).take len=r.map (fun x => .int k (f x))) :
  BV H ids (.osl none b off len) (.sl (r.map (fun x => .int k (f x)))):=by
 have hlen:((l.drop off).take len).length=len:=by rw [hl]; simpa using hr
 rw [List.length_take,List.length_drop] at hlen
 rcases Nat.eq_zero_or_pos len with h0 | h0
 ·subst h0
  have:r = []:=List.length_eq_zero_iff.1 hr
  subst this
  exact .osl0 none b off
 ·refine Xfb hb hi (by simpa using hr) (by omega) (fun x hx=>?_) (fun i x y hx hy z hz=>?_)
  ·obtain ⟨n,_,rfl⟩:=List.mem_map.1 hx; rfl
  ·have hi':i<len:=by have:=(List.getElem?_eq_some_iff.1 hx).1; simp at this; omega
   have:((l.drop off).take len)[i]? = some z:=by rw [List.getElem?_take_of_lt hi',List.getElem?_drop]; exact hz
   rw [hl,hx] at this
   cases this
   rw [List.getElem?_map] at hx
   obtain ⟨n,_,rfl⟩:=Option.map_eq_some_iff.1 hx
   simp only [AV.cells,List.cons.injEq,and_true] at hy
   subst hy
   exact .int k _
end BVs
theorem Xek {H:Heap}{ids:List Nat}{t:TypeId}{x y:AV}:BV H ids (.ifc t x) (.ifc t y)=BV H ids x y:=propext ⟨fun h=>by cases h with | ifc _ _ _ h=>exact h,fun h => .ifc t x y h⟩
attribute [go_sem] Xek
attribute [go_sem] Y0v exists_eq_left List.length_map Xe4 Y96 Xdg Xhj Xf3 Xbd Y3n bv_agg' bv_tup' AV.int.injEq AV.bool.injEq AV.str.injEq AV.sl.injEq AV.agg.injEq AV.tup.injEq eq_self
end GoAbs
