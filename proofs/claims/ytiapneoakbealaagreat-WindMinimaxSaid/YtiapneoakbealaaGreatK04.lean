/- Lemmas for the claim (contracts of the functions that it reaches, and what they compute), without conditions. -/
import Derived.Test.YtiapneoakbealaaGreatK03
set_option linter.unusedVariables false
set_option linter.unusedSimpArgs false
set_option maxRecDepth 10000
set_option maxHeartbeats 2000000
namespace GoAbs
open Go Go.RowKit
def cL:Value→Option AV
 | .int k n=>some (.int k n)
 | .bool b=>some (.bool b)
 | .string s=>some (.str s)
 | .slice none 0 0=>some .nils
 | .pointer none=>some .nilp
 | .nilIface=>some .nilif
 | .nilFunc=>some .nilfn
 | _=>none
def cLs:List Value→Option (List AV)
 | []=>some []
 | v::r=>match cL v,cLs r with
  | some x,some xs=>some (x::xs)
  | _,_=>none
def cV:Value→Option AV
 | .agg cs=>(cLs cs.toList).map .agg
 | v=>cL v
def cOx:Operand→Option Ox
 | .tmp t=>some (.t t)
 | .const v=>(cV v).map .c
 | .func f=>some (.c (.fn f [] []))
 | .global _=>none
def cOxs:List Operand→Option (List Ox)
 | []=>some []
 | x::r=>match cOx x,cOxs r with
  | some y,some ys=>some (y::ys)
  | _,_=>none
def zeroOf (P:Program) (t:TypeId):Option (List AV) :=
 match P.info? t with
 | some i=>match i.zero with
  | some z=>match cV z with
   | some x=>if x.cells.length=i.size then some x.cells else none
   | none=>none
  | none=>none
 | none=>none
def sizeOf? (P:Program) (t:TypeId):Option Nat:=(P.info? t).map (·.size)
def agOf (P:Program) (t:TypeId):Option (Option Nat) :=
 match P.underlying t,P.info? t with
 | some (.struct _),some i=>some (some i.size)
 | some (.array _ _),some i=>some (some i.size)
 | some _,some i=>if i.size=1 then some none else none
 | _,_=>none
def ok? {α:Type}(b:Bool) (x:α):Option α:=if b then some x else none
def cParts (f:Nat→Option (Nat×Nat)) (n:Nat):List (Nat×Operand)→Option (List (Nat×Nat×Ox))
 | []=>some []
 | (i,x)::r=>match f i,cOx x,cParts f n r with
  | some (o,s),some y,some l=>if o+s≤n then some ((o,s,y)::l) else none
  | _,_,_=>none
def cParts2 (n:Nat):List (Nat×Operand)→Option (List (Nat×Ox))
 | []=>some []
 | (i,x)::r=>match cOx x,cParts2 n r with
  | some y,some l=>if i<n then some ((i,y)::l) else none
  | _,_=>none
def callOk (P:Program) (f:Nat):Bool :=
 match P.funcs[f]? with
 | some fn => fn.body.isSome && !(fn.name == "runtime.NumGoroutine")
 | none=>false
def zeroAV (P:Program) (t:TypeId):Option AV :=
 match P.info? t with
 | some i=>match i.zero with
  | some z=>cV z
  | none=>none
 | none=>none
def methAt (P:Program) (name:String) (t:TypeId):Option (TypeId×Nat) :=
 match P.info? t,P.underlying t with
 | some i,some (.struct _)=>match i.methods.find? (·.name == name) with
  | some m=>if m.path.toList.isEmpty then (match m.func with
   | some (f,false)=>if callOk P f then some (t,f) else none
   | _=>none) else none
  | none=>none
 | _,_=>none
def methTbl (P:Program) (name:String):List (TypeId×Nat):=(List.range P.types.size).filterMap (methAt P name)
def cOO:Option Operand→Option (Option Ox)
 | none=>some none
 | some x=>(cOx x).map some
def cCall (P:Program) (c:Call):Option COp :=
 match c.callee with
 | .value (.func f)=>match cOxs c.args.toList with
  | some xs=>if callOk P f then some (.call f xs) else some (.xt f xs)
  | none=>none
 | .value x=>match cOx x,cOxs c.args.toList with
  | some y,some xs=>some (.callv y xs)
  | _,_=>none
 | .invoke x name=>match cOx x,cOxs c.args.toList with
  | some y,some xs=>some (.inv (methTbl P name) y xs)
  | _,_=>none
 | .builtin .len=>match c.argTypes[0]?,c.args.toList with
  | some t,[x]=>match P.underlying t,cOx x with
   | some .string,some y=>some (.slen y)
   | some (.slice _),some y=>some (.len y)
   | _,_=>none
  | _,_=>none
 | .builtin .min=>match cOxs c.args.toList with
  | some [x,y]=>some (.mn x y)
  | _=>none
 | .builtin .max=>match cOxs c.args.toList with
  | some [x,y]=>some (.mx x y)
  | _=>none
 | .builtin .append=>match c.argTypes.toList,cOxs c.args.toList with
  | [t,u],some [s,x]=>match P.underlying t with
   | some (.slice el)=>match agOf P el,P.info? el,zeroOf P el with
    | some ek,some i,some zs=>if t=u∧zs.length=es ek∧0<zs.length∧0<i.bytes then some (.app ek i.bytes s x) else none
    | _,_,_=>none
   | _=>none
  | _,_=>none
 | .builtin .copy=>match c.argTypes[0]?,cOxs c.args.toList with
  | some t,some [d,x]=>match P.underlying t with
   | some (.slice el)=>match sizeOf? P el with
    | some n=>if 0<n then some (.cpy n d x) else none
    | none=>none
   | _=>none
  | _,_=>none
 | _=>none
def cOp (P:Program):Op→Option COp
 | .move x | .assign x=>(cOx x).map .mv
 | .pick c a b=>match cOx c,cOx a,cOx b with
  | some x,some y,some z=>some (.pick x y z)
  | _,_,_=>none
 | .alloc t=>(zeroOf P t).map .alloc
 | .box _ x=>(cOx x).map .box
 | .build t parts=>match P.underlying t,zeroOf P t with
  | some (.struct fs),some zs=>match fs.toList.mapM (fun f=>(P.info? f.type).map fun i=>(f.offset,i.size)) with
   | some places=>match cParts (places.toArray[·]?) zs.length parts.toList with
    | some l=>some (.build zs l)
    | none=>none
   | none=>none
  | some (.array _ el),some zs=>match P.info? el with
   | some ie=>match cParts (fun i=>some (i*ie.size,ie.size)) zs.length parts.toList with
    | some l=>some (.build zs l)
    | none=>none
   | none=>none
  | _,_=>none
 | .buildSlice t n parts=>match P.underlying t with
  | some (.slice el)=>match agOf P el,zeroOf P el,cParts2 n parts.toList with
   | some ek,some zs,some l=>if n*zs.length≤16777216∧0<zs.length∧zs.length=es ek then some (.bsl ek n zs l) else none
   | _,_,_=>none
  | _=>none
 | .load t a=>match agOf P t,cOx a with
  | some ag,some x=>some (.ld ag x)
  | _,_=>none
 | .store t a x=>match sizeOf? P t,cOx a,cOx x with
  | some n,some y,some z=>some (.st n y z)
  | _,_,_=>none
 | .nilCheck x=>(cOx x).map .nilck
 | .binOp o t x y _=>match cOx x,cOx y with
  | some a,some b=>match P.underlying t,o with
   | some .bool,.eql=>some (.beq false a b)
   | some .bool,.neq=>some (.beq true a b)
   | some (.int _),_=>some (.bin o a b)
   | some .string,_=>some (.bin o a b)
   | _,_=>none
  | _,_=>none
 | .unOp o _ x=>(cOx x).map (.un o)
 | .convert s d x=>match P.underlying s,P.underlying d,cOx x with
  | some _,some (.int k),some y=>some (.cvi k y)
  | some .string,some .string,some y=>some (.cvs y)
  | some (.slice el),some .string,some y=>match P.underlying el with
   | some (.int .u8)=>some (.b2s y)
   | _=>none
  | _,_,_=>none
 | .makeSlice t l c=>match P.underlying t with
  | some (.slice el)=>match agOf P el,zeroOf P el,P.info? el,cOx l,cOx c with
   | some ek,some zs,some i,some x,some y=>if zs.length=es ek∧0<zs.length∧0<i.bytes then some (.mks ek i.bytes zs x y) else none
   | _,_,_,_,_=>none
  | _=>none
 | .slice t x lo hi none=>match P.underlying t,cOx x,cOO lo,cOO hi with
  | some .string,some y,some a,some b=>some (.sslc y a b)
  | some (.slice el),some y,some a,some b=>(sizeOf? P el).map fun n => .slc n y a b
  | _,_,_,_=>none
 | .fieldAddr t x i=>match P.underlying t,cOx x with
  | some (.struct fs),some y=>match fs[i]? with
   | some f=>match sizeOf? P f.type with
    | some (_+1)=>some (.fa f.offset y)
    | _=>none
   | none=>none
  | _,_=>none
 | .field t x i=>match P.underlying t,cOx x with
  | some (.struct fs),some y=>match fs[i]? with
   | some f=>(agOf P f.type).map fun ag => .fld ag f.offset y
   | none=>none
  | _,_=>none
 | .indexAddr t x i=>match P.underlying t,cOx x,cOx i with
  | some (.slice el),some y,some j=>(sizeOf? P el).map fun n => .idx n y j
  | some (.array len el),some y,some j=>(sizeOf? P el).map fun n => .idxa n len y j
  | _,_,_=>none
 | .index t x i=>match P.underlying t,cOx x,cOx i with
  | some .string,some y,some j=>some (.sidx y j)
  | _,_,_=>none
 | .extract x i=>(cOx x).map (.ext i)
 | .call c=>cCall P c
 | .makeInterface t x=>match P.underlying t,cOx x with
  | some (.interface _),_=>none
  | some _,some y=>some (.mki t y)
  | _,_=>none
 | .typeAssert x _ t ok=>match P.underlying t,zeroAV P t,cOx x with
  | some (.interface _),_,_=>none
  | some _,some z,some y=>some (.ta t ok z y)
  | _,_,_=>none
 | .makeFunc (.func f) first cap=>match cOxs first.toList,cOxs cap.toList with
  | some a,some b=>some (.mkf f a b)
  | _,_=>none
 | _=>none
def cOps (P:Program) (nt:Nat) (ops:Array Oper):Nat→List Oper→Option (List IOp)
 | _,[]=>some []
 | n,o::r =>
   let c:=(cOp P o.op).getD .bad
   let gd:Option (Option (Nat×Bool)):=match o.guard with
    | none=>some none
    | some (j,w)=>match ops[j]? with
     | some oj=>oj.dst.map fun d=>some (d,w)
     | none=>none
   match gd,cOps P nt ops (if c.makes then n+1 else n) r with
   | some g,some l=>if (match o.dst with | some d=>decide (d<nt) | none=>true) then some ({ dst:=o.dst,op:=c,id:=n,guard:=g }::l) else none
   | _,_=>none
def COp.ends (en:Nat→Bool):COp→Bool
 | .call f _=>en f
 | _=>false
def endFn (P:Program) (f:Nat):Bool :=
 match P.funcs[f]? with
 | some fn => fn.name == "(gamp/spring.net).matrix" || fn.name == "(gamp/linear.Matrix).Solve"
 | none=>false
def COp.isApp:COp→Bool
 | .app .. => true
 | _=>false
def withU (l:List IOp):List IOp:=if l.any (·.op.isApp) then l.map fun io=>{ io with op:=io.op.toU } else l
def withOks (en:Nat→Bool) (bf:Array Nat) (l0:List IOp):List IOp :=
 let l:=withU l0
 l.zipIdx.map fun (io,j)=>{ io with
  op:=if l.zipIdx.all (fun (_,i)=>i == j || (bf.getD j 0).testBit i || (bf.getD i 0).testBit j) then io.op.toW else if io.op.ends en then io.op.toE else io.op
  id:=if io.op.ends en then l.countP (·.op.makes) else io.id
  oks:=l.zipIdx.filterMap fun (a,i)=>if a.op.makes && (bf.getD j 0).testBit i then some a.id else none
  nw:=if io.op.cls == 1 then l.zipIdx.filterMap fun (a,i)=>if (a.op.cls == 2 || a.op.cls == 5) && i != j && !(bf.getD j 0).testBit i && !(bf.getD i 0).testBit j then some a.id else none else [] }
def cRegion (P:Program) (nt:Nat) (ops:Array Oper) (draw:Bool):Option (List IOp) :=
 match cOps P nt ops 0 ops.toList with
 | none=>none
 | some l=>if draw then
   let bf:=Region.before ops
   let l':=withOks (endFn P) bf l
   if drawOk ops l' bf then some l' else none
  else some l
def cCode (P:Program) (nt:Nat):Code→Option CC
 | .skip=>some .skip
 | .region _ ops draw=>(cRegion P nt ops draw).map (.rg draw)
 | .seq a b=>match cCode P nt a,cCode P nt b with
  | some x,some y=>some (.seq x y)
  | _,_=>none
 | .cond c a b=>match cOx c,cCode P nt a,cCode P nt b with
  | some o,some x,some y=>some (.cond o x y)
  | _,_,_=>none
 | .block id a=>(cCode P nt a).map (.block id)
 | .loop a=>(cCode P nt a).map .loop
 | .exit id=>some (.exit id)
 | .ret=>some .ret
 | _=>none
end GoAbs
