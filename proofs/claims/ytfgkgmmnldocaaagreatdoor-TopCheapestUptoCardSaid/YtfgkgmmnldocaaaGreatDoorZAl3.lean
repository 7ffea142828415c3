/- Al3 -/
import Derived.Test.YtfgkgmmnldocaaaGreatDoorZAl1
set_option linter.unusedSectionVars false
set_option linter.unusedSimpArgs false
set_option linter.unusedVariables false
namespace Go.AL
variable[Mode]
def la:List Operand→Option (List cJ)
 |[]=>some []
 |x::r=>match dp x,la r with
  |some y,some ys=>some (y::ys)
  |_,_=>none
def r7:Option Operand→Option (Option cJ)
 |none=>some none
 |some x=>(dp x).map some
def fX(P:Program)(t:TypeId):Option Bool:=
 match P.underlying t with
 |some (.struct _)=>some true
 |some (.array _ _)=>some true
 |some _=>some false
 |none=>none
def er(P:Program)(t:TypeId):Option Nat:=(P.info? t).map (·.size)
def r6(P:Program)(fields:Array Field):List (Nat×Operand)→Option (List (Nat×Nat×cJ))
 |[]=>some []
 |(i,x)::r=>match fields[i]?,dp x,r6 P fields r with
  |some f,some y,some ys=>match er P f.type with
   |some n=>some ((f.offset,n,y)::ys)
   |none=>none
  |_,_,_=>none
def oI:List (Nat×Operand)→Option (List (Nat×cJ))
 |[]=>some []
 |(i,x)::r=>match dp x,oI r with
  |some y,some ys=>some ((i,y)::ys)
  |_,_=>none
def xc(P:Program)(t:TypeId):Option (TypeId×Nat×List V):=
 match P.underlying t with
 |some (.slice q)=>match P.info? q with
  |some i=>match(i.zero.bind V.j9).bind V.cells? with
   |some zero=>if zero.length=i.size∧0<i.size then some (q,i.size,zero)else none
   |none=>none
  |none=>none
 |_=>none
def tK(P:Program)(b:Builtin)(args:List cJ)(argTypes:List TypeId):Option jD:=
 match b,args,argTypes with
 | .len,[x],[t]=>match P.underlying t with
   |some .string=>some (.vP x)
   |some (.slice _)=>some (.t_ x)
   |_=>none
 | .min,[x,y],_=>some (.lJ true x y)
 | .max,[x,y],_=>some (.lJ false x y)
 |_,_,_=>none
def DJ(P:Program)(c:Call):Option jD:=
 match la c.args.toList with
 |none=>none
 |some l=>match c.callee with
  | .builtin b=>tK P b l c.argTypes.toList
  |_=>none
def oK(k:Nat)(z:cJ):Bool:=match z,k with
 | .c .aM,0=>true
 | .c .nilPtr,1=>true
 | .c .nilIface,2=>true
 | .c .jN,3=>true
 | .c .fp,4=>true
 |_,_=>false
def jZ(k:Nat)(op:BinOp)(x y:cJ):Option jD:=
 match op with
 | .eql=>if oK k y then some (.isNil k false x)else if oK k x then some (.isNil k false y)else none
 | .neq=>if oK k y then some (.isNil k true x)else if oK k x then some (.isNil k true y)else none
 |_=>none
def AJ(P:Program)(o:Oper):Option jD:=
 match o.op with
 | .move x=>(dp x).map .mv
 | .assign x=>(dp x).map .mv
 | .pick c a b=>match dp c,dp a,dp b with
   |some c,some a,some b=>some (.pick c a b)
   |_,_,_=>none
 | .binOp op t x y _=>match dp x,dp y with
   |some x,some y=>match P.underlying t with
    |some (.int _)=>some (.bin op x y)
    |some .string=>some (.bin op x y)
    |some .bool=>match op with
     | .eql=>some (.Pw false x y)
     | .neq=>some (.Pw true x y)
     |_=>none
    |some (.slice _)=>jZ 0 op x y
    |some (.pointer _)=>jZ 1 op x y
    |some (.interface _)=>jZ 2 op x y
    |some (.func _ _ _)=>jZ 3 op x y
    |some (.map _ _)=>jZ 4 op x y
    |_=>none
   |_,_=>none
 | .nilCheck x=>(dp x).map .gX
 | .makeInterface t x=>if P.concrete t then(dp x).map (.mkIf t)else none
 | .typeAssert x _ t ok=>match dp x,P.concrete t,(P.info? t).bind (·.zero)with
   |some x,true,some z=>(V.j9 z).map fun z=>.ZG t z ok x
   |_,_,_=>none
 | .unOp .not _ x=>(dp x).map .not
 | .unOp .neg _ x=>(dp x).map .neg
 | .index t x i=>match P.underlying t,dp x,dp i with
   |some .string,some x,some i=>some (.qS x i)
   |some (.array len e),some x,some i=>match fX P e,er P e with
    |some false,some 1=>some (.CJ len x i)
    |_,_=>none
   |_,_,_=>none
 | .indexAddr t x i=>match P.underlying t,dp x,dp i with
   |some (.slice e),some x,some i=>(er P e).map fun n=>.mM n x i
   |some (.array len e),some x,some i=>(er P e).map fun n=>.pN len n x i
   |_,_,_=>none
 | .fieldAddr t x i=>match P.underlying t,dp x with
   |some (.struct fields),some x=>match fields[i]? with
    |some f=>match er P f.type with
     |some (_+1)=>some (.nu f.offset x)
     |_=>none
    |none=>none
   |_,_=>none
 | .load t x=>match dp x,fX P t with
   |some x,some true=>(er P t).map fun n=>.D_ n x
   |some x,some false=>some (.ld1 x)
   |_,_=>none
 | .field t x i=>match P.underlying t,dp x with
   |some (.struct fields),some x=>match fields[i]? with
    |some f=>match fX P f.type with
     |some true=>(er P f.type).map fun n=>.FK f.offset n x
     |some false=>some (.KF f.offset x)
     |none=>none
    |none=>none
   |_,_=>none
 | .convert src dst x=>match P.underlying src,P.underlying dst,dp x with
   |some (.int _),some (.int k),some x=>some (.conv k x)
   |some (.slice q),some .string,some x=>match P.underlying q with
    |some (.int .u8)=>some (.QO x)
    |_=>none
   |_,_,_=>none
 | .extract x i=>(dp x).map fun x=>.ext i x
 | .build t parts=>match P.underlying t,P.info? t with
   |some (.struct fields),some i=>match i.zero with
    |some z=>match V.j9 z,r6 P fields parts.toList,fields.all (fun f=>(er P f.type).isSome)with
     |some (.agg vs),some ps,true=>if vs.all V.dK then some (.build vs ps)else none
     |_,_,_=>none
    |none=>none
   |_,_=>none
 | .box _ x=>(dp x).map .K6
 | .buildSlice t n parts=>match xc P t,oI parts.toList with
   |some (_,sz,zero),some ps=>if n*sz≤2^24 then some (.XS sz zero n ps)else none
   |_,_=>none
 | .makeFunc fn first cap=>match fn,la first.toList,la cap.toList with
   | .func f,some a,some b=>some (.tY f a b)
   |_,_,_=>none
 | .slice t x lo hi mx=>match mx,P.underlying t,dp x,r7 lo,r7 hi with
   |none,some .string,some x,some lo,some hi=>some (.Te x lo hi)
   |none,some (.slice e),some x,some lo,some hi=>(er P e).map fun n=>.w_ n x lo hi
   |_,_,_,_,_=>none
 | .call c=>DJ P c
 |_=>none
def PK(P:Program)(src dst:TypeId):Option XOp:=
 match P.underlying src,P.underlying dst with
 |some (.pointer t),some .unsafePointer=>match P.info? t with
  |some j=>if j.size=0 then none else some .toU
  |none=>none
 |some .unsafePointer,some (.pointer u)=>match P.info? u with
  |some j=>if j.size=0 then none else some (.frU u j.size)
  |none=>none
 |_,_=>none
def pU(P:Program)(t:TypeId):Option nZ:=match P.underlying t with
 |some (.int k)=>some (.int k)
 |some .string=>some .str
 |_=>none
def lM(P:Program):List Field→Nat→Option (List nZ)
 |[],_=>some []
 |f::r,n=>match pU P f.type,lM P r (n+1)with
  |some k,some l=>if f.offset=n∧fX P f.type=some false∧(f.name== "_")=false then some (k::l)else none
  |_,_=>none
def lL(P:Program)(t:TypeId):Option (List nZ):=match P.underlying t with
 |some (.struct fs)=>if P.stoodInHeld t=false then lM P fs.toList 0 else none
 |_=>none
def n5(P:Program)(t:TypeId):Option KD:=match pU P t with
 |some k=>some (.one k)
 |none=>(lL P t).map .st
def zeroV(P:Program)(t:TypeId):Option V:=match P.info? t with
 |some i=>i.zero.bind V.j9
 |none=>none
def Cz(P:Program)(t:TypeId):Option (List nZ):=match P.underlying t with
 |some (.array n e)=>match pU P e with
  |some k=>if fX P e=some false∧P.cellsOf e=1 then some (List.replicate n k)else none
  |none=>none
 |_=>none
def pz:List (Nat×Operand)→Option (List (Nat×Nat×cJ))
 |[]=>some []
 |(i,x)::r=>match dp x,pz r with
  |some x,some l=>some ((i,1,x)::l)
  |_,_=>none
def PM(P:Program)(o:Oper):jD:=
 match o.op with
 | .binOp op t x y _=>match P.underlying t,dp x,dp y with
   |some (.pointer u),some x,some y=>match op,P.info? u with
    | .eql,some j=>if j.size=0 then .xo .stuck []else .xo (.eqP false) [x,y]
    | .neq,some j=>if j.size=0 then .xo .stuck []else .xo (.eqP true) [x,y]
    |_,_=>.xo .stuck []
   |some (.struct _),some x,some y=>match op,lL P t,P.eqGuardType P.depth t with
    | .eql,some l,false=>.xo (.Pz l false) [x,y]
    | .neq,some l,false=>.xo (.Pz l true) [x,y]
    |_,_,_=>.xo .stuck []
   |some (.array _ _),some x,some y=>match op,Cz P t,P.eqGuardType P.depth t with
    | .eql,some l,false=>.xo (.Pz l false) [x,y]
    | .neq,some l,false=>.xo (.Pz l true) [x,y]
    |_,_,_=>.xo .stuck []
   |_,_,_=>.xo .stuck []
 | .build t parts=>match P.underlying t,P.info? t,pz parts.toList with
   |some (.array _ e),some i,some ps=>match i.zero.bind V.j9,er P e with
    |some (.agg vs),some 1=>if vs.all V.dK then .build vs ps else .xo .stuck []
    |_,_=>.xo .stuck []
   |_,_,_=>.xo .stuck []
 | .lookup t m k ok=>match P.underlying t,dp m,dp k with
   |some (.map kt et),some m,some k=>match n5 P kt,zeroV P et with
    |some kd,some z=>.xo (.lk kd z ok) [m,k]
    |_,_=>.xo .stuck []
   |_,_,_=>.xo .stuck []
 | .entry x=>match dp x with
   |some x=>.xo .ent [x]
   |none=>.xo .stuck []
 | .convert src dst x=>match PK P src dst,dp x with
   |some op,some x=>.xo op [x]
   |none,some x=>match P.underlying src,P.underlying dst with
    |some .string,some (.slice q)=>match P.underlying q with
     |some (.int .u8)=>.xo .s2b [x]
     |_=>.xo .stuck []
    |_,_=>.xo .stuck []
   |_,_=>.xo .stuck []
 | .call c=>match c.callee,c.args.toList with
   | .builtin .unsafeSliceData,[x]=>match dp x with
     |some x=>.xo .Tg [x]
     |none=>.xo .stuck []
   | .builtin .len,[x]=>match c.argTypes.toList,dp x with
     |[t],some x=>match P.underlying t with
      |some (.map _ _)=>.xo .TX [x]
      |_=>.xo .stuck []
     |_,_=>.xo .stuck []
   |_,_=>.xo .stuck []
 | .slice t x none (some h) (some m)=>match P.underlying t,dp x,dp h,dp m with
   |some (.slice e),some x,some h,some m=>match er P e with
    |some n=>.xo (.sl3 n) [x,h,m]
    |none=>.xo .stuck []
   |_,_,_,_=>.xo .stuck []
 |_=>.xo .stuck []
def F0(P:Program)(o:Oper):Option jD:=
 match AJ P o with
 |some a=>some a
 |none=>some (PM P o)
def Yields(P:Program)(o:Oper)(a:Act)(ρ:Place)(S:ae)(w:World)(v:V):Prop:=
 ∃u w',(execOp a.eval o).run P w= .ok (.value u) w'∧VR ρ S w' false v u∧Ext ρ S w ρ S w'∧Inv ρ S w'
section
variable{P:Program}{o:Oper}{a:Act}{ρ:Place}{S:ae}{w:World}{e:Nat→V}{v:V}
theorem Yields.same{u:Value}(hi:Inv ρ S w)(hr:(execOp a.eval o).run P w= .ok (.value u) w)(hv:VR ρ S w false v u):Yields P o a ρ S w v:=
 ⟨u,w,hr,hv,Ext.refl _ _ _,hi⟩
theorem VR.ofBool{c d:Bool}(h:c=d):VR ρ S w false (.bool c) (.bool d):=by subst h;exact .bool
theorem MN{op:BinOp}{t:TypeId}{k k':IntKind}{i j:Int}(h:oa op k i k' j=some v):∃u,(binOp op t (.int k i) (.int k' j)).run P w= .ok u w∧VR ρ S w false v u:=by
 unfold oa at h;split at h
 ·rename_i hk;subst hk;cases op<;>simp only[reduceCtorEq,aa]at h
  case quo=>
   split at h
   ·cases h
   ·rename_i hj;simp only[aa]at h;subst h;exact⟨.int k (k.wrap (i.tdiv j)),by simp[binOp,Op.intDiv,hj],.int⟩
  case rem=>
   split at h
   ·cases h
   ·rename_i hj;simp only[aa]at h;subst h;exact⟨.int k (i.tmod j),by simp[binOp,Op.intDiv,hj],.int⟩
  case add=>subst h;exact⟨.int k (k.wrap (i+j)),by simp[binOp,Op.intArith],.int⟩
  case sub=>subst h;exact⟨.int k (k.wrap (i-j)),by simp[binOp,Op.intArith],.int⟩
  case mul=>subst h;exact⟨.int k (k.wrap (i*j)),by simp[binOp,Op.intArith],.int⟩
  case and=>subst h;exact⟨.int k (k.wrap ((BitVec.ofInt k.bits i&&&BitVec.ofInt k.bits j).toNat)),by simp[binOp,Op.intBits],.int⟩
  case or=>subst h;exact⟨.int k (k.wrap ((BitVec.ofInt k.bits i|||BitVec.ofInt k.bits j).toNat)),by simp[binOp,Op.intBits],.int⟩
  case xor=>subst h;exact⟨.int k (k.wrap ((BitVec.ofInt k.bits i^^^BitVec.ofInt k.bits j).toNat)),by simp[binOp,Op.intBits],.int⟩
  case andNot=>subst h;exact⟨.int k (k.wrap ((BitVec.ofInt k.bits i&&& ~~~(BitVec.ofInt k.bits j)).toNat)),by simp[binOp,Op.intBits],.int⟩
  case eql=>subst h;exact⟨.bool (i==j),by simp[binOp,Op.intCmp],VR.ofBool (by rw[fR];simp)⟩
  case neq=>subst h;exact⟨.bool (i !=j),by simp[binOp,Op.intCmp],VR.ofBool (by rw[fR];simp)⟩
  case lss=>subst h;exact⟨.bool (decide (i<j)),by simp[binOp,Op.intCmp],.bool⟩
  case leq=>subst h;exact⟨.bool (decide (i≤j)),by simp[binOp,Op.intCmp],.bool⟩
  case gtr=>subst h;exact⟨.bool (decide (j<i)),by simp[binOp,Op.intCmp],.bool⟩
  case geq=>subst h;exact⟨.bool (decide (j≤i)),by simp[binOp,Op.intCmp],.bool⟩
 ·cases h
theorem vh{left:Bool}{t:TypeId}{k k':IntKind}{i j:Int}(h:jL left k i j=some v):∃u,(binOp (if left then .shl else .shr) t (.int k i) (.int k' j)).run P w= .ok u w∧VR ρ S w false v u:=by
 unfold jL at h;split at h
 ·rename_i hj;simp only[aa]at h;subst h;have hn:¬j<0:=by omega
  cases left
  ·exact⟨_,by simp[binOp,Op.shift,hn],.int⟩
  ·exact⟨_,by simp[binOp,Op.shift,hn],.int⟩
 ·cases h
theorem MM{op:BinOp}{t:TypeId}{x y:V}{p q:Value}(hx:VR ρ S w false x p)(hy:VR ρ S w false y q)(h:dW op x y=some v):
 ∃u,(binOp op t p q).run P w= .ok u w∧VR ρ S w false v u∧((∃k n,p= .int k n)∨∃s,p= .string s):=by
 unfold dW at h;split at h
 ·rename_i k i k' j;have ep:=hx.cL;have eq:=hy.cL;subst ep eq;split at h
  ·obtain⟨u,h1,h2⟩:=vh (P:=P) (ρ:=ρ) (S:=S) (w:=w) (t:=t) (k':=k') h;exact⟨u,h1,h2,.inl ⟨_,_,rfl⟩⟩
  ·obtain⟨u,h1,h2⟩:=vh (P:=P) (ρ:=ρ) (S:=S) (w:=w) (t:=t) (k':=k') h;exact⟨u,h1,h2,.inl ⟨_,_,rfl⟩⟩
  ·obtain⟨u,h1,h2⟩:=MN (P:=P) (ρ:=ρ) (S:=S) (w:=w) (t:=t) h;exact⟨u,h1,h2,.inl ⟨_,_,rfl⟩⟩
 ·rename_i l m;obtain⟨s,rfl,hs,_⟩:=hx.kX;obtain⟨s',rfl,iV,_⟩:=hy.kX;have e1:s.toList=l:=by rw[ByteArray.toList_eq,hs]
  have e2:s'.toList=m:=by rw[ByteArray.toList_eq,iV]
  cases op<;>simp only[reduceCtorEq,aa]at h
  case add=>
   split at h
   ·rename_i hl;simp only[aa]at h;subst h;have hz:s.size+s'.size≤maxLen:=by
     have a1:s.size=l.length:=by rw[←hs,bP];rfl
     have a2:s'.size=m.length:=by rw[←iV,bP];rfl
     omega
    refine⟨.string (s++s'),?_,.str (by rw[←hs,←iV];simp) (by rw[ByteArray.size_append];exact hz),.inr ⟨_,rfl⟩⟩;have hn:¬((s.size+s'.size:Nat):Int)>IntKind.i64.max:=by
     have h63:IntKind.i64.max=9223372036854775807:=by decide
     rw[h63];unfold maxLen at hz;omega
    simp only[binOp,Op.stringOp,aC hn];rfl
   ·cases h
  case eql=>subst h;exact⟨.bool (l==m),by simp[binOp,Op.stringOp,e1,e2],VR.ofBool (by rw[fR];simp),.inr ⟨_,rfl⟩⟩
  case neq=>subst h;exact⟨.bool (!(l==m)),by simp[binOp,Op.stringOp,e1,e2],VR.ofBool (by rw[fR];simp),.inr ⟨_,rfl⟩⟩
  case lss=>subst h;exact⟨.bool (Op.bytesLess l m),by simp[binOp,Op.stringOp,e1,e2],.bool,.inr ⟨_,rfl⟩⟩
  case leq=>subst h;exact⟨.bool (Op.bytesLess l m||l==m),by simp[binOp,Op.stringOp,e1,e2],VR.ofBool (by rw[fR];simp),.inr ⟨_,rfl⟩⟩
  case gtr=>subst h;exact⟨.bool (!(Op.bytesLess l m||l==m)),by simp[binOp,Op.stringOp,e1,e2],VR.ofBool (by rw[fR];simp),.inr ⟨_,rfl⟩⟩
  case geq=>subst h;exact⟨.bool (!Op.bytesLess l m),by simp[binOp,Op.stringOp,e1,e2],.bool,.inr ⟨_,rfl⟩⟩
 ·cases h
theorem xX{op:BinOp}{t t':TypeId}{x y:Operand}{x' y':cJ}(ho:o.op= .binOp op t x y t')(he:cr ρ S w e a)(hi:Inv ρ S w)(hx:dp x=some x')(hy:dp y=some y')
 (h:dW op (ev e x') (ev e y')=some v):Yields P o a ρ S w v:=by
 obtain⟨u,hr,hv,hk⟩:=MM (P:=P) (t:=t) (bw he hx) (bw he hy) h;refine Yields.same hi (u:=u) ?_ hv;have hg:(eqGuard op t x y (a.eval x) (a.eval y)).run P w= .ok () w:=by
  unfold eqGuard;rcases hk with⟨k,n,hk⟩|⟨s,hk⟩<;>rw[hk]<;>cases op<;>rfl
 simp[execOp,ho,hg,hr]
theorem BD{x:Operand}{x':cJ}(ho:o.op= .move x∨o.op= .assign x)(he:cr ρ S w e a)(hi:Inv ρ S w)(hx:dp x=some x'):Yields P o a ρ S w (ev e x'):=
 Yields.same hi (by rcases ho with ho|ho<;>simp[execOp,ho]) (bw he hx)
theorem Ev{c x y:Operand}{c' x' y':cJ}(ho:o.op= .pick c x y)(he:cr ρ S w e a)(hi:Inv ρ S w)(hc:dp c=some c')(hx:dp x=some x')(hy:dp y=some y')
 (h:cu e S (.pick c' x' y')=some v):Yields P o a ρ S w v:=by
 simp only[cu]at h;split at h
 ·rename_i t ht;simp only[aa]at h;subst h;have hb:=bw he hc;rw[ht]at hb;have hb:=hb.kz;refine Yields.same hi (u:=if t then a.eval x else a.eval y) (by simp[execOp,ho,hb,asBool]) ?_;cases t
  ·exact bw he hy
  ·exact bw he hx
 ·cases h
theorem xU{op:BinOp}{t t':TypeId}{x y:Operand}{x' y':cJ}{neg:Bool}(hn:op=if neg then .neq else .eql)(ho:o.op= .binOp op t x y t')(ht:P.underlying t=some .bool)(he:cr ρ S w e a)(hi:Inv ρ S w)
 (hx:dp x=some x')(hy:dp y=some y')(h:cu e S (.Pw neg x' y')=some v):Yields P o a ρ S w v:=by
 simp only[cu]at h;split at h
 ·rename_i c d hc hd;simp only[aa]at h;subst h;have h1:=bw he hx;have h2:=bw he hy;rw[hc]at h1;rw[hd]at h2;have h1:=h1.kz;have h2:=h2.kz;refine Yields.same hi (u:=.bool (if neg then !(c==d)else c==d)) ?_ .bool;cases neg
  ·simp only[aV,aZ]at hn⊢;subst hn;simp[execOp,ho,h1,h2,eqGuard,run_eql_bool w t c d ht]
  ·simp only[aQ]at hn⊢;subst hn;simp[execOp,ho,h1,h2,eqGuard,run_neq_bool w t c d ht]
 ·cases h
theorem JH{t:TypeId}{x:Operand}{x':cJ}(ho:o.op= .unOp .not t x)(he:cr ρ S w e a)(hi:Inv ρ S w)(hx:dp x=some x')(h:cu e S (.not x')=some v):Yields P o a ρ S w v:=by
 simp only[cu]at h;split at h
 ·rename_i c hc;simp only[aa]at h;subst h;have h1:=bw he hx;rw[hc]at h1;have h1:=h1.kz;exact Yields.same hi (u:=.bool (!c)) (by simp[execOp,ho,h1,Op.unary]) .bool
 ·cases h
theorem JI{t:TypeId}{x:Operand}{x':cJ}(ho:o.op= .unOp .neg t x)(he:cr ρ S w e a)(hi:Inv ρ S w)(hx:dp x=some x')(h:cu e S (.neg x')=some v):Yields P o a ρ S w v:=by
 simp only[cu]at h;split at h
 ·rename_i k n hc;simp only[aa]at h;subst h;have h1:=bw he hx;rw[hc]at h1;have h1:=h1.cL;exact Yields.same hi (u:=.int k (k.wrap (0-n))) (by simp[execOp,ho,h1,Op.unary,Op.intArith]) .int
 ·cases h
theorem df{id aI sz:Nat}{t:TypeId}{rows:List (List V)}(h:S.bq id aI=some (t,sz,rows)):S[id]?=some ⟨aI,some (.arr t sz rows)⟩:=by
 unfold ae.bq at h;split at h
 ·rename_i v t' kW bT hs;split at h
  ·rename_i hv;simp only[aa,cB]at h;obtain⟨rfl,rfl,rfl⟩:=h;rw[hs,hv]
  ·cases h
 ·cases h
theorem VR.gY{id aI off len sz:Nat}{t:TypeId}{rows:List (List V)}{u:Value}{b:Bool}(h:VR ρ S w b (.cU id aI off len) u)(ho:S.bq id aI=some (t,sz,rows)):
 off+len≤rows.length∧((ρ id=none∧u= .slice none 0 0∧len=0∧off=0)∨(∃g db cap,ρ id=some (g,db)∧u= .slice (some ⟨g,off*sz,none⟩) len cap∧off+len≤db∧len≤cap∧off+cap≤db)∨(0<off∧len=0∧∃p,u= .slice (some p) 0 0)):=by
 cases h with
 |cU h1 h2 h3 h4=>exact h3 _ _ _ (df ho)
theorem VR.fU{id aI row off sz:Nat}{t:TypeId}{rows:List (List V)}{u:Value}{b:Bool}(h:VR ρ S w b (.ptr id aI row off) u)(ho:S.bq id aI=some (t,sz,rows)):
 ∃g db,ρ id=some (g,db)∧u= .pointer (some ⟨g,row*sz+off,none⟩):=by
 cases h with
 |ptr h1 h2 h3 h4=>exact h3 _ _ _ (df ho)
theorem Ey{x:Operand}{t:TypeId}{x':cJ}(ho:o.op= .call {callee:=.builtin .len,args:=#[x],argTypes:=#[t]})(ht:P.underlying t=some .string)(he:cr ρ S w e a)(hi:Inv ρ S w)
 (hx:dp x=some x')(h:cu e S (.vP x')=some v):Yields P o a ρ S w v:=by
 have h1:=bw he hx;simp only[cu]at h;split at h
 ·rename_i l hl;simp only[aa]at h;subst h;rw[hl]at h1;obtain⟨s,h2,h3,_⟩:=h1.kX;have h4:s.size=l.length:=by rw[←h3,bP];rfl
  exact Yields.same hi (u:=.int .i64 l.length) (by simp[execOp,ho,resolve,invoke,builtin,Builtin.len_,h2,run_underlying ht,goInt,h4]) .int
 ·cases h
theorem EA{x:Operand}{t q:TypeId}{x':cJ}(ho:o.op= .call {callee:=.builtin .len,args:=#[x],argTypes:=#[t]})(ht:P.underlying t=some (.slice q))(he:cr ρ S w e a)(hi:Inv ρ S w)
 (hx:dp x=some x')(h:cu e S (.t_ x')=some v):Yields P o a ρ S w v:=by
 have h1:=bw he hx;have run:∀(n:Nat) b c,a.eval x= .slice b n c→(execOp a.eval o).run P w= .ok (.value (.int .i64 n)) w:=by
  intro n b c h2;simp[execOp,ho,resolve,invoke,builtin,Builtin.len_,h2,run_underlying ht,goInt]
 simp only[cu]at h;split at h
 ·rename_i hl;simp only[aa]at h;subst h;rw[hl]at h1;have h2:a.eval x= .slice none 0 0:=by generalize a.eval x=u at h1;cases h1;rfl
  exact Yields.same hi (u:=.int .i64 (0:Nat)) (run 0 _ _ h2) .int
 ·rename_i sz rows hl;simp only[aa]at h;subst h;rw[hl]at h1;have h2:∃b c,a.eval x= .slice b rows.length c:=by
   generalize a.eval x=u at h1;cases h1 with
   |gC=>exact⟨_,_,rfl⟩
   |sl c hu hlen=>exact⟨_,_,by rw[hlen]⟩
  obtain⟨b,c,h2⟩:=h2;exact Yields.same hi (run _ _ _ h2) .int
 ·rename_i id aI off len hl;simp only[aa]at h;subst h;rw[hl]at h1;have h2:∃p c,a.eval x= .slice p len c:=by
   generalize a.eval x=u at h1;cases h1 with
   |cU _ _ _ h4=>exact h4
  obtain⟨p,c,h2⟩:=h2;exact Yields.same hi (run _ _ _ h2) .int
 ·cases h
theorem EC{x i:Operand}{t:TypeId}{x' i':cJ}(ho:o.op= .index t x i)(ht:P.underlying t=some .string)(he:cr ρ S w e a)(hi:Inv ρ S w)
 (hx:dp x=some x')(xw:dp i=some i')(h:cu e S (.qS x' i')=some v):Yields P o a ρ S w v:=by
 have h1:=bw he hx;have h2:=bw he xw;simp only[cu]at h;split at h
 ·rename_i l k n hl hn;rw[hl]at h1;rw[hn]at h2;obtain⟨s,h3,h4,_⟩:=h1.kX;have h2:=h2.cL;split at h
  ·rename_i h0;simp only[aG]at h;obtain⟨b,hb,rfl⟩:=h;have hs:s[n.toNat]?=some b:=by
    rw[←h4]at hb;have aR:n.toNat<s.size:=by
     have:=(List.getElem?_eq_some_iff.1 hb).1;rw[bP]at this;exact this
    rw[Go.ByteArray.getElem?_lt' s _ aR];have:s.data.toList[n.toNat]?=some (s[n.toNat]):=by
     rw[ax (by rw[bP];exact aR)];rfl
    rw[this]at hb;exact hb
   refine Yields.same hi (u:=.int .u8 b.toNat) ?_ .int;simp[execOp,ho,Instr.index,h2,h3,asIntOf,run_underlying ht,h0,hs]
  ·cases h
 ·cases h
theorem iB{t:TypeId}{n:Nat}(h:er P t=some n):∃i,P.info? t=some i∧i.size=n:=by
 unfold er at h;simpa[aG]using h
theorem EE{x i:Operand}{t q:TypeId}{n:Nat}{x' i':cJ}(ho:o.op= .indexAddr t x i)(ht:P.underlying t=some (.slice q))(hz:er P q=some n)(he:cr ρ S w e a)(hi:Inv ρ S w)
 (hx:dp x=some x')(xw:dp i=some i')(h:cu e S (.mM n x' i')=some v):Yields P o a ρ S w v:=by
 have h1:=bw he hx;have h2:=bw he xw;obtain⟨ti,pO,hG⟩:=iB hz;have run:∀k m g off len cap,a.eval x= .slice (some ⟨g,off,none⟩) len cap→a.eval i= .int k m→0≤m→m<(len:Int)→(execOp a.eval o).run P w= .ok (.value (.pointer (some ⟨g,off+m.toNat*n,none⟩))) w:=by
  intro k m g off len cap hs hm h0 aR;simp[execOp,ho,Instr.indexAt,hs,hm,asIntOf,run_underlying ht,h0,aR,sizeOf,typeInfo,pO,hG,Addr.add_lit]
 simp only[cu]at h;split at h
 ·rename_i kW rows k m hl hm;rw[hl]at h1;rw[hm]at h2;have h2:=h2.cL;split at h
  ·rename_i hc;obtain⟨rfl,h0⟩:=hc;simp only[aG]at h;obtain⟨r,hr,rfl⟩:=h;generalize hu:a.eval x=u at h1;cases h1 with
   |gC=>simp at hr
   | @sl _ _ _ g off len cap c kP hlen ki jS Ua hc hv Uy=>
     have aR:m.toNat<rows.length:=(List.getElem?_eq_some_iff.1 hr).1;have ee:=run k m g off len cap hu h2 h0 (by omega);refine Yields.same hi ee (.bK (fun j=>c m.toNat j) kP (fun j y hj=>?_) (fun j y hj=>hv _ _ hr j y hj) (fun j y hj=>Uy _ _ hr j y hj));have:=hc _ _ hr j y hj;rw[←this,jh]
  ·cases h
 ·rename_i id aI off len k m hl hm;rw[hl]at h1;rw[hm]at h2;have h2:=h2.cL;split at h
  ·rename_i hc;obtain⟨h0,aR,hs⟩:=hc;simp only[aa]at h;subst h;simp only[aG]at hs;obtain⟨⟨t',sz,rows⟩,hs,CV⟩:=hs;simp only at CV;subst CV;obtain⟨hb,hk⟩:=h1.gY hs;rcases hk with⟨_,_,CQ,_⟩|⟨g,db,_,hg,hu,_⟩|⟨_,rfl,_⟩
   ·omega
   rotate_left
   ·omega
   ·refine Yields.same hi (run k m g _ len _ hu h2 h0 aR) ?_;have cK:id<S.length:=by cases h1;assumption
    have qU:∀(o:Obj),S[id]?=some o→aI≤o.aI:=by cases h1;assumption
    refine .ptr cK qU (fun e' sz2 iU mT=>⟨g,db,hg,?_⟩) rfl;rw[df hs]at mT;simp only[aa,Obj.mk.injEq,eR.arr.injEq,eG]at mT;obtain⟨_,rfl,_⟩:=mT;rw[eM];rfl
  ·cases h
 ·cases h
theorem ED{x i:Operand}{t q:TypeId}{len n:Nat}{x' i':cJ}(ho:o.op= .indexAddr t x i)(ht:P.underlying t=some (.array len q))(hz:er P q=some n)(he:cr ρ S w e a)(hi:Inv ρ S w)
 (hx:dp x=some x')(xw:dp i=some i')(h:cu e S (.pN len n x' i')=some v):Yields P o a ρ S w v:=by
 have h1:=bw he hx;have h2:=bw he xw;obtain⟨ti,pO,hG⟩:=iB hz;have run:∀k m g off,a.eval x= .pointer (some ⟨g,off,none⟩)→a.eval i= .int k m→0≤m→m<(len:Int)→(execOp a.eval o).run P w= .ok (.value (.pointer (some ⟨g,off+m.toNat*n,none⟩))) w:=by
  intro k m g off hs hm h0 aR;simp[execOp,ho,Instr.indexAt,hs,hm,asIntOf,run_underlying ht,h0,aR,sizeOf,typeInfo,pO,hG,Addr.add_lit,Instr.sureAddr]
 simp only[cu]at h;split at h
 ·rename_i cells k m hl hm;rw[hl]at h1;rw[hm]at h2;have h2:=h2.cL;split at h
  ·rename_i hc;simp only[aa]at h;subst h;generalize hu:a.eval x=u at h1;cases h1 with
   | @bK _ _ g off c kP jn hv Uy=>
     refine Yields.same hi (run k m g off hu h2 hc.1 hc.2) (.bK (fun j=>c (m.toNat*n+j)) kP (fun j y hj=>?_) (fun j y hj=>hv _ _ (by simpa using hj)) (fun j y hj=>Uy _ _ (by simpa using hj)));have:=jn (m.toNat*n+j) y (by simpa using hj);rw[←this,jh]
  ·cases h
 ·rename_i id aI row off k m hl hm;rw[hl]at h1;rw[hm]at h2;have h2:=h2.cL;split at h
  ·rename_i hc;obtain⟨h0,aR,hs⟩:=hc;simp only[aa]at h;subst h;obtain⟨⟨t',sz,rows⟩,hs⟩:=Option.isSome_iff_exists.1 hs;obtain⟨g,db,hg,hu⟩:=h1.fU hs;refine Yields.same hi (run k m g _ hu h2 h0 aR) ?_;have cK:id<S.length:=by cases h1;assumption
   have qU:∀(o:Obj),S[id]?=some o→aI≤o.aI:=by cases h1;assumption
   refine .ptr cK qU (fun e' sz2 iU mT=>⟨g,db,hg,?_⟩) rfl;rw[df hs]at mT;simp only[aa,Obj.mk.injEq,eR.arr.injEq,eG]at mT;obtain⟨_,rfl,_⟩:=mT;rw[jh]
  ·cases h
 ·cases h
theorem BE{x:Operand}{t:TypeId}{i m:Nat}{fields:Array Field}{f:Field}{x':cJ}(ho:o.op= .fieldAddr t x i)(ht:P.underlying t=some (.struct fields))(hf:fields[i]?=some f)(hz:er P f.type=some (m+1))
 (he:cr ρ S w e a)(hi:Inv ρ S w)(hx:dp x=some x')(h:cu e S (.nu f.offset x')=some v):Yields P o a ρ S w v:=by
 have h1:=bw he hx;obtain⟨ti,pO,hG⟩:=iB hz;have run:∀g off,a.eval x= .pointer (some ⟨g,off,none⟩)→(execOp a.eval o).run P w= .ok (.value (.pointer (some ⟨g,off+f.offset,none⟩))) w:=by
  intro g off hp;simp[execOp,ho,Instr.fieldAt,hp,run_underlying ht,hf,Instr.sureAddr,fieldPlace,sizeOf,typeInfo,pO,hG,Addr.add_lit]
 simp only[cu]at h;split at h
 ·rename_i cells hl;rw[hl]at h1;simp only[aa]at h;subst h;generalize hu:a.eval x=u at h1;cases h1 with
  | @bK _ _ g off c kP hc hv Uy=>
    refine Yields.same hi (run g off hu) (.bK (fun j=>c (f.offset+j)) kP (fun j y hj=>?_) (fun j y hj=>hv _ _ (by simpa using hj)) (fun j y hj=>Uy _ _ (by simpa using hj)));have:=hc (f.offset+j) y (by simpa using hj);rw[←this,jh]
 ·rename_i id aI row off hl;rw[hl]at h1;split at h
  ·rename_i hs;simp only[aa]at h;subst h;obtain⟨⟨t',sz,rows⟩,hs⟩:=Option.isSome_iff_exists.1 hs;obtain⟨g,db,hg,hu⟩:=h1.fU hs;refine Yields.same hi (run g _ hu) ?_;have cK:id<S.length:=by cases h1;assumption
   have qU:∀(o:Obj),S[id]?=some o→aI≤o.aI:=by cases h1;assumption
   refine .ptr cK qU (fun e' sz2 iU mT=>⟨g,db,hg,?_⟩) rfl;rw[df hs]at mT;simp only[aa,Obj.mk.injEq,eR.arr.injEq,eG]at mT;obtain⟨_,rfl,_⟩:=mT;rw[jh]
  ·cases h
 ·cases h
theorem nJ{id aI row sz off:Nat}{t:TypeId}{rows:List (List V)}{r:List V}{g db:Nat}(hi:Inv ρ S w)(hs:S.bq id aI=some (t,sz,rows))(hg:ρ id=some (g,db))(hr:rows[row]?=some r)
 {y:V}(hy:r[off]?=some y):∃u,w.cell? ⟨g,row*sz+off,none⟩=some u∧VR ρ S w false y u∧u.oneCell'=true:=by
 obtain⟨_,h2⟩:=hi.rows id aI t sz rows (df hs);rcases h2 with⟨h2,_⟩|⟨g',eU,cur,h3,_,_,h4,_,h5⟩
 ·rw[hg]at h2;cases h2
 ·rw[hg]at h3;cases h3;obtain⟨u,hu,hv⟩:=h5 row r hr off y hy;exact⟨u,by simp[World.cell?,h4,hu],hv⟩
theorem lh{t:TypeId}(h:fX P t=some false)(w:World):(isAgg t).run P w= .ok false w:=by
 unfold fX at h;split at h<;>simp only[reduceCtorEq,aa,eD]at h
 rename_i d ama al' hd;simp only[isAgg,Sem.run_bind,run_underlying hd,Result.andThen_ok];rfl
theorem oS{t:TypeId}(h:fX P t=some true)(w:World):(isAgg t).run P w= .ok true w:=by
 unfold fX at h;split at h<;>simp only[reduceCtorEq,aa,aV]at h
 ·rename_i fs hd;simp[isAgg,run_underlying hd]
 ·rename_i n q hd;simp[isAgg,run_underlying hd]
theorem EB{x i:Operand}{t q:TypeId}{len:Nat}{x' i':cJ}(ho:o.op= .index t x i)(ht:P.underlying t=some (.array len q))(hg:fX P q=some false)(hz:er P q=some 1)(he:cr ρ S w e a)(hi:Inv ρ S w)
 (hx:dp x=some x')(xw:dp i=some i')(h:cu e S (.CJ len x' i')=some v):Yields P o a ρ S w v:=by
 have h1:=bw he hx;have h2:=bw he xw;obtain⟨ti,pO,hG⟩:=iB hz;simp only[cu]at h;split at h
 ·rename_i cells k m hl hm;rw[hl]at h1;rw[hm]at h2;have h2:=h2.cL;split at h
  ·rename_i hc;generalize hu:a.eval x=u at h1;cases h1 with
   | @agg _ _ us c xu As yN=>
     have kP:=As m.toNat v h;refine Yields.same hi (u:=c m.toNat) ?_ (yN _ _ h);have hp:(part q us (m.toNat*1)).run P w= .ok (c m.toNat) w:=by
      rw[Nat.mul_one];simp[part,lh hg,kP]
     simp[execOp,ho,Instr.index,h2,hu,asIntOf,run_underlying ht,hc.1,hc.2,sizeOf,typeInfo,pO,hG]at hp⊢;simp[hp]
  ·cases h
 ·cases h
theorem JK{x:Operand}{t:TypeId}{x':cJ}(ho:o.op= .load t x)(ht:fX P t=some false)(he:cr ρ S w e a)(hi:Inv ρ S w)(hx:dp x=some x')(h:cu e S (.ld1 x')=some v):Yields P o a ρ S w v:=by
 have h1:=bw he hx;have run:∀g off u,a.eval x= .pointer (some ⟨g,off,none⟩)→w.cell? ⟨g,off,none⟩=some u→(execOp a.eval o).run P w= .ok (.value u) w:=by
  intro g off u hp hc;simp[execOp,ho,Instr.loadAt,hp,Instr.sureAddr,loadVar,lh ht,hc]
 simp only[cu]at h;split at h
 ·rename_i cells hl;rw[hl]at h1;generalize hu:a.eval x=u at h1;cases h1 with
  | @bK _ _ g off c kP hc hv=>
    have h0:cells[0]?=some v:=by rw[←h];cases cells<;>rfl
    exact Yields.same hi (run g off (c 0) hu (hc 0 v h0)) ((hv 0 v h0).weaken false)
 ·rename_i id aI row off hl;rw[hl]at h1;simp only[cP]at h;obtain⟨⟨t',sz,rows⟩,hs,r,hr,hy⟩:=h;obtain⟨g,db,hg,hu⟩:=h1.fU hs;obtain⟨u,hc,hv,_⟩:=nJ hi hs hg hr hy;exact Yields.same hi (run g _ u hu hc) hv
 ·cases h
theorem JJ{x:Operand}{t:TypeId}{n:Nat}{x':cJ}(ho:o.op= .load t x)(ht:fX P t=some true)(hz:er P t=some n)(he:cr ρ S w e a)(hi:Inv ρ S w)(hx:dp x=some x')(h:cu e S (.D_ n x')=some v):Yields P o a ρ S w v:=by
 have h1:=bw he hx;obtain⟨ti,pO,hG⟩:=iB hz;have run:∀g off (vs:List V),vs.length=n→a.eval x= .pointer (some ⟨g,off,none⟩)→(∀(j:Nat) (y:V),vs[j]?=some y→∃u,w.cell? ⟨g,off+j,none⟩=some u∧VR ρ S w false y u)→Yields P o a ρ S w (.agg vs):=by
  intro g off vs CU hp hc;have hex:∃c:Nat→Value,∀(j:Nat) (y:V),vs[j]?=some y→w.cell? ⟨g,off+j,none⟩=some (c j)∧VR ρ S w false y (c j):=by
   refine⟨fun j=>(w.cell? ⟨g,off+j,none⟩).getD Go.undef,fun j y hy=>?_⟩;obtain⟨u,h2,h3⟩:=hc j y hy;simp[h2,h3]
  obtain⟨c,hc⟩:=hex;have hl:=run_loadCells (P:=P) w ⟨g,off,none⟩ n c (fun j hj=>by
   rw[Addr.add_lit];exact(hc j vs[j] (ax (by omega))).1)
  refine Yields.same hi (u:=.agg ((List.range n).map c).toArray) ?_ (.DX (by simp[CU]) fun j y hj=>?_)
  ·simp[execOp,ho,Instr.loadAt,hp,Instr.sureAddr,loadVar,oS ht,sizeOf,typeInfo,pO,hG,hl]
  ·have aR:j<n:=by rw[←CU];exact(List.getElem?_eq_some_iff.1 hj).1
   exact⟨c j,by simp[aR],(hc j y hj).2⟩
 simp only[cu]at h;split at h
 ·rename_i cells hl;rw[hl]at h1;split at h
  ·rename_i hle;simp only[aa]at h;subst h;generalize hu:a.eval x=u at h1;cases h1 with
   | @bK _ _ g off c kP hc hv=>
     refine run g off _ (by simp[hle]) hu fun j y hj=>?_;have w7:cells[j]?=some y:=by
      rw[bC]at hj;split at hj
      ·exact hj
      ·cases hj
     exact⟨c j,hc j y w7,(hv j y w7).weaken false⟩
  ·cases h
 ·rename_i id aI row off hl;rw[hl]at h1;simp only[cP]at h;obtain⟨⟨t',sz,rows⟩,hs,r,hr,hy⟩:=h;split at hy
  ·rename_i hle;simp only[aa]at hy;subst hy;obtain⟨g,db,hg,hu⟩:=h1.fU hs;refine run g _ _ (by simp;omega) hu fun j y hj=>?_;have w7:r[off+j]?=some y:=by
    rw[bC]at hj;split at hj
    ·simpa using hj
    ·cases hj
   obtain⟨u,hc,hv,_⟩:=nJ hi hs hg hr w7;exact⟨u,by rw[jh];exact hc,hv⟩
  ·cases hy
 ·cases h
theorem lr{t:TypeId}{cs:Array Value}{off:Nat}{u:Value}(ht:fX P t=some false)(h:cs[off]?=some u)(w:World):(part t cs off).run P w= .ok u w:=by
 simp[part,lh ht,h]
theorem J9{t:TypeId}{cs:Array Value}{off n:Nat}(ht:fX P t=some true)(hz:er P t=some n)(w:World):(part t cs off).run P w= .ok (.agg (cs.extract off (off+n))) w:=by
 obtain⟨ti,pO,hG⟩:=iB hz;simp[part,oS ht,sizeOf,typeInfo,pO,hG]
theorem VR.Jg{vs:List V}{u:Value}{b:Bool}(h:VR ρ S w b (.agg vs) u):∃us:Array Value,u= .agg us∧us.size=vs.length∧∀(j:Nat) (y:V),vs[j]?=some y→∃x,us[j]?=some x∧VR ρ S w b y x:=by
 cases h with
 |agg c hl hc hv=>exact⟨_,rfl,hl,fun j y hj=>⟨c j,hc j y hj,hv j y hj⟩⟩
theorem VR.SP{vs:List V}{u:Value}{b:Bool}(h:VR ρ S w b (.dI vs) u):∃us:Array Value,u= .tuple us∧us.size=vs.length∧∀(j:Nat) (y:V),vs[j]?=some y→∃x,us[j]?=some x∧VR ρ S w b y x:=by
 cases h with
 |dI c hl hc hv=>exact⟨_,rfl,hl,fun j y hj=>⟨c j,hc j y hj,hv j y hj⟩⟩
theorem EG{x:Operand}{t:TypeId}{i:Nat}{fields:Array Field}{f:Field}{x':cJ}(ho:o.op= .field t x i)(ht:P.underlying t=some (.struct fields))(hf:fields[i]?=some f)(hg:fX P f.type=some false)
 (he:cr ρ S w e a)(hi:Inv ρ S w)(hx:dp x=some x')(h:cu e S (.KF f.offset x')=some v):Yields P o a ρ S w v:=by
 have h1:=bw he hx;simp only[cu]at h;split at h
 ·rename_i cells hl;rw[hl]at h1;obtain⟨us,hu,_,sw⟩:=h1.Jg;obtain⟨y,hy,hv⟩:=sw _ _ h;exact Yields.same hi (by simp[execOp,ho,hu,Instr.field,run_underlying ht,hf,asAgg,lr hg hy]) hv
 ·cases h
theorem EF{x:Operand}{t:TypeId}{i n:Nat}{fields:Array Field}{f:Field}{x':cJ}(ho:o.op= .field t x i)(ht:P.underlying t=some (.struct fields))(hf:fields[i]?=some f)(hg:fX P f.type=some true)(hz:er P f.type=some n)
 (he:cr ρ S w e a)(hi:Inv ρ S w)(hx:dp x=some x')(h:cu e S (.FK f.offset n x')=some v):Yields P o a ρ S w v:=by
 have h1:=bw he hx;simp only[cu]at h;split at h
 ·rename_i cells hl;split at h
  ·rename_i hle;simp only[aa]at h;subst h;rw[hl]at h1;obtain⟨us,hu,hG,sw⟩:=h1.Jg;refine Yields.same hi (by simp[execOp,ho,hu,Instr.field,run_underlying ht,hf,asAgg,J9 hg hz];rfl) (.DX (by simp;omega) fun j y hj=>?_);have w7:cells[f.offset+j]?=some y∧j<n:=by
    rw[bC]at hj;split at hj
    ·rename_i aR;exact⟨by simpa using hj,aR⟩
    ·cases hj
   obtain⟨u,h2,h3⟩:=sw _ _ w7.1;refine⟨u,?_,h3⟩;rw[Array.getElem?_extract,aK (by omega)];exact h2
  ·cases h
 ·cases h
theorem EH{x:Operand}{src dst:TypeId}{j k:IntKind}{x':cJ}(ho:o.op= .convert src dst x)(hs:P.underlying src=some (.int j))(hd:P.underlying dst=some (.int k))(he:cr ρ S w e a)(hi:Inv ρ S w)(hx:dp x=some x')
 (h:cu e S (.conv k x')=some v):Yields P o a ρ S w v:=by
 have h1:=bw he hx;simp only[cu]at h;split at h
 ·rename_i k' n hl;simp only[aa]at h;subst h;rw[hl]at h1;have h1:=h1.cL;exact Yields.same hi (u:=.int k (k.wrap n)) (by simp[execOp,ho,h1,convert,run_underlying hs,run_underlying hd,Conv.intToInt]) .int
 ·cases h
theorem JM{x:Operand}{i:Nat}{x':cJ}(ho:o.op= .extract x i)(he:cr ρ S w e a)(hi:Inv ρ S w)(hx:dp x=some x')(h:cu e S (.ext i x')=some v):Yields P o a ρ S w v:=by
 have h1:=bw he hx;simp only[cu]at h;split at h
 ·rename_i vs hl;rw[hl]at h1;obtain⟨us,hu,_,sw⟩:=h1.SP;obtain⟨y,hy,hv⟩:=sw _ _ h;exact Yields.same hi (by simp[execOp,ho,hu,Instr.extract,hy]) hv
 ·cases h
theorem qC{op:Builtin}{x y:Operand}{ts:Array TypeId}{mn:Bool}{x' y':cJ}(np:op=if mn then .min else .max)(ho:o.op= .call {callee:=.builtin op,args:=#[x,y],argTypes:=ts})(he:cr ρ S w e a)(hi:Inv ρ S w)
 (hx:dp x=some x')(hy:dp y=some y')(h:cu e S (.lJ mn x' y')=some v):Yields P o a ρ S w v:=by
 have h1:=bw he hx;have h2:=bw he hy;simp only[cu]at h;split at h
 ·rename_i k i k' j hl hm;simp only[aa]at h;subst h;rw[hl]at h1;rw[hm]at h2;have h1:=h1.cL;have h2:=h2.cL;refine Yields.same hi (u:=.int k (if mn then(if j<i then j else i)else(if j>i then j else i))) ?_ .int;cases mn
  ·simp only[aV,aZ]at np⊢;subst np;simp[execOp,ho,resolve,invoke,builtin,h1,h2,run_max_int2]
  ·simp only[aQ]at np⊢;subst np;simp[execOp,ho,resolve,invoke,builtin,h1,h2,run_min_int2]
 ·cases h
theorem Ew{f:FuncId}{first cap:Array Operand}{l m:List cJ}(ho:o.op= .makeFunc (.func f) first cap)(he:cr ρ S w e a)(hi:Inv ρ S w)(h1:la first.toList=some l)(h2:la cap.toList=some m):
 Yields P o a ρ S w (.func f (iy e l) (iy e m)):=by
 have key:∀(xs:List Operand) (ys:List cJ),la xs=some ys→xs.length=ys.length∧∀(j:Nat) (v:V),(iy e ys)[j]?=some v→∃u,(xs.map a.eval)[j]?=some u∧VR ρ S w false v u:=by
  intro xs;induction xs with
  |nil=>intro ys h;simp only[la,aa]at h;subst h;simp[iy]
  |cons x xs ih=>
   intro ys h;simp only[la]at h;split at h
   ·rename_i y ys' hy T9;simp only[aa]at h;subst h;obtain⟨a1,a2⟩:=ih _ T9;refine⟨by simp[a1],fun j v hv=>?_⟩;cases j with
    |zero=>simp[iy]at hv;subst hv;exact⟨_,by simp,bw he hy⟩
    |succ j=>simp only[iy,bd,dM]at hv⊢;exact a2 j v hv
   ·cases h
 obtain⟨a1,a2⟩:=key _ _ h1;obtain⟨b1,b2⟩:=key _ _ h2;refine Yields.same hi (u:=.func (.func f) (first.map a.eval) (cap.map a.eval)) (by simp[execOp,ho,Instr.makeFunc]) ?_;refine .func (fun j=>(first.map a.eval)[j]?.getD Go.undef) (fun j=>(cap.map a.eval)[j]?.getD Go.undef) (by simp[iy]at a1⊢;omega) (by simp[iy]at b1⊢;omega) ?_ ?_ ?_ ?_
 ·intro j v hv;obtain⟨u,hu,_⟩:=a2 j v hv;have hu:(first.map a.eval)[j]?=some u:=by simpa using hu
  simp only[hu,bL]
 ·intro j v hv;obtain⟨u,hu,hr⟩:=a2 j v hv;have hu:(first.map a.eval)[j]?=some u:=by simpa using hu
  simp only[hu,bL];exact hr
 ·intro j v hv;obtain⟨u,hu,_⟩:=b2 j v hv;have hu:(cap.map a.eval)[j]?=some u:=by simpa using hu
  simp only[hu,bL]
 ·intro j v hv;obtain⟨u,hu,hr⟩:=b2 j v hv;have hu:(cap.map a.eval)[j]?=some u:=by simpa using hu
  simp only[hu,bL];exact hr
theorem zO{x:Operand}{x':cJ}(ho:o.op= .nilCheck x)(he:cr ρ S w e a)(hi:Inv ρ S w)(hx:dp x=some x')(h:cu e S (.gX x')=some v):Yields P o a ρ S w v:=by
 have h1:=bw he hx;have run:∀u,a.eval x=u→(u= .pointer none→False)→(u= .nilIface→False)→(u= .nilFunc→False)→(∀n f c,u= .func (.method n) f c→False)→(execOp a.eval o).run P w= .ok (.value u) w:=by
  intro u hu h1 h2 h3 h4;simp only[execOp,ho,hu];rfl
 simp only[cu]at h;split at h
 ·rename_i id aI row off hl;split at h
  ·rename_i hs;simp only[aa]at h;subst h;rw[hl]at h1;obtain⟨⟨t',sz,rows⟩,hs⟩:=Option.isSome_iff_exists.1 hs;obtain⟨g,db,hg,hu⟩:=h1.fU hs;exact Yields.same hi (run _ rfl (by rw[hu];simp) (by rw[hu];simp) (by rw[hu];simp) (by rw[hu];simp)) h1
  ·cases h
 ·rename_i l hl;simp only[aa]at h;subst h;rw[hl]at h1;generalize hu:a.eval x=u at h1;have h2:=h1;cases h2 with
  |bK c kP hc hv=>exact Yields.same hi (run _ hu (by simp) (by simp) (by simp) (by simp)) h1
 ·rename_i f p q hl;simp only[aa]at h;subst h;rw[hl]at h1;generalize hu:a.eval x=u at h1;have h2:=h1;cases h2 with
  |func c d=>exact Yields.same hi (run _ hu (by simp) (by simp) (by simp) (by simp)) h1
 ·rename_i t' v' hl;simp only[aa]at h;subst h;rw[hl]at h1;generalize hu:a.eval x=u at h1;have h2:=h1;cases h2 with
  |iface c=>exact Yields.same hi (run _ hu (by simp) (by simp) (by simp) (by simp)) h1
 ·cases h
theorem Ex{x:Operand}{t:TypeId}{x':cJ}(ho:o.op= .makeInterface t x)(ht:P.concrete t=true)(he:cr ρ S w e a)(hi:Inv ρ S w)(hx:dp x=some x'):Yields P o a ρ S w (.iface t (ev e x')):=
 Yields.same hi (by simp[execOp,ho,run_makeInterface w t _ ht]) (.iface (bw he hx))
theorem JC{x:Operand}{xt t:TypeId}{ok:Bool}{i:TypeInfo}{z:Value}{zv:V}{x':cJ}(ho:o.op= .typeAssert x xt t ok)(ht:P.concrete t=true)(pO:P.info? t=some i)(hz:i.zero=some z)(Lk:V.j9 z=some zv)(he:cr ρ S w e a)(hi:Inv ρ S w)(hx:dp x=some x')
 (h:cu e S (.ZG t zv ok x')=some v):Yields P o a ρ S w v:=by
 have h1:=bw he hx;have hu:∃d,P.underlying t=some d∧∀ms,d≠ .interface ms:=by
  cases kP:P.underlying t with
  |none=>simp[Program.concrete,kP]at ht
  |some d=>exact⟨d,rfl,fun ms hm=>by subst hm;simp[Program.concrete,kP]at ht⟩
 obtain⟨d,hd,ub⟩:=hu;have hzr:VR ρ S w false zv z:=V.ic Lk false;have pair:∀(p q:V) (a b:Value),VR ρ S w false p a→VR ρ S w false q b→VR ρ S w false (.dI [p,q]) (.tuple #[a,b]):=by
  intro p q a b hp hq;refine .rR rfl fun j y hj=>?_;match j,hj with
  |0,hj=>simp at hj;subst hj;exact⟨a,rfl,hp⟩
  |1,hj=>simp at hj;subst hj;exact⟨b,rfl,hq⟩
  |j+2,hj=>simp at hj
 simp only[cu]at h;split at h
 ·rename_i t' v' hl;rw[hl]at h1;generalize Ku:a.eval x=u at h1;cases h1 with
  | @iface _ _ _ u' yN=>
    split at h
    ·rename_i OE;simp only[aa]at h;subst h OE;refine Yields.same hi (u:=if ok then .tuple #[u',.bool true]else u') ?_ ?_
     ·simp only[execOp,ho,Ku,Instr.typeAssert,Sem.run_bind,run_underlying hd,Result.andThen_ok];cases d<;>first|exact absurd rfl (ub _)|simp
     ·cases ok
      ·exact yN
      ·exact pair _ _ _ _ yN .bool
    ·rename_i OE;split at h
     ·rename_i eQ;simp only[aa]at h;subst h eQ;refine Yields.same hi (u:=.tuple #[z,.bool false]) ?_ (pair _ _ _ _ hzr .bool);simp only[execOp,ho,Ku,Instr.typeAssert,Sem.run_bind,run_underlying hd,Result.andThen_ok];cases d<;>first|exact absurd rfl (ub _)|simp[OE,zeroValue,typeInfo,pO,hz]
     ·cases h
 ·rename_i hl;rw[hl]at h1;have Ku:a.eval x= .nilIface:=by generalize a.eval x=u at h1;cases h1;rfl
  split at h
  ·rename_i eQ;simp only[aa]at h;subst h eQ;refine Yields.same hi (u:=.tuple #[z,.bool false]) ?_ (pair _ _ _ _ hzr .bool);simp only[execOp,ho,Ku,Instr.typeAssert,Sem.run_bind,run_underlying hd,Result.andThen_ok];cases d<;>first|exact absurd rfl (ub _)|simp[zeroValue,typeInfo,pO,hz]
  ·cases h
 ·cases h
def qL(P:Program)(k:Nat)(t:TypeId):Prop:=match k with
 |0=>∃e,P.underlying t=some (.slice e)
 |1=>∃e,P.underlying t=some (.pointer e)
 |2=>∃ms,P.underlying t=some (.interface ms)
 |3=>∃a b c,P.underlying t=some (.func a b c)
 |4=>∃a b,P.underlying t=some (.map a b)
 |_=>False
def cC:Nat→Value
 |0=>.slice none 0 0
 |1=>.pointer none
 |2=>.nilIface
 |3=>.nilFunc
 |_=>.map none
def Ju:Nat→Value→Bool→Prop
 |0,u,b=>∃a n c,u= .slice a n c∧b=a.isNone
 |1,u,b=>∃a,u= .pointer a∧b=a.isNone
 |2,u,b=>(u= .nilIface∧b=true)∨∃t v,u= .iface t v∧b=false
 |3,u,b=>(u= .nilFunc∧b=true)∨∃f x y,u= .func f x y∧b=false
 |_,u,b=>∃r,u= .map r∧b=r.isNone
theorem GM{k:Nat}{u:Value}{b:Bool}(hv:VR ρ S w false v u)(h:lZ S k v=some b):Ju k u b:=by
 unfold lZ at h;split at h<;>(try simp only[reduceCtorEq,aa]at h)
 ·subst h;cases hv;exact⟨_,_,_,rfl,rfl⟩
 ·subst h;cases hv;exact⟨_,_,_,rfl,rfl⟩
 ·rename_i id aI off len;split at h
  ·rename_i hc;simp only[aa]at h;subst h;obtain⟨⟨t',sz,rows⟩,hs⟩:=Option.isSome_iff_exists.1 hc.1;obtain⟨_,hk⟩:=hv.gY hs;rcases hk with⟨_,_,h0,_⟩|⟨g,db,_,_,rfl,_⟩|⟨_,h0,_⟩
   ·have:=hc.2;omega
   ·exact⟨_,_,_,rfl,rfl⟩
   ·have:=hc.2;omega
  ·cases h
 ·subst h;cases hv;exact⟨_,rfl,rfl⟩
 ·subst h;cases hv;exact⟨_,rfl,rfl⟩
 ·rename_i id aI row off;split at h
  ·rename_i hc;simp only[aa]at h;subst h;obtain⟨⟨t',sz,rows⟩,hs⟩:=Option.isSome_iff_exists.1 hc;obtain⟨g,db,_,rfl⟩:=hv.fU hs;exact⟨_,rfl,rfl⟩
  ·cases h
 ·subst h;cases hv;exact .inl ⟨rfl,rfl⟩
 ·subst h;cases hv;exact .inr ⟨_,_,rfl,rfl⟩
 ·subst h;cases hv;exact .inl ⟨rfl,rfl⟩
 ·subst h;cases hv;exact .inr ⟨_,_,_,rfl,rfl⟩
 ·subst h;cases hv;exact⟨_,rfl,rfl⟩
 ·rename_i id aI;split at h
  ·rename_i kd rows x hs;split at h
   ·rename_i hx;simp only[aa]at h;subst h;unfold ae.kp at hs;split at hs
    ·rename_i v' m iV;split at hs
     ·rename_i hvv;subst hvv;simp only[aa,cB]at hs;obtain⟨_,_,rfl⟩:=hs;cases hv with
      |eF _ _ hh _=>
       obtain⟨g,_,rfl⟩:=hh m iV;exact⟨some g,by simp[jF.addr,hx],rfl⟩
     ·cases hs
    ·cases hs
   ·cases h
  ·cases h
theorem Px{k:Nat}{t:TypeId}{u:Value}{b:Bool}(d:Nat)(hk:k≤4)(ht:qL P k t)(hu:Ju k u b)(w:World):
 (Op.equalIn (d+1) t u (cC k)).run P w= .ok b w∧(Op.equalIn (d+1) t (cC k) u).run P w= .ok b w:=by
 match k,hk with
 |0,_=>
  obtain⟨e,ht⟩:=ht;obtain⟨a,n,c,rfl,rfl⟩:=hu;cases a<;>simp[Op.equalIn,run_underlying ht,cC]
 |1,_=>
  obtain⟨e,ht⟩:=ht;obtain⟨a,rfl,rfl⟩:=hu;cases a<;>simp[Op.equalIn,run_underlying ht,cC]
 |2,_=>
  obtain⟨ms,ht⟩:=ht;rcases hu with⟨rfl,rfl⟩|⟨t',v',rfl,rfl⟩<;>simp[Op.equalIn,run_underlying ht,cC]
 |3,_=>
  obtain⟨x,y,z,ht⟩:=ht;rcases hu with⟨rfl,rfl⟩|⟨f,p,q,rfl,rfl⟩<;>simp[Op.equalIn,run_underlying ht,cC]
 |4,_=>
  obtain⟨x,y,ht⟩:=ht;obtain⟨r,rfl,rfl⟩:=hu;cases r<;>simp[Op.equalIn,run_underlying ht,cC]
theorem U_{k:Nat}{t:TypeId}{u:Value}{b:Bool}(hk:k≤4)(ht:qL P k t)(hu:Ju k u b)(w:World):
 (binOp .eql t u (cC k)).run P w= .ok (.bool b) w∧(binOp .eql t (cC k) u).run P w= .ok (.bool b) w∧(binOp .neq t u (cC k)).run P w= .ok (.bool (!b)) w∧(binOp .neq t (cC k) u).run P w= .ok (.bool (!b)) w:=by
 obtain⟨h1,h2⟩:=Px 9999 hk ht hu w;have h1:(Op.equal t u (cC k)).run P w= .ok b w:=h1;have h2:(Op.equal t (cC k) u).run P w= .ok b w:=h2;match k,hk with
 |0,_=>
  obtain⟨a,n,c,rfl,rfl⟩:=hu;simp only[cC]at h1 h2;exact⟨by simp[binOp,cC,h1],by simp[binOp,cC,h2],by simp[binOp,cC,h1],by simp[binOp,cC,h2]⟩
 |1,_=>
  obtain⟨a,rfl,rfl⟩:=hu;simp only[cC]at h1 h2;exact⟨by simp[binOp,cC,h1],by simp[binOp,cC,h2],by simp[binOp,cC,h1],by simp[binOp,cC,h2]⟩
 |2,_=>
  simp only[cC]at h1 h2;rcases hu with⟨rfl,rfl⟩|⟨t',v',rfl,rfl⟩
  ·exact⟨by simp[binOp,cC,h1],by simp[binOp,cC,h2],by simp[binOp,cC,h1],by simp[binOp,cC,h2]⟩
  ·exact⟨by simp[binOp,cC,h1],by simp[binOp,cC,h2],by simp[binOp,cC,h1],by simp[binOp,cC,h2]⟩
 |3,_=>
  simp only[cC]at h1 h2;rcases hu with⟨rfl,rfl⟩|⟨f,p,q,rfl,rfl⟩
  ·exact⟨by simp[binOp,cC,h1],by simp[binOp,cC,h2],by simp[binOp,cC,h1],by simp[binOp,cC,h2]⟩
  ·exact⟨by simp[binOp,cC,h1],by simp[binOp,cC,h2],by simp[binOp,cC,h1],by simp[binOp,cC,h2]⟩
 |4,_=>
  obtain⟨r,rfl,rfl⟩:=hu;simp only[cC]at h1 h2;exact⟨by simp[binOp,cC,h1],by simp[binOp,cC,h2],by simp[binOp,cC,h1],by simp[binOp,cC,h2]⟩
theorem yR{k:Nat}{t:TypeId}{op:BinOp}{x y:Operand}{u:Value}{b:Bool}(hk:k≤4)(hu:Ju k u b)(w:World):
 (eqGuard op t x (.const (cC k)) u (cC k)).run P w= .ok () w∧(eqGuard op t (.const (cC k)) y (cC k) u).run P w= .ok () w:=by
 match k,hk with
 |0,_=>obtain⟨a,n,c,rfl,rfl⟩:=hu;exact⟨by unfold eqGuard cC;cases op<;>rfl,by unfold eqGuard cC;cases op<;>rfl⟩
 |1,_=>obtain⟨a,rfl,rfl⟩:=hu;exact⟨by unfold eqGuard cC;cases op<;>rfl,by unfold eqGuard cC;cases op<;>rfl⟩
 |2,_=>
  rcases hu with⟨rfl,rfl⟩|⟨t',v',rfl,rfl⟩
  ·exact⟨by simp[eqGuard,cC],by simp[eqGuard,cC]⟩
  ·exact⟨by unfold eqGuard cC;cases op<;>rfl,by unfold eqGuard cC;cases op<;>rfl⟩
 |3,_=>
  rcases hu with⟨rfl,rfl⟩|⟨f,p,q,rfl,rfl⟩
  ·exact⟨by unfold eqGuard cC;cases op<;>rfl,by unfold eqGuard cC;cases op<;>rfl⟩
  ·exact⟨by unfold eqGuard cC;cases op<;>rfl,by unfold eqGuard cC;cases op<;>rfl⟩
 |4,_=>obtain⟨r,rfl,rfl⟩:=hu;exact⟨by unfold eqGuard cC;cases op<;>rfl,by unfold eqGuard cC;cases op<;>rfl⟩
theorem lg{k:Nat}{x:Operand}{z:cJ}(hx:dp x=some z)(hz:oK k z=true):x= .const (cC k)∧k≤4:=by
 have aif:∀u v,V.r_ u=some v→(v= .aM→u= .slice none 0 0)∧(v= .nilPtr→u= .pointer none)∧(v= .nilIface→u= .nilIface)∧(v= .jN→u= .nilFunc)∧(v= .fp→u= .map none):=by
  intro u v h;unfold V.r_ at h;split at h
  case h_3=>
   split at h
   ·simp only[aa]at h;subst h;simp
   ·cases h
  all_goals(simp only[aa,reduceCtorEq]at h;first|(subst h;simp;done)|skip)
 have hof:∀u v,V.j9 u=some v→(v= .aM→u= .slice none 0 0)∧(v= .nilPtr→u= .pointer none)∧(v= .nilIface→u= .nilIface)∧(v= .jN→u= .nilFunc)∧(v= .fp→u= .map none):=by
  intro u v h;unfold V.j9 at h;split at h
  ·simp only[aG]at h;obtain⟨vs,_,rfl⟩:=h;simp
  ·exact aif u v h
 unfold dp at hx;split at hx
 ·simp only[aa]at hx;subst hx;simp[oK]at hz
 ·rename_i u;simp only[aG]at hx;obtain⟨v,hv,rfl⟩:=hx;obtain⟨h1,h2,h3,h4,h5⟩:=hof u v hv;unfold oK at hz;split at hz
  ·rename_i heq;cases heq;rw[h1 rfl];exact⟨rfl,by omega⟩
  ·rename_i heq;cases heq;rw[h2 rfl];exact⟨rfl,by omega⟩
  ·rename_i heq;cases heq;rw[h3 rfl];exact⟨rfl,by omega⟩
  ·rename_i heq;cases heq;rw[h4 rfl];exact⟨rfl,by omega⟩
  ·rename_i heq;cases heq;rw[h5 rfl];exact⟨rfl,by omega⟩
  ·cases hz
 ·cases hx
 ·simp only[aa]at hx;subst hx;simp[oK]at hz
theorem vc{k:Nat}{op:BinOp}{t t':TypeId}{x y z:Operand}{neg b:Bool}(ho:o.op= .binOp op t x y t')(ht:qL P k t)(hi:Inv ρ S w)(np:op=(if neg then .neq else .eql))(Sn:x= .const (cC k)∧y=z∨y= .const (cC k)∧x=z)(hk:k≤4)
 (hu:Ju k (a.eval z) b):Yields P o a ρ S w (.bool (if neg then !b else b)):=by
 obtain⟨r1,r2,r3,r4⟩:=U_ (P:=P) hk ht hu w;refine Yields.same hi (u:=.bool (if neg then !b else b)) ?_ .bool;rcases Sn with⟨rfl,rfl⟩|⟨rfl,rfl⟩
 ·have hg:=(yR (P:=P) (t:=t) (op:=op) (x:=y) (y:=y) hk hu w).2;have ec:a.eval (.const (cC k))=cC k:=rfl;cases neg
  ·simp only[aV,aZ]at np⊢;subst np;simp[execOp,ho,ec,hg,r2]
  ·simp only[aQ]at np⊢;subst np;simp[execOp,ho,ec,hg,r4]
 ·have hg:=(yR (P:=P) (t:=t) (op:=op) (x:=x) (y:=x) hk hu w).1;have ec:a.eval (.const (cC k))=cC k:=rfl;cases neg
  ·simp only[aV,aZ]at np⊢;subst np;simp[execOp,ho,ec,hg,r1]
  ·simp only[aQ]at np⊢;subst np;simp[execOp,ho,ec,hg,r3]
theorem rv{k k':Nat}{op:BinOp}{x y:Operand}{x' y' z':cJ}{neg:Bool}(hx:dp x=some x')(hy:dp y=some y')(hc:jZ k op x' y'=some (.isNil k' neg z')):
 ∃z,k'=k∧op=(if neg then .neq else .eql)∧dp z=some z'∧(x= .const (cC k)∧y=z∨y= .const (cC k)∧x=z)∧k≤4:=by
 unfold jZ at hc;split at hc
 ·split at hc
  ·rename_i h1;simp only[aa,jD.isNil.injEq]at hc;obtain⟨rfl,rfl,rfl⟩:=hc;obtain⟨h2,h3⟩:=lg hy h1;exact⟨x,rfl,rfl,hx,.inr ⟨h2,rfl⟩,h3⟩
  ·split at hc
   ·rename_i h1;simp only[aa,jD.isNil.injEq]at hc;obtain⟨rfl,rfl,rfl⟩:=hc;obtain⟨h2,h3⟩:=lg hx h1;exact⟨y,rfl,rfl,hy,.inl ⟨h2,rfl⟩,h3⟩
   ·cases hc
 ·split at hc
  ·rename_i h1;simp only[aa,jD.isNil.injEq]at hc;obtain⟨rfl,rfl,rfl⟩:=hc;obtain⟨h2,h3⟩:=lg hy h1;exact⟨x,rfl,rfl,hx,.inr ⟨h2,rfl⟩,h3⟩
  ·split at hc
   ·rename_i h1;simp only[aa,jD.isNil.injEq]at hc;obtain⟨rfl,rfl,rfl⟩:=hc;obtain⟨h2,h3⟩:=lg hx h1;exact⟨y,rfl,rfl,hy,.inl ⟨h2,rfl⟩,h3⟩
   ·cases hc
 ·cases hc
theorem xC{k:Nat}{op:BinOp}{x' y':cJ}{ao:jD}(hc:jZ k op x' y'=some ao):∃neg z',ao= .isNil k neg z':=by
 unfold jZ at hc;repeat'(split at hc)
 all_goals first|(simp only[aa]at hc;exact⟨_,_,hc.symm⟩)|cases hc
theorem m_{k:Nat}{op:BinOp}{t t':TypeId}{x y:Operand}{x' y':cJ}{ao:jD}(ho:o.op= .binOp op t x y t')(ht:qL P k t)(he:cr ρ S w e a)(hi:Inv ρ S w)(hx:dp x=some x')(hy:dp y=some y')(hc:jZ k op x' y'=some ao)(h:cu e S ao=some v):Yields P o a ρ S w v:=by
 obtain⟨neg,z',rfl⟩:=xC hc;obtain⟨z,_,np,hz,Sn,hk⟩:=rv hx hy hc;simp only[cu]at h;split at h
 ·rename_i b hb;simp only[aa]at h;subst h;exact vc ho ht hi np Sn hk (GM (bw he hz) hb)
 ·cases h
end
end Go.AL
