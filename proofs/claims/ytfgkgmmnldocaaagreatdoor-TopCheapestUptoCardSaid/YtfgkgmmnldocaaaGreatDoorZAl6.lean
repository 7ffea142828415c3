/- Al6 -/
import Derived.Test.YtfgkgmmnldocaaaGreatDoorZAlI
import Derived.Lib.AppendStr
set_option linter.unusedSectionVars false
set_option linter.unusedSimpArgs false
set_option linter.unusedVariables false
namespace Go.AL
variable[Mode]
abbrev Env:=List (Nat×V)
def Env.get:Env→Nat→V
 |[],_=>.undef
 |(k,v)::r,t=>if t=k then v else Env.get r t
def Env.put(E:Env):Option Nat→V→Env
 |some d,v=>(d,v)::E
 |none,_=>E
inductive Vj where
 |SL (q:TypeId)
 |Wh (kd:KD)
 |mu (kd:KD)
 |TS (kd:KD)
 |TT
 |clip (sz:Nat)
 |range
 |next
 |TV (kd:KD) (zero:V)
 |TU
 deriving Inhabited
inductive gj where
 |p (op:jD)
 |call (f:FuncId) (args:List cJ)
 |gp (x:cJ) (args:List cJ)
 |AP (t:TypeId) (x:cJ)
 |Cj (t:TypeId) (zero:List V)
 |AO (q:TypeId) (sz:Nat) (zero:List V) (n:Nat) (parts:List (Nat×cJ))
 |st (n:Nat) (x v:cJ)
 |app (q:TypeId) (sz:Nat) (s x:cJ)
 |qO (q:TypeId) (sz:Nat) (zero:List V) (l c:cJ)
 |E8 (neg:Bool) (x:cJ)
 |K_ (q:TypeId) (s x:cJ)
 |xs (op:Vj) (l:List cJ)
 deriving Inhabited
structure bj where
 dst:Option Nat
 guard:Option (Nat×Bool)
 stm:gj
 deriving Inhabited
inductive Fl where
 |ay
 |quiet
 |aJ
 |grow
 deriving DecidableEq,Inhabited
inductive AT (α:Type) where
 |fin
 |one (x:α) (r:AT α)
 |alt (a b:AT α)
 deriving Inhabited
structure Hint where
 own:Nat→Bool
 ord:Nat→List (Nat×Fl)
inductive e8 where
 |skip
 |reg (ops:List bj)
 |cX (l:List (Fl×bj))
 |pS (pre a b:List (Fl×bj))
 |sX (t:AT (Fl×bj))
 |seq (a b:e8)
 |cond (c:cJ) (x y:e8)
 |block (id:Nat) (c:e8)
 |loop (c:e8)
 |exit (id:Nat)
 |ret
 |stuck
 |rb (t:Nat)
 deriving Inhabited
def o8(P:Program)(f:FuncId):Prop:=∃fn,P.funcs[f]?=some fn∧(fn.name== "runtime.NumGoroutine")=false∧fn.body.isNone=false
def ak(P:Program)(f:FuncId)(args:List V)(S:ae)(R:V→ae→Prop):Prop:=
 o8 P f∧∀(ρ:Place) (w:World) (us:Array Value),Inv ρ S w→D5 ρ S w args us→
  Calls P f us w fun en w'=>∃dn S' r u,en= .returned u∧VR dn S' w' false r u∧Inv dn S' w'∧Ext ρ S w dn S' w'∧R r S'
theorem ak.mono{P:Program}{f:FuncId}{args:List V}{S:ae}{R R':V→ae→Prop}(h:ak P f args S R)(hr:∀v S',R v S'→R' v S'):ak P f args S R':=
 ⟨h.1,fun ρ w us hi hv=>(h.2 ρ w us hi hv).mono fun _ _ ⟨dn,S',r,u,h1,h2,h3,h4,h5⟩=>⟨dn,S',r,u,h1,h2,h3,h4,hr _ _ h5⟩⟩
def nh(v:Option V)(S:ae)(K:V→ae→Prop):Prop:=
 match v with
 |some v=>K v S
 |none=>False
def SY(n:Nat)(p:V)(o:Option (List V))(S:ae)(K:V→ae→Prop):Prop:=
 match p,o with
 | .ptr id aI row off,some vs=>match S.bq id aI with
   |some (t,sz,rows)=>match rows[row]? with
    |some r=>vs.length=n∧off+n≤r.length∧K .cq (S.set id ⟨aI,some (.arr t sz (rows.set row (gU r off vs)))⟩)
    |none=>False
   |none=>False
 |_,_=>False
def dw:Nat:=4294967296
def kj(q:TypeId)(sz:Nat)(v:V)(src:Option (Nat×List (List V)))(S:ae)(K:V→ae→Prop):Prop:=
 match v,src with
 | .aM,some (kW,rs)=>kW=sz∧rs.length≤dw∧K (.cU S.length 0 0 rs.length) (S++[⟨0,some (.arr q sz rs)⟩])
 | .cU id aI 0 len,some (kW,rs)=>match S.bq id aI with
   |some (t,tV,rows)=>t=q∧kW=sz∧tV=sz∧rows.length=len∧len+rs.length≤dw∧K (.cU id (aI+1) 0 (len+rs.length)) (S.set id ⟨aI+1,some (.arr q sz (rows++rs))⟩)
   |none=>False
 |_,_=>False
def oy(S:ae)(sz:Nat):V→Option (Nat×List (List V))
 | .aM=>some (sz,[])
 |v=>ml S v
def gT(l:List UInt8):List (List V):=l.map fun b=>[.int .u8 b.toNat]
def JA:V→Option (Nat×List (List V))
 | .str l=>some (1,gT l)
 |_=>none
def Sm(q:TypeId)(sz:Nat)(zero:List V)(l c:V)(S:ae)(K:V→ae→Prop):Prop:=
 match l,c with
 | .int _ n,.int _ m=>0≤n∧n≤m∧m≤(dw:Int)∧K (.cU S.length 0 0 n.toNat) (S++[⟨0,some (.arr q sz (eJ zero n.toNat))⟩])
 |_,_=>False
def kO(neg:Bool)(v:V)(S:ae)(K:V→ae→Prop):Prop:=
 match v with
 | .sl _ []=>K (.bool true) S∧K (.bool false) S
 | .cU id aI _ 0=>(S.bq id aI).isSome=true∧K (.bool true) S∧K (.bool false) S
 |v=>match lZ S 0 v with
  |some b=>K (.bool (if neg then !b else b)) S
  |none=>False
def GJ(q:TypeId)(x l:V)(S:ae)(K:V→ae→Prop):Prop:=
 match x,l with
 | .nilPtr,.int .i64 n=>n=0∧K (.str []) S
 | .ptr id aI row off,.int .i64 n=>match S.bq id aI with
   |some (t,sz,rows)=>row=0∧off=0∧t=q∧sz=1∧∃bs,rows=gT bs∧n=bs.length∧bs≠[]∧K (.str bs) (S.set id ⟨aI+1,none⟩)
   |none=>False
 |_,_=>False
def NL(kd:KD)(m k:V)(r:V)(f:List (V×V)→List (V×V))(S:ae)(K:V→ae→Prop):Prop:=
 match m with
 | .eF id aI=>match S.kp id aI with
   |some (oO,rows,x)=>x= .free∧oO=kd∧jl kd k=true∧K r (S.set id ⟨aI,some (.mp ⟨kd,f rows,.free⟩)⟩)
   |none=>False
 |_=>False
def yo(m:V)(S:ae)(K:V→ae→Prop):Prop:=
 match m with
 | .eF id aI=>match S.kp id aI with
   |some (kd,_,x)=>x= .free∧K (.dI []) (S.set id ⟨aI,some (.mp ⟨kd,[],.free⟩)⟩)
   |none=>False
 |_=>False
def NT(kd:KD)(S:ae)(K:V→ae→Prop):Prop:=K (.eF S.length 0) (S++[⟨0,some (.mp ⟨kd,[],.free⟩)⟩])
def oF(m:V)(S:ae)(K:V→ae→Prop):Prop:=
 match m with
 | .fp=>K (.eF S.length 0) (S++[⟨0,some (.mp ⟨.st [],[],.iter none none⟩)⟩])
 | .eF id aI=>match S.kp id aI with
   |some (kd,rows,x)=>x= .free∧K (.eF S.length 0) ((S.set id ⟨aI,some (.mp ⟨kd,rows,.held S.length⟩)⟩)++[⟨0,some (.mp ⟨kd,rows,.iter (some (id,aI)) none⟩)⟩])
   |none=>False
 |_=>False
def yk(m:V)(S:ae)(K:V→ae→Prop):Prop:=
 match m with
 | .eF it iO=>match S.kp it iO with
   |some (_,_,.iter none _)=>K (.dI [.bool false]) S
   |some (kd,rest,.iter (some (id,aI)) _)=>match S.kp id aI with
    |some (oO,rows,.held Ic)=>Ic=it∧(rest=[]→K (.dI [.bool false]) (S.set id ⟨aI,some (.mp ⟨oO,rows,.free⟩)⟩))∧
     ∀(p:V×V) (BZ:List (V×V)),rest.Perm (p::BZ)→K (.dI [.bool true,p.1,p.2]) (S.set it ⟨iO,some (.mp ⟨kd,BZ,.iter (some (id,aI)) (some p)⟩)⟩)
    |_=>False
   |_=>False
 |_=>False
def yw(kd:KD)(zero m k:V)(S:ae)(K:V→ae→Prop):Prop:=
 match m with
 | .eF id aI=>match S.kp id aI with
   |some (oO,rows,x)=>x= .free∧oO=kd∧jl kd k=true∧
    ∀(j n:Nat) (p:V×V),(kr k ((gn k rows).getD zero) rows)[j]?=some p→jX k p.1=true→(∀(i:Nat) (q:V×V),i<j→(kr k ((gn k rows).getD zero) rows)[i]?=some q→jX k q.1=false)→
     K (.dI [(gn k rows).getD zero,.int .i64 n]) (S.set id ⟨aI,some (.mp ⟨kd,kr k ((gn k rows).getD zero) rows,.opened j n⟩)⟩)
   |none=>False
 |_=>False
def yu(m s v:V)(S:ae)(K:V→ae→Prop):Prop:=
 match m,s with
 | .eF id aI,.int .i64 n'=>match S.kp id aI with
   |some (kd,rows,.opened j n)=>n'=(n:Int)∧K .cq (S.set id ⟨aI,some (.mp ⟨kd,rows.modify j (fun p=>(p.1,v)),.free⟩)⟩)
   |_=>False
 |_,_=>False
def DM(sz:Nat)(x h m:V)(S:ae)(K:V→ae→Prop):Prop:=
 match x,h,m with
 | .aM,.int _ b,.int _ c=>b=0∧c=0∧K .aM S
 | .cU id aI 0 len,.int _ b,.int _ c=>match S.bq id aI with
   |some (t,kW,rows)=>kW=sz∧0≤b∧b≤c∧c≤len∧K (.cU id (aI+1) 0 b.toNat) (S.set id ⟨aI+1,some (.arr t kW (rows.take b.toNat))⟩)
   |none=>False
 |_,_,_=>False
def eK(op:Vj)(l:List V)(S:ae)(K:V→ae→Prop):Prop:=
 match op,l with
 | .SL q,[x,n]=>GJ q x n S K
 | .Wh kd,[]=>NT kd S K
 | .Wh kd,[.int _ _]=>NT kd S K
 | .mu kd,[m,k,v]=>NL kd m k .cq (kr k v) S K
 | .TS kd,[m,k]=>NL kd m k (.dI []) (DB k) S K
 | .TT,[m]=>yo m S K
 | .clip sz,[x,h,m]=>DM sz x h m S K
 | .TV kd zero,[m,k]=>yw kd zero m k S K
 | .TU,[m,s,v]=>yu m s v S K
 | .range,[m]=>oF m S K
 | .next,[m]=>yk m S K
 |_,_=>False
def dJ(P:Program)(s:gj)(e:Nat→V)(S:ae)(K:V→ae→Prop):Prop:=
 match s with
 | .p op=>nh (cu e S op) S K
 | .call f args=>ak P f (iy e args) S K
 | .gp x args=>match ev e x with
   | .func f first cap=>ak P f (first++iy e args++cap) S K
   |_=>False
 | .AP t x=>match(ev e x).cells? with
   |some vs=>K (.ptr S.length 0 0 0) (S++[⟨0,some (.arr t vs.length [vs])⟩])
   |none=>False
 | .Cj t zero=>K (.ptr S.length 0 0 0) (S++[⟨0,some (.arr t zero.length [zero])⟩])
 | .AO q sz zero n parts=>match j_ e sz (eJ zero n) parts with
   |some rows=>K (.cU S.length 0 0 n) (S++[⟨0,some (.arr q sz rows)⟩])
   |none=>False
 | .st n x v=>SY n (ev e x) (ev e v).cells? S K
 | .app q sz s x=>kj q sz (ev e s) (oy S sz (ev e x)) S K
 | .qO q sz zero l c=>Sm q sz zero (ev e l) (ev e c) S K
 | .E8 neg x=>kO neg (ev e x) S K
 | .K_ q s x=>kj q 1 (ev e s) (JA (ev e x)) S K
 | .xs op l=>eK op (iy e l) S K
def mO(g:Option (Nat×Bool))(E:Env)(a b:Env→Prop):Prop:=
 match g with
 |none=>a E
 |some (t,want)=>match E.get t with
  | .bool x=>(x=want→a ((t,.bool want)::E))∧(x=!want→b ((t,.bool !want)::E))
  | .cq=>b E
  |_=>False
def nH(P:Program):List bj→Env→ae→(Env→ae→Prop)→Prop
 |[],E,S,K=>K E S
 |⟨d,g,s⟩::r,E,S,K=>mO g E (fun E=>dJ P s E.get S fun v S'=>nH P r (E.put d v) S' K) (fun E=>nH P r (E.put d .cq) S K)
def pK(P:Program)(s:gj)(e:Nat→V)(S:ae)(K:V→Prop):Prop:=
 match s with
 | .p op=>match cu e S op with
   |some v=>K v
   |none=>False
 | .call f args=>∃v,ak P f (iy e args) S (fun r S'=>r=v∧S'=S)∧K v
 | .gp x args=>match ev e x with
   | .func f first cap=>∃v,ak P f (first++iy e args++cap) S (fun r S'=>r=v∧S'=S)∧K v
   |_=>False
 |_=>False
def jD.free:jD→Bool
 | .t_ _| .mM .. | .pN .. | .nu .. | .ld1 _| .D_ .. | .w_ .. | .gX _| .isNil .. | .QO _| .xo .. =>false
 |_=>true
def bJ(P:Program)(s:gj)(e:Nat→V)(v:V):Prop:=
 match s with
 | .p op=>op.free=true∨∀S,cu e S op=some v
 | .call f args=>∀S,ak P f (iy e args) S (fun r S'=>r=v∧S'=S)
 | .gp x args=>match ev e x with
   | .func f first cap=>∀S,ak P f (first++iy e args++cap) S (fun r S'=>r=v∧S'=S)
   |_=>False
 |_=>False
def wc(P:Program)(s:gj)(e:Nat→V)(S:ae)(v:V):Prop:=
 match s with
 | .p _=>True
 | .call f args=>∀T,ak P f (iy e args) (S++T) (fun r S'=>r=v∧S'=S++T)
 | .gp x args=>match ev e x with
   | .func f first cap=>∀T,ak P f (first++iy e args++cap) (S++T) (fun r S'=>r=v∧S'=S++T)
   |_=>False
 |_=>False
def ku(P:Program)(f:Fl)(s:gj)(e:Nat→V)(S:ae)(K:V→ae→Prop):Prop:=
 match f with
 | .ay=>dJ P s e S K
 | .quiet=>pK P s e S fun v=>K v S
 | .aJ=>pK P s e S fun v=>bJ P s e v∧K v S
 | .grow=>pK P s e S fun v=>wc P s e S v∧K v S
def ga(P:Program):List (Fl×bj)→Env→ae→(Env→ae→Prop)→Prop
 |[],E,S,K=>K E S
 |(f,⟨d,g,s⟩)::r,E,S,K=>mO g E (fun E=>ku P f s E.get S fun v S'=>ga P r (E.put d v) S' K) (fun E=>ga P r (E.put d .cq) S K)
def lG(P:Program):AT (Fl×bj)→Env→ae→(Env→ae→Prop)→Prop
 | .fin,E,S,K=>K E S
 | .one x r,E,S,K=>ga P [x] E S fun E S=>lG P r E S K
 | .alt a b,E,S,K=>lG P a E S K∧lG P b E S K
def Vq(P:Program)(t:TypeId):Option (List V):=
 match P.info? t with
 |some i=>(i.zero.bind V.j9).bind V.cells?
 |none=>none
def lj(P:Program)(q:TypeId):Bool:=match P.info? q with
 |some i=>decide (i.bytes≤32768)
 |none=>false
def Fk(P:Program)(t:TypeId):Bool:=match P.underlying t with
 |some .string=>true
 |_=>false
theorem CB{P:Program}{t:TypeId}(h:Fk P t=true):P.underlying t=some .string:=by
 unfold Fk at h;split at h
 ·assumption
 ·cases h
def uC(P:Program)(f:FuncId):Bool:=match P.funcs[f]? with
 |some fn=>fn.name== "internal/abi.NoEscape" &&fn.origin== "" &&fn.body.isNone
 |none=>false
def FZ(P:Program)(o:Oper):Option gj:=
 match o.op with
 | .makeMap t r=>match P.underlying t,r7 r with
   |some (.map kt _),some r'=>(n5 P kt).map fun kd=>.xs (.Wh kd) r'.toList
   |_,_=>none
 | .range t x=>match P.underlying t,dp x with
   |some (.map _ _),some x=>some (.xs .range [x])
   |_,_=>none
 | .next x false=>match dp x with
   |some x=>some (.xs .next [x])
   |none=>none
 | .mapEntry t m k=>match P.underlying t,dp m,dp k with
   |some (.map kt et),some m,some k=>match n5 P kt,zeroV P et with
    |some kd,some z=>some (.xs (.TV kd z) [m,k])
    |_,_=>none
   |_,_,_=>none
 | .entryStore _ m s x=>match dp m,dp s,dp x with
   |some m,some s,some x=>some (.xs .TU [m,s,x])
   |_,_,_=>none
 | .mapUpdate t m k v=>match P.underlying t,dp m,dp k,dp v with
   |some (.map kt _),some m,some k,some v=>(n5 P kt).map fun kd=>.xs (.mu kd) [m,k,v]
   |_,_,_,_=>none
 | .insert t m k v=>match P.underlying t,dp m,dp k,dp v with
   |some (.map kt _),some m,some k,some v=>(n5 P kt).map fun kd=>.xs (.mu kd) [m,k,v]
   |_,_,_,_=>none
 | .call c=>match c.callee,c.args.toList with
   | .builtin .unsafeString,[x,l]=>match c.argTypes.toList,dp x,dp l with
     |[pt,_],some x,some l=>match P.underlying pt with
      |some (.pointer e)=>if P.cellsOf e=1 then some (.xs (.SL e) [x,l])else none
      |_=>none
     |_,_,_=>none
   | .value (.func f),[x]=>if uC P f then(dp x).map fun x=>.p (.mv x)else none
   | .builtin .delete,[m,k]=>match c.argTypes.toList,dp m,dp k with
     |[t,_],some m,some k=>match P.underlying t with
      |some (.map kt _)=>(n5 P kt).map fun kd=>.xs (.TS kd) [m,k]
      |_=>none
     |_,_,_=>none
   | .builtin .clear,[m]=>match c.argTypes.toList,dp m with
     |[t],some m=>match P.underlying t with
      |some (.map _ _)=>some (.xs .TT [m])
      |_=>none
     |_,_=>none
   |_,_=>none
 |_=>none
def IX(P:Program)(own:Hint)(o:Oper):Option gj:=
 match o.op with
 | .box t x=>if(o.dst.map own.own).getD false then(dp x).map (.AP t)else none
 | .buildSlice t n parts=>if(o.dst.map own.own).getD false then
  match xc P t,oI parts.toList with
  |some (q,sz,zero),some ps=>if n*sz≤2^24 then some (.AO q sz zero n ps)else none
  |_,_=>none
   else none
 | .alloc t=>(Vq P t).map (.Cj t)
 | .store t x v=>match er P t,dp x,dp v with
   |some n,some x,some v=>some (.st n x v)
   |_,_,_=>none
 | .makeSlice t l c=>match xc P t,dp l,dp c with
   |some (q,sz,zero),some l,some c=>if lj P q then some (.qO q sz zero l c)else none
   |_,_,_=>none
 | .call c=>match c.callee,la c.args.toList with
   | .value (.func f),some l=>if uC P f then none else some (.call f l)
   | .value (.tmp t),some l=>some (.gp (.t t) l)
   | .builtin .append,some [s,x]=>match c.argTypes.toList with
     |[t,t']=>match xc P t with
      |some (q,sz,_)=>if t=t'∧lj P q=true then some (.app q sz s x)else if sz=1∧Fk P t'=true∧lj P q=true then some (.K_ q s x)else none
      |none=>none
     |_=>none
   |_,_=>none
 | .binOp op t x y _=>if(o.dst.map own.own).getD false then
  match P.underlying t,dp x,dp y with
  |some (.slice _),some x,some y=>match jZ 0 op x y with
   |some (.isNil _ neg z)=>some (.E8 neg z)
   |_=>none
  |_,_,_=>none
   else none
 | .slice t x none (some h) (some m)=>if(o.dst.map own.own).getD false then
  match P.underlying t,dp x,dp h,dp m with
  |some (.slice e),some x,some h,some m=>(er P e).map fun n=>.xs (.clip n) [x,h,m]
  |_,_,_,_=>none
   else none
 |_=>none
def rm(P:Program)(own:Hint)(o:Oper):Option gj:=
 match IX P own o with
 |some s=>some s
 |none=>match FZ P o with
  |some s=>some s
  |none=>(F0 P o).map .p
def iR(ops:Array Oper):Option (Nat×Bool)→Option (Option (Nat×Bool))
 |none=>some none
 |some (j,want)=>match(ops[j]?).bind (·.dst)with
  |some t=>some (some (t,want))
  |none=>none
def fN(P:Program)(own:Hint)(N:Nat)(ops:Array Oper):List Oper→Option (List bj)
 |[]=>some []
 |o::r=>match rm P own o,iR ops o.guard,fN P own N ops r with
  |some s,some g,some is=>if(o.dst.map (fun x=>decide (x<N))).getD true then some (⟨o.dst,g,s⟩::is)else none
  |_,_,_=>none
def cJ.looks:cJ→List Nat
 | .t n=>[n]
 | .c _=>[]
def E6:Option cJ→List Nat
 |some x=>x.looks
 |none=>[]
def jD.looks:jD→List Nat
 | .mv x| .not x| .neg x| .vP x| .t_ x| .nu _ x| .ld1 x| .D_ _ x| .KF _ x| .FK _ _ x| .conv _ x| .ext _ x| .K6 x| .gX x| .mkIf _ x| .ZG _ _ _ x| .isNil _ _ x| .QO x=>x.looks
 | .pick a b c=>a.looks++b.looks++c.looks
 | .bin _ x y| .Pw _ x y| .qS x y| .mM _ x y| .pN _ _ x y| .CJ _ x y| .lJ _ x y=>x.looks++y.looks
 | .build _ ps=>ps.flatMap fun p=>p.2.2.looks
 | .XS _ _ _ ps=>ps.flatMap fun p=>p.2.looks
 | .tY _ a b=>a.flatMap cJ.looks++b.flatMap cJ.looks
 | .Te x a b| .w_ _ x a b=>x.looks++E6 a++E6 b
 | .xo _ l=>l.flatMap cJ.looks
def gj.looks:gj→List Nat
 | .p op=>op.looks
 | .call _ l=>l.flatMap cJ.looks
 | .gp x l=>x.looks++l.flatMap cJ.looks
 | .AP _ x=>x.looks
 | .Cj _ _=>[]
 | .AO _ _ _ _ ps=>ps.flatMap fun p=>p.2.looks
 | .st _ x v=>x.looks++v.looks
 | .app _ _ x y=>x.looks++y.looks
 | .qO _ _ _ x y=>x.looks++y.looks
 | .E8 _ x=>x.looks
 | .K_ _ x y=>x.looks++y.looks
 | .xs _ l=>l.flatMap cJ.looks
def bj.looks(i:bj):List Nat:=i.stm.looks++(match i.guard with
 |some (t,_)=>[t]
 |none=>[])
def bj.apart(x y:bj):Bool:=
 (match x.dst with
  |some d=>!(y.looks).contains d&&y.dst !=some d
  |none=>true)&&
 (match y.dst with
  |some d=>!(x.looks).contains d
  |none=>true)
def bj.q_(i:bj):Bool:=match i.stm with
 | .Cj .. | .AP .. | .AO .. | .p _| .qO .. =>true
 |_=>false
def Fb(ms:List Nat)(o:Oper):Nat:=o.after.toList.foldl (fun m e=>if Region.binds .any e then m|||(2^e.on|||ms.getD e.on 0)else m) 0
def Ag:List Oper→List Nat→List Nat
 |[],ms=>ms
 |o::r,ms=>Ag r (ms++[Fb ms o])
def mw(ops:Array Oper):List Nat:=Ag ops.toList []
def iY(full:List (Nat×Fl))(i:Nat):Fl:=match full.find? (fun p=>p.1==i)with
 |some p=>p.2
 |none=>.ay
def TH(ops:Array Oper)(items:List bj)(ms:List Nat)(full:List (Nat×Fl)):Nat→List (Nat×Fl)→Bool
 |_,[]=>true
 |done,(i,f)::r=>
  !done.testBit i&&decide (iY full i=f)&&
  (match ops[i]?,items[i]? with
   |some o,some x=>(o.after.toList.all fun e=>!Region.binds .any e||done.testBit e.on)&&
    (r.all fun p=>(ms.getD p.1 0).testBit i||(decide (f≠ .ay)&&(match items[p.1]? with
      |some y=>x.apart y&&(decide (p.2≠ .ay)||decide (f= .aJ)||(decide (f= .grow)&&y.q_))
      |none=>false)))
   |_,_=>false)&&TH ops items ms full (done|||2^i) r
def na(items:List bj):List (Nat×Fl)→Option (List (Fl×bj))
 |[]=>some []
 |(i,f)::r=>match items[i]?,na items r with
  |some it,some l=>some ((f,it)::l)
  |_,_=>none
def z_(ops:Array Oper)(items:List bj)(l:List (Nat×Fl)):Bool:=
 decide (l.length=ops.size)&&((List.range ops.size).all fun i=>l.any fun p=>p.1==i)&&TH ops items (mw ops) l 0 l
def va(m:Nat):List (Nat×Fl)→Option (List (Nat×Fl)×List (Nat×Fl))
 |[]=>none
 |(i,f)::r=>if i=m then some ([],r)else match va m r with
  |some (a,b)=>some ((i,f)::a,b)
  |none=>none
def S_(l:List (Nat×Fl)):Option (List (Nat×Fl)×List (Nat×Fl)×List (Nat×Fl)):=
 match va 1000000 l with
 |some (pre,r)=>match va 1000001 r with
  |some (a,b)=>some (pre,a,b)
  |none=>none
 |none=>none
def okI(ops:Array Oper)(items:List bj)(ms:List Nat)(full rest:List (Nat×Fl))(done i:Nat)(f:Fl):Bool:=
 !done.testBit i&&decide (iY full i=f)&&
  (match ops[i]?,items[i]? with
   |some o,some x=>(o.after.toList.all fun e=>!Region.binds .any e||done.testBit e.on)&&
    (rest.all fun p=>(ms.getD p.1 0).testBit i||(decide (f≠ .ay)&&(match items[p.1]? with
     |some y=>x.apart y&&(decide (p.2≠ .ay)||decide (f= .aJ)||(decide (f= .grow)&&y.q_))
     |none=>false)))
   |_,_=>false)
def okP(ops:Array Oper)(items:List bj)(ms:List Nat)(full tail:List (Nat×Fl)):Nat→List (Nat×Fl)→Option Nat
 |done,[]=>some done
 |done,(i,f)::r=>if okI ops items ms full (r++tail) done i f=true then okP ops items ms full tail (done|||2^i) r else none
def aad(ops:Array Oper)(items:List bj)(ms:List Nat)(full:List (Nat×Fl))(done:Nat):List (Nat×Fl)→List (Nat×Fl)→Bool
 |(i,.ay)::r,(j,.ay)::r2=>decide (i≠j)&&
    (r.all fun p=>p.1==j||(ms.getD p.1 0).testBit i||(ms.getD p.1 0).testBit j)&&(r.all fun p=>p.1==j||r2.any fun q=>q.1==p.1)&&(r2.any fun q=>q.1==i)&&
    decide (r.length=r2.length)&&decide (iY full i= .ay)&&decide (iY full j= .ay)&&!done.testBit i&&!done.testBit j&&
    (match ops[i]?,ops[j]?,items[i]?,items[j]? with
     |some o,some o',some _,some _=>(o.after.toList.all fun e=>!Region.binds .any e||done.testBit e.on)&&(o'.after.toList.all fun e=>!Region.binds .any e||done.testBit e.on)
     |_,_,_,_=>false)&&
    TH ops items ms full (done|||2^i) r&&TH ops items ms full (done|||2^j) r2
 |_,_=>false
def vz(ops:Array Oper)(items:List bj)(pre post mq:List (Nat×Fl)):Bool:=
 decide ((pre++post).length=ops.size)&&((List.range ops.size).all fun i=>(pre++post).any fun p=>p.1==i)&&(match okP ops items (mw ops) (pre++post) post 0 pre with
  |some d=>aad ops items (mw ops) (pre++post) d post mq
  |none=>false)&&(post.all fun p=>decide (iY (pre++post) p.1=p.2))&&(mq.all fun p=>decide (iY (pre++post) p.1=p.2))
def zR(items:List bj):AT (Nat×Fl)→Option (AT (Fl×bj))
 | .fin=>some .fin
 | .one (i,f) r=>match items[i]?,zR items r with
   |some it,some l=>some (.one (f,it) l)
   |_,_=>none
 | .alt a b=>match zR items a,zR items b with
   |some x,some y=>some (.alt x y)
   |_,_=>none
def jT:AT (Nat×Fl)→List Nat
 | .fin=>[]
 | .one (i,_) _=>[i]
 | .alt a b=>jT a++jT b
def yW:AT (Nat×Fl)→List (Nat×Fl)
 | .fin=>[]
 | .one x r=>x::yW r
 | .alt a _=>yW a
def J1(full:List (Nat×Fl))(done:Nat):List (Nat×Fl):=full.filter fun p=>!done.testBit p.1
def ye(ops:Array Oper)(items:List bj)(ms:List Nat)(full:List (Nat×Fl)):AT (Nat×Fl)→Bool→Nat→Nat→Bool
 | .fin,under,n,done=>!under&&decide (n=0)&&((List.range ops.size).all fun i=>done.testBit i)
 | .one (i,f) r,under,n,done=>match n with
   |0=>false
   |n+1=>(if under=true then decide (f= .ay)&&decide (iY full i= .ay)&&!done.testBit i&&(match ops[i]?,items[i]? with
     |some o,some _=>o.after.toList.all fun e=>!Region.binds .any e||done.testBit e.on
     |_,_=>false)else okI ops items ms full (J1 full (done|||2^i)) done i f)&&ye ops items ms full r false n (done|||2^i)
 | .alt a b,under,n,done=>match n with
   |0=>false
   |n+1=>(under||(J1 full done).all fun p=>(jT a++jT b).contains p.1||(jT a++jT b).any fun h=>(ms.getD p.1 0).testBit h)&&(ye ops items ms full a true (n+1) done&&ye ops items ms full b true (n+1) done)
def z7:Nat→List (Nat×Fl)→Option (AT (Nat×Fl)×List (Nat×Fl))
 |0,_=>none
 |_+1,[]=>some (.fin,[])
 |n+1,(i,f)::r=>if i=1000002 then match z7 n r with
   |some (a,r1)=>match z7 n r1 with
    |some (b,r2)=>some (.alt a b,r2)
    |none=>none
   |none=>none
  else if i=1000003 then some (.fin,r)else match z7 n r with
   |some (t,r1)=>some (.one (i,f) t,r1)
   |none=>none
def ZD(l:List (Nat×Fl)):Option (AT (Nat×Fl)):=match z7 (l.length+1) l with
 |some (t,[])=>some t
 |_=>none
def vy(ops:Array Oper)(items:List bj)(t:AT (Nat×Fl)):Bool:=
 ((List.range ops.size).all fun i=>(yW t).any fun p=>p.1==i&&decide (iY (yW t) i=p.2))&&ye ops items (mw ops) (yW t) t false ops.size 0
def WO(own:Hint)(N id:Nat):Option Nat:=(List.range N).find? fun t=>own.own (1000000*(t+1)+id)
def ajo(o:Option Nat)(c:e8):e8:=match o with
 |none=>c
 |some t=>.seq c (.rb t)
def jA(P:Program)(own:Hint)(N:Nat):Code→Option e8
 | .skip=>some .skip
 | .region id ops false=>(fN P own N ops ops.toList).map fun l=>ajo (WO own N id) (.reg l)
 | .region id ops true=>match fN P own N ops ops.toList,P.follows .mixedOrders with
   |some items,true=>if(own.ord id).any (fun p=>p.1==1000002)then match ZD (own.ord id)with
    |some t=>if vy ops items t then(zR items t).map .sX else none
    |none=>none
    else match S_ (own.ord id)with
    |none=>if z_ ops items (own.ord id)then(na items (own.ord id)).map .cX else none
    |some (pre,post,mq)=>if vz ops items pre post mq then match na items pre,na items post,na items mq with
     |some a,some b,some c=>some (.pS a b c)
     |_,_,_=>none else none
   |_,_=>none
 | .seq a b=>match jA P own N a,jA P own N b with
   |some a,some b=>some (.seq a b)
   |_,_=>none
 | .cond c x y=>match dp c,jA P own N x,jA P own N y with
   |some c,some x,some y=>some (.cond c x y)
   |_,_,_=>none
 | .block id c=>(jA P own N c).map (.block id)
 | .loop c=>(jA P own N c).map .loop
 | .exit id=>some (.exit id)
 | .ret=>some .ret
 |_=>some .stuck
structure kL where
 ρ:Place
 S:ae
 w:World
structure Rel(N:Nat)(ρ:Place)(S:ae)(w:World)(e:Nat→V)(a:Act):Prop where
 inv:Inv ρ S w
 defers:a.defers=[]
 size:a.tmps.size=N
 jK:cr ρ S w e a
def qg:Exit→Prop
 | .normal| .exit _| .ret=>True
 |_=>False
def post(N:Nat)(σ:kL)(Q:Exit→Env→ae→Prop):Exit→Act→World→Prop:=fun x a w=>
 qg x∧∃ρ E S,Ext σ.ρ σ.S σ.w ρ S w∧Rel N ρ S w E.get a∧Q x E S
def W(P:Program)(N:Nat)(σ:kL)(c:Code)(Q:Exit→Env→ae→Prop)(E:Env)(S:ae):Prop:=
 ∀ρ a w,Ext σ.ρ σ.S σ.w ρ S w→Rel N ρ S w E.get a→c.wp P (post N σ Q) a w
def jC(P:Program)(N:Nat)(σ:kL)(b:e8)(Q:Exit→Env→ae→Prop)(E:Env)(S:ae):Prop:=
 ∀c own,jA P own N c=some b→W P N σ (.loop c) Q E S
def mZ(K:Env→ae→Prop)(Q:Exit→Env→ae→Prop):Exit→Env→ae→Prop
 | .normal,E,S=>K E S
 |x,E,S=>Q x E S
def nL(id:Nat)(Q:Exit→Env→ae→Prop):Exit→Env→ae→Prop
 | .exit i,E,S=>if i=id then Q .normal E S else Q (.exit i) E S
 |x,E,S=>Q x E S
def wB(v:V)(x y:Prop):Prop:=
 match v with
 | .bool b=>(b=true→x)∧(b=false→y)
 |_=>False
def FJ(o:Option (TypeId×Nat×List (List V)))(id aI t:Nat)(E:Env)(S:ae)(K:Env→ae→Prop):Prop:=match o with
 |some (_,_,[cells])=>V.bQ cells=true∧K ((t,.bK cells)::E) (S.set id ⟨aI,none⟩)
 |_=>False
def AA(v:V)(t:Nat)(E:Env)(S:ae)(K:Env→ae→Prop):Prop:=match v with
 | .ptr id aI 0 0=>FJ (S.bq id aI) id aI t E S K
 |_=>False
def ji(P:Program)(N:Nat)(σ:kL):e8→(Exit→Env→ae→Prop)→Env→ae→Prop
 | .skip,Q,E,S=>Q .normal E S
 | .reg ops,Q,E,S=>nH P ops E S (Q .normal)
 | .cX l,Q,E,S=>ga P l E S (Q .normal)
 | .pS a b c,Q,E,S=>ga P a E S fun E S=>ga P b E S (Q .normal)∧ga P c E S (Q .normal)
 | .sX t,Q,E,S=>lG P t E S (Q .normal)
 | .seq a b,Q,E,S=>ji P N σ a (mZ (ji P N σ b Q) Q) E S
 | .cond c x y,Q,E,S=>wB (ev E.get c) (ji P N σ x Q E S) (ji P N σ y Q E S)
 | .block id c,Q,E,S=>ji P N σ c (nL id Q) E S
 | .loop c,Q,E,S=>jC P N σ c Q E S
 | .exit id,Q,E,S=>Q (.exit id) E S
 | .ret,Q,E,S=>Q .ret E S
 | .stuck,_,_,_=>False
 | .rb t,Q,E,S=>AA (E.get t) t E S (Q .normal)
section
variable{P:Program}{N:Nat}{σ:kL}
theorem cr.put{ρ:Place}{S:ae}{w:World}{E:Env}{a:Act}(h:cr ρ S w E.get a){d:Option Nat}(hd:(d.map (fun x=>decide (x<a.tmps.size))).getD true=true){v:V}{u:Value}(hv:VR ρ S w false v u):
 cr ρ S w (E.put d v).get (a.put d u):=by
 cases d with
 |none=>exact h
 |some d=>
  intro t;simp only[bU,bL,aL]at hd;simp only[Env.put,Env.get,Act.put,aY,iT];by_cases ht:t=d
  ·subst ht;simp[hd];exact hv
  ·rw[aC ht,aC (fun hh=>ht hh.symm)];have:=h t;rwa[aY]at this
theorem cr.ext{ρ dn:Place}{S S':ae}{w w':World}{e:Nat→V}{a:Act}(h:cr ρ S w e a)(hx:Ext ρ S w dn S' w'):cr dn S' w' e a:=fun t=>(h t).ext hx
theorem vA{ρ:Place}{S:ae}{w:World}{e:Nat→V}{a:Act}(he:cr ρ S w e a):∀{xs:List Operand} {ys:List cJ},la xs=some ys→xs.length=ys.length∧∀(j:Nat) (v:V),(iy e ys)[j]?=some v→∃u,(xs.map a.eval)[j]?=some u∧VR ρ S w false v u
 |[],ys,h=>by simp only[la,aa]at h;subst h;simp[iy]
 |x::xs,ys,h=>by
  simp only[la]at h;split at h
  ·rename_i y ys' hy T9;simp only[aa]at h;subst h;obtain⟨a1,a2⟩:=vA he T9;refine⟨by simp[a1],fun j v hv=>?_⟩;cases j with
   |zero=>simp[iy]at hv;subst hv;exact⟨_,by simp,bw he hy⟩
   |succ j=>simp only[iy,bd,dM]at hv⊢;exact a2 j v hv
  ·cases h
def eL(P:Program)(o:Oper)(a:Act)(ρ:Place)(S:ae)(w:World)(K:V→ae→Prop):Prop:=
 ∀(next:Act→World→Prop) (Q:Exit→Act→World→Prop),
  (∀dn S' w' v u,VR dn S' w' false v u→Inv dn S' w'→Ext ρ S w dn S' w'→K v S'→next (a.put o.dst u) w')→o.wp P a w next Q
theorem I1{ρ:Place}{S:ae}{w:World}{a:Act}{o:Oper}{f:FuncId}{args:List V}{us:Array Value}{K:V→ae→Prop}(hi:Inv ρ S w)(hr:(execOp a.eval o).run P w=(callFunc f us).run P w)
 (hv:D5 ρ S w args us)(h:ak P f args S K):eL P o a ρ S w K:=by
 intro next Q hn
 obtain⟨⟨fn,h1,h2,h3⟩,h4⟩:=h;have ee:(execOp a.eval o).run P w= .ok (.enter f us) w:=by
  rw[hr];simp only[callFunc,Sem.run_bind,run_program,Result.andThen_ok,h1,h2,h3];rfl
 unfold Oper.wp;rw[ee];show Calls P f us w _;refine(h4 ρ w us hi hv).mono fun en w' ⟨dn,S',r,u,e1,e2,e3,e4,e5⟩=>?_;subst e1;exact hn dn S' w' r u e2 e3 e4 e5
theorem cA{ρ:Place}{S:ae}{w:World}{a:Act}{o:Oper}{K:V→ae→Prop}{u:Value}{w':World}{dn:Place}{S':ae}{v:V}(hr:(execOp a.eval o).run P w= .ok (.value u) w')(h1:VR dn S' w' false v u)(h2:Inv dn S' w')(h3:Ext ρ S w dn S' w')(h4:K v S'):
 eL P o a ρ S w K:=by
 intro next Q hn
 unfold Oper.wp;rw[hr];exact hn dn S' w' v u h1 h2 h3 h4
theorem mF(w:World)(cur:Array Value)(t:TypeId):(w.alloc (.cells cur t)).heap.size=w.heap.size+1∧(∀k,k<w.heap.size→(w.alloc (.cells cur t)).heap[k]?=w.heap[k]?)∧(w.alloc (.cells cur t)).heap[w.heap.size]?=some (.cells cur t (0,0)):=
 ⟨by simp,fun _ hk=>Go.heap_alloc_old w _ hk,Go.heap_alloc_new w _⟩
theorem D6.one{ρ:Place}{S:ae}{w:World}{vs:List V}{us:Array Value}(h:CR ρ S w vs us):D6 ρ S w vs.length [vs] us:=by
 refine⟨fun i r hr=>?_,fun i r hr j y hj=>?_⟩
 ·match i,hr with
  |0,hr=>simp at hr;rw[hr]
  |i+1,hr=>simp at hr
 ·match i,hr with
  |0,hr=>
   simp at hr;subst hr;obtain⟨x,h1,h2,h3⟩:=h.2 j y hj;exact⟨x,by simpa using h1,h2,h3⟩
  |i+1,hr=>simp at hr
theorem Mb{o:Oper}{t:TypeId}{n:Nat}{x v:Operand}{x' v':cJ}{ρ:Place}{S:ae}{w:World}{e:Nat→V}{a:Act}{K:V→ae→Prop}(ho:o.op= .store t x v)(hn:er P t=some n)(hx:dp x=some x')(hv:dp v=some v')(he:cr ρ S w e a)(hi:Inv ρ S w)
 (h:SY n (ev e x') (ev e v').cells? S K):eL P o a ρ S w K:=by
 intro next Q hnx
 unfold SY at h;split at h
 ·rename_i id aI row off vs hp CU;split at h
  ·rename_i q sz rows hs;split at h
   ·rename_i r hr;obtain⟨hl,hle,hK⟩:=h;have h1:=bw he hx;rw[hp]at h1;obtain⟨g,db,hg,hu⟩:=h1.fU hs;have h2:=(bw he hv).uY CU;have nA:=df hs;obtain⟨cur,c1,c2,c3,c4,c5⟩:=hi.obj nA hg;have gM:=(List.getElem?_eq_some_iff.1 hr).1;have Kx:=c5.1 row r hr;have hb:row*sz+sz≤db*sz:=by
     have:=dA sz (show row+1≤db by omega);rwa[eM,Nat.one_mul]at this
    have dq:=run_storeCells_at P g (row*sz+off) q (a.eval v).cells.toList 0 cur w c3 (by rw[bP,h2.1];omega) (fun y hy=>by
     obtain⟨j,hj⟩:=List.mem_iff_getElem?.1 hy;have oV:j<vs.length:=by rw[←h2.1];have:=(List.getElem?_eq_some_iff.1 hj).1;simpa using this
     obtain⟨z,e1,_,e3⟩:=h2.2 j vs[j] (ax oV);have w7:(a.eval v).cells[j]?=some y:=by simpa using hj
     rw[e1]at w7;cases w7;exact e3)
    simp only[pb]at dq;have l8:(a.eval v).cells.size=n:=by rw[h2.1,hl]
    have ee:(execOp a.eval o).run P w= .ok .skip (w.setRow g (cur.toList.take (row*sz+off)++(a.eval v).cells.toList++cur.toList.drop (row*sz+off+(a.eval v).cells.toList.length)).toArray):=by
     have hsv:(storeVar t ⟨g,row*sz+off,none⟩ (a.eval v)).run P w= .ok () (w.setRow g (cur.toList.take (row*sz+off)++(a.eval v).cells.toList++cur.toList.drop (row*sz+off+(a.eval v).cells.toList.length)).toArray):=by
      simp only[storeVar,Sem.run_bind,kc hn,Result.andThen_ok,l8,ne_eq,uj,aZ];exact dq
     simp only[execOp,ho,Instr.storeAt,hu,Instr.sureAddr,Sem.run_bind,Sem.run_pure,Result.andThen_ok,hsv]
    generalize C2:(cur.toList.take (row*sz+off)++(a.eval v).cells.toList++cur.toList.drop (row*sz+off+(a.eval v).cells.toList.length)).toArray=kI at ee;have Aq:∀k,kI[k]?=if row*sz+off≤k∧k<row*sz+off+n then(a.eval v).cells[k-(row*sz+off)]? else cur[k]?:=by
     intro k;rw[←C2,List.getElem?_toArray];have hlen:(cur.toList.take (row*sz+off)++(a.eval v).cells.toList).length=row*sz+off+n:=by simp[l8];omega
     by_cases k1:k<row*sz+off
     ·rw[aF (by omega),aF (by simp;omega),bC,aK k1,aC (by omega)];simp
     ·by_cases k2:k<row*sz+off+n
      ·rw[aF (by omega),aD (by simp;omega),aK (by omega)];simp only[bV,bP];have:k-min (row*sz+off) cur.size=k-(row*sz+off):=by omega
       rw[this];simp
      ·rw[aD (by omega),hlen,List.getElem?_drop,aC (by omega)];simp only[bP,l8];have:row*sz+off+n+(k-(row*sz+off+n))=k:=by omega
       rw[this];simp
    have aaU:kI.size=cur.size:=by
     rw[←C2];simp[l8];omega
    have xn:D6 ρ S w sz (rows.set row (gU r off vs)) kI:=by
     have adP:(gU r off vs).length=sz:=by simp[gU];omega
     refine⟨fun i r' iA=>?_,fun i r' iA j y hj=>?_⟩
     ·rw[iK]at iA;split at iA
      ·simp only[aa]at iA;rw[←iA];exact adP
      ·exact c5.1 i r' iA
     ·rw[Aq];rw[iK]at iA;split at iA
      ·rename_i fv;simp only[aa]at iA;subst iA fv;have oV:j<sz:=by rw[←adP];exact(List.getElem?_eq_some_iff.1 hj).1
       simp only[gU]at hj;have hlen:(r.take off++vs).length=off+n:=by simp;omega
       by_cases k1:j<off
       ·rw[aC (by omega)];rw[aF (by omega),aF (by simp;omega),bC,aK k1]at hj;exact c5.2 row r hr j y hj
       ·by_cases k2:j<off+n
        ·rw[aK (by omega)];rw[aF (by omega),aD (by simp;omega)]at hj;simp only[bV]at hj;have e1:j-min off r.length=j-off:=by omega
         rw[e1]at hj;have e2:row*sz+j-(row*sz+off)=j-off:=by omega
         rw[e2];exact h2.2 _ y hj
        ·rw[aC (by omega)];rw[aD (by omega),hlen,List.getElem?_drop,hl]at hj;have:off+n+(j-(off+n))=j:=by omega
         rw[this]at hj;exact c5.2 row r hr j y hj
      ·rename_i fv;have oV:j<sz:=by rw[←c5.1 i r' iA];exact(List.getElem?_eq_some_iff.1 hj).1
       rw[aC]
       ·exact c5.2 i r' iA j y hj
       ·rintro⟨k1,k2⟩;have e1:i*sz+j=row*sz+(i*sz+j-row*sz):=by omega
        have:=MV oV (by omega) e1;exact fv this.1.symm
    have ah4:∀k,k≠g→(w.setRow g kI).heap[k]?=w.heap[k]?:=fun k hk=>setRow_other w g k kI hk;obtain⟨i1,i2⟩:=mo (w':=w.setRow g kI) (gS:=aI) (g':=g) (eU:=db) (bT:=rows.set row (gU r off vs)) (cur:=kI) hi nA hg (.inl ⟨rfl,rfl,fun _=>by simp⟩) (ah _) (by simp[World.setRow]) rfl ⟨rfl,by first|exact ah _|exact dB _|exact az _⟩ rfl (fun k _ hk=>ah4 k hk)
     (setRow_heap w g cur kI q (0,0) c3) (by simpa using c1) c2 (by rw[aaU,c4]) xn
    unfold Oper.wp;rw[ee];exact hnx _ _ _ .cq Go.undef .cq i1 i2 hK
   ·cases h
  ·cases h
 ·cases h
theorem rV{t ty q:TypeId}{n:Nat}(w:World)(ht:P.underlying t=some (.slice q))(hz:er P q=some n){base b:Option Addr}{len cap c:Nat}(hle:len≤cap):
 (Builtin.append_ #[t,t] ty #[.slice base len cap,.slice b 0 c]).run P w= .ok (.slice base len cap) w:=by
 have hf:(Builtin.firstCells n 0 (.slice b 0 c)).run P w= .ok #[] w:=by cases b<;>simp[Builtin.firstCells,loadCells,loadCellsFrom]
 cases base<;>simp[Builtin.append_,run_underlying ht,kc hz,Builtin.lenOf,hle,hf,storeCells]
structure Vp(P:Program)(w:World)(ts:Array TypeId)(ty q:TypeId)(i:TypeInfo)(z ux:Value)(n:Nat)(news:List Value):Prop where
 nil:(n:Int)≤9223372036854775807→n*i.bytes≤281474976710656→
  (Builtin.append_ ts ty #[.slice none 0 0,ux]).run P w= .ok (.slice (some ⟨w.heap.size,0,none⟩) n (grownCap w n 0 q)) (w.drew.alloc (.cells (news.toArray++Builtin.zeroCells z.cells (grownCap w n 0 q-n)) q))
 room:∀(g kY oA:Nat) (cur:Array Value),w.heap[g]?=some (.cells cur q (0,0))→kY+n≤oA→kY*i.size+news.length≤cur.size→
  (Builtin.append_ ts ty #[.slice (some ⟨g,0,none⟩) kY oA,ux]).run P w= .ok (.slice (some ⟨g,0,none⟩) (kY+n) oA) (w.setRow g (cur.toList.take (kY*i.size)++news++cur.toList.drop (kY*i.size+news.length)).toArray)
 grow:∀(b:Addr) (kY oA:Nat) (E4:List Value),E4.length=kY*i.size→(∀(j:Nat) (v:Value),E4[j]?=some v→w.cell? (b.add j)=some v)→oA<kY+n→((kY+n:Nat):Int)≤9223372036854775807→Builtin.nextslicecap (kY+n) oA*i.bytes≤281474976710656→
  (Builtin.append_ ts ty #[.slice (some b) kY oA,ux]).run P w= .ok (.slice (some ⟨w.heap.size,0,none⟩) (kY+n) (grownCap w (kY+n) oA q))
   (w.drew.alloc (.cells (E4.toArray++news.toArray++Builtin.zeroCells z.cells (grownCap w (kY+n) oA q-(kY+n))) q))
theorem DT{o:Oper}{t t2 q:TypeId}{sz:Nat}{zero:List V}{s x:Operand}{s':cJ}{sr:Option (Nat×List (List V))}{ρ:Place}{S:ae}{w:World}{e:Nat→V}{a:Act}{K:V→ae→Prop}(ho:o.op= .call {callee:=.builtin .append,args:=#[s,x],argTypes:=#[t,t2]})
 (ht:xc P t=some (q,sz,zero))(hb:lj P q=true)(hs:dp s=some s')(he:cr ρ S w e a)(hi:Inv ρ S w)
 (src:∀rs,sr=some (sz,rs)→(rs=[]∧∀(base:Option Addr) (len cap:Nat),len≤cap→(Builtin.append_ #[t,t2] o.type #[.slice base len cap,a.eval x]).run P w= .ok (.slice base len cap) w)∨
  (0<rs.length∧∃news:Array Value,RR ρ S w sz rs news∧∀(i:TypeInfo) (z:Value),P.info? q=some i→i.zero=some z→Vp P w #[t,t2] o.type q i z (a.eval x) rs.length news.toList))
 (h:kj q sz (ev e s') sr S K):eL P o a ρ S w K:=by
 obtain⟨hu,i,z,h1,h2,h3,h4,h5,h6⟩:=lq ht;have O8:i.bytes≤32768:=by simpa[lj,h1]using hb
 have hzc:z.cells.size=sz:=by
  simp only[cP]at h4;obtain⟨zv,z1,z2⟩:=h4;rw[((V.ic (ρ:=ρ) (S:=S) (w:=w) z1 false).uY z2).1,h5]
 have v_:∀us u w',a.eval s=us→(Builtin.append_ #[t,t2] o.type #[us,a.eval x]).run P w= .ok u w'→(execOp a.eval o).run P w= .ok (.value u) w':=by
  intro us u w' e1 e3;simp[execOp,ho,resolve,invoke,builtin,e1,e3]
 have room:∀n,n≤dw→n*i.bytes≤140737488355328∧n≤9223372036854775807:=by
  intro n hn;unfold dw at hn;refine⟨?_,by omega⟩
  calc n*i.bytes≤4294967296*32768:=og hn O8
   _=140737488355328:=by decide
 have hsv:=bw he hs;have join:∀(rows rs:List (List V)) (cur news:Array Value) (rest:List Value),D6 ρ S w sz rows cur→RR ρ S w sz rs news→rows.length*sz≤cur.size→
  D6 ρ S w sz (rows++rs) (cur.toList.take (rows.length*sz)++news.toList++rest).toArray:=by
  intro rows rs cur news rest hc hn hle;refine⟨fun i r hr=>?_,fun i r hr j y hj=>?_⟩
  ·rcases o_ i rows.length with aR|eh
   ·rw[aF aR]at hr;exact hc.1 i r hr
   ·rw[aD eh]at hr;exact hn.2.1 _ r hr
  ·have hlen:(cur.toList.take (rows.length*sz)).length=rows.length*sz:=by simp;omega
   rcases o_ i rows.length with aR|eh
   ·rw[aF aR]at hr;obtain⟨u,e1,e2,e3⟩:=hc.2 i r hr j y hj;have oV:j<sz:=by rw[←hc.1 i r hr];exact(List.getElem?_eq_some_iff.1 hj).1
    have:=zT (sz:=sz) aR oV;refine⟨u,?_,e2,e3⟩;rw[List.getElem?_toArray,bG,aF (by omega),bC,aK this];simpa using e1
   ·rw[aD eh]at hr;obtain⟨u,e1,e2,e3⟩:=hn.2.2 _ r hr j y hj;have oV:j<sz:=by rw[←hn.2.1 _ r hr];exact(List.getElem?_eq_some_iff.1 hj).1
    have sC:i-rows.length<rs.length:=(List.getElem?_eq_some_iff.1 hr).1;have aR:=zT (sz:=sz) sC oV;have aax:i*sz+j=rows.length*sz+((i-rows.length)*sz+j):=by
     have:i=rows.length+(i-rows.length):=by omega
     rw[this,eM,iJ,jh]
    have hns:news.toList.length=rs.length*sz:=by rw[←hn.1];exact bP
    refine⟨u,?_,e2,e3⟩;rw[List.getElem?_toArray,bG,aD (by omega),hlen,aax,iJ,aF (by rw[hns];exact aR)];simpa using e1
 unfold kj at h;split at h
 ·rename_i kW rs hl;obtain⟨rfl,hrm,hK⟩:=h;rw[hl]at hsv;have sw:a.eval s= .slice none 0 0:=by generalize a.eval s=u at hsv;cases hsv;rfl
  rcases src rs rfl with⟨rfl,O3⟩|⟨vW,news,n1,yO⟩
  ·have ee:=v_ _ _ _ sw (O3 _ _ _ (ah 0));obtain⟨k1,k2⟩:=M4 (aI:=0) (sz:=kW) (t:=q) hi;exact cA ee (TR (by simp)) k1 k2 hK
  ·obtain⟨r1,r2⟩:=room _ hrm;have Fs:news.toList.length=rs.length*kW:=by rw[←n1.1];exact bP
   have Iv:=(yO i z h1 h3).nil (by omega) (by omega);have ee:=v_ _ _ _ sw Iv;have ki:=grownCap_ge w rs.length 0 q;have FA:=grownCap_le_maxLen w rs.length 0 q (by unfold maxLen;omega);obtain⟨k1,k2⟩:=oG (w':=w.drew.alloc (.cells (news.toList.toArray++Builtin.zeroCells z.cells (grownCap w rs.length 0 q-rs.length)) q)) (aI:=0) (sz:=kW) (rows:=rs) (db:=grownCap w rs.length 0 q) hi rfl (by simp) rfl ⟨rfl,by first|exact ah _|exact dB _|exact az _⟩ rfl
    (fun k hk=>Go.heap_alloc_old w.drew _ hk) (Go.heap_alloc_new w.drew _) ki FA (by simp only[Array.size_append,kl,Fs,size_zeroCells,hzc,←eM];congr 1;omega)
    (by
     have hj:=join [] rs #[] news (Builtin.zeroCells z.cells (grownCap w rs.length 0 q-rs.length)).toList ⟨by simp,by simp⟩ n1 (by simp);have ea:(news.toList++(Builtin.zeroCells z.cells (grownCap w rs.length 0 q-rs.length)).toList).toArray=news.toList.toArray++(Builtin.zeroCells z.cells (grownCap w rs.length 0 q-rs.length)):=by simp
     rw[←ea];simpa only[bz,ik,ff,a8]using hj)
   exact cA ee (Af (by simp[gJ]) (ah _) ki) k1 k2 hK
 ·rename_i id aI len kW rs hl;split at h
  ·rename_i t' tV rows OQ;obtain⟨rfl,rfl,rfl,rfl,hrm,hK⟩:=h;rw[hl]at hsv;obtain⟨m1,m2⟩:=hsv.gY OQ;have nA:=df OQ;have dD:=(List.getElem?_eq_some_iff.1 nA).1;rcases m2 with⟨m2,sw,lQ,_⟩|⟨g0,db,cap,m2,sw,m3,m4,m5⟩|⟨m2,_⟩
   ·have lO:rows=[]:=dc lQ;subst lO;simp only[bz,dv,a8]at hK hrm;rcases src rs rfl with⟨rfl,O3⟩|⟨vW,news,n1,yO⟩
    ·have ee:=v_ _ _ _ sw (O3 _ _ _ (ah 0));obtain⟨k1,k2⟩:=set_nil hi nA m2;exact cA ee (oL dD m2) k1 k2 hK
    ·obtain⟨r1,r2⟩:=room _ hrm;have Fs:news.toList.length=rs.length*tV:=by rw[←n1.1];exact bP
     have Iv:=(yO i z h1 h3).nil (by omega) (by omega);have ee:=v_ _ _ _ sw Iv;have ki:=grownCap_ge w rs.length 0 t';have FA:=grownCap_le_maxLen w rs.length 0 t' (by unfold maxLen;omega);obtain⟨k1,k2⟩:=Mn (w':=w.drew.alloc (.cells (news.toList.toArray++Builtin.zeroCells z.cells (grownCap w rs.length 0 t'-rs.length)) t')) (gS:=aI+1) (bT:=rs) (eU:=grownCap w rs.length 0 t') (g':=w.heap.size) hi nA m2 (ah _) (by omega) (by simp) rfl ⟨rfl,by first|exact ah _|exact dB _|exact az _⟩ rfl
      (fun k hk=>Go.heap_alloc_old w.drew _ hk) (Go.heap_alloc_new w.drew _) ki FA (by simp only[Array.size_append,kl,Fs,size_zeroCells,hzc,←eM];congr 1;omega)
      (by
       have hj:=join [] rs #[] news (Builtin.zeroCells z.cells (grownCap w rs.length 0 t'-rs.length)).toList ⟨by simp,by simp⟩ n1 (by simp);have ea:(news.toList++(Builtin.zeroCells z.cells (grownCap w rs.length 0 t'-rs.length)).toList).toArray=news.toList.toArray++(Builtin.zeroCells z.cells (grownCap w rs.length 0 t'-rs.length)):=by simp
       rw[←ea];simpa only[bz,ik,ff,a8]using hj)
     exact cA ee (pB dD (by simp[gJ]) (ah _) ki (ah _)) k1 k2 hK
   ·simp only[ik,Nat.sub_zero,dv]at sw m3 m5;obtain⟨cur,c1,c2,c3,c4,c5⟩:=hi.obj nA m2;rcases src rs rfl with⟨rfl,O3⟩|⟨vW,news,n1,yO⟩
    ·have ee:=v_ _ _ _ sw (O3 _ _ _ m4);simp only[bz,pb,cw]at hK;obtain⟨k1,k2⟩:=mo (w':=w) (gS:=aI+1) (g':=g0) (eU:=db) (bT:=rows) (cur:=cur) hi nA m2 (.inl ⟨rfl,rfl,fun hv=>by omega⟩) (by omega) (ah _) rfl ⟨rfl,by first|exact ah _|exact dB _|exact az _⟩ rfl (fun _ _ _=>rfl) c3 c1 c2 c4 c5;exact cA ee (pB dD (by simp[gJ]) (ah _) m4 m5) k1 k2 hK
    ·obtain⟨r1,r2⟩:=room _ hrm;have Fs:news.toList.length=rs.length*tV:=by rw[←n1.1];exact bP
     have hlen:(rows++rs).length=rows.length+rs.length:=by simp
     have kv:rows.length*tV≤cur.size:=by rw[c4];exact dA _ c1
     by_cases tv:rows.length+rs.length≤cap
     ·have Fz:rows.length*i.size+news.toList.length≤cur.size:=by rw[Fs,h2,c4,←eM];exact dA _ (dU tv m5)
      have Iv:=(yO i z h1 h3).room g0 rows.length cap cur c3 tv Fz;have ee:=v_ _ _ _ sw Iv;rw[h2]at ee Fz;generalize C2:(cur.toList.take (rows.length*tV)++news.toList++cur.toList.drop (rows.length*tV+news.toList.length)).toArray=kI at ee;have aaU:kI.size=cur.size:=by
       rw[←C2];simp only[kl,aH,bV,List.length_drop,bP]at Fz⊢;omega
      obtain⟨k1,k2⟩:=mo (w':=w.setRow g0 kI) (gS:=aI+1) (g':=g0) (eU:=db) (bT:=rows++rs) (cur:=kI) hi nA m2 (.inl ⟨rfl,rfl,fun hv=>by omega⟩) (by omega) (by simp[World.setRow]) rfl ⟨rfl,by first|exact ah _|exact dB _|exact az _⟩ rfl (fun k _ hk=>setRow_other w g0 k kI hk)
       (setRow_heap w g0 cur kI t' (0,0) c3) (by rw[hlen];exact dU tv m5) c2 (by rw[aaU,c4]) (by rw[←C2];exact join rows rs cur news _ c5 n1 kv)
      exact cA ee (pB dD (by simp[gJ]) (by rw[hlen];exact ah _) tv m5) k1 k2 hK
     ·have holds:∀(j:Nat) (y:Value),(cur.toList.take (rows.length*tV))[j]?=some y→w.cell? ((⟨g0,0,none⟩:Addr).add j)=some y:=by
       intro j y hj;rw[bC]at hj;split at hj
       ·rw[Addr.add_lit,dv];simp only[World.cell?,c3];simpa using hj
       ·cases hj
      have Iv:=(yO i z h1 h3).grow ⟨g0,0,none⟩ rows.length cap (cur.toList.take (rows.length*tV)) (by simp only[bV,bP,h2];omega) holds (by omega) (by omega) (growslice_fits (by omega) r1);have ee:=v_ _ _ _ sw Iv;have ki:=grownCap_ge w (rows.length+rs.length) cap t';have FA:=grownCap_le_maxLen w (rows.length+rs.length) cap t' (by unfold maxLen;omega);obtain⟨k1,k2⟩:=mo (w':=w.drew.alloc (.cells ((cur.toList.take (rows.length*tV)).toArray++news.toList.toArray++Builtin.zeroCells z.cells (grownCap w (rows.length+rs.length) cap t'-(rows.length+rs.length))) t')) (gS:=aI+1) (bT:=rows++rs) (eU:=grownCap w (rows.length+rs.length) cap t') (g':=w.heap.size) hi nA m2 (.inr ⟨ah _,by omega⟩) (by omega) (by simp) rfl ⟨rfl,by first|exact ah _|exact dB _|exact az _⟩ rfl
       (fun k hk _=>Go.heap_alloc_old w.drew _ hk) (Go.heap_alloc_new w.drew _) (by rw[hlen];exact ki) FA (by
        simp only[Array.size_append,kl,Fs,size_zeroCells,hzc,bV,bP,Nat.min_eq_left kv,←eM];congr 1;omega)
       (by
        have hj:=join rows rs cur news (Builtin.zeroCells z.cells (grownCap w (rows.length+rs.length) cap t'-(rows.length+rs.length))).toList c5 n1 kv;have ea:(cur.toList.take (rows.length*tV)++news.toList++(Builtin.zeroCells z.cells (grownCap w (rows.length+rs.length) cap t'-(rows.length+rs.length))).toList).toArray=(cur.toList.take (rows.length*tV)).toArray++news.toList.toArray++(Builtin.zeroCells z.cells (grownCap w (rows.length+rs.length) cap t'-(rows.length+rs.length))):=by simp
        rw[←ea];exact hj)
      exact cA ee (pB dD (by simp[gJ]) (by rw[hlen];exact ah _) ki (ah _)) k1 k2 hK
   ·exact absurd m2 (Nat.lt_irrefl 0)
  ·cases h
 ·cases h
theorem K9{o:Oper}{t q:TypeId}{sz:Nat}{zero:List V}{s x:Operand}{s' x':cJ}{ρ:Place}{S:ae}{w:World}{e:Nat→V}{a:Act}{K:V→ae→Prop}(ho:o.op= .call {callee:=.builtin .append,args:=#[s,x],argTypes:=#[t,t]})
 (ht:xc P t=some (q,sz,zero))(hb:lj P q=true)(hs:dp s=some s')(hx:dp x=some x')(he:cr ρ S w e a)(hi:Inv ρ S w)(h:kj q sz (ev e s') (oy S sz (ev e x')) S K):eL P o a ρ S w K:=by
 obtain⟨hu,i0,z0,h1,h2,h3,h4,h5,h6⟩:=lq ht;have hG:er P q=some sz:=by simp[er,h1,h2]
 have src:∀rs,oy S sz (ev e x')=some (sz,rs)→(rs=[]∧∃b c,a.eval x= .slice b 0 c)∨(0<rs.length∧∃g off c,∃news:Array Value,a.eval x= .slice (some ⟨g,off,none⟩) rs.length c∧RR ρ S w sz rs news∧(∀(j:Nat) (y:Value),news.toList[j]?=some y→w.cell? ((⟨g,off,none⟩:Addr).add j)=some y)∧∀y∈news.toList,y.oneCell'=true):=by
  intro rs Kw;have hv:=bw he hx;have gen:ml S (ev e x')=some (sz,rs)→_:=fun hr=>xR hi hv hr h6;unfold oy at Kw;split at Kw
  ·rename_i hl;simp only[aa,cB,eG]at Kw;rw[hl]at hv;have:a.eval x= .slice none 0 0:=by generalize a.eval x=u at hv;cases hv;rfl
   exact .inl ⟨Kw.symm,none,0,this⟩
  ·rcases gen Kw with⟨g1,b,c,g2⟩|⟨g,off,c,news,g1,g2,g3,g4⟩
   ·exact .inl ⟨g1,b,c,g2⟩
   ·rcases Nat.eq_zero_or_pos rs.length with CQ|CQ
    ·rw[CQ]at g1;exact .inl ⟨dc CQ,_,_,g1⟩
    ·exact .inr ⟨CQ,g,off,c,news,g1,g2,g3,g4⟩
 refine DT ho ht hb hs he hi (fun rs Kw=>?_) h;rcases src rs Kw with⟨rfl,b,c,Ku⟩|⟨vW,g,off,c,news,Ku,n1,n2,n3⟩
 ·exact .inl ⟨rfl,fun base len cap hle=>by rw[Ku];exact rV w hu hG hle⟩
 ·refine .inr ⟨vW,news,n1,fun i z kq Ll=>?_⟩;rw[h1]at kq;cases kq;have Fs:news.toList.length=rs.length*i0.size:=by rw[h2,←n1.1];exact bP
  rw[Ku];exact⟨fun k1 k2=>run_append_nil (P:=P) w t o.type q i0 z hu h1 Ll ⟨g,off,none⟩ rs.length c news.toList Fs n2 vW (by omega) k2,
   fun g0 kY oA cur c3 tv Fz=>run_append_room (P:=P) w t o.type q i0 hu h1 g0 kY oA cur c3 ⟨g,off,none⟩ rs.length c news.toList Fs n2 n3 tv Fz,
   fun b kY oA E4 ho holds hg k1 k2=>run_append_grow (P:=P) w t o.type q i0 z hu h1 Ll b kY oA E4 ho holds ⟨g,off,none⟩ rs.length c news.toList Fs n2 hg k1 k2⟩
open Go.Lib in
theorem Jz(s:ByteArray):(strCells s).length=s.data.toList.length:=by simp[strCells]
open Go.Lib in
theorem SV{s:ByteArray}{l:List UInt8}(h:s.data.toList=l)(j:Nat)(y:UInt8)(hj:l[j]?=some y):(strCells s)[j]?=some (.int .u8 y.toNat):=by
 subst h;simp only[strCells,bn,hj,bU]
open Go.Lib in
theorem ZI{ρ:Place}{S:ae}{w:World}{s:ByteArray}{l:List UInt8}(h:s.data.toList=l):RR ρ S w 1 (gT l) (strCells s).toArray:=by
 refine⟨by simp[gT,Jz,h],fun i r hr=>?_,fun i r hr j v hj=>?_⟩
 ·simp only[gT,bn,aG]at hr;obtain⟨b,_,rfl⟩:=hr;rfl
 ·simp only[gT,bn,aG]at hr;obtain⟨b,hb,rfl⟩:=hr;cases j with
  |succ j=>simp at hj
  |zero=>
   simp at hj;subst hj;refine⟨.int .u8 b.toNat,?_,.int,rfl⟩;simp only[Nat.mul_one,pb,List.getElem?_toArray];exact SV h i b hb
open Go.Lib in
theorem F8{o:Oper}{t t2 q:TypeId}{zero:List V}{s x:Operand}{s' x':cJ}{ρ:Place}{S:ae}{w:World}{e:Nat→V}{a:Act}{K:V→ae→Prop}(ho:o.op= .call {callee:=.builtin .append,args:=#[s,x],argTypes:=#[t,t2]})
 (ht:xc P t=some (q,1,zero))(ht2:P.underlying t2=some .string)(hb:lj P q=true)(hs:dp s=some s')(hx:dp x=some x')(he:cr ρ S w e a)(hi:Inv ρ S w)(h:kj q 1 (ev e s') (JA (ev e x')) S K):eL P o a ρ S w K:=by
 obtain⟨hu,i0,z0,h1,h2,h3,h4,h5,h6⟩:=lq ht;refine DT ho ht hb hs he hi (fun rs Kw=>?_) h;have hv:=bw he hx;unfold JA at Kw;split at Kw
 ·rename_i l hl;simp only[aa,cB,eG]at Kw;subst Kw;rw[hl]at hv;obtain⟨str,Ku,Fo,Eb⟩:=hv.kX;have hlen:str.size=l.length:=by rw[←Fo,bP];rfl
  rcases Nat.eq_zero_or_pos l.length with h0|vW
  ·refine .inl ⟨by simp[gT,dc h0],fun base len cap hle=>?_⟩;have hf:=run_firstCells_string (P:=P) w i0.size str;have Ar:strCells str=[]:=by rw[strCells,Fo,dc h0];rfl
   rw[hlen,h0,Ar]at hf;rw[Ku];cases base<;>simp[Builtin.append_,run_underlying hu,run_underlying ht2,Go.sizeOf,typeInfo,h1,Builtin.lenOf,hlen,h0,hle,hf,storeCells]
  ·refine .inr ⟨by simpa[gT]using vW,(strCells str).toArray,ZI Fo,fun i z kq Ll=>?_⟩;rw[h1]at kq;cases kq;have hn:(gT l).length=str.size:=by simp[gT,hlen]
   rw[Ku,hn,List.toList_toArray];refine⟨fun k1 k2=>?_,fun g kY oA cur c3 tv Fz=>?_,fun b kY oA E4 ho holds hg k1 k2=>?_⟩
   ·have hn':str.size≠0:=by omega
    have ajk:¬(9223372036854775807<(str.size:Int)):=by omega
    have ajl:¬(281474976710656<Builtin.nextslicecap str.size 0*i0.bytes):=by rw[nextslicecap_zero (by omega)];omega
    have hf:=run_firstCells_string (P:=P) w.drew i0.size str;simp[Builtin.append_,run_underlying hu,run_underlying ht2,sizeOf,typeInfo,zeroValue,h1,Ll,Builtin.lenOf,hn',ajk,ajl,Question.forced,run_firstCells_none,hf,newRow,grownCap]
   ·have:=run_append_room_string (P:=P) w t t2 o.type q i0 hu ht2 h1 h2 g kY oA cur c3 str tv (by rw[h2,strCells_length]at Fz;omega);rw[this,h2,strCells_length,Nat.mul_one]
   ·exact run_append_grow_string (P:=P) w t t2 o.type q i0 z hu ht2 h1 Ll b kY oA E4 ho holds str hg k1 k2
 ·cases Kw
theorem NR{o:Oper}{t q:TypeId}{sz:Nat}{zero:List V}{l c:Operand}{l' c':cJ}{ρ:Place}{S:ae}{w:World}{e:Nat→V}{a:Act}{K:V→ae→Prop}(ho:o.op= .makeSlice t l c)
 (ht:xc P t=some (q,sz,zero))(hb:lj P q=true)(hl:dp l=some l')(hc:dp c=some c')(he:cr ρ S w e a)(hi:Inv ρ S w)(h:Sm q sz zero (ev e l') (ev e c') S K):eL P o a ρ S w K:=by
 obtain⟨hu,i,z,h1,h2,h3,h4,h5,h6⟩:=lq ht;have O8:i.bytes≤32768:=by simpa[lj,h1]using hb
 simp only[cP]at h4;obtain⟨zv,z1,z2⟩:=h4;have CQ:CR ρ S w zero z.cells:=(V.ic z1 false).uY z2;unfold Sm at h;split at h
 ·rename_i k n k' m Ao FA;obtain⟨n0,n1,n2,hK⟩:=h;have e1:=bw he hl;have e2:=bw he hc;rw[Ao]at e1;rw[FA]at e2;have e1:=e1.cL;have e2:=e2.cL;unfold dw at n2;have hbm:(i.bytes:Int)*m≤281474976710656:=by
   have h7:(i.bytes:Int)≤32768:=by omega
   calc (i.bytes:Int)*m≤32768*4294967296:=Int.mul_le_mul h7 (by omega) (by omega) (by omega)
    _≤281474976710656:=by decide
  have hr:=run_make (P:=P) w t q i z hu h1 h3 k k' n m n0 n1 hbm (by omega);have ee:(execOp a.eval o).run P w= .ok (.value (.slice (some ⟨w.heap.size,0,none⟩) n.toNat m.toNat)) (w.alloc (.cells (madeCells z.cells (m.toNat*i.size)) q)):=by
   simp[execOp,ho,e1,e2,hr]
  have l8:z.cells.size=sz:=by rw[CQ.1,h5]
  have xn:D6 ρ S w sz (eJ zero n.toNat) (madeCells z.cells (m.toNat*i.size)):=by
   have h8:=(RR.zero (n:=m.toNat) CQ h5).head;refine⟨fun j r hj=>?_,fun j r hj x y hx=>?_⟩
   ·simp only[eJ,rO]at hj;split at hj
    ·simp only[aa]at hj;rw[←hj];exact h5
    ·cases hj
   ·simp only[eJ,rO]at hj;split at hj
    ·rename_i Un;have h9:=h8.2 j r (by simp only[eJ,rO];rw[aK (by omega)];exact hj) x y hx;rw[h2];exact h9
    ·cases hj
  obtain⟨f1,f2,f3⟩:=mF w (madeCells z.cells (m.toNat*i.size)) q;obtain⟨k1,k2⟩:=oG (aI:=0) (db:=m.toNat) (rows:=eJ zero n.toNat) hi rfl f1 rfl ⟨rfl,by first|exact ah _|exact dB _|exact az _⟩ rfl f2 f3 (by simp[eJ];omega) (by unfold maxLen;omega) (by rw[size_madeCells,h2]) xn;exact cA ee (Af (by simp[gJ]) (by simp[eJ]) (by omega)) k1 k2 hK
 ·cases h
theorem E7{o:Oper}{op:BinOp}{t t':TypeId}{x y z:Operand}{z':cJ}{neg:Bool}{ρ:Place}{S:ae}{w:World}{e:Nat→V}{a:Act}{K:V→ae→Prop}(ho:o.op= .binOp op t x y t')(ht:qL P 0 t)(he:cr ρ S w e a)(hi:Inv ρ S w)
 (np:op=(if neg then .neq else .eql))(hz:dp z=some z')(Sn:x= .const (cC 0)∧y=z∨y= .const (cC 0)∧x=z)(h:kO neg (ev e z') S K):eL P o a ρ S w K:=by
 have key:∀b,Ju 0 (a.eval z) b→K (.bool (if neg then !b else b)) S→eL P o a ρ S w K:=by
  intro b hb hk next Q hn
  obtain⟨u,w',hr,h1,h2,h3⟩:=vc (P:=P) ho ht hi np Sn (az _) hb;unfold Oper.wp;rw[hr];exact hn ρ S w' _ u h1 h3 h2 hk
 have hv:=bw he hz;unfold kO at h;split at h
 ·rename_i sz Fo;rw[Fo]at hv;have:∃p n c,a.eval z= .slice p n c:=by
   generalize a.eval z=u at hv;cases hv<;>exact⟨_,_,_,rfl⟩
  obtain⟨p,n,c,hu⟩:=this;refine key p.isNone ⟨p,n,c,hu,rfl⟩ ?_;cases neg<;>cases p.isNone<;>simp only[aQ,aV,aZ,il,eH]<;>first|exact h.1|exact h.2
 ·rename_i id aI off Fo;rw[Fo]at hv;obtain⟨h0,h⟩:=h;have:∃p n c,a.eval z= .slice p n c:=by
   obtain⟨⟨t',sz,rows⟩,hs⟩:=Option.isSome_iff_exists.1 h0;obtain⟨_,hk⟩:=hv.gY hs;rcases hk with⟨_,hu,_⟩|⟨g,db,_,_,hu,_⟩|⟨_,_,p,hu⟩<;>exact⟨_,_,_,hu⟩
  obtain⟨p,n,c,hu⟩:=this;refine key p.isNone ⟨p,n,c,hu,rfl⟩ ?_;cases neg<;>cases p.isNone<;>simp only[aQ,aV,aZ,il,eH]<;>first|exact h.1|exact h.2
 ·split at h
  ·rename_i b hb;exact key b (GM hv hb) h
  ·cases h
theorem Kb{f:FuncId}(h:uC P f=true)(x:Value)(w:World):(callFunc f #[x]).run P w= .ok (.value x) w:=by
 unfold uC at h;split at h
 ·rename_i fn hf;simp only[aW,beq_iff_eq]at h;obtain⟨⟨h1,h2⟩,h3⟩:=h;have a1:Extern.allGenericRows.lookup "internal/abi.NoEscape" =none:=by kernel_rfl
  have a2:Extern.allTypedRows.lookup "internal/abi.NoEscape" =none:=by kernel_rfl
  have a3:Extern.allRows.lookup "internal/abi.NoEscape" =some Extern.AbiNoEscape.same:=by kernel_rfl
  have b1:Extern.allNextRows.lookup "internal/abi.NoEscape" =none:=by kernel_rfl
  have b2:Extern.allNextRows.lookup "" =none:=by kernel_rfl
  have hn:Extern.findNext fn=none:=by simp only[Extern.findNext,h1,h2,b1,b2];rfl
  have he:Extern.find fn=some Extern.AbiNoEscape.same:=by simp only[Extern.find,h1,a1,a2,a3];rfl
  rw[run_callFunc_extern hf (by rw[h1];rfl) h3 hn he,Lib.run_noEscape];rfl
 ·cases h
theorem F1{o:Oper}{t q:TypeId}{n:Nat}{x h m:Operand}{x' h' m':cJ}{ρ:Place}{S:ae}{w:World}{e:Nat→V}{a:Act}{K:V→ae→Prop}(ho:o.op= .slice t x none (some h) (some m))(ht:P.underlying t=some (.slice q))(hz:er P q=some n)
 (hx:dp x=some x')(hh:dp h=some h')(hm:dp m=some m')(he:cr ρ S w e a)(hi:Inv ρ S w)(hk:dJ P (.xs (.clip n) [x',h',m']) e S K):eL P o a ρ S w K:=by
 have h1:=bw he hx;have h2:=bw he hh;have h3:=bw he hm;simp only[dJ,eK,iy,bd,bY]at hk;unfold DM at hk;split at hk
 ·rename_i b _ c e1 e2 e3;obtain⟨rfl,rfl,hK⟩:=hk;rw[e1]at h1;rw[e2]at h2;rw[e3]at h3;have hu:a.eval x= .slice none 0 0:=by generalize a.eval x=u at h1;cases h1;rfl
  have hr:=kZ ho ht hz hu h2.cL h3.cL (cM _) (cM _) (by omega) w;exact cA hr (by simpa using VR.aM) hi (Ext.refl _ _ _) hK
 ·rename_i id aI len _ b _ c e1 e2 e3;rw[e1]at h1;rw[e2]at h2;rw[e3]at h3;split at hk
  ·rename_i t' kW rows OQ;obtain⟨rfl,c0,c1,c2,hK⟩:=hk;obtain⟨hle,m2⟩:=h1.gY OQ;have nA:=df OQ;have dD:=(List.getElem?_eq_some_iff.1 nA).1;rcases m2 with⟨m2,sw,lQ,_⟩|⟨g0,db,cap,m2,sw,m3,m4,m5⟩|⟨m2,_⟩
   ·have lR:b=0:=by omega
    have Ar:c=0:=by omega
    subst lR Ar;have lO:rows=[]:=by
     obtain⟨_,h4⟩:=hi.rows _ _ _ _ _ nA;rcases h4 with⟨_,h5⟩|⟨g,db,cur,h5,_⟩
     ·exact h5
     ·rw[m2]at h5;cases h5
    subst lO;obtain⟨k1,k2⟩:=set_nil hi nA m2;exact cA (kZ ho ht hz sw h2.cL h3.cL (cM _) (cM _) (by omega) w) (oL dD m2) k1 k2 hK
   ·simp only[ik,dv]at sw m3 m5;obtain⟨cur,d1,d2,d3,d4,d5⟩:=hi.obj nA m2;have gM:∀(i:Nat) (r:List V),(rows.take b.toNat)[i]?=some r→rows[i]?=some r:=by
     intro i r fv;rw[bC]at fv;split at fv
     ·exact fv
     ·cases fv
    obtain⟨k1,k2⟩:=mo (w':=w) (gS:=aI+1) (g':=g0) (eU:=db) (bT:=rows.take b.toNat) (cur:=cur) hi nA m2 (.inl ⟨rfl,rfl,fun hv=>by omega⟩) (by omega) (ah _) rfl ⟨rfl,by first|exact ah _|exact az _⟩ rfl (fun _ _ _=>rfl) d3 (by simp;omega) d2 d4
     ⟨fun i r hr=>d5.1 i r (gM i r hr),fun i r hr j y hj=>d5.2 i r (gM i r hr) j y hj⟩
    exact cA (kZ ho ht hz sw h2.cL h3.cL c0 c1 (by omega) w) (pB (g:=g0) (db:=db) (cap:=c.toNat) dD (by simp[gJ]) (by rw[bV];omega) (by omega) (by omega)) k1 k2 hK
   ·exact absurd m2 (Nat.lt_irrefl 0)
  ·cases hk
 ·cases hk
theorem Of{ρ:Place}{S:ae}{w:World}(hi:Inv ρ S w){w':World}{id aI g db sz:Nat}{t:TypeId}{rows:List (List V)}(hs:S[id]?=some ⟨aI,some (.arr t sz rows)⟩)(hr:ρ id=some (g,db))
 (hG:w'.heap.size=w.heap.size)(CX:w'.os=w.os)(vV:w'.tape=w.tape∧w.drawn≤w'.drawn)(vY:w'.output=w.output)(hold:∀k,k≠g→w'.heap[k]?=w.heap[k]?):
 Inv ρ (S.set id ⟨aI+1,none⟩) w'∧Ext ρ S w ρ (S.set id ⟨aI+1,none⟩) w':=by
 have dD:=(List.getElem?_eq_some_iff.1 hs).1;have low:∀(i:Nat) (o:Obj),(S.set id ⟨aI+1,none⟩)[i]?=some o→i≠id→S[i]?=some o:=fun i o ho eY=>by rwa[bB (gQ eY)]at ho
 have hx:Ext ρ S w ρ (S.set id ⟨aI+1,none⟩) w':=by
  refine⟨CX,⟨vV.1,by first|exact vV.2|exact fun _=>vV.2⟩,vY,by omega,fun k hk=>⟨⟨by have:=hk.1;omega,fun i o c q x ho dq kG=>?_⟩,hold k fun h=>hk.2 id _ _ g db hs rfl hr h.symm⟩,by simp,fun i o o' ho eI=>?_⟩
  ·by_cases h1:i=id
   ·subst h1;rw[aT dD]at ho;cases ho;cases dq
   ·exact hk.2 i o c q x (low i o ho h1) dq kG
  ·by_cases h1:i=id
   ·subst h1;rw[aT dD]at eI;rw[hs]at ho;cases ho;cases eI;exact⟨dB _,fun hv=>by simp at hv⟩
   ·rw[bB (gQ h1),ho]at eI;cases eI;exact⟨ah _,fun _ c hc=>⟨c,hc,eR.fD c,rfl⟩⟩
 refine⟨⟨fun i v e s rs fH=>?_,fun i j o p c d q x y ho hp hc hd kG w5=>?_,jP hi hx (fun i v rs iV=>?_) (fun i v rs q iV hq=>?_),jJ hi hx⟩,hx⟩
 ·by_cases h1:i=id
  ·subst h1;rw[aT dD]at fH;cases fH
  ·have om:=low i _ fH h1;obtain⟨h2,h3⟩:=hi.rows i v e s rs om;refine⟨h2,?_⟩;rcases h3 with h3|⟨g2,qz,wu,a,b,c,d,f,k⟩
   ·exact .inl h3
   ·refine .inr ⟨g2,qz,wu,a,b,c,?_,f,fun i r fv j y hj=>?_⟩
    ·rw[hold g2 (fun hh=>h1 (hi.inj i id _ _ _ _ g qz db om hs rfl rfl (by rw[←hh];exact a) hr))];exact d
    ·obtain⟨u,hu,hv,h4⟩:=k i r fv j y hj;exact⟨u,hu,hv.ext hx,h4⟩
 ·have dead:∀(i:Nat) (o:Obj) (c:eR),(S.set id ⟨aI+1,none⟩)[i]?=some o→o.st=some c→i≠id:=by
   rintro i o c ho hc rfl;rw[aT dD]at ho;cases ho;cases hc
  exact hi.inj i j o p c d q x y (low i o ho (dead i o c ho hc)) (low j p hp (dead j p d hp hd)) hc hd kG w5
 ·by_cases h1:i=id
  ·subst h1;rw[aT dD]at iV;cases iV
  ·exact⟨low i _ iV h1,rfl⟩
 ·by_cases h1:i=id
  ·subst h1;rw[aT dD]at iV;cases iV
  ·exact hold q (fun hh=>h1 (hi.inj i id _ _ _ _ g 0 db (low i _ iV h1) hs rfl rfl (by rw[←hh];exact hq) hr))
theorem Ek{o:Oper}{c:Call}{x l:Operand}{x' l':cJ}{pt it q:TypeId}{ρ:Place}{S:ae}{w:World}{e:Nat→V}{a:Act}{K:V→ae→Prop}(ho:o.op= .call c)(hc:c.callee= .builtin .unsafeString)(ha:c.args.toList=[x,l])
 (uD:c.argTypes.toList=[pt,it])(hp:P.underlying pt=some (.pointer q))(h1:P.cellsOf q=1)(hx:dp x=some x')(hl:dp l=some l')(he:cr ρ S w e a)(hi:Inv ρ S w)(h:dJ P (.xs (.SL q) [x',l']) e S K):eL P o a ρ S w K:=by
 have C8:c.args= #[x,l]:=by rw[←ha]
 have xk:c.argTypes= #[pt,it]:=by rw[←uD]
 have r1:=bw he hx;have r2:=bw he hl;simp only[dJ,iy,bd,bY,eK,GJ]at h;split at h
 ·rename_i n e1 e2;obtain⟨rfl,hK⟩:=h;rw[e1]at r1;rw[e2]at r2;have Ku:a.eval x= .pointer none:=by generalize a.eval x=u at r1;cases r1;rfl
  have hul:=r2.cL;have ee:(execOp a.eval o).run P w= .ok (.value (.string .empty)) w:=by
   simp[execOp,ho,hc,C8,xk,Ku,hul,resolve,invoke,builtin,Lib.run_unsafeString_none]
  exact cA ee (.str rfl (by unfold maxLen;exact az _)) hi (Ext.refl _ _ _) hK
 ·rename_i id aI row off n e1 e2;split at h
  ·rename_i t sz rows nA;obtain⟨rfl,rfl,rfl,rfl,bs,rfl,rfl,eY,hK⟩:=h;rw[e1]at r1;rw[e2]at r2;have hul:=r2.cL;obtain⟨g,db,p1,p2⟩:=r1.fU nA;obtain⟨cur,b1,b2,b3,b4,b5,b6⟩:=ks hi nA p1;have hlen:(gT bs).length=bs.length:=by simp[gT]
   have adT:=fun ty=>Lib.run_unsafeString_row (P:=P) w pt it ty t hp h1 g cur.size (by simp[World.shape?,b1]) bs eY (by omega) (by unfold maxLen at b4;omega) (by
    intro j y hj;have hr:(gT bs)[j]?=some [.int .u8 y.toNat]:=by simp[gT,hj]
    obtain⟨u,c1,c2,_⟩:=b6 j _ hr 0 (.int .u8 y.toNat) rfl;have c2:=c2.cL;subst c2;simp only[Nat.mul_one,pb]at c1;by_cases hj0:j=0<;>simp[World.cell?,Addr.add,b1,hj0]<;>first|(subst hj0;exact c1)|exact c1)
   have ee:(execOp a.eval o).run P w= .ok (.value (.string ⟨bs.toArray⟩)) (w.freeze ⟨g,0,none⟩ bs.length):=by
    have p2':a.eval x= .pointer (some ⟨g,0,none⟩):=by rw[p2,ik]
    simp[execOp,ho,hc,C8,xk,p2',hul,resolve,invoke,builtin,adT]
   have uE:bs.length≠0:=by simpa using eY
   have CX:(w.freeze ⟨g,0,none⟩ bs.length).os=w.os∧((w.freeze ⟨g,0,none⟩ bs.length).tape=w.tape∧w.drawn≤(w.freeze ⟨g,0,none⟩ bs.length).drawn)∧(w.freeze ⟨g,0,none⟩ bs.length).output=w.output∧(w.freeze ⟨g,0,none⟩ bs.length).heap.size=w.heap.size∧∀k,k≠g→(w.freeze ⟨g,0,none⟩ bs.length).heap[k]?=w.heap[k]?:=by
    unfold World.freeze;rw[aC uE];refine⟨rfl,⟨rfl,by first|exact ah _|exact az _⟩,rfl,by simp,fun k hk=>?_⟩;simp only[fM];rw[aC (fun h=>hk h.symm)]
   obtain⟨k1,k2⟩:=Of (w':=w.freeze ⟨g,0,none⟩ bs.length) hi (df nA) p1 CX.2.2.2.1 CX.1 CX.2.1 CX.2.2.1 CX.2.2.2.2;exact cA ee (.str (by simp) (by show bs.toArray.size≤maxLen;simp;omega)) k1 k2 hK
  ·exact h.elim
 ·exact h.elim
theorem po{k v:V}:∀{rows:List (V×V)},(∀(i:Nat) (p:V×V),rows[i]?=some p→jX k p.1=false)→kr k v rows=rows++[(k,v)]
 |[],_=>rfl
 |p::r,h=>by
  rw[kr,h 0 p rfl,po fun i q hq=>h (i+1) q (by simpa using hq)];simp
theorem uw{k v:V}:∀{rows:List (V×V)} {i:Nat} {p:V×V},rows[i]?=some p→jX k p.1=true→(∀(j:Nat) (q:V×V),j<i→rows[j]?=some q→jX k q.1=false)→kr k v rows=rows.set i (k,v)
 |[],i,p,h,_,_=>by simp at h
 |x::r,0,p,h,h2,_=>by
  simp at h;subst h;rw[kr,h2];simp
 |x::r,i+1,p,h,h2,h3=>by
  rw[kr,h3 0 x (by omega) rfl,uw (by simpa using h) h2 fun j q hj hq=>h3 (j+1) q (by omega) (by simpa using hq)];simp
theorem zc{k:V}:∀{rows:List (V×V)},(∀(i:Nat) (p:V×V),rows[i]?=some p→jX k p.1=false)→DB k rows=rows
 |[],_=>rfl
 |p::r,h=>by
  rw[DB,h 0 p rfl,zc fun i q hq=>h (i+1) q (by simpa using hq)];simp
theorem IT{k:V}:∀{rows:List (V×V)} {i:Nat} {p:V×V},rows[i]?=some p→jX k p.1=true→(∀(j:Nat) (q:V×V),j<i→rows[j]?=some q→jX k q.1=false)→DB k rows=rows.eraseIdx i
 |[],i,p,h,_,_=>by simp at h
 |x::r,0,p,h,h2,_=>by
  simp at h;subst h;rw[DB,h2];simp
 |x::r,i+1,p,h,h2,h3=>by
  rw[DB,h3 0 x (by omega) rfl,IT (by simpa using h) h2 fun j q hj hq=>h3 (j+1) q (by omega) (by simpa using hq)];simp
section
variable{o:Oper}{ρ:Place}{S:ae}{w:World}{e:Nat→V}{a:Act}{K:V→ae→Prop}{t kt et:TypeId}{kd:KD}
theorem ni{v:V}{w':World}{dn:Place}{S':ae}(hr:(execOp a.eval o).run P w= .ok .skip w')(h1:VR dn S' w' false v Go.undef)(h2:Inv dn S' w')(h3:Ext ρ S w dn S' w')(h4:K v S'):eL P o a ρ S w K:=by
 intro next Q hn
 unfold Oper.wp;rw[hr];exact hn dn S' w' v _ h1 h2 h3 h4
theorem map_set(hi:Inv ρ S w){id aI g:Nat}{rows bT:List (V×V)}{x:MX}{es ug:Array MapEntry}{ck w9:Nat}(hs:S.kp id aI=some (kd,rows,x))(hx:x= .free)(hg:ρ id=some (g,0))(hb:w.heap[g]?=some (.map es ck))(hm:MR ρ S w ⟨kd,bT,.free⟩ ug)(dq:xG ug w9):
 Inv ρ (S.set id ⟨aI,some (.mp ⟨kd,bT,.free⟩)⟩) {w with heap:=w.heap.setIfInBounds g (.map ug w9)}∧Ext ρ S w ρ (S.set id ⟨aI,some (.mp ⟨kd,bT,.free⟩)⟩) {w with heap:=w.heap.setIfInBounds g (.map ug w9)}:=by
 obtain⟨h1,h2⟩:=Go.MapKept.heap_set (w:=w) (o':=.map ug w9) hb;subst hx;exact uq (rows:=⟨kd,rows,.free⟩) (bT:=⟨kd,bT,.free⟩) hi (fun i h=>by cases h) (gZ hs) hg (by simp) rfl ⟨rfl,by first|exact ah _|exact dB _|exact az _⟩ rfl (fun k hk=>h2 k hk) ⟨rfl,rfl⟩ fun hx=>⟨ug,w9,h1,hm.ext hx,dq⟩
theorem xG.push{es:Array MapEntry}{ck:Nat}(h:xG es ck){k v:Value}:xG (es.push {key:=k,val:=v,born:=ck}) (ck+1):=by
 obtain⟨h1,h2⟩:=h;refine⟨fun x hx=>?_,?_⟩
 ·simp only[Array.toList_push,List.mem_append,bM]at hx;rcases hx with hx|rfl
  ·have:=h1 x hx;omega
  ·exact Nat.lt_succ_self _
 ·simp only[Array.toList_push,bF,bd,bY];refine List.nodup_append.2 ⟨h2,by simp,fun a ha b hb=>?_⟩;simp only[bM]at hb;subst hb;obtain⟨x,hx,rfl⟩:=List.mem_map.1 ha;have:=h1 x hx;omega
theorem xG.modify{es:Array MapEntry}{ck:Nat}(h:xG es ck)(i:Nat)(f:MapEntry→MapEntry)(hf:∀e,(f e).born=e.born):xG (es.modify i f) ck:=by
 have hm:(es.modify i f).toList.map (·.born)=es.toList.map (·.born):=by
  apply iM;intro j;simp only[bn,Array.getElem?_toList,fM];split
  ·cases es[j]?<;>simp[hf]
  ·rfl
 refine⟨fun x hx=>?_,by rw[hm];exact h.2⟩;have:x.born∈(es.modify i f).toList.map (·.born):=kT hx;rw[hm]at this;obtain⟨y,hy,hyb⟩:=List.mem_map.1 this;rw[←hyb];exact h.1 y hy
theorem xG.erase{es:Array MapEntry}{ck:Nat}(h:xG es ck)(i:Nat):xG (es.eraseIdxIfInBounds i) ck:=by
 have hm:(es.eraseIdxIfInBounds i).toList.Sublist es.toList:=by
  by_cases hi:i<es.size
  ·rw[show es.eraseIdxIfInBounds i=es.eraseIdx i hi by simp[Array.eraseIdxIfInBounds,hi],Array.toList_eraseIdx];exact List.eraseIdx_sublist _ _
  ·rw[show es.eraseIdxIfInBounds i=es by simp[Array.eraseIdxIfInBounds,hi]];exact List.Sublist.refl _
 exact⟨fun x hx=>h.1 x (hm.subset hx),h.2.sublist (hm.map _)⟩
theorem xG.nil{ck:Nat}:xG #[] ck:=⟨by simp,by simp⟩
theorem Ke{r:Option Operand}{r':Option cJ}(ho:o.op= .makeMap t r)(ht:P.underlying t=some (.map kt et))(hr:r7 r=some r')(he:cr ρ S w e a)(hi:Inv ρ S w)(h:dJ P (.xs (.Wh kd) r'.toList) e S K):eL P o a ρ S w K:=by
 have hK:NT kd S K∧((Instr.makeMap t (r.map a.eval)).run P w= .ok (.map (some w.heap.size)) (w.alloc (.map #[] 0))):=by
  cases r with
  |none=>
   simp only[r7,aa]at hr;subst hr;simp only[dJ,Option.toList,iy,bY,eK]at h;refine⟨h,?_⟩;simp[Instr.makeMap]
  |some x=>
   simp only[r7,aG]at hr;obtain⟨x',hx,rfl⟩:=hr;have h1:=bw he hx;simp only[dJ,Option.toList,iy,bd,bY,eK]at h;split at h
   ·simp at*
   ·simp at*
   ·rename_i heq;simp only[fh,and_true]at heq;rw[heq]at h1;refine⟨by first|exact h|(simp only[Vj.Wh.injEq]at*;simp_all),?_⟩;simp[Instr.makeMap,run_underlying ht,h1.cL,asInt,asIntOf]
   all_goals simp_all
 obtain⟨hK,ee⟩:=hK;obtain⟨k1,k2⟩:=vo (aI:=0) (rows:=⟨kd,[],.free⟩) hi (fun i h=>by cases h) rfl (w':=w.alloc (.map #[] 0)) (by simp) rfl ⟨rfl,by first|exact ah _|exact dB _|exact az _⟩ rfl (fun k hk=>Go.heap_alloc_old w _ hk) fun _=>⟨#[],0,Go.heap_alloc_new w _,⟨rfl,by simp,by simp⟩,xG.nil⟩;refine cA (u:=.map (some w.heap.size)) ?_ (.eF (by simp) (fun o ho=>?_) (fun rows hs=>⟨w.heap.size,by simp[gJ],?_⟩) rfl) k1 k2 hK
 ·simp only[execOp,ho,Sem.run_bind,ee,Result.andThen_ok,Sem.run_pure]
 ·rw[aD (ah _)]at ho;simp at ho;rw[←ho];exact ah _
 ·rw[aD (ah _)]at hs;simp at hs;subst hs;rfl
theorem NK{m k v:Operand}{m' k' v':cJ}(ho:o.op= .mapUpdate t m k v)(ht:P.underlying t=some (.map kt et))(qY:n5 P kt=some kd)(hm:dp m=some m')(hk:dp k=some k')(hv:dp v=some v')(he:cr ρ S w e a)(hi:Inv ρ S w)
 (h:dJ P (.xs (.mu kd) [m',k',v']) e S K):eL P o a ρ S w K:=by
 have h1:=bw he hm;have h2:=bw he hk;have h3:=bw he hv;simp only[dJ,iy,bd,bY,eK,NL]at h;split at h
 ·rename_i id aI e1;split at h
  ·rename_i oO rows x hs;obtain⟨rfl,rfl,pD,hK⟩:=h;rw[e1]at h1;obtain⟨g,hg,hu⟩:=h1.jO hs rfl;obtain⟨es,ck,hb,Ir,dq,hf⟩:=oM (P:=P) hi hs rfl hg qY pD h2;have tz:=KM.of pD h2;obtain⟨c1,c2,c3⟩:=Ir;rcases hf with⟨f1,f2,f3⟩|⟨i,p,en,f1,f2,f3,f4,f5,f6,f7,f8⟩
   ·rw[po f3]at hK;obtain⟨q1,q2⟩:=map_set (w9:=ck+1) (ug:=es.push {key:=a.eval k,val:=a.eval v,born:=ck}) (bT:=rows++[(ev e k',ev e v')]) hi hs rfl hg hb (dq:=dq.push) ⟨by simp at c1;simp[c1],fun p hp=>by
     rcases List.mem_append.1 hp with hp|hp
     ·exact c2 p hp
     ·simp at hp;subst hp;exact pD,fun i kk vv gP=>by
     simp only at c1 gP;by_cases aR:i<rows.length
     ·rw[aF aR]at gP;obtain⟨en,a1,a2,a3⟩:=c3 i kk vv gP;exact⟨en,by rw[kV,aC (by omega)];exact a1,a2,a3⟩
     ·rw[aD (by omega)]at gP;have hl:=(List.getElem?_eq_some_iff.1 gP).1;simp at hl;have C0:i=rows.length:=by omega
      subst C0;simp at gP;obtain⟨rfl,rfl⟩:=gP;exact⟨_,by rw[kV,aK c1.symm],h2,h3⟩⟩
    refine ni ?_ .cq q1 q2 hK;simp only[execOp,ho,Instr.mapUpdate,Sem.run_bind,run_underlying ht,Result.andThen_ok,hu,Go.MapKept.run_getObj_map hb,gI qY tz,f1,Go.MapKept.run_setObj_map _ hb,Sem.run_pure]
   ·rw[uw f4 f5 f8]at hK;have KB:es.modify i (fun e'=>{e' with key:=a.eval k,val:=a.eval v})=es.setIfInBounds i {en with key:=a.eval k,val:=a.eval v}:=by
     apply mg;intro j;rw[fM,iT];by_cases kh:i=j
     ·subst kh;have aR:=(Array.getElem?_eq_some_iff.1 f2).1;rw[aK rfl,aK rfl,f2];simp[aR]
     ·simp[kh]
    obtain⟨q1,q2⟩:=map_set (w9:=ck) (ug:=es.modify i fun e'=>{e' with key:=a.eval k,val:=a.eval v}) (bT:=rows.set i (ev e k',ev e v')) hi hs rfl hg hb (dq:=dq.modify _ _ fun _=>rfl) ⟨by simp at c1;simp[c1],fun p hp=>by
     rcases List.mem_or_eq_of_mem_set hp with hp|rfl
     ·exact c2 p hp
     ·exact pD,fun j kk vv hj=>by
     simp only at c1 hj;rw[KB];rw[iK]at hj;split at hj
     ·rename_i kh;subst kh;split at hj
      ·simp only[aa,cB]at hj;obtain⟨rfl,rfl⟩:=hj;exact⟨_,by rw[nQ (Array.getElem?_eq_some_iff.1 f2).1],h2,h3⟩
      ·cases hj
     ·rename_i kh;obtain⟨tI,a1,a2,a3⟩:=c3 j kk vv hj;exact⟨tI,by rw[Array.getElem?_setIfInBounds_ne kh];exact a1,a2,a3⟩⟩
    refine ni ?_ .cq q1 q2 hK;have dq:(Instr.keyThatStays en.key (a.eval k)).run P w= .ok (a.eval k) w:=by rw[f3];exact rS tz
    simp only[execOp,ho,Instr.mapUpdate,Sem.run_bind,run_underlying ht,Result.andThen_ok,hu,Go.MapKept.run_getObj_map hb,gI qY tz,f1,f2,bU,bL,dq,Go.MapKept.run_setObj_map _ hb,Sem.run_pure]
  ·exact h.elim
 ·exact h.elim
theorem vJ(hi:Inv ρ S w){id aI g:Nat}{rows bT:List (V×V)}{x x':MX}{es ug:Array MapEntry}{ck w9:Nat}(hs:S.kp id aI=some (kd,rows,x))(hx:x.iw=false)(su:x'.iw=false)(iW:∀i,x'≠ .held i)(hg:ρ id=some (g,0))(hb:w.heap[g]?=some (.map es ck))(hm:MR ρ S w ⟨kd,bT,x'⟩ ug)(dq:xG ug w9)(ho:∀j n,x'= .opened j n→∃e,ug[j]?=some e∧e.born=n):
 Inv ρ (S.set id ⟨aI,some (.mp ⟨kd,bT,x'⟩)⟩) {w with heap:=w.heap.setIfInBounds g (.map ug w9)}∧Ext ρ S w ρ (S.set id ⟨aI,some (.mp ⟨kd,bT,x'⟩)⟩) {w with heap:=w.heap.setIfInBounds g (.map ug w9)}:=by
 obtain⟨h1,h2⟩:=Go.MapKept.heap_set (w:=w) (o':=.map ug w9) hb;refine uq (rows:=⟨kd,rows,x⟩) (bT:=⟨kd,bT,x'⟩) hi iW (gZ hs) hg (by simp) rfl ⟨rfl,by first|exact ah _|exact dB _|exact az _⟩ rfl (fun k hk=>h2 k hk) ⟨rfl,by rw[hx,su]⟩ fun hx2=>?_;cases x' with
 |free=>exact⟨ug,w9,h1,hm.ext hx2,dq⟩
 |held i=>exact absurd rfl (iW i)
 |opened j n=>exact⟨ug,w9,h1,hm.ext hx2,dq,ho j n rfl⟩
 |iter _ _=>cases su
theorem Fe{m k:Operand}{m' k':cJ}{zero:V}(ho:o.op= .mapEntry t m k)(ht:P.underlying t=some (.map kt et))(qY:n5 P kt=some kd)(hz:zeroV P et=some zero)(hm:dp m=some m')(hk:dp k=some k')(he:cr ρ S w e a)(hi:Inv ρ S w)
 (h:dJ P (.xs (.TV kd zero) [m',k']) e S K):eL P o a ρ S w K:=by
 have h1:=bw he hm;have h2:=bw he hk;obtain⟨z,hzr,Lk⟩:=xL hz w;have CP:=V.ic (ρ:=ρ) (S:=S) (w:=w) Lk false;simp only[dJ,iy,bd,bY,eK,yw]at h;split at h
 ·rename_i id aI e1;split at h
  ·rename_i oO rows x hs;obtain⟨rfl,rfl,pD,hK⟩:=h;rw[e1]at h1;obtain⟨g,hg,hu⟩:=h1.jO hs rfl;obtain⟨es,ck,hb,Ir,dq,hf⟩:=oM (P:=P) hi hs rfl hg qY pD h2;have tz:=KM.of pD h2;obtain⟨c1,c2,c3⟩:=Ir;simp only at c1;rcases hf with⟨f1,f2,f3⟩|⟨i,p,en,f1,f2,f3,f4,f5,f6,f7,f8⟩
   ·rw[f2,po f3]at hK;simp only[jw]at hK;have hK:=hK rows.length ck (ev e k',zero) (by simp) ((o3 pD pD h2 h2).2 rfl) (fun i q aR hq=>by rw[aF aR]at hq;exact f3 i q hq);obtain⟨q1,q2⟩:=vJ (w9:=ck+1) (ug:=es.push {key:=a.eval k,val:=z,born:=ck}) (bT:=rows++[(ev e k',zero)]) (x':=.opened rows.length ck) hi hs rfl rfl (fun i h=>by cases h) hg hb (dq:=dq.push) ⟨by simp[c1],fun p hp=>by
     rcases List.mem_append.1 hp with hp|hp
     ·exact c2 p hp
     ·simp at hp;subst hp;exact pD,fun i kk vv gP=>by
     simp only at gP;by_cases aR:i<rows.length
     ·rw[aF aR]at gP;obtain⟨en,a1,a2,a3⟩:=c3 i kk vv gP;exact⟨en,by rw[kV,aC (by omega)];exact a1,a2,a3⟩
     ·rw[aD (by omega)]at gP;have hl:=(List.getElem?_eq_some_iff.1 gP).1;simp at hl;have C0:i=rows.length:=by omega
      subst C0;simp at gP;obtain⟨rfl,rfl⟩:=gP;exact⟨_,by rw[kV,aK c1.symm],h2,CP⟩⟩ (fun j n Un=>by
     cases Un;exact⟨{key:=a.eval k,val:=z,born:=ck},by rw[kV,aK c1.symm],rfl⟩)
    refine cA (u:=.tuple #[z,.int .i64 ck]) ?_ (.rR rfl fun j v hj=>?_) q1 q2 hK
    ·simp only[execOp,ho,Instr.mapEntry,Sem.run_bind,run_underlying ht,Result.andThen_ok,hu,Go.MapKept.run_getObj_map hb,gI qY tz,f1,hzr,Go.MapKept.run_setObj_map _ hb,Sem.run_pure];rfl
    ·match j,hj with
     |0,hj=>simp at hj;subst hj;exact⟨z,rfl,CP.ext q2⟩
     |1,hj=>simp at hj;subst hj;exact⟨_,rfl,.int⟩
     |j+2,hj=>simp at hj
   ·rw[f6,uw f4 f5 f8]at hK;simp only[bL]at hK;have sC:i<rows.length:=(List.getElem?_eq_some_iff.1 f4).1;have hK:=hK i en.born (ev e k',p.2) (by rw[aT sC]) ((o3 pD pD h2 h2).2 rfl) (fun j q aR hq=>by rw[bB (by omega)]at hq;exact f8 j q aR hq);have KB:es.modify i (fun e'=>{e' with key:=a.eval k})=es.setIfInBounds i {en with key:=a.eval k}:=by
     apply mg;intro j;rw[fM,iT];by_cases kh:i=j
     ·subst kh;have aR:=(Array.getElem?_eq_some_iff.1 f2).1;rw[aK rfl,aK rfl,f2];simp[aR]
     ·simp[kh]
    obtain⟨q1,q2⟩:=vJ (w9:=ck) (ug:=es.modify i fun e'=>{e' with key:=a.eval k}) (bT:=rows.set i (ev e k',p.2)) (x':=.opened i en.born) hi hs rfl rfl (fun i h=>by cases h) hg hb (dq:=dq.modify _ _ fun _=>rfl) ⟨by simp[c1],fun p hp=>by
     rcases List.mem_or_eq_of_mem_set hp with hp|rfl
     ·exact c2 p hp
     ·exact pD,fun j kk vv hj=>by
     simp only at hj;rw[KB];rw[iK]at hj;split at hj
     ·rename_i kh;subst kh;simp only[sC,aQ,aa,cB]at hj;obtain⟨rfl,rfl⟩:=hj;exact⟨{en with key:=a.eval k},by rw[nQ (Array.getElem?_eq_some_iff.1 f2).1],h2,f7⟩
     ·rename_i kh;obtain⟨tI,a1,a2,a3⟩:=c3 j kk vv hj;exact⟨tI,by rw[Array.getElem?_setIfInBounds_ne kh];exact a1,a2,a3⟩⟩ (fun j n Un=>by
     cases Un;rw[KB];exact⟨{en with key:=a.eval k},by rw[nQ (Array.getElem?_eq_some_iff.1 f2).1],rfl⟩)
    refine cA (u:=.tuple #[en.val,.int .i64 en.born]) ?_ (.rR rfl fun j v hj=>?_) q1 q2 hK
    ·have dq:(Instr.keyThatStays en.key (a.eval k)).run P w= .ok (a.eval k) w:=by rw[f3];exact rS tz
     simp only[execOp,ho,Instr.mapEntry,Sem.run_bind,run_underlying ht,Result.andThen_ok,hu,Go.MapKept.run_getObj_map hb,gI qY tz,f1,f2,bU,bL,dq,Go.MapKept.run_setObj_map _ hb,Sem.run_pure];rfl
    ·match j,hj with
     |0,hj=>simp at hj;subst hj;exact⟨en.val,rfl,f7.ext q2⟩
     |1,hj=>simp at hj;subst hj;exact⟨_,rfl,.int⟩
     |j+2,hj=>simp at hj
  ·exact h.elim
 ·exact h.elim
theorem L8{es:Array MapEntry}{ck j n:Nat}{e:MapEntry}(h:xG es ck)(hj:es[j]?=some e)(hn:e.born=n):es.findIdx? (fun e=>(e.born:Int)==(n:Int))=some j:=by
 obtain⟨aR,rfl⟩:=Array.getElem?_eq_some_iff.1 hj;rw[Array.findIdx?_eq_some_iff_getElem];refine⟨aR,by simp[hn],fun i hi=>?_⟩;have hnd:=List.pairwise_iff_getElem.1 h.2 i j (by simp;omega) (by simpa using aR) hi;simp only[List.getElem_map,Array.getElem_toList]at hnd;simp only[beq_iff_eq];intro h2;apply hnd;omega
theorem Fc{m s v:Operand}{m' s' v':cJ}(ho:o.op= .entryStore t m s v)(hm:dp m=some m')(Kv:dp s=some s')(hv:dp v=some v')(he:cr ρ S w e a)(hi:Inv ρ S w)
 (h:dJ P (.xs .TU [m',s',v']) e S K):eL P o a ρ S w K:=by
 have h1:=bw he hm;have h2:=bw he Kv;have h3:=bw he hv;simp only[dJ,iy,bd,bY,eK,yu]at h;split at h
 ·rename_i id aI n' e1 e2;split at h
  ·rename_i oO rows j n hs;obtain⟨rfl,hK⟩:=h;rw[e1]at h1;rw[e2]at h2;have h2:=h2.cL;obtain⟨g,hg,hu⟩:=h1.jO hs rfl;obtain⟨g',a1,b⟩:=hi.maps id aI ⟨oO,rows,.opened j n⟩ (gZ hs);rw[hg]at a1;cases a1;obtain⟨es,ck,hb,⟨c1,c2,c3⟩,dq,en,f1,f2⟩:=b;simp only at c1 c2 c3;have oV:j<es.size:=(Array.getElem?_eq_some_iff.1 f1).1;obtain⟨q1,q2⟩:=vJ (w9:=ck) (ug:=es.modify j fun e'=>{e' with val:=a.eval v}) (bT:=rows.modify j fun p=>(p.1,ev e v')) (x':=.free) hi hs rfl rfl (fun i h=>by cases h) hg hb (dq:=dq.modify _ _ fun _=>rfl) ⟨by simp[c1],fun p hp=>by
    obtain⟨i,fH⟩:=ez hp;simp only at fH;by_cases kh:j=i
    ·rw[List.getElem?_modify]at fH;subst kh;cases hq:rows[j]? with
     |none=>rw[hq]at fH;cases fH
     |some q=>
      rw[hq]at fH;simp at fH;rw[←fH];exact c2 q (aB hq)
    ·rw[List.getElem?_modify]at fH;cases hq:rows[i]? with
     |none=>rw[hq]at fH;cases fH
     |some q=>
      rw[hq]at fH;simp[kh]at fH;rw[←fH];exact c2 q (aB hq),fun i kk vv gP=>by
    simp only at gP;rw[List.getElem?_modify]at gP;rw[fM];cases hq:rows[i]? with
    |none=>rw[hq]at gP;cases gP
    |some q=>
     rw[hq]at gP;obtain⟨tI,a1,a2,a3⟩:=c3 i q.1 q.2 (by rw[hq]);by_cases kh:j=i
     ·simp[kh]at gP;obtain⟨rfl,rfl⟩:=gP;rw[aK kh,a1];exact⟨_,rfl,a2,h3⟩
     ·simp[kh]at gP;rw[aC kh];subst gP;exact⟨tI,a1,a2,a3⟩⟩ (fun j n Un=>by cases Un)
   refine ni ?_ .cq q1 q2 hK;simp only[execOp,ho,Instr.entryStore,Sem.run_bind,Result.andThen_ok,hu,Go.MapKept.run_getObj_map hb,h2,asInt,asIntOf,Sem.run_pure,L8 dq f1 f2,Go.MapKept.run_setObj_map _ hb]
  ·exact h.elim
 ·exact h.elim
theorem Kr{m k v:Operand}{m' k' v':cJ}(ho:o.op= .insert t m k v)(ht:P.underlying t=some (.map kt et))(qY:n5 P kt=some kd)(hm:dp m=some m')(hk:dp k=some k')(hv:dp v=some v')(he:cr ρ S w e a)(hi:Inv ρ S w)
 (h:dJ P (.xs (.mu kd) [m',k',v']) e S K):eL P o a ρ S w K:=by
 have h1:=bw he hm;have h2:=bw he hk;have h3:=bw he hv;simp only[dJ,iy,bd,bY,eK,NL]at h;split at h
 ·rename_i id aI e1;split at h
  ·rename_i oO rows x hs;obtain⟨rfl,rfl,pD,hK⟩:=h;rw[e1]at h1;obtain⟨g,hg,hu⟩:=h1.jO hs rfl;obtain⟨es,ck,hb,Ir,dq,hf⟩:=oM (P:=P) hi hs rfl hg qY pD h2;have tz:=KM.of pD h2;obtain⟨c1,c2,c3⟩:=Ir;rcases hf with⟨f1,f2,f3⟩|⟨i,p,en,f1,f2,f3,f4,f5,f6,f7,f8⟩
   ·rw[po f3]at hK;obtain⟨q1,q2⟩:=map_set (w9:=ck+1) (ug:=es.push {key:=a.eval k,val:=a.eval v,born:=ck}) (bT:=rows++[(ev e k',ev e v')]) hi hs rfl hg hb (dq:=dq.push) ⟨by simp at c1;simp[c1],fun p hp=>by
     rcases List.mem_append.1 hp with hp|hp
     ·exact c2 p hp
     ·simp at hp;subst hp;exact pD,fun i kk vv gP=>by
     simp only at c1 gP;by_cases aR:i<rows.length
     ·rw[aF aR]at gP;obtain⟨en,a1,a2,a3⟩:=c3 i kk vv gP;exact⟨en,by rw[kV,aC (by omega)];exact a1,a2,a3⟩
     ·rw[aD (by omega)]at gP;have hl:=(List.getElem?_eq_some_iff.1 gP).1;simp at hl;have C0:i=rows.length:=by omega
      subst C0;simp at gP;obtain⟨rfl,rfl⟩:=gP;exact⟨_,by rw[kV,aK c1.symm],h2,h3⟩⟩
    refine ni ?_ .cq q1 q2 hK;simp only[execOp,ho,Instr.mapUpdate,Sem.run_bind,run_underlying ht,Result.andThen_ok,hu,Go.MapKept.run_getObj_map hb,gI qY tz,f1,Go.MapKept.run_setObj_map _ hb,Sem.run_pure]
   ·rw[uw f4 f5 f8]at hK;have KB:es.modify i (fun e'=>{e' with key:=a.eval k,val:=a.eval v})=es.setIfInBounds i {en with key:=a.eval k,val:=a.eval v}:=by
     apply mg;intro j;rw[fM,iT];by_cases kh:i=j
     ·subst kh;have aR:=(Array.getElem?_eq_some_iff.1 f2).1;rw[aK rfl,aK rfl,f2];simp[aR]
     ·simp[kh]
    obtain⟨q1,q2⟩:=map_set (w9:=ck) (ug:=es.modify i fun e'=>{e' with key:=a.eval k,val:=a.eval v}) (bT:=rows.set i (ev e k',ev e v')) hi hs rfl hg hb (dq:=dq.modify _ _ fun _=>rfl) ⟨by simp at c1;simp[c1],fun p hp=>by
     rcases List.mem_or_eq_of_mem_set hp with hp|rfl
     ·exact c2 p hp
     ·exact pD,fun j kk vv hj=>by
     simp only at c1 hj;rw[KB];rw[iK]at hj;split at hj
     ·rename_i kh;subst kh;split at hj
      ·simp only[aa,cB]at hj;obtain⟨rfl,rfl⟩:=hj;exact⟨_,by rw[nQ (Array.getElem?_eq_some_iff.1 f2).1],h2,h3⟩
      ·cases hj
     ·rename_i kh;obtain⟨tI,a1,a2,a3⟩:=c3 j kk vv hj;exact⟨tI,by rw[Array.getElem?_setIfInBounds_ne kh];exact a1,a2,a3⟩⟩
    refine ni ?_ .cq q1 q2 hK;have dq:(Instr.keyThatStays en.key (a.eval k)).run P w= .ok (a.eval k) w:=by rw[f3];exact rS tz
    simp only[execOp,ho,Instr.mapUpdate,Sem.run_bind,run_underlying ht,Result.andThen_ok,hu,Go.MapKept.run_getObj_map hb,gI qY tz,f1,f2,bU,bL,dq,Go.MapKept.run_setObj_map _ hb,Sem.run_pure]
  ·exact h.elim
 ·exact h.elim
theorem E_{c:Call}{t':TypeId}{m k:Operand}{m' k':cJ}(ho:o.op= .call c)(hc:c.callee= .builtin .delete)(ha:c.args.toList=[m,k])(uD:c.argTypes.toList=[t,t'])(ht:P.underlying t=some (.map kt et))(qY:n5 P kt=some kd)
 (hm:dp m=some m')(hk:dp k=some k')(he:cr ρ S w e a)(hi:Inv ρ S w)(h:dJ P (.xs (.TS kd) [m',k']) e S K):eL P o a ρ S w K:=by
 have C8:c.args= #[m,k]:=by rw[←ha]
 have xk:c.argTypes= #[t,t']:=by rw[←uD]
 have h1:=bw he hm;have h2:=bw he hk;simp only[dJ,iy,bd,bY,eK,NL]at h;split at h
 ·rename_i id aI e1;split at h
  ·rename_i oO rows x hs;obtain⟨rfl,rfl,pD,hK⟩:=h;rw[e1]at h1;obtain⟨g,hg,hu⟩:=h1.jO hs rfl;obtain⟨es,ck,hb,Ir,dq,hf⟩:=oM (P:=P) hi hs rfl hg qY pD h2;have tz:=KM.of pD h2;have aiq:=Ir;obtain⟨c1,c2,c3⟩:=Ir;rcases hf with⟨f1,f2,f3⟩|⟨i,p,en,f1,f2,f3,f4,f5,f6,f7,f8⟩
   ·rw[zc f3]at hK;obtain⟨q1,q2⟩:=map_set (w9:=ck) (ug:=es) (bT:=rows) hi hs rfl hg hb aiq dq;refine cA (u:=.tuple #[]) ?_ (.rR rfl (by simp)) q1 q2 hK;simp[execOp,ho,hc,C8,xk,resolve,invoke,builtin,Builtin.delete_,run_underlying ht,hu,Go.MapKept.run_getObj_map hb,gI qY tz,f1,Go.MapKept.run_setObj_map _ hb,Result.andThen_ok]
   ·rw[IT f4 f5 f8]at hK;have aR:=(Array.getElem?_eq_some_iff.1 f2).1;have Uq:es.eraseIdxIfInBounds i=es.eraseIdx i aR:=by simp[Array.eraseIdxIfInBounds,aR]
    obtain⟨q1,q2⟩:=map_set (w9:=ck) (ug:=es.eraseIdxIfInBounds i) (bT:=rows.eraseIdx i) hi hs rfl hg hb (dq:=dq.erase _) ⟨by
     simp only at c1;rw[Uq];simp[List.length_eraseIdx,c1,show i<rows.length by omega],fun p hp=>c2 p (List.mem_of_mem_eraseIdx hp),fun j kk vv hj=>by
     simp only at c1 hj;rw[Uq];rw[List.getElem?_eraseIdx]at hj;split at hj
     ·rename_i n9;obtain⟨tI,a1,a2,a3⟩:=c3 j kk vv hj;exact⟨tI,by rw[Array.getElem?_eraseIdx,aK n9];exact a1,a2,a3⟩
     ·rename_i n9;obtain⟨tI,a1,a2,a3⟩:=c3 (j+1) kk vv hj;exact⟨tI,by rw[Array.getElem?_eraseIdx,aC n9];exact a1,a2,a3⟩⟩
    refine cA (u:=.tuple #[]) ?_ (.rR rfl (by simp)) q1 q2 hK;simp[execOp,ho,hc,C8,xk,resolve,invoke,builtin,Builtin.delete_,run_underlying ht,hu,Go.MapKept.run_getObj_map hb,gI qY tz,f1,Go.MapKept.run_setObj_map _ hb,Result.andThen_ok]
  ·exact h.elim
 ·exact h.elim
theorem Fa{c:Call}{m:Operand}{m':cJ}(ho:o.op= .call c)(hc:c.callee= .builtin .clear)(ha:c.args.toList=[m])(uD:c.argTypes.toList=[t])(ht:P.underlying t=some (.map kt et))(hm:dp m=some m')(he:cr ρ S w e a)(hi:Inv ρ S w)
 (h:dJ P (.xs .TT [m']) e S K):eL P o a ρ S w K:=by
 have C8:c.args= #[m]:=by rw[←ha]
 have xk:c.argTypes= #[t]:=by rw[←uD]
 have h1:=bw he hm;simp only[dJ,iy,bd,bY,eK,yo]at h;split at h
 ·rename_i id aI e1;split at h
  ·rename_i kd rows x hs;obtain⟨rfl,h⟩:=h;rw[e1]at h1;obtain⟨g,hg,hu⟩:=h1.jO hs rfl;obtain⟨g',a1,hb⟩:=hi.maps id aI _ (gZ hs);rw[hg]at a1;cases a1;obtain⟨es,ck,hb,_,_⟩:=hb.map rfl;obtain⟨q1,q2⟩:=map_set (w9:=ck) (ug:=#[]) (bT:=[]) hi hs rfl hg hb ⟨rfl,by simp,by simp⟩ .nil;refine cA (u:=.tuple #[]) ?_ (.rR rfl (by simp)) q1 q2 h;simp[execOp,ho,hc,C8,xk,resolve,invoke,builtin,Builtin.clear_,run_underlying ht,hu,Go.MapKept.run_getObj_map hb,Go.MapKept.run_setObj_map _ hb,Result.andThen_ok]
  ·exact h.elim
 ·exact h.elim
end
section
variable{o:Oper}{ρ:Place}{S:ae}{w:World}{e:Nat→V}{a:Act}{K:V→ae→Prop}{t kt et:TypeId}
theorem B3{x:Operand}{x':cJ}(ho:o.op= .range t x)(ht:P.underlying t=some (.map kt et))(hx:dp x=some x')(he:cr ρ S w e a)(hi:Inv ρ S w)(h:dJ P (.xs .range [x']) e S K):eL P o a ρ S w K:=by
 have h1:=bw he hx;simp only[dJ,iy,bd,bY,eK,oF]at h;have fin:∀{dn:Place} {S':ae} {w':World} {m:jF},dn S.length=some (w.heap.size,0)→S'[S.length]?=some ⟨0,some (.mp m)⟩→m.x.iw=true→VR dn S' w' false (.eF S.length 0) (.pointer (some ⟨w.heap.size,0,none⟩)):=by
  intro dn S' w' m hr hs hm;refine .eF (List.getElem?_eq_some_iff.1 hs).1 (fun o ho=>az _) (fun rows iV=>⟨_,hr,?_⟩) rfl;rw[hs]at iV;simp only[aa,Obj.mk.injEq,eR.mp.injEq,eG]at iV;subst iV;simp[jF.addr,hm]
 split at h
 ·rename_i e1;rw[e1]at h1;have hu:a.eval x= .map none:=by generalize a.eval x=u at h1;cases h1;rfl
  obtain⟨k1,k2⟩:=vo (aI:=0) (rows:=⟨.st [],[],.iter none none⟩) hi (fun i h=>by cases h) rfl (w':=w.alloc (.mapIter none 0 #[] 0)) (by simp) rfl ⟨rfl,by first|exact ah _|exact dB _|exact az _⟩ rfl (fun k hk=>Go.heap_alloc_old w _ hk) fun _=>⟨fun p hp=>(by cases hp),[],default,⟨rfl,fun i k v h=>by simp at h⟩,fun p hp=>(by cases hp),0,#[],0,Go.heap_alloc_new w _⟩;refine cA (u:=.pointer (some ⟨w.heap.size,0,none⟩)) ?_ (fin (m:=⟨.st [],[],.iter none none⟩) (by simp[gJ]) (by rw[aD (ah _)];simp) rfl) k1 k2 h;simp only[execOp,ho,Sem.run_bind,hu,run_range_nilMap w t kt et ht,Result.andThen_ok,Sem.run_pure]
 ·rename_i id aI e1;split at h
  ·rename_i kd rows x hs;obtain⟨rfl,hK⟩:=h;rw[e1]at h1;obtain⟨g,hg,hu⟩:=h1.jO hs rfl;obtain⟨g',a1,hb⟩:=hi.maps id aI _ (gZ hs);rw[hg]at a1;cases a1;obtain⟨es,ck,hb,Ir,dq⟩:=hb.map rfl;have Uq:ER ρ S w rows es.toList:=⟨by simpa using Ir.1,fun i k v gP=>by
    obtain⟨en,c1,c2,c3⟩:=Ir.2.2 i k v gP;exact⟨en,by simpa using c1,c2,c3⟩⟩
   have iV:=gZ hs;have aR:=(List.getElem?_eq_some_iff.1 iV).1;have Is:=(Array.getElem?_eq_some_iff.1 hb).1;obtain⟨k1,k2⟩:=vo (aI:=0) (rows:=⟨kd,rows,.iter (some (id,aI)) none⟩) hi (fun i h=>by cases h) rfl (w':=w.alloc (.mapIter (some g) ck #[] ck)) (by simp) rfl ⟨rfl,by first|exact ah _|exact dB _|exact az _⟩ rfl (fun k hk=>Go.heap_alloc_old w _ hk) fun hx=>⟨Ir.2.1,es.toList,default,Uq.ext hx,fun p hp=>(by cases hp),g,ck,#[],Go.heap_alloc_new w _,fun oO bT hm=>by
    rw[aF aR,iV]at hm;cases hm⟩
   have hl:∀(es:Array MapEntry),leftOf es #[]=es:=fun es=>by simp[leftOf]
   have O':(w.alloc (.mapIter (some g) ck #[] ck)).heap[g]?=some (.map es ck):=(Go.heap_alloc_old w _ Is).trans hb;have Ud:gJ ρ S.length w.heap.size 0 id=some (g,0):=by simp[gJ,Nat.ne_of_lt aR,hg]
   obtain⟨m1,m2⟩:=NZ (id:=id) (aI:=aI) (it:=S.length) (iO:=0) (g:=g) (kd:=kd) (rows:=rows) (mi:=⟨kd,rows,.iter (some (id,aI)) none⟩) (since:=ck) (seen:=#[]) (l:=es.toList) (ce:=default) k1 (by rw[aF aR];exact iV) Ud
    (by rw[aD (ah _)];simp) rfl (fun gi hgi=>by
     simp only[gJ,aQ,aa,cB,and_true]at hgi;subst hgi;exact Go.heap_alloc_new w _) Ir.2.1 (Uq.ext k2) ⟨Ud,es,O',dq,by rw[hl],fun h=>by cases h⟩
   have xm:(S++[⟨0,some (.mp ⟨kd,rows,.iter (some (id,aI)) none⟩)⟩]:ae).set id ⟨aI,some (.mp ⟨kd,rows,.held S.length⟩)⟩=(S.set id ⟨aI,some (.mp ⟨kd,rows,.held S.length⟩)⟩)++[⟨0,some (.mp ⟨kd,rows,.iter (some (id,aI)) none⟩)⟩]:=by
    rw[List.set_append_left _ _ aR]
   rw[xm]at m1 m2;refine cA (u:=.pointer (some ⟨w.heap.size,0,none⟩)) ?_ (fin (m:=⟨kd,rows,.iter (some (id,aI)) none⟩) (by simp[gJ]) (by rw[aD (by simp)];simp) rfl) m1 (k2.trans m2) hK;simp only[execOp,ho,Sem.run_bind,hu,run_range_map w t kt et g es ck ht hb,Result.andThen_ok,Sem.run_pure]
  ·exact h.elim
 ·exact h.elim
theorem Km{es:Array MapEntry}{seen:Array Nat}{e:MapEntry}:(leftOf es (seen.push e.born)).toList=(leftOf es seen).toList.filter fun x=>!(x.born==e.born):=by
 unfold leftOf;simp only[Array.toList_filter,List.filter_filter]
 congr 1
 funext x
 rw[contains_push];cases seen.contains x.born<;>cases(x.born==e.born)<;>rfl
theorem B9{l:List MapEntry}{j:Nat}{e:MapEntry}(hn:(l.map (·.born)).Nodup)(hj:l[j]?=some e):(l.eraseIdx j).Perm (l.filter fun x=>!(x.born==e.born)):=by
 induction l generalizing j with
 |nil=>simp at hj
 |cons x l ih=>
  simp only[bd,List.nodup_cons]at hn;cases j with
  |zero=>
   simp only[dL,aa]at hj;subst hj;simp only[List.eraseIdx_cons_zero,List.filter_cons,beq_self_eq_true,il,aV,aZ];rw[List.filter_eq_self.2];intro y hy;have:y.born≠x.born:=fun h=>hn.1 (by rw[←h];exact kT hy);simp[this]
  |succ j=>
   simp only[dM]at hj;have hm:=aB hj;have:x.born≠e.born:=fun h=>hn.1 (by rw[h];exact kT hm);simp only[List.eraseIdx_cons_succ,List.filter_cons,beq_iff_eq,this,eH,aQ,beq_eq_false_iff_ne.2 this];exact(ih hn.2 hj).cons _
theorem wh{α:Type}:∀{l:List α} {j:Nat} {x:α},l[j]?=some x→l.Perm (x::l.eraseIdx j)
 |[],j,x,h=>by simp at h
 |y::l,0,x,h=>by simp at h;subst h;simp
 |y::l,j+1,x,h=>by
  simp only[dM]at h;simp only[List.eraseIdx_cons_succ];exact((wh h).cons y).trans (List.Perm.swap ..)
theorem E9{x:Operand}{x':cJ}(ho:o.op= .next x false)(hx:dp x=some x')(he:cr ρ S w e a)(hi:Inv ρ S w)(h:dJ P (.xs .next [x']) e S K):eL P o a ρ S w K:=by
 have h1:=bw he hx;simp only[dJ,iy,bd,bY,eK,yk]at h;have no:VR ρ S w false (.dI [.bool false]) (.tuple #[.bool false]):=.rR rfl fun j v hj=>by
  match j,hj with
  |0,hj=>simp at hj;subst hj;exact⟨_,rfl,.bool⟩
  |j+1,hj=>simp at hj
 split at h
 ·rename_i it iO e1;rw[e1]at h1;split at h
  ·rename_i kd rest cur hs;obtain⟨g,hg,hu⟩:=h1.vS hs rfl;obtain⟨g',a1,hb⟩:=hi.maps it iO _ (gZ hs);rw[hg]at a1;cases a1;obtain⟨_,_,_,_,_,since,seen,last,hb⟩:=hb;refine cA (u:=.tuple #[.bool false]) ?_ no hi (Ext.refl _ _ _) h;simp only[execOp,ho,Sem.run_bind,hu,Instr.next,getObj,Sem.run,hb,Result.andThen_ok,Sem.run_pure]
  ·rename_i kd rest id aI cur hs;split at h
   ·rename_i oO rows Ic hm;obtain⟨rfl,hK0,hK1⟩:=h;obtain⟨g,hg,hu⟩:=h1.vS hs rfl;have hsi:=gZ hs;have Eb:=gZ hm;obtain⟨g',a1,hb⟩:=hi.maps Ic iO _ hsi;rw[hg]at a1;cases a1;obtain⟨pD,l,ce,l5,lc,gm,since,seen,hb,hl⟩:=hb;obtain⟨l1,es,l2,l3,l4,_⟩:=hl oO rows Eb;rcases run_next_at (P:=P) w o.type g gm since since seen es since hb l2 l3.1 (ah _)with⟨h0,ee⟩|⟨en,hen,w1,C7,ee⟩
    ·have nU:rest=[]:=by
      have:l.length=0:=by rw[l4.length_eq];simpa using h0
      have:=l5.1;exact dc (by simp only at this;omega)
     obtain⟨gm',a2,hbm⟩:=hi.maps id aI _ Eb;obtain⟨es2,ck2,c1,c2,c3⟩:=hbm.map rfl;obtain⟨k1,k2⟩:=uq (w':=w) (bT:=⟨oO,rows,.free⟩) hi (fun i h=>by cases h) Eb l1 rfl rfl ⟨rfl,by first|exact ah _|exact az _⟩ rfl (fun k _=>rfl) ⟨rfl,rfl⟩ fun hx=>by
      rw[l1]at a2;cases a2;exact⟨es2,ck2,c1,c2.ext hx,c3⟩
     refine cA (u:=.tuple #[.bool false]) ?_ (no.ext k2) k1 k2 (hK0 nU);simp only[execOp,ho,hu,Sem.run_bind,ee,Result.andThen_ok,Sem.run_pure]
    ·have hml:en∈l:=l4.mem_iff.2 hen;obtain⟨j,hj⟩:=ez hml;have oV:j<rest.length:=by
      have:=(List.getElem?_eq_some_iff.1 hj).1;have h5:=l5.1;simp only at h5;omega
     have hp:rest[j]?=some rest[j]:=ax oV;obtain⟨tI,q1,q2,q3⟩:=l5.2 j _ _ hp;rw[hj]at q1;cases q1;have tq:w1.heap=w.heap∧w1.os=w.os∧(w1.tape=w.tape∧w.drawn≤w1.drawn)∧w1.output=w.output:=by
      rcases C7 with rfl|rfl
      ·exact⟨rfl,rfl,⟨rfl,by first|exact ah _|exact az _⟩,rfl⟩
      ·exact⟨rfl,rfl,⟨rfl,by first|exact dB _|exact az _⟩,rfl⟩
     have n_:w1.heap[g]?=some (.mapIter (some gm) since seen since):=by rw[tq.1];exact hb
     obtain⟨f1,f2⟩:=Go.MapKept.heap_set (w:=w1) (o':=.mapIter (some gm) since (seen.push en.born) since) n_;have eY:gm≠g:=by
      rintro rfl;rw[l2]at hb;cases hb
     have xw:Ic≠id:=by
      rintro rfl;rw[hsi]at Eb;cases Eb
     obtain⟨k1,k2⟩:=uq (w':={w1 with heap:=w1.heap.setIfInBounds g (.mapIter (some gm) since (seen.push en.born) since)}) (bT:=⟨kd,rest.eraseIdx j,.iter (some (id,aI)) (some rest[j])⟩) hi (fun i h=>by cases h) hsi hg (by simp[tq.1]) tq.2.1 tq.2.2.1 tq.2.2.2
      (fun k hk=>(f2 k hk).trans (by rw[tq.1])) ⟨rfl,rfl⟩ fun hx=>⟨fun p hp=>pD p (List.mem_of_mem_eraseIdx hp),l.eraseIdx j,en,by
       obtain⟨q4,q5⟩:=l5.ext hx;simp only at q4 q5;refine⟨by rw[List.length_eraseIdx,List.length_eraseIdx,q4],fun i k v gP=>?_⟩;rw[List.getElem?_eraseIdx]at gP⊢;split at gP
       ·rename_i kh;rw[aK kh];exact q5 i k v gP
       ·rename_i kh;rw[aC kh];exact q5 (i+1) k v gP,fun p hp=>(by cases hp;exact⟨q2.ext hx,q3.ext hx⟩),gm,since,seen.push en.born,f1,fun kd2 iU _=>⟨l1,es,(f2 gm eY).trans (by rw[tq.1];exact l2),l3,by
       have hn:(l.map (·.born)).Nodup:=(l4.map _).nodup_iff.2 (by
        refine l3.2.sublist (List.Sublist.map _ ?_);unfold leftOf;rw[Array.toList_filter];exact List.filter_sublist)
       rw[Km];exact(B9 hn hj).trans (l4.filter _),fun _=>⟨(mem_left hen).1,seen,rfl⟩⟩⟩
     refine cA (u:=.tuple #[.bool true,en.key,en.val]) ?_ (.rR rfl fun i v fH=>?_) k1 k2 (hK1 rest[j] _ (wh hp))
     ·simp only[execOp,ho,hu,Sem.run_bind,ee,Result.andThen_ok,Sem.run_pure];rfl
     ·match i,fH with
      |0,fH=>simp at fH;subst fH;exact⟨_,rfl,.bool⟩
      |1,fH=>simp at fH;subst fH;exact⟨_,rfl,q2.ext k2⟩
      |2,fH=>simp at fH;subst fH;exact⟨_,rfl,q3.ext k2⟩
      |i+3,fH=>simp at fH
   ·exact h.elim
  ·exact h.elim
 ·exact h.elim
end
theorem AI{o:Oper}{s:gj}{ρ:Place}{S:ae}{w:World}{e:Nat→V}{a:Act}{K:V→ae→Prop}(hc:FZ P o=some s)(he:cr ρ S w e a)(hi:Inv ρ S w)(h:dJ P s e S K):eL P o a ρ S w K:=by
 unfold FZ at hc;split at hc
 ·rename_i t r ho;split at hc
  ·rename_i kt et r' ht hr;simp only[aG]at hc;obtain⟨kd,_,rfl⟩:=hc;exact Ke ho ht hr he hi h
  ·cases hc
 ·rename_i t x ho;split at hc
  ·rename_i kt et x' ht hx;simp only[aa]at hc;subst hc;exact B3 ho ht hx he hi h
  ·cases hc
 ·rename_i x ho;split at hc
  ·rename_i x' hx;simp only[aa]at hc;subst hc;exact E9 ho hx he hi h
  ·cases hc
 ·rename_i t m k ho;split at hc
  ·rename_i kt et m' k' ht hm hk;split at hc
   ·rename_i kd z qY hz;simp only[aa]at hc;subst hc;exact Fe ho ht qY hz hm hk he hi h
   ·cases hc
  ·cases hc
 ·rename_i t m s x ho;split at hc
  ·rename_i m' s' x' hm hs hx;simp only[aa]at hc;subst hc;exact Fc ho hm hs hx he hi h
  ·cases hc
 ·rename_i t m k v ho;split at hc
  ·rename_i kt et m' k' v' ht hm hk hv;simp only[aG]at hc;obtain⟨kd,qY,rfl⟩:=hc;exact NK ho ht qY hm hk hv he hi h
  ·cases hc
 ·rename_i t m k v ho;split at hc
  ·rename_i kt et m' k' v' ht hm hk hv;simp only[aG]at hc;obtain⟨kd,qY,rfl⟩:=hc;exact Kr ho ht qY hm hk hv he hi h
  ·cases hc
 ·rename_i c ho;split at hc
  ·rename_i x l nq ha;split at hc
   ·rename_i pt it x' l' uD hx hl;split at hc
    ·rename_i q hp;split at hc
     ·rename_i h1;simp only[aa]at hc;subst hc;exact Ek ho nq ha uD hp h1 hx hl he hi h
     ·cases hc
    ·cases hc
   ·cases hc
  ·rename_i f x nq ha;split at hc
   ·rename_i eY;simp only[aG]at hc;obtain⟨x',hx,rfl⟩:=hc;simp only[dJ,cu,nh]at h;have C8:c.args= #[x]:=by rw[←ha]
    refine cA (u:=a.eval x) (w':=w) ?_ (bw he hx) hi (Ext.refl _ _ _) h;simp[execOp,ho,resolve,nq,C8,Deferred.ofValue,Act.eval,invoke,Kb eY]
   ·cases hc
  ·rename_i m k nq ha;split at hc
   ·rename_i t t' m' k' uD hm hk;split at hc
    ·rename_i kt et ht;simp only[aG]at hc;obtain⟨kd,qY,rfl⟩:=hc;exact E_ ho nq ha uD ht qY hm hk he hi h
    ·cases hc
   ·cases hc
  ·rename_i m nq ha;split at hc
   ·rename_i t m' uD hm;split at hc
    ·rename_i kt et ht;simp only[aa]at hc;subst hc;exact Fa ho nq ha uD ht hm he hi h
    ·cases hc
   ·cases hc
  ·cases hc
 ·cases hc
theorem xP{own:Hint}{o:Oper}{s:gj}{ρ:Place}{S:ae}{w:World}{e:Nat→V}{a:Act}{K:V→ae→Prop}(hc:rm P own o=some s)(he:cr ρ S w e a)(hi:Inv ρ S w)(h:dJ P s e S K):eL P o a ρ S w K:=by
 unfold rm at hc;split at hc
 ·rename_i s' hs;simp only[aa]at hc;subst hc;unfold IX at hs;split at hs
  ·
    rename_i t x ho;split at hs
    ·simp only[aG]at hs;obtain⟨x',hx,rfl⟩:=hs;simp only[dJ]at h;split at h
     ·rename_i vs CU;have Ur:=(bw he hx).uY CU;obtain⟨f1,f2,f3⟩:=mF w (a.eval x).cells t;obtain⟨k1,k2⟩:=oG (aI:=0) (db:=1) (rows:=[vs]) hi rfl f1 rfl ⟨rfl,by first|exact ah _|exact dB _|exact az _⟩ rfl f2 f3 (ah _) (by unfold maxLen;omega) (by rw[Ur.1];omega) (D6.one Ur);have ee:(execOp a.eval o).run P w= .ok (.value (.pointer (some ⟨w.heap.size,0,none⟩))) (w.alloc (.cells (a.eval x).cells t)):=by
       simp[execOp,ho,Instr.box,newVar,newRow]
      exact cA ee (Hw (db:=1) (by simp[gJ])) k1 k2 h
     ·cases h
    ·cases hs
  ·
    rename_i t n parts ho;split at hs
    ·split at hs
     ·rename_i q sz zero ps hr hp;split at hs
      ·rename_i jS;simp only[aa]at hs;subst hs;simp only[dJ]at h;split at h
       ·rename_i rows lO;obtain⟨ht,i,z,h1,h2,h3,h4,h5,h6⟩:=lq hr;obtain⟨xs,ee,xn,hlen⟩:=Hn ho ht h1 h2 h3 h4 h5 h6 jS hp he lO;obtain⟨f1,f2,f3⟩:=mF w xs q;have hn:n≤maxLen:=by
         have:=Nat.le_mul_of_pos_right n h6;unfold maxLen;omega
        obtain⟨k1,k2⟩:=oG (aI:=0) (db:=n) (rows:=rows) hi rfl f1 rfl ⟨rfl,by first|exact ah _|exact dB _|exact az _⟩ rfl f2 f3 (by omega) hn (by rw[xn.1,hlen]) xn.head;exact cA ee (Af (by simp[gJ]) (by omega) (ah _)) k1 k2 h
       ·cases h
      ·cases hs
     ·cases hs
    ·cases hs
  ·
    rename_i t ho;simp only[aG]at hs;obtain⟨zero,hz,rfl⟩:=hs;simp only[dJ]at h;unfold Vq at hz;split at hz
    ·rename_i i pO;simp only[cP]at hz;obtain⟨zv,⟨z,z0,z1⟩,z2⟩:=hz;have Ur:CR ρ S w zero z.cells:=(V.ic z1 false).uY z2;obtain⟨f1,f2,f3⟩:=mF w z.cells t;obtain⟨k1,k2⟩:=oG (aI:=0) (db:=1) (rows:=[zero]) hi rfl f1 rfl ⟨rfl,by first|exact ah _|exact dB _|exact az _⟩ rfl f2 f3 (ah _) (by unfold maxLen;omega) (by rw[Ur.1];omega) (D6.one Ur);have ee:(execOp a.eval o).run P w= .ok (.value (.pointer (some ⟨w.heap.size,0,none⟩))) (w.alloc (.cells z.cells t)):=by
      simp[execOp,ho,Instr.alloc,newVar,newRow,zeroValue,typeInfo,pO,z0]
     exact cA ee (Hw (db:=1) (by simp[gJ])) k1 k2 h
    ·cases hz
  ·
    rename_i t x v ho;split at hs
    ·rename_i n x' v' hn hx hv;simp only[aa]at hs;subst hs;exact Mb ho hn hx hv he hi h
    ·cases hs
  ·rename_i t l c ho;split at hs
   ·rename_i q sz zero l' c' ht hl Be;split at hs
    ·rename_i hb;simp only[aa]at hs;subst hs;exact NR ho ht hb hl Be he hi h
    ·cases hs
   ·cases hs
  ·rename_i c ho;split at hs
   ·rename_i f l nq hl;split at hs
    ·cases hs
    simp only[aa]at hs;subst hs;obtain⟨l1,l2⟩:=vA he hl;refine I1 (us:=c.args.map a.eval) hi ?_ ⟨by simpa[iy]using l1,fun j v hv=>?_⟩ h
    ·simp[execOp,ho,resolve,nq,Deferred.ofValue,Act.eval,invoke]
    ·obtain⟨u,hu,hr⟩:=l2 j v hv;exact⟨u,by simpa using hu,hr⟩
   ·rename_i t l nq hl;simp only[aa]at hs;subst hs;obtain⟨l1,l2⟩:=vA he hl;simp only[dJ]at h;split at h
    ·rename_i f first cap hf
     have hfv:=he t;simp only[ev]at hf;rw[hf]at hfv;generalize hu:a.tmps.getD t Go.undef=uf at hfv;cases hfv with
     | @func _ _ _ _ us xs c' d uc Uh WJ hv1 WI tq=>
       refine I1 (us:=us++c.args.map a.eval++xs) hi ?_ ⟨by simp[iy]at l1⊢;omega,fun j v hv=>?_⟩ h
       ·have:a.eval (.tmp t)= .func (.func f) us xs:=hu;simp[execOp,ho,resolve,nq,Deferred.ofValue,this,invoke]
       ·have hA:(iy e l).length=c.args.size:=by simpa[iy]using l1.symm
        rcases o_ j first.length with h1|h1
        ·rw[bG,aF h1]at hv;exact⟨c' j,by rw[Array.append_assoc,jI (by omega)];exact WJ j v hv,hv1 j v hv⟩
        ·rcases o_ j (first.length+(iy e l).length)with h2|h2
         ·rw[aF (by simp;omega),aD h1]at hv;obtain⟨u,hu2,hr⟩:=l2 _ v hv;refine⟨u,?_,hr⟩;rw[jI (by simp;omega),Array.getElem?_append_right (by omega),uc];simpa using hu2
         ·rw[aD (by simp;omega)]at hv;simp only[aH]at hv;refine⟨d (j-(first.length+(iy e l).length)),?_,tq _ v hv⟩;rw[Array.getElem?_append_right (by simp;omega)];have:j-(us++c.args.map a.eval).size=j-(first.length+(iy e l).length):=by simp;omega
          rw[this];exact WI _ v hv
    ·cases h
   ·rename_i s2 x2 nq hl;split at hs
    ·rename_i t t' uD;split at hs
     ·rename_i q sz zero ht;have two:∃x y,c.args= #[x,y]∧dp x=some s2∧dp y=some x2:=by
       obtain⟨callee,args,ts⟩:=c;obtain⟨args⟩:=args;simp only at hl;match args,hl with
       |[],hl=>simp[la]at hl
       |[x],hl=>
        simp only[la]at hl;split at hl
        ·rename_i h1 h2;simp only[aa]at h2;subst h2;simp at hl
        ·cases hl
       |[x,y],hl=>
        simp only[la]at hl;split at hl
        ·rename_i h1 h2;split at h2
         ·rename_i h3 h4;simp only[aa]at h2 h4;subst h2 h4;simp only[aa,fh,and_true]at hl;exact⟨x,y,rfl,by rw[h1,hl.1],by rw[h3,hl.2]⟩
         ·cases h2
        ·cases hl
       |x::y::z::r,hl=>
        simp only[la]at hl;split at hl
        ·rename_i h1 h2;split at h2
         ·rename_i h3 h4;split at h4
          ·simp only[aa]at h2 h4;subst h2 h4;simp at hl
          ·cases h4
         ·cases h2
        ·cases hl
      obtain⟨x,y,Sn,hx,hy⟩:=two;have eI:o.op= .call {callee:=.builtin .append,args:=#[x,y],argTypes:=#[t,t']}:=by
       rw[ho];obtain⟨callee,args,ts⟩:=c;obtain⟨ts⟩:=ts;simp only at nq uD Sn;subst nq uD Sn;rfl
      split at hs
      ·rename_i OE;simp only[aa]at hs;subst hs;obtain⟨rfl,hb⟩:=OE;exact K9 eI ht hb hx hy he hi h
      ·split at hs
       ·rename_i OE;simp only[aa]at hs;subst hs;obtain⟨rfl,ht2,hb⟩:=OE;exact F8 eI ht (CB ht2) hb hx hy he hi h
       ·cases hs
     ·cases hs
    ·cases hs
   ·cases hs
  ·
    rename_i op t x y t' ho;split at hs
    ·split at hs
     ·rename_i q x' y' ht hx hy;split at hs
      ·rename_i k neg z' hn;simp only[aa]at hs;subst hs;obtain⟨z,rfl,np,hz,Sn,hk⟩:=rv hx hy hn;exact E7 ho ⟨_,ht⟩ he hi np hz Sn h
      ·cases hs
     ·cases hs
    ·cases hs
  ·rename_i t x hh mm ho;split at hs
   ·split at hs
    ·rename_i q x' h' m' ht hx hhh Ug;simp only[aG]at hs;obtain⟨n,hz,rfl⟩:=hs;exact F1 ho ht hz hx hhh Ug he hi h
    ·cases hs
   ·cases hs
  ·cases hs
 ·split at hc
  ·rename_i s' hs;simp only[aa]at hc;subst hc;exact AI hs he hi h
  simp only[aG]at hc;obtain⟨op,np,rfl⟩:=hc;intro next Q hn
  simp only[dJ,nh]at h;split at h
  ·rename_i v hv;obtain⟨u,w',hr,h1,h2,h3⟩:=J' np he hi hv;unfold Oper.wp;rw[hr];exact hn ρ S w' v u h1 h3 h2 h
  ·cases h
end
end Go.AL
