/- Al9 -/
import Derived.Test.YtfgkgmmnldocaaaGreatDoorZAlD
import Derived.Test.YtfgkgmmnldocaaaGreatDoorZAlF
set_option linter.unusedSectionVars false
set_option linter.unusedSimpArgs false
set_option linter.unusedVariables false
namespace Go.AL
variable[Mode]
theorem wrap_i64{n:Int}(h1: -9223372036854775808≤n)(h2:n≤9223372036854775807):IntKind.i64.wrap n=n:=by
 rw[IntKind.wrap_i64];omega
theorem wrap_u8{n:Int}(h1:0≤n)(h2:n≤255):IntKind.u8.wrap n=n:=by
 simp only[IntKind.wrap,IntKind.bits,IntKind.signed,aO,aV,aZ];omega
theorem wrap_u64{n:Int}(h1:0≤n)(h2:n≤18446744073709551615):IntKind.u64.wrap n=n:=by
 simp only[IntKind.wrap,IntKind.bits,IntKind.signed,aO,aV,aZ];omega
theorem cast_zero:((0:Nat):Int)=0:=by omega
theorem DO:((1:Nat):Int)=1:=by omega
section
variable{P:Program}{N:Nat}{σ:kL}{Q:Exit→Env→ae→Prop}{E:Env}{S:ae}{e:Nat→V}{x y z:cJ}
theorem LP:ji P N σ .skip Q E S=Q .normal E S:=by simp only[ji]
theorem Vx{l:List bj}:ji P N σ (.reg l) Q E S=nH P l E S (Q .normal):=by simp only[ji]
theorem Vv{a b:e8}:ji P N σ (.seq a b) Q E S=ji P N σ a (mZ (ji P N σ b Q) Q) E S:=by simp only[ji]
theorem GH{id:Nat}{c:e8}:ji P N σ (.block id c) Q E S=ji P N σ c (nL id Q) E S:=by simp only[ji]
theorem LR{c:e8}:ji P N σ (.loop c) Q E S=jC P N σ c Q E S:=by simp only[ji]
theorem LS{id:Nat}:ji P N σ (.exit id) Q E S=Q (.exit id) E S:=by simp only[ji]
theorem Vw:ji P N σ .ret Q E S=Q .ret E S:=by simp only[ji]
theorem VM{K:Env→ae→Prop}:nH P [] E S K=K E S:=by simp only[nH]
def kH(E:Env)(t:Nat)(v:V)(want:Bool)(a b:Env→Prop):Prop:=match v with
 | .bool x=>(x=want→a ((t,.bool want)::E))∧(x=!want→b ((t,.bool !want)::E))
 | .cq=>b E
 |_=>False
theorem Ts{d:Option Nat}{t:Nat}{want:Bool}{s:gj}{r:List bj}{K:Env→ae→Prop}:nH P (⟨d,some (t,want),s⟩::r) E S K=
 kH E t (E.get t) want (fun E=>dJ P s E.get S fun v S'=>nH P r (E.put d v) S' K) (fun E=>nH P r (E.put d .cq) S K):=by simp only[nH,mO,kH];rfl
theorem Ph{t:Nat}{b want:Bool}{p q:Env→Prop}:kH E t (.bool b) want p q=if b=want then p ((t,.bool want)::E)else q ((t,.bool !want)::E):=by
 simp only[kH];by_cases h:b=want
 ·simp[h]
 ·have:b=!want:=by cases b<;>cases want<;>simp_all
  simp[this]
theorem CH{c:Prop}[Decidable c]{a b:Prop}:(if c then a else b)=((c→a)∧(¬c→b)):=by
 by_cases h:c<;>simp[h]
theorem Pg{t:Nat}{want:Bool}{p q:Env→Prop}:kH E t .cq want p q=q E:=by simp only[kH]
theorem Vy{t:Nat}:ji P N σ (.rb t) Q E S=AA (E.get t) t E S (Q .normal):=by simp only[ji]
theorem Vr{id aI t:Nat}{K:Env→ae→Prop}:AA (.ptr id aI 0 0) t E S K=FJ (S.bq id aI) id aI t E S K:=by simp only[AA]
theorem LA{ty:TypeId}{sz id aI t:Nat}{cells:List V}{K:Env→ae→Prop}:FJ (some (ty,sz,[cells])) id aI t E S K=(V.bQ cells=true∧K ((t,.bK cells)::E) (S.set id ⟨aI,none⟩)):=by simp only[FJ]
@[congr] theorem aa'{o o':Option (TypeId×Nat×List (List V))}{id aI t:Nat}{K:Env→ae→Prop}(h:o=o'):FJ o id aI t E S K=FJ o' id aI t E S K:=by rw[h]
@[congr] theorem aba{v v':V}{t:Nat}{K:Env→ae→Prop}(h:v=v'):AA v t E S K=AA v' t E S K:=by rw[h]
theorem Q0:V.bQ []=true:=rfl
theorem Q1{k:IntKind}{n:Int}{r:List V}:V.bQ (.int k n::r)=V.bQ r:=by simp only[V.bQ,V.dH,aX]
theorem QZ{l:List UInt8}{r:List V}:V.bQ (.str l::r)=V.bQ r:=by simp only[V.bQ,V.dH,aX]
theorem XX{sz:Nat}{l:List (List V)}{r:List V}:V.bQ (.sl sz l::r)=V.bQ r:=by simp only[V.bQ,V.dH,aX]
theorem Jf{b:Bool}{r:List V}:V.bQ (.bool b::r)=V.bQ r:=by simp only[V.bQ,V.dH,aX]
theorem DW{r:List V}:V.bQ (.aM::r)=V.bQ r:=by simp only[V.bQ,V.dH,aX]
theorem Je{l r:List V}:V.bQ (.bK l::r)=V.bQ r:=by simp only[V.bQ,V.dH,aX]
theorem GG{a b c:List (Fl×bj)}:ji P N σ (.pS a b c) Q E S=ga P a E S fun E S=>ga P b E S (Q .normal)∧ga P c E S (Q .normal):=by simp only[ji]
theorem GD{t:AT (Fl×bj)}:ji P N σ (.sX t) Q E S=lG P t E S (Q .normal):=by simp only[ji]
theorem LN{K:Env→ae→Prop}:lG P .fin E S K=K E S:=by simp only[lG]
theorem LM{x:Fl×bj}{r:AT (Fl×bj)}{K:Env→ae→Prop}:lG P (.one x r) E S K=ga P [x] E S fun E S=>lG P r E S K:=by simp only[lG]
theorem LO{a b:AT (Fl×bj)}{K:Env→ae→Prop}:lG P (.alt a b) E S K=(lG P a E S K∧lG P b E S K):=by simp only[lG]
theorem LQ{l:List (Fl×bj)}:ji P N σ (.cX l) Q E S=ga P l E S (Q .normal):=by simp only[ji]
theorem VN{K:Env→ae→Prop}:ga P [] E S K=K E S:=by simp only[ga]
theorem Tv{f:Fl}{d:Option Nat}{t:Nat}{want:Bool}{s:gj}{r:List (Fl×bj)}{K:Env→ae→Prop}:ga P ((f,⟨d,some (t,want),s⟩)::r) E S K=
 kH E t (E.get t) want (fun E=>ku P f s E.get S fun v S'=>ga P r (E.put d v) S' K) (fun E=>ga P r (E.put d .cq) S K):=by simp only[ga,mO,kH];rfl
theorem Ig{s:gj}{K:V→ae→Prop}:ku P .ay s e S K=dJ P s e S K:=by simp only[ku]
theorem aeE{op:jD}{v:V}:wc P (.p op) e S v=True:=by simp only[wc]
theorem VI{x:cJ}{v:V}:bJ P (.p (.mv x)) e v=True:=by simp[bJ,jD.free]
theorem G7{a b c:cJ}{v:V}:bJ P (.p (.pick a b c)) e v=True:=by simp[bJ,jD.free]
theorem MC{op:BinOp}{x y:cJ}{v:V}:bJ P (.p (.bin op x y)) e v=True:=by simp[bJ,jD.free]
theorem MA{n:Bool}{x y:cJ}{v:V}:bJ P (.p (.Pw n x y)) e v=True:=by simp[bJ,jD.free]
theorem Mv{x:cJ}{v:V}:bJ P (.p (.not x)) e v=True:=by simp[bJ,jD.free]
theorem Mw{x:cJ}{v:V}:bJ P (.p (.neg x)) e v=True:=by simp[bJ,jD.free]
theorem G_{x:cJ}{v:V}:bJ P (.p (.vP x)) e v=True:=by simp[bJ,jD.free]
theorem Hb{x y:cJ}{v:V}:bJ P (.p (.qS x y)) e v=True:=by simp[bJ,jD.free]
theorem Hf{n:Nat}{x:cJ}{v:V}:bJ P (.p (.KF n x)) e v=True:=by simp[bJ,jD.free]
theorem He{n m:Nat}{x:cJ}{v:V}:bJ P (.p (.FK n m x)) e v=True:=by simp[bJ,jD.free]
theorem Hg{k:IntKind}{x:cJ}{v:V}:bJ P (.p (.conv k x)) e v=True:=by simp[bJ,jD.free]
theorem Mz{n:Nat}{x:cJ}{v:V}:bJ P (.p (.ext n x)) e v=True:=by simp[bJ,jD.free]
theorem BL{z:List V}{p:List (Nat×Nat×cJ)}{v:V}:bJ P (.p (.build z p)) e v=True:=by simp[bJ,jD.free]
theorem MB{n m:Nat}{z:List V}{p:List (Nat×cJ)}{v:V}:bJ P (.p (.XS n z m p)) e v=True:=by simp[bJ,jD.free]
theorem Hi{x:cJ}{v:V}:bJ P (.p (.K6 x)) e v=True:=by simp[bJ,jD.free]
theorem G8{f:FuncId}{a b:List cJ}{v:V}:bJ P (.p (.tY f a b)) e v=True:=by simp[bJ,jD.free]
theorem Mt{x:cJ}{a b:Option cJ}{v:V}:bJ P (.p (.Te x a b)) e v=True:=by simp[bJ,jD.free]
theorem x6{m:Bool}{x y:cJ}{v:V}:bJ P (.p (.lJ m x y)) e v=True:=by simp[bJ,jD.free]
theorem G9{t:TypeId}{x:cJ}{v:V}:bJ P (.p (.mkIf t x)) e v=True:=by simp[bJ,jD.free]
theorem Ms{t:TypeId}{z:V}{o:Bool}{x:cJ}{v:V}:bJ P (.p (.ZG t z o x)) e v=True:=by simp[bJ,jD.free]
theorem G'{x:cJ}{v:V}:bJ P (.p (.t_ x)) e v=∀S,cu e S (.t_ x)=some v:=by simp[bJ,jD.free]
theorem Hd{n:Nat}{x y:cJ}{v:V}:bJ P (.p (.mM n x y)) e v=∀S,cu e S (.mM n x y)=some v:=by simp[bJ,jD.free]
theorem Hc{m n:Nat}{x y:cJ}{v:V}:bJ P (.p (.pN m n x y)) e v=∀S,cu e S (.pN m n x y)=some v:=by simp[bJ,jD.free]
theorem Ha{n:Nat}{x y:cJ}{v:V}:bJ P (.p (.CJ n x y)) e v=True:=by simp[bJ,jD.free]
theorem BK{n:Nat}{x:cJ}{v:V}:bJ P (.p (.nu n x)) e v=∀S,cu e S (.nu n x)=some v:=by simp[bJ,jD.free]
theorem My{x:cJ}{v:V}:bJ P (.p (.ld1 x)) e v=∀S,cu e S (.ld1 x)=some v:=by simp[bJ,jD.free]
theorem Mx{n:Nat}{x:cJ}{v:V}:bJ P (.p (.D_ n x)) e v=∀S,cu e S (.D_ n x)=some v:=by simp[bJ,jD.free]
theorem Mu{n:Nat}{x:cJ}{a b:Option cJ}{v:V}:bJ P (.p (.w_ n x a b)) e v=∀S,cu e S (.w_ n x a b)=some v:=by simp[bJ,jD.free]
theorem xZ{x:cJ}{v:V}:bJ P (.p (.gX x)) e v=∀S,cu e S (.gX x)=some v:=by simp[bJ,jD.free]
theorem BJ{k:Nat}{n:Bool}{x:cJ}{v:V}:bJ P (.p (.isNil k n x)) e v=∀S,cu e S (.isNil k n x)=some v:=by simp[bJ,jD.free]
theorem MD{x:cJ}{v:V}:bJ P (.p (.QO x)) e v=∀S,cu e S (.QO x)=some v:=by simp[bJ,jD.free]
theorem VH{op:XOp}{l:List cJ}{v:V}:bJ P (.p (.xo op l)) e v=∀S,cu e S (.xo op l)=some v:=by simp[bJ,jD.free]
theorem Hh{f:FuncId}{l:List cJ}{v:V}:bJ P (.call f l) e v=∀S,ak P f (iy e l) S (fun r S'=>r=v∧S'=S):=by simp only[bJ]
def sV(v:Option V)(K:V→Prop):Prop:=match v with
 |some v=>K v
 |none=>False
theorem ac8{op:jD}{K:V→Prop}:pK P (.p op) e S K=sV (cu e S op) K:=by simp only[pK,sV];rfl
def zn(P:Program)(v:V)(l:List V)(S:ae)(K:V→Prop):Prop:=match v with
 | .func f first cap=>∃v,ak P f (first++l++cap) S (fun r S'=>r=v∧S'=S)∧K v
 |_=>False
theorem Mq{l:List cJ}{K:V→Prop}:pK P (.gp x l) e S K=zn P (ev e x) (iy e l) S K:=by simp only[pK,zn];rfl
theorem HD{v:V}{K:V→Prop}:sV (some v) K=K v:=by simp only[sV]
theorem HE{K:V→Prop}:sV none K=False:=by simp only[sV]
theorem s_p{op:jD}{K:V→ae→Prop}:dJ P (.p op) e S K=nh (cu e S op) S K:=by simp only[dJ]
theorem MH{f:FuncId}{l:List cJ}{K:V→ae→Prop}:dJ P (.call f l) e S K=ak P f (iy e l) S K:=by simp only[dJ]
def zm(P:Program)(v:V)(l:List V)(S:ae)(K:V→ae→Prop):Prop:=match v with
 | .func f first cap=>ak P f (first++l++cap) S K
 |_=>False
theorem Hj{l:List cJ}{K:V→ae→Prop}:dJ P (.gp x l) e S K=zm P (ev e x) (iy e l) S K:=by simp only[dJ,zm];rfl
theorem wO{f:FuncId}{a b l:List V}{K:V→ae→Prop}:zm P (.func f a b) l S K=ak P f (a++l++b) S K:=by simp only[zm]
def K5(t:TypeId)(o:Option (List V))(S:ae)(K:V→ae→Prop):Prop:=match o with
 |some vs=>K (.ptr S.length 0 0 0) (S++[⟨0,some (.arr t vs.length [vs])⟩])
 |none=>False
theorem MJ{t:TypeId}{K:V→ae→Prop}:dJ P (.AP t x) e S K=K5 t (ev e x).cells? S K:=by simp only[dJ,K5];rfl
theorem zq{t:TypeId}{vs:List V}{K:V→ae→Prop}:K5 t (some vs) S K=K (.ptr S.length 0 0 0) (S++[⟨0,some (.arr t vs.length [vs])⟩]):=by simp only[K5]
theorem MF{t:TypeId}{z:List V}{K:V→ae→Prop}:dJ P (.Cj t z) e S K=K (.ptr S.length 0 0 0) (S++[⟨0,some (.arr t z.length [z])⟩]):=by simp only[dJ]
def K1(q:TypeId)(sz n:Nat)(o:Option (List (List V)))(S:ae)(K:V→ae→Prop):Prop:=match o with
 |some rows=>K (.cU S.length 0 0 n) (S++[⟨0,some (.arr q sz rows)⟩])
 |none=>False
theorem MI{q:TypeId}{sz n:Nat}{z:List V}{ps:List (Nat×cJ)}{K:V→ae→Prop}:dJ P (.AO q sz z n ps) e S K=K1 q sz n (j_ e sz (eJ z n) ps) S K:=by simp only[dJ,K1];rfl
theorem zo{q:TypeId}{sz n:Nat}{rows:List (List V)}{K:V→ae→Prop}:K1 q sz n (some rows) S K=K (.cU S.length 0 0 n) (S++[⟨0,some (.arr q sz rows)⟩]):=by simp only[K1]
theorem ac_{n:Nat}{K:V→ae→Prop}:dJ P (.st n x y) e S K=SY n (ev e x) (ev e y).cells? S K:=by simp only[dJ]
theorem ME{neg:Bool}{K:V→ae→Prop}:dJ P (.E8 neg x) e S K=kO neg (ev e x) S K:=by simp only[dJ]
theorem We{neg:Bool}{sz:Nat}{K:V→ae→Prop}:kO neg (.sl sz []) S K=(K (.bool true) S∧K (.bool false) S):=by simp only[kO]
theorem NG{neg:Bool}{sz:Nat}{r:List V}{rows:List (List V)}{K:V→ae→Prop}:kO neg (.sl sz (r::rows)) S K=K (.bool neg) S:=by cases neg<;>simp[kO,lZ]
theorem NH{neg:Bool}{K:V→ae→Prop}:kO neg .aM S K=K (.bool (!neg)) S:=by cases neg<;>simp[kO,lZ]
@[congr] theorem Wc{neg:Bool}{v v':V}{K:V→ae→Prop}(h:v=v'):kO neg v S K=kO neg v' S K:=by rw[h]
def zf(o:Option (TypeId×Nat×List (List V)))(sz id aI:Nat)(b c:Int)(len:Nat)(S:ae)(K:V→ae→Prop):Prop:=match o with
 |some (t,kW,rows)=>kW=sz∧0≤b∧b≤c∧c≤len∧K (.cU id (aI+1) 0 b.toNat) (S.set id ⟨aI+1,some (.arr t kW (rows.take b.toNat))⟩)
 |none=>False
theorem Bk{sz id aI len:Nat}{k k':IntKind}{b c:Int}{K:V→ae→Prop}:eK (.clip sz) [.cU id aI 0 len,.int k b,.int k' c] S K=zf (S.bq id aI) sz id aI b c len S K:=by
 simp only[eK,DM,zf];cases S.bq id aI<;>simp
theorem wG{t:TypeId}{sz id aI len:Nat}{rows:List (List V)}{b c:Int}{K:V→ae→Prop}:zf (some (t,sz,rows)) sz id aI b c len S K=(0≤b∧b≤c∧c≤len∧K (.cU id (aI+1) 0 b.toNat) (S.set id ⟨aI+1,some (.arr t sz (rows.take b.toNat))⟩)):=by simp only[zf,eG]
@[congr] theorem W0{o o':Option (TypeId×Nat×List (List V))}{sz id aI len:Nat}{b c:Int}{K:V→ae→Prop}(h:o=o'):zf o sz id aI b c len S K=zf o' sz id aI b c len S K:=by rw[h]
theorem Bj{sz:Nat}{k k':IntKind}{b c:Int}{K:V→ae→Prop}:eK (.clip sz) [.aM,.int k b,.int k' c] S K=(b=0∧c=0∧K .aM S):=by simp only[eK,DM]
theorem ac9{op:Vj}{l:List cJ}{K:V→ae→Prop}:dJ P (.xs op l) e S K=eK op (iy e l) S K:=by simp only[dJ]
theorem Gp{q:TypeId}{x n:V}{K:V→ae→Prop}:eK (.SL q) [x,n] S K=GJ q x n S K:=by simp only[eK]
theorem LB{kd:KD}{K:V→ae→Prop}:eK (.Wh kd) [] S K=K (.eF S.length 0) (S++[⟨0,some (.mp ⟨kd,[],.free⟩)⟩]):=by simp only[eK,NT]
theorem Gr{kd:KD}{k:IntKind}{n:Int}{K:V→ae→Prop}:eK (.Wh kd) [.int k n] S K=K (.eF S.length 0) (S++[⟨0,some (.mp ⟨kd,[],.free⟩)⟩]):=by simp only[eK,NT]
theorem Vs{kd:KD}{m k v:V}{K:V→ae→Prop}:eK (.mu kd) [m,k,v] S K=NL kd m k .cq (kr k v) S K:=by simp only[eK]
theorem Gs{kd:KD}{m k:V}{K:V→ae→Prop}:eK (.TS kd) [m,k] S K=NL kd m k (.dI []) (DB k) S K:=by simp only[eK]
theorem Gt{m:V}{K:V→ae→Prop}:eK .TT [m] S K=yo m S K:=by simp only[eK]
def muO(o:Option (KD×List (V×V)×MX))(id aI:Nat)(kd:KD)(k:V)(r:V)(f:List (V×V)→List (V×V))(S:ae)(K:V→ae→Prop):Prop:=match o with
 |some (oO,rows,x)=>x= .free∧oO=kd∧jl kd k=true∧K r (S.set id ⟨aI,some (.mp ⟨kd,f rows,.free⟩)⟩)
 |none=>False
theorem HS{kd:KD}{id aI:Nat}{k r:V}{f:List (V×V)→List (V×V)}{K:V→ae→Prop}:NL kd (.eF id aI) k r f S K=muO (S.kp id aI) id aI kd k r f S K:=by simp only[NL,muO];rfl
theorem Cl{kd oO:KD}{rows:List (V×V)}{id aI:Nat}{k r:V}{f:List (V×V)→List (V×V)}{K:V→ae→Prop}:muO (some (oO,rows,.free)) id aI kd k r f S K=(oO=kd∧jl kd k=true∧K r (S.set id ⟨aI,some (.mp ⟨kd,f rows,.free⟩)⟩)):=by simp only[muO,eG]
@[congr] theorem acp{o o':Option (KD×List (V×V)×MX)}{id aI:Nat}{kd:KD}{k r:V}{f:List (V×V)→List (V×V)}{K:V→ae→Prop}(h:o=o'):muO o id aI kd k r f S K=muO o' id aI kd k r f S K:=by rw[h]
def yn(o:Option (KD×List (V×V)×MX))(id aI:Nat)(S:ae)(K:V→ae→Prop):Prop:=match o with
 |some (kd,_,x)=>x= .free∧K (.dI []) (S.set id ⟨aI,some (.mp ⟨kd,[],.free⟩)⟩)
 |none=>False
theorem Gv{kd:KD}{zero m k:V}{K:V→ae→Prop}:eK (.TV kd zero) [m,k] S K=yw kd zero m k S K:=by simp only[eK]
def H5(o:Option (KD×List (V×V)×MX))(id aI:Nat)(kd:KD)(zero k:V)(S:ae)(K:V→ae→Prop):Prop:=match o with
 |some (oO,rows,x)=>x= .free∧oO=kd∧jl kd k=true∧
  ∀(j n:Nat) (p:V×V),(kr k ((gn k rows).getD zero) rows)[j]?=some p→jX k p.1=true→(∀(i:Nat) (q:V×V),i<j→(kr k ((gn k rows).getD zero) rows)[i]?=some q→jX k q.1=false)→
   K (.dI [(gn k rows).getD zero,.int .i64 n]) (S.set id ⟨aI,some (.mp ⟨kd,kr k ((gn k rows).getD zero) rows,.opened j n⟩)⟩)
 |none=>False
theorem yv{kd:KD}{zero k:V}{id aI:Nat}{K:V→ae→Prop}:yw kd zero (.eF id aI) k S K=H5 (S.kp id aI) id aI kd zero k S K:=by simp only[yw,H5];rfl
@[congr] theorem Wo{o o':Option (KD×List (V×V)×MX)}{id aI:Nat}{kd:KD}{zero k:V}{K:V→ae→Prop}(h:o=o'):H5 o id aI kd zero k S K=H5 o' id aI kd zero k S K:=by rw[h]
def yq(o:Option (KD×List (V×V)×MX))(id aI:Nat)(n':Int)(v:V)(S:ae)(K:V→ae→Prop):Prop:=match o with
 |some (kd,rows,.opened j n)=>n'=(n:Int)∧K .cq (S.set id ⟨aI,some (.mp ⟨kd,rows.modify j (fun p=>(p.1,v)),.free⟩)⟩)
 |_=>False
theorem yp{id aI:Nat}{n':Int}{v:V}{K:V→ae→Prop}:yu (.eF id aI) (.int .i64 n') v S K=yq (S.kp id aI) id aI n' v S K:=by simp only[yu,yq];rfl
theorem vK{id aI:Nat}{kd:KD}{rows:List (V×V)}{j n:Nat}{v:V}{K:V→ae→Prop}:yq (some (kd,rows,.opened j n)) id aI (n:Nat) v S K=K .cq (S.set id ⟨aI,some (.mp ⟨kd,rows.modify j (fun p=>(p.1,v)),.free⟩)⟩):=by simp only[yq,eG]
@[congr] theorem Wn{o o':Option (KD×List (V×V)×MX)}{id aI:Nat}{n':Int}{v:V}{K:V→ae→Prop}(h:o=o'):yq o id aI n' v S K=yq o' id aI n' v S K:=by rw[h]
theorem Gu{m s v:V}{K:V→ae→Prop}:eK .TU [m,s,v] S K=yu m s v S K:=by simp only[eK]
theorem Bi{m:V}{K:V→ae→Prop}:eK .range [m] S K=oF m S K:=by simp only[eK]
theorem x9{K:V→ae→Prop}:oF .fp S K=K (.eF S.length 0) (S++[⟨0,some (.mp ⟨.st [],[],.iter none none⟩)⟩]):=by simp only[oF]
def rZ(o:Option (KD×List (V×V)×MX))(id aI:Nat)(S:ae)(K:V→ae→Prop):Prop:=match o with
 |some (kd,rows,x)=>x= .free∧K (.eF S.length 0) ((S.set id ⟨aI,some (.mp ⟨kd,rows,.held S.length⟩)⟩)++[⟨0,some (.mp ⟨kd,rows,.iter (some (id,aI)) none⟩)⟩])
 |none=>False
theorem vn{id aI:Nat}{K:V→ae→Prop}:oF (.eF id aI) S K=rZ (S.kp id aI) id aI S K:=by simp only[oF,rZ];rfl
theorem sU{id aI:Nat}{kd:KD}{rows:List (V×V)}{K:V→ae→Prop}:rZ (some (kd,rows,.free)) id aI S K=K (.eF S.length 0) ((S.set id ⟨aI,some (.mp ⟨kd,rows,.held S.length⟩)⟩)++[⟨0,some (.mp ⟨kd,rows,.iter (some (id,aI)) none⟩)⟩]):=by simp only[rZ,eG]
@[congr] theorem Tr{o o':Option (KD×List (V×V)×MX)}{id aI:Nat}{K:V→ae→Prop}(h:o=o'):rZ o id aI S K=rZ o' id aI S K:=by rw[h]
theorem Gq{m:V}{K:V→ae→Prop}:eK .next [m] S K=yk m S K:=by simp only[eK]
def vG(o:Option (KD×List (V×V)×MX))(it iO id aI:Nat)(kd:KD)(rest:List (V×V))(S:ae)(K:V→ae→Prop):Prop:=match o with
 |some (oO,rows,.held Ic)=>Ic=it∧(rest=[]→K (.dI [.bool false]) (S.set id ⟨aI,some (.mp ⟨oO,rows,.free⟩)⟩))∧
        ∀(p:V×V) (BZ:List (V×V)),rest.Perm (p::BZ)→K (.dI [.bool true,p.1,p.2]) (S.set it ⟨iO,some (.mp ⟨kd,BZ,.iter (some (id,aI)) (some p)⟩)⟩)
 |_=>False
def s9(o:Option (KD×List (V×V)×MX))(it iO:Nat)(S:ae)(K:V→ae→Prop):Prop:=match o with
 |some (_,_,.iter none _)=>K (.dI [.bool false]) S
 |some (kd,rest,.iter (some (id,aI)) _)=>vG (S.kp id aI) it iO id aI kd rest S K
 |_=>False
theorem yi{it iO:Nat}{K:V→ae→Prop}:yk (.eF it iO) S K=s9 (S.kp it iO) it iO S K:=by simp only[yk,s9,vG];rfl
theorem yj{it iO:Nat}{kd:KD}{rows:List (V×V)}{c:Option (V×V)}{K:V→ae→Prop}:s9 (some (kd,rows,.iter none c)) it iO S K=K (.dI [.bool false]) S:=by simp only[s9]
theorem vF{it iO id aI:Nat}{kd:KD}{rest:List (V×V)}{c:Option (V×V)}{K:V→ae→Prop}:s9 (some (kd,rest,.iter (some (id,aI)) c)) it iO S K=vG (S.kp id aI) it iO id aI kd rest S K:=by simp only[s9]
@[congr] theorem Wd{o o':Option (KD×List (V×V)×MX)}{it iO:Nat}{K:V→ae→Prop}(h:o=o'):s9 o it iO S K=s9 o' it iO S K:=by rw[h]
@[congr] theorem TN{o o':Option (KD×List (V×V)×MX)}{it iO id aI:Nat}{kd:KD}{rest:List (V×V)}{K:V→ae→Prop}(h:o=o'):vG o it iO id aI kd rest S K=vG o' it iO id aI kd rest S K:=by rw[h]
theorem ym{id aI:Nat}{K:V→ae→Prop}:yo (.eF id aI) S K=yn (S.kp id aI) id aI S K:=by simp only[yo,yn];rfl
theorem vI{kd:KD}{rows:List (V×V)}{id aI:Nat}{K:V→ae→Prop}:yn (some (kd,rows,.free)) id aI S K=K (.dI []) (S.set id ⟨aI,some (.mp ⟨kd,[],.free⟩)⟩):=by simp only[yn,eG]
@[congr] theorem Wi{o o':Option (KD×List (V×V)×MX)}{id aI:Nat}{K:V→ae→Prop}(h:o=o'):yn o id aI S K=yn o' id aI S K:=by rw[h]
theorem Ol{k k':IntKind}{n:Int}:pM (.int k) (.int k' n)=decide (k=k'):=by simp only[pM]
theorem Oj{l:List UInt8}:pM .str (.str l)=true:=by simp only[pM]
theorem Od{k:nZ}{v:V}:jl (.one k) v=pM k v:=by simp only[jl]
theorem Wv{l:List nZ}{vs:List V}:jl (.st l) (.agg vs)=oQ l vs:=by simp only[jl]
theorem Oe:oQ [] []=true:=by simp only[oQ]
theorem Ib{k:nZ}{l:List nZ}{v:V}{vs:List V}:oQ (k::l) (v::vs)=(pM k v&&oQ l vs):=by simp only[oQ]
theorem PE{k k':IntKind}{a b:Int}:wi (.int k a) (.int k' b)=(decide (k=k')&&decide (a=b)):=by simp only[wi]
theorem PD{a b:List UInt8}:wi (.str a) (.str b)=decide (a=b):=by simp only[wi]
theorem PB:o4 [] []=true:=by simp only[o4]
theorem IP{a b:V}{l m:List V}:o4 (a::l) (b::m)=(wi a b&&o4 l m):=by simp only[o4]
theorem GC:ji P N σ .stuck Q E S=False:=by simp only[ji]
theorem MK{q:TypeId}{K:V→ae→Prop}:dJ P (.K_ q x y) e S K=kj q 1 (ev e x) (JA (ev e y)) S K:=by simp only[dJ]
theorem GW{l:List UInt8}:JA (.str l)=some (1,gT l):=by simp only[JA]
def ZJ(q:Option (List V))(t:TypeId)(sz:Nat)(rows:List (List V))(n id aI row off:Nat)(vs:List V)(S:ae)(K:V→ae→Prop):Prop:=match q with
 |some r=>vs.length=n∧off+n≤r.length∧K .cq (S.set id ⟨aI,some (.arr t sz (rows.set row (gU r off vs)))⟩)
 |none=>False
def stO(o:Option (TypeId×Nat×List (List V)))(n id aI row off:Nat)(vs:List V)(S:ae)(K:V→ae→Prop):Prop:=match o with
 |some (t,sz,rows)=>ZJ rows[row]? t sz rows n id aI row off vs S K
 |none=>False
theorem Mc{n id aI row off:Nat}{vs:List V}{K:V→ae→Prop}:SY n (.ptr id aI row off) (some vs) S K=stO (S.bq id aI) n id aI row off vs S K:=by simp only[SY,stO,ZJ];rfl
theorem Bz{n id aI row off sz:Nat}{t:TypeId}{rows:List (List V)}{vs:List V}{K:V→ae→Prop}:stO (some (t,sz,rows)) n id aI row off vs S K=ZJ rows[row]? t sz rows n id aI row off vs S K:=by simp only[stO]
theorem By{n id aI row off sz:Nat}{t:TypeId}{rows:List (List V)}{r vs:List V}{K:V→ae→Prop}:ZJ (some r) t sz rows n id aI row off vs S K=(vs.length=n∧off+n≤r.length∧K .cq (S.set id ⟨aI,some (.arr t sz (rows.set row (gU r off vs)))⟩)):=by simp only[ZJ]
@[congr] theorem aci{o o':Option (TypeId×Nat×List (List V))}{n id aI row off:Nat}{vs:List V}{K:V→ae→Prop}(h:o=o'):stO o n id aI row off vs S K=stO o' n id aI row off vs S K:=by rw[h]
@[congr] theorem ach{q q':Option (List V)}{n id aI row off sz:Nat}{t:TypeId}{rows:List (List V)}{vs:List V}{K:V→ae→Prop}(h:q=q'):ZJ q t sz rows n id aI row off vs S K=ZJ q' t sz rows n id aI row off vs S K:=by rw[h]
theorem VJ{q:TypeId}{sz:Nat}{K:V→ae→Prop}:dJ P (.app q sz x y) e S K=kj q sz (ev e x) (oy S sz (ev e y)) S K:=by simp only[dJ]
theorem GY{sz:Nat}:oy S sz .aM=some (sz,[]):=by simp only[oy]
theorem Md{sz kW:Nat}{rows:List (List V)}:oy S sz (.sl kW rows)=some (kW,rows):=by simp only[oy,ml]
def SZ(o:Option (TypeId×Nat×List (List V)))(off len:Nat):Option (Nat×List (List V)):=match o with
 |some (_,sz,rows)=>some (sz,(rows.drop off).take len)
 |none=>none
theorem GZ{sz id aI off len:Nat}:oy S sz (.cU id aI off len)=SZ (S.bq id aI) off len:=by
 simp only[oy,ml,SZ];cases S.bq id aI<;>rfl
theorem xS{off len sz:Nat}{t:TypeId}{rows:List (List V)}:SZ (some (t,sz,rows)) off len=some (sz,(rows.drop off).take len):=by simp only[SZ]
theorem rB{q:TypeId}{sz:Nat}{rs:List (List V)}{K:V→ae→Prop}:kj q sz .aM (some (sz,rs)) S K=(rs.length≤dw∧K (.cU S.length 0 0 rs.length) (S++[⟨0,some (.arr q sz rs)⟩])):=by simp only[kj,eG]
def La(o:Option (TypeId×Nat×List (List V)))(q:TypeId)(sz id aI len:Nat)(rs:List (List V))(S:ae)(K:V→ae→Prop):Prop:=match o with
 |some (t,kW,rows)=>t=q∧kW=sz∧rows.length=len∧len+rs.length≤dw∧K (.cU id (aI+1) 0 (len+rs.length)) (S.set id ⟨aI+1,some (.arr q sz (rows++rs))⟩)
 |none=>False
theorem ll{q:TypeId}{sz id aI len:Nat}{rs:List (List V)}{K:V→ae→Prop}:kj q sz (.cU id aI 0 len) (some (sz,rs)) S K=La (S.bq id aI) q sz id aI len rs S K:=by
 simp only[kj,La];cases S.bq id aI<;>simp
theorem iS{q:TypeId}{sz id aI len:Nat}{rows rs:List (List V)}{K:V→ae→Prop}:
 La (some (q,sz,rows)) q sz id aI len rs S K=(rows.length=len∧len+rs.length≤dw∧K (.cU id (aI+1) 0 (len+rs.length)) (S.set id ⟨aI+1,some (.arr q sz (rows++rs))⟩)):=by simp only[La,eG]
@[congr] theorem ab5{o o':Option (TypeId×Nat×List (List V))}{q:TypeId}{sz id aI len:Nat}{rs:List (List V)}{K:V→ae→Prop}(h:o=o'):La o q sz id aI len rs S K=La o' q sz id aI len rs S K:=by rw[h]
theorem MG{q:TypeId}{sz:Nat}{z:List V}{K:V→ae→Prop}:dJ P (.qO q sz z x y) e S K=Sm q sz z (ev e x) (ev e y) S K:=by simp only[dJ]
theorem NS{q:TypeId}{sz:Nat}{z:List V}{k k':IntKind}{n m:Int}{K:V→ae→Prop}:Sm q sz z (.int k n) (.int k' m) S K=(0≤n∧n≤m∧m≤(dw:Int)∧K (.cU S.length 0 0 n.toNat) (S++[⟨0,some (.arr q sz (eJ z n.toNat))⟩])):=by simp only[Sm]
theorem HA{v:V}{K:V→ae→Prop}:nh (some v) S K=K v S:=by simp only[nh]
theorem HB{K:V→ae→Prop}:nh none S K=False:=by simp only[nh]
@[congr] theorem VO{v v':Option V}{S:ae}{K:V→ae→Prop}(h:v=v'):nh v S K=nh v' S K:=by rw[h]
@[congr] theorem VP{v v':Option V}{K:V→Prop}(h:v=v'):sV v K=sV v' K:=by rw[h]
@[congr] theorem WZ{v v':V}{x y:Prop}(h:v=v'):wB v x y=wB v' x y:=by rw[h]
@[congr] theorem UA{t:Nat}{v v':V}{want:Bool}{a b:Env→Prop}(h:v=v'):kH E t v want a b=kH E t v' want a b:=by rw[h]
@[congr] theorem Zs{f:FuncId}{l l':List V}{R:V→ae→Prop}(h:l=l'):ak P f l S R=ak P f l' S R:=by rw[h]
@[congr] theorem Zr{b:e8}{Q:Exit→Env→ae→Prop}{E E':Env}{S:ae}(h:E=E'):jC P N σ b Q E S=jC P N σ b Q E' S:=by rw[h]
@[congr] theorem W8{v v':V}{l l':List V}{K:V→ae→Prop}(h:v=v')(h':l=l'):zm P v l S K=zm P v' l' S K:=by rw[h,h']
@[congr] theorem W9{v v':V}{l l':List V}{K:V→Prop}(h:v=v')(h':l=l'):zn P v l S K=zn P v' l' S K:=by rw[h,h']
@[congr] theorem ab2{t:TypeId}{o o':Option (List V)}{K:V→ae→Prop}(h:o=o'):K5 t o S K=K5 t o' S K:=by rw[h]
@[congr] theorem ab0{q:TypeId}{sz n:Nat}{o o':Option (List (List V))}{K:V→ae→Prop}(h:o=o'):K1 q sz n o S K=K1 q sz n o' S K:=by rw[h]
@[congr] theorem ack{n:Nat}{p p':V}{o o':Option (List V)}{K:V→ae→Prop}(h:p=p')(h':o=o'):SY n p o S K=SY n p' o' S K:=by rw[h,h']
@[congr] theorem ab6{q:TypeId}{sz:Nat}{p p':V}{o o':Option (Nat×List (List V))}{K:V→ae→Prop}(h:p=p')(h':o=o'):kj q sz p o S K=kj q sz p' o' S K:=by rw[h,h']
@[congr] theorem acs{q:TypeId}{sz:Nat}{z:List V}{p p' o o':V}{K:V→ae→Prop}(h:p=p')(h':o=o'):Sm q sz z p o S K=Sm q sz z p' o' S K:=by rw[h,h']
theorem abg{b:Bool}{p q:Prop}:wB (.bool b) p q=if b=true then p else q:=by cases b<;>simp[wB]
theorem Bv{K:Env→ae→Prop}:mZ K Q .normal E S=K E S:=by simp only[mZ]
theorem L6{K:Env→ae→Prop}{i:Nat}:mZ K Q (.exit i) E S=Q (.exit i) E S:=by simp only[mZ]
theorem VC{K:Env→ae→Prop}:mZ K Q .ret E S=Q .ret E S:=by simp only[mZ]
theorem DR{i:Nat}:nL i Q .normal E S=Q .normal E S:=by simp only[nL]
theorem QN{i j:Nat}:nL i Q (.exit j) E S=if j=i then Q .normal E S else Q (.exit j) E S:=by simp only[nL]
theorem XU{i:Nat}:nL i Q .ret E S=Q .ret E S:=by simp only[nL]
theorem Wx{res:List RS}{R:V→ae→Prop}:vl res R .ret E S=k6 E.get S R res []:=by simp only[vl]
theorem CA{res:List RS}{R:V→ae→Prop}:vl res R .normal E S=k6 E.get S R res []:=by simp only[vl]
theorem Og{res:List RS}{R:V→ae→Prop}{i:Nat}:vl res R (.exit i) E S=False:=by simp only[vl]
def B0(o:Option V)(e:Nat→V)(S:ae)(R:V→ae→Prop)(rs:List RS)(acc:List V):Prop:=match o with
 |some v=>k6 e S R rs (acc++[v])
 |none=>False
theorem W_{t:Nat}{R:V→ae→Prop}{rs:List RS}{acc:List V}:k6 e S R (.tmp t::rs) acc=k6 e S R rs (acc++[e t]):=by simp only[k6,rsV]
theorem I4{t:Nat}{R:V→ae→Prop}{rs:List RS}{acc:List V}:k6 e S R (.cell t none::rs) acc=B0 (cu e S (.ld1 (.t t))) e S R rs acc:=by simp only[k6,rsV,B0];rfl
theorem I3{t n:Nat}{R:V→ae→Prop}{rs:List RS}{acc:List V}:k6 e S R (.cell t (some n)::rs) acc=B0 (cu e S (.D_ n (.t t))) e S R rs acc:=by simp only[k6,rsV,B0];rfl
theorem PW{v:V}{R:V→ae→Prop}{rs:List RS}{acc:List V}:B0 (some v) e S R rs acc=k6 e S R rs (acc++[v]):=by simp only[B0]
@[congr] theorem ZY{o o':Option V}{R:V→ae→Prop}{rs:List RS}{acc:List V}(h:o=o'):B0 o e S R rs acc=B0 o' e S R rs acc:=by rw[h]
theorem PZ{R:V→ae→Prop}:k6 e S R [] []=R (.dI []) S:=by simp only[k6,uV]
theorem PY{v:V}{R:V→ae→Prop}:k6 e S R [] [v]=R v S:=by simp only[k6,uV]
theorem PX{v u:V}{l:List V}{R:V→ae→Prop}:k6 e S R [] (v::u::l)=R (.dI (v::u::l)) S:=by simp only[k6,uV]
theorem aeI{n:Nat}:ev e (.t n)=e n:=by simp only[ev]
theorem aeJ{v:V}:ev e (.c v)=v:=by simp only[ev]
theorem IK:iy e []=[]:=by simp only[iy,bY]
theorem Dm{r:List cJ}:iy e (x::r)=ev e x::iy e r:=by simp only[iy,bd]
theorem Db{k t:Nat}{v:V}{r:Env}:Env.get ((k,v)::r) t=if t=k then v else Env.get r t:=by simp only[Env.get]
theorem get_nil{t:Nat}:Env.get [] t= .undef:=by simp only[Env.get]
theorem B4{d:Nat}{v:V}:Env.put E (some d) v=(d,v)::E:=by simp only[Env.put]
theorem B5{v:V}:Env.put E none v=E:=by simp only[Env.put]
theorem wQ{k:Nat}:ju k []=[]:=by simp only[ju]
theorem tP{k:Nat}{v:V}{r:List V}:ju k (v::r)=(k,v)::ju (k+1) r:=by simp only[ju]
theorem GU:sub [] E=True:=by simp only[sub]
theorem Bw{k:Nat}{v:V}{r:Env}:sub ((k,v)::r) E=(E.get k=v∧sub r E):=by simp only[sub]
theorem ads:cu e S (.mv x)=some (ev e x):=by simp only[cu]
def sW(c a b:V):Option V:=match c with
 | .bool t=>some (bif t then a else b)
 |_=>none
theorem Nh:cu e S (.pick x y z)=sW (ev e x) (ev e y) (ev e z):=by simp only[cu,sW];rfl
theorem x_{a b:V}:sW (.bool true) a b=some a:=by simp only[sW,cond_true]
theorem vt{a b:V}:sW (.bool false) a b=some b:=by simp only[sW,cond_false]
theorem HC{t p q:Bool}:sW (.bool t) (.bool p) (.bool q)=some (.bool (bif t then p else q)):=by cases t<;>simp[sW]
theorem V5{op:BinOp}:cu e S (.bin op x y)=dW op (ev e x) (ev e y):=by simp only[cu]
section
variable{k:IntKind}{a b:Int}{l m:List UInt8}
theorem QK:dW .add (.int k a) (.int k b)=some (.int k (k.wrap (a+b))):=by simp only[dW,oa,aQ]
theorem Qz:dW .sub (.int k a) (.int k b)=some (.int k (k.wrap (a-b))):=by simp only[dW,oa,aQ]
theorem QD:dW .mul (.int k a) (.int k b)=some (.int k (k.wrap (a*b))):=by simp only[dW,oa,aQ]
theorem j3(h:b≠0):dW .quo (.int k a) (.int k b)=some (.int k (k.wrap (a.tdiv b))):=by simp only[dW,oa,aQ,h,aZ]
theorem i_(h:b≠0):dW .rem (.int k a) (.int k b)=some (.int k (a.tmod b)):=by simp only[dW,oa,aQ,h,aZ]
theorem QJ:dW .and (.int k a) (.int k b)=some (.int k (k.wrap ((BitVec.ofInt k.bits a&&&BitVec.ofInt k.bits b).toNat))):=by simp only[dW,oa,aQ]
theorem XT:dW .or (.int k a) (.int k b)=some (.int k (k.wrap ((BitVec.ofInt k.bits a|||BitVec.ofInt k.bits b).toNat))):=by simp only[dW,oa,aQ]
theorem Qy:dW .xor (.int k a) (.int k b)=some (.int k (k.wrap ((BitVec.ofInt k.bits a^^^BitVec.ofInt k.bits b).toNat))):=by simp only[dW,oa,aQ]
theorem zs:dW .andNot (.int k a) (.int k b)=some (.int k (k.wrap ((BitVec.ofInt k.bits a&&& ~~~(BitVec.ofInt k.bits b)).toNat))):=by simp only[dW,oa,aQ]
theorem QA{k':IntKind}:dW .shr (.int k a) (.int k' b)=jL false k a b:=by simp only[dW]
theorem QB{k':IntKind}:dW .shl (.int k a) (.int k' b)=jL true k a b:=by simp only[dW]
theorem VE:jL false .u64 a 1=some (.int .u64 (a/2)):=by
 simp only[jL,IntKind.bits];rw[Int.fdiv_eq_ediv_of_nonneg _ (by decide)];rfl
theorem QI:dW .eql (.int k a) (.int k b)=some (.bool (decide (a=b))):=by simp only[dW,oa,aQ]
theorem QC:dW .neq (.int k a) (.int k b)=some (.bool (!decide (a=b))):=by simp only[dW,oa,aQ]
theorem QE:dW .lss (.int k a) (.int k b)=some (.bool (decide (a<b))):=by simp only[dW,oa,aQ]
theorem QF:dW .leq (.int k a) (.int k b)=some (.bool (decide (a≤b))):=by simp only[dW,oa,aQ]
theorem QG:dW .gtr (.int k a) (.int k b)=some (.bool (decide (b<a))):=by simp only[dW,oa,aQ]
theorem QH:dW .geq (.int k a) (.int k b)=some (.bool (decide (b≤a))):=by simp only[dW,oa,aQ]
theorem kJ(h:l.length+m.length≤maxLen):dW .add (.str l) (.str m)=some (.str (l++m)):=by simp only[dW,h,aQ]
theorem Qx:dW .eql (.str l) (.str m)=some (.bool (decide (l=m))):=by simp only[dW]
theorem Qs:dW .neq (.str l) (.str m)=some (.bool (!decide (l=m))):=by simp only[dW]
theorem Qt:dW .lss (.str l) (.str m)=some (.bool (Op.bytesLess l m)):=by simp only[dW]
theorem Qv:dW .gtr (.str l) (.str m)=some (.bool (!(Op.bytesLess l m||decide (l=m)))):=by simp only[dW]
theorem Qu:dW .leq (.str l) (.str m)=some (.bool (Op.bytesLess l m||decide (l=m))):=by simp only[dW]
theorem Qw:dW .geq (.str l) (.str m)=some (.bool (!Op.bytesLess l m)):=by simp only[dW]
end
def KH(neg:Bool)(a b:V):Option V:=match a,b with
 | .bool a,.bool b=>some (.bool (if neg then !(a==b)else a==b))
 |_,_=>none
theorem V3{neg:Bool}:cu e S (.Pw neg x y)=KH neg (ev e x) (ev e y):=by simp only[cu,KH];rfl
theorem WV{a b:Bool}:KH true (.bool a) (.bool b)=some (.bool (!(a==b))):=by simp only[KH,aQ]
theorem WW{a b:Bool}:KH false (.bool a) (.bool b)=some (.bool (a==b)):=by simp[KH]
def tU(k:Nat)(v:V):Option V:=match k,v with
 |0,.bool a=>some (.bool (!a))
 |1,.int k n=>some (.int k (k.wrap (0-n)))
 |2,.str l=>some (.int .i64 l.length)
 |_,_=>none
theorem VY:cu e S (.not x)=tU 0 (ev e x):=by simp only[cu,tU];cases ev e x<;>rfl
theorem VZ:cu e S (.neg x)=tU 1 (ev e x):=by simp only[cu,tU];cases ev e x<;>rfl
theorem Nk:cu e S (.vP x)=tU 2 (ev e x):=by simp only[cu,tU];cases ev e x<;>rfl
theorem LV{a:Bool}:tU 0 (.bool a)=some (.bool (!a)):=by simp only[tU]
theorem LW{k:IntKind}{n:Int}:tU 1 (.int k n)=some (.int k (k.wrap (0-n))):=by simp only[tU]
theorem GI{l:List UInt8}:tU 2 (.str l)=some (.int .i64 l.length):=by simp only[tU]
def oN(S:ae)(v:V):Option V:=cu (fun _=>v) S (.t_ (.t 0))
theorem Nl:cu e S (.t_ x)=oN S (ev e x):=by simp only[oN,cu,ev]
theorem len_nil:oN S .aM=some (.int .i64 0):=by simp only[oN,cu,ev]
theorem N7{sz:Nat}{rows:List (List V)}:oN S (.sl sz rows)=some (.int .i64 rows.length):=by simp only[oN,cu,ev]
def adB(o:Option (TypeId×Nat×List (List V)))(len:Nat):Option V:=match o with
 |some _=>some (.int .i64 len)
 |none=>none
theorem H'{id aI off len:Nat}:oN S (.cU id aI off len)=some (.int .i64 len):=by
 simp only[oN,cu,ev]
theorem yy{len:Nat}{x:TypeId×Nat×List (List V)}:adB (some x) len=some (.int .i64 len):=by simp only[adB]
def yK(v i:V):Option V:=cu (fun n=>if n=0 then v else i) [] (.qS (.t 0) (.t 1))
theorem Np:cu e S (.qS x y)=yK (ev e x) (ev e y):=by simp[yK,cu,ev]
theorem CK{l:List UInt8}{k:IntKind}{n:Nat}:yK (.str l) (.int k n)=(l[n]?).map fun b=>.int .u8 b.toNat:=by simp[yK,cu,ev]
theorem CL{l:List UInt8}{k:IntKind}{n:Int}(h:0≤n):yK (.str l) (.int k n)=(l[n.toNat]?).map fun b=>.int .u8 b.toNat:=by simp[yK,cu,ev,h]
def qT(S:ae)(sz:Nat)(v i:V):Option V:=cu (fun n=>if n=0 then v else i) S (.mM sz (.t 0) (.t 1))
theorem Nr{sz:Nat}:cu e S (.mM sz x y)=qT S sz (ev e x) (ev e y):=by simp[qT,cu,ev]
theorem CM{sz:Nat}{rows:List (List V)}{k:IntKind}{n:Nat}:qT S sz (.sl sz rows) (.int k n)=(rows[n]?).map .bK:=by simp[qT,cu,ev]
theorem CO{sz:Nat}{rows:List (List V)}{k:IntKind}{n:Int}(h:0≤n):qT S sz (.sl sz rows) (.int k n)=(rows[n.toNat]?).map .bK:=by simp[qT,cu,ev,h]
def OA(o:Option (TypeId×Nat×List (List V)))(sz id aI off len:Nat)(n:Int):Option V:=match o with
 |some (_,kW,_)=>if 0≤n∧n<len∧kW=sz then some (.ptr id aI (off+n.toNat) 0)else none
 |none=>none
theorem CN{sz id aI off len:Nat}{k:IntKind}{n:Int}:qT S sz (.cU id aI off len) (.int k n)=OA (S.bq id aI) sz id aI off len n:=by
 cases h:S.bq id aI with
 |none=>simp[qT,cu,ev,OA,h]
 |some x=>simp[qT,cu,ev,OA,h]
theorem yM{sz id aI off len:Nat}{n:Int}{t:TypeId}{rows:List (List V)}(h0:0≤n)(h1:n<len):OA (some (t,sz,rows)) sz id aI off len n=some (.ptr id aI (off+n.toNat) 0):=by
 simp only[OA,h0,h1,mR,aQ]
def yL(S:ae)(len sz:Nat)(v i:V):Option V:=match v,i with
    | .bK cells,.int _ n=>if 0≤n∧n<len then some (.bK (cells.drop (n.toNat*sz)))else none
    | .ptr id aI row o,.int _ n=>if 0≤n∧n<len∧(S.bq id aI).isSome then some (.ptr id aI row (o+n.toNat*sz))else none
    |_,_=>none
theorem Nq{len sz:Nat}:cu e S (.pN len sz x y)=yL S len sz (ev e x) (ev e y):=by simp only[yL,cu];rfl
theorem Oz{len sz:Nat}{k:IntKind}{n:Int}{cells:List V}(h0:0≤n)(h1:n<len):yL S len sz (.bK cells) (.int k n)=some (.bK (cells.drop (n.toNat*sz))):=by simp only[yL,h0,h1,mR,aQ]
def Io(o:Option (TypeId×Nat×List (List V)))(v:V):Option V:=match o with
 |some _=>some v
 |none=>none
theorem Oy{len sz id aI row o:Nat}{k:IntKind}{n:Int}(h0:0≤n)(h1:n<len):yL S len sz (.ptr id aI row o) (.int k n)=Io (S.bq id aI) (.ptr id aI row (o+n.toNat*sz)):=by
 simp only[yL,h0,h1,eG,Io];cases S.bq id aI<;>simp
theorem vU{v:V}{x:TypeId×Nat×List (List V)}:Io (some x) v=some v:=by simp only[Io]
def Im(len:Nat)(v i:V):Option V:=match v,i with
    | .agg cells,.int _ n=>if 0≤n∧n<len then cells[n.toNat]? else none
    |_,_=>none
theorem No{len:Nat}:cu e S (.CJ len x y)=Im len (ev e x) (ev e y):=by simp only[Im,cu];rfl
theorem CI{len:Nat}{k:IntKind}{n:Int}{cells:List V}(h0:0≤n)(h1:n<len):Im len (.agg cells) (.int k n)=cells[n.toNat]?:=by simp only[Im,h0,h1,mR,aQ]
def sE(S:ae)(off:Nat)(v:V):Option V:=cu (fun _=>v) S (.nu off (.t 0))
theorem HK{off:Nat}:cu e S (.nu off x)=sE S off (ev e x):=by simp only[sE,cu,ev]
theorem II{off:Nat}{cells:List V}:sE S off (.bK cells)=some (.bK (cells.drop off)):=by simp only[sE,cu,ev]
def mP(o:Option (TypeId×Nat×List (List V)))(v:V):Option V:=match o with
 |some _=>some v
 |none=>none
theorem IH{off id aI row o:Nat}:sE S off (.ptr id aI row o)=mP (S.bq id aI) (.ptr id aI row (o+off)):=by
 simp only[sE,cu,ev,mP];cases S.bq id aI<;>simp
theorem tF{v:V}{x:TypeId×Nat×List (List V)}:mP (some x) v=some v:=by simp only[mP]
def Ko(S:ae)(v:V):Option V:=cu (fun _=>v) S (.ld1 (.t 0))
theorem V1:cu e S (.ld1 x)=Ko S (ev e x):=by simp only[Ko,cu,ev]
theorem Wu{v:V}{cells:List V}:Ko S (.bK (v::cells))=some v:=by simp only[Ko,cu,ev,List.head?_cons]
def T1(q:Option (TypeId×Nat×List (List V)))(row o:Nat):Option V:=match q with
 |some (_,_,rows)=>(rows[row]?).bind fun r=>r[o]?
 |none=>none
theorem Wt{id aI row o:Nat}:Ko S (.ptr id aI row o)=T1 (S.bq id aI) row o:=by
 simp only[Ko,cu,ev,T1];cases S.bq id aI<;>simp
theorem yC{row o sz:Nat}{t:TypeId}{rows:List (List V)}:T1 (some (t,sz,rows)) row o=(rows[row]?).bind fun r=>r[o]?:=by simp only[T1]
def Kn(S:ae)(n:Nat)(v:V):Option V:=cu (fun _=>v) S (.D_ n (.t 0))
theorem V0{n:Nat}:cu e S (.D_ n x)=Kn S n (ev e x):=by simp only[Kn,cu,ev]
theorem Ws{n:Nat}{cells:List V}(h:n≤cells.length):Kn S n (.bK cells)=some (.agg (cells.take n)):=by simp only[Kn,cu,ev,h,aQ]
def Oa(q:Option (List V))(n o:Nat):Option V:=match q with
 |some r=>if o+n≤r.length then some (.agg ((r.drop o).take n))else none
 |none=>none
def T0(q:Option (TypeId×Nat×List (List V)))(n row o:Nat):Option V:=match q with
 |some (_,_,rows)=>Oa rows[row]? n o
 |none=>none
theorem Wr{n id aI row o:Nat}:Kn S n (.ptr id aI row o)=T0 (S.bq id aI) n row o:=by
 simp only[Kn,cu,ev,T0,Oa];cases h:S.bq id aI with
 |none=>simp
 |some x=>
  obtain⟨t,sz,rows⟩:=x;simp only[Option.bind_some];cases rows[row]?<;>simp
theorem yB{n row o sz:Nat}{t:TypeId}{rows:List (List V)}:T0 (some (t,sz,rows)) n row o=Oa rows[row]? n o:=by simp only[T0]
theorem yA{n o:Nat}{r:List V}(h:o+n≤r.length):Oa (some r) n o=some (.agg ((r.drop o).take n)):=by simp only[Oa,h,aQ]
def UH(off:Nat)(v:V):Option V:=match v with
 | .agg cells=>cells[off]?
 |_=>none
theorem Nt{off:Nat}:cu e S (.KF off x)=UH off (ev e x):=by simp only[cu,UH];rfl
theorem IB{off:Nat}{cells:List V}:UH off (.agg cells)=cells[off]?:=by simp only[UH]
def IA(off n:Nat)(v:V):Option V:=cu (fun _=>v) [] (.FK off n (.t 0))
theorem Ns{off n:Nat}:cu e S (.FK off n x)=IA off n (ev e x):=by simp only[cu,IA,ev]
theorem Dc{off n:Nat}{cells:List V}(h:off+n≤cells.length):IA off n (.agg cells)=some (.agg ((cells.drop off).take n)):=by simp only[IA,cu,ev,h,aQ]
def IV(k:IntKind)(v:V):Option V:=match v with
 | .int _ n=>some (.int k (k.wrap n))
 |_=>none
theorem Nu{k:IntKind}:cu e S (.conv k x)=IV k (ev e x):=by simp only[cu,IV];rfl
theorem DF{k j:IntKind}{n:Int}:IV k (.int j n)=some (.int k (k.wrap n)):=by simp only[IV]
def UP(i:Nat)(v:V):Option V:=match v with
 | .dI vs=>vs[i]?
 |_=>none
theorem V2{i:Nat}:cu e S (.ext i x)=UP i (ev e x):=by simp only[cu,UP];rfl
theorem IJ{i:Nat}{vs:List V}:UP i (.dI vs)=vs[i]?:=by simp only[UP]
theorem HL{z:List V}{ps:List (Nat×Nat×cJ)}:cu e S (.build z ps)=(jV e z ps).map .agg:=by simp only[cu]
def IF(e:Nat→V)(cells:List V)(off size:Nat)(o:Option (List V))(r:List (Nat×Nat×cJ)):Option (List V):=match o with
 |some vs=>if vs.length=size∧off+size≤cells.length then jV e (gU cells off vs) r else none
 |none=>none
theorem Dh{cells:List V}:jV e cells []=some cells:=by simp only[jV]
theorem y7{cells:List V}{off size:Nat}{r:List (Nat×Nat×cJ)}:jV e cells ((off,size,x)::r)=IF e cells off size (ev e x).cells? r:=by simp only[jV,IF];rfl
theorem wg{cells vs:List V}{off size:Nat}{r:List (Nat×Nat×cJ)}:IF e cells off size (some vs) r=if vs.length=size∧off+size≤cells.length then jV e (gU cells off vs) r else none:=by simp only[IF]
theorem xT{cells vs:List V}{off:Nat}:gU cells off vs=cells.take off++vs++cells.drop (off+vs.length):=by simp only[gU]
def U9(o:Option (List V)):Option V:=match o with
 |some vs=>if V.bQ vs then some (.bK vs)else none
 |none=>none
theorem Nv:cu e S (.K6 x)=U9 (ev e x).cells?:=by simp only[cu,U9];rfl
theorem DQ{vs:List V}:U9 (some vs)=if V.bQ vs=true then some (.bK vs)else none:=by simp only[U9]
def Tf(o:Option (TypeId×Nat×List (List V)))(sz id aI off:Nat)(b c:Int)(len:Nat):Option V:=match o with
 |some (_,kW,_)=>if kW=sz∧0≤b∧b≤c∧c≤len then some (.cU id aI off b.toNat)else none
 |none=>none
theorem Gx{sz id aI off len:Nat}{k k':IntKind}{b c:Int}:hU (.sl3 sz) [.cU id aI off len,.int k b,.int k' c] S=Tf (S.bq id aI) sz id aI off b c len:=by
 simp only[hU,Mj,Tf];cases S.bq id aI<;>simp
theorem xY{t:TypeId}{sz id aI off len:Nat}{rows:List (List V)}{b c:Int}(h:0≤b∧b≤c∧c≤len):Tf (some (t,sz,rows)) sz id aI off b c len=some (.cU id aI off b.toNat):=by simp[Tf,h]
theorem Gw{sz:Nat}{rows:List (List V)}{k k':IntKind}{b c:Int}(h:0≤b∧b≤c∧c≤rows.length):hU (.sl3 sz) [.sl sz rows,.int k b,.int k' c] S=some (.sl sz (rows.take b.toNat)):=by simp[hU,Mj,h]
theorem adr{op:XOp}{l:List cJ}:cu e S (.xo op l)=hU op (iy e l) S:=by simp only[cu]
theorem LI{neg:Bool}{x y:V}:hU (.eqP neg) [x,y] S=Dq neg x y S:=by simp only[hU]
theorem LD{x:V}:hU .toU [x] S=Jw x S:=by simp only[hU]
theorem LH{t:TypeId}{sz:Nat}{x:V}:hU (.frU t sz) [x] S=KE t sz x S:=by simp only[hU]
theorem LF{x:V}:hU .s2b [x] S=Ti x:=by simp only[hU]
theorem Hl{l:List UInt8}:Ti (.str l)=some (.sl 1 (l.map fun b=>[V.int .u8 (b.toNat:Nat)])):=rfl
theorem Gy{x:V}:hU .Tg [x] S=sP x S:=by simp only[hU]
theorem Vt{kd:KD}{zero:V}{ok:Bool}{m k:V}:hU (.lk kd zero ok) [m,k] S=Wp kd zero ok m k S:=by simp only[hU]
theorem N0{kd:KD}{zero:V}{ok:Bool}{k:V}:Wp kd zero ok .fp k S=if jl kd k=true then some (nT zero ok none)else none:=by simp only[Wp]
theorem H_{kd:KD}{zero:V}{ok:Bool}{k:V}{id aI:Nat}:Wp kd zero ok (.eF id aI) k S=Wq kd zero ok k (S.kp id aI):=by simp only[Wp]
theorem Cr{kd oO:KD}{zero:V}{ok:Bool}{k:V}{rows:List (V×V)}:Wq kd zero ok k (some (oO,rows,.free))=if oO=kd∧jl kd k=true then some (nT zero ok (gn k rows))else none:=by simp only[Wq,MX.iw,and_true]
theorem Cs{kd oO:KD}{zero:V}{ok:Bool}{k:V}{rows:List (V×V)}{i:Nat}:Wq kd zero ok k (some (oO,rows,.held i))=if oO=kd∧jl kd k=true then some (nT zero ok (gn k rows))else none:=by simp only[Wq,MX.iw,and_true]
theorem LK{m:V}:hU .ent [m] S=KK m S:=by simp only[hU]
theorem PA{it iO:Nat}:KK (.eF it iO) S=FQ it S (S.kp it iO):=by simp only[KK]
theorem IN{it id aI:Nat}{kd:KD}{rows:List (V×V)}{p:V×V}:FQ it S (some (kd,rows,.iter (some (id,aI)) (some p)))=y_ it p (S.kp id aI):=by simp only[FQ]
theorem za{it:Nat}{kd:KD}{rows:List (V×V)}{p:V×V}:y_ it p (some (kd,rows,.held it))=some (.dI [p.1,p.2]):=by simp only[y_,aQ]
theorem N1{zero:V}{o:Option V}:nT zero true o= .dI [o.getD zero,.bool o.isSome]:=by simp only[nT,aQ]
theorem N2{zero:V}{o:Option V}:nT zero false o=o.getD zero:=by simp only[nT,aV,aZ]
theorem Gz{m:V}:hU .TX [m] S=th m S:=by simp only[hU]
theorem Cx:th .fp S=some (.int .i64 0):=by simp only[th]
theorem yz{id aI:Nat}:th (.eF id aI) S=tj (S.kp id aI):=by simp only[th]
theorem vQ{kd:KD}{rows:List (V×V)}:tj (some (kd,rows,.free))=some (.int .i64 rows.length):=by simp only[tj,MX.iw,aQ]
theorem vR{kd:KD}{rows:List (V×V)}{i:Nat}:tj (some (kd,rows,.held i))=some (.int .i64 rows.length):=by simp only[tj,MX.iw,aQ]
theorem LJ{l:List nZ}{neg:Bool}{x y:V}:hU (.Pz l neg) [x,y] S=Py l neg x y:=by simp only[hU]
theorem IM{l:List nZ}{neg:Bool}{a b:List V}:Py l neg (.agg a) (.agg b)=if oQ l a=true∧oQ l b=true then some (.bool (if neg then !o4 a b else o4 a b))else none:=by simp only[Py]
def eqO(o:Option (TypeId×Nat×List (List V)))(neg:Bool):Option V:=match o with
 |some _=>some (.bool (!neg))
 |none=>none
theorem Dr{t:TypeId}{sz:Nat}{rows:List (List V)}{neg:Bool}:eqO (some (t,sz,rows)) neg=some (.bool (!neg)):=by simp only[eqO]
def UQ(o o':Option (TypeId×Nat×List (List V)))(neg:Bool):Option V:=match o,o' with
 |some _,some _=>some (.bool neg)
 |_,_=>none
theorem y9{t t':TypeId}{sz kW:Nat}{rows bT:List (List V)}{neg:Bool}:UQ (some (t,sz,rows)) (some (t',kW,bT)) neg=some (.bool neg):=by simp only[UQ]
theorem Dp{neg:Bool}{id aI row off Ks gS xd xi:Nat}(h:id≠Ks):Dq neg (.ptr id aI row off) (.ptr Ks gS xd xi) S=UQ (S.bq id aI) (S.bq Ks gS) neg:=by
 simp only[Dq,UQ];rw[aC (fun e=>h e.1)];cases S.bq id aI<;>cases S.bq Ks gS<;>simp[h]
theorem Dn{neg:Bool}{id aI row off:Nat}:Dq neg (.ptr id aI row off) (.ptr id aI row off) S=eqO (S.bq id aI) neg:=by
 simp only[Dq,eqO];cases S.bq id aI<;>simp
def SQ(o:Option (TypeId×Nat×List (List V)))(id aI row off:Nat):Option V:=match o with
 |some (_,sz,rows)=>if row<rows.length∧off<sz then some (.ptr id aI row off)else none
 |none=>none
theorem VA{id aI row off:Nat}:Jw (.ptr id aI row off) S=SQ (S.bq id aI) id aI row off:=by simp only[Jw,SQ];rfl
theorem xN{t:TypeId}{sz:Nat}{rows:List (List V)}{id aI row off:Nat}(h1:row<rows.length)(h2:off<sz):SQ (some (t,sz,rows)) id aI row off=some (.ptr id aI row off):=by simp only[SQ,h1,h2,mR,aQ]
def UD(t:TypeId)(sz:Nat)(o:Option (TypeId×Nat×List (List V)))(id aI row off:Nat):Option V:=match o with
 |some (t',kW,rows)=>if off=0∧t'=t∧kW=sz∧row<rows.length then some (.ptr id aI row 0)else none
 |none=>none
theorem WR{t:TypeId}{sz id aI row off:Nat}:KE t sz (.ptr id aI row off) S=UD t sz (S.bq id aI) id aI row off:=by simp only[KE,UD];rfl
theorem yX{t:TypeId}{sz:Nat}{rows:List (List V)}{id aI row:Nat}(h1:row<rows.length):UD t sz (some (t,sz,rows)) id aI row 0=some (.ptr id aI row 0):=by simp only[UD,h1,mR,aQ]
def G6(o:Option (TypeId×Nat×List (List V)))(id aI off:Nat):Option V:=match o with
 |some _=>some (.ptr id aI off 0)
 |none=>none
theorem Mp{id aI off len:Nat}(h:0<len):sP (.cU id aI off len) S=G6 (S.bq id aI) id aI off:=by
 simp only[sP,G6,h,eG];cases S.bq id aI<;>simp
theorem vg{t:TypeId}{sz:Nat}{rows:List (List V)}{id aI off:Nat}:G6 (some (t,sz,rows)) id aI off=some (.ptr id aI off 0):=by simp only[G6]
theorem BI:sP .aM S=some .nilPtr:=by simp only[sP]
theorem Ni{f:FuncId}{a b:List cJ}:cu e S (.tY f a b)=some (.func f (iy e a) (iy e b)):=by simp only[cu]
def mmV(mn:Bool)(a b:V):Option V:=cu (fun n=>if n=0 then a else b) [] (.lJ mn (.t 0) (.t 1))
theorem Ci{mn:Bool}:cu e S (.lJ mn x y)=mmV mn (ev e x) (ev e y):=by simp[mmV,cu,ev]
theorem NP{k:IntKind}{a b:Int}:mmV true (.int k a) (.int k b)=some (.int k (min a b)):=by
 simp only[mmV,cu,ev,aQ]
 congr 2
 by_cases h:b<a
 ·simp[h];omega
 ·simp[h];omega
theorem NQ{k:IntKind}{a b:Int}:mmV false (.int k a) (.int k b)=some (.int k (max a b)):=by
 simp[mmV,cu,ev];by_cases h:b>a
 ·simp[h];omega
 ·simp[h];omega
def Td(e:Nat→V)(v:V)(lo hi:Option cJ):Option V:=match v with
 | .str l=>match bound e 0 lo,bound e l.length hi with
   |some a,some b=>if 0≤a∧a≤b∧b≤l.length then some (.str ((l.drop a.toNat).take (b.toNat-a.toNat)))else none
   |_,_=>none
 |_=>none
theorem VW{lo hi:Option cJ}:cu e S (.Te x lo hi)=Td e (ev e x) lo hi:=by simp only[cu,Td];rfl
def Al:V→Option Int
 | .int _ n=>some n
 |_=>none
theorem I7{d:Nat}:bound e d none=some (d:Int):=by simp only[bound]
theorem I6{d:Nat}:bound e d (some x)=Al (ev e x):=by simp only[bound,Al];cases ev e x<;>rfl
theorem Oo{k:IntKind}{n:Int}:Al (.int k n)=some n:=by simp only[Al]
def KR(l:List UInt8)(a b:Option Int):Option V:=match a,b with
 |some a,some b=>if 0≤a∧a≤b∧b≤l.length then some (.str ((l.drop a.toNat).take (b.toNat-a.toNat)))else none
 |_,_=>none
theorem G1{l:List UInt8}{lo hi:Option cJ}:Td e (.str l) lo hi=KR l (bound e 0 lo) (bound e l.length hi):=by simp only[Td,KR]
theorem pG{l:List UInt8}{a b:Int}:KR l (some a) (some b)=if 0≤a∧a≤b∧b≤l.length then some (.str ((l.drop a.toNat).take (b.toNat-a.toNat)))else none:=by simp only[KR]
def JT(e:Nat→V)(S:ae)(sz:Nat)(v:V)(lo hi:Option cJ):Option V:=match v with
 | .aM=>match bound e 0 lo,bound e 0 hi with
   |some a,some b=>if a=0∧b=0 then some .aM else none
   |_,_=>none
 | .sl kW rows=>match bound e 0 lo,bound e rows.length hi with
   |some a,some b=>if kW=sz∧0≤a∧a≤b∧b≤rows.length then some (.sl sz ((rows.drop a.toNat).take (b.toNat-a.toNat)))else none
   |_,_=>none
 | .cU id aI off len=>match bound e 0 lo,bound e len hi with
   |some a,some b=>if((S.bq id aI).map (·.2.1))=some sz∧0≤a∧a≤b∧b≤len then some (.cU id aI (off+a.toNat) (b.toNat-a.toNat))else none
   |_,_=>none
 |_=>none
theorem VX{sz:Nat}{lo hi:Option cJ}:cu e S (.w_ sz x lo hi)=JT e S sz (ev e x) lo hi:=by simp only[cu,JT];rfl
def UZ(sz:Nat)(rows:List (List V))(a b:Option Int):Option V:=match a,b with
 |some a,some b=>if 0≤a∧a≤b∧b≤rows.length then some (.sl sz ((rows.drop a.toNat).take (b.toNat-a.toNat)))else none
 |_,_=>none
def UY(o:Option (TypeId×Nat×List (List V)))(sz id aI off len:Nat)(a b:Option Int):Option V:=match o,a,b with
 |some (_,kW,_),some a,some b=>if kW=sz∧0≤a∧a≤b∧b≤len then some (.cU id aI (off+a.toNat) (b.toNat-a.toNat))else none
 |_,_,_=>none
theorem G2{sz id aI off len:Nat}{lo hi:Option cJ}:JT e S sz (.cU id aI off len) lo hi=UY (S.bq id aI) sz id aI off len (bound e 0 lo) (bound e len hi):=by
 simp only[JT,UY];cases S.bq id aI<;>cases bound e 0 lo<;>cases bound e len hi<;>simp
theorem zd{sz id aI off len:Nat}{t:TypeId}{rows:List (List V)}{a b:Int}:UY (some (t,sz,rows)) sz id aI off len (some a) (some b)=if 0≤a∧a≤b∧b≤len then some (.cU id aI (off+a.toNat) (b.toNat-a.toNat))else none:=by simp only[UY,eG]
theorem Mi{sz:Nat}{rows:List (List V)}{lo hi:Option cJ}:JT e S sz (.sl sz rows) lo hi=UZ sz rows (bound e 0 lo) (bound e rows.length hi):=by simp only[JT,UZ,eG]
theorem ze{sz:Nat}{rows:List (List V)}{a b:Int}:UZ sz rows (some a) (some b)=if 0≤a∧a≤b∧b≤rows.length then some (.sl sz ((rows.drop a.toNat).take (b.toNat-a.toNat)))else none:=by simp only[UZ]
def U8(sz:Nat)(o:Option (List (List V))):Option V:=match o with
 |some rows=>if rows.all V.bQ then some (.sl sz rows)else none
 |none=>none
theorem V4{sz n:Nat}{z:List V}{ps:List (Nat×cJ)}:cu e S (.XS sz z n ps)=U8 sz (j_ e sz (eJ z n) ps):=by simp only[cu,U8];rfl
theorem DP{sz:Nat}{rows:List (List V)}:U8 sz (some rows)=if rows.all V.bQ=true then some (.sl sz rows)else none:=by simp only[U8]
def AE(e:Nat→V)(sz:Nat)(rows:List (List V))(i:Nat)(o:Option (List V))(r:List (Nat×cJ)):Option (List (List V)):=match o with
 |some vs=>if vs.length=sz∧i<rows.length then j_ e sz (rows.set i vs) r else none
 |none=>none
theorem y8{sz:Nat}{rows:List (List V)}:j_ e sz rows []=some rows:=by simp only[j_]
theorem we{sz i:Nat}{rows:List (List V)}{r:List (Nat×cJ)}:j_ e sz rows ((i,x)::r)=AE e sz rows i (ev e x).cells? r:=by simp only[j_,AE];rfl
theorem tE{sz i:Nat}{rows:List (List V)}{vs:List V}{r:List (Nat×cJ)}:AE e sz rows i (some vs) r=if vs.length=sz∧i<rows.length then j_ e sz (rows.set i vs) r else none:=by simp only[AE]
theorem uR{z:List V}:eJ z 0=[]:=by simp only[eJ,List.replicate_zero]
theorem uS{z:List V}{n:Nat}:eJ z (n+1)=z::eJ z n:=by simp only[eJ,List.replicate_succ]
def xD(S:ae)(v:V):Option V:=cu (fun _=>v) S (.gX (.t 0))
theorem Ch:cu e S (.gX x)=xD S (ev e x):=by simp only[xD,cu,ev]
theorem W6{l:List V}:xD S (.bK l)=some (.bK l):=by simp only[xD,cu,ev]
theorem W1{id aI row o:Nat}:xD S (.ptr id aI row o)=mP (S.bq id aI) (.ptr id aI row o):=by
 simp only[xD,cu,ev,mP];cases S.bq id aI<;>simp
theorem W5{f:FuncId}{a b:List V}:xD S (.func f a b)=some (.func f a b):=by simp only[xD,cu,ev]
theorem W2{t:TypeId}{v:V}:xD S (.iface t v)=some (.iface t v):=by simp only[xD,cu,ev]
theorem Nj{t:TypeId}:cu e S (.mkIf t x)=some (.iface t (ev e x)):=by simp only[cu]
def Bt(t:TypeId)(z:V)(ok:Bool)(v:V):Option V:=cu (fun _=>v) [] (.ZG t z ok (.t 0))
theorem VV{t:TypeId}{z:V}{ok:Bool}:cu e S (.ZG t z ok x)=Bt t z ok (ev e x):=by simp only[Bt,cu,ev]
theorem xO{t t':TypeId}{z v:V}:Bt t z true (.iface t' v)=if t'=t then some (.dI [v,.bool true])else some (.dI [z,.bool false]):=by simp[Bt,cu,ev]
theorem u9{t t':TypeId}{z v:V}:Bt t z false (.iface t' v)=if t'=t then some v else none:=by simp[Bt,cu,ev]
theorem GR{t:TypeId}{z:V}:Bt t z true .nilIface=some (.dI [z,.bool false]):=by simp[Bt,cu,ev]
def fq(S:ae)(k:Nat)(neg:Bool)(v:V):Option V:=cu (fun _=>v) S (.isNil k neg (.t 0))
theorem HJ{k:Nat}{neg:Bool}:cu e S (.isNil k neg x)=fq S k neg (ev e x):=by simp only[fq,cu,ev]
theorem Wb{neg:Bool}:fq S 0 neg .aM=some (.bool (!neg)):=by cases neg<;>simp[fq,cu,ev,lZ]
theorem ND{neg:Bool}{sz:Nat}{r:List V}{rows:List (List V)}:fq S 0 neg (.sl sz (r::rows))=some (.bool neg):=by cases neg<;>simp[fq,cu,ev,lZ]
theorem Wa{neg:Bool}:fq S 1 neg .nilPtr=some (.bool (!neg)):=by cases neg<;>simp[fq,cu,ev,lZ]
theorem NB{neg:Bool}{l:List V}:fq S 1 neg (.bK l)=some (.bool neg):=by cases neg<;>simp[fq,cu,ev,lZ]
theorem NA{neg:Bool}{id aI row o:Nat}:fq S 1 neg (.ptr id aI row o)=mP (S.bq id aI) (.bool neg):=by
 simp only[fq,cu,ev,lZ,mP];cases S.bq id aI<;>cases neg<;>simp
theorem NC{neg:Bool}{id aI off len:Nat}(h:0<len):fq S 0 neg (.cU id aI off len)=mP (S.bq id aI) (.bool neg):=by
 simp only[fq,cu,ev,lZ,mP,h];cases S.bq id aI<;>cases neg<;>simp
theorem V_{neg:Bool}:fq S 2 neg .nilIface=some (.bool (!neg)):=by cases neg<;>simp[fq,cu,ev,lZ]
theorem Nz{neg:Bool}{t:TypeId}{v:V}:fq S 2 neg (.iface t v)=some (.bool neg):=by cases neg<;>simp[fq,cu,ev,lZ]
theorem V8{neg:Bool}:fq S 4 neg .fp=some (.bool (!neg)):=by cases neg<;>simp[fq,cu,ev,lZ]
def vE(o:Option (KD×List (V×V)×MX))(b:Bool):Option V:=match o with
 |some (_,_,x)=>if x.iw=false then some (.bool b)else none
 |none=>none
theorem Nx{neg:Bool}{id aI:Nat}:fq S 4 neg (.eF id aI)=vE (S.kp id aI) neg:=by
 simp only[fq,cu,ev,lZ];cases S.kp id aI with
 |none=>simp[vE]
 |some p=>obtain⟨kd,rows,x⟩:=p;cases hx:x.iw<;>cases neg<;>simp[vE,hx]
theorem vC{kd:KD}{rows:List (V×V)}{b:Bool}:vE (some (kd,rows,.free)) b=some (.bool b):=by simp only[vE,MX.iw,aQ]
theorem vD{kd:KD}{rows:List (V×V)}{i:Nat}{b:Bool}:vE (some (kd,rows,.held i)) b=some (.bool b):=by simp only[vE,MX.iw,aQ]
theorem V9{neg:Bool}:fq S 3 neg .jN=some (.bool (!neg)):=by cases neg<;>simp[fq,cu,ev,lZ]
theorem Ny{neg:Bool}{f:FuncId}{a b:List V}:fq S 3 neg (.func f a b)=some (.bool neg):=by cases neg<;>simp[fq,cu,ev,lZ]
def AQ(S:ae)(v:V):Option V:=cu (fun _=>v) S (.QO (.t 0))
theorem V6:cu e S (.QO x)=AQ S (ev e x):=by simp only[AQ,cu,ev]
theorem I9:AQ S .aM=some (.str []):=by simp only[AQ,cu,ev]
def j2(l:List UInt8):List (List V):=l.map fun b=>[.int .u8 b.toNat]
theorem ky:∀{l:List UInt8},lT (j2 l)=some l
 |[]=>by simp only[j2,bY,lT]
 |b::r=>by
  have:=ky (l:=r);simp only[j2]at this;simp[j2,lT,this]
theorem F6{l:List UInt8}:AQ S (.sl 1 (j2 l))=some (.str l):=by simp[AQ,cu,ev,ky]
def U'(o:Option (TypeId×Nat×List (List V)))(off len:Nat):Option V:=match o with
 |some (_,sz,rows)=>if sz=1 then(lT ((rows.drop off).take len)).map .str else none
 |none=>none
theorem I_{id aI off len:Nat}:AQ S (.cU id aI off len)=U' (S.bq id aI) off len:=by
 simp only[AQ,cu,ev,U'];cases S.bq id aI<;>simp
theorem zt{len:Nat}{t:TypeId}{l:List UInt8}(hl:l.length=len):U' (some (t,1,j2 l)) 0 len=some (.str l):=by
 subst hl;have h1:(j2 l).take l.length=j2 l:=bh (by simp[j2]);simp only[U',aQ,lp,h1,ky,bU]
theorem zk{k:IntKind}{n:Int}:(V.int k n).cells?=some [.int k n]:=by simp only[V.cells?]
theorem wN{b:Bool}:(V.bool b).cells?=some [.bool b]:=by simp only[V.cells?]
theorem zh{l:List UInt8}:(V.str l).cells?=some [.str l]:=by simp only[V.cells?]
theorem DN{sz:Nat}{rows:List (List V)}:(V.sl sz rows).cells?=some [.sl sz rows]:=by simp only[V.cells?]
theorem tL:(V.aM).cells?=some [.aM]:=by simp only[V.cells?]
theorem rA:(V.nilPtr).cells?=some [.nilPtr]:=by simp only[V.cells?]
theorem o7:(V.nilIface).cells?=some [.nilIface]:=by simp only[V.cells?]
theorem tM{t:TypeId}{v:V}:(V.iface t v).cells?=some [.iface t v]:=by simp only[V.cells?]
theorem zj{a b c d:Nat}:(V.cU a b c d).cells?=some [.cU a b c d]:=by simp only[V.cells?]
theorem zi{a b c d:Nat}:(V.ptr a b c d).cells?=some [.ptr a b c d]:=by simp only[V.cells?]
theorem wM{l:List V}:(V.bK l).cells?=some [.bK l]:=by simp only[V.cells?]
theorem wL{f:FuncId}{a b:List V}:(V.func f a b).cells?=some [.func f a b]:=by simp only[V.cells?]
theorem zl{l:List V}:(V.agg l).cells?=if l.all V.dK=true then some l else none:=by simp only[V.cells?]
theorem ok_int{k:IntKind}{n:Int}:(V.int k n).dK=true:=by simp only[V.dK]
theorem HI{b:Bool}:(V.bool b).dK=true:=by simp only[V.dK]
theorem Nb{l:List UInt8}:(V.str l).dK=true:=by simp only[V.dK]
theorem VT{sz:Nat}{rows:List (List V)}:(V.sl sz rows).dK=true:=by simp only[V.dK]
theorem Cb:(V.aM).dK=true:=by simp only[V.dK]
theorem Nd{a b c d:Nat}:(V.cU a b c d).dK=true:=by simp only[V.dK]
theorem Nc{a b c d:Nat}:(V.ptr a b c d).dK=true:=by simp only[V.dK]
theorem HH{l:List V}:(V.bK l).dK=true:=by simp only[V.dK]
theorem yd:(V.nilPtr).dK=true:=by simp only[V.dK]
theorem sY:(V.nilIface).dK=true:=by simp only[V.dK]
theorem Cc{t:TypeId}{v:V}:(V.iface t v).dK=true:=by simp only[V.dK]
theorem Ik{k:IntKind}{n:Int}:(V.int k n).dH=true:=by simp only[V.dH]
theorem CG{b:Bool}:(V.bool b).dH=true:=by simp only[V.dH]
theorem Ij{l:List UInt8}:(V.str l).dH=true:=by simp only[V.dH]
theorem Ox{sz:Nat}{rows:List (List V)}:(V.sl sz rows).dH=true:=by simp only[V.dH]
theorem yI:(V.aM).dH=true:=by simp only[V.dH]
theorem vT:(V.nilPtr).dH=true:=by simp only[V.dH]
theorem qQ:(V.nilIface).dH=true:=by simp only[V.dH]
theorem CF{l:List V}:(V.bK l).dH=true:=by simp only[V.dH]
theorem yJ{t:TypeId}{v:V}:(V.iface t v).dH=v.dH:=by simp only[V.dH]
theorem Il{l:List V}:(V.agg l).dH=V.bQ l:=by simp only[V.dH]
theorem Ii{l:List V}:(V.dI l).dH=V.bQ l:=by simp only[V.dH]
theorem CE{f:FuncId}{a b:List V}:(V.func f a b).dH=(V.bQ a&&V.bQ b):=by simp only[V.dH]
theorem wS:V.bQ []=true:=by simp only[V.bQ]
theorem tQ{v:V}{r:List V}:V.bQ (v::r)=(v.dH&&V.bQ r):=by simp only[V.bQ]
end
end Go.AL
namespace Go.AL
variable[Mode]
section
variable{P:Program}{ρ:Place}{S:ae}{w:World}
mutual
theorem V.mX:∀{v:V} {u:Value} {b:Bool},VR ρ S w b v u→v.under S.length=true
 | .cU ..,_,_,h=>by cases h with|cU aR=>simpa[V.under]using aR
 | .eF ..,_,_,h=>by cases h with|eF aR=>simpa[V.under]using aR
 | .ptr ..,_,_,h=>by cases h with|ptr aR=>simpa[V.under]using aR
 | .agg vs,_,_,h=>by cases h with|agg c hl hc hv=>exact V.jB vs fun j v hj=>⟨_,_,hv j v hj⟩
 | .dI vs,_,_,h=>by cases h with|dI c hl hc hv=>exact V.jB vs fun j v hj=>⟨_,_,hv j v hj⟩
 | .iface _ v,_,_,h=>by cases h with|iface h=>(show v.under S.length=true;exact V.mX h)
 | .func _ a c,_,_,h=>by
   cases h with
   |func c d hl hm hc hv hd hw=>
    simp only[V.under,aW];exact⟨V.jB _ fun j v hj=>⟨_,_,hv j v hj⟩,V.jB _ fun j v hj=>⟨_,_,hw j v hj⟩⟩
 | .undef,_,_,_=>rfl
 | .cq,_,_,_=>rfl
 | .int ..,_,_,_=>rfl
 | .bool _,_,_,_=>rfl
 | .str _,_,_,_=>rfl
 | .aM,_,_,_=>rfl
 | .sl ..,_,_,_=>rfl
 | .nilPtr,_,_,_=>rfl
 | .bK _,_,_,_=>rfl
 | .jN,_,_,_=>rfl
 | .nilIface,_,_,_=>rfl
 | .fp,_,_,_=>rfl
theorem V.jB:∀(vs:List V),(∀(j:Nat) (v:V),vs[j]?=some v→∃b u,VR ρ S w b v u)→V.bI S.length vs=true
 |[],_=>rfl
 |v::r,h=>by
  simp only[V.bI,aW];obtain⟨b,u,hu⟩:=h 0 v rfl;exact⟨V.mX hu,V.jB r fun j x hj=>h (j+1) x (by simpa using hj)⟩
end
def agx(S:ae):Prop:=∀(id aI:Nat) (m:jF),S[id]?=some ⟨aI,some (.mp m)⟩→(∀p∈m.rows,p.1.under S.length=true∧p.2.under S.length=true∧jl m.kd p.1=true)∧∀of p,m.x= .iter of (some p)→p.1.under S.length=true∧p.2.under S.length=true
def Zq(S:ae):Prop:=∀(id aI:Nat) (e:TypeId) (sz:Nat) (rows:List (List V)),S[id]?=some ⟨aI,some (.arr e sz rows)⟩→∀r∈rows,r.length=sz∧V.bI S.length r=true
def jv(S:ae):Prop:=Zq S∧agx S
theorem Inv.adt(h:Inv ρ S w):Zq S:=fun id aI e sz rows hs r hr=>by
 obtain⟨h1,h2⟩:=h.rows id aI e sz rows hs;obtain⟨i,hi⟩:=ez hr;refine⟨h1 i r hi,?_⟩;rcases h2 with⟨_,rfl⟩|⟨g,db,cur,_,_,_,_,_,k⟩
 ·simp at hr
 ·refine V.jB (ρ:=ρ) (w:=w) r fun j v hj=>?_;obtain⟨u,_,hu,_⟩:=k i r hi j v hj;exact⟨_,_,hu⟩
theorem Inv.adu(h:Inv ρ S w):jv S:=⟨h.adt,fun id aI rows hs=>by
 obtain⟨g,_,b⟩:=h.maps id aI rows hs;obtain⟨hk,⟨l,_,d⟩,hc⟩:=b.entries;refine⟨fun p hp=>?_,fun of p hp=>?_⟩
 ·obtain⟨i,hi⟩:=ez hp;obtain⟨e,_,h2,h3⟩:=d i p.1 p.2 hi;exact⟨V.mX h2,V.mX h3,hk p hp⟩
 ·obtain⟨u1,u2,h2,h3⟩:=hc of p hp;exact⟨V.mX h2,V.mX h3⟩⟩
theorem jv.dO(h:jv S)(T:ae):mV (S++T) S:=by
 have low:∀{id:Nat} {o:Obj},id<S.length→(S++T)[id]?=some o→S[id]?=some o:=fun aR ho=>by rwa[aF aR]at ho
 have:=mV.take (S:=S++T) (n:=S.length) ⟨fun id aI e sz rows dD hs r hr=>(h.1 id aI e sz rows (low dD hs) r hr).2,fun id aI rows dD hs=>h.2 id aI rows (low dD hs)⟩ (by simp)
  (fun id aI e sz rows dD hs i r hi=>(h.1 id aI e sz rows (low dD hs) r (aB hi)).1)
 rwa[List.take_left]at this
theorem ak.bp{own:Hint}{f:FuncId}{fn:Func}{af:bA}{args:List V}{R:V→ae→Prop}(hf:P.funcs[f]?=some fn)(hc:aU P own fn=some af)(h:jv S→ak P f args S R):ak P f args S R:=by
 refine⟨?_,fun ρ w us hi hv=>(h hi.adu).2 ρ w us hi hv⟩;obtain⟨c,hb,OU,_⟩:=wC hc;exact⟨fn,hf,OU,by simp[hb]⟩
theorem oR:∀{v:V} (n:Nat),v.dH=true→v.under n=true:=by
 intro v n;induction v using V.rec (motive_2:=fun _=>True) (motive_3:=fun l=>V.bQ l=true→V.bI n l=true)with
 |_=>first|trivial|(intro h;simp_all [V.dH,V.bQ,V.under,V.bI])
theorem jd.bX{S S1:ae}{v:V}(h:v.dH=true):jd S S1 v v:=.same (.inl (oR _ h))
theorem jd.sl{S S1:ae}{id aI sz n:Nat}{t:TypeId}{rows:List (List V)}(hd:S1.length≤id)(ho:S.bq id aI=some (t,sz,rows))(hn:rows.length=n)(hr:∀r∈rows,r.length=sz∧V.bQ r=true):jd S S1 (.cU id aI 0 n) (.sl sz rows):=by
 refine .cU (fun o h=>?_) ho (.inl rfl) hn (fun i r hi=>(hr r (aB hi)).1) (fun i r hi j v hj q x hq hx=>?_) (fun i r hi j v hj=>V.eZ (hr r (aB hi)).2 j v hj)
 ·have:=(List.getElem?_eq_some_iff.1 h).1;omega
 ·rw[dv,hi]at hq;cases hq;rw[hj]at hx;cases hx;exact .bX (V.eZ (hr r (aB hi)).2 j v hj)
theorem jd.jj{S S1:ae}{a b a' b':V}(h:jd S S1 a a')(k:jd S S1 b b'):jd S S1 (.dI [a,b]) (.dI [a',b']):=
 .dI rfl fun j v hj x hx=>by
  match j with
  |0=>simp at hj hx;subst hj hx;exact h
  |1=>simp at hj hx;subst hj hx;exact k
  |j+2=>simp at hj
def kill(T:ae):ae:=T.map fun o=>⟨o.aI,none⟩
theorem sG{S T:ae}{id:Nat}(h:S.length≤id):dead (S++kill T) id:=fun o ho=>by
 rw[aD h]at ho;simp only[kill,bn,aG]at ho;obtain⟨x,_,rfl⟩:=ho;rfl
theorem V.mG{n m:Nat}(Iq:n≤m):∀{r:List V},V.bI n r=true→V.bI m r=true:=by
 have key:∀v:V,v.under n=true→v.under m=true:=by
  intro v;induction v using V.rec (motive_2:=fun _=>True) (motive_3:=fun l=>V.bI n l=true→V.bI m l=true)with
  |cU=>intro h;simp[V.under]at*;omega
  |ptr=>intro h;simp[V.under]at*;omega
  |eF=>intro h;simp[V.under]at*;omega
  |_=>first|trivial|(intro h;simp_all [V.under,V.bI])
 intro r;induction r with
 |nil=>exact fun h=>h
 |cons v r ih=>
  intro h;simp only[V.bI,aW]at*;exact⟨key v h.1,ih h.2⟩
theorem jv.Fi{S:ae}(h:jv S)(T:ae):mV (S++T) (S++kill T) where
 len:=by simp[kill]
 obj id o1 ho:=by
  by_cases dD:id<S.length
  ·rw[aF dD]at ho;refine⟨o1,by rw[aF dD];exact ho,rfl,fun t sz rows dq=>⟨rows,dq,rfl,fun i r hr=>?_,fun i r hr j v hj r' x iA hx=>?_⟩⟩
   ·obtain⟨aI,st⟩:=o1;simp only at dq;subst dq;exact(h.1 id aI t sz rows ho r (aB hr)).1
   ·rw[hr]at iA;cases iA;rw[hj]at hx;cases hx;exact .same (.inr (by simp[kill]))
  ·have hd:=sG (S:=S) (T:=T) (by omega:S.length≤id) o1 ho;rw[aD (by omega)]at ho;simp only[kill,bn,aG]at ho;obtain⟨x,hx,rfl⟩:=ho;refine⟨x,by rw[aD (by omega)];exact hx,rfl,fun t sz rows dq=>by cases dq⟩
 Cg id o1 ho cW dq:=by
  by_cases dD:id<S.length
  ·rw[aF dD]at ho;obtain⟨aI,st⟩:=o1;simp only at dq;subst dq;refine⟨_,cW,by rw[aF dD];exact ho,rfl,rfl,.same fun of p hp=>.inr (by simp[kill]),rfl,rfl,fun p hp=>((h.2 id aI cW ho).1 p hp).2.2,fun i p1 p h1 h2=>?_⟩;rw[h1]at h2;cases h2;exact⟨.same (.inr (by simp[kill])),.same (.inr (by simp[kill]))⟩
  ·have hd:=sG (S:=S) (T:=T) (by omega:S.length≤id) o1 ho;rw[hd]at dq;cases dq
theorem jd.dead{S S1:ae}{id aI sz n:Nat}{t:TypeId}{rows:List (List V)}(hd:AL.dead S1 id)(ho:S.bq id aI=some (t,sz,rows))(hn:rows.length=n)(hr:∀r∈rows,r.length=sz∧V.bQ r=true):jd S S1 (.cU id aI 0 n) (.sl sz rows):=by
 refine .cU hd ho (.inl rfl) hn (fun i r hi=>(hr r (aB hi)).1) (fun i r hi j v hj q x hq hx=>?_) (fun i r hi j v hj=>V.eZ (hr r (aB hi)).2 j v hj);rw[dv,hi]at hq;cases hq;rw[hj]at hx;cases hx;exact .bX (V.eZ (hr r (aB hi)).2 j v hj)
def ir(ρ:Place)(id:Nat):Place:=fun k=>if k=id then none else ρ k
theorem yT(hi:Inv ρ S w)(aI:Nat)(t:TypeId)(sz:Nat):Inv (ir ρ S.length) (S++[⟨aI,some (.arr t sz [])⟩]) w∧Ext ρ S w (ir ρ S.length) (S++[⟨aI,some (.arr t sz [])⟩]) w:=by
 have low:∀{id:Nat} {o:Obj},(S++[⟨aI,some (.arr t sz [])⟩])[id]?=some o→id≠S.length→id<S.length∧S[id]?=some o:=by
  intro id o ho eY;have aR:id<S.length:=by have:=(List.getElem?_eq_some_iff.1 ho).1;simp at this;omega
  exact⟨aR,by rwa[aF aR]at ho⟩
 have hx:Ext ρ S w (ir ρ S.length) (S++[⟨aI,some (.arr t sz [])⟩]) w:=by
  refine⟨rfl,⟨rfl,by first|exact ah _|exact az _|exact fun _=>ah _⟩,rfl,ah _,fun k hk=>⟨⟨hk.1,fun id o c g' eU ho dq hr=>?_⟩,rfl⟩,by simp,fun id o o' ho eI=>?_⟩
  ·by_cases dD:id=S.length
   ·subst dD;simp[ir]at hr
   ·simp only[ir,dD,aZ]at hr;exact hk.2 id o c g' eU (low ho dD).2 dq hr
  ·have aR:=(List.getElem?_eq_some_iff.1 ho).1;rw[aF aR,ho]at eI;cases eI;exact⟨ah _,fun _ c hc=>⟨c,hc,eR.fD c,by simp[ir,Nat.ne_of_lt aR]⟩⟩
 refine⟨⟨fun id v e s rs hs=>?_,fun i j o p c d q x y ho hp hc hd hr iA=>?_,jP hi hx (fun id v rs hs=>?_) (fun id v rs q hs hq=>rfl),jJ hi hx⟩,hx⟩
 ·by_cases dD:id=S.length
  ·subst dD;rw[aD (ah _)]at hs;simp at hs;obtain⟨_,rfl,rfl,rfl⟩:=hs;exact⟨fun i r h=>by simp at h,.inl ⟨by simp[ir],rfl⟩⟩
  ·obtain⟨h1,h2⟩:=hi.rows id v e s rs (low hs dD).2;refine⟨h1,?_⟩;simp only[ir,dD,aZ];rcases h2 with h2|⟨g',eU,kI,a,b,c,d,f,k⟩
   ·exact .inl h2
   ·refine .inr ⟨g',eU,kI,a,b,c,d,f,fun i r fv j y hj=>?_⟩;obtain⟨u,hu,hv,h1⟩:=k i r fv j y hj;exact⟨u,hu,hv.ext hx,h1⟩
 ·have n1:i≠S.length:=fun h=>by subst h;simp[ir]at hr
  have n2:j≠S.length:=fun h=>by subst h;simp[ir]at iA
  simp only[ir,n1,n2,aZ]at hr iA;exact hi.inj i j o p c d q x y (low ho n1).2 (low hp n2).2 hc hd hr iA
 ·by_cases dD:id=S.length
  ·subst dD;rw[aD (ah _)]at hs;simp at hs
  ·exact⟨(low hs dD).2,by simp[ir,dD]⟩
theorem yU(aI:Nat)(t:TypeId)(sz:Nat):VR (ir ρ S.length) (S++[⟨aI,some (.arr t sz [])⟩]) w false (.cU S.length aI 0 0) (.slice none 0 0):=by
 refine .cU (by simp) (fun o ho=>?_) (fun e s rows hs=>?_) ⟨_,_,rfl⟩
 ·rw[aD (ah _)]at ho;simp at ho;subst ho;exact ah _
 ·rw[aD (ah _)]at hs;simp at hs;obtain⟨_,_,rfl⟩:=hs;exact⟨ah _,.inl ⟨by simp[ir],rfl,rfl,rfl⟩⟩
theorem jC.ghost{N:Nat}{σ:kL}{b:e8}{Q:Exit→Env→ae→Prop}{E:Env}(k aI:Nat)(t:TypeId)(sz:Nat)(hk:E.get k= .aM)(h:jC P N σ b Q ((k,.cU S.length aI 0 0)::E) (S++[⟨aI,some (.arr t sz [])⟩])):jC P N σ b Q E S:=by
 intro c own hc ρ a w hx hr;obtain⟨k1,k2⟩:=yT hr.inv aI t sz;refine h c own hc _ a w (hx.trans k2) ⟨k1,hr.defers,hr.size,fun j=>?_⟩;simp only[Env.get];by_cases hj:j=k
 ·subst hj;rw[aK rfl];have:=hr.jK j;rw[hk]at this;generalize a.tmps.getD j Go.undef=u at this;cases this;exact yU aI t sz
 ·rw[aC hj];exact(hr.jK j).ext k2
end
section
variable{S L:ae}{k id aI sz:Nat}{t:TypeId}{rows:List (List V)}{x y:Obj}
theorem iD:ae.bq (S++L) (S.length+k) aI=ae.bq L k aI:=by
 simp only[ae.bq];rw[aD (by omega),iJ]
theorem dP:ae.bq (S++L) S.length aI=ae.bq L 0 aI:=by
 simp only[ae.bq];rw[aD (by omega),Nat.sub_self]
theorem cT:ae.bq (x::L) (k+1) aI=ae.bq L k aI:=by simp only[ae.bq,dM]
theorem cE:ae.bq (⟨aI,some (.arr t sz rows)⟩::L) 0 aI=some (t,sz,rows):=by simp only[ae.bq,dL,aQ]
theorem vf:(S++L:ae).set (S.length+k) y=S++L.set k y:=by rw[List.set_append_right _ _ (by omega),iJ]
theorem ur:(S++L:ae).set S.length y=S++L.set 0 y:=by rw[List.set_append_right _ _ (by omega),Nat.sub_self]
theorem G5:(x::L:ae).set (k+1) y=x::L.set k y:=rfl
theorem G4:(x::L:ae).set 0 y=y::L:=rfl
theorem QQ{T:ae}:(S++L)++T=S++(L++T):=bG ..
theorem NM{m:Nat}:ae.kp (S++L) (S.length+m) aI=ae.kp L m aI:=by
 simp only[ae.kp];rw[aD (by omega),iJ]
theorem HW:ae.kp (S++L) S.length aI=ae.kp L 0 aI:=by
 simp only[ae.kp];rw[aD (by omega),Nat.sub_self]
theorem HV:ae.kp (x::L) (k+1) aI=ae.kp L k aI:=by simp only[ae.kp,dM]
theorem HU{kd:KD}{rows:List (V×V)}{x:MX}:ae.kp (⟨aI,some (.mp ⟨kd,rows,x⟩)⟩::L) 0 aI=some (kd,rows,x):=by simp only[ae.kp,dL,aQ]
theorem N_:(S++L:ae).length=S.length+L.length:=aH
end
end Go.AL
namespace Go.AL
variable[Mode]
section
variable{P:Program}{N:Nat}{σ:kL}{Q:Exit→Env→ae→Prop}{E:Env}{S:ae}{e:Nat→V}{x y z:cJ}
def DH(P:Program)(r:List bj)(E:Env)(d:Option Nat)(K:Env→ae→Prop)(v:V)(S:ae):Prop:=nH P r (E.put d v) S K
def aa9(P:Program)(s:gj)(r:List bj)(d:Option Nat)(S:ae)(K:Env→ae→Prop)(E:Env):Prop:=dJ P s E.get S (DH P r E d K)
def ZM(P:Program)(r:List bj)(d:Option Nat)(S:ae)(K:Env→ae→Prop)(E:Env):Prop:=nH P r (E.put d .cq) S K
theorem NI{r:List bj}{d:Option Nat}{K:Env→ae→Prop}{v:V}:DH P r E d K v S=nH P r (E.put d v) S K:=by simp only[DH]
theorem Wg{s:gj}{r:List bj}{d:Option Nat}{K:Env→ae→Prop}:aa9 P s r d S K E=dJ P s E.get S (DH P r E d K):=by simp only[aa9]
theorem Wf{r:List bj}{d:Option Nat}{K:Env→ae→Prop}:ZM P r d S K E=nH P r (E.put d .cq) S K:=by simp only[ZM]
theorem HO{d:Option Nat}{s:gj}{r:List bj}{K:Env→ae→Prop}:nH P (⟨d,none,s⟩::r) E S K=dJ P s E.get S (DH P r E d K):=by simp only[nH,mO];rfl
theorem HP{d:Option Nat}{t:Nat}{want:Bool}{s:gj}{r:List bj}{K:Env→ae→Prop}:nH P (⟨d,some (t,want),s⟩::r) E S K=kH E t (E.get t) want (aa9 P s r d S K) (ZM P r d S K):=by
 rw[Ts];rfl
def IW(P:Program)(N:Nat)(σ:kL)(v:V)(a b:e8)(Q:Exit→Env→ae→Prop)(E:Env)(S:ae):Prop:=wB v (ji P N σ a Q E S) (ji P N σ b Q E S)
theorem NJ{c:cJ}{a b:e8}:ji P N σ (.cond c a b) Q E S=IW P N σ (ev E.get c) a b Q E S:=by simp only[ji,IW]
theorem uA{t:Bool}{a b:e8}:IW P N σ (.bool t) a b Q E S=if t=true then ji P N σ a Q E S else ji P N σ b Q E S:=by simp only[IW,abg]
def DG(P:Program)(r:List (Fl×bj))(E:Env)(d:Option Nat)(K:Env→ae→Prop)(v:V)(S:ae):Prop:=ga P r (E.put d v) S K
def aa8(P:Program)(f:Fl)(s:gj)(r:List (Fl×bj))(d:Option Nat)(S:ae)(K:Env→ae→Prop)(E:Env):Prop:=ku P f s E.get S (DG P r E d K)
def ZL(P:Program)(r:List (Fl×bj))(d:Option Nat)(S:ae)(K:Env→ae→Prop)(E:Env):Prop:=ga P r (E.put d .cq) S K
theorem NX{r:List (Fl×bj)}{d:Option Nat}{K:Env→ae→Prop}{v:V}:DG P r E d K v S=ga P r (E.put d v) S K:=by simp only[DG]
theorem Wm{f:Fl}{s:gj}{r:List (Fl×bj)}{d:Option Nat}{K:Env→ae→Prop}:aa8 P f s r d S K E=ku P f s E.get S (DG P r E d K):=by simp only[aa8]
theorem Wj{r:List (Fl×bj)}{d:Option Nat}{K:Env→ae→Prop}:ZL P r d S K E=ga P r (E.put d .cq) S K:=by simp only[ZL]
theorem HZ{f:Fl}{d:Option Nat}{s:gj}{r:List (Fl×bj)}{K:Env→ae→Prop}:ga P ((f,⟨d,none,s⟩)::r) E S K=ku P f s E.get S (DG P r E d K):=by simp only[ga,mO];rfl
theorem H3{f:Fl}{d:Option Nat}{t:Nat}{want:Bool}{s:gj}{r:List (Fl×bj)}{K:Env→ae→Prop}:ga P ((f,⟨d,some (t,want),s⟩)::r) E S K=kH E t (E.get t) want (aa8 P f s r d S K) (ZL P r d S K):=by
 rw[Tv];rfl
def kSt(K:V→ae→Prop)(S:ae)(v:V):Prop:=K v S
def Oh(P:Program)(s:gj)(e:Nat→V)(K:V→ae→Prop)(S:ae)(v:V):Prop:=bJ P s e v∧K v S
theorem Wl{K:V→ae→Prop}{v:V}:kSt K S v=K v S:=by simp only[kSt]
theorem H0{s:gj}{K:V→ae→Prop}{v:V}:Oh P s e K S v=(bJ P s e v∧K v S):=by simp only[Oh]
theorem HY{s:gj}{K:V→ae→Prop}:ku P .quiet s e S K=pK P s e S (kSt K S):=by simp only[ku];rfl
def Oi(P:Program)(s:gj)(e:Nat→V)(K:V→ae→Prop)(S:ae)(v:V):Prop:=wc P s e S v∧K v S
theorem H2{s:gj}{K:V→ae→Prop}{v:V}:Oi P s e K S v=(wc P s e S v∧K v S):=by simp only[Oi]
theorem NV{s:gj}{K:V→ae→Prop}:ku P .grow s e S K=pK P s e S (Oi P s e K S):=by simp only[ku];rfl
theorem Co{s:gj}{K:V→ae→Prop}:ku P .aJ s e S K=pK P s e S (Oh P s e K S):=by simp only[ku];rfl
def qv(P:Program)(f:FuncId)(l:List V)(S:ae)(K:V→Prop):Prop:=∃v,ak P f l S (fun r S'=>r=v∧S'=S)∧K v
theorem qv.intro{f:FuncId}{l:List V}{v:V}{K:V→Prop}(h:ak P f l S (fun r S'=>r=v∧S'=S))(k:K v):qv P f l S K:=⟨v,h,k⟩
theorem NY{f:FuncId}{l:List cJ}{K:V→Prop}:pK P (.call f l) e S K=qv P f (iy e l) S K:=by simp only[pK];rfl
def I2(P:Program)(v:V)(l:List V)(S:ae)(K:V→Prop):Prop:=zn P v l S K
theorem H4{l:List cJ}{K:V→Prop}:pK P (.gp x l) e S K=I2 P (ev e x) (iy e l) S K:=by simp only[I2];exact Mq
theorem NW{f:FuncId}{a b l:List V}{K:V→Prop}:I2 P (.func f a b) l S K=qv P f (a++l++b) S K:=by simp only[I2,zn];rfl
theorem ak.then{f:FuncId}{args:List V}{v:V}{R:V→ae→Prop}(h:ak P f args S fun r S'=>r=v∧S'=S)(k:R v S):ak P f args S R:=
 h.mono fun r S' ⟨h1,h2⟩=>by rw[h1,h2];exact k
end
end Go.AL
namespace Go.AL
variable[Mode]
theorem jz:((((((type_of% @LP)∧((type_of% @Vx)∧(type_of% @Vv)))∧((type_of% @GH)∧((type_of% @LR)∧(type_of% @LS))))∧(((type_of% @Vw)∧((type_of% @VM)∧(type_of% @Vy)))∧((type_of% @GG)∧((type_of% @GD)∧(type_of% @LN)))))∧((((type_of% @LM)∧((type_of% @LO)∧(type_of% @LQ)))∧((type_of% @VN)∧((type_of% @Ig)∧(type_of% @ac8))))∧(((type_of% @s_p)∧((type_of% @MH)∧(type_of% @Hj)))∧((type_of% @MJ)∧((type_of% @MF)∧(type_of% @MI))))))∧(((((type_of% @ac_)∧((type_of% @ME)∧(type_of% @ac9)))∧((type_of% @GC)∧((type_of% @MK)∧(type_of% @VJ))))∧(((type_of% @MG)∧((type_of% @Bv)∧(type_of% @L6)))∧((type_of% @VC)∧((type_of% @DR)∧(type_of% @QN)))))∧((((type_of% @XU)∧((type_of% @Wx)∧(type_of% @CA)))∧((type_of% @Og)∧((type_of% @W_)∧(type_of% @I4))))∧(((type_of% @I3)∧((type_of% @PW)∧(type_of% @PZ)))∧((type_of% @PY)∧((type_of% @PX)∧(type_of% @Oo))))))):=ag (ag (ag (ag (ag (@LP) (ag (@Vx) (@Vv))) (ag (@GH) (ag (@LR) (@LS)))) (ag (ag (@Vw) (ag (@VM) (@Vy))) (ag (@GG) (ag (@GD) (@LN))))) (ag (ag (ag (@LM) (ag (@LO) (@LQ))) (ag (@VN) (ag (@Ig) (@ac8)))) (ag (ag (@s_p) (ag (@MH) (@Hj))) (ag (@MJ) (ag (@MF) (@MI)))))) (ag (ag (ag (ag (@ac_) (ag (@ME) (@ac9))) (ag (@GC) (ag (@MK) (@VJ)))) (ag (ag (@MG) (ag (@Bv) (@L6))) (ag (@VC) (ag (@DR) (@QN))))) (ag (ag (ag (@XU) (ag (@Wx) (@CA))) (ag (@Og) (ag (@W_) (@I4)))) (ag (ag (@I3) (ag (@PW) (@PZ))) (ag (@PY) (ag (@PX) (@Oo))))))
theorem gG:(((((type_of% @NI)∧(type_of% @Wg))∧((type_of% @Wf)∧((type_of% @HO)∧(type_of% @HP))))∧(((type_of% @NJ)∧(type_of% @uA))∧((type_of% @NX)∧((type_of% @Wm)∧(type_of% @Wj)))))∧((((type_of% @HZ)∧(type_of% @H3))∧((type_of% @Wl)∧((type_of% @H0)∧(type_of% @H2))))∧(((type_of% @HY)∧(type_of% @Co))∧((type_of% @NV)∧((type_of% @NY)∧(type_of% @H4)))))):=ag (ag (ag (ag (@NI) (@Wg)) (ag (@Wf) (ag (@HO) (@HP)))) (ag (ag (@NJ) (@uA)) (ag (@NX) (ag (@Wm) (@Wj))))) (ag (ag (ag (@HZ) (@H3)) (ag (@Wl) (ag (@H0) (@H2)))) (ag (ag (@HY) (@Co)) (ag (@NV) (ag (@NY) (@H4)))))
theorem gH:(((((((((type_of% @cast_zero)∧((type_of% @DO)∧(type_of% @Ph)))∧((type_of% @CH)∧((type_of% @Pg)∧(type_of% @Vr))))∧(((type_of% @LA)∧((type_of% @Q0)∧(type_of% @Q1)))∧((type_of% @QZ)∧((type_of% @XX)∧(type_of% @Jf)))))∧((((type_of% @DW)∧((type_of% @Je)∧(type_of% @aeE)))∧((type_of% @VI)∧((type_of% @G7)∧(type_of% @MC))))∧(((type_of% @MA)∧((type_of% @Mv)∧(type_of% @Mw)))∧((type_of% @G_)∧((type_of% @Hb)∧(type_of% @Hf))))))∧(((((type_of% @He)∧((type_of% @Hg)∧(type_of% @Mz)))∧((type_of% @BL)∧((type_of% @MB)∧(type_of% @Hi))))∧(((type_of% @G8)∧((type_of% @Mt)∧(type_of% @x6)))∧((type_of% @G9)∧((type_of% @Ms)∧(type_of% @G')))))∧((((type_of% @Hd)∧((type_of% @Hc)∧(type_of% @Ha)))∧((type_of% @BK)∧((type_of% @My)∧(type_of% @Mx))))∧(((type_of% @Mu)∧((type_of% @xZ)∧(type_of% @BJ)))∧(((type_of% @MD)∧(type_of% @VH))∧((type_of% @Hh)∧(type_of% @HD)))))))∧((((((type_of% @HE)∧((type_of% @wO)∧(type_of% @zq)))∧((type_of% @zo)∧((type_of% @We)∧(type_of% @NG))))∧(((type_of% @NH)∧((type_of% @Bk)∧(type_of% @wG)))∧((type_of% @Bj)∧((type_of% @Gp)∧(type_of% @LB)))))∧((((type_of% @Gr)∧((type_of% @Vs)∧(type_of% @Gs)))∧((type_of% @Gt)∧((type_of% @HS)∧(type_of% @Cl))))∧(((type_of% @Gv)∧((type_of% @yv)∧(type_of% @yp)))∧(((type_of% @vK)∧(type_of% @Gu))∧((type_of% @Bi)∧(type_of% @x9))))))∧(((((type_of% @vn)∧((type_of% @sU)∧(type_of% @Gq)))∧((type_of% @yi)∧((type_of% @yj)∧(type_of% @vF))))∧(((type_of% @ym)∧((type_of% @vI)∧(type_of% @Ol)))∧((type_of% @Oj)∧((type_of% @Od)∧(type_of% @Wv)))))∧((((type_of% @Oe)∧((type_of% @Ib)∧(type_of% @PE)))∧((type_of% @PD)∧((type_of% @PB)∧(type_of% @IP))))∧(((type_of% @GW)∧((type_of% @Mc)∧(type_of% @Bz)))∧(((type_of% @By)∧(type_of% @GY))∧((type_of% @Md)∧(type_of% @GZ))))))))∧(((((((type_of% @xS)∧((type_of% @rB)∧(type_of% @ll)))∧((type_of% @iS)∧((type_of% @NS)∧(type_of% @HA))))∧(((type_of% @HB)∧((type_of% @aeI)∧(type_of% @aeJ)))∧((type_of% @IK)∧((type_of% @Dm)∧(type_of% @Db)))))∧((((type_of% @get_nil)∧((type_of% @B4)∧(type_of% @B5)))∧((type_of% @wQ)∧((type_of% @tP)∧(type_of% @GU))))∧(((type_of% @Bw)∧((type_of% @ads)∧(type_of% @Nh)))∧(((type_of% @x_)∧(type_of% @vt))∧((type_of% @HC)∧(type_of% @V5))))))∧(((((type_of% @QK)∧((type_of% @Qz)∧(type_of% @QD)))∧((type_of% @j3)∧((type_of% @i_)∧(type_of% @QJ))))∧(((type_of% @XT)∧((type_of% @Qy)∧(type_of% @zs)))∧((type_of% @QA)∧((type_of% @QB)∧(type_of% @VE)))))∧((((type_of% @QI)∧((type_of% @QC)∧(type_of% @QE)))∧((type_of% @QF)∧((type_of% @QG)∧(type_of% @QH))))∧(((type_of% @kJ)∧((type_of% @Qx)∧(type_of% @Qs)))∧(((type_of% @Qt)∧(type_of% @Qv))∧((type_of% @Qu)∧(type_of% @Qw)))))))∧((((((type_of% @V3)∧((type_of% @WV)∧(type_of% @WW)))∧((type_of% @VY)∧((type_of% @VZ)∧(type_of% @Nk))))∧(((type_of% @LV)∧((type_of% @LW)∧(type_of% @GI)))∧((type_of% @Nl)∧((type_of% @len_nil)∧(type_of% @N7)))))∧((((type_of% @H')∧((type_of% @yy)∧(type_of% @Np)))∧((type_of% @CK)∧((type_of% @CL)∧(type_of% @Nr))))∧(((type_of% @CM)∧((type_of% @CO)∧(type_of% @CN)))∧(((type_of% @yM)∧(type_of% @Nq))∧((type_of% @Oz)∧(type_of% @Oy))))))∧(((((type_of% @vU)∧((type_of% @No)∧(type_of% @CI)))∧((type_of% @HK)∧((type_of% @II)∧(type_of% @IH))))∧(((type_of% @tF)∧((type_of% @V1)∧(type_of% @Wu)))∧((type_of% @Wt)∧((type_of% @yC)∧(type_of% @V0)))))∧((((type_of% @Ws)∧((type_of% @Wr)∧(type_of% @yB)))∧((type_of% @yA)∧((type_of% @Nt)∧(type_of% @IB))))∧(((type_of% @Ns)∧((type_of% @Dc)∧(type_of% @Nu)))∧(((type_of% @DF)∧(type_of% @V2))∧((type_of% @IJ)∧(type_of% @HL)))))))))∧((((((((type_of% @Dh)∧((type_of% @y7)∧(type_of% @wg)))∧((type_of% @xT)∧((type_of% @Nv)∧(type_of% @DQ))))∧(((type_of% @Gx)∧((type_of% @xY)∧(type_of% @Gw)))∧((type_of% @adr)∧((type_of% @LI)∧(type_of% @LD)))))∧((((type_of% @LH)∧((type_of% @LF)∧(type_of% @Hl)))∧((type_of% @Gy)∧((type_of% @Vt)∧(type_of% @N0))))∧(((type_of% @H_)∧((type_of% @Cr)∧(type_of% @Cs)))∧(((type_of% @LK)∧(type_of% @PA))∧((type_of% @IN)∧(type_of% @za))))))∧(((((type_of% @N1)∧((type_of% @N2)∧(type_of% @Gz)))∧((type_of% @Cx)∧((type_of% @yz)∧(type_of% @vQ))))∧(((type_of% @vR)∧((type_of% @LJ)∧(type_of% @IM)))∧((type_of% @Dr)∧((type_of% @y9)∧(type_of% @Dp)))))∧((((type_of% @Dn)∧((type_of% @VA)∧(type_of% @xN)))∧((type_of% @WR)∧((type_of% @yX)∧(type_of% @Mp))))∧(((type_of% @vg)∧((type_of% @BI)∧(type_of% @Ni)))∧(((type_of% @Ci)∧(type_of% @NP))∧((type_of% @NQ)∧(type_of% @VW)))))))∧((((((type_of% @I7)∧((type_of% @I6)∧(type_of% @G1)))∧((type_of% @pG)∧((type_of% @VX)∧(type_of% @G2))))∧(((type_of% @zd)∧((type_of% @Mi)∧(type_of% @ze)))∧((type_of% @V4)∧((type_of% @DP)∧(type_of% @y8)))))∧((((type_of% @we)∧((type_of% @tE)∧(type_of% @uR)))∧((type_of% @uS)∧((type_of% @Ch)∧(type_of% @W6))))∧(((type_of% @W1)∧((type_of% @W5)∧(type_of% @W2)))∧(((type_of% @Nj)∧(type_of% @VV))∧((type_of% @xO)∧(type_of% @u9))))))∧(((((type_of% @GR)∧((type_of% @HJ)∧(type_of% @Wb)))∧((type_of% @ND)∧((type_of% @Wa)∧(type_of% @NB))))∧(((type_of% @NA)∧((type_of% @NC)∧(type_of% @V_)))∧((type_of% @Nz)∧((type_of% @V8)∧(type_of% @Nx)))))∧((((type_of% @vC)∧((type_of% @vD)∧(type_of% @V9)))∧((type_of% @Ny)∧((type_of% @V6)∧(type_of% @I9))))∧(((type_of% @ky)∧((type_of% @F6)∧(type_of% @I_)))∧(((type_of% @zt)∧(type_of% @zk))∧((type_of% @wN)∧(type_of% @zh))))))))∧(((((((type_of% @DN)∧((type_of% @tL)∧(type_of% @rA)))∧((type_of% @o7)∧((type_of% @tM)∧(type_of% @zj))))∧(((type_of% @zi)∧((type_of% @wM)∧(type_of% @wL)))∧((type_of% @zl)∧((type_of% @ok_int)∧(type_of% @HI)))))∧((((type_of% @Nb)∧((type_of% @VT)∧(type_of% @Cb)))∧((type_of% @Nd)∧((type_of% @Nc)∧(type_of% @HH))))∧(((type_of% @yd)∧((type_of% @sY)∧(type_of% @Cc)))∧(((type_of% @Ik)∧(type_of% @CG))∧((type_of% @Ij)∧(type_of% @Ox))))))∧(((((type_of% @yI)∧((type_of% @vT)∧(type_of% @qQ)))∧((type_of% @CF)∧((type_of% @yJ)∧(type_of% @Il))))∧(((type_of% @Ii)∧((type_of% @CE)∧(type_of% @wS)))∧((type_of% @tQ)∧((type_of% @Int.ofNat_eq_natCast)∧(type_of% @aa.{0})))))∧((((type_of% @bd.{0,0})∧((type_of% @bY.{0,0})∧(type_of% @gr.{0})))∧((type_of% @gx.{0})∧((type_of% @lp.{0})∧(type_of% @List.drop_succ_cons.{0}))))∧(((type_of% @eN.{0})∧((type_of% @ff.{0})∧(type_of% @mc.{0})))∧(((type_of% @me.{0})∧(type_of% @dL.{0}))∧((type_of% @dM.{0})∧(type_of% @a_.{0})))))))∧((((((type_of% @bz.{0})∧((type_of% @bU.{0,0})∧(type_of% @qw.{0,0})))∧((type_of% @Option.bind_some.{0,0})∧((type_of% @il)∧(type_of% @eH))))∧(((type_of% @eD)∧((type_of% @aV)∧(type_of% @false_implies)))∧((type_of% @true_implies)∧((type_of% @and_true)∧(type_of% @eG)))))∧((((type_of% @mR)∧((type_of% @cond_true.{1})∧(type_of% @cond_false.{1})))∧((type_of% @dv)∧((type_of% @Int.natCast_nonneg)∧(type_of% @cn))))∧(((type_of% @dC)∧((type_of% @mW)∧(type_of% @aX)))∧(((type_of% @a8.{0})∧(type_of% @aS.{0}))∧((type_of% @cw.{0})∧(type_of% @aL))))))∧(((((type_of% @rN)∧((type_of% @aP.{0,0})∧(type_of% @bn.{0,0})))∧((type_of% @V.int.injEq)∧((type_of% @V.bool.injEq)∧(type_of% @V.str.injEq))))∧(((type_of% @Bool.decide_eq_true)∧((type_of% @Bool.not_eq_true)∧(type_of% @Int.not_lt)))∧((type_of% @Int.not_le)∧((type_of% @Int.toNat_zero)∧(type_of% @Int.toNat_one)))))∧((((type_of% @km)∧((type_of% @Int.add_zero)∧(type_of% @Nat.sub_zero)))∧((type_of% @true_imp_iff)∧((type_of% @uj)∧(type_of% @not_false_eq_true))))∧(((type_of% @decide_true)∧((type_of% @aA)∧(type_of% @eT)))∧(((type_of% @Bool.not_eq_false')∧(type_of% @Bool.not_eq_false))∧((type_of% @pb)∧(type_of% @Int.lt_irrefl)))))))))):=ag (ag (ag (ag (ag (ag (ag (ag (@cast_zero) (ag (@DO) (@Ph))) (ag (@CH) (ag (@Pg) (@Vr)))) (ag (ag (@LA) (ag (@Q0) (@Q1))) (ag (@QZ) (ag (@XX) (@Jf))))) (ag (ag (ag (@DW) (ag (@Je) (@aeE))) (ag (@VI) (ag (@G7) (@MC)))) (ag (ag (@MA) (ag (@Mv) (@Mw))) (ag (@G_) (ag (@Hb) (@Hf)))))) (ag (ag (ag (ag (@He) (ag (@Hg) (@Mz))) (ag (@BL) (ag (@MB) (@Hi)))) (ag (ag (@G8) (ag (@Mt) (@x6))) (ag (@G9) (ag (@Ms) (@G'))))) (ag (ag (ag (@Hd) (ag (@Hc) (@Ha))) (ag (@BK) (ag (@My) (@Mx)))) (ag (ag (@Mu) (ag (@xZ) (@BJ))) (ag (ag (@MD) (@VH)) (ag (@Hh) (@HD))))))) (ag (ag (ag (ag (ag (@HE) (ag (@wO) (@zq))) (ag (@zo) (ag (@We) (@NG)))) (ag (ag (@NH) (ag (@Bk) (@wG))) (ag (@Bj) (ag (@Gp) (@LB))))) (ag (ag (ag (@Gr) (ag (@Vs) (@Gs))) (ag (@Gt) (ag (@HS) (@Cl)))) (ag (ag (@Gv) (ag (@yv) (@yp))) (ag (ag (@vK) (@Gu)) (ag (@Bi) (@x9)))))) (ag (ag (ag (ag (@vn) (ag (@sU) (@Gq))) (ag (@yi) (ag (@yj) (@vF)))) (ag (ag (@ym) (ag (@vI) (@Ol))) (ag (@Oj) (ag (@Od) (@Wv))))) (ag (ag (ag (@Oe) (ag (@Ib) (@PE))) (ag (@PD) (ag (@PB) (@IP)))) (ag (ag (@GW) (ag (@Mc) (@Bz))) (ag (ag (@By) (@GY)) (ag (@Md) (@GZ)))))))) (ag (ag (ag (ag (ag (ag (@xS) (ag (@rB) (@ll))) (ag (@iS) (ag (@NS) (@HA)))) (ag (ag (@HB) (ag (@aeI) (@aeJ))) (ag (@IK) (ag (@Dm) (@Db))))) (ag (ag (ag (@get_nil) (ag (@B4) (@B5))) (ag (@wQ) (ag (@tP) (@GU)))) (ag (ag (@Bw) (ag (@ads) (@Nh))) (ag (ag (@x_) (@vt)) (ag (@HC) (@V5)))))) (ag (ag (ag (ag (@QK) (ag (@Qz) (@QD))) (ag (@j3) (ag (@i_) (@QJ)))) (ag (ag (@XT) (ag (@Qy) (@zs))) (ag (@QA) (ag (@QB) (@VE))))) (ag (ag (ag (@QI) (ag (@QC) (@QE))) (ag (@QF) (ag (@QG) (@QH)))) (ag (ag (@kJ) (ag (@Qx) (@Qs))) (ag (ag (@Qt) (@Qv)) (ag (@Qu) (@Qw))))))) (ag (ag (ag (ag (ag (@V3) (ag (@WV) (@WW))) (ag (@VY) (ag (@VZ) (@Nk)))) (ag (ag (@LV) (ag (@LW) (@GI))) (ag (@Nl) (ag (@len_nil) (@N7))))) (ag (ag (ag (@H') (ag (@yy) (@Np))) (ag (@CK) (ag (@CL) (@Nr)))) (ag (ag (@CM) (ag (@CO) (@CN))) (ag (ag (@yM) (@Nq)) (ag (@Oz) (@Oy)))))) (ag (ag (ag (ag (@vU) (ag (@No) (@CI))) (ag (@HK) (ag (@II) (@IH)))) (ag (ag (@tF) (ag (@V1) (@Wu))) (ag (@Wt) (ag (@yC) (@V0))))) (ag (ag (ag (@Ws) (ag (@Wr) (@yB))) (ag (@yA) (ag (@Nt) (@IB)))) (ag (ag (@Ns) (ag (@Dc) (@Nu))) (ag (ag (@DF) (@V2)) (ag (@IJ) (@HL))))))))) (ag (ag (ag (ag (ag (ag (ag (@Dh) (ag (@y7) (@wg))) (ag (@xT) (ag (@Nv) (@DQ)))) (ag (ag (@Gx) (ag (@xY) (@Gw))) (ag (@adr) (ag (@LI) (@LD))))) (ag (ag (ag (@LH) (ag (@LF) (@Hl))) (ag (@Gy) (ag (@Vt) (@N0)))) (ag (ag (@H_) (ag (@Cr) (@Cs))) (ag (ag (@LK) (@PA)) (ag (@IN) (@za)))))) (ag (ag (ag (ag (@N1) (ag (@N2) (@Gz))) (ag (@Cx) (ag (@yz) (@vQ)))) (ag (ag (@vR) (ag (@LJ) (@IM))) (ag (@Dr) (ag (@y9) (@Dp))))) (ag (ag (ag (@Dn) (ag (@VA) (@xN))) (ag (@WR) (ag (@yX) (@Mp)))) (ag (ag (@vg) (ag (@BI) (@Ni))) (ag (ag (@Ci) (@NP)) (ag (@NQ) (@VW))))))) (ag (ag (ag (ag (ag (@I7) (ag (@I6) (@G1))) (ag (@pG) (ag (@VX) (@G2)))) (ag (ag (@zd) (ag (@Mi) (@ze))) (ag (@V4) (ag (@DP) (@y8))))) (ag (ag (ag (@we) (ag (@tE) (@uR))) (ag (@uS) (ag (@Ch) (@W6)))) (ag (ag (@W1) (ag (@W5) (@W2))) (ag (ag (@Nj) (@VV)) (ag (@xO) (@u9)))))) (ag (ag (ag (ag (@GR) (ag (@HJ) (@Wb))) (ag (@ND) (ag (@Wa) (@NB)))) (ag (ag (@NA) (ag (@NC) (@V_))) (ag (@Nz) (ag (@V8) (@Nx))))) (ag (ag (ag (@vC) (ag (@vD) (@V9))) (ag (@Ny) (ag (@V6) (@I9)))) (ag (ag (@ky) (ag (@F6) (@I_))) (ag (ag (@zt) (@zk)) (ag (@wN) (@zh)))))))) (ag (ag (ag (ag (ag (ag (@DN) (ag (@tL) (@rA))) (ag (@o7) (ag (@tM) (@zj)))) (ag (ag (@zi) (ag (@wM) (@wL))) (ag (@zl) (ag (@ok_int) (@HI))))) (ag (ag (ag (@Nb) (ag (@VT) (@Cb))) (ag (@Nd) (ag (@Nc) (@HH)))) (ag (ag (@yd) (ag (@sY) (@Cc))) (ag (ag (@Ik) (@CG)) (ag (@Ij) (@Ox)))))) (ag (ag (ag (ag (@yI) (ag (@vT) (@qQ))) (ag (@CF) (ag (@yJ) (@Il)))) (ag (ag (@Ii) (ag (@CE) (@wS))) (ag (@tQ) (ag (@Int.ofNat_eq_natCast) (@aa.{0}))))) (ag (ag (ag (@bd.{0,0}) (ag (@bY.{0,0}) (@gr.{0}))) (ag (@gx.{0}) (ag (@lp.{0}) (@List.drop_succ_cons.{0})))) (ag (ag (@eN.{0}) (ag (@ff.{0}) (@mc.{0}))) (ag (ag (@me.{0}) (@dL.{0})) (ag (@dM.{0}) (@a_.{0}))))))) (ag (ag (ag (ag (ag (@bz.{0}) (ag (@bU.{0,0}) (@qw.{0,0}))) (ag (@Option.bind_some.{0,0}) (ag (@il) (@eH)))) (ag (ag (@eD) (ag (@aV) (@false_implies))) (ag (@true_implies) (ag (@and_true) (@eG))))) (ag (ag (ag (@mR) (ag (@cond_true.{1}) (@cond_false.{1}))) (ag (@dv) (ag (@Int.natCast_nonneg) (@cn)))) (ag (ag (@dC) (ag (@mW) (@aX))) (ag (ag (@a8.{0}) (@aS.{0})) (ag (@cw.{0}) (@aL)))))) (ag (ag (ag (ag (@rN) (ag (@aP.{0,0}) (@bn.{0,0}))) (ag (@V.int.injEq) (ag (@V.bool.injEq) (@V.str.injEq)))) (ag (ag (@Bool.decide_eq_true) (ag (@Bool.not_eq_true) (@Int.not_lt))) (ag (@Int.not_le) (ag (@Int.toNat_zero) (@Int.toNat_one))))) (ag (ag (ag (@km) (ag (@Int.add_zero) (@Nat.sub_zero))) (ag (@true_imp_iff) (ag (@uj) (@not_false_eq_true)))) (ag (ag (@decide_true) (ag (@aA) (@eT))) (ag (ag (@Bool.not_eq_false') (@Bool.not_eq_false)) (ag (@pb) (@Int.lt_irrefl)))))))))
theorem fE:((type_of% @uA)∧(type_of% @NW)):=ag (@uA) (@NW)
theorem aj:((((type_of% @iD)∧((type_of% @dP)∧(type_of% @cT)))∧(((type_of% @cE)∧(type_of% @vf))∧((type_of% @ur)∧(type_of% @G5))))∧(((type_of% @G4)∧((type_of% @QQ)∧(type_of% @N_)))∧(((type_of% @NM)∧(type_of% @HW))∧((type_of% @HV)∧(type_of% @HU))))):=ag (ag (ag (@iD) (ag (@dP) (@cT))) (ag (ag (@cE) (@vf)) (ag (@ur) (@G5)))) (ag (ag (@G4) (ag (@QQ) (@N_))) (ag (ag (@NM) (@HW)) (ag (@HV) (@HU))))
theorem evR:(∀{α β:Type} {f:α→β} {l:List α} {i:Nat},(l.map f).take i=(l.take i).map f)∧(∀{α β:Type} {f:α→β} {l:List α} {i:Nat},(l.map f).drop i=(l.drop i).map f):=
 ⟨List.map_take.symm,List.map_drop.symm⟩
theorem aq.{u}:(∀{α:Sort u},(α→True)=True)∧(∀{p:Prop} {α:Sort u} [Nonempty α],(α→p)=p):=
 ⟨d_ _,propext (eb _)⟩
theorem ai:((∀{α:Type} {a:α} {l:List α},(a::l).length=l.length+1)∧(∀{α:Type},([]:List α).length=0))∧((∀{α β:Type} {l:List α} {f:α→β},(l.map f).length=l.length)∧(∀{α:Type} {i:Nat} {l:List α},(l.drop i).length=l.length-i)):=
 ⟨⟨a_,bz⟩,⟨aP _,List.length_drop⟩⟩
theorem eA:(type_of% @jz)∧(type_of% @gG):=⟨@jz,@gG⟩
theorem eB:(type_of% @gH)∧((type_of% @fE)∧(type_of% @evR)):=⟨@gH,⟨@fE,@evR⟩⟩
end Go.AL
namespace Go.AL
variable[Mode]
theorem D5.two{ρ:Place}{S:ae}{w:World}{a b:V}{us:Array Value}(h:D5 ρ S w [a,b] us):∃u x,us= #[u,x]∧VR ρ S w false a u∧VR ρ S w false b x:=by
 obtain⟨h1,h2⟩:=h;obtain⟨u,hu,hu'⟩:=h2 0 a rfl;obtain⟨x,hx,su⟩:=h2 1 b rfl;refine⟨u,x,?_,hu',su⟩;obtain⟨l⟩:=us;simp at h1 hu hx;match l,h1 with
 |[p,q],_=>simp at hu hx;rw[hu,hx]
inductive V.Ok:V→Prop
 |str {l:List UInt8} (h:l.length≤maxLen):V.Ok (.str l)
 |sl {sz:Nat} {rows:List (List V)} (h:rows.length≤maxLen) (hr:∀(i:Nat) (r:List V),rows[i]?=some r→∀(j:Nat) (v:V),r[j]?=some v→V.Ok v):V.Ok (.sl sz rows)
 |bK {vs:List V} (hr:∀(j:Nat) (v:V),vs[j]?=some v→V.Ok v):V.Ok (.bK vs)
 |agg {vs:List V} (hr:∀(j:Nat) (v:V),vs[j]?=some v→V.Ok v):V.Ok (.agg vs)
 |dI {vs:List V} (hr:∀(j:Nat) (v:V),vs[j]?=some v→V.Ok v):V.Ok (.dI vs)
 |iface {t:TypeId} {v:V} (h:V.Ok v):V.Ok (.iface t v)
 |rest {v:V} (h:(match v with| .str _| .sl .. | .bK _| .agg _| .dI _| .iface .. =>false|_=>true)=true):V.Ok v
theorem VR.ok{ρ:Place}{S:ae}{w:World}{b:Bool}{v:V}{u:Value}(hv:VR ρ S w b v u):V.Ok v:=by
 induction hv with
 |str h1 h2=>exact .str (by rw[←h1,bP];exact h2)
 |gC=>exact .sl (az _) (fun i r hi=>by simp at hi)
 |sl c hu hlen ki jS hG hc hv h1 ih=>exact .sl (by omega) ih
 |bK c hu hc hv h1 ih=>exact .bK ih
 |agg c hl hc hv ih=>exact .agg ih
 |dI c hl hc hv ih=>exact .dI ih
 |iface h ih=>exact .iface ih
 |_=>exact .rest rfl
def hz(o l:List Nat):List (Nat×Fl):=o.map fun i=>(i,if l.contains i then .ay else .quiet)
namespace Y
abbrev m(d s:Nat):bj:=⟨some d,none,.p (.mv (.t s))⟩
abbrev f(d n s:Nat):bj:=⟨some d,none,.p (.nu n (.t s))⟩
abbrev l(d s:Nat):bj:=⟨some d,none,.p (.ld1 (.t s))⟩
abbrev k(d:Nat)(n:Int):bj:=⟨some d,none,.p (.mv (.c (.int .i64 n)))⟩
abbrev n(d z s:Nat):bj:=⟨some d,none,.p (.D_ z (.t s))⟩
abbrev s(z a b:Nat):bj:=⟨none,none,.st z (.t a) (.t b)⟩
abbrev e(d i s:Nat):bj:=⟨some d,none,.p (.ext i (.t s))⟩
abbrev i(d z a b:Nat):bj:=⟨some d,none,.p (.mM z (.t a) (.t b))⟩
abbrev z(d s:Nat):bj:=⟨some d,none,.p (.t_ (.t s))⟩
abbrev b(d:Nat)(o:BinOp)(x y:Nat):bj:=⟨some d,none,.p (.bin o (.t x) (.t y))⟩
abbrev c(d:Nat)(o:BinOp)(x:Nat)(n:Int):bj:=⟨some d,none,.p (.bin o (.t x) (.c (.int .i64 n)))⟩
abbrev x(d s:Nat):bj:=⟨some d,none,.p (.K6 (.t s))⟩
abbrev o(d x y:Nat):bj:=⟨some d,none,.p (.pick (.t x) (.c (.bool true)) (.t y))⟩
abbrev a(d x y:Nat):bj:=⟨some d,none,.p (.pick (.t x) (.t y) (.c (.bool false)))⟩
abbrev p(d q z x y:Nat):bj:=⟨some d,none,.app q z (.t x) (.t y)⟩
abbrev t(d:Nat)(b:Bool):bj:=⟨some d,none,.p (.mv (.c (.bool b)))⟩
abbrev v(d s:Nat):bj:=⟨some d,none,.p (.not (.t s))⟩
abbrev q(d f:Nat)(l:List cJ):bj:=⟨some d,none,.call f l⟩
abbrev g(d:Nat)(s:gj):bj:=⟨some d,none,s⟩
abbrev h(d g:Nat)(s:gj):bj:=⟨some d,some (g,false),s⟩
abbrev j(d g:Nat)(s:gj):bj:=⟨some d,some (g,true),s⟩
abbrev M(d s g:Nat):bj:=⟨some d,some (g,true),.p (.mv (.t s))⟩
abbrev M'(d s g:Nat):bj:=⟨some d,some (g,false),.p (.mv (.t s))⟩
abbrev F(d n s g:Nat):bj:=⟨some d,some (g,true),.p (.nu n (.t s))⟩
abbrev F'(d n s g:Nat):bj:=⟨some d,some (g,false),.p (.nu n (.t s))⟩
abbrev L(d s g:Nat):bj:=⟨some d,some (g,true),.p (.ld1 (.t s))⟩
abbrev L'(d s g:Nat):bj:=⟨some d,some (g,false),.p (.ld1 (.t s))⟩
abbrev N(d z s g:Nat):bj:=⟨some d,some (g,true),.p (.D_ z (.t s))⟩
abbrev N'(d z s g:Nat):bj:=⟨some d,some (g,false),.p (.D_ z (.t s))⟩
abbrev I(d z a b g:Nat):bj:=⟨some d,some (g,true),.p (.mM z (.t a) (.t b))⟩
abbrev I'(d z a b g:Nat):bj:=⟨some d,some (g,false),.p (.mM z (.t a) (.t b))⟩
abbrev Z(d s g:Nat):bj:=⟨some d,some (g,true),.p (.t_ (.t s))⟩
abbrev Z'(d s g:Nat):bj:=⟨some d,some (g,false),.p (.t_ (.t s))⟩
abbrev B(d:Nat)(o:BinOp)(x y g:Nat):bj:=⟨some d,some (g,true),.p (.bin o (.t x) (.t y))⟩
abbrev B'(d:Nat)(o:BinOp)(x y g:Nat):bj:=⟨some d,some (g,false),.p (.bin o (.t x) (.t y))⟩
abbrev C(d:Nat)(o:BinOp)(x:Nat)(n:Int)(g:Nat):bj:=⟨some d,some (g,true),.p (.bin o (.t x) (.c (.int .i64 n)))⟩
abbrev C'(d:Nat)(o:BinOp)(x:Nat)(n:Int)(g:Nat):bj:=⟨some d,some (g,false),.p (.bin o (.t x) (.c (.int .i64 n)))⟩
abbrev u(x:bj):Fl×bj:=(.quiet,x)
abbrev H:Hint:=⟨fun s=>[].contains s,fun _=>[]⟩
abbrev S(a b:e8):e8:= .seq a b
abbrev G(l:List bj):e8:= .reg l
abbrev Q(n:Nat)(a b:e8):e8:= .cond (.t n) a b
abbrev r(d s:Nat):bj:=⟨some d,none,.p (.gX (.t s))⟩
abbrev w(d q:Nat)(l:List V):bj:=⟨some d,none,.Cj q l⟩
abbrev y(d:Nat)(l:List V)(p:List (Nat×Nat×cJ)):bj:=⟨some d,none,.p (.build l p)⟩
abbrev D(d q:Nat)(l:List V)(n:Nat)(p:List (Nat×cJ)):bj:=⟨some d,none,.p (.XS q l n p)⟩
abbrev A(d:Nat):bj:=⟨some d,none,.p (.mv (.c .aM))⟩
abbrev O:V:= .int .i64 0
abbrev J(l:List bj):e8:= .seq (.reg l) .ret
abbrev V'(n:Nat)(l:List bj):e8:= .cond (.t n) (.seq (.reg l) .ret) .skip
abbrev E:V:= .str []
abbrev X:V:= .aM
abbrev um(d s:Nat):Fl×bj:=(.quiet,m d s)
abbrev uf(d n s:Nat):Fl×bj:=(.quiet,f d n s)
abbrev ul(d s:Nat):Fl×bj:=(.quiet,l d s)
abbrev ui(d z a b:Nat):Fl×bj:=(.quiet,i d z a b)
abbrev un(d z s:Nat):Fl×bj:=(.quiet,n d z s)
abbrev uM(d s g:Nat):Fl×bj:=(.quiet,M d s g)
abbrev mY(d s g:Nat):Fl×bj:=(.quiet,M' d s g)
abbrev uF(d n s g:Nat):Fl×bj:=(.quiet,F d n s g)
abbrev oj(d n s g:Nat):Fl×bj:=(.quiet,F' d n s g)
abbrev uL(d s g:Nat):Fl×bj:=(.quiet,L d s g)
abbrev nR(d s g:Nat):Fl×bj:=(.quiet,L' d s g)
abbrev uI(d z a b g:Nat):Fl×bj:=(.quiet,I d z a b g)
abbrev Bp(d z a b g:Nat):Fl×bj:=(.quiet,I' d z a b g)
abbrev uN(d z s g:Nat):Fl×bj:=(.quiet,N d z s g)
abbrev Si(d z s g:Nat):Fl×bj:=(.quiet,N' d z s g)
abbrev q1(d f a0:Nat):bj:=⟨some d,none,.call f [.t a0]⟩
abbrev q2(d f a0 a1:Nat):bj:=⟨some d,none,.call f [.t a0,.t a1]⟩
abbrev q3(d f a0 a1 a2:Nat):bj:=⟨some d,none,.call f [.t a0,.t a1,.t a2]⟩
abbrev q4(d f a0 a1 a2 a3:Nat):bj:=⟨some d,none,.call f [.t a0,.t a1,.t a2,.t a3]⟩
abbrev q5(d f a0 a1 a2 a3 a4:Nat):bj:=⟨some d,none,.call f [.t a0,.t a1,.t a2,.t a3,.t a4]⟩
abbrev q6(d f a0 a1 a2 a3 a4 a5:Nat):bj:=⟨some d,none,.call f [.t a0,.t a1,.t a2,.t a3,.t a4,.t a5]⟩
end Y
end Go.AL
