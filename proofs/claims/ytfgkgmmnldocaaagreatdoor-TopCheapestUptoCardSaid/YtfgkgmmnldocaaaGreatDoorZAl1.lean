/- Al1 -/
import Derived.WalkKit
import Derived.WalkSpells
import Derived.WalkLawsBesides
import Derived.Maps.RangeRun
set_option linter.unusedSectionVars false
set_option linter.unusedSimpArgs false
set_option linter.unusedVariables false
namespace Go.AL
theorem U:type_of% @Nat.le_of_ble_eq_true:=@Nat.le_of_ble_eq_true
theorem aa:type_of% @Option.some.injEq:=@Option.some.injEq
theorem ag:type_of% @And.intro:=@And.intro
theorem ah:type_of% @Nat.le_refl:=@Nat.le_refl
theorem ax:type_of% @List.getElem?_eq_getElem:=@List.getElem?_eq_getElem
theorem az:type_of% @Nat.zero_le:=@Nat.zero_le
theorem aA:type_of% @decide_false:=@decide_false
theorem aC:type_of% @if_neg:=@if_neg
theorem aB:type_of% @List.mem_of_getElem?:=@List.mem_of_getElem?
theorem aG:type_of% @Option.map_eq_some_iff:=@Option.map_eq_some_iff
theorem aH:type_of% @List.length_append:=@List.length_append
theorem aD:type_of% @List.getElem?_append_right:=@List.getElem?_append_right
theorem aF:type_of% @List.getElem?_append_left:=@List.getElem?_append_left
theorem aK:type_of% @if_pos:=@if_pos
theorem aL:type_of% @decide_eq_true_eq:=@decide_eq_true_eq
theorem aN:type_of% @List.length_singleton:=@List.length_singleton
theorem aO:type_of% @Bool.false_and:=@Bool.false_and
theorem aP:type_of% @List.length_map:=@List.length_map
theorem aQ:type_of% @if_true:=@if_true
theorem aS:type_of% @List.cons_append:=@List.cons_append
theorem aT:type_of% @List.getElem?_set_self:=@List.getElem?_set_self
theorem aV:type_of% @Bool.false_eq_true:=@Bool.false_eq_true
theorem aW:type_of% @Bool.and_eq_true:=@Bool.and_eq_true
theorem aX:type_of% @Bool.true_and:=@Bool.true_and
theorem aY:type_of% @Array.getD_eq_getD_getElem?:=@Array.getD_eq_getD_getElem?
theorem aZ:type_of% @if_false:=@if_false
theorem a8:type_of% @List.nil_append:=@List.nil_append
theorem a_:type_of% @List.length_cons:=@List.length_cons
theorem bd:type_of% @List.map_cons:=@List.map_cons
theorem bh:type_of% @List.take_of_length_le:=@List.take_of_length_le
theorem bn:type_of% @List.getElem?_map:=@List.getElem?_map
theorem bz:type_of% @List.length_nil:=@List.length_nil
theorem bB:type_of% @List.getElem?_set_ne:=@List.getElem?_set_ne
theorem bF:type_of% @List.map_append:=@List.map_append
theorem bG:type_of% @List.append_assoc:=@List.append_assoc
theorem bH:type_of% @Int.tmod_eq_emod_of_nonneg:=@Int.tmod_eq_emod_of_nonneg
theorem bL:type_of% @Option.getD_some:=@Option.getD_some
theorem bM:type_of% @List.mem_singleton:=@List.mem_singleton
theorem bO:type_of% @List.drop_eq_nil_of_le:=@List.drop_eq_nil_of_le
theorem bP:type_of% @Array.length_toList:=@Array.length_toList
theorem bU:type_of% @Option.map_some:=@Option.map_some
theorem bY:type_of% @List.map_nil:=@List.map_nil
theorem bV:type_of% @List.length_take:=@List.length_take
theorem cc:type_of% @List.mem_cons_of_mem:=@List.mem_cons_of_mem
theorem cg:type_of% @Option.isSome_none:=@Option.isSome_none
theorem bC:type_of% @List.getElem?_take:=@List.getElem?_take
theorem cn:type_of% @Int.toNat_natCast:=@Int.toNat_natCast
theorem cw:type_of% @List.append_nil:=@List.append_nil
theorem cB:type_of% @Prod.mk.injEq:=@Prod.mk.injEq
theorem cM:type_of% @Int.le_refl:=@Int.le_refl
theorem cP:type_of% @Option.bind_eq_some_iff:=@Option.bind_eq_some_iff
theorem cQ:type_of% @Bool.false_or:=@Bool.false_or
theorem cV:type_of% @Bool.and_false:=@Bool.and_false
theorem c8:type_of% @List.map_take:=@List.map_take
theorem dc:type_of% @List.eq_nil_of_length_eq_zero:=@List.eq_nil_of_length_eq_zero
theorem dd:type_of% @Int.tdiv_eq_ediv_of_nonneg:=@Int.tdiv_eq_ediv_of_nonneg
theorem dh:type_of% @List.map_drop:=@List.map_drop
theorem dv:type_of% @Nat.zero_add:=@Nat.zero_add
theorem dA:type_of% @Nat.mul_le_mul_right:=@Nat.mul_le_mul_right
theorem dB:type_of% @Nat.le_succ:=@Nat.le_succ
theorem dC:type_of% @Bool.and_self:=@Bool.and_self
theorem dL:type_of% @List.getElem?_cons_zero:=@List.getElem?_cons_zero
theorem dM:type_of% @List.getElem?_cons_succ:=@List.getElem?_cons_succ
theorem dQ:type_of% @List.drop_eq_getElem_cons:=@List.drop_eq_getElem_cons
theorem dR:type_of% @Bool.or_eq_true:=@Bool.or_eq_true
theorem dU:type_of% @Nat.le_trans:=@Nat.le_trans
theorem dX:type_of% @Option.isSome_some:=@Option.isSome_some
theorem d_:type_of% @implies_true:=@implies_true
theorem eb:type_of% @forall_const:=@forall_const
theorem ez:type_of% @List.getElem?_of_mem:=@List.getElem?_of_mem
theorem eC:type_of% @List.getElem?_eq_none_iff:=@List.getElem?_eq_none_iff
theorem eD:type_of% @Bool.true_eq_false:=@Bool.true_eq_false
theorem eG:type_of% @true_and:=@true_and
theorem eH:type_of% @Bool.not_false:=@Bool.not_false
theorem eM:type_of% @Nat.add_mul:=@Nat.add_mul
theorem eN:type_of% @List.take_succ_cons:=@List.take_succ_cons
theorem eO:type_of% @List.getElem?_eq_none:=@List.getElem?_eq_none
theorem eS:type_of% @Bool.true_or:=@Bool.true_or
theorem eT:type_of% @Bool.not_eq_true':=@Bool.not_eq_true'
theorem ff:type_of% @List.take_zero:=@List.take_zero
theorem fg:type_of% @List.mem_cons_self:=@List.mem_cons_self
theorem fh:type_of% @List.cons.injEq:=@List.cons.injEq
theorem fB:type_of% @List.all_eq_true:=@List.all_eq_true
theorem fM:type_of% @Array.getElem?_modify:=@Array.getElem?_modify
theorem fP:type_of% @List.map_map:=@List.map_map
theorem fQ:type_of% @List.length_set:=@List.length_set
theorem fR:type_of% @Bool.eq_iff_iff:=@Bool.eq_iff_iff
theorem gr:type_of% @List.all_cons:=@List.all_cons
theorem gw:type_of% @of_decide_eq_true:=@of_decide_eq_true
theorem gx:type_of% @List.all_nil:=@List.all_nil
theorem gA:type_of% @Nat.testBit_two_pow:=@Nat.testBit_two_pow
theorem gL:type_of% @decide_eq_false:=@decide_eq_false
theorem gQ:type_of% @Ne.symm:=@Ne.symm
theorem gR:type_of% @Array.getElem?_eq_getElem:=@Array.getElem?_eq_getElem
theorem ib:type_of% @List.any_eq_true:=@List.any_eq_true
theorem ik:type_of% @Nat.zero_mul:=@Nat.zero_mul
theorem il:type_of% @Bool.not_true:=@Bool.not_true
theorem iJ:type_of% @Nat.add_sub_cancel_left:=@Nat.add_sub_cancel_left
theorem iK:type_of% @List.getElem?_set:=@List.getElem?_set
theorem iL:type_of% @List.filter_cons_of_pos:=@List.filter_cons_of_pos
theorem iM:type_of% @List.ext_getElem?:=@List.ext_getElem?
theorem iT:type_of% @Array.getElem?_setIfInBounds:=@Array.getElem?_setIfInBounds
theorem jh:type_of% @Nat.add_assoc:=@Nat.add_assoc
theorem jw:type_of% @Option.getD_none:=@Option.getD_none
theorem jG:type_of% @of_decide_eq_false:=@of_decide_eq_false
theorem jH:type_of% @Nat.testBit_or:=@Nat.testBit_or
theorem jI:type_of% @Array.getElem?_append_left:=@Array.getElem?_append_left
theorem kl:type_of% @List.size_toArray:=@List.size_toArray
theorem km:type_of% @Int.zero_add:=@Int.zero_add
theorem kD:type_of% @Array.getElem?_replicate:=@Array.getElem?_replicate
theorem kT:type_of% @List.mem_map_of_mem:=@List.mem_map_of_mem
theorem kU:type_of% @List.getElem?_range:=@List.getElem?_range
theorem kV:type_of% @Array.getElem?_push:=@Array.getElem?_push
theorem lp:type_of% @List.drop_zero:=@List.drop_zero
theorem l_:type_of% @true_or:=@true_or
theorem ma:type_of% @or_self:=@or_self
theorem mb:type_of% @Nat.lt_of_lt_of_le:=@Nat.lt_of_lt_of_le
theorem mc:type_of% @List.set_cons_zero:=@List.set_cons_zero
theorem me:type_of% @List.set_cons_succ:=@List.set_cons_succ
theorem mf:type_of% @Bool.or_true:=@Bool.or_true
theorem mg:type_of% @Array.ext_getElem?:=@Array.ext_getElem?
theorem mR:type_of% @and_self:=@and_self
theorem mW:type_of% @Bool.and_true:=@Bool.and_true
theorem nQ:type_of% @Array.getElem?_setIfInBounds_self_of_lt:=@Array.getElem?_setIfInBounds_self_of_lt
theorem oe:type_of% @decide_eq_true:=@decide_eq_true
theorem og:type_of% @Nat.mul_le_mul:=@Nat.mul_le_mul
theorem oh:type_of% @List.getD_eq_getElem?_getD:=@List.getD_eq_getElem?_getD
theorem o_:type_of% @Nat.lt_or_ge:=@Nat.lt_or_ge
theorem pb:type_of% @Nat.add_zero:=@Nat.add_zero
theorem pI:type_of% @List.mem_of_find?_eq_some:=@List.mem_of_find?_eq_some
theorem qw:type_of% @Option.map_none:=@Option.map_none
theorem rN:type_of% @decide_eq_false_iff_not:=@decide_eq_false_iff_not
theorem rO:type_of% @List.getElem?_replicate:=@List.getElem?_replicate
theorem rP:type_of% @List.filter_cons_of_neg:=@List.filter_cons_of_neg
theorem uj:type_of% @not_true_eq_false:=@not_true_eq_false
theorem uo:type_of% @List.drop_of_length_le:=@List.drop_of_length_le
class Mode:Type where
 strict:Prop
 err:Value:=.nilIface
 WU:err= .nilIface∨∃te pe,err= .iface te pe:=by exact .inl rfl
@[reducible] def Mode.tight(m:Mode):Mode:={strict:=True,err:=m.err,WU:=m.WU}
class bR[Mode]:Prop where
 no:¬Mode.strict
variable[Mode]
inductive V where
 |undef
 |cq
 |int (k:IntKind) (n:Int)
 |bool (b:Bool)
 |str (s:List UInt8)
 |aM
 |sl (sz:Nat) (rows:List (List V))
 |cU (id aI off len:Nat)
 |nilPtr
 |bK (cells:List V)
 |ptr (id aI row off:Nat)
 |func (f:FuncId) (first cap:List V)
 |jN
 |iface (t:TypeId) (v:V)
 |nilIface
 |agg (vs:List V)
 |dI (vs:List V)
 |fp
 |eF (id aI:Nat)
 deriving Inhabited
inductive nZ where
 |int (k:IntKind)
 |str
 deriving DecidableEq,Inhabited
inductive KD where
 |one (k:nZ)
 |st (l:List nZ)
 deriving DecidableEq,Inhabited
def pM:nZ→V→Bool
 | .int k,.int k' _=>decide (k=k')
 | .str,.str _=>true
 |_,_=>false
def oQ:List nZ→List V→Bool
 |[],[]=>true
 |k::l,v::vs=>pM k v&&oQ l vs
 |_,_=>false
def jl:KD→V→Bool
 | .one k,v=>pM k v
 | .st l,.agg vs=>oQ l vs
 |_,_=>false
inductive MX where
 |free
 |held (it:Nat)
 |opened (j n:Nat)
 |iter (of:Option (Nat×Nat)) (cur:Option (V×V))
 deriving Inhabited
def MX.iw:MX→Bool
 | .iter _ _=>true
 |_=>false
structure jF where
 kd:KD
 rows:List (V×V)
 x:MX
def jF.addr(m:jF)(g:Nat):Value:=if m.x.iw=true then .pointer (some ⟨g,0,none⟩)else .map (some g)
inductive eR where
 |arr (e:TypeId) (sz:Nat) (rows:List (List V))
 |mp (m:jF)
structure Obj where
 aI:Nat
 st:Option eR
abbrev ae:=List Obj
abbrev Place:=Nat→Option (Nat×Nat)
def eR.Ct:eR→eR→Prop
 | .arr e sz rows,.arr e' kW bT=>e=e'∧sz=kW∧rows.length=bT.length
 | .mp m,.mp m'=>m.kd=m'.kd∧m.x.iw=m'.x.iw
 |_,_=>False
def eo(ρ:Place)(S:ae)(w:World)(g:Nat):Prop:=
 g<w.heap.size∧∀(id:Nat) (o:Obj) (c:eR) (g' db:Nat),S[id]?=some o→o.st=some c→ρ id=some (g',db)→g'≠g
def Em:List (Nat×Array Value):=[(0,#[.int .i64 31,.int .i64 28,.int .i64 31,.int .i64 30,.int .i64 31,.int .i64 30,.int .i64 31,.int .i64 31,.int .i64 30,.int .i64 31,.int .i64 30,.int .i64 31])]
def iI(ρ:Place)(S:ae)(w:World):Prop:=∀p∈Em,eo ρ S w p.1∧∃t fr,w.heap[p.1]?=some (.cells p.2 t fr)
inductive VR (ρ:Place) (S:ae) (w:World):Bool→V→Value→Prop
 |undef {b u}:VR ρ S w b .undef u
 |cq {b}:VR ρ S w b .cq Go.undef
 |int {b k n}:VR ρ S w b (.int k n) (.int k n)
 |bool {b x}:VR ρ S w b (.bool x) (.bool x)
 |str {b l} {s:ByteArray} (h:s.data.toList=l) (hm:s.size≤maxLen):VR ρ S w b (.str l) (.string s)
 |aM {b}:VR ρ S w b .aM (.slice none 0 0)
 |gC {b} {sz:Nat} {p:Option Addr}:VR ρ S w b (.sl sz []) (.slice p 0 0)
 |sl {b} {sz:Nat} {rows:List (List V)} {g off len cap:Nat} (c:Nat→Nat→Value) (hu:eo ρ S w g) (hlen:len=rows.length) (ki:len≤cap) (jS:cap≤maxLen)
  (hG:∀(i:Nat) (r:List V),rows[i]?=some r→r.length=sz)
  (hc:∀(i:Nat) (r:List V),rows[i]?=some r→∀(j:Nat) (v:V),r[j]?=some v→w.cell? ⟨g,off+(i*sz+j),none⟩=some (c i j))
  (hv:∀(i:Nat) (r:List V),rows[i]?=some r→∀(j:Nat) (v:V),r[j]?=some v→VR ρ S w true v (c i j))
  (h1:∀(i:Nat) (r:List V),rows[i]?=some r→∀(j:Nat) (v:V),r[j]?=some v→(c i j).oneCell'=true):
  VR ρ S w b (.sl sz rows) (.slice (some ⟨g,off,none⟩) len cap)
 |cU {id aI off len:Nat} {u} (aR:id<S.length) (iP:∀(o:Obj),S[id]?=some o→aI≤o.aI)
  (h:∀(e:TypeId) (sz:Nat) (rows:List (List V)),S[id]?=some ⟨aI,some (.arr e sz rows)⟩→off+len≤rows.length∧
   ((ρ id=none∧u= .slice none 0 0∧len=0∧off=0)∨(∃g db cap,ρ id=some (g,db)∧u= .slice (some ⟨g,off*sz,none⟩) len cap∧off+len≤db∧len≤cap∧off+cap≤db)∨(0<off∧len=0∧∃p,u= .slice (some p) 0 0)))
  (h1:∃(p:Option Addr) (c:Nat),u= .slice p len c):VR ρ S w false (.cU id aI off len) u
 |nilPtr {b}:VR ρ S w b .nilPtr (.pointer none)
 |bK {b} {cells:List V} {g off:Nat} (c:Nat→Value) (hu:eo ρ S w g) (hc:∀(j:Nat) (v:V),cells[j]?=some v→w.cell? ⟨g,off+j,none⟩=some (c j))
  (hv:∀(j:Nat) (v:V),cells[j]?=some v→VR ρ S w true v (c j)) (h1:∀(j:Nat) (v:V),cells[j]?=some v→(c j).oneCell'=true):VR ρ S w b (.bK cells) (.pointer (some ⟨g,off,none⟩))
 |ptr {id aI row off:Nat} {u} (aR:id<S.length) (iP:∀(o:Obj),S[id]?=some o→aI≤o.aI)
  (h:∀(e:TypeId) (sz:Nat) (rows:List (List V)),S[id]?=some ⟨aI,some (.arr e sz rows)⟩→∃g db,ρ id=some (g,db)∧u= .pointer (some ⟨g,row*sz+off,none⟩))
  (h1:u.oneCell'=true):VR ρ S w false (.ptr id aI row off) u
 |func {b f} {vs ws:List V} {us xs:Array Value} (c d:Nat→Value) (hl:us.size=vs.length) (hm:xs.size=ws.length)
  (hc:∀(j:Nat) (v:V),vs[j]?=some v→us[j]?=some (c j)) (hv:∀(j:Nat) (v:V),vs[j]?=some v→VR ρ S w b v (c j))
  (hd:∀(j:Nat) (v:V),ws[j]?=some v→xs[j]?=some (d j)) (hw:∀(j:Nat) (v:V),ws[j]?=some v→VR ρ S w b v (d j)):
  VR ρ S w b (.func f vs ws) (.func (.func f) us xs)
 |jN {b}:VR ρ S w b .jN .nilFunc
 |iface {b t v u} (h:VR ρ S w b v u):VR ρ S w b (.iface t v) (.iface t u)
 |nilIface {b}:VR ρ S w b .nilIface .nilIface
 |agg {b} {vs:List V} {us:Array Value} (c:Nat→Value) (hl:us.size=vs.length) (hc:∀(j:Nat) (v:V),vs[j]?=some v→us[j]?=some (c j))
  (hv:∀(j:Nat) (v:V),vs[j]?=some v→VR ρ S w b v (c j)):VR ρ S w b (.agg vs) (.agg us)
 |dI {b} {vs:List V} {us:Array Value} (c:Nat→Value) (hl:us.size=vs.length) (hc:∀(j:Nat) (v:V),vs[j]?=some v→us[j]?=some (c j))
  (hv:∀(j:Nat) (v:V),vs[j]?=some v→VR ρ S w b v (c j)):VR ρ S w b (.dI vs) (.tuple us)
 |fp {b}:VR ρ S w b .fp (.map none)
 |eF {id aI:Nat} {u} (aR:id<S.length) (iP:∀(o:Obj),S[id]?=some o→aI≤o.aI)
  (h:∀(rows:jF),S[id]?=some ⟨aI,some (.mp rows)⟩→∃g,ρ id=some (g,0)∧u=rows.addr g) (h1:u.oneCell'=true):VR ρ S w false (.eF id aI) u
def MR(ρ:Place)(S:ae)(w:World)(m:jF)(es:Array MapEntry):Prop:=
 es.size=m.rows.length∧(∀p∈m.rows,jl m.kd p.1=true)∧∀(i:Nat) (k v:V),m.rows[i]?=some (k,v)→∃e,es[i]?=some e∧VR ρ S w false k e.key∧VR ρ S w false v e.val
def xG(es:Array MapEntry)(ck:Nat):Prop:=(∀x∈es.toList,x.born<ck)∧(es.toList.map (·.born)).Nodup
def ER(ρ:Place)(S:ae)(w:World)(rows:List (V×V))(l:List MapEntry):Prop:=
 l.length=rows.length∧∀(i:Nat) (k v:V),rows[i]?=some (k,v)→∃e,l[i]?=some e∧VR ρ S w false k e.key∧VR ρ S w false v e.val
def Sf(ρ:Place)(w:World)(cur:Option (V×V))(l:List MapEntry)(ce:MapEntry)(si gm since:Nat)(seen:Array Nat):Prop:=
 ρ si=some (gm,0)∧∃(es:Array MapEntry),w.heap[gm]?=some (.map es since)∧xG es since∧l.Perm (leftOf es seen).toList∧(cur.isSome=true→ce∈es.toList∧∃Mo:Array Nat,seen=Mo.push ce.born)
def ace(ρ:Place)(S:ae)(w:World)(id:Nat)(cur:Option (V×V))(l:List MapEntry)(ce:MapEntry)(g:Nat):Option (Nat×Nat)→Prop
 |none=>∃since seen last,w.heap[g]?=some (.mapIter none since seen last)
 |some (si,tX)=>∃gm since seen,w.heap[g]?=some (.mapIter (some gm) since seen since)∧
  ∀(kd:KD) (rows:List (V×V)),S[si]?=some ⟨tX,some (.mp ⟨kd,rows,.held id⟩)⟩→Sf ρ w cur l ce si gm since seen
def Jq(ρ:Place)(S:ae)(w:World)(cur:Option (V×V))(ce:MapEntry):Prop:=∀p,cur=some p→VR ρ S w false p.1 ce.key∧VR ρ S w false p.2 ce.val
def HR(ρ:Place)(S:ae)(w:World)(id:Nat)(m:jF)(g:Nat):Prop:=
 match m.x with
 | .iter of cur=>(∀p∈m.rows,jl m.kd p.1=true)∧∃l ce,ER ρ S w m.rows l∧Jq ρ S w cur ce∧ace ρ S w id cur l ce g of
 | .opened j n=>∃es ck,w.heap[g]?=some (.map es ck)∧MR ρ S w m es∧xG es ck∧∃e,es[j]?=some e∧e.born=n
 |_=>∃es ck,w.heap[g]?=some (.map es ck)∧MR ρ S w m es∧xG es ck
structure Inv(ρ:Place)(S:ae)(w:World):Prop where
 rows:∀(id aI:Nat) (e:TypeId) (sz:Nat) (rows:List (List V)),S[id]?=some ⟨aI,some (.arr e sz rows)⟩→(∀(i:Nat) (r:List V),rows[i]?=some r→r.length=sz)∧
  ((ρ id=none∧rows=[])∨∃g db cur,ρ id=some (g,db)∧rows.length≤db∧db≤maxLen∧w.heap[g]?=some (.cells cur e (0,0))∧cur.size=db*sz∧
    ∀(i:Nat) (r:List V),rows[i]?=some r→∀(j:Nat) (v:V),r[j]?=some v→∃u,cur[i*sz+j]?=some u∧VR ρ S w false v u∧u.oneCell'=true)
 inj:∀(i j:Nat) (o p:Obj) (c d:eR) (g x y:Nat),S[i]?=some o→S[j]?=some p→o.st=some c→p.st=some d→ρ i=some (g,x)→ρ j=some (g,y)→i=j
 maps:∀(id aI:Nat) (rows:jF),S[id]?=some ⟨aI,some (.mp rows)⟩→∃g,ρ id=some (g,0)∧HR ρ S w id rows g
 SS:iI ρ S w
structure Ext(ρ:Place)(S:ae)(w:World)(dn:Place)(S':ae)(w':World):Prop where
 os:w'.os=w.os
 tape:w'.tape=w.tape∧(Mode.strict→w.drawn≤w'.drawn)
 output:w'.output=w.output
 size:w.heap.size≤w'.heap.size
 un:∀g,eo ρ S w g→eo dn S' w' g∧w'.heap[g]?=w.heap[g]?
 len:S.length≤S'.length
 aI:∀(id:Nat) (o o':Obj),S[id]?=some o→S'[id]?=some o'→o.aI≤o'.aI∧(o'.aI=o.aI→∀c',o'.st=some c'→∃c,o.st=some c∧c.Ct c'∧dn id=ρ id)
theorem eR.fD(c:eR):c.Ct c:=by cases c;exact⟨rfl,rfl,rfl⟩;exact⟨rfl,rfl⟩
theorem eR.Ff{a b c:eR}(h:a.Ct b)(k:b.Ct c):a.Ct c:=by
 cases a<;>cases b<;>cases c<;>simp only[eR.Ct]at*
 ·obtain⟨h1,h2,h3⟩:=h;obtain⟨k1,k2,k3⟩:=k;exact⟨h1.trans k1,h2.trans k2,h3.trans k3⟩
 ·exact⟨h.1.trans k.1,h.2.trans k.2⟩
theorem Ext.refl(ρ:Place)(S:ae)(w:World):Ext ρ S w ρ S w:=
 ⟨rfl,⟨rfl,by first|exact ah _|exact az _|exact fun _=>ah _|exact fun _=>dB _⟩,rfl,ah _,fun _ h=>⟨h,rfl⟩,ah _,fun id o o' h h'=>by
  rw[h]at h';cases h';exact⟨ah _,fun _ c hc=>⟨c,hc,eR.fD c,rfl⟩⟩⟩
theorem Ext.trans{ρ dn acQ:Place}{S S' Gi:ae}{w w' w'':World}(h:Ext ρ S w dn S' w')(k:Ext dn S' w' acQ Gi w''):Ext ρ S w acQ Gi w'' where
 os:=k.os.trans h.os
 tape:=⟨k.tape.1.trans h.tape.1,by first|exact dU h.tape.2 k.tape.2|exact az _|exact fun e=>dU (h.tape.2 e) (k.tape.2 e)⟩
 output:=k.output.trans h.output
 size:=dU h.size k.size
 un g hg:=by
  obtain⟨a,b⟩:=h.un g hg;obtain⟨c,d⟩:=k.un g a;exact⟨c,d.trans b⟩
 len:=dU h.len k.len
 aI id o o'' ho aim:=by
  have aR:id<S'.length:=mb (List.getElem?_eq_some_iff.1 ho).1 h.len;have eI:S'[id]?=some S'[id]:=ax aR;obtain⟨a,b⟩:=h.aI id o _ ho eI;obtain⟨c,d⟩:=k.aI id _ o'' eI aim;refine⟨dU a c,fun he c'' ai2=>?_⟩;obtain⟨c',As,xu,iA⟩:=d (by omega) c'' ai2;obtain⟨c,hc,hl,hr⟩:=b (by omega) c' As;exact⟨c,hc,eR.Ff hl xu,iA.trans hr⟩
theorem cell_of_block{w w':World}{g:Nat}(h:w'.heap[g]?=w.heap[g]?)(o:Nat):w'.cell? ⟨g,o,none⟩=w.cell? ⟨g,o,none⟩:=by
 simp[World.cell?,h]
theorem VR.bX{ρ dn:Place}{S S':ae}{w w':World}(h:∀g,eo ρ S w g→eo dn S' w' g∧w'.heap[g]?=w.heap[g]?){b:Bool}{v:V}{u:Value}(hv:VR ρ S w b v u):
 b=true→∀b',VR dn S' w' b' v u:=by
 induction hv with
 |undef=>exact fun _ _=>.undef
 |cq=>exact fun _ _=>.cq
 |int=>exact fun _ _=>.int
 |bool=>exact fun _ _=>.bool
 |str h1 h2=>exact fun _ _=>.str h1 h2
 |aM=>exact fun _ _=>.aM
 |gC=>exact fun _ _=>.gC
 |sl c hu hlen ki jS hG hc hv h1 ih=>
  intro _ b';exact .sl c (h _ hu).1 hlen ki jS hG (fun i r hi j v hj=>by rw[cell_of_block (h _ hu).2];exact hc i r hi j v hj) (fun i r hi j v hj=>ih i r hi j v hj rfl true) h1
 |cU=>intro hb;cases hb
 |nilPtr=>exact fun _ _=>.nilPtr
 |bK c hu hc hv h1 ih=>
  intro _ b';exact .bK c (h _ hu).1 (fun j v hj=>by rw[cell_of_block (h _ hu).2];exact hc j v hj) (fun j v hj=>ih j v hj rfl true) h1
 |ptr=>intro hb;cases hb
 |func c d hl hm hc hv hd hw T8 Ea=>exact fun hb b'=>.func c d hl hm hc (fun j v hj=>T8 j v hj hb b') hd (fun j v hj=>Ea j v hj hb b')
 |jN=>exact fun _ _=>.jN
 |iface h ih=>exact fun hb b'=>.iface (ih hb b')
 |nilIface=>exact fun _ _=>.nilIface
 |agg c hl hc hv ih=>exact fun hb b'=>.agg c hl hc fun j v hj=>ih j v hj hb b'
 |dI c hl hc hv ih=>exact fun hb b'=>.dI c hl hc fun j v hj=>ih j v hj hb b'
 |fp=>exact fun _ _=>.fp
 |eF=>intro hb;cases hb
theorem VR.weaken{ρ:Place}{S:ae}{w:World}{v:V}{u:Value}(hv:VR ρ S w true v u)(b:Bool):VR ρ S w b v u:=
 hv.bX (fun _ h=>⟨h,rfl⟩) rfl b
theorem VR.ext{ρ dn:Place}{S S':ae}{w w':World}(h:Ext ρ S w dn S' w'){b:Bool}{v:V}{u:Value}(hv:VR ρ S w b v u):VR dn S' w' b v u:=by
 have key:∀id aI,id<S.length→(∀(o:Obj),S[id]?=some o→aI≤o.aI)→
  id<S'.length∧(∀(o:Obj),S'[id]?=some o→aI≤o.aI)∧
  ∀(e:TypeId) (sz:Nat) (rows:List (List V)),S'[id]?=some ⟨aI,some (.arr e sz rows)⟩→∃eu,S[id]?=some ⟨aI,some (.arr e sz eu)⟩∧eu.length=rows.length∧dn id=ρ id:=by
  intro id aI aR iP;have ho:S[id]?=some S[id]:=ax aR;have h1:=iP _ ho;refine⟨mb aR h.len,fun o' eI=>dU h1 (h.aI id _ o' ho eI).1,fun e sz rows hs=>?_⟩;obtain⟨h2,h3⟩:=h.aI id _ _ ho hs;simp only at h2;obtain⟨c,hc,hl,hr⟩:=h3 (by simp only;omega) _ rfl;have yN:S[id].aI=aI:=by omega
  cases c with
  |mp eu=>exact hl.elim
  |arr e0 sz0 eu=>
   simp only[eR.Ct]at hl;obtain⟨rfl,rfl,Kx⟩:=hl;refine⟨eu,?_,Kx,hr⟩;rw[ho];rw[←yN,←hc]
 have ahD:∀id aI,id<S.length→(∀(o:Obj),S[id]?=some o→aI≤o.aI)→
  id<S'.length∧(∀(o:Obj),S'[id]?=some o→aI≤o.aI)∧
  ∀(rows:jF),S'[id]?=some ⟨aI,some (.mp rows)⟩→∃eu,S[id]?=some ⟨aI,some (.mp eu)⟩∧eu.x.iw=rows.x.iw∧dn id=ρ id:=by
  intro id aI aR iP;have ho:S[id]?=some S[id]:=ax aR;have h1:=iP _ ho;refine⟨mb aR h.len,fun o' eI=>dU h1 (h.aI id _ o' ho eI).1,fun rows hs=>?_⟩;obtain⟨h2,h3⟩:=h.aI id _ _ ho hs;simp only at h2;obtain⟨c,hc,hl,hr⟩:=h3 (by simp only;omega) _ rfl;have yN:S[id].aI=aI:=by omega
  cases c with
  |arr e0 sz0 eu=>exact hl.elim
  |mp eu=>
   refine⟨eu,?_,hl.2,hr⟩;rw[ho];rw[←yN,←hc]
 induction hv with
 |undef=>exact .undef
 |cq=>exact .cq
 |int=>exact .int
 |bool=>exact .bool
 |str h1 h2=>exact .str h1 h2
 |aM=>exact .aM
 |gC=>exact .gC
 |sl c hu hlen ki jS hG hc hv h1 ih=>
  exact .sl c (h.un _ hu).1 hlen ki jS hG (fun i r hi j v hj=>by rw[cell_of_block (h.un _ hu).2];exact hc i r hi j v hj) ih h1
 |cU aR iP hh h1=>
  obtain⟨a,b,c⟩:=key _ _ aR iP;refine .cU a b (fun e sz rows hs=>?_) h1;obtain⟨eu,h0,hl,hr⟩:=c e sz rows hs;have:=hh e sz eu h0;rw[hr,←hl];exact this
 |nilPtr=>exact .nilPtr
 |bK c hu hc hv h1 ih=>exact .bK c (h.un _ hu).1 (fun j v hj=>by rw[cell_of_block (h.un _ hu).2];exact hc j v hj) ih h1
 |ptr aR iP hh h1=>
  obtain⟨a,b,c⟩:=key _ _ aR iP;refine .ptr a b (fun e sz rows hs=>?_) h1;obtain⟨eu,h0,hl,hr⟩:=c e sz rows hs;rw[hr];exact hh e sz eu h0
 |func c d hl hm hc hv hd hw T8 Ea=>exact .func c d hl hm hc T8 hd Ea
 |jN=>exact .jN
 |iface h ih=>exact .iface ih
 |nilIface=>exact .nilIface
 |agg c hl hc hv ih=>exact .agg c hl hc ih
 |dI c hl hc hv ih=>exact .dI c hl hc ih
 |fp=>exact .fp
 |eF aR iP hh h1=>
  obtain⟨a,b,c⟩:=ahD _ _ aR iP;refine .eF a b (fun rows hs=>?_) h1;obtain⟨eu,h0,qZ,hr⟩:=c rows hs;rw[hr];have:=hh eu h0;unfold jF.addr at this⊢;rwa[qZ]at this
def D5(ρ:Place)(S:ae)(w:World)(vs:List V)(us:Array Value):Prop:=
 us.size=vs.length∧∀(j:Nat) (v:V),vs[j]?=some v→∃u,us[j]?=some u∧VR ρ S w false v u
theorem MR.ext{ρ dn:Place}{S S':ae}{w w':World}{rows:jF}{es:Array MapEntry}(h:MR ρ S w rows es)(hx:Ext ρ S w dn S' w'):MR dn S' w' rows es:=
 ⟨h.1,h.2.1,fun i k v hi=>let⟨e,a,b,c⟩:=h.2.2 i k v hi;⟨e,a,b.ext hx,c.ext hx⟩⟩
theorem ER.ext{ρ dn:Place}{S S':ae}{w w':World}{rows:List (V×V)}{l:List MapEntry}(h:ER ρ S w rows l)(hx:Ext ρ S w dn S' w'):ER dn S' w' rows l:=
 ⟨h.1,fun i k v hi=>let⟨e,a,b,c⟩:=h.2 i k v hi;⟨e,a,b.ext hx,c.ext hx⟩⟩
theorem HR.there{ρ:Place}{S:ae}{w:World}{id g:Nat}{m:jF}(h:HR ρ S w id m g):∃o,w.heap[g]?=some o:=by
 unfold HR at h;split at h
 ·rename_i of cur _;obtain⟨_,l,ce,_,_,h⟩:=h;cases of with
  |none=>obtain⟨_,_,_,h⟩:=h;exact⟨_,h⟩
  |some p=>obtain⟨_,_,_,h,_⟩:=h;exact⟨_,h⟩
 ·obtain⟨_,_,h,_⟩:=h;exact⟨_,h⟩
 ·obtain⟨_,_,h,_⟩:=h;exact⟨_,h⟩
theorem Jq.ext{ρ dn:Place}{S S':ae}{w w':World}{cur:Option (V×V)}{ce:MapEntry}(h:Jq ρ S w cur ce)(hx:Ext ρ S w dn S' w'):Jq dn S' w' cur ce:=fun p hp=>⟨(h p hp).1.ext hx,(h p hp).2.ext hx⟩
theorem HR.ext{ρ dn:Place}{S S':ae}{w w':World}{id g:Nat}{m:jF}(h:HR ρ S w id m g)(hx:Ext ρ S w dn S' w')(hb:w'.heap[g]?=w.heap[g]?)
 (hl:∀(si tX:Nat) (kd:KD) (rows:List (V×V)),S'[si]?=some ⟨tX,some (.mp ⟨kd,rows,.held id⟩)⟩→S[si]?=some ⟨tX,some (.mp ⟨kd,rows,.held id⟩)⟩∧dn si=ρ si∧∀gm,ρ si=some (gm,0)→w'.heap[gm]?=w.heap[gm]?):HR dn S' w' id m g:=by
 unfold HR at h⊢;split at h
 ·rename_i of cur he;obtain⟨k1,l,ce,k2,k3,h⟩:=h;refine⟨k1,l,ce,k2.ext hx,k3.ext hx,?_⟩;cases of with
  |none=>obtain⟨a,b,c,h⟩:=h;exact⟨a,b,c,hb.trans h⟩
  |some p=>
   obtain⟨si,tX⟩:=p;obtain⟨gm,since,seen,h1,h2⟩:=h;refine⟨gm,since,seen,hb.trans h1,fun kd rows hs=>?_⟩;obtain⟨a,b,c⟩:=hl si tX kd rows hs;obtain⟨d,es,e1,e2,e3⟩:=h2 kd rows a;exact⟨b.trans d,es,(c gm d).trans e1,e2,e3⟩
 ·obtain⟨es,ck,h1,h2,h3⟩:=h;exact⟨es,ck,hb.trans h1,h2.ext hx,h3⟩
 ·obtain⟨es,ck,h1,h2,h3⟩:=h;exact⟨es,ck,hb.trans h1,h2.ext hx,h3⟩
theorem HR.entries{ρ:Place}{S:ae}{w:World}{id g:Nat}{m:jF}(h:HR ρ S w id m g):(∀p∈m.rows,jl m.kd p.1=true)∧(∃l,ER ρ S w m.rows l)∧∀of p,m.x= .iter of (some p)→∃u1 u2,VR ρ S w false p.1 u1∧VR ρ S w false p.2 u2:=by
 unfold HR at h;split at h
 ·rename_i of cur he;obtain⟨k1,l,ce,k2,k3,_⟩:=h;refine⟨k1,⟨l,k2⟩,fun of' p hp=>?_⟩;rw[he]at hp;cases hp;exact⟨_,_,k3 p rfl⟩
 ·rename_i he;obtain⟨es,ck,h1,⟨h2,h3,h4⟩,_⟩:=h;refine⟨h3,⟨es.toList,by simpa using h2,fun i k v gP=>?_⟩,fun of p hp=>by rw[he]at hp;cases hp⟩;obtain⟨e,a,b,c⟩:=h4 i k v gP;exact⟨e,by simpa using a,b,c⟩
 ·rename_i eY _;obtain⟨es,ck,h1,⟨h2,h3,h4⟩,_⟩:=h;refine⟨h3,⟨es.toList,by simpa using h2,fun i k v gP=>?_⟩,fun of p hp=>absurd hp (eY _ _)⟩;obtain⟨e,a,b,c⟩:=h4 i k v gP;exact⟨e,by simpa using a,b,c⟩
theorem Inv.block{ρ:Place}{S:ae}{w:World}(hi:Inv ρ S w){id:Nat}{o:Obj}{c:eR}{g db:Nat}(hs:S[id]?=some o)(hc:o.st=some c)(hr:ρ id=some (g,db)):g<w.heap.size:=by
 obtain⟨aI,st⟩:=o;simp only at hc;subst hc;cases c with
 |arr e sz rows=>
  obtain⟨_,h2⟩:=hi.rows id aI e sz rows hs;rcases h2 with⟨h2,_⟩|⟨g',eU,cur,a,b,c,d,f,k⟩
  ·rw[hr]at h2;cases h2
  ·rw[hr]at a;cases a;exact(Array.getElem?_eq_some_iff.1 d).1
 |mp rows=>
  obtain⟨g',a,b⟩:=hi.maps id aI rows hs;rw[hr]at a;cases a;obtain⟨_,b⟩:=b.there;exact(Array.getElem?_eq_some_iff.1 b).1
theorem jJ{ρ dn:Place}{S S':ae}{w w':World}(hi:Inv ρ S w)(hx:Ext ρ S w dn S' w'):iI dn S' w':=fun p hp=>by
 obtain⟨a,t,fr,b⟩:=hi.SS p hp;obtain⟨c,d⟩:=hx.un _ a;exact⟨c,t,fr,d.trans b⟩
theorem jP{ρ dn:Place}{S S':ae}{w w':World}(hi:Inv ρ S w)(hx:Ext ρ S w dn S' w')(h:∀(id aI:Nat) (rows:jF),S'[id]?=some ⟨aI,some (.mp rows)⟩→S[id]?=some ⟨aI,some (.mp rows)⟩∧dn id=ρ id)
 (hb:∀(id aI:Nat) (rows:jF) (g:Nat),S'[id]?=some ⟨aI,some (.mp rows)⟩→ρ id=some (g,0)→w'.heap[g]?=w.heap[g]?):
 ∀(id aI:Nat) (rows:jF),S'[id]?=some ⟨aI,some (.mp rows)⟩→∃g,dn id=some (g,0)∧HR dn S' w' id rows g:=by
 intro id aI rows hs;obtain⟨h1,h2⟩:=h id aI rows hs;obtain⟨g,a,b⟩:=hi.maps id aI rows h1;exact⟨g,by rw[h2];exact a,b.ext hx (hb id aI rows g hs a) fun si tX kd bT iV=>⟨(h _ _ _ iV).1,(h _ _ _ iV).2,fun gm hg=>hb _ _ _ gm iV hg⟩⟩
theorem eo.alloc{ρ:Place}{S:ae}{w:World}{g:Nat}(h:eo ρ S w g)(o:Go.Obj):eo ρ S (w.alloc o) g:=
 ⟨by have:=h.1;simp;omega,h.2⟩
theorem Ext.alloc(ρ:Place)(S:ae)(w:World)(o:Go.Obj):Ext ρ S w ρ S (w.alloc o) where
 os:=rfl
 tape:=⟨rfl,by first|exact ah _|exact az _|exact fun _=>ah _|exact fun _=>dB _⟩
 output:=rfl
 size:=by simp
 un g hg:=⟨hg.alloc o,Go.heap_alloc_old w o hg.1⟩
 len:=ah _
 aI:=(Ext.refl ρ S w).aI
theorem Ext.drew(ρ:Place)(S:ae)(w:World):Ext ρ S w ρ S w.drew where
 os:=rfl
 tape:=⟨rfl,by first|exact dB _|exact az _|exact fun _=>ah _|exact fun _=>dB _⟩
 output:=rfl
 size:=ah _
 un _ hg:=⟨hg,rfl⟩
 len:=ah _
 aI:=(Ext.refl ρ S w).aI
theorem Inv.same{ρ:Place}{S:ae}{w w':World}(hi:Inv ρ S w)(h:Ext ρ S w ρ S w')
 (hb:∀(id:Nat) (o:Obj) (c:eR) (g db:Nat),S[id]?=some o→o.st=some c→ρ id=some (g,db)→w'.heap[g]?=w.heap[g]?):Inv ρ S w' where
 rows id aI e sz rows hs:=by
  obtain⟨h1,h2⟩:=hi.rows id aI e sz rows hs;refine⟨h1,?_⟩;rcases h2 with h2|⟨g,db,cur,a,b,c,d,f,k⟩
  ·exact .inl h2
  ·refine .inr ⟨g,db,cur,a,b,c,?_,f,fun i r hr j v hj=>?_⟩
   ·rw[hb id _ _ g db hs rfl a];exact d
   ·obtain⟨u,hu,hv,h1⟩:=k i r hr j v hj;exact⟨u,hu,hv.ext h,h1⟩
 inj:=hi.inj
 maps:=jP hi h (fun id aI rows hs=>⟨hs,rfl⟩) fun id aI rows g hs hr=>hb id _ _ g 0 hs rfl hr
 SS:=jJ hi h
theorem Inv.alloc{ρ:Place}{S:ae}{w:World}(hi:Inv ρ S w)(o:Go.Obj):Inv ρ S (w.alloc o):=by
 refine hi.same (Ext.alloc ρ S w o) fun id ob c g _ hs dq hr=>?_;exact Go.heap_alloc_old w o (hi.block hs dq hr)
theorem Inv.drew{ρ:Place}{S:ae}{w:World}(hi:Inv ρ S w):Inv ρ S w.drew:=
 hi.same (Ext.drew ρ S w) fun _ _ _ _ _ _ _ _=>rfl
theorem eo.new{ρ:Place}{S:ae}{w:World}(hi:Inv ρ S w)(o:Go.Obj):eo ρ S (w.alloc o) w.heap.size:=by
 refine⟨by simp,fun id ob c g db hs dq hr=>?_⟩;have:=hi.block hs dq hr;omega
end Go.AL
namespace Go.AL
variable[Mode]
def V.r_:Value→Option V
 | .int k n=>some (.int k n)
 | .bool b=>some (.bool b)
 | .string s=>if s.size≤maxLen then some (.str s.data.toList)else none
 | .slice none 0 0=>some .aM
 | .pointer none=>some .nilPtr
 | .nilFunc=>some .jN
 | .nilIface=>some .nilIface
 | .map none=>some .fp
 |_=>none
def V.qJ:List Value→Option (List V)
 |[]=>some []
 |u::r=>match V.r_ u,V.qJ r with
  |some v,some vs=>some (v::vs)
  |_,_=>none
def V.j9:Value→Option V
 | .agg cs=>(V.qJ cs.toList).map .agg
 |v=>V.r_ v
inductive cJ where
 |t (n:Nat)
 |c (v:V)
 deriving Inhabited
def dp:Operand→Option cJ
 | .tmp t=>some (.t t)
 | .const v=>(V.j9 v).map .c
 | .global _=>none
 | .func f=>some (.c (.func f [] []))
def ev(e:Nat→V):cJ→V
 | .t n=>e n
 | .c v=>v
def V.dK:V→Bool
 | .agg _| .dI _| .undef| .cq=>false
 |_=>true
def V.cells?:V→Option (List V)
 | .agg vs=>if vs.all V.dK then some vs else none
 | .undef| .cq| .dI _=>none
 |v=>some [v]
theorem V.vB{ρ:Place}{S:ae}{w:World}{u:Value}{v:V}(h:V.r_ u=some v)(b:Bool):VR ρ S w b v u:=by
 unfold V.r_ at h;split at h<;>first|(cases h;done)|(simp only[aa]at h;subst h;constructor;done)|skip
 split at h
 ·rename_i hs;simp only[aa]at h;subst h;exact .str rfl hs
 ·cases h
theorem V.sZ{ρ:Place}{S:ae}{w:World}(b:Bool):∀{us:List Value} {vs:List V},V.qJ us=some vs→us.length=vs.length∧∀(j:Nat) (v:V),vs[j]?=some v→∃u,us[j]?=some u∧VR ρ S w b v u
 |[],vs,h=>by simp only[V.qJ,aa]at h;subst h;simp
 |u::us,vs,h=>by
  simp only[V.qJ]at h;split at h
  ·rename_i v SK h1 h2;simp only[aa]at h;subst h;obtain⟨a,c⟩:=V.sZ (ρ:=ρ) (S:=S) (w:=w) b h2;refine⟨by simp[a],fun j x hx=>?_⟩;cases j with
   |zero=>simp at hx;subst hx;exact⟨u,by simp,V.vB h1 b⟩
   |succ j=>simp at hx;obtain⟨y,hy,hf⟩:=c j x hx;exact⟨y,by simpa using hy,hf⟩
  ·cases h
theorem VR.DX{ρ:Place}{S:ae}{w:World}{b:Bool}{vs:List V}{us:Array Value}(hl:us.size=vs.length)(h:∀(j:Nat) (v:V),vs[j]?=some v→∃u,us[j]?=some u∧VR ρ S w b v u):VR ρ S w b (.agg vs) (.agg us):=
 .agg (fun j=>us[j]?.getD Go.undef) hl (fun j v hv=>by obtain⟨u,hu,_⟩:=h j v hv;simp[hu]) (fun j v hv=>by obtain⟨u,hu,hr⟩:=h j v hv;simpa[hu]using hr)
theorem VR.rR{ρ:Place}{S:ae}{w:World}{b:Bool}{vs:List V}{us:Array Value}(hl:us.size=vs.length)(h:∀(j:Nat) (v:V),vs[j]?=some v→∃u,us[j]?=some u∧VR ρ S w b v u):VR ρ S w b (.dI vs) (.tuple us):=
 .dI (fun j=>us[j]?.getD Go.undef) hl (fun j v hv=>by obtain⟨u,hu,_⟩:=h j v hv;simp[hu]) (fun j v hv=>by obtain⟨u,hu,hr⟩:=h j v hv;simpa[hu]using hr)
theorem V.ic{ρ:Place}{S:ae}{w:World}{u:Value}{v:V}(h:V.j9 u=some v)(b:Bool):VR ρ S w b v u:=by
 unfold V.j9 at h;split at h
 ·rename_i cs;simp only[aG]at h;obtain⟨vs,hm,rfl⟩:=h;obtain⟨h1,h2⟩:=V.sZ (ρ:=ρ) (S:=S) (w:=w) b hm;exact .DX (by simpa using h1) (fun j v hv=>by obtain⟨y,hy,hf⟩:=h2 j v hv;exact⟨y,by simpa using hy,hf⟩)
 ·exact V.vB h b
def cr(ρ:Place)(S:ae)(w:World)(e:Nat→V)(a:Act):Prop:=∀t,VR ρ S w false (e t) (a.tmps.getD t Go.undef)
theorem bw{ρ:Place}{S:ae}{w:World}{e:Nat→V}{a:Act}(he:cr ρ S w e a){x:Operand}{y:cJ}(h:dp x=some y):VR ρ S w false (ev e y) (a.eval x):=by
 unfold dp at h;split at h
 ·simp only[aa]at h;subst h;exact he _
 ·simp only[aG]at h;obtain⟨v,hv,rfl⟩:=h;exact V.ic hv false
 ·cases h
 ·simp only[aa]at h;subst h;exact .func (fun _=>Go.undef) (fun _=>Go.undef) rfl rfl (by simp) (by simp) (by simp) (by simp)
theorem cells_one{u:Value}(h:u.oneCell'=true):u.cells= #[u]:=by cases u<;>first|rfl|cases h
section
variable{ρ:Place}{S:ae}{w:World}{b:Bool}{u:Value}
theorem VR.cL{k:IntKind}{n:Int}(h:VR ρ S w b (.int k n) u):u= .int k n:=by cases h;rfl
theorem VR.kz{x:Bool}(h:VR ρ S w b (.bool x) u):u= .bool x:=by cases h;rfl
theorem VR.kX{l:List UInt8}(h:VR ρ S w b (.str l) u):∃s:ByteArray,u= .string s∧s.data.toList=l∧s.size≤maxLen:=by
 cases h with|str h1 h2=>exact⟨_,rfl,h1,h2⟩
theorem VR.sO(h:VR ρ S w b .cq u):u=Go.undef:=by cases h;rfl
theorem VR.one{v:V}(h:VR ρ S w b v u)(hc:v.dK=true):u.oneCell'=true:=by
 cases h<;>first|rfl|(simp[V.dK]at hc;done)|assumption|(rename_i h1;obtain⟨_,_,rfl⟩:=h1;rfl)
theorem VR.cells{v:V}{vs:List V}(h:VR ρ S w b v u)(hc:v.cells?=some vs):
 u.cells.size=vs.length∧∀(j:Nat) (x:V),vs[j]?=some x→∃y,u.cells[j]?=some y∧VR ρ S w b x y∧y.oneCell'=true:=by
 by_cases ha:∃l,v= .agg l
 ·obtain⟨l,rfl⟩:=ha;simp only[V.cells?]at hc;split at hc
  ·rename_i fY;simp only[aa]at hc;subst hc;cases h with
   |agg c hl hc hv=>exact⟨hl,fun j x hx=>⟨c j,hc j x hx,hv j x hx,(hv j x hx).one (List.all_eq_true.1 fY x (aB hx))⟩⟩
  ·cases hc
 ·have eQ:v.dK=true∧vs=[v]:=by
   cases v<;>simp only[V.cells?,aa,reduceCtorEq]at hc<;>first|exact⟨rfl,hc.symm⟩|exact absurd ⟨_,rfl⟩ ha
  obtain⟨h1,rfl⟩:=eQ;have h2:=h.one h1;rw[cells_one h2];refine⟨rfl,fun j z hz=>?_⟩;cases j with
  |zero=>simp at hz;subst hz;exact⟨u,by simp,h,h2⟩
  |succ j=>simp at hz
end
mutual
def V.dH:V→Bool
 | .ptr .. =>false
 | .cU .. =>false
 | .eF .. =>false
 | .agg vs=>V.bQ vs
 | .dI vs=>V.bQ vs
 | .iface _ v=>v.dH
 | .func _ a b=>V.bQ a&&V.bQ b
 |_=>true
def V.bQ:List V→Bool
 |[]=>true
 |v::r=>v.dH&&V.bQ r
end
inductive XOp where
 |stuck
 |eqP (neg:Bool)
 |toU
 |frU (t:TypeId) (sz:Nat)
 |Tg
 |lk (kd:KD) (zero:V) (ok:Bool)
 |TX
 |Pz (l:List nZ) (neg:Bool)
 |sl3 (sz:Nat)
 |ent
 |s2b
 deriving Inhabited
inductive jD where
 |mv (x:cJ)
 |pick (c a b:cJ)
 |bin (op:BinOp) (x y:cJ)
 |Pw (neg:Bool) (x y:cJ)
 |not (x:cJ)
 |neg (x:cJ)
 |vP (x:cJ)
 |t_ (x:cJ)
 |qS (x i:cJ)
 |mM (sz:Nat) (x i:cJ)
 |pN (len sz:Nat) (x i:cJ)
 |CJ (len:Nat) (x i:cJ)
 |nu (off:Nat) (x:cJ)
 |ld1 (x:cJ)
 |D_ (n:Nat) (x:cJ)
 |KF (off:Nat) (x:cJ)
 |FK (off n:Nat) (x:cJ)
 |conv (k:IntKind) (x:cJ)
 |ext (i:Nat) (x:cJ)
 |build (zero:List V) (parts:List (Nat×Nat×cJ))
 |XS (sz:Nat) (zero:List V) (n:Nat) (parts:List (Nat×cJ))
 |K6 (x:cJ)
 |tY (f:FuncId) (first cap:List cJ)
 |Te (x:cJ) (lo hi:Option cJ)
 |w_ (sz:Nat) (x:cJ) (lo hi:Option cJ)
 |lJ (mn:Bool) (x y:cJ)
 |gX (x:cJ)
 |mkIf (t:TypeId) (x:cJ)
 |ZG (t:TypeId) (zero:V) (ok:Bool) (x:cJ)
 |isNil (k:Nat) (neg:Bool) (x:cJ)
 |QO (x:cJ)
 |xo (op:XOp) (l:List cJ)
 deriving Inhabited
def oa(op:BinOp)(k:IntKind)(a:Int)(k':IntKind)(b:Int):Option V:=
    if k=k' then
     match op with
     | .add=>some (.int k (k.wrap (a+b)))
     | .sub=>some (.int k (k.wrap (a-b)))
     | .mul=>some (.int k (k.wrap (a*b)))
     | .quo=>if b=0 then none else some (.int k (k.wrap (a.tdiv b)))
     | .rem=>if b=0 then none else some (.int k (a.tmod b))
     | .and=>some (.int k (k.wrap ((BitVec.ofInt k.bits a&&&BitVec.ofInt k.bits b).toNat)))
     | .or=>some (.int k (k.wrap ((BitVec.ofInt k.bits a|||BitVec.ofInt k.bits b).toNat)))
     | .xor=>some (.int k (k.wrap ((BitVec.ofInt k.bits a^^^BitVec.ofInt k.bits b).toNat)))
     | .andNot=>some (.int k (k.wrap ((BitVec.ofInt k.bits a&&& ~~~(BitVec.ofInt k.bits b)).toNat)))
     | .eql=>some (.bool (decide (a=b)))
     | .neq=>some (.bool (!decide (a=b)))
     | .lss=>some (.bool (decide (a<b)))
     | .leq=>some (.bool (decide (a≤b)))
     | .gtr=>some (.bool (decide (b<a)))
     | .geq=>some (.bool (decide (b≤a)))
     |_=>none
    else none
def jL(left:Bool)(k:IntKind)(a b:Int):Option V:=
 if 0≤b then some (.int k (if left then k.wrap (a*2^(min b.toNat k.bits))else a.fdiv (2^(min b.toNat k.bits))))else none
def dW(op:BinOp):V→V→Option V
 | .int k a,.int k' b=>
   match op with
   | .shl=>jL true k a b
   | .shr=>jL false k a b
   |_=>oa op k a k' b
 | .str a,.str b=>
   match op with
   | .add=>if a.length+b.length≤maxLen then some (.str (a++b))else none
   | .eql=>some (.bool (decide (a=b)))
   | .neq=>some (.bool (!decide (a=b)))
   | .lss=>some (.bool (Op.bytesLess a b))
   | .gtr=>some (.bool (!(Op.bytesLess a b||decide (a=b))))
   | .leq=>some (.bool (Op.bytesLess a b||decide (a=b)))
   | .geq=>some (.bool (!Op.bytesLess a b))
   |_=>none
 |_,_=>none
def ae.bq(S:ae)(id aI:Nat):Option (TypeId×Nat×List (List V)):=
 match S[id]? with
 |some ⟨v,some (.arr e sz rows)⟩=>if v=aI then some (e,sz,rows)else none
 |_=>none
def gU(cells:List V)(off:Nat)(vs:List V):List V:=cells.take off++vs++cells.drop (off+vs.length)
def jV(e:Nat→V)(cells:List V):List (Nat×Nat×cJ)→Option (List V)
 |[]=>some cells
 |(off,size,x)::rest=>
  match(ev e x).cells? with
  |some vs=>if vs.length=size∧off+size≤cells.length then jV e (gU cells off vs) rest else none
  |none=>none
def eJ(zero:List V)(n:Nat):List (List V):=List.replicate n zero
def j_(e:Nat→V)(sz:Nat)(rows:List (List V)):List (Nat×cJ)→Option (List (List V))
 |[]=>some rows
 |(i,x)::rest=>
  match(ev e x).cells? with
  |some vs=>if vs.length=sz∧i<rows.length then j_ e sz (rows.set i vs) rest else none
  |none=>none
def iy(e:Nat→V)(l:List cJ):List V:=l.map (ev e)
def bound(e:Nat→V)(d:Nat):Option cJ→Option Int
 |none=>some d
 |some x=>match ev e x with
  | .int _ n=>some n
  |_=>none
def ae.kp(S:ae)(id aI:Nat):Option (KD×List (V×V)×MX):=
 match S[id]? with
 |some ⟨v,some (.mp m)⟩=>if v=aI then some (m.kd,m.rows,m.x)else none
 |_=>none
def lZ(S:ae):Nat→V→Option Bool
 |0,.aM=>some true
 |0,.sl _ (_::_)=>some false
 |0,.cU id aI _ len=>if(S.bq id aI).isSome∧0<len then some false else none
 |1,.nilPtr=>some true
 |1,.bK _=>some false
 |1,.ptr id aI _ _=>if(S.bq id aI).isSome then some false else none
 |2,.nilIface=>some true
 |2,.iface _ _=>some false
 |3,.jN=>some true
 |3,.func _ _ _=>some false
 |4,.fp=>some true
 |4,.eF id aI=>match S.kp id aI with
  |some (_,_,x)=>if x.iw=false then some false else none
  |none=>none
 |_,_=>none
def lT:List (List V)→Option (List UInt8)
 |[]=>some []
 |[.int .u8 n]::r=>match lT r with
  |some l=>some (UInt8.ofNat n.toNat::l)
  |none=>none
 |_::_=>none
def Dq(neg:Bool)(x y:V)(S:ae):Option V:=
 match x,y with
 | .ptr id aI row off,.ptr Ks gS xd xi=>if id=Ks∧aI=gS∧row=xd∧off=xi∧(S.bq id aI).isSome=true then some (.bool (!neg))else if id≠Ks∧(S.bq id aI).isSome=true∧(S.bq Ks gS).isSome=true then some (.bool neg)else none
 |_,_=>none
def Jw(x:V)(S:ae):Option V:=
 match x with
 | .ptr id aI row off=>match S.bq id aI with
   |some (_,sz,rows)=>if row<rows.length∧off<sz then some (.ptr id aI row off)else none
   |none=>none
 |_=>none
def KE(t:TypeId)(sz:Nat)(x:V)(S:ae):Option V:=
 match x with
 | .ptr id aI row off=>match S.bq id aI with
   |some (t',kW,rows)=>if off=0∧t'=t∧kW=sz∧row<rows.length then some (.ptr id aI row 0)else none
   |none=>none
 |_=>none
def sP(x:V)(S:ae):Option V:=
 match x with
 | .aM=>some .nilPtr
 | .cU id aI off len=>if 0<len∧(S.bq id aI).isSome=true then some (.ptr id aI off 0)else none
 |_=>none
def wi:V→V→Bool
 | .int k a,.int k' b=>decide (k=k')&&decide (a=b)
 | .str a,.str b=>decide (a=b)
 |_,_=>false
def o4:List V→List V→Bool
 |[],[]=>true
 |a::l,b::m=>wi a b&&o4 l m
 |_,_=>false
def jX:V→V→Bool
 | .agg a,.agg b=>o4 a b
 |a,b=>wi a b
def gn(k:V):List (V×V)→Option V
 |[]=>none
 |p::r=>if jX k p.1 then some p.2 else gn k r
def kr(k v:V):List (V×V)→List (V×V)
 |[]=>[(k,v)]
 |p::r=>if jX k p.1 then(k,v)::r else p::kr k v r
def DB(k:V):List (V×V)→List (V×V)
 |[]=>[]
 |p::r=>if jX k p.1 then r else p::DB k r
def nT(zero:V)(ok:Bool)(o:Option V):V:=if ok then .dI [o.getD zero,.bool o.isSome]else o.getD zero
def Wq(kd:KD)(zero:V)(ok:Bool)(k:V)(o:Option (KD×List (V×V)×MX)):Option V:=
 match o with
 |some (oO,rows,x)=>if oO=kd∧jl kd k=true∧x.iw=false then some (nT zero ok (gn k rows))else none
 |none=>none
def Wp(kd:KD)(zero:V)(ok:Bool)(m k:V)(S:ae):Option V:=
 match m with
 | .fp=>if jl kd k=true then some (nT zero ok none)else none
 | .eF id aI=>Wq kd zero ok k (S.kp id aI)
 |_=>none
def tj:Option (KD×List (V×V)×MX)→Option V
 |some (_,rows,x)=>if x.iw=false then some (.int .i64 rows.length)else none
 |none=>none
def th(m:V)(S:ae):Option V:=
 match m with
 | .fp=>some (.int .i64 0)
 | .eF id aI=>tj (S.kp id aI)
 |_=>none
def y_(it:Nat)(p:V×V):Option (KD×List (V×V)×MX)→Option V
 |some (_,_,.held Ic)=>if Ic=it then some (.dI [p.1,p.2])else none
 |_=>none
def FQ(it:Nat)(S:ae):Option (KD×List (V×V)×MX)→Option V
 |some (_,_,.iter (some (id,aI)) (some p))=>y_ it p (S.kp id aI)
 |_=>none
def KK(m:V)(S:ae):Option V:=
 match m with
 | .eF it iO=>FQ it S (S.kp it iO)
 |_=>none
def Py(l:List nZ)(neg:Bool)(x y:V):Option V:=
 match x,y with
 | .agg a,.agg b=>if oQ l a=true∧oQ l b=true then some (.bool (if neg then !o4 a b else o4 a b))else none
 |_,_=>none
def Mj(sz:Nat)(x h m:V)(S:ae):Option V:=
 match x,h,m with
 | .aM,.int _ b,.int _ c=>if b=0∧c=0 then some .aM else none
 | .sl kW rows,.int _ b,.int _ c=>if kW=sz∧0≤b∧b≤c∧c≤rows.length then some (.sl sz (rows.take b.toNat))else none
 | .cU id aI off len,.int _ b,.int _ c=>if((S.bq id aI).map (·.2.1))=some sz∧0≤b∧b≤c∧c≤len then some (.cU id aI off b.toNat)else none
 |_,_,_=>none
def Ti:V→Option V
 | .str l=>some (.sl 1 (l.map fun b=>[V.int .u8 (b.toNat:Nat)]))
 |_=>none
def hU(op:XOp)(l:List V)(S:ae):Option V:=
 match op,l with
 | .eqP neg,[x,y]=>Dq neg x y S
 | .toU,[x]=>Jw x S
 | .frU t sz,[x]=>KE t sz x S
 | .Tg,[x]=>sP x S
 | .lk kd zero ok,[m,k]=>Wp kd zero ok m k S
 | .TX,[m]=>th m S
 | .Pz l neg,[x,y]=>Py l neg x y
 | .sl3 sz,[x,h,m]=>Mj sz x h m S
 | .ent,[m]=>KK m S
 | .s2b,[x]=>Ti x
 |_,_=>none
def cu(e:Nat→V)(S:ae):jD→Option V
 | .mv x=>some (ev e x)
 | .pick c a b=>match ev e c with
   | .bool t=>some (bif t then ev e a else ev e b)
   |_=>none
 | .bin op x y=>dW op (ev e x) (ev e y)
 | .Pw neg x y=>match ev e x,ev e y with
   | .bool a,.bool b=>some (.bool (if neg then !(a==b)else a==b))
   |_,_=>none
 | .not x=>match ev e x with
   | .bool a=>some (.bool (!a))
   |_=>none
 | .neg x=>match ev e x with
   | .int k n=>some (.int k (k.wrap (0-n)))
   |_=>none
 | .vP x=>match ev e x with
   | .str l=>some (.int .i64 l.length)
   |_=>none
 | .t_ x=>match ev e x with
   | .aM=>some (.int .i64 0)
   | .sl _ rows=>some (.int .i64 rows.length)
   | .cU _ _ _ len=>some (.int .i64 len)
   |_=>none
 | .qS x i=>match ev e x,ev e i with
   | .str l,.int _ n=>if 0≤n then(l[n.toNat]?).map fun b=>.int .u8 b.toNat else none
   |_,_=>none
 | .mM sz x i=>match ev e x,ev e i with
   | .sl kW rows,.int _ n=>if kW=sz∧0≤n then(rows[n.toNat]?).map .bK else none
   | .cU id aI off len,.int _ n=>if 0≤n∧n<len∧((S.bq id aI).map (·.2.1))=some sz then some (.ptr id aI (off+n.toNat) 0)else none
   |_,_=>none
 | .pN len sz x i=>match ev e x,ev e i with
   | .bK cells,.int _ n=>if 0≤n∧n<len then some (.bK (cells.drop (n.toNat*sz)))else none
   | .ptr id aI row o,.int _ n=>if 0≤n∧n<len∧(S.bq id aI).isSome then some (.ptr id aI row (o+n.toNat*sz))else none
   |_,_=>none
 | .CJ len x i=>match ev e x,ev e i with
   | .agg cells,.int _ n=>if 0≤n∧n<len then cells[n.toNat]? else none
   |_,_=>none
 | .nu off x=>match ev e x with
   | .bK cells=>some (.bK (cells.drop off))
   | .ptr id aI row o=>if(S.bq id aI).isSome then some (.ptr id aI row (o+off))else none
   |_=>none
 | .ld1 x=>match ev e x with
   | .bK cells=>cells.head?
   | .ptr id aI row o=>(S.bq id aI).bind fun(_,_,rows)=>(rows[row]?).bind fun r=>r[o]?
   |_=>none
 | .D_ n x=>match ev e x with
   | .bK cells=>if n≤cells.length then some (.agg (cells.take n))else none
   | .ptr id aI row o=>(S.bq id aI).bind fun(_,_,rows)=>(rows[row]?).bind fun r=>if o+n≤r.length then some (.agg ((r.drop o).take n))else none
   |_=>none
 | .KF off x=>match ev e x with
   | .agg cells=>cells[off]?
   |_=>none
 | .FK off n x=>match ev e x with
   | .agg cells=>if off+n≤cells.length then some (.agg ((cells.drop off).take n))else none
   |_=>none
 | .conv k x=>match ev e x with
   | .int _ n=>some (.int k (k.wrap n))
   |_=>none
 | .ext i x=>match ev e x with
   | .dI vs=>vs[i]?
   |_=>none
 | .build zero parts=>(jV e zero parts).map .agg
 | .K6 x=>match(ev e x).cells? with
   |some vs=>if V.bQ vs then some (.bK vs)else none
   |none=>none
 | .tY f first cap=>some (.func f (iy e first) (iy e cap))
 | .Te x lo hi=>match ev e x with
   | .str l=>match bound e 0 lo,bound e l.length hi with
     |some a,some b=>if 0≤a∧a≤b∧b≤l.length then some (.str ((l.drop a.toNat).take (b.toNat-a.toNat)))else none
     |_,_=>none
   |_=>none
 | .w_ sz x lo hi=>match ev e x with
   | .aM=>match bound e 0 lo,bound e 0 hi with
     |some a,some b=>if a=0∧b=0 then some .aM else none
     |_,_=>none
   | .sl kW rows=>match bound e 0 lo,bound e rows.length hi with
     |some a,some b=>if kW=sz∧0≤a∧a≤b∧b≤rows.length then some (.sl sz ((rows.drop a.toNat).take (b.toNat-a.toNat)))else none
     |_,_=>none
   | .cU id aI off len=>match bound e 0 lo,bound e len hi with
     |some a,some b=>if((S.bq id aI).map (·.2.1))=some sz∧0≤a∧a≤b∧b≤len then some (.cU id aI (off+a.toNat) (b.toNat-a.toNat))else none
     |_,_=>none
   |_=>none
 | .XS sz zero n parts=>match j_ e sz (eJ zero n) parts with
   |some rows=>if(rows.all V.bQ)then some (.sl sz rows)else none
   |none=>none
 | .lJ mn x y=>match ev e x,ev e y with
   | .int k a,.int _ b=>some (.int k (if mn then(if b<a then b else a)else(if b>a then b else a)))
   |_,_=>none
 | .gX x=>match ev e x with
   | .ptr id aI row o=>if(S.bq id aI).isSome then some (.ptr id aI row o)else none
   | .bK l=>some (.bK l)
   | .func f a b=>some (.func f a b)
   | .iface t v=>some (.iface t v)
   |_=>none
 | .mkIf t x=>some (.iface t (ev e x))
 | .ZG t zero ok x=>match ev e x with
   | .iface t' v=>if t'=t then some (if ok then .dI [v,.bool true]else v)else if ok then some (.dI [zero,.bool false])else none
   | .nilIface=>if ok then some (.dI [zero,.bool false])else none
   |_=>none
 | .isNil k neg x=>match lZ S k (ev e x)with
   |some b=>some (.bool (if neg then !b else b))
   |none=>none
 | .QO x=>match ev e x with
   | .aM=>some (.str [])
   | .sl sz rows=>if sz=1 then(lT rows).map .str else none
   | .cU id aI off len=>(S.bq id aI).bind fun(_,sz,rows)=>if sz=1 then(lT ((rows.drop off).take len)).map .str else none
   |_=>none
 | .xo op l=>hU op (iy e l) S
end Go.AL
