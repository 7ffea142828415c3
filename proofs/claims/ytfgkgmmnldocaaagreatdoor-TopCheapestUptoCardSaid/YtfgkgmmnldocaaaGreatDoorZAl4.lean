/- Al4 -/
import Derived.Test.YtfgkgmmnldocaaaGreatDoorZAl3
import Derived.Laws.BytesArg
import Derived.MapKept
import Derived.Laws.StructEq
set_option linter.unusedSectionVars false
set_option linter.unusedSimpArgs false
set_option linter.unusedVariables false
namespace Go.AL
variable[Mode]
theorem V.eZ:∀{vs:List V},V.bQ vs=true→∀(j:Nat) (v:V),vs[j]?=some v→v.dH=true
 |[],_,j,v,h=>by simp at h
 |x::r,h,j,v,hj=>by
  simp only[V.bQ,aW]at h;cases j with
  |zero=>simp at hj;subst hj;exact h.1
  |succ j=>simp at hj;exact V.eZ h.2 j v hj
theorem VR.uX{ρ:Place}{S:ae}{w:World}{b:Bool}{v:V}{u:Value}(h:VR ρ S w b v u):v.dH=true→∀b',VR ρ S w b' v u:=by
 induction h with
 |undef=>exact fun _ _=>.undef
 |cq=>exact fun _ _=>.cq
 |int=>exact fun _ _=>.int
 |bool=>exact fun _ _=>.bool
 |str h1 h2=>exact fun _ _=>.str h1 h2
 |aM=>exact fun _ _=>.aM
 |gC=>exact fun _ _=>.gC
 |sl c hu hlen ki jS hG hc hv h1 ih=>exact fun _ _=>.sl c hu hlen ki jS hG hc hv h1
 |cU=>intro h;cases h
 |nilPtr=>exact fun _ _=>.nilPtr
 |bK c hu hc hv h1 ih=>exact fun _ _=>.bK c hu hc hv h1
 |ptr=>intro h;cases h
 |func c d hl hm hc hv hd hw T8 Ea=>
  intro h b';simp only[V.dH,aW]at h;exact .func c d hl hm hc (fun j v hj=>T8 j v hj (V.eZ h.1 j v hj) b') hd (fun j v hj=>Ea j v hj (V.eZ h.2 j v hj) b')
 |jN=>exact fun _ _=>.jN
 |iface h ih=>exact fun h b'=>.iface (ih h b')
 |nilIface=>exact fun _ _=>.nilIface
 |agg c hl hc hv ih=>exact fun h b'=>.agg c hl hc fun j v hj=>ih j v hj (V.eZ h j v hj) b'
 |dI c hl hc hv ih=>exact fun h b'=>.dI c hl hc fun j v hj=>ih j v hj (V.eZ h j v hj) b'
 |fp=>exact fun _ _=>.fp
 |eF=>intro hm;simp[V.dH]at hm
section
variable{P:Program}{o:Oper}{a:Act}{ρ:Place}{S:ae}{w:World}{e:Nat→V}{v:V}
theorem EJ{x:Operand}{t:TypeId}{x':cJ}{vs:List V}(ho:o.op= .box t x)(he:cr ρ S w e a)(hi:Inv ρ S w)(hx:dp x=some x')(hc:(ev e x').cells?=some vs)(hm:V.bQ vs=true):Yields P o a ρ S w (.bK vs):=by
 have h1:=bw he hx;obtain⟨hs,hg⟩:=h1.cells hc;have hex:=Ext.alloc ρ S w (.cells (a.eval x).cells t);refine⟨.pointer (some ⟨w.heap.size,0,none⟩),w.alloc (.cells (a.eval x).cells t),by simp[execOp,ho,Instr.box,newVar,newRow],?_,hex,hi.alloc _⟩;refine .bK (fun j=>((a.eval x).cells[j]?).getD Go.undef) (eo.new hi _) (fun j y hj=>?_) (fun j y hj=>?_) (fun j y hj=>?_)
 ·obtain⟨u,hu,_⟩:=hg j y hj;rw[World.cell?_alloc_new,dv,hu];rfl
 ·obtain⟨u,hu,hr,_⟩:=hg j y hj;simp only[hu,bL];exact(hr.ext hex).uX (V.eZ hm j y hj) true
 ·obtain⟨u,hu,_,h1⟩:=hg j y hj;simp only[hu,bL];exact h1
def CR(ρ:Place)(S:ae)(w:World)(vs:List V)(us:Array Value):Prop:=us.size=vs.length∧∀(j:Nat) (y:V),vs[j]?=some y→∃x,us[j]?=some x∧VR ρ S w false y x∧x.oneCell'=true
theorem yZ(cs:Array Value):∀(l:List Value) (off k:Nat) (us:Array Value),cs=us→off+k+l.length≤us.size→
 ((l.zipIdx k).foldl (fun cs (p:Value×Nat)=>cs.setIfInBounds (off+p.2) p.1) us).size=us.size∧
 ∀j,((l.zipIdx k).foldl (fun cs (p:Value×Nat)=>cs.setIfInBounds (off+p.2) p.1) us)[j]?=if off+k≤j∧j<off+k+l.length then l[j-(off+k)]? else us[j]?:=by
 intro l;induction l generalizing cs with
 |nil=>
  intro off k us _ _;refine⟨by simp,fun j=>?_⟩;rw[aC (by simp)];simp
 |cons x l ih=>
  intro off k us _ hle;simp only[a_]at hle;simp only[List.zipIdx_cons,List.foldl_cons];obtain⟨h1,h2⟩:=ih _ off (k+1) (us.setIfInBounds (off+k) x) rfl (by simp;omega);refine⟨by rw[h1];simp,fun j=>?_⟩;rw[h2 j];by_cases hj:off+k=j
  ·subst hj;rw[aC (by omega),aK (by have hlc:(x::l).length=l.length+1:=rfl;omega)];rw[iT];simp[show off+k<us.size by omega]
  ·by_cases hr:off+(k+1)≤j∧j<off+(k+1)+l.length
   ·rw[aK hr,aK (by have hlc:(x::l).length=l.length+1:=rfl;omega)];have:j-(off+k)=(j-(off+(k+1)))+1:=by omega
    rw[this];simp
   ·rw[aC hr,aC (by have hlc:(x::l).length=l.length+1:=rfl;omega),Array.getElem?_setIfInBounds_ne hj]
theorem CR.gU{vs ws:List V}{us xs:Array Value}{off:Nat}(h:CR ρ S w vs us)(k:CR ρ S w ws xs)(hle:off+ws.length≤vs.length):
 CR ρ S w (gU vs off ws) (xs.zipIdx.foldl (fun cs (p:Value×Nat)=>cs.setIfInBounds (off+p.2) p.1) us):=by
 have hx:xs.zipIdx.foldl (fun cs (p:Value×Nat)=>cs.setIfInBounds (off+p.2) p.1) us=(xs.toList.zipIdx 0).foldl (fun cs (p:Value×Nat)=>cs.setIfInBounds (off+p.2) p.1) us:=by
  rw[←Array.foldl_toList,Array.toList_zipIdx]
 obtain⟨h1,h2⟩:=yZ us xs.toList off 0 us rfl (by rw[bP,k.1,h.1];omega);rw[hx];refine⟨by rw[h1,h.1];simp[AL.gU];omega,fun j y hj=>?_⟩;rw[h2 j,bP,k.1];have hlen:(vs.take off++ws).length=off+ws.length:=by simp;omega
 simp only[AL.gU]at hj;by_cases hc:off+0≤j∧j<off+0+ws.length
 ·rw[aK hc];rw[aF (by omega),aD (by simp;omega)]at hj;simp only[bV]at hj;have:j-min off vs.length=j-(off+0):=by omega
  rw[this]at hj;obtain⟨x,h3,h4⟩:=k.2 _ y hj;exact⟨x,by simpa using h3,h4⟩
 ·rw[aC hc];by_cases hj2:j<off
  ·rw[aF (by omega),aF (by simp;omega),bC,aK hj2]at hj;exact h.2 j y hj
  ·rw[aD (by omega),hlen,List.getElem?_drop]at hj;have:off+ws.length+(j-(off+ws.length))=j:=by omega
   rw[this]at hj;exact h.2 j y hj
theorem VR.uY{v:V}{u:Value}{vs:List V}(h:VR ρ S w false v u)(hc:v.cells?=some vs):CR ρ S w vs u.cells:=h.cells hc
def Hz(P:Program)(fields:Array Field)(place:Nat→Option (Nat×Nat)):Prop:=∀i f n,fields[i]?=some f→er P f.type=some n→place i=some (f.offset,n)
theorem FO{fields:Array Field}{place:Nat→Option (Nat×Nat)}(hp:Hz P fields place)(he:cr ρ S w e a):∀(parts:List (Nat×Operand)) (ps:List (Nat×Nat×cJ)) (vs ws:List V) (us:Array Value),
 r6 P fields parts=some ps→jV e vs ps=some ws→CR ρ S w vs us→∃xs,Instr.fill place us (parts.map fun p=>(p.1,a.eval p.2))=some xs∧CR ρ S w ws xs:=by
 intro parts;induction parts with
 |nil=>
  intro ps vs ws us h1 h2 h3;simp only[r6,aa]at h1;subst h1;simp only[jV,aa]at h2;subst h2;exact⟨us,rfl,h3⟩
 |cons p parts ih=>
  intro ps vs ws us h1 h2 h3;obtain⟨i,x⟩:=p;simp only[r6]at h1;split at h1
  ·rename_i f y ys hf hy T9;split at h1
   ·rename_i n hn;simp only[aa]at h1;subst h1;simp only[jV]at h2;split at h2
    ·rename_i cs l8;split at h2
     ·rename_i hle;have hv:=(bw he hy).uY l8;obtain⟨xs,hx,hr⟩:=ih _ _ _ _ T9 h2 (h3.gU hv (by omega));refine⟨xs,?_,hr⟩;simp only[bd,Instr.fill,hp i f n hf hn];rw[aC]
      ·exact hx
      ·have h4:=hv.1;have h5:=h3.1;simp only[dR,aL,not_or,ne_eq,Decidable.not_not];omega
     ·cases h2
    ·cases h2
   ·cases h1
  ·cases h1
theorem kc{t:TypeId}{n:Nat}(h:er P t=some n)(w:World):(sizeOf t).run P w= .ok n w:=by
 obtain⟨i,hi,hs⟩:=iB h;simp[sizeOf,typeInfo,hi,hs]
theorem EV:∀(l:List Field) (w:World),(∀f∈l,(er P f.type).isSome=true)→(l.mapM (m:=Sem) fun f=>do pure (f.offset,←sizeOf f.type)).run P w= .ok (l.map fun f=>(f.offset,(er P f.type).getD 0)) w:=by
 intro l;induction l with
 |nil=>intro w _;rfl
 |cons f l ih=>
  intro w h;obtain⟨n,hn⟩:=Option.isSome_iff_exists.1 (h f (by simp));have:=ih w (fun g hg=>h g (by simp[hg]));simp only[List.mapM_cons,Sem.run_bind,kc hn,Result.andThen_ok,Sem.run_pure,this,bd,hn,bL]
theorem BF{t:TypeId}{parts:Array (Nat×Operand)}{fields:Array Field}{i:TypeInfo}{z:Value}{vs ws:List V}{ps:List (Nat×Nat×cJ)}(ho:o.op= .build t parts)(ht:P.underlying t=some (.struct fields))(pO:P.info? t=some i)(hz:i.zero=some z)
 (hv:V.j9 z=some (.agg vs))(hcz:(V.agg vs).cells?=some vs)(hp:r6 P fields parts.toList=some ps)(fY:fields.all (fun f=>(er P f.type).isSome)=true)(he:cr ρ S w e a)(hi:Inv ρ S w)(h:jV e vs ps=some ws):Yields P o a ρ S w (.agg ws):=by
 have h0:=(V.ic (ρ:=ρ) (S:=S) (w:=w) hv false).uY hcz;have pV:=EV (P:=P) fields.toList w (fun f hf=>by rw[Array.all_eq_true_iff_forall_mem]at fY;exact fY f (Array.mem_toList_iff.1 hf));have eQ:Hz P fields (fun i=>((fields.toList.map fun f=>(f.offset,(er P f.type).getD 0)).toArray)[i]?):=by
  intro i f n hf hn;simp[hf,hn]
 obtain⟨xs,hx,hr⟩:=FO eQ he _ _ _ _ _ hp h h0;refine Yields.same hi (u:=.agg xs) ?_ (.DX hr.1 fun j y hj=>let⟨x,h1,h2,_⟩:=hr.2 j y hj;⟨x,h1,h2⟩);have hm:(fields.mapM (m:=Sem) fun f=>do pure (f.offset,←sizeOf f.type)).run P w= .ok ((fields.toList.map fun f=>(f.offset,(er P f.type).getD 0)).toArray) w:=by
  rw[Array.mapM_eq_mapM_toList];simp only[Sem.run_map,pV,Result.andThen_ok]
 have su:Instr.fill (fun i=>((fields.toList.map fun f=>(f.offset,(er P f.type).getD 0)).toArray)[i]?) z.cells (parts.map fun x=>(x.fst,a.eval x.snd)).toList=some xs:=by
  rw[←hx];simp
 simp only[execOp,ho,Sem.run_bind,Instr.build,zeroValue,typeInfo,run_program,Result.andThen_ok,pO,hz,Sem.run_pure,run_underlying ht,hm,su]
theorem qH{x:Option Operand}{y:Option cJ}(he:cr ρ S w e a)(h:r7 x=some y){d:Nat}{n:Int}(hb:bound e d y=some n):(x=none∧n=d)∨∃z k,x=some z∧a.eval z= .int k n:=by
 cases x with
 |none=>
  simp only[r7,aa]at h;subst h;simp only[bound,aa]at hb;exact .inl ⟨rfl,hb.symm⟩
 |some z=>
  simp only[r7,aG]at h;obtain⟨q,hq,rfl⟩:=h;simp only[bound]at hb;split at hb
  ·rename_i k m hm;simp only[aa]at hb;subst hb;have:=bw he hq;rw[hm]at this;exact .inr ⟨z,k,rfl,this.cL⟩
  ·cases hb
theorem wP{isS:Bool}{len cap:Nat}{lo hi:Option Operand}{b c:Int}(hl:(lo=none∧b=(0:Nat))∨∃z k,lo=some z∧a.eval z= .int k b)(hh:(hi=none∧c=len)∨∃z k,hi=some z∧a.eval z= .int k c)
 (h0:0≤b)(h1:b≤c)(h2:c≤cap)(w:World):(Instr.sliceBounds isS len cap (lo.map a.eval) (hi.map a.eval) none).run P w= .ok (b.toNat,c.toNat,cap) w:=by
 have e2:((c.toNat:Nat):Int)=c:=Int.toNat_of_nonneg (by omega);rcases hl with⟨rfl,rfl⟩|⟨z,k,rfl,hz⟩<;>rcases hh with⟨rfl,rfl⟩|⟨z',k',rfl,hz'⟩
 ·simp[Instr.sliceBounds]
 ·simp[Instr.sliceBounds,hz',run_sliceBound w k' c cap _ (by omega) h2]
 ·simp only[Instr.sliceBounds,qw,bU,hz,Sem.run_bind,Sem.run_pure,Result.andThen_ok,cg];rw[run_sliceBound w k b _ _ h0 (by omega)];simp
 ·simp only[Instr.sliceBounds,bU,hz,hz',Sem.run_bind,Sem.run_pure,Result.andThen_ok,cg];rw[run_sliceBound w k' c cap _ (by omega) h2];simp only[Result.andThen_ok];rw[run_sliceBound w k b _ _ h0 (by omega)];simp
theorem JD{x:Operand}{t:TypeId}{lo hi:Option Operand}{x':cJ}{lo' fH:Option cJ}(ho:o.op= .slice t x lo hi none)(ht:P.underlying t=some .string)(he:cr ρ S w e a)(C0:Inv ρ S w)
 (hx:dp x=some x')(hl:r7 lo=some lo')(hh:r7 hi=some fH)(h:cu e S (.Te x' lo' fH)=some v):Yields P o a ρ S w v:=by
 have h1:=bw he hx;simp only[cu]at h;split at h
 ·rename_i l CT;rw[CT]at h1;obtain⟨s,hs,Fo,hm⟩:=h1.kX;have hG:s.size=l.length:=by rw[←Fo,bP];rfl
  split at h
  ·rename_i b c hb hc;split at h
   ·rename_i q8;simp only[aa]at h;subst h;obtain⟨c1,c2,c3⟩:=q8;have ee:=wP (P:=P) (a:=a) (isS:=false) (len:=s.size) (cap:=s.size) (qH he hl hb) (by rw[hG];exact qH he hh hc) c1 c2 (by omega) w;refine Yields.same C0 (u:=.string (s.extract b.toNat c.toNat)) ?_ (.str ?_ ?_)
    ·simp[execOp,ho,hs,Instr.sliceAt,Instr.slice,run_underlying ht,ee]
    ·rw[ByteArray.data_extract,Array.toList_extract,Fo]
    ·have:(s.extract b.toNat c.toNat).size≤s.size:=by simp only[ByteArray.size_extract];omega
     omega
   ·cases h
  ·cases h
 ·cases h
theorem JE{x:Operand}{t q:TypeId}{n:Nat}{lo hi:Option Operand}{x':cJ}{lo' fH:Option cJ}(ho:o.op= .slice t x lo hi none)(ht:P.underlying t=some (.slice q))(hz:er P q=some n)(he:cr ρ S w e a)(C0:Inv ρ S w)
 (hx:dp x=some x')(hl:r7 lo=some lo')(hh:r7 hi=some fH)(h:cu e S (.w_ n x' lo' fH)=some v):Yields P o a ρ S w v:=by
 have h1:=bw he hx;have run:∀p len cap (b c:Int),a.eval x= .slice p len cap→bound e 0 lo'=some b→bound e len fH=some c→0≤b→b≤c→c≤cap→
  (execOp a.eval o).run P w= .ok (.value (.slice (if cap=b.toNat then p else p.map (·.add (b.toNat*n))) (c.toNat-b.toNat) (cap-b.toNat))) w:=by
  intro p len cap b c hp hb hc h0 h1 h2;have ee:=wP (P:=P) (a:=a) (isS:=true) (len:=len) (cap:=cap) (qH he hl hb) (qH he hh hc) h0 h1 h2 w;simp[execOp,ho,hp,Instr.sliceAt,Instr.slice,run_underlying ht,ee,kc hz]
 simp only[cu]at h;split at h
 ·rename_i CT;rw[CT]at h1;have h2:a.eval x= .slice none 0 0:=by generalize a.eval x=u at h1;cases h1;rfl
  split at h
  ·rename_i b c hb hc;split at h
   ·rename_i q8;obtain⟨rfl,rfl⟩:=q8;simp only[aa]at h;subst h;exact Yields.same C0 (by simpa using run none 0 0 0 0 h2 hb hc (by omega) (by omega) (by omega)) .aM
   ·cases h
  ·cases h
 ·rename_i kW rows CT;rw[CT]at h1;split at h
  ·rename_i b c hb hc;split at h
   ·rename_i q8;obtain⟨rfl,h3,h4,h5⟩:=q8;simp only[aa]at h;subst h;generalize hu:a.eval x=u at h1;cases h1 with
    | @gC _ _ pp=>
      have hr:=run pp 0 0 b c hu hb hc h3 h4 (by simpa using h5);have lR:b.toNat=0:=by simp at h5;omega
      have Ar:c.toNat=0:=by simp at h5;omega
      rw[lR,Ar]at hr⊢;exact Yields.same C0 (by simpa using hr) (by simpa using VR.gC)
    | @sl _ _ _ g off len cap cf kP hlen ki jS Ua Be hv Uy=>
      have hr:=run (some ⟨g,off,none⟩) len cap b c hu hb (by rw[hlen];exact hc) h3 h4 (by omega);have gM:∀(i:Nat) (r:List V),((rows.drop b.toNat).take (c.toNat-b.toNat))[i]?=some r→rows[b.toNat+i]?=some r:=by
       intro i r fv;rw[bC]at fv;split at fv
       ·simpa using fv
       ·cases fv
      by_cases hq:cap=b.toNat
      ·rw[aK hq]at hr;refine Yields.same C0 hr ?_;have:c.toNat-b.toNat=0:=by omega
       rw[this,ff];exact .sl (fun _ _=>Go.undef) kP rfl (az _) (by omega) (by simp) (by simp) (by simp) (by simp)
      ·rw[aC hq]at hr;simp only[bU,Addr.add_lit]at hr;refine Yields.same C0 hr (.sl (fun i j=>cf (b.toNat+i) j) kP ?_ (by omega) (by omega) (fun i r fv=>Ua _ r (gM i r fv)) (fun i r fv j y hj=>?_) (fun i r fv j y hj=>hv _ r (gM i r fv) j y hj) (fun i r fv j y hj=>Uy _ r (gM i r fv) j y hj))
       ·simp;omega
       ·rw[←Be _ r (gM i r fv) j y hj]
        congr 2
        rw[eM];omega
   ·cases h
  ·cases h
 ·rename_i id aI off len CT;rw[CT]at h1;split at h
  ·rename_i b c hb hc;split at h
   ·rename_i q8;obtain⟨hs,h3,h4,h5⟩:=q8;simp only[aa]at h;subst h;simp only[aG]at hs;obtain⟨⟨t',sz,rows⟩,hs,CV⟩:=hs;simp only at CV;subst CV;obtain⟨hle,hk⟩:=h1.gY hs;have cK:id<S.length:=by cases h1;assumption
    have qU:∀(o:Obj),S[id]?=some o→aI≤o.aI:=by cases h1;assumption
    have fin:∀u,(execOp a.eval o).run P w= .ok (.value u) w→u.oneCell'=true→((ρ id=none∧u= .slice none 0 0∧c.toNat-b.toNat=0∧off+b.toNat=0)∨(∃g db cap,ρ id=some (g,db)∧u= .slice (some ⟨g,(off+b.toNat)*sz,none⟩) (c.toNat-b.toNat) cap∧off+b.toNat+(c.toNat-b.toNat)≤db∧c.toNat-b.toNat≤cap∧off+b.toNat+cap≤db)∨(0<off+b.toNat∧c.toNat-b.toNat=0∧∃p,u= .slice (some p) 0 0))→
     Yields P o a ρ S w (.cU id aI (off+b.toNat) (c.toNat-b.toNat)):=by
     intro u ee h6 h7;refine Yields.same C0 ee (.cU cK qU (fun e' sz2 iU mT=>?_) (by
      rcases h7 with⟨_,k2,k3,_⟩|⟨g,db,_,_,k2,_⟩|⟨_,k3,p,k2⟩
      ·exact⟨none,0,by rw[k2,k3]⟩
      ·exact⟨_,_,k2⟩
      ·exact⟨_,_,by rw[k2,k3]⟩))
     rw[df hs]at mT;simp only[aa,Obj.mk.injEq,eR.arr.injEq,eG]at mT;obtain⟨_,rfl,rfl⟩:=mT;exact⟨by omega,h7⟩
    rcases hk with⟨OL,hu,lQ,ho0⟩|⟨g,db,cap,hg,hu,Am,hlc,Lq⟩|⟨ad4,lQ,p,hu⟩
    ·have hr:=run none 0 0 b c hu hb (by rw[←lQ];exact hc) h3 h4 (by omega);refine fin _ hr rfl (.inl ⟨OL,?_,by omega,by omega⟩);have lR:b.toNat=0:=by omega
     have Ar:c.toNat=0:=by omega
     rw[lR,Ar];simp
    ·have hr:=run _ len _ b c hu hb hc h3 h4 (by omega);by_cases hq:cap=b.toNat
     ·rw[aK hq]at hr;by_cases CQ:off+b.toNat=0
      ·refine fin _ hr rfl (.inr (.inl ⟨g,db,cap-b.toNat,hg,?_,by omega,by omega,by omega⟩));have ho0:off=0:=by omega
       have lR:b.toNat=0:=by omega
       rw[ho0,lR]
      ·refine fin _ hr rfl (.inr (.inr ⟨by omega,by omega,⟨g,off*sz,none⟩,?_⟩))
       congr 1<;>omega
     ·rw[aC hq]at hr;simp only[bU,Addr.add_lit]at hr;refine fin _ hr rfl (.inr (.inl ⟨g,db,cap-b.toNat,hg,?_,by omega,by omega,by omega⟩));rw[eM]
    ·have hr:=run (some p) 0 0 b c hu hb (by rw[←lQ];exact hc) h3 h4 (by omega);have lR:b.toNat=0:=by omega
     have Ar:c.toNat=0:=by omega
     rw[lR,Ar]at hr;refine fin _ hr rfl (.inr (.inr ⟨by omega,by omega,?_⟩));simp
   ·cases h
  ·cases h
 ·cases h
def RR(ρ:Place)(S:ae)(w:World)(sz:Nat)(rows:List (List V))(us:Array Value):Prop:=
 us.size=rows.length*sz∧(∀(i:Nat) (r:List V),rows[i]?=some r→r.length=sz)∧
 ∀(i:Nat) (r:List V),rows[i]?=some r→∀(j:Nat) (y:V),r[j]?=some y→∃x,us[i*sz+j]?=some x∧VR ρ S w false y x∧x.oneCell'=true
theorem zT{i j sz n:Nat}(hi:i<n)(hj:j<sz):i*sz+j<n*sz:=by
 have h:=dA sz (show i+1≤n from hi);rw[eM,Nat.one_mul]at h;omega
theorem MV{i k j m sz:Nat}(hj:j<sz)(hm:m<sz)(h:i*sz+j=k*sz+m):i=k∧j=m:=by
 rcases Nat.lt_trichotomy i k with h'|h'|h'
 ·have:=dA sz (show i+1≤k from h');rw[eM,Nat.one_mul]at this;omega
 ·subst h';exact⟨rfl,by omega⟩
 ·have:=dA sz (show k+1≤i from h');rw[eM,Nat.one_mul]at this;omega
theorem RR.set{sz i:Nat}{rows:List (List V)}{us xs:Array Value}{ws:List V}(h:RR ρ S w sz rows us)(k:CR ρ S w ws xs)(hw:ws.length=sz)(hi:i<rows.length):
 RR ρ S w sz (rows.set i ws) (xs.zipIdx.foldl (fun cs (p:Value×Nat)=>cs.setIfInBounds (i*sz+p.2) p.1) us):=by
 have hx:xs.zipIdx.foldl (fun cs (p:Value×Nat)=>cs.setIfInBounds (i*sz+p.2) p.1) us=(xs.toList.zipIdx 0).foldl (fun cs (p:Value×Nat)=>cs.setIfInBounds (i*sz+p.2) p.1) us:=by
  rw[←Array.foldl_toList,Array.toList_zipIdx]
 have hle:(i+1)*sz≤rows.length*sz:=dA sz hi;rw[eM,Nat.one_mul]at hle;obtain⟨h1,h2⟩:=yZ us xs.toList (i*sz) 0 us rfl (by rw[bP,k.1,h.1];omega);rw[hx];refine⟨by rw[h1,h.1];simp,fun m r hr=>?_,fun m r hr j y hj=>?_⟩
 ·rw[iK]at hr;split at hr
  ·simp only[aa]at hr;rw[←hr];exact hw
  ·exact h.2.1 m r hr
 ·rw[h2,bP,k.1,hw];rw[iK]at hr;split at hr
  ·rename_i qu;simp only[aa]at hr;subst hr qu;have oV:j<sz:=by rw[←hw];exact(List.getElem?_eq_some_iff.1 hj).1
   rw[aK (by omega)];obtain⟨x,h3,h4⟩:=k.2 j y hj;refine⟨x,?_,h4⟩;have:i*sz+j-(i*sz+0)=j:=by omega
   rw[this];simpa using h3
  ·rename_i qu;have oV:j<sz:=by rw[←h.2.1 m r hr];exact(List.getElem?_eq_some_iff.1 hj).1
   rw[aC]
   ·exact h.2.2 m r hr j y hj
   ·rintro⟨a1,a2⟩;have:m*sz+j=i*sz+(m*sz+j-i*sz):=by omega
    have:=MV oV (by omega) this;omega
theorem RR.zero{sz n:Nat}{zero:List V}{z:Value}(hz:CR ρ S w zero z.cells)(hl:zero.length=sz):RR ρ S w sz (eJ zero n) ((Array.range (n*sz)).map fun x=>z.cells[x%z.cells.size]!):=by
 refine⟨by simp[eJ],fun i r hr=>?_,fun i r hr j y hj=>?_⟩
 ·simp only[eJ,rO]at hr;split at hr
  ·simp only[aa]at hr;rw[←hr];exact hl
  ·cases hr
 ·simp only[eJ,rO]at hr;split at hr
  ·rename_i hi;simp only[aa]at hr;subst hr;have oV:j<sz:=by rw[←hl];exact(List.getElem?_eq_some_iff.1 hj).1
   obtain⟨x,h3,h4⟩:=hz.2 j y hj;have l8:z.cells.size=sz:=by rw[hz.1,hl]
   refine⟨x,?_,h4⟩;have aR:=zT (sz:=sz) hi oV;have hm:(i*sz+j)%sz=j:=by rw[Nat.mul_add_mod_self_right,Nat.mod_eq_of_lt oV]
   have hb:j<z.cells.size:=by omega
   simp only[Array.getElem?_map,Array.getElem?_range,aR,aQ,bU,l8,hm];rw[getElem!_pos z.cells j hb];rw[gR hb]at h3;simpa using h3
  ·cases hr
theorem KG{sz:Nat}(he:cr ρ S w e a):∀(parts:List (Nat×Operand)) (ps:List (Nat×cJ)) (rows bT:List (List V)) (us:Array Value),
 oI parts=some ps→j_ e sz rows ps=some bT→RR ρ S w sz rows us→
 ∃xs,Instr.fill (fun i=>some (i*sz,sz)) us (parts.map fun p=>(p.1,a.eval p.2))=some xs∧RR ρ S w sz bT xs∧bT.length=rows.length:=by
 intro parts;induction parts with
 |nil=>
  intro ps rows bT us h1 h2 h3;simp only[oI,aa]at h1;subst h1;simp only[j_,aa]at h2;subst h2;exact⟨us,rfl,h3,rfl⟩
 |cons p parts ih=>
  intro ps rows bT us h1 h2 h3;obtain⟨i,x⟩:=p;simp only[oI]at h1;split at h1
  ·rename_i y ys hy T9;simp only[aa]at h1;subst h1;simp only[j_]at h2;split at h2
   ·rename_i cs l8;split at h2
    ·rename_i hle;have hv:=(bw he hy).uY l8;obtain⟨xs,hx,hr,hlen⟩:=ih _ _ _ _ T9 h2 (h3.set hv hle.1 hle.2);refine⟨xs,?_,hr,by rw[hlen];simp⟩;simp only[bd,Instr.fill];rw[aC]
     ·exact hx
     ·have h4:=hv.1;have h5:=h3.1;have aiw:(i+1)*sz≤rows.length*sz:=dA sz hle.2;rw[eM,Nat.one_mul]at aiw;simp only[dR,aL,not_or,ne_eq,Decidable.not_not];omega
    ·cases h2
   ·cases h2
  ·cases h1
theorem Hn{t q:TypeId}{n sz:Nat}{parts:Array (Nat×Operand)}{ps:List (Nat×cJ)}{i:TypeInfo}{z:Value}{zero:List V}{rows:List (List V)}(ho:o.op= .buildSlice t n parts)(ht:P.underlying t=some (.slice q))(pO:P.info? q=some i)(hG:i.size=sz)(hz:i.zero=some z)
 (hv:(V.j9 z).bind V.cells?=some zero)(hl:zero.length=sz)(hp:0<sz)(jS:n*sz≤2^24)(pC:oI parts.toList=some ps)(he:cr ρ S w e a)(h:j_ e sz (eJ zero n) ps=some rows):
 ∃xs,(execOp a.eval o).run P w= .ok (.value (.slice (some ⟨w.heap.size,0,none⟩) n n)) (w.alloc (.cells xs q))∧RR ρ S w sz rows xs∧rows.length=n:=by
 simp only[cP]at hv;obtain⟨zv,Ll,hz2⟩:=hv;have h0:CR ρ S w zero z.cells:=(V.ic Ll false).uY hz2;have OL:=RR.zero (n:=n) h0 hl;obtain⟨xs,hx,hr,hlen⟩:=KG he _ _ _ _ _ pC h OL;refine⟨xs,?_,hr,by rw[hlen];simp[eJ]⟩;have hsq:(sizeOf q).run P w= .ok sz w:=kc (by simp[er,pO,hG]) w;by_cases hn:n*sz=0
 ·have uE:n=0:=by
   rcases Nat.mul_eq_zero.1 hn with h|h
   ·exact h
   ·omega
  subst uE;have e0:∀f:Nat→Value,(Array.range (0*sz)).map f= #[]:=fun f=>by rw[ik];apply Array.eq_empty_of_size_eq_zero;simp
  rw[e0]at hx;simp only[execOp,ho,Sem.run_bind,Instr.buildSlice,run_underlying ht,Result.andThen_ok,hsq,ik,↓reduceIte];have e1:∀f:Nat→Value,(Array.range 0).map f= #[]:=fun _=>by apply Array.eq_empty_of_size_eq_zero;simp
  simp[hx,newRow,e1]
 ·simp only[execOp,ho,Sem.run_bind,Instr.buildSlice,run_underlying ht,Result.andThen_ok,hsq,hn,↓reduceIte];rw[aC (by omega)];simp[zeroValue,typeInfo,pO,hz,hx,newRow]
theorem JO{t q:TypeId}{n sz:Nat}{parts:Array (Nat×Operand)}{ps:List (Nat×cJ)}{i:TypeInfo}{z:Value}{zero:List V}(ho:o.op= .buildSlice t n parts)(ht:P.underlying t=some (.slice q))(pO:P.info? q=some i)(hG:i.size=sz)(hz:i.zero=some z)
 (hv:(V.j9 z).bind V.cells?=some zero)(hl:zero.length=sz)(hp:0<sz)(jS:n*sz≤2^24)(pC:oI parts.toList=some ps)(he:cr ρ S w e a)(hi:Inv ρ S w)(h:cu e S (.XS sz zero n ps)=some v):Yields P o a ρ S w v:=by
 simp only[cu]at h;split at h
 ·rename_i rows lO;split at h
  ·rename_i aiG;simp only[aa]at h;subst h;obtain⟨xs,ee,hr,hlen⟩:=Hn ho ht pO hG hz hv hl hp jS pC he lO;have hex:=Ext.alloc ρ S w (.cells xs q);have hn:n≤maxLen:=by
    have:=Nat.le_mul_of_pos_right n hp;unfold maxLen;omega
   refine⟨_,_,ee,.sl (fun i j=>(xs[i*sz+j]?).getD Go.undef) (eo.new hi _) hlen.symm (ah _) hn hr.2.1 (fun i r fv j y hj=>?_) (fun i r fv j y hj=>?_) (fun i r fv j y hj=>?_),hex,hi.alloc _⟩
   ·obtain⟨x,hx,_⟩:=hr.2.2 i r fv j y hj;rw[World.cell?_alloc_new,dv,hx];rfl
   ·obtain⟨x,hx,hv,_⟩:=hr.2.2 i r fv j y hj;simp only[hx,bL];exact(hv.ext hex).uX (V.eZ (List.all_eq_true.1 aiG r (aB fv)) j y hj) true
   ·obtain⟨x,hx,_,h1⟩:=hr.2.2 i r fv j y hj;simp only[hx,bL];exact h1
  ·cases h
 ·cases h
def D6(ρ:Place)(S:ae)(w:World)(sz:Nat)(rows:List (List V))(us:Array Value):Prop:=
 (∀(i:Nat) (r:List V),rows[i]?=some r→r.length=sz)∧
 ∀(i:Nat) (r:List V),rows[i]?=some r→∀(j:Nat) (y:V),r[j]?=some y→∃x,us[i*sz+j]?=some x∧VR ρ S w false y x∧x.oneCell'=true
theorem D6.ext{sz:Nat}{rows:List (List V)}{us:Array Value}{dn:Place}{S':ae}{w':World}(h:D6 ρ S w sz rows us)(hx:Ext ρ S w dn S' w'):D6 dn S' w' sz rows us:=
 ⟨h.1,fun i r hi j y hj=>let⟨x,a,b,c⟩:=h.2 i r hi j y hj;⟨x,a,b.ext hx,c⟩⟩
theorem RR.head{sz:Nat}{rows:List (List V)}{us:Array Value}(h:RR ρ S w sz rows us):D6 ρ S w sz rows us:=⟨h.2.1,h.2.2⟩
theorem Inv.obj(hi:Inv ρ S w){id aI sz:Nat}{t:TypeId}{rows:List (List V)}(hs:S[id]?=some ⟨aI,some (.arr t sz rows)⟩){g db:Nat}(hr:ρ id=some (g,db)):
 ∃cur,rows.length≤db∧db≤maxLen∧w.heap[g]?=some (.cells cur t (0,0))∧cur.size=db*sz∧D6 ρ S w sz rows cur:=by
 obtain⟨h1,h2⟩:=hi.rows id aI t sz rows hs;rcases h2 with⟨h2,_⟩|⟨g',eU,cur,a,b,c,d,f,k⟩
 ·rw[hr]at h2;cases h2
 ·rw[hr]at a;cases a;exact⟨cur,b,c,d,f,h1,k⟩
def ml(S:ae):V→Option (Nat×List (List V))
 | .sl sz rows=>some (sz,rows)
 | .cU id aI off len=>(S.bq id aI).map fun(_,sz,rows)=>(sz,(rows.drop off).take len)
 |_=>none
theorem xR(hi:Inv ρ S w){v:V}{u:Value}(hv:VR ρ S w false v u){sz:Nat}{rows:List (List V)}(h:ml S v=some (sz,rows))(hp:0<sz):
 (rows=[]∧∃a c,u= .slice a 0 c)∨
 ∃g off c,∃news:Array Value,u= .slice (some ⟨g,off,none⟩) rows.length c∧RR ρ S w sz rows news∧(∀(j:Nat) (x:Value),news.toList[j]?=some x→w.cell? ((⟨g,off,none⟩:Addr).add j)=some x)∧∀x∈news.toList,x.oneCell'=true:=by
 have build:∀(g off:Nat) (rows:List (List V)),(∀(i:Nat) (r:List V),rows[i]?=some r→r.length=sz)→
  (∀(i:Nat) (r:List V),rows[i]?=some r→∀(j:Nat) (y:V),r[j]?=some y→∃x,w.cell? ⟨g,off+(i*sz+j),none⟩=some x∧VR ρ S w false y x∧x.oneCell'=true)→
  ∃news:Array Value,RR ρ S w sz rows news∧(∀(j:Nat) (x:Value),news.toList[j]?=some x→w.cell? ((⟨g,off,none⟩:Addr).add j)=some x)∧∀x∈news.toList,x.oneCell'=true:=by
  intro g off rows hl hc;have cell:∀k,k<rows.length*sz→∃x,w.cell? ⟨g,off+k,none⟩=some x∧x.oneCell'=true:=by
   intro k hk;have h1:k/sz<rows.length:=(Nat.div_lt_iff_lt_mul hp).2 hk;have h2:k%sz<sz:=Nat.mod_lt _ hp;have h3:rows[k/sz]?=some rows[k/sz]:=ax h1;have h4:=hl _ _ h3;obtain⟨x,h5,_,h6⟩:=hc _ _ h3 (k%sz) _ (ax (by omega));refine⟨x,?_,h6⟩;have:k/sz*sz+k%sz=k:=by rw[Nat.mul_comm];exact Nat.div_add_mod k sz
   rw[this]at h5;exact h5
  refine⟨((List.range (rows.length*sz)).map fun k=>(w.cell? ⟨g,off+k,none⟩).getD Go.undef).toArray,⟨by simp,hl,fun i r fv j y hj=>?_⟩,fun j x hj=>?_,fun x hx=>?_⟩
  ·obtain⟨x,h5,h6,h7⟩:=hc i r fv j y hj;have h1:=(List.getElem?_eq_some_iff.1 fv).1;have h2:j<sz:=by rw[←hl i r fv];exact(List.getElem?_eq_some_iff.1 hj).1
   refine⟨x,?_,h6,h7⟩;have:=zT (sz:=sz) h1 h2;simp[this,h5]
  ·simp only[bn,aG]at hj;obtain⟨k,hk,rfl⟩:=hj;have aR:j<rows.length*sz:=by have:=(List.getElem?_eq_some_iff.1 hk).1;simpa using this
   rw[kU aR]at hk;simp only[aa]at hk;subst hk;obtain⟨x,h5,_⟩:=cell _ aR;rw[Addr.add_lit,h5];rfl
  ·simp only[List.mem_map,List.mem_range]at hx;obtain⟨k,hk,rfl⟩:=hx;obtain⟨x,h5,h6⟩:=cell k hk;rw[h5];exact h6
 cases v<;>simp only[ml,reduceCtorEq,aa,cB]at h
 case sl kW bT=>
  obtain⟨rfl,rfl⟩:=h;cases hv with
  |gC=>exact .inl ⟨rfl,_,0,rfl⟩
  | @sl _ _ _ g off len cap c hu hlen ki jS hG hc hvv h1=>
    obtain⟨news,a,b,d⟩:=build g off bT hG (fun i r fv j y hj=>⟨c i j,hc i r fv j y hj,(hvv i r fv j y hj).weaken false,h1 i r fv j y hj⟩);exact .inr ⟨_,_,cap,news,by rw[hlen],a,b,d⟩
 case cU id aI off len=>
  simp only[aG]at h;obtain⟨⟨t,kW,bT⟩,hs,heq⟩:=h;simp only[cB]at heq;obtain⟨rfl,rfl⟩:=heq;obtain⟨hle,hk⟩:=hv.gY hs;have hl:((bT.drop off).take len).length=len:=by simp;omega
  rcases hk with⟨_,rfl,rfl,rfl⟩|⟨g,db,cap,hg,rfl,Am,_,_⟩|⟨_,rfl,p,rfl⟩
  ·exact .inl ⟨by simp,none,0,rfl⟩
  ·obtain⟨cur,h1,h2,h3,h4,h5⟩:=hi.obj (df hs) hg;have gM:∀(i:Nat) (r:List V),((bT.drop off).take len)[i]?=some r→bT[off+i]?=some r:=by
    intro i r fv;rw[bC]at fv;split at fv
    ·simpa using fv
    ·cases fv
   obtain⟨news,a,b,d⟩:=build g (off*kW) ((bT.drop off).take len) (fun i r fv=>h5.1 _ r (gM i r fv)) (fun i r fv j y hj=>by
    obtain⟨x,e1,e2,e3⟩:=h5.2 _ r (gM i r fv) j y hj;refine⟨x,?_,e2,e3⟩;simp only[World.cell?,h3];rw[←e1,eM,jh];rfl)
   exact .inr ⟨_,_,_,news,by rw[hl],a,b,d⟩
  ·exact .inl ⟨by simp,some p,0,rfl⟩
theorem tN:∀{rows:List (List V)} {l:List UInt8},lT rows=some l→∃ns:List Int,rows=ns.map (fun n=>[V.int .u8 n])∧l=ns.map fun n=>UInt8.ofNat n.toNat
 |[],l,h=>by simp only[lT,aa]at h;exact⟨[],rfl,h.symm⟩
 |r::rows,l,h=>by
  unfold lT at h;split at h
  ·rename_i heq;cases heq
  ·rename_i n r' heq;simp only[fh]at heq;obtain⟨rfl,rfl⟩:=heq;split at h
   ·rename_i l' hl;simp only[aa]at h;obtain⟨ns,h1,h2⟩:=tN hl;exact⟨n::ns,by rw[h1];rfl,by rw[←h,h2];rfl⟩
   ·cases h
  ·cases h
theorem I8{x:Operand}{src dst q:TypeId}{u:Value}{vv:V}{l:List UInt8}{rows:List (List V)}(ho:o.op= .convert src dst x)(hs:P.underlying src=some (.slice q))(hd:P.underlying dst=some .string)(hq:P.underlying q=some (.int .u8))(hi:Inv ρ S w)
 (hu:a.eval x=u)(hv:VR ρ S w false vv u)(hr:ml S vv=some (1,rows))(hb:lT rows=some l)(jS:∀b n c,u= .slice b n c→n≤maxLen):Yields P o a ρ S w (.str l):=by
 obtain⟨ns,rfl,rfl⟩:=tN hb;have empty:ns=[]→∀b c,u= .slice b 0 c→Yields P o a ρ S w (.str (ns.map fun n=>UInt8.ofNat n.toNat)):=by
  intro hn b c hub;subst hn;refine Yields.same hi (u:=.string ByteArray.empty) ?_ (.str rfl (by unfold maxLen;exact az _));cases b with
  |none=>simp only[execOp,ho,hu,hub,Sem.run_bind,run_convert_bytes_nil w src q hs hq 0 c dst hd,Result.andThen_ok,Sem.run_pure]
  |some p=>
   have hl:(loadCells p 0).run P w= .ok (([]:List Int).map (Value.int .u8)).toArray w:=by simp[loadCells,loadCellsFrom]
   simp only[execOp,ho,hu,hub,Sem.run_bind,run_convert_bytes_string w src dst q _ 0 c hs hq hd,run_bytesToString w p 0 c [] hl,Result.andThen_ok,Sem.run_pure];rfl
 rcases xR hi hv hr (by omega)with⟨h1,b,c,h2⟩|⟨g,off,c,news,h1,h2,h3,_⟩
 ·exact empty (by simpa using h1) b c h2
 ·have hlen:news.size=ns.length:=by rw[h2.1];simp
  have C3:∀i,i<ns.length→w.cell? ⟨g,off+i,none⟩=some (.int .u8 (ns.getD i 0)):=by
   intro i fH;obtain⟨x',e1,e2,_⟩:=h2.2.2 i [V.int .u8 ns[i]] (by simp[fH]) 0 (V.int .u8 ns[i]) rfl;have e2:=e2.cL;subst e2;have:=h3 i (.int .u8 ns[i]) (by simpa using e1);rw[Addr.add_lit]at this;rw[this];simp[List.getD,fH]
  have ee:=run_convert_bytes_arg w src q hs hq g off ns.length c ns rfl C3 dst hd;rw[h1]at hu jS;simp only[aP]at hu jS;refine Yields.same hi (u:=.string (strOfNums ns)) (by simp only[execOp,ho,hu,Sem.run_bind,ee,Result.andThen_ok,Sem.run_pure]) (.str ?_ ?_)
  ·simp[strOfNums]
  ·have:=jS _ _ _ rfl;simp only[strOfNums,ByteArray.size,kl,aP];exact this
theorem JP{x:Operand}{src dst q:TypeId}{x':cJ}(ho:o.op= .convert src dst x)(hs:P.underlying src=some (.slice q))(hd:P.underlying dst=some .string)(hq:P.underlying q=some (.int .u8))(he:cr ρ S w e a)(hi:Inv ρ S w)(hx:dp x=some x')
 (h:cu e S (.QO x')=some v):Yields P o a ρ S w v:=by
 have h1:=bw he hx;simp only[cu]at h;split at h
 ·rename_i hl;simp only[aa]at h;subst h;rw[hl]at h1;have hu:a.eval x= .slice none 0 0:=by generalize a.eval x=u at h1;cases h1;rfl
  refine Yields.same hi (u:=.string ByteArray.empty) ?_ (.str rfl (by unfold maxLen;exact az _));simp only[execOp,ho,hu,Sem.run_bind,run_convert_bytes_nil w src q hs hq 0 0 dst hd,Result.andThen_ok,Sem.run_pure]
 ·rename_i sz rows hl;split at h
  ·rename_i hG;subst hG;simp only[aG]at h;obtain⟨l,hb,rfl⟩:=h;rw[hl]at h1;refine I8 ho hs hd hq hi rfl h1 rfl hb fun b n c hu=>?_;rw[hu]at h1;cases h1 with
   |gC=>unfold maxLen;exact az _
   |sl cf kP hlen ki jS=>omega
  ·cases h
 ·rename_i id aI off len hl;simp only[cP]at h;obtain⟨⟨t,sz,rows⟩,iV,h⟩:=h;simp only at h;split at h
  ·rename_i hG;subst hG;simp only[aG]at h;obtain⟨l,hb,rfl⟩:=h;rw[hl]at h1;refine I8 ho hs hd hq hi rfl h1 (by simp[ml,iV]) hb fun b n c hu=>?_;rw[hu]at h1;obtain⟨h2,h3⟩:=h1.gY iV;rcases h3 with⟨_,h3,_⟩|⟨g,db,cap,hg,h3,h4,_,_⟩|⟨_,_,p,h3⟩
   ·cases h3;unfold maxLen;exact az _
   ·cases h3;obtain⟨cur,_,h5,_⟩:=hi.obj (df iV) hg;omega
   ·cases h3;unfold maxLen;exact az _
  ·cases h
 ·cases h
end
end Go.AL
namespace Go.AL
variable[Mode]
section
variable{P:Program}{o:Oper}{a:Act}{ρ:Place}{S:ae}{w:World}{e:Nat→V}{v:V}{ao:jD}
theorem lq{t q:TypeId}{sz:Nat}{zero:List V}(h:xc P t=some (q,sz,zero)):
 P.underlying t=some (.slice q)∧∃i z,P.info? q=some i∧i.size=sz∧i.zero=some z∧(V.j9 z).bind V.cells?=some zero∧zero.length=sz∧0<sz:=by
 unfold xc at h;split at h
 ·rename_i q' hq;split at h
  ·rename_i i hi;split at h
   ·rename_i ajY hz;split at h
    ·rename_i hc;simp only[aa,cB]at h;obtain⟨rfl,rfl,rfl⟩:=h;simp only[cP]at hz;obtain⟨x,⟨z,Ll,hz2⟩,hz3⟩:=hz;exact⟨hq,i,z,hi,rfl,Ll,by simp[hz2,hz3],hc.1,hc.2⟩
    ·cases h
   ·cases h
  ·cases h
 ·cases h
theorem E3(hc:AJ P o=some ao)(he:cr ρ S w e a)(hi:Inv ρ S w)(h:cu e S ao=some v):Yields P o a ρ S w v:=by
 unfold AJ at hc;cases ho:o.op<;>simp only[ho,reduceCtorEq]at hc
 case move x=>
  simp only[aG]at hc;obtain⟨x',hx,rfl⟩:=hc;simp only[cu,aa]at h;subst h;exact BD (.inl ho) he hi hx
 case assign x=>
  simp only[aG]at hc;obtain⟨x',hx,rfl⟩:=hc;simp only[cu,aa]at h;subst h;exact BD (.inr ho) he hi hx
 case pick c x y=>
  split at hc
  ·rename_i c' x' y' h1 h2 h3;simp only[aa]at hc;subst hc;exact Ev ho he hi h1 h2 h3 h
  ·cases hc
 case binOp op t x y t'=>
  split at hc
  ·rename_i x' y' hx hy;split at hc
   ·simp only[aa]at hc;subst hc;exact xX ho he hi hx hy h
   ·simp only[aa]at hc;subst hc;exact xX ho he hi hx hy h
   ·rename_i ht;split at hc
    ·simp only[aa]at hc;subst hc;exact xU (neg:=false) rfl ho ht he hi hx hy h
    ·simp only[aa]at hc;subst hc;exact xU (neg:=true) rfl ho ht he hi hx hy h
    ·cases hc
   ·rename_i ht;exact m_ (k:=0) ho ⟨_,ht⟩ he hi hx hy hc h
   ·rename_i ht;exact m_ (k:=1) ho ⟨_,ht⟩ he hi hx hy hc h
   ·rename_i ht;exact m_ (k:=2) ho ⟨_,ht⟩ he hi hx hy hc h
   ·rename_i ht;exact m_ (k:=3) ho ⟨_,_,_,ht⟩ he hi hx hy hc h
   ·rename_i ht;exact m_ (k:=4) ho ⟨_,_,ht⟩ he hi hx hy hc h
   ·cases hc
  ·cases hc
 case nilCheck x=>
  simp only[aG]at hc;obtain⟨x',hx,rfl⟩:=hc;exact zO ho he hi hx h
 case makeInterface t x=>
  split at hc
  ·rename_i ht;simp only[aG]at hc;obtain⟨x',hx,rfl⟩:=hc;simp only[cu,aa]at h;subst h;exact Ex ho ht he hi hx
  ·cases hc
 case typeAssert x xt t ok=>
  split at hc
  ·rename_i x' z hx ht hz;simp only[aG]at hc;obtain⟨zv,Lk,rfl⟩:=hc;simp only[cP]at hz;obtain⟨i,pO,hz⟩:=hz;exact JC ho ht pO hz Lk he hi hx h
  ·cases hc
 case unOp op t x=>
  cases op<;>simp only[reduceCtorEq,aG]at hc
  ·obtain⟨x',hx,rfl⟩:=hc;exact JI ho he hi hx h
  ·obtain⟨x',hx,rfl⟩:=hc;exact JH ho he hi hx h
 case index t x i=>
  split at hc
  ·rename_i x' i' ht hx xw;simp only[aa]at hc;subst hc;exact EC ho ht he hi hx xw h
  ·rename_i len q x' i' ht hx xw;split at hc
   ·rename_i hg hz;simp only[aa]at hc;subst hc;exact EB ho ht hg hz he hi hx xw h
   ·cases hc
  ·cases hc
 case indexAddr t x i=>
  split at hc
  ·rename_i q x' i' ht hx xw;simp only[aG]at hc;obtain⟨n,hn,rfl⟩:=hc;exact EE ho ht hn he hi hx xw h
  ·rename_i len q x' i' ht hx xw;simp only[aG]at hc;obtain⟨n,hn,rfl⟩:=hc;exact ED ho ht hn he hi hx xw h
  ·cases hc
 case fieldAddr t x i=>
  split at hc
  ·rename_i fields x' ht hx;split at hc
   ·rename_i f hf;split at hc
    ·rename_i m hm;simp only[aa]at hc;subst hc;exact BE ho ht hf hm he hi hx h
    ·cases hc
   ·cases hc
  ·cases hc
 case load t x=>
  split at hc
  ·rename_i x' hx ht;simp only[aG]at hc;obtain⟨n,hn,rfl⟩:=hc;exact JJ ho ht hn he hi hx h
  ·rename_i x' hx ht;simp only[aa]at hc;subst hc;exact JK ho ht he hi hx h
  ·cases hc
 case field t x i=>
  split at hc
  ·rename_i fields x' ht hx;split at hc
   ·rename_i f hf;split at hc
    ·rename_i hg;simp only[aG]at hc;obtain⟨n,hn,rfl⟩:=hc;exact EF ho ht hf hg hn he hi hx h
    ·rename_i hg;simp only[aa]at hc;subst hc;exact EG ho ht hf hg he hi hx h
    ·cases hc
   ·cases hc
  ·cases hc
 case convert src dst x=>
  split at hc
  ·rename_i j k x' hs hd hx;simp only[aa]at hc;subst hc;exact EH ho hs hd he hi hx h
  ·rename_i q x' hs hd hx;split at hc
   ·rename_i hq;simp only[aa]at hc;subst hc;exact JP ho hs hd hq he hi hx h
   ·cases hc
  ·cases hc
 case extract x i=>
  simp only[aG]at hc;obtain⟨x',hx,rfl⟩:=hc;exact JM ho he hi hx h
 case build t parts=>
  split at hc
  ·rename_i fields i ht pO;split at hc
   ·rename_i z hz;split at hc
    ·rename_i vs ps hv hp fY;split at hc
     ·rename_i eQ;simp only[aa]at hc;subst hc;simp only[cu,aG]at h;obtain⟨ws,hw,rfl⟩:=h;exact BF ho ht pO hz hv (by simp only[V.cells?,eQ,aQ]) hp fY he hi hw
     ·cases hc
    ·cases hc
   ·cases hc
  ·cases hc
 case box t x=>
  simp only[aG]at hc;obtain⟨x',hx,rfl⟩:=hc;simp only[cu]at h;split at h
  ·rename_i vs CU;split at h
   ·rename_i qu;simp only[aa]at h;subst h;exact EJ ho he hi hx CU qu
   ·cases h
  ·cases h
 case buildSlice t n parts=>
  split at hc
  ·rename_i q sz zero ps hr hp;split at hc
   ·rename_i jS;simp only[aa]at hc;subst hc;obtain⟨ht,i,z,h1,h2,h3,h4,h5,h6⟩:=lq hr;exact JO ho ht h1 h2 h3 h4 h5 h6 jS hp he hi h
   ·cases hc
  ·cases hc
 case makeFunc fn first cap=>
  split at hc
  ·rename_i f l m h1 h2;simp only[aa]at hc;subst hc;simp only[cu,aa]at h;subst h;exact Ew ho he hi h1 h2
  ·cases hc
 case slice t x lo fH mx=>
  split at hc
  ·rename_i h1 h2 h3 h4;simp only[aa]at hc;subst hc;exact JD ho h1 he hi h2 h3 h4 h
  ·rename_i h1 h2 h3 h4;simp only[aG]at hc;obtain⟨n,hn,rfl⟩:=hc;exact JE ho h1 hn he hi h2 h3 h4 h
  ·cases hc
 case call c=>
  obtain⟨callee,args,ts⟩:=c;unfold DJ at hc;split at hc
  ·cases hc
  ·rename_i l hl;split at hc
   ·rename_i b hb;simp only at hb hl hc;subst hb;unfold tK at hc;have one:∀x',l=[x']→∃x,args= #[x]∧dp x=some x':=by
     intro x' hx;subst hx;obtain⟨args⟩:=args;match args,hl with
     |[],hl=>simp[la]at hl
     |[x],hl=>
      simp only[la]at hl;split at hl
      ·rename_i h1 h2;simp only[aa,fh]at hl;exact⟨x,rfl,by rw[h1,hl.1]⟩
      ·cases hl
     |x::y::r,hl=>
      simp only[la]at hl;split at hl
      ·rename_i h1 h2;split at h2
       ·simp only[aa]at h2;subst h2;simp at hl
       ·cases h2
      ·cases hl
    have two:∀x' y',l=[x',y']→∃x y,args= #[x,y]∧dp x=some x'∧dp y=some y':=by
     intro x' y' hx;subst hx;obtain⟨args⟩:=args;match args,hl with
     |[],hl=>simp[la]at hl
     |[x],hl=>
      simp only[la]at hl;split at hl
      ·rename_i h1 h2;simp only[aa]at h2;subst h2;simp at hl
      ·cases hl
     |[x,y],hl=>
      simp only[la]at hl;split at hl
      ·rename_i h1 h2;split at h2
       ·rename_i h3 h4;simp only[aa]at h2 h4;subst h2 h4;simp only[aa,fh,and_true]at hl;exact⟨x,y,rfl,by rw[h1,hl.1],by rw[h3,hl.2]⟩
       ·cases h2
      ·cases hl
     |x::y::z::r,hl=>
      simp only[la]at hl;split at hl
      ·rename_i h1 h2;split at h2
       ·rename_i h3 h4;split at h4
        ·simp only[aa]at h2 h4;subst h2 h4;simp at hl
        ·cases h4
       ·cases h2
      ·cases hl
    split at hc
    ·rename_i x' t ht;obtain⟨x,rfl,hx⟩:=one _ rfl;obtain⟨ts⟩:=ts;simp only at ht;subst ht;split at hc
     ·rename_i hu;simp only[aa]at hc;subst hc;exact Ey ho hu he hi hx h
     ·rename_i hu;simp only[aa]at hc;subst hc;exact EA ho hu he hi hx h
     ·cases hc
    ·obtain⟨x,y,rfl,hx,hy⟩:=two _ _ rfl;simp only[aa]at hc;subst hc;exact qC (mn:=true) rfl ho he hi hx hy h
    ·obtain⟨x,y,rfl,hx,hy⟩:=two _ _ rfl;simp only[aa]at hc;subst hc;exact qC (mn:=false) rfl ho he hi hx hy h
    ·cases hc
   ·cases hc
end
end Go.AL
namespace Go.AL
variable[Mode]
open Go.MapKept
def Gk:nZ→Value→Prop
 | .int k,u=>∃n,u= .int k n
 | .str,u=>∃s,u= .string s
def zF:List nZ→List Value→Prop
 |[],[]=>True
 |k::l,u::us=>Gk k u∧zF l us
 |_,_=>False
def KM:KD→Value→Prop
 | .one k,u=>Gk k u
 | .st l,u=>∃us:Array Value,u= .agg us∧zF l us.toList
section
variable{ρ:Place}{S:ae}{w:World}
theorem Gk.of{k:nZ}{v:V}{u:Value}{b:Bool}(h:pM k v=true)(hv:VR ρ S w b v u):Gk k u:=by
 cases k<;>cases v<;>simp only[pM,reduceCtorEq,aL,aV]at h
 ·subst h;exact⟨_,hv.cL⟩
 ·obtain⟨s,hs,_⟩:=hv.kX;exact⟨s,hs⟩
theorem zF.of{b:Bool}:∀{l:List nZ} {vs:List V} {us:List Value},oQ l vs=true→us.length=vs.length→(∀(j:Nat) (v:V),vs[j]?=some v→∃u,us[j]?=some u∧VR ρ S w b v u)→zF l us
 |[],[],us,_,hl,_=>by
  have:us=[]:=dc (by simpa using hl);subst this;trivial
 |k::l,v::vs,us,h,hl,hu=>by
  simp only[oQ,aW]at h;cases us with
  |nil=>simp at hl
  |cons u us=>
   obtain⟨u',hu',hr⟩:=hu 0 v rfl;simp at hu';subst hu';exact⟨Gk.of h.1 hr,zF.of h.2 (by simpa using hl) fun j x hx=>hu (j+1) x (by simpa using hx)⟩
 |[],_::_,_,h,_,_=>by cases h
 |_::_,[],_,h,_,_=>by cases h
theorem KM.of{kd:KD}{v:V}{u:Value}{b:Bool}(h:jl kd v=true)(hv:VR ρ S w b v u):KM kd u:=by
 cases kd with
 |one k=>exact Gk.of h hv
 |st l=>
  cases v<;>first|(cases h;done)|skip
  cases hv with
  | @agg _ vs us c hl hc hv=>exact⟨us,rfl,zF.of (ρ:=ρ) (S:=S) (w:=w) (b:=b) h (by simpa using hl) fun j v hj=>⟨c j,by simpa using hc j v hj,hv j v hj⟩⟩
theorem Dv{k:nZ}{v v':V}{u u':Value}{b:Bool}(h:pM k v=true)(h':pM k v'=true)(hv:VR ρ S w b v u)(yN:VR ρ S w b v' u'):wi v v'=true↔u=u':=by
 cases k<;>cases v<;>simp only[pM,reduceCtorEq,aL,aV]at h<;>cases v'<;>simp only[pM,reduceCtorEq,aL,aV]at h'
 ·subst h h';rw[hv.cL,yN.cL];simp[wi]
 ·obtain⟨s,rfl,e1,_⟩:=hv.kX;obtain⟨s',rfl,e2,_⟩:=yN.kX;simp only[wi,aL,Value.string.injEq];constructor
  ·intro e;subst e;obtain⟨⟨d⟩⟩:=s;obtain⟨⟨d'⟩⟩:=s';simp only at e1 e2;rw[←e2]at e1;rw[e1]
  ·rintro rfl;rw[←e1,←e2]
theorem Du{b:Bool}:∀{l:List nZ} {vs SK:List V} {us Jt:List Value},oQ l vs=true→oQ l SK=true→us.length=vs.length→Jt.length=SK.length→
 (∀(j:Nat) (v:V),vs[j]?=some v→∃u,us[j]?=some u∧VR ρ S w b v u)→(∀(j:Nat) (v:V),SK[j]?=some v→∃u,Jt[j]?=some u∧VR ρ S w b v u)→(o4 vs SK=true↔us=Jt)
 |[],[],[],us,Jt,_,_,hl,xu,_,_=>by
  have h1:us=[]:=dc (by simpa using hl);have h2:Jt=[]:=dc (by simpa using xu);subst h1 h2;simp[o4]
 |k::l,v::vs,v'::SK,us,Jt,h,h',hl,xu,hu,hu'=>by
  simp only[oQ,aW]at h h';cases us with
  |nil=>simp at hl
  |cons u us=>
   cases Jt with
   |nil=>simp at xu
   |cons u' Jt=>
    obtain⟨x,hx,hr⟩:=hu 0 v rfl;obtain⟨x',su,iA⟩:=hu' 0 v' rfl;simp at hx su;subst hx su;have ih:=Du h.2 h'.2 (by simpa using hl) (by simpa using xu) (fun j y hy=>hu (j+1) y (by simpa using hy)) (fun j y hy=>hu' (j+1) y (by simpa using hy)) (us:=us) (Jt:=Jt);have i1:=Dv h.1 h'.1 hr iA;simp only[o4,aW,i1,ih,fh]
 |[],_::_,_,_,_,h,_,_,_,_,_=>by cases h
 |_::_,[],_,_,_,h,_,_,_,_,_=>by cases h
 |[],[],_::_,_,_,_,h,_,_,_,_=>by cases h
 |_::_,_::_,[],_,_,_,h,_,_,_,_=>by cases h
theorem o3{kd:KD}{v v':V}{u u':Value}{b:Bool}(h:jl kd v=true)(h':jl kd v'=true)(hv:VR ρ S w b v u)(yN:VR ρ S w b v' u'):jX v v'=true↔u=u':=by
 cases kd with
 |one k=>
  have:=Dv h h' hv yN;cases k<;>cases v<;>simp only[jl,pM,reduceCtorEq,aL,aV]at h<;>cases v'<;>simp only[jl,pM,reduceCtorEq,aL,aV]at h'<;>simpa[jX]using this
 |st l=>
  cases v<;>first|(cases h;done)|skip
  cases v'<;>first|(cases h';done)|skip
  cases hv with
  | @agg _ vs us c hl hc hv=>
    cases yN with
    | @agg _ SK Jt c' xu As yN=>
      have:=Du (ρ:=ρ) (S:=S) (w:=w) (b:=b) (l:=l) (us:=us.toList) (Jt:=Jt.toList) h h' (by simpa using hl) (by simpa using xu) (fun j v hj=>⟨c j,by simpa using hc j v hj,hv j v hj⟩) (fun j v hj=>⟨c' j,by simpa using As j v hj,yN j v hj⟩);simp only[jX,this,Value.agg.injEq];exact⟨fun e=>Array.ext' e,fun e=>by rw[e]⟩
end
section
variable{P:Program}{w:World}
theorem yG{t:TypeId}{k:nZ}(h:pU P t=some k):(∃j,k= .int j∧P.underlying t=some (.int j))∨(k= .str∧P.underlying t=some .string):=by
 unfold pU at h;split at h
 ·rename_i j hj;cases h;exact .inl ⟨j,rfl,hj⟩
 ·rename_i hj;cases h;exact .inr ⟨rfl,hj⟩
 ·cases h
theorem Gk.isKey{t:TypeId}{k:nZ}{a:Value}(h:pU P t=some k)(ha:Gk k a):∃d,P.underlying t=some d∧IsKey d a:=by
 rcases yG h with⟨j,rfl,hu⟩|⟨rfl,hu⟩
 ·obtain⟨n,rfl⟩:=ha;exact⟨_,hu,rfl⟩
 ·obtain⟨s,rfl⟩:=ha;exact⟨_,hu,trivial⟩
theorem AF{t:TypeId}{k:nZ}{a b:Value}(h:pU P t=some k)(ha:Gk k a)(hb:Gk k b)(d:Nat):∃r,(Op.equalIn (d+1) t a b).run P w= .ok r w∧(r=true↔a=b):=by
 rcases yG h with⟨j,rfl,hu⟩|⟨rfl,hu⟩
 ·obtain⟨n,rfl⟩:=ha;obtain⟨m,rfl⟩:=hb;exact⟨_,run_equalIn_int w d t j j n m hu,by simp⟩
 ·obtain⟨s,rfl⟩:=ha;obtain⟨s',rfl⟩:=hb;refine⟨s==s',by simp[Op.equalIn,run_underlying hu],?_⟩;rw[bytes_beq];simp
theorem tJ{α:Type}{l:List α}{n:Nat}{x:α}(h:l[n]?=some x):l.drop n=x::l.drop (n+1):=by
 obtain⟨aR,rfl⟩:=List.getElem?_eq_some_iff.1 h;exact dQ aR
theorem zF.head{k:nZ}{l:List nZ}{us:List Value}{n:Nat}(h:zF (k::l) (us.drop n)):∃u,us[n]?=some u∧Gk k u∧zF l (us.drop (n+1))∧us.drop n=u::us.drop (n+1):=by
 cases hu:us[n]? with
 |none=>
  rw[bO (List.getElem?_eq_none_iff.1 hu)]at h;exact h.elim
 |some u=>
  rw[tJ hu]at h;exact⟨u,rfl,h.1,h.2,tJ hu⟩
theorem rh(d:Nat)(xs ys:Array Value):∀(fs:List Field) (n:Nat) (l:List nZ),lM P fs n=some l→zF l (xs.toList.drop n)→zF l (ys.toList.drop n)→
 ∃r,(Op.eqFields (d+1) xs ys fs).run P w= .ok r w∧(r=true↔xs.toList.drop n=ys.toList.drop n)
 |[],n,l,h,hx,hy=>by
  simp only[lM,aa]at h;subst h;have e1:xs.toList.drop n=[]:=by cases e:xs.toList.drop n with|nil=>rfl|cons a b=>rw[e]at hx;exact hx.elim
  have e2:ys.toList.drop n=[]:=by cases e:ys.toList.drop n with|nil=>rfl|cons a b=>rw[e]at hy;exact hy.elim
  exact⟨true,by simp[Op.eqFields],by rw[e1,e2];simp⟩
 |f::fs,n,l,h,hx,hy=>by
  simp only[lM]at h;split at h
  ·rename_i k l' hk hl;split at h
   ·rename_i hc;obtain⟨ho,Lr,Iq⟩:=hc;cases h;obtain⟨x,x1,x2,x3,x4⟩:=hx.head;obtain⟨y,y1,y2,y3,y4⟩:=hy.head;have px:=lr (P:=P) (cs:=xs) (off:=f.offset) Lr (by rw[ho];simpa using x1) w;have py:=lr (P:=P) (cs:=ys) (off:=f.offset) Lr (by rw[ho];simpa using y1) w;obtain⟨r,hr,kG⟩:=AF (w:=w) hk x2 y2 d;obtain⟨r',iA,aaA⟩:=rh d xs ys fs (n+1) l' hl x3 y3;have aaG:f.name≠ "_" :=by simpa using Iq
    have ee:(Op.eqFields (d+1) xs ys (f::fs)).run P w= .ok (if r then r' else false) w:=by
     simp only[Op.eqFields,aaG,ne_eq,not_false_eq_true,aQ,Sem.run_bind,px,py,Result.andThen_ok,hr];cases r
     ·simp
     ·simp only[il,aV,aZ,aQ,iA]
    refine⟨_,ee,?_⟩;rw[x4,y4,fh,←kG,←aaA];cases r<;>simp
   ·cases h
  ·cases h
theorem mL{t:TypeId}{l:List nZ}(h:lL P t=some l):∃fs,P.underlying t=some (.struct fs)∧P.fieldsOf t=fs∧P.stoodInHeld t=false∧lM P fs.toList 0=some l:=by
 unfold lL at h;split at h
 ·rename_i fs hu;split at h
  ·rename_i hs;exact⟨fs,hu,by simp[Program.fieldsOf,hu],hs,h⟩
  ·cases h
 ·cases h
theorem IL{t:TypeId}{l:List nZ}{xs ys:Array Value}(h:lL P t=some l)(hx:zF l xs.toList)(hy:zF l ys.toList)(d:Nat):∃r,(Op.equalIn (d+2) t (.agg xs) (.agg ys)).run P w= .ok r w∧(r=true↔xs=ys):=by
 obtain⟨fs,hu,hf,hs,hk⟩:=mL h;obtain⟨r,hr,hi⟩:=rh (P:=P) (w:=w) d xs ys fs.toList 0 l hk hx hy;refine⟨r,?_,?_⟩
 ·rw[show d+2=(d+1)+1 from rfl,run_equalIn_struct w (d+1) t xs ys (by rw[hf];exact hu) hs,hf];exact hr
 ·rw[hi,lp,lp];exact⟨fun e=>Array.ext' e,fun e=>by rw[e]⟩
theorem Fj{t:TypeId}{l:List nZ}(h:Cz P t=some l):∃n e k,P.underlying t=some (.array n e)∧pU P e=some k∧fX P e=some false∧P.cellsOf e=1∧l=List.replicate n k:=by
 unfold Cz at h;split at h
 ·rename_i n e hu;split at h
  ·rename_i k hk;split at h
   ·rename_i hc;simp only[aa]at h;exact⟨n,e,k,hu,hk,hc.1,hc.2,h.symm⟩
   ·cases h
  ·cases h
 ·cases h
theorem tG(d:Nat){e:TypeId}{k:nZ}(hk:pU P e=some k)(Lr:fX P e=some false)(xs ys:Array Value):∀(m j:Nat),zF (List.replicate m k) (xs.toList.drop j)→zF (List.replicate m k) (ys.toList.drop j)→
 ∃r,(Op.eqItems (d+1) e 1 xs ys (List.range' j m)).run P w= .ok r w∧(r=true↔xs.toList.drop j=ys.toList.drop j)
 |0,j,hx,hy=>by
  have e1:xs.toList.drop j=[]:=by cases e:xs.toList.drop j with|nil=>rfl|cons a b=>rw[e]at hx;exact hx.elim
  have e2:ys.toList.drop j=[]:=by cases e:ys.toList.drop j with|nil=>rfl|cons a b=>rw[e]at hy;exact hy.elim
  exact⟨true,by simp[Op.eqItems],by rw[e1,e2];simp⟩
 |m+1,j,hx,hy=>by
  rw[List.replicate_succ]at hx hy;obtain⟨x,x1,x2,x3,x4⟩:=hx.head;obtain⟨y,y1,y2,y3,y4⟩:=hy.head;have px:=lr (P:=P) (cs:=xs) (off:=j*1) Lr (by rw[Nat.mul_one];simpa using x1) w;have py:=lr (P:=P) (cs:=ys) (off:=j*1) Lr (by rw[Nat.mul_one];simpa using y1) w;obtain⟨r,hr,kG⟩:=AF (w:=w) hk x2 y2 d;obtain⟨r',iA,aaA⟩:=tG d hk Lr xs ys m (j+1) x3 y3;have ee:(Op.eqItems (d+1) e 1 xs ys (List.range' j (m+1))).run P w= .ok (if r then r' else false) w:=by
   rw[List.range'_succ];simp only[Op.eqItems,Sem.run_bind,px,py,Result.andThen_ok,hr];cases r
   ·simp
   ·simp only[il,aV,aZ,aQ,iA]
  refine⟨_,ee,?_⟩;rw[x4,y4,fh,←kG,←aaA];cases r<;>simp
theorem KI{t:TypeId}{l:List nZ}{xs ys:Array Value}(h:Cz P t=some l)(hx:zF l xs.toList)(hy:zF l ys.toList)(d:Nat):∃r,(Op.equalIn (d+2) t (.agg xs) (.agg ys)).run P w= .ok r w∧(r=true↔xs=ys):=by
 obtain⟨n,e,k,hu,hk,Lr,hc,rfl⟩:=Fj h;obtain⟨i,hi⟩:∃i,P.info? e=some i:=by
  unfold fX at Lr;cases hq:P.info? e with
  |some i=>exact⟨i,rfl⟩
  |none=>simp[Program.underlying,hq]at Lr
 obtain⟨r,hr,kG⟩:=tG (P:=P) (w:=w) d hk Lr xs ys n 0 (by simpa using hx) (by simpa using hy);refine⟨r,?_,?_⟩
 ·rw[show d+2=(d+1)+1 from rfl,run_equalIn_array w (d+1) xs ys hu hi,hc,List.range_eq_range'];exact hr
 ·rw[kG,lp,lp];exact⟨fun e=>Array.ext' e,fun e=>by rw[e]⟩
theorem ss{t:TypeId}{kd:KD}(h:n5 P t=some kd):(∃k,kd= .one k∧pU P t=some k)∨∃l,kd= .st l∧lL P t=some l:=by
 unfold n5 at h;split at h
 ·rename_i k hk;cases h;exact .inl ⟨k,rfl,hk⟩
 ·simp only[aG]at h;obtain⟨l,hl,rfl⟩:=h;exact .inr ⟨l,rfl,hl⟩
theorem UR{t:TypeId}{kd:KD}{a b:Value}(h:n5 P t=some kd)(ha:KM kd a)(hb:KM kd b):∃r,(Op.equal t a b).run P w= .ok r w∧(r=true↔a=b):=by
 rcases ss h with⟨k,rfl,hk⟩|⟨l,rfl,hl⟩
 ·exact AF hk ha hb 9999
 ·obtain⟨xs,rfl,hx⟩:=ha;obtain⟨ys,rfl,hy⟩:=hb;obtain⟨r,hr,hi⟩:=IL (w:=w) hl hx hy 9998;exact⟨r,hr,by rw[hi];simp⟩
theorem gI{t:TypeId}{kd:KD}{a:Value}(h:n5 P t=some kd)(ha:KM kd a)(em:Bool):(Instr.checkKey em 10000 t a).run P w= .ok () w:=by
 rcases ss h with⟨k,rfl,hk⟩|⟨l,rfl,hl⟩
 ·obtain⟨d,hd,cN⟩:=Gk.isKey hk ha;exact run_checkKey hd cN em 9999
 ·obtain⟨xs,rfl,hx⟩:=ha;obtain⟨fs,hu,hf,hs,hk⟩:=mL hl;rw[show(10000:Nat)=9999+1 from rfl,Instr.checkKey];simp only[Sem.run_bind,run_underlying hu,Result.andThen_ok];rw[←Array.forIn_toList];clear hu hf h hl hs;generalize hL:fs.toList=L at hk;clear hL;rw[show xs.toList=xs.toList.drop 0 from rfl]at hx;generalize (0:Nat)=n at hx hk;induction L generalizing n l with
  |nil=>simp
  |cons f L ih=>
   simp only[lM]at hk;split at hk
   ·rename_i k l' cN xu;split at hk
    ·rename_i hc;obtain⟨ho,Lr,Iq⟩:=hc;cases hk;obtain⟨x,x1,x2,x3,x4⟩:=hx.head;have px:=lr (P:=P) (cs:=xs) (off:=f.offset) Lr (by rw[ho];simpa using x1) w;obtain⟨d,hd,CZ⟩:=x2.isKey cN;have Us:=run_checkKey (w:=w) hd CZ em 9998;have aaG:f.name≠ "_" :=by simpa using Iq
     simp only[List.forIn_cons,Sem.run_bind,aaG,ne_eq,not_false_eq_true,aQ,px,Result.andThen_ok,Us,Sem.run_pure];exact ih l' (n+1) x3 xu
    ·cases hk
   ·cases hk
theorem oY{t:TypeId}{kd:KD}{x:Value}(h:n5 P t=some kd)(hx:KM kd x):∀(es:List MapEntry) (i:Nat),(∀e∈es,KM kd e.key)→
 ((Instr.findAsking t x es i).run P w= .ok none w∧∀e∈es,e.key≠x)∨∃j e,(Instr.findAsking t x es i).run P w= .ok (some (i+j,e.val)) w∧es[j]?=some e∧e.key=x∧∀e'∈es.take j,e'.key≠x
 |[],i,_=>.inl ⟨by simp[Instr.findAsking],by simp⟩
 |e::es,i,fY=>by
  obtain⟨r,hr,xy⟩:=UR (w:=w) h hx (fY e (by simp));cases r
  ·have eY:e.key≠x:=fun hh=>by have:=xy.2 hh.symm;cases this
   rcases oY h hx es (i+1) (fun y hy=>fY y (by simp[hy]))with⟨h1,h2⟩|⟨j,e',h1,h2,h3,h4⟩
   ·left
    refine⟨by simp[Instr.findAsking,hr,h1],fun y hy=>?_⟩;rcases List.mem_cons.1 hy with rfl|hy
    ·exact eY
    ·exact h2 y hy
   ·right
    refine⟨j+1,e',by simp[Instr.findAsking,hr,h1,jh,Nat.add_comm 1 j],by simpa using h2,h3,fun y hy=>?_⟩;simp only[eN,List.mem_cons]at hy;rcases hy with rfl|hy
    ·exact eY
    ·exact h4 y hy
  ·right
   exact⟨0,e,by simp[Instr.findAsking,hr],rfl,(xy.1 rfl).symm,by simp⟩
theorem pZ{d:TypeDesc}{k:Value}(hk:IsKey d k):∀(l:List MapEntry) (i:Nat),(∀x∈l,IsKey d x.key)→
 (Instr.findNow d k l i=some none∧∀x∈l,x.key≠k)∨∃j e,Instr.findNow d k l i=some (some (i+j,e.val))∧l[j]?=some e∧e.key=k∧∀e'∈l.take j,e'.key≠k
 |[],i,_=>.inl ⟨rfl,by simp⟩
 |e::es,i,fY=>by
  obtain⟨r,hr,xy⟩:=sameNow_of_keys hk (fY e (by simp));cases r
  ·have eY:e.key≠k:=fun hh=>by have:=xy.2 hh.symm;cases this
   rcases pZ hk es (i+1) (fun y hy=>fY y (by simp[hy]))with⟨h1,h2⟩|⟨j,e',h1,h2,h3,h4⟩
   ·left
    refine⟨by simp[Instr.findNow,hr,h1],fun y hy=>?_⟩;rcases List.mem_cons.1 hy with rfl|hy
    ·exact eY
    ·exact h2 y hy
   ·right
    refine⟨j+1,e',by simp[Instr.findNow,hr,h1,jh,Nat.add_comm 1 j],by simpa using h2,h3,fun y hy=>?_⟩;simp only[eN,List.mem_cons]at hy;rcases hy with rfl|hy
    ·exact eY
    ·exact h4 y hy
  ·right
   exact⟨0,e,by simp[Instr.findNow,hr],rfl,(xy.1 rfl).symm,by simp⟩
theorem De{t:TypeId}{kd:KD}{x:Value}(h:n5 P t=some kd)(hx:KM kd x)(es:List MapEntry)(fY:∀e∈es,KM kd e.key):
 ((Instr.findKey t x es).run P w= .ok none w∧∀e∈es,e.key≠x)∨∃j e,(Instr.findKey t x es).run P w= .ok (some (j,e.val)) w∧es[j]?=some e∧e.key=x∧∀e'∈es.take j,e'.key≠x:=by
 rcases ss h with⟨k,rfl,hk⟩|⟨l,rfl,hl⟩
 ·obtain⟨d,hd,cN⟩:=Gk.isKey hk hx;have hks:∀y∈es,IsKey d y.key:=fun y hy=>by
   obtain⟨d',hd',h1⟩:=Gk.isKey hk (fY y hy);rw[hd]at hd';cases hd';exact h1
  rcases pZ cN es 0 hks with⟨h1,h2⟩|⟨j,e0,h1,h2,h3,h4⟩
  ·exact .inl ⟨run_findKey hd h1,h2⟩
  ·exact .inr ⟨j,e0,by simpa using run_findKey hd h1,h2,h3,h4⟩
 ·obtain⟨fs,hu,hf,hs,hk⟩:=mL hl;obtain⟨xs,rfl,su⟩:=id hx;have aiz:(Instr.findKey t (.agg xs) es).run P w=(Instr.findAsking t (.agg xs) es 0).run P w:=by
   simp only[Instr.findKey,Sem.run_bind,run_underlying hu,Result.andThen_ok];cases es with
   |nil=>simp[Instr.findNow,Instr.findAsking]
   |cons e es=>
    have:Instr.findNow (.struct fs) (.agg xs) (e::es) 0=none:=by simp[Instr.findNow,Instr.sameNow]
    rw[this]
  rw[aiz];rcases oY h hx es 0 fY with h1|⟨j,e,h1,h2⟩
  ·exact .inl h1
  ·exact .inr ⟨j,e,by simpa using h1,h2⟩
theorem sR{k:nZ}{a:Value}(ha:Gk k a)(n:Nat):Instr.sameBits n a a=true:=by
 cases k
 ·obtain⟨n',rfl⟩:=ha;simp[Instr.sameBits]
 ·obtain⟨s,rfl⟩:=ha;simp[Instr.sameBits,bytes_beq]
theorem sQ(n:Nat):∀{l:List nZ} {us:List Value},zF l us→∀p∈us.zip us,Instr.sameBits n p.1 p.2=true
 |[],[],_,p,hp=>by simp at hp
 |k::l,u::us,h,p,hp=>by
  simp only[List.zip_cons_cons,List.mem_cons]at hp;rcases hp with rfl|hp
  ·exact sR h.1 n
  ·exact sQ n h.2 p hp
 |[],_::_,h,_,_=>h.elim
 |_::_,[],h,_,_=>h.elim
theorem rS{kd:KD}{a:Value}(ha:KM kd a):(Instr.keyThatStays a a).run P w= .ok a w:=by
 have:Instr.sameBits 10000 a a=true:=by
  cases kd with
  |one k=>exact sR ha _
  |st l=>
   obtain⟨us,rfl,hu⟩:=ha;show Instr.sameBits (9999+1) (.agg us) (.agg us)=true;simp only[Instr.sameBits,beq_self_eq_true,aX,fB];rintro⟨p,q⟩ hp;exact sQ 9999 hu (p,q) hp
 simp[Instr.keyThatStays,this]
end
end Go.AL
