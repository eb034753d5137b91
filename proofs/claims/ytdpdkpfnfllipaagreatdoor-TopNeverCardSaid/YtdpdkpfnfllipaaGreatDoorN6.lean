/- A part of the proof, no condition. -/
import Derived.Test.YtdpdkpfnfllipaaGreatDoorN5
set_option linter.unusedVariables false
set_option linter.unusedSimpArgs false
namespace Go.Proofs.YtdpdkpfnfllipaaGreatDoor
structure OwnRows(lo:Nat)(h:Hp)(t:Sl)(rows:List (Sl × List UInt8)):Prop where
 own:Own lo 1 h t (rows.map fun p=>slV p.1)
 each:∀ p∈rows,Rd 1 h p.1 (p.2.map bv)
 base:∀ p∈rows,∀ a,p.1.base=some a→lo≤a.block∧a.block<h.size∧∀ a',t.base=some a'→a.block≠a'.block
theorem OwnRows.nil(lo:Nat)(h:Hp):OwnRows lo h Sl.nil []:=⟨Own.nil _ _ _,fun p hp=>by simp at hp,fun p hp=>by simp at hp⟩
theorem OwnRows.len{lo:Nat}{h:Hp}{t:Sl}{rows:List (Sl × List UInt8)}(o:OwnRows lo h t rows):t.len=rows.length:=by
 have:=o.own.len;simpa using this.symm
theorem Rd.eq{sz:Nat}{h h':Hp}{s:Sl}{l:List Value}(r:Rd sz h s l)(e:∀ a,s.base=some a→h'[a.block]? = h[a.block]?):Rd sz h' s l:=⟨r.len,r.cap,r.rd.eq e⟩
theorem OwnRows.eq{lo:Nat}{h h':Hp}{t:Sl}{rows:List (Sl × List UInt8)}(o:OwnRows lo h t rows)(hs:h.size≤h'.size)(e:∀ b,lo≤b→b<h.size→h'[b]? = h[b]?):OwnRows lo h' t rows:=
 ⟨o.own.eq fun a ha=>e _ (o.own.lt ha).1 (o.own.lt ha).2,fun p hp=>(o.each p hp).eq fun a ha=>e _ (o.base p hp a ha).1 (o.base p hp a ha).2.1,
  fun p hp a ha=>⟨(o.base p hp a ha).1,Nat.lt_of_lt_of_le (o.base p hp a ha).2.1 hs,(o.base p hp a ha).2.2⟩⟩
theorem OwnRows.ext{lo:Nat}{h h':Hp}{t:Sl}{rows:List (Sl × List UInt8)}(o:OwnRows lo h t rows)(e:Ext h h'):OwnRows lo h' t rows:=o.eq e.size fun b _ hb=>e.block b hb
theorem OwnRows.weak{lo lo':Nat}{h:Hp}{t:Sl}{rows:List (Sl × List UInt8)}(o:OwnRows lo h t rows)(hl:lo'≤lo):OwnRows lo' h t rows:=
 ⟨o.own.weak hl,o.each,fun p hp a ha=>⟨Nat.le_trans hl (o.base p hp a ha).1,(o.base p hp a ha).2⟩⟩
theorem OwnRows.push1{lo e ty by_:Nat}{h h1:Hp}{t u:Sl}{rows:List (Sl × List UInt8)}{l:List UInt8}{zc:Array Value}{K:Sl→Hp→Prop}(hz:zc.size=1)(o:OwnRows lo h t rows)(hlo:lo≤h.size)(e1:Ext h h1)(ou:Own h.size 1 h1 u (l.map bv))
 (hb:(rows.length+1)*by_≤140737488355328) (hK:∀ r h',OwnRows lo h' r (rows ++ [(u,l)])→r.len=rows.length+1→Keep lo h h'→(∀ b,b<h1.size→(∀ a,t.base=some a→b≠a.block)→h'[b]? = h1[b]?)→(∀ a,r.base=some a→t.base=some a∨h1.size≤a.block)→K r h')
 (hby:1≤by_):AppC e 1 by_ zc t (Sl.mk (some (nw h1)) 1 1) (alc h1 [slV u] ty) K:=by
 have hlen:=o.len
 have hle:(rows.length+1)*1≤(rows.length+1)*by_:=Nat.mul_le_mul_left _ hby
 have ot:=o.own.ext e1
 refine AppC_own5 (news:=[slV u]) (l:=rows.map fun p=>slV p.1) hz (ot.ext (alc_ext h1 [slV u] ty)) (by rw[size_alc];have:=e1.size;omega) rfl (RdC.alc h1 _ ty) (fun v hv=>by simp at hv;subst hv;rfl) (by rw[hlen];simpa using hb) (by rw[hlen];simp;omega) fun r h' o' l' k' x' b'=>?_
 have hsz:=e1.size
 have s2:(alc h1 [slV u] ty).size=h1.size+1:=size_alc _ _ _
 have same:∀ b,b<h1.size→(∀ a,t.base=some a→b≠a.block)→h'[b]? = h1[b]?:=fun b hb hne=>by
  rw[x' b (by omega) hne,alc_old _ _ _ hb]
 have kp:Keep lo h h':=⟨by have:=k'.size;omega,fun b hb=>by
  rw[k'.block b hb,alc_old _ _ _ (by omega),e1.block b (by omega)]⟩
 refine hK r h' ⟨by simpa using o',?_,?_⟩ (by rw[l',hlen]) kp same (fun a ha=>by
  rcases b' a ha with h | h
  ·exact .inl h
  ·exact .inr (by omega))
 ·intro p hp
  rcases List.mem_append.1 hp with hp | hp
  ·exact((o.each p hp).ext e1).eq fun a ha=>same _ (by have:=(o.base p hp a ha).2.1;omega) (o.base p hp a ha).2.2
  ·simp only[List.mem_cons,List.not_mem_nil,or_false]at hp
   subst hp
   exact ou.toRd.eq fun a ha=>same _ (ou.lt ha).2 fun a' ha'=>by
    have:=(ou.lt ha).1
    have:=(o.own.lt ha').2
    omega
 ·intro p hp a ha
  have hlt:∀ a',r.base=some a'→t.base=some a'∨h1.size≤a'.block:=fun a' ha'=>by
   rcases b' a' ha' with h | h
   ·exact .inl h
   ·exact .inr (by omega)
  have hsz':=k'.size
  rcases List.mem_append.1 hp with hp | hp
  ·obtain⟨q1,q2,q3⟩:=o.base p hp a ha
   refine⟨q1,by omega,fun a' ha'=>?_⟩
   rcases hlt a' ha' with h | h
   ·exact q3 a' h
   ·omega
  ·simp only[List.mem_cons,List.not_mem_nil,or_false]at hp
   subst hp
   obtain⟨q1,q2⟩:=ou.lt ha
   refine⟨by omega,by omega,fun a' ha'=>?_⟩
   rcases hlt a' ha' with h | h
   ·have:=(o.own.lt h).2;omega
   ·omega
theorem OwnRows.push{lo e ty by_:Nat}{h h1:Hp}{t u:Sl}{rows:List (Sl × List UInt8)}{l:List UInt8}{zc:Array Value}{K:Sl→Hp→Prop}(hz:zc.size=1)(o:OwnRows lo h t rows)(hlo:lo≤h.size)(e1:Ext h h1)(ou:Own h.size 1 h1 u (l.map bv))
 (hb:(rows.length+1)*by_≤140737488355328) (hK:∀ r h',OwnRows lo h' r (rows ++ [(u,l)])→r.len=rows.length+1→Keep lo h h'→(∀ b,b<h.size→(∀ a,t.base=some a→b≠a.block)→h'[b]? = h[b]?)→(∀ a,r.base=some a→t.base=some a∨h1.size≤a.block)→K r h')
 (hby:1≤by_):AppC e 1 by_ zc t (Sl.mk (some (nw h1)) 1 1) (alc h1 [slV u] ty) K:=
 o.push1 hz hlo e1 ou hb (fun r h' a b c d f=>hK r h' a b c (fun k hk hne=>by rw[d k (Nat.lt_of_lt_of_le hk e1.size) hne,e1.block k hk]) f) hby
theorem ixS{h:Hp}{s:Sl}{rows:List (Sl × List UInt8)}(hr:RdC h s.base (rows.map fun p=>slV p.1))(hl:s.len=rows.length){i:Int}(k:Nat)(hi:i=k)(hk:k<rows.length){K:Sl→Prop}
 (hK:K rows[k].1):∃ a:Addr,s.base=some a∧0≤i∧i<(s.len:Int)∧∃ c:Sl,hY h (a.add (i.toNat*1))=some (.slice c.base c.len c.cap)∧K c:=
 ix1 hr (by simpa using hl.symm) k hi (by simpa using hk) fun a _ hc=>⟨rows[k].1,by simpa [slV] using hc,hK⟩
def onlyB(c:Nat)(o:Obj):Hp:=(Array.replicate c (.cells #[] 0 (0,0))).push o
theorem onlyB_at(c:Nat)(o:Obj):(onlyB c o)[c]? = some o:=by unfold onlyB;rw[Array.getElem?_push];simp
theorem sub_only{c:Nat}{ob:Obj}{h':Hp}(hb:h'[c]? = some ob):Sub (onlyB c ob) h':=by
 refine⟨fun a v hc=>?_,fun r es k hm=>(by
  by_cases e:r=c
  ·subst e;rw[onlyB_at]at hm;rw[hb];exact hm
  ·exfalso
   by_cases lt:r<c
   ·have:(onlyB c ob)[r]? = some (.cells #[] 0 (0,0)):=by simp[onlyB,Array.getElem?_push,e,lt]
    rw[this]at hm;cases hm
   ·have:(onlyB c ob)[r]? = none:=by simp[onlyB,Array.getElem?_push,e,lt]
    rw[this]at hm;cases hm)⟩
 by_cases e:a.block=c
 ·rw[← hc];exact hcell_eq (by rw[e,hb,onlyB_at])
 ·exfalso
  by_cases lt:a.block<c
  ·have:(onlyB c ob)[a.block]? = some (.cells #[] 0 (0,0)):=by simp[onlyB,Array.getElem?_push,e,lt]
   simp[hY,hw,World.cell?,this]at hc
  ·have:(onlyB c ob)[a.block]? = none:=by simp[onlyB,Array.getElem?_push,e,lt]
   simp[hY,hw,World.cell?,this]at hc
theorem Row.only{h:Hp}{b:Nat}{l:List Value}(x:Row h b l):∃ ob,h[b]? = some ob∧Row (onlyB b ob) b l:=by
 obtain⟨e,he⟩:=x
 exact⟨_,he,e,onlyB_at _ _⟩
theorem add0(b:Nat):(⟨b,0,none⟩:Addr).add 0=⟨b,0,none⟩:=by rw[add_none]
theorem Row.set0{h:Hp}{b:Nat}{l:List Value}(x:Row h b l)(hi:0<l.length)(v:Value) :
 StOk h ⟨b,0,none⟩∧Row (hset h ⟨b,0,none⟩ v) b (l.set 0 v)∧(∀ k,k≠b→(hset h ⟨b,0,none⟩ v)[k]? = h[k]?)∧(hset h ⟨b,0,none⟩ v).size=h.size:=by
 have:=x.set hi v
 rwa[add0]at this
structure Chg(F:Nat→Nat)(h h':Hp):Prop where
 size:h.size≤h'.size
 block:∀ b,b<h.size→F b=0→h'[b]? = h[b]?
theorem Chg.refl(F:Nat→Nat)(h:Hp):Chg F h h:=⟨Nat.le_refl _,fun _ _ _=>rfl⟩
theorem Ext.chg{h h':Hp}(e:Ext h h')(F:Nat→Nat):Chg F h h':=⟨e.size,fun b hb _=>e.block b hb⟩
theorem Chg.trans{F G:Nat→Nat}{a b c:Hp}(x:Chg F a b)(g:∀ k,k<a.size→G k=F k)(y:Chg G b c):Chg F a c:=
 ⟨Nat.le_trans x.size y.size,fun k hk hF=>(y.block k (Nat.lt_of_lt_of_le hk x.size) (by rw[g k hk];exact hF)).trans (x.block k hk hF)⟩
theorem Chg.ext{F:Nat→Nat}{h0 h h':Hp}(x:Chg F h h')(e:Ext h0 h)(hF:∀ b,b<h0.size→F b=0):Ext h0 h':=
 ⟨Nat.le_trans e.size x.size,fun b hb=>(x.block b (Nat.lt_of_lt_of_le hb e.size) (hF b hb)).trans (e.block b hb)⟩
theorem addF{F:Nat→Nat}{n:Nat}(hd:∀ b,F b≠0→b<n)(o:Option Addr)(r:Nat)(hr:r≠0)(ho:∀ a,o=some a→n≤a.block∨F a.block=r) :
 ∃ F':Nat→Nat,(∀ b,b<n→F' b=F b)∧(∀ a,o=some a→F' a.block=r)∧(∀ b,F' b≠0→F b≠0 ∨∃ a,o=some a∧a.block=b)∧(∀ b,F b≠0→F' b=F b):=by
 refine⟨fun b=>if b<n then F b else if o.map (·.block)=some b then r else 0,fun b hb=>if_pos hb,fun a ha=>?_,fun b hb=>?_,fun b hb=>if_pos (hd b hb)⟩
 ·subst ha
  simp only[Option.map_some]
  rcases ho a rfl with h | h
  ·rw[if_neg (by omega)];simp
  ·rw[if_pos (hd _ (by rw[h];exact hr))];exact h
 ·simp only at hb
  split at hb
  ·exact .inl hb
  ·split at hb
   ·rename_i h
    obtain⟨a,ha,hab⟩:=Option.map_eq_some_iff.1 h
    exact .inr ⟨a,ha,hab⟩
   ·exact absurd rfl hb
theorem loc2{h:Hp}{K:Hp→Prop}{v0 v1 w0 w1:Value}{t:Nat}(ok0:cellOk v0=true)(ok1:cellOk v1=true)
 (hK:∀ h',Ext h h'→Row h' h.size [v0,v1]→K h'):stCells (nw h) 0 [v0,v1] (alc h [w0,w1] t) K:=
 (Row.alc h [w0,w1] t).put (vs:=[v0,v1]) rfl (by simp[ok0,ok1]) fun h' r' s' o'=>hK h' ⟨by rw[s',size_alc];omega,fun b hb=>by rw[o' b (by omega),alc_old _ _ _ hb]⟩ r'
abbrev PutD:=Int × List UInt8
abbrev TxD:=Int × List PutD
theorem ffIff{p:Prop}(h:¬ p):(false=true)↔p:=⟨fun e=>(by cases e),fun hp=>absurd hp h⟩
theorem ttIff{p:Prop}(h:p):(true=true)↔p:=⟨fun _=>h,fun _=>rfl⟩
def c2(l:List (Int × Sl)):List Value:=l.flatMap fun p=>[.int .i64 p.1,slV p.2]
theorem c2_cons(p:Int × Sl)(r:List (Int × Sl)):c2 (p::r)=.int .i64 p.1::slV p.2::c2 r:=rfl
theorem c2_length:∀ l,(c2 l).length=l.length*2
 | []=>rfl
 | p::r=>by rw[c2_cons];simp only[List.length_cons,c2_length r];omega
theorem c2_get0:∀ (l:List (Int × Sl)) (i:Nat),(c2 l)[i*2]? =(l[i]?).map fun p=>.int .i64 p.1
 | [],i=>by simp[c2]
 | p::r,0=>rfl
 | p::r,i+1=>by rw[c2_cons,show(i+1)*2=i*2+1+1 by omega];simpa using c2_get0 r i
theorem c2_get1:∀ (l:List (Int × Sl)) (i:Nat),(c2 l)[i*2+1]? =(l[i]?).map fun p=>slV p.2
 | [],i=>by simp[c2]
 | p::r,0=>rfl
 | p::r,i+1=>by rw[c2_cons,show(i+1)*2+1=i*2+1+1+1 by omega];simpa using c2_get1 r i
theorem c2_append(a b:List (Int × Sl)):c2 (a++b)=c2 a++c2 b:=by simp[c2]
theorem c2_ok(l:List (Int × Sl)):∀ v∈c2 l,cellOk v=true:=by
 intro v hv
 obtain⟨p,_,h⟩:=List.mem_flatMap.1 hv
 simp only[List.mem_cons,List.not_mem_nil,or_false]at h
 rcases h with rfl | rfl <;> rfl
theorem c2_drop:∀ (l:List (Int × Sl)) (k:Nat),(c2 l).drop (k*2)=c2 (l.drop k)
 | l,0=>by simp
 | [],k+1=>by simp[c2]
 | p::r,k+1=>by rw[c2_cons,show(k+1)*2=k*2+1+1 by omega];simpa using c2_drop r k
theorem c2_take:∀ (l:List (Int × Sl)) (k:Nat),(c2 l).take (k*2)=c2 (l.take k)
 | l,0=>by simp[c2]
 | [],k+1=>by simp[c2]
 | p::r,k+1=>by rw[c2_cons,show(k+1)*2=k*2+1+1 by omega];simp only[List.take_succ_cons];rw[c2_take r k];rfl
theorem ix2{h:Hp}{s:Sl}{l:List (Int × Sl)}(r:Rd 2 h s (c2 l)){i:Int}(k:Nat)(hi:i=k)(hk:k<l.length){K:Addr→Prop}
 (hK:∀ a,hY h (a.add (i.toNat*2))=some (.int .i64 l[k].1)→hY h ((a.add (i.toNat*2)).add 1)=some (.slice l[k].2.base l[k].2.len l[k].2.cap)→K a):∃ a:Addr,s.base=some a∧0≤i∧i<(s.len:Int)∧K a:=by
 subst hi
 have hl:=r.len
 rw[c2_length]at hl
 obtain⟨a,ha,c0⟩:=r.rd (k*2) (.int .i64 l[k].1) (by rw[c2_get0,List.getElem?_eq_getElem hk];rfl)
 obtain⟨a',ha',c1⟩:=r.rd (k*2+1) (slV l[k].2) (by rw[c2_get1,List.getElem?_eq_getElem hk];rfl)
 obtain rfl:a=a':=by rw[ha]at ha';exact Option.some.inj ha'
 exact⟨a,ha,by omega,by omega,hK a (by simpa using c0) (by rw[add_add];simpa [slV] using c1)⟩
theorem Rd.mv{sz:Nat}{h h':Hp}{s:Sl}{l:List Value}(r:Rd sz h s l){B:Nat→Prop}(hb:∀ a,s.base=some a→s.len≠0→B a.block)(e:∀ b,B b→h'[b]? = h[b]?):Rd sz h' s l:=by
 by_cases h0:s.len=0
 ·have hl:=r.len
  have:l = []:=List.eq_nil_of_length_eq_zero (by rw[hl,h0];simp)
  subst this
  exact⟨r.len,r.cap,RdC.nil _ _⟩
 ·exact r.eq fun a ha=>e _ (hb a ha h0)
def PutsR(B:Nat→Prop)(h:Hp)(s:Sl)(P:List PutD):Prop:=
 ∃ L:List ((Int × Sl) × List UInt8),P=L.map (fun x=>(x.1.1,x.2))∧Rd 2 h s (c2 (L.map (·.1)))∧(∀ a,s.base=some a→s.len≠0→B a.block)∧∀ x∈L,Rd 1 h x.1.2 (x.2.map bv)∧∀ a,x.1.2.base=some a→x.1.2.len≠0→B a.block
theorem PutsR.ext{B:Nat→Prop}{h h':Hp}{s:Sl}{P:List PutD}(p:PutsR B h s P)(e:Ext h h'):PutsR B h' s P:=by
 obtain⟨L,h1,h2,h3,h4⟩:=p
 exact⟨L,h1,h2.ext e,h3,fun x hx=>⟨(h4 x hx).1.ext e,(h4 x hx).2⟩⟩
theorem PutsR.eq{B:Nat→Prop}{h h':Hp}{s:Sl}{P:List PutD}(p:PutsR B h s P)(e:∀ b,B b→h'[b]? = h[b]?):PutsR B h' s P:=by
 obtain⟨L,h1,h2,h3,h4⟩:=p
 exact⟨L,h1,h2.mv h3 e,h3,fun x hx=>⟨(h4 x hx).1.mv (h4 x hx).2 e,(h4 x hx).2⟩⟩
theorem PutsR.mono{B B':Nat→Prop}{h:Hp}{s:Sl}{P:List PutD}(p:PutsR B h s P)(hb:∀ b,B b→B' b):PutsR B' h s P:=by
 obtain⟨L,h1,h2,h3,h4⟩:=p
 exact⟨L,h1,h2,fun a ha h0=>hb _ (h3 a ha h0),fun x hx=>⟨(h4 x hx).1,fun a ha h0=>hb _ ((h4 x hx).2 a ha h0)⟩⟩
theorem PutsR.len{B:Nat→Prop}{h:Hp}{s:Sl}{P:List PutD}(p:PutsR B h s P):s.len=P.length:=by
 obtain⟨L,rfl,h2,_⟩:=p
 have:=h2.len
 rw[c2_length]at this
 simp at this ⊢;omega
theorem PutsR.ix{B:Nat→Prop}{h:Hp}{s:Sl}{P:List PutD}(p:PutsR B h s P){i:Int}(k:Nat)(hi:i=k)(hk:k<P.length){K:Addr→Prop}
 (hK:∀ a d,hY h (a.add (i.toNat*2))=some (.int .i64 P[k].1)→hY h ((a.add (i.toNat*2)).add 1)=some (.slice d.base d.len d.cap)→Rd 1 h d (P[k].2.map bv)→(∀ a,d.base=some a→d.len≠0→B a.block)→K a):∃ a:Addr,s.base=some a∧0≤i∧i<(s.len:Int)∧K a:=by
 obtain⟨L,rfl,h2,h3,h4⟩:=p
 have hkL:k<L.length:=by simpa using hk
 refine ix2 h2 k hi (by simpa using hkL) fun a c0 c1=>?_
 have hm:=h4 L[k] (List.getElem_mem hkL)
 exact hK a L[k].1.2 (by simpa using c0) (by simpa using c1) (by simpa using hm.1) hm.2
def TxsR(B:Nat→Prop)(h:Hp)(s:Sl)(T:List TxD):Prop:=
 ∃ L:List ((Int × Sl) × List PutD),T=L.map (fun x=>(x.1.1,x.2))∧Rd 2 h s (c2 (L.map (·.1)))∧(∀ a,s.base=some a→s.len≠0→B a.block)∧∀ x∈L,PutsR B h x.1.2 x.2
theorem TxsR.ext{B:Nat→Prop}{h h':Hp}{s:Sl}{T:List TxD}(p:TxsR B h s T)(e:Ext h h'):TxsR B h' s T:=by
 obtain⟨L,h1,h2,h3,h4⟩:=p
 exact⟨L,h1,h2.ext e,h3,fun x hx=>(h4 x hx).ext e⟩
theorem TxsR.eq{B:Nat→Prop}{h h':Hp}{s:Sl}{T:List TxD}(p:TxsR B h s T)(e:∀ b,B b→h'[b]? = h[b]?):TxsR B h' s T:=by
 obtain⟨L,h1,h2,h3,h4⟩:=p
 exact⟨L,h1,h2.mv h3 e,h3,fun x hx=>(h4 x hx).eq e⟩
theorem TxsR.mono{B B':Nat→Prop}{h:Hp}{s:Sl}{T:List TxD}(p:TxsR B h s T)(hb:∀ b,B b→B' b):TxsR B' h s T:=by
 obtain⟨L,h1,h2,h3,h4⟩:=p
 exact⟨L,h1,h2,fun a ha h0=>hb _ (h3 a ha h0),fun x hx=>(h4 x hx).mono hb⟩
theorem TxsR.len{B:Nat→Prop}{h:Hp}{s:Sl}{T:List TxD}(p:TxsR B h s T):s.len=T.length:=by
 obtain⟨L,rfl,h2,_⟩:=p
 have:=h2.len
 rw[c2_length]at this
 simp at this ⊢;omega
theorem TxsR.ix{B:Nat→Prop}{h:Hp}{s:Sl}{T:List TxD}(p:TxsR B h s T){i:Int}(k:Nat)(hi:i=k)(hk:k<T.length){K:Addr→Prop}
 (hK:∀ a d,hY h (a.add (i.toNat*2))=some (.int .i64 T[k].1)→hY h ((a.add (i.toNat*2)).add 1)=some (.slice d.base d.len d.cap)→PutsR B h d T[k].2→K a):∃ a:Addr,s.base=some a∧0≤i∧i<(s.len:Int)∧K a:=by
 obtain⟨L,rfl,h2,h3,h4⟩:=p
 have hkL:k<L.length:=by simpa using hk
 refine ix2 h2 k hi (by simpa using hkL) fun a c0 c1=>?_
 have hm:=h4 L[k] (List.getElem_mem hkL)
 exact hK a L[k].1.2 (by simpa using c0) (by simpa using c1) (by simpa using hm)
theorem Row.get2s{h:Hp}{b:Nat}{x:Int}{y:Sl}(r:Row h b [.int .i64 x,.slice y.base y.len y.cap]){K:Int→Sl→Prop}(hK:K x y) :
 ∃ c:Int,∃ c1:Sl,hY h ⟨b,0,none⟩=some (.int .i64 c)∧hY h ((⟨b,0,none⟩:Addr).add 1)=some (.slice c1.base c1.len c1.cap)∧K c c1:=⟨x,y,r.get0 rfl,r.get rfl,hK⟩
def tm(T:List TxD)(j:Nat):Int:=(T.getD j (0,[])).1
def pt(T:List TxD)(j:Nat):List PutD:=(T.getD j (0,[])).2
def lb(P:List PutD)(j:Nat):Int:=(P.getD j (0,[])).1
theorem tm_get{T:List TxD}{j:Nat}(h:j<T.length):T[j].1=tm T j:=by simp[tm,h]
theorem pt_get{T:List TxD}{j:Nat}(h:j<T.length):T[j].2=pt T j:=by simp[pt,h]
theorem lb_get{P:List PutD}{j:Nat}(h:j<P.length):P[j].1=lb P j:=by simp[lb,h]
def prevT(T:List TxD)(j:Nat):Int:=if j=0 then 0 else tm T (j-1)
def RisesP(P:List PutD):Prop:=∀ k,0<k→k<P.length→lb P (k-1)<lb P k
def OrderP(T:List TxD):Prop:=∀ j,j<T.length→prevT T j<tm T j∧tm T j≤1099511627776∧(pt T j).length≠0∧RisesP (pt T j)
def blocksN(T:List TxD):Nat:=1+(T.map (·.2.length)).sum
def PutOk(p:PutD):Prop:=0≤p.1∧p.1≤1048576∧p.2.length=40
structure CheckP(num:Int)(T:List TxD):Prop where
 num:1≤num∧num≤1099511627776
 len:1≤T.length∧T.length≤8
 order:OrderP T
 blocks:blocksN T≤33
 each:∀ j,j<T.length→(0<j→tm T j-tm T (j-1)≤65535)∧(pt T j).length≤16∧∀ p∈pt T j,PutOk p
theorem blocksN_take{T:List TxD}{j:Nat}(h:j<T.length):blocksN (T.take (j+1))=blocksN (T.take j)+(pt T j).length:=by
 unfold blocksN
 rw[List.take_succ_eq_append_getElem h,List.map_append,List.sum_append]
 simp[pt,h];omega
theorem blocksN_le(T:List TxD)(j:Nat):blocksN (T.take j)≤blocksN T:=by
 unfold blocksN
 conv=>rhs;rw[← List.take_append_drop j T]
 rw[List.map_append,List.sum_append];omega
inductive AK where
 | vers (lba:Int)
 | reads (i:Nat)
 | exts
 | ops (k:Nat)
 | begs (k:Nat)
 | ans (k:Nat)
def AK.sz:AK→Nat
 | .vers _=>2
 | .reads _=>3
 | .exts=>2
 | .ops _=>5
 | .begs _=>1
 | .ans _=>5
theorem AK.sz_pos(a:AK):0<a.sz:=by cases a <;> simp[AK.sz]
inductive Kd where
 | any
 | dev (n:Nat)
 | one (n:Nat)
 | tx (n i:Nat)
 | beg (i:Nat)
 | bytes (l:List UInt8)
 | puts (L:List ((Int × Sl) × List UInt8))
 | arr (a:AK) (n:Nat)
def Mut:Kd→Prop
 | .any=>False
 | .bytes _=>False
 | .puts _=>False
 | _=>True
structure Gh where
 k:Nat→Kd
 n:Nat→Nat
 W:Int→List UInt8→Prop
structure Gh.Le(G G':Gh):Prop where
 k:∀ b,G.k b ≠ .any→G'.k b=G.k b
 n:∀ b,G.n b≤G'.n b
 W:∀ a l,G.W a l→G'.W a l
theorem Gh.Le.refl(G:Gh):G.Le G:=⟨fun _ _=>rfl,fun _=>Nat.le_refl _,fun _ _ h=>h⟩
theorem Gh.Le.trans{A B C:Gh}(x:A.Le B)(y:B.Le C):A.Le C:=
 ⟨fun b hb=>by rw[y.k b (by rw[x.k b hb];exact hb),x.k b hb],fun b=>Nat.le_trans (x.n b) (y.n b),fun a l h=>y.W a l (x.W a l h)⟩
theorem Gh.Le.kk{G G':Gh}(x:G.Le G'){b:Nat}{k:Kd}(h:G.k b=k)(hk:k ≠ .any):G'.k b=k:=by rw[x.k b (by rw[h];exact hk),h]
def SlB(G:Gh)(s:Sl)(l:List UInt8):Prop:=
 s.len=l.length∧s.len≤s.cap∧(l = [] ∨∃ b o all,s.base=some ⟨b,o,none⟩∧G.k b=.bytes all∧(all.drop o).take l.length=l)
def SlP(G:Gh)(s:Sl)(P:List PutD):Prop:=
 s.len=P.length∧s.len≤s.cap∧(P = [] ∨∃ b L,s.base=some ⟨b,0,none⟩∧G.k b=.puts L∧P=L.map fun x=>(x.1.1,x.2))
def SlA(G:Gh)(a:AK)(s:Sl):Prop:=
 s.len≤s.cap∧((s.base=none∧s.cap=0) ∨∃ b o N,s.base=some ⟨b,o*a.sz,none⟩∧G.k b=.arr a N∧o+s.cap≤N∧o+s.len≤G.n b)
theorem SlB.mono{G G':Gh}(x:G.Le G'){s:Sl}{l:List UInt8}(h:SlB G s l):SlB G' s l:=by
 obtain⟨h1,h2,h3 | ⟨b,o,all,h3,h4,h5⟩⟩:=h
 ·exact⟨h1,h2,.inl h3⟩
 ·exact⟨h1,h2,.inr ⟨b,o,all,h3,x.kk h4 (by simp),h5⟩⟩
theorem SlA.mono{G G':Gh}(x:G.Le G'){a:AK}{s:Sl}(h:SlA G a s):SlA G' a s:=by
 obtain⟨h2,h3 | ⟨b,o,N,h3,h4,h5,h6⟩⟩:=h
 ·exact⟨h2,.inl h3⟩
 ·exact⟨h2,.inr ⟨b,o,N,h3,x.kk h4 (by simp),h5,Nat.le_trans h6 (x.n b)⟩⟩
theorem SlP.mono{G G':Gh}(x:G.Le G'){s:Sl}{P:List PutD}(h:SlP G s P):SlP G' s P:=by
 obtain⟨h1,h2,h3 | ⟨b,L,h3,h4,h5⟩⟩:=h
 ·exact⟨h1,h2,.inl h3⟩
 ·exact⟨h1,h2,.inr ⟨b,L,h3,x.kk h4 (by simp),h5⟩⟩
theorem SlP.nil(G:Gh):SlP G Sl.nil []:=⟨rfl,Nat.le_refl _,.inl rfl⟩
theorem SlB.nil(G:Gh):SlB G Sl.nil []:=⟨rfl,Nat.le_refl _,.inl rfl⟩
theorem SlA.nil(G:Gh)(a:AK):SlA G a Sl.nil:=⟨Nat.le_refl _,.inl ⟨rfl,rfl⟩⟩
def PutsB(P:List PutD):Prop:=P.length≤1000000∧∀ p∈P,p.2.length≤1000000
def okE(G:Gh):AK→List Value→Prop
 | .vers lba,l=>∃ (t:Int) (d:Sl) (bs:List UInt8),l = [.int .i64 t,.slice d.base d.len d.cap]∧SlB G d bs∧bs.length=40∧G.W lba bs
 | .reads _,l=>∃ (a:Int) (d:Sl) (o:Bool) (bs:List UInt8),l = [.int .i64 a,.slice d.base d.len d.cap,.bool o]∧SlB G d bs∧bs.length≤40∧(o=true∨bs=List.replicate 40 0∨G.W a bs)
 | .exts,l=>∃ a b:Int,l = [.int .i64 a,.int .i64 b]
 | .ops _,l=>∃ (a b c e:Int) (s:Sl) (P:List PutD),l = [.int .i64 a,.int .i64 b,.int .i64 c,.int .i64 e,.slice s.base s.len s.cap]∧SlP G s P∧PutsB P
 | .begs _,l=>∃ b i:Nat,l = [.pointer (some ⟨b,0,none⟩)]∧G.k b=.beg i
 | .ans _,l=>∃ (a b c e:Int) (d:Sl) (bs:List UInt8),l = [.int .i64 a,.int .i64 b,.int .i64 c,.int .i64 e,.slice d.base d.len d.cap]∧SlB G d bs∧bs.length≤1000000
theorem okE_mono{G G':Gh}(x:G.Le G'):∀ {a:AK} {l:List Value},okE G a l→okE G' a l
 | .vers _,_,⟨t,d,bs,h,b,c,w⟩=>⟨t,d,bs,h,b.mono x,c,x.W _ _ w⟩
 | .reads _,_,⟨a,d,o,bs,h,b,c,w⟩=>⟨a,d,o,bs,h,b.mono x,c,w.imp id (Or.imp id (x.W _ _))⟩
 | .exts,_,h=>h
 | .ops _,_,⟨a,b,c,e,s,P,h,y,z⟩=>⟨a,b,c,e,s,P,h,y.mono x,z⟩
 | .begs _,_,⟨b,i,h,y⟩=>⟨b,i,h,x.kk y (by simp)⟩
 | .ans _,_,⟨a,b,c,e,d,bs,h,y,z⟩=>⟨a,b,c,e,d,bs,h,y.mono x,z⟩
theorem okE_len{G:Gh}:∀ {a:AK} {l:List Value},okE G a l→l.length=a.sz
 | .vers _,_,⟨_,_,_,h,_⟩=>by subst h;rfl
 | .reads _,_,⟨_,_,_,_,h,_⟩=>by subst h;rfl
 | .exts,_,⟨_,_,h⟩=>by subst h;rfl
 | .ops _,_,⟨_,_,_,_,_,_,h,_⟩=>by subst h;rfl
 | .begs _,_,⟨_,_,h,_⟩=>by subst h;rfl
 | .ans _,_,⟨_,_,_,_,_,_,h,_⟩=>by subst h;rfl
theorem okE_cell{G:Gh}{a:AK}{l:List Value}(h:okE G a l):∀ v∈l,cellOk v=true:=by
 cases a
 ·obtain⟨_,_,_,rfl,_⟩:=h;simp[cellOk]
 ·obtain⟨_,_,_,_,rfl,_⟩:=h;simp[cellOk]
 ·obtain⟨_,_,rfl⟩:=h;simp[cellOk]
 ·obtain⟨_,_,_,_,_,_,rfl,_⟩:=h;simp[cellOk]
 ·obtain⟨_,_,rfl,_⟩:=h;simp[cellOk]
 ·obtain⟨_,_,_,_,_,_,rfl,_⟩:=h;simp[cellOk]
structure HT(G:Gh)(h:Hp):Prop where
 dom:∀ b,G.k b ≠ .any→b<h.size
 n0:∀ b,G.k b=.any→G.n b=0
 bytes:∀ b l,G.k b=.bytes l →∃ c e,h[b]? = some (.cells c e (0,0))∧c.toList.take l.length=l.map bv
 puts:∀ b L,G.k b=.puts L→(∃ c e,h[b]? = some (.cells c e (0,0))∧c.toList.take (L.length*2)=c2 (L.map (·.1)))∧∀ x∈L,SlB G x.1.2 x.2
 arr:∀ b a N,G.k b=.arr a N→G.n b≤N∧∃ c e,h[b]? = some (.cells c e (0,0))∧c.size=N*a.sz∧∀ i,i<G.n b→okE G a ((c.toList.drop (i*a.sz)).take a.sz)
theorem HT.fresh{G:Gh}{h:Hp}(t:HT G h){b:Nat}(hb:h.size≤b):G.k b=.any:=by
 rcases Classical.em (G.k b=.any) with e | e
 ·exact e
 ·have:=t.dom b e;omega
def Told:Kd→Prop
 | .bytes _=>True
 | .puts _=>True
 | .arr _ _=>True
 | _=>False
theorem HT.keep{G:Gh}{h h':Hp}(t:HT G h)(hs:h.size≤h'.size)(e:∀ b,Told (G.k b)→h'[b]? = h[b]?):HT G h':=
 ⟨fun b hb=>Nat.lt_of_lt_of_le (t.dom b hb) hs,t.n0,fun b l hb=>by
  obtain⟨c,ty,h1,h2⟩:=t.bytes b l hb
  exact⟨c,ty,by rw[e b (by rw[hb];trivial)];exact h1,h2⟩,
  fun b L hb=>by
   obtain⟨⟨c,ty,h1,h2⟩,h3⟩:=t.puts b L hb
   exact⟨⟨c,ty,by rw[e b (by rw[hb];trivial)];exact h1,h2⟩,h3⟩,
  fun b a N hb=>by
   obtain⟨g,c,ty,h1,h2⟩:=t.arr b a N hb
   exact⟨g,c,ty,by rw[e b (by rw[hb];trivial)];exact h1,h2⟩⟩
theorem HT.ext{G:Gh}{h h':Hp}(t:HT G h)(e:Ext h h'):HT G h':=
 t.keep e.size fun b hb=>e.block b (t.dom b (by intro hk;rw[hk]at hb;exact hb))
theorem SlB.rd{G:Gh}{h:Hp}(t:HT G h){s:Sl}{l:List UInt8}(x:SlB G s l):Rd 1 h s (l.map bv):=by
 obtain⟨h1,h2,h3⟩:=x
 refine⟨by simp[h1],h2,?_⟩
 rcases h3 with rfl | ⟨b,o,all,h3,h4,h5⟩
 ·exact RdC.nil _ _
 ·obtain⟨c,e,g1,g2⟩:=t.bytes b all h4
  intro i v hv
  refine⟨_,h3,?_⟩
  rw[add_none,hcell_blk g1]
  have e1:l[i]? = all[o+i]? ∧i<l.length:=by
   have hi:i<l.length:=by
    have:=(List.getElem?_eq_some_iff.1 hv).1
    simpa using this
   refine⟨?_,hi⟩
   have:=congrArg (fun m=>m[i]?) h5
   simp only[List.getElem?_take,hi,if_true,List.getElem?_drop]at this
   exact this.symm
  rw[List.getElem?_map,e1.1]at hv
  have hlt:o+i<all.length:=by
   rcases Nat.lt_or_ge (o+i) all.length with h | h
   ·exact h
   ·rw[List.getElem?_eq_none h]at hv;cases hv
  have:=congrArg (fun m=>m[o+i]?) g2
  simp only[List.getElem?_take,hlt,if_true,List.getElem?_map,Array.getElem?_toList]at this
  rw[this];exact hv
theorem SlB.slen{G:Gh}{s:Sl}{l:List UInt8}(x:SlB G s l):s.len=l.length:=x.1
theorem SlA.get{G:Gh}{h:Hp}(t:HT G h){a:AK}{s:Sl}(x:SlA G a s){i:Nat}(hi:i<s.len):∃ ad vs,s.base=some ad∧okE G a vs∧∀ j v,vs[j]? = some v→hY h (ad.add (i*a.sz+j))=some v:=by
 obtain⟨h2,h3 | ⟨b,o,N,h3,h4,h5,h6⟩⟩:=x
 ·omega
 ·obtain⟨_,c,e,g1,g2,g3⟩:=t.arr b a N h4
  have hok:=g3 (o+i) (by omega)
  refine⟨_,_,h3,hok,fun j v hv=>?_⟩
  rw[add_none,hcell_blk g1]
  have hj:j<a.sz:=by
   have:=(List.getElem?_eq_some_iff.1 hv).1
   rwa[okE_len hok]at this
  rw[List.getElem?_take,if_pos hj,List.getElem?_drop,Array.getElem?_toList]at hv
  rw[show o*a.sz+(i*a.sz+j)=(o+i)*a.sz+j by rw[Nat.add_mul];omega]
  exact hv
structure To(S:Kd→Prop)(G:Gh)(h:Hp)(G':Gh)(h':Hp):Prop where
 le:G.Le G'
 old:∀ b,b<h.size→G'.k b=G.k b
 size:h.size≤h'.size
 fr:∀ b,b<h.size →¬ (Mut (G.k b)∧S (G.k b))→h'[b]? = h[b]?
 ht:HT G' h'
theorem To.refl{S:Kd→Prop}{G:Gh}{h:Hp}(t:HT G h):To S G h G h:=⟨.refl G,fun _ _=>rfl,Nat.le_refl _,fun _ _ _=>rfl,t⟩
theorem To.trans{S:Kd→Prop}{A B C:Gh}{a b c:Hp}(x:To S A a B b)(y:To S B b C c):To S A a C c:=
 ⟨x.le.trans y.le,fun k hk=>by rw[y.old k (Nat.lt_of_lt_of_le hk x.size),x.old k hk],Nat.le_trans x.size y.size,
  fun k hk hS=>by rw[y.fr k (Nat.lt_of_lt_of_le hk x.size) (by rw[x.old k hk];exact hS),x.fr k hk hS],y.ht⟩
theorem To.mono{S S':Kd→Prop}{A B:Gh}{a b:Hp}(x:To S A a B b)(hS:∀ k,S k→S' k):To S' A a B b:=⟨x.le,x.old,x.size,fun k hk hn=>x.fr k hk fun h=>hn ⟨h.1,hS _ h.2⟩,x.ht⟩
theorem To.ext{S:Kd→Prop}{A B:Gh}{a b c:Hp}(x:To S A a B b)(e:Ext b c):To S A a B c:=
 ⟨x.le,x.old,Nat.le_trans x.size e.size,fun k hk hS=>by rw[e.block k (Nat.lt_of_lt_of_le hk x.size),x.fr k hk hS],x.ht.ext e⟩
theorem Ext.to{S:Kd→Prop}{G:Gh}{h h':Hp}(e:Ext h h')(t:HT G h):To S G h G h':=(To.refl t).ext e
theorem To.toExt{A B:Gh}{a b:Hp}(x:To (fun _=>False) A a B b):Ext a b:=⟨x.size,fun k hk=>x.fr k hk fun h=>h.2⟩
theorem To.blk{S:Kd→Prop}{A B:Gh}{a b:Hp}(x:To S A a B b){k:Nat}{o:Obj}(h:a[k]? = some o)(hS:¬ S (A.k k)):b[k]? = some o:=by rw[x.fr k (blk_lt h) fun h=>hS h.2];exact h
theorem To.row{S:Kd→Prop}{A B:Gh}{a b:Hp}(x:To S A a B b){k:Nat}{l:List Value}(h:Row a k l)(hS:¬ S (A.k k)):Row b k l:=h.eq (x.fr k h.lt fun h=>hS h.2)
theorem To.rowK{S:Kd→Prop}{A B:Gh}{a b:Hp}(x:To S A a B b){k:Nat}{kd:Kd}{l:List Value}(h:Row a k l)(hk:A.k k=kd)(hS:¬ S kd):Row b k l:=x.row h (by rw[hk];exact hS)
theorem To.kd{S:Kd→Prop}{A B:Gh}{a b:Hp}(x:To S A a B b){k:Nat}{kd:Kd}(h:A.k k=kd)(hk:kd ≠ .any):B.k k=kd:=x.le.kk h hk
def Stab(G:Gh)(h:Hp)(b:Nat):Prop:=b<h.size∧¬ Mut (G.k b)
theorem To.stab{S:Kd→Prop}{A B:Gh}{a b:Hp}(x:To S A a B b){k:Nat}(h:Stab A a k):b[k]? = a[k]? ∧Stab B b k:=⟨x.fr k h.1 fun q=>h.2 q.1,Nat.lt_of_lt_of_le h.1 x.size,by rw[x.old k h.1];exact h.2⟩
structure OwnG(sz:Nat)(G:Gh)(h:Hp)(s:Sl)(l:List Value):Prop where
 own:Own 0 sz h s l
 any:∀ a,s.base=some a→G.k a.block=.any
theorem Own.toG{lo sz:Nat}{G:Gh}{h h':Hp}{s:Sl}{l:List Value}(o:Own lo sz h' s l)(t:HT G h)(hl:h.size≤lo):OwnG sz G h' s l:=
 ⟨o.weak (Nat.zero_le _),fun a ha=>t.fresh (Nat.le_trans hl (o.lt ha).1)⟩
def Gh.set(G:Gh)(b:Nat)(k:Kd)(n:Nat):Gh:=⟨fun c=>if c=b then k else G.k c,fun c=>if c=b then n else G.n c,G.W⟩
theorem Gh.set_le{G:Gh}{b:Nat}{k:Kd}{n:Nat}(hb:G.k b=.any)(hn:G.n b≤n):G.Le (G.set b k n):=
 ⟨fun c hc=>by
  show(if c=b then k else G.k c)=_
  rw[if_neg (fun e=>hc (by rw[e];exact hb))],fun c=>by
  show _≤(if c=b then n else G.n c)
  split
  ·rename_i e;rw[e];exact hn
  ·exact Nat.le_refl _,fun _ _ h=>h⟩
theorem Gh.set_k{G:Gh}{b:Nat}{k:Kd}{n:Nat}:(G.set b k n).k b=k:=if_pos rfl
theorem Gh.set_n{G:Gh}{b:Nat}{k:Kd}{n:Nat}:(G.set b k n).n b=n:=if_pos rfl
theorem Gh.set_ne{G:Gh}{b c:Nat}{k:Kd}{n:Nat}(h:c≠b):(G.set b k n).k c=G.k c:=if_neg h
theorem Gh.set_nn{G:Gh}{b c:Nat}{k:Kd}{n:Nat}(h:c≠b):(G.set b k n).n c=G.n c:=if_neg h
theorem HT.setOne{G:Gh}{h:Hp}(t:HT G h){b:Nat}(hb:G.k b=.any)(hlt:b<h.size){k:Kd}(hk:¬ Told k):HT (G.set b k (G.n b)) h:=by
 have hle:G.Le (G.set b k (G.n b)):=Gh.set_le hb (Nat.le_refl _)
 have hk':∀ c,Told ((G.set b k (G.n b)).k c)→c≠b:=by
  rintro c hc e
  rw[e,Gh.set_k]at hc;exact hk hc
 refine⟨fun c hc=>?_,fun c hc=>?_,fun c l hc=>?_,fun c L hc=>?_,fun c a N hc=>?_⟩
 ·by_cases e:c=b
  ·rw[e];exact hlt
  ·rw[Gh.set_ne e]at hc;exact t.dom c hc
 ·by_cases e:c=b
  ·subst e;rw[Gh.set_n];exact t.n0 c hb
  ·rw[Gh.set_ne e]at hc;rw[Gh.set_nn e];exact t.n0 c hc
 ·have e:=hk' c (by rw[hc];trivial)
  rw[Gh.set_ne e]at hc
  exact t.bytes c l hc
 ·have e:=hk' c (by rw[hc];trivial)
  rw[Gh.set_ne e]at hc
  obtain⟨h1,h2⟩:=t.puts c L hc
  exact⟨h1,fun x hx=>(h2 x hx).mono hle⟩
 ·have e:=hk' c (by rw[hc];trivial)
  rw[Gh.set_ne e]at hc
  obtain⟨g1,cc,ty,g2,g3,g4⟩:=t.arr c a N hc
  have hn:(G.set b k (G.n b)).n c=G.n c:=if_neg e
  exact⟨by rw[hn];exact g1,cc,ty,g2,g3,fun i hi=>okE_mono hle (g4 i (by rw[hn]at hi;exact hi))⟩
theorem OwnG.bytes{G:Gh}{h:Hp}{s:Sl}{l:List UInt8}(t:HT G h)(o:OwnG 1 G h s (l.map bv)):∃ G',G.Le G'∧HT G' h∧SlB G' s l∧(∀ b,(∀ a,s.base=some a→b≠a.block)→G'.k b=G.k b)∧G'.W=G.W:=by
 have hlen:l.length=s.len:=by have:=o.own.len;simpa using this
 rcases o.own.row with ⟨h1,h2⟩ | ⟨b,c,e,h1,h2,h3,h4,h5⟩
 ·refine⟨G,.refl G,t,⟨hlen.symm,o.own.le,.inl ?_⟩,fun _ _=>rfl,rfl⟩
  have:=o.own.le
  exact List.eq_nil_of_length_eq_zero (by omega)
 ·have hb:G.k b=.any:=o.any _ h1
  have hle:G.Le (G.set b (.bytes l) (G.n b)):=Gh.set_le hb (Nat.le_refl _)
  refine⟨_,hle,⟨fun c' hc=>?_,fun c' hc=>?_,fun c' l' hc=>?_,fun c' L' hc=>?_,fun c' a N hc=>?_⟩,⟨hlen.symm,o.own.le,.inr ⟨b,0,l,h1,Gh.set_k,by simp⟩⟩,fun b' hb'=>Gh.set_ne (hb' _ h1),rfl⟩
  ·by_cases e':c'=b
   ·rw[e'];exact blk_lt h3
   ·rw[Gh.set_ne e']at hc;exact t.dom c' hc
  ·by_cases e':c'=b
   ·subst e';rw[Gh.set_k]at hc;cases hc
   ·rw[Gh.set_ne e']at hc;rw[Gh.set_nn e'];exact t.n0 c' hc
  ·by_cases e':c'=b
   ·subst e'
    rw[Gh.set_k]at hc
    cases hc
    exact⟨c,e,h3,by rw[Nat.mul_one]at h5;rw[hlen];exact h5⟩
   ·rw[Gh.set_ne e']at hc;exact t.bytes c' l' hc
  ·by_cases e':c'=b
   ·subst e';rw[Gh.set_k]at hc;cases hc
   ·rw[Gh.set_ne e']at hc
    obtain⟨q1,q2⟩:=t.puts c' L' hc
    exact⟨q1,fun x hx=>(q2 x hx).mono hle⟩
  ·by_cases e':c'=b
   ·subst e';rw[Gh.set_k]at hc;cases hc
   ·rw[Gh.set_ne e']at hc
    obtain⟨g1,cc,ty,g2,g3,g4⟩:=t.arr c' a N hc
    have hn:(G.set b (.bytes l) (G.n b)).n c'=G.n c':=if_neg e'
    exact⟨by rw[hn];exact g1,cc,ty,g2,g3,fun i hi=>okE_mono hle (g4 i (by rw[hn]at hi;exact hi))⟩
theorem OwnG.arr{a:AK}{G:Gh}{h:Hp}{s:Sl}{l:List Value}(t:HT G h)(o:OwnG a.sz G h s l)(ok:∀ i,i<s.len→okE G a ((l.drop (i*a.sz)).take a.sz)) :
 ∃ G',G.Le G'∧HT G' h∧SlA G' a s∧(∀ b,(∀ a,s.base=some a→b≠a.block)→G'.k b=G.k b)∧G'.W=G.W:=by
 rcases o.own.row with ⟨h1,h2⟩ | ⟨b,c,e,h1,h2,h3,h4,h5⟩
 ·exact⟨G,.refl G,t,⟨o.own.le,.inl ⟨h1,h2⟩⟩,fun _ _=>rfl,rfl⟩
 ·have hb:G.k b=.any:=o.any _ h1
  have hle:G.Le (G.set b (.arr a s.cap) s.len):=Gh.set_le hb (by rw[t.n0 b hb];exact Nat.zero_le _)
  refine⟨_,hle,⟨fun c' hc=>?_,fun c' hc=>?_,fun c' l' hc=>?_,fun c' L' hc=>?_,fun c' a' N hc=>?_⟩,⟨o.own.le,.inr ⟨b,0,s.cap,by rw[Nat.zero_mul];exact h1,Gh.set_k,by omega,by rw[Gh.set_n];omega⟩⟩,fun b' hb'=>Gh.set_ne (hb' _ h1),rfl⟩
  ·by_cases e':c'=b
   ·rw[e'];exact blk_lt h3
   ·rw[Gh.set_ne e']at hc;exact t.dom c' hc
  ·by_cases e':c'=b
   ·subst e';rw[Gh.set_k]at hc;cases hc
   ·rw[Gh.set_ne e']at hc;rw[Gh.set_nn e'];exact t.n0 c' hc
  ·by_cases e':c'=b
   ·subst e';rw[Gh.set_k]at hc;cases hc
   ·rw[Gh.set_ne e']at hc;exact t.bytes c' l' hc
  ·by_cases e':c'=b
   ·subst e';rw[Gh.set_k]at hc;cases hc
   ·rw[Gh.set_ne e']at hc
    obtain⟨q1,q2⟩:=t.puts c' L' hc
    exact⟨q1,fun x hx=>(q2 x hx).mono hle⟩
  ·by_cases e':c'=b
   ·subst e'
    rw[Gh.set_k]at hc
    cases hc
    rw[Gh.set_n]
    refine⟨o.own.le,c,e,h3,h4,fun i hi=>?_⟩
    have hk:=okE_mono hle (ok i hi)
    rw[← h5,List.drop_take,List.take_take]at hk
    have hmul:(i+1)*a.sz≤s.len*a.sz:=Nat.mul_le_mul_right _ hi
    rw[Nat.min_eq_left (by rw[Nat.add_mul]at hmul;omega)]at hk
    exact hk
   ·rw[Gh.set_ne e']at hc
    obtain⟨g1,cc,ty,g2,g3,g4⟩:=t.arr c' a' N hc
    have hn:(G.set b (.arr a s.cap) s.len).n c'=G.n c':=if_neg e'
    exact⟨by rw[hn];exact g1,cc,ty,g2,g3,fun i hi=>okE_mono hle (g4 i (by rw[hn]at hi;exact hi))⟩
theorem OwnG.puts{G:Gh}{h:Hp}{s:Sl}{L:List ((Int × Sl) × List UInt8)}(t:HT G h)(o:OwnG 2 G h s (c2 (L.map (·.1))))(ok:∀ x∈L,SlB G x.1.2 x.2) :
 ∃ G',G.Le G'∧HT G' h∧SlP G' s (L.map fun x=>(x.1.1,x.2))∧(∀ b,(∀ a,s.base=some a→b≠a.block)→G'.k b=G.k b)∧G'.W=G.W:=by
 have hlen:L.length=s.len:=by have:=o.own.len;rw[c2_length,List.length_map]at this;omega
 rcases o.own.row with ⟨h1,h2⟩ | ⟨b,c,e,h1,h2,h3,h4,h5⟩
 ·refine⟨G,.refl G,t,⟨by simp[hlen],o.own.le,.inl ?_⟩,fun _ _=>rfl,rfl⟩
  have:=o.own.le
  rw[List.eq_nil_of_length_eq_zero (l:=L) (by omega)];rfl
 ·have hb:G.k b=.any:=o.any _ h1
  have hle:G.Le (G.set b (.puts L) (G.n b)):=Gh.set_le hb (Nat.le_refl _)
  refine⟨_,hle,⟨fun c' hc=>?_,fun c' hc=>?_,fun c' l' hc=>?_,fun c' L' hc=>?_,fun c' a N hc=>?_⟩,⟨by simp[hlen],o.own.le,.inr ⟨b,L,h1,Gh.set_k,rfl⟩⟩,fun b' hb'=>Gh.set_ne (hb' _ h1),rfl⟩
  ·by_cases e':c'=b
   ·rw[e'];exact blk_lt h3
   ·rw[Gh.set_ne e']at hc;exact t.dom c' hc
  ·by_cases e':c'=b
   ·subst e';rw[Gh.set_k]at hc;cases hc
   ·rw[Gh.set_ne e']at hc;rw[Gh.set_nn e'];exact t.n0 c' hc
  ·by_cases e':c'=b
   ·subst e';rw[Gh.set_k]at hc;cases hc
   ·rw[Gh.set_ne e']at hc;exact t.bytes c' l' hc
  ·by_cases e':c'=b
   ·subst e'
    rw[Gh.set_k]at hc
    cases hc
    exact⟨⟨c,e,h3,by rw[hlen];exact h5⟩,fun x hx=>(ok x hx).mono hle⟩
   ·rw[Gh.set_ne e']at hc
    obtain⟨q1,q2⟩:=t.puts c' L' hc
    exact⟨q1,fun x hx=>(q2 x hx).mono hle⟩
  ·by_cases e':c'=b
   ·subst e';rw[Gh.set_k]at hc;cases hc
   ·rw[Gh.set_ne e']at hc
    obtain⟨g1,cc,ty,g2,g3,g4⟩:=t.arr c' a N hc
    have hn:(G.set b (.puts L) (G.n b)).n c'=G.n c':=if_neg e'
    exact⟨by rw[hn];exact g1,cc,ty,g2,g3,fun i hi=>okE_mono hle (g4 i (by rw[hn]at hi;exact hi))⟩
theorem HT.other{G:Gh}{h h':Hp}(t:HT G h){b:Nat}(hb:¬ Told (G.k b))(hs:h.size≤h'.size)(e:∀ k,k<h.size→k≠b→h'[k]? = h[k]?):HT G h':=
 t.keep hs fun c hc=>e c (t.dom c (by intro hk;rw[hk]at hc;exact hc)) fun ec=>hb (ec ▸ hc)
theorem HT.toOther{S:Kd→Prop}{G:Gh}{h h':Hp}(t:HT G h){b:Nat}(hS:Mut (G.k b)∧S (G.k b))(hb:¬ Told (G.k b))(hs:h.size≤h'.size)(e:∀ k,k<h.size→k≠b→h'[k]? = h[k]?):To S G h G h':=
 ⟨.refl G,fun _ _=>rfl,hs,fun k hk hn=>e k hk fun ec=>hn (by rw[ec];exact hS),t.other hb hs e⟩
theorem chunk_app{sz:Nat}{l r:List Value}{n m i:Nat}(hl:l.length=n*sz)(hr:r.length=m*sz)(hi:i<n+m) :
 (((l++r).drop (i*sz)).take sz)=if i<n then (l.drop (i*sz)).take sz else (r.drop ((i-n)*sz)).take sz:=by
 by_cases h:i<n
 ·rw[if_pos h]
  have hmul:(i+1)*sz≤n*sz:=Nat.mul_le_mul_right _ h
  rw[Nat.add_mul]at hmul
  rw[List.drop_append_of_le_length (by omega),List.take_append_of_le_length (by rw[List.length_drop];omega)]
 ·rw[if_neg h]
  have hmul:n*sz≤i*sz:=Nat.mul_le_mul_right _ (by omega)
  rw[List.drop_append,List.drop_eq_nil_of_le (by omega),List.nil_append,hl,Nat.sub_mul]
theorem SlA.all{G:Gh}{h:Hp}(t:HT G h){a:AK}{s:Sl}(x:SlA G a s):∃ l,Rd a.sz h s l∧∀ i,i<s.len→okE G a ((l.drop (i*a.sz)).take a.sz):=by
 obtain⟨h2,h3 | ⟨b,o,N,h3,h4,h5,h6⟩⟩:=x
 ·refine⟨[],⟨by rw[show s.len=0 by omega];simp,h2,RdC.nil _ _⟩,fun i hi=>by omega⟩
 ·obtain⟨_,c,e,g1,g2,g3⟩:=t.arr b a N h4
  have hsz:(o+s.len)*a.sz≤N*a.sz:=Nat.mul_le_mul_right _ (by omega)
  rw[Nat.add_mul]at hsz
  refine⟨(c.toList.drop (o*a.sz)).take (s.len*a.sz),⟨by simp;omega,h2,fun i v hv=>⟨_,h3,?_⟩⟩,fun i hi=>?_⟩
  ·rw[add_none,hcell_blk g1]
   rw[List.getElem?_take]at hv
   split at hv
   ·rw[List.getElem?_drop,Array.getElem?_toList]at hv;exact hv
   ·cases hv
  ·have hok:=g3 (o+i) (by omega)
   have hmul:(i+1)*a.sz≤s.len*a.sz:=Nat.mul_le_mul_right _ hi
   rw[Nat.add_mul]at hmul
   rw[List.drop_take,List.take_take,List.drop_drop,Nat.min_eq_left (by omega),← Nat.add_mul]
   exact hok
def Gh.up(G:Gh)(b n:Nat):Gh:=⟨G.k,fun c=>if c=b then max (G.n b) n else G.n c,G.W⟩
theorem Gh.up_le(G:Gh)(b n:Nat):G.Le (G.up b n):=⟨fun _ _=>rfl,fun c=>by
 show _≤(if c=b then _ else _)
 split
 ·rename_i e;rw[e];exact Nat.le_max_left _ _
 ·exact Nat.le_refl _,fun _ _ h=>h⟩
theorem AppC_arr{S:Kd→Prop}{a:AK}{e by_:Nat}{zc:Array Value}{G:Gh}{h:Hp}{s x:Sl}{K:Sl→Hp→Prop}(t:HT G h)(hz:zc.size=a.sz)(sx:SlA G a s){news:List Value}(hn:news.length=x.len*a.sz)(hr:RdC h x.base news)
 (ok:∀ i,i<x.len→okE G a ((news.drop (i*a.sz)).take a.sz)) (hb:(s.len+x.len)*by_≤140737488355328) (hl:s.len+x.len<9223372036854775807) (hS:∀ N,S (.arr a N))
 (hK:∀ r h' G',To S G h G' h'→SlA G' a r→r.len=s.len+x.len→G'.W=G.W→K r h'):AppC e a.sz by_ zc s x h K:=by
 have hsz:=a.sz_pos
 have okc:∀ v∈news,cellOk v=true:=by
  intro v hv
  obtain⟨j,hj,rfl⟩:=List.mem_iff_getElem.1 hv
  have hjx:j / a.sz<x.len:=(Nat.div_lt_iff_lt_mul hsz).2 (by rw[← hn];exact hj)
  refine okE_cell (ok (j / a.sz) hjx) _ ?_
  have:((news.drop (j / a.sz*a.sz)).take a.sz)[j % a.sz]? = some news[j]:=by
   rw[List.getElem?_take,if_pos (Nat.mod_lt _ hsz),List.getElem?_drop,Nat.mul_comm,Nat.div_add_mod]
   exact List.getElem?_eq_getElem hj
  exact List.mem_of_getElem? this
 refine⟨news,hn,hr,hb,hl,fun hc=>?_,fun hc=>?_⟩
 ·obtain⟨h2,h3 | ⟨b,o,N,h3,h4,h5,h6⟩⟩:=sx
  ·have hx:x.len=0∧s.len=0:=by omega
   have:news = []:=List.eq_nil_of_length_eq_zero (by rw[hn,hx.1];simp)
   subst this
   rw[h3.1]
   refine hK _ h G (.refl t) ⟨by simp only;omega,.inl ⟨rfl,h3.2⟩⟩ rfl rfl
  ·obtain⟨g0,c,ty,g1,g2,g3⟩:=t.arr b a N h4
   rw[h3]
   show stCells ((⟨b,o*a.sz,none⟩:Addr).add (s.len*a.sz)) 0 news h _
   rw[add_none]
   have hfit:(o+s.len+x.len)*a.sz≤N*a.sz:=Nat.mul_le_mul_right _ (by omega)
   rw[Nat.add_mul,Nat.add_mul]at hfit
   refine stCells_row news _ 0 h c g1 (by rw[hn,g2];omega) okc ?_
   intro h' c' k1 k2 k3 k4 k5
   have hle:=G.up_le b (o+s.len+x.len)
   have hnb:(G.up b (o+s.len+x.len)).n b=max (G.n b) (o+s.len+x.len):=if_pos rfl
   refine hK _ h' (G.up b (o+s.len+x.len)) ⟨hle,fun _ _=>rfl,by omega,fun k _ hk=>k3 k fun ek=>hk (by rw[ek,h4];exact⟨trivial,hS N⟩),⟨fun k hk=>by rw[k2];exact t.dom k hk,fun k hk=>?_,fun k l hk=>?_,fun k L hk=>?_,fun k a' N' hk=>?_⟩⟩ ⟨hc,.inr ⟨b,o,N,rfl,h4,h5,by rw[hnb];exact Nat.le_trans (Nat.le_of_eq (by simp only;omega)) (Nat.le_max_right _ _)⟩⟩ rfl rfl
   ·have hkb:k≠b:=fun ek=>by rw[ek]at hk;have:G.k b=.any:=hk;rw[h4]at this;cases this
    show(if k=b then _ else G.n k)=0
    rw[if_neg hkb];exact t.n0 k hk
   ·have hkb:k≠b:=fun ek=>by rw[ek]at hk;have:G.k b=.bytes l:=hk;rw[h4]at this;cases this
    obtain⟨cc,ty',q1,q2⟩:=t.bytes k l hk
    exact⟨cc,ty',by rw[k3 k hkb];exact q1,q2⟩
   ·have hkb:k≠b:=fun ek=>by rw[ek]at hk;have:G.k b=.puts L:=hk;rw[h4]at this;cases this
    obtain⟨⟨cc,ty',q1,q2⟩,q3⟩:=t.puts k L hk
    exact⟨⟨cc,ty',by rw[k3 k hkb];exact q1,q2⟩,fun x hx=>(q3 x hx).mono hle⟩
   ·by_cases hkb:k=b
    ·subst hkb
     have:Kd.arr a' N'=.arr a N:=Eq.trans (Eq.symm hk) h4
     cases this
     rw[hnb]
     refine⟨Nat.max_le.2 ⟨g0,by omega⟩,c',ty,k1,by rw[k4];exact g2,fun i hi=>okE_mono hle ?_⟩
     by_cases hin:o+s.len≤i∧i<o+s.len+x.len
     ·have:=ok (i-(o+s.len)) (by omega)
      have heq:(c'.toList.drop (i*a.sz)).take a.sz=(news.drop ((i-(o+s.len))*a.sz)).take a.sz:=by
       apply List.ext_getElem?
       intro j
       rw[List.getElem?_take,List.getElem?_take]
       by_cases hj:j<a.sz
       ·rw[if_pos hj,if_pos hj,List.getElem?_drop,List.getElem?_drop,Array.getElem?_toList,k5]
        have m1:(o+s.len)*a.sz≤i*a.sz:=Nat.mul_le_mul_right _ hin.1
        have m2:(i+1)*a.sz≤(o+s.len+x.len)*a.sz:=Nat.mul_le_mul_right _ hin.2
        have m3:(i-(o+s.len))*a.sz=i*a.sz-(o+s.len)*a.sz:=Nat.sub_mul _ _ _
        have m4:(o+s.len)*a.sz=o*a.sz+s.len*a.sz:=Nat.add_mul _ _ _
        have m5:(o+s.len+x.len)*a.sz=o*a.sz+s.len*a.sz+x.len*a.sz:=by rw[Nat.add_mul,Nat.add_mul]
        have m6:(i+1)*a.sz=i*a.sz+a.sz:=by rw[Nat.add_mul,Nat.one_mul]
        rw[if_pos (by omega)]
        congr 1
        omega
       ·rw[if_neg hj,if_neg hj]
      rw[heq];exact this
     ·have hi':i<G.n k:=by
       rcases Nat.lt_or_ge i (G.n k) with h | h
       ·exact h
       ·rw[Nat.max_def]at hi;split at hi <;> omega
      have heq:(c'.toList.drop (i*a.sz)).take a.sz=(c.toList.drop (i*a.sz)).take a.sz:=by
       apply List.ext_getElem?
       intro j
       rw[List.getElem?_take,List.getElem?_take]
       by_cases hj:j<a.sz
       ·rw[if_pos hj,if_pos hj,List.getElem?_drop,List.getElem?_drop,Array.getElem?_toList,Array.getElem?_toList,k5]
        have m4:(o+s.len)*a.sz=o*a.sz+s.len*a.sz:=Nat.add_mul _ _ _
        have m5:(o+s.len+x.len)*a.sz=o*a.sz+s.len*a.sz+x.len*a.sz:=by rw[Nat.add_mul,Nat.add_mul]
        have m6:(i+1)*a.sz=i*a.sz+a.sz:=by rw[Nat.add_mul,Nat.one_mul]
        rw[if_neg]
        rintro⟨q1,q2⟩
        refine hin ⟨?_,?_⟩
        ·rcases Nat.lt_or_ge i (o+s.len) with h | h
         ·have:(i+1)*a.sz≤(o+s.len)*a.sz:=Nat.mul_le_mul_right _ h
          omega
         ·exact h
        ·rcases Nat.lt_or_ge i (o+s.len+x.len) with h | h
         ·exact h
         ·have:(o+s.len+x.len)*a.sz≤i*a.sz:=Nat.mul_le_mul_right _ h
          omega
       ·rw[if_neg hj,if_neg hj]
      rw[heq];exact g3 i hi'
    ·obtain⟨q0,cc,ty',q1,q2,q3⟩:=t.arr k a' N' hk
     have hnk:(G.up b (o+s.len+x.len)).n k=G.n k:=if_neg hkb
     exact⟨by rw[hnk];exact q0,cc,ty',by rw[k3 k hkb];exact q1,q2,fun i hi=>okE_mono hle (q3 i (by rw[hnk]at hi;exact hi))⟩
 ·obtain⟨olds,ro,oks⟩:=sx.all t
  refine⟨olds,ro.len,ro.rd,fun cc h1 h2=>?_⟩
  have hext:Ext h (h.push (.cells (olds.toArray++news.toArray++Builtin.zeroCells zc (cc-(s.len+x.len))) e (0,0))):=Ext.push _ _
  have ho:Own h.size a.sz (h.push (.cells (olds.toArray++news.toArray++Builtin.zeroCells zc (cc-(s.len+x.len))) e (0,0))) ⟨some ⟨h.size,0,none⟩,s.len+x.len,cc⟩ (olds++news):=by
   refine⟨by rw[List.length_append,ro.len,hn,Nat.add_mul],h1,.inr ⟨h.size,_,e,rfl,Nat.le_refl _,by simp;rfl,?_,?_⟩⟩
   ·simp only[Array.size_append,List.size_toArray,size_zeroCells,hz]
    rw[List.length_append,ro.len,hn,← Nat.add_mul,← Nat.add_mul];congr 1;omega
   ·simp only[Array.toList_append,List.append_assoc]
    rw[← List.append_assoc,show(s.len+x.len)*a.sz=(olds++news).length by rw[List.length_append,ro.len,hn,Nat.add_mul]]
    exact List.take_left
  have t':=t.ext hext
  obtain⟨G',q1,q2,q3,q4,q5⟩:=OwnG.arr t' (ho.toG t (Nat.le_refl _)) (fun i hi=>by
   rw[chunk_app ro.len hn hi]
   split
   ·rename_i hlt;exact oks i hlt
   ·exact ok _ (by simp only at hi;omega))
  refine hK _ _ G' ⟨q1,fun b hb=>q4 b fun ad ha=>?_,hext.size,fun b hb _=>hext.block b hb,q2⟩ q3 rfl q5
  cases ha
  exact Nat.ne_of_lt hb
theorem AppC_arr1{S:Kd→Prop}{a:AK}{e ty by_:Nat}{zc:Array Value}{G:Gh}{h:Hp}{s:Sl}{K:Sl→Hp→Prop}(t:HT G h)(hz:zc.size=a.sz)(sx:SlA G a s){news:List Value}(ok:okE G a news)(hb:(s.len+1)*by_≤140737488355328)(hl:s.len+1<9223372036854775807)(hS:∀ N,S (.arr a N))
 (hK:∀ r h' G',To S G h G' h'→SlA G' a r→r.len=s.len+1→G'.W=G.W→K r h'):AppC e a.sz by_ zc s (Sl.mk (some (nw h)) 1 1) (alc h news ty) K:=by
 have hn:=okE_len ok
 have e1:Ext h (alc h news ty):=alc_ext _ _ _
 refine AppC_arr (S:=S) (t.ext e1) hz sx (news:=news) (by simp[hn]) (RdC.alc h news ty) (fun i hi=>?_) hb hl hS fun r h' G' x y z w=>hK r h' G' ⟨x.le,fun b hb=>x.old b (by rw[size_alc];omega),Nat.le_trans e1.size x.size,fun b hb hS=>by rw[x.fr b (by rw[size_alc];omega) hS,e1.block b hb],x.ht⟩ y z w
 obtain rfl:i=0:=by simp only at hi;omega
 rw[Nat.zero_mul,List.drop_zero,List.take_of_length_le (by omega)]
 exact ok
def kS(l:List ME):List Int:=l.map (·.1)
structure MWf(l:List ME)(c:Nat):Prop where
 keys:(kS l).Nodup
 borns:(l.map (·.2.2)).Nodup
 lt:∀ e∈l,e.2.2<c
theorem MWf.nil(c:Nat):MWf [] c:=⟨List.nodup_nil,List.nodup_nil,fun e he=>by simp at he⟩
theorem mget_none{l:List ME}{k:Int}:mget l k=none↔k ∉ kS l:=by
 unfold mget kS
 rw[Option.map_eq_none_iff,List.find?_eq_none]
 constructor
 ·intro h hk
  obtain⟨e,he,rfl⟩:=List.mem_map.1 hk
  exact h e he (by simp)
 ·intro h e he hb
  exact h (List.mem_map.2 ⟨e,he,by simpa using hb⟩)
theorem mhas_iff{l:List ME}{k:Int}:mhas l k=true↔k∈kS l:=by
 unfold mhas
 cases h:mget l k with
 | none=>simp[mget_none.1 h]
 | some v=>
   simp only[Option.isSome_some,true_iff]
   rcases Classical.em (k∈kS l) with h1 | h1
   ·exact h1
   ·rw[mget_none.2 h1]at h;cases h
theorem mget_mem{l:List ME}{k:Int}{v:Value}(h:mget l k=some v):∃ b,(k,v,b)∈l:=by
 unfold mget at h
 obtain⟨e,he,rfl⟩:=Option.map_eq_some_iff.1 h
 have h1:=List.mem_of_find?_eq_some he
 have h2:=List.find?_some he
 have:e.1=k:=by simpa using h2
 exact⟨e.2.2,by rw[← this];exact h1⟩
theorem nodup_fst{α β:Type}{l:List (α × β)}(hn:(l.map (·.1)).Nodup){a:α}{b b':β}(h:(a,b)∈l)(h':(a,b')∈l):b=b':=by
 induction l with
 | nil=>simp at h
 | cons x r ih=>
   rw[List.map_cons,List.nodup_cons]at hn
   rcases List.mem_cons.1 h with e | h1
   ·rcases List.mem_cons.1 h' with e' | h2
    ·rw[← e]at e';exact(Prod.mk.inj e').2.symm
    ·exact absurd (List.mem_map.2 ⟨_,h2,rfl⟩) (by rw[← e]at hn;exact hn.1)
   ·rcases List.mem_cons.1 h' with e' | h2
    ·exact absurd (List.mem_map.2 ⟨_,h1,rfl⟩) (by rw[← e']at hn;exact hn.1)
    ·exact ih hn.2 h1 h2
theorem MWf.get{l:List ME}{c:Nat}(w:MWf l c){k:Int}{v:Value}{b:Nat}(h:(k,v,b)∈l):mget l k=some v:=by
 cases hm:mget l k with
 | none=>exact absurd (List.mem_map.2 ⟨_,h,rfl⟩) (mget_none.1 hm)
 | some u=>
   obtain⟨b',hb⟩:=mget_mem hm
   have:=nodup_fst w.keys hb h
   rw[(Prod.mk.inj this).1]
theorem MWf.born{l:List ME}{c:Nat}(w:MWf l c){n:Int}{v:Value}{b:Nat}(h:(n,v,b)∈l):∀ e∈l,e.2.2=b→e=(n,v,b):=by
 intro e he hb
 obtain⟨n',v',b'⟩:=e
 simp only at hb
 subst hb
 have h1:((b',(n',v')):Nat × (Int × Value))∈l.map fun e=>(e.2.2,(e.1,e.2.1)):=List.mem_map.2 ⟨_,he,rfl⟩
 have h2:((b',(n,v)):Nat × (Int × Value))∈l.map fun e=>(e.2.2,(e.1,e.2.1)):=List.mem_map.2 ⟨_,h,rfl⟩
 have:=nodup_fst (by rw[List.map_map];exact w.borns) h1 h2
 rw[(Prod.mk.inj this).1,(Prod.mk.inj this).2]
theorem mset_kS:∀ (l:List ME) (k:Int) (v:Value),kS (mset l k v)=kS l
 | [],_,_=>rfl
 | e::r,k,v=>by
   unfold mset
   split
   ·rename_i h;simp[kS,h]
   ·simp only[kS,List.map_cons];congr 1;exact mset_kS r k v
theorem mset_borns:∀ (l:List ME) (k:Int) (v:Value),(mset l k v).map (·.2.2)=l.map (·.2.2)
 | [],_,_=>rfl
 | e::r,k,v=>by
   unfold mset
   split
   ·simp
   ·simp only[List.map_cons];congr 1;exact mset_borns r k v
theorem mset_mem:∀ (l:List ME) (k:Int) (v:Value) (e:ME),e∈mset l k v→(e.1=k∧e.2.1=v)∨e∈l
 | [],_,_,e,h=>by simp[mset]at h
 | x::r,k,v,e,h=>by
   unfold mset at h
   split at h
   ·rcases List.mem_cons.1 h with rfl | h
    ·exact .inl ⟨rfl,rfl⟩
    ·exact .inr (List.mem_cons_of_mem _ h)
   ·rcases List.mem_cons.1 h with rfl | h
    ·exact .inr (by simp)
    ·rcases mset_mem r k v e h with h | h
     ·exact .inl h
     ·exact .inr (List.mem_cons_of_mem _ h)
theorem mset_get:∀ (l:List ME) (k:Int) (v:Value) (j:Int),k∈kS l→mget (mset l k v) j=if j=k then some v else mget l j
 | [],_,_,_,h=>by simp[kS]at h
 | x::r,k,v,j,h=>by
   unfold mset
   by_cases hx:x.1=k
   ·rw[if_pos hx]
    by_cases hj:j=k
    ·subst hj;simp[mget]
    ·have h1:(k == j)=false:=by simp;omega
     have h2:(x.1 == j)=false:=by simp;omega
     simp[mget,hj,h1,h2]
   ·rw[if_neg hx]
    have h3:k∈kS r:=by
     rcases List.mem_cons.1 h with e | h
     ·exact absurd e.symm hx
     ·exact h
    have ih:=mset_get r k v j h3
    by_cases hj:x.1=j
    ·have h1:(x.1 == j)=true:=by simpa using hj
     have:j≠k:=fun e=>hx (hj.trans e)
     simp[mget,h1,this]
    ·have h1:(x.1 == j)=false:=by simpa using hj
     simp only[mget,List.find?_cons,h1]at ih ⊢
     exact ih
def mputL(l:List ME)(k:Int)(v:Value)(c:Nat):List ME:=if mhas l k=true then mset l k v else l ++ [(k,v,c)]
def mputC(l:List ME)(k:Int)(c:Nat):Nat:=if mhas l k=true then c else c+1
theorem mput_eq(l:List ME)(k:Int)(v:Value)(c:Nat):mput l k v c=mapO (mputL l k v c) (mputC l k c):=by
 unfold mput mputL mputC;split <;> rfl
theorem mputL_kS(l:List ME)(k:Int)(v:Value)(c:Nat):kS (mputL l k v c)=if k∈kS l then kS l else kS l ++ [k]:=by
 unfold mputL
 by_cases h:mhas l k=true
 ·rw[if_pos h,if_pos (mhas_iff.1 h),mset_kS]
 ·rw[if_neg h,if_neg (fun e=>h (mhas_iff.2 e))];simp[kS]
theorem mputL_len(l:List ME)(k:Int)(v:Value)(c:Nat):(mputL l k v c).length=if k∈kS l then l.length else l.length+1:=by
 have:=congrArg List.length (mputL_kS l k v c)
 by_cases hk:k∈kS l
 ·rw[if_pos hk]at this ⊢;simpa [kS] using this
 ·rw[if_neg hk]at this ⊢;simpa [kS] using this
theorem mputL_mem{l:List ME}{k:Int}{v:Value}{c:Nat}{e:ME}(h:e∈mputL l k v c):(e.1=k∧e.2.1=v)∨e∈l:=by
 unfold mputL at h
 split at h
 ·exact mset_mem _ _ _ _ h
 ·rcases List.mem_append.1 h with h | h
  ·exact .inr h
  ·simp at h;subst h;exact .inl ⟨rfl,rfl⟩
theorem mputL_get(l:List ME)(k:Int)(v:Value)(c:Nat)(j:Int):mget (mputL l k v c) j=if j=k then some v else mget l j:=by
 unfold mputL
 by_cases h:mhas l k=true
 ·rw[if_pos h];exact mset_get l k v j (mhas_iff.1 h)
 ·rw[if_neg h]
  have hk:k ∉ kS l:=fun e=>h (mhas_iff.2 e)
  by_cases hj:j=k
  ·subst hj
   have h1:=mget_none.2 hk
   unfold mget at h1 ⊢
   rw[List.find?_append,Option.map_eq_none_iff.1 h1]
   simp
  ·rw[if_neg hj]
   unfold mget
   rw[List.find?_append]
   have:([((k,v,c):ME)].find? fun e=>e.1 == j)=none:=by simp;omega
   rw[this];simp
theorem MWf.put{l:List ME}{c:Nat}(w:MWf l c)(k:Int)(v:Value):MWf (mputL l k v c) (mputC l k c):=by
 unfold mputL mputC
 by_cases h:mhas l k=true
 ·rw[if_pos h,if_pos h]
  refine⟨by rw[mset_kS];exact w.keys,by rw[mset_borns];exact w.borns,fun e he=>?_⟩
  have:e.2.2∈(mset l k v).map (·.2.2):=List.mem_map.2 ⟨e,he,rfl⟩
  rw[mset_borns]at this
  obtain⟨e',he',h'⟩:=List.mem_map.1 this
  rw[← h'];exact w.lt e' he'
 ·rw[if_neg h,if_neg h]
  have hk:k ∉ kS l:=fun e=>h (mhas_iff.2 e)
  refine⟨?_,?_,fun e he=>?_⟩
  ·simp only[kS,List.map_append,List.map_cons,List.map_nil]
   rw[List.nodup_append]
   exact⟨w.keys,by simp,fun a ha b hb=>by simp at hb;subst hb;exact fun e=>hk (e ▸ ha)⟩
  ·simp only[List.map_append,List.map_cons,List.map_nil]
   rw[List.nodup_append]
   refine⟨w.borns,by simp,fun a ha b hb=>?_⟩
   simp at hb;subst hb
   obtain⟨e,he,rfl⟩:=List.mem_map.1 ha
   have:=w.lt e he;omega
  ·rcases List.mem_append.1 he with he | he
   ·have:=w.lt e he;omega
   ·simp at he;subst he;simp
theorem mdel_mem{l:List ME}{c:Nat}(w:MWf l c){k:Int}{e:ME}:e∈mdel l k↔e∈l∧e.1≠k:=by
 unfold mdel
 have hk:=w.keys
 clear w
 induction l with
 | nil=>simp
 | cons x r ih=>
   simp only[kS,List.map_cons,List.nodup_cons]at hk
   by_cases hx:x.1=k
   ·rw[List.eraseP_cons_of_pos (by simpa using hx)]
    constructor
    ·intro h
     exact⟨List.mem_cons_of_mem _ h,fun e'=>hk.1 (by rw[hx,← e'];exact List.mem_map.2 ⟨_,h,rfl⟩)⟩
    ·rintro⟨h1,h2⟩
     rcases List.mem_cons.1 h1 with rfl | h1
     ·exact absurd hx h2
     ·exact h1
   ·rw[List.eraseP_cons_of_neg (by simpa using hx)]
    simp only[List.mem_cons,ih hk.2]
    constructor
    ·rintro(rfl | ⟨h1,h2⟩)
     ·exact⟨.inl rfl,hx⟩
     ·exact⟨.inr h1,h2⟩
    ·rintro⟨rfl | h1,h2⟩
     ·exact .inl rfl
     ·exact .inr ⟨h1,h2⟩
theorem MWf.del{l:List ME}{c:Nat}(w:MWf l c)(k:Int):MWf (mdel l k) c:=
 ⟨w.keys.sublist ((List.eraseP_sublist).map _),w.borns.sublist ((List.eraseP_sublist).map _),fun e he=>w.lt e ((mdel_mem w).1 he).1⟩
theorem mdel_len{l:List ME}{k:Int}(h:k∈kS l):(mdel l k).length+1=l.length:=by
 obtain⟨e,he,rfl⟩:=List.mem_map.1 h
 have:=List.length_eraseP_of_mem he (p:=fun x:ME=>x.1 == e.1) (by simp)
 unfold mdel
 have hp:0<l.length:=List.length_pos_of_mem he
 omega
theorem mdel_kS{l:List ME}{c:Nat}(w:MWf l c){k j:Int}:j∈kS (mdel l k)↔j∈kS l∧j≠k:=by
 simp only[kS,List.mem_map]
 constructor
 ·rintro⟨e,he,rfl⟩
  obtain⟨h1,h2⟩:=(mdel_mem w).1 he
  exact⟨⟨e,h1,rfl⟩,h2⟩
 ·rintro⟨⟨e,he,rfl⟩,h⟩
  exact⟨e,(mdel_mem w).2 ⟨he,h⟩,rfl⟩
theorem SlB.stab{G:Gh}{h:Hp}(t:HT G h){s:Sl}{l:List UInt8}(x:SlB G s l):∀ a,s.base=some a→s.len≠0→Stab G h a.block:=by
 intro a ha hn
 obtain⟨h1,h2,rfl | ⟨b,o,all,h3,h4,h5⟩⟩:=x
 ·exact absurd (by simpa using h1) hn
 ·rw[h3]at ha;cases ha
  exact⟨t.dom b (by rw[h4];simp),by show ¬ Mut (G.k b);rw[h4];exact id⟩
theorem SlP.puts{G:Gh}{h:Hp}(t:HT G h){s:Sl}{P:List PutD}(x:SlP G s P):PutsR (Stab G h) h s P:=by
 obtain⟨h1,h2,rfl | ⟨b,L,h3,h4,rfl⟩⟩:=x
 ·exact⟨[],rfl,⟨by simp[h1,c2],h2,RdC.nil _ _⟩,fun a ha hn=>absurd (by simpa using h1) hn,fun x hx=>by simp at hx⟩
 ·obtain⟨⟨c,e,g1,g2⟩,g3⟩:=t.puts b L h4
  rw[List.length_map]at h1
  refine⟨L,rfl,⟨by rw[c2_length,List.length_map,h1],h2,fun i v hv=>⟨_,h3,?_⟩⟩,fun a ha _=>?_,fun x hx=>⟨(g3 x hx).rd t,(g3 x hx).stab t⟩⟩
  ·rw[add_none,hcell_blk g1,Nat.zero_add]
   rw[← g2,List.getElem?_take]at hv
   split at hv
   ·simpa using hv
   ·cases hv
  ·rw[h3]at ha;cases ha
   exact⟨t.dom b (by rw[h4];simp),by show ¬ Mut (G.k b);rw[h4];exact id⟩
theorem SlP.slen{G:Gh}{s:Sl}{P:List PutD}(x:SlP G s P):s.len=P.length:=x.1
theorem PutsR.to{S:Kd→Prop}{A B:Gh}{a b:Hp}(x:To S A a B b){s:Sl}{P:List PutD}(p:PutsR (Stab A a) a s P):PutsR (Stab B b) b s P:=
 (p.eq fun k hk=>(x.stab hk).1).mono fun k hk=>(x.stab hk).2
theorem TxsR.to{S:Kd→Prop}{A B:Gh}{a b:Hp}(x:To S A a B b){s:Sl}{T:List TxD}(p:TxsR (Stab A a) a s T):TxsR (Stab B b) b s T:=
 (p.eq fun k hk=>(x.stab hk).1).mono fun k hk=>(x.stab hk).2
end Go.Proofs.YtdpdkpfnfllipaaGreatDoor
