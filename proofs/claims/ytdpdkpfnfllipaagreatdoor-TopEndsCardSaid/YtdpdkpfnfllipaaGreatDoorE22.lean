/- A part of the proof, no condition. -/
import Derived.HandedShaped
import Derived.Lay
import Derived.Lib.LaidTab
import Derived.Lib.LaidU8
import Derived.MakeChecks
import Derived.OpenShut
import Derived.ProofKit
import Derived.Stop.Joined
import Derived.Test.YtdpdkpfnfllipaaGreatDoorE5
import Derived.Test.YtdpdkpfnfllipaaGreatDoorE6
import Derived.Test.YtdpdkpfnfllipaaGreatDoorE20
import Derived.Test.YtdpdkpfnfllipaaGreatDoorE21
set_option linter.unusedVariables false
set_option linter.unusedSimpArgs false
namespace Go.Proofs.YtdpdkpfnfllipaaGreatDoor
section
open Go.ChangeShapes Go.WideShapes Go.ChangeAt Go.RowKit
section
variable{H:Type}{enc:TypeId × Value→H}{P:Program}{w:World}{base:Nat}
theorem rd_c2{h:Hp}{a:Addr}{l:List (Int × Sl)}(hg:∀ i (hi:i<l.length),hY h (a.add (i*2))=some (.int .i64 l[i].1)∧hY h ((a.add (i*2)).add 1)=some (slV l[i].2)):RdC h (some a) (c2 l):=by
 intro i v hv
 refine⟨a,rfl,?_⟩
 obtain⟨k,hk⟩:∃ k,i=k*2∨i=k*2+1:=⟨i / 2,by omega⟩
 rcases hk with rfl | rfl
 ·rw[c2_get0]at hv
  by_cases hkl:k<l.length
  ·rw[List.getElem?_eq_getElem hkl]at hv
   obtain rfl:Value.int .i64 l[k].1=v:=Option.some.inj hv
   exact(hg k hkl).1
  ·rw[List.getElem?_eq_none (by omega)]at hv;cases hv
 ·rw[c2_get1]at hv
  by_cases hkl:k<l.length
  ·rw[List.getElem?_eq_getElem hkl]at hv
   obtain rfl:slV l[k].2=v:=Option.some.inj hv
   have:=(hg k hkl).2
   rwa[add_add]at this
  ·rw[List.getElem?_eq_none (by omega)]at hv;cases hv
theorem pairs_of{β:Type}[Inhabited β]{Q:Sl→β→Prop}{t e ti tf:TypeId}{f0 f1:Field}(ht:P.underlying t=some (.slice e))(he:P.underlying e=some (.struct #[f0,f1]))(hf0:(f0.type,f0.offset)=(ti,0))(hf1:(f1.type,f1.offset)=(tf,1))
 (hi:P.underlying ti=some (.int .i64)) (hc:P.cellsOf e=2) (hci:P.cellsOf ti=1) (hcf:P.cellsOf tf=1)
 (sub:∀ fuel v x,DataW.trod enc P w base (fun _=>true) true fuel tf [v]=some x →∃ s b,v=slV s∧Q s b)
 {fuel:Nat} {v:Value} {x:DataW H × List MemPlace} (h:DataW.trod enc P w base (fun _=>true) true fuel t [v]=some x) :
 ∃ (s:Sl) (L:List ((Int × Sl) × β)),v=slV s∧L.length=s.len∧s.cap≤maxLen∧Rd 2 w.heap s (c2 (L.map (·.1)))∧(∀ a,s.base=some a→s.len≠0→a.block<w.heap.size)∧∀ x∈L,(Lit.int .i64 x.1.1).wf=true∧Q x.1.2 x.2:=by
 rcases Deep.open_slice ht h with ⟨hcs,_⟩ | ⟨a,len,cap,m,n,D,Pl,hcs,_,hl,hm,hmm,_,hx⟩
 ·obtain rfl:v=.slice none 0 0:=by simpa using hcs
  exact⟨⟨none,0,0⟩,[],rfl,rfl,by simp[maxLen],⟨rfl,Nat.le_refl _,RdC.nil _ _⟩,fun a ha=>(by cases ha),fun x hx=>by simp at hx⟩
 ·obtain rfl:v=.slice (some a) len cap:=by simpa using hcs
  have hm':m=cap:=by simpa using hmm
  simp only[Prod.mk.injEq]at hf0 hf1
  obtain⟨g,hg⟩:=Deep.choose_lt (α:=(Int × Sl) × β) (n:=len) (p:=fun i p=>hY w.heap (a.add (i*2))=some (.int .i64 p.1.1)∧hY w.heap ((a.add (i*2)).add 1)=some (slV p.1.2)∧(Lit.int .i64 p.1.1).wf=true∧Q p.1.2 p.2) (fun i hi'=>by
   obtain⟨cs,hcs,htr⟩:=hx i (by omega)
   rw[hc]at hcs
   obtain⟨_,hlen,hget⟩:=World.cells?_some hcs
   obtain⟨xs,n',_,_,_,hxl,hxs⟩:=DataW.trod_struct he htr
   have hxl':xs.length=2:=hxl
   have t0:=hxs 0 f0 rfl
   have t1:=hxs 1 f1 rfl
   rw[hf0.1,hf0.2,hci,List.getElem?_eq_getElem (by omega)]at t0
   rw[hf1.1,hf1.2,hcf,List.getElem?_eq_getElem (by omega)]at t1
   match cs,hlen with
   | [c0,c1],_=>
     simp only[List.drop_zero,List.take_succ_cons,List.take_zero,List.drop_succ_cons]at t0 t1
     obtain⟨p,hp,_,wp⟩:=DataW.trod_int hi t0
     obtain⟨s,b,hv1,hQ⟩:=sub _ _ _ t1
     simp only[List.cons.injEq,and_true]at hp
     subst hp hv1
     have g0:=hget 0 (by omega)
     have g1:=hget 1 (by omega)
     rw[hcell_heap]at g0 g1
     refine⟨((p,s),b),?_,?_,wp,hQ⟩
     ·have:(a.add (i*2)).add 0=a.add (i*2):=by rw[add_add];rfl
      rw[this]at g0;rw[g0];rfl
     ·rw[g1];rfl)
  have hcells:∀ i,∀ hi:i<len,((((List.range len).map g).map (·.1))[i]'(by simpa using hi))=(g i).1:=fun i hi=>by simp
  have rd:RdC w.heap (some a) (c2 (((List.range len).map g).map (·.1))):=rd_c2 fun i hi=>by
   have hi':i<len:=by simpa using hi
   rw[hcells i hi']
   exact⟨(hg i hi').1,(hg i hi').2.1⟩
  refine⟨⟨some a,len,cap⟩,(List.range len).map g,rfl,by simp,hm,⟨by rw[c2_length];simp,hl,rd⟩,?_,?_⟩
  ·intro a' ha' h0
   cases ha'
   have:=hcell_lt (hg 0 (by show 0<len;have:len≠0:=h0;omega)).1
   rwa[add_block]at this
  ·intro p hp
   obtain⟨i,hi',rfl⟩:=List.mem_map.1 hp
   have:=hg i (by simpa using hi')
   exact⟨this.2.2.1,this.2.2.2⟩
theorem bytes_of{t e:TypeId}(ht:P.underlying t=some (.slice e))(he:P.underlying e=some (.int .u8))(hc:P.cellsOf e=1){fuel:Nat}{v:Value}{x:DataW H × List MemPlace}(h:DataW.trod enc P w base (fun _=>true) true fuel t [v]=some x) :
 ∃ (s:Sl) (l:List UInt8),v=slV s∧(Rd 1 w.heap s (l.map bv)∧(∀ a,s.base=some a→s.len≠0→a.block<w.heap.size)∧l.length≤maxLen):=by
 obtain⟨s,l,rfl,hI⟩:=ints_of ht he hc h
 obtain⟨bs,hb⟩:=hI.bytes
 have hl:=hb.len
 refine⟨s,bs,rfl,⟨by simpa using hb.len,hb.cap,hb.rd⟩,fun a ha h0=>?_,by have:=hb.cap;have:=hb.max;omega⟩
 exact hb.rd.lt (by intro e;rw[List.map_eq_nil_iff]at e;subst e;simp at hl;omega) ha
end
def InPuts(h:Hp)(s:Sl)(P:List PutD):Prop:=PutsR (· < h.size) h s P∧P.length≤maxLen∧∀ y∈P,y.2.length≤maxLen
theorem inPuts_of{h:Hp}{s:Sl}{L:List ((Int × Sl) × List UInt8)}(hl:L.length=s.len)(hm:s.cap≤maxLen)(r:Rd 2 h s (c2 (L.map (·.1))))(hb:∀ a,s.base=some a→s.len≠0→a.block<h.size)
 (he:∀ x∈L,(Lit.int .i64 x.1.1).wf=true∧Rd 1 h x.1.2 (x.2.map bv)∧(∀ a,x.1.2.base=some a→x.1.2.len≠0→a.block<h.size)∧x.2.length≤maxLen):InPuts h s (L.map fun x=>(x.1.1,x.2)):=by
 refine⟨⟨L,rfl,r,hb,fun x hx=>⟨(he x hx).2.1,(he x hx).2.2.1⟩⟩,by have:=r.cap;simp;omega,fun y hy=>?_⟩
 obtain⟨x,hx,rfl⟩:=List.mem_map.1 hy
 exact(he x hx).2.2.2
end
section
open Go.ChangeShapes Go.WideShapes Go.ChangeAt Go.RowKit
section
variable{H:Type}{enc:TypeId × Value→H}{P:Program}{w:World}{base:Nat}
theorem flat_len{α:Type}{ev:α→List Value}{sz:Nat}(hen:∀ y,(ev y).length=sz):∀ l:List α,(l.flatMap ev).length=l.length*sz
 | []=>by simp
 | x::r=>by rw[List.flatMap_cons,List.length_append,flat_len hen r,hen,List.length_cons,Nat.succ_mul];omega
theorem flat_get{α:Type}{ev:α→List Value}{sz:Nat}(hen:∀ y,(ev y).length=sz):∀ (l:List α) (i j:Nat),j<sz→(l.flatMap ev)[i*sz+j]? =(l[i]?).bind fun x=>(ev x)[j]?
 | [],i,j,_=>by simp
 | x::r,0,j,h=>by rw[List.flatMap_cons,List.getElem?_append_left (by rw[hen];omega)];simp
 | x::r,i+1,j,h=>by
   rw[List.flatMap_cons,List.getElem?_append_right (by rw[hen,Nat.succ_mul];omega)]
   rw[show(i+1)*sz+j-(ev x).length=i*sz+j by rw[hen,Nat.succ_mul];omega,flat_get hen r i j h]
   rfl
theorem rd_flat{α:Type}{ev:α→List Value}{sz:Nat}(h0:0<sz)(hen:∀ y,(ev y).length=sz){h:Hp}{a:Addr}{l:List α}(hg:∀ i (hi:i<l.length) j v,(ev l[i])[j]? = some v→hY h ((a.add (i*sz)).add j)=some v):RdC h (some a) (l.flatMap ev):=by
 intro i v hv
 refine⟨a,rfl,?_⟩
 have e:i=i / sz*sz+i % sz:=by rw[Nat.mul_comm];exact(Nat.div_add_mod i sz).symm
 rw[e,flat_get hen l _ _ (Nat.mod_lt _ h0)]at hv
 by_cases hk:i / sz<l.length
 ·rw[List.getElem?_eq_getElem hk]at hv
  have:=hg _ hk _ v hv
  rw[add_add,← e]at this
  exact this
 ·rw[List.getElem?_eq_none (by omega)]at hv;cases hv
theorem sls_of{α:Type}[Inhabited α]{ev:α→List Value}{Q:α→Prop}{t e:TypeId}{sz:Nat}(ht:P.underlying t=some (.slice e))(hc:P.cellsOf e=sz)(h0:0<sz)(hen:∀ y,(ev y).length=sz)
 (el:∀ fuel cs x,cs.length=sz→DataW.trod enc P w base (fun _=>true) true fuel e cs=some x →∃ y,cs=ev y∧Q y)
 {fuel:Nat} {v:Value} {x:DataW H × List MemPlace} (h:DataW.trod enc P w base (fun _=>true) true fuel t [v]=some x) :
 ∃ (s:Sl) (L:List α),v=slV s∧L.length=s.len∧s.cap≤maxLen∧Rd sz w.heap s (L.flatMap ev)∧(∀ a,s.base=some a→s.len≠0→a.block<w.heap.size)∧∀ y∈L,Q y:=by
 rcases Deep.open_slice ht h with ⟨hcs,_⟩ | ⟨a,len,cap,m,n,D,Pl,hcs,_,hl,hm,hmm,_,hx⟩
 ·obtain rfl:v=.slice none 0 0:=by simpa using hcs
  exact⟨⟨none,0,0⟩,[],rfl,rfl,by simp[maxLen],⟨by simp,Nat.le_refl _,RdC.nil _ _⟩,fun a ha=>(by cases ha),fun x hx=>by simp at hx⟩
 ·obtain rfl:v=.slice (some a) len cap:=by simpa using hcs
  have hm':m=cap:=by simpa using hmm
  obtain⟨g,hg⟩:=Deep.choose_lt (α:=α) (n:=len) (p:=fun i p=>(∀ j v,(ev p)[j]? = some v→hY w.heap ((a.add (i*sz)).add j)=some v)∧Q p) (fun i hi=>by
   obtain⟨cs,hcs,htr⟩:=hx i (by omega)
   rw[hc]at hcs
   obtain⟨_,hlen,hget⟩:=World.cells?_some hcs
   obtain⟨y,rfl,hQ⟩:=el _ _ _ hlen htr
   refine⟨y,fun j v hj=>?_,hQ⟩
   have hjl:j<sz:=by
    have:=List.getElem?_eq_some_iff.1 hj
    obtain⟨h1,_⟩:=this
    rw[hen]at h1;exact h1
   have g:=hget j hjl
   rw[hcell_heap,hj]at g
   exact g)
  have hget:∀ i,∀ hi:i<len,(((List.range len).map g)[i]'(by simpa using hi))=g i:=fun i hi=>by simp
  have rd:RdC w.heap (some a) (((List.range len).map g).flatMap ev):=rd_flat h0 hen fun i hi j v hv=>by
   have hi':i<len:=by simpa using hi
   rw[hget i hi']at hv
   exact(hg i hi').1 j v hv
  refine⟨⟨some a,len,cap⟩,(List.range len).map g,rfl,by simp,hm,⟨by rw[flat_len hen];simp,hl,rd⟩,?_,?_⟩
  ·intro a' ha' hn
   cases ha'
   have h00:0<(ev (g 0)).length:=by rw[hen];exact h0
   have:=hcell_lt ((hg 0 (by show 0<len;have:len≠0:=hn;omega)).1 0 _ (List.getElem?_eq_getElem h00))
   rwa[add_block,add_block]at this
  ·intro p hp
   obtain⟨i,hi',rfl⟩:=List.mem_map.1 hp
   exact(hg i (by simpa using hi')).2
end
end
section
open Go.ChangeShapes Go.WideShapes Go.ChangeAt Go.RowKit
set_option maxRecDepth 20000
instance:Inhabited OpD:=⟨⟨0,0,0,0,[]⟩⟩
instance:Inhabited StepD:=⟨⟨0,0,[],0,[],[]⟩⟩
instance:Inhabited StSl:=⟨⟨Sl.nil,Sl.nil,Sl.nil⟩⟩
def OpsM(O:List OpD):Prop:=O.length≤maxLen∧∀ o∈O,o.P.length≤maxLen∧∀ q∈o.P,q.2.length≤maxLen
section
variable{H:Type}{enc:TypeId × Value→H}{w:World}{base:Nat}
theorem putsG{fuel:Nat}{v:Value}{x:DataW H × List MemPlace}(h:DataW.trod enc Tryz.prog w base (fun _=>true) true fuel 39 [v]=some x):∃ (s:Sl) (P:List PutD),v=slV s∧InPuts w.heap s P:=by
 obtain⟨s,L,rfl,hl,hm,r,hb,he⟩:=pairs_of (Q:=fun s (l:List UInt8)=>Rd 1 w.heap s (l.map bv)∧(∀ a,s.base=some a→s.len≠0→a.block<w.heap.size)∧l.length≤maxLen) Tryz.underlying39 Tryz.underlying46 rfl rfl Tryz.underlying3 (by kernel_rfl) (by kernel_rfl) (by kernel_rfl)
  (fun fuel v x h=>bytes_of Tryz.underlying44 Tryz.underlying5 (by kernel_rfl) h) h
 exact⟨s,_,rfl,inPuts_of hl hm r hb he⟩
theorem intsG{fuel:Nat}{v:Value}{x:DataW H × List MemPlace}(h:DataW.trod enc Tryz.prog w base (fun _=>true) true fuel 29 [v]=some x):∃ (s:Sl) (l:List Int),v=slV s∧IntsR (· < w.heap.size) w.heap s l∧l.length≤maxLen:=by
 obtain⟨s,l,rfl,hI⟩:=ints_of Tryz.underlying29 Tryz.underlying3 (by kernel_rfl) h
 have hl:=hI.len
 refine⟨s,l,rfl,⟨⟨by simpa using hI.len,hI.cap,hI.rd⟩,fun a ha hn=>?_⟩,by have:=hI.cap;have:=hI.max;omega⟩
 exact hI.rd.lt (by intro e;rw[List.map_eq_nil_iff]at e;subst e;simp at hl;omega) ha
theorem opsG{fuel:Nat}{v:Value}{x:DataW H × List MemPlace}(h:DataW.trod enc Tryz.prog w base (fun _=>true) true fuel 28 [v]=some x):∃ (s:Sl) (O:List OpD),v=slV s∧OpsR0 (· < w.heap.size) w.heap s O∧OpsM O:=by
 have c3:Tryz.prog.cellsOf 3=1:=by kernel_rfl
 have c39:Tryz.prog.cellsOf 39=1:=by kernel_rfl
 obtain⟨s,L,rfl,hl,hm,r,hb,he⟩:=sls_of (α:=OpD × Sl) (ev:=fun x=>blkV x.1.k x.1.h x.1.a x.1.n x.2) (Q:=fun x=>InPuts w.heap x.2 x.1.P) (sz:=5) Tryz.underlying28 (by kernel_rfl) (by omega) (fun _=>rfl)
  (fun fuel cs x hcl htr=>by
   obtain⟨xs,n',_,_,_,hxl,hxs⟩:=DataW.trod_struct Tryz.underlying58 htr
   have hxl':xs.length=5:=hxl
   have t0:=hxs 0 _ rfl
   have t1:=hxs 1 _ rfl
   have t2:=hxs 2 _ rfl
   have t3:=hxs 3 _ rfl
   have t4:=hxs 4 _ rfl
   change DataW.trod enc Tryz.prog w base (fun _=>true) true _ 3 ((cs.drop 0).take (Tryz.prog.cellsOf 3))=xs[0]? at t0
   change DataW.trod enc Tryz.prog w base (fun _=>true) true _ 3 ((cs.drop 1).take (Tryz.prog.cellsOf 3))=xs[1]? at t1
   change DataW.trod enc Tryz.prog w base (fun _=>true) true _ 3 ((cs.drop 2).take (Tryz.prog.cellsOf 3))=xs[2]? at t2
   change DataW.trod enc Tryz.prog w base (fun _=>true) true _ 3 ((cs.drop 3).take (Tryz.prog.cellsOf 3))=xs[3]? at t3
   change DataW.trod enc Tryz.prog w base (fun _=>true) true _ 39 ((cs.drop 4).take (Tryz.prog.cellsOf 39))=xs[4]? at t4
   rw[c3,List.getElem?_eq_getElem (by omega)]at t0 t1 t2 t3
   rw[c39,List.getElem?_eq_getElem (by omega)]at t4
   match cs,hcl with
   | [k0,k1,k2,k3,k4],_=>
     simp only[List.drop_zero,List.take_succ_cons,List.take_zero,List.drop_succ_cons]at t0 t1 t2 t3 t4
     obtain⟨p0,h0,_,_⟩:=DataW.trod_int Tryz.underlying3 t0
     obtain⟨p1,h1,_,_⟩:=DataW.trod_int Tryz.underlying3 t1
     obtain⟨p2,h2,_,_⟩:=DataW.trod_int Tryz.underlying3 t2
     obtain⟨p3,h3,_,_⟩:=DataW.trod_int Tryz.underlying3 t3
     obtain⟨s,P,hs,hP⟩:=putsG t4
     simp only[List.cons.injEq,and_true]at h0 h1 h2 h3
     subst h0 h1 h2 h3 hs
     exact⟨(⟨p0,p1,p2,p3,P⟩,s),rfl,hP⟩) h
 have hcap:=r.cap
 refine⟨s,L.map (·.1),rfl,⟨L,rfl,r,hb,fun x hx=>(he x hx).1⟩,by simp only[List.length_map];omega,fun o ho=>?_⟩
 obtain⟨y,hy,rfl⟩:=List.mem_map.1 ho
 exact(he y hy).2
theorem stepsG{fuel:Nat}{v:Value}{x:DataW H × List MemPlace}(h:DataW.trod enc Tryz.prog w base (fun _=>true) true fuel 22 [v]=some x):∃ (s:Sl) (T:List StepD),v=slV s∧StepsR (· < w.heap.size) w.heap s T∧StepsM T:=by
 have c3:Tryz.prog.cellsOf 3=1:=by kernel_rfl
 have c28:Tryz.prog.cellsOf 28=1:=by kernel_rfl
 have c29:Tryz.prog.cellsOf 29=1:=by kernel_rfl
 obtain⟨s,L,rfl,hl,hm,r,hb,he⟩:=sls_of (α:=StepD × StSl) (ev:=stepV) (Q:=fun x=>(OpsR0 (· < w.heap.size) w.heap x.2.ops x.1.O∧IntsR (· < w.heap.size) w.heap x.2.pk x.1.pk∧IntsR (· < w.heap.size) w.heap x.2.tn x.1.tn)∧OpsM x.1.O∧x.1.pk.length≤maxLen∧x.1.tn.length≤maxLen) (sz:=6) Tryz.underlying22 (by kernel_rfl) (by omega) (fun _=>rfl)
  (fun fuel cs x hcl htr=>by
   obtain⟨xs,n',_,_,_,hxl,hxs⟩:=DataW.trod_struct Tryz.underlying31 htr
   have hxl':xs.length=6:=hxl
   have t0:=hxs 0 _ rfl
   have t1:=hxs 1 _ rfl
   have t2:=hxs 2 _ rfl
   have t3:=hxs 3 _ rfl
   have t4:=hxs 4 _ rfl
   have t5:=hxs 5 _ rfl
   change DataW.trod enc Tryz.prog w base (fun _=>true) true _ 3 ((cs.drop 0).take (Tryz.prog.cellsOf 3))=xs[0]? at t0
   change DataW.trod enc Tryz.prog w base (fun _=>true) true _ 3 ((cs.drop 1).take (Tryz.prog.cellsOf 3))=xs[1]? at t1
   change DataW.trod enc Tryz.prog w base (fun _=>true) true _ 28 ((cs.drop 2).take (Tryz.prog.cellsOf 28))=xs[2]? at t2
   change DataW.trod enc Tryz.prog w base (fun _=>true) true _ 3 ((cs.drop 3).take (Tryz.prog.cellsOf 3))=xs[3]? at t3
   change DataW.trod enc Tryz.prog w base (fun _=>true) true _ 29 ((cs.drop 4).take (Tryz.prog.cellsOf 29))=xs[4]? at t4
   change DataW.trod enc Tryz.prog w base (fun _=>true) true _ 29 ((cs.drop 5).take (Tryz.prog.cellsOf 29))=xs[5]? at t5
   rw[c3,List.getElem?_eq_getElem (by omega)]at t0 t1 t3
   rw[c28,List.getElem?_eq_getElem (by omega)]at t2
   rw[c29,List.getElem?_eq_getElem (by omega)]at t4 t5
   match cs,hcl with
   | [k0,k1,k2,k3,k4,k5],_=>
     simp only[List.drop_zero,List.take_succ_cons,List.take_zero,List.drop_succ_cons]at t0 t1 t2 t3 t4 t5
     obtain⟨p0,h0,_,_⟩:=DataW.trod_int Tryz.underlying3 t0
     obtain⟨p1,h1,_,_⟩:=DataW.trod_int Tryz.underlying3 t1
     obtain⟨s2,O,h2,hO,mO⟩:=opsG t2
     obtain⟨p3,h3,_,_⟩:=DataW.trod_int Tryz.underlying3 t3
     obtain⟨s4,l4,h4,i4,m4⟩:=intsG t4
     obtain⟨s5,l5,h5,i5,m5⟩:=intsG t5
     simp only[List.cons.injEq,and_true]at h0 h1 h3
     subst h0 h1 h2 h3 h4 h5
     exact⟨(⟨p0,p1,O,p3,l4,l5⟩,⟨s2,s4,s5⟩),rfl,⟨hO,i4,i5⟩,mO,m4,m5⟩) h
 have hcap:=r.cap
 refine⟨s,L.map (·.1),rfl,⟨L,rfl,r,hb,fun x hx=>(he x hx).1⟩,by simp only[List.length_map];omega,fun t ht=>?_⟩
 obtain⟨y,hy,rfl⟩:=List.mem_map.1 ht
 have:=(he y hy).2
 exact⟨this.1.1,this.2.1,this.2.2,this.1.2⟩
theorem in_steps{v:Value}{d:DataW H}{ps:List MemPlace}{r:Reach}{b0:Nat}(hval:Value.okWide Tryz.prog w r b0 22 v)(hj:DataW.Trod enc Tryz.prog w base (fun _=>true) true 22 v d ps) :
 ∃ (s:Sl) (T:List StepD),v=.slice s.base s.len s.cap∧StepsR (· < w.heap.size) w.heap s T∧StepsM T:=by
 obtain⟨a,len,cap,rfl⟩:=WideShapes.okWide_slice Tryz.underlying22 hval
 obtain⟨fuel,hfu⟩:=hj
 have hfu':DataW.trod enc Tryz.prog w base (fun _=>true) true fuel 22 [.slice a len cap]=some (d,ps):=hfu
 obtain⟨s,T,hv,h1,h2⟩:=stepsG hfu'
 exact⟨s,T,hv,h1,h2⟩
end
end
section
open Go.ChangeShapes Go.WideShapes Go.ChangeAt Go.RowKit
theorem handed_and_shaped{H:Type}{enc:TypeId × Value→H}{a:Assume}{C:Checked}{os:Os}{f:FuncId}{fn:Func}{s:ChangeSpec}{conds:List PathCond}{apart fresh handsOn again:Bool}{X:World→Array Value→Prop}
 (hX:∀ (w w':World) (args:Array Value),w.heap=w'.heap→X w args→X w' args)
 (own:ownKnob C.prog.godebug=none) (started:os.Started) (noInit:C.prog.inits.idxOf? f=none) (hfn:C.prog.funcs[f]? = some fn)
 (witness:∃ (w:World) (tape:Tape) (i:Input),w.os=os∧(w.forCall tape i).Shaped C.prog∧i.vars = []∧Input.okWide C.prog (w.forCall tape i) .any w.heap.size f i∧
  ((s.pre enc C.prog fn conds apart (w.forCall tape i).memory i.args∧X (w.forCall tape i).memory i.args)∧sizedMet enc C.prog fn (OpenSpec.ofChange s) apart (w.forCall tape i).memory i.args)∧a.holds C.prog (lone (Frame.enter C.prog f i.args .normal) [] (w.forCall tape i)))
 (contract:∀ (W:World) (base:Nat) (args:Array Value) (ds gs:List (DataW H)) (before:List MemPlace),
  (∀ (j:Nat) t v,fn.params[j]? = some t→args[j]? = some v→Value.okWide C.prog W .any base t v) →
  DataW.Whole enc C.prog fn.params.toList s.vars apart W args.toList ds gs before→X W args→W.ShapedOpen C.prog →
  Calls C.prog f args W fun e W'=>∃ v,e=.returned v∧s.post enc C.prog fn apart fresh handsOn again W args v W') :
 ReturnsInHanded a C os f .any (fun w args=>(s.pre enc C.prog fn conds apart w args∧X w args)∧sizedMet enc C.prog fn (OpenSpec.ofChange s) apart w args) (s.post enc C.prog fn apart fresh handsOn again):=by
 refine returnsInHanded_of_calls own started noInit witness ?_
 intro w tape i _ hsh _ hok hpre _
 obtain⟨_,_,_,fn',hfn',_,_,_,_,hval⟩:=hok
 have e:fn'=fn:=Option.some.inj (hfn'.symm.trans hfn)
 subst e
 obtain⟨⟨⟨ds,gs,before,hw,hc⟩,hx⟩,hz⟩:=hpre
 have hw':=DataW.Whole.of_heap (w':=w.forCall tape i) (by rfl) hw
 refine(contract (w.forCall tape i) w.heap.size i.args ds gs before hval hw' (hX _ _ _ (by rfl) hx) hsh).mono fun e W' ⟨v,he,hp⟩=>?_
 subst he
 exact ChangeSpec.post_blind hp
theorem powD:(Rows.laid_internal_strconv_uint64pow10:DataW Unit)=Lib.tabData .u64 Lib.pow10Tab:=by kernel_rfl
theorem libV_of{l:List (String × DataW Unit)}{W:World}(hp:(l.all fun x=>x.2.handleName?.isNone)=true)(hm:("internal/strconv.uint64pow10",(Rows.laid_internal_strconv_uint64pow10:DataW Unit))∈l)(hL:laidMetH Tryz.prog l W)(hsh:W.ShapedOpen Tryz.prog):LibV W.heap:=by
 refine⟨laysM145.s1_3 W hsh,?_⟩
 rw[MakeChecks.laidMetH_plain _ _ _ hp]at hL
 obtain⟨g,t,cs,fuel,p,hg,ht,hv,hd⟩:=Lib.laidMet.reads hL hm
 obtain rfl:=Option.some.inj ((show Tryz.prog.globalNamed "internal/strconv.uint64pow10" = some 6 by kernel_rfl).symm.trans hg)
 obtain rfl:=Option.some.inj ((show(Tryz.prog.globals[6]?).map (·.type)=some 419 by kernel_rfl).symm.trans ht)
 rw[powD]at hd
 have hc:=Lib.cells_of_tab Tryz.underlying419 Tryz.underlying196 (by kernel_rfl) (by kernel_rfl) hd
 have e:cs=(Lib.pow10Tab.map fun z=>Value.int .u64 z).toArray:=by rw[← hc]
 subst e
 unfold World.var? at hv
 rw[hg]at hv
 simp only[Option.bind_some]at hv
 split at hv
 ·rename_i cs' ty f hb
  cases hv
  exact⟨ty,f,hb⟩
 ·cases hv
theorem wit(os:Os) :
 laidMetH Tryz.prog Rows.topEndsRow.laid ((World.laidAll Tryz.prog os Rows.topEndsRow.laid).forCall (fun _ _=>0) ⟨#[],#[.slice none 0 0],[]⟩).memory:=by
 rw[MakeChecks.laidMetH_plain _ _ _ (by kernel_rfl)];exact laidMet_laidAll _ (by kernel_rfl) (by kernel_rfl)
theorem witShaped(os:Os):((World.laidAll Tryz.prog os Rows.topEndsRow.laid).forCall (fun _ _=>0) ⟨#[],#[.slice none 0 0],[]⟩).Shaped Tryz.prog:=World.shaped_of_ZipB (by kernel_rfl) (by kernel_rfl)
end
end Go.Proofs.YtdpdkpfnfllipaaGreatDoor
