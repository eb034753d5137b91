/- A part of the proof, no condition. -/
import Derived.Test.YtdpdkpfnfllipaaGreatDoorN16
set_option linter.unusedVariables false
set_option linter.unusedSimpArgs false
namespace Go.Proofs.YtdpdkpfnfllipaaGreatDoor
theorem Row.getA{h:Hp}{b:Nat}{l:List Value}(r:Row h b l){i j:Nat}{v:Value}(hv:l[i+j]? = some v):hY h (((⟨b,0,none⟩:Addr).add i).add j)=some v:=by rw[add_add];exact r.get hv
structure Two(lo:Nat)(h:Hp)(out beh:Sl)(rows rows2:List (Sl × List UInt8)):Prop where
 o:OwnRows lo h out rows
 b:∃ L,lo≤L∧L≤h.size∧OwnRows L h beh rows2∧(∀ a,out.base=some a→a.block<L)∧∀ p∈rows,∀ a,p.1.base=some a→a.block<L
theorem Two.fresh{lo:Nat}{h:Hp}{out:Sl}{rows:List (Sl × List UInt8)}(o:OwnRows lo h out rows)(hlo:lo≤h.size):Two lo h out Sl.nil rows []:=
 ⟨o,h.size,hlo,Nat.le_refl _,OwnRows.nil _ _,fun a ha=>(o.own.lt ha).2,fun p hp a ha=>(o.base p hp a ha).2.1⟩
theorem Two.eq{lo:Nat}{h h':Hp}{out beh:Sl}{rows rows2:List (Sl × List UInt8)}(x:Two lo h out beh rows rows2)(hs:h.size≤h'.size)(e:∀ b,lo≤b→b<h.size→h'[b]? = h[b]?):Two lo h' out beh rows rows2:=by
 obtain⟨o,L,h1,h2,b,h3,h4⟩:=x
 exact⟨o.eq hs e,L,h1,by omega,b.eq hs fun c hc=>e c (by omega),h3,h4⟩
def gapJ(d:Dv):Nat→Bool
 | 0=>false
 | j+1=>gapJ d j || decide ((d.z (6+j)).rows.length<d.size)
def outJ(d:Dv):Nat→List (List UInt8)
 | 0=>[]
 | j+1=>if gapJ d j then outJ d j else outJ d j++(d.z (6+j)).rows
def behJ(d:Dv):Nat→List (List UInt8)
 | 0=>[]
 | j+1=>if gapJ d j then behJ d j++(d.z (6+j)).rows else behJ d j
def stW(db:Nat)(m s:Option Addr)(pos num:Nat)(off:Bool):List Value:=[dp db,.int .i64 (0:Int),.int .i64 (3:Int),.int .i64 (6:Int),.int .i64 (7:Int),.pointer m,.pointer s,.int .i64 (pos:Int),.int .i64 (num:Int),.bool off]
theorem sLog_spec{F:Nat→Nat}{h:Hp}{sb db:Nat}{d:Dv}{m s:Option Addr}{pos num:Nat}{off:Bool}(x:DevAt 0 F h db d)(hn:d.n=8)(row:Row h sb (stW db m s pos num off))(hF:F sb=0) :
 HC Tryz.prog 70 #[pv sb] h fun r h'=>∃ (out beh:Sl) (rows rows2:List (Sl × List UInt8)) (q:Int),r=.tuple #[.slice out.base out.len out.cap,.slice beh.base beh.len beh.cap]∧Two h.size h' out beh rows rows2∧rows.map (·.2)=outJ d 2∧rows2.map (·.2)=behJ d 2∧DevAt 0 F h' db (withReads d q)∧Chg F h h':=by
 apply wc70
 unfold vc70
 have w:=x.1
 have hsz:=w.size
 refine⟨_,rfl,_,row.get0 rfl,(Geometry_spec x).mono ?_⟩
 rintro _ h1 ⟨rfl,e1⟩
 have s1:=e1.size
 have row1:=row.ext e1
 have c1:Chg F h h1:=e1.chg F
 refine⟨_,_,rfl,_,rfl,_,row1.getA rfl,?_⟩
 refine⟨fun out beh gap z m h'=>∃ (j:Nat) (rows rows2:List (Sl × List UInt8)) (q:Int),z=((6+j:Nat):Int)∧m+j=2∧Two h.size h' out beh rows rows2∧rows.map (·.2)=outJ d j∧rows2.map (·.2)=behJ d j∧gap=gapJ d j∧(gap=false→beh=Sl.nil∧rows2 = [])∧rows.length≤j*192∧rows2.length≤j*192∧DevAt 0 F h' db (withReads d q)∧Chg F h h',2,
  ⟨0,[],[],d.reads,rfl,rfl,(Two.fresh (OwnRows.nil h.size h1) s1),rfl,rfl,rfl,fun _=>⟨rfl,rfl⟩,by simp,by simp,x.ext e1,c1⟩,?_⟩
 rintro _ out beh gap _ m h2 ⟨j,rows,rows2,q,rfl,hm,tw,hr,hr2,hg,hnil,hl,hl2,x2,c2⟩
 have row2:=row.chg c2 hF
 have s2:=c2.size
 refine⟨_,rfl,_,row2.getA rfl,IfB.dec (fun hlt=>?_) (fun hge=>?_)⟩
 ·have hj:j<2:=by omega
  refine⟨_,rfl,_,row2.get0 rfl,(Pointer_spec x2 _).mono ?_⟩
  rintro _ h2' ⟨hh,⟨hno,_⟩ | ⟨k',hk',hkn,rfl⟩⟩
  ·exact absurd ⟨by omega,by show((6+j:Nat):Int)<(d.n:Int);omega⟩ hno
  obtain rfl:=hh.symm
  obtain rfl:k'=6+j:=by omega
  refine⟨_,_,rfl,?_⟩
  have hzr:=(w.zone (6+j)).rows
  have hzn:((withReads d q).z (6+j)).rows.length=(d.z (6+j)).rows.length:=rfl
  refine⟨fun out beh t m h'=>∃ (k:Nat) (rows' rows2':List (Sl × List UInt8)) (q:Int),t=k∧m+k=(d.z (6+j)).rows.length∧Two h.size h' out beh rows' rows2'∧rows'.map (·.2)=(if gap then rows.map (·.2) else rows.map (·.2)++(d.z (6+j)).rows.take k)∧rows2'.map (·.2)=(if gap then rows2.map (·.2)++(d.z (6+j)).rows.take k else rows2.map (·.2))∧(gap=false→beh=Sl.nil∧rows2' = [])∧DevAt 0 F h' db (withReads d q)∧Chg F h h',(d.z (6+j)).rows.length,
   ⟨0,rows,rows2,q,rfl,rfl,tw,by simp,by simp,hnil,x2,c2⟩,?_⟩
  rintro _ out1 beh1 _ m3 h3 ⟨k,rows',rows2',q3,rfl,hm3,tw3,hr3,hr4,hnil3,x3,c3⟩
  have row3:=row.chg c3 hF
  have s3:=c3.size
  have hl3:rows'.length≤rows.length+k:=by
   have:=congrArg List.length hr3
   split at this <;> simp at this <;> omega
  have hl4:rows2'.length≤rows2.length+k:=by
   have:=congrArg List.length hr4
   split at this <;> simp at this <;> omega
  refine IfB.dec (fun hlt2=>?_) (fun hge2=>?_)
  ·have hk:k<(d.z (6+j)).rows.length:=by omega
   refine⟨_,rfl,_,row3.get0 rfl,(Read_spec x3 _ _).mono ?_⟩
   have hrd:(withReads d q3).read ((6+j:Nat):Int) (k:Int)=(((d.z (6+j)).rows.getD k [],0),(withReads d q3).read1):=by
    unfold Dv.read
    rw[if_neg (not_not_intro ⟨by omega,by show _<(d.n:Int);omega⟩),if_neg (not_not_intro ⟨by omega,by show(k:Int)<(((d.z (((6+j:Nat):Int)).toNat).rows.length:Nat):Int);rw[Int.toNat_natCast];omega⟩)]
    rfl
   rw[hrd]
   rintro _ h4 ⟨u,rfl,ou,lu,x4,c4⟩
   have s4:=c4.size
   have F0:∀ b,h.size≤b→b<h3.size→h4[b]? = h3[b]?:=fun b hb1 hb2=>c4.block b hb2 (x.free hb1)
   have tw4:=tw3.eq s4 F0
   have c04:=c3.tr c4
   have hg:(d.z (6+j)).rows.getD k []=(d.z (6+j)).rows[k]:=by simp[hk]
   rw[hg]at ou
   refine⟨u,_,rfl,IfB.intro (fun hgap=>?_) (fun hgap=>?_)⟩
   ·intro h5
    obtain⟨o3,L,hL1,hL2,b3,hL3,hL4⟩:=tw3
    have o4:=o3.eq s4 F0
    have b4:=b3.eq s4 fun c hc=>F0 c (by omega)
    rw[if_pos hgap]at hr3 hr4
    refine OwnRows.pushG rfl b4 (by omega) ou.toRd (fun a ha=>⟨by have:=(ou.lt ha).1;omega,(ou.lt ha).2,fun a' ha'=>by have:=(ou.lt ha).1;have:=(b3.own.lt ha').2;omega⟩) (by omega) (by omega) fun r h6 o6 l6 k6 y6=>?_
    have s6:=k6.size
    refine⟨m3-1,by omega,k+1,rows',rows2' ++ [(u,(d.z (6+j)).rows[k])],_,by rw[iAdd64 (by omega)];push_cast;rfl,by omega,⟨⟨o4.own.eq fun a ha=>k6.block _ (hL3 a ha),fun p hp=>(o4.each p hp).eq fun a ha=>k6.block _ (hL4 p hp a ha),fun p hp a ha=>⟨(o4.base p hp a ha).1,Nat.lt_of_lt_of_le (o4.base p hp a ha).2.1 s6,(o4.base p hp a ha).2.2⟩⟩,L,hL1,by omega,o6,hL3,hL4⟩,?_,?_,?_,x4.keep s6 ?_,?_⟩
    ·rw[if_pos hgap];exact hr3
    ·rw[if_pos hgap,List.map_append,hr4,List.take_succ_eq_append_getElem hk,List.append_assoc];rfl
    ·intro hh;rw[hgap]at hh;cases hh
    ·exact fun b hb=>k6.block b (by have:=(x.dom b hb).2;omega)
    ·exact⟨by omega,fun b hb hFb=>by rw[k6.block b (by omega),c04.block b hb hFb]⟩
   ·intro h5
    obtain⟨n1,n2⟩:=hnil3 hgap
    rw[if_neg (by simp[hgap])]at hr3 hr4
    refine OwnRows.pushG rfl tw4.o (by omega) ou.toRd (fun a ha=>⟨by have:=(ou.lt ha).1;omega,(ou.lt ha).2,fun a' ha'=>by have:=(ou.lt ha).1;have:=(tw3.o.own.lt ha').2;omega⟩) (by omega) (by omega) fun r h6 o6 l6 k6 y6=>?_
    have s6:=k6.size
    subst n1 n2
    refine⟨m3-1,by omega,k+1,rows' ++ [(u,(d.z (6+j)).rows[k])],[],_,by rw[iAdd64 (by omega)];push_cast;rfl,by omega,Two.fresh o6 (by omega),?_,?_,?_,x4.keep s6 ?_,?_⟩
    ·rw[if_neg (by simp[hgap]),List.map_append,hr3,List.take_succ_eq_append_getElem hk,List.append_assoc];rfl
    ·rw[if_neg (by simp[hgap])];exact hr4
    ·exact fun _=>⟨rfl,rfl⟩
    ·exact fun b hb=>k6.block b (by have:=(x.dom b hb).2;omega)
    ·exact⟨by omega,fun b hb hFb=>by rw[k6.block b (by omega),c04.block b hb hFb]⟩
  ·obtain rfl:k=(d.z (6+j)).rows.length:=by omega
   rw[List.take_length]at hr3 hr4
   refine IfB.intro (fun hgap=>?_) (fun hgap=>?_)
   ·have hgj:gapJ d j=true:=by rw[← hg];exact hgap
    rw[if_pos hgap]at hr3 hr4
    exact⟨m-1,by omega,j+1,rows',rows2',q3,by rw[iAdd64 (by omega)];push_cast;omega,by omega,tw3,by rw[hr3,hr];simp[outJ,hgj],by rw[hr4,hr2];simp[behJ,hgj],by simp[gapJ,hgj],fun h=>(by cases h),by omega,by omega,x3,c3⟩
   ·have hgj:gapJ d j=false:=by rw[← hg];exact hgap
    rw[if_neg (by simp[hgap])]at hr3 hr4
    obtain⟨n1,n2⟩:=hnil3 hgap
    refine⟨m-1,by omega,j+1,rows',rows2',q3,by rw[iAdd64 (by omega)];push_cast;omega,by omega,tw3,by rw[hr3,hr];simp[outJ,hgj],by rw[hr4,hr2];simp[behJ,hgj],?_,fun _=>⟨n1,n2⟩,by omega,by omega,x3,c3⟩
    simp only[gapJ,hgj,Bool.false_or,decide_eq_decide]
    show((d.z (6+j)).rows.length:Int)<(d.size:Int)↔_
    omega
 ·obtain rfl:j=2:=by omega
  exact⟨out,beh,rows,rows2,q,rfl,tw,hr,hr2,x2,c2⟩
def WOk(W:Int→List UInt8→Prop):Prop:=∀ a l,W a l→0≤a∧a<258∧l.length=40
def JB(W:Int→List UInt8→Prop)(p:List UInt8):Prop:=p.length=64∧(dK p=1∨dK p=2)∧(goodP p→dK p=1→W (dL p) (dB p))
theorem JB.mono{W W':Int→List UInt8→Prop}{p:List UInt8}(h:JB W p)(hw:∀ a l,W a l→W' a l):JB W' p:=⟨h.1,h.2.1,fun g k=>hw _ _ (h.2.2 g k)⟩
def strangeB(p:List UInt8):Bool:=decide (dK p≠1∧dK p≠2)
theorem strange_spec{h:Hp}{s:Sl}{p:List UInt8}(r:Rd 1 h s (p.map bv))(h0:0<p.length):HC Tryz.prog 72 #[.slice s.base s.len s.cap] h fun r h'=>r=.bool (strangeB p)∧h'=h:=by
 apply wc72
 unfold vc72
 have hl:=r.lenB
 have hg:p[0].toNat=dK p:=by unfold dK;rw[List.getD_eq_getElem?_getD,List.getElem?_eq_getElem h0];rfl
 refine ixB r.rd hl 0 rfl h0 (IfB.ne (fun h1=>ixB r.rd hl 0 rfl h0 ⟨?_,rfl⟩) (fun h1=>⟨?_,rfl⟩))
 ·unfold strangeB
  rw[Value.bool.injEq,Bool.eq_iff_iff,bne_iff_ne,decide_eq_true_eq]
  omega
 ·unfold strangeB;rw[Value.bool.injEq,eq_comm,decide_eq_false_iff_not];omega
theorem IsB.puts{W:Int→List UInt8→Prop}{l:List (List UInt8)}{i nm e:Nat}{T:List TxD}(b:IsB l i nm e T)(hj:∀ p∈l,JB W p):∀ x∈T,∀ p∈x.2,W p.1 p.2:=by
 intro x hx p hp
 have hm:p∈allPuts T:=List.mem_flatMap.2 ⟨x,hx,hp⟩
 obtain⟨g,k,_,_,hl⟩:=encB_put b.check b.hep hm
 have hin:putB e nm p∈l:=by
  have:putB e nm p∈l.take (i+1):=by rw[b.rows];exact List.mem_append_left _ (List.mem_map_of_mem hm)
  exact List.mem_of_mem_take this
 have:=(hj _ hin).2.2 g.2 k
 rw[← hl];exact this
theorem IsB.goods{l:List (List UInt8)}{i nm e:Nat}{T:List TxD}(b:IsB l i nm e T):∀ p∈l.take (i+1),goodB p:=by
 intro p hp
 obtain⟨_,hs,_⟩:=dec_complete b
 have h2:=b.rows
 rw[List.take_succ_eq_append_getElem b.lt]at h2 hp
 rcases List.mem_append.1 hp with hp | hp
 ·have hi:p∈(allPuts T).map (putB e nm):=by
   unfold encB at h2
   have:=(List.append_inj' h2 rfl).1
   rw[← this];exact hp
  obtain⟨q,hq,rfl⟩:=List.mem_map.1 hi
  exact(encB_put b.check b.hep hq).1
 ·simp only[List.mem_cons,List.not_mem_nil,or_false]at hp
  subst hp
  have h3:goodB (rwL l i):=hs.1
  simpa [rwL,b.lt] using h3
structure RowsS(G:Gh)(h:Hp)(s:Sl)(rows:List (Sl × List UInt8)):Prop where
 rd:Rd 1 h s (rows.map fun p=>slV p.1)
 each:∀ p∈rows,Rd 1 h p.1 (p.2.map bv)
 sb:∀ a,s.base=some a→Stab G h a.block
 eb:∀ p∈rows,∀ a,p.1.base=some a→Stab G h a.block
theorem RowsS.to{S:Kd→Prop}{G G':Gh}{h h':Hp}{s:Sl}{rows:List (Sl × List UInt8)}(x:RowsS G h s rows)(y:To S G h G' h'):RowsS G' h' s rows:=
 ⟨x.rd.eq fun a ha=>(y.stab (x.sb a ha)).1,fun p hp=>(x.each p hp).eq fun a ha=>(y.stab (x.eb p hp a ha)).1,fun a ha=>(y.stab (x.sb a ha)).2,fun p hp a ha=>(y.stab (x.eb p hp a ha)).2⟩
theorem RowsS.cut{G:Gh}{h:Hp}{s:Sl}{rows:List (Sl × List UInt8)}(x:RowsS G h s rows){k:Nat}(hk:k≤s.len):RowsR h (cutSl s (k:Int) (s.len:Int) (s.cap:Int) 1) (rows.drop k):=by
 have hl:rows.length=s.len:=by have:=x.rd.len;simpa using this
 have:=x.rd.cut (lo:=k) (hi:=s.len) (m:=s.cap) hk (Nat.le_refl _) x.rd.cap
 rw[Nat.mul_one,Nat.mul_one,List.take_of_length_le (by simp;omega),← List.map_drop]at this
 exact⟨this.rd,by have:=this.len;simp at this ⊢;omega,fun p hp=>x.each p (List.mem_of_mem_drop hp)⟩
theorem kset{G:Gh}{h:Hp}{b:Nat}{l:List Value}{k:Kd}(t:HT G h)(hk:G.k b=k)(hn:¬ Told k)(r:Row h b l){i:Nat}(hi:i<l.length)(v:Value) :
 StOk h ((⟨b,0,none⟩:Addr).add i)∧ToB b G h G (hset h ((⟨b,0,none⟩:Addr).add i) v)∧Row (hset h ((⟨b,0,none⟩:Addr).add i) v) b (l.set i v):=by
 obtain⟨ok,r',o,s⟩:=r.set hi v
 exact⟨ok,t.toB (by rw[hk];exact hn) (by omega) fun c _ hc=>o c hc,r'⟩
def sMnt:Kd→Prop
 | .one n=>n=2∨n=21∨n=22
 | _=>False
theorem sMnt_st:∀ k,sMnt k→sSt k
 | .one _,h=>by simp only[sMnt]at h;simp only[sSt];omega
section
variable{G:Gh}{h:Hp}{sb db lb b mp:Nat}{m:Option Addr}{S:SlV}{tx:List UInt8}{ts:Sl}{last:Int}{P:List PutD}{l:Sl}{rows:List (Sl × List UInt8)}
theorem sReplay_spec(t:HT G h)(hW:WOk G.W)(kd:G.k sb=.one 2)(row:Row h sb (stW db m (some ⟨lb,0,none⟩) 0 0 false))(kl:G.k lb=.one 8)(sl:Row h lb (slC db S ts))(rt:Rd 1 h ts (tx.map bv))(htx:tx.length≤1000000)
 (x:StateIn G h b mp last P) (hla:0≤last∧last≤1099511627776) (hne:P ≠ []→1≤last) (rs:RowsS G h l rows) (hmax:rows.length≤1000) (hj:∀ p∈rows,JB G.W p.2) :
 HC Tryz.prog 73 #[pv sb,pv b,.slice l.base l.len l.cap] h fun r h'=>∃ (torn:Bool) (pos num:Nat) (last':Int) (P':List PutD),r=.bool torn∧To sMnt G h G h'∧Row h' sb (stW db m (some ⟨lb,0,none⟩) pos num false)∧StateIn G h' b mp last' P'∧(0≤last'∧last'≤1099511627776)∧(P' ≠ []→1≤last')∧pos≤rows.length∧num≤pos∧(torn=false→pos=rows.length∧∀ p∈rows,goodB p.2)∧(rows = []→torn=false∧num=0∧P'=P∧last'=last):=by
 apply wc73
 unfold vc73
 refine⟨_,rfl,_,row.get rfl,(Load_spec sl rt htx).mono ?_⟩
 rintro _ h1 ⟨u,rfl,ou,lu,e1⟩
 have hll:rows.length=l.len:=by have:=rs.rd.len;simpa using this
 refine⟨u,_,rfl,?_⟩
 refine⟨fun torn m' h'=>∃ (pos num:Nat) (last':Int) (P':List PutD),torn=false∧m'+pos=rows.length∧To sMnt G h G h'∧Row h' sb (stW db m (some ⟨lb,0,none⟩) pos num false)∧StateIn G h' b mp last' P'∧(0≤last'∧last'≤1099511627776)∧(P' ≠ []→1≤last')∧num≤pos∧(∀ p∈rows.take pos,goodB p.2)∧(rows = []→num=0∧P'=P∧last'=last),rows.length,
  ⟨0,0,last,P,rfl,rfl,e1.to t,row.ext e1,x.to (e1.to t (S:=fun _=>False)) id id,hla,hne,Nat.le_refl _,fun p hp=>by simp at hp,fun _=>⟨rfl,rfl,rfl⟩⟩,?_⟩
 rintro _ _ m2 h2 ⟨pos,num,last2,P2,rfl,hm2,y2,row2,x2,hla2,hne2,hnp,hgood,hemp⟩
 refine⟨_,rfl,_,row2.get rfl,IfB.dec (fun hlt=>?_) (fun hge=>?_)⟩
 ·have hpos:pos<rows.length:=by omega
  have rs2:=rs.to y2
  have stop:∀ {h':Hp},Ext h2 h' →∃ (torn:Bool) (pos num:Nat) (last':Int) (P':List PutD),Value.bool true=.bool torn∧To sMnt G h G h'∧Row h' sb (stW db m (some ⟨lb,0,none⟩) pos num false)∧StateIn G h' b mp last' P'∧(0≤last'∧last'≤1099511627776)∧(P' ≠ []→1≤last')∧pos≤rows.length∧num≤pos∧(torn=false→pos=rows.length∧∀ p∈rows,goodB p.2)∧(rows = []→torn=false∧num=0∧P'=P∧last'=last):=fun e=>
   ⟨true,pos,num,last2,P2,rfl,y2.ext e,row2.ext e,x2.to (e.to y2.ht (S:=fun _=>False)) id id,hla2,hne2,by omega,hnp,fun h=>(by cases h),fun h=>(by rw[h]at hpos;simp at hpos)⟩
  refine⟨_,rfl,_,row2.get rfl,by omega,by omega,by have:=rs.rd.cap;omega,by omega,(BDecode_spec (rs2.cut (k:=pos) (by omega)) (by simp;omega)).mono ?_⟩
  rintro _ h3 ⟨e3,bn,bt,ep,n,err,rfl,hc⟩
  have s3:=e3.size
  refine⟨_,_,_,_,_,rfl,?_⟩
  intro h4
  have e4:Ext h3 h4:=alc_ext _ _ _
  have s4:h4.size=h3.size+1:=size_alc _ _ _
  have r4:Row h4 h3.size [.int .i64 (0:Int),.slice Sl.nil.base Sl.nil.len Sl.nil.cap]:=Row.alc _ _ _
  refine r4.put (vs:=[.int .i64 bn,.slice bt.base bt.len bt.cap]) rfl (by simp[cellOk]) fun h5 r5 s5 o5=>?_
  have e35:Ext h3 h5:=⟨by omega,fun b hb=>by rw[o5 b (by omega),e4.block b hb]⟩
  have e25:=e3.trans e35
  rcases hc with ⟨_,rfl,_⟩ | ⟨_,_,rfl,_⟩ | ⟨i,nm,e,T,isb,rfl,rfl,rfl,rfl,tx2⟩
  ·exact .yes rfl (stop e25)
  ·exact .yes rfl (stop e25)
  refine .no rfl (IfB.ne (fun _=>stop e25) fun hep=>⟨_,r5.get0 rfl,_,rfl,_,(row2.ext e25).get rfl,IfB.ne (fun _=>stop e25) fun hnum=>⟨bt,r5.get rfl,?_⟩⟩)
  have hT:=isb.check.len
  have hlt2:=isb.lt
  simp only[List.length_map,List.length_drop]at hlt2
  have t2:=y2.ht
  have st2:∀ c,h2.size≤c∧c<h3.size→Stab G h5 c:=fun c hc=>⟨by omega,by rw[t2.fresh hc.1];exact fun h=>h⟩
  have tx5:TxsR (Stab G h5) h5 bt T:=(tx2.ext e35).mono st2
  have hwT:=isb.puts (W:=G.W) fun p hp=>by
   obtain⟨z,hz,rfl⟩:=List.mem_map.1 hp
   exact hj z (List.mem_of_mem_drop hz)
  have tmj:∀ j (hjT:j<T.length),1≤T[j].1∧T[j].1≤1099511627776:=fun j hjT=>by
   rw[tm_get hjT]
   have:=prev_le isb.check.order hjT
   have:=(isb.check.order j hjT).2.1
   omega
  have row5:=row2.ext e25
  have y5:To sMnt G h G h5:=y2.ext e25
  have x5:=x2.to (e25.to t2 (S:=fun _=>False)) id id
  refine tx5.ix 0 rfl (by omega) fun a d c0 c1 _=>⟨_,c0,_,rfl,_,x5.row.get0 rfl,IfB.dec (fun _=>stop e25) fun _=>⟨bt,r5.get rfl,?_⟩⟩
  refine⟨fun i m' h'=>∃ (j:Nat) (lastj:Int) (Pj:List PutD),i=j∧m'+j=T.length∧To sMnt G h5 G h'∧Row h' sb (stW db m (some ⟨lb,0,none⟩) pos num false)∧StateIn G h' b mp lastj Pj∧(0≤lastj∧lastj≤1099511627776)∧(Pj ≠ []→1≤lastj),T.length,
   ⟨0,last2,P2,rfl,rfl,.refl y5.ht,row5,x5,hla2,hne2⟩,?_⟩
  rintro _ _ m6 h6 ⟨j,lastj,Pj,rfl,hm6,y6,row6,x6,hlaj,hnej⟩
  have htl:=tx5.len
  have s6:=y6.size
  refine IfB.dec (fun hltj=>?_) (fun hgej=>?_)
  ·have hjT:j<T.length:=by omega
   have tx6:=tx5.to y6
   refine tx6.ix j rfl hjT fun a d c0 c1 pd=>⟨_,d,c0,c1,?_⟩
   intro h7
   have e7:Ext h6 h7:=alc_ext _ _ _
   have s7:h7.size=h6.size+1:=size_alc _ _ _
   have r7:Row h7 h6.size [.int .i64 (0:Int),.slice Sl.nil.base Sl.nil.len Sl.nil.cap]:=Row.alc _ _ _
   refine r7.put (vs:=[.int .i64 T[j].1,.slice d.base d.len d.cap]) rfl (by simp[cellOk]) fun h8 r8 s8 o8=>⟨d,r8.get rfl,?_⟩
   have e68:Ext h6 h8:=⟨by omega,fun b hb=>by rw[o8 b (by omega),e7.block b hb]⟩
   have y68:To (fun _=>False) G h6 G h8:=e68.to y6.ht
   have pd8:=pd.to y68
   have hpl:=pd.len
   have h16:T[j].2.length≤16:=by rw[pt_get hjT];exact(isb.check.each j hjT).2.1
   have k8:G.k h6.size=.any:=y6.ht.fresh (Nat.le_refl _)
   refine⟨fun i m' h'=>∃ (k:Nat) (Pk:List PutD),i=k∧m'+k=T[j].2.length∧To sMnt G h8 G h'∧Row h' sb (stW db m (some ⟨lb,0,none⟩) pos num false)∧StateIn G h' b mp lastj Pk,T[j].2.length,
    ⟨0,Pj,rfl,rfl,.refl y68.ht,row6.ext e68,x6.to y68 id id⟩,?_⟩
   rintro _ _ m9 h9 ⟨k,Pk,rfl,hm9,y9,row9,x9⟩
   have s9:=y9.size
   refine IfB.dec (fun hltk=>?_) (fun hgek=>?_)
   ·have hk:k<T[j].2.length:=by omega
    have hwp:=hwT T[j] (List.getElem_mem hjT) _ (List.getElem_mem hk)
    have hwo:=hW _ _ hwp
    refine(pd8.to y9).ix k rfl hk fun a d2 c0 c1 rd bd=>⟨_,d2,c0,c1,?_⟩
    intro h10
    have e10:Ext h9 h10:=alc_ext _ _ _
    have s10:h10.size=h9.size+1:=size_alc _ _ _
    have r10:Row h10 h9.size [.int .i64 (0:Int),.slice Sl.nil.base Sl.nil.len Sl.nil.cap]:=Row.alc _ _ _
    refine r10.put (vs:=[.int .i64 T[j].2[k].1,.slice d2.base d2.len d2.cap]) rfl (by simp[cellOk]) fun h11 r11 s11 o11=>?_
    have e911:Ext h9 h11:=⟨by omega,fun b hb=>by rw[o11 b (by omega),e10.block b hb]⟩
    have y911:To (fun _=>False) G h9 G h11:=e911.to y9.ht
    have x11:=x9.to y911 id id
    have br:BR G h11 d2 T[j].2[k].2:=BR.to (h:=h9) ⟨rd,bd⟩ y911
    obtain⟨dl,dc,hmp,b12,x12⟩:=x11.put y911.ht br ⟨hwo.1,hwo.2.1⟩ hwo.2.2 hwp
    have y12:To sMnt G h11 G _:=b12.to (by rw[x11.km];exact⟨trivial,.inr (.inr rfl)⟩)
    refine⟨h11,.refl _,_,rfl,_,x11.row.get rfl,_,r11.get0 rfl,d2,r11.get rfl,mp,dl,dc,rfl,hmp,m9-1,by omega,k+1,_,by rw[iAdd64 (by omega)];push_cast;rfl,by omega,(y9.ext e911).trans y12,?_,x12⟩
    exact(row9.ext e911).eq (b12.fr _ (row9.ext e911).lt fun e=>by have:=x11.km;rw[← e,kd]at this;cases this)
   ·have r9:Row h9 h6.size [.int .i64 T[j].1,.slice d.base d.len d.cap]:=r8.eq (y9.fr _ r8.lt (by rw[k8];exact fun h=>h.1))
    obtain⟨ok,b13,x13⟩:=x9.time y9.ht T[j].1
    have y13:To sMnt G h9 G _:=b13.to (by rw[x9.kb];exact⟨trivial,.inr (.inl rfl)⟩)
    refine⟨_,r9.get0 rfl,_,rfl,ok,m6-1,by omega,j+1,T[j].1,Pk,by rw[iAdd64 (by omega)];push_cast;rfl,by omega,(y6.ext e68).trans (y9.trans y13),?_,x13,?_,fun _=>(tmj j hjT).1⟩
    ·exact row9.eq (b13.fr _ row9.lt fun e=>by have:=x9.kb;rw[← e,kd]at this;cases this)
    ·have:=tmj j hjT;omega
  ·have y06:=y5.trans y6
   obtain⟨ok7,b7,row7⟩:=kset y6.ht kd (fun h=>h) row6 (i:=7) (by simp[stW]) (.int .i64 ((pos+(i+1):Nat):Int))
   have ea:iAdd .i64 (pos:Int) ((i+1:Nat):Int)=((pos+(i+1):Nat):Int):=by rw[iAdd64 (by omega)];push_cast;rfl
   have row7:Row (hset h6 ((⟨sb,0,none⟩:Addr).add 7) (.int .i64 ((pos+(i+1):Nat):Int))) sb (stW db m (some ⟨lb,0,none⟩) (pos+(i+1)) num false):=row7
   refine⟨_,rfl,_,row6.get rfl,_,rfl,ok7,?_⟩
   rw[ea]
   obtain⟨ok8,b8,row8⟩:=kset b7.ht kd (fun h=>h) row7 (i:=8) (by simp[stW]) (.int .i64 ((num+1:Nat):Int))
   have eb:iAdd .i64 (num:Int) (1:Int)=((num+1:Nat):Int):=by rw[iAdd64 (by omega)];push_cast;rfl
   refine⟨_,rfl,_,row7.get rfl,_,rfl,ok8,?_⟩
   rw[eb]
   have y7:To sMnt G h6 G _:=b7.to (by rw[kd];exact⟨trivial,.inl rfl⟩)
   have y8:To sMnt G _ G _:=b8.to (by rw[kd];exact⟨trivial,.inl rfl⟩)
   have y78:=b7.trans b8
   have y78':To (fun k=>k=.one 2) G h6 G _:=y78.to (by rw[kd];exact⟨trivial,rfl⟩)
   refine⟨m2-(i+1),by omega,pos+(i+1),num+1,lastj,Pj,rfl,by omega,(y06.trans y7).trans y8,row8,x6.to y78' (by simp) (by simp),hlaj,hnej,by omega,?_,fun h=>by rw[h]at hpos;simp at hpos⟩
   intro p hp
   rw[List.take_add]at hp
   rcases List.mem_append.1 hp with hp | hp
   ·exact hgood p hp
   ·refine isb.goods _ ?_
    rw[← List.map_take]
    exact List.mem_map_of_mem hp
 ·have hp:pos=rows.length:=by omega
  refine⟨false,pos,num,last2,P2,rfl,y2,row2,x2,hla2,hne2,by omega,hnp,fun _=>⟨hp,fun p hp'=>hgood p (by rw[hp,List.take_length];exact hp')⟩,fun h=>⟨rfl,hemp h⟩⟩
end
theorem Stab.dev0{G:Gh}{h:Hp}{b:Nat}(x:Stab G h b):devF G b=0:=by
 refine devK_not fun hd=>x.2 ?_
 cases hk:G.k b <;> rw[hk]at hd <;> first | exact hd.elim | trivial
noncomputable def wV(d:Dv)(pos:Nat)(L:List (List UInt8)):Int × Dv:=
 if (d.puts 6 96 pos L).1≠0 then (12,(d.puts 6 96 pos L).2) else if (d.puts 6 96 pos L).2.flush.1≠0 then (12,(d.puts 6 96 pos L).2.flush.2) else (0,(d.puts 6 96 pos L).2.flush.2)
section
variable{G:Gh}{h:Hp}{M sb:Nat}{X:StD}{db lb mb:Nat}{ts:Sl}{em bk am:Nat}{q:Sl}{tb:Nat→Nat}
theorem StIn.reown{G':Gh}{h':Hp}{pos num:Nat}{off:Bool}(x:StIn G h M sb X db lb mb ts em bk am q tb)(y:To (fun k=>k=.one 2) G h G' h')(hr:Row h' sb (stV db mb lb pos num off)):StIn G' h' M sb { X with pos:=pos,num:=num,off:=off } db lb mb ts em bk am q tb:=by
 obtain⟨s1,s2,s3⟩:=x.sl.to x.kl x.tst y (by simp)
 exact⟨y.kd x.kd (by simp),hr,x.dev.to y (fun k hk e=>by rw[e]at hk;exact hk),s2,s1,s3,x.mgr.to y (Nat.le_refl _) (fun k hk e=>by rw[e]at hk;simp[sMgr]at hk),x.tlo⟩
theorem sWriteB_spec(t:HT G h)(x:StIn G h M sb X db lb mb ts em bk am q tb)(hn:X.dv.n=8)(hs:X.dv.size=96)(hb:X.count≤4294967295)(hnum:X.num≤1000000)(hpos:X.pos≤192)(htx:X.tx.length≤1000000){bn:Int}{s:Sl}{T:List TxD}(tx:TxsR (Stab G h) h s T)(hP:∀ j,(pt T j).length≤1000000) :
 HC Tryz.prog 59 #[pv sb,.agg #[.int .i64 bn,.slice s.base s.len s.cap]] h fun r h'=>∃ (G':Gh) (c:Int) (X':StD),r=.int .i64 c∧To (fun k=>isDev k∨k=.one 2) G h G' h'∧G'.W=G.W∧StIn G' h' M sb X' db lb mb ts em bk am q tb∧
  ((c=9∧X'=X∧¬ (CheckP ((X.num+1:Nat):Int) T∧X.pos+blocksN T≤192)) ∨
   (CheckP ((X.num+1:Nat):Int) T∧X.pos+blocksN T≤192∧c=(wV X.dv X.pos (encB (X.num+1) X.count T)).1∧
    ((c=0∧X' = { X with dv:=(wV X.dv X.pos (encB (X.num+1) X.count T)).2,pos:=X.pos+blocksN T,num:=X.num+1 })∨(c=12∧X' = { X with dv:=(wV X.dv X.pos (encB (X.num+1) X.count T)).2 })))):=by
 apply wc59
 unfold vc59
 intro h1
 have e1:Ext h h1:=alc_ext _ _ _
 have s1:h1.size=h.size+1:=size_alc _ _ _
 have r1:Row h1 h.size [.int .i64 bn,.slice s.base s.len s.cap]:=Row.alc _ _ _
 have x1:=x.pure (e1.to t)
 refine⟨_,rfl,_,x1.row.get rfl,(Load_spec x1.sl.row x1.sl.text htx).mono ?_⟩
 rintro _ h2 ⟨u,rfl,ou,lu,e2⟩
 have s2:=e2.size
 have e12:=e1.trans e2
 have x2:=x.pure (e12.to t)
 obtain⟨ok3,r3,o3,s3⟩:=(r1.ext e2).set0 (by simp) (.int .i64 ((X.num+1:Nat):Int))
 have ea:iAdd .i64 (X.num:Int) (1:Int)=((X.num+1:Nat):Int):=by rw[iAdd64 (by omega)];push_cast;rfl
 refine⟨u,_,rfl,_,rfl,_,x2.row.get rfl,ok3,?_⟩
 rw[ea,show nw h=⟨h.size,0,none⟩ from rfl]
 generalize hset h2 ⟨h.size,0,none⟩ (.int .i64 ((X.num+1:Nat):Int))=h3 at *
 have r3:Row h3 h.size [.int .i64 ((X.num+1:Nat):Int),.slice s.base s.len s.cap]:=r3
 have e03:Ext h h3:=⟨by omega,fun b hb=>by rw[o3 b (by omega),e12.block b hb]⟩
 have x3:=x.pure (e03.to t)
 have t3:=t.ext e03
 have tx3:TxsR (Stab G h3) h3 s T:=tx.to (e03.to t (S:=fun _=>False))
 refine⟨_,s,r3.get0 rfl,r3.get rfl,(BEncode_spec _ _ (tx3.mono fun b hb=>hb.1) hP).mono ?_⟩
 rintro _ h4 ⟨e4,hc⟩
 have s4:=e4.size
 have e04:=e03.trans e4
 have x4:=x.pure (e04.to t)
 have t4:=t.ext e04
 have fin9:∀ {h':Hp},Ext h4 h' →¬ (CheckP ((X.num+1:Nat):Int) T∧X.pos+blocksN T≤192) →∃ (G':Gh) (c:Int) (X':StD),Value.int .i64 (9:Int)=.int .i64 c∧To (fun k=>isDev k∨k=.one 2) G h G' h'∧G'.W=G.W∧StIn G' h' M sb X' db lb mb ts em bk am q tb∧
  ((c=9∧X'=X∧¬ (CheckP ((X.num+1:Nat):Int) T∧X.pos+blocksN T≤192)) ∨
   (CheckP ((X.num+1:Nat):Int) T∧X.pos+blocksN T≤192∧c=(wV X.dv X.pos (encB (X.num+1) X.count T)).1∧
    ((c=0∧X' = { X with dv:=(wV X.dv X.pos (encB (X.num+1) X.count T)).2,pos:=X.pos+blocksN T,num:=X.num+1 })∨(c=12∧X' = { X with dv:=(wV X.dv X.pos (encB (X.num+1) X.count T)).2 })))):=fun e hn=>
  ⟨G,9,X,rfl,(e04.trans e).to t,rfl,x.pure ((e04.trans e).to t),.inl ⟨rfl,rfl,hn⟩⟩
 have geo:∀ {K:Value→Hp→Prop},(∀ h',Ext h4 h'→K (.agg #[.int .i64 (8:Int),.int .i64 (96:Int)]) h')→HC Tryz.prog 66 #[dp db] h4 K:=fun hK=>(Geometry_spec x4.dev).mono fun r h' hh=>by
  obtain⟨rfl,e⟩:=hh
  have eg:(Value.agg #[.int .i64 (X.dv.n:Int),.int .i64 (X.dv.size:Int)])=.agg #[.int .i64 (8:Int),.int .i64 (96:Int)]:=by rw[hn,hs];rfl
  rw[eg]
  exact hK h' e
 rcases hc with ⟨hno,rfl⟩ | ⟨⟨hck,_,_⟩,w,rows,rfl,orr,hrr⟩
 ·refine⟨Sl.nil,_,rfl,_,rfl,_,x4.row.get0 rfl,geo fun h5 e5=>⟨_,_,rfl,.yes rfl (fin9 e5 fun hh=>hno ⟨hh.1,by omega,by show(X.count:Int)≤_;omega⟩)⟩⟩
 refine⟨w,_,rfl,_,rfl,_,x4.row.get0 rfl,geo fun h5 e5=>⟨_,_,rfl,.no rfl ?_⟩⟩
 have s5:=e5.size
 have e05:=e04.trans e5
 have x5:=x.pure (e05.to t)
 have t5:=t.ext e05
 rw[Int.toNat_natCast,Int.toNat_natCast]at hrr
 have hrr:rows.map (·.2)=encB (X.num+1) X.count T:=hrr
 have hrl:rows.length=blocksN T:=by rw[← encB_len (X.num+1) X.count T,← hrr];simp
 have hwl:=orr.len
 have hb33:=hck.blocks
 refine⟨_,rfl,_,x5.row.get rfl,_,rfl,_,x5.row.getA rfl,_,rfl,_,x5.row.getA rfl,?_⟩
 have e192:iMul .i64 (iAdd .i64 (iSub .i64 (7:Int) 6) 1) 96=192:=by decide +kernel
 rw[e192,iAdd64 (by omega)]
 refine IfB.dec (fun hbig=>fin9 e5 fun hh=>by omega) (fun hfit=>?_)
 have rs5:RowsS G h5 w rows:=by
  have o5:=orr.ext e5
  have st:∀ b,h3.size≤b→b<h5.size→Stab G h5 b:=fun b h1 h2=>⟨h2,by rw[t3.fresh h1];exact fun h=>h⟩
  exact⟨o5.own.toRd,o5.each,fun a ha=>st _ (o5.own.lt ha).1 (o5.own.lt ha).2,fun p hp a ha=>st _ (o5.base p hp a ha).1 (o5.base p hp a ha).2.1⟩
 generalize hL:encB (X.num+1) X.count T=L at *
 have hLl:L.length=rows.length:=by rw[← hrr];simp
 refine⟨fun i n h'=>∃ (j:Nat) (G':Gh) (d':Dv),i=j∧n+j=L.length∧To isDev G h5 G' h'∧G'.W=G.W∧DevAt 0 (devF G') h' db d'∧X.dv.puts 6 96 X.pos L=d'.puts 6 96 (X.pos+j) (L.drop j),L.length,
  ⟨0,G,X.dv,rfl,rfl,.refl t5,rfl,x5.dev,rfl⟩,?_⟩
 rintro _ _ n6 h6 ⟨j,G6,d6,rfl,hn6,y6,w6,x6,hp6⟩
 have st6:=x5.dv' y6 (fun _ h=>h) x6
 have s6:=y6.size
 refine IfB.dec (fun hlt=>?_) (fun hge=>?_)
 ·have hj:j<rows.length:=by omega
  have hjL:j<L.length:=by omega
  have rs6:=rs5.to y6
  refine ixS rs6.rd.rd (by have:=rs6.rd.len;simpa using this.symm) j rfl hj ?_
  have rR:Row (filt (kf G6 isDev) h6) sb (stV db mb lb X.pos X.num X.off):=st6.row.filt (kf_yes (by rw[st6.kd];exact fun h=>h))
  have ez:iAdd .i64 (6:Int) (iQuo .i64 (iAdd .i64 (X.pos:Int) (j:Int)) 96)=((6+(X.pos+j) / 96:Nat):Int):=by
   rw[iAdd64 (a:=(X.pos:Int)) (by omega),iQuo64 (by omega),Int.tdiv_eq_ediv_of_nonneg (by omega),iAdd64 (by omega)]
   omega
  refine⟨filt (kf G6 isDev) h6,sub_kf _ _ _,_,rfl,_,rR.get0 rfl,_,rfl,_,rR.getA rfl,_,rfl,_,rR.get rfl,by decide,?_⟩
  rw[ez]
  have hd:L.drop j=L[j]::L.drop (j+1):=List.drop_eq_getElem_cons hjL
  have hLj:L[j]=rows[j].2:=by simp only[← hrr,List.getElem_map]
  rw[hd,Dv.puts]at hp6
  refine(Append_spec x6 (Nat.zero_le _) _ (rs6.each _ (List.getElem_mem hj)) fun a ha=>(rs6.eb _ (List.getElem_mem hj) a ha).dev0).mono ?_
  rintro _ h7 ⟨rfl,t7⟩
  rw[← hLj]at t7 ⊢
  obtain⟨G7,y7,w7,x7⟩:=t7.to y6.ht
  refine⟨_,_,rfl,y7.kf,IfB.ne (fun hne=>?_) (fun heq=>?_)⟩
  ·rw[if_pos hne]at hp6
   have st7:=st6.dv' y7 (fun _ h=>h) x7
   have hw:wV X.dv X.pos L=(12,(d6.append ((6+(X.pos+j) / 96:Nat):Int) L[j]).2):=by unfold wV;rw[hp6,if_pos hne]
   exact⟨G7,12,{ X with dv:=(wV X.dv X.pos L).2 },rfl,(e05.to t).trans ((y6.trans y7).mono fun _ h=>.inl h),w7.trans w6,by rw[hw];exact st7,.inr ⟨hck,by omega,by rw[hw],.inr ⟨rfl,rfl⟩⟩⟩
  ·rw[if_neg (by omega)]at hp6
   exact⟨n6-1,by omega,j+1,G7,_,by rw[iAdd64 (by omega)];push_cast;rfl,by omega,y6.trans y7,w7.trans w6,x7,hp6⟩
 ·have hj:j=L.length:=by omega
  rw[List.drop_of_length_le (by omega),Dv.puts]at hp6
  refine⟨_,rfl,_,st6.row.get0 rfl,(Flush_spec x6).mono ?_⟩
  rintro _ h7 ⟨rfl,t7⟩
  obtain⟨G7,y7,w7,x7⟩:=t7.to y6.ht
  have st7:=st6.dv' y7 (fun _ h=>h) x7
  have y07:To (fun k=>isDev k∨k=.one 2) G h G7 h7:=(e05.to t).trans ((y6.trans y7).mono fun _ h=>.inl h)
  refine⟨_,rfl,IfB.ne (fun hne=>?_) (fun heq=>?_)⟩
  ·have hw:wV X.dv X.pos L=(12,d6.flush.2):=by unfold wV;rw[hp6,if_neg (by simp),if_pos hne]
   exact⟨G7,12,{ X with dv:=(wV X.dv X.pos L).2 },rfl,y07,w7.trans w6,by rw[hw];exact st7,.inr ⟨hck,by omega,by rw[hw],.inr ⟨rfl,rfl⟩⟩⟩
  ·have hw:wV X.dv X.pos L=(0,d6.flush.2):=by unfold wV;rw[hp6,if_neg (by simp),if_neg (by simpa using heq)]
   obtain⟨ok8,b8,row8⟩:=kset y7.ht st7.kd (fun h=>h) st7.row (i:=7) (by simp[stV]) (.int .i64 ((X.pos+blocksN T:Nat):Int))
   have row8:Row (hset h7 ((⟨sb,0,none⟩:Addr).add 7) (.int .i64 ((X.pos+blocksN T:Nat):Int))) sb (stV db mb lb (X.pos+blocksN T) X.num X.off):=row8
   have e8:iAdd .i64 (X.pos:Int) (w.len:Int)=((X.pos+blocksN T:Nat):Int):=by rw[iAdd64 (by omega)];omega
   refine⟨_,rfl,_,st7.row.get rfl,_,rfl,ok8,?_⟩
   rw[e8]
   obtain⟨ok9,b9,row9⟩:=kset b8.ht st7.kd (fun h=>h) row8 (i:=8) (by simp[stV]) (.int .i64 ((X.num+1:Nat):Int))
   refine⟨_,rfl,_,row8.get rfl,_,rfl,ok9,?_⟩
   rw[ea]
   have b79:=b8.trans b9
   have y9:To (fun k=>k=.one 2) G7 h7 G7 _:=b79.to (by rw[st7.kd];exact⟨trivial,rfl⟩)
   have st9:=(st7.reown y9 (pos:=X.pos+blocksN T) (num:=X.num+1) (off:=X.off) row9)
   exact⟨G7,0,{ X with dv:=(wV X.dv X.pos L).2,pos:=X.pos+blocksN T,num:=X.num+1 },rfl,y07.trans (y9.mono fun _ h=>.inr h),w7.trans w6,by rw[hw];exact st9,.inr ⟨hck,by omega,by rw[hw],.inl ⟨rfl,rfl⟩⟩⟩
end
def codeSt(code:Int):Nat:=if code≠0 then 4 else 3
theorem doneT_self{code:Int}{D:MgrD}{q:Nat}(h1:1≤q)(h2:q≤D.txs.length):(doneT code D q).at_ q=endT (D.at_ q) (codeSt code) code:=by
 have e:∀ t:TxS,(D.set (q-1) t).at_ q=t:=fun t=>by
  have:q=(q-1)+1:=by omega
  rw[this]
  exact MgrD.at_get (List.getElem?_set_self (by omega))
 unfold doneT codeSt
 by_cases h:code≠0
 ·rw[if_pos h,if_pos h];exact e _
 ·have hc:code=0:=by omega
  subst hc
  rw[if_neg h,if_neg h]
  show(MgrD.set D (q-1) (endT (D.at_ q) 3 0)).at_ q=_
  exact e _
theorem doneFold_in{code:Int}:∀ (l:List Nat) (D:MgrD) {p:Nat},l.Nodup→(∀ q∈l,1≤q∧q≤D.txs.length)→p∈l→(l.foldl (doneT code) D).at_ p=endT (D.at_ p) (codeSt code) code
 | [],D,p,_,_,h=>by simp at h
 | q::r,D,p,nd,hq,hp=>by
   have nd':=List.nodup_cons.1 nd
   rw[List.foldl_cons]
   rcases List.mem_cons.1 hp with rfl | hp'
   ·rw[doneFold_at r _ (fun x hx=>(hq x (by simp[hx])).1) (hq p (by simp)).1 nd'.1]
    exact doneT_self (hq p (by simp)).1 (hq p (by simp)).2
   ·rw[doneFold_in r _ nd'.2 (fun x hx=>by rw[(doneT_queue code D q).2.2.2.1];exact hq x (by simp[hx])) hp']
    rw[doneT_at (hq q (by simp)).1 (hq p hp).1 fun e=>nd'.1 (e ▸ hp')]
theorem doneD_len(code:Int)(D:MgrD)(k:Nat):(doneD code D k).txs.length=D.txs.length:=(doneFold code _ D).2.2.2.1
theorem doneD_at{N k:Nat}{code:Int}{D:MgrD}(o:MgrOk N D){p:Nat}(hp:1≤p):(doneD code D k).at_ p=if p∈D.queue.take k then endT (D.at_ p) (codeSt code) code else D.at_ p:=by
 show(doneF code D k).at_ p=_
 unfold doneF
 by_cases h:p∈D.queue.take k
 ·rw[if_pos h]
  exact doneFold_in _ D (o.nodup.sublist (List.take_sublist _ _)) (fun q hq=>o.qok q (List.mem_of_mem_take hq)) h
 ·rw[if_neg h]
  exact doneFold_at _ D (fun q hq=>(o.qok q (List.mem_of_mem_take hq)).1) hp h
theorem doneD_tx{N k:Nat}{code:Int}{D:MgrD}(o:MgrOk N D){j:Nat}{t:TxS}(h:D.txs[j]? = some t):(doneD code D k).txs[j]? = some (if j+1∈D.queue.take k then endT t (codeSt code) code else t):=by
 have hj:=(List.getElem?_eq_some_iff.1 h).1
 have:=doneD_at (k:=k) (code:=code) o (p:=j+1) (by omega)
 rw[MgrD.at_get h]at this
 rw[← this]
 unfold MgrD.at_
 rw[List.getD_eq_getElem?_getD,show j+1-1=j by omega,List.getElem?_eq_getElem (by rw[doneD_len];exact hj)]
 rfl
theorem doneD_last{N k:Nat}{code:Int}{D:MgrD}(o:MgrOk N D)(hk:k≤D.queue.length):(code≠0→(doneD code D k).last=D.last)∧(code=0→1≤k→1≤(doneD code D k).last∧(doneD code D k).last≤1099511627776)∧0≤(doneD code D k).last∧(doneD code D k).last≤1099511627776:=by
 have go:∀ n,n≤D.queue.length→(code≠0→(doneF code D n).last=D.last)∧(code=0→1≤n→1≤(doneF code D n).last∧(doneF code D n).last≤1099511627776)∧0≤(doneF code D n).last∧(doneF code D n).last≤1099511627776:=by
  intro n
  induction n with
  | zero=>intro _;exact⟨fun _=>rfl,fun _ h=>by omega,o.last⟩
  | succ n ih=>
    intro hn
    obtain⟨a,b,c⟩:=ih (by omega)
    have hq:n<D.queue.length:=by omega
    rw[doneF_succ hq,doneT_last]
    have hin:=List.getElem_mem hq
    have hat:(doneF code D n).at_ D.queue[n]=D.at_ D.queue[n]:=by
     refine doneFold_at _ D (fun q hq=>(o.qok q (List.mem_of_mem_take hq)).1) (o.qok _ hin).1 fun hm=>?_
     obtain⟨i,hi,e⟩:=List.mem_iff_getElem.1 hm
     rw[List.length_take]at hi
     rw[List.getElem_take]at e
     have:=(List.getElem_inj o.nodup).1 e
     omega
    have ht:=o.tq _ hin
    by_cases hc:code=0
    ·rw[if_pos hc,hat];exact⟨fun h=>absurd hc h,fun _ _=>ht,by omega,ht.2⟩
    ·rw[if_neg hc];exact⟨a,fun h=>absurd h hc,c⟩
 exact go k hk
theorem MgrOk.done{N k:Nat}{D:MgrD}(o:MgrOk N D)(hk:k≤D.queue.length)(code:Int):MgrOk N (doneD code D k):=by
 have hq:(doneD code D k).queue=D.queue.drop k:=rfl
 have hg:(doneD code D k).given=D.given:=(doneFold code _ D).2.2.2.2.2.1
 have hnot:∀ {p:Nat},p∈D.queue.drop k→p ∉ D.queue.take k:=fun hd ht=>by
  have nd:=o.nodup
  rw[← List.take_append_drop k D.queue]at nd
  exact(List.nodup_append.1 nd).2.2 _ ht _ hd rfl
 refine⟨by rw[doneD_len];exact o.len,fun q hq'=>by rw[doneD_len];exact o.qok q (List.mem_of_mem_drop hq'),o.nodup.sublist (List.drop_sublist _ _),fun j t ht=>?_,rfl,(doneD_last o hk).2.2,by rw[hg];exact o.given,fun q hq'=>?_⟩
 ·have hj:j<D.txs.length:=by rw[← doneD_len code D k];exact(List.getElem?_eq_some_iff.1 ht).1
  have h0:D.txs[j]? = some D.txs[j]:=List.getElem?_eq_getElem hj
  rw[doneD_tx o h0]at ht
  obtain⟨a,b,c⟩:=o.st j _ h0
  rw[hq]
  by_cases hm:j+1∈D.queue.take k
  ·rw[if_pos hm]at ht
   injection ht with ht
   subst ht
   have:codeSt code=3∨codeSt code=4:=by unfold codeSt;split <;> simp
   refine⟨?_,?_,?_⟩
   ·show 1≤codeSt code;omega
   ·show codeSt code≤4;omega
   ·constructor
    ·intro h;exfalso;have h:codeSt code=2:=h;omega
    ·intro h;exact absurd hm (hnot h)
  ·rw[if_neg hm]at ht
   injection ht with ht
   subst ht
   refine⟨a,b,c.trans ⟨fun h=>?_,List.mem_of_mem_drop⟩⟩
   rw[← List.take_append_drop k D.queue]at h
   rcases List.mem_append.1 h with h | h
   ·exact absurd h hm
   ·exact h
 ·have hq2:q∈D.queue.drop k:=hq'
  rw[doneD_at o (o.qok q (List.mem_of_mem_drop hq2)).1,if_neg (hnot hq2)]
  exact o.tq q (List.mem_of_mem_drop hq2)
structure LogOk(W:Int→List UInt8→Prop)(d:Dv)(pos:Nat)(ps:List (List UInt8)):Prop where
 len:ps.length=pos
 pos:pos≤192
 each:∀ p∈ps,goodB p∧JB W p
 rows:∀ m,m<2→(d.z (6+m)).rows=part 96 ps m
structure SrOk(W:Int→List UInt8→Prop)(N:Nat)(X:StD):Prop where
 n:X.dv.n=8
 size:X.dv.size=96
 wf:X.dv.Wf
 good:AllGood X.dv
 off:X.off=false
 slots:SlInv X.dv 0 3 6 X.inn X.tx X.count
 count:X.count≤N
 num:X.num≤N
 text:TextOk W X.tx
 log:∃ ps,LogOk W X.dv X.pos ps
 mg:MgrOk N X.D
 w:WOk W
theorem LogOk.mono{W W':Int→List UInt8→Prop}{d:Dv}{pos:Nat}{ps:List (List UInt8)}(l:LogOk W d pos ps)(hw:∀ a l,W a l→W' a l):LogOk W' d pos ps:=
 ⟨l.len,l.pos,fun p hp=>⟨(l.each p hp).1,(l.each p hp).2.mono hw⟩,l.rows⟩
theorem SrOk.more{W:Int→List UInt8→Prop}{N N':Nat}{X:StD}(o:SrOk W N X)(h:N≤N'):SrOk W N' X:=
 ⟨o.n,o.size,o.wf,o.good,o.off,o.slots,Nat.le_trans o.count h,Nat.le_trans o.num h,o.text,o.log,o.mg.more h,o.w⟩
theorem SrOk.mgr{W:Int→List UInt8→Prop}{N N':Nat}{X:StD}{D':MgrD}(o:SrOk W N X)(h:N≤N')(m:MgrOk N' D'):SrOk W N' { X with D:=D' }:=
 ⟨o.n,o.size,o.wf,o.good,o.off,o.slots,Nat.le_trans o.count h,Nat.le_trans o.num h,o.text,o.log,m,o.w⟩
theorem mem_part{size m:Nat}{ps:List (List UInt8)}{p:List UInt8}(h:p∈part size ps m):p∈ps:=List.mem_of_mem_drop (List.mem_of_mem_take h)
structure MtOk(W:Int→List UInt8→Prop)(N inn count:Nat)(tx:List UInt8)(d:Dv):Prop where
 live:Live d
 wf:d.Wf
 n:d.n=8
 size:d.size=96
 good:AllGood d
 slots:SlInv d 0 3 6 inn tx count
 count:count≤N
 text:TextOk W tx
 rows:∀ m,m<2 →∀ p∈(d.z (6+m)).rows,JB W p
 w:WOk W
structure CrOk(W:Int→List UInt8→Prop)(N inn count:Nat)(tx:List UInt8)(d:Dv):Prop where
 wf:d.Wf
 n:d.n=8
 size:d.size=96
 good:∀ j,j<6→(d.z j).good=(d.z j).rows.length
 slots:SlInv d 0 3 6 inn tx count
 count:count≤N
 text:TextOk W tx
 rows:∀ m,m<2 →∀ p∈(d.z (6+m)).rows,goodB p∧JB W p
 w:WOk W
theorem SrOk.cr{W:Int→List UInt8→Prop}{N:Nat}{X:StD}(o:SrOk W N X):CrOk W N X.inn X.count X.tx X.dv:=by
 obtain⟨ps,l⟩:=o.log
 exact⟨o.wf,o.n,o.size,fun j _=>o.good j,o.slots,o.count,o.text,fun m hm p hp=>l.each p (mem_part (by rw[← l.rows m hm];exact hp)),o.w⟩
theorem CrOk.crash{W:Int→List UInt8→Prop}{N inn count:Nat}{tx:List UInt8}{d:Dv}(c:CrOk W N inn count tx d)(picks torn:List Int):MtOk W N inn count tx (d.crash picks torn):=by
 have ok:=crash_ok c.wf picks torn
 refine⟨ok.live,ok.wf,ok.n.trans c.n,ok.size.trans c.size,crash_good c.wf picks torn,c.slots.same ok.size (fun j _ h2=>crash_keep c.wf picks torn (c.good j h2)) (by omega) (by omega),c.count,c.text,fun m hm p hp=>?_,c.w⟩
 rw[Dv.crash_z _ _ _ (by rw[c.n];omega)]at hp
 obtain⟨a,t,h1,h2,h3,h4⟩:=zone_crash (c.wf.zone (6+m)) (pickL picks (6+m)) (pickL torn (6+m))
 rw[h1]at hp
 rcases List.mem_append.1 hp with hp | hp
 ·exact(c.rows m hm p (List.mem_of_mem_take hp)).2
 ·rcases h4 with rfl | ⟨h4,rfl⟩
  ·simp at hp
  ·simp only[List.mem_cons,List.not_mem_nil,or_false]at hp
   have hin:(d.z (6+m)).rows.getD a []∈(d.z (6+m)).rows:=by
    rw[List.getD_eq_getElem?_getD,List.getElem?_eq_getElem h4];exact List.getElem_mem h4
   obtain⟨g,j⟩:=c.rows m hm _ hin
   subst hp
   exact⟨tornL_length j.1,by rw[torn_dK j.1];exact j.2.1,fun gg=>absurd gg (torn_bad g.1 (goodP_sumOk g.2))⟩
theorem take_self{α:Type}{l r:List α}:(l++r).take l.length=l:=by simp
theorem wV_live{W:Int→List UInt8→Prop}{d:Dv}{pos:Nat}{ps L:List (List UInt8)}(l:Live d)(w:d.Wf)(hn:d.n=8)(hs:d.size=96)(lg:LogOk W d pos ps)(h64:∀ p∈L,p.length=64)(hfit:pos+L.length≤192) :
 (wV d pos L).1=0∧OkD d (wV d pos L).2∧AllGood (wV d pos L).2∧(∀ m,m<2→((wV d pos L).2.z (6+m)).rows=part 96 (ps++L) m)∧∀ j,j<6→((wV d pos L).2.z j).rows=(d.z j).rows:=by
 have hl:=lg.len
 subst hl
 obtain⟨p1,p2,p3,p4⟩:=puts_live (base:=6) (cnt:=2) (ps:=ps++L) (fun p hp=>by
  rcases List.mem_append.1 hp with hp | hp
  ·exact(lg.each p hp).2.1
  ·exact h64 p hp) L d ps.length l w (by omega) (by rw[List.length_append,hs];omega) (by simp) (by simp) (fun m hm=>by rw[take_self,hs];exact lg.rows m hm)
 rw[hs]at p1 p2 p3 p4
 unfold wV
 rw[if_neg (by omega),flush_live p2.live,if_neg (by simp)]
 refine⟨rfl,p2.trans ⟨⟨p2.live.1,p2.live.dead⟩,p2.wf.tick.flushed,rfl,rfl⟩,fun j=>by rw[Dv.flushed_z],fun m hm=>?_,fun j hj=>?_⟩
 ·rw[Dv.flushed_z];exact p3 m hm
 ·rw[Dv.flushed_z]
  show((d.puts 6 96 ps.length L).2.z j).rows=_
  rw[p4 j (.inl hj)]
theorem wV_any{W:Int→List UInt8→Prop}{d:Dv}{pos:Nat}{ps L:List (List UInt8)}(w:d.Wf)(hn:d.n=8)(hs:d.size=96)(lg:LogOk W d pos ps)(h64:∀ p∈L,p.length=64)(hfit:pos+L.length≤192) :
 NxD d (wV d pos L).2∧(((wV d pos L).1=0∧AllGood (wV d pos L).2∧(∀ m,m<2→((wV d pos L).2.z (6+m)).rows=part 96 (ps++L) m)∧∀ j,j<6→((wV d pos L).2.z j).rows=(d.z j).rows) ∨
  ((wV d pos L).1=12∧(∀ m,m<2 →∀ p∈((wV d pos L).2.z (6+m)).rows,p∈ps++L)∧∀ j,j<6→(wV d pos L).2.z j=d.z j)):=by
 have hl:=lg.len
 subst hl
 obtain⟨p1,q,h1,h2,h3,h4,h5⟩:=puts_any (base:=6) (cnt:=2) (ps:=ps++L) (fun p hp=>by
  rcases List.mem_append.1 hp with hp | hp
  ·exact(lg.each p hp).2.1
  ·exact h64 p hp) L d ps.length w (by omega) (by rw[List.length_append,hs];omega) (by simp) (by simp) (fun m hm=>by rw[take_self,hs];exact lg.rows m hm)
 rw[hs]at p1 h3 h4 h5
 unfold wV
 rcases h3 with ⟨h3,rfl⟩ | h3
 ·rw[if_neg (by omega)]
  rcases flush_any (d.puts 6 96 ps.length L).2 with e | e
  ·rw[e,if_pos (by simp)]
   refine⟨p1.trans (.tick p1.wf),.inr ⟨rfl,fun m hm p hp=>?_,fun j hj=>h5 j (.inl hj)⟩⟩
   have hp:p∈((d.puts 6 96 ps.length L).2.z (6+m)).rows:=hp
   rw[(h4 m hm).1]at hp
   exact List.mem_of_mem_take (mem_part hp)
  ·rw[e,if_neg (by simp)]
   refine⟨p1.trans ⟨p1.wf.tick.flushed,rfl,rfl⟩,.inl ⟨rfl,fun j=>by rw[Dv.flushed_z],fun m hm=>?_,fun j hj=>?_⟩⟩
   ·rw[Dv.flushed_z]
    show((d.puts 6 96 ps.length L).2.z (6+m)).rows=_
    rw[(h4 m hm).1,List.take_length]
   ·rw[Dv.flushed_z]
    show((d.puts 6 96 ps.length L).2.z j).rows=_
    rw[h5 j (.inl hj)]
 ·rw[if_pos (by omega)]
  refine⟨p1,.inr ⟨rfl,fun m hm p hp=>?_,fun j hj=>h5 j (.inl hj)⟩⟩
  have hp:p∈((d.puts 6 96 ps.length L).2.z (6+m)).rows:=hp
  rw[(h4 m hm).1]at hp
  exact List.mem_of_mem_take (mem_part hp)
theorem encB_jb{W:Int→List UInt8→Prop}{num epoch:Nat}{T:List TxD}(c:CheckP num T)(he:epoch<2 ^ 32)(hw:∀ x∈T,∀ p∈x.2,W p.1 p.2):∀ p∈encB num epoch T,goodB p∧JB W p:=by
 have isb:IsB (encB num epoch T) (allPuts T).length num epoch T:=⟨by simp[encB],c,he,by rw[List.take_of_length_le (by simp[encB])]⟩
 intro p hp
 have g:=isb.goods p (by rw[List.take_of_length_le (by simp[encB])];exact hp)
 refine⟨g,g.1,?_,fun _ hk=>?_⟩
 ·unfold encB at hp
  rcases List.mem_append.1 hp with hp | hp
  ·obtain⟨q,hq,rfl⟩:=List.mem_map.1 hp
   exact .inl (encB_put c he hq).2.1
  ·simp only[List.mem_cons,List.not_mem_nil,or_false]at hp
   have:=(dec_complete isb).2.2.1
   have e:rwL (encB num epoch T) (allPuts T).length=p:=by rw[hp];simp[rwL,encB]
   rw[e]at this
   exact .inr this
 ·unfold encB at hp
  rcases List.mem_append.1 hp with hp | hp
  ·obtain⟨q,hq,rfl⟩:=List.mem_map.1 hp
   have e:=(encB_put c he hq).2.2.2.2
   obtain⟨x,hx,hqx⟩:=List.mem_flatMap.1 hq
   have:=hw x hx q hqx
   rw[← e]at this
   exact this
  ·simp only[List.mem_cons,List.not_mem_nil,or_false]at hp
   have:=(dec_complete isb).2.2.1
   have e:rwL (encB num epoch T) (allPuts T).length=p:=by rw[hp];simp[rwL,encB]
   rw[e]at this
   omega
def FlushR(W W':Int→List UInt8→Prop)(N:Nat)(X X':StD)(c:Int):Prop:=
 (c≠0∧X'=X∧W'=W∧X.D.queue = []) ∨
 (∃ k:Nat,1≤k∧k≤X.D.queue.length∧(c=0∨c=9)∧X'.D=doneD c X.D k∧(∀ a l,W' a l↔(W a l∨(c=0∧∃ p∈X.D.queue.take k,(a,l)∈(X.D.at_ p).P)))∧SrOk W' (N+1) X'∧(Live X.dv→Live X'.dv)∧
  (Live X.dv→CheckP ((X.num+1:Nat):Int) ((waitT X.D).take k)→X.pos+blocksN ((waitT X.D).take k)≤192→c=0)) ∨
 (c=12∧¬ Live X.dv∧∃ k:Nat,X'.D = { X.D with out:=k }∧(∀ a l,W' a l↔(W a l ∨∃ p∈X.D.queue.take k,(a,l)∈(X.D.at_ p).P))∧CrOk W' (N+1) X'.inn X'.count X'.tx X'.dv)
section
variable{G:Gh}{h:Hp}{M sb db:Nat}{X:StD}
theorem s62_st:∀ k,(isDev k∨k=Kd.one 2)→sSt k:=fun k hk=>by
 rcases hk with hk | rfl
 ·exact isDev_st k hk
 ·simp[sSt]
theorem doneT_out(code:Int)(D:MgrD)(k:Int)(q:Nat):doneT code { D with out:=k } q = { doneT code D q with out:=k }:=by
 unfold doneT
 split <;> rfl
theorem doneFold_out(code k:Int):∀ (l:List Nat) (D:MgrD),l.foldl (doneT code) { D with out:=k } = { l.foldl (doneT code) D with out:=k }
 | [],D=>rfl
 | q::r,D=>by rw[List.foldl_cons,List.foldl_cons,doneT_out,doneFold_out code k r]
theorem doneD_out(code:Int)(D:MgrD)(k:Int)(n:Nat):doneD code { D with out:=k } n=doneD code D n:=by
 have h:doneF code { D with out:=k } n = { doneF code D n with out:=k }:=doneFold_out code k _ D
 unfold doneD
 rw[h]
theorem MgrIn.imp{mb:Nat}{V V':Prop}{D:MgrD}{em bk am:Nat}{q:Sl}{tb:Nat→Nat}(x:MgrIn G h M mb V D em bk am q tb)(hV:V→V'):MgrIn G h M mb V' D em bk am q tb:=by
 obtain⟨vm,vl,vc,la,r,k,e,w,v,hv⟩:=x.ext.map
 exact⟨x.kd,x.row,⟨x.ext.kd,vm,vl,vc,la,r,k,e,w,v,fun hn=>hV (hv hn)⟩,x.book,x.kam,x.all,x.que,x.tx⟩
theorem waitT_mem{D:MgrD}{k:Nat}:∀ x∈(waitT D).take k,∃ p∈D.queue.take k,x=((D.at_ p).time,(D.at_ p).P):=by
 intro x hx
 unfold waitT at hx
 rw[← List.map_take]at hx
 obtain⟨p,hp,rfl⟩:=List.mem_map.1 hx
 exact⟨p,hp,rfl⟩
theorem sFlush_spec(t:HT G h)(x:StAt G h M sb db X){N:Nat}(ok:SrOk G.W N X)(hN:N≤900000)(hM:M+128≤1000000):HC Tryz.prog 33 #[pv sb] h fun r h'=>∃ (G':Gh) (c:Int) (X':StD),r=.int .i64 c∧To sSt G h G' h'∧StAt G' h' (M+128) sb db X'∧FlushR G.W G'.W N X X' c:=by
 obtain⟨lb,mb,ts,em,bk,am,q,tb,x⟩:=x
 apply wc33
 unfold vc33
 have o:=ok.mg
 have hq16:=x.mgr.q16 o
 have hpl:=x.mgr.plen
 refine(sDead_spec x).mono ?_
 rintro _ _ ⟨rfl,hh⟩
 obtain rfl:=hh.symm
 refine⟨_,rfl,.no ok.off ⟨_,rfl,_,x.row.get rfl,(mBatch_spec t x.mgr o.qok (by omega) fun j t ht=>by have:=(hpl j t ht).1;omega).mono ?_⟩⟩
 rintro _ h1 ⟨G1,c,s,n,D1,rfl,y1,w1,m1,hc⟩
 have hl1:D1.last=X.D.last:=by rcases hc with ⟨_,rfl,_⟩ | ⟨_,_,k,_,_,_,rfl,_⟩ <;> rfl
 have x1:=x.mg y1 sO_3 (by rw[hl1];exact m1)
 have y1':=y1.mono s3_st
 refine⟨n,s,c,rfl,?_⟩
 intro h2
 have e2:Ext h1 h2:=alc_ext _ _ _
 have s2:h2.size=h1.size+1:=size_alc _ _ _
 have r2:Row h2 h1.size [.int .i64 (0:Int),.slice Sl.nil.base Sl.nil.len Sl.nil.cap]:=Row.alc _ _ _
 refine r2.put (vs:=[.int .i64 n,.slice s.base s.len s.cap]) rfl (by simp[cellOk]) fun h3 r3 s3 o3=>?_
 have e13:Ext h1 h3:=⟨by omega,fun b hb=>by rw[o3 b (by omega),e2.block b hb]⟩
 have y13:To (fun _=>False) G1 h1 G1 h3:=e13.to y1.ht
 have x3:=x1.pure y13
 rcases hc with ⟨hc,rfl,hq⟩ | ⟨rfl,hq,k,hk1,hk2,hk8,rfl,tx,rfl⟩
 ·exact .yes (by simpa using hc) ⟨G1,c,X,rfl,y1'.ext e13,⟨lb,mb,ts,em,bk,am,q,tb,x3.to (To.refl y13.ht (S:=fun _=>False)) (by omega) fun _ _ h=>h⟩,.inl ⟨hc,rfl,w1,hq o.out⟩⟩
 have tx3:=tx.to y13
 have hcount:=ok.count
 have hnumN:=ok.num
 obtain⟨ps,lg⟩:=ok.log
 have htxl:=ok.text.len
 refine .no rfl ⟨_,s,r3.get0 rfl,r3.get rfl,?_⟩
 have hPl:∀ j,(pt ((waitT X.D).take k) j).length≤1000000:=fun j=>by
  unfold pt
  rw[List.getD_eq_getElem?_getD]
  by_cases hj:j<((waitT X.D).take k).length
  ·rw[List.getElem?_eq_getElem hj]
   obtain⟨p,hp,e⟩:=waitT_mem _ (List.getElem_mem hj)
   have:=(hpl _ _ (o.queued (List.mem_of_mem_take hp)).1).1
   show(((waitT X.D).take k)[j]).2.length≤_
   rw[e];show(X.D.at_ p).P.length≤_;omega
  ·rw[List.getElem?_eq_none (by omega)];show([]:List PutD).length≤_;simp
 refine(sWriteB_spec y13.ht x3 ok.n ok.size (show X.count≤_ by omega) (show X.num≤_ by omega) (show X.pos≤192 by have:=lg.pos;omega) (show X.tx.length≤_ by omega) tx3 hPl).mono ?_
 rintro _ h4 ⟨G4,c,X4,rfl,y4,w4,x4,hcase⟩
 have y04:=(y1'.ext e13).trans (y4.mono s62_st)
 have hW4:G4.W=G.W:=w4.trans w1
 have hwn:∀ a l,(∃ p∈X.D.queue.take k,(a,l)∈(X.D.at_ p).P)→0≤a∧a<258∧l.length=40:=fun a l ⟨p,hp,hm⟩=>(hpl _ _ (o.queued (List.mem_of_mem_take hp)).1).2.2 _ hm
 have hLlen:(encB (X.num+1) X.count ((waitT X.D).take k)).length=blocksN ((waitT X.D).take k):=encB_len _ _ _
 have hwx:∀ {W':Int→List UInt8→Prop},(∀ a l,(∃ p∈X.D.queue.take k,(a,l)∈(X.D.at_ p).P)→W' a l) →∀ x∈(waitT X.D).take k,∀ p∈x.2,W' p.1 p.2:=fun hw x hx p hp=>by
  obtain⟨q,hq,rfl⟩:=waitT_mem x hx
  exact hw _ _ ⟨q,hq,hp⟩
 have hjb:∀ {W':Int→List UInt8→Prop},CheckP ((X.num+1:Nat):Int) ((waitT X.D).take k)→(∀ a l,(∃ p∈X.D.queue.take k,(a,l)∈(X.D.at_ p).P)→W' a l) →∀ p∈encB (X.num+1) X.count ((waitT X.D).take k),goodB p∧JB W' p:=fun hck hw=>encB_jb hck (show X.count<2 ^ 32 by omega) (hwx hw)
 have h64':CheckP ((X.num+1:Nat):Int) ((waitT X.D).take k) →∀ p∈encB (X.num+1) X.count ((waitT X.D).take k),p.length=64:=fun hck p hp=>(hjb (W':=fun _ _=>True) hck (fun _ _ _=>trivial) p hp).1.1
 have offCase:c=12→X4.D = { X.D with out:=(k:Int) }→X4.inn=X.inn→X4.count=X.count→X4.tx=X.tx→X4.dv=(wV X.dv X.pos (encB (X.num+1) X.count ((waitT X.D).take k))).2→CheckP ((X.num+1:Nat):Int) ((waitT X.D).take k)→X.pos+blocksN ((waitT X.D).take k)≤192→(wV X.dv X.pos (encB (X.num+1) X.count ((waitT X.D).take k))).1=12 →
  ∃ a1:Addr,(some ⟨sb,0,none⟩:Option Addr)=some a1∧StOk h4 (a1.add 9)∧∃ (G':Gh) (c':Int) (X':StD),Value.int .i64 c=.int .i64 c'∧To sSt G h G' (hset h4 (a1.add 9) (.bool true))∧StAt G' (hset h4 (a1.add 9) (.bool true)) (M+128) sb db X'∧FlushR G.W G'.W N X X' c':=by
  intro hc hD hi hco ht hdv hck hfit hw12
  subst hc
  obtain⟨ok9,b9,r9⟩:=kset y4.ht x4.kd (fun h=>h) x4.row (i:=9) (by simp[stV]) (.bool true)
  have y9:To (fun k=>k=.one 2) G4 h4 G4 _:=b9.to (by rw[x4.kd];exact⟨trivial,rfl⟩)
  have x9:=x4.reown y9 (pos:=X4.pos) (num:=X4.num) (off:=true) r9
  have yw:=HT.addW y9.ht (fun a l=>∃ p∈X.D.queue.take k,(a,l)∈(X.D.at_ p).P)
  have x10:=x9.to yw (M':=M+128) (by omega) fun _ _ h=>h
  refine⟨_,rfl,ok9,_,12,_,rfl,(y04.trans (y9.mono fun k hk=>s62_st k (.inr hk))).trans (yw.mono fun _ h=>h.elim),⟨lb,mb,ts,em,bk,am,q,tb,x10⟩,.inr (.inr ⟨rfl,fun hl=>?_,k,hD,fun a l=>?_,?_⟩)⟩
  ·have:=(wV_live hl ok.wf ok.n ok.size lg (h64' hck) (by rw[hLlen];exact hfit)).1
   omega
  ·show(G4.W a l∨_)↔_
   rw[hW4]
  ·obtain⟨nx,⟨h0,_⟩ | ⟨_,hrows,hsame⟩⟩:=wV_any ok.wf ok.n ok.size lg (L:=encB (X.num+1) X.count ((waitT X.D).take k)) (h64' hck) (by rw[hLlen];exact hfit)
   ·omega
   have hmono:∀ a l,G.W a l→(G4.addW fun a l=>∃ p∈X.D.queue.take k,(a,l)∈(X.D.at_ p).P).W a l:=fun a l h=>.inl (by rw[hW4];exact h)
   have e1:({ X4 with pos:=X4.pos,num:=X4.num,off:=true }:StD).dv=(wV X.dv X.pos (encB (X.num+1) X.count ((waitT X.D).take k))).2:=hdv
   show CrOk _ (N+1) X4.inn X4.count X4.tx X4.dv
   rw[hi,hco,ht,hdv]
   refine⟨nx.wf,nx.n.trans ok.n,nx.size.trans ok.size,fun j hj=>by rw[hsame j hj];exact ok.good j,ok.slots.same nx.size (fun j _ h2=>by rw[hsame j h2]) (by omega) (by omega),by omega,ok.text.mono hmono,fun m hm p hp=>?_,fun a l hw=>?_⟩
   ·rcases List.mem_append.1 (hrows m hm p hp) with hp | hp
    ·exact⟨(lg.each p hp).1,(lg.each p hp).2.mono hmono⟩
    ·exact hjb hck (fun a l h=>.inr h) p hp
   ·rcases hw with hw | hw
    ·rw[hW4]at hw;exact ok.w a l hw
    ·exact hwn a l hw
 have onCase:(c=0∨c=9)→X4.D = { X.D with out:=(k:Int) }→(∀ W':Int→List UInt8→Prop,(∀ a l,W' a l↔(G.W a l∨(c=0∧∃ p∈X.D.queue.take k,(a,l)∈(X.D.at_ p).P)))→SrOk W' (N+1) { X4 with D:=doneD c X.D k })→(Live X.dv→Live X4.dv) →
  (Live X.dv→CheckP ((X.num+1:Nat):Int) ((waitT X.D).take k)→X.pos+blocksN ((waitT X.D).take k)≤192→c=0) →
  ∃ a2:Addr,(some ⟨sb,0,none⟩:Option Addr)=some a2∧∃ c8:Option Addr,hY h4 (a2.add 5)=some (.pointer c8)∧HC Tryz.prog 60 #[.pointer c8,.int .i64 c] h4 fun r3 vh6=>
    ∃ c9:Int,r3=.int .i64 c9∧∃ (G':Gh) (c':Int) (X':StD),Value.int .i64 c=.int .i64 c'∧To sSt G h G' vh6∧StAt G' vh6 (M+128) sb db X'∧FlushR G.W G'.W N X X' c':=by
  intro hc hD hsr hlive hzero
  have m4:=x4.mgr
  rw[hD]at m4
  refine⟨_,rfl,_,x4.row.get rfl,(mDone_spec y4.ht m4 o.qok o.nodup (fun p hp=>(o.queued hp).2.2.2) (show X.D.queue.length≤1000 by omega) (n:=k) rfl hk1 hk2 (by omega) c).mono ?_⟩
  rintro _ h5 ⟨G5,c',q',rfl,y5,w5,m5⟩
  rw[doneD_out]at m5
  have hW5:∀ a l,G5.W a l↔(G.W a l∨(c=0∧∃ p∈X.D.queue.take k,(a,l)∈(X.D.at_ p).P)):=fun a l=>by rw[w5 a l,hW4];rfl
  have hdl:=doneD_last (code:=c) o hk2
  have x5:=x4.mg y5 sO_done (m5.imp (V':=1≤(doneD c X.D k).last) fun hv=>by
   by_cases h0:c=0
   ·exact(hdl.2.1 h0 hk1).1
   ·rw[hdl.1 h0]
    rcases hv with hv | hv
    ·exact hv
    ·exact absurd hv h0)
  have x6:=x5.to (To.refl y5.ht (S:=fun _=>False)) (M':=M+128) (by omega) fun _ _ h=>h
  exact⟨_,rfl,G5,c,_,rfl,y04.trans (y5.mono sDone_st),⟨lb,mb,ts,em,bk,am,q',tb,x6⟩,.inr (.inl ⟨k,hk1,hk2,hc,rfl,hW5,hsr _ hW5,hlive,hzero⟩)⟩
 rcases hcase with ⟨rfl,rfl,hno⟩ | ⟨hck,hfit,hcw,⟨rfl,rfl⟩ | ⟨rfl,rfl⟩⟩
 ·refine⟨_,rfl,.no rfl ?_⟩
  refine onCase (.inr rfl) rfl (fun W' hW'=>?_) id (fun _ h1 h2=>absurd ⟨h1,h2⟩ hno)
  have hm:∀ a l,G.W a l→W' a l:=fun a l h=>(hW' a l).2 (.inl h)
  exact⟨ok.n,ok.size,ok.wf,ok.good,ok.off,ok.slots,by show X.count≤_;omega,by show X.num≤_;omega,ok.text.mono hm,⟨ps,lg.mono hm⟩,(o.done hk2 9).more (by omega),fun a l hw=>by
   rcases(hW' a l).1 hw with hw | ⟨h0,_⟩
   ·exact ok.w a l hw
   ·exact absurd h0 (by decide)⟩
 ·refine⟨_,rfl,.no rfl ?_⟩
  have hcw:(wV X.dv X.pos (encB (X.num+1) X.count ((waitT X.D).take k))).1=0:=hcw.symm
  have h64:∀ p∈encB (X.num+1) X.count ((waitT X.D).take k),p.length=64:=h64' hck
  refine onCase (.inl rfl) rfl (fun W' hW'=>?_) (fun hl=>?_) (fun _ _ _=>rfl)
  ·have hm:∀ a l,G.W a l→W' a l:=fun a l h=>(hW' a l).2 (.inl h)
   obtain⟨nx,⟨_,hg,hrows,hsame⟩ | ⟨h12,_⟩⟩:=wV_any ok.wf ok.n ok.size lg h64 (by rw[hLlen];exact hfit)
   ·refine⟨nx.n.trans ok.n,nx.size.trans ok.size,nx.wf,hg,ok.off,ok.slots.same nx.size (fun j _ h2=>hsame j h2) (by omega) (by omega),by show X.count≤_;omega,by show X.num+1≤_;omega,ok.text.mono hm,⟨ps++encB (X.num+1) X.count ((waitT X.D).take k),?_,hfit,fun p hp=>?_,hrows⟩,(o.done hk2 0).more (by omega),fun a l hw=>?_⟩
    ·show _=X.pos+blocksN _
     rw[List.length_append,hLlen,lg.len]
    ·rcases List.mem_append.1 hp with hp | hp
     ·exact⟨(lg.each p hp).1,(lg.each p hp).2.mono hm⟩
     ·exact hjb hck (fun a l h=>(hW' a l).2 (.inr ⟨rfl,h⟩)) p hp
    ·rcases(hW' a l).1 hw with hw | ⟨_,hw⟩
     ·exact ok.w a l hw
     ·exact hwn a l hw
   ·omega
  ·exact(wV_live hl ok.wf ok.n ok.size lg h64 (by rw[hLlen];exact hfit)).2.1.live
 ·refine⟨_,rfl,.yes rfl ?_⟩
  obtain⟨a1,h1,h2,h3⟩:=offCase rfl rfl rfl rfl rfl rfl hck hfit hcw.symm
  exact⟨a1,h1,h2,h3⟩
end
end Go.Proofs.YtdpdkpfnfllipaaGreatDoor
