/- A part of the proof, no condition. -/
import Derived.Test.YtdpdkpfnfllipaaGreatDoorN5
import Derived.Test.YtdpdkpfnfllipaaGreatDoorN10
set_option linter.unusedVariables false
set_option linter.unusedSimpArgs false
namespace Go.Proofs.YtdpdkpfnfllipaaGreatDoor
def getR(n:Nat)(l:List UInt8):Nat × Bool:=if l.length<n then (0,false) else (leN (l.take n),true)
theorem get_spec{h:Hp}{s:Sl}{l:List UInt8}{n:Nat}(hn:n≤8)(hr:Rd 1 h s (l.map bv)) :
 HC Tryz.prog 177 #[.slice s.base s.len s.cap,.int .i64 (n:Int)] h fun r h'=>r=.tuple #[.int .u64 ((getR n l).1:Int),.bool (getR n l).2]∧h'=h:=by
 apply wc177
 unfold vc177
 have hl:=hr.lenB
 refine IfB.dec (fun hlt=>?_) (fun hge=>?_)
 ·unfold getR;rw[if_pos (by omega)];exact⟨rfl,rfl⟩
 have hnl:n≤l.length:=by omega
 refine⟨fun v i m h'=>h=h'∧∃ k:Nat,i=k∧v=(leN (l.take k):Int)∧m+k=n,n,⟨rfl,0,rfl,rfl,rfl⟩,?_⟩
 rintro _ _ _ m _ ⟨rfl,k,rfl,rfl,hm⟩
 refine IfB.dec (fun hlt=>?_) (fun hge'=>?_)
 ·have hk:k<l.length:=by omega
  refine ixB hr.rd hl k rfl hk ?_
  have e8:iMul .i64 (8:Int) (k:Int)=((8*k:Nat):Int):=by rw[iMul64 (by omega)];push_cast;rfl
  have hc:l[k].toNat<256:=l[k].toBitVec.isLt
  have hlt1:=leN_lt (l.take k)
  rw[List.length_take,Nat.min_eq_left (by omega)]at hlt1
  have hlt2:=leN_lt (l.take (k+1))
  rw[List.length_take,Nat.min_eq_left (by omega),leN_snoc l k hk]at hlt2
  have hp:2 ^ (8*(k+1))≤2 ^ 64:=Nat.pow_le_pow_right (by omega) (by omega)
  have hp2:2 ^ (8*k)≤2 ^ 64:=Nat.pow_le_pow_right (by omega) (by omega)
  have ec:iConv .u64 (l[k].toNat:Int)=(l[k].toNat:Int):=by rw[iConv_nat u64s,Nat.mod_eq_of_lt (by simp only[IntKind.bits];omega)]
  rw[e8,ec,iShl_nat u64s (by simp only[IntKind.bits];omega),Nat.mod_eq_of_lt (by simp only[IntKind.bits];omega),iOr_nat u64s (by simp only[IntKind.bits];omega) (by simp only[IntKind.bits];omega),or_add hlt1]
  refine⟨by omega,m-1,by omega,rfl,k+1,?_,?_,by omega⟩
  ·rw[iAdd64 (by omega)];push_cast;rfl
  ·rw[leN_snoc l k hk]
 ·obtain rfl:k=n:=by omega
  unfold getR;rw[if_neg (by omega)];exact⟨rfl,rfl⟩
theorem Get64_spec{h:Hp}{s:Sl}{l:List UInt8}(hr:Rd 1 h s (l.map bv)) :
 HC Tryz.prog 121 #[.slice s.base s.len s.cap] h fun r h'=>r=.tuple #[.int .u64 ((getR 8 l).1:Int),.bool (getR 8 l).2]∧h'=h:=by
 apply wc121
 unfold vc121
 refine(get_spec (n:=8) (by omega) hr).mono ?_
 rintro _ _ ⟨rfl,rfl⟩
 exact⟨_,_,rfl,rfl,rfl⟩
theorem getR_lt(n:Nat)(l:List UInt8):(getR n l).1<2 ^ (8*n):=by
 unfold getR
 split
 ·exact Nat.two_pow_pos _
 ·have:=leN_lt (l.take n)
  rw[List.length_take,Nat.min_eq_left (by omega)]at this
  exact this
theorem Get32_spec{h:Hp}{s:Sl}{l:List UInt8}(hr:Rd 1 h s (l.map bv)) :
 HC Tryz.prog 122 #[.slice s.base s.len s.cap] h fun r h'=>r=.tuple #[.int .u32 ((getR 4 l).1:Int),.bool (getR 4 l).2]∧h'=h:=by
 apply wc122
 unfold vc122
 refine(get_spec (n:=4) (by omega) hr).mono ?_
 rintro _ _ ⟨rfl,rfl⟩
 have:=getR_lt 4 l
 have e:iConv .u32 ((getR 4 l).1:Int)=((getR 4 l).1:Int):=by rw[iConv_nat u32s,Nat.mod_eq_of_lt (by simp only[IntKind.bits];omega)]
 refine⟨_,_,rfl,?_,rfl⟩
 rw[e]
theorem Rd.cutD{h:Hp}{s:Sl}{l:List UInt8}(r:Rd 1 h s (l.map bv)){lo:Nat}(h1:lo≤s.len):Rd 1 h (cutSl s (lo:Int) (s.len:Int) (s.cap:Int) 1) ((l.drop lo).map bv):=by
 have:=r.cutB (lo:=lo) (hi:=s.len) (m:=s.cap) h1 (Nat.le_refl _) r.cap
 rwa[List.take_of_length_le (by have:=r.lenB;rw[List.length_drop];omega)]at this
def dK(p:List UInt8):Nat:=(p.getD 0 0).toNat
def dN(p:List UInt8):Nat:=(p.getD 1 0).toNat
def dE(p:List UInt8):Nat:=leN ((p.drop 2).take 4)
def dS(p:List UInt8):Nat:=leN ((p.drop 6).take 8)
def dL(p:List UInt8):Nat:=leN ((p.drop 14).take 4)
def dB(p:List UInt8):List UInt8:=(p.drop 18).take (dN p)
def goodP(p:List UInt8):Prop:=dN p≤40∧okB (dK p) (dE p) (dS p) (dL p)∧encOf (preL (dK p) (dE p) (dS p) (dL p) (dB p))=p
def zeroB:Value := .agg #[.int .i64 0,.int .i64 0,.int .i64 0,.int .i64 0,.slice none 0 0]
def DecR(h:Hp)(p:List UInt8)(r:Value)(h':Hp):Prop:=
 Ext h h'∧(p.length≠64∧r=.tuple #[zeroB,.int .i64 3]∨p.length=64∧¬ goodP p∧r=.tuple #[zeroB,.int .i64 13] ∨
  p.length=64∧goodP p∧∃ t:Sl,r=.tuple #[.agg #[.int .i64 (dK p:Int),.int .i64 (dE p:Int),.int .i64 (dS p:Int),.int .i64 (dL p:Int),.slice t.base t.len t.cap],.int .i64 0]∧Own h.size 1 h' t ((dB p).map bv))
theorem dlt(p:List UInt8):dK p<256∧dN p<256∧dE p<2 ^ 32∧dS p<2 ^ 64∧dL p<2 ^ 32:=by
 refine⟨UInt8.toNat_lt _,UInt8.toNat_lt _,?_,?_,?_⟩
 ·have:=leN_lt ((p.drop 2).take 4)
  exact Nat.lt_of_lt_of_le this (Nat.pow_le_pow_right (by omega) (by have:=List.length_take_le 4 (p.drop 2);omega))
 ·have:=leN_lt ((p.drop 6).take 8)
  exact Nat.lt_of_lt_of_le this (Nat.pow_le_pow_right (by omega) (by have:=List.length_take_le 8 (p.drop 6);omega))
 ·have:=leN_lt ((p.drop 14).take 4)
  exact Nat.lt_of_lt_of_le this (Nat.pow_le_pow_right (by omega) (by have:=List.length_take_le 4 (p.drop 14);omega))
theorem getR_of{n:Nat}{l:List UInt8}(h:n≤l.length):getR n l=(leN (l.take n),true):=by unfold getR;rw[if_neg (by omega)]
theorem Decode_spec{h:Hp}{p:Sl}{l:List UInt8}(r:Rd 1 h p (l.map bv)):HC Tryz.prog 174 #[.slice p.base p.len p.cap] h (DecR h l):=by
 apply wc174
 unfold vc174
 have ll:=r.lenB
 have hcap:=r.cap
 obtain⟨hK,hN,hE,hS,hL⟩:=dlt l
 intro h1
 have e1:Ext h h1:=alc_ext _ _ _
 have r1:Row h1 h.size (blkV 0 0 0 0 Sl.nil):=alc_row h _ _
 have bad:∀ {h':Hp} {old:List Value},Ext h1 h'→Row h' h.size old→old.length=5→(c:Int)→(c=3∧l.length≠64∨c=13∧l.length=64∧¬ goodP l) →
  stCells ⟨h.size,0,none⟩ 0 [.int .i64 (0:Int),.int .i64 (0:Int),.int .i64 (0:Int),.int .i64 (0:Int),.slice Sl.nil.base Sl.nil.len Sl.nil.cap] h' fun vh1=>
  ∃ x:Int,∃ x1:Int,∃ x2:Int,∃ x3:Int,∃ x4:Sl,hY vh1 ⟨h.size,0,none⟩=some (.int .i64 x)∧hY vh1 ((⟨h.size,0,none⟩:Addr).add 1)=some (.int .i64 x1)∧hY vh1 ((⟨h.size,0,none⟩:Addr).add 2)=some (.int .i64 x2)∧hY vh1 ((⟨h.size,0,none⟩:Addr).add 3)=some (.int .i64 x3)∧hY vh1 ((⟨h.size,0,none⟩:Addr).add 4)=some (.slice x4.base x4.len x4.cap)∧
  DecR h l (.tuple #[.agg #[.int .i64 x,.int .i64 x1,.int .i64 x2,.int .i64 x3,.slice x4.base x4.len x4.cap],.int .i64 c]) vh1:=fun {h'} {old} e' rw' ho c hc=>
  out5 rw' ho 0 0 0 0 Sl.nil (K:=fun a b d e f h'=>DecR h l (.tuple #[.agg #[.int .i64 a,.int .i64 b,.int .i64 d,.int .i64 e,.slice f.base f.len f.cap],.int .i64 c]) h') fun h'' o'' _ _=>
   ⟨o''.ext (e1.trans e') (Nat.le_refl _),by
    rcases hc with ⟨rfl,hc⟩ | ⟨rfl,hc⟩
    ·exact .inl ⟨hc,rfl⟩
    ·exact .inr (.inl ⟨hc.1,hc.2,rfl⟩)⟩
 refine IfB.ne (fun hne=>bad (.refl _) r1 rfl 3 (.inl ⟨rfl,by omega⟩)) (fun h64=>?_)
 have hl64:l.length=64:=by omega
 intro h2
 have e2:Ext h1 h2:=alc_ext _ _ _
 have r2:Row h2 h1.size (blkV 0 0 0 0 Sl.nil):=alc_row h1 _ _
 have s1:h.size<h1.size:=by show h.size<(alc h _ _).size;rw[size_alc];omega
 have ex2:=e1.trans e2
 have rp:=r.ext ex2
 refine⟨fun ok m h'=>h2=h'∧ok=false,0,⟨rfl,rfl⟩,?_⟩
 rintro _ _ _ _ ⟨rfl,rfl⟩
 refine ixB rp.rd ll 1 rfl (by omega) ?_
 refine⟨by omega,by omega,by omega,by omega,?_⟩
 refine(Get64_spec (rp.cutD (lo:=6) (by omega))).mono ?_
 rintro _ h4 ⟨rfl,rfl⟩
 rw[getR_of (n:=8) (by rw[List.length_drop];omega)]
 have en:l[1].toNat=dN l:=by unfold dN;simp[List.getD,hl64]
 have ek:l[0].toNat=dK l:=by unfold dK;simp[List.getD,hl64]
 refine⟨_,_,rfl,?_⟩
 rw[en,show leN ((l.drop 6).take 8)=dS l from rfl,iConv64 (a:=(dN l:Int)) (by omega)]
 refine IfB.dec (fun hbig=>.yes rfl (bad e2 (r1.ext e2) rfl 13 (.inr ⟨rfl,hl64,fun g=>by have:=g.1;omega⟩))) (fun hn=>?_)
 refine IfB.dec (fun hbig=>.yes rfl (bad e2 (r1.ext e2) rfl 13 (.inr ⟨rfl,hl64,fun g=>by have:=g.2.1.2.2.1;simp only at hbig;omega⟩))) (fun hs=>?_)
 simp only at hs
 refine⟨by omega,by omega,by omega,by omega,?_⟩
 refine(Get32_spec (rp.cutD (lo:=2) (by omega))).mono ?_
 rintro _ h5 ⟨rfl,rfl⟩
 rw[getR_of (n:=4) (by rw[List.length_drop];omega)]
 refine⟨_,_,rfl,by omega,by omega,by omega,by omega,?_⟩
 refine(Get32_spec (rp.cutD (lo:=14) (by omega))).mono ?_
 rintro _ h6 ⟨rfl,rfl⟩
 rw[getR_of (n:=4) (by rw[List.length_drop];omega)]
 refine⟨_,_,rfl,?_⟩
 rw[show leN ((l.drop 2).take 4)=dE l from rfl,show leN ((l.drop 14).take 4)=dL l from rfl]
 refine ixB rp.rd ll 0 rfl (by omega) ?_
 rw[ek]
 have ea:iAdd .i64 (18:Int) (dN l:Int)=((18+dN l:Nat):Int):=by rw[iAdd64 (by omega)];push_cast;rfl
 rw[ea]
 refine⟨by omega,by omega,by omega,by omega,?_⟩
 have rb:=rp.cutB (lo:=18) (hi:=18+dN l) (m:=p.cap) (by omega) (by omega) (by omega)
 rw[show 18+dN l-18=dN l by omega]at rb
 have hbl:(dB l).length=dN l:=by simp[dB,hl64];omega
 refine(slClone_spec (l:=dB l) rb (by omega)).mono ?_
 rintro _ h7 ⟨t,rfl,ot,lt,e7⟩
 refine⟨_,rfl,e7,?_⟩
 rw[iConv64 (a:=(dK l:Int)) (by omega),iConv64 (a:=(dE l:Int)) (by omega),iConv64 (a:=(dS l:Int)) (by omega),iConv64 (a:=(dL l:Int)) (by omega)]
 have r7:=r2.ext e7
 have s2:h2.size=h1.size+1:=by show(alc h1 _ _).size=_;rw[size_alc]
 refine out5 r7 rfl (dK l:Int) (dE l:Int) (dS l:Int) (dL l:Int) t fun h8 o8 s8 r8=>?_
 have ot8:Own h2.size 1 h8 t ((dB l).map bv):=ot.only o8 (by omega)
 have e28:Keep h1.size h2 h8:=⟨by have:=e7.size;omega,fun b hb=>by rw[o8.block b (by have:=e7.size;omega) (by omega),e7.block b (by omega)]⟩
 have e18:Ext h1 h8:=((e2.toKeep).trans e28).ext
 refine(Encode_spec (dK l:Int) (dE l:Int) (dS l:Int) (dL l:Int) ot8.toRd).mono ?_
 rintro _ h9 ⟨e9,hr⟩
 have e19:=e18.trans e9
 have no:(dB l).length≤40:=by omega
 rcases hr with ⟨hn,rfl⟩ | ⟨ok,hl,rfl⟩ | ⟨ok,hl,u,rfl,ou,lu⟩
 ·refine⟨Sl.nil,_,rfl,.no rfl (.yes rfl (bad e19 (r1.ext e19) rfl 13 (.inr ⟨rfl,hl64,fun g=>hn g.2.1⟩)))⟩
 ·omega
 ·refine⟨u,_,rfl,.yes rfl ?_⟩
  refine(slEqual_spec (r.ext (e1.trans e19)) ou.toRd (by omega)).mono ?_
  rintro _ h10 ⟨rfl,rfl⟩
  refine⟨_,rfl,IfB.not (IfB.dec (fun heq=>?_) (fun hne=>?_))⟩
  ·have g:goodP l:=⟨by omega,ok,by
    have:=heq.symm
    simpa using this⟩
   refine(r8.ext e9).get5 ?_
   refine out5 ((r1.ext e19)) rfl (dK l:Int) (dE l:Int) (dS l:Int) (dL l:Int) t (K:=fun a b c d f h'=>DecR h l (.tuple #[.agg #[.int .i64 a,.int .i64 b,.int .i64 c,.int .i64 d,.slice f.base f.len f.cap],.int .i64 (0:Int)]) h') fun h' o' _ _=>?_
   refine⟨o'.ext (e1.trans e19) (Nat.le_refl _),.inr (.inr ⟨hl64,g,t,rfl,?_⟩)⟩
   exact((ot8.ext e9).only o' (by omega)).weak (by omega)
  ·exact bad e19 (r1.ext e19) rfl 13 (.inr ⟨rfl,hl64,fun g=>hne (by
    have:=g.2.2.symm
    simpa using this)⟩)
theorem DecR.shape{h h':Hp}{p:List UInt8}{r:Value}(d:DecR h p r h'):Ext h h'∧∃ (k e s l:Int) (t:Sl) (c:Int),r=.tuple #[.agg #[.int .i64 k,.int .i64 e,.int .i64 s,.int .i64 l,.slice t.base t.len t.cap],.int .i64 c]∧(p.length≠64→c=3)∧(p.length=64 →¬ goodP p→c=13)∧
 (p.length=64→goodP p→c=0∧k=(dK p:Int)∧e=(dE p:Int)∧s=(dS p:Int)∧l=(dL p:Int)∧Own h.size 1 h' t ((dB p).map bv)):=by
 obtain⟨ex,⟨hn,rfl⟩ | ⟨hn,hg,rfl⟩ | ⟨hn,hg,t,rfl,ot⟩⟩:=d
 ·exact⟨ex,0,0,0,0,Sl.nil,3,rfl,fun _=>rfl,fun h=>absurd h hn,fun h=>absurd h hn⟩
 ·exact⟨ex,0,0,0,0,Sl.nil,13,rfl,fun h=>absurd hn h,fun _ _=>rfl,fun _ h=>absurd h hg⟩
 ·exact⟨ex,_,_,_,_,t,0,rfl,fun h=>absurd hn h,fun _ h=>absurd hg h,fun _ _=>⟨rfl,rfl,rfl,rfl,rfl,ot⟩⟩
structure RowsR(h:Hp)(s:Sl)(rows:List (Sl × List UInt8)):Prop where
 rd:RdC h s.base (rows.map fun p=>slV p.1)
 len:s.len=rows.length
 each:∀ p∈rows,Rd 1 h p.1 (p.2.map bv)
theorem RowsR.ext{h h':Hp}{s:Sl}{rows:List (Sl × List UInt8)}(r:RowsR h s rows)(e:Ext h h'):RowsR h' s rows:=⟨r.rd.ext e,r.len,fun p hp=>(r.each p hp).ext e⟩
def good(p:List UInt8):Prop:=p.length=64∧goodP p
def rwL(l:List (List UInt8))(i:Nat):List UInt8:=l.getD i []
def dataOk(l:List (List UInt8))(i:Nat):Prop:=good (rwL l i)∧dE (rwL l i)=dE (rwL l 0)∧dS (rwL l i)=dS (rwL l 0)∧dK (rwL l i)=1
def sameOk(l:List (List UInt8))(i:Nat):Prop:=good (rwL l i)∧dE (rwL l i)=dE (rwL l 0)∧dS (rwL l i)=dS (rwL l 0)
theorem rwL_get{rows:List (Sl × List UInt8)}{j:Nat}(h:j<rows.length):rwL (rows.map (·.2)) j=rows[j].2:=by simp[rwL,h]
def putsOf(l:List (List UInt8))(i:Nat):List PutD:=(l.take i).map fun p=>((dL p:Int),dB p)
theorem putsOf_succ{l:List (List UInt8)}{j:Nat}(h:j<l.length):putsOf l (j+1)=putsOf l j ++ [((dL (rwL l j):Int),dB (rwL l j))]:=by
 unfold putsOf
 rw[List.take_succ_eq_append_getElem h,List.map_append]
 simp[rwL,h]
def RowA(h:Hp)(l:List (List UInt8))(r:Value)(h':Hp):Prop:=
 Ext h h'∧∃ (i:Nat) (t:Sl),i≤l.length∧(∀ k,k<i→dataOk l k)∧PutsR (fun b=>h.size≤b∧b<h'.size) h' t (putsOf l i)∧
  (i=l.length∧(∃ (k e s lb:Int) (u:Sl),r=.tuple #[.slice t.base t.len t.cap,.agg #[.int .i64 k,.int .i64 e,.int .i64 s,.int .i64 lb,.slice u.base u.len u.cap],.bool false]) ∨
   i<l.length∧¬ dataOk l i∧∃ (k e s lb:Int) (u:Sl),r=.tuple #[.slice t.base t.len t.cap,.agg #[.int .i64 k,.int .i64 e,.int .i64 s,.int .i64 lb,.slice u.base u.len u.cap],.bool true]∧
    (¬ sameOk l i∧k=0∨sameOk l i∧k=(dK (rwL l i):Int)∧e=(dE (rwL l i):Int)∧s=(dS (rwL l i):Int)∧lb=(dL (rwL l i):Int)∧Rd 1 h' u ((dB (rwL l i)).map bv)))
theorem row_spec{h:Hp}{s:Sl}{rows:List (Sl × List UInt8)}(w:RowsR h s rows)(hmax:rows.length≤1000000):HC Tryz.prog 178 #[.slice s.base s.len s.cap] h (RowA h (rows.map (·.2))):=by
 apply wc178
 unfold vc178
 have hl:=w.len
 obtain⟨l,hll⟩:∃ l,rows.map (·.2)=l:=⟨_,rfl⟩
 rw[hll]
 have hlen:l.length=rows.length:=by rw[← hll];simp
 intro h1
 have e1:Ext h h1:=alc_ext _ _ _
 have r1:Row h1 h.size (blkV 0 0 0 0 Sl.nil):=Row.alc _ _ _
 have s1:h1.size=h.size+1:=size_alc _ _ _
 intro h2
 refine put5 fun h2 e2 r2=>?_
 have s2:h1.size<h2.size:=r2.lt
 have fin:∀ (puts:Sl) (wh:Bool) (h9:Hp) (k e s' lb:Int) (u:Sl),Row h9 h.size (blkV k e s' lb u)→RowA h l (.tuple #[.slice puts.base puts.len puts.cap,.agg #[.int .i64 k,.int .i64 e,.int .i64 s',.int .i64 lb,.slice u.base u.len u.cap],.bool wh]) h9 →
  ∃ c24:Int,∃ c25:Int,∃ c26:Int,∃ c27:Int,∃ c28:Sl,hY h9 (nw h)=some (.int .i64 c24)∧hY h9 ((nw h).add 1)=some (.int .i64 c25)∧hY h9 ((nw h).add 2)=some (.int .i64 c26)∧hY h9 ((nw h).add 3)=some (.int .i64 c27)∧hY h9 ((nw h).add 4)=some (.slice c28.base c28.len c28.cap)∧
  stCells (nw h) 0 [.int .i64 c24,.int .i64 c25,.int .i64 c26,.int .i64 c27,.slice c28.base c28.len c28.cap] h9 fun vh16=>
  Ext h9 vh16∧
  ∃ x:Int,∃ x1:Int,∃ x2:Int,∃ x3:Int,∃ x4:Sl,hY vh16 (nw h)=some (.int .i64 x)∧hY vh16 ((nw h).add 1)=some (.int .i64 x1)∧hY vh16 ((nw h).add 2)=some (.int .i64 x2)∧hY vh16 ((nw h).add 3)=some (.int .i64 x3)∧hY vh16 ((nw h).add 4)=some (.slice x4.base x4.len x4.cap)∧
  RowA h l (.tuple #[.slice puts.base puts.len puts.cap,.agg #[.int .i64 x,.int .i64 x1,.int .i64 x2,.int .i64 x3,.slice x4.base x4.len x4.cap],.bool wh]) vh16:=by
  intro puts wh h9 k e s' lb u r9 ans
  refine r9.get5 ?_
  exact r9.same (blkV_ok _ _ _ _ _) ⟨.refl _,r9.get5 ans⟩
 refine⟨fun puts wh h'=>∃ (k e s' lb:Int) (u:Sl),Row h' h.size (blkV k e s' lb u)∧RowA h l (.tuple #[.slice puts.base puts.len puts.cap,.agg #[.int .i64 k,.int .i64 e,.int .i64 s',.int .i64 lb,.slice u.base u.len u.cap],.bool wh]) h',?_,fun _ puts wh h9 ⟨k,e,s',lb,u,r9,ans⟩=>fin puts wh h9 k e s' lb u r9 ans⟩
 refine⟨fun puts wh i m h'=>wh=false∧∃ (j:Nat) (L:List ((Int × Sl) × List UInt8)),i=j∧m+j=l.length∧Ext h h'∧h2.size≤h'.size∧(∀ k,k<j→dataOk l k)∧Row h' h.size (blkV 0 0 0 0 Sl.nil)∧OwnPuts h2.size h' puts L∧plP L=putsOf l j∧
  ∃ (k e s' lb:Int) (u:Sl),Row h' h1.size (blkV k e s' lb u)∧(0<j→e=(dE (rwL l 0):Int)∧s'=(dS (rwL l 0):Int)),l.length,
  ⟨rfl,0,[],rfl,rfl,e1.trans e2,Nat.le_refl _,fun k hk=>by omega,r1.ext e2,OwnPuts.nil _ _,rfl,_,_,_,_,_,r2,fun h=>by omega⟩,?_⟩
 rintro _ puts _ _ m h3 ⟨rfl,j,L,rfl,hm,e3,s3,hok,rl,op,hL,fk,fe,fs,flb,fu,rf,hfirst⟩
 have hLl:L.length=min j l.length:=by
  have:=congrArg List.length hL
  simp only[plP,putsOf,List.length_map,List.length_take]at this
  exact this
 refine IfB.dec (fun hlt=>?_) (fun hge=>?_)
 ·have hj:j<rows.length:=by omega
  have hjl:j<l.length:=by omega
  have hrow:rwL l j=rows[j].2:=by rw[← hll];exact rwL_get hj
  have hmem:rows[j]∈rows:=List.getElem_mem hj
  refine ixS (w.rd.ext e3) hl j rfl hj ?_
  refine(Decode_spec ((w.each _ hmem).ext e3)).mono ?_
  rintro _ h4 d
  obtain⟨e4,k,e,s',lb,t,c,rfl,d1,d2,d3⟩:=d.shape
  rw[← hrow]at d1 d2 d3
  have s4:=e4.size
  refine⟨k,e,s',lb,t,c,rfl,?_⟩
  intro h5
  refine put5 fun h6 e6 r6=>?_
  have s6:h4.size<h6.size:=r6.lt
  have e46:=e4.trans e6
  have op6:=op.ext e46
  have tb:c=0→Rd 1 h6 t ((dB (rwL l j)).map bv)∧∀ a,t.base=some a→h3.size≤a.block∧a.block<h4.size:=fun hc=>by
   by_cases hlen64:(rwL l j).length=64
   ·by_cases hg:goodP (rwL l j)
    ·obtain⟨_,_,_,_,_,ot⟩:=d3 hlen64 hg
     exact⟨(ot.ext e6).toRd,fun a ha=>ot.lt ha⟩
    ·have:=d2 hlen64 hg;omega
   ·have:=d1 hlen64;omega
  refine⟨fun h'=>Ext h h'∧h'.size=h6.size∧Row h' h.size (blkV 0 0 0 0 Sl.nil)∧Row h' h4.size (blkV k e s' lb t)∧(∀ b,h2.size≤b→h'[b]? = h6[b]?)∧∃ (k1 e1 s1 lb1:Int) (u1:Sl),Row h' h1.size (blkV k1 e1 s1 lb1 u1)∧(j=0→e1=e∧s1=s')∧(0<j→e1=(dE (rwL l 0):Int)∧s1=(dS (rwL l 0):Int)),?_,?_⟩
  ·refine IfB.eq (fun h0=>?_) (fun hne=>?_)
   ·refine r6.get5 ?_
    refine(rf.ext e46).put (vs:=blkV k e s' lb t) rfl (blkV_ok _ _ _ _ _) fun h7 r7 s7 o7=>?_
    refine⟨⟨by have:=e3.size;omega,fun b hb=>by rw[o7 b (by omega),e46.block b (by have:=e3.size;omega),e3.block b hb]⟩,s7,(rl.ext e46).eq (o7 _ (by omega)),r6.eq (o7 _ (by omega)),fun b hb=>o7 b (by omega),_,_,_,_,_,r7,fun _=>⟨rfl,rfl⟩,fun h=>by omega⟩
   ·exact⟨e3.trans e46,rfl,rl.ext e46,r6,fun _ _=>rfl,_,_,_,_,_,rf.ext e46,fun h=>by omega,hfirst⟩
  rintro _ h7 ⟨e7,s7,rl7,r7,same7,k1,fe1,fs1,lb1,u1,rf7,hf0,hf1⟩
  have op7:OwnPuts h2.size h7 puts L:=op6.eq (by omega) fun b hb _=>same7 b hb
  have puts7:PutsR (fun b=>h.size≤b∧b<h7.size) h7 puts (putsOf l j):=by
   have:=op7.puts
   rw[hL]at this
   exact this.mono fun b hb=>⟨by omega,hb.2⟩
  have hE:c=0→(e=fe1∧s'=fs1↔dE (rwL l j)=dE (rwL l 0)∧dS (rwL l j)=dS (rwL l 0))∧e=(dE (rwL l j):Int)∧s'=(dS (rwL l j):Int)∧k=(dK (rwL l j):Int)∧lb=(dL (rwL l j):Int)∧good (rwL l j):=fun hc=>by
   by_cases hlen64:(rwL l j).length=64
   ·by_cases hg:goodP (rwL l j)
    ·obtain⟨_,a1,a2,a3,a4,_⟩:=d3 hlen64 hg
     refine⟨?_,a2,a3,a1,a4,hlen64,hg⟩
     rcases Nat.eq_zero_or_pos j with h0 | h0
     ·subst h0;have:=hf0 rfl;exact⟨fun _=>⟨rfl,rfl⟩,fun _=>⟨this.1.symm,this.2.symm⟩⟩
     ·have:=hf1 h0;constructor <;> rintro⟨b1,b2⟩ <;> constructor <;> omega
    ·have:=d2 hlen64 hg;omega
   ·have:=d1 hlen64;omega
  have hbadc:c≠0 →¬ good (rwL l j):=fun hc hg=>by have:=(d3 hg.1 hg.2).1;omega
  have none_:¬ sameOk l j→stCells (nw h) 0 [.int .i64 (0:Int),.int .i64 (0:Int),.int .i64 (0:Int),.int .i64 (0:Int),.slice Sl.nil.base Sl.nil.len Sl.nil.cap] h7 fun vh9=>
   ∃ (k e s' lb:Int) (u:Sl),Row vh9 h.size (blkV k e s' lb u)∧RowA h l (.tuple #[.slice puts.base puts.len puts.cap,.agg #[.int .i64 k,.int .i64 e,.int .i64 s',.int .i64 lb,.slice u.base u.len u.cap],.bool true]) vh9:=fun hno=>by
   refine rl7.same (blkV_ok _ _ _ _ _) ⟨0,0,0,0,Sl.nil,rl7,e7,j,puts,by omega,hok,puts7,.inr ⟨hjl,fun hd=>hno ⟨hd.1,hd.2.1,hd.2.2.1⟩,0,0,0,0,Sl.nil,rfl,.inl ⟨hno,rfl⟩⟩⟩
  refine IfB.ne (fun hc=>none_ fun hs=>hbadc hc hs.1) (fun hc=>?_)
  obtain⟨h5e,h5a,h5b,h5c,h5d,h5g⟩:=hE hc
  refine⟨e,r7.get rfl,fe1,rf7.get rfl,IfB.ne (fun hne=>none_ fun hs=>hne (h5e.2 hs.2).1) (fun he=>⟨s',r7.get rfl,fs1,rf7.get rfl,IfB.ne (fun hne=>none_ fun hs=>hne (h5e.2 hs.2).2) (fun hs=>⟨k,r7.get0 rfl,?_⟩)⟩)⟩
  have hsame:sameOk l j:=⟨h5g,h5e.1 ⟨he,hs⟩⟩
  have ht7:Rd 1 h7 t ((dB (rwL l j)).map bv):=(tb hc).1.eq fun a ha=>same7 _ (by have:=((tb hc).2 a ha).1;omega)
  refine IfB.ne (fun hk1=>?_) (fun hk1=>?_)
  ·refine r7.get5 ?_
   refine rl7.put (vs:=blkV k e s' lb t) rfl (blkV_ok _ _ _ _ _) fun h8 r8 s8 o8=>?_
   have e8:Ext h h8:=⟨by have:=e7.size;omega,fun b hb=>by rw[o8 b (by omega),e7.block b hb]⟩
   refine⟨k,e,s',lb,t,r8,e8,j,puts,by omega,hok,?_,.inr ⟨hjl,fun hd=>by have:=hd.2.2.2;omega,k,e,s',lb,t,rfl,.inr ⟨hsame,h5c,h5a,h5b,h5d,ht7.eq fun a ha=>o8 _ (by have:=((tb hc).2 a ha).1;omega)⟩⟩⟩
   have:=(op7.eq (h':=h8) (by omega) fun b hb _=>o8 b (by omega)).puts
   rw[hL]at this
   exact this.mono fun b hb=>⟨by omega,hb.2⟩
  ·refine⟨lb,r7.get rfl,t,r7.get rfl,?_⟩
   intro h8
   refine op7.push rfl (by omega) ht7 (fun a ha=>⟨by have:=((tb hc).2 a ha).1;omega,by have:=((tb hc).2 a ha).2;omega,fun a' ha'=>by have:=((tb hc).2 a ha).1;have:=(op.own.lt ha').2;omega⟩) (by omega) fun r h9 o9 l9 k9 x9 b9=>?_
   have hd:dataOk l j:=⟨hsame.1,hsame.2.1,hsame.2.2,by omega⟩
   refine⟨m-1,by omega,rfl,j+1,_,by rw[iAdd64 (by omega)];push_cast;rfl,by omega,⟨by have:=e7.size;have:=k9.size;omega,fun b hb=>by rw[k9.block b (by omega),e7.block b hb]⟩,by have:=k9.size;omega,fun x hx=>?_,rl7.eq (k9.block _ (by omega)),o9,?_,k1,fe1,fs1,lb1,u1,rf7.eq (k9.block _ (by omega)),fun _=>?_⟩
   ·by_cases ex:x=j
    ·subst ex;exact hd
    ·exact hok x (by omega)
   ·rw[putsOf_succ hjl,← hL,← h5d];simp[plP]
   ·rcases Nat.eq_zero_or_pos j with h0 | h0
    ·subst h0;exact⟨by omega,by omega⟩
    ·exact hf1 h0
 ·obtain rfl:j=l.length:=by omega
  refine⟨0,0,0,0,Sl.nil,rl,e3,l.length,puts,Nat.le_refl _,hok,?_,.inl ⟨rfl,0,0,0,0,Sl.nil,rfl⟩⟩
  have:=op.puts
  rw[hL]at this
  exact this.mono fun b hb=>⟨by omega,hb.2⟩
theorem PutsR.cut{B:Nat→Prop}{h:Hp}{s:Sl}{P:List PutD}(p:PutsR B h s P){lo hi m:Nat}(h1:lo≤hi)(h2:hi≤s.len)(h3:hi≤m):PutsR B h (cutSl s lo hi m 2) ((P.drop lo).take (hi-lo)):=by
 obtain⟨L,rfl,r,hb,he⟩:=p
 refine⟨(L.drop lo).take (hi-lo),by simp[List.map_drop,List.map_take],?_,fun a ha h0=>?_,fun x hx=>he x (List.mem_of_mem_drop (List.mem_of_mem_take hx))⟩
 ·have:=r.cut h1 h2 h3
  rw[c2_drop,c2_take]at this
  simpa [List.map_drop,List.map_take] using this
 ·have hs0:s.len≠0:=by rw[cut_len]at h0;omega
  simp only[cutSl]at ha
  split at ha
  ·exact hb a ha hs0
  ·obtain⟨a',ha',rfl⟩:=Option.map_eq_some_iff.1 ha
   rw[add_block];exact hb a' ha' hs0
def bN(bs:List UInt8):Nat:=(bs.getD 8 0).toNat
def bFirst(bs:List UInt8):Nat:=min (leN (bs.take 8)) 4611686018427387904
def bSt(bs:List UInt8)(j:Nat):Nat:=(bs.getD (9+2*j) 0).toNat+256*(bs.getD (9+2*j+1) 0).toNat
def bCt(bs:List UInt8)(j:Nat):Nat:=(bs.getD (9+2*bN bs+j) 0).toNat
def tmS(bs:List UInt8):Nat→Nat
 | 0=>bFirst bs
 | j+1=>tmS bs j+bSt bs j
def offS(bs:List UInt8):Nat→Nat
 | 0=>0
 | j+1=>offS bs j+bCt bs j
def TOf(bs:List UInt8)(P:List PutD)(n:Nat):List TxD:=(List.range n).map fun j=>((tmS bs (j+1):Int),(P.drop (offS bs j)).take (bCt bs j))
theorem TOf_len(bs:List UInt8)(P:List PutD)(n:Nat):(TOf bs P n).length=n:=by simp[TOf]
theorem TOf_succ(bs:List UInt8)(P:List PutD)(n:Nat):TOf bs P (n+1)=TOf bs P n ++ [((tmS bs (n+1):Int),(P.drop (offS bs n)).take (bCt bs n))]:=by unfold TOf;rw[List.range_succ,List.map_append];rfl
theorem TOf_pt(bs:List UInt8)(P:List PutD)(n j:Nat)(hj:j<n):pt (TOf bs P n) j=(P.drop (offS bs j)).take (bCt bs j):=by simp[pt,TOf,hj]
theorem TOf_tm(bs:List UInt8)(P:List PutD)(n j:Nat)(hj:j<n):tm (TOf bs P n) j=(tmS bs (j+1):Int):=by simp[tm,TOf,hj]
theorem offS_mono(bs:List UInt8){a b:Nat}(h:a≤b):offS bs a≤offS bs b:=by
 induction b with
 | zero=>have:a=0:=by omega
         subst this;exact Nat.le_refl _
 | succ b ih=>
   by_cases e:a=b+1
   ·subst e;exact Nat.le_refl _
   ·have:=ih (by omega);simp only[offS];omega
theorem u8lt(x:UInt8):x.toNat<256:=UInt8.toNat_lt x
theorem bSt_lt(bs:List UInt8)(j:Nat):bSt bs j<65536:=by
 have h1:=u8lt (bs.getD (9+2*j) 0)
 have h2:=u8lt (bs.getD (9+2*j+1) 0)
 unfold bSt;omega
theorem tmS_le(bs:List UInt8)(j:Nat):tmS bs j≤4611686018427387904+j*65536:=by
 induction j with
 | zero=>simp only[tmS,bFirst];omega
 | succ j ih=>have:=bSt_lt bs j;simp only[tmS];omega
structure MadeP(seq:Int)(bs:List UInt8)(P:List PutD):Prop where
 len:bs.length=9+3*bN bs
 first:bSt bs 0=0
 off:offS bs (bN bs)=P.length
 check:CheckP seq (TOf bs P (bN bs))
theorem or8{a b:Nat}(ha:a<256)(hb:b<256):iOr .i64 (iConv .i64 (a:Int)) (iShl .i64 (iConv .i64 (b:Int)) (8:Int))=((a+256*b:Nat):Int):=by
 rw[iConv64 (by omega),iConv64 (by omega)]
 have hs:iShl .i64 (b:Int) (8:Int)=((b*2 ^ 8:Nat):Int):=by
  unfold iShl
  have:min (8:Int).toNat IntKind.i64.bits=8:=by decide
  rw[this]
  have:(b:Int)*2 ^ 8=((b*2 ^ 8:Nat):Int):=by rw[Int.natCast_mul];rfl
  rw[this]
  exact IntWalk.i64_in _ (by omega)
 rw[hs]
 unfold iOr
 rw[BitVec.ofInt_natCast,BitVec.ofInt_natCast,BitVec.toNat_or,BitVec.toNat_ofNat,BitVec.toNat_ofNat,Nat.mod_eq_of_lt (by simp only[IntKind.bits];omega),Nat.mod_eq_of_lt (by simp only[IntKind.bits];omega),or_add (by omega)]
 rw[show a+b*2 ^ 8=a+256*b by omega]
 exact IntWalk.i64_in _ (by omega)
def BatA(B:Nat→Prop)(h:Hp)(k s lb:Int)(bs:List UInt8)(P:List PutD)(r:Value)(h':Hp):Prop:=
 Ext h h'∧∃ (num:Int) (t:Sl) (ok:Bool),r=.tuple #[.agg #[.int .i64 num,.slice t.base t.len t.cap],.bool ok]∧(ok=true↔k=2∧lb=P.length∧MadeP s bs P)∧
  (ok=true→num=s∧TxsR (fun b=>B b∨h.size≤b∧b<h'.size) h' t (TOf bs P (bN bs)))
theorem batch_spec{B:Nat→Prop}{h:Hp}{u p:Sl}{P:List PutD}(k e s lb:Int)(bs:List UInt8)(ru:k=2→Rd 1 h u (bs.map bv))(hbl:bs.length≤1000)(rp:PutsR B h p P)(hB:∀ b,B b→b<h.size)(hP:P.length≤1000000) :
 HC Tryz.prog 179 #[.agg #[.int .i64 k,.int .i64 e,.int .i64 s,.int .i64 lb,.slice u.base u.len u.cap],.slice p.base p.len p.cap] h (BatA B h k s lb bs P):=by
 apply wc179
 unfold vc179
 have hpl:=rp.len
 intro h1 h2
 have e1:Ext h h1:=alc_ext _ _ _
 have e2:Ext h1 h2:=alc_ext _ _ _
 have e02:=e1.trans e2
 have s1:h1.size=h.size+1:=size_alc _ _ _
 have s2:h2.size=h1.size+1:=size_alc _ _ _
 have rf:Row h2 h.size (blkV k e s lb u):=(Row.alc h _ _).ext e2
 have rb:Row h2 h1.size [.int .i64 (0:Int),.slice Sl.nil.base Sl.nil.len Sl.nil.cap]:=Row.alc h1 _ _
 have no:∀ {h':Hp} {n:Int} {t:Sl},Ext h h'→Row h' h1.size [.int .i64 n,.slice t.base t.len t.cap] →¬ (k=2∧lb=P.length∧MadeP s bs P) →
  ∃ c6:Int,∃ c7:Sl,hY h' (nw h1)=some (.int .i64 c6)∧hY h' ((nw h1).add 1)=some (.slice c7.base c7.len c7.cap)∧
  stCells (nw h1) 0 [.int .i64 c6,.slice c7.base c7.len c7.cap] h' fun vh2=>
  ∃ x:Int,∃ x1:Sl,hY vh2 (nw h1)=some (.int .i64 x)∧hY vh2 ((nw h1).add 1)=some (.slice x1.base x1.len x1.cap)∧
  BatA B h k s lb bs P (.tuple #[.agg #[.int .i64 x,.slice x1.base x1.len x1.cap],.bool false]) vh2:=fun {h' n t} e' r' hn=>
  r'.get2s (r'.same (by simp[cellOk]) (r'.get2s ⟨e',n,t,false,rfl,ffIff hn,fun h=>by cases h⟩))
 refine⟨k,rf.get0 rfl,IfB.ne (fun hk=>no e02 rb fun g=>hk g.1) (fun hk=>⟨lb,rf.get rfl,IfB.ne (fun hlb=>no e02 rb fun g=>hlb (by rw[hpl];exact g.2.1)) (fun hlb=>⟨u,rf.get rfl,?_⟩)⟩)⟩
 have ru0:=ru hk
 have hul:=ru0.lenB
 have ru2:=ru0.ext e02
 have hN:=u8lt (bs.getD 8 0)
 refine IfB.dec (fun h9=>no e02 rb fun g=>by have:=g.2.2.len;omega) (fun h9=>⟨u,rf.get rfl,?_⟩)
 refine ixB ru2.rd hul 8 rfl (by omega) ?_
 have en:bs[8]'(by omega)=bs.getD 8 0:=by simp[List.getD];rw[List.getElem?_eq_getElem (by omega)];rfl
 rw[en]
 have eN:iConv .i64 ((bs.getD 8 0).toNat:Int)=(bN bs:Int):=by rw[iConv64 (by omega)];rfl
 have hN':bN bs<256:=hN
 rw[eN]
 have e3:iAdd .i64 (9:Int) (iMul .i64 (3:Int) (bN bs:Int))=((9+3*bN bs:Nat):Int):=by rw[iMul64 (by omega),iAdd64 (by omega)];push_cast;rfl
 have e22:iAdd .i64 (9:Int) (iMul .i64 (2:Int) (bN bs:Int))=((9+2*bN bs:Nat):Int):=by rw[iMul64 (by omega),iAdd64 (by omega)];push_cast;rfl
 rw[e3,e22]
 refine⟨u,rf.get rfl,IfB.ne (fun hl3=>no e02 rb fun g=>by have:=g.2.2.len;omega) (fun hl3=>⟨u,rf.get rfl,?_⟩)⟩
 have hlen:bs.length=9+3*bN bs:=by omega
 refine(Get64_spec ru2).mono ?_
 rintro _ h3 ⟨rfl,rfl⟩
 rw[getR_of (n:=8) (by omega)]
 have hcap:=ru0.cap
 refine⟨_,_,rfl,u,rf.get rfl,by omega,by omega,by omega,by omega,u,rf.get rfl,by omega,by omega,by omega,by omega,s,rf.get rfl,?_⟩
 obtain⟨ok4,r4,x4,s4⟩:=rb.set0 (by simp) (.int .i64 s)
 refine⟨ok4,?_⟩
 have e24:Ext h1 (hset h2 ⟨h1.size,0,none⟩ (.int .i64 s)):=⟨by rw[s4];omega,fun b hb=>by rw[x4 b (by omega),e2.block b hb]⟩
 have hnw:nw h1=⟨h1.size,0,none⟩:=rfl
 rw[hnw]
 generalize hset h2 ⟨h1.size,0,none⟩ (.int .i64 s)=h4 at *
 have e4:=e1.trans e24
 have r4:Row h4 h1.size [.int .i64 s,.slice Sl.nil.base Sl.nil.len Sl.nil.cap]:=r4
 have hfirst:iConv .i64 (if (4611686018427387904:Int)<(leN (bs.take 8):Int) then (4611686018427387904:Int) else (leN (bs.take 8):Int))=(bFirst bs:Int):=by
  unfold bFirst
  split
  ·rw[iConv64 (by omega),Nat.min_eq_right (by omega)];rfl
  ·rw[iConv64 (by omega),Nat.min_eq_left (by omega)]
 have rst:∀ {h':Hp},Ext h h'→Rd 1 h' (cutSl u (9:Int) ((9+2*bN bs:Nat):Int) (u.cap:Int) 1) (((bs.drop 9).take (2*bN bs)).map bv):=fun e'=>by
  have:=(ru0.ext e').cutB (lo:=9) (hi:=9+2*bN bs) (m:=u.cap) (by omega) (by omega) (by omega)
  rwa[show 9+2*bN bs-9=2*bN bs by omega]at this
 have rct:∀ {h':Hp},Ext h h'→Rd 1 h' (cutSl u ((9+2*bN bs:Nat):Int) (u.len:Int) (u.cap:Int) 1) ((bs.drop (9+2*bN bs)).map bv):=fun e'=>(ru0.ext e').cutD (by omega)
 have gst:∀ j,j<2*bN bs →∀ hh,(((bs.drop 9).take (2*bN bs))[j]'hh)=bs.getD (9+j) 0:=fun j hj hh=>by
  rw[List.getElem_take,List.getElem_drop];simp[List.getD,List.getElem?_eq_getElem (show 9+j<bs.length by omega)]
 have gct:∀ j,j<bN bs →∀ hh,((bs.drop (9+2*bN bs))[j]'hh)=bs.getD (9+2*bN bs+j) 0:=fun j hj hh=>by
  rw[List.getElem_drop];simp[List.getD,List.getElem?_eq_getElem (show 9+2*bN bs+j<bs.length by omega)]
 have lst:((bs.drop 9).take (2*bN bs)).length=2*bN bs:=by simp;omega
 have lct:(bs.drop (9+2*bN bs)).length=bN bs:=by simp;omega
 refine⟨fun ps time i m h'=>∃ (j:Nat) (t:Sl) (L:List ((Int × Sl) × List PutD)),i=j∧m+j=bN bs∧Ext h h'∧h2.size≤h'.size∧PutsR B h' ps (P.drop (offS bs j))∧offS bs j≤P.length∧time=(tmS bs j:Int)∧(0<j→bSt bs 0=0)∧Row h' h1.size [.int .i64 s,.slice t.base t.len t.cap]∧OwnTxs h2.size B h' t L∧plT L=TOf bs P j,bN bs,
  ⟨0,Sl.nil,[],rfl,rfl,e4,by omega,by simpa [offS] using rp.ext e4,Nat.zero_le _,hfirst,fun h=>by omega,r4,OwnTxs.nil _ _ _,rfl⟩,?_⟩
 rintro _ ps _ _ m h5 ⟨j,t,L,rfl,hm,e5,s5,pr,hoff,rfl,hst0,r5,ot,hL⟩
 have hpsl:=pr.len
 rw[List.length_drop]at hpsl
 have hpcap:ps.len≤ps.cap:=by obtain⟨_,_,rr,_⟩:=pr;exact rr.cap
 have hLl:L.length=j:=by have:=congrArg List.length hL;simpa [plT,TOf] using this
 refine IfB.dec (fun hlt=>?_) (fun hge=>?_)
 ·have hj:j<bN bs:=by omega
  have e2j:iMul .i64 (2:Int) (j:Int)=((2*j:Nat):Int):=by rw[iMul64 (by omega)];push_cast;rfl
  have e2j1:iAdd .i64 ((2*j:Nat):Int) (1:Int)=((2*j+1:Nat):Int):=by rw[iAdd64 (by omega)];push_cast;rfl
  rw[e2j,e2j1]
  refine ixB (rst e5).rd (rst e5).lenB (2*j) rfl (by omega) ?_
  refine ixB (rst e5).rd (rst e5).lenB (2*j+1) rfl (by omega) ⟨by omega,?_⟩
  refine ixB (rct e5).rd (rct e5).lenB j rfl (by omega) ?_
  rw[gst (2*j) (by omega),gst (2*j+1) (by omega),gct j hj]
  have hct:iConv .i64 ((bs.getD (9+2*bN bs+j) 0).toNat:Int)=(bCt bs j:Int):=by
   have:=u8lt (bs.getD (9+2*bN bs+j) 0)
   rw[iConv64 (by omega)];rfl
  have hctl:bCt bs j<256:=u8lt _
  rw[hct,or8 (u8lt _) (u8lt _)]
  have hst:(bs.getD (9+2*j) 0).toNat+256*(bs.getD (9+(2*j+1)) 0).toNat=bSt bs j:=rfl
  rw[hst]
  have htm:=tmS_le bs j
  have hsl:=bSt_lt bs j
  have eT:iAdd .i64 (tmS bs j:Int) (bSt bs j:Int)=(tmS bs (j+1):Int):=by rw[iAdd64 (by omega)];simp[tmS]
  rw[eT]
  have hofS:offS bs (j+1)=offS bs j+bCt bs j:=rfl
  refine⟨fun h'=>h'=h5∧bCt bs j≤ps.len∧bSt bs 0=0,?_,?_⟩
  ·refine IfB.dec (fun hbig=>no e5 r5 fun g=>?_) (fun hfit=>?_)
   ·have h1:=g.2.2.off
    have h2:=offS_mono bs (show j+1≤bN bs by omega)
    omega
   refine IfB.eq (fun h0=>?_) (fun hne=>⟨rfl,by omega,hst0 (by omega)⟩)
   refine ixB (rst e5).rd (rst e5).lenB 0 rfl (by omega) ?_
   refine ixB (rst e5).rd (rst e5).lenB 1 rfl (by omega) ?_
   rw[gst 0 (by omega),gst 1 (by omega)]
   have o0:=u8lt (bs.getD (9+0) 0)
   have o1:=u8lt (bs.getD (9+1) 0)
   rw[iOr_nat u8s (by simpa [IntKind.bits] using o0) (by simpa [IntKind.bits] using o1)]
   have hz:(bs.getD (9+0) 0).toNat ||| (bs.getD (9+1) 0).toNat=0↔bSt bs 0=0:=by
    rw[Nat.or_eq_zero_iff]
    show _↔(bs.getD (9+0) 0).toNat+256*(bs.getD (9+1) 0).toNat=0
    omega
   exact IfB.ne (fun hnz=>no e5 r5 fun g=>hnz (by rw[hz.2 g.2.2.first];rfl)) (fun hzz=>⟨rfl,by omega,hz.1 (by omega)⟩)
  rintro _ h6 ⟨rfl,hfit,hst0'⟩
  refine⟨t,r5.get rfl,by omega,by omega,by omega,by omega,?_⟩
  intro h7
  refine⟨alc_ext _ _ _,?_⟩
  have pc:=pr.cut (lo:=0) (hi:=bCt bs j) (m:=bCt bs j) (by omega) hfit (Nat.le_refl _)
  rw[Nat.sub_zero,List.drop_zero]at pc
  refine ot.push rfl (fun b hb=>by have:=hB b hb;have:=e5.size;omega) s5 pc (by omega) fun r h8 o8 l8 k8 x8 b8=>?_
  have hne:∀ a,t.base=some a→h1.size≠a.block:=fun a ha e=>by have:=(ot.own.lt ha).1;omega
  have r8:Row h8 h1.size [.int .i64 s,.slice t.base t.len t.cap]:=r5.eq (x8 _ (by have:=r5.lt;omega) hne)
  obtain⟨ok9,r9,x9,s9⟩:=r8.set (i:=1) (by simp) (.slice r.base r.len r.cap)
  refine⟨ok9,?_⟩
  generalize hset h8 ((⟨h1.size,0,none⟩:Addr).add 1) (.slice r.base r.len r.cap)=h9 at *
  have r9:Row h9 h1.size [.int .i64 s,.slice r.base r.len r.cap]:=r9
  have k8s:=k8.size
  have eqB:∀ b,B b→h9[b]? = h6[b]?:=fun b hb=>by
   have hbb:=hB b hb
   rw[x9 b (by omega),k8.block b (by omega)]
  refine⟨by omega,by omega,by omega,by omega,m-1,by omega,j+1,r,L ++ [(((tmS bs (j+1):Int),cutSl ps ((0:Nat):Int) (bCt bs j:Int) (bCt bs j:Int) 2),(P.drop (offS bs j)).take (bCt bs j))],by rw[iAdd64 (by omega)];push_cast;rfl,by omega,⟨by have:=e5.size;omega,fun b hb=>by rw[x9 b (by omega),k8.block b (by omega),e5.block b hb]⟩,by omega,?_,by omega,rfl,fun _=>hst0',r9,?_,?_⟩
  ·have pd:=pr.cut (lo:=bCt bs j) (hi:=ps.len) (m:=ps.cap) hfit (Nat.le_refl _) hpcap
   rw[List.drop_drop,List.take_of_length_le (by rw[List.length_drop];omega)]at pd
   exact pd.eq eqB
  ·refine⟨o8.own.eq fun a ha=>x9 _ ?_,fun x hx=>(o8.each x hx).eq fun b hb=>x9 b (by have:=hB b hb;omega),o8.apart⟩
   have:=(o8.own.lt ha).1;omega
  ·rw[TOf_succ,← hL];simp[plT]
 ·have hj:j=bN bs:=by omega
  subst hj
  refine r5.get2s ?_
  have txs:TxsR (fun b=>B b∨h.size≤b∧b<h5.size) h5 t (TOf bs P (bN bs)):=by
   have:=ot.txs (B':=fun b=>B b∨h.size≤b∧b<h5.size) (fun b hb=>.inl hb) (fun b h1 h2=>.inr ⟨by omega,h2⟩)
   rwa[hL]at this
  refine IfB.eq (fun h0=>?_) (fun hne=>?_)
  ·refine r5.get2s ?_
   refine(Check_spec s txs fun j'=>?_).mono ?_
   ·by_cases hj':j'<bN bs
    ·rw[TOf_pt _ _ _ _ hj'];simp;omega
    ·unfold pt;rw[List.getD_eq_getElem?_getD,List.getElem?_eq_none (by rw[TOf_len];omega)];simp
   rintro _ h6 ⟨e6,c,rfl,hc,_⟩
   refine⟨c,rfl,e6,(r5.ext e6).same (by simp[cellOk]) ⟨e6,(r5.ext e6).get2s ⟨e5.trans e6,s,t,_,rfl,?_,fun _=>⟨rfl,?_⟩⟩⟩⟩
   ·rw[beq_iff_eq,hc]
    constructor
    ·intro hck
     have hn1:=hck.len
     rw[TOf_len]at hn1
     exact⟨hk,by omega,hlen,hst0 (by omega),by omega,hck⟩
    ·exact fun g=>g.2.2.check
   ·exact(txs.ext e6).mono fun b hb=>by
     have:=e6.size
     rcases hb with h | h
     ·exact .inl h
     ·exact .inr ⟨h.1,by omega⟩
  ·refine r5.same (by simp[cellOk]) ⟨.refl _,r5.get2s ⟨e5,s,t,false,rfl,ffIff fun g=>hne ?_,fun h=>(by cases h)⟩⟩
   have:=g.2.2.off
   omega
theorem xor_bv(x y:UInt8):iXor .u8 (x.toNat:Int) (y.toNat:Int)=((x ^^^ y).toNat:Int):=by
 rw[iXor_nat u8s (by simpa [IntKind.bits] using x.toBitVec.isLt) (by simpa [IntKind.bits] using y.toBitVec.isLt),UInt8.toNat_xor]
theorem encOf_take{pre:List UInt8}(h:pre.length≤60):(encOf pre).take 60=covL pre:=by
 unfold encOf;rw[List.take_append_of_le_length (by rw[covL_length h];omega),List.take_of_length_le (by rw[covL_length h];omega)]
theorem encOf_drop{pre:List UInt8}(h:pre.length≤60):(encOf pre).drop 60=leB 4 (crcN (covL pre)):=by
 unfold encOf;exact List.drop_left' (covL_length h)
def sumOk(q:List UInt8):Prop:=q.drop 60=leB 4 (crcN (q.take 60))
theorem encOf_sumOk{pre:List UInt8}(h:pre.length≤60):sumOk (encOf pre):=by unfold sumOk;rw[encOf_take h,encOf_drop h]
theorem goodP_sumOk{q:List UInt8}(g:goodP q):sumOk q:=by
 obtain⟨h1,_,h3⟩:=g
 have hb:(dB q).length≤dN q:=by unfold dB;rw[List.length_take];omega
 have hl:=preL_length (dK q) (dE q) (dS q) (dL q) (dB q)
 rw[← h3];exact encOf_sumOk (by omega)
theorem leB_inj{a b:Nat}(ha:a<2 ^ 32)(hb:b<2 ^ 32)(h:leB 4 a=leB 4 b):a=b:=by
 have:=congrArg leN h
 rw[leN_leB,leN_leB,Nat.mod_eq_of_lt (by omega),Nat.mod_eq_of_lt (by omega)]at this
 exact this
theorem encL_good{k e s l:Nat}{bs:List UInt8}(ok:okB k e s l)(hb:bs.length≤40) :
 let p:=encOf (preL k e s l bs)
 goodP p∧dK p=k∧dE p=e∧dS p=s∧dL p=l∧dB p=bs:=by
 intro p
 obtain⟨o1,o2,o3,o4⟩:=ok
 have hp:p = [UInt8.ofNat k,UInt8.ofNat bs.length]++(leB 4 e++(leB 8 s++(leB 4 l++(bs++(List.replicate (60-(preL k e s l bs).length) 0++leB 4 (crcN (covL (preL k e s l bs)))))))):=by
  show covL _++_=_
  unfold covL preL
  simp only[List.append_assoc]
 have d2:p.drop 2=leB 4 e++(leB 8 s++(leB 4 l++(bs++(List.replicate (60-(preL k e s l bs).length) 0++leB 4 (crcN (covL (preL k e s l bs))))))):=by rw[hp];rfl
 have d6:p.drop 6=leB 8 s++(leB 4 l++(bs++(List.replicate (60-(preL k e s l bs).length) 0++leB 4 (crcN (covL (preL k e s l bs)))))):=by
  rw[show 6=2+4 by rfl,← List.drop_drop,d2];exact List.drop_left' (leB_length 4 e)
 have d14:p.drop 14=leB 4 l++(bs++(List.replicate (60-(preL k e s l bs).length) 0++leB 4 (crcN (covL (preL k e s l bs))))):=by
  rw[show 14=6+8 by rfl,← List.drop_drop,d6];exact List.drop_left' (leB_length 8 s)
 have d18:p.drop 18=bs++(List.replicate (60-(preL k e s l bs).length) 0++leB 4 (crcN (covL (preL k e s l bs)))):=by
  rw[show 18=14+4 by rfl,← List.drop_drop,d14];exact List.drop_left' (leB_length 4 l)
 have k0:dK p=k:=by
  unfold dK;rw[hp];show(UInt8.ofNat k).toNat=k
  rw[UInt8.toNat_ofNat'];omega
 have n0:dN p=bs.length:=by
  unfold dN;rw[hp];show(UInt8.ofNat bs.length).toNat=bs.length
  rw[UInt8.toNat_ofNat'];omega
 have e0:dE p=e:=by
  unfold dE;rw[d2,List.take_left' (leB_length 4 e),leN_leB];omega
 have s0:dS p=s:=by
  unfold dS;rw[d6,List.take_left' (leB_length 8 s),leN_leB];omega
 have l0:dL p=l:=by
  unfold dL;rw[d14,List.take_left' (leB_length 4 l),leN_leB];omega
 have b0:dB p=bs:=by
  unfold dB;rw[d18,n0,List.take_left' rfl]
 refine⟨⟨by omega,?_,?_⟩,k0,e0,s0,l0,b0⟩
 ·rw[k0,e0,s0,l0];exact⟨o1,o2,o3,o4⟩
 ·rw[k0,e0,s0,l0,b0]
def tornL(q:List UInt8):List UInt8:=q.take 32++(q.drop 32).map (· ^^^ 85)
def tornM:List UInt8:=List.replicate 32 0++List.replicate 28 85
theorem tornM_ne:creg 0#32 tornM≠0x55555555#32:=by decide +kernel
theorem byteAt_xor(a c:Nat)(j:Nat):byteAt (a ^^^ c) j=byteAt a j ^^^ byteAt c j:=by
 apply UInt8.toNat_inj.1
 unfold byteAt
 rw[UInt8.toNat_xor,UInt8.toNat_ofNat',UInt8.toNat_ofNat',UInt8.toNat_ofNat',← Nat.shiftRight_eq_div_pow,← Nat.shiftRight_eq_div_pow,← Nat.shiftRight_eq_div_pow,Nat.shiftRight_xor_distrib,Nat.xor_mod_two_pow]
theorem leB_xor55(a:BitVec 32):(leB 4 a.toNat).map (· ^^^ 85)=leB 4 (a ^^^ 0x55555555#32).toNat:=by
 rw[BitVec.toNat_xor]
 have c:∀ j:Fin 4,byteAt (0x55555555#32).toNat j.val=85:=by decide
 have f:∀ j,j<4→byteAt (a.toNat ^^^ (0x55555555#32).toNat) j=byteAt a.toNat j ^^^ 85:=fun j hj=>by rw[byteAt_xor,c ⟨j,hj⟩]
 show [byteAt a.toNat 0 ^^^ 85,byteAt a.toNat 1 ^^^ 85,byteAt a.toNat 2 ^^^ 85,byteAt a.toNat 3 ^^^ 85] = [byteAt _ 0,byteAt _ 1,byteAt _ 2,byteAt _ 3]
 rw[f 0 (by omega),f 1 (by omega),f 2 (by omega),f 3 (by omega)]
theorem torn_take{q:List UInt8}(h64:q.length=64):(tornL q).take 60=xorL (q.take 60) tornM:=by
 apply List.ext_getElem
 ·simp[tornL,xorL,tornM,h64]
 ·intro j h1 h2
  have hj:j<60:=by simp[tornL,h64]at h1;omega
  simp only[xorL,List.getElem_zipWith,List.getElem_take,tornL,tornM]
  rw[List.getElem_append,List.getElem_append]
  simp only[List.length_take,h64,List.length_replicate]
  by_cases h:j<32
  ·rw[dif_pos (by omega),dif_pos h,List.getElem_replicate,List.getElem_take,UInt8.xor_zero]
  ·rw[dif_neg (by omega),dif_neg h,List.getElem_replicate,List.getElem_map,List.getElem_drop]
   have:∀ (a b:Nat) (ha:a<q.length) (hb:b<q.length),a=b→q[a]=q[b]:=fun a b _ _ e=>by subst e;rfl
   rw[this _ j (by omega) (by omega) (by omega)]
theorem torn_drop{q:List UInt8}(h64:q.length=64):(tornL q).drop 60=(q.drop 60).map (· ^^^ 85):=by
 unfold tornL
 rw[List.drop_append,List.drop_eq_nil_of_le (by simp[h64]),List.nil_append,← List.map_drop,List.drop_drop]
 simp[h64]
theorem torn_bad{q:List UInt8}(h64:q.length=64)(ok:sumOk q):¬ goodP (tornL q):=by
 intro g
 have g':=goodP_sumOk g
 unfold sumOk at g' ok
 rw[torn_take h64,torn_drop h64,ok]at g'
 have hx:=xorL_self_diff (q.take 60) tornM (by simp[tornM,h64])
 unfold crcN at g'
 rw[hx,leB_xor55]at g'
 have e:=leB_inj (BitVec.isLt _) (BitVec.isLt _) g'
 have e2:=BitVec.eq_of_toNat_eq e
 have:crcV (q.take 60) ^^^ (crcV (q.take 60) ^^^ 0x55555555#32)=crcV (q.take 60) ^^^ (crcV (q.take 60) ^^^ creg 0#32 tornM):=by rw[e2]
 rw[bxx,bxx]at this
 exact tornM_ne this.symm
structure IsB(l:List (List UInt8))(i num epoch:Nat)(T:List TxD):Prop where
 lt:i<l.length
 check:CheckP num T
 hep:epoch<2 ^ 32
 rows:l.take (i+1)=encB num epoch T
theorem leN_inj:∀ (a b:List UInt8),a.length=b.length→leN a=leN b→a=b
 | [],[],_,_=>rfl
 | x::a,y::b,hl,h=>by
   simp only[leN]at h
   have h1:=u8lt x
   have h2:=u8lt y
   have hx:x.toNat=y.toNat:=by omega
   have:=leN_inj a b (by simpa using hl) (by omega)
   rw[this,UInt8.toNat_inj.1 hx]
theorem leB_leN(l:List UInt8):leB l.length (leN l)=l:=by
 apply leN_inj
 ·exact leB_length _ _
 ·rw[leN_leB,Nat.mod_eq_of_lt (leN_lt l)]
theorem range_getD(bs:List UInt8)(o n:Nat)(h:o+n≤bs.length):(List.range n).map (fun k=>bs.getD (o+k) 0)=(bs.drop o).take n:=by
 apply List.ext_getElem
 ·simp;omega
 ·intro k h1 h2
  simp only[List.length_map,List.length_range]at h1
  simp only[List.getElem_map,List.getElem_range,List.getElem_take,List.getElem_drop,List.getD_eq_getElem?_getD]
  rw[List.getElem?_eq_getElem (by omega)];rfl
theorem range_pairs(f:Nat→UInt8)(n:Nat):(List.range n).flatMap (fun k=>[f (2*k),f (2*k+1)])=(List.range (2*n)).map f:=by
 induction n with
 | zero=>rfl
 | succ n ih=>rw[List.range_succ,List.flatMap_append,ih,show 2*(n+1)=2*n+1+1 by omega,List.range_succ,List.range_succ,List.map_append,List.map_append];simp
theorem ofNat_toNat8(x:UInt8):UInt8.ofNat x.toNat=x:=by apply UInt8.toNat_inj.1;rw[UInt8.toNat_ofNat'];have:=u8lt x;omega
theorem leB2_st(bs:List UInt8)(j:Nat):leB 2 (bSt bs j) = [bs.getD (9+2*j) 0,bs.getD (9+(2*j+1)) 0]:=by
 have h1:=u8lt (bs.getD (9+2*j) 0)
 have h2:=u8lt (bs.getD (9+(2*j+1)) 0)
 rw[leB2]
 have e:bSt bs j=(bs.getD (9+2*j) 0).toNat+256*(bs.getD (9+(2*j+1)) 0).toNat:=rfl
 rw[e]
 have a1:UInt8.ofNat ((bs.getD (9+2*j) 0).toNat+256*(bs.getD (9+(2*j+1)) 0).toNat)=bs.getD (9+2*j) 0:=by apply UInt8.toNat_inj.1;rw[UInt8.toNat_ofNat'];omega
 have a2:UInt8.ofNat (((bs.getD (9+2*j) 0).toNat+256*(bs.getD (9+(2*j+1)) 0).toNat) / 256)=bs.getD (9+(2*j+1)) 0:=by apply UInt8.toNat_inj.1;rw[UInt8.toNat_ofNat'];omega
 rw[a1,a2]
theorem TOf_all(bs:List UInt8)(P:List PutD)(n:Nat):allPuts (TOf bs P n)=P.take (offS bs n):=by
 induction n with
 | zero=>simp[TOf,allPuts,offS]
 | succ n ih=>
   have:allPuts (TOf bs P (n+1))=allPuts (TOf bs P n)++(P.drop (offS bs n)).take (bCt bs n):=by rw[TOf_succ];simp[allPuts]
   rw[this,ih]
   simp only[offS]
   rw[List.take_add]
theorem dec_sound{l:List (List UInt8)}{i:Nat}(hi:i<l.length)(hd:∀ k,k<i→dataOk l k)(hs:sameOk l i)(h2:dK (rwL l i)=2)(hlb:dL (rwL l i)=(putsOf l i).length)(m:MadeP (dS (rwL l i):Int) (dB (rwL l i)) (putsOf l i)) :
 IsB l i (dS (rwL l i)) (dE (rwL l i)) (TOf (dB (rwL l i)) (putsOf l i) (bN (dB (rwL l i)))):=by
 refine⟨hi,m.check,(dlt _).2.2.1,?_⟩
 generalize hbs:dB (rwL l i)=bs at *
 generalize hP:putsOf l i=P at *
 have hn:=m.check.len
 rw[TOf_len]at hn
 have hall:allPuts (TOf bs P (bN bs))=P:=by rw[TOf_all,m.off,List.take_length]
 have htm0:tm (TOf bs P (bN bs)) 0=(bFirst bs:Int):=by rw[TOf_tm _ _ _ _ (by omega)];simp[tmS,m.first]
 have hle:=(m.check.order 0 (by rw[TOf_len];omega)).2.1
 have hF:bFirst bs=leN (bs.take 8):=by
  rw[htm0]at hle
  unfold bFirst at hle ⊢;omega
 have hlen:=m.len
 have hbody:bodyB (TOf bs P (bN bs))=bs:=by
  unfold bodyB head9
  rw[TOf_len,htm0,Int.toNat_natCast,hF]
  have a1:leB 8 (leN (bs.take 8))=bs.take 8:=by
   have:=leB_leN (bs.take 8)
   rwa[show(bs.take 8).length=8 by simp;omega]at this
  have a2:[UInt8.ofNat (bN bs)]=(bs.drop 8).take 1:=by
   have:=range_getD bs 8 1 (by omega)
   rw[← this]
   show [UInt8.ofNat (bs.getD 8 0).toNat] = [bs.getD (8+0) 0]
   rw[ofNat_toNat8]
  have a3:stepsB (TOf bs P (bN bs)) (bN bs)=(bs.drop 9).take (2*bN bs):=by
   rw[← range_getD bs 9 (2*bN bs) (by omega),← range_pairs]
   unfold stepsB
   rw[List.flatMap_def,List.flatMap_def]
   congr 1
   refine List.map_congr_left fun k hk=>?_
   have hk:k<bN bs:=by simpa using hk
   rw[← leB2_st]
   congr 1
   unfold stepN lastT
   by_cases e:k=0
   ·subst e;rw[if_pos rfl,m.first];simp
   ·rw[if_neg e,TOf_tm _ _ _ _ hk,TOf_tm _ _ _ _ (by omega)]
    obtain⟨k',rfl⟩:∃ k',k=k'+1:=⟨k-1,by omega⟩
    simp only[tmS,Nat.add_sub_cancel];omega
  have a4:cntsB (TOf bs P (bN bs)) (bN bs)=bs.drop (9+2*bN bs):=by
   have:=range_getD bs (9+2*bN bs) (bN bs) (by omega)
   rw[List.take_of_length_le (by simp;omega)]at this
   rw[← this]
   unfold cntsB
   refine List.map_congr_left fun k hk=>?_
   have hk:k<bN bs:=by simpa using hk
   rw[TOf_pt _ _ _ _ hk]
   have ho:=offS_mono bs (show k+1≤bN bs by omega)
   rw[m.off]at ho
   have hl:((P.drop (offS bs k)).take (bCt bs k)).length=bCt bs k:=by simp only[offS]at ho;simp;omega
   rw[hl];unfold bCt;rw[ofNat_toNat8]
  rw[a1,a2,a3,a4]
  have b1:bs.take 8++(bs.drop 8).take 1=bs.take 9:=by rw[← List.take_add]
  have b2:bs.take 9++(bs.drop 9).take (2*bN bs)=bs.take (9+2*bN bs):=by rw[← List.take_add]
  rw[b1,b2,List.take_append_drop]
 unfold encB
 rw[hall,hbody]
 have hPl:P.length=i:=by rw[← hP];simp[putsOf];omega
 rw[List.take_succ_eq_append_getElem hi]
 have hgi:rwL l i=l[i]:=by simp[rwL,hi]
 congr 1
 ·rw[← hP]
  unfold putsOf
  rw[List.map_map]
  apply List.ext_getElem
  ·simp
  ·intro k h1 h2'
   have hk:k<i:=by simp at h1;omega
   have hkl:k<l.length:=by omega
   have hgk:rwL l k=l[k]:=by simp[rwL,hkl]
   obtain⟨g,gE,gS,gK⟩:=hd k hk
   rw[hgk]at g gE gS gK
   simp only[List.getElem_take,List.getElem_map,Function.comp]
   have:=g.2.2.2
   rw[gK,gE,gS,← hs.2.1,← hs.2.2]at this
   show _=encOf (preL 1 (dE (rwL l i)) (dS (rwL l i)) ((dL l[k]:Int)).toNat (dB l[k]))
   rw[Int.toNat_natCast];exact this.symm
 ·have:=hs.1.2.2.2
  rw[h2,hlb,hbs]at this
  rw[this,hgi]
theorem encB_put{num epoch:Nat}{T:List TxD}(c:CheckP num T)(he:epoch<2 ^ 32){p:PutD}(hp:p∈allPuts T):good (putB epoch num p)∧dK (putB epoch num p)=1∧dE (putB epoch num p)=epoch∧dS (putB epoch num p)=num∧((dL (putB epoch num p):Int),dB (putB epoch num p))=p:=by
 obtain⟨t,ht,hpt⟩:=List.mem_flatMap.1 hp
 obtain⟨j,hj,rfl⟩:=List.mem_iff_getElem.1 ht
 rw[pt_get hj]at hpt
 obtain⟨p1,p2,p3⟩:=(c.each j hj).2.2 p hpt
 have hnum:=c.num
 obtain⟨g,gk,ge,gs,gl,gb⟩:=encL_good (k:=1) (e:=epoch) (s:=num) (l:=p.1.toNat) (bs:=p.2) ⟨by omega,by omega,by omega,by omega⟩ (by omega)
 refine⟨⟨encOf_length (by rw[preL_length];omega),g⟩,gk,ge,gs,?_⟩
 show((dL (encOf (preL 1 epoch num p.1.toNat p.2)):Int),dB (encOf (preL 1 epoch num p.1.toNat p.2)))=p
 rw[gl,gb]
 refine Prod.ext ?_ rfl
 show(p.1.toNat:Int)=p.1
 omega
theorem bodyB_get8{T:List TxD}(hT:T.length<256):bN (bodyB T)=T.length:=by
 unfold bN bodyB head9
 have:((leB 8 (tm T 0).toNat ++ [UInt8.ofNat T.length]++stepsB T T.length++cntsB T T.length).getD 8 0)=UInt8.ofNat T.length:=by
  rw[List.append_assoc,List.append_assoc,List.getD_eq_getElem?_getD,List.getElem?_append_right (by rw[leB_length];omega),leB_length];rfl
 rw[this,UInt8.toNat_ofNat'];omega
theorem bodyB_first(T:List TxD):(bodyB T).take 8=leB 8 (tm T 0).toNat:=by
 unfold bodyB head9
 rw[List.append_assoc,List.append_assoc]
 exact List.take_left' (leB_length _ _)
theorem range_split(j q:Nat):List.range (j+(q+1))=List.range j++(j::List.range' (j+1) q):=by
 have h1:List.range' 0 j++List.range' (0+j) (q+1)=List.range' 0 (j+(q+1)):=List.range'_append_1
 rw[List.range_eq_range',List.range_eq_range',← h1,Nat.zero_add,List.range'_succ]
theorem bodyB_st{T:List TxD}{j:Nat}(hj:j<T.length)(hs:stepN T j<65536):bSt (bodyB T) j=stepN T j:=by
 have key:∀ b,b<2→(bodyB T).getD (9+2*j+b) 0=(leB 2 (stepN T j)).getD b 0:=by
  intro b hb
  have h1:(bodyB T)=(head9 T++stepsB T j)++(leB 2 (stepN T j)++((List.range' (j+1) (T.length-(j+1))).flatMap (fun k=>leB 2 (stepN T k))++cntsB T T.length)):=by
   unfold bodyB
   have:stepsB T T.length=stepsB T j++(leB 2 (stepN T j)++(List.range' (j+1) (T.length-(j+1))).flatMap (fun k=>leB 2 (stepN T k))):=by
    unfold stepsB
    have:List.range T.length=List.range j++(j::List.range' (j+1) (T.length-(j+1))):=by
     have:=range_split j (T.length-(j+1))
     rwa[show j+(T.length-(j+1)+1)=T.length by omega]at this
    rw[this,List.flatMap_append,List.flatMap_cons]
   rw[this]
   simp only[List.append_assoc]
  rw[h1,List.getD_eq_getElem?_getD,List.getElem?_append_right (by rw[List.length_append,head9_len,stepsB_len];omega),List.length_append,head9_len,stepsB_len,show 9+2*j+b-(9+2*j)=b by omega,List.getElem?_append_left (by rw[leB_length];omega),List.getD_eq_getElem?_getD]
 have k0:=key 0 (by omega)
 have k1:=key 1 (by omega)
 unfold bSt
 rw[show 9+2*j=9+2*j+0 by omega,k0,k1,leB2]
 simp only[List.getD_eq_getElem?_getD,List.getElem?_cons_zero,List.getElem?_cons_succ,Option.getD_some,UInt8.toNat_ofNat']
 omega
theorem bodyB_ct{T:List TxD}(hT:T.length<256){j:Nat}(hj:j<T.length)(hs:(pt T j).length<256):bCt (bodyB T) j=(pt T j).length:=by
 unfold bCt
 rw[bodyB_get8 hT]
 have:(bodyB T).getD (9+2*T.length+j) 0=UInt8.ofNat (pt T j).length:=by
  unfold bodyB
  rw[List.getD_eq_getElem?_getD,List.getElem?_append_right (by rw[List.length_append,head9_len,stepsB_len];omega),List.length_append,head9_len,stepsB_len,show 9+2*T.length+j-(9+2*T.length)=j by omega]
  simp[cntsB,hj]
 rw[this,UInt8.toNat_ofNat'];omega
theorem dec_complete{l:List (List UInt8)}{i num epoch:Nat}{T:List TxD}(b:IsB l i num epoch T) :
 (∀ k,k<i→dataOk l k)∧sameOk l i∧dK (rwL l i)=2∧dL (rwL l i)=(putsOf l i).length∧dS (rwL l i)=num∧dE (rwL l i)=epoch∧MadeP (num:Int) (dB (rwL l i)) (putsOf l i)∧TOf (dB (rwL l i)) (putsOf l i) (bN (dB (rwL l i)))=T:=by
 obtain⟨hi,c,he,hrows⟩:=b
 have hnum:=c.num
 have hT:=c.len
 have hblk:=c.blocks
 have hlen:i+1=blocksN T:=by
  have:=congrArg List.length hrows
  rw[encB_len,List.length_take]at this
  omega
 have hall:=allPuts_len T
 have hia:i=(allPuts T).length:=by omega
 have row:∀ k (hk:k<i),rwL l k=putB epoch num ((allPuts T)[k]'(by omega)):=fun k hk=>by
  have h1:(l.take (i+1))[k]? =(encB num epoch T)[k]?:=by rw[hrows]
  rw[List.getElem?_take,if_pos (by omega),encB,List.getElem?_append_left (by simp;omega),List.getElem?_map,List.getElem?_eq_getElem (show k<(allPuts T).length by omega)]at h1
  unfold rwL
  rw[List.getD_eq_getElem?_getD,h1];rfl
 have rowi:rwL l i=encOf (preL 2 epoch num (allPuts T).length (bodyB T)):=by
  have h1:(l.take (i+1))[i]? =(encB num epoch T)[i]?:=by rw[hrows]
  rw[List.getElem?_take,if_pos (by omega),encB,List.getElem?_append_right (by simp;omega)]at h1
  unfold rwL
  rw[List.getD_eq_getElem?_getD,h1]
  simp[hia]
 have hbl:=bodyB_len T
 obtain⟨g,gk,ge,gs,gl,gb⟩:=encL_good (k:=2) (e:=epoch) (s:=num) (l:=(allPuts T).length) (bs:=bodyB T) ⟨by omega,by omega,by omega,by omega⟩ (by omega)
 rw[← rowi]at g gk ge gs gl gb
 have g64:(rwL l i).length=64:=by rw[rowi];exact encOf_length (by rw[preL_length];omega)
 have facts:∀ k (hk:k<i),good (rwL l k)∧dK (rwL l k)=1∧dE (rwL l k)=epoch∧dS (rwL l k)=num∧((dL (rwL l k):Int),dB (rwL l k))=(allPuts T)[k]'(by omega):=fun k hk=>by
  rw[row k hk]
  exact encB_put c he (List.getElem_mem _)
 have e0:dE (rwL l 0)=epoch∧dS (rwL l 0)=num:=by
  rcases Nat.eq_zero_or_pos i with h0 | h0
  ·rw[h0]at ge gs;exact⟨ge,gs⟩
  ·have:=facts 0 h0;exact⟨this.2.2.1,this.2.2.2.1⟩
 have hputs:putsOf l i=allPuts T:=by
  unfold putsOf
  apply List.ext_getElem
  ·simp;omega
  ·intro k h1 h2
   have hk:k<i:=by simp at h1;omega
   have:=(facts k hk).2.2.2.2
   simp only[List.getElem_map,List.getElem_take]
   rw[← this]
   simp[rwL,show k<l.length by omega]
 have hT256:T.length<256:=by omega
 have hstep:∀ j,j<T.length→bSt (bodyB T) j=stepN T j:=fun j hj=>by
  have:=lastT_step c hj
  exact bodyB_st hj (by unfold stepN;omega)
 have hcnt:∀ j,j<T.length→bCt (bodyB T) j=(pt T j).length:=fun j hj=>bodyB_ct hT256 hj (by have:=(c.each j hj).2.1;omega)
 have hF:bFirst (bodyB T)=(tm T 0).toNat:=by
  have h1:0<tm T 0:=prev_le c.order (by omega)
  have h2:=(c.order 0 (by omega)).2.1
  unfold bFirst
  rw[bodyB_first,leN_leB,Nat.mod_eq_of_lt (by omega)];omega
 have htms:∀ j,j<T.length→(tmS (bodyB T) (j+1):Int)=tm T j:=by
  intro j
  induction j with
  | zero=>
    intro hj
    have h1:0<tm T 0:=prev_le c.order hj
    simp only[tmS,hF,hstep 0 hj,stepN,lastT,if_true];omega
  | succ j ih=>
    intro hj
    have h1:=ih (by omega)
    have h2:=lastT_step c hj
    have h3:lastT T (j+1)=tm T j:=by simp[lastT]
    rw[tmS,hstep _ hj]
    unfold stepN
    rw[h3]at h2 ⊢
    omega
 have hoff:∀ j,j≤T.length→offS (bodyB T) j=(allPuts (T.take j)).length:=by
  intro j
  induction j with
  | zero=>intro _;simp[offS,allPuts]
  | succ j ih=>intro hj;rw[offS,ih (by omega),hcnt j (by omega),allPuts_take (by omega),List.length_append]
 have hTOf:TOf (bodyB T) (allPuts T) T.length=T:=by
  apply List.ext_getElem
  ·rw[TOf_len]
  ·intro j h1 h2
   have hj:j<T.length:=h2
   simp only[TOf,List.getElem_map,List.getElem_range]
   refine Prod.ext ?_ ?_
   ·show(tmS (bodyB T) (j+1):Int)=T[j].1
    rw[htms j hj,tm_get hj]
   ·show((allPuts T).drop (offS (bodyB T) j)).take (bCt (bodyB T) j)=T[j].2
    rw[hoff j (by omega),hcnt j hj,pt_get hj]
    have:allPuts T=allPuts (T.take j)++(pt T j++allPuts (T.drop (j+1))):=by
     conv=>lhs;rw[← List.take_append_drop j T,List.drop_eq_getElem_cons hj]
     unfold allPuts
     rw[List.flatMap_append,List.flatMap_cons,pt_get hj]
    rw[this,List.drop_left' rfl,List.take_left' rfl]
 rw[hputs,gb,bodyB_get8 hT256,hTOf]
 refine⟨fun k hk=>⟨(facts k hk).1,by rw[(facts k hk).2.2.1,e0.1],by rw[(facts k hk).2.2.2.1,e0.2],(facts k hk).2.1⟩,⟨⟨g64,g⟩,by rw[ge,e0.1],by rw[gs,e0.2]⟩,gk,gl,gs,ge,⟨?_,?_,?_,?_⟩,rfl⟩
 ·rw[bodyB_get8 hT256];exact hbl
 ·rw[hstep 0 (by omega)];simp[stepN,lastT]
 ·rw[bodyB_get8 hT256,hoff _ (Nat.le_refl _),List.take_length]
 ·rw[bodyB_get8 hT256,hTOf];exact c
end Go.Proofs.YtdpdkpfnfllipaaGreatDoor
