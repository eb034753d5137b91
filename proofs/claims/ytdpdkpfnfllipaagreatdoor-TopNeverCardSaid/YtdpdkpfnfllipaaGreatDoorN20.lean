/- A part of the proof, no condition. -/
import Derived.Test.YtdpdkpfnfllipaaGreatDoorN19
set_option linter.unusedVariables false
set_option linter.unusedSimpArgs false
namespace Go.Proofs.YtdpdkpfnfllipaaGreatDoor
def CallEx(o0:Int)(P:List PutD)(c:CSl)(X:StD)(bg:List BgD)(ev:Int)(i:Nat)(b:BgD)(okb:Bool)(X':StD)(bg':List BgD):Prop:=
 ∀ (j:Nat) (tx:TxS),b.h=j+1→X.D.txs[j]? = some tx →
   (o0=3→tx.state=1→tx.P = [] →∀ a l,P = [(a,l)]→0≤a∧a<258→l.length=40→okb=true∧bg'=bg∧X' = { X with D:=X.D.set j { tx with P:=[(a,l)] } })∧
   (o0=4→c.asked=false→tx.state=1→tx.P ≠ []→X.D.read=false→X.D.last=0→X.D.queue = []→X.D.given<1099511627776→okb=false∧bg'=bg∧X' = { X with D:={ X.D with txs:=X.D.txs.set j { tx with state:=2,time:=X.D.given+1 },queue:=X.D.queue ++ [j+1],given:=X.D.given+1 } })∧
   (o0=4→c.asked=true→tx.state=3→okb=true∧X'=X∧bg'=bg.set i { b with to_:=ev })
section
variable{G:Gh}{h:Hp}{M N sc:Nat}{X:StD}{cl:List CSl}{bg:List BgD}{na base:Nat}{ev:Int}{db sb:Nat}{all:Sl}{bb:Nat→Nat}
theorem SdIn.inj(x:SdIn G h M N sc X cl bg na ev db sb all bb){i j:Nat}{b b':BgD}(hb:bg[i]? = some b)(hb':bg[j]? = some b')(e:bb i=bb j):i=j:=by
 have h1:=(x.beg i b hb).kd
 rw[e,(x.beg j b' hb').kd]at h1
 injection h1 with h1
 exact h1.symm
theorem do_mid{W:Int→List UInt8→Prop}{G0:Gh}{h0:Hp}(y:To sStep G0 h0 G h)(x:SdIn G h M N sc X cl bg na ev db sb all bb)(o:SdOk W N X bg base)(hw:G.W=W)(hM:M+16≤1000000){k:Nat}{c:CSl}(hc:cl[k]? = some c)
 {lo lr:Nat} {o0 o1 o2 o3:Int} {o4:Sl} {P:List PutD} (sp:SlP G o4 P) (hP:PutsB P) {a0 a2:Int} (ro:Row h lo (blkV o0 o1 o2 o3 o4)) (kr:G.k lr=.one 30) (rr:Row h lr (blkV a0 0 a2 0 Sl.nil)) (hlr:h0.size≤lr) (hne:lo≠lr)
 {cp:Option Addr} (hcp:cp=none ∨∃ (i:Nat) (b:BgD),bg[i]? = some b∧b.h≠0∧cp=some ⟨bb i,0,none⟩) {KT:Int→Int→Int→Int→Sl→Hp→Prop} {KB:Int→Int→Int→Int→Sl→Bool→Hp→Prop}
 (hT:∀ (h':Hp) (b0 b1 b2 b3:Int),cp=none→To sStep G0 h0 G h'→SdIn G h' M N sc X cl bg na ev db sb all bb→KT b0 b1 b2 b3 Sl.nil h')
 (hB:∀ (G':Gh) (h':Hp) (X':StD) (bg':List BgD) (okb:Bool) (b0 b1 b2 b3:Int) (s:Sl) (l:List UInt8) (i:Nat) (b:BgD),bg[i]? = some b→b.h≠0→cp=some ⟨bb i,0,none⟩→To sStep G0 h0 G' h'→G'.W=W→SdIn G' h' (M+16) N sc X' cl bg' na ev db sb all bb→SdOk W N X' bg' base→X'.dv=X.dv→bg'.length=bg.length→SlB G' s l→l.length≤1000→CallEx o0 P c X bg ev i b okb X' bg'→KB b0 b1 b2 b3 s okb h') :
 IfB (isNone? cp) (StOk h ((⟨lr,0,none⟩:Addr).add 1)∧
     Lt (hset h ((⟨lr,0,none⟩:Addr).add 1) (.int .i64 (5:Int))) fun vh6=>
     ∃ c17:Int,∃ c18:Int,∃ c19:Int,∃ c20:Int,∃ c21:Sl,hY vh6 ⟨lr,0,none⟩=some (.int .i64 c17)∧hY vh6 ((⟨lr,0,none⟩:Addr).add 1)=some (.int .i64 c18)∧hY vh6 ((⟨lr,0,none⟩:Addr).add 2)=some (.int .i64 c19)∧hY vh6 ((⟨lr,0,none⟩:Addr).add 3)=some (.int .i64 c20)∧hY vh6 ((⟨lr,0,none⟩:Addr).add 4)=some (.slice c21.base c21.len c21.cap)∧
     stCells ⟨lr,0,none⟩ 0 [.int .i64 c17,.int .i64 c18,.int .i64 c19,.int .i64 c20,.slice c21.base c21.len c21.cap] vh6 fun vh7=>
     ∃ x5:Int,∃ x6:Int,∃ x7:Int,∃ x8:Int,∃ x9:Sl,hY vh7 ⟨lr,0,none⟩=some (.int .i64 x5)∧hY vh7 ((⟨lr,0,none⟩:Addr).add 1)=some (.int .i64 x6)∧hY vh7 ((⟨lr,0,none⟩:Addr).add 2)=some (.int .i64 x7)∧hY vh7 ((⟨lr,0,none⟩:Addr).add 3)=some (.int .i64 x8)∧hY vh7 ((⟨lr,0,none⟩:Addr).add 4)=some (.slice x9.base x9.len x9.cap)∧
     KT x5 x6 x7 x8 x9 vh7)
  (∃ c22:Int,∃ c23:Int,∃ c24:Int,∃ c25:Int,∃ c26:Sl,hY h ⟨lo,0,none⟩=some (.int .i64 c22)∧hY h ((⟨lo,0,none⟩:Addr).add 1)=some (.int .i64 c23)∧hY h ((⟨lo,0,none⟩:Addr).add 2)=some (.int .i64 c24)∧hY h ((⟨lo,0,none⟩:Addr).add 3)=some (.int .i64 c25)∧hY h ((⟨lo,0,none⟩:Addr).add 4)=some (.slice c26.base c26.len c26.cap)∧
   ∃ c27:Int,∃ c28:Int,∃ c29:Int,∃ c30:Int,∃ c31:Sl,hY h ⟨lr,0,none⟩=some (.int .i64 c27)∧hY h ((⟨lr,0,none⟩:Addr).add 1)=some (.int .i64 c28)∧hY h ((⟨lr,0,none⟩:Addr).add 2)=some (.int .i64 c29)∧hY h ((⟨lr,0,none⟩:Addr).add 3)=some (.int .i64 c30)∧hY h ((⟨lr,0,none⟩:Addr).add 4)=some (.slice c31.base c31.len c31.cap)∧
   HC Tryz.prog 88 #[pv sc,.pointer (some (clA sc k)),.pointer cp,.agg #[.int .i64 c22,.int .i64 c23,.int .i64 c24,.int .i64 c25,.slice c26.base c26.len c26.cap],.agg #[.int .i64 c27,.int .i64 c28,.int .i64 c29,.int .i64 c30,.slice c31.base c31.len c31.cap]] h fun r2 vh8=>
   ∃ c32:Int,∃ c33:Int,∃ c34:Int,∃ c35:Int,∃ c36:Sl,∃ c37:Bool,r2=.tuple #[.agg #[.int .i64 c32,.int .i64 c33,.int .i64 c34,.int .i64 c35,.slice c36.base c36.len c36.cap],.bool c37]∧
   stCells ⟨lr,0,none⟩ 0 [.int .i64 c32,.int .i64 c33,.int .i64 c34,.int .i64 c35,.slice c36.base c36.len c36.cap] vh8 fun vh9=>
   ∃ x10:Int,∃ x11:Int,∃ x12:Int,∃ x13:Int,∃ x14:Sl,hY vh9 ⟨lr,0,none⟩=some (.int .i64 x10)∧hY vh9 ((⟨lr,0,none⟩:Addr).add 1)=some (.int .i64 x11)∧hY vh9 ((⟨lr,0,none⟩:Addr).add 2)=some (.int .i64 x12)∧hY vh9 ((⟨lr,0,none⟩:Addr).add 3)=some (.int .i64 x13)∧hY vh9 ((⟨lr,0,none⟩:Addr).add 4)=some (.slice x14.base x14.len x14.cap)∧
   KB x10 x11 x12 x13 x14 c37 vh9):=by
 subst hw
 rcases hcp with rfl | ⟨i,b,hb,hnz,rfl⟩
 ·obtain⟨ok1,b1,y1,r1⟩:=locSet y.ht kr rr (i:=1) (by simp[blkV]) (.int .i64 (5:Int))
  have r1:Row _ lr (blkV a0 5 a2 0 Sl.nil):=r1
  have x1:=x.loc y1
  exact .yes rfl ⟨ok1,retA y1.ht r1 kr r1 rfl fun h2 b2 y2=>hT h2 _ _ _ _ rfl (b2.new (b1.new y hlr) hlr) (x1.loc y2)⟩
 ·refine .no rfl (ro.get5 (rr.get5 ((dCall_spec y.ht x o hM hc hb hnz o0 o1 o2 o3 sp hP a0 0 a2 0).mono ?_)))
  rintro _ h2 ⟨G2,X2,bg2,okb,b0,b1,b2,b3,s,l,rfl,y2,w2,x2,o2,hdv,hlen,sl,hl,hex⟩
  have kr2:=y2.kd kr (by simp)
  have rr2:=y2.rowK rr kr (by simp[sStep,sSt])
  refine⟨b0,b1,b2,b3,s,okb,rfl,retZ y2.ht b0 b1 b2 b3 s kr2 rr2 rfl fun h3 b3' y3 _=>?_⟩
  exact hB G2 h3 X2 bg2 okb _ _ _ _ s l i b hb hnz rfl (b3'.new (y.trans y2) hlr) w2 (x2.loc y3) o2 hdv hlen sl hl hex
def DoEx(o0 o1:Int)(P:List PutD)(c:CSl)(X:StD)(bg:List BgD)(ev:Int)(okb:Bool)(X':StD)(bg':List BgD)(c':CSl):Prop:=
 (o0=1→(∀ (j:Nat) (t:TxS),X.D.txs[j]? = some t →¬ t.live)→okb=true∧X' = { X with D:=X.D.add }∧bg'=bg ++ [⟨X.D.txs.length+1,0,[],ev,0⟩]∧c'.L=c.L ++ [bg.length])∧
 (∀ (m i:Nat) (b:BgD),o0=3∨o0=4→o1=(m:Int)→c.L[m]? = some i→bg[i]? = some b→b.h≠0→CallEx o0 P c X bg ev i b okb X' bg'∧c'=c)
theorem SdOk.moreN{W:Int→List UInt8→Prop}{N':Nat}(o:SdOk W N X bg base)(h:N≤N'):SdOk W N' X bg base:=o.same h (o.sr.more h) rfl
theorem dDo_spec(t:HT G h)(x:SdIn G h M N sc X cl bg bg.length ev db sb all bb)(o:SdOk G.W N X bg base)(hN:N≤900000)(hM:M+16≤1000000){k:Nat}{c:CSl}(hc:cl[k]? = some c)(o0 o1 o2 o3:Int){o4:Sl}{P:List PutD}(sp:SlP G o4 P)(hP:PutsB P) :
 HC Tryz.prog 46 #[pv sc,.pointer (some (clA sc k)),.agg #[.int .i64 o0,.int .i64 o1,.int .i64 o2,.int .i64 o3,.slice o4.base o4.len o4.cap]] h fun r h'=>∃ (G':Gh) (X':StD) (c':CSl) (bg':List BgD) (all':Sl) (bb':Nat→Nat) (okb:Bool) (b0 b1 b2 b3:Int) (s:Sl) (l:List UInt8),
  r=.tuple #[.agg #[.int .i64 b0,.int .i64 b1,.int .i64 b2,.int .i64 b3,.slice s.base s.len s.cap],.bool okb]∧To sStep G h G' h'∧G'.W=G.W∧SdIn G' h' (M+16) (N+1) sc X' (cl.set k c') bg' bg'.length ev db sb all' bb'∧SdOk G.W (N+1) X' bg' base∧X'.dv=X.dv∧c'.ops=c.ops∧c'.asked=c.asked∧c'.ans=c.ans∧SlB G' s l∧l.length≤1000∧
  DoEx o0 o1 P c X bg ev okb X' bg' c':=by
 apply wc46
 unfold vc46
 intro h1 h2
 obtain⟨G2,y2,w2,ko,kr,ro,rr,x2⟩:=locTwo t x [.int .i64 o0,.int .i64 o1,.int .i64 o2,.int .i64 o3,.slice o4.base o4.len o4.cap] [.int .i64 (0:Int),.int .i64 (0:Int),.int .i64 (0:Int),.int .i64 (0:Int),.slice Sl.nil.base Sl.nil.len Sl.nil.cap] 58 62
 have e1:nw h=(⟨h.size,0,none⟩:Addr):=rfl
 have e2:nw h1=(⟨h.size+1,0,none⟩:Addr):=by show nw (alc h _ _)=_;unfold nw;rw[size_alc]
 rw[e1,e2]
 change To _ G h G2 h2 at y2
 change Row h2 _ _ at ro
 change Row h2 _ _ at rr
 change SdIn G2 h2 _ _ _ _ _ _ _ _ _ _ _ _ at x2
 clear_value h2
 clear e1 e2
 refine⟨_,ro.get0 rfl,_,ro.get rfl,?_⟩
 refine locPut (vs:=blkV o0 0 o1 0 Sl.nil) y2.ht kr rr rfl (blkV_ok _ _ _ _ _) fun h3 b3 y3 r3=>?_
 have x3:=x2.loc y3
 have ro:Row h3 h.size (blkV o0 o1 o2 o3 o4):=b3.row ro (by omega)
 have y03:To sStep G h G2 h3:=b3.new (y2.mono fun _ h=>h.elim) (by omega)
 have sp3:=sp.mono y2.le
 refine⟨_,ro.get0 rfl,IfB.eq (fun hk=>r3.get5 ?_) fun hk1=>?_⟩
 ·
  refine(dBegin_spec y3.ht x3 (by rw[w2];exact o) hN hc o0 0 o1 0 Sl.nil).mono ?_
  rintro _ h4 ⟨G4,X4,c4,bg4,all4,bb4,b1,b2,b3',rfl,y4,w4,x4,o4',hdv,h5,h6,h7,hex⟩
  have kr4:=y4.kd kr (by simp)
  have rr4:=y4.rowK r3 kr (by simp[sStep,sSt])
  rw[w2]at o4'
  refine⟨_,_,_,_,Sl.nil,rfl,retZ y4.ht o0 b1 b2 b3' Sl.nil kr4 rr4 rfl fun h8 b8 y8 _=>?_⟩
  refine⟨G4,X4,c4,bg4,all4,bb4,true,_,_,_,_,Sl.nil,[],rfl,b8.new (y03.trans y4) (by omega),w4.trans w2,(x4.loc y8).moreM b8.ht (by omega),o4',hdv,h5,h6,h7,SlB.nil _,by simp,fun _ hl=>?_,fun m i b hm=>by omega⟩
  obtain⟨p1,p2,p3⟩:=hex hl
  exact⟨rfl,p1,p2,p3⟩
 ·refine⟨_,ro.get rfl,(dAt_spec x3 hc o1).mono ?_⟩
  rintro rp h4 ⟨hh,hat⟩
  obtain rfl:=hh.symm
  obtain⟨cp,rfl,hcp,hnone⟩:∃ cp:Option Addr,rp=.pointer cp∧(cp=none ∨∃ (i:Nat) (b:BgD),bg[i]? = some b∧b.h≠0∧cp=some ⟨bb i,0,none⟩)∧(∀ (m i:Nat) (b:BgD),o1=(m:Int)→c.L[m]? = some i→bg[i]? = some b→b.h≠0→cp=some ⟨bb i,0,none⟩):=by
   rcases hat with ⟨rfl,hno⟩ | ⟨m,i,b,hm,h1,h2,h3,rfl⟩
   ·exact⟨none,rfl,.inl rfl,fun m i b h1 h2 h3 h4=>absurd ⟨m,i,b,h1,h2,h3,h4⟩ hno⟩
   ·refine⟨_,rfl,.inr ⟨i,b,h2,h3,rfl⟩,fun m' i' b' g1 g2 g3 g4=>?_⟩
    obtain rfl:m'=m:=by omega
    rw[h1]at g2;cases g2;rfl
  have x4:SdIn G2 h3 (M+16) (N+1) sc X (cl.set k c) bg bg.length ev db sb all bb:=by rw[set_same hc];exact(x3.moreM y3.ht (by omega)).moreN (by omega)
  have o4':SdOk G.W (N+1) X bg base:=o.moreN (by omega)
  have eT:∀ (h':Hp) (b0 b1 b2 b3:Int),cp=none→To sStep G h G2 h'→SdIn G2 h' M N sc X cl bg bg.length ev db sb all bb →∃ (G':Gh) (X':StD) (c':CSl) (bg':List BgD) (all':Sl) (bb':Nat→Nat) (okb:Bool) (p0 p1 p2 p3:Int) (s:Sl) (l:List UInt8),
   Value.tuple #[.agg #[.int .i64 b0,.int .i64 b1,.int .i64 b2,.int .i64 b3,.slice Sl.nil.base Sl.nil.len Sl.nil.cap],.bool true]=.tuple #[.agg #[.int .i64 p0,.int .i64 p1,.int .i64 p2,.int .i64 p3,.slice s.base s.len s.cap],.bool okb]∧To sStep G h G' h'∧G'.W=G.W∧SdIn G' h' (M+16) (N+1) sc X' (cl.set k c') bg' bg'.length ev db sb all' bb'∧SdOk G.W (N+1) X' bg' base∧X'.dv=X.dv∧c'.ops=c.ops∧c'.asked=c.asked∧c'.ans=c.ans∧SlB G' s l∧l.length≤1000∧
   DoEx o0 o1 P c X bg ev okb X' bg' c':=fun h' b0 b1 b2 b3 hcn y' x'=>
   ⟨G2,X,c,bg,all,bb,true,_,_,_,_,Sl.nil,[],rfl,y',w2,by rw[set_same hc];exact(x'.moreM y'.ht (by omega)).moreN (by omega),o4',rfl,rfl,rfl,rfl,SlB.nil _,by simp,fun h=>absurd h hk1,fun m i b _ h1 h2 h3 h4=>by rw[hnone m i b h1 h2 h3 h4]at hcn;cases hcn⟩
  have eB:∀ (G':Gh) (h':Hp) (X':StD) (bg':List BgD) (okb:Bool) (b0 b1 b2 b3:Int) (s:Sl) (l:List UInt8) (i:Nat) (b:BgD),bg[i]? = some b→b.h≠0→cp=some ⟨bb i,0,none⟩→To sStep G h G' h'→G'.W=G.W→SdIn G' h' (M+16) N sc X' cl bg' bg.length ev db sb all bb→SdOk G.W N X' bg' base→X'.dv=X.dv→bg'.length=bg.length→SlB G' s l→l.length≤1000→CallEx o0 P c X bg ev i b okb X' bg' →∃ (G':Gh) (X':StD) (c':CSl) (bg':List BgD) (all':Sl) (bb':Nat→Nat) (okb':Bool) (p0 p1 p2 p3:Int) (s':Sl) (l:List UInt8),
   Value.tuple #[.agg #[.int .i64 b0,.int .i64 b1,.int .i64 b2,.int .i64 b3,.slice s.base s.len s.cap],.bool okb]=.tuple #[.agg #[.int .i64 p0,.int .i64 p1,.int .i64 p2,.int .i64 p3,.slice s'.base s'.len s'.cap],.bool okb']∧To sStep G h G' h'∧G'.W=G.W∧SdIn G' h' (M+16) (N+1) sc X' (cl.set k c') bg' bg'.length ev db sb all' bb'∧SdOk G.W (N+1) X' bg' base∧X'.dv=X.dv∧c'.ops=c.ops∧c'.asked=c.asked∧c'.ans=c.ans∧SlB G' s' l∧l.length≤1000∧
   DoEx o0 o1 P c X bg ev okb' X' bg' c':=fun G' h' X' bg' okb b0 b1 b2 b3 s l i b hb hnz hcps y' w' x' o' hdv hlen sl hl hex=>
   ⟨G',X',c,bg',all,bb,okb,_,_,_,_,s,l,rfl,y',w',by rw[set_same hc,hlen];exact x'.moreN (by omega),o'.moreN (by omega),hdv,rfl,rfl,rfl,sl,hl,fun h=>absurd h hk1,fun m i' b' _ h1 h2 h3 h4=>by
    have e:=hnone m i' b' h1 h2 h3 h4
    rw[hcps]at e
    have e:bb i=bb i':=by injection e with e;injection e
    obtain rfl:=x.inj hb h3 e
    rw[hb]at h3;cases h3
    exact⟨hex,rfl⟩⟩
  have mid:=fun {KT KB}=>do_mid (KT:=KT) (KB:=KB) (base:=base) (cp:=cp) (W:=G.W) y03 x3 o w2 hM hc sp3 hP ro kr r3 (by omega:h.size≤h.size+1) (by omega) hcp
  refine⟨cp,rfl,_,ro.get0 rfl,IfB.eq (fun _=>mid eT eB) fun _=>IfB.eq (fun _=>mid eT eB) fun hk3=>IfB.eq (fun _=>mid eT eB) fun hk4=>IfB.eq (fun _=>mid eT eB) fun _=>?_⟩
  obtain⟨ok1,b1,y1,r1⟩:=locSet y3.ht kr r3 (i:=1) (by simp[blkV]) (.int .i64 (1:Int))
  have r1:Row _ (h.size+1) (blkV o0 1 o1 0 Sl.nil):=r1
  have x1:=x3.loc y1
  refine⟨ok1,retA y1.ht r1 kr r1 rfl fun h5 b5 y5=>?_⟩
  have x5:=x1.loc y5
  exact⟨G2,X,c,bg,all,bb,true,_,_,_,_,Sl.nil,[],rfl,b5.new (b1.new y03 (by omega:h.size≤h.size+1)) (by omega),w2,by rw[set_same hc];exact(x5.moreM y5.ht (by omega)).moreN (by omega),o4',rfl,rfl,rfl,rfl,SlB.nil _,by simp,fun h=>absurd h hk1,fun m i b hm=>by omega⟩
end
section
variable{G:Gh}{h:Hp}{M N sc:Nat}{X:StD}{cl:List CSl}{bg:List BgD}{na base:Nat}{ev:Int}{db sb:Nat}{all:Sl}{bb:Nat→Nat}
theorem SdIn.cset2(t:HT G h)(x:SdIn G h M N sc X cl bg na ev db sb all bb){k:Nat}{c c1 c2:CSl}(hc:cl[k]? = some c){j1 j2:Nat}(hj1:j1<4)(hj2:j2<4){v1 v2:Value}(hv1:(clV c).set j1 v1=clV c1)(hv2:(clV c1).set j2 v2=clV c2)(hok:ClOk G h N k c2 bg.length bb) :
 StOk h ((clA sc k).add j1)∧StOk (hset h ((clA sc k).add j1) v1) ((clA sc k).add j2)∧To (fun k=>k=.one 1) G h G (hset (hset h ((clA sc k).add j1) v1) ((clA sc k).add j2) v2)∧SdIn G (hset (hset h ((clA sc k).add j1) v1) ((clA sc k).add j2) v2) M N sc X (cl.set k c2) bg na ev db sb all bb:=by
 have hk:=x.lt hc
 have hcl:=x.len
 rw[clA_add,clA_add]
 obtain⟨ok1,b1,r1⟩:=kset t x.kd (fun h=>h) x.row (i:=2+(k*4+j1)) (by rw[scV_len x.len];omega) v1
 rw[scV_set hj1 hc hv1]at r1
 obtain⟨ok2,b2,r2⟩:=kset b1.ht x.kd (fun h=>h) r1 (i:=2+(k*4+j2)) (by rw[scV_len (by simpa using x.len)];omega) v2
 rw[scV_set hj2 (List.getElem?_set_self (by omega)) hv2,List.set_set]at r2
 have y:To (fun k=>k=.one 1) G h G _:=(b1.trans b2).to (by rw[x.kd];exact⟨trivial,rfl⟩)
 refine⟨ok1,ok2,y,y.kd x.kd (by simp),r2,by simpa using x.len,x.st.to y (Nat.le_refl _) fun k hk e=>by subst e;exact sSc_not _ hk (by simp[sSc]),fun i d hd=>?_,x.all.to y (by simp),fun i b hb=>(x.beg i b hb).to y (by simp)⟩
 rw[List.getElem?_set]at hd
 by_cases e:k=i
 ·subst e
  rw[if_pos rfl]at hd
  split at hd
  ·injection hd with hd;subst hd
   exact hok.to y (Nat.le_refl _) (Nat.le_refl _) (fun _ _=>rfl) (by simp;omega)
  ·cases hd
 ·rw[if_neg e]at hd
  exact(x.cls i d hd).to y (Nat.le_refl _) (Nat.le_refl _) (fun _ _=>rfl) (by simp;omega)
theorem kept_spec(t:HT G h)(a0 a1 a2 a3:Int){a4:Sl}{l:List UInt8}(sl:SlB G a4 l)(hl:l.length≤1000000):HC Tryz.prog 47 #[.agg #[.int .i64 a0,.int .i64 a1,.int .i64 a2,.int .i64 a3,.slice a4.base a4.len a4.cap]] h fun r h'=>∃ (G':Gh) (s:Sl),r=.agg #[.int .i64 a0,.int .i64 a1,.int .i64 a2,.int .i64 a3,.slice s.base s.len s.cap]∧To (fun _=>False) G h G' h'∧G'.W=G.W∧SlB G' s l:=by
 apply wc47
 unfold vc47
 intro h1 h2
 obtain⟨G1,y1,w1,k1,r1⟩:=alcLoc t [.int .i64 a0,.int .i64 a1,.int .i64 a2,.int .i64 a3,.slice a4.base a4.len a4.cap] 62
 obtain⟨G2,y2,w2,k2,r2⟩:=alcLoc y1.ht [.int .i64 (0:Int),.int .i64 (0:Int),.int .i64 (0:Int),.int .i64 (0:Int),.slice Sl.nil.base Sl.nil.len Sl.nil.cap] 62
 have e1:nw h=(⟨h.size,0,none⟩:Addr):=rfl
 have e2:nw h1=(⟨h.size+1,0,none⟩:Addr):=by show nw (alc h _ _)=_;unfold nw;rw[size_alc]
 have s1:(alc h [.int .i64 a0,.int .i64 a1,.int .i64 a2,.int .i64 a3,.slice a4.base a4.len a4.cap] 62).size=h.size+1:=size_alc _ _ _
 rw[s1]at k2 r2
 have k1':=y2.kd k1 (by simp)
 have r1':=y2.rowK r1 k1 id
 rw[e1,e2]
 change Row h2 _ _ at r1'
 change Row h2 _ _ at r2
 have y02:=y1.trans y2
 change To _ G h G2 h2 at y02
 clear_value h2
 refine⟨a4,r1'.get rfl,(cloneB y02.ht (sl.mono y02.le) hl).mono ?_⟩
 rintro _ h3 ⟨u,G3,rfl,y3,sl3,w3⟩
 have k13:=y3.kd k1' (by simp)
 have k23:=y3.kd k2 (by simp)
 obtain⟨ok4,b4,y4,r4⟩:=locSet y3.ht k13 (y3.rowK r1' k1' id) (i:=4) (by simp) (.slice u.base u.len u.cap)
 have r4:Row _ h.size (blkV a0 a1 a2 a3 u):=r4
 have r24:=b4.row (y3.rowK r2 k2 id) (by omega)
 refine⟨u,rfl,ok4,retA y4.ht r4 k23 r24 rfl fun h5 b5 y5=>?_⟩
 exact⟨G3,u,rfl,b5.new (b4.new (y02.trans y3) (Nat.le_refl _)) (by omega),w3.trans (w2.trans w1),sl3⟩
def OpIs(G:Gh)(h:Hp)(s:Sl)(o0 o1:Int)(P:List PutD):Prop:=
 ∃ (ad:Addr) (ps:Sl),s.base=some ad∧hY h ad=some (.int .i64 o0)∧hY h (ad.add 1)=some (.int .i64 o1)∧hY h (ad.add 4)=some (.slice ps.base ps.len ps.cap)∧SlP G ps P
theorem SlP.uniq{s:Sl}{P P':List PutD}(x:SlP G s P)(x':SlP G s P'):P=P':=by
 obtain⟨h1,_,h3⟩:=x
 obtain⟨g1,_,g3⟩:=x'
 rcases h3 with rfl | ⟨b,L,hb,hk,rfl⟩
 ·exact(List.eq_nil_of_length_eq_zero (by rw[← g1,h1];rfl)).symm
 ·rcases g3 with rfl | ⟨b',L',hb',hk',rfl⟩
  ·exact List.eq_nil_of_length_eq_zero (by rw[← h1,g1];rfl)
  ·rw[hb]at hb';cases hb'
   rw[hk]at hk';cases hk';rfl
def StepEx(G:Gh)(h:Hp)(X:StD)(cl:List CSl)(bg:List BgD)(ev ev':Int)(k:Int)(X':StD)(cl':List CSl)(bg':List BgD):Prop:=
 ∀ (i:Nat) (c:CSl) (o0 o1:Int) (P:List PutD),k=((i+1:Nat):Int)→cl[i]? = some c→1≤c.ops.len→OpIs G h c.ops o0 o1 P →
   ev'=iAdd .i64 ev 1∧∃ (c' c'':CSl) (okb:Bool),DoEx o0 o1 P c X bg (iAdd .i64 ev 1) okb X' bg' c'∧cl'=cl.set i c''∧c''.L=c'.L∧(okb=true→c''.ops=cutSl c.ops (1:Int) (c.ops.len:Int) (c.ops.cap:Int) 5∧c''.asked=false)∧(okb=false→c''.ops=c.ops∧c''.asked=true)
theorem dStep_spec(t:HT G h)(x:SdIn G h M N sc X cl bg bg.length ev db sb all bb)(o:SdOk G.W N X bg base)(hN:N≤900000)(hM:M+16≤1000000)(k:Int) :
 HC Tryz.prog 24 #[pv sc,.int .i64 k] h fun r h'=>∃ (G':Gh) (X':StD) (cl':List CSl) (bg':List BgD) (all':Sl) (bb':Nat→Nat) (ev':Int) (b0 b1 b2 b3 e:Int) (s:Sl),
  r=.tuple #[.agg #[.int .i64 b0,.int .i64 b1,.int .i64 b2,.int .i64 b3,.slice s.base s.len s.cap],.int .i64 e]∧To sStep G h G' h'∧G'.W=G.W∧SdIn G' h' (M+16) (N+1) sc X' cl' bg' bg'.length ev' db sb all' bb'∧SdOk G.W (N+1) X' bg' base∧X'.dv=X.dv∧StepEx G h X cl bg ev ev' k X' cl' bg':=by
 apply wc24
 unfold vc24
 intro h1
 obtain⟨G1,y1,w1,kr,rr⟩:=alcLoc t [.int .i64 (0:Int),.int .i64 (0:Int),.int .i64 (0:Int),.int .i64 (0:Int),.slice Sl.nil.base Sl.nil.len Sl.nil.cap] 62
 change To _ G h G1 h1 at y1
 change Row h1 _ _ at rr
 have e1:nw h=(⟨h.size,0,none⟩:Addr):=rfl
 rw[e1]
 have s1:h1.size=h.size+1:=size_alc _ _ _
 have ext1:Ext h h1:=y1.toExt
 clear_value h1
 clear e1
 have x1:=x.pure y1
 have y01:To sStep G h G1 h1:=y1.mono fun _ h=>h.elim
 refine(dClient_spec x1 k).mono ?_
 rintro rc h2 ⟨hh,hcl⟩
 obtain rfl:=hh.symm
 rcases hcl with ⟨rfl,hno⟩ | ⟨i,c,rfl,hi,hc,rfl⟩
 ·refine⟨_,rfl,.yes rfl (retZ y1.ht 0 0 0 0 Sl.nil kr rr rfl fun h3 b3 y3 _=>?_)⟩
  exact⟨G1,X,cl,bg,all,bb,ev,_,_,_,_,1,Sl.nil,rfl,b3.new y01 (Nat.le_refl _),w1,((x1.loc y3).moreM b3.ht (by omega)).moreN (by omega),o.moreN (by omega),rfl,fun i c o0 o1 P hk hc=>by
   have:=x.lt hc;omega⟩
 obtain⟨he,ok2,y2,x2⟩:=x1.evt y1.ht (iAdd .i64 ev 1)
 have rr2:=y2.rowK rr kr (by simp)
 have y02:=y01.trans (y2.mono s1_step)
 refine⟨_,rfl,.no rfl ⟨_,rfl,_,he,_,rfl,ok2,_,rfl,c.ops,x2.cell0 hc,IfB.eq (fun h0=>?_) fun h0=>?_⟩⟩
 ·refine retZ y2.ht 0 0 0 0 Sl.nil kr rr2 rfl fun h3 b3 y3 _=>?_
  exact⟨G1,X,cl,bg,all,bb,_,_,_,_,_,14,Sl.nil,rfl,b3.new y02 (Nat.le_refl _),w1,((x2.loc y3).moreM b3.ht (by omega)).moreN (by omega),o.moreN (by omega),rfl,fun i' c' o0 o1 P hk hc' hlen=>by
   obtain rfl:i'=i:=by omega
   rw[hc]at hc';cases hc';omega⟩
 have hsz:=y02.size
 generalize hh3:hset h1 ((⟨sc,0,none⟩:Addr).add 35) (.int .i64 (iAdd .i64 ev 1))=h3 at *
 have ck:=x2.cls i c hc
 obtain⟨ad,vs,hadb,okv,hcell3⟩:=ck.ops.get y2.ht (i:=0) (by omega)
 obtain⟨o0,o1,o2,o3,o4,P,rfl,sp,hPB⟩:=okv
 have z0:ad.add ((0:Int).toNat*5)=ad:=Addr.add_zero ad
 have hcj:∀ j v,[Value.int .i64 o0,.int .i64 o1,.int .i64 o2,.int .i64 o3,.slice o4.base o4.len o4.cap][j]? = some v→hY h3 (ad.add j)=some v:=fun j v hv=>by
  have:=hcell3 j v hv
  rwa[show 0*(AK.ops 0).sz+j=j by omega]at this
 have hc0':hY h3 ad=some (.int .i64 o0):=by have:=hcj 0 _ rfl;rwa[Addr.add_zero]at this
 have ck0:=x.cls i c hc
 have keep0:h3[ad.block]? = h[ad.block]?:=by
  obtain⟨_,⟨hbn,_⟩ | ⟨b,oo,NN,hbb,hkb,_⟩⟩:=ck0.ops
  ·rw[hbn]at hadb;cases hadb
  ·rw[hbb]at hadb;cases hadb
   exact y02.fr b (t.dom b (by rw[hkb];simp)) (by rw[hkb];exact fun hh=>hh.2)
 refine⟨_,rfl,c.ops,x2.cell0 hc,ad,hadb,by omega,by omega,o0,o1,o2,o3,o4,by rw[z0];exact hc0',by rw[z0];exact hcj 1 _ rfl,by rw[z0];exact hcj 2 _ rfl,by rw[z0];exact hcj 3 _ rfl,by rw[z0];exact hcj 4 _ rfl,(dDo_spec y2.ht x2 (by rw[w1];exact o) hN hM hc o0 o1 o2 o3 sp hPB).mono ?_⟩
 rintro _ h5 ⟨G5,X5,c5,bg5,all5,bb5,okb,b0,b1,b2,b3,s,l,rfl,y5,w5,x5,o5,hdv,hops,hask,hans,sl5,hl5,hex⟩
 have hW5:G5.W=G.W:=w5.trans w1
 have hcl:cl.length=8:=x.len
 have hc5:(cl.set i c5)[i]? = some c5:=List.getElem?_set_self (by omega)
 have kr5:=y5.kd kr (by simp)
 have rr5:=y5.rowK rr2 kr (by simp[sStep,sSt])
 have y05:=y02.trans y5
 have s5:=y05.size
 have ck5:=x5.cls i c5 hc5
 rw[w1]at o5
 have exq:∀ {cl':List CSl} {c'':CSl},cl'=cl.set i c''→c''.L=c5.L→((okb=true→c''.ops=cutSl c.ops (1:Int) (c.ops.len:Int) (c.ops.cap:Int) 5∧c''.asked=false)∧(okb=false→c''.ops=c.ops∧c''.asked=true))→StepEx G h X cl bg ev (iAdd .i64 ev 1) ((i+1:Nat):Int) X5 cl' bg5:=by
  intro cl' c'' hcl' hL hq i' c' p0 p1 P' hk hc' _ hop
  obtain rfl:i'=i:=by omega
  rw[hc]at hc';cases hc'
  refine⟨rfl,c5,c'',okb,?_,hcl',hL,hq.1,hq.2⟩
  obtain⟨ad',ps,hb',h0',h1',h4',sp'⟩:=hop
  rw[hadb]at hb'
  cases hb'
  have q0:hY h3 ad=hY h ad:=hcell_eq keep0
  have q1:hY h3 (ad.add 1)=hY h (ad.add 1):=hcell_eq keep0
  have q4:hY h3 (ad.add 4)=hY h (ad.add 4):=hcell_eq keep0
  rw[h0',hc0']at q0
  rw[h1',hcj 1 _ rfl]at q1
  rw[h4',hcj 4 _ rfl]at q4
  injection q0 with q0
  injection q0 with _ q0
  injection q1 with q1
  injection q1 with _ q1
  injection q4 with q4
  injection q4 with qa qb qc
  have qs:o4=ps:=by cases o4;cases ps;simp only at qa qb qc;subst qa qb qc;rfl
  subst qs q0 q1
  have:=(sp'.mono y1.le).uniq sp
  subst this
  exact hex
 obtain⟨G6,y6,w6,k6,r6⟩:=alcLoc y5.ht [.int .i64 (0:Int),.int .i64 (0:Int),.int .i64 (0:Int),.int .i64 (0:Int),.slice Sl.nil.base Sl.nil.len Sl.nil.cap] 62
 refine⟨b0,b1,b2,b3,s,okb,rfl,?_⟩
 intro h6
 change To _ G5 h5 G6 h6 at y6
 change Row h6 _ _ at r6
 have e5:nw h5=(⟨h5.size,0,none⟩:Addr):=rfl
 rw[e5]
 clear_value h6
 have x6:=x5.pure y6
 refine locPut (vs:=blkV b0 b1 b2 b3 s) y6.ht k6 r6 rfl (blkV_ok _ _ _ _ _) fun h7 b7 y7 r7=>?_
 have x7:=x6.loc y7
 have y07:To sStep G h G6 h7:=b7.new (y05.trans (y6.mono fun _ h=>h.elim)) s5
 have kr7:=y6.kd kr5 (by simp)
 have rr7:=b7.row (y6.rowK rr5 kr5 id) (by have:=rr5.lt;omega)
 have hW6:G6.W=G.W:=w6.trans hW5
 have ck7:=x7.cls i c5 hc5
 refine IfB.not (IfB.intro (fun hok=>?_) fun hok=>?_)
 ·
  have hcut:ClOk G6 h7 (N+1) i { c5 with ops:=cutSl c5.ops (1:Int) (c5.ops.len:Int) (c5.ops.cap:Int) 5,asked:=false } bg5.length bb5:=by
   have hl:(cutSl c5.ops (1:Int) (c5.ops.len:Int) (c5.ops.cap:Int) 5).len=c5.ops.len-1:=cut_len (lo:=1)
   refine⟨ck7.ops.cut (lo:=1) (hi:=c5.ops.len) (m:=c5.ops.cap) (by rw[hops];omega) (Nat.le_refl _) (Nat.le_refl _) ck7.ops.1,?_,fun h=>(by cases h),ck7.beg,ck7.L,ck7.ans,ck7.ansN,ck7.LN⟩
   show(cutSl c5.ops (1:Int) (c5.ops.len:Int) (c5.ops.cap:Int) 5).len≤200
   rw[hl];have:=ck7.len;omega
  obtain⟨ok8,ok9,y9,x9⟩:=x7.cset2 y7.ht (j1:=0) (j2:=3) (v1 := .slice (cutSl c5.ops (1:Int) (c5.ops.len:Int) (c5.ops.cap:Int) 5).base (cutSl c5.ops (1:Int) (c5.ops.len:Int) (c5.ops.cap:Int) 5).len (cutSl c5.ops (1:Int) (c5.ops.len:Int) (c5.ops.cap:Int) 5).cap) (v2 := .bool false) (c1:={ c5 with ops:=cutSl c5.ops (1:Int) (c5.ops.len:Int) (c5.ops.cap:Int) 5 }) hc5 (by omega) (by omega) rfl rfl hcut
  rw[Addr.add_zero]at ok8 ok9 y9 x9
  refine⟨_,rfl,c5.ops,x7.cell0 hc5,by omega,by rw[hops];omega,by have:=ck7.ops.1;omega,by omega,_,rfl,ok8,_,rfl,ok9,?_⟩
  generalize hset (hset h7 (clA sc i) (.slice (cutSl c5.ops (1:Int) (c5.ops.len:Int) (c5.ops.cap:Int) 5).base (cutSl c5.ops (1:Int) (c5.ops.len:Int) (c5.ops.cap:Int) 5).len (cutSl c5.ops (1:Int) (c5.ops.len:Int) (c5.ops.cap:Int) 5).cap)) ((clA sc i).add 3) (.bool false)=h9 at *
  have r9:=y9.rowK r7 k6 (by simp)
  have rr9:=y9.rowK rr7 kr7 (by simp)
  have y09:=y07.trans (y9.mono s1_step)
  rw[List.set_set]at x9
  generalize hcn:({ c5 with ops:=cutSl c5.ops (1:Int) (c5.ops.len:Int) (c5.ops.cap:Int) 5,asked:=false }:CSl)=cn at *
  have hc9:(cl.set i cn)[i]? = some cn:=List.getElem?_set_self (by omega)
  have hans9:cn.ans=c.ans:=by rw[← hcn];exact hans
  let S:Kd→Prop:=fun q=>∃ n,q=.arr (.ans 0) n
  have fs:kf G6 S sc=true:=kf_yes (by rw[x9.kd];rintro⟨n,e⟩;cases e)
  have fl:kf G6 S h5.size=true:=kf_yes (by rw[k6];rintro⟨n,e⟩;cases e)
  have cR:hY (filt (kf G6 S) h9) ((clA sc i).add 2)=some (.slice cn.ans.base cn.ans.len cn.ans.cap):=(hcell_eq (filt_at (by rw[clA_add,add_none];exact fs))).trans (x9.cell hc9 (j:=2) (by omega) rfl)
  have lR:=r9.filt fl
  have sl9:SlB G6 s l:=sl5.mono y6.le
  have ck9:=x9.cls i cn hc9
  have hansN:cn.ans.len≤N:=by rw[hans9];exact ck0.ansN
  refine⟨filt (kf G6 S) h9,sub_kf _ _ _,_,rfl,cn.ans,cR,lR.get5 ?_⟩
  intro h12
  refine⟨?_,?_⟩
  ·exact sub_filt fun q hq hQ=>alc_old _ _ _ hq
  refine AppC_arr1 (S:=S) (a := .ans 0) y9.ht rfl ck9.ans (news:=blkV b0 b1 b2 b3 s) ⟨b0,b1,b2,b3,s,l,rfl,sl9,by omega⟩ (by omega) (by omega) (fun n=>⟨n,rfl⟩) fun r13 h13 G13 y13 sl13 l13 w13=>⟨y13.kf,?_⟩
  have x13:=x9.to y13 (Nat.le_refl _) (Nat.le_refl _) (fun q hq hS=>by
   obtain⟨n,rfl⟩:=hS
   rcases hq with (hq | hq | hq) | hq <;> first | exact hq | cases hq) (fun q _ hq hS=>by obtain⟨n,rfl⟩:=hS;exact hq _ _ rfl)
  have kS:∀ {n:Nat},¬ S (.one n):=by rintro n ⟨m,e⟩;cases e
  have r13':=y13.rowK r9 k6 kS
  have rr13:=y13.rowK rr9 kr7 kS
  have k613:=y13.kd k6 (by simp)
  have kr13:=y13.kd kr7 (by simp)
  have ck13:=x13.cls i cn hc9
  obtain⟨ok14,y14,x14⟩:=x13.cset y13.ht hc9 (j:=2) (by omega) (v := .slice r13.base r13.len r13.cap) (c':={ cn with ans:=r13 }) rfl ⟨ck13.ops,ck13.len,ck13.asked,ck13.beg,ck13.L,sl13,by show r13.len≤_;omega,ck13.LN⟩
  rw[List.set_set]at x14
  have r14:=y14.rowK r13' k613 (by simp)
  have rr14:=y14.rowK rr13 kr13 (by simp)
  have y014:=(y09.trans (y13.mono fun q hq=>by obtain⟨n,rfl⟩:=hq;trivial)).trans (y14.mono s1_step)
  refine⟨_,rfl,ok14,Row.get5 (k:=b0) (e:=b1) (s:=b2) (l:=b3) (t:=s) r14 ((kept_spec y14.ht b0 b1 b2 b3 (sl9.mono y13.le) (by omega)).mono ?_)⟩
  rintro _ h15 ⟨G15,s15,rfl,y15,w15,sl15⟩
  have kr15:=y15.kd kr13 (by simp)
  have rr15:=y15.rowK rr14 kr13 id
  refine⟨_,_,_,_,s15,rfl,retZ y15.ht b0 b1 b2 b3 s15 kr15 rr15 rfl fun h16 b16 y16 _=>?_⟩
  have hlen5:(bg5.length=bg5.length):=rfl
  refine⟨G15,X5,_,bg5,all5,bb5,_,_,_,_,_,0,s15,rfl,b16.new (y014.trans (y15.mono fun _ h=>h.elim)) (Nat.le_refl _),w15.trans (w13.trans hW6),(x14.pure y15).loc y16,o5,hdv,exq (c'':={ cn with ans:=r13 }) rfl (by rw[← hcn]) ⟨fun _=>⟨?_,by rw[← hcn]⟩,fun h=>by rw[hok]at h;cases h⟩⟩
  rw[← hcn]
  show cutSl c5.ops (1:Int) (c5.ops.len:Int) (c5.ops.cap:Int) 5=_
  rw[hops]
 ·
  have hok:okb=false:=by simpa using hok
  obtain⟨ok8,y8,x8⟩:=x7.cset y7.ht hc5 (j:=3) (by omega) (v := .bool true) (c':={ c5 with asked:=true }) rfl ⟨ck7.ops,ck7.len,fun _=>by show 1≤c5.ops.len;rw[hops];omega,ck7.beg,ck7.L,ck7.ans,ck7.ansN,ck7.LN⟩
  rw[List.set_set]at x8
  have rr8:=y8.rowK rr7 kr7 (by simp)
  refine⟨_,rfl,ok8,retZ y8.ht 0 0 0 0 Sl.nil kr7 rr8 rfl fun h9 b9 y9 _=>?_⟩
  exact⟨G6,X5,_,bg5,all5,bb5,_,_,_,_,_,16,Sl.nil,rfl,b9.new (y07.trans (y8.mono s1_step)) (Nat.le_refl _),hW6,x8.loc y9,o5,hdv,exq (c'':={ c5 with asked:=true }) rfl rfl ⟨fun h=>(by rw[hok]at h;cases h),fun _=>⟨hops,rfl⟩⟩⟩
end
theorem RdC.uniq{h:Hp}{b:Option Addr}{l l':List Value}(r:RdC h b l)(r':RdC h b l')(hl:l.length=l'.length):l=l':=by
 apply List.ext_getElem?
 intro i
 by_cases hi:i<l.length
 ·have h1:l[i]? = some l[i]:=List.getElem?_eq_getElem hi
  have h2:l'[i]? = some (l'[i]'(by omega)):=List.getElem?_eq_getElem _
  obtain⟨a,ha,hc⟩:=r i _ h1
  obtain⟨a',ha',hc'⟩:=r' i _ h2
  rw[ha]at ha';cases ha'
  rw[hc]at hc'
  rw[h1,h2,hc']
 ·rw[List.getElem?_eq_none (by omega),List.getElem?_eq_none (by omega)]
theorem stCells_and{a:Addr}{K1 K2:Hp→Prop}:∀ (l:List Value) (i:Nat) (h:Hp),stCells a i l h K1→stCells a i l h K2→stCells a i l h fun h'=>K1 h'∧K2 h'
 | [],_,_,x,y=>⟨x,y⟩
 | v::r,i,h,x,y=>by
   unfold stCells at x y ⊢
   cases hv:cellOk v with
   | true=>
     rw[hv]at x y
     exact⟨x.1,stCells_and r (i+1) _ x.2 y.2⟩
   | false=>
     rw[hv]at x
     exact x
theorem stAll_and{b:Option Addr}{off:Nat}{l:List Value}{h:Hp}{K1 K2:Hp→Prop}(x:stAll b off l h K1)(y:stAll b off l h K2):stAll b off l h fun h'=>K1 h'∧K2 h':=by
 cases b with
 | none=>exact⟨x,y⟩
 | some a=>exact stCells_and l 0 h x y
theorem AppC.and{e sz by_:Nat}{zc:Array Value}{s x:Sl}{h:Hp}{K1 K2:Sl→Hp→Prop}(p:AppC e sz by_ zc s x h K1)(q:AppC e sz by_ zc s x h K2):AppC e sz by_ zc s x h fun r h'=>K1 r h'∧K2 r h':=by
 obtain⟨n1,a1,a2,a3,a4,a5,a6⟩:=p
 obtain⟨n2,b1,b2,_,_,b5,b6⟩:=q
 obtain rfl:=a2.uniq b2 (by rw[a1,b1])
 refine⟨n1,a1,a2,a3,a4,fun hc=>stAll_and (a5 hc) (b5 hc),fun hc=>?_⟩
 obtain⟨o1,p1,p2,p3⟩:=a6 hc
 obtain⟨o2,q1,q2,q3⟩:=b6 hc
 obtain rfl:=p2.uniq q2 (by rw[p1,q1])
 exact⟨o1,p1,p2,fun c h1 h2=>⟨p3 c h1 h2,q3 c h1 h2⟩⟩
theorem AppC.mono{e sz by_:Nat}{zc:Array Value}{s x:Sl}{h:Hp}{K1 K2:Sl→Hp→Prop}(p:AppC e sz by_ zc s x h K1)(q:∀ r h',K1 r h'→K2 r h'):AppC e sz by_ zc s x h K2:=by
 have st:∀ {a:Addr} (l:List Value) (i:Nat) (h:Hp) {P1 P2:Hp→Prop},(∀ h',P1 h'→P2 h')→stCells a i l h P1→stCells a i l h P2:=by
  intro a l
  induction l with
  | nil=>intro i h P1 P2 hp x;exact hp _ x
  | cons v r ih=>
    intro i h P1 P2 hp x
    unfold stCells at x ⊢
    cases hv:cellOk v with
    | true=>rw[hv]at x;exact⟨x.1,ih (i+1) _ hp x.2⟩
    | false=>rw[hv]at x;exact x
 obtain⟨n1,a1,a2,a3,a4,a5,a6⟩:=p
 refine⟨n1,a1,a2,a3,a4,fun hc=>?_,fun hc=>?_⟩
 ·have:=a5 hc
  cases hb:s.base with
  | none=>rw[hb]at this;exact q _ _ this
  | some a=>rw[hb]at this;exact st _ _ _ (fun h' hh=>q _ h' hh) this
 ·obtain⟨o1,p1,p2,p3⟩:=a6 hc
  exact⟨o1,p1,p2,fun c h1 h2=>q _ _ (p3 c h1 h2)⟩
theorem AppC_rd1{a:AK}{e ty by_:Nat}{zc:Array Value}{G:Gh}{h:Hp}{s:Sl}(t:HT G h)(sx:SlA G a s){news:List Value}(ok:okE G a news)(hb:(s.len+1)*by_≤140737488355328)(hl:s.len+1<9223372036854775807){l:List Value}(rl:Rd a.sz h s l) :
 AppC e a.sz by_ zc s (Sl.mk (some (nw h)) 1 1) (alc h news ty) fun r h'=>Rd a.sz h' r (l++news):=by
 have hn:=okE_len ok
 have hsz:=a.sz_pos
 have hll:=rl.len
 have e1:Ext h (alc h news ty):=alc_ext _ _ _
 refine⟨news,by simp[hn],RdC.alc h news ty,hb,hl,fun hc=>?_,fun hc=>⟨l,hll,rl.rd.ext e1,fun c h1 h2=>⟨?_,h1,fun i v hv=>?_⟩⟩⟩
 ·simp only at hc
  obtain⟨h2,h3 | ⟨b,o,N,h3,h4,h5,h6⟩⟩:=sx
  ·omega
  ·obtain⟨g0,c,ty',g1,g2,g3⟩:=t.arr b a N h4
   have gb:(alc h news ty)[b]? = some (.cells c ty' (0,0)):=by rw[alc_old _ _ _ (blk_lt g1)];exact g1
   rw[h3]
   show stCells ((⟨b,o*a.sz,none⟩:Addr).add (s.len*a.sz)) 0 news _ _
   rw[add_none]
   have hfit:(o+s.len+1)*a.sz≤N*a.sz:=Nat.mul_le_mul_right _ (by omega)
   rw[Nat.add_mul,Nat.add_mul,Nat.one_mul]at hfit
   refine stCells_row news _ 0 _ c gb (by rw[hn,g2];omega) (okE_cell ok) ?_
   intro h' c' k1 k2 k3 k4 k5
   refine⟨by rw[List.length_append,hll,hn];show _=(s.len+1)*a.sz;rw[Nat.add_mul,Nat.one_mul],hc,fun i v hv=>⟨⟨b,o*a.sz,none⟩,rfl,?_⟩⟩
   rw[add_none,hcell_blk k1,k5]
   rcases Nat.lt_or_ge i l.length with hi | hi
   ·rw[List.getElem?_append_left hi]at hv
    rw[if_neg (by omega)]
    obtain⟨ad,hb',hcv⟩:=rl.rd i v hv
    rw[h3]at hb';cases hb'
    rw[add_none,hcell_blk g1]at hcv
    exact hcv
   ·rw[List.getElem?_append_right hi]at hv
    have hi2:i-l.length<news.length:=(List.getElem?_eq_some_iff.1 hv).1
    rw[if_pos (by omega)]
    rw[← hv]
    congr 1
    omega
 ·rw[List.length_append,hll,hn];show _=(s.len+1)*a.sz;rw[Nat.add_mul,Nat.one_mul]
 ·refine⟨_,rfl,?_⟩
  have hi:i<(l++news).length:=(List.getElem?_eq_some_iff.1 hv).1
  rw[List.length_append]at hi
  rw[add_none,Nat.zero_add]
  rw[hcell_blk (h:=(alc h news ty).push _) (b:=(alc h news ty).size) (Array.getElem?_push_size ..)]
  rw[Array.getElem?_append_left (by simp;omega)]
  rw[List.append_toArray]
  simpa using hv
theorem pClone_spec{h:Hp}{s:Sl}{l:List (Int × Sl)}(r:Rd 2 h s (c2 l))(hmax:l.length≤1000000):HC Tryz.prog 79 #[.slice s.base s.len s.cap] h fun r h'=>∃ t:Sl,r=.slice t.base t.len t.cap∧Own h.size 2 h' t (c2 l)∧t.len=l.length∧Ext h h':=by
 apply wc79
 unfold vc79
 have hl:=r.len
 rw[c2_length]at hl
 refine IfB.nilp (fun hn=>?_) (fun a ha=>?_)
 ·have hl0:l = []:=by
   cases l with
   | nil=>rfl
   | cons v q=>
     exfalso
     obtain⟨a,ha,_⟩:=r.rd 0 (.int .i64 v.1) rfl
     rw[hn]at ha;cases ha
  subst hl0
  exact⟨Sl.nil,rfl,Own.nil _ _ _,rfl,.refl _⟩
 ·have o0:Own h.size 2 (alc h [] 46) ⟨some (nw h),0,0⟩ []:=Own.alc h [] 46 0 2 rfl
  refine AppC_own (news:=c2 l) rfl o0 (by rw[size_alc];omega) (by rw[c2_length];omega) (r.ext (alc_ext _ _ _)).rd (c2_ok l) (by simp only;omega) (by simp only;omega) fun t h1 o1 l1 k1 _=>?_
  exact⟨t,rfl,by simpa using o1,by rw[l1];simp only;omega,(((alc_ext h [] 46).toKeep).trans k1).ext⟩
theorem OwnN.setD{G0 G:Gh}{h0 h:Hp}{s u:Sl}{l:List (Int × Sl)}(y:To (fun _=>False) G0 h0 G h)(o:OwnN h0.size 2 G h s (c2 l)){a:Addr}(ha:s.base=some a){k:Nat}(hk:k<l.length) :
 StOk h ((a.add (k*2)).add 1)∧To (fun _=>False) G0 h0 G (hset h ((a.add (k*2)).add 1) (.slice u.base u.len u.cap))∧OwnN h0.size 2 G (hset h ((a.add (k*2)).add 1) (.slice u.base u.len u.cap)) s (c2 (l.set k ((l[k]).1,u)))∧(∀ b,b≠a.block→(hset h ((a.add (k*2)).add 1) (.slice u.base u.len u.cap))[b]? = h[b]?)∧(hset h ((a.add (k*2)).add 1) (.slice u.base u.len u.cap)).size=h.size:=by
 rw[add_add]
 obtain⟨ok,o1,kp,fr,sz⟩:=o.own.set ha (k:=k*2+1) (by rw[c2_length];omega) (.slice u.base u.len u.cap)
 have hc:(c2 l).set (k*2+1) (.slice u.base u.len u.cap)=c2 (l.set k ((l[k]).1,u)):=by
  clear ok o1 kp fr sz o ha y
  induction l generalizing k with
  | nil=>simp at hk
  | cons p r ih=>
    cases k with
    | zero=>rfl
    | succ k=>
      simp only[List.set_cons_succ,c2_cons]
      rw[show(k+1)*2=(k*2+1)+1 by omega,List.set_cons_succ,ih (by simpa using hk)]
      rfl
 rw[hc]at o1
 refine⟨ok,y.own1 (b:=a.block) (o.own.lt ha).1 (o.any a ha) (by omega) fun b _ hb=>fr b hb,⟨o1,o.any⟩,fr,sz⟩
theorem alcTwo{G:Gh}{h:Hp}(t:HT G h)(v1 v2:List Value)(ty1 ty2:Nat):∃ G2:Gh,To (fun _=>False) G h G2 (alc (alc h v1 ty1) v2 ty2)∧G2.W=G.W∧G2.k h.size=.one 30∧G2.k (h.size+1)=.one 30∧Row (alc (alc h v1 ty1) v2 ty2) h.size v1∧Row (alc (alc h v1 ty1) v2 ty2) (h.size+1) v2:=by
 obtain⟨G1,y1,w1,k1,r1⟩:=alcLoc t v1 ty1
 obtain⟨G2,y2,w2,k2,r2⟩:=alcLoc y1.ht v2 ty2
 have s1:(alc h v1 ty1).size=h.size+1:=size_alc _ _ _
 rw[s1]at k2 r2
 exact⟨G2,y1.trans y2,w2.trans w1,y2.kd k1 (by simp),k2,y2.rowK r1 k1 id,r2⟩
theorem dOwn_spec{G:Gh}{h:Hp}(t:HT G h)(o0 o1 o2 o3:Int){o4:Sl}{P:List PutD}(p:PutsR (Stab G h) h o4 P)(hP:PutsB P):HC Tryz.prog 44 #[.agg #[.int .i64 o0,.int .i64 o1,.int .i64 o2,.int .i64 o3,.slice o4.base o4.len o4.cap]] h fun r h'=>∃ (G':Gh) (s:Sl),r=.agg #[.int .i64 o0,.int .i64 o1,.int .i64 o2,.int .i64 o3,.slice s.base s.len s.cap]∧To (fun _=>False) G h G' h'∧G'.W=G.W∧SlP G' s P:=by
 apply wc44
 unfold vc44
 obtain⟨L,rfl,rL,_,each⟩:=p
 intro h1 h2
 obtain⟨G2,y2,w2,k1,k2,r1,r2⟩:=alcTwo t [.int .i64 o0,.int .i64 o1,.int .i64 o2,.int .i64 o3,.slice o4.base o4.len o4.cap] [.int .i64 (0:Int),.int .i64 (0:Int),.int .i64 (0:Int),.int .i64 (0:Int),.slice Sl.nil.base Sl.nil.len Sl.nil.cap] 58 58
 have e1:nw h=(⟨h.size,0,none⟩:Addr):=rfl
 have e2:nw h1=(⟨h.size+1,0,none⟩:Addr):=by show nw (alc h _ _)=_;unfold nw;rw[size_alc]
 rw[e1,e2]
 change To _ G h G2 h2 at y2
 change Row h2 _ _ at r1
 change Row h2 _ _ at r2
 clear_value h2
 clear e1 e2
 have hLn:L.length≤1000000:=by have:=hP.1;simpa using this
 have hl2:(L.map (·.1)).length=L.length:=by simp
 refine⟨o4,r1.get rfl,(pClone_spec (rL.ext y2.toExt) (by omega)).mono ?_⟩
 rintro _ h3 ⟨u,rfl,ou,lu,e3⟩
 have y3:=y2.ext e3
 have on3:OwnN h.size 2 G2 h3 u (c2 (L.map (·.1))):=ou.toN y2.ht y2.size
 obtain⟨ok4,b4,y4,r4⟩:=locSet y3.ht k1 (r1.ext e3) (i:=4) (by simp) (.slice u.base u.len u.cap)
 have r4:Row _ h.size (blkV o0 o1 o2 o3 u):=r4
 have r24:=b4.row (r2.ext e3) (by omega)
 have y04:=b4.new y3 (Nat.le_refl _)
 refine⟨u,rfl,ok4,u,r4.get rfl,?_⟩
 refine⟨fun i n h'=>∃ (j:Nat) (G':Gh) (D:List ((Int × Sl) × List UInt8)),i=j∧n+j=L.length∧To (fun _=>False) G h G' h'∧G'.W=G.W∧OwnN h.size 2 G' h' u (c2 (D.map (·.1)++(L.drop j).map (·.1)))∧D.length=j∧(∀ x∈D,SlB G' x.1.2 x.2)∧D.map (fun x=>(x.1.1,x.2))=(L.take j).map (fun x=>(x.1.1,x.2))∧Row h' h.size (blkV o0 o1 o2 o3 u)∧Row h' (h.size+1) [.int .i64 (0:Int),.int .i64 (0:Int),.int .i64 (0:Int),.int .i64 (0:Int),.slice Sl.nil.base Sl.nil.len Sl.nil.cap]∧G'.k h.size=.one 30∧G'.k (h.size+1)=.one 30,L.length,
  ⟨0,G2,[],rfl,rfl,y04,w2,by simpa using on3.to y4,rfl,fun x hx=>by simp at hx,by simp,r4,r24,k1,k2⟩,?_⟩
 rintro _ _ n5 h5 ⟨j,G5,D,rfl,hn5,y5,w5,o5,hD,okD,hDm,r5,r25,k15,k25⟩
 refine IfB.dec (fun hlt=>?_) (fun hge=>?_)
 ·have hj:j<L.length:=by omega
  have hll:(D.map (·.1)++(L.drop j).map (·.1)).length=L.length:=by simp;omega
  have hgj:(D.map (·.1)++(L.drop j).map (·.1))[j]'(by omega)=L[j].1:=by
   rw[List.getElem_append_right (by simp;omega)]
   simp[hD]
  obtain⟨rd,st⟩:=each _ (List.getElem_mem hj)
  have rd5:Rd 1 h5 L[j].1.2 (L[j].2.map bv):=rd.mv (B:=Stab G h) st fun b hb=>(y5.stab hb).1
  refine⟨u,r5.get rfl,u,r5.get rfl,ix2 o5.own.toRd j rfl (by omega) fun a c0 c1=>?_⟩
  rw[hgj]at c0 c1
  have hlen:L[j].2.length≤1000000:=hP.2 _ (List.mem_map.2 ⟨_,List.getElem_mem hj,rfl⟩)
  refine⟨L[j].1.2,c1,(cloneR y5.ht rd5 hlen).mono ?_⟩
  rintro _ h6 ⟨v,G6,rfl,y6,b6,w6⟩
  have o6:=o5.to y6
  have y06:=y5.trans y6
  obtain⟨ab,hab,_⟩:=o6.own.rd (j*2) (.int .i64 L[j].1.1) (by rw[c2_get0,List.getElem?_eq_getElem (by omega),hgj];rfl)
  have hul:u.len=L.length:=by have:=o6.own.len;rw[c2_length]at this;omega
  obtain⟨ok7,y7,o7,fr7,sz7⟩:=OwnN.setD (u:=v) y06 o6 hab (k:=j) (by omega)
  rw[hgj]at o7
  refine⟨v,rfl,y6.toExt,ab,hab,by omega,by omega,by rw[Int.toNat_natCast];exact ok7,?_⟩
  rw[Int.toNat_natCast]
  have hne:∀ b,G6.k b=.one 30→b≠ab.block:=fun b hb e=>by have:=o6.any ab hab;rw[← e,hb]at this;cases this
  have k16:=y6.kd k15 (by simp)
  have k26:=y6.kd k25 (by simp)
  refine⟨n5-1,by omega,j+1,G6,D ++ [((L[j].1.1,v),L[j].2)],by rw[iAdd64 (by omega)];push_cast;rfl,by omega,y7,w6.trans w5,?_,by simp[hD],fun x hx=>?_,?_,(y6.rowK r5 k15 id).eq (fr7 _ (hne _ k16)),(y6.rowK r25 k25 id).eq (fr7 _ (hne _ k26)),k16,k26⟩
  ·have e:(D.map (·.1)++(L.drop j).map (·.1)).set j (L[j].1.1,v)=(D ++ [((L[j].1.1,v),L[j].2)]).map (·.1)++(L.drop (j+1)).map (·.1):=by
    rw[List.set_append_right _ _ (by simp;omega),List.drop_eq_getElem_cons hj,List.map_cons,show j-(D.map (·.1)).length=0 by simp[hD],List.set_cons_zero,List.map_append,List.append_assoc]
    rfl
   rw[e]at o7
   exact o7
  ·rcases List.mem_append.1 hx with hx | hx
   ·exact(okD x hx).mono y6.le
   ·simp only[List.mem_cons,List.not_mem_nil,or_false]at hx
    subst hx;exact b6
  ·rw[List.map_append,hDm,List.take_succ_eq_append_getElem hj,List.map_append];rfl
 ·obtain rfl:j=L.length:=by omega
  rw[List.take_length]at hDm
  rw[List.drop_length,List.map_nil,List.append_nil]at o5
  refine retA y5.ht r5 k25 r25 rfl fun h7 b7 y7=>?_
  have y07:=b7.new y5 (by omega:h.size≤h.size+1)
  obtain⟨G8,y8,p8,w8⟩:=OwnN.puts y07 (o5.to y7) okD
  rw[hDm]at p8
  exact⟨G8,u,rfl,y8,w8.trans w5,p8⟩
structure OpD where
 k:Int
 h:Int
 a:Int
 n:Int
 P:List PutD
def c5(l:List (OpD × Sl)):List Value:=l.flatMap fun x=>blkV x.1.k x.1.h x.1.a x.1.n x.2
theorem c5_cons(x:OpD × Sl)(r:List (OpD × Sl)):c5 (x::r)=blkV x.1.k x.1.h x.1.a x.1.n x.2++c5 r:=rfl
theorem c5_append(a b:List (OpD × Sl)):c5 (a++b)=c5 a++c5 b:=by simp[c5]
theorem c5_length:∀ l:List (OpD × Sl),(c5 l).length=l.length*5
 | []=>rfl
 | x::r=>by rw[c5_cons,List.length_append,c5_length r];simp only[blkV,List.length_cons,List.length_nil];omega
theorem c5_get:∀ (l:List (OpD × Sl)) (i j:Nat),j<5→(c5 l)[i*5+j]? =(l[i]?).bind fun x=>(blkV x.1.k x.1.h x.1.a x.1.n x.2)[j]?
 | [],i,j,_=>by simp[c5]
 | x::r,0,j,h=>by rw[c5_cons,List.getElem?_append_left (by simp only[blkV,List.length_cons,List.length_nil];omega)];simp
 | x::r,i+1,j,h=>by
   rw[c5_cons,List.getElem?_append_right (by simp only[blkV,List.length_cons,List.length_nil];omega)]
   rw[show(i+1)*5+j-(blkV x.1.k x.1.h x.1.a x.1.n x.2).length=i*5+j by simp only[blkV,List.length_cons,List.length_nil];omega,c5_get r i j h]
   rfl
def OpsR(B:Nat→Prop)(h:Hp)(s:Sl)(O:List OpD):Prop:=
 ∃ L:List (OpD × Sl),O=L.map (·.1)∧Rd 5 h s (c5 L)∧(∀ a,s.base=some a→s.len≠0→B a.block)∧∀ x∈L,PutsR B h x.2 x.1.P∧PutsB x.1.P
theorem OpsR.eq{B:Nat→Prop}{h h':Hp}{s:Sl}{O:List OpD}(p:OpsR B h s O)(e:∀ b,B b→h'[b]? = h[b]?):OpsR B h' s O:=by
 obtain⟨L,h1,h2,h3,h4⟩:=p
 exact⟨L,h1,h2.mv h3 e,h3,fun x hx=>⟨(h4 x hx).1.eq e,(h4 x hx).2⟩⟩
theorem OpsR.mono{B B':Nat→Prop}{h:Hp}{s:Sl}{O:List OpD}(p:OpsR B h s O)(hb:∀ b,B b→B' b):OpsR B' h s O:=by
 obtain⟨L,h1,h2,h3,h4⟩:=p
 exact⟨L,h1,h2,fun a ha hn=>hb _ (h3 a ha hn),fun x hx=>⟨(h4 x hx).1.mono hb,(h4 x hx).2⟩⟩
theorem OpsR.to{S:Kd→Prop}{A B:Gh}{a b:Hp}(x:To S A a B b){s:Sl}{O:List OpD}(p:OpsR (Stab A a) a s O):OpsR (Stab B b) b s O:=
 (p.eq fun k hk=>(x.stab hk).1).mono fun k hk=>(x.stab hk).2
theorem OpsR.len{B:Nat→Prop}{h:Hp}{s:Sl}{O:List OpD}(p:OpsR B h s O):s.len=O.length:=by
 obtain⟨L,rfl,h2,_⟩:=p
 have:=h2.len
 rw[c5_length]at this
 simp;omega
theorem OpsR.ix{B:Nat→Prop}{h:Hp}{s:Sl}{O:List OpD}(p:OpsR B h s O){i:Int}(k:Nat)(hi:i=k)(hk:k<O.length){K:Addr→Prop}
 (hK:∀ a d,hY h (a.add (i.toNat*5))=some (.int .i64 O[k].k)→hY h ((a.add (i.toNat*5)).add 1)=some (.int .i64 O[k].h)→hY h ((a.add (i.toNat*5)).add 2)=some (.int .i64 O[k].a)→hY h ((a.add (i.toNat*5)).add 3)=some (.int .i64 O[k].n)→hY h ((a.add (i.toNat*5)).add 4)=some (.slice d.base d.len d.cap)→PutsR B h d O[k].P→PutsB O[k].P→K a):∃ a:Addr,s.base=some a∧0≤i∧i<(s.len:Int)∧K a:=by
 have hl:=p.len
 obtain⟨L,rfl,h2,_,h4⟩:=p
 subst hi
 have hkL:k<L.length:=by simpa using hk
 have g:∀ j,j<5→(c5 L)[k*5+j]? =(blkV L[k].1.k L[k].1.h L[k].1.a L[k].1.n L[k].2)[j]?:=fun j hj=>by rw[c5_get L k j hj,List.getElem?_eq_getElem hkL];rfl
 have cell:∀ j v,j<5→(blkV L[k].1.k L[k].1.h L[k].1.a L[k].1.n L[k].2)[j]? = some v →∃ a:Addr,s.base=some a∧hY h ((a.add (((k:Int)).toNat*5)).add j)=some v:=fun j v hj hv=>by
  obtain⟨a,ha,hc⟩:=h2.rd (k*5+j) v (by rw[g j hj];exact hv)
  exact⟨a,ha,by rw[Int.toNat_natCast,add_add];exact hc⟩
 obtain⟨a,ha,q0⟩:=cell 0 _ (by omega) rfl
 obtain⟨a1,ha1,q1⟩:=cell 1 _ (by omega) rfl
 obtain⟨a2,ha2,q2⟩:=cell 2 _ (by omega) rfl
 obtain⟨a3,ha3,q3⟩:=cell 3 _ (by omega) rfl
 obtain⟨a4,ha4,q4⟩:=cell 4 _ (by omega) rfl
 rw[ha]at ha1 ha2 ha3 ha4
 cases ha1;cases ha2;cases ha3;cases ha4
 rw[Addr.add_zero]at q0
 have hm:=h4 _ (List.getElem_mem hkL)
 refine⟨a,ha,by omega,by omega,hK a L[k].2 ?_ ?_ ?_ ?_ q4 ?_ ?_⟩
 ·simpa using q0
 ·simpa using q1
 ·simpa using q2
 ·simpa using q3
 ·simpa using hm.1
 ·simpa using hm.2
def OpsT(G:Gh)(h:Hp)(s:Sl)(O:List OpD):Prop:=
 ∃ L:List (OpD × Sl),O=L.map (·.1)∧Rd 5 h s (c5 L)∧∀ x∈L,SlP G x.2 x.1.P
def sOps:Kd→Prop:=fun q=>∃ n,q=.arr (.ops 0) n
def sAdd(k:Kd):Prop:=k=.one 1∨sOps k
theorem OpsT.to{S:Kd→Prop}{G G':Gh}{h h':Hp}{s:Sl}{O:List OpD}(p:OpsT G h s O)(sl:SlA G (.ops 0) s)(y:To S G h G' h')(t:HT G h)(hS:∀ n,¬ S (.arr (.ops 0) n)):OpsT G' h' s O:=by
 obtain⟨L,h1,h2,h3⟩:=p
 refine⟨L,h1,h2.mv (B:=fun b=>∃ n,G.k b=.arr (.ops 0) n) (fun a ha hn=>?_) (fun b hb=>?_),fun x hx=>(h3 x hx).mono y.le⟩
 ·obtain⟨_,⟨hb,hc⟩ | ⟨b,o,N,hb,hk,_⟩⟩:=sl
  ·rw[hb]at ha;cases ha
  ·rw[hb]at ha;cases ha;exact⟨N,hk⟩
 ·obtain⟨n,hn⟩:=hb
  exact y.fr b (t.dom b (by rw[hn];simp)) (by rw[hn];exact fun hh=>hS n hh.2)
section
variable{G:Gh}{h:Hp}{M N sc:Nat}{X:StD}{cl:List CSl}{bg:List BgD}{na base:Nat}{ev:Int}{db sb:Nat}{all:Sl}{bb:Nat→Nat}
theorem dAdd_spec(t:HT G h)(x:SdIn G h M N sc X cl bg na ev db sb all bb)(k:Int){l:Sl}{O:List OpD}(p:OpsR (Stab G h) h l O)(hO:O.length≤1000000):HC Tryz.prog 22 #[pv sc,.int .i64 k,.slice l.base l.len l.cap] h fun r h'=>∃ (G':Gh) (e:Int) (cl':List CSl),r=.int .i64 e∧To sAdd G h G' h'∧G'.W=G.W∧SdIn G' h' M N sc X cl' bg na ev db sb all bb∧
 (∀ (i:Nat) (c:CSl),k=((i+1:Nat):Int)→cl[i]? = some c→c.ops.len=0→O.length≤200→e=0∧∃ c',cl'=cl.set i c'∧OpsT G' h' c'.ops O∧c'.L=c.L∧c'.asked=c.asked∧c'.ops.len=O.length):=by
 apply wc22
 unfold vc22
 refine(dClient_spec x k).mono ?_
 rintro rc h1 ⟨hh,hcl⟩
 obtain rfl:=hh.symm
 have hlO:=p.len
 have hl8:=x.len
 rcases hcl with ⟨rfl,hno⟩ | ⟨i,c,rfl,hi,hc,rfl⟩
 ·exact⟨_,rfl,.yes rfl ⟨G,1,cl,rfl,.refl t,rfl,x,fun i c hk hc=>by have:=x.lt hc;omega⟩⟩
 have ck:=x.cls i c hc
 have hc200:=ck.len
 have e200:iSub .i64 (200:Int) (c.ops.len:Int)=200-(c.ops.len:Int):=iSub64 (by omega)
 refine⟨_,rfl,.no rfl ⟨_,rfl,c.ops,x.cell0 hc,?_⟩⟩
 rw[e200]
 refine IfB.dec (fun hbig=>?_) fun hfit=>?_
 ·exact⟨G,7,cl,rfl,.refl t,rfl,x,fun i' c' hk hc' h0 hO2=>by
   obtain rfl:i'=i:=by omega
   rw[hc]at hc';cases hc';omega⟩
 refine⟨fun q n h'=>∃ (j:Nat) (G':Gh) (c':CSl),q=j∧n+j=O.length∧To sAdd G h G' h'∧G'.W=G.W∧SdIn G' h' M N sc X (cl.set i c') bg na ev db sb all bb∧c'.ops.len=c.ops.len+j∧c'.L=c.L∧c'.asked=c.asked∧(c.ops.len=0→OpsT G' h' c'.ops (O.take j)),O.length,
  ⟨0,G,c,rfl,rfl,.refl t,rfl,by rw[set_same hc];exact x,rfl,rfl,rfl,fun h0=>⟨[],by simp,⟨by rw[h0];rfl,ck.ops.1,RdC.nil _ _⟩,fun x hx=>by simp at hx⟩⟩,?_⟩
 rintro _ _ n2 h2 ⟨j,G2,c2',rfl,hn2,y2,w2,x2,hlen2,hL2,hA2,ht2⟩
 have hc2:(cl.set i c2')[i]? = some c2':=List.getElem?_set_self (by omega)
 refine IfB.dec (fun hlt=>?_) fun hge=>?_
 ·have hj:j<O.length:=by omega
  refine(p.to y2).ix j rfl hj fun a d q0 q1 q2 q3 q4 pd pb=>⟨_,_,_,_,d,q0,q1,q2,q3,q4,?_⟩
  intro h3
  have e3:Ext h2 h3:=alc_ext _ _ _
  have s3:h3.size=h2.size+1:=size_alc _ _ _
  have r3:Row h3 h2.size [.int .i64 (0:Int),.int .i64 (0:Int),.int .i64 (0:Int),.int .i64 (0:Int),.slice Sl.nil.base Sl.nil.len Sl.nil.cap]:=Row.alc _ _ _
  refine r3.put (vs:=blkV O[j].k O[j].h O[j].a O[j].n d) rfl (blkV_ok _ _ _ _ _) fun h4 r4 s4 o4=>?_
  have e24:Ext h2 h4:=⟨by omega,fun b hb=>by rw[o4 b (by omega),e3.block b hb]⟩
  have y24:To (fun _=>False) G2 h2 G2 h4:=e24.to y2.ht
  have x4:=x2.pure y24
  have k4:G2.k h2.size=.any:=y2.ht.fresh (Nat.le_refl _)
  have fs:kf G2 sOps sc=true:=kf_yes (by rw[x4.kd];rintro⟨n,e⟩;cases e)
  have fl:kf G2 sOps h2.size=true:=kf_yes (by rw[k4];rintro⟨n,e⟩;cases e)
  have cR:hY (filt (kf G2 sOps) h4) (clA sc i)=some (.slice c2'.ops.base c2'.ops.len c2'.ops.cap):=(hcell_eq (filt_at fs)).trans (x4.cell0 hc2)
  have lR:Row (filt (kf G2 sOps) h4) h2.size (blkV O[j].k O[j].h O[j].a O[j].n d):=r4.filt fl
  refine⟨filt (kf G2 sOps) h4,sub_kf _ _ _,_,rfl,c2'.ops,cR,lR.get5 ((dOwn_spec y24.ht _ _ _ _ (pd.to y24) pb).mono ?_)⟩
  rintro _ h5 ⟨G5,s5,rfl,y5,w5,sp5⟩
  have e5:=y5.toExt
  refine⟨_,_,_,_,s5,rfl,sub_filt fun b hb _=>e5.block b hb,?_⟩
  intro h6
  have x5:=x4.pure y5
  have ck5:=x5.cls i c2' hc2
  refine⟨sub_filt fun b hb _=>by rw[show h6[b]? = h5[b]? from alc_old _ _ _ (Nat.lt_of_lt_of_le hb e5.size),e5.block b hb],?_⟩
  obtain⟨lx,rlx,_⟩:=ck5.ops.all y5.ht
  have okE5:okE G5 (.ops 0) (blkV O[j].k O[j].h O[j].a O[j].n s5):=⟨_,_,_,_,s5,O[j].P,rfl,sp5,pb⟩
  refine AppC.mono ((AppC_arr1 (S:=sOps) (a := .ops 0) y5.ht rfl ck5.ops okE5 (by omega) (by omega) (fun n=>⟨n,rfl⟩) (K:=fun r h'=>∃ G',To sOps G5 h5 G' h'∧SlA G' (.ops 0) r∧r.len=c2'.ops.len+1∧G'.W=G5.W) fun r h' G' y sl hl w=>⟨G',y,sl,hl,w⟩).and (AppC_rd1 (a := .ops 0) y5.ht ck5.ops okE5 (by omega) (by omega) rlx)) ?_
  rintro r7 h7 ⟨⟨G7,y7,sl7,l7,w7⟩,rd7⟩
  have x7:=x5.to y7 (Nat.le_refl _) (Nat.le_refl _) (fun q hq hS=>by
   obtain⟨n,rfl⟩:=hS
   rcases hq with (hq | hq | hq) | hq <;> first | exact hq | cases hq) (fun q _ hq hS=>by obtain⟨n,rfl⟩:=hS;exact hq _ _ rfl)
  have ck7:=x7.cls i c2' hc2
  obtain⟨ok8,y8,x8⟩:=x7.cset y7.ht hc2 (j:=0) (by omega) (v := .slice r7.base r7.len r7.cap) (c':={ c2' with ops:=r7 }) rfl ⟨sl7,by show r7.len≤200;omega,fun _=>by show 1≤r7.len;omega,ck7.beg,ck7.L,ck7.ans,ck7.ansN,ck7.LN⟩
  rw[Addr.add_zero]at ok8 y8 x8
  rw[List.set_set]at x8
  refine⟨sub_filt fun b hb hQ=>?_,_,rfl,ok8,n2-1,by omega,j+1,G7,{ c2' with ops:=r7 },by rw[iAdd64 (by omega)];push_cast;rfl,by omega,?_,w7.trans (w5.trans w2),x8,by show r7.len=_;omega,hL2,hA2,fun h0=>?_⟩
  ·rw[y7.fr b (Nat.lt_of_lt_of_le hb e5.size) fun hh=>?_,e5.block b hb]
   rw[y5.old b hb]at hh
   simp[kf]at hQ
   exact hQ hh.1 hh.2
  ·exact(((y2.trans (y24.mono fun _ h=>h.elim)).trans (y5.mono fun _ h=>h.elim)).trans (y7.mono fun _ h=>.inr h)).trans (y8.mono fun _ h=>.inl h)
  ·have q2:=ht2 h0
   have q5:=(q2.to (x2.cls i c2' hc2).ops y24 y2.ht fun _ h=>h).to (x4.cls i c2' hc2).ops y5 y24.ht fun _ h=>h
   obtain⟨TL,hTL,rTL,sTL⟩:=q5
   have hlx:lx=c5 TL:=rlx.rd.uniq rTL.rd (by have:=rlx.len;have:=rTL.len;simp only[AK.sz]at *;omega)
   rw[hlx]at rd7
   have q7:OpsT G7 h7 r7 (O.take (j+1)):=by
    refine⟨TL ++ [(O[j],s5)],by rw[List.map_append,← hTL,List.take_succ_eq_append_getElem hj];rfl,by rw[c5_append,show c5 [(O[j],s5)]=blkV O[j].k O[j].h O[j].a O[j].n s5 from by simp[c5]];exact rd7,fun z hz=>?_⟩
    rcases List.mem_append.1 hz with hz | hz
    ·exact(sTL z hz).mono y7.le
    ·simp only[List.mem_cons,List.not_mem_nil,or_false]at hz
     subst hz;exact sp5.mono y7.le
   exact q7.to sl7 y8 y7.ht fun n=>by simp
 ·obtain rfl:j=O.length:=by omega
  rw[List.take_length]at ht2
  refine⟨G2,0,cl.set i c2',rfl,y2,w2,x2,fun i' c' hk hc' h0 _=>?_⟩
  obtain rfl:i'=i:=by omega
  rw[hc]at hc';cases hc'
  exact⟨rfl,c2',rfl,ht2 h0,hL2,hA2,by omega⟩
end
def G00:Gh:=⟨fun _=>.any,fun _=>0,fun _ _=>False⟩
theorem ht00(h:Hp):HT G00 h:=⟨fun b hb=>absurd rfl hb,fun _ _=>rfl,fun b l hb=>(by cases hb),fun b L hb=>(by cases hb),fun b a N hb=>(by cases hb)⟩
theorem mt_new{W:Int→List UInt8→Prop}{d:Dv}(hd:d=Dv.new 8 96)(w:d.Wf)(hW:WOk W)(N:Nat):MtOk W N 1 0 [] d:=by
 subst hd
 exact⟨new_live 8 96,w,rfl,rfl,fun j=>by rw[Dv.new_z];rfl,SlInv.new (fun j _ _=>by rw[Dv.new_z]) (by omega) (by omega),Nat.zero_le _,.inl rfl,fun m _ p hp=>by rw[Dv.new_z]at hp;simp at hp,hW⟩
def cl0:CSl:=⟨Sl.nil,Sl.nil,Sl.nil,false,[]⟩
theorem dNewG_spec{G:Gh}{h:Hp}(t:HT G h)(hG:∀ a l,¬ G.W a l):HC Tryz.prog 26 #[.agg #[.int .i64 (8:Int),.int .i64 (96:Int)]] h fun r h'=>∃ (sc:Nat) (G':Gh) (X:StD) (db sb:Nat),r=.tuple #[pv sc,.int .i64 0]∧To sSt G h G' h'∧G'.W=G.W∧SdIn G' h' 258 193 sc X (List.replicate 8 cl0) [] 0 0 db sb Sl.nil id∧SdOk G'.W 193 X [] 0∧Live X.dv∧X.D=⟨[],[],0,0,0,0,0,false⟩∧X.num=0∧X.pos=0∧X.count=0:=by
 apply wc26
 unfold vc26
 intro h1
 have e1:Ext h h1:=alc_ext _ _ _
 have r1:Row h1 h.size [.int .i64 (8:Int),.int .i64 (96:Int)]:=Row.alc _ _ _
 refine⟨_,_,r1.get0 rfl,r1.get rfl,(New_spec _ _ h1).mono ?_⟩
 rintro _ h2 ⟨e2,⟨hno,_⟩ | ⟨_,F,b,rfl,x2⟩⟩
 ·exact absurd ⟨by omega,by omega⟩ hno
 have t1:=t.ext e1
 obtain⟨G2,y2,w2,dv2⟩:=newDev t1 e2 x2
 have y02:To (fun _=>False) G h G2 h2:=(e1.to t).trans y2
 have hW:WOk G2.W:=fun a l hw=>by rw[w2]at hw;exact(hG _ _ hw).elim
 refine⟨_,_,rfl,.no rfl ((sMount_spec y2.ht dv2 (N:=192) (mt_new rfl dv2.1 hW 192) (by omega) (by omega)).mono ?_)⟩
 rintro _ h3 ⟨sb,G3,X,last,rfl,y3,w3,s3,o3,l3,hD,hz⟩
 obtain⟨rfl,hn,hp,hcn⟩:=hz rfl fun m _=>by show((Dv.new 8 96).z (6+m)).rows = [];rw[Dv.new_z]
 refine⟨_,_,rfl,.no rfl ?_⟩
 intro h4
 have e4:Ext h3 h4:=alc_ext _ _ _
 have row:Row h4 h3.size (scV b sb (List.replicate 8 cl0) Sl.nil 0):=Row.alc _ _ _
 obtain⟨y4,k4,w4⟩:=y3.ht.kindNew e4 (b:=h3.size) (Nat.le_refl _) row.lt (k := .one 1) id
 refine⟨h3.size,_,X,b,sb,rfl,((y02.mono fun _ h=>h.elim).trans y3).trans (y4.mono fun _ h=>h.elim),w4.trans (w3.trans w2),⟨k4,row,rfl,s3.to y4 (Nat.le_refl _) fun _ _ h=>h,fun k c hc=>?_,OwnK.nil _ _ _ _,fun i b hb=>by simp at hb⟩,?_,l3,hD,hn,hp,hcn⟩
 ·obtain rfl:c=cl0:=by
   have:=List.mem_of_getElem? hc
   exact List.eq_of_mem_replicate this
  exact⟨SlA.nil _ _,Nat.zero_le _,fun h=>(by cases h),OwnK.nil _ _ _ _,fun i hi=>(by cases hi),SlA.nil _ _,Nat.zero_le _,Nat.zero_le _⟩
 ·have hW4:∀ a l,¬ (G3.set h3.size (.one 1) 0).W a l:=fun a l hw=>by
   have hw:G3.W a l:=hw
   rw[w3,w2]at hw;exact hG _ _ hw
  refine⟨?_,?_,Nat.zero_le _,fun i b hb=>by simp at hb,fun a l hw=>absurd hw (hW4 a l)⟩
  ·have:(G3.set h3.size (.one 1) 0).W=G2.W:=w3
   rw[this];exact o3
  ·rw[hD];rfl
theorem dNew_spec{h:Hp}:HC Tryz.prog 26 #[.agg #[.int .i64 (8:Int),.int .i64 (96:Int)]] h fun r h'=>∃ (sc:Nat) (G':Gh) (X:StD) (db sb:Nat),r=.tuple #[pv sc,.int .i64 0]∧To sSt G00 h G' h'∧G'.W=G00.W∧SdIn G' h' 258 193 sc X (List.replicate 8 cl0) [] 0 0 db sb Sl.nil id∧SdOk G'.W 193 X [] 0∧Live X.dv∧X.D=⟨[],[],0,0,0,0,0,false⟩∧X.num=0∧X.pos=0∧X.count=0:=
 dNewG_spec (ht00 h) fun _ _ h=>h
end Go.Proofs.YtdpdkpfnfllipaaGreatDoor
