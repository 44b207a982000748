/- Parts of a proof, joined. -/
import Derived.Test.YtjnbpclolnmimaaGreatDoorJ12
import Derived.Test.YtjnbpclolnmimaaGreatDoorProg
import Derived.KernelRfl
import Derived.Defers
set_option linter.unusedSimpArgs false
set_option linter.unusedVariables false
set_option maxRecDepth 100000
set_option maxHeartbeats 4000000
section
open Go
namespace Dem
theorem aA {s:St} {P:St→Prop} (h:P s):rG (some s) P:=⟨h⟩
def YY (bx:List ax):List (Nat×ax)→List ax
 |[]=>bx
 |(i,b)::r=>YY (bx.set i b) r
def YZ (sl:List (Nat×AV)):List (Nat×AV)→List (Nat×AV)
 |[]=>sl
 |(i,v)::r=>YZ (put i v sl) r
def NH (s:St) (u:List (Nat×AV)) (b:List (Nat×ax)):St:=⟨YZ s.sl u,YY s.bx b⟩
theorem aZ {K:Nat} {A:(Ex→St→Prop)→St→Prop} {Q:Ex→St→Prop} {s:St} (nf:Nf) {σ:Type} (U:σ→List (Nat×AV)) (V:σ→List (Nat×ax)) (J:Nat→σ→Prop)
 (h:rG (yX K nf s) fun s0=>∃n0 v0,J n0 v0∧s0=NH s0 (U v0) (V v0)∧
  ∀n v,J n v→A (fun e s2=>nt (fun s2=>rG (yX K nf s2) (fun s3=>∃m v',(m<n∧J m v')∧s3=NH s0 (U v') (V v'))) Q e s2) (NH s0 (U v) (V v))):VS K A Q s:=by
 obtain ⟨h⟩:=h
 split at h
 ·rename_i s0 hn
  obtain ⟨n0,v0,hJ,hs,hr⟩:=h
  refine ⟨nf,fun n s1=>∃v,J n v∧s1=NH s0 (U v) (V v),n0,⟨?_⟩,?_⟩
  ·rw [hn];exact ⟨v0,hJ,hs⟩
  rintro n s1 ⟨v,hv,rfl⟩
  have e:(fun e s2=>nt (fun s2=>rG (yX K nf s2) (fun s3=>∃m v',(m<n∧J m v')∧s3=NH s0 (U v') (V v'))) Q e s2)=
   (fun e s2=>nt (fun s2=>rG (yX K nf s2) (fun s3=>∃m,m<n∧∃v,J m v∧s3=NH s0 (U v) (V v))) Q e s2):=by
   funext e s2
   congr 1
   funext s2
   congr 1
   funext s3
   apply propext
   constructor
   ·rintro ⟨m,v',⟨h1,h2⟩,h3⟩;exact ⟨m,h1,v',h2,h3⟩
   rintro ⟨m,h1,v',h2,h3⟩;exact ⟨m,v',⟨h1,h2⟩,h3⟩
  rw [←e];exact hr n v hv
 exact h.elim
theorem ai {p:Bool} {A B:Unit→Prop} (h1:p=true→A ()) (h2:p=false→B ()):wX (.d (.bool p)) A B:=.mk (And.intro h1 h2)
theorem mS {p:Bool} {A B:Unit→Prop} (hp:p=true) (h1:A ()):wX (.d (.bool p)) A B:=.mk (And.intro (fun _=>h1) (fun h=>by rw [hp] at h;cases h))
theorem qj {p:Bool} {A B:Unit→Prop} (hp:p=false) (h1:B ()):wX (.d (.bool p)) A B:=.mk (And.intro (fun h=>by rw [hp] at h;cases h) (fun _=>h1))
theorem gS {g:Bool} {c:Prop} {ds:List D} {K:List D→Prop} (ds':List D) (hc:c) (hd:ds=ds') (hK:K ds'):ol g c ds K:=⟨ds',fun _=>⟨hc,hd⟩,hK⟩
theorem WK {g:Bool} {c:Prop} {ds:List D} {K:List D→Prop} (ds':List D) (hc:c) (hd:ds=ds') (hK:K ds'):Qt g c ds K:=⟨ds',fun _=>⟨hc,hd⟩,hK⟩
theorem QK {g:Bool} {c:Prop} {ds:List D} {K:List D→Prop} (ds':List D) (h:g=true→c∧ds=ds') (hK:K ds'):ol g c ds K:=⟨ds',h,hK⟩
theorem bR {c:Prop} {v:AV} {bx:List ax} {K:AV→List ax→Prop} (v':AV) (aG:List ax) (hc:c) (hv:v=v') (hb:bx=aG) (hK:K v' aG):Qu c v bx K:=⟨v',aG,hc,hv,hb,hK⟩
theorem iX {g:Bool} {c:Prop} {v:AV} {K:AV→Prop} (v':AV) (h:g=true→c∧v=v') (hK:K v'):VK g c v K:=⟨v',h,hK⟩
theorem gI {g:Bool} {p K:Prop} (h:g=true→p) (k:K):xG g p∧K:=⟨⟨h⟩,k⟩
theorem pI {p:Bool} {a b K:Prop} (h:(p=true→a)∧(p=false→b)) (k:K):Mw p a b∧K:=⟨⟨h⟩,k⟩
section
variable {P:Program} {G:Nat→Option (List D)} {FC:Nat→List AV→List ax→fm→List ax→Prop} {kV:Prop} {f:Nat} {args args':List AV} {c:Prop} {bx tH iG:List ax} {v:AV} {K Kp:AV→List ax→Prop}
theorem gj (ho:kV) (h:FC f args' [] (.ret v) []) (hc:c) (hs:AV.shut.nj args'=true) (hf:v.flat=true) (hK:K v bx):qi FC kV f args (some (c,args')) bx K Kp:=
 ⟨ho,.inl ⟨c,args',rfl,hc,hs,.inl ⟨v,h,.inl hf,hK⟩⟩⟩
theorem HK (ho:kV) (h:FC f args' [] (.ret v) []) (hc:c) (hs:AV.shut.nj args'=true) (hz:eP [] args=some args') (hv:v.shut=true) (hK:K v bx):qi FC kV f args (some (c,args')) bx K Kp:=
 ⟨ho,.inl ⟨c,args',rfl,hc,hs,.inl ⟨v,h,.inr ⟨hz,hv⟩,hK⟩⟩⟩
theorem qn {sz n:Nat} {es:List (List D)} (ho:kV) (h:FC f args' [] (.ret (.ow 0 sz n)) [.row sz es]) (hc:c) (hs:AV.shut.nj args'=true) (hz:(∀r∈es,∀x∈r,x.flat=true)∨eP [] args=some args') (hK:K (.ow bx.length sz n) (bx++[.row sz es])):qi FC kV f args (some (c,args')) bx K Kp:=
 ⟨ho,.inl ⟨c,args',rfl,hc,hs,.inr ⟨sz,n,es,h,hz,hK⟩⟩⟩
theorem VU {fz:Option (Prop×List AV)} (ho:kV) (hfz:fz=some (c,args')) (hc:c) (h:FC f args' (eF bx args) (.ret v) iG) (hK:K v iG):qi FC kV f args fz bx K Kp:=
 ⟨ho,.inr ⟨args',eF bx args,.ret v,iG,.inr ⟨⟨c,hfz,hc⟩,rfl⟩,h,hK⟩⟩
theorem dn {fz:Option (Prop×List AV)} (ho:kV) (h:FC f args bx (.ret v) iG) (hK:K v iG):qi FC kV f args fz bx K Kp:=
 ⟨ho,.inr ⟨args,bx,.ret v,iG,.inl ⟨rfl,rfl⟩,h,hK⟩⟩
theorem HL {dr g:Bool} {v:AV} {K:AV→Prop} (h:g=true→kV∧c∧FC f args' [] (.ret v) []) (hs:AV.bL.cL [] args'=true) (hf:v.flat=true) (hK:K v):pH FC dr g kV f args bx (some (c,args')) K:=
 ⟨.inr ⟨v,fun hg=>⟨(h hg).1,args',[],⟨c,rfl,(h hg).2.1⟩,hs,⟨false,rfl,fun h=>by cases h⟩,by simp,(h hg).2.2,.inl hf⟩,hK⟩⟩
theorem mT {dr g:Bool} {v:AV} {K:AV→Prop} (h:g=true→kV∧c∧FC f args' [] (.ret v) []) (hs:AV.bL.cL [] args'=true) (hz:eP [] args=some args') (hf:v.shut=true) (hK:K v):pH FC dr g kV f args bx (some (c,args')) K:=
 ⟨.inr ⟨v,fun hg=>⟨(h hg).1,args',[],⟨c,rfl,(h hg).2.1⟩,hs,⟨false,rfl,fun h=>by cases h⟩,by simp,(h hg).2.2,.inr ⟨hz,hf⟩⟩,hK⟩⟩
theorem WL {P:Program} {G:Nat→Option (List D)} {dr g:Bool} {v:AV} {K:AV→Prop} {jG:List AV} {aE:List ax} (ks:List Bool) (b9:List Nat) (ho:g=true→kV∧c∧bg P G f jG aE (.ret v) aE)
 (hn:AV.bL.cL (kill ks bx) args'=true) (hl:dI false (kill ks bx) (kill ks bx)=true) (hv:v.flat=true∨eP [] args=some args'∧v.shut=true)
 (ha:AV.vQ (fun b=>dB b b9 0) args'=some jG) (hb:fD (fun b=>dB b b9 0) (kill ks bx) b9=some aE) (hb':Br b9 (kill ks bx) aE=some (kill ks bx)) (hr:fm.iq (jF b9 (kill ks bx).length) (.ret v)=some (.ret v))
 (hK:K v):pH (bg P G) dr g kV f args bx (some (c,args')) K:=by
 refine ⟨.inr ⟨v,fun hg=>⟨(ho hg).1,args',kill ks bx,⟨c,rfl,(ho hg).2.1⟩,hn,⟨false,hl,fun h=>by cases h⟩,?_,eZ b9 ha hb hr hb' (ho hg).2.2,hv⟩,hK⟩⟩
 intro i b hi dj
 obtain ⟨b0,h1,h2⟩:=kN ks bx i b hi
 rcases h2 with rfl|⟨rfl,h3⟩
 ·exact ⟨_,h1,dj,fun _=>rfl⟩
 exact ⟨b0,h1,h3,fun h=>by simp [ax.live] at h⟩
theorem TL {P:Program} {G:Nat→Option (List D)} {dr g:Bool} {v:AV} {K:AV→Prop} {jG:List AV} {aE:List ax} (ks:List Bool) (b9:List Nat) (ho:g=true→kV∧c∧bg P G f jG aE (.ret v) aE)
 (hn:AV.bL.cL (kill ks bx) args'=true) (hz:eP [] args=some args') (hl:dI true (kill ks bx) (kill ks bx)=true) (hv:v.flat=true∨eP [] args=some args'∧v.shut=true)
 (ha:AV.vQ (fun b=>dB b b9 0) args'=some jG) (hb:fD (fun b=>dB b b9 0) (kill ks bx) b9=some aE) (hb':Br b9 (kill ks bx) aE=some (kill ks bx)) (hr:fm.iq (jF b9 (kill ks bx).length) (.ret v)=some (.ret v))
 (hK:K v):pH (bg P G) dr g kV f args bx (some (c,args')) K:=by
 refine ⟨.inr ⟨v,fun hg=>⟨(ho hg).1,args',kill ks bx,⟨c,rfl,(ho hg).2.1⟩,hn,⟨true,hl,fun _=>hz⟩,?_,eZ b9 ha hb hr hb' (ho hg).2.2,hv⟩,hK⟩⟩
 intro i b hi dj
 obtain ⟨b0,h1,h2⟩:=kN ks bx i b hi
 rcases h2 with rfl|⟨rfl,h3⟩
 ·exact ⟨_,h1,dj,fun _=>rfl⟩
 exact ⟨b0,h1,h3,fun h=>by simp [ax.live] at h⟩
theorem WM {P:Program} {G:Nat→Option (List D)} {g:Bool} {v:AV} {K:AV→Prop} {fz:Option (Prop×List AV)} {jG:List AV} {aE:List ax} (b9:List Nat) (ho:g=true→kV∧bg P G f jG aE (.ret v) aE)
 (ha:AV.vQ (fun b=>dB b b9 0) args=some jG) (hb:fD (fun b=>dB b b9 0) bx b9=some aE) (hb':Br b9 bx aE=some bx) (hr:fm.iq (jF b9 bx.length) (.ret v)=some (.ret v))
 (hK:K v):pH (bg P G) false g kV f args bx fz K:=
 ⟨.inl ⟨rfl,v,fun hg=>⟨(ho hg).1,eZ b9 ha hb hr hb' (ho hg).2⟩,hK⟩⟩
theorem MB {x sz n:Nat} {es:List (List D)} {at_:Option ax} {K:AV→ax→Prop} (ho:kV) (h:FC f args' [] (.ret (.ow 0 sz n)) [.row sz es]) (hc:c) (hs:AV.shut.nj args'=true) (hz:(∀r∈es,∀x∈r,x.flat=true)∨eP [] args=some args') (TM:at_=some .bA)
 (hK:K (.ow x sz n) (.row sz es)):VL FC kV f args (some (c,args')) at_ x K:=⟨args',sz,n,es,ho,⟨c,rfl,hc⟩,hs,h,hz,TM,hK⟩
structure QL (r:Option fm) (b:Option (List ax)) (K:AV→List ax→Prop):Prop where
 ok:match r,b with
  |some (.ret v),some bx=>K v bx
  |_,_=>False
theorem bK {v:AV} {bx:List ax} {K:AV→List ax→Prop} (h:K v bx):QL (some (.ret v)) (some bx) K:=⟨h⟩
theorem cE {fz:Option (Prop×List AV)} (b9:List Nat) {jG:List AV} {aE vT:List ax} {v0:AV} (ho:kV)
 (ha:AV.vQ (fun b=>dB b b9 0) args=some jG) (hb:fD (fun b=>dB b b9 0) bx b9=some aE) (h:bg P G f jG aE (.ret v0) vT)
 (hK:QL (fm.iq (jF b9 bx.length) (.ret v0)) (Br b9 bx vT) K):qi (bg P G) kV f args fz bx K Kp:=by
 obtain ⟨hK⟩:=hK
 split at hK
 ·rename_i v aG hr hb'
  exact dn ho (eZ b9 ha hb hr hb' h) hK
 exact hK.elim
end
section
variable {n:Nat} {c d:Prop} {v u:AV} {bx aG:List ax} {res:fm} {fz:Option (Prop×AV)}
theorem an (hc:c) (hd:d) (hw:u.within n=true) (hb:aG=(qQ bx v).take n) (WN:cm n aG=true) (hr:res=.ret u):Bq n c v bx (some (d,u)) res aG:=
 ⟨hc,.inr (.inl ⟨[],d,u,rfl,hd,hw,hb,WN,hr⟩)⟩
theorem Bt (ks:List Bool) (hc:c) (hd:d) (hw:u.within n=true) (hb:aG=(kill ks (qQ bx v)).take n) (WN:cm n aG=true) (hr:res=.ret u):Bq n c v bx (some (d,u)) res aG:=
 ⟨hc,.inr (.inl ⟨ks,d,u,rfl,hd,hw,hb,WN,hr⟩)⟩
theorem QM (hc:c) (hb:aG=bx) (hr:res=.ret v):Bq n c v bx fz res aG:=⟨hc,.inl ⟨hr,hb⟩⟩
theorem Fb {k sz m:Nat} {es:List (List D)} (hc:c) (hk:bx[k]?=some (.row sz es)) (h1:Nat.ble n k=true) (h2:Nat.ble n bx.length=true) (WN:cm n (bx.take n)=true) (hr:res=.ret (.ow n sz m)) (hb:aG=bx.take n++[.row sz es]):Bq n c (.ow k sz m) bx fz res aG:=
 ⟨hc,.inr (.inr (.inl ⟨k,sz,m,es,rfl,hk,Nat.le_of_ble_eq_true h1,Nat.le_of_ble_eq_true h2,WN,hr,hb⟩))⟩
theorem Kz {sz:Nat} (hc:c) (h2:Nat.ble n bx.length=true) (WN:cm n (bx.take n)=true) (hr:res=.ret (.ow n sz 0)) (hb:aG=bx.take n++[.row sz []]):Bq n c (.cl []) bx fz res aG:=
 ⟨hc,.inr (.inr (.inr ⟨sz,rfl,Nat.le_of_ble_eq_true h2,WN,hr,hb⟩))⟩
end
theorem fJ {P:Program} {G:Nat→Option (List D)} {f b sz n:Nat} {args:List AV} {bx aG:List ax} {res:fm}
 (h:∀c,n≤c→(n=0→c=0)→bg P G f (.vw b sz 0 n c true::args) bx res aG):bg P G f (.ow b sz n::args) bx res aG:=by
 intro β w vs X cx hx
 simp only [aj] at hx
 obtain ⟨u,us,rfl,hx,hxs⟩:=hx
 simp only [ah] at hx
 obtain ⟨hb,⟨rfl,base,rfl⟩|⟨h0,cap,c,e,f',rfl,h1,h2,h3⟩⟩:=hx
 ·refine h 0 (Nat.le_refl _) (fun _=>rfl) β w _ X cx ?_
  simp only [aj,ah]
  exact ⟨_,us,rfl,⟨hb,base,0,#[],0,(0,0),rfl,Nat.le_refl _,Nat.le_refl _,fun _=>rfl,.inl rfl⟩,hxs⟩
 refine h cap h1 (fun h=>absurd h h0) β w _ X cx ?_
 simp only [aj,ah]
 exact ⟨_,us,rfl,⟨hb,_,cap,c,e,f',rfl,h1,Nat.le_refl _,fun _=>rfl,.inr ⟨by simp,h2,by simpa using h3⟩⟩,hxs⟩
theorem wrap64 {x:Int} (h0:-9223372036854775808≤x) (h1:x<9223372036854775808):IntKind.i64.wrap x=x:=by
 simp [IntKind.wrap,IntKind.signed,IntKind.bits];omega
end Dem
end
section
open Go
namespace Dem
def qU:AV:=.d (.int .u64 0)
def qI:AV:=.d (.int .i64 0)
def qS:AV:=.d (.str [])
def qF:AV:=.d (.bool false)
def qY:AV:=.d (.int .u8 0)
def qC:AV:=.cl []
def oV:Option TI:=some ⟨1,8,.other,.k .nilFunc,true,none⟩
def qD:Option TI:=some ⟨1,0,.other,.any,true,none⟩
def VV:Option TI:=some ⟨1,8,.other,.k .oW,true,none⟩
def Y0:Option TI:=some ⟨1,16,.iface,.k .nilIface,true,none⟩
def wT4:Option TI:=some ⟨1,1,.int .u8,qY,true,none⟩
def wT5:Option TI:=some ⟨2,24,.struct [(0,9),(1,3)],.agg [qS,qI],true,none⟩
def wT6:Option TI:=some ⟨1,8,.int .i64,qI,true,none⟩
def wT7:Option TI:=some ⟨1,16,.str,qS,true,none⟩
def wT8:Option TI:=some ⟨1,8,.int .u64,qU,true,none⟩
def wT9:Option TI:=some ⟨1,4,.int .i32,.d (.int .i32 0),true,none⟩
def WO:Option TI:=some ⟨0,0,.struct [],.agg [],true,none⟩
def Y1:Option TI:=some ⟨4,24,.struct [(0,2),(1,3),(2,4),(3,6)],.agg [qI,qI,qF,qY],true,none⟩
def Y2:Option TI:=some ⟨2,24,.struct [(0,9),(1,12)],.agg [qS,qU],false,none⟩
def Y3:Option TI:=some ⟨1,8,.struct [(0,17)],.agg [.k .oW],false,none⟩
def Y4:Option TI:=some ⟨2,32,.struct [(0,23),(1,22)],.agg [qU,qC],true,none⟩
def Y5:Option TI:=some ⟨3,24,.struct [(0,23),(1,23),(2,3)],.agg [qU,qU,qI],true,none⟩
def Y6:Option TI:=some ⟨2,48,.struct [(0,34),(1,35)],.agg [qC,qC],true,none⟩
def Y7:Option TI:=some ⟨1,24,.slice 82,qC,true,none⟩
def Y8:Option TI:=some ⟨11,200,.struct [(0,23),(1,23),(2,37),(4,38),(5,39),(6,40),(7,26),(9,26)],.agg [qU,qU,qC,qC,qC,qC,qC,qU,qC,qU,qC],true,none⟩
def Y9:Option TI:=some ⟨5,5,.struct [(0,5),(1,5),(2,5),(3,5),(4,5)],.agg [qY,qY,qY,qY,qY],true,none⟩
def Za:Option TI:=some ⟨4,32,.array 4 23,.agg [qU,qU,qU,qU],true,none⟩
def Zb:Option TI:=some ⟨9,96,.struct [(0,9),(1,50),(5,3),(6,3),(7,3),(8,51)],.agg [qS,qU,qU,qU,qU,qI,qI,qI,qC],true,none⟩
def Zc:Option TI:=some ⟨12,120,.struct [(0,23),(1,53),(10,4),(11,3)],.agg [qU,qS,qU,qU,qU,qU,qI,qI,qI,qC,qF,qI],true,none⟩
def Zd:Option TI:=some ⟨6,56,.struct [(0,23),(1,9),(2,50)],.agg [qU,qS,qU,qU,qU,qU],true,none⟩
def Ze:Option TI:=some ⟨9,80,.struct [(0,9),(1,50),(5,50)],.agg [qS,qU,qU,qU,qU,qU,qU,qU,qU],true,none⟩
def Zf:Option TI:=some ⟨2,32,.struct [(0,9),(1,9)],.agg [qS,qS],true,none⟩
def Zg:Option TI:=some ⟨7,80,.struct [(0,9),(1,50),(5,93),(6,4)],.agg [qS,qU,qU,qU,qU,qC,qF],true,none⟩
def Zh:Option TI:=some ⟨11,200,.struct [(0,42)],.agg [qU,qU,qC,qC,qC,qC,qC,qU,qC,qU,qC],true,none⟩
def Zi:Option TI:=some ⟨2,16,.struct [(0,23),(1,3)],.agg [qU,qI],true,none⟩
def Zj:Option TI:=some ⟨6,72,.struct [(0,9),(1,50),(5,93)],.agg [qS,qU,qU,qU,qU,qC],true,none⟩
def Zk:Option TI:=some ⟨1,8,.struct [(0,181)],.agg [.k .nilFunc],true,none⟩
def Zl:Option TI:=some ⟨4,32,.struct [(0,50)],.agg [qU,qU,qU,qU],true,none⟩
def Zm:Option TI:=some ⟨2,8,.struct [(0,21),(1,21)],.agg [.d (.int .i32 0),.d (.int .i32 0)],true,none⟩
def Zn:Option TI:=some ⟨2,32,.struct [(0,268),(1,85)],.agg [.k .oW,qC],true,none⟩
def Zo:Option TI:=some ⟨2,2,.struct [(0,5),(1,5)],.agg [qY,qY],true,none⟩
def Zp:Option TI:=some ⟨4,40,.struct [(0,17),(1,17),(2,17),(3,9)],.agg [.k .oW,.k .oW,.k .oW,qS],false,none⟩
def Zq:Option TI:=some ⟨0,0,.struct [(0,333)],.agg [],false,none⟩
def Zr:Option TI:=some ⟨11,48,.struct [(0,12),(1,12),(2,328),(3,336),(4,5),(5,5),(6,337),(7,338),(8,299),(9,339),(10,340)],.agg [qU,qU,.d (.int .u32 0),qY,qY,qY,qY,.k .nilFunc,.k .oW,.d (.int .i32 0),.d (.int .i32 0)],false,none⟩
def abj (t:Nat):Option TI:=(if t<9 then (if t<5 then if t=0 then qD else if t=2 then wT6 else if t=3 then wT6 else if t=4 then some ⟨1,1,.bool,qF,true,none⟩ else oV else if t=5 then wT4 else if t=6 then wT4 else if t=7 then Y1 else if t=8 then Y1 else oV) else (if t<13 then if t=9 then wT7 else if t=10 then wT7 else if t=11 then wT7 else if t=12 then wT8 else oV else if t=13 then Y2 else if t=14 then Y2 else if t=15 then VV else if t=16 then VV else oV))
def abk (t:Nat):Option TI:=(if t<26 then (if t<21 then if t=17 then VV else if t=18 then Y3 else if t=19 then Y3 else if t=20 then Y0 else oV else if t=21 then wT9 else if t=22 then some ⟨1,24,.slice 29,qC,true,none⟩ else if t=23 then wT8 else if t=25 then Y4 else oV) else (if t<33 then if t=26 then Y4 else if t=28 then Y5 else if t=29 then Y5 else if t=30 then qD else oV else if t=33 then some ⟨1,24,.slice 45,qC,true,none⟩ else if t=34 then some ⟨1,24,.slice 99,qC,true,none⟩ else if t=35 then some ⟨1,24,.slice 78,qC,true,none⟩ else if t=36 then Y6 else oV))
def abl (t:Nat):Option TI:=(if t<49 then (if t<41 then if t=37 then Y6 else if t=38 then Y7 else if t=39 then some ⟨1,24,.slice 61,qC,true,none⟩ else if t=40 then some ⟨1,24,.slice 118,qC,true,none⟩ else oV else if t=41 then Y8 else if t=42 then Y8 else if t=44 then Y9 else if t=45 then Y9 else oV) else (if t<53 then if t=49 then Za else if t=50 then Za else if t=51 then some ⟨1,24,.slice 172,qC,true,none⟩ else if t=52 then Zb else oV else if t=53 then Zb else if t=55 then wT6 else if t=56 then qD else if t=60 then Zc else oV))
def abm (t:Nat):Option TI:=(if t<79 then (if t<72 then if t=61 then Zc else if t=62 then qD else if t=66 then qD else if t=70 then some ⟨1,2,.int .u16,.d (.int .u16 0),true,none⟩ else oV else if t=72 then qD else if t=75 then qD else if t=77 then Zd else if t=78 then Zd else oV) else (if t<85 then if t=79 then some ⟨1,24,.slice 9,qC,true,none⟩ else if t=81 then Ze else if t=82 then Ze else if t=83 then qD else oV else if t=85 then some ⟨1,24,.slice 5,qC,true,none⟩ else if t=91 then qD else if t=93 then some ⟨1,24,.slice 95,qC,true,none⟩ else if t=94 then Zf else oV))
def abn (t:Nat):Option TI:=(if t<115 then (if t<101 then if t=95 then Zf else if t=96 then qD else if t=98 then Zg else if t=99 then Zg else oV else if t=101 then qD else if t=103 then some ⟨1,24,.slice 177,qC,true,none⟩ else if t=105 then Zh else if t=106 then Zh else oV) else (if t<148 then if t=115 then qD else if t=117 then Zi else if t=118 then Zi else if t=136 then qD else oV else if t=148 then WO else if t=149 then WO else if t=150 then qD else if t=151 then VV else oV))
def abo (t:Nat):Option TI:=(if t<183 then (if t<172 then if t=152 then wT5 else if t=153 then wT5 else if t=156 then Y7 else if t=171 then some ⟨3,48,.struct [(0,9),(1,4),(2,79)],.agg [qS,qF,qC],true,none⟩ else oV else if t=172 then some ⟨3,48,.struct [(0,9),(1,4),(2,79)],.agg [qS,qF,qC],true,some ("demesne/sel.holds",196)⟩ else if t=174 then qD else if t=176 then Zj else if t=177 then Zj else oV) else (if t<203 then if t=183 then some ⟨1,8,.map 23 3,.k .Ez,true,none⟩ else if t=188 then Zk else if t=189 then Zk else if t=201 then wT8 else oV else if t=203 then some ⟨1,24,.slice 3,qC,true,none⟩ else if t=206 then qD else if t=209 then qD else if t=213 then qD else oV))
def abp (t:Nat):Option TI:=(if t<237 then (if t<226 then if t=214 then qD else if t=219 then Zl else if t=220 then Zl else if t=225 then some ⟨1,24,.slice 227,qC,true,none⟩ else oV else if t=226 then Zm else if t=227 then Zm else if t=228 then some ⟨6,24,.array 3 227,.agg [.d (.int .i32 0),.d (.int .i32 0),.d (.int .i32 0),.d (.int .i32 0),.d (.int .i32 0),.d (.int .i32 0)],true,none⟩ else if t=229 then some ⟨4,16,.array 2 227,.agg [.d (.int .i32 0),.d (.int .i32 0),.d (.int .i32 0),.d (.int .i32 0)],true,none⟩ else oV) else (if t<255 then if t=237 then qD else if t=247 then qD else if t=249 then qD else if t=252 then qD else oV else if t=255 then qD else if t=257 then qD else if t=260 then qD else if t=266 then some ⟨1,24,.slice 23,qC,true,none⟩ else oV))
def abq (t:Nat):Option TI:=(if t<280 then (if t<273 then if t=268 then VV else if t=269 then Zn else if t=270 then Zn else if t=272 then Y0 else oV else if t=273 then Y0 else if t=274 then qD else if t=277 then qD else if t=278 then qD else oV) else (if t<286 then if t=280 then qD else if t=282 then qD else if t=284 then qD else if t=285 then some ⟨3,24,.array 3 23,.agg [qU,qU,qU],true,none⟩ else oV else if t=286 then qD else if t=292 then qD else if t=294 then Y0 else if t=295 then Y0 else oV))
def abr (t:Nat):Option TI:=(if t<318 then (if t<306 then if t=299 then VV else if t=303 then VV else if t=304 then wT5 else if t=305 then wT5 else oV else if t=306 then WO else if t=310 then some ⟨0,0,.struct [],.agg [],true,some ("demesne/sel.holds",267)⟩ else if t=311 then some ⟨1,24,.slice 9,qC,true,some ("demesne/sel.holds",268)⟩ else if t=315 then VV else oV) else (if t<326 then if t=318 then qD else if t=320 then qD else if t=324 then some ⟨256,256,.array 256 5,.agg [qY,qY,qY,qY,qY,qY,qY,qY,qY,qY,qY,qY,qY,qY,qY,qY,qY,qY,qY,qY,qY,qY,qY,qY,qY,qY,qY,qY,qY,qY,qY,qY,qY,qY,qY,qY,qY,qY,qY,qY,qY,qY,qY,qY,qY,qY,qY,qY,qY,qY,qY,qY,qY,qY,qY,qY,qY,qY,qY,qY,qY,qY,qY,qY,qY,qY,qY,qY,qY,qY,qY,qY,qY,qY,qY,qY,qY,qY,qY,qY,qY,qY,qY,qY,qY,qY,qY,qY,qY,qY,qY,qY,qY,qY,qY,qY,qY,qY,qY,qY,qY,qY,qY,qY,qY,qY,qY,qY,qY,qY,qY,qY,qY,qY,qY,qY,qY,qY,qY,qY,qY,qY,qY,qY,qY,qY,qY,qY,qY,qY,qY,qY,qY,qY,qY,qY,qY,qY,qY,qY,qY,qY,qY,qY,qY,qY,qY,qY,qY,qY,qY,qY,qY,qY,qY,qY,qY,qY,qY,qY,qY,qY,qY,qY,qY,qY,qY,qY,qY,qY,qY,qY,qY,qY,qY,qY,qY,qY,qY,qY,qY,qY,qY,qY,qY,qY,qY,qY,qY,qY,qY,qY,qY,qY,qY,qY,qY,qY,qY,qY,qY,qY,qY,qY,qY,qY,qY,qY,qY,qY,qY,qY,qY,qY,qY,qY,qY,qY,qY,qY,qY,qY,qY,qY,qY,qY,qY,qY,qY,qY,qY,qY,qY,qY,qY,qY,qY,qY,qY,qY,qY,qY,qY,qY,qY,qY,qY,qY,qY,qY,qY,qY,qY,qY,qY,qY],true,none⟩ else if t=325 then Zo else oV else if t=326 then Zo else if t=327 then some ⟨32,32,.array 16 326,.agg [qY,qY,qY,qY,qY,qY,qY,qY,qY,qY,qY,qY,qY,qY,qY,qY,qY,qY,qY,qY,qY,qY,qY,qY,qY,qY,qY,qY,qY,qY,qY,qY],true,none⟩ else if t=328 then some ⟨1,4,.int .u32,.d (.int .u32 0),true,none⟩ else if t=329 then qD else oV))
def abt (t:Nat):Option TI:=(if t<336 then (if t<333 then if t=331 then Zp else if t=332 then Zp else oV else if t=333 then some ⟨0,0,.array 0 16,.agg [],true,none⟩ else if t=334 then Zq else if t=335 then Zq else oV) else (if t<340 then if t=336 then wT4 else if t=337 then wT4 else if t=339 then wT9 else oV else if t=340 then wT9 else if t=341 then Zr else if t=342 then Zr else oV))
def tb (t:Nat):Option TI:=(if t<152 then (if t<37 then (if t<17 then abj t else abk t) else (if t<61 then abl t else (if t<95 then abm t else abn t))) else (if t<268 then (if t<214 then abo t else abp t) else (if t<299 then abq t else (if t<331 then abr t else abt t))))
def tT (t:Nat):Option TI:=if t<345 then tb t else none
theorem Zs:(List.range 345).map (qz Go.Proofs.Tryz.prog)=(List.range 345).map tb:=by kernel_rfl
def QN:Bool:=(List.range 345).all fun t=>match tb t with
 |some ti=>match ti.kd with
  |.struct fs=>fs.all fun f=>(tT f.2).isSome
  |_=>true
 |none=>true
theorem HM:QN=true:=by kernel_rfl
theorem KA:iH Go.Proofs.Tryz.prog tT:=by
 refine ⟨?_,?_,?_⟩
 ·intro t ti h
  unfold tT at h
  split at h
  ·rename_i ht'
   have e:=congrArg (fun l=>l[t]?) Zs
   simp only [List.getElem?_map,List.getElem?_range ht',Option.map_some,osI] at e
   rw [e,h]
  cases h
 ·intro t ti fs h hk f hf
  unfold tT at h
  split at h
  ·rename_i ht'
   have hall:=List.all_eq_true.1 HM t (by simp [ht'])
   simp only [h,hk] at hall
   have:=List.all_eq_true.1 hall f hf
   exact Option.isSome_iff_exists.1 this
  cases h
 exact Nat.le_of_ble_eq_true (by kernel_rfl)
def gl (g:Nat):Option (List D):=
 bif Nat.beq g 0 then some [.int .i32 97,.int .i32 122,.int .i32 945,.int .i32 969,.int .i32 1072,.int .i32 1103] else
 bif Nat.beq g 1 then some [.int .i32 48,.int .i32 57,.int .i32 45,.int .i32 45] else none
def FC:Nat→List AV→List ax→fm→List ax→Prop:=bg Go.Proofs.Tryz.prog gl
theorem nS:kX Go.Proofs.Tryz.prog tT gl:=Tu KA (by kernel_rfl)
theorem HN (tS tR:TypeId) (a:Addr) (ba:Option Addr) (la ca lb cb:Nat):∃(m:String) (ch:Sem Nat),
 Extern.SlicesOverlaps.overlaps #[tS,tS] #[tR] #[.slice (some a) la ca,.slice ba lb cb]=(do
 let .slice elem ←underlying tS|stuck m
 let size ←Go.sizeOf elem
 match ba with
 |some b=>
  if la=0∨lb=0∨size=0 then pure (Value.bool false)
  else if a.block !=b.block&&(←frozen a)&&(←frozen b) then unsupported .addressObserved
  else do
   if a.block !=b.block then do
    noView a;noView b
    if ←mayBeOne a b then return Value.bool ((←ch)==1)
   pure (Value.bool (a.block==b.block&&a.off<b.off+lb*size&&b.off<a.off+la*size))
 |none=>pure (Value.bool false)):=by
 apply Exists.intro
 apply Exists.intro
 cases ba with
 |some b=>rfl
 |none=>rfl
theorem xK {P:Program} (w:World) (tS tR e:TypeId) (ht:P.underlying tS=some (.slice e)) {size:Nat} (hz:∀w,(Go.sizeOf e).run P w=.ok size w)
 (a:Addr) (ba:Option Addr) (la ca lb cb:Nat) {tA:TypeId} {kA:Nat} (Zt:w.shape? a.block=some (tA,kA)) (hkA:kA≠0)
 (hb:lb=0∨∃b c e',ba=some b∧b.spot=none∧a.block≠b.block∧w.heap[b.block]?=some (.cells c e' (0,0))):
 (Extern.SlicesOverlaps.overlaps #[tS,tS] #[tR] #[.slice (some a) la ca,.slice ba lb cb]).run P w=.ok (.bool false) w:=by
 have kW:(underlying tS).run P w=.ok (.slice e) w:=aQ ht
 obtain ⟨m,ch,e⟩:=HN tS tR a ba la ca lb cb
 rw [e]
 clear e
 cases ba with
 |none=>simp [kW,hz]
 |some b=>
 by_cases h0:la=0∨lb=0∨size=0
 ·simp [kW,hz,h0]
 rcases hb with hb|⟨b',c,e',hbe,hsp,hne,hh⟩
 ·exact absurd (.inr (.inl hb)) h0
 simp only [osI] at hbe;subst hbe
 have hnb:(a.block !=b.block)=true:=by simpa using hne
 have abv:(a.block==b.block)=false:=by simpa using hne
 have Ns:w.shape? b.block=some (e',c.size):=by simp [World.shape?,hh]
 have hf:∀off sp,w.frozen? {block:=b.block,off:=off,spot:=sp}=false:=by intro off sp;simp [World.frozen?,hh]
 have hfb:w.frozen? b=false:=hf _ _
 cases kA with
 |zero=>exact absurd rfl hkA
 |succ kA=>
 cases h1:w.frozen? a<;>cases h2:w.frozen? {block:=a.block,off:=kA+1}<;>
  simp [kW,hz,h0,hnb,abv,frozen,noView,Go.viewAt,mayBeOne,stringish,shape,Sem.run,Zt,Ns,hfb,hf,h1,h2]
theorem ir {P:Program} {G:Nat→Option (List D)} {T:Nat→Option TI} (hT:iH P T) {f:Nat} {fn:Func} {tS tR:TypeId} (hf:P.funcs[f]?=some fn) (hname:(fn.name== "runtime.NumGoroutine")=false)
 (hb:fn.body.isNone=true) (hn:Extern.findNext fn=none) (he:Extern.find fn=some (Extern.SlicesOverlaps.overlaps #[tS,tS] #[tR])) {te:TI} (hel:elemOf T tS=some te)
 {b sz off n c:Nat} {ex:Bool} {es:List (List D)} {x:D} {row:List D} {xs:List (List D)} {bx:List ax} (sB:bx[b]?=some (.row sz es)) (hne:es≠[]):
 bg P G f [.d (.sl ((x::row)::xs)),.vw b sz off n c ex] bx (.ret (.d (.bool false))) bx:=by
 intro β w vs X cx hx
 simp only [aj,ah,aK] at hx
 obtain ⟨u1,us1,rfl,⟨base,cap,rfl,_,h1⟩,u2,PS,rfl,⟨_,QO,Tj,cs,e2,f2,rfl,k1,k2,k3,k4⟩,rfl⟩:=hx
 obtain ⟨ti,e,t1,t2,t3⟩:=eG hel
 have kW:=fB hT t1 t2
 obtain ⟨ei,ed,g1,g2,g3,g4,g5,g6⟩:=aJ (hT.ti _ _ t3)
 rcases h1 with h1|⟨aB,o,sz2,rfl,hok,hrows⟩
 ·simp at h1
 simp only [av,aY] at hrows
 obtain ⟨_,⟨⟨u,hcell,_⟩,_⟩,_⟩:=hrows
 have Zt:∃tA kA,w.shape? aB=some (tA,kA)∧kA≠0:=by
  simp only [World.cell?] at hcell
  split at hcell
  ·rename_i ca ea fa hh
   refine ⟨ea,ca.size,by simp [World.shape?,hh],?_⟩
   intro h0
   simp at hcell
   obtain ⟨hlt,_⟩:=Array.getElem?_eq_some_iff.1 hcell
   omega
  simp at hcell
 obtain ⟨tA,kA,Zt,hkA⟩:=Zt
 have cr:(ax.row sz es).live=true:=by cases es<;>simp_all [ax.live]
 have hrun:=xK (P:=P) w tS tR e kW (fun w=>bN g1) ⟨aB,o,none⟩ QO (xs.length+1) cap n Tj Zt hkA (by
  rcases k4 with k4|⟨rfl,k5,k6⟩
  ·left;omega
  rcases cx.box _ _ sB with h0|⟨c3,e3,j1,j2⟩
  ·exact absurd h0 hne
  exact .inr ⟨_,c3,e3,rfl,rfl,fun heq=>hok.2.2 b _ sB cr heq.symm,j1⟩)
 refine .inr ⟨.bool false,w,?_,β,Ext.refl _ _ _,cx,by simp only [fC,ah,aK]⟩
 rw [run_callFunc_extern hf hname hb hn he]
 have e1:(({toList:=[.slice (some ⟨aB,o,none⟩) ((x::row)::xs).length cap,.slice QO n Tj]}:Array Value))=#[.slice (some ⟨aB,o,none⟩) (xs.length+1) cap,.slice QO n Tj]:=rfl
 rw [e1,hrun]
 rfl
end Dem
end
section
open Go
namespace Dem
section
variable {P:Program} {G:Nat→Option (List D)} {bx:List ax}
theorem HO {f:Nat} {args oA:List AV} {v:AV} (ks:List Bool) (hz:eP bx args=some oA) (hn:AV.bL.cL (kill ks bx) oA=true) (hl:dI false (kill ks bx) (kill ks bx)=true)
 (hv:v.flat=true∨eP [] args=some oA∧v.shut=true) (h:bg P G f oA (kill ks bx) (.ret v) (kill ks bx)):bg P G f args bx (.ret v) bx:=by
 intro β w vs X cx hx
 refine jD.mono (yM cx hx ⟨oA,kill ks bx,hz,hn,⟨false,hl,fun h=>by cases h⟩,?_,h,hv⟩) ?_
 ·intro i b hi dj
  obtain ⟨b0,h1,h2⟩:=kN ks bx i b hi
  rcases h2 with rfl|⟨rfl,h3⟩
  ·exact ⟨_,h1,dj,fun _=>rfl⟩
  exact ⟨b0,h1,h3,fun h=>by simp [ax.live] at h⟩
 rintro e w' ⟨u,rfl,h2,h3,h4⟩
 exact ⟨β,h2,h3,h4⟩
theorem VW {t:Th} (ht:t=t0) {kV:Prop} {fz:Option (Prop×List AV)} {f:Nat} {args oA jG:List AV} {bx aE:List ax} {v:AV} {c:Prop} {K Kp:AV→List ax→Prop} (ks:List Bool) (b9:List Nat) (ho:kV)
 (hz:rF t bx args=some (c,oA)) (hc:c) (hn:AV.bL.cL (kill ks bx) oA=true) (hl:dI false (kill ks bx) (kill ks bx)=true) (hv:v.flat=true)
 (ha:AV.vQ (fun b=>dB b b9 0) oA=some jG) (hb:fD (fun b=>dB b b9 0) (kill ks bx) b9=some aE) (hb':Br b9 (kill ks bx) aE=some (kill ks bx)) (hr:fm.iq (jF b9 (kill ks bx).length) (.ret v)=some (.ret v))
 (h:bg P G f jG aE (.ret v) aE) (hK:K v bx):qi (bg P G) kV f args fz bx K Kp:=by
 subst ht
 exact dn ho (HO ks (gD hz hc) hn hl (.inl hv) (eZ b9 ha hb hr hb' h)) hK
end
end Dem
end
section
open Go
namespace Dem
abbrev TT (t:Th):Prop:=∀(α:Type) (f:Unit→α),t α f=f ()
theorem jH {t:Th} (ht:TT t) {α:Type} {e x:α} (h:e=x):(t _ fun _=>e)=x:=by rw [ht];exact h
section
variable {P:Program} {G:Nat→Option (List D)} {FC:Nat→List AV→List ax→fm→List ax→Prop} {kV:Prop} {f:Nat} {args args':List AV} {c:Prop} {bx:List ax} {K Kp:AV→List ax→Prop} {ρ:Type}
theorem ay {E:ρ→AV} {r0:ρ} (ho:kV) (h:FC f args' [] (.ret (E r0)) []) (hc:c) (hs:AV.shut.nj args'=true) (hf:(E r0).flat=true) (hK:∀r,r=r0→K (E r) bx):qi FC kV f args (some (c,args')) bx K Kp:=
 gj ho h hc hs hf (hK _ rfl)
theorem aS {E:ρ→AV} {r0:ρ} (ho:kV) (h:FC f args' [] (.ret (E r0)) []) (hc:c) (hs:AV.shut.nj args'=true) (hz:eP [] args=some args') (hv:(E r0).shut=true) (hK:∀r,r=r0→K (E r) bx):qi FC kV f args (some (c,args')) bx K Kp:=
 HK ho h hc hs hz hv (hK _ rfl)
theorem aM {dr g:Bool} {K:AV→Prop} {E:ρ→AV} {r0:ρ} (h:g=true→kV∧c∧FC f args' [] (.ret (E r0)) []) (hs:AV.bL.cL [] args'=true) (hf:(E r0).flat=true) (hK:∀r,r=r0→K (E r)):pH FC dr g kV f args bx (some (c,args')) K:=
 HL h hs hf (hK _ rfl)
theorem iu {dr g:Bool} {K:AV→Prop} {E:ρ→AV} {r0:ρ} (h:g=true→kV∧c∧FC f args' [] (.ret (E r0)) []) (hs:AV.bL.cL [] args'=true) (hz:eP [] args=some args') (hf:(E r0).shut=true) (hK:∀r,r=r0→K (E r)):pH FC dr g kV f args bx (some (c,args')) K:=
 mT h hs hz hf (hK _ rfl)
end
theorem dg {t:Th} (ht:TT t) {α:Type} {l:List α} {cells cT:α→List D} {es:List (List D)} (aF:es=l.map cells) {z:Int} {n:Nat} {K:List D→Prop} (h0:0≤z) (h1:z<l.length) (hn:∀x,(cells x).length=n) (hT:∀x,cells x=cT x)
 (hK:∀x,l[z.toNat]?=some x→K (cT x)):ol true (t Prop fun _=>0≤z∧z<es.length∧∀r∈es,r.length=n) (t _ fun _=>es.getD z.toNat []) K:=by
 have hz:z.toNat<l.length:=by omega
 refine gS (cT l[z.toNat]) ?_ ?_ (hK _ (List.getElem?_eq_getElem hz))
 ·simp only [ht];refine ⟨h0,by rw [aF,lgM];exact h1,?_⟩
  rw [aF];intro r hr;obtain ⟨y,_,rfl⟩:=List.mem_map.1 hr;exact hn y
 simp only [ht];rw [aF,←hT];simp [hz]
theorem bf {s:St} {n:Nat} {σ:Type} {J:Nat→σ→Prop} {F:σ→St} (v:σ) (hs:s=F v) (m:Nat) (hm:m<n) (hJ:J m v):rG (some s) (fun s3=>∃m v',(m<n∧J m v')∧s3=F v'):=aA (P:=fun s3=>∃m v',(m<n∧J m v')∧s3=F v') ⟨m,v,⟨hm,hJ⟩,hs⟩
end Dem
end
section
open Go
namespace Dem
def flat:Code→List Code
 |.seq a b=>flat a++flat b
 |c=>[c]
section
variable {P:Program}
def qE (P:Program):List Code→(Exit→Act→World→Prop)→Act→World→Prop
 |[],Q=>Q .normal
 |c::r,Q=>c.wp P (Exit.then (qE P r Q) Q)
theorem DK {K K':Act→World→Prop} {Q Q':Exit→Act→World→Prop} (h:∀a w,K a w→K' a w) (hq:∀e a w,Q e a w→Q' e a w):∀e a w,Exit.then K Q e a w→Exit.then K' Q' e a w:=by
 intro e a w hh;cases e<;>simp only [Exit.then] at hh ⊢<;>first|exact h _ _ hh|exact hq _ _ _ hh
theorem oG:∀{l:List Code} {Q Q':Exit→Act→World→Prop} {a:Act} {w:World},(∀e a w,Q e a w→Q' e a w)→qE P l Q a w→qE P l Q' a w
 |[],_,_,_,_,hq,h=>hq _ _ _ h
 |_::_,_,_,_,_,hq,h=>wp_mono h (DK (fun _ _ hh=>oG hq hh) hq)
theorem Bu:∀{l1 l2:List Code} {Q:Exit→Act→World→Prop} {a:Act} {w:World},qE P (l1++l2) Q a w→qE P l1 (Exit.then (qE P l2 Q) Q) a w
 |[],_,_,_,_,h=>h
 |c::l1,l2,Q,a,w,h=>by
  refine wp_mono (show c.wp P (Exit.then (qE P (l1++l2) Q) Q) a w from h) ?_
  intro e a w hh
  cases e<;>simp only [Exit.then] at hh ⊢<;>first|exact Bu hh|exact hh
theorem vU:∀(c:Code) {Q:Exit→Act→World→Prop} {a:Act} {w:World},qE P (flat c) Q a w→c.wp P Q a w
 |.seq x y,Q,a,w,h=>by
  have h:=Bu (show qE P (flat x++flat y) Q a w from h)
  refine wp_seq (wp_mono (vU x h) ?_)
  exact DK (fun a w hh=>vU y hh) (fun _ _ _ hh=>hh)
 |.skip,Q,a,w,h=>wp_mono h (by intro e a w hh;cases e<;>simpa only [qE,Exit.then] using hh)
 |.region ..,Q,a,w,h=>wp_mono h (by intro e a w hh;cases e<;>simpa only [qE,Exit.then] using hh)
 |.cond ..,Q,a,w,h=>wp_mono h (by intro e a w hh;cases e<;>simpa only [qE,Exit.then] using hh)
 |.block ..,Q,a,w,h=>wp_mono h (by intro e a w hh;cases e<;>simpa only [qE,Exit.then] using hh)
 |.loop ..,Q,a,w,h=>wp_mono h (by intro e a w hh;cases e<;>simpa only [qE,Exit.then] using hh)
 |.rangeFunc ..,Q,a,w,h=>wp_mono h (by intro e a w hh;cases e<;>simpa only [qE,Exit.then] using hh)
 |.exit ..,Q,a,w,h=>wp_mono h (by intro e a w hh;cases e<;>simpa only [qE,Exit.then] using hh)
 |.scope ..,Q,a,w,h=>wp_mono h (by intro e a w hh;cases e<;>simpa only [qE,Exit.then] using hh)
 |.label ..,Q,a,w,h=>wp_mono h (by intro e a w hh;cases e<;>simpa only [qE,Exit.then] using hh)
 |.goto ..,Q,a,w,h=>wp_mono h (by intro e a w hh;cases e<;>simpa only [qE,Exit.then] using hh)
 |.ret,Q,a,w,h=>wp_mono h (by intro e a w hh;cases e<;>simpa only [qE,Exit.then] using hh)
 |.refuse ..,Q,a,w,h=>wp_mono h (by intro e a w hh;cases e<;>simpa only [qE,Exit.then] using hh)
end
section
variable (t:Th) (FC:Nat→List AV→List ax→fm→List ax→Prop) (T:Nat→Option TI) (G:Nat→Option (List D)) (N K:Nat)
def Bv:List Code→(Ex→St→Prop)→St→Prop
 |[],Q,s=>Q .normal s
 |c::r,Q,s=>rI t FC T G N K c (fun e s1=>nt (fun s1=>Bv r Q s1) Q e s1) s
def HP:List Oper→(AV→St→Prop)→St→Prop
 |[],_,_=>False
 |[o],KD,s=>match o.guard,o.dst,o.op with
  |none,none,.defer {callee:=.value x,args,..}=>bif args.toList.isEmpty then (bW G s.sl x).ok∧KD (bW G s.sl x).aP s else False
  |_,_,_=>False
 |o::o2::rest,KD,s=>bif fS N o.dst then match o.guard with
  |none=>stepT t FC T G o s (fun v bx=>HP (o2::rest) KD ⟨dV o.dst v s.sl,bx⟩) (fun _ _=>False)
  |some _=>False
  else False
end
section
variable {P:Program} {T:Nat→Option TI} {G:Nat→Option (List D)} {N K:Nat} {ds:List Deferred} {X:Nat→Prop} {β0:Nat→Nat} {aE:List ax} {w0:World}
theorem fM (hT:iH P T) (hD:kX P T G) (hK:aE.length≤K):∀(l:List Code) (Q:Ex→St→Prop) (β:Nat→Nat) (w:World) (s:St) (a:Act),Ext β0 aE w0 β s.bx w→Fr G N ds β w X s a→
 Bv t0 (bg P G) T G N K l Q s→qE P l (ee G N ds X β0 aE w0 Q) a w
 |[],Q,β,w,s,a,ex,hF,h=>⟨β,s,ex,hF,h⟩
 |c::l,Q,β,w,s,a,ex,hF,h=>by
  refine wp_mono (fh hT hD hK c _ β w s a ex hF h) ?_
  intro e a' w' hl
  cases e<;>simp only [ee,nt,Exit.then] at hl ⊢
  ·obtain ⟨β',s',h1,h2,h3⟩:=hl
   exact fM hT hD hK l Q β' w' s' a' h1 h2 h3
  all_goals exact hl
theorem rL (hT:iH P T) {ops:Array Oper} {KD:AV→St→Prop} {Qc:Exit→Act→World→Prop}
 (hN:∀(β:Nat→Nat) (w:World) (s:St) (a:Act) (x:AV) (v:Value),Ext β0 aE w0 β s.bx w→Fr G N ds β w X s a→KD x s→ah β s.bx w (be β s.bx w X) x v→
  (Deferred.ofValue v #[]).run P w=.ok {target:=(match v with|.func fn _ c=>.fn fn c|_=>.nil),args:=(match v with|.func _ first _=>first|_=>#[])} w→
  Qc .normal {a with defers:={target:=(match v with|.func fn _ c=>.fn fn c|_=>.nil),args:=(match v with|.func _ first _=>first|_=>#[])}::a.defers} w)
 (hfn:∀x s,KD x s→∃f dG,x=.fn f dG∧eC dG=true):
 ∀(l:List Oper) (β:Nat→Nat) (w:World) (s:St) (a:Act),Ext β0 aE w0 β s.bx w→Fr G N ds β w X s a→HP t0 (bg P G) T G N l KD s→wpList P ops Qc l a w
 |[],β,w,s,a,ex,hF,h=>h.elim
 |[o],β,w,s,a,ex,hF,h=>by
  unfold HP at h
  split at h
  ·rename_i x args ats hg hd ho
   cases hargs:args.toList.isEmpty with
   |false=>simp [hargs] at h
   |true=>
   simp only [hargs,cond_true] at h
   obtain ⟨hok,hk⟩:=h
   have hv:=iE (hF.eval x) hok
   obtain ⟨f,dG,hx,nQ⟩:=hfn _ _ hk
   have WG:=hv
   rw [hx] at WG
   simp only [ah] at WG
   obtain ⟨vs,ev,hvs⟩:=WG
   rw [kK nQ hvs] at ev
   have ha:args=#[]:=by
    have:args.toList=[]:=by simpa using hargs
    exact Array.toList_inj.1 this
   subst ha
   refine wpList_step fun KK VD=>?_
   rw [if_pos (by simp [Region.wanted,hg])]
   have hr:(Deferred.ofValue (a.eval x) #[]).run P w=.ok {target:=.fn (.func f) ⟨vs⟩,args:=#[]} w:=by rw [ev];rfl
   have hrun:(execOp a.eval o).run P w=.ok (.defer {target:=.fn (.func f) ⟨vs⟩,args:=#[]}) w:=by
    simp [execOp,ho,resolve,hr]
   unfold Oper.wp
   rw [hrun,Oper.upon_defer,hd]
   refine VD _ _ ?_
   have:=hN β w s a _ _ ex hF hk hv (by rw [ev];rfl)
   rw [ev] at this
   exact this
  exact h.elim
 |o::o2::rest,β,w,s,a,ex,hF,h=>by
  unfold HP at h
  cases hd:fS N o.dst with
  |false=>simp [hd] at h
  |true=>
  simp only [hd,cond_true] at h
  split at h
  ·rename_i hg
   refine wpList_step fun KK VD=>?_
   rw [if_pos (by simp [Region.wanted,hg])]
   refine kM hT hF (vO (fun v bx hK=>hK) h) ?_ ?_
   ·intro β' aG w' v u oU nP hv hK
    exact VD _ _ (rL hT hN hfn (o2::rest) β' w' ⟨dV o.dst v s.sl,aG⟩ _ (ex.trans oU) (hF.put oU nP hd hv) hK)
   intro β' aG w' v u oU nP hv hK;exact hK.elim
  exact h.elim
theorem nC:∀{l1 l2:List Code} {Q:Exit→Act→World→Prop} {a:Act} {w:World},qE P l1 (Exit.then (qE P l2 Q) Q) a w→qE P (l1++l2) Q a w
 |[],_,_,_,_,h=>h
 |c::l1,l2,Q,a,w,h=>by
  refine wp_mono (show c.wp P (Exit.then (qE P l1 (Exit.then (qE P l2 Q) Q)) (Exit.then (qE P l2 Q) Q)) a w from h) ?_
  intro e a w hh
  cases e<;>simp only [Exit.then] at hh ⊢<;>first|exact nC hh|exact hh
theorem Bw {fn:Func} {args:List AV} {aE:List ax} (hN:fn.ntmps=N) (hlen:Nat.ble args.length N=true) {β:Nat→Nat} {w:World} {vs:List Value} (cx:ct G β aE w X) (hx:aj β aE w (be β aE w X) args vs):
 Fr G N [] β w X ⟨gA 0 args,aE⟩ {tmps:=(⟨vs⟩:Array Value)++Array.replicate (fn.ntmps-(⟨vs⟩:Array Value).size) undef,defers:=[]}:=by
 have hl:=aj.length hx
 have hle:args.length≤N:=Nat.le_of_ble_eq_true hlen
 refine ⟨cx,rfl,?_,?_⟩
 ·simp [hN,hl];omega
 intro t
 rw [AU]
 simp only [Nat.zero_le,if_true,Nat.sub_zero]
 by_cases ht:t<args.length
 ·obtain ⟨v,k1,k2⟩:=aj.get t args[t] hx (by simp [ht])
  have e1:args.getD t .any=args[t]:=by simp [List.getD_eq_getElem?_getD,ht]
  rw [e1]
  have hv:t<vs.length:=by omega
  have e2:vs[t]=v:=by rw [List.getElem?_eq_getElem hv] at k1;simpa using k1
  have e3:(({toList:=vs}:Array Value)++Array.replicate (fn.ntmps-(⟨vs⟩:Array Value).size) undef).getD t undef=v:=by
   simp [Array.getD_eq_getD_getElem?,Array.getElem?_append,hv,e2]
  rw [e3];exact k2
 simp [List.getD_eq_getElem?_getD,List.getElem?_eq_none (Nat.le_of_not_lt ht),ah]
theorem Fc (hT:iH P T) {fn:Func} {β:Nat→Nat} {w:World} {aE aG:List ax} {res:fm} {β':Nat→Nat} {s:St} {a':Act} {w':World} (ex:Ext β aE w β' s.bx w') (hF:Fr G N ds β' w' X s a')
 (hq:match u7 T s.sl s.bx fn.results.toList with
  |some (c,vs)=>PE aE.length c (oq vs) s.bx res aG
  |none=>False):∃v,(results fn a'.tmps).run P w'=.ok v w'∧∃β',Ext β aE w β' aG w'∧ct G β' aG w' X∧fC β' aG w' (be β' aG w' X) res (.returned v):=by
 split at hq
 ·rename_i c vs' hres
  obtain ⟨hc,hq⟩:=hq
  obtain ⟨u,k1,k2⟩:=yP hT hF hres hc
  refine ⟨u,k1,?_⟩
  rcases hq with ⟨rfl,rfl⟩|⟨ks,y,q1,q2,rfl,q3,rfl⟩|⟨k,sz,m,es,q0,q1,q2,q3,q4,rfl,rfl⟩|⟨sz,q0,q1,q2,rfl,rfl⟩
  ·exact ⟨β',ex,hF.cx,k2⟩
  ·obtain ⟨e1,c1,r1⟩:=Dv hF.cx q1 k2
   obtain ⟨e2,c2⟩:=Mo ks c1
   exact ⟨β',AS ((ex.trans e1).trans e2),AR c2 q3,mO (fun aB hb=>AQ _ aB hb) y u q2 (ah.mono (e2.dQ X) _ _ r1)⟩
  ·rw [q0] at k2
   exact zX hF.cx ex q3 q4 (.inr ⟨q2,q1⟩) (.inr k2)
  rw [q0] at k2
  simp only [ah,List.length_nil] at k2
  obtain ⟨base,k2,_⟩:=k2
  exact zX (k:=0) hF.cx ex q1 q2 (.inl ⟨rfl,rfl⟩) (.inl ⟨rfl,rfl,base,k2⟩)
 exact hq.elim
structure vV (FD:Nat→List AV→List ax→fm→List ax→Prop) (f:Nat) (dG:List AV) (bx:List ax) (K:List ax→Prop):Prop where
 ok:∃iG,FD f dG bx (.ret (.dF [])) iG∧K iG
def KB (t:Th) (FD:Nat→List AV→List ax→fm→List ax→Prop) (T:Nat→Option TI) (results:List ResultVar) (n:Nat) (res:fm) (aG:List ax) (f:Nat) (dG:List AV):Ex→St→Prop
 |.exit _,_=>False
 |.panic _,_=>False
 |_,s=>vV FD f dG s.bx (fun iG=>match u7 T s.sl iG results with
  |some (c,vs)=>Bq n c (oq vs) iG (DD t iG (oq vs)) res aG
  |none=>False)
def Fe (t:Th) (FC FD:Nat→List AV→List ax→fm→List ax→Prop) (T:Nat→Option TI) (G:Nat→Option (List D)) (N:Nat) (pre:List Code) (ops:List Oper) (post:List Code) (results:List ResultVar) (n:Nat) (res:fm) (aG:List ax) (s:St):Prop:=
 Bv t FC T G N n pre (fun e s=>match e with
  |.normal=>HP t FC T G N ops (fun x s2=>match x with
   |.fn g dG=>bif eC dG then Bv t FC T G N s2.bx.length post (KB t FD T results n res aG g dG) s2 else False
   |_=>False) s
  |_=>False) s
theorem zN (hT:iH P T) (hD:kX P T G) {f N:Nat} {fn:Func} {c:Code} {args:List AV} {aE aG:List ax} {res:fm} (hf:P.funcs[f]?=some fn) (hb:fn.body=some c)
 (hname:(fn.name== "runtime.NumGoroutine")=false) (hN:fn.ntmps=N) (hlen:Nat.ble args.length N=true) {pre post:List Code} {id:Nat} {ops:Array Oper} (hc:flat c=pre++.region id ops false::post)
 (h:Fe t0 (bg P G) (AX P G) T G N pre ops.toList post fn.results.toList aE.length res aG ⟨gA 0 args,aE⟩):bg P G f args aE res aG:=by
 intro β w vs X cx hx
 refine .inl ⟨by simp [callFunc,run_program,hf,hb];simpa using hname,calls_of_wp_defers hf hb (vU c ?_)⟩
 rw [hc]
 refine nC (oG ?_ (fM hT hD (Nat.le_refl _) pre _ β w _ _ (Ext.refl _ _ _) (Bw hN hlen cx hx) h))
 intro e a1 w1 hl
 cases e<;>simp only [ee,Exit.then] at hl ⊢
 case normal=>
  obtain ⟨β1,s1,vq,CM,hop⟩:=hl
  show (Code.region id ops false).wp P (Exit.then (qE P post _) _) a1 w1
  refine wp_region_list (rL (β0:=β) (aE:=aE) (w0:=w) hT ?_ ?_ ops.toList β1 w1 s1 a1 vq CM hop)
  ·intro β2 w2 s2 a2 x v Tb zY hk hv hr
   simp only [Exit.then]
   split at hk
   case h_2=>exact hk.elim
   rename_i g dG
   cases nQ:eC dG with
   |false=>simp [nQ] at hk
   |true=>
   simp only [nQ,cond_true] at hk
   simp only [ah] at hv
   obtain ⟨NI,rfl,vv⟩:=hv
   rw [kK nQ vv] at hr ⊢
   simp only
   have WR:Fr G N [{target:=.fn (.func g) ⟨NI⟩,args:=#[]}] β2 w2 X s2 {a2 with defers:={target:=.fn (.func g) ⟨NI⟩,args:=#[]}::a2.defers}:=
    ⟨zY.cx,by rw [zY.defers],zY.size,zY.xz⟩
   refine oG ?_ (fM (β0:=β2) (aE:=s2.bx) (w0:=w2) hT hD (Nat.le_refl _) post _ β2 w2 s2 _ (Ext.refl _ _ _) WR hk)
   have fin:∀(β3:Nat→Nat) (w3:World) (s3:St) (a3:Act),Ext β2 s2.bx w2 β3 s3.bx w3→Fr G N [{target:=.fn (.func g) ⟨NI⟩,args:=#[]}] β3 w3 X s3 a3→
    vV (AX P G) g dG s3.bx (fun iG=>match u7 T s3.sl iG fn.results.toList with
     |some (c,vs)=>Bq aE.length c (oq vs) iG (DD t0 iG (oq vs)) res aG
     |none=>False)→Leaves P fn a3.tmps (fun e w'=>∃β',Ext β aE w β' aG w'∧ct G β' aG w' X∧fC β' aG w' (be β' aG w' X) res e) a3.defers .returning w3:=by
    intro β3 w3 s3 a3 Zu E9 hdf
    obtain ⟨iG,hfd,hq⟩:=hdf
    rw [E9.defers]
    have KE:=aj.mono (Zu.dQ X) _ _ vv
    obtain ⟨hi,hcd⟩:=hfd β3 w3 NI X E9.cx KE
    refine leaves_cons (f:=g) (args:=⟨NI⟩) (by simp) (by simpa [invoke] using hi) ((hcd .returning).mono ?_)
    rintro e u' w4 ⟨rfl,β4,Zv,cx4,hres⟩
    cases e with
    |returned v=>
     simp only [Leaves,settle]
     have hF4:Fr G N [{target:=.fn (.func g) ⟨NI⟩,args:=#[]}] β4 w4 X ⟨s3.sl,iG⟩ a3:=⟨cx4,E9.defers,E9.size,fun t=>ah.mono (Zv.dQ X) _ _ (E9.xz t)⟩
     have Zw:=pL (T:=T) (results:=fn.results.toList) (n:=aE.length) (res:=res) (aG:=aG) (e:=.ret) (s:=⟨s3.sl,iG⟩) hq
     exact Fc hT (((Tb.trans Zu)).trans Zv) hF4 Zw
    |panicked ch=>simp [fC] at hres
    |outgrown=>simp [fC] at hres
   intro e a3 w3 HQ
   cases e<;>simp only [ee,bodyPostD,KB] at HQ ⊢
   ·obtain ⟨β3,s3,k1,k2,k3⟩:=HQ;exact fin β3 w3 s3 a3 k1 k2 k3
   ·obtain ⟨β3,s3,k1,k2,k3⟩:=HQ;exact k3
   ·obtain ⟨β3,s3,k1,k2,k3⟩:=HQ;exact fin β3 w3 s3 a3 k1 k2 k3
   obtain ⟨_,_,_,_,_,_,_,_,_,k3⟩:=HQ;exact k3.elim
  intro x s hk
  split at hk
  ·rename_i g dG
   cases nQ:eC dG with
   |false=>simp [nQ] at hk
   |true=>exact ⟨_,_,rfl,nQ⟩
  exact hk.elim
 case exit=>obtain ⟨_,_,_,_,k⟩:=hl;exact k.elim
 case ret=>obtain ⟨_,_,_,_,k⟩:=hl;exact k.elim
 case panic=>obtain ⟨_,_,_,_,_,_,_,_,_,k⟩:=hl;exact k.elim
theorem zO (hT:iH P T) (hD:kX P T G) {f N:Nat} {fn:Func} {c:Code} {args:List AV} {aE aG:List ax} {res:fm} (hf:P.funcs[f]?=some fn) (hb:fn.body=some c)
 (hname:(fn.name== "runtime.NumGoroutine")=false) (hN:fn.ntmps=N) (hlen:Nat.ble args.length N=true)
 (h:rI t0 (bg P G) T G N aE.length c (jE t0 T fn.results.toList aE.length res aG) ⟨gA 0 args,aE⟩):AX P G f args aE res aG:=
 EU hT hf hb hname hN hlen fun β w X a hF=>wp_mono (fh (X:=X) (β0:=β) (aE:=aE) (w0:=w) hT hD (Nat.le_refl _) c _ β w ⟨gA 0 args,aE⟩ a (Ext.refl _ _ _) hF h)
  fun _ _ _ hl=>ee.imp (fun _ _ hq=>pL hq) hl
end
def xL:List Oper→Bool
 |[]=>false
 |[o]=>match o.op with
  |.defer _=>true
  |_=>false
 |_::r=>xL r
def uC:List Code→Option (List Code×Nat×Array Oper×List Code)
 |[]=>none
 |.region id ops false::r=>bif xL ops.toList then some ([],id,ops,r) else match uC r with
  |some (p,i,o,q)=>some (.region id ops false::p,i,o,q)
  |none=>none
 |c::r=>match uC r with
  |some (p,i,o,q)=>some (c::p,i,o,q)
  |none=>none
theorem sL:∀{l pre post:List Code} {id:Nat} {ops:Array Oper},uC l=some (pre,id,ops,post)→l=pre++.region id ops false::post
 |[],_,_,_,_,h=>by simp [uC] at h
 |c::r,pre,post,id,ops,h=>by
  unfold uC at h
  split at h
  ·simp at*
  ·rename_i id' ops' r' e
   simp only [List.cons.injEq] at e
   obtain ⟨rfl,rfl⟩:=e
   cases hl:xL ops'.toList with
   |true=>simp [hl] at h;obtain ⟨rfl,rfl,rfl,rfl⟩:=h;rfl
   |false=>
    simp only [hl,cond_false] at h
    split at h
    ·rename_i p i o q hs
     simp only [osI,Prod.mk.injEq] at h
     obtain ⟨rfl,rfl,rfl,rfl⟩:=h
     rw [sL hs];rfl
    cases h
  rename_i c' r' hne e
  simp only [List.cons.injEq] at e
  obtain ⟨rfl,rfl⟩:=e
  split at h
  ·rename_i p i o q hs
   simp only [osI,Prod.mk.injEq] at h
   obtain ⟨rfl,rfl,rfl,rfl⟩:=h
   rw [sL hs];rfl
  cases h
theorem KF {FD:Nat→List AV→List ax→fm→List ax→Prop} {f:Nat} {dG:List AV} {bx:List ax} {K:List ax→Prop} {iG:List ax} (h:FD f dG bx (.ret (.dF [])) iG) (hK:K iG):vV FD f dG bx K:=⟨iG,h,hK⟩
end Dem
end
section
namespace Dem
abbrev aD:=List UInt8
structure bz where
 a:Int
 b:Int
 c:Int
 d:Int
deriving DecidableEq
def bz.zero:bz:=⟨0,0,0,0⟩
def HR (x y:Int):Int×Bool:=if x.toNat+y.toNat<18446744073709551616 then (((x.toNat+y.toNat:Nat):Int),true) else (0,false)
def HS (x y:Int):Int×Bool:=if x.toNat<y.toNat then (0,false) else (((((x.toNat-y.toNat)%18446744073709551616:Nat)):Int),true)
def both (f:Int→Int→Int×Bool) (a b:bz):bz×Bool:=
 if (f a.a b.a).2&&(f a.b b.b).2&&(f a.c b.c).2&&(f a.d b.d).2 then (⟨(f a.a b.a).1,(f a.b b.b).1,(f a.c b.c).1,(f a.d b.d).1⟩,true) else (bz.zero,false)
def gT (a b:bz):bz×Bool:=both HR a b
def gu (a b:bz):bz×Bool:=both HS a b
def mU (a b:bz):Bool:=(gu b a).2
def rM:Nat→Int→aD
 |0,u=>[UInt8.ofNat (u%256).toNat]
 |n+1,u=>if 128≤u then UInt8.ofNat (u.toNat%128+128)::rM n (u / 128) else [UInt8.ofNat (u%256).toNat]
def ej (u:Int):aD:=rM 9 u
theorem DL:∀(n:Nat) (u:Int),(rM n u).length≤n+1
 |0,_=>by simp [rM]
 |n+1,u=>by
  unfold rM;split
  ·simp;exact DL n _
  simp
theorem c6 (u:Int):(ej u).length≤10:=DL 9 u
def bH (s:aD):aD:=ej s.length++s
def CX (v:bz):aD:=ej v.a++ej v.b++ej v.c++ej v.d
end Dem
namespace Dem
def idxOf {α:Type} (p:α→Bool) (l:List α):Int:=match l.findIdx? p with|some k=>(k:Int)|none=>-1
theorem cN {α:Type} {p:α→Bool}:∀{l:List α} {k:Nat} {x:α},l[k]?=some x→p x=true→(∀i<k,∀y,l[i]?=some y→p y=false)→l.findIdx? p=some k
 |[],_,_,h,_,_=>by simp at h
 |y::r,0,x,h,hp,_=>by simp at h;subst h;simp [List.findIdx?_cons,hp]
 |y::r,k+1,x,h,hp,hb=>by
  have hy:p y=false:=hb 0 (by omega) y (by simp)
  simp only [List.getElem?_cons_succ] at h
  rw [List.findIdx?_cons,hy]
  simp [cN h hp fun i hi z hz=>hb (i+1) (by omega) z (by simpa using hz)]
theorem cS {α:Type} {p:α→Bool} {l:List α} (hb:∀(i:Nat) (y:α),l[i]?=some y→p y=false):l.findIdx? p=none:=by
 rw [List.findIdx?_eq_none_iff]
 intro x hx
 obtain ⟨i,hi⟩:=List.getElem?_of_mem hx
 exact hb i x hi
theorem eT {α:Type} (p:α→Bool) (l:List α):l.any p=decide (0≤idxOf p l):=by
 unfold idxOf
 cases h:l.findIdx? p with
 |none=>
  rw [List.findIdx?_eq_none_iff] at h
  simp
  intro x hx;simp [h x hx]
 |some k=>
  have:=List.findIdx?_eq_some_iff_getElem.1 h
  obtain ⟨hk,hp,_⟩:=this
  simp
  exact ⟨l[k],List.getElem_mem hk,hp⟩
end Dem
end
section
open Go Dem Go.Proofs
namespace Dem
theorem TT.eq {t:Th} (h:TT t):t=t0:=by funext α f;exact h α f
theorem bC {t:Th} (ht:TT t) {f N:Nat} {fn:Func} {c:Code} {args:List AV} {aE aG:List ax} {res:fm} (hf:Tryz.prog.funcs[f]?=some fn) (hb:fn.body=some c)
 (hname:(fn.name== "runtime.NumGoroutine")=false) (hN:fn.ntmps=N) {rs:List ResultVar} (EI:fn.results.toList=rs) {n:Nat} (hn:aE.length=n) (hlen:Nat.ble args.length N=true)
 (h:rI t FC tT gl N n c (jE t tT rs n res aG) ⟨gA 0 args,aE⟩):FC f args aE res aG:=by
 subst EI;subst hn
 have e:=ht.eq
 subst e
 exact zM KA nS hf hb hname hN hlen h
def FD:Nat→List AV→List ax→fm→List ax→Prop:=AX Tryz.prog gl
theorem fcD {t:Th} (ht:TT t) {f N:Nat} {fn:Func} {c:Code} {args:List AV} {aE aG:List ax} {res:fm} (hf:Tryz.prog.funcs[f]?=some fn) (hb:fn.body=some c)
 (hname:(fn.name== "runtime.NumGoroutine")=false) (hN:fn.ntmps=N) {rs:List ResultVar} (EI:fn.results.toList=rs) {n:Nat} (hn:aE.length=n) (hlen:Nat.ble args.length N=true)
 {pre post:List Code} {id:Nat} {ops:Array Oper} (hs:uC (flat c)=some (pre,id,ops,post))
 (h:Fe t FC FD tT gl N pre ops.toList post rs n res aG ⟨gA 0 args,aE⟩):FC f args aE res aG:=by
 subst EI;subst hn
 have e:=ht.eq
 subst e
 exact zN KA nS hf hb hname hN hlen (sL hs) h
theorem fdC {t:Th} (ht:TT t) {f N:Nat} {fn:Func} {c:Code} {args:List AV} {aE aG:List ax} {res:fm} (hf:Tryz.prog.funcs[f]?=some fn) (hb:fn.body=some c)
 (hname:(fn.name== "runtime.NumGoroutine")=false) (hN:fn.ntmps=N) {rs:List ResultVar} (EI:fn.results.toList=rs) {n:Nat} (hn:aE.length=n) (hlen:Nat.ble args.length N=true)
 (h:rI t FC tT gl N n c (jE t tT rs n res aG) ⟨gA 0 args,aE⟩):FD f args aE res aG:=by
 subst EI;subst hn
 have e:=ht.eq
 subst e
 exact zO KA nS hf hb hname hN hlen h
theorem fcX {f:Nat} {fn:Func} {e:Array Value→Sem Value} {args:List AV} {v:AV} (hf:Tryz.prog.funcs[f]?=some fn) (hname:(fn.name== "runtime.NumGoroutine")=false)
 (hb:fn.body.isNone=true) (hn:Extern.findNext fn=none) (he:Extern.find fn=some e)
 (h:∀(β:Nat→Nat) (w:World) (vs:List Value) (ok:Nat→Prop),aj β [] w ok args vs→∃u,(e ⟨vs⟩).run Tryz.prog w=.ok u w∧ah β [] w ok v u):FC f args [] (.ret v) []:=by
 intro β w vs X cx hx
 obtain ⟨u,h1,h2⟩:=h β w vs _ hx
 refine .inr ⟨u,w,?_,β,Ext.refl _ _ _,cx,h2⟩
 rw [run_callFunc_extern hf hname hb hn he,h1]
 rfl
abbrev bq (x:Int):AV:=.d (.int .i64 x)
abbrev az (x:Int):AV:=.d (.int .u64 x)
abbrev BL (b:Bool):AV:=.d (.bool b)
abbrev ST (s:List UInt8):AV:=.d (.str s)
abbrev SL (es:List (List D)):AV:=.d (.sl es)
abbrev V4 (a b c d:Int):AV:=.agg [.d (.int .u64 a),.d (.int .u64 b),.d (.int .u64 c),.d (.int .u64 d)]
theorem aC {k:Nat} (h1:k<9223372036854775807):IntKind.i64.wrap ((k:Int)+1)=((k+1:Nat):Int):=by rw [wrap64 (by omega) (by omega)];omega
theorem aa (n:Nat):@NatCast.natCast Int instNatCastInt n=(n:Int):=rfl
end Dem
end
