/- Parts of a proof, joined. -/
import Derived.Test.YtihohjnkkalgiaaGreatDoorS12
import Derived.Test.YtihohjnkkalgiaaGreatDoorProg
import Derived.KernelRfl
import Derived.Defers
import Derived.Test.YtihohjnkkalgiaaGreatDoorRows
import Derived.ProofKit
import Derived.LaidMore
import Derived.OpenShut
import Derived.Carry
import Derived.Stop.Joined
import Derived.Lib.RuneCount
set_option linter.all false
set_option maxRecDepth 100000
set_option maxHeartbeats 4000000
section
open Go
namespace Dem
theorem aH {s:St} {P:St→Prop} (h:P s):LoopIn (some s) P:=⟨h⟩
def Xi (bx:List aA):List (Nat×aA)→List aA
 |[]=>bx
 |(i,b)::r=>Xi (bx.set i b) r
def Xj (sl:List (Nat×AV)):List (Nat×AV)→List (Nat×AV)
 |[]=>sl
 |(i,v)::r=>Xj (put i v sl) r
def MB (s:St) (u:List (Nat×AV)) (b:List (Nat×aA)):St:=⟨Xj s.sl u,Xi s.bx b⟩
theorem bH {K:Nat} {A:(Ex→St→Prop)→St→Prop} {Q:Ex→St→Prop} {s:St} (nf:Nf) {σ:Type} (U:σ→List (Nat×AV)) (V:σ→List (Nat×aA)) (J:Nat→σ→Prop)
 (h:qp (qo (uX s nf.os) nf.ob) (LoopIn (xR K nf s) fun s0=>∃n0 v0,J n0 v0∧s0=MB s0 (U v0) (V v0)∧
  ∀n v,J n v→A (fun e s2=>uj (fun s2=>qp (qo (uX s2 nf.os) nf.ob) (LoopIn (xR K nf s2) (fun s3=>∃m v',(m<n∧J m v')∧s3=MB s0 (U v') (V v')))) Q e s2) (MB s0 (U v) (V v)))):Uh K A Q s:=by
 obtain ⟨hC,⟨h⟩⟩:=h.ok
 split at h
 ·rename_i s0 hn
  obtain ⟨n0,v0,hJ,hs,hr⟩:=h
  refine ⟨nf,fun n s1=>∃v,J n v∧s1=MB s0 (U v) (V v),n0,qp.mk hC ⟨?_⟩,?_⟩
  ·rw [hn];exact ⟨v0,hJ,hs⟩
  rintro n s1 ⟨v,hv,rfl⟩
  have e:(fun e s2=>uj (fun s2=>qp (qo (uX s2 nf.os) nf.ob) (LoopIn (xR K nf s2) (fun s3=>∃m v',(m<n∧J m v')∧s3=MB s0 (U v') (V v')))) Q e s2)=
   (fun e s2=>uj (fun s2=>qp (qo (uX s2 nf.os) nf.ob) (LoopIn (xR K nf s2) (fun s3=>∃m,m<n∧∃v,J m v∧s3=MB s0 (U v) (V v)))) Q e s2):=by
   funext e s2
   congr 1
   funext s2
   congr 2
   funext s3
   apply propext
   constructor
   ·rintro ⟨m,v',⟨h1,h2⟩,h3⟩;exact ⟨m,h1,v',h2,h3⟩
   rintro ⟨m,h1,v',h2,h3⟩;exact ⟨m,v',⟨h1,h2⟩,h3⟩
  rw [←e];exact hr n v hv
 exact h.elim
theorem av {p:Bool} {A B:Unit→Prop} (h1:p=true→A ()) (h2:p=false→B ()):vU (.d (.bool p)) A B:=.mk (And.intro h1 h2)
theorem lp {p:Bool} {A B:Unit→Prop} (hp:p=true) (h1:A ()):vU (.d (.bool p)) A B:=.mk (And.intro (fun _=>h1) (fun h=>by rw [hp] at h;cases h))
theorem pp {p:Bool} {A B:Unit→Prop} (hp:p=false) (h1:B ()):vU (.d (.bool p)) A B:=.mk (And.intro (fun h=>by rw [hp] at h;cases h) (fun _=>h1))
theorem jG {g:Bool} {c:Prop} {ds:List D} {K:List D→Prop} (ds':List D) (hc:c) (hd:ds=ds') (hK:K ds'):nI g c ds K:=⟨ds',fun _=>⟨hc,hd⟩,hK⟩
theorem Pq {g:Bool} {c:Prop} {ds:List D} {K:List D→Prop} (ds':List D) (hc:c) (hd:ds=ds') (hK:K ds'):Ar g c ds K:=⟨ds',fun _=>⟨hc,hd⟩,hK⟩
theorem Sv {g:Bool} {c:Prop} {ds:List D} {K:List D→Prop} (ds':List D) (h:g=true→c∧ds=ds') (hK:K ds'):nI g c ds K:=⟨ds',h,hK⟩
theorem U7 {g:Bool} {c:Prop} {ds:List D} {K:List D→Prop} (ds':List D) (h:g=true→c∧ds=ds') (hK:K ds'):Ar g c ds K:=⟨ds',h,hK⟩
theorem bL {c:Prop} {v:AV} {bx:List aA} {K:AV→List aA→Prop} (v':AV) (aU:List aA) (hc:c) (hv:v=v') (hb:bx=aU) (hK:K v' aU):Pb c v bx K:=⟨v',aU,hc,hv,hb,hK⟩
theorem iq {g:Bool} {c:Prop} {v:AV} {K:AV→Prop} (v':AV) (h:g=true→c∧v=v') (hK:K v'):Ua g c v K:=⟨v',h,hK⟩
theorem gI {g:Bool} {p K:Prop} (h:g=true→p) (k:K):wz g p∧K:=⟨⟨h⟩,k⟩
theorem pI {p:Bool} {a b K:Prop} (h:(p=true→a)∧(p=false→b)) (k:K):Lm p a b∧K:=⟨⟨h⟩,k⟩
section
variable {P:Program} {G:Nat→Option (List D)} {FC:Nat→List AV→List aA→jR→List aA→Prop} {lQ:Prop} {f:Nat} {args args':List AV} {c:Prop} {bx pO pP:List aA} {v:AV} {K Kp:AV→List aA→Prop}
theorem gB (ho:lQ) (h:FC f args' [] (.ret v) []) (hc:c) (hs:AV.shut.mV args'=true) (hf:v.flat=true) (hK:K v bx):pi FC lQ f args (some (c,args')) bx K Kp:=
 ⟨ho,.inl ⟨c,args',rfl,hc,hs,.inl ⟨v,h,.inl hf,hK⟩⟩⟩
theorem Lt (ho:lQ) (h:FC f args' [] (.ret v) []) (hc:c) (hs:AV.shut.mV args'=true) (hz:fe [] args=some args') (hv:v.shut=true) (hK:K v bx):pi FC lQ f args (some (c,args')) bx K Kp:=
 ⟨ho,.inl ⟨c,args',rfl,hc,hs,.inl ⟨v,h,.inr ⟨hz,hv⟩,hK⟩⟩⟩
theorem jY {sz n:Nat} {es:List (List D)} (ho:lQ) (h:FC f args' [] (.ret (.ow 0 sz n)) [.row sz es]) (hc:c) (hs:AV.shut.mV args'=true) (hz:(∀r∈es,∀x∈r,x.flat=true)∨fe [] args=some args') (hK:K (.ow bx.length sz n) (bx++[.row sz es])):pi FC lQ f args (some (c,args')) bx K Kp:=
 ⟨ho,.inl ⟨c,args',rfl,hc,hs,.inr ⟨sz,n,es,h,hz,hK⟩⟩⟩
theorem Uj {fz:Option (Prop×List AV)} (ho:lQ) (hfz:fz=some (c,args')) (hc:c) (h:FC f args' (fw bx args) (.ret v) pP) (hK:K v pP):pi FC lQ f args fz bx K Kp:=
 ⟨ho,.inr ⟨args',fw bx args,.ret v,pP,.inr ⟨⟨c,hfz,hc⟩,rfl⟩,h,hK⟩⟩
theorem eG {fz:Option (Prop×List AV)} (ho:lQ) (h:FC f args bx (.ret v) pP) (hK:K v pP):pi FC lQ f args fz bx K Kp:=
 ⟨ho,.inr ⟨args,bx,.ret v,pP,.inl ⟨rfl,rfl⟩,h,hK⟩⟩
theorem GI {dr g:Bool} {v:AV} {K:AV→Prop} (h:g=true→lQ∧c∧FC f args' [] (.ret v) []) (hs:AV.bU.dw [] args'=true) (hf:v.flat=true) (hK:K v):tB FC dr g lQ f args bx (some (c,args')) K:=
 ⟨.inr ⟨v,fun hg=>⟨(h hg).1,args',[],⟨c,rfl,(h hg).2.1⟩,hs,⟨false,rfl,fun h=>by cases h⟩,by simp,(h hg).2.2,.inl hf⟩,hK⟩⟩
theorem nB {dr g:Bool} {v:AV} {K:AV→Prop} (h:g=true→lQ∧c∧FC f args' [] (.ret v) []) (hs:AV.bU.dw [] args'=true) (hz:fe [] args=some args') (hf:v.shut=true) (hK:K v):tB FC dr g lQ f args bx (some (c,args')) K:=
 ⟨.inr ⟨v,fun hg=>⟨(h hg).1,args',[],⟨c,rfl,(h hg).2.1⟩,hs,⟨false,rfl,fun h=>by cases h⟩,by simp,(h hg).2.2,.inr ⟨hz,hf⟩⟩,hK⟩⟩
theorem U9 {P:Program} {G:Nat→Option (List D)} {dr g:Bool} {v:AV} {K:AV→Prop} {pn:List AV} {aQ:List aA} (ks:List Bool) (cE:List Nat) (ho:g=true→lQ∧c∧bF P G f pn aQ (.ret v) aQ)
 (hn:AV.bU.dw (kill ks bx) args'=true) (hl:eB false (kill ks bx) (kill ks bx)=true) (hv:v.flat=true∨fe [] args=some args'∧v.shut=true)
 (ha:AV.yI (fun b=>eF b cE 0) args'=some pn) (hb:gM (fun b=>eF b cE 0) (kill ks bx) cE=some aQ) (hb':GH cE (kill ks bx) aQ=some (kill ks bx)) (hr:jR.iP (lm cE (kill ks bx).length) (.ret v)=some (.ret v))
 (hK:K v):tB (bF P G) dr g lQ f args bx (some (c,args')) K:=by
 refine ⟨.inr ⟨v,fun hg=>⟨(ho hg).1,args',kill ks bx,⟨c,rfl,(ho hg).2.1⟩,hn,⟨false,hl,fun h=>by cases h⟩,?_,dK cE ha hb hr hb' (ho hg).2.2,hv⟩,hK⟩⟩
 intro i b hi dW
 obtain ⟨b0,h1,h2⟩:=mz ks bx i b hi
 rcases h2 with rfl|⟨rfl,h3⟩
 ·exact ⟨_,h1,dW,fun _=>rfl⟩
 exact ⟨b0,h1,h3,fun h=>by simp [aA.live] at h⟩
theorem GJ {x sz n:Nat} {es:List (List D)} {at_:Option aA} {K:AV→aA→Prop} (ho:lQ) (h:FC f args' [] (.ret (.ow 0 sz n)) [.row sz es]) (hc:c) (hs:AV.shut.mV args'=true) (hz:(∀r∈es,∀x∈r,x.flat=true)∨fe [] args=some args') (hat:at_=some .bw)
 (hK:K (.ow x sz n) (.row sz es)):Ub FC lQ f args (some (c,args')) at_ x K:=⟨args',sz,n,es,ho,⟨c,rfl,hc⟩,hs,h,hz,hat,hK⟩
structure Pr (r:Option jR) (b:Option (List aA)) (K:AV→List aA→Prop):Prop where
 ok:match r,b with
  |some (.ret v),some bx=>K v bx
  |_,_=>False
theorem cK {v:AV} {bx:List aA} {K:AV→List aA→Prop} (h:K v bx):Pr (some (.ret v)) (some bx) K:=⟨h⟩
theorem dP {fz:Option (Prop×List AV)} (cE:List Nat) {pn:List AV} {aQ u7:List aA} {v0:AV} (ho:lQ)
 (ha:AV.yI (fun b=>eF b cE 0) args=some pn) (hb:gM (fun b=>eF b cE 0) bx cE=some aQ) (h:bF P G f pn aQ (.ret v0) u7)
 (hK:Pr (jR.iP (lm cE bx.length) (.ret v0)) (GH cE bx u7) K):pi (bF P G) lQ f args fz bx K Kp:=by
 obtain ⟨hK⟩:=hK
 split at hK
 ·rename_i v aU hr hb'
  exact eG ho (dK cE ha hb hr hb' h) hK
 exact hK.elim
end
section
variable {n:Nat} {c d:Prop} {v u:AV} {bx aU:List aA} {res:jR} {fz:Option (Prop×AV)}
theorem az (hc:c) (hd:d) (hw:u.within n=true) (hb:aU=(ul bx v).take n) (Va:cD n aU=true) (hr:res=.ret u):GG n c v bx (some (d,u)) res aU:=
 ⟨hc,.inr (.inl ⟨[],d,u,rfl,hd,hw,hb,Va,hr⟩)⟩
theorem yM (ks:List Bool) (hc:c) (hd:d) (hw:u.within n=true) (hb:aU=(kill ks (ul bx v)).take n) (Va:cD n aU=true) (hr:res=.ret u):GG n c v bx (some (d,u)) res aU:=
 ⟨hc,.inr (.inl ⟨ks,d,u,rfl,hd,hw,hb,Va,hr⟩)⟩
theorem Jl (hc:c) (hb:aU=bx) (hr:res=.ret v):GG n c v bx fz res aU:=⟨hc,.inl ⟨hr,hb⟩⟩
theorem B5 {k sz m:Nat} {es:List (List D)} (hc:c) (hk:bx[k]?=some (.row sz es)) (h1:Nat.ble n k=true) (h2:Nat.ble n bx.length=true) (Va:cD n (bx.take n)=true) (hr:res=.ret (.ow n sz m)) (hb:aU=bx.take n++[.row sz es]):GG n c (.ow k sz m) bx fz res aU:=
 ⟨hc,.inr (.inr (.inl ⟨k,sz,m,es,rfl,hk,Nat.le_of_ble_eq_true h1,Nat.le_of_ble_eq_true h2,Va,hr,hb⟩))⟩
theorem GK {sz:Nat} (hc:c) (h2:Nat.ble n bx.length=true) (Va:cD n (bx.take n)=true) (hr:res=.ret (.ow n sz 0)) (hb:aU=bx.take n++[.row sz []]):GG n c (.cl []) bx fz res aU:=
 ⟨hc,.inr (.inr (.inr ⟨sz,rfl,Nat.le_of_ble_eq_true h2,Va,hr,hb⟩))⟩
end
theorem dZ {P:Program} {G:Nat→Option (List D)} {f b sz n:Nat} {args:List AV} {bx aU:List aA} {res:jR}
 (h:∀c,n≤c→(n=0→c=0)→bF P G f (.vw b sz 0 n c true::args) bx res aU):bF P G f (.ow b sz n::args) bx res aU:=by
 intro β w vs X cx hx
 simp only [an] at hx
 obtain ⟨u,us,rfl,hx,hxs⟩:=hx
 simp only [ak] at hx
 obtain ⟨hb,⟨rfl,base,rfl⟩|⟨h0,cap,c,e,f',rfl,h1,h2,h3⟩⟩:=hx
 ·refine h 0 (Nat.le_refl _) (fun _=>rfl) β w _ X cx ?_
  simp only [an,ak]
  exact ⟨_,us,rfl,⟨hb,base,0,#[],0,(0,0),rfl,Nat.le_refl _,Nat.le_refl _,fun _=>rfl,.inl rfl⟩,hxs⟩
 refine h cap h1 (fun h=>absurd h h0) β w _ X cx ?_
 simp only [an,ak]
 exact ⟨_,us,rfl,⟨hb,_,cap,c,e,f',rfl,h1,Nat.le_refl _,fun _=>rfl,.inr ⟨by simp,h2,by simpa using h3⟩⟩,hxs⟩
theorem wrap64 {x:Int} (h0:-9223372036854775808≤x) (h1:x<9223372036854775808):IntKind.i64.wrap x=x:=by
 simp [IntKind.wrap,IntKind.signed,IntKind.bits];omega
end Dem
end
section
open Go
namespace Dem
def qU:AV:=.d (.int .u64 0)
def qI:AV:=.d (.int .i64 0)
def qS:AV:=.d (.str [])
def qF:AV:=.d (.bool false)
def qY:AV:=.d (.int .u8 0)
def qC:AV:=.cl []
def pH:Option TI:=some ⟨1,8,.other,.k .nilFunc,true,none⟩
def wC:Option TI:=some ⟨1,0,.other,.any,true,none⟩
def Uk:Option TI:=some ⟨1,8,.other,.k .om,true,none⟩
def Xk:Option TI:=some ⟨1,16,.iface,.k .nilIface,true,none⟩
def YM:Option TI:=some ⟨1,8,.int .i64,qI,true,none⟩
def YN:Option TI:=some ⟨1,1,.int .u8,qY,true,none⟩
def YO:Option TI:=some ⟨1,8,.int .u64,qU,true,none⟩
def ZF:Option TI:=some ⟨1,16,.str,qS,true,none⟩
def ZG:Option TI:=some ⟨1,4,.int .i32,.d (.int .i32 0),true,none⟩
def ZH:Option TI:=some ⟨5,5,.struct [(0,5),(1,5),(2,5),(3,5),(4,5)],.agg [qY,qY,qY,qY,qY],true,none⟩
def Xl:Option TI:=some ⟨4,24,.struct [(0,2),(1,3),(2,4),(3,6)],.agg [qI,qI,qF,qY],true,none⟩
def Xm:Option TI:=some ⟨2,24,.struct [(0,9),(1,12)],.agg [qS,qU],false,none⟩
def Xn:Option TI:=some ⟨1,8,.struct [(0,17)],.agg [.k .om],false,none⟩
def Xo:Option TI:=some ⟨2,48,.struct [(0,25),(1,26)],.agg [qC,qC],true,none⟩
def Xp:Option TI:=some ⟨1,24,.slice 139,qC,true,none⟩
def Xq:Option TI:=some ⟨2,32,.struct [(0,24),(1,32)],.agg [qU,qC],true,none⟩
def Xr:Option TI:=some ⟨11,200,.struct [(0,24),(1,24),(2,28),(4,29),(5,30),(6,31),(7,34),(9,34)],.agg [qU,qU,qC,qC,qC,qC,qC,qU,qC,qU,qC],true,none⟩
def Xs:Option TI:=some ⟨4,32,.array 4 24,.agg [qU,qU,qU,qU],true,none⟩
def Xt:Option TI:=some ⟨9,96,.struct [(0,9),(1,40),(5,3),(6,3),(7,3),(8,41)],.agg [qS,qU,qU,qU,qU,qI,qI,qI,qC],true,none⟩
def Xu:Option TI:=some ⟨12,120,.struct [(0,24),(1,43),(10,4),(11,3)],.agg [qU,qS,qU,qU,qU,qU,qI,qI,qI,qC,qF,qI],true,none⟩
def Xv:Option TI:=some ⟨2,16,.struct [(0,24),(1,3)],.agg [qU,qI],true,none⟩
def Xw:Option TI:=some ⟨7,80,.struct [(0,9),(1,40),(5,73),(6,4)],.agg [qS,qU,qU,qU,qU,qC,qF],true,none⟩
def Xx:Option TI:=some ⟨12,208,.struct [(0,36),(11,3)],.agg [qU,qU,qC,qC,qC,qC,qC,qU,qC,qU,qC,qI],true,none⟩
def Xy:Option TI:=some ⟨6,56,.struct [(0,24),(1,9),(2,40)],.agg [qU,qS,qU,qU,qU,qU],true,none⟩
def Xz:Option TI:=some ⟨11,200,.struct [(0,36)],.agg [qU,qU,qC,qC,qC,qC,qC,qU,qC,qU,qC],true,none⟩
def XA:Option TI:=some ⟨9,80,.struct [(0,9),(1,40),(5,40)],.agg [qS,qU,qU,qU,qU,qU,qU,qU,qU],true,none⟩
def XB:Option TI:=some ⟨2,32,.struct [(0,9),(1,9)],.agg [qS,qS],true,none⟩
def XC:Option TI:=some ⟨4,32,.struct [(0,40)],.agg [qU,qU,qU,qU],true,none⟩
def XD:Option TI:=some ⟨3,24,.struct [(0,24),(1,24),(2,3)],.agg [qU,qU,qI],true,none⟩
def XE:Option TI:=some ⟨1,8,.struct [(0,188)],.agg [.k .nilFunc],true,none⟩
def XF:Option TI:=some ⟨6,72,.struct [(0,9),(1,40),(5,73)],.agg [qS,qU,qU,qU,qU,qC],true,none⟩
def XG:Option TI:=some ⟨2,8,.struct [(0,21),(1,21)],.agg [.d (.int .i32 0),.d (.int .i32 0)],true,none⟩
def XH:Option TI:=some ⟨2,32,.struct [(0,274),(1,275)],.agg [.k .om,qC],true,none⟩
def XI:Option TI:=some ⟨2,2,.struct [(0,5),(1,5)],.agg [qY,qY],true,none⟩
def XJ:Option TI:=some ⟨4,40,.struct [(0,17),(1,17),(2,17),(3,9)],.agg [.k .om,.k .om,.k .om,qS],false,none⟩
def XK:Option TI:=some ⟨0,0,.struct [(0,327)],.agg [],false,none⟩
def XL:Option TI:=some ⟨11,48,.struct [(0,12),(1,12),(2,297),(3,330),(4,5),(5,5),(6,331),(7,332),(8,299),(9,333),(10,334)],.agg [qU,qU,.d (.int .u32 0),qY,qY,qY,qY,.k .nilFunc,.k .om,.d (.int .i32 0),.d (.int .i32 0)],false,none⟩
def ZI (t:Nat):Option TI:=(if t<9 then (if t<5 then if t=0 then wC else if t=2 then YM else if t=3 then YM else if t=4 then some ⟨1,1,.bool,qF,true,none⟩ else pH else if t=5 then YN else if t=6 then YN else if t=7 then Xl else if t=8 then Xl else pH) else (if t<13 then if t=9 then ZF else if t=10 then ZF else if t=11 then ZF else if t=12 then YO else pH else if t=13 then Xm else if t=14 then Xm else if t=15 then Uk else if t=16 then Uk else pH))
def ZJ (t:Nat):Option TI:=(if t<26 then (if t<21 then if t=17 then Uk else if t=18 then Xn else if t=19 then Xn else if t=20 then Xk else pH else if t=21 then ZG else if t=22 then some ⟨1,24,.slice 85,qC,true,none⟩ else if t=24 then YO else if t=25 then some ⟨1,24,.slice 75,qC,true,none⟩ else pH) else (if t<30 then if t=26 then some ⟨1,24,.slice 118,qC,true,none⟩ else if t=27 then Xo else if t=28 then Xo else if t=29 then Xp else pH else if t=30 then some ⟨1,24,.slice 45,qC,true,none⟩ else if t=31 then some ⟨1,24,.slice 69,qC,true,none⟩ else if t=32 then some ⟨1,24,.slice 170,qC,true,none⟩ else if t=33 then Xq else pH))
def ZK (t:Nat):Option TI:=(if t<44 then (if t<40 then if t=34 then Xq else if t=35 then Xr else if t=36 then Xr else if t=39 then Xs else pH else if t=40 then Xs else if t=41 then some ⟨1,24,.slice 122,qC,true,none⟩ else if t=42 then Xt else if t=43 then Xt else pH) else (if t<51 then if t=44 then Xu else if t=45 then Xu else if t=46 then wC else if t=48 then some ⟨1,24,.slice 24,qC,true,none⟩ else pH else if t=51 then some ⟨1,24,.slice 9,qC,true,none⟩ else if t=52 then wC else if t=54 then wC else if t=60 then YM else pH))
def ZL (t:Nat):Option TI:=(if t<76 then (if t<69 then if t=61 then wC else if t=63 then some ⟨1,24,.slice 109,qC,true,none⟩ else if t=66 then wC else if t=68 then Xv else pH else if t=69 then Xv else if t=73 then some ⟨1,24,.slice 147,qC,true,none⟩ else if t=74 then Xw else if t=75 then Xw else pH) else (if t<105 then if t=76 then wC else if t=84 then ZH else if t=85 then ZH else if t=99 then wC else pH else if t=105 then wC else if t=109 then ZH else if t=112 then Xx else if t=113 then Xx else pH))
def ZM (t:Nat):Option TI:=(if t<131 then (if t<122 then if t=116 then wC else if t=117 then Xy else if t=118 then Xy else if t=121 then some ⟨3,48,.struct [(0,9),(1,4),(2,51)],.agg [qS,qF,qC],true,none⟩ else pH else if t=122 then some ⟨3,48,.struct [(0,9),(1,4),(2,51)],.agg [qS,qF,qC],true,some ("demesne/sel.holds",76)⟩ else if t=125 then wC else if t=127 then wC else if t=130 then Xz else pH) else (if t<144 then if t=131 then Xz else if t=138 then XA else if t=139 then XA else if t=141 then wC else pH else if t=144 then wC else if t=146 then XB else if t=147 then XB else if t=151 then some ⟨1,24,.slice 209,qC,true,none⟩ else pH))
def ZN (t:Nat):Option TI:=(if t<176 then (if t<164 then if t=153 then wC else if t=157 then some ⟨1,24,.slice 3,qC,true,none⟩ else if t=160 then Xp else if t=163 then XC else pH else if t=164 then XC else if t=169 then XD else if t=170 then XD else if t=174 then wC else pH) else (if t<199 then if t=176 then Xk else if t=177 then Xk else if t=192 then some ⟨1,8,.map 24 3,.k .DL,true,none⟩ else if t=198 then XE else pH else if t=199 then XE else if t=206 then wC else if t=208 then XF else if t=209 then XF else pH))
def ZO (t:Nat):Option TI:=(if t<236 then (if t<230 then if t=220 then wC else if t=226 then some ⟨0,0,.struct [],.agg [],true,none⟩ else if t=227 then some ⟨0,0,.struct [],.agg [],true,some ("demesne/sel.holds",290)⟩ else if t=228 then some ⟨1,24,.slice 9,qC,true,some ("demesne/sel.holds",291)⟩ else pH else if t=230 then wC else if t=233 then some ⟨1,24,.slice 235,qC,true,none⟩ else if t=234 then XG else if t=235 then XG else pH) else (if t<259 then if t=236 then some ⟨6,24,.array 3 235,.agg [.d (.int .i32 0),.d (.int .i32 0),.d (.int .i32 0),.d (.int .i32 0),.d (.int .i32 0),.d (.int .i32 0)],true,none⟩ else if t=237 then some ⟨4,16,.array 2 235,.agg [.d (.int .i32 0),.d (.int .i32 0),.d (.int .i32 0),.d (.int .i32 0)],true,none⟩ else if t=242 then wC else if t=256 then YO else pH else if t=259 then wC else if t=274 then Uk else if t=275 then some ⟨1,24,.slice 5,qC,true,none⟩ else if t=276 then XH else pH))
def ZP (t:Nat):Option TI:=(if t<299 then (if t<288 then if t=277 then XH else if t=279 then Xk else if t=280 then Xk else if t=281 then wC else pH else if t=288 then YM else if t=289 then wC else if t=294 then wC else if t=297 then some ⟨1,4,.int .u32,.d (.int .u32 0),true,none⟩ else pH) else (if t<312 then if t=299 then Uk else if t=300 then YO else if t=304 then Uk else if t=309 then Uk else pH else if t=312 then Uk else if t=313 then wC else if t=315 then wC else if t=319 then some ⟨256,256,.array 256 5,.agg [qY,qY,qY,qY,qY,qY,qY,qY,qY,qY,qY,qY,qY,qY,qY,qY,qY,qY,qY,qY,qY,qY,qY,qY,qY,qY,qY,qY,qY,qY,qY,qY,qY,qY,qY,qY,qY,qY,qY,qY,qY,qY,qY,qY,qY,qY,qY,qY,qY,qY,qY,qY,qY,qY,qY,qY,qY,qY,qY,qY,qY,qY,qY,qY,qY,qY,qY,qY,qY,qY,qY,qY,qY,qY,qY,qY,qY,qY,qY,qY,qY,qY,qY,qY,qY,qY,qY,qY,qY,qY,qY,qY,qY,qY,qY,qY,qY,qY,qY,qY,qY,qY,qY,qY,qY,qY,qY,qY,qY,qY,qY,qY,qY,qY,qY,qY,qY,qY,qY,qY,qY,qY,qY,qY,qY,qY,qY,qY,qY,qY,qY,qY,qY,qY,qY,qY,qY,qY,qY,qY,qY,qY,qY,qY,qY,qY,qY,qY,qY,qY,qY,qY,qY,qY,qY,qY,qY,qY,qY,qY,qY,qY,qY,qY,qY,qY,qY,qY,qY,qY,qY,qY,qY,qY,qY,qY,qY,qY,qY,qY,qY,qY,qY,qY,qY,qY,qY,qY,qY,qY,qY,qY,qY,qY,qY,qY,qY,qY,qY,qY,qY,qY,qY,qY,qY,qY,qY,qY,qY,qY,qY,qY,qY,qY,qY,qY,qY,qY,qY,qY,qY,qY,qY,qY,qY,qY,qY,qY,qY,qY,qY,qY,qY,qY,qY,qY,qY,qY,qY,qY,qY,qY,qY,qY,qY,qY,qY,qY,qY,qY,qY,qY,qY,qY,qY,qY],true,none⟩ else pH))
def ZQ (t:Nat):Option TI:=(if t<328 then (if t<323 then if t=320 then XI else if t=321 then XI else if t=322 then some ⟨32,32,.array 16 321,.agg [qY,qY,qY,qY,qY,qY,qY,qY,qY,qY,qY,qY,qY,qY,qY,qY,qY,qY,qY,qY,qY,qY,qY,qY,qY,qY,qY,qY,qY,qY,qY,qY],true,none⟩ else pH else if t=323 then wC else if t=325 then XJ else if t=326 then XJ else if t=327 then some ⟨0,0,.array 0 16,.agg [],true,none⟩ else pH) else (if t<333 then if t=328 then XK else if t=329 then XK else if t=330 then YN else if t=331 then YN else pH else if t=333 then ZG else if t=334 then ZG else if t=335 then XL else if t=336 then XL else pH))
def tb (t:Nat):Option TI:=(if t<116 then (if t<34 then (if t<17 then ZI t else ZJ t) else (if t<61 then ZK t else ZL t)) else (if t<220 then (if t<153 then ZM t else ZN t) else (if t<277 then ZO t else (if t<320 then ZP t else ZQ t))))
def tT (t:Nat):Option TI:=if t<339 then tb t else none
theorem XM:(List.range 339).map (pF Go.Proofs.Tryz.prog)=(List.range 339).map tb:=by kernel_rfl
def Ps:Bool:=(List.range 339).all fun t=>match tb t with
 |some ti=>match ti.kd with
  |.struct fs=>fs.all fun f=>(tT f.2).isSome
  |_=>true
 |none=>true
theorem GL:Ps=true:=by kernel_rfl
theorem Ul:kD Go.Proofs.Tryz.prog tT:=by
 refine ⟨?_,?_,?_⟩
 ·intro t ti h
  unfold tT at h
  split at h
  ·rename_i ht'
   have e:=congrArg (fun l=>l[t]?) XM
   simp only [List.getElem?_map,List.getElem?_range ht',Option.map_some,osI] at e
   rw [e,h]
  cases h
 ·intro t ti fs h hk f hf
  unfold tT at h
  split at h
  ·rename_i ht'
   have hall:=List.all_eq_true.1 GL t (by simp [ht'])
   simp only [h,hk] at hall
   have:=List.all_eq_true.1 hall f hf
   exact Option.isSome_iff_exists.1 this
  cases h
 exact Nat.le_of_ble_eq_true (by kernel_rfl)
def gl (g:Nat):Option (List D):=
 bif Nat.beq g 0 then some [.int .i32 97,.int .i32 122,.int .i32 945,.int .i32 969,.int .i32 1072,.int .i32 1103] else
 bif Nat.beq g 1 then some [.int .i32 48,.int .i32 57,.int .i32 45,.int .i32 45] else none
def FC:Nat→List AV→List aA→jR→List aA→Prop:=bF Go.Proofs.Tryz.prog gl
theorem Jm:p8 Go.Proofs.Tryz.prog tT gl:=Sc Ul (by kernel_rfl)
theorem GM (tS tR:TypeId) (a:Addr) (ba:Option Addr) (la ca lb cb:Nat):∃(m:String) (ch:Sem Nat),
 Extern.SlicesOverlaps.overlaps #[tS,tS] #[tR] #[.slice (some a) la ca,.slice ba lb cb]=(do
 let .slice elem ←underlying tS|stuck m
 let size ←Go.sizeOf elem
 match ba with
 |some b=>
  if la=0∨lb=0∨size=0 then pure (Value.bool false)
  else if a.block !=b.block&&(←frozen a)&&(←frozen b) then unsupported .addressObserved
  else do
   if a.block !=b.block then do
    noView a;noView b
    if ←mayBeOne a b then return Value.bool ((←ch)==1)
   pure (Value.bool (a.block==b.block&&a.off<b.off+lb*size&&b.off<a.off+la*size))
 |none=>pure (Value.bool false)):=by
 apply Exists.intro
 apply Exists.intro
 cases ba with
 |some b=>rfl
 |none=>rfl
theorem wD {P:Program} (w:World) (tS tR e:TypeId) (ht:P.underlying tS=some (.slice e)) {size:Nat} (hz:∀w,(Go.sizeOf e).run P w=.ok size w)
 (a:Addr) (ba:Option Addr) (la ca lb cb:Nat) {tA:TypeId} {kA:Nat} (XN:w.shape? a.block=some (tA,kA)) (ZR:kA≠0)
 (hb:lb=0∨∃b c e',ba=some b∧b.spot=none∧a.block≠b.block∧w.heap[b.block]?=some (.cells c e' (0,0))):
 (Extern.SlicesOverlaps.overlaps #[tS,tS] #[tR] #[.slice (some a) la ca,.slice ba lb cb]).run P w=.ok (.bool false) w:=by
 have kV:(underlying tS).run P w=.ok (.slice e) w:=aV ht
 obtain ⟨m,ch,e⟩:=GM tS tR a ba la ca lb cb
 rw [e]
 clear e
 cases ba with
 |none=>simp [kV,hz]
 |some b=>
 by_cases h0:la=0∨lb=0∨size=0
 ·simp [kV,hz,h0]
 rcases hb with hb|⟨b',c,e',hbe,hsp,hne,hh⟩
 ·exact absurd (.inr (.inl hb)) h0
 simp only [osI] at hbe;subst hbe
 have hnb:(a.block !=b.block)=true:=by simpa using hne
 have ZS:(a.block==b.block)=false:=by simpa using hne
 have IE:w.shape? b.block=some (e',c.size):=by simp [World.shape?,hh]
 have hf:∀off sp,w.frozen? {block:=b.block,off:=off,spot:=sp}=false:=by intro off sp;simp [World.frozen?,hh]
 have hfb:w.frozen? b=false:=hf _ _
 cases kA with
 |zero=>exact absurd rfl ZR
 |succ kA=>
 cases h1:w.frozen? a<;>cases h2:w.frozen? {block:=a.block,off:=kA+1}<;>
  simp [kV,hz,h0,hnb,ZS,frozen,noView,Go.viewAt,mayBeOne,stringish,shape,Sem.run,XN,IE,hfb,hf,h1,h2]
theorem iC {P:Program} {G:Nat→Option (List D)} {T:Nat→Option TI} (hT:kD P T) {f:Nat} {fn:Func} {tS tR:TypeId} (hf:P.funcs[f]?=some fn) (hname:(fn.name== "runtime.NumGoroutine")=false)
 (hb:fn.body.isNone=true) (hn:Extern.findNext fn=none) (he:Extern.find fn=some (Extern.SlicesOverlaps.overlaps #[tS,tS] #[tR])) {te:TI} (hel:elemOf T tS=some te)
 {b sz off n c:Nat} {ex:Bool} {es:List (List D)} {x:D} {row:List D} {xs:List (List D)} {bx:List aA} (rG:bx[b]?=some (.row sz es)) (hne:es≠[]):
 bF P G f [.d (.sl ((x::row)::xs)),.vw b sz off n c ex] bx (.ret (.d (.bool false))) bx:=by
 intro β w vs X cx hx
 simp only [an,ak,aL] at hx
 obtain ⟨u1,YP,rfl,⟨base,cap,rfl,_,h1⟩,u2,Ot,rfl,⟨_,Pt,RX,cs,e2,f2,rfl,k1,k2,k3,k4⟩,rfl⟩:=hx
 obtain ⟨ti,e,t1,t2,t3⟩:=eR hel
 have kV:=fO hT t1 t2
 obtain ⟨ei,ed,g1,g2,g3,g4,g5,g6⟩:=aJ (hT.ti _ _ t3)
 rcases h1 with h1|⟨blk,o,sz2,rfl,hok,hrows⟩
 ·simp at h1
 simp only [ay,aY] at hrows
 obtain ⟨_,⟨⟨u,hcell,_⟩,_⟩,_⟩:=hrows
 have XN:∃tA kA,w.shape? blk=some (tA,kA)∧kA≠0:=by
  simp only [World.cell?] at hcell
  split at hcell
  ·rename_i ca ea fa hh
   refine ⟨ea,ca.size,by simp [World.shape?,hh],?_⟩
   intro h0
   simp at hcell
   obtain ⟨hlt,_⟩:=Array.getElem?_eq_some_iff.1 hcell
   omega
  simp at hcell
 obtain ⟨tA,kA,XN,ZR⟩:=XN
 have cG:(aA.row sz es).live=true:=by cases es<;>simp_all [aA.live]
 have hrun:=wD (P:=P) w tS tR e kV (fun w=>bX g1) ⟨blk,o,none⟩ Pt (xs.length+1) cap n RX XN ZR (by
  rcases k4 with k4|⟨rfl,k5,k6⟩
  ·left;omega
  rcases cx.box _ _ rG with h0|⟨c3,e3,j1,j2⟩
  ·exact absurd h0 hne
  exact .inr ⟨_,c3,e3,rfl,rfl,fun heq=>hok.2.2 b _ rG cG heq.symm,j1⟩)
 refine .inr ⟨.bool false,w,?_,β,Ext.refl _ _ _,cx,by simp only [mh,ak,aL]⟩
 rw [run_callFunc_extern hf hname hb hn he]
 have e1:(({toList:=[.slice (some ⟨blk,o,none⟩) ((x::row)::xs).length cap,.slice Pt n RX]}:Array Value))=#[.slice (some ⟨blk,o,none⟩) (xs.length+1) cap,.slice Pt n RX]:=rfl
 rw [e1,hrun]
 rfl
end Dem
end
section
open Go
namespace Dem
section
variable {P:Program} {G:Nat→Option (List D)} {bx:List aA}
theorem GN {f:Nat} {args nP:List AV} {v:AV} (ks:List Bool) (hz:fe bx args=some nP) (hn:AV.bU.dw (kill ks bx) nP=true) (hl:eB false (kill ks bx) (kill ks bx)=true)
 (hv:v.flat=true∨fe [] args=some nP∧v.shut=true) (h:bF P G f nP (kill ks bx) (.ret v) (kill ks bx)):bF P G f args bx (.ret v) bx:=by
 intro β w vs X cx hx
 refine jD.mono (xF cx hx ⟨nP,kill ks bx,hz,hn,⟨false,hl,fun h=>by cases h⟩,?_,h,hv⟩) ?_
 ·intro i b hi dW
  obtain ⟨b0,h1,h2⟩:=mz ks bx i b hi
  rcases h2 with rfl|⟨rfl,h3⟩
  ·exact ⟨_,h1,dW,fun _=>rfl⟩
  exact ⟨b0,h1,h3,fun h=>by simp [aA.live] at h⟩
 rintro e w' ⟨u,rfl,h2,h3,h4⟩
 exact ⟨β,h2,h3,h4⟩
theorem Pu {t:Th} (ht:t=t0) {lQ:Prop} {fz:Option (Prop×List AV)} {f:Nat} {args nP pn:List AV} {bx aQ:List aA} {v:AV} {c:Prop} {K Kp:AV→List aA→Prop} (ks:List Bool) (cE:List Nat) (ho:lQ)
 (hz:qn t bx args=some (c,nP)) (hc:c) (hn:AV.bU.dw (kill ks bx) nP=true) (hl:eB false (kill ks bx) (kill ks bx)=true) (hv:v.flat=true)
 (ha:AV.yI (fun b=>eF b cE 0) nP=some pn) (hb:gM (fun b=>eF b cE 0) (kill ks bx) cE=some aQ) (hb':GH cE (kill ks bx) aQ=some (kill ks bx)) (hr:jR.iP (lm cE (kill ks bx).length) (.ret v)=some (.ret v))
 (h:bF P G f pn aQ (.ret v) aQ) (hK:K v bx):pi (bF P G) lQ f args fz bx K Kp:=by
 subst ht
 exact eG ho (GN ks (gL hz hc) hn hl (.inl hv) (dK cE ha hb hr hb' h)) hK
end
end Dem
end
section
open Go
namespace Dem
abbrev TT (t:Th):Prop:=∀(α:Type) (f:Unit→α),t α f=f ()
theorem kP {t:Th} (ht:TT t) {α:Type} {e x:α} (h:e=x):(t _ fun _=>e)=x:=by rw [ht];exact h
section
variable {P:Program} {G:Nat→Option (List D)} {FC:Nat→List AV→List aA→jR→List aA→Prop} {lQ:Prop} {f:Nat} {args args':List AV} {c:Prop} {bx:List aA} {K Kp:AV→List aA→Prop} {ρ:Type}
theorem bc {E:ρ→AV} {r0:ρ} (ho:lQ) (h:FC f args' [] (.ret (E r0)) []) (hc:c) (hs:AV.shut.mV args'=true) (hf:(E r0).flat=true) (hK:∀r,r=r0→K (E r) bx):pi FC lQ f args (some (c,args')) bx K Kp:=
 gB ho h hc hs hf (hK _ rfl)
theorem aF {E:ρ→AV} {r0:ρ} (ho:lQ) (h:FC f args' [] (.ret (E r0)) []) (hc:c) (hs:AV.shut.mV args'=true) (hz:fe [] args=some args') (hv:(E r0).shut=true) (hK:∀r,r=r0→K (E r) bx):pi FC lQ f args (some (c,args')) bx K Kp:=
 Lt ho h hc hs hz hv (hK _ rfl)
theorem Jn {E:ρ→AV} {r0:ρ} {fz:Option (Prop×List AV)} {pP:List aA} (ho:lQ) (hfz:fz=some (c,args')) (hc:c) (h:FC f args' (fw bx args) (.ret (E r0)) pP) (hK:∀r,r=r0→K (E r) pP):pi FC lQ f args fz bx K Kp:=
 Uj ho hfz hc h (hK _ rfl)
theorem eY {dr g:Bool} {K:AV→Prop} {E:ρ→AV} {r0:ρ} (h:g=true→lQ∧c∧FC f args' [] (.ret (E r0)) []) (hs:AV.bU.dw [] args'=true) (hf:(E r0).flat=true) (hK:∀r,r=r0→K (E r)):tB FC dr g lQ f args bx (some (c,args')) K:=
 GI h hs hf (hK _ rfl)
theorem gX {dr g:Bool} {K:AV→Prop} {E:ρ→AV} {r0:ρ} (h:g=true→lQ∧c∧FC f args' [] (.ret (E r0)) []) (hs:AV.bU.dw [] args'=true) (hz:fe [] args=some args') (hf:(E r0).shut=true) (hK:∀r,r=r0→K (E r)):tB FC dr g lQ f args bx (some (c,args')) K:=
 nB h hs hz hf (hK _ rfl)
end
theorem kp {t:Th} (ht:TT t) {α:Type} {l:List α} {cells cT:α→List D} {es:List (List D)} (aE:es=l.map cells) {z:Int} {n:Nat} {K:List D→Prop} (h0:0≤z) (h1:z<l.length) (hn:∀x,(cells x).length=n) (hT:∀x,cells x=cT x)
 (hK:∀x,l[z.toNat]?=some x→K (cT x)):nI true (t Prop fun _=>0≤z∧z<es.length∧∀r∈es,r.length=n) (t _ fun _=>es.getD z.toNat []) K:=by
 have hz:z.toNat<l.length:=by omega
 refine jG (cT l[z.toNat]) ?_ ?_ (hK _ (List.getElem?_eq_getElem hz))
 ·simp only [ht];refine ⟨h0,by rw [aE,lgM];exact h1,?_⟩
  rw [aE];intro r hr;obtain ⟨y,_,rfl⟩:=List.mem_map.1 hr;exact hn y
 simp only [ht];rw [aE,←hT];simp [hz]
theorem cz {s:St} {n:Nat} {σ:Type} {J:Nat→σ→Prop} {F:σ→St} (v:σ) (hs:s=F v) (m:Nat) (hm:m<n) (hJ:J m v):LoopIn (some s) (fun s3=>∃m v',(m<n∧J m v')∧s3=F v'):=aH (P:=fun s3=>∃m v',(m<n∧J m v')∧s3=F v') ⟨m,v,⟨hm,hJ⟩,hs⟩
theorem XO {α:Type} {l:List α} {cells:α→List D} {u:List (List D)} (hu:u=l.map cells) {row:List D} {sz b:Nat} (hn:∀x,(cells x).length=sz) (hr:row.length=sz) (hl:l.length<1000000) (hb:b≤10000):
 u.length=u.length∧(u.length+[row].length)*b≤140737488355328∧∀r∈u++[row],r.length=sz:=by
 refine ⟨rfl,?_,?_⟩
 ·rw [hu,lgM]
  exact Nat.le_trans (Nat.mul_le_mul (show l.length+[row].length≤1000000 by simp;omega) hb) (by decide)
 intro r hr'
 rcases List.mem_append.1 hr' with h|h
 ·rw [hu] at h;obtain ⟨y,_,rfl⟩:=List.mem_map.1 h;exact hn y
 simp at h;subst h;exact hr
end Dem
end
section
open Go
namespace Dem
def flat:Code→List Code
 |.seq a b=>flat a++flat b
 |c=>[c]
section
variable {P:Program}
def tE (P:Program):List Code→(Exit→Act→World→Prop)→Act→World→Prop
 |[],Q=>Q .normal
 |c::r,Q=>c.wp P (Exit.then (tE P r Q) Q)
theorem CS {K K':Act→World→Prop} {Q Q':Exit→Act→World→Prop} (h:∀a w,K a w→K' a w) (hq:∀e a w,Q e a w→Q' e a w):∀e a w,Exit.then K Q e a w→Exit.then K' Q' e a w:=by
 intro e a w hh;cases e<;>simp only [Exit.then] at hh ⊢<;>first|exact h _ _ hh|exact hq _ _ _ hh
theorem GO:∀{l:List Code} {Q Q':Exit→Act→World→Prop} {a:Act} {w:World},(∀e a w,Q e a w→Q' e a w)→tE P l Q a w→tE P l Q' a w
 |[],_,_,_,_,hq,h=>hq _ _ _ h
 |_::_,_,_,_,_,hq,h=>wp_mono h (CS (fun _ _ hh=>GO hq hh) hq)
theorem Ax:∀{l1 l2:List Code} {Q:Exit→Act→World→Prop} {a:Act} {w:World},tE P (l1++l2) Q a w→tE P l1 (Exit.then (tE P l2 Q) Q) a w
 |[],_,_,_,_,h=>h
 |c::l1,l2,Q,a,w,h=>by
  refine wp_mono (show c.wp P (Exit.then (tE P (l1++l2) Q) Q) a w from h) ?_
  intro e a w hh
  cases e<;>simp only [Exit.then] at hh ⊢<;>first|exact Ax hh|exact hh
theorem Ef:∀(c:Code) {Q:Exit→Act→World→Prop} {a:Act} {w:World},tE P (flat c) Q a w→c.wp P Q a w
 |.seq x y,Q,a,w,h=>by
  have h:=Ax (show tE P (flat x++flat y) Q a w from h)
  refine wp_seq (wp_mono (Ef x h) ?_)
  exact CS (fun a w hh=>Ef y hh) (fun _ _ _ hh=>hh)
 |.skip,Q,a,w,h=>wp_mono h (by intro e a w hh;cases e<;>simpa only [tE,Exit.then] using hh)
 |.region ..,Q,a,w,h=>wp_mono h (by intro e a w hh;cases e<;>simpa only [tE,Exit.then] using hh)
 |.cond ..,Q,a,w,h=>wp_mono h (by intro e a w hh;cases e<;>simpa only [tE,Exit.then] using hh)
 |.block ..,Q,a,w,h=>wp_mono h (by intro e a w hh;cases e<;>simpa only [tE,Exit.then] using hh)
 |.loop ..,Q,a,w,h=>wp_mono h (by intro e a w hh;cases e<;>simpa only [tE,Exit.then] using hh)
 |.rangeFunc ..,Q,a,w,h=>wp_mono h (by intro e a w hh;cases e<;>simpa only [tE,Exit.then] using hh)
 |.exit ..,Q,a,w,h=>wp_mono h (by intro e a w hh;cases e<;>simpa only [tE,Exit.then] using hh)
 |.scope ..,Q,a,w,h=>wp_mono h (by intro e a w hh;cases e<;>simpa only [tE,Exit.then] using hh)
 |.label ..,Q,a,w,h=>wp_mono h (by intro e a w hh;cases e<;>simpa only [tE,Exit.then] using hh)
 |.goto ..,Q,a,w,h=>wp_mono h (by intro e a w hh;cases e<;>simpa only [tE,Exit.then] using hh)
 |.ret,Q,a,w,h=>wp_mono h (by intro e a w hh;cases e<;>simpa only [tE,Exit.then] using hh)
 |.refuse ..,Q,a,w,h=>wp_mono h (by intro e a w hh;cases e<;>simpa only [tE,Exit.then] using hh)
end
section
variable (t:Th) (FC:Nat→List AV→List aA→jR→List aA→Prop) (T:Nat→Option TI) (G:Nat→Option (List D)) (N K:Nat)
def Pv:List Code→(Ex→St→Prop)→St→Prop
 |[],Q,s=>Q .normal s
 |c::r,Q,s=>yK t FC T G N K c (fun e s1=>uj (fun s1=>Pv r Q s1) Q e s1) s
end
section
variable {P:Program} {T:Nat→Option TI} {G:Nat→Option (List D)} {N K:Nat} {ds:List Deferred} {X:Nat→Prop} {β0:Nat→Nat} {aQ:List aA} {w0:World}
theorem tF (hT:kD P T) (hD:p8 P T G) (hK:aQ.length≤K):∀(l:List Code) (Q:Ex→St→Prop) (β:Nat→Nat) (w:World) (s:St) (a:Act),Ext β0 aQ w0 β s.bx w→Fr G N ds β w X s a→
 Pv t0 (bF P G) T G N K l Q s→tE P l (gE G N ds X β0 aQ w0 Q) a w
 |[],Q,β,w,s,a,ex,hF,h=>⟨β,s,ex,hF,h⟩
 |c::l,Q,β,w,s,a,ex,hF,h=>by
  refine wp_mono (gk hT hD hK c _ β w s a ex hF h) ?_
  intro e a' w' hl
  cases e<;>simp only [gE,uj,Exit.then] at hl ⊢
  ·obtain ⟨β',s',h1,h2,h3⟩:=hl
   exact tF hT hD hK l Q β' w' s' a' h1 h2 h3
  all_goals exact hl
theorem xV:∀{l1 l2:List Code} {Q:Exit→Act→World→Prop} {a:Act} {w:World},tE P l1 (Exit.then (tE P l2 Q) Q) a w→tE P (l1++l2) Q a w
 |[],_,_,_,_,h=>h
 |c::l1,l2,Q,a,w,h=>by
  refine wp_mono (show c.wp P (Exit.then (tE P l1 (Exit.then (tE P l2 Q) Q)) (Exit.then (tE P l2 Q) Q)) a w from h) ?_
  intro e a w hh
  cases e<;>simp only [Exit.then] at hh ⊢<;>first|exact xV hh|exact hh
end
end Dem
end
section
namespace Dem
abbrev aK:=List UInt8
structure bM where
 a:Int
 b:Int
 c:Int
 d:Int
deriving DecidableEq
def bM.zero:bM:=⟨0,0,0,0⟩
def GP (x y:Int):Int×Bool:=if x.toNat+y.toNat<18446744073709551616 then (((x.toNat+y.toNat:Nat):Int),true) else (0,false)
def GQ (x y:Int):Int×Bool:=if x.toNat<y.toNat then (0,false) else (((((x.toNat-y.toNat)%18446744073709551616:Nat)):Int),true)
def both (f:Int→Int→Int×Bool) (a b:bM):bM×Bool:=
 if (f a.a b.a).2&&(f a.b b.b).2&&(f a.c b.c).2&&(f a.d b.d).2 then (⟨(f a.a b.a).1,(f a.b b.b).1,(f a.c b.c).1,(f a.d b.d).1⟩,true) else (bM.zero,false)
def jX (a b:bM):bM×Bool:=both GP a b
def ej (a b:bM):bM×Bool:=both GQ a b
def lq (a b:bM):Bool:=(ej b a).2
end Dem
namespace Dem
def idxOf {α:Type} (p:α→Bool) (l:List α):Int:=match l.findIdx? p with|some k=>(k:Int)|none=>-1
theorem dD {α:Type} {p:α→Bool}:∀{l:List α} {k:Nat} {x:α},l[k]?=some x→p x=true→(∀i<k,∀y,l[i]?=some y→p y=false)→l.findIdx? p=some k
 |[],_,_,h,_,_=>by simp at h
 |y::r,0,x,h,hp,_=>by simp at h;subst h;simp [List.findIdx?_cons,hp]
 |y::r,k+1,x,h,hp,hb=>by
  have hy:p y=false:=hb 0 (by omega) y (by simp)
  simp only [List.getElem?_cons_succ] at h
  rw [List.findIdx?_cons,hy]
  simp [dD h hp fun i hi z hz=>hb (i+1) (by omega) z (by simpa using hz)]
theorem dQ {α:Type} {p:α→Bool} {l:List α} (hb:∀(i:Nat) (y:α),l[i]?=some y→p y=false):l.findIdx? p=none:=by
 rw [List.findIdx?_eq_none_iff]
 intro x hx
 obtain ⟨i,hi⟩:=List.getElem?_of_mem hx
 exact hb i x hi
theorem iQ {α:Type} (p:α→Bool) (l:List α):l.any p=decide (0≤idxOf p l):=by
 unfold idxOf
 cases h:l.findIdx? p with
 |none=>
  rw [List.findIdx?_eq_none_iff] at h
  simp
  intro x hx;simp [h x hx]
 |some k=>
  have:=List.findIdx?_eq_some_iff_getElem.1 h
  obtain ⟨hk,hp,_⟩:=this
  simp
  exact ⟨l[k],List.getElem_mem hk,hp⟩
end Dem
end
section
open Go Dem Go.Proofs
namespace Dem
theorem TT.eq {t:Th} (h:TT t):t=t0:=by funext α f;exact h α f
theorem bP {t:Th} (ht:TT t) {f N:Nat} {fn:Func} {c:Code} {args:List AV} {aQ aU:List aA} {res:jR} (hf:Tryz.prog.funcs[f]?=some fn) (hb:fn.body=some c)
 (hname:(fn.name== "runtime.NumGoroutine")=false) (hN:fn.ntmps=N) {rs:List ResultVar} (RP:fn.results.toList=rs) {n:Nat} (hn:aQ.length=n) (hlen:Nat.ble args.length N=true)
 (h:yK t FC tT gl N n c (xT t tT rs n res aU) ⟨pR 0 args,aQ⟩):FC f args aQ res aU:=by
 subst RP;subst hn
 have e:=ht.eq
 subst e
 exact yL Ul Jm hf hb hname hN hlen h
theorem YQ {f:Nat} {fn:Func} {e:Array Value→Sem Value} {args:List AV} {v:AV} (hf:Tryz.prog.funcs[f]?=some fn) (hname:(fn.name== "runtime.NumGoroutine")=false)
 (hb:fn.body.isNone=true) (hn:Extern.findNext fn=none) (he:Extern.find fn=some e)
 (h:∀(β:Nat→Nat) (w:World) (vs:List Value) (ok:Nat→Prop),an β [] w ok args vs→∃u,(e ⟨vs⟩).run Tryz.prog w=.ok u w∧ak β [] w ok v u):FC f args [] (.ret v) []:=by
 intro β w vs X cx hx
 obtain ⟨u,h1,h2⟩:=h β w vs _ hx
 refine .inr ⟨u,w,?_,β,Ext.refl _ _ _,cx,h2⟩
 rw [run_callFunc_extern hf hname hb hn he,h1]
 rfl
abbrev bG (x:Int):AV:=.d (.int .i64 x)
abbrev aC (x:Int):AV:=.d (.int .u64 x)
abbrev BL (b:Bool):AV:=.d (.bool b)
abbrev ST (s:List UInt8):AV:=.d (.str s)
abbrev SL (es:List (List D)):AV:=.d (.sl es)
abbrev V4 (a b c d:Int):AV:=.agg [.d (.int .u64 a),.d (.int .u64 b),.d (.int .u64 c),.d (.int .u64 d)]
theorem aG {k:Nat} (h1:k<9223372036854775807):IntKind.i64.wrap ((k:Int)+1)=((k+1:Nat):Int):=by rw [wrap64 (by omega) (by omega)];omega
theorem ah (n:Nat):@NatCast.natCast Int instNatCastInt n=(n:Int):=rfl
end Dem
end
section
open Go Go.Proofs Go.ChangeShapes Go.WideShapes Go.RowKit
namespace Dem
theorem own:ownKnob Tryz.prog.godebug=none:=by kernel_rfl
theorem laidOut:laidOutB Tryz.prog=true:=by kernel_rfl
theorem Pw:Tryz.prog.globalNamed "demesne/word.letters"=some 0:=by kernel_rfl
theorem Vb:Tryz.prog.globalNamed "demesne/word.marks"=some 1:=by kernel_rfl
def CT:TypeId:=236
def Lu:TypeId:=237
theorem Px:(Tryz.prog.globals[0]?).map (·.type)=some CT:=by kernel_rfl
theorem Vc:(Tryz.prog.globals[1]?).map (·.type)=some Lu:=by kernel_rfl
def ZT:DataW Unit→Value
 |.lit (.int k n)=>.int k n
 |_=>.int .u8 0
def ZU:DataW Unit→List Value
 |.agg l=>l.map ZT
 |_=>[]
noncomputable def Py (os:Os):World:=
 let w0:=World.doorLaid Tryz.prog 400 os
 {w0 with heap:=w0.heap.modify 3 fun
  |.cells _ t fr=>.cells (ZU YtihohjnkkalgiaaGreatDoor.Rows.laid_unicode_utf8_first).toArray t fr
  |o=>o}
abbrev qw:List (String×DataW Unit):=[("unicode/utf8.acceptRanges",YtihohjnkkalgiaaGreatDoor.Rows.laid_unicode_utf8_acceptRanges),("demesne/word.letters",YtihohjnkkalgiaaGreatDoor.Rows.laid_demesne_word_letters),("demesne/word.marks",YtihohjnkkalgiaaGreatDoor.Rows.laid_demesne_word_marks),("unicode/utf8.first",YtihohjnkkalgiaaGreatDoor.Rows.laid_unicode_utf8_first)]
theorem GR (os:Os) (args:Array Value):laidMetH Tryz.prog qw ((Py os).forCall (fun _ _=>0) ⟨#[],args,[]⟩).memory:=
 laidMetH_of_parts3 (fuel:=8) (laidMet_of_run' 8 (by kernel_rfl) (by kernel_rfl)) (by kernel_rfl) (by kernel_rfl)
theorem tyL:F4 Tryz.prog 8 CT=some [.int .i32,.int .i32,.int .i32,.int .i32,.int .i32,.int .i32]:=by kernel_rfl
theorem tyM:F4 Tryz.prog 8 Lu=some [.int .i32,.int .i32,.int .i32,.int .i32]:=by kernel_rfl
theorem Eg {w:World} {ok:Nat→Prop} {blk:Nat}:∀{ds:List D} {vs:List Value} (off:Nat),cN w ok ds vs→(∀i v,vs[i]?=some v→w.cell? ⟨blk,off+i,none⟩=some v)→aY w ok blk ds off
 |[],_,_,_,_=>by simp [aY]
 |d::ds,vs,off,h,hc=>by
  simp only [cN] at h
  obtain ⟨v,r,rfl,h1,h2⟩:=h
  simp only [aY]
  refine ⟨⟨v,hc 0 v rfl,h1⟩,Eg (off+1) h2 fun i u hu=>?_⟩
  rw [show off+1+i=off+(i+1) by omega]
  exact hc (i+1) u (by simpa using hu)
theorem GS {W:World} (h:laidMetH Tryz.prog qw W):cP gl (fun _=>0) [] W (fun _=>False):=by
 rw [MakeChecks.laidMetH_plain _ _ _ (by kernel_rfl)] at h
 obtain ⟨ps,⟨_,_,_,_,_,_,_,_,_,_,⟨g0,t0,cs0,f0,p0,q0,UT,ht0,Sw,YL,⟨g1,t1,cs1,f1,p1,q1,hg1,ZV,XP,WT,_,_⟩,_⟩,_⟩,_,_⟩:=h
 obtain rfl:=Option.some.inj (Pw.symm.trans UT)
 obtain rfl:=Option.some.inj (Vb.symm.trans hg1)
 obtain rfl:=Option.some.inj (Px.symm.trans ht0)
 obtain rfl:=Option.some.inj (Vc.symm.trans ZV)
 have hok:∀blk,blk<W.heap.size→bp (fun _=>0) [] W (fun _=>False) blk:=fun blk hb=>⟨hb,fun h=>h,fun i b hb=>by simp at hb⟩
 obtain ⟨r0,_⟩:=uL hok 8 _ _ _ _ _ YL tyL
 obtain ⟨r1,_⟩:=uL hok 8 _ _ _ _ _ WT tyM
 have c0:=fun i=>World.var?_cell UT Sw i
 have c1:=fun i=>World.var?_cell hg1 XP i
 refine ⟨fun _ h=>h.elim,?_,by simp,by simp,by simp⟩
 intro g ds hg
 unfold gl at hg
 have hlt:∀{i:Nat} {a:Addr} {v:Value},W.cell? a=some v→a.block<W.heap.size:=by
  intro i a v hc
  rcases Nat.lt_or_ge a.block W.heap.size with h|h
  ·exact h
  simp [World.cell?,h] at hc
 cases e0:Nat.beq g 0 with
 |true=>
  rw [e0] at hg
  simp only [cond_true,osI] at hg
  obtain rfl:=Nat.eq_of_beq_eq_true e0
  have hrow:aY W (bp (fun _=>0) [] W (fun _=>False)) 0 ds 0:=by
   rw [←hg];exact Eg 0 r0 fun i v hv=>by rw [Nat.zero_add,c0 i];simpa using hv
  refine ⟨hok _ ?_,hrow⟩
  rw [←hg] at hrow
  simp only [aY] at hrow
  obtain ⟨⟨u,hu,_⟩,_⟩:=hrow
  exact hlt (i:=0) hu
 |false=>
  rw [e0] at hg
  simp only [cond_false] at hg
  cases e1:Nat.beq g 1 with
  |true=>
   rw [e1] at hg
   simp only [cond_true,osI] at hg
   obtain rfl:=Nat.eq_of_beq_eq_true e1
   have hrow:aY W (bp (fun _=>0) [] W (fun _=>False)) 1 ds 0:=by
    rw [←hg];exact Eg 0 r1 fun i v hv=>by rw [Nat.zero_add,c1 i];simpa using hv
   refine ⟨hok _ ?_,hrow⟩
   rw [←hg] at hrow
   simp only [aY] at hrow
   obtain ⟨⟨u,hu,_⟩,_⟩:=hrow
   exact hlt (i:=0) hu
  |false=>rw [e1] at hg;cases hg
theorem Ay {f:Nat} {args:List AV} {vs:List Value} {W:World} (hL:laidMetH Tryz.prog qw W) (he:∀args w,(callFunc f args).run Tryz.prog w=.ok (.enter f args) w)
 (hx:an (fun _=>0) [] W (bp (fun _=>0) [] W (fun _=>False)) args vs) (h:FC f args [] (.ret (.d (.bool true))) []):
 Calls Tryz.prog f ⟨vs⟩ W fun e w'=>e=.returned (.bool true)∧RowKit.Below W.heap.size W w':=by
 have hc:=h (fun _=>0) W vs (fun _=>False) (GS hL) hx
 rcases hc with ⟨_,hc⟩|⟨v,w',hc,_⟩
 ·refine hc.mono ?_
  rintro e w' ⟨β',ex,_,hr⟩
  cases e with
  |returned u=>
   simp only [mh,ak,aL] at hr
   subst hr
   exact ⟨rfl,⟨ex.os,ex.tape,ex.output,ex.size,fun k hk=>ex.block k hk (by simp)⟩⟩
  |_=>exact hr.elim
 rw [he] at hc;cases hc
theorem B6 {H:Type} {enc:TypeId×Value→H} {P:Program} (hl:laidOutB P=true) {W W':World} (hb:RowKit.Below W.heap.size W W'):∀(ts:List TypeId) (vs:List Value) (ds:List (DataW H)) (ps:List MemPlace),(ts.all fun t=>P.readableRec t&&decide (t<P.types.size))=true→
 (∀x∈ps,x.block<W.heap.size)→DataW.TrodAll enc P W 0 (fun _=>true) true ts vs ds ps→DataW.TrodAll enc P W' 0 (fun b=>decide (b<W.heap.size)) true ts vs ds ps:=by
 intro ts
 induction ts with
 |nil=>
  intro vs ds ps _ _ h
  cases vs with
  |nil=>cases ds with
   |nil=>exact h
   |cons d ds=>exact h.elim
  |cons v vs=>cases ds<;>exact h.elim
 |cons t ts ih=>
  intro vs ds ps ht hlt h
  cases vs with
  |nil=>cases ds<;>exact h.elim
  |cons v vs=>cases ds with
   |nil=>exact h.elim
   |cons d ds=>
    obtain ⟨p,q,h1,h2,rfl⟩:=h
    simp only [List.all_cons,Bool.and_eq_true,decide_eq_true_eq] at ht
    exact ⟨p,q,RowKit.Below.trod hl ht.1.1 ht.1.2 h1 hb (fun x hx=>hlt x (List.mem_append_left _ hx)),ih vs ds q ht.2 (fun x hx=>hlt x (List.mem_append_right _ hx)) h2,rfl⟩
theorem GU {H:Type} {enc:TypeId×Value→H} {P:Program} {W:World}:∀(ts:List TypeId) (vs:List Value) (ds:List (DataW H)) (ps:List MemPlace),DataW.TrodAll enc P W 0 (fun _=>true) true ts vs ds ps→ds.length=ts.length:=by
 intro ts
 induction ts with
 |nil=>
  intro vs ds ps h
  cases vs with
  |nil=>cases ds with
   |nil=>rfl
   |cons d ds=>exact h.elim
  |cons v vs=>cases ds<;>exact h.elim
 |cons t ts ih=>
  intro vs ds ps h
  cases vs with
  |nil=>cases ds<;>exact h.elim
  |cons v vs=>cases ds with
   |nil=>exact h.elim
   |cons d ds=>obtain ⟨_,_,_,h2,_⟩:=h;simp [ih _ _ _ h2]
theorem B7 {W W':World} (hb:RowKit.Below W.heap.size W W') (may:MemPlace→Prop):W.keptBut W' may:=by
 refine ⟨hb.os,hb.output,fun i hi=>?_⟩
 rw [hb.block i hi]
 generalize W.heap[i]?=o
 cases o with
 |none=>rfl
 |some o=>cases o<;>first|exact ⟨rfl,rfl,rfl,fun _ _=>rfl⟩|exact .inr ⟨rfl,rfl⟩|rfl
theorem XQ:Tryz.prog.underlying 4=some .bool:=by kernel_rfl
theorem CU {H:Type} {enc:TypeId×Value→H} {os:Os} (started:os.Started) {F:FuncId} {fn:Func} {s:ChangeSpec} (hfn:Tryz.checked.prog.funcs[F]?=some fn) (hni:Tryz.checked.prog.inits.idxOf? F=none) (hv:s.vars=[]) (hrt:fn.resultTypes=#[4])
 (hts:(fn.params.toList.all fun t=>Tryz.prog.readableRec t&&decide (t<Tryz.prog.types.size))=true)
 (hs:∀ds:List (DataW H),ds.length=fn.params.toList.length→(s.fn H ds).results=[.lit (.bool true)]∧(s.fn H ds).args=ds∧(s.fn H ds).vars=[])
 (witness:∃(w:World) (tape:Tape) (i:Input),w.os=os∧(w.forCall tape i).Shaped Tryz.checked.prog∧i.vars=[]∧Input.okWide Tryz.checked.prog (w.forCall tape i) .any w.heap.size F i∧
  ((s.pre enc Tryz.checked.prog fn [] false (w.forCall tape i).memory i.args∧laidMetH Tryz.prog qw (w.forCall tape i).memory)∧sizedMet enc Tryz.checked.prog fn (OpenSpec.ofChange s) false (w.forCall tape i).memory i.args)∧({}:Assume).holds Tryz.checked.prog (lone (Frame.enter Tryz.checked.prog F i.args .normal) [] (w.forCall tape i)))
 (Vd:∀(W:World) (args:Array Value) (ds:List (DataW H)) (p:List MemPlace),laidMetH Tryz.prog qw W→DataW.TrodAll enc Tryz.prog W 0 (fun _=>true) true fn.params.toList args.toList ds p→
  (∀(j:Nat) t v,fn.params[j]?=some t→args[j]?=some v→∃base,Value.okWide Tryz.prog W .any base t v)→
  Calls Tryz.prog F args W fun e w'=>e=.returned (.bool true)∧RowKit.Below W.heap.size W w'):
 ReturnsInHanded {} Tryz.checked os F .any (fun w args=>(s.pre enc Tryz.checked.prog fn [] false w args∧laidMetH Tryz.prog qw w)∧sizedMet enc Tryz.checked.prog fn (OpenSpec.ofChange s) false w args) (s.post enc Tryz.checked.prog fn false true false false):=by
 refine returnsInHanded_of_change_and (C:=Tryz.checked) (X:=fun w _=>laidMetH Tryz.prog qw w) (fun _ _ _ hh h=>h.of_heap hh) own started hni hfn witness ?_
 intro W base args ds gs before hval hW _ _ hL _
 have hW':=hW
 obtain ⟨p,q,hA,hV,rfl,hfz,hnd⟩:=hW
 rw [hv] at hV
 obtain ⟨rfl,rfl⟩:=trodVars_none hV
 have hlen:ds.length=fn.params.toList.length:=GU _ _ _ _ hA
 obtain ⟨s1,s2,s3⟩:=hs ds hlen
 refine (Vd W args ds p hL hA (fun j t v h1 h2=>⟨base,hval j t v h1 h2⟩)).mono fun e w' ⟨he,hb⟩=>?_
 refine ⟨.bool true,he,ds,[],p++[],[],p,[],hW',?_,?_,?_,B7 hb _,fun h=>by cases h⟩
 ·rw [List.append_nil,s1,hrt]
  exact trodAll_mk1 (shut_bool XQ _)
 ·rw [List.append_nil,s2]
  exact B6 laidOut hb _ _ _ _ hts (fun x hx=>hW'.lt x (by simpa using hx)) hA
 rw [List.append_nil,s3,hv]
 rfl
end Dem
end
section
open Go
namespace Dem
def dec (s:aK) (pos:Nat):Nat×Nat:=Utf8.decode ⟨s.toArray⟩ pos
theorem Lv (s:aK) (pos:Nat) (h:pos<s.length):1≤(dec s pos).2:=Lib.decode_width_pos _ pos (by show pos<s.toArray.size;simpa using h)
def iH (s:aK):Nat→Nat→List (Nat×Nat)
 |0,_=>[]
 |n+1,pos=>if pos<s.length then (pos,(dec s pos).1)::iH s n (pos+(dec s pos).2) else []
def CV (s:aK):List (Nat×Nat):=iH s s.length 0
def Eh:List (Int×Int):=[(97,122),(945,969),(1072,1103)]
def marks:List (Int×Int):=[(48,57),(45,45)]
def GV (r:Int) (l:List (Int×Int)):Bool:=l.any fun x=>decide (x.1≤r)&&decide (r≤x.2)
def qx (s:aK):Nat:=(CV s).length
def Ve (x:Nat×Nat):Bool:=GV x.2 Eh||(!decide (x.1=0)&&GV x.2 marks)
def eD (s:aK):Bool:=(CV s).all Ve&&!decide (s=[])&&decide (qx s≤16)
theorem Az (s:aK):∀(n pos:Nat),(iH s n pos).length≤n
 |0,_=>by simp [iH]
 |n+1,pos=>by
  unfold iH;split
  ·simp;exact Az s n _
  simp
structure dx where
 key:aK
 value:aK
deriving DecidableEq
abbrev dx.cells (p:dx):List D:=[.str p.key,.str p.value]
def sle (x y:aK):Bool:=Op.bytesLess x y||decide (x=y)
def jH:Option aK→List dx→Bool
 |_,[]=>true
 |q,p::r=>eD p.key&&eD p.value&&(match q with|none=>true|some q=>!sle p.key q)&&jH (some p.key) r
def tG (l:List dx):Bool:=jH none l&&decide (l.length≤8)
def lJ (l:List dx) (k:Nat):Option aK:=match k with
 |0=>none
 |k+1=>(l[k]?).map (·.key)
def dx.sm (p:dx):Prop:=p.key.length<9223372036854775807∧p.value.length<9223372036854775807
structure Node where
 name:aK
 cap:bM
 labels:List dx
 up:Bool
structure Place where
 bI:Int
 node:aK
 v:bM
abbrev Node.cells (x:Node):List D:=[.str x.name,.int .u64 x.cap.a,.int .u64 x.cap.b,.int .u64 x.cap.c,.int .u64 x.cap.d,.sl (x.labels.map dx.cells),.bool x.up]
abbrev Place.cells (x:Place):List D:=[.int .u64 x.bI,.str x.node,.int .u64 x.v.a,.int .u64 x.v.b,.int .u64 x.v.c,.int .u64 x.v.d]
theorem nU {α:Type} {p:α→Bool} {l:List α} (h:idxOf p l=-1):∀x∈l,p x=false:=by
 unfold idxOf at h
 split at h
 ·omega
 rename_i hn
 rw [List.findIdx?_eq_none_iff] at hn
 exact fun x hx=>by simpa using hn x hx
theorem nV {α:Type} {p:α→Bool} {l:List α} (h:idxOf p l≠-1):∃(i:Nat) (x:α),idxOf p l=i∧l[i]?=some x∧p x=true∧∀y∈l.take i,p y=false:=by
 unfold idxOf at h ⊢
 split at h
 ·rename_i k hk
  obtain ⟨hlt,hp,hb⟩:=List.findIdx?_eq_some_iff_getElem.1 hk
  refine ⟨k,l[k],rfl,by simp [hlt],hp,?_⟩
  intro y hy
  obtain ⟨j,hj⟩:=List.getElem?_of_mem hy
  rw [List.getElem?_take] at hj
  split at hj
  ·rename_i UI
   have hjl:j<l.length:=by omega
   rw [List.getElem?_eq_getElem hjl] at hj
   cases hj
   simpa using hb j UI
  cases hj
 exact absurd rfl h
theorem filter_all {α:Type} {p:α→Bool} {l:List α} (h:∀x∈l,p x=false):l.filter (fun x=>!p x)=l:=by
 rw [List.filter_eq_self]
 intro x hx;rw [h x hx];rfl
theorem dV {α:Type} {l:List α} {i:Nat} {x:α} (h:l[i]?=some x):l.take (i+1)=l.take i++[x]:=by
 rw [List.take_add_one,h];rfl
def Node.zero:Node:=⟨[],bM.zero,[],false⟩
def eH (name:aK) (l:List Node):Node×Bool:=match l.find? (fun x=>decide (x.name=name)) with
 |some x=>(x,true)
 |none=>(Node.zero,false)
theorem MC {name:aK} {l:List Node} (h:idxOf (fun x=>decide (x.name=name)) l=-1):eH name l=(Node.zero,false):=by
 have hn:=nU h
 have:l.find? (fun x=>decide (x.name=name))=none:=by rw [List.find?_eq_none];intro x hx;rw [hn x hx];simp
 unfold eH;rw [this]
theorem Ei {α:Type} {p:α→Bool}:∀{l:List α} {i:Nat} {x:α},l[i]?=some x→p x=true→(∀y∈l.take i,p y=false)→l.find? p=some x
 |[],_,_,h,_,_=>by simp at h
 |y::r,0,x,h,hp,_=>by simp at h;subst h;simp [hp]
 |y::r,i+1,x,h,hp,hb=>by
  have hy:p y=false:=hb y (by simp)
  simp only [List.getElem?_cons_succ] at h
  rw [List.find?_cons,hy]
  exact Ei h hp fun z hz=>hb z (by simp [hz])
theorem MD {name:aK} {l:List Node} (h:idxOf (fun x=>decide (x.name=name)) l≠-1):∃(i:Nat) (x:Node),idxOf (fun x=>decide (x.name=name)) l=i∧l[i]?=some x∧eH name l=(x,true):=by
 obtain ⟨i,x,h1,h2,h3,h4⟩:=nV h
 refine ⟨i,x,h1,h2,?_⟩
 unfold eH;rw [Ei h2 h3 h4]
def cO (name:aK) (s:bM×Bool) (x:Place):bM×Bool:=if s.2&&decide (x.node=name) then ej s.1 x.v else s
def cI (name:aK) (l:List Node) (ps:List Place):bM×Bool:=
 let s:=ps.foldl (cO name) ((eH name l).1.cap,(eH name l).2)
 if s.2 then s else (bM.zero,false)
def m7 (name:aK) (v:bM) (l:List Node) (ps:List Place):Int:=
 if !(eH name l).2 then 7 else if !(eH name l).1.up then 12 else if !(cI name l ps).2||!lq v (cI name l ps).1 then 11 else 0
structure cH where
 nodes:List Node
 places:List Place
deriving instance DecidableEq for Place
deriving instance DecidableEq for Node
theorem Vf {x y:bM}:x=y↔x.a=y.a∧x.b=y.b∧x.c=y.c∧x.d=y.d:=by cases x;cases y;simp
instance:Inhabited bM:=⟨bM.zero⟩
instance:Inhabited Node:=⟨Node.zero⟩
instance:Inhabited Place:=⟨⟨0,[],bM.zero⟩⟩
instance:Inhabited dx:=⟨⟨[],[]⟩⟩
theorem jI {α:Type} {l:List α} {k:Nat} {x:α} (h:l[k]?=some x):l.drop k=x::l.drop (k+1):=by
 obtain ⟨hk,rfl⟩:=List.getElem?_eq_some_iff.1 h
 exact List.drop_eq_getElem_cons hk
structure bV where
 node:aK
 free:bM
 labels:List dx
def fB (l:List Node) (bI:Int) (v:bM):List aK→List Place→Option Int×List Place
 |[],ps=>(none,ps)
 |n::r,ps=>if m7 n v l ps≠0 then (some (m7 n v l ps),ps) else fB l bI v r (ps++[⟨bI,n,v⟩])
def tH (p:cH) (bI:Int) (names:List aK) (v:bM):cH×Int:=
 match (fB p.nodes bI v names p.places).1 with
 |some e=>(p,e)
 |none=>(⟨p.nodes,(fB p.nodes bI v names p.places).2⟩,0)
theorem cJ {α:Type} {p:α→Bool} {l:List α} {r:Int} (h:r=idxOf p l):(r=-1∧l.findIdx? p=none∧l.find? p=none)∨∃(i:Nat) (x:α),r=i∧i<l.length∧l[i]?=some x∧p x=true∧l.findIdx? p=some i∧l.find? p=some x:=by
 by_cases hn:idxOf p l=-1
 ·have hno:=nU hn
  refine .inl ⟨by rw [h,hn],?_,?_⟩
  ·rw [List.findIdx?_eq_none_iff];intro x hx;simp [hno x hx]
  rw [List.find?_eq_none];intro x hx;simp [hno x hx]
 obtain ⟨i,x,h1,h2,h3,h4⟩:=nV hn
 refine .inr ⟨i,x,by rw [h,h1],(List.getElem?_eq_some_iff.1 h2).1,h2,h3,?_,Ei h2 h3 h4⟩
 unfold idxOf at h1
 split at h1
 ·rename_i k hk;rw [hk];congr 1;omega
 omega
def fG (p:cH) (name:aK) (up:Bool):cH×Int:=
 match p.nodes.findIdx? (fun x=>decide (x.name=name)),p.nodes.find? (fun x=>decide (x.name=name)) with
 |some i,some x=>if x.up=up then (p,15) else (⟨p.nodes.set i {x with up:=up},p.places⟩,0)
 |_,_=>(p,7)
def nW (l:List Node) (ps:List Place) (n:Node):Option bV:=if (cI n.name l ps).2&&n.up then some ⟨n.name,(cI n.name l ps).1,n.labels⟩ else none
def Jo (q:Option aK) (x:aK):Bool:=match q with|none=>true|some q=>!sle x q
def u9 (l:List Node) (ps:List Place):Option aK→List Node→Bool
 |_,[]=>true
 |q,n::r=>(cI n.name l ps).2&&eD n.name&&tG n.labels&&Jo q n.name&&u9 l ps (some n.name) r
def Um (l:List Node) (x:Place):Bool:=!(l.any fun n=>decide (n.name=x.node))
def Ej (p:cH):Bool:=u9 p.nodes p.places none p.nodes&&decide (p.nodes.length≤16)&&!(p.places.any (Um p.nodes))
def Node.sm (x:Node):Prop:=x.name.length<9223372036854775807∧x.labels.length<1000000000∧∀p∈x.labels,p.sm
def pat (l:List Node) (nm:aK):Nat:=match l.findIdx? (fun o=>!Op.bytesLess o.name nm) with
 |some k=>k
 |none=>l.length
def qy (p:cH) (n:Node):cH×Int:=
 if !eD n.name then (p,6) else if !tG n.labels then (p,2) else if decide (0≤idxOf (fun x=>decide (x.name=n.name)) p.nodes) then (p,8) else if 16≤p.nodes.length then (p,9) else
 (⟨p.nodes.take (pat p.nodes n.name)++{n with up:=true}::p.nodes.drop (pat p.nodes n.name),p.places⟩,0)
end Dem
end
section
open Go Dem Go.Proofs
namespace Dem
abbrev bE (s:aK):List D:=[.str s]
def gF (r:Int):AV:=bG r
def dh (r:Bool):AV:=BL r
def Sx (r:aK):AV:=ST r
def YR (r:bM×Bool):AV:=.eA [V4 r.1.a r.1.b r.1.c r.1.d,BL r.2]
def Node.aZ (t:Th) (x:Node):List D:=[.str x.name,.int .u64 x.cap.a,.int .u64 x.cap.b,.int .u64 x.cap.c,.int .u64 x.cap.d,.sl (t _ fun _=>x.labels.map dx.cells),.bool x.up]
def Place.aZ (_:Th) (x:Place):List D:=[.int .u64 x.bI,.str x.node,.int .u64 x.v.a,.int .u64 x.v.b,.int .u64 x.v.c,.int .u64 x.v.d]
def Un (t:Th) (x:Node):AV:=.agg [ST x.name,aC x.cap.a,aC x.cap.b,aC x.cap.c,aC x.cap.d,SL (t _ fun _=>x.labels.map dx.cells),BL x.up]
def Pz (t:Th) (r:Node×Bool):AV:=.eA [Un t r.1,BL r.2]
def qz (t:Th) (p:cH):AV:=.agg [SL (t _ fun _=>p.nodes.map Node.cells),SL (t _ fun _=>p.places.map Place.cells)]
def nC (t:Th) (r:cH×Int):AV:=.eA [qz t r.1,bG r.2]
def GW (t:Th) (l:List aK):AV:=SL (t _ fun _=>l.map bE)
def gw (_:Th) (s:aK):List D:=[.str s]
theorem so {t:Th} (ht:TT t) {α:Type} {l:List α} {cells cT:α→List D} {es:List (List D)} (aE:es=l.map cells) {z:Int} {i n:Nat} {x:α} {K:List D→Prop} (hx:l[i]?=some x) (hz:z=i) (hn:∀x,(cells x).length=n) (hT:∀x,cells x=cT x)
 (hK:K (cT x)):nI true (t Prop fun _=>0≤z∧z<es.length∧∀r∈es,r.length=n) (t _ fun _=>es.getD z.toNat []) K:=by
 have hi:=(List.getElem?_eq_some_iff.1 hx).1
 refine kp ht aE (by omega) (by omega) hn hT ?_
 intro y hy
 rw [hz,Int.toNat_natCast,hx] at hy
 cases hy;exact hK
theorem Uo {α:Type} {l:List α} {cells:α→List D} {u:List (List D)} (hu:u=l.map cells) {row:List D} {sz b:Nat} (hn:∀x,(cells x).length=sz) (hr:row.length=sz) (hl:l.length<1000000000) (hb:b≤10000):
 (u.length+[row].length)*b≤140737488355328∧∀r∈u++[row],r.length=sz:=by
 refine ⟨?_,?_⟩
 ·rw [hu,lgM]
  exact Nat.le_trans (Nat.mul_le_mul (show l.length+[row].length≤1000000000 by simp;omega) hb) (by decide)
 intro r hr'
 rcases List.mem_append.1 hr' with h|h
 ·rw [hu] at h;obtain ⟨y,_,rfl⟩:=List.mem_map.1 h;exact hn y
 simp at h;subst h;exact hr
def bV.cells (x:bV):List D:=[.str x.node,.int .u64 x.free.a,.int .u64 x.free.b,.int .u64 x.free.c,.int .u64 x.free.d,.sl (x.labels.map dx.cells)]
def bV.aZ (t:Th) (x:bV):List D:=[.str x.node,.int .u64 x.free.a,.int .u64 x.free.b,.int .u64 x.free.c,.int .u64 x.free.d,.sl (t _ fun _=>x.labels.map dx.cells)]
def Vg (t:Th) (l:List bV):AV:=SL (t _ fun _=>l.map bV.cells)
theorem Ek {k:Nat} (h:0<k) (h2:k<9223372036854775807):IntKind.i64.wrap ((k:Int)-1)=((k-1:Nat):Int):=by rw [wrap64 (by omega) (by omega)];omega
theorem XR {t:Th} (ht:TT t) {α:Type} [Inhabited α] {l:List α} {cells cT:α→List D} {es:List (List D)} (aE:es=l.map cells) {g:Bool} {G:Prop} {z:Int} (i:Nat) {n:Nat} {K:List D→Prop} (hg:g=true→G) (hi:g=true→z=i∧i<l.length) (hn:∀x,(cells x).length=n) (hT:∀x,cells x=cT x)
 (hK:∀x,(g=true→l[i]?=some x)→K (cT x)):nI g (G∧t Prop fun _=>0≤z∧z<es.length∧∀r∈es,r.length=n) (t _ fun _=>es.getD z.toNat []) K:=by
 cases Wn:g with
 |true=>
  subst Wn
  obtain ⟨h1,h2⟩:=hi rfl
  refine Sv (cT l[i]) (fun _=>⟨⟨hg rfl,?_⟩,?_⟩) (hK _ (fun _=>List.getElem?_eq_getElem h2))
  ·simp only [ht];refine ⟨by omega,by rw [aE,lgM];omega,?_⟩
   rw [aE];intro r hr;obtain ⟨y,_,rfl⟩:=List.mem_map.1 hr;exact hn y
  simp only [ht];rw [h1,aE,←hT];simp [h2]
 |false=>
  subst Wn
  exact Sv (cT default) (fun h=>Bool.noConfusion h) (hK default (fun h=>Bool.noConfusion h))
theorem oN {P:Program} {G:Nat→Option (List D)} {f:Nat} {args args':List AV} {bx aU:List aA} {res:jR} (h:∀β w ok vs,an β bx w ok args vs→an β bx w ok args' vs) (hc:bF P G f args' bx res aU):bF P G f args bx res aU:=
 fun β w vs X cx hx=>hc β w vs X cx (h _ _ _ _ hx)
theorem Lw {β:Nat→Nat} {bx:List aA} {w:World} {ok:Nat→Prop} {es:List (List D)} {u:Value} (h:ak β bx w ok (.cl es) u):ak β bx w ok (.d (.sl es)) u:=by
 simp only [ak,aL] at h ⊢
 obtain ⟨base,h1,h2⟩:=h
 exact ⟨base,_,h1,Nat.le_refl _,h2⟩
abbrev small:Nat:=9223372036854775807
end Dem
end
section
open Go
namespace Dem
end Dem
namespace Dem
theorem oO (x:Int):IntKind.u64.wrap x=x%18446744073709551616:=by simp [IntKind.wrap,IntKind.signed,IntKind.bits]
theorem lK {x:Int} (h0:-9223372036854775808≤x) (h1:x<9223372036854775808):IntKind.i64.wrap x=x:=by
 simp [IntKind.wrap,IntKind.signed,IntKind.bits];omega
end Dem
namespace Dem
end Dem
namespace Dem
end Dem
namespace Dem
end Dem
end
section
open Go
namespace Dem
structure Term where
 key:aK
 no:Bool
 mQ:List aK
deriving DecidableEq
instance:Inhabited Term:=⟨⟨[],false,[]⟩⟩
def Term.cells (x:Term):List D:=[.str x.key,.bool x.no,.sl (x.mQ.map bE)]
def xW:Option aK→List aK→Bool
 |_,[]=>true
 |q,v::r=>eD v&&Jo q v&&xW (some v) r
def mright (x:Term):Bool:=if xW none x.mQ then eD x.key&&decide (x.mQ.length≤4) else false
def AA (l:List Term):Bool:=if l.length≤4 then !(l.any fun x=>!mright x) else false
def GX (l:List dx) (k:aK):aK×Bool:=match l.find? (fun x=>decide (x.key=k)) with
 |some x=>(x.value,true)
 |none=>([],false)
def kX (x:Term) (l:List dx):Bool:=
 (if (GX l x.key).2 then (if x.mQ.length=0 then true else x.mQ.contains (GX l x.key).1) else false)!=x.no
def nD (x:List Term) (l:List dx):Bool:=!(x.any fun m=>!kX m l)
end Dem
end
