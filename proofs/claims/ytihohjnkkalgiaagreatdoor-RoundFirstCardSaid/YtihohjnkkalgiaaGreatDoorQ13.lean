/- Parts of a proof, joined. -/
import Derived.Test.YtihohjnkkalgiaaGreatDoorQ12
import Derived.Test.YtihohjnkkalgiaaGreatDoorProg
import Derived.KernelRfl
import Derived.Defers
import Derived.Test.YtihohjnkkalgiaaGreatDoorRows
import Derived.ProofKit
import Derived.LaidMore
import Derived.OpenShut
import Derived.Carry
import Derived.Stop.Joined
import Derived.Lib.RuneCount
set_option linter.all false
set_option maxRecDepth 100000
set_option maxHeartbeats 4000000
section
open Go
namespace Dem
theorem aJ {s:St} {P:St→Prop} (h:P s):LoopIn (some s) P:=⟨h⟩
def WQ (bx:List aB):List (Nat×aB)→List aB
 |[]=>bx
 |(i,b)::r=>WQ (bx.set i b) r
def WR (sl:List (Nat×AV)):List (Nat×AV)→List (Nat×AV)
 |[]=>sl
 |(i,v)::r=>WR (put i v sl) r
def Ml (s:St) (u:List (Nat×AV)) (b:List (Nat×aB)):St:=⟨WR s.sl u,WQ s.bx b⟩
theorem bM {K:Nat} {A:(Ex→St→Prop)→St→Prop} {Q:Ex→St→Prop} {s:St} (nf:Nf) {σ:Type} (U:σ→List (Nat×AV)) (V:σ→List (Nat×aB)) (J:Nat→σ→Prop)
 (h:p8 (p7 (uI s nf.os) nf.ob) (LoopIn (xE K nf s) fun s0=>∃n0 v0,J n0 v0∧s0=Ml s0 (U v0) (V v0)∧
  ∀n v,J n v→A (fun e s2=>tO (fun s2=>p8 (p7 (uI s2 nf.os) nf.ob) (LoopIn (xE K nf s2) (fun s3=>∃m v',(m<n∧J m v')∧s3=Ml s0 (U v') (V v')))) Q e s2) (Ml s0 (U v) (V v)))):TW K A Q s:=by
 obtain ⟨hC,⟨h⟩⟩:=h.ok
 split at h
 ·rename_i s0 hn
  obtain ⟨n0,v0,hJ,hs,hr⟩:=h
  refine ⟨nf,fun n s1=>∃v,J n v∧s1=Ml s0 (U v) (V v),n0,p8.mk hC ⟨?_⟩,?_⟩
  ·rw [hn];exact ⟨v0,hJ,hs⟩
  rintro n s1 ⟨v,hv,rfl⟩
  have e:(fun e s2=>tO (fun s2=>p8 (p7 (uI s2 nf.os) nf.ob) (LoopIn (xE K nf s2) (fun s3=>∃m v',(m<n∧J m v')∧s3=Ml s0 (U v') (V v')))) Q e s2)=
   (fun e s2=>tO (fun s2=>p8 (p7 (uI s2 nf.os) nf.ob) (LoopIn (xE K nf s2) (fun s3=>∃m,m<n∧∃v,J m v∧s3=Ml s0 (U v) (V v)))) Q e s2):=by
   funext e s2
   congr 1
   funext s2
   congr 2
   funext s3
   apply propext
   constructor
   ·rintro ⟨m,v',⟨h1,h2⟩,h3⟩;exact ⟨m,h1,v',h2,h3⟩
   rintro ⟨m,h1,v',h2,h3⟩;exact ⟨m,v',⟨h1,h2⟩,h3⟩
  rw [←e];exact hr n v hv
 exact h.elim
theorem ap {p:Bool} {A B:Unit→Prop} (h1:p=true→A ()) (h2:p=false→B ()):vE (.d (.bool p)) A B:=.mk (And.intro h1 h2)
theorem kH {p:Bool} {A B:Unit→Prop} (hp:p=true) (h1:A ()):vE (.d (.bool p)) A B:=.mk (And.intro (fun _=>h1) (fun h=>by rw [hp] at h;cases h))
theorem nJ {p:Bool} {A B:Unit→Prop} (hp:p=false) (h1:B ()):vE (.d (.bool p)) A B:=.mk (And.intro (fun h=>by rw [hp] at h;cases h) (fun _=>h1))
theorem jA {g:Bool} {c:Prop} {ds:List D} {K:List D→Prop} (ds':List D) (hc:c) (hd:ds=ds') (hK:K ds'):nv g c ds K:=⟨ds',fun _=>⟨hc,hd⟩,hK⟩
theorem Pb {g:Bool} {c:Prop} {ds:List D} {K:List D→Prop} (ds':List D) (hc:c) (hd:ds=ds') (hK:K ds'):Af g c ds K:=⟨ds',fun _=>⟨hc,hd⟩,hK⟩
theorem Se {g:Bool} {c:Prop} {ds:List D} {K:List D→Prop} (ds':List D) (h:g=true→c∧ds=ds') (hK:K ds'):nv g c ds K:=⟨ds',h,hK⟩
theorem UM {g:Bool} {c:Prop} {ds:List D} {K:List D→Prop} (ds':List D) (h:g=true→c∧ds=ds') (hK:K ds'):Af g c ds K:=⟨ds',h,hK⟩
theorem bN {c:Prop} {v:AV} {bx:List aB} {K:AV→List aB→Prop} (v':AV) (aZ:List aB) (hc:c) (hv:v=v') (hb:bx=aZ) (hK:K v' aZ):OX c v bx K:=⟨v',aZ,hc,hv,hb,hK⟩
theorem iq {g:Bool} {c:Prop} {v:AV} {K:AV→Prop} (v':AV) (h:g=true→c∧v=v') (hK:K v'):TO g c v K:=⟨v',h,hK⟩
theorem gI {g:Bool} {p K:Prop} (h:g=true→p) (k:K):vW g p∧K:=⟨⟨h⟩,k⟩
theorem pI {p:Bool} {a b K:Prop} (h:(p=true→a)∧(p=false→b)) (k:K):K0 p a b∧K:=⟨⟨h⟩,k⟩
section
variable {P:Program} {G:Nat→Option (List D)} {FC:Nat→List AV→List aB→jN→List aB→Prop} {lD:Prop} {f:Nat} {args args':List AV} {c:Prop} {bx pz pE:List aB} {v:AV} {K Kp:AV→List aB→Prop}
theorem gM (ho:lD) (h:FC f args' [] (.ret v) []) (hc:c) (hs:AV.shut.mI args'=true) (hf:v.flat=true) (hK:K v bx):o4 FC lD f args (some (c,args')) bx K Kp:=
 ⟨ho,.inl ⟨c,args',rfl,hc,hs,.inl ⟨v,h,.inl hf,hK⟩⟩⟩
theorem Gn (ho:lD) (h:FC f args' [] (.ret v) []) (hc:c) (hs:AV.shut.mI args'=true) (hz:eX [] args=some args') (hv:v.shut=true) (hK:K v bx):o4 FC lD f args (some (c,args')) bx K Kp:=
 ⟨ho,.inl ⟨c,args',rfl,hc,hs,.inl ⟨v,h,.inr ⟨hz,hv⟩,hK⟩⟩⟩
theorem jB {sz n:Nat} {es:List (List D)} (ho:lD) (h:FC f args' [] (.ret (.ow 0 sz n)) [.row sz es]) (hc:c) (hs:AV.shut.mI args'=true) (hz:(∀r∈es,∀x∈r,x.flat=true)∨eX [] args=some args') (hK:K (.ow bx.length sz n) (bx++[.row sz es])):o4 FC lD f args (some (c,args')) bx K Kp:=
 ⟨ho,.inl ⟨c,args',rfl,hc,hs,.inr ⟨sz,n,es,h,hz,hK⟩⟩⟩
theorem TY {fz:Option (Prop×List AV)} (ho:lD) (hfz:fz=some (c,args')) (hc:c) (h:FC f args' (fy bx args) (.ret v) pE) (hK:K v pE):o4 FC lD f args fz bx K Kp:=
 ⟨ho,.inr ⟨args',fy bx args,.ret v,pE,.inr ⟨⟨c,hfz,hc⟩,rfl⟩,h,hK⟩⟩
theorem eB {fz:Option (Prop×List AV)} (ho:lD) (h:FC f args bx (.ret v) pE) (hK:K v pE):o4 FC lD f args fz bx K Kp:=
 ⟨ho,.inr ⟨args,bx,.ret v,pE,.inl ⟨rfl,rfl⟩,h,hK⟩⟩
theorem Gp {dr g:Bool} {v:AV} {K:AV→Prop} (h:g=true→lD∧c∧FC f args' [] (.ret v) []) (hs:AV.bS.dg [] args'=true) (hf:v.flat=true) (hK:K v):sS FC dr g lD f args bx (some (c,args')) K:=
 ⟨.inr ⟨v,fun hg=>⟨(h hg).1,args',[],⟨c,rfl,(h hg).2.1⟩,hs,⟨false,rfl,fun h=>by cases h⟩,by simp,(h hg).2.2,.inl hf⟩,hK⟩⟩
theorem m8 {dr g:Bool} {v:AV} {K:AV→Prop} (h:g=true→lD∧c∧FC f args' [] (.ret v) []) (hs:AV.bS.dg [] args'=true) (hz:eX [] args=some args') (hf:v.shut=true) (hK:K v):sS FC dr g lD f args bx (some (c,args')) K:=
 ⟨.inr ⟨v,fun hg=>⟨(h hg).1,args',[],⟨c,rfl,(h hg).2.1⟩,hs,⟨false,rfl,fun h=>by cases h⟩,by simp,(h hg).2.2,.inr ⟨hz,hf⟩⟩,hK⟩⟩
theorem UN {P:Program} {G:Nat→Option (List D)} {dr g:Bool} {v:AV} {K:AV→Prop} {o5:List AV} {aV:List aB} (ks:List Bool) (ct:List Nat) (ho:g=true→lD∧c∧bH P G f o5 aV (.ret v) aV)
 (hn:AV.bS.dg (kill ks bx) args'=true) (hl:dY false (kill ks bx) (kill ks bx)=true) (hv:v.flat=true∨eX [] args=some args'∧v.shut=true)
 (ha:AV.yo (fun b=>eA b ct 0) args'=some o5) (hb:gL (fun b=>eA b ct 0) (kill ks bx) ct=some aV) (hb':Gm ct (kill ks bx) aV=some (kill ks bx)) (hr:jN.iN (kT ct (kill ks bx).length) (.ret v)=some (.ret v))
 (hK:K v):sS (bH P G) dr g lD f args bx (some (c,args')) K:=by
 refine ⟨.inr ⟨v,fun hg=>⟨(ho hg).1,args',kill ks bx,⟨c,rfl,(ho hg).2.1⟩,hn,⟨false,hl,fun h=>by cases h⟩,?_,dI ct ha hb hr hb' (ho hg).2.2,hv⟩,hK⟩⟩
 intro i b hi dQ
 obtain ⟨b0,h1,h2⟩:=l7 ks bx i b hi
 rcases h2 with rfl|⟨rfl,h3⟩
 ·exact ⟨_,h1,dQ,fun _=>rfl⟩
 exact ⟨b0,h1,h3,fun h=>by simp [aB.live] at h⟩
theorem Gq {x sz n:Nat} {es:List (List D)} {at_:Option aB} {K:AV→aB→Prop} (ho:lD) (h:FC f args' [] (.ret (.ow 0 sz n)) [.row sz es]) (hc:c) (hs:AV.shut.mI args'=true) (hz:(∀r∈es,∀x∈r,x.flat=true)∨eX [] args=some args') (hat:at_=some .bC)
 (hK:K (.ow x sz n) (.row sz es)):TP FC lD f args (some (c,args')) at_ x K:=⟨args',sz,n,es,ho,⟨c,rfl,hc⟩,hs,h,hz,hat,hK⟩
structure Pc (r:Option jN) (b:Option (List aB)) (K:AV→List aB→Prop):Prop where
 ok:match r,b with
  |some (.ret v),some bx=>K v bx
  |_,_=>False
theorem cz {v:AV} {bx:List aB} {K:AV→List aB→Prop} (h:K v bx):Pc (some (.ret v)) (some bx) K:=⟨h⟩
theorem dz {fz:Option (Prop×List AV)} (ct:List Nat) {o5:List AV} {aV uL:List aB} {v0:AV} (ho:lD)
 (ha:AV.yo (fun b=>eA b ct 0) args=some o5) (hb:gL (fun b=>eA b ct 0) bx ct=some aV) (h:bH P G f o5 aV (.ret v0) uL)
 (hK:Pc (jN.iN (kT ct bx.length) (.ret v0)) (Gm ct bx uL) K):o4 (bH P G) lD f args fz bx K Kp:=by
 obtain ⟨hK⟩:=hK
 split at hK
 ·rename_i v aZ hr hb'
  exact eB ho (dI ct ha hb hr hb' h) hK
 exact hK.elim
end
section
variable {n:Nat} {c d:Prop} {v u:AV} {bx aZ:List aB} {res:jN} {fz:Option (Prop×AV)}
theorem aA (hc:c) (hd:d) (hw:u.within n=true) (hb:aZ=(tQ bx v).take n) (UO:cw n aZ=true) (hr:res=.ret u):Gl n c v bx (some (d,u)) res aZ:=
 ⟨hc,.inr (.inl ⟨[],d,u,rfl,hd,hw,hb,UO,hr⟩)⟩
theorem yx (ks:List Bool) (hc:c) (hd:d) (hw:u.within n=true) (hb:aZ=(kill ks (tQ bx v)).take n) (UO:cw n aZ=true) (hr:res=.ret u):Gl n c v bx (some (d,u)) res aZ:=
 ⟨hc,.inr (.inl ⟨ks,d,u,rfl,hd,hw,hb,UO,hr⟩)⟩
theorem I3 (hc:c) (hb:aZ=bx) (hr:res=.ret v):Gl n c v bx fz res aZ:=⟨hc,.inl ⟨hr,hb⟩⟩
theorem BO {k sz m:Nat} {es:List (List D)} (hc:c) (hk:bx[k]?=some (.row sz es)) (h1:Nat.ble n k=true) (h2:Nat.ble n bx.length=true) (UO:cw n (bx.take n)=true) (hr:res=.ret (.ow n sz m)) (hb:aZ=bx.take n++[.row sz es]):Gl n c (.ow k sz m) bx fz res aZ:=
 ⟨hc,.inr (.inr (.inl ⟨k,sz,m,es,rfl,hk,Nat.le_of_ble_eq_true h1,Nat.le_of_ble_eq_true h2,UO,hr,hb⟩))⟩
theorem Gr {sz:Nat} (hc:c) (h2:Nat.ble n bx.length=true) (UO:cw n (bx.take n)=true) (hr:res=.ret (.ow n sz 0)) (hb:aZ=bx.take n++[.row sz []]):Gl n c (.cl []) bx fz res aZ:=
 ⟨hc,.inr (.inr (.inr ⟨sz,rfl,Nat.le_of_ble_eq_true h2,UO,hr,hb⟩))⟩
end
theorem dU {P:Program} {G:Nat→Option (List D)} {f b sz n:Nat} {args:List AV} {bx aZ:List aB} {res:jN}
 (h:∀c,n≤c→(n=0→c=0)→bH P G f (.vw b sz 0 n c true::args) bx res aZ):bH P G f (.ow b sz n::args) bx res aZ:=by
 intro β w vs X cx hx
 simp only [an] at hx
 obtain ⟨u,us,rfl,hx,hxs⟩:=hx
 simp only [ak] at hx
 obtain ⟨hb,⟨rfl,base,rfl⟩|⟨h0,cap,c,e,f',rfl,h1,h2,h3⟩⟩:=hx
 ·refine h 0 (Nat.le_refl _) (fun _=>rfl) β w _ X cx ?_
  simp only [an,ak]
  exact ⟨_,us,rfl,⟨hb,base,0,#[],0,(0,0),rfl,Nat.le_refl _,Nat.le_refl _,fun _=>rfl,.inl rfl⟩,hxs⟩
 refine h cap h1 (fun h=>absurd h h0) β w _ X cx ?_
 simp only [an,ak]
 exact ⟨_,us,rfl,⟨hb,_,cap,c,e,f',rfl,h1,Nat.le_refl _,fun _=>rfl,.inr ⟨by simp,h2,by simpa using h3⟩⟩,hxs⟩
theorem wrap64 {x:Int} (h0:-9223372036854775808≤x) (h1:x<9223372036854775808):IntKind.i64.wrap x=x:=by
 simp [IntKind.wrap,IntKind.signed,IntKind.bits];omega
end Dem
end
section
open Go
namespace Dem
def qU:AV:=.d (.int .u64 0)
def qI:AV:=.d (.int .i64 0)
def qS:AV:=.d (.str [])
def qF:AV:=.d (.bool false)
def qY:AV:=.d (.int .u8 0)
def qC:AV:=.cl []
def ph:Option TI:=some ⟨1,8,.other,.k .nilFunc,true,none⟩
def vZ:Option TI:=some ⟨1,0,.other,.any,true,none⟩
def TZ:Option TI:=some ⟨1,8,.other,.k .n9,true,none⟩
def WS:Option TI:=some ⟨1,16,.iface,.k .nilIface,true,none⟩
def Yo:Option TI:=some ⟨1,8,.int .i64,qI,true,none⟩
def Yp:Option TI:=some ⟨1,1,.int .u8,qY,true,none⟩
def Yq:Option TI:=some ⟨1,8,.int .u64,qU,true,none⟩
def Zc:Option TI:=some ⟨1,16,.str,qS,true,none⟩
def Zd:Option TI:=some ⟨1,4,.int .i32,.d (.int .i32 0),true,none⟩
def Ze:Option TI:=some ⟨5,5,.struct [(0,5),(1,5),(2,5),(3,5),(4,5)],.agg [qY,qY,qY,qY,qY],true,none⟩
def WT:Option TI:=some ⟨4,24,.struct [(0,2),(1,3),(2,4),(3,6)],.agg [qI,qI,qF,qY],true,none⟩
def WU:Option TI:=some ⟨2,24,.struct [(0,9),(1,12)],.agg [qS,qU],false,none⟩
def WV:Option TI:=some ⟨1,8,.struct [(0,17)],.agg [.k .n9],false,none⟩
def WW:Option TI:=some ⟨2,48,.struct [(0,25),(1,26)],.agg [qC,qC],true,none⟩
def WX:Option TI:=some ⟨1,24,.slice 139,qC,true,none⟩
def WY:Option TI:=some ⟨2,32,.struct [(0,24),(1,32)],.agg [qU,qC],true,none⟩
def WZ:Option TI:=some ⟨11,200,.struct [(0,24),(1,24),(2,28),(4,29),(5,30),(6,31),(7,34),(9,34)],.agg [qU,qU,qC,qC,qC,qC,qC,qU,qC,qU,qC],true,none⟩
def W4:Option TI:=some ⟨4,32,.array 4 24,.agg [qU,qU,qU,qU],true,none⟩
def W5:Option TI:=some ⟨9,96,.struct [(0,9),(1,40),(5,3),(6,3),(7,3),(8,41)],.agg [qS,qU,qU,qU,qU,qI,qI,qI,qC],true,none⟩
def W6:Option TI:=some ⟨12,120,.struct [(0,24),(1,43),(10,4),(11,3)],.agg [qU,qS,qU,qU,qU,qU,qI,qI,qI,qC,qF,qI],true,none⟩
def W7:Option TI:=some ⟨2,16,.struct [(0,24),(1,3)],.agg [qU,qI],true,none⟩
def W8:Option TI:=some ⟨7,80,.struct [(0,9),(1,40),(5,73),(6,4)],.agg [qS,qU,qU,qU,qU,qC,qF],true,none⟩
def W9:Option TI:=some ⟨12,208,.struct [(0,36),(11,3)],.agg [qU,qU,qC,qC,qC,qC,qC,qU,qC,qU,qC,qI],true,none⟩
def Xa:Option TI:=some ⟨6,56,.struct [(0,24),(1,9),(2,40)],.agg [qU,qS,qU,qU,qU,qU],true,none⟩
def Xb:Option TI:=some ⟨11,200,.struct [(0,36)],.agg [qU,qU,qC,qC,qC,qC,qC,qU,qC,qU,qC],true,none⟩
def Xc:Option TI:=some ⟨9,80,.struct [(0,9),(1,40),(5,40)],.agg [qS,qU,qU,qU,qU,qU,qU,qU,qU],true,none⟩
def Xd:Option TI:=some ⟨2,32,.struct [(0,9),(1,9)],.agg [qS,qS],true,none⟩
def Xe:Option TI:=some ⟨4,32,.struct [(0,40)],.agg [qU,qU,qU,qU],true,none⟩
def Xf:Option TI:=some ⟨3,24,.struct [(0,24),(1,24),(2,3)],.agg [qU,qU,qI],true,none⟩
def Xg:Option TI:=some ⟨1,8,.struct [(0,188)],.agg [.k .nilFunc],true,none⟩
def Xh:Option TI:=some ⟨6,72,.struct [(0,9),(1,40),(5,73)],.agg [qS,qU,qU,qU,qU,qC],true,none⟩
def Xi:Option TI:=some ⟨2,8,.struct [(0,21),(1,21)],.agg [.d (.int .i32 0),.d (.int .i32 0)],true,none⟩
def Xj:Option TI:=some ⟨2,32,.struct [(0,274),(1,275)],.agg [.k .n9,qC],true,none⟩
def Xk:Option TI:=some ⟨2,2,.struct [(0,5),(1,5)],.agg [qY,qY],true,none⟩
def Xl:Option TI:=some ⟨4,40,.struct [(0,17),(1,17),(2,17),(3,9)],.agg [.k .n9,.k .n9,.k .n9,qS],false,none⟩
def Xm:Option TI:=some ⟨0,0,.struct [(0,327)],.agg [],false,none⟩
def Xn:Option TI:=some ⟨11,48,.struct [(0,12),(1,12),(2,297),(3,330),(4,5),(5,5),(6,331),(7,332),(8,299),(9,333),(10,334)],.agg [qU,qU,.d (.int .u32 0),qY,qY,qY,qY,.k .nilFunc,.k .n9,.d (.int .i32 0),.d (.int .i32 0)],false,none⟩
def Zf (t:Nat):Option TI:=(if t<9 then (if t<5 then if t=0 then vZ else if t=2 then Yo else if t=3 then Yo else if t=4 then some ⟨1,1,.bool,qF,true,none⟩ else ph else if t=5 then Yp else if t=6 then Yp else if t=7 then WT else if t=8 then WT else ph) else (if t<13 then if t=9 then Zc else if t=10 then Zc else if t=11 then Zc else if t=12 then Yq else ph else if t=13 then WU else if t=14 then WU else if t=15 then TZ else if t=16 then TZ else ph))
def Zg (t:Nat):Option TI:=(if t<26 then (if t<21 then if t=17 then TZ else if t=18 then WV else if t=19 then WV else if t=20 then WS else ph else if t=21 then Zd else if t=22 then some ⟨1,24,.slice 85,qC,true,none⟩ else if t=24 then Yq else if t=25 then some ⟨1,24,.slice 75,qC,true,none⟩ else ph) else (if t<30 then if t=26 then some ⟨1,24,.slice 118,qC,true,none⟩ else if t=27 then WW else if t=28 then WW else if t=29 then WX else ph else if t=30 then some ⟨1,24,.slice 45,qC,true,none⟩ else if t=31 then some ⟨1,24,.slice 69,qC,true,none⟩ else if t=32 then some ⟨1,24,.slice 170,qC,true,none⟩ else if t=33 then WY else ph))
def Zh (t:Nat):Option TI:=(if t<44 then (if t<40 then if t=34 then WY else if t=35 then WZ else if t=36 then WZ else if t=39 then W4 else ph else if t=40 then W4 else if t=41 then some ⟨1,24,.slice 122,qC,true,none⟩ else if t=42 then W5 else if t=43 then W5 else ph) else (if t<51 then if t=44 then W6 else if t=45 then W6 else if t=46 then vZ else if t=48 then some ⟨1,24,.slice 24,qC,true,none⟩ else ph else if t=51 then some ⟨1,24,.slice 9,qC,true,none⟩ else if t=52 then vZ else if t=54 then vZ else if t=60 then Yo else ph))
def Zi (t:Nat):Option TI:=(if t<76 then (if t<69 then if t=61 then vZ else if t=63 then some ⟨1,24,.slice 109,qC,true,none⟩ else if t=66 then vZ else if t=68 then W7 else ph else if t=69 then W7 else if t=73 then some ⟨1,24,.slice 147,qC,true,none⟩ else if t=74 then W8 else if t=75 then W8 else ph) else (if t<105 then if t=76 then vZ else if t=84 then Ze else if t=85 then Ze else if t=99 then vZ else ph else if t=105 then vZ else if t=109 then Ze else if t=112 then W9 else if t=113 then W9 else ph))
def Zj (t:Nat):Option TI:=(if t<131 then (if t<122 then if t=116 then vZ else if t=117 then Xa else if t=118 then Xa else if t=121 then some ⟨3,48,.struct [(0,9),(1,4),(2,51)],.agg [qS,qF,qC],true,none⟩ else ph else if t=122 then some ⟨3,48,.struct [(0,9),(1,4),(2,51)],.agg [qS,qF,qC],true,some ("demesne/sel.holds",76)⟩ else if t=125 then vZ else if t=127 then vZ else if t=130 then Xb else ph) else (if t<144 then if t=131 then Xb else if t=138 then Xc else if t=139 then Xc else if t=141 then vZ else ph else if t=144 then vZ else if t=146 then Xd else if t=147 then Xd else if t=151 then some ⟨1,24,.slice 209,qC,true,none⟩ else ph))
def Zk (t:Nat):Option TI:=(if t<176 then (if t<164 then if t=153 then vZ else if t=157 then some ⟨1,24,.slice 3,qC,true,none⟩ else if t=160 then WX else if t=163 then Xe else ph else if t=164 then Xe else if t=169 then Xf else if t=170 then Xf else if t=174 then vZ else ph) else (if t<199 then if t=176 then WS else if t=177 then WS else if t=192 then some ⟨1,8,.map 24 3,.k .Dn,true,none⟩ else if t=198 then Xg else ph else if t=199 then Xg else if t=206 then vZ else if t=208 then Xh else if t=209 then Xh else ph))
def Zl (t:Nat):Option TI:=(if t<236 then (if t<230 then if t=220 then vZ else if t=226 then some ⟨0,0,.struct [],.agg [],true,none⟩ else if t=227 then some ⟨0,0,.struct [],.agg [],true,some ("demesne/sel.holds",290)⟩ else if t=228 then some ⟨1,24,.slice 9,qC,true,some ("demesne/sel.holds",291)⟩ else ph else if t=230 then vZ else if t=233 then some ⟨1,24,.slice 235,qC,true,none⟩ else if t=234 then Xi else if t=235 then Xi else ph) else (if t<259 then if t=236 then some ⟨6,24,.array 3 235,.agg [.d (.int .i32 0),.d (.int .i32 0),.d (.int .i32 0),.d (.int .i32 0),.d (.int .i32 0),.d (.int .i32 0)],true,none⟩ else if t=237 then some ⟨4,16,.array 2 235,.agg [.d (.int .i32 0),.d (.int .i32 0),.d (.int .i32 0),.d (.int .i32 0)],true,none⟩ else if t=242 then vZ else if t=256 then Yq else ph else if t=259 then vZ else if t=274 then TZ else if t=275 then some ⟨1,24,.slice 5,qC,true,none⟩ else if t=276 then Xj else ph))
def Zm (t:Nat):Option TI:=(if t<299 then (if t<288 then if t=277 then Xj else if t=279 then WS else if t=280 then WS else if t=281 then vZ else ph else if t=288 then Yo else if t=289 then vZ else if t=294 then vZ else if t=297 then some ⟨1,4,.int .u32,.d (.int .u32 0),true,none⟩ else ph) else (if t<312 then if t=299 then TZ else if t=300 then Yq else if t=304 then TZ else if t=309 then TZ else ph else if t=312 then TZ else if t=313 then vZ else if t=315 then vZ else if t=319 then some ⟨256,256,.array 256 5,.agg [qY,qY,qY,qY,qY,qY,qY,qY,qY,qY,qY,qY,qY,qY,qY,qY,qY,qY,qY,qY,qY,qY,qY,qY,qY,qY,qY,qY,qY,qY,qY,qY,qY,qY,qY,qY,qY,qY,qY,qY,qY,qY,qY,qY,qY,qY,qY,qY,qY,qY,qY,qY,qY,qY,qY,qY,qY,qY,qY,qY,qY,qY,qY,qY,qY,qY,qY,qY,qY,qY,qY,qY,qY,qY,qY,qY,qY,qY,qY,qY,qY,qY,qY,qY,qY,qY,qY,qY,qY,qY,qY,qY,qY,qY,qY,qY,qY,qY,qY,qY,qY,qY,qY,qY,qY,qY,qY,qY,qY,qY,qY,qY,qY,qY,qY,qY,qY,qY,qY,qY,qY,qY,qY,qY,qY,qY,qY,qY,qY,qY,qY,qY,qY,qY,qY,qY,qY,qY,qY,qY,qY,qY,qY,qY,qY,qY,qY,qY,qY,qY,qY,qY,qY,qY,qY,qY,qY,qY,qY,qY,qY,qY,qY,qY,qY,qY,qY,qY,qY,qY,qY,qY,qY,qY,qY,qY,qY,qY,qY,qY,qY,qY,qY,qY,qY,qY,qY,qY,qY,qY,qY,qY,qY,qY,qY,qY,qY,qY,qY,qY,qY,qY,qY,qY,qY,qY,qY,qY,qY,qY,qY,qY,qY,qY,qY,qY,qY,qY,qY,qY,qY,qY,qY,qY,qY,qY,qY,qY,qY,qY,qY,qY,qY,qY,qY,qY,qY,qY,qY,qY,qY,qY,qY,qY,qY,qY,qY,qY,qY,qY,qY,qY,qY,qY,qY,qY],true,none⟩ else ph))
def Zn (t:Nat):Option TI:=(if t<328 then (if t<323 then if t=320 then Xk else if t=321 then Xk else if t=322 then some ⟨32,32,.array 16 321,.agg [qY,qY,qY,qY,qY,qY,qY,qY,qY,qY,qY,qY,qY,qY,qY,qY,qY,qY,qY,qY,qY,qY,qY,qY,qY,qY,qY,qY,qY,qY,qY,qY],true,none⟩ else ph else if t=323 then vZ else if t=325 then Xl else if t=326 then Xl else if t=327 then some ⟨0,0,.array 0 16,.agg [],true,none⟩ else ph) else (if t<333 then if t=328 then Xm else if t=329 then Xm else if t=330 then Yp else if t=331 then Yp else ph else if t=333 then Zd else if t=334 then Zd else if t=335 then Xn else if t=336 then Xn else ph))
def tb (t:Nat):Option TI:=(if t<116 then (if t<34 then (if t<17 then Zf t else Zg t) else (if t<61 then Zh t else Zi t)) else (if t<220 then (if t<153 then Zj t else Zk t) else (if t<277 then Zl t else (if t<320 then Zm t else Zn t))))
def tT (t:Nat):Option TI:=if t<339 then tb t else none
theorem Xo:(List.range 339).map (o9 Go.Proofs.Tryz.prog)=(List.range 339).map tb:=by kernel_rfl
def Pd:Bool:=(List.range 339).all fun t=>match tb t with
 |some ti=>match ti.kd with
  |.struct fs=>fs.all fun f=>(tT f.2).isSome
  |_=>true
 |none=>true
theorem Gs:Pd=true:=by kernel_rfl
theorem T0:ko Go.Proofs.Tryz.prog tT:=by
 refine ⟨?_,?_,?_⟩
 ·intro t ti h
  unfold tT at h
  split at h
  ·rename_i ht'
   have e:=congrArg (fun l=>l[t]?) Xo
   simp only [List.getElem?_map,List.getElem?_range ht',Option.map_some,osI] at e
   rw [e,h]
  cases h
 ·intro t ti fs h hk f hf
  unfold tT at h
  split at h
  ·rename_i ht'
   have hall:=List.all_eq_true.1 Gs t (by simp [ht'])
   simp only [h,hk] at hall
   have:=List.all_eq_true.1 hall f hf
   exact Option.isSome_iff_exists.1 this
  cases h
 exact Nat.le_of_ble_eq_true (by kernel_rfl)
def gl (g:Nat):Option (List D):=
 bif Nat.beq g 0 then some [.int .i32 97,.int .i32 122,.int .i32 945,.int .i32 969,.int .i32 1072,.int .i32 1103] else
 bif Nat.beq g 1 then some [.int .i32 48,.int .i32 57,.int .i32 45,.int .i32 45] else none
def FC:Nat→List AV→List aB→jN→List aB→Prop:=bH Go.Proofs.Tryz.prog gl
theorem I4:pQ Go.Proofs.Tryz.prog tT gl:=RT T0 (by kernel_rfl)
theorem Gt (tS tR:TypeId) (a:Addr) (ba:Option Addr) (la ca lb cb:Nat):∃(m:String) (ch:Sem Nat),
 Extern.SlicesOverlaps.overlaps #[tS,tS] #[tR] #[.slice (some a) la ca,.slice ba lb cb]=(do
 let .slice elem ←underlying tS|stuck m
 let size ←Go.sizeOf elem
 match ba with
 |some b=>
  if la=0∨lb=0∨size=0 then pure (Value.bool false)
  else if a.block !=b.block&&(←frozen a)&&(←frozen b) then unsupported .addressObserved
  else do
   if a.block !=b.block then do
    noView a;noView b
    if ←mayBeOne a b then return Value.bool ((←ch)==1)
   pure (Value.bool (a.block==b.block&&a.off<b.off+lb*size&&b.off<a.off+la*size))
 |none=>pure (Value.bool false)):=by
 apply Exists.intro
 apply Exists.intro
 cases ba with
 |some b=>rfl
 |none=>rfl
theorem v7 {P:Program} (w:World) (tS tR e:TypeId) (ht:P.underlying tS=some (.slice e)) {size:Nat} (hz:∀w,(Go.sizeOf e).run P w=.ok size w)
 (a:Addr) (ba:Option Addr) (la ca lb cb:Nat) {tA:TypeId} {kA:Nat} (Xp:w.shape? a.block=some (tA,kA)) (Zo:kA≠0)
 (hb:lb=0∨∃b c e',ba=some b∧b.spot=none∧a.block≠b.block∧w.heap[b.block]?=some (.cells c e' (0,0))):
 (Extern.SlicesOverlaps.overlaps #[tS,tS] #[tR] #[.slice (some a) la ca,.slice ba lb cb]).run P w=.ok (.bool false) w:=by
 have kM:(underlying tS).run P w=.ok (.slice e) w:=bc ht
 obtain ⟨m,ch,e⟩:=Gt tS tR a ba la ca lb cb
 rw [e]
 clear e
 cases ba with
 |none=>simp [kM,hz]
 |some b=>
 by_cases h0:la=0∨lb=0∨size=0
 ·simp [kM,hz,h0]
 rcases hb with hb|⟨b',c,e',hbe,hsp,hne,hh⟩
 ·exact absurd (.inr (.inl hb)) h0
 simp only [osI] at hbe;subst hbe
 have hnb:(a.block !=b.block)=true:=by simpa using hne
 have Zp:(a.block==b.block)=false:=by simpa using hne
 have Il:w.shape? b.block=some (e',c.size):=by simp [World.shape?,hh]
 have hf:∀off sp,w.frozen? {block:=b.block,off:=off,spot:=sp}=false:=by intro off sp;simp [World.frozen?,hh]
 have hfb:w.frozen? b=false:=hf _ _
 cases kA with
 |zero=>exact absurd rfl Zo
 |succ kA=>
 cases h1:w.frozen? a<;>cases h2:w.frozen? {block:=a.block,off:=kA+1}<;>
  simp [kM,hz,h0,hnb,Zp,frozen,noView,Go.viewAt,mayBeOne,stringish,shape,Sem.run,Xp,Il,hfb,hf,h1,h2]
theorem iC {P:Program} {G:Nat→Option (List D)} {T:Nat→Option TI} (hT:ko P T) {f:Nat} {fn:Func} {tS tR:TypeId} (hf:P.funcs[f]?=some fn) (hname:(fn.name== "runtime.NumGoroutine")=false)
 (hb:fn.body.isNone=true) (hn:Extern.findNext fn=none) (he:Extern.find fn=some (Extern.SlicesOverlaps.overlaps #[tS,tS] #[tR])) {te:TI} (hel:elemOf T tS=some te)
 {b sz off n c:Nat} {ex:Bool} {es:List (List D)} {x:D} {row:List D} {xs:List (List D)} {bx:List aB} (rf:bx[b]?=some (.row sz es)) (hne:es≠[]):
 bH P G f [.d (.sl ((x::row)::xs)),.vw b sz off n c ex] bx (.ret (.d (.bool false))) bx:=by
 intro β w vs X cx hx
 simp only [an,ak,aS] at hx
 obtain ⟨u1,Yr,rfl,⟨base,cap,rfl,_,h1⟩,u2,Oe,rfl,⟨_,Pe,RG,cs,e2,f2,rfl,k1,k2,k3,k4⟩,rfl⟩:=hx
 obtain ⟨ti,e,t1,t2,t3⟩:=eM hel
 have kM:=fN hT t1 t2
 obtain ⟨ei,ed,g1,g2,g3,g4,g5,g6⟩:=aP (hT.ti _ _ t3)
 rcases h1 with h1|⟨blk,o,sz2,rfl,hok,hrows⟩
 ·simp at h1
 simp only [ay,bp] at hrows
 obtain ⟨_,⟨⟨u,hcell,_⟩,_⟩,_⟩:=hrows
 have Xp:∃tA kA,w.shape? blk=some (tA,kA)∧kA≠0:=by
  simp only [World.cell?] at hcell
  split at hcell
  ·rename_i ca ea fa hh
   refine ⟨ea,ca.size,by simp [World.shape?,hh],?_⟩
   intro h0
   simp at hcell
   obtain ⟨hlt,_⟩:=Array.getElem?_eq_some_iff.1 hcell
   omega
  simp at hcell
 obtain ⟨tA,kA,Xp,Zo⟩:=Xp
 have cB:(aB.row sz es).live=true:=by cases es<;>simp_all [aB.live]
 have hrun:=v7 (P:=P) w tS tR e kM (fun w=>bV g1) ⟨blk,o,none⟩ Pe (xs.length+1) cap n RG Xp Zo (by
  rcases k4 with k4|⟨rfl,k5,k6⟩
  ·left;omega
  rcases cx.box _ _ rf with h0|⟨c3,e3,j1,j2⟩
  ·exact absurd h0 hne
  exact .inr ⟨_,c3,e3,rfl,rfl,fun heq=>hok.2.2 b _ rf cB heq.symm,j1⟩)
 refine .inr ⟨.bool false,w,?_,β,Ext.refl _ _ _,cx,by simp only [lV,ak,aS]⟩
 rw [run_callFunc_extern hf hname hb hn he]
 have e1:(({toList:=[.slice (some ⟨blk,o,none⟩) ((x::row)::xs).length cap,.slice Pe n RG]}:Array Value))=#[.slice (some ⟨blk,o,none⟩) (xs.length+1) cap,.slice Pe n RG]:=rfl
 rw [e1,hrun]
 rfl
end Dem
end
section
open Go
namespace Dem
section
variable {P:Program} {G:Nat→Option (List D)} {bx:List aB}
theorem Gu {f:Nat} {args nE:List AV} {v:AV} (ks:List Bool) (hz:eX bx args=some nE) (hn:AV.bS.dg (kill ks bx) nE=true) (hl:dY false (kill ks bx) (kill ks bx)=true)
 (hv:v.flat=true∨eX [] args=some nE∧v.shut=true) (h:bH P G f nE (kill ks bx) (.ret v) (kill ks bx)):bH P G f args bx (.ret v) bx:=by
 intro β w vs X cx hx
 refine jv.mono (xe cx hx ⟨nE,kill ks bx,hz,hn,⟨false,hl,fun h=>by cases h⟩,?_,h,hv⟩) ?_
 ·intro i b hi dQ
  obtain ⟨b0,h1,h2⟩:=l7 ks bx i b hi
  rcases h2 with rfl|⟨rfl,h3⟩
  ·exact ⟨_,h1,dQ,fun _=>rfl⟩
  exact ⟨b0,h1,h3,fun h=>by simp [aB.live] at h⟩
 rintro e w' ⟨u,rfl,h2,h3,h4⟩
 exact ⟨β,h2,h3,h4⟩
theorem Pf {t:Th} (ht:t=t0) {lD:Prop} {fz:Option (Prop×List AV)} {f:Nat} {args nE o5:List AV} {bx aV:List aB} {v:AV} {c:Prop} {K Kp:AV→List aB→Prop} (ks:List Bool) (ct:List Nat) (ho:lD)
 (hz:pZ t bx args=some (c,nE)) (hc:c) (hn:AV.bS.dg (kill ks bx) nE=true) (hl:dY false (kill ks bx) (kill ks bx)=true) (hv:v.flat=true)
 (ha:AV.yo (fun b=>eA b ct 0) nE=some o5) (hb:gL (fun b=>eA b ct 0) (kill ks bx) ct=some aV) (hb':Gm ct (kill ks bx) aV=some (kill ks bx)) (hr:jN.iN (kT ct (kill ks bx).length) (.ret v)=some (.ret v))
 (h:bH P G f o5 aV (.ret v) aV) (hK:K v bx):o4 (bH P G) lD f args fz bx K Kp:=by
 subst ht
 exact eB ho (Gu ks (gK hz hc) hn hl (.inl hv) (dI ct ha hb hr hb' h)) hK
end
end Dem
end
section
open Go
namespace Dem
abbrev TT (t:Th):Prop:=∀(α:Type) (f:Unit→α),t α f=f ()
theorem kI {t:Th} (ht:TT t) {α:Type} {e x:α} (h:e=x):(t _ fun _=>e)=x:=by rw [ht];exact h
section
variable {P:Program} {G:Nat→Option (List D)} {FC:Nat→List AV→List aB→jN→List aB→Prop} {lD:Prop} {f:Nat} {args args':List AV} {c:Prop} {bx:List aB} {K Kp:AV→List aB→Prop} {ρ:Type}
theorem bq {E:ρ→AV} {r0:ρ} (ho:lD) (h:FC f args' [] (.ret (E r0)) []) (hc:c) (hs:AV.shut.mI args'=true) (hf:(E r0).flat=true) (hK:∀r,r=r0→K (E r) bx):o4 FC lD f args (some (c,args')) bx K Kp:=
 gM ho h hc hs hf (hK _ rfl)
theorem aK {E:ρ→AV} {r0:ρ} (ho:lD) (h:FC f args' [] (.ret (E r0)) []) (hc:c) (hs:AV.shut.mI args'=true) (hz:eX [] args=some args') (hv:(E r0).shut=true) (hK:∀r,r=r0→K (E r) bx):o4 FC lD f args (some (c,args')) bx K Kp:=
 Gn ho h hc hs hz hv (hK _ rfl)
theorem I5 {E:ρ→AV} {r0:ρ} {fz:Option (Prop×List AV)} {pE:List aB} (ho:lD) (hfz:fz=some (c,args')) (hc:c) (h:FC f args' (fy bx args) (.ret (E r0)) pE) (hK:∀r,r=r0→K (E r) pE):o4 FC lD f args fz bx K Kp:=
 TY ho hfz hc h (hK _ rfl)
theorem eT {dr g:Bool} {K:AV→Prop} {E:ρ→AV} {r0:ρ} (h:g=true→lD∧c∧FC f args' [] (.ret (E r0)) []) (hs:AV.bS.dg [] args'=true) (hf:(E r0).flat=true) (hK:∀r,r=r0→K (E r)):sS FC dr g lD f args bx (some (c,args')) K:=
 Gp h hs hf (hK _ rfl)
theorem gX {dr g:Bool} {K:AV→Prop} {E:ρ→AV} {r0:ρ} (h:g=true→lD∧c∧FC f args' [] (.ret (E r0)) []) (hs:AV.bS.dg [] args'=true) (hz:eX [] args=some args') (hf:(E r0).shut=true) (hK:∀r,r=r0→K (E r)):sS FC dr g lD f args bx (some (c,args')) K:=
 m8 h hs hz hf (hK _ rfl)
end
theorem kO {t:Th} (ht:TT t) {α:Type} {l:List α} {cells cT:α→List D} {es:List (List D)} (aG:es=l.map cells) {z:Int} {n:Nat} {K:List D→Prop} (h0:0≤z) (h1:z<l.length) (hn:∀x,(cells x).length=n) (hT:∀x,cells x=cT x)
 (hK:∀x,l[z.toNat]?=some x→K (cT x)):nv true (t Prop fun _=>0≤z∧z<es.length∧∀r∈es,r.length=n) (t _ fun _=>es.getD z.toNat []) K:=by
 have hz:z.toNat<l.length:=by omega
 refine jA (cT l[z.toNat]) ?_ ?_ (hK _ (List.getElem?_eq_getElem hz))
 ·simp only [ht];refine ⟨h0,by rw [aG,lgM];exact h1,?_⟩
  rw [aG];intro r hr;obtain ⟨y,_,rfl⟩:=List.mem_map.1 hr;exact hn y
 simp only [ht];rw [aG,←hT];simp [hz]
theorem cD {s:St} {n:Nat} {σ:Type} {J:Nat→σ→Prop} {F:σ→St} (v:σ) (hs:s=F v) (m:Nat) (hm:m<n) (hJ:J m v):LoopIn (some s) (fun s3=>∃m v',(m<n∧J m v')∧s3=F v'):=aJ (P:=fun s3=>∃m v',(m<n∧J m v')∧s3=F v') ⟨m,v,⟨hm,hJ⟩,hs⟩
theorem Xq {α:Type} {l:List α} {cells:α→List D} {u:List (List D)} (hu:u=l.map cells) {row:List D} {sz b:Nat} (hn:∀x,(cells x).length=sz) (hr:row.length=sz) (hl:l.length<1000000) (hb:b≤10000):
 u.length=u.length∧(u.length+[row].length)*b≤140737488355328∧∀r∈u++[row],r.length=sz:=by
 refine ⟨rfl,?_,?_⟩
 ·rw [hu,lgM]
  exact Nat.le_trans (Nat.mul_le_mul (show l.length+[row].length≤1000000 by simp;omega) hb) (by decide)
 intro r hr'
 rcases List.mem_append.1 hr' with h|h
 ·rw [hu] at h;obtain ⟨y,_,rfl⟩:=List.mem_map.1 h;exact hn y
 simp at h;subst h;exact hr
end Dem
end
section
open Go
namespace Dem
def flat:Code→List Code
 |.seq a b=>flat a++flat b
 |c=>[c]
section
variable {P:Program}
def sW (P:Program):List Code→(Exit→Act→World→Prop)→Act→World→Prop
 |[],Q=>Q .normal
 |c::r,Q=>c.wp P (Exit.then (sW P r Q) Q)
theorem Cy {K K':Act→World→Prop} {Q Q':Exit→Act→World→Prop} (h:∀a w,K a w→K' a w) (hq:∀e a w,Q e a w→Q' e a w):∀e a w,Exit.then K Q e a w→Exit.then K' Q' e a w:=by
 intro e a w hh;cases e<;>simp only [Exit.then] at hh ⊢<;>first|exact h _ _ hh|exact hq _ _ _ hh
theorem Gv:∀{l:List Code} {Q Q':Exit→Act→World→Prop} {a:Act} {w:World},(∀e a w,Q e a w→Q' e a w)→sW P l Q a w→sW P l Q' a w
 |[],_,_,_,_,hq,h=>hq _ _ _ h
 |_::_,_,_,_,_,hq,h=>wp_mono h (Cy (fun _ _ hh=>Gv hq hh) hq)
theorem Al:∀{l1 l2:List Code} {Q:Exit→Act→World→Prop} {a:Act} {w:World},sW P (l1++l2) Q a w→sW P l1 (Exit.then (sW P l2 Q) Q) a w
 |[],_,_,_,_,h=>h
 |c::l1,l2,Q,a,w,h=>by
  refine wp_mono (show c.wp P (Exit.then (sW P (l1++l2) Q) Q) a w from h) ?_
  intro e a w hh
  cases e<;>simp only [Exit.then] at hh ⊢<;>first|exact Al hh|exact hh
theorem DS:∀(c:Code) {Q:Exit→Act→World→Prop} {a:Act} {w:World},sW P (flat c) Q a w→c.wp P Q a w
 |.seq x y,Q,a,w,h=>by
  have h:=Al (show sW P (flat x++flat y) Q a w from h)
  refine wp_seq (wp_mono (DS x h) ?_)
  exact Cy (fun a w hh=>DS y hh) (fun _ _ _ hh=>hh)
 |.skip,Q,a,w,h=>wp_mono h (by intro e a w hh;cases e<;>simpa only [sW,Exit.then] using hh)
 |.region ..,Q,a,w,h=>wp_mono h (by intro e a w hh;cases e<;>simpa only [sW,Exit.then] using hh)
 |.cond ..,Q,a,w,h=>wp_mono h (by intro e a w hh;cases e<;>simpa only [sW,Exit.then] using hh)
 |.block ..,Q,a,w,h=>wp_mono h (by intro e a w hh;cases e<;>simpa only [sW,Exit.then] using hh)
 |.loop ..,Q,a,w,h=>wp_mono h (by intro e a w hh;cases e<;>simpa only [sW,Exit.then] using hh)
 |.rangeFunc ..,Q,a,w,h=>wp_mono h (by intro e a w hh;cases e<;>simpa only [sW,Exit.then] using hh)
 |.exit ..,Q,a,w,h=>wp_mono h (by intro e a w hh;cases e<;>simpa only [sW,Exit.then] using hh)
 |.scope ..,Q,a,w,h=>wp_mono h (by intro e a w hh;cases e<;>simpa only [sW,Exit.then] using hh)
 |.label ..,Q,a,w,h=>wp_mono h (by intro e a w hh;cases e<;>simpa only [sW,Exit.then] using hh)
 |.goto ..,Q,a,w,h=>wp_mono h (by intro e a w hh;cases e<;>simpa only [sW,Exit.then] using hh)
 |.ret,Q,a,w,h=>wp_mono h (by intro e a w hh;cases e<;>simpa only [sW,Exit.then] using hh)
 |.refuse ..,Q,a,w,h=>wp_mono h (by intro e a w hh;cases e<;>simpa only [sW,Exit.then] using hh)
end
section
variable (t:Th) (FC:Nat→List AV→List aB→jN→List aB→Prop) (T:Nat→Option TI) (G:Nat→Option (List D)) (N K:Nat)
def Pg:List Code→(Ex→St→Prop)→St→Prop
 |[],Q,s=>Q .normal s
 |c::r,Q,s=>yu t FC T G N K c (fun e s1=>tO (fun s1=>Pg r Q s1) Q e s1) s
end
section
variable {P:Program} {T:Nat→Option TI} {G:Nat→Option (List D)} {N K:Nat} {ds:List Deferred} {X:Nat→Prop} {β0:Nat→Nat} {aV:List aB} {w0:World}
theorem sX (hT:ko P T) (hD:pQ P T G) (hK:aV.length≤K):∀(l:List Code) (Q:Ex→St→Prop) (β:Nat→Nat) (w:World) (s:St) (a:Act),Ext β0 aV w0 β s.bx w→Fr G N ds β w X s a→
 Pg t0 (bH P G) T G N K l Q s→sW P l (gD G N ds X β0 aV w0 Q) a w
 |[],Q,β,w,s,a,ex,hF,h=>⟨β,s,ex,hF,h⟩
 |c::l,Q,β,w,s,a,ex,hF,h=>by
  refine wp_mono (gj hT hD hK c _ β w s a ex hF h) ?_
  intro e a' w' hl
  cases e<;>simp only [gD,tO,Exit.then] at hl ⊢
  ·obtain ⟨β',s',h1,h2,h3⟩:=hl
   exact sX hT hD hK l Q β' w' s' a' h1 h2 h3
  all_goals exact hl
theorem xI:∀{l1 l2:List Code} {Q:Exit→Act→World→Prop} {a:Act} {w:World},sW P l1 (Exit.then (sW P l2 Q) Q) a w→sW P (l1++l2) Q a w
 |[],_,_,_,_,h=>h
 |c::l1,l2,Q,a,w,h=>by
  refine wp_mono (show c.wp P (Exit.then (sW P l1 (Exit.then (sW P l2 Q) Q)) (Exit.then (sW P l2 Q) Q)) a w from h) ?_
  intro e a w hh
  cases e<;>simp only [Exit.then] at hh ⊢<;>first|exact xI hh|exact hh
end
end Dem
end
section
namespace Dem
abbrev aQ:=List UInt8
structure bO where
 a:Int
 b:Int
 c:Int
 d:Int
deriving DecidableEq
def bO.zero:bO:=⟨0,0,0,0⟩
def Gw (x y:Int):Int×Bool:=if x.toNat+y.toNat<18446744073709551616 then (((x.toNat+y.toNat:Nat):Int),true) else (0,false)
def Gx (x y:Int):Int×Bool:=if x.toNat<y.toNat then (0,false) else (((((x.toNat-y.toNat)%18446744073709551616:Nat)):Int),true)
def both (f:Int→Int→Int×Bool) (a b:bO):bO×Bool:=
 if (f a.a b.a).2&&(f a.b b.b).2&&(f a.c b.c).2&&(f a.d b.d).2 then (⟨(f a.a b.a).1,(f a.b b.b).1,(f a.c b.c).1,(f a.d b.d).1⟩,true) else (bO.zero,false)
def jR (a b:bO):bO×Bool:=both Gw a b
def dV (a b:bO):bO×Bool:=both Gx a b
def kU (a b:bO):Bool:=(dV b a).2
end Dem
namespace Dem
def idxOf {α:Type} (p:α→Bool) (l:List α):Int:=match l.findIdx? p with|some k=>(k:Int)|none=>-1
theorem dA {α:Type} {p:α→Bool}:∀{l:List α} {k:Nat} {x:α},l[k]?=some x→p x=true→(∀i<k,∀y,l[i]?=some y→p y=false)→l.findIdx? p=some k
 |[],_,_,h,_,_=>by simp at h
 |y::r,0,x,h,hp,_=>by simp at h;subst h;simp [List.findIdx?_cons,hp]
 |y::r,k+1,x,h,hp,hb=>by
  have hy:p y=false:=hb 0 (by omega) y (by simp)
  simp only [List.getElem?_cons_succ] at h
  rw [List.findIdx?_cons,hy]
  simp [dA h hp fun i hi z hz=>hb (i+1) (by omega) z (by simpa using hz)]
theorem dL {α:Type} {p:α→Bool} {l:List α} (hb:∀(i:Nat) (y:α),l[i]?=some y→p y=false):l.findIdx? p=none:=by
 rw [List.findIdx?_eq_none_iff]
 intro x hx
 obtain ⟨i,hi⟩:=List.getElem?_of_mem hx
 exact hb i x hi
theorem iO {α:Type} (p:α→Bool) (l:List α):l.any p=decide (0≤idxOf p l):=by
 unfold idxOf
 cases h:l.findIdx? p with
 |none=>
  rw [List.findIdx?_eq_none_iff] at h
  simp
  intro x hx;simp [h x hx]
 |some k=>
  have:=List.findIdx?_eq_some_iff_getElem.1 h
  obtain ⟨hk,hp,_⟩:=this
  simp
  exact ⟨l[k],List.getElem_mem hk,hp⟩
end Dem
end
section
open Go Dem Go.Proofs
namespace Dem
theorem TT.eq {t:Th} (h:TT t):t=t0:=by funext α f;exact h α f
theorem bP {t:Th} (ht:TT t) {f N:Nat} {fn:Func} {c:Code} {args:List AV} {aV aZ:List aB} {res:jN} (hf:Tryz.prog.funcs[f]?=some fn) (hb:fn.body=some c)
 (hname:(fn.name== "runtime.NumGoroutine")=false) (hN:fn.ntmps=N) {rs:List ResultVar} (Ry:fn.results.toList=rs) {n:Nat} (hn:aV.length=n) (hlen:Nat.ble args.length N=true)
 (h:yu t FC tT gl N n c (xG t tT rs n res aZ) ⟨pG 0 args,aV⟩):FC f args aV res aZ:=by
 subst Ry;subst hn
 have e:=ht.eq
 subst e
 exact yw T0 I4 hf hb hname hN hlen h
theorem Ys {f:Nat} {fn:Func} {e:Array Value→Sem Value} {args:List AV} {v:AV} (hf:Tryz.prog.funcs[f]?=some fn) (hname:(fn.name== "runtime.NumGoroutine")=false)
 (hb:fn.body.isNone=true) (hn:Extern.findNext fn=none) (he:Extern.find fn=some e)
 (h:∀(β:Nat→Nat) (w:World) (vs:List Value) (ok:Nat→Prop),an β [] w ok args vs→∃u,(e ⟨vs⟩).run Tryz.prog w=.ok u w∧ak β [] w ok v u):FC f args [] (.ret v) []:=by
 intro β w vs X cx hx
 obtain ⟨u,h1,h2⟩:=h β w vs _ hx
 refine .inr ⟨u,w,?_,β,Ext.refl _ _ _,cx,h2⟩
 rw [run_callFunc_extern hf hname hb hn he,h1]
 rfl
abbrev bJ (x:Int):AV:=.d (.int .i64 x)
abbrev aD (x:Int):AV:=.d (.int .u64 x)
abbrev BL (b:Bool):AV:=.d (.bool b)
abbrev ST (s:List UInt8):AV:=.d (.str s)
abbrev SL (es:List (List D)):AV:=.d (.sl es)
abbrev V4 (a b c d:Int):AV:=.agg [.d (.int .u64 a),.d (.int .u64 b),.d (.int .u64 c),.d (.int .u64 d)]
theorem aH {k:Nat} (h1:k<9223372036854775807):IntKind.i64.wrap ((k:Int)+1)=((k+1:Nat):Int):=by rw [wrap64 (by omega) (by omega)];omega
theorem ah (n:Nat):@NatCast.natCast Int instNatCastInt n=(n:Int):=rfl
end Dem
end
section
open Go Go.Proofs Go.ChangeShapes Go.WideShapes Go.RowKit
namespace Dem
theorem own:ownKnob Tryz.prog.godebug=none:=by kernel_rfl
theorem laidOut:laidOutB Tryz.prog=true:=by kernel_rfl
theorem Ph:Tryz.prog.globalNamed "demesne/word.letters"=some 0:=by kernel_rfl
theorem UP:Tryz.prog.globalNamed "demesne/word.marks"=some 1:=by kernel_rfl
def Cz:TypeId:=236
def K7:TypeId:=237
theorem Pj:(Tryz.prog.globals[0]?).map (·.type)=some Cz:=by kernel_rfl
theorem UQ:(Tryz.prog.globals[1]?).map (·.type)=some K7:=by kernel_rfl
def Zq:DataW Unit→Value
 |.lit (.int k n)=>.int k n
 |_=>.int .u8 0
def Zr:DataW Unit→List Value
 |.agg l=>l.map Zq
 |_=>[]
noncomputable def T1 (os:Os):World:=
 let w0:=World.doorLaid Tryz.prog 400 os
 {w0 with heap:=w0.heap.modify 3 fun
  |.cells _ t fr=>.cells (Zr YtihohjnkkalgiaaGreatDoor.Rows.laid_unicode_utf8_first).toArray t fr
  |o=>o}
abbrev uM:List (String×DataW Unit):=[("unicode/utf8.acceptRanges",YtihohjnkkalgiaaGreatDoor.Rows.laid_unicode_utf8_acceptRanges),("demesne/word.letters",YtihohjnkkalgiaaGreatDoor.Rows.laid_demesne_word_letters),("demesne/word.marks",YtihohjnkkalgiaaGreatDoor.Rows.laid_demesne_word_marks),("unicode/utf8.first",YtihohjnkkalgiaaGreatDoor.Rows.laid_unicode_utf8_first)]
theorem Pk (os:Os) (args:Array Value):laidMetH Tryz.prog uM ((T1 os).forCall (fun _ _=>0) ⟨#[],args,[]⟩).memory:=
 laidMetH_of_parts3 (fuel:=8) (laidMet_of_run' 8 (by kernel_rfl) (by kernel_rfl)) (by kernel_rfl) (by kernel_rfl)
theorem tyL:FK Tryz.prog 8 Cz=some [.int .i32,.int .i32,.int .i32,.int .i32,.int .i32,.int .i32]:=by kernel_rfl
theorem tyM:FK Tryz.prog 8 K7=some [.int .i32,.int .i32,.int .i32,.int .i32]:=by kernel_rfl
theorem DT {w:World} {ok:Nat→Prop} {blk:Nat}:∀{ds:List D} {vs:List Value} (off:Nat),cH w ok ds vs→(∀i v,vs[i]?=some v→w.cell? ⟨blk,off+i,none⟩=some v)→bp w ok blk ds off
 |[],_,_,_,_=>by simp [bp]
 |d::ds,vs,off,h,hc=>by
  simp only [cH] at h
  obtain ⟨v,r,rfl,h1,h2⟩:=h
  simp only [bp]
  refine ⟨⟨v,hc 0 v rfl,h1⟩,DT (off+1) h2 fun i u hu=>?_⟩
  rw [show off+1+i=off+(i+1) by omega]
  exact hc (i+1) u (by simpa using hu)
theorem Gy {W:World} (h:laidMetH Tryz.prog uM W):cJ gl (fun _=>0) [] W (fun _=>False):=by
 rw [MakeChecks.laidMetH_plain _ _ _ (by kernel_rfl)] at h
 obtain ⟨ps,⟨_,_,_,_,_,_,_,_,_,_,⟨g0,t0,cs0,f0,p0,q0,Uz,ht0,UR,Yn,⟨g1,t1,cs1,f1,p1,q1,hg1,Zs,Zt,Wt,_,_⟩,_⟩,_⟩,_,_⟩:=h
 obtain rfl:=Option.some.inj (Ph.symm.trans Uz)
 obtain rfl:=Option.some.inj (UP.symm.trans hg1)
 obtain rfl:=Option.some.inj (Pj.symm.trans ht0)
 obtain rfl:=Option.some.inj (UQ.symm.trans Zs)
 have hok:∀blk,blk<W.heap.size→bz (fun _=>0) [] W (fun _=>False) blk:=fun blk hb=>⟨hb,fun h=>h,fun i b hb=>by simp at hb⟩
 obtain ⟨r0,_⟩:=uv hok 8 _ _ _ _ _ Yn tyL
 obtain ⟨r1,_⟩:=uv hok 8 _ _ _ _ _ Wt tyM
 have c0:=fun i=>World.var?_cell Uz UR i
 have c1:=fun i=>World.var?_cell hg1 Zt i
 refine ⟨fun _ h=>h.elim,?_,by simp,by simp,by simp⟩
 intro g ds hg
 unfold gl at hg
 have hlt:∀{i:Nat} {a:Addr} {v:Value},W.cell? a=some v→a.block<W.heap.size:=by
  intro i a v hc
  rcases Nat.lt_or_ge a.block W.heap.size with h|h
  ·exact h
  simp [World.cell?,h] at hc
 cases e0:Nat.beq g 0 with
 |true=>
  rw [e0] at hg
  simp only [cond_true,osI] at hg
  obtain rfl:=Nat.eq_of_beq_eq_true e0
  have hrow:bp W (bz (fun _=>0) [] W (fun _=>False)) 0 ds 0:=by
   rw [←hg];exact DT 0 r0 fun i v hv=>by rw [Nat.zero_add,c0 i];simpa using hv
  refine ⟨hok _ ?_,hrow⟩
  rw [←hg] at hrow
  simp only [bp] at hrow
  obtain ⟨⟨u,hu,_⟩,_⟩:=hrow
  exact hlt (i:=0) hu
 |false=>
  rw [e0] at hg
  simp only [cond_false] at hg
  cases e1:Nat.beq g 1 with
  |true=>
   rw [e1] at hg
   simp only [cond_true,osI] at hg
   obtain rfl:=Nat.eq_of_beq_eq_true e1
   have hrow:bp W (bz (fun _=>0) [] W (fun _=>False)) 1 ds 0:=by
    rw [←hg];exact DT 0 r1 fun i v hv=>by rw [Nat.zero_add,c1 i];simpa using hv
   refine ⟨hok _ ?_,hrow⟩
   rw [←hg] at hrow
   simp only [bp] at hrow
   obtain ⟨⟨u,hu,_⟩,_⟩:=hrow
   exact hlt (i:=0) hu
  |false=>rw [e1] at hg;cases hg
theorem I6 {f:Nat} {args:List AV} {vs:List Value} {W:World} (hL:laidMetH Tryz.prog uM W) (he:∀args w,(callFunc f args).run Tryz.prog w=.ok (.enter f args) w)
 (hx:an (fun _=>0) [] W (bz (fun _=>0) [] W (fun _=>False)) args vs) (h:FC f args [] (.ret (.d (.bool true))) []):
 Calls Tryz.prog f ⟨vs⟩ W fun e w'=>e=.returned (.bool true)∧RowKit.Below W.heap.size W w':=by
 have hc:=h (fun _=>0) W vs (fun _=>False) (Gy hL) hx
 rcases hc with ⟨_,hc⟩|⟨v,w',hc,_⟩
 ·refine hc.mono ?_
  rintro e w' ⟨β',ex,_,hr⟩
  cases e with
  |returned u=>
   simp only [lV,ak,aS] at hr
   subst hr
   exact ⟨rfl,⟨ex.os,ex.tape,ex.output,ex.size,fun k hk=>ex.block k hk (by simp)⟩⟩
  |_=>exact hr.elim
 rw [he] at hc;cases hc
theorem BP {H:Type} {enc:TypeId×Value→H} {P:Program} (hl:laidOutB P=true) {W W':World} (hb:RowKit.Below W.heap.size W W'):∀(ts:List TypeId) (vs:List Value) (ds:List (DataW H)) (ps:List MemPlace),(ts.all fun t=>P.readableRec t&&decide (t<P.types.size))=true→
 (∀x∈ps,x.block<W.heap.size)→DataW.TrodAll enc P W 0 (fun _=>true) true ts vs ds ps→DataW.TrodAll enc P W' 0 (fun b=>decide (b<W.heap.size)) true ts vs ds ps:=by
 intro ts
 induction ts with
 |nil=>
  intro vs ds ps _ _ h
  cases vs with
  |nil=>cases ds with
   |nil=>exact h
   |cons d ds=>exact h.elim
  |cons v vs=>cases ds<;>exact h.elim
 |cons t ts ih=>
  intro vs ds ps ht hlt h
  cases vs with
  |nil=>cases ds<;>exact h.elim
  |cons v vs=>cases ds with
   |nil=>exact h.elim
   |cons d ds=>
    obtain ⟨p,q,h1,h2,rfl⟩:=h
    simp only [List.all_cons,Bool.and_eq_true,decide_eq_true_eq] at ht
    exact ⟨p,q,RowKit.Below.trod hl ht.1.1 ht.1.2 h1 hb (fun x hx=>hlt x (List.mem_append_left _ hx)),ih vs ds q ht.2 (fun x hx=>hlt x (List.mem_append_right _ hx)) h2,rfl⟩
theorem Gz {H:Type} {enc:TypeId×Value→H} {P:Program} {W:World}:∀(ts:List TypeId) (vs:List Value) (ds:List (DataW H)) (ps:List MemPlace),DataW.TrodAll enc P W 0 (fun _=>true) true ts vs ds ps→ds.length=ts.length:=by
 intro ts
 induction ts with
 |nil=>
  intro vs ds ps h
  cases vs with
  |nil=>cases ds with
   |nil=>rfl
   |cons d ds=>exact h.elim
  |cons v vs=>cases ds<;>exact h.elim
 |cons t ts ih=>
  intro vs ds ps h
  cases vs with
  |nil=>cases ds<;>exact h.elim
  |cons v vs=>cases ds with
   |nil=>exact h.elim
   |cons d ds=>obtain ⟨_,_,_,h2,_⟩:=h;simp [ih _ _ _ h2]
theorem BQ {W W':World} (hb:RowKit.Below W.heap.size W W') (may:MemPlace→Prop):W.keptBut W' may:=by
 refine ⟨hb.os,hb.output,fun i hi=>?_⟩
 rw [hb.block i hi]
 generalize W.heap[i]?=o
 cases o with
 |none=>rfl
 |some o=>cases o<;>first|exact ⟨rfl,rfl,rfl,fun _ _=>rfl⟩|exact .inr ⟨rfl,rfl⟩|rfl
theorem Xr:Tryz.prog.underlying 4=some .bool:=by kernel_rfl
theorem Mm {H:Type} {enc:TypeId×Value→H} {os:Os} (started:os.Started) {F:FuncId} {fn:Func} {s:ChangeSpec} (hfn:Tryz.checked.prog.funcs[F]?=some fn) (hni:Tryz.checked.prog.inits.idxOf? F=none) (hv:s.vars=[]) (hrt:fn.resultTypes=#[4])
 (hts:(fn.params.toList.all fun t=>Tryz.prog.readableRec t&&decide (t<Tryz.prog.types.size))=true)
 (hs:∀ds:List (DataW H),ds.length=fn.params.toList.length→(s.fn H ds).results=[.lit (.bool true)]∧(s.fn H ds).args=ds∧(s.fn H ds).vars=[])
 (witness:∃(w:World) (tape:Tape) (i:Input),w.os=os∧(w.forCall tape i).Shaped Tryz.checked.prog∧i.vars=[]∧Input.okWide Tryz.checked.prog (w.forCall tape i) .any w.heap.size F i∧
  ((s.pre enc Tryz.checked.prog fn [] false (w.forCall tape i).memory i.args∧laidMetH Tryz.prog uM (w.forCall tape i).memory)∧sizedMet enc Tryz.checked.prog fn (OpenSpec.ofChange s) false (w.forCall tape i).memory i.args)∧({}:Assume).holds Tryz.checked.prog (lone (Frame.enter Tryz.checked.prog F i.args .normal) [] (w.forCall tape i)))
 (US:∀(W:World) (args:Array Value) (ds:List (DataW H)) (p:List MemPlace),laidMetH Tryz.prog uM W→DataW.TrodAll enc Tryz.prog W 0 (fun _=>true) true fn.params.toList args.toList ds p→
  (∀(j:Nat) t v,fn.params[j]?=some t→args[j]?=some v→∃base,Value.okWide Tryz.prog W .any base t v)→
  Calls Tryz.prog F args W fun e w'=>e=.returned (.bool true)∧RowKit.Below W.heap.size W w'):
 ReturnsInHanded {} Tryz.checked os F .any (fun w args=>(s.pre enc Tryz.checked.prog fn [] false w args∧laidMetH Tryz.prog uM w)∧sizedMet enc Tryz.checked.prog fn (OpenSpec.ofChange s) false w args) (s.post enc Tryz.checked.prog fn false true false false):=by
 refine returnsInHanded_of_change_and (C:=Tryz.checked) (X:=fun w _=>laidMetH Tryz.prog uM w) (fun _ _ _ hh h=>h.of_heap hh) own started hni hfn witness ?_
 intro W base args ds gs before hval hW _ _ hL _
 have hW':=hW
 obtain ⟨p,q,hA,hV,rfl,hfz,hnd⟩:=hW
 rw [hv] at hV
 obtain ⟨rfl,rfl⟩:=trodVars_none hV
 have hlen:ds.length=fn.params.toList.length:=Gz _ _ _ _ hA
 obtain ⟨s1,s2,s3⟩:=hs ds hlen
 refine (US W args ds p hL hA (fun j t v h1 h2=>⟨base,hval j t v h1 h2⟩)).mono fun e w' ⟨he,hb⟩=>?_
 refine ⟨.bool true,he,ds,[],p++[],[],p,[],hW',?_,?_,?_,BQ hb _,fun h=>by cases h⟩
 ·rw [List.append_nil,s1,hrt]
  exact trodAll_mk1 (shut_bool Xr _)
 ·rw [List.append_nil,s2]
  exact BP laidOut hb _ _ _ _ hts (fun x hx=>hW'.lt x (by simpa using hx)) hA
 rw [List.append_nil,s3,hv]
 rfl
end Dem
end
section
open Go
namespace Dem
def dec (s:aQ) (pos:Nat):Nat×Nat:=Utf8.decode ⟨s.toArray⟩ pos
theorem K8 (s:aQ) (pos:Nat) (h:pos<s.length):1≤(dec s pos).2:=Lib.decode_width_pos _ pos (by show pos<s.toArray.size;simpa using h)
def iH (s:aQ):Nat→Nat→List (Nat×Nat)
 |0,_=>[]
 |n+1,pos=>if pos<s.length then (pos,(dec s pos).1)::iH s n (pos+(dec s pos).2) else []
def CA (s:aQ):List (Nat×Nat):=iH s s.length 0
def DU:List (Int×Int):=[(97,122),(945,969),(1072,1103)]
def marks:List (Int×Int):=[(48,57),(45,45)]
def GA (r:Int) (l:List (Int×Int)):Bool:=l.any fun x=>decide (x.1≤r)&&decide (r≤x.2)
def qd (s:aQ):Nat:=(CA s).length
def UT (x:Nat×Nat):Bool:=GA x.2 DU||(!decide (x.1=0)&&GA x.2 marks)
def ej (s:aQ):Bool:=(CA s).all UT&&!decide (s=[])&&decide (qd s≤16)
theorem Am (s:aQ):∀(n pos:Nat),(iH s n pos).length≤n
 |0,_=>by simp [iH]
 |n+1,pos=>by
  unfold iH;split
  ·simp;exact Am s n _
  simp
structure dj where
 key:aQ
 value:aQ
deriving DecidableEq
abbrev dj.cells (p:dj):List D:=[.str p.key,.str p.value]
def sle (x y:aQ):Bool:=Op.bytesLess x y||decide (x=y)
def jC:Option aQ→List dj→Bool
 |_,[]=>true
 |q,p::r=>ej p.key&&ej p.value&&(match q with|none=>true|some q=>!sle p.key q)&&jC (some p.key) r
def sY (l:List dj):Bool:=jC none l&&decide (l.length≤8)
def lz (l:List dj) (k:Nat):Option aQ:=match k with
 |0=>none
 |k+1=>(l[k]?).map (·.key)
def dj.sm (p:dj):Prop:=p.key.length<9223372036854775807∧p.value.length<9223372036854775807
structure Node where
 name:aQ
 cap:bO
 labels:List dj
 up:Bool
structure Place where
 bK:Int
 node:aQ
 v:bO
abbrev Node.cells (x:Node):List D:=[.str x.name,.int .u64 x.cap.a,.int .u64 x.cap.b,.int .u64 x.cap.c,.int .u64 x.cap.d,.sl (x.labels.map dj.cells),.bool x.up]
abbrev Place.cells (x:Place):List D:=[.int .u64 x.bK,.str x.node,.int .u64 x.v.a,.int .u64 x.v.b,.int .u64 x.v.c,.int .u64 x.v.d]
theorem nK {α:Type} {p:α→Bool} {l:List α} (h:idxOf p l=-1):∀x∈l,p x=false:=by
 unfold idxOf at h
 split at h
 ·omega
 rename_i hn
 rw [List.findIdx?_eq_none_iff] at hn
 exact fun x hx=>by simpa using hn x hx
theorem nL {α:Type} {p:α→Bool} {l:List α} (h:idxOf p l≠-1):∃(i:Nat) (x:α),idxOf p l=i∧l[i]?=some x∧p x=true∧∀y∈l.take i,p y=false:=by
 unfold idxOf at h ⊢
 split at h
 ·rename_i k hk
  obtain ⟨hlt,hp,hb⟩:=List.findIdx?_eq_some_iff_getElem.1 hk
  refine ⟨k,l[k],rfl,by simp [hlt],hp,?_⟩
  intro y hy
  obtain ⟨j,hj⟩:=List.getElem?_of_mem hy
  rw [List.getElem?_take] at hj
  split at hj
  ·rename_i Uo
   have hjl:j<l.length:=by omega
   rw [List.getElem?_eq_getElem hjl] at hj
   cases hj
   simpa using hb j Uo
  cases hj
 exact absurd rfl h
theorem filter_all {α:Type} {p:α→Bool} {l:List α} (h:∀x∈l,p x=false):l.filter (fun x=>!p x)=l:=by
 rw [List.filter_eq_self]
 intro x hx;rw [h x hx];rfl
theorem dP {α:Type} {l:List α} {i:Nat} {x:α} (h:l[i]?=some x):l.take (i+1)=l.take i++[x]:=by
 rw [List.take_add_one,h];rfl
def Node.zero:Node:=⟨[],bO.zero,[],false⟩
def eC (name:aQ) (l:List Node):Node×Bool:=match l.find? (fun x=>decide (x.name=name)) with
 |some x=>(x,true)
 |none=>(Node.zero,false)
theorem Mn {name:aQ} {l:List Node} (h:idxOf (fun x=>decide (x.name=name)) l=-1):eC name l=(Node.zero,false):=by
 have hn:=nK h
 have:l.find? (fun x=>decide (x.name=name))=none:=by rw [List.find?_eq_none];intro x hx;rw [hn x hx];simp
 unfold eC;rw [this]
theorem DV {α:Type} {p:α→Bool}:∀{l:List α} {i:Nat} {x:α},l[i]?=some x→p x=true→(∀y∈l.take i,p y=false)→l.find? p=some x
 |[],_,_,h,_,_=>by simp at h
 |y::r,0,x,h,hp,_=>by simp at h;subst h;simp [hp]
 |y::r,i+1,x,h,hp,hb=>by
  have hy:p y=false:=hb y (by simp)
  simp only [List.getElem?_cons_succ] at h
  rw [List.find?_cons,hy]
  exact DV h hp fun z hz=>hb z (by simp [hz])
theorem Mo {name:aQ} {l:List Node} (h:idxOf (fun x=>decide (x.name=name)) l≠-1):∃(i:Nat) (x:Node),idxOf (fun x=>decide (x.name=name)) l=i∧l[i]?=some x∧eC name l=(x,true):=by
 obtain ⟨i,x,h1,h2,h3,h4⟩:=nL h
 refine ⟨i,x,h1,h2,?_⟩
 unfold eC;rw [DV h2 h3 h4]
def cI (name:aQ) (s:bO×Bool) (x:Place):bO×Bool:=if s.2&&decide (x.node=name) then dV s.1 x.v else s
def cE (name:aQ) (l:List Node) (ps:List Place):bO×Bool:=
 let s:=ps.foldl (cI name) ((eC name l).1.cap,(eC name l).2)
 if s.2 then s else (bO.zero,false)
def mQ (name:aQ) (v:bO) (l:List Node) (ps:List Place):Int:=
 if !(eC name l).2 then 7 else if !(eC name l).1.up then 12 else if !(cE name l ps).2||!kU v (cE name l ps).1 then 11 else 0
structure cC where
 nodes:List Node
 places:List Place
deriving instance DecidableEq for Place
deriving instance DecidableEq for Node
theorem UU {x y:bO}:x=y↔x.a=y.a∧x.b=y.b∧x.c=y.c∧x.d=y.d:=by cases x;cases y;simp
instance:Inhabited bO:=⟨bO.zero⟩
instance:Inhabited Node:=⟨Node.zero⟩
instance:Inhabited Place:=⟨⟨0,[],bO.zero⟩⟩
instance:Inhabited dj:=⟨⟨[],[]⟩⟩
theorem jD {α:Type} {l:List α} {k:Nat} {x:α} (h:l[k]?=some x):l.drop k=x::l.drop (k+1):=by
 obtain ⟨hk,rfl⟩:=List.getElem?_eq_some_iff.1 h
 exact List.drop_eq_getElem_cons hk
structure bT where
 node:aQ
 free:bO
 labels:List dj
def fD (l:List Node) (bK:Int) (v:bO):List aQ→List Place→Option Int×List Place
 |[],ps=>(none,ps)
 |n::r,ps=>if mQ n v l ps≠0 then (some (mQ n v l ps),ps) else fD l bK v r (ps++[⟨bK,n,v⟩])
def sZ (p:cC) (bK:Int) (names:List aQ) (v:bO):cC×Int:=
 match (fD p.nodes bK v names p.places).1 with
 |some e=>(p,e)
 |none=>(⟨p.nodes,(fD p.nodes bK v names p.places).2⟩,0)
theorem cF {α:Type} {p:α→Bool} {l:List α} {r:Int} (h:r=idxOf p l):(r=-1∧l.findIdx? p=none∧l.find? p=none)∨∃(i:Nat) (x:α),r=i∧i<l.length∧l[i]?=some x∧p x=true∧l.findIdx? p=some i∧l.find? p=some x:=by
 by_cases hn:idxOf p l=-1
 ·have hno:=nK hn
  refine .inl ⟨by rw [h,hn],?_,?_⟩
  ·rw [List.findIdx?_eq_none_iff];intro x hx;simp [hno x hx]
  rw [List.find?_eq_none];intro x hx;simp [hno x hx]
 obtain ⟨i,x,h1,h2,h3,h4⟩:=nL hn
 refine .inr ⟨i,x,by rw [h,h1],(List.getElem?_eq_some_iff.1 h2).1,h2,h3,?_,DV h2 h3 h4⟩
 unfold idxOf at h1
 split at h1
 ·rename_i k hk;rw [hk];congr 1;omega
 omega
def fj (p:cC) (name:aQ) (up:Bool):cC×Int:=
 match p.nodes.findIdx? (fun x=>decide (x.name=name)),p.nodes.find? (fun x=>decide (x.name=name)) with
 |some i,some x=>if x.up=up then (p,15) else (⟨p.nodes.set i {x with up:=up},p.places⟩,0)
 |_,_=>(p,7)
def nM (l:List Node) (ps:List Place) (n:Node):Option bT:=if (cE n.name l ps).2&&n.up then some ⟨n.name,(cE n.name l ps).1,n.labels⟩ else none
def I7 (q:Option aQ) (x:aQ):Bool:=match q with|none=>true|some q=>!sle x q
def uN (l:List Node) (ps:List Place):Option aQ→List Node→Bool
 |_,[]=>true
 |q,n::r=>(cE n.name l ps).2&&ej n.name&&sY n.labels&&I7 q n.name&&uN l ps (some n.name) r
def T2 (l:List Node) (x:Place):Bool:=!(l.any fun n=>decide (n.name=x.node))
def DW (p:cC):Bool:=uN p.nodes p.places none p.nodes&&decide (p.nodes.length≤16)&&!(p.places.any (T2 p.nodes))
def Node.sm (x:Node):Prop:=x.name.length<9223372036854775807∧x.labels.length<1000000000∧∀p∈x.labels,p.sm
def pat (l:List Node) (nm:aQ):Nat:=match l.findIdx? (fun o=>!Op.bytesLess o.name nm) with
 |some k=>k
 |none=>l.length
def qf (p:cC) (n:Node):cC×Int:=
 if !ej n.name then (p,6) else if !sY n.labels then (p,2) else if decide (0≤idxOf (fun x=>decide (x.name=n.name)) p.nodes) then (p,8) else if 16≤p.nodes.length then (p,9) else
 (⟨p.nodes.take (pat p.nodes n.name)++{n with up:=true}::p.nodes.drop (pat p.nodes n.name),p.places⟩,0)
end Dem
end
section
open Go Dem Go.Proofs
namespace Dem
abbrev bE (s:aQ):List D:=[.str s]
def gE (r:Int):AV:=bJ r
def dn (r:Bool):AV:=BL r
def Sf (r:aQ):AV:=ST r
def Xs (r:bO×Bool):AV:=.dX [V4 r.1.a r.1.b r.1.c r.1.d,BL r.2]
def Node.bF (t:Th) (x:Node):List D:=[.str x.name,.int .u64 x.cap.a,.int .u64 x.cap.b,.int .u64 x.cap.c,.int .u64 x.cap.d,.sl (t _ fun _=>x.labels.map dj.cells),.bool x.up]
def Place.bF (_:Th) (x:Place):List D:=[.int .u64 x.bK,.str x.node,.int .u64 x.v.a,.int .u64 x.v.b,.int .u64 x.v.c,.int .u64 x.v.d]
def T3 (t:Th) (x:Node):AV:=.agg [ST x.name,aD x.cap.a,aD x.cap.b,aD x.cap.c,aD x.cap.d,SL (t _ fun _=>x.labels.map dj.cells),BL x.up]
def Pm (t:Th) (r:Node×Bool):AV:=.dX [T3 t r.1,BL r.2]
def qg (t:Th) (p:cC):AV:=.agg [SL (t _ fun _=>p.nodes.map Node.cells),SL (t _ fun _=>p.places.map Place.cells)]
def m9 (t:Th) (r:cC×Int):AV:=.dX [qg t r.1,bJ r.2]
def GB (t:Th) (l:List aQ):AV:=SL (t _ fun _=>l.map bE)
def eW (_:Th) (s:aQ):List D:=[.str s]
theorem v8 {t:Th} (ht:TT t) {α:Type} {l:List α} {cells cT:α→List D} {es:List (List D)} (aG:es=l.map cells) {z:Int} {i n:Nat} {x:α} {K:List D→Prop} (hx:l[i]?=some x) (hz:z=i) (hn:∀x,(cells x).length=n) (hT:∀x,cells x=cT x)
 (hK:K (cT x)):nv true (t Prop fun _=>0≤z∧z<es.length∧∀r∈es,r.length=n) (t _ fun _=>es.getD z.toNat []) K:=by
 have hi:=(List.getElem?_eq_some_iff.1 hx).1
 refine kO ht aG (by omega) (by omega) hn hT ?_
 intro y hy
 rw [hz,Int.toNat_natCast,hx] at hy
 cases hy;exact hK
theorem T4 {α:Type} {l:List α} {cells:α→List D} {u:List (List D)} (hu:u=l.map cells) {row:List D} {sz b:Nat} (hn:∀x,(cells x).length=sz) (hr:row.length=sz) (hl:l.length<1000000000) (hb:b≤10000):
 (u.length+[row].length)*b≤140737488355328∧∀r∈u++[row],r.length=sz:=by
 refine ⟨?_,?_⟩
 ·rw [hu,lgM]
  exact Nat.le_trans (Nat.mul_le_mul (show l.length+[row].length≤1000000000 by simp;omega) hb) (by decide)
 intro r hr'
 rcases List.mem_append.1 hr' with h|h
 ·rw [hu] at h;obtain ⟨y,_,rfl⟩:=List.mem_map.1 h;exact hn y
 simp at h;subst h;exact hr
def bT.cells (x:bT):List D:=[.str x.node,.int .u64 x.free.a,.int .u64 x.free.b,.int .u64 x.free.c,.int .u64 x.free.d,.sl (x.labels.map dj.cells)]
def bT.bF (t:Th) (x:bT):List D:=[.str x.node,.int .u64 x.free.a,.int .u64 x.free.b,.int .u64 x.free.c,.int .u64 x.free.d,.sl (t _ fun _=>x.labels.map dj.cells)]
def Pn (t:Th) (l:List bT):AV:=SL (t _ fun _=>l.map bT.cells)
theorem DX {k:Nat} (h:0<k) (h2:k<9223372036854775807):IntKind.i64.wrap ((k:Int)-1)=((k-1:Nat):Int):=by rw [wrap64 (by omega) (by omega)];omega
theorem Xt {t:Th} (ht:TT t) {α:Type} [Inhabited α] {l:List α} {cells cT:α→List D} {es:List (List D)} (aG:es=l.map cells) {g:Bool} {G:Prop} {z:Int} (i:Nat) {n:Nat} {K:List D→Prop} (hg:g=true→G) (hi:g=true→z=i∧i<l.length) (hn:∀x,(cells x).length=n) (hT:∀x,cells x=cT x)
 (hK:∀x,(g=true→l[i]?=some x)→K (cT x)):nv g (G∧t Prop fun _=>0≤z∧z<es.length∧∀r∈es,r.length=n) (t _ fun _=>es.getD z.toNat []) K:=by
 cases VY:g with
 |true=>
  subst VY
  obtain ⟨h1,h2⟩:=hi rfl
  refine Se (cT l[i]) (fun _=>⟨⟨hg rfl,?_⟩,?_⟩) (hK _ (fun _=>List.getElem?_eq_getElem h2))
  ·simp only [ht];refine ⟨by omega,by rw [aG,lgM];omega,?_⟩
   rw [aG];intro r hr;obtain ⟨y,_,rfl⟩:=List.mem_map.1 hr;exact hn y
  simp only [ht];rw [h1,aG,←hT];simp [h2]
 |false=>
  subst VY
  exact Se (cT default) (fun h=>Bool.noConfusion h) (hK default (fun h=>Bool.noConfusion h))
theorem oH {P:Program} {G:Nat→Option (List D)} {f:Nat} {args args':List AV} {bx aZ:List aB} {res:jN} (h:∀β w ok vs,an β bx w ok args vs→an β bx w ok args' vs) (hc:bH P G f args' bx res aZ):bH P G f args bx res aZ:=
 fun β w vs X cx hx=>hc β w vs X cx (h _ _ _ _ hx)
theorem K9 {β:Nat→Nat} {bx:List aB} {w:World} {ok:Nat→Prop} {es:List (List D)} {u:Value} (h:ak β bx w ok (.cl es) u):ak β bx w ok (.d (.sl es)) u:=by
 simp only [ak,aS] at h ⊢
 obtain ⟨base,h1,h2⟩:=h
 exact ⟨base,_,h1,Nat.le_refl _,h2⟩
abbrev small:Nat:=9223372036854775807
end Dem
end
section
open Go
namespace Dem
end Dem
namespace Dem
theorem oI (x:Int):IntKind.u64.wrap x=x%18446744073709551616:=by simp [IntKind.wrap,IntKind.signed,IntKind.bits]
theorem lA {x:Int} (h0:-9223372036854775808≤x) (h1:x<9223372036854775808):IntKind.i64.wrap x=x:=by
 simp [IntKind.wrap,IntKind.signed,IntKind.bits];omega
end Dem
namespace Dem
end Dem
namespace Dem
end Dem
namespace Dem
end Dem
end
section
open Go
namespace Dem
structure Term where
 key:aQ
 no:Bool
 mD:List aQ
deriving DecidableEq
instance:Inhabited Term:=⟨⟨[],false,[]⟩⟩
def Term.cells (x:Term):List D:=[.str x.key,.bool x.no,.sl (x.mD.map bE)]
def xJ:Option aQ→List aQ→Bool
 |_,[]=>true
 |q,v::r=>ej v&&I7 q v&&xJ (some v) r
def mright (x:Term):Bool:=if xJ none x.mD then ej x.key&&decide (x.mD.length≤4) else false
def An (l:List Term):Bool:=if l.length≤4 then !(l.any fun x=>!mright x) else false
def GC (l:List dj) (k:aQ):aQ×Bool:=match l.find? (fun x=>decide (x.key=k)) with
 |some x=>(x.value,true)
 |none=>([],false)
def kP (x:Term) (l:List dj):Bool:=
 (if (GC l x.key).2 then (if x.mD.length=0 then true else x.mD.contains (GC l x.key).1) else false)!=x.no
def ng (x:List Term) (l:List dj):Bool:=!(x.any fun m=>!kP m l)
end Dem
end
