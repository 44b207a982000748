/- Parts of a proof, joined. -/
import Derived.Test.YtihohjnkkalgiaaGreatDoorM12
import Derived.Test.YtihohjnkkalgiaaGreatDoorProg
import Derived.KernelRfl
import Derived.Defers
import Derived.Test.YtihohjnkkalgiaaGreatDoorRows
import Derived.ProofKit
import Derived.LaidMore
import Derived.OpenShut
import Derived.Carry
import Derived.Stop.Joined
import Derived.Lib.RuneCount
set_option linter.all false
set_option maxRecDepth 100000
set_option maxHeartbeats 4000000
section
open Go
namespace Dem
theorem aD {s:St} {P:St→Prop} (h:P s):LoopIn (some s) P:=⟨h⟩
def XZ (bx:List az):List (Nat×az)→List az
 |[]=>bx
 |(i,b)::r=>XZ (bx.set i b) r
def X1 (sl:List (Nat×AV)):List (Nat×AV)→List (Nat×AV)
 |[]=>sl
 |(i,v)::r=>X1 (put i v sl) r
def MZ (s:St) (u:List (Nat×AV)) (b:List (Nat×az)):St:=⟨X1 s.sl u,XZ s.bx b⟩
theorem bF {K:Nat} {A:(Ex→St→Prop)→St→Prop} {Q:Ex→St→Prop} {s:St} (nf:Nf) {σ:Type} (U:σ→List (Nat×AV)) (V:σ→List (Nat×az)) (J:Nat→σ→Prop)
 (h:LoopIn (yc K nf s) fun s0=>∃n0 v0,J n0 v0∧s0=MZ s0 (U v0) (V v0)∧
  ∀n v,J n v→A (fun e s2=>uC (fun s2=>LoopIn (yc K nf s2) (fun s3=>∃m v',(m<n∧J m v')∧s3=MZ s0 (U v') (V v'))) Q e s2) (MZ s0 (U v) (V v))):UT K A Q s:=by
 obtain ⟨h⟩:=h
 split at h
 ·rename_i s0 hn
  obtain ⟨n0,v0,hJ,hs,hr⟩:=h
  refine ⟨nf,fun n s1=>∃v,J n v∧s1=MZ s0 (U v) (V v),n0,⟨?_⟩,?_⟩
  ·rw [hn];exact ⟨v0,hJ,hs⟩
  rintro n s1 ⟨v,hv,rfl⟩
  have e:(fun e s2=>uC (fun s2=>LoopIn (yc K nf s2) (fun s3=>∃m v',(m<n∧J m v')∧s3=MZ s0 (U v') (V v'))) Q e s2)=
   (fun e s2=>uC (fun s2=>LoopIn (yc K nf s2) (fun s3=>∃m,m<n∧∃v,J m v∧s3=MZ s0 (U v) (V v))) Q e s2):=by
   funext e s2
   congr 1
   funext s2
   congr 1
   funext s3
   apply propext
   constructor
   ·rintro ⟨m,v',⟨h1,h2⟩,h3⟩;exact ⟨m,h1,v',h2,h3⟩
   rintro ⟨m,h1,v',h2,h3⟩;exact ⟨m,v',⟨h1,h2⟩,h3⟩
  rw [←e];exact hr n v hv
 exact h.elim
theorem an {p:Bool} {A B:Unit→Prop} (h1:p=true→A ()) (h2:p=false→B ()):vX (.d (.bool p)) A B:=.mk (And.intro h1 h2)
theorem kM {p:Bool} {A B:Unit→Prop} (hp:p=true) (h1:A ()):vX (.d (.bool p)) A B:=.mk (And.intro (fun _=>h1) (fun h=>by rw [hp] at h;cases h))
theorem nR {p:Bool} {A B:Unit→Prop} (hp:p=false) (h1:B ()):vX (.d (.bool p)) A B:=.mk (And.intro (fun h=>by rw [hp] at h;cases h) (fun _=>h1))
theorem ic {g:Bool} {c:Prop} {ds:List D} {K:List D→Prop} (ds':List D) (hc:c) (hd:ds=ds') (hK:K ds'):mP g c ds K:=⟨ds',fun _=>⟨hc,hd⟩,hK⟩
theorem S5 {g:Bool} {c:Prop} {ds:List D} {K:List D→Prop} (ds':List D) (hc:c) (hd:ds=ds') (hK:K ds'):AF g c ds K:=⟨ds',fun _=>⟨hc,hd⟩,hK⟩
theorem P6 {g:Bool} {c:Prop} {ds:List D} {K:List D→Prop} (ds':List D) (h:g=true→c∧ds=ds') (hK:K ds'):mP g c ds K:=⟨ds',h,hK⟩
theorem VI {g:Bool} {c:Prop} {ds:List D} {K:List D→Prop} (ds':List D) (h:g=true→c∧ds=ds') (hK:K ds'):AF g c ds K:=⟨ds',h,hK⟩
theorem bL {c:Prop} {v:AV} {bx:List az} {K:AV→List az→Prop} (v':AV) (aR:List az) (hc:c) (hv:v=v') (hb:bx=aR) (hK:K v' aR):PN c v bx K:=⟨v',aR,hc,hv,hb,hK⟩
theorem ie {g:Bool} {c:Prop} {v:AV} {K:AV→Prop} (v':AV) (h:g=true→c∧v=v') (hK:K v'):UM g c v K:=⟨v',h,hK⟩
theorem gI {g:Bool} {p K:Prop} (h:g=true→p) (k:K):wC g p∧K:=⟨⟨h⟩,k⟩
theorem pI {p:Bool} {a b K:Prop} (h:(p=true→a)∧(p=false→b)) (k:K):LL p a b∧K:=⟨⟨h⟩,k⟩
section
variable {P:Program} {G:Nat→Option (List D)} {FC:Nat→List AV→List az→iR→List az→Prop} {kQ:Prop} {f:Nat} {args args':List AV} {c:Prop} {bx qn qo:List az} {v:AV} {K Kp:AV→List az→Prop}
theorem fU (ho:kQ) (h:FC f args' [] (.ret v) []) (hc:c) (hs:AV.shut.mN args'=true) (hf:v.flat=true) (hK:K v bx):pY FC kQ f args (some (c,args')) bx K Kp:=
 ⟨ho,.inl ⟨c,args',rfl,hc,hs,.inl ⟨v,h,.inl hf,hK⟩⟩⟩
theorem GL (ho:kQ) (h:FC f args' [] (.ret v) []) (hc:c) (hs:AV.shut.mN args'=true) (hz:eX [] args=some args') (hv:v.shut=true) (hK:K v bx):pY FC kQ f args (some (c,args')) bx K Kp:=
 ⟨ho,.inl ⟨c,args',rfl,hc,hs,.inl ⟨v,h,.inr ⟨hz,hv⟩,hK⟩⟩⟩
theorem jV {sz n:Nat} {es:List (List D)} (ho:kQ) (h:FC f args' [] (.ret (.ow 0 sz n)) [.row sz es]) (hc:c) (hs:AV.shut.mN args'=true) (hz:(∀r∈es,∀x∈r,x.flat=true)∨eX [] args=some args') (hK:K (.ow bx.length sz n) (bx++[.row sz es])):pY FC kQ f args (some (c,args')) bx K Kp:=
 ⟨ho,.inl ⟨c,args',rfl,hc,hs,.inr ⟨sz,n,es,h,hz,hK⟩⟩⟩
theorem UW {fz:Option (Prop×List AV)} (ho:kQ) (hfz:fz=some (c,args')) (hc:c) (h:FC f args' (fw bx args) (.ret v) qo) (hK:K v qo):pY FC kQ f args fz bx K Kp:=
 ⟨ho,.inr ⟨args',fw bx args,.ret v,qo,.inr ⟨⟨c,hfz,hc⟩,rfl⟩,h,hK⟩⟩
theorem dw {fz:Option (Prop×List AV)} (ho:kQ) (h:FC f args bx (.ret v) qo) (hK:K v qo):pY FC kQ f args fz bx K Kp:=
 ⟨ho,.inr ⟨args,bx,.ret v,qo,.inl ⟨rfl,rfl⟩,h,hK⟩⟩
theorem GM {dr g:Bool} {v:AV} {K:AV→Prop} (h:g=true→kQ∧c∧FC f args' [] (.ret v) []) (hs:AV.bP.c5 [] args'=true) (hf:v.flat=true) (hK:K v):oT FC dr g kQ f args bx (some (c,args')) K:=
 ⟨.inr ⟨v,fun hg=>⟨(h hg).1,args',[],⟨c,rfl,(h hg).2.1⟩,hs,⟨false,rfl,fun h=>by cases h⟩,by simp,(h hg).2.2,.inl hf⟩,hK⟩⟩
theorem nv {dr g:Bool} {v:AV} {K:AV→Prop} (h:g=true→kQ∧c∧FC f args' [] (.ret v) []) (hs:AV.bP.c5 [] args'=true) (hz:eX [] args=some args') (hf:v.shut=true) (hK:K v):oT FC dr g kQ f args bx (some (c,args')) K:=
 ⟨.inr ⟨v,fun hg=>⟨(h hg).1,args',[],⟨c,rfl,(h hg).2.1⟩,hs,⟨false,rfl,fun h=>by cases h⟩,by simp,(h hg).2.2,.inr ⟨hz,hf⟩⟩,hK⟩⟩
theorem VJ {P:Program} {G:Nat→Option (List D)} {dr g:Bool} {v:AV} {K:AV→Prop} {jU:List AV} {aF:List az} (ks:List Bool) (bY:List Nat) (ho:g=true→kQ∧c∧bC P G f jU aF (.ret v) aF)
 (hn:AV.bP.c5 (kill ks bx) args'=true) (hl:dP false (kill ks bx) (kill ks bx)=true) (hv:v.flat=true∨eX [] args=some args'∧v.shut=true)
 (ha:AV.vj (fun b=>dK b bY 0) args'=some jU) (hb:fJ (fun b=>dK b bY 0) (kill ks bx) bY=some aF) (hb':AK bY (kill ks bx) aF=some (kill ks bx)) (hr:iR.iy (jS bY (kill ks bx).length) (.ret v)=some (.ret v))
 (hK:K v):oT (bC P G) dr g kQ f args bx (some (c,args')) K:=by
 refine ⟨.inr ⟨v,fun hg=>⟨(ho hg).1,args',kill ks bx,⟨c,rfl,(ho hg).2.1⟩,hn,⟨false,hl,fun h=>by cases h⟩,?_,de bY ha hb hr hb' (ho hg).2.2,hv⟩,hK⟩⟩
 intro i b hi dF
 obtain ⟨b0,h1,h2⟩:=kI ks bx i b hi
 rcases h2 with rfl|⟨rfl,h3⟩
 ·exact ⟨_,h1,dF,fun _=>rfl⟩
 exact ⟨b0,h1,h3,fun h=>by simp [az.live] at h⟩
theorem GN {x sz n:Nat} {es:List (List D)} {at_:Option az} {K:AV→az→Prop} (ho:kQ) (h:FC f args' [] (.ret (.ow 0 sz n)) [.row sz es]) (hc:c) (hs:AV.shut.mN args'=true) (hz:(∀r∈es,∀x∈r,x.flat=true)∨eX [] args=some args') (hat:at_=some .bB)
 (hK:K (.ow x sz n) (.row sz es)):UN FC kQ f args (some (c,args')) at_ x K:=⟨args',sz,n,es,ho,⟨c,rfl,hc⟩,hs,h,hz,hat,hK⟩
structure P7 (r:Option iR) (b:Option (List az)) (K:AV→List az→Prop):Prop where
 ok:match r,b with
  |some (.ret v),some bx=>K v bx
  |_,_=>False
theorem cz {v:AV} {bx:List az} {K:AV→List az→Prop} (h:K v bx):P7 (some (.ret v)) (some bx) K:=⟨h⟩
theorem dx {fz:Option (Prop×List AV)} (bY:List Nat) {jU:List AV} {aF vp:List az} {v0:AV} (ho:kQ)
 (ha:AV.vj (fun b=>dK b bY 0) args=some jU) (hb:fJ (fun b=>dK b bY 0) bx bY=some aF) (h:bC P G f jU aF (.ret v0) vp)
 (hK:P7 (iR.iy (jS bY bx.length) (.ret v0)) (AK bY bx vp) K):pY (bC P G) kQ f args fz bx K Kp:=by
 obtain ⟨hK⟩:=hK
 split at hK
 ·rename_i v aR hr hb'
  exact dw ho (de bY ha hb hr hb' h) hK
 exact hK.elim
end
section
variable {n:Nat} {c d:Prop} {v u:AV} {bx aR:List az} {res:iR} {fz:Option (Prop×AV)}
theorem av (hc:c) (hd:d) (hw:u.within n=true) (hb:aR=(uE bx v).take n) (VL:cu n aR=true) (hr:res=.ret u):GK n c v bx (some (d,u)) res aR:=
 ⟨hc,.inr (.inl ⟨[],d,u,rfl,hd,hw,hb,VL,hr⟩)⟩
theorem yX (ks:List Bool) (hc:c) (hd:d) (hw:u.within n=true) (hb:aR=(kill ks (uE bx v)).take n) (VL:cu n aR=true) (hr:res=.ret u):GK n c v bx (some (d,u)) res aR:=
 ⟨hc,.inr (.inl ⟨ks,d,u,rfl,hd,hw,hb,VL,hr⟩)⟩
theorem JE (hc:c) (hb:aR=bx) (hr:res=.ret v):GK n c v bx fz res aR:=⟨hc,.inl ⟨hr,hb⟩⟩
theorem Cp {k sz m:Nat} {es:List (List D)} (hc:c) (hk:bx[k]?=some (.row sz es)) (h1:Nat.ble n k=true) (h2:Nat.ble n bx.length=true) (VL:cu n (bx.take n)=true) (hr:res=.ret (.ow n sz m)) (hb:aR=bx.take n++[.row sz es]):GK n c (.ow k sz m) bx fz res aR:=
 ⟨hc,.inr (.inr (.inl ⟨k,sz,m,es,rfl,hk,Nat.le_of_ble_eq_true h1,Nat.le_of_ble_eq_true h2,VL,hr,hb⟩))⟩
theorem GO {sz:Nat} (hc:c) (h2:Nat.ble n bx.length=true) (VL:cu n (bx.take n)=true) (hr:res=.ret (.ow n sz 0)) (hb:aR=bx.take n++[.row sz []]):GK n c (.cl []) bx fz res aR:=
 ⟨hc,.inr (.inr (.inr ⟨sz,rfl,Nat.le_of_ble_eq_true h2,VL,hr,hb⟩))⟩
end
theorem dX {P:Program} {G:Nat→Option (List D)} {f b sz n:Nat} {args:List AV} {bx aR:List az} {res:iR}
 (h:∀c,n≤c→(n=0→c=0)→bC P G f (.vw b sz 0 n c true::args) bx res aR):bC P G f (.ow b sz n::args) bx res aR:=by
 intro β w vs X cx hx
 simp only [ak] at hx
 obtain ⟨u,us,rfl,hx,hxs⟩:=hx
 simp only [aj] at hx
 obtain ⟨hb,⟨rfl,base,rfl⟩|⟨h0,cap,c,e,f',rfl,h1,h2,h3⟩⟩:=hx
 ·refine h 0 (Nat.le_refl _) (fun _=>rfl) β w _ X cx ?_
  simp only [ak,aj]
  exact ⟨_,us,rfl,⟨hb,base,0,#[],0,(0,0),rfl,Nat.le_refl _,Nat.le_refl _,fun _=>rfl,.inl rfl⟩,hxs⟩
 refine h cap h1 (fun h=>absurd h h0) β w _ X cx ?_
 simp only [ak,aj]
 exact ⟨_,us,rfl,⟨hb,_,cap,c,e,f',rfl,h1,Nat.le_refl _,fun _=>rfl,.inr ⟨by simp,h2,by simpa using h3⟩⟩,hxs⟩
theorem wrap64 {x:Int} (h0:-9223372036854775808≤x) (h1:x<9223372036854775808):IntKind.i64.wrap x=x:=by
 simp [IntKind.wrap,IntKind.signed,IntKind.bits];omega
end Dem
end
section
open Go
namespace Dem
def qU:AV:=.d (.int .u64 0)
def qI:AV:=.d (.int .i64 0)
def qS:AV:=.d (.str [])
def qF:AV:=.d (.bool false)
def qY:AV:=.d (.int .u8 0)
def qC:AV:=.cl []
def qd:Option TI:=some ⟨1,8,.other,.k .nilFunc,true,none⟩
def wF:Option TI:=some ⟨1,0,.other,.any,true,none⟩
def UX:Option TI:=some ⟨1,8,.other,.k .oC,true,none⟩
def X2:Option TI:=some ⟨1,16,.iface,.k .nilIface,true,none⟩
def Zu:Option TI:=some ⟨1,8,.int .i64,qI,true,none⟩
def Zv:Option TI:=some ⟨1,1,.int .u8,qY,true,none⟩
def Zw:Option TI:=some ⟨1,8,.int .u64,qU,true,none⟩
def wT7:Option TI:=some ⟨1,16,.str,qS,true,none⟩
def wT8:Option TI:=some ⟨1,4,.int .i32,.d (.int .i32 0),true,none⟩
def wT9:Option TI:=some ⟨5,5,.struct [(0,5),(1,5),(2,5),(3,5),(4,5)],.agg [qY,qY,qY,qY,qY],true,none⟩
def X3:Option TI:=some ⟨4,24,.struct [(0,2),(1,3),(2,4),(3,6)],.agg [qI,qI,qF,qY],true,none⟩
def X4:Option TI:=some ⟨2,24,.struct [(0,9),(1,12)],.agg [qS,qU],false,none⟩
def X5:Option TI:=some ⟨1,8,.struct [(0,17)],.agg [.k .oC],false,none⟩
def X6:Option TI:=some ⟨2,48,.struct [(0,25),(1,26)],.agg [qC,qC],true,none⟩
def X7:Option TI:=some ⟨1,24,.slice 139,qC,true,none⟩
def X8:Option TI:=some ⟨2,32,.struct [(0,24),(1,32)],.agg [qU,qC],true,none⟩
def X9:Option TI:=some ⟨11,200,.struct [(0,24),(1,24),(2,28),(4,29),(5,30),(6,31),(7,34),(9,34)],.agg [qU,qU,qC,qC,qC,qC,qC,qU,qC,qU,qC],true,none⟩
def Ya:Option TI:=some ⟨4,32,.array 4 24,.agg [qU,qU,qU,qU],true,none⟩
def Yb:Option TI:=some ⟨9,96,.struct [(0,9),(1,40),(5,3),(6,3),(7,3),(8,41)],.agg [qS,qU,qU,qU,qU,qI,qI,qI,qC],true,none⟩
def Yc:Option TI:=some ⟨12,120,.struct [(0,24),(1,43),(10,4),(11,3)],.agg [qU,qS,qU,qU,qU,qU,qI,qI,qI,qC,qF,qI],true,none⟩
def Yd:Option TI:=some ⟨2,16,.struct [(0,24),(1,3)],.agg [qU,qI],true,none⟩
def Ye:Option TI:=some ⟨7,80,.struct [(0,9),(1,40),(5,73),(6,4)],.agg [qS,qU,qU,qU,qU,qC,qF],true,none⟩
def Yf:Option TI:=some ⟨12,208,.struct [(0,36),(11,3)],.agg [qU,qU,qC,qC,qC,qC,qC,qU,qC,qU,qC,qI],true,none⟩
def Yg:Option TI:=some ⟨6,56,.struct [(0,24),(1,9),(2,40)],.agg [qU,qS,qU,qU,qU,qU],true,none⟩
def Yh:Option TI:=some ⟨11,200,.struct [(0,36)],.agg [qU,qU,qC,qC,qC,qC,qC,qU,qC,qU,qC],true,none⟩
def Yi:Option TI:=some ⟨9,80,.struct [(0,9),(1,40),(5,40)],.agg [qS,qU,qU,qU,qU,qU,qU,qU,qU],true,none⟩
def Yj:Option TI:=some ⟨2,32,.struct [(0,9),(1,9)],.agg [qS,qS],true,none⟩
def Yk:Option TI:=some ⟨4,32,.struct [(0,40)],.agg [qU,qU,qU,qU],true,none⟩
def Yl:Option TI:=some ⟨3,24,.struct [(0,24),(1,24),(2,3)],.agg [qU,qU,qI],true,none⟩
def Ym:Option TI:=some ⟨1,8,.struct [(0,188)],.agg [.k .nilFunc],true,none⟩
def Yn:Option TI:=some ⟨6,72,.struct [(0,9),(1,40),(5,73)],.agg [qS,qU,qU,qU,qU,qC],true,none⟩
def Yo:Option TI:=some ⟨2,8,.struct [(0,21),(1,21)],.agg [.d (.int .i32 0),.d (.int .i32 0)],true,none⟩
def Yp:Option TI:=some ⟨2,32,.struct [(0,274),(1,275)],.agg [.k .oC,qC],true,none⟩
def Yq:Option TI:=some ⟨2,2,.struct [(0,5),(1,5)],.agg [qY,qY],true,none⟩
def Yr:Option TI:=some ⟨4,40,.struct [(0,17),(1,17),(2,17),(3,9)],.agg [.k .oC,.k .oC,.k .oC,qS],false,none⟩
def Ys:Option TI:=some ⟨0,0,.struct [(0,327)],.agg [],false,none⟩
def Yt:Option TI:=some ⟨11,48,.struct [(0,12),(1,12),(2,297),(3,330),(4,5),(5,5),(6,331),(7,332),(8,299),(9,333),(10,334)],.agg [qU,qU,.d (.int .u32 0),qY,qY,qY,qY,.k .nilFunc,.k .oC,.d (.int .i32 0),.d (.int .i32 0)],false,none⟩
def aal (t:Nat):Option TI:=(if t<9 then (if t<5 then if t=0 then wF else if t=2 then Zu else if t=3 then Zu else if t=4 then some ⟨1,1,.bool,qF,true,none⟩ else qd else if t=5 then Zv else if t=6 then Zv else if t=7 then X3 else if t=8 then X3 else qd) else (if t<13 then if t=9 then wT7 else if t=10 then wT7 else if t=11 then wT7 else if t=12 then Zw else qd else if t=13 then X4 else if t=14 then X4 else if t=15 then UX else if t=16 then UX else qd))
def aam (t:Nat):Option TI:=(if t<26 then (if t<21 then if t=17 then UX else if t=18 then X5 else if t=19 then X5 else if t=20 then X2 else qd else if t=21 then wT8 else if t=22 then some ⟨1,24,.slice 85,qC,true,none⟩ else if t=24 then Zw else if t=25 then some ⟨1,24,.slice 75,qC,true,none⟩ else qd) else (if t<30 then if t=26 then some ⟨1,24,.slice 118,qC,true,none⟩ else if t=27 then X6 else if t=28 then X6 else if t=29 then X7 else qd else if t=30 then some ⟨1,24,.slice 45,qC,true,none⟩ else if t=31 then some ⟨1,24,.slice 69,qC,true,none⟩ else if t=32 then some ⟨1,24,.slice 170,qC,true,none⟩ else if t=33 then X8 else qd))
def aan (t:Nat):Option TI:=(if t<44 then (if t<40 then if t=34 then X8 else if t=35 then X9 else if t=36 then X9 else if t=39 then Ya else qd else if t=40 then Ya else if t=41 then some ⟨1,24,.slice 122,qC,true,none⟩ else if t=42 then Yb else if t=43 then Yb else qd) else (if t<51 then if t=44 then Yc else if t=45 then Yc else if t=46 then wF else if t=48 then some ⟨1,24,.slice 24,qC,true,none⟩ else qd else if t=51 then some ⟨1,24,.slice 9,qC,true,none⟩ else if t=52 then wF else if t=54 then wF else if t=60 then Zu else qd))
def aao (t:Nat):Option TI:=(if t<76 then (if t<69 then if t=61 then wF else if t=63 then some ⟨1,24,.slice 109,qC,true,none⟩ else if t=66 then wF else if t=68 then Yd else qd else if t=69 then Yd else if t=73 then some ⟨1,24,.slice 147,qC,true,none⟩ else if t=74 then Ye else if t=75 then Ye else qd) else (if t<105 then if t=76 then wF else if t=84 then wT9 else if t=85 then wT9 else if t=99 then wF else qd else if t=105 then wF else if t=109 then wT9 else if t=112 then Yf else if t=113 then Yf else qd))
def aap (t:Nat):Option TI:=(if t<131 then (if t<122 then if t=116 then wF else if t=117 then Yg else if t=118 then Yg else if t=121 then some ⟨3,48,.struct [(0,9),(1,4),(2,51)],.agg [qS,qF,qC],true,none⟩ else qd else if t=122 then some ⟨3,48,.struct [(0,9),(1,4),(2,51)],.agg [qS,qF,qC],true,some ("demesne/sel.holds",76)⟩ else if t=125 then wF else if t=127 then wF else if t=130 then Yh else qd) else (if t<144 then if t=131 then Yh else if t=138 then Yi else if t=139 then Yi else if t=141 then wF else qd else if t=144 then wF else if t=146 then Yj else if t=147 then Yj else if t=151 then some ⟨1,24,.slice 209,qC,true,none⟩ else qd))
def aaq (t:Nat):Option TI:=(if t<176 then (if t<164 then if t=153 then wF else if t=157 then some ⟨1,24,.slice 3,qC,true,none⟩ else if t=160 then X7 else if t=163 then Yk else qd else if t=164 then Yk else if t=169 then Yl else if t=170 then Yl else if t=174 then wF else qd) else (if t<199 then if t=176 then X2 else if t=177 then X2 else if t=192 then some ⟨1,8,.map 24 3,.k .DO,true,none⟩ else if t=198 then Ym else qd else if t=199 then Ym else if t=206 then wF else if t=208 then Yn else if t=209 then Yn else qd))
def aar (t:Nat):Option TI:=(if t<236 then (if t<230 then if t=220 then wF else if t=226 then some ⟨0,0,.struct [],.agg [],true,none⟩ else if t=227 then some ⟨0,0,.struct [],.agg [],true,some ("demesne/sel.holds",290)⟩ else if t=228 then some ⟨1,24,.slice 9,qC,true,some ("demesne/sel.holds",291)⟩ else qd else if t=230 then wF else if t=233 then some ⟨1,24,.slice 235,qC,true,none⟩ else if t=234 then Yo else if t=235 then Yo else qd) else (if t<259 then if t=236 then some ⟨6,24,.array 3 235,.agg [.d (.int .i32 0),.d (.int .i32 0),.d (.int .i32 0),.d (.int .i32 0),.d (.int .i32 0),.d (.int .i32 0)],true,none⟩ else if t=237 then some ⟨4,16,.array 2 235,.agg [.d (.int .i32 0),.d (.int .i32 0),.d (.int .i32 0),.d (.int .i32 0)],true,none⟩ else if t=242 then wF else if t=256 then Zw else qd else if t=259 then wF else if t=274 then UX else if t=275 then some ⟨1,24,.slice 5,qC,true,none⟩ else if t=276 then Yp else qd))
def aas (t:Nat):Option TI:=(if t<299 then (if t<288 then if t=277 then Yp else if t=279 then X2 else if t=280 then X2 else if t=281 then wF else qd else if t=288 then Zu else if t=289 then wF else if t=294 then wF else if t=297 then some ⟨1,4,.int .u32,.d (.int .u32 0),true,none⟩ else qd) else (if t<312 then if t=299 then UX else if t=300 then Zw else if t=304 then UX else if t=309 then UX else qd else if t=312 then UX else if t=313 then wF else if t=315 then wF else if t=319 then some ⟨256,256,.array 256 5,.agg [qY,qY,qY,qY,qY,qY,qY,qY,qY,qY,qY,qY,qY,qY,qY,qY,qY,qY,qY,qY,qY,qY,qY,qY,qY,qY,qY,qY,qY,qY,qY,qY,qY,qY,qY,qY,qY,qY,qY,qY,qY,qY,qY,qY,qY,qY,qY,qY,qY,qY,qY,qY,qY,qY,qY,qY,qY,qY,qY,qY,qY,qY,qY,qY,qY,qY,qY,qY,qY,qY,qY,qY,qY,qY,qY,qY,qY,qY,qY,qY,qY,qY,qY,qY,qY,qY,qY,qY,qY,qY,qY,qY,qY,qY,qY,qY,qY,qY,qY,qY,qY,qY,qY,qY,qY,qY,qY,qY,qY,qY,qY,qY,qY,qY,qY,qY,qY,qY,qY,qY,qY,qY,qY,qY,qY,qY,qY,qY,qY,qY,qY,qY,qY,qY,qY,qY,qY,qY,qY,qY,qY,qY,qY,qY,qY,qY,qY,qY,qY,qY,qY,qY,qY,qY,qY,qY,qY,qY,qY,qY,qY,qY,qY,qY,qY,qY,qY,qY,qY,qY,qY,qY,qY,qY,qY,qY,qY,qY,qY,qY,qY,qY,qY,qY,qY,qY,qY,qY,qY,qY,qY,qY,qY,qY,qY,qY,qY,qY,qY,qY,qY,qY,qY,qY,qY,qY,qY,qY,qY,qY,qY,qY,qY,qY,qY,qY,qY,qY,qY,qY,qY,qY,qY,qY,qY,qY,qY,qY,qY,qY,qY,qY,qY,qY,qY,qY,qY,qY,qY,qY,qY,qY,qY,qY,qY,qY,qY,qY,qY,qY,qY,qY,qY,qY,qY,qY],true,none⟩ else qd))
def aat (t:Nat):Option TI:=(if t<328 then (if t<323 then if t=320 then Yq else if t=321 then Yq else if t=322 then some ⟨32,32,.array 16 321,.agg [qY,qY,qY,qY,qY,qY,qY,qY,qY,qY,qY,qY,qY,qY,qY,qY,qY,qY,qY,qY,qY,qY,qY,qY,qY,qY,qY,qY,qY,qY,qY,qY],true,none⟩ else qd else if t=323 then wF else if t=325 then Yr else if t=326 then Yr else if t=327 then some ⟨0,0,.array 0 16,.agg [],true,none⟩ else qd) else (if t<333 then if t=328 then Ys else if t=329 then Ys else if t=330 then Zv else if t=331 then Zv else qd else if t=333 then wT8 else if t=334 then wT8 else if t=335 then Yt else if t=336 then Yt else qd))
def tb (t:Nat):Option TI:=(if t<116 then (if t<34 then (if t<17 then aal t else aam t) else (if t<61 then aan t else aao t)) else (if t<220 then (if t<153 then aap t else aaq t) else (if t<277 then aar t else (if t<320 then aas t else aat t))))
def tT (t:Nat):Option TI:=if t<339 then tb t else none
theorem Yu:(List.range 339).map (qb Go.Proofs.Tryz.prog)=(List.range 339).map tb:=by kernel_rfl
def P8:Bool:=(List.range 339).all fun t=>match tb t with
 |some ti=>match ti.kd with
  |.struct fs=>fs.all fun f=>(tT f.2).isSome
  |_=>true
 |none=>true
theorem GP:P8=true:=by kernel_rfl
theorem P9:kw Go.Proofs.Tryz.prog tT:=by
 refine ⟨?_,?_,?_⟩
 ·intro t ti h
  unfold tT at h
  split at h
  ·rename_i ht'
   have e:=congrArg (fun l=>l[t]?) Yu
   simp only [List.getElem?_map,List.getElem?_range ht',Option.map_some,osI] at e
   rw [e,h]
  cases h
 ·intro t ti fs h hk f hf
  unfold tT at h
  split at h
  ·rename_i ht'
   have hall:=List.all_eq_true.1 GP t (by simp [ht'])
   simp only [h,hk] at hall
   have:=List.all_eq_true.1 hall f hf
   exact Option.isSome_iff_exists.1 this
  cases h
 exact Nat.le_of_ble_eq_true (by kernel_rfl)
def gl (g:Nat):Option (List D):=
 bif Nat.beq g 0 then some [.int .i32 97,.int .i32 122,.int .i32 945,.int .i32 969,.int .i32 1072,.int .i32 1103] else
 bif Nat.beq g 1 then some [.int .i32 48,.int .i32 57,.int .i32 45,.int .i32 45] else none
def FC:Nat→List AV→List az→iR→List az→Prop:=bC Go.Proofs.Tryz.prog gl
theorem wG:qD Go.Proofs.Tryz.prog tT gl:=SK P9 (by kernel_rfl)
theorem GQ (tS tR:TypeId) (a:Addr) (ba:Option Addr) (la ca lb cb:Nat):∃(m:String) (ch:Sem Nat),
 Extern.SlicesOverlaps.overlaps #[tS,tS] #[tR] #[.slice (some a) la ca,.slice ba lb cb]=(do
 let .slice elem ←underlying tS|stuck m
 let size ←Go.sizeOf elem
 match ba with
 |some b=>
  if la=0∨lb=0∨size=0 then pure (Value.bool false)
  else if a.block !=b.block&&(←frozen a)&&(←frozen b) then unsupported .addressObserved
  else do
   if a.block !=b.block then do
    noView a;noView b
    if ←mayBeOne a b then return Value.bool ((←ch)==1)
   pure (Value.bool (a.block==b.block&&a.off<b.off+lb*size&&b.off<a.off+la*size))
 |none=>pure (Value.bool false)):=by
 apply Exists.intro
 apply Exists.intro
 cases ba with
 |some b=>rfl
 |none=>rfl
theorem wH {P:Program} (w:World) (tS tR e:TypeId) (ht:P.underlying tS=some (.slice e)) {size:Nat} (hz:∀w,(Go.sizeOf e).run P w=.ok size w)
 (a:Addr) (ba:Option Addr) (la ca lb cb:Nat) {tA:TypeId} {kA:Nat} (Yv:w.shape? a.block=some (tA,kA)) (hkA:kA≠0)
 (hb:lb=0∨∃b c e',ba=some b∧b.spot=none∧a.block≠b.block∧w.heap[b.block]?=some (.cells c e' (0,0))):
 (Extern.SlicesOverlaps.overlaps #[tS,tS] #[tR] #[.slice (some a) la ca,.slice ba lb cb]).run P w=.ok (.bool false) w:=by
 have kR:(underlying tS).run P w=.ok (.slice e) w:=aV ht
 obtain ⟨m,ch,e⟩:=GQ tS tR a ba la ca lb cb
 rw [e]
 clear e
 cases ba with
 |none=>simp [kR,hz]
 |some b=>
 by_cases h0:la=0∨lb=0∨size=0
 ·simp [kR,hz,h0]
 rcases hb with hb|⟨b',c,e',hbe,hsp,hne,hh⟩
 ·exact absurd (.inr (.inl hb)) h0
 simp only [osI] at hbe;subst hbe
 have hnb:(a.block !=b.block)=true:=by simpa using hne
 have aav:(a.block==b.block)=false:=by simpa using hne
 have MI:w.shape? b.block=some (e',c.size):=by simp [World.shape?,hh]
 have hf:∀off sp,w.frozen? {block:=b.block,off:=off,spot:=sp}=false:=by intro off sp;simp [World.frozen?,hh]
 have hfb:w.frozen? b=false:=hf _ _
 cases kA with
 |zero=>exact absurd rfl hkA
 |succ kA=>
 cases h1:w.frozen? a<;>cases h2:w.frozen? {block:=a.block,off:=kA+1}<;>
  simp [kR,hz,h0,hnb,aav,frozen,noView,Go.viewAt,mayBeOne,stringish,shape,Sem.run,Yv,MI,hfb,hf,h1,h2]
theorem iz {P:Program} {G:Nat→Option (List D)} {T:Nat→Option TI} (hT:kw P T) {f:Nat} {fn:Func} {tS tR:TypeId} (hf:P.funcs[f]?=some fn) (hname:(fn.name== "runtime.NumGoroutine")=false)
 (hb:fn.body.isNone=true) (hn:Extern.findNext fn=none) (he:Extern.find fn=some (Extern.SlicesOverlaps.overlaps #[tS,tS] #[tR])) {te:TI} (hel:elemOf T tS=some te)
 {b sz off n c:Nat} {ex:Bool} {es:List (List D)} {x:D} {row:List D} {xs:List (List D)} {bx:List az} (rX:bx[b]?=some (.row sz es)) (hne:es≠[]):
 bC P G f [.d (.sl ((x::row)::xs)),.vw b sz off n c ex] bx (.ret (.d (.bool false))) bx:=by
 intro β w vs X cx hx
 simp only [ak,aj,aK] at hx
 obtain ⟨u1,Zx,rfl,⟨base,cap,rfl,_,h1⟩,u2,O5,rfl,⟨_,Qa,Sz,cs,e2,f2,rfl,k1,k2,k3,k4⟩,rfl⟩:=hx
 obtain ⟨ti,e,t1,t2,t3⟩:=eP hel
 have kR:=fI hT t1 t2
 obtain ⟨ei,ed,g1,g2,g3,g4,g5,g6⟩:=aJ (hT.ti _ _ t3)
 rcases h1 with h1|⟨blk,o,sz2,rfl,hok,hrows⟩
 ·simp at h1
 simp only [ax,bf] at hrows
 obtain ⟨_,⟨⟨u,hcell,_⟩,_⟩,_⟩:=hrows
 have Yv:∃tA kA,w.shape? blk=some (tA,kA)∧kA≠0:=by
  simp only [World.cell?] at hcell
  split at hcell
  ·rename_i ca ea fa hh
   refine ⟨ea,ca.size,by simp [World.shape?,hh],?_⟩
   intro h0
   simp at hcell
   obtain ⟨hlt,_⟩:=Array.getElem?_eq_some_iff.1 hcell
   omega
  simp at hcell
 obtain ⟨tA,kA,Yv,hkA⟩:=Yv
 have cA:(az.row sz es).live=true:=by cases es<;>simp_all [az.live]
 have hrun:=wH (P:=P) w tS tR e kR (fun w=>bU g1) ⟨blk,o,none⟩ Qa (xs.length+1) cap n Sz Yv hkA (by
  rcases k4 with k4|⟨rfl,k5,k6⟩
  ·left;omega
  rcases cx.box _ _ rX with h0|⟨c3,e3,j1,j2⟩
  ·exact absurd h0 hne
  exact .inr ⟨_,c3,e3,rfl,rfl,fun heq=>hok.2.2 b _ rX cA heq.symm,j1⟩)
 refine .inr ⟨.bool false,w,?_,β,Ext.refl _ _ _,cx,by simp only [lW,aj,aK]⟩
 rw [run_callFunc_extern hf hname hb hn he]
 have e1:(({toList:=[.slice (some ⟨blk,o,none⟩) ((x::row)::xs).length cap,.slice Qa n Sz]}:Array Value))=#[.slice (some ⟨blk,o,none⟩) (xs.length+1) cap,.slice Qa n Sz]:=rfl
 rw [e1,hrun]
 rfl
end Dem
end
section
open Go
namespace Dem
section
variable {P:Program} {G:Nat→Option (List D)} {bx:List az}
theorem GR {f:Nat} {args nM:List AV} {v:AV} (ks:List Bool) (hz:eX bx args=some nM) (hn:AV.bP.c5 (kill ks bx) nM=true) (hl:dP false (kill ks bx) (kill ks bx)=true)
 (hv:v.flat=true∨eX [] args=some nM∧v.shut=true) (h:bC P G f nM (kill ks bx) (.ret v) (kill ks bx)):bC P G f args bx (.ret v) bx:=by
 intro β w vs X cx hx
 refine jA.mono (xT cx hx ⟨nM,kill ks bx,hz,hn,⟨false,hl,fun h=>by cases h⟩,?_,h,hv⟩) ?_
 ·intro i b hi dF
  obtain ⟨b0,h1,h2⟩:=kI ks bx i b hi
  rcases h2 with rfl|⟨rfl,h3⟩
  ·exact ⟨_,h1,dF,fun _=>rfl⟩
  exact ⟨b0,h1,h3,fun h=>by simp [az.live] at h⟩
 rintro e w' ⟨u,rfl,h2,h3,h4⟩
 exact ⟨β,h2,h3,h4⟩
theorem Qb {t:Th} (ht:t=t0) {kQ:Prop} {fz:Option (Prop×List AV)} {f:Nat} {args nM jU:List AV} {bx aF:List az} {v:AV} {c:Prop} {K Kp:AV→List az→Prop} (ks:List Bool) (bY:List Nat) (ho:kQ)
 (hz:qO t bx args=some (c,nM)) (hc:c) (hn:AV.bP.c5 (kill ks bx) nM=true) (hl:dP false (kill ks bx) (kill ks bx)=true) (hv:v.flat=true)
 (ha:AV.vj (fun b=>dK b bY 0) nM=some jU) (hb:fJ (fun b=>dK b bY 0) (kill ks bx) bY=some aF) (hb':AK bY (kill ks bx) aF=some (kill ks bx)) (hr:iR.iy (jS bY (kill ks bx).length) (.ret v)=some (.ret v))
 (h:bC P G f jU aF (.ret v) aF) (hK:K v bx):pY (bC P G) kQ f args fz bx K Kp:=by
 subst ht
 exact dw ho (GR ks (gE hz hc) hn hl (.inl hv) (de bY ha hb hr hb' h)) hK
end
end Dem
end
section
open Go
namespace Dem
abbrev TT (t:Th):Prop:=∀(α:Type) (f:Unit→α),t α f=f ()
theorem jR {t:Th} (ht:TT t) {α:Type} {e x:α} (h:e=x):(t _ fun _=>e)=x:=by rw [ht];exact h
section
variable {P:Program} {G:Nat→Option (List D)} {FC:Nat→List AV→List az→iR→List az→Prop} {kQ:Prop} {f:Nat} {args args':List AV} {c:Prop} {bx:List az} {K Kp:AV→List az→Prop} {ρ:Type}
theorem aM {E:ρ→AV} {r0:ρ} (ho:kQ) (h:FC f args' [] (.ret (E r0)) []) (hc:c) (hs:AV.shut.mN args'=true) (hf:(E r0).flat=true) (hK:∀r,r=r0→K (E r) bx):pY FC kQ f args (some (c,args')) bx K Kp:=
 fU ho h hc hs hf (hK _ rfl)
theorem aE {E:ρ→AV} {r0:ρ} (ho:kQ) (h:FC f args' [] (.ret (E r0)) []) (hc:c) (hs:AV.shut.mN args'=true) (hz:eX [] args=some args') (hv:(E r0).shut=true) (hK:∀r,r=r0→K (E r) bx):pY FC kQ f args (some (c,args')) bx K Kp:=
 GL ho h hc hs hz hv (hK _ rfl)
theorem Qd {E:ρ→AV} {r0:ρ} {fz:Option (Prop×List AV)} {qo:List az} (ho:kQ) (hfz:fz=some (c,args')) (hc:c) (h:FC f args' (fw bx args) (.ret (E r0)) qo) (hK:∀r,r=r0→K (E r) qo):pY FC kQ f args fz bx K Kp:=
 UW ho hfz hc h (hK _ rfl)
theorem bJ {dr g:Bool} {K:AV→Prop} {E:ρ→AV} {r0:ρ} (h:g=true→kQ∧c∧FC f args' [] (.ret (E r0)) []) (hs:AV.bP.c5 [] args'=true) (hf:(E r0).flat=true) (hK:∀r,r=r0→K (E r)):oT FC dr g kQ f args bx (some (c,args')) K:=
 GM h hs hf (hK _ rfl)
theorem dy {dr g:Bool} {K:AV→Prop} {E:ρ→AV} {r0:ρ} (h:g=true→kQ∧c∧FC f args' [] (.ret (E r0)) []) (hs:AV.bP.c5 [] args'=true) (hz:eX [] args=some args') (hf:(E r0).shut=true) (hK:∀r,r=r0→K (E r)):oT FC dr g kQ f args bx (some (c,args')) K:=
 nv h hs hz hf (hK _ rfl)
end
theorem fP {t:Th} (ht:TT t) {α:Type} {l:List α} {cells cT:α→List D} {es:List (List D)} (aB:es=l.map cells) {z:Int} {n:Nat} {K:List D→Prop} (h0:0≤z) (h1:z<l.length) (hn:∀x,(cells x).length=n) (hT:∀x,cells x=cT x)
 (hK:∀x,l[z.toNat]?=some x→K (cT x)):mP true (t Prop fun _=>0≤z∧z<es.length∧∀r∈es,r.length=n) (t _ fun _=>es.getD z.toNat []) K:=by
 have hz:z.toNat<l.length:=by omega
 refine ic (cT l[z.toNat]) ?_ ?_ (hK _ (List.getElem?_eq_getElem hz))
 ·simp only [ht];refine ⟨h0,by rw [aB,lgM];exact h1,?_⟩
  rw [aB];intro r hr;obtain ⟨y,_,rfl⟩:=List.mem_map.1 hr;exact hn y
 simp only [ht];rw [aB,←hT];simp [hz]
theorem bQ {s:St} {n:Nat} {σ:Type} {J:Nat→σ→Prop} {F:σ→St} (v:σ) (hs:s=F v) (m:Nat) (hm:m<n) (hJ:J m v):LoopIn (some s) (fun s3=>∃m v',(m<n∧J m v')∧s3=F v'):=aD (P:=fun s3=>∃m v',(m<n∧J m v')∧s3=F v') ⟨m,v,⟨hm,hJ⟩,hs⟩
theorem aaw {α:Type} {l:List α} {cells:α→List D} {u:List (List D)} (hu:u=l.map cells) {row:List D} {sz b:Nat} (hn:∀x,(cells x).length=sz) (hr:row.length=sz) (hl:l.length<1000000) (hb:b≤10000):
 u.length=u.length∧(u.length+[row].length)*b≤140737488355328∧∀r∈u++[row],r.length=sz:=by
 refine ⟨rfl,?_,?_⟩
 ·rw [hu,lgM]
  exact Nat.le_trans (Nat.mul_le_mul (show l.length+[row].length≤1000000 by simp;omega) hb) (by decide)
 intro r hr'
 rcases List.mem_append.1 hr' with h|h
 ·rw [hu] at h;obtain ⟨y,_,rfl⟩:=List.mem_map.1 h;exact hn y
 simp at h;subst h;exact hr
end Dem
end
section
open Go
namespace Dem
def flat:Code→List Code
 |.seq a b=>flat a++flat b
 |c=>[c]
section
variable {P:Program}
def sN (P:Program):List Code→(Exit→Act→World→Prop)→Act→World→Prop
 |[],Q=>Q .normal
 |c::r,Q=>c.wp P (Exit.then (sN P r Q) Q)
theorem C3 {K K':Act→World→Prop} {Q Q':Exit→Act→World→Prop} (h:∀a w,K a w→K' a w) (hq:∀e a w,Q e a w→Q' e a w):∀e a w,Exit.then K Q e a w→Exit.then K' Q' e a w:=by
 intro e a w hh;cases e<;>simp only [Exit.then] at hh ⊢<;>first|exact h _ _ hh|exact hq _ _ _ hh
theorem GS:∀{l:List Code} {Q Q':Exit→Act→World→Prop} {a:Act} {w:World},(∀e a w,Q e a w→Q' e a w)→sN P l Q a w→sN P l Q' a w
 |[],_,_,_,_,hq,h=>hq _ _ _ h
 |_::_,_,_,_,_,hq,h=>wp_mono h (C3 (fun _ _ hh=>GS hq hh) hq)
theorem AM:∀{l1 l2:List Code} {Q:Exit→Act→World→Prop} {a:Act} {w:World},sN P (l1++l2) Q a w→sN P l1 (Exit.then (sN P l2 Q) Q) a w
 |[],_,_,_,_,h=>h
 |c::l1,l2,Q,a,w,h=>by
  refine wp_mono (show c.wp P (Exit.then (sN P (l1++l2) Q) Q) a w from h) ?_
  intro e a w hh
  cases e<;>simp only [Exit.then] at hh ⊢<;>first|exact AM hh|exact hh
theorem El:∀(c:Code) {Q:Exit→Act→World→Prop} {a:Act} {w:World},sN P (flat c) Q a w→c.wp P Q a w
 |.seq x y,Q,a,w,h=>by
  have h:=AM (show sN P (flat x++flat y) Q a w from h)
  refine wp_seq (wp_mono (El x h) ?_)
  exact C3 (fun a w hh=>El y hh) (fun _ _ _ hh=>hh)
 |.skip,Q,a,w,h=>wp_mono h (by intro e a w hh;cases e<;>simpa only [sN,Exit.then] using hh)
 |.region ..,Q,a,w,h=>wp_mono h (by intro e a w hh;cases e<;>simpa only [sN,Exit.then] using hh)
 |.cond ..,Q,a,w,h=>wp_mono h (by intro e a w hh;cases e<;>simpa only [sN,Exit.then] using hh)
 |.block ..,Q,a,w,h=>wp_mono h (by intro e a w hh;cases e<;>simpa only [sN,Exit.then] using hh)
 |.loop ..,Q,a,w,h=>wp_mono h (by intro e a w hh;cases e<;>simpa only [sN,Exit.then] using hh)
 |.rangeFunc ..,Q,a,w,h=>wp_mono h (by intro e a w hh;cases e<;>simpa only [sN,Exit.then] using hh)
 |.exit ..,Q,a,w,h=>wp_mono h (by intro e a w hh;cases e<;>simpa only [sN,Exit.then] using hh)
 |.scope ..,Q,a,w,h=>wp_mono h (by intro e a w hh;cases e<;>simpa only [sN,Exit.then] using hh)
 |.label ..,Q,a,w,h=>wp_mono h (by intro e a w hh;cases e<;>simpa only [sN,Exit.then] using hh)
 |.goto ..,Q,a,w,h=>wp_mono h (by intro e a w hh;cases e<;>simpa only [sN,Exit.then] using hh)
 |.ret,Q,a,w,h=>wp_mono h (by intro e a w hh;cases e<;>simpa only [sN,Exit.then] using hh)
 |.refuse ..,Q,a,w,h=>wp_mono h (by intro e a w hh;cases e<;>simpa only [sN,Exit.then] using hh)
end
section
variable (t:Th) (FC:Nat→List AV→List az→iR→List az→Prop) (T:Nat→Option TI) (G:Nat→Option (List D)) (N K:Nat)
def JF:List Code→(Ex→St→Prop)→St→Prop
 |[],Q,s=>Q .normal s
 |c::r,Q,s=>yV t FC T G N K c (fun e s1=>uC (fun s1=>JF r Q s1) Q e s1) s
end
section
variable {P:Program} {T:Nat→Option TI} {G:Nat→Option (List D)} {N K:Nat} {ds:List Deferred} {X:Nat→Prop} {β0:Nat→Nat} {aF:List az} {w0:World}
theorem oX (hT:kw P T) (hD:qD P T G) (hK:aF.length≤K):∀(l:List Code) (Q:Ex→St→Prop) (β:Nat→Nat) (w:World) (s:St) (a:Act),Ext β0 aF w0 β s.bx w→Fr G N ds β w X s a→
 JF t0 (bC P G) T G N K l Q s→sN P l (fW G N ds X β0 aF w0 Q) a w
 |[],Q,β,w,s,a,ex,hF,h=>⟨β,s,ex,hF,h⟩
 |c::l,Q,β,w,s,a,ex,hF,h=>by
  refine wp_mono (fX hT hD hK c _ β w s a ex hF h) ?_
  intro e a' w' hl
  cases e<;>simp only [fW,uC,Exit.then] at hl ⊢
  ·obtain ⟨β',s',h1,h2,h3⟩:=hl
   exact oX hT hD hK l Q β' w' s' a' h1 h2 h3
  all_goals exact hl
theorem yg:∀{l1 l2:List Code} {Q:Exit→Act→World→Prop} {a:Act} {w:World},sN P l1 (Exit.then (sN P l2 Q) Q) a w→sN P (l1++l2) Q a w
 |[],_,_,_,_,h=>h
 |c::l1,l2,Q,a,w,h=>by
  refine wp_mono (show c.wp P (Exit.then (sN P l1 (Exit.then (sN P l2 Q) Q)) (Exit.then (sN P l2 Q) Q)) a w from h) ?_
  intro e a w hh
  cases e<;>simp only [Exit.then] at hh ⊢<;>first|exact yg hh|exact hh
end
end Dem
end
section
namespace Dem
abbrev aH:=List UInt8
structure bK where
 a:Int
 b:Int
 c:Int
 d:Int
deriving DecidableEq
def bK.zero:bK:=⟨0,0,0,0⟩
def GU (x y:Int):Int×Bool:=if x.toNat+y.toNat<18446744073709551616 then (((x.toNat+y.toNat:Nat):Int),true) else (0,false)
def GV (x y:Int):Int×Bool:=if x.toNat<y.toNat then (0,false) else (((((x.toNat-y.toNat)%18446744073709551616:Nat)):Int),true)
def both (f:Int→Int→Int×Bool) (a b:bK):bK×Bool:=
 if (f a.a b.a).2&&(f a.b b.b).2&&(f a.c b.c).2&&(f a.d b.d).2 then (⟨(f a.a b.a).1,(f a.b b.b).1,(f a.c b.c).1,(f a.d b.d).1⟩,true) else (bK.zero,false)
def iT (a b:bK):bK×Bool:=both GU a b
def dY (a b:bK):bK×Bool:=both GV a b
def kY (a b:bK):Bool:=(dY b a).2
end Dem
namespace Dem
def idxOf {α:Type} (p:α→Bool) (l:List α):Int:=match l.findIdx? p with|some k=>(k:Int)|none=>-1
theorem cV {α:Type} {p:α→Bool}:∀{l:List α} {k:Nat} {x:α},l[k]?=some x→p x=true→(∀i<k,∀y,l[i]?=some y→p y=false)→l.findIdx? p=some k
 |[],_,_,h,_,_=>by simp at h
 |y::r,0,x,h,hp,_=>by simp at h;subst h;simp [List.findIdx?_cons,hp]
 |y::r,k+1,x,h,hp,hb=>by
  have hy:p y=false:=hb 0 (by omega) y (by simp)
  simp only [List.getElem?_cons_succ] at h
  rw [List.findIdx?_cons,hy]
  simp [cV h hp fun i hi z hz=>hb (i+1) (by omega) z (by simpa using hz)]
theorem c7 {α:Type} {p:α→Bool} {l:List α} (hb:∀(i:Nat) (y:α),l[i]?=some y→p y=false):l.findIdx? p=none:=by
 rw [List.findIdx?_eq_none_iff]
 intro x hx
 obtain ⟨i,hi⟩:=List.getElem?_of_mem hx
 exact hb i x hi
theorem fe {α:Type} (p:α→Bool) (l:List α):l.any p=decide (0≤idxOf p l):=by
 unfold idxOf
 cases h:l.findIdx? p with
 |none=>
  rw [List.findIdx?_eq_none_iff] at h
  simp
  intro x hx;simp [h x hx]
 |some k=>
  have:=List.findIdx?_eq_some_iff_getElem.1 h
  obtain ⟨hk,hp,_⟩:=this
  simp
  exact ⟨l[k],List.getElem_mem hk,hp⟩
end Dem
end
section
open Go Dem Go.Proofs
namespace Dem
theorem TT.eq {t:Th} (h:TT t):t=t0:=by funext α f;exact h α f
theorem bH {t:Th} (ht:TT t) {f N:Nat} {fn:Func} {c:Code} {args:List AV} {aF aR:List az} {res:iR} (hf:Tryz.prog.funcs[f]?=some fn) (hb:fn.body=some c)
 (hname:(fn.name== "runtime.NumGoroutine")=false) (hN:fn.ntmps=N) {rs:List ResultVar} (O4:fn.results.toList=rs) {n:Nat} (hn:aF.length=n) (hlen:Nat.ble args.length N=true)
 (h:yV t FC tT gl N n c (qQ t tT rs n res aR) ⟨pV 0 args,aF⟩):FC f args aF res aR:=by
 subst O4;subst hn
 have e:=ht.eq
 subst e
 exact yW P9 wG hf hb hname hN hlen h
theorem Zy {f:Nat} {fn:Func} {e:Array Value→Sem Value} {args:List AV} {v:AV} (hf:Tryz.prog.funcs[f]?=some fn) (hname:(fn.name== "runtime.NumGoroutine")=false)
 (hb:fn.body.isNone=true) (hn:Extern.findNext fn=none) (he:Extern.find fn=some e)
 (h:∀(β:Nat→Nat) (w:World) (vs:List Value) (ok:Nat→Prop),ak β [] w ok args vs→∃u,(e ⟨vs⟩).run Tryz.prog w=.ok u w∧aj β [] w ok v u):FC f args [] (.ret v) []:=by
 intro β w vs X cx hx
 obtain ⟨u,h1,h2⟩:=h β w vs _ hx
 refine .inr ⟨u,w,?_,β,Ext.refl _ _ _,cx,h2⟩
 rw [run_callFunc_extern hf hname hb hn he,h1]
 rfl
abbrev bI (x:Int):AV:=.d (.int .i64 x)
abbrev aA (x:Int):AV:=.d (.int .u64 x)
abbrev BL (b:Bool):AV:=.d (.bool b)
abbrev ST (s:List UInt8):AV:=.d (.str s)
abbrev SL (es:List (List D)):AV:=.d (.sl es)
abbrev V4 (a b c d:Int):AV:=.agg [.d (.int .u64 a),.d (.int .u64 b),.d (.int .u64 c),.d (.int .u64 d)]
theorem aC {k:Nat} (h1:k<9223372036854775807):IntKind.i64.wrap ((k:Int)+1)=((k+1:Nat):Int):=by rw [wrap64 (by omega) (by omega)];omega
theorem aa (n:Nat):@NatCast.natCast Int instNatCastInt n=(n:Int):=rfl
end Dem
end
section
open Go Go.Proofs Go.ChangeShapes Go.WideShapes Go.RowKit
namespace Dem
theorem own:ownKnob Tryz.prog.godebug=none:=by kernel_rfl
theorem laidOut:laidOutB Tryz.prog=true:=by kernel_rfl
theorem Qe:Tryz.prog.globalNamed "demesne/word.letters"=some 0:=by kernel_rfl
theorem VM:Tryz.prog.globalNamed "demesne/word.marks"=some 1:=by kernel_rfl
def C4:TypeId:=236
def LS:TypeId:=237
theorem Qf:(Tryz.prog.globals[0]?).map (·.type)=some C4:=by kernel_rfl
theorem VN:(Tryz.prog.globals[1]?).map (·.type)=some LS:=by kernel_rfl
def aax:DataW Unit→Value
 |.lit (.int k n)=>.int k n
 |_=>.int .u8 0
def aay:DataW Unit→List Value
 |.agg l=>l.map aax
 |_=>[]
noncomputable def GW (os:Os):World:=
 let w0:=World.doorLaid Tryz.prog 400 os
 {w0 with heap:=w0.heap.modify 3 fun
  |.cells _ t fr=>.cells (aay YtihohjnkkalgiaaGreatDoor.Rows.laid_unicode_utf8_first).toArray t fr
  |o=>o}
abbrev mh:List (String×DataW Unit):=[("unicode/utf8.acceptRanges",YtihohjnkkalgiaaGreatDoor.Rows.laid_unicode_utf8_acceptRanges),("demesne/word.letters",YtihohjnkkalgiaaGreatDoor.Rows.laid_demesne_word_letters),("demesne/word.marks",YtihohjnkkalgiaaGreatDoor.Rows.laid_demesne_word_marks),("unicode/utf8.first",YtihohjnkkalgiaaGreatDoor.Rows.laid_unicode_utf8_first)]
theorem vq (os:Os) (args:Array Value):laidMetH Tryz.prog mh ((GW os).forCall (fun _ _=>0) ⟨#[],args,[]⟩).memory:=
 laidMetH_of_parts3 (fuel:=8) (laidMet_of_run' 8 (by kernel_rfl) (by kernel_rfl)) (by kernel_rfl) (by kernel_rfl)
theorem tyL:F7 Tryz.prog 8 C4=some [.int .i32,.int .i32,.int .i32,.int .i32,.int .i32,.int .i32]:=by kernel_rfl
theorem tyM:F7 Tryz.prog 8 LS=some [.int .i32,.int .i32,.int .i32,.int .i32]:=by kernel_rfl
theorem Em {w:World} {ok:Nat→Prop} {blk:Nat}:∀{ds:List D} {vs:List Value} (off:Nat),cD w ok ds vs→(∀i v,vs[i]?=some v→w.cell? ⟨blk,off+i,none⟩=some v)→bf w ok blk ds off
 |[],_,_,_,_=>by simp [bf]
 |d::ds,vs,off,h,hc=>by
  simp only [cD] at h
  obtain ⟨v,r,rfl,h1,h2⟩:=h
  simp only [bf]
  refine ⟨⟨v,hc 0 v rfl,h1⟩,Em (off+1) h2 fun i u hu=>?_⟩
  rw [show off+1+i=off+(i+1) by omega]
  exact hc (i+1) u (by simpa using hu)
theorem GX {W:World} (h:laidMetH Tryz.prog mh W):cI gl (fun _=>0) [] W (fun _=>False):=by
 rw [MakeChecks.laidMetH_plain _ _ _ (by kernel_rfl)] at h
 obtain ⟨ps,⟨_,_,_,_,_,_,_,_,_,_,⟨g0,t0,cs0,f0,p0,q0,Vv,ht0,M0,Zt,⟨g1,t1,cs1,f1,p1,q1,hg1,ht1,S7,XE,_,_⟩,_⟩,_⟩,_,_⟩:=h
 obtain rfl:=Option.some.inj (Qe.symm.trans Vv)
 obtain rfl:=Option.some.inj (VM.symm.trans hg1)
 obtain rfl:=Option.some.inj (Qf.symm.trans ht0)
 obtain rfl:=Option.some.inj (VN.symm.trans ht1)
 have hok:∀blk,blk<W.heap.size→bt (fun _=>0) [] W (fun _=>False) blk:=fun blk hb=>⟨hb,fun h=>h,fun i b hb=>by simp at hb⟩
 obtain ⟨r0,_⟩:=uX hok 8 _ _ _ _ _ Zt tyL
 obtain ⟨r1,_⟩:=uX hok 8 _ _ _ _ _ XE tyM
 have c0:=fun i=>World.var?_cell Vv M0 i
 have c1:=fun i=>World.var?_cell hg1 S7 i
 refine ⟨fun _ h=>h.elim,?_,by simp,by simp,by simp⟩
 intro g ds hg
 unfold gl at hg
 have hlt:∀{i:Nat} {a:Addr} {v:Value},W.cell? a=some v→a.block<W.heap.size:=by
  intro i a v hc
  rcases Nat.lt_or_ge a.block W.heap.size with h|h
  ·exact h
  simp [World.cell?,h] at hc
 cases e0:Nat.beq g 0 with
 |true=>
  rw [e0] at hg
  simp only [cond_true,osI] at hg
  obtain rfl:=Nat.eq_of_beq_eq_true e0
  have hrow:bf W (bt (fun _=>0) [] W (fun _=>False)) 0 ds 0:=by
   rw [←hg];exact Em 0 r0 fun i v hv=>by rw [Nat.zero_add,c0 i];simpa using hv
  refine ⟨hok _ ?_,hrow⟩
  rw [←hg] at hrow
  simp only [bf] at hrow
  obtain ⟨⟨u,hu,_⟩,_⟩:=hrow
  exact hlt (i:=0) hu
 |false=>
  rw [e0] at hg
  simp only [cond_false] at hg
  cases e1:Nat.beq g 1 with
  |true=>
   rw [e1] at hg
   simp only [cond_true,osI] at hg
   obtain rfl:=Nat.eq_of_beq_eq_true e1
   have hrow:bf W (bt (fun _=>0) [] W (fun _=>False)) 1 ds 0:=by
    rw [←hg];exact Em 0 r1 fun i v hv=>by rw [Nat.zero_add,c1 i];simpa using hv
   refine ⟨hok _ ?_,hrow⟩
   rw [←hg] at hrow
   simp only [bf] at hrow
   obtain ⟨⟨u,hu,_⟩,_⟩:=hrow
   exact hlt (i:=0) hu
  |false=>rw [e1] at hg;cases hg
theorem oY {f:Nat} {args:List AV} {vs:List Value} {W:World} (hL:laidMetH Tryz.prog mh W) (he:∀args w,(callFunc f args).run Tryz.prog w=.ok (.enter f args) w)
 (hx:ak (fun _=>0) [] W (bt (fun _=>0) [] W (fun _=>False)) args vs) (h:FC f args [] (.ret (.d (.bool true))) []):
 Calls Tryz.prog f ⟨vs⟩ W fun e w'=>e=.returned (.bool true)∧RowKit.Below W.heap.size W w':=by
 have hc:=h (fun _=>0) W vs (fun _=>False) (GX hL) hx
 rcases hc with ⟨_,hc⟩|⟨v,w',hc,_⟩
 ·refine hc.mono ?_
  rintro e w' ⟨β',ex,_,hr⟩
  cases e with
  |returned u=>
   simp only [lW,aj,aK] at hr
   subst hr
   exact ⟨rfl,⟨ex.os,ex.tape,ex.output,ex.size,fun k hk=>ex.block k hk (by simp)⟩⟩
  |_=>exact hr.elim
 rw [he] at hc;cases hc
theorem Cq {H:Type} {enc:TypeId×Value→H} {P:Program} (hl:laidOutB P=true) {W W':World} (hb:RowKit.Below W.heap.size W W'):∀(ts:List TypeId) (vs:List Value) (ds:List (DataW H)) (ps:List MemPlace),(ts.all fun t=>P.readableRec t&&decide (t<P.types.size))=true→
 (∀x∈ps,x.block<W.heap.size)→DataW.TrodAll enc P W 0 (fun _=>true) true ts vs ds ps→DataW.TrodAll enc P W' 0 (fun b=>decide (b<W.heap.size)) true ts vs ds ps:=by
 intro ts
 induction ts with
 |nil=>
  intro vs ds ps _ _ h
  cases vs with
  |nil=>cases ds with
   |nil=>exact h
   |cons d ds=>exact h.elim
  |cons v vs=>cases ds<;>exact h.elim
 |cons t ts ih=>
  intro vs ds ps ht hlt h
  cases vs with
  |nil=>cases ds<;>exact h.elim
  |cons v vs=>cases ds with
   |nil=>exact h.elim
   |cons d ds=>
    obtain ⟨p,q,h1,h2,rfl⟩:=h
    simp only [List.all_cons,Bool.and_eq_true,decide_eq_true_eq] at ht
    exact ⟨p,q,RowKit.Below.trod hl ht.1.1 ht.1.2 h1 hb (fun x hx=>hlt x (List.mem_append_left _ hx)),ih vs ds q ht.2 (fun x hx=>hlt x (List.mem_append_right _ hx)) h2,rfl⟩
theorem GY {H:Type} {enc:TypeId×Value→H} {P:Program} {W:World}:∀(ts:List TypeId) (vs:List Value) (ds:List (DataW H)) (ps:List MemPlace),DataW.TrodAll enc P W 0 (fun _=>true) true ts vs ds ps→ds.length=ts.length:=by
 intro ts
 induction ts with
 |nil=>
  intro vs ds ps h
  cases vs with
  |nil=>cases ds with
   |nil=>rfl
   |cons d ds=>exact h.elim
  |cons v vs=>cases ds<;>exact h.elim
 |cons t ts ih=>
  intro vs ds ps h
  cases vs with
  |nil=>cases ds<;>exact h.elim
  |cons v vs=>cases ds with
   |nil=>exact h.elim
   |cons d ds=>obtain ⟨_,_,_,h2,_⟩:=h;simp [ih _ _ _ h2]
theorem Cr {W W':World} (hb:RowKit.Below W.heap.size W W') (may:MemPlace→Prop):W.keptBut W' may:=by
 refine ⟨hb.os,hb.output,fun i hi=>?_⟩
 rw [hb.block i hi]
 generalize W.heap[i]?=o
 cases o with
 |none=>rfl
 |some o=>cases o<;>first|exact ⟨rfl,rfl,rfl,fun _ _=>rfl⟩|exact .inr ⟨rfl,rfl⟩|rfl
theorem Yw:Tryz.prog.underlying 4=some .bool:=by kernel_rfl
theorem sw {H:Type} {enc:TypeId×Value→H} {os:Os} (started:os.Started) {F:FuncId} {fn:Func} {s:ChangeSpec} (hfn:Tryz.checked.prog.funcs[F]?=some fn) (hni:Tryz.checked.prog.inits.idxOf? F=none) (hv:s.vars=[]) (hrt:fn.resultTypes=#[4])
 (hts:(fn.params.toList.all fun t=>Tryz.prog.readableRec t&&decide (t<Tryz.prog.types.size))=true)
 (hs:∀ds:List (DataW H),ds.length=fn.params.toList.length→(s.fn H ds).results=[.lit (.bool true)]∧(s.fn H ds).args=ds∧(s.fn H ds).vars=[])
 (witness:∃(w:World) (tape:Tape) (i:Input),w.os=os∧(w.forCall tape i).Shaped Tryz.checked.prog∧i.vars=[]∧Input.okWide Tryz.checked.prog (w.forCall tape i) .any w.heap.size F i∧
  ((s.pre enc Tryz.checked.prog fn [] false (w.forCall tape i).memory i.args∧laidMetH Tryz.prog mh (w.forCall tape i).memory)∧sizedMet enc Tryz.checked.prog fn (OpenSpec.ofChange s) false (w.forCall tape i).memory i.args)∧({}:Assume).holds Tryz.checked.prog (lone (Frame.enter Tryz.checked.prog F i.args .normal) [] (w.forCall tape i)))
 (VO:∀(W:World) (args:Array Value) (ds:List (DataW H)) (p:List MemPlace),laidMetH Tryz.prog mh W→DataW.TrodAll enc Tryz.prog W 0 (fun _=>true) true fn.params.toList args.toList ds p→
  (∀(j:Nat) t v,fn.params[j]?=some t→args[j]?=some v→∃base,Value.okWide Tryz.prog W .any base t v)→
  Calls Tryz.prog F args W fun e w'=>e=.returned (.bool true)∧RowKit.Below W.heap.size W w'):
 ReturnsInHanded {} Tryz.checked os F .any (fun w args=>(s.pre enc Tryz.checked.prog fn [] false w args∧laidMetH Tryz.prog mh w)∧sizedMet enc Tryz.checked.prog fn (OpenSpec.ofChange s) false w args) (s.post enc Tryz.checked.prog fn false true false false):=by
 refine returnsInHanded_of_change_and (C:=Tryz.checked) (X:=fun w _=>laidMetH Tryz.prog mh w) (fun _ _ _ hh h=>h.of_heap hh) own started hni hfn witness ?_
 intro W base args ds gs before hval hW _ _ hL _
 have hW':=hW
 obtain ⟨p,q,hA,hV,rfl,hfz,hnd⟩:=hW
 rw [hv] at hV
 obtain ⟨rfl,rfl⟩:=trodVars_none hV
 have hlen:ds.length=fn.params.toList.length:=GY _ _ _ _ hA
 obtain ⟨s1,s2,s3⟩:=hs ds hlen
 refine (VO W args ds p hL hA (fun j t v h1 h2=>⟨base,hval j t v h1 h2⟩)).mono fun e w' ⟨he,hb⟩=>?_
 refine ⟨.bool true,he,ds,[],p++[],[],p,[],hW',?_,?_,?_,Cr hb _,fun h=>by cases h⟩
 ·rw [List.append_nil,s1,hrt]
  exact trodAll_mk1 (shut_bool Yw _)
 ·rw [List.append_nil,s2]
  exact Cq laidOut hb _ _ _ _ hts (fun x hx=>hW'.lt x (by simpa using hx)) hA
 rw [List.append_nil,s3,hv]
 rfl
end Dem
end
section
open Go
namespace Dem
def dec (s:aH) (pos:Nat):Nat×Nat:=Utf8.decode ⟨s.toArray⟩ pos
theorem LU (s:aH) (pos:Nat) (h:pos<s.length):1≤(dec s pos).2:=Lib.decode_width_pos _ pos (by show pos<s.toArray.size;simpa using h)
def iF (s:aH):Nat→Nat→List (Nat×Nat)
 |0,_=>[]
 |n+1,pos=>if pos<s.length then (pos,(dec s pos).1)::iF s n (pos+(dec s pos).2) else []
def C5 (s:aH):List (Nat×Nat):=iF s s.length 0
def En:List (Int×Int):=[(97,122),(945,969),(1072,1103)]
def marks:List (Int×Int):=[(48,57),(45,45)]
def GZ (r:Int) (l:List (Int×Int)):Bool:=l.any fun x=>decide (x.1≤r)&&decide (r≤x.2)
def qV (s:aH):Nat:=(C5 s).length
def VP (x:Nat×Nat):Bool:=GZ x.2 En||(!decide (x.1=0)&&GZ x.2 marks)
def eC (s:aH):Bool:=(C5 s).all VP&&!decide (s=[])&&decide (qV s≤16)
theorem AN (s:aH):∀(n pos:Nat),(iF s n pos).length≤n
 |0,_=>by simp [iF]
 |n+1,pos=>by
  unfold iF;split
  ·simp;exact AN s n _
  simp
structure dg where
 key:aH
 value:aH
deriving DecidableEq
abbrev dg.cells (p:dg):List D:=[.str p.key,.str p.value]
def sle (x y:aH):Bool:=Op.bytesLess x y||decide (x=y)
def jD:Option aH→List dg→Bool
 |_,[]=>true
 |q,p::r=>eC p.key&&eC p.value&&(match q with|none=>true|some q=>!sle p.key q)&&jD (some p.key) r
def tV (l:List dg):Bool:=jD none l&&decide (l.length≤8)
def lB (l:List dg) (k:Nat):Option aH:=match k with
 |0=>none
 |k+1=>(l[k]?).map (·.key)
def dg.sm (p:dg):Prop:=p.key.length<9223372036854775807∧p.value.length<9223372036854775807
structure Node where
 name:aH
 cap:bK
 labels:List dg
 up:Bool
structure Place where
 bA:Int
 node:aH
 v:bK
abbrev Node.cells (x:Node):List D:=[.str x.name,.int .u64 x.cap.a,.int .u64 x.cap.b,.int .u64 x.cap.c,.int .u64 x.cap.d,.sl (x.labels.map dg.cells),.bool x.up]
abbrev Place.cells (x:Place):List D:=[.int .u64 x.bA,.str x.node,.int .u64 x.v.a,.int .u64 x.v.b,.int .u64 x.v.c,.int .u64 x.v.d]
theorem nS {α:Type} {p:α→Bool} {l:List α} (h:idxOf p l=-1):∀x∈l,p x=false:=by
 unfold idxOf at h
 split at h
 ·omega
 rename_i hn
 rw [List.findIdx?_eq_none_iff] at hn
 exact fun x hx=>by simpa using hn x hx
theorem nT {α:Type} {p:α→Bool} {l:List α} (h:idxOf p l≠-1):∃(i:Nat) (x:α),idxOf p l=i∧l[i]?=some x∧p x=true∧∀y∈l.take i,p y=false:=by
 unfold idxOf at h ⊢
 split at h
 ·rename_i k hk
  obtain ⟨hlt,hp,hb⟩:=List.findIdx?_eq_some_iff_getElem.1 hk
  refine ⟨k,l[k],rfl,by simp [hlt],hp,?_⟩
  intro y hy
  obtain ⟨j,hj⟩:=List.getElem?_of_mem hy
  rw [List.getElem?_take] at hj
  split at hj
  ·rename_i Vi
   have hjl:j<l.length:=by omega
   rw [List.getElem?_eq_getElem hjl] at hj
   cases hj
   simpa using hb j Vi
  cases hj
 exact absurd rfl h
theorem filter_all {α:Type} {p:α→Bool} {l:List α} (h:∀x∈l,p x=false):l.filter (fun x=>!p x)=l:=by
 rw [List.filter_eq_self]
 intro x hx;rw [h x hx];rfl
theorem dA {α:Type} {l:List α} {i:Nat} {x:α} (h:l[i]?=some x):l.take (i+1)=l.take i++[x]:=by
 rw [List.take_add_one,h];rfl
def Node.zero:Node:=⟨[],bK.zero,[],false⟩
def eG (name:aH) (l:List Node):Node×Bool:=match l.find? (fun x=>decide (x.name=name)) with
 |some x=>(x,true)
 |none=>(Node.zero,false)
theorem M1 {name:aH} {l:List Node} (h:idxOf (fun x=>decide (x.name=name)) l=-1):eG name l=(Node.zero,false):=by
 have hn:=nS h
 have:l.find? (fun x=>decide (x.name=name))=none:=by rw [List.find?_eq_none];intro x hx;rw [hn x hx];simp
 unfold eG;rw [this]
theorem Eo {α:Type} {p:α→Bool}:∀{l:List α} {i:Nat} {x:α},l[i]?=some x→p x=true→(∀y∈l.take i,p y=false)→l.find? p=some x
 |[],_,_,h,_,_=>by simp at h
 |y::r,0,x,h,hp,_=>by simp at h;subst h;simp [hp]
 |y::r,i+1,x,h,hp,hb=>by
  have hy:p y=false:=hb y (by simp)
  simp only [List.getElem?_cons_succ] at h
  rw [List.find?_cons,hy]
  exact Eo h hp fun z hz=>hb z (by simp [hz])
theorem M2 {name:aH} {l:List Node} (h:idxOf (fun x=>decide (x.name=name)) l≠-1):∃(i:Nat) (x:Node),idxOf (fun x=>decide (x.name=name)) l=i∧l[i]?=some x∧eG name l=(x,true):=by
 obtain ⟨i,x,h1,h2,h3,h4⟩:=nT h
 refine ⟨i,x,h1,h2,?_⟩
 unfold eG;rw [Eo h2 h3 h4]
def cJ (name:aH) (s:bK×Bool) (x:Place):bK×Bool:=if s.2&&decide (x.node=name) then dY s.1 x.v else s
def cE (name:aH) (l:List Node) (ps:List Place):bK×Bool:=
 let s:=ps.foldl (cJ name) ((eG name l).1.cap,(eG name l).2)
 if s.2 then s else (bK.zero,false)
def mW (name:aH) (v:bK) (l:List Node) (ps:List Place):Int:=
 if !(eG name l).2 then 7 else if !(eG name l).1.up then 12 else if !(cE name l ps).2||!kY v (cE name l ps).1 then 11 else 0
structure cB where
 nodes:List Node
 places:List Place
deriving instance DecidableEq for Place
deriving instance DecidableEq for Node
instance:Inhabited bK:=⟨bK.zero⟩
instance:Inhabited Node:=⟨Node.zero⟩
instance:Inhabited Place:=⟨⟨0,[],bK.zero⟩⟩
instance:Inhabited dg:=⟨⟨[],[]⟩⟩
theorem dU {α:Type} {l:List α} {k:Nat} {x:α} (h:l[k]?=some x):l.drop k=x::l.drop (k+1):=by
 obtain ⟨hk,rfl⟩:=List.getElem?_eq_some_iff.1 h
 exact List.drop_eq_getElem_cons hk
structure bS where
 node:aH
 free:bK
 labels:List dg
def fA (l:List Node) (bA:Int) (v:bK):List aH→List Place→Option Int×List Place
 |[],ps=>(none,ps)
 |n::r,ps=>if mW n v l ps≠0 then (some (mW n v l ps),ps) else fA l bA v r (ps++[⟨bA,n,v⟩])
def tW (p:cB) (bA:Int) (names:List aH) (v:bK):cB×Int:=
 match (fA p.nodes bA v names p.places).1 with
 |some e=>(p,e)
 |none=>(⟨p.nodes,(fA p.nodes bA v names p.places).2⟩,0)
theorem cF {α:Type} {p:α→Bool} {l:List α} {r:Int} (h:r=idxOf p l):(r=-1∧l.findIdx? p=none∧l.find? p=none)∨∃(i:Nat) (x:α),r=i∧i<l.length∧l[i]?=some x∧p x=true∧l.findIdx? p=some i∧l.find? p=some x:=by
 by_cases hn:idxOf p l=-1
 ·have hno:=nS hn
  refine .inl ⟨by rw [h,hn],?_,?_⟩
  ·rw [List.findIdx?_eq_none_iff];intro x hx;simp [hno x hx]
  rw [List.find?_eq_none];intro x hx;simp [hno x hx]
 obtain ⟨i,x,h1,h2,h3,h4⟩:=nT hn
 refine .inr ⟨i,x,by rw [h,h1],(List.getElem?_eq_some_iff.1 h2).1,h2,h3,?_,Eo h2 h3 h4⟩
 unfold idxOf at h1
 split at h1
 ·rename_i k hk;rw [hk];congr 1;omega
 omega
def fm (p:cB) (name:aH) (up:Bool):cB×Int:=
 match p.nodes.findIdx? (fun x=>decide (x.name=name)),p.nodes.find? (fun x=>decide (x.name=name)) with
 |some i,some x=>if x.up=up then (p,15) else (⟨p.nodes.set i {x with up:=up},p.places⟩,0)
 |_,_=>(p,7)
def nU (l:List Node) (ps:List Place) (n:Node):Option bS:=if (cE n.name l ps).2&&n.up then some ⟨n.name,(cE n.name l ps).1,n.labels⟩ else none
def Er (q:Option aH) (x:aH):Bool:=match q with|none=>true|some q=>!sle x q
def Node.sm (x:Node):Prop:=x.name.length<9223372036854775807∧x.labels.length<1000000000∧∀p∈x.labels,p.sm
def pat (l:List Node) (nm:aH):Nat:=match l.findIdx? (fun o=>!Op.bytesLess o.name nm) with
 |some k=>k
 |none=>l.length
def qW (p:cB) (n:Node):cB×Int:=
 if !eC n.name then (p,6) else if !tV n.labels then (p,2) else if decide (0≤idxOf (fun x=>decide (x.name=n.name)) p.nodes) then (p,8) else if 16≤p.nodes.length then (p,9) else
 (⟨p.nodes.take (pat p.nodes n.name)++{n with up:=true}::p.nodes.drop (pat p.nodes n.name),p.places⟩,0)
end Dem
end
section
open Go Dem Go.Proofs
namespace Dem
abbrev bu (s:aH):List D:=[.str s]
def gm (r:Int):AV:=bI r
def vt (r:Int):AV:=aA r
def bX (r:Bool):AV:=BL r
def S8 (r:aH):AV:=ST r
def Xe (r:bK×Bool):AV:=.eE [V4 r.1.a r.1.b r.1.c r.1.d,BL r.2]
def Node.aU (t:Th) (x:Node):List D:=[.str x.name,.int .u64 x.cap.a,.int .u64 x.cap.b,.int .u64 x.cap.c,.int .u64 x.cap.d,.sl (t _ fun _=>x.labels.map dg.cells),.bool x.up]
def Place.aU (_:Th) (x:Place):List D:=[.int .u64 x.bA,.str x.node,.int .u64 x.v.a,.int .u64 x.v.b,.int .u64 x.v.c,.int .u64 x.v.d]
def UY (t:Th) (x:Node):AV:=.agg [ST x.name,aA x.cap.a,aA x.cap.b,aA x.cap.c,aA x.cap.d,SL (t _ fun _=>x.labels.map dg.cells),BL x.up]
def Qg (t:Th) (r:Node×Bool):AV:=.eE [UY t r.1,BL r.2]
def qX (t:Th) (p:cB):AV:=.agg [SL (t _ fun _=>p.nodes.map Node.cells),SL (t _ fun _=>p.places.map Place.cells)]
def nw (t:Th) (r:cB×Int):AV:=.eE [qX t r.1,bI r.2]
def G0 (t:Th) (l:List aH):AV:=SL (t _ fun _=>l.map bu)
def eA (_:Th) (s:aH):List D:=[.str s]
theorem wI {t:Th} (ht:TT t) {α:Type} {l:List α} {cells cT:α→List D} {es:List (List D)} (aB:es=l.map cells) {z:Int} {i n:Nat} {x:α} {K:List D→Prop} (hx:l[i]?=some x) (hz:z=i) (hn:∀x,(cells x).length=n) (hT:∀x,cells x=cT x)
 (hK:K (cT x)):mP true (t Prop fun _=>0≤z∧z<es.length∧∀r∈es,r.length=n) (t _ fun _=>es.getD z.toNat []) K:=by
 have hi:=(List.getElem?_eq_some_iff.1 hx).1
 refine fP ht aB (by omega) (by omega) hn hT ?_
 intro y hy
 rw [hz,Int.toNat_natCast,hx] at hy
 cases hy;exact hK
theorem UZ {α:Type} {l:List α} {cells:α→List D} {u:List (List D)} (hu:u=l.map cells) {row:List D} {sz b:Nat} (hn:∀x,(cells x).length=sz) (hr:row.length=sz) (hl:l.length<1000000000) (hb:b≤10000):
 (u.length+[row].length)*b≤140737488355328∧∀r∈u++[row],r.length=sz:=by
 refine ⟨?_,?_⟩
 ·rw [hu,lgM]
  exact Nat.le_trans (Nat.mul_le_mul (show l.length+[row].length≤1000000000 by simp;omega) hb) (by decide)
 intro r hr'
 rcases List.mem_append.1 hr' with h|h
 ·rw [hu] at h;obtain ⟨y,_,rfl⟩:=List.mem_map.1 h;exact hn y
 simp at h;subst h;exact hr
def bS.cells (x:bS):List D:=[.str x.node,.int .u64 x.free.a,.int .u64 x.free.b,.int .u64 x.free.c,.int .u64 x.free.d,.sl (x.labels.map dg.cells)]
def bS.aU (t:Th) (x:bS):List D:=[.str x.node,.int .u64 x.free.a,.int .u64 x.free.b,.int .u64 x.free.c,.int .u64 x.free.d,.sl (t _ fun _=>x.labels.map dg.cells)]
def Qh (t:Th) (l:List bS):AV:=SL (t _ fun _=>l.map bS.cells)
theorem pe {k:Nat} (h:0<k) (h2:k<9223372036854775807):IntKind.i64.wrap ((k:Int)-1)=((k-1:Nat):Int):=by rw [wrap64 (by omega) (by omega)];omega
theorem G1 {t:Th} (ht:TT t) {α:Type} [Inhabited α] {l:List α} {cells cT:α→List D} {es:List (List D)} (aB:es=l.map cells) {g:Bool} {G:Prop} {z:Int} (i:Nat) {n:Nat} {K:List D→Prop} (hg:g=true→G) (hi:g=true→z=i∧i<l.length) (hn:∀x,(cells x).length=n) (hT:∀x,cells x=cT x)
 (hK:∀x,(g=true→l[i]?=some x)→K (cT x)):mP g (G∧t Prop fun _=>0≤z∧z<es.length∧∀r∈es,r.length=n) (t _ fun _=>es.getD z.toNat []) K:=by
 cases W9:g with
 |true=>
  subst W9
  obtain ⟨h1,h2⟩:=hi rfl
  refine P6 (cT l[i]) (fun _=>⟨⟨hg rfl,?_⟩,?_⟩) (hK _ (fun _=>List.getElem?_eq_getElem h2))
  ·simp only [ht];refine ⟨by omega,by rw [aB,lgM];omega,?_⟩
   rw [aB];intro r hr;obtain ⟨y,_,rfl⟩:=List.mem_map.1 hr;exact hn y
  simp only [ht];rw [h1,aB,←hT];simp [h2]
 |false=>
  subst W9
  exact P6 (cT default) (fun h=>Bool.noConfusion h) (hK default (fun h=>Bool.noConfusion h))
theorem pg {P:Program} {G:Nat→Option (List D)} {f:Nat} {args args':List AV} {bx aR:List az} {res:iR} (h:∀β w ok vs,ak β bx w ok args vs→ak β bx w ok args' vs) (hc:bC P G f args' bx res aR):bC P G f args bx res aR:=
 fun β w vs X cx hx=>hc β w vs X cx (h _ _ _ _ hx)
theorem LV {β:Nat→Nat} {bx:List az} {w:World} {ok:Nat→Prop} {es:List (List D)} {u:Value} (h:aj β bx w ok (.cl es) u):aj β bx w ok (.d (.sl es)) u:=by
 simp only [aj,aK] at h ⊢
 obtain ⟨base,h1,h2⟩:=h
 exact ⟨base,_,h1,Nat.le_refl _,h2⟩
abbrev small:Nat:=9223372036854775807
end Dem
end
section
open Go
namespace Dem
end Dem
namespace Dem
theorem ph (x:Int):IntKind.u64.wrap x=x%18446744073709551616:=by simp [IntKind.wrap,IntKind.signed,IntKind.bits]
theorem lC {x:Int} (h0:-9223372036854775808≤x) (h1:x<9223372036854775808):IntKind.i64.wrap x=x:=by
 simp [IntKind.wrap,IntKind.signed,IntKind.bits];omega
end Dem
namespace Dem
end Dem
namespace Dem
end Dem
namespace Dem
end Dem
end
section
open Go
namespace Dem
structure Term where
 key:aH
 no:Bool
 mI:List aH
deriving DecidableEq
instance:Inhabited Term:=⟨⟨[],false,[]⟩⟩
def Term.cells (x:Term):List D:=[.str x.key,.bool x.no,.sl (x.mI.map bu)]
def yh:Option aH→List aH→Bool
 |_,[]=>true
 |q,v::r=>eC v&&Er q v&&yh (some v) r
def mright (x:Term):Bool:=if yh none x.mI then eC x.key&&decide (x.mI.length≤4) else false
def AP (l:List Term):Bool:=if l.length≤4 then !(l.any fun x=>!mright x) else false
def G2 (l:List dg) (k:aH):aH×Bool:=match l.find? (fun x=>decide (x.key=k)) with
 |some x=>(x.value,true)
 |none=>([],false)
def kT (x:Term) (l:List dg):Bool:=
 (if (G2 l x.key).2 then (if x.mI.length=0 then true else x.mI.contains (G2 l x.key).1) else false)!=x.no
def ny (x:List Term) (l:List dg):Bool:=!(x.any fun m=>!kT m l)
abbrev bK.u' (v:bK):Prop:=(0≤v.a∧v.a<18446744073709551616)∧(0≤v.b∧v.b<18446744073709551616)∧(0≤v.c∧v.c<18446744073709551616)∧(0≤v.d∧v.d<18446744073709551616)
def M3 (x y:Int):Int×Bool:=if x.toNat*y.toNat<18446744073709551616 then (((x.toNat*y.toNat:Nat):Int),true) else (0,false)
def JG (v:bK) (n:Int):bK×Bool:=both (fun x _=>M3 x n) v bK.zero
def iU (x y:Int):Int:=if x<y then -1 else if y<x then 1 else 0
def qZ (a b:bK):Int:=
 if iU a.a b.a≠0 then iU a.a b.a else if iU a.b b.b≠0 then iU a.b b.b else if iU a.c b.c≠0 then iU a.c b.c else iU a.d b.d
structure bZ where
 id:Int
 prio:Int
deriving DecidableEq
instance:Inhabited bZ:=⟨⟨0,0⟩⟩
def bZ.cells (q:bZ):List D:=[.int .u64 q.id,.int .i64 q.prio]
def dh (a b:bZ):Bool:=decide (b.prio<a.prio)||(decide (a.prio=b.prio)&&decide (a.id<b.id))
def vu (l:List bZ) (e:bZ):Nat:=match l.findIdx? (fun x=>dh e x) with
 |some k=>k
 |none=>l.length
def iG (l:List bZ) (id:Int):Int:=idxOf (fun x=>decide (x.id=id)) l
def gF (e:bZ):Bool:=decide (e.prio<0)||decide (9<e.prio)
def jW (l:List bZ) (e:bZ):List bZ×Int:=
 if gF e then (l,1) else if 0≤iG l e.id then (l,8) else if 32≤l.length then (l,9) else
 (l.take (vu l e)++e::l.drop (vu l e),0)
def AQ (l:List bZ) (id:Int):List bZ×Bool:=match l.findIdx? (fun x=>decide (x.id=id)) with
 |some k=>(l.eraseIdx k,true)
 |none=>(l,false)
end Dem
end
