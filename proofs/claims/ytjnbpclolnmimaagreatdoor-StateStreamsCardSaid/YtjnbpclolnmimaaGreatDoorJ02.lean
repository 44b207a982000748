/- Parts of a proof, joined. -/
import Derived.Test.YtjnbpclolnmimaaGreatDoorJ01
import Derived.Laws.Externs
import Derived.Lib.Strings
set_option linter.unusedSimpArgs false
set_option linter.unusedVariables false
set_option maxRecDepth 100000
set_option maxHeartbeats 4000000
section
open Go
namespace Dem
section
variable {P:Program} {T:Nat→Option TI} {G:Nat→Option (List D)} {β:Nat→Nat} {bx:List ax} {w:World} {X:Nat→Prop}
theorem aL {b i:Nat} {B B':ax} (h:(bx.set b B')[i]?=some B):(i=b∧B=B'∧b<bx.length)∨(i≠b∧bx[i]?=some B):=by
 rw [List.getElem?_set] at h
 split at h
 ·rename_i zT;subst zT
  split at h
  ·simp at h;exact .inl ⟨rfl,h.symm,by assumption⟩
  simp at h
 rename_i zT;exact .inr ⟨fun e=>zT e.symm,h⟩
theorem iS {i:Nat} {B:ax} (h:bx[i]?=some B):i<bx.length:=by
 rcases Nat.lt_or_ge i bx.length with h'|h'
 ·exact h'
 simp [List.getElem?_eq_none h'] at h
theorem iT {b:Nat} {B B':ax} (h:bx[b]?=some B):(bx.set b B')[b]?=some B':=by
 have:=iS h
 simp [this]
theorem ix {b i:Nat} {B':ax} (hB:B'.born=true) (h:bV bx i):bV (bx.set b B') i:=by
 obtain ⟨B,h1,h2⟩:=h
 by_cases hi:i=b
 ·subst hi;exact ⟨B',iT h1,hB⟩
 exact ⟨B,by rw [List.getElem?_set_ne (Ne.symm hi)];exact h1,h2⟩
theorem mE {b:Nat} {B B':ax} (hb:bx[b]?=some B) (hl:B.live=true) {c c':Array Value} {e:TypeId} (hh:w.heap[β b]?=some (.cells c e (0,0))) (hc:c'.size=c.size) (S4:B'.born=true):
 Ext β bx w β (bx.set b B') (dW w (β b) (.cells c' e (0,0))):=by
 refine ⟨rfl,rfl,rfl,by simp [dW],?_,?_,fun i hi=>⟨rfl,ix S4 hi⟩,?_⟩
 ·intro k hk hl'
  exact iC (fun e=>hl' b B hb hl e.symm)
 ·intro k c1 e1 f1 hk
  by_cases h:k=β b
  ·subst h
   rw [hh] at hk
   simp only [Option.some.injEq,Obj.cells.injEq] at hk
   obtain ⟨rfl,rfl,rfl⟩:=hk
   exact ⟨c',dL hh,hc⟩
  exact ⟨c1,by rw [iC h];exact hk,rfl⟩
 intro i b' h1 h2
 rcases aL h1 with ⟨rfl,_,_⟩|⟨_,h3⟩
 ·exact .inr ⟨i,B,hb,hl,rfl⟩
 exact .inr ⟨i,b',h3,h2,rfl⟩
theorem uc (cx:ct G β bx w X) {b:Nat} {B B':ax} (hb:bx[b]?=some B) (hl:B.live=true) {c c':Array Value} {e:TypeId} (hh:w.heap[β b]?=some (.cells c e (0,0))) (hc:c'.size=c.size) (S4:B'.born=true)
 (hok:dA β (bx.set b B') (dW w (β b) (.cells c' e (0,0))) (be β (bx.set b B') (dW w (β b) (.cells c' e (0,0))) X) B' (β b)):
 ct G β (bx.set b B') (dW w (β b) (.cells c' e (0,0))) X:=by
 refine cx.step (mE hb hl hh hc S4) ?_ ?_
 ·intro i b' h1
  rcases aL h1 with ⟨rfl,rfl,_⟩|⟨h2,h3⟩
  ·exact .inr hok
  refine .inl ⟨h3,fun hl'=>iC (fun e=>h2 (cx.inj i b b' B h3 hb hl' hl e))⟩
 intro i j bi bj h1 h2 l1 l2 he
 rcases aL h1 with ⟨rfl,rfl,_⟩|⟨h3,h4⟩<;>rcases aL h2 with ⟨rfl,rfl,_⟩|⟨h5,h6⟩
 ·rfl
 ·exact cx.inj _ j B bj hb h6 hl l2 he
 ·exact cx.inj i _ bi B h4 hb l1 hl he
 exact cx.inj i j bi bj h4 h6 l1 l2 he
theorem iy {b:Nat} {B B':ax} (_hb:bx[b]?=some B) (S4:B'.live=false) (dj:B'.born=true):Ext β bx w β (bx.set b B') w:=by
 refine ⟨rfl,rfl,rfl,Nat.le_refl _,fun _ _ _=>rfl,fun k c e f h=>⟨c,h,rfl⟩,fun i hi=>⟨rfl,ix dj hi⟩,?_⟩
 intro i b' h1 h2
 rcases aL h1 with ⟨rfl,rfl,_⟩|⟨_,h3⟩
 ·rw [S4] at h2;simp at h2
 exact .inr ⟨i,b',h3,h2,rfl⟩
theorem jL (cx:ct G β bx w X) {b:Nat} {B B':ax} (hb:bx[b]?=some B) (S4:B'.live=false) (dj:B'.born=true)
 (hok:dA β (bx.set b B') w (be β (bx.set b B') w X) B' (β b)):ct G β (bx.set b B') w X:=by
 refine cx.step (iy hb S4 dj) ?_ ?_
 ·intro i b' h1
  rcases aL h1 with ⟨rfl,rfl,_⟩|⟨h2,h3⟩
  ·exact .inr hok
  exact .inl ⟨h3,fun _=>rfl⟩
 intro i j bi bj h1 h2 l1 l2 he
 rcases aL h1 with ⟨rfl,rfl,_⟩|⟨h3,h4⟩
 ·rw [S4] at l1;simp at l1
 rcases aL h2 with ⟨rfl,rfl,_⟩|⟨h5,h6⟩
 ·rw [S4] at l2;simp at l2
 exact cx.inj i j bi bj h4 h6 l1 l2 he
theorem Mb (cx:ct G β bx w X) {b:Nat} {sz:Nat} {es:List (List D)} (hb:bx[b]?=some (.row sz es)):
 Ext β bx w β (bx.set b (.oh sz es)) w∧ct G β (bx.set b (.oh sz es)) w X∧(es=[]∨be β (bx.set b (.oh sz es)) w X (β b)∧av w (be β (bx.set b (.oh sz es)) w X) (β b) sz es 0):=by
 have ex:Ext β bx w β (bx.set b (.oh sz es)) w:=iy hb rfl rfl
 have key:es=[]∨be β (bx.set b (.oh sz es)) w X (β b)∧av w (be β (bx.set b (.oh sz es)) w X) (β b) sz es 0:=by
  rcases cx.box b _ hb with h|⟨c,e,h1,h2⟩
  ·exact .inl h
  cases es with
  |nil=>exact .inl rfl
  |cons r rs=>
   refine .inr ⟨⟨eK h1,cx.apart b _ hb rfl,?_⟩,av.mono (ex.keeps X) _ _ (fun _=>rfl) _ _ h2⟩
   intro i b' h3 h4 he
   rcases aL h3 with ⟨rfl,rfl,_⟩|⟨h5,h6⟩
   ·simp [ax.live] at h4
   exact h5 (cx.inj i b b' _ h6 hb h4 rfl he)
 exact ⟨ex,jL cx hb rfl rfl key,key⟩
theorem av.lens {ok:Nat→Prop} {aB sz:Nat}:∀(es:List (List D)) (off:Nat),av w ok aB sz es off→∀r∈es,r.length=sz
 |[],_,_=>by simp
 |r::rs,off,h=>by
  simp only [av] at h
  intro x hx
  rcases List.mem_cons.1 hx with rfl|hx
  ·exact h.1
  exact av.lens rs _ h.2.2 x hx
theorem jM {ok:Nat→Prop} {aB sz:Nat}:∀(es:List (List D)) (off:Nat),av w ok aB sz es off→∃vs,vs.length=es.length*sz∧(∀j v,vs[j]?=some v→w.cell? ⟨aB,off+j,none⟩=some v)∧
 aj β bx w ok (es.flatten.map .d) vs
 |[],off,_=>⟨[],by simp,by simp,by simp [aj]⟩
 |r::rs,off,h=>by
  simp only [av] at h
  obtain ⟨h1,h2,h3⟩:=h
  obtain ⟨vs,g1,g2,g3⟩:=sA (β:=β) (bx:=bx) r off h2
  obtain ⟨us,k1,k2,k3⟩:=jM rs (off+sz) h3
  refine ⟨vs++us,by simp [g1,k1,h1,Nat.add_mul];omega,?_,by simpa using aj.append g3 k3⟩
  intro j v hj
  rcases Nat.lt_or_ge j vs.length with hlt|hge
  ·rw [List.getElem?_append_left hlt] at hj;exact g2 j v hj
  rw [List.getElem?_append_right hge] at hj
  have:=k2 _ v hj
  rwa [show off+sz+(j-vs.length)=off+j by omega] at this
theorem EH {ok:Nat→Prop} {aB:Nat}:∀(ds:List D) (off:Nat) (vs:List Value),(∀j v,vs[j]?=some v→w.cell? ⟨aB,off+j,none⟩=some v)→aj β bx w ok (ds.map .d) vs→aY w ok aB ds off
 |[],_,_,_,_=>by simp [aY]
 |x::xs,off,vs,hc,h=>by
  simp only [List.map_cons,aj,ah] at h
  obtain ⟨u,us,rfl,g1,g2⟩:=h
  simp only [aY]
  refine ⟨⟨u,by simpa using hc 0 u rfl,g1⟩,EH xs (off+1) us (fun j v hj=>?_) g2⟩
  have:=hc (j+1) v (by simpa using hj)
  rwa [show off+(j+1)=off+1+j by omega] at this
theorem nw {ok:Nat→Prop} {aB sz:Nat}:∀(es:List (List D)) (off:Nat) (vs:List Value),(∀r∈es,r.length=sz)→(∀j v,vs[j]?=some v→w.cell? ⟨aB,off+j,none⟩=some v)→
 aj β bx w ok (es.flatten.map .d) vs→av w ok aB sz es off
 |[],_,_,_,_,_=>by simp [av]
 |r::rs,off,vs,hl,hc,h=>by
  simp only [List.flatten_cons,List.map_append] at h
  have h1:=aj.take r.length h
  have h2:=aj.drop r.length h
  rw [List.take_left' (by simp)] at h1
  rw [List.drop_left' (by simp)] at h2
  have hr:r.length=sz:=hl r (by simp)
  simp only [av]
  refine ⟨hr,EH r off _ (fun j v hj=>?_) h1,nw rs (off+sz) _ (fun x hx=>hl x (by simp [hx])) (fun j v hj=>?_) h2⟩
  ·rw [List.getElem?_take] at hj
   split at hj
   ·exact hc j v hj
   simp at hj
  rw [List.getElem?_drop] at hj
  have:=hc _ v hj
  rwa [show off+(r.length+j)=off+sz+j by omega] at this
theorem Au {ok:Nat→Prop} {x:AV} {es:List (List D)} {u:Value} (hx:∀b sz n,x≠.ow b sz n) (Mc:x.uX=false) (hr:x.rows bx=some es) (h:ah β bx w ok x u):
 ∃base cap,u=.slice base es.length cap∧es.length≤cap∧(es=[]∨∃aB off sz,base=some ⟨aB,off,none⟩∧ok aB∧av w ok aB sz es off):=by
 cases x with
 |d y=>
  cases y with
  |sl es'=>simp only [AV.rows,Option.some.injEq] at hr;subst hr;simpa [ah,aK] using h
  |_=>simp [AV.rows] at hr
 |cl es'=>
  simp only [AV.rows,Option.some.injEq] at hr;subst hr
  simp only [ah] at h
  obtain ⟨base,rfl,g⟩:=h
  exact ⟨base,_,rfl,Nat.le_refl _,g⟩
 |ow b sz n=>exact absurd rfl (hx b sz n)
 |vw b sz off n c ex=>simp [AV.uX] at Mc
 |_=>simp [AV.rows] at hr
theorem av.PJ {ok:Nat→Prop} {aB sz:Nat}:∀(n:Nat) (es:List (List D)) (off:Nat),av w ok aB sz es off→av w ok aB sz (es.drop n) (off+n*sz)
 |0,es,off,h=>by simpa using h
 |n+1,[],off,h=>by simp [av]
 |n+1,r::rs,off,h=>by
  simp only [av] at h
  have:=av.PJ n rs (off+sz) h.2.2
  simpa [Nat.add_mul,show off+sz+n*sz=off+(n*sz+sz) by omega] using this
theorem av.Gt {ok:Nat→Prop} {aB sz:Nat}:∀(n:Nat) (es:List (List D)) (off:Nat),av w ok aB sz es off→av w ok aB sz (es.take n) off
 |0,es,off,h=>by simp [av]
 |n+1,[],off,h=>by simp [av]
 |n+1,r::rs,off,h=>by
  simp only [av] at h
  simp only [List.take_succ_cons,av]
  exact ⟨h.1,h.2.1,av.Gt n rs _ h.2.2⟩
theorem Dh {s sz n m:Nat} {α:Type} {x y:α} (h:(bif Nat.beq s sz&&Nat.ble n m then some x else none)=some y):s=sz∧n≤m∧x=y:=by
 cases h1:Nat.beq s sz<;>cases h2:Nat.ble n m<;>simp [h1,h2] at h
 exact ⟨Nat.eq_of_beq_eq_true h1,Nat.le_of_ble_eq_true h2,h⟩
theorem pe {b sz off n c:Nat} {ex:Bool} {Md:List (List D)} {JO:Nat→Prop} {u:Value} {ok:Nat→Prop} (hn:off+n≤Md.length) (hrows:Md=[]∨av w JO (β b) sz Md 0) (h:ah β bx w ok (.vw b sz off n c ex) u):
 ∃base cap,u=.slice base ((Md.drop off).take n).length cap∧((Md.drop off).take n).length≤cap∧((Md.drop off).take n=[]∨base=some ⟨β b,off*sz,none⟩∧av w JO (β b) sz ((Md.drop off).take n) (off*sz)):=by
 simp only [ah] at h
 obtain ⟨_,base,cap,cs,e,f,rfl,h1,h2,h3,h4⟩:=h
 have hlen:((Md.drop off).take n).length=n:=by simp;omega
 refine ⟨base,cap,by rw [hlen],by rw [hlen];exact h1,?_⟩
 by_cases hn0:n=0
 ·subst hn0;exact .inl (by simp)
 right
 rcases h4 with h4|⟨h4,_⟩
 ·omega
 refine ⟨h4,?_⟩
 rcases hrows with rfl|hrows
 ·simp at hn;omega
 have:=av.Gt n _ _ (av.PJ off _ _ hrows)
 simpa using this
theorem Np {s sz n m:Nat} {α:Type} {x y:α} (h:(bif Nat.beq s sz&&Nat.beq n m then some x else none)=some y):s=sz∧n=m∧x=y:=by
 cases h1:Nat.beq s sz<;>cases h2:Nat.beq n m<;>simp [h1,h2] at h
 exact ⟨Nat.eq_of_beq_eq_true h1,Nat.eq_of_beq_eq_true h2,h⟩
theorem vc (cx:ct G β bx w X) {b sz n:Nat} {es:List (List D)} {u:Value} (hr:(AV.ow b sz n).rows bx=some es) (h:ah β bx w (be β bx w X) (.ow b sz n) u):
 n=es.length∧(∃base cap,u=.slice base es.length cap∧es.length≤cap∧(es=[]∧cap=0∨es≠[]∧base=some ⟨β b,0,none⟩∧av w (be β bx w X) (β b) sz es 0∧
  ∃c e f,w.heap[β b]?=some (.cells c e f)∧cap*sz≤c.size)):=by
 have main:∀es',n=es'.length→(es'=[]∨av w (be β bx w X) (β b) sz es' 0)→∃base cap,u=.slice base es'.length cap∧es'.length≤cap∧(es'=[]∧cap=0∨es'≠[]∧base=some ⟨β b,0,none⟩∧av w (be β bx w X) (β b) sz es' 0∧
  ∃c e f,w.heap[β b]?=some (.cells c e f)∧cap*sz≤c.size):=by
  intro es' hn hrows
  simp only [ah] at h
  obtain ⟨_,⟨h0,base,rfl⟩|⟨h0,cap,c,e,f,rfl,h1,h2,h3⟩⟩:=h
  ·have:es'=[]:=by simpa using (hn.symm.trans h0)
   subst this
   exact ⟨base,0,by simp,by simp,.inl ⟨rfl,rfl⟩⟩
  rcases hrows with rfl|hrows
  ·exact absurd (by simpa using hn) h0
  exact ⟨_,cap,by rw [hn],by omega,.inr ⟨by rintro rfl;exact h0 (by simpa using hn),rfl,hrows,c,e,f,h2,h3⟩⟩
 simp only [AV.rows] at hr
 split at hr
 ·rename_i s es' hb
  obtain ⟨rfl,rfl,rfl⟩:=Np hr
  exact ⟨rfl,main _ rfl ((cx.box b _ hb).imp id fun ⟨_,_,_,g⟩=>g)⟩
 ·rename_i s es' hb
  obtain ⟨rfl,rfl,rfl⟩:=Np hr
  exact ⟨rfl,main _ rfl ((cx.box b _ hb).imp id fun ⟨_,g⟩=>g)⟩
 simp at hr
theorem We {b sz n:Nat} {y:D} (h:(AV.ow b sz n).tD bx=some y):∃es,y=.sl es∧(AV.ow b sz n).rows bx=some es:=by
 simp only [AV.tD] at h
 simp only [AV.rows]
 split at h
 ·rename_i s es hb
  obtain ⟨rfl,rfl,rfl⟩:=Np h
  exact ⟨es,rfl,by simp [hb]⟩
 ·rename_i s es hb
  obtain ⟨rfl,rfl,rfl⟩:=Np h
  exact ⟨es,rfl,by simp [hb]⟩
 simp at h
theorem jN (cx:ct G β bx w X) {x:AV} {es:List (List D)} {u:Value} (hr:x.rows bx=some es) (h:ah β bx w (be β bx w X) x u):
 Ext β bx w β (x.cz bx) w∧ct G β (x.cz bx) w X∧
 ∃base cap,u=.slice base es.length cap∧es.length≤cap∧(es=[]∨∃aB off sz,base=some ⟨aB,off,none⟩∧be β (x.cz bx) w X aB∧av w (be β (x.cz bx) w X) aB sz es off):=by
 by_cases hx:∃b sz n,x=.ow b sz n
 ·obtain ⟨b,sz,n,rfl⟩:=hx
  obtain ⟨hn,base,cap,rfl,h1,h2⟩:=vc cx hr h
  simp only [AV.rows] at hr
  split at hr
  ·rename_i s es' hb
   obtain ⟨rfl,_,rfl⟩:=Np hr
   obtain ⟨g1,g2,g3⟩:=Mb cx hb
   have qT:(AV.ow b s n).cz bx=bx.set b (.oh s es'):=by simp [AV.cz,hb]
   rw [qT]
   refine ⟨g1,g2,base,cap,rfl,h1,?_⟩
   rcases h2 with ⟨rfl,_⟩|⟨hne,rfl,_⟩
   ·exact .inl rfl
   rcases g3 with rfl|⟨g3,g4⟩
   ·exact .inl rfl
   exact .inr ⟨β b,0,s,rfl,g3,g4⟩
  ·rename_i s es' hb
   obtain ⟨rfl,_,rfl⟩:=Np hr
   have qT:(AV.ow b s n).cz bx=bx:=by simp [AV.cz,hb]
   rw [qT]
   refine ⟨Ext.refl _ _ _,cx,base,cap,rfl,h1,?_⟩
   rcases h2 with ⟨rfl,_⟩|⟨hne,rfl,g,_⟩
   ·exact .inl rfl
   rcases cx.box b _ hb with rfl|⟨g3,g4⟩
   ·exact .inl rfl
   exact .inr ⟨β b,0,s,rfl,g3,g4⟩
  simp at hr
 have hx':∀b sz n,x≠.ow b sz n:=fun b sz n e=>hx ⟨b,sz,n,e⟩
 cases hv:x.uX with
 |true=>
  cases x with
  |vw b sz off n c ex=>
   simp only [AV.rows] at hr
   split at hr
   ·rename_i s es' hb
    obtain ⟨rfl,hle,rfl⟩:=Dh hr
    obtain ⟨g1,g2,g3⟩:=Mb cx hb
    have qT:(AV.vw b s off n c ex).cz bx=bx.set b (.oh s es'):=by simp [AV.cz,hb]
    rw [qT]
    refine ⟨g1,g2,?_⟩
    obtain ⟨base,cap,rfl,k1,k2⟩:=pe (JO:=be β (bx.set b (.oh s es')) w X) hle (g3.imp id fun g=>g.2) h
    refine ⟨base,cap,rfl,k1,?_⟩
    rcases g3 with rfl|⟨g3,_⟩
    ·left;simp
    rcases k2 with k2|⟨rfl,k3⟩
    ·exact .inl k2
    exact .inr ⟨β b,off*s,s,rfl,g3,k3⟩
   ·rename_i s es' hb
    obtain ⟨rfl,hle,rfl⟩:=Dh hr
    have qT:(AV.vw b s off n c ex).cz bx=bx:=by simp [AV.cz,hb]
    rw [qT]
    refine ⟨Ext.refl _ _ _,cx,?_⟩
    have g3:=cx.box b _ hb
    obtain ⟨base,cap,rfl,k1,k2⟩:=pe (JO:=be β bx w X) hle (g3.imp id fun g=>g.2) h
    refine ⟨base,cap,rfl,k1,?_⟩
    rcases g3 with rfl|⟨g3,_⟩
    ·left;simp
    rcases k2 with k2|⟨rfl,k3⟩
    ·exact .inl k2
    exact .inr ⟨β b,off*s,s,rfl,g3,k3⟩
   simp at hr
  |_=>simp [AV.uX] at hv
 |false=>
 have qT:x.cz bx=bx:=by cases x<;>simp_all [AV.cz,AV.uX]
 rw [qT]
 exact ⟨Ext.refl _ _ _,cx,Au hx' hv hr h⟩
theorem Av (cx:ct G β bx w X) {x:AV} {y:D} {u:Value} (hd:x.tD bx=some y) (h:ah β bx w (be β bx w X) x u):
 Ext β bx w β (x.cz bx) w∧ct G β (x.cz bx) w X∧aK w (be β (x.cz bx) w X) y u:=by
 cases x with
 |d x=>simp only [AV.tD,Option.some.injEq] at hd;subst hd;exact ⟨Ext.refl _ _ _,cx,h⟩
 |cl es=>
  simp only [AV.tD,Option.some.injEq] at hd;subst hd
  obtain ⟨g1,g2,g3⟩:=jN cx (x:=.cl es) (es:=es) rfl h
  exact ⟨g1,g2,by simpa [aK] using g3⟩
 |ow b sz n=>
  obtain ⟨es,rfl,hr⟩:=We hd
  obtain ⟨g1,g2,g3⟩:=jN cx hr h
  exact ⟨g1,g2,by simpa [aK] using g3⟩
 |fn f cs=>
  cases cs with
  |nil=>
   simp only [AV.tD,Option.some.injEq] at hd;subst hd
   simp only [ah,aj] at h
   obtain ⟨vs,rfl,rfl⟩:=h
   exact ⟨Ext.refl _ _ _,cx,by simp [Aq,aK]⟩
  |cons c cs=>simp [AV.tD] at hd
 |_=>simp [AV.tD] at hd
theorem ve {z:AV} {i s:Nat} {es:List (List D)} (h:bx[i]?=some (.row s es)∨bx[i]?=some (.oh s es)):(z.cz bx)[i]?=some (.row s es)∨(z.cz bx)[i]?=some (.oh s es):=by
 cases z with
 |ow b sz n=>
  simp only [AV.cz]
  split
  ·rename_i s' es' hb
   by_cases hi:i=b
   ·subst hi
    rw [hb] at h
    simp at h
    obtain ⟨rfl,rfl⟩:=h
    exact .inr (iT hb)
   rw [List.getElem?_set_ne (Ne.symm hi)];exact h
  exact h
 |vw b sz off n c ex=>
  simp only [AV.cz]
  split
  ·rename_i s' es' hb
   by_cases hi:i=b
   ·subst hi
    rw [hb] at h
    simp at h
    obtain ⟨rfl,rfl⟩:=h
    exact .inr (iT hb)
   rw [List.getElem?_set_ne (Ne.symm hi)];exact h
  exact h
 |_=>exact h
theorem Di {x z:AV} {y:D} (h:x.tD bx=some y):x.tD (z.cz bx)=some y:=by
 cases x with
 |ow b sz n=>
  simp only [AV.tD] at h ⊢
  split at h
  ·rename_i s es hb
   rcases ve (z:=z) (.inl hb) with g|g<;>simp [g,h]
  ·rename_i s es hb
   rcases ve (z:=z) (.inr hb) with g|g<;>simp [g,h]
  simp at h
 |fn f cs=>cases cs with
  |nil=>exact h
  |cons c cs=>exact h
 |_=>exact h
theorem ue {z:AV}:∀{xs:List AV} {ys:List D},iJ bx xs=some ys→iJ (z.cz bx) xs=some ys
 |[],ys,h=>h
 |x::xs,ys,h=>by
  simp only [iJ] at h ⊢
  split at h
  ·rename_i y ys' hy hys
   rw [Di hy,ue hys];exact h
  simp at h
theorem xe:∀(xs:List AV) (bx:List ax) (ys:List D) (vs:List Value),ct G β bx w X→iJ bx xs=some ys→aj β bx w (be β bx w X) xs vs→
 Ext β bx w β (dY bx xs) w∧ct G β (dY bx xs) w X∧aj β (dY bx xs) w (be β (dY bx xs) w X) (ys.map .d) vs
 |[],bx,ys,vs,cx,hd,h=>by simp [iJ] at hd;subst hd;exact ⟨Ext.refl _ _ _,cx,by simpa [dY] using h⟩
 |x::xs,bx,ys,vs,cx,hd,h=>by
  simp only [iJ] at hd
  split at hd
  ·rename_i y ys' hy hys
   simp at hd;subst hd
   simp only [aj] at h
   obtain ⟨u,us,rfl,g1,g2⟩:=h
   obtain ⟨e1,c1,r1⟩:=Av cx hy g1
   obtain ⟨e2,c2,r2⟩:=xe xs (x.cz bx) ys' us c1 (ue hys) (aj.mono (e1.dQ X) _ _ g2)
   refine ⟨e1.trans e2,c2,?_⟩
   simp only [dY,List.map_cons,aj,ah]
   exact ⟨u,us,rfl,aK.mono (e2.keeps X) _ _ r1,r2⟩
  simp at hd
theorem mF:∀(l m:List Value) (n:Nat) (vs:List Value),n+vs.length≤l.length→bc (l++m) n vs=bc l n vs++m
 |l,m,n,[],_=>by cases l<;>cases m<;>simp [bc]
 |[],m,n,v::vs,h=>by simp at h
 |c::cs,m,0,v::vs,h=>by
  simp only [List.length_cons] at h
  simp only [List.cons_append,bc]
  rw [mF cs m 0 vs (by omega)]
 |c::cs,m,n+1,v::vs,h=>by
  simp only [List.length_cons] at h
  simp only [List.cons_append,bc]
  rw [mF cs m n (v::vs) (by simp;omega)]
theorem mG:∀(l:List D) (n:Nat) (vs:List D),(bF l n vs).length=l.length
 |l,n,[]=>by cases l<;>simp [bF]
 |[],n,v::vs=>by simp [bF]
 |c::cs,0,v::vs=>by simp [bF,mG cs 0 vs]
 |c::cs,n+1,v::vs=>by simp [bF,mG cs n (v::vs)]
theorem qV:∀(l:List D) (n:Nat) (vs:List D),(bF l n vs).map AV.d=eD (l.map .d) n (vs.map .d)
 |l,n,[]=>by cases l<;>simp [bF,eD]
 |[],n,v::vs=>by simp [bF,eD]
 |c::cs,0,v::vs=>by simp [bF,eD,qV cs 0 vs]
 |c::cs,n+1,v::vs=>by simp [bF,eD];rw [qV cs n (v::vs)];simp
theorem vf:∀(l m:List D) (n:Nat) (vs:List D),bF (l++m) (l.length+n) vs=l++bF m n vs
 |[],m,n,vs=>by simp
 |c::cs,m,n,vs=>by
  cases vs with
  |nil=>cases m<;>simp [bF]
  |cons v vs=>
   rw [show (c::cs).length+n=(cs.length+n)+1 by simp;omega]
   simp only [List.cons_append,bF]
   rw [vf cs m n (v::vs)]
theorem nO:∀(l m:List D) (n:Nat) (vs:List D),n+vs.length≤l.length→bF (l++m) n vs=bF l n vs++m
 |l,m,n,[],_=>by cases l<;>cases m<;>simp [bF]
 |[],m,n,v::vs,h=>by simp at h
 |c::cs,m,0,v::vs,h=>by
  simp only [List.length_cons] at h
  simp only [List.cons_append,bF]
  rw [nO cs m 0 vs (by omega)]
 |c::cs,m,n+1,v::vs,h=>by
  simp only [List.length_cons] at h
  simp only [List.cons_append,bF]
  rw [nO cs m n (v::vs) (by simp;omega)]
theorem qW {sz:Nat}:∀(es:List (List D)) (i j:Nat) (ds:List D),(∀r∈es,r.length=sz)→i<es.length→j+ds.length≤(es.getD i []).length→
 (es.set i (bF (es.getD i []) j ds)).flatten=bF es.flatten (i*sz+j) ds
 |[],i,j,ds,_,h,_=>by simp at h
 |r::rs,0,j,ds,hl,_,hj=>by
  simp at hj
  simp only [List.set_cons_zero,List.flatten_cons,Nat.zero_mul,Nat.zero_add]
  rw [nO r _ j ds hj]
  simp
 |r::rs,i+1,j,ds,hl,hi,hj=>by
  have hr:r.length=sz:=hl r (by simp)
  simp at hi hj
  have:=qW rs i j ds (fun x hx=>hl x (by simp [hx])) hi (by simpa using hj)
  simp only [List.set_cons_succ,List.flatten_cons,List.getD_cons_succ]
  rw [this,show (i+1)*sz+j=r.length+(i*sz+j) by rw [hr,Nat.add_mul];omega,vf]
theorem PK {ok:Nat→Prop} {x:AV} {y:D} {u:Value} (h:x.tD []=some y) (hx:ah β bx w ok x u):aK w ok y u:=by
 cases x with
 |d x=>simp only [AV.tD,Option.some.injEq] at h;subst h;simpa [ah] using hx
 |cl es=>
  simp only [AV.tD,Option.some.injEq] at h;subst h
  simp only [ah] at hx
  obtain ⟨base,rfl,g⟩:=hx
  simp only [aK];exact ⟨base,_,rfl,Nat.le_refl _,g⟩
 |ow b sz n=>simp [AV.tD] at h
 |fn f cs=>
  cases cs with
  |nil=>
   simp only [AV.tD,Option.some.injEq] at h;subst h
   simp only [ah,aj] at hx
   obtain ⟨vs,rfl,rfl⟩:=hx
   simp [aK,Aq]
  |cons c cs=>simp [AV.tD] at h
 |_=>simp [AV.tD] at h
theorem sC {ok:Nat→Prop}:∀{xs:List AV} {ys:List D} {us:List Value},iJ [] xs=some ys→aj β bx w ok xs us→aj β bx w ok (ys.map .d) us
 |[],ys,us,h,hx=>by simp [iJ] at h;subst h;simpa using hx
 |x::xs,ys,us,h,hx=>by
  simp only [iJ] at h
  split at h
  ·rename_i y ys' h1 h2
   simp only [Option.some.injEq] at h;subst h
   simp only [aj] at hx
   obtain ⟨u,PI,rfl,g1,g2⟩:=hx
   simp only [List.map_cons,aj,ah]
   exact ⟨u,PI,rfl,PK h1 g1,sC h2 g2⟩
  simp at h
end
end Dem
end
section
open Go
namespace Dem
section
variable {P:Program} {T:Nat→Option TI} {G:Nat→Option (List D)} {β:Nat→Nat} {bx:List ax} {w:World} {X:Nat→Prop}
theorem pg {w:World} {aB:Nat} {c:Array Value} {e:TypeId} {f:Nat×Nat} (h:w.heap[aB]?=some (.cells c e f)) {vs:List Value} (hc:∀j v,vs[j]?=some v→w.cell? ⟨aB,0+j,none⟩=some v):
 ∃rest,c.toList=vs++rest:=by
 refine ⟨c.toList.drop vs.length,?_⟩
 have:vs=c.toList.take vs.length:=by
  apply List.ext_getElem?
  intro j
  rw [List.getElem?_take]
  split
  ·rename_i hj
   have h1:=hc j vs[j] (by simp [hj])
   simp only [World.cell?,h] at h1
   simp only [hj,List.getElem?_eq_getElem]
   simpa using h1.symm
  rename_i hj;simp;omega
 conv=>lhs;rw [←List.take_append_drop vs.length c.toList]
 rw [←this]
theorem PL {es:List (List D)} {i:Nat} (h:i<es.length):es.getD i []∈es:=by
 simp [List.getD_eq_getElem?_getD,h]
theorem Gu (hT:iH P T) (cx:ct G β bx w X) {t:Nat} {ti:TI} (ht:T t=some ti) {a x:AV} {ua ux:Value} (ha:ah β bx w (be β bx w X) a ua) (hx:ah β bx w (be β bx w X) x ux)
 {c:Prop} {v:AV} {b:Option (List ax)} (hr:tX ti a x bx=some ⟨c,v,b⟩) (hc:c):
 v=.any∧∃aG w',b=some aG∧(Instr.storeAt t ua ux).run P w=.ok () w'∧Ext β bx w β aG w'∧ct G β aG w' X:=by
 have ht':=hT.ti t ti ht
 unfold tX at hr
 split at hr
 ·simp at hr
 rename_i vs hvs
 cases hn:Nat.beq vs.length ti.size with
 |false=>simp [hn] at hr
 |true=>
 have hn':=Nat.eq_of_beq_eq_true hn
 simp only [hn,cond_true] at hr
 obtain ⟨us,hcells,S5,hsc⟩:=ot hvs hx
 have hul:=aj.length S5
 split at hr
 ·rename_i b' off
  simp only [ah] at ha
  obtain ⟨rfl,hb⟩:=ha
  split at hr
  ·rename_i cs sB
   cases hle:Nat.ble (off+vs.length) cs.length with
   |false=>simp [hle] at hr
   |true=>
   have hle':=Nat.le_of_ble_eq_true hle
   simp only [hle,cond_true,Option.some.injEq,R.mk.injEq] at hr
   obtain ⟨_,rfl,rfl⟩:=hr
   obtain ⟨ca,e,h1,h2⟩:=cx.box _ _ sB
   have S6:=aj.length h2
   have hrun:=vb (P:=P) ht' h1 hcells hsc (by omega) (off:=off) (by simp at S6;omega)
   refine ⟨rfl,_,_,rfl,by simpa [Instr.storeAt,Instr.sureAddr] using hrun,?_,?_⟩
   ·exact mE sB rfl h1 (by simp [cZ]) rfl
   have ex:=mE (B':=.var (eD cs off vs)) (c':=⟨bc ca.toList off us⟩) sB rfl h1 (by simp [cZ]) rfl
   refine uc cx sB rfl h1 (by simp [cZ]) rfl ⟨_,e,dL h1,?_⟩
   exact aj.mono (ex.dQ X) _ _ (aj.eD off h2 S5)
  simp at hr
 ·rename_i b' sz i j
  simp only [ah] at ha
  obtain ⟨rfl,hb⟩:=ha
  split at hr
  ·rename_i ds hds
   split at hr
   ·rename_i s es sB
    simp only [Option.some.injEq,R.mk.injEq] at hr
    obtain ⟨rfl,rfl,rfl⟩:=hr
    obtain ⟨rfl,hi,hj⟩:=hc
    obtain ⟨e1,c1,r1⟩:=xe vs bx ds us cx hds S5
    rcases c1.box _ _ sB with rfl|⟨ca,e,h1,h2⟩
    ·simp at hi
    have yF:=av.lens _ _ h2
    obtain ⟨CJ,g1,g2,g3⟩:=jM (β:=β) (bx:=dY bx vs) es 0 h2
    obtain ⟨rest,qg⟩:=pg h1 g2
    have Nq:us.length=ds.length:=by simpa using aj.length r1
    have hrow:(es.getD i []).length=s:=yF _ (PL hi)
    have hle:i*s+j+us.length≤CJ.length:=by
     rw [g1,Nq]
     have:(i+1)*s≤es.length*s:=Nat.mul_le_mul_right _ hi
     rw [Nat.add_mul] at this;omega
    have hsize:ca.size=CJ.length+rest.length:=by
     have:=congrArg List.length qg;simpa using this
    have cr:(ax.row s es).live=true:=by cases es<;>simp_all [ax.live]
    have hrun:=vb (P:=P) ht' h1 hcells hsc (by omega) (off:=i*s+j) (by omega)
    have hne:es.set i (bF (es.getD i []) j ds)≠[]:=by cases es<;>simp_all
    have ex:=mE (B':=.row s (es.set i (bF (es.getD i []) j ds))) (c':=⟨bc ca.toList (i*s+j) us⟩) sB cr h1 (by simp [cZ]) rfl
    refine ⟨rfl,_,_,rfl,by simpa [Instr.storeAt,Instr.sureAddr] using hrun,e1.trans ex,?_⟩
    refine uc c1 sB cr h1 (by simp [cZ]) rfl (.inr ⟨_,e,dL h1,?_⟩)
    refine nw (β:=β) (bx:=(dY bx vs).set b' (.row s (es.set i (bF (es.getD i []) j ds)))) _ _ (bc CJ (i*s+j) us) ?_ ?_ ?_
    ·intro r hr
     rcases List.mem_or_eq_of_mem_set hr with hr|rfl
     ·exact yF r hr
     rw [mG];exact hrow
    ·intro k u hk
     simp only [World.cell?,dL h1]
     have:(bc ca.toList (i*s+j) us)[k]?=some u:=by
      rw [qg,mF _ _ _ _ hle,List.getElem?_append_left]
      ·exact hk
      rcases Nat.lt_or_ge k (bc CJ (i*s+j) us).length with h|h
      ·exact h
      simp [List.getElem?_eq_none h] at hk
     simpa using this
    rw [qW es i j ds yF hi hj,qV]
    exact aj.mono (ex.dQ X) _ _ (aj.eD _ g3 r1)
   simp at hr
  simp at hr
 simp at hr
end
end Dem
end
section
open Go
namespace Dem
section
variable {P:Program} {T:Nat→Option TI} {G:Nat→Option (List D)} {β:Nat→Nat} {bx:List ax} {w:World} {X:Nat→Prop}
theorem Aw {ok:Nat→Prop} (v:Value):ah β bx w ok (JJ v) v:=by
 unfold JJ
 split<;>simp only [ah,aK,KC.val]
 exact ⟨none,rfl,.inl trivial⟩
theorem Dj {ok:Nat→Prop}:∀vs:List Value,aj β bx w ok (vs.map JJ) vs
 |[]=>by simp [aj]
 |v::vs=>by simp only [List.map_cons,aj];exact ⟨v,vs,rfl,Aw v,Dj vs⟩
theorem vg {ok:Nat→Prop} (v:Value):ah β bx w ok (SY v) v:=by
 unfold SY
 split
 ·rename_i cs
  simp only [ah]
  exact ⟨cs.toList,rfl,Dj _⟩
 exact Aw v
theorem yG (cx:ct G β bx w X) (t:Nat) {x:AV} {u:Value} {cs:List AV} (hx:x.cells?=some cs) (h:ah β bx w (be β bx w X) x u):
 ∃β' w',(newVar t u).run P w=.ok ⟨β' bx.length,0,none⟩ w'∧Ext β bx w β' (bx++[.var cs]) w'∧ct G β' (bx++[.var cs]) w' X:=by
 obtain ⟨vs,h1,h2,h3⟩:=ot hx h
 refine ⟨lq β bx.length w.heap.size,{w with heap:=w.heap.push (.cells ⟨vs⟩ t)},?_,fH _ _,kJ cx _ _ ?_⟩
 ·simp [newVar,newRow,newObj,Sem.run,h1,bt]
 refine ⟨⟨vs⟩,t,iQ _ _,?_⟩
 exact aj.mono ((fH (β:=β) (bx:=bx) (w:=w) (.cells ⟨vs⟩ t) (.var cs)).dQ X) _ _ h2
theorem Gv {t:Nat} {ti:TI} (ht:qz P t=some ti) {f o ft:Nat} (ho:Aj ti.kd f=some (o,ft)) {tf:TI} (hft:qz P ft=some tf) (hs:tf.size≠0) (aB off:Nat):
 (Instr.fieldAt t (.pointer (some ⟨aB,off,none⟩)) f).run P w=.ok (.pointer (some ⟨aB,off+o,none⟩)) w:=by
 obtain ⟨i,d,h1,h2,h3,h4,h5,h6⟩:=aJ ht
 obtain ⟨fi,fd,g1,g2,g3,g4,g5,g6⟩:=aJ hft
 rw [h5] at ho
 cases d<;>simp [cJ,Aj] at ho
 rename_i fs
 obtain ⟨fl,hfl,rfl,rfl⟩:=ho
 have hsz:fi.size≠0:=by rw [←g3];exact hs
 simp [Instr.fieldAt,aQ h2,hfl,Instr.sureAddr,fieldPlace,bN g1,hsz,fy]
theorem ou {t:Nat} {ti:TI} (ht:qz P t=some ti) {cs:List AV} {v:AV} {vs:List Value} {ok:Nat→Prop} {off:Nat}
 (hs:cC ti.kd.isAgg ti.size (cs.drop off)=some v) (hr:aj β bx w ok cs vs):
 ∃u,(part t ⟨vs⟩ off).run P w=.ok u w∧ah β bx w ok v u:=by
 obtain ⟨i,d,h1,h2,h3,h4,h5,h6⟩:=aJ ht
 have hr':=aj.drop off hr
 unfold cC at hs
 simp only [part,Sem.run_bind,Dg h2,Result.andThen_ok,h5] at hs ⊢
 cases hk:(cJ d).isAgg with
 |true=>
  simp only [hk,cond_true] at hs
  cases hle:Nat.ble ti.size (cs.drop off).length with
  |false=>rw [hle] at hs;simp at hs
  |true=>
   simp only [hle,cond_true,Option.some.injEq] at hs
   subst hs
   simp only [if_true,Sem.run_bind,bN h1,Result.andThen_ok]
   refine ⟨_,rfl,?_⟩
   simp only [ah]
   refine ⟨(vs.drop off).take ti.size,?_,aj.take _ hr'⟩
   simp [h3,List.extract_eq_take_drop]
 |false=>
  simp only [hk,cond_false] at hs
  cases hc:cs.drop off with
  |nil=>simp [hc] at hs
  |cons c cs'=>
   simp [hc] at hs;subst hs
   rw [hc] at hr'
   simp only [aj] at hr'
   obtain ⟨u,us,hd,g1,_⟩:=hr'
   have:vs[off]?=some u:=by
    have:=congrArg (fun l=>l[0]?) hd
    simpa using this
   simp [this]
   exact g1
theorem Gw (ok:Nat→Prop) {op:BinOp} {k:IntKind} {x y:Int} {c:Prop} {d:D} (h:SZ op k x y=some (c,d)) (hc:c) (t:Nat):
 ∃u,(Go.binOp op t (.int k x) (.int k y)).run P w=.ok u w∧aK w ok d u:=by
 cases op<;>simp only [SZ,Option.some.injEq,Prod.mk.injEq,reduceCtorEq] at h<;>obtain ⟨rfl,rfl⟩:=h<;>
  simp [Go.binOp,Op.intArith,Op.intDiv,Op.intBits,Op.intCmp,aK,hc]<;>first|rfl|(simp [bne];done)|skip
theorem toList_mk (s:List UInt8):(⟨s.toArray⟩:ByteArray).toList=s:=by rw [ByteArray.toList_eq]
theorem S7 (x y:List UInt8):(x==y)=decide (x=y):=by
 cases h:(x==y)
 ·simp at h;simp [h]
 simp at h;simp [h]
theorem PM (ok:Nat→Prop) {op:BinOp} {x y:List UInt8} {c:Prop} {d:D} (h:S0 op x y=some (c,d)) (hc:c) (t:Nat):
 ∃u,(Go.binOp op t (.string ⟨x.toArray⟩) (.string ⟨y.toArray⟩)).run P w=.ok u w∧aK w ok d u:=by
 cases op<;>simp only [S0,Option.some.injEq,Prod.mk.injEq,reduceCtorEq] at h<;>obtain ⟨rfl,rfl⟩:=h<;>
  simp only [Go.binOp,Op.stringOp,toList_mk]
 ·have:¬(((⟨x.toArray⟩:ByteArray).size+(⟨y.toArray⟩:ByteArray).size:Nat):Int)>IntKind.i64.max:=by
   have h1:(⟨x.toArray⟩:ByteArray).size=x.length:=by simp [ByteArray.size]
   have h2:(⟨y.toArray⟩:ByteArray).size=y.length:=by simp [ByteArray.size]
   have h3:IntKind.i64.max=9223372036854775807:=by decide
   rw [h1,h2,h3];omega
  rw [if_neg this]
  refine ⟨_,rfl,?_⟩
  simp only [aK]
  congr 1
 all_goals exact ⟨_,rfl,by simp [aK,S7]⟩
theorem PN {op:BinOp} {x y:AV} {ux uy:Value} {c:Prop} {d:D} {ok:Nat→Prop} (h:Px op x y=some (c,d)) (hc:c) (hx:ah β bx w ok x ux) (hy:ah β bx w ok y uy) (t:Nat):
 ∃u,(Go.binOp op t ux uy).run P w=.ok u w∧aK w ok d u∧(∀a b:Operand,(eqGuard op t a b ux uy).run P w=.ok () w):=by
 have Ax:∀(k:IntKind) (n:Int) (v:Value) (a b:Operand),(eqGuard op t a b (.int k n) v).run P w=.ok () w:=by
  intro k n v a b;simp only [eqGuard];split<;>simp
 have PO:∀(s:ByteArray) (v:Value) (a b:Operand),(eqGuard op t a b (.string s) v).run P w=.ok () w:=by
  intro s v a b;simp only [eqGuard];split<;>simp
 unfold Px at h
 split at h
 ·simp only [ah,aK] at hx hy;subst hx;subst hy
  simp only [Option.some.injEq,Prod.mk.injEq] at h;obtain ⟨rfl,rfl⟩:=h
  have hn:=Int.not_lt.2 hc
  exact ⟨_,by simp only [Go.binOp,Op.shift,if_neg hn];rfl,by simp only [aK],Ax _ _ _⟩
 ·simp only [ah,aK] at hx hy;subst hx;subst hy
  simp only [Option.some.injEq,Prod.mk.injEq] at h;obtain ⟨rfl,rfl⟩:=h
  have hn:=Int.not_lt.2 hc
  exact ⟨_,by simp only [Go.binOp,Op.shift,if_neg hn];rfl,by simp only [aK],Ax _ _ _⟩
 ·rename_i k x k' y _ _
  simp only [ah,aK] at hx hy;subst hx;subst hy
  cases hk:(k==k') with
  |false=>simp [hk] at h
  |true=>
   simp only [hk,cond_true] at h
   have:k=k':=by simpa using hk
   subst this
   obtain ⟨u,h1,h2⟩:=Gw (P:=P) (w:=w) ok h hc t
   exact ⟨u,h1,h2,Ax _ _ _⟩
 ·rename_i x y _ _
  simp only [ah,aK] at hx hy;subst hx;subst hy
  obtain ⟨u,h1,h2⟩:=PM (P:=P) (w:=w) ok h hc t
  exact ⟨u,h1,h2,PO _ _⟩
 simp at h
theorem S8 {op:UnOp} {x:AV} {ux:Value} {d:D} {ok:Nat→Prop} (h:Yb op x=some d) (hx:ah β bx w ok x ux):
 ∃u,(Op.unary op ux).run P w=.ok u w∧aK w ok d u:=by
 unfold Yb at h
 split at h<;>(try (simp at h;done))<;>simp only [ah,aK] at hx<;>subst hx<;>simp only [Option.some.injEq] at h<;>subst h
 ·exact ⟨_,rfl,by simp [aK]⟩
 ·exact ⟨_,rfl,by simp [aK]⟩
 exact ⟨_,rfl,by simp [aK]⟩
end
end Dem
end
section
open Go
namespace Dem
section
variable {P:Program} {T:Nat→Option TI} {G:Nat→Option (List D)} {β:Nat→Nat} {bx:List ax} {w:World} {X:Nat→Prop}
theorem av.drop {ok:Nat→Prop} {aB sz:Nat}:∀(n:Nat) (es:List (List D)) (off:Nat),av w ok aB sz es off→av w ok aB sz (es.drop n) (off+n*sz)
 |0,es,off,h=>by simpa using h
 |n+1,[],off,h=>by simp [av]
 |n+1,r::rs,off,h=>by
  simp only [av] at h
  have:=av.drop n rs (off+sz) h.2.2
  simpa [Nat.add_mul,show off+sz+n*sz=off+(n*sz+sz) by omega] using this
theorem av.take {ok:Nat→Prop} {aB sz:Nat}:∀(n:Nat) (es:List (List D)) (off:Nat),av w ok aB sz es off→av w ok aB sz (es.take n) off
 |0,es,off,h=>by simp [av]
 |n+1,[],off,h=>by simp [av]
 |n+1,r::rs,off,h=>by
  simp only [av] at h
  simp only [List.take_succ_cons,av]
  exact ⟨h.1,h.2.1,av.take n rs _ h.2.2⟩
def BV:Option Int→Option Value→Prop
 |none,none=>True
 |some z,some (.int _ z')=>z'=z
 |_,_=>False
theorem ph {ev:Operand→AV} {ρ:Operand→Value} {x:Option Operand} {l:Option Int} {ok:Nat→Prop} (h:CH ev x=some l) (hr:∀y,x=some y→ah β bx w ok (ev y) (ρ y)):BV l (x.map ρ):=by
 cases x with
 |none=>simp [CH] at h;subst h;trivial
 |some y=>
  have hy:=hr y rfl
  simp only [CH] at h
  split at h
  ·rename_i k n he
   simp at h;subst h
   rw [he] at hy
   simp only [ah,aK] at hy
   simp [BV,hy]
  simp at h
theorem zU {α:Type} (l:List α) (lo hi:Option Int):gr l lo hi=(l.drop (aX lo)).take (aV l.length hi-aX lo):=by
 cases lo<;>cases hi<;>simp [gr,aX,aV]
 rw [List.take_of_length_le];simp
theorem ny {len:Nat} {lo hi:Option Int} (h:bS len lo hi):aX lo≤aV len hi∧aV len hi≤len:=by
 cases lo<;>cases hi<;>simp [bS,aX,aV] at*<;>omega
theorem iD {x:Value} {z:Int} {y:Nat} {code:BoundsCode} (hx:BV (some z) (some x)) (h0:0≤z) (h1:z≤y):(Instr.sliceBound x y code).run P w=.ok z.toNat w:=by
 cases x<;>simp [BV] at hx
 subst hx
 simp [Instr.sliceBound,asIntOf,h0,h1]
theorem pi {Vx:Bool} {len cap:Nat} {lo hi:Option Int} {vl vh:Option Value} (hl:BV lo vl) (hh:BV hi vh) (hc:bS len lo hi) (hcap:len≤cap):
 (Instr.sliceBounds Vx len cap vl vh none).run P w=.ok (aX lo,aV len hi,cap) w:=by
 have hle:=ny hc
 have low:∀(x:Value) (z:Int),BV (some z) (some x)→lo=some z→(Instr.sliceBound x (aV len hi) .sliceB).run P w=.ok z.toNat w:=by
  intro x z hx he
  subst he
  exact iD hx (by cases hi<;>simp [bS] at hc<;>omega) (by simp [aX] at hle;omega)
 cases hi with
 |none=>
  cases vh with
  |some _=>simp [BV] at hh
  |none=>
  cases lo with
  |none=>cases vl<;>simp [BV] at hl;simp [Instr.sliceBounds,aX,aV]
  |some z=>
   cases vl with
   |none=>simp [BV] at hl
   |some x=>
    have:=low x z hl rfl
    simp only [aV] at this
    simp [Instr.sliceBounds,this,aX,aV]
 |some h=>
  cases vh with
  |none=>simp [BV] at hh
  |some xh=>
  have hb:=iD (P:=P) (w:=w) (y:=cap) (code:=if Vx then .sliceAcap else .sliceAlen) hh (by cases lo<;>simp [bS] at hc<;>omega) (by cases lo<;>simp [bS] at hc<;>omega)
  cases lo with
  |none=>cases vl<;>simp [BV] at hl;simp [Instr.sliceBounds,aX,aV,hb]
  |some z=>
   cases vl with
   |none=>simp [BV] at hl
   |some x=>
    have:=low x z hl rfl
    simp only [aV] at this
    simp [Instr.sliceBounds,this,aX,aV,hb]
theorem Gx {len cap:Nat} {lo:Option Int} {h:Int} {vl:Option Value} {xh xm:Value} (hl:BV lo vl) (hh:BV (some h) (some xh)) (hm:BV (some h) (some xm)) (hc:bS len lo (some h)) (hcap:len≤cap):
 (Instr.sliceBounds true len cap vl (some xh) (some xm)).run P w=.ok (aX lo,h.toNat,h.toNat) w:=by
 have hle:=ny hc
 have h0:0≤h∧h≤len:=by cases lo<;>simp [bS] at hc<;>omega
 unfold Instr.sliceBounds
 simp only [Sem.run_bind]
 rw [iD hm h0.1 (by omega)]
 simp only [Result.andThen_ok]
 rw [iD hh h0.1 (by omega)]
 simp only [Result.andThen_ok]
 cases lo with
 |none=>cases vl<;>simp [BV] at hl;simp [aX]
 |some z=>
  cases vl with
  |none=>simp [BV] at hl
  |some x=>
   have hz:0≤z∧z≤h:=by simp [bS] at hc;omega
   simp only [Sem.run_bind]
   rw [iD hl hz.1 (by omega)]
   simp [aX]
theorem Gy {ok:Nat→Prop} {base:Option Addr} {es:List (List D)} {lo hi:Option Int} {m size:Nat} (hc:bS es.length lo hi) (hm:aV es.length hi≤m)
 (hs:∀r∈es,r.length=size) (h:es=[]∨∃aB off sz,base=some ⟨aB,off,none⟩∧ok aB∧av w ok aB sz es off):
 (gr es lo hi).length=aV es.length hi-aX lo∧
 (gr es lo hi=[]∨∃aB off sz,(if m=aX lo then base else base.map (·.add (aX lo*size)))=some ⟨aB,off,none⟩∧ok aB∧av w ok aB sz (gr es lo hi) off):=by
 have hle:=ny hc
 have hlen:(gr es lo hi).length=aV es.length hi-aX lo:=by rw [zU];simp;omega
 refine ⟨hlen,?_⟩
 by_cases Yq:gr es lo hi=[]
 ·exact .inl Yq
 refine .inr ?_
 have hpos:0<(gr es lo hi).length:=List.length_pos_iff.2 Yq
 have hne:es≠[]:=by rintro rfl;simp [zU] at hpos
 rcases h with h|⟨aB,off,sz,rfl,h1,h2⟩
 ·exact absurd h hne
 have hsz:sz=size:=by
  cases es with
  |nil=>exact absurd rfl hne
  |cons r rs=>simp only [av] at h2;rw [←h2.1];exact hs r (by simp)
 subst hsz
 rw [if_neg (by omega)]
 refine ⟨aB,off+aX lo*sz,sz,by simp [fy],h1,?_⟩
 rw [zU]
 exact av.take _ _ _ (av.drop _ _ _ h2)
theorem PR {x:AV} (h:cA [x]=true):x.cz bx=bx:=by cases x<;>simp_all [AV.cz,cA]
theorem uf {ok:Nat→Prop} {aB sz:Nat}:∀(n:Nat) (ds:List D) (off:Nat),n*sz≤ds.length→aY w ok aB ds off→av w ok aB sz (chunk sz n ds) off∧(chunk sz n ds).length=n
 |0,ds,off,_,_=>by simp [chunk,av]
 |n+1,ds,off,hl,h=>by
  rw [Nat.add_mul] at hl
  obtain ⟨h1,h2⟩:=uf (sz:=sz) n (ds.drop sz) (off+sz) (by simp;omega) (aY.drop sz ds off h)
  simp only [chunk,av,List.length_cons,h2,and_true]
  exact ⟨by simp;omega,aY.take _ _ _ h,h1⟩
theorem Gz (hT:iH P T) (cx:ct G β bx w X) {t:Nat} {x:AV} {ux:Value} {lo hi mx:Option Int} {vl vh vm:Option Value} (hx:ah β bx w (be β bx w X) x ux)
 (hl:BV lo vl) (hh:BV hi vh) (hm:BV mx vm) {c:Prop} {v:AV} {b:Option (List ax)} (hr:qM T t x lo hi mx bx=some ⟨c,v,b⟩) (hc:c):
 ∃u,(Instr.sliceAt t ux vl vh vm).run P w=.ok u w∧Ext β bx w β (dz bx b) w∧ct G β (dz bx b) w X∧
  ah β (dz bx b) w (be β (dz bx b) w X) v u:=by
 unfold qM at hr
 cases ht:T t with
 |none=>simp [ht] at hr
 |some ti=>
 have ht':=hT.ti t ti ht
 obtain ⟨i,d,h1,h2,h3,h4,h5,h6⟩:=aJ ht'
 simp only [ht] at hr
 have Me:dz bx (bif cA [x] then none else some (x.cz bx))=x.cz bx:=by
  cases ho:cA [x] with
  |true=>simp [PR ho,dz]
  |false=>rfl
 cases hk:ti.kd with
 |str=>
  rw [hk] at hr
  rw [hk] at h5
  cases d<;>simp [cJ] at h5
  cases mx with
  |some _=>cases x<;>simp at hr
  |none=>
  cases x with
  |d y=>
   cases y with
   |str s=>
    simp only [R.when,Option.some.injEq,R.mk.injEq] at hr
    obtain ⟨rfl,rfl,rfl⟩:=hr
    simp only [ah,aK] at hx
    subst hx
    have hmn:vm=none:=by cases vm<;>simp [BV] at hm;rfl
    subst hmn
    have hb:=pi (P:=P) (w:=w) (Vx:=false) hl hh hc (Nat.le_refl _)
    refine ⟨.string ((⟨s.toArray⟩:ByteArray).extract (aX lo) (aV s.length hi)),?_,Ext.refl _ _ _,cx,?_⟩
    ·have hsz:(⟨s.toArray⟩:ByteArray).size=s.length:=by simp [ByteArray.size]
     simp only [Instr.sliceAt,Sem.run_bind,aQ h2,Result.andThen_ok,Instr.slice,hsz]
     simp [hb]
    simp only [ah,aK,zU]
    rw [Lib.extract_eq]
   |_=>simp at hr
  |_=>simp at hr
 |slice e=>
  rw [hk] at hr
  rw [hk] at h5
  cases d<;>simp [cJ] at h5
  subst h5
  cases mx with
  |none=>
   have qA:(match x.rows bx,T e with
    |some es,some te=>some (R.mk (bS es.length lo hi∧∀r∈es,r.length=te.size) (.d (.sl (gr es lo hi))) (bif cA [x] then none else some (x.cz bx)))
    |_,_=>none)=some ⟨c,v,b⟩:=by
    cases x<;>first|exact hr|(rename_i y;cases y<;>exact hr)
   clear hr
   split at qA
   ·rename_i es te aF hte
    simp only [Option.some.injEq,R.mk.injEq] at qA
    obtain ⟨rfl,rfl,rfl⟩:=qA
    obtain ⟨CK,Dk⟩:=hc
    obtain ⟨ei,ed,g1,g2,g3,g4,g5,g6⟩:=aJ (hT.ti _ _ hte)
    obtain ⟨k1,k2,base,cap,rfl,k3,k4⟩:=jN cx aF hx
    rw [Me]
    have hmn:vm=none:=by cases vm<;>simp [BV] at hm;rfl
    subst hmn
    have hb:=pi (P:=P) (w:=w) (Vx:=true) hl hh CK k3
    have hle:=ny CK
    obtain ⟨j1,j2⟩:=Gy (w:=w) (m:=cap) CK (by omega) (fun r hr=>by rw [Dk r hr]) k4
    refine ⟨.slice (if cap=aX lo then base else base.map (·.add (aX lo*te.size))) (aV es.length hi-aX lo) (cap-aX lo),?_,k1,k2,?_⟩
    ·simp [Instr.sliceAt,aQ h2,Instr.slice,hb,bN g1,g3]
    simp only [ah,aK]
    exact ⟨_,_,by rw [j1],by rw [j1];omega,j2⟩
   simp at qA
  |some m=>
   have qA:(match x.rows bx,hi,T e with
    |some es,some h,some te=>some (R.mk ((bS es.length lo (some h)∧m=h)∧∀r∈es,r.length=te.size) (.cl (gr es lo (some h))) (bif cA [x] then none else some (x.cz bx)))
    |_,_,_=>none)=some ⟨c,v,b⟩:=by
    cases x<;>first|exact hr|(rename_i y;cases y<;>exact hr)
   clear hr
   split at qA
   ·rename_i es h te aF hte
    simp only [Option.some.injEq,R.mk.injEq] at qA
    obtain ⟨rfl,rfl,rfl⟩:=qA
    obtain ⟨⟨CK,rfl⟩,Dk⟩:=hc
    obtain ⟨ei,ed,g1,g2,g3,g4,g5,g6⟩:=aJ (hT.ti _ _ hte)
    obtain ⟨k1,k2,base,cap,rfl,k3,k4⟩:=jN cx aF hx
    rw [Me]
    cases vm with
    |none=>simp [BV] at hm
    |some xm=>
    cases vh with
    |none=>simp [BV] at hh
    |some xh=>
    have hb:=Gx (P:=P) (w:=w) hl hh hm CK k3
    have hle:=ny CK
    obtain ⟨j1,j2⟩:=Gy (w:=w) (m:=m.toNat) CK (by simp [aV]) (fun r hr=>by rw [Dk r hr]) k4
    refine ⟨.slice (if m.toNat=aX lo then base else base.map (·.add (aX lo*te.size))) (m.toNat-aX lo) (m.toNat-aX lo),?_,k1,k2,?_⟩
    ·simp [Instr.sliceAt,aQ h2,Instr.slice,hb,bN g1,g3]
    simp only [ah]
    refine ⟨_,?_,j2⟩
    rw [j1];rfl
   simp at qA
 |array n e=>
  rw [hk] at hr
  rw [hk] at h5
  cases d<;>simp [cJ] at h5
  obtain ⟨rfl,rfl⟩:=h5
  cases mx with
  |some _=>cases x<;>simp at hr
  |none=>
  cases x with
  |ep ds=>
   cases lo with
   |some _=>simp at hr
   |none=>
   cases hi with
   |some _=>simp at hr
   |none=>
   cases hte:T e with
   |none=>simp [hte] at hr
   |some te=>
    simp only [hte,R.when,Option.some.injEq,R.mk.injEq] at hr
    obtain ⟨rfl,rfl,rfl⟩:=hr
    obtain ⟨ei,ed,g1,g2,g3,g4,g5,g6⟩:=aJ (hT.ti _ _ hte)
    simp only [ah] at hx
    obtain ⟨aB,off,rfl,k1,k2⟩:=hx
    have e1:vl=none:=by cases vl<;>simp [BV] at hl;rfl
    have e2:vh=none:=by cases vh<;>simp [BV] at hh;rfl
    have e3:vm=none:=by cases vm<;>simp [BV] at hm;rfl
    subst e1;subst e2;subst e3
    obtain ⟨j1,j2⟩:=uf (w:=w) _ ds off hc k2
    refine ⟨.slice (some ⟨aB,off,none⟩) (chunk te.size n ds).length (chunk te.size n ds).length,?_,Ext.refl _ _ _,cx,?_⟩
    ·simp [Instr.sliceAt,aQ h2,Instr.sureAddr,Instr.sliceBounds,bN g1,j2,fy]
    simp only [ah,aK]
    exact ⟨_,_,rfl,Nat.le_refl _,.inr ⟨aB,off,_,rfl,k1,j1⟩⟩
  |ptr bb off=>
   cases off with
   |succ _=>simp at hr
   |zero=>
   cases lo with
   |some _=>simp at hr
   |none=>
   cases hi with
   |some _=>simp at hr
   |none=>
   cases hte:T e with
   |none=>simp [hte] at hr
   |some te=>
   cases hb:bx[bb]? with
   |none=>simp [hte,hb] at hr
   |some B=>
   cases B with
   |var cs=>
    simp only [hte,hb] at hr
    cases hd:iJ [] cs with
    |none=>simp [hd] at hr
    |some ds=>
    simp only [hd,Option.some.injEq,R.mk.injEq] at hr
    obtain ⟨rfl,rfl,rfl⟩:=hr
    obtain ⟨ei,ed,g1,g2,g3,g4,g5,g6⟩:=aJ (hT.ti _ _ hte)
    simp only [ah] at hx
    obtain ⟨rfl,_⟩:=hx
    have e1:vl=none:=by cases vl<;>simp [BV] at hl;rfl
    have e2:vh=none:=by cases vh<;>simp [BV] at hh;rfl
    have e3:vm=none:=by cases vm<;>simp [BV] at hm;rfl
    subst e1;subst e2;subst e3
    obtain ⟨cc,ce,hp,hcs⟩:=cx.box bb _ hb
    have ex:Ext β bx w β (bx.set bb .dead) w:=iy hb rfl rfl
    have nP:ct G β (bx.set bb .dead) w X:=jL cx hb rfl rfl (by simp [dA])
    have hok:be β (bx.set bb .dead) w X (β bb):=by
     refine ⟨eK hp,cx.apart bb _ hb rfl,?_⟩
     intro i b' h3 h4 he
     rcases aL h3 with ⟨rfl,rfl,_⟩|⟨h5,h6⟩
     ·simp [ax.live] at h4
     exact h5 (cx.inj i bb b' _ h6 hb h4 rfl he)
    have hrow:aY w (be β bx w X) (β bb) ds 0:=by
     refine EH ds 0 cc.toList ?_ (sC hd hcs)
     intro j v hj
     simp only [World.cell?,hp]
     simpa using hj
    obtain ⟨j1,j2⟩:=uf (w:=w) _ ds 0 hc (aY.mono (ex.keeps X) _ (fun _=>rfl) _ _ hrow)
    refine ⟨.slice (some ⟨β bb,0,none⟩) (chunk te.size n ds).length (chunk te.size n ds).length,?_,ex,nP,?_⟩
    ·simp [Instr.sliceAt,aQ h2,Instr.sureAddr,Instr.sliceBounds,bN g1,j2,fy]
    simp only [ah,aK]
    exact ⟨_,_,rfl,Nat.le_refl _,.inr ⟨_,0,_,rfl,hok,j1⟩⟩
   |_=>simp [hte,hb] at hr
  |_=>simp at hr
 |_=>rw [hk] at hr;cases mx<;>cases x<;>simp at hr
end
end Dem
end
