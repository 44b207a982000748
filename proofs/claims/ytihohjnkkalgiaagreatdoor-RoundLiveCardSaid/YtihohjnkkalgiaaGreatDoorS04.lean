/- Parts of a proof, joined. -/
import Derived.Test.YtihohjnkkalgiaaGreatDoorS03
set_option linter.all false
set_option maxRecDepth 100000
set_option maxHeartbeats 4000000
section
open Go
namespace Dem
section
variable {P:Program} {T:Nat→Option TI} {G:Nat→Option (List D)} {β:Nat→Nat} {bx:List aA} {w:World} {X:Nat→Prop}
theorem pW (zc:List Value):∀n:Nat,(Builtin.zeroCells ⟨zc⟩ n).toList=(List.replicate n zc).flatten
 |0=>by simp [Builtin.zeroCells]
 |n+1=>by
  have ih:=pW zc n
  rw [List.replicate_succ',List.flatten_append,←ih]
  simp only [Builtin.zeroCells,Array.toList_map,Array.toList_range]
  have hs:(⟨zc⟩:Array Value).size=zc.length:=rfl
  rw [hs,Nat.add_mul,Nat.one_mul,List.range_add,List.map_append]
  congr 1
  apply List.ext_getElem?
  intro i
  simp only [List.map_map,List.getElem?_map,List.flatten_cons,List.flatten_nil,List.append_nil]
  by_cases hi:i<zc.length
  ·have hr:(List.range zc.length)[i]?=some i:=by rw [List.getElem?_range hi]
   rw [hr]
   simp only [Option.map_some,Function.comp]
   rw [Nat.mul_add_mod_self_right,Nat.mod_eq_of_lt hi]
   simp [hi]
  simp [List.getElem?_eq_none (Nat.le_of_not_lt hi)]
  omega
theorem wg (hT:kD P T) {e:Nat} {te:TI} (hte:T e=some te) {z:List D} (hz:mT te=some z) (hok:eO te=true) {ok:Nat→Prop}:
 ∃(ei:TypeInfo) (zv:Value) (zc:List Value),P.info? e=some ei∧ei.zero=some zv∧zv.cells=⟨zc⟩∧zc.length=ei.size∧z.length=te.size∧(∀u∈zc,IA u)∧
  ∀n,an β bx w ok ((List.replicate n z).flatten.map .d) (Builtin.zeroCells ⟨zc⟩ n).toList:=by
 obtain ⟨ei,ed,g1,g2,g3,g4,g5,g6⟩:=aJ (hT.ti _ _ hte)
 obtain ⟨za,hz1,Ox,YI,YJ⟩:=mg hok
 simp only [mT,hz1] at hz
 obtain ⟨zv,zc,k1,k2,k3,k4⟩:=uz (β:=β) (bx:=bx) (w:=w) (ok:=ok) (hT.ti _ _ hte) hz1
 have hzl:zc.length=ei.size:=by rw [an.length k3,Ox,g3]
 have yT:ei.zero=some zv:=by
  cases hq:ei.zero with
  |none=>rw [g6,hq] at hz1;simp [AV.cells?] at hz1
  |some q=>have:=gJ (P:=P) (w:=w) g1 hq;rw [k1] at this;simp at this;rw [this]
 have Mn:=rH hz k3
 refine ⟨ei,zv,zc,g1,yT,k2,hzl,?_,k4,?_⟩
 ·have:=an.length Mn
  simp at this;omega
 intro n
 rw [pW]
 induction n with
 |zero=>simp [an]
 |succ n ih=>
  simp only [List.replicate_succ,List.flatten_cons,List.map_append]
  exact an.append Mn ih
theorem sB {sz:Nat}:∀(n:Nat) (es:List (List D)),(∀r∈es,r.length=sz)→es.flatten.take (n*sz)=(es.take n).flatten
 |0,es,_=>by simp
 |n+1,[],_=>by simp
 |n+1,r::rs,h=>by
  have hr:r.length=sz:=h r (by simp)
  have ih:=sB n rs (fun x hx=>h x (by simp [hx]))
  simp only [List.flatten_cons,List.take_succ_cons]
  rw [show (n+1)*sz=r.length+n*sz by rw [hr,Nat.add_mul];omega,List.take_length_add_append,ih]
theorem sC {sz:Nat}:∀(n:Nat) (es:List (List D)),(∀r∈es,r.length=sz)→es.flatten.drop (n*sz)=(es.drop n).flatten
 |0,es,_=>by simp
 |n+1,[],_=>by simp
 |n+1,r::rs,h=>by
  have hr:r.length=sz:=h r (by simp)
  have ih:=sC n rs (fun x hx=>h x (by simp [hx]))
  simp only [List.flatten_cons,List.drop_succ_cons]
  rw [show (n+1)*sz=r.length+n*sz by rw [hr,Nat.add_mul];omega,List.drop_length_add_append,ih]
theorem Mo (cx:cP G β bx w X) {b size off:Nat} {es xs:List (List D)} {c:Array Value} {e:TypeId} {us:List Value} (hb:bx[b]?=some (.row size es)) (hne:es≠[])
 (hh:w.heap[β b]?=some (.cells c e (0,0))) (ho:off≤es.length) (hl:∀r∈xs,r.length=size) (hu:an β bx w (bp β bx w X) (xs.flatten.map .d) us) (RJ:us.length=xs.length*size)
 (hfit:(off+xs.length)*size≤c.size):
 Ext β bx w β (bx.set b (.row size (wrote es off xs))) (eC w (β b) (.cells ⟨bf c.toList (off*size) us⟩ e (0,0)))∧
  cP G β (bx.set b (.row size (wrote es off xs))) (eC w (β b) (.cells ⟨bf c.toList (off*size) us⟩ e (0,0))) X:=by
 have cG:(aA.row size es).live=true:=by cases es<;>simp_all [aA.live]
 have hsz:(⟨bf c.toList (off*size) us⟩:Array Value).size=c.size:=by simp [dA]
 have ex:=l6 (B':=.row size (wrote es off xs)) (c':=⟨bf c.toList (off*size) us⟩) hb cG hh hsz rfl
 refine ⟨ex,sV cx hb cG hh hsz rfl (.inr ⟨_,e,dY hh,?_⟩)⟩
 rcases cx.box _ _ hb with h0|⟨c2,e2,j1,j2⟩
 ·exact absurd h0 hne
 rw [hh] at j1
 simp only [osI,Obj.cells.injEq] at j1
 obtain ⟨rfl,rfl,_⟩:=j1
 have xw:=ay.lens _ _ j2
 obtain ⟨Cw,v1,v2,v3⟩:=kf (β:=β) (bx:=bx) es 0 j2
 obtain ⟨rest,pg⟩:=oy hh v2
 have hcs:c.size=Cw.length+rest.length:=by have:=congrArg List.length pg;simpa using this
 have hoff:off*size≤Cw.length:=by rw [v1];exact Nat.mul_le_mul_right _ ho
 rw [Nat.add_mul] at hfit
 have hsp:bf c.toList (off*size) us=Cw.take (off*size)++us++Cw.drop (off*size+us.length)++rest.drop (off*size+us.length-Cw.length):=by
  rw [mc _ _ _ (by simp;omega),pg,List.take_append_of_le_length hoff,List.drop_append]
  simp [List.append_assoc]
 have Mn:an β bx w (bp β bx w X) ((wrote es off xs).flatten.map .d) (Cw.take (off*size)++us++Cw.drop (off*size+us.length)):=by
  unfold wrote
  rw [List.flatten_append,List.flatten_append,List.map_append,List.map_append]
  refine an.append (an.append ?_ hu) ?_
  ·rw [←sB off es xw,List.map_take];exact an.take _ v3
  rw [←sC _ es xw,List.map_drop,Nat.add_mul,←RJ];exact an.drop _ v3
 refine mY (β:=β) (bx:=bx.set b (.row size (wrote es off xs))) _ 0 _ ?_ ?_ (an.mono (ex.eX X) _ _ Mn)
 ·intro r hr
  unfold wrote at hr
  rcases List.mem_append.1 hr with hr|hr
  ·rcases List.mem_append.1 hr with hr|hr
   ·exact xw r (List.mem_of_mem_take hr)
   exact hl r hr
  exact xw r (List.mem_of_mem_drop hr)
 intro k u hk
 have hk':k<(Cw.take (off*size)++us++Cw.drop (off*size+us.length)).length:=by
  rcases Nat.lt_or_ge k (Cw.take (off*size)++us++Cw.drop (off*size+us.length)).length with h|h
  ·exact h
  rw [List.getElem?_eq_none h] at hk;simp at hk
 simp only [World.cell?,dY hh,Nat.zero_add]
 have:(bf c.toList (off*size) us)[k]?=some u:=by
  rw [hsp,List.getElem?_append_left hk'];exact hk
 simpa using this
theorem eR {t:Nat} {te:TI} (h:elemOf T t=some te):∃ti e,T t=some ti∧ti.kd=.slice e∧T e=some te:=by
 unfold elemOf at h
 split at h
 ·rename_i ti ht
  split at h
  ·rename_i e hk;exact ⟨ti,e,ht,hk,h⟩
  simp at h
 simp at h
theorem fO (hT:kD P T) {t e:Nat} {ti:TI} (ht:T t=some ti) (hk:ti.kd=.slice e):P.underlying t=some (.slice e):=by
 obtain ⟨i,d,h1,h2,h3,h4,h5,h6⟩:=aJ (hT.ti _ _ ht)
 rw [hk] at h5
 cases d<;>simp [cY] at h5
 subst h5;exact h2
theorem zO {ok:Nat→Prop} {x:AV} {b sz off n c:Nat} {ex:Bool} {u:Value} (hx:viewAt x=some (b,sz,off,n,c,ex)) (h:ak β bx w ok x u):
 ∃base cap,u=.slice base n cap∧n≤cap∧(cap=0∨base=some ⟨β b,off*sz,none⟩∧∃cs e f,w.heap[β b]?=some (.cells cs e f)∧(off+cap)*sz≤cs.size):=by
 cases x with
 |vw b' sz' off' n' c' sD=>
  simp only [viewAt,osI,Prod.mk.injEq] at hx
  obtain ⟨rfl,rfl,rfl,rfl,rfl,rfl⟩:=hx
  simp only [ak] at h
  obtain ⟨_,base,cap,cs,e,f,rfl,h1,_,_,h4⟩:=h
  exact ⟨base,cap,rfl,h1,h4.imp id fun ⟨k1,k2,k3⟩=>⟨k1,cs,e,f,k2,k3⟩⟩
 |ow b' sz' n'=>
  simp only [viewAt,osI,Prod.mk.injEq] at hx
  obtain ⟨rfl,rfl,rfl,rfl,rfl,rfl⟩:=hx
  simp only [ak] at h
  obtain ⟨_,⟨rfl,base,rfl⟩|⟨h0,cap,cs,e,f,rfl,h1,h2,h3⟩⟩:=h
  ·exact ⟨base,0,rfl,Nat.le_refl _,.inl rfl⟩
  exact ⟨_,cap,rfl,h1,.inr ⟨by simp,cs,e,f,h2,by simpa using h3⟩⟩
 |_=>simp [viewAt] at hx
theorem nO (cx:cP G β bx w X) {y:AV} {uy:Value} {xs:List (List D)} (hx:ak β bx w (bp β bx w X) y uy) (hrows:y.rows bx=some xs):
 ∃base cap,uy=.slice base xs.length cap∧(xs=[]∨∃blk off sz,base=some ⟨blk,off,none⟩∧ay w (bp β bx w X) blk sz xs off):=by
 by_cases how:∃b sz n,y=.ow b sz n
 ·obtain ⟨b,sz,n,rfl⟩:=how
  obtain ⟨hn,base,cap,rfl,h1,h2⟩:=uq cx hrows hx
  refine ⟨base,cap,rfl,?_⟩
  rcases h2 with ⟨h2,_⟩|⟨_,rfl,h2,_⟩
  ·exact .inl h2
  exact .inr ⟨β b,0,sz,rfl,h2⟩
 cases hv:y.ug with
 |true=>
  cases y with
  |vw b sz off n c ex=>
   simp only [AV.rows] at hrows
   split at hrows
   ·rename_i s es' hb
    obtain ⟨rfl,hle,rfl⟩:=Cu hrows
    obtain ⟨base,cap,rfl,h1,h2⟩:=ou (IC:=bp β bx w X) hle ((cx.box b _ hb).imp id fun ⟨_,_,_,g⟩=>g) hx
    exact ⟨base,cap,rfl,h2.imp id fun ⟨a,c⟩=>⟨β b,off*s,s,a,c⟩⟩
   ·rename_i s es' hb
    obtain ⟨rfl,hle,rfl⟩:=Cu hrows
    obtain ⟨base,cap,rfl,h1,h2⟩:=ou (IC:=bp β bx w X) hle ((cx.box b _ hb).imp id fun ⟨_,g⟩=>g) hx
    exact ⟨base,cap,rfl,h2.imp id fun ⟨a,c⟩=>⟨β b,off*s,s,a,c⟩⟩
   simp at hrows
  |_=>simp [AV.ug] at hv
 |false=>
  obtain ⟨base,cap,rfl,h1,h2⟩:=zE (fun b sz n e=>how ⟨b,sz,n,e⟩) hv hrows hx
  exact ⟨base,cap,rfl,h2.imp id fun ⟨blk,off,sz,a,_,c⟩=>⟨blk,off,sz,a,c⟩⟩
theorem K9 {ok:Nat→Prop} {base:Option Addr} {zs:List (List D)} {k size:Nat} (h:zs=[]∨∃blk off sz,base=some ⟨blk,off,none⟩∧ay w ok blk sz zs off) (hs:∀r∈zs.take k,r.length=size) (hk:0<k):∀r∈zs,r.length=size:=by
 rcases h with rfl|⟨blk,off,sz,_,hr⟩
 ·simp
 cases zs with
 |nil=>simp
 |cons z zs=>
  have hl:=ay.lens _ _ hr
  have h1:z.length=size:=hs z (by cases k with|zero=>omega|succ k=>simp)
  have h2:=hl z (by simp)
  intro r hr'
  rw [hl r hr',←h2,h1]
theorem OB {b sz off n c m:Nat} {ex:Bool} {K4:List (List D)} {IC:Nat→Prop} {u:Value} {ok:Nat→Prop} (hm:m≤n) (hn:off+m≤K4.length) (hrows:K4=[]∨ay w IC (β b) sz K4 0) (h:ak β bx w ok (.vw b sz off n c ex) u):
 ∃base cap,u=.slice base n cap∧((K4.drop off).take m=[]∨base=some ⟨β b,off*sz,none⟩∧ay w IC (β b) sz ((K4.drop off).take m) (off*sz)):=by
 simp only [ak] at h
 obtain ⟨_,base,cap,cs,e,f,rfl,h1,h2,h3,h4⟩:=h
 refine ⟨base,cap,rfl,?_⟩
 by_cases hn0:m=0
 ·subst hn0;exact .inl (by simp)
 right
 rcases h4 with h4|⟨h4,_⟩
 ·omega
 refine ⟨h4,?_⟩
 rcases hrows with rfl|hrows
 ·simp at hn;omega
 have:=ay.Fq m _ _ (ay.Oi off _ _ hrows)
 simpa using this
theorem xB (cx:cP G β bx w X) {size:Nat} {x:AV} {ux:Value} {xs:List (List D)} (hx:ak β bx w (bp β bx w X) x ux) (hr:kJ size x bx=some xs) (hs:∀r∈xs,r.length=size) {m:Nat} (hm:m≤xs.length):
 ∃us,(Builtin.lenOf ux).run P w=.ok xs.length w∧us.length=m*size∧(Builtin.firstCells size m ux).run P w=.ok ⟨us⟩ w∧an β bx w (bp β bx w X) ((xs.take m).flatten.map .d) us:=by
 have WK:x.rows bx=some xs→∃us,(Builtin.lenOf ux).run P w=.ok xs.length w∧us.length=m*size∧(Builtin.firstCells size m ux).run P w=.ok ⟨us⟩ w∧an β bx w (bp β bx w X) ((xs.take m).flatten.map .d) us:=by
  intro hrows
  obtain ⟨base,cap,rfl,h2⟩:=nO cx hx hrows
  have hml:(xs.take m).length=m:=by simp;omega
  have RU:xs.take m=[]∨∃blk off sz,base=some ⟨blk,off,none⟩∧ay w (bp β bx w X) blk sz (xs.take m) off:=by
   rcases h2 with rfl|⟨blk,off,sz,h3,h4⟩
   ·left;simp
   exact .inr ⟨blk,off,sz,h3,ay.take _ _ _ h4⟩
  obtain ⟨us,f1,f2⟩:=dX (P:=P) (β:=β) (bx:=bx) (cap:=cap) (base:=base) (es:=xs.take m) (ok:=bp β bx w X) (size:=size) (fun r hr=>hs r (List.mem_of_mem_take hr)) RU
  rw [hml] at f1
  have:=(f1.2.2 w (fun _ _=>rfl)).2
  refine ⟨us,dB,f1.2.1,?_,f2⟩
  cases base<;>exact this
 cases x with
 |d y=>
  cases y with
  |str s=>
   simp only [kJ] at hr
   cases hb:Nat.beq size 1 with
   |false=>simp [hb] at hr
   |true=>
    have:=Nat.eq_of_beq_eq_true hb
    subst this
    simp only [hb,cond_true,osI] at hr
    subst hr
    simp only [ak,aL] at hx;subst hx
    simp only [lgM] at hm ⊢
    obtain ⟨us,f1,f2⟩:=sx (P:=P) (β:=β) (bx:=bx) (w:=w) (X:=X) (s.take m)
    have hml:(s.take m).length=m:=by simp;omega
    rw [hml] at f1
    have h3:=(f1.2.2 w (fun _ _=>rfl)).2
    refine ⟨us,by simp [Builtin.lenOf,ByteArray.size],f1.2.1,?_,by simpa [List.map_take] using f2⟩
    have e1:(⟨s.toArray⟩:ByteArray).extract 0 m=(⟨(s.take m).toArray⟩:ByteArray).extract 0 m:=by
     rw [Lib.extract_eq,Lib.extract_eq];simp [List.take_take]
    have e2:Builtin.firstCells 1 m (.string ⟨s.toArray⟩)=Builtin.firstCells 1 m (.string ⟨(s.take m).toArray⟩):=by
     simp only [Builtin.firstCells,e1]
    rw [e2];exact h3
  |_=>exact WK hr
 |_=>exact WK hr
theorem FH (cx:cP G β bx w X) {size n m:Nat} {y:AV} {uy:Value} {cy:Prop} {xs:List (List D)} (hx:ak β bx w (bp β bx w X) y uy) (hr:uh size y n bx=some (cy,m,xs)) (hc:cy) (hs:∀r∈xs,r.length=size):
 ∃us l,(Builtin.lenOf uy).run P w=.ok l w∧Nat.min l n=m∧xs.length=m∧us.length=m*size∧(Builtin.firstCells size m uy).run P w=.ok ⟨us⟩ w∧an β bx w (bp β bx w X) (xs.flatten.map .d) us:=by
 have gen:y.ug=false→(match kJ size y bx with
  |some xs=>some (True,min xs.length n,xs.take (min xs.length n))
  |none=>none)=some (cy,m,xs)→∃us l,(Builtin.lenOf uy).run P w=.ok l w∧Nat.min l n=m∧xs.length=m∧us.length=m*size∧(Builtin.firstCells size m uy).run P w=.ok ⟨us⟩ w∧an β bx w (bp β bx w X) (xs.flatten.map .d) us:=by
  intro hv hr
  have hs0:∀zs,kJ size y bx=some zs→∃us l,(Builtin.lenOf uy).run P w=.ok l w∧Nat.min l n=m∧xs.length=m∧us.length=m*size∧(Builtin.firstCells size m uy).run P w=.ok ⟨us⟩ w∧an β bx w (bp β bx w X) (xs.flatten.map .d) us:=by
   intro zs hzs
   simp only [hzs,osI,Prod.mk.injEq] at hr
   obtain ⟨_,rfl,rfl⟩:=hr
   have hml:(zs.take (min zs.length n)).length=min zs.length n:=by simp
   by_cases hm0:min zs.length n=0
   ·
    rw [hm0]
    have hl:∃l,(Builtin.lenOf uy).run P w=.ok l w∧l=zs.length∧(Builtin.firstCells size 0 uy).run P w=.ok ⟨[]⟩ w:=by
     cases y with
     |d q=>
      cases q with
      |str s=>
       simp only [ak,aL] at hx;subst hx
       simp only [kJ] at hzs
       cases hb:Nat.beq size 1 with
       |false=>simp [hb] at hzs
       |true=>
        simp only [hb,cond_true,osI] at hzs
        subst hzs
        refine ⟨s.length,by simp [Builtin.lenOf,ByteArray.size],by simp,?_⟩
        have e:(⟨s.toArray⟩:ByteArray).extract 0 0=⟨#[]⟩:=by rw [Lib.extract_eq];simp
        simp [Builtin.firstCells]
      |_=>
       obtain ⟨base,cap,rfl,_⟩:=nO cx hx hzs
       exact ⟨_,dB,rfl,by cases base<;>simp [Builtin.firstCells,loadCells,loadCellsFrom]⟩
     |_=>
      obtain ⟨base,cap,rfl,_⟩:=nO cx hx hzs
      exact ⟨_,dB,rfl,by cases base<;>simp [Builtin.firstCells,loadCells,loadCellsFrom]⟩
    obtain ⟨l,h1,rfl,h2⟩:=hl
    exact ⟨[],_,h1,hm0,by simp,by simp,h2,by simp [an]⟩
   have hall:∀r∈zs,r.length=size:=by
    cases y with
    |d q=>
     cases q with
     |str s=>
      simp only [kJ] at hzs
      cases hb:Nat.beq size 1 with
      |false=>simp [hb] at hzs
      |true=>
       have:=Nat.eq_of_beq_eq_true hb
       simp only [hb,cond_true,osI] at hzs
       subst hzs
       intro r hr
       obtain ⟨b,_,rfl⟩:=List.mem_map.1 hr
       simp [rq,this]
     |_=>
      obtain ⟨base,cap,rfl,h2⟩:=nO cx hx hzs
      exact K9 h2 hs (by omega)
    |_=>
     obtain ⟨base,cap,rfl,h2⟩:=nO cx hx hzs
     exact K9 h2 hs (by omega)
   obtain ⟨us,k1,k2,k3,k4⟩:=xB (P:=P) cx hx hzs hall (m:=min zs.length n) (by omega)
   exact ⟨us,_,k1,rfl,hml,k2,k3,k4⟩
  cases hz:kJ size y bx with
  |none=>simp [hz] at hr
  |some zs=>exact hs0 zs hz
 have vw:∀(b sz off n2 c:Nat) (ex:Bool) (s:Nat) (es:List (List D)) (IC:Nat→Prop),y=.vw b sz off n2 c ex→(es=[]∨ay w (bp β bx w X) (β b) s es 0)→(bif Nat.beq s sz then some (off+min n2 n≤es.length,min n2 n,(es.drop off).take (min n2 n)) else none)=some (cy,m,xs)→
  ∃us l,(Builtin.lenOf uy).run P w=.ok l w∧Nat.min l n=m∧xs.length=m∧us.length=m*size∧(Builtin.firstCells size m uy).run P w=.ok ⟨us⟩ w∧an β bx w (bp β bx w X) (xs.flatten.map .d) us:=by
  intro b sz off n2 c ex s es IC hy hrows hq
  subst hy
  cases hsz:Nat.beq s sz with
  |false=>simp [hsz] at hq
  |true=>
  have RV:=Nat.eq_of_beq_eq_true hsz
  subst RV
  simp only [hsz,cond_true,osI,Prod.mk.injEq] at hq
  obtain ⟨rfl,rfl,rfl⟩:=hq
  obtain ⟨base,cap,rfl,h2⟩:=OB (IC:=bp β bx w X) (m:=min n2 n) (by omega) hc hrows hx
  have hml:((es.drop off).take (min n2 n)).length=min n2 n:=by simp;omega
  obtain ⟨us,f1,f2⟩:=dX (P:=P) (β:=β) (bx:=bx) (cap:=cap) (base:=base) (es:=(es.drop off).take (min n2 n)) (ok:=bp β bx w X) (size:=size) hs (h2.imp id fun ⟨a,c⟩=>⟨β b,off*s,s,a,c⟩)
  rw [hml] at f1
  have:=(f1.2.2 w (fun _ _=>rfl)).2
  refine ⟨us,n2,dB,rfl,hml,f1.2.1,?_,f2⟩
  cases base<;>exact this
 unfold uh at hr
 split at hr
 ·rename_i b sz off n2 c ex
  split at hr
  ·rename_i s es hb
   exact vw b sz off n2 c ex s es (fun _=>True) rfl ((cx.box b _ hb).imp id fun ⟨_,_,_,g⟩=>g) hr
  ·rename_i s es hb
   exact vw b sz off n2 c ex s es (fun _=>True) rfl ((cx.box b _ hb).imp id fun ⟨_,g⟩=>g) hr
  simp at hr
 rename_i hnv
 refine gen ?_ hr
 cases y<;>first|rfl|exact absurd rfl (hnv _ _ _ _ _ _)
end
end Dem
end
section
open Go
namespace Dem
section
variable {P:Program} {T:Nat→Option TI} {G:Nat→Option (List D)} {β:Nat→Nat} {bx:List aA} {w:World} {X:Nat→Prop}
theorem zP (cx:cP G β bx w X) {b sz k:Nat} {es xs:List (List D)} {us:List Value} (hb:bx[b]?=some (.row sz es)) (hne:es≠[]) (hk:k≤es.length) (hl:∀r∈xs,r.length=sz)
 (hu:an β bx w (bp β bx w X) (xs.flatten.map .d) us) (RJ:us.length=xs.length*sz) {cs:Array Value} {e:TypeId} {f:Nat×Nat} (hh:w.heap[β b]?=some (.cells cs e f)) (hfit:(k+xs.length)*sz≤cs.size):
 ∃w',(storeCells ⟨β b,k*sz,none⟩ us 0).run P w=.ok () w'∧Ext β bx w β (bx.set b (.row sz (wrote es k xs))) w'∧cP G β (bx.set b (.row sz (wrote es k xs))) w' X:=by
 have hh':w.heap[β b]?=some (.cells cs e (0,0)):=by
  rcases cx.box _ _ hb with h0|⟨c2,e2,j1,j2⟩
  ·exact absurd h0 hne
  rw [hh] at j1
  simp only [osI,Obj.cells.injEq] at j1
  obtain ⟨rfl,rfl,rfl⟩:=j1
  exact hh
 have hf:=hfit
 rw [Nat.add_mul] at hf
 have hrun:=jw (P:=P) (off:=k*sz) us 0 w cs hh' (an.sc (K7 _) hu) (by omega)
 simp only [Nat.add_zero] at hrun
 exact ⟨_,hrun,Mo cx hb hne hh' hk hl hu RJ hfit⟩
theorem wh {es:List (List D)} {k:Nat}:wrote es k []=es:=by simp [wrote]
theorem zQ {b:Nat} {B:aA} (h:bx[b]?=some B):bx.set b B=bx:=by
 apply List.ext_getElem?
 intro i
 rw [List.getElem?_set]
 split
 ·rename_i hi;subst hi
  split
  ·exact h.symm
  rename_i hlt;exact absurd (jz h) hlt
 rfl
theorem IF (hT:kD P T) (cx:cP G β bx w X) {t e:Nat} {te:TI} (ht:P.underlying t=some (.slice e)) (hte:T e=some te) {x y:AV} {ux uy:Value} (hx:ak β bx w (bp β bx w X) x ux) (hy:ak β bx w (bp β bx w X) y uy)
 {c:Prop} {v:AV} {b:Option (List aA)} (hr:Cp te x y bx=some ⟨c,v,b⟩) (hc:c) (ats:List Nat) (ty:Nat):
 ∃r w',(Builtin.copy_ ⟨t::ats⟩ ty ⟨[ux,uy]⟩).run P w=.ok r w'∧Ext β bx w β (dN bx b) w'∧cP G β (dN bx b) w' X∧ak β (dN bx b) w' (bp β (dN bx b) w' X) v r:=by
 obtain ⟨ei,ed,g1,g2,g3,g4,g5,g6⟩:=aJ (hT.ti _ _ hte)
 unfold Cp at hr
 split at hr
 ·rename_i bb sz off n c0 sg hv
  split at hr
  ·rename_i s es cy m xs hb hxs
   cases h1:Nat.beq s sz with
   |false=>simp [h1] at hr
   |true=>
   cases h2:Nat.beq sz te.size with
   |false=>simp [h1,h2] at hr
   |true=>
   have La:=Nat.eq_of_beq_eq_true h1
   have RU:=Nat.eq_of_beq_eq_true h2
   subst La RU
   simp only [h1,Bool.and_self,cond_true,osI,R.mk.injEq] at hr
   obtain ⟨rfl,rfl,rfl⟩:=hr
   obtain ⟨hcy,⟨hoff,DW⟩,hlen⟩:=hc
   obtain ⟨base,cap,rfl,hn,hcap⟩:=zO hv hx
   obtain ⟨us,l,k1,hmn,hml,k2,k3,k4⟩:=FH (P:=P) cx hy hxs hcy hlen
   have abH:m≤n:=by rw [←hmn];exact Nat.min_le_right _ _
   rw [g3] at k3
   by_cases hm0:m=0
   ·have WO:us=[]:=by rw [hm0] at k2;simpa using k2
    subst WO
    have Zg:xs=[]:=by rw [hm0] at hml;simpa using hml
    have hw:bx.set bb (.row te.size (wrote es off xs))=bx:=by
     rw [Zg,wh];exact zQ hb
    refine ⟨.int .i64 (m:Nat),w,?_,?_,?_,?_⟩
    ·cases base<;>simp [Builtin.copy_,aV ht,bX g1,k1,hmn,k3,storeCells,goInt]
    ·simp only [dN,hw];exact Ext.refl _ _ _
    ·simp only [dN,hw];exact cx
    simp only [ak,aL]
   have hne:es≠[]:=fun h=>hm0 (DW h)
   rcases hcap with hcap|⟨rfl,cs,ce,cf,j1,j2⟩
   ·omega
   have hfit:(off+xs.length)*te.size≤cs.size:=by
    rw [hml];exact Nat.le_trans (Nat.mul_le_mul_right _ (by omega)) j2
   obtain ⟨w',r1,r2,r3⟩:=zP (P:=P) cx hb hne hoff hlen k4 (by rw [hml];exact k2) j1 hfit
   refine ⟨.int .i64 (m:Nat),w',?_,r2,r3,by simp only [ak,aL]⟩
   simp [Builtin.copy_,aV ht,bX g1,k1,hmn,k3,r1,goInt]
  simp at hr
 simp at hr
theorem FI (hT:kD P T) (cx:cP G β bx w X) {t e:Nat} {te:TI} (ht:P.underlying t=some (.slice e)) (hte:T e=some te) {x:AV} {ux:Value} (hx:ak β bx w (bp β bx w X) x ux)
 {c:Prop} {v:AV} {b:Option (List aA)} (hr:DO te x bx=some ⟨c,v,b⟩) (hc:c) (ats:List Nat) (ty:Nat):
 ∃r w',(Builtin.clear_ ⟨t::ats⟩ ty ⟨[ux]⟩).run P w=.ok r w'∧Ext β bx w β (dN bx b) w'∧cP G β (dN bx b) w' X∧ak β (dN bx b) w' (bp β (dN bx b) w' X) v r:=by
 unfold DO at hr
 split at hr
 ·rename_i bb sz off n c0 sg hv
  split at hr
  ·rename_i s es z hb hz
   cases h1:Nat.beq s sz with
   |false=>simp [h1] at hr
   |true=>
   cases h2:Nat.beq sz te.size with
   |false=>simp [h1,h2] at hr
   |true=>
   cases h3:eO te with
   |false=>simp [h1,h2,h3] at hr
   |true=>
   have La:=Nat.eq_of_beq_eq_true h1
   have RU:=Nat.eq_of_beq_eq_true h2
   subst La RU
   simp only [h1,h3,Bool.and_self,cond_true,osI,R.mk.injEq] at hr
   obtain ⟨rfl,rfl,rfl⟩:=hr
   obtain ⟨hoff,DW⟩:=hc
   obtain ⟨base,cap,rfl,hn,hcap⟩:=zO hv hx
   obtain ⟨ei,zv,zc,g1,g2,g3,g4,g5,g6,g7⟩:=wg (P:=P) (β:=β) (bx:=bx) (w:=w) hT hte hz h3 (ok:=bp β bx w X)
   by_cases hm0:n=0
   ·subst hm0
    have hw:bx.set bb (.row te.size (wrote es off (List.replicate 0 z)))=bx:=by
     rw [List.replicate_zero,wh];exact zQ hb
    refine ⟨.tuple #[],w,?_,?_,?_,?_⟩
    ·cases base<;>simp [Builtin.clear_,aV ht]
    ·simp only [dN,hw];exact Ext.refl _ _ _
    ·simp only [dN,hw];exact cx
    simp only [ak];exact ⟨[],rfl,by simp [an]⟩
   have hne:es≠[]:=fun h=>hm0 (DW h)
   rcases hcap with hcap|⟨rfl,cs,ce,cf,j1,j2⟩
   ·omega
   have hfit:(off+(List.replicate n z).length)*te.size≤cs.size:=by
    rw [List.length_replicate];exact Nat.le_trans (Nat.mul_le_mul_right _ (by omega)) j2
   have hzl:(Builtin.zeroCells ⟨zc⟩ n).toList.length=(List.replicate n z).length*te.size:=by
    have:=an.length (g7 n)
    rw [this]
    simp [g5]
   obtain ⟨w',r1,r2,r3⟩:=zP (P:=P) cx hb hne hoff (fun r hr=>by rw [List.eq_of_mem_replicate hr];exact g5) (g7 n) hzl j1 hfit
   refine ⟨.tuple #[],w',?_,r2,r3,by simp only [ak];exact ⟨[],rfl,by simp [an]⟩⟩
   obtain ⟨n',rfl⟩:∃n',n=n'+1:=⟨n-1,by omega⟩
   simp [Builtin.clear_,aV ht,gJ g1 g2,g3,r1]
  simp at hr
 simp at hr
theorem RW (n:Int) (h:-9223372036854775808≤n∧n≤9223372036854775807):IntKind.i64.wrap n=n:=by
 simp [IntKind.wrap,IntKind.signed,IntKind.bits];omega
theorem DX {t u e sLen sCap:Nat} {m:Int} {k:IntKind} {base:Option Addr} {olds zc:List Value} {ei:TypeInfo} {zv:Value}
 (ht:P.underlying t=some (.slice e)) (hu:P.underlying u=some (.int k)) (hi:P.info? e=some ei) (hz:ei.zero=some zv) (UF:zv.cells=⟨zc⟩) (hzl:zc.length=ei.size)
 (hs:gr P w ei.size sLen (.slice base sLen sCap) olds) (hm:0≤m) (Wj:sLen≤sCap) (hsz:0<ei.size)
 (hcap:sCap<sLen+m.toNat) (hb0:0<ei.bytes) (hb:(sLen+m.toNat)*ei.bytes≤140737488355328) (ty:Nat):
 ∃cap rest,sLen+m.toNat≤cap∧(cap*ei.size=m.toNat*ei.size+olds.length+rest)∧∃zs:List Value,zs.length=rest∧
  (Builtin.append_ #[t,u] ty #[.slice base sLen sCap,.int .i64 m]).run P w=.ok (.slice (some ⟨w.heap.size,0,none⟩) (sLen+m.toNat) cap)
   {w with drawn:=w.drawn+1,heap:=w.heap.push (.cells ⟨olds++(Builtin.zeroCells ⟨zc⟩ m.toNat).toList++zs⟩ e)}:=by
 obtain ⟨cap,uC⟩:∃cap,cap=(Question.appendCap (sLen+m.toNat) sCap e).cut (w.tape w.drawn (Question.appendCap (sLen+m.toNat) sCap e)):=⟨_,rfl⟩
 have Ov:sLen+m.toNat≤cap:=by rw [uC];simp only [Question.cut];omega
 refine ⟨cap,(cap-(sLen+m.toNat))*ei.size,Ov,?_,(Builtin.zeroCells ⟨zc⟩ (cap-(sLen+m.toNat))).toList,by simp [Builtin.zeroCells,hzl],?_⟩
 ·rw [hs.2.1]
  have:cap=sLen+m.toNat+(cap-(sLen+m.toNat)):=by omega
  conv=>lhs;rw [this]
  simp only [Nat.add_mul];omega
 have hnc:=uB hcap hb
 have UG:¬(281474976710656<Builtin.nextslicecap (sLen+m.toNat) sCap*ei.bytes):=by omega
 have UH:ei.bytes≠0:=by omega
 have hn:¬(sLen+m.toNat≤sCap):=by omega
 have h1:=(hs.2.2 w.drew (fun _ _=>rfl)).2
 have hle:(sLen+m.toNat)*1≤(sLen+m.toNat)*ei.bytes:=Nat.mul_le_mul_left _ hb0
 have hw:IntKind.i64.wrap m=m:=RW m (by omega)
 have hl0:¬m<0:=by omega
 have hmb:m.toNat*ei.bytes≤(sLen+m.toNat)*ei.bytes:=Nat.mul_le_mul_right _ (by omega)
 have hl1:¬(281474976710656:Int)<m*(ei.bytes:Int):=by
  have:m*(ei.bytes:Int)=((m.toNat*ei.bytes:Nat):Int):=by rw [Int.natCast_mul,Int.toNat_of_nonneg hm]
  omega
 have T0:¬(m.toNat=0∨ei.size=0):=by omega
 have hmx:IntKind.i64.max=9223372036854775807:=by decide
 have OC:¬(IntKind.i64.max<((sLen+m.toNat:Nat):Int)):=by rw [hmx];omega
 have WQ:¬(9223372036854775807<(sLen:Int)+max m 0):=by omega
 have Zh:¬(m.toNat*ei.size=0):=by rw [Nat.mul_eq_zero];exact T0
 simp [Builtin.append_,aV ht,aV hu,bX hi,l5 hi,gJ hi hz,asInt,asIntOf,hw,hl0,hl1,hn,UG,UH,Zh,WQ,Question.forced,h1,UF,newRow,←uC]
 have e1:(⟨olds⟩++(Builtin.zeroCells ⟨zc⟩ m.toNat++Builtin.zeroCells ⟨zc⟩ (cap-(sLen+m.toNat))):Array Value)=⟨olds++((Builtin.zeroCells ⟨zc⟩ m.toNat).toList++(Builtin.zeroCells ⟨zc⟩ (cap-(sLen+m.toNat))).toList)⟩:=by
  apply Array.ext'
  simp
 rw [e1]
 rfl
end
end Dem
end
section
open Go
namespace Dem
section
variable {P:Program} {T:Nat→Option TI} {G:Nat→Option (List D)} {β:Nat→Nat} {bx:List aA} {w:World} {X:Nat→Prop}
theorem IG (hT:kD P T) (cx:cP G β bx w X) {t u e:Nat} {k:IntKind} {te:TI} (ht:P.underlying t=some (.slice e)) (hu:P.underlying u=some (.int k)) (hte:T e=some te) {bb sz off n c0:Nat} {sg:Bool} {ux:Value}
 (hx:ak β bx w (bp β bx w X) (.vw bb sz off n c0 sg) ux) {m:Int} {c:Prop} {v:AV} {b:Option (List aA)} (hr:KW te bb sz off n c0 sg m bx=some ⟨c,v,b⟩) (hc:c) (ty:Nat):
 ∃r w' β',(Builtin.append_ #[t,u] ty #[ux,.int .i64 m]).run P w=.ok r w'∧Ext β bx w β' (dN bx b) w'∧cP G β' (dN bx b) w' X∧ak β' (dN bx b) w' (bp β' (dN bx b) w' X) v r:=by
 unfold KW at hr
 split at hr
 ·rename_i s es z hb hz
  cases h1:Nat.beq s sz with
  |false=>simp [h1] at hr
  |true=>
  cases h2:Nat.beq sz te.size with
  |false=>simp [h1,h2] at hr
  |true=>
  cases h3:eO te with
  |false=>simp [h1,h2,h3] at hr
  |true=>
  cases h4:sg with
  |false=>simp [h1,h2,h3,h4] at hr
  |true=>
  have La:=Nat.eq_of_beq_eq_true h1
  have RU:=Nat.eq_of_beq_eq_true h2
  subst La RU h4
  simp only [h1,h3,Bool.and_self,cond_true,osI,R.mk.injEq] at hr
  obtain ⟨rfl,rfl,rfl⟩:=hr
  obtain ⟨hm,hcap,hoff,OC⟩:=hc
  obtain ⟨ei,zv,zc,g1,g2,g3,g4,g5,g6,g7⟩:=wg (P:=P) (β:=β) (bx:=bx) (w:=w) hT hte hz h3 (ok:=bp β bx w X)
  obtain ⟨ei',ed,q1,q2,q3,q4,q5,q6⟩:=aJ (hT.ti _ _ hte)
  rw [g1] at q1
  simp only [osI] at q1;subst q1
  obtain ⟨za,hz1,Ox,YI,YJ⟩:=mg h3
  have hrows:(AV.vw bb te.size off n c0 true).rows bx=some ((es.drop off).take n):=by
   have hle:Nat.ble (off+n) es.length=true:=Nat.ble_eq_true_of_le hoff
   simp [AV.rows,hb,hle]
  have hlen:((es.drop off).take n).length=n:=by simp;omega
  simp only [ak] at hx
  obtain ⟨DY,base,cap,cs,ce,cf,rfl,k1,k2,k3,k4⟩:=hx
  have k3':=k3 trv
  subst k3'
  have aE:∀r∈es,r.length=te.size:=by
   rcases cx.box _ _ hb with rfl|⟨_,_,_,j2⟩
   ·simp
   exact ay.lens _ _ j2
  have hpart:(es.drop off).take n=[]∨∃blk o sz,base=some ⟨blk,o,none⟩∧ay w (bp β bx w X) blk sz ((es.drop off).take n) o:=by
   have N5:ak β bx w (bp β bx w X) (.vw bb te.size off n cap true) (.slice base n cap):=by
    simp only [ak];exact ⟨DY,base,cap,cs,ce,cf,rfl,k1,k2,k3,k4⟩
   obtain ⟨base',cap',e1,_,e3⟩:=ou (IC:=bp β bx w X) hoff ((cx.box bb _ hb).imp id fun ⟨_,_,_,g⟩=>g) N5
   simp only [Value.slice.injEq] at e1
   obtain ⟨rfl,_,_⟩:=e1
   exact e3.imp id fun ⟨a,c⟩=>⟨β bb,off*te.size,te.size,a,c⟩
  obtain ⟨os,o1,o2⟩:=dX (P:=P) (β:=β) (bx:=bx) (cap:=cap) (base:=base) (es:=(es.drop off).take n) (ok:=bp β bx w X) (size:=te.size)
   (fun r hr=>aE r (List.mem_of_mem_drop (List.mem_of_mem_take hr))) hpart
  rw [hlen] at o1
  rw [q3] at o1
  obtain ⟨cap',rest,r1,r2,zs,r3,r4⟩:=DX (P:=P) ht hu g1 g2 g3 g4 o1 hm k1 (by omega) hcap (by omega) (by rw [←q4];exact OC) ty
  have Zi:(Builtin.zeroCells ⟨zc⟩ m.toNat).toList.length=m.toNat*te.size:=by
   have:=an.length (g7 m.toNat)
   rw [this];simp [g5]
  have hrl:((es.drop off).take n++List.replicate m.toNat z).length=n+m.toNat:=by rw [List.length_append,hlen,List.length_replicate]
  obtain ⟨p1,p2,p3⟩:=nN (e:=e) (size:=te.size) (cap:=cap') (rows:=(es.drop off).take n++List.replicate m.toNat z) (vs:=os++(Builtin.zeroCells ⟨zc⟩ m.toNat).toList) (zs:=zs) cx
   (by
    intro r hr
    rcases List.mem_append.1 hr with hr|hr
    ·exact aE r (List.mem_of_mem_drop (List.mem_of_mem_take hr))
    rw [List.eq_of_mem_replicate hr];exact g5)
   (an.flatten_append o2 (g7 m.toNat)) (by rw [List.length_append,Zi,r3,q3];omega) (by rw [hrl];exact r1) (by
    intro h0
    have:=congrArg List.length h0
    rw [hrl] at this
    simp at this;omega)
  rw [hrl] at p3
  refine ⟨_,_,_,r4,p1,p2,?_⟩
  simp only [ak] at p3 ⊢
  obtain ⟨y1,⟨y2,_⟩|⟨y2,RX,y3,y4,y5,y6,y7,y8,y9⟩⟩:=p3
  ·omega
  simp only [Value.slice.injEq] at y6
  obtain ⟨y6,_,rfl⟩:=y6
  exact ⟨y1,_,_,y3,y4,y5,rfl,y7,y7,fun h=>by simp at h,.inr ⟨by rw [y6];simp,y8,by simpa using y9⟩⟩
 simp at hr
theorem DZ (hT:kD P T) (cx:cP G β bx w X) {t u e:Nat} {te:TI} {ud:TypeDesc} (ht:P.underlying t=some (.slice e)) (hu:P.underlying u=some ud) (RQ:∀k,ud≠.int k) (hte:T e=some te) {bb sz off n c0:Nat} {sg:Bool} {ux:Value}
 (hx:ak β bx w (bp β bx w X) (.vw bb sz off n c0 sg) ux) {y:AV} {uy:Value} (hy:ak β bx w (bp β bx w X) y uy) {c:Prop} {v:AV} {b:Option (List aA)} (hr:rA te bb sz off n c0 sg y bx=some ⟨c,v,b⟩) (hc:c) (ty:Nat):
 ∃r w',(Builtin.append_ #[t,u] ty #[ux,uy]).run P w=.ok r w'∧Ext β bx w β (dN bx b) w'∧cP G β (dN bx b) w' X∧ak β (dN bx b) w' (bp β (dN bx b) w' X) v r:=by
 obtain ⟨ei,ed,g1,g2,g3,g4,g5,g6⟩:=aJ (hT.ti _ _ hte)
 unfold rA at hr
 split at hr
 ·rename_i s es xs hb hxs
  cases h1:Nat.beq s sz with
  |false=>simp [h1] at hr
  |true=>
  cases h2:Nat.beq sz te.size with
  |false=>simp [h1,h2] at hr
  |true=>
  have La:=Nat.eq_of_beq_eq_true h1
  have RU:=Nat.eq_of_beq_eq_true h2
  subst La RU
  simp only [h1,Bool.and_self,cond_true,osI,R.mk.injEq] at hr
  obtain ⟨rfl,rfl,rfl⟩:=hr
  obtain ⟨⟨hoff,DW⟩,hcap,hlen⟩:=hc
  have hx0:=hx
  simp only [ak] at hx
  obtain ⟨DY,base,cap,cs,ce,cf,rfl,k1,k2,k3,k4⟩:=hx
  obtain ⟨us,f1,f2,f3,f4⟩:=xB (P:=P) cx hy hxs hlen (m:=xs.length) (Nat.le_refl _)
  rw [List.take_of_length_le (Nat.le_refl _)] at f4
  rw [g3] at f3
  have T1:n+xs.length≤cap:=by omega
  by_cases hx0':xs=[]
  ·subst hx0'
   have WO:us=[]:=by simpa using f2
   subst WO
   have hw:bx.set bb (.row te.size (wrote es (off+n) []))=bx:=by rw [wh];exact zQ hb
   refine ⟨.slice base n cap,w,?_,?_,?_,?_⟩
   ·have hn:n≤cap:=k1
    simp only [List.length_nil] at f1 f3
    cases base<;>simp [Builtin.append_,aV ht,aV hu,bX g1,f1,hn,f3,storeCells]
   ·simp only [dN,hw];exact Ext.refl _ _ _
   ·simp only [dN,hw];exact cx
   simp only [dN,hw];simpa using hx0
  have hne:es≠[]:=fun h=>hx0' (by simpa using DW h)
  have hxl:=List.length_pos_iff.2 hx0'
  rcases k4 with k4|⟨rfl,k5,k6⟩
  ·omega
  have hfit:(off+n+xs.length)*te.size≤cs.size:=Nat.le_trans (Nat.mul_le_mul_right _ (by omega)) k6
  obtain ⟨w',r1,r2,r3⟩:=zP (P:=P) cx hb hne hoff hlen f4 f2 k5 hfit
  have hst:(storeCells (Addr.add ⟨β bb,off*te.size,none⟩ (n*ei.size)) us 0).run P w=.ok () w':=by
   rw [fM,←g3,←Nat.add_mul];exact r1
  refine ⟨.slice (some ⟨β bb,off*te.size,none⟩) (n+xs.length) cap,w',?_,r2,r3,?_⟩
  ·simp [Builtin.append_,aV ht,aV hu,bX g1,f1,T1,f3,hst]
  obtain ⟨c',q1,q2⟩:=r2.shape _ _ _ _ k5
  simp only [ak,dN]
  refine ⟨(r2.born bb DY).2,_,cap,c',ce,cf,rfl,T1,k2,k3,.inr ⟨rfl,q1,by rw [q2];exact k6⟩⟩
 simp at hr
theorem OD {ok:Nat→Prop} {bb sz off n c:Nat} {ex:Bool} {es:List (List D)} {u:Value} (hw:whole es off n c ex) (h:ak β bx w ok (.vw bb sz off n c ex) u):ak β bx w ok (.ow bb sz n) u:=by
 obtain ⟨rfl,rfl,hw⟩:=hw
 simp only [ak] at h ⊢
 obtain ⟨DY,base,cap,cs,ce,cf,rfl,k1,k2,k3,k4⟩:=h
 refine ⟨DY,?_⟩
 by_cases aE:es=[]
 ·obtain ⟨rfl,rfl⟩:=hw aE
  subst aE
  exact .inl ⟨rfl,base,by rw [k3 rfl];rfl⟩
 right
 have:=List.length_pos_iff.2 aE
 refine ⟨by omega,?_⟩
 rcases k4 with k4|⟨rfl,k5,k6⟩
 ·omega
 exact ⟨cap,cs,ce,cf,by simp,k1,k5,by simpa using k6⟩
theorem II {TY:Bool} {n n' cap:Nat} {vl vm:Option Value} {xh:Value}:Instr.sliceBounds TY n cap vl (some xh) vm=Instr.sliceBounds TY n' cap vl (some xh) vm:=by
 cases vm<;>rfl
theorem FJ {len cap:Nat} {lo:Option Int} {h m:Int} {vl:Option Value} {xh xm:Value} (hl:BV lo vl) (hh:BV (some h) (some xh)) (hm:BV (some m) (some xm)) (h0:0≤h) (hhm:h≤m) (hmc:m≤cap) (hlo:∀z,lo=some z→0≤z∧z≤h):
 (Instr.sliceBounds true len cap vl (some xh) (some xm)).run P w=.ok (aW lo,h.toNat,m.toNat) w:=by
 unfold Instr.sliceBounds
 simp only [Sem.run_bind]
 rw [iN hm (by omega) (by omega)]
 simp only [Result.andThen_ok]
 rw [iN hh h0 (by omega)]
 simp only [Result.andThen_ok]
 cases lo with
 |none=>cases vl<;>simp [BV] at hl;simp [aW]
 |some z=>
  cases vl with
  |none=>simp [BV] at hl
  |some x=>
   have hz:=hlo z rfl
   simp only [Sem.run_bind]
   rw [iN hl hz.1 (by omega)]
   simp [aW]
theorem OE {ok:Nat→Prop} {bb sz off n c n' cap lo hi cap' c':Nat} {ex sD:Bool} {base:Option Addr} (DY:cj bx bb) (hlo:lo≤hi) (hhc:hi≤lo+cap') (Rw:lo+cap'≤cap) (vS:c'≤cap') (hex:sD=true→cap'=c')
 (k4:cap=0∨base=some ⟨β bb,off*sz,none⟩∧∃cs ce cf,w.heap[β bb]?=some (.cells cs ce cf)∧(off+cap)*sz≤cs.size) {m:Nat} (hm:m=lo+cap') (hn':n'=hi-lo):
 ak β bx w ok (.vw bb sz (off+lo) n' c' sD) (.slice (if m=lo then base else base.map (·.add (lo*sz))) n' cap'):=by
 subst hm hn'
 simp only [ak]
 by_cases h0:cap'=0
 ·exact ⟨DY,_,cap',#[],0,(0,0),rfl,by omega,vS,hex,.inl h0⟩
 rcases k4 with k4|⟨rfl,cs,ce,cf,k5,k6⟩
 ·omega
 refine ⟨DY,_,cap',cs,ce,cf,rfl,by omega,vS,hex,.inr ⟨?_,k5,?_⟩⟩
 ·rw [if_neg (by omega)];simp [fM,Nat.add_mul]
 exact Nat.le_trans (Nat.mul_le_mul_right _ (by omega)) k6
theorem IJ (hT:kD P T) (cx:cP G β bx w X) {ty e:Nat} {te:TI} (ht:P.underlying ty=some (.slice e)) (hte:T e=some te) {n m:Int} {c:Prop} {v:AV} {b:Option (List aA)} (hr:Fi te n m bx=some ⟨c,v,b⟩) (hc:c):
 ∃r w' β',(Instr.makeSlice ty (.int .i64 n) (.int .i64 m)).run P w=.ok r w'∧Ext β bx w β' (dN bx b) w'∧cP G β' (dN bx b) w' X∧ak β' (dN bx b) w' (bp β' (dN bx b) w' X) v r:=by
 unfold Fi at hr
 split at hr
 ·rename_i z hz
  cases h3:eO te with
  |false=>simp [h3] at hr
  |true=>
  simp only [h3,cond_true,osI,R.mk.injEq] at hr
  obtain ⟨rfl,rfl,rfl⟩:=hr
  obtain ⟨hn,rfl,OC⟩:=hc
  obtain ⟨ei,zv,zc,g1,g2,g3,g4,g5,g6,g7⟩:=wg (P:=P) (β:=β) (bx:=bx) (w:=w) hT hte hz h3 (ok:=bp β bx w X)
  obtain ⟨ei',ed,q1,q2,q3,q4,q5,q6⟩:=aJ (hT.ti _ _ hte)
  rw [g1] at q1
  simp only [osI] at q1;subst q1
  obtain ⟨za,hz1,Ox,YI,YJ⟩:=mg h3
  obtain ⟨N,rfl⟩:∃N:Nat,n=N:=⟨n.toNat,by omega⟩
  simp only [Int.toNat_natCast] at OC ⊢
  have hN:N≤140737488355328:=Nat.le_trans (Nat.le_mul_of_pos_right N (by omega)) OC
  have hw:IntKind.i64.wrap (N:Int)=N:=by simp [IntKind.wrap,IntKind.signed,IntKind.bits];omega
  have hroom:¬(N*ei.bytes>roomBytes):=by rw [←q4];simp only [roomBytes];omega
  have Zj:¬((ei.bytes:Int)*N>2^48):=by
   have e1:((ei.bytes:Int)*N)=((N*ei.bytes:Nat):Int):=by rw [Nat.mul_comm];simp
   rw [e1,←q4];omega
  have hneg:¬((N:Int)<0):=by omega
  have Lb:¬(281474976710656<(ei.bytes:Int)*N):=by omega
  have hcells:Array.map (fun x=>zc[x%zc.length]?.getD default) (Array.range (N*ei.size))=Builtin.zeroCells ⟨zc⟩ N:=by
   simp [Builtin.zeroCells,g4]
  refine ⟨.slice (some ⟨w.heap.size,0,none⟩) N N,{w with heap:=w.heap.push (.cells (Builtin.zeroCells ⟨zc⟩ N) e)},lg β bx.length w.heap.size,?_,fZ _ _,?_,?_⟩
  ·by_cases h0:N*ei.size=0
   ·have T0:Builtin.zeroCells ⟨zc⟩ N=#[]:=by rw [←hcells,h0];simp
    simp [Instr.makeSlice,aV ht,asInt,asIntOf,l5 g1,bX g1,hw,hneg,Lb,askRoom,h0,newRow,newObj,Sem.run,T0]
    congr 2
    apply Array.eq_empty_of_size_eq_zero
    simp
   simp [Instr.makeSlice,aV ht,asInt,asIntOf,l5 g1,bX g1,hw,hneg,Lb,askRoom,h0,gJ g1 g2,newRow,newObj,Sem.run,g3,hcells]
  ·refine kK cx _ _ ?_
   cases N with
   |zero=>exact .inl rfl
   |succ N=>
    refine .inr ⟨_,e,jv w _,?_⟩
    refine mY (β:=lg β bx.length w.heap.size) (bx:=bx++[.row te.size (List.replicate (N+1) z)]) (List.replicate (N+1) z) 0 (Builtin.zeroCells ⟨zc⟩ (N+1)).toList (fun r hr=>by rw [List.eq_of_mem_replicate hr];exact g5) ?_ (an.mono ((fZ _ _).eX X) _ _ (g7 (N+1)))
    intro k u hk
    simp only [World.cell?,jv w _]
    simpa using hk
  simp only [ak,dN]
  refine ⟨⟨.row te.size (List.replicate N z),by simp,rfl⟩,?_⟩
  cases N with
  |zero=>exact .inl ⟨rfl,_,rfl⟩
  |succ N=>
   refine .inr ⟨by omega,N+1,_,e,(0,0),by rw [bu],Nat.le_refl _,by rw [bu];exact jv w _,?_⟩
   have:(Builtin.zeroCells ⟨zc⟩ (N+1)).size=(N+1)*ei.size:=by simp [Builtin.zeroCells,g4]
   rw [this,q3];exact Nat.le_refl _
 simp at hr
theorem IK (hT:kD P T) (cx:cP G β bx w X) {ev:Operand→AV} {ρ:Operand→Value} {o:Oper} (hρ:∀x∈o.op.operands.toList,ak β bx w (bp β bx w X) (ev x) (ρ x))
 {c:Prop} {v:AV} {b:Option (List aA)} (hr:mU T ev o.op bx=some ⟨c,v,b⟩) (hc:c):dH G β bx w X ((execOp ρ o).run P w) v (dN bx b):=by
 obtain ⟨dst,op,type,pos,after,guard⟩:=o
 simp only at hρ hr
 unfold mU at hr
 split at hr
 ·
  rename_i ty x lo hi mx
  have hx:=hρ x (by simp [Op.operands])
  split at hr
  ·rename_i bb sz off n c0 sg te l h he hte hl hh hm
   obtain ⟨ti,e,t1,t2,t3⟩:=eR hte
   have kV:=fO hT t1 t2
   obtain ⟨ei,ed,g1,g2,g3,g4,g5,g6⟩:=aJ (hT.ti _ _ t3)
   have bl:=oz hl (fun y hy=>hρ y (by simp [Op.operands,hy]))
   have bh:=oz hh (fun y hy=>hρ y (by simp [Op.operands,hy]))
   have bm:=oz hm (fun y hy=>hρ y (by simp [Op.operands,hy]))
   cases hs:Nat.beq te.size sz with
   |false=>simp [hs] at hr
   |true=>
   have hs':=Nat.eq_of_beq_eq_true hs
   subst hs'
   simp only [hs,cond_true,osI,R.mk.injEq] at hr
   obtain ⟨rfl,rfl,rfl⟩:=hr
   rw [he] at hx
   simp only [ak] at hx
   obtain ⟨DY,base,cap,cs,ce,cf,hu,k1,k2,k3,k4⟩:=hx
   have hmn:mx.map ρ=none:=by
    cases mx with
    |none=>rfl
    |some q=>simp [BM] at hm;split at hm<;>simp at hm
   have Zk:cap=0∨base=some ⟨β bb,off*te.size,none⟩∧∃cs ce cf,w.heap[β bb]?=some (.cells cs ce cf)∧(off+cap)*te.size≤cs.size:=k4.imp id fun ⟨a,b,c⟩=>⟨a,cs,ce,cf,b,c⟩
   have hb:(Instr.sliceBounds true n cap (lo.map ρ) (hi.map ρ) none).run P w=.ok (aW l,aS n h,cap) w∧aW l≤aS n h∧aS n h≤cap∧(aS n h≤c0∨aS n h=n)∧aW l≤cap:=by
    cases h with
    |none=>
     have Rw:bS n l none:=hc
     have hle:=mZ Rw
     exact ⟨oA bl bh Rw k1,hle.1,by simp only [aS];omega,.inr rfl,by have:=hle.1;simp only [aS] at this ⊢;omega⟩
    |some h=>
     have Rw:bS c0 l (some h):=hc
     have hle:=mZ Rw
     cases hi with
     |none=>simp [BM] at hh
     |some q=>
      simp only [Option.map_some] at bh ⊢
      rw [II (n:=n) (n':=c0)]
      refine ⟨?_,hle.1,by have:=hle.2;simp only [aS] at this ⊢;omega,.inl hle.2,by have:=hle.1;have:=hle.2;simp only [aS] at*;omega⟩
      have:=oA (P:=P) (w:=w) (TY:=true) bl bh Rw k2
      simpa only [aS] using this
   obtain ⟨pX,sE,Wk,Zl,hb5⟩:=hb
   refine dH.pure cx (u:=.slice (if cap=aW l then base else base.map (·.add (aW l*te.size))) (aS n h-aW l) (cap-aW l)) (bR _ ?_) ?_
   ·rw [hu,hmn]
    simp [Instr.sliceAt,aV kV,Instr.slice,pX,bX g1,g3]
   exact OE (ex:=sg) (c:=c0) (n:=n) (cap:=cap) DY sE (by omega) (by omega) (by omega) (fun hex=>by rw [k3 hex]) Zk (by omega) rfl
  ·rename_i bb sz off n c0 sg te l h m he hte hl hh hm
   obtain ⟨ti,e,t1,t2,t3⟩:=eR hte
   have kV:=fO hT t1 t2
   obtain ⟨ei,ed,g1,g2,g3,g4,g5,g6⟩:=aJ (hT.ti _ _ t3)
   have bl:=oz hl (fun y hy=>hρ y (by simp [Op.operands,hy]))
   have bh:=oz hh (fun y hy=>hρ y (by simp [Op.operands,hy]))
   have bm:=oz hm (fun y hy=>hρ y (by simp [Op.operands,hy]))
   cases hs:Nat.beq te.size sz with
   |false=>simp [hs] at hr
   |true=>
   have hs':=Nat.eq_of_beq_eq_true hs
   subst hs'
   simp only [hs,cond_true,osI,R.mk.injEq] at hr
   obtain ⟨rfl,rfl,rfl⟩:=hr
   obtain ⟨Rw,hhm,hmc⟩:=hc
   have hle:=mZ Rw
   rw [he] at hx
   simp only [ak] at hx
   obtain ⟨DY,base,cap,cs,ce,cf,hu,k1,k2,k3,k4⟩:=hx
   have Zk:cap=0∨base=some ⟨β bb,off*te.size,none⟩∧∃cs ce cf,w.heap[β bb]?=some (.cells cs ce cf)∧(off+cap)*te.size≤cs.size:=k4.imp id fun ⟨a,b,c⟩=>⟨a,cs,ce,cf,b,c⟩
   cases hi with
   |none=>simp [BM] at hh
   |some qh=>
   cases mx with
   |none=>simp [BM] at hm
   |some qm=>
   simp only [Option.map_some] at bh bm
   have h0:0≤h:=by cases l<;>simp [bS] at Rw<;>omega
   have pX:=FJ (P:=P) (w:=w) (len:=n) (cap:=cap) bl bh bm h0 hhm (by omega) (fun z hz=>by subst hz;simp [bS] at Rw;omega)
   have sE:=hle.1
   simp only [aS] at sE
   refine dH.pure cx (u:=.slice (if m.toNat=aW l then base else base.map (·.add (aW l*te.size))) (h.toNat-aW l) (m.toNat-aW l)) (bR _ ?_) ?_
   ·rw [hu]
    simp [Instr.sliceAt,aV kV,Instr.slice,pX,bX g1,g3]
   exact OE (ex:=sg) (c:=c0) (n:=n) (cap:=cap) DY sE (by omega) (by omega) (by omega) (fun _=>rfl) Zk (by omega) rfl
  simp at hr
 ·
  rename_i ty x i
  have hx:=hρ x (by simp [Op.operands])
  have hi:=hρ i (by simp [Op.operands])
  split at hr
  ·rename_i bb sz off n c0 sg te k z he hte hz
   obtain ⟨ti,e,t1,t2,t3⟩:=eR hte
   have kV:=fO hT t1 t2
   obtain ⟨ei,ed,g1,g2,g3,g4,g5,g6⟩:=aJ (hT.ti _ _ t3)
   rw [hz] at hi;simp only [ak,aL] at hi
   cases hs:Nat.beq te.size sz with
   |false=>simp [hs] at hr
   |true=>
   have hs':=Nat.eq_of_beq_eq_true hs
   subst hs'
   simp only [hs,cond_true,osI,R.mk.injEq] at hr
   obtain ⟨rfl,rfl,rfl⟩:=hr
   rw [he] at hx;simp only [ak] at hx
   obtain ⟨DY,base,cap,cs,ce,cf,hu,k1,k2,k3,k4⟩:=hx
   rcases k4 with k4|⟨rfl,k5,k6⟩
   ·omega
   refine dH.pure cx (u:=.pointer (some ⟨β bb,off*te.size+z.toNat*te.size,none⟩)) (bR _ ?_) ?_
   ·rw [hu];simp [Instr.indexAt,hi,asIntOf,aV kV,hc.1,hc.2,bX g1,fM,g3]
   simp only [ak];exact ⟨by simp [Nat.add_mul],DY⟩
  simp at hr
 ·
  rename_i ty x y
  have hx:=hρ x (by simp [Op.operands])
  have hy:=hρ y (by simp [Op.operands])
  split at hr
  ·rename_i te n m hte he hm
   obtain ⟨ti,e,t1,t2,t3⟩:=eR hte
   have kV:=fO hT t1 t2
   rw [he] at hx;rw [hm] at hy
   simp only [ak,aL] at hx hy
   obtain ⟨r,w',β',k1,k2,k3,k4⟩:=IJ (P:=P) hT cx kV t3 hr hc
   exact ⟨β',w',k2,k3,.inl ⟨r,bR _ (by rw [hx,hy];exact k1),k4⟩⟩
  simp at hr
 ·
  rename_i bn args ats
  have hxs:an β bx w (bp β bx w X) (args.toList.map ev) (args.toList.map ρ):=iA args.toList (fun y hy=>hρ y (by simp [Op.operands,Call.operands];exact by simpa using hy))
  have fin:∀(r:Value) (w':World) (β':Nat→Nat) (aU:List aA) (v':AV),(Go.builtin bn ⟨ats.toList⟩ type (args.map fun|.const _=>true|_=>false) ⟨args.toList.map ρ⟩).run P w=.ok (.value r) w'→
   Ext β bx w β' aU w'→cP G β' aU w' X→ak β' aU w' (bp β' aU w' X) v' r→dH G β bx w X ((execOp ρ ⟨dst,.call {callee:=.builtin bn,args:=args,argTypes:=ats},type,pos,after,guard⟩).run P w) v' aU:=by
   intro r w' β' aU v' h1 h2 h3 h4
   refine ⟨β',w',h2,h3,.inl ⟨r,?_,h4⟩⟩
   simp only [execOp,resolve,Sem.run_bind,Sem.run_pure,Result.andThen_ok,invoke,fN args ρ]
   exact h1
  generalize args.toList.map ρ=vs at hxs fin
  generalize UL:ats.toList=al at hr fin
  generalize args.toList.map ev=as at hr hxs
  generalize (args.map fun|.const _=>true|_=>false)=cs at fin
  split at hr
  ·
   rename_i bb sz off n c0 sg ty
   simp only [an] at hxs
   obtain ⟨u,us,rfl,hx,rfl⟩:=hxs
   split at hr
   ·rename_i te hte
    obtain ⟨ti,e,t1,t2,t3⟩:=eR hte
    have kV:=fO hT t1 t2
    simp only [R.pure,osI,R.mk.injEq] at hr
    obtain ⟨_,rfl,rfl⟩:=hr
    simp only [ak] at hx
    obtain ⟨DY,base,cap,_,_,_,rfl,_⟩:=hx
    exact fin (.int .i64 n) w β bx _ (bR _ (by simp [Builtin.len_,aV kV,goInt])) (Ext.refl _ _ _) cx (by simp only [ak,aL])
   simp at hr
  ·
   rename_i bb sz off n c0 ty
   simp only [an] at hxs
   obtain ⟨u,us,rfl,hx,rfl⟩:=hxs
   split at hr
   ·rename_i te hte
    obtain ⟨ti,e,t1,t2,t3⟩:=eR hte
    have kV:=fO hT t1 t2
    simp only [R.pure,osI,R.mk.injEq] at hr
    obtain ⟨_,rfl,rfl⟩:=hr
    simp only [ak] at hx
    obtain ⟨DY,base,cap,_,_,_,rfl,_,_,k3,_⟩:=hx
    have:=k3 trv
    subst this
    exact fin (.int .i64 cap) w β bx _ (bR _ (by simp [Builtin.cap_,aV kV,goInt])) (Ext.refl _ _ _) cx (by simp only [ak,aL])
   simp at hr
  ·
   rename_i x y ty rest
   simp only [an] at hxs
   obtain ⟨ux,us,rfl,hx,uy,Ot,rfl,hy,rfl⟩:=hxs
   split at hr
   ·rename_i te hte
    obtain ⟨ti,e,t1,t2,t3⟩:=eR hte
    have kV:=fO hT t1 t2
    obtain ⟨r,w',k1,k2,k3,k4⟩:=IF (P:=P) hT cx kV t3 hx hy hr hc rest type
    exact fin r w' β _ _ (bR _ k1) k2 k3 k4
   simp at hr
  ·
   rename_i x ty rest
   simp only [an] at hxs
   obtain ⟨ux,us,rfl,hx,rfl⟩:=hxs
   split at hr
   ·rename_i te hte
    obtain ⟨ti,e,t1,t2,t3⟩:=eR hte
    have kV:=fO hT t1 t2
    obtain ⟨r,w',k1,k2,k3,k4⟩:=FI (P:=P) hT cx kV t3 hx hr hc rest type
    exact fin r w' β _ _ (bR _ k1) k2 k3 k4
   simp at hr
  ·
   rename_i bb sz off n c0 sg y ty u
   simp only [an] at hxs
   obtain ⟨ux,us,rfl,hx,uy,Ot,rfl,hy,rfl⟩:=hxs
   split at hr
   ·rename_i te hte hi
    obtain ⟨ti,e,t1,t2,t3⟩:=eR hte
    have kV:=fO hT t1 t2
    split at hr
    ·rename_i m
     simp only [DN] at hi
     split at hi
     ·rename_i tu htu
      split at hi
      ·rename_i k hk
       obtain ⟨ui,ud,q1,q2,q3,q4,q5,q6⟩:=aJ (hT.ti _ _ htu)
       rw [hk] at q5
       cases ud<;>simp [cY] at q5
       subst q5
       simp only [ak,aL] at hy;subst hy
       obtain ⟨r,w',β',k1,k2,k3,k4⟩:=IG (P:=P) hT cx kV q2 t3 hx hr hc type
       exact fin r w' β' _ _ (bR _ k1) k2 k3 k4
      simp at hi
     simp at hi
    simp at hr
   ·rename_i te hte hi
    obtain ⟨ti,e,t1,t2,t3⟩:=eR hte
    have kV:=fO hT t1 t2
    simp only [DN] at hi
    split at hi
    ·rename_i tu htu
     split at hi
     ·simp at hi
     rename_i hk
     obtain ⟨ui,ud,q1,q2,q3,q4,q5,q6⟩:=aJ (hT.ti _ _ htu)
     have RQ:∀k,ud≠.int k:=by rintro k rfl;exact hk k (by rw [q5];rfl)
     cases IE:sameBox bb y with
     |true=>
      simp only [IE,cond_true] at hr
      obtain ⟨r,w',k1,k2,k3,k4⟩:=DZ (P:=P) hT cx kV q2 RQ t3 hx hy hr hc type
      exact fin r w' β _ _ (bR _ k1) k2 k3 k4
     |false=>
      simp only [IE,cond_false] at hr
      split at hr
      ·rename_i s es c1 v1 pO hb hap
       simp only [osI,R.mk.injEq] at hr
       obtain ⟨rfl,rfl,rfl⟩:=hr
       obtain ⟨r,w',β',aU,rfl,k1,k2,k3,k4⟩:=uD (P:=P) hT cx htu (fun k hk'=>hk k hk') (OD hc.2 hx) hy hap hc.1 type
       exact fin r w' β' _ _ (bR _ k1) k2 k3 k4
      simp at hr
    simp at hi
   simp at hr
  simp at hr
 simp at hr
theorem zR (hT:kD P T) (cx:cP G β bx w X) {ev:Operand→AV} {ρ:Operand→Value} {o:Oper} (hρ:∀x∈o.op.operands.toList,ak β bx w (bp β bx w X) (ev x) (ρ x))
 {c:Prop} {v:AV} {b:Option (List aA)} (hr:Fb T ev o.op bx=some ⟨c,v,b⟩) (hc:c):dH G β bx w X ((execOp ρ o).run P w) v (dN bx b):=by
 unfold Fb at hr
 cases hv:iZ ev o.op with
 |true=>rw [hv,cond_true] at hr;exact IK hT cx hρ hr hc
 |false=>rw [hv,cond_false] at hr;exact Mm hT cx hρ hr hc
end
end Dem
end
