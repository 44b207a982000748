/- Parts of a proof, joined. -/
import Derived.Test.YtihohjnkkalgiaaGreatDoorS02
import Derived.ChangeKeysEq
import Derived.Laws.StructEq
set_option linter.all false
set_option maxRecDepth 100000
set_option maxHeartbeats 4000000
section
open Go
namespace Dem
section
variable {P:Program} {T:Nat→Option TI} {G:Nat→Option (List D)} {β:Nat→Nat} {bx:List aA} {w:World} {X:Nat→Prop}
theorem an.flatten_append {ok:Nat→Prop} {es xs:List (List D)} {vs us:List Value} (h1:an β bx w ok (es.flatten.map .d) vs) (h2:an β bx w ok (xs.flatten.map .d) us):
 an β bx w ok ((es++xs).flatten.map .d) (vs++us):=by
 rw [List.flatten_append,List.map_append];exact an.append h1 h2
theorem K7 (ds:List D):uf (ds.map .d)=true:=by
 induction ds with
 |nil=>rfl
 |cons d ds ih=>simp [uf,AV.sc,ih]
theorem Ml (cx:cP G β bx w X) {b size cap:Nat} {es xs:List (List D)} {c:Array Value} {e:TypeId} {vs us rest:List Value} (hb:bx[b]?=some (.row size es)) (hne:es≠[])
 (hh:w.heap[β b]?=some (.cells c e (0,0))) (hc:c.toList=vs++rest) (hvl:vs.length=es.length*size) (abD:us.length≤rest.length)
 (hl:∀r∈es++xs,r.length=size) (hv:an β bx w (bp β bx w X) (es.flatten.map .d) vs) (hu:an β bx w (bp β bx w X) (xs.flatten.map .d) us)
 (hcap:cap*size≤c.size) (hlen:es.length+xs.length≤cap):
 ∃β' w',w'=eC w (β b) (.cells ⟨bf c.toList (es.length*size) us⟩ e (0,0))∧Ext β bx w β' ((bx.set b .dead)++[.row size (es++xs)]) w'∧cP G β' ((bx.set b .dead)++[.row size (es++xs)]) w' X∧
  ak β' ((bx.set b .dead)++[.row size (es++xs)]) w' (bp β' ((bx.set b .dead)++[.row size (es++xs)]) w' X) (.ow bx.length size (es.length+xs.length)) (.slice (some ⟨β b,0,none⟩) (es.length+xs.length) cap):=by
 have cG:(aA.row size es).live=true:=by cases es<;>simp_all [aA.live]
 have abE:=jz hb
 have hlen':(bx.set b .dead).length=bx.length:=by simp
 have hsp:bf c.toList (es.length*size) us=vs++us++rest.drop us.length:=by
  rw [hc,←hvl,mc _ _ _ (by simp;omega)]
  simp
 have K8:(⟨bf c.toList (es.length*size) us⟩:Array Value).size=c.size:=by simp [dA]
 have ex:Ext β bx w (lg β bx.length (β b)) ((bx.set b .dead)++[.row size (es++xs)]) (eC w (β b) (.cells ⟨bf c.toList (es.length*size) us⟩ e (0,0))):=by
  refine ⟨rfl,rfl,rfl,by simp [eC],?_,?_,?_,?_⟩
  ·intro k _ hl'
   exact iM (fun e=>hl' b _ hb cG e.symm)
  ·intro k c1 e1 f1 hk
   by_cases h:k=β b
   ·subst h
    rw [hh] at hk
    simp only [osI,Obj.cells.injEq] at hk
    obtain ⟨rfl,rfl,rfl⟩:=hk
    exact ⟨_,dY hh,K8⟩
   exact ⟨c1,by rw [iM h];exact hk,rfl⟩
  ·intro i hi
   have hil:i<bx.length:=by obtain ⟨_,h1,_⟩:=hi;exact jz h1
   obtain ⟨B,h1,h2⟩:=iE (b:=b) (B':=.dead) rfl hi
   exact ⟨dm _ _ (by omega),B,eJ h1,h2⟩
  intro i B h1 h2
  rcases bz h1 with ⟨h3,h4⟩|⟨rfl,rfl⟩
  ·rcases aP h3 with ⟨_,rfl,_⟩|⟨_,h5⟩
   ·simp [aA.live] at h2
   exact .inr ⟨i,B,h5,h2,(dm _ _ (by simp at h4;omega)).symm⟩
  exact .inr ⟨b,_,hb,cG,by rw [hlen',bu]⟩
 refine ⟨lg β bx.length (β b),_,rfl,ex,?_,?_⟩
 ·refine cx.step ex ?_ ?_
  ·intro i B h1
   rcases bz h1 with ⟨h3,h4⟩|⟨rfl,rfl⟩
   ·rcases aP h3 with ⟨_,rfl,_⟩|⟨h5,h6⟩
    ·exact .inr trv
    exact .inl ⟨h6,fun hl'=>iM (fun e=>h5 (cx.inj i b B _ h6 hb hl' cG e))⟩
   refine .inr (.inr ⟨_,e,by rw [hlen',bu];exact dY hh,?_⟩)
   rw [hlen',bu]
   refine mY (β:=lg β bx.length (β b)) (bx:=(bx.set b .dead)++[.row size (es++xs)]) _ 0 (vs++us) hl ?_ (an.mono (ex.eX X) _ _ (an.flatten_append hv hu))
   intro k u hk
   have hk':k<(vs++us).length:=by
    rcases Nat.lt_or_ge k (vs++us).length with h|h
    ·exact h
    simp [List.getElem?_eq_none h] at hk
   simp only [World.cell?,dY hh]
   simp only [hsp,Nat.zero_add]
   have RS:(vs++us++rest.drop us.length)[k]?=some u:=by rw [List.getElem?_append_left hk'];exact hk
   simpa using RS
  intro i j bi bj h1 h2 l1 l2 he
  rcases bz h1 with ⟨h3,h4⟩|⟨rfl,rfl⟩<;>rcases bz h2 with ⟨h5,h6⟩|⟨rfl,rfl⟩
  ·rcases aP h3 with ⟨_,rfl,_⟩|⟨n3,g3⟩
   ·simp [aA.live] at l1
   rcases aP h5 with ⟨_,rfl,_⟩|⟨n5,g5⟩
   ·simp [aA.live] at l2
   simp at h4 h6
   rw [dm _ _ (by omega),dm _ _ (by omega)] at he
   exact cx.inj i j bi bj g3 g5 l1 l2 he
  ·rcases aP h3 with ⟨_,rfl,_⟩|⟨n3,g3⟩
   ·simp [aA.live] at l1
   simp at h4
   rw [hlen',dm _ _ (by omega),bu] at he
   exact absurd (cx.inj i b bi _ g3 hb l1 cG he) n3
  ·rcases aP h5 with ⟨_,rfl,_⟩|⟨n5,g5⟩
   ·simp [aA.live] at l2
   simp at h6
   rw [hlen',bu,dm _ _ (by omega)] at he
   exact absurd (cx.inj j b bj _ g5 hb l2 cG he.symm) n5
  rfl
 simp only [ak]
 have Ow:es.length+xs.length≠0:=by
  have:=List.length_pos_iff.2 hne;omega
 refine ⟨⟨.row size (es++xs),by rw [←hlen'];simp,rfl⟩,.inr ⟨Ow,cap,_,e,(0,0),by rw [bu],hlen,by rw [bu];exact dY hh,by rw [K8];exact hcap⟩⟩
theorem mg {te:TI} (h:eO te=true):∃z,te.zero.cells?=some z∧z.length=te.size∧0<te.bytes∧0<te.size:=by
 unfold eO at h
 split at h
 ·rename_i z hz
  simp only [Bool.and_eq_true] at h
  refine ⟨z,hz,Nat.eq_of_beq_eq_true h.1.1,?_,?_⟩
  ·have:=h.1.2;simpa [Nat.blt_eq] using this
  have:=h.2;simpa [Nat.blt_eq] using this
 simp at h
theorem uD (hT:kD P T) (cx:cP G β bx w X) {t u:Nat} {s x:AV} {us ux:Value} {tu:TI} (hu:T u=some tu) (RQ:∀k,tu.kd≠.int k)
 (hs:ak β bx w (bp β bx w X) s us) (hx:ak β bx w (bp β bx w X) x ux) {c:Prop} {v:AV} {b:Option (List aA)} (hr:lz T t s x bx=some ⟨c,v,b⟩) (hc:c) (ty:Nat):
 ∃r w' β' aU,b=some aU∧(Builtin.append_ #[t,u] ty #[us,ux]).run P w=.ok r w'∧Ext β bx w β' aU w'∧cP G β' aU w' X∧ak β' aU w' (bp β' aU w' X) v r:=by
 obtain ⟨ui,ud,u1,u2,u3,u4,u5,u6⟩:=aJ (hT.ti _ _ hu)
 have DU:∀k,ud≠.int k:=by rintro k rfl;exact RQ k (by rw [u5];rfl)
 unfold lz at hr
 cases ht:T t with
 |none=>simp [ht] at hr
 |some ti=>
 obtain ⟨i,d,h1,h2,h3,h4,h5,h6⟩:=aJ (hT.ti _ _ ht)
 simp only [ht] at hr
 cases hk:ti.kd with
 |slice e=>
  rw [hk] at hr h5
  cases d<;>simp [cY] at h5
  subst h5
  cases hte:T e with
  |none=>simp [hte] at hr
  |some te=>
  obtain ⟨ei,ed,g1,g2,g3,g4,g5,g6⟩:=aJ (hT.ti _ _ hte)
  simp only [hte] at hr
  cases hz:eO te with
  |false=>simp [hz] at hr
  |true=>
  obtain ⟨z,hz1,Ox,YI,YJ⟩:=mg hz
  obtain ⟨zv,zc,k1,k2,k3,_⟩:=uz (β:=β) (bx:=bx) (w:=w) (ok:=bp β bx w X) (hT.ti _ _ hte) hz1
  have hzl:zc.length=ei.size:=by rw [an.length k3,Ox,g3]
  have yT:ei.zero=some zv:=by
   cases hq:ei.zero with
   |none=>rw [g6,hq] at hz1;simp [AV.cells?] at hz1
   |some q=>have:=gJ (P:=P) (w:=w) g1 hq;rw [k1] at this;simp at this;rw [this]
  simp only [hz,cond_true] at hr
  cases WM:kJ te.size x bx with
  |none=>simp [WM] at hr
  |some xs=>
  simp only [WM] at hr
  cases s with
  |cl es=>
   simp only [ak] at hs
   obtain ⟨base,rfl,hbase⟩:=hs
   cases es with
   |nil=>
    simp only [osI,R.mk.injEq] at hr
    obtain ⟨rfl,rfl,rfl⟩:=hr
    obtain ⟨BO,BP⟩:=hc
    obtain ⟨ws,f1,f2⟩:=lB (P:=P) cx hx WM BP
    rw [g3] at f1
    by_cases hxs:xs=[]
    ·subst hxs
     have hrun:=xy (base:=base) h2 u2 DU g1 f1 ty
     refine ⟨_,w,_,_,rfl,hrun,sY (B:=.row te.size []) rfl 0,zM cx (B:=.row te.size []) rfl 0 (.inl rfl),?_⟩
     simp only [ak]
     exact ⟨⟨.row te.size [],by simp,rfl⟩,.inl ⟨rfl,base,rfl⟩⟩
    have hpos:=List.length_pos_iff.2 hxs
    have f0:gr P w ei.size 0 (.slice base 0 0) []:=by
     refine ⟨dB,by simp,fun w' _=>⟨dB,?_⟩⟩
     cases base<;>simp [Builtin.firstCells,loadCells,loadCellsFrom]
    obtain ⟨cap,rest,q1,q2,zs,q3,q4⟩:=jC h2 u2 DU g1 yT k2 hzl f1 f0 (by omega) (by omega) (by rw [←g4];simpa using BO) ty
    obtain ⟨r1,r2,r3⟩:=nN (e:=e) (size:=te.size) (cap:=cap) (rows:=xs) (zs:=zs) cx BP f2 (by rw [g3,q3];simp at q2;omega) (by omega) hxs
    simp only [Nat.zero_add,List.nil_append] at q4
    exact ⟨_,_,_,_,rfl,q4,r1,r2,r3⟩
   |cons e0 er=>
    cases xs with
    |nil=>simp at hr
    |cons x0 xr=>
     simp only [osI,R.mk.injEq] at hr
     obtain ⟨rfl,rfl,rfl⟩:=hr
     obtain ⟨BO,BP⟩:=hc
     obtain ⟨ws,f1,f2⟩:=lB (P:=P) cx hx WM (fun r hr=>BP r (List.mem_append.2 (.inr hr)))
     obtain ⟨os,o1,o2⟩:=dX (P:=P) (β:=β) (bx:=bx) (cap:=(e0::er).length) (base:=base) (es:=e0::er) (ok:=bp β bx w X) (fun r hr=>BP r (List.mem_append.2 (.inl hr))) (hbase.imp id fun ⟨blk,off,sz,a,_,c⟩=>⟨blk,off,sz,a,c⟩)
     rw [g3] at f1 o1
     obtain ⟨cap,rest,q1,q2,zs,q3,q4⟩:=jC h2 u2 DU g1 yT k2 hzl f1 o1 (by simp) (by omega) (by rw [←g4];exact BO) ty
     obtain ⟨r1,r2,r3⟩:=nN (e:=e) (size:=te.size) (cap:=cap) (rows:=(e0::er)++(x0::xr)) (zs:=zs) (vs:=os++ws) cx BP (an.flatten_append o2 f2) (by rw [g3,q3];simp at q2 ⊢;omega) (by rw [List.length_append];exact q1) (by simp)
     rw [List.length_append] at r3
     exact ⟨_,_,_,_,rfl,q4,r1,r2,r3⟩
  |ow b' sz n=>
   cases rG:bx[b']? with
   |none=>simp [rG] at hr
   |some B=>
   cases B with
   |row s2 es=>
    simp only [rG] at hr
    cases IE:sameBox b' x with
    |true=>simp [IE] at hr
    |false=>
    simp only [IE,cond_false,osI,R.mk.injEq] at hr
    obtain ⟨rfl,rfl,rfl⟩:=hr
    obtain ⟨rfl,rfl,rfl,BO,BP⟩:=hc
    obtain ⟨ws,f1,f2⟩:=lB (P:=P) cx hx WM (fun r hr=>BP r (List.mem_append.2 (.inr hr)))
    have hrows:(AV.ow b' te.size es.length).rows bx=some es:=by simp [AV.rows,rG]
    obtain ⟨_,base,RT,rfl,p1,p2⟩:=uq cx hrows hs
    rw [g3] at f1
    rcases p2 with ⟨rfl,rfl⟩|⟨hne,rfl,p3,ca,ce,cf,p4,p5⟩
    ·
     have sg:Ext β bx w β (bx.set b' .dead) w:=iF rG rfl rfl
     have Wi:cP G β (bx.set b' .dead) w X:=ke cx rG rfl rfl trv
     by_cases hxs:xs=[]
     ·subst hxs
      have hrun:=xy (base:=base) h2 u2 DU g1 f1 ty
      refine ⟨_,w,_,_,rfl,hrun,sg.trans (sY (B:=.row te.size ([]++[])) rfl 0),zM Wi (B:=.row te.size ([]++[])) rfl 0 (.inl rfl),?_⟩
      simp only [ak]
      exact ⟨⟨.row te.size [],by simp,rfl⟩,.inl ⟨rfl,base,rfl⟩⟩
     have hpos:=List.length_pos_iff.2 hxs
     have f0:gr P w ei.size 0 (.slice base 0 0) []:=by
      refine ⟨dB,by simp,fun w' _=>⟨dB,?_⟩⟩
      cases base<;>simp [Builtin.firstCells,loadCells,loadCellsFrom]
     obtain ⟨cap,rest,q1,q2,zs,q3,q4⟩:=jC h2 u2 DU g1 yT k2 hzl f1 f0 (by omega) (by omega) (by rw [←g4];simpa using BO) ty
     obtain ⟨r1,r2,r3⟩:=nN (e:=e) (size:=te.size) (cap:=cap) (rows:=[]++xs) (zs:=zs) Wi BP (by simpa using an.mono (sg.eX X) _ _ f2) (by rw [g3,q3];simp at q2;omega) (by simpa using q1) (by simpa using hxs)
     simp only [Nat.zero_add,List.nil_append,List.length_nil,List.length_set] at q4 r1 r2 r3 ⊢
     exact ⟨_,_,_,_,rfl,q4,sg.trans r1,r2,r3⟩
    rcases cx.box _ _ rG with h0|⟨c2,e2,j1,j2⟩
    ·exact absurd h0 hne
    rw [p4] at j1
    simp only [osI,Obj.cells.injEq] at j1
    obtain ⟨rfl,rfl,rfl⟩:=j1
    obtain ⟨Cw,v1,v2,v3⟩:=kf (β:=β) (bx:=bx) es 0 p3
    obtain ⟨WN,pg⟩:=oy p4 v2
    have hcs:ca.size=Cw.length+WN.length:=by have:=congrArg List.length pg;simpa using this
    by_cases hfit:es.length+xs.length≤RT
    ·have hmul:(es.length+xs.length)*te.size≤RT*te.size:=Nat.mul_le_mul_right _ hfit
     rw [Nat.add_mul] at hmul
     have hwl:ws.length=xs.length*te.size:=by rw [f1.2.1,g3]
     have hrun:=Fz (sCap:=RT) (sLen:=es.length) h2 u2 DU g1 f1 (an.sc (K7 _) f2) p4 (by rw [←g3];omega) hfit ty
     obtain ⟨β',w',hw',r1,r2,r3⟩:=Ml (xs:=xs) (us:=ws) cx rG hne p4 pg v1 (by omega) BP v3 f2 p5 hfit
     rw [←g3] at hrun
     subst hw'
     exact ⟨_,_,_,_,rfl,hrun,r1,r2,r3⟩
    obtain ⟨os,o1,o2⟩:=dX (P:=P) (β:=β) (bx:=bx) (cap:=RT) (base:=some ⟨β b',0,none⟩) (es:=es) (ok:=bp β bx w X) (fun r hr=>BP r (List.mem_append.2 (.inl hr))) (.inr ⟨β b',0,te.size,rfl,p3⟩)
    rw [g3] at o1
    have sg:Ext β bx w β (bx.set b' .dead) w:=iF rG rfl rfl
    have Wi:cP G β (bx.set b' .dead) w X:=ke cx rG rfl rfl trv
    obtain ⟨cap,rest,q1,q2,zs,q3,q4⟩:=jC h2 u2 DU g1 yT k2 hzl f1 o1 (by omega) (by omega) (by rw [←g4];exact BO) ty
    obtain ⟨r1,r2,r3⟩:=nN (e:=e) (size:=te.size) (cap:=cap) (rows:=es++xs) (zs:=zs) (vs:=os++ws) Wi BP (an.mono (sg.eX X) _ _ (an.flatten_append o2 f2)) (by rw [g3,q3];simp at q2 ⊢;omega) (by simpa using q1) (by simp [hne])
    rw [List.length_append] at r3
    simp only [List.length_set] at r1 r2 r3
    exact ⟨_,_,_,_,rfl,q4,sg.trans r1,r2,r3⟩
   |_=>simp [rG] at hr
  |_=>simp at hr
 |_=>rw [hk] at hr;simp at hr
end
end Dem
end
section
open Go
namespace Dem
section
variable {P:Program} {T:Nat→Option TI} {G:Nat→Option (List D)} {β:Nat→Nat} {bx:List aA} {w:World} {X:Nat→Prop}
theorem bR (s:Sem Value) {x:Value} {w':World} (h:s.run P w=.ok x w'):(do pure (Next.value (←s)):Sem Next).run P w=.ok (.value x) w':=by
 simp [h]
theorem Oy {x:AV} {u:Value} {v:AV} {t:Nat} {e:Nat} (cx:cP G β bx w X) (ht:P.underlying t=some (.slice e)) (hx:ak β bx w (bp β bx w X) x u) (hr:zu x bx=some v) (ty:Nat):
 ∃r,(Builtin.len_ #[t] ty #[u]).run P w=.ok r w∧ak β bx w (bp β bx w X) v r:=by
 have fin:∀n base cap,u=.slice base n cap→v=.d (.int .i64 n)→∃r,(Builtin.len_ #[t] ty #[u]).run P w=.ok r w∧ak β bx w (bp β bx w X) v r:=by
  rintro n base cap rfl rfl
  exact ⟨.int .i64 n,by simp [Builtin.len_,aV ht,goInt],by simp [ak,aL]⟩
 unfold zu at hr
 split at hr
 ·simp only [osI] at hr;subst hr
  simp only [ak,aL] at hx
  obtain ⟨base,cap,rfl,_⟩:=hx
  exact fin _ _ _ rfl rfl
 ·simp only [osI] at hr;subst hr
  simp only [ak] at hx
  obtain ⟨base,rfl,_⟩:=hx
  exact fin _ _ _ rfl rfl
 ·split at hr
  ·rename_i es aE
   simp only [osI] at hr;subst hr
   obtain ⟨_,base,cap,rfl,_⟩:=uq cx aE hx
   exact fin _ _ _ rfl rfl
  simp at hr
 ·split at hr
  ·rename_i es aE
   simp only [osI] at hr;subst hr
   obtain ⟨_,_,base,cap,rfl,_⟩:=kg cx aE hx
   exact fin _ _ _ rfl rfl
  simp at hr
 simp at hr
theorem BT (hT:kD P T) (cx:cP G β bx w X) {bn:Builtin} {args:List AV} {vs:List Value} {ats:List Nat} (hx:an β bx w (bp β bx w X) args vs)
 {c:Prop} {v:AV} {b:Option (List aA)} (hr:iY T bn args ats bx=some ⟨c,v,b⟩) (hc:c) (ty:Nat) (cs:Array Bool):
 ∃r w' β',(Go.builtin bn ⟨ats⟩ ty cs ⟨vs⟩).run P w=.ok (.value r) w'∧Ext β bx w β' (dN bx b) w'∧cP G β' (dN bx b) w' X∧ak β' (dN bx b) w' (bp β' (dN bx b) w' X) v r:=by
 unfold iY at hr
 split at hr
 ·rename_i x t
  simp only [an] at hx
  obtain ⟨u,us,rfl,hx,rfl⟩:=hx
  cases ht:T t with
  |none=>simp [ht] at hr
  |some ti=>
  obtain ⟨i,d,h1,h2,h3,h4,h5,h6⟩:=aJ (hT.ti _ _ ht)
  simp only [ht] at hr
  cases hk:ti.kd with
  |array n e=>
   rw [hk] at hr h5
   cases d<;>simp [cY] at h5
   obtain ⟨rfl,rfl⟩:=h5
   simp only [R.pure,osI,R.mk.injEq] at hr
   obtain ⟨_,rfl,rfl⟩:=hr
   refine ⟨_,w,β,bR _ (x:=.int .i64 n) ?_,Ext.refl _ _ _,cx,by simp only [ak,aL]⟩
   cases u<;>simp [Builtin.len_,aV h2,goInt]
  |str=>
   rw [hk] at hr h5
   cases d<;>simp [cY] at h5
   cases x with
   |d y=>
    cases y with
    |str s=>
     simp only [R.pure,osI,R.mk.injEq] at hr
     obtain ⟨_,rfl,rfl⟩:=hr
     simp only [ak,aL] at hx;subst hx
     refine ⟨_,w,β,bR _ (x:=.int .i64 s.length) ?_,Ext.refl _ _ _,cx,by simp only [ak,aL]⟩
     have hsz:(⟨s.toArray⟩:ByteArray).size=s.length:=by show s.toArray.size=_;simp
     simp [Builtin.len_,aV h2,goInt,hsz]
    |_=>simp at hr
   |_=>simp at hr
  |slice e=>
   rw [hk] at hr h5
   cases d<;>simp [cY] at h5
   subst h5
   have ph:(match zu x bx with|some v=>R.pure v|none=>none)=some ⟨c,v,b⟩:=by
    cases x<;>first|exact hr|(rename_i y;cases y<;>exact hr)
   split at ph
   ·rename_i v' hl
    simp only [R.pure,osI,R.mk.injEq] at ph
    obtain ⟨_,rfl,rfl⟩:=ph
    obtain ⟨r,k1,k2⟩:=Oy (t:=t) cx h2 hx hl ty
    exact ⟨r,w,β,bR _ k1,Ext.refl _ _ _,cx,k2⟩
   simp at ph
  |_=>rw [hk] at hr;simp at hr
 ·rename_i k x k' y
  simp only [R.pure,osI,R.mk.injEq] at hr
  obtain ⟨_,rfl,rfl⟩:=hr
  simp only [an,ak,aL] at hx
  obtain ⟨u,us,rfl,rfl,u2,Ot,rfl,rfl,rfl⟩:=hx
  refine ⟨_,w,β,bR _ (x:=.int k (min x y)) ?_,Ext.refl _ _ _,cx,by simp only [ak,aL]⟩
  simp [Builtin.min_,Builtin.min2]
  omega
 ·rename_i k x k' y
  simp only [R.pure,osI,R.mk.injEq] at hr
  obtain ⟨_,rfl,rfl⟩:=hr
  simp only [an,ak,aL] at hx
  obtain ⟨u,us,rfl,rfl,u2,Ot,rfl,rfl,rfl⟩:=hx
  refine ⟨_,w,β,bR _ (x:=.int k (max x y)) ?_,Ext.refl _ _ _,cx,by simp only [ak,aL]⟩
  simp [Builtin.max_,Builtin.max2]
  omega
 ·rename_i s x t u
  simp only [an] at hx
  obtain ⟨v1,us,rfl,hs,v2,Ot,rfl,hx,rfl⟩:=hx
  cases hu:T u with
  |none=>simp [hu] at hr
  |some tu=>
  simp only [hu] at hr
  have RQ:∀k,tu.kd≠.int k:=by intro k hk;rw [hk] at hr;simp at hr
  have ph:lz T t s x bx=some ⟨c,v,b⟩:=by
   split at hr
   ·simp at hr
   exact hr
  obtain ⟨r,w',β',aU,rfl,k1,k2,k3,k4⟩:=uD hT cx hu RQ hs hx ph hc ty
  exact ⟨r,w',β',bR _ k1,k2,k3,k4⟩
 simp at hr
theorem xz {n e:Nat} {te:TI} {i:TypeInfo} (d:Nat) (ht:pF P e=some te) (hs:te.size=i.size) {ok:Nat→Prop}
 (IH:∀a b r x y,BK T n e a b=some r→ak β bx w ok a x→ak β bx w ok b y→(Op.equalIn d e x y).run P w=.ok r w)
 {xs ys:List AV} {us vs:List Value} (hx:an β bx w ok xs us) (hy:an β bx w ok ys vs):∀(is:List Nat) (r:Bool),
 is.foldr (fun i acc=>match cR te.kd.isAgg te.size (xs.drop (i*te.size)),cR te.kd.isAgg te.size (ys.drop (i*te.size)) with
  |some a,some b=>match BK T n e a b,acc with
   |some p,some q=>some (p&&q)
   |_,_=>none
  |_,_=>none) (some true)=some r→(Op.eqItems d e i.size ⟨us⟩ ⟨vs⟩ is).run P w=.ok r w
 |[],r,h=>by simp at h;subst h;simp [Op.eqItems]
 |j::is,r,h=>by
  rw [List.foldr_cons] at h
  split at h
  ·rename_i a b ha hb
   split at h
   ·rename_i p q hp hq
    simp only [osI] at h;subst h
    obtain ⟨x,k1,k2⟩:=nM (P:=P) (w:=w) ht ha hx
    obtain ⟨y,k3,k4⟩:=nM (P:=P) (w:=w) ht hb hy
    rw [hs] at k1 k3
    have k5:=IH a b p x y hp k2 k4
    have k6:=xz d ht hs IH hx hy is q hq
    simp only [Op.eqItems,Sem.run_bind,k1,k3,k5,Result.andThen_ok]
    cases p<;>simp [k6]
   simp at h
  simp at h
theorem uE (hT:kD P T) {n:Nat} (d:Nat) {ok:Nat→Prop}
 (IH:∀t a b r x y,BK T n t a b=some r→ak β bx w ok a x→ak β bx w ok b y→(Op.equalIn d t x y).run P w=.ok r w)
 {xs ys:List AV} {us vs:List Value} (hx:an β bx w ok xs us) (hy:an β bx w ok ys vs):∀(fs:List Field) (r:Bool),(∀f∈fs,f.name≠ "_")→
 (fs.map fun f=>(f.offset,f.type)).foldr (fun f acc=>match T f.2 with
  |some tf=>match cR tf.kd.isAgg tf.size (xs.drop f.1),cR tf.kd.isAgg tf.size (ys.drop f.1) with
   |some a,some b=>match BK T n f.2 a b,acc with
    |some p,some q=>some (p&&q)
    |_,_=>none
   |_,_=>none
  |none=>none) (some true)=some r→(Op.eqFields d ⟨us⟩ ⟨vs⟩ fs).run P w=.ok r w
 |[],r,_,h=>by simp at h;subst h;simp [Op.eqFields]
 |f::fs,r,hn,h=>by
  rw [List.map_cons,List.foldr_cons] at h
  split at h
  ·rename_i tf RO
   split at h
   ·rename_i a b ha hb
    split at h
    ·rename_i p q hp hq
     simp only [osI] at h;subst h
     obtain ⟨x,k1,k2⟩:=nM (P:=P) (w:=w) (hT.ti _ _ RO) ha hx
     obtain ⟨y,k3,k4⟩:=nM (P:=P) (w:=w) (hT.ti _ _ RO) hb hy
     have k5:=IH f.type a b p x y hp k2 k4
     have k6:=uE hT d IH hx hy fs q (fun g hg=>hn g (by simp [hg])) hq
     simp only [Op.eqFields,hn f (by simp),ne_eq,not_false_eq_true,if_true,Sem.run_bind,k1,k3,k5,Result.andThen_ok]
     cases p<;>simp [k6]
    simp at h
   simp at h
  simp at h
theorem DV (hT:kD P T) {ok:Nat→Prop} (d:Nat):∀(n t:Nat) (a b:AV) (r:Bool) (x y:Value),BK T n t a b=some r→ak β bx w ok a x→ak β bx w ok b y→
 (Op.equalIn (d+n) t x y).run P w=.ok r w
 |0,t,a,b,r,x,y,h,_,_=>by simp [BK] at h
 |n+1,t,a,b,r,x,y,h,hx,hy=>by
  unfold BK at h
  split at h
  ·simp at h
  rename_i ti ht
  obtain ⟨i,ds,h1,h2,h3,h4,h5,h6⟩:=aJ (hT.ti _ _ ht)
  rw [h5] at h
  split at h
  ·rename_i q j a k b hk
   cases UI:j==k with
   |false=>simp [UI] at h
   |true=>
   have Zf:j=k:=by simpa using UI
   subst Zf
   cases ds<;>simp [cY] at hk
   simp only [ak,aL] at hx hy
   subst hx;subst hy
   simp only [UI,cond_true,osI] at h;subst h
   rw [show d+(n+1)=(d+n)+1 from rfl]
   simp [run_equalIn_int _ (d+n) t j _ a b h2]
   rfl
  ·rename_i a b hk
   cases ds<;>simp [cY] at hk
   simp only [ak,aL] at hx hy
   subst hx;subst hy
   simp only [osI] at h;subst h
   rw [show d+(n+1)=(d+n)+1 from rfl]
   simp [run_equalIn_bool' _ (d+n) t a b h2]
  ·rename_i a b hk
   cases ds<;>simp [cY] at hk
   simp only [ak,aL] at hx hy
   subst hx;subst hy
   simp only [osI] at h;subst h
   rw [show d+(n+1)=(d+n)+1 from rfl]
   rw [run_equalIn_string _ (d+n) t _ _ h2,ByteArray.toList_eq,ByteArray.toList_eq]
   by_cases hab:a=b<;>simp [hab]
  ·rename_i len e xs ys hk
   have hd:ds=.array len e:=by cases ds<;>simp [cY] at hk;obtain ⟨rfl,rfl⟩:=hk;rfl
   subst hd
   simp only [ak] at hx hy
   obtain ⟨us,rfl,hx⟩:=hx
   obtain ⟨vs,rfl,hy⟩:=hy
   split at h
   ·rename_i te hte
    obtain ⟨ei,ed,g1,g2,g3,g4,g5,g6⟩:=aJ (hT.ti _ _ hte)
    cases hl:Nat.beq len 0 with
    |true=>simp [hl] at h
    |false=>
    simp only [hl,cond_false] at h
    rw [show d+(n+1)=(d+n)+1 from rfl,run_equalIn_array _ (d+n) _ _ h2 g1]
    have:=xz (P:=P) (w:=w) (β:=β) (bx:=bx) (T:=T) (n:=n) (d+n) (hT.ti _ _ hte) g3 (fun a b r x y=>DV hT d n e a b r x y) hx hy _ _ h
    simpa [Program.cellsOf,g1] using this
   simp at h
  ·rename_i fs xs ys hk
   simp only [ak] at hx hy
   obtain ⟨us,rfl,hx⟩:=hx
   obtain ⟨vs,rfl,hy⟩:=hy
   cases ds<;>simp [cY] at hk
   rename_i gs
   subst hk
   have he:=RH (hT.ti _ _ ht) h2
   cases hq:ti.eq with
   |false=>simp [hq] at h
   |true=>
   simp only [hq,cond_true] at h
   rw [hq] at he
   simp only [N7] at he
   have he':=he.symm
   simp only [Bool.and_eq_true,Bool.not_eq_true',List.all_eq_true,bne_iff_ne,ne_eq] at he'
   have hf:P.fieldsOf t=gs:=by simp [Program.fieldsOf,h2]
   rw [show d+(n+1)=(d+n)+1 from rfl,run_equalIn_agg _ (d+n) t _ _ (by rw [hf];exact h2) he'.1,hf]
   exact uE hT (d+n) (fun t a b r x y=>DV hT d n t a b r x y) hx hy _ _ he'.2 h
  simp at h
theorem v7 {α:Type} {F:α→Option Bool→Option Bool} (hF:∀x,F x none=none) {p:α→Prop} (hp:∀x acc r,F x acc=some r→p x):∀(xs:List α) {b r:Option Bool},xs.foldr F b=r→r≠none→∀x∈xs,p x
 |[],_,_,_,_,x,hx=>by simp at hx
 |y::ys,b,r,h,hr,x,hx=>by
  rw [List.foldr_cons] at h
  cases hq:ys.foldr F b with
  |none=>rw [hq,hF] at h;exact absurd h.symm hr
  |some q=>
  rcases List.mem_cons.1 hx with rfl|hx
  ·cases r with
   |none=>simp at hr
   |some r=>exact hp _ _ _ h
  exact v7 hF hp ys hq (by simp) x hx
theorem v8 (hT:kD P T):∀(n m t:Nat) (a b:AV) (r:Bool),BK T n t a b=some r→n≤m→P.eqGuardType m t=false
 |0,m,t,a,b,r,h,_=>by simp [BK] at h
 |n+1,0,t,a,b,r,h,hm=>by omega
 |n+1,m+1,t,a,b,r,h,hm=>by
  unfold BK at h
  split at h
  ·simp at h
  rename_i ti ht
  obtain ⟨i,ds,h1,h2,h3,h4,h5,h6⟩:=aJ (hT.ti _ _ ht)
  rw [h5] at h
  unfold Program.eqGuardType
  rw [h2]
  cases ds<;>simp only [cY] at h ⊢
  all_goals try rfl
  all_goals (try (exfalso;revert h;cases a<;>cases b<;>simp;done))
  ·rename_i len e
   cases a<;>(try (simp at h;done))
   cases b<;>(try (simp at h;done))
   simp only at h
   cases hte:T e with
   |none=>simp [hte] at h
   |some te=>
   simp only [hte] at h
   cases hl:Nat.beq len 0 with
   |true=>simp [hl] at h
   |false=>
   simp only [hl,cond_false] at h
   have hall:=v7 (p:=fun _=>P.eqGuardType m e=false) (fun f=>by split<;>simp) (fun f acc r hf=>by
    split at hf
    ·split at hf
     ·have hp:=‹BK T n _ _ _=some _›
      exact v8 hT n m e _ _ _ hp (by omega)
     simp at hf
    simp at hf) _ h (by simp)
   exact hall 0 (by simp;have:=Nat.ne_of_beq_eq_false hl;omega)
  rename_i gs
  cases a<;>(try (simp at h;done))
  cases b<;>(try (simp at h;done))
  simp only at h
  cases hq:ti.eq with
  |false=>simp [hq] at h
  |true=>
  simp only [hq,cond_true] at h
  have hall:=v7 (p:=fun f=>P.eqGuardType m f.2=false) (fun f=>by split<;>(try split)<;>simp) (fun f acc r hf=>by
   split at hf
   ·split at hf
    ·split at hf
     ·have hp:=‹BK T n _ _ _=some _›
      exact v8 hT n m f.2 _ _ _ hp (by omega)
     simp at hf
    simp at hf
   simp at hf) _ h (by simp)
  rw [Array.any_eq_false]
  intro k hk
  have:=hall (gs[k].offset,gs[k].type) (List.mem_map.2 ⟨gs[k],by simp,rfl⟩)
  simp [this]
theorem we {ev:Operand→AV} {ρ:Operand→Value} {ok:Nat→Prop}:∀(ps:List (Nat×Operand)),(∀p∈ps,ak β bx w ok (ev p.2) (ρ p.2))→c8 β bx w ok (ps.map fun p=>(p.1,ev p.2)) (ps.map fun p=>(p.1,ρ p.2))
 |[],_=>by simp [c8]
 |p::ps,h=>by
  simp only [List.map_cons,c8]
  exact ⟨_,_,rfl,h p (by simp),we ps (fun q hq=>h q (by simp [hq]))⟩
theorem iA {ev:Operand→AV} {ρ:Operand→Value} {ok:Nat→Prop}:∀(xs:List Operand),(∀x∈xs,ak β bx w ok (ev x) (ρ x))→an β bx w ok (xs.map ev) (xs.map ρ)
 |[],_=>by simp [an]
 |x::xs,h=>by
  simp only [List.map_cons,an]
  exact ⟨_,_,rfl,h x (by simp),iA xs (fun q hq=>h q (by simp [hq]))⟩
theorem sy {t:TypeId} {ms:Array (String×TypeId)} (h:P.underlying t=some (.interface ms)) (a:TypeId) (b:Value):(Op.equal t (.iface a b) .nilIface).run P w=.ok false w:=by
 simp only [Op.equal,Op.maxDepth];unfold Op.equalIn;simp [aV h]
theorem sA {t:TypeId} {ms:Array (String×TypeId)} (h:P.underlying t=some (.interface ms)):(Op.equal t .nilIface .nilIface).run P w=.ok true w:=by
 simp only [Op.equal,Op.maxDepth];unfold Op.equalIn;simp [aV h]
theorem FA {t:TypeId} {ms:Array (String×TypeId)} (h:P.underlying t=some (.interface ms)) (a:TypeId) (b:Value):(Go.binOp .eql t (.iface a b) .nilIface).run P w=.ok (.bool false) w:=by
 simp only [Go.binOp];simp [sy h]
theorem FB {t:TypeId} {ms:Array (String×TypeId)} (h:P.underlying t=some (.interface ms)) (a:TypeId) (b:Value):(Go.binOp .neq t (.iface a b) .nilIface).run P w=.ok (.bool true) w:=by
 simp only [Go.binOp];simp [sy h]
theorem FD {t:TypeId} {ms:Array (String×TypeId)} (h:P.underlying t=some (.interface ms)):(Go.binOp .eql t .nilIface .nilIface).run P w=.ok (.bool true) w:=by
 simp only [Go.binOp];simp [sA h]
theorem FE {t:TypeId} {ms:Array (String×TypeId)} (h:P.underlying t=some (.interface ms)):(Go.binOp .neq t .nilIface .nilIface).run P w=.ok (.bool false) w:=by
 simp only [Go.binOp];simp [sA h]
theorem FF {t:Nat} {ti:TI} (ht:pF P t=some ti) {z:List AV} (hz:ti.zero.cells?=some z) {ok:Nat→Prop}:∃v,(zeroValue t).run P w=.ok v w∧ak β bx w ok ti.zero v:=by
 obtain ⟨i,d,h1,h2,h3,h4,h5,h6⟩:=aJ ht
 cases yT:i.zero with
 |none=>rw [h6,yT] at hz;simp [AV.cells?] at hz
 |some v=>rw [h6,yT];exact ⟨v,gJ h1 yT,uv v⟩
theorem xA {ok:Nat→Prop} {xs:List AV} {vs:List Value} (hp:j9 xs=true) (h:an β bx w ok xs vs) (f:Nat):zB f vs=.func (.func f) #[] ⟨vs⟩:=by
 cases xs with
 |nil=>simp only [an] at h;subst h;rfl
 |cons x xs=>
  simp only [an] at h
  obtain ⟨u,us,rfl,h1,_⟩:=h
  have:IA u∨∃c,u=.agg c:=by
   simp only [j9,Bool.or_eq_true] at hp
   rcases hp with hp|hp
   ·exact .inl (ak.sc hp h1)
   cases x<;>simp [AV.isAgg] at hp
   simp only [ak] at h1
   obtain ⟨c,e,_⟩:=h1
   exact .inr ⟨_,e⟩
  cases u<;>first|rfl|(rcases this with h|⟨c,h⟩;exact h.elim;cases h)
theorem fN {α γ:Type} (a:Array α) (f:α→γ):a.map f=⟨a.toList.map f⟩:=by
 apply Array.ext';simp
theorem Mm (hT:kD P T) (cx:cP G β bx w X) {ev:Operand→AV} {ρ:Operand→Value} {o:Oper} (hρ:∀x∈o.op.operands.toList,ak β bx w (bp β bx w X) (ev x) (ρ x))
 {c:Prop} {v:AV} {b:Option (List aA)} (hr:lA T ev o.op bx=some ⟨c,v,b⟩) (hc:c):dH G β bx w X ((execOp ρ o).run P w) v (dN bx b):=by
 obtain ⟨dst,op,type,pos,after,guard⟩:=o
 simp only at hρ hr
 unfold lA at hr
 split at hr
 ·
  simp only [R.pure,osI,R.mk.injEq] at hr
  obtain ⟨_,rfl,rfl⟩:=hr
  exact dH.pure cx rfl (hρ _ (by simp [Op.operands]))
 ·simp only [R.pure,osI,R.mk.injEq] at hr
  obtain ⟨_,rfl,rfl⟩:=hr
  exact dH.pure cx rfl (hρ _ (by simp [Op.operands]))
 ·
  rename_i t
  cases ht:T t with
  |none=>simp [ht] at hr
  |some ti=>
  simp only [ht] at hr
  cases hz:ti.zero.cells? with
  |none=>simp [hz] at hr
  |some cs=>
  simp only [hz,osI,R.mk.injEq] at hr
  obtain ⟨_,rfl,rfl⟩:=hr
  obtain ⟨i,d,h1,h2,h3,h4,h5,h6⟩:=aJ (hT.ti _ _ ht)
  cases yT:i.zero with
  |none=>rw [h6,yT] at hz;simp [AV.cells?] at hz
  |some z=>
  rw [h6,yT] at hz
  obtain ⟨β',w',k1,k2,k3⟩:=xx (P:=P) cx t hz (uv z)
  refine ⟨β',w',k2,k3,.inl ⟨.pointer (some ⟨β' bx.length,0,none⟩),?_,?_⟩⟩
  ·exact bR _ (by simp [Instr.alloc,gJ h1 yT,k1])
  simp only [ak];exact ⟨trv,.var cs,by simp [dN],rfl⟩
 ·
  rename_i t x
  cases hz:(ev x).cells? with
  |none=>simp [hz] at hr
  |some cs=>
  simp only [hz,osI,R.mk.injEq] at hr
  obtain ⟨_,rfl,rfl⟩:=hr
  obtain ⟨β',w',k1,k2,k3⟩:=xx (P:=P) cx t hz (hρ x (by simp [Op.operands]))
  refine ⟨β',w',k2,k3,.inl ⟨.pointer (some ⟨β' bx.length,0,none⟩),?_,?_⟩⟩
  ·exact bR _ (by simp [Instr.box,k1])
  simp only [ak];exact ⟨trv,.var cs,by simp [dN],rfl⟩
 ·
  rename_i t a
  cases ht:T t with
  |none=>simp [ht] at hr
  |some ti=>
  simp only [ht] at hr
  obtain ⟨rfl,x,k1,k2⟩:=zC (P:=P) hT cx ht (hρ a (by simp [Op.operands])) hr hc
  exact dH.pure cx (bR _ k1) k2
 ·
  rename_i t a x
  cases ht:T t with
  |none=>simp [ht] at hr
  |some ti=>
  simp only [ht] at hr
  obtain ⟨rfl,aU,w',rfl,k1,k2,k3⟩:=Fs (P:=P) hT cx ht (hρ a (by simp [Op.operands])) (hρ x (by simp [Op.operands])) hr hc
  exact ⟨β,w',k2,k3,.inr ⟨by simp [execOp,k1],rfl⟩⟩
 ·
  rename_i t parts
  obtain ⟨rfl,u,k1,k2⟩:=Fy (P:=P) (w:=w) (β:=β) (bx:=bx) (X:=X) hT (vs:=parts.map fun (i,x)=>(i,ρ x))
   (by rw [Array.toList_map];exact we _ (fun p hp=>hρ p.2 (by simp [Op.operands];exact ⟨p.1,by simpa using hp⟩))) hr
  exact dH.pure cx (bR _ k1) k2
 ·
  rename_i t n parts
  obtain ⟨u,w',k1,k2,k3,k4⟩:=vZ (P:=P) (w:=w) (β:=β) (bx:=bx) (X:=X) hT cx (vs:=parts.map fun (i,x)=>(i,ρ x))
   (by rw [Array.toList_map];exact we _ (fun p hp=>hρ p.2 (by simp [Op.operands];exact ⟨p.1,by simpa using hp⟩))) hr
  exact ⟨β,w',k2,k3,.inl ⟨u,bR _ k1,k4⟩⟩
 ·
  rename_i t x f
  have hx:=hρ x (by simp [Op.operands])
  cases ht:T t with
  |none=>simp [ht] at hr
  |some ti=>
  simp only [ht] at hr
  split at hr
  ·rename_i o ft ho
   cases hft:T ft with
   |none=>simp [hft] at hr
   |some tf=>
   simp only [hft] at hr
   cases hs:Nat.beq tf.size 0 with
   |true=>simp [hs] at hr
   |false=>
   have hs':tf.size≠0:=by intro h;rw [h] at hs;simp at hs
   simp only [hs,cond_false] at hr
   have place:=fun blk off=>Fu (w:=w) (hT.ti _ _ ht) ho (hT.ti _ _ hft) hs' blk off
   split at hr
   ·rename_i b' off he
    simp only [R.pure,osI,R.mk.injEq] at hr
    obtain ⟨_,rfl,rfl⟩:=hr
    rw [he] at hx;simp only [ak] at hx
    obtain ⟨hx,hb⟩:=hx
    exact dH.pure cx (bR _ (by rw [hx];exact place _ _)) (by simp only [ak];exact ⟨trv,hb⟩)
   ·rename_i b' sz i j he
    simp only [R.pure,osI,R.mk.injEq] at hr
    obtain ⟨_,rfl,rfl⟩:=hr
    rw [he] at hx;simp only [ak] at hx
    obtain ⟨hx,hb⟩:=hx
    exact dH.pure cx (bR _ (by rw [hx];exact place _ _)) (by simp only [ak];exact ⟨by rw [Nat.add_assoc],hb⟩)
   ·rename_i ds he
    simp only [R.when,osI,R.mk.injEq] at hr
    obtain ⟨rfl,rfl,rfl⟩:=hr
    rw [he] at hx;simp only [ak] at hx
    obtain ⟨blk,off,hx,hb,hrow⟩:=hx
    exact dH.pure cx (bR _ (by rw [hx];exact place _ _)) (by simp only [ak];exact ⟨blk,off+o,rfl,hb,aY.drop _ _ _ hrow⟩)
   simp at hr
  simp at hr
 ·
  rename_i t x i
  have hx:=hρ x (by simp [Op.operands])
  have hi:=hρ i (by simp [Op.operands])
  cases ht:T t with
  |none=>simp [ht] at hr
  |some ti=>
  obtain ⟨ii,d,h1,h2,h3,h4,h5,h6⟩:=aJ (hT.ti _ _ ht)
  simp only [ht,h5] at hr
  split at hr
  ·rename_i n e kz z hk UJ
   have hd:d=.array n e:=by cases d<;>simp [cY] at hk;obtain ⟨rfl,rfl⟩:=hk;rfl
   subst hd
   rw [UJ] at hi;simp only [ak,aL] at hi
   split at hr
   ·rename_i te hte
    obtain ⟨ei,ed,g1,g2,g3,g4,g5,g6⟩:=aJ (hT.ti _ _ hte)
    have place:∀blk off,0≤z∧z<(n:Int)→(Instr.indexAt t (.pointer (some ⟨blk,off,none⟩)) (ρ i)).run P w=.ok (.pointer (some ⟨blk,off+z.toNat*te.size,none⟩)) w:=by
     intro blk off hz
     simp [Instr.indexAt,hi,asIntOf,aV h2,Instr.sureAddr,hz.1,hz.2,bX g1,fM,g3]
    split at hr
    ·rename_i b' off he
     simp only [R.when,osI,R.mk.injEq] at hr
     obtain ⟨rfl,rfl,rfl⟩:=hr
     rw [he] at hx;simp only [ak] at hx
     obtain ⟨hx,hb⟩:=hx
     exact dH.pure cx (bR _ (by rw [hx];exact place _ _ hc)) (by simp only [ak];exact ⟨trv,hb⟩)
    ·rename_i b' sz a j he
     simp only [R.when,osI,R.mk.injEq] at hr
     obtain ⟨rfl,rfl,rfl⟩:=hr
     rw [he] at hx;simp only [ak] at hx
     obtain ⟨hx,hb⟩:=hx
     exact dH.pure cx (bR _ (by rw [hx];exact place _ _ hc)) (by simp only [ak];exact ⟨by rw [Nat.add_assoc],hb⟩)
    ·rename_i ds he
     simp only [R.when,osI,R.mk.injEq] at hr
     obtain ⟨rfl,rfl,rfl⟩:=hr
     rw [he] at hx;simp only [ak] at hx
     obtain ⟨blk,off,hx,hb,hrow⟩:=hx
     exact dH.pure cx (bR _ (by rw [hx];exact place _ _ ⟨hc.1,hc.2.1⟩)) (by simp only [ak];exact ⟨blk,_,rfl,hb,aY.drop _ _ _ hrow⟩)
    simp at hr
   simp at hr
  ·rename_i e kz z hk UJ
   cases d<;>simp [cY] at hk
   subst hk
   rw [UJ] at hi;simp only [ak,aL] at hi
   split at hr
   ·rename_i te b' sz n hte he
    obtain ⟨ei,ed,g1,g2,g3,g4,g5,g6⟩:=aJ (hT.ti _ _ hte)
    cases hb:Nat.beq te.size sz with
    |false=>simp [hb] at hr
    |true=>
    have hb':=Nat.eq_of_beq_eq_true hb
    subst hb'
    simp only [hb,cond_true,R.when,osI,R.mk.injEq] at hr
    obtain ⟨rfl,rfl,rfl⟩:=hr
    rw [he] at hx;simp only [ak] at hx
    obtain ⟨FG,hx⟩:=hx
    rcases hx with ⟨rfl,_⟩|⟨_,cap,_,_,_,hx,_⟩
    ·simp at hc;omega
    exact dH.pure cx (bR _ (by rw [hx];simp [Instr.indexAt,hi,asIntOf,aV h2,hc.1,hc.2,bX g1,fM];rfl)) (by simp only [ak];exact ⟨by rw [g3];simp,FG⟩)
   simp at hr
  simp at hr
 ·
  rename_i t x f
  have hx:=hρ x (by simp [Op.operands])
  cases ht:T t with
  |none=>simp [ht] at hr
  |some ti=>
  obtain ⟨ii,d,h1,h2,h3,h4,h5,h6⟩:=aJ (hT.ti _ _ ht)
  simp only [ht] at hr
  split at hr
  ·rename_i o ft ho
   rw [h5] at ho
   cases d<;>simp [cY,zo] at ho
   rename_i fs
   obtain ⟨fl,hfl,rfl,rfl⟩:=ho
   split at hr
   ·rename_i tf cs hft he
    split at hr
    ·rename_i v' hsp
     simp only [R.pure,osI,R.mk.injEq] at hr
     obtain ⟨_,rfl,rfl⟩:=hr
     rw [he] at hx;simp only [ak] at hx
     obtain ⟨vs,hx,hvs⟩:=hx
     obtain ⟨u,k1,k2⟩:=nM (P:=P) (w:=w) (hT.ti _ _ hft) hsp hvs
     exact dH.pure cx (bR _ (by rw [hx];simp [Instr.field,aV h2,hfl,asAgg,k1])) k2
    simp at hr
   simp at hr
  simp at hr
 ·
  rename_i t x i
  have hx:=hρ x (by simp [Op.operands])
  have hi:=hρ i (by simp [Op.operands])
  cases ht:T t with
  |none=>simp [ht] at hr
  |some ti=>
  obtain ⟨ii,d,h1,h2,h3,h4,h5,h6⟩:=aJ (hT.ti _ _ ht)
  simp only [ht,h5] at hr
  split at hr
  ·rename_i s kz z hk aE UJ
   cases d<;>simp [cY] at hk
   simp only [R.when,osI,R.mk.injEq] at hr
   obtain ⟨rfl,rfl,rfl⟩:=hr
   rw [aE] at hx;simp only [ak,aL] at hx
   rw [UJ] at hi;simp only [ak,aL] at hi
   have hlt:z.toNat<s.length:=by omega
   refine dH.pure cx (u:=.int .u8 (s.getD z.toNat 0).toNat) (bR _ ?_) (by simp only [ak,aL])
   rw [hx,hi]
   have hg:(⟨s.toArray⟩:ByteArray)[z.toNat]?=some (s.getD z.toNat 0):=by
    have hsz:z.toNat<(⟨s.toArray⟩:ByteArray).size:=by show z.toNat<s.toArray.size;simpa using hlt
    have hge:(⟨s.toArray⟩:ByteArray)[z.toNat]?=some ((⟨s.toArray⟩:ByteArray)[z.toNat]'hsz):=by
     show (if h:_ then _ else _)=_
     rw [dif_pos hsz]
    rw [hge]
    simp only [List.getD_eq_getElem?_getD,List.getElem?_eq_getElem hlt,Option.getD_some]
    rfl
   simp [Instr.index,asIntOf,aV h2,hc.1,hg]
  ·rename_i n e cs kz z hk aE UJ
   cases d<;>simp [cY] at hk
   obtain ⟨rfl,rfl⟩:=hk
   rw [aE] at hx;simp only [ak] at hx
   obtain ⟨vs,hx,hvs⟩:=hx
   rw [UJ] at hi;simp only [ak,aL] at hi
   split at hr
   ·rename_i te hte
    obtain ⟨ei,ed,g1,g2,g3,g4,g5,g6⟩:=aJ (hT.ti _ _ hte)
    split at hr
    ·rename_i v' hsp
     simp only [R.when,osI,R.mk.injEq] at hr
     obtain ⟨rfl,rfl,rfl⟩:=hr
     obtain ⟨u,k1,k2⟩:=nM (P:=P) (w:=w) (hT.ti _ _ hte) hsp hvs
     rw [g3] at k1
     exact dH.pure cx (bR _ (by rw [hx,hi];simp [Instr.index,asIntOf,aV h2,hc.1,hc.2,bX g1,k1])) k2
    simp at hr
   simp at hr
  simp at hr
 ·
  rename_i x i
  have hx:=hρ x (by simp [Op.operands])
  split at hr
  ·rename_i vs he
   split at hr
   ·rename_i v' hv
    simp only [R.pure,osI,R.mk.injEq] at hr
    obtain ⟨_,rfl,rfl⟩:=hr
    rw [he] at hx;simp only [ak] at hx
    obtain ⟨us,hx,RJ⟩:=hx
    obtain ⟨u,k1,k2⟩:=an.get i _ RJ hv
    exact dH.pure cx (bR _ (by rw [hx];simp [Instr.extract,k1])) k2
   simp at hr
  simp at hr
 ·
  rename_i op t x y t2
  have hx:=hρ x (by simp [Op.operands])
  have hy:=hρ y (by simp [Op.operands])
  split at hr
  ·rename_i xs ys Rv TZ
   have key:∀r,BK T 8 t (.agg xs) (.agg ys)=some r→(Op.equalIn 10000 t (ρ x) (ρ y)).run P w=.ok r w∧P.eqGuardType P.depth t=false:=by
    intro r he
    exact ⟨DV (P:=P) (w:=w) hT 9992 8 t _ _ r _ _ he (by rw [←Rv];exact hx) (by rw [←TZ];exact hy),v8 hT 8 _ t _ _ r he hT.deep⟩
   rw [Rv] at hx;rw [TZ] at hy
   simp only [ak] at hx hy
   obtain ⟨us,ex,_⟩:=hx
   obtain ⟨vs,ey,_⟩:=hy
   rw [ex,ey] at key
   split at hr
   ·cases he:BK T 8 t (.agg xs) (.agg ys) with
    |none=>simp [he] at hr
    |some r=>
    simp only [he,Option.bind_some,R.pure,osI,R.mk.injEq] at hr
    obtain ⟨_,rfl,rfl⟩:=hr
    obtain ⟨k1,k2⟩:=key r he
    exact dH.pure cx (u:=.bool r) (bR _ (by simp [ex,ey,run_eqGuard_agg _ _ _ _ _ _ _ k2,run_eql_struct,k1])) (by simp only [ak,aL])
   ·cases he:BK T 8 t (.agg xs) (.agg ys) with
    |none=>simp [he] at hr
    |some r=>
    simp only [he,Option.bind_some,R.pure,osI,R.mk.injEq] at hr
    obtain ⟨_,rfl,rfl⟩:=hr
    obtain ⟨k1,k2⟩:=key r he
    exact dH.pure cx (u:=.bool (!r)) (bR _ (by simp [ex,ey,run_eqGuard_agg _ _ _ _ _ _ _ k2,run_neq_struct,k1])) (by simp only [ak,aL])
   simp at hr
  ·rename_i p q Rv TZ
   rw [Rv] at hx;rw [TZ] at hy
   simp only [ak,aL] at hx hy
   have guard:∀a b:Operand,(eqGuard op t a b (.bool p) (.bool q)).run P w=.ok () w:=by
    intro a b;simp only [eqGuard];split<;>simp
   split at hr
   ·rename_i ti ht
    obtain ⟨ii,d,h1,h2,h3,h4,h5,h6⟩:=aJ (hT.ti _ _ ht)
    split at hr
    ·rename_i hk
     rw [h5] at hk
     cases d<;>simp [cY] at hk
     simp only [R.pure,osI,R.mk.injEq] at hr
     obtain ⟨_,rfl,rfl⟩:=hr
     exact dH.pure cx (u:=.bool (p==q)) (bR _ (by simp [hx,hy,guard,run_eql_bool _ _ _ _ h2])) (by simp only [ak,aL])
    simp at hr
   ·rename_i ti ht
    obtain ⟨ii,d,h1,h2,h3,h4,h5,h6⟩:=aJ (hT.ti _ _ ht)
    split at hr
    ·rename_i hk
     rw [h5] at hk
     cases d<;>simp [cY] at hk
     simp only [R.pure,osI,R.mk.injEq] at hr
     obtain ⟨_,rfl,rfl⟩:=hr
     exact dH.pure cx (u:=.bool (!(p==q))) (bR _ (by simp [hx,hy,guard,run_neq_bool _ _ _ _ h2])) (by simp only [ak,aL])
    simp at hr
   simp at hr
  ·rename_i t0 v0 Rv TZ
   rw [Rv] at hx;rw [TZ] at hy
   simp only [ak] at hx hy
   obtain ⟨u0,ex,_⟩:=hx
   have ey:ρ y=.nilIface:=hy
   have guard:(eqGuard op t x y (.iface t0 u0) .nilIface).run P w=.ok () w:=by
    simp only [eqGuard];split<;>simp
   split at hr
   ·rename_i ti ht
    obtain ⟨ii,d,h1,h2,h3,h4,h5,h6⟩:=aJ (hT.ti _ _ ht)
    split at hr
    ·rename_i hk
     rw [h5] at hk
     cases d<;>simp [cY] at hk
     simp only [R.pure,osI,R.mk.injEq] at hr
     obtain ⟨_,rfl,rfl⟩:=hr
     exact dH.pure cx (u:=.bool false) (bR _ (by rw [ex,ey];simp [guard,FA h2])) (by simp only [ak,aL])
    simp at hr
   ·rename_i ti ht
    obtain ⟨ii,d,h1,h2,h3,h4,h5,h6⟩:=aJ (hT.ti _ _ ht)
    split at hr
    ·rename_i hk
     rw [h5] at hk
     cases d<;>simp [cY] at hk
     simp only [R.pure,osI,R.mk.injEq] at hr
     obtain ⟨_,rfl,rfl⟩:=hr
     exact dH.pure cx (u:=.bool true) (bR _ (by rw [ex,ey];simp [guard,FB h2])) (by simp only [ak,aL])
    simp at hr
   simp at hr
  ·rename_i Rv TZ
   rw [Rv] at hx;rw [TZ] at hy
   have ex:ρ x=.nilIface:=hx
   have ey:ρ y=.nilIface:=hy
   split at hr
   ·rename_i cv
    have guard:(eqGuard op t x (.const cv) .nilIface .nilIface).run P w=.ok () w:=by
     simp only [eqGuard];split<;>simp
    split at hr
    ·rename_i ti ht
     obtain ⟨ii,d,h1,h2,h3,h4,h5,h6⟩:=aJ (hT.ti _ _ ht)
     split at hr
     ·rename_i hk
      rw [h5] at hk
      cases d<;>simp [cY] at hk
      simp only [R.pure,osI,R.mk.injEq] at hr
      obtain ⟨_,rfl,rfl⟩:=hr
      exact dH.pure cx (u:=.bool true) (bR _ (by rw [ex,ey];simp [guard,FD h2])) (by simp only [ak,aL])
     simp at hr
    ·rename_i ti ht
     obtain ⟨ii,d,h1,h2,h3,h4,h5,h6⟩:=aJ (hT.ti _ _ ht)
     split at hr
     ·rename_i hk
      rw [h5] at hk
      cases d<;>simp [cY] at hk
      simp only [R.pure,osI,R.mk.injEq] at hr
      obtain ⟨_,rfl,rfl⟩:=hr
      exact dH.pure cx (u:=.bool false) (bR _ (by rw [ex,ey];simp [guard,FE h2])) (by simp only [ak,aL])
     simp at hr
    simp at hr
   simp at hr
  split at hr
  ·rename_i c' d' hb
   simp only [R.when,osI,R.mk.injEq] at hr
   obtain ⟨rfl,rfl,rfl⟩:=hr
   obtain ⟨u,k1,k2,k3⟩:=On (P:=P) (w:=w) hb hc hx hy t
   exact dH.pure cx (bR _ (x:=u) (by simp [k1,k3])) (by simpa [ak] using k2)
  simp at hr
 ·
  rename_i op t x
  have hx:=hρ x (by simp [Op.operands])
  cases hu:Wg op (ev x) with
  |none=>simp [hu] at hr
  |some d'=>
  simp only [hu,Option.bind_some,R.pure,osI,R.mk.injEq] at hr
  obtain ⟨_,rfl,rfl⟩:=hr
  obtain ⟨u,k1,k2⟩:=RN (P:=P) (w:=w) hu hx
  exact dH.pure cx (bR _ k1) (by simpa [ak] using k2)
 ·
  rename_i s d' x
  obtain ⟨rfl,u,w',k1,k2,k3,k4⟩:=ID (P:=P) hT cx (hρ x (by simp [Op.operands])) hr hc
  exact ⟨β,w',k2,k3,.inl ⟨u,bR _ k1,k4⟩⟩
 ·
  rename_i t x lo hi mx
  split at hr
  ·rename_i l h m hl hh hm
   obtain ⟨u,k1,k2,k3,k4⟩:=Fx (P:=P) hT cx (hρ x (by simp [Op.operands])) (oz hl (fun y hy=>hρ y (by simp [Op.operands,hy]))) (oz hh (fun y hy=>hρ y (by simp [Op.operands,hy])))
    (oz hm (fun y hy=>hρ y (by simp [Op.operands,hy]))) hr hc
   exact ⟨β,w,k2,k3,.inl ⟨u,bR _ k1,k4⟩⟩
  simp at hr
 ·
  rename_i f first jV
  have Oz:=iA jV.toList (ev:=ev) (ρ:=ρ) (fun y hy=>hρ y (by simp [Op.operands];exact .inr (by simpa using hy)))
  cases he:first.toList.isEmpty with
  |false=>
   simp only [he,cond_false,R.pure,osI,R.mk.injEq] at hr
   obtain ⟨_,rfl,rfl⟩:=hr
   have UK:=iA first.toList (ev:=ev) (ρ:=ρ) (fun y hy=>hρ y (by simp [Op.operands];exact .inl (by simpa using hy)))
   refine dH.pure cx (u:=.func (.func f) ⟨first.toList.map ρ⟩ ⟨jV.toList.map ρ⟩) (bR _ ?_) ?_
   ·simp [Instr.makeFunc,fN jV ρ,fN first ρ]
   simp only [ak]
   exact ⟨.tuple ⟨first.toList.map ρ⟩::jV.toList.map ρ,rfl,by simp only [an,ak];exact ⟨_,_,rfl,⟨_,rfl,UK⟩,Oz⟩⟩
  |true=>
  cases hp:j9 (jV.toList.map ev) with
  |false=>simp [he,hp] at hr
  |true=>
  simp only [he,hp,cond_true,R.pure,osI,R.mk.injEq] at hr
  obtain ⟨_,rfl,rfl⟩:=hr
  have hf:first=#[]:=by apply Array.ext';simpa using he
  subst hf
  refine dH.pure cx (u:=.func (.func f) #[] ⟨jV.toList.map ρ⟩) (bR _ ?_) ?_
  ·simp [Instr.makeFunc,fN jV ρ]
  simp only [ak]
  exact ⟨_,(xA hp Oz f).symm,Oz⟩
 ·
  rename_i t x
  have hx:=hρ x (by simp [Op.operands])
  split at hr
  ·rename_i ti ht
   obtain ⟨ii,d,h1,h2,h3,h4,h5,h6⟩:=aJ (hT.ti _ _ ht)
   cases hp:ti.kd.plain with
   |false=>simp [hp] at hr
   |true=>
   simp only [hp,cond_true,R.pure,osI,R.mk.injEq] at hr
   obtain ⟨_,rfl,rfl⟩:=hr
   refine dH.pure cx (u:=.iface t (ρ x)) (bR _ ?_) (by simp only [ak];exact ⟨_,rfl,hx⟩)
   rw [h5] at hp
   cases d<;>simp [cY,Kd.plain] at hp<;>simp [Instr.makeInterface,aV h2]
  simp at hr
 ·
  rename_i x xt u ok
  have hx:=hρ x (by simp [Op.operands])
  split at hr
  ·rename_i tu ht
   obtain ⟨ii,d,h1,h2,h3,h4,h5,h6⟩:=aJ (hT.ti _ _ ht)
   cases hp:(tu.kd.plain&&tu.zero.cells?.isSome) with
   |false=>simp [hp] at hr
   |true=>
   simp only [hp,cond_true] at hr
   simp only [Bool.and_eq_true] at hp
   obtain ⟨OA,Mk⟩:=hp
   obtain ⟨zc,UF⟩:=Option.isSome_iff_exists.1 Mk
   obtain ⟨z,z1,z2⟩:=FF (P:=P) (β:=β) (bx:=bx) (w:=w) (ok:=bp β bx w X) (hT.ti _ _ ht) UF
   rw [h5] at OA
   split at hr
   ·rename_i t v he
    rw [he] at hx
    simp only [ak] at hx
    obtain ⟨w1,ex,hw⟩:=hx
    cases htu:Nat.beq t u with
    |true=>
     obtain rfl:=Nat.eq_of_beq_eq_true htu
     simp only [htu,cond_true,R.pure,osI,R.mk.injEq] at hr
     obtain ⟨_,rfl,rfl⟩:=hr
     cases ok with
     |true=>
      refine dH.pure cx (u:=.tuple #[w1,.bool true]) (bR _ ?_) (by simp only [cond_true,ak,an,aL];exact ⟨_,rfl,_,_,rfl,hw,_,_,rfl,rfl,rfl⟩)
      rw [ex]
      cases d<;>simp [cY,Kd.plain] at OA<;>simp [Instr.typeAssert,aV h2]
     |false=>
      refine dH.pure cx (u:=w1) (bR _ ?_) (by simpa only [cond_false] using hw)
      rw [ex]
      cases d<;>simp [cY,Kd.plain] at OA<;>simp [Instr.typeAssert,aV h2]
    |false=>
     have hne:t≠u:=Nat.ne_of_beq_eq_false htu
     cases ok with
     |false=>simp [htu] at hr
     |true=>
      simp only [htu,cond_true,cond_false,R.pure,osI,R.mk.injEq] at hr
      obtain ⟨_,rfl,rfl⟩:=hr
      refine dH.pure cx (u:=.tuple #[z,.bool false]) (bR _ ?_) (by simp only [ak,an,aL];exact ⟨_,rfl,_,_,rfl,z2,_,_,rfl,rfl,rfl⟩)
      rw [ex]
      cases d<;>simp [cY,Kd.plain] at OA<;>simp [Instr.typeAssert,aV h2,hne,z1]
   ·rename_i he
    rw [he] at hx
    have ex:ρ x=.nilIface:=hx
    cases ok with
    |false=>simp at hr
    |true=>
     simp only [cond_true,R.pure,osI,R.mk.injEq] at hr
     obtain ⟨_,rfl,rfl⟩:=hr
     refine dH.pure cx (u:=.tuple #[z,.bool false]) (bR _ ?_) (by simp only [ak,an,aL];exact ⟨_,rfl,_,_,rfl,z2,_,_,rfl,rfl,rfl⟩)
     rw [ex]
     cases d<;>simp [cY,Kd.plain] at OA<;>simp [Instr.typeAssert,aV h2,z1]
   simp at hr
  simp at hr
 ·
  rename_i x
  have hx:=hρ x (by simp [Op.operands])
  split at hr
  ·rename_i b' off he
   simp only [R.pure,osI,R.mk.injEq] at hr
   obtain ⟨_,rfl,rfl⟩:=hr
   rw [he] at hx
   have hx':=hx
   simp only [ak] at hx'
   exact dH.pure cx (u:=ρ x) (by simp [execOp,hx'.1]) hx
  ·rename_i b' s i j he
   simp only [R.pure,osI,R.mk.injEq] at hr
   obtain ⟨_,rfl,rfl⟩:=hr
   rw [he] at hx
   have hx':=hx
   simp only [ak] at hx'
   exact dH.pure cx (u:=ρ x) (by simp [execOp,hx'.1]) hx
  ·rename_i ds he
   simp only [R.pure,osI,R.mk.injEq] at hr
   obtain ⟨_,rfl,rfl⟩:=hr
   rw [he] at hx
   have hx':=hx
   simp only [ak] at hx'
   obtain ⟨blk,off,e,_⟩:=hx'
   exact dH.pure cx (u:=ρ x) (by simp [execOp,e]) hx
  ·rename_i f cs he
   simp only [R.pure,osI,R.mk.injEq] at hr
   obtain ⟨_,rfl,rfl⟩:=hr
   rw [he] at hx
   have hx':=hx
   simp only [ak] at hx'
   obtain ⟨vs,e,_⟩:=hx'
   obtain ⟨a1,a2,e2⟩:=Fm f vs
   rw [e2] at e
   exact dH.pure cx (u:=ρ x) (by simp [execOp,e]) hx
  simp at hr
 ·
  rename_i b' args ats
  obtain ⟨r,w',β',k1,k2,k3,k4⟩:=BT (P:=P) hT cx (iA args.toList (fun y hy=>hρ y (by simp [Op.operands,Call.operands];exact by simpa using hy))) hr hc type
   (args.map fun|.const _=>true|_=>false)
  refine ⟨β',w',k2,k3,.inl ⟨r,?_,k4⟩⟩
  simp only [execOp,resolve,Sem.run_bind,Sem.run_pure,Result.andThen_ok,invoke,fN args ρ]
  exact k1
 simp at hr
end
end Dem
end
