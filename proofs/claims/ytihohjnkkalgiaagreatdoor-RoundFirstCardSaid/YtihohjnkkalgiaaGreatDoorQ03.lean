/- Parts of a proof, joined. -/
import Derived.Test.YtihohjnkkalgiaaGreatDoorQ02
import Derived.ChangeKeysEq
import Derived.Laws.StructEq
set_option linter.all false
set_option maxRecDepth 100000
set_option maxHeartbeats 4000000
section
open Go
namespace Dem
section
variable {P:Program} {T:Nat→Option TI} {G:Nat→Option (List D)} {β:Nat→Nat} {bx:List aB} {w:World} {X:Nat→Prop}
theorem an.flatten_append {ok:Nat→Prop} {es xs:List (List D)} {vs us:List Value} (h1:an β bx w ok (es.flatten.map .d) vs) (h2:an β bx w ok (xs.flatten.map .d) us):
 an β bx w ok ((es++xs).flatten.map .d) (vs++us):=by
 rw [List.flatten_append,List.map_append];exact an.append h1 h2
theorem KL (ds:List D):tL (ds.map .d)=true:=by
 induction ds with
 |nil=>rfl
 |cons d ds ih=>simp [tL,AV.sc,ih]
theorem L5 (cx:cJ G β bx w X) {b size cap:Nat} {es xs:List (List D)} {c:Array Value} {e:TypeId} {vs us rest:List Value} (hb:bx[b]?=some (.row size es)) (hne:es≠[])
 (hh:w.heap[β b]?=some (.cells c e (0,0))) (hc:c.toList=vs++rest) (hvl:vs.length=es.length*size) (aa9:us.length≤rest.length)
 (hl:∀r∈es++xs,r.length=size) (hv:an β bx w (bz β bx w X) (es.flatten.map .d) vs) (hu:an β bx w (bz β bx w X) (xs.flatten.map .d) us)
 (hcap:cap*size≤c.size) (hlen:es.length+xs.length≤cap):
 ∃β' w',w'=dZ w (β b) (.cells ⟨bu c.toList (es.length*size) us⟩ e (0,0))∧Ext β bx w β' ((bx.set b .dead)++[.row size (es++xs)]) w'∧cJ G β' ((bx.set b .dead)++[.row size (es++xs)]) w' X∧
  ak β' ((bx.set b .dead)++[.row size (es++xs)]) w' (bz β' ((bx.set b .dead)++[.row size (es++xs)]) w' X) (.ow bx.length size (es.length+xs.length)) (.slice (some ⟨β b,0,none⟩) (es.length+xs.length) cap):=by
 have cB:(aB.row size es).live=true:=by cases es<;>simp_all [aB.live]
 have aba:=jg hb
 have hlen':(bx.set b .dead).length=bx.length:=by simp
 have hsp:bu c.toList (es.length*size) us=vs++us++rest.drop us.length:=by
  rw [hc,←hvl,lT _ _ _ (by simp;omega)]
  simp
 have KM:(⟨bu c.toList (es.length*size) us⟩:Array Value).size=c.size:=by simp [dx]
 have ex:Ext β bx w (kS β bx.length (β b)) ((bx.set b .dead)++[.row size (es++xs)]) (dZ w (β b) (.cells ⟨bu c.toList (es.length*size) us⟩ e (0,0))):=by
  refine ⟨rfl,rfl,rfl,by simp [dZ],?_,?_,?_,?_⟩
  ·intro k _ hl'
   exact iK (fun e=>hl' b _ hb cB e.symm)
  ·intro k c1 e1 f1 hk
   by_cases h:k=β b
   ·subst h
    rw [hh] at hk
    simp only [osI,Obj.cells.injEq] at hk
    obtain ⟨rfl,rfl,rfl⟩:=hk
    exact ⟨_,dS hh,KM⟩
   exact ⟨c1,by rw [iK h];exact hk,rfl⟩
  ·intro i hi
   have hil:i<bx.length:=by obtain ⟨_,h1,_⟩:=hi;exact jg h1
   obtain ⟨B,h1,h2⟩:=iE (b:=b) (B':=.dead) rfl hi
   exact ⟨c8 _ _ (by omega),B,eG h1,h2⟩
  intro i B h1 h2
  rcases bD h1 with ⟨h3,h4⟩|⟨rfl,rfl⟩
  ·rcases aU h3 with ⟨_,rfl,_⟩|⟨_,h5⟩
   ·simp [aB.live] at h2
   exact .inr ⟨i,B,h5,h2,(c8 _ _ (by simp at h4;omega)).symm⟩
  exact .inr ⟨b,_,hb,cB,by rw [hlen',bB]⟩
 refine ⟨kS β bx.length (β b),_,rfl,ex,?_,?_⟩
 ·refine cx.step ex ?_ ?_
  ·intro i B h1
   rcases bD h1 with ⟨h3,h4⟩|⟨rfl,rfl⟩
   ·rcases aU h3 with ⟨_,rfl,_⟩|⟨h5,h6⟩
    ·exact .inr trv
    exact .inl ⟨h6,fun hl'=>iK (fun e=>h5 (cx.inj i b B _ h6 hb hl' cB e))⟩
   refine .inr (.inr ⟨_,e,by rw [hlen',bB];exact dS hh,?_⟩)
   rw [hlen',bB]
   refine mL (β:=kS β bx.length (β b)) (bx:=(bx.set b .dead)++[.row size (es++xs)]) _ 0 (vs++us) hl ?_ (an.mono (ex.eS X) _ _ (an.flatten_append hv hu))
   intro k u hk
   have hk':k<(vs++us).length:=by
    rcases Nat.lt_or_ge k (vs++us).length with h|h
    ·exact h
    simp [List.getElem?_eq_none h] at hk
   simp only [World.cell?,dS hh]
   simp only [hsp,Nat.zero_add]
   have RB:(vs++us++rest.drop us.length)[k]?=some u:=by rw [List.getElem?_append_left hk'];exact hk
   simpa using RB
  intro i j bi bj h1 h2 l1 l2 he
  rcases bD h1 with ⟨h3,h4⟩|⟨rfl,rfl⟩<;>rcases bD h2 with ⟨h5,h6⟩|⟨rfl,rfl⟩
  ·rcases aU h3 with ⟨_,rfl,_⟩|⟨n3,g3⟩
   ·simp [aB.live] at l1
   rcases aU h5 with ⟨_,rfl,_⟩|⟨n5,g5⟩
   ·simp [aB.live] at l2
   simp at h4 h6
   rw [c8 _ _ (by omega),c8 _ _ (by omega)] at he
   exact cx.inj i j bi bj g3 g5 l1 l2 he
  ·rcases aU h3 with ⟨_,rfl,_⟩|⟨n3,g3⟩
   ·simp [aB.live] at l1
   simp at h4
   rw [hlen',c8 _ _ (by omega),bB] at he
   exact absurd (cx.inj i b bi _ g3 hb l1 cB he) n3
  ·rcases aU h5 with ⟨_,rfl,_⟩|⟨n5,g5⟩
   ·simp [aB.live] at l2
   simp at h6
   rw [hlen',bB,c8 _ _ (by omega)] at he
   exact absurd (cx.inj j b bj _ g5 hb l2 cB he.symm) n5
  rfl
 simp only [ak]
 have Oh:es.length+xs.length≠0:=by
  have:=List.length_pos_iff.2 hne;omega
 refine ⟨⟨.row size (es++xs),by rw [←hlen'];simp,rfl⟩,.inr ⟨Oh,cap,_,e,(0,0),by rw [bB],hlen,by rw [bB];exact dS hh,by rw [KM];exact hcap⟩⟩
theorem lU {te:TI} (h:eJ te=true):∃z,te.zero.cells?=some z∧z.length=te.size∧0<te.bytes∧0<te.size:=by
 unfold eJ at h
 split at h
 ·rename_i z hz
  simp only [Bool.and_eq_true] at h
  refine ⟨z,hz,Nat.eq_of_beq_eq_true h.1.1,?_,?_⟩
  ·have:=h.1.2;simpa [Nat.blt_eq] using this
  have:=h.2;simpa [Nat.blt_eq] using this
 simp at h
theorem uj (hT:ko P T) (cx:cJ G β bx w X) {t u:Nat} {s x:AV} {us ux:Value} {tu:TI} (hu:T u=some tu) (Rz:∀k,tu.kd≠.int k)
 (hs:ak β bx w (bz β bx w X) s us) (hx:ak β bx w (bz β bx w X) x ux) {c:Prop} {v:AV} {b:Option (List aB)} (hr:kX T t s x bx=some ⟨c,v,b⟩) (hc:c) (ty:Nat):
 ∃r w' β' aZ,b=some aZ∧(Builtin.append_ #[t,u] ty #[us,ux]).run P w=.ok r w'∧Ext β bx w β' aZ w'∧cJ G β' aZ w' X∧ak β' aZ w' (bz β' aZ w' X) v r:=by
 obtain ⟨ui,ud,u1,u2,u3,u4,u5,u6⟩:=aP (hT.ti _ _ hu)
 have Dy:∀k,ud≠.int k:=by rintro k rfl;exact Rz k (by rw [u5];rfl)
 unfold kX at hr
 cases ht:T t with
 |none=>simp [ht] at hr
 |some ti=>
 obtain ⟨i,d,h1,h2,h3,h4,h5,h6⟩:=aP (hT.ti _ _ ht)
 simp only [ht] at hr
 cases hk:ti.kd with
 |slice e=>
  rw [hk] at hr h5
  cases d<;>simp [cR] at h5
  subst h5
  cases hte:T e with
  |none=>simp [hte] at hr
  |some te=>
  obtain ⟨ei,ed,g1,g2,g3,g4,g5,g6⟩:=aP (hT.ti _ _ hte)
  simp only [hte] at hr
  cases hz:eJ te with
  |false=>simp [hz] at hr
  |true=>
  obtain ⟨z,hz1,Oi,Yj,Yk⟩:=lU hz
  obtain ⟨zv,zc,k1,k2,k3,_⟩:=ue (β:=β) (bx:=bx) (w:=w) (ok:=bz β bx w X) (hT.ti _ _ hte) hz1
  have hzl:zc.length=ei.size:=by rw [an.length k3,Oi,g3]
  have yG:ei.zero=some zv:=by
   cases hq:ei.zero with
   |none=>rw [g6,hq] at hz1;simp [AV.cells?] at hz1
   |some q=>have:=gH (P:=P) (w:=w) g1 hq;rw [k1] at this;simp at this;rw [this]
  simp only [hz,cond_true] at hr
  cases Wn:kB te.size x bx with
  |none=>simp [Wn] at hr
  |some xs=>
  simp only [Wn] at hr
  cases s with
  |cl es=>
   simp only [ak] at hs
   obtain ⟨base,rfl,hbase⟩:=hs
   cases es with
   |nil=>
    simp only [osI,R.mk.injEq] at hr
    obtain ⟨rfl,rfl,rfl⟩:=hr
    obtain ⟨BB,BC⟩:=hc
    obtain ⟨ws,f1,f2⟩:=kZ (P:=P) cx hx Wn BC
    rw [g3] at f1
    by_cases hxs:xs=[]
    ·subst hxs
     have hrun:=wW (base:=base) h2 u2 Dy g1 f1 ty
     refine ⟨_,w,_,_,rfl,hrun,sJ (B:=.row te.size []) rfl 0,zA cx (B:=.row te.size []) rfl 0 (.inl rfl),?_⟩
     simp only [ak]
     exact ⟨⟨.row te.size [],by simp,rfl⟩,.inl ⟨rfl,base,rfl⟩⟩
    have hpos:=List.length_pos_iff.2 hxs
    have f0:gq P w ei.size 0 (.slice base 0 0) []:=by
     refine ⟨dy,by simp,fun w' _=>⟨dy,?_⟩⟩
     cases base<;>simp [Builtin.firstCells,loadCells,loadCellsFrom]
    obtain ⟨cap,rest,q1,q2,zs,q3,q4⟩:=jk h2 u2 Dy g1 yG k2 hzl f1 f0 (by omega) (by omega) (by rw [←g4];simpa using BB) ty
    obtain ⟨r1,r2,r3⟩:=nC (e:=e) (size:=te.size) (cap:=cap) (rows:=xs) (zs:=zs) cx BC f2 (by rw [g3,q3];simp at q2;omega) (by omega) hxs
    simp only [Nat.zero_add,List.nil_append] at q4
    exact ⟨_,_,_,_,rfl,q4,r1,r2,r3⟩
   |cons e0 er=>
    cases xs with
    |nil=>simp at hr
    |cons x0 xr=>
     simp only [osI,R.mk.injEq] at hr
     obtain ⟨rfl,rfl,rfl⟩:=hr
     obtain ⟨BB,BC⟩:=hc
     obtain ⟨ws,f1,f2⟩:=kZ (P:=P) cx hx Wn (fun r hr=>BC r (List.mem_append.2 (.inr hr)))
     obtain ⟨os,o1,o2⟩:=dR (P:=P) (β:=β) (bx:=bx) (cap:=(e0::er).length) (base:=base) (es:=e0::er) (ok:=bz β bx w X) (fun r hr=>BC r (List.mem_append.2 (.inl hr))) (hbase.imp id fun ⟨blk,off,sz,a,_,c⟩=>⟨blk,off,sz,a,c⟩)
     rw [g3] at f1 o1
     obtain ⟨cap,rest,q1,q2,zs,q3,q4⟩:=jk h2 u2 Dy g1 yG k2 hzl f1 o1 (by simp) (by omega) (by rw [←g4];exact BB) ty
     obtain ⟨r1,r2,r3⟩:=nC (e:=e) (size:=te.size) (cap:=cap) (rows:=(e0::er)++(x0::xr)) (zs:=zs) (vs:=os++ws) cx BC (an.flatten_append o2 f2) (by rw [g3,q3];simp at q2 ⊢;omega) (by rw [List.length_append];exact q1) (by simp)
     rw [List.length_append] at r3
     exact ⟨_,_,_,_,rfl,q4,r1,r2,r3⟩
  |ow b' sz n=>
   cases rf:bx[b']? with
   |none=>simp [rf] at hr
   |some B=>
   cases B with
   |row s2 es=>
    simp only [rf] at hr
    cases Il:sameBox b' x with
    |true=>simp [Il] at hr
    |false=>
    simp only [Il,cond_false,osI,R.mk.injEq] at hr
    obtain ⟨rfl,rfl,rfl⟩:=hr
    obtain ⟨rfl,rfl,rfl,BB,BC⟩:=hc
    obtain ⟨ws,f1,f2⟩:=kZ (P:=P) cx hx Wn (fun r hr=>BC r (List.mem_append.2 (.inr hr)))
    have hrows:(AV.ow b' te.size es.length).rows bx=some es:=by simp [AV.rows,rf]
    obtain ⟨_,base,RC,rfl,p1,p2⟩:=tW cx hrows hs
    rw [g3] at f1
    rcases p2 with ⟨rfl,rfl⟩|⟨hne,rfl,p3,ca,ce,cf,p4,p5⟩
    ·
     have rP:Ext β bx w β (bx.set b' .dead) w:=iF rf rfl rfl
     have VT:cJ G β (bx.set b' .dead) w X:=jW cx rf rfl rfl trv
     by_cases hxs:xs=[]
     ·subst hxs
      have hrun:=wW (base:=base) h2 u2 Dy g1 f1 ty
      refine ⟨_,w,_,_,rfl,hrun,rP.trans (sJ (B:=.row te.size ([]++[])) rfl 0),zA VT (B:=.row te.size ([]++[])) rfl 0 (.inl rfl),?_⟩
      simp only [ak]
      exact ⟨⟨.row te.size [],by simp,rfl⟩,.inl ⟨rfl,base,rfl⟩⟩
     have hpos:=List.length_pos_iff.2 hxs
     have f0:gq P w ei.size 0 (.slice base 0 0) []:=by
      refine ⟨dy,by simp,fun w' _=>⟨dy,?_⟩⟩
      cases base<;>simp [Builtin.firstCells,loadCells,loadCellsFrom]
     obtain ⟨cap,rest,q1,q2,zs,q3,q4⟩:=jk h2 u2 Dy g1 yG k2 hzl f1 f0 (by omega) (by omega) (by rw [←g4];simpa using BB) ty
     obtain ⟨r1,r2,r3⟩:=nC (e:=e) (size:=te.size) (cap:=cap) (rows:=[]++xs) (zs:=zs) VT BC (by simpa using an.mono (rP.eS X) _ _ f2) (by rw [g3,q3];simp at q2;omega) (by simpa using q1) (by simpa using hxs)
     simp only [Nat.zero_add,List.nil_append,List.length_nil,List.length_set] at q4 r1 r2 r3 ⊢
     exact ⟨_,_,_,_,rfl,q4,rP.trans r1,r2,r3⟩
    rcases cx.box _ _ rf with h0|⟨c2,e2,j1,j2⟩
    ·exact absurd h0 hne
    rw [p4] at j1
    simp only [osI,Obj.cells.injEq] at j1
    obtain ⟨rfl,rfl,rfl⟩:=j1
    obtain ⟨Dx,v1,v2,v3⟩:=jX (β:=β) (bx:=bx) es 0 p3
    obtain ⟨Wo,oZ⟩:=oh p4 v2
    have hcs:ca.size=Dx.length+Wo.length:=by have:=congrArg List.length oZ;simpa using this
    by_cases hfit:es.length+xs.length≤RC
    ·have hmul:(es.length+xs.length)*te.size≤RC*te.size:=Nat.mul_le_mul_right _ hfit
     rw [Nat.add_mul] at hmul
     have hwl:ws.length=xs.length*te.size:=by rw [f1.2.1,g3]
     have hrun:=Fc (sCap:=RC) (sLen:=es.length) h2 u2 Dy g1 f1 (an.sc (KL _) f2) p4 (by rw [←g3];omega) hfit ty
     obtain ⟨β',w',hw',r1,r2,r3⟩:=L5 (xs:=xs) (us:=ws) cx rf hne p4 oZ v1 (by omega) BC v3 f2 p5 hfit
     rw [←g3] at hrun
     subst hw'
     exact ⟨_,_,_,_,rfl,hrun,r1,r2,r3⟩
    obtain ⟨os,o1,o2⟩:=dR (P:=P) (β:=β) (bx:=bx) (cap:=RC) (base:=some ⟨β b',0,none⟩) (es:=es) (ok:=bz β bx w X) (fun r hr=>BC r (List.mem_append.2 (.inl hr))) (.inr ⟨β b',0,te.size,rfl,p3⟩)
    rw [g3] at o1
    have rP:Ext β bx w β (bx.set b' .dead) w:=iF rf rfl rfl
    have VT:cJ G β (bx.set b' .dead) w X:=jW cx rf rfl rfl trv
    obtain ⟨cap,rest,q1,q2,zs,q3,q4⟩:=jk h2 u2 Dy g1 yG k2 hzl f1 o1 (by omega) (by omega) (by rw [←g4];exact BB) ty
    obtain ⟨r1,r2,r3⟩:=nC (e:=e) (size:=te.size) (cap:=cap) (rows:=es++xs) (zs:=zs) (vs:=os++ws) VT BC (an.mono (rP.eS X) _ _ (an.flatten_append o2 f2)) (by rw [g3,q3];simp at q2 ⊢;omega) (by simpa using q1) (by simp [hne])
    rw [List.length_append] at r3
    simp only [List.length_set] at r1 r2 r3
    exact ⟨_,_,_,_,rfl,q4,rP.trans r1,r2,r3⟩
   |_=>simp [rf] at hr
  |_=>simp at hr
 |_=>rw [hk] at hr;simp at hr
end
end Dem
end
section
open Go
namespace Dem
section
variable {P:Program} {T:Nat→Option TI} {G:Nat→Option (List D)} {β:Nat→Nat} {bx:List aB} {w:World} {X:Nat→Prop}
theorem bQ (s:Sem Value) {x:Value} {w':World} (h:s.run P w=.ok x w'):(do pure (Next.value (←s)):Sem Next).run P w=.ok (.value x) w':=by
 simp [h]
theorem Oj {x:AV} {u:Value} {v:AV} {t:Nat} {e:Nat} (cx:cJ G β bx w X) (ht:P.underlying t=some (.slice e)) (hx:ak β bx w (bz β bx w X) x u) (hr:ze x bx=some v) (ty:Nat):
 ∃r,(Builtin.len_ #[t] ty #[u]).run P w=.ok r w∧ak β bx w (bz β bx w X) v r:=by
 have fin:∀n base cap,u=.slice base n cap→v=.d (.int .i64 n)→∃r,(Builtin.len_ #[t] ty #[u]).run P w=.ok r w∧ak β bx w (bz β bx w X) v r:=by
  rintro n base cap rfl rfl
  exact ⟨.int .i64 n,by simp [Builtin.len_,bc ht,goInt],by simp [ak,aS]⟩
 unfold ze at hr
 split at hr
 ·simp only [osI] at hr;subst hr
  simp only [ak,aS] at hx
  obtain ⟨base,cap,rfl,_⟩:=hx
  exact fin _ _ _ rfl rfl
 ·simp only [osI] at hr;subst hr
  simp only [ak] at hx
  obtain ⟨base,rfl,_⟩:=hx
  exact fin _ _ _ rfl rfl
 ·split at hr
  ·rename_i es aG
   simp only [osI] at hr;subst hr
   obtain ⟨_,base,cap,rfl,_⟩:=tW cx aG hx
   exact fin _ _ _ rfl rfl
  simp at hr
 ·split at hr
  ·rename_i es aG
   simp only [osI] at hr;subst hr
   obtain ⟨_,_,base,cap,rfl,_⟩:=jY cx aG hx
   exact fin _ _ _ rfl rfl
  simp at hr
 simp at hr
theorem BH (hT:ko P T) (cx:cJ G β bx w X) {bn:Builtin} {args:List AV} {vs:List Value} {ats:List Nat} (hx:an β bx w (bz β bx w X) args vs)
 {c:Prop} {v:AV} {b:Option (List aB)} (hr:iT T bn args ats bx=some ⟨c,v,b⟩) (hc:c) (ty:Nat) (cs:Array Bool):
 ∃r w' β',(Go.builtin bn ⟨ats⟩ ty cs ⟨vs⟩).run P w=.ok (.value r) w'∧Ext β bx w β' (dJ bx b) w'∧cJ G β' (dJ bx b) w' X∧ak β' (dJ bx b) w' (bz β' (dJ bx b) w' X) v r:=by
 unfold iT at hr
 split at hr
 ·rename_i x t
  simp only [an] at hx
  obtain ⟨u,us,rfl,hx,rfl⟩:=hx
  cases ht:T t with
  |none=>simp [ht] at hr
  |some ti=>
  obtain ⟨i,d,h1,h2,h3,h4,h5,h6⟩:=aP (hT.ti _ _ ht)
  simp only [ht] at hr
  cases hk:ti.kd with
  |array n e=>
   rw [hk] at hr h5
   cases d<;>simp [cR] at h5
   obtain ⟨rfl,rfl⟩:=h5
   simp only [R.pure,osI,R.mk.injEq] at hr
   obtain ⟨_,rfl,rfl⟩:=hr
   refine ⟨_,w,β,bQ _ (x:=.int .i64 n) ?_,Ext.refl _ _ _,cx,by simp only [ak,aS]⟩
   cases u<;>simp [Builtin.len_,bc h2,goInt]
  |str=>
   rw [hk] at hr h5
   cases d<;>simp [cR] at h5
   cases x with
   |d y=>
    cases y with
    |str s=>
     simp only [R.pure,osI,R.mk.injEq] at hr
     obtain ⟨_,rfl,rfl⟩:=hr
     simp only [ak,aS] at hx;subst hx
     refine ⟨_,w,β,bQ _ (x:=.int .i64 s.length) ?_,Ext.refl _ _ _,cx,by simp only [ak,aS]⟩
     have hsz:(⟨s.toArray⟩:ByteArray).size=s.length:=by show s.toArray.size=_;simp
     simp [Builtin.len_,bc h2,goInt,hsz]
    |_=>simp at hr
   |_=>simp at hr
  |slice e=>
   rw [hk] at hr h5
   cases d<;>simp [cR] at h5
   subst h5
   have oo:(match ze x bx with|some v=>R.pure v|none=>none)=some ⟨c,v,b⟩:=by
    cases x<;>first|exact hr|(rename_i y;cases y<;>exact hr)
   split at oo
   ·rename_i v' hl
    simp only [R.pure,osI,R.mk.injEq] at oo
    obtain ⟨_,rfl,rfl⟩:=oo
    obtain ⟨r,k1,k2⟩:=Oj (t:=t) cx h2 hx hl ty
    exact ⟨r,w,β,bQ _ k1,Ext.refl _ _ _,cx,k2⟩
   simp at oo
  |_=>rw [hk] at hr;simp at hr
 ·rename_i k x k' y
  simp only [R.pure,osI,R.mk.injEq] at hr
  obtain ⟨_,rfl,rfl⟩:=hr
  simp only [an,ak,aS] at hx
  obtain ⟨u,us,rfl,rfl,u2,Oe,rfl,rfl,rfl⟩:=hx
  refine ⟨_,w,β,bQ _ (x:=.int k (min x y)) ?_,Ext.refl _ _ _,cx,by simp only [ak,aS]⟩
  simp [Builtin.min_,Builtin.min2]
  omega
 ·rename_i k x k' y
  simp only [R.pure,osI,R.mk.injEq] at hr
  obtain ⟨_,rfl,rfl⟩:=hr
  simp only [an,ak,aS] at hx
  obtain ⟨u,us,rfl,rfl,u2,Oe,rfl,rfl,rfl⟩:=hx
  refine ⟨_,w,β,bQ _ (x:=.int k (max x y)) ?_,Ext.refl _ _ _,cx,by simp only [ak,aS]⟩
  simp [Builtin.max_,Builtin.max2]
  omega
 ·rename_i s x t u
  simp only [an] at hx
  obtain ⟨v1,us,rfl,hs,v2,Oe,rfl,hx,rfl⟩:=hx
  cases hu:T u with
  |none=>simp [hu] at hr
  |some tu=>
  simp only [hu] at hr
  have Rz:∀k,tu.kd≠.int k:=by intro k hk;rw [hk] at hr;simp at hr
  have oo:kX T t s x bx=some ⟨c,v,b⟩:=by
   split at hr
   ·simp at hr
   exact hr
  obtain ⟨r,w',β',aZ,rfl,k1,k2,k3,k4⟩:=uj hT cx hu Rz hs hx oo hc ty
  exact ⟨r,w',β',bQ _ k1,k2,k3,k4⟩
 simp at hr
theorem wX {n e:Nat} {te:TI} {i:TypeInfo} (d:Nat) (ht:o9 P e=some te) (hs:te.size=i.size) {ok:Nat→Prop}
 (IH:∀a b r x y,By T n e a b=some r→ak β bx w ok a x→ak β bx w ok b y→(Op.equalIn d e x y).run P w=.ok r w)
 {xs ys:List AV} {us vs:List Value} (hx:an β bx w ok xs us) (hy:an β bx w ok ys vs):∀(is:List Nat) (r:Bool),
 is.foldr (fun i acc=>match cL te.kd.isAgg te.size (xs.drop (i*te.size)),cL te.kd.isAgg te.size (ys.drop (i*te.size)) with
  |some a,some b=>match By T n e a b,acc with
   |some p,some q=>some (p&&q)
   |_,_=>none
  |_,_=>none) (some true)=some r→(Op.eqItems d e i.size ⟨us⟩ ⟨vs⟩ is).run P w=.ok r w
 |[],r,h=>by simp at h;subst h;simp [Op.eqItems]
 |j::is,r,h=>by
  rw [List.foldr_cons] at h
  split at h
  ·rename_i a b ha hb
   split at h
   ·rename_i p q hp hq
    simp only [osI] at h;subst h
    obtain ⟨x,k1,k2⟩:=nB (P:=P) (w:=w) ht ha hx
    obtain ⟨y,k3,k4⟩:=nB (P:=P) (w:=w) ht hb hy
    rw [hs] at k1 k3
    have k5:=IH a b p x y hp k2 k4
    have k6:=wX d ht hs IH hx hy is q hq
    simp only [Op.eqItems,Sem.run_bind,k1,k3,k5,Result.andThen_ok]
    cases p<;>simp [k6]
   simp at h
  simp at h
theorem uk (hT:ko P T) {n:Nat} (d:Nat) {ok:Nat→Prop}
 (IH:∀t a b r x y,By T n t a b=some r→ak β bx w ok a x→ak β bx w ok b y→(Op.equalIn d t x y).run P w=.ok r w)
 {xs ys:List AV} {us vs:List Value} (hx:an β bx w ok xs us) (hy:an β bx w ok ys vs):∀(fs:List Field) (r:Bool),(∀f∈fs,f.name≠ "_")→
 (fs.map fun f=>(f.offset,f.type)).foldr (fun f acc=>match T f.2 with
  |some tf=>match cL tf.kd.isAgg tf.size (xs.drop f.1),cL tf.kd.isAgg tf.size (ys.drop f.1) with
   |some a,some b=>match By T n f.2 a b,acc with
    |some p,some q=>some (p&&q)
    |_,_=>none
   |_,_=>none
  |none=>none) (some true)=some r→(Op.eqFields d ⟨us⟩ ⟨vs⟩ fs).run P w=.ok r w
 |[],r,_,h=>by simp at h;subst h;simp [Op.eqFields]
 |f::fs,r,hn,h=>by
  rw [List.map_cons,List.foldr_cons] at h
  split at h
  ·rename_i tf Rx
   split at h
   ·rename_i a b ha hb
    split at h
    ·rename_i p q hp hq
     simp only [osI] at h;subst h
     obtain ⟨x,k1,k2⟩:=nB (P:=P) (w:=w) (hT.ti _ _ Rx) ha hx
     obtain ⟨y,k3,k4⟩:=nB (P:=P) (w:=w) (hT.ti _ _ Rx) hb hy
     have k5:=IH f.type a b p x y hp k2 k4
     have k6:=uk hT d IH hx hy fs q (fun g hg=>hn g (by simp [hg])) hq
     simp only [Op.eqFields,hn f (by simp),ne_eq,not_false_eq_true,if_true,Sem.run_bind,k1,k3,k5,Result.andThen_ok]
     cases p<;>simp [k6]
    simp at h
   simp at h
  simp at h
theorem Dz (hT:ko P T) {ok:Nat→Prop} (d:Nat):∀(n t:Nat) (a b:AV) (r:Bool) (x y:Value),By T n t a b=some r→ak β bx w ok a x→ak β bx w ok b y→
 (Op.equalIn (d+n) t x y).run P w=.ok r w
 |0,t,a,b,r,x,y,h,_,_=>by simp [By] at h
 |n+1,t,a,b,r,x,y,h,hx,hy=>by
  unfold By at h
  split at h
  ·simp at h
  rename_i ti ht
  obtain ⟨i,ds,h1,h2,h3,h4,h5,h6⟩:=aP (hT.ti _ _ ht)
  rw [h5] at h
  split at h
  ·rename_i q j a k b hk
   cases Uo:j==k with
   |false=>simp [Uo] at h
   |true=>
   have YM:j=k:=by simpa using Uo
   subst YM
   cases ds<;>simp [cR] at hk
   simp only [ak,aS] at hx hy
   subst hx;subst hy
   simp only [Uo,cond_true,osI] at h;subst h
   rw [show d+(n+1)=(d+n)+1 from rfl]
   simp [run_equalIn_int _ (d+n) t j _ a b h2]
   rfl
  ·rename_i a b hk
   cases ds<;>simp [cR] at hk
   simp only [ak,aS] at hx hy
   subst hx;subst hy
   simp only [osI] at h;subst h
   rw [show d+(n+1)=(d+n)+1 from rfl]
   simp [run_equalIn_bool' _ (d+n) t a b h2]
  ·rename_i a b hk
   cases ds<;>simp [cR] at hk
   simp only [ak,aS] at hx hy
   subst hx;subst hy
   simp only [osI] at h;subst h
   rw [show d+(n+1)=(d+n)+1 from rfl]
   rw [run_equalIn_string _ (d+n) t _ _ h2,ByteArray.toList_eq,ByteArray.toList_eq]
   by_cases hab:a=b<;>simp [hab]
  ·rename_i len e xs ys hk
   have hd:ds=.array len e:=by cases ds<;>simp [cR] at hk;obtain ⟨rfl,rfl⟩:=hk;rfl
   subst hd
   simp only [ak] at hx hy
   obtain ⟨us,rfl,hx⟩:=hx
   obtain ⟨vs,rfl,hy⟩:=hy
   split at h
   ·rename_i te hte
    obtain ⟨ei,ed,g1,g2,g3,g4,g5,g6⟩:=aP (hT.ti _ _ hte)
    cases hl:Nat.beq len 0 with
    |true=>simp [hl] at h
    |false=>
    simp only [hl,cond_false] at h
    rw [show d+(n+1)=(d+n)+1 from rfl,run_equalIn_array _ (d+n) _ _ h2 g1]
    have:=wX (P:=P) (w:=w) (β:=β) (bx:=bx) (T:=T) (n:=n) (d+n) (hT.ti _ _ hte) g3 (fun a b r x y=>Dz hT d n e a b r x y) hx hy _ _ h
    simpa [Program.cellsOf,g1] using this
   simp at h
  ·rename_i fs xs ys hk
   simp only [ak] at hx hy
   obtain ⟨us,rfl,hx⟩:=hx
   obtain ⟨vs,rfl,hy⟩:=hy
   cases ds<;>simp [cR] at hk
   rename_i gs
   subst hk
   have he:=Rr (hT.ti _ _ ht) h2
   cases hq:ti.eq with
   |false=>simp [hq] at h
   |true=>
   simp only [hq,cond_true] at h
   rw [hq] at he
   simp only [NT] at he
   have he':=he.symm
   simp only [Bool.and_eq_true,Bool.not_eq_true',List.all_eq_true,bne_iff_ne,ne_eq] at he'
   have hf:P.fieldsOf t=gs:=by simp [Program.fieldsOf,h2]
   rw [show d+(n+1)=(d+n)+1 from rfl,run_equalIn_agg _ (d+n) t _ _ (by rw [hf];exact h2) he'.1,hf]
   exact uk hT (d+n) (fun t a b r x y=>Dz hT d n t a b r x y) hx hy _ _ he'.2 h
  simp at h
theorem vK {α:Type} {F:α→Option Bool→Option Bool} (hF:∀x,F x none=none) {p:α→Prop} (hp:∀x acc r,F x acc=some r→p x):∀(xs:List α) {b r:Option Bool},xs.foldr F b=r→r≠none→∀x∈xs,p x
 |[],_,_,_,_,x,hx=>by simp at hx
 |y::ys,b,r,h,hr,x,hx=>by
  rw [List.foldr_cons] at h
  cases hq:ys.foldr F b with
  |none=>rw [hq,hF] at h;exact absurd h.symm hr
  |some q=>
  rcases List.mem_cons.1 hx with rfl|hx
  ·cases r with
   |none=>simp at hr
   |some r=>exact hp _ _ _ h
  exact vK hF hp ys hq (by simp) x hx
theorem vL (hT:ko P T):∀(n m t:Nat) (a b:AV) (r:Bool),By T n t a b=some r→n≤m→P.eqGuardType m t=false
 |0,m,t,a,b,r,h,_=>by simp [By] at h
 |n+1,0,t,a,b,r,h,hm=>by omega
 |n+1,m+1,t,a,b,r,h,hm=>by
  unfold By at h
  split at h
  ·simp at h
  rename_i ti ht
  obtain ⟨i,ds,h1,h2,h3,h4,h5,h6⟩:=aP (hT.ti _ _ ht)
  rw [h5] at h
  unfold Program.eqGuardType
  rw [h2]
  cases ds<;>simp only [cR] at h ⊢
  all_goals try rfl
  all_goals (try (exfalso;revert h;cases a<;>cases b<;>simp;done))
  ·rename_i len e
   cases a<;>(try (simp at h;done))
   cases b<;>(try (simp at h;done))
   simp only at h
   cases hte:T e with
   |none=>simp [hte] at h
   |some te=>
   simp only [hte] at h
   cases hl:Nat.beq len 0 with
   |true=>simp [hl] at h
   |false=>
   simp only [hl,cond_false] at h
   have hall:=vK (p:=fun _=>P.eqGuardType m e=false) (fun f=>by split<;>simp) (fun f acc r hf=>by
    split at hf
    ·split at hf
     ·have hp:=‹By T n _ _ _=some _›
      exact vL hT n m e _ _ _ hp (by omega)
     simp at hf
    simp at hf) _ h (by simp)
   exact hall 0 (by simp;have:=Nat.ne_of_beq_eq_false hl;omega)
  rename_i gs
  cases a<;>(try (simp at h;done))
  cases b<;>(try (simp at h;done))
  simp only at h
  cases hq:ti.eq with
  |false=>simp [hq] at h
  |true=>
  simp only [hq,cond_true] at h
  have hall:=vK (p:=fun f=>P.eqGuardType m f.2=false) (fun f=>by split<;>(try split)<;>simp) (fun f acc r hf=>by
   split at hf
   ·split at hf
    ·split at hf
     ·have hp:=‹By T n _ _ _=some _›
      exact vL hT n m f.2 _ _ _ hp (by omega)
     simp at hf
    simp at hf
   simp at hf) _ h (by simp)
  rw [Array.any_eq_false]
  intro k hk
  have:=hall (gs[k].offset,gs[k].type) (List.mem_map.2 ⟨gs[k],by simp,rfl⟩)
  simp [this]
theorem vM {ev:Operand→AV} {ρ:Operand→Value} {ok:Nat→Prop}:∀(ps:List (Nat×Operand)),(∀p∈ps,ak β bx w ok (ev p.2) (ρ p.2))→c5 β bx w ok (ps.map fun p=>(p.1,ev p.2)) (ps.map fun p=>(p.1,ρ p.2))
 |[],_=>by simp [c5]
 |p::ps,h=>by
  simp only [List.map_cons,c5]
  exact ⟨_,_,rfl,h p (by simp),vM ps (fun q hq=>h q (by simp [hq]))⟩
theorem iA {ev:Operand→AV} {ρ:Operand→Value} {ok:Nat→Prop}:∀(xs:List Operand),(∀x∈xs,ak β bx w ok (ev x) (ρ x))→an β bx w ok (xs.map ev) (xs.map ρ)
 |[],_=>by simp [an]
 |x::xs,h=>by
  simp only [List.map_cons,an]
  exact ⟨_,_,rfl,h x (by simp),iA xs (fun q hq=>h q (by simp [hq]))⟩
theorem rW {t:TypeId} {ms:Array (String×TypeId)} (h:P.underlying t=some (.interface ms)) (a:TypeId) (b:Value):(Op.equal t (.iface a b) .nilIface).run P w=.ok false w:=by
 simp only [Op.equal,Op.maxDepth];unfold Op.equalIn;simp [bc h]
theorem rX {t:TypeId} {ms:Array (String×TypeId)} (h:P.underlying t=some (.interface ms)):(Op.equal t .nilIface .nilIface).run P w=.ok true w:=by
 simp only [Op.equal,Op.maxDepth];unfold Op.equalIn;simp [bc h]
theorem Fe {t:TypeId} {ms:Array (String×TypeId)} (h:P.underlying t=some (.interface ms)) (a:TypeId) (b:Value):(Go.binOp .eql t (.iface a b) .nilIface).run P w=.ok (.bool false) w:=by
 simp only [Go.binOp];simp [rW h]
theorem Ff {t:TypeId} {ms:Array (String×TypeId)} (h:P.underlying t=some (.interface ms)) (a:TypeId) (b:Value):(Go.binOp .neq t (.iface a b) .nilIface).run P w=.ok (.bool true) w:=by
 simp only [Go.binOp];simp [rW h]
theorem Fg {t:TypeId} {ms:Array (String×TypeId)} (h:P.underlying t=some (.interface ms)):(Go.binOp .eql t .nilIface .nilIface).run P w=.ok (.bool true) w:=by
 simp only [Go.binOp];simp [rX h]
theorem Fh {t:TypeId} {ms:Array (String×TypeId)} (h:P.underlying t=some (.interface ms)):(Go.binOp .neq t .nilIface .nilIface).run P w=.ok (.bool false) w:=by
 simp only [Go.binOp];simp [rX h]
theorem Fi {t:Nat} {ti:TI} (ht:o9 P t=some ti) {z:List AV} (hz:ti.zero.cells?=some z) {ok:Nat→Prop}:∃v,(zeroValue t).run P w=.ok v w∧ak β bx w ok ti.zero v:=by
 obtain ⟨i,d,h1,h2,h3,h4,h5,h6⟩:=aP ht
 cases yG:i.zero with
 |none=>rw [h6,yG] at hz;simp [AV.cells?] at hz
 |some v=>rw [h6,yG];exact ⟨v,gH h1 yG,tZ v⟩
theorem wY {ok:Nat→Prop} {xs:List AV} {vs:List Value} (hp:jV xs=true) (h:an β bx w ok xs vs) (f:Nat):zj f vs=.func (.func f) #[] ⟨vs⟩:=by
 cases xs with
 |nil=>simp only [an] at h;subst h;rfl
 |cons x xs=>
  simp only [an] at h
  obtain ⟨u,us,rfl,h1,_⟩:=h
  have:Ih u∨∃c,u=.agg c:=by
   simp only [jV,Bool.or_eq_true] at hp
   rcases hp with hp|hp
   ·exact .inl (ak.sc hp h1)
   cases x<;>simp [AV.isAgg] at hp
   simp only [ak] at h1
   obtain ⟨c,e,_⟩:=h1
   exact .inr ⟨_,e⟩
  cases u<;>first|rfl|(rcases this with h|⟨c,h⟩;exact h.elim;cases h)
theorem fM {α γ:Type} (a:Array α) (f:α→γ):a.map f=⟨a.toList.map f⟩:=by
 apply Array.ext';simp
theorem L6 (hT:ko P T) (cx:cJ G β bx w X) {ev:Operand→AV} {ρ:Operand→Value} {o:Oper} (hρ:∀x∈o.op.operands.toList,ak β bx w (bz β bx w X) (ev x) (ρ x))
 {c:Prop} {v:AV} {b:Option (List aB)} (hr:kY T ev o.op bx=some ⟨c,v,b⟩) (hc:c):dF G β bx w X ((execOp ρ o).run P w) v (dJ bx b):=by
 obtain ⟨dst,op,type,pos,after,guard⟩:=o
 simp only at hρ hr
 unfold kY at hr
 split at hr
 ·
  simp only [R.pure,osI,R.mk.injEq] at hr
  obtain ⟨_,rfl,rfl⟩:=hr
  exact dF.pure cx rfl (hρ _ (by simp [Op.operands]))
 ·simp only [R.pure,osI,R.mk.injEq] at hr
  obtain ⟨_,rfl,rfl⟩:=hr
  exact dF.pure cx rfl (hρ _ (by simp [Op.operands]))
 ·
  rename_i t
  cases ht:T t with
  |none=>simp [ht] at hr
  |some ti=>
  simp only [ht] at hr
  cases hz:ti.zero.cells? with
  |none=>simp [hz] at hr
  |some cs=>
  simp only [hz,osI,R.mk.injEq] at hr
  obtain ⟨_,rfl,rfl⟩:=hr
  obtain ⟨i,d,h1,h2,h3,h4,h5,h6⟩:=aP (hT.ti _ _ ht)
  cases yG:i.zero with
  |none=>rw [h6,yG] at hz;simp [AV.cells?] at hz
  |some z=>
  rw [h6,yG] at hz
  obtain ⟨β',w',k1,k2,k3⟩:=wV (P:=P) cx t hz (tZ z)
  refine ⟨β',w',k2,k3,.inl ⟨.pointer (some ⟨β' bx.length,0,none⟩),?_,?_⟩⟩
  ·exact bQ _ (by simp [Instr.alloc,gH h1 yG,k1])
  simp only [ak];exact ⟨trv,.var cs,by simp [dJ],rfl⟩
 ·
  rename_i t x
  cases hz:(ev x).cells? with
  |none=>simp [hz] at hr
  |some cs=>
  simp only [hz,osI,R.mk.injEq] at hr
  obtain ⟨_,rfl,rfl⟩:=hr
  obtain ⟨β',w',k1,k2,k3⟩:=wV (P:=P) cx t hz (hρ x (by simp [Op.operands]))
  refine ⟨β',w',k2,k3,.inl ⟨.pointer (some ⟨β' bx.length,0,none⟩),?_,?_⟩⟩
  ·exact bQ _ (by simp [Instr.box,k1])
  simp only [ak];exact ⟨trv,.var cs,by simp [dJ],rfl⟩
 ·
  rename_i t a
  cases ht:T t with
  |none=>simp [ht] at hr
  |some ti=>
  simp only [ht] at hr
  obtain ⟨rfl,x,k1,k2⟩:=zk (P:=P) hT cx ht (hρ a (by simp [Op.operands])) hr hc
  exact dF.pure cx (bQ _ k1) k2
 ·
  rename_i t a x
  cases ht:T t with
  |none=>simp [ht] at hr
  |some ti=>
  simp only [ht] at hr
  obtain ⟨rfl,aZ,w',rfl,k1,k2,k3⟩:=E6 (P:=P) hT cx ht (hρ a (by simp [Op.operands])) (hρ x (by simp [Op.operands])) hr hc
  exact ⟨β,w',k2,k3,.inr ⟨by simp [execOp,k1],rfl⟩⟩
 ·
  rename_i t parts
  obtain ⟨rfl,u,k1,k2⟩:=Fb (P:=P) (w:=w) (β:=β) (bx:=bx) (X:=X) hT (vs:=parts.map fun (i,x)=>(i,ρ x))
   (by rw [Array.toList_map];exact vM _ (fun p hp=>hρ p.2 (by simp [Op.operands];exact ⟨p.1,by simpa using hp⟩))) hr
  exact dF.pure cx (bQ _ k1) k2
 ·
  rename_i t n parts
  obtain ⟨u,w',k1,k2,k3,k4⟩:=vJ (P:=P) (w:=w) (β:=β) (bx:=bx) (X:=X) hT cx (vs:=parts.map fun (i,x)=>(i,ρ x))
   (by rw [Array.toList_map];exact vM _ (fun p hp=>hρ p.2 (by simp [Op.operands];exact ⟨p.1,by simpa using hp⟩))) hr
  exact ⟨β,w',k2,k3,.inl ⟨u,bQ _ k1,k4⟩⟩
 ·
  rename_i t x f
  have hx:=hρ x (by simp [Op.operands])
  cases ht:T t with
  |none=>simp [ht] at hr
  |some ti=>
  simp only [ht] at hr
  split at hr
  ·rename_i o ft ho
   cases hft:T ft with
   |none=>simp [hft] at hr
   |some tf=>
   simp only [hft] at hr
   cases hs:Nat.beq tf.size 0 with
   |true=>simp [hs] at hr
   |false=>
   have hs':tf.size≠0:=by intro h;rw [h] at hs;simp at hs
   simp only [hs,cond_false] at hr
   have place:=fun blk off=>E7 (w:=w) (hT.ti _ _ ht) ho (hT.ti _ _ hft) hs' blk off
   split at hr
   ·rename_i b' off he
    simp only [R.pure,osI,R.mk.injEq] at hr
    obtain ⟨_,rfl,rfl⟩:=hr
    rw [he] at hx;simp only [ak] at hx
    obtain ⟨hx,hb⟩:=hx
    exact dF.pure cx (bQ _ (by rw [hx];exact place _ _)) (by simp only [ak];exact ⟨trv,hb⟩)
   ·rename_i b' sz i j he
    simp only [R.pure,osI,R.mk.injEq] at hr
    obtain ⟨_,rfl,rfl⟩:=hr
    rw [he] at hx;simp only [ak] at hx
    obtain ⟨hx,hb⟩:=hx
    exact dF.pure cx (bQ _ (by rw [hx];exact place _ _)) (by simp only [ak];exact ⟨by rw [Nat.add_assoc],hb⟩)
   ·rename_i ds he
    simp only [R.when,osI,R.mk.injEq] at hr
    obtain ⟨rfl,rfl,rfl⟩:=hr
    rw [he] at hx;simp only [ak] at hx
    obtain ⟨blk,off,hx,hb,hrow⟩:=hx
    exact dF.pure cx (bQ _ (by rw [hx];exact place _ _)) (by simp only [ak];exact ⟨blk,off+o,rfl,hb,bp.drop _ _ _ hrow⟩)
   simp at hr
  simp at hr
 ·
  rename_i t x i
  have hx:=hρ x (by simp [Op.operands])
  have hi:=hρ i (by simp [Op.operands])
  cases ht:T t with
  |none=>simp [ht] at hr
  |some ti=>
  obtain ⟨ii,d,h1,h2,h3,h4,h5,h6⟩:=aP (hT.ti _ _ ht)
  simp only [ht,h5] at hr
  split at hr
  ·rename_i n e kz z hk Up
   have hd:d=.array n e:=by cases d<;>simp [cR] at hk;obtain ⟨rfl,rfl⟩:=hk;rfl
   subst hd
   rw [Up] at hi;simp only [ak,aS] at hi
   split at hr
   ·rename_i te hte
    obtain ⟨ei,ed,g1,g2,g3,g4,g5,g6⟩:=aP (hT.ti _ _ hte)
    have place:∀blk off,0≤z∧z<(n:Int)→(Instr.indexAt t (.pointer (some ⟨blk,off,none⟩)) (ρ i)).run P w=.ok (.pointer (some ⟨blk,off+z.toNat*te.size,none⟩)) w:=by
     intro blk off hz
     simp [Instr.indexAt,hi,asIntOf,bc h2,Instr.sureAddr,hz.1,hz.2,bV g1,fL,g3]
    split at hr
    ·rename_i b' off he
     simp only [R.when,osI,R.mk.injEq] at hr
     obtain ⟨rfl,rfl,rfl⟩:=hr
     rw [he] at hx;simp only [ak] at hx
     obtain ⟨hx,hb⟩:=hx
     exact dF.pure cx (bQ _ (by rw [hx];exact place _ _ hc)) (by simp only [ak];exact ⟨trv,hb⟩)
    ·rename_i b' sz a j he
     simp only [R.when,osI,R.mk.injEq] at hr
     obtain ⟨rfl,rfl,rfl⟩:=hr
     rw [he] at hx;simp only [ak] at hx
     obtain ⟨hx,hb⟩:=hx
     exact dF.pure cx (bQ _ (by rw [hx];exact place _ _ hc)) (by simp only [ak];exact ⟨by rw [Nat.add_assoc],hb⟩)
    ·rename_i ds he
     simp only [R.when,osI,R.mk.injEq] at hr
     obtain ⟨rfl,rfl,rfl⟩:=hr
     rw [he] at hx;simp only [ak] at hx
     obtain ⟨blk,off,hx,hb,hrow⟩:=hx
     exact dF.pure cx (bQ _ (by rw [hx];exact place _ _ ⟨hc.1,hc.2.1⟩)) (by simp only [ak];exact ⟨blk,_,rfl,hb,bp.drop _ _ _ hrow⟩)
    simp at hr
   simp at hr
  ·rename_i e kz z hk Up
   cases d<;>simp [cR] at hk
   subst hk
   rw [Up] at hi;simp only [ak,aS] at hi
   split at hr
   ·rename_i te b' sz n hte he
    obtain ⟨ei,ed,g1,g2,g3,g4,g5,g6⟩:=aP (hT.ti _ _ hte)
    cases hb:Nat.beq te.size sz with
    |false=>simp [hb] at hr
    |true=>
    have hb':=Nat.eq_of_beq_eq_true hb
    subst hb'
    simp only [hb,cond_true,R.when,osI,R.mk.injEq] at hr
    obtain ⟨rfl,rfl,rfl⟩:=hr
    rw [he] at hx;simp only [ak] at hx
    obtain ⟨Fj,hx⟩:=hx
    rcases hx with ⟨rfl,_⟩|⟨_,cap,_,_,_,hx,_⟩
    ·simp at hc;omega
    exact dF.pure cx (bQ _ (by rw [hx];simp [Instr.indexAt,hi,asIntOf,bc h2,hc.1,hc.2,bV g1,fL];rfl)) (by simp only [ak];exact ⟨by rw [g3];simp,Fj⟩)
   simp at hr
  simp at hr
 ·
  rename_i t x f
  have hx:=hρ x (by simp [Op.operands])
  cases ht:T t with
  |none=>simp [ht] at hr
  |some ti=>
  obtain ⟨ii,d,h1,h2,h3,h4,h5,h6⟩:=aP (hT.ti _ _ ht)
  simp only [ht] at hr
  split at hr
  ·rename_i o ft ho
   rw [h5] at ho
   cases d<;>simp [cR,yZ] at ho
   rename_i fs
   obtain ⟨fl,hfl,rfl,rfl⟩:=ho
   split at hr
   ·rename_i tf cs hft he
    split at hr
    ·rename_i v' hsp
     simp only [R.pure,osI,R.mk.injEq] at hr
     obtain ⟨_,rfl,rfl⟩:=hr
     rw [he] at hx;simp only [ak] at hx
     obtain ⟨vs,hx,hvs⟩:=hx
     obtain ⟨u,k1,k2⟩:=nB (P:=P) (w:=w) (hT.ti _ _ hft) hsp hvs
     exact dF.pure cx (bQ _ (by rw [hx];simp [Instr.field,bc h2,hfl,asAgg,k1])) k2
    simp at hr
   simp at hr
  simp at hr
 ·
  rename_i t x i
  have hx:=hρ x (by simp [Op.operands])
  have hi:=hρ i (by simp [Op.operands])
  cases ht:T t with
  |none=>simp [ht] at hr
  |some ti=>
  obtain ⟨ii,d,h1,h2,h3,h4,h5,h6⟩:=aP (hT.ti _ _ ht)
  simp only [ht,h5] at hr
  split at hr
  ·rename_i s kz z hk aG Up
   cases d<;>simp [cR] at hk
   simp only [R.when,osI,R.mk.injEq] at hr
   obtain ⟨rfl,rfl,rfl⟩:=hr
   rw [aG] at hx;simp only [ak,aS] at hx
   rw [Up] at hi;simp only [ak,aS] at hi
   have hlt:z.toNat<s.length:=by omega
   refine dF.pure cx (u:=.int .u8 (s.getD z.toNat 0).toNat) (bQ _ ?_) (by simp only [ak,aS])
   rw [hx,hi]
   have hg:(⟨s.toArray⟩:ByteArray)[z.toNat]?=some (s.getD z.toNat 0):=by
    have hsz:z.toNat<(⟨s.toArray⟩:ByteArray).size:=by show z.toNat<s.toArray.size;simpa using hlt
    have hge:(⟨s.toArray⟩:ByteArray)[z.toNat]?=some ((⟨s.toArray⟩:ByteArray)[z.toNat]'hsz):=by
     show (if h:_ then _ else _)=_
     rw [dif_pos hsz]
    rw [hge]
    simp only [List.getD_eq_getElem?_getD,List.getElem?_eq_getElem hlt,Option.getD_some]
    rfl
   simp [Instr.index,asIntOf,bc h2,hc.1,hg]
  ·rename_i n e cs kz z hk aG Up
   cases d<;>simp [cR] at hk
   obtain ⟨rfl,rfl⟩:=hk
   rw [aG] at hx;simp only [ak] at hx
   obtain ⟨vs,hx,hvs⟩:=hx
   rw [Up] at hi;simp only [ak,aS] at hi
   split at hr
   ·rename_i te hte
    obtain ⟨ei,ed,g1,g2,g3,g4,g5,g6⟩:=aP (hT.ti _ _ hte)
    split at hr
    ·rename_i v' hsp
     simp only [R.when,osI,R.mk.injEq] at hr
     obtain ⟨rfl,rfl,rfl⟩:=hr
     obtain ⟨u,k1,k2⟩:=nB (P:=P) (w:=w) (hT.ti _ _ hte) hsp hvs
     rw [g3] at k1
     exact dF.pure cx (bQ _ (by rw [hx,hi];simp [Instr.index,asIntOf,bc h2,hc.1,hc.2,bV g1,k1])) k2
    simp at hr
   simp at hr
  simp at hr
 ·
  rename_i x i
  have hx:=hρ x (by simp [Op.operands])
  split at hr
  ·rename_i vs he
   split at hr
   ·rename_i v' hv
    simp only [R.pure,osI,R.mk.injEq] at hr
    obtain ⟨_,rfl,rfl⟩:=hr
    rw [he] at hx;simp only [ak] at hx
    obtain ⟨us,hx,Rt⟩:=hx
    obtain ⟨u,k1,k2⟩:=an.get i _ Rt hv
    exact dF.pure cx (bQ _ (by rw [hx];simp [Instr.extract,k1])) k2
   simp at hr
  simp at hr
 ·
  rename_i op t x y t2
  have hx:=hρ x (by simp [Op.operands])
  have hy:=hρ y (by simp [Op.operands])
  split at hr
  ·rename_i xs ys Rf TC
   have key:∀r,By T 8 t (.agg xs) (.agg ys)=some r→(Op.equalIn 10000 t (ρ x) (ρ y)).run P w=.ok r w∧P.eqGuardType P.depth t=false:=by
    intro r he
    exact ⟨Dz (P:=P) (w:=w) hT 9992 8 t _ _ r _ _ he (by rw [←Rf];exact hx) (by rw [←TC];exact hy),vL hT 8 _ t _ _ r he hT.deep⟩
   rw [Rf] at hx;rw [TC] at hy
   simp only [ak] at hx hy
   obtain ⟨us,ex,_⟩:=hx
   obtain ⟨vs,ey,_⟩:=hy
   rw [ex,ey] at key
   split at hr
   ·cases he:By T 8 t (.agg xs) (.agg ys) with
    |none=>simp [he] at hr
    |some r=>
    simp only [he,Option.bind_some,R.pure,osI,R.mk.injEq] at hr
    obtain ⟨_,rfl,rfl⟩:=hr
    obtain ⟨k1,k2⟩:=key r he
    exact dF.pure cx (u:=.bool r) (bQ _ (by simp [ex,ey,run_eqGuard_agg _ _ _ _ _ _ _ k2,run_eql_struct,k1])) (by simp only [ak,aS])
   ·cases he:By T 8 t (.agg xs) (.agg ys) with
    |none=>simp [he] at hr
    |some r=>
    simp only [he,Option.bind_some,R.pure,osI,R.mk.injEq] at hr
    obtain ⟨_,rfl,rfl⟩:=hr
    obtain ⟨k1,k2⟩:=key r he
    exact dF.pure cx (u:=.bool (!r)) (bQ _ (by simp [ex,ey,run_eqGuard_agg _ _ _ _ _ _ _ k2,run_neq_struct,k1])) (by simp only [ak,aS])
   simp at hr
  ·rename_i p q Rf TC
   rw [Rf] at hx;rw [TC] at hy
   simp only [ak,aS] at hx hy
   have guard:∀a b:Operand,(eqGuard op t a b (.bool p) (.bool q)).run P w=.ok () w:=by
    intro a b;simp only [eqGuard];split<;>simp
   split at hr
   ·rename_i ti ht
    obtain ⟨ii,d,h1,h2,h3,h4,h5,h6⟩:=aP (hT.ti _ _ ht)
    split at hr
    ·rename_i hk
     rw [h5] at hk
     cases d<;>simp [cR] at hk
     simp only [R.pure,osI,R.mk.injEq] at hr
     obtain ⟨_,rfl,rfl⟩:=hr
     exact dF.pure cx (u:=.bool (p==q)) (bQ _ (by simp [hx,hy,guard,run_eql_bool _ _ _ _ h2])) (by simp only [ak,aS])
    simp at hr
   ·rename_i ti ht
    obtain ⟨ii,d,h1,h2,h3,h4,h5,h6⟩:=aP (hT.ti _ _ ht)
    split at hr
    ·rename_i hk
     rw [h5] at hk
     cases d<;>simp [cR] at hk
     simp only [R.pure,osI,R.mk.injEq] at hr
     obtain ⟨_,rfl,rfl⟩:=hr
     exact dF.pure cx (u:=.bool (!(p==q))) (bQ _ (by simp [hx,hy,guard,run_neq_bool _ _ _ _ h2])) (by simp only [ak,aS])
    simp at hr
   simp at hr
  ·rename_i t0 v0 Rf TC
   rw [Rf] at hx;rw [TC] at hy
   simp only [ak] at hx hy
   obtain ⟨u0,ex,_⟩:=hx
   have ey:ρ y=.nilIface:=hy
   have guard:(eqGuard op t x y (.iface t0 u0) .nilIface).run P w=.ok () w:=by
    simp only [eqGuard];split<;>simp
   split at hr
   ·rename_i ti ht
    obtain ⟨ii,d,h1,h2,h3,h4,h5,h6⟩:=aP (hT.ti _ _ ht)
    split at hr
    ·rename_i hk
     rw [h5] at hk
     cases d<;>simp [cR] at hk
     simp only [R.pure,osI,R.mk.injEq] at hr
     obtain ⟨_,rfl,rfl⟩:=hr
     exact dF.pure cx (u:=.bool false) (bQ _ (by rw [ex,ey];simp [guard,Fe h2])) (by simp only [ak,aS])
    simp at hr
   ·rename_i ti ht
    obtain ⟨ii,d,h1,h2,h3,h4,h5,h6⟩:=aP (hT.ti _ _ ht)
    split at hr
    ·rename_i hk
     rw [h5] at hk
     cases d<;>simp [cR] at hk
     simp only [R.pure,osI,R.mk.injEq] at hr
     obtain ⟨_,rfl,rfl⟩:=hr
     exact dF.pure cx (u:=.bool true) (bQ _ (by rw [ex,ey];simp [guard,Ff h2])) (by simp only [ak,aS])
    simp at hr
   simp at hr
  ·rename_i Rf TC
   rw [Rf] at hx;rw [TC] at hy
   have ex:ρ x=.nilIface:=hx
   have ey:ρ y=.nilIface:=hy
   split at hr
   ·rename_i cv
    have guard:(eqGuard op t x (.const cv) .nilIface .nilIface).run P w=.ok () w:=by
     simp only [eqGuard];split<;>simp
    split at hr
    ·rename_i ti ht
     obtain ⟨ii,d,h1,h2,h3,h4,h5,h6⟩:=aP (hT.ti _ _ ht)
     split at hr
     ·rename_i hk
      rw [h5] at hk
      cases d<;>simp [cR] at hk
      simp only [R.pure,osI,R.mk.injEq] at hr
      obtain ⟨_,rfl,rfl⟩:=hr
      exact dF.pure cx (u:=.bool true) (bQ _ (by rw [ex,ey];simp [guard,Fg h2])) (by simp only [ak,aS])
     simp at hr
    ·rename_i ti ht
     obtain ⟨ii,d,h1,h2,h3,h4,h5,h6⟩:=aP (hT.ti _ _ ht)
     split at hr
     ·rename_i hk
      rw [h5] at hk
      cases d<;>simp [cR] at hk
      simp only [R.pure,osI,R.mk.injEq] at hr
      obtain ⟨_,rfl,rfl⟩:=hr
      exact dF.pure cx (u:=.bool false) (bQ _ (by rw [ex,ey];simp [guard,Fh h2])) (by simp only [ak,aS])
     simp at hr
    simp at hr
   simp at hr
  split at hr
  ·rename_i c' d' hb
   simp only [R.when,osI,R.mk.injEq] at hr
   obtain ⟨rfl,rfl,rfl⟩:=hr
   obtain ⟨u,k1,k2,k3⟩:=Oa (P:=P) (w:=w) hb hc hx hy t
   exact dF.pure cx (bQ _ (x:=u) (by simp [k1,k3])) (by simpa [ak] using k2)
  simp at hr
 ·
  rename_i op t x
  have hx:=hρ x (by simp [Op.operands])
  cases hu:VR op (ev x) with
  |none=>simp [hu] at hr
  |some d'=>
  simp only [hu,Option.bind_some,R.pure,osI,R.mk.injEq] at hr
  obtain ⟨_,rfl,rfl⟩:=hr
  obtain ⟨u,k1,k2⟩:=Rw (P:=P) (w:=w) hu hx
  exact dF.pure cx (bQ _ k1) (by simpa [ak] using k2)
 ·
  rename_i s d' x
  obtain ⟨rfl,u,w',k1,k2,k3,k4⟩:=Ik (P:=P) hT cx (hρ x (by simp [Op.operands])) hr hc
  exact ⟨β,w',k2,k3,.inl ⟨u,bQ _ k1,k4⟩⟩
 ·
  rename_i t x lo hi mx
  split at hr
  ·rename_i l h m hl hh hm
   obtain ⟨u,k1,k2,k3,k4⟩:=Fa (P:=P) hT cx (hρ x (by simp [Op.operands])) (ol hl (fun y hy=>hρ y (by simp [Op.operands,hy]))) (ol hh (fun y hy=>hρ y (by simp [Op.operands,hy])))
    (ol hm (fun y hy=>hρ y (by simp [Op.operands,hy]))) hr hc
   exact ⟨β,w,k2,k3,.inl ⟨u,bQ _ k1,k4⟩⟩
  simp at hr
 ·
  rename_i f first jQ
  have Ok:=iA jQ.toList (ev:=ev) (ρ:=ρ) (fun y hy=>hρ y (by simp [Op.operands];exact .inr (by simpa using hy)))
  cases he:first.toList.isEmpty with
  |false=>
   simp only [he,cond_false,R.pure,osI,R.mk.injEq] at hr
   obtain ⟨_,rfl,rfl⟩:=hr
   have Uq:=iA first.toList (ev:=ev) (ρ:=ρ) (fun y hy=>hρ y (by simp [Op.operands];exact .inl (by simpa using hy)))
   refine dF.pure cx (u:=.func (.func f) ⟨first.toList.map ρ⟩ ⟨jQ.toList.map ρ⟩) (bQ _ ?_) ?_
   ·simp [Instr.makeFunc,fM jQ ρ,fM first ρ]
   simp only [ak]
   exact ⟨.tuple ⟨first.toList.map ρ⟩::jQ.toList.map ρ,rfl,by simp only [an,ak];exact ⟨_,_,rfl,⟨_,rfl,Uq⟩,Ok⟩⟩
  |true=>
  cases hp:jV (jQ.toList.map ev) with
  |false=>simp [he,hp] at hr
  |true=>
  simp only [he,hp,cond_true,R.pure,osI,R.mk.injEq] at hr
  obtain ⟨_,rfl,rfl⟩:=hr
  have hf:first=#[]:=by apply Array.ext';simpa using he
  subst hf
  refine dF.pure cx (u:=.func (.func f) #[] ⟨jQ.toList.map ρ⟩) (bQ _ ?_) ?_
  ·simp [Instr.makeFunc,fM jQ ρ]
  simp only [ak]
  exact ⟨_,(wY hp Ok f).symm,Ok⟩
 ·
  rename_i t x
  have hx:=hρ x (by simp [Op.operands])
  split at hr
  ·rename_i ti ht
   obtain ⟨ii,d,h1,h2,h3,h4,h5,h6⟩:=aP (hT.ti _ _ ht)
   cases hp:ti.kd.plain with
   |false=>simp [hp] at hr
   |true=>
   simp only [hp,cond_true,R.pure,osI,R.mk.injEq] at hr
   obtain ⟨_,rfl,rfl⟩:=hr
   refine dF.pure cx (u:=.iface t (ρ x)) (bQ _ ?_) (by simp only [ak];exact ⟨_,rfl,hx⟩)
   rw [h5] at hp
   cases d<;>simp [cR,Kd.plain] at hp<;>simp [Instr.makeInterface,bc h2]
  simp at hr
 ·
  rename_i x xt u ok
  have hx:=hρ x (by simp [Op.operands])
  split at hr
  ·rename_i tu ht
   obtain ⟨ii,d,h1,h2,h3,h4,h5,h6⟩:=aP (hT.ti _ _ ht)
   cases hp:(tu.kd.plain&&tu.zero.cells?.isSome) with
   |false=>simp [hp] at hr
   |true=>
   simp only [hp,cond_true] at hr
   simp only [Bool.and_eq_true] at hp
   obtain ⟨Ol,Od⟩:=hp
   obtain ⟨zc,Ul⟩:=Option.isSome_iff_exists.1 Od
   obtain ⟨z,z1,z2⟩:=Fi (P:=P) (β:=β) (bx:=bx) (w:=w) (ok:=bz β bx w X) (hT.ti _ _ ht) Ul
   rw [h5] at Ol
   split at hr
   ·rename_i t v he
    rw [he] at hx
    simp only [ak] at hx
    obtain ⟨w1,ex,hw⟩:=hx
    cases htu:Nat.beq t u with
    |true=>
     obtain rfl:=Nat.eq_of_beq_eq_true htu
     simp only [htu,cond_true,R.pure,osI,R.mk.injEq] at hr
     obtain ⟨_,rfl,rfl⟩:=hr
     cases ok with
     |true=>
      refine dF.pure cx (u:=.tuple #[w1,.bool true]) (bQ _ ?_) (by simp only [cond_true,ak,an,aS];exact ⟨_,rfl,_,_,rfl,hw,_,_,rfl,rfl,rfl⟩)
      rw [ex]
      cases d<;>simp [cR,Kd.plain] at Ol<;>simp [Instr.typeAssert,bc h2]
     |false=>
      refine dF.pure cx (u:=w1) (bQ _ ?_) (by simpa only [cond_false] using hw)
      rw [ex]
      cases d<;>simp [cR,Kd.plain] at Ol<;>simp [Instr.typeAssert,bc h2]
    |false=>
     have hne:t≠u:=Nat.ne_of_beq_eq_false htu
     cases ok with
     |false=>simp [htu] at hr
     |true=>
      simp only [htu,cond_true,cond_false,R.pure,osI,R.mk.injEq] at hr
      obtain ⟨_,rfl,rfl⟩:=hr
      refine dF.pure cx (u:=.tuple #[z,.bool false]) (bQ _ ?_) (by simp only [ak,an,aS];exact ⟨_,rfl,_,_,rfl,z2,_,_,rfl,rfl,rfl⟩)
      rw [ex]
      cases d<;>simp [cR,Kd.plain] at Ol<;>simp [Instr.typeAssert,bc h2,hne,z1]
   ·rename_i he
    rw [he] at hx
    have ex:ρ x=.nilIface:=hx
    cases ok with
    |false=>simp at hr
    |true=>
     simp only [cond_true,R.pure,osI,R.mk.injEq] at hr
     obtain ⟨_,rfl,rfl⟩:=hr
     refine dF.pure cx (u:=.tuple #[z,.bool false]) (bQ _ ?_) (by simp only [ak,an,aS];exact ⟨_,rfl,_,_,rfl,z2,_,_,rfl,rfl,rfl⟩)
     rw [ex]
     cases d<;>simp [cR,Kd.plain] at Ol<;>simp [Instr.typeAssert,bc h2,z1]
   simp at hr
  simp at hr
 ·
  rename_i x
  have hx:=hρ x (by simp [Op.operands])
  split at hr
  ·rename_i b' off he
   simp only [R.pure,osI,R.mk.injEq] at hr
   obtain ⟨_,rfl,rfl⟩:=hr
   rw [he] at hx
   have hx':=hx
   simp only [ak] at hx'
   exact dF.pure cx (u:=ρ x) (by simp [execOp,hx'.1]) hx
  ·rename_i b' s i j he
   simp only [R.pure,osI,R.mk.injEq] at hr
   obtain ⟨_,rfl,rfl⟩:=hr
   rw [he] at hx
   have hx':=hx
   simp only [ak] at hx'
   exact dF.pure cx (u:=ρ x) (by simp [execOp,hx'.1]) hx
  ·rename_i ds he
   simp only [R.pure,osI,R.mk.injEq] at hr
   obtain ⟨_,rfl,rfl⟩:=hr
   rw [he] at hx
   have hx':=hx
   simp only [ak] at hx'
   obtain ⟨blk,off,e,_⟩:=hx'
   exact dF.pure cx (u:=ρ x) (by simp [execOp,e]) hx
  ·rename_i f cs he
   simp only [R.pure,osI,R.mk.injEq] at hr
   obtain ⟨_,rfl,rfl⟩:=hr
   rw [he] at hx
   have hx':=hx
   simp only [ak] at hx'
   obtain ⟨vs,e,_⟩:=hx'
   obtain ⟨a1,a2,e2⟩:=E2 f vs
   rw [e2] at e
   exact dF.pure cx (u:=ρ x) (by simp [execOp,e]) hx
  simp at hr
 ·
  rename_i b' args ats
  obtain ⟨r,w',β',k1,k2,k3,k4⟩:=BH (P:=P) hT cx (iA args.toList (fun y hy=>hρ y (by simp [Op.operands,Call.operands];exact by simpa using hy))) hr hc type
   (args.map fun|.const _=>true|_=>false)
  refine ⟨β',w',k2,k3,.inl ⟨r,?_,k4⟩⟩
  simp only [execOp,resolve,Sem.run_bind,Sem.run_pure,Result.andThen_ok,invoke,fM args ρ]
  exact k1
 simp at hr
end
end Dem
end
