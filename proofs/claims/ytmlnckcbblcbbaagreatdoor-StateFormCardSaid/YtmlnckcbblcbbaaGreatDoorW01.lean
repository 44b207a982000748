/- Parts of a proof, joined. -/
import Derived.Test.YtmlnckcbblcbbaaGreatDoorW00
import Derived.ChangeKeysEq
import Derived.Laws.StructEq
set_option linter.all false
set_option maxRecDepth 100000
set_option maxHeartbeats 4000000
section
open Go
namespace Dem
section
variable {P:Program}{T:Nat->Option TI}{G:Nat->Option (List D)}{β:Nat->Nat}{bx:List av}{w:World}{X:Nat->Prop}
theorem xj(vs:List Value):∀(k:Nat) (cs:Array Value) (off:Nat),(vs.zipIdx k).foldl (λcs (p:Value×Nat)=>cs.setIfInBounds (off+p.2) p.1) cs=⟨bu cs.toList (off+k) vs⟩:=by
 induction vs with
 |nil=>intro k cs off;cases h:cs.toList<;>simp[bu]<;>(have:cs=⟨cs.toList⟩:=rfl;rw[this,h])
 |cons v vs ih=>intro k cs off;simp only[List.zipIdx_cons,List.foldl_cons];rw[ih,qQ];simp[show off+(k+1)=off+k+1 by omega]
def c7(β:Nat->Nat)(bx:List av)(w:World)(ok:Nat->Prop):List (Nat×AV)->List (Nat×Value)->Prop
 |[],vs=>vs=[]|(i,x)::r,vs=>∃u us,vs=(i,u)::us/\ai β bx w ok x u/\c7 β bx w ok r us
theorem Ce{ok:Nat->Prop}{sizes:Nat->Option (Nat×Nat)}:∀(parts:List (Nat×AV)) (vs:List (Nat×Value)) (cs:List AV) (cv:List Value) (out:List AV),c7 β bx w ok parts vs->
 an β bx w ok cs cv->Es sizes cs parts=some out->∃ov,Instr.fill sizes ⟨cv⟩ vs=some ⟨ov⟩/\an β bx w ok out ov
 |[],vs,cs,cv,out,hp,hc,ho=>by simp only[c7]at hp;subst hp;simp only[Es,osI]at ho;subst ho;exact⟨cv,by simp[Instr.fill],hc⟩|(i,x)::r,vs,cs,cv,out,hp,hc,ho=>by
  simp only[c7]at hp;obtain⟨u,us,rfl,h1,h2⟩:=hp;simp only[Es]at ho;split at ho
  .rename_i off size xs hs hx;obtain⟨ws,g1,g2,g3⟩:=pQ hx h1;have hl:=an.length g2
   have U4:=an.length hc;cases hb:(Nat.beq xs.length size&&Nat.ble (off+xs.length) cs.length)with
   |false=>simp[hb]at ho|true=>
    simp only[hb,cond_true]at ho;simp only[vae]at hb;have b1:=vaf hb.1
    have b2:=Nat.le_of_ble_eq_true hb.2;obtain⟨ov,k1,k2⟩:=Ce r us (fm cs off xs) (bu cv off ws) out h2 (an.fm off hc g2) ho;refine⟨ov,?_,k2⟩;simp only[Instr.fill,hs,g1];have e1:¬((ws.toArray.size≠size||decide (off+ws.toArray.size>(⟨cv⟩:Array Value).size))=true):=by simp;omega
    have e2:=xj ws 0 ⟨cv⟩ off;simp only[Nat.add_zero]at e2;simp only[List.size_toArray]at e1 ⊢;rw[if_neg (by simpa using e1)];have e3:(Array.foldl (λcs (x:Value×Nat)=>match x with|(c,j)=>cs.setIfInBounds (off+j) c) (⟨cv⟩:Array Value) ws.toArray.zipIdx)=⟨bu cv off ws⟩:=by rw[<-e2];simp
    rw[e3];exact k1
  simp at ho
theorem xk{t:Nat}{ti:TI}(ht:sy P t=some ti){z:List AV}(hz:ti.zero.cells?=some z){ok:Nat->Prop}:
 ∃v vs,(zeroValue t).run P w=.ok v w/\v.cells=⟨vs⟩/\an β bx w ok z vs/\(∀u∈vs,Lx u):=by
 obtain⟨i,d,h1,h2,h3,h4,h5,h6⟩:=aL ht;cases BC:i.zero with
 |none=>rw[h6,BC]at hz;simp[AV.cells?]at hz|some v=>
  rw[h6,BC]at hz
  obtain⟨vs,g1,g2,g3⟩:=pQ (ok:=ok) (β:=β) (bx:=bx) (w:=w) hz (xg v)
  exact⟨v,vs,iD h1 BC,g1,g2,g3⟩
theorem Cf(hT:jj P T):∀(fs:List Field),(∀f∈fs,∃tf,T f.type=some tf)->
 (fs.mapM λf=>(do pure (f.offset,<-Go.sizeOf f.type):Sem (Nat×Nat))).run P w=.ok (fs.map λf=>(f.offset,((T f.type).map (·.size)).getD 0)) w
 |[],_=>by simp|f::fs,h=>by
  obtain⟨tf,U9⟩:=h f (by simp);obtain⟨i,d,h1,h2,h3,h4,h5,h6⟩:=aL (hT.ti _ _ U9);have ih:=Cf hT fs (λg hg=>h g (by simp[hg]))
  simp only[List.mapM_cons,Sem.run_bind,cg h1,Result.andThen_ok,Sem.run_pure,List.map_cons];rw[ih];simp[U9,h3]
theorem Ik(hT:jj P T){t:Nat}{parts:List (Nat×AV)}{vs:Array (Nat×Value)}(hp:c7 β bx w (bq β bx w X) parts vs.toList)
 {c:Prop} {v:AV} {b:Option (List av)} (hr:F3 T t parts=some ⟨c,v,b⟩):
 b=none/\∃u,(Instr.build t vs).run P w=.ok u w/\ai β bx w (bq β bx w X) v u:=by
 unfold F3 at hr;cases ht:T t with
 |none=>simp[ht]at hr|some ti=>
 have ht':=hT.ti t ti ht
 obtain⟨i,d,h1,h2,h3,h4,h5,h6⟩:=aL ht'
 simp only[ht]at hr
 cases hz:ti.zero.cells? with
 |none=>simp[hz]at hr|some z=>
 obtain⟨zv,zs,z1,z2,z3,_⟩:=xk (β:=β) (bx:=bx) (w:=w) (ok:=bq β bx w X) ht' hz
 simp only[hz]at hr
 cases hk:ti.kd with
 |struct fs=>
  rw[hk]at hr h5
  cases d<;>simp[cX]at h5
  rename_i fields
  subst h5
  simp only at hr
  split at hr
  .rename_i out ho;simp only[R.pure,osI,R.mk.injEq]at hr;obtain⟨_,rfl,rfl⟩:=hr;have hall:∀f∈fields.toList,∃tf,T f.type=some tf:=by intro f hf;exact hT.fields t ti _ ht hk (f.offset,f.type) (List.mem_map.2 ⟨f,hf,rfl⟩)
   have hm:=Cf (w:=w) hT fields.toList hall;have hm':(fields.mapM λf=>(do pure (f.offset,<-Go.sizeOf f.type):Sem (Nat×Nat))).run P w=.ok ⟨fields.toList.map λf=>(f.offset,((T f.type).map (·.size)).getD 0)⟩ w:=by rw[Array.mapM_eq_mapM_toList,Sem.run_map,hm];rfl
   obtain⟨ov,k1,k2⟩:=Ce parts vs.toList z zs out hp z3 ho;refine⟨rfl,.agg ⟨ov⟩,?_,by simp only[ai];exact⟨ov,rfl,k2⟩⟩;have hfun:(λ(i:Nat)=>((⟨fields.toList.map λf=>(f.offset,((T f.type).map (·.size)).getD 0)⟩:Array (Nat×Nat)))[i]?)=
    (λ(i:Nat)=>match((fields.toList.map λf=>(f.offset,f.type):List (Nat×Nat)))[i]? with|some (o,ft)=>(T ft).map λ(x:TI)=>(o,x.size)|none=>none):=by
    funext i;simp only[List.getElem?_toArray,vaA];cases hf:fields.toList[i]? with
    |none=>simp|some f=>
     obtain⟨tf,U9⟩:=hall f (vag hf)
     simp[U9]
   have N3:Instr.fill (λ(i:Nat)=>((⟨fields.toList.map λf=>(f.offset,((T f.type).map (·.size)).getD 0)⟩:Array (Nat×Nat)))[i]?) ⟨zs⟩ vs.toList=some ⟨ov⟩:=by rw[hfun];exact k1
   simp only[Instr.build,Sem.run_bind,z1,Result.andThen_ok,aX h2,hm',z2];rw[N3];simp
  simp at hr
 |array n e=>
  rw[hk]at hr h5
  cases d<;>simp[cX]at h5
  obtain⟨rfl,rfl⟩:=h5
  cases hte:T e with
  |none=>simp[hte]at hr|some te=>
   obtain⟨ei,ed,g1,g2,g3,g4,g5,g6⟩:=aL (hT.ti _ _ hte)
   simp only[hte]at hr
   split at hr
   .rename_i out ho;simp only[R.pure,osI,R.mk.injEq]at hr;obtain⟨_,rfl,rfl⟩:=hr;obtain⟨ov,k1,k2⟩:=Ce parts vs.toList z zs out hp z3 ho;refine⟨rfl,.agg ⟨ov⟩,?_,by simp only[ai];exact⟨ov,rfl,k2⟩⟩;simp[Instr.build,z1,z2,aX h2,cg g1,<-g3,k1]
   simp at hr
 |_=>rw[hk]at hr;simp at hr
theorem Cg{size:Nat}:∀(parts:List (Nat×AV)) (bx:List av) (vs:List (Nat×Value)) (rs:List (List D)),cB G β bx w X->c7 β bx w (bq β bx w X) parts vs->rowsOf bx size parts=some rs->
 Ext β bx w β (ek bx parts) w/\cB G β (ek bx parts) w X/\rs.length=parts.length/\(∀r∈rs,r.length=size)/\
 ∃us:List Value,an β (ek bx parts) w (bq β (ek bx parts) w X) (rs.flatten.map .d) us/\(∀u∈us,Lx u)/\
  (vs.flatMap λp=>p.2.cells.toList)=us/\(∀p∈vs,p.2.cells.size=size)
 |[],bx,vs,rs,cx,hp,hr=>by simp only[c7]at hp;subst hp;simp only[rowsOf,osI]at hr;subst hr;exact⟨Ext.refl _ _ _,cx,rfl,by simp,[],by simp[an],by simp,by simp,by simp⟩|(i,x)::r,bx,vs,rs,cx,hp,hr=>by
  simp only[c7]at hp;obtain⟨u,us,rfl,h1,h2⟩:=hp;simp only[rowsOf]at hr;split at hr
  .rename_i xs hx;split at hr
   .rename_i ds rs' hds Bn;cases hb:Nat.beq ds.length size with
    |false=>simp[hb]at hr|true=>
     have hb':=vaf hb;simp only[hb,cond_true,osI]at hr;subst hr;obtain⟨ws,g1,g2,g3⟩:=pQ hx h1;obtain⟨e1,c1,r1⟩:=zn xs bx ds ws cx hds g2;have N4:c7 β (eW bx xs) w (bq β (eW bx xs) w X) r us:=by
      clear Bn;induction r generalizing us with
      |nil=>simpa[c7]using h2|cons p r ih=>obtain⟨j,y⟩:=p;simp only[c7]at h2 ⊢;obtain⟨v,vs',rfl,k1,k2⟩:=h2;exact⟨v,vs',rfl,ai.mono (e1.dL X) _ _ k1,ih vs' k2⟩
     have ac2:rowsOf (eW bx xs) size r=some rs':=by
      clear N4 h2;have after:∀(zs:List AV) (bx:List av) (r:List (Nat×AV)) (rs:List (List D)),rowsOf bx size r=some rs->rowsOf (eW bx zs) size r=some rs:=by
       intro zs;induction zs with
       |nil=>intro bx r rs h;exact h|cons z zs ih=>
        intro bx r rs h;refine ih _ _ _ ?_;clear ih;induction r generalizing rs with
        |nil=>exact h|cons p r ih=>
         obtain⟨j,y⟩:=p;simp only[rowsOf]at h ⊢;split at h
         .rename_i ys hy;split at h
          .rename_i ds2 rs2 hd2 sA;rw[vU hd2,ih rs2 sA];exact h
          simp at h
         simp at h
      exact after xs bx r rs' Bn
     obtain⟨e2,c2,l2,n2,RG,q1,q2,q3,q4⟩:=Cg r (eW bx xs) us rs' c1 N4 ac2;have sO:ek bx ((i,x)::r)=ek (eW bx xs) r:=by simp[ek,hx]
     rw[sO];refine⟨e1.trans e2,c2,by simp[l2],?_,ws++RG,?_,?_,?_,?_⟩
     .intro y hy;rcases List.mem_cons.1 hy with rfl|hy
      .exact hb'
      exact n2 y hy
     .simp only[List.flatten_cons,List.map_append];exact an.append (an.mono (e2.dL X) _ _ r1) q1
     .intro y hy;rcases List.mem_append.1 hy with hy|hy
      .exact g3 y hy
      exact q2 y hy
     .simp[g1,q3]
     intro p hp;rcases List.mem_cons.1 hp with rfl|hp
     .have:=an.length r1;simp[g1]at this ⊢;omega
     exact q4 p hp
   simp at hr
  simp at hr
theorem RH:∀(parts:List (Nat×AV)) (bx:List av),HW parts=true->ek bx parts=bx
 |[],bx,_=>rfl|(i,x)::r,bx,h=>by
  simp only[HW]at h;split at h
  .rename_i xs hx;simp only[vae]at h;have hs:∀(ys:List AV) (bx:List av),cN ys=true->eW bx ys=bx:=by
    intro ys;induction ys with
    |nil=>intro bx _;rfl|cons y ys ih=>
     intro bx hy;have h1:cN [y]=true/\cN ys=true:=by cases y<;>simp_all[cN]
     simp only[eW,RF h1.1];exact ih bx h1.2
   simp only[ek,hx,hs xs bx h.1];exact RH r bx h.2
  simp at h
theorem nU:∀(cs:List Value) (k:Nat) (us:List Value),k+us.length<=cs.length->bu cs k us=cs.take k++us++cs.drop (k+us.length)
 |cs,k,[],_=>by cases cs<;>simp[bu]
 |[],k,u::us,h=>by simp at h|c::cs,0,u::us,h=>by simp only[List.length_cons]at h;simp only[bu,nU cs 0 us (by omega)];simp|c::cs,k+1,u::us,h=>by simp only[List.length_cons]at h;simp only[bu,nU cs k (u::us) (by simp;omega)];simp[show k+1+(us.length+1)=k+(us.length+1)+1 by omega]
theorem Ch{size:Nat}:∀(vs:List (Nat×Value)) (i:Nat) (cs:List Value),(∀k p,vs[k]?=some p->p.1=i+k)->(∀p∈vs,p.2.cells.size=size)->(i+vs.length)*size<=cs.length->
 Instr.fill (λi=>some (i*size,size)) ⟨cs⟩ vs=some ⟨cs.take (i*size)++(vs.flatMap λp=>p.2.cells.toList)++cs.drop ((i+vs.length)*size)⟩
 |[],i,cs,_,_,_=>by simp[Instr.fill]|(j,v)::r,i,cs,ho,hs,hl=>by
  have hj:j=i:=by simpa using ho 0 (j,v) rfl
  subst hj;have hv:v.cells.size=size:=hs (j,v) (by simp)
  simp only[List.length_cons]at hl;have hle:(j+1)*size<=cs.length:=Nat.le_trans (Nat.mul_le_mul_right _ (by omega)) hl
  rw[Nat.add_mul,Nat.one_mul]at hle;simp only[Instr.fill,hv];have e1:¬((size≠size||decide (j*size+size>(⟨cs⟩:Array Value).size))=true):=by simp;omega
  rw[if_neg (by simpa using e1)];have e2:=xj v.cells.toList 0 ⟨cs⟩ (j*size)
  simp only[Nat.add_zero]at e2;have e3:(Array.foldl (λcs (x:Value×Nat)=>match x with|(c,k)=>cs.setIfInBounds (j*size+k) c) (⟨cs⟩:Array Value) v.cells.zipIdx)=⟨bu cs (j*size) v.cells.toList⟩:=by rw[<-e2];rw[<-Array.foldl_toList,Array.toList_zipIdx]
  rw[e3];have hsp:bu cs (j*size) v.cells.toList=cs.take (j*size)++v.cells.toList++cs.drop ((j+1)*size):=by rw[nU _ _ _ (by simp[hv];omega)];simp[hv,Nat.add_mul]
  rw[hsp,Ch r (j+1) _ (λk p hk=>by have:=ho (k+1) p (by simpa using hk);omega) (λp hp=>hs p (by simp[hp])) (by simp[hv,Nat.add_mul]at*;omega)];congr 2;have hlen:(cs.take (j*size)++v.cells.toList).length=(j+1)*size:=by simp[hv,Nat.add_mul];omega
  rw[List.take_left' hlen];rw[show(j+1+r.length)*size=(cs.take (j*size)++v.cells.toList).length+r.length*size by rw[hlen,Nat.add_mul]];rw[List.drop_append];simp only[vah (Nat.le_add_right _ _),List.nil_append,Nat.add_sub_cancel_left,List.drop_drop,List.flatMap_cons,vas,List.length_cons];rw[show(j+1)*size+r.length*size=(j+(r.length+1))*size by simp only[Nat.add_mul];omega]
theorem zo(hT:jj P T)(cx:cB G β bx w X){t n:Nat}{parts:List (Nat×AV)}{vs:Array (Nat×Value)}(hp:c7 β bx w (bq β bx w X) parts vs.toList)
 {c:Prop} {v:AV} {b:Option (List av)} (hr:gF T t n parts bx=some ⟨c,v,b⟩):
 ∃u w',(Instr.buildSlice t n vs).run P w=.ok u w'/\Ext β bx w β (dU bx b) w'/\cB G β (dU bx b) w' X/\ai β (dU bx b) w' (bq β (dU bx b) w' X) v u:=by
 unfold gF at hr;cases ht:T t with
 |none=>simp[ht]at hr|some ti=>
 obtain⟨i,d,h1,h2,h3,h4,h5,h6⟩:=aL (hT.ti t ti ht)
 simp only[ht]at hr
 cases hk:ti.kd with
 |slice e=>
  rw[hk]at hr h5
  cases d<;>simp[cX]at h5
  subst h5
  cases hte:T e with
  |none=>simp[hte]at hr|some te=>
  obtain⟨ei,ed,g1,g2,g3,g4,g5,g6⟩:=aL (hT.ti _ _ hte)
  simp only[hte]at hr
  cases hb:(Nat.beq parts.length n&&oF 0 parts&&Nat.ble (n*te.size) 16777216&&te.zero.cells?.isSome)with
  |false=>simp[hb]at hr|true=>
  simp only[hb,cond_true]at hr
  simp only[vae]at hb
  obtain⟨⟨⟨b1,b2⟩,b3⟩,b4⟩:=hb
  have b1:=vaf b1
  have b3:=Nat.le_of_ble_eq_true b3
  split at hr
  .rename_i rs Bn;simp only[osI,R.mk.injEq]at hr;obtain⟨_,rfl,rfl⟩:=hr;obtain⟨e1,c1,l1,n1,us,q1,q2,q3,q4⟩:=Cg parts bx vs.toList rs cx hp Bn;have N2:dU bx (bif HW parts then none else some (ek bx parts))=ek bx parts:=by
    cases ho:HW parts with
    |true=>simp[RH _ _ ho,dU]|false=>rfl
   rw[N2];have hvl:vs.toList.length=parts.length:=by
    clear Bn b2 q3 q4;have:∀(ps:List (Nat×AV)) (us:List (Nat×Value)),c7 β bx w (bq β bx w X) ps us->us.length=ps.length:=by
     intro ps;induction ps with
     |nil=>intro us h;simp only[c7]at h;simp[h]|cons p ps ih=>intro us h;obtain⟨j,y⟩:=p;simp only[c7]at h;obtain⟨_,Ry,rfl,_,k⟩:=h;simp[ih Ry k]
    exact this _ _ hp
   have ac4:∀k p,vs.toList[k]?=some p->p.1=0+k:=by
    have:∀(ps:List (Nat×AV)) (us:List (Nat×Value)) (i:Nat),c7 β bx w (bq β bx w X) ps us->oF i ps=true->∀k p,us[k]?=some p->p.1=i+k:=by
     intro ps;induction ps with
     |nil=>intro us i h _ k p hk;simp only[c7]at h;subst h;simp at hk|cons q ps ih=>
      intro us i h ho k p hk;obtain⟨j,y⟩:=q;simp only[c7]at h;obtain⟨_,Ry,rfl,_,g⟩:=h;simp only[oF,vae]at ho;cases k with
      |zero=>simp at hk;subst hk;simpa using(vaf ho.1).symm|succ k=>have:=ih Ry (i+1) g ho.2 k p (by simpa using hk);omega
    exact this _ _ 0 hp b2
   have hsz:us.length=n*te.size:=by
    rw[<-q3];have:∀(ps:List (Nat×Value)),(∀p∈ps,p.2.cells.size=te.size)->(ps.flatMap λp=>p.2.cells.toList).length=ps.length*te.size:=by
     intro ps;induction ps with
     |nil=>intro _;simp|cons p ps ih=>intro h;simp only[List.flatMap_cons,vaa,ih (λq hq=>h q (by simp[hq])),List.length_cons,Nat.add_mul];have:=h p (by simp);simp;omega
    rw[this _ q4,hvl,b1]
   have aar:∀(z:Array Value),((Array.range (n*te.size)).map (z[·%z.size]!)).toList.length=n*te.size:=by intro z;simp
   have N3:∀(z:Array Value),Instr.fill (λi=>some (i*te.size,te.size)) ((Array.range (n*te.size)).map (z[·%z.size]!)) vs.toList=some ⟨us⟩:=by
    intro z;have:=Ch (size:=te.size) vs.toList 0 ((Array.range (n*te.size)).map (z[·%z.size]!)).toList ac4 q4 (by rw[aar,hvl,b1];simp)
    rw[q3]at this;have e:(⟨((Array.range (n*te.size)).map (z[·%z.size]!)).toList⟩:Array Value)=(Array.range (n*te.size)).map (z[·%z.size]!):=rfl
    rw[e]at this;rw[this];congr 2;rw[Nat.zero_mul,List.take_zero,List.nil_append,vah,List.append_nil];rw[aar,hvl,b1];simp
   obtain⟨zc,Ye⟩:=Option.isSome_iff_exists.1 b4;obtain⟨zv,_,z1,_⟩:=xk (β:=β) (bx:=bx) (w:=w) (ok:=bq β bx w X) (hT.ti _ _ hte) Ye;have hlt:¬n*te.size>2^24:=by omega
   refine⟨.slice (some ⟨w.heap.size,0,none⟩) n n,{w with heap:=w.heap.push (.cells ⟨us⟩ e)},?_,e1.trans (wX _),H9 c1 _,?_⟩
   .by_cases h0:n*te.size=0
    .have:=N3 #[];simp only[Instr.buildSlice,Sem.run_bind,aX h2,Result.andThen_ok,cg g1,<-g3,if_neg hlt,Sem.run_pure,if_pos h0,this];simp[newRow,newObj,Sem.run]
    have:=N3 zv.cells;simp only[Instr.buildSlice,Sem.run_bind,aX h2,Result.andThen_ok,cg g1,<-g3,if_neg hlt,Sem.run_pure,if_neg h0,z1,this];simp[newRow,newObj,Sem.run]
   simp only[ai];refine⟨_,by rw[l1,b1],?_⟩;by_cases ac5:rs=[]
   .exact .inl ac5
   refine .inr ⟨w.heap.size,0,te.size,rfl,⟨by simp,λhX=>by have:=cx.xs _ hX;omega,?_⟩,?_⟩
   .intro i b h1 h2 h3;have:=(c1.box i b h1).fF h2
    omega
   refine oJ (β:=β) (bx:=ek bx parts) rs 0 us n1 ?_ (an.mono ((wX (.cells ⟨us⟩ e)).dL X) _ _ q1);intro k u hk;simp only[World.cell?];simpa using hk
  simp at hr
 |_=>rw[hk]at hr;simp at hr
end
end Dem
end
section
open Go
namespace Dem
section
variable {P:Program}{T:Nat->Option TI}{G:Nat->Option (List D)}{β:Nat->Nat}{bx:List av}{w:World}{X:Nat->Prop}
theorem EC(f:Value->ByteArray->Sem (ForInStep ByteArray))(hf:∀n s,f (.int .u8 n) s=pure (.yield (s.push (UInt8.ofNat n.toNat)))):
 ∀(vs:List Value) (es:List (List D)) (acc:ByteArray) (w:World) (ok:Nat->Prop),(∀r∈es,nF r)->an β bx w ok (es.flatten.map .d) vs->
 (forIn vs acc f).run P w=.ok ⟨(acc.data.toList++es.map jY).toArray⟩ w
 |vs,[],acc,w,ok,_,h=>by simp only[List.flatten_nil,List.map_nil,an]at h;subst h;simp|vs,r::rs,acc,w,ok,hb,h=>by
  obtain⟨n,hr⟩:=hb r (by simp);subst hr;simp only[List.flatten_cons,List.map_cons,List.singleton_append,an,ai,aP]at h;obtain⟨u,us,rfl,rfl,h2⟩:=h;have ih:=EC f hf us rs (acc.push (UInt8.ofNat n.toNat)) w ok (λr hr=>hb r (by simp[hr])) h2
  simp only[List.forIn_cons,Sem.run_bind,hf,Sem.run_pure,Result.andThen_ok];rw[ih];simp[jY,ByteArray.push]
theorem xo{ok:Nat->Prop}{base:Option Addr}{cap:Nat}{es:List (List D)}(hb:∀r∈es,nF r)
 (h:es=[]∨∃blk off sz,base=some ⟨blk,off,none⟩/\ok blk/\ax w ok blk sz es off):
 (Conv.bytesToString (.slice base es.length cap)).run P w=.ok (.string ⟨(es.map jY).toArray⟩) w:=by
 cases base with
 |none=>
  rcases h with rfl|⟨_,_,_,h,_⟩
  .simp[Conv.bytesToString];rfl
  simp at h
 |some a=>
  rcases h with rfl|⟨blk,off,sz,ha,_,hr⟩
  .simp[Conv.bytesToString,loadCells,loadCellsFrom];rfl
  cases es with
  |nil=>simp[Conv.bytesToString,loadCells,loadCellsFrom];rfl|cons r rs=>
   have hsz:sz=1:=by obtain⟨n,hn⟩:=hb r (by simp);simp only[ax]at hr;rw[<-hr.1,hn];rfl
   subst hsz
   obtain⟨vs,g1,g2,g3⟩:=lu (β:=λ_=>0) (bx:=[]) _ _ hr
   simp at ha;subst ha
   have:=run_loadCells (P:=P) vs g2
   rw[g1,Nat.mul_one]at this
   simp only[Conv.bytesToString,Sem.run_bind,this,Result.andThen_ok]
   simp only[List.forIn_toArray]
   rw[EC _ (λ_ _=>rfl) vs (r::rs) ByteArray.empty w ok hb g3]
   simp
theorem LB(hT:jj P T)(cx:cB G β bx w X){src dst:Nat}{x:AV}{ux:Value}(hx:ai β bx w (bq β bx w X) x ux)
 {c:Prop} {v:AV} {b:Option (List av)} (hr:Ak T src dst x bx=some ⟨c,v,b⟩) (hc:c):
 b=none/\∃u w',(Go.convert src dst ux).run P w=.ok u w'/\Ext β bx w β bx w'/\cB G β bx w' X/\ai β bx w' (bq β bx w' X) v u:=by
 unfold Ak at hr;cases hs:T src with
 |none=>simp[hs]at hr|some ts=>
 cases hd:T dst with
 |none=>simp[hs,hd]at hr|some td=>
 obtain⟨si,sd,s1,s2,s3,s4,s5,s6⟩:=aL (hT.ti _ _ hs)
 obtain⟨di,dd,d1,d2,d3,d4,d5,d6⟩:=aL (hT.ti _ _ hd)
 simp only[hs,hd]at hr
 rw[s5,d5]at hr
 split at hr
 .rename_i k n hk;simp only[R.pure,osI,R.mk.injEq]at hr;obtain⟨_,rfl,rfl⟩:=hr;simp only[ai,aP]at hx;subst hx;cases dd<;>simp[cX]at hk;subst hk;exact⟨rfl,_,w,by simp[Go.convert,aX s2,aX d2,Conv.intToInt];rfl,Ext.refl _ _ _,cx,by simp[ai,aP]⟩
 .rename_i e iw hk2;cases sd<;>simp[cX]at iw;subst iw;cases dd<;>simp[cX]at hk2;split at hr
  .rename_i te es hte aD;obtain⟨ei,ed,e1,e2,e3,e4,e5,e6⟩:=aL (hT.ti _ _ hte);rw[e5]at hr;split at hr
   .rename_i RI;simp only[R.when,osI,R.mk.injEq]at hr;obtain⟨rfl,rfl,rfl⟩:=hr;cases ed<;>simp[cX]at RI;subst RI;have main:∃base cap,ux=.slice base es.length cap/\∃ok,(es=[]∨∃blk off sz,base=some ⟨blk,off,none⟩/\ok blk/\ax w ok blk sz es off):=by obtain⟨_,_,base,cap,h1,_,h3⟩:=lz cx aD hx;exact⟨base,cap,h1,_,h3⟩
    obtain⟨base,cap,rfl,ok,h3⟩:=main;have hrun:=xo (P:=P) (cap:=cap) hc h3
    refine⟨rfl,.string ⟨(es.map jY).toArray⟩,w,?_,Ext.refl _ _ _,cx,by simp only[ai,aP]⟩;simp[Go.convert,aX s2,aX d2,aX e2,hrun]
   simp at hr
  simp at hr
 .rename_i s iw hk2;simp only[R.pure,osI,R.mk.injEq]at hr;obtain⟨_,rfl,rfl⟩:=hr;simp only[ai,aP]at hx;subst hx;cases sd<;>simp[cX]at iw;cases dd<;>simp[cX]at hk2;exact⟨rfl,_,w,by simp[Go.convert,aX s2,aX d2];rfl,Ext.refl _ _ _,cx,by simp[ai,aP]⟩
 simp at hr
theorem dA{es:Nat}{base:Option Addr}{cap:Nat}:(Builtin.lenOf (.slice base es cap)).run P w=.ok es w:=by simp[Builtin.lenOf]
def gV(P:Program)(w:World)(size n:Nat)(x:Value)(us:List Value):Prop:=
 (Builtin.lenOf x).run P w=.ok n w/\us.length=n*size/\∀w':World,(∀k:Nat,w.heap[k]?≠none->w'.heap[k]?=w.heap[k]?)->(Builtin.lenOf x).run P w'=.ok n w'/\(Builtin.firstCells size n x).run P w'=.ok ⟨us⟩ w'
theorem eD{ok:Nat->Prop}{base:Option Addr}{cap size:Nat}{es:List (List D)}(hs:∀r∈es,r.length=size)
 (h:es=[]∨∃blk off sz,base=some ⟨blk,off,none⟩/\ax w ok blk sz es off):
 ∃us,gV P w size es.length (.slice base es.length cap) us/\an β bx w ok (es.flatten.map .d) us:=by
 by_cases hne:es=[]
 .subst hne;refine⟨[],⟨dA,by simp,λw' _=>⟨dA,?_⟩⟩,by simp[an]⟩;cases base<;>simp[Builtin.firstCells,loadCells,loadCellsFrom]
 rcases h with h|⟨blk,off,sz,rfl,hr⟩
 .exact absurd h hne
 have hsz:sz=size:=by
  cases es with
  |nil=>exact absurd rfl hne|cons r rs=>simp only[ax]at hr;rw[<-hr.1];exact hs r (by simp)
 subst hsz;obtain⟨vs,g1,g2,g3⟩:=lu (β:=β) (bx:=bx) _ _ hr;refine⟨vs,⟨dA,g1,λw' hw=>⟨dA,?_⟩⟩,g3⟩;have:=run_loadCells (P:=P) (w:=w') (blk:=blk) (off:=off) vs (λj v hj=>by
  have h1:=g2 j v hj;have h2:w.heap[blk]?≠none:=by intro h0;simp[World.cell?,h0]at h1
  rw[oZ (hw blk h2)];exact h1)
 rw[g1]at this;simpa[Builtin.firstCells]using this
theorem vC(s:List UInt8):∃us,gV P w 1 s.length (.string ⟨s.toArray⟩) us/\an β bx w (bq β bx w X) ((s.map uo).flatten.map .d) us:=by
 have hl:∀w',(Builtin.lenOf (.string ⟨s.toArray⟩)).run P w'=.ok s.length w':=by intro w';simp[Builtin.lenOf,ByteArray.size]
 refine⟨s.map λb=>.int .u8 b.toNat,⟨hl w,by simp,λw' _=>⟨hl w',?_⟩⟩,?_⟩
 .have e:(⟨s.toArray⟩:ByteArray).extract 0 s.length=⟨s.toArray⟩:=by rw[Lib.extract_eq];simp
  simp[Builtin.firstCells,e]
 clear hl;induction s with
 |nil=>simp[an]|cons b s ih=>simp only[List.map_cons,List.flatten_cons,uo,List.singleton_append,an,ai,aP];exact⟨_,_,rfl,rfl,by simpa[uo]using ih⟩
theorem m9(cx:cB G β bx w X){size:Nat}{x:AV}{ux:Value}{xs:List (List D)}(hx:ai β bx w (bq β bx w X) x ux)(hr:mu size x bx=some xs)(hs:∀r∈xs,r.length=size):
 ∃us,gV P w size xs.length ux us/\an β bx w (bq β bx w X) (xs.flatten.map .d) us:=by
 have slc:∀y,x=y->(∀b,y≠.d (.str b))->y.rows bx=some xs->∃us,gV P w size xs.length ux us/\an β bx w (bq β bx w X) (xs.flatten.map .d) us:=by
  intro y hy _ hrows;subst hy;by_cases how:∃b sz n,x=.ow b sz n
  .obtain⟨b,sz,n,rfl⟩:=how;obtain⟨hn,base,cap,rfl,h1,h2⟩:=wZ cx hrows hx;refine eD hs ?_;rcases h2 with⟨h2,_⟩|⟨_,rfl,h2,_⟩
   .exact .inl h2
   exact .inr ⟨β b,0,sz,rfl,h2⟩
  cases hv:x.wV with
  |true=>
   cases x with
   |vw b sz off n c ex=>
    simp only[AV.rows]at hrows;split at hrows
    .rename_i s es' hb;obtain⟨rfl,hle,rfl⟩:=Ey hrows;obtain⟨base,cap,rfl,h1,h2⟩:=qR (LA:=bq β bx w X) hle ((cx.box b _ hb).imp id λ⟨_,_,_,g⟩=>g) hx;exact eD hs (h2.imp id λ⟨a,c⟩=>⟨β b,off*s,s,a,c⟩)
    .rename_i s es' hb;obtain⟨rfl,hle,rfl⟩:=Ey hrows;obtain⟨base,cap,rfl,h1,h2⟩:=qR (LA:=bq β bx w X) hle ((cx.box b _ hb).imp id λ⟨_,g⟩=>g) hx;exact eD hs (h2.imp id λ⟨a,c⟩=>⟨β b,off*s,s,a,c⟩)
    simp at hrows
   |_=>simp[AV.wV]at hv
  |false=>
  obtain⟨base,cap,rfl,h1,h2⟩:=Ca (λb sz n e=>how ⟨b,sz,n,e⟩) hv hrows hx;exact eD hs (h2.imp id λ⟨blk,off,sz,a,_,c⟩=>⟨blk,off,sz,a,c⟩)
 cases x with
 |d y=>
  cases y with
  |str s=>
   simp only[mu]at hr
   cases hb:Nat.beq size 1 with
   |false=>simp[hb]at hr|true=>
    have:=vaf hb
    subst this
    simp only[hb,cond_true,osI]at hr
    subst hr
    simp only[ai,aP]at hx;subst hx
    rw[lgM]
    exact vC s
  |_=>exact slc _ rfl (by simp) hr
 |_=>exact slc _ rfl (by simp) hr
theorem xu{need old bytes:Nat}(h:old<need)(hb:need*bytes<=140737488355328):¬Builtin.nextslicecap need old*bytes>2^48:=by have:=Go.growslice_fits h hb;omega
theorem kC{t u e sLen sCap n:Nat}{base:Option Addr}{x:Value}{us olds zc:List Value}{ei:TypeInfo}{ud:TypeDesc}{zv:Value}
 (ht:P.underlying t=some (.slice e)) (hu:P.underlying u=some ud) (Va:∀k,ud≠.int k) (hi:P.info? e=some ei) (hz:ei.zero=some zv) (Ye:zv.cells=⟨zc⟩) (hzl:zc.length=ei.size)
 (hx:gV P w ei.size n x us) (hs:gV P w ei.size sLen (.slice base sLen sCap) olds)
 (hcap:sCap<sLen+n) (hb0:0<ei.bytes) (hb:(sLen+n)*ei.bytes<=140737488355328) (ty:Nat):
 ∃cap rest,sLen+n<=cap/\(cap*ei.size=us.length+olds.length+rest)/\∃zs:List Value,zs.length=rest/\
  (Builtin.append_ #[t,u] ty #[.slice base sLen sCap,x]).run P w=.ok (.slice (some ⟨w.heap.size,0,none⟩) (sLen+n) cap)
   {w with drawn:=w.drawn+1,heap:=w.heap.push (.cells ⟨olds++us++zs⟩ e)}:=by
 obtain⟨cap,xw⟩:∃cap,cap=(Question.appendCap (sLen+n) sCap e).cut (w.tape w.drawn (Question.appendCap (sLen+n) sCap e)):=⟨_,rfl⟩
 have RJ:sLen+n<=cap:=by rw[xw];simp only[Question.cut];omega
 refine⟨cap,(cap-(sLen+n))*ei.size,RJ,?_,(Builtin.zeroCells ⟨zc⟩ (cap-(sLen+n))).toList,by simp[Builtin.zeroCells,hzl],?_⟩
 .rw[hx.2.1,hs.2.1];have:cap=sLen+n+(cap-(sLen+n)):=by omega
  conv=>lhs;rw[this]
  simp only[Nat.add_mul];omega
 have hnc:=xu hcap hb
 have Yf:¬(281474976710656<Builtin.nextslicecap (sLen+n) sCap*ei.bytes):=by omega
 have Yg:ei.bytes≠0:=by omega
 have hn:¬(sLen+n<=sCap):=by omega
 have h1:=(hs.2.2 w.drew (λ_ _=>rfl)).2
 have h2:=(hx.2.2 w.drew (λ_ _=>rfl)).2
 simp[Builtin.append_,aX ht,aX hu,cg hi,nQ hi,iD hi hz,hx.1,hn,Yf,Yg,Question.forced,h1,h2,Ye,newRow,<-xw]
 have e1:(⟨olds⟩++(⟨us⟩++Builtin.zeroCells ⟨zc⟩ (cap-(sLen+n))):Array Value)=⟨olds++(us++(Builtin.zeroCells ⟨zc⟩ (cap-(sLen+n))).toList)⟩:=by apply Array.ext';simp
 rw[e1]
 rfl
theorem Il{t u e e' sLen sCap n blk:Nat}{x:Value}{us:List Value}{ei:TypeInfo}{ud:TypeDesc}{c:Array Value}
 (ht:P.underlying t=some (.slice e)) (hu:P.underlying u=some ud) (Va:∀k,ud≠.int k) (hi:P.info? e=some ei)
 (hx:gV P w ei.size n x us) (hsc:∀v∈us,Lx v) (hb:w.heap[blk]?=some (.cells c e' (0,0))) (hfit:sLen*ei.size+us.length<=c.size) (hcap:sLen+n<=sCap) (ty:Nat):
 (Builtin.append_ #[t,u] ty #[.slice (some ⟨blk,0,none⟩) sLen sCap,x]).run P w=.ok (.slice (some ⟨blk,0,none⟩) (sLen+n) sCap) (eR w blk (.cells ⟨bu c.toList (sLen*ei.size) us⟩ e' (0,0))):=by
 have h2:=(hx.2.2 w (λ_ _=>rfl)).2;have hs:=kw (P:=P) (off:=sLen*ei.size) us 0 w c hb hsc (by simpa using hfit)
 simp only[Nat.add_zero]at hs;simp[Builtin.append_,aX ht,aX hu,cg hi,hx.1,hcap,h2,gu,hs]
theorem Ap{t u e:Nat}{base:Option Addr}{x:Value}{us:List Value}{ei:TypeInfo}{ud:TypeDesc}
 (ht:P.underlying t=some (.slice e)) (hu:P.underlying u=some ud) (Va:∀k,ud≠.int k) (hi:P.info? e=some ei)
 (hx:gV P w ei.size 0 x us) (ty:Nat):
 (Builtin.append_ #[t,u] ty #[.slice base 0 0,x]).run P w=.ok (.slice base 0 0) w:=by
 have h2:=(hx.2.2 w (λ_ _=>rfl)).2;have hl:us=[]:=by have:=hx.2.1;simpa using this
 subst hl;cases base<;>simp[Builtin.append_,aX ht,aX hu,cg hi,hx.1,h2,storeCells]
theorem vW{B:av}(hB:B.live=false)(k:Nat):Ext β bx w (m5 β bx.length k) (bx++[B]) w:=by
 refine⟨rfl,rfl,rfl,vad _,λ_ _ _=>rfl,λk c e f h=>⟨c,h,rfl⟩,?_,?_⟩
 .rintro i ⟨b,h1,h2⟩;have:=kx h1
  exact⟨de _ _ (by omega),b,fh h1,h2⟩
 intro i b h1 h2;rcases bF h1 with⟨h3,h4⟩|⟨rfl,rfl⟩
 .exact .inr ⟨i,b,h3,h2,(de _ _ (by omega)).symm⟩
 rw[hB]at h2;simp at h2
theorem Ci(cx:cB G β bx w X){B:av}(hB:B.live=false)(k:Nat)(hok:dV (m5 β bx.length k) (bx++[B]) w (bq (m5 β bx.length k) (bx++[B]) w X) B k):cB G (m5 β bx.length k) (bx++[B]) w X:=by
 refine cx.step (vW hB k) ?_ ?_
 .intro i b hb;rcases bF hb with⟨h3,h4⟩|⟨rfl,rfl⟩
  .exact .inl ⟨h3,λ_=>rfl⟩
  exact .inr (by rw[bC];exact hok)
 intro i j bi bj h1 h2 l1 l2 he;rcases bF h1 with⟨h3,h4⟩|⟨rfl,rfl⟩
 .rcases bF h2 with⟨h5,h6⟩|⟨rfl,rfl⟩
  .rw[de _ _ (by omega),de _ _ (by omega)]at he;exact cx.inj i j bi bj h3 h5 l1 l2 he
  rw[hB]at l2;simp at l2
 rw[hB]at l1;simp at l1
theorem pS(cx:cB G β bx w X){e size cap:Nat}{rows:List (List D)}{vs zs:List Value}(hl:∀r∈rows,r.length=size)(hv:an β bx w (bq β bx w X) (rows.flatten.map .d) vs)
 (hcap:cap*size<=vs.length+zs.length) (hlen:rows.length<=cap) (hne:rows≠[]):
 let w':World:={w with drawn:=w.drawn+1,heap:=w.heap.push (.cells ⟨vs++zs⟩ e)}
 Ext β bx w (m5 β bx.length w.heap.size) (bx++[.row size rows]) w'/\cB G (m5 β bx.length w.heap.size) (bx++[.row size rows]) w' X/\
  ai (m5 β bx.length w.heap.size) (bx++[.row size rows]) w' (bq (m5 β bx.length w.heap.size) (bx++[.row size rows]) w' X) (.ow bx.length size rows.length) (.slice (some ⟨w.heap.size,0,none⟩) rows.length cap):=by
 intro w'
 have Vb:=sN cx (fY w)
 have vo:Ext β bx w β bx {w with drawn:=w.drawn+1}:=kg (fY w)
 have RK:Ext β bx {w with drawn:=w.drawn+1} (m5 β bx.length w.heap.size) (bx++[.row size rows]) w':=gG (w:={w with drawn:=w.drawn+1}) (.cells ⟨vs++zs⟩ e) (.row size rows)
 have hnew:w'.heap[w.heap.size]?=some (.cells ⟨vs++zs⟩ e):=ko {w with drawn:=w.drawn+1} _
 refine⟨vo.trans RK,?_,?_⟩
 .refine mw (w:={w with drawn:=w.drawn+1}) Vb (.cells ⟨vs++zs⟩ e) (.row size rows) (.inr ⟨_,e,hnew,?_⟩);refine oJ (β:=m5 β bx.length w.heap.size) (bx:=bx++[.row size rows]) rows 0 vs hl ?_ (an.mono ((vo.trans RK).dL X) _ _ hv);intro k u hk;have hk':k<vs.length:=by
   rcases Nat.lt_or_ge k vs.length with h|h
   .exact h
   simp[vay h]at hk
  show World.cell? w' ⟨w.heap.size,0+k,none⟩=some u;simp only[World.cell?,hnew];simp[vaz hk',hk]
 simp only[ai]
 refine⟨⟨.row size rows,by simp,rfl⟩,.inr ⟨by simpa using hne,cap,_,e,(0,0),by rw[bC],hlen,by rw[bC];exact hnew,by simpa using hcap⟩⟩
end
end Dem
end
section
open Go
namespace Dem
section
variable {P:Program}{T:Nat->Option TI}{G:Nat->Option (List D)}{β:Nat->Nat}{bx:List av}{w:World}{X:Nat->Prop}
theorem an.flatten_append {ok:Nat->Prop} {es xs:List (List D)} {vs us:List Value} (h1:an β bx w ok (es.flatten.map .d) vs) (h2:an β bx w ok (xs.flatten.map .d) us):
 an β bx w ok ((es++xs).flatten.map .d) (vs++us):=by
 rw[List.flatten_append,List.map_append];exact an.append h1 h2
theorem N5(ds:List D):wU (ds.map .d)=true:=by
 induction ds with
 |nil=>rfl|cons d ds ih=>simp[wU,AV.sc,ih]
theorem Pn(cx:cB G β bx w X){b size cap:Nat}{es xs:List (List D)}{c:Array Value}{e:TypeId}{vs us rest:List Value}(hb:bx[b]?=some (.row size es))(hne:es≠[])
 (hh:w.heap[β b]?=some (.cells c e (0,0))) (hc:c.toList=vs++rest) (hvl:vs.length=es.length*size) (agq:us.length<=rest.length)
 (hl:∀r∈es++xs,r.length=size) (hv:an β bx w (bq β bx w X) (es.flatten.map .d) vs) (hu:an β bx w (bq β bx w X) (xs.flatten.map .d) us)
 (hcap:cap*size<=c.size) (hlen:es.length+xs.length<=cap):
 ∃β' w',w'=eR w (β b) (.cells ⟨bu c.toList (es.length*size) us⟩ e (0,0))/\Ext β bx w β' ((bx.set b .dead)++[.row size (es++xs)]) w'/\cB G β' ((bx.set b .dead)++[.row size (es++xs)]) w' X/\
  ai β' ((bx.set b .dead)++[.row size (es++xs)]) w' (bq β' ((bx.set b .dead)++[.row size (es++xs)]) w' X) (.ow bx.length size (es.length+xs.length)) (.slice (some ⟨β b,0,none⟩) (es.length+xs.length) cap):=by
 have cH:(av.row size es).live=true:=by cases es<;>simp_all[av.live]
 have agr:=kx hb
 have hlen':(bx.set b .dead).length=bx.length:=by simp
 have hsp:bu c.toList (es.length*size) us=vs++us++rest.drop us.length:=by rw[hc,<-hvl,nU _ _ _ (by simp;omega)];simp
 have N6:(⟨bu c.toList (es.length*size) us⟩:Array Value).size=c.size:=by simp[dz]
 have ex:Ext β bx w (m5 β bx.length (β b)) ((bx.set b .dead)++[.row size (es++xs)]) (eR w (β b) (.cells ⟨bu c.toList (es.length*size) us⟩ e (0,0))):=by
  refine⟨rfl,rfl,rfl,by simp[eR],?_,?_,?_,?_⟩
  .intro k _ hl';exact jL (λe=>hl' b _ hb cH e.symm)
  .intro k c1 e1 f1 hk;by_cases h:k=β b
   .subst h;rw[hh]at hk;simp only[osI,Obj.cells.injEq]at hk;obtain⟨rfl,rfl,rfl⟩:=hk;exact⟨_,eG hh,N6⟩
   exact⟨c1,by rw[jL h];exact hk,rfl⟩
  .intro i hi;have hil:i<bx.length:=by obtain⟨_,h1,_⟩:=hi;exact kx h1
   obtain⟨B,h1,h2⟩:=jA (b:=b) (B':=.dead) rfl hi;exact⟨de _ _ (by omega),B,fh h1,h2⟩
  intro i B h1 h2;rcases bF h1 with⟨h3,h4⟩|⟨rfl,rfl⟩
  .rcases aQ h3 with⟨_,rfl,_⟩|⟨_,h5⟩
   .simp[av.live]at h2
   exact .inr ⟨i,B,h5,h2,(de _ _ (by simp at h4;omega)).symm⟩
  exact .inr ⟨b,_,hb,cH,by rw[hlen',bC]⟩
 refine⟨m5 β bx.length (β b),_,rfl,ex,?_,?_⟩
 .refine cx.step ex ?_ ?_
  .intro i B h1;rcases bF h1 with⟨h3,h4⟩|⟨rfl,rfl⟩
   .rcases aQ h3 with⟨_,rfl,_⟩|⟨h5,h6⟩
    .exact .inr hY
    exact .inl ⟨h6,λhl'=>jL (λe=>h5 (cx.inj i b B _ h6 hb hl' cH e))⟩
   refine .inr (.inr ⟨_,e,by rw[hlen',bC];exact eG hh,?_⟩);rw[hlen',bC];refine oJ (β:=m5 β bx.length (β b)) (bx:=(bx.set b .dead)++[.row size (es++xs)]) _ 0 (vs++us) hl ?_ (an.mono (ex.dL X) _ _ (an.flatten_append hv hu));intro k u hk;have hk':k<(vs++us).length:=by
    rcases Nat.lt_or_ge k (vs++us).length with h|h
    .exact h
    simp[vay h]at hk
   simp only[World.cell?,eG hh];simp only[hsp,Nat.zero_add];have Vc:(vs++us++rest.drop us.length)[k]?=some u:=by rw[vaz hk'];exact hk
   simpa using Vc
  intro i j bi bj h1 h2 l1 l2 he;rcases bF h1 with⟨h3,h4⟩|⟨rfl,rfl⟩<;>rcases bF h2 with⟨h5,h6⟩|⟨rfl,rfl⟩
  .rcases aQ h3 with⟨_,rfl,_⟩|⟨n3,g3⟩
   .simp[av.live]at l1
   rcases aQ h5 with⟨_,rfl,_⟩|⟨n5,g5⟩
   .simp[av.live]at l2
   simp at h4 h6;rw[de _ _ (by omega),de _ _ (by omega)]at he;exact cx.inj i j bi bj g3 g5 l1 l2 he
  .rcases aQ h3 with⟨_,rfl,_⟩|⟨n3,g3⟩
   .simp[av.live]at l1
   simp at h4;rw[hlen',de _ _ (by omega),bC]at he;exact absurd (cx.inj i b bi _ g3 hb l1 cH he) n3
  .rcases aQ h5 with⟨_,rfl,_⟩|⟨n5,g5⟩
   .simp[av.live]at l2
   simp at h6;rw[hlen',bC,de _ _ (by omega)]at he;exact absurd (cx.inj j b bj _ g5 hb l2 cH he.symm) n5
  rfl
 simp only[ai]
 have RL:es.length+xs.length≠0:=by have:=List.length_pos_iff.2 hne;omega
 refine⟨⟨.row size (es++xs),by rw[<-hlen'];simp,rfl⟩,.inr ⟨RL,cap,_,e,(0,0),by rw[bC],hlen,by rw[bC];exact eG hh,by rw[N6];exact hcap⟩⟩
theorem nV{te:TI}(h:fo te=true):∃z,te.zero.cells?=some z/\z.length=te.size/\0<te.bytes/\0<te.size:=by
 unfold fo at h;split at h
 .rename_i z hz;simp only[vae]at h;refine⟨z,hz,vaf h.1.1,?_,?_⟩
  .have:=h.1.2;simpa[Nat.blt_eq]using this
  have:=h.2;simpa[Nat.blt_eq]using this
 simp at h
theorem xx(hT:jj P T)(cx:cB G β bx w X){t u:Nat}{s x:AV}{us ux:Value}{tu:TI}(hu:T u=some tu)(Va:∀k,tu.kd≠.int k)
 (hs:ai β bx w (bq β bx w X) s us) (hx:ai β bx w (bq β bx w X) x ux) {c:Prop} {v:AV} {b:Option (List av)} (hr:m7 T t s x bx=some ⟨c,v,b⟩) (hc:c) (ty:Nat):
 ∃r w' β' aE,b=some aE/\(Builtin.append_ #[t,u] ty #[us,ux]).run P w=.ok r w'/\Ext β bx w β' aE w'/\cB G β' aE w' X/\ai β' aE w' (bq β' aE w' X) v r:=by
 obtain⟨ui,ud,u1,u2,u3,u4,u5,u6⟩:=aL (hT.ti _ _ hu);have Gd:∀k,ud≠.int k:=by rintro k rfl;exact Va k (by rw[u5];rfl)
 unfold m7 at hr;cases ht:T t with
 |none=>simp[ht]at hr|some ti=>
 obtain⟨i,d,h1,h2,h3,h4,h5,h6⟩:=aL (hT.ti _ _ ht)
 simp only[ht]at hr
 cases hk:ti.kd with
 |slice e=>
  rw[hk]at hr h5
  cases d<;>simp[cX]at h5
  subst h5
  cases hte:T e with
  |none=>simp[hte]at hr|some te=>
  obtain⟨ei,ed,g1,g2,g3,g4,g5,g6⟩:=aL (hT.ti _ _ hte)
  simp only[hte]at hr
  cases hz:fo te with
  |false=>simp[hz]at hr|true=>
  obtain⟨z,hz1,Yh,hz3,hz4⟩:=nV hz
  obtain⟨zv,zc,k1,k2,k3,_⟩:=xk (β:=β) (bx:=bx) (w:=w) (ok:=bq β bx w X) (hT.ti _ _ hte) hz1
  have hzl:zc.length=ei.size:=by rw[an.length k3,Yh,g3]
  have BC:ei.zero=some zv:=by
   cases hq:ei.zero with
   |none=>rw[g6,hq]at hz1;simp[AV.cells?]at hz1|some q=>have:=iD (P:=P) (w:=w) g1 hq;rw[k1]at this;simp at this;rw[this]
  simp only[hz,cond_true]at hr
  cases hrx:mu te.size x bx with
  |none=>simp[hrx]at hr|some xs=>
  simp only[hrx]at hr
  cases s with
  |cl es=>
   simp only[ai]at hs
   obtain⟨base,rfl,hbase⟩:=hs
   cases es with
   |nil=>
    simp only[osI,R.mk.injEq]at hr
    obtain⟨rfl,rfl,rfl⟩:=hr
    obtain⟨Bm,EB⟩:=hc
    obtain⟨ws,f1,f2⟩:=m9 (P:=P) cx hx hrx EB
    rw[g3]at f1
    by_cases hxs:xs=[]
    .subst hxs;have hrun:=Ap (base:=base) h2 u2 Gd g1 f1 ty
     refine⟨_,w,_,_,rfl,hrun,vW (B:=.row te.size []) rfl 0,Ci cx (B:=.row te.size []) rfl 0 (.inl rfl),?_⟩;simp only[ai];exact⟨⟨.row te.size [],by simp,rfl⟩,.inl ⟨rfl,base,rfl⟩⟩
    have hpos:=List.length_pos_iff.2 hxs
    have f0:gV P w ei.size 0 (.slice base 0 0) []:=by refine⟨dA,by simp,λw' _=>⟨dA,?_⟩⟩;cases base<;>simp[Builtin.firstCells,loadCells,loadCellsFrom]
    obtain⟨cap,rest,q1,q2,zs,q3,q4⟩:=kC h2 u2 Gd g1 BC k2 hzl f1 f0 (by omega) (by omega) (by rw[<-g4];simpa using Bm) ty
    obtain⟨r1,r2,r3⟩:=pS (e:=e) (size:=te.size) (cap:=cap) (rows:=xs) (zs:=zs) cx EB f2 (by rw[g3,q3];simp at q2;omega) (by omega) hxs
    simp only[Nat.zero_add,List.nil_append]at q4
    exact⟨_,_,_,_,rfl,q4,r1,r2,r3⟩
   |cons e0 er=>
    cases xs with
    |nil=>simp at hr|cons x0 xr=>
     simp only[osI,R.mk.injEq]at hr
     obtain⟨rfl,rfl,rfl⟩:=hr
     obtain⟨Bm,EB⟩:=hc
     obtain⟨ws,f1,f2⟩:=m9 (P:=P) cx hx hrx (λr hr=>EB r (List.mem_append.2 (.inr hr)))
     obtain⟨os,o1,o2⟩:=eD (P:=P) (β:=β) (bx:=bx) (cap:=(e0::er).length) (base:=base) (es:=e0::er) (ok:=bq β bx w X) (λr hr=>EB r (List.mem_append.2 (.inl hr))) (hbase.imp id λ⟨blk,off,sz,a,_,c⟩=>⟨blk,off,sz,a,c⟩)
     rw[g3]at f1 o1
     obtain⟨cap,rest,q1,q2,zs,q3,q4⟩:=kC h2 u2 Gd g1 BC k2 hzl f1 o1 (by simp) (by omega) (by rw[<-g4];exact Bm) ty
     obtain⟨r1,r2,r3⟩:=pS (e:=e) (size:=te.size) (cap:=cap) (rows:=(e0::er)++(x0::xr)) (zs:=zs) (vs:=os++ws) cx EB (an.flatten_append o2 f2) (by rw[g3,q3];simp at q2 ⊢;omega) (by rw[vaa];exact q1) (by simp)
     rw[vaa]at r3
     exact⟨_,_,_,_,rfl,q4,r1,r2,r3⟩
  |ow b' sz n=>
   cases uC:bx[b']? with
   |none=>simp[uC]at hr|some B=>
   cases B with
   |row s2 es=>
    simp only[uC]at hr
    cases LC:sameBox b' x with
    |true=>simp[LC]at hr|false=>
    simp only[LC,cond_false,osI,R.mk.injEq]at hr
    obtain⟨rfl,rfl,rfl⟩:=hr
    obtain⟨rfl,rfl,rfl,Bm,EB⟩:=hc
    obtain⟨ws,f1,f2⟩:=m9 (P:=P) cx hx hrx (λr hr=>EB r (List.mem_append.2 (.inr hr)))
    have hrows:(AV.ow b' te.size es.length).rows bx=some es:=by simp[AV.rows,uC]
    obtain⟨_,base,Vd,rfl,p1,p2⟩:=wZ cx hrows hs
    rw[g3]at f1
    rcases p2 with⟨rfl,rfl⟩|⟨hne,rfl,p3,ca,ce,cf,p4,p5⟩
    ·
     have vp:Ext β bx w β (bx.set b' .dead) w:=jB uC rfl rfl;have Z9:cB G β (bx.set b' .dead) w X:=lq cx uC rfl rfl hY
     by_cases hxs:xs=[]
     .subst hxs;have hrun:=Ap (base:=base) h2 u2 Gd g1 f1 ty
      refine⟨_,w,_,_,rfl,hrun,vp.trans (vW (B:=.row te.size ([]++[])) rfl 0),Ci Z9 (B:=.row te.size ([]++[])) rfl 0 (.inl rfl),?_⟩;simp only[ai];exact⟨⟨.row te.size [],by simp,rfl⟩,.inl ⟨rfl,base,rfl⟩⟩
     have hpos:=List.length_pos_iff.2 hxs;have f0:gV P w ei.size 0 (.slice base 0 0) []:=by refine⟨dA,by simp,λw' _=>⟨dA,?_⟩⟩;cases base<;>simp[Builtin.firstCells,loadCells,loadCellsFrom]
     obtain⟨cap,rest,q1,q2,zs,q3,q4⟩:=kC h2 u2 Gd g1 BC k2 hzl f1 f0 (by omega) (by omega) (by rw[<-g4];simpa using Bm) ty;obtain⟨r1,r2,r3⟩:=pS (e:=e) (size:=te.size) (cap:=cap) (rows:=[]++xs) (zs:=zs) Z9 EB (by simpa using an.mono (vp.dL X) _ _ f2) (by rw[g3,q3];simp at q2;omega) (by simpa using q1) (by simpa using hxs);simp only[Nat.zero_add,List.nil_append,List.length_nil,List.length_set]at q4 r1 r2 r3 ⊢;exact⟨_,_,_,_,rfl,q4,vp.trans r1,r2,r3⟩
    rcases cx.box _ _ uC with h0|⟨c2,e2,j1,j2⟩
    .exact absurd h0 hne
    rw[p4]at j1
    simp only[osI,Obj.cells.injEq]at j1
    obtain⟨rfl,rfl,rfl⟩:=j1
    obtain⟨Gc,v1,v2,v3⟩:=lu (β:=β) (bx:=bx) es 0 p3
    obtain⟨aau,sb⟩:=qT p4 v2
    have hcs:ca.size=Gc.length+aau.length:=by have:=vac List.length sb;simpa using this
    by_cases hfit:es.length+xs.length<=Vd
    .have hmul:(es.length+xs.length)*te.size<=Vd*te.size:=Nat.mul_le_mul_right _ hfit;rw[Nat.add_mul]at hmul;have hwl:ws.length=xs.length*te.size:=by rw[f1.2.1,g3]
     have hrun:=Il (sCap:=Vd) (sLen:=es.length) h2 u2 Gd g1 f1 (an.sc (N5 _) f2) p4 (by rw[<-g3];omega) hfit ty;obtain⟨β',w',hw',r1,r2,r3⟩:=Pn (xs:=xs) (us:=ws) cx uC hne p4 sb v1 (by omega) EB v3 f2 p5 hfit;rw[<-g3]at hrun;subst hw';exact⟨_,_,_,_,rfl,hrun,r1,r2,r3⟩
    obtain⟨os,o1,o2⟩:=eD (P:=P) (β:=β) (bx:=bx) (cap:=Vd) (base:=some ⟨β b',0,none⟩) (es:=es) (ok:=bq β bx w X) (λr hr=>EB r (List.mem_append.2 (.inl hr))) (.inr ⟨β b',0,te.size,rfl,p3⟩)
    rw[g3]at o1
    have vp:Ext β bx w β (bx.set b' .dead) w:=jB uC rfl rfl
    have Z9:cB G β (bx.set b' .dead) w X:=lq cx uC rfl rfl hY
    obtain⟨cap,rest,q1,q2,zs,q3,q4⟩:=kC h2 u2 Gd g1 BC k2 hzl f1 o1 (by omega) (by omega) (by rw[<-g4];exact Bm) ty
    obtain⟨r1,r2,r3⟩:=pS (e:=e) (size:=te.size) (cap:=cap) (rows:=es++xs) (zs:=zs) (vs:=os++ws) Z9 EB (an.mono (vp.dL X) _ _ (an.flatten_append o2 f2)) (by rw[g3,q3];simp at q2 ⊢;omega) (by simpa using q1) (by simp[hne])
    rw[vaa]at r3
    simp only[List.length_set]at r1 r2 r3
    exact⟨_,_,_,_,rfl,q4,vp.trans r1,r2,r3⟩
   |_=>simp[uC]at hr
  |_=>simp at hr
 |_=>rw[hk]at hr;simp at hr
end
end Dem
end
section
open Go
namespace Dem
section
variable {P:Program}{T:Nat->Option TI}{G:Nat->Option (List D)}{β:Nat->Nat}{bx:List av}{w:World}{X:Nat->Prop}
theorem bS(s:Sem Value){x:Value}{w':World}(h:s.run P w=.ok x w'):(do pure (Next.value (<-s)):Sem Next).run P w=.ok (.value x) w':=by simp[h]
theorem RM{x:AV}{u:Value}{v:AV}{t:Nat}{e:Nat}(cx:cB G β bx w X)(ht:P.underlying t=some (.slice e))(hx:ai β bx w (bq β bx w X) x u)(hr:BW x bx=some v)(ty:Nat):
 ∃r,(Builtin.len_ #[t] ty #[u]).run P w=.ok r w/\ai β bx w (bq β bx w X) v r:=by
 have fin:∀n base cap,u=.slice base n cap->v=.d (.int .i64 n)->∃r,(Builtin.len_ #[t] ty #[u]).run P w=.ok r w/\ai β bx w (bq β bx w X) v r:=by rintro n base cap rfl rfl;exact⟨.int .i64 n,by simp[Builtin.len_,aX ht,goInt],by simp[ai,aP]⟩
 unfold BW at hr;split at hr
 .simp only[osI]at hr;subst hr;simp only[ai,aP]at hx;obtain⟨base,cap,rfl,_⟩:=hx;exact fin _ _ _ rfl rfl
 .simp only[osI]at hr;subst hr;simp only[ai]at hx;obtain⟨base,rfl,_⟩:=hx;exact fin _ _ _ rfl rfl
 .split at hr
  .rename_i es aD;simp only[osI]at hr;subst hr;obtain⟨_,base,cap,rfl,_⟩:=wZ cx aD hx;exact fin _ _ _ rfl rfl
  simp at hr
 .split at hr
  .rename_i es aD;simp only[osI]at hr;subst hr;obtain⟨_,_,base,cap,rfl,_⟩:=lz cx aD hx;exact fin _ _ _ rfl rfl
  simp at hr
 simp at hr
theorem Ed(hT:jj P T)(cx:cB G β bx w X){bn:Builtin}{args:List AV}{vs:List Value}{ats:List Nat}(hx:an β bx w (bq β bx w X) args vs)
 {c:Prop} {v:AV} {b:Option (List av)} (hr:jZ T bn args ats bx=some ⟨c,v,b⟩) (hc:c) (ty:Nat) (cs:Array Bool):
 ∃r w' β',(Go.builtin bn ⟨ats⟩ ty cs ⟨vs⟩).run P w=.ok (.value r) w'/\Ext β bx w β' (dU bx b) w'/\cB G β' (dU bx b) w' X/\ai β' (dU bx b) w' (bq β' (dU bx b) w' X) v r:=by
 unfold jZ at hr;split at hr
 .rename_i x t;simp only[an]at hx;obtain⟨u,us,rfl,hx,rfl⟩:=hx;cases ht:T t with
  |none=>simp[ht]at hr|some ti=>
  obtain⟨i,d,h1,h2,h3,h4,h5,h6⟩:=aL (hT.ti _ _ ht);simp only[ht]at hr;cases hk:ti.kd with
  |array n e=>rw[hk]at hr h5;cases d<;>simp[cX]at h5;obtain⟨rfl,rfl⟩:=h5;simp only[R.pure,osI,R.mk.injEq]at hr;obtain⟨_,rfl,rfl⟩:=hr;refine⟨_,w,β,bS _ (x:=.int .i64 n) ?_,Ext.refl _ _ _,cx,by simp only[ai,aP]⟩;cases u<;>simp[Builtin.len_,aX h2,goInt]
  |str=>
   rw[hk]at hr h5;cases d<;>simp[cX]at h5;cases x with
   |d y=>
    cases y with
    |str s=>
     simp only[R.pure,osI,R.mk.injEq]at hr;obtain⟨_,rfl,rfl⟩:=hr;simp only[ai,aP]at hx;subst hx;refine⟨_,w,β,bS _ (x:=.int .i64 s.length) ?_,Ext.refl _ _ _,cx,by simp only[ai,aP]⟩;have hsz:(⟨s.toArray⟩:ByteArray).size=s.length:=by show s.toArray.size=_;simp
     simp[Builtin.len_,aX h2,goInt,hsz]
    |_=>simp at hr
   |_=>simp at hr
  |slice e=>
   rw[hk]at hr h5;cases d<;>simp[cX]at h5;subst h5;have sA:(match BW x bx with|some v=>R.pure v|none=>none)=some ⟨c,v,b⟩:=by cases x<;>first|exact hr|(rename_i y;cases y<;>exact hr)
   split at sA
   .rename_i v' hl;simp only[R.pure,osI,R.mk.injEq]at sA;obtain⟨_,rfl,rfl⟩:=sA;obtain⟨r,k1,k2⟩:=RM (t:=t) cx h2 hx hl ty;exact⟨r,w,β,bS _ k1,Ext.refl _ _ _,cx,k2⟩
   simp at sA
  |_=>rw[hk]at hr;simp at hr
 .rename_i k x k' y;simp only[R.pure,osI,R.mk.injEq]at hr;obtain⟨_,rfl,rfl⟩:=hr;simp only[an,ai,aP]at hx;obtain⟨u,us,rfl,rfl,u2,RG,rfl,rfl,rfl⟩:=hx;refine⟨_,w,β,bS _ (x:=.int k (min x y)) ?_,Ext.refl _ _ _,cx,by simp only[ai,aP]⟩;simp[Builtin.min_,Builtin.min2];omega
 .rename_i k x k' y;simp only[R.pure,osI,R.mk.injEq]at hr;obtain⟨_,rfl,rfl⟩:=hr;simp only[an,ai,aP]at hx;obtain⟨u,us,rfl,rfl,u2,RG,rfl,rfl,rfl⟩:=hx;refine⟨_,w,β,bS _ (x:=.int k (max x y)) ?_,Ext.refl _ _ _,cx,by simp only[ai,aP]⟩;simp[Builtin.max_,Builtin.max2];omega
 .rename_i s x t u;simp only[an]at hx;obtain⟨v1,us,rfl,hs,v2,RG,rfl,hx,rfl⟩:=hx;cases hu:T u with
  |none=>simp[hu]at hr|some tu=>
  simp only[hu]at hr;have Va:∀k,tu.kd≠.int k:=by intro k hk;rw[hk]at hr;simp at hr
  have sA:m7 T t s x bx=some ⟨c,v,b⟩:=by
   split at hr
   .simp at hr
   exact hr
  obtain⟨r,w',β',aE,rfl,k1,k2,k3,k4⟩:=xx hT cx hu Va hs hx sA hc ty;exact⟨r,w',β',bS _ k1,k2,k3,k4⟩
 simp at hr
theorem Aq{n e:Nat}{te:TI}{i:TypeInfo}(d:Nat)(ht:sy P e=some te)(hs:te.size=i.size){ok:Nat->Prop}
 (IH:∀a b r x y,D8 T n e a b=some r->ai β bx w ok a x->ai β bx w ok b y->(Op.equalIn d e x y).run P w=.ok r w)
 {xs ys:List AV} {us vs:List Value} (hx:an β bx w ok xs us) (hy:an β bx w ok ys vs):∀(is:List Nat) (r:Bool),
 is.foldr (λi acc=>match cQ te.kd.isAgg te.size (xs.drop (i*te.size)),cQ te.kd.isAgg te.size (ys.drop (i*te.size))with
  |some a,some b=>match D8 T n e a b,acc with
   |some p,some q=>some (p&&q)|_,_=>none
  |_,_=>none) (some true)=some r->(Op.eqItems d e i.size ⟨us⟩ ⟨vs⟩ is).run P w=.ok r w
 |[],r,h=>by simp at h;subst h;simp[Op.eqItems]|j::is,r,h=>by
  rw[List.foldr_cons]at h;split at h
  .rename_i a b ha hb;split at h
   .rename_i p q hp hq;simp only[osI]at h;subst h;obtain⟨x,k1,k2⟩:=pR (P:=P) (w:=w) ht ha hx;obtain⟨y,k3,k4⟩:=pR (P:=P) (w:=w) ht hb hy;rw[hs]at k1 k3;have k5:=IH a b p x y hp k2 k4
    have k6:=Aq d ht hs IH hx hy is q hq;simp only[Op.eqItems,Sem.run_bind,k1,k3,k5,Result.andThen_ok];cases p<;>simp[k6]
   simp at h
  simp at h
theorem xy(hT:jj P T){n:Nat}(d:Nat){ok:Nat->Prop}
 (IH:∀t a b r x y,D8 T n t a b=some r->ai β bx w ok a x->ai β bx w ok b y->(Op.equalIn d t x y).run P w=.ok r w)
 {xs ys:List AV} {us vs:List Value} (hx:an β bx w ok xs us) (hy:an β bx w ok ys vs):∀(fs:List Field) (r:Bool),(∀f∈fs,f.name≠ "_")->
 (fs.map λf=>(f.offset,f.type)).foldr (λf acc=>match T f.2 with
  |some tf=>match cQ tf.kd.isAgg tf.size (xs.drop f.1),cQ tf.kd.isAgg tf.size (ys.drop f.1)with
   |some a,some b=>match D8 T n f.2 a b,acc with
    |some p,some q=>some (p&&q)|_,_=>none
   |_,_=>none
  |none=>none) (some true)=some r->(Op.eqFields d ⟨us⟩ ⟨vs⟩ fs).run P w=.ok r w
 |[],r,_,h=>by simp at h;subst h;simp[Op.eqFields]|f::fs,r,hn,h=>by
  rw[List.map_cons,List.foldr_cons]at h;split at h
  .rename_i tf U9;split at h
   .rename_i a b ha hb;split at h
    .rename_i p q hp hq;simp only[osI]at h;subst h;obtain⟨x,k1,k2⟩:=pR (P:=P) (w:=w) (hT.ti _ _ U9) ha hx;obtain⟨y,k3,k4⟩:=pR (P:=P) (w:=w) (hT.ti _ _ U9) hb hy;have k5:=IH f.type a b p x y hp k2 k4
     have k6:=xy hT d IH hx hy fs q (λg hg=>hn g (by simp[hg])) hq;simp only[Op.eqFields,hn f (by simp),ne_eq,not_false_eq_true,if_true,Sem.run_bind,k1,k3,k5,Result.andThen_ok];cases p<;>simp[k6]
    simp at h
   simp at h
  simp at h
theorem Ge(hT:jj P T){ok:Nat->Prop}(d:Nat):∀(n t:Nat) (a b:AV) (r:Bool) (x y:Value),D8 T n t a b=some r->ai β bx w ok a x->ai β bx w ok b y->
 (Op.equalIn (d+n) t x y).run P w=.ok r w
 |0,t,a,b,r,x,y,h,_,_=>by simp[D8]at h|n+1,t,a,b,r,x,y,h,hx,hy=>by
  unfold D8 at h;split at h
  .simp at h
  rename_i ti ht;obtain⟨i,ds,h1,h2,h3,h4,h5,h6⟩:=aL (hT.ti _ _ ht);rw[h5]at h;split at h
  .rename_i q j a k b hk;cases Yi:j==k with
   |false=>simp[Yi]at h|true=>
   have ac6:j=k:=by simpa using Yi
   subst ac6;cases ds<;>simp[cX]at hk;simp only[ai,aP]at hx hy;subst hx;subst hy;simp only[Yi,cond_true,osI]at h;subst h;rw[show d+(n+1)=(d+n)+1 from rfl];simp[run_equalIn_int _ (d+n) t j _ a b h2];rfl
  .rename_i a b hk;cases ds<;>simp[cX]at hk;simp only[ai,aP]at hx hy;subst hx;subst hy;simp only[osI]at h;subst h;rw[show d+(n+1)=(d+n)+1 from rfl];simp[run_equalIn_bool' _ (d+n) t a b h2]
  .rename_i a b hk;cases ds<;>simp[cX]at hk;simp only[ai,aP]at hx hy;subst hx;subst hy;simp only[osI]at h;subst h;rw[show d+(n+1)=(d+n)+1 from rfl];rw[run_equalIn_string _ (d+n) t _ _ h2,ByteArray.toList_eq,ByteArray.toList_eq];by_cases hab:a=b<;>simp[hab]
  .rename_i len e xs ys hk;have hd:ds=.array len e:=by cases ds<;>simp[cX]at hk;obtain⟨rfl,rfl⟩:=hk;rfl
   subst hd;simp only[ai]at hx hy;obtain⟨us,rfl,hx⟩:=hx;obtain⟨vs,rfl,hy⟩:=hy;split at h
   .rename_i te hte;obtain⟨ei,ed,g1,g2,g3,g4,g5,g6⟩:=aL (hT.ti _ _ hte);cases hl:Nat.beq len 0 with
    |true=>simp[hl]at h|false=>
    simp only[hl,cond_false]at h;rw[show d+(n+1)=(d+n)+1 from rfl,run_equalIn_array _ (d+n) _ _ h2 g1];have:=Aq (P:=P) (w:=w) (β:=β) (bx:=bx) (T:=T) (n:=n) (d+n) (hT.ti _ _ hte) g3 (λa b r x y=>Ge hT d n e a b r x y) hx hy _ _ h
    simpa[Program.cellsOf,g1]using this
   simp at h
  .rename_i fs xs ys hk;simp only[ai]at hx hy;obtain⟨us,rfl,hx⟩:=hx;obtain⟨vs,rfl,hy⟩:=hy;cases ds<;>simp[cX]at hk;rename_i gs;subst hk;have he:=U1 (hT.ti _ _ ht) h2
   cases hq:ti.eq with
   |false=>simp[hq]at h|true=>
   simp only[hq,cond_true]at h;rw[hq]at he;simp only[Rn]at he;have he':=he.symm
   simp only[vae,Bool.not_eq_true',vaE,bne_iff_ne,ne_eq]at he';have hf:P.fieldsOf t=gs:=by simp[Program.fieldsOf,h2]
   rw[show d+(n+1)=(d+n)+1 from rfl,run_equalIn_agg _ (d+n) t _ _ (by rw[hf];exact h2) he'.1,hf];exact xy hT (d+n) (λt a b r x y=>Ge hT d n t a b r x y) hx hy _ _ he'.2 h
  simp at h
theorem zq{α:Type}{F:α->Option Bool->Option Bool}(hF:∀x,F x none=none){p:α->Prop}(hp:∀x acc r,F x acc=some r->p x):∀(xs:List α) {b r:Option Bool},xs.foldr F b=r->r≠none->∀x∈xs,p x
 |[],_,_,_,_,x,hx=>by simp at hx|y::ys,b,r,h,hr,x,hx=>by
  rw[List.foldr_cons]at h;cases hq:ys.foldr F b with
  |none=>rw[hq,hF]at h;exact absurd h.symm hr|some q=>
  rcases List.mem_cons.1 hx with rfl|hx
  .cases r with
   |none=>simp at hr|some r=>exact hp _ _ _ h
  exact zq hF hp ys hq (by simp) x hx
theorem zu(hT:jj P T):∀(n m t:Nat) (a b:AV) (r:Bool),D8 T n t a b=some r->n<=m->P.eqGuardType m t=false
 |0,m,t,a,b,r,h,_=>by simp[D8]at h|n+1,0,t,a,b,r,h,hm=>by omega|n+1,m+1,t,a,b,r,h,hm=>by
  unfold D8 at h;split at h
  .simp at h
  rename_i ti ht;obtain⟨i,ds,h1,h2,h3,h4,h5,h6⟩:=aL (hT.ti _ _ ht);rw[h5]at h;unfold Program.eqGuardType;rw[h2];cases ds<;>simp only[cX]at h ⊢;all_goals try rfl
  all_goals (try (exfalso;revert h;cases a<;>cases b<;>simp;done))
  .rename_i len e;cases a<;>(try (simp at h;done));cases b<;>(try (simp at h;done));simp only at h;cases hte:T e with
   |none=>simp[hte]at h|some te=>
   simp only[hte]at h;cases hl:Nat.beq len 0 with
   |true=>simp[hl]at h|false=>
   simp only[hl,cond_false]at h;have hall:=zq (p:=λ_=>P.eqGuardType m e=false) (λf=>by split<;>simp) (λf acc r hf=>by
    split at hf
    .split at hf
     .have hp:=‹D8 T n _ _ _=some _›;exact zu hT n m e _ _ _ hp (by omega)
     simp at hf
    simp at hf) _ h (by simp)
   exact hall 0 (by simp;have:=Nat.ne_of_beq_eq_false hl;omega)
  rename_i gs;cases a<;>(try (simp at h;done));cases b<;>(try (simp at h;done));simp only at h;cases hq:ti.eq with
  |false=>simp[hq]at h|true=>
  simp only[hq,cond_true]at h;have hall:=zq (p:=λf=>P.eqGuardType m f.2=false) (λf=>by split<;>(try split)<;>simp) (λf acc r hf=>by
   split at hf
   .split at hf
    .split at hf
     .have hp:=‹D8 T n _ _ _=some _›;exact zu hT n m f.2 _ _ _ hp (by omega)
     simp at hf
    simp at hf
   simp at hf) _ h (by simp)
  rw[Array.any_eq_false];intro k hk;have:=hall (gs[k].offset,gs[k].type) (List.mem_map.2 ⟨gs[k],by simp,rfl⟩)
  simp[this]
theorem zw{ev:Operand->AV}{ρ:Operand->Value}{ok:Nat->Prop}:∀(ps:List (Nat×Operand)),(∀p∈ps,ai β bx w ok (ev p.2) (ρ p.2))->c7 β bx w ok (ps.map λp=>(p.1,ev p.2)) (ps.map λp=>(p.1,ρ p.2))
 |[],_=>by simp[c7]|p::ps,h=>by simp only[List.map_cons,c7];exact⟨_,_,rfl,h p (by simp),zw ps (λq hq=>h q (by simp[hq]))⟩
theorem jk{ev:Operand->AV}{ρ:Operand->Value}{ok:Nat->Prop}:∀(xs:List Operand),(∀x∈xs,ai β bx w ok (ev x) (ρ x))->an β bx w ok (xs.map ev) (xs.map ρ)
 |[],_=>by simp[an]|x::xs,h=>by simp only[List.map_cons,an];exact⟨_,_,rfl,h x (by simp),jk xs (λq hq=>h q (by simp[hq]))⟩
theorem vD{t:TypeId}{ms:Array (String×TypeId)}(h:P.underlying t=some (.interface ms))(a:TypeId)(b:Value):(Op.equal t (.iface a b) .nilIface).run P w=.ok false w:=by simp only[Op.equal,Op.maxDepth];unfold Op.equalIn;simp[aX h]
theorem vE{t:TypeId}{ms:Array (String×TypeId)}(h:P.underlying t=some (.interface ms)):(Op.equal t .nilIface .nilIface).run P w=.ok true w:=by simp only[Op.equal,Op.maxDepth];unfold Op.equalIn;simp[aX h]
theorem Im{t:TypeId}{ms:Array (String×TypeId)}(h:P.underlying t=some (.interface ms))(a:TypeId)(b:Value):(Go.binOp .eql t (.iface a b) .nilIface).run P w=.ok (.bool false) w:=by simp only[Go.binOp];simp[vD h]
theorem Io{t:TypeId}{ms:Array (String×TypeId)}(h:P.underlying t=some (.interface ms))(a:TypeId)(b:Value):(Go.binOp .neq t (.iface a b) .nilIface).run P w=.ok (.bool true) w:=by simp only[Go.binOp];simp[vD h]
theorem Ip{t:TypeId}{ms:Array (String×TypeId)}(h:P.underlying t=some (.interface ms)):(Go.binOp .eql t .nilIface .nilIface).run P w=.ok (.bool true) w:=by simp only[Go.binOp];simp[vE h]
theorem Iq{t:TypeId}{ms:Array (String×TypeId)}(h:P.underlying t=some (.interface ms)):(Go.binOp .neq t .nilIface .nilIface).run P w=.ok (.bool false) w:=by simp only[Go.binOp];simp[vE h]
theorem Ir{t:Nat}{ti:TI}(ht:sy P t=some ti){z:List AV}(hz:ti.zero.cells?=some z){ok:Nat->Prop}:∃v,(zeroValue t).run P w=.ok v w/\ai β bx w ok ti.zero v:=by
 obtain⟨i,d,h1,h2,h3,h4,h5,h6⟩:=aL ht;cases BC:i.zero with
 |none=>rw[h6,BC]at hz;simp[AV.cells?]at hz|some v=>rw[h6,BC];exact⟨v,iD h1 BC,xg v⟩
theorem jN{ok:Nat->Prop}{xs:List AV}{vs:List Value}(hp:dH xs=true)(h:an β bx w ok xs vs)(f:Nat):B6 f vs=.func (.func f) #[] ⟨vs⟩:=by
 cases xs with
 |nil=>simp only[an]at h;subst h;rfl|cons x xs=>
  simp only[an]at h;obtain⟨u,us,rfl,h1,_⟩:=h;have:Lx u∨∃c,u=.agg c:=by
   simp only[dH,vaB]at hp;rcases hp with hp|hp
   .exact .inl (ai.sc hp h1)
   cases x<;>simp[AV.isAgg]at hp;simp only[ai]at h1;obtain⟨c,e,_⟩:=h1;exact .inr ⟨_,e⟩
  cases u<;>first|rfl|(rcases this with h|⟨c,h⟩;exact h.elim;cases h)
theorem gv{α γ:Type}(a:Array α)(f:α->γ):a.map f=⟨a.toList.map f⟩:=by apply Array.ext';simp
theorem Po(hT:jj P T)(cx:cB G β bx w X){ev:Operand->AV}{ρ:Operand->Value}{o:Oper}(hρ:∀x∈o.op.operands.toList,ai β bx w (bq β bx w X) (ev x) (ρ x))
 {c:Prop} {v:AV} {b:Option (List av)} (hr:m8 T ev o.op bx=some ⟨c,v,b⟩) (hc:c):dJ G β bx w X ((execOp ρ o).run P w) v (dU bx b):=by
 obtain⟨dst,op,type,pos,after,guard⟩:=o;simp only at hρ hr;unfold m8 at hr;split at hr
 ·
  simp only[R.pure,osI,R.mk.injEq]at hr;obtain⟨_,rfl,rfl⟩:=hr;exact dJ.pure cx rfl (hρ _ (by simp[Op.operands]))
 .simp only[R.pure,osI,R.mk.injEq]at hr;obtain⟨_,rfl,rfl⟩:=hr;exact dJ.pure cx rfl (hρ _ (by simp[Op.operands]))
 ·
  rename_i t;cases ht:T t with
  |none=>simp[ht]at hr|some ti=>
  simp only[ht]at hr;cases hz:ti.zero.cells? with
  |none=>simp[hz]at hr|some cs=>
  simp only[hz,osI,R.mk.injEq]at hr;obtain⟨_,rfl,rfl⟩:=hr;obtain⟨i,d,h1,h2,h3,h4,h5,h6⟩:=aL (hT.ti _ _ ht);cases BC:i.zero with
  |none=>rw[h6,BC]at hz;simp[AV.cells?]at hz|some z=>
  rw[h6,BC]at hz;obtain⟨β',w',k1,k2,k3⟩:=Ao (P:=P) cx t hz (xg z);refine⟨β',w',k2,k3,.inl ⟨.pointer (some ⟨β' bx.length,0,none⟩),?_,?_⟩⟩
  .exact bS _ (by simp[Instr.alloc,iD h1 BC,k1])
  simp only[ai];exact⟨hY,.var cs,by simp[dU],rfl⟩
 ·
  rename_i t x;cases hz:(ev x).cells? with
  |none=>simp[hz]at hr|some cs=>
  simp only[hz,osI,R.mk.injEq]at hr;obtain⟨_,rfl,rfl⟩:=hr;obtain⟨β',w',k1,k2,k3⟩:=Ao (P:=P) cx t hz (hρ x (by simp[Op.operands]));refine⟨β',w',k2,k3,.inl ⟨.pointer (some ⟨β' bx.length,0,none⟩),?_,?_⟩⟩
  .exact bS _ (by simp[Instr.box,k1])
  simp only[ai];exact⟨hY,.var cs,by simp[dU],rfl⟩
 ·
  rename_i t a;cases ht:T t with
  |none=>simp[ht]at hr|some ti=>
  simp only[ht]at hr;obtain⟨rfl,x,k1,k2⟩:=B8 (P:=P) hT cx ht (hρ a (by simp[Op.operands])) hr hc;exact dJ.pure cx (bS _ k1) k2
 ·
  rename_i t a x;cases ht:T t with
  |none=>simp[ht]at hr|some ti=>
  simp only[ht]at hr;obtain⟨rfl,aE,w',rfl,k1,k2,k3⟩:=Ic (P:=P) hT cx ht (hρ a (by simp[Op.operands])) (hρ x (by simp[Op.operands])) hr hc;exact⟨β,w',k2,k3,.inr ⟨by simp[execOp,k1],rfl⟩⟩
 ·
  rename_i t parts;obtain⟨rfl,u,k1,k2⟩:=Ik (P:=P) (w:=w) (β:=β) (bx:=bx) (X:=X) hT (vs:=parts.map λ(i,x)=>(i,ρ x))
   (by rw[Array.toList_map];exact zw _ (λp hp=>hρ p.2 (by simp[Op.operands];exact⟨p.1,by simpa using hp⟩))) hr
  exact dJ.pure cx (bS _ k1) k2
 ·
  rename_i t n parts;obtain⟨u,w',k1,k2,k3,k4⟩:=zo (P:=P) (w:=w) (β:=β) (bx:=bx) (X:=X) hT cx (vs:=parts.map λ(i,x)=>(i,ρ x))
   (by rw[Array.toList_map];exact zw _ (λp hp=>hρ p.2 (by simp[Op.operands];exact⟨p.1,by simpa using hp⟩))) hr
  exact⟨β,w',k2,k3,.inl ⟨u,bS _ k1,k4⟩⟩
 ·
  rename_i t x f;have hx:=hρ x (by simp[Op.operands])
  cases ht:T t with
  |none=>simp[ht]at hr|some ti=>
  simp only[ht]at hr;split at hr
  .rename_i o ft ho;cases hft:T ft with
   |none=>simp[hft]at hr|some tf=>
   simp only[hft]at hr;cases hs:Nat.beq tf.size 0 with
   |true=>simp[hs]at hr|false=>
   have hs':tf.size≠0:=by intro h;rw[h]at hs;simp at hs
   simp only[hs,cond_false]at hr;have place:=λblk off=>Ie (w:=w) (hT.ti _ _ ht) ho (hT.ti _ _ hft) hs' blk off
   split at hr
   .rename_i b' off he;simp only[R.pure,osI,R.mk.injEq]at hr;obtain⟨_,rfl,rfl⟩:=hr;rw[he]at hx;simp only[ai]at hx;obtain⟨hx,hb⟩:=hx;exact dJ.pure cx (bS _ (by rw[hx];exact place _ _)) (by simp only[ai];exact⟨hY,hb⟩)
   .rename_i b' sz i j he;simp only[R.pure,osI,R.mk.injEq]at hr;obtain⟨_,rfl,rfl⟩:=hr;rw[he]at hx;simp only[ai]at hx;obtain⟨hx,hb⟩:=hx;exact dJ.pure cx (bS _ (by rw[hx];exact place _ _)) (by simp only[ai];exact⟨by rw[Nat.add_assoc],hb⟩)
   .rename_i ds he;simp only[R.when,osI,R.mk.injEq]at hr;obtain⟨rfl,rfl,rfl⟩:=hr;rw[he]at hx;simp only[ai]at hx;obtain⟨blk,off,hx,hb,hrow⟩:=hx;exact dJ.pure cx (bS _ (by rw[hx];exact place _ _)) (by simp only[ai];exact⟨blk,off+o,rfl,hb,bg.drop _ _ _ hrow⟩)
   simp at hr
  simp at hr
 ·
  rename_i t x i;have hx:=hρ x (by simp[Op.operands])
  have hi:=hρ i (by simp[Op.operands]);cases ht:T t with
  |none=>simp[ht]at hr|some ti=>
  obtain⟨ii,d,h1,h2,h3,h4,h5,h6⟩:=aL (hT.ti _ _ ht);simp only[ht,h5]at hr;split at hr
  .rename_i n e kz z hk Yj;have hd:d=.array n e:=by cases d<;>simp[cX]at hk;obtain⟨rfl,rfl⟩:=hk;rfl
   subst hd;rw[Yj]at hi;simp only[ai,aP]at hi;split at hr
   .rename_i te hte;obtain⟨ei,ed,g1,g2,g3,g4,g5,g6⟩:=aL (hT.ti _ _ hte);have place:∀blk off,0<=z/\z<(n:Int)->(Instr.indexAt t (.pointer (some ⟨blk,off,none⟩)) (ρ i)).run P w=.ok (.pointer (some ⟨blk,off+z.toNat*te.size,none⟩)) w:=by intro blk off hz;simp[Instr.indexAt,hi,asIntOf,aX h2,Instr.sureAddr,hz.1,hz.2,cg g1,gu,g3]
    split at hr
    .rename_i b' off he;simp only[R.when,osI,R.mk.injEq]at hr;obtain⟨rfl,rfl,rfl⟩:=hr;rw[he]at hx;simp only[ai]at hx;obtain⟨hx,hb⟩:=hx;exact dJ.pure cx (bS _ (by rw[hx];exact place _ _ hc)) (by simp only[ai];exact⟨hY,hb⟩)
    .rename_i b' sz a j he;simp only[R.when,osI,R.mk.injEq]at hr;obtain⟨rfl,rfl,rfl⟩:=hr;rw[he]at hx;simp only[ai]at hx;obtain⟨hx,hb⟩:=hx;exact dJ.pure cx (bS _ (by rw[hx];exact place _ _ hc)) (by simp only[ai];exact⟨by rw[Nat.add_assoc],hb⟩)
    .rename_i ds he;simp only[R.when,osI,R.mk.injEq]at hr;obtain⟨rfl,rfl,rfl⟩:=hr;rw[he]at hx;simp only[ai]at hx;obtain⟨blk,off,hx,hb,hrow⟩:=hx;exact dJ.pure cx (bS _ (by rw[hx];exact place _ _ ⟨hc.1,hc.2.1⟩)) (by simp only[ai];exact⟨blk,_,rfl,hb,bg.drop _ _ _ hrow⟩)
    simp at hr
   simp at hr
  .rename_i e kz z hk Yj;cases d<;>simp[cX]at hk;subst hk;rw[Yj]at hi;simp only[ai,aP]at hi;split at hr
   .rename_i te b' sz n hte he;obtain⟨ei,ed,g1,g2,g3,g4,g5,g6⟩:=aL (hT.ti _ _ hte);cases hb:Nat.beq te.size sz with
    |false=>simp[hb]at hr|true=>
    have hb':=vaf hb;subst hb';simp only[hb,cond_true,R.when,osI,R.mk.injEq]at hr;obtain⟨rfl,rfl,rfl⟩:=hr;rw[he]at hx;simp only[ai]at hx;obtain⟨Is,hx⟩:=hx;rcases hx with⟨rfl,_⟩|⟨_,cap,_,_,_,hx,_⟩
    .simp at hc;omega
    exact dJ.pure cx (bS _ (by rw[hx];simp[Instr.indexAt,hi,asIntOf,aX h2,hc.1,hc.2,cg g1,gu];rfl)) (by simp only[ai];exact⟨by rw[g3];simp,Is⟩)
   simp at hr
  simp at hr
 ·
  rename_i t x f;have hx:=hρ x (by simp[Op.operands])
  cases ht:T t with
  |none=>simp[ht]at hr|some ti=>
  obtain⟨ii,d,h1,h2,h3,h4,h5,h6⟩:=aL (hT.ti _ _ ht);simp only[ht]at hr;split at hr
  .rename_i o ft ho;rw[h5]at ho;cases d<;>simp[cX,BT]at ho;rename_i fs;obtain⟨fl,hfl,rfl,rfl⟩:=ho;split at hr
   .rename_i tf cs hft he;split at hr
    .rename_i v' hsp;simp only[R.pure,osI,R.mk.injEq]at hr;obtain⟨_,rfl,rfl⟩:=hr;rw[he]at hx;simp only[ai]at hx;obtain⟨vs,hx,hvs⟩:=hx;obtain⟨u,k1,k2⟩:=pR (P:=P) (w:=w) (hT.ti _ _ hft) hsp hvs;exact dJ.pure cx (bS _ (by rw[hx];simp[Instr.field,aX h2,hfl,asAgg,k1])) k2
    simp at hr
   simp at hr
  simp at hr
 ·
  rename_i t x i;have hx:=hρ x (by simp[Op.operands])
  have hi:=hρ i (by simp[Op.operands]);cases ht:T t with
  |none=>simp[ht]at hr|some ti=>
  obtain⟨ii,d,h1,h2,h3,h4,h5,h6⟩:=aL (hT.ti _ _ ht);simp only[ht,h5]at hr;split at hr
  .rename_i s kz z hk aD Yj;cases d<;>simp[cX]at hk;simp only[R.when,osI,R.mk.injEq]at hr;obtain⟨rfl,rfl,rfl⟩:=hr;rw[aD]at hx;simp only[ai,aP]at hx;rw[Yj]at hi;simp only[ai,aP]at hi;have hlt:z.toNat<s.length:=by omega
   refine dJ.pure cx (u:=.int .u8 (s.getD z.toNat 0).toNat) (bS _ ?_) (by simp only[ai,aP]);rw[hx,hi];have hg:(⟨s.toArray⟩:ByteArray)[z.toNat]?=some (s.getD z.toNat 0):=by
    have hsz:z.toNat<(⟨s.toArray⟩:ByteArray).size:=by show z.toNat<s.toArray.size;simpa using hlt
    have hge:(⟨s.toArray⟩:ByteArray)[z.toNat]?=some ((⟨s.toArray⟩:ByteArray)[z.toNat]'hsz):=by show(if h:_ then _ else _)=_;rw[dif_pos hsz]
    rw[hge];simp only[vam,vaj hlt,Option.getD_some];rfl
   simp[Instr.index,asIntOf,aX h2,hc.1,hg]
  .rename_i n e cs kz z hk aD Yj;cases d<;>simp[cX]at hk;obtain⟨rfl,rfl⟩:=hk;rw[aD]at hx;simp only[ai]at hx;obtain⟨vs,hx,hvs⟩:=hx;rw[Yj]at hi;simp only[ai,aP]at hi;split at hr
   .rename_i te hte;obtain⟨ei,ed,g1,g2,g3,g4,g5,g6⟩:=aL (hT.ti _ _ hte);split at hr
    .rename_i v' hsp;simp only[R.when,osI,R.mk.injEq]at hr;obtain⟨rfl,rfl,rfl⟩:=hr;obtain⟨u,k1,k2⟩:=pR (P:=P) (w:=w) (hT.ti _ _ hte) hsp hvs;rw[g3]at k1;exact dJ.pure cx (bS _ (by rw[hx,hi];simp[Instr.index,asIntOf,aX h2,hc.1,hc.2,cg g1,k1])) k2
    simp at hr
   simp at hr
  simp at hr
 ·
  rename_i x i;have hx:=hρ x (by simp[Op.operands])
  split at hr
  .rename_i vs he;split at hr
   .rename_i v' hv;simp only[R.pure,osI,R.mk.injEq]at hr;obtain⟨_,rfl,rfl⟩:=hr;rw[he]at hx;simp only[ai]at hx;obtain⟨us,hx,U3⟩:=hx;obtain⟨u,k1,k2⟩:=an.get i _ U3 hv;exact dJ.pure cx (bS _ (by rw[hx];simp[Instr.extract,k1])) k2
   simp at hr
  simp at hr
 ·
  rename_i op t x y t2;have hx:=hρ x (by simp[Op.operands])
  have hy:=hρ y (by simp[Op.operands]);split at hr
  .rename_i xs ys Xt Xu;have key:∀r,D8 T 8 t (.agg xs) (.agg ys)=some r->(Op.equalIn 10000 t (ρ x) (ρ y)).run P w=.ok r w/\P.eqGuardType P.depth t=false:=by intro r he;exact⟨Ge (P:=P) (w:=w) hT 9992 8 t _ _ r _ _ he (by rw[<-Xt];exact hx) (by rw[<-Xu];exact hy),zu hT 8 _ t _ _ r he hT.deep⟩
   rw[Xt]at hx;rw[Xu]at hy;simp only[ai]at hx hy;obtain⟨us,ex,_⟩:=hx;obtain⟨vs,ey,_⟩:=hy;rw[ex,ey]at key;split at hr
   .cases he:D8 T 8 t (.agg xs) (.agg ys)with
    |none=>simp[he]at hr|some r=>
    simp only[he,Option.bind_some,R.pure,osI,R.mk.injEq]at hr;obtain⟨_,rfl,rfl⟩:=hr;obtain⟨k1,k2⟩:=key r he;exact dJ.pure cx (u:=.bool r) (bS _ (by simp[ex,ey,run_eqGuard_agg _ _ _ _ _ _ _ k2,run_eql_struct,k1])) (by simp only[ai,aP])
   .cases he:D8 T 8 t (.agg xs) (.agg ys)with
    |none=>simp[he]at hr|some r=>
    simp only[he,Option.bind_some,R.pure,osI,R.mk.injEq]at hr;obtain⟨_,rfl,rfl⟩:=hr;obtain⟨k1,k2⟩:=key r he;exact dJ.pure cx (u:=.bool (!r)) (bS _ (by simp[ex,ey,run_eqGuard_agg _ _ _ _ _ _ _ k2,run_neq_struct,k1])) (by simp only[ai,aP])
   simp at hr
  .rename_i p q Xt Xu;rw[Xt]at hx;rw[Xu]at hy;simp only[ai,aP]at hx hy;have guard:∀a b:Operand,(eqGuard op t a b (.bool p) (.bool q)).run P w=.ok () w:=by intro a b;simp only[eqGuard];split<;>simp
   split at hr
   .rename_i ti ht;obtain⟨ii,d,h1,h2,h3,h4,h5,h6⟩:=aL (hT.ti _ _ ht);split at hr
    .rename_i hk;rw[h5]at hk;cases d<;>simp[cX]at hk;simp only[R.pure,osI,R.mk.injEq]at hr;obtain⟨_,rfl,rfl⟩:=hr;exact dJ.pure cx (u:=.bool (p==q)) (bS _ (by simp[hx,hy,guard,run_eql_bool _ _ _ _ h2])) (by simp only[ai,aP])
    simp at hr
   .rename_i ti ht;obtain⟨ii,d,h1,h2,h3,h4,h5,h6⟩:=aL (hT.ti _ _ ht);split at hr
    .rename_i hk;rw[h5]at hk;cases d<;>simp[cX]at hk;simp only[R.pure,osI,R.mk.injEq]at hr;obtain⟨_,rfl,rfl⟩:=hr;exact dJ.pure cx (u:=.bool (!(p==q))) (bS _ (by simp[hx,hy,guard,run_neq_bool _ _ _ _ h2])) (by simp only[ai,aP])
    simp at hr
   simp at hr
  .rename_i t0 v0 Xt Xu;rw[Xt]at hx;rw[Xu]at hy;simp only[ai]at hx hy;obtain⟨u0,ex,_⟩:=hx;have ey:ρ y=.nilIface:=hy
   have guard:(eqGuard op t x y (.iface t0 u0) .nilIface).run P w=.ok () w:=by simp only[eqGuard];split<;>simp
   split at hr
   .rename_i ti ht;obtain⟨ii,d,h1,h2,h3,h4,h5,h6⟩:=aL (hT.ti _ _ ht);split at hr
    .rename_i hk;rw[h5]at hk;cases d<;>simp[cX]at hk;simp only[R.pure,osI,R.mk.injEq]at hr;obtain⟨_,rfl,rfl⟩:=hr;exact dJ.pure cx (u:=.bool false) (bS _ (by rw[ex,ey];simp[guard,Im h2])) (by simp only[ai,aP])
    simp at hr
   .rename_i ti ht;obtain⟨ii,d,h1,h2,h3,h4,h5,h6⟩:=aL (hT.ti _ _ ht);split at hr
    .rename_i hk;rw[h5]at hk;cases d<;>simp[cX]at hk;simp only[R.pure,osI,R.mk.injEq]at hr;obtain⟨_,rfl,rfl⟩:=hr;exact dJ.pure cx (u:=.bool true) (bS _ (by rw[ex,ey];simp[guard,Io h2])) (by simp only[ai,aP])
    simp at hr
   simp at hr
  .rename_i Xt Xu;rw[Xt]at hx;rw[Xu]at hy;have ex:ρ x=.nilIface:=hx
   have ey:ρ y=.nilIface:=hy;split at hr
   .rename_i cv;have guard:(eqGuard op t x (.const cv) .nilIface .nilIface).run P w=.ok () w:=by simp only[eqGuard];split<;>simp
    split at hr
    .rename_i ti ht;obtain⟨ii,d,h1,h2,h3,h4,h5,h6⟩:=aL (hT.ti _ _ ht);split at hr
     .rename_i hk;rw[h5]at hk;cases d<;>simp[cX]at hk;simp only[R.pure,osI,R.mk.injEq]at hr;obtain⟨_,rfl,rfl⟩:=hr;exact dJ.pure cx (u:=.bool true) (bS _ (by rw[ex,ey];simp[guard,Ip h2])) (by simp only[ai,aP])
     simp at hr
    .rename_i ti ht;obtain⟨ii,d,h1,h2,h3,h4,h5,h6⟩:=aL (hT.ti _ _ ht);split at hr
     .rename_i hk;rw[h5]at hk;cases d<;>simp[cX]at hk;simp only[R.pure,osI,R.mk.injEq]at hr;obtain⟨_,rfl,rfl⟩:=hr;exact dJ.pure cx (u:=.bool false) (bS _ (by rw[ex,ey];simp[guard,Iq h2])) (by simp only[ai,aP])
     simp at hr
    simp at hr
   simp at hr
  split at hr
  .rename_i c' d' hb;simp only[R.when,osI,R.mk.injEq]at hr;obtain⟨rfl,rfl,rfl⟩:=hr;obtain⟨u,k1,k2,k3⟩:=RD (P:=P) (w:=w) hb hc hx hy t;exact dJ.pure cx (bS _ (x:=u) (by simp[k1,k3])) (by simpa[ai]using k2)
  simp at hr
 ·
  rename_i op t x;have hx:=hρ x (by simp[Op.operands])
  cases hu:Z7 op (ev x)with
  |none=>simp[hu]at hr|some d'=>
  simp only[hu,Option.bind_some,R.pure,osI,R.mk.injEq]at hr;obtain⟨_,rfl,rfl⟩:=hr;obtain⟨u,k1,k2⟩:=U6 (P:=P) (w:=w) hu hx;exact dJ.pure cx (bS _ k1) (by simpa[ai]using k2)
 ·
  rename_i s d' x;obtain⟨rfl,u,w',k1,k2,k3,k4⟩:=LB (P:=P) hT cx (hρ x (by simp[Op.operands])) hr hc;exact⟨β,w',k2,k3,.inl ⟨u,bS _ k1,k4⟩⟩
 ·
  rename_i t x lo hi mx;split at hr
  .rename_i l h m hl hh hm;obtain⟨u,k1,k2,k3,k4⟩:=Ij (P:=P) hT cx (hρ x (by simp[Op.operands])) (qV hl (λy hy=>hρ y (by simp[Op.operands,hy]))) (qV hh (λy hy=>hρ y (by simp[Op.operands,hy])))
    (qV hm (λy hy=>hρ y (by simp[Op.operands,hy]))) hr hc
   exact⟨β,w,k2,k3,.inl ⟨u,bS _ k1,k4⟩⟩
  simp at hr
 ·
  rename_i f first cV
  have sg:=jk cV.toList (ev:=ev) (ρ:=ρ) (λy hy=>hρ y (by simp[Op.operands];exact .inr (by simpa using hy)));cases he:first.toList.isEmpty with
  |false=>
   simp only[he,cond_false,R.pure,osI,R.mk.injEq]at hr;obtain⟨_,rfl,rfl⟩:=hr;have Yk:=jk first.toList (ev:=ev) (ρ:=ρ) (λy hy=>hρ y (by simp[Op.operands];exact .inl (by simpa using hy)))
   refine dJ.pure cx (u:=.func (.func f) ⟨first.toList.map ρ⟩ ⟨cV.toList.map ρ⟩) (bS _ ?_) ?_
   .simp[Instr.makeFunc,gv cV ρ,gv first ρ]
   simp only[ai];exact⟨.tuple ⟨first.toList.map ρ⟩::cV.toList.map ρ,rfl,by simp only[an,ai];exact⟨_,_,rfl,⟨_,rfl,Yk⟩,sg⟩⟩
  |true=>
  cases hp:dH (cV.toList.map ev)with
  |false=>simp[he,hp]at hr|true=>
  simp only[he,hp,cond_true,R.pure,osI,R.mk.injEq]at hr;obtain⟨_,rfl,rfl⟩:=hr;have hf:first=#[]:=by apply Array.ext';simpa using he
  subst hf;refine dJ.pure cx (u:=.func (.func f) #[] ⟨cV.toList.map ρ⟩) (bS _ ?_) ?_
  .simp[Instr.makeFunc,gv cV ρ]
  simp only[ai];exact⟨_,(jN hp sg f).symm,sg⟩
 ·
  rename_i t x;have hx:=hρ x (by simp[Op.operands])
  split at hr
  .rename_i ti ht;obtain⟨ii,d,h1,h2,h3,h4,h5,h6⟩:=aL (hT.ti _ _ ht);cases hp:ti.kd.plain with
   |false=>simp[hp]at hr|true=>
   simp only[hp,cond_true,R.pure,osI,R.mk.injEq]at hr;obtain⟨_,rfl,rfl⟩:=hr;refine dJ.pure cx (u:=.iface t (ρ x)) (bS _ ?_) (by simp only[ai];exact⟨_,rfl,hx⟩);rw[h5]at hp;cases d<;>simp[cX,Kd.plain]at hp<;>simp[Instr.makeInterface,aX h2]
  simp at hr
 ·
  rename_i x xt u ok;have hx:=hρ x (by simp[Op.operands])
  split at hr
  .rename_i tu ht;obtain⟨ii,d,h1,h2,h3,h4,h5,h6⟩:=aL (hT.ti _ _ ht);cases hp:(tu.kd.plain&&tu.zero.cells?.isSome)with
   |false=>simp[hp]at hr|true=>
   simp only[hp,cond_true]at hr;simp only[vae]at hp;obtain⟨Pp,N4⟩:=hp;obtain⟨zc,Ye⟩:=Option.isSome_iff_exists.1 N4;obtain⟨z,z1,z2⟩:=Ir (P:=P) (β:=β) (bx:=bx) (w:=w) (ok:=bq β bx w X) (hT.ti _ _ ht) Ye;rw[h5]at Pp;split at hr
   .rename_i t v he;rw[he]at hx;simp only[ai]at hx;obtain⟨w1,ex,hw⟩:=hx;cases htu:Nat.beq t u with
    |true=>
     obtain rfl:=vaf htu;simp only[htu,cond_true,R.pure,osI,R.mk.injEq]at hr;obtain⟨_,rfl,rfl⟩:=hr;cases ok with
     |true=>refine dJ.pure cx (u:=.tuple #[w1,.bool true]) (bS _ ?_) (by simp only[cond_true,ai,an,aP];exact⟨_,rfl,_,_,rfl,hw,_,_,rfl,rfl,rfl⟩);rw[ex];cases d<;>simp[cX,Kd.plain]at Pp<;>simp[Instr.typeAssert,aX h2]
     |false=>refine dJ.pure cx (u:=w1) (bS _ ?_) (by simpa only[cond_false]using hw);rw[ex];cases d<;>simp[cX,Kd.plain]at Pp<;>simp[Instr.typeAssert,aX h2]
    |false=>
     have hne:t≠u:=Nat.ne_of_beq_eq_false htu;cases ok with
     |false=>simp[htu]at hr|true=>simp only[htu,cond_true,cond_false,R.pure,osI,R.mk.injEq]at hr;obtain⟨_,rfl,rfl⟩:=hr;refine dJ.pure cx (u:=.tuple #[z,.bool false]) (bS _ ?_) (by simp only[ai,an,aP];exact⟨_,rfl,_,_,rfl,z2,_,_,rfl,rfl,rfl⟩);rw[ex];cases d<;>simp[cX,Kd.plain]at Pp<;>simp[Instr.typeAssert,aX h2,hne,z1]
   .rename_i he;rw[he]at hx;have ex:ρ x=.nilIface:=hx
    cases ok with
    |false=>simp at hr|true=>simp only[cond_true,R.pure,osI,R.mk.injEq]at hr;obtain⟨_,rfl,rfl⟩:=hr;refine dJ.pure cx (u:=.tuple #[z,.bool false]) (bS _ ?_) (by simp only[ai,an,aP];exact⟨_,rfl,_,_,rfl,z2,_,_,rfl,rfl,rfl⟩);rw[ex];cases d<;>simp[cX,Kd.plain]at Pp<;>simp[Instr.typeAssert,aX h2,z1]
   simp at hr
  simp at hr
 ·
  rename_i x;have hx:=hρ x (by simp[Op.operands])
  split at hr
  .rename_i b' off he;simp only[R.pure,osI,R.mk.injEq]at hr;obtain⟨_,rfl,rfl⟩:=hr;rw[he]at hx;have hx':=hx
   simp only[ai]at hx';exact dJ.pure cx (u:=ρ x) (by simp[execOp,hx'.1]) hx
  .rename_i b' s i j he;simp only[R.pure,osI,R.mk.injEq]at hr;obtain⟨_,rfl,rfl⟩:=hr;rw[he]at hx;have hx':=hx
   simp only[ai]at hx';exact dJ.pure cx (u:=ρ x) (by simp[execOp,hx'.1]) hx
  .rename_i ds he;simp only[R.pure,osI,R.mk.injEq]at hr;obtain⟨_,rfl,rfl⟩:=hr;rw[he]at hx;have hx':=hx
   simp only[ai]at hx';obtain⟨blk,off,e,_⟩:=hx';exact dJ.pure cx (u:=ρ x) (by simp[execOp,e]) hx
  .rename_i f cs he;simp only[R.pure,osI,R.mk.injEq]at hr;obtain⟨_,rfl,rfl⟩:=hr;rw[he]at hx;have hx':=hx
   simp only[ai]at hx';obtain⟨vs,e,_⟩:=hx';obtain⟨a1,a2,e2⟩:=H8 f vs;rw[e2]at e;exact dJ.pure cx (u:=ρ x) (by simp[execOp,e]) hx
  simp at hr
 ·
  rename_i b' args ats;obtain⟨r,w',β',k1,k2,k3,k4⟩:=Ed (P:=P) hT cx (jk args.toList (λy hy=>hρ y (by simp[Op.operands,Call.operands];exact by simpa using hy))) hr hc type
   (args.map λ|.const _=>true|_=>false)
  refine⟨β',w',k2,k3,.inl ⟨r,?_,k4⟩⟩;simp only[execOp,resolve,Sem.run_bind,Sem.run_pure,Result.andThen_ok,invoke,gv args ρ];exact k1
 simp at hr
end
end Dem
end
section
open Go
namespace Dem
section
variable {P:Program}{T:Nat->Option TI}{G:Nat->Option (List D)}{β:Nat->Nat}{bx:List av}{w:World}{X:Nat->Prop}
theorem sR(zc:List Value):∀n:Nat,(Builtin.zeroCells ⟨zc⟩ n).toList=(List.replicate n zc).flatten
 |0=>by simp[Builtin.zeroCells]|n+1=>by
  have ih:=sR zc n;rw[List.replicate_succ',List.flatten_append,<-ih];simp only[Builtin.zeroCells,Array.toList_map,Array.toList_range];have hs:(⟨zc⟩:Array Value).size=zc.length:=rfl
  rw[hs,Nat.add_mul,Nat.one_mul,List.range_add,List.map_append];congr 1;apply List.ext_getElem?;intro i;simp only[vaG,vaA,List.flatten_cons,List.flatten_nil,List.append_nil];by_cases hi:i<zc.length
  .have hr:(List.range zc.length)[i]?=some i:=by rw[List.getElem?_range hi]
   rw[hr];simp only[vau,Function.comp];rw[Nat.mul_add_mod_self_right,Nat.mod_eq_of_lt hi];simp[hi]
  simp[vay (Nat.le_of_not_lt hi)];omega
theorem zx(hT:jj P T){e:Nat}{te:TI}(hte:T e=some te){z:List D}(hz:oG te=some z)(hok:fo te=true){ok:Nat->Prop}:
 ∃(ei:TypeInfo) (zv:Value) (zc:List Value),P.info? e=some ei/\ei.zero=some zv/\zv.cells=⟨zc⟩/\zc.length=ei.size/\z.length=te.size/\(∀u∈zc,Lx u)/\
  ∀n,an β bx w ok ((List.replicate n z).flatten.map .d) (Builtin.zeroCells ⟨zc⟩ n).toList:=by
 obtain⟨ei,ed,g1,g2,g3,g4,g5,g6⟩:=aL (hT.ti _ _ hte)
 obtain⟨za,hz1,Yh,hz3,hz4⟩:=nV hok
 simp only[oG,hz1]at hz
 obtain⟨zv,zc,k1,k2,k3,k4⟩:=xk (β:=β) (bx:=bx) (w:=w) (ok:=ok) (hT.ti _ _ hte) hz1
 have hzl:zc.length=ei.size:=by rw[an.length k3,Yh,g3]
 have BC:ei.zero=some zv:=by
  cases hq:ei.zero with
  |none=>rw[g6,hq]at hz1;simp[AV.cells?]at hz1|some q=>have:=iD (P:=P) (w:=w) g1 hq;rw[k1]at this;simp at this;rw[this]
 have vX:=uD hz k3
 refine⟨ei,zv,zc,g1,BC,k2,hzl,?_,k4,?_⟩
 .have:=an.length vX;simp at this;omega
 intro n
 rw[sR]
 induction n with
 |zero=>simp[an]|succ n ih=>
  simp only[List.replicate_succ,List.flatten_cons,List.map_append]
  exact an.append vX ih
theorem vF{sz:Nat}:∀(n:Nat) (es:List (List D)),(∀r∈es,r.length=sz)->es.flatten.take (n*sz)=(es.take n).flatten
 |0,es,_=>by simp|n+1,[],_=>by simp|n+1,r::rs,h=>by
  have hr:r.length=sz:=h r (by simp);have ih:=vF n rs (λx hx=>h x (by simp[hx]))
  simp only[List.flatten_cons,List.take_succ_cons];rw[show(n+1)*sz=r.length+n*sz by rw[hr,Nat.add_mul];omega,List.take_length_add_append,ih]
theorem vG{sz:Nat}:∀(n:Nat) (es:List (List D)),(∀r∈es,r.length=sz)->es.flatten.drop (n*sz)=(es.drop n).flatten
 |0,es,_=>by simp|n+1,[],_=>by simp|n+1,r::rs,h=>by
  have hr:r.length=sz:=h r (by simp);have ih:=vG n rs (λx hx=>h x (by simp[hx]))
  simp only[List.flatten_cons,List.drop_succ_cons];rw[show(n+1)*sz=r.length+n*sz by rw[hr,Nat.add_mul];omega,List.drop_length_add_append,ih]
theorem Pq(cx:cB G β bx w X){b size off:Nat}{es xs:List (List D)}{c:Array Value}{e:TypeId}{us:List Value}(hb:bx[b]?=some (.row size es))(hne:es≠[])
 (hh:w.heap[β b]?=some (.cells c e (0,0))) (ho:off<=es.length) (hl:∀r∈xs,r.length=size) (hu:an β bx w (bq β bx w X) (xs.flatten.map .d) us) (U3:us.length=xs.length*size)
 (hfit:(off+xs.length)*size<=c.size):
 Ext β bx w β (bx.set b (.row size (wrote es off xs))) (eR w (β b) (.cells ⟨bu c.toList (off*size) us⟩ e (0,0)))/\
  cB G β (bx.set b (.row size (wrote es off xs))) (eR w (β b) (.cells ⟨bu c.toList (off*size) us⟩ e (0,0))) X:=by
 have cH:(av.row size es).live=true:=by cases es<;>simp_all[av.live]
 have hsz:(⟨bu c.toList (off*size) us⟩:Array Value).size=c.size:=by simp[dz]
 have ex:=nR (B':=.row size (wrote es off xs)) (c':=⟨bu c.toList (off*size) us⟩) hb cH hh hsz rfl
 refine⟨ex,vT cx hb cH hh hsz rfl (.inr ⟨_,e,eG hh,?_⟩)⟩
 rcases cx.box _ _ hb with h0|⟨c2,e2,j1,j2⟩
 .exact absurd h0 hne
 rw[hh]at j1
 simp only[osI,Obj.cells.injEq]at j1
 obtain⟨rfl,rfl,_⟩:=j1
 have An:=ax.lens _ _ j2
 obtain⟨Gc,v1,v2,v3⟩:=lu (β:=β) (bx:=bx) es 0 j2
 obtain⟨rest,sb⟩:=qT hh v2
 have hcs:c.size=Gc.length+rest.length:=by have:=vac List.length sb;simpa using this
 have hoff:off*size<=Gc.length:=by rw[v1];exact Nat.mul_le_mul_right _ ho
 rw[Nat.add_mul]at hfit
 have hsp:bu c.toList (off*size) us=Gc.take (off*size)++us++Gc.drop (off*size+us.length)++rest.drop (off*size+us.length-Gc.length):=by rw[nU _ _ _ (by simp;omega),sb,List.take_append_of_le_length hoff,List.drop_append];simp[vas]
 have vX:an β bx w (bq β bx w X) ((wrote es off xs).flatten.map .d) (Gc.take (off*size)++us++Gc.drop (off*size+us.length)):=by
  unfold wrote;rw[List.flatten_append,List.flatten_append,List.map_append,List.map_append];refine an.append (an.append ?_ hu) ?_
  .rw[<-vF off es An,List.map_take];exact an.take _ v3
  rw[<-vG _ es An,List.map_drop,Nat.add_mul,<-U3];exact an.drop _ v3
 refine oJ (β:=β) (bx:=bx.set b (.row size (wrote es off xs))) _ 0 _ ?_ ?_ (an.mono (ex.dL X) _ _ vX)
 .intro r hr;unfold wrote at hr;rcases List.mem_append.1 hr with hr|hr
  .rcases List.mem_append.1 hr with hr|hr
   .exact An r (van hr)
   exact hl r hr
  exact An r (List.mem_of_mem_drop hr)
 intro k u hk
 have hk':k<(Gc.take (off*size)++us++Gc.drop (off*size+us.length)).length:=by
  rcases Nat.lt_or_ge k (Gc.take (off*size)++us++Gc.drop (off*size+us.length)).length with h|h
  .exact h
  rw[vay h]at hk;simp at hk
 simp only[World.cell?,eG hh,Nat.zero_add]
 have:(bu c.toList (off*size) us)[k]?=some u:=by rw[hsp,vaz hk'];exact hk
 simpa using this
theorem fu{t:Nat}{te:TI}(h:elemOf T t=some te):∃ti e,T t=some ti/\ti.kd=.slice e/\T e=some te:=by
 unfold elemOf at h;split at h
 .rename_i ti ht;split at h
  .rename_i e hk;exact⟨ti,e,ht,hk,h⟩
  simp at h
 simp at h
theorem gw(hT:jj P T){t e:Nat}{ti:TI}(ht:T t=some ti)(hk:ti.kd=.slice e):P.underlying t=some (.slice e):=by obtain⟨i,d,h1,h2,h3,h4,h5,h6⟩:=aL (hT.ti _ _ ht);rw[hk]at h5;cases d<;>simp[cX]at h5;subst h5;exact h2
theorem Cj{ok:Nat->Prop}{x:AV}{b sz off n c:Nat}{ex:Bool}{u:Value}(hx:viewAt x=some (b,sz,off,n,c,ex))(h:ai β bx w ok x u):
 ∃base cap,u=.slice base n cap/\n<=cap/\(cap=0∨base=some ⟨β b,off*sz,none⟩/\∃cs e f,w.heap[β b]?=some (.cells cs e f)/\(off+cap)*sz<=cs.size):=by
 cases x with
 |vw b' sz' off' n' c' qL=>
  simp only[viewAt,osI,vab]at hx
  obtain⟨rfl,rfl,rfl,rfl,rfl,rfl⟩:=hx
  simp only[ai]at h
  obtain⟨_,base,cap,cs,e,f,rfl,h1,_,_,h4⟩:=h
  exact⟨base,cap,rfl,h1,h4.imp id λ⟨k1,k2,k3⟩=>⟨k1,cs,e,f,k2,k3⟩⟩
 |ow b' sz' n'=>
  simp only[viewAt,osI,vab]at hx
  obtain⟨rfl,rfl,rfl,rfl,rfl,rfl⟩:=hx
  simp only[ai]at h
  obtain⟨_,⟨rfl,base,rfl⟩|⟨h0,cap,cs,e,f,rfl,h1,h2,h3⟩⟩:=h
  .exact⟨base,0,rfl,vad _,.inl rfl⟩
  exact⟨_,cap,rfl,h1,.inr ⟨by simp,cs,e,f,h2,by simpa using h3⟩⟩
 |_=>simp[viewAt]at hx
theorem pT(cx:cB G β bx w X){y:AV}{uy:Value}{xs:List (List D)}(hx:ai β bx w (bq β bx w X) y uy)(hrows:y.rows bx=some xs):
 ∃base cap,uy=.slice base xs.length cap/\(xs=[]∨∃blk off sz,base=some ⟨blk,off,none⟩/\ax w (bq β bx w X) blk sz xs off):=by
 by_cases how:∃b sz n,y=.ow b sz n
 .obtain⟨b,sz,n,rfl⟩:=how;obtain⟨hn,base,cap,rfl,h1,h2⟩:=wZ cx hrows hx;refine⟨base,cap,rfl,?_⟩;rcases h2 with⟨h2,_⟩|⟨_,rfl,h2,_⟩
  .exact .inl h2
  exact .inr ⟨β b,0,sz,rfl,h2⟩
 cases hv:y.wV with
 |true=>
  cases y with
  |vw b sz off n c ex=>
   simp only[AV.rows]at hrows
   split at hrows
   .rename_i s es' hb;obtain⟨rfl,hle,rfl⟩:=Ey hrows;obtain⟨base,cap,rfl,h1,h2⟩:=qR (LA:=bq β bx w X) hle ((cx.box b _ hb).imp id λ⟨_,_,_,g⟩=>g) hx;exact⟨base,cap,rfl,h2.imp id λ⟨a,c⟩=>⟨β b,off*s,s,a,c⟩⟩
   .rename_i s es' hb;obtain⟨rfl,hle,rfl⟩:=Ey hrows;obtain⟨base,cap,rfl,h1,h2⟩:=qR (LA:=bq β bx w X) hle ((cx.box b _ hb).imp id λ⟨_,g⟩=>g) hx;exact⟨base,cap,rfl,h2.imp id λ⟨a,c⟩=>⟨β b,off*s,s,a,c⟩⟩
   simp at hrows
  |_=>simp[AV.wV]at hv
 |false=>
  obtain⟨base,cap,rfl,h1,h2⟩:=Ca (λb sz n e=>how ⟨b,sz,n,e⟩) hv hrows hx
  exact⟨base,cap,rfl,h2.imp id λ⟨blk,off,sz,a,_,c⟩=>⟨blk,off,sz,a,c⟩⟩
theorem N7{ok:Nat->Prop}{base:Option Addr}{zs:List (List D)}{k size:Nat}(h:zs=[]∨∃blk off sz,base=some ⟨blk,off,none⟩/\ax w ok blk sz zs off)(hs:∀r∈zs.take k,r.length=size)(hk:0<k):∀r∈zs,r.length=size:=by
 rcases h with rfl|⟨blk,off,sz,_,hr⟩
 .simp
 cases zs with
 |nil=>simp|cons z zs=>
  have hl:=ax.lens _ _ hr;have h1:z.length=size:=hs z (by cases k with|zero=>omega|succ k=>simp)
  have h2:=hl z (by simp);intro r hr';rw[hl r hr',<-h2,h1]
theorem RN{b sz off n c m:Nat}{ex:Bool}{N1:List (List D)}{LA:Nat->Prop}{u:Value}{ok:Nat->Prop}(hm:m<=n)(hn:off+m<=N1.length)(hrows:N1=[]∨ax w LA (β b) sz N1 0)(h:ai β bx w ok (.vw b sz off n c ex) u):
 ∃base cap,u=.slice base n cap/\((N1.drop off).take m=[]∨base=some ⟨β b,off*sz,none⟩/\ax w LA (β b) sz ((N1.drop off).take m) (off*sz)):=by
 simp only[ai]at h;obtain⟨_,base,cap,cs,e,f,rfl,h1,h2,h3,h4⟩:=h;refine⟨base,cap,rfl,?_⟩;by_cases hn0:m=0
 .subst hn0;exact .inl (by simp)
 right;rcases h4 with h4|⟨h4,_⟩
 .omega
 refine⟨h4,?_⟩;rcases hrows with rfl|hrows
 .simp at hn;omega
 have:=ax.Ib m _ _ (ax.Rz off _ _ hrows);simpa using this
theorem Ar(cx:cB G β bx w X){size:Nat}{x:AV}{ux:Value}{xs:List (List D)}(hx:ai β bx w (bq β bx w X) x ux)(hr:mu size x bx=some xs)(hs:∀r∈xs,r.length=size){m:Nat}(hm:m<=xs.length):
 ∃us,(Builtin.lenOf ux).run P w=.ok xs.length w/\us.length=m*size/\(Builtin.firstCells size m ux).run P w=.ok ⟨us⟩ w/\an β bx w (bq β bx w X) ((xs.take m).flatten.map .d) us:=by
 have slc:x.rows bx=some xs->∃us,(Builtin.lenOf ux).run P w=.ok xs.length w/\us.length=m*size/\(Builtin.firstCells size m ux).run P w=.ok ⟨us⟩ w/\an β bx w (bq β bx w X) ((xs.take m).flatten.map .d) us:=by
  intro hrows;obtain⟨base,cap,rfl,h2⟩:=pT cx hx hrows;have hml:(xs.take m).length=m:=by simp;omega
  have Ve:xs.take m=[]∨∃blk off sz,base=some ⟨blk,off,none⟩/\ax w (bq β bx w X) blk sz (xs.take m) off:=by
   rcases h2 with rfl|⟨blk,off,sz,h3,h4⟩
   .left;simp
   exact .inr ⟨blk,off,sz,h3,ax.take _ _ _ h4⟩
  obtain⟨us,f1,f2⟩:=eD (P:=P) (β:=β) (bx:=bx) (cap:=cap) (base:=base) (es:=xs.take m) (ok:=bq β bx w X) (size:=size) (λr hr=>hs r (van hr)) Ve;rw[hml]at f1;have:=(f1.2.2 w (λ_ _=>rfl)).2
  refine⟨us,dA,f1.2.1,?_,f2⟩;cases base<;>exact this
 cases x with
 |d y=>
  cases y with
  |str s=>
   simp only[mu]at hr
   cases hb:Nat.beq size 1 with
   |false=>simp[hb]at hr|true=>
    have:=vaf hb
    subst this
    simp only[hb,cond_true,osI]at hr
    subst hr
    simp only[ai,aP]at hx;subst hx
    simp only[lgM]at hm ⊢
    obtain⟨us,f1,f2⟩:=vC (P:=P) (β:=β) (bx:=bx) (w:=w) (X:=X) (s.take m)
    have hml:(s.take m).length=m:=by simp;omega
    rw[hml]at f1
    have h3:=(f1.2.2 w (λ_ _=>rfl)).2
    refine⟨us,by simp[Builtin.lenOf,ByteArray.size],f1.2.1,?_,by simpa[List.map_take]using f2⟩
    have e1:(⟨s.toArray⟩:ByteArray).extract 0 m=(⟨(s.take m).toArray⟩:ByteArray).extract 0 m:=by rw[Lib.extract_eq,Lib.extract_eq];simp[List.take_take]
    have e2:Builtin.firstCells 1 m (.string ⟨s.toArray⟩)=Builtin.firstCells 1 m (.string ⟨(s.take m).toArray⟩):=by simp only[Builtin.firstCells,e1]
    rw[e2];exact h3
  |_=>exact slc hr
 |_=>exact slc hr
theorem Iu(cx:cB G β bx w X){size n m:Nat}{y:AV}{uy:Value}{cy:Prop}{xs:List (List D)}(hx:ai β bx w (bq β bx w X) y uy)(hr:wW size y n bx=some (cy,m,xs))(hc:cy)(hs:∀r∈xs,r.length=size):
 ∃us l,(Builtin.lenOf uy).run P w=.ok l w/\Nat.min l n=m/\xs.length=m/\us.length=m*size/\(Builtin.firstCells size m uy).run P w=.ok ⟨us⟩ w/\an β bx w (bq β bx w X) (xs.flatten.map .d) us:=by
 have gen:y.wV=false->(match mu size y bx with
  |some xs=>some (True,min xs.length n,xs.take (min xs.length n))|none=>none)=some (cy,m,xs)->∃us l,(Builtin.lenOf uy).run P w=.ok l w/\Nat.min l n=m/\xs.length=m/\us.length=m*size/\(Builtin.firstCells size m uy).run P w=.ok ⟨us⟩ w/\an β bx w (bq β bx w X) (xs.flatten.map .d) us:=by
  intro hv hr;have hs0:∀zs,mu size y bx=some zs->∃us l,(Builtin.lenOf uy).run P w=.ok l w/\Nat.min l n=m/\xs.length=m/\us.length=m*size/\(Builtin.firstCells size m uy).run P w=.ok ⟨us⟩ w/\an β bx w (bq β bx w X) (xs.flatten.map .d) us:=by
   intro zs hzs;simp only[hzs,osI,vab]at hr;obtain⟨_,rfl,rfl⟩:=hr;have hml:(zs.take (min zs.length n)).length=min zs.length n:=by simp
   by_cases hm0:min zs.length n=0
   ·
    rw[hm0];have hl:∃l,(Builtin.lenOf uy).run P w=.ok l w/\l=zs.length/\(Builtin.firstCells size 0 uy).run P w=.ok ⟨[]⟩ w:=by
     cases y with
     |d q=>
      cases q with
      |str s=>
       simp only[ai,aP]at hx;subst hx;simp only[mu]at hzs;cases hb:Nat.beq size 1 with
       |false=>simp[hb]at hzs|true=>
        simp only[hb,cond_true,osI]at hzs;subst hzs;refine⟨s.length,by simp[Builtin.lenOf,ByteArray.size],by simp,?_⟩;have e:(⟨s.toArray⟩:ByteArray).extract 0 0=⟨#[]⟩:=by rw[Lib.extract_eq];simp
        simp[Builtin.firstCells]
      |_=>obtain⟨base,cap,rfl,_⟩:=pT cx hx hzs;exact⟨_,dA,rfl,by cases base<;>simp[Builtin.firstCells,loadCells,loadCellsFrom]⟩
     |_=>obtain⟨base,cap,rfl,_⟩:=pT cx hx hzs;exact⟨_,dA,rfl,by cases base<;>simp[Builtin.firstCells,loadCells,loadCellsFrom]⟩
    obtain⟨l,h1,rfl,h2⟩:=hl;exact⟨[],_,h1,hm0,by simp,by simp,h2,by simp[an]⟩
   have hall:∀r∈zs,r.length=size:=by
    cases y with
    |d q=>
     cases q with
     |str s=>
      simp only[mu]at hzs;cases hb:Nat.beq size 1 with
      |false=>simp[hb]at hzs|true=>have:=vaf hb;simp only[hb,cond_true,osI]at hzs;subst hzs;intro r hr;obtain⟨b,_,rfl⟩:=List.mem_map.1 hr;simp[uo,this]
     |_=>obtain⟨base,cap,rfl,h2⟩:=pT cx hx hzs;exact N7 h2 hs (by omega)
    |_=>obtain⟨base,cap,rfl,h2⟩:=pT cx hx hzs;exact N7 h2 hs (by omega)
   obtain⟨us,k1,k2,k3,k4⟩:=Ar (P:=P) cx hx hzs hall (m:=min zs.length n) (by omega);exact⟨us,_,k1,rfl,hml,k2,k3,k4⟩
  cases hz:mu size y bx with
  |none=>simp[hz]at hr|some zs=>exact hs0 zs hz
 have vw:∀(b sz off n2 c:Nat) (ex:Bool) (s:Nat) (es:List (List D)) (LA:Nat->Prop),y=.vw b sz off n2 c ex->(es=[]∨ax w (bq β bx w X) (β b) s es 0)->(bif Nat.beq s sz then some (off+min n2 n<=es.length,min n2 n,(es.drop off).take (min n2 n))else none)=some (cy,m,xs)->
  ∃us l,(Builtin.lenOf uy).run P w=.ok l w/\Nat.min l n=m/\xs.length=m/\us.length=m*size/\(Builtin.firstCells size m uy).run P w=.ok ⟨us⟩ w/\an β bx w (bq β bx w X) (xs.flatten.map .d) us:=by
  intro b sz off n2 c ex s es LA hy hrows hq;subst hy;cases hsz:Nat.beq s sz with
  |false=>simp[hsz]at hq|true=>
  have Vf:=vaf hsz
  subst Vf
  simp only[hsz,cond_true,osI,vab]at hq
  obtain⟨rfl,rfl,rfl⟩:=hq
  obtain⟨base,cap,rfl,h2⟩:=RN (LA:=bq β bx w X) (m:=min n2 n) (by omega) hc hrows hx
  have hml:((es.drop off).take (min n2 n)).length=min n2 n:=by simp;omega
  obtain⟨us,f1,f2⟩:=eD (P:=P) (β:=β) (bx:=bx) (cap:=cap) (base:=base) (es:=(es.drop off).take (min n2 n)) (ok:=bq β bx w X) (size:=size) hs (h2.imp id λ⟨a,c⟩=>⟨β b,off*s,s,a,c⟩)
  rw[hml]at f1
  have:=(f1.2.2 w (λ_ _=>rfl)).2
  refine⟨us,n2,dA,rfl,hml,f1.2.1,?_,f2⟩
  cases base<;>exact this
 unfold wW at hr;split at hr
 .rename_i b sz off n2 c ex;split at hr
  .rename_i s es hb;exact vw b sz off n2 c ex s es (λ_=>True) rfl ((cx.box b _ hb).imp id λ⟨_,_,_,g⟩=>g) hr
  .rename_i s es hb;exact vw b sz off n2 c ex s es (λ_=>True) rfl ((cx.box b _ hb).imp id λ⟨_,g⟩=>g) hr
  simp at hr
 rename_i hnv;refine gen ?_ hr;cases y<;>first|rfl|exact absurd rfl (hnv _ _ _ _ _ _)
end
end Dem
end
section
open Go
namespace Dem
section
variable {P:Program}{T:Nat->Option TI}{G:Nat->Option (List D)}{β:Nat->Nat}{bx:List av}{w:World}{X:Nat->Prop}
theorem Ck(cx:cB G β bx w X){b sz k:Nat}{es xs:List (List D)}{us:List Value}(hb:bx[b]?=some (.row sz es))(hne:es≠[])(hk:k<=es.length)(hl:∀r∈xs,r.length=sz)
 (hu:an β bx w (bq β bx w X) (xs.flatten.map .d) us) (U3:us.length=xs.length*sz) {cs:Array Value} {e:TypeId} {f:Nat×Nat} (hh:w.heap[β b]?=some (.cells cs e f)) (hfit:(k+xs.length)*sz<=cs.size):
 ∃w',(storeCells ⟨β b,k*sz,none⟩ us 0).run P w=.ok () w'/\Ext β bx w β (bx.set b (.row sz (wrote es k xs))) w'/\cB G β (bx.set b (.row sz (wrote es k xs))) w' X:=by
 have hh':w.heap[β b]?=some (.cells cs e (0,0)):=by
  rcases cx.box _ _ hb with h0|⟨c2,e2,j1,j2⟩
  .exact absurd h0 hne
  rw[hh]at j1;simp only[osI,Obj.cells.injEq]at j1;obtain⟨rfl,rfl,rfl⟩:=j1;exact hh
 have hf:=hfit;rw[Nat.add_mul]at hf;have hrun:=kw (P:=P) (off:=k*sz) us 0 w cs hh' (an.sc (N5 _) hu) (by omega)
 simp only[Nat.add_zero]at hrun;exact⟨_,hrun,Pq cx hb hne hh' hk hl hu U3 hfit⟩
theorem zy{es:List (List D)}{k:Nat}:wrote es k []=es:=by simp[wrote]
theorem Cl{b:Nat}{B:av}(h:bx[b]?=some B):bx.set b B=bx:=by
 apply List.ext_getElem?;intro i;rw[List.getElem?_set];split
 .rename_i hi;subst hi;split
  .exact h.symm
  rename_i hlt;exact absurd (kx h) hlt
 rfl
theorem LD(hT:jj P T)(cx:cB G β bx w X){t e:Nat}{te:TI}(ht:P.underlying t=some (.slice e))(hte:T e=some te){x y:AV}{ux uy:Value}(hx:ai β bx w (bq β bx w X) x ux)(hy:ai β bx w (bq β bx w X) y uy)
 {c:Prop} {v:AV} {b:Option (List av)} (hr:Et te x y bx=some ⟨c,v,b⟩) (hc:c) (ats:List Nat) (ty:Nat):
 ∃r w',(Builtin.copy_ ⟨t::ats⟩ ty ⟨[ux,uy]⟩).run P w=.ok r w'/\Ext β bx w β (dU bx b) w'/\cB G β (dU bx b) w' X/\ai β (dU bx b) w' (bq β (dU bx b) w' X) v r:=by
 obtain⟨ei,ed,g1,g2,g3,g4,g5,g6⟩:=aL (hT.ti _ _ hte);unfold Et at hr;split at hr
 .rename_i bb sz off n c0 vp hv;split at hr
  .rename_i s es cy m xs hb hxs;cases h1:Nat.beq s sz with
   |false=>simp[h1]at hr|true=>
   cases h2:Nat.beq sz te.size with
   |false=>simp[h1,h2]at hr|true=>
   have Iv:=vaf h1;have Ve:=vaf h2
   subst Iv Ve;simp only[h1,Bool.and_self,cond_true,osI,R.mk.injEq]at hr;obtain⟨rfl,rfl,rfl⟩:=hr;obtain⟨hcy,⟨hoff,Gf⟩,hlen⟩:=hc;obtain⟨base,cap,rfl,hn,hcap⟩:=Cj hv hx;obtain⟨us,l,k1,hmn,hml,k2,k3,k4⟩:=Iu (P:=P) cx hy hxs hcy hlen;have agu:m<=n:=by rw[<-hmn];exact Nat.min_le_right _ _
   rw[g3]at k3;by_cases hm0:m=0
   .have Vg:us=[]:=by rw[hm0]at k2;simpa using k2
    subst Vg;have ac7:xs=[]:=by rw[hm0]at hml;simpa using hml
    have hw:bx.set bb (.row te.size (wrote es off xs))=bx:=by rw[ac7,zy];exact Cl hb
    refine⟨.int .i64 (m:Nat),w,?_,?_,?_,?_⟩
    .cases base<;>simp[Builtin.copy_,aX ht,cg g1,k1,hmn,k3,storeCells,goInt]
    .simp only[dU,hw];exact Ext.refl _ _ _
    .simp only[dU,hw];exact cx
    simp only[ai,aP]
   have hne:es≠[]:=λh=>hm0 (Gf h);rcases hcap with hcap|⟨rfl,cs,ce,cf,j1,j2⟩
   .omega
   have hfit:(off+xs.length)*te.size<=cs.size:=by rw[hml];exact Nat.le_trans (Nat.mul_le_mul_right _ (by omega)) j2
   obtain⟨w',r1,r2,r3⟩:=Ck (P:=P) cx hb hne hoff hlen k4 (by rw[hml];exact k2) j1 hfit;refine⟨.int .i64 (m:Nat),w',?_,r2,r3,by simp only[ai,aP]⟩;simp[Builtin.copy_,aX ht,cg g1,k1,hmn,k3,r1,goInt]
  simp at hr
 simp at hr
theorem Iw(hT:jj P T)(cx:cB G β bx w X){t e:Nat}{te:TI}(ht:P.underlying t=some (.slice e))(hte:T e=some te){x:AV}{ux:Value}(hx:ai β bx w (bq β bx w X) x ux)
 {c:Prop} {v:AV} {b:Option (List av)} (hr:F5 te x bx=some ⟨c,v,b⟩) (hc:c) (ats:List Nat) (ty:Nat):
 ∃r w',(Builtin.clear_ ⟨t::ats⟩ ty ⟨[ux]⟩).run P w=.ok r w'/\Ext β bx w β (dU bx b) w'/\cB G β (dU bx b) w' X/\ai β (dU bx b) w' (bq β (dU bx b) w' X) v r:=by
 unfold F5 at hr;split at hr
 .rename_i bb sz off n c0 vp hv;split at hr
  .rename_i s es z hb hz;cases h1:Nat.beq s sz with
   |false=>simp[h1]at hr|true=>
   cases h2:Nat.beq sz te.size with
   |false=>simp[h1,h2]at hr|true=>
   cases h3:fo te with
   |false=>simp[h1,h2,h3]at hr|true=>
   have Iv:=vaf h1;have Ve:=vaf h2
   subst Iv Ve;simp only[h1,h3,Bool.and_self,cond_true,osI,R.mk.injEq]at hr;obtain⟨rfl,rfl,rfl⟩:=hr;obtain⟨hoff,Gf⟩:=hc;obtain⟨base,cap,rfl,hn,hcap⟩:=Cj hv hx;obtain⟨ei,zv,zc,g1,g2,g3,g4,g5,g6,g7⟩:=zx (P:=P) (β:=β) (bx:=bx) (w:=w) hT hte hz h3 (ok:=bq β bx w X);by_cases hm0:n=0
   .subst hm0;have hw:bx.set bb (.row te.size (wrote es off (List.replicate 0 z)))=bx:=by rw[List.replicate_zero,zy];exact Cl hb
    refine⟨.tuple #[],w,?_,?_,?_,?_⟩
    .cases base<;>simp[Builtin.clear_,aX ht]
    .simp only[dU,hw];exact Ext.refl _ _ _
    .simp only[dU,hw];exact cx
    simp only[ai];exact⟨[],rfl,by simp[an]⟩
   have hne:es≠[]:=λh=>hm0 (Gf h);rcases hcap with hcap|⟨rfl,cs,ce,cf,j1,j2⟩
   .omega
   have hfit:(off+(List.replicate n z).length)*te.size<=cs.size:=by rw[vaH];exact Nat.le_trans (Nat.mul_le_mul_right _ (by omega)) j2
   have hzl:(Builtin.zeroCells ⟨zc⟩ n).toList.length=(List.replicate n z).length*te.size:=by have:=an.length (g7 n);rw[this];simp[g5]
   obtain⟨w',r1,r2,r3⟩:=Ck (P:=P) cx hb hne hoff (λr hr=>by rw[List.eq_of_mem_replicate hr];exact g5) (g7 n) hzl j1 hfit;refine⟨.tuple #[],w',?_,r2,r3,by simp only[ai];exact⟨[],rfl,by simp[an]⟩⟩;obtain⟨n',rfl⟩:∃n',n=n'+1:=⟨n-1,by omega⟩;simp[Builtin.clear_,aX ht,iD g1 g2,g3,r1]
  simp at hr
 simp at hr
theorem Vh(n:Int)(h:-9223372036854775808<=n/\n<=9223372036854775807):IntKind.i64.wrap n=n:=by simp[IntKind.wrap,IntKind.signed,IntKind.bits];omega
theorem Gg{t u e sLen sCap:Nat}{m:Int}{k:IntKind}{base:Option Addr}{olds zc:List Value}{ei:TypeInfo}{zv:Value}
 (ht:P.underlying t=some (.slice e)) (hu:P.underlying u=some (.int k)) (hi:P.info? e=some ei) (hz:ei.zero=some zv) (Ye:zv.cells=⟨zc⟩) (hzl:zc.length=ei.size)
 (hs:gV P w ei.size sLen (.slice base sLen sCap) olds) (hm:0<=m) (Yl:sLen<=sCap) (hsz:0<ei.size)
 (hcap:sCap<sLen+m.toNat) (hb0:0<ei.bytes) (hb:(sLen+m.toNat)*ei.bytes<=140737488355328) (ty:Nat):
 ∃cap rest,sLen+m.toNat<=cap/\(cap*ei.size=m.toNat*ei.size+olds.length+rest)/\∃zs:List Value,zs.length=rest/\
  (Builtin.append_ #[t,u] ty #[.slice base sLen sCap,.int .i64 m]).run P w=.ok (.slice (some ⟨w.heap.size,0,none⟩) (sLen+m.toNat) cap)
   {w with drawn:=w.drawn+1,heap:=w.heap.push (.cells ⟨olds++(Builtin.zeroCells ⟨zc⟩ m.toNat).toList++zs⟩ e)}:=by
 obtain⟨cap,xw⟩:∃cap,cap=(Question.appendCap (sLen+m.toNat) sCap e).cut (w.tape w.drawn (Question.appendCap (sLen+m.toNat) sCap e)):=⟨_,rfl⟩
 have RJ:sLen+m.toNat<=cap:=by rw[xw];simp only[Question.cut];omega
 refine⟨cap,(cap-(sLen+m.toNat))*ei.size,RJ,?_,(Builtin.zeroCells ⟨zc⟩ (cap-(sLen+m.toNat))).toList,by simp[Builtin.zeroCells,hzl],?_⟩
 .rw[hs.2.1];have:cap=sLen+m.toNat+(cap-(sLen+m.toNat)):=by omega
  conv=>lhs;rw[this]
  simp only[Nat.add_mul];omega
 have hnc:=xu hcap hb
 have Yf:¬(281474976710656<Builtin.nextslicecap (sLen+m.toNat) sCap*ei.bytes):=by omega
 have Yg:ei.bytes≠0:=by omega
 have hn:¬(sLen+m.toNat<=sCap):=by omega
 have h1:=(hs.2.2 w.drew (λ_ _=>rfl)).2
 have hle:(sLen+m.toNat)*1<=(sLen+m.toNat)*ei.bytes:=Nat.mul_le_mul_left _ hb0
 have hw:IntKind.i64.wrap m=m:=Vh m (by omega)
 have hl0:¬m<0:=by omega
 have hmb:m.toNat*ei.bytes<=(sLen+m.toNat)*ei.bytes:=Nat.mul_le_mul_right _ (by omega)
 have hl1:¬(281474976710656:Int)<m*(ei.bytes:Int):=by
  have:m*(ei.bytes:Int)=((m.toNat*ei.bytes:Nat):Int):=by rw[Int.natCast_mul,Int.toNat_of_nonneg hm]
  omega
 have hz0:¬(m.toNat=0∨ei.size=0):=by omega
 have hmx:IntKind.i64.max=9223372036854775807:=by decide
 have RO:¬(IntKind.i64.max<((sLen+m.toNat:Nat):Int)):=by rw[hmx];omega
 have aav:¬(9223372036854775807<(sLen:Int)+max m 0):=by omega
 have ac8:¬(m.toNat*ei.size=0):=by rw[Nat.mul_eq_zero];exact hz0
 simp[Builtin.append_,aX ht,aX hu,cg hi,nQ hi,iD hi hz,asInt,asIntOf,hw,hl0,hl1,hn,Yf,Yg,ac8,aav,Question.forced,h1,Ye,newRow,<-xw]
 have e1:(⟨olds⟩++(Builtin.zeroCells ⟨zc⟩ m.toNat++Builtin.zeroCells ⟨zc⟩ (cap-(sLen+m.toNat))):Array Value)=⟨olds++((Builtin.zeroCells ⟨zc⟩ m.toNat).toList++(Builtin.zeroCells ⟨zc⟩ (cap-(sLen+m.toNat))).toList)⟩:=by apply Array.ext';simp
 rw[e1]
 rfl
end
end Dem
end
section
open Go
namespace Dem
section
variable {P:Program}{T:Nat->Option TI}{G:Nat->Option (List D)}{β:Nat->Nat}{bx:List av}{w:World}{X:Nat->Prop}
theorem LF(hT:jj P T)(cx:cB G β bx w X){t u e:Nat}{k:IntKind}{te:TI}(ht:P.underlying t=some (.slice e))(hu:P.underlying u=some (.int k))(hte:T e=some te){bb sz off n c0:Nat}{vp:Bool}{ux:Value}
 (hx:ai β bx w (bq β bx w X) (.vw bb sz off n c0 vp) ux) {m:Int} {c:Prop} {v:AV} {b:Option (List av)} (hr:NT te bb sz off n c0 vp m bx=some ⟨c,v,b⟩) (hc:c) (ty:Nat):
 ∃r w' β',(Builtin.append_ #[t,u] ty #[ux,.int .i64 m]).run P w=.ok r w'/\Ext β bx w β' (dU bx b) w'/\cB G β' (dU bx b) w' X/\ai β' (dU bx b) w' (bq β' (dU bx b) w' X) v r:=by
 unfold NT at hr;split at hr
 .rename_i s es z hb hz;cases h1:Nat.beq s sz with
  |false=>simp[h1]at hr|true=>
  cases h2:Nat.beq sz te.size with
  |false=>simp[h1,h2]at hr|true=>
  cases h3:fo te with
  |false=>simp[h1,h2,h3]at hr|true=>
  cases h4:vp with
  |false=>simp[h1,h2,h3,h4]at hr|true=>
  have Iv:=vaf h1;have Ve:=vaf h2
  subst Iv Ve h4;simp only[h1,h3,Bool.and_self,cond_true,osI,R.mk.injEq]at hr;obtain⟨rfl,rfl,rfl⟩:=hr;obtain⟨hm,hcap,hoff,RO⟩:=hc;obtain⟨ei,zv,zc,g1,g2,g3,g4,g5,g6,g7⟩:=zx (P:=P) (β:=β) (bx:=bx) (w:=w) hT hte hz h3 (ok:=bq β bx w X);obtain⟨ei',ed,q1,q2,q3,q4,q5,q6⟩:=aL (hT.ti _ _ hte);rw[g1]at q1;simp only[osI]at q1;subst q1;obtain⟨za,hz1,Yh,hz3,hz4⟩:=nV h3;have hrows:(AV.vw bb te.size off n c0 true).rows bx=some ((es.drop off).take n):=by have hle:Nat.ble (off+n) es.length=true:=Nat.ble_eq_true_of_le hoff;simp[AV.rows,hb,hle]
  have hlen:((es.drop off).take n).length=n:=by simp;omega
  simp only[ai]at hx;obtain⟨Gh,base,cap,cs,ce,cf,rfl,k1,k2,k3,k4⟩:=hx;have k3':=k3 hY
  subst k3';have aD:∀r∈es,r.length=te.size:=by
   rcases cx.box _ _ hb with rfl|⟨_,_,_,j2⟩
   .simp
   exact ax.lens _ _ j2
  have hpart:(es.drop off).take n=[]∨∃blk o sz,base=some ⟨blk,o,none⟩/\ax w (bq β bx w X) blk sz ((es.drop off).take n) o:=by
   have Rk:ai β bx w (bq β bx w X) (.vw bb te.size off n cap true) (.slice base n cap):=by simp only[ai];exact⟨Gh,base,cap,cs,ce,cf,rfl,k1,k2,k3,k4⟩
   obtain⟨base',cap',e1,_,e3⟩:=qR (LA:=bq β bx w X) hoff ((cx.box bb _ hb).imp id λ⟨_,_,_,g⟩=>g) Rk;simp only[Value.slice.injEq]at e1;obtain⟨rfl,_,_⟩:=e1;exact e3.imp id λ⟨a,c⟩=>⟨β bb,off*te.size,te.size,a,c⟩
  obtain⟨os,o1,o2⟩:=eD (P:=P) (β:=β) (bx:=bx) (cap:=cap) (base:=base) (es:=(es.drop off).take n) (ok:=bq β bx w X) (size:=te.size)
   (λr hr=>aD r (List.mem_of_mem_drop (van hr))) hpart
  rw[hlen]at o1;rw[q3]at o1;obtain⟨cap',rest,r1,r2,zs,r3,r4⟩:=Gg (P:=P) ht hu g1 g2 g3 g4 o1 hm k1 (by omega) hcap (by omega) (by rw[<-q4];exact RO) ty;have ac9:(Builtin.zeroCells ⟨zc⟩ m.toNat).toList.length=m.toNat*te.size:=by have:=an.length (g7 m.toNat);rw[this];simp[g5]
  have hrl:((es.drop off).take n++List.replicate m.toNat z).length=n+m.toNat:=by rw[vaa,hlen,vaH]
  obtain⟨p1,p2,p3⟩:=pS (e:=e) (size:=te.size) (cap:=cap') (rows:=(es.drop off).take n++List.replicate m.toNat z) (vs:=os++(Builtin.zeroCells ⟨zc⟩ m.toNat).toList) (zs:=zs) cx
   (by
    intro r hr;rcases List.mem_append.1 hr with hr|hr
    .exact aD r (List.mem_of_mem_drop (van hr))
    rw[List.eq_of_mem_replicate hr];exact g5)
   (an.flatten_append o2 (g7 m.toNat)) (by rw[vaa,ac9,r3,q3];omega) (by rw[hrl];exact r1) (by
    intro h0;have:=vac List.length h0
    rw[hrl]at this;simp at this;omega)
  rw[hrl]at p3;refine⟨_,_,_,r4,p1,p2,?_⟩;simp only[ai]at p3 ⊢;obtain⟨y1,⟨y2,_⟩|⟨y2,Vi,y3,y4,y5,y6,y7,y8,y9⟩⟩:=p3
  .omega
  simp only[Value.slice.injEq]at y6;obtain⟨y6,_,rfl⟩:=y6;exact⟨y1,_,_,y3,y4,y5,rfl,y7,y7,λh=>by simp at h,.inr ⟨by rw[y6];simp,y8,by simpa using y9⟩⟩
 simp at hr
theorem Gi(hT:jj P T)(cx:cB G β bx w X){t u e:Nat}{te:TI}{ud:TypeDesc}(ht:P.underlying t=some (.slice e))(hu:P.underlying u=some ud)(Va:∀k,ud≠.int k)(hte:T e=some te){bb sz off n c0:Nat}{vp:Bool}{ux:Value}
 (hx:ai β bx w (bq β bx w X) (.vw bb sz off n c0 vp) ux) {y:AV} {uy:Value} (hy:ai β bx w (bq β bx w X) y uy) {c:Prop} {v:AV} {b:Option (List av)} (hr:uq te bb sz off n c0 vp y bx=some ⟨c,v,b⟩) (hc:c) (ty:Nat):
 ∃r w',(Builtin.append_ #[t,u] ty #[ux,uy]).run P w=.ok r w'/\Ext β bx w β (dU bx b) w'/\cB G β (dU bx b) w' X/\ai β (dU bx b) w' (bq β (dU bx b) w' X) v r:=by
 obtain⟨ei,ed,g1,g2,g3,g4,g5,g6⟩:=aL (hT.ti _ _ hte);unfold uq at hr;split at hr
 .rename_i s es xs hb hxs;cases h1:Nat.beq s sz with
  |false=>simp[h1]at hr|true=>
  cases h2:Nat.beq sz te.size with
  |false=>simp[h1,h2]at hr|true=>
  have Iv:=vaf h1;have Ve:=vaf h2
  subst Iv Ve;simp only[h1,Bool.and_self,cond_true,osI,R.mk.injEq]at hr;obtain⟨rfl,rfl,rfl⟩:=hr;obtain⟨⟨hoff,Gf⟩,hcap,hlen⟩:=hc;have hx0:=hx
  simp only[ai]at hx;obtain⟨Gh,base,cap,cs,ce,cf,rfl,k1,k2,k3,k4⟩:=hx;obtain⟨us,f1,f2,f3,f4⟩:=Ar (P:=P) cx hy hxs hlen (m:=xs.length) (vad _);rw[vao (vad _)]at f4;rw[g3]at f3;have Xv:n+xs.length<=cap:=by omega
  by_cases hx0':xs=[]
  .subst hx0';have Vg:us=[]:=by simpa using f2
   subst Vg;have hw:bx.set bb (.row te.size (wrote es (off+n) []))=bx:=by rw[zy];exact Cl hb
   refine⟨.slice base n cap,w,?_,?_,?_,?_⟩
   .have hn:n<=cap:=k1;simp only[List.length_nil]at f1 f3;cases base<;>simp[Builtin.append_,aX ht,aX hu,cg g1,f1,hn,f3,storeCells]
   .simp only[dU,hw];exact Ext.refl _ _ _
   .simp only[dU,hw];exact cx
   simp only[dU,hw];simpa using hx0
  have hne:es≠[]:=λh=>hx0' (by simpa using Gf h);have hxl:=List.length_pos_iff.2 hx0'
  rcases k4 with k4|⟨rfl,k5,k6⟩
  .omega
  have hfit:(off+n+xs.length)*te.size<=cs.size:=Nat.le_trans (Nat.mul_le_mul_right _ (by omega)) k6;obtain⟨w',r1,r2,r3⟩:=Ck (P:=P) cx hb hne hoff hlen f4 f2 k5 hfit;have hst:(storeCells (Addr.add ⟨β bb,off*te.size,none⟩ (n*ei.size)) us 0).run P w=.ok () w':=by rw[gu,<-g3,<-Nat.add_mul];exact r1
  refine⟨.slice (some ⟨β bb,off*te.size,none⟩) (n+xs.length) cap,w',?_,r2,r3,?_⟩
  .simp[Builtin.append_,aX ht,aX hu,cg g1,f1,Xv,f3,hst]
  obtain⟨c',q1,q2⟩:=r2.shape _ _ _ _ k5;simp only[ai,dU];refine⟨(r2.born bb Gh).2,_,cap,c',ce,cf,rfl,Xv,k2,k3,.inr ⟨rfl,q1,by rw[q2];exact k6⟩⟩
 simp at hr
theorem RP{ok:Nat->Prop}{bb sz off n c:Nat}{ex:Bool}{es:List (List D)}{u:Value}(hw:whole es off n c ex)(h:ai β bx w ok (.vw bb sz off n c ex) u):ai β bx w ok (.ow bb sz n) u:=by
 obtain⟨rfl,rfl,hw⟩:=hw;simp only[ai]at h ⊢;obtain⟨Gh,base,cap,cs,ce,cf,rfl,k1,k2,k3,k4⟩:=h;refine⟨Gh,?_⟩;by_cases aD:es=[]
 .obtain⟨rfl,rfl⟩:=hw aD;subst aD;exact .inl ⟨rfl,base,by rw[k3 rfl];rfl⟩
 right;have:=List.length_pos_iff.2 aD
 refine⟨by omega,?_⟩;rcases k4 with k4|⟨rfl,k5,k6⟩
 .omega
 exact⟨cap,cs,ce,cf,by simp,k1,k5,by simpa using k6⟩
theorem LG{Xs:Bool}{n n' cap:Nat}{vl vm:Option Value}{xh:Value}:Instr.sliceBounds Xs n cap vl (some xh) vm=Instr.sliceBounds Xs n' cap vl (some xh) vm:=by cases vm<;>rfl
theorem Ix{len cap:Nat}{lo:Option Int}{h m:Int}{vl:Option Value}{xh xm:Value}(hl:BV lo vl)(hh:BV (some h) (some xh))(hm:BV (some m) (some xm))(h0:0<=h)(hhm:h<=m)(hmc:m<=cap)(hlo:∀z,lo=some z->0<=z/\z<=h):
 (Instr.sliceBounds true len cap vl (some xh) (some xm)).run P w=.ok (bc lo,h.toNat,m.toNat) w:=by
 unfold Instr.sliceBounds;simp only[Sem.run_bind];rw[jM hm (by omega) (by omega)];simp only[Result.andThen_ok];rw[jM hh h0 (by omega)];simp only[Result.andThen_ok];cases lo with
 |none=>cases vl<;>simp[BV]at hl;simp[bc]
 |some z=>
  cases vl with
  |none=>simp[BV]at hl|some x=>
   have hz:=hlo z rfl
   simp only[Sem.run_bind]
   rw[jM hl hz.1 (by omega)]
   simp[bc]
theorem RQ{ok:Nat->Prop}{bb sz off n c n' cap lo hi cap' c':Nat}{ex qL:Bool}{base:Option Addr}(Gh:cr bx bb)(hlo:lo<=hi)(hhc:hi<=lo+cap')(UP:lo+cap'<=cap)(zi:c'<=cap')(hex:qL=true->cap'=c')
 (k4:cap=0∨base=some ⟨β bb,off*sz,none⟩/\∃cs ce cf,w.heap[β bb]?=some (.cells cs ce cf)/\(off+cap)*sz<=cs.size) {m:Nat} (hm:m=lo+cap') (hn':n'=hi-lo):
 ai β bx w ok (.vw bb sz (off+lo) n' c' qL) (.slice (if m=lo then base else base.map (·.add (lo*sz))) n' cap'):=by
 subst hm hn';simp only[ai];by_cases h0:cap'=0
 .exact⟨Gh,_,cap',#[],0,(0,0),rfl,by omega,zi,hex,.inl h0⟩
 rcases k4 with k4|⟨rfl,cs,ce,cf,k5,k6⟩
 .omega
 refine⟨Gh,_,cap',cs,ce,cf,rfl,by omega,zi,hex,.inr ⟨?_,k5,?_⟩⟩
 .rw[if_neg (by omega)];simp[gu,Nat.add_mul]
 exact Nat.le_trans (Nat.mul_le_mul_right _ (by omega)) k6
theorem LH(hT:jj P T)(cx:cB G β bx w X){ty e:Nat}{te:TI}(ht:P.underlying ty=some (.slice e))(hte:T e=some te){n m:Int}{c:Prop}{v:AV}{b:Option (List av)}(hr:HX te n m bx=some ⟨c,v,b⟩)(hc:c):
 ∃r w' β',(Instr.makeSlice ty (.int .i64 n) (.int .i64 m)).run P w=.ok r w'/\Ext β bx w β' (dU bx b) w'/\cB G β' (dU bx b) w' X/\ai β' (dU bx b) w' (bq β' (dU bx b) w' X) v r:=by
 unfold HX at hr;split at hr
 .rename_i z hz;cases h3:fo te with
  |false=>simp[h3]at hr|true=>
  simp only[h3,cond_true,osI,R.mk.injEq]at hr;obtain⟨rfl,rfl,rfl⟩:=hr;obtain⟨hn,rfl,RO⟩:=hc;obtain⟨ei,zv,zc,g1,g2,g3,g4,g5,g6,g7⟩:=zx (P:=P) (β:=β) (bx:=bx) (w:=w) hT hte hz h3 (ok:=bq β bx w X);obtain⟨ei',ed,q1,q2,q3,q4,q5,q6⟩:=aL (hT.ti _ _ hte);rw[g1]at q1;simp only[osI]at q1;subst q1;obtain⟨za,hz1,Yh,hz3,hz4⟩:=nV h3;obtain⟨N,rfl⟩:∃N:Nat,n=N:=⟨n.toNat,by omega⟩;simp only[vak]at RO ⊢;have hN:N<=140737488355328:=Nat.le_trans (Nat.le_mul_of_pos_right N (by omega)) RO
  have hw:IntKind.i64.wrap (N:Int)=N:=by simp[IntKind.wrap,IntKind.signed,IntKind.bits];omega
  have hroom:¬(N*ei.bytes>roomBytes):=by rw[<-q4];simp only[roomBytes];omega
  have ada:¬((ei.bytes:Int)*N>2^48):=by
   have e1:((ei.bytes:Int)*N)=((N*ei.bytes:Nat):Int):=by rw[Nat.mul_comm];simp
   rw[e1,<-q4];omega
  have hneg:¬((N:Int)<0):=by omega
  have N8:¬(281474976710656<(ei.bytes:Int)*N):=by omega
  have hcells:Array.map (λx=>zc[x%zc.length]?.getD default) (Array.range (N*ei.size))=Builtin.zeroCells ⟨zc⟩ N:=by simp[Builtin.zeroCells,g4]
  refine⟨.slice (some ⟨w.heap.size,0,none⟩) N N,{w with heap:=w.heap.push (.cells (Builtin.zeroCells ⟨zc⟩ N) e)},m5 β bx.length w.heap.size,?_,gG _ _,?_,?_⟩
  .by_cases h0:N*ei.size=0
   .have hz0:Builtin.zeroCells ⟨zc⟩ N=#[]:=by rw[<-hcells,h0];simp
    simp[Instr.makeSlice,aX ht,asInt,asIntOf,nQ g1,cg g1,hw,hneg,N8,askRoom,h0,newRow,newObj,Sem.run,hz0];congr 2;apply Array.eq_empty_of_size_eq_zero;simp
   simp[Instr.makeSlice,aX ht,asInt,asIntOf,nQ g1,cg g1,hw,hneg,N8,askRoom,h0,iD g1 g2,newRow,newObj,Sem.run,g3,hcells]
  .refine mw cx _ _ ?_;cases N with
   |zero=>exact .inl rfl|succ N=>refine .inr ⟨_,e,ko w _,?_⟩;refine oJ (β:=m5 β bx.length w.heap.size) (bx:=bx++[.row te.size (List.replicate (N+1) z)]) (List.replicate (N+1) z) 0 (Builtin.zeroCells ⟨zc⟩ (N+1)).toList (λr hr=>by rw[List.eq_of_mem_replicate hr];exact g5) ?_ (an.mono ((gG _ _).dL X) _ _ (g7 (N+1)));intro k u hk;simp only[World.cell?,ko w _];simpa using hk
  simp only[ai,dU];refine⟨⟨.row te.size (List.replicate N z),by simp,rfl⟩,?_⟩;cases N with
  |zero=>exact .inl ⟨rfl,_,rfl⟩|succ N=>
   refine .inr ⟨by omega,N+1,_,e,(0,0),by rw[bC],vad _,by rw[bC];exact ko w _,?_⟩;have:(Builtin.zeroCells ⟨zc⟩ (N+1)).size=(N+1)*ei.size:=by simp[Builtin.zeroCells,g4]
   rw[this,q3];exact vad _
 simp at hr
theorem LI(hT:jj P T)(cx:cB G β bx w X){ev:Operand->AV}{ρ:Operand->Value}{o:Oper}(hρ:∀x∈o.op.operands.toList,ai β bx w (bq β bx w X) (ev x) (ρ x))
 {c:Prop} {v:AV} {b:Option (List av)} (hr:oH T ev o.op bx=some ⟨c,v,b⟩) (hc:c):dJ G β bx w X ((execOp ρ o).run P w) v (dU bx b):=by
 obtain⟨dst,op,type,pos,after,guard⟩:=o;simp only at hρ hr;unfold oH at hr;split at hr
 ·
  rename_i ty x lo hi mx;have hx:=hρ x (by simp[Op.operands])
  split at hr
  .rename_i bb sz off n c0 vp te l h he hte hl hh hm;obtain⟨ti,e,t1,t2,t3⟩:=fu hte;have mO:=gw hT t1 t2
   obtain⟨ei,ed,g1,g2,g3,g4,g5,g6⟩:=aL (hT.ti _ _ t3);have bl:=qV hl (λy hy=>hρ y (by simp[Op.operands,hy]))
   have bh:=qV hh (λy hy=>hρ y (by simp[Op.operands,hy]));have bm:=qV hm (λy hy=>hρ y (by simp[Op.operands,hy]))
   cases hs:Nat.beq te.size sz with
   |false=>simp[hs]at hr|true=>
   have hs':=vaf hs;subst hs';simp only[hs,cond_true,osI,R.mk.injEq]at hr;obtain⟨rfl,rfl,rfl⟩:=hr;rw[he]at hx;simp only[ai]at hx;obtain⟨Gh,base,cap,cs,ce,cf,hu,k1,k2,k3,k4⟩:=hx;have hmn:mx.map ρ=none:=by
    cases mx with
    |none=>rfl|some q=>simp[D9]at hm;split at hm<;>simp at hm
   have k4':cap=0∨base=some ⟨β bb,off*te.size,none⟩/\∃cs ce cf,w.heap[β bb]?=some (.cells cs ce cf)/\(off+cap)*te.size<=cs.size:=k4.imp id λ⟨a,b,c⟩=>⟨a,cs,ce,cf,b,c⟩;have hb:(Instr.sliceBounds true n cap (lo.map ρ) (hi.map ρ) none).run P w=.ok (bc l,aY n h,cap) w/\bc l<=aY n h/\aY n h<=cap/\(aY n h<=c0∨aY n h=n)/\bc l<=cap:=by
    cases h with
    |none=>
     have UP:b9 n l none:=hc;have hle:=oK UP
     exact⟨qW bl bh UP k1,hle.1,by simp only[aY];omega,.inr rfl,by have:=hle.1;simp only[aY]at this ⊢;omega⟩
    |some h=>
     have UP:b9 c0 l (some h):=hc;have hle:=oK UP
     cases hi with
     |none=>simp[D9]at hh|some q=>
      simp only[vau]at bh ⊢;rw[LG (n:=n) (n':=c0)];refine⟨?_,hle.1,by have:=hle.2;simp only[aY]at this ⊢;omega,.inl hle.2,by have:=hle.1;have:=hle.2;simp only[aY]at*;omega⟩;have:=qW (P:=P) (w:=w) (Xs:=true) bl bh UP k2
      simpa only[aY]using this
   obtain⟨ED,Eb,hb3,hb4,hb5⟩:=hb;refine dJ.pure cx (u:=.slice (if cap=bc l then base else base.map (·.add (bc l*te.size))) (aY n h-bc l) (cap-bc l)) (bS _ ?_) ?_
   .rw[hu,hmn];simp[Instr.sliceAt,aX mO,Instr.slice,ED,cg g1,g3]
   exact RQ (ex:=vp) (c:=c0) (n:=n) (cap:=cap) Gh Eb (by omega) (by omega) (by omega) (λhex=>by rw[k3 hex]) k4' (by omega) rfl
  .rename_i bb sz off n c0 vp te l h m he hte hl hh hm;obtain⟨ti,e,t1,t2,t3⟩:=fu hte;have mO:=gw hT t1 t2
   obtain⟨ei,ed,g1,g2,g3,g4,g5,g6⟩:=aL (hT.ti _ _ t3);have bl:=qV hl (λy hy=>hρ y (by simp[Op.operands,hy]))
   have bh:=qV hh (λy hy=>hρ y (by simp[Op.operands,hy]));have bm:=qV hm (λy hy=>hρ y (by simp[Op.operands,hy]))
   cases hs:Nat.beq te.size sz with
   |false=>simp[hs]at hr|true=>
   have hs':=vaf hs;subst hs';simp only[hs,cond_true,osI,R.mk.injEq]at hr;obtain⟨rfl,rfl,rfl⟩:=hr;obtain⟨UP,hhm,hmc⟩:=hc;have hle:=oK UP
   rw[he]at hx;simp only[ai]at hx;obtain⟨Gh,base,cap,cs,ce,cf,hu,k1,k2,k3,k4⟩:=hx;have k4':cap=0∨base=some ⟨β bb,off*te.size,none⟩/\∃cs ce cf,w.heap[β bb]?=some (.cells cs ce cf)/\(off+cap)*te.size<=cs.size:=k4.imp id λ⟨a,b,c⟩=>⟨a,cs,ce,cf,b,c⟩
   cases hi with
   |none=>simp[D9]at hh|some qh=>
   cases mx with
   |none=>simp[D9]at hm|some qm=>
   simp only[vau]at bh bm;have h0:0<=h:=by cases l<;>simp[b9]at UP<;>omega
   have ED:=Ix (P:=P) (w:=w) (len:=n) (cap:=cap) bl bh bm h0 hhm (by omega) (λz hz=>by subst hz;simp[b9]at UP;omega);have Eb:=hle.1
   simp only[aY]at Eb;refine dJ.pure cx (u:=.slice (if m.toNat=bc l then base else base.map (·.add (bc l*te.size))) (h.toNat-bc l) (m.toNat-bc l)) (bS _ ?_) ?_
   .rw[hu];simp[Instr.sliceAt,aX mO,Instr.slice,ED,cg g1,g3]
   exact RQ (ex:=vp) (c:=c0) (n:=n) (cap:=cap) Gh Eb (by omega) (by omega) (by omega) (λ_=>rfl) k4' (by omega) rfl
  simp at hr
 ·
  rename_i ty x i;have hx:=hρ x (by simp[Op.operands])
  have hi:=hρ i (by simp[Op.operands]);split at hr
  .rename_i bb sz off n c0 vp te k z he hte hz;obtain⟨ti,e,t1,t2,t3⟩:=fu hte;have mO:=gw hT t1 t2
   obtain⟨ei,ed,g1,g2,g3,g4,g5,g6⟩:=aL (hT.ti _ _ t3);rw[hz]at hi;simp only[ai,aP]at hi;cases hs:Nat.beq te.size sz with
   |false=>simp[hs]at hr|true=>
   have hs':=vaf hs;subst hs';simp only[hs,cond_true,osI,R.mk.injEq]at hr;obtain⟨rfl,rfl,rfl⟩:=hr;rw[he]at hx;simp only[ai]at hx;obtain⟨Gh,base,cap,cs,ce,cf,hu,k1,k2,k3,k4⟩:=hx;rcases k4 with k4|⟨rfl,k5,k6⟩
   .omega
   refine dJ.pure cx (u:=.pointer (some ⟨β bb,off*te.size+z.toNat*te.size,none⟩)) (bS _ ?_) ?_
   .rw[hu];simp[Instr.indexAt,hi,asIntOf,aX mO,hc.1,hc.2,cg g1,gu,g3]
   simp only[ai];exact⟨by simp[Nat.add_mul],Gh⟩
  simp at hr
 ·
  rename_i ty x y;have hx:=hρ x (by simp[Op.operands])
  have hy:=hρ y (by simp[Op.operands]);split at hr
  .rename_i te n m hte he hm;obtain⟨ti,e,t1,t2,t3⟩:=fu hte;have mO:=gw hT t1 t2
   rw[he]at hx;rw[hm]at hy;simp only[ai,aP]at hx hy;obtain⟨r,w',β',k1,k2,k3,k4⟩:=LH (P:=P) hT cx mO t3 hr hc;exact⟨β',w',k2,k3,.inl ⟨r,bS _ (by rw[hx,hy];exact k1),k4⟩⟩
  simp at hr
 ·
  rename_i bn args ats;have hxs:an β bx w (bq β bx w X) (args.toList.map ev) (args.toList.map ρ):=jk args.toList (λy hy=>hρ y (by simp[Op.operands,Call.operands];exact by simpa using hy))
  have fin:∀(r:Value) (w':World) (β':Nat->Nat) (aE:List av) (v':AV),(Go.builtin bn ⟨ats.toList⟩ type (args.map λ|.const _=>true|_=>false) ⟨args.toList.map ρ⟩).run P w=.ok (.value r) w'->
   Ext β bx w β' aE w'->cB G β' aE w' X->ai β' aE w' (bq β' aE w' X) v' r->dJ G β bx w X ((execOp ρ ⟨dst,.call {callee:=.builtin bn,args:=args,argTypes:=ats},type,pos,after,guard⟩).run P w) v' aE:=by
   intro r w' β' aE v' h1 h2 h3 h4;refine⟨β',w',h2,h3,.inl ⟨r,?_,h4⟩⟩;simp only[execOp,resolve,Sem.run_bind,Sem.run_pure,Result.andThen_ok,invoke,gv args ρ];exact h1
  generalize args.toList.map ρ=vs at hxs fin;generalize Ym:ats.toList=al at hr fin;generalize args.toList.map ev=iz at hr hxs;generalize (args.map λ|.const _=>true|_=>false)=cs at fin;split at hr
  ·
   rename_i bb sz off n c0 vp ty;simp only[an]at hxs;obtain⟨u,us,rfl,hx,rfl⟩:=hxs;split at hr
   .rename_i te hte;obtain⟨ti,e,t1,t2,t3⟩:=fu hte;have mO:=gw hT t1 t2
    simp only[R.pure,osI,R.mk.injEq]at hr;obtain⟨_,rfl,rfl⟩:=hr;simp only[ai]at hx;obtain⟨Gh,base,cap,_,_,_,rfl,_⟩:=hx;exact fin (.int .i64 n) w β bx _ (bS _ (by simp[Builtin.len_,aX mO,goInt])) (Ext.refl _ _ _) cx (by simp only[ai,aP])
   simp at hr
  ·
   rename_i bb sz off n c0 ty;simp only[an]at hxs;obtain⟨u,us,rfl,hx,rfl⟩:=hxs;split at hr
   .rename_i te hte;obtain⟨ti,e,t1,t2,t3⟩:=fu hte;have mO:=gw hT t1 t2
    simp only[R.pure,osI,R.mk.injEq]at hr;obtain⟨_,rfl,rfl⟩:=hr;simp only[ai]at hx;obtain⟨Gh,base,cap,_,_,_,rfl,_,_,k3,_⟩:=hx;have:=k3 hY
    subst this;exact fin (.int .i64 cap) w β bx _ (bS _ (by simp[Builtin.cap_,aX mO,goInt])) (Ext.refl _ _ _) cx (by simp only[ai,aP])
   simp at hr
  ·
   rename_i x y ty rest;simp only[an]at hxs;obtain⟨ux,us,rfl,hx,uy,RG,rfl,hy,rfl⟩:=hxs;split at hr
   .rename_i te hte;obtain⟨ti,e,t1,t2,t3⟩:=fu hte;have mO:=gw hT t1 t2
    obtain⟨r,w',k1,k2,k3,k4⟩:=LD (P:=P) hT cx mO t3 hx hy hr hc rest type;exact fin r w' β _ _ (bS _ k1) k2 k3 k4
   simp at hr
  ·
   rename_i x ty rest;simp only[an]at hxs;obtain⟨ux,us,rfl,hx,rfl⟩:=hxs;split at hr
   .rename_i te hte;obtain⟨ti,e,t1,t2,t3⟩:=fu hte;have mO:=gw hT t1 t2
    obtain⟨r,w',k1,k2,k3,k4⟩:=Iw (P:=P) hT cx mO t3 hx hr hc rest type;exact fin r w' β _ _ (bS _ k1) k2 k3 k4
   simp at hr
  ·
   rename_i bb sz off n c0 vp y ty u;simp only[an]at hxs;obtain⟨ux,us,rfl,hx,uy,RG,rfl,hy,rfl⟩:=hxs;split at hr
   .rename_i te hte hi;obtain⟨ti,e,t1,t2,t3⟩:=fu hte;have mO:=gw hT t1 t2
    split at hr
    .rename_i m;simp only[F4]at hi;split at hi
     .rename_i tu htu;split at hi
      .rename_i k hk;obtain⟨ui,ud,q1,q2,q3,q4,q5,q6⟩:=aL (hT.ti _ _ htu);rw[hk]at q5;cases ud<;>simp[cX]at q5;subst q5;simp only[ai,aP]at hy;subst hy;obtain⟨r,w',β',k1,k2,k3,k4⟩:=LF (P:=P) hT cx mO q2 t3 hx hr hc type;exact fin r w' β' _ _ (bS _ k1) k2 k3 k4
      simp at hi
     simp at hi
    simp at hr
   .rename_i te hte hi;obtain⟨ti,e,t1,t2,t3⟩:=fu hte;have mO:=gw hT t1 t2
    simp only[F4]at hi;split at hi
    .rename_i tu htu;split at hi
     .simp at hi
     rename_i hk;obtain⟨ui,ud,q1,q2,q3,q4,q5,q6⟩:=aL (hT.ti _ _ htu);have Va:∀k,ud≠.int k:=by rintro k rfl;exact hk k (by rw[q5];rfl)
     cases LC:sameBox bb y with
     |true=>simp only[LC,cond_true]at hr;obtain⟨r,w',k1,k2,k3,k4⟩:=Gi (P:=P) hT cx mO q2 Va t3 hx hy hr hc type;exact fin r w' β _ _ (bS _ k1) k2 k3 k4
     |false=>
      simp only[LC,cond_false]at hr;split at hr
      .rename_i s es c1 v1 sL hb hap;simp only[osI,R.mk.injEq]at hr;obtain⟨rfl,rfl,rfl⟩:=hr;obtain⟨r,w',β',aE,rfl,k1,k2,k3,k4⟩:=xx (P:=P) hT cx htu (λk hk'=>hk k hk') (RP hc.2 hx) hy hap hc.1 type;exact fin r w' β' _ _ (bS _ k1) k2 k3 k4
      simp at hr
    simp at hi
   simp at hr
  simp at hr
 simp at hr
theorem Cm(hT:jj P T)(cx:cB G β bx w X){ev:Operand->AV}{ρ:Operand->Value}{o:Oper}(hρ:∀x∈o.op.operands.toList,ai β bx w (bq β bx w X) (ev x) (ρ x))
 {c:Prop} {v:AV} {b:Option (List av)} (hr:HM T ev o.op bx=some ⟨c,v,b⟩) (hc:c):dJ G β bx w X ((execOp ρ o).run P w) v (dU bx b):=by
 unfold HM at hr;cases hv:ke ev o.op with
 |true=>rw[hv,cond_true]at hr;exact LI hT cx hρ hr hc|false=>rw[hv,cond_false]at hr;exact Po hT cx hρ hr hc
end
end Dem
end
