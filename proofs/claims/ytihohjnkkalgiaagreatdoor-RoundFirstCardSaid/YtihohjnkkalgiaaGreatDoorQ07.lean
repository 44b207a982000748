/- Parts of a proof, joined. -/
import Derived.Test.YtihohjnkkalgiaaGreatDoorQ06
import Derived.ChangeSame
import Derived.ChangeArms
import Derived.OpenShut
import Derived.WideShapes
import Derived.Deep.Slices
import Derived.Orders
set_option linter.all false
set_option maxRecDepth 100000
set_option maxHeartbeats 4000000
section
open Go Go.Deep
namespace Dem
inductive PT where
 |bool
 |int (k:IntKind)
 |str
 |sl (es:List PT)
def Oz (r:TypeId→Option (List PT)) (sz:TypeId→Nat):List Field→Nat→Option (List PT)
 |[],_=>some []
 |f::fs,off=>if f.offset=off then match r f.type,Oz r sz fs (off+sz f.type) with
  |some a,some b=>if a.length=sz f.type then some (a++b) else none
  |_,_=>none else none
def FK (P:Program):Nat→TypeId→Option (List PT)
 |0,_=>none
 |n+1,t=>match P.underlying t with
  |some .bool=>some [.bool]
  |some (.int k)=>some [.int k]
  |some .string=>some [.str]
  |some (.slice e)=>match FK P n e with
   |some ps=>if ps.length=P.cellsOf e∧0<ps.length then some [.sl ps] else none
   |none=>none
  |some (.struct fs)=>match Oz (FK P n) P.cellsOf fs.toList 0 with
   |some ps=>if ps.length=P.cellsOf t then some ps else none
   |none=>none
  |some (.array k e)=>match FK P n e with
   |some ps=>if ps.length=P.cellsOf e∧k*ps.length=P.cellsOf t then some (List.replicate k ps).flatten else none
   |none=>none
  |_=>none
mutual
def xk:PT→D→Prop
 |.bool,d=>∃b,d=.bool b
 |.int k,d=>∃n,d=.int k n∧(Lit.int k n).wf=true
 |.str,d=>∃s:List UInt8,d=.str s∧s.length≤maxLen
 |.sl ps,d=>∃es:List (List D),d=.sl es∧es.length≤maxLen∧∀r∈es,dc ps r
def dc:List PT→List D→Prop
 |[],ds=>ds=[]
 |p::ps,ds=>∃d r,ds=d::r∧xk p d∧dc ps r
end
theorem dc.length:∀{ps:List PT} {ds:List D},dc ps ds→ds.length=ps.length
 |[],ds,h=>by simp only [dc] at h;subst h;rfl
 |p::ps,ds,h=>by
  simp only [dc] at h
  obtain ⟨d,r,rfl,_,h2⟩:=h
  simp [dc.length h2]
theorem dc.append:∀{ps qs:List PT} {ds es:List D},dc ps ds→dc qs es→dc (ps++qs) (ds++es)
 |[],qs,ds,es,h,g=>by simp only [dc] at h;subst h;exact g
 |p::ps,qs,ds,es,h,g=>by
  simp only [dc] at h
  obtain ⟨d,r,rfl,h1,h2⟩:=h
  simp only [List.cons_append,dc]
  exact ⟨d,r++es,rfl,h1,h2.append g⟩
theorem cH.append {w:World} {ok:Nat→Prop}:∀{ds es:List D} {vs us:List Value},cH w ok ds vs→cH w ok es us→cH w ok (ds++es) (vs++us)
 |[],es,vs,us,h,g=>by simp only [cH] at h;subst h;exact g
 |d::ds,es,vs,us,h,g=>by
  simp only [cH] at h
  obtain ⟨v,r,rfl,h1,h2⟩:=h
  simp only [List.cons_append,cH]
  exact ⟨v,r++us,rfl,h1,h2.append g⟩
theorem cH.row {w:World} {ok:Nat→Prop} {blk:Nat}:∀{ds:List D} {vs:List Value} {off:Nat},cH w ok ds vs→(∀i,i<vs.length→w.cell? ⟨blk,off+i,none⟩=vs[i]?)→bp w ok blk ds off
 |[],_,_,_,_=>by simp [bp]
 |d::ds,vs,off,h,hc=>by
  simp only [cH] at h
  obtain ⟨v,r,rfl,h1,h2⟩:=h
  simp only [bp]
  refine ⟨⟨v,by simpa using hc 0 (by simp),h1⟩,h2.row fun i hi=>?_⟩
  have:=hc (i+1) (by simp;omega)
  simpa [Nat.add_assoc,Nat.add_comm 1 i] using this
mutual
def fZ {H:Type}:DataW H→List D
 |.lit (.bool b)=>[.bool b]
 |.lit (.int k n)=>[.int k n]
 |.lit (.string s)=>[.str s]
 |.nil=>[.sl []]
 |.slice elems _=>[.sl (ur elems)]
 |.agg parts=>iB parts
 |_=>[]
def ur {H:Type}:List (DataW H)→List (List D)
 |[]=>[]
 |d::r=>fZ d::ur r
def iB {H:Type}:List (DataW H)→List D
 |[]=>[]
 |d::r=>fZ d++iB r
end
theorem uu {H:Type}:∀l:List (DataW H),ur l=l.map fZ
 |[]=>rfl
 |d::r=>by simp [ur,uu r]
theorem Cn {w:World} {ok:Nat→Prop} {blk sz:Nat}:∀(n off:Nat) (f:Nat→List D),(∀i,i<n→bp w ok blk (f i) (off+i*sz)∧(f i).length=sz)→ay w ok blk sz ((List.range n).map f) off
 |0,off,_,_=>by simp [ay]
 |n+1,off,f,h=>by
  obtain ⟨h1,h2⟩:=h 0 (by omega)
  rw [List.range_succ_eq_map,List.map_cons,List.map_map]
  simp only [ay]
  refine ⟨h2,by simpa using h1,Cn n (off+sz) _ fun i hi=>?_⟩
  obtain ⟨k1,k2⟩:=h (i+1) (by omega)
  rw [show off+sz+i*sz=off+(i+1)*sz by rw [Nat.succ_mul];omega]
  exact ⟨k1,k2⟩
theorem Md {w:World} {a:Addr} {v:Value} (h:w.cell? a=some v):a.spot=none:=by
 unfold World.cell? at h
 split at h
 ·split at h
  ·cases h
  rename_i hs;simpa using hs
 cases h
theorem add_eq {a:Addr} (h:a.spot=none) (n:Nat):a.add n=⟨a.block,a.off+n,none⟩:=by
 unfold Addr.add
 split
 ·rename_i h0;subst h0;cases a;simp_all
 rfl
theorem zO {α:Type} (cs:List α) (off a b:Nat):(cs.drop off).take (a+b)=(cs.drop off).take a++(cs.drop (off+a)).take b:=by
 rw [List.take_add,List.drop_drop]
section
variable {H:Type} {enc:TypeId×Value→H} {P:Program} {w:World} {spare:Nat→Bool} {held:Bool} {ok:Nat→Prop}
theorem zP {r:TypeId→Option (List PT)} {n:Nat} {cs:List Value} (hr:∀t cs x ps,DataW.trod enc P w 0 spare held n t cs=some x→r t=some ps→cH w ok (fZ x.1) cs∧dc ps (fZ x.1)):
 ∀(fs:List Field) (xs:List (DataW H×List MemPlace)) (off:Nat) (ps:List PT),Oz r P.cellsOf fs off=some ps→xs.length=fs.length→
  (∀(i:Nat) (f:Field),fs[i]?=some f→DataW.trod enc P w 0 spare held n f.type ((cs.drop f.offset).take (P.cellsOf f.type))=xs[i]?)→
  cH w ok (iB (xs.map (·.1))) ((cs.drop off).take ps.length)∧dc ps (iB (xs.map (·.1)))
 |[],xs,off,ps,h,hl,_=>by
  simp only [Oz,osI] at h;subst h
  obtain rfl:xs=[]:=by simpa using hl
  exact ⟨by simp [cH,iB],by simp [dc,iB]⟩
 |f::fs,[],off,ps,h,hl,hx=>by simp at hl
 |f::fs,x::xs,off,ps,h,hl,hx=>by
  simp only [Oz] at h
  split at h
  ·rename_i ho
   split at h
   ·rename_i a b ha hb
    split at h
    ·rename_i hla
     simp only [osI] at h;subst h
     have hx0:=hx 0 f rfl
     obtain ⟨g1,g2⟩:=hr _ _ _ _ (by simpa using hx0) ha
     obtain ⟨k1,k2⟩:=zP hr fs xs _ b hb (by simpa using hl) (fun i f hf=>by simpa using hx (i+1) f (by simpa using hf))
     rw [List.length_append,zO]
     rw [ho,←hla] at g1
     rw [←hla] at k1
     simp only [List.map_cons,iB]
     exact ⟨g1.append k1,g2.append k2⟩
    cases h
   cases h
  cases h
theorem Co {r:List PT} {cs:List Value}:∀(k off:Nat) (xs:List (DataW H×List MemPlace)),xs.length=k→(∀i x,xs[i]?=some x→cH w ok (fZ x.1) ((cs.drop (off+i*r.length)).take r.length)∧dc r (fZ x.1))→
 cH w ok (iB (xs.map (·.1))) ((cs.drop off).take (k*r.length))∧dc (List.replicate k r).flatten (iB (xs.map (·.1)))
 |0,off,xs,hl,_=>by
  obtain rfl:xs=[]:=by simpa using hl
  exact ⟨by simp [cH,iB],by simp [dc,iB]⟩
 |k+1,off,[],hl,h=>by simp at hl
 |k+1,off,x::xs,hl,h=>by
  obtain ⟨g1,g2⟩:=h 0 x rfl
  obtain ⟨k1,k2⟩:=Co (r:=r) (cs:=cs) k (off+r.length) xs (by simpa using hl) (fun i x hx=>by
   obtain ⟨k1,k2⟩:=h (i+1) x (by simpa using hx)
   rw [show off+r.length+i*r.length=off+(i+1)*r.length by rw [Nat.succ_mul];omega]
   exact ⟨k1,k2⟩)
  rw [show (k+1)*r.length=r.length+k*r.length by rw [Nat.succ_mul];omega,zO,List.replicate_succ,List.flatten_cons]
  simp only [List.map_cons,iB]
  exact ⟨cH.append (by simpa using g1) k1,g2.append k2⟩
theorem uv (hok:∀blk,blk<w.heap.size→ok blk):
 ∀(n m:Nat) (t:TypeId) (cs:List Value) (x:DataW H×List MemPlace) (ps:List PT),DataW.trod enc P w 0 spare held m t cs=some x→FK P n t=some ps→cH w ok (fZ x.1) cs∧dc ps (fZ x.1)
 |0,_,_,_,_,_,_,h=>by simp [FK] at h
 |n+1,m,t,cs,x,ps,h,hp=>by
  have ih:=uv hok n
  rw [FK] at hp
  cases hu:P.underlying t with
  |none=>simp [hu] at hp
  |some d=>
   simp only [hu] at hp
   cases d<;>(try (cases hp;done))<;>simp only at hp
   case bool=>
    simp only [osI] at hp;subst hp
    obtain ⟨b,rfl,rfl⟩:=DataW.trod_bool hu h
    exact ⟨by simp [cH,aS,fZ],by simp [dc,xk,fZ]⟩
   case int k=>
    simp only [osI] at hp;subst hp
    obtain ⟨z,rfl,rfl,hw⟩:=DataW.trod_int hu h
    exact ⟨by simp [cH,aS,fZ],by simpa [dc,xk,fZ] using hw⟩
   case string=>
    simp only [osI] at hp;subst hp
    obtain ⟨s,rfl,rfl,hs⟩:=DataW.trod_string hu h
    refine ⟨by simp [cH,aS,fZ],?_⟩
    simp only [dc,xk,fZ]
    exact ⟨_,_,rfl,⟨_,rfl,by rw [Array.length_toList];exact hs⟩,rfl⟩
   case slice e=>
    split at hp
    ·rename_i qs hq
     split at hp
     ·rename_i hl
      simp only [osI] at hp;subst hp
      rcases open_slice hu h with ⟨rfl,rfl⟩|⟨a,len,cap,mm,n',Dd,Pl,rfl,hb,hlc,hm,YV,rfl,hx⟩
      ·exact ⟨by simp [cH,aS,fZ],by simp [dc,xk,fZ]⟩
      have hlen:len≤mm:=by rw [YV];split<;>omega
      have hel:∀i,i<len→∃cs',w.cells? 0 (a.add (i*P.cellsOf e)) (P.cellsOf e)=some cs'∧cH w ok (fZ (Dd i)) cs'∧dc qs (fZ (Dd i)):=by
       intro i hi
       obtain ⟨cs',hc,htr⟩:=hx i (by omega)
       exact ⟨cs',hc,ih _ _ _ _ _ htr hq⟩
      have hfl:fZ (.slice ((List.range len).map Dd) ((List.range (mm-len)).map fun j=>Dd (len+j)))=[.sl ((List.range len).map fun i=>fZ (Dd i))]:=by
       simp [fZ,uu,List.map_map,Function.comp_def]
      simp only [hfl]
      have YU:dc [.sl qs] [.sl ((List.range len).map fun i=>fZ (Dd i))]:=by
       simp only [dc,xk]
       refine ⟨_,_,rfl,⟨_,rfl,by simp;omega,?_⟩,rfl⟩
       intro r hr
       obtain ⟨i,hi,rfl⟩:=List.mem_map.1 hr
       obtain ⟨cs',_,_,g⟩:=hel i (by simpa using hi)
       exact g
      refine ⟨?_,YU⟩
      cases len with
      |zero=>simp [cH,aS]
      |succ len=>
       have hsp:a.spot=none:=by
        obtain ⟨cs',hc,htr⟩:=hel 0 (by omega)
        obtain ⟨_,hl',hcell⟩:=World.cells?_some hc
        have h0:=hcell 0 (by omega)
        rw [List.getElem?_eq_getElem (by omega)] at h0
        have:=Md h0
        simpa [Addr.add] using this
       have YW:a.block<w.heap.size:=by
        obtain ⟨cs',hc,htr⟩:=hel 0 (by omega)
        have:=World.cells?_block hc (by omega)
        simpa [Addr.add] using this
       have g:=Cn (w:=w) (ok:=ok) (blk:=a.block) (sz:=P.cellsOf e) (len+1) a.off (fun i=>fZ (Dd i)) (fun i hi=>by
        obtain ⟨cs',hc,g1,g2⟩:=hel i hi
        obtain ⟨_,hl',hcell⟩:=World.cells?_some hc
        refine ⟨g1.row (fun j hj=>?_),by rw [g2.length];exact hl.1⟩
        have:=hcell j (by omega)
        rw [add_eq hsp,add_eq rfl] at this
        exact this)
       simp only [cH,aS]
       exact ⟨_,_,rfl,⟨some a,cap,by simp,by simp;omega,.inr ⟨a.block,a.off,P.cellsOf e,by cases a;simp_all,hok _ YW,g⟩⟩,rfl⟩
     cases hp
    cases hp
   case struct fs=>
    split at hp
    ·rename_i qs hq
     split at hp
     ·rename_i hl
      simp only [osI] at hp;subst hp
      obtain ⟨xs,m',hm,rfl,Ru,hxl,hxs⟩:=DataW.trod_struct hu h
      have hf:∀(i:Nat) (f:Field),fs.toList[i]?=some f→DataW.trod enc P w 0 spare held m' f.type ((cs.drop f.offset).take (P.cellsOf f.type))=xs[i]?:=by
       intro i f hf
       exact hxs i f (by simpa using hf)
      obtain ⟨g1,g2⟩:=zP (ok:=ok) (fun t cs x ps=>ih m' t cs x ps) fs.toList xs 0 _ hq (by simpa using hxl) hf
      simp only [fZ]
      refine ⟨?_,g2⟩
      have e:(cs.drop 0).take qs.length=cs:=by rw [List.drop_zero,hl,←Ru,List.take_length]
      rwa [e] at g1
     cases hp
    cases hp
   case array k e=>
    split at hp
    ·rename_i qs hq
     split at hp
     ·rename_i hl
      simp only [osI] at hp;subst hp
      obtain ⟨xs,m',hm,rfl,Ru,hxl,hxs⟩:=DataW.trod_array hu h
      obtain ⟨g1,g2⟩:=Co (w:=w) (ok:=ok) (r:=qs) (cs:=cs) k 0 xs hxl (fun i x hi=>by
       have hi3:i<xs.length:=(List.getElem?_eq_some_iff.1 hi).1
       have:=hxs i (by omega)
       rw [hl.1,Nat.zero_add]
       rw [hi] at this
       exact ih _ _ _ _ _ this hq)
      simp only [fZ]
      refine ⟨?_,g2⟩
      have e:(cs.drop 0).take (k*qs.length)=cs:=by rw [List.drop_zero,hl.2,←Ru,List.take_length]
      rwa [e] at g1
     cases hp
    cases hp
end
end Dem
end
section
open Go
namespace Dem
section
variable {T:Nat→Option TI} {G:Nat→Option (List D)} {bx aZ:List aB}
def lg (bx aZ:List aB):Prop:=∀(i:Nat) (b:aB),bx[i]?=some b→b.born=true→aZ[i]?=some b
theorem lg.refl (bx:List aB):lg bx bx:=fun _ _ h _=>h
theorem OA (h:lg bx aZ) {x:AV} {y:D} (hx:x.qP bx=some y):x.qP aZ=some y:=by
 cases x with
 |ow b sz n=>
  simp only [AV.qP] at hx ⊢
  split at hx
  ·rename_i s es hb
   rw [h _ _ hb rfl];exact hx
  ·rename_i s es hb
   rw [h _ _ hb rfl];exact hx
  simp at hx
 |fn f cs=>cases cs with
  |nil=>exact hx
  |cons c cs=>exact hx
 |_=>exact hx
theorem KU (h:lg bx aZ):∀{xs:List AV} {ys:List D},iR bx xs=some ys→iR aZ xs=some ys
 |[],ys,hx=>hx
 |x::xs,ys,hx=>by
  simp only [iR] at hx ⊢
  split at hx
  ·rename_i y ys' hy hys
   rw [OA h hy,KU h hys];exact hx
  simp at hx
theorem rm (h:lg bx aZ) {x:AV} {es:List (List D)} (hx:x.rows bx=some es):x.rows aZ=some es:=by
 cases x with
 |d y=>cases y<;>exact hx
 |ow b sz n=>
  simp only [AV.rows] at hx ⊢
  split at hx
  ·rename_i s es hb
   rw [h _ _ hb rfl];exact hx
  ·rename_i s es hb
   rw [h _ _ hb rfl];exact hx
  simp at hx
 |vw b sz off n c ex=>
  simp only [AV.rows] at hx ⊢
  split at hx
  ·rename_i s es hb
   rw [h _ _ hb rfl];exact hx
  ·rename_i s es hb
   rw [h _ _ hb rfl];exact hx
  simp at hx
 |_=>exact hx
theorem TH (h:lg bx aZ) {x y:AV} (hx:fz bx x=some y):fz aZ x=some y:=by
 cases x with
 |ow b sz n=>
  simp only [fz,Option.map_eq_some_iff] at hx ⊢
  obtain ⟨q,h1,h2⟩:=hx
  exact ⟨q,OA h h1,h2⟩
 |vw b sz off n c ex=>
  simp only [fz,Option.map_eq_some_iff] at hx ⊢
  obtain ⟨q,h1,h2⟩:=hx
  exact ⟨q,rm h h1,h2⟩
 |_=>exact hx
theorem OB (h:lg bx aZ):∀{xs ys:List AV},H8 bx xs=some ys→H8 aZ xs=some ys
 |[],ys,hx=>hx
 |x::xs,ys,hx=>by
  simp only [H8] at hx ⊢
  split at hx
  ·rename_i y ys' hy hys
   rw [TH h hy,OB h hys];exact hx
  simp at hx
theorem DI (h:lg bx aZ):∀{xs ys:List AV},eX bx xs=some ys→eX aZ xs=some ys
 |[],ys,hx=>hx
 |x::xs,ys,hx=>by
  simp only [eX] at hx ⊢
  split at hx
  ·rename_i y ys' hy hys
   have:pu aZ x=some y:=by
    cases x with
    |agg cs=>
     simp only [pu,Option.map_eq_some_iff] at hy ⊢
     obtain ⟨q,h1,h2⟩:=hy
     exact ⟨q,OB h h1,h2⟩
    |_=>simp only [pu] at hy ⊢;exact TH h hy
   rw [this,DI h hys];exact hx
  simp at hx
theorem OC (h:lg bx aZ) {ti:TI} {a:AV} {r:R} (hx:oX ti a bx=some r):oX ti a aZ=some r:=by
 cases a with
 |ptr b off=>
  simp only [oX] at hx ⊢
  split at hx
  ·rename_i cs hb
   rw [h _ _ hb rfl];exact hx
  simp at hx
 |rp b sz i j=>
  simp only [oX] at hx ⊢
  split at hx
  ·rename_i s es hb
   rw [h _ _ hb rfl];exact hx
  ·rename_i s es hb
   rw [h _ _ hb rfl];exact hx
  simp at hx
 |_=>exact hx
theorem RM (h:lg bx aZ) {x v:AV} (hx:ze x bx=some v):ze x aZ=some v:=by
 cases x with
 |d y=>cases y<;>exact hx
 |ow b sz n=>
  simp only [ze] at hx ⊢
  split at hx
  ·rename_i es hr
   rw [rm h hr];exact hx
  simp at hx
 |vw b sz off n c ex=>
  simp only [ze] at hx ⊢
  split at hx
  ·rename_i es hr
   rw [rm h hr];exact hx
  simp at hx
 |_=>exact hx
theorem Cp (h:lg bx aZ) {size:Nat}:∀{ps:List (Nat×AV)} {rs:List (List D)},rowsOf bx size ps=some rs→rowsOf aZ size ps=some rs
 |[],rs,hx=>hx
 |(i,v)::r,rs,hx=>by
  simp only [rowsOf] at hx ⊢
  split at hx
  ·rename_i vs hv
   split at hx
   ·rename_i ds Wj hd hr
    simp only [KU h hd,Cp h hr];exact hx
   simp at hx
  simp at hx
theorem Me (h:lg bx aZ) {t:Nat} {x:AV} {lo hi mx:Option Int} {c:Prop} {v:AV} (hx:pp T t x lo hi mx bx=some ⟨c,v,none⟩):pp T t x lo hi mx aZ=some ⟨c,v,none⟩:=by
 unfold pp at hx ⊢
 split at hx
 ·split at hx
  ·exact hx
  ·split at hx
   ·rename_i es te hr hte
    simp only [rm h hr,hte]
    simp only [osI,R.mk.injEq] at hx ⊢
    refine ⟨hx.1,hx.2.1,?_⟩
    have h3:=hx.2.2
    generalize cG _=q at h3 ⊢
    cases q<;>simp at h3 ⊢
   simp at hx
  ·split at hx
   ·have hr:=‹AV.rows bx _=some _›
    have hte:=‹T _=some _›
    simp only [rm h hr,hte]
    simp only [osI,R.mk.injEq] at hx ⊢
    refine ⟨hx.1,hx.2.1,?_⟩
    have h3:=hx.2.2
    generalize cG _=q at h3 ⊢
    cases q<;>simp at h3 ⊢
   simp at hx
  ·exact hx
  ·split at hx
   ·split at hx
    ·simp at hx
    simp at hx
   simp at hx
  simp at hx
 simp at hx
theorem zQ (h:lg bx aZ) {t n:Nat} {ps:List (Nat×AV)} {c:Prop} {v:AV} (hx:fX T t n ps bx=some ⟨c,v,none⟩):fX T t n ps aZ=some ⟨c,v,none⟩:=by
 unfold fX at hx ⊢
 split at hx
 ·split at hx
  ·split at hx
   ·rename_i te hte
    generalize (Nat.beq ps.length n&&mF 0 ps&&Nat.ble (n*te.size) 16777216&&te.zero.cells?.isSome)=q at hx ⊢
    cases q with
    |false=>simp at hx
    |true=>
     simp only [cond_true] at hx ⊢
     split at hx
     ·rename_i rs hr
      simp only [Cp h hr]
      simp only [osI,R.mk.injEq] at hx ⊢
      refine ⟨hx.1,hx.2.1,?_⟩
      have h3:=hx.2.2
      generalize EX _=q at h3 ⊢
      cases q<;>simp at h3 ⊢
     simp at hx
   simp at hx
  simp at hx
 simp at hx
theorem OD (h:lg bx aZ) {s d:Nat} {x:AV} {r:R} (hx:wQ T s d x bx=some r):wQ T s d x aZ=some r:=by
 unfold wQ at hx ⊢
 split at hx
 ·split at hx
  ·exact hx
  ·split at hx
   ·rename_i te es hte hr
    simp only [rm h hr,hte];exact hx
   simp at hx
  ·exact hx
  simp at hx
 simp at hx
theorem uw {t:Nat} {s x:AV} {r:R} (hx:kX T t s x bx=some r):r.bx≠none:=by
 unfold kX at hx
 split at hx
 ·split at hx
  ·split at hx
   ·rename_i te hte
    cases hz:eJ te with
    |false=>simp [hz] at hx
    |true=>
    simp only [hz,cond_true] at hx
    split at hx
    ·split at hx
     ·simp only [osI] at hx;subst hx;simp
     ·split at hx
      ·simp at hx
      simp only [osI] at hx;subst hx;simp
     ·split at hx
      ·rename_i b _ _ _ _ _ _
       generalize sameBox _ x=q at hx
       cases q with
       |true=>simp at hx
       |false=>simp only [cond_false,osI] at hx;subst hx;simp
      simp at hx
     simp at hx
    simp at hx
   simp at hx
  simp at hx
 simp at hx
theorem FL {ti:TI} {a v:AV} {r:R} (hx:sD ti a v bx=some r):r.bx≠none:=by
 unfold sD at hx
 split at hx
 ·simp at hx
 generalize Nat.beq _ _=q at hx
 cases q with
 |false=>simp at hx
 |true=>
 simp only [cond_true] at hx
 split at hx
 ·split at hx
  ·generalize Nat.ble _ _=q at hx
   cases q with
   |false=>simp at hx
   |true=>simp only [cond_true,osI] at hx;subst hx;simp
  simp at hx
 ·split at hx
  ·split at hx
   ·simp only [osI] at hx;subst hx;simp
   simp at hx
  simp at hx
 simp at hx
theorem FM (h:lg bx aZ) {b:Builtin} {args:List AV} {ats:List Nat} {c:Prop} {v:AV} (hx:iT T b args ats bx=some ⟨c,v,none⟩):iT T b args ats aZ=some ⟨c,v,none⟩:=by
 unfold iT at hx ⊢
 split at hx
 ·split at hx
  ·split at hx
   ·exact hx
   ·exact hx
   ·split at hx
    ·rename_i v' hl
     simp only [RM h hl];exact hx
    simp at hx
   simp at hx
  simp at hx
 ·exact hx
 ·exact hx
 ·split at hx
  ·split at hx
   ·simp at hx
   exact absurd rfl (uw hx)
  simp at hx
 simp at hx
theorem IC {te:TI} {n m:Int} {bx:List aB} {c:Prop} {v:AV} {b:Option (List aB)} (h:EY te n m bx=some ⟨c,v,b⟩):b≠none:=by
 unfold EY at h
 split at h
 ·cases hz:eJ te with
  |false=>simp [hz] at h
  |true=>simp only [hz,cond_true,osI,R.mk.injEq] at h;obtain ⟨_,_,rfl⟩:=h;simp
 simp at h
theorem OE (h:lg bx aZ) {ev:Operand→AV} {op:Op} {c:Prop} {v:AV} (hx:mH T ev op bx=some ⟨c,v,none⟩):mH T ev op aZ=some ⟨c,v,none⟩:=by
 unfold mH at hx ⊢
 split at hx
 ·exact hx
 ·exact hx
 ·split at hx
  ·exact absurd rfl (IC hx)
  simp at hx
 ·split at hx
  ·exact hx
  ·exact hx
  ·split at hx
   ·simp only [B6] at hx
    split at hx
    ·split at hx
     ·generalize (Nat.beq _ _&&Nat.beq _ _)=q at hx
      cases q<;>simp at hx
     simp at hx
    simp at hx
   simp at hx
  ·split at hx
   ·simp only [Dr] at hx
    split at hx
    ·split at hx
     ·rename_i te _ _ _ _ _ _ _ _ _ _ _ _ _ _ _
      cases hq:(Nat.beq _ _&&Nat.beq _ _&&eJ _:Bool)<;>rw [hq] at hx<;>simp at hx
     simp at hx
    simp at hx
   simp at hx
  ·split at hx
   ·split at hx
    ·simp only [Ky] at hx
     split at hx
     ·generalize (Nat.beq _ _&&Nat.beq _ _&&eJ _&&_)=q at hx
      cases q<;>simp at hx
     simp at hx
    simp at hx
   ·generalize sameBox _ _=q at hx
    cases q with
    |true=>
     simp only [cond_true,qV] at hx
     split at hx
     ·generalize (Nat.beq _ _&&Nat.beq _ _)=q at hx
      cases q<;>simp at hx
     simp at hx
    |false=>
     simp only [cond_false] at hx
     split at hx
     ·rename_i hap
      simp only [osI,R.mk.injEq] at hx
      obtain ⟨_,_,rfl⟩:=hx
      exact absurd rfl (uw hap)
     simp at hx
   simp at hx
  simp at hx
 simp at hx
theorem RN (h:lg bx aZ) {ev:Operand→AV} {op:Op} {c:Prop} {v:AV} (hx:kY T ev op bx=some ⟨c,v,none⟩):kY T ev op aZ=some ⟨c,v,none⟩:=by
 unfold kY at hx ⊢
 split at hx
 ·exact hx
 ·exact hx
 ·split at hx
  ·split at hx<;>simp at hx
  simp at hx
 ·split at hx<;>simp at hx
 ·split at hx
  ·exact OC h hx
  simp at hx
 ·split at hx
  ·exact absurd rfl (FL hx)
  simp at hx
 ·exact hx
 ·exact zQ h hx
 ·exact hx
 ·exact hx
 ·exact hx
 ·exact hx
 ·exact hx
 ·exact hx
 ·exact hx
 ·exact OD h hx
 ·split at hx
  ·exact Me h hx
  simp at hx
 ·exact hx
 ·exact hx
 ·exact hx
 ·exact hx
 ·exact FM h hx
 exact hx
theorem Uw (h:lg bx aZ) {ev:Operand→AV} {op:Op} {c:Prop} {v:AV} (hx:ES T ev op bx=some ⟨c,v,none⟩):ES T ev op aZ=some ⟨c,v,none⟩:=by
 unfold ES at hx ⊢
 cases hv:iU ev op with
 |true=>rw [hv,cond_true] at hx;rw [cond_true];exact OE h hx
 |false=>rw [hv,cond_false] at hx;rw [cond_false];exact RN h hx
theorem lG {ev rq:Operand→AV} {x:Option Operand} (h:∀y,x=some y→ev y=rq y):Bz ev x=Bz rq x:=by
 cases x with
 |none=>rfl
 |some y=>simp only [Bz,h y rfl]
theorem ID {ev rq:Operand→AV} {op:Op} (h:∀x∈op.operands.toList,ev x=rq x):kY T ev op bx=kY T rq op bx:=by
 have pairs:∀ps:Array (Nat×Operand),(∀x∈(ps.toList.map (·.2)).toArray.toList,ev x=rq x)→(ps.toList.map fun p=>(p.1,ev p.2))=(ps.toList.map fun p=>(p.1,rq p.2)):=by
  intro ps hp
  refine List.map_congr_left fun p hm=>?_
  rw [hp p.2 (by simp only [List.mem_map];exact ⟨p,hm,rfl⟩)]
 cases op<;>simp only [Op.operands] at h
 case build t ps=>simp only [kY,pairs ps h]
 case buildSlice t n ps=>simp only [kY,pairs ps h]
 case makeFunc fn first captured=>
  cases fn<;>simp only [kY]
  rw [List.map_congr_left (l:=captured.toList) (f:=ev) (g:=rq) fun x hx=>h x (by simp;exact .inr (by simpa using hx)),List.map_congr_left (l:=first.toList) (f:=ev) (g:=rq) fun x hx=>h x (by simp;exact .inl (by simpa using hx))]
 case slice t x lo hi mx=>
  simp only [kY,h x (by simp),lG (x:=lo) (fun y hy=>h y (by simp [hy])),lG (x:=hi) (fun y hy=>h y (by simp [hy])),lG (x:=mx) (fun y hy=>h y (by simp [hy]))]
 case call c=>
  obtain ⟨callee,args,ats⟩:=c
  cases callee<;>simp only [kY]
  rw [List.map_congr_left (f:=ev) (g:=rq) fun x hx=>h x (by simp [Call.operands];exact by simpa using hx)]
 all_goals (first|rfl|(simp only [kY];simp_all;done)|(simp_all [kY];done))
theorem xo {ev rq:Operand→AV} {op:Op} (h:∀x∈op.operands.toList,ev x=rq x):iU ev op=iU rq op∧mH T ev op bx=mH T rq op bx:=by
 cases op<;>simp only [Op.operands] at h
 case slice t x lo hi mx=>
  simp only [iU,mH,h x (by simp),lG (x:=lo) (fun y hy=>h y (by simp [hy])),lG (x:=hi) (fun y hy=>h y (by simp [hy])),lG (x:=mx) (fun y hy=>h y (by simp [hy])),and_self]
 case indexAddr t x i=>simp only [iU,mH,h x (by simp),h i (by simp),and_self]
 case makeSlice t x i=>simp only [iU,mH,h x (by simp),h i (by simp),and_self]
 case call c=>
  obtain ⟨callee,args,ats⟩:=c
  cases callee
  case builtin b=>
   have hm:args.toList.map ev=args.toList.map rq:=List.map_congr_left (f:=ev) (g:=rq) fun x hx=>h x (by simp [Call.operands];exact by simpa using hx)
   have hs:∀x∈args.toList,ev x=rq x:=fun x hx=>h x (by simp [Call.operands];exact by simpa using hx)
   refine ⟨?_,by simp only [mH,hm]⟩
   simp only [iU]
   generalize args.toList=l at hs
   split<;>first|rfl|(rw [hs _ (by simp)])
  all_goals exact ⟨rfl,rfl⟩
 all_goals exact ⟨rfl,rfl⟩
theorem Mf {ev rq:Operand→AV} {op:Op} (h:∀x∈op.operands.toList,ev x=rq x):ES T ev op bx=ES T rq op bx:=by
 unfold ES
 rw [(xo (T:=T) (bx:=bx) h).1,(xo (T:=T) (bx:=bx) h).2,ID h]
end
end Dem
end
section
open Go
namespace Dem
section
variable {P:Program} {T:Nat→Option TI} {G:Nat→Option (List D)} {N:Nat} {ds:List Deferred} {β:Nat→Nat} {bx aZ:List aB} {w:World} {X:Nat→Prop} {s:St} {a:Act}
def OF (ev:Operand→AV) (xs:List Operand):Prop:=∀x∈xs,(ev x).ok
theorem mJ.le {FC:Nat→List AV→List aB→jN→List aB→Prop} {f:Nat} {args:List AV} {v:AV} (h:mJ FC f args bx v) (hb:lg bx aZ):mJ FC f args aZ v:=by
 obtain ⟨args',jO,k1,k2,k3,k4,k5⟩:=h
 refine ⟨args',jO,DI hb k1,k2,k3,?_,k5⟩
 intro i b hi dQ
 obtain ⟨b',h1,h2,h3⟩:=k4 i b hi dQ
 exact ⟨b',hb i b' h1 h2,h2,h3⟩
theorem IE {ev rq:Operand→AV} {op:Op} (h:∀x∈op.operands.toList,ev x=rq x):BE T ev op=BE T rq op:=by
 unfold BE
 split
 ·rename_i b args ats
  split
  ·rename_i x y t u ha Ur
   have mx:x∈args.toList:=by rw [ha];simp
   have my:y∈args.toList:=by rw [ha];simp
   rw [h x (by simp [Op.operands,Call.operands];exact by simpa using mx),h y (by simp [Op.operands,Call.operands];exact by simpa using my)]
  rfl
 rfl
inductive YG (FC:Nat→List AV→List aB→jN→List aB→Prop) (T:Nat→Option TI) (g:Bool) (ev:Operand→AV) (bx:List aB):Op→AV→Prop
 |pick (c a b:Operand) (p:Bool) (hc:(ev c).aX=.d (.bool p)) (hg:g=true→(ev c).ok∧(p=true→(ev a).ok)∧(p=false→(ev b).ok)):YG FC T g ev bx (.pick c a b) (zb p (ev a).aX (ev b).aX)
 |call (f:Operand) (args:Array Operand) (ats:Array TypeId) (i:Nat) (as:List AV) (v:AV) (hf:lJ (ev f).aX (args.toList.map fun x=>(ev x).aX)=some (i,as))
  (hg:g=true→((ev f).ok∧OF ev args.toList)∧mJ FC i as bx v):
  YG FC T g ev bx (.call {callee:=.value f,args:=args,argTypes:=ats}) v
 |inv (f:Operand) (nm:String) (args:Array Operand) (ats:Array TypeId) (i:Nat) (as:List AV) (v:AV) (hf:B7 T (ev f).aX nm (args.toList.map fun x=>(ev x).aX)=some (i,as))
  (hg:g=true→((ev f).ok∧OF ev args.toList)∧mJ FC i as bx v):
  YG FC T g ev bx (.call {callee:=.invoke f nm,args:=args,argTypes:=ats}) v
 |idx (t:Nat) (x i:Operand) (c:Prop) (ds ds':List D) (hi:zg T t (ev x).aX (ev i).aX=some (c,ds)) (hg:g=true→(OF ev [x,i]∧c)∧ds=ds'):YG FC T g ev bx (.indexAddr t x i) (.ep ds')
 |no (op:Op) (v:AV) (hg:g=false):YG FC T g ev bx op v
 |app (op:Op) (c:Prop) (es:List (List D)) (hr:BE T (fun x=>(ev x).aX) op=some (c,es)) (hg:g=true→OF ev op.operands.toList∧c):YG FC T g ev bx op (.d (.sl es))
 |op (op:Op) (c:Prop) (v:AV) (hr:ES T (fun x=>(ev x).aX) op bx=some ⟨c,v,none⟩) (hg:g=true→OF ev op.operands.toList∧c):YG FC T g ev bx op v
variable {FC:Nat→List AV→List aB→jN→List aB→Prop}
theorem uz {g:Bool} {o:Oper} {K:AV→Prop} (h:stepG FC T G g o s K):∃v,YG FC T g (cm G s.sl) s.bx o.op v∧K v:=by
 rcases h with ⟨hg,v,hK⟩|h|⟨c,es,hr,hg,hK⟩
 ·exact ⟨v,.no _ v hg,hK⟩
 rotate_left
 ·exact ⟨_,.app _ c es hr (fun h=>⟨fun x hx=>dD (hg h).1 x hx,(hg h).2⟩),hK⟩
 unfold vH at h
 split at h
 ·rename_i c x y ho
  split at h
  ·rename_i p hc
   rw [ho]
   exact ⟨_,.pick c x y p hc h.1,h.2⟩
  exact h.elim
 ·rename_i f args ats ho
  split at h
  ·rename_i i as FA
   obtain ⟨v,hg,hK⟩:=h
   rw [ho]
   exact ⟨v,.call f args ats i as v FA (fun hg'=>⟨⟨(hg hg').1.1,fun x hx=>dD (hg hg').1.2 x hx⟩,(hg hg').2⟩),hK⟩
  exact h.elim
 ·rename_i f nm args ats ho
  split at h
  ·rename_i i as FA
   obtain ⟨v,hg,hK⟩:=h
   rw [ho]
   exact ⟨v,.inv f nm args ats i as v FA (fun hg'=>⟨⟨(hg hg').1.1,fun x hx=>dD (hg hg').1.2 x hx⟩,(hg hg').2⟩),hK⟩
  exact h.elim
 split at h
 ·rename_i c ds hi
  obtain ⟨ds',hg,hK⟩:=h
  split at hi
  ·rename_i t x i ho
   rw [ho] at hg ⊢
   exact ⟨_,.idx t x i c ds ds' hi (fun hg'=>⟨⟨fun y hy=>dD (hg hg').1.1 y (by simpa [Op.operands] using hy),(hg hg').1.2⟩,(hg hg').2⟩),hK⟩
  simp at hi
 split at h
 ·rename_i c v hr
  exact ⟨v,.op _ c v hr (fun hg=>⟨fun x hx=>dD (h.1 hg).1 x hx,(h.1 hg).2⟩),h.2⟩
 exact h.elim
theorem YG.BI {g:Bool} {ev rq:Operand→AV} {op:Op} {v:AV} (h:YG FC T g ev bx op v) (iG:∀x∈op.operands.toList,ev x=rq x) (hb:lg bx aZ):YG FC T g rq aZ op v:=by
 cases h with
 |pick c x y p hc hg=>
  have e1:=iG c (by simp [Op.operands]);have e2:=iG x (by simp [Op.operands]);have e3:=iG y (by simp [Op.operands])
  rw [e1] at hc hg;rw [e2] at hg ⊢;rw [e3] at hg ⊢
  exact .pick c x y p hc hg
 |call f args ats i as v hf hg=>
  have e1:=iG f (by simp [Op.operands,Call.operands])
  have e2:∀x∈args.toList,ev x=rq x:=fun x hx=>iG x (by simp [Op.operands,Call.operands];exact .inr (by simpa using hx))
  rw [e1,List.map_congr_left (g:=fun x=>(rq x).aX) fun x hx=>by rw [e2 x hx]] at hf
  refine .call f args ats i as v hf (fun hg'=>?_)
  obtain ⟨⟨k1,k2⟩,k3⟩:=hg hg'
  exact ⟨⟨e1▸k1,fun x hx=>e2 x hx▸k2 x hx⟩,k3.le hb⟩
 |inv f nm args ats i as v hf hg=>
  have e1:=iG f (by simp [Op.operands,Call.operands])
  have e2:∀x∈args.toList,ev x=rq x:=fun x hx=>iG x (by simp [Op.operands,Call.operands];exact .inr (by simpa using hx))
  rw [e1,List.map_congr_left (g:=fun x=>(rq x).aX) fun x hx=>by rw [e2 x hx]] at hf
  refine .inv f nm args ats i as v hf (fun hg'=>?_)
  obtain ⟨⟨k1,k2⟩,k3⟩:=hg hg'
  exact ⟨⟨e1▸k1,fun x hx=>e2 x hx▸k2 x hx⟩,k3.le hb⟩
 |idx t x i c ds ds' hi hg=>
  have e1:=iG x (by simp [Op.operands]);have e2:=iG i (by simp [Op.operands])
  rw [e1,e2] at hi
  refine .idx t x i c ds ds' hi (fun hg'=>⟨⟨fun y hy=>?_,(hg hg').1.2⟩,(hg hg').2⟩)
  have:=(hg hg').1.1 y hy
  rw [iG y (by simpa [Op.operands] using hy)] at this
  exact this
 |no _ v hg=>exact .no _ v hg
 |app _ c es hr hg=>
  refine .app _ c es ?_ (fun hg'=>⟨fun x hx=>iG x hx▸(hg hg').1 x hx,(hg hg').2⟩)
  rw [←IE (ev:=fun x=>(ev x).aX) (rq:=fun x=>(rq x).aX) (fun x hx=>by rw [iG x hx])]
  exact hr
 |op _ c v hr hg=>
  refine .op _ c v ?_ (fun hg'=>⟨fun x hx=>iG x hx▸(hg hg').1 x hx,(hg hg').2⟩)
  rw [←Mf (ev:=fun x=>(ev x).aX) (rq:=fun x=>(rq x).aX) (fun x hx=>by rw [iG x hx])]
  exact Uw hb hr
theorem FN (hT:ko P T) (hF:Fr G N ds β w X s a) {o:Oper} {v:AV} {next:Act→World→Prop} {Qc:Exit→Act→World→Prop}
 (h:YG (bH P G) T true (cm G s.sl) s.bx o.op v) (hn:zJ G β s.bx w X a o.dst (fun v' bx=>v'=v∧bx=s.bx) next):o.wp P a w next Qc:=by
 have iG:∀x,(cm G s.sl x).ok→ak β s.bx w (bz β s.bx w X) (cm G s.sl x).aX (a.eval x):=fun x hx=>j7 (hF.eval x) hx
 unfold Oper.wp
 generalize ho:o.op=op at h
 cases h with
 |pick c x y p hc hg=>
  obtain ⟨h1,h2,h3⟩:=hg rfl
  have vB:=iG c h1
  rw [hc] at vB;simp only [ak,aS] at vB
  refine cQ (v:=_) (aZ:=s.bx) (dF.pure (u:=if p then a.eval x else a.eval y) hF.cx ?_ (zL (fun hp=>iG x (h2 hp)) (fun hp=>iG y (h3 hp)))) ⟨rfl,rfl⟩ hn
  simp [execOp,ho,vB,asBool]
 |call f args ats i as v FA hg=>
  obtain ⟨⟨h1,h2⟩,hq⟩:=hg rfl
  obtain ⟨fs,cs,e1,e2⟩:=l5 FA (iG f h1) (iA args.toList (fun y hy=>iG y (h2 y hy)))
  rw [kD ho e1]
  refine gJ (k9 (K:=fun v' bx=>v'=v∧bx=s.bx) hF.cx e2 hq ⟨rfl,rfl⟩) ?_ ?_ ?_
  ·rintro v w' ⟨β',aZ,v',u,e,ex,cx,hv,hK⟩
   cases e
   exact hn β' aZ w' v' v ex cx hv hK
  ·rintro ch w' ⟨_,_,_,_,e,_⟩;cases e
  rintro w' ⟨_,_,_,_,e,_⟩;cases e
 |inv f nm args ats i as v FA hg=>
  obtain ⟨⟨h1,h2⟩,hq⟩:=hg rfl
  obtain ⟨t,ti,u,k1,k2,k3,e2⟩:=Ck hT FA (iG f h1) (iA args.toList (fun y hy=>iG y (h2 y hy)))
  rw [xg hT ho k1 k2 k3]
  refine gJ (k9 (K:=fun v' bx=>v'=v∧bx=s.bx) hF.cx e2 hq ⟨rfl,rfl⟩) ?_ ?_ ?_
  ·rintro v w' ⟨β',aZ,v',u,e,ex,cx,hv,hK⟩
   cases e
   exact hn β' aZ w' v' v ex cx hv hK
  ·rintro ch w' ⟨_,_,_,_,e,_⟩;cases e
  rintro w' ⟨_,_,_,_,e,_⟩;cases e
 |idx t x i c ds ds' hi hg=>
  obtain ⟨⟨hk,hc⟩,rfl⟩:=hg rfl
  obtain ⟨r,k1,k2⟩:=zK (P:=P) (w:=w) hT hF.cx hi hc (iG x (hk x (by simp))) (iG i (hk i (by simp)))
  refine cQ (v:=_) (aZ:=s.bx) (dF.pure hF.cx ?_ k2) ⟨rfl,rfl⟩ hn
  simp only [execOp,ho]
  exact bQ _ k1
 |no _ v hg=>cases hg
 |app _ c es hr hg=>
  obtain ⟨h1,hc⟩:=hg rfl
  subst ho
  exact cQ (Cj (P:=P) hT hF.cx (ρ:=a.eval) (fun x hx=>iG x (h1 x hx)) hr hc) ⟨rfl,rfl⟩ hn
 |op _ c v hr hg=>
  obtain ⟨h1,hc⟩:=hg rfl
  subst ho
  exact cQ (zF (P:=P) hT hF.cx (ρ:=a.eval) (fun x hx=>iG x (h1 x hx)) hr hc) ⟨rfl,rfl⟩ hn
theorem FO {k:Nat} (h:bx[k]?=some .bC) (B:aB) {i:Nat} (hi:bX bx i):i≠k∧bX (bx.set k B) i:=by
 obtain ⟨b,h1,h2⟩:=hi
 have hne:i≠k:=by rintro rfl;rw [h] at h1;simp at h1;subst h1;simp [aB.born] at h2
 exact ⟨hne,b,by rw [List.getElem?_set_ne (Ne.symm hne)];exact h1,h2⟩
theorem pS {k:Nat} (h:bx[k]?=some .bC) (o:Obj) (B:aB):Ext β bx w (kS β k w.heap.size) (bx.set k B) {w with heap:=w.heap.push o}:=by
 refine ⟨rfl,rfl,rfl,by simp,fun j hj _=>iY w o j hj,fun j c e f hj=>⟨c,by rw [iY w o j (eZ hj)];exact hj,rfl⟩,?_,?_⟩
 ·intro i hi
  obtain ⟨h1,h2⟩:=FO h B hi
  exact ⟨c8 _ _ h1,h2⟩
 intro i b hb hl
 rcases aU hb with ⟨rfl,_,_⟩|⟨hne,hb'⟩
 ·exact .inl (by rw [bB];exact Nat.le_refl _)
 exact .inr ⟨i,b,hb',hl,(c8 _ _ hne).symm⟩
theorem FP (cx:cJ G β bx w X) {k:Nat} (h:bx[k]?=some .bC) (o:Obj) (B:aB)
 (hB:dm (kS β k w.heap.size) (bx.set k B) {w with heap:=w.heap.push o} (bz (kS β k w.heap.size) (bx.set k B) {w with heap:=w.heap.push o} X) B w.heap.size):
 cJ G (kS β k w.heap.size) (bx.set k B) {w with heap:=w.heap.push o} X:=by
 refine cx.step (pS h o B) ?_ ?_
 ·intro i b hb
  rcases aU hb with ⟨rfl,rfl,_⟩|⟨hne,hb'⟩
  ·exact .inr (by rw [bB];exact hB)
  exact .inl ⟨hb',fun hl=>iY w o _ ((cx.box i b hb').fI hl)⟩
 intro i j bi bj h1 h2 l1 l2 he
 rcases aU h1 with ⟨rfl,rfl,_⟩|⟨hi,h3⟩<;>rcases aU h2 with ⟨rfl,rfl,_⟩|⟨hj,h4⟩
 ·rfl
 ·rw [bB,c8 _ _ hj] at he
  have:=(cx.box j bj h4).fI l2;omega
 ·rw [bB,c8 _ _ hi] at he
  have:=(cx.box i bi h3).fI l1;omega
 rw [c8 _ _ hi,c8 _ _ hj] at he
 exact cx.inj i j bi bj h3 h4 l1 l2 he
theorem xu (cx:cJ G β bx w X) {k:Nat} (hk:bx[k]?=some .bC) (t:Nat) {x:AV} {u:Value} {cs:List AV} (hx:x.cells?=some cs) (h:ak β bx w (bz β bx w X) x u):
 ∃β' w',(newVar t u).run P w=.ok ⟨β' k,0,none⟩ w'∧Ext β bx w β' (bx.set k (.var cs)) w'∧cJ G β' (bx.set k (.var cs)) w' X:=by
 obtain ⟨vs,h1,h2,h3⟩:=nA hx h
 refine ⟨kS β k w.heap.size,{w with heap:=w.heap.push (.cells ⟨vs⟩ t)},?_,pS hk _ _,FP cx hk _ _ ?_⟩
 ·simp [newVar,newRow,newObj,Sem.run,h1,bB]
 refine ⟨⟨vs⟩,t,iZ _ _,?_⟩
 exact an.mono ((pS (β:=β) (bx:=bx) (w:=w) hk (.cells ⟨vs⟩ t) (.var cs)).eS X) _ _ h2
theorem DJ {sl rQ:List (Nat×AV)} {o:Oper} (h:∀x∈o.op.operands.toList,cm G sl x=cm G rQ x):iz T G sl o=iz T G rQ o:=by
 obtain ⟨dst,op,type,pos,after,guard⟩:=o
 unfold iz
 cases guard with
 |some g=>rfl
 |none=>
  cases op<;>simp only []
  rename_i t x
  rw [h x (by simp [Op.operands])]
theorem FQ (hT:ko P T) (hF:Fr G N ds β w X s a) {o:Oper} {cs:List AV} (hb:iz T G s.sl o=some cs) {k:Nat} (hk:s.bx[k]?=some .bC) {next:Act→World→Prop} {Qc:Exit→Act→World→Prop}
 (hn:zJ G β s.bx w X a o.dst (fun v bx=>v=.ptr k 0∧bx=s.bx.set k (.var cs)) next):o.wp P a w next Qc:=by
 obtain ⟨dst,op,type,pos,after,guard⟩:=o
 have hlt:k<s.bx.length:=jg hk
 have dQ:bX (s.bx.set k (.var cs)) k:=⟨.var cs,jh hk,rfl⟩
 unfold iz at hb
 unfold Oper.wp
 cases guard with
 |some g=>simp at hb
 |none=>
  simp only at hb
  split at hb
  ·rename_i t
   cases ht:T t with
   |none=>simp [ht] at hb
   |some ti=>
   simp only [ht] at hb
   obtain ⟨i,d,h1,h2,h3,h4,h5,h6⟩:=aP (hT.ti _ _ ht)
   cases yG:i.zero with
   |none=>rw [h6,yG] at hb;simp [AV.cells?] at hb
   |some z=>
   rw [h6,yG] at hb
   obtain ⟨β',w',k1,k2,k3⟩:=xu (P:=P) hF.cx hk t hb (tZ z)
   have hr:(execOp a.eval {dst:=dst,op:=.alloc t,type:=type,pos:=pos,after:=after,guard:=none}).run P w=.ok (.value (.pointer (some ⟨β' k,0,none⟩))) w':=
    bQ _ (by simp [Instr.alloc,gH h1 yG,k1])
   rw [hr]
   exact hn β' _ w' (.ptr k 0) _ k2 k3 (by simp only [ak];exact ⟨trv,dQ⟩) ⟨rfl,rfl⟩
  ·rename_i t x
   obtain ⟨β',w',k1,k2,k3⟩:=xu (P:=P) hF.cx hk t hb (hF.eval x)
   have hr:(execOp a.eval {dst:=dst,op:=.box t x,type:=type,pos:=pos,after:=after,guard:=none}).run P w=.ok (.value (.pointer (some ⟨β' k,0,none⟩))) w':=
    bQ _ (by simp [Instr.box,k1])
   rw [hr]
   exact hn β' _ w' (.ptr k 0) _ k2 k3 (by simp only [ak];exact ⟨trv,dQ⟩) ⟨rfl,rfl⟩
  simp at hb
theorem IF {β':Nat→Nat} {w':World} {sz n k:Nat} {es:List (List D)} {pz:List aB} {u:Value} (cx:cJ G β bx w X) (hk:bx[k]?=some .bC) (ex:Ext β [] w β' [.row sz es] w') (mB:cJ G β' [.row sz es] w' (pO β pz X))
 (hv:(∀r∈es,∀x∈r,x.flat=true)∨pz=bx) (hr:ak β' [.row sz es] w' (bz β' [.row sz es] w' (pO β pz X)) (.ow 0 sz n) u):
 Ext β bx w (kS β k (β' 0)) (bx.set k (.row sz es)) w'∧cJ G (kS β k (β' 0)) (bx.set k (.row sz es)) w' X∧
  ak (kS β k (β' 0)) (bx.set k (.row sz es)) w' (bz (kS β k (β' 0)) (bx.set k (.row sz es)) w' X) (.ow k sz n) u:=by
 have e0:=um (bx:=bx) ex
 have hlk:k<bx.length:=jg hk
 have hnew:aB.live (.row sz es)=true→w.heap.size≤β' 0:=by
  intro hl
  rcases ex.live 0 (.row sz es) rfl hl with h|⟨j,b',h1,_⟩
  ·exact h
  simp at h1
 have e1:Ext β bx w (kS β k (β' 0)) (bx.set k (.row sz es)) w':=by
  refine ⟨e0.os,e0.tape,e0.output,e0.size,e0.block,e0.shape,?_,?_⟩
  ·intro i hi
   obtain ⟨h1,h2⟩:=FO hk (.row sz es) hi
   exact ⟨c8 _ _ h1,h2⟩
  intro i b h hl
  rcases aU h with ⟨rfl,rfl,_⟩|⟨hne,h1⟩
  ·exact .inl (by rw [bB];exact hnew hl)
  exact .inr ⟨i,b,h1,hl,(c8 _ _ hne).symm⟩
 have hlt:∀i b,bx[i]?=some b→b.live=true→β i<w.heap.size:=fun i b h hl=>dm.fI (cx.box i b h) hl
 have hok:pz=bx→∀blk,bz β' [.row sz es] w' (pO β pz X) blk→bz (kS β k (β' 0)) (bx.set k (.row sz es)) w' X blk:=by
  rintro rfl blk ⟨k1,k2,k3⟩
  refine ⟨k1,fun hX=>k2 (.inl hX),?_⟩
  intro i b h hl
  rcases aU h with ⟨rfl,rfl,_⟩|⟨hne,h1⟩
  ·rw [bB];exact k3 0 _ rfl hl
  rw [c8 _ _ hne];exact fun he=>k2 (.inr ⟨i,b,h1,hl,he⟩)
 refine ⟨e1,cx.step e1 ?_ ?_,?_⟩
 ·intro i b h
  rcases aU h with ⟨rfl,rfl,_⟩|⟨hne,h1⟩
  ·refine .inr ?_
   have:=mB.box 0 _ rfl
   rw [bB]
   simp only [dm] at this ⊢
   refine this.imp id ?_
   rintro ⟨c,e,h1,h2⟩
   refine ⟨c,e,h1,?_⟩
   rcases hv with hfl|hb
   ·exact ot _ _ hfl h2
   exact ay.mono (fun blk hb'=>⟨hok hb blk hb',rfl⟩) _ _ (fun _=>rfl) _ _ h2
  exact .inl ⟨h1,fun hl=>ex.block _ (hlt i b h1 hl) (by simp)⟩
 ·intro i j bi bj hi hj mC ou he
  rcases aU hi with ⟨rfl,rfl,_⟩|⟨hni,h1⟩<;>rcases aU hj with ⟨rfl,rfl,_⟩|⟨hnj,h2⟩
  ·rfl
  ·rw [bB,c8 _ _ hnj] at he
   have:=hlt j bj h2 ou;have:=hnew mC;omega
  ·rw [bB,c8 _ _ hni] at he
   have:=hlt i bi h1 mC;have:=hnew ou;omega
  rw [c8 _ _ hni,c8 _ _ hnj] at he
  exact cx.inj i j bi bj h1 h2 mC ou he
 simp only [ak] at hr ⊢
 obtain ⟨_,h2⟩:=hr
 refine ⟨⟨_,jh hk,rfl⟩,?_⟩
 rw [bB];exact h2
theorem zR (hT:ko P T) (hF:Fr G N ds β w X s a) {o:Oper} {k:Nat} {v0:AV} {B0:aB} (h:lK (bH P G) G o s.sl s.bx k (fun v B=>v=v0∧B=B0)) {next:Act→World→Prop} {Qc:Exit→Act→World→Prop}
 (hn:zJ G β s.bx w X a o.dst (fun v bx=>v=v0∧bx=s.bx.set k B0) next):o.wp P a w next Qc:=by
 obtain ⟨f,args,ats,i,as,args',sz,n,es,ho,FA,⟨h1,h2⟩,h3,h4,h5,h6,hk,rfl,rfl⟩:=h
 have iG:∀x,(cm G s.sl x).ok→ak β s.bx w (bz β s.bx w X) (cm G s.sl x).aX (a.eval x):=fun x hx=>j7 (hF.eval x) hx
 obtain ⟨fs,cs,e1,e2⟩:=l5 FA (iG f h1) (iA args.toList (fun y hy=>iG y (dD h2 y hy)))
 unfold Oper.wp
 rw [kD ho e1]
 obtain ⟨x1,c1,r1⟩:=lF as s.bx _ _ hF.cx h3 e2
 have cn:=Fv c1
 have hnn:an β [] w (bz β [] w (pO β (fy s.bx as) X)) _ _:=lE (fun blk hb=>Fw blk hb) _ _ h4 r1
 refine gJ (h5 β w _ _ cn hnn) ?_ ?_ ?_
 ·rintro u w' ⟨β',ex,mB,hr⟩
  simp only [lV] at hr
  obtain ⟨y1,y2,y3⟩:=IF hF.cx hk ex mB (by
   rcases h6 with hfl|Ou
   ·exact .inl hfl
   refine .inr ?_
   rw [jZ s.bx Ou]) hr
  exact hn _ _ w' _ u y1 y2 y3 ⟨rfl,rfl⟩
 ·rintro ch w' ⟨_,_,_,hr⟩;exact hr.elim
 rintro w' ⟨_,_,_,hr⟩;exact hr.elim
end
end Dem
end
section
open Go
namespace Dem
structure It where
 dst:Option Nat
 v:AV
 bi:Option (Nat×aB)
def dH (m:Nat→Bool):Nat→List It→List (Nat×AV)→List (Nat×AV)
 |_,[],sl=>sl
 |i,t::r,sl=>dH m (i+1) r (bif m i then eH t.dst t.v sl else sl)
def pT (t:It) (bx:List aB):List aB:=
 match t.bi with
 |some (k,B)=>bx.set k B
 |none=>bx
def ff (m:Nat→Bool):Nat→List It→List aB→List aB
 |_,[],bx=>bx
 |i,t::r,bx=>ff m (i+1) r (bif m i then pT t bx else bx)
theorem nF (t:Nat) (dst:Option Nat) (v:AV) (sl:List (Nat×AV)):gG t (eH dst v sl)=if dst=some t then v else gG t sl:=by
 cases dst with
 |none=>simp [eH]
 |some d=>
  simp only [eH,oy,osI]
  by_cases h:t=d
  ·subst h;simp
  have:d≠t:=fun e=>h e.symm
  simp [h,this]
theorem pU {t:Nat} {m m':Nat→Bool}:∀(cK:List It) (i:Nat) (sl rQ:List (Nat×AV)),gG t sl=gG t rQ→
 (∀j it,cK[j]?=some it→it.dst=some t→m (i+j)=m' (i+j))→gG t (dH m i cK sl)=gG t (dH m' i cK rQ)
 |[],_,_,_,h,_=>h
 |it::r,i,sl,rQ,h,hm=>by
  simp only [dH]
  refine pU r (i+1) _ _ ?_ (fun j it' hj hd=>by have:=hm (j+1) it' (by simpa using hj) hd;simpa [Nat.add_assoc,Nat.add_comm 1 j] using this)
  by_cases hd:it.dst=some t
  ·have:=hm 0 it rfl hd
   rw [Nat.add_zero] at this
   rw [this]
   cases m' i<;>simp [nF,hd,h]
  cases m i<;>cases m' i<;>simp [nF,hd,h]
theorem zS {t:Nat} {m:Nat→Bool}:∀(cK:List It) (i:Nat) (sl:List (Nat×AV)),(∀j it,cK[j]?=some it→it.dst=some t→m (i+j)=false)→gG t (dH m i cK sl)=gG t sl
 |[],_,_,_=>rfl
 |it::r,i,sl,hm=>by
  simp only [dH]
  rw [zS r (i+1) _ (fun j it' hj hd=>by have:=hm (j+1) it' (by simpa using hj) hd;simpa [Nat.add_assoc,Nat.add_comm 1 j] using this)]
  by_cases hd:it.dst=some t
  ·have:=hm 0 it rfl hd
   rw [Nat.add_zero] at this
   simp [this]
  cases m i<;>simp [nF,hd]
theorem kE {m m':Nat→Bool}:∀(cK:List It) (i:Nat) (sl:List (Nat×AV)),(∀j,j<cK.length→m (i+j)=m' (i+j))→dH m i cK sl=dH m' i cK sl
 |[],_,_,_=>rfl
 |it::r,i,sl,hm=>by
  simp only [dH]
  have h0:=hm 0 (by simp)
  rw [Nat.add_zero] at h0
  rw [h0]
  exact kE r (i+1) _ (fun j hj=>by have:=hm (j+1) (by simpa using hj);simpa [Nat.add_assoc,Nat.add_comm 1 j] using this)
theorem mO {m m':Nat→Bool}:∀(cK:List It) (i:Nat) (bx:List aB),(∀j,j<cK.length→m (i+j)=m' (i+j))→ff m i cK bx=ff m' i cK bx
 |[],_,_,_=>rfl
 |it::r,i,bx,hm=>by
  simp only [ff]
  have h0:=hm 0 (by simp)
  rw [Nat.add_zero] at h0
  rw [h0]
  exact mO r (i+1) _ (fun j hj=>by have:=hm (j+1) (by simpa using hj);simpa [Nat.add_assoc,Nat.add_comm 1 j] using this)
theorem zT:∀(cK:List It) (i j:Nat) (sl:List (Nat×AV)),dH (fun _=>true) i (cK.take j) sl=dH (fun x=>decide (x<i+j)) i cK sl
 |[],i,j,sl=>by simp [dH]
 |it::r,i,0,sl=>by
  simp only [List.take_zero,dH,Nat.add_zero,Nat.lt_irrefl,decide_false,cond_false]
  have:∀(r:List It) (k:Nat),i≤k→dH (fun x=>decide (x<i)) k r sl=sl:=by
   intro r
   induction r with
   |nil=>intro k _;rfl
   |cons t r ih=>
    intro k hk
    simp only [dH,show ¬k<i by omega,decide_false,cond_false]
    exact ih (k+1) (by omega)
  exact (this r (i+1) (by omega)).symm
 |it::r,i,j+1,sl=>by
  simp only [List.take_succ_cons,dH,cond_true,show i<i+(j+1) by omega,decide_true]
  rw [zT r (i+1) j]
  exact kE r (i+1) _ (fun k _=>by simp only [show i+1+j=i+(j+1) by omega])
theorem zU {t:Nat} {m m':Nat→Bool}:∀(cK:List It) (i j0:Nat) (KV:It) (sl:List (Nat×AV)),cK[j0]?=some KV→m (i+j0)=false→m' (i+j0)=true→(∀x,x≠i+j0→m' x=m x)→
 (∀j it,cK[j]?=some it→j0<j→m (i+j)=true→∀d,KV.dst=some d→it.dst≠some d)→gG t (dH m' i cK sl)=gG t (eH KV.dst KV.v (dH m i cK sl))
 |[],_,_,_,_,h,_,_,_,_=>by simp at h
 |it::r,i,0,KV,sl,h,h1,h2,h3,h4=>by
  simp at h;subst h
  simp only [Nat.add_zero] at h1 h2
  simp only [dH,h1,h2,cond_true,cond_false]
  rw [kE (m:=m') (m':=m) r (i+1) _ (fun j _=>h3 _ (by omega)),nF]
  by_cases hd:it.dst=some t
  ·rw [if_pos hd,zS r (i+1) _ (fun j it' hj Uv=>?_),nF,if_pos hd]
   cases hq:m (i+1+j) with
   |false=>rfl
   |true=>exact absurd Uv (h4 (j+1) it' (by simpa using hj) (by omega) (by rw [show i+(j+1)=i+1+j by omega];exact hq) t hd)
  rw [if_neg hd]
  exact pU r (i+1) _ _ (by rw [nF,if_neg hd]) (fun _ _ _ _=>rfl)
 |it::r,i,j0+1,KV,sl,h,h1,h2,h3,h4=>by
  simp only [dH]
  rw [h3 i (by omega)]
  exact zU r (i+1) j0 KV _ (by simpa using h) (by rw [show i+1+j0=i+(j0+1) by omega];exact h1) (by rw [show i+1+j0=i+(j0+1) by omega];exact h2)
   (fun x hx=>h3 x (by omega)) (fun j it' hj hlt hm=>h4 (j+1) it' (by simpa using hj) (by omega) (by rw [show i+(j+1)=i+1+j by omega];exact hm))
def kF:Nat→List It→Prop
 |_,[]=>True
 |k,t::r=>match t.bi with
  |some (x,_)=>x=k∧kF (k+1) r
  |none=>kF k r
theorem kF.ge:∀{cK:List It} {k:Nat},kF k cK→∀{j:Nat} {it:It} {x:Nat} {cs:aB},cK[j]?=some it→it.bi=some (x,cs)→k≤x
 |[],_,_,_,_,_,_,h,_=>by simp at h
 |t::r,k,hk,0,it,x,cs,h,hb=>by
  simp at h;subst h
  simp only [kF,hb] at hk
  omega
 |t::r,k,hk,j+1,it,x,cs,h,hb=>by
  simp only [kF] at hk
  split at hk
  ·have:=hk.2.ge (j:=j) (by simpa using h) hb;omega
  exact kF.ge hk (j:=j) (by simpa using h) hb
theorem kF.apart:∀{cK:List It} {k:Nat},kF k cK→∀{j j':Nat} {it it':It} {x x':Nat} {cs cs':aB},cK[j]?=some it→it.bi=some (x,cs)→cK[j']?=some it'→it'.bi=some (x',cs')→j≠j'→x≠x'
 |[],_,_,_,_,_,_,_,_,_,_,h,_,_,_,_=>by simp at h
 |t::r,k,hk,0,0,_,_,_,_,_,_,_,_,_,_,hne=>absurd rfl hne
 |t::r,k,hk,0,j'+1,it,it',x,x',cs,cs',h,hb,h',hb',_=>by
  simp at h;subst h
  simp only [kF,hb] at hk
  have:=hk.2.ge (j:=j') (by simpa using h') hb';omega
 |t::r,k,hk,j+1,0,it,it',x,x',cs,cs',h,hb,h',hb',_=>by
  simp at h';subst h'
  simp only [kF,hb'] at hk
  have:=hk.2.ge (j:=j) (by simpa using h) hb;omega
 |t::r,k,hk,j+1,j'+1,it,it',x,x',cs,cs',h,hb,h',hb',hne=>by
  have hk':∃k',kF k' r:=by
   simp only [kF] at hk
   split at hk
   ·exact ⟨_,hk.2⟩
   exact ⟨_,hk⟩
  obtain ⟨k',hk'⟩:=hk'
  exact kF.apart hk' (j:=j) (j':=j') (by simpa using h) hb (by simpa using h') hb' (by omega)
theorem Cq {m:Nat→Bool} {x:Nat}:∀(cK:List It) (i:Nat) (bx:List aB),(∀j it y cs,cK[j]?=some it→m (i+j)=true→it.bi=some (y,cs)→y≠x)→(ff m i cK bx)[x]?=bx[x]?
 |[],_,_,_=>rfl
 |t::r,i,bx,h=>by
  simp only [ff]
  rw [Cq r (i+1) _ (fun j it y cs hj hm hb=>h (j+1) it y cs (by simpa using hj) (by rw [show i+(j+1)=i+1+j by omega];exact hm) hb)]
  cases hm:m i with
  |false=>rfl
  |true=>
   simp only [cond_true,pT]
   split
   ·rename_i k cs hb
    have:=h 0 t k cs rfl (by simpa using hm) hb
    rw [List.getElem?_set_ne this]
   rfl
theorem Cr {m:Nat→Bool} {x:Nat} {B:aB}:∀(cK:List It) (i:Nat) (bx:List aB),(∀j it y cs,cK[j]?=some it→m (i+j)=true→it.bi=some (y,cs)→y≠x)→ff m i cK (bx.set x B)=(ff m i cK bx).set x B
 |[],_,_,_=>rfl
 |t::r,i,bx,h=>by
  simp only [ff]
  rw [←Cr r (i+1) _ (fun j it y cs hj hm hb=>h (j+1) it y cs (by simpa using hj) (by rw [show i+(j+1)=i+1+j by omega];exact hm) hb)]
  congr 1
  cases hm:m i with
  |false=>rfl
  |true=>
   simp only [cond_true,pT]
   split
   ·rename_i k cs hb
    have:=h 0 t k cs rfl (by simpa using hm) hb
    rw [List.set_comm _ _ (Ne.symm this)]
   rfl
theorem zV {m m':Nat→Bool}:∀(cK:List It) (i j0:Nat) (KV:It) (bx:List aB),cK[j0]?=some KV→m (i+j0)=false→m' (i+j0)=true→(∀x,x≠i+j0→m' x=m x)→
 (∀j it y cs x cs0,cK[j]?=some it→j≠j0→it.bi=some (y,cs)→KV.bi=some (x,cs0)→y≠x)→ff m' i cK bx=pT KV (ff m i cK bx)
 |[],_,_,_,_,h,_,_,_,_=>by simp at h
 |t::r,i,0,KV,bx,h,h1,h2,h3,h4=>by
  simp at h;subst h
  simp only [Nat.add_zero] at h1 h2
  simp only [ff,h1,h2,cond_true,cond_false]
  rw [mO (m:=m') (m':=m) r (i+1) _ (fun j _=>h3 _ (by omega))]
  unfold pT
  split
  ·rename_i k cs hb
   exact Cr r (i+1) bx (fun j it y cs' hj _ hb'=>h4 (j+1) it y cs' k cs (by simpa using hj) (by omega) hb' hb)
  rfl
 |t::r,i,j0+1,KV,bx,h,h1,h2,h3,h4=>by
  simp only [ff]
  rw [h3 i (by omega)]
  exact zV r (i+1) j0 KV _ (by simpa using h) (by rw [show i+1+j0=i+(j0+1) by omega];exact h1) (by rw [show i+1+j0=i+(j0+1) by omega];exact h2)
   (fun x hx=>h3 x (by omega)) (fun j it y cs x cs0 hj hne=>h4 (j+1) it y cs x cs0 (by simpa using hj) (by omega))
theorem FR {m:Nat→Bool} {aV:List aB}:∀(cK:List It) (i:Nat) (bx:List aB),lg aV bx→(∀(j:Nat) (it:It) (y:Nat) (cs:aB),cK[j]?=some it→it.bi=some (y,cs)→aV[y]?=some .bC)→lg aV (ff m i cK bx)
 |[],_,_,h,_=>h
 |t::r,i,bx,h,hu=>by
  simp only [ff]
  refine FR r (i+1) _ ?_ (fun j it y cs hj=>hu (j+1) it y cs (by simpa using hj))
  cases m i with
  |false=>exact h
  |true=>
   simp only [cond_true,pT]
   split
   ·rename_i k cs hb
    have h0:=hu 0 t k cs rfl hb
    intro x b hx dQ
    by_cases hxk:k=x
    ·subst hxk;rw [h0] at hx;simp at hx;subst hx;simp [aB.born] at dQ
    rw [List.getElem?_set_ne hxk];exact h x b hx dQ
   exact h
end Dem
end
section
open Go
namespace Dem
theorem uA:∀(l:List Oper) (acc:List Nat),(cM l acc).take acc.length=acc
 |[],acc=>by simp [cM]
 |o::r,acc=>by
  have h:=uA r (acc++[qW acc o])
  simp only [cM]
  have:=congrArg (List.take acc.length) h
  simpa [List.take_take] using this
theorem xw:∀(l:List Oper) (acc:List Nat) (j:Nat) (o:Oper),l[j]?=some o→(cM l acc)[acc.length+j]?=some (qW ((cM l acc).take (acc.length+j)) o)
 |[],_,_,_,h=>by simp at h
 |p::r,acc,0,o,h=>by
  simp at h;subst h
  simp only [cM,Nat.add_zero]
  have h1:=uA r (acc++[qW acc p])
  have h2:=congrArg (List.take acc.length) h1
  have h3:=congrArg (fun l=>l[acc.length]?) h1
  simp only [List.take_take,List.length_append,List.length_cons,List.length_nil,Nat.zero_add] at h2 h3
  rw [Nat.min_eq_left (by omega)] at h2
  rw [List.getElem?_take,if_pos (by omega)] at h3
  rw [h3,h2]
  simp
 |p::r,acc,j+1,o,h=>by
  have:=xw r (acc++[qW acc p]) j o (by simpa using h)
  simp only [List.length_append,List.length_cons,List.length_nil,Nat.zero_add] at this
  simp only [cM]
  rw [show acc.length+(j+1)=acc.length+1+j by omega]
  exact this
theorem xx {acc:List Nat} {i:Nat}:∀(es:List Edge) (s:Nat),(es.foldl (fun s e=>bif Region.binds .any e then s ||| 2^e.on ||| acc.getD e.on 0 else s) s).testBit i=true→
 s.testBit i=true∨∃e∈es,Region.binds .any e=true∧(e.on=i∨(acc.getD e.on 0).testBit i=true)
 |[],s,h=>.inl h
 |e::es,s,h=>by
  rw [List.foldl_cons] at h
  rcases xx es _ h with h1|⟨e',h1,h2⟩
  ·cases hb:Region.binds .any e with
   |false=>rw [hb] at h1;exact .inl h1
   |true=>
    rw [hb] at h1
    simp only [cond_true,Nat.testBit_or,Bool.or_eq_true] at h1
    rcases h1 with (h1|h1)|h1
    ·exact .inl h1
    ·refine .inr ⟨e,by simp,hb,.inl ?_⟩
     rw [Nat.testBit_two_pow] at h1
     simpa using h1
    exact .inr ⟨e,by simp,hb,.inr h1⟩
  exact .inr ⟨e',by simp [h1],h2⟩
section
variable {ops:Array Oper}
def Down (ops:Array Oper) (m:Nat→Bool):Prop:=∀x o,ops[x]?=some o→m x=true→∀e∈o.after,Region.binds .any e=true→m e.on=true
theorem closed {m:Nat→Bool} (hd:Down ops m):∀(j:Nat) (o:Oper),ops[j]?=some o→(∀e∈o.after,Region.binds .any e=true→m e.on=true)→∀i,((cM ops.toList []).getD j 0).testBit i=true→m i=true:=by
 intro j
 induction j using Nat.strongRecOn with
 |_ j ih=>
  intro o ho hp i hi
  have vR:=xw ops.toList [] j o (by simpa using ho)
  simp only [List.length_nil,Nat.zero_add] at vR
  rw [List.getD_eq_getElem?_getD,vR] at hi
  simp only [Option.getD_some,qW] at hi
  rcases xx _ _ hi with h|⟨e,he,hb,h|h⟩
  ·simp at h
  ·subst h;exact hp e (by simpa using he) hb
  have hlt:e.on<j:=by
   rcases Nat.lt_or_ge e.on j with h'|h'
   ·exact h'
   rw [List.getD_eq_getElem?_getD,List.getElem?_take,if_neg (by omega)] at h
   simp at h
  have hh:((cM ops.toList []).getD e.on 0).testBit i=true:=by
   rw [List.getD_eq_getElem?_getD,List.getElem?_take,if_pos hlt] at h
   rw [List.getD_eq_getElem?_getD];exact h
  have hj:j<ops.size:=(Array.getElem?_eq_some_iff.1 ho).1
  have ho':ops[e.on]?=some ops[e.on]:=by simp [show e.on<ops.size by omega]
  exact ih e.on hlt _ ho' (hd _ _ ho' (hp e (by simpa using he) hb)) i hh
theorem pV {m:Nat} {o:Oper}:∀{n:Nat},gW.qX ops m o n=true→∀j,j<n→m.testBit j=true∨∃p,ops[j]?=some p∧p.apart ops o=true
 |0,_,j,hj=>by omega
 |n+1,h,j,hj=>by
  simp only [gW.qX,Bool.and_eq_true,Bool.or_eq_true] at h
  by_cases hjn:j=n
  ·subst hjn
   refine h.1.imp id (fun h1=>?_)
   split at h1
   ·rename_i p hp;exact ⟨p,hp,h1⟩
   simp at h1
  exact pV h.2 j (by omega)
theorem lm {b:List Nat}:∀{l:List Oper} {i:Nat},gW ops b i l=true→∀j o,l[j]?=some o→
 (∀e∈o.after,Region.binds .any e=true→e.on<i+j)∧∀k,k<i+j→(b.getD (i+j) 0).testBit k=true∨∃p,ops[k]?=some p∧p.apart ops o=true
 |[],_,_,j,o,ho=>by simp at ho
 |q::r,i,h,0,o,ho=>by
  simp at ho;subst ho
  simp only [gW,Bool.and_eq_true] at h
  refine ⟨fun e he hb=>?_,fun k hk=>pV h.1.2 k hk⟩
  have:=List.all_eq_true.1 h.1.1 e (by simpa using he)
  simpa [hb,Nat.blt_eq] using this
 |q::r,i,h,j+1,o,ho=>by
  simp only [gW,Bool.and_eq_true] at h
  have:=lm h.2 j o (by simpa using ho)
  rw [show i+(j+1)=i+1+j by omega]
  exact this
theorem DK {b:List Nat} {q:Nat} (h:barrier b q=true):(∀i,i<q→(b.getD q 0).testBit i=true)∧∀i,q<i→i<b.length→(b.getD i 0).testBit q=true:=by
 simp only [barrier,Bool.and_eq_true] at h
 obtain ⟨h1,h2⟩:=h
 refine ⟨fun i hi=>?_,fun i hi hl=>?_⟩
 ·rw [Nat.eq_of_beq_eq_true h1]
  simpa using hi
 refine List.all_eq_true.1 h2 _ ?_
 rw [List.getD_eq_getElem?_getD,List.getElem?_eq_getElem hl,Option.getD_some]
 rw [List.mem_iff_getElem?]
 refine ⟨i-(q+1),?_⟩
 rw [List.getElem?_drop,show q+1+(i-(q+1))=i by omega,List.getElem?_eq_getElem hl]
theorem pW:∀(l:List Oper) (acc:List Nat),(cM l acc).length=acc.length+l.length
 |[],acc=>by simp [cM]
 |o::r,acc=>by simp only [cM];rw [pW r];simp;omega
end
end Dem
end
