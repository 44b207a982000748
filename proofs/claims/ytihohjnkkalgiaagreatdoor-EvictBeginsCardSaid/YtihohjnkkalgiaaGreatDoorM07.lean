/- Parts of a proof, joined. -/
import Derived.Test.YtihohjnkkalgiaaGreatDoorM06
import Derived.ChangeSame
import Derived.ChangeArms
import Derived.OpenShut
import Derived.WideShapes
import Derived.Deep.Slices
import Derived.Orders
set_option linter.all false
set_option maxRecDepth 100000
set_option maxHeartbeats 4000000
section
open Go Go.Deep
namespace Dem
inductive PT where
 |bool
 |int (k:IntKind)
 |str
 |sl (es:List PT)
def Po (r:TypeId→Option (List PT)) (sz:TypeId→Nat):List Field→Nat→Option (List PT)
 |[],_=>some []
 |f::fs,off=>if f.offset=off then match r f.type,Po r sz fs (off+sz f.type) with
  |some a,some b=>if a.length=sz f.type then some (a++b) else none
  |_,_=>none else none
def F7 (P:Program):Nat→TypeId→Option (List PT)
 |0,_=>none
 |n+1,t=>match P.underlying t with
  |some .bool=>some [.bool]
  |some (.int k)=>some [.int k]
  |some .string=>some [.str]
  |some (.slice e)=>match F7 P n e with
   |some ps=>if ps.length=P.cellsOf e∧0<ps.length then some [.sl ps] else none
   |none=>none
  |some (.struct fs)=>match Po (F7 P n) P.cellsOf fs.toList 0 with
   |some ps=>if ps.length=P.cellsOf t then some ps else none
   |none=>none
  |some (.array k e)=>match F7 P n e with
   |some ps=>if ps.length=P.cellsOf e∧k*ps.length=P.cellsOf t then some (List.replicate k ps).flatten else none
   |none=>none
  |_=>none
mutual
def xW:PT→D→Prop
 |.bool,d=>∃b,d=.bool b
 |.int k,d=>∃n,d=.int k n∧(Lit.int k n).wf=true
 |.str,d=>∃s:List UInt8,d=.str s∧s.length≤maxLen
 |.sl ps,d=>∃es:List (List D),d=.sl es∧es.length≤maxLen∧∀r∈es,dc ps r
def dc:List PT→List D→Prop
 |[],ds=>ds=[]
 |p::ps,ds=>∃d r,ds=d::r∧xW p d∧dc ps r
end
theorem dc.length:∀{ps:List PT} {ds:List D},dc ps ds→ds.length=ps.length
 |[],ds,h=>by simp only [dc] at h;subst h;rfl
 |p::ps,ds,h=>by
  simp only [dc] at h
  obtain ⟨d,r,rfl,_,h2⟩:=h
  simp [dc.length h2]
theorem dc.append:∀{ps qs:List PT} {ds es:List D},dc ps ds→dc qs es→dc (ps++qs) (ds++es)
 |[],qs,ds,es,h,g=>by simp only [dc] at h;subst h;exact g
 |p::ps,qs,ds,es,h,g=>by
  simp only [dc] at h
  obtain ⟨d,r,rfl,h1,h2⟩:=h
  simp only [List.cons_append,dc]
  exact ⟨d,r++es,rfl,h1,h2.append g⟩
theorem cD.append {w:World} {ok:Nat→Prop}:∀{ds es:List D} {vs us:List Value},cD w ok ds vs→cD w ok es us→cD w ok (ds++es) (vs++us)
 |[],es,vs,us,h,g=>by simp only [cD] at h;subst h;exact g
 |d::ds,es,vs,us,h,g=>by
  simp only [cD] at h
  obtain ⟨v,r,rfl,h1,h2⟩:=h
  simp only [List.cons_append,cD]
  exact ⟨v,r++us,rfl,h1,h2.append g⟩
theorem cD.row {w:World} {ok:Nat→Prop} {blk:Nat}:∀{ds:List D} {vs:List Value} {off:Nat},cD w ok ds vs→(∀i,i<vs.length→w.cell? ⟨blk,off+i,none⟩=vs[i]?)→bf w ok blk ds off
 |[],_,_,_,_=>by simp [bf]
 |d::ds,vs,off,h,hc=>by
  simp only [cD] at h
  obtain ⟨v,r,rfl,h1,h2⟩:=h
  simp only [bf]
  refine ⟨⟨v,by simpa using hc 0 (by simp),h1⟩,h2.row fun i hi=>?_⟩
  have:=hc (i+1) (by simp;omega)
  simpa [Nat.add_assoc,Nat.add_comm 1 i] using this
mutual
def fT {H:Type}:DataW H→List D
 |.lit (.bool b)=>[.bool b]
 |.lit (.int k n)=>[.int k n]
 |.lit (.string s)=>[.str s]
 |.nil=>[.sl []]
 |.slice elems _=>[.sl (uV elems)]
 |.agg parts=>ix parts
 |_=>[]
def uV {H:Type}:List (DataW H)→List (List D)
 |[]=>[]
 |d::r=>fT d::uV r
def ix {H:Type}:List (DataW H)→List D
 |[]=>[]
 |d::r=>fT d++ix r
end
theorem uW {H:Type}:∀l:List (DataW H),uV l=l.map fT
 |[]=>rfl
 |d::r=>by simp [uV,uW r]
theorem CT {w:World} {ok:Nat→Prop} {blk sz:Nat}:∀(n off:Nat) (f:Nat→List D),(∀i,i<n→bf w ok blk (f i) (off+i*sz)∧(f i).length=sz)→ax w ok blk sz ((List.range n).map f) off
 |0,off,_,_=>by simp [ax]
 |n+1,off,f,h=>by
  obtain ⟨h1,h2⟩:=h 0 (by omega)
  rw [List.range_succ_eq_map,List.map_cons,List.map_map]
  simp only [ax]
  refine ⟨h2,by simpa using h1,CT n (off+sz) _ fun i hi=>?_⟩
  obtain ⟨k1,k2⟩:=h (i+1) (by omega)
  rw [show off+sz+i*sz=off+(i+1)*sz by rw [Nat.succ_mul];omega]
  exact ⟨k1,k2⟩
theorem MS {w:World} {a:Addr} {v:Value} (h:w.cell? a=some v):a.spot=none:=by
 unfold World.cell? at h
 split at h
 ·split at h
  ·cases h
  rename_i hs;simpa using hs
 cases h
theorem add_eq {a:Addr} (h:a.spot=none) (n:Nat):a.add n=⟨a.block,a.off+n,none⟩:=by
 unfold Addr.add
 split
 ·rename_i h0;subst h0;cases a;simp_all
 rfl
theorem Ak {α:Type} (cs:List α) (off a b:Nat):(cs.drop off).take (a+b)=(cs.drop off).take a++(cs.drop (off+a)).take b:=by
 rw [List.take_add,List.drop_drop]
section
variable {H:Type} {enc:TypeId×Value→H} {P:Program} {w:World} {spare:Nat→Bool} {held:Bool} {ok:Nat→Prop}
theorem Al {r:TypeId→Option (List PT)} {n:Nat} {cs:List Value} (hr:∀t cs x ps,DataW.trod enc P w 0 spare held n t cs=some x→r t=some ps→cD w ok (fT x.1) cs∧dc ps (fT x.1)):
 ∀(fs:List Field) (xs:List (DataW H×List MemPlace)) (off:Nat) (ps:List PT),Po r P.cellsOf fs off=some ps→xs.length=fs.length→
  (∀(i:Nat) (f:Field),fs[i]?=some f→DataW.trod enc P w 0 spare held n f.type ((cs.drop f.offset).take (P.cellsOf f.type))=xs[i]?)→
  cD w ok (ix (xs.map (·.1))) ((cs.drop off).take ps.length)∧dc ps (ix (xs.map (·.1)))
 |[],xs,off,ps,h,hl,_=>by
  simp only [Po,osI] at h;subst h
  obtain rfl:xs=[]:=by simpa using hl
  exact ⟨by simp [cD,ix],by simp [dc,ix]⟩
 |f::fs,[],off,ps,h,hl,hx=>by simp at hl
 |f::fs,x::xs,off,ps,h,hl,hx=>by
  simp only [Po] at h
  split at h
  ·rename_i ho
   split at h
   ·rename_i a b ha hb
    split at h
    ·rename_i hla
     simp only [osI] at h;subst h
     have hx0:=hx 0 f rfl
     obtain ⟨g1,g2⟩:=hr _ _ _ _ (by simpa using hx0) ha
     obtain ⟨k1,k2⟩:=Al hr fs xs _ b hb (by simpa using hl) (fun i f hf=>by simpa using hx (i+1) f (by simpa using hf))
     rw [List.length_append,Ak]
     rw [ho,←hla] at g1
     rw [←hla] at k1
     simp only [List.map_cons,ix]
     exact ⟨g1.append k1,g2.append k2⟩
    cases h
   cases h
  cases h
theorem CU {r:List PT} {cs:List Value}:∀(k off:Nat) (xs:List (DataW H×List MemPlace)),xs.length=k→(∀i x,xs[i]?=some x→cD w ok (fT x.1) ((cs.drop (off+i*r.length)).take r.length)∧dc r (fT x.1))→
 cD w ok (ix (xs.map (·.1))) ((cs.drop off).take (k*r.length))∧dc (List.replicate k r).flatten (ix (xs.map (·.1)))
 |0,off,xs,hl,_=>by
  obtain rfl:xs=[]:=by simpa using hl
  exact ⟨by simp [cD,ix],by simp [dc,ix]⟩
 |k+1,off,[],hl,h=>by simp at hl
 |k+1,off,x::xs,hl,h=>by
  obtain ⟨g1,g2⟩:=h 0 x rfl
  obtain ⟨k1,k2⟩:=CU (r:=r) (cs:=cs) k (off+r.length) xs (by simpa using hl) (fun i x hx=>by
   obtain ⟨k1,k2⟩:=h (i+1) x (by simpa using hx)
   rw [show off+r.length+i*r.length=off+(i+1)*r.length by rw [Nat.succ_mul];omega]
   exact ⟨k1,k2⟩)
  rw [show (k+1)*r.length=r.length+k*r.length by rw [Nat.succ_mul];omega,Ak,List.replicate_succ,List.flatten_cons]
  simp only [List.map_cons,ix]
  exact ⟨cD.append (by simpa using g1) k1,g2.append k2⟩
theorem uX (hok:∀blk,blk<w.heap.size→ok blk):
 ∀(n m:Nat) (t:TypeId) (cs:List Value) (x:DataW H×List MemPlace) (ps:List PT),DataW.trod enc P w 0 spare held m t cs=some x→F7 P n t=some ps→cD w ok (fT x.1) cs∧dc ps (fT x.1)
 |0,_,_,_,_,_,_,h=>by simp [F7] at h
 |n+1,m,t,cs,x,ps,h,hp=>by
  have ih:=uX hok n
  rw [F7] at hp
  cases hu:P.underlying t with
  |none=>simp [hu] at hp
  |some d=>
   simp only [hu] at hp
   cases d<;>(try (cases hp;done))<;>simp only at hp
   case bool=>
    simp only [osI] at hp;subst hp
    obtain ⟨b,rfl,rfl⟩:=DataW.trod_bool hu h
    exact ⟨by simp [cD,aK,fT],by simp [dc,xW,fT]⟩
   case int k=>
    simp only [osI] at hp;subst hp
    obtain ⟨z,rfl,rfl,hw⟩:=DataW.trod_int hu h
    exact ⟨by simp [cD,aK,fT],by simpa [dc,xW,fT] using hw⟩
   case string=>
    simp only [osI] at hp;subst hp
    obtain ⟨s,rfl,rfl,hs⟩:=DataW.trod_string hu h
    refine ⟨by simp [cD,aK,fT],?_⟩
    simp only [dc,xW,fT]
    exact ⟨_,_,rfl,⟨_,rfl,by rw [Array.length_toList];exact hs⟩,rfl⟩
   case slice e=>
    split at hp
    ·rename_i qs hq
     split at hp
     ·rename_i hl
      simp only [osI] at hp;subst hp
      rcases open_slice hu h with ⟨rfl,rfl⟩|⟨a,len,cap,mm,n',Dd,Pl,rfl,hb,hlc,hm,MT,rfl,hx⟩
      ·exact ⟨by simp [cD,aK,fT],by simp [dc,xW,fT]⟩
      have hlen:len≤mm:=by rw [MT];split<;>omega
      have hel:∀i,i<len→∃cs',w.cells? 0 (a.add (i*P.cellsOf e)) (P.cellsOf e)=some cs'∧cD w ok (fT (Dd i)) cs'∧dc qs (fT (Dd i)):=by
       intro i hi
       obtain ⟨cs',hc,htr⟩:=hx i (by omega)
       exact ⟨cs',hc,ih _ _ _ _ _ htr hq⟩
      have hfl:fT (.slice ((List.range len).map Dd) ((List.range (mm-len)).map fun j=>Dd (len+j)))=[.sl ((List.range len).map fun i=>fT (Dd i))]:=by
       simp [fT,uW,List.map_map,Function.comp_def]
      simp only [hfl]
      have Vr:dc [.sl qs] [.sl ((List.range len).map fun i=>fT (Dd i))]:=by
       simp only [dc,xW]
       refine ⟨_,_,rfl,⟨_,rfl,by simp;omega,?_⟩,rfl⟩
       intro r hr
       obtain ⟨i,hi,rfl⟩:=List.mem_map.1 hr
       obtain ⟨cs',_,_,g⟩:=hel i (by simpa using hi)
       exact g
      refine ⟨?_,Vr⟩
      cases len with
      |zero=>simp [cD,aK]
      |succ len=>
       have hsp:a.spot=none:=by
        obtain ⟨cs',hc,htr⟩:=hel 0 (by omega)
        obtain ⟨_,hl',hcell⟩:=World.cells?_some hc
        have h0:=hcell 0 (by omega)
        rw [List.getElem?_eq_getElem (by omega)] at h0
        have:=MS h0
        simpa [Addr.add] using this
       have Z3:a.block<w.heap.size:=by
        obtain ⟨cs',hc,htr⟩:=hel 0 (by omega)
        have:=World.cells?_block hc (by omega)
        simpa [Addr.add] using this
       have g:=CT (w:=w) (ok:=ok) (blk:=a.block) (sz:=P.cellsOf e) (len+1) a.off (fun i=>fT (Dd i)) (fun i hi=>by
        obtain ⟨cs',hc,g1,g2⟩:=hel i hi
        obtain ⟨_,hl',hcell⟩:=World.cells?_some hc
        refine ⟨g1.row (fun j hj=>?_),by rw [g2.length];exact hl.1⟩
        have:=hcell j (by omega)
        rw [add_eq hsp,add_eq rfl] at this
        exact this)
       simp only [cD,aK]
       exact ⟨_,_,rfl,⟨some a,cap,by simp,by simp;omega,.inr ⟨a.block,a.off,P.cellsOf e,by cases a;simp_all,hok _ Z3,g⟩⟩,rfl⟩
     cases hp
    cases hp
   case struct fs=>
    split at hp
    ·rename_i qs hq
     split at hp
     ·rename_i hl
      simp only [osI] at hp;subst hp
      obtain ⟨xs,m',hm,rfl,So,hxl,hxs⟩:=DataW.trod_struct hu h
      have hf:∀(i:Nat) (f:Field),fs.toList[i]?=some f→DataW.trod enc P w 0 spare held m' f.type ((cs.drop f.offset).take (P.cellsOf f.type))=xs[i]?:=by
       intro i f hf
       exact hxs i f (by simpa using hf)
      obtain ⟨g1,g2⟩:=Al (ok:=ok) (fun t cs x ps=>ih m' t cs x ps) fs.toList xs 0 _ hq (by simpa using hxl) hf
      simp only [fT]
      refine ⟨?_,g2⟩
      have e:(cs.drop 0).take qs.length=cs:=by rw [List.drop_zero,hl,←So,List.take_length]
      rwa [e] at g1
     cases hp
    cases hp
   case array k e=>
    split at hp
    ·rename_i qs hq
     split at hp
     ·rename_i hl
      simp only [osI] at hp;subst hp
      obtain ⟨xs,m',hm,rfl,So,hxl,hxs⟩:=DataW.trod_array hu h
      obtain ⟨g1,g2⟩:=CU (w:=w) (ok:=ok) (r:=qs) (cs:=cs) k 0 xs hxl (fun i x hi=>by
       have hi3:i<xs.length:=(List.getElem?_eq_some_iff.1 hi).1
       have:=hxs i (by omega)
       rw [hl.1,Nat.zero_add]
       rw [hi] at this
       exact ih _ _ _ _ _ this hq)
      simp only [fT]
      refine ⟨?_,g2⟩
      have e:(cs.drop 0).take (k*qs.length)=cs:=by rw [List.drop_zero,hl.2,←So,List.take_length]
      rwa [e] at g1
     cases hp
    cases hp
end
end Dem
end
section
open Go
namespace Dem
section
variable {T:Nat→Option TI} {G:Nat→Option (List D)} {bx aR:List az}
def lp (bx aR:List az):Prop:=∀(i:Nat) (b:az),bx[i]?=some b→b.born=true→aR[i]?=some b
theorem lp.refl (bx:List az):lp bx bx:=fun _ _ h _=>h
theorem Pp (h:lp bx aR) {x:AV} {y:D} (hx:x.sJ bx=some y):x.sJ aR=some y:=by
 cases x with
 |ow b sz n=>
  simp only [AV.sJ] at hx ⊢
  split at hx
  ·rename_i s es hb
   rw [h _ _ hb rfl];exact hx
  ·rename_i s es hb
   rw [h _ _ hb rfl];exact hx
  simp at hx
 |fn f cs=>cases cs with
  |nil=>exact hx
  |cons c cs=>exact hx
 |_=>exact hx
theorem LD (h:lp bx aR):∀{xs:List AV} {ys:List D},iS bx xs=some ys→iS aR xs=some ys
 |[],ys,hx=>hx
 |x::xs,ys,hx=>by
  simp only [iS] at hx ⊢
  split at hx
  ·rename_i y ys' hy hys
   rw [Pp h hy,LD h hys];exact hx
  simp at hx
theorem sg (h:lp bx aR) {x:AV} {es:List (List D)} (hx:x.rows bx=some es):x.rows aR=some es:=by
 cases x with
 |d y=>cases y<;>exact hx
 |ow b sz n=>
  simp only [AV.rows] at hx ⊢
  split at hx
  ·rename_i s es hb
   rw [h _ _ hb rfl];exact hx
  ·rename_i s es hb
   rw [h _ _ hb rfl];exact hx
  simp at hx
 |vw b sz off n c ex=>
  simp only [AV.rows] at hx ⊢
  split at hx
  ·rename_i s es hb
   rw [h _ _ hb rfl];exact hx
  ·rename_i s es hb
   rw [h _ _ hb rfl];exact hx
  simp at hx
 |_=>exact hx
theorem UG (h:lp bx aR) {x y:AV} (hx:fz bx x=some y):fz aR x=some y:=by
 cases x with
 |ow b sz n=>
  simp only [fz,Option.map_eq_some_iff] at hx ⊢
  obtain ⟨q,h1,h2⟩:=hx
  exact ⟨q,Pp h h1,h2⟩
 |vw b sz off n c ex=>
  simp only [fz,Option.map_eq_some_iff] at hx ⊢
  obtain ⟨q,h1,h2⟩:=hx
  exact ⟨q,sg h h1,h2⟩
 |_=>exact hx
theorem Pq (h:lp bx aR):∀{xs ys:List AV},IL bx xs=some ys→IL aR xs=some ys
 |[],ys,hx=>hx
 |x::xs,ys,hx=>by
  simp only [IL] at hx ⊢
  split at hx
  ·rename_i y ys' hy hys
   rw [UG h hy,Pq h hys];exact hx
  simp at hx
theorem Ea (h:lp bx aR):∀{xs ys:List AV},eX bx xs=some ys→eX aR xs=some ys
 |[],ys,hx=>hx
 |x::xs,ys,hx=>by
  simp only [eX] at hx ⊢
  split at hx
  ·rename_i y ys' hy hys
   have:qi aR x=some y:=by
    cases x with
    |agg cs=>
     simp only [qi,Option.map_eq_some_iff] at hy ⊢
     obtain ⟨q,h1,h2⟩:=hy
     exact ⟨q,Pq h h1,h2⟩
    |_=>simp only [qi] at hy ⊢;exact UG h hy
   rw [this,Ea h hys];exact hx
  simp at hx
theorem Pr (h:lp bx aR) {ti:TI} {a:AV} {r:R} (hx:pU ti a bx=some r):pU ti a aR=some r:=by
 cases a with
 |ptr b off=>
  simp only [pU] at hx ⊢
  split at hx
  ·rename_i cs hb
   rw [h _ _ hb rfl];exact hx
  simp at hx
 |rp b sz i j=>
  simp only [pU] at hx ⊢
  split at hx
  ·rename_i s es hb
   rw [h _ _ hb rfl];exact hx
  ·rename_i s es hb
   rw [h _ _ hb rfl];exact hx
  simp at hx
 |_=>exact hx
theorem SD (h:lp bx aR) {x v:AV} (hx:zJ x bx=some v):zJ x aR=some v:=by
 cases x with
 |d y=>cases y<;>exact hx
 |ow b sz n=>
  simp only [zJ] at hx ⊢
  split at hx
  ·rename_i es hr
   rw [sg h hr];exact hx
  simp at hx
 |vw b sz off n c ex=>
  simp only [zJ] at hx ⊢
  split at hx
  ·rename_i es hr
   rw [sg h hr];exact hx
  simp at hx
 |_=>exact hx
theorem CV (h:lp bx aR) {size:Nat}:∀{ps:List (Nat×AV)} {rs:List (List D)},rowsOf bx size ps=some rs→rowsOf aR size ps=some rs
 |[],rs,hx=>hx
 |(i,v)::r,rs,hx=>by
  simp only [rowsOf] at hx ⊢
  split at hx
  ·rename_i vs hv
   split at hx
   ·rename_i ds Xv hd hr
    simp only [LD h hd,CV h hr];exact hx
   simp at hx
  simp at hx
theorem MU (h:lp bx aR) {t:Nat} {x:AV} {lo hi mx:Option Int} {c:Prop} {v:AV} (hx:qg T t x lo hi mx bx=some ⟨c,v,none⟩):qg T t x lo hi mx aR=some ⟨c,v,none⟩:=by
 unfold qg at hx ⊢
 split at hx
 ·split at hx
  ·exact hx
  ·split at hx
   ·rename_i es te hr hte
    simp only [sg h hr,hte]
    simp only [osI,R.mk.injEq] at hx ⊢
    refine ⟨hx.1,hx.2.1,?_⟩
    have h3:=hx.2.2
    generalize cH _=q at h3 ⊢
    cases q<;>simp at h3 ⊢
   simp at hx
  ·split at hx
   ·have hr:=‹AV.rows bx _=some _›
    have hte:=‹T _=some _›
    simp only [sg h hr,hte]
    simp only [osI,R.mk.injEq] at hx ⊢
    refine ⟨hx.1,hx.2.1,?_⟩
    have h3:=hx.2.2
    generalize cH _=q at h3 ⊢
    cases q<;>simp at h3 ⊢
   simp at hx
  ·exact hx
  ·split at hx
   ·split at hx
    ·simp at hx
    simp at hx
   simp at hx
  simp at hx
 simp at hx
theorem Am (h:lp bx aR) {t n:Nat} {ps:List (Nat×AV)} {c:Prop} {v:AV} (hx:fR T t n ps bx=some ⟨c,v,none⟩):fR T t n ps aR=some ⟨c,v,none⟩:=by
 unfold fR at hx ⊢
 split at hx
 ·split at hx
  ·split at hx
   ·rename_i te hte
    generalize (Nat.beq ps.length n&&mK 0 ps&&Nat.ble (n*te.size) 16777216&&te.zero.cells?.isSome)=q at hx ⊢
    cases q with
    |false=>simp at hx
    |true=>
     simp only [cond_true] at hx ⊢
     split at hx
     ·rename_i rs hr
      simp only [CV h hr]
      simp only [osI,R.mk.injEq] at hx ⊢
      refine ⟨hx.1,hx.2.1,?_⟩
      have h3:=hx.2.2
      generalize Fj _=q at h3 ⊢
      cases q<;>simp at h3 ⊢
     simp at hx
   simp at hx
  simp at hx
 simp at hx
theorem Ps (h:lp bx aR) {s d:Nat} {x:AV} {r:R} (hx:xH T s d x bx=some r):xH T s d x aR=some r:=by
 unfold xH at hx ⊢
 split at hx
 ·split at hx
  ·exact hx
  ·split at hx
   ·rename_i te es hte hr
    simp only [sg h hr,hte];exact hx
   simp at hx
  ·exact hx
  simp at hx
 simp at hx
theorem uY {t:Nat} {s x:AV} {r:R} (hx:kZ T t s x bx=some r):r.bx≠none:=by
 unfold kZ at hx
 split at hx
 ·split at hx
  ·split at hx
   ·rename_i te hte
    cases hz:eN te with
    |false=>simp [hz] at hx
    |true=>
    simp only [hz,cond_true] at hx
    split at hx
    ·split at hx
     ·simp only [osI] at hx;subst hx;simp
     ·split at hx
      ·simp at hx
      simp only [osI] at hx;subst hx;simp
     ·split at hx
      ·rename_i b _ _ _ _ _ _
       generalize sameBox _ x=q at hx
       cases q with
       |true=>simp at hx
       |false=>simp only [cond_false,osI] at hx;subst hx;simp
      simp at hx
     simp at hx
    simp at hx
   simp at hx
  simp at hx
 simp at hx
theorem F8 {ti:TI} {a v:AV} {r:R} (hx:tw ti a v bx=some r):r.bx≠none:=by
 unfold tw at hx
 split at hx
 ·simp at hx
 generalize Nat.beq _ _=q at hx
 cases q with
 |false=>simp at hx
 |true=>
 simp only [cond_true] at hx
 split at hx
 ·split at hx
  ·generalize Nat.ble _ _=q at hx
   cases q with
   |false=>simp at hx
   |true=>simp only [cond_true,osI] at hx;subst hx;simp
  simp at hx
 ·split at hx
  ·split at hx
   ·simp only [osI] at hx;subst hx;simp
   simp at hx
  simp at hx
 simp at hx
theorem F9 (h:lp bx aR) {b:Builtin} {args:List AV} {ats:List Nat} {c:Prop} {v:AV} (hx:iW T b args ats bx=some ⟨c,v,none⟩):iW T b args ats aR=some ⟨c,v,none⟩:=by
 unfold iW at hx ⊢
 split at hx
 ·split at hx
  ·split at hx
   ·exact hx
   ·exact hx
   ·split at hx
    ·rename_i v' hl
     simp only [SD h hl];exact hx
    simp at hx
   simp at hx
  simp at hx
 ·exact hx
 ·exact hx
 ·split at hx
  ·split at hx
   ·simp at hx
   exact absurd rfl (uY hx)
  simp at hx
 simp at hx
theorem Ji {te:TI} {n m:Int} {bx:List az} {c:Prop} {v:AV} {b:Option (List az)} (h:Fk te n m bx=some ⟨c,v,b⟩):b≠none:=by
 unfold Fk at h
 split at h
 ·cases hz:eN te with
  |false=>simp [hz] at h
  |true=>simp only [hz,cond_true,osI,R.mk.injEq] at h;obtain ⟨_,_,rfl⟩:=h;simp
 simp at h
theorem Pt (h:lp bx aR) {ev:Operand→AV} {op:Op} {c:Prop} {v:AV} (hx:mM T ev op bx=some ⟨c,v,none⟩):mM T ev op aR=some ⟨c,v,none⟩:=by
 unfold mM at hx ⊢
 split at hx
 ·exact hx
 ·exact hx
 ·split at hx
  ·exact absurd rfl (Ji hx)
  simp at hx
 ·split at hx
  ·exact hx
  ·exact hx
  ·split at hx
   ·simp only [CB] at hx
    split at hx
    ·split at hx
     ·generalize (Nat.beq _ _&&Nat.beq _ _)=q at hx
      cases q<;>simp at hx
     simp at hx
    simp at hx
   simp at hx
  ·split at hx
   ·simp only [DR] at hx
    split at hx
    ·split at hx
     ·rename_i te _ _ _ _ _ _ _ _ _ _ _ _ _ _ _
      cases hq:(Nat.beq _ _&&Nat.beq _ _&&eN _:Bool)<;>rw [hq] at hx<;>simp at hx
     simp at hx
    simp at hx
   simp at hx
  ·split at hx
   ·split at hx
    ·simp only [Lg] at hx
     split at hx
     ·generalize (Nat.beq _ _&&Nat.beq _ _&&eN _&&_)=q at hx
      cases q<;>simp at hx
     simp at hx
    simp at hx
   ·generalize sameBox _ _=q at hx
    cases q with
    |true=>
     simp only [cond_true,rR] at hx
     split at hx
     ·generalize (Nat.beq _ _&&Nat.beq _ _)=q at hx
      cases q<;>simp at hx
     simp at hx
    |false=>
     simp only [cond_false] at hx
     split at hx
     ·rename_i hap
      simp only [osI,R.mk.injEq] at hx
      obtain ⟨_,_,rfl⟩:=hx
      exact absurd rfl (uY hap)
     simp at hx
   simp at hx
  simp at hx
 simp at hx
theorem SE (h:lp bx aR) {ev:Operand→AV} {op:Op} {c:Prop} {v:AV} (hx:k9 T ev op bx=some ⟨c,v,none⟩):k9 T ev op aR=some ⟨c,v,none⟩:=by
 unfold k9 at hx ⊢
 split at hx
 ·exact hx
 ·exact hx
 ·split at hx
  ·split at hx<;>simp at hx
  simp at hx
 ·split at hx<;>simp at hx
 ·split at hx
  ·exact Pr h hx
  simp at hx
 ·split at hx
  ·exact absurd rfl (F8 hx)
  simp at hx
 ·exact hx
 ·exact Am h hx
 ·exact hx
 ·exact hx
 ·exact hx
 ·exact hx
 ·exact hx
 ·exact hx
 ·exact hx
 ·exact Ps h hx
 ·split at hx
  ·exact MU h hx
  simp at hx
 ·exact hx
 ·exact hx
 ·exact hx
 ·exact hx
 ·exact F9 h hx
 exact hx
theorem Vs (h:lp bx aR) {ev:Operand→AV} {op:Op} {c:Prop} {v:AV} (hx:Ff T ev op bx=some ⟨c,v,none⟩):Ff T ev op aR=some ⟨c,v,none⟩:=by
 unfold Ff at hx ⊢
 cases hv:iX ev op with
 |true=>rw [hv,cond_true] at hx;rw [cond_true];exact Pt h hx
 |false=>rw [hv,cond_false] at hx;rw [cond_false];exact SE h hx
theorem lJ {ev sj:Operand→AV} {x:Option Operand} (h:∀y,x=some y→ev y=sj y):Cb ev x=Cb sj x:=by
 cases x with
 |none=>rfl
 |some y=>simp only [Cb,h y rfl]
theorem Jj {ev sj:Operand→AV} {op:Op} (h:∀x∈op.operands.toList,ev x=sj x):k9 T ev op bx=k9 T sj op bx:=by
 have pairs:∀ps:Array (Nat×Operand),(∀x∈(ps.toList.map (·.2)).toArray.toList,ev x=sj x)→(ps.toList.map fun p=>(p.1,ev p.2))=(ps.toList.map fun p=>(p.1,sj p.2)):=by
  intro ps hp
  refine List.map_congr_left fun p hm=>?_
  rw [hp p.2 (by simp only [List.mem_map];exact ⟨p,hm,rfl⟩)]
 cases op<;>simp only [Op.operands] at h
 case build t ps=>simp only [k9,pairs ps h]
 case buildSlice t n ps=>simp only [k9,pairs ps h]
 case makeFunc fn first captured=>
  cases fn<;>simp only [k9]
  rw [List.map_congr_left (l:=captured.toList) (f:=ev) (g:=sj) fun x hx=>h x (by simp;exact .inr (by simpa using hx)),List.map_congr_left (l:=first.toList) (f:=ev) (g:=sj) fun x hx=>h x (by simp;exact .inl (by simpa using hx))]
 case slice t x lo hi mx=>
  simp only [k9,h x (by simp),lJ (x:=lo) (fun y hy=>h y (by simp [hy])),lJ (x:=hi) (fun y hy=>h y (by simp [hy])),lJ (x:=mx) (fun y hy=>h y (by simp [hy]))]
 case call c=>
  obtain ⟨callee,args,ats⟩:=c
  cases callee<;>simp only [k9]
  rw [List.map_congr_left (f:=ev) (g:=sj) fun x hx=>h x (by simp [Call.operands];exact by simpa using hx)]
 all_goals (first|rfl|(simp only [k9];simp_all;done)|(simp_all [k9];done))
theorem xX {ev sj:Operand→AV} {op:Op} (h:∀x∈op.operands.toList,ev x=sj x):iX ev op=iX sj op∧mM T ev op bx=mM T sj op bx:=by
 cases op<;>simp only [Op.operands] at h
 case slice t x lo hi mx=>
  simp only [iX,mM,h x (by simp),lJ (x:=lo) (fun y hy=>h y (by simp [hy])),lJ (x:=hi) (fun y hy=>h y (by simp [hy])),lJ (x:=mx) (fun y hy=>h y (by simp [hy])),and_self]
 case indexAddr t x i=>simp only [iX,mM,h x (by simp),h i (by simp),and_self]
 case makeSlice t x i=>simp only [iX,mM,h x (by simp),h i (by simp),and_self]
 case call c=>
  obtain ⟨callee,args,ats⟩:=c
  cases callee
  case builtin b=>
   have hm:args.toList.map ev=args.toList.map sj:=List.map_congr_left (f:=ev) (g:=sj) fun x hx=>h x (by simp [Call.operands];exact by simpa using hx)
   have hs:∀x∈args.toList,ev x=sj x:=fun x hx=>h x (by simp [Call.operands];exact by simpa using hx)
   refine ⟨?_,by simp only [mM,hm]⟩
   simp only [iX]
   generalize args.toList=l at hs
   split<;>first|rfl|(rw [hs _ (by simp)])
  all_goals exact ⟨rfl,rfl⟩
 all_goals exact ⟨rfl,rfl⟩
theorem MV {ev sj:Operand→AV} {op:Op} (h:∀x∈op.operands.toList,ev x=sj x):Ff T ev op bx=Ff T sj op bx:=by
 unfold Ff
 rw [(xX (T:=T) (bx:=bx) h).1,(xX (T:=T) (bx:=bx) h).2,Jj h]
end
end Dem
end
section
open Go
namespace Dem
section
variable {P:Program} {T:Nat→Option TI} {G:Nat→Option (List D)} {N:Nat} {ds:List Deferred} {β:Nat→Nat} {bx aR:List az} {w:World} {X:Nat→Prop} {s:St} {a:Act}
def Pu (ev:Operand→AV) (xs:List Operand):Prop:=∀x∈xs,(ev x).ok
theorem mO.le {FC:Nat→List AV→List az→iR→List az→Prop} {f:Nat} {args:List AV} {v:AV} (h:mO FC f args bx v) (hb:lp bx aR):mO FC f args aR v:=by
 obtain ⟨args',jP,k1,k2,k3,k4,k5⟩:=h
 refine ⟨args',jP,Ea hb k1,k2,k3,?_,k5⟩
 intro i b hi dF
 obtain ⟨b',h1,h2,h3⟩:=k4 i b hi dF
 exact ⟨b',hb i b' h1 h2,h2,h3⟩
theorem Jk {ev sj:Operand→AV} {op:Op} (h:∀x∈op.operands.toList,ev x=sj x):Cg T ev op=Cg T sj op:=by
 unfold Cg
 split
 ·rename_i b args ats
  split
  ·rename_i x y t u ha Vl
   have mx:x∈args.toList:=by rw [ha];simp
   have my:y∈args.toList:=by rw [ha];simp
   rw [h x (by simp [Op.operands,Call.operands];exact by simpa using mx),h y (by simp [Op.operands,Call.operands];exact by simpa using my)]
  rfl
 rfl
inductive YG (FC:Nat→List AV→List az→iR→List az→Prop) (T:Nat→Option TI) (g:Bool) (ev:Operand→AV) (bx:List az):Op→AV→Prop
 |pick (c a b:Operand) (p:Bool) (hc:(ev c).aS=.d (.bool p)) (hg:g=true→(ev c).ok∧(p=true→(ev a).ok)∧(p=false→(ev b).ok)):YG FC T g ev bx (.pick c a b) (zI p (ev a).aS (ev b).aS)
 |call (f:Operand) (args:Array Operand) (ats:Array TypeId) (i:Nat) (as:List AV) (v:AV) (hf:lM (ev f).aS (args.toList.map fun x=>(ev x).aS)=some (i,as))
  (hg:g=true→((ev f).ok∧Pu ev args.toList)∧mO FC i as bx v):
  YG FC T g ev bx (.call {callee:=.value f,args:=args,argTypes:=ats}) v
 |inv (f:Operand) (nm:String) (args:Array Operand) (ats:Array TypeId) (i:Nat) (as:List AV) (v:AV) (hf:CC T (ev f).aS nm (args.toList.map fun x=>(ev x).aS)=some (i,as))
  (hg:g=true→((ev f).ok∧Pu ev args.toList)∧mO FC i as bx v):
  YG FC T g ev bx (.call {callee:=.invoke f nm,args:=args,argTypes:=ats}) v
 |idx (t:Nat) (x i:Operand) (c:Prop) (ds ds':List D) (hi:zL T t (ev x).aS (ev i).aS=some (c,ds)) (hg:g=true→(Pu ev [x,i]∧c)∧ds=ds'):YG FC T g ev bx (.indexAddr t x i) (.ep ds')
 |no (op:Op) (v:AV) (hg:g=false):YG FC T g ev bx op v
 |app (op:Op) (c:Prop) (es:List (List D)) (hr:Cg T (fun x=>(ev x).aS) op=some (c,es)) (hg:g=true→Pu ev op.operands.toList∧c):YG FC T g ev bx op (.d (.sl es))
 |op (op:Op) (c:Prop) (v:AV) (hr:Ff T (fun x=>(ev x).aS) op bx=some ⟨c,v,none⟩) (hg:g=true→Pu ev op.operands.toList∧c):YG FC T g ev bx op v
variable {FC:Nat→List AV→List az→iR→List az→Prop}
theorem uZ {g:Bool} {o:Oper} {K:AV→Prop} (h:stepG FC T G g o s K):∃v,YG FC T g (cm G s.sl) s.bx o.op v∧K v:=by
 rcases h with ⟨hg,v,hK⟩|h|⟨c,es,hr,hg,hK⟩
 ·exact ⟨v,.no _ v hg,hK⟩
 rotate_left
 ·exact ⟨_,.app _ c es hr (fun h=>⟨fun x hx=>dz (hg h).1 x hx,(hg h).2⟩),hK⟩
 unfold vZ at h
 split at h
 ·rename_i c x y ho
  split at h
  ·rename_i p hc
   rw [ho]
   exact ⟨_,.pick c x y p hc h.1,h.2⟩
  exact h.elim
 ·rename_i f args ats ho
  split at h
  ·rename_i i as FY
   obtain ⟨v,hg,hK⟩:=h
   rw [ho]
   exact ⟨v,.call f args ats i as v FY (fun hg'=>⟨⟨(hg hg').1.1,fun x hx=>dz (hg hg').1.2 x hx⟩,(hg hg').2⟩),hK⟩
  exact h.elim
 ·rename_i f nm args ats ho
  split at h
  ·rename_i i as FY
   obtain ⟨v,hg,hK⟩:=h
   rw [ho]
   exact ⟨v,.inv f nm args ats i as v FY (fun hg'=>⟨⟨(hg hg').1.1,fun x hx=>dz (hg hg').1.2 x hx⟩,(hg hg').2⟩),hK⟩
  exact h.elim
 split at h
 ·rename_i c ds hi
  obtain ⟨ds',hg,hK⟩:=h
  split at hi
  ·rename_i t x i ho
   rw [ho] at hg ⊢
   exact ⟨_,.idx t x i c ds ds' hi (fun hg'=>⟨⟨fun y hy=>dz (hg hg').1.1 y (by simpa [Op.operands] using hy),(hg hg').1.2⟩,(hg hg').2⟩),hK⟩
  simp at hi
 split at h
 ·rename_i c v hr
  exact ⟨v,.op _ c v hr (fun hg=>⟨fun x hx=>dz (h.1 hg).1 x hx,(h.1 hg).2⟩),h.2⟩
 exact h.elim
theorem YG.Ck {g:Bool} {ev sj:Operand→AV} {op:Op} {v:AV} (h:YG FC T g ev bx op v) (iE:∀x∈op.operands.toList,ev x=sj x) (hb:lp bx aR):YG FC T g sj aR op v:=by
 cases h with
 |pick c x y p hc hg=>
  have e1:=iE c (by simp [Op.operands]);have e2:=iE x (by simp [Op.operands]);have e3:=iE y (by simp [Op.operands])
  rw [e1] at hc hg;rw [e2] at hg ⊢;rw [e3] at hg ⊢
  exact .pick c x y p hc hg
 |call f args ats i as v hf hg=>
  have e1:=iE f (by simp [Op.operands,Call.operands])
  have e2:∀x∈args.toList,ev x=sj x:=fun x hx=>iE x (by simp [Op.operands,Call.operands];exact .inr (by simpa using hx))
  rw [e1,List.map_congr_left (g:=fun x=>(sj x).aS) fun x hx=>by rw [e2 x hx]] at hf
  refine .call f args ats i as v hf (fun hg'=>?_)
  obtain ⟨⟨k1,k2⟩,k3⟩:=hg hg'
  exact ⟨⟨e1▸k1,fun x hx=>e2 x hx▸k2 x hx⟩,k3.le hb⟩
 |inv f nm args ats i as v hf hg=>
  have e1:=iE f (by simp [Op.operands,Call.operands])
  have e2:∀x∈args.toList,ev x=sj x:=fun x hx=>iE x (by simp [Op.operands,Call.operands];exact .inr (by simpa using hx))
  rw [e1,List.map_congr_left (g:=fun x=>(sj x).aS) fun x hx=>by rw [e2 x hx]] at hf
  refine .inv f nm args ats i as v hf (fun hg'=>?_)
  obtain ⟨⟨k1,k2⟩,k3⟩:=hg hg'
  exact ⟨⟨e1▸k1,fun x hx=>e2 x hx▸k2 x hx⟩,k3.le hb⟩
 |idx t x i c ds ds' hi hg=>
  have e1:=iE x (by simp [Op.operands]);have e2:=iE i (by simp [Op.operands])
  rw [e1,e2] at hi
  refine .idx t x i c ds ds' hi (fun hg'=>⟨⟨fun y hy=>?_,(hg hg').1.2⟩,(hg hg').2⟩)
  have:=(hg hg').1.1 y hy
  rw [iE y (by simpa [Op.operands] using hy)] at this
  exact this
 |no _ v hg=>exact .no _ v hg
 |app _ c es hr hg=>
  refine .app _ c es ?_ (fun hg'=>⟨fun x hx=>iE x hx▸(hg hg').1 x hx,(hg hg').2⟩)
  rw [←Jk (ev:=fun x=>(ev x).aS) (sj:=fun x=>(sj x).aS) (fun x hx=>by rw [iE x hx])]
  exact hr
 |op _ c v hr hg=>
  refine .op _ c v ?_ (fun hg'=>⟨fun x hx=>iE x hx▸(hg hg').1 x hx,(hg hg').2⟩)
  rw [←MV (ev:=fun x=>(ev x).aS) (sj:=fun x=>(sj x).aS) (fun x hx=>by rw [iE x hx])]
  exact Vs hb hr
theorem Ga (hT:kw P T) (hF:Fr G N ds β w X s a) {o:Oper} {v:AV} {next:Act→World→Prop} {Qc:Exit→Act→World→Prop}
 (h:YG (bC P G) T true (cm G s.sl) s.bx o.op v) (hn:Af G β s.bx w X a o.dst (fun v' bx=>v'=v∧bx=s.bx) next):o.wp P a w next Qc:=by
 have iE:∀x,(cm G s.sl x).ok→aj β s.bx w (bt β s.bx w X) (cm G s.sl x).aS (a.eval x):=fun x hx=>j9 (hF.eval x) hx
 unfold Oper.wp
 generalize ho:o.op=op at h
 cases h with
 |pick c x y p hc hg=>
  obtain ⟨h1,h2,h3⟩:=hg rfl
  have vW:=iE c h1
  rw [hc] at vW;simp only [aj,aK] at vW
  refine cQ (v:=_) (aR:=s.bx) (dB.pure (u:=if p then a.eval x else a.eval y) hF.cx ?_ (Ah (fun hp=>iE x (h2 hp)) (fun hp=>iE y (h3 hp)))) ⟨rfl,rfl⟩ hn
  simp [execOp,ho,vW,asBool]
 |call f args ats i as v FY hg=>
  obtain ⟨⟨h1,h2⟩,hq⟩:=hg rfl
  obtain ⟨fs,cs,e1,e2⟩:=l6 FY (iE f h1) (iw args.toList (fun y hy=>iE y (h2 y hy)))
  rw [kH ho e1]
  refine gD (lg (K:=fun v' bx=>v'=v∧bx=s.bx) hF.cx e2 hq ⟨rfl,rfl⟩) ?_ ?_ ?_
  ·rintro v w' ⟨β',aR,v',u,e,ex,cx,hv,hK⟩
   cases e
   exact hn β' aR w' v' v ex cx hv hK
  ·rintro ch w' ⟨_,_,_,_,e,_⟩;cases e
  rintro w' ⟨_,_,_,_,e,_⟩;cases e
 |inv f nm args ats i as v FY hg=>
  obtain ⟨⟨h1,h2⟩,hq⟩:=hg rfl
  obtain ⟨t,ti,u,k1,k2,k3,e2⟩:=CP hT FY (iE f h1) (iw args.toList (fun y hy=>iE y (h2 y hy)))
  rw [xU hT ho k1 k2 k3]
  refine gD (lg (K:=fun v' bx=>v'=v∧bx=s.bx) hF.cx e2 hq ⟨rfl,rfl⟩) ?_ ?_ ?_
  ·rintro v w' ⟨β',aR,v',u,e,ex,cx,hv,hK⟩
   cases e
   exact hn β' aR w' v' v ex cx hv hK
  ·rintro ch w' ⟨_,_,_,_,e,_⟩;cases e
  rintro w' ⟨_,_,_,_,e,_⟩;cases e
 |idx t x i c ds ds' hi hg=>
  obtain ⟨⟨hk,hc⟩,rfl⟩:=hg rfl
  obtain ⟨r,k1,k2⟩:=Ag (P:=P) (w:=w) hT hF.cx hi hc (iE x (hk x (by simp))) (iE i (hk i (by simp)))
  refine cQ (v:=_) (aR:=s.bx) (dB.pure hF.cx ?_ k2) ⟨rfl,rfl⟩ hn
  simp only [execOp,ho]
  exact bN _ k1
 |no _ v hg=>cases hg
 |app _ c es hr hg=>
  obtain ⟨h1,hc⟩:=hg rfl
  subst ho
  exact cQ (CO (P:=P) hT hF.cx (ρ:=a.eval) (fun x hx=>iE x (h1 x hx)) hr hc) ⟨rfl,rfl⟩ hn
 |op _ c v hr hg=>
  obtain ⟨h1,hc⟩:=hg rfl
  subst ho
  exact cQ (Ab (P:=P) hT hF.cx (ρ:=a.eval) (fun x hx=>iE x (h1 x hx)) hr hc) ⟨rfl,rfl⟩ hn
theorem Gb {k:Nat} (h:bx[k]?=some .bB) (B:az) {i:Nat} (hi:cg bx i):i≠k∧cg (bx.set k B) i:=by
 obtain ⟨b,h1,h2⟩:=hi
 have hne:i≠k:=by rintro rfl;rw [h] at h1;simp at h1;subst h1;simp [az.born] at h2
 exact ⟨hne,b,by rw [List.getElem?_set_ne (Ne.symm hne)];exact h1,h2⟩
theorem qG {k:Nat} (h:bx[k]?=some .bB) (o:Obj) (B:az):Ext β bx w (kX β k w.heap.size) (bx.set k B) {w with heap:=w.heap.push o}:=by
 refine ⟨rfl,rfl,rfl,by simp,fun j hj _=>jg w o j hj,fun j c e f hj=>⟨c,by rw [jg w o j (eT hj)];exact hj,rfl⟩,?_,?_⟩
 ·intro i hi
  obtain ⟨h1,h2⟩:=Gb h B hi
  exact ⟨c8 _ _ h1,h2⟩
 intro i b hb hl
 rcases aL hb with ⟨rfl,_,_⟩|⟨hne,hb'⟩
 ·exact .inl (by rw [bz];exact Nat.le_refl _)
 exact .inr ⟨i,b,hb',hl,(c8 _ _ hne).symm⟩
theorem Gc (cx:cI G β bx w X) {k:Nat} (h:bx[k]?=some .bB) (o:Obj) (B:az)
 (hB:dj (kX β k w.heap.size) (bx.set k B) {w with heap:=w.heap.push o} (bt (kX β k w.heap.size) (bx.set k B) {w with heap:=w.heap.push o} X) B w.heap.size):
 cI G (kX β k w.heap.size) (bx.set k B) {w with heap:=w.heap.push o} X:=by
 refine cx.step (qG h o B) ?_ ?_
 ·intro i b hb
  rcases aL hb with ⟨rfl,rfl,_⟩|⟨hne,hb'⟩
  ·exact .inr (by rw [bz];exact hB)
  exact .inl ⟨hb',fun hl=>jg w o _ ((cx.box i b hb').eU hl)⟩
 intro i j bi bj h1 h2 l1 l2 he
 rcases aL h1 with ⟨rfl,rfl,_⟩|⟨hi,h3⟩<;>rcases aL h2 with ⟨rfl,rfl,_⟩|⟨hj,h4⟩
 ·rfl
 ·rw [bz,c8 _ _ hj] at he
  have:=(cx.box j bj h4).eU l2;omega
 ·rw [bz,c8 _ _ hi] at he
  have:=(cx.box i bi h3).eU l1;omega
 rw [c8 _ _ hi,c8 _ _ hj] at he
 exact cx.inj i j bi bj h3 h4 l1 l2 he
theorem xY (cx:cI G β bx w X) {k:Nat} (hk:bx[k]?=some .bB) (t:Nat) {x:AV} {u:Value} {cs:List AV} (hx:x.cells?=some cs) (h:aj β bx w (bt β bx w X) x u):
 ∃β' w',(newVar t u).run P w=.ok ⟨β' k,0,none⟩ w'∧Ext β bx w β' (bx.set k (.var cs)) w'∧cI G β' (bx.set k (.var cs)) w' X:=by
 obtain ⟨vs,h1,h2,h3⟩:=nI hx h
 refine ⟨kX β k w.heap.size,{w with heap:=w.heap.push (.cells ⟨vs⟩ t)},?_,qG hk _ _,Gc cx hk _ _ ?_⟩
 ·simp [newVar,newRow,newObj,Sem.run,h1,bz]
 refine ⟨⟨vs⟩,t,jh _ _,?_⟩
 exact ak.mono ((qG (β:=β) (bx:=bx) (w:=w) hk (.cells ⟨vs⟩ t) (.var cs)).eY X) _ _ h2
theorem Eb {sl sM:List (Nat×AV)} {o:Oper} (h:∀x∈o.op.operands.toList,cm G sl x=cm G sM x):iv T G sl o=iv T G sM o:=by
 obtain ⟨dst,op,type,pos,after,guard⟩:=o
 unfold iv
 cases guard with
 |some g=>rfl
 |none=>
  cases op<;>simp only []
  rename_i t x
  rw [h x (by simp [Op.operands])]
theorem Gd (hT:kw P T) (hF:Fr G N ds β w X s a) {o:Oper} {cs:List AV} (hb:iv T G s.sl o=some cs) {k:Nat} (hk:s.bx[k]?=some .bB) {next:Act→World→Prop} {Qc:Exit→Act→World→Prop}
 (hn:Af G β s.bx w X a o.dst (fun v bx=>v=.ptr k 0∧bx=s.bx.set k (.var cs)) next):o.wp P a w next Qc:=by
 obtain ⟨dst,op,type,pos,after,guard⟩:=o
 have hlt:k<s.bx.length:=jv hk
 have dF:cg (s.bx.set k (.var cs)) k:=⟨.var cs,jw hk,rfl⟩
 unfold iv at hb
 unfold Oper.wp
 cases guard with
 |some g=>simp at hb
 |none=>
  simp only at hb
  split at hb
  ·rename_i t
   cases ht:T t with
   |none=>simp [ht] at hb
   |some ti=>
   simp only [ht] at hb
   obtain ⟨i,d,h1,h2,h3,h4,h5,h6⟩:=aJ (hT.ti _ _ ht)
   cases zh:i.zero with
   |none=>rw [h6,zh] at hb;simp [AV.cells?] at hb
   |some z=>
   rw [h6,zh] at hb
   obtain ⟨β',w',k1,k2,k3⟩:=xY (P:=P) hF.cx hk t hb (uK z)
   have hr:(execOp a.eval {dst:=dst,op:=.alloc t,type:=type,pos:=pos,after:=after,guard:=none}).run P w=.ok (.value (.pointer (some ⟨β' k,0,none⟩))) w':=
    bN _ (by simp [Instr.alloc,gC h1 zh,k1])
   rw [hr]
   exact hn β' _ w' (.ptr k 0) _ k2 k3 (by simp only [aj];exact ⟨trv,dF⟩) ⟨rfl,rfl⟩
  ·rename_i t x
   obtain ⟨β',w',k1,k2,k3⟩:=xY (P:=P) hF.cx hk t hb (hF.eval x)
   have hr:(execOp a.eval {dst:=dst,op:=.box t x,type:=type,pos:=pos,after:=after,guard:=none}).run P w=.ok (.value (.pointer (some ⟨β' k,0,none⟩))) w':=
    bN _ (by simp [Instr.box,k1])
   rw [hr]
   exact hn β' _ w' (.ptr k 0) _ k2 k3 (by simp only [aj];exact ⟨trv,dF⟩) ⟨rfl,rfl⟩
  simp at hb
theorem Jl {β':Nat→Nat} {w':World} {sz n k:Nat} {es:List (List D)} {qn:List az} {u:Value} (cx:cI G β bx w X) (hk:bx[k]?=some .bB) (ex:Ext β [] w β' [.row sz es] w') (mG:cI G β' [.row sz es] w' (qA β qn X))
 (hv:(∀r∈es,∀x∈r,x.flat=true)∨qn=bx) (hr:aj β' [.row sz es] w' (bt β' [.row sz es] w' (qA β qn X)) (.ow 0 sz n) u):
 Ext β bx w (kX β k (β' 0)) (bx.set k (.row sz es)) w'∧cI G (kX β k (β' 0)) (bx.set k (.row sz es)) w' X∧
  aj (kX β k (β' 0)) (bx.set k (.row sz es)) w' (bt (kX β k (β' 0)) (bx.set k (.row sz es)) w' X) (.ow k sz n) u:=by
 have e0:=uT (bx:=bx) ex
 have hlk:k<bx.length:=jv hk
 have hnew:az.live (.row sz es)=true→w.heap.size≤β' 0:=by
  intro hl
  rcases ex.live 0 (.row sz es) rfl hl with h|⟨j,b',h1,_⟩
  ·exact h
  simp at h1
 have e1:Ext β bx w (kX β k (β' 0)) (bx.set k (.row sz es)) w':=by
  refine ⟨e0.os,e0.tape,e0.output,e0.size,e0.block,e0.shape,?_,?_⟩
  ·intro i hi
   obtain ⟨h1,h2⟩:=Gb hk (.row sz es) hi
   exact ⟨c8 _ _ h1,h2⟩
  intro i b h hl
  rcases aL h with ⟨rfl,rfl,_⟩|⟨hne,h1⟩
  ·exact .inl (by rw [bz];exact hnew hl)
  exact .inr ⟨i,b,h1,hl,(c8 _ _ hne).symm⟩
 have hlt:∀i b,bx[i]?=some b→b.live=true→β i<w.heap.size:=fun i b h hl=>dj.eU (cx.box i b h) hl
 have hok:qn=bx→∀blk,bt β' [.row sz es] w' (qA β qn X) blk→bt (kX β k (β' 0)) (bx.set k (.row sz es)) w' X blk:=by
  rintro rfl blk ⟨k1,k2,k3⟩
  refine ⟨k1,fun hX=>k2 (.inl hX),?_⟩
  intro i b h hl
  rcases aL h with ⟨rfl,rfl,_⟩|⟨hne,h1⟩
  ·rw [bz];exact k3 0 _ rfl hl
  rw [c8 _ _ hne];exact fun he=>k2 (.inr ⟨i,b,h1,hl,he⟩)
 refine ⟨e1,cx.step e1 ?_ ?_,?_⟩
 ·intro i b h
  rcases aL h with ⟨rfl,rfl,_⟩|⟨hne,h1⟩
  ·refine .inr ?_
   have:=mG.box 0 _ rfl
   rw [bz]
   simp only [dj] at this ⊢
   refine this.imp id ?_
   rintro ⟨c,e,h1,h2⟩
   refine ⟨c,e,h1,?_⟩
   rcases hv with hfl|hb
   ·exact oL _ _ hfl h2
   exact ax.mono (fun blk hb'=>⟨hok hb blk hb',rfl⟩) _ _ (fun _=>rfl) _ _ h2
  exact .inl ⟨h1,fun hl=>ex.block _ (hlt i b h1 hl) (by simp)⟩
 ·intro i j bi bj hi hj mH oM he
  rcases aL hi with ⟨rfl,rfl,_⟩|⟨hni,h1⟩<;>rcases aL hj with ⟨rfl,rfl,_⟩|⟨hnj,h2⟩
  ·rfl
  ·rw [bz,c8 _ _ hnj] at he
   have:=hlt j bj h2 oM;have:=hnew mH;omega
  ·rw [bz,c8 _ _ hni] at he
   have:=hlt i bi h1 mH;have:=hnew oM;omega
  rw [c8 _ _ hni,c8 _ _ hnj] at he
  exact cx.inj i j bi bj h1 h2 mH oM he
 simp only [aj] at hr ⊢
 obtain ⟨_,h2⟩:=hr
 refine ⟨⟨_,jw hk,rfl⟩,?_⟩
 rw [bz];exact h2
theorem An (hT:kw P T) (hF:Fr G N ds β w X s a) {o:Oper} {k:Nat} {v0:AV} {B0:az} (h:lP (bC P G) G o s.sl s.bx k (fun v B=>v=v0∧B=B0)) {next:Act→World→Prop} {Qc:Exit→Act→World→Prop}
 (hn:Af G β s.bx w X a o.dst (fun v bx=>v=v0∧bx=s.bx.set k B0) next):o.wp P a w next Qc:=by
 obtain ⟨f,args,ats,i,as,args',sz,n,es,ho,FY,⟨h1,h2⟩,h3,h4,h5,h6,hk,rfl,rfl⟩:=h
 have iE:∀x,(cm G s.sl x).ok→aj β s.bx w (bt β s.bx w X) (cm G s.sl x).aS (a.eval x):=fun x hx=>j9 (hF.eval x) hx
 obtain ⟨fs,cs,e1,e2⟩:=l6 FY (iE f h1) (iw args.toList (fun y hy=>iE y (dz h2 y hy)))
 unfold Oper.wp
 rw [kH ho e1]
 obtain ⟨x1,c1,r1⟩:=lI as s.bx _ _ hF.cx h3 e2
 have cn:=FT c1
 have hnn:ak β [] w (bt β [] w (qA β (fw s.bx as) X)) _ _:=lH (fun blk hb=>FU blk hb) _ _ h4 r1
 refine gD (h5 β w _ _ cn hnn) ?_ ?_ ?_
 ·rintro u w' ⟨β',ex,mG,hr⟩
  simp only [lW] at hr
  obtain ⟨y1,y2,y3⟩:=Jl hF.cx hk ex mG (by
   rcases h6 with hfl|Ph
   ·exact .inl hfl
   refine .inr ?_
   rw [j8 s.bx Ph]) hr
  exact hn _ _ w' _ u y1 y2 y3 ⟨rfl,rfl⟩
 ·rintro ch w' ⟨_,_,_,hr⟩;exact hr.elim
 rintro w' ⟨_,_,_,hr⟩;exact hr.elim
end
end Dem
end
section
open Go
namespace Dem
structure It where
 dst:Option Nat
 v:AV
 bi:Option (Nat×az)
def dG (m:Nat→Bool):Nat→List It→List (Nat×AV)→List (Nat×AV)
 |_,[],sl=>sl
 |i,t::r,sl=>dG m (i+1) r (bif m i then eL t.dst t.v sl else sl)
def qH (t:It) (bx:List az):List az:=
 match t.bi with
 |some (k,B)=>bx.set k B
 |none=>bx
def fj (m:Nat→Bool):Nat→List It→List az→List az
 |_,[],bx=>bx
 |i,t::r,bx=>fj m (i+1) r (bif m i then qH t bx else bx)
theorem nN (t:Nat) (dst:Option Nat) (v:AV) (sl:List (Nat×AV)):gr t (eL dst v sl)=if dst=some t then v else gr t sl:=by
 cases dst with
 |none=>simp [eL]
 |some d=>
  simp only [eL,oN,osI]
  by_cases h:t=d
  ·subst h;simp
  have:d≠t:=fun e=>h e.symm
  simp [h,this]
theorem qJ {t:Nat} {m m':Nat→Bool}:∀(cK:List It) (i:Nat) (sl sM:List (Nat×AV)),gr t sl=gr t sM→
 (∀j it,cK[j]?=some it→it.dst=some t→m (i+j)=m' (i+j))→gr t (dG m i cK sl)=gr t (dG m' i cK sM)
 |[],_,_,_,h,_=>h
 |it::r,i,sl,sM,h,hm=>by
  simp only [dG]
  refine qJ r (i+1) _ _ ?_ (fun j it' hj hd=>by have:=hm (j+1) it' (by simpa using hj) hd;simpa [Nat.add_assoc,Nat.add_comm 1 j] using this)
  by_cases hd:it.dst=some t
  ·have:=hm 0 it rfl hd
   rw [Nat.add_zero] at this
   rw [this]
   cases m' i<;>simp [nN,hd,h]
  cases m i<;>cases m' i<;>simp [nN,hd,h]
theorem Ao {t:Nat} {m:Nat→Bool}:∀(cK:List It) (i:Nat) (sl:List (Nat×AV)),(∀j it,cK[j]?=some it→it.dst=some t→m (i+j)=false)→gr t (dG m i cK sl)=gr t sl
 |[],_,_,_=>rfl
 |it::r,i,sl,hm=>by
  simp only [dG]
  rw [Ao r (i+1) _ (fun j it' hj hd=>by have:=hm (j+1) it' (by simpa using hj) hd;simpa [Nat.add_assoc,Nat.add_comm 1 j] using this)]
  by_cases hd:it.dst=some t
  ·have:=hm 0 it rfl hd
   rw [Nat.add_zero] at this
   simp [this]
  cases m i<;>simp [nN,hd]
theorem kJ {m m':Nat→Bool}:∀(cK:List It) (i:Nat) (sl:List (Nat×AV)),(∀j,j<cK.length→m (i+j)=m' (i+j))→dG m i cK sl=dG m' i cK sl
 |[],_,_,_=>rfl
 |it::r,i,sl,hm=>by
  simp only [dG]
  have h0:=hm 0 (by simp)
  rw [Nat.add_zero] at h0
  rw [h0]
  exact kJ r (i+1) _ (fun j hj=>by have:=hm (j+1) (by simpa using hj);simpa [Nat.add_assoc,Nat.add_comm 1 j] using this)
theorem mU {m m':Nat→Bool}:∀(cK:List It) (i:Nat) (bx:List az),(∀j,j<cK.length→m (i+j)=m' (i+j))→fj m i cK bx=fj m' i cK bx
 |[],_,_,_=>rfl
 |it::r,i,bx,hm=>by
  simp only [fj]
  have h0:=hm 0 (by simp)
  rw [Nat.add_zero] at h0
  rw [h0]
  exact mU r (i+1) _ (fun j hj=>by have:=hm (j+1) (by simpa using hj);simpa [Nat.add_assoc,Nat.add_comm 1 j] using this)
theorem Ap:∀(cK:List It) (i j:Nat) (sl:List (Nat×AV)),dG (fun _=>true) i (cK.take j) sl=dG (fun x=>decide (x<i+j)) i cK sl
 |[],i,j,sl=>by simp [dG]
 |it::r,i,0,sl=>by
  simp only [List.take_zero,dG,Nat.add_zero,Nat.lt_irrefl,decide_false,cond_false]
  have:∀(r:List It) (k:Nat),i≤k→dG (fun x=>decide (x<i)) k r sl=sl:=by
   intro r
   induction r with
   |nil=>intro k _;rfl
   |cons t r ih=>
    intro k hk
    simp only [dG,show ¬k<i by omega,decide_false,cond_false]
    exact ih (k+1) (by omega)
  exact (this r (i+1) (by omega)).symm
 |it::r,i,j+1,sl=>by
  simp only [List.take_succ_cons,dG,cond_true,show i<i+(j+1) by omega,decide_true]
  rw [Ap r (i+1) j]
  exact kJ r (i+1) _ (fun k _=>by simp only [show i+1+j=i+(j+1) by omega])
theorem Aq {t:Nat} {m m':Nat→Bool}:∀(cK:List It) (i j0:Nat) (LF:It) (sl:List (Nat×AV)),cK[j0]?=some LF→m (i+j0)=false→m' (i+j0)=true→(∀x,x≠i+j0→m' x=m x)→
 (∀j it,cK[j]?=some it→j0<j→m (i+j)=true→∀d,LF.dst=some d→it.dst≠some d)→gr t (dG m' i cK sl)=gr t (eL LF.dst LF.v (dG m i cK sl))
 |[],_,_,_,_,h,_,_,_,_=>by simp at h
 |it::r,i,0,LF,sl,h,h1,h2,h3,h4=>by
  simp at h;subst h
  simp only [Nat.add_zero] at h1 h2
  simp only [dG,h1,h2,cond_true,cond_false]
  rw [kJ (m:=m') (m':=m) r (i+1) _ (fun j _=>h3 _ (by omega)),nN]
  by_cases hd:it.dst=some t
  ·rw [if_pos hd,Ao r (i+1) _ (fun j it' hj Vq=>?_),nN,if_pos hd]
   cases hq:m (i+1+j) with
   |false=>rfl
   |true=>exact absurd Vq (h4 (j+1) it' (by simpa using hj) (by omega) (by rw [show i+(j+1)=i+1+j by omega];exact hq) t hd)
  rw [if_neg hd]
  exact qJ r (i+1) _ _ (by rw [nN,if_neg hd]) (fun _ _ _ _=>rfl)
 |it::r,i,j0+1,LF,sl,h,h1,h2,h3,h4=>by
  simp only [dG]
  rw [h3 i (by omega)]
  exact Aq r (i+1) j0 LF _ (by simpa using h) (by rw [show i+1+j0=i+(j0+1) by omega];exact h1) (by rw [show i+1+j0=i+(j0+1) by omega];exact h2)
   (fun x hx=>h3 x (by omega)) (fun j it' hj hlt hm=>h4 (j+1) it' (by simpa using hj) (by omega) (by rw [show i+(j+1)=i+1+j by omega];exact hm))
def kK:Nat→List It→Prop
 |_,[]=>True
 |k,t::r=>match t.bi with
  |some (x,_)=>x=k∧kK (k+1) r
  |none=>kK k r
theorem kK.ge:∀{cK:List It} {k:Nat},kK k cK→∀{j:Nat} {it:It} {x:Nat} {cs:az},cK[j]?=some it→it.bi=some (x,cs)→k≤x
 |[],_,_,_,_,_,_,h,_=>by simp at h
 |t::r,k,hk,0,it,x,cs,h,hb=>by
  simp at h;subst h
  simp only [kK,hb] at hk
  omega
 |t::r,k,hk,j+1,it,x,cs,h,hb=>by
  simp only [kK] at hk
  split at hk
  ·have:=hk.2.ge (j:=j) (by simpa using h) hb;omega
  exact kK.ge hk (j:=j) (by simpa using h) hb
theorem kK.apart:∀{cK:List It} {k:Nat},kK k cK→∀{j j':Nat} {it it':It} {x x':Nat} {cs cs':az},cK[j]?=some it→it.bi=some (x,cs)→cK[j']?=some it'→it'.bi=some (x',cs')→j≠j'→x≠x'
 |[],_,_,_,_,_,_,_,_,_,_,h,_,_,_,_=>by simp at h
 |t::r,k,hk,0,0,_,_,_,_,_,_,_,_,_,_,hne=>absurd rfl hne
 |t::r,k,hk,0,j'+1,it,it',x,x',cs,cs',h,hb,h',hb',_=>by
  simp at h;subst h
  simp only [kK,hb] at hk
  have:=hk.2.ge (j:=j') (by simpa using h') hb';omega
 |t::r,k,hk,j+1,0,it,it',x,x',cs,cs',h,hb,h',hb',_=>by
  simp at h';subst h'
  simp only [kK,hb'] at hk
  have:=hk.2.ge (j:=j) (by simpa using h) hb;omega
 |t::r,k,hk,j+1,j'+1,it,it',x,x',cs,cs',h,hb,h',hb',hne=>by
  have hk':∃k',kK k' r:=by
   simp only [kK] at hk
   split at hk
   ·exact ⟨_,hk.2⟩
   exact ⟨_,hk⟩
  obtain ⟨k',hk'⟩:=hk'
  exact kK.apart hk' (j:=j) (j':=j') (by simpa using h) hb (by simpa using h') hb' (by omega)
theorem CW {m:Nat→Bool} {x:Nat}:∀(cK:List It) (i:Nat) (bx:List az),(∀j it y cs,cK[j]?=some it→m (i+j)=true→it.bi=some (y,cs)→y≠x)→(fj m i cK bx)[x]?=bx[x]?
 |[],_,_,_=>rfl
 |t::r,i,bx,h=>by
  simp only [fj]
  rw [CW r (i+1) _ (fun j it y cs hj hm hb=>h (j+1) it y cs (by simpa using hj) (by rw [show i+(j+1)=i+1+j by omega];exact hm) hb)]
  cases hm:m i with
  |false=>rfl
  |true=>
   simp only [cond_true,qH]
   split
   ·rename_i k cs hb
    have:=h 0 t k cs rfl (by simpa using hm) hb
    rw [List.getElem?_set_ne this]
   rfl
theorem CX {m:Nat→Bool} {x:Nat} {B:az}:∀(cK:List It) (i:Nat) (bx:List az),(∀j it y cs,cK[j]?=some it→m (i+j)=true→it.bi=some (y,cs)→y≠x)→fj m i cK (bx.set x B)=(fj m i cK bx).set x B
 |[],_,_,_=>rfl
 |t::r,i,bx,h=>by
  simp only [fj]
  rw [←CX r (i+1) _ (fun j it y cs hj hm hb=>h (j+1) it y cs (by simpa using hj) (by rw [show i+(j+1)=i+1+j by omega];exact hm) hb)]
  congr 1
  cases hm:m i with
  |false=>rfl
  |true=>
   simp only [cond_true,qH]
   split
   ·rename_i k cs hb
    have:=h 0 t k cs rfl (by simpa using hm) hb
    rw [List.set_comm _ _ (Ne.symm this)]
   rfl
theorem Ar {m m':Nat→Bool}:∀(cK:List It) (i j0:Nat) (LF:It) (bx:List az),cK[j0]?=some LF→m (i+j0)=false→m' (i+j0)=true→(∀x,x≠i+j0→m' x=m x)→
 (∀j it y cs x cs0,cK[j]?=some it→j≠j0→it.bi=some (y,cs)→LF.bi=some (x,cs0)→y≠x)→fj m' i cK bx=qH LF (fj m i cK bx)
 |[],_,_,_,_,h,_,_,_,_=>by simp at h
 |t::r,i,0,LF,bx,h,h1,h2,h3,h4=>by
  simp at h;subst h
  simp only [Nat.add_zero] at h1 h2
  simp only [fj,h1,h2,cond_true,cond_false]
  rw [mU (m:=m') (m':=m) r (i+1) _ (fun j _=>h3 _ (by omega))]
  unfold qH
  split
  ·rename_i k cs hb
   exact CX r (i+1) bx (fun j it y cs' hj _ hb'=>h4 (j+1) it y cs' k cs (by simpa using hj) (by omega) hb' hb)
  rfl
 |t::r,i,j0+1,LF,bx,h,h1,h2,h3,h4=>by
  simp only [fj]
  rw [h3 i (by omega)]
  exact Ar r (i+1) j0 LF _ (by simpa using h) (by rw [show i+1+j0=i+(j0+1) by omega];exact h1) (by rw [show i+1+j0=i+(j0+1) by omega];exact h2)
   (fun x hx=>h3 x (by omega)) (fun j it y cs x cs0 hj hne=>h4 (j+1) it y cs x cs0 (by simpa using hj) (by omega))
theorem Ge {m:Nat→Bool} {aF:List az}:∀(cK:List It) (i:Nat) (bx:List az),lp aF bx→(∀(j:Nat) (it:It) (y:Nat) (cs:az),cK[j]?=some it→it.bi=some (y,cs)→aF[y]?=some .bB)→lp aF (fj m i cK bx)
 |[],_,_,h,_=>h
 |t::r,i,bx,h,hu=>by
  simp only [fj]
  refine Ge r (i+1) _ ?_ (fun j it y cs hj=>hu (j+1) it y cs (by simpa using hj))
  cases m i with
  |false=>exact h
  |true=>
   simp only [cond_true,qH]
   split
   ·rename_i k cs hb
    have h0:=hu 0 t k cs rfl hb
    intro x b hx dF
    by_cases hxk:k=x
    ·subst hxk;rw [h0] at hx;simp at hx;subst hx;simp [az.born] at dF
    rw [List.getElem?_set_ne hxk];exact h x b hx dF
   exact h
end Dem
end
section
open Go
namespace Dem
theorem u7:∀(l:List Oper) (acc:List Nat),(cP l acc).take acc.length=acc
 |[],acc=>by simp [cP]
 |o::r,acc=>by
  have h:=u7 r (acc++[rS acc o])
  simp only [cP]
  have:=congrArg (List.take acc.length) h
  simpa [List.take_take] using this
theorem xZ:∀(l:List Oper) (acc:List Nat) (j:Nat) (o:Oper),l[j]?=some o→(cP l acc)[acc.length+j]?=some (rS ((cP l acc).take (acc.length+j)) o)
 |[],_,_,_,h=>by simp at h
 |p::r,acc,0,o,h=>by
  simp at h;subst h
  simp only [cP,Nat.add_zero]
  have h1:=u7 r (acc++[rS acc p])
  have h2:=congrArg (List.take acc.length) h1
  have h3:=congrArg (fun l=>l[acc.length]?) h1
  simp only [List.take_take,List.length_append,List.length_cons,List.length_nil,Nat.zero_add] at h2 h3
  rw [Nat.min_eq_left (by omega)] at h2
  rw [List.getElem?_take,if_pos (by omega)] at h3
  rw [h3,h2]
  simp
 |p::r,acc,j+1,o,h=>by
  have:=xZ r (acc++[rS acc p]) j o (by simpa using h)
  simp only [List.length_append,List.length_cons,List.length_nil,Nat.zero_add] at this
  simp only [cP]
  rw [show acc.length+(j+1)=acc.length+1+j by omega]
  exact this
theorem x5 {acc:List Nat} {i:Nat}:∀(es:List Edge) (s:Nat),(es.foldl (fun s e=>bif Region.binds .any e then s ||| 2^e.on ||| acc.getD e.on 0 else s) s).testBit i=true→
 s.testBit i=true∨∃e∈es,Region.binds .any e=true∧(e.on=i∨(acc.getD e.on 0).testBit i=true)
 |[],s,h=>.inl h
 |e::es,s,h=>by
  rw [List.foldl_cons] at h
  rcases x5 es _ h with h1|⟨e',h1,h2⟩
  ·cases hb:Region.binds .any e with
   |false=>rw [hb] at h1;exact .inl h1
   |true=>
    rw [hb] at h1
    simp only [cond_true,Nat.testBit_or,Bool.or_eq_true] at h1
    rcases h1 with (h1|h1)|h1
    ·exact .inl h1
    ·refine .inr ⟨e,by simp,hb,.inl ?_⟩
     rw [Nat.testBit_two_pow] at h1
     simpa using h1
    exact .inr ⟨e,by simp,hb,.inr h1⟩
  exact .inr ⟨e',by simp [h1],h2⟩
section
variable {ops:Array Oper}
def Down (ops:Array Oper) (m:Nat→Bool):Prop:=∀x o,ops[x]?=some o→m x=true→∀e∈o.after,Region.binds .any e=true→m e.on=true
theorem closed {m:Nat→Bool} (hd:Down ops m):∀(j:Nat) (o:Oper),ops[j]?=some o→(∀e∈o.after,Region.binds .any e=true→m e.on=true)→∀i,((cP ops.toList []).getD j 0).testBit i=true→m i=true:=by
 intro j
 induction j using Nat.strongRecOn with
 |_ j ih=>
  intro o ho hp i hi
  have wq:=xZ ops.toList [] j o (by simpa using ho)
  simp only [List.length_nil,Nat.zero_add] at wq
  rw [List.getD_eq_getElem?_getD,wq] at hi
  simp only [Option.getD_some,rS] at hi
  rcases x5 _ _ hi with h|⟨e,he,hb,h|h⟩
  ·simp at h
  ·subst h;exact hp e (by simpa using he) hb
  have hlt:e.on<j:=by
   rcases Nat.lt_or_ge e.on j with h'|h'
   ·exact h'
   rw [List.getD_eq_getElem?_getD,List.getElem?_take,if_neg (by omega)] at h
   simp at h
  have hh:((cP ops.toList []).getD e.on 0).testBit i=true:=by
   rw [List.getD_eq_getElem?_getD,List.getElem?_take,if_pos hlt] at h
   rw [List.getD_eq_getElem?_getD];exact h
  have hj:j<ops.size:=(Array.getElem?_eq_some_iff.1 ho).1
  have ho':ops[e.on]?=some ops[e.on]:=by simp [show e.on<ops.size by omega]
  exact ih e.on hlt _ ho' (hd _ _ ho' (hp e (by simpa using he) hb)) i hh
theorem qK {m:Nat} {o:Oper}:∀{n:Nat},gM.rT ops m o n=true→∀j,j<n→m.testBit j=true∨∃p,ops[j]?=some p∧p.apart ops o=true
 |0,_,j,hj=>by omega
 |n+1,h,j,hj=>by
  simp only [gM.rT,Bool.and_eq_true,Bool.or_eq_true] at h
  by_cases hjn:j=n
  ·subst hjn
   refine h.1.imp id (fun h1=>?_)
   split at h1
   ·rename_i p hp;exact ⟨p,hp,h1⟩
   simp at h1
  exact qK h.2 j (by omega)
theorem lq {b:List Nat}:∀{l:List Oper} {i:Nat},gM ops b i l=true→∀j o,l[j]?=some o→
 (∀e∈o.after,Region.binds .any e=true→e.on<i+j)∧∀k,k<i+j→(b.getD (i+j) 0).testBit k=true∨∃p,ops[k]?=some p∧p.apart ops o=true
 |[],_,_,j,o,ho=>by simp at ho
 |q::r,i,h,0,o,ho=>by
  simp at ho;subst ho
  simp only [gM,Bool.and_eq_true] at h
  refine ⟨fun e he hb=>?_,fun k hk=>qK h.1.2 k hk⟩
  have:=List.all_eq_true.1 h.1.1 e (by simpa using he)
  simpa [hb,Nat.blt_eq] using this
 |q::r,i,h,j+1,o,ho=>by
  simp only [gM,Bool.and_eq_true] at h
  have:=lq h.2 j o (by simpa using ho)
  rw [show i+(j+1)=i+1+j by omega]
  exact this
theorem Ec {b:List Nat} {q:Nat} (h:barrier b q=true):(∀i,i<q→(b.getD q 0).testBit i=true)∧∀i,q<i→i<b.length→(b.getD i 0).testBit q=true:=by
 simp only [barrier,Bool.and_eq_true] at h
 obtain ⟨h1,h2⟩:=h
 refine ⟨fun i hi=>?_,fun i hi hl=>?_⟩
 ·rw [Nat.eq_of_beq_eq_true h1]
  simpa using hi
 refine List.all_eq_true.1 h2 _ ?_
 rw [List.getD_eq_getElem?_getD,List.getElem?_eq_getElem hl,Option.getD_some]
 rw [List.mem_iff_getElem?]
 refine ⟨i-(q+1),?_⟩
 rw [List.getElem?_drop,show q+1+(i-(q+1))=i by omega,List.getElem?_eq_getElem hl]
theorem qL:∀(l:List Oper) (acc:List Nat),(cP l acc).length=acc.length+l.length
 |[],acc=>by simp [cP]
 |o::r,acc=>by simp only [cP];rw [qL r];simp;omega
end
end Dem
end
