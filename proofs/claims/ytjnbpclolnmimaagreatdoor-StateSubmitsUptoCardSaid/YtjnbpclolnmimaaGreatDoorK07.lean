/- Parts of a proof, joined. -/
import Derived.Test.YtjnbpclolnmimaaGreatDoorK06
import Derived.ChangeSame
import Derived.ChangeArms
import Derived.OpenShut
import Derived.WideShapes
import Derived.Deep.Slices
import Derived.Orders
set_option linter.all false
set_option maxRecDepth 100000
set_option maxHeartbeats 4000000
section
open Go Go.Deep
namespace Dem
inductive PT where
 |bool
 |int (k:IntKind)
 |str
 |sl (es:List PT)
def O5 (r:TypeId→Option (List PT)) (sz:TypeId→Nat):List Field→Nat→Option (List PT)
 |[],_=>some []
 |f::fs,off=>if f.offset=off then match r f.type,O5 r sz fs (off+sz f.type) with
  |some a,some b=>if a.length=sz f.type then some (a++b) else none
  |_,_=>none else none
def Gm (P:Program):Nat→TypeId→Option (List PT)
 |0,_=>none
 |n+1,t=>match P.underlying t with
  |some .bool=>some [.bool]
  |some (.int k)=>some [.int k]
  |some .string=>some [.str]
  |some (.slice e)=>match Gm P n e with
   |some ps=>if ps.length=P.cellsOf e∧0<ps.length then some [.sl ps] else none
   |none=>none
  |some (.struct fs)=>match O5 (Gm P n) P.cellsOf fs.toList 0 with
   |some ps=>if ps.length=P.cellsOf t then some ps else none
   |none=>none
  |some (.array k e)=>match Gm P n e with
   |some ps=>if ps.length=P.cellsOf e∧k*ps.length=P.cellsOf t then some (List.replicate k ps).flatten else none
   |none=>none
  |_=>none
mutual
def qz:PT→D→Prop
 |.bool,d=>∃b,d=.bool b
 |.int k,d=>∃n,d=.int k n∧(Lit.int k n).wf=true
 |.str,d=>∃s:List UInt8,d=.str s∧s.length≤maxLen
 |.sl ps,d=>∃es:List (List D),d=.sl es∧es.length≤maxLen∧∀r∈es,ct ps r
def ct:List PT→List D→Prop
 |[],ds=>ds=[]
 |p::ps,ds=>∃d r,ds=d::r∧qz p d∧ct ps r
end
theorem ct.length:∀{ps:List PT} {ds:List D},ct ps ds→ds.length=ps.length
 |[],ds,h=>by simp only [ct] at h;subst h;rfl
 |p::ps,ds,h=>by
  simp only [ct] at h
  obtain ⟨d,r,rfl,_,h2⟩:=h
  simp [ct.length h2]
theorem ct.append:∀{ps qs:List PT} {ds es:List D},ct ps ds→ct qs es→ct (ps++qs) (ds++es)
 |[],qs,ds,es,h,g=>by simp only [ct] at h;subst h;exact g
 |p::ps,qs,ds,es,h,g=>by
  simp only [ct] at h
  obtain ⟨d,r,rfl,h1,h2⟩:=h
  simp only [List.cons_append,ct]
  exact ⟨d,r++es,rfl,h1,h2.append g⟩
theorem b9.append {w:World} {ok:Nat→Prop}:∀{ds es:List D} {vs us:List Value},b9 w ok ds vs→b9 w ok es us→b9 w ok (ds++es) (vs++us)
 |[],es,vs,us,h,g=>by simp only [b9] at h;subst h;exact g
 |d::ds,es,vs,us,h,g=>by
  simp only [b9] at h
  obtain ⟨v,r,rfl,h1,h2⟩:=h
  simp only [List.cons_append,b9]
  exact ⟨v,r++us,rfl,h1,h2.append g⟩
theorem b9.row {w:World} {ok:Nat→Prop} {az:Nat}:∀{ds:List D} {vs:List Value} {off:Nat},b9 w ok ds vs→(∀i,i<vs.length→w.cell? ⟨az,off+i,none⟩=vs[i]?)→aW w ok az ds off
 |[],_,_,_,_=>by simp [aW]
 |d::ds,vs,off,h,hc=>by
  simp only [b9] at h
  obtain ⟨v,r,rfl,h1,h2⟩:=h
  simp only [aW]
  refine ⟨⟨v,by simpa using hc 0 (by simp),h1⟩,h2.row fun i hi=>?_⟩
  have:=hc (i+1) (by simp;omega)
  simpa [Nat.add_assoc,Nat.add_comm 1 i] using this
theorem b9.as {β:Nat→Nat} {bx:List ar} {w:World} {ok:Nat→Prop}:∀{ds:List D} {vs:List Value},b9 w ok ds vs→aj β bx w ok (ds.map .d) vs
 |[],vs,h=>by simp only [b9] at h;subst h;simp [aj]
 |d::ds,vs,h=>by
  simp only [b9] at h
  obtain ⟨v,r,rfl,h1,h2⟩:=h
  simp only [List.map_cons,aj]
  exact ⟨v,r,rfl,by simpa [ah] using h1,h2.as⟩
mutual
def dJ {H:Type}:DataW H→List D
 |.lit (.bool b)=>[.bool b]
 |.lit (.int k n)=>[.int k n]
 |.lit (.string s)=>[.str s]
 |.nil=>[.sl []]
 |.slice elems _=>[.sl (mF elems)]
 |.agg parts=>fH parts
 |_=>[]
def mF {H:Type}:List (DataW H)→List (List D)
 |[]=>[]
 |d::r=>dJ d::mF r
def fH {H:Type}:List (DataW H)→List D
 |[]=>[]
 |d::r=>dJ d++fH r
end
theorem uW {H:Type}:∀l:List (DataW H),mF l=l.map dJ
 |[]=>rfl
 |d::r=>by simp [mF,uW r]
theorem CV {w:World} {ok:Nat→Prop} {az sz:Nat}:∀(n off:Nat) (f:Nat→List D),(∀i,i<n→aW w ok az (f i) (off+i*sz)∧(f i).length=sz)→an w ok az sz ((List.range n).map f) off
 |0,off,_,_=>by simp [an]
 |n+1,off,f,h=>by
  obtain ⟨h1,h2⟩:=h 0 (by omega)
  rw [List.range_succ_eq_map,List.map_cons,List.map_map]
  simp only [an]
  refine ⟨h2,by simpa using h1,CV n (off+sz) _ fun i hi=>?_⟩
  obtain ⟨k1,k2⟩:=h (i+1) (by omega)
  rw [show off+sz+i*sz=off+(i+1)*sz by rw [Nat.succ_mul];omega]
  exact ⟨k1,k2⟩
theorem ML {w:World} {a:Addr} {v:Value} (h:w.cell? a=some v):a.spot=none:=by
 unfold World.cell? at h
 split at h
 ·split at h
  ·cases h
  rename_i hs;simpa using hs
 cases h
theorem add_eq {a:Addr} (h:a.spot=none) (n:Nat):a.add n=⟨a.block,a.off+n,none⟩:=by
 unfold Addr.add
 split
 ·rename_i h0;subst h0;cases a;simp_all
 rfl
theorem Ao {α:Type} (cs:List α) (off a b:Nat):(cs.drop off).take (a+b)=(cs.drop off).take a++(cs.drop (off+a)).take b:=by
 rw [List.take_add,List.drop_drop]
section
variable {H:Type} {enc:TypeId×Value→H} {P:Program} {w:World} {spare:Nat→Bool} {held:Bool} {ok:Nat→Prop}
theorem Ap {r:TypeId→Option (List PT)} {n:Nat} {cs:List Value} (hr:∀t cs x ps,DataW.trod enc P w 0 spare held n t cs=some x→r t=some ps→b9 w ok (dJ x.1) cs∧ct ps (dJ x.1)):
 ∀(fs:List Field) (xs:List (DataW H×List MemPlace)) (off:Nat) (ps:List PT),O5 r P.cellsOf fs off=some ps→xs.length=fs.length→
  (∀(i:Nat) (f:Field),fs[i]?=some f→DataW.trod enc P w 0 spare held n f.type ((cs.drop f.offset).take (P.cellsOf f.type))=xs[i]?)→
  b9 w ok (fH (xs.map (·.1))) ((cs.drop off).take ps.length)∧ct ps (fH (xs.map (·.1)))
 |[],xs,off,ps,h,hl,_=>by
  simp only [O5,osI] at h;subst h
  obtain rfl:xs=[]:=by simpa using hl
  exact ⟨by simp [b9,fH],by simp [ct,fH]⟩
 |f::fs,[],off,ps,h,hl,hx=>by simp at hl
 |f::fs,x::xs,off,ps,h,hl,hx=>by
  simp only [O5] at h
  split at h
  ·rename_i ho
   split at h
   ·rename_i a b ha hb
    split at h
    ·rename_i hla
     simp only [osI] at h;subst h
     have hx0:=hx 0 f rfl
     obtain ⟨g1,g2⟩:=hr _ _ _ _ (by simpa using hx0) ha
     obtain ⟨k1,k2⟩:=Ap hr fs xs _ b hb (by simpa using hl) (fun i f hf=>by simpa using hx (i+1) f (by simpa using hf))
     rw [List.length_append,Ao]
     rw [ho,←hla] at g1
     rw [←hla] at k1
     simp only [List.map_cons,fH]
     exact ⟨g1.append k1,g2.append k2⟩
    cases h
   cases h
  cases h
theorem CW {r:List PT} {cs:List Value}:∀(k off:Nat) (xs:List (DataW H×List MemPlace)),xs.length=k→(∀i x,xs[i]?=some x→b9 w ok (dJ x.1) ((cs.drop (off+i*r.length)).take r.length)∧ct r (dJ x.1))→
 b9 w ok (fH (xs.map (·.1))) ((cs.drop off).take (k*r.length))∧ct (List.replicate k r).flatten (fH (xs.map (·.1)))
 |0,off,xs,hl,_=>by
  obtain rfl:xs=[]:=by simpa using hl
  exact ⟨by simp [b9,fH],by simp [ct,fH]⟩
 |k+1,off,[],hl,h=>by simp at hl
 |k+1,off,x::xs,hl,h=>by
  obtain ⟨g1,g2⟩:=h 0 x rfl
  obtain ⟨k1,k2⟩:=CW (r:=r) (cs:=cs) k (off+r.length) xs (by simpa using hl) (fun i x hx=>by
   obtain ⟨k1,k2⟩:=h (i+1) x (by simpa using hx)
   rw [show off+r.length+i*r.length=off+(i+1)*r.length by rw [Nat.succ_mul];omega]
   exact ⟨k1,k2⟩)
  rw [show (k+1)*r.length=r.length+k*r.length by rw [Nat.succ_mul];omega,Ao,List.replicate_succ,List.flatten_cons]
  simp only [List.map_cons,fH]
  exact ⟨b9.append (by simpa using g1) k1,g2.append k2⟩
theorem qA (hok:∀az,az<w.heap.size→ok az):
 ∀(n m:Nat) (t:TypeId) (cs:List Value) (x:DataW H×List MemPlace) (ps:List PT),DataW.trod enc P w 0 spare held m t cs=some x→Gm P n t=some ps→b9 w ok (dJ x.1) cs∧ct ps (dJ x.1)
 |0,_,_,_,_,_,_,h=>by simp [Gm] at h
 |n+1,m,t,cs,x,ps,h,hp=>by
  have ih:=qA hok n
  rw [Gm] at hp
  cases hu:P.underlying t with
  |none=>simp [hu] at hp
  |some d=>
   simp only [hu] at hp
   cases d<;>(try (cases hp;done))<;>simp only at hp
   case bool=>
    simp only [osI] at hp;subst hp
    obtain ⟨b,rfl,rfl⟩:=DataW.trod_bool hu h
    exact ⟨by simp [b9,aH,dJ],by simp [ct,qz,dJ]⟩
   case int k=>
    simp only [osI] at hp;subst hp
    obtain ⟨z,rfl,rfl,hw⟩:=DataW.trod_int hu h
    exact ⟨by simp [b9,aH,dJ],by simpa [ct,qz,dJ] using hw⟩
   case string=>
    simp only [osI] at hp;subst hp
    obtain ⟨s,rfl,rfl,hs⟩:=DataW.trod_string hu h
    refine ⟨by simp [b9,aH,dJ],?_⟩
    simp only [ct,qz,dJ]
    exact ⟨_,_,rfl,⟨_,rfl,by rw [Array.length_toList];exact hs⟩,rfl⟩
   case slice e=>
    split at hp
    ·rename_i qs hq
     split at hp
     ·rename_i hl
      simp only [osI] at hp;subst hp
      rcases open_slice hu h with ⟨rfl,rfl⟩|⟨a,len,cap,mm,n',Dd,Pl,rfl,hb,hlc,hm,MM,rfl,hx⟩
      ·exact ⟨by simp [b9,aH,dJ],by simp [ct,qz,dJ]⟩
      have hlen:len≤mm:=by rw [MM];split<;>omega
      have hel:∀i,i<len→∃cs',w.cells? 0 (a.add (i*P.cellsOf e)) (P.cellsOf e)=some cs'∧b9 w ok (dJ (Dd i)) cs'∧ct qs (dJ (Dd i)):=by
       intro i hi
       obtain ⟨cs',hc,W5⟩:=hx i (by omega)
       exact ⟨cs',hc,ih _ _ _ _ _ W5 hq⟩
      have hfl:dJ (.slice ((List.range len).map Dd) ((List.range (mm-len)).map fun j=>Dd (len+j)))=[.sl ((List.range len).map fun i=>dJ (Dd i))]:=by
       simp [dJ,uW,List.map_map,Function.comp_def]
      simp only [hfl]
      have Vi:ct [.sl qs] [.sl ((List.range len).map fun i=>dJ (Dd i))]:=by
       simp only [ct,qz]
       refine ⟨_,_,rfl,⟨_,rfl,by simp;omega,?_⟩,rfl⟩
       intro r hr
       obtain ⟨i,hi,rfl⟩:=List.mem_map.1 hr
       obtain ⟨cs',_,_,g⟩:=hel i (by simpa using hi)
       exact g
      refine ⟨?_,Vi⟩
      cases len with
      |zero=>simp [b9,aH]
      |succ len=>
       have hsp:a.spot=none:=by
        obtain ⟨cs',hc,W5⟩:=hel 0 (by omega)
        obtain ⟨_,hl',hcell⟩:=World.cells?_some hc
        have h0:=hcell 0 (by omega)
        rw [List.getElem?_eq_getElem (by omega)] at h0
        have:=ML h0
        simpa [Addr.add] using this
       have ZV:a.block<w.heap.size:=by
        obtain ⟨cs',hc,W5⟩:=hel 0 (by omega)
        have:=World.cells?_block hc (by omega)
        simpa [Addr.add] using this
       have g:=CV (w:=w) (ok:=ok) (az:=a.block) (sz:=P.cellsOf e) (len+1) a.off (fun i=>dJ (Dd i)) (fun i hi=>by
        obtain ⟨cs',hc,g1,g2⟩:=hel i hi
        obtain ⟨_,hl',hcell⟩:=World.cells?_some hc
        refine ⟨g1.row (fun j hj=>?_),by rw [g2.length];exact hl.1⟩
        have:=hcell j (by omega)
        rw [add_eq hsp,add_eq rfl] at this
        exact this)
       simp only [b9,aH]
       exact ⟨_,_,rfl,⟨some a,cap,by simp,by simp;omega,.inr ⟨a.block,a.off,P.cellsOf e,by cases a;simp_all,hok _ ZV,g⟩⟩,rfl⟩
     cases hp
    cases hp
   case struct fs=>
    split at hp
    ·rename_i qs hq
     split at hp
     ·rename_i hl
      simp only [osI] at hp;subst hp
      obtain ⟨xs,m',hm,rfl,R4,hxl,hxs⟩:=DataW.trod_struct hu h
      have hf:∀(i:Nat) (f:Field),fs.toList[i]?=some f→DataW.trod enc P w 0 spare held m' f.type ((cs.drop f.offset).take (P.cellsOf f.type))=xs[i]?:=by
       intro i f hf
       exact hxs i f (by simpa using hf)
      obtain ⟨g1,g2⟩:=Ap (ok:=ok) (fun t cs x ps=>ih m' t cs x ps) fs.toList xs 0 _ hq (by simpa using hxl) hf
      simp only [dJ]
      refine ⟨?_,g2⟩
      have e:(cs.drop 0).take qs.length=cs:=by rw [List.drop_zero,hl,←R4,List.take_length]
      rwa [e] at g1
     cases hp
    cases hp
   case array k e=>
    split at hp
    ·rename_i qs hq
     split at hp
     ·rename_i hl
      simp only [osI] at hp;subst hp
      obtain ⟨xs,m',hm,rfl,R4,hxl,hxs⟩:=DataW.trod_array hu h
      obtain ⟨g1,g2⟩:=CW (w:=w) (ok:=ok) (r:=qs) (cs:=cs) k 0 xs hxl (fun i x hi=>by
       have hi3:i<xs.length:=(List.getElem?_eq_some_iff.1 hi).1
       have:=hxs i (by omega)
       rw [hl.1,Nat.zero_add]
       rw [hi] at this
       exact ih _ _ _ _ _ this hq)
      simp only [dJ]
      refine ⟨?_,g2⟩
      have e:(cs.drop 0).take (k*qs.length)=cs:=by rw [List.drop_zero,hl.2,←R4,List.take_length]
      rwa [e] at g1
     cases hp
    cases hp
end
end Dem
end
section
open Go
namespace Dem
section
variable {T:Nat→Option TI} {G:Nat→Option (List D)} {bx aF:List ar}
def lz (bx aF:List ar):Prop:=∀(i:Nat) (b:ar),bx[i]?=some b→b.born=true→aF[i]?=some b
theorem lz.refl (bx:List ar):lz bx bx:=fun _ _ h _=>h
theorem O6 (h:lz bx aF) {x:AV} {y:D} (hx:x.sH bx=some y):x.sH aF=some y:=by
 cases x with
 |ow b sz n=>
  simp only [AV.sH] at hx ⊢
  split at hx
  ·rename_i s es hb
   rw [h _ _ hb rfl];exact hx
  ·rename_i s es hb
   rw [h _ _ hb rfl];exact hx
  simp at hx
 |fn f cs=>cases cs with
  |nil=>exact hx
  |cons c cs=>exact hx
 |_=>exact hx
theorem LC (h:lz bx aF):∀{xs:List AV} {ys:List D},iD bx xs=some ys→iD aF xs=some ys
 |[],ys,hx=>hx
 |x::xs,ys,hx=>by
  simp only [iD] at hx ⊢
  split at hx
  ·rename_i y ys' hy hys
   rw [O6 h hy,LC h hys];exact hx
  simp at hx
theorem rT (h:lz bx aF) {x:AV} {es:List (List D)} (hx:x.rows bx=some es):x.rows aF=some es:=by
 cases x with
 |d y=>cases y<;>exact hx
 |ow b sz n=>
  simp only [AV.rows] at hx ⊢
  split at hx
  ·rename_i s es hb
   rw [h _ _ hb rfl];exact hx
  ·rename_i s es hb
   rw [h _ _ hb rfl];exact hx
  simp at hx
 |vw b sz off n c ex=>
  simp only [AV.rows] at hx ⊢
  split at hx
  ·rename_i s es hb
   rw [h _ _ hb rfl];exact hx
  ·rename_i s es hb
   rw [h _ _ hb rfl];exact hx
  simp at hx
 |_=>exact hx
theorem Uv (h:lz bx aF) {x y:AV} (hx:fz bx x=some y):fz aF x=some y:=by
 cases x with
 |ow b sz n=>
  simp only [fz,Option.map_eq_some_iff] at hx ⊢
  obtain ⟨q,h1,h2⟩:=hx
  exact ⟨q,O6 h h1,h2⟩
 |vw b sz off n c ex=>
  simp only [fz,Option.map_eq_some_iff] at hx ⊢
  obtain ⟨q,h1,h2⟩:=hx
  exact ⟨q,rT h h1,h2⟩
 |_=>exact hx
theorem O7 (h:lz bx aF):∀{xs ys:List AV},IQ bx xs=some ys→IQ aF xs=some ys
 |[],ys,hx=>hx
 |x::xs,ys,hx=>by
  simp only [IQ] at hx ⊢
  split at hx
  ·rename_i y ys' hy hys
   rw [Uv h hy,O7 h hys];exact hx
  simp at hx
theorem Em (h:lz bx aF):∀{xs ys:List AV},eK bx xs=some ys→eK aF xs=some ys
 |[],ys,hx=>hx
 |x::xs,ys,hx=>by
  simp only [eK] at hx ⊢
  split at hx
  ·rename_i y ys' hy hys
   have:qf aF x=some y:=by
    cases x with
    |agg cs=>
     simp only [qf,Option.map_eq_some_iff] at hy ⊢
     obtain ⟨q,h1,h2⟩:=hy
     exact ⟨q,O7 h h1,h2⟩
    |_=>simp only [qf] at hy ⊢;exact Uv h hy
   rw [this,Em h hys];exact hx
  simp at hx
theorem O8 (h:lz bx aF) {ti:TI} {a:AV} {r:R} (hx:pL ti a bx=some r):pL ti a aF=some r:=by
 cases a with
 |ptr b off=>
  simp only [pL] at hx ⊢
  split at hx
  ·rename_i cs hb
   rw [h _ _ hb rfl];exact hx
  simp at hx
 |rp b sz i j=>
  simp only [pL] at hx ⊢
  split at hx
  ·rename_i s es hb
   rw [h _ _ hb rfl];exact hx
  ·rename_i s es hb
   rw [h _ _ hb rfl];exact hx
  simp at hx
 |_=>exact hx
theorem Sk (h:lz bx aF) {x v:AV} (hx:zE x bx=some v):zE x aF=some v:=by
 cases x with
 |d y=>cases y<;>exact hx
 |ow b sz n=>
  simp only [zE] at hx ⊢
  split at hx
  ·rename_i es hr
   rw [rT h hr];exact hx
  simp at hx
 |vw b sz off n c ex=>
  simp only [zE] at hx ⊢
  split at hx
  ·rename_i es hr
   rw [rT h hr];exact hx
  simp at hx
 |_=>exact hx
theorem CX (h:lz bx aF) {size:Nat}:∀{ps:List (Nat×AV)} {rs:List (List D)},rowsOf bx size ps=some rs→rowsOf aF size ps=some rs
 |[],rs,hx=>hx
 |(i,v)::r,rs,hx=>by
  simp only [rowsOf] at hx ⊢
  split at hx
  ·rename_i vs hv
   split at hx
   ·rename_i ds Xh hd hr
    simp only [LC h hd,CX h hr];exact hx
   simp at hx
  simp at hx
theorem MN (h:lz bx aF) {t:Nat} {x:AV} {lo hi mx:Option Int} {c:Prop} {v:AV} (hx:qd T t x lo hi mx bx=some ⟨c,v,none⟩):qd T t x lo hi mx aF=some ⟨c,v,none⟩:=by
 unfold qd at hx ⊢
 split at hx
 ·split at hx
  ·exact hx
  ·split at hx
   ·rename_i es te hr hte
    simp only [rT h hr,hte]
    simp only [osI,R.mk.injEq] at hx ⊢
    refine ⟨hx.1,hx.2.1,?_⟩
    have h3:=hx.2.2
    generalize cA _=q at h3 ⊢
    cases q<;>simp at h3 ⊢
   simp at hx
  ·split at hx
   ·have hr:=‹AV.rows bx _=some _›
    have hte:=‹T _=some _›
    simp only [rT h hr,hte]
    simp only [osI,R.mk.injEq] at hx ⊢
    refine ⟨hx.1,hx.2.1,?_⟩
    have h3:=hx.2.2
    generalize cA _=q at h3 ⊢
    cases q<;>simp at h3 ⊢
   simp at hx
  ·exact hx
  ·split at hx
   ·split at hx
    ·simp at hx
    simp at hx
   simp at hx
  simp at hx
 simp at hx
theorem Aq (h:lz bx aF) {t n:Nat} {ps:List (Nat×AV)} {c:Prop} {v:AV} (hx:fC T t n ps bx=some ⟨c,v,none⟩):fC T t n ps aF=some ⟨c,v,none⟩:=by
 unfold fC at hx ⊢
 split at hx
 ·split at hx
  ·split at hx
   ·rename_i te hte
    generalize (Nat.beq ps.length n&&mT 0 ps&&Nat.ble (n*te.size) 16777216&&te.zero.cells?.isSome)=q at hx ⊢
    cases q with
    |false=>simp at hx
    |true=>
     simp only [cond_true] at hx ⊢
     split at hx
     ·rename_i rs hr
      simp only [CX h hr]
      simp only [osI,R.mk.injEq] at hx ⊢
      refine ⟨hx.1,hx.2.1,?_⟩
      have h3:=hx.2.2
      generalize FF _=q at h3 ⊢
      cases q<;>simp at h3 ⊢
     simp at hx
   simp at hx
  simp at hx
 simp at hx
theorem O9 (h:lz bx aF) {s d:Nat} {x:AV} {r:R} (hx:xG T s d x bx=some r):xG T s d x aF=some r:=by
 unfold xG at hx ⊢
 split at hx
 ·split at hx
  ·exact hx
  ·split at hx
   ·rename_i te es hte hr
    simp only [rT h hr,hte];exact hx
   simp at hx
  ·exact hx
  simp at hx
 simp at hx
theorem uX {t:Nat} {s x:AV} {r:R} (hx:lg T t s x bx=some r):r.bx≠none:=by
 unfold lg at hx
 split at hx
 ·split at hx
  ·split at hx
   ·rename_i te hte
    cases hz:eC te with
    |false=>simp [hz] at hx
    |true=>
    simp only [hz,cond_true] at hx
    split at hx
    ·split at hx
     ·simp only [osI] at hx;subst hx;simp
     ·split at hx
      ·simp at hx
      simp only [osI] at hx;subst hx;simp
     ·split at hx
      ·rename_i b _ _ _ _ _ _
       generalize sameBox _ x=q at hx
       cases q with
       |true=>simp at hx
       |false=>simp only [cond_false,osI] at hx;subst hx;simp
      simp at hx
     simp at hx
    simp at hx
   simp at hx
  simp at hx
 simp at hx
theorem Gn {ti:TI} {a v:AV} {r:R} (hx:tv ti a v bx=some r):r.bx≠none:=by
 unfold tv at hx
 split at hx
 ·simp at hx
 generalize Nat.beq _ _=q at hx
 cases q with
 |false=>simp at hx
 |true=>
 simp only [cond_true] at hx
 split at hx
 ·split at hx
  ·generalize Nat.ble _ _=q at hx
   cases q with
   |false=>simp at hx
   |true=>simp only [cond_true,osI] at hx;subst hx;simp
  simp at hx
 ·split at hx
  ·split at hx
   ·simp only [osI] at hx;subst hx;simp
   simp at hx
  simp at hx
 simp at hx
theorem Gp (h:lz bx aF) {b:Builtin} {args:List AV} {ats:List Nat} {c:Prop} {v:AV} (hx:iF T b args ats bx=some ⟨c,v,none⟩):iF T b args ats aF=some ⟨c,v,none⟩:=by
 unfold iF at hx ⊢
 split at hx
 ·split at hx
  ·split at hx
   ·exact hx
   ·exact hx
   ·split at hx
    ·rename_i v' hl
     simp only [Sk h hl];exact hx
    simp at hx
   simp at hx
  simp at hx
 ·exact hx
 ·exact hx
 ·split at hx
  ·split at hx
   ·simp at hx
   exact absurd rfl (uX hx)
  simp at hx
 simp at hx
theorem Jj {te:TI} {n m:Int} {bx:List ar} {c:Prop} {v:AV} {b:Option (List ar)} (h:FG te n m bx=some ⟨c,v,b⟩):b≠none:=by
 unfold FG at h
 split at h
 ·cases hz:eC te with
  |false=>simp [hz] at h
  |true=>simp only [hz,cond_true,osI,R.mk.injEq] at h;obtain ⟨_,_,rfl⟩:=h;simp
 simp at h
theorem Pb (h:lz bx aF) {ev:Operand→AV} {op:Op} {c:Prop} {v:AV} (hx:mV T ev op bx=some ⟨c,v,none⟩):mV T ev op aF=some ⟨c,v,none⟩:=by
 unfold mV at hx ⊢
 split at hx
 ·exact hx
 ·exact hx
 ·split at hx
  ·exact absurd rfl (Jj hx)
  simp at hx
 ·split at hx
  ·exact hx
  ·exact hx
  ·split at hx
   ·simp only [CC] at hx
    split at hx
    ·split at hx
     ·generalize (Nat.beq _ _&&Nat.beq _ _)=q at hx
      cases q<;>simp at hx
     simp at hx
    simp at hx
   simp at hx
  ·split at hx
   ·simp only [D2] at hx
    split at hx
    ·split at hx
     ·rename_i te _ _ _ _ _ _ _ _ _ _ _ _ _ _ _
      cases hq:(Nat.beq _ _&&Nat.beq _ _&&eC _:Bool)<;>rw [hq] at hx<;>simp at hx
     simp at hx
    simp at hx
   simp at hx
  ·split at hx
   ·split at hx
    ·simp only [Li] at hx
     split at hx
     ·generalize (Nat.beq _ _&&Nat.beq _ _&&eC _&&_)=q at hx
      cases q<;>simp at hx
     simp at hx
    simp at hx
   ·generalize sameBox _ _=q at hx
    cases q with
    |true=>
     simp only [cond_true,rJ] at hx
     split at hx
     ·generalize (Nat.beq _ _&&Nat.beq _ _)=q at hx
      cases q<;>simp at hx
     simp at hx
    |false=>
     simp only [cond_false] at hx
     split at hx
     ·rename_i hap
      simp only [osI,R.mk.injEq] at hx
      obtain ⟨_,_,rfl⟩:=hx
      exact absurd rfl (uX hap)
     simp at hx
   simp at hx
  simp at hx
 simp at hx
theorem Sl (h:lz bx aF) {ev:Operand→AV} {op:Op} {c:Prop} {v:AV} (hx:lm T ev op bx=some ⟨c,v,none⟩):lm T ev op aF=some ⟨c,v,none⟩:=by
 unfold lm at hx ⊢
 split at hx
 ·exact hx
 ·exact hx
 ·split at hx
  ·split at hx<;>simp at hx
  simp at hx
 ·split at hx<;>simp at hx
 ·split at hx
  ·exact O8 h hx
  simp at hx
 ·split at hx
  ·exact absurd rfl (Gn hx)
  simp at hx
 ·exact hx
 ·exact Aq h hx
 ·exact hx
 ·exact hx
 ·exact hx
 ·exact hx
 ·exact hx
 ·exact hx
 ·exact hx
 ·exact O9 h hx
 ·split at hx
  ·exact MN h hx
  simp at hx
 ·exact hx
 ·exact hx
 ·exact hx
 ·exact hx
 ·exact Gp h hx
 exact hx
theorem Vj (h:lz bx aF) {ev:Operand→AV} {op:Op} {c:Prop} {v:AV} (hx:Fw T ev op bx=some ⟨c,v,none⟩):Fw T ev op aF=some ⟨c,v,none⟩:=by
 unfold Fw at hx ⊢
 cases hv:iG ev op with
 |true=>rw [hv,cond_true] at hx;rw [cond_true];exact Pb h hx
 |false=>rw [hv,cond_false] at hx;rw [cond_false];exact Sl h hx
theorem lY {ev rU:Operand→AV} {x:Option Operand} (h:∀y,x=some y→ev y=rU y):Ca ev x=Ca rU x:=by
 cases x with
 |none=>rfl
 |some y=>simp only [Ca,h y rfl]
theorem Jk {ev rU:Operand→AV} {op:Op} (h:∀x∈op.operands.toList,ev x=rU x):lm T ev op bx=lm T rU op bx:=by
 have pairs:∀ps:Array (Nat×Operand),(∀x∈(ps.toList.map (·.2)).toArray.toList,ev x=rU x)→(ps.toList.map fun p=>(p.1,ev p.2))=(ps.toList.map fun p=>(p.1,rU p.2)):=by
  intro ps hp
  refine List.map_congr_left fun p hm=>?_
  rw [hp p.2 (by simp only [List.mem_map];exact ⟨p,hm,rfl⟩)]
 cases op<;>simp only [Op.operands] at h
 case build t ps=>simp only [lm,pairs ps h]
 case buildSlice t n ps=>simp only [lm,pairs ps h]
 case makeFunc fn first captured=>
  cases fn<;>simp only [lm]
  rw [List.map_congr_left (l:=captured.toList) (f:=ev) (g:=rU) fun x hx=>h x (by simp;exact .inr (by simpa using hx)),List.map_congr_left (l:=first.toList) (f:=ev) (g:=rU) fun x hx=>h x (by simp;exact .inl (by simpa using hx))]
 case slice t x lo hi mx=>
  simp only [lm,h x (by simp),lY (x:=lo) (fun y hy=>h y (by simp [hy])),lY (x:=hi) (fun y hy=>h y (by simp [hy])),lY (x:=mx) (fun y hy=>h y (by simp [hy]))]
 case call c=>
  obtain ⟨callee,args,ats⟩:=c
  cases callee<;>simp only [lm]
  rw [List.map_congr_left (f:=ev) (g:=rU) fun x hx=>h x (by simp [Call.operands];exact by simpa using hx)]
 all_goals (first|rfl|(simp only [lm];simp_all;done)|(simp_all [lm];done))
theorem ya {ev rU:Operand→AV} {op:Op} (h:∀x∈op.operands.toList,ev x=rU x):iG ev op=iG rU op∧mV T ev op bx=mV T rU op bx:=by
 cases op<;>simp only [Op.operands] at h
 case slice t x lo hi mx=>
  simp only [iG,mV,h x (by simp),lY (x:=lo) (fun y hy=>h y (by simp [hy])),lY (x:=hi) (fun y hy=>h y (by simp [hy])),lY (x:=mx) (fun y hy=>h y (by simp [hy])),and_self]
 case indexAddr t x i=>simp only [iG,mV,h x (by simp),h i (by simp),and_self]
 case makeSlice t x i=>simp only [iG,mV,h x (by simp),h i (by simp),and_self]
 case call c=>
  obtain ⟨callee,args,ats⟩:=c
  cases callee
  case builtin b=>
   have hm:args.toList.map ev=args.toList.map rU:=List.map_congr_left (f:=ev) (g:=rU) fun x hx=>h x (by simp [Call.operands];exact by simpa using hx)
   have hs:∀x∈args.toList,ev x=rU x:=fun x hx=>h x (by simp [Call.operands];exact by simpa using hx)
   refine ⟨?_,by simp only [mV,hm]⟩
   simp only [iG]
   generalize args.toList=l at hs
   split<;>first|rfl|(rw [hs _ (by simp)])
  all_goals exact ⟨rfl,rfl⟩
 all_goals exact ⟨rfl,rfl⟩
theorem MO {ev rU:Operand→AV} {op:Op} (h:∀x∈op.operands.toList,ev x=rU x):Fw T ev op bx=Fw T rU op bx:=by
 unfold Fw
 rw [(ya (T:=T) (bx:=bx) h).1,(ya (T:=T) (bx:=bx) h).2,Jk h]
end
end Dem
end
section
open Go
namespace Dem
section
variable {P:Program} {T:Nat→Option TI} {G:Nat→Option (List D)} {N:Nat} {ds:List Deferred} {β:Nat→Nat} {bx aF:List ar} {w:World} {X:Nat→Prop} {s:St} {a:Act}
def Pc (ev:Operand→AV) (xs:List Operand):Prop:=∀x∈xs,(ev x).ok
theorem mX.le {FC:Nat→List AV→List ar→ff→List ar→Prop} {f:Nat} {args:List AV} {v:AV} (h:mX FC f args bx v) (hb:lz bx aF):mX FC f args aF v:=by
 obtain ⟨args',jv,k1,k2,k3,k4,k5⟩:=h
 refine ⟨args',jv,Em hb k1,k2,k3,?_,k5⟩
 intro i b hi c8
 obtain ⟨b',h1,h2,h3⟩:=k4 i b hi c8
 exact ⟨b',hb i b' h1 h2,h2,h3⟩
theorem Jl {ev rU:Operand→AV} {op:Op} (h:∀x∈op.operands.toList,ev x=rU x):Cg T ev op=Cg T rU op:=by
 unfold Cg
 split
 ·rename_i b args ats
  split
  ·rename_i x y t u ha Vc
   have mx:x∈args.toList:=by rw [ha];simp
   have my:y∈args.toList:=by rw [ha];simp
   rw [h x (by simp [Op.operands,Call.operands];exact by simpa using mx),h y (by simp [Op.operands,Call.operands];exact by simpa using my)]
  rfl
 rfl
inductive YG (FC:Nat→List AV→List ar→ff→List ar→Prop) (T:Nat→Option TI) (g:Bool) (ev:Operand→AV) (bx:List ar):Op→AV→Prop
 |pick (c a b:Operand) (p:Bool) (hc:(ev c).aM=.d (.bool p)) (hg:g=true→(ev c).ok∧(p=true→(ev a).ok)∧(p=false→(ev b).ok)):YG FC T g ev bx (.pick c a b) (zD p (ev a).aM (ev b).aM)
 |call (f:Operand) (args:Array Operand) (ats:Array TypeId) (i:Nat) (as:List AV) (v:AV) (hf:mg (ev f).aM (args.toList.map fun x=>(ev x).aM)=some (i,as))
  (hg:g=true→((ev f).ok∧Pc ev args.toList)∧mX FC i as bx v):
  YG FC T g ev bx (.call {callee:=.value f,args:=args,argTypes:=ats}) v
 |inv (f:Operand) (nm:String) (args:Array Operand) (ats:Array TypeId) (i:Nat) (as:List AV) (v:AV) (hf:CD T (ev f).aM nm (args.toList.map fun x=>(ev x).aM)=some (i,as))
  (hg:g=true→((ev f).ok∧Pc ev args.toList)∧mX FC i as bx v):
  YG FC T g ev bx (.call {callee:=.invoke f nm,args:=args,argTypes:=ats}) v
 |idx (t:Nat) (x i:Operand) (c:Prop) (ds ds':List D) (hi:zG T t (ev x).aM (ev i).aM=some (c,ds)) (hg:g=true→(Pc ev [x,i]∧c)∧ds=ds'):YG FC T g ev bx (.indexAddr t x i) (.ep ds')
 |no (op:Op) (v:AV) (hg:g=false):YG FC T g ev bx op v
 |app (op:Op) (c:Prop) (es:List (List D)) (hr:Cg T (fun x=>(ev x).aM) op=some (c,es)) (hg:g=true→Pc ev op.operands.toList∧c):YG FC T g ev bx op (.d (.sl es))
 |op (op:Op) (c:Prop) (v:AV) (hr:Fw T (fun x=>(ev x).aM) op bx=some ⟨c,v,none⟩) (hg:g=true→Pc ev op.operands.toList∧c):YG FC T g ev bx op v
variable {FC:Nat→List AV→List ar→ff→List ar→Prop}
theorem uY {g:Bool} {o:Oper} {K:AV→Prop} (h:stepG FC T G g o s K):∃v,YG FC T g (bU G s.sl) s.bx o.op v∧K v:=by
 rcases h with ⟨hg,v,hK⟩|h|⟨c,es,hr,hg,hK⟩
 ·exact ⟨v,.no _ v hg,hK⟩
 rotate_left
 ·exact ⟨_,.app _ c es hr (fun h=>⟨fun x hx=>cZ (hg h).1 x hx,(hg h).2⟩),hK⟩
 unfold wm at h
 split at h
 ·rename_i c x y ho
  split at h
  ·rename_i p hc
   rw [ho]
   exact ⟨_,.pick c x y p hc h.1,h.2⟩
  exact h.elim
 ·rename_i f args ats ho
  split at h
  ·rename_i i as Gi
   obtain ⟨v,hg,hK⟩:=h
   rw [ho]
   exact ⟨v,.call f args ats i as v Gi (fun hg'=>⟨⟨(hg hg').1.1,fun x hx=>cZ (hg hg').1.2 x hx⟩,(hg hg').2⟩),hK⟩
  exact h.elim
 ·rename_i f nm args ats ho
  split at h
  ·rename_i i as Gi
   obtain ⟨v,hg,hK⟩:=h
   rw [ho]
   exact ⟨v,.inv f nm args ats i as v Gi (fun hg'=>⟨⟨(hg hg').1.1,fun x hx=>cZ (hg hg').1.2 x hx⟩,(hg hg').2⟩),hK⟩
  exact h.elim
 split at h
 ·rename_i c ds hi
  obtain ⟨ds',hg,hK⟩:=h
  split at hi
  ·rename_i t x i ho
   rw [ho] at hg ⊢
   exact ⟨_,.idx t x i c ds ds' hi (fun hg'=>⟨⟨fun y hy=>cZ (hg hg').1.1 y (by simpa [Op.operands] using hy),(hg hg').1.2⟩,(hg hg').2⟩),hK⟩
  simp at hi
 split at h
 ·rename_i c v hr
  exact ⟨v,.op _ c v hr (fun hg=>⟨fun x hx=>cZ (h.1 hg).1 x hx,(h.1 hg).2⟩),h.2⟩
 exact h.elim
theorem YG.Gq {g:Bool} {ev rU:Operand→AV} {op:Op} {v:AV} (h:YG FC T g ev bx op v) (ij:∀x∈op.operands.toList,ev x=rU x) (hb:lz bx aF):YG FC T g rU aF op v:=by
 cases h with
 |pick c x y p hc hg=>
  have e1:=ij c (by simp [Op.operands]);have e2:=ij x (by simp [Op.operands]);have e3:=ij y (by simp [Op.operands])
  rw [e1] at hc hg;rw [e2] at hg ⊢;rw [e3] at hg ⊢
  exact .pick c x y p hc hg
 |call f args ats i as v hf hg=>
  have e1:=ij f (by simp [Op.operands,Call.operands])
  have e2:∀x∈args.toList,ev x=rU x:=fun x hx=>ij x (by simp [Op.operands,Call.operands];exact .inr (by simpa using hx))
  rw [e1,List.map_congr_left (g:=fun x=>(rU x).aM) fun x hx=>by rw [e2 x hx]] at hf
  refine .call f args ats i as v hf (fun hg'=>?_)
  obtain ⟨⟨k1,k2⟩,k3⟩:=hg hg'
  exact ⟨⟨e1▸k1,fun x hx=>e2 x hx▸k2 x hx⟩,k3.le hb⟩
 |inv f nm args ats i as v hf hg=>
  have e1:=ij f (by simp [Op.operands,Call.operands])
  have e2:∀x∈args.toList,ev x=rU x:=fun x hx=>ij x (by simp [Op.operands,Call.operands];exact .inr (by simpa using hx))
  rw [e1,List.map_congr_left (g:=fun x=>(rU x).aM) fun x hx=>by rw [e2 x hx]] at hf
  refine .inv f nm args ats i as v hf (fun hg'=>?_)
  obtain ⟨⟨k1,k2⟩,k3⟩:=hg hg'
  exact ⟨⟨e1▸k1,fun x hx=>e2 x hx▸k2 x hx⟩,k3.le hb⟩
 |idx t x i c ds ds' hi hg=>
  have e1:=ij x (by simp [Op.operands]);have e2:=ij i (by simp [Op.operands])
  rw [e1,e2] at hi
  refine .idx t x i c ds ds' hi (fun hg'=>⟨⟨fun y hy=>?_,(hg hg').1.2⟩,(hg hg').2⟩)
  have:=(hg hg').1.1 y hy
  rw [ij y (by simpa [Op.operands] using hy)] at this
  exact this
 |no _ v hg=>exact .no _ v hg
 |app _ c es hr hg=>
  refine .app _ c es ?_ (fun hg'=>⟨fun x hx=>ij x hx▸(hg hg').1 x hx,(hg hg').2⟩)
  rw [←Jl (ev:=fun x=>(ev x).aM) (rU:=fun x=>(rU x).aM) (fun x hx=>by rw [ij x hx])]
  exact hr
 |op _ c v hr hg=>
  refine .op _ c v ?_ (fun hg'=>⟨fun x hx=>ij x hx▸(hg hg').1 x hx,(hg hg').2⟩)
  rw [←MO (ev:=fun x=>(ev x).aM) (rU:=fun x=>(rU x).aM) (fun x hx=>by rw [ij x hx])]
  exact Vj hb hr
theorem Gr (hT:iz P T) (hF:Fr G N ds β w X s a) {o:Oper} {v:AV} {next:Act→World→Prop} {Qc:Exit→Act→World→Prop}
 (h:YG (aZ P G) T true (bU G s.sl) s.bx o.op v) (hn:Ad G β s.bx w X a o.dst (fun v' bx=>v'=v∧bx=s.bx) next):o.wp P a w next Qc:=by
 have ij:∀x,(bU G s.sl x).ok→ah β s.bx w (aY β s.bx w X) (bU G s.sl x).aM (a.eval x):=fun x hx=>ix (hF.eval x) hx
 unfold Oper.wp
 generalize ho:o.op=op at h
 cases h with
 |pick c x y p hc hg=>
  obtain ⟨h1,h2,h3⟩:=hg rfl
  have wg:=ij c h1
  rw [hc] at wg;simp only [ah,aH] at wg
  refine cG (v:=_) (aF:=s.bx) (c5.pure (u:=if p then a.eval x else a.eval y) hF.cx ?_ (Af (fun hp=>ij x (h2 hp)) (fun hp=>ij y (h3 hp)))) ⟨rfl,rfl⟩ hn
  simp [execOp,ho,wg,asBool]
 |call f args ats i as v Gi hg=>
  obtain ⟨⟨h1,h2⟩,hq⟩:=hg rfl
  obtain ⟨fs,cs,e1,e2⟩:=mD Gi (ij f h1) (gZ args.toList (fun y hy=>ij y (h2 y hy)))
  rw [kF ho e1]
  refine gr (lq (K:=fun v' bx=>v'=v∧bx=s.bx) hF.cx e2 hq ⟨rfl,rfl⟩) ?_ ?_ ?_
  ·rintro v w' ⟨β',aF,v',u,e,ex,cx,hv,hK⟩
   cases e
   exact hn β' aF w' v' v ex cx hv hK
  ·rintro ch w' ⟨_,_,_,_,e,_⟩;cases e
  rintro w' ⟨_,_,_,_,e,_⟩;cases e
 |inv f nm args ats i as v Gi hg=>
  obtain ⟨⟨h1,h2⟩,hq⟩:=hg rfl
  obtain ⟨t,ti,u,k1,k2,k3,e2⟩:=CR hT Gi (ij f h1) (gZ args.toList (fun y hy=>ij y (h2 y hy)))
  rw [xY hT ho k1 k2 k3]
  refine gr (lq (K:=fun v' bx=>v'=v∧bx=s.bx) hF.cx e2 hq ⟨rfl,rfl⟩) ?_ ?_ ?_
  ·rintro v w' ⟨β',aF,v',u,e,ex,cx,hv,hK⟩
   cases e
   exact hn β' aF w' v' v ex cx hv hK
  ·rintro ch w' ⟨_,_,_,_,e,_⟩;cases e
  rintro w' ⟨_,_,_,_,e,_⟩;cases e
 |idx t x i c ds ds' hi hg=>
  obtain ⟨⟨hk,hc⟩,rfl⟩:=hg rfl
  obtain ⟨r,k1,k2⟩:=Ae (P:=P) (w:=w) hT hF.cx hi hc (ij x (hk x (by simp))) (ij i (hk i (by simp)))
  refine cG (v:=_) (aF:=s.bx) (c5.pure hF.cx ?_ k2) ⟨rfl,rfl⟩ hn
  simp only [execOp,ho]
  exact bJ _ k1
 |no _ v hg=>cases hg
 |app _ c es hr hg=>
  obtain ⟨h1,hc⟩:=hg rfl
  subst ho
  exact cG (CQ (P:=P) hT hF.cx (ρ:=a.eval) (fun x hx=>ij x (h1 x hx)) hr hc) ⟨rfl,rfl⟩ hn
 |op _ c v hr hg=>
  obtain ⟨h1,hc⟩:=hg rfl
  subst ho
  exact cG (zZ (P:=P) hT hF.cx (ρ:=a.eval) (fun x hx=>ij x (h1 x hx)) hr hc) ⟨rfl,rfl⟩ hn
theorem Gs {k:Nat} (h:bx[k]?=some .bt) (B:ar) {i:Nat} (hi:bT bx i):i≠k∧bT (bx.set k B) i:=by
 obtain ⟨b,h1,h2⟩:=hi
 have hne:i≠k:=by rintro rfl;rw [h] at h1;simp at h1;subst h1;simp [ar.born] at h2
 exact ⟨hne,b,by rw [List.getElem?_set_ne (Ne.symm hne)];exact h1,h2⟩
theorem qB {k:Nat} (h:bx[k]?=some .bt) (o:Obj) (B:ar):Ext β bx w (kY β k w.heap.size) (bx.set k B) {w with heap:=w.heap.push o}:=by
 refine ⟨rfl,rfl,rfl,by simp,fun j hj _=>iJ w o j hj,fun j c e f hj=>⟨c,by rw [iJ w o j (eG hj)];exact hj,rfl⟩,?_,?_⟩
 ·intro i hi
  obtain ⟨h1,h2⟩:=Gs h B hi
  exact ⟨cP _ _ h1,h2⟩
 intro i b hb hl
 rcases aI hb with ⟨rfl,_,_⟩|⟨hne,hb'⟩
 ·exact .inl (by rw [bf];exact Nat.le_refl _)
 exact .inr ⟨i,b,hb',hl,(cP _ _ hne).symm⟩
theorem Gt (cx:cr G β bx w X) {k:Nat} (h:bx[k]?=some .bt) (o:Obj) (B:ar)
 (hB:dw (kY β k w.heap.size) (bx.set k B) {w with heap:=w.heap.push o} (aY (kY β k w.heap.size) (bx.set k B) {w with heap:=w.heap.push o} X) B w.heap.size):
 cr G (kY β k w.heap.size) (bx.set k B) {w with heap:=w.heap.push o} X:=by
 refine cx.step (qB h o B) ?_ ?_
 ·intro i b hb
  rcases aI hb with ⟨rfl,rfl,_⟩|⟨hne,hb'⟩
  ·exact .inr (by rw [bf];exact hB)
  exact .inl ⟨hb',fun hl=>iJ w o _ ((cx.box i b hb').eH hl)⟩
 intro i j bi bj h1 h2 l1 l2 he
 rcases aI h1 with ⟨rfl,rfl,_⟩|⟨hi,h3⟩<;>rcases aI h2 with ⟨rfl,rfl,_⟩|⟨hj,h4⟩
 ·rfl
 ·rw [bf,cP _ _ hj] at he
  have:=(cx.box j bj h4).eH l2;omega
 ·rw [bf,cP _ _ hi] at he
  have:=(cx.box i bi h3).eH l1;omega
 rw [cP _ _ hi,cP _ _ hj] at he
 exact cx.inj i j bi bj h3 h4 l1 l2 he
theorem yb (cx:cr G β bx w X) {k:Nat} (hk:bx[k]?=some .bt) (t:Nat) {x:AV} {u:Value} {cs:List AV} (hx:x.cells?=some cs) (h:ah β bx w (aY β bx w X) x u):
 ∃β' w',(newVar t u).run P w=.ok ⟨β' k,0,none⟩ w'∧Ext β bx w β' (bx.set k (.var cs)) w'∧cr G β' (bx.set k (.var cs)) w' X:=by
 obtain ⟨vs,h1,h2,h3⟩:=nU hx h
 refine ⟨kY β k w.heap.size,{w with heap:=w.heap.push (.cells ⟨vs⟩ t)},?_,qB hk _ _,Gt cx hk _ _ ?_⟩
 ·simp [newVar,newRow,newObj,Sem.run,h1,bf]
 refine ⟨⟨vs⟩,t,iK _ _,?_⟩
 exact aj.mono ((qB (β:=β) (bx:=bx) (w:=w) hk (.cells ⟨vs⟩ t) (.var cs)).dN X) _ _ h2
theorem En {sl qc:List (Nat×AV)} {o:Oper} (h:∀x∈o.op.operands.toList,bU G sl x=bU G qc x):gY T G sl o=gY T G qc o:=by
 obtain ⟨dst,op,type,pos,after,guard⟩:=o
 unfold gY
 cases guard with
 |some g=>rfl
 |none=>
  cases op<;>simp only []
  rename_i t x
  rw [h x (by simp [Op.operands])]
theorem Gu (hT:iz P T) (hF:Fr G N ds β w X s a) {o:Oper} {cs:List AV} (hb:gY T G s.sl o=some cs) {k:Nat} (hk:s.bx[k]?=some .bt) {next:Act→World→Prop} {Qc:Exit→Act→World→Prop}
 (hn:Ad G β s.bx w X a o.dst (fun v bx=>v=.ptr k 0∧bx=s.bx.set k (.var cs)) next):o.wp P a w next Qc:=by
 obtain ⟨dst,op,type,pos,after,guard⟩:=o
 have hlt:k<s.bx.length:=iM hk
 have c8:bT (s.bx.set k (.var cs)) k:=⟨.var cs,iN hk,rfl⟩
 unfold gY at hb
 unfold Oper.wp
 cases guard with
 |some g=>simp at hb
 |none=>
  simp only at hb
  split at hb
  ·rename_i t
   cases ht:T t with
   |none=>simp [ht] at hb
   |some ti=>
   simp only [ht] at hb
   obtain ⟨i,d,h1,h2,h3,h4,h5,h6⟩:=aG (hT.ti _ _ ht)
   cases zi:i.zero with
   |none=>rw [h6,zi] at hb;simp [AV.cells?] at hb
   |some z=>
   rw [h6,zi] at hb
   obtain ⟨β',w',k1,k2,k3⟩:=yb (P:=P) hF.cx hk t hb (uK z)
   have hr:(execOp a.eval {dst:=dst,op:=.alloc t,type:=type,pos:=pos,after:=after,guard:=none}).run P w=.ok (.value (.pointer (some ⟨β' k,0,none⟩))) w':=
    bJ _ (by simp [Instr.alloc,gq h1 zi,k1])
   rw [hr]
   exact hn β' _ w' (.ptr k 0) _ k2 k3 (by simp only [ah];exact ⟨trv,c8⟩) ⟨rfl,rfl⟩
  ·rename_i t x
   obtain ⟨β',w',k1,k2,k3⟩:=yb (P:=P) hF.cx hk t hb (hF.eval x)
   have hr:(execOp a.eval {dst:=dst,op:=.box t x,type:=type,pos:=pos,after:=after,guard:=none}).run P w=.ok (.value (.pointer (some ⟨β' k,0,none⟩))) w':=
    bJ _ (by simp [Instr.box,k1])
   rw [hr]
   exact hn β' _ w' (.ptr k 0) _ k2 k3 (by simp only [ah];exact ⟨trv,c8⟩) ⟨rfl,rfl⟩
  simp at hb
theorem Jm {β':Nat→Nat} {w':World} {sz n k:Nat} {es:List (List D)} {sP:List ar} {u:Value} (cx:cr G β bx w X) (hk:bx[k]?=some .bt) (ex:Ext β [] w β' [.row sz es] w') (nD:cr G β' [.row sz es] w' (qw β sP X))
 (hv:(∀r∈es,∀x∈r,x.flat=true)∨sP=bx) (hr:ah β' [.row sz es] w' (aY β' [.row sz es] w' (qw β sP X)) (.ow 0 sz n) u):
 Ext β bx w (kY β k (β' 0)) (bx.set k (.row sz es)) w'∧cr G (kY β k (β' 0)) (bx.set k (.row sz es)) w' X∧
  ah (kY β k (β' 0)) (bx.set k (.row sz es)) w' (aY (kY β k (β' 0)) (bx.set k (.row sz es)) w' X) (.ow k sz n) u:=by
 have e0:=uU (bx:=bx) ex
 have hlk:k<bx.length:=iM hk
 have hnew:ar.live (.row sz es)=true→w.heap.size≤β' 0:=by
  intro hl
  rcases ex.live 0 (.row sz es) rfl hl with h|⟨j,b',h1,_⟩
  ·exact h
  simp at h1
 have e1:Ext β bx w (kY β k (β' 0)) (bx.set k (.row sz es)) w':=by
  refine ⟨e0.os,e0.tape,e0.output,e0.size,e0.block,e0.shape,?_,?_⟩
  ·intro i hi
   obtain ⟨h1,h2⟩:=Gs hk (.row sz es) hi
   exact ⟨cP _ _ h1,h2⟩
  intro i b h hl
  rcases aI h with ⟨rfl,rfl,_⟩|⟨hne,h1⟩
  ·exact .inl (by rw [bf];exact hnew hl)
  exact .inr ⟨i,b,h1,hl,(cP _ _ hne).symm⟩
 have hlt:∀i b,bx[i]?=some b→b.live=true→β i<w.heap.size:=fun i b h hl=>dw.eH (cx.box i b h) hl
 have hok:sP=bx→∀az,aY β' [.row sz es] w' (qw β sP X) az→aY (kY β k (β' 0)) (bx.set k (.row sz es)) w' X az:=by
  rintro rfl az ⟨k1,k2,k3⟩
  refine ⟨k1,fun hX=>k2 (.inl hX),?_⟩
  intro i b h hl
  rcases aI h with ⟨rfl,rfl,_⟩|⟨hne,h1⟩
  ·rw [bf];exact k3 0 _ rfl hl
  rw [cP _ _ hne];exact fun he=>k2 (.inr ⟨i,b,h1,hl,he⟩)
 refine ⟨e1,cx.step e1 ?_ ?_,?_⟩
 ·intro i b h
  rcases aI h with ⟨rfl,rfl,_⟩|⟨hne,h1⟩
  ·refine .inr ?_
   have:=nD.box 0 _ rfl
   rw [bf]
   simp only [dw] at this ⊢
   refine this.imp id ?_
   rintro ⟨c,e,h1,h2⟩
   refine ⟨c,e,h1,?_⟩
   rcases hv with hfl|hb
   ·exact oO _ _ hfl h2
   exact an.mono (fun az hb'=>⟨hok hb az hb',rfl⟩) _ _ (fun _=>rfl) _ _ h2
  exact .inl ⟨h1,fun hl=>ex.block _ (hlt i b h1 hl) (by simp)⟩
 ·intro i j bi bj hi hj nN pZ he
  rcases aI hi with ⟨rfl,rfl,_⟩|⟨hni,h1⟩<;>rcases aI hj with ⟨rfl,rfl,_⟩|⟨hnj,h2⟩
  ·rfl
  ·rw [bf,cP _ _ hnj] at he
   have:=hlt j bj h2 pZ;have:=hnew nN;omega
  ·rw [bf,cP _ _ hni] at he
   have:=hlt i bi h1 nN;have:=hnew pZ;omega
  rw [cP _ _ hni,cP _ _ hnj] at he
  exact cx.inj i j bi bj h1 h2 nN pZ he
 simp only [ah] at hr ⊢
 obtain ⟨_,h2⟩:=hr
 refine ⟨⟨_,iN hk,rfl⟩,?_⟩
 rw [bf];exact h2
theorem Ar (hT:iz P T) (hF:Fr G N ds β w X s a) {o:Oper} {k:Nat} {v0:AV} {B0:ar} (h:mh (aZ P G) G o s.sl s.bx k (fun v B=>v=v0∧B=B0)) {next:Act→World→Prop} {Qc:Exit→Act→World→Prop}
 (hn:Ad G β s.bx w X a o.dst (fun v bx=>v=v0∧bx=s.bx.set k B0) next):o.wp P a w next Qc:=by
 obtain ⟨f,args,ats,i,as,args',sz,n,es,ho,Gi,⟨h1,h2⟩,h3,h4,h5,h6,hk,rfl,rfl⟩:=h
 have ij:∀x,(bU G s.sl x).ok→ah β s.bx w (aY β s.bx w X) (bU G s.sl x).aM (a.eval x):=fun x hx=>ix (hF.eval x) hx
 obtain ⟨fs,cs,e1,e2⟩:=mD Gi (ij f h1) (gZ args.toList (fun y hy=>ij y (cZ h2 y hy)))
 unfold Oper.wp
 rw [kF ho e1]
 obtain ⟨x1,c1,r1⟩:=lX as s.bx _ _ hF.cx h3 e2
 have cn:=Gc c1
 have hnn:aj β [] w (aY β [] w (qw β (eL s.bx as) X)) _ _:=lV (fun az hb=>Gd az hb) _ _ h4 r1
 refine gr (h5 β w _ _ cn hnn) ?_ ?_ ?_
 ·rintro u w' ⟨β',ex,nD,hr⟩
  simp only [fq] at hr
  obtain ⟨y1,y2,y3⟩:=Jm hF.cx hk ex nD (by
   rcases h6 with hfl|Ge
   ·exact .inl hfl
   refine .inr ?_
   rw [jK s.bx Ge]) hr
  exact hn _ _ w' _ u y1 y2 y3 ⟨rfl,rfl⟩
 ·rintro ch w' ⟨_,_,_,hr⟩;exact hr.elim
 rintro w' ⟨_,_,_,hr⟩;exact hr.elim
end
end Dem
end
section
open Go
namespace Dem
structure It where
 dst:Option Nat
 v:AV
 bi:Option (Nat×ar)
def dc (m:Nat→Bool):Nat→List It→List (Nat×AV)→List (Nat×AV)
 |_,[],sl=>sl
 |i,t::r,sl=>dc m (i+1) r (bif m i then dQ t.dst t.v sl else sl)
def qD (t:It) (bx:List ar):List ar:=
 match t.bi with
 |some (k,B)=>bx.set k B
 |none=>bx
def eU (m:Nat→Bool):Nat→List It→List ar→List ar
 |_,[],bx=>bx
 |i,t::r,bx=>eU m (i+1) r (bif m i then qD t bx else bx)
theorem nZ (t:Nat) (dst:Option Nat) (v:AV) (sl:List (Nat×AV)):fP t (dQ dst v sl)=if dst=some t then v else fP t sl:=by
 cases dst with
 |none=>simp [dQ]
 |some d=>
  simp only [dQ,rS,osI]
  by_cases h:t=d
  ·subst h;simp
  have:d≠t:=fun e=>h e.symm
  simp [h,this]
theorem qE {t:Nat} {m m':Nat→Bool}:∀(cB:List It) (i:Nat) (sl qc:List (Nat×AV)),fP t sl=fP t qc→
 (∀j it,cB[j]?=some it→it.dst=some t→m (i+j)=m' (i+j))→fP t (dc m i cB sl)=fP t (dc m' i cB qc)
 |[],_,_,_,h,_=>h
 |it::r,i,sl,qc,h,hm=>by
  simp only [dc]
  refine qE r (i+1) _ _ ?_ (fun j it' hj hd=>by have:=hm (j+1) it' (by simpa using hj) hd;simpa [Nat.add_assoc,Nat.add_comm 1 j] using this)
  by_cases hd:it.dst=some t
  ·have:=hm 0 it rfl hd
   rw [Nat.add_zero] at this
   rw [this]
   cases m' i<;>simp [nZ,hd,h]
  cases m i<;>cases m' i<;>simp [nZ,hd,h]
theorem As {t:Nat} {m:Nat→Bool}:∀(cB:List It) (i:Nat) (sl:List (Nat×AV)),(∀j it,cB[j]?=some it→it.dst=some t→m (i+j)=false)→fP t (dc m i cB sl)=fP t sl
 |[],_,_,_=>rfl
 |it::r,i,sl,hm=>by
  simp only [dc]
  rw [As r (i+1) _ (fun j it' hj hd=>by have:=hm (j+1) it' (by simpa using hj) hd;simpa [Nat.add_assoc,Nat.add_comm 1 j] using this)]
  by_cases hd:it.dst=some t
  ·have:=hm 0 it rfl hd
   rw [Nat.add_zero] at this
   simp [this]
  cases m i<;>simp [nZ,hd]
theorem kI {m m':Nat→Bool}:∀(cB:List It) (i:Nat) (sl:List (Nat×AV)),(∀j,j<cB.length→m (i+j)=m' (i+j))→dc m i cB sl=dc m' i cB sl
 |[],_,_,_=>rfl
 |it::r,i,sl,hm=>by
  simp only [dc]
  have h0:=hm 0 (by simp)
  rw [Nat.add_zero] at h0
  rw [h0]
  exact kI r (i+1) _ (fun j hj=>by have:=hm (j+1) (by simpa using hj);simpa [Nat.add_assoc,Nat.add_comm 1 j] using this)
theorem m6 {m m':Nat→Bool}:∀(cB:List It) (i:Nat) (bx:List ar),(∀j,j<cB.length→m (i+j)=m' (i+j))→eU m i cB bx=eU m' i cB bx
 |[],_,_,_=>rfl
 |it::r,i,bx,hm=>by
  simp only [eU]
  have h0:=hm 0 (by simp)
  rw [Nat.add_zero] at h0
  rw [h0]
  exact m6 r (i+1) _ (fun j hj=>by have:=hm (j+1) (by simpa using hj);simpa [Nat.add_assoc,Nat.add_comm 1 j] using this)
theorem At:∀(cB:List It) (i j:Nat) (sl:List (Nat×AV)),dc (fun _=>true) i (cB.take j) sl=dc (fun x=>decide (x<i+j)) i cB sl
 |[],i,j,sl=>by simp [dc]
 |it::r,i,0,sl=>by
  simp only [List.take_zero,dc,Nat.add_zero,Nat.lt_irrefl,decide_false,cond_false]
  have:∀(r:List It) (k:Nat),i≤k→dc (fun x=>decide (x<i)) k r sl=sl:=by
   intro r
   induction r with
   |nil=>intro k _;rfl
   |cons t r ih=>
    intro k hk
    simp only [dc,show ¬k<i by omega,decide_false,cond_false]
    exact ih (k+1) (by omega)
  exact (this r (i+1) (by omega)).symm
 |it::r,i,j+1,sl=>by
  simp only [List.take_succ_cons,dc,cond_true,show i<i+(j+1) by omega,decide_true]
  rw [At r (i+1) j]
  exact kI r (i+1) _ (fun k _=>by simp only [show i+1+j=i+(j+1) by omega])
theorem Au {t:Nat} {m m':Nat→Bool}:∀(cB:List It) (i j0:Nat) (LD:It) (sl:List (Nat×AV)),cB[j0]?=some LD→m (i+j0)=false→m' (i+j0)=true→(∀x,x≠i+j0→m' x=m x)→
 (∀j it,cB[j]?=some it→j0<j→m (i+j)=true→∀d,LD.dst=some d→it.dst≠some d)→fP t (dc m' i cB sl)=fP t (dQ LD.dst LD.v (dc m i cB sl))
 |[],_,_,_,_,h,_,_,_,_=>by simp at h
 |it::r,i,0,LD,sl,h,h1,h2,h3,h4=>by
  simp at h;subst h
  simp only [Nat.add_zero] at h1 h2
  simp only [dc,h1,h2,cond_true,cond_false]
  rw [kI (m:=m') (m':=m) r (i+1) _ (fun j _=>h3 _ (by omega)),nZ]
  by_cases hd:it.dst=some t
  ·rw [if_pos hd,As r (i+1) _ (fun j it' hj Vh=>?_),nZ,if_pos hd]
   cases hq:m (i+1+j) with
   |false=>rfl
   |true=>exact absurd Vh (h4 (j+1) it' (by simpa using hj) (by omega) (by rw [show i+(j+1)=i+1+j by omega];exact hq) t hd)
  rw [if_neg hd]
  exact qE r (i+1) _ _ (by rw [nZ,if_neg hd]) (fun _ _ _ _=>rfl)
 |it::r,i,j0+1,LD,sl,h,h1,h2,h3,h4=>by
  simp only [dc]
  rw [h3 i (by omega)]
  exact Au r (i+1) j0 LD _ (by simpa using h) (by rw [show i+1+j0=i+(j0+1) by omega];exact h1) (by rw [show i+1+j0=i+(j0+1) by omega];exact h2)
   (fun x hx=>h3 x (by omega)) (fun j it' hj hlt hm=>h4 (j+1) it' (by simpa using hj) (by omega) (by rw [show i+(j+1)=i+1+j by omega];exact hm))
def kJ:Nat→List It→Prop
 |_,[]=>True
 |k,t::r=>match t.bi with
  |some (x,_)=>x=k∧kJ (k+1) r
  |none=>kJ k r
theorem kJ.ge:∀{cB:List It} {k:Nat},kJ k cB→∀{j:Nat} {it:It} {x:Nat} {cs:ar},cB[j]?=some it→it.bi=some (x,cs)→k≤x
 |[],_,_,_,_,_,_,h,_=>by simp at h
 |t::r,k,hk,0,it,x,cs,h,hb=>by
  simp at h;subst h
  simp only [kJ,hb] at hk
  omega
 |t::r,k,hk,j+1,it,x,cs,h,hb=>by
  simp only [kJ] at hk
  split at hk
  ·have:=hk.2.ge (j:=j) (by simpa using h) hb;omega
  exact kJ.ge hk (j:=j) (by simpa using h) hb
theorem kJ.apart:∀{cB:List It} {k:Nat},kJ k cB→∀{j j':Nat} {it it':It} {x x':Nat} {cs cs':ar},cB[j]?=some it→it.bi=some (x,cs)→cB[j']?=some it'→it'.bi=some (x',cs')→j≠j'→x≠x'
 |[],_,_,_,_,_,_,_,_,_,_,h,_,_,_,_=>by simp at h
 |t::r,k,hk,0,0,_,_,_,_,_,_,_,_,_,_,hne=>absurd rfl hne
 |t::r,k,hk,0,j'+1,it,it',x,x',cs,cs',h,hb,h',hb',_=>by
  simp at h;subst h
  simp only [kJ,hb] at hk
  have:=hk.2.ge (j:=j') (by simpa using h') hb';omega
 |t::r,k,hk,j+1,0,it,it',x,x',cs,cs',h,hb,h',hb',_=>by
  simp at h';subst h'
  simp only [kJ,hb'] at hk
  have:=hk.2.ge (j:=j) (by simpa using h) hb;omega
 |t::r,k,hk,j+1,j'+1,it,it',x,x',cs,cs',h,hb,h',hb',hne=>by
  have hk':∃k',kJ k' r:=by
   simp only [kJ] at hk
   split at hk
   ·exact ⟨_,hk.2⟩
   exact ⟨_,hk⟩
  obtain ⟨k',hk'⟩:=hk'
  exact kJ.apart hk' (j:=j) (j':=j') (by simpa using h) hb (by simpa using h') hb' (by omega)
theorem CY {m:Nat→Bool} {x:Nat}:∀(cB:List It) (i:Nat) (bx:List ar),(∀j it y cs,cB[j]?=some it→m (i+j)=true→it.bi=some (y,cs)→y≠x)→(eU m i cB bx)[x]?=bx[x]?
 |[],_,_,_=>rfl
 |t::r,i,bx,h=>by
  simp only [eU]
  rw [CY r (i+1) _ (fun j it y cs hj hm hb=>h (j+1) it y cs (by simpa using hj) (by rw [show i+(j+1)=i+1+j by omega];exact hm) hb)]
  cases hm:m i with
  |false=>rfl
  |true=>
   simp only [cond_true,qD]
   split
   ·rename_i k cs hb
    have:=h 0 t k cs rfl (by simpa using hm) hb
    rw [List.getElem?_set_ne this]
   rfl
theorem CZ {m:Nat→Bool} {x:Nat} {B:ar}:∀(cB:List It) (i:Nat) (bx:List ar),(∀j it y cs,cB[j]?=some it→m (i+j)=true→it.bi=some (y,cs)→y≠x)→eU m i cB (bx.set x B)=(eU m i cB bx).set x B
 |[],_,_,_=>rfl
 |t::r,i,bx,h=>by
  simp only [eU]
  rw [←CZ r (i+1) _ (fun j it y cs hj hm hb=>h (j+1) it y cs (by simpa using hj) (by rw [show i+(j+1)=i+1+j by omega];exact hm) hb)]
  congr 1
  cases hm:m i with
  |false=>rfl
  |true=>
   simp only [cond_true,qD]
   split
   ·rename_i k cs hb
    have:=h 0 t k cs rfl (by simpa using hm) hb
    rw [List.set_comm _ _ (Ne.symm this)]
   rfl
theorem Av {m m':Nat→Bool}:∀(cB:List It) (i j0:Nat) (LD:It) (bx:List ar),cB[j0]?=some LD→m (i+j0)=false→m' (i+j0)=true→(∀x,x≠i+j0→m' x=m x)→
 (∀j it y cs x cs0,cB[j]?=some it→j≠j0→it.bi=some (y,cs)→LD.bi=some (x,cs0)→y≠x)→eU m' i cB bx=qD LD (eU m i cB bx)
 |[],_,_,_,_,h,_,_,_,_=>by simp at h
 |t::r,i,0,LD,bx,h,h1,h2,h3,h4=>by
  simp at h;subst h
  simp only [Nat.add_zero] at h1 h2
  simp only [eU,h1,h2,cond_true,cond_false]
  rw [m6 (m:=m') (m':=m) r (i+1) _ (fun j _=>h3 _ (by omega))]
  unfold qD
  split
  ·rename_i k cs hb
   exact CZ r (i+1) bx (fun j it y cs' hj _ hb'=>h4 (j+1) it y cs' k cs (by simpa using hj) (by omega) hb' hb)
  rfl
 |t::r,i,j0+1,LD,bx,h,h1,h2,h3,h4=>by
  simp only [eU]
  rw [h3 i (by omega)]
  exact Av r (i+1) j0 LD _ (by simpa using h) (by rw [show i+1+j0=i+(j0+1) by omega];exact h1) (by rw [show i+1+j0=i+(j0+1) by omega];exact h2)
   (fun x hx=>h3 x (by omega)) (fun j it y cs x cs0 hj hne=>h4 (j+1) it y cs x cs0 (by simpa using hj) (by omega))
theorem Gv {m:Nat→Bool} {aB:List ar}:∀(cB:List It) (i:Nat) (bx:List ar),lz aB bx→(∀(j:Nat) (it:It) (y:Nat) (cs:ar),cB[j]?=some it→it.bi=some (y,cs)→aB[y]?=some .bt)→lz aB (eU m i cB bx)
 |[],_,_,h,_=>h
 |t::r,i,bx,h,hu=>by
  simp only [eU]
  refine Gv r (i+1) _ ?_ (fun j it y cs hj=>hu (j+1) it y cs (by simpa using hj))
  cases m i with
  |false=>exact h
  |true=>
   simp only [cond_true,qD]
   split
   ·rename_i k cs hb
    have h0:=hu 0 t k cs rfl hb
    intro x b hx c8
    by_cases hxk:k=x
    ·subst hxk;rw [h0] at hx;simp at hx;subst hx;simp [ar.born] at c8
    rw [List.getElem?_set_ne hxk];exact h x b hx c8
   exact h
end Dem
end
section
open Go
namespace Dem
theorem uZ:∀(l:List Oper) (acc:List Nat),(cE l acc).take acc.length=acc
 |[],acc=>by simp [cE]
 |o::r,acc=>by
  have h:=uZ r (acc++[rK acc o])
  simp only [cE]
  have:=congrArg (List.take acc.length) h
  simpa [List.take_take] using this
theorem yc:∀(l:List Oper) (acc:List Nat) (j:Nat) (o:Oper),l[j]?=some o→(cE l acc)[acc.length+j]?=some (rK ((cE l acc).take (acc.length+j)) o)
 |[],_,_,_,h=>by simp at h
 |p::r,acc,0,o,h=>by
  simp at h;subst h
  simp only [cE,Nat.add_zero]
  have h1:=uZ r (acc++[rK acc p])
  have h2:=congrArg (List.take acc.length) h1
  have h3:=congrArg (fun l=>l[acc.length]?) h1
  simp only [List.take_take,List.length_append,List.length_cons,List.length_nil,Nat.zero_add] at h2 h3
  rw [Nat.min_eq_left (by omega)] at h2
  rw [List.getElem?_take,if_pos (by omega)] at h3
  rw [h3,h2]
  simp
 |p::r,acc,j+1,o,h=>by
  have:=yc r (acc++[rK acc p]) j o (by simpa using h)
  simp only [List.length_append,List.length_cons,List.length_nil,Nat.zero_add] at this
  simp only [cE]
  rw [show acc.length+(j+1)=acc.length+1+j by omega]
  exact this
theorem yd {acc:List Nat} {i:Nat}:∀(es:List Edge) (s:Nat),(es.foldl (fun s e=>bif Region.binds .any e then s ||| 2^e.on ||| acc.getD e.on 0 else s) s).testBit i=true→
 s.testBit i=true∨∃e∈es,Region.binds .any e=true∧(e.on=i∨(acc.getD e.on 0).testBit i=true)
 |[],s,h=>.inl h
 |e::es,s,h=>by
  rw [List.foldl_cons] at h
  rcases yd es _ h with h1|⟨e',h1,h2⟩
  ·cases hb:Region.binds .any e with
   |false=>rw [hb] at h1;exact .inl h1
   |true=>
    rw [hb] at h1
    simp only [cond_true,Nat.testBit_or,Bool.or_eq_true] at h1
    rcases h1 with (h1|h1)|h1
    ·exact .inl h1
    ·refine .inr ⟨e,by simp,hb,.inl ?_⟩
     rw [Nat.testBit_two_pow] at h1
     simpa using h1
    exact .inr ⟨e,by simp,hb,.inr h1⟩
  exact .inr ⟨e',by simp [h1],h2⟩
section
variable {ops:Array Oper}
def Down (ops:Array Oper) (m:Nat→Bool):Prop:=∀x o,ops[x]?=some o→m x=true→∀e∈o.after,Region.binds .any e=true→m e.on=true
theorem closed {m:Nat→Bool} (hd:Down ops m):∀(j:Nat) (o:Oper),ops[j]?=some o→(∀e∈o.after,Region.binds .any e=true→m e.on=true)→∀i,((cE ops.toList []).getD j 0).testBit i=true→m i=true:=by
 intro j
 induction j using Nat.strongRecOn with
 |_ j ih=>
  intro o ho hp i hi
  have Aw:=yc ops.toList [] j o (by simpa using ho)
  simp only [List.length_nil,Nat.zero_add] at Aw
  rw [List.getD_eq_getElem?_getD,Aw] at hi
  simp only [Option.getD_some,rK] at hi
  rcases yd _ _ hi with h|⟨e,he,hb,h|h⟩
  ·simp at h
  ·subst h;exact hp e (by simpa using he) hb
  have hlt:e.on<j:=by
   rcases Nat.lt_or_ge e.on j with h'|h'
   ·exact h'
   rw [List.getD_eq_getElem?_getD,List.getElem?_take,if_neg (by omega)] at h
   simp at h
  have hh:((cE ops.toList []).getD e.on 0).testBit i=true:=by
   rw [List.getD_eq_getElem?_getD,List.getElem?_take,if_pos hlt] at h
   rw [List.getD_eq_getElem?_getD];exact h
  have hj:j<ops.size:=(Array.getElem?_eq_some_iff.1 ho).1
  have ho':ops[e.on]?=some ops[e.on]:=by simp [show e.on<ops.size by omega]
  exact ih e.on hlt _ ho' (hd _ _ ho' (hp e (by simpa using he) hb)) i hh
theorem qG {m:Nat} {o:Oper}:∀{n:Nat},gF.rL ops m o n=true→∀j,j<n→m.testBit j=true∨∃p,ops[j]?=some p∧p.apart ops o=true
 |0,_,j,hj=>by omega
 |n+1,h,j,hj=>by
  simp only [gF.rL,Bool.and_eq_true,Bool.or_eq_true] at h
  by_cases hjn:j=n
  ·subst hjn
   refine h.1.imp id (fun h1=>?_)
   split at h1
   ·rename_i p hp;exact ⟨p,hp,h1⟩
   simp at h1
  exact qG h.2 j (by omega)
theorem lA {b:List Nat}:∀{l:List Oper} {i:Nat},gF ops b i l=true→∀j o,l[j]?=some o→
 (∀e∈o.after,Region.binds .any e=true→e.on<i+j)∧∀k,k<i+j→(b.getD (i+j) 0).testBit k=true∨∃p,ops[k]?=some p∧p.apart ops o=true
 |[],_,_,j,o,ho=>by simp at ho
 |q::r,i,h,0,o,ho=>by
  simp at ho;subst ho
  simp only [gF,Bool.and_eq_true] at h
  refine ⟨fun e he hb=>?_,fun k hk=>qG h.1.2 k hk⟩
  have:=List.all_eq_true.1 h.1.1 e (by simpa using he)
  simpa [hb,Nat.blt_eq] using this
 |q::r,i,h,j+1,o,ho=>by
  simp only [gF,Bool.and_eq_true] at h
  have:=lA h.2 j o (by simpa using ho)
  rw [show i+(j+1)=i+1+j by omega]
  exact this
theorem Eo {b:List Nat} {q:Nat} (h:barrier b q=true):(∀i,i<q→(b.getD q 0).testBit i=true)∧∀i,q<i→i<b.length→(b.getD i 0).testBit q=true:=by
 simp only [barrier,Bool.and_eq_true] at h
 obtain ⟨h1,h2⟩:=h
 refine ⟨fun i hi=>?_,fun i hi hl=>?_⟩
 ·rw [Nat.eq_of_beq_eq_true h1]
  simpa using hi
 refine List.all_eq_true.1 h2 _ ?_
 rw [List.getD_eq_getElem?_getD,List.getElem?_eq_getElem hl,Option.getD_some]
 rw [List.mem_iff_getElem?]
 refine ⟨i-(q+1),?_⟩
 rw [List.getElem?_drop,show q+1+(i-(q+1))=i by omega,List.getElem?_eq_getElem hl]
theorem qH:∀(l:List Oper) (acc:List Nat),(cE l acc).length=acc.length+l.length
 |[],acc=>by simp [cE]
 |o::r,acc=>by simp only [cE];rw [qH r];simp;omega
end
end Dem
end
