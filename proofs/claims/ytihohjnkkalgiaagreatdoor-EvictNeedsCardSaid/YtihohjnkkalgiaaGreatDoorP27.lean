/- Parts of a proof, joined. -/
import Derived.Test.YtihohjnkkalgiaaGreatDoorP26
set_option linter.all false
set_option maxRecDepth 100000
set_option maxHeartbeats 4000000
open Go Dem Go.Proofs
namespace Dem
variable {t:Th}
theorem CV (ht:TT t) (hx0:FC 14 [] [] (.ret (BL true)) []) (N:Nat) (hN:N<256) {a:Int} (ea:a=N) {l:List je} {dl:List (List D)} (Tf:dl=l.map je.cells) (VT:∀x∈l,x.u) (YI:l.length<9223372036854775808) (k:Nat) (hk2:k<256) {kk:Int} (hk:kk=k) (g:Nat) (OX:g<256) {gg:Int} (hg:gg=g):
 FC 4 [U8 a,SL dl,U8 kk,U8 gg] [] (.ret (BL true)) []:=by
 obtain ⟨S,hS⟩:∃S,S=eH N l (min l.length 40):=⟨_,rfl⟩
 have gS:S.good:=by rw [hS];exact pM _ _ _
 have hL:FC 15 [U8 a,SL dl] [] (.ret (fL t (t _ fun _=>S))) []:=by rw [hS];exact KZ ht N hN ea Tf VT YI
 obtain ⟨I,hI⟩:∃I,I=ke S k:=⟨_,rfl⟩
 have hW:FC 16 [fL t S,U8 kk] [] (.ret (EC (t _ fun _=>I))) []:=by rw [hI];exact HP ht S gS k hk hk2
 obtain ⟨z1,z2⟩:=FB gS.ok (id:=I) (by rw [hI];exact HG gS.ok k)
 obtain ⟨v,hv⟩:∃v,v=bF S I:=⟨_,rfl⟩
 have cv:FC 19 [fL t S,az I] [] (.ret (CS t (t _ fun _=>v))) []:=by rw [hv];exact sj ht S gS I
 have vl:v.1.length<1000000∧v.2.1.length<1000000:=by rw [hv];exact CU gS I
 rw [←hv] at z1 z2
 obtain ⟨A,hA⟩:∃A,A=cm S I:=⟨_,rfl⟩
 have cl:FC 18 [fL t S,az I] [] (.ret (ve t (t _ fun _=>A))) []:=by rw [hA];exact nh ht S gS I
 have hal:A.length<1000:=by rw [hA];exact sg gS I
 rw [←hA] at z2
 obtain ⟨y,hy⟩:∃y,y=g%v.1.length:=⟨_,rfl⟩
 obtain ⟨W,X5⟩:∃W,W=bB S v.1:=⟨_,rfl⟩
 have gW:W.good:=by rw [X5];exact kN gS _
 have cw:FC 21 [fL t S,SL (t _ fun _=>v.1.map Int.cells)] [] (.ret (fL t (t _ fun _=>W))) []:=by rw [X5];exact zM ht S gS _ vl.1
 obtain ⟨U,hU⟩:∃U,U=bB S (v.1.eraseIdx y):=⟨_,rfl⟩
 have gU:U.good:=by rw [hU];exact kN gS _
 have cu:FC 21 [fL t S,SL (t _ fun _=>(v.1.eraseIdx y).map Int.cells)] [] (.ret (fL t (t _ fun _=>U))) []:=by
  rw [hU];exact zM ht S gS _ (by have:=List.length_eraseIdx_le v.1 y;omega)
 rw [←X5] at z2
 have cf:=iX ht W gW I
 have cg:=iX ht U gU I
 have er:(v.1.eraseIdx y).map Int.cells=(v.1.map Int.cells).take y++(v.1.map Int.cells).drop (y+1):=by
  rw [List.eraseIdx_eq_take_drop_succ,List.map_append,List.map_take,List.map_drop]
 simp only [ht,fL,CS,ve,EC,qD] at hL hW cv cl cw cu cf cg
 rw [er] at cu
 refine SX ht hx0 (x:=y) (XT:=U.round) (XU:=U.next) (XW:=U.ev.first) (XX:=U.au.first) (XY:=U.bz.nodes.map Node.cells) (XZ:=U.bz.places.map Place.cells) (X1:=U.tree.map bu.cells) (X2:=U.aG.map Jb.cells) (X3:=U.queue.map cR.cells) (X4:=U.ev.l.map eI.cells) (Tb:=U.au.l.map eI.cells) OX hg rfl rfl rfl vl.1 vl.2 hal hL hW cv cl cw (fun h=>?_) (fun h=>?_) (br:=(gH U I).1.map bg) (fun h1 h2=>?_) z1 (fun h=>(z2 h).2.1)
 ·rw [(z2 h).1] at cf;exact cf
 ·have hl:0<v.1.length:=List.length_pos_iff.2 h
  exact ⟨y,by rw [hy];exact Nat.mod_lt _ hl,by rw [hg,hy];rfl,rfl,cu⟩
 have hl:0<v.1.length:=List.length_pos_iff.2 h2
 have h3:=(z2 h1).2.2 y (by rw [hy];exact Nat.mod_lt _ hl)
 rw [←hU] at h3
 rw [h3] at cg;exact cg
end Dem
