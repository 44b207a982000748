/- Parts of a proof, joined. -/
import Derived.Test.YtjnbpclolnmimaaGreatDoorK29
import Derived.Deep.DeepHandedRow
import Derived.Deep.DeepWitnessRowRef
set_option linter.all false
set_option maxRecDepth 100000
set_option maxHeartbeats 4000000
open Go Go.Proofs Go.ChangeShapes Go.WideShapes Go.RowKit
open Go.Proofs.YtjnbpclolnmimaaGreatDoor
namespace Dem
theorem WZ:Tryz.f5.params.toList=[5,33,53]:=by kernel_rfl
theorem Lg {H:Type} {enc:TypeId×Value→H} {os:Os} (started:os.Started) {G:FuncId} {fn:Func} {s:OpenSpec} {F:Stop.Interp} (hfn:Tryz.checked.prog.funcs[G]?=some fn) (hni:Tryz.checked.prog.inits.idxOf? G=none) (hv:(s.at F).vars=[]) (RN:s.vars=[]) (hrt:fn.resultTypes=#[4])
 (hts:(fn.params.toList.all fun t=>Tryz.prog.readableRec t&&decide (t<Tryz.prog.types.size))=true)
 (hs:∀ds:List (DataW H),ds.length=fn.params.toList.length→((s.at F).fn H ds).results=[.lit (.bool true)]∧((s.at F).fn H ds).args=ds∧((s.at F).fn H ds).vars=[])
 (witness:∃(w:World) (tape:Tape) (i:Input),w.os=os∧(w.forCall tape i).Shaped Tryz.checked.prog∧i.vars=[]∧Input.okWide Tryz.checked.prog (w.forCall tape i) .any w.heap.size G i∧
  s.preRow enc Tryz.checked.prog fn [] false AU (w.forCall tape i).memory i.args∧({}:Assume).holds Tryz.checked.prog (lone (Frame.enter Tryz.checked.prog G i.args .normal) [] (w.forCall tape i)))
 (W0:∀(W:World) (args:Array Value) (ds:List (DataW H)) (p:List MemPlace),laidMetH Tryz.prog AU W→DataW.TrodAll enc Tryz.prog W 0 (fun _=>true) true fn.params.toList args.toList ds p→
  (∀(j:Nat) t v,fn.params[j]?=some t→args[j]?=some v→∃base,Value.okWide Tryz.prog W .any base t v)→
  (∀k,s.cond=some k→k H ds=true)→
  Calls Tryz.prog G args W fun e w'=>e=.returned (.bool true)∧RowKit.Below W.heap.size W w'):
 ReturnsInHanded {} Tryz.checked os G .any (s.preRow enc Tryz.checked.prog fn [] false AU) ((s.at F).post enc Tryz.checked.prog fn false true false false):=by
 refine returnsInHanded_of_row (C:=Tryz.checked) own started hni hfn witness ?_
 intro W base args ds gs before hval hW _ hk _ hL _ _
 have hW':=hW
 obtain ⟨p,q,hA,hV,rfl,hfz,ZW⟩:=hW
 rw [RN] at hV
 obtain ⟨rfl,rfl⟩:=trodVars_none hV
 have hlen:ds.length=fn.params.toList.length:=He _ _ _ _ hA
 obtain ⟨s1,s2,s3⟩:=hs ds hlen
 refine (W0 W args ds p hL hA (fun j t v h1 h2=>⟨base,hval j t v h1 h2⟩) (fun k e=>by simpa using hk k e)).mono fun e w' ⟨he,hb⟩=>?_
 refine ⟨.bool true,he,ds,[],p++[],[],p,[],(by rw [hv];rw [RN] at hW';exact hW'),?_,?_,?_,Cr hb _,fun h=>by cases h⟩
 ·rw [List.append_nil,s1,hrt]
  exact trodAll_mk1 (shut_bool Yo _)
 ·rw [List.append_nil,s2]
  exact Cq laidOut hb _ _ _ _ hts (fun x hx=>hW'.lt x (by simpa using hx)) hA
 rw [List.append_nil,s3,hv]
 rfl
def Lh:Array Value:=#[.int .u8 0,.slice none 0 0,.agg #[.string ⟨#[]⟩,.int .u64 0,.int .u64 0,.int .u64 0,.int .u64 0,.int .i64 0,.int .i64 0,.int .i64 0,.slice none 0 0]]
theorem CA (os:Os) {H:Type} (enc:TypeId×Value→H):∃x,DataW.whole enc Tryz.prog ((G8 os).forCall (fun _ _=>0) ⟨#[],Lh,[]⟩).memory Tryz.f5.params.toList Rows.stateSubmitsSpec.vars false Lh.toList 8=some x∧Rows.uptoSmall H (x.1++x.2.1)=true:=by
 have h:(DataW.whole enc Tryz.prog ((G8 os).forCall (fun _ _=>0) ⟨#[],Lh,[]⟩).memory Tryz.f5.params.toList Rows.stateSubmitsSpec.vars false Lh.toList 8).any (fun x=>Rows.uptoSmall H (x.1++x.2.1))=true:=by kernel_rfl
 revert h
 cases DataW.whole enc Tryz.prog ((G8 os).forCall (fun _ _=>0) ⟨#[],Lh,[]⟩).memory Tryz.f5.params.toList Rows.stateSubmitsSpec.vars false Lh.toList 8 with
 |none=>intro h;cases h
 |some x=>exact fun h=>⟨x,rfl,h⟩
theorem B8 (os:Os) (started:os.Started) (H:Type) (enc:TypeId×Value→H) (F:Stop.Interp):
 ReturnsInHanded {} Tryz.checked os 5 .any ((Rows.OpenSpec.upto Rows.stateSubmitsSpec).preRow enc Tryz.checked.prog Tryz.f5 [] false AU)
  (((Rows.OpenSpec.upto Rows.stateSubmitsSpec).at F).post enc Tryz.checked.prog Tryz.f5 false true false false):=by
 obtain ⟨x,hx,hxs⟩:=CA os enc
 refine Lg (s:=Rows.OpenSpec.upto Rows.stateSubmitsSpec) started Tryz.func5 (by kernel_rfl) rfl rfl (by kernel_rfl) (by kernel_rfl) ?_
  (witness_row_atRef (enc:=enc) (C:=Tryz.checked) false (G8 os) Lh rfl (by kernel_rfl) (by kernel_rfl) (by kernel_rfl)
   (OpenSpec.preRow_of_cond 8 hx (by kernel_rfl) (fun k hk=>by cases hk;exact hxs) (by kernel_rfl) (PW os _))) ?_
 ·intro ds hd
  rw [WZ] at hd
  match ds,hd with
  |[_d0,_d1,_d2],_=>exact ⟨rfl,rfl,rfl⟩
 intro W args ds p hL hA hval hk
 rw [WZ] at hA
 obtain ⟨v0,D8,d0,ds0,p0,q0,e0,f0,t0,hA⟩:=trodAll_cons hA
 obtain ⟨v1,vs1,d1,ds1,p1,q1,e1,f1,t1,hA⟩:=trodAll_cons hA
 obtain ⟨v2,vs2,d2,ds2,p2,q2,e2,f2,t2,hA⟩:=trodAll_cons hA
 obtain ⟨en,fn⟩:=trodAll_nil hA
 have ea:args=⟨[v0,v1,v2]⟩:=by cases args;simp_all
 have ed:ds=[d0,d1,d2]:=by simp_all
 subst ea
 have hb:Rows.uptoBulkAll ds≤1048576:=of_decide_eq_true (hk _ rfl)
 rw [ed] at hb
 simp only [Rows.uptoBulkAll] at hb
 obtain ⟨b0,Yn⟩:=hval 0 5 v0 (by kernel_rfl) rfl
 obtain ⟨k0,r0,hk0⟩:=Qj Yn t0
 obtain ⟨b1,Zi⟩:=hval 1 33 v1 (by kernel_rfl) rfl
 obtain ⟨l1,r1,UX,Jh⟩:=Nb Zi t1
 obtain ⟨b2,hv2⟩:=hval 2 53 v2 (by kernel_rfl) rfl
 obtain ⟨jq,ja,jb,jc,jd,jn,jp,jt,jl,r2,hs,hw⟩:=Rz hv2 t2 (by omega)
 exact JJ hL (fun _ _=>rfl) (by simp only [aj];exact ⟨v0,_,rfl,r0,v1,_,rfl,r1,v2,_,rfl,r2,rfl⟩) (BW (fun _ _=>rfl) (Lf (fun _ _=>rfl)) k0 hk0 rfl rfl UX (by have:maxLen<9223372036854775808:=(by decide);omega) ja jb jc jd jn jp jt jq rfl hs hw)
theorem IN:Rows.StateSubmitsUptoSaid:=
 OpenClaim.holds_of_cond 5 Tryz.f5 rfl rfl rfl rfl rfl rfl rfl ⟨rfl,rfl,rfl,rfl,rfl⟩ rfl rfl rfl rfl rfl (by kernel_rfl) Tryz.func5 (by kernel_rfl)
  (of_decide_eq_true (by kernel_rfl)) (by unfold Func.isWrapper;first|(rw [if_pos (by decide+kernel)];kernel_rfl)|(rw [if_neg (by decide+kernel)];exact ⟨rfl,rfl⟩))
  (fun os started H enc _ F=>by rw [OpenClaim.pre_eq_preRow];exact B8 os started H enc F)
end Dem
