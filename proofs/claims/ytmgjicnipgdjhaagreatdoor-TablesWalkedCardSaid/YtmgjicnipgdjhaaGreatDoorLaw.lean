/- TablesWalked: for every input that can be read the law returns true and its arguments read afterwards as they read before. Conditions: the package variables that the row lists are as the program's text lays them (tied by the card). -/
import Derived.Test.YtmgjicnipgdjhaaGreatDoorP12
set_option linter.unusedVariables false
set_option linter.unusedSimpArgs false
set_option maxRecDepth 100000
namespace Go.Proofs.YtmgjicnipgdjhaaGreatDoor.tablesWalked
open Go Go.Sh Go.Fr
open Go.ChangeShapes Go.WideShapes Go.ChangeAt Go.WideElems Go.RowKit
theorem door_met (os:Os) (args:Array Value):laidMetH prog Rows.tablesWalkedRow.laid ((World.doorLaid prog 4000 os).forCall (fun _ _=>0) ⟨#[],args,[]⟩).memory :=
 laidMetH_of_parts3 (fuel:=8) (laidMet_of_run' 8 (by kernel_rfl) (by kernel_rfl)) (by kernel_rfl) (by kernel_rfl)
theorem law (H:Type) (enc:TypeId×Value→H) (W:World) (base:Nat) (args:Array Value) (ds gs:List (DataW H)) (before:List MemPlace)
  (hval0:∀(j:Nat) t v,Tryz.f3.params[j]?=some t→args[j]?=some v→Value.okWide Tryz.prog W .any base t v) (hW:DataW.Whole enc Tryz.prog Tryz.f3.params.toList Rows.tablesWalkedSpec.vars false W args.toList ds gs before)
  (hall0:(DataW.weightsEach Tryz.prog (Tryz.f3.params.toList++Rows.tablesWalkedSpec.plain.varTypes Tryz.prog) (ds++gs)).all (·≤reachBytes)=true) (hL:laidMetH Tryz.prog Rows.tablesWalkedRow.laid W) :
  Calls Tryz.prog 3 args W fun e W'=>∃v,e=.returned v∧Rows.tablesWalkedSpec.post enc Tryz.prog Tryz.f3 false true false false W args v W':=by
 have hval:∀(j:Nat) t v,Tryz.f3.params[j]?=some t→args[j]?=some v→Value.okWide Tryz.prog W .any base t v:=hval0
 have hW':=hW
 obtain⟨p,q,hA0,hV,rfl,hfz,hnd⟩:=hW
 have hA:DataW.TrodAll enc Tryz.prog W 0 (fun _=>true) true Tryz.f3.params.toList args.toList ds p:=hA0
 rw [Tryz.params3] at hA hval
 obtain⟨v0,vs0,d0,ds0,p0,q0,hargs,rfl,rfl,h0,r0⟩:=trodAll_cons hA
 obtain⟨v1,vs1,d1,ds1,p1,q1,rfl,rfl,rfl,h1,r1⟩:=trodAll_cons r0
 obtain⟨rfl,rfl,rfl⟩:=trodAll_nil r1
 obtain rfl:args=#[v0,v1]:=by cases args;simp_all
 obtain⟨rfl,rfl⟩:=trodVars_none hV
 have hall:(DataW.weightsEach prog [25,26] [d0,d1]).all (·≤reachBytes)=true:=hall0
 have sm:∀(i:Nat) (t:TypeId) (d:DataW H),([25,26]:List TypeId)[i]?=some t→([d0,d1]:List (DataW H))[i]?=some d→Small t d:=fun i t d h1 h2 =>
  small_each (fun x hx=>of_decide_eq_true (List.all_eq_true.1 hall x hx)) h1 h2
 obtain⟨c0,c1,c2,c3,c4,c5,c6,c7,c8,rfl,k7,k8⟩:=open_world (hval 0 25 v0 rfl rfl) h0
 obtain⟨q,n,c,s,rfl,hs⟩:=open_script (hval 1 26 v1 rfl rfl) h1 (sm 1 26 d1 rfl rfl)
 clear hA0 hval0 hall0
 have hG:=gl_of hL
 refine Calls.mono (f3 hG c0 c1 c2 c3 c4 c5 c6 c7 c8 k7 k8 hs) fun e W' ⟨v,he,hv,hf⟩=>?_
 subst he;subst hv
 refine⟨_,rfl,post_law rfl rfl (by kernel_rfl) Tryz.underlying4 laidOut ?_ hW' hf⟩
 rw [Tryz.params3]
 intro t ht
 have hall:([25,26].all fun t=>prog.readableRec t && decide (t<prog.types.size))=true:=by kernel_rfl
 have:=List.all_eq_true.1 hall t ht
 simp only [Bool.and_eq_true,decide_eq_true_eq] at this
 exact this
theorem lifted (os:Os) (started:os.Started) (H:Type) (enc:TypeId×Value→H) :
  ReturnsInHanded {} Tryz.checked os 3 .any (fun w args=>(Rows.tablesWalkedSpec.pre enc Tryz.prog Tryz.f3 [] false w args∧laidMetH Tryz.prog Rows.tablesWalkedRow.laid w)∧sizedMet enc Tryz.prog Tryz.f3 (OpenSpec.ofChange Rows.tablesWalkedSpec) false w args)
   (Rows.tablesWalkedSpec.post enc Tryz.prog Tryz.f3 false true false false):=by
 refine returnsInHanded_of_change_and (C:=Tryz.checked) (X:=fun w _=>laidMetH Tryz.prog Rows.tablesWalkedRow.laid w) (fun _ _ _ hh h=>h.of_heap hh) own started (by kernel_rfl) Tryz.func3
  (ChangeSpec.witness_shaped (enc:=enc) (C:=Tryz.checked) (os:=os) (X:=fun w _=>laidMetH Tryz.prog Rows.tablesWalkedRow.laid w) false (World.doorLaid Tryz.prog 4000 os) #[.agg #[.int .i64 0,.int .i64 0,.int .i64 0,.int .i64 0,.int .i64 0,.int .i64 0,.int .i64 0,.int .i64 0,.int .i64 0],.slice none 0 0] 8 rfl (World.shaped_of_RefB (by kernel_rfl) (by kernel_rfl)) (by kernel_rfl) (by kernel_rfl) (by kernel_rfl) (door_met os _)) ?_
 intro W base args ds gs before hval hW _ hZ hL _
 exact law H enc W base args ds gs before hval hW hZ hL
theorem row:Rows.TablesWalkedSaid :=
 OpenClaim.holds_of_wide 3 Tryz.f3 rfl rfl rfl rfl rfl rfl rfl ⟨rfl,rfl,rfl,rfl,rfl⟩ rfl rfl rfl rfl rfl (by kernel_rfl) Tryz.func3 closed
  (of_decide_eq_true (by kernel_rfl)) (by unfold Func.isWrapper;first|(rw [if_pos (by decide +kernel)];kernel_rfl)|(rw [if_neg (by decide +kernel)];exact⟨rfl,rfl⟩))
  (fun os started H enc _=>lifted os started H enc)
theorem holds:Rows.TablesWalkedCardSaid :=
 Claim7.holds_tied_plain_at .later [] [.data, .data, .data, .data, .data, .data, .data] true (true, "ca8ffcf12cb7c6657e0385e9b4c82b659debdd1bd1523d97f9ba2196798b61cd") true
  row (fun _ h=>by cases h) (by kernel_rfl) (fun _ h=>by cases h) tablesWalked_row_tie rfl ⟨rfl,rfl⟩ (by kernel_rfl) rfl
  (fun f fn hf hfn=>by
   obtain rfl : f = 3 := Option.some.inj ((show Tryz.prog.funcNamed "atlas/atlaslaw14.TablesWalked" = some 3 by kernel_rfl).symm.trans hf) |>.symm
   obtain rfl:fn=Tryz.f3:=(Option.some.inj (Tryz.func3.symm.trans hfn)).symm
   exact⟨by kernel_rfl,fun j t ht=>by
    rw [Tryz.params3] at ht
    have hm:t∈[25,26]:=by simpa using Array.mem_of_getElem? ht
    have hall:([25,26].all fun u=>!Tryz.prog.wantsStandIn u)=true:=by kernel_rfl
    exact (show Tryz.prog.wantsStandIn t=false by simpa using List.all_eq_true.1 hall t hm)⟩)
  (by kernel_rfl)
#print axioms holds
end Go.Proofs.YtmgjicnipgdjhaaGreatDoor.tablesWalked
