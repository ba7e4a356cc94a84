/-
  WorldNext: for every input that can be read the statement's function returns true, and every argument reads afterwards as it read before; the listed tables as their initialisers lay them; the card ties them to the program's text. No conditions of its own.
-/
import Derived.Test.YtdfegfagedeilaaGreatDoorYxWmN
import Derived.Test.YtdfegfagedeilaaGreatDoorYxWorldNextJ
import Derived.Lib.LaidTab
import Derived.Lib.LaidIn
import Derived.Lib.LaidU8T
namespace Go.Proofs.YtdfegfagedeilaaGreatDoor.rowWorldNext
open Go.ChangeShapes Go.WideShapes Go.ChangeAt Go.RowKit Go.Joins
open Go.ChangeMaps (open_string shut_string)
theorem bVl:Rows.laid_unicode_utf8_first=Lib.firstData:=by kernel_rfl
theorem bVd:(Rows.laid_unicode_utf8_acceptRanges:DataW Unit)=Lib.acceptData:=by kernel_rfl
theorem bVt {W:World} (h:laidMetH Tryz.prog Rows.worldNextRow.laid W):Lib.Utf8Tabs 1 2 W:=
 utf8Tabs_of_readsT (U8Types.of196 Tryz.laysValid) ⟨by kernel_rfl,by kernel_rfl,by kernel_rfl,by kernel_rfl,by kernel_rfl,by kernel_rfl,by kernel_rfl⟩
  (by rw[←bVl];exact Lib.laidMet.reads h (.tail _ (.tail _ (.head _)))) (by rw[←bVd];exact Lib.laidMet.reads h (.head _))
theorem bUj {W:World} (h:laidMetH Tryz.prog Rows.worldNextRow.laid W):∀ i,i<([[],[98,101,103,105,110],[114,101,97,100],[119,114,105,116,101],[111,107],[102,97,105,108],[105,110,102,111]]:List (List UInt8)).length→W.cell? ⟨0,i,none⟩=some (.string (bs (([[],[98,101,103,105,110],[114,101,97,100],[119,114,105,116,101],[111,107],[102,97,105,108],[105,110,102,111]]:List (List UInt8)).getD i []))):=
 bGp (by kernel_rfl) (by kernel_rfl) Tryz.underlying177 Tryz.underlying9 (by kernel_rfl) (show Lib.VarReads Tryz.prog W "deemster/event.words" Rows.laid_deemster_event_words from Lib.laidMet.reads h (.tail _ (.head _)))
noncomputable def bUg (os:Os):World:=
 let w0:=World.holding Tryz.prog os ⟨#[],#[],[]⟩
 let put (h:Array Obj) (g:Nat) (cs:Array Value):Array Obj:=h.modify g fun
  | .cells _ t frozen=>.cells cs t frozen
  | o=>o
 let h1:=put w0.heap 2 ((List.range 16).flatMap fun i=>[Value.int .u8 (Lib.accLo i),Value.int .u8 (Lib.accHi i)]).toArray
 let h2:=put h1 0 (([[],[98,101,103,105,110],[114,101,97,100],[119,114,105,116,101],[111,107],[102,97,105,108],[105,110,102,111]]:List (List UInt8)).map fun l=>Value.string (bs l)).toArray
 let h3:=put h2 1 (Lib.firstTab.map fun z=>Value.int .u8 z).toArray
 { w0 with heap:=h3 }
theorem bVm (os:Os) (args:Array Value):laidMet Tryz.prog Rows.worldNextRow.laid ((bUg os).forCall (fun _ _=>0) ⟨#[],args,[]⟩).memory:=
 (LaidIn.of_run (l:=Rows.worldNextRow.laid) [2,0,1] 8 (by kernel_rfl) (by kernel_rfl) (by kernel_rfl) (by kernel_rfl)).met
theorem reads (os:Os) {H:Type} (enc:TypeId×Value→H):∃ places,DataW.whole enc Tryz.prog ((bUg os).forCall (fun _ _=>0) ⟨#[],#[.agg #[.slice none 0 0,.slice none 0 0,.slice none 0 0],.agg #[.slice none 0 0,.slice none 0 0]],[]⟩).memory Tryz.f3.params.toList Rows.worldNextSpec.vars false #[Value.agg #[.slice none 0 0,.slice none 0 0,.slice none 0 0],.agg #[.slice none 0 0,.slice none 0 0]].toList 8=some ([.agg [.nil,.nil,.nil],.agg [.nil,.nil]],[],places):=
 ⟨[],by kernel_rfl⟩
set_option maxRecDepth 100000 in
theorem bVq (os:Os) (started:os.Started) (H:Type) (enc:TypeId×Value→H) (F:Stop.Interp) :
  ReturnsInHanded {} Tryz.checked os 3 .any ((OpenSpec.ofChange Rows.worldNextSpec).preRow enc Tryz.prog Tryz.f3 Rows.worldNextRow.domain false Rows.worldNextRow.laid) (((OpenSpec.ofChange Rows.worldNextSpec).at F).post enc Tryz.prog Tryz.f3 false true false false):=by
 obtain⟨places,hx⟩:=reads os enc
 refine returnsInHanded_of_row (C:=Tryz.checked) (s:=OpenSpec.ofChange Rows.worldNextSpec) Tryz.own started (by kernel_rfl) Tryz.func3
  (witness_row_at (enc:=enc) (C:=Tryz.checked) false (bUg os) #[.agg #[.slice none 0 0,.slice none 0 0,.slice none 0 0],.agg #[.slice none 0 0,.slice none 0 0]] rfl (by kernel_rfl) (by kernel_rfl) (by kernel_rfl)
   (OpenSpec.preRow_of_cond 8 hx (by kernel_rfl) (fun k hk=>by cases hk) (by kernel_rfl) (bVm os _))) ?_
 intro W base args ds gs before hval0 hW _ _ _ hL hM _;have hT:=bVt hL;have h_tab_event_words:=bUj hL;have hval:∀ (j:Nat) t v,Tryz.f3.params[j]? = some t→args[j]? = some v→Value.okWide Tryz.prog W .any base t v:=hval0;have hW':=hW;obtain⟨p,q,hA0,hV,rfl,hfz,hnd⟩:=hW;have hA:DataW.TrodAll enc Tryz.prog W 0 (fun _=>true) true Tryz.f3.params.toList args.toList ds p:=hA0;have hA1:=hA;rw[Tryz.params3] at hA hval;obtain⟨rfl,rfl⟩:=trodVars_none hV;simp only[List.append_nil] at hW'
 suffices hc:Calls Tryz.prog 3 args W fun e W'=>e=.returned (.bool true)∧Below W.heap.size W W' by
  refine hc.mono fun e W' ⟨he,hb⟩=>?_;subst he;refine⟨_,rfl,bMq Tryz.underlying4 Tryz.laidOut (by kernel_rfl) rfl (by kernel_rfl) rfl hW' hA1 ?_ ?_ ?_ hb⟩
  all_goals
   obtain⟨v0,vs0,d0,ds0,p0,q0,hargs,rfl,rfl,h0,r0⟩:=trodAll_cons hA;obtain⟨v1,vs1,d1,ds1,p1,q1,rfl,rfl,rfl,h1,r1⟩:=trodAll_cons r0;obtain⟨rfl,rfl,rfl⟩:=trodAll_nil r1;obtain rfl:args=#[v0,v1]:=(by cases args;simp_all);rfl
 clear hW' hA0 hval0 hA1;obtain⟨v0,vs0,d0,ds0,p0,q0,hargs,rfl,rfl,h0,r0⟩:=trodAll_cons hA;obtain⟨v1,vs1,d1,ds1,p1,q1,rfl,rfl,rfl,h1,r1⟩:=trodAll_cons r0;obtain⟨rfl,rfl,rfl⟩:=trodAll_nil r1;obtain rfl:args=#[v0,v1]:=(by cases args;simp_all);obtain⟨H0,hA0,hN0⟩:=open_histN (hval 0 25 v0 rfl rfl) h0;obtain⟨M1,hU1⟩:=open_world (hval 1 29 v1 rfl rfl) h1;exact worldnext_any _ _ H0 M1 W hA0 hU1 hN0 hT (Tryz.laysSplit.s1_3 W hM) (fun i hi=>by rw[kindW_at i hi];exact h_tab_event_words i hi)
set_option maxHeartbeats 4000000 in
theorem said:Rows.WorldNextSaid:=
 OpenClaim.holds_of_cond 3 Tryz.f3 rfl rfl rfl rfl rfl rfl rfl ⟨rfl,rfl,rfl,rfl,rfl⟩ rfl rfl rfl rfl rfl (by as_aux_lemma=>kernel_rfl) Tryz.func3 joined
  (of_decide_eq_true (by as_aux_lemma=>kernel_rfl)) (by unfold Func.isWrapper;first | (rw[if_pos (by decide +kernel)];kernel_rfl) | (rw[if_neg (by decide +kernel)];exact⟨rfl,rfl⟩))
  (fun os started H enc _ F=>by rw[OpenClaim.pre_eq_preRow];exact bVq os started H enc F)
theorem bTw (f:FuncId) (fn:Func) (hf:Tryz.pinned.checked.prog.funcNamed "deemster/deemsterlaw16.WorldNext" = some f) (hfn:Tryz.pinned.checked.prog.funcs[f]? = some fn) :
  true=Tryz.pinned.checked.prog.looks []∧∀ (j:Nat) t,fn.params[j]? = some t→Tryz.pinned.checked.prog.wantsStandIn t=false:=by
 obtain rfl:f=3:=Option.some.inj ((show Tryz.prog.funcNamed "deemster/deemsterlaw16.WorldNext" = some 3 by kernel_rfl).symm.trans hf) |>.symm;obtain rfl:fn=Tryz.f3:=(Option.some.inj (Tryz.func3.symm.trans hfn)).symm;refine⟨by kernel_rfl,fun j t ht=>?_⟩;rw[Tryz.params3] at ht;have ht':t=25∨t=29:=(by simpa using Array.mem_of_getElem? ht);rcases ht' with rfl | rfl
 ·exact(show Tryz.prog.wantsStandIn 25=false by kernel_rfl)
 ·exact(show Tryz.prog.wantsStandIn 29=false by kernel_rfl)
set_option maxHeartbeats 4000000 in
theorem card:Rows.WorldNextCardSaid:=
 Claim7.holds_tied_plain_at .later [] _ _ _ _ said (fun _ h=>by cases h) (by as_aux_lemma=>kernel_rfl) (fun _ h=>by cases h) worldNext_row_tie rfl ⟨rfl,rfl⟩ (by as_aux_lemma=>kernel_rfl) rfl bTw (by as_aux_lemma=>kernel_rfl)
#print axioms card
end Go.Proofs.YtdfegfagedeilaaGreatDoor.rowWorldNext
