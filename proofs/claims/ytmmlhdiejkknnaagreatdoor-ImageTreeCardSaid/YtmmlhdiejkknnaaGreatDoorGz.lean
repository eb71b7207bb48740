/-
  ImageTree: a tree that deeds have made is put, got and loaded as the same tree, for any row of deeds; over the listed tables of the row: the tied card.
-/
import Derived.Test.YtmmlhdiejkknnaaGreatDoorTie
import Derived.Test.YtmmlhdiejkknnaaGreatDoorCards
import Derived.Test.YtmmlhdiejkknnaaGreatDoorG20
import Derived.ProofKit
import Derived.LaidMore
import Derived.OpenShut
import Derived.ChangeMaps5
import Derived.Lib.LaidTab
import Derived.LaidLaws
import Derived.Stop.LaidErr
import Derived.Lay
import Derived.Carry
import Derived.SizedLaws
import Derived.SevenTiedAt
set_option maxRecDepth 100000
set_option maxHeartbeats 0
namespace Go.Proofs.YtmmlhdiejkknnaaGreatDoor.imageTree
open Go.ChangeShapes Go.WideShapes Go.ChangeAt Go.WideMaps Go.WideElems Go.RowKit
open Go.Sx
theorem own:ownKnob Tryz.prog.godebug=none:=by kernel_rfl
theorem laidOut:laidOutB Tryz.prog=true:=by kernel_rfl
theorem gHas:Tryz.prog.globalNamed "beadle/deed.has" =some 0:=by kernel_rfl
abbrev laidL:List (String×DataW Unit):= [("bytes.ErrTooLarge",Rows.laid_bytes_ErrTooLarge),("beadle/deed.has",Rows.laid_beadle_deed_has)]
theorem has_laid{W:World}(h:laidMetH Tryz.prog laidL W):fY (eP W):=by
 rw [MakeChecks.laidMetH_plain _ _ _ (by kernel_rfl)]at h;have h:=laidMet.tail h
 have hT:Lib.TabIs Tryz.prog W "beadle/deed.has" .i64 [0,23,17,11,32,260,0,128,256,64]:=
  Lib.tabIs_of_head (rest:= []) (n:=10) (t:=251) (e:=3) gHas (by kernel_rfl) (by kernel_rfl) (by kernel_rfl) (by kernel_rfl) (by kernel_rfl) h
 have hc:∀i,i<10→W.cell? (Addr.add ⟨0,0,none⟩ i)=some (.int .i64 (([0,23,17,11,32,260,0,128,256,64]:List Int).getD i 0)):=fun i hi=>by
  have:=hT.cell gHas i hi
  cases i<;>simpa [Addr.add]using this
 refine wB ?_ (by decide);unfold World.cells?;rw [if_pos (Nat.zero_le _),show List.range 10= [0,1,2,3,4,5,6,7,8,9]from rfl];simp only [List.mapM_cons,List.mapM_nil,hc 0 (by decide),hc 1 (by decide),hc 2 (by decide),hc 3 (by decide),hc 4 (by decide),hc 5 (by decide),hc 6 (by decide),hc 7 (by decide),hc 8 (by decide),hc 9 (by decide)];rfl
theorem walk{w:World}{v0:Value}{g0:List aU}(h0:om (eP w) v0 g0∧∀d∈g0,ib d)(hh:fY (eP w)):
  Calls Tryz.prog 3 #[v0] w fun e w'=>e= .returned (.bool true)∧Below w.heap.size w w':=by
 refine(uq yl Tryz.func3 (by kernel_rfl) (by kernel_rfl) g0 [v0] w ⟨v0,rfl,h0.1,h0.2,hh⟩ (fun _ _ hq=>hq.1)).mono fun e w' ⟨u,he,⟨A',hq⟩,hb⟩=> ?_
 obtain⟨_,rfl⟩:=hq;exact⟨he,hb⟩
theorem lifted(os:Os)(started:os.Started)(H:Type)(enc:TypeId×Value→H):
  ReturnsInHanded {} Tryz.checked os 3 .any (fun w args=>(Rows.imageTreeSpec.pre enc Tryz.prog Tryz.f3 [] false w args∧laidMetH Tryz.prog laidL w)∧sizedMet enc Tryz.prog Tryz.f3 (OpenSpec.ofChange Rows.imageTreeSpec) false w args)
   (Rows.imageTreeSpec.post enc Tryz.prog Tryz.f3 false true false false):=by
 refine returnsInHanded_of_change_and (C:=Tryz.checked) (X:=fun w _=>laidMetH Tryz.prog laidL w) (fun _ _ _ hh h=>h.of_heap hh) own started (by kernel_rfl) Tryz.func3
  (ChangeSpec.witness_shaped (enc:=enc) (C:=Tryz.checked) (os:=os) (X:=fun w _=>laidMetH Tryz.prog laidL w) false (World.laidAll Tryz.prog os laidL)
    #[.slice none 0 0] 8 (World.laidAll_os _ _ _)
    (World.shaped_of_ZipB (by kernel_rfl) (by kernel_rfl)) (by kernel_rfl) (by kernel_rfl) (by kernel_rfl)
    (by rw [MakeChecks.laidMetH_plain _ _ _ (by kernel_rfl)];exact laidMet_laidAll _ (by kernel_rfl) (by kernel_rfl))) ?_
 intro W base args ds gs before hval0 hW _ hsz hL _;have hW':=hW;have hlt:∀x∈before,x.block<W.heap.size:=fun x hx=>hW.lt x hx
 obtain⟨p,q,hA0,hV,rfl,hfz,hnd⟩:=hW;have hA:DataW.TrodAll enc Tryz.prog W 0 (fun _=>true) true Tryz.f3.params.toList args.toList ds p:=hA0;have hval:∀(j:Nat) t v,Tryz.f3.params[j]? =some t→args[j]? =some v→Value.okWide Tryz.prog W .any base t v:=hval0;have hsz:(DataW.weightsEach Tryz.prog (Tryz.f3.params.toList++Rows.imageTreeSpec.plain.varTypes Tryz.prog) (ds++gs)).all (· ≤reachBytes)=true:=hsz;rw [Tryz.params3]at hA hval hsz;obtain⟨v0,vs0,d0,ds0,p0,q0,hargs,rfl,rfl,h0,r0⟩:=trodAll_cons hA;obtain⟨rfl,rfl,rfl⟩:=trodAll_nil r0;obtain rfl:args= #[v0]:=by cases args;simp_all
 obtain⟨rfl,rfl⟩:=trodVars_none hV;simp only [List.append_nil]at hW' hlt;have hf0:ey Tryz.prog 22 d0:=CL hsz 0 rfl rfl;have hv0:v0.cells.toList= [v0]:=xk Tryz.underlying22 (hval 0 22 v0 rfl rfl);obtain⟨dd0,hd0⟩:=BL h0 hf0 hv0;refine(walk hd0 (has_laid hL)).mono fun e W' ⟨he,hb⟩=> ?_
 subst he
 exact⟨_,rfl,rD (pv:= []) hW' (fun _ _ _=>(trodAll_cons_mk (shut_bool Tryz.underlying4 _) trodAll_mk0))
  (fun sp hsp=>(trodAll_cons_mk (Trod_stays laidOut (by kernel_rfl) (of_decide_eq_true (by kernel_rfl)) h0 (fun x hx=>hb.same (hlt x (by simp [hx]))) (fun x hx=>hsp x (by simp [hx]))) trodAll_mk0))
  (fun _ _=>rfl) (by simp) hb (ok_one (by kernel_rfl) rfl (okWide_bool_mk Tryz.underlying4 _))⟩
theorem c10:(Rows.imageTreeRow.inPlace==Tryz.prog.inPlace 3)=true:=by kernel_rfl
theorem c11:(Rows.imageTreeRow.unfollowed==Tryz.prog.unfollowed 3)=true:=by kernel_rfl
theorem c12:(Rows.imageTreeRow.recurses==Tryz.prog.recurses 3)=true:=by kernel_rfl
theorem c13:(Rows.imageTreeRow.named==Tryz.prog.varsNamed 3)=true:=by kernel_rfl
theorem closed:joinedFacts Tryz.prog 3 Tryz.f3 Rows.imageTreeSpec Rows.imageTreeRow=true:=by
 unfold joinedFacts;rw [c10,c11,c12,c13]
 kernel_rfl
theorem over:Rows.ImageTreeSaid:=
 OpenClaim.holds_of_wide 3 Tryz.f3 rfl rfl rfl rfl rfl rfl rfl ⟨rfl,rfl,rfl,rfl,rfl⟩ rfl rfl rfl rfl rfl (by kernel_rfl) Tryz.func3 closed
  (of_decide_eq_true (by kernel_rfl)) (by unfold Func.isWrapper;first|(rw [if_pos (by decide+kernel)];kernel_rfl)|(rw [if_neg (by decide+kernel)];exact⟨rfl,rfl⟩))
  (fun os started H enc _=>lifted os started H enc)
theorem proved:Rows.ImageTreeCardSaid:=
 Claim7.holds_tied_plain_at .later [] [.sentinel,.data] true Rows.imageTreeCard.stood.harness false
  over (fun _ h=>by cases h) (by kernel_rfl) (fun _ h=>by cases h) imageTree_row_tie rfl ⟨rfl,rfl⟩ (by kernel_rfl) rfl
  (fun f fn hf hfn=>by
    obtain rfl:f=3:=Option.some.inj ((show Tryz.prog.funcNamed "beadle/beadlelaw12.ImageTree" =some 3 by kernel_rfl).symm.trans hf)|>.symm
    obtain rfl:fn=Tryz.f3:=(Option.some.inj (Tryz.func3.symm.trans hfn)).symm
    exact⟨by kernel_rfl,fun j t ht=>by
     rw [Tryz.params3]at ht;have hm:t∈ [22]:=by simpa using Array.mem_of_getElem? ht
     have hall:([22].all fun u=> !Tryz.prog.wantsStandIn u)=true:=by kernel_rfl
     exact(show Tryz.prog.wantsStandIn t=false by simpa using List.all_eq_true.1 hall t hm)⟩)
  (by kernel_rfl)
#print axioms proved
end Go.Proofs.YtmmlhdiejkknnaaGreatDoor.imageTree
