/- Proved: for every input of bulk at most 1048576 docketlaw18.ModelOrders returns true (its card). No conditions beyond the row's own bound. -/
import Derived.Lib.SmallJoins
import Derived.Laws.IdiomArrays
import Derived.Test.YtfbbkmdhnkmonaaGreatDoorT27
namespace Go.Proofs.YtfbbkmdhnkmonaaGreatDoor.modelOrdersC
open Go.ChangeShapes Go.WideShapes Go.ChangeAt Go.RowKit
open Go.ChangeMaps (open_string)
set_option maxRecDepth 100000 in
theorem open_pl {H:Type} {enc:TypeId×Value->H} {W:World} {r:Reach} {b0 base:Nat} {spare:Nat->Bool} {held:Bool} {v:Value} {d:DataW H} {p:List MemPlace} (hv:Value.okWide Tryz.prog W r b0 33 v) (hd:DataW.Trod enc Tryz.prog W base spare held 33 v d p):∃a:Pl,v=plV a:=by
 have hu:=Tryz.underlying33
 simp only [Value.okWide,hu] at hv
 obtain ⟨cs,rfl,hsz,-⟩:=hv
 have hc3:Tryz.prog.cellsOf 33=3:=by kernel_rfl
 have hl:cs.toList.length=3:=by rw [Array.length_toList,hsz,hc3]
 obtain ⟨c0,c1,c2,hcs⟩:∃c0 c1 c2,cs.toList=[c0,c1,c2]:=by
  match cs.toList,hl with
  | [a,b,c],_=>exact ⟨a,b,c,rfl⟩
 obtain ⟨fuel,hf⟩:=hd
 have hf2:DataW.trod enc Tryz.prog W base spare held fuel 33 [c0,c1,c2]=some (d,p):=by rw [<-hcs];exact hf
 obtain ⟨y0,y1,y2,m,-,k0,k1,k2⟩:=trod_array3 hu (by kernel_rfl) hf2
 obtain ⟨n0,e0,-,-⟩:=DataW.trod_int Tryz.underlying3 k0
 obtain ⟨n1,e1,-,-⟩:=DataW.trod_int Tryz.underlying3 k1
 obtain ⟨n2,e2,-,-⟩:=DataW.trod_int Tryz.underlying3 k2
 simp only [List.cons.injEq,and_true] at e0 e1 e2
 subst e0 e1 e2
 exact ⟨(n0,n1,n2),by rw [<-Array.toArray_toList (xs:=cs),hcs];rfl⟩
set_option maxRecDepth 100000 in
set_option maxHeartbeats 1000000 in
theorem contract (H:Type) (enc:TypeId×Value->H) (W:World) (base:Nat) (args:Array Value) (ds gs:List (DataW H)) (before:List MemPlace)
  (hval:∀(j:Nat) t v,Tryz.f4.params[j]? = some t->args[j]? = some v->Value.okWide Tryz.prog W .any base t v)
  (hW:DataW.Whole enc Tryz.prog Tryz.f4.params.toList Rows.modelOrdersSpec.vars false W args.toList ds gs before) (hc:Rows.uptoBulkAll (ds++gs)<=1048576) (ht:GRng W) :
  Calls Tryz.prog 4 args W fun e W'=>∃v,e=.returned v/\Rows.modelOrdersSpec.post enc Tryz.prog Tryz.f4 false true false false W args v W':=by
 have hW':=hW
 obtain ⟨p,q,hA0,hV,rfl,hfz,hnd⟩:=hW
 have hA:DataW.TrodAll enc Tryz.prog W 0 (fun _=>true) true Tryz.f4.params.toList args.toList ds p:=hA0
 obtain ⟨rfl,rfl⟩:=trodVars_none hV
 have hlt:∀x∈p,x.block<W.heap.size:=fun x hx=>by simpa using hW'.lt x (by simp [hx])
 have hAk:=hA
 rw [Tryz.params4] at hA hval
 obtain ⟨v0,vs0,d0,ds0,p0,q0,hargs,rfl,rfl,h0,r0⟩:=trodAll_cons hA
 obtain ⟨v1,vs1,d1,ds1,p1,q1,rfl,rfl,rfl,h1,r1⟩:=trodAll_cons r0
 obtain ⟨v2,vs2,d2,ds2,p2,q2,rfl,rfl,rfl,h2,r2⟩:=trodAll_cons r1
 obtain ⟨rfl,rfl,rfl⟩:=trodAll_nil r2
 obtain rfl:args=#[v0,v1,v2]:=Array.ext' hargs
 obtain ⟨x1,rfl⟩:=open_pl (hval 1 33 v1 rfl rfl) h1
 obtain ⟨x2,rfl⟩:=open_pl (hval 2 33 v2 rfl rfl) h2
 obtain ⟨cs,rfl,hsz⟩:=okWide_struct Tryz.underlying31 (hval 0 31 v0 rfl rfl)
 obtain ⟨fuel,hf⟩:=h0
 have hc6:Tryz.prog.cellsOf 31=6:=by kernel_rfl
 obtain ⟨_,⟨md,⟨hz,hx⟩,rfl⟩,hm⟩:=opL_model (enc:=enc) (w:=W) (base:=0) (spare:=fun _=>true) (held:=true) (fuel+1) fuel (Nat.lt_succ_self _) cs.toList (d0,p0) (by rw [Array.length_toList,hsz,hc6]) hf (by
  show Rows.uptoBulk d0<=1048576
  simp only [List.cons_append,List.nil_append,Rows.uptoBulkAll] at hc
  omega)
 obtain ⟨mv,hcs,hM⟩:=ModelD.cells hm
 have hwk:=orders_walk md mv x1 x2 W hz hx hM ht
 rw [<-hcs,Array.toArray_toList] at hwk
 refine hwk.mono fun e W' ⟨he,hb⟩=>?_
 subst he
 exact ⟨_,rfl,_,_,_,[],_,[],hW',trodAll_mk1 (shut_bool Tryz.underlying4 _),argsStay laidOut hb _ _ _ _ (by kernel_rfl) hAk hlt,rfl,hb.frame _,fun h=>by cases h⟩
abbrev args0:Array Value:=#[.agg #[.string ⟨#[]⟩,.slice none 0 0,.slice none 0 0,.slice none 0 0,.slice none 0 0,.slice none 0 0],.agg #[.int .i64 0,.int .i64 0,.int .i64 0],.agg #[.int .i64 0,.int .i64 0,.int .i64 0]]
abbrev read0 {H:Type}:List (DataW H):=[.agg [.lit (.string []),.nil,.nil,.nil,.nil,.nil],.agg [.lit (.int .i64 0),.lit (.int .i64 0),.lit (.int .i64 0)],.agg [.lit (.int .i64 0),.lit (.int .i64 0),.lit (.int .i64 0)]]
theorem reads (os:Os) {H:Type} (enc:TypeId×Value->H):∃places,DataW.whole enc Tryz.prog ((laidWorld os).forCall (fun _ _=>0) ⟨#[],args0,[]⟩).memory Tryz.f4.params.toList Rows.modelOrdersSpec.vars false args0.toList 8=some (read0,[],places) :=
 ⟨[],by kernel_rfl⟩
set_option maxRecDepth 100000 in
theorem lifted (os:Os) (started:os.Started) (H:Type) (enc:TypeId×Value->H) (F:Stop.Interp) :
  ReturnsInHanded {} Tryz.checked os 4 .any ((Rows.OpenSpec.upto Rows.modelOrdersSpec).preRow enc Tryz.prog Tryz.f4 Rows.modelOrdersUptoRow.domain false Rows.modelOrdersUptoRow.laid) (((Rows.OpenSpec.upto Rows.modelOrdersSpec).at F).post enc Tryz.prog Tryz.f4 false true false false):=by
 obtain ⟨places,hx⟩:=reads os enc
 refine returnsInHanded_of_row (C:=Tryz.checked) (s:=Rows.OpenSpec.upto Rows.modelOrdersSpec) own started (by kernel_rfl) Tryz.func4
  (witness_row_at (enc:=enc) (C:=Tryz.checked) false (laidWorld os) args0 (laidWorld_os os) (by kernel_rfl) (by kernel_rfl) (by kernel_rfl)
   (OpenSpec.preRow_of_cond 8 hx (by kernel_rfl) (fun k hk=>by cases hk;kernel_rfl) (by kernel_rfl) (laidWorld_met os _))) ?_
 intro W base args ds gs before hval hW _ hcond _ hL hsh _
 exact contract H enc W base args ds gs before hval hW (of_decide_eq_true (hcond _ rfl)) (errRange_of hL)
theorem said:Rows.ModelOrdersUptoSaid :=
 OpenClaim.holds_of_cond 4 Tryz.f4 rfl rfl rfl rfl rfl rfl rfl ⟨rfl,rfl,rfl,rfl,rfl⟩ rfl rfl rfl rfl rfl (by kernel_rfl) Tryz.func4 (by kernel_rfl)
  (of_decide_eq_true (by kernel_rfl)) (by unfold Func.isWrapper;first | (rw [if_pos (by decide +kernel)];kernel_rfl) | (rw [if_neg (by decide +kernel)];exact ⟨rfl,rfl⟩))
  (fun os started H enc _ F=>by rw [OpenClaim.pre_eq_preRow];exact lifted os started H enc F)
theorem card:Rows.ModelOrdersUptoCardSaid :=
 Claim7.holds_tied_plain_at .later [] _ _ _ _ said (fun _ h=>by cases h) (by kernel_rfl) (fun _ h=>by cases h) modelOrdersUpto_row_tie rfl ⟨rfl,rfl⟩ (by kernel_rfl) rfl
  (plain_of Rows.modelOrdersUptoRow.func 4 _ _ (by kernel_rfl) Tryz.func4 Tryz.params4 (by kernel_rfl) (by kernel_rfl)) (by kernel_rfl)
end Go.Proofs.YtfbbkmdhnkmonaaGreatDoor.modelOrdersC
