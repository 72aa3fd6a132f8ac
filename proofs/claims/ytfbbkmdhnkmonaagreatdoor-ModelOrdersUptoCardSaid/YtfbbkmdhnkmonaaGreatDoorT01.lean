/- Proved, each under the conditions that it names: Small lemmas that every text of this claim may use; A world for the witness of the laws on tokens: the listed tables and errors as they are laid; what the walks on guards lean on; A state's data. -/
import Derived.Lib.Hide
import Derived.Deep.RegionHeld
import Derived.WalkKit
import Derived.WalkLawsBesides
import Derived.WalkSpells
import Derived.Deep.QuietTactic
import Derived.BigQuiet
import Derived.ProofKit
import Derived.OpenShut
import Derived.Carry
import Derived.Deep.Slices
import Derived.Deep.Strs
import Derived.Deep.DeepHandedRow
import Derived.Lib.LaidTab
import Derived.Shelf.Strings.Trim
import Derived.Shelf.Small.Utf8
import Derived.Shelf.Small.Bits
import Derived.Shelf.Small.Strs
import Derived.Shelf.Strconv.Itoa0
import Derived.Shelf.Strconv.Itoa1
import Derived.Shelf.LaysM
import Derived.Shelf.Strconv.Itoa2
import Derived.Shelf.Strconv.Itoa3
import Derived.Shelf.Strconv.ParseIntEmpty
import Derived.Shelf.Strconv.Clone
import Derived.Shelf.Strconv.SyntaxError
import Derived.Shelf.LaysC
import Derived.Shelf.Strconv.ToError
import Derived.Shelf.Strconv.Lower
import Derived.Shelf.Strconv.ParseUint10
import Derived.Shelf.Strconv.ParseUint10Empty
import Derived.Shelf.Strconv.ParseUint10Any
import Derived.Shelf.Strconv.ParseInt10
import Derived.Shelf.Strconv.RangeError
import Derived.Shelf.Strconv.ToErrorRange
import Derived.Shelf.Strconv.ParseUintEmpty
import Derived.Shelf.Strconv.ParseUint10b64
import Derived.Shelf.Strconv.ParseUint10b32
import Derived.Shelf.Strconv.ParseUint10b16
import Derived.Shelf.Strconv.ParseUint10b8
import Derived.Shelf.Strconv.ParseUint10At
import Derived.Shelf.Strconv.ParseInt10At64
import Derived.Shelf.Strconv.ParseInt10At32
import Derived.Shelf.Strconv.ParseInt10At16
import Derived.Shelf.Strconv.ParseInt10At8
import Derived.Shelf.Strconv.ParseInt10All
import Derived.Shelf.Strconv.ParseIntPublic10
import Derived.Shelf.Strconv.ErrVarParseInt
import Derived.Shelf.Strings.Search1
import Derived.Shelf.GgClosure.StringsIndexFunc
import Derived.Ground.GgwProg
import Derived.Shelf.GgClosure.StringsIndexFuncTop
import Derived.Shelf.GgClosure.StringsRunes
import Derived.Shelf.Unicode.Decode
import Derived.Shelf.Strings.Runes
import Derived.Shelf.Strings.AsciiSet
import Derived.Shelf.Unicode.DecodeSlow
import Derived.Shelf.Unicode.DecodeAny
import Derived.Shelf.Strings.FuncGrows
import Derived.Shelf.Slices.Turned
import Derived.Ground.Names2Prog
import Derived.Shelf.Slices.Clone
import Derived.Shelf.Slices.CompactS
import Derived.Ground.SlgnProg
import Derived.Shelf.SlicesE.Clone
import Derived.Ground.SlgfProg
import Derived.Shelf.SlicesE.IndexFunc
import Derived.Ground.SlgqProg
import Derived.Shelf.SlicesQ.Index
import Derived.Shelf.SlicesQ.Contains
import Derived.Shelf.SlicesQ.IndexFunc
import Derived.Test.YtfbbkmdhnkmonaaGreatDoorProg
import Derived.Lay
import Derived.LaidLaws
import Derived.Stop.LaidErr
import Derived.Test.YtfbbkmdhnkmonaaGreatDoorCards
import Derived.Test.YtfbbkmdhnkmonaaGreatDoorTie
import Derived.OwnWalk
import Derived.WalkSmall
import Derived.Laws.MakeOwn
import Derived.Lib.SlTrimSet
set_option maxRecDepth 100000
set_option maxHeartbeats 32000000
namespace Go.Proofs.YtfbbkmdhnkmonaaGreatDoor
open Go.RowKit
theorem tK {P:Program} {ops:Array Oper} {Q:Exit->Act->World->Prop} {md:Region.Mode} {S:World->Prop} {i:Nat} {oi:Oper} {v:Value} {fuel:Nat} {listed:Array Bool} {a a':Act} {w:World}
  (hy:YieldsIf P ops S oi v a) (hS:S w) (h:wpAnyH P md ops Q S fuel (listed.setIfInBounds i true) a' w) (hi:ops[i]? = some oi:=by rfl) (hs:Region.noSelect ops=true:=by kernel_rfl) (hf:Region.free md ops listed i=true:=by kernel_rfl) (hr:(Region.ready md ops listed).contains i=true:=by kernel_rfl)
  (hQ:∀c a w,Q (.panic c) (a.put oi.dst v) w->Q (.panic c) a w:=by exact fun _ _ _ h=>h) (hp:a.put oi.dst v=a':=by simp only [Act.put,List.setIfInBounds_toArray,List.set_cons_zero,List.set_cons_succ];rfl):wpAnyH P md ops Q S (fuel+1) listed a w :=
 wpAnyH_take hi hs hf hr hQ hy hS (hp▸h)
theorem kK {S:World->Prop} {X K:Act->World->Prop} {a a':Act} {w:World} (hK:Shut (∀a w,S w->(S w->X a w)->K a w)) (hS:S w) (h:S w->X a' w) (hp:a=a':=by first | (simp only [Act.put,List.setIfInBounds_toArray,List.set_cons_zero,List.set_cons_succ];rfl) | rfl):K a w:=hK.out a w hS (fun s=>hp▸h s)
theorem rD {P:Program} {ops:Array Oper} {Q:Exit->Act->World->Prop} {md:Region.Mode} {S:World->Prop} (rs:List Nat) {fuel:Nat} {listed:Array Bool} {a:Act} {w:World} (h:AllReadyH P md ops Q S fuel listed a w rs) (hr:Region.ready md ops listed=rs:=by kernel_rfl) (hne:rs≠[]:=by simp):wpAnyH P md ops Q S (fuel+1) listed a w:=wpAnyH_ready hr hne h
theorem gE0 {α:Type _} {a:α} {l:List α} {h:0<(a :: l).length}:(a :: l)[0]=a:=rfl
theorem gE1 {α:Type _} {a:α} {l:List α} {i:Nat} {h:i+1<(a :: l).length}:(a :: l)[i+1]=l[i]'(Nat.lt_of_succ_lt_succ h):=rfl
theorem hid {p:Prop} (h:p):Hid p:=h
theorem ret_bool {a b:Bool} (h:a=b):Ending.returned (.bool a)=Ending.returned (.bool b):=by rw [h]
theorem ret_int {k:IntKind} {a b:Int} (h:a=b):Ending.returned (.int k a)=Ending.returned (.int k b):=by rw [h]
theorem ba_len (s:ByteArray):s.data.toList.length=s.size:=rfl
theorem ba_eq (a b:ByteArray):(a.toList==b.toList)=decide (a=b):=by
 rw [Go.ByteArray.toList_eq,Go.ByteArray.toList_eq,Bool.eq_iff_iff]
 simp only [beq_iff_eq,decide_eq_true_eq]
 constructor
 ·intro h;cases a;cases b;simp_all
 rintro rfl;rfl
theorem take_snoc (s:ByteArray) (k:Nat) (h:k<s.size):s.data.toList.take (k+1)=s.data.toList.take k++[s[k]]:=by
 rw [List.take_succ_eq_append_getElem (by simpa using h)];rfl
theorem all_snoc {p:UInt8->Bool} {s:ByteArray} {k:Nat} (h:k<s.size) (h0:(s.data.toList.take k).all p=true) (h1:p s[k]=true):(s.data.toList.take (k+1)).all p=true:=by
 rw [take_snoc s k h,List.all_append,h0];simp [h1]
theorem all_no {p:UInt8->Bool} {s:ByteArray} {k:Nat} (h:k<s.size) (h1:p s[k]=false):s.data.toList.all p=false:=by
 rw [List.all_eq_false];exact ⟨s[k],by simp [ByteArray.getElem_eq_getElem_data],by simp [h1]⟩
theorem all_end {p:UInt8->Bool} {s:ByteArray} {k:Nat} (h:¬k<s.size) (h0:(s.data.toList.take k).all p=true):s.data.toList.all p=true:=by
 rwa [List.take_of_length_le (by rw [ba_len];omega)] at h0
theorem below_drewN {B:Nat} {a w:World} (h:Below B a w) (n:Nat):Below B a (w.drewN n):=⟨h.os,h.tape,h.output,h.size,h.block⟩
structure Row {α:Type} (k:Nat) (R:World->(Nat->Value)->α->Prop) (B:Nat) (w:World) (v:Value) (xs:List α):Prop where
 ex:∃(a:Option Addr) (c b off:Nat),v=.slice a xs.length c/\xs.length<=c/\(0<xs.length->a=some ⟨b,off,none⟩/\b<B) /\
  ∀j x,xs[j]? = some x->∃cs:Nat->Value,(∀i,i<k->w.cell? ⟨b,off+j*k+i,none⟩=some (cs i))/\R w cs x
theorem Row.below {α:Type} {k:Nat} {R:World->(Nat->Value)->α->Prop} {B:Nat} {w w':World} {v:Value} {xs:List α} (h:Row k R B w v xs) (hb:Below B w w')
  (hR:∀cs x,x∈xs->R w cs x->R w' cs x):Row k R B w' v xs:=by
 obtain ⟨a,c,b,off,hv,hle,ha,hc⟩:=h.ex
 refine ⟨a,c,b,off,hv,hle,ha,fun j x hj=>?_⟩
 obtain ⟨cs,h1,h2⟩:=hc j x hj
 have hl:j<xs.length:=by
  rcases Nat.lt_or_ge j xs.length with h | h
  ·exact h
  rw [List.getElem?_eq_none h] at hj;cases hj
 exact ⟨cs,fun i hi=>by rw [hb.cell (p:=⟨b,off+j*k+i,none⟩) (ha (by omega)).2];exact h1 i hi,hR _ _ (List.mem_of_getElem? hj) h2⟩
theorem Row.mono {α:Type} {k:Nat} {R:World->(Nat->Value)->α->Prop} {B B':Nat} {w:World} {v:Value} {xs:List α} (h:Row k R B w v xs) (hB:B<=B'):Row k R B' w v xs:=by
 obtain ⟨a,c,b,off,hv,hle,ha,hc⟩:=h.ex
 exact ⟨a,c,b,off,hv,hle,fun h=>⟨(ha h).1,Nat.lt_of_lt_of_le (ha h).2 hB⟩,hc⟩
def StrR (_:World) (cs:Nat->Value) (s:ByteArray):Prop:=cs 0=.string s
abbrev Strs (B:Nat) (w:World) (v:Value) (xs:List ByteArray):Prop:=Row 1 StrR B w v xs
def Str2R (_:World) (cs:Nat->Value) (s:ByteArray×ByteArray):Prop:=cs 0=.string s.1/\cs 1=.string s.2
abbrev Str2s (B:Nat) (w:World) (v:Value) (xs:List (ByteArray×ByteArray)):Prop:=Row 2 Str2R B w v xs
theorem Strs.below {B:Nat} {w w':World} {v:Value} {xs:List ByteArray} (h:Strs B w v xs) (hb:Below B w w'):Strs B w' v xs:=Row.below h hb fun _ _ _ h=>h
theorem Str2s.below {B:Nat} {w w':World} {v:Value} {xs:List (ByteArray×ByteArray)} (h:Str2s B w v xs) (hb:Below B w w'):Str2s B w' v xs:=Row.below h hb fun _ _ _ h=>h
theorem Str2s.cells {B:Nat} {w:World} {v:Value} {xs:List (ByteArray×ByteArray)} (h:Str2s B w v xs):∃(a:Option Addr) (c b off:Nat),v=.slice a xs.length c/\xs.length<=c /\
  (0<xs.length->a=some ⟨b,off,none⟩/\b<B)/\∀j (hj:j<xs.length),w.cell? ⟨b,off+j*2,none⟩=some (.string xs[j].1)/\w.cell? ⟨b,off+j*2+1,none⟩=some (.string xs[j].2):=by
 obtain ⟨a,c,b,off,hv,hle,ha,hc⟩:=h.ex
 refine ⟨a,c,b,off,hv,hle,ha,fun j hj=>?_⟩
 obtain ⟨cs,h1,h2,h3⟩:=hc j _ (List.getElem?_eq_getElem hj)
 exact ⟨by rw [<-h2];exact h1 0 (by omega),by rw [<-h3];exact h1 1 (by omega)⟩
theorem Strs.cells {B:Nat} {w:World} {v:Value} {xs:List ByteArray} (h:Strs B w v xs):∃(a:Option Addr) (c b off:Nat),v=.slice a xs.length c/\xs.length<=c /\
  (0<xs.length->a=some ⟨b,off,none⟩/\b<B)/\∀j (hj:j<xs.length),w.cell? ⟨b,off+j,none⟩=some (.string xs[j]):=by
 obtain ⟨a,c,b,off,hv,hle,ha,hc⟩:=h.ex
 refine ⟨a,c,b,off,hv,hle,ha,fun j hj=>?_⟩
 obtain ⟨cs,h1,h2⟩:=hc j _ (List.getElem?_eq_getElem hj)
 have:=h1 0 (by omega)
 rw [h2] at this
 simpa using this
end Go.Proofs.YtfbbkmdhnkmonaaGreatDoor
namespace Go.Proofs.YtfbbkmdhnkmonaaGreatDoor
open Go.ChangeShapes Go.WideShapes Go.ChangeAt Go.RowKit Go.Deep
section
variable {H:Type} {enc:TypeId×Value->H} {P:Program} {w:World} {base:Nat} {spare:Nat->Bool} {held:Bool}
theorem spot_none {w:World} {a:Addr} {v:Value} (h:w.cell? a=some v):a=⟨a.block,a.off,none⟩:=by
 obtain ⟨b,o,s⟩:=a
 cases s with
 | none=>rfl
 | some s =>
  unfold World.cell? at h
  split at h
  ·simp at h
  cases h
end
theorem argsStay {H:Type} {enc:TypeId×Value->H} {P:Program} {W W':World} (hl:laidOutB P=true) (hb:Below W.heap.size W W') :
  ∀(ts:List TypeId) (vs:List Value) (ds:List (DataW H)) (p:List MemPlace),ts.all (fun t=>P.readableRec t&&decide (t<P.types.size))=true ->
   DataW.TrodAll enc P W 0 (fun _=>true) true ts vs ds p->(∀x∈p,x.block<W.heap.size)->DataW.TrodAll enc P W' 0 (fun b=>decide (b<W.heap.size)) true ts vs ds p
 | [],[],[],_,_,h,_=>h
 | t :: ts,v :: vs,d :: ds,_,hr,h,hlt=>by
  obtain ⟨p,q,h1,h2,rfl⟩:=h
  simp only [List.all_cons,Bool.and_eq_true,decide_eq_true_eq] at hr
  exact ⟨p,q,Below.trod hl hr.1.1 hr.1.2 h1 hb (fun x hx=>hlt x (by simp [hx])),argsStay hl hb ts vs ds q hr.2 h2 (fun x hx=>hlt x (by simp [hx])),rfl⟩
 | [],[],_ :: _,_,_,h,_=>h.elim
 | [],_ :: _,_,_,_,h,_=>h.elim
 | _ :: _,[],_,_,_,h,_=>h.elim
 | _ :: _,_ :: _,[],_,_,h,_=>h.elim
end Go.Proofs.YtfbbkmdhnkmonaaGreatDoor
namespace Go.Proofs
open Go.Shelf
def Tryz.lays161_ren:Go.Shelf.Ren:=⟨fun | 161=>113 | 231=>136 | 227=>137 | 233=>138 | 235=>139 | 228=>164 | 197=>165 | 151=>166 | 260=>183 | 152=>184 | 137=>112 | 119=>193 | 224=>194 | 225=>195 | 217=>135 | 266=>163 | n=>n,fun | 9=>9 | 4=>4 | 3=>3 | 5=>5 | 117=>200 | 116=>199 | 0=>0 | 124=>203 | 105=>225 | 21=>21 | 119=>247 | 46=>117 | 139=>250 | 138=>249 | n=>n,fun | 3=>3 | 4=>4 | n=>n⟩
theorem Tryz.lays161:Go.Proofs.Lays.n161 Tryz.prog Tryz.lays161_ren:={
 mixed:=by kernel_rfl
 f119:=Tryz.func193.trans (congrArg some (by kernel_rfl))
 f137:=Tryz.func112.trans (congrArg some (by kernel_rfl))
 f151:=Tryz.func166.trans (congrArg some (by kernel_rfl))
 f152:=Tryz.func184.trans (congrArg some (by kernel_rfl))
 f161:=Tryz.func113.trans (congrArg some (by kernel_rfl))
 f197:=Tryz.func165.trans (congrArg some (by kernel_rfl))
 f217:=Tryz.func135.trans (congrArg some (by kernel_rfl))
 f224:=Tryz.func194.trans (congrArg some (by kernel_rfl))
 f225:=Tryz.func195.trans (congrArg some (by kernel_rfl))
 f227:=Tryz.func137.trans (congrArg some (by kernel_rfl))
 f228:=Tryz.func164.trans (congrArg some (by kernel_rfl))
 f231:=Tryz.func136.trans (congrArg some (by kernel_rfl))
 f233:=Tryz.func138.trans (congrArg some (by kernel_rfl))
 f235:=Tryz.func139.trans (congrArg some (by kernel_rfl))
 f260:=Tryz.func183.trans (congrArg some (by kernel_rfl))
 f266:=Tryz.func163.trans (congrArg some (by kernel_rfl))
 t0:=Tryz.underlying0
 a0:=Tryz.isAgg0
 z0:=Tryz.sizeOf0
 v0:=Tryz.zeroValue0
 t3:=Tryz.underlying3
 a3:=Tryz.isAgg3
 z3:=Tryz.sizeOf3
 v3:=Tryz.zeroValue3
 t4:=Tryz.underlying4
 a4:=Tryz.isAgg4
 z4:=Tryz.sizeOf4
 v4:=Tryz.zeroValue4
 t5:=Tryz.underlying5
 a5:=Tryz.isAgg5
 z5:=Tryz.sizeOf5
 v5:=Tryz.zeroValue5
 t9:=Tryz.underlying9
 a9:=Tryz.isAgg9
 z9:=Tryz.sizeOf9
 v9:=Tryz.zeroValue9
 t21:=Tryz.underlying21
 a21:=Tryz.isAgg21
 z21:=Tryz.sizeOf21
 v21:=Tryz.zeroValue21
 t46:=Tryz.underlying117
 a46:=Tryz.isAgg117
 z46:=Tryz.sizeOf117
 v46:=Tryz.zeroValue117
 t105:=Tryz.underlying225
 a105:=Tryz.isAgg225
 z105:=Tryz.sizeOf225
 v105:=Tryz.zeroValue225
 t116:=Tryz.underlying199
 a116:=Tryz.isAgg199
 z116:=Tryz.sizeOf199
 t117:=Tryz.underlying200
 a117:=Tryz.isAgg200
 z117:=Tryz.sizeOf200
 v117:=Tryz.zeroValue200
 t119:=Tryz.underlying247
 a119:=Tryz.isAgg247
 z119:=Tryz.sizeOf247
 t124:=Tryz.underlying203
 a124:=Tryz.isAgg203
 z124:=Tryz.sizeOf203
 v124:=Tryz.zeroValue203
 t138:=Tryz.underlying249
 a138:=Tryz.isAgg249
 z138:=Tryz.sizeOf249
 v138:=Tryz.zeroValue249
 t139:=Tryz.underlying250
 a139:=Tryz.isAgg250
 z139:=Tryz.sizeOf250
 v139:=Tryz.zeroValue250
 g3:=by kernel_rfl
 g4:=by kernel_rfl }
def Tryz.lays137_ren:Go.Shelf.Ren:=⟨fun | 137=>112 | 217=>135 | 266=>163 | n=>n,fun | 9=>9 | 5=>5 | 3=>3 | n=>n,fun | n=>n⟩
theorem Tryz.lays137:Go.Proofs.Lays.n137 Tryz.prog Tryz.lays137_ren:={
 mixed:=by kernel_rfl
 f137:=Tryz.func112.trans (congrArg some (by kernel_rfl))
 f217:=Tryz.func135.trans (congrArg some (by kernel_rfl))
 f266:=Tryz.func163.trans (congrArg some (by kernel_rfl))
 t3:=Tryz.underlying3
 a3:=Tryz.isAgg3
 z3:=Tryz.sizeOf3
 v3:=Tryz.zeroValue3
 t5:=Tryz.underlying5
 a5:=Tryz.isAgg5
 z5:=Tryz.sizeOf5
 v5:=Tryz.zeroValue5
 t9:=Tryz.underlying9
 a9:=Tryz.isAgg9
 z9:=Tryz.sizeOf9
 v9:=Tryz.zeroValue9 }
open Go.RowKit in
theorem Tryz.strings_IndexByte (s:ByteArray) (c:Int) (w:World) :
  Calls Tryz.prog 112 #[.string s,.int .u8 c] w fun e w'=>e=.returned (.int .i64 (Lib.indexByte s.data.toList c.toNat.toUInt8))/\w'=w:=Any.strings_IndexByte Tryz.lays137 s c w
def Tryz.laysC245_ren:Go.Shelf.Ren:=⟨fun | 245=>141 | 279=>168 | 280=>169 | 281=>170 | 282=>171 | 316=>187 | 171=>189 | 205=>188 | 243=>196 | 246=>199 | 283=>204 | 284=>205 | 285=>206 | 286=>207 | 129=>110 | 317=>208 | 318=>209 | 319=>210 | 320=>211 | 337=>212 | 338=>213 | n=>n,fun | 9=>9 | 3=>3 | 75=>174 | 167=>228 | 4=>4 | 168=>231 | 210=>243 | 37=>237 | 0=>0 | 127=>252 | 145=>255 | 143=>253 | 2=>2 | 171=>259 | 53=>169 | 5=>5 | 173=>261 | 212=>264 | 51=>167 | 20=>20 | 213=>265 | 46=>117 | 232=>266 | 233=>267 | 80=>258 | n=>n,fun | 15=>1 | 16=>2 | 17=>5 | 18=>6 | 19=>7 | n=>n⟩
def Tryz.laysC174_ren:Go.Shelf.Ren:=⟨fun | 174=>114 | 247=>140 | 245=>141 | 287=>167 | 279=>168 | 280=>169 | 281=>170 | 282=>171 | 321=>185 | 322=>186 | 316=>187 | 171=>189 | 205=>188 | 243=>196 | 246=>199 | 283=>204 | 284=>205 | 285=>206 | 286=>207 | 129=>110 | 317=>208 | 318=>209 | 319=>210 | 320=>211 | 337=>212 | 338=>213 | n=>n,fun | 9=>9 | 3=>3 | 2=>2 | 75=>174 | 85=>175 | 4=>4 | 167=>228 | 5=>5 | 53=>169 | 175=>229 | 46=>117 | 168=>231 | 37=>237 | 0=>0 | 210=>243 | 21=>21 | 127=>252 | 145=>255 | 143=>253 | 171=>259 | 173=>261 | 212=>264 | 51=>167 | 20=>20 | 213=>265 | 232=>266 | 233=>267 | 80=>258 | n=>n,fun | 15=>1 | 16=>2 | 17=>5 | 18=>6 | 19=>7 | n=>n⟩
theorem Tryz.laysC174:Go.Proofs.LaysC.n174 Tryz.prog Tryz.laysC174_ren:={
 mixed:=by kernel_rfl
 f129:=Tryz.func110.trans (congrArg some (by kernel_rfl))
 f171:=Tryz.func189.trans (congrArg some (by kernel_rfl))
 f174:=Tryz.func114.trans (congrArg some (by kernel_rfl))
 f205:=Tryz.func188.trans (congrArg some (by kernel_rfl))
 f243:=Tryz.func196.trans (congrArg some (by kernel_rfl))
 f245:=Tryz.func141.trans (congrArg some (by kernel_rfl))
 f246:=Tryz.func199.trans (congrArg some (by kernel_rfl))
 f247:=Tryz.func140.trans (congrArg some (by kernel_rfl))
 f279:=Tryz.func168.trans (congrArg some (by kernel_rfl))
 f280:=Tryz.func169.trans (congrArg some (by kernel_rfl))
 f281:=Tryz.func170.trans (congrArg some (by kernel_rfl))
 f282:=Tryz.func171.trans (congrArg some (by kernel_rfl))
 f283:=Tryz.func204.trans (congrArg some (by kernel_rfl))
 f284:=Tryz.func205.trans (congrArg some (by kernel_rfl))
 f285:=Tryz.func206.trans (congrArg some (by kernel_rfl))
 f286:=Tryz.func207.trans (congrArg some (by kernel_rfl))
 f287:=Tryz.func167.trans (congrArg some (by kernel_rfl))
 f316:=Tryz.func187.trans (congrArg some (by kernel_rfl))
 f317:=Tryz.func208.trans (congrArg some (by kernel_rfl))
 f318:=Tryz.func209.trans (congrArg some (by kernel_rfl))
 f319:=Tryz.func210.trans (congrArg some (by kernel_rfl))
 f320:=Tryz.func211.trans (congrArg some (by kernel_rfl))
 f321:=Tryz.func185.trans (congrArg some (by kernel_rfl))
 f322:=Tryz.func186.trans (congrArg some (by kernel_rfl))
 f337:=Tryz.func212.trans (congrArg some (by kernel_rfl))
 f338:=Tryz.func213.trans (congrArg some (by kernel_rfl))
 t0:=Tryz.underlying0
 a0:=Tryz.isAgg0
 z0:=Tryz.sizeOf0
 v0:=Tryz.zeroValue0
 t2:=Tryz.underlying2
 a2:=Tryz.isAgg2
 z2:=Tryz.sizeOf2
 v2:=Tryz.zeroValue2
 t3:=Tryz.underlying3
 a3:=Tryz.isAgg3
 z3:=Tryz.sizeOf3
 v3:=Tryz.zeroValue3
 t4:=Tryz.underlying4
 a4:=Tryz.isAgg4
 z4:=Tryz.sizeOf4
 v4:=Tryz.zeroValue4
 t5:=Tryz.underlying5
 a5:=Tryz.isAgg5
 z5:=Tryz.sizeOf5
 v5:=Tryz.zeroValue5
 t9:=Tryz.underlying9
 a9:=Tryz.isAgg9
 z9:=Tryz.sizeOf9
 v9:=Tryz.zeroValue9
 t20:=Tryz.underlying20
 a20:=Tryz.isAgg20
 z20:=Tryz.sizeOf20
 v20:=Tryz.zeroValue20
 t21:=Tryz.underlying21
 a21:=Tryz.isAgg21
 z21:=Tryz.sizeOf21
 v21:=Tryz.zeroValue21
 t37:=Tryz.underlying237
 a37:=Tryz.isAgg237
 z37:=Tryz.sizeOf237
 v37:=Tryz.zeroValue237
 t46:=Tryz.underlying117
 a46:=Tryz.isAgg117
 z46:=Tryz.sizeOf117
 v46:=Tryz.zeroValue117
 t51:=Tryz.underlying167
 a51:=Tryz.isAgg167
 z51:=Tryz.sizeOf167
 v51:=Tryz.zeroValue167
 t53:=Tryz.underlying169
 a53:=Tryz.isAgg169
 z53:=Tryz.sizeOf169
 v53:=Tryz.zeroValue169
 t75:=Tryz.underlying174
 a75:=Tryz.isAgg174
 z75:=Tryz.sizeOf174
 v75:=Tryz.zeroValue174
 t85:=Tryz.underlying175
 a85:=Tryz.isAgg175
 z85:=Tryz.sizeOf175
 v85:=Tryz.zeroValue175
 t127:=Tryz.underlying252
 a127:=Tryz.isAgg252
 z127:=Tryz.sizeOf252
 v127:=Tryz.zeroValue252
 t143:=Tryz.underlying253
 a143:=Tryz.isAgg253
 z143:=Tryz.sizeOf253
 v143:=Tryz.zeroValue253
 t145:=Tryz.underlying255
 a145:=Tryz.isAgg255
 z145:=Tryz.sizeOf255
 v145:=Tryz.zeroValue255
 t167:=Tryz.underlying228
 a167:=Tryz.isAgg228
 z167:=Tryz.sizeOf228
 v167:=Tryz.zeroValue228
 t168:=Tryz.underlying231
 a168:=Tryz.isAgg231
 z168:=Tryz.sizeOf231
 v168:=Tryz.zeroValue231
 t171:=Tryz.underlying259
 a171:=Tryz.isAgg259
 z171:=Tryz.sizeOf259
 v171:=Tryz.zeroValue259
 t173:=Tryz.underlying261
 a173:=Tryz.isAgg261
 z173:=Tryz.sizeOf261
 v173:=Tryz.zeroValue261
 t175:=Tryz.underlying229
 a175:=Tryz.isAgg229
 z175:=Tryz.sizeOf229
 v175:=Tryz.zeroValue229
 t210:=Tryz.underlying243
 a210:=Tryz.isAgg243
 z210:=Tryz.sizeOf243
 v210:=Tryz.zeroValue243
 t212:=Tryz.underlying264
 a212:=Tryz.isAgg264
 z212:=Tryz.sizeOf264
 v212:=Tryz.zeroValue264
 t213:=Tryz.underlying265
 a213:=Tryz.isAgg265
 z213:=Tryz.sizeOf265
 t232:=Tryz.underlying266
 a232:=Tryz.isAgg266
 z232:=Tryz.sizeOf266
 v232:=Tryz.zeroValue266
 t233:=Tryz.underlying267
 a233:=Tryz.isAgg267
 z233:=Tryz.sizeOf267
 v233:=Tryz.zeroValue267
 g15:=by kernel_rfl
 g16:=by kernel_rfl
 g17:=by kernel_rfl
 g18:=by kernel_rfl
 g19:=by kernel_rfl
 t80:=Tryz.underlying258
 a80:=Tryz.isAgg258
 z80:=Tryz.sizeOf258
 v80:=Tryz.zeroValue258
 i0:=by kernel_rfl
 i2:=by kernel_rfl
 i3:=by kernel_rfl
 i4:=by kernel_rfl
 i5:=by kernel_rfl
 i9:=by kernel_rfl
 i20:=by kernel_rfl
 i21:=by kernel_rfl
 i37:=by kernel_rfl
 i46:=by kernel_rfl
 i51:=by kernel_rfl
 i53:=by kernel_rfl
 i75:=by kernel_rfl
 i80:=by kernel_rfl
 i85:=by kernel_rfl
 i127:=by kernel_rfl
 i143:=by kernel_rfl
 i145:=by kernel_rfl
 i167:=by kernel_rfl
 i168:=by kernel_rfl
 i171:=by kernel_rfl
 i173:=by kernel_rfl
 i175:=by kernel_rfl
 i210:=by kernel_rfl
 i212:=by kernel_rfl
 i232:=by kernel_rfl
 i233:=by kernel_rfl
 m15:=by kernel_rfl
 m16:=by kernel_rfl
 m17:=by kernel_rfl
 m18:=by kernel_rfl
 m19:=by kernel_rfl
 c0:=by kernel_rfl
 c2:=by kernel_rfl
 c3:=by kernel_rfl
 c4:=by kernel_rfl
 c5:=by kernel_rfl
 c9:=by kernel_rfl
 c20:=by kernel_rfl
 c21:=by kernel_rfl
 c37:=by kernel_rfl
 c46:=by kernel_rfl
 c51:=by kernel_rfl
 c53:=by kernel_rfl
 c75:=by kernel_rfl
 c80:=by kernel_rfl
 c85:=by kernel_rfl
 c127:=by kernel_rfl
 c143:=by kernel_rfl
 c145:=by kernel_rfl
 c167:=by kernel_rfl
 c168:=by kernel_rfl
 c171:=by kernel_rfl
 c173:=by kernel_rfl
 c175:=by kernel_rfl
 c210:=by kernel_rfl
 c212:=by kernel_rfl
 c213:=by kernel_rfl
 c232:=by kernel_rfl
 c233:=by kernel_rfl }
open Go.RowKit in
theorem Tryz.strconv_ParseInt_10_at64_ok (s:ByteArray) (hmax:s.size<=9223372036854775806) (v:Int) (h:Lib.parseIntB 64 s.data.toList=.ok v) (w:World) :
  Calls Tryz.prog 114 #[.string s,.int .i64 10,.int .i64 64] w fun e w'=>e=.returned (.tuple #[.int .i64 v,.nilIface])/\(w'=w\/∃t,w'=Lib.bytesWorld w 5 t):=Any.strconv_ParseInt_10_at64_ok Tryz.laysC174 s hmax v h w
open Go.RowKit in
theorem Tryz.strconv_ParseInt_10_at64_range (s:ByteArray) (hlim:s.size<=281474976710656) (h:Lib.parseIntB 64 s.data.toList=.range) (ev:Value) (w:World) (hv:w.cell? ⟨2,0,none⟩=some ev) (hev:ev=.nilIface\/∃te pe,ev=.iface te pe) :
  Calls Tryz.prog 114 #[.string s,.int .i64 10,.int .i64 64] w fun e w'=>∃N,e=.returned (.tuple #[.int .i64 (Lib.intSat 64 s.data.toList),.iface 231 (.pointer (some ⟨N,0,none⟩))])/\w.heap.size<=N/\w'.heap[N]? = some (.cells #[.string ⟨#[80,97,114,115,101,73,110,116]⟩,.string s,ev] 243 (0,0))/\Below w.heap.size w w':=Any.strconv_ParseInt_10_at64_range Tryz.laysC174 s hlim h ev w hv hev
def Tryz.laysGw15_ren:Go.Shelf.Ren:=⟨fun | 15=>142 | 20=>172 | n=>n,fun | 9=>9 | 23=>206 | 3=>3 | 4=>4 | 0=>0 | 21=>21 | n=>n,fun | n=>n⟩
theorem Tryz.laysGw15:Go.Proofs.LaysGw.n15 Tryz.prog Tryz.laysGw15_ren:={
 mixed:=by kernel_rfl
 f15:=Tryz.func142.trans (congrArg some (by kernel_rfl))
 f20:=Tryz.func172.trans (congrArg some (by kernel_rfl))
 t0:=Tryz.underlying0
 a0:=Tryz.isAgg0
 z0:=Tryz.sizeOf0
 v0:=Tryz.zeroValue0
 i0:=by kernel_rfl
 t3:=Tryz.underlying3
 a3:=Tryz.isAgg3
 z3:=Tryz.sizeOf3
 v3:=Tryz.zeroValue3
 i3:=by kernel_rfl
 t4:=Tryz.underlying4
 a4:=Tryz.isAgg4
 z4:=Tryz.sizeOf4
 v4:=Tryz.zeroValue4
 i4:=by kernel_rfl
 t9:=Tryz.underlying9
 a9:=Tryz.isAgg9
 z9:=Tryz.sizeOf9
 v9:=Tryz.zeroValue9
 i9:=by kernel_rfl
 t21:=Tryz.underlying21
 a21:=Tryz.isAgg21
 z21:=Tryz.sizeOf21
 v21:=Tryz.zeroValue21
 i21:=by kernel_rfl
 t23:=Tryz.underlying206
 a23:=Tryz.isAgg206
 z23:=Tryz.sizeOf206
 v23:=Tryz.zeroValue206
 i23:=by kernel_rfl }
open Go.RowKit Go.Lib in
theorem Tryz.strings_IndexFunc_grows (g:Nat) (lb:Array Value) (eg:∀args w,(callFunc g args).run Tryz.prog w=.ok (.enter g args) w) (p:Nat->Bool) (s:ByteArray) (w:World) (hp:PredGrows Tryz.prog g lb p w) :
  Calls Tryz.prog 142 #[.string s,.func (.func g) #[] lb] w fun e w'=>e=.returned (.int .i64 (Lib.idxFunc p true s))/\Below w.heap.size w w':=Any.strings_IndexFunc_grows Tryz.laysGw15 g lb eg p s w hp
def Tryz.lays110_ren:Go.Shelf.Ren:=⟨fun | 110=>88 | 109=>121 | n=>n,fun | 31=>26 | 9=>9 | 4=>4 | 3=>3 | 0=>0 | n=>n,fun | n=>n⟩
theorem Tryz.lays110:Go.Proofs.Lays.n110 Tryz.prog Tryz.lays110_ren:={
 mixed:=by kernel_rfl
 f109:=Tryz.func121.trans (congrArg some (by kernel_rfl))
 f110:=Tryz.func88.trans (congrArg some (by kernel_rfl))
 t0:=Tryz.underlying0
 a0:=Tryz.isAgg0
 z0:=Tryz.sizeOf0
 v0:=Tryz.zeroValue0
 t3:=Tryz.underlying3
 a3:=Tryz.isAgg3
 z3:=Tryz.sizeOf3
 v3:=Tryz.zeroValue3
 t4:=Tryz.underlying4
 a4:=Tryz.isAgg4
 z4:=Tryz.sizeOf4
 v4:=Tryz.zeroValue4
 t9:=Tryz.underlying9
 a9:=Tryz.isAgg9
 z9:=Tryz.sizeOf9
 v9:=Tryz.zeroValue9
 t31:=Tryz.underlying26
 a31:=Tryz.isAgg26
 z31:=Tryz.sizeOf26
 v31:=Tryz.zeroValue26 }
open Go.Lib in
theorem Tryz.slices_Contains_string (b off n c:Nat) (zs:List ByteArray) (x:ByteArray) (w:World) (hz:n<=zs.length) (hbig:n<=9223372036854775807) (hc:∀j,j<zs.length->w.cell? ⟨b,off+j,none⟩=some (.string (zs.getD j ByteArray.empty))) :
  Calls Tryz.prog 88 #[.slice (some ⟨b,off,none⟩) n c,.string x] w fun e w'=>e=.returned (.bool (Lib.containsS (zs.take n) x))/\w'=w:=Any.slices_Contains_string Tryz.lays110 b off n c zs x w hz hbig hc
open Go.Lib in
theorem Tryz.slices_Contains_string_empty (a:Option Addr) (c:Nat) (x:ByteArray) (w:World) :
  Calls Tryz.prog 88 #[.slice a 0 c,.string x] w fun e w'=>e=.returned (.bool false)/\w'=w:=Any.slices_Contains_string_empty Tryz.lays110 a c x w
def Tryz.laysNm216_ren:Go.Shelf.Ren:=⟨fun | 16=>44 | n=>n,fun | 24=>26 | 9=>9 | 4=>4 | n=>n,fun | n=>n⟩
theorem Tryz.laysNm216:Go.Proofs.Lays2.n16 Tryz.prog Tryz.laysNm216_ren:={
 mixed:=by kernel_rfl
 f16:=Tryz.func44.trans (congrArg some (by kernel_rfl))
 t4:=Tryz.underlying4
 a4:=Tryz.isAgg4
 z4:=Tryz.sizeOf4
 v4:=Tryz.zeroValue4
 t9:=Tryz.underlying9
 a9:=Tryz.isAgg9
 z9:=Tryz.sizeOf9
 v9:=Tryz.zeroValue9
 t24:=Tryz.underlying26
 a24:=Tryz.isAgg26
 z24:=Tryz.sizeOf26
 v24:=Tryz.zeroValue26
 i9:=by kernel_rfl }
open Go.RowKit Go.Lib in
theorem Tryz.slices_Clone_string (b off n c:Nat) (zs:List ByteArray) (w:World) (hz:n<=zs.length) (hbig:n*16<=140737488355328) (hc:∀j,j<zs.length->w.cell? ⟨b,off+j,none⟩=some (.string (zs.getD j ByteArray.empty))) :
  Calls Tryz.prog 44 #[.slice (some ⟨b,off,none⟩) n c] w fun e w'=>∃v',e=.returned v'/\w'.ownsRow w.heap.size 9 1 v' n ((zs.take n).map (Value.string))/\v'≠.slice none 0 0/\Below w.heap.size w w':=Any.slices_Clone_string Tryz.laysNm216 b off n c zs w hz hbig hc
open Go.RowKit Go.Lib in
theorem Tryz.slices_Clone_string_nil (n c:Nat) (w:World) :
  Calls Tryz.prog 44 #[.slice none n c] w fun e w'=>e=.returned (.slice none 0 0)/\w'=w:=Any.slices_Clone_string_nil Tryz.laysNm216 n c w
open Go.RowKit Go.Lib in
theorem Tryz.slices_Clone_string_zero (a:Addr) (c:Nat) (w:World) :
  Calls Tryz.prog 44 #[.slice (some a) 0 c] w fun e w'=>∃v',e=.returned v'/\w'.ownsRow w.heap.size 9 1 v' 0 []/\v'≠.slice none 0 0/\Below w.heap.size w w':=Any.slices_Clone_string_zero Tryz.laysNm216 a c w
end Go.Proofs
namespace Go.Proofs.YtfbbkmdhnkmonaaGreatDoor
open Go.ChangeShapes Go.WideShapes Go.ChangeAt Go.RowKit
theorem own:ownKnob Tryz.prog.godebug=none:=by kernel_rfl
theorem laidOut:laidOutB Tryz.prog=true:=by kernel_rfl
abbrev tokLaid:List (String×DataW Unit):=[("math/bits.deBruijn32tab",Rows.laid_math_bits_deBruijn32tab),("math/bits.deBruijn64tab",Rows.laid_math_bits_deBruijn64tab),("internal/strconv.uint64pow10",Rows.laid_internal_strconv_uint64pow10),("unicode/utf8.acceptRanges",Rows.laid_unicode_utf8_acceptRanges),("strconv.ErrRange",Rows.laid_strconv_ErrRange),("strconv.ErrSyntax",Rows.laid_strconv_ErrSyntax),("unicode/utf8.first",Rows.laid_unicode_utf8_first)]
theorem star_error : "*" ++ "errors.errorString" = "*errors.errorString":=by decide
theorem row_error (u:TypeId) (h:Tryz.prog.typeName? 3 u=some "*errors.errorString"):u=253 :=
 typeName_ptr_named (nm:= "errors.errorString") (by rw [star_error];kernel_rfl) (by kernel_rfl) (by decide) u (by rw [star_error];exact h)
theorem errRange_of {W:World} (hL:laidMet Tryz.prog tokLaid W):∃t p,W.cell? ⟨2,0,none⟩=some (.iface t p):=by
 have h3:laidMet Tryz.prog (("internal/strconv.uint64pow10",Rows.laid_internal_strconv_uint64pow10) :: [("unicode/utf8.acceptRanges",Rows.laid_unicode_utf8_acceptRanges),("strconv.ErrRange",Rows.laid_strconv_ErrRange),("strconv.ErrSyntax",Rows.laid_strconv_ErrSyntax),("unicode/utf8.first",Rows.laid_unicode_utf8_first)]) W:=hL.tail.tail
 have h5:=h3.tail.tail
 obtain ⟨a,s,hv,-,-,-⟩:=laid_sentinel (g:=2) (ti:=174) (tp:=253) (te:=255) (ts:=9) h5 (by kernel_rfl) (by kernel_rfl) Tryz.underlying174 row_error Tryz.underlying253 Tryz.underlying255 rfl rfl Tryz.underlying9 (by kernel_rfl) (by kernel_rfl)
 have c1:=World.var?_cell (show Tryz.prog.globalNamed "strconv.ErrRange" = some 2 by kernel_rfl) hv 0
 exact ⟨_,_,by simpa using c1⟩
noncomputable def laidWorld (os:Os):World:=World.laidAll Tryz.prog os tokLaid
theorem laidWorld_os (os:Os):(laidWorld os).os=os:=World.laidAll_os _ _ _
theorem laidWorld_met (os:Os) (args:Array Value):laidMet Tryz.prog tokLaid ((laidWorld os).forCall (fun _ _=>0) ⟨#[],args,[]⟩).memory :=
 laidMet_laidAll args (by kernel_rfl) (by kernel_rfl)
theorem plain_of {b:Bool} (name:String) (k:Nat) (fk:Func) (ts:Array TypeId) (h1:Tryz.prog.funcNamed name=some k) (h2:Tryz.prog.funcs[k]? = some fk) (h3:fk.params=ts) (h4:ts.toList.all (fun t=>!Tryz.prog.wantsStandIn t)=true)
  (h5:b=Tryz.pinned.checked.prog.looks []) (f:FuncId) (fn:Func) (hf:Tryz.pinned.checked.prog.funcNamed name=some f) (hfn:Tryz.pinned.checked.prog.funcs[f]? = some fn) :
  b=Tryz.pinned.checked.prog.looks []/\∀(j:Nat) t,fn.params[j]? = some t->Tryz.pinned.checked.prog.wantsStandIn t=false:=by
 obtain rfl:f=k:=(Option.some.inj (h1.symm.trans hf)).symm
 obtain rfl:fn=fk:=(Option.some.inj (h2.symm.trans hfn)).symm
 refine ⟨h5,fun j t ht=>?_⟩
 rw [h3] at ht
 have hm:t∈ts.toList:=Array.mem_toList_iff.2 (Array.mem_of_getElem? ht)
 have h6:Tryz.prog.wantsStandIn t=false:=by simpa using List.all_eq_true.1 h4 t hm
 exact h6
end Go.Proofs.YtfbbkmdhnkmonaaGreatDoor
namespace Go.Proofs.YtfbbkmdhnkmonaaGreatDoor
open Go.RowKit
structure Elem (P:Program) (T E:TypeId) (k bytes:Nat):Prop where
 sl:P.underlying T=some (.slice E)
 info:∃z:Value,(P.info? E).map (fun i=>(i.zero,i.size,i.bytes))=some (some z,k,bytes)/\z.cells.size=k
 pos:0<k
 size:∀w,(sizeOf E).run P w=.ok k w
structure Own (w:World) (base:Nat) (E:TypeId) (k:Nat) (va:Option Addr) (vc n:Nat) (cells:List Value):Prop where
 row:w.ownsRow base E k (.slice va n vc) n cells
section
variable {P:Program} {T E:TypeId} {k bytes:Nat} {w w':World} {base vc n:Nat} {va:Option Addr} {cells:List Value}
theorem Own.nil (w:World) (base:Nat) (E:TypeId) (k:Nat):Own w base E k none 0 0 []:=⟨by simp,.inl ⟨rfl,rfl⟩⟩
theorem Own.length (h:Own w base E k va vc n cells):cells.length=n*k:=h.row.1
theorem Own.cap (h:Own w base E k va vc n cells):n<=vc/\vc<=maxLen:=by
 rcases h.row.2 with ⟨h1,rfl⟩ | ⟨g,cap,cur,h1,_,_,h2,h3,_⟩
 ·cases h1;exact ⟨Nat.le_refl _,by simp⟩
 cases h1;exact ⟨h2,h3⟩
theorem Own.block (h:Own w base E k va vc n cells):(va=none/\n=0/\vc=0)\/∃g,va=some ⟨g,0,none⟩/\base<=g/\g<w.heap.size/\∃cur,w.heap[g]? = some (.cells cur E (0,0))/\n*k<=cur.size/\cur.size=vc*k/\cur.toList.take (n*k)=cells:=by
 rcases h.row.2 with ⟨h1,rfl⟩ | ⟨g,cap,cur,h1,h2,h3,h4,h5,h6,h7⟩
 ·cases h1;exact .inl ⟨rfl,rfl,rfl⟩
 cases h1
 exact .inr ⟨g,rfl,h2,(Array.getElem?_eq_some_iff.1 h3).1,cur,h3,by rw [h6];exact Nat.mul_le_mul_right _ h4,h6,h7⟩
theorem Own.cell (h:Own w base E k va vc n cells) (hk:0<n*k):∃g,va=some ⟨g,0,none⟩/\base<=g/\g<w.heap.size/\(∀j u,cells[j]? = some u->w.cell? ⟨g,j,none⟩=some u)/\∀j,w.frozen? ⟨g,j,none⟩=false:=by
 rcases h.block with ⟨_,rfl,_⟩ | ⟨g,rfl,h1,h2,cur,h3,h4,_,h5⟩
 ·simp at hk
 refine ⟨g,rfl,h1,h2,fun j u hj=>?_,fun j=>?_⟩
 ·rw [<-h5,List.getElem?_take] at hj
  split at hj
  ·simp only [World.cell?,h3]
   simpa using hj
  cases hj
 simp [World.frozen?,h3]
theorem Own.keptB (h:Own w base E k va vc n cells) (hh:∀g,va=some ⟨g,0,none⟩->w'.heap[g]? = w.heap[g]?):Own w' base E k va vc n cells:=by
 refine ⟨h.row.1,?_⟩
 rcases h.row.2 with h1 | ⟨g,cap,cur,h1,h2,h3,h4⟩
 ·exact .inl h1
 cases h1
 exact .inr ⟨g,vc,cur,rfl,h2,(hh g rfl).trans h3,h4⟩
theorem Own.lt (h:Own w base E k va vc n cells) {g:Nat} (hg:va=some ⟨g,0,none⟩):base<=g/\g<w.heap.size:=by
 rcases h.block with ⟨h1,_⟩ | ⟨g',h1,h2,h3,_⟩
 ·rw [h1] at hg;cases hg
 rw [h1] at hg;cases hg;exact ⟨h2,h3⟩
theorem Own.alloc (h:Own w base E k va vc n cells) (o:Obj):Own (w.alloc o) base E k va vc n cells:=h.keptB fun g hg=>Below.heap_alloc w o g (h.lt hg).2
theorem Own.drew (h:Own w base E k va vc n cells):Own w.drew base E k va vc n cells:=h.keptB fun _ _=>rfl
theorem Own.drewN (h:Own w base E k va vc n cells) (q:Nat):Own (w.drewN q) base E k va vc n cells:=h.keptB fun _ _=>rfl
theorem Own.below {B:Nat} (h:Own w base E k va vc n cells) (hb:Below B w w') (hB:w.heap.size<=B):Own w' base E k va vc n cells:=h.keptB fun g hg=>hb.block g (Nat.lt_of_lt_of_le (h.lt hg).2 hB)
theorem Own.setCell (h:Own w base E k va vc n cells) {a:Addr} (hne:∀g,va=some ⟨g,0,none⟩->g≠a.block) (u:Value):Own (w.setCell a u) base E k va vc n cells:=h.keptB fun g hg=>Below.heap_setCell w a u g (hne g hg)
theorem Own.grown {row:Option Nat} (h:Own w base E k va vc n cells) (hg:w.grownBy w' row) (hne:∀g,va=some ⟨g,0,none⟩->some g≠row):Own w' base E k va vc n cells:=h.keptB fun g hg'=>hg.block g (h.lt hg').2 (hne g hg')
def blockOf:Option Addr->Option Nat
 | some a=>some a.block
 | none=>none
theorem run_append_zero (hE:Elem P T E k bytes) (w:World) (ty:TypeId) (a a2:Option Addr) (c c2:Nat) (hn:n<=c) :
  (Builtin.append_ #[T,T] ty #[.slice a n c,.slice a2 0 c2]).run P w=.ok (.slice a n c) w:=by
 have h1:=hE.sl
 have h2:=hE.size w
 cases a<;>cases a2<;>simp [Builtin.append_,run_underlying h1,h2,Result.andThen,Builtin.lenOf,Builtin.firstCells,hn,loadCells,loadCellsFrom,storeCells]
theorem Own.app (hE:Elem P T E k bytes) (ty:TypeId) (h:Own w base E k va vc n cells) (hbase:base<=w.heap.size)
  (a:Option Addr) (m c b off:Nat) (news:List Value) (hl:news.length=m*k) (ha:0<m->a=some ⟨b,off,none⟩) (hnews:∀j u,news[j]? = some u->w.cell? ⟨b,off+j,none⟩=some u) (h1:∀u∈news,u.oneCell'=true)
  (h63:n+m<=maxLen) (hbytes:(n+m)*bytes<=140737488355328) :
  ∃va' vc' w',(Builtin.append_ #[T,T] ty #[.slice va n vc,.slice a m c]).run P w=.ok (.slice va' (n+m) vc') w'/\Own w' base E k va' vc' (n+m) (cells++news)/\w.grownBy w' (blockOf va):=by
 by_cases hm:0<m
 ·obtain rfl:=ha hm
  obtain ⟨z,hz,hzs⟩:=hE.info
  obtain ⟨i,hi,hz0,hz1,hz2⟩:=info_parts hz
  obtain ⟨v',w',hrun,hown,hg,-⟩:=run_append_own (P:=P) w base T ty E i z k bytes hE.sl hi hz0 hz1 hz2 hzs hE.pos (.slice va n vc) n cells h.row ⟨b,off,none⟩ m c news hl (fun j u hj=>by rw [Addr.add_lit];exact hnews j u hj) h1 h63 hbytes hbase
  have hv:∃va' vc',v'=.slice va' (n+m) vc':=by
   rcases hown.2 with ⟨hv,h0⟩ | ⟨g,cap,_,hv,_⟩
   ·exact ⟨none,0,by rw [hv,h0]⟩
   exact ⟨_,_,hv⟩
  obtain ⟨va',vc',rfl⟩:=hv
  refine ⟨va',vc',w',hrun,⟨hown⟩,?_⟩
  cases va<;>exact hg
 obtain rfl:m=0:=by omega
 have:news=[]:=List.eq_nil_of_length_eq_zero (by simpa using hl)
 subst this
 exact ⟨va,vc,w,run_append_zero hE w ty va a vc c h.cap.1,by simpa using h,World.grownBy.refl _ _⟩
theorem Own.set {g j:Nat} (h:Own w base E k (some ⟨g,0,none⟩) vc n cells) (u:Value):Own (w.setCell ⟨g,j,none⟩ u) base E k (some ⟨g,0,none⟩) vc n (cells.set j u):=by
 refine ⟨by simp [h.length],.inr ?_⟩
 rcases h.row.2 with ⟨h1,_⟩ | ⟨g',cap,cur,h1,h2,h3,h4,h5,h6,h7⟩
 ·cases h1
 cases h1
 refine ⟨g,vc,cur.setIfInBounds j u,rfl,h2,?_,h4,h5,by simpa using h6,?_⟩
 ·simp only [World.setCell,Array.getElem?_modify,h3]
  simp
 rw [<-h7]
 simp [List.take_set]
theorem Own.make (hE:Elem P T E k bytes) (hb:base<=w.heap.size) (z:Value) (hz:(P.info? E).map (fun i=>i.zero)=some (some z)) (hbytes:bytes*n<=281474976710656) (hn:n<=maxLen) :
  ∃w',(Instr.makeSlice T (.int .i64 n) (.int .i64 n)).run P w=.ok (.slice (some ⟨w.heap.size,0,none⟩) n n) w'/\Own w' base E k (some ⟨w.heap.size,0,none⟩) n n (madeCells z.cells (n*k)).toList/\w.grownBy w' none:=by
 obtain ⟨z',hz1,hzs⟩:=hE.info
 obtain ⟨i,hi,hz0,hz1,hz2⟩:=info_parts hz1
 rw [hi] at hz
 simp at hz
 obtain ⟨w',hrun,r1,r2⟩:=run_make_full (P:=P) w base T E i z k hE.sl hi hz hz1 .i64 .i64 n (by rw [hz2];exact hbytes) hn hb
 exact ⟨w',hrun,⟨r1⟩,r2⟩
end
theorem wpList_append_run {P:Program} {w:World} {ops:Array Oper} {rest:List Oper} {o:Oper} {a:Act} {Q:Exit->Act->World->Prop} (hgd:o.guard=none) (s x:Operand) (t:TypeId)
  (ho:o.op=.call { callee:=.builtin .append,args:=#[s,x],argTypes:=#[t,t] }) {v xv v':Value} {w':World} (hs:a.eval s=v) (hx:a.eval x=xv)
  (hr:(Builtin.append_ #[t,t] o.type #[v,xv]).run P w=.ok v' w') (h:wpList P ops Q rest (a.put o.dst v') w'):wpList P ops Q (o :: rest) a w :=
 wpList_plain hgd fun K hK=>by
  unfold Oper.wp execOp
  simp only [ho,resolve,invoke,builtin,Sem.run_bind,Sem.run_pure,Result.andThen_ok,List.map_toArray,List.map_cons,List.map_nil,hs,hx,hr]
  exact hK _ _ h
theorem step_append_run {P:Program} {w:World} {ops:Array Oper} {o:Oper} {a:Act} {K:Act->World->Prop} {Q:Exit->Act->World->Prop} {E:Prop} (hgd:o.guard=none) (s x:Operand) (t:TypeId)
  (ho:o.op=.call { callee:=.builtin .append,args:=#[s,x],argTypes:=#[t,t] }) {v xv v':Value} {w':World} (hs:a.eval s=v) (hx:a.eval x=xv)
  (hr:(Builtin.append_ #[t,t] o.type #[v,xv]).run P w=.ok v' w') (h:K (a.put o.dst v') w') :
  if Region.wanted o (yielded ops a.tmps)=true then Oper.wp P o a w K Q else E:=by
 have hw:Region.wanted o (yielded ops a.tmps)=true:=by simp [Region.wanted,hgd]
 rw [if_pos hw]
 unfold Oper.wp execOp
 simp only [ho,resolve,invoke,builtin,Sem.run_bind,Sem.run_pure,Result.andThen_ok,List.map_toArray,List.map_cons,List.map_nil,hs,hx,hr]
 exact h
end Go.Proofs.YtfbbkmdhnkmonaaGreatDoor
namespace Go.Proofs.YtfbbkmdhnkmonaaGreatDoor
open Go.RowKit
inductive D where
 | atom (v:Value)
 | list (k:Nat) (es:List (List D))
abbrev From (lo:Nat):Nat->Prop:=fun b=>lo<=b
abbrev In (lo hi:Nat):Nat->Prop:=fun b=>lo<=b/\b<hi
inductive Mem (o:Bool) (P:Nat->Prop) (w:World):D->Value->Prop where
 | atom (v:Value):Mem o P w (.atom v) v
 | list (k:Nat) (es:List (List D)) (vs:List (List Value)) (a:Option Addr) (c b off:Nat) (hl:vs.length=es.length) (hle:vs.length<=c)
   (ha:0<vs.length->a=some ⟨b,off,none⟩/\P b/\b<w.heap.size) (hk:∀(j:Nat) (v:List Value),vs[j]? = some v->v.length=k) (hke:∀(j:Nat) (e:List D),es[j]? = some e->e.length=k)
   (hc:∀(j:Nat) (v:List Value) (i:Nat) (u:Value),vs[j]? = some v->v[i]? = some u->w.cell? ⟨b,off+j*k+i,none⟩=some u/\(o=true->w.frozen? ⟨b,off+j*k+i,none⟩=false))
   (hm:∀(j:Nat) (v:List Value) (e:List D) (i:Nat) (u:Value) (d:D),vs[j]? = some v->es[j]? = some e->v[i]? = some u->e[i]? = some d->Mem o P w d u):Mem o P w (.list k es) (.slice a vs.length c)
def MemL (o:Bool) (P:Nat->Prop) (w:World) (ds:List D) (us:List Value):Prop:=us.length=ds.length/\∀(i:Nat) d u,ds[i]? = some d->us[i]? = some u->Mem o P w d u
theorem lt_of_some {α:Type} {l:List α} {j:Nat} {x:α} (h:l[j]? = some x):j<l.length:=by
 rcases Nat.lt_or_ge j l.length with h1 | h1
 ·exact h1
 rw [List.getElem?_eq_none h1] at h;cases h
theorem Mem.kept {o:Bool} {P:Nat->Prop} {w w':World} {d:D} {v:Value} (h:Mem o P w d v) (hk:∀k,P k->k<w.heap.size->w'.heap[k]? = w.heap[k]?) (hs:w.heap.size<=w'.heap.size):Mem o P w' d v:=by
 induction h with
 | atom v=>exact .atom v
 | list k es vs a c b off hl hle ha hk1 hk2 hc hm ih =>
  refine .list k es vs a c b off hl hle (fun h0=>⟨(ha h0).1,(ha h0).2.1,Nat.lt_of_lt_of_le (ha h0).2.2 hs⟩) hk1 hk2 (fun j v i u hj hi=>?_) ih
  have h0:0<vs.length:=by have:=lt_of_some hj;omega
  have hb:=hk b (ha h0).2.1 (ha h0).2.2
  obtain ⟨h1,h2⟩:=hc j v i u hj hi
  exact ⟨by rw [World.cell?_of_block hb];exact h1,fun ho=>by rw [World.frozen?_of_block hb];exact h2 ho⟩
theorem Mem.grow {o:Bool} {P:Nat->Prop} {w w':World} {d:D} {v:Value} (h:Mem o P w d v) (hb:Below w.heap.size w w'):Mem o P w' d v:=h.kept (fun k _ hk=>hb.block k hk) hb.size
theorem Mem.weak {o:Bool} {P P':Nat->Prop} {w:World} {d:D} {v:Value} (h:Mem o P w d v) (hp:∀b,P b->b<w.heap.size->P' b):Mem o P' w d v:=by
 induction h with
 | atom v=>exact .atom v
 | list k es vs a c b off hl hle ha hk1 hk2 hc hm ih =>
  exact .list k es vs a c b off hl hle (fun h0=>⟨(ha h0).1,hp b (ha h0).2.1 (ha h0).2.2,(ha h0).2.2⟩) hk1 hk2 hc ih
theorem Mem.read {o:Bool} {P:Nat->Prop} {w:World} {d:D} {v:Value} (h:Mem o P w d v):Mem false (From 0) w d v:=by
 induction h with
 | atom v=>exact .atom v
 | list k es vs a c b off hl hle ha hk1 hk2 hc hm ih =>
  exact .list k es vs a c b off hl hle (fun h0=>⟨(ha h0).1,Nat.zero_le _,(ha h0).2.2⟩) hk1 hk2 (fun j v i u hj hi=>⟨(hc j v i u hj hi).1,fun h=>by cases h⟩) ih
theorem MemL.kept {o:Bool} {P:Nat->Prop} {w w':World} {ds:List D} {us:List Value} (h:MemL o P w ds us) (hk:∀k,P k->k<w.heap.size->w'.heap[k]? = w.heap[k]?) (hs:w.heap.size<=w'.heap.size):MemL o P w' ds us :=
 ⟨h.1,fun i d u h1 h2=>(h.2 i d u h1 h2).kept hk hs⟩
theorem MemL.grow {o:Bool} {P:Nat->Prop} {w w':World} {ds:List D} {us:List Value} (h:MemL o P w ds us) (hb:Below w.heap.size w w'):MemL o P w' ds us:=h.kept (fun k _ hk=>hb.block k hk) hb.size
theorem MemL.weak {o:Bool} {P P':Nat->Prop} {w:World} {ds:List D} {us:List Value} (h:MemL o P w ds us) (hp:∀b,P b->b<w.heap.size->P' b):MemL o P' w ds us:=⟨h.1,fun i d u h1 h2=>(h.2 i d u h1 h2).weak hp⟩
theorem MemL.read {o:Bool} {P:Nat->Prop} {w:World} {ds:List D} {us:List Value} (h:MemL o P w ds us):MemL false (From 0) w ds us:=⟨h.1,fun i d u h1 h2=>(h.2 i d u h1 h2).read⟩
theorem MemL.nil (o:Bool) (P:Nat->Prop) (w:World):MemL o P w [] []:=⟨rfl,fun i d u h=>absurd h (by simp)⟩
theorem MemL.cons {o:Bool} {P:Nat->Prop} {w:World} {d:D} {u:Value} {ds:List D} {us:List Value} (h:Mem o P w d u) (hs:MemL o P w ds us):MemL o P w (d :: ds) (u :: us):=by
 refine ⟨by simp [hs.1],fun i d' u' h1 h2=>?_⟩
 cases i with
 | zero=>simp at h1 h2;subst h1 h2;exact h
 | succ i=>simp at h1 h2;exact hs.2 i d' u' h1 h2
theorem MemL.inv {o:Bool} {P:Nat->Prop} {w:World} {d:D} {ds:List D} {us:List Value} (h:MemL o P w (d :: ds) us):∃u us',us=u :: us'/\Mem o P w d u/\MemL o P w ds us':=by
 cases us with
 | nil=>have:=h.1;simp at this
 | cons u us=>exact ⟨u,us,rfl,h.2 0 d u rfl rfl,by have:=h.1;simp at this;exact this,fun i d' u' h1 h2=>h.2 (i+1) d' u' (by simpa using h1) (by simpa using h2)⟩
theorem MemL.inv0 {o:Bool} {P:Nat->Prop} {w:World} {us:List Value} (h:MemL o P w [] us):us=[]:=List.eq_nil_of_length_eq_zero (by simpa using h.1)
theorem Mem.atomInv {o:Bool} {P:Nat->Prop} {w:World} {v u:Value} (h:Mem o P w (.atom v) u):u=v:=match h with | .atom _=>rfl
structure ListC (o:Bool) (P:Nat->Prop) (w:World) (k:Nat) (es:List (List D)) (a:Option Addr) (b off:Nat) (vs:List (List Value)):Prop where
 len:vs.length=es.length
 at0:0<es.length->a=some ⟨b,off,none⟩/\P b/\b<w.heap.size
 wid:∀e∈es,e.length=k
 row:∀j (h:j<es.length) (h':j<vs.length),MemL o P w es[j] vs[j]
 cell:∀j (h:j<vs.length) i u,vs[j][i]? = some u->w.cell? ⟨b,off+j*k+i,none⟩=some u
 frz:o=true->∀j,j<vs.length->∀i,i<k->w.frozen? ⟨b,off+j*k+i,none⟩=false
theorem Mem.listInv {o:Bool} {P:Nat->Prop} {w:World} {k:Nat} {es:List (List D)} {u:Value} (h:Mem o P w (.list k es) u):∃a c b off vs,u=.slice a es.length c/\es.length<=c/\ListC o P w k es a b off vs:=by
 cases h with
 | list _ _ vs a c b off hl hle ha hk1 hk2 hc hm =>
  refine ⟨a,c,b,off,vs,by rw [hl],by omega,hl,fun h0=>ha (by omega),fun e he=>?_,fun j h h'=>⟨?_,fun i d u h1 h2=>hm j vs[j] es[j] i u d (List.getElem?_eq_getElem h') (List.getElem?_eq_getElem h) h2 h1⟩,fun j h i u hi=>(hc j vs[j] i u (List.getElem?_eq_getElem h) hi).1,fun hlo j h i hi=>?_⟩
  ·obtain ⟨j,hj,rfl⟩:=List.mem_iff_getElem.1 he
   exact hk2 j _ (List.getElem?_eq_getElem hj)
  ·rw [hk1 j _ (List.getElem?_eq_getElem h'),hk2 j _ (List.getElem?_eq_getElem h)]
  have hw:=hk1 j _ (List.getElem?_eq_getElem h)
  exact (hc j vs[j] i (vs[j]'h)[i] (List.getElem?_eq_getElem h) (List.getElem?_eq_getElem (by omega))).2 hlo
theorem ListC.below {o:Bool} {P:Nat->Prop} {w w':World} {k:Nat} {es:List (List D)} {a:Option Addr} {b off:Nat} {vs:List (List Value)} (h:ListC o P w k es a b off vs) (hb:Below w.heap.size w w'):ListC o P w' k es a b off vs:=by
 have hbl:∀j,j<vs.length->w'.heap[b]? = w.heap[b]?:=fun j hj=>hb.block b (h.at0 (by have:=h.len;omega)).2.2
 exact ⟨h.len,fun h0=>⟨(h.at0 h0).1,(h.at0 h0).2.1,Nat.lt_of_lt_of_le (h.at0 h0).2.2 hb.size⟩,h.wid,fun j h1 h2=>(h.row j h1 h2).grow hb,fun j hj i u hi=>by rw [World.cell?_of_block (hbl j hj)];exact h.cell j hj i u hi,fun hlo j hj i hi=>by rw [World.frozen?_of_block (hbl j hj)];exact h.frz hlo j hj i hi⟩
theorem flat_at {α:Type} {k:Nat}:∀(vs:List (List α)) (_:∀v∈vs,v.length=k) (j i:Nat) (h:j<vs.length) (_:i<k),vs.flatten[j*k+i]? = vs[j][i]?
 | v :: vs,hw,0,i,_,hi=>by
  have:=hw v (List.mem_cons_self ..)
  rw [List.flatten_cons,Nat.zero_mul,Nat.zero_add,List.getElem?_append_left (by omega)];rfl
 | v :: vs,hw,j+1,i,h,hi=>by
  have h1:=hw v (List.mem_cons_self ..)
  rw [List.flatten_cons,List.getElem?_append_right (by rw [h1,Nat.add_mul];omega),h1,show (j+1)*k+i-k=j*k+i by rw [Nat.add_mul];omega]
  exact flat_at vs (fun x hx=>hw x (List.mem_cons_of_mem _ hx)) j i (by simpa using h) hi
theorem flat_len {α:Type} {k:Nat}:∀(vs:List (List α)) (_:∀v∈vs,v.length=k),vs.flatten.length=vs.length*k
 | [],_=>by simp
 | v :: vs,hw=>by
  rw [List.flatten_cons,List.length_append,flat_len vs fun x hx=>hw x (List.mem_cons_of_mem _ hx),hw v (List.mem_cons_self ..),List.length_cons,Nat.add_mul]
  omega
theorem memOwn {w:World} {base:Nat} {E:TypeId} {k vc:Nat} {va:Option Addr} {es:List (List D)} {vs:List (List Value)} (h:Own w base E k va vc es.length vs.flatten) (hk0:0<k) (hl:vs.length=es.length) (hw:∀v∈vs,v.length=k) (hwe:∀e∈es,e.length=k)
  (hm:∀j (h1:j<es.length) (h2:j<vs.length),MemL true (From base) w es[j] vs[j]):Mem true (From base) w (.list k es) (.slice va es.length vc):=by
 rw [<-hl]
 have hx:∀(j:Nat) v (i:Nat) u,vs[j]? = some v->v[i]? = some u->vs.flatten[j*k+i]? = some u/\j<vs.length:=by
  intro j v i u hj hi
  have hj':=lt_of_some hj
  rw [List.getElem?_eq_getElem hj'] at hj
  injection hj with hj
  have hi':=lt_of_some hi
  have:=hw v (hj▸List.getElem_mem hj')
  exact ⟨by rw [flat_at vs hw j i hj' (by omega),hj];exact hi,hj'⟩
 rcases h.block with ⟨rfl,h0,rfl⟩ | ⟨g,rfl,hb,hlt,-⟩
 ·exact .list k es vs none 0 0 0 hl (by omega) (fun h=>by omega) (fun j v hj=>hw v (List.mem_of_getElem? hj)) (fun j e hj=>hwe e (List.mem_of_getElem? hj)) (fun j v i u hj _=>by have:=lt_of_some hj;omega) (fun j v e i u d hj _ _ _=>by have:=lt_of_some hj;omega)
 refine .list k es vs (some ⟨g,0,none⟩) vc g 0 hl (by have:=h.cap.1;omega) (fun _=>⟨rfl,hb,hlt⟩) (fun j v hj=>hw v (List.mem_of_getElem? hj)) (fun j e hj=>hwe e (List.mem_of_getElem? hj)) (fun j v i u hj hi=>?_) (fun j v e i u d hj he hi hd=>?_)
 ·obtain ⟨h1,h2⟩:=hx j v i u hj hi
  have hpos:0<es.length*k:=Nat.mul_pos (by omega) hk0
  obtain ⟨g',he,-,-,hcell,hfz⟩:=h.cell hpos
  cases he
  rw [Nat.zero_add]
  exact ⟨hcell _ _ h1,fun _=>hfz _⟩
 have hj1:=lt_of_some hj
 have hj2:=lt_of_some he
 have hm':=hm j hj2 hj1
 rw [List.getElem?_eq_getElem hj1] at hj
 rw [List.getElem?_eq_getElem hj2] at he
 injection hj with hj;injection he with he
 subst hj he
 exact hm'.2 i d u hd hi
theorem elemStr:Elem Tryz.prog 26 9 1 16:=⟨Tryz.underlying26,⟨.string ⟨#[]⟩,by kernel_rfl,rfl⟩,by omega,Tryz.sizeOf9⟩
theorem getD_strs {xs:List ByteArray} {w:World} {b off:Nat} (h:∀j (hj:j<xs.length),w.cell? ⟨b,off+j,none⟩=some (.string xs[j])) :
  ∀j,j<xs.length->w.cell? ⟨b,off+j,none⟩=some (.string (xs.getD j ByteArray.empty)):=by
 intro j hj
 rw [h j hj,List.getD_eq_getElem?_getD,List.getElem?_eq_getElem hj];rfl
theorem cloneStrs (v:Value) (xs:List ByteArray) (w:World) (hl:xs.length<=1048576) (h:Strs w.heap.size w v xs) :
  Calls Tryz.prog 44 #[v] w fun e w'=>∃va vc,e=.returned (.slice va xs.length vc)/\Own w' w.heap.size 9 1 va vc xs.length (xs.map Value.string)/\Below w.heap.size w w':=by
 obtain ⟨a,c,b,o,rfl,hle,ha,hc⟩:=h.cells
 have fin:∀(v':Value) (w':World),w'.ownsRow w.heap.size 9 1 v' xs.length (xs.map Value.string)->∃va vc,v'=.slice va xs.length vc/\Own w' w.heap.size 9 1 va vc xs.length (xs.map Value.string):=by
  intro v' w' hr
  rcases hr.2 with ⟨hv,h0⟩ | ⟨g,cap,_,hv,_⟩
  ·exact ⟨none,0,by rw [hv,h0],⟨by rw [h0] at hr ⊢;rw [hv] at hr;exact hr⟩⟩
  exact ⟨_,_,hv,⟨by rw [hv] at hr;exact hr⟩⟩
 by_cases h0:0<xs.length
 ·obtain ⟨rfl,hb⟩:=ha h0
  refine (Tryz.slices_Clone_string b o xs.length c xs w (Nat.le_refl _) (by omega) (getD_strs hc)).mono ?_
  rintro e w' ⟨v',rfl,hr,-,hbw⟩
  rw [List.take_length] at hr
  obtain ⟨va,vc,rfl,hO⟩:=fin v' w' hr
  exact ⟨va,vc,rfl,hO,hbw⟩
 have:xs=[]:=List.eq_nil_of_length_eq_zero (by omega)
 subst this
 cases a with
 | none =>
  refine (Tryz.slices_Clone_string_nil 0 c w).mono ?_
  rintro e w' ⟨rfl,rfl⟩
  exact ⟨none,0,rfl,Own.nil _ _ _ _,Below.refl _ _⟩
 | some a =>
  refine (Tryz.slices_Clone_string_zero a c w).mono ?_
  rintro e w' ⟨v',rfl,hr,-,hbw⟩
  obtain ⟨va,vc,rfl,hO⟩:=fin v' w' hr
  exact ⟨va,vc,rfl,hO,hbw⟩
theorem Own.strs {w:World} {base B vc:Nat} {va:Option Addr} {xs:List ByteArray} (h:Own w base 9 1 va vc xs.length (xs.map Value.string)) (hB:w.heap.size<=B):Strs B w (.slice va xs.length vc) xs:=by
 by_cases h0:0<xs.length
 ·obtain ⟨g,rfl,-,hlt,hc,-⟩:=h.cell (by omega)
  refine ⟨some ⟨g,0,none⟩,vc,g,0,rfl,h.cap.1,fun _=>⟨rfl,by omega⟩,fun j x hj=>⟨fun _=>.string x,fun i hi=>?_,rfl⟩⟩
  obtain rfl:i=0:=by omega
  rw [show 0+j*1+0=j by omega]
  exact hc j _ (by rw [List.getElem?_map,hj];rfl)
 have:xs=[]:=List.eq_nil_of_length_eq_zero (by omega)
 subst this
 exact ⟨va,vc,0,0,rfl,h.cap.1,by simp,by simp⟩
def flatL {α:Type} (k:Nat) (f:α->List Value) (xs:List α):D:=.list k (xs.map fun x=>(f x).map D.atom)
structure FlatC {α:Type} (o:Bool) (P:Nat->Prop) (w:World) (k:Nat) (f:α->List Value) (xs:List α) (a:Option Addr) (b off:Nat):Prop where
 at0:0<xs.length->a=some ⟨b,off,none⟩/\P b/\b<w.heap.size
 cell:∀j (h:j<xs.length) i u,(f xs[j])[i]? = some u->w.cell? ⟨b,off+j*k+i,none⟩=some u
 frz:o=true->∀j,j<xs.length->∀i,i<k->w.frozen? ⟨b,off+j*k+i,none⟩=false
theorem memL_atoms {o:Bool} {P:Nat->Prop} {w:World}:∀ {us vs:List Value},MemL o P w (us.map D.atom) vs->vs=us
 | [],vs,h=>h.inv0
 | u :: us,vs,h=>by
  obtain ⟨x,xs,rfl,h1,h2⟩:=h.inv
  rw [h1.atomInv,memL_atoms h2]
theorem atoms_memL (o:Bool) (P:Nat->Prop) (w:World):∀us:List Value,MemL o P w (us.map D.atom) us
 | []=>MemL.nil o P w
 | u :: us=>MemL.cons (.atom u) (atoms_memL o P w us)
theorem flat_open {α:Type} {o:Bool} {P:Nat->Prop} {w:World} {k:Nat} {f:α->List Value} {xs:List α} {v:Value} (h:Mem o P w (flatL k f xs) v):∃a c b off,v=.slice a xs.length c/\xs.length<=c/\FlatC o P w k f xs a b off:=by
 obtain ⟨a,c,b,off,vs,rfl,hle,hC⟩:=h.listInv
 rw [List.length_map] at hle ⊢
 have hl:vs.length=xs.length:=by rw [hC.len,List.length_map]
 refine ⟨a,c,b,off,rfl,hle,fun h0=>hC.at0 (by simpa using h0),fun j hj i u hi=>?_,fun hlo j hj i hi=>hC.frz hlo j (by omega) i hi⟩
 have hr:=hC.row j (by simpa using hj) (by omega)
 rw [List.getElem_map] at hr
 have he:=memL_atoms hr
 exact hC.cell j (by omega) i u (by rw [he];exact hi)
theorem FlatC.grow {α:Type} {o:Bool} {P:Nat->Prop} {w w':World} {k:Nat} {f:α->List Value} {xs:List α} {a:Option Addr} {b off:Nat} (h:FlatC o P w k f xs a b off) (hb:Below w.heap.size w w'):FlatC o P w' k f xs a b off:=by
 have hbl:∀j,j<xs.length->w'.heap[b]? = w.heap[b]?:=fun j hj=>hb.block b (h.at0 (by omega)).2.2
 exact ⟨fun h0=>⟨(h.at0 h0).1,(h.at0 h0).2.1,Nat.lt_of_lt_of_le (h.at0 h0).2.2 hb.size⟩,fun j hj i u hi=>by rw [World.cell?_of_block (hbl j hj)];exact h.cell j hj i u hi,fun hlo j hj i hi=>by rw [World.frozen?_of_block (hbl j hj)];exact h.frz hlo j hj i hi⟩
theorem flat_own {α:Type} {w:World} {base:Nat} {E:TypeId} {k vc:Nat} {va:Option Addr} {f:α->List Value} {xs:List α} (h:Own w base E k va vc xs.length (xs.flatMap f)) (hk:0<k) (hf:∀x,(f x).length=k):Mem true (From base) w (flatL k f xs) (.slice va xs.length vc):=by
 have hl:(xs.map fun x=>(f x).map D.atom).length=xs.length:=List.length_map ..
 have:=memOwn (es:=xs.map fun x=>(f x).map D.atom) (vs:=xs.map f) (by rw [hl];exact h) hk (by simp) (by
  intro v hv
  obtain ⟨x,-,rfl⟩:=List.mem_map.1 hv
  exact hf x) (by
  intro e he
  obtain ⟨x,-,rfl⟩:=List.mem_map.1 he
  rw [List.length_map];exact hf x) (fun j h1 h2=>by
  rw [List.getElem_map,List.getElem_map]
  exact atoms_memL true (From base) w _)
 rw [hl] at this
 exact this
def strD (rs:List ByteArray):D:=flatL 1 (fun s=>[Value.string s]) rs
theorem strD_strs {o:Bool} {P:Nat->Prop} {w:World} {v:Value} {rs:List ByteArray} (h:Mem o P w (strD rs) v):Strs w.heap.size w v rs:=by
 obtain ⟨a,c,b,off,rfl,hle,hC⟩:=flat_open h
 refine ⟨a,c,b,off,rfl,hle,fun h0=>⟨(hC.at0 h0).1,(hC.at0 h0).2.2⟩,fun j x hj=>?_⟩
 have hjl:=lt_of_some hj
 rw [List.getElem?_eq_getElem hjl] at hj
 injection hj with hj
 refine ⟨fun _=>.string x,fun i hi=>?_,rfl⟩
 obtain rfl:i=0:=by omega
 exact hC.cell j hjl 0 _ (by rw [hj];rfl)
theorem own_strD {w:World} {base:Nat} {va:Option Addr} {vc:Nat} {rs:List ByteArray} (h:Own w base 9 1 va vc rs.length (rs.map Value.string)):Mem true (From base) w (strD rs) (.slice va rs.length vc) :=
 flat_own (f:=fun s=>[Value.string s]) (by rw [<-List.map_eq_flatMap];exact h) (by omega) (fun _=>rfl)
structure UserD where
 n:ByteArray
 s:ByteArray
 p:ByteArray
 rs:List ByteArray
def UserD.ds (u:UserD):List D:=[.atom (.string u.n),.atom (.string u.s),.atom (.string u.p),strD u.rs]
structure RoleD where
 name:ByteArray
 holds:List ByteArray
 may:List ByteArray
def RoleD.ds (r:RoleD):List D:=[.atom (.string r.name),strD r.holds,strD r.may]
structure SentryD where
 on:Int
 name:ByteArray
 cond:ByteArray
def SentryD.cs (s:SentryD):List Value:=[.int .u8 s.on,.string s.name,.string s.cond]
def senD (l:List SentryD):D:=flatL 3 SentryD.cs l
structure StageD where
 name:ByteArray
 inn:Int
 opens:List SentryD
 closes:List SentryD
 role:ByteArray
 aft:Int
 event:ByteArray
def StageD.ds (s:StageD):List D:=[.atom (.string s.name),.atom (.int .i64 s.inn),senD s.opens,senD s.closes,.atom (.string s.role),.atom (.int .i64 s.aft),.atom (.string s.event)]
structure StoneD where
 name:ByteArray
 done:List SentryD
 undo:List SentryD
def StoneD.ds (s:StoneD):List D:=[.atom (.string s.name),senD s.done,senD s.undo]
structure AttrD where
 name:ByteArray
 kind:Int
def AttrD.cs (a:AttrD):List Value:=[.string a.name,.int .u8 a.kind]
def pairC (p:ByteArray×ByteArray):List Value:=[.string p.1,.string p.2]
structure ModelD where
 name:ByteArray
 attrs:List AttrD
 events:List ByteArray
 stages:List StageD
 stones:List StoneD
 apart:List (ByteArray×ByteArray)
def ModelD.ds (m:ModelD):List D:=[.atom (.string m.name),flatL 2 AttrD.cs m.attrs,strD m.events,.list 7 (m.stages.map StageD.ds),.list 3 (m.stones.map StoneD.ds),flatL 2 pairC m.apart]
structure VerD where
 m:ModelD
 v:Int
def VerD.ds (v:VerD):List D:=[.atom (.string v.m.name),flatL 2 AttrD.cs v.m.attrs,strD v.m.events,.list 7 (v.m.stages.map StageD.ds),.list 3 (v.m.stones.map StoneD.ds),flatL 2 pairC v.m.apart,.atom (.int .i64 v.v)]
inductive IsJson:List D->Prop where
 | mk (k:Int) (b:Bool) (i:Int) (t:ByteArray) (names:List ByteArray) (es:List (List D)) (hn:names.length<=1048576) (he:es.length<=1048576) (h:∀e∈es,IsJson e):IsJson [.atom (.int .u8 k),.atom (.bool b),.atom (.int .i64 i),.atom (.string t),strD names,.list 6 es]
def boolC (b:Bool):List Value:=[.bool b]
structure CaseD where
 id:Int
 model:ByteArray
 version:Int
 values:List (List D)
 opn:List Bool
 done:List Bool
 acted:List (ByteArray×ByteArray)
def CaseD.ds (c:CaseD):List D:=[.atom (.int .i64 c.id),.atom (.string c.model),.atom (.int .i64 c.version),.list 6 c.values,flatL 1 boolC c.opn,flatL 1 boolC c.done,flatL 2 pairC c.acted]
structure TimerD where
 at_:Int
 seq:Int
 cas:Int
 stage:ByteArray
 event:ByteArray
def TimerD.cs (t:TimerD):List Value:=[.int .i64 t.at_,.int .i64 t.seq,.int .i64 t.cas,.string t.stage,.string t.event]
structure WorkD where
 id:Int
 cas:Int
 stage:ByteArray
 role:ByteArray
 state:Int
 owner:ByteArray
def WorkD.cs (t:WorkD):List Value:=[.int .i64 t.id,.int .i64 t.cas,.string t.stage,.string t.role,.int .u8 t.state,.string t.owner]
structure RecD where
 seq:Int
 at_:Int
 user:ByteArray
 deed:ByteArray
 outcome:Int
 hash:ByteArray
def RecD.cs (t:RecD):List Value:=[.int .i64 t.seq,.int .i64 t.at_,.string t.user,.string t.deed,.int .i64 t.outcome,.string t.hash]
structure SessD where
 id:Int
 user:ByteArray
 till:Int
def SessD.cs (t:SessD):List Value:=[.int .i64 t.id,.string t.user,.int .i64 t.till]
structure StateD where
 clock:Int
 secret:ByteArray
 users:List UserD
 roles:List RoleD
 models:List VerD
 cases:List CaseD
 timers:List TimerD
 works:List WorkD
 audit:List RecD
 sess:List SessD
 nc:Int
 nw:Int
 np:Int
 nt:Int
def StateD.ds (s:StateD):List D:=[.atom (.int .i64 s.clock),.atom (.string s.secret),.list 4 (s.users.map UserD.ds),.list 3 (s.roles.map RoleD.ds),.list 7 (s.models.map VerD.ds),.list 7 (s.cases.map CaseD.ds),
 flatL 5 TimerD.cs s.timers,flatL 6 WorkD.cs s.works,flatL 6 RecD.cs s.audit,flatL 3 SessD.cs s.sess,.atom (.int .i64 s.nc),.atom (.int .i64 s.nw),.atom (.int .i64 s.np),.atom (.int .i64 s.nt)]
structure RecC {α:Type} (o:Bool) (P:Nat->Prop) (w:World) (k:Nat) (f:α->List D) (xs:List α) (a:Option Addr) (b off:Nat):Prop where
 at0:0<xs.length->a=some ⟨b,off,none⟩/\P b/\b<w.heap.size
 row:∀j (h:j<xs.length),∃us,MemL o P w (f xs[j]) us/\∀i u,us[i]? = some u->w.cell? ⟨b,off+j*k+i,none⟩=some u
 frz:o=true->∀j,j<xs.length->∀i,i<k->w.frozen? ⟨b,off+j*k+i,none⟩=false
theorem rec_open {α:Type} {o:Bool} {P:Nat->Prop} {w:World} {k:Nat} {f:α->List D} {xs:List α} {v:Value} (h:Mem o P w (.list k (xs.map f)) v):∃a c b off,v=.slice a xs.length c/\xs.length<=c/\RecC o P w k f xs a b off:=by
 obtain ⟨a,c,b,off,vs,rfl,hle,hC⟩:=h.listInv
 rw [List.length_map] at hle ⊢
 have hl:vs.length=xs.length:=by rw [hC.len,List.length_map]
 refine ⟨a,c,b,off,rfl,hle,fun h0=>hC.at0 (by simpa using h0),fun j hj=>⟨vs[j]'(by omega),?_,fun i u hi=>hC.cell j (by omega) i u hi⟩,fun hlo j hj i hi=>hC.frz hlo j (by omega) i hi⟩
 have hr:=hC.row j (by simpa using hj) (by omega)
 rw [List.getElem_map] at hr
 exact hr
theorem RecC.grow {α:Type} {o:Bool} {P:Nat->Prop} {w w':World} {k:Nat} {f:α->List D} {xs:List α} {a:Option Addr} {b off:Nat} (h:RecC o P w k f xs a b off) (hb:Below w.heap.size w w'):RecC o P w' k f xs a b off:=by
 have hbl:∀j,j<xs.length->w'.heap[b]? = w.heap[b]?:=fun j hj=>hb.block b (h.at0 (by omega)).2.2
 refine ⟨fun h0=>⟨(h.at0 h0).1,(h.at0 h0).2.1,Nat.lt_of_lt_of_le (h.at0 h0).2.2 hb.size⟩,fun j hj=>?_,fun hlo j hj i hi=>by rw [World.frozen?_of_block (hbl j hj)];exact h.frz hlo j hj i hi⟩
 obtain ⟨us,h1,h2⟩:=h.row j hj
 exact ⟨us,h1.grow hb,fun i u hi=>by rw [World.cell?_of_block (hbl j hj)];exact h2 i u hi⟩
theorem UserD.cells {o:Bool} {P:Nat->Prop} {w:World} {u:UserD} {us:List Value} (h:MemL o P w u.ds us):∃a c,us=[.string u.n,.string u.s,.string u.p,.slice a u.rs.length c]/\Mem o P w (strD u.rs) (.slice a u.rs.length c):=by
 obtain ⟨x0,y0,rfl,h0,h⟩:=MemL.inv h
 obtain ⟨x1,y1,rfl,h1,h⟩:=h.inv
 obtain ⟨x2,y2,rfl,h2,h⟩:=h.inv
 obtain ⟨x3,y3,rfl,h3,h⟩:=h.inv
 obtain rfl:=h.inv0
 obtain ⟨a,c,_,_,rfl,-,-⟩:=flat_open h3
 exact ⟨a,c,by rw [h0.atomInv,h1.atomInv,h2.atomInv],h3⟩
theorem RoleD.cells {o:Bool} {P:Nat->Prop} {w:World} {r:RoleD} {us:List Value} (h:MemL o P w r.ds us):∃a c a2 c2,us=[.string r.name,.slice a r.holds.length c,.slice a2 r.may.length c2]/\Mem o P w (strD r.holds) (.slice a r.holds.length c)/\Mem o P w (strD r.may) (.slice a2 r.may.length c2):=by
 obtain ⟨x0,y0,rfl,h0,h⟩:=MemL.inv h
 obtain ⟨x1,y1,rfl,h1,h⟩:=h.inv
 obtain ⟨x2,y2,rfl,h2,h⟩:=h.inv
 obtain rfl:=h.inv0
 obtain ⟨a,c,_,_,rfl,-,-⟩:=flat_open h1
 obtain ⟨a2,c2,_,_,rfl,-,-⟩:=flat_open h2
 exact ⟨a,c,a2,c2,by rw [h0.atomInv],h1,h2⟩
theorem StageD.cells {o:Bool} {P:Nat->Prop} {w:World} {s:StageD} {us:List Value} (h:MemL o P w s.ds us):∃a c a2 c2,us=[.string s.name,.int .i64 s.inn,.slice a s.opens.length c,.slice a2 s.closes.length c2,.string s.role,.int .i64 s.aft,.string s.event]/\Mem o P w (senD s.opens) (.slice a s.opens.length c)/\Mem o P w (senD s.closes) (.slice a2 s.closes.length c2):=by
 obtain ⟨x0,y0,rfl,h0,h⟩:=MemL.inv h
 obtain ⟨x1,y1,rfl,h1,h⟩:=h.inv
 obtain ⟨x2,y2,rfl,h2,h⟩:=h.inv
 obtain ⟨x3,y3,rfl,h3,h⟩:=h.inv
 obtain ⟨x4,y4,rfl,h4,h⟩:=h.inv
 obtain ⟨x5,y5,rfl,h5,h⟩:=h.inv
 obtain ⟨x6,y6,rfl,h6,h⟩:=h.inv
 obtain rfl:=h.inv0
 obtain ⟨a,c,_,_,rfl,-,-⟩:=flat_open h2
 obtain ⟨a2,c2,_,_,rfl,-,-⟩:=flat_open h3
 exact ⟨a,c,a2,c2,by rw [h0.atomInv,h1.atomInv,h4.atomInv,h5.atomInv,h6.atomInv],h2,h3⟩
theorem StoneD.cells {o:Bool} {P:Nat->Prop} {w:World} {s:StoneD} {us:List Value} (h:MemL o P w s.ds us):∃a c a2 c2,us=[.string s.name,.slice a s.done.length c,.slice a2 s.undo.length c2]/\Mem o P w (senD s.done) (.slice a s.done.length c)/\Mem o P w (senD s.undo) (.slice a2 s.undo.length c2):=by
 obtain ⟨x0,y0,rfl,h0,h⟩:=MemL.inv h
 obtain ⟨x1,y1,rfl,h1,h⟩:=h.inv
 obtain ⟨x2,y2,rfl,h2,h⟩:=h.inv
 obtain rfl:=h.inv0
 obtain ⟨a,c,_,_,rfl,-,-⟩:=flat_open h1
 obtain ⟨a2,c2,_,_,rfl,-,-⟩:=flat_open h2
 exact ⟨a,c,a2,c2,by rw [h0.atomInv],h1,h2⟩
structure ModelV where
 a1:Option Addr
 c1:Nat
 a2:Option Addr
 c2:Nat
 a3:Option Addr
 c3:Nat
 a4:Option Addr
 c4:Nat
 a5:Option Addr
 c5:Nat
abbrev ModelV.cs (v:ModelV) (m:ModelD):List Value:=[.string m.name,.slice v.a1 m.attrs.length v.c1,.slice v.a2 m.events.length v.c2,.slice v.a3 m.stages.length v.c3,.slice v.a4 m.stones.length v.c4,.slice v.a5 m.apart.length v.c5]
structure ModelM (o:Bool) (P:Nat->Prop) (w:World) (m:ModelD) (v:ModelV):Prop where
 attrs:Mem o P w (flatL 2 AttrD.cs m.attrs) (.slice v.a1 m.attrs.length v.c1)
 events:Mem o P w (strD m.events) (.slice v.a2 m.events.length v.c2)
 stages:Mem o P w (.list 7 (m.stages.map StageD.ds)) (.slice v.a3 m.stages.length v.c3)
 stones:Mem o P w (.list 3 (m.stones.map StoneD.ds)) (.slice v.a4 m.stones.length v.c4)
 apart:Mem o P w (flatL 2 pairC m.apart) (.slice v.a5 m.apart.length v.c5)
theorem VerD.cells {o:Bool} {P:Nat->Prop} {w:World} {r:VerD} {us:List Value} (h:MemL o P w r.ds us):∃v:ModelV,us=v.cs r.m++[.int .i64 r.v]/\ModelM o P w r.m v:=by
 obtain ⟨x0,y0,rfl,h0,h⟩:=MemL.inv h
 obtain ⟨x1,y1,rfl,h1,h⟩:=h.inv
 obtain ⟨x2,y2,rfl,h2,h⟩:=h.inv
 obtain ⟨x3,y3,rfl,h3,h⟩:=h.inv
 obtain ⟨x4,y4,rfl,h4,h⟩:=h.inv
 obtain ⟨x5,y5,rfl,h5,h⟩:=h.inv
 obtain ⟨x6,y6,rfl,h6,h⟩:=h.inv
 obtain rfl:=h.inv0
 obtain ⟨a1,c1,_,_,rfl,-,-⟩:=flat_open h1
 obtain ⟨a2,c2,_,_,rfl,-,-⟩:=flat_open h2
 obtain ⟨a3,c3,_,_,rfl,-,-⟩:=rec_open h3
 obtain ⟨a4,c4,_,_,rfl,-,-⟩:=rec_open h4
 obtain ⟨a5,c5,_,_,rfl,-,-⟩:=flat_open h5
 exact ⟨⟨a1,c1,a2,c2,a3,c3,a4,c4,a5,c5⟩,by rw [h0.atomInv,h6.atomInv];rfl,h1,h2,h3,h4,h5⟩
def nmB (c:UInt8):Bool:=(97<=c.toNat&&c.toNat<=122)||(48<=c.toNat&&c.toNat<=57)||c.toNat==45||c.toNat==95||c.toNat==46
def nmR (r:Nat):Bool:=(97<=r&&r<=122)||(48<=r&&r<=57)||r==45||r==95||r==46
def named (s:List UInt8):Bool:=!s.isEmpty&&s.length<=32&&s.all nmB
theorem decode_big (s:ByteArray) (i:Nat) (h:128<=(s.get! i).toNat):128<=(Utf8.decode s i).1:=by
 have h0:¬((s.get! (i+0)).toNat<128):=by simpa using Nat.not_lt.2 h
 unfold Utf8.decode
 simp only [h0,if_false]
 repeat' split
 all_goals simp_all [Utf8.runeError]
 all_goals omega
theorem decode_small (s:ByteArray) (i:Nat) (h:(s.get! i).toNat<128):Utf8.decode s i=((s.get! i).toNat,1):=by
 have h0:((s.get! (i+0)).toNat<128):=by simpa using h
 unfold Utf8.decode
 simp only [h0,if_true]
 rfl
theorem get!_eq (s:ByteArray) (i:Nat) (h:i<s.size):s.get! i=s[i]:=by
 simp [ByteArray.get!,ByteArray.getElem_eq_getElem_data,getElem!_pos,h]
def nameSigns:List UInt8:=[97,98,99,100,101,102,103,104,105,106,107,108,109,110,111,112,113,114,115,116,117,118,119,120,121,122,48,49,50,51,52,53,54,55,56,57,45,95,46]
end Go.Proofs.YtfbbkmdhnkmonaaGreatDoor
