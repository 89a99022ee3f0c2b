/-
Plans; which fields are spare, how many kids a kind has, which places are inside.
-/
import Derived.Test.YtfjdiofipbchcaaKaf
import Derived.Test.YtfjdiofipbchcaaKae
import Derived.SizedLaws
import Derived.Shelf.Spec.SlicesGrow
namespace Go.AW
open Go Go.Proofs TyTry Go.IntWalk
set_option linter.unusedSimpArgs false
set_option linter.unusedVariables false
set_option maxRecDepth 10000
set_option maxHeartbeats 1000000
inductive PlanD where
 | mk (kind width i j : Int) (name : ByteArray) (cols : List Int) (kids : List PlanD)
namespace PlanD
def kind : PlanD → Int | .mk k _ _ _ _ _ _=>k
def width : PlanD → Int | .mk _ w _ _ _ _ _=>w
def i : PlanD → Int | .mk _ _ x _ _ _ _=>x
def j : PlanD → Int | .mk _ _ _ x _ _ _=>x
def name : PlanD → ByteArray | .mk _ _ _ _ x _ _=>x
def cols : PlanD → List Int | .mk _ _ _ _ _ x _=>x
def kids : PlanD → List PlanD | .mk _ _ _ _ _ _ x=>x
mutual
def cells : PlanD → List AV
 | .mk k w i j nm cs ks=>[.i .i64 k,.i .i64 w,.i .i64 i,.i .i64 j,.s nm,.sl 1 (ints cs),.sl 7 (cellsL ks)]
def cellsL : List PlanD → List (List AV)
 | []=>[]
 | p :: r=>p.cells :: cellsL r
end
theorem ind {P : PlanD → Prop} (h : ∀ p,(∀ k ∈ p.kids,P k) → P p) : ∀ p,P p
 | .mk k w i j nm cs ks=>h _ fun q hq=>by
  exact ind h q
termination_by p=>SizeOf.sizeOf p
decreasing_by
 simp only [PlanD.mk.sizeOf_spec]
 have : SizeOf.sizeOf q < SizeOf.sizeOf ks:=List.sizeOf_lt_of_mem hq
 omega
end PlanD
def plans (l : List PlanD) : List (List AV):=l.map PlanD.cells
theorem cellsL_plans : ∀ l : List PlanD,PlanD.cellsL l = plans l
 | []=>by simp [PlanD.cellsL,plans]
 | p :: r=>by simp only [PlanD.cellsL,plans,List.map_cons,cellsL_plans r]
theorem plans_len (l : List PlanD) : (plans l).length = l.length:=by simp [plans]
theorem PlanD.cells_eq (p : PlanD) : p.cells = [.i .i64 p.kind,.i .i64 p.width,.i .i64 p.i,.i .i64 p.j,.s p.name,.sl 1 (ints p.cols),.sl 7 (plans p.kids)]:=by
 cases p;simp only [PlanD.cells,cellsL_plans,kind,width,PlanD.i,PlanD.j,name,cols,kids]
theorem plans_get {l : List PlanD} {k : Nat} {x : PlanD} (h : l[k]? = some x) : (plans l).getD k [] = [.i .i64 x.kind,.i .i64 x.width,.i .i64 x.i,.i .i64 x.j,.s x.name,.sl 1 (ints x.cols),.sl 7 (plans x.kids)]:=by
 simp [plans,h,PlanD.cells_eq]
attribute [go_sem] plans_len
inductive PlanD.Ok : PlanD → Prop
 | mk (p : PlanD) : p.name.size ≤ 1125899906842624 → p.cols.length ≤ 1125899906842624 → p.kids.length ≤ 1125899906842624 → (∀ k ∈ p.kids,k.Ok) → p.Ok
theorem PlanD.Ok.name {p : PlanD} : p.Ok → p.name.size ≤ 1125899906842624 | .mk _ h _ _ _=>h
theorem PlanD.Ok.cols {p : PlanD} : p.Ok → p.cols.length ≤ 1125899906842624 | .mk _ _ h _ _=>h
theorem PlanD.Ok.len {p : PlanD} : p.Ok → p.kids.length ≤ 1125899906842624 | .mk _ _ _ h _=>h
theorem PlanD.Ok.kid {p : PlanD} : p.Ok → ∀ k ∈ p.kids,k.Ok | .mk _ _ _ _ h=>h
def spareF (p : PlanD) : Bool :=
 (p.kind == 0 || p.kind == 1 || p.width == 0) && (p.kind == 2 || p.kind == 3 || (p.i == 0 && p.j == 0)) && (p.kind == 0 || decide (p.name.size = 0)) && (p.kind == 5 || (p.cols.length : Int) == 0)
theorem spare_spec (p : PlanD) : ACallsD Try.prog 64 [.agg p.cells] (.b (spareF p)):=by
 rw [PlanD.cells_eq]
 refine ACalls_of' (n:=61) (rs:=[.tmp 2]) (show Try.prog.funcs[64]? = some Try.f64 by kernel_rfl) rfl rfl rfl (by simp) (by decide +kernel) ?_
 repeat (first | refine nav ?_ | refine bo ?_)
 (refine wr fun K R hK hR=>?_;simp only [go_sem];(try go_ints);(repeat refine And.intro side ?_);(first|refine hK _ ?_|refine hR _ _ ?_);clear hK hR K R)
 repeat (first | refine nav ?_ | refine bo ?_)
 (refine W_dreg (by decide +kernel) [] [0,1,2,3,4,5,6,7,8,9,10,11,12,13,14,15,16,17] [[],[0],[0,1],[1,0,2],[2,0,1,3],[3,1,0,2,4],[4,2,0,1,3,5],[5,4,6,2,0,1,3],[],[8],[8,9],[2,0,1,3,9,8,10],[10,8,9,3,1,0,2,11],[11,2,0,1,3,9,8,10,12],[12,10,8,9,3,1,0,2,11,13],[13,12,14,10,8,9,3,1,0,2,11],[10,8,9,11,3,1,0,2,6,4,5,7],[7,5,4,6,16,11,2,0,1,3,9,8,10,14,12,13,15]] (by decide +kernel) rfl fun K R hK hR=>?_;simp only [List.filterMap_cons,List.filterMap_nil,List.getElem?_cons_zero,List.getElem?_cons_succ,List.cons_append,List.nil_append];simp only [go_sem];(try go_ints);(repeat refine And.intro side ?_);(first|refine hK _ ?_|refine hR _ _ ?_);clear hK hR K R)
 repeat (first | refine nav ?_ | refine bo ?_)
 (refine W_part [] 7 fun R hR=>?_;simp only [go_sem];(try go_ints);(repeat refine And.intro side ?_);refine hR _ _ ?_;clear hR R)
 generalize hX : (p.kind == 0 || p.kind == 1 || p.width == 0) = X
 cases X
 ·(refine rr fun K R hK hR=>?_;simp only [go_sem,size_zero];(try go_ints);(try simp only [go_sem,size_zero]);(repeat refine And.intro side ?_);(first|refine hK _ ?_|refine hR _ _ ?_);clear hK hR K R)
  repeat (first | refine nav ?_ | refine bo ?_)
  refine endQ_data (by simp only [go_sem]<;>exact rfl) (Le.of_eq ?_) rfl
  unfold spareF
  rw [hX]
  simp
 (refine RL_part [] 13 fun R hR=>?_;simp only [go_sem];(try go_ints);(repeat refine And.intro side ?_);refine hR _ _ ?_;clear hR R)
 generalize hY : (p.kind == 2 || p.kind == 3 || p.i == 0 && p.j == 0) = Y
 cases Y
 ·(refine rr fun K R hK hR=>?_;simp only [go_sem,size_zero];(try go_ints);(try simp only [go_sem,size_zero]);(repeat refine And.intro side ?_);(first|refine hK _ ?_|refine hR _ _ ?_);clear hK hR K R)
  repeat (first | refine nav ?_ | refine bo ?_)
  refine endQ_data (by simp only [go_sem]<;>exact rfl) (Le.of_eq ?_) rfl
  unfold spareF
  rw [hX,hY]
  simp
 (refine RL_part [] 10 fun R hR=>?_;simp only [go_sem,size_zero];(try go_ints);(try simp only [go_sem,size_zero]);(repeat refine And.intro side ?_);refine hR _ _ ?_;clear hR R)
 generalize hZ : (p.kind == 0 || decide (p.name.size = 0)) = Z
 cases Z
 ·(refine rr fun K R hK hR=>?_;simp only [go_sem,size_zero];(try go_ints);(try simp only [go_sem,size_zero]);(repeat refine And.intro side ?_);(first|refine hK _ ?_|refine hR _ _ ?_);clear hK hR K R)
  repeat (first | refine nav ?_ | refine bo ?_)
  refine endQ_data (by simp only [go_sem]<;>exact rfl) (Le.of_eq ?_) rfl
  unfold spareF
  rw [hX,hY,hZ]
  simp
 (refine rr fun K R hK hR=>?_;simp only [go_sem];(try go_ints);(repeat refine And.intro side ?_);(first|refine hK _ ?_|refine hR _ _ ?_);clear hK hR K R)
 repeat (first | refine nav ?_ | refine bo ?_)
 refine endQ_data (by simp only [go_sem]<;>exact rfl) (Le.of_eq ?_) rfl
 unfold spareF
 rw [hX,hY,hZ]
 simp
def kidsF (k : Int) : Nat:=if k = 0 ∨ k = 1 then 0 else if k = 4 ∨ k = 6 ∨ k = 7 then 2 else 1
theorem kids_spec (k : Int) : ACallsD Try.prog 65 [.i .i64 k] (.i .i64 (kidsF k)):=by
 refine ACalls_of' (n:=11) (rs:=[.tmp 2]) (show Try.prog.funcs[65]? = some Try.f65 by kernel_rfl) rfl rfl rfl (by simp) (by decide +kernel) ?_
 repeat' (first | refine nav ?_ | refine bo ?_ | (refine wr fun K R hK hR=>?_;simp only [go_sem];(try go_ints);(repeat refine And.intro side ?_);(first|refine hK _ ?_|refine hR _ _ ?_);clear hK hR K R) | ((refine W_cond (by simp only [go_sem, *]<;>exact rfl) (fun hb=>?_) (fun hb=>?_))<;>(try exact Bool.noConfusion hb)))
 all_goals refine endQ_data (by simp only [go_sem]<;>exact rfl) (Le.of_eq ?_) rfl
 all_goals simp_all [kidsF]
theorem inside1_spec {oc : List Ob} (ho : okO oc = true) {i : Nat} {n : Int} (hi : oc[i]? = some (.cells 1 [[.i .i64 n]])) (x : Int) :
  ACallsQ Try.prog 79 [.i .i64 x,.ptr i 0 0] oc (.b (decide (x < 0) || decide (x ≥ n))):=by
 refine ACalls_of' (n:=11) (rs:=[.tmp 3]) (show Try.prog.funcs[79]? = some Try.f79 by kernel_rfl) rfl rfl rfl (by simp) (by decide +kernel) ?_
 repeat (first | refine nav ?_ | refine bo ?_)
 (refine wr fun K R hK hR=>?_;simp only [go_sem];(try go_ints);(repeat refine And.intro side ?_);(first|refine hK _ ?_|refine hR _ _ ?_);clear hK hR K R)
 repeat (first | refine nav ?_ | refine bo ?_)
 (refine wr fun K R hK hR=>?_;simp only [go_sem,hi];(try go_ints);(try simp only [go_sem,hi]);(repeat refine And.intro side ?_);(first|refine hK _ ?_|refine hR _ _ ?_);clear hK hR K R)
 repeat (first | refine nav ?_ | refine bo ?_)
 refine endQ_quiet0 (by simp only [go_sem]<;>exact rfl) (Le.of_eq ?_) (by assumption) rfl
 rfl
def insideF (n : Int) (l : List Int) : Bool:=!l.any fun x=>decide (x < 0) || decide (x ≥ n)
theorem inside_spec (n : Int) (l : List Int) (hl : l.length ≤ 1099511627776) : ACallsD Try.prog 66 [.i .i64 n,.sl 1 (ints l)] (.b (insideF n l)):=by
 refine ACalls_of' (n:=9) (rs:=[.tmp 4]) (show Try.prog.funcs[66]? = some Try.f66 by kernel_rfl) rfl rfl rfl (by simp) (by decide +kernel) ?_
 repeat (first | refine nav ?_ | refine bo ?_)
 (refine wr fun K R hK hR=>?_;simp only [go_sem];(try go_ints);(repeat refine And.intro side ?_);(first|refine hK _ ?_|refine hR _ _ ?_);clear hK hR K R)
 repeat (first | refine nav ?_ | refine bo ?_)
 (refine wr fun K R hK hR=>?_;simp only [go_sem];(try go_ints);(repeat refine And.intro side ?_);(first|refine hK _ ?_|refine hR _ _ ?_);clear hK hR K R)
 refine RL_callQ (containsInt_spec rfl rfl rfl _ l hl fun x _=>inside1_spec (i:=0) rfl rfl x) (by simp only [go_sem]<;>exact rfl) rfl rfl (by simp) (by simp only [go_sem]) rfl rfl rfl ?_
 (refine rr fun K R hK hR=>?_;simp only [go_sem];(try go_ints);(repeat refine And.intro side ?_);(first|refine hK _ ?_|refine hR _ _ ?_);clear hK hR K R)
 repeat (first | refine nav ?_ | refine bo ?_)
 refine endQ_data (by simp only [go_sem]<;>exact rfl) (Le.of_eq ?_) rfl
 rfl
end Go.AW
namespace Go.AW
open Go Go.Proofs TyTry
set_option linter.unusedSimpArgs false
set_option linter.unusedVariables false
set_option maxRecDepth 100000
def fldsOf (P : Program) (t : TypeId) : Array Field:=match P.underlying t with | some (.struct fs)=>fs | _=>#[]
theorem undInt : Try.prog.underlying 3 = some (.int .i64):=by kernel_rfl
theorem undStr : Try.prog.underlying 9 = some .string:=by kernel_rfl
theorem undInts : Try.prog.underlying 32 = some (.slice 3):=by kernel_rfl
theorem undTups : Try.prog.underlying 49 = some (.slice 32):=by kernel_rfl
theorem undRels : Try.prog.underlying 23 = some (.slice 51):=by kernel_rfl
theorem undRel : Try.prog.underlying 51 = some (.struct (fldsOf Try.prog 51)):=by kernel_rfl
theorem undStru : Try.prog.underlying 25 = some (.struct (fldsOf Try.prog 25)):=by kernel_rfl
theorem fldsRel : (fldsOf Try.prog 51).toList.map (·.type) = [9,3,49]:=by kernel_rfl
theorem fldsStru : (fldsOf Try.prog 25).toList.map (·.type) = [3,23]:=by kernel_rfl
section
variable {H : Type} {w : World} {enc : TypeId × Value → H} {base : Nat} {spare : Nat → Bool} {held : Bool}
def Lite (t : TypeId) (d : DataW H) : Prop:=∀ n ∈ d.weights Try.prog t,n ≤ reachBytes
theorem weightsAll_in {P : Program} {e : TypeId} : ∀ {l : List (DataW H)} {d : DataW H},d ∈ l → ∀ n ∈ d.weights P e,n ∈ DataW.weightsAll P e l
 | x :: l,d,h,n,hn=>by
  simp only [DataW.weightsAll,List.mem_append]
  rcases List.mem_cons.1 h with rfl | h
  ·exact .inl hn
  ·exact .inr (weightsAll_in h n hn)
theorem read_int {k : Nat} {cs : List Value} {d : DataW H} {ps : List MemPlace} (h : DataW.trod enc Try.prog w base spare held k 3 cs = some (d,ps)) : ∃ n,cellsAV Try.prog k 3 d = [.i .i64 n]:=by
 cases k with
 | zero=>simp [DataW.trod] at h
 | succ k =>
  unfold DataW.trod at h
  rw [undInt] at h
  rcases cs with _ | ⟨v,_ | ⟨v2,r⟩⟩
  ·simp at h
  ·cases v<;>simp at h
   obtain ⟨⟨rfl,_⟩,rfl,_⟩:=h
   exact ⟨_,by simp only [cellsAV,undInt];exact rfl⟩
  ·simp at h
theorem read_str {k : Nat} {cs : List Value} {d : DataW H} {ps : List MemPlace} (h : DataW.trod enc Try.prog w base spare held k 9 cs = some (d,ps)) (hw : Lite 9 d) : ∃ x : ByteArray,cellsAV Try.prog k 9 d = [.s x] ∧ x.size ≤ reachBytes:=by
 cases k with
 | zero=>simp [DataW.trod] at h
 | succ k =>
  unfold DataW.trod at h
  rw [undStr] at h
  rcases cs with _ | ⟨v,_ | ⟨v2,r⟩⟩
  ·simp at h
  ·cases v with
   | string x =>
    simp only at h
    split at h
    ·simp only [Option.some.injEq,Prod.mk.injEq] at h
     obtain ⟨rfl,_⟩:=h
     refine ⟨x,by simp only [cellsAV,undStr],?_⟩
     have:=hw x.data.toList.length (by simp [DataW.weights])
     have e : x.size = x.data.toList.length:=by rw [Array.length_toList];rfl
     omega
    ·cases h
   | _=>simp at h
  ·simp at h
theorem read_sl {k : Nat} {t e : TypeId} {cs : List Value} {d : DataW H} {ps : List MemPlace} (hu : Try.prog.underlying t = some (.slice e)) (hb : 0 < Try.prog.bytesOf e)
  (h : DataW.trod enc Try.prog w base spare held (k + 1) t cs = some (d,ps)) (hw : Lite t d) :
  ∃ elems : List (DataW H),cellsAV Try.prog (k + 1) t d = [.sl (szOf Try.prog e) (elems.map fun x=>cellsAV Try.prog k e x)] ∧ elems.length ≤ reachBytes ∧
   ∀ x ∈ elems,(∃ cells q,DataW.trod enc Try.prog w base spare held k e cells = some (x,q)) ∧ Lite e x:=by
 obtain ⟨elems,h1,h2,h3⟩:=read_slice hu h
 rcases h2 with ⟨rfl,rfl⟩ | ⟨sp,rfl⟩
 ·exact ⟨[],h1,Nat.zero_le _,fun x hx=>by simp at hx⟩
 ·refine ⟨elems,h1,?_,fun x hx=>⟨h3 x hx,fun n hn=>hw n ?_⟩⟩
  ·have:=hw ((elems.length + sp.length) * Try.prog.bytesOf e) (by simp [DataW.weights,hu])
   have h4 : elems.length ≤ (elems.length + sp.length) * Try.prog.bytesOf e :=
    Nat.le_trans (Nat.le_add_right _ _) (Nat.le_mul_of_pos_right _ hb)
   omega
  ·simp only [DataW.weights,hu,List.mem_cons,List.mem_append]
   exact .inr (.inl (weightsAll_in hx n hn))
theorem read_map {α β γ : Type} {F : α → γ} {G : β → γ} {Pr : β → Prop} : ∀ {l : List α},(∀ x ∈ l,∃ y,F x = G y ∧ Pr y) → ∃ r : List β,l.map F = r.map G ∧ r.length = l.length ∧ ∀ y ∈ r,Pr y
 | [],_=>⟨[],rfl,rfl,fun y hy=>by simp at hy⟩
 | x :: l,h=>by
  obtain ⟨r,h1,h2,h3⟩:=read_map (l:=l) fun x hx=>h x (by simp [hx])
  obtain ⟨y,e1,e2⟩:=h x (by simp)
  refine ⟨y :: r,by simp [h1,e1],by simp [h2],fun z hz=>?_⟩
  rcases List.mem_cons.1 hz with rfl | hz
  ·exact e2
  ·exact h3 z hz
theorem read_ints {k : Nat} {cs : List Value} {d : DataW H} {ps : List MemPlace} (h : DataW.trod enc Try.prog w base spare held k 32 cs = some (d,ps)) (hw : Lite 32 d) : ∃ l : List Int,cellsAV Try.prog k 32 d = [.sl 1 (ints l)] ∧ l.length ≤ reachBytes:=by
 cases k with
 | zero=>simp [DataW.trod] at h
 | succ k =>
  obtain ⟨elems,h1,h2,h3⟩:=read_sl undInts (by decide +kernel) h hw
  obtain ⟨r,e1,e2,_⟩:=read_map (F:=fun x=>cellsAV Try.prog k 3 x) (G:=fun n : Int=>[AV.i .i64 n]) (Pr:=fun _=>True) (l:=elems) fun x hx=>by
   obtain ⟨⟨cells,q,hq⟩,_⟩:=h3 x hx
   obtain ⟨n,hn⟩:=read_int hq
   exact ⟨n,hn,trivial⟩
  exact ⟨r,by rw [h1,e1,sz3];rfl,by omega⟩
theorem read_tups {k : Nat} {cs : List Value} {d : DataW H} {ps : List MemPlace} (h : DataW.trod enc Try.prog w base spare held k 49 cs = some (d,ps)) (hw : Lite 49 d) :
  ∃ l : List (List Int),cellsAV Try.prog k 49 d = [.sl 1 (tups l)] ∧ l.length ≤ reachBytes ∧ ∀ t ∈ l,t.length ≤ reachBytes:=by
 cases k with
 | zero=>simp [DataW.trod] at h
 | succ k =>
  obtain ⟨elems,h1,h2,h3⟩:=read_sl undTups (by decide +kernel) h hw
  obtain ⟨r,e1,e2,e3⟩:=read_map (F:=fun x=>cellsAV Try.prog k 32 x) (G:=fun l : List Int=>[AV.sl 1 (ints l)]) (Pr:=fun l=>l.length ≤ reachBytes) (l:=elems) fun x hx=>by
   obtain ⟨⟨cells,q,hq⟩,hl⟩:=h3 x hx
   exact read_ints hq hl
  exact ⟨r,by rw [h1,e1,sz32];rfl,by omega,e3⟩
theorem read_fields {k : Nat} {t : TypeId} {fs : Array Field} {cs : List Value} {d : DataW H} {ps : List MemPlace} (hu : Try.prog.underlying t = some (.struct fs)) (h : DataW.trod enc Try.prog w base spare held (k + 1) t cs = some (d,ps)) (hw : Lite t d) :
  ∃ parts : List (DataW H),cellsAV Try.prog (k + 1) t d = ((fs.toList.map (·.type)).zip parts).flatMap (fun x=>cellsAV Try.prog k x.1 x.2) ∧ parts.length = (fs.toList.map (·.type)).length ∧
   ∀ (i : Nat) (e : TypeId) x,(fs.toList.map (·.type))[i]? = some e → parts[i]? = some x → (∃ cells q,DataW.trod enc Try.prog w base spare held k e cells = some (x,q)) ∧ Lite e x:=by
 obtain ⟨parts,rfl,h1,h2,h3⟩:=read_struct hu h
 refine ⟨parts,?_,by simpa using h2,fun i e x hi hx=>?_⟩
 ·rw [h1,List.zip_map_left,List.flatMap_map];rfl
 ·have hi':=hi
  rw [List.getElem?_map] at hi
  cases hf : fs.toList[i]? with
  | none=>rw [hf] at hi;cases hi
  | some f =>
   rw [hf] at hi
   obtain rfl:=Option.some.inj hi
   refine ⟨h3 i f x hf hx,fun n hn=>hw n ?_⟩
   simp only [DataW.weights,hu]
   exact DataW.weights_mem_each hi' hx n hn
end
theorem undPlan : Try.prog.underlying 34 = some (.struct (fldsOf Try.prog 34)):=by kernel_rfl
theorem undPlans : Try.prog.underlying 22 = some (.slice 34):=by kernel_rfl
theorem fldsPlan : (fldsOf Try.prog 34).toList.map (·.type) = [3,3,3,3,9,32,22]:=by kernel_rfl
theorem read_plan {H : Type} {w : World} {enc : TypeId × Value → H} {base : Nat} {spare : Nat → Bool} {held : Bool} : ∀ (k : Nat) {cs : List Value} {d : DataW H} {ps : List MemPlace},DataW.trod enc Try.prog w base spare held k 34 cs = some (d,ps) → Lite 34 d → ∃ p : PlanD,cellsAV Try.prog k 34 d = p.cells ∧ p.Ok:=by
 intro k
 induction k using Nat.strongRecOn with
 | _ k ih =>
  intro cs d ps h hw
  cases k with
  | zero=>simp [DataW.trod] at h
  | succ k =>
   obtain ⟨parts,h1,h2,h3⟩:=read_fields undPlan h hw
   rw [fldsPlan] at h1 h2 h3
   match parts,h2 with
   | [a0,a1,a2,a3,a4,a5,a6],_ =>
    obtain ⟨⟨_,_,q0⟩,w0⟩:=h3 0 3 a0 rfl rfl
    obtain ⟨⟨_,_,q1⟩,w1⟩:=h3 1 3 a1 rfl rfl
    obtain ⟨⟨_,_,q2⟩,w2⟩:=h3 2 3 a2 rfl rfl
    obtain ⟨⟨_,_,q3⟩,w3⟩:=h3 3 3 a3 rfl rfl
    obtain ⟨⟨_,_,q4⟩,w4⟩:=h3 4 9 a4 rfl rfl
    obtain ⟨⟨_,_,q5⟩,w5⟩:=h3 5 32 a5 rfl rfl
    obtain ⟨⟨_,_,q6⟩,w6⟩:=h3 6 22 a6 rfl rfl
    obtain ⟨n0,e0⟩:=read_int q0
    obtain ⟨n1,e1⟩:=read_int q1
    obtain ⟨n2,e2⟩:=read_int q2
    obtain ⟨n3,e3⟩:=read_int q3
    obtain ⟨x,ex,bx⟩:=read_str q4 w4
    obtain ⟨l,el,bl⟩:=read_ints q5 w5
    cases k with
    | zero=>simp [DataW.trod] at q6
    | succ k =>
     obtain ⟨elems,g1,g2,g3⟩:=read_sl undPlans (by decide +kernel) q6 w6
     obtain ⟨r,f1,f2,f3⟩:=read_map (F:=fun x=>cellsAV Try.prog k 34 x) (G:=PlanD.cells) (Pr:=PlanD.Ok) (l:=elems) fun x hx=>by
      obtain ⟨⟨cells,q,hq⟩,hl⟩:=g3 x hx
      exact ih k (by omega) hq hl
     have hrb : reachBytes ≤ 1125899906842624:=by decide
     refine ⟨.mk n0 n1 n2 n3 x l r,?_,.mk _ (Nat.le_trans bx hrb) (Nat.le_trans bl hrb) (by simp only [PlanD.kids];omega) f3⟩
     rw [h1,PlanD.cells_eq]
     simp only [List.zip_cons_cons,List.zip_nil_right,List.flatMap_cons,List.flatMap_nil,e0,e1,e2,e3,ex,el,g1,f1,sz34]
     rfl
theorem plainInt (k : Nat) : plainT Try.prog k 3 = true:=by
 cases k with
 | zero=>rfl
 | succ k=>unfold plainT;rw [undInt];exact (by decide +kernel : decide (Try.prog.cellsOf 3 = 1) = true)
theorem plainStr (k : Nat) : plainT Try.prog k 9 = true:=by
 cases k with
 | zero=>rfl
 | succ k=>unfold plainT;rw [undStr];exact (by decide +kernel : decide (Try.prog.cellsOf 9 = 1) = true)
theorem plainSl {t e : TypeId} (hu : Try.prog.underlying t = some (.slice e)) (h1 : Try.prog.cellsOf t = 1) (h2 : 0 < Try.prog.cellsOf e) (h : ∀ k,plainT Try.prog k e = true) (k : Nat) : plainT Try.prog k t = true:=by
 cases k with
 | zero=>rfl
 | succ k=>unfold plainT;rw [hu];simp [h1,h2,h k]
theorem plainStruct {t : TypeId} {fs : Array Field} (hu : Try.prog.underlying t = some (.struct fs)) (h1 : laidF Try.prog 0 fs.toList = some (Try.prog.cellsOf t)) (h : ∀ k,∀ e ∈ fs.toList.map (·.type),plainT Try.prog k e = true) (k : Nat) : plainT Try.prog k t = true:=by
 cases k with
 | zero=>rfl
 | succ k =>
  unfold plainT
  rw [hu]
  simp only [Bool.and_eq_true,List.all_eq_true,decide_eq_true_eq]
  exact ⟨fun f hf=>h k _ (List.mem_map_of_mem hf),h1⟩
theorem plainInts (k : Nat) : plainT Try.prog k 32 = true:=plainSl undInts (by decide +kernel) (by decide +kernel) plainInt k
theorem plainTups (k : Nat) : plainT Try.prog k 49 = true:=plainSl undTups (by decide +kernel) (by decide +kernel) plainInts k
theorem plainRel (k : Nat) : plainT Try.prog k 51 = true:=plainStruct undRel (by decide +kernel) (fun k e he=>by
 rw [fldsRel] at he
 simp only [List.mem_cons,List.not_mem_nil,or_false] at he
 rcases he with rfl | rfl | rfl
 ·exact plainStr k
 ·exact plainInt k
 ·exact plainTups k) k
theorem plainRels (k : Nat) : plainT Try.prog k 23 = true:=plainSl undRels (by decide +kernel) (by decide +kernel) plainRel k
theorem plainStru (k : Nat) : plainT Try.prog k 25 = true:=plainStruct undStru (by decide +kernel) (fun k e he=>by
 rw [fldsStru] at he
 simp only [List.mem_cons,List.not_mem_nil,or_false] at he
 rcases he with rfl | rfl
 ·exact plainInt k
 ·exact plainRels k) k
theorem plainPlans : ∀ k,plainT Try.prog k 34 = true ∧ plainT Try.prog k 22 = true:=by
 intro k
 induction k with
 | zero=>exact ⟨rfl,rfl⟩
 | succ k ih =>
  refine ⟨?_,?_⟩
  ·unfold plainT
   rw [undPlan]
   simp only [Bool.and_eq_true,List.all_eq_true,decide_eq_true_eq]
   refine ⟨fun f hf=>?_,(by decide +kernel : laidF Try.prog 0 (fldsOf Try.prog 34).toList = some (Try.prog.cellsOf 34))⟩
   have he : f.type ∈ (fldsOf Try.prog 34).toList.map (·.type):=List.mem_map_of_mem hf
   rw [fldsPlan] at he
   simp only [List.mem_cons,List.not_mem_nil,or_false] at he
   rcases he with h | h | h | h | h | h | h<;>rw [h]
   ·exact plainInt k
   ·exact plainInt k
   ·exact plainInt k
   ·exact plainInt k
   ·exact plainStr k
   ·exact plainInts k
   ·exact ih.2
  ·unfold plainT
   rw [undPlans]
   have h1 : Try.prog.cellsOf 22 = 1:=by decide +kernel
   have h2 : 0 < Try.prog.cellsOf 34:=by decide +kernel
   simp [h1,h2,ih.1]
end Go.AW
namespace Go.AW
open Go Go.Proofs TyTry Go.IntWalk
set_option linter.unusedSimpArgs false
set_option linter.unusedVariables false
set_option maxRecDepth 10000
set_option maxHeartbeats 1000000
theorem rletter_spec (c : Int) : ACallsD Try.prog 43 [.i .u8 c] (.b (letterF c)):=by
 refine ACalls_of' (n:=17) (rs:=[.tmp 2]) (show Try.prog.funcs[43]? = some Try.f43 by kernel_rfl) rfl rfl rfl (by simp) (by decide +kernel) ?_
 repeat' (first | refine nav ?_ | refine bo ?_ | (refine wr fun K R hK hR=>?_;simp only [go_sem];(try go_ints);(repeat refine And.intro side ?_);(first|refine hK _ ?_|refine hR _ _ ?_);clear hK hR K R) | ((refine W_cond (by simp only [go_sem, *]<;>exact rfl) (fun hb=>?_) (fun hb=>?_))<;>(try exact Bool.noConfusion hb)))
 refine endQ_data (by simp only [go_sem]<;>exact rfl) (Le.of_eq ?_) rfl
 try rfl
theorem rdigit_spec (c : Int) : ACallsD Try.prog 45 [.i .u8 c] (.b (digitF c)):=by
 refine ACalls_of' (n:=9) (rs:=[.tmp 2]) (show Try.prog.funcs[45]? = some Try.f45 by kernel_rfl) rfl rfl rfl (by simp) (by decide +kernel) ?_
 repeat' (first | refine nav ?_ | refine bo ?_ | (refine wr fun K R hK hR=>?_;simp only [go_sem];(try go_ints);(repeat refine And.intro side ?_);(first|refine hK _ ?_|refine hR _ _ ?_);clear hK hR K R) | ((refine W_cond (by simp only [go_sem, *]<;>exact rfl) (fun hb=>?_) (fun hb=>?_))<;>(try exact Bool.noConfusion hb)))
 refine endQ_data (by simp only [go_sem]<;>exact rfl) (Le.of_eq ?_) rfl
 try rfl
theorem rword_spec (x : ByteArray) : ACallsD Try.prog 44 [.s x] (.b (wordF x)):=by
 refine ACalls_of' (n:=16) (rs:=[.tmp 2]) (show Try.prog.funcs[44]? = some Try.f44 by kernel_rfl) rfl rfl rfl (by simp) (by decide +kernel) ?_
 repeat' (first | refine nav ?_ | refine bo ?_ | (refine wr fun K R hK hR=>?_;simp only [go_sem];(try go_ints);(repeat refine And.intro side ?_);(first|refine hK _ ?_|refine hR _ _ ?_);clear hK hR K R) | ((refine W_cond (by simp only [go_sem, *]<;>exact rfl) (fun hb=>?_) (fun hb=>?_))<;>(try exact Bool.noConfusion hb)))
 all_goals refine endQ_data (by simp only [go_sem]<;>exact rfl) (Le.of_eq ?_) rfl
 all_goals simp only [wordF,wordsL,List.any_cons,List.any_nil,Bool.or_true,Bool.true_or,Bool.or_false,Bool.false_or, *]
theorem rname_spec (x : ByteArray) (hx : x.size ≤ 1125899906842624) : ACallsD Try.prog 30 [.s x] (.b (nameF x)):=by
 refine ACalls_of' (n:=40) (rs:=[.tmp 2]) (show Try.prog.funcs[30]? = some Try.f30 by kernel_rfl) rfl rfl rfl (by simp) (by decide +kernel) ?_
 repeat (first | refine nav ?_ | refine bo ?_)
 (refine wr fun K R hK hR=>?_;simp only [go_sem];(try go_ints);(repeat refine And.intro side ?_);(first|refine hK _ ?_|refine hR _ _ ?_);clear hK hR K R)
 repeat (first | refine nav ?_ | refine bo ?_)
 (refine wr fun K R hK hR=>?_;simp only [go_sem];(try go_ints);(repeat refine And.intro side ?_);(first|refine hK _ ?_|refine hR _ _ ?_);clear hK hR K R)
 refine RL_callDg rfl (by simp only [go_sem]<;>exact rfl) (fun e=>rletter_spec (chF x 0)) rfl rfl rfl (fun e=>by (try simp only [go_sem] at e);simp only [go_sem,e]<;>(try simp only [go_sem,chF])<;>first | exact LeA.refl _ | exact Le.refl _) rfl rfl ?_
 (refine rr fun K R hK hR=>?_;simp only [go_sem];(try go_ints);(repeat refine And.intro side ?_);(first|refine hK _ ?_|refine hR _ _ ?_);clear hK hR K R)
 refine RL_callDg rfl (by simp only [go_sem]<;>exact rfl) (fun e=>rword_spec x) rfl rfl rfl (fun e=>by (try simp only [go_sem] at e);simp only [go_sem,e]<;>(try simp only [go_sem])<;>first | exact LeA.refl _ | exact Le.refl _) rfl rfl ?_
 (refine rr fun K R hK hR=>?_;simp only [go_sem];(try go_ints);(repeat refine And.intro side ?_);(first|refine hK _ ?_|refine hR _ _ ?_);clear hK hR K R)
 repeat (first | refine nav ?_ | refine bo ?_)
 refine W_cond (by simp only [go_sem]<;>exact rfl) (fun hb=>?_) (fun hb=>?_)
 ·simp only [Bool.or_eq_true,decide_eq_true_eq,Bool.not_eq_true'] at hb
  repeat (first | refine nav ?_ | refine bo ?_)
  (refine wr fun K R hK hR=>?_;simp only [go_sem];(try go_ints);(repeat refine And.intro side ?_);(first|refine hK _ ?_|refine hR _ _ ?_);clear hK hR K R)
  repeat (first | refine nav ?_ | refine bo ?_)
  refine endQ_data (by simp only [go_sem]<;>exact rfl) (Le.of_eq ?_) rfl
  rcases hb with ((hb | hb) | hb) | hb<;>simp [nameF,hb]
  all_goals (intros;omega)
 ·simp only [Bool.or_eq_false_iff,decide_eq_false_iff_not,Bool.not_eq_false'] at hb
  obtain ⟨⟨⟨h1,h2⟩,h3⟩,h4⟩:=hb
  repeat (first | refine nav ?_ | refine bo ?_)
  (refine wr fun K R hK hR=>?_;simp only [go_sem];(try go_ints);(repeat refine And.intro side ?_);(first|refine hK _ ?_|refine hR _ _ ?_);clear hK hR K R)
  repeat (first | refine nav ?_ | refine bo ?_)
  refine W_for 3 40 [3] (fun m t o=>∃ k : Nat,[] = o ∧ t 3 = .i .i64 k ∧ m = x.size - k ∧ k ≤ x.size ∧ 1 ≤ k ∧ ∀ i < k,(letterF (chF x i) || digitF (chF x i)) = true) (x.size - 1) ⟨1,rfl,by simp only [go_sem]<;>rfl,rfl,by omega,by omega,fun i hi=>by
   have : i = 0:=by omega
   subst this;rw [h3];rfl⟩ ?_
  rintro m t o ⟨k,rfl,h23,rfl,hk,hk1,hi⟩
  repeat (first | refine nav ?_ | refine bo ?_)
  (refine wr fun K R hK hR=>?_;simp only [go_sem,h23];(try go_ints);(try simp only [go_sem,h23]);(repeat refine And.intro side ?_);(first|refine hK _ ?_|refine hR _ _ ?_);clear hK hR K R)
  repeat (first | refine nav ?_ | refine bo ?_)
  refine W_cond (by simp only [go_sem]<;>exact rfl) (fun hb=>?_) (fun hb=>?_)
  ·simp at hb
   repeat (first | refine nav ?_ | refine bo ?_)
   (refine wr fun K R hK hR=>?_;simp only [go_sem,h23];(try go_ints);(try simp only [go_sem,h23]);(repeat refine And.intro side ?_);(first|refine hK _ ?_|refine hR _ _ ?_);clear hK hR K R)
   refine RL_callF (rletter_spec (chF x k)) rfl rfl rfl (by first | (simp only [go_sem,chF]<;>first | exact LeA.refl _ | exact Le.refl _) | exact LeA.refl _) rfl rfl ?_
   (refine rr fun K R hK hR=>?_;simp only [go_sem,h23];(try go_ints);(try simp only [go_sem,h23]);(repeat refine And.intro side ?_);(first|refine hK _ ?_|refine hR _ _ ?_);clear hK hR K R)
   refine RL_callDg rfl (by simp only [go_sem]<;>exact rfl) (fun e=>rdigit_spec (chF x k)) rfl rfl rfl (fun e=>by (try simp only [go_sem] at e);simp only [go_sem,e]<;>(try simp only [go_sem,chF])<;>first | exact LeA.refl _ | exact Le.refl _) rfl rfl ?_
   (refine rr fun K R hK hR=>?_;simp only [go_sem];(try go_ints);(repeat refine And.intro side ?_);(first|refine hK _ ?_|refine hR _ _ ?_);clear hK hR K R)
   repeat (first | refine nav ?_ | refine bo ?_)
   refine W_cond (by simp only [go_sem]<;>exact rfl) (fun hc=>?_) (fun hc=>?_)
   ·simp at hc
    repeat (first | refine nav ?_ | refine bo ?_)
    (refine wr fun K R hK hR=>?_;simp only [go_sem];(try go_ints);(repeat refine And.intro side ?_);(first|refine hK _ ?_|refine hR _ _ ?_);clear hK hR K R)
    repeat (first | refine nav ?_ | refine bo ?_)
    refine endQ_data (by simp only [go_sem]<;>exact rfl) (Le.of_eq ?_) rfl
    simp [nameF]
    intros
    exact ⟨k,hb,by simp [hc]⟩
   ·repeat (first | refine nav ?_ | refine bo ?_)
    (refine wr fun K R hK hR=>?_;simp only [go_sem,h23];(try go_ints);(try simp only [go_sem,h23]);(repeat refine And.intro side ?_);(first|refine hK _ ?_|refine hR _ _ ?_);clear hK hR K R)
    refine forQ_normal (x.size - (k + 1)) (by omega) ⟨k + 1,?_⟩
    ((try simp only [go_sem]);(repeat' refine And.intro ?_ ?_)<;>(try first | with_reducible rfl | omega | with_reducible assumption | (simp;done)))
    intro i hik
    rcases Nat.lt_succ_iff_lt_or_eq.1 hik with h | rfl
    ·exact hi i h
    ·simp at hc
     cases h : letterF (chF x i)<;>simp_all
  ·simp at hb
   have : k = x.size:=by omega
   subst this
   repeat (first | refine nav ?_ | refine bo ?_)
   (refine wr fun K R hK hR=>?_;simp only [go_sem];(try go_ints);(repeat refine And.intro side ?_);(first|refine hK _ ?_|refine hR _ _ ?_);clear hK hR K R)
   repeat (first | refine nav ?_ | refine bo ?_)
   refine endQ_data (by simp only [go_sem]<;>exact rfl) (Le.of_eq ?_) rfl
   simp only [nameF,h3,h4,AV.b.injEq]
   have a1 : decide (1 ≤ x.size) = true:=by simp;omega
   have a2 : decide (x.size ≤ 12) = true:=by simp;omega
   rw [a1,a2]
   simp
   intro i hlt
   simpa using hi i hlt
theorem places_spec (n : Int) (l : List Int) (hl : l.length ≤ 1125899906842624) : ACallsD Try.prog 31 [.sl 1 (ints l),.i .i64 n] (.b (insideF n l)):=by
 refine ACalls_of' (n:=25) (rs:=[.tmp 4]) (show Try.prog.funcs[31]? = some Try.f31 by kernel_rfl) rfl rfl rfl (by simp) (by decide +kernel) ?_
 repeat (first | refine nav ?_ | refine bo ?_)
 (refine wr fun K R hK hR=>?_;simp only [go_sem];(try go_ints);(repeat refine And.intro side ?_);(first|refine hK _ ?_|refine hR _ _ ?_);clear hK hR K R)
 repeat (first | refine nav ?_ | refine bo ?_)
 (refine wr fun K R hK hR=>?_;simp only [go_sem];(try go_ints);(repeat refine And.intro side ?_);(first|refine hK _ ?_|refine hR _ _ ?_);clear hK hR K R)
 repeat (first | refine nav ?_ | refine bo ?_)
 refine W_for 5 25 [5] (fun m t o=>∃ k : Nat,[] = o ∧ t 5 = .i .i64 k ∧ m = l.length - k ∧ k ≤ l.length ∧ (l.take k).any (fun x=>decide (x < 0) || decide (x ≥ n)) = false) l.length ⟨0,rfl,by simp only [go_sem]<;>rfl,by omega,by omega,rfl⟩ ?_
 rintro m t o ⟨k,rfl,h5,rfl,hk,hi⟩
 repeat (first | refine nav ?_ | refine bo ?_)
 (refine wr fun K R hK hR=>?_;simp only [go_sem,h5];(try go_ints);(try simp only [go_sem,h5]);(repeat refine And.intro side ?_);(first|refine hK _ ?_|refine hR _ _ ?_);clear hK hR K R)
 repeat (first | refine nav ?_ | refine bo ?_)
 refine W_cond (by simp only [go_sem]<;>exact rfl) (fun hb=>?_) (fun hb=>?_)
 ·simp at hb
  obtain ⟨x,hx⟩ : ∃ x,l[k]? = some x:=⟨_,List.getElem?_eq_getElem hb⟩
  have hxm:=List.mem_of_getElem? hx
  repeat (first | refine nav ?_ | refine bo ?_)
  (refine wr fun K R hK hR=>?_;simp only [go_sem,h5,ints_get hx];(try go_ints);(try simp only [go_sem,h5,ints_get hx]);(repeat refine And.intro side ?_);(first|refine hK _ ?_|refine hR _ _ ?_);clear hK hR K R)
  repeat (first | refine nav ?_ | refine bo ?_)
  refine W_cond (b:=decide (x < 0) || decide (x ≥ n)) (by simp only [go_sem]) (fun hc=>?_) (fun hc=>?_)
  ·repeat (first | refine nav ?_ | refine bo ?_)
   (refine wr fun K R hK hR=>?_;simp only [go_sem];(try go_ints);(repeat refine And.intro side ?_);(first|refine hK _ ?_|refine hR _ _ ?_);clear hK hR K R)
   repeat (first | refine nav ?_ | refine bo ?_)
   refine endQ_data (by simp only [go_sem]<;>exact rfl) (Le.of_eq ?_) rfl
   have : (l.any fun x=>decide (x < 0) || decide (x ≥ n)) = true:=List.any_eq_true.2 ⟨x,hxm,hc⟩
   unfold insideF
   rw [this];rfl
  ·repeat (first | refine nav ?_ | refine bo ?_)
   (refine wr fun K R hK hR=>?_;simp only [go_sem,h5];(try go_ints);(try simp only [go_sem,h5]);(repeat refine And.intro side ?_);(first|refine hK _ ?_|refine hR _ _ ?_);clear hK hR K R)
   refine forQ_normal (l.length - (k + 1)) (by omega) ⟨k + 1,?_⟩
   ((try simp only [go_sem]);(repeat' refine And.intro ?_ ?_)<;>(try first | with_reducible rfl | omega | with_reducible assumption | (simp;done)))
   rw [List.take_add_one,hx,List.any_append,hi]
   simpa using hc
 ·simp at hb
  have : k = l.length:=by omega
  subst this
  rw [List.take_length] at hi
  repeat (first | refine nav ?_ | refine bo ?_)
  (refine wr fun K R hK hR=>?_;simp only [go_sem];(try go_ints);(repeat refine And.intro side ?_);(first|refine hK _ ?_|refine hR _ _ ?_);clear hK hR K R)
  repeat (first | refine nav ?_ | refine bo ?_)
  refine endQ_data (by simp only [go_sem]<;>exact rfl) (Le.of_eq ?_) rfl
  unfold insideF
  rw [hi];rfl
end Go.AW
namespace Go.AW
open Go Go.Proofs TyTry Go.IntWalk
set_option linter.unusedSimpArgs false
set_option linter.unusedVariables false
set_option maxRecDepth 10000
set_option maxHeartbeats 1000000
def lessL : List Int → List Int → Bool
 | a :: l,b :: r=>if a = b then lessL l r else decide (a < b)
 | _,_=>false
theorem less_spec (a b : List Int) (ha : a.length ≤ 1099511627776) (hab : a.length = b.length) : ACallsD Try.prog 34 [.sl 1 (ints a),.sl 1 (ints b)] (.b (lessL a b)):=by
 refine ACalls_of' (n:=30) (rs:=[.tmp 4]) (show Try.prog.funcs[34]? = some Try.f34 by kernel_rfl) rfl rfl rfl (by simp) (by decide +kernel) ?_
 repeat (first | refine nav ?_ | refine bo ?_)
 (refine wr fun K R hK hR=>?_;simp only [go_sem];(try go_ints);(repeat refine And.intro side ?_);(first|refine hK _ ?_|refine hR _ _ ?_);clear hK hR K R)
 repeat (first | refine nav ?_ | refine bo ?_)
 (refine wr fun K R hK hR=>?_;simp only [go_sem];(try go_ints);(repeat refine And.intro side ?_);(first|refine hK _ ?_|refine hR _ _ ?_);clear hK hR K R)
 repeat (first | refine nav ?_ | refine bo ?_)
 refine W_for 6 30 [5] (fun m t o=>∃ k : Nat,[] = o ∧ t 5 = .i .i64 k ∧ m = a.length - k ∧ k ≤ a.length ∧ lessL (a.drop k) (b.drop k) = lessL a b) a.length ⟨0,rfl,by simp only [go_sem]<;>rfl,by omega,Nat.zero_le _,rfl⟩ ?_
 rintro m t o ⟨k,rfl,h5,rfl,hk,hi⟩
 repeat (first | refine nav ?_ | refine bo ?_)
 (refine wr fun K R hK hR=>?_;simp only [go_sem,h5];(try go_ints);(try simp only [go_sem,h5]);(repeat refine And.intro side ?_);(first|refine hK _ ?_|refine hR _ _ ?_);clear hK hR K R)
 repeat (first | refine nav ?_ | refine bo ?_)
 refine W_cond (by simp only [go_sem]<;>exact rfl) (fun hb=>?_) (fun hb=>?_)
 ·simp at hb
  obtain ⟨x,hx⟩ : ∃ x,a[k]? = some x:=⟨_,List.getElem?_eq_getElem hb⟩
  obtain ⟨y,hy⟩ : ∃ y,b[k]? = some y:=⟨_,List.getElem?_eq_getElem (by omega)⟩
  rw [drop_cons hx,drop_cons hy,lessL] at hi
  repeat (first | refine nav ?_ | refine bo ?_)
  (refine W_dreg (by decide +kernel) [] [0,1,2,3,4,5,6,7,8] [[],[],[1,0],[0,1,2],[],[],[5,4],[4,5,6],[6,5,4,7,2,1,0,3]] (by decide +kernel) rfl fun K R hK hR=>?_;simp only [List.filterMap_cons,List.filterMap_nil,List.getElem?_cons_zero,List.getElem?_cons_succ,List.cons_append,List.nil_append];simp only [go_sem,h5,ints_get hx,ints_get hy];(try go_ints);(try simp only [go_sem,h5,ints_get hx,ints_get hy]);(repeat refine And.intro side ?_);(first|refine hK _ ?_|refine hR _ _ ?_);clear hK hR K R)
  repeat (first | refine nav ?_ | refine bo ?_)
  refine W_cond (by simp only [go_sem]<;>exact rfl) (fun hd=>?_) (fun hd=>?_)
  ·rw [if_neg (by simpa using hd)] at hi
   repeat (first | refine nav ?_ | refine bo ?_)
   (refine W_dreg (by decide +kernel) [] [0,1,2,3,4,5,6,7,8,9] [[],[],[1,0],[0,1,2],[],[],[5,4],[4,5,6],[6,5,4,7,2,1,0,3],[3,0,1,2,7,4,5,6,8]] (by decide +kernel) rfl fun K R hK hR=>?_;simp only [List.filterMap_cons,List.filterMap_nil,List.getElem?_cons_zero,List.getElem?_cons_succ,List.cons_append,List.nil_append];simp only [go_sem,h5,ints_get hx,ints_get hy];(try go_ints);(try simp only [go_sem,h5,ints_get hx,ints_get hy]);(repeat refine And.intro side ?_);(first|refine hK _ ?_|refine hR _ _ ?_);clear hK hR K R)
   repeat (first | refine nav ?_ | refine bo ?_)
   refine endQ_data (by simp only [go_sem]<;>exact rfl) (Le.of_eq ?_) rfl
   rw [hi]
  ·rw [if_pos (by simpa using hd)] at hi
   repeat (first | refine nav ?_ | refine bo ?_)
   (refine wr fun K R hK hR=>?_;simp only [go_sem,h5];(try go_ints);(try simp only [go_sem,h5]);(repeat refine And.intro side ?_);(first|refine hK _ ?_|refine hR _ _ ?_);clear hK hR K R)
   refine forQ_normal (a.length - (k + 1)) (by omega) ⟨k + 1,?_⟩
   ((try simp only [go_sem]);(repeat' refine And.intro ?_ ?_)<;>(try first | with_reducible rfl | omega | with_reducible assumption | (simp;done)))
 ·simp at hb
  have : k = a.length:=by omega
  subst this
  rw [List.drop_length,lessL] at hi
  ·repeat (first | refine nav ?_ | refine bo ?_)
   (refine wr fun K R hK hR=>?_;simp only [go_sem];(try go_ints);(repeat refine And.intro side ?_);(first|refine hK _ ?_|refine hR _ _ ?_);clear hK hR K R)
   repeat (first | refine nav ?_ | refine bo ?_)
   refine endQ_data (by simp only [go_sem]<;>exact rfl) (Le.of_eq ?_) rfl
   rw [← hi]
  ·intro a l b r h;cases h
theorem lessL_cmp : ∀ (a b : List Int),a.length = b.length → lessL a b = decide (cmpL a b < 0)
 | [],[],_=>rfl
 | a :: l,b :: r,h=>by
  rw [lessL,cmpL]
  have ih:=lessL_cmp l r (by simpa using h)
  by_cases hab : a = b
  ·rw [if_pos hab,ih,if_neg (by subst hab;simp [cmpF])]
  ·rw [if_neg hab,if_pos (by simp [cmpF];omega)]
   simp only [cmpF]
   by_cases h1 : a < b
   ·simp [h1]
   ·simp [h1];split<;>omega
theorem equal_spec (a b : List Int) (ha : a.length ≤ 1099511627776) : ACallsD Try.prog 26 [.sl 1 (ints a),.sl 1 (ints b)] (.b (decide (a = b))):=by
 refine ACalls_of' (n:=26) (rs:=[.tmp 4]) (show Try.prog.funcs[26]? = some Try.f26 by kernel_rfl) rfl rfl rfl (by simp) (by decide +kernel) ?_
 repeat (first | refine nav ?_ | refine bo ?_)
 (refine wr fun K R hK hR=>?_;simp only [go_sem];(try go_ints);(repeat refine And.intro side ?_);(first|refine hK _ ?_|refine hR _ _ ?_);clear hK hR K R)
 repeat (first | refine nav ?_ | refine bo ?_)
 (refine wr fun K R hK hR=>?_;simp only [go_sem];(try go_ints);(repeat refine And.intro side ?_);(first|refine hK _ ?_|refine hR _ _ ?_);clear hK hR K R)
 repeat (first | refine nav ?_ | refine bo ?_)
 refine W_cond (by simp only [go_sem]<;>exact rfl) (fun hb=>?_) (fun hb=>?_)
 ·repeat (first | refine nav ?_ | refine bo ?_)
  (refine wr fun K R hK hR=>?_;simp only [go_sem];(try go_ints);(repeat refine And.intro side ?_);(first|refine hK _ ?_|refine hR _ _ ?_);clear hK hR K R)
  repeat (first | refine nav ?_ | refine bo ?_)
  refine endQ_data (by simp only [go_sem]<;>exact rfl) (Le.of_eq ?_) rfl
  rw [decide_eq_false]
  rintro rfl
  simp at hb
 ·have hl : a.length = b.length:=by simp at hb;omega
  repeat (first | refine nav ?_ | refine bo ?_)
  (refine wr fun K R hK hR=>?_;simp only [go_sem];(try go_ints);(repeat refine And.intro side ?_);(first|refine hK _ ?_|refine hR _ _ ?_);clear hK hR K R)
  repeat (first | refine nav ?_ | refine bo ?_)
  refine W_for 11 26 [5] (fun m t o=>∃ k : Nat,[] = o ∧ t 5 = .i .i64 k ∧ m = a.length - k ∧ k ≤ a.length ∧ (a.drop k = b.drop k ↔ a = b)) a.length ⟨0,rfl,by simp only [go_sem]<;>rfl,by omega,Nat.zero_le _,Iff.rfl⟩ ?_
  rintro m t o ⟨k,rfl,h5,rfl,hk,hi⟩
  repeat (first | refine nav ?_ | refine bo ?_)
  (refine wr fun K R hK hR=>?_;simp only [go_sem,h5];(try go_ints);(try simp only [go_sem,h5]);(repeat refine And.intro side ?_);(first|refine hK _ ?_|refine hR _ _ ?_);clear hK hR K R)
  repeat (first | refine nav ?_ | refine bo ?_)
  refine W_cond (by simp only [go_sem]<;>exact rfl) (fun hb=>?_) (fun hb=>?_)
  ·simp at hb
   obtain ⟨x,hx⟩ : ∃ x,a[k]? = some x:=⟨_,List.getElem?_eq_getElem hb⟩
   obtain ⟨y,hy⟩ : ∃ y,b[k]? = some y:=⟨_,List.getElem?_eq_getElem (by omega)⟩
   rw [drop_cons hx,drop_cons hy,List.cons.injEq] at hi
   repeat (first | refine nav ?_ | refine bo ?_)
   (refine W_dreg (by decide +kernel) [] [0,1,2,3,4,5,6,7,8] [[],[],[1,0],[0,1,2],[],[],[5,4],[4,5,6],[6,5,4,7,2,1,0,3]] (by decide +kernel) rfl fun K R hK hR=>?_;simp only [List.filterMap_cons,List.filterMap_nil,List.getElem?_cons_zero,List.getElem?_cons_succ,List.cons_append,List.nil_append];simp only [go_sem,h5,ints_get hx,ints_get hy];(try go_ints);(try simp only [go_sem,h5,ints_get hx,ints_get hy]);(repeat refine And.intro side ?_);(first|refine hK _ ?_|refine hR _ _ ?_);clear hK hR K R)
   repeat (first | refine nav ?_ | refine bo ?_)
   refine W_cond (by simp only [go_sem]<;>exact rfl) (fun hd=>?_) (fun hd=>?_)
   ·repeat (first | refine nav ?_ | refine bo ?_)
    (refine wr fun K R hK hR=>?_;simp only [go_sem];(try go_ints);(repeat refine And.intro side ?_);(first|refine hK _ ?_|refine hR _ _ ?_);clear hK hR K R)
    repeat (first | refine nav ?_ | refine bo ?_)
    refine endQ_data (by simp only [go_sem]<;>exact rfl) (Le.of_eq ?_) rfl
    have hd : x ≠ y:=by simpa using hd
    rw [decide_eq_false]
    exact fun h=>hd (hi.2 h).1
   ·have hd : x = y:=by simpa using hd
    repeat (first | refine nav ?_ | refine bo ?_)
    (refine wr fun K R hK hR=>?_;simp only [go_sem,h5];(try go_ints);(try simp only [go_sem,h5]);(repeat refine And.intro side ?_);(first|refine hK _ ?_|refine hR _ _ ?_);clear hK hR K R)
    refine forQ_normal (a.length - (k + 1)) (by omega) ⟨k + 1,?_⟩
    ((try simp only [go_sem]);(repeat' refine And.intro ?_ ?_)<;>(try first | with_reducible rfl | omega | with_reducible assumption | (simp;done)))
    exact ⟨fun h=>hi.1 ⟨hd,h⟩,fun h=>(hi.2 h).2⟩
  ·simp at hb
   have : k = a.length:=by omega
   subst this
   rw [List.drop_length,List.drop_eq_nil_of_le (by omega)] at hi
   repeat (first | refine nav ?_ | refine bo ?_)
   (refine wr fun K R hK hR=>?_;simp only [go_sem];(try go_ints);(repeat refine And.intro side ?_);(first|refine hK _ ?_|refine hR _ _ ?_);clear hK hR K R)
   repeat (first | refine nav ?_ | refine bo ?_)
   refine endQ_data (by simp only [go_sem]<;>exact rfl) (Le.of_eq ?_) rfl
   rw [decide_eq_true (hi.1 rfl)]
def inT (n : Int) (t : List Int) : Bool:=!(t.any fun x=>decide (x < 0) || decide (x ≥ n))
theorem in_spec (n : Int) (t : List Int) (ht : t.length ≤ 1099511627776) : ACallsD Try.prog 33 [.i .i64 n,.sl 1 (ints t)] (.b (inT n t)):=by
 refine ACalls_of' (n:=25) (rs:=[.tmp 4]) (show Try.prog.funcs[33]? = some Try.f33 by kernel_rfl) rfl rfl rfl (by simp) (by decide +kernel) ?_
 repeat (first | refine nav ?_ | refine bo ?_)
 (refine wr fun K R hK hR=>?_;simp only [go_sem];(try go_ints);(repeat refine And.intro side ?_);(first|refine hK _ ?_|refine hR _ _ ?_);clear hK hR K R)
 repeat (first | refine nav ?_ | refine bo ?_)
 (refine wr fun K R hK hR=>?_;simp only [go_sem];(try go_ints);(repeat refine And.intro side ?_);(first|refine hK _ ?_|refine hR _ _ ?_);clear hK hR K R)
 repeat (first | refine nav ?_ | refine bo ?_)
 refine W_for 6 25 [5] (fun m t' o=>∃ k : Nat,[] = o ∧ t' 5 = .i .i64 k ∧ m = t.length - k ∧ k ≤ t.length ∧ inT n (t.drop k) = inT n t) t.length ⟨0,rfl,by simp only [go_sem]<;>rfl,by omega,Nat.zero_le _,rfl⟩ ?_
 rintro m t' o ⟨k,rfl,h5,rfl,hk,hi⟩
 repeat (first | refine nav ?_ | refine bo ?_)
 (refine wr fun K R hK hR=>?_;simp only [go_sem,h5];(try go_ints);(try simp only [go_sem,h5]);(repeat refine And.intro side ?_);(first|refine hK _ ?_|refine hR _ _ ?_);clear hK hR K R)
 repeat (first | refine nav ?_ | refine bo ?_)
 refine W_cond (by simp only [go_sem]<;>exact rfl) (fun hb=>?_) (fun hb=>?_)
 ·simp at hb
  obtain ⟨x,hx⟩ : ∃ x,t[k]? = some x:=⟨_,List.getElem?_eq_getElem hb⟩
  have hstep : inT n (x :: t.drop (k + 1)) = (!(decide (x < 0) || decide (x ≥ n)) && inT n (t.drop (k + 1))):=by simp [inT]
  rw [drop_cons hx,hstep] at hi
  have hlt : decide (k < t.length) = true:=by simpa using hb
  repeat (first | refine nav ?_ | refine bo ?_)
  (refine wr fun K R hK hR=>?_;simp only [go_sem,h5,ints_get hx,hlt,Bool.or_true];(try go_ints);(try simp only [go_sem,h5,ints_get hx,hlt,Bool.or_true]);(repeat refine And.intro side ?_);(first|refine hK _ ?_|refine hR _ _ ?_);clear hK hR K R)
  repeat (first | refine nav ?_ | refine bo ?_)
  refine W_cond (by simp only [go_sem]<;>exact rfl) (fun hd=>?_) (fun hd=>?_)
  ·rw [hd] at hi
   repeat (first | refine nav ?_ | refine bo ?_)
   (refine wr fun K R hK hR=>?_;simp only [go_sem];(try go_ints);(repeat refine And.intro side ?_);(first|refine hK _ ?_|refine hR _ _ ?_);clear hK hR K R)
   repeat (first | refine nav ?_ | refine bo ?_)
   refine endQ_data (by simp only [go_sem]<;>exact rfl) (Le.of_eq ?_) rfl
   rw [← hi];rfl
  ·rw [hd] at hi
   repeat (first | refine nav ?_ | refine bo ?_)
   (refine wr fun K R hK hR=>?_;simp only [go_sem,h5];(try go_ints);(try simp only [go_sem,h5]);(repeat refine And.intro side ?_);(first|refine hK _ ?_|refine hR _ _ ?_);clear hK hR K R)
   refine forQ_normal (t.length - (k + 1)) (by omega) ⟨k + 1,?_⟩
   ((try simp only [go_sem]);(repeat' refine And.intro ?_ ?_)<;>(try first | with_reducible rfl | omega | with_reducible assumption | (simp;done)))
   simpa using hi
 ·simp at hb
  have : k = t.length:=by omega
  subst this
  rw [List.drop_length] at hi
  repeat (first | refine nav ?_ | refine bo ?_)
  (refine wr fun K R hK hR=>?_;simp only [go_sem];(try go_ints);(repeat refine And.intro side ?_);(first|refine hK _ ?_|refine hR _ _ ?_);clear hK hR K R)
  repeat (first | refine nav ?_ | refine bo ?_)
  refine endQ_data (by simp only [go_sem]<;>exact rfl) (Le.of_eq ?_) rfl
  rw [← hi];rfl
def pow2 (n : Int) : Nat → Int → Int
 | 0,p=>p
 | k + 1,p=>if p ≤ 4096 then pow2 n k (p * n) else p
theorem pow2_big (n : Int) : ∀ (k : Nat) (p : Int),4096 < p → pow2 n k p = p
 | 0,_,_=>rfl
 | k + 1,p,h=>by rw [pow2,if_neg (by omega)]
theorem pow2_spec (n : Int) (hn : 1 ≤ n) : ∀ (k : Nat) (p : Int),1 ≤ p → p ≤ 4096 → decide (pow2 n k p > 4096) = !decide (powL n 4096 k p ≥ 0)
 | 0,p,h1,h2=>by
  rw [pow2,powL,decide_eq_false (by omega),decide_eq_true (by omega)];rfl
 | k + 1,p,h1,h2=>by
  rw [pow2,if_pos h2,powL]
  have hp : 1 ≤ p * n:=by
   have:=Int.mul_le_mul h1 hn (by omega) (by omega);simpa using this
  split
  ·rename_i h
   rw [pow2_big n k _ h,decide_eq_true h]
   rfl
  ·rename_i h
   exact pow2_spec n hn k _ hp (by omega)
theorem pow_spec (n k : Int) (hn : 1 ≤ n) (hn2 : n ≤ 64) (hk : 0 ≤ k) (hk2 : k ≤ 12) : ACallsD Try.prog 12 [.i .i64 n,.i .i64 k] (.i .i64 (pow2 n k.toNat 1)):=by
 obtain ⟨k,rfl⟩:=Int.eq_ofNat_of_zero_le hk
 rw [Int.toNat_natCast]
 refine ACalls_of' (n:=20) (rs:=[.tmp 4]) (show Try.prog.funcs[12]? = some Try.f12 by kernel_rfl) rfl rfl rfl (by simp) (by decide +kernel) ?_
 repeat (first | refine nav ?_ | refine bo ?_)
 (refine wr fun K R hK hR=>?_;simp only [go_sem];(try go_ints);(repeat refine And.intro side ?_);(first|refine hK _ ?_|refine hR _ _ ?_);clear hK hR K R)
 repeat (first | refine nav ?_ | refine bo ?_)
 (refine wr fun K R hK hR=>?_;simp only [go_sem];(try go_ints);(repeat refine And.intro side ?_);(first|refine hK _ ?_|refine hR _ _ ?_);clear hK hR K R)
 repeat (first | refine nav ?_ | refine bo ?_)
 (refine wr fun K R hK hR=>?_;simp only [go_sem];(try go_ints);(repeat refine And.intro side ?_);(first|refine hK _ ?_|refine hR _ _ ?_);clear hK hR K R)
 repeat (first | refine nav ?_ | refine bo ?_)
 refine W_for 7 19 [5,6] (fun m t o=>∃ (i : Nat) (p : Int),[] = o ∧ t 6 = .i .i64 i ∧ t 5 = .i .i64 p ∧ m = k - i ∧ i ≤ k ∧ 1 ≤ p ∧ p ≤ 262144 ∧ pow2 n (k - i) p = pow2 n k 1) k ⟨0,1,rfl,by simp only [go_sem]<;>rfl,by simp only [go_sem]<;>rfl,by omega,Nat.zero_le _,by omega,by omega,by simp⟩ ?_
 rintro m t o ⟨i,p,rfl,h6,h5,rfl,hik,hp1,hp2,hi⟩
 repeat (first | refine nav ?_ | refine bo ?_)
 (refine wr fun K R hK hR=>?_;simp only [go_sem,h6,h5];(try go_ints);(try simp only [go_sem,h6,h5]);(repeat refine And.intro side ?_);(first|refine hK _ ?_|refine hR _ _ ?_);clear hK hR K R)
 repeat (first | refine nav ?_ | refine bo ?_)
 refine W_cond (by simp only [go_sem]<;>exact rfl) (fun hb=>?_) (fun hb=>?_)
 ·simp only [Bool.or_eq_true,Bool.and_eq_true,Bool.not_eq_true',Bool.not_eq_false',Bool.and_eq_false_iff,Bool.or_eq_false_iff,decide_eq_true_eq,decide_eq_false_iff_not,Bool.not_eq_eq_eq_not,Bool.not_true,Bool.not_false] at hb
  obtain ⟨hb1,hb2⟩:=hb
  have hpn : 1 ≤ p * n ∧ p * n ≤ 262144:=by
   constructor
   ·have:=Int.mul_le_mul hp1 hn (by omega) (by omega);simpa using this
   ·have:=Int.mul_le_mul hb2 hn2 (by omega) (by omega);simpa using this
  rw [show k - i = (k - (i + 1)) + 1 by omega,pow2,if_pos hb2] at hi
  repeat (first | refine nav ?_ | refine bo ?_)
  (refine wr fun K R hK hR=>?_;simp only [go_sem,h5];(try go_ints);(try simp only [go_sem,h5]);(repeat refine And.intro side ?_);(first|refine hK _ ?_|refine hR _ _ ?_);clear hK hR K R)
  repeat (first | refine nav ?_ | refine bo ?_)
  (refine wr fun K R hK hR=>?_;simp only [go_sem,h6];(try go_ints);(try simp only [go_sem,h6]);(repeat refine And.intro side ?_);(first|refine hK _ ?_|refine hR _ _ ?_);clear hK hR K R)
  refine forQ_normal (k - (i + 1)) (by omega) ⟨i + 1,p * n,?_⟩
  ((try simp only [go_sem]);(repeat' refine And.intro ?_ ?_)<;>(try first | with_reducible rfl | omega | with_reducible assumption | (simp;done)))
 ·simp only [Bool.or_eq_true,Bool.and_eq_true,Bool.not_eq_true',Bool.not_eq_false',Bool.and_eq_false_iff,Bool.or_eq_false_iff,decide_eq_true_eq,decide_eq_false_iff_not,Bool.not_eq_eq_eq_not,Bool.not_true,Bool.not_false] at hb
  have hres : p = pow2 n k 1:=by
   rw [← hi]
   rcases hb with h | h
   ·rw [show k - i = 0 by omega];rfl
   ·rw [pow2_big n _ _ (by omega)]
  repeat (first | refine nav ?_ | refine bo ?_)
  (refine wr fun K R hK hR=>?_;simp only [go_sem,h5];(try go_ints);(try simp only [go_sem,h5]);(repeat refine And.intro side ?_);(first|refine hK _ ?_|refine hR _ _ ?_);clear hK hR K R)
  repeat (first | refine nav ?_ | refine bo ?_)
  refine endQ_data (by simp only [go_sem]<;>exact rfl) (Le.of_eq ?_) rfl
  rw [hres]
theorem rrel_spec (n : Int) (hn : 1 ≤ n) (hn2 : n ≤ 64) (r : RelD) (hr : r.Ok) : ACallsD Try.prog 23 [.i .i64 n,.agg [.s r.name,.i .i64 r.arity,.sl 1 (tups r.tuples)]] (.b (relOk n r)):=by
 refine ACalls_of' (n:=72) (rs:=[.tmp 4]) (show Try.prog.funcs[23]? = some Try.f23 by kernel_rfl) rfl rfl rfl (by simp) (by decide +kernel) ?_
 repeat (first | refine nav ?_ | refine bo ?_)
 (refine wr fun K R hK hR=>?_;simp only [go_sem];(try go_ints);(repeat refine And.intro side ?_);(first|refine hK _ ?_|refine hR _ _ ?_);clear hK hR K R)
 repeat (first | refine nav ?_ | refine bo ?_)
 (refine wr fun K R hK hR=>?_;simp only [go_sem];(try go_ints);(repeat refine And.intro side ?_);(first|refine hK _ ?_|refine hR _ _ ?_);clear hK hR K R)
 refine RL_callF (rname_spec r.name (by have:=hr.name;omega)) rfl rfl rfl (by first | (simp only [go_sem]<;>first | exact LeA.refl _ | exact Le.refl _) | exact LeA.refl _) rfl rfl ?_
 (refine rr fun K R hK hR=>?_;simp only [go_sem];(try go_ints);(repeat refine And.intro side ?_);(first|refine hK _ ?_|refine hR _ _ ?_);clear hK hR K R)
 refine RL_callDg rfl (by simp only [go_sem]<;>exact rfl) (fun e=>pow_spec n r.arity hn hn2 (by have:=e;simp at this;omega) (by have:=e;simp at this;omega)) rfl rfl rfl (fun e=>by (try simp only [go_sem] at e);simp only [go_sem,e]<;>(try simp only [go_sem])<;>first | exact LeA.refl _ | exact Le.refl _) rfl rfl ?_
 (refine rr fun K R hK hR=>?_;simp only [go_sem];(try go_ints);(repeat refine And.intro side ?_);(first|refine hK _ ?_|refine hR _ _ ?_);clear hK hR K R)
 repeat (first | refine nav ?_ | refine bo ?_)
 have hc1 : decide (r.arity < 0) = !decide (0 ≤ r.arity):=by
  by_cases h : r.arity < 0
  ·simp [h]
  ·simp [h];omega
 have hc2 : decide (r.arity > 12) = !decide (r.arity ≤ 12):=by
  by_cases h : r.arity > 12
  ·simp [h]
  ·simp [h];omega
 have hcm : decide (pow2 n r.arity.toNat 1 > 4096) = !decide (powL n 4096 r.arity.toNat 1 ≥ 0):=pow2_spec n hn _ 1 (by omega) (by omega)
 refine W_cond (by simp only [go_sem,hcm,hc1,hc2]<;>exact rfl) (fun hc=>?_) (fun hc=>?_)
 ·have hno : relOk n r = false:=by
   rw [relOk]
   revert hc
   cases nameF r.name<;>cases decide (0 ≤ r.arity)<;>cases decide (r.arity ≤ 12)<;>cases decide (powL n 4096 r.arity.toNat 1 ≥ 0)<;>simp
  repeat (first | refine nav ?_ | refine bo ?_)
  (refine wr fun K R hK hR=>?_;simp only [go_sem];(try go_ints);(repeat refine And.intro side ?_);(first|refine hK _ ?_|refine hR _ _ ?_);clear hK hR K R)
  repeat (first | refine nav ?_ | refine bo ?_)
  refine endQ_data (by simp only [go_sem]<;>exact rfl) (Le.of_eq ?_) rfl
  rw [hno]
 ·have hyes : relOk n r = tuplesF n r.arity r.tuples:=by
   rw [relOk]
   revert hc
   cases nameF r.name<;>cases decide (0 ≤ r.arity)<;>cases decide (r.arity ≤ 12)<;>cases decide (powL n 4096 r.arity.toNat 1 ≥ 0)<;>simp
  have hlen:=hr.len
  repeat (first | refine nav ?_ | refine bo ?_)
  (refine wr fun K R hK hR=>?_;simp only [go_sem];(try go_ints);(repeat refine And.intro side ?_);(first|refine hK _ ?_|refine hR _ _ ?_);clear hK hR K R)
  repeat (first | refine nav ?_ | refine bo ?_)
  refine W_for 27 72 [5] (fun m t o=>∃ k : Nat,[Ob.cells 3 [[.s r.name,.i .i64 r.arity,.sl 1 (tups r.tuples)]]] = o ∧ t 5 = .i .i64 k ∧ m = r.tuples.length - k ∧ k ≤ r.tuples.length ∧ ∀ i < k,tupOk n r.arity r.tuples i = true) r.tuples.length ⟨0,rfl,by simp only [go_sem]<;>rfl,by omega,Nat.zero_le _,by simp⟩ ?_
  rintro m t o ⟨k,rfl,h5,rfl,hk,hi⟩
  repeat (first | refine nav ?_ | refine bo ?_)
  (refine wr fun K R hK hR=>?_;simp only [go_sem,h5];(try go_ints);(try simp only [go_sem,h5]);(repeat refine And.intro side ?_);(first|refine hK _ ?_|refine hR _ _ ?_);clear hK hR K R)
  repeat (first | refine nav ?_ | refine bo ?_)
  refine W_cond (by simp only [go_sem]<;>exact rfl) (fun hb=>?_) (fun hb=>?_)
  ·simp at hb
   obtain ⟨x,hx⟩ : ∃ x,r.tuples[k]? = some x:=⟨_,List.getElem?_eq_getElem hb⟩
   have hxl:=hr.tup x (List.mem_of_getElem? hx)
   have e1 : ((k : Int) - 1).toNat = k - 1:=by omega
   obtain ⟨y,hy⟩ : ∃ y,r.tuples[k - 1]? = some y:=⟨_,List.getElem?_eq_getElem (by omega)⟩
   have hyl:=hr.tup y (List.mem_of_getElem? hy)
   have hya : 0 < k → (y.length : Int) = r.arity:=by
    intro h0
    have:=hi (k - 1) (by omega)
    simp only [tupOk,List.getD_eq_getElem?_getD,hy,Option.getD_some,Bool.and_eq_true,beq_iff_eq] at this
    exact this.1.1
   have hspec : tupOk n r.arity r.tuples k = (((x.length : Int) == r.arity) && inT n x && (decide (k = 0) || decide (cmpL y x < 0))):=by
    simp only [tupOk,List.getD_eq_getElem?_getD,hx,hy,Option.getD_some,inT]
   have hk0 : decide ((k : Int) > 0) = !decide (k = 0):=by
    by_cases h : k = 0
    ·simp [h]
    ·simp [h];omega
   repeat (first | refine nav ?_ | refine bo ?_)
   (refine W_dreg (by decide +kernel) [] [0,1,2,3,4,5,6,7,8,9,10,11,12,13,14,15,16,17,18,19,20,21,22,23,24,25,26,27,28,29,30,31,32,33,34,35,36,37] [[],[0],[],[2,0,1],[1,0,2,3],[3,2,0,1,4],[],[6],[6,7,4,1,0,2,3,5],[5,3,2,0,1,4,7,6,8],[8,6,7,4,1,0,2,3,5,9],[8,6,7,4,1,0,2,3,5,9],[9,5,3,2,0,1,4,7,6,8,11],[8,6,7,4,1,0,2,3,5,9],[13,11,8,6,7,4,1,0,2,3,5,9,12],[12,9,5,3,2,0,1,4,7,6,8,11,13,14],[14,13,11,12,15,9,5,3,2,0,1,4,7,6,8,10],[10,8,6,7,4,1,0,2,3,5,9,15,12,11,13,14,16],[16,14,13,11,12,15,10,17,8,6,7,4,1,0,2,3,5,9],[9,5,3,2,0,1,4,7,6,8,17,10,15,12,11,13,14,16,18],[18,16,14,13,11,12,15,10,17,8,6,7,4,1,0,2,3,5,9,19],[19,9,5,3,2,0,1,4,7,6,8,17,10,15,12,11,13,14,16,18,20],[20,18,16,14,13,11,12,15,10,17,8,6,7,4,1,0,2,3,5,9,19,21],[21,19,9,5,3,2,0,1,4,7,6,8,17,10,15,12,11,13,14,16,18,20,22],[22,20,18,16,14,13,11,12,15,10,17,8,6,7,4,1,0,2,3,5,9,19,21,23],[21,19,9,5,3,2,0,1,4,7,6,8,17,10,15,12,11,13,14,16,18,20,22],[22,20,18,16,14,13,11,12,15,10,17,8,6,7,4,1,0,2,3,5,9,19,21,25],[25,26,23,21,19,9,5,3,2,0,1,4,7,6,8,17,10,15,12,11,13,14,16,18,20,22,24],[24,22,20,18,16,14,13,11,12,15,10,17,8,6,7,4,1,0,2,3,5,9,19,21,23,26,25,27],[21,19,9,5,3,2,0,1,4,7,6,8,17,10,15,12,11,13,14,16,18,20,22],[22,20,18,16,14,13,11,12,15,10,17,8,6,7,4,1,0,2,3,5,9,19,21,29],[21,19,9,5,3,2,0,1,4,7,6,8,17,10,15,12,11,13,14,16,18,20,22],[31,29,21,19,9,5,3,2,0,1,4,7,6,8,17,10,15,12,11,13,14,16,18,20,22,30],[30,22,20,18,16,14,13,11,12,15,10,17,8,6,7,4,1,0,2,3,5,9,19,21,29,31,32],[32,31,29,30,33,27,25,26,23,21,19,9,5,3,2,0,1,4,7,6,8,17,10,15,12,11,13,14,16,18,20,22,24,28],[28,24,22,20,18,16,14,13,11,12,15,10,17,8,6,7,4,1,0,2,3,5,9,19,21,23,26,25,27,33,30,29,31,32,34],[34,32,31,29,30,33,27,25,26,23,24,28,35,21,19,9,5,3,2,0,1,4,7,6,8,17,10,15,12,11,13,14,16,18,20,22],[22,20,21,35,28,24,23,26,25,27,33,30,29,31,32,34,36,18,16,14,13,11,12,15,10,17,8,6,7,4,1,0,2,3,5,9,19]] (by decide +kernel) rfl fun K R hK hR=>?_;simp only [List.filterMap_cons,List.filterMap_nil,List.getElem?_cons_zero,List.getElem?_cons_succ,List.cons_append,List.nil_append];simp only [go_sem,h5,tups_get hx];(try go_ints);(try simp only [go_sem,h5,tups_get hx]);(repeat refine And.intro side ?_);(first|refine hK _ ?_|refine hR _ _ ?_);clear hK hR K R)
   refine D_callDg rfl (by simp only [go_sem]<;>exact rfl) (fun e=>in_spec n x hxl) rfl rfl rfl (fun e=>by (try simp only [go_sem] at e);simp only [go_sem,e]<;>(try simp only [go_sem])<;>first | exact LeA.refl _ | exact Le.refl _) rfl rfl rfl rfl ?_
   (refine D_reg fun K R hK hR=>?_;simp only [go_sem,h5,e1,tups_get hx,tups_get hy];(try go_ints);(try simp only [go_sem,h5,e1,tups_get hx,tups_get hy]);(repeat refine And.intro side ?_);(first|refine hK _ ?_|refine hR _ _ ?_);clear hK hR K R)
   refine D_callDg rfl (by simp only [go_sem]<;>exact rfl) (fun e=>less_spec y x hyl (by have:=e;simp [bne] at this;have:=hya (by omega);omega)) rfl rfl rfl (fun e=>by (try simp only [go_sem] at e);simp only [go_sem,e]<;>(try simp only [go_sem])<;>first | exact LeA.refl _ | exact Le.refl _) rfl rfl rfl rfl ?_
   (refine D_reg fun K R hK hR=>?_;simp only [go_sem];(try go_ints);(repeat refine And.intro side ?_);(first|refine hK _ ?_|refine hR _ _ ?_);clear hK hR K R)
   repeat (first | refine nav ?_ | refine bo ?_)
   refine W_cond (by simp only [go_sem]<;>exact rfl) (fun hc=>?_) (fun hc=>?_)
   ·have hno : tupOk n r.arity r.tuples k = false:=by
     rw [hspec]
     rw [hk0] at hc
     simp only [Bool.or_eq_true,Bool.and_eq_true,Bool.not_eq_true',Bool.not_eq_false',Bool.and_eq_false_iff,Bool.or_eq_false_iff,decide_eq_true_eq,decide_eq_false_iff_not,Bool.not_eq_eq_eq_not,Bool.not_true,Bool.not_false,bne_iff_ne,ne_eq] at hc
     rcases hc with (hc | hc) | ⟨hc1,hc2⟩
     ·simp [hc]
     ·simp [hc]
     ·by_cases hxa : (x.length : Int) = r.arity
      ·have hk1 : 0 < k:=by first | omega | (simp at hc1;omega)
       rw [lessL_cmp y x (by have:=hya hk1;omega)] at hc2
       rw [hc2,decide_eq_false (show ¬ k = 0 by omega)]
       simp
      ·simp [hxa]
    repeat (first | refine nav ?_ | refine bo ?_)
    (refine wr fun K R hK hR=>?_;simp only [go_sem];(try go_ints);(repeat refine And.intro side ?_);(first|refine hK _ ?_|refine hR _ _ ?_);clear hK hR K R)
    repeat (first | refine nav ?_ | refine bo ?_)
    refine endQ_data (by simp only [go_sem]<;>exact rfl) (Le.of_eq ?_) rfl
    rw [hyes,AV.b.injEq,eq_comm,tuplesF,List.all_eq_false]
    exact ⟨k,by simpa using hb,by simp [hno]⟩
   ·have hyes' : tupOk n r.arity r.tuples k = true:=by
     rw [hspec]
     rw [hk0] at hc
     simp only [Bool.or_eq_true,Bool.and_eq_true,Bool.not_eq_true',Bool.not_eq_false',Bool.and_eq_false_iff,Bool.or_eq_false_iff,decide_eq_true_eq,decide_eq_false_iff_not,Bool.not_eq_eq_eq_not,Bool.not_true,Bool.not_false,bne_eq_false_iff_eq] at hc
     obtain ⟨⟨hc1,hc2⟩,hc3⟩:=hc
     rw [hc2,Bool.and_true]
     by_cases hk1 : k = 0
     ·simp [hc1,hk1]
     ·rw [← lessL_cmp y x (by have:=hya (by omega);omega)]
      rcases hc3 with h | h
      ·simp [hk1] at h
      ·simp [hc1,h]
    repeat (first | refine nav ?_ | refine bo ?_)
    (refine wr fun K R hK hR=>?_;simp only [go_sem,h5];(try go_ints);(try simp only [go_sem,h5]);(repeat refine And.intro side ?_);(first|refine hK _ ?_|refine hR _ _ ?_);clear hK hR K R)
    refine forQ_normal (r.tuples.length - (k + 1)) (by omega) ⟨k + 1,?_⟩
    ((try simp only [go_sem]);(repeat' refine And.intro ?_ ?_)<;>(try first | with_reducible rfl | omega | with_reducible assumption | (simp;done)))
    intro i hik
    rcases Nat.lt_succ_iff_lt_or_eq.1 hik with h | rfl
    ·exact hi i h
    ·exact hyes'
  ·simp at hb
   have : k = r.tuples.length:=by omega
   subst this
   repeat (first | refine nav ?_ | refine bo ?_)
   (refine wr fun K R hK hR=>?_;simp only [go_sem];(try go_ints);(repeat refine And.intro side ?_);(first|refine hK _ ?_|refine hR _ _ ?_);clear hK hR K R)
   repeat (first | refine nav ?_ | refine bo ?_)
   refine endQ_data (by simp only [go_sem]<;>exact rfl) (Le.of_eq ?_) rfl
   rw [hyes,AV.b.injEq,eq_comm,tuplesF,List.all_eq_true]
   exact fun i hi'=>hi i (by simpa using hi')
def rfindF (s : StrD) (name : ByteArray) : Int:=idxI (fun q : RelD=>q.name.toList == name.toList) s.rels 0
theorem rfind_spec (s : StrD) (hs : s.Ok) (name : ByteArray) : ACallsD Try.prog 42 [.agg [.i .i64 s.size,.sl 3 (rels s.rels)],.s name] (.i .i64 (rfindF s name)):=by
 have hlen:=hs.len
 refine ACalls_of' (n:=22) (rs:=[.tmp 4]) (show Try.prog.funcs[42]? = some Try.f42 by kernel_rfl) rfl rfl rfl (by simp) (by decide +kernel) ?_
 repeat (first | refine nav ?_ | refine bo ?_)
 (refine wr fun K R hK hR=>?_;simp only [go_sem];(try go_ints);(repeat refine And.intro side ?_);(first|refine hK _ ?_|refine hR _ _ ?_);clear hK hR K R)
 repeat (first | refine nav ?_ | refine bo ?_)
 (refine wr fun K R hK hR=>?_;simp only [go_sem];(try go_ints);(repeat refine And.intro side ?_);(first|refine hK _ ?_|refine hR _ _ ?_);clear hK hR K R)
 repeat (first | refine nav ?_ | refine bo ?_)
 refine W_for 6 22 [5] (fun m t o=>∃ k : Nat,[Ob.cells 2 [[.i .i64 s.size,.sl 3 (rels s.rels)]]] = o ∧ t 5 = .i .i64 k ∧ m = s.rels.length - k ∧ k ≤ s.rels.length ∧ idxI (fun q : RelD=>q.name.toList == name.toList) (s.rels.drop k) k = rfindF s name) s.rels.length ⟨0,rfl,by simp only [go_sem]<;>rfl,by omega,Nat.zero_le _,rfl⟩ ?_
 rintro m t o ⟨k,rfl,h5,rfl,hk,hi⟩
 repeat (first | refine nav ?_ | refine bo ?_)
 (refine wr fun K R hK hR=>?_;simp only [go_sem,h5];(try go_ints);(try simp only [go_sem,h5]);(repeat refine And.intro side ?_);(first|refine hK _ ?_|refine hR _ _ ?_);clear hK hR K R)
 repeat (first | refine nav ?_ | refine bo ?_)
 refine W_cond (by simp only [go_sem]<;>exact rfl) (fun hb=>?_) (fun hb=>?_)
 ·simp at hb
  obtain ⟨r,hr⟩ : ∃ r,s.rels[k]? = some r:=⟨_,List.getElem?_eq_getElem hb⟩
  rw [drop_cons hr,idxI] at hi
  repeat (first | refine nav ?_ | refine bo ?_)
  (refine wr fun K R hK hR=>?_;simp only [go_sem,h5,rels_get hr];(try go_ints);(try simp only [go_sem,h5,rels_get hr]);(repeat refine And.intro side ?_);(first|refine hK _ ?_|refine hR _ _ ?_);clear hK hR K R)
  repeat (first | refine nav ?_ | refine bo ?_)
  refine W_cond (by simp only [go_sem]<;>exact rfl) (fun hd=>?_) (fun hd=>?_)
  ·rw [if_pos hd] at hi
   repeat (first | refine nav ?_ | refine bo ?_)
   (refine wr fun K R hK hR=>?_;simp only [go_sem,h5];(try go_ints);(try simp only [go_sem,h5]);(repeat refine And.intro side ?_);(first|refine hK _ ?_|refine hR _ _ ?_);clear hK hR K R)
   repeat (first | refine nav ?_ | refine bo ?_)
   refine endQ_data (by simp only [go_sem]<;>exact rfl) (Le.of_eq ?_) rfl
   rw [hi]
  ·rw [if_neg (by simp [hd])] at hi
   repeat (first | refine nav ?_ | refine bo ?_)
   (refine wr fun K R hK hR=>?_;simp only [go_sem,h5];(try go_ints);(try simp only [go_sem,h5]);(repeat refine And.intro side ?_);(first|refine hK _ ?_|refine hR _ _ ?_);clear hK hR K R)
   refine forQ_normal (s.rels.length - (k + 1)) (by omega) ⟨k + 1,?_⟩
   ((try simp only [go_sem]);(repeat' refine And.intro ?_ ?_)<;>(try first | with_reducible rfl | omega | with_reducible assumption | (simp;done)))
   rw [Int.natCast_add,Int.natCast_one];exact hi
 ·simp at hb
  have : k = s.rels.length:=by omega
  subst this
  rw [List.drop_length,idxI] at hi
  repeat (first | refine nav ?_ | refine bo ?_)
  (refine wr fun K R hK hR=>?_;simp only [go_sem];(try go_ints);(repeat refine And.intro side ?_);(first|refine hK _ ?_|refine hR _ _ ?_);clear hK hR K R)
  repeat (first | refine nav ?_ | refine bo ?_)
  refine endQ_data (by simp only [go_sem]<;>exact rfl) (Le.of_eq ?_) rfl
  rw [← hi]
end Go.AW
namespace Go.AW
open Go Go.Proofs TyTry Go.IntWalk
set_option linter.unusedSimpArgs false
set_option linter.unusedVariables false
set_option maxRecDepth 10000
set_option maxHeartbeats 1000000
theorem drop_kids {l : List PlanD} {k : Nat} {q : PlanD} (h : l[k]? = some q) : l.drop k = q :: l.drop (k + 1):=drop_cons h
mutual
/-- The number of a plan's nodes. -/
def cntF : PlanD → Nat
 | .mk _ _ _ _ _ _ ks=>1 + cntL ks
def cntL : List PlanD → Nat
 | []=>0
 | p :: r=>cntF p + cntL r
end
mutual
/-- A plan's depth. -/
def deepF : PlanD → Nat
 | .mk _ _ _ _ _ _ ks=>deepL ks + 1
def deepL : List PlanD → Nat
 | []=>0
 | p :: r=>max (deepF p) (deepL r)
end
mutual
/-- A plan's weight,as the law counts it. -/
def weighF : PlanD → Nat → Nat → Nat
 | .mk _ _ _ _ nm cs ks,n,most=>weighL ks (n + 1 + cs.length + nm.size / 100) most
def weighL : List PlanD → Nat → Nat → Nat
 | [],n,_=>n
 | p :: r,n,most=>if n ≤ most then weighL r (weighF p n most) most else n
end
theorem cntF_eq (p : PlanD) : cntF p = 1 + cntL p.kids:=by cases p;rfl
theorem deepF_eq (p : PlanD) : deepF p = deepL p.kids + 1:=by cases p;rfl
theorem cntF_pos (p : PlanD) : 1 ≤ cntF p:=by rw [cntF_eq];omega
theorem kids_cnt : ∀ l : List PlanD,l.length ≤ cntL l
 | []=>Nat.le_refl _
 | p :: r=>by
  have:=kids_cnt r
  have:=cntF_pos p
  simp only [cntL,List.length_cons];omega
theorem cnt_mem : ∀ {l : List PlanD} {p : PlanD},p ∈ l → cntF p ≤ cntL l
 | q :: r,p,h=>by
  simp only [cntL]
  rcases List.mem_cons.1 h with rfl | h
  ·omega
  ·have:=cnt_mem h;omega
theorem deepL_le : ∀ (l : List PlanD),(∀ p ∈ l,deepF p ≤ cntF p) → deepL l ≤ cntL l
 | [],_=>Nat.le_refl _
 | p :: r,h=>by
  simp only [deepL,cntL]
  have h1:=h p (by simp)
  have h2:=deepL_le r fun q hq=>h q (by simp [hq])
  omega
theorem deepF_le : ∀ (p : PlanD),deepF p ≤ cntF p :=
 PlanD.ind fun p ih=>by
  rw [deepF_eq,cntF_eq]
  have:=deepL_le p.kids ih
  omega
theorem weighF_eq (p : PlanD) (n most : Nat) : weighF p n most = weighL p.kids (n + 1 + p.cols.length + p.name.size / 100) most:=by cases p;rfl
theorem weighL_ge : ∀ (l : List PlanD),(∀ p ∈ l,∀ n most,n ≤ weighF p n most) → ∀ n most,n ≤ weighL l n most
 | [],_,_,_=>Nat.le_refl _
 | p :: r,h,n,most=>by
  simp only [weighL]
  split
  ·exact Nat.le_trans (h p (by simp) n most) (weighL_ge r (fun q hq=>h q (by simp [hq])) _ _)
  ·exact Nat.le_refl _
theorem weighF_ge : ∀ (p : PlanD) (n most : Nat),n ≤ weighF p n most :=
 PlanD.ind fun p ih n most=>by
  rw [weighF_eq]
  exact Nat.le_trans (by omega) (weighL_ge p.kids ih _ _)
theorem weighL_cnt : ∀ (l : List PlanD),(∀ p ∈ l,∀ n most,weighF p n most ≤ most → n + cntF p ≤ weighF p n most) → ∀ n most,weighL l n most ≤ most → n + cntL l ≤ weighL l n most
 | [],_,n,most,_=>by simp [weighL,cntL]
 | p :: r,h,n,most,hw=>by
  simp only [weighL] at hw ⊢
  split at hw
  ·rename_i hn
   rw [if_pos hn]
   have h1:=weighL_cnt r (fun q hq=>h q (by simp [hq])) _ _ hw
   have h2:=h p (by simp) n most (by have:=weighL_ge r (fun q _=>weighF_ge q) (weighF p n most) most;omega)
   simp only [cntL];omega
  ·omega
theorem weighF_cnt : ∀ (p : PlanD) (n most : Nat),weighF p n most ≤ most → n + cntF p ≤ weighF p n most :=
 PlanD.ind fun p ih n most hw=>by
  rw [weighF_eq] at hw ⊢
  have:=weighL_cnt p.kids ih _ _ hw
  rw [cntF_eq];omega
theorem weighF_le : ∀ (p : PlanD) (n most : Nat),p.Ok → n ≤ most → weighF p n most ≤ most + 2 ^ 52 :=
 PlanD.ind fun p ih n most hp hn=>by
  rw [weighF_eq]
  have h1:=hp.cols
  have h2:=hp.name
  have key : ∀ (l : List PlanD),(∀ q ∈ l,∀ n most,q.Ok → n ≤ most → weighF q n most ≤ most + 2 ^ 52) → (∀ q ∈ l,q.Ok) → ∀ m,m ≤ most + 2 ^ 52 → weighL l m most ≤ most + 2 ^ 52:=by
   intro l
   induction l with
   | nil=>intro _ _ m hm;exact hm
   | cons q r ihr =>
    intro h1 h2 m hm
    simp only [weighL]
    split
    ·rename_i hmm
     exact ihr (fun x hx=>h1 x (by simp [hx])) (fun x hx=>h2 x (by simp [hx])) _ (h1 q (by simp) m most (h2 q (by simp)) hmm)
    ·exact hm
  exact key p.kids ih hp.kid _ (by omega)
inductive PlanD.Sm : PlanD → Prop
 | mk (p : PlanD) : p.name.size ≤ 1073741824 → p.cols.length ≤ 1073741824 → p.kids.length ≤ 1073741824 → (∀ k ∈ p.kids,k.Sm) → p.Sm
theorem PlanD.Sm.name {p : PlanD} : p.Sm → p.name.size ≤ 1073741824 | .mk _ h _ _ _=>h
theorem PlanD.Sm.cols {p : PlanD} : p.Sm → p.cols.length ≤ 1073741824 | .mk _ _ h _ _=>h
theorem PlanD.Sm.len {p : PlanD} : p.Sm → p.kids.length ≤ 1073741824 | .mk _ _ _ h _=>h
theorem PlanD.Sm.kid {p : PlanD} : p.Sm → ∀ k ∈ p.kids,k.Sm | .mk _ _ _ _ h=>h
theorem weighL_sm {most : Nat} : ∀ (l : List PlanD) (n : Nat),weighL l n most ≤ most → ∀ q ∈ l,∃ m,weighF q m most ≤ most
 | [],_,_,q,hq=>by cases hq
 | p :: r,n,hw,q,hq=>by
  simp only [weighL] at hw
  split at hw
  ·have h1:=weighL_ge r (fun q _=>weighF_ge q) (weighF p n most) most
   rcases List.mem_cons.1 hq with rfl | hq
   ·exact ⟨n,by omega⟩
   ·exact weighL_sm r _ hw q hq
  ·omega
theorem sm_of_weigh {most : Nat} (hm : most ≤ 100000) : ∀ (p : PlanD) (n : Nat),weighF p n most ≤ most → p.Sm :=
 PlanD.ind fun p ih n hw=>by
  have hc:=weighF_cnt p n most hw
  rw [weighF_eq] at hw
  have h1:=weighL_ge p.kids (fun q _=>weighF_ge q) (n + 1 + p.cols.length + p.name.size / 100) most
  rw [cntF_eq] at hc
  have h2:=kids_cnt p.kids
  refine ⟨p,by omega,by omega,?_,fun q hq=>?_⟩
  ·have:=weighL_cnt p.kids (fun q _=>weighF_cnt q) _ _ hw
   omega
  ·obtain ⟨m,h⟩:=weighL_sm p.kids _ hw q hq
   exact ih q hq m h
theorem weigh_spec : ∀ (p : PlanD),p.Ok → ∀ (n most : Nat),n ≤ most → most ≤ 100000 → ACallsD Try.prog 22 [.agg p.cells,.i .i64 n,.i .i64 most] (.i .i64 (weighF p n most)) :=
 PlanD.ind fun p ih hp n most hn hm=>by
  have h1:=hp.cols
  have h2:=hp.name
  have h3:=hp.len
  have hwle:=weighF_le p n most hp hn
  have hmt : ∀ (a : Nat),a ≤ 1125899906842624 → Int.tdiv (a : Int) 100 = ((a / 100 : Nat) : Int):=fun a _=>by rw [Int.tdiv_eq_ediv_of_nonneg (by omega)];omega
  rw [PlanD.cells_eq]
  refine ACalls_of' (n:=40) (rs:=[.tmp 6]) (show Try.prog.funcs[22]? = some Try.f22 by kernel_rfl) rfl rfl rfl (by simp) (by decide +kernel) ?_
  repeat (first | refine nav ?_ | refine bo ?_)
  (refine wr fun K R hK hR=>?_;simp only [go_sem];(try go_ints);(repeat refine And.intro side ?_);(first|refine hK _ ?_|refine hR _ _ ?_);clear hK hR K R)
  repeat (first | refine nav ?_ | refine bo ?_)
  (refine wr fun K R hK hR=>?_;simp only [go_sem,hmt _ h2];(try go_ints);(try simp only [go_sem,hmt _ h2]);(repeat refine And.intro side ?_);(first|refine hK _ ?_|refine hR _ _ ?_);clear hK hR K R)
  repeat (first | refine nav ?_ | refine bo ?_)
  (refine wr fun K R hK hR=>?_;simp only [go_sem];(try go_ints);(repeat refine And.intro side ?_);(first|refine hK _ ?_|refine hR _ _ ?_);clear hK hR K R)
  repeat (first | refine nav ?_ | refine bo ?_)
  refine W_for 19 39 [1,7] (fun m t o=>∃ (k m' : Nat),[Ob.cells 7 [[AV.i .i64 p.kind,.i .i64 p.width,.i .i64 p.i,.i .i64 p.j,.s p.name,.sl 1 (ints p.cols),.sl 7 (plans p.kids)]]] = o ∧ t 7 = .i .i64 k ∧ t 1 = .i .i64 m' ∧ m = p.kids.length - k ∧ k ≤ p.kids.length ∧ m' ≤ most + 2 ^ 52 ∧ weighL (p.kids.drop k) m' most = weighF p n most) p.kids.length
   ⟨0,n + 1 + p.cols.length + p.name.size / 100,rfl,by simp only [go_sem]<;>rfl,by simp only [go_sem]<;>(congr 1<;>omega),by omega,by omega,by omega,by rw [weighF_eq];rfl⟩ ?_
  rintro m t o ⟨k,m',rfl,h7,h1',rfl,hk,hml,hi⟩
  repeat (first | refine nav ?_ | refine bo ?_)
  (refine wr fun K R hK hR=>?_;simp only [go_sem,h7,h1'];(try go_ints);(try simp only [go_sem,h7,h1']);(repeat refine And.intro side ?_);(first|refine hK _ ?_|refine hR _ _ ?_);clear hK hR K R)
  repeat (first | refine nav ?_ | refine bo ?_)
  refine W_cond (by simp only [go_sem]<;>exact rfl) (fun hb=>?_) (fun hb=>?_)
  ·simp only [Bool.and_eq_true,decide_eq_true_eq] at hb
   have hb1 : k < p.kids.length:=by omega
   have hb2 : m' ≤ most:=by omega
   obtain ⟨x,hx⟩ : ∃ x,p.kids[k]? = some x:=⟨_,List.getElem?_eq_getElem hb1⟩
   have hxm:=List.mem_of_getElem? hx
   rw [drop_kids hx,weighL,if_pos hb2] at hi
   have hxl:=weighF_le x m' most (hp.kid x hxm) hb2
   have hcx:=x.cells_eq
   repeat (first | refine nav ?_ | refine bo ?_)
   (refine wr fun K R hK hR=>?_;simp only [go_sem,h7,h1',plans_get hx];(try go_ints);(try simp only [go_sem,h7,h1',plans_get hx]);(repeat refine And.intro side ?_);(first|refine hK _ ?_|refine hR _ _ ?_);clear hK hR K R)
   have ihx:=ih x hxm (hp.kid x hxm) m' most hb2 hm
   rw [hcx] at ihx
   refine RL_callF (ihx) rfl rfl rfl (by first | (simp only [go_sem]<;>first | exact LeA.refl _ | exact Le.refl _) | exact LeA.refl _) rfl rfl ?_
   (refine rr fun K R hK hR=>?_;simp only [go_sem];(try go_ints);(repeat refine And.intro side ?_);(first|refine hK _ ?_|refine hR _ _ ?_);clear hK hR K R)
   repeat (first | refine nav ?_ | refine bo ?_)
   (refine wr fun K R hK hR=>?_;simp only [go_sem,h7];(try go_ints);(try simp only [go_sem,h7]);(repeat refine And.intro side ?_);(first|refine hK _ ?_|refine hR _ _ ?_);clear hK hR K R)
   refine forQ_normal (p.kids.length - (k + 1)) (by omega) ⟨k + 1,weighF x m' most,?_⟩
   ((try simp only [go_sem]);(repeat' refine And.intro ?_ ?_)<;>(try first | with_reducible rfl | omega | with_reducible assumption | (simp;done)))
  ·have hb' : ¬ (k < p.kids.length ∧ m' ≤ most):=by simpa using hb
   have hi' : m' = weighF p n most:=by
    rcases Nat.lt_or_ge k p.kids.length with hlt | hge
    ·obtain ⟨x,hx⟩ : ∃ x,p.kids[k]? = some x:=⟨_,List.getElem?_eq_getElem hlt⟩
     rw [drop_kids hx,weighL,if_neg (by omega)] at hi
     exact hi
    ·rw [List.drop_eq_nil_of_le hge,weighL] at hi;exact hi
   repeat (first | refine nav ?_ | refine bo ?_)
   (refine wr fun K R hK hR=>?_;simp only [go_sem,h1'];(try go_ints);(try simp only [go_sem,h1']);(repeat refine And.intro side ?_);(first|refine hK _ ?_|refine hR _ _ ?_);clear hK hR K R)
   repeat (first | refine nav ?_ | refine bo ?_)
   refine endQ_data (by simp only [go_sem]<;>exact rfl) (Le.of_eq ?_) rfl
   rw [hi']
theorem count_spec : ∀ (p : PlanD),p.Ok → cntF p ≤ 100000 → ACallsD Try.prog 19 [.agg p.cells] (.tup [.i .i64 (cntF p),.i .i64 (deepF p)]) :=
 PlanD.ind fun p ih hp hc=>by
  rw [PlanD.cells_eq]
  refine ACalls_of' (n:=34) (rs:=[.tmp 2,.tmp 3]) (show Try.prog.funcs[19]? = some Try.f19 by kernel_rfl) rfl rfl rfl (by simp) (by decide +kernel) ?_
  repeat (first | refine nav ?_ | refine bo ?_)
  (refine wr fun K R hK hR=>?_;simp only [go_sem];(try go_ints);(repeat refine And.intro side ?_);(first|refine hK _ ?_|refine hR _ _ ?_);clear hK hR K R)
  repeat (first | refine nav ?_ | refine bo ?_)
  (refine wr fun K R hK hR=>?_;simp only [go_sem];(try go_ints);(repeat refine And.intro side ?_);(first|refine hK _ ?_|refine hR _ _ ?_);clear hK hR K R)
  repeat (first | refine nav ?_ | refine bo ?_)
  (refine wr fun K R hK hR=>?_;simp only [go_sem];(try go_ints);(repeat refine And.intro side ?_);(first|refine hK _ ?_|refine hR _ _ ?_);clear hK hR K R)
  repeat (first | refine nav ?_ | refine bo ?_)
  have hdk:=deepF_le p
  refine W_for 9 31 [4,5,6,7,8] (fun m t o=>∃ (k n' d' : Nat),[Ob.cells 7 [[AV.i .i64 p.kind,.i .i64 p.width,.i .i64 p.i,.i .i64 p.j,.s p.name,.sl 1 (ints p.cols),.sl 7 (plans p.kids)]]] = o ∧ t 6 = .i .i64 k ∧ t 4 = .i .i64 n' ∧ t 5 = .i .i64 d' ∧ m = p.kids.length - k ∧ k ≤ p.kids.length ∧ n' + cntL (p.kids.drop k) = cntF p ∧ max d' (deepL (p.kids.drop k)) + 1 = deepF p) p.kids.length
   ⟨0,1,0,rfl,by simp only [go_sem]<;>rfl,by simp only [go_sem]<;>rfl,by simp only [go_sem]<;>rfl,by omega,by omega,by rw [cntF_eq,List.drop_zero],by rw [deepF_eq,List.drop_zero];omega⟩ ?_
  rintro m t o ⟨k,n',d',rfl,h6,h4,h5,rfl,hk,hi,hj⟩
  have h3:=hp.len
  repeat (first | refine nav ?_ | refine bo ?_)
  (refine wr fun K R hK hR=>?_;simp only [go_sem,h6];(try go_ints);(try simp only [go_sem,h6]);(repeat refine And.intro side ?_);(first|refine hK _ ?_|refine hR _ _ ?_);clear hK hR K R)
  repeat (first | refine nav ?_ | refine bo ?_)
  refine W_cond (by simp only [go_sem]<;>exact rfl) (fun hb=>?_) (fun hb=>?_)
  ·have hb1 : k < p.kids.length:=by simpa using hb
   obtain ⟨x,hx⟩ : ∃ x,p.kids[k]? = some x:=⟨_,List.getElem?_eq_getElem hb1⟩
   have hxm:=List.mem_of_getElem? hx
   rw [drop_kids hx,cntL] at hi
   rw [drop_kids hx,deepL] at hj
   have hcx:=x.cells_eq
   have hdx:=deepF_le x
   repeat (first | refine nav ?_ | refine bo ?_)
   (refine wr fun K R hK hR=>?_;simp only [go_sem,h6,plans_get hx];(try go_ints);(try simp only [go_sem,h6,plans_get hx]);(repeat refine And.intro side ?_);(first|refine hK _ ?_|refine hR _ _ ?_);clear hK hR K R)
   have ihx:=ih x hxm (hp.kid x hxm) (by omega)
   rw [hcx] at ihx
   refine RL_callF (ihx) rfl rfl rfl (by first | (simp only [go_sem]<;>first | exact LeA.refl _ | exact Le.refl _) | exact LeA.refl _) rfl rfl ?_
   (refine rr fun K R hK hR=>?_;simp only [go_sem];(try go_ints);(repeat refine And.intro side ?_);(first|refine hK _ ?_|refine hR _ _ ?_);clear hK hR K R)
   repeat (first | refine nav ?_ | refine bo ?_)
   (refine wr fun K R hK hR=>?_;simp only [go_sem,h4,h5];(try go_ints);(try simp only [go_sem,h4,h5]);(repeat refine And.intro side ?_);(first|refine hK _ ?_|refine hR _ _ ?_);clear hK hR K R)
   repeat (first | refine nav ?_ | refine bo ?_)
   (refine wr fun K R hK hR=>?_;simp only [go_sem,h6];(try go_ints);(try simp only [go_sem,h6]);(repeat refine And.intro side ?_);(first|refine hK _ ?_|refine hR _ _ ?_);clear hK hR K R)
   refine forQ_normal (p.kids.length - (k + 1)) (by omega) ⟨k + 1,n' + cntF x,max d' (deepF x),rfl,by simp only [go_sem]<;>simp,by simp only [go_sem]<;>simp,by simp only [go_sem]<;>(congr 1;split<;>omega),rfl,by omega,by omega,by omega⟩
  ·have hb' : k = p.kids.length:=by have : ¬ k < p.kids.length:=(by simpa using hb);omega
   subst hb'
   rw [List.drop_length,cntL] at hi
   rw [List.drop_length,deepL] at hj
   repeat (first | refine nav ?_ | refine bo ?_)
   (refine wr fun K R hK hR=>?_;simp only [go_sem,h4,h5];(try go_ints);(try simp only [go_sem,h4,h5]);(repeat refine And.intro side ?_);(first|refine hK _ ?_|refine hR _ _ ?_);clear hK hR K R)
   repeat (first | refine nav ?_ | refine bo ?_)
   refine endQ_data (by simp only [go_sem]<;>exact rfl) (Le.of_eq ?_) rfl
   have e1 : n' = cntF p:=by omega
   have e2 : (d' : Int) + 1 = deepF p:=by omega
   rw [e1,e2]
end Go.AW
namespace Go.AW
open Go Go.Proofs TyTry Go.IntWalk
set_option linter.unusedSimpArgs false
set_option linter.unusedVariables false
set_option maxRecDepth 10000
set_option maxHeartbeats 1000000
abbrev Names:=List (ByteArray × Int)
def nsyms (l : Names) : List (List AV):=l.map fun x=>[.s x.1,.i .i64 x.2]
theorem nsyms_len (l : Names) : (nsyms l).length = l.length:=by simp [nsyms]
theorem nsyms_get {l : Names} {k : Nat} {x : ByteArray × Int} (h : l[k]? = some x) : (nsyms l).getD k [] = [.s x.1,.i .i64 x.2]:=by simp [nsyms,h]
theorem syms_snoc (l : Names) (x : ByteArray × Int) : nsyms (l ++ [x]) = nsyms l ++ [[.s x.1,.i .i64 x.2]]:=by simp [nsyms]
attribute [go_sem] nsyms_len
mutual
/-- The names and widths of a plan's relations. -/
def symsF : PlanD → Names
 | .mk k w _ _ nm _ ks=>if k = 0 then [(nm,w)] else symsL ks
def symsL : List PlanD → Names
 | []=>[]
 | p :: r=>symsF p ++ symsL r
end
theorem symsF_eq (p : PlanD) : symsF p = if p.kind = 0 then [(p.name,p.width)] else symsL p.kids:=by cases p;rfl
theorem symsL_len : ∀ (l : List PlanD),(∀ p ∈ l,(symsF p).length ≤ cntF p) → (symsL l).length ≤ cntL l
 | [],_=>Nat.le_refl _
 | p :: r,h=>by
  simp only [symsL,cntL,List.length_append]
  have h1:=h p (by simp)
  have h2:=symsL_len r fun q hq=>h q (by simp [hq])
  omega
theorem symsF_len : ∀ (p : PlanD),(symsF p).length ≤ cntF p :=
 PlanD.ind fun p ih=>by
  rw [symsF_eq,cntF_eq]
  have:=symsL_len p.kids ih
  split
  ·simp
  ·omega
theorem rsyms_spec : ∀ (p : PlanD),p.Ok → ∀ (acc : Names) (a : AV),(a = .nsl ∧ acc = [] ∨ a = .own 2 (nsyms acc)) → acc.length + cntF p ≤ 100000 → ACallsD Try.prog 28 [.agg p.cells,a] (.own 2 (nsyms (acc ++ symsF p))) :=
 PlanD.ind fun p ih hp acc a ha hc=>by
  have h3:=hp.len
  have hcp:=cntF_pos p
  have hkl : p.kids.length ≤ 100000:=by
   have:=kids_cnt p.kids
   rw [cntF_eq] at hc;omega
  rw [PlanD.cells_eq]
  refine ACalls_of' (n:=32) (rs:=[.tmp 4]) (show Try.prog.funcs[28]? = some Try.f28 by kernel_rfl) rfl rfl rfl (by simp) (by decide +kernel) ?_
  repeat (first | refine nav ?_ | refine bo ?_)
  (refine wr fun K R hK hR=>?_;simp only [go_sem];(try go_ints);(repeat refine And.intro side ?_);(first|refine hK _ ?_|refine hR _ _ ?_);clear hK hR K R)
  repeat (first | refine nav ?_ | refine bo ?_)
  (refine wr fun K R hK hR=>?_;simp only [go_sem];(try go_ints);(repeat refine And.intro side ?_);(first|refine hK _ ?_|refine hR _ _ ?_);clear hK hR K R)
  repeat (first | refine nav ?_ | refine bo ?_)
  refine W_cond (b:=p.kind == 0) (by simp only [go_sem]) (fun hb=>?_) (fun hb=>?_)
  ·have hk : symsF p = [(p.name,p.width)]:=by rw [symsF_eq,if_pos (by simpa using hb)]
   rw [hk]
   rw [syms_snoc]
   rcases ha with ⟨rfl,rfl⟩ | rfl
   ·repeat (first | refine nav ?_ | refine bo ?_)
    (refine W_reg [9] fun K R hK hR=>?_;simp only [go_sem];(try go_ints);(repeat refine And.intro side ?_);(first|refine hK _ ?_|refine hR _ _ ?_);clear hK hR K R)
    repeat (first | refine nav ?_ | refine bo ?_)
    refine endQ_data (by simp only [go_sem]<;>exact rfl) (Le.of_eq ?_) rfl
    rfl
   ·have hl : (nsyms acc).length = acc.length:=nsyms_len acc
    repeat (first | refine nav ?_ | refine bo ?_)
    (refine W_reg [9] fun K R hK hR=>?_;simp only [go_sem,hl];(try go_ints);(try simp only [go_sem,hl]);(repeat refine And.intro side ?_);(first|refine hK _ ?_|refine hR _ _ ?_);clear hK hR K R)
    repeat (first | refine nav ?_ | refine bo ?_)
    refine endQ_data (by simp only [go_sem]<;>exact rfl) (Le.of_eq ?_) rfl
    rfl
  ·have hk : symsF p = symsL p.kids:=by rw [symsF_eq,if_neg (by simpa using hb)]
   rw [hk]
   rw [cntF_eq] at hc
   repeat (first | refine nav ?_ | refine bo ?_)
   (refine wr fun K R hK hR=>?_;simp only [go_sem];(try go_ints);(repeat refine And.intro side ?_);(first|refine hK _ ?_|refine hR _ _ ?_);clear hK hR K R)
   repeat (first | refine nav ?_ | refine bo ?_)
   refine W_for 17 31 [1,5] (fun m t o=>∃ (k : Nat) (ac : Names),[Ob.cells 7 [[AV.i .i64 p.kind,.i .i64 p.width,.i .i64 p.i,.i .i64 p.j,.s p.name,.sl 1 (ints p.cols),.sl 7 (plans p.kids)]]] = o ∧ t 5 = .i .i64 k ∧ (t 1 = .nsl ∧ ac = [] ∨ t 1 = .own 2 (nsyms ac)) ∧ m = p.kids.length - k ∧ k ≤ p.kids.length ∧ ac ++ symsL (p.kids.drop k) = acc ++ symsL p.kids ∧ ac.length + cntL (p.kids.drop k) ≤ 100000) p.kids.length
    ⟨0,acc,rfl,by simp only [go_sem]<;>rfl,by simp only [go_sem]<;>exact ha,by omega,by omega,rfl,by rw [List.drop_zero];omega⟩ ?_
   rintro m t o ⟨k,ac,rfl,h5,h1,rfl,hk,hi,hcl⟩
   repeat (first | refine nav ?_ | refine bo ?_)
   (refine wr fun K R hK hR=>?_;simp only [go_sem,h5];(try go_ints);(try simp only [go_sem,h5]);(repeat refine And.intro side ?_);(first|refine hK _ ?_|refine hR _ _ ?_);clear hK hR K R)
   repeat (first | refine nav ?_ | refine bo ?_)
   refine W_cond (by simp only [go_sem]<;>exact rfl) (fun hb=>?_) (fun hb=>?_)
   ·have hb1 : k < p.kids.length:=by simpa using hb
    obtain ⟨x,hx⟩ : ∃ x,p.kids[k]? = some x:=⟨_,List.getElem?_eq_getElem hb1⟩
    have hxm:=List.mem_of_getElem? hx
    rw [drop_kids hx,symsL,← List.append_assoc] at hi
    rw [drop_kids hx,cntL] at hcl
    have hcx:=x.cells_eq
    have hsl:=symsF_len x
    have ihx:=ih x hxm (hp.kid x hxm) ac _ (.inr rfl) (by omega)
    rw [hcx] at ihx
    have hcl2 : (ac ++ symsF x).length + cntL (p.kids.drop (k + 1)) ≤ 100000:=by rw [List.length_append];omega
    repeat (first | refine nav ?_ | refine bo ?_)
    rcases h1 with ⟨h1,rfl⟩ | h1
    ·(refine wr fun K R hK hR=>?_;simp only [go_sem,h5,h1,plans_get hx];(try go_ints);(try simp only [go_sem,h5,h1,plans_get hx]);(repeat refine And.intro side ?_);(first|refine hK _ ?_|refine hR _ _ ?_);clear hK hR K R)
     refine RL_callF (ihx) rfl rfl rfl (by first | (simp only [go_sem]<;>first | exact LeA.refl _ | exact Le.refl _) | exact LeA.refl _) rfl rfl ?_
     (refine rr fun K R hK hR=>?_;simp only [go_sem];(try go_ints);(repeat refine And.intro side ?_);(first|refine hK _ ?_|refine hR _ _ ?_);clear hK hR K R)
     repeat (first | refine nav ?_ | refine bo ?_)
     (refine wr fun K R hK hR=>?_;simp only [go_sem,h5];(try go_ints);(try simp only [go_sem,h5]);(repeat refine And.intro side ?_);(first|refine hK _ ?_|refine hR _ _ ?_);clear hK hR K R)
     refine forQ_normal (p.kids.length - (k + 1)) (by omega) ⟨k + 1,[] ++ symsF x,?_⟩
     ((try simp only [go_sem]);(repeat' refine And.intro ?_ ?_)<;>(try first | with_reducible rfl | omega | with_reducible assumption | (simp;done)))
     simpa using hi
    ·(refine W_reg [29] fun K R hK hR=>?_;simp only [go_sem,h5,h1,plans_get hx];(try go_ints);(try simp only [go_sem,h5,h1,plans_get hx]);(repeat refine And.intro side ?_);(first|refine hK _ ?_|refine hR _ _ ?_);clear hK hR K R)
     refine RL_callF (ihx) rfl rfl rfl (by first | (simp only [go_sem]<;>first | exact LeA.refl _ | exact Le.refl _) | exact LeA.refl _) rfl rfl ?_
     (refine rr fun K R hK hR=>?_;simp only [go_sem];(try go_ints);(repeat refine And.intro side ?_);(first|refine hK _ ?_|refine hR _ _ ?_);clear hK hR K R)
     repeat (first | refine nav ?_ | refine bo ?_)
     (refine wr fun K R hK hR=>?_;simp only [go_sem,h5];(try go_ints);(try simp only [go_sem,h5]);(repeat refine And.intro side ?_);(first|refine hK _ ?_|refine hR _ _ ?_);clear hK hR K R)
     refine forQ_normal (p.kids.length - (k + 1)) (by omega) ⟨k + 1,ac ++ symsF x,?_⟩
     ((try simp only [go_sem]);(repeat' refine And.intro ?_ ?_)<;>(try first | with_reducible rfl | omega | with_reducible assumption | (simp;done)))
     simpa using hi
   ·have hb' : k = p.kids.length:=by have : ¬ k < p.kids.length:=(by simpa using hb);omega
    subst hb'
    rw [List.drop_length,symsL,List.append_nil] at hi
    rw [← hi]
    rcases h1 with ⟨h1,rfl⟩ | h1
    ·repeat (first | refine nav ?_ | refine bo ?_)
     (refine wr fun K R hK hR=>?_;simp only [go_sem,h1];(try go_ints);(try simp only [go_sem,h1]);(repeat refine And.intro side ?_);(first|refine hK _ ?_|refine hR _ _ ?_);clear hK hR K R)
     repeat (first | refine nav ?_ | refine bo ?_)
     refine endQ_data (by simp only [go_sem]<;>exact rfl) (Le.of_eq ?_) rfl
     rfl
    ·repeat (first | refine nav ?_ | refine bo ?_)
     (refine W_reg [31] fun K R hK hR=>?_;simp only [go_sem,h1];(try go_ints);(try simp only [go_sem,h1]);(repeat refine And.intro side ?_);(first|refine hK _ ?_|refine hR _ _ ?_);clear hK hR K R)
     repeat (first | refine nav ?_ | refine bo ?_)
     refine endQ_data (by simp only [go_sem]<;>exact rfl) (Le.of_eq ?_) rfl
     rfl
def clash (l : Names) (i k : Nat) : Bool:=(l.getD k (⟨#[]⟩,0)).1.toList == (l.getD i (⟨#[]⟩,0)).1.toList && (l.getD k (⟨#[]⟩,0)).2 != (l.getD i (⟨#[]⟩,0)).2
def oneW (l : Names) : Bool:=(List.range l.length).all fun i=>(List.range i).all fun k=>!clash l i k
theorem oneW_true {l : Names} (h : ∀ i < l.length,∀ k < i,clash l i k = false) : oneW l = true:=by
 unfold oneW
 rw [List.all_eq_true]
 intro i hi
 rw [List.all_eq_true]
 intro k hk
 rw [h i (List.mem_range.1 hi) k (List.mem_range.1 hk)];rfl
theorem oneW_false {l : Names} {i k : Nat} (hi : i < l.length) (hk : k < i) (h : clash l i k = true) : oneW l = false:=by
 rw [Bool.eq_false_iff]
 intro e
 unfold oneW at e
 rw [List.all_eq_true] at e
 have:=e i (List.mem_range.2 hi)
 rw [List.all_eq_true] at this
 have:=this k (List.mem_range.2 hk)
 rw [h] at this;cases this
end Go.AW
namespace Go.AW
open Go Go.Proofs TyTry Go.IntWalk
set_option linter.unusedSimpArgs false
set_option linter.unusedVariables false
set_option maxRecDepth 10000
set_option maxHeartbeats 1000000
theorem rsvalid_spec (s : StrD) (hs : s.Ok) : ACallsD Try.prog 7 [.agg [.i .i64 s.size,.sl 3 (rels s.rels)]] (.b (validF s)):=by
 refine ACalls_of' (n:=53) (rs:=[.tmp 2]) (show Try.prog.funcs[7]? = some Try.f7 by kernel_rfl) rfl rfl rfl (by simp) (by decide +kernel) ?_
 repeat (first | refine nav ?_ | refine bo ?_)
 (refine wr fun K R hK hR=>?_;simp only [go_sem];(try go_ints);(repeat refine And.intro side ?_);(first|refine hK _ ?_|refine hR _ _ ?_);clear hK hR K R)
 repeat (first | refine nav ?_ | refine bo ?_)
 (refine wr fun K R hK hR=>?_;simp only [go_sem];(try go_ints);(repeat refine And.intro side ?_);(first|refine hK _ ?_|refine hR _ _ ?_);clear hK hR K R)
 repeat (first | refine nav ?_ | refine bo ?_)
 refine W_cond (by simp only [go_sem]<;>exact rfl) (fun hb=>?_) (fun hb=>?_)
 ·simp only [Bool.or_eq_true,Bool.and_eq_true,Bool.not_eq_true',Bool.not_eq_false',Bool.and_eq_false_iff,Bool.or_eq_false_iff,decide_eq_true_eq,decide_eq_false_iff_not,Bool.not_eq_eq_eq_not,Bool.not_true,Bool.not_false] at hb
  repeat (first | refine nav ?_ | refine bo ?_)
  (refine wr fun K R hK hR=>?_;simp only [go_sem];(try go_ints);(repeat refine And.intro side ?_);(first|refine hK _ ?_|refine hR _ _ ?_);clear hK hR K R)
  repeat (first | refine nav ?_ | refine bo ?_)
  refine endQ_data (by simp only [go_sem]<;>exact rfl) (Le.of_eq ?_) rfl
  rw [AV.b.injEq,eq_comm,validF]
  rcases hb with (hb | hb) | hb
  ·rw [decide_eq_false (show ¬ 1 ≤ s.size by omega)];simp
  ·rw [decide_eq_false (show ¬ s.size ≤ 64 by omega)];simp
  ·rw [decide_eq_false (show ¬ s.rels.length ≤ 8 by omega)];simp
 ·simp only [Bool.or_eq_true,Bool.and_eq_true,Bool.not_eq_true',Bool.not_eq_false',Bool.and_eq_false_iff,Bool.or_eq_false_iff,decide_eq_true_eq,decide_eq_false_iff_not,Bool.not_eq_eq_eq_not,Bool.not_true,Bool.not_false] at hb
  obtain ⟨⟨hb1,hb2⟩,hb3⟩:=hb
  repeat (first | refine nav ?_ | refine bo ?_)
  (refine wr fun K R hK hR=>?_;simp only [go_sem];(try go_ints);(repeat refine And.intro side ?_);(first|refine hK _ ?_|refine hR _ _ ?_);clear hK hR K R)
  repeat (first | refine nav ?_ | refine bo ?_)
  refine W_for 19 53 [3,4] (fun m t o=>∃ k : Nat,[Ob.cells 2 [[.i .i64 s.size,.sl 3 (rels s.rels)]]] = o ∧ t 3 = .i .i64 k ∧ m = s.rels.length - k ∧ k ≤ s.rels.length ∧ ∀ i < k,∀ r,s.rels[i]? = some r → (relOk s.size r && !(s.rels.take i).any fun q=>q.name.toList == r.name.toList) = true) s.rels.length ⟨0,rfl,by simp only [go_sem]<;>rfl,by omega,Nat.zero_le _,by simp⟩ ?_
  rintro m t o ⟨k,rfl,h3,rfl,hk,hi⟩
  repeat (first | refine nav ?_ | refine bo ?_)
  (refine wr fun K R hK hR=>?_;simp only [go_sem,h3];(try go_ints);(try simp only [go_sem,h3]);(repeat refine And.intro side ?_);(first|refine hK _ ?_|refine hR _ _ ?_);clear hK hR K R)
  repeat (first | refine nav ?_ | refine bo ?_)
  refine W_cond (by simp only [go_sem]<;>exact rfl) (fun hb=>?_) (fun hb=>?_)
  ·simp at hb
   obtain ⟨r,hr⟩ : ∃ r,s.rels[k]? = some r:=⟨_,List.getElem?_eq_getElem hb⟩
   have hro:=hs.rel r (List.mem_of_getElem? hr)
   repeat (first | refine nav ?_ | refine bo ?_)
   (refine W_dreg (by decide +kernel) [] [0,1,2,3,4,5,6,7,8] [[],[0],[],[2],[],[4,2,3],[3,2,4,5],[5,4,2,3,6,0,1],[1,0,6,3,2,4,5,7]] (by decide +kernel) rfl fun K R hK hR=>?_;simp only [List.filterMap_cons,List.filterMap_nil,List.getElem?_cons_zero,List.getElem?_cons_succ,List.cons_append,List.nil_append];simp only [go_sem,h3,rels_get hr];(try go_ints);(try simp only [go_sem,h3,rels_get hr]);(repeat refine And.intro side ?_);(first|refine hK _ ?_|refine hR _ _ ?_);clear hK hR K R)
   refine D_callD (rrel_spec s.size (by omega) (by omega) r hro) rfl rfl rfl (by first | (simp only [go_sem]<;>first | exact LeA.refl _ | exact Le.refl _) | exact LeA.refl _) rfl rfl rfl rfl ?_
   (refine D_reg fun K R hK hR=>?_;simp only [go_sem];(try go_ints);(repeat refine And.intro side ?_);(first|refine hK _ ?_|refine hR _ _ ?_);clear hK hR K R)
   repeat (first | refine nav ?_ | refine bo ?_)
   refine W_cond (by simp only [go_sem]<;>exact rfl) (fun hc=>?_) (fun hc=>?_)
   ·have hno : relOk s.size r = false:=by simpa using hc
    repeat (first | refine nav ?_ | refine bo ?_)
    (refine wr fun K R hK hR=>?_;simp only [go_sem];(try go_ints);(repeat refine And.intro side ?_);(first|refine hK _ ?_|refine hR _ _ ?_);clear hK hR K R)
    repeat (first | refine nav ?_ | refine bo ?_)
    refine endQ_data (by simp only [go_sem]<;>exact rfl) (Le.of_eq ?_) rfl
    rw [AV.b.injEq,eq_comm,validF]
    simp only [Bool.and_eq_false_iff]
    right
    rw [List.all_eq_false]
    exact ⟨k,by simpa using hb,by simp [hr,hno]⟩
   ·have hyes : relOk s.size r = true:=by simpa using hc
    repeat (first | refine nav ?_ | refine bo ?_)
    (refine wr fun K R hK hR=>?_;simp only [go_sem];(try go_ints);(repeat refine And.intro side ?_);(first|refine hK _ ?_|refine hR _ _ ?_);clear hK hR K R)
    repeat (first | refine nav ?_ | refine bo ?_)
    refine W_for 35 53 [4] (fun m t o=>∃ j : Nat,[Ob.cells 2 [[.i .i64 s.size,.sl 3 (rels s.rels)]]] = o ∧ t 4 = .i .i64 j ∧ m = k - j ∧ j ≤ k ∧ ∀ i < j,∀ q,s.rels[i]? = some q → (q.name.toList == r.name.toList) = false) k ⟨0,rfl,by simp only [go_sem]<;>rfl,by omega,Nat.zero_le _,by simp⟩ ?_
    rintro m t2 o ⟨j,rfl,h4,rfl,hj,hji⟩
    repeat (first | refine nav ?_ | refine bo ?_)
    (refine wr fun K R hK hR=>?_;simp only [go_sem,h3,h4];(try go_ints);(try simp only [go_sem,h3,h4]);(repeat refine And.intro side ?_);(first|refine hK _ ?_|refine hR _ _ ?_);clear hK hR K R)
    repeat (first | refine nav ?_ | refine bo ?_)
    refine W_cond (by simp only [go_sem]<;>exact rfl) (fun hb=>?_) (fun hb=>?_)
    ·simp at hb
     obtain ⟨q,hq⟩ : ∃ q,s.rels[j]? = some q:=⟨_,List.getElem?_eq_getElem (by omega)⟩
     repeat (first | refine nav ?_ | refine bo ?_)
     (refine W_dreg (by decide +kernel) [] [0,1,2,3,4,5,6,7,8,9,10,11,12] [[],[0],[],[2,0,1],[1,0,2,3],[3,2,0,1,4],[],[6],[],[8,6,7],[7,6,8,9],[9,8,6,7,10],[10,7,6,8,9,11,4,1,0,2,3,5]] (by decide +kernel) rfl fun K R hK hR=>?_;simp only [List.filterMap_cons,List.filterMap_nil,List.getElem?_cons_zero,List.getElem?_cons_succ,List.cons_append,List.nil_append];simp only [go_sem,h3,h4,rels_get hr,rels_get hq];(try go_ints);(try simp only [go_sem,h3,h4,rels_get hr,rels_get hq]);(repeat refine And.intro side ?_);(first|refine hK _ ?_|refine hR _ _ ?_);clear hK hR K R)
     repeat (first | refine nav ?_ | refine bo ?_)
     refine W_cond (by simp only [go_sem]<;>exact rfl) (fun hd=>?_) (fun hd=>?_)
     ·repeat (first | refine nav ?_ | refine bo ?_)
      (refine wr fun K R hK hR=>?_;simp only [go_sem];(try go_ints);(repeat refine And.intro side ?_);(first|refine hK _ ?_|refine hR _ _ ?_);clear hK hR K R)
      repeat (first | refine nav ?_ | refine bo ?_)
      refine endQ_data (by simp only [go_sem]<;>exact rfl) (Le.of_eq ?_) rfl
      rw [AV.b.injEq,eq_comm,validF]
      simp only [Bool.and_eq_false_iff]
      right
      rw [List.all_eq_false]
      refine ⟨k,by simp;omega,?_⟩
      have : (s.rels.take k).any (fun q=>q.name.toList == r.name.toList) = true:=by
       rw [List.any_eq_true]
       exact ⟨q,List.mem_of_getElem? (i:=j) (by rw [List.getElem?_take,if_pos hb];exact hq),hd⟩
      simp only [hr,this]
      simp
     ·repeat (first | refine nav ?_ | refine bo ?_)
      (refine wr fun K R hK hR=>?_;simp only [go_sem,h4];(try go_ints);(try simp only [go_sem,h4]);(repeat refine And.intro side ?_);(first|refine hK _ ?_|refine hR _ _ ?_);clear hK hR K R)
      refine forQ_normal (k - (j + 1)) (by omega) ⟨j + 1,?_⟩
      ((try simp only [go_sem]);(repeat' refine And.intro ?_ ?_)<;>(try first | with_reducible rfl | omega | with_reducible assumption | (simp;done)))
      intro i hij q' hq'
      rcases Nat.lt_succ_iff_lt_or_eq.1 hij with h | rfl
      ·exact hji i h q' hq'
      ·rw [hq] at hq'
       obtain rfl:=Option.some.inj hq'
       exact hd
    ·simp at hb
     have : j = k:=by omega
     subst this
     rw [mix_mix rfl]
     repeat (first | refine nav ?_ | refine bo ?_)
     (refine wr fun K R hK hR=>?_;simp only [go_sem,h3];(try go_ints);(try simp only [go_sem,h3]);(repeat refine And.intro side ?_);(first|refine hK _ ?_|refine hR _ _ ?_);clear hK hR K R)
     refine forQ_normal (s.rels.length - (j + 1)) (by omega) ⟨j + 1,?_⟩
     ((try simp only [go_sem]);(repeat' refine And.intro ?_ ?_)<;>(try first | with_reducible rfl | omega | with_reducible assumption | (simp;done)))
     intro i hik r' hr'
     rcases Nat.lt_succ_iff_lt_or_eq.1 hik with h | rfl
     ·exact hi i h r' hr'
     ·rw [hr] at hr'
      obtain rfl:=Option.some.inj hr'
      rw [hyes,Bool.true_and,Bool.not_eq_true',List.any_eq_false]
      intro q hq
      obtain ⟨i',hi'⟩:=List.getElem?_of_mem hq
      rw [List.getElem?_take] at hi'
      split at hi'
      ·rename_i hlt
       rw [hji i' hlt q hi'];simp
      ·cases hi'
  ·simp at hb
   have : k = s.rels.length:=by omega
   subst this
   repeat (first | refine nav ?_ | refine bo ?_)
   (refine wr fun K R hK hR=>?_;simp only [go_sem];(try go_ints);(repeat refine And.intro side ?_);(first|refine hK _ ?_|refine hR _ _ ?_);clear hK hR K R)
   repeat (first | refine nav ?_ | refine bo ?_)
   refine endQ_data (by simp only [go_sem]<;>exact rfl) (Le.of_eq ?_) rfl
   rw [AV.b.injEq,eq_comm,validF,decide_eq_true (show 1 ≤ s.size by omega),decide_eq_true (show s.size ≤ 64 by omega),decide_eq_true (show s.rels.length ≤ 8 by omega)]
   simp only [Bool.true_and]
   rw [List.all_eq_true]
   intro i hi'
   have hlt : i < s.rels.length:=by simpa using hi'
   rw [List.getElem?_eq_getElem hlt]
   exact hi i hlt _ (List.getElem?_eq_getElem hlt)
theorem rfindF_cases (s : StrD) (name : ByteArray) : (rfindF s name = -1 ∧ ∀ q ∈ s.rels,(q.name.toList == name.toList) = false) ∨ ∃ (j : Nat) (q : RelD),rfindF s name = j ∧ s.rels[j]? = some q ∧ (q.name.toList == name.toList) = true:=by
 have key : ∀ (l : List RelD) (k : Nat),(idxI (fun q : RelD=>q.name.toList == name.toList) l k = -1 ∧ ∀ q ∈ l,(q.name.toList == name.toList) = false) ∨ ∃ (j : Nat) (q : RelD),idxI (fun q : RelD=>q.name.toList == name.toList) l k = ((k + j : Nat) : Int) ∧ l[j]? = some q ∧ (q.name.toList == name.toList) = true:=by
  intro l
  induction l with
  | nil=>intro k;exact .inl ⟨rfl,fun q hq=>by simp at hq⟩
  | cons x l ih =>
   intro k
   rw [idxI]
   by_cases hx : (x.name.toList == name.toList) = true
   ·rw [if_pos hx];exact .inr ⟨0,x,by simp,rfl,hx⟩
   ·rw [if_neg hx]
    have:=ih (k + 1)
    rw [Int.natCast_add,Int.natCast_one] at this
    rcases this with ⟨a,b⟩ | ⟨j,q,a,b,c⟩
    ·refine .inl ⟨a,fun q hq=>?_⟩
     rcases List.mem_cons.1 hq with rfl | hq
     ·simpa using hx
     ·exact b q hq
    ·refine .inr ⟨j + 1,q,?_,by simpa using b,c⟩
     rw [a];omega
 have:=key s.rels 0
 simpa [rfindF] using this
def fitsF (l : Names) (s : StrD) : Bool:=l.all fun x=>s.rels.any fun q=>q.name.toList == x.1.toList && (q.arity == x.2)
def fitsR (l : Names) (s : StrD) : Bool:=l.all fun x=>match s.rels[(rfindF s x.1).toNat]? with | some q=>decide (0 ≤ rfindF s x.1) && (q.arity == x.2) | none=>false
theorem fitsR_eq {s : StrD} (hv : validF s = true) (l : Names) : fitsR l s = fitsF l s:=by
 unfold fitsR fitsF
 refine List.all_congr rfl fun x=>?_
 rcases rfindF_cases s x.1 with ⟨a,b⟩ | ⟨j,q,a,b,c⟩
 ·rw [a]
  have : (s.rels.any fun q=>q.name.toList == x.1.toList && (q.arity == x.2)) = false:=by
   rw [List.any_eq_false]
   intro q hq
   rw [b q hq];simp
  rw [this]
  split<;>simp
 ·rw [a,Int.toNat_natCast,b]
  simp only [Int.natCast_nonneg,decide_true,Bool.true_and]
  rw [Bool.eq_iff_iff]
  constructor
  ·intro h
   rw [List.any_eq_true]
   exact ⟨q,List.mem_of_getElem? b,by rw [c,h];rfl⟩
  ·intro h
   rw [List.any_eq_true] at h
   obtain ⟨q',hq',h⟩:=h
   rw [Bool.and_eq_true] at h
   obtain ⟨i,hi⟩:=List.getElem?_of_mem hq'
   have uniq : ∀ (i j : Nat) (p q : RelD),i < j → s.rels[i]? = some p → s.rels[j]? = some q → (p.name.toList == q.name.toList) = false:=by
    intro i j p q hij hp hq
    simp only [validF,Bool.and_eq_true,List.all_eq_true,List.mem_range] at hv
    have h1:=hv.2 j (List.getElem?_eq_some_iff.1 hq).1
    rw [hq] at h1
    simp only [Bool.and_eq_true,Bool.not_eq_true',List.any_eq_false] at h1
    have:=h1.2 p (List.mem_of_getElem? (i:=i) (by rw [List.getElem?_take,if_pos hij];exact hp))
    simpa using this
   have e1 : q'.name.toList = x.1.toList:=by simpa using h.1
   have e2 : q.name.toList = x.1.toList:=by simpa using c
   rcases Nat.lt_trichotomy i j with hl | rfl | hl
   ·have:=uniq i j q' q hl hi b
    rw [e1,e2] at this
    simp at this
   ·rw [b] at hi
    obtain rfl:=Option.some.inj hi
    exact h.2
   ·have:=uniq j i q q' hl b hi
    rw [e1,e2] at this
    simp at this
theorem rfits_spec (l : Names) (hl : l.length ≤ 1099511627776) (s : StrD) (hs : s.Ok) : ACallsD Try.prog 29 [.agg [.i .i64 s.size,.sl 3 (rels s.rels)],.sl 2 (nsyms l)] (.b (fitsR l s)):=by
 have hlen:=hs.len
 refine ACalls_of' (n:=36) (rs:=[.tmp 4]) (show Try.prog.funcs[29]? = some Try.f29 by kernel_rfl) rfl rfl rfl (by simp) (by decide +kernel) ?_
 repeat (first | refine nav ?_ | refine bo ?_)
 (refine wr fun K R hK hR=>?_;simp only [go_sem];(try go_ints);(repeat refine And.intro side ?_);(first|refine hK _ ?_|refine hR _ _ ?_);clear hK hR K R)
 repeat (first | refine nav ?_ | refine bo ?_)
 (refine wr fun K R hK hR=>?_;simp only [go_sem];(try go_ints);(repeat refine And.intro side ?_);(first|refine hK _ ?_|refine hR _ _ ?_);clear hK hR K R)
 repeat (first | refine nav ?_ | refine bo ?_)
 refine W_for 7 36 [5,6] (fun m t o=>∃ k : Nat,[Ob.cells 2 [[.i .i64 s.size,.sl 3 (rels s.rels)]]] = o ∧ t 5 = .i .i64 k ∧ m = l.length - k ∧ k ≤ l.length ∧ fitsR (l.drop k) s = fitsR l s) l.length ⟨0,rfl,by simp only [go_sem]<;>rfl,by omega,Nat.zero_le _,rfl⟩ ?_
 rintro m t o ⟨k,rfl,h5,rfl,hk,hi⟩
 repeat (first | refine nav ?_ | refine bo ?_)
 (refine wr fun K R hK hR=>?_;simp only [go_sem,h5];(try go_ints);(try simp only [go_sem,h5]);(repeat refine And.intro side ?_);(first|refine hK _ ?_|refine hR _ _ ?_);clear hK hR K R)
 repeat (first | refine nav ?_ | refine bo ?_)
 refine W_cond (by simp only [go_sem]<;>exact rfl) (fun hb=>?_) (fun hb=>?_)
 ·simp at hb
  obtain ⟨x,hx⟩ : ∃ x,l[k]? = some x:=⟨_,List.getElem?_eq_getElem hb⟩
  rw [drop_cons hx,show fitsR (x :: l.drop (k + 1)) s = ((match s.rels[(rfindF s x.1).toNat]? with | some q=>decide (0 ≤ rfindF s x.1) && (q.arity == x.2) | none=>false) && fitsR (l.drop (k + 1)) s) from rfl] at hi
  repeat (first | refine nav ?_ | refine bo ?_)
  (refine W_dreg (by decide +kernel) [] [0,1,2,3,4,5,6,7] [[],[],[],[2,1],[1,2,3],[3,2,1,4],[4,1,2,3,5,0],[0,5,3,2,1,4,6]] (by decide +kernel) rfl fun K R hK hR=>?_;simp only [List.filterMap_cons,List.filterMap_nil,List.getElem?_cons_zero,List.getElem?_cons_succ,List.cons_append,List.nil_append];simp only [go_sem,h5,nsyms_get hx];(try go_ints);(try simp only [go_sem,h5,nsyms_get hx]);(repeat refine And.intro side ?_);(first|refine hK _ ?_|refine hR _ _ ?_);clear hK hR K R)
  refine D_callD (rfind_spec s hs x.1) rfl rfl rfl (by first | (simp only [go_sem]<;>first | exact LeA.refl _ | exact Le.refl _) | exact LeA.refl _) rfl rfl rfl rfl ?_
  (refine D_reg fun K R hK hR=>?_;simp only [go_sem];(try go_ints);(repeat refine And.intro side ?_);(first|refine hK _ ?_|refine hR _ _ ?_);clear hK hR K R)
  rcases rfindF_cases s x.1 with ⟨a,b⟩ | ⟨j,q,a,b,c⟩
  ·rw [a] at hi
   repeat (first | refine nav ?_ | refine bo ?_)
   have h0 : (((rels s.rels).getD 0 []).getD 1 .any).dat = .any ∨ ∃ z,(((rels s.rels).getD 0 []).getD 1 .any).dat = .i .i64 z:=by
    cases s.rels with
    | nil=>exact .inl rfl
    | cons r l=>exact .inr ⟨r.arity,rfl⟩
   have hno : fitsR l s = false:=by
    rw [← hi]
    cases s.rels[((-1 : Int)).toNat]?<;>simp
   rcases h0 with h0 | ⟨z,h0⟩
   ·(refine W_dreg (by decide +kernel) [] [0,1,2,3,4,5,6,7,8,9,10,11,12,13,14,15] [[],[0],[0,1],[1,0,2],[2,0,1,3],[1,0,2],[5,3,1,0,2,4],[4,2,0,1,3,5,6],[6,5,3,1,0,2,4,7],[1,0,2],[1,0,2],[10,2,0,1,9],[9,1,0,2,10,11],[11,10,2,0,1,9,12],[12,9,10,11,13,7,4,2,0,1,3,5,6,8],[8,6,5,3,4,7,13,11,10,9,12,14,1,0,2]] (by decide +kernel) rfl fun K R hK hR=>?_;simp only [List.filterMap_cons,List.filterMap_nil,List.getElem?_cons_zero,List.getElem?_cons_succ,List.cons_append,List.nil_append];simp only [go_sem,a,h5,nsyms_get hx,h0];(try go_ints);(try simp only [go_sem,a,h5,nsyms_get hx,h0]);(repeat refine And.intro side ?_);(first|refine hK _ ?_|refine hR _ _ ?_);clear hK hR K R)
    repeat (first | refine nav ?_ | refine bo ?_)
    refine W_cond (b:=true) (by simp only [go_sem]<;>exact rfl) (fun _=>?_) (fun hd=>by cases hd)
    repeat (first | refine nav ?_ | refine bo ?_)
    (refine wr fun K R hK hR=>?_;simp only [go_sem];(try go_ints);(repeat refine And.intro side ?_);(first|refine hK _ ?_|refine hR _ _ ?_);clear hK hR K R)
    repeat (first | refine nav ?_ | refine bo ?_)
    refine endQ_data (by simp only [go_sem]<;>exact rfl) (Le.of_eq ?_) rfl
    rw [hno]
   ·(refine W_dreg (by decide +kernel) [] [0,1,2,3,4,5,6,7,8,9,10,11,12,13,14,15] [[],[0],[0,1],[1,0,2],[2,0,1,3],[1,0,2],[5,3,1,0,2,4],[4,2,0,1,3,5,6],[6,5,3,1,0,2,4,7],[1,0,2],[1,0,2],[10,2,0,1,9],[9,1,0,2,10,11],[11,10,2,0,1,9,12],[12,9,10,11,13,7,4,2,0,1,3,5,6,8],[8,6,5,3,4,7,13,11,10,9,12,14,1,0,2]] (by decide +kernel) rfl fun K R hK hR=>?_;simp only [List.filterMap_cons,List.filterMap_nil,List.getElem?_cons_zero,List.getElem?_cons_succ,List.cons_append,List.nil_append];simp only [go_sem,a,h5,nsyms_get hx,h0];(try go_ints);(try simp only [go_sem,a,h5,nsyms_get hx,h0]);(repeat refine And.intro side ?_);(first|refine hK _ ?_|refine hR _ _ ?_);clear hK hR K R)
    repeat (first | refine nav ?_ | refine bo ?_)
    refine W_cond (b:=true) (by simp only [go_sem]<;>exact rfl) (fun _=>?_) (fun hd=>by cases hd)
    repeat (first | refine nav ?_ | refine bo ?_)
    (refine wr fun K R hK hR=>?_;simp only [go_sem];(try go_ints);(repeat refine And.intro side ?_);(first|refine hK _ ?_|refine hR _ _ ?_);clear hK hR K R)
    repeat (first | refine nav ?_ | refine bo ?_)
    refine endQ_data (by simp only [go_sem]<;>exact rfl) (Le.of_eq ?_) rfl
    rw [hno]
  ·rw [a,Int.toNat_natCast,b] at hi
   simp only [Int.natCast_nonneg,decide_true,Bool.true_and] at hi
   have hjl:=(List.getElem?_eq_some_iff.1 b).1
   have hn0 : decide ((j : Int) < 0) = false:=by simp
   repeat (first | refine nav ?_ | refine bo ?_)
   (refine W_dreg (by decide +kernel) [] [0,1,2,3,4,5,6,7,8,9,10,11,12,13,14,15] [[],[0],[0,1],[1,0,2],[2,0,1,3],[1,0,2],[5,3,1,0,2,4],[4,2,0,1,3,5,6],[6,5,3,1,0,2,4,7],[1,0,2],[1,0,2],[10,2,0,1,9],[9,1,0,2,10,11],[11,10,2,0,1,9,12],[12,9,10,11,13,7,4,2,0,1,3,5,6,8],[8,6,5,3,4,7,13,11,10,9,12,14,1,0,2]] (by decide +kernel) rfl fun K R hK hR=>?_;simp only [List.filterMap_cons,List.filterMap_nil,List.getElem?_cons_zero,List.getElem?_cons_succ,List.cons_append,List.nil_append];simp only [go_sem,a,h5,nsyms_get hx,rels_get b,hn0];(try go_ints);(try simp only [go_sem,a,h5,nsyms_get hx,rels_get b,hn0]);(repeat refine And.intro side ?_);(first|refine hK _ ?_|refine hR _ _ ?_);clear hK hR K R)
   repeat (first | refine nav ?_ | refine bo ?_)
   refine W_cond (by simp only [go_sem]<;>exact rfl) (fun hd=>?_) (fun hd=>?_)
   ·have hd : (q.arity == x.2) = false:=by simpa using hd
    rw [hd,Bool.false_and] at hi
    repeat (first | refine nav ?_ | refine bo ?_)
    (refine wr fun K R hK hR=>?_;simp only [go_sem];(try go_ints);(repeat refine And.intro side ?_);(first|refine hK _ ?_|refine hR _ _ ?_);clear hK hR K R)
    repeat (first | refine nav ?_ | refine bo ?_)
    refine endQ_data (by simp only [go_sem]<;>exact rfl) (Le.of_eq ?_) rfl
    rw [← hi]
   ·have hd : (q.arity == x.2) = true:=by simpa using hd
    rw [hd,Bool.true_and] at hi
    repeat (first | refine nav ?_ | refine bo ?_)
    (refine wr fun K R hK hR=>?_;simp only [go_sem,h5];(try go_ints);(try simp only [go_sem,h5]);(repeat refine And.intro side ?_);(first|refine hK _ ?_|refine hR _ _ ?_);clear hK hR K R)
    refine forQ_normal (l.length - (k + 1)) (by omega) ⟨k + 1,?_⟩
    ((try simp only [go_sem]);(repeat' refine And.intro ?_ ?_)<;>(try first | with_reducible rfl | omega | with_reducible assumption | (simp;done)))
 ·simp at hb
  have : k = l.length:=by omega
  subst this
  rw [List.drop_length] at hi
  repeat (first | refine nav ?_ | refine bo ?_)
  (refine wr fun K R hK hR=>?_;simp only [go_sem];(try go_ints);(repeat refine And.intro side ?_);(first|refine hK _ ?_|refine hR _ _ ?_);clear hK hR K R)
  repeat (first | refine nav ?_ | refine bo ?_)
  refine endQ_data (by simp only [go_sem]<;>exact rfl) (Le.of_eq ?_) rfl
  rw [← hi];rfl
end Go.AW
namespace Go.Proofs
open Go.Shelf
def Try.growI_ren : Go.Shelf.Ren:=⟨fun | 4=>82 | n=>n,fun | 22=>32 | 25=>3 | 3=>3 | 4=>4 | 9=>9 | 20=>20 | 0=>0 | n=>n,fun | n=>n⟩
theorem Try.growI : Go.Proofs.Lays8.n4 Try.prog Try.growI_ren:={
 mixed:=by kernel_rfl
 f4:=⟨Try.f82.name,by kernel_rfl,Try.func82.trans (congrArg some (by kernel_rfl))⟩
 t0:=Try.underlying0
 a0:=Try.isAgg0
 z0:=Try.sizeOf0
 v0:=Try.zeroValue0
 t3:=Try.underlying3
 a3:=Try.isAgg3
 z3:=Try.sizeOf3
 v3:=Try.zeroValue3
 t4:=Try.underlying4
 a4:=Try.isAgg4
 z4:=Try.sizeOf4
 v4:=Try.zeroValue4
 t9:=Try.underlying9
 a9:=Try.isAgg9
 z9:=Try.sizeOf9
 v9:=Try.zeroValue9
 t20:=Try.underlying20
 a20:=Try.isAgg20
 z20:=Try.sizeOf20
 v20:=Try.zeroValue20
 t22:=Try.underlying32
 a22:=Try.isAgg32
 z22:=Try.sizeOf32
 v22:=Try.zeroValue32 }
def Try.growT_ren : Go.Shelf.Ren:=⟨fun | 4=>86 | n=>n,fun | 22=>49 | 25=>32 | 3=>3 | 4=>4 | 9=>9 | 20=>20 | 0=>0 | n=>n,fun | n=>n⟩
theorem Try.growT : Go.Proofs.Lays8.n4 Try.prog Try.growT_ren:={
 mixed:=by kernel_rfl
 f4:=⟨Try.f86.name,by kernel_rfl,Try.func86.trans (congrArg some (by kernel_rfl))⟩
 t0:=Try.underlying0
 a0:=Try.isAgg0
 z0:=Try.sizeOf0
 v0:=Try.zeroValue0
 t3:=Try.underlying3
 a3:=Try.isAgg3
 z3:=Try.sizeOf3
 v3:=Try.zeroValue3
 t4:=Try.underlying4
 a4:=Try.isAgg4
 z4:=Try.sizeOf4
 v4:=Try.zeroValue4
 t9:=Try.underlying9
 a9:=Try.isAgg9
 z9:=Try.sizeOf9
 v9:=Try.zeroValue9
 t20:=Try.underlying20
 a20:=Try.isAgg20
 z20:=Try.sizeOf20
 v20:=Try.zeroValue20
 t22:=Try.underlying49
 a22:=Try.isAgg49
 z22:=Try.sizeOf49
 v22:=Try.zeroValue49 }
end Go.Proofs
namespace Go.AW
open Go Go.Proofs TyTry Go.IntWalk
set_option linter.unusedSimpArgs false
set_option linter.unusedVariables false
set_option maxRecDepth 10000
set_option maxHeartbeats 1000000
theorem ACalls_room {P : Program} {f : FuncId} {sz n : Nat} (hok : callOk P f = true)
  (h : ∀ w : World,Calls P f #[.slice none 0 0,.int .i64 n] w fun e w'=>∃ (cap : Nat) (cs : Array Value) (ty : TypeId),e = .returned (.slice (some ⟨w.heap.size,0,none⟩) 0 cap) ∧ w' = w.drew.alloc (.cells cs ty (0,0)) ∧ cap * sz ≤ cs.size ∧ cap ≤ maxLen) (oc : List Ob) :
  ACalls P f [.nsl,.i .i64 n] oc fun r o'=>r = .own sz [] ∧ o' = oc:=by
 refine ⟨hok,fun w Z m reg vs hlen hrel=>?_⟩
 obtain ⟨v0,v1,rfl⟩ : ∃ v0 v1,vs = [v0,v1]:=by
  match vs,hlen with
  | [a,b],_=>exact ⟨a,b,rfl⟩
 have t0:=hrel.tv 0
 have t1:=hrel.tv 1
 simp only [List.getD_cons_zero,List.getD_cons_succ,V] at t0 t1
 subst t0 t1
 refine Calls.mono (h w) ?_
 rintro e w' ⟨cap,cs,ty,rfl,rfl,hcs,hmx⟩
 have g : Grow w w.drew:=⟨rfl,rfl,rfl,Nat.le_succ _,Nat.le_refl _,fun _ _=>rfl⟩
 have h1:=hrel.grow g
 have h2:=h1.fresh 2 (c:=cs) (e:=ty) (sz:=sz) (cap:=cap) (rows:=[]) (by simp) hmx hcs (fun w' Y' _ _=>by simp only [Rs])
 obtain ⟨h3,x3⟩:=h2.one 2
 simp only [upd,if_true] at h3
 refine ⟨_,.own sz [],oc,m,_,rfl,⟨rfl,rfl⟩,h3,?_,?_,fun _ _ k=>k⟩
 ·exact (g.evol _).trans ((Grow.push w.drew (.cells cs ty (0,0))).evol (XS m reg oc)) (fun b x k=>.inl k)
 ·intro b x hx
  rcases x3 b x hx with k | ⟨p,rg,e1,e2,e3⟩
  ·exact .inl (.inl k)
  ·simp only at e1
   split at e1
   ·obtain rfl:=Option.some.inj e1
    exact .inr (Nat.le_of_eq e2)
   ·exact .inl (.inr ⟨p,rg,e1,e2,e3⟩)
theorem ACalls_noroom {P : Program} {f : FuncId} (hok : callOk P f = true)
  (h : ∀ w : World,Calls P f #[.slice none 0 0,.int .i64 (0 : Nat)] w fun e w'=>e = .returned (.slice none 0 0) ∧ w' = w) :
  ACallsD P f [.nsl,.i .i64 0] .nsl:=by
 refine ⟨hok,fun w Z m reg vs hlen hrel=>?_⟩
 obtain ⟨v0,v1,rfl⟩ : ∃ v0 v1,vs = [v0,v1]:=by
  match vs,hlen with
  | [a,b],_=>exact ⟨a,b,rfl⟩
 have t0:=hrel.tv 0
 have t1:=hrel.tv 1
 simp only [List.getD_cons_zero,List.getD_cons_succ,V] at t0 t1
 subst t0 t1
 refine Calls.mono (h w) ?_
 rintro e w' ⟨rfl,rfl⟩
 have h2:=hrel.put 2 (av:=.nsl) (v:=.slice none 0 0) (by simp only [V]) (.inl rfl)
 obtain ⟨h3,x3⟩:=h2.one 2
 simp only [upd,if_true] at h3
 refine ⟨_,.nsl,[],m,_,rfl,⟨rfl,rfl⟩,h3,?_,?_,fun _ _ k=>k⟩
 ·exact Evol.refl _ _
 ·intro b x hx
  rcases x3 b x hx with k | ⟨p,rg,e1,e2,e3⟩
  ·exact .inl (.inl k)
  ·simp only at e1
   split at e1
   ·cases e1
   ·exact .inl (.inr ⟨p,rg,e1,e2,e3⟩)
theorem ACallsD.le {P : Program} {f : FuncId} {ac : List AV} {r r' : AV} (h : ACallsD P f ac r) (hle : Le r r') : ACallsD P f ac r':=by
 refine ⟨h.1,fun w Z m reg vs hlen hrel=>Calls.mono (h.2 w Z m reg vs hlen hrel) ?_⟩
 rintro e w' ⟨v,r1,o',m',reg',he,⟨rfl,rfl⟩,hr,h3,h4,h5⟩
 refine ⟨v,r',[],m',reg',he,⟨rfl,rfl⟩,hr.weak fun k=>?_,h3,h4,h5⟩
 by_cases hk : k = 0
 ·simp only [hk,if_true];exact hle
 ·simp only [hk,if_false];exact .refl _
theorem roomI (n : Nat) (h0 : 0 < n) (hn : n ≤ 100000000) : ACallsD Try.prog 82 [.nsl,.i .i64 n] (.own 1 []):=by
 obtain ⟨i0,hi0,hs,hb,hz⟩ : ∃ i0,Try.prog.info? 3 = some i0 ∧ i0.size = 1 ∧ i0.bytes = 8 ∧ i0.zero = some (.int .i64 0):=⟨Option.get (Try.prog.info? 3) (by kernel_rfl),by kernel_rfl,by kernel_rfl,by kernel_rfl,by kernel_rfl⟩
 refine ACalls_room (by decide +kernel) (fun w=>?_) []
 refine (Any8.slices_Grow_grow Try.growI i0 _ hi0 hz (by omega) none 0 0 n [] w (by omega) (by omega) (by rw [hb];omega) (by omega) (by simp) (fun _=>rfl) (by simp)).mono ?_
 rintro e w' ⟨rfl,rfl⟩
 refine ⟨_,_,_,rfl,rfl,?_,grownCap_le_maxLen _ _ _ _ (by simp [maxLen];omega)⟩
 have hg:=grownCap_ge w (0 + n) 0 (Try.growI_ren.t 25)
 simp only [Array.size_append,size_zeroCells,Value.cells,List.size_toArray,List.length_nil,List.length_cons]
 omega
theorem roomI0 : ACallsD Try.prog 82 [.nsl,.i .i64 0] .nsl :=
 ACalls_noroom (by decide +kernel) fun w=>Any8.slices_Grow_room Try.growI none 0 0 0 w (by omega) (by omega) (by omega) (by omega)
theorem roomI' (n : Nat) (hn : n ≤ 100000000) : ACallsD Try.prog 82 [.nsl,.i .i64 n] (.own 1 []):=by
 rcases Nat.eq_zero_or_pos n with rfl | h
 ·exact roomI0.le (Le.nslO 1)
 ·exact roomI n h hn
theorem flat_take {L : List (List Int)} {k : Nat} {x : List Int} (h : L[k]? = some x) : (L.take (k + 1)).flatten = (L.take k).flatten ++ x:=by
 rw [List.take_add_one,h];simp
theorem flat_take_le (L : List (List Int)) (k : Nat) : (L.take k).flatten.length ≤ L.flatten.length:=by
 conv=>rhs;rw [← List.take_append_drop k L,List.flatten_append,List.length_append]
 omega
theorem concatI (L : List (List Int)) (hl : L.length ≤ 1000000) (hn : L.flatten.length ≤ 100000000) : ACallsD Try.prog 74 [.sl 1 (tups L)] (.sl 1 (ints L.flatten)):=by
 have hL : (tups L).length = L.length:=by simp [tups]
 refine ACalls_of' (n:=36) (rs:=[.tmp 2]) (show Try.prog.funcs[74]? = some Try.f74 by kernel_rfl) rfl rfl rfl (by simp) (by decide +kernel) ?_
 repeat (first | refine nav ?_ | refine bo ?_)
 (refine wr fun K R hK hR=>?_;simp only [go_sem];(try go_ints);(repeat refine And.intro side ?_);(first|refine hK _ ?_|refine hR _ _ ?_);clear hK hR K R)
 repeat (first | refine nav ?_ | refine bo ?_)
 (refine wr fun K R hK hR=>?_;simp only [go_sem];(try go_ints);(repeat refine And.intro side ?_);(first|refine hK _ ?_|refine hR _ _ ?_);clear hK hR K R)
 repeat (first | refine nav ?_ | refine bo ?_)
 (refine wr fun K R hK hR=>?_;simp only [go_sem,hL];(try go_ints);(try simp only [go_sem,hL]);(repeat refine And.intro side ?_);(first|refine hK _ ?_|refine hR _ _ ?_);clear hK hR K R)
 repeat (first | refine nav ?_ | refine bo ?_)
 refine W_for 11 23 [3,5] (fun m t o=>∃ k : Nat,[] = o ∧ t 11 = .i .i64 k ∧ t 3 = .i .i64 (L.take k).flatten.length ∧ m = L.length - k ∧ k ≤ L.length) L.length ⟨0,rfl,by simp only [go_sem]<;>rfl,by simp only [go_sem]<;>rfl,by omega,by omega⟩ ?_
 rintro m t o ⟨k,rfl,h11,h3,rfl,hk⟩
 repeat (first | refine nav ?_ | refine bo ?_)
 (refine wr fun K R hK hR=>?_;simp only [go_sem,h11];(try go_ints);(try simp only [go_sem,h11]);(repeat refine And.intro side ?_);(first|refine hK _ ?_|refine hR _ _ ?_);clear hK hR K R)
 repeat (first | refine nav ?_ | refine bo ?_)
 refine W_cond (by simp only [go_sem]<;>exact rfl) (fun hb=>?_) (fun hb=>?_)
 ·simp at hb
  obtain ⟨x,hx⟩ : ∃ x,L[k]? = some x:=⟨_,List.getElem?_eq_getElem hb⟩
  have hxl : (L.take (k + 1)).flatten.length = (L.take k).flatten.length + x.length:=by rw [flat_take hx,List.length_append]
  have hxm:=flat_take_le L (k + 1)
  repeat (first | refine nav ?_ | refine bo ?_)
  (refine wr fun K R hK hR=>?_;simp only [go_sem,h11,h3,tups_get hx];(try go_ints);(try simp only [go_sem,h11,h3,tups_get hx]);(repeat refine And.intro side ?_);(first|refine hK _ ?_|refine hR _ _ ?_);clear hK hR K R)
  repeat (first | refine nav ?_ | refine bo ?_)
  (refine wr fun K R hK hR=>?_;simp only [go_sem,h3];(try go_ints);(try simp only [go_sem,h3]);(repeat refine And.intro side ?_);(first|refine hK _ ?_|refine hR _ _ ?_);clear hK hR K R)
  repeat (first | refine nav ?_ | refine bo ?_)
  (refine wr fun K R hK hR=>?_;simp only [go_sem];(try go_ints);(repeat refine And.intro side ?_);(first|refine hK _ ?_|refine hR _ _ ?_);clear hK hR K R)
  repeat (first | refine nav ?_ | refine bo ?_)
  refine W_cond (by simp only [go_sem]<;>exact rfl) (fun hb=>?_) (fun hb=>?_)
  ·simp at hb;omega
  repeat (first | refine nav ?_ | refine bo ?_)
  (refine wr fun K R hK hR=>?_;simp only [go_sem,h11];(try go_ints);(try simp only [go_sem,h11]);(repeat refine And.intro side ?_);(first|refine hK _ ?_|refine hR _ _ ?_);clear hK hR K R)
  refine forQ_normal (L.length - (k + 1)) (by omega) ⟨k + 1,?_⟩
  rw [hxl]
  ((try simp only [go_sem]);(repeat' refine And.intro ?_ ?_)<;>(try first | with_reducible rfl | omega | with_reducible assumption | (simp;done)))
 ·simp at hb
  obtain rfl : k = L.length:=by omega
  rw [List.take_length] at h3
  repeat (first | refine nav ?_ | refine bo ?_)
  (refine wr fun K R hK hR=>?_;simp only [go_sem,h3];(try go_ints);(try simp only [go_sem,h3]);(repeat refine And.intro side ?_);(first|refine hK _ ?_|refine hR _ _ ?_);clear hK hR K R)
  refine RL_callF (roomI' _ hn) rfl rfl rfl (by first | (simp only [go_sem]<;>first | exact LeA.refl _ | exact Le.refl _) | exact LeA.refl _) rfl rfl ?_
  (refine rr fun K R hK hR=>?_;simp only [go_sem];(try go_ints);(repeat refine And.intro side ?_);(first|refine hK _ ?_|refine hR _ _ ?_);clear hK hR K R)
  repeat (first | refine nav ?_ | refine bo ?_)
  (refine wr fun K R hK hR=>?_;simp only [go_sem,hL];(try go_ints);(try simp only [go_sem,hL]);(repeat refine And.intro side ?_);(first|refine hK _ ?_|refine hR _ _ ?_);clear hK hR K R)
  repeat (first | refine nav ?_ | refine bo ?_)
  refine W_for 27 35 [6,8] (fun m t o=>∃ (k : Nat),[] = o ∧ t 27 = .i .i64 k ∧ t 6 = .own 1 (ints (L.take k).flatten) ∧ m = L.length - k ∧ k ≤ L.length) L.length ⟨0,rfl,by simp only [go_sem]<;>rfl,by simp only [go_sem]<;>rfl,by omega,by omega⟩ ?_
  rintro m t o ⟨k,rfl,h27,h6,rfl,hk⟩
  repeat (first | refine nav ?_ | refine bo ?_)
  (refine wr fun K R hK hR=>?_;simp only [go_sem,h27];(try go_ints);(try simp only [go_sem,h27]);(repeat refine And.intro side ?_);(first|refine hK _ ?_|refine hR _ _ ?_);clear hK hR K R)
  repeat (first | refine nav ?_ | refine bo ?_)
  refine W_cond (by simp only [go_sem]<;>exact rfl) (fun hb=>?_) (fun hb=>?_)
  ·simp at hb
   obtain ⟨x,hx⟩ : ∃ x,L[k]? = some x:=⟨_,List.getElem?_eq_getElem hb⟩
   have hxl : (L.take (k + 1)).flatten.length = (L.take k).flatten.length + x.length:=by rw [flat_take hx,List.length_append]
   have hxm:=flat_take_le L (k + 1)
   have hi1 : (ints (L.take k).flatten).length = (L.take k).flatten.length:=by unfold ints;rw [List.length_map]
   have hi2 : (ints x).length = x.length:=by unfold ints;rw [List.length_map]
   repeat (first | refine nav ?_ | refine bo ?_)
   (refine wr fun K R hK hR=>?_;simp only [go_sem,h27,h6,tups_get hx];(try go_ints);(try simp only [go_sem,h27,h6,tups_get hx]);(repeat refine And.intro side ?_);(first|refine hK _ ?_|refine hR _ _ ?_);clear hK hR K R)
   repeat (first | refine nav ?_ | refine bo ?_)
   (refine W_reg [31] fun K R hK hR=>?_;simp only [go_sem,h6,hi1,hi2];(try go_ints);(try simp only [go_sem,h6,hi1,hi2]);(repeat refine And.intro side ?_);(first|refine hK _ ?_|refine hR _ _ ?_);clear hK hR K R)
   repeat (first | refine nav ?_ | refine bo ?_)
   (refine wr fun K R hK hR=>?_;simp only [go_sem,h27];(try go_ints);(try simp only [go_sem,h27]);(repeat refine And.intro side ?_);(first|refine hK _ ?_|refine hR _ _ ?_);clear hK hR K R)
   refine forQ_normal (L.length - (k + 1)) (by omega) ⟨k + 1,?_⟩
   rw [flat_take hx]
   ((try simp only [go_sem]);(repeat' refine And.intro ?_ ?_)<;>(try first | with_reducible rfl | omega | with_reducible assumption | (simp;done)))
   simp [ints]
  ·simp at hb
   obtain rfl : k = L.length:=by omega
   rw [List.take_length] at h6
   repeat (first | refine nav ?_ | refine bo ?_)
   (refine wr fun K R hK hR=>?_;simp only [go_sem,h6];(try go_ints);(try simp only [go_sem,h6]);(repeat refine And.intro side ?_);(first|refine hK _ ?_|refine hR _ _ ?_);clear hK hR K R)
   repeat (first | refine nav ?_ | refine bo ?_)
   refine endQ_data (by simp only [go_sem]<;>exact rfl) (Le.of_eq ?_) rfl
   rfl
end Go.AW
namespace Go.AW
open Go Go.Proofs TyTry Go.IntWalk
set_option linter.unusedSimpArgs false
set_option linter.unusedVariables false
set_option maxRecDepth 10000
set_option maxHeartbeats 1000000
def kid3 (ks : List (List (List Int))) : List (List AV):=ks.map fun l=>[.sl 1 (tups l)]
theorem kid3_get {L : List (List (List Int))} {k : Nat} {x : List (List Int)} (h : L[k]? = some x) : (kid3 L).getD k [] = [.sl 1 (tups x)]:=by simp [kid3,h]
theorem kid3_len (L : List (List (List Int))) : (kid3 L).length = L.length:=by simp [kid3]
theorem tups_app (a : List (List Int)) (x : List Int) : tups a ++ [[.sl 1 (ints x)]] = tups (a ++ [x]):=by simp [tups]
def joinF (a b : List (List Int)) : List (List Int):=a.flatMap fun t=>b.map fun u=>t ++ u
theorem joinF_take {a b : List (List Int)} {k : Nat} {t : List Int} (h : a[k]? = some t) : joinF (a.take (k + 1)) b = joinF (a.take k) b ++ b.map fun u=>t ++ u:=by
 unfold joinF
 rw [List.take_add_one,h,List.flatMap_append];simp
abbrev boxQ (q : PlanD) : Ob:=.cells 7 [[AV.i IntKind.i64 q.kind,AV.i IntKind.i64 q.width,AV.i IntKind.i64 q.i,AV.i IntKind.i64 q.j,AV.s q.name,AV.sl 1 (ints q.cols),AV.sl 7 (plans q.kids)]]
theorem join_spec (a b : List (List Int)) (ha : a.length ≤ 1000000) (hbb : b.length ≤ 1000000) (hab : a.length * b.length ≤ 1000000)
  (hal : ∀ t ∈ a,t.length ≤ 1000000) (hbl : ∀ t ∈ b,t.length ≤ 1000000) (q : PlanD) : ACallsD Try.prog 60 [.any,.agg q.cells,.sl 1 (kid3 [a,b])] (.sl 1 (tups (joinF a b))):=by
 have hq:=q.cells_eq
 rw [hq]
 have k0 : (kid3 [a,b]).getD 0 [] = [.sl 1 (tups a)]:=rfl
 have k1 : (kid3 [a,b]).getD 1 [] = [.sl 1 (tups b)]:=rfl
 have kl : (kid3 [a,b]).length = 2:=rfl
 have tl : ∀ l : List (List Int),(tups l).length = l.length:=fun l=>by simp [tups]
 refine ACalls_of' (n:=38) (rs:=[.tmp 6]) (show Try.prog.funcs[60]? = some Try.f60 by kernel_rfl) rfl rfl rfl (by simp) (by decide +kernel) ?_
 repeat (first | refine nav ?_ | refine bo ?_)
 (refine wr fun K R hK hR=>?_;simp only [go_sem];(try go_ints);(repeat refine And.intro side ?_);(first|refine hK _ ?_|refine hR _ _ ?_);clear hK hR K R)
 repeat (first | refine nav ?_ | refine bo ?_)
 (refine wr fun K R hK hR=>?_;simp only [go_sem];(try go_ints);(repeat refine And.intro side ?_);(first|refine hK _ ?_|refine hR _ _ ?_);clear hK hR K R)
 repeat (first | refine nav ?_ | refine bo ?_)
 (refine wr fun K R hK hR=>?_;simp only [go_sem,k0,k1,kl,tl];(try go_ints);(try simp only [go_sem,k0,k1,kl,tl]);(repeat refine And.intro side ?_);(first|refine hK _ ?_|refine hR _ _ ?_);clear hK hR K R)
 repeat (first | refine nav ?_ | refine bo ?_)
 have jl : ∀ k,(joinF (a.take k) b).length = (a.take k).length * b.length:=fun k=>by
  unfold joinF
  rw [List.length_flatMap]
  simp [List.map_const']
 refine W_for 16 38 [7,9,11] (fun m t o=>∃ k : Nat,[boxQ q] = o ∧ t 16 = .i .i64 k ∧ t 7 = .own 1 (tups (joinF (a.take k) b)) ∧ m = a.length - k ∧ k ≤ a.length) a.length ⟨0,rfl,by simp only [go_sem]<;>rfl,by simp only [go_sem]<;>rfl,by omega,by omega⟩ ?_
 rintro m t o ⟨k,rfl,h16,h7,rfl,hk⟩
 repeat (first | refine nav ?_ | refine bo ?_)
 (refine wr fun K R hK hR=>?_;simp only [go_sem,h16];(try go_ints);(try simp only [go_sem,h16]);(repeat refine And.intro side ?_);(first|refine hK _ ?_|refine hR _ _ ?_);clear hK hR K R)
 repeat (first | refine nav ?_ | refine bo ?_)
 refine W_cond (by simp only [go_sem]<;>exact rfl) (fun hb=>?_) (fun hb=>?_)
 ·simp at hb
  obtain ⟨x,hx⟩ : ∃ x,a[k]? = some x:=⟨_,List.getElem?_eq_getElem hb⟩
  have hxm:=List.mem_of_getElem? hx
  have hxl:=hal x hxm
  have hmul : (a.take k).length * b.length + b.length ≤ 1000000:=by
   have h1 : (k + 1) * b.length ≤ a.length * b.length:=Nat.mul_le_mul_right _ hb
   rw [List.length_take,Nat.min_eq_left hk,← Nat.succ_mul]
   exact Nat.le_trans h1 hab
  repeat (first | refine nav ?_ | refine bo ?_)
  (refine wr fun K R hK hR=>?_;simp only [go_sem,h16,tups_get hx,tl];(try go_ints);(try simp only [go_sem,h16,tups_get hx,tl]);(repeat refine And.intro side ?_);(first|refine hK _ ?_|refine hR _ _ ?_);clear hK hR K R)
  repeat (first | refine nav ?_ | refine bo ?_)
  (refine wr fun K R hK hR=>?_;simp only [go_sem,k0,k1,kl,tl];(try go_ints);(try simp only [go_sem,k0,k1,kl,tl]);(repeat refine And.intro side ?_);(first|refine hK _ ?_|refine hR _ _ ?_);clear hK hR K R)
  repeat (first | refine nav ?_ | refine bo ?_)
  refine W_for 24 36 [7,11] (fun m t2 o=>∃ j : Nat,[boxQ q] = o ∧ t2 24 = .i .i64 j ∧ t2 7 = .own 1 (tups (joinF (a.take k) b ++ (b.take j).map fun u=>x ++ u)) ∧ m = b.length - j ∧ j ≤ b.length) b.length ⟨0,rfl,by simp only [go_sem]<;>rfl,by simp only [go_sem,h7,List.take_zero,List.map_nil,List.append_nil],by omega,by omega⟩ ?_
  rintro m t2 o ⟨j,rfl,h24,h72,rfl,hj⟩
  repeat (first | refine nav ?_ | refine bo ?_)
  (refine wr fun K R hK hR=>?_;simp only [go_sem,h24];(try go_ints);(try simp only [go_sem,h24]);(repeat refine And.intro side ?_);(first|refine hK _ ?_|refine hR _ _ ?_);clear hK hR K R)
  repeat (first | refine nav ?_ | refine bo ?_)
  refine W_cond (by simp only [go_sem]<;>exact rfl) (fun hb=>?_) (fun hb=>?_)
  ·simp at hb
   obtain ⟨y,hy⟩ : ∃ y,b[j]? = some y:=⟨_,List.getElem?_eq_getElem hb⟩
   have hyl:=hbl y (List.mem_of_getElem? hy)
   have hc:=concatI [x,y] (by simp) (by simp;omega)
   have hc1 : tups [x,y] = [[.sl 1 (ints x)],[.sl 1 (ints y)]]:=rfl
   have hc2 : [x,y].flatten = x ++ y:=by simp
   rw [hc1,hc2] at hc
   have hmj:=List.length_take_le j b
   obtain ⟨acc,hacc⟩ : ∃ acc,acc = joinF (a.take k) b ++ (b.take j).map fun u=>x ++ u:=⟨_,rfl⟩
   have hln : acc.length ≤ 1000000:=by
    rw [hacc,List.length_append,jl,List.length_map]
    omega
   rw [← hacc] at h72
   repeat (first | refine nav ?_ | refine bo ?_)
   (refine wr fun K R hK hR=>?_;simp only [go_sem,h24,tups_get hy,tl];(try go_ints);(try simp only [go_sem,h24,tups_get hy,tl]);(repeat refine And.intro side ?_);(first|refine hK _ ?_|refine hR _ _ ?_);clear hK hR K R)
   repeat (first | refine nav ?_ | refine bo ?_)
   (refine W_reg [28] fun K R hK hR=>?_;simp only [go_sem,h72];(try go_ints);(try simp only [go_sem,h72]);(repeat refine And.intro side ?_);(first|refine hK _ ?_|refine hR _ _ ?_);clear hK hR K R)
   refine RL_callF (hc) rfl rfl rfl (by first | (simp only [go_sem]<;>first | exact LeA.refl _ | exact Le.refl _) | exact LeA.refl _) rfl rfl ?_
   (refine rr fun K R hK hR=>?_;simp only [go_sem,tl,hln];(try go_ints);(try simp only [go_sem,tl,hln]);(repeat refine And.intro side ?_);(first|refine hK _ ?_|refine hR _ _ ?_);clear hK hR K R)
   repeat (first | refine nav ?_ | refine bo ?_)
   (refine wr fun K R hK hR=>?_;simp only [go_sem,h24];(try go_ints);(try simp only [go_sem,h24]);(repeat refine And.intro side ?_);(first|refine hK _ ?_|refine hR _ _ ?_);clear hK hR K R)
   refine forQ_normal (b.length - (j + 1)) (by omega) ⟨j + 1,?_⟩
   rw [List.take_add_one,hy,List.map_append,← List.append_assoc,← hacc]
   ((try simp only [go_sem,tups_app]);(repeat' refine And.intro ?_ ?_)<;>(try first | with_reducible rfl | omega | with_reducible assumption | (simp;done)))
  ·simp at hb
   obtain rfl : j = b.length:=by omega
   rw [List.take_length,← joinF_take hx] at h72
   repeat (first | refine nav ?_ | refine bo ?_)
   (refine wr fun K R hK hR=>?_;simp only [go_sem,h16,mix_mix];(try go_ints);(try simp only [go_sem,h16,mix_mix]);(repeat refine And.intro side ?_);(first|refine hK _ ?_|refine hR _ _ ?_);clear hK hR K R)
   refine forQ_normal (a.length - (k + 1)) (by omega) ⟨k + 1,?_⟩
   ((try simp only [go_sem,h72]);(repeat' refine And.intro ?_ ?_)<;>(try first | with_reducible rfl | omega | with_reducible assumption | (simp;done)))
 ·simp at hb
  obtain rfl : k = a.length:=by omega
  rw [List.take_length] at h7
  repeat (first | refine nav ?_ | refine bo ?_)
  (refine wr fun K R hK hR=>?_;simp only [go_sem,h7];(try go_ints);(try simp only [go_sem,h7]);(repeat refine And.intro side ?_);(first|refine hK _ ?_|refine hR _ _ ?_);clear hK hR K R)
  repeat (first | refine nav ?_ | refine bo ?_)
  refine endQ_data (by simp only [go_sem]<;>exact rfl) (Le.of_eq ?_) rfl
  rfl
end Go.AW
