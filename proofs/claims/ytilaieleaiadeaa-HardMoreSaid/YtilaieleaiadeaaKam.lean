/-
The library's contracts of slices.Sort, slices.Clone and slices.Compact over this program: laid by the kit's tool, in plain words.
-/
import Derived.Shelf.Sort.Plain
import Derived.Shelf.Slices.Clone
import Derived.Shelf.Slices.CompactI
import Derived.Test.YtilaieleaiadeaaProg
import Derived.Test.YtilaieleaiadeaaKal
import Derived.Test.YtilaieleaiadeaaKaf
import Derived.Test.YtilaieleaiadeaaKag
namespace Go.Proofs
open Go.Shelf
def Try.lays189_ren : Go.Shelf.Ren := ⟨fun | 189 => 80 | 125 => 97 | 257 => 96 | 128 => 112 | 129 => 113 | 294 => 103 | 295 => 104 | 296 => 105 | 297 => 106 | 298 => 107 | 299 => 108 | 216 => 109 | 300 => 110 | 301 => 111 | 328 => 115 | 329 => 116 | 330 => 117 | 331 => 118 | 332 => 119 | 215 => 114 | 343 => 120 | n => n, fun | 28 => 29 | 3 => 3 | 46 => 121 | 0 => 0 | 51 => 130 | 53 => 132 | 4 => 4 | 183 => 124 | 182 => 123 | 131 => 37 | 5 => 5 | 9 => 9 | 218 => 133 | 222 => 137 | 228 => 139 | 229 => 140 | n => n, fun | n => n⟩
theorem Try.lays189 : Go.Proofs.Lays.n189 Try.prog Try.lays189_ren := {
 mixed := by kernel_rfl
 f125 := Try.func97.trans (congrArg some (by kernel_rfl))
 f128 := Try.func112.trans (congrArg some (by kernel_rfl))
 f129 := Try.func113.trans (congrArg some (by kernel_rfl))
 f189 := Try.func80.trans (congrArg some (by kernel_rfl))
 f215 := Try.func114.trans (congrArg some (by kernel_rfl))
 f216 := Try.func109.trans (congrArg some (by kernel_rfl))
 f257 := Try.func96.trans (congrArg some (by kernel_rfl))
 f294 := Try.func103.trans (congrArg some (by kernel_rfl))
 f295 := Try.func104.trans (congrArg some (by kernel_rfl))
 f296 := Try.func105.trans (congrArg some (by kernel_rfl))
 f297 := Try.func106.trans (congrArg some (by kernel_rfl))
 f298 := Try.func107.trans (congrArg some (by kernel_rfl))
 f299 := Try.func108.trans (congrArg some (by kernel_rfl))
 f300 := Try.func110.trans (congrArg some (by kernel_rfl))
 f301 := Try.func111.trans (congrArg some (by kernel_rfl))
 f328 := Try.func115.trans (congrArg some (by kernel_rfl))
 f329 := Try.func116.trans (congrArg some (by kernel_rfl))
 f330 := Try.func117.trans (congrArg some (by kernel_rfl))
 f331 := Try.func118.trans (congrArg some (by kernel_rfl))
 f332 := Try.func119.trans (congrArg some (by kernel_rfl))
 f343 := Try.func120.trans (congrArg some (by kernel_rfl))
 t0 := Try.underlying0
 a0 := Try.isAgg0
 z0 := Try.sizeOf0
 v0 := Try.zeroValue0
 t3 := Try.underlying3
 a3 := Try.isAgg3
 z3 := Try.sizeOf3
 v3 := Try.zeroValue3
 t4 := Try.underlying4
 a4 := Try.isAgg4
 z4 := Try.sizeOf4
 v4 := Try.zeroValue4
 t5 := Try.underlying5
 a5 := Try.isAgg5
 z5 := Try.sizeOf5
 v5 := Try.zeroValue5
 t9 := Try.underlying9
 a9 := Try.isAgg9
 z9 := Try.sizeOf9
 v9 := Try.zeroValue9
 t28 := Try.underlying29
 a28 := Try.isAgg29
 z28 := Try.sizeOf29
 v28 := Try.zeroValue29
 t46 := Try.underlying121
 a46 := Try.isAgg121
 z46 := Try.sizeOf121
 v46 := Try.zeroValue121
 t51 := Try.underlying130
 a51 := Try.isAgg130
 z51 := Try.sizeOf130
 v51 := Try.zeroValue130
 t53 := Try.underlying132
 a53 := Try.isAgg132
 z53 := Try.sizeOf132
 v53 := Try.zeroValue132
 t131 := Try.underlying37
 a131 := Try.isAgg37
 z131 := Try.sizeOf37
 v131 := Try.zeroValue37
 t182 := Try.underlying123
 a182 := Try.isAgg123
 z182 := Try.sizeOf123
 v182 := Try.zeroValue123
 t183 := Try.underlying124
 a183 := Try.isAgg124
 z183 := Try.sizeOf124
 v183 := Try.zeroValue124
 t218 := Try.underlying133
 a218 := Try.isAgg133
 z218 := Try.sizeOf133
 v218 := Try.zeroValue133
 t222 := Try.underlying137
 a222 := Try.isAgg137
 z222 := Try.sizeOf137
 v222 := Try.zeroValue137
 t228 := Try.underlying139
 a228 := Try.isAgg139
 z228 := Try.sizeOf139
 v228 := Try.zeroValue139
 t229 := Try.underlying140
 a229 := Try.isAgg140
 z229 := Try.sizeOf140
 v229 := Try.zeroValue140 }
open Go.Sort Go.RowKit in
theorem Try.slices_Sort_int (blk off cap : Nat) (zs : List Int) (w : World) (hH : Holds (Value.int .i64) w blk off zs.toArray) (hblk : blk < w.heap.size) (hsz : zs.length < 4611686018427387904) :
  Calls Try.prog 80 #[.slice (some ⟨blk, off, none⟩) zs.length cap] w fun e w' =>
   e = .returned (.tuple #[]) ∧ ∃ n os, w' = grow (putRow (Value.int .i64) (Sort.ahead w n) blk off (zs.mergeSort fun x y => decide (x ≤ y)).toArray) os := Any.slices_Sort_int Try.lays189 blk off cap zs w hH hblk hsz
def Try.laysNm215_ren : Go.Shelf.Ren := ⟨fun | 15 => 79 | n => n, fun | 22 => 29 | 3 => 3 | 4 => 4 | n => n, fun | n => n⟩
theorem Try.laysNm215 : Go.Proofs.Lays2.n15 Try.prog Try.laysNm215_ren := {
 mixed := by kernel_rfl
 f15 := Try.func79.trans (congrArg some (by kernel_rfl))
 t3 := Try.underlying3
 a3 := Try.isAgg3
 z3 := Try.sizeOf3
 v3 := Try.zeroValue3
 t4 := Try.underlying4
 a4 := Try.isAgg4
 z4 := Try.sizeOf4
 v4 := Try.zeroValue4
 t22 := Try.underlying29
 a22 := Try.isAgg29
 z22 := Try.sizeOf29
 v22 := Try.zeroValue29
 i3 := by kernel_rfl }
open Go.RowKit Go.Lib in
theorem Try.slices_Clone_int_nil (n c : Nat) (w : World) :
  Calls Try.prog 79 #[.slice none n c] w fun e w' => e = .returned (.slice none 0 0) ∧ w' = w := Any.slices_Clone_int_nil Try.laysNm215 n c w
open Go.RowKit Go.Lib in
theorem Try.slices_Clone_int_zero (a : Addr) (c : Nat) (w : World) :
  Calls Try.prog 79 #[.slice (some a) 0 c] w fun e w' => ∃ v', e = .returned v' ∧ w'.ownsRow w.heap.size 3 1 v' 0 [] ∧ v' ≠ .slice none 0 0 ∧ Below w.heap.size w w' := Any.slices_Clone_int_zero Try.laysNm215 a c w
def Try.laysNm220_ren : Go.Shelf.Ren := ⟨fun | 20 => 81 | n => n, fun | 22 => 29 | 3 => 3 | 4 => 4 | 0 => 0 | n => n, fun | n => n⟩
theorem Try.laysNm220 : Go.Proofs.Lays2.n20 Try.prog Try.laysNm220_ren := {
 mixed := by kernel_rfl
 f20 := Try.func81.trans (congrArg some (by kernel_rfl))
 t0 := Try.underlying0
 a0 := Try.isAgg0
 z0 := Try.sizeOf0
 v0 := Try.zeroValue0
 t3 := Try.underlying3
 a3 := Try.isAgg3
 z3 := Try.sizeOf3
 v3 := Try.zeroValue3
 t4 := Try.underlying4
 a4 := Try.isAgg4
 z4 := Try.sizeOf4
 v4 := Try.zeroValue4
 t22 := Try.underlying29
 a22 := Try.isAgg29
 z22 := Try.sizeOf29
 v22 := Try.zeroValue29
 i3 := by kernel_rfl }
open Go.RowKit Go.Lib Go.Sort in
theorem Try.slices_Compact_int (blk off cap : Nat) (zs : List Int) (w : World) (hH : Holds (Value.int .i64) w blk off zs.toArray) (hsz : zs.length ≤ 9223372036854775807) (hcap : zs.length ≤ cap) :
  Calls Try.prog 81 #[.slice (some ⟨blk, off, none⟩) zs.length cap] w fun e w' => e = .returned (.slice (some ⟨blk, off, none⟩) (Lib.compact zs).length cap) ∧ ∃ q, w' = putRow (Value.int .i64) (Sort.ahead w q) blk off (Lib.compact zs ++ List.replicate (zs.length - (Lib.compact zs).length) 0).toArray := Any.slices_Compact_int Try.laysNm220 blk off cap zs w hH hsz hcap
end Go.Proofs
namespace Go.AW
open Go Go.Proofs TyTry Go.IntWalk
set_option linter.unusedSimpArgs false
set_option linter.unusedVariables false
set_option maxRecDepth 10000
def sortI (l : List Int) : List Int := l.mergeSort fun x y => decide (x ≤ y)
theorem sortI_len (l : List Int) : (sortI l).length = l.length := List.length_mergeSort _
theorem sortI_mem (l : List Int) (x : Int) : x ∈ sortI l ↔ x ∈ l := List.mem_mergeSort
theorem compact_mem (zs : List Int) (x : Int) : x ∈ Lib.compact zs ↔ x ∈ zs := by
 have key : ∀ m ≤ zs.length, (x ∈ Lib.compactUpTo zs.toArray m ↔ x ∈ zs.take m) := by
  intro m
  induction m with
  | zero => intro _; simp [Lib.compactUpTo]
  | succ m ih =>
   intro hm
   have ih := ih (by omega)
   have hlt : m < zs.length := by omega
   have hget : zs.toArray[m]! = zs[m] := by simp [hlt]
   rw [Lib.compactUpTo_succ, List.mem_append, ih, List.take_succ_eq_append_getElem hlt, List.mem_append]
   by_cases hk : Lib.keeps zs.toArray m = true
   ·rw [if_pos hk, hget]
   ·rw [if_neg hk]
    simp only [List.not_mem_nil, or_false, List.mem_singleton]
    refine ⟨.inl, fun h => h.elim id fun h => ?_⟩
    have h0 : 0 < m := by
     rcases Nat.eq_zero_or_pos m with h0 | h0
     ·exact absurd (Lib.keeps_lt_one zs.toArray m (by omega)) hk
     ·exact h0
    have he : zs.toArray[m]! = zs.toArray[m - 1]! := Classical.byContradiction fun hne => hk (Lib.keeps_pos hne)
    rw [hget] at he
    have hget1 : zs.toArray[m - 1]! = zs[m - 1]'(by omega) := by
     have : m - 1 < zs.length := by omega
     simp [this]
    rw [hget1] at he
    subst h
    rw [he]
    exact List.mem_take_iff_getElem.2 ⟨m - 1, by omega, rfl⟩
 have := key zs.length (Nat.le_refl _)
 rw [List.take_length] at this
 exact this
theorem compact_len (zs : List Int) : (Lib.compact zs).length ≤ zs.length := by
 unfold Lib.compact Lib.compactUpTo
 rw [List.length_map]
 exact Nat.le_trans (List.length_filter_le _ _) (by simp)
theorem ACallsD_of {P : Program} {f : FuncId} {a r : AV} (hok : callOk P f = true) (hr : r.isOwn = false) (h : ∀ (w : World) (Y : CS) (v : Value), V w Y [] a v → Calls P f #[v] w fun e w' => ∃ v', e = .returned v' ∧ Grow w w' ∧ ∀ Y', V w' Y' [] r v') : ACallsD P f [a] r := by
 refine ⟨hok, fun w Z m reg vs hlen hrel => ?_⟩
 obtain ⟨v0, rfl⟩ : ∃ v, vs = [v] := by
  match vs, hlen with
  | [v], _ => exact ⟨v, rfl⟩
 have hm0 : m = [] := by have := hrel.len; simpa using this
 subst hm0
 have tv0 : V w (YS Z [] reg []) [] a v0 := hrel.tv 0
 refine Calls.mono (h w _ v0 tv0) ?_
 rintro e' w' ⟨v', rfl, G, hV⟩
 have R3 := (hrel.grow G).put 1 (hV _) (.inl hr)
 obtain ⟨R4, X4⟩ := R3.one 1
 simp only [upd, if_true] at R4
 refine ⟨v', r, [], [], _, rfl, ⟨rfl, rfl⟩, R4, G.evol _, ?_, fun _ _ h => h⟩
 intro b x hb
 have h4 := X4 b x hb
 left
 rcases h4 with h4 | ⟨p, rg, h1, h2⟩
 ·exact .inl h4
 ·refine .inr ⟨p, rg, ?_, h2⟩
  simp only at h1
  by_cases hp : p = .t 1
  ·rw [if_pos hp] at h1; cases h1
  ·rw [if_neg hp] at h1; exact h1
theorem sort_spec {oc : List Ob} {id : Nat} {l : List Int} (ho : oc[id]? = some (.cells 1 (ints l))) (hn : 0 < l.length) (hl : l.length ≤ 1099511627776) :
  ACalls Try.prog 80 [.ref id 0 l.length] oc fun r o' => r = .tup [] ∧ o' = oc.set id (.cells 1 (ints (sortI l))) := by
 refine ACalls_inplace (by decide +kernel) ho hn (sortI_len l) rfl (fun _ _ _ => .tuple #[]) (fun w Y m mb cap _ _ _ _ => by simp [V, Vs]) ?_
 intro w blk off cap hH hb _ _
 exact Try.slices_Sort_int blk off cap l w hH hb (by omega)
theorem compact_spec {oc : List Ob} {id : Nat} {l : List Int} (ho : oc[id]? = some (.cells 1 (ints l))) (hn : 0 < l.length) (hl : l.length ≤ 1099511627776) :
  ACalls Try.prog 81 [.ref id 0 l.length] oc fun r o' => r = .ref id 0 (Lib.compact l).length ∧ o' = oc.set id (.cells 1 (ints (Lib.compact l ++ List.replicate (l.length - (Lib.compact l).length) 0))) := by
 have hcl := compact_len l
 refine ACalls_inplace (by decide +kernel) ho hn (by simp; omega) rfl (fun blk off cap => .slice (some ⟨blk, off, none⟩) (Lib.compact l).length cap) (fun w Y m mb cap hm h1 h2 h3 => ?_) ?_
 ·simp only [V]
  refine ⟨mb, _, cap, hm, rfl, by omega, h3, .inr ⟨by simp, by omega⟩⟩
 intro w blk off cap hH hb hc _
 refine Calls.mono (Try.slices_Compact_int blk off cap l w hH (by omega) hc) ?_
 rintro e w' ⟨rfl, q, rfl⟩
 exact ⟨rfl, q, #[], by simp⟩
theorem clone0_spec : ACallsD Try.prog 79 [.sl 1 []] (.sl 1 []) := by
 refine ACallsD_of (by decide +kernel) rfl fun w Y v hv => ?_
 simp only [V] at hv
 obtain ⟨a, cap, rfl, _, _, _⟩ := hv
 cases a with
 | none =>
  refine Calls.mono (Try.slices_Clone_int_nil 0 cap w) ?_
  rintro e w' ⟨rfl, rfl⟩
  exact ⟨_, rfl, Grow.refl _, fun Y' => by simp only [V]; exact ⟨none, 0, rfl, Nat.le_refl _, Nat.zero_le _, .inl trivial⟩⟩
 | some a =>
  refine Calls.mono (Try.slices_Clone_int_zero a cap w) ?_
  rintro e w' ⟨v', rfl, hown, _, hb⟩
  refine ⟨_, rfl, ⟨hb.os, hb.tape, hb.output, hb.size, hb.block⟩, fun Y' => ?_⟩
  obtain ⟨_, ⟨rfl, _⟩ | ⟨g, cap', cur, rfl, _, _, h3, h4, _⟩⟩ := hown
  ·simp only [V]; exact ⟨none, 0, rfl, Nat.le_refl _, Nat.zero_le _, .inl trivial⟩
  ·simp only [V]; exact ⟨_, cap', rfl, h3, h4, .inl trivial⟩
theorem clone_spec {oc : List Ob} (hoc : okO oc = true) {l : List Int} (hn : 0 < l.length) (hl : l.length ≤ 1048576) :
  ACalls Try.prog 79 [.sl 1 (ints l)] oc fun r o' => r = .ref oc.length 0 l.length ∧ o' = oc ++ [.cells 1 (ints l)] := by
 refine ACalls_of' (n := 8) (rs := [.tmp 2]) (show Try.prog.funcs[79]? = some Try.f79 by kernel_rfl) rfl rfl rfl (by simp) (by decide +kernel) ?_
 repeat (first | refine nav ?_ | refine bo ?_)
 (refine wr fun K R hK hR => ?_; simp (maxSteps := 10000000) only [go_sem]; (try go_ints); (repeat refine And.intro side ?_); (first | refine hK _ ?_ | refine hR _ _ ?_); clear hK hR K R)
 repeat (first | refine nav ?_ | refine bo ?_)
 (refine wr fun K R hK hR => ?_; simp (maxSteps := 10000000) only [go_sem, hn]; (try go_ints); (try simp only [go_sem, hn]); (repeat refine And.intro side ?_); (first | refine hK _ ?_ | refine hR _ _ ?_); clear hK hR K R)
 repeat (first | refine nav ?_ | refine bo ?_)
 refine W_cond (b := false) (by simp only [go_sem]) (fun hb => by cases hb) (fun _ => ?_)
 repeat (first | refine nav ?_ | refine bo ?_)
 (refine W_reg [1000000] fun K R hK hR => ?_; simp (maxSteps := 10000000) only [go_sem, hn]; (try go_ints); (repeat refine And.intro (by first | exact side | (simp [ints] <;> omega)) ?_); (first | refine hK _ ?_ | refine hR _ _ ?_); clear hK hR K R)
 repeat (first | refine nav ?_ | refine bo ?_)
 refine endQ_all (by simp only [go_sem] <;> exact rfl) (Le.refl _) (by simp) (okO_app hoc (by simp [Ob.ltk, ints, AV.ltk])) (by simp [AV.ltk]) ⟨rfl, rfl⟩
end Go.AW
namespace Go.AW
open Go Go.Proofs TyTry Go.IntWalk
set_option linter.unusedSimpArgs false
set_option linter.unusedVariables false
theorem getD_of2 {α : Type} {l : List α} {j : Nat} {z d : α} (h : l[j]? = some z) : l.getD j d = z := by simp [h]
def LitOk (n : Nat) (x : Int) : Prop := x ≠ 0 ∧ x ≤ n ∧ -(n : Int) ≤ x
structure TrOk (n : Nat) (tr : List Int) : Prop where
 nd : tr.Nodup
 lit : ∀ x ∈ tr, LitOk n x
 opp : ∀ x ∈ tr, -x ∉ tr
def innOf (list : List (List Int)) (x : Int) : List Int := (List.range list.length).flatMap fun i => List.replicate ((list.getD i []).count x) (i : Int)
def leftOf (list : List (List Int)) (tr : List Int) (i : Nat) : Nat := ((list.getD i []).filter fun y => !(tr.contains (-y))).length
def goodOf (list : List (List Int)) (tr : List Int) (i : Nat) : Nat := ((list.getD i []).filter fun y => tr.contains y).length
def leftL (list : List (List Int)) (tr : List Int) : List Int := (List.range list.length).map fun i => (leftOf list tr i : Int)
def goodL (list : List (List Int)) (tr : List Int) : List Int := (List.range list.length).map fun i => (goodOf list tr i : Int)
def zeros (l : List Int) : Int := ((l.filter fun x => x == 0).length : Nat)
def valOf (tr : List Int) (v : Nat) : Int := if tr.contains ((v : Int) + 1) then 1 else if tr.contains (-((v : Int) + 1)) then -1 else 0
def valL (n : Nat) (tr : List Int) : List Int := (List.range n).map (valOf tr)
def isL (tr : List Int) (x : Int) : Int := if tr.contains x then 1 else if tr.contains (-x) then -1 else 0
theorem leftL_len (list : List (List Int)) (tr : List Int) : (leftL list tr).length = list.length := by simp [leftL]
theorem goodL_len (list : List (List Int)) (tr : List Int) : (goodL list tr).length = list.length := by simp [goodL]
theorem valL_len (n : Nat) (tr : List Int) : (valL n tr).length = n := by simp [valL]
theorem leftL_get {list : List (List Int)} {tr : List Int} {i : Nat} (h : i < list.length) : (leftL list tr)[i]? = some (leftOf list tr i : Int) := by simp [leftL, h]
theorem goodL_get {list : List (List Int)} {tr : List Int} {i : Nat} (h : i < list.length) : (goodL list tr)[i]? = some (goodOf list tr i : Int) := by simp [goodL, h]
theorem valL_get {n : Nat} {tr : List Int} {v : Nat} (h : v < n) : (valL n tr)[v]? = some (valOf tr v) := by simp [valL, h]
def bump (d : Int) (l : List Int) (is : List Int) : List Int := is.foldl (fun l i => l.modify i.toNat (· + d)) l
theorem bump_len (d : Int) (is : List Int) : ∀ l, (bump d l is).length = l.length := by
 induction is with
 | nil => intro l; rfl
 | cons i is ih => intro l; rw [bump, List.foldl_cons]; exact (ih _).trans (List.length_modify ..)
theorem bump_get (d : Int) : ∀ (is : List Int) (l : List Int) (j : Nat), (∀ i ∈ is, 0 ≤ i) → j < l.length → (bump d l is).getD j 0 = l.getD j 0 + d * (is.count (j : Int) : Nat)
 | [], l, j, _, _ => by simp [bump]
 | i :: is, l, j, h, hj => by
  rw [bump, List.foldl_cons]
  have ih := bump_get d is (l.modify i.toNat (· + d)) j (fun x hx => h x (by simp [hx])) (by rw [List.length_modify]; exact hj)
  rw [bump] at ih
  rw [ih, List.count_cons]
  have h0 := h i (by simp)
  have hm : (l.modify i.toNat (· + d)).getD j 0 = if i.toNat = j then l.getD j 0 + d else l.getD j 0 := by
   rw [List.getD_eq_getElem?_getD, List.getElem?_modify, List.getD_eq_getElem?_getD, List.getElem?_eq_getElem hj]
   by_cases e : i.toNat = j <;> simp [e]
  rw [hm]
  by_cases e : i = (j : Int)
  ·have e2 : i.toNat = j := by omega
   have e3 : (i == (j : Int)) = true := by simpa using e
   rw [if_pos e2, e3]
   simp only [if_true, Int.natCast_add, Int.mul_add]
   omega
  ·have e2 : i.toNat ≠ j := by omega
   have e3 : (i == (j : Int)) = false := by simpa using e
   rw [if_neg e2, e3]
   simp
theorem innOf_count (list : List (List Int)) (x : Int) (j : Nat) (hj : j < list.length) : (innOf list x).count (j : Int) = (list.getD j []).count x := by
 unfold innOf
 have key : ∀ m, j < m → ((List.range m).flatMap fun i => List.replicate ((list.getD i []).count x) (i : Int)).count (j : Int) = (list.getD j []).count x := by
  intro m
  induction m with
  | zero => intro h; omega
  | succ m ih =>
   intro h
   rw [List.range_succ, List.flatMap_append, List.count_append, List.flatMap_cons, List.flatMap_nil, List.append_nil, List.count_replicate]
   by_cases e : j = m
   ·subst e
    have hz : ((List.range j).flatMap fun i => List.replicate ((list.getD i []).count x) (i : Int)).count (j : Int) = 0 := by
     rw [List.count_eq_zero]
     intro hm
     rw [List.mem_flatMap] at hm
     obtain ⟨i, hi, hr⟩ := hm
     have h1 := List.mem_range.1 hi
     have h2 := List.eq_of_mem_replicate hr
     omega
    rw [hz]; simp
   ·rw [ih (by omega), if_neg (by simp; omega)]; rfl
 exact key _ hj
theorem innOf_mem {list : List (List Int)} {x i : Int} (h : i ∈ innOf list x) : ∃ j : Nat, i = j ∧ j < list.length ∧ x ∈ list.getD j [] := by
 unfold innOf at h
 rw [List.mem_flatMap] at h
 obtain ⟨j, hj, hr⟩ := h
 rw [List.mem_replicate] at hr
 exact ⟨j, hr.2, List.mem_range.1 hj, List.count_pos_iff.1 (Nat.pos_of_ne_zero hr.1)⟩
theorem filter_app_count (p : Int → Bool) (x : Int) : ∀ l : List Int, p x = false → (l.filter fun y => p y || y == x).length = (l.filter p).length + l.count x
 | [], _ => rfl
 | y :: l, h => by
  rw [List.filter_cons, List.filter_cons, List.count_cons]
  have ih := filter_app_count p x l h
  by_cases e : y = x
  ·subst e
   rw [h]
   simp only [Bool.false_or, beq_self_eq_true, if_true, List.length_cons, Bool.false_eq_true, if_false, ih]
   omega
  ·have e' : (y == x) = false := by simpa using e
   rw [e', Bool.or_false]
   cases p y <;> simp [ih] <;> omega
theorem good_put {n : Nat} {list : List (List Int)} {tr : List Int} {x : Int} (hx : x ∉ tr) (j : Nat) : goodOf list (tr ++ [x]) j = goodOf list tr j + (list.getD j []).count x := by
 unfold goodOf
 rw [← filter_app_count _ _ _ (by simpa using hx)]
 congr 1
 refine List.filter_congr fun y _ => ?_
 by_cases e : y = x <;> simp [List.contains_eq_mem, e]
theorem left_put {list : List (List Int)} {tr : List Int} {x : Int} (hx : x ∉ tr) (j : Nat) : leftOf list (tr ++ [x]) j + (list.getD j []).count (-x) = leftOf list tr j := by
 unfold leftOf
 have h := filter_app_count (fun y => !((tr ++ [x]).contains (-y))) (-x) (list.getD j []) (by simp)
 rw [← h]
 congr 1
 refine List.filter_congr fun y _ => ?_
 have e : (y == -x) = (-y == x) := by
  rw [Bool.eq_iff_iff]; simp only [beq_iff_eq]; omega
 rw [e]
 simp only [List.contains_eq_mem, List.mem_append, List.mem_singleton]
 by_cases h1 : -y = x
 ·subst h1
  simp [hx]
 ·simp [h1]
theorem goodL_put {list : List (List Int)} {tr : List Int} {x : Int} (hx : x ∉ tr) : bump 1 (goodL list tr) (innOf list x) = goodL list (tr ++ [x]) := by
 apply List.ext_getElem?
 intro j
 by_cases hj : j < list.length
 ·have h := bump_get 1 (innOf list x) (goodL list tr) j (fun i hi => by obtain ⟨k, rfl, _⟩ := innOf_mem hi; omega) (by rw [goodL_len]; exact hj)
  rw [innOf_count list x j hj, List.getD_eq_getElem?_getD, List.getD_eq_getElem?_getD, goodL_get hj] at h
  have hl : j < (bump 1 (goodL list tr) (innOf list x)).length := by rw [bump_len, goodL_len]; exact hj
  rw [goodL_get hj, good_put (n := 0) hx]
  rw [List.getElem?_eq_getElem hl] at h ⊢
  simp only [Option.getD_some] at h
  rw [h]; simp
 ·rw [List.getElem?_eq_none (by rw [bump_len, goodL_len]; omega), List.getElem?_eq_none (by rw [goodL_len]; omega)]
theorem leftL_put {list : List (List Int)} {tr : List Int} {x : Int} (hx : x ∉ tr) : bump (-1) (leftL list tr) (innOf list (-x)) = leftL list (tr ++ [x]) := by
 apply List.ext_getElem?
 intro j
 by_cases hj : j < list.length
 ·have h := bump_get (-1) (innOf list (-x)) (leftL list tr) j (fun i hi => by obtain ⟨k, rfl, _⟩ := innOf_mem hi; omega) (by rw [leftL_len]; exact hj)
  rw [innOf_count list (-x) j hj, List.getD_eq_getElem?_getD, List.getD_eq_getElem?_getD, leftL_get hj] at h
  have hl : j < (bump (-1) (leftL list tr) (innOf list (-x))).length := by rw [bump_len, leftL_len]; exact hj
  rw [leftL_get hj]
  rw [List.getElem?_eq_getElem hl] at h ⊢
  simp only [Option.getD_some] at h
  have := left_put (list := list) hx j
  rw [h]; congr 1; omega
 ·rw [List.getElem?_eq_none (by rw [bump_len, leftL_len]; omega), List.getElem?_eq_none (by rw [leftL_len]; omega)]
theorem bump_app (d : Int) (l a b : List Int) : bump d l (a ++ b) = bump d (bump d l a) b := by simp [bump]
theorem bump_bump (d e : Int) (is : List Int) (l : List Int) (h : ∀ i ∈ is, 0 ≤ i) (hde : d + e = 0) : bump e (bump d l is) is = l := by
 apply List.ext_getElem?
 intro j
 by_cases hj : j < l.length
 ·have h1 := bump_get d is l j h hj
  have h2 := bump_get e is (bump d l is) j h (by rw [bump_len]; exact hj)
  have hl : j < (bump e (bump d l is) is).length := by rw [bump_len, bump_len]; exact hj
  rw [h1] at h2
  rw [List.getElem?_eq_getElem hl, List.getElem?_eq_getElem hj]
  rw [List.getD_eq_getElem?_getD, List.getElem?_eq_getElem hl, List.getD_eq_getElem?_getD, List.getElem?_eq_getElem hj] at h2
  simp only [Option.getD_some] at h2
  rw [h2, Int.add_assoc, ← Int.add_mul, hde]; simp
 ·rw [List.getElem?_eq_none (by rw [bump_len, bump_len]; omega), List.getElem?_eq_none (by omega)]
theorem zeros_cons (x : Int) (l : List Int) : zeros (x :: l) = zeros l + (if x = 0 then 1 else 0) := by
 unfold zeros
 rw [List.filter_cons]
 by_cases h : x = 0 <;> simp [h]
theorem zeros_modify : ∀ (l : List Int) (i : Nat) (v d : Int), l[i]? = some v → zeros (l.modify i (· + d)) = zeros l - (if v = 0 then 1 else 0) + (if v + d = 0 then 1 else 0)
 | [], i, v, d, h => by simp at h
 | x :: l, 0, v, d, h => by
  simp only [List.getElem?_cons_zero, Option.some.injEq] at h
  subst h
  rw [List.modify_zero_cons, zeros_cons, zeros_cons]
  omega
 | x :: l, i + 1, v, d, h => by
  have ih := zeros_modify l i v d (by simpa using h)
  rw [List.modify_succ_cons, zeros_cons, zeros_cons, ih]
  omega
theorem val_put {n : Nat} {tr : List Int} {x : Int} (hx : x ∉ tr) (hnx : -x ∉ tr) (hl : LitOk n x) : valL n (tr ++ [x]) = (valL n tr).set ((if x > 0 then x else -x) - 1).toNat (if x > 0 then 1 else -1) := by
 obtain ⟨h0, h1, h2⟩ := hl
 apply List.ext_getElem?
 intro j
 by_cases hj : j < n
 ·rw [List.getElem?_set, valL_get hj, valL_get hj]
  by_cases hp : x > 0
  ·rw [if_pos hp, if_pos hp]
   by_cases e : (x - 1).toNat = j
   ·rw [if_pos e, if_pos (by rw [valL_len]; omega)]
    have : (j : Int) + 1 = x := by omega
    simp [valOf, this]
   ·rw [if_neg e]
    have e1 : ¬ ((j : Int) + 1 = x) := by omega
    have e2 : ¬ (-((j : Int) + 1) = x) := by omega
    simp only [valOf, List.contains_eq_mem, List.mem_append, List.mem_singleton, e1, e2, or_false]
  ·rw [if_neg hp, if_neg hp]
   by_cases e : (-x - 1).toNat = j
   ·rw [if_pos e, if_pos (by rw [valL_len]; omega)]
    have e1 : -((j : Int) + 1) = x := by omega
    have e2 : ¬ ((j : Int) + 1 = x) := by omega
    have e3 : (j : Int) + 1 = -x := by omega
    have e4 : (j : Int) + 1 ∉ tr := by rw [e3]; exact hnx
    simp only [valOf, List.contains_eq_mem, List.mem_append, List.mem_singleton, e1, e2, e4, or_false]
    simp
   ·rw [if_neg e]
    have e1 : ¬ ((j : Int) + 1 = x) := by omega
    have e2 : ¬ (-((j : Int) + 1) = x) := by omega
    simp only [valOf, List.contains_eq_mem, List.mem_append, List.mem_singleton, e1, e2, or_false]
 ·rw [List.getElem?_eq_none (by rw [valL_len]; omega), List.getElem?_eq_none (by rw [List.length_set, valL_len]; omega)]
theorem val_undo {n : Nat} {tr : List Int} {x : Int} (hx : x ∉ tr) (hnx : -x ∉ tr) (hl : LitOk n x) : (valL n (tr ++ [x])).set ((if x > 0 then x else -x) - 1).toNat 0 = valL n tr := by
 rw [val_put hx hnx hl, List.set_set]
 obtain ⟨h0, h1, h2⟩ := hl
 have hz : ∀ k : Nat, k = ((if x > 0 then x else -x) - 1).toNat → valOf tr k = 0 := by
  rintro k rfl
  by_cases hp : x > 0
  ·rw [if_pos hp]
   have e1 : (((x - 1).toNat : Nat) : Int) + 1 = x := by omega
   rw [valOf, e1]; simp [hx, hnx]
  ·rw [if_neg hp]
   have e1 : (((-x - 1).toNat : Nat) : Int) + 1 = -x := by omega
   rw [valOf, e1]; simp [hx, hnx]
 generalize ((if x > 0 then x else -x) - 1).toNat = k at hz
 apply List.ext_getElem?
 intro j
 by_cases hj : j < n
 ·rw [List.getElem?_set, valL_get hj]
  by_cases e : k = j
  ·rw [if_pos e, if_pos (by rw [valL_len]; omega), hz j e.symm]
  ·rw [if_neg e]
 ·rw [List.getElem?_eq_none (by rw [List.length_set, valL_len]; omega), List.getElem?_eq_none (by rw [valL_len]; omega)]
theorem isL_val {tr : List Int} {v : Nat} : isL tr ((v : Int) + 1) = valOf tr v := rfl
theorem isL_neg {n : Nat} {tr : List Int} (h : TrOk n tr) {v : Nat} : isL tr (-((v : Int) + 1)) = -valOf tr v := by
 unfold isL valOf
 have e : -(-((v : Int) + 1)) = (v : Int) + 1 := by omega
 rw [e]
 by_cases h1 : (v : Int) + 1 ∈ tr
 ·have h2 := h.opp _ h1
  simp [h1, h2]
 ·by_cases h2 : -((v : Int) + 1) ∈ tr
  ·simp [h1, h2]
  ·simp [h1, h2]
end Go.AW
namespace Go.AW
open Go Go.Proofs TyTry Go.IntWalk
set_option linter.unusedSimpArgs false
set_option linter.unusedVariables false
set_option maxRecDepth 10000
structure IdS where
 M : Nat
 L : Nat
 G : Nat
 V : Nat
structure SV where
 left : List Int
 good : List Int
 opn : Int
 val : List Int
 tr : List Int
 br : Int
 md : AV
 cnt : Int
 exh : Bool
structure Env where
 vars : Nat
 list : List (List Int)
 first : Bool
 es : List (AV × AV)
 lav : AV
def rowK (c : Env) (d : IdS) (ta : AV) (s : SV) : List AV := [.i .i64 c.vars, c.lav, .mp d.M, .ref d.L 0 c.list.length, .ref d.G 0 c.list.length, .i .i64 s.opn, .ref d.V 0 c.vars, ta, .i .i64 s.br, .b c.first, s.md, .i .i64 s.cnt, .b s.exh]
structure EnvOk (c : Env) : Prop where
 vars : c.vars ≤ 20000
 list : c.list.length ≤ 20000
 lit : ∀ l ∈ c.list, ∀ x ∈ l, LitOk c.vars x
 sum : ∀ x, (innOf c.list x).length ≤ 200000
 len : ∀ l ∈ c.list, l.length ≤ 200000
 lav : c.lav = .own 1 (tups c.list) ∨ c.lav = .nsl ∧ c.list = []
def ivOf (es : List (AV × AV)) (x : Int) : AV := match mfind (.i .i64 x) es with | some (some v) => v | _ => .nsl
def InAt (o : List Ob) (d : IdS) (c : Env) (ta : AV) (x : Int) : Prop := (mfind (.i .i64 x) c.es = some none ∧ innOf c.list x = []) ∨
 ∃ I, mfind (.i .i64 x) c.es = some (some (.ref I 0 (innOf c.list x).length)) ∧ o[I]? = some (.cells 1 (ints (innOf c.list x))) ∧ I ≠ d.L ∧ I ≠ d.G ∧ I ≠ d.V ∧ ∀ T l, ta = .ref T 0 l → I ≠ T
structure RepG (o : List Ob) (K : Nat) (d : IdS) (c : Env) (ta : AV) (s : SV) : Prop where
 ok : okO o = true
 k : o[K]? = some (.cells 13 [rowK c d ta s])
 m : o[d.M]? = some (.mapo c.es)
 l : o[d.L]? = some (.cells 1 (ints s.left))
 g : o[d.G]? = some (.cells 1 (ints s.good))
 v : o[d.V]? = some (.cells 1 (ints s.val))
 lg : d.L ≠ d.G ∨ c.list = []
 lv : d.L ≠ d.V
 gv : d.G ≠ d.V
 ll : s.left.length = c.list.length
 gl : s.good.length = c.list.length
 vl : s.val.length = c.vars
 t : (ta = .nsl ∧ s.tr = []) ∨ ∃ T ex, ta = .ref T 0 s.tr.length ∧ o[T]? = some (.cells 1 (ints (s.tr ++ ex))) ∧ T ≠ d.L ∧ T ≠ d.G ∧ T ≠ d.V
 inn : ∀ x : Int, InAt o d c ta x
 md : s.md.ltk o.length = true ∧ s.md.plain = true ∧ s.md.isOwn = false
section
variable {o : List Ob} {K : Nat} {d : IdS} {c : Env} {ta : AV} {s : SV}
theorem RepG.ne (h : RepG o K d c ta s) {j : Nat} {l : List (List AV)} (hj : o[j]? = some (.cells 1 l)) : j ≠ K ∧ j ≠ d.M := by
 refine ⟨fun e => ?_, fun e => ?_⟩
 ·subst e; rw [h.k] at hj; simp at hj
 ·subst e; rw [h.m] at hj; simp at hj
theorem RepG.km (h : RepG o K d c ta s) : K ≠ d.M := by
 intro e; have := h.m; rw [← e, h.k] at this; simp at this
theorem lg_other {o : List Ob} {X Y : Nat} {L : List (List Int)} {a b : List Int} (h : X ≠ Y ∨ L = []) (ha : a.length = L.length) (hb : b.length = L.length) (e : o[X]? = some (.cells 1 (ints a))) : (if X = Y then some (.cells 1 (ints b)) else o[X]?) = some (.cells 1 (ints a)) := by
 split
 ·rename_i e2
  rcases h with q | q
  ·exact absurd e2 q
  ·rw [q] at ha hb
   rw [List.eq_nil_of_length_eq_zero ha, List.eq_nil_of_length_eq_zero hb]
 ·exact e
theorem RepG.setX (h : RepG o K d c ta s) (hc : c.lav.ltk 0 = true) {J : Nat} {r r' : List Int} (hJ : o[J]? = some (.cells 1 (ints r))) {s' : SV} (hk : rowK c d ta s' = rowK c d ta s)
  (hl : o[d.L]? = some (.cells 1 (ints s.left)) → (o.set J (.cells 1 (ints r')))[d.L]? = some (.cells 1 (ints s'.left)))
  (hg : (o.set J (.cells 1 (ints r')))[d.G]? = some (.cells 1 (ints s'.good))) (hv : (o.set J (.cells 1 (ints r')))[d.V]? = some (.cells 1 (ints s'.val)))
  (hll : s'.left.length = c.list.length) (hgl : s'.good.length = c.list.length) (hvl : s'.val.length = c.vars) (htr : s'.tr = s.tr) (hmd : s'.md = s.md) (hJ3 : J = d.L ∨ J = d.G ∨ J = d.V) : RepG (o.set J (.cells 1 (ints r'))) K d c ta s' := by
 have hs : ∀ (X : Ob) (j : Nat), (o.set J X)[j]? = if j = J then some X else o[j]? := fun X j => set_get hJ
 obtain ⟨n1, n2⟩ := h.ne hJ
 refine ⟨okO_set h.ok (ints_ltk _ _), by rw [hs, if_neg (Ne.symm n1), hk]; exact h.k, by rw [hs, if_neg (Ne.symm n2)]; exact h.m, hl h.l, hg, hv, h.lg, h.lv, h.gv, hll, hgl, hvl, ?_, fun x => ?_, ?_⟩
 ·rcases h.t with ⟨a, b⟩ | ⟨T, ex, a, b, t1, t2, t3⟩
  ·exact .inl ⟨a, by rw [htr]; exact b⟩
  ·refine .inr ⟨T, ex, by rw [htr]; exact a, ?_, t1, t2, t3⟩
   rw [hs, if_neg (by rcases hJ3 with e | e | e <;> rw [e] <;> assumption), htr]; exact b
 ·refine (h.inn x).imp id fun ⟨I, q1, q2, q3, q4, q5, q6⟩ => ⟨I, q1, ?_, q3, q4, q5, q6⟩
  rw [hs, if_neg (by rcases hJ3 with e | e | e <;> rw [e] <;> assumption)]; exact q2
 ·rw [hmd, List.length_set]; exact h.md
theorem RepG.setG (h : RepG o K d c ta s) (hc : c.lav.ltk 0 = true) {g' : List Int} (hl : g'.length = s.good.length) : RepG (o.set d.G (.cells 1 (ints g'))) K d c ta { s with good := g' } := by
 have hs : ∀ (X : Ob) (j : Nat), (o.set d.G X)[j]? = if j = d.G then some X else o[j]? := fun X j => set_get h.g
 exact h.setX hc h.g rfl (fun e => by rw [hs]; exact lg_other h.lg h.ll (hl.trans h.gl) e) (by rw [hs, if_pos rfl]) (by rw [hs, if_neg (Ne.symm h.gv)]; exact h.v) h.ll (by rw [← h.gl]; exact hl) h.vl rfl rfl (.inr (.inl rfl))
theorem RepG.setL (h : RepG o K d c ta s) (hc : c.lav.ltk 0 = true) {g' : List Int} (hl : g'.length = s.left.length) : RepG (o.set d.L (.cells 1 (ints g'))) K d c ta { s with left := g' } := by
 have hs : ∀ (X : Ob) (j : Nat), (o.set d.L X)[j]? = if j = d.L then some X else o[j]? := fun X j => set_get h.l
 exact h.setX hc h.l rfl (fun e => by rw [hs, if_pos rfl]) (by rw [hs]; exact lg_other (h.lg.imp Ne.symm id) h.gl (hl.trans h.ll) h.g) (by rw [hs, if_neg (Ne.symm h.lv)]; exact h.v) (by rw [← h.ll]; exact hl) h.gl h.vl rfl rfl (.inl rfl)
theorem RepG.setV (h : RepG o K d c ta s) (hc : c.lav.ltk 0 = true) {g' : List Int} (hl : g'.length = s.val.length) : RepG (o.set d.V (.cells 1 (ints g'))) K d c ta { s with val := g' } := by
 have hs : ∀ (X : Ob) (j : Nat), (o.set d.V X)[j]? = if j = d.V then some X else o[j]? := fun X j => set_get h.v
 exact h.setX hc h.v rfl (fun e => by rw [hs, if_neg h.lv]; exact e) (by rw [hs, if_neg h.gv]; exact h.g) (by rw [hs, if_pos rfl]) h.ll h.gl (by rw [← h.vl]; exact hl) rfl rfl (.inr (.inr rfl))
theorem RepG.setK (h : RepG o K d c ta s) (hc : c.lav.ltk 0 = true) (hta : ta.ltk o.length = true) {s' : SV} (h1 : s'.left = s.left) (h2 : s'.good = s.good) (h3 : s'.val = s.val) (h4 : s'.tr = s.tr) (hmd : s'.md.ltk o.length = true ∧ s'.md.plain = true ∧ s'.md.isOwn = false) :
  RepG (o.set K (.cells 13 [rowK c d ta s'])) K d c ta s' := by
 have hs : ∀ (X : Ob) (j : Nat), (o.set K X)[j]? = if j = K then some X else o[j]? := fun X j => set_get h.k
 have lM := (List.getElem?_eq_some_iff.1 h.m).1
 have lL := (List.getElem?_eq_some_iff.1 h.l).1
 have lG := (List.getElem?_eq_some_iff.1 h.g).1
 have lV := (List.getElem?_eq_some_iff.1 h.v).1
 have e1 : ∀ {j : Nat} {l : List (List AV)}, o[j]? = some (.cells 1 l) → (o.set K (.cells 13 [rowK c d ta s']))[j]? = some (.cells 1 l) := fun {j l} hj => by
  rw [hs, if_neg (h.ne hj).1]; exact hj
 refine ⟨okO_set h.ok ?_, by rw [hs, if_pos rfl], by rw [hs, if_neg (Ne.symm h.km)]; exact h.m, by rw [h1]; exact e1 h.l, by rw [h2]; exact e1 h.g, by rw [h3]; exact e1 h.v, h.lg, h.lv, h.gv, by rw [h1]; exact h.ll, by rw [h2]; exact h.gl, by rw [h3]; exact h.vl, ?_, fun x => ?_, ?_⟩
 ·have := ltk_mono (Nat.zero_le o.length) _ hc
  simp [Ob.ltk, rowK, AV.ltk, this, hta, hmd.1, lM, lL, lG, lV]
 ·rw [h4]
  rcases h.t with ⟨a, b⟩ | ⟨T, ex, a, b, t1⟩
  ·exact .inl ⟨a, b⟩
  ·exact .inr ⟨T, ex, a, e1 b, t1⟩
 ·exact (h.inn x).imp id fun ⟨I, r1, r2, r3⟩ => ⟨I, r1, e1 r2, r3⟩
 ·rw [List.length_set]; exact hmd
theorem RepG.taOk (h : RepG o K d c ta s) : ta.ltk o.length = true := by
 rcases h.t with ⟨rfl, _⟩ | ⟨T, ex, rfl, b, _⟩
 ·rfl
 ·have := (List.getElem?_eq_some_iff.1 b).1
  simp [AV.ltk, this]
end
theorem is_spec {o : List Ob} {K : Nat} {d : IdS} {c : Env} {ta : AV} {s : SV} (h : RepG o K d c ta s) (hc : EnvOk c) {tr : List Int} (htr : TrOk c.vars tr) (hs : s.val = valL c.vars tr) {x : Int} (hx : LitOk c.vars x) :
  ACallsQ Try.prog 98 [.ptr K 0 0, .i .i64 x] o (.i .i64 (isL tr x)) := by
 have hok := h.ok
 obtain ⟨x0, x1, x2⟩ := hx
 have hcv := hc.vars
 refine ACalls_of' (n := 25) (rs := [.tmp 4]) (show Try.prog.funcs[98]? = some Try.f98 by kernel_rfl) rfl rfl rfl (by simp) (by decide +kernel) ?_
 repeat (first | refine nav ?_ | refine bo ?_)
 (refine wr fun K R hK hR => ?_; simp (maxSteps := 10000000) only [go_sem]; (try go_ints); (repeat refine And.intro side ?_); (first | refine hK _ ?_ | refine hR _ _ ?_); clear hK hR K R)
 repeat (first | refine nav ?_ | refine bo ?_)
 (refine wr fun K R hK hR => ?_; simp (maxSteps := 10000000) only [go_sem]; (try go_ints); (repeat refine And.intro side ?_); (first | refine hK _ ?_ | refine hR _ _ ?_); clear hK hR K R)
 repeat (first | refine nav ?_ | refine bo ?_)
 refine W_cond (by simp only [go_sem] <;> exact rfl) (fun hb => ?_) (fun hb => ?_)
 ·have hb : x > 0 := by simpa using hb
  obtain ⟨v, rfl⟩ : ∃ v : Nat, x = (v : Int) + 1 := ⟨(x - 1).toNat, by omega⟩
  have hv := valL_get (n := c.vars) (tr := tr) (v := v) (by omega)
  rw [← hs] at hv
  have e1 : ((v : Int) + 1 - 1).toNat = v := by omega
  repeat (first | refine nav ?_ | refine bo ?_)
  (refine wr fun K R hK hR => ?_; simp (maxSteps := 10000000) only [go_sem, h.k, h.v, rowK, Nat.add_sub_cancel, ints_get hv, h.vl]; (try go_ints); (try simp only [go_sem, h.k, h.v, rowK, Nat.add_sub_cancel, ints_get hv, h.vl]); (repeat refine And.intro side ?_); (first | refine hK _ ?_ | refine hR _ _ ?_); clear hK hR K R)
  repeat (first | refine nav ?_ | refine bo ?_)
  refine endQ_quiet0 (by simp only [go_sem] <;> exact rfl) (Le.of_eq ?_) (by assumption) rfl
  rw [isL_val]
 ·have hb : ¬ x > 0 := by simpa using hb
  obtain ⟨v, rfl⟩ : ∃ v : Nat, x = -((v : Int) + 1) := ⟨(-x - 1).toNat, by omega⟩
  have hv := valL_get (n := c.vars) (tr := tr) (v := v) (by omega)
  rw [← hs] at hv
  have hb2 : -1 ≤ valOf tr v ∧ valOf tr v ≤ 1 := by unfold valOf; split <;> (try split) <;> omega
  repeat (first | refine nav ?_ | refine bo ?_)
  have e2 : (0 - -((v : Int) + 1) - 1).toNat = v := by omega
  (refine wr fun K R hK hR => ?_; simp (maxSteps := 10000000) only [go_sem, h.k, h.v, rowK, e2, ints_get hv, h.vl]; (try go_ints); (try simp only [go_sem, h.k, h.v, rowK, e2, ints_get hv, h.vl]); (repeat refine And.intro side ?_); (first | refine hK _ ?_ | refine hR _ _ ?_); clear hK hR K R)
  repeat (first | refine nav ?_ | refine bo ?_)
  refine endQ_quiet0 (by simp only [go_sem] <;> exact rfl) (Le.of_eq ?_) (by assumption) rfl
  rw [isL_neg htr]
  have h3 : valOf tr v = -1 ∨ valOf tr v = 0 ∨ valOf tr v = 1 := by omega
  rcases h3 with h3 | h3 | h3 <;> rw [h3] <;> rfl
end Go.AW
namespace Go.AW
open Go Go.Proofs TyTry Go.IntWalk
set_option linter.unusedSimpArgs false
set_option linter.unusedVariables false
set_option maxRecDepth 10000
set_option maxHeartbeats 1000000
def canon (c : Env) (tr : List Int) (br : Int) (md : AV) (cnt : Int) (exh : Bool) : SV := ⟨leftL c.list tr, goodL c.list tr, zeros (goodL c.list tr), valL c.vars tr, tr, br, md, cnt, exh⟩
def Fr (o o' : List Ob) (K : Nat) (d : IdS) (ta : AV) : Prop := o.length ≤ o'.length ∧ ∀ j < o.length, j ≠ K → j ≠ d.L → j ≠ d.G → j ≠ d.V → (∀ l, ta ≠ .ref j 0 l) → o'[j]? = o[j]?
theorem Fr.refl (o : List Ob) (K : Nat) (d : IdS) (ta : AV) : Fr o o K d ta := ⟨Nat.le_refl _, fun _ _ _ _ _ _ _ => rfl⟩
theorem Fr.set {o o' : List Ob} {K : Nat} {d : IdS} {ta : AV} (h : Fr o o' K d ta) {J : Nat} {X : Ob} (hJ : J = K ∨ J = d.L ∨ J = d.G ∨ J = d.V) : Fr o (o'.set J X) K d ta := by
 refine ⟨by rw [List.length_set]; exact h.1, fun j hj n1 n2 n3 n4 n5 => ?_⟩
 rw [List.getElem?_set_ne (by rintro rfl; rcases hJ with e | e | e | e <;> contradiction)]
 exact h.2 j hj n1 n2 n3 n4 n5
theorem Fr.push {o o' : List Ob} {K : Nat} {d : IdS} {ta : AV} (h : Fr o o' K d ta) (X : List Ob) : Fr o (o' ++ X) K d ta :=
 ⟨by rw [List.length_append]; have := h.1; omega, fun j hj n1 n2 n3 n4 n5 => by rw [List.getElem?_append_left (by have := h.1; omega)]; exact h.2 j hj n1 n2 n3 n4 n5⟩
theorem Fr.kill {o o' : List Ob} {K : Nat} {d : IdS} {T l : Nat} (h : Fr o o' K d (.ref T 0 l)) {X : Ob} : Fr o (o'.set T X) K d (.ref T 0 l) := by
 refine ⟨by rw [List.length_set]; exact h.1, fun j hj n1 n2 n3 n4 n5 => ?_⟩
 rw [List.getElem?_set_ne (by rintro rfl; exact n5 l rfl)]
 exact h.2 j hj n1 n2 n3 n4 n5
theorem lav_ltk {c : Env} (hc : EnvOk c) : c.lav.ltk 0 = true := by
 rcases hc.lav with h | ⟨h, _⟩ <;> rw [h] <;> rfl
theorem zeros_bd (l : List Int) : 0 ≤ zeros l ∧ zeros l ≤ l.length := by
 unfold zeros
 have := List.length_filter_le (fun x : Int => x == 0) l
 omega
theorem good_bd {c : Env} (hc : EnvOk c) (tr : List Int) (j : Nat) : goodOf c.list tr j ≤ 200000 ∧ leftOf c.list tr j ≤ 200000 := by
 have h1 : (c.list.getD j []).length ≤ 200000 := by
  rw [List.getD_eq_getElem?_getD]
  cases h : c.list[j]? with
  | none => simp
  | some l => exact hc.len l (List.mem_of_getElem? h)
 exact ⟨Nat.le_trans (List.length_filter_le _ _) h1, Nat.le_trans (List.length_filter_le _ _) h1⟩
theorem bump_bd {c : Env} (hc : EnvOk c) (tr : List Int) (x d : Int) (hd : d = 1 ∨ d = -1) (k j : Nat) {v : Int} (l : List Int) (hl : l = goodL c.list tr ∨ l = leftL c.list tr) (h : (bump d l ((innOf c.list x).take k))[j]? = some v) :
  (∃ u : Nat, v = u + d * (((innOf c.list x).take k).count (j : Int) : Nat) ∧ u ≤ 200000) ∧ -200000 ≤ v ∧ v ≤ 400000 := by
 have hlt := (List.getElem?_eq_some_iff.1 h).1
 rw [bump_len] at hlt
 have hg := bump_get d ((innOf c.list x).take k) l j (fun i hi => by obtain ⟨q, rfl, _⟩ := innOf_mem (List.mem_of_mem_take hi); omega) hlt
 have hcnt : ((innOf c.list x).take k).count (j : Int) ≤ 200000 := Nat.le_trans List.count_le_length (Nat.le_trans (by simp; omega) (hc.sum x))
 rw [List.getD_eq_getElem?_getD, h, Option.getD_some] at hg
 obtain ⟨b1, b2⟩ := good_bd hc tr j
 rcases hl with rfl | rfl
 ·rw [goodL_len] at hlt
  rw [List.getD_eq_getElem?_getD, goodL_get hlt, Option.getD_some] at hg
  refine ⟨⟨_, hg, b1⟩, ?_⟩
  rcases hd with rfl | rfl <;> omega
 ·rw [leftL_len] at hlt
  rw [List.getD_eq_getElem?_getD, leftL_get hlt, Option.getD_some] at hg
  refine ⟨⟨_, hg, b2⟩, ?_⟩
  rcases hd with rfl | rfl <;> omega
theorem RepG.retrail {o : List Ob} {K : Nat} {d : IdS} {c : Env} {ta : AV} {s : SV} (h : RepG o K d c ta s) (hc : c.lav.ltk 0 = true) {o1 : List Ob} (hlen : o.length ≤ o1.length) (hpre : ∀ j X, o[j]? = some X → (∀ l, ta ≠ .ref j 0 l) → o1[j]? = some X) (hok : okO o1 = true)
  {T' : Nat} {tr' ex' : List Int} (hT : o1[T']? = some (.cells 1 (ints (tr' ++ ex')))) (hfresh : o.length ≤ T') : RepG (o1.set K (.cells 13 [rowK c d (.ref T' 0 tr'.length) { s with tr := tr' }])) K d c (.ref T' 0 tr'.length) { s with tr := tr' } := by
 have lM := (List.getElem?_eq_some_iff.1 h.m).1
 have lL := (List.getElem?_eq_some_iff.1 h.l).1
 have lG := (List.getElem?_eq_some_iff.1 h.g).1
 have lV := (List.getElem?_eq_some_iff.1 h.v).1
 have lK := (List.getElem?_eq_some_iff.1 h.k).1
 have lT := (List.getElem?_eq_some_iff.1 hT).1
 have nt : ∀ j, (∀ T ex, ta = .ref T 0 s.tr.length → o[T]? = some (.cells 1 (ints (s.tr ++ ex))) → T ≠ d.L ∧ T ≠ d.G ∧ T ≠ d.V → j ≠ T) → ∀ l, ta ≠ .ref j 0 l := by
  intro j hj l e
  rcases h.t with ⟨a, _⟩ | ⟨T, ex, a, b, t1⟩
  ·rw [a] at e; cases e
  ·rw [a] at e
   simp only [AV.ref.injEq] at e
   exact hj T ex a b t1 e.1.symm
 have kK : o1[K]? = _ := hpre K _ h.k (nt K fun T ex _ b _ e => (h.ne b).1 e.symm)
 have hs : ∀ (X : Ob) (j : Nat), (o1.set K X)[j]? = if j = K then some X else o1[j]? := fun X j => set_get kK
 have e1 : ∀ {j : Nat} {l : List (List AV)}, o[j]? = some (.cells 1 l) → (∀ l, ta ≠ .ref j 0 l) → (o1.set K (.cells 13 [rowK c d (.ref T' 0 tr'.length) { s with tr := tr' }]))[j]? = some (.cells 1 l) := fun {j l} hj hn => by
  rw [hs, if_neg (h.ne hj).1]; exact hpre j _ hj hn
 refine ⟨okO_set hok ?_, by rw [hs, if_pos rfl], ?_, e1 h.l (nt _ fun T ex _ _ t1 e => t1.1 e.symm), e1 h.g (nt _ fun T ex _ _ t1 e => t1.2.1 e.symm), e1 h.v (nt _ fun T ex _ _ t1 e => t1.2.2 e.symm), h.lg, h.lv, h.gv, h.ll, h.gl, h.vl, ?_, fun x => ?_, ?_⟩
 ·have := ltk_mono (Nat.zero_le o1.length) _ hc
  have hm := ltk_mono hlen _ h.md.1
  simp [Ob.ltk, rowK, AV.ltk, this, hm, lT]
  omega
 ·rw [hs, if_neg (Ne.symm h.km)]
  exact hpre _ _ h.m (nt _ fun T ex _ b _ e => (h.ne b).2 e.symm)
 ·refine .inr ⟨T', ex', rfl, ?_, by omega, by omega, by omega⟩
  rw [hs, if_neg (by omega)]; exact hT
 ·refine (h.inn x).imp id fun ⟨I, r1, r2, r3, r4, r5, r6⟩ => ⟨I, r1, e1 r2 (fun l e => r6 I l e rfl), r3, r4, r5, fun T l e => ?_⟩
  simp only [AV.ref.injEq] at e
  have := (List.getElem?_eq_some_iff.1 r2).1
  omega
 ·rw [List.length_set]; exact ⟨ltk_mono hlen _ h.md.1, h.md.2⟩
theorem RepG.cut {o : List Ob} {K : Nat} {d : IdS} {c : Env} {ta : AV} {s : SV} (h : RepG o K d c ta s) (hc : c.lav.ltk 0 = true) {tr' : List Int} {x : Int} (ht : s.tr = tr' ++ [x]) : ∃ T, ta = .ref T 0 (tr'.length + 1) ∧ (∃ ex, o[T]? = some (.cells 1 (ints (tr' ++ x :: ex)))) ∧
  RepG (o.set K (.cells 13 [rowK c d (.ref T 0 tr'.length) { s with tr := tr' }])) K d c (.ref T 0 tr'.length) { s with tr := tr' } := by
 rcases h.t with ⟨_, b⟩ | ⟨T, ex, rfl, b, t1, t2, t3⟩
 ·rw [ht] at b; simp at b
 have lM := (List.getElem?_eq_some_iff.1 h.m).1
 have lL := (List.getElem?_eq_some_iff.1 h.l).1
 have lG := (List.getElem?_eq_some_iff.1 h.g).1
 have lV := (List.getElem?_eq_some_iff.1 h.v).1
 have lT := (List.getElem?_eq_some_iff.1 b).1
 have b' : o[T]? = some (.cells 1 (ints (tr' ++ x :: ex))) := by rw [b, ht]; simp
 have hs : ∀ (X : Ob) (j : Nat), (o.set K X)[j]? = if j = K then some X else o[j]? := fun X j => set_get h.k
 have e1 : ∀ {j : Nat} {l : List (List AV)} {X : Ob}, o[j]? = some (.cells 1 l) → (o.set K X)[j]? = some (.cells 1 l) := fun {j l X} hj => by
  rw [hs, if_neg (h.ne hj).1]; exact hj
 refine ⟨T, by rw [ht]; simp, ⟨ex, b'⟩, okO_set h.ok ?_, by rw [hs, if_pos rfl], by rw [hs, if_neg (Ne.symm h.km)]; exact h.m, e1 h.l, e1 h.g, e1 h.v, h.lg, h.lv, h.gv, h.ll, h.gl, h.vl, .inr ⟨T, x :: ex, rfl, e1 b', t1, t2, t3⟩, fun y => ?_, ?_⟩
 ·have := ltk_mono (Nat.zero_le o.length) _ hc
  simp [Ob.ltk, rowK, AV.ltk, this, h.md.1, lM, lL, lG, lV, lT]
 ·refine (h.inn y).imp id fun ⟨I, r1, r2, r3, r4, r5, r6⟩ => ⟨I, r1, e1 r2, r3, r4, r5, fun T l e => r6 T s.tr.length ?_⟩
  simp only [AV.ref.injEq] at e
  rw [e.1]
 ·rw [List.length_set]; exact h.md
theorem bump_step {d : Int} {l is : List Int} {k j : Nat} {v : Int} (hk : is[k]? = some (j : Int)) (hv : (bump d l (is.take k))[j]? = some v) : (bump d l (is.take k)).set j (v + d) = bump d l (is.take (k + 1)) := by
 have hlt := (List.getElem?_eq_some_iff.1 hk).1
 have e : is.take (k + 1) = is.take k ++ [(j : Int)] := by
  rw [List.take_succ_eq_append_getElem hlt]
  have := (List.getElem?_eq_some_iff.1 hk).2
  rw [this]
 rw [e, bump_app]
 generalize bump d l (is.take k) = b at hv
 have hjb := (List.getElem?_eq_some_iff.1 hv).1
 simp only [bump, List.foldl_cons, List.foldl_nil, Int.toNat_natCast]
 apply List.ext_getElem?
 intro i
 rw [List.getElem?_set, List.getElem?_modify]
 by_cases h : j = i
 ·subst h; rw [if_pos rfl, if_pos hjb, hv]; simp
 ·rw [if_neg h]; simp [h]
theorem bump_zeros {d : Int} {l is : List Int} {k j : Nat} {v : Int} (hk : is[k]? = some (j : Int)) (hv : (bump d l (is.take k))[j]? = some v) : zeros (bump d l (is.take (k + 1))) = zeros (bump d l (is.take k)) - (if v = 0 then 1 else 0) + (if v + d = 0 then 1 else 0) := by
 rw [← zeros_modify _ j v d hv]
 have hlt := (List.getElem?_eq_some_iff.1 hk).1
 have e : is.take (k + 1) = is.take k ++ [(j : Int)] := by
  rw [List.take_succ_eq_append_getElem hlt]
  have := (List.getElem?_eq_some_iff.1 hk).2
  rw [this]
 rw [e, bump_app]
 simp only [bump, List.foldl_cons, List.foldl_nil, Int.toNat_natCast]
theorem put_spec {o : List Ob} {K : Nat} {d : IdS} {c : Env} {ta : AV} {tr : List Int} {br cnt : Int} {md : AV} {exh : Bool} (h : RepG o K d c ta (canon c tr br md cnt exh)) (hc : EnvOk c) (htr : TrOk c.vars tr) (hlen : tr.length ≤ 20000) {x : Int} (hx : LitOk c.vars x) (hxt : x ∉ tr) (hnx : -x ∉ tr) :
  ACalls Try.prog 99 [.ptr K 0 0, .i .i64 x] o fun r o' => r = .tup [] ∧ ∃ ta', RepG o' K d c ta' (canon c (tr ++ [x]) br md cnt exh) ∧ Fr o o' K d ta ∧ ∃ l, ta' = .ref (o.length + 1) 0 l := by
 have hok := h.ok
 obtain ⟨x0, x1, x2⟩ := hx
 have hcv := hc.vars
 have hlk := lav_ltk hc
 refine ACalls_of' (n := 93) (rs := []) (show Try.prog.funcs[99]? = some Try.f99 by kernel_rfl) rfl rfl rfl (by simp) (by decide +kernel) ?_
 refine W_then (fun st => ∃ ta', st.t 0 = .ptr K 0 0 ∧ st.t 1 = .i .i64 x ∧ RepG st.o K d c ta' ⟨leftL c.list tr, goodL c.list tr, zeros (goodL c.list tr), valL c.vars tr, tr ++ [x], br, md, cnt, exh⟩ ∧ Fr o st.o K d ta ∧ ∃ l, ta' = .ref (o.length + 1) 0 l) ?_ ?_
 ·rcases h.t with ⟨rfl, htr0⟩ | ⟨T, ex, rfl, hT, t1, t2, t3⟩
  ·have hk1 := fun l => app_get l h.k
   have hro : rowsOk false [[AV.i .i64 x]] = true := rfl
   simp only [rowK] at hk1
   (refine W_reg [1000000] fun K R hK hR => ?_; simp (maxSteps := 10000000) only [go_sem, h.k, rowK, canon, hro, hk1]; (try go_ints); (try simp only [go_sem, h.k, rowK, canon, hro, hk1]); (repeat refine And.intro side ?_); (first | refine hK _ ?_ | refine hR _ _ ?_); clear hK hR K R)
   refine thenQ_normal ⟨.ref (o.length + 1) 0 1, rfl, rfl, ?_, ((Fr.refl _ _ _ _).push _).set (.inl rfl), _, rfl⟩
   have hR := h.retrail hlk (o1 := o ++ [Ob.cells 1 [[AV.i .i64 x]], Ob.cells 1 [[AV.i .i64 x]]]) (by simp) (fun j X hj _ => app_get _ hj) (okO_app hok (by simp [Ob.ltk, AV.ltk])) (T' := o.length + 1) (tr' := [x]) (ex' := []) (by simp [ints]) (by omega)
   have htr0 : tr = [] := htr0
   subst htr0
   exact hR
  ·have hTl := (List.getElem?_eq_some_iff.1 hT).1
   have hk1 := fun l => app_get l h.k
   have hT1 := fun l => app_get l hT
   have hTK := (h.ne hT).1
   have hk2 : ∀ X Y : List Ob, ((o ++ X).set T .dead ++ Y)[K]? = _ := fun X Y => app_get Y (by rw [List.getElem?_set_ne hTK]; exact hk1 X)
   have hro : rowsOk false [[AV.i .i64 x]] = true := rfl
   simp only [rowK, canon] at hk1 hk2 hT1
   refine W_reg [1000000] fun K R hK hR => ?_
   simp (maxSteps := 10000000) only [go_sem, h.k, rowK, hT1, canon, hro, hk1, hk2]
   refine ⟨by simp [ints]; omega, hK _ ?_⟩
   clear hK hR K R
   have htk : List.take tr.length (ints (tr ++ ex)) = ints tr := by simp [ints]
   have hix : ints tr ++ [[AV.i .i64 x]] = ints (tr ++ [x]) := by simp [ints]
   rw [htk, hix]
   refine thenQ_normal ⟨.ref (o.length + 1) 0 (tr.length + 1), rfl, rfl, ?_, ?_, _, rfl⟩
   ·have hR := h.retrail hlk (o1 := (o ++ [Ob.cells 1 [[AV.i .i64 x]]]).set T .dead ++ [Ob.cells 1 (ints (tr ++ [x]))]) (by simp; omega) (fun j X hj hn => app_get _ (by rw [List.getElem?_set_ne (fun e => hn _ (by rw [e]))]; exact app_get _ hj)) (okO_app (okO_set (okO_app hok rfl) rfl) (by simp [Ob.ltk, AV.ltk, ints])) (T' := o.length + 1) (tr' := tr ++ [x]) (ex' := []) (by simp) (by omega)
    have e : (tr ++ [x]).length = tr.length + 1 := by simp
    rw [e] at hR
    exact hR
   ·exact ((((Fr.refl _ _ _ _).push _).kill).push _).set (.inl rfl)
 ·rintro ⟨t, o1⟩ ⟨ta1, h0, h1, hr, hf, hta1⟩
  simp only at h0 h1 hr hf
  repeat (first | refine nav ?_ | refine bo ?_)
  (refine wr fun K R hK hR => ?_; simp (maxSteps := 10000000) only [go_sem, h1]; (try go_ints); (try simp only [go_sem, h1]); (repeat refine And.intro side ?_); (first | refine hK _ ?_ | refine hR _ _ ?_); clear hK hR K R)
  refine seqQ_normal ?_
  refine W_joinS 20 35 [] (fun t o2 => RepG o2 K d c ta1 ⟨leftL c.list tr, goodL c.list tr, zeros (goodL c.list tr), valL c.vars (tr ++ [x]), tr ++ [x], br, md, cnt, exh⟩ ∧ Fr o o2 K d ta) ?_ ?_
  ·have hvp := val_put hxt hnx ⟨x0, x1, x2⟩
   refine W_cond (by simp only [go_sem] <;> exact rfl) (fun hb => ?_) (fun hb => ?_)
   ·have hb : x > 0 := by simpa using hb
    obtain ⟨v, rfl⟩ : ∃ v : Nat, x = (v : Int) + 1 := ⟨(x - 1).toNat, by omega⟩
    have hv := valL_get (n := c.vars) (tr := tr) (v := v) (by omega)
    have hvl := valL_len c.vars tr
    rw [if_pos hb, if_pos hb] at hvp
    have e1 : ((v : Int) + 1 - 1).toNat = v := by omega
    rw [e1] at hvp
    rw [hvp]
    repeat (first | refine nav ?_ | refine bo ?_)
    (refine wr fun K R hK hR => ?_; simp (maxSteps := 10000000) only [go_sem, h0, h1, hr.k, hr.v, rowK, Nat.add_sub_cancel, ints_get hv, hvl, ints_set]; (try go_ints); (try simp only [go_sem, h0, h1, hr.k, hr.v, rowK, Nat.add_sub_cancel, ints_get hv, hvl, ints_set]); (repeat refine And.intro side ?_); (first | refine hK _ ?_ | refine hR _ _ ?_); clear hK hR K R)
    exact ⟨_, rfl, hr.setV hlk (by simp), hf.set (.inr (.inr (.inr rfl)))⟩
   ·have hb : ¬ x > 0 := by simpa using hb
    obtain ⟨v, rfl⟩ : ∃ v : Nat, x = -((v : Int) + 1) := ⟨(-x - 1).toNat, by omega⟩
    have hv := valL_get (n := c.vars) (tr := tr) (v := v) (by omega)
    have hvl := valL_len c.vars tr
    rw [if_neg hb, if_neg hb] at hvp
    have e1 : (- -((v : Int) + 1) - 1).toNat = v := by omega
    rw [e1] at hvp
    rw [hvp]
    have e2 : (0 - -((v : Int) + 1) - 1).toNat = v := by omega
    repeat (first | refine nav ?_ | refine bo ?_)
    (refine wr fun K R hK hR => ?_; simp (maxSteps := 10000000) only [go_sem, h0, h1, hr.k, hr.v, rowK, e2, ints_get hv, hvl, ints_set]; (try go_ints); (try simp only [go_sem, h0, h1, hr.k, hr.v, rowK, e2, ints_get hv, hvl, ints_set]); (repeat refine And.intro side ?_); (first | refine hK _ ?_ | refine hR _ _ ?_); clear hK hR K R)
    exact ⟨_, rfl, hr.setV hlk (by simp), hf.set (.inr (.inr (.inr rfl)))⟩
  clear hr hf o1
  rintro t2 o1 ⟨hr, hf⟩
  have hsum := hc.sum x
  repeat (first | refine nav ?_ | refine bo ?_)
  refine W_joinS 35 43 [] (fun t o' => o' = o1 ∧ t 40 = ivOf c.es x ∧ t 41 = .i .i64 ((innOf c.list x).length : Nat) ∧ t 42 = .i .i64 0) ?_ ?_
  ·rcases hr.inn x with ⟨hm, h⟩ | ⟨I, hm, hI, _⟩
   ·(refine wr fun K R hK hR => ?_; simp (maxSteps := 10000000) only [go_sem, h0, h1, hr.k, rowK, hr.m, hm]; (try go_ints); (try simp only [go_sem, h0, h1, hr.k, rowK, hr.m, hm]); (repeat refine And.intro side ?_); (first | refine hK _ ?_ | refine hR _ _ ?_); clear hK hR K R)
    exact ⟨_, rfl, rfl, by simp only [go_sem, ivOf, hm], by simp only [go_sem, h] <;> rfl, by simp only [go_sem]⟩
   ·(refine wr fun K R hK hR => ?_; simp (maxSteps := 10000000) only [go_sem, h0, h1, hr.k, rowK, hr.m, hm]; (try go_ints); (try simp only [go_sem, h0, h1, hr.k, rowK, hr.m, hm]); (repeat refine And.intro side ?_); (first | refine hK _ ?_ | refine hR _ _ ?_); clear hK hR K R)
    exact ⟨_, rfl, rfl, by simp only [go_sem, ivOf, hm], by simp only [go_sem], by simp only [go_sem]⟩
  rintro t5 o1' ⟨rfl, h40, h41, h42⟩
  generalize hisx : innOf c.list x = is at h41 hsum
  repeat (first | refine nav ?_ | refine bo ?_)
  refine W_for 42 71 [5] (fun m t o2 => ∃ k : Nat, RepG o2 K d c ta1 ⟨leftL c.list tr, bump 1 (goodL c.list tr) (is.take k), zeros (bump 1 (goodL c.list tr) (is.take k)), valL c.vars (tr ++ [x]), tr ++ [x], br, md, cnt, exh⟩ ∧ Fr o o2 K d ta ∧ t 42 = .i .i64 k ∧ m = is.length - k ∧ k ≤ is.length) is.length
   ⟨0, hr, hf, by simp only [go_sem, h42] <;> rfl, by omega, Nat.zero_le _⟩ ?_
  clear h42
  rintro m t3 o2 ⟨k, hr2, hf2, h42, rfl, hk⟩
  repeat (first | refine nav ?_ | refine bo ?_)
  (refine wr fun K R hK hR => ?_; simp (maxSteps := 10000000) only [go_sem, h42, h41]; (try go_ints); (try simp only [go_sem, h42, h41]); (repeat refine And.intro side ?_); (first | refine hK _ ?_ | refine hR _ _ ?_); clear hK hR K R)
  repeat (first | refine nav ?_ | refine bo ?_)
  refine W_cond (by simp only [go_sem] <;> exact rfl) (fun hb => ?_) (fun hb => ?_)
  ·simp at hb
   obtain ⟨i, hi⟩ : ∃ i, is[k]? = some i := ⟨_, List.getElem?_eq_getElem hb⟩
   obtain ⟨j, rfl, hj, _⟩ := innOf_mem (list := c.list) (x := x) (by rw [hisx]; exact List.mem_of_getElem? hi)
   have hin := hr2.inn x
   unfold InAt at hin
   rw [hisx] at hin
   rcases hin with ⟨_, q2⟩ | ⟨I, hm, hI, i1, i2, i3, _⟩
   ·subst q2; simp at hb
   have hiv : ivOf c.es x = .ref I 0 is.length := by rw [ivOf, hm]
   have hgl : (bump 1 (goodL c.list tr) (is.take k)).length = c.list.length := by rw [bump_len, goodL_len]
   obtain ⟨gv, hgv⟩ : ∃ v, (bump 1 (goodL c.list tr) (is.take k))[j]? = some v := ⟨_, List.getElem?_eq_getElem (by omega)⟩
   have hgb := bump_bd hc tr x 1 (.inl rfl) k j _ (.inl rfl) (by rw [hisx]; exact hgv)
   obtain ⟨⟨u, hu, _⟩, hgb⟩ := hgb
   have hz := bump_zeros hi hgv
   have hzb := zeros_bd (bump 1 (goodL c.list tr) (is.take k))
   have hst := bump_step hi hgv
   rw [hgl] at hzb
   have hlist := hc.list
   generalize bump 1 (goodL c.list tr) (is.take k) = gd at hr2 hgl hgv hz hzb hst
   repeat (first | refine nav ?_ | refine bo ?_)
   (refine wr fun K R hK hR => ?_; simp (maxSteps := 10000000) only [go_sem, h42, h40, hiv, hI, ints_get hi]; (try go_ints); (try simp only [go_sem, h42, h40, hiv, hI, ints_get hi]); (repeat refine And.intro side ?_); (first | refine hK _ ?_ | refine hR _ _ ?_); clear hK hR K R)
   repeat (first | refine nav ?_ | refine bo ?_)
   (refine wr fun K R hK hR => ?_; simp (maxSteps := 10000000) only [go_sem, h0, hr2.k, rowK, hr2.g, ints_get hgv, hgl, ints_set]; (try go_ints); (try simp only [go_sem, h0, hr2.k, rowK, hr2.g, ints_get hgv, hgl, ints_set]); (repeat refine And.intro side ?_); (first | refine hK _ ?_ | refine hR _ _ ?_); clear hK hR K R)
   have hr3 := hr2.setG (g' := gd.set j (gv + 1)) hlk (by simp)
   have hf3 := hf2.set (J := d.G) (X := .cells 1 (ints (gd.set j (gv + 1)))) (.inr (.inr (.inl rfl)))
   have hgl3 : (gd.set j (gv + 1)).length = c.list.length := by rw [List.length_set, hgl]
   have hgv3 : (gd.set j (gv + 1))[j]? = some (gv + 1) := by rw [List.getElem?_set, if_pos rfl, if_pos (by omega)]
   generalize o2.set d.G (.cells 1 (ints (gd.set j (gv + 1)))) = o3 at hr3 hf3 ⊢
   rw [hst] at hr3 hgl3 hgv3
   repeat (first | refine nav ?_ | refine bo ?_)
   (refine wr fun K R hK hR => ?_; simp (maxSteps := 10000000) only [go_sem, h0, hr3.k, rowK, hr3.g, ints_get hgv3, hgl3]; (try go_ints); (try simp only [go_sem, h0, hr3.k, rowK, hr3.g, ints_get hgv3, hgl3]); (repeat refine And.intro side ?_); (first | refine hK _ ?_ | refine hR _ _ ?_); clear hK hR K R)
   repeat (first | refine nav ?_ | refine bo ?_)
   refine W_cond (by simp only [go_sem] <;> exact rfl) (fun hc1 => ?_) (fun hc1 => ?_)
   ·have hc1 : gv + 1 = 1 := by simpa using hc1
    have hz : zeros (bump 1 (goodL c.list tr) (is.take (k + 1))) = zeros gd - 1 := by
     rw [hz, if_pos (by omega), if_neg (by omega)]; omega
    repeat (first | refine nav ?_ | refine bo ?_)
    (refine wr fun K R hK hR => ?_; simp (maxSteps := 10000000) only [go_sem, h0, hr3.k, rowK]; (try go_ints); (try simp only [go_sem, h0, hr3.k, rowK]); (repeat refine And.intro side ?_); (first | refine hK _ ?_ | refine hR _ _ ?_); clear hK hR K R)
    repeat (first | refine nav ?_ | refine bo ?_)
    (refine wr fun K R hK hR => ?_; simp (maxSteps := 10000000) only [go_sem, h42]; (try go_ints); (try simp only [go_sem, h42]); (repeat refine And.intro side ?_); (first | refine hK _ ?_ | refine hR _ _ ?_); clear hK hR K R)
    refine forQ_normal (is.length - (k + 1)) (by omega) ⟨k + 1, ?_, hf3.set (.inl rfl), ?_⟩
    ·rw [hz]
     exact hr3.setK hlk hr3.taOk (s' := ⟨leftL c.list tr, bump 1 (goodL c.list tr) (is.take (k + 1)), zeros gd - 1, valL c.vars (tr ++ [x]), tr ++ [x], br, md, cnt, exh⟩) rfl rfl rfl rfl hr3.md
    ·((try simp only [go_sem]); (repeat' refine And.intro ?_ ?_) <;> (try first | with_reducible rfl | omega | with_reducible assumption | (simp; done)))
   ·have hc1 : ¬ gv + 1 = 1 := by simpa using hc1
    have hu0 : 0 ≤ gv := by omega
    have hz : zeros (bump 1 (goodL c.list tr) (is.take (k + 1))) = zeros gd := by
     rw [hz, if_neg (by omega), if_neg (by omega)]; omega
    repeat (first | refine nav ?_ | refine bo ?_)
    (refine wr fun K R hK hR => ?_; simp (maxSteps := 10000000) only [go_sem, h42]; (try go_ints); (try simp only [go_sem, h42]); (repeat refine And.intro side ?_); (first | refine hK _ ?_ | refine hR _ _ ?_); clear hK hR K R)
    refine forQ_normal (is.length - (k + 1)) (by omega) ⟨k + 1, ?_, hf3, ?_⟩
    ·rw [hz]; exact hr3
    ·((try simp only [go_sem]); (repeat' refine And.intro ?_ ?_) <;> (try first | with_reducible rfl | omega | with_reducible assumption | (simp; done)))
  ·simp at hb
   obtain rfl : is.length = k := by omega
   rw [List.take_length, ← hisx, goodL_put hxt] at hr2
   clear hr hf hsum
   have hsum := hc.sum (-x)
   have hlp := leftL_put (list := c.list) hxt
   repeat (first | refine nav ?_ | refine bo ?_)
   refine W_joinS 71 80 [] (fun t o' => o' = o2 ∧ t 77 = ivOf c.es (-x) ∧ t 78 = .i .i64 ((innOf c.list (-x)).length : Nat) ∧ t 79 = .i .i64 0) ?_ ?_
   ·rcases hr2.inn (-x) with ⟨hm, h⟩ | ⟨I, hm, hI, _⟩
    ·(refine wr fun K R hK hR => ?_; simp (maxSteps := 10000000) only [go_sem, h0, h1, hr2.k, rowK, hr2.m, Int.zero_sub, hm]; (try go_ints); (try simp only [go_sem, h0, h1, hr2.k, rowK, hr2.m, Int.zero_sub, hm]); (repeat refine And.intro side ?_); (first | refine hK _ ?_ | refine hR _ _ ?_); clear hK hR K R)
     exact ⟨_, rfl, rfl, by simp only [go_sem, ivOf, hm], by simp only [go_sem, h] <;> rfl, by simp only [go_sem]⟩
    ·(refine wr fun K R hK hR => ?_; simp (maxSteps := 10000000) only [go_sem, h0, h1, hr2.k, rowK, hr2.m, Int.zero_sub, hm]; (try go_ints); (try simp only [go_sem, h0, h1, hr2.k, rowK, hr2.m, Int.zero_sub, hm]); (repeat refine And.intro side ?_); (first | refine hK _ ?_ | refine hR _ _ ?_); clear hK hR K R)
     exact ⟨_, rfl, rfl, by simp only [go_sem, ivOf, hm], by simp only [go_sem], by simp only [go_sem]⟩
   rintro t6 o2' ⟨rfl, h77, h78, h79⟩
   generalize hisn : innOf c.list (-x) = js at h78 hsum hlp
   repeat (first | refine nav ?_ | refine bo ?_)
   refine W_for 79 93 [7] (fun m t o2 => ∃ k : Nat, RepG o2 K d c ta1 ⟨bump (-1) (leftL c.list tr) (js.take k), goodL c.list (tr ++ [x]), zeros (goodL c.list (tr ++ [x])), valL c.vars (tr ++ [x]), tr ++ [x], br, md, cnt, exh⟩ ∧ Fr o o2 K d ta ∧ t 79 = .i .i64 k ∧ m = js.length - k ∧ k ≤ js.length) js.length
    ⟨0, hr2, hf2, by simp only [go_sem, h79] <;> rfl, by omega, Nat.zero_le _⟩ ?_
   clear hr2 hf2 h79
   rintro m t4 o2 ⟨k, hr2, hf2, h79, rfl, hk⟩
   repeat (first | refine nav ?_ | refine bo ?_)
   (refine wr fun K R hK hR => ?_; simp (maxSteps := 10000000) only [go_sem, h79, h78]; (try go_ints); (try simp only [go_sem, h79, h78]); (repeat refine And.intro side ?_); (first | refine hK _ ?_ | refine hR _ _ ?_); clear hK hR K R)
   repeat (first | refine nav ?_ | refine bo ?_)
   refine W_cond (by simp only [go_sem] <;> exact rfl) (fun hb => ?_) (fun hb => ?_)
   ·simp at hb
    obtain ⟨i, hi⟩ : ∃ i, js[k]? = some i := ⟨_, List.getElem?_eq_getElem hb⟩
    obtain ⟨j, rfl, hj, _⟩ := innOf_mem (list := c.list) (x := -x) (by rw [hisn]; exact List.mem_of_getElem? hi)
    have hin := hr2.inn (-x)
    unfold InAt at hin
    rw [hisn] at hin
    rcases hin with ⟨_, q2⟩ | ⟨I, hm, hI, i1, i2, i3, _⟩
    ·subst q2; simp at hb
    have hiv : ivOf c.es (-x) = .ref I 0 js.length := by rw [ivOf, hm]
    have hgl : (bump (-1) (leftL c.list tr) (js.take k)).length = c.list.length := by rw [bump_len, leftL_len]
    obtain ⟨gv, hgv⟩ : ∃ v, (bump (-1) (leftL c.list tr) (js.take k))[j]? = some v := ⟨_, List.getElem?_eq_getElem (by omega)⟩
    have hgb := (bump_bd hc tr (-x) (-1) (.inr rfl) k j _ (.inr rfl) (by rw [hisn]; exact hgv)).2
    have hst := bump_step hi hgv
    generalize bump (-1) (leftL c.list tr) (js.take k) = gd at hr2 hgl hgv hst
    repeat (first | refine nav ?_ | refine bo ?_)
    (refine wr fun K R hK hR => ?_; simp (maxSteps := 10000000) only [go_sem, h79, h77, hiv, hI, ints_get hi]; (try go_ints); (try simp only [go_sem, h79, h77, hiv, hI, ints_get hi]); (repeat refine And.intro side ?_); (first | refine hK _ ?_ | refine hR _ _ ?_); clear hK hR K R)
    repeat (first | refine nav ?_ | refine bo ?_)
    (refine wr fun K R hK hR => ?_; simp (maxSteps := 10000000) only [go_sem, h0, hr2.k, rowK, hr2.l, ints_get hgv, hgl, ints_set]; (try go_ints); (try simp only [go_sem, h0, hr2.k, rowK, hr2.l, ints_get hgv, hgl, ints_set]); (repeat refine And.intro side ?_); (first | refine hK _ ?_ | refine hR _ _ ?_); clear hK hR K R)
    have hst' : gd.set j (gv - 1) = bump (-1) (leftL c.list tr) (js.take (k + 1)) := hst
    have hr3 := hr2.setL (g' := gd.set j (gv - 1)) hlk (by simp)
    rw [hst'] at hr3
    rw [hst']
    repeat (first | refine nav ?_ | refine bo ?_)
    (refine wr fun K R hK hR => ?_; simp (maxSteps := 10000000) only [go_sem, h79]; (try go_ints); (try simp only [go_sem, h79]); (repeat refine And.intro side ?_); (first | refine hK _ ?_ | refine hR _ _ ?_); clear hK hR K R)
    refine forQ_normal (js.length - (k + 1)) (by omega) ⟨k + 1, hr3, hf2.set (.inr (.inl rfl)), ?_⟩
    ((try simp only [go_sem]); (repeat' refine And.intro ?_ ?_) <;> (try first | with_reducible rfl | omega | with_reducible assumption | (simp; done)))
   ·simp at hb
    obtain rfl : js.length = k := by omega
    rw [List.take_length, hlp] at hr2
    repeat (first | refine nav ?_ | refine bo ?_)
    refine endQ_alln (by simp only [go_sem] <;> exact rfl) (Le.refl _) hf2.1 hr2.ok rfl ⟨rfl, ta1, hr2, hf2, hta1⟩
end Go.AW
namespace Go.AW
open Go Go.Proofs TyTry Go.IntWalk
set_option linter.unusedSimpArgs false
set_option linter.unusedVariables false
set_option maxRecDepth 10000
set_option maxHeartbeats 1000000
theorem count_take_lt {is : List Int} {k : Nat} {j : Int} (h : is[k]? = some j) : (is.take k).count j + 1 ≤ is.count j := by
 have hlt := (List.getElem?_eq_some_iff.1 h).1
 have e : is.take (k + 1) = is.take k ++ [j] := by
  rw [List.take_succ_eq_append_getElem hlt, (List.getElem?_eq_some_iff.1 h).2]
 have h1 : (is.take (k + 1)).count j ≤ is.count j := (List.take_sublist _ _).count_le _
 rw [e, List.count_append] at h1
 simpa using h1
theorem TrOk.take {n : Nat} {tr : List Int} (h : TrOk n tr) (q : Nat) : TrOk n (tr.take q) :=
 ⟨(List.take_sublist _ _).nodup h.nd, fun x hx => h.lit x (List.mem_of_mem_take hx), fun x hx hn => h.opp x (List.mem_of_mem_take hx) (List.mem_of_mem_take hn)⟩
theorem TrOk.last {n : Nat} {tr : List Int} {x : Int} (h : TrOk n (tr ++ [x])) : x ∉ tr ∧ -x ∉ tr ∧ LitOk n x := by
 refine ⟨fun hx => ?_, fun hx => ?_, h.lit x (by simp)⟩
 ·have := h.nd
  rw [List.nodup_append] at this
  exact this.2.2 x hx x (by simp) rfl
 ·exact h.opp x (by simp) (by simp [hx])
theorem undo_spec {o : List Ob} {K : Nat} {d : IdS} {c : Env} {ta : AV} {tr : List Int} {br cnt : Int} {md : AV} {exh : Bool} (h : RepG o K d c ta (canon c tr br md cnt exh)) (hc : EnvOk c) (htr : TrOk c.vars tr) (hlen : tr.length ≤ 20000) {n : Nat} (hn : n ≤ tr.length) :
  ACalls Try.prog 85 [.ptr K 0 0, .i .i64 n] o fun r o' => r = .tup [] ∧ ∃ ta', RepG o' K d c ta' (canon c (tr.take n) br md cnt exh) ∧ Fr o o' K d ta ∧ ∀ j l, ta' = .ref j 0 l → ∃ l', ta = .ref j 0 l' := by
 have hok := h.ok
 have hcv := hc.vars
 have hlk := lav_ltk hc
 have hlist := hc.list
 refine ACalls_of' (n := 117) (rs := []) (show Try.prog.funcs[85]? = some Try.f85 by kernel_rfl) rfl rfl rfl (by simp) (by decide +kernel) ?_
 repeat (first | refine nav ?_ | refine bo ?_)
 refine W_for 9 117 [4, 6, 8] (fun m t o1 => ∃ (q : Nat) (ta1 : AV), RepG o1 K d c ta1 (canon c (tr.take q) br md cnt exh) ∧ Fr o o1 K d ta ∧ (∀ j l, ta1 = .ref j 0 l → ∃ l', ta = .ref j 0 l') ∧ m = q - n ∧ n ≤ q ∧ q ≤ tr.length) (tr.length - n) ⟨tr.length, ta, by rw [List.take_length]; exact h, Fr.refl _ _ _ _, fun j l e => ⟨l, e⟩, rfl, hn, Nat.le_refl _⟩ ?_
 rintro m t o1 ⟨q, ta1, hr, hf, hta, rfl, hnq, hq⟩
 have hql : (tr.take q).length = q := by simp [hq]
 rcases hr.t with ⟨rfl, ht0⟩ | ⟨T, ex, rfl, hT, t1, t2, t3⟩
 ·have ht0 : tr.take q = [] := ht0
  rw [ht0] at hql
  have : n = 0 ∧ q = 0 := by simp at hql; omega
  obtain ⟨rfl, rfl⟩ := this
  repeat (first | refine nav ?_ | refine bo ?_)
  (refine wr fun K R hK hR => ?_; simp (maxSteps := 10000000) only [go_sem, hr.k, rowK, canon]; (try go_ints); (try simp only [go_sem, hr.k, rowK, canon]); (repeat refine And.intro side ?_); (first | refine hK _ ?_ | refine hR _ _ ?_); clear hK hR K R)
  repeat (first | refine nav ?_ | refine bo ?_)
  refine W_cond (b := false) (by simp only [go_sem] <;> first | rfl | simp) (fun hb => by cases hb) (fun _ => ?_)
  repeat (first | refine nav ?_ | refine bo ?_)
  refine endQ_alln (by simp only [go_sem] <;> exact rfl) (Le.refl _) hf.1 hr.ok rfl ⟨rfl, _, hr, hf, hta⟩
 ·have htaT : ∀ j l l2, (AV.ref T 0 l2) = .ref j 0 l → ∃ l', ta = .ref j 0 l' := fun j l l2 e => by
   simp only [AV.ref.injEq] at e
   rw [← e.1]; exact hta T _ rfl
  simp only [canon, hql] at hT hr
  repeat (first | refine nav ?_ | refine bo ?_)
  (refine wr fun K R hK hR => ?_; simp (maxSteps := 10000000) only [go_sem, hr.k, rowK, canon]; (try go_ints); (try simp only [go_sem, hr.k, rowK, canon]); (repeat refine And.intro side ?_); (first | refine hK _ ?_ | refine hR _ _ ?_); clear hK hR K R)
  repeat (first | refine nav ?_ | refine bo ?_)
  refine W_cond (by simp only [go_sem] <;> exact rfl) (fun hb => ?_) (fun hb => ?_)
  ·simp at hb
   obtain ⟨p, rfl⟩ : ∃ p, q = p + 1 := ⟨q - 1, by omega⟩
   obtain ⟨x, hxg⟩ : ∃ x, tr[p]? = some x := ⟨_, List.getElem?_eq_getElem (by omega)⟩
   have htk : tr.take (p + 1) = tr.take p ++ [x] := by
    rw [List.take_succ_eq_append_getElem (by omega), (List.getElem?_eq_some_iff.1 hxg).2]
   have hto := htr.take (p + 1)
   rw [htk] at hr hto hT
   obtain ⟨hxt, hnx, hlx⟩ := hto.last
   obtain ⟨x0, x1, x2⟩ := hlx
   have hpl : (tr.take p).length = p := by simp; omega
   obtain ⟨T', hT1, hTx, hr1⟩ := hr.cut hlk rfl
   simp only [AV.ref.injEq, hpl] at hT1
   obtain ⟨rfl, _, _⟩ := hT1
   have hTg : (tr.take p ++ x :: ex)[p]? = some x := by
    rw [List.getElem?_append_right (by omega), hpl]; simp
   have hTl := (List.getElem?_eq_some_iff.1 hTg).1
   have hf1 := hf.set (J := K) (X := .cells 13 [rowK c d (.ref T 0 (tr.take p).length) { (canon c (tr.take p ++ [x]) br md cnt exh) with tr := tr.take p }]) (.inl rfl)
   repeat (first | refine nav ?_ | refine bo ?_)
   (refine W_dreg (by decide +kernel) [] [0, 1, 2, 3, 4, 5, 6, 7, 8, 9, 10, 11, 12] [[], [0], [0, 1], [1, 0, 2], [], [4], [4, 5], [5, 4, 6], [6, 4, 5, 7], [7, 5, 4, 6, 8], [8, 6, 4, 5, 7, 9, 2, 0, 1, 3], [3, 1, 0, 2, 9, 7, 5, 4, 6, 8, 10], [10, 8, 6, 4, 5, 7, 9, 2, 0, 1, 3, 11]] (by decide +kernel) rfl fun K R hK hR => ?_; simp only [List.filterMap_cons, List.filterMap_nil, List.getElem?_cons_zero, List.getElem?_cons_succ, List.cons_append, List.nil_append]; simp (maxSteps := 10000000) only [go_sem, hr.k, rowK, hT, ints_get hTg, hpl, Nat.add_sub_cancel]; (try go_ints); (try simp only [go_sem, hr.k, rowK, hT, ints_get hTg, hpl, Nat.add_sub_cancel]); (repeat refine And.intro side ?_); (first | refine hK _ ?_ | refine hR _ _ ?_); clear hK hR K R)
   repeat (first | refine nav ?_ | refine bo ?_)
   refine W_joinS 28 42 [] (fun t o2 => RepG o2 K d c (.ref T 0 p) ⟨leftL c.list (tr.take p ++ [x]), goodL c.list (tr.take p ++ [x]), zeros (goodL c.list (tr.take p ++ [x])), valL c.vars (tr.take p ++ [x]), tr.take p, br, md, cnt, exh⟩ ∧ Fr o o2 K d ta) ?_ ?_
   ·rw [hpl] at hr1 hf1
    (refine W_dreg (by decide +kernel) [] [0, 1, 2, 3, 4, 5, 6, 7, 8, 9, 10, 11, 12, 13, 14] [[], [], [1], [1, 2], [2, 1, 3], [], [5], [5, 6], [6, 5, 7], [7, 5, 6, 8], [8, 6, 5, 7, 9], [9, 7, 5, 6, 8, 10, 3, 1, 2, 4], [11, 10, 9, 8, 7, 6, 5, 4, 3, 2, 1, 0], [0, 1, 2, 3, 4, 5, 6, 7, 8, 9, 10, 11, 12], [12, 11, 10, 9, 8, 7, 6, 5, 4, 3, 2, 1, 0, 13]] (by decide +kernel) rfl fun K R hK hR => ?_; simp only [List.filterMap_cons, List.filterMap_nil, List.getElem?_cons_zero, List.getElem?_cons_succ, List.cons_append, List.nil_append]; simp (maxSteps := 10000000) only [go_sem, hr.k, rowK, hT, Nat.add_sub_cancel]; (try go_ints); (try simp only [go_sem, hr.k, rowK, hT, Nat.add_sub_cancel]); (repeat refine And.intro side ?_); (first | refine hK _ ?_ | refine hR _ _ ?_); clear hK hR K R)
    exact ⟨_, rfl, hr1, hf1⟩
   clear hr hr1 hf hf1 hT hTl hTg hTx o1
   rintro t5 o1 ⟨hr, hf⟩
   have hxs : (ints [x]) = [[.i .i64 x]] := rfl
   have h4 : ∀ t' : Nat → AV, (upd t' 4 (AV.i .i64 x)) 4 = .i .i64 x := fun _ => rfl
   generalize htp : tr.take p = tp at hr hto hxt hnx hpl htk
   repeat (first | refine nav ?_ | refine bo ?_)
   (refine wr fun K R hK hR => ?_; simp (maxSteps := 10000000) only [go_sem]; (try go_ints); (repeat refine And.intro side ?_); (first | refine hK _ ?_ | refine hR _ _ ?_); clear hK hR K R)
   repeat (first | refine nav ?_ | refine bo ?_)
   refine W_joinS 44 59 [] (fun t o2 => RepG o2 K d c (.ref T 0 p) ⟨leftL c.list (tp ++ [x]), goodL c.list (tp ++ [x]), zeros (goodL c.list (tp ++ [x])), valL c.vars tp, tp, br, md, cnt, exh⟩ ∧ Fr o o2 K d ta) ?_ ?_
   ·have hvu := val_undo (n := c.vars) hxt hnx ⟨x0, x1, x2⟩
    have hvl := valL_len c.vars (tp ++ [x])
    refine W_cond (by simp only [go_sem] <;> exact rfl) (fun hb => ?_) (fun hb => ?_)
    ·have hb : x > 0 := by simpa using hb
     rw [if_pos hb] at hvu
     have hv := valL_get (n := c.vars) (tr := tp ++ [x]) (v := (x - 1).toNat) (by omega)
     rw [← hvu]
     repeat (first | refine nav ?_ | refine bo ?_)
     (refine wr fun K R hK hR => ?_; simp (maxSteps := 10000000) only [go_sem, hr.k, hr.v, rowK, ints_get hv, hvl, ints_set]; (try go_ints); (try simp only [go_sem, hr.k, hr.v, rowK, ints_get hv, hvl, ints_set]); (repeat refine And.intro side ?_); (first | refine hK _ ?_ | refine hR _ _ ?_); clear hK hR K R)
     exact ⟨_, rfl, hr.setV hlk (by simp), hf.set (.inr (.inr (.inr rfl)))⟩
    ·have hb : ¬ x > 0 := by simpa using hb
     rw [if_neg hb] at hvu
     have hv := valL_get (n := c.vars) (tr := tp ++ [x]) (v := (-x - 1).toNat) (by omega)
     have e2 : (0 - x - 1).toNat = (-x - 1).toNat := by omega
     rw [← hvu]
     repeat (first | refine nav ?_ | refine bo ?_)
     (refine wr fun K R hK hR => ?_; simp (maxSteps := 10000000) only [go_sem, hr.k, hr.v, rowK, e2, ints_get hv, hvl, ints_set]; (try go_ints); (try simp only [go_sem, hr.k, hr.v, rowK, e2, ints_get hv, hvl, ints_set]); (repeat refine And.intro side ?_); (first | refine hK _ ?_ | refine hR _ _ ?_); clear hK hR K R)
     exact ⟨_, rfl, hr.setV hlk (by simp), hf.set (.inr (.inr (.inr rfl)))⟩
   clear hr hf o1
   rintro t6 o1 ⟨hr, hf⟩
   have hsum := hc.sum x
   repeat (first | refine nav ?_ | refine bo ?_)
   refine W_joinS 59 67 [] (fun t o' => o' = o1 ∧ t 64 = ivOf c.es x ∧ t 65 = .i .i64 ((innOf c.list x).length : Nat) ∧ t 66 = .i .i64 0) ?_ ?_
   ·rcases hr.inn x with ⟨hm, h⟩ | ⟨I, hm, hI, _⟩
    ·(refine wr fun K R hK hR => ?_; simp (maxSteps := 10000000) only [go_sem, hr.k, rowK, hr.m, hm]; (try go_ints); (try simp only [go_sem, hr.k, rowK, hr.m, hm]); (repeat refine And.intro side ?_); (first | refine hK _ ?_ | refine hR _ _ ?_); clear hK hR K R)
     exact ⟨_, rfl, rfl, by simp only [go_sem, ivOf, hm], by simp only [go_sem, h] <;> rfl, by simp only [go_sem]⟩
    ·(refine wr fun K R hK hR => ?_; simp (maxSteps := 10000000) only [go_sem, hr.k, rowK, hr.m, hm]; (try go_ints); (try simp only [go_sem, hr.k, rowK, hr.m, hm]); (repeat refine And.intro side ?_); (first | refine hK _ ?_ | refine hR _ _ ?_); clear hK hR K R)
     exact ⟨_, rfl, rfl, by simp only [go_sem, ivOf, hm], by simp only [go_sem], by simp only [go_sem]⟩
   rintro t7 o1' ⟨rfl, h64, h65, h66⟩
   have hgp := goodL_put (list := c.list) hxt
   have hbb := bump_bump 1 (-1) (innOf c.list x) (goodL c.list tp) (fun i hi => by obtain ⟨q, rfl, _⟩ := innOf_mem hi; omega) (by omega)
   rw [hgp] at hbb
   generalize hisx : innOf c.list x = is at h65 hsum hbb
   repeat (first | refine nav ?_ | refine bo ?_)
   refine W_for 66 95 [6] (fun m t o2 => ∃ k : Nat, RepG o2 K d c (.ref T 0 p) ⟨leftL c.list (tp ++ [x]), bump (-1) (goodL c.list (tp ++ [x])) (is.take k), zeros (bump (-1) (goodL c.list (tp ++ [x])) (is.take k)), valL c.vars tp, tp, br, md, cnt, exh⟩ ∧ Fr o o2 K d ta ∧ t 66 = .i .i64 k ∧ m = is.length - k ∧ k ≤ is.length) is.length
    ⟨0, hr, hf, by simp only [go_sem, h66] <;> rfl, by omega, Nat.zero_le _⟩ ?_
   clear h66
   rintro m t3 o2 ⟨k, hr2, hf2, h66, rfl, hk⟩
   repeat (first | refine nav ?_ | refine bo ?_)
   (refine wr fun K R hK hR => ?_; simp (maxSteps := 10000000) only [go_sem, h66, h65]; (try go_ints); (try simp only [go_sem, h66, h65]); (repeat refine And.intro side ?_); (first | refine hK _ ?_ | refine hR _ _ ?_); clear hK hR K R)
   repeat (first | refine nav ?_ | refine bo ?_)
   refine W_cond (by simp only [go_sem] <;> exact rfl) (fun hb => ?_) (fun hb => ?_)
   ·simp at hb
    obtain ⟨i, hi⟩ : ∃ i, is[k]? = some i := ⟨_, List.getElem?_eq_getElem hb⟩
    obtain ⟨j, rfl, hj, _⟩ := innOf_mem (list := c.list) (x := x) (by rw [hisx]; exact List.mem_of_getElem? hi)
    have hin := hr2.inn x
    unfold InAt at hin
    rw [hisx] at hin
    rcases hin with ⟨_, q2⟩ | ⟨I, hm, hI, i1, i2, i3, _⟩
    ·subst q2; simp at hb
    have hiv : ivOf c.es x = .ref I 0 is.length := by rw [ivOf, hm]
    have hgl : (bump (-1) (goodL c.list (tp ++ [x])) (is.take k)).length = c.list.length := by rw [bump_len, goodL_len]
    obtain ⟨gv, hgv⟩ : ∃ v, (bump (-1) (goodL c.list (tp ++ [x])) (is.take k))[j]? = some v := ⟨_, List.getElem?_eq_getElem (by omega)⟩
    have hgb := bump_bd hc (tp ++ [x]) x (-1) (.inr rfl) k j _ (.inl rfl) (by rw [hisx]; exact hgv)
    have hg1 : 1 ≤ gv := by
     have e1 := bump_get (-1) (is.take k) (goodL c.list (tp ++ [x])) j (fun i hi => by
      obtain ⟨q, rfl, _⟩ := innOf_mem (list := c.list) (x := x) (by rw [hisx]; exact List.mem_of_mem_take hi); omega) (by rw [goodL_len]; exact hj)
     rw [getD_of2 hgv, getD_of2 (goodL_get hj), good_put (n := 0) hxt] at e1
     have e2 := count_take_lt hi
     have e3 := innOf_count c.list x j hj
     rw [hisx] at e3
     omega
    obtain ⟨_, hgb⟩ := hgb
    have hz := bump_zeros hi hgv
    have hzb := zeros_bd (bump (-1) (goodL c.list (tp ++ [x])) (is.take k))
    have hst := bump_step hi hgv
    rw [hgl] at hzb
    generalize bump (-1) (goodL c.list (tp ++ [x])) (is.take k) = gd at hr2 hgl hgv hz hzb hst
    have hst' : gd.set j (gv - 1) = bump (-1) (goodL c.list (tp ++ [x])) (is.take (k + 1)) := hst
    have hr3 := hr2.setG (g' := gd.set j (gv - 1)) hlk (by simp)
    have hf3 := hf2.set (J := d.G) (X := .cells 1 (ints (gd.set j (gv - 1)))) (.inr (.inr (.inl rfl)))
    have hgl3 : (gd.set j (gv - 1)).length = c.list.length := by rw [List.length_set, hgl]
    have hgv3 : (gd.set j (gv - 1))[j]? = some (gv - 1) := by rw [List.getElem?_set, if_pos rfl, if_pos (by omega)]
    repeat (first | refine nav ?_ | refine bo ?_)
    (refine wr fun K R hK hR => ?_; simp (maxSteps := 10000000) only [go_sem, h66, h64, hiv, hI, ints_get hi]; (try go_ints); (try simp only [go_sem, h66, h64, hiv, hI, ints_get hi]); (repeat refine And.intro side ?_); (first | refine hK _ ?_ | refine hR _ _ ?_); clear hK hR K R)
    repeat (first | refine nav ?_ | refine bo ?_)
    (refine wr fun K R hK hR => ?_; simp (maxSteps := 10000000) only [go_sem, hr2.k, rowK, hr2.g, ints_get hgv, hgl, ints_set]; (try go_ints); (try simp only [go_sem, hr2.k, rowK, hr2.g, ints_get hgv, hgl, ints_set]); (repeat refine And.intro side ?_); (first | refine hK _ ?_ | refine hR _ _ ?_); clear hK hR K R)
    generalize o2.set d.G (.cells 1 (ints (gd.set j (gv - 1)))) = o3 at hr3 hf3 ⊢
    rw [hst'] at hr3 hgl3 hgv3
    repeat (first | refine nav ?_ | refine bo ?_)
    (refine wr fun K R hK hR => ?_; simp (maxSteps := 10000000) only [go_sem, hr3.k, rowK, hr3.g, ints_get hgv3, hgl3]; (try go_ints); (try simp only [go_sem, hr3.k, rowK, hr3.g, ints_get hgv3, hgl3]); (repeat refine And.intro side ?_); (first | refine hK _ ?_ | refine hR _ _ ?_); clear hK hR K R)
    repeat (first | refine nav ?_ | refine bo ?_)
    refine W_cond (by simp only [go_sem] <;> exact rfl) (fun hc1 => ?_) (fun hc1 => ?_)
    ·have hc1 : gv - 1 = 0 := by simpa using hc1
     have hz : zeros (bump (-1) (goodL c.list (tp ++ [x])) (is.take (k + 1))) = zeros gd + 1 := by
      rw [hz, if_neg (by omega), if_pos (by omega)]; omega
     repeat (first | refine nav ?_ | refine bo ?_)
     (refine wr fun K R hK hR => ?_; simp (maxSteps := 10000000) only [go_sem, hr3.k, rowK]; (try go_ints); (try simp only [go_sem, hr3.k, rowK]); (repeat refine And.intro side ?_); (first | refine hK _ ?_ | refine hR _ _ ?_); clear hK hR K R)
     repeat (first | refine nav ?_ | refine bo ?_)
     (refine wr fun K R hK hR => ?_; simp (maxSteps := 10000000) only [go_sem, h66]; (try go_ints); (try simp only [go_sem, h66]); (repeat refine And.intro side ?_); (first | refine hK _ ?_ | refine hR _ _ ?_); clear hK hR K R)
     refine forQ_normal (is.length - (k + 1)) (by omega) ⟨k + 1, ?_, hf3.set (.inl rfl), ?_⟩
     ·rw [hz]
      exact hr3.setK hlk hr3.taOk (s' := ⟨leftL c.list (tp ++ [x]), bump (-1) (goodL c.list (tp ++ [x])) (is.take (k + 1)), zeros gd + 1, valL c.vars tp, tp, br, md, cnt, exh⟩) rfl rfl rfl rfl hr3.md
     ·((try simp only [go_sem]); (repeat' refine And.intro ?_ ?_) <;> (try first | with_reducible rfl | omega | with_reducible assumption | (simp; done)))
    ·have hc1 : ¬ gv - 1 = 0 := by simpa using hc1
     have hz : zeros (bump (-1) (goodL c.list (tp ++ [x])) (is.take (k + 1))) = zeros gd := by
      rw [hz, if_neg (by omega), if_neg (by omega)]; omega
     repeat (first | refine nav ?_ | refine bo ?_)
     (refine wr fun K R hK hR => ?_; simp (maxSteps := 10000000) only [go_sem, h66]; (try go_ints); (try simp only [go_sem, h66]); (repeat refine And.intro side ?_); (first | refine hK _ ?_ | refine hR _ _ ?_); clear hK hR K R)
     refine forQ_normal (is.length - (k + 1)) (by omega) ⟨k + 1, ?_, hf3, ?_⟩
     ·rw [hz]; exact hr3
     ·((try simp only [go_sem]); (repeat' refine And.intro ?_ ?_) <;> (try first | with_reducible rfl | omega | with_reducible assumption | (simp; done)))
   ·simp at hb
    obtain rfl : is.length = k := by omega
    rw [List.take_length, hbb] at hr2
    clear hr hf hsum
    have hsum := hc.sum (-x)
    have hlp := leftL_put (list := c.list) hxt
    have hlb := bump_bump (-1) 1 (innOf c.list (-x)) (leftL c.list tp) (fun i hi => by obtain ⟨q, rfl, _⟩ := innOf_mem hi; omega) (by omega)
    rw [hlp] at hlb
    repeat (first | refine nav ?_ | refine bo ?_)
    refine W_joinS 95 104 [] (fun t o' => o' = o2 ∧ t 101 = ivOf c.es (-x) ∧ t 102 = .i .i64 ((innOf c.list (-x)).length : Nat) ∧ t 103 = .i .i64 0) ?_ ?_
    ·rcases hr2.inn (-x) with ⟨hm, h⟩ | ⟨I, hm, hI, _⟩
     ·(refine wr fun K R hK hR => ?_; simp (maxSteps := 10000000) only [go_sem, hr2.k, rowK, hr2.m, Int.zero_sub, hm]; (try go_ints); (try simp only [go_sem, hr2.k, rowK, hr2.m, Int.zero_sub, hm]); (repeat refine And.intro side ?_); (first | refine hK _ ?_ | refine hR _ _ ?_); clear hK hR K R)
      exact ⟨_, rfl, rfl, by simp only [go_sem, ivOf, hm], by simp only [go_sem, h] <;> rfl, by simp only [go_sem]⟩
     ·(refine wr fun K R hK hR => ?_; simp (maxSteps := 10000000) only [go_sem, hr2.k, rowK, hr2.m, Int.zero_sub, hm]; (try go_ints); (try simp only [go_sem, hr2.k, rowK, hr2.m, Int.zero_sub, hm]); (repeat refine And.intro side ?_); (first | refine hK _ ?_ | refine hR _ _ ?_); clear hK hR K R)
      exact ⟨_, rfl, rfl, by simp only [go_sem, ivOf, hm], by simp only [go_sem], by simp only [go_sem]⟩
    rintro t8 o2' ⟨rfl, h101, h102, h103⟩
    generalize hisn : innOf c.list (-x) = js at h102 hsum hlb
    repeat (first | refine nav ?_ | refine bo ?_)
    refine W_for 103 117 [8] (fun m t o2 => ∃ k : Nat, RepG o2 K d c (.ref T 0 p) ⟨bump 1 (leftL c.list (tp ++ [x])) (js.take k), goodL c.list tp, zeros (goodL c.list tp), valL c.vars tp, tp, br, md, cnt, exh⟩ ∧ Fr o o2 K d ta ∧ t 103 = .i .i64 k ∧ m = js.length - k ∧ k ≤ js.length) js.length
     ⟨0, hr2, hf2, by simp only [go_sem, h103] <;> rfl, by omega, Nat.zero_le _⟩ ?_
    clear hr2 hf2 h103
    rintro m t4 o2 ⟨k, hr2, hf2, h103, rfl, hk⟩
    repeat (first | refine nav ?_ | refine bo ?_)
    (refine wr fun K R hK hR => ?_; simp (maxSteps := 10000000) only [go_sem, h103, h102]; (try go_ints); (try simp only [go_sem, h103, h102]); (repeat refine And.intro side ?_); (first | refine hK _ ?_ | refine hR _ _ ?_); clear hK hR K R)
    repeat (first | refine nav ?_ | refine bo ?_)
    refine W_cond (by simp only [go_sem] <;> exact rfl) (fun hb => ?_) (fun hb => ?_)
    ·simp at hb
     obtain ⟨i, hi⟩ : ∃ i, js[k]? = some i := ⟨_, List.getElem?_eq_getElem hb⟩
     obtain ⟨j, rfl, hj, _⟩ := innOf_mem (list := c.list) (x := -x) (by rw [hisn]; exact List.mem_of_getElem? hi)
     have hin := hr2.inn (-x)
     unfold InAt at hin
     rw [hisn] at hin
     rcases hin with ⟨_, q2⟩ | ⟨I, hm, hI, i1, i2, i3, _⟩
     ·subst q2; simp at hb
     have hiv : ivOf c.es (-x) = .ref I 0 js.length := by rw [ivOf, hm]
     have hgl : (bump 1 (leftL c.list (tp ++ [x])) (js.take k)).length = c.list.length := by rw [bump_len, leftL_len]
     obtain ⟨gv, hgv⟩ : ∃ v, (bump 1 (leftL c.list (tp ++ [x])) (js.take k))[j]? = some v := ⟨_, List.getElem?_eq_getElem (by omega)⟩
     have hgb := (bump_bd hc (tp ++ [x]) (-x) 1 (.inl rfl) k j _ (.inr rfl) (by rw [hisn]; exact hgv)).2
     have hst := bump_step hi hgv
     generalize bump 1 (leftL c.list (tp ++ [x])) (js.take k) = gd at hr2 hgl hgv hst
     repeat (first | refine nav ?_ | refine bo ?_)
     (refine wr fun K R hK hR => ?_; simp (maxSteps := 10000000) only [go_sem, h103, h101, hiv, hI, ints_get hi]; (try go_ints); (try simp only [go_sem, h103, h101, hiv, hI, ints_get hi]); (repeat refine And.intro side ?_); (first | refine hK _ ?_ | refine hR _ _ ?_); clear hK hR K R)
     repeat (first | refine nav ?_ | refine bo ?_)
     (refine wr fun K R hK hR => ?_; simp (maxSteps := 10000000) only [go_sem, hr2.k, rowK, hr2.l, ints_get hgv, hgl, ints_set]; (try go_ints); (try simp only [go_sem, hr2.k, rowK, hr2.l, ints_get hgv, hgl, ints_set]); (repeat refine And.intro side ?_); (first | refine hK _ ?_ | refine hR _ _ ?_); clear hK hR K R)
     have hr3 := hr2.setL (g' := gd.set j (gv + 1)) hlk (by simp)
     rw [hst] at hr3
     rw [hst]
     repeat (first | refine nav ?_ | refine bo ?_)
     (refine wr fun K R hK hR => ?_; simp (maxSteps := 10000000) only [go_sem, h103]; (try go_ints); (try simp only [go_sem, h103]); (repeat refine And.intro side ?_); (first | refine hK _ ?_ | refine hR _ _ ?_); clear hK hR K R)
     refine forQ_normal (js.length - (k + 1)) (by omega) ⟨k + 1, hr3, hf2.set (.inr (.inl rfl)), ?_⟩
     ((try simp only [go_sem]); (repeat' refine And.intro ?_ ?_) <;> (try first | with_reducible rfl | omega | with_reducible assumption | (simp; done)))
    ·simp at hb
     obtain rfl : js.length = k := by omega
     rw [List.take_length, hlb] at hr2
     subst htp
     rw [mix_mix (lo := 28) (lo' := 9) rfl]
     simp only [mix_upd, inL, Nat.reduceLeDiff, Nat.reduceLT, decide_true, Bool.true_and, Bool.and_true, Bool.true_or, if_true]
     rw [mix_mix (lo := 44) (lo' := 9) rfl, mix_mix (lo := 59) (lo' := 9) rfl, mix_mix (lo := 66) (lo' := 9) rfl, mix_mix (lo := 95) (lo' := 9) rfl, mix_mix (lo := 103) (lo' := 9) rfl]
     repeat (first | refine nav ?_ | refine bo ?_)
     refine forQ_normal (p - n) (by omega) ⟨p, .ref T 0 p, ?_, hf2, fun j l e => htaT j l _ e, rfl, by omega, by omega⟩
     exact hr2
  ·simp at hb
   have : n = q := by omega
   subst this
   repeat (first | refine nav ?_ | refine bo ?_)
   refine endQ_alln (by simp only [go_sem] <;> exact rfl) (Le.refl _) hf.1 hr.ok rfl ⟨rfl, _, hr, hf, fun j l e => htaT j l _ e⟩
end Go.AW
namespace Go.AW
open Go Go.Proofs TyTry Go.IntWalk
set_option linter.unusedSimpArgs false
set_option linter.unusedVariables false
def litB (a : List Bool) (x : Int) : Bool := if x > 0 then a.getD (x - 1).toNat false else !(a.getD (-x - 1).toNat false)
def satC (list : List (List Int)) (a : List Bool) : Bool := list.all fun l => l.any (litB a)
def agr (tr : List Int) (a : List Bool) : Bool := tr.all (litB a)
theorem litB_neg {a : List Bool} {x : Int} (h : x ≠ 0) : litB a (-x) = !litB a x := by
 unfold litB
 by_cases h1 : x > 0
 ·rw [if_pos h1, if_neg (by omega), Int.neg_neg]
 ·rw [if_neg h1, if_pos (by omega), Bool.not_not]
theorem agr_app {t u : List Int} {a : List Bool} : agr (t ++ u) a = (agr t a && agr u a) := by simp [agr]
theorem agr_mem {t : List Int} {a : List Bool} (h : agr t a = true) {x : Int} (hx : x ∈ t) : litB a x = true := List.all_eq_true.1 h x hx
def Quiet (list : List (List Int)) (tr : List Int) : Prop := ∀ i < list.length, list.getD i [] ≠ [] → goodOf list tr i = 0 → leftOf list tr i ≠ 0
theorem nodup_len2 : ∀ (n : Nat) (l : List Nat), l.Nodup → (∀ x ∈ l, x < n) → l.length ≤ n
 | 0, l, _, h => by
  cases l with
  | nil => simp
  | cons a l => have := h a (by simp); omega
 | n + 1, l, hd, h => by
  by_cases hn : n ∈ l
  ·have h1 := nodup_len2 n (l.erase n) (hd.erase n) fun x hx => by
    rw [hd.mem_erase_iff] at hx
    have h2 := h x hx.2
    have h3 := hx.1
    omega
   rw [List.length_erase_of_mem hn] at h1
   omega
  ·have := nodup_len2 n l hd fun x hx => by
    have h2 := h x hx
    have h3 : x ≠ n := fun e => hn (e ▸ hx)
    omega
   omega
theorem TrOk.len {n : Nat} {tr : List Int} (h : TrOk n tr) : tr.length ≤ n := by
 have h1 : (tr.map fun x => x.natAbs - 1).Nodup := by
  have key : ∀ tr : List Int, tr.Nodup → (∀ x ∈ tr, x ≠ 0) → (∀ x ∈ tr, -x ∉ tr) → (tr.map fun x => x.natAbs - 1).Nodup := by
   intro tr
   induction tr with
   | nil => intro _ _ _; simp
   | cons x tr ih =>
    intro hnd h0 hop
    rw [List.nodup_cons] at hnd
    rw [List.map_cons, List.nodup_cons]
    refine ⟨fun hm => ?_, ih hnd.2 (fun y hy => h0 y (by simp [hy])) fun y hy hn => hop y (by simp [hy]) (by simp [hn])⟩
    rw [List.mem_map] at hm
    obtain ⟨y, hy, e⟩ := hm
    have hy0 := h0 y (by simp [hy])
    have hx0 := h0 x (by simp)
    have e2 : y = x ∨ y = -x := by omega
    rcases e2 with rfl | rfl
    ·exact hnd.1 hy
    ·exact hop x (by simp) (by simp [hy])
  exact key tr h.nd (fun x hx => (h.lit x hx).1) h.opp
 have := nodup_len2 n _ h1 fun y hy => by
  rw [List.mem_map] at hy
  obtain ⟨x, hx, rfl⟩ := hy
  obtain ⟨a, b, c⟩ := h.lit x hx
  omega
 simpa using this
theorem TrOk.snoc {n : Nat} {tr : List Int} {x : Int} (h : TrOk n tr) (hx : LitOk n x) (h1 : x ∉ tr) (h2 : -x ∉ tr) : TrOk n (tr ++ [x]) := by
 refine ⟨?_, fun y hy => ?_, fun y hy hn => ?_⟩
 ·rw [List.nodup_append]
  refine ⟨h.nd, by simp, fun a ha b hb => ?_⟩
  simp only [List.mem_singleton] at hb
  subst hb
  exact fun e => h1 (e ▸ ha)
 ·simp only [List.mem_append, List.mem_singleton] at hy
  rcases hy with hy | rfl
  ·exact h.lit y hy
  ·exact hx
 ·simp only [List.mem_append, List.mem_singleton] at hy hn
  have := hx.1
  rcases hy with hy | rfl
  ·rcases hn with hn | hn
   ·exact h.opp y hy hn
   ·exact h2 (by rw [← hn, Int.neg_neg]; exact hy)
  ·rcases hn with hn | hn
   ·exact h2 hn
   ·omega
theorem isL_cases {n : Nat} {tr : List Int} (h : TrOk n tr) (x : Int) : (isL tr x = 1 ∧ x ∈ tr ∧ -x ∉ tr) ∨ (isL tr x = -1 ∧ -x ∈ tr ∧ x ∉ tr) ∨ (isL tr x = 0 ∧ x ∉ tr ∧ -x ∉ tr) := by
 unfold isL
 by_cases h1 : x ∈ tr
 ·exact .inl ⟨by simp [h1], h1, h.opp x h1⟩
 ·by_cases h2 : -x ∈ tr
  ·exact .inr (.inl ⟨by simp [h1, h2], h2, h1⟩)
  ·exact .inr (.inr ⟨by simp [h1, h2], h1, h2⟩)
theorem no_left {list : List (List Int)} {tr : List Int} {i : Nat} (hi : i < list.length) (h0 : ∀ l ∈ list, ∀ x ∈ l, x ≠ 0) (hl : leftOf list tr i = 0) {a : List Bool} (hs : satC list a = true) (ha : agr tr a = true) : False := by
 have hg : list.getD i [] = list[i] := by simp [hi]
 rw [leftOf, hg, List.length_eq_zero_iff, List.filter_eq_nil_iff] at hl
 have h1 := List.all_eq_true.1 hs list[i] (List.getElem_mem hi)
 rw [List.any_eq_true] at h1
 obtain ⟨x, hx, hb⟩ := h1
 have h2 := hl x hx
 have h3 : -x ∈ tr := by simpa using h2
 have h4 := agr_mem ha h3
 rw [litB_neg (h0 _ (List.getElem_mem hi) x hx), hb] at h4
 cases h4
theorem one_left {list : List (List Int)} {tr : List Int} {i : Nat} (hi : i < list.length) (h0 : ∀ l ∈ list, ∀ x ∈ l, x ≠ 0) (hl : leftOf list tr i = 1) {z : Int} (hz : z ∈ list.getD i []) (hzt : -z ∉ tr) {a : List Bool} (hs : satC list a = true) (ha : agr tr a = true) : litB a z = true := by
 have hg : list.getD i [] = list[i] := by simp [hi]
 rw [hg] at hz
 rw [leftOf, hg] at hl
 have h1 := List.all_eq_true.1 hs list[i] (List.getElem_mem hi)
 rw [List.any_eq_true] at h1
 obtain ⟨x, hx, hb⟩ := h1
 have hxt : -x ∉ tr := fun hm => by
  have h4 := agr_mem ha hm
  rw [litB_neg (h0 _ (List.getElem_mem hi) x hx), hb] at h4
  cases h4
 obtain ⟨w, hw⟩ := List.length_eq_one_iff.1 hl
 have e1 : x ∈ (list[i].filter fun y => !(tr.contains (-y))) := List.mem_filter.2 ⟨hx, by simpa using hxt⟩
 have e2 : z ∈ (list[i].filter fun y => !(tr.contains (-y))) := List.mem_filter.2 ⟨hz, by simpa using hzt⟩
 rw [hw, List.mem_singleton] at e1 e2
 rw [e2, ← e1]; exact hb
theorem open_left {n : Nat} {list : List (List Int)} {tr : List Int} {i : Nat} (htr : TrOk n tr) (hg : goodOf list tr i = 0) (hl : leftOf list tr i ≠ 0) : ∃ z ∈ list.getD i [], isL tr z = 0 := by
 unfold leftOf at hl
 rw [goodOf, List.length_eq_zero_iff, List.filter_eq_nil_iff] at hg
 obtain ⟨z, hz⟩ : ∃ z, z ∈ ((list.getD i []).filter fun y => !(tr.contains (-y))) := by
  cases hq : ((list.getD i []).filter fun y => !(tr.contains (-y))) with
  | nil => rw [hq] at hl; simp at hl
  | cons z r => exact ⟨z, by simp⟩
 rw [List.mem_filter] at hz
 refine ⟨z, hz.1, ?_⟩
 have h1 : z ∉ tr := by simpa using hg z hz.1
 have h2 : -z ∉ tr := by simpa using hz.2
 rcases isL_cases htr z with h | h | h
 ·exact absurd h.2.1 h1
 ·exact absurd h.2.1 h2
 ·exact h.1
structure SetPost (n : Nat) (list : List (List Int)) (tr : List Int) (x : Int) (b : Bool) (tr' : List Int) : Prop where
 ok : TrOk n tr'
 ext : ∃ e, tr' = tr ++ e
 yes : b = true → x ∈ tr' ∧ Quiet list tr' ∧ ∀ a, satC list a = true → agr tr a = true → litB a x = true → agr tr' a = true
 no : b = false → ∀ a, satC list a = true → agr tr a = true → litB a x = true → False
end Go.AW
namespace Go.AW
open Go Go.Proofs TyTry Go.IntWalk
set_option linter.unusedSimpArgs false
set_option linter.unusedVariables false
set_option maxRecDepth 10000
set_option maxHeartbeats 1000000
section
variable {o o1 : List Ob} {K : Nat} {d : IdS} {c : Env} {ta : AV} {s : SV}
theorem RepG.others {o0 : List Ob} {ta0 : AV} {s0 : SV} (h0 : RepG o0 K d c ta0 s0) (h : RepG o K d c ta s) {Q : Nat} (hQ : o0.length ≤ Q) (hta : ∀ l, ta ≠ .ref Q 0 l) (hlen : o.length ≤ o1.length) (hpre : ∀ j X, o[j]? = some X → j ≠ Q → o1[j]? = some X) (hok : okO o1 = true) : RepG o1 K d c ta s := by
 have lK := (List.getElem?_eq_some_iff.1 h0.k).1
 have lM := (List.getElem?_eq_some_iff.1 h0.m).1
 have lL := (List.getElem?_eq_some_iff.1 h0.l).1
 have lG := (List.getElem?_eq_some_iff.1 h0.g).1
 have lV := (List.getElem?_eq_some_iff.1 h0.v).1
 refine ⟨hok, hpre _ _ h.k (by omega), hpre _ _ h.m (by omega), hpre _ _ h.l (by omega), hpre _ _ h.g (by omega), hpre _ _ h.v (by omega), h.lg, h.lv, h.gv, h.ll, h.gl, h.vl, ?_, fun x => ?_, ⟨ltk_mono hlen _ h.md.1, h.md.2⟩⟩
 ·rcases h.t with ⟨a, b⟩ | ⟨T, ex, a, b, t1⟩
  ·exact .inl ⟨a, b⟩
  ·exact .inr ⟨T, ex, a, hpre _ _ b (fun e => hta _ (by rw [a, e])), t1⟩
 ·rcases h.inn x with q | ⟨I, r1, r2, r3⟩
  ·exact .inl q
  ·refine .inr ⟨I, r1, hpre _ _ r2 ?_, r3⟩
   rcases h0.inn x with ⟨q, _⟩ | ⟨I', q1, q2, _⟩
   ·rw [q] at r1; cases r1
   ·rw [q1] at r1
    simp only [Option.some.injEq, AV.ref.injEq] at r1
    have := (List.getElem?_eq_some_iff.1 q2).1
    omega
theorem RepG.push (h : RepG o K d c ta s) (X : List Ob) (hok : okO (o ++ X) = true) : RepG (o ++ X) K d c ta s := by
 refine RepG.others h h (Q := o.length) (Nat.le_refl _) (fun l e => ?_) (by simp) (fun j X hj _ => app_get _ hj) hok
 rcases h.t with ⟨a, _⟩ | ⟨T, ex, a, b, _⟩
 ·rw [a] at e; cases e
 ·rw [a] at e
  simp only [AV.ref.injEq] at e
  have := (List.getElem?_eq_some_iff.1 b).1
  omega
end
theorem set1_spec {o : List Ob} {K B : Nat} {d : IdS} {c : Env} {ta : AV} {s : SV} (h : RepG o K d c ta s) (hc : EnvOk c) {tr : List Int} (htr : TrOk c.vars tr) (hs : s.val = valL c.vars tr) (hB : o[B]? = some (.cells 1 [[.ptr K 0 0]])) {x : Int} (hx : LitOk c.vars x) :
  ACallsQ Try.prog 100 [.i .i64 x, .ptr B 0 0] o (.b (isL tr x == 0)) := by
 have ho := h.ok
 have lK := (List.getElem?_eq_some_iff.1 h.k).1
 refine ACalls_of' (n := 8) (rs := [.tmp 3]) (show Try.prog.funcs[100]? = some Try.f100 by kernel_rfl) rfl rfl rfl (by simp) (by decide +kernel) ?_
 repeat (first | refine nav ?_ | refine bo ?_)
 (refine wr fun K R hK hR => ?_; simp (maxSteps := 10000000) only [go_sem]; (try go_ints); (repeat refine And.intro side ?_); (first | refine hK _ ?_ | refine hR _ _ ?_); clear hK hR K R)
 repeat (first | refine nav ?_ | refine bo ?_)
 (refine wr fun K R hK hR => ?_; simp (maxSteps := 10000000) only [go_sem, hB]; (try go_ints); (try simp only [go_sem, hB]); (repeat refine And.intro side ?_); (first | refine hK _ ?_ | refine hR _ _ ?_); clear hK hR K R)
 refine RL_callQ (is_spec h hc htr hs hx) (by simp only [go_sem] <;> exact rfl) rfl rfl (by simp) (by simp only [go_sem] <;> exact LeA.refl _) ho (by simp [AV.ltk]; omega) rfl ?_
 (refine rr fun K R hK hR => ?_; simp (maxSteps := 10000000) only [go_sem]; (try go_ints); (repeat refine And.intro side ?_); (first | refine hK _ ?_ | refine hR _ _ ?_); clear hK hR K R)
 repeat (first | refine nav ?_ | refine bo ?_)
 refine endQ_quiet0 (by simp only [go_sem] <;> exact rfl) (Le.of_eq ?_) (by assumption) rfl
 rfl
structure SetInv (o0 : List Ob) (K B : Nat) (d : IdS) (c : Env) (tr : List Int) (x : Int) (br cnt : Int) (md : AV) (exh : Bool) (o : List Ob) (ta : AV) (tr1 : List Int) (Q : Nat) (pre q : List Int) : Prop where
 rep : RepG o K d c ta (canon c tr1 br md cnt exh)
 ok : TrOk c.vars tr1
 ext : ∃ e, tr1 = tr ++ e
 has : x ∈ tr1 ∨ x ∈ q
 lit : ∀ z ∈ q, LitOk c.vars z
 imp : ∀ a, satC c.list a = true → agr tr a = true → litB a x = true → agr tr1 a = true ∧ ∀ z ∈ q, litB a z = true
 hB : o[B]? = some (.cells 1 [[.ptr K 0 0]])
 taB : ∀ l, ta ≠ .ref B 0 l
 hQ : o[Q]? = some (.cells 1 (ints (pre ++ q)))
 taQ : ∀ l, ta ≠ .ref Q 0 l
 nB : o0.length ≤ B
 nQ : o0.length ≤ Q
 ne : Q ≠ B
 len : o0.length ≤ o.length
theorem isD_call {K B : Nat} {o : List Ob} (h : o[B]? = some (.cells 1 [[.ptr K 0 0]])) : B < o.length := (List.getElem?_eq_some_iff.1 h).1
theorem set_spec {o : List Ob} {K : Nat} {d : IdS} {c : Env} {ta : AV} {tr : List Int} {br cnt : Int} {md : AV} {exh : Bool} (h : RepG o K d c ta (canon c tr br md cnt exh)) (hc : EnvOk c) (htr : TrOk c.vars tr) (hq : Quiet c.list tr) {x : Int} (hx : LitOk c.vars x) :
  ACalls Try.prog 82 [.ptr K 0 0, .i .i64 x] o fun r o' => ∃ b tr' ta', r = .b b ∧ SetPost c.vars c.list tr x b tr' ∧ RepG o' K d c ta' (canon c tr' br md cnt exh) ∧ o.length ≤ o'.length := by
 have hok := h.ok
 have lK := (List.getElem?_eq_some_iff.1 h.k).1
 have hcv := hc.vars
 have hnz : ∀ l ∈ c.list, ∀ y ∈ l, y ≠ 0 := fun l hl y hy => (hc.lit l hl y hy).1
 have hokB : okO (o ++ [Ob.cells 1 [[.ptr K 0 0]]]) = true := okO_app hok (by simp [Ob.ltk, AV.ltk]; omega)
 have hB := h.push [Ob.cells 1 [[.ptr K 0 0]]] hokB
 refine ACalls_of' (n := 92) (rs := [.tmp 4]) (show Try.prog.funcs[82]? = some Try.f82 by kernel_rfl) rfl rfl rfl (by simp) (by decide +kernel) ?_
 repeat (first | refine nav ?_ | refine bo ?_)
 (refine wr fun K R hK hR => ?_; simp (maxSteps := 10000000) only [go_sem]; (try go_ints); (repeat refine And.intro side ?_); (first | refine hK _ ?_ | refine hR _ _ ?_); clear hK hR K R)
 repeat (first | refine nav ?_ | refine bo ?_)
 (refine wr fun K R hK hR => ?_; simp (maxSteps := 10000000) only [go_sem]; (try go_ints); (repeat refine And.intro side ?_); (first | refine hK _ ?_ | refine hR _ _ ?_); clear hK hR K R)
 refine RL_callQ (is_spec hB hc htr rfl hx) (by simp only [go_sem] <;> exact rfl) rfl rfl (by simp) (by simp only [go_sem] <;> exact LeA.refl _) hokB (by simp [AV.ltk]; omega) rfl ?_
 (refine rr fun K R hK hR => ?_; simp (maxSteps := 10000000) only [go_sem]; (try go_ints); (repeat refine And.intro side ?_); (first | refine hK _ ?_ | refine hR _ _ ?_); clear hK hR K R)
 repeat (first | refine nav ?_ | refine bo ?_)
 refine W_cond (by simp only [go_sem] <;> exact rfl) (fun hb => ?_) (fun hb => ?_)
 ·have hb : isL tr x ≠ 0 := by simpa using hb
  repeat (first | refine nav ?_ | refine bo ?_)
  (refine wr fun K R hK hR => ?_; simp (maxSteps := 10000000) only [go_sem]; (try go_ints); (repeat refine And.intro side ?_); (first | refine hK _ ?_ | refine hR _ _ ?_); clear hK hR K R)
  refine RL_callQ (is_spec hB hc htr rfl hx) (by simp only [go_sem] <;> exact rfl) rfl rfl (by simp) (by simp only [go_sem] <;> exact LeA.refl _) hokB (by simp [AV.ltk]; omega) rfl ?_
  (refine rr fun K R hK hR => ?_; simp (maxSteps := 10000000) only [go_sem]; (try go_ints); (repeat refine And.intro side ?_); (first | refine hK _ ?_ | refine hR _ _ ?_); clear hK hR K R)
  repeat (first | refine nav ?_ | refine bo ?_)
  refine endQ_all (by simp only [go_sem] <;> exact rfl) (Le.refl _) (by simp) hokB rfl ⟨_, tr, ta, rfl, ?_, hB, by simp⟩
  rcases isL_cases htr x with ⟨e, h1, h2⟩ | ⟨e, h1, h2⟩ | ⟨e, _⟩
  ·rw [e]
   exact ⟨htr, ⟨[], by simp⟩, fun _ => ⟨h1, hq, fun a _ h _ => h⟩, fun h => by simp at h⟩
  ·rw [e]
   refine ⟨htr, ⟨[], by simp⟩, fun h => by simp at h, fun _ a _ ha hl => ?_⟩
   have := agr_mem ha h1
   rw [litB_neg hx.1, hl] at this
   cases this
  ·exact absurd e hb
 ·have hb : isL tr x = 0 := by simpa using hb
  repeat (first | refine nav ?_ | refine bo ?_)
  (refine W_reg [1000000] fun K R hK hR => ?_; simp (maxSteps := 10000000) only [go_sem]; (try go_ints); (repeat refine And.intro side ?_); (first | refine hK _ ?_ | refine hR _ _ ?_); clear hK hR K R)
  repeat (first | refine nav ?_ | refine bo ?_)
  rcases isL_cases htr x with ⟨e, _⟩ | ⟨e, _⟩ | ⟨_, hxt, hnx⟩
  ·omega
  ·omega
  have hokQ : okO (o ++ [Ob.cells 1 [[.ptr K 0 0]], .cells 1 [[.i .i64 x]]]) = true := okO_app hok (by simp [Ob.ltk, AV.ltk]; omega)
  have hr0 := h.push [Ob.cells 1 [[.ptr K 0 0]], .cells 1 [[.i .i64 x]]] hokQ
  have hta : ∀ j l, o.length ≤ j → ta ≠ .ref j 0 l := by
   intro j l hj e
   have := h.taOk
   rw [e] at this
   simp [AV.ltk] at this
   omega
  refine W_for 19 92 [1, 5, 7, 8] (fun m t o1 => ∃ (ta1 : AV) (tr1 : List Int) (Q : Nat) (pre q : List Int), SetInv o K o.length d c tr x br cnt md exh o1 ta1 tr1 Q pre q ∧ Quiet c.list tr1 ∧ t 5 = .ref Q pre.length q.length ∧ m = (c.vars - tr1.length) * 200001 + q.length ∧ q.length ≤ 1 + 200000 * tr1.length) ((c.vars - tr.length) * 200001 + 1)
   ⟨ta, tr, o.length + 1, [], [x], ⟨hr0, htr, ⟨[], by simp⟩, .inr (by simp), by simpa using hx, fun a h1 h2 h3 => ⟨h2, by simpa using h3⟩, by simp, fun l => hta _ l (Nat.le_refl _), by simp [ints], fun l => hta _ l (by omega), Nat.le_refl _, by omega, by omega, by simp⟩, hq, by simp only [go_sem] <;> rfl, rfl, by simp⟩ ?_
  clear hr0 hokQ hB hokB
  rintro m t o1 ⟨ta1, tr1, Q, pre, q, hi, hq1, h5, rfl, hqb⟩
  have hrl := hi.ok.len
  cases q with
  | nil =>
   repeat (first | refine nav ?_ | refine bo ?_)
   (refine wr fun K R hK hR => ?_; simp (maxSteps := 10000000) only [go_sem, h5]; (try go_ints); (try simp only [go_sem, h5]); (repeat refine And.intro side ?_); (first | refine hK _ ?_ | refine hR _ _ ?_); clear hK hR K R)
   repeat (first | refine nav ?_ | refine bo ?_)
   refine W_cond (b := false) (by simp only [go_sem] <;> first | rfl | simp) (fun hb => by cases hb) (fun _ => ?_)
   repeat (first | refine nav ?_ | refine bo ?_)
   (refine wr fun K R hK hR => ?_; simp (maxSteps := 10000000) only [go_sem]; (try go_ints); (repeat refine And.intro side ?_); (first | refine hK _ ?_ | refine hR _ _ ?_); clear hK hR K R)
   repeat (first | refine nav ?_ | refine bo ?_)
   refine endQ_all (by simp only [go_sem] <;> exact rfl) (Le.refl _) hi.len hi.rep.ok rfl ⟨_, tr1, ta1, rfl, ⟨hi.ok, hi.ext, fun _ => ⟨?_, hq1, fun a h1 h2 h3 => (hi.imp a h1 h2 h3).1⟩, fun h => by cases h⟩, hi.rep, hi.len⟩
   have := hi.has
   simpa using this
  | cons y q =>
   have hly := hi.lit y (by simp)
   obtain ⟨y0, y1, y2⟩ := id hly
   have hgq : (pre ++ y :: q)[pre.length]? = some y := by simp
   have hok1 := hi.rep.ok
   have lK1 : K < o1.length := (List.getElem?_eq_some_iff.1 hi.rep.k).1
   repeat (first | refine nav ?_ | refine bo ?_)
   (refine wr fun K R hK hR => ?_; simp (maxSteps := 10000000) only [go_sem, h5]; (try go_ints); (try simp only [go_sem, h5]); (repeat refine And.intro side ?_); (first | refine hK _ ?_ | refine hR _ _ ?_); clear hK hR K R)
   repeat (first | refine nav ?_ | refine bo ?_)
   refine W_cond (b := true) (by simp only [go_sem] <;> first | rfl | (simp; done) | (simp; omega)) (fun _ => ?_) (fun hb => by cases hb)
   repeat (first | refine nav ?_ | refine bo ?_)
   (refine W_dreg (by decide +kernel) [] [0, 1, 2, 3, 4, 5, 6] [[], [0], [0, 1], [], [3], [1, 0, 2], [2, 0, 1, 5, 3, 4]] (by decide +kernel) rfl fun K R hK hR => ?_; simp only [List.filterMap_cons, List.filterMap_nil, List.getElem?_cons_zero, List.getElem?_cons_succ, List.cons_append, List.nil_append]; simp (maxSteps := 10000000) only [go_sem, h5, hi.hQ, ints_get hgq]; (try go_ints); (try simp only [go_sem, h5, hi.hQ, ints_get hgq]); (repeat refine And.intro side ?_); (first | refine hK _ ?_ | refine hR _ _ ?_); clear hK hR K R)
   repeat (first | refine nav ?_ | refine bo ?_)
   (refine wr fun K R hK hR => ?_; simp (maxSteps := 10000000) only [go_sem, hi.hB]; (try go_ints); (try simp only [go_sem, hi.hB]); (repeat refine And.intro side ?_); (first | refine hK _ ?_ | refine hR _ _ ?_); clear hK hR K R)
   refine RL_callQ (is_spec hi.rep hc hi.ok rfl hly) (by simp only [go_sem] <;> exact rfl) rfl rfl (by simp) (by simp only [go_sem] <;> exact LeA.refl _) hok1 (by simp [AV.ltk]; omega) rfl ?_
   (refine rr fun K R hK hR => ?_; simp (maxSteps := 10000000) only [go_sem]; (try go_ints); (repeat refine And.intro side ?_); (first | refine hK _ ?_ | refine hR _ _ ?_); clear hK hR K R)
   repeat (first | refine nav ?_ | refine bo ?_)
   refine W_cond (by simp only [go_sem] <;> exact rfl) (fun hb => ?_) (fun hb => ?_)
   ·have hb : isL tr1 y ≠ 0 := by simpa using hb
    repeat (first | refine nav ?_ | refine bo ?_)
    (refine wr fun K R hK hR => ?_; simp (maxSteps := 10000000) only [go_sem, hi.hB]; (try go_ints); (try simp only [go_sem, hi.hB]); (repeat refine And.intro side ?_); (first | refine hK _ ?_ | refine hR _ _ ?_); clear hK hR K R)
    refine RL_callQ (is_spec hi.rep hc hi.ok rfl hly) (by simp only [go_sem] <;> exact rfl) rfl rfl (by simp) (by simp only [go_sem] <;> exact LeA.refl _) hok1 (by simp [AV.ltk]; omega) rfl ?_
    (refine rr fun K R hK hR => ?_; simp (maxSteps := 10000000) only [go_sem]; (try go_ints); (repeat refine And.intro side ?_); (first | refine hK _ ?_ | refine hR _ _ ?_); clear hK hR K R)
    repeat (first | refine nav ?_ | refine bo ?_)
    refine W_cond (by simp only [go_sem] <;> exact rfl) (fun hb => ?_) (fun hb => ?_)
    ·have hb : isL tr1 y < 0 := by simpa using hb
     rcases isL_cases hi.ok y with ⟨e, _⟩ | ⟨e, hy1, hy2⟩ | ⟨e, _⟩
     ·omega
     ·repeat (first | refine nav ?_ | refine bo ?_)
      (refine wr fun K R hK hR => ?_; simp (maxSteps := 10000000) only [go_sem]; (try go_ints); (repeat refine And.intro side ?_); (first | refine hK _ ?_ | refine hR _ _ ?_); clear hK hR K R)
      repeat (first | refine nav ?_ | refine bo ?_)
      refine endQ_all (by simp only [go_sem] <;> exact rfl) (Le.refl _) hi.len hok1 rfl ⟨_, tr1, ta1, rfl, ⟨hi.ok, hi.ext, fun h => by simp at h, fun _ a h1 h2 h3 => ?_⟩, hi.rep, hi.len⟩
      obtain ⟨i1, i2⟩ := hi.imp a h1 h2 h3
      have e1 := agr_mem i1 hy1
      have e2 := i2 y (by simp)
      rw [litB_neg hly.1, e2] at e1
      cases e1
     ·omega
    ·have hb : ¬ isL tr1 y < 0 := by simpa using hb
     rcases isL_cases hi.ok y with ⟨e, hy1, hy2⟩ | ⟨e, _⟩ | ⟨e, _⟩
     ·repeat (first | refine nav ?_ | refine bo ?_)
      refine forQ_normal ((c.vars - tr1.length) * 200001 + q.length) (by simp only [List.length_cons]; omega) ⟨ta1, tr1, Q, pre ++ [y], q, ⟨hi.rep, hi.ok, hi.ext, ?_, fun z hz => hi.lit z (by simp [hz]), fun a h1 h2 h3 => ⟨(hi.imp a h1 h2 h3).1, fun z hz => (hi.imp a h1 h2 h3).2 z (by simp [hz])⟩, hi.hB, hi.taB, by rw [List.append_assoc]; exact hi.hQ, hi.taQ, hi.nB, hi.nQ, hi.ne, hi.len⟩, hq1, ?_, rfl, by simp only [List.length_cons] at hqb; omega⟩
      ·rcases hi.has with h1 | h1
       ·exact .inl h1
       ·rcases List.mem_cons.1 h1 with rfl | h1
        ·exact .inl hy1
        ·exact .inr h1
      ·simp only [go_sem] <;> simp
     ·omega
     ·omega
   ·have hb : isL tr1 y = 0 := by simpa using hb
    rcases isL_cases hi.ok y with ⟨e, _⟩ | ⟨e, _⟩ | ⟨_, hyt, hny⟩
    ·omega
    ·omega
    have hok2 := hi.ok.snoc hly hyt hny
    have hlen2 := hok2.len
    have lQ : Q < o1.length := (List.getElem?_eq_some_iff.1 hi.hQ).1
    have lB : o.length < o1.length := (List.getElem?_eq_some_iff.1 hi.hB).1
    repeat (first | refine nav ?_ | refine bo ?_)
    (refine wr fun K R hK hR => ?_; simp (maxSteps := 10000000) only [go_sem, hi.hB]; (try go_ints); (try simp only [go_sem, hi.hB]); (repeat refine And.intro side ?_); (first | refine hK _ ?_ | refine hR _ _ ?_); clear hK hR K R)
    refine RL_callE (put_spec hi.rep hc hi.ok (by omega) hly hyt hny) (fun r o' ⟨e1, ta', e2, e3, _⟩ => ⟨e3.1, by rw [e1]; rfl, e2.ok⟩) (by simp only [go_sem] <;> exact rfl) rfl rfl (by simp) (by simp only [go_sem] <;> exact LeA.refl _) hok1 (by simp [AV.ltk]; omega) ?_
    rintro r o2 ⟨rfl, ta2, hr2, hf2, l2, rfl⟩
    (refine rr fun K R hK hR => ?_; simp (maxSteps := 10000000) only [go_sem]; (try go_ints); (repeat refine And.intro side ?_); (first | refine hK _ ?_ | refine hR _ _ ?_); clear hK hR K R)
    have lL := (List.getElem?_eq_some_iff.1 h.l).1
    have lG := (List.getElem?_eq_some_iff.1 h.g).1
    have lV := (List.getElem?_eq_some_iff.1 h.v).1
    have hB2 : o2[o.length]? = _ := (hf2.2 o.length lB (by omega) (by omega) (by omega) (by omega) hi.taB).trans hi.hB
    have hQ2 : o2[Q]? = _ := (hf2.2 Q lQ (by have := hi.nQ; omega) (by have := hi.nQ; omega) (by have := hi.nQ; omega) (by have := hi.nQ; omega) hi.taQ).trans hi.hQ
    have hlist := hc.list
    have hcl := fun j => good_bd hc (tr1 ++ [y]) j
    have hext2 : ∃ e, tr1 ++ [y] = tr ++ e := by
     obtain ⟨e, he⟩ := hi.ext
     exact ⟨e ++ [y], by rw [he, List.append_assoc]⟩
    have himp2 : ∀ a, satC c.list a = true → agr tr a = true → litB a x = true → agr (tr1 ++ [y]) a = true ∧ ∀ z ∈ q, litB a z = true := fun a h1 h2 h3 => by
     obtain ⟨i1, i2⟩ := hi.imp a h1 h2 h3
     refine ⟨?_, fun z hz => i2 z (by simp [hz])⟩
     rw [agr_app, i1]
     simpa [agr] using i2 y (by simp)
    have hhas2 : x ∈ tr1 ++ [y] ∨ x ∈ q := by
     rcases hi.has with h1 | h1
     ·exact .inl (by simp [h1])
     ·rcases List.mem_cons.1 h1 with rfl | h1
      ·exact .inl (by simp)
      ·exact .inr h1
    have hpq : ∀ i < c.list.length, c.list.getD i [] ≠ [] → goodOf c.list (tr1 ++ [y]) i = 0 → (i : Int) ∉ innOf c.list (-y) → leftOf c.list (tr1 ++ [y]) i ≠ 0 := by
     intro i hi1 hne hg hn
     have e1 := good_put (n := 0) (list := c.list) hyt i
     have e2 := left_put (list := c.list) hyt i
     have e3 := innOf_count c.list (-y) i hi1
     rw [List.count_eq_zero.2 hn] at e3
     have := hq1 i hi1 hne (by omega)
     omega
    have hI2 : SetInv o K o.length d c tr x br cnt md exh o2 (.ref (o1.length + 1) 0 l2) (tr1 ++ [y]) Q (pre ++ [y]) q :=
     ⟨hr2, hok2, hext2, hhas2, fun z hz => hi.lit z (by simp [hz]), himp2, hB2, fun l e => by simp only [AV.ref.injEq] at e; omega, by rw [List.append_assoc]; exact hQ2, fun l e => by simp only [AV.ref.injEq] at e; omega, hi.nB, hi.nQ, hi.ne, by have := hf2.1; omega⟩
    have hta2 : ∀ j l, (AV.ref (o1.length + 1) 0 l2) = .ref j 0 l → j ≠ o.length := fun j l e => by simp only [AV.ref.injEq] at e; omega
    generalize AV.ref (o1.length + 1) 0 l2 = ta2 at hI2 hr2 hta2
    have hsum := hc.sum (-y)
    have hinn : ∀ z, innOf c.list (-y) = z → ∀ i ∈ z, ∃ j : Nat, i = j ∧ j < c.list.length := fun z hz i hi => by
     rw [← hz] at hi
     obtain ⟨j, e1, e2, _⟩ := innOf_mem hi
     exact ⟨j, e1, e2⟩
    clear hf2 hB2 hQ2 hext2 himp2 hhas2
    repeat (first | refine nav ?_ | refine bo ?_)
    refine W_joinS 38 47 [] (fun t o' => o' = o2 ∧ t 44 = ivOf c.es (-y) ∧ t 45 = .i .i64 ((innOf c.list (-y)).length : Nat) ∧ t 46 = .i .i64 0) ?_ ?_
    ·rcases hr2.inn (-y) with ⟨hm, h⟩ | ⟨I, hm, hI, _⟩
     ·(refine wr fun K R hK hR => ?_; simp (maxSteps := 10000000) only [go_sem, hI2.hB, hr2.k, rowK, hr2.m, Int.zero_sub, hm]; (try go_ints); (try simp only [go_sem, hI2.hB, hr2.k, rowK, hr2.m, Int.zero_sub, hm]); (repeat refine And.intro side ?_); (first | refine hK _ ?_ | refine hR _ _ ?_); clear hK hR K R)
      exact ⟨_, rfl, rfl, by simp only [go_sem, ivOf, hm], by simp only [go_sem, h] <;> rfl, by simp only [go_sem]⟩
     ·(refine wr fun K R hK hR => ?_; simp (maxSteps := 10000000) only [go_sem, hI2.hB, hr2.k, rowK, hr2.m, Int.zero_sub, hm]; (try go_ints); (try simp only [go_sem, hI2.hB, hr2.k, rowK, hr2.m, Int.zero_sub, hm]); (repeat refine And.intro side ?_); (first | refine hK _ ?_ | refine hR _ _ ?_); clear hK hR K R)
      exact ⟨_, rfl, rfl, by simp only [go_sem, ivOf, hm], by simp only [go_sem], by simp only [go_sem]⟩
    rintro t7 o2' ⟨rfl, h44, h45, h46⟩
    generalize hisx : innOf c.list (-y) = js at h45 hsum hpq
    have hinn := hinn js hisx
    repeat (first | refine nav ?_ | refine bo ?_)
    refine W_for 46 92 [5, 7, 8] (fun m t o3 => ∃ (Q : Nat) (pre q2 : List Int) (k : Nat), SetInv o K o.length d c tr x br cnt md exh o3 ta2 (tr1 ++ [y]) Q pre q2 ∧ t 5 = .ref Q pre.length q2.length ∧ t 46 = .i .i64 k ∧ m = js.length - k ∧ k ≤ js.length ∧ q2.length ≤ q.length + k ∧ ∀ i < c.list.length, goodOf c.list (tr1 ++ [y]) i = 0 → (i : Int) ∈ js.take k → leftOf c.list (tr1 ++ [y]) i ≠ 0) js.length
     ⟨Q, pre ++ [y], q, 0, hI2, by simp only [go_sem] <;> simp, by simp only [go_sem, h46] <;> rfl, by omega, Nat.zero_le _, by omega, fun i _ _ hm => by simp at hm⟩ ?_
    clear hI2 h46 hr2
    rintro m t3 o3 ⟨Q, pre2, q2, k, hI2, h5', h46, rfl, hk, hql, hpk⟩
    have hr3 := hI2.rep
    have hok3 := hr3.ok
    repeat (first | refine nav ?_ | refine bo ?_)
    (refine wr fun K R hK hR => ?_; simp (maxSteps := 10000000) only [go_sem, h46, h45]; (try go_ints); (try simp only [go_sem, h46, h45]); (repeat refine And.intro side ?_); (first | refine hK _ ?_ | refine hR _ _ ?_); clear hK hR K R)
    repeat (first | refine nav ?_ | refine bo ?_)
    refine W_cond (by simp only [go_sem] <;> exact rfl) (fun hb => ?_) (fun hb => ?_)
    ·simp at hb
     obtain ⟨i, hig⟩ : ∃ i, js[k]? = some i := ⟨_, List.getElem?_eq_getElem hb⟩
     obtain ⟨j, rfl, hj⟩ := hinn i (List.mem_of_getElem? hig)
     have hin := hr3.inn (-y)
     unfold InAt at hin
     rw [hisx] at hin
     rcases hin with ⟨_, q2⟩ | ⟨I, hm, hI, _⟩
     ·subst q2; simp at hb
     have hiv : ivOf c.es (-y) = .ref I 0 js.length := by rw [ivOf, hm]
     have hgg := goodL_get (list := c.list) (tr := tr1 ++ [y]) hj
     have hlg := leftL_get (list := c.list) (tr := tr1 ++ [y]) hj
     obtain ⟨b1, b2⟩ := hcl j
     have htk : js.take (k + 1) = js.take k ++ [(j : Int)] := by
      rw [List.take_succ_eq_append_getElem hb, (List.getElem?_eq_some_iff.1 hig).2]
     have hstep : (goodOf c.list (tr1 ++ [y]) j = 0 → leftOf c.list (tr1 ++ [y]) j ≠ 0) → ∀ i < c.list.length, goodOf c.list (tr1 ++ [y]) i = 0 → (i : Int) ∈ js.take (k + 1) → leftOf c.list (tr1 ++ [y]) i ≠ 0 := fun hj2 i h1 h2 h3 => by
      rw [htk, List.mem_append, List.mem_singleton] at h3
      rcases h3 with h3 | h3
      ·exact hpk i h1 h2 h3
      ·have : i = j := by omega
       subst this; exact hj2 h2
     repeat (first | refine nav ?_ | refine bo ?_)
     (refine wr fun K R hK hR => ?_; simp (maxSteps := 10000000) only [go_sem, h46, h44, hiv, hI, ints_get hig]; (try go_ints); (try simp only [go_sem, h46, h44, hiv, hI, ints_get hig]); (repeat refine And.intro side ?_); (first | refine hK _ ?_ | refine hR _ _ ?_); clear hK hR K R)
     repeat (first | refine nav ?_ | refine bo ?_)
     (refine wr fun K R hK hR => ?_; simp (maxSteps := 10000000) only [go_sem, hI2.hB, hr3.k, rowK, hr3.g, canon, ints_get hgg, goodL_len]; (try go_ints); (try simp only [go_sem, hI2.hB, hr3.k, rowK, hr3.g, canon, ints_get hgg, goodL_len]); (repeat refine And.intro side ?_); (first | refine hK _ ?_ | refine hR _ _ ?_); clear hK hR K R)
     repeat (first | refine nav ?_ | refine bo ?_)
     refine W_cond (by simp only [go_sem] <;> exact rfl) (fun hc1 => ?_) (fun hc1 => ?_)
     ·have hc1 : goodOf c.list (tr1 ++ [y]) j > 0 := by simpa using hc1
      repeat (first | refine nav ?_ | refine bo ?_)
      (refine wr fun K R hK hR => ?_; simp (maxSteps := 10000000) only [go_sem, h46]; (try go_ints); (try simp only [go_sem, h46]); (repeat refine And.intro side ?_); (first | refine hK _ ?_ | refine hR _ _ ?_); clear hK hR K R)
      refine forQ_normal (js.length - (k + 1)) (by omega) ⟨Q, pre2, q2, k + 1, hI2, ?_, ?_, rfl, by omega, by omega, hstep (fun h => by omega)⟩
      ·simp only [go_sem, h5']
      ·simp only [go_sem] <;> simp
     ·have hc1 : goodOf c.list (tr1 ++ [y]) j = 0 := by
       have : ¬ (goodOf c.list (tr1 ++ [y]) j : Int) > 0 := by simpa using hc1
       omega
      repeat (first | refine nav ?_ | refine bo ?_)
      (refine wr fun K R hK hR => ?_; simp (maxSteps := 10000000) only [go_sem, hI2.hB, hr3.k, rowK, hr3.l, canon, ints_get hlg, leftL_len]; (try go_ints); (try simp only [go_sem, hI2.hB, hr3.k, rowK, hr3.l, canon, ints_get hlg, leftL_len]); (repeat refine And.intro side ?_); (first | refine hK _ ?_ | refine hR _ _ ?_); clear hK hR K R)
      repeat (first | refine nav ?_ | refine bo ?_)
      refine W_cond (by simp only [go_sem] <;> exact rfl) (fun hc2 => ?_) (fun hc2 => ?_)
      ·have hc2 : leftOf c.list (tr1 ++ [y]) j = 0 := by
        have : (leftOf c.list (tr1 ++ [y]) j : Int) = 0 := by simpa using hc2
        omega
       repeat (first | refine nav ?_ | refine bo ?_)
       (refine wr fun K R hK hR => ?_; simp (maxSteps := 10000000) only [go_sem]; (try go_ints); (repeat refine And.intro side ?_); (first | refine hK _ ?_ | refine hR _ _ ?_); clear hK hR K R)
       repeat (first | refine nav ?_ | refine bo ?_)
       refine endQ_all (by simp only [go_sem] <;> exact rfl) (Le.refl _) hI2.len hok3 rfl ⟨_, _, ta2, rfl, ⟨hI2.ok, hI2.ext, fun h => by simp at h, fun _ a h1 h2 h3 => ?_⟩, hr3, hI2.len⟩
       exact no_left hj hnz hc2 h1 (hI2.imp a h1 h2 h3).1
      ·have hc2 : leftOf c.list (tr1 ++ [y]) j ≠ 0 := by
        have : (leftOf c.list (tr1 ++ [y]) j : Int) ≠ 0 := by simpa using hc2
        omega
       have hstep := hstep (fun _ => hc2)
       repeat (first | refine nav ?_ | refine bo ?_)
       (refine wr fun K R hK hR => ?_; simp (maxSteps := 10000000) only [go_sem, hI2.hB, hr3.k, rowK, hr3.l, canon, ints_get hlg, leftL_len]; (try go_ints); (try simp only [go_sem, hI2.hB, hr3.k, rowK, hr3.l, canon, ints_get hlg, leftL_len]); (repeat refine And.intro side ?_); (first | refine hK _ ?_ | refine hR _ _ ?_); clear hK hR K R)
       repeat (first | refine nav ?_ | refine bo ?_)
       refine W_cond (by simp only [go_sem] <;> exact rfl) (fun hc3 => ?_) (fun hc3 => ?_)
       ·have hc3 : leftOf c.list (tr1 ++ [y]) j = 1 := by
         have : (leftOf c.list (tr1 ++ [y]) j : Int) = 1 := by simpa using hc3
         omega
        have hlav : c.lav = .own 1 (tups c.list) := by
         rcases hc.lav with h | ⟨_, h⟩
         ·exact h
         ·rw [h] at hj; simp at hj
        obtain ⟨l, hl⟩ : ∃ l, c.list[j]? = some l := ⟨_, List.getElem?_eq_getElem hj⟩
        have hlm := List.mem_of_getElem? hl
        have hll := hc.len l hlm
        have hlD : c.list.getD j [] = l := getD_of2 hl
        have hidx := indexInt_spec (oc := o3) (f := 100) (caps := [.ptr o.length 0 0]) hok3 (by simp [AV.ltk]; exact isD_call hI2.hB) rfl (fun z => isL (tr1 ++ [y]) z == 0) l (by omega) (fun z hz => set1_spec hr3 hc hI2.ok rfl hI2.hB (hc.lit l hlm z hz))
        obtain ⟨z0, hz0, hz1⟩ := open_left hI2.ok hc1 hc2
        rw [hlD] at hz0
        have hany := idxI_any (fun z => isL (tr1 ++ [y]) z == 0) l 0 (by omega)
        have hsome : (l.any fun z => isL (tr1 ++ [y]) z == 0) = true := by
         rw [List.any_eq_true]; exact ⟨z0, hz0, by rw [hz1]; rfl⟩
        rw [hsome, decide_eq_true_eq] at hany
        obtain ⟨p, hp⟩ := Int.eq_ofNat_of_zero_le hany
        obtain ⟨_, z, hz, hzp⟩ := idxI_get (fun z => isL (tr1 ++ [y]) z == 0) l 0 p hp
        rw [Nat.sub_zero] at hz
        have hzl := (List.getElem?_eq_some_iff.1 hz).1
        rw [hp] at hidx
        have hzm := List.mem_of_getElem? hz
        have hz0 : isL (tr1 ++ [y]) z = 0 := by simpa using hzp
        have hlQ3 : Q < o3.length := (List.getElem?_eq_some_iff.1 hI2.hQ).1
        have hQ3 := fun l => app_get l hI2.hQ
        have hq2l : q2.length ≤ 10000000000 := by
         simp only [List.length_cons] at hqb
         have : tr1.length ≤ 20000 := by omega
         omega
        have hro : rowsOk false [[AV.i .i64 z]] = true := rfl
        repeat (first | refine nav ?_ | refine bo ?_)
        (refine wr fun K R hK hR => ?_; simp (maxSteps := 10000000) only [go_sem, hI2.hB, hr3.k, rowK, hlav, tups_get hl]; (try go_ints); (try simp only [go_sem, hI2.hB, hr3.k, rowK, hlav, tups_get hl]); (repeat refine And.intro side ?_); (first | refine hK _ ?_ | refine hR _ _ ?_); clear hK hR K R)
        repeat (first | refine nav ?_ | refine bo ?_)
        (refine wr fun K R hK hR => ?_; simp (maxSteps := 10000000) only [go_sem]; (try go_ints); (repeat refine And.intro side ?_); (first | refine hK _ ?_ | refine hR _ _ ?_); clear hK hR K R)
        refine RL_callQ hidx (by simp only [go_sem] <;> exact rfl) rfl rfl (by simp) (by simp only [go_sem] <;> exact LeA.refl _) hok3 (by simp [AV.ltk, AV.ltks]; exact isD_call hI2.hB) rfl ?_
        (refine RL_reg [1000000] fun K R hK hR => ?_; simp (maxSteps := 10000000) only [go_sem, h5', ints_get hz, hQ3, hro]; (try go_ints); (repeat refine And.intro (by first | exact side | (simp [ints]; omega)) ?_); (first | refine hK _ ?_ | refine hR _ _ ?_); clear hK hR K R)
        have hd1 : ((ints (pre2 ++ q2)).drop pre2.length).take q2.length = ints q2 := by
         rw [ints, List.map_append, List.drop_left' (by simp), List.take_of_length_le (by simp)]; rfl
        have hi1 : ints q2 ++ [[.i .i64 z]] = ints (q2 ++ [z]) := by simp [ints]
        simp only [hd1, hi1]
        have hnzt : z ∉ tr1 ++ [y] ∧ -z ∉ tr1 ++ [y] := by
         rcases isL_cases hI2.ok z with ⟨e, _⟩ | ⟨e, _⟩ | ⟨_, e⟩
         ·omega
         ·omega
         ·exact e
        have hpre4 : ∀ j X, o3[j]? = some X → j ≠ Q → ((o3 ++ [Ob.cells 1 [[.i .i64 z]]]).set Q .dead ++ [Ob.cells 1 (ints (q2 ++ [z]))])[j]? = some X := fun j X hj hn => app_get _ (by rw [List.getElem?_set_ne (Ne.symm hn)]; exact app_get _ hj)
        have hok4 : okO ((o3 ++ [Ob.cells 1 [[.i .i64 z]]]).set Q .dead ++ [Ob.cells 1 (ints (q2 ++ [z]))]) = true := okO_app (okO_set (okO_app hok3 rfl) rfl) (by simp [Ob.ltk, AV.ltk, ints])
        have hl4 : o3.length ≤ ((o3 ++ [Ob.cells 1 [[.i .i64 z]]]).set Q .dead ++ [Ob.cells 1 (ints (q2 ++ [z]))]).length := by simp; omega
        have hta3 := hr3.taOk
        have hI3 : SetInv o K o.length d c tr x br cnt md exh ((o3 ++ [Ob.cells 1 [[.i .i64 z]]]).set Q .dead ++ [Ob.cells 1 (ints (q2 ++ [z]))]) ta2 (tr1 ++ [y]) (o3.length + 1) [] (q2 ++ [z]) := by
         refine ⟨RepG.others h hr3 hI2.nQ hI2.taQ hl4 hpre4 hok4, hI2.ok, hI2.ext, hI2.has.imp id fun h => by simp [h], fun w hw => ?_, fun a h1 h2 h3 => ?_, hpre4 _ _ hI2.hB (Ne.symm hI2.ne), hI2.taB, by simp, fun l e => ?_, hI2.nB, by have := hI2.len; omega, by have := isD_call hI2.hB; omega, by have := hI2.len; omega⟩
         ·rw [List.mem_append, List.mem_singleton] at hw
          rcases hw with hw | rfl
          ·exact hI2.lit w hw
          ·exact hc.lit l hlm _ hzm
         ·obtain ⟨i1, i2⟩ := hI2.imp a h1 h2 h3
          refine ⟨i1, fun w hw => ?_⟩
          rw [List.mem_append, List.mem_singleton] at hw
          rcases hw with hw | rfl
          ·exact i2 w hw
          ·exact one_left hj hnz hc3 (by rw [hlD]; exact hzm) hnzt.2 h1 i1
         ·rw [e] at hta3
          simp [AV.ltk] at hta3
          omega
        repeat (first | refine nav ?_ | refine bo ?_)
        (refine wr fun K R hK hR => ?_; simp (maxSteps := 10000000) only [go_sem, h46]; (try go_ints); (try simp only [go_sem, h46]); (repeat refine And.intro side ?_); (first | refine hK _ ?_ | refine hR _ _ ?_); clear hK hR K R)
        refine forQ_normal (js.length - (k + 1)) (by omega) ⟨o3.length + 1, [], q2 ++ [z], k + 1, hI3, ?_, ?_, rfl, by omega, by simp; omega, hstep⟩
        ·simp only [go_sem] <;> simp
        ·simp only [go_sem] <;> simp
       ·repeat (first | refine nav ?_ | refine bo ?_)
        (refine wr fun K R hK hR => ?_; simp (maxSteps := 10000000) only [go_sem, h46]; (try go_ints); (try simp only [go_sem, h46]); (repeat refine And.intro side ?_); (first | refine hK _ ?_ | refine hR _ _ ?_); clear hK hR K R)
        refine forQ_normal (js.length - (k + 1)) (by omega) ⟨Q, pre2, q2, k + 1, hI2, ?_, ?_, rfl, by omega, by omega, hstep⟩
        ·simp only [go_sem, h5']
        ·simp only [go_sem] <;> simp
    ·simp at hb
     obtain rfl : js.length = k := by omega
     rw [List.take_length] at hpk
     rw [mix_mix (lo := 38) (lo' := 19) rfl, mix_mix (lo := 46) (lo' := 19) rfl]
     repeat (first | refine nav ?_ | refine bo ?_)
     have hlen3 : (tr1 ++ [y]).length = tr1.length + 1 := by simp
     refine forQ_normal ((c.vars - (tr1 ++ [y]).length) * 200001 + q2.length) (by
      rw [hlen3] at hlen2 ⊢
      simp only [List.length_cons]
      have : c.vars - tr1.length = (c.vars - (tr1.length + 1)) + 1 := by omega
      rw [this, Nat.add_mul]
      omega) ⟨ta2, tr1 ++ [y], Q, pre2, q2, hI2, fun i h1 hne h2 => ?_, ?_, rfl, by rw [hlen3]; simp only [List.length_cons] at hqb; omega⟩
     ·by_cases hm : (i : Int) ∈ js
      ·exact hpk i h1 h2 hm
      ·exact hpq i h1 hne h2 hm
     ·simp only [go_sem, h5']
end Go.AW
namespace Go.AW
open Go Go.Proofs TyTry Go.IntWalk
set_option linter.unusedSimpArgs false
set_option linter.unusedVariables false
def cntP : Nat → (List Bool → Bool) → Nat
 | 0, p => if p [] then 1 else 0
 | n + 1, p => cntP n (fun a => p (a ++ [false])) + cntP n fun a => p (a ++ [true])
theorem cntP_congr : ∀ (n : Nat) {p q : List Bool → Bool}, (∀ a, a.length = n → p a = q a) → cntP n p = cntP n q
 | 0, p, q, h => by rw [cntP, cntP, h [] rfl]
 | n + 1, p, q, h => by
  rw [cntP, cntP, cntP_congr n fun a ha => h (a ++ [false]) (by simp [ha]), cntP_congr n fun a ha => h (a ++ [true]) (by simp [ha])]
theorem cntP_add : ∀ (n : Nat) (p q r : List Bool → Bool), (∀ a, a.length = n → p a = (q a || r a)) → (∀ a, a.length = n → (q a && r a) = false) → cntP n p = cntP n q + cntP n r
 | 0, p, q, r, h, hd => by
  have h1 := h [] rfl
  have h2 := hd [] rfl
  simp only [cntP, h1]
  revert h2
  cases q [] <;> cases r [] <;> simp
 | n + 1, p, q, r, h, hd => by
  simp only [cntP]
  rw [cntP_add n _ (fun a => q (a ++ [false])) (fun a => r (a ++ [false])) (fun a ha => h _ (by simp [ha])) (fun a ha => hd _ (by simp [ha])),
   cntP_add n _ (fun a => q (a ++ [true])) (fun a => r (a ++ [true])) (fun a ha => h _ (by simp [ha])) (fun a ha => hd _ (by simp [ha]))]
  omega
theorem cntP_zero (n : Nat) {p : List Bool → Bool} (h : ∀ a, a.length = n → p a = false) : cntP n p = 0 := by
 induction n generalizing p with
 | zero => rw [cntP, h [] rfl]; rfl
 | succ n ih => rw [cntP, ih fun a ha => h _ (by simp [ha]), ih fun a ha => h _ (by simp [ha])]
theorem cntP_mono (n : Nat) {p q : List Bool → Bool} (h : ∀ a, a.length = n → p a = true → q a = true) : cntP n p ≤ cntP n q := by
 induction n generalizing p q with
 | zero =>
  have := h [] rfl
  simp only [cntP]
  cases hp : p [] <;> cases hq : q [] <;> simp_all
 | succ n ih =>
  have h1 := ih (p := fun a => p (a ++ [false])) (q := fun a => q (a ++ [false])) fun a ha hp => h _ (by simp [ha]) hp
  have h2 := ih (p := fun a => p (a ++ [true])) (q := fun a => q (a ++ [true])) fun a ha hp => h _ (by simp [ha]) hp
  simp only [cntP]; omega
theorem cntP_le (n : Nat) (p : List Bool → Bool) : cntP n p ≤ 2 ^ n := by
 induction n generalizing p with
 | zero => simp only [cntP]; split <;> simp
 | succ n ih =>
  have h1 := ih fun a => p (a ++ [false])
  have h2 := ih fun a => p (a ++ [true])
  simp only [cntP, Nat.pow_succ]; omega
def cntM (n : Nat) (list : List (List Int)) (tr : List Int) : Nat := cntP n fun a => satC list a && agr tr a
theorem litB_last {a : List Bool} {b : Bool} {n : Nat} (ha : a.length = n) {x : Int} (hx : LitOk (n + 1) x) : litB (a ++ [b]) x = if x = n + 1 then b else if x = -(n + 1 : Int) then !b else litB a x := by
 obtain ⟨h0, h1, h2⟩ := hx
 unfold litB
 by_cases hp : x > 0
 ·rw [if_pos hp]
  by_cases e : x = n + 1
  ·rw [if_pos e]
   have : (x - 1).toNat = n := by omega
   rw [this, List.getD_eq_getElem?_getD, List.getElem?_append_right (by omega), ha]; simp
  ·rw [if_neg e, if_neg (by omega), if_pos hp, List.getD_eq_getElem?_getD, List.getElem?_append_left (by omega), ← List.getD_eq_getElem?_getD]
 ·rw [if_neg hp, if_neg (by omega)]
  by_cases e : x = -(n + 1 : Int)
  ·rw [if_pos e]
   have : (-x - 1).toNat = n := by omega
   rw [this, List.getD_eq_getElem?_getD, List.getElem?_append_right (by omega), ha]; simp
  ·rw [if_neg e, if_neg hp, List.getD_eq_getElem?_getD, List.getElem?_append_left (by omega), ← List.getD_eq_getElem?_getD]
theorem cnt_agr : ∀ (n : Nat) (tr : List Int), TrOk n tr → cntP n (agr tr) = 2 ^ (n - tr.length)
 | 0, tr, h => by
  have : tr = [] := by
   cases tr with
   | nil => rfl
   | cons x t => have := h.lit x (by simp); have := this.1; have := (h.lit x (by simp)).2; omega
  subst this; rfl
 | n + 1, tr, h => by
  have hlen := h.len
  -- the others
  have key : ∀ (w : Int) (b : Bool), (w = n + 1 ∧ b = true) ∨ (w = -(n + 1 : Int) ∧ b = false) → w ∈ tr → cntP (n + 1) (agr tr) = 2 ^ (n + 1 - tr.length) := by
   intro w b hw hm
   have hmn := h.opp w hm
   have htr' : TrOk n (tr.erase w) := by
    refine ⟨h.nd.erase w, fun x hx => ?_, fun x hx hn => h.opp x (List.mem_of_mem_erase hx) (List.mem_of_mem_erase hn)⟩
    have hx2 := (h.nd.mem_erase_iff).1 hx
    obtain ⟨a1, a2, a3⟩ := h.lit x hx2.2
    have a4 : x ≠ -w := fun e => hmn (e ▸ hx2.2)
    have a5 := hx2.1
    exact ⟨a1, by omega, by omega⟩
   have ih := cnt_agr n _ htr'
   rw [List.length_erase_of_mem hm] at ih
   have hag : ∀ (a : List Bool) (b' : Bool), a.length = n → agr tr (a ++ [b']) = (agr (tr.erase w) a && (b' == b)) := by
    intro a b' ha
    rw [Bool.eq_iff_iff]
    simp only [agr, List.all_eq_true, Bool.and_eq_true, beq_iff_eq]
    constructor
    ·intro hall
     refine ⟨fun x hx => ?_, ?_⟩
     ·have hx2 := (h.nd.mem_erase_iff).1 hx
      have := hall x hx2.2
      have a4 : x ≠ -w := fun e => hmn (e ▸ hx2.2)
      have a5 := hx2.1
      rw [litB_last ha (h.lit x hx2.2), if_neg (by omega), if_neg (by omega)] at this
      exact this
     ·have := hall w hm
      rw [litB_last ha (h.lit w hm)] at this
      rcases hw with ⟨e1, e2⟩ | ⟨e1, e2⟩
      ·rw [if_pos e1] at this; rw [this, e2]
      ·rw [if_neg (by omega), if_pos e1] at this; rw [e2]; simpa using this
    ·rintro ⟨hall, hb⟩ x hx
     rw [litB_last ha (h.lit x hx)]
     by_cases e : x = w
     ·subst e
      rcases hw with ⟨e1, e2⟩ | ⟨e1, e2⟩
      ·rw [if_pos e1, hb, e2]
      ·rw [if_neg (by omega), if_pos e1, hb, e2]; rfl
     ·have a4 : x ≠ -w := fun e => hmn (e ▸ hx)
      rw [if_neg (by omega), if_neg (by omega)]
      exact hall x ((h.nd.mem_erase_iff).2 ⟨e, hx⟩)
   rw [cntP]
   have hpos : 0 < tr.length := List.length_pos_of_mem hm
   have e3 : n + 1 - tr.length = n - (tr.length - 1) := by omega
   rw [e3]
   rcases hw with ⟨e1, rfl⟩ | ⟨e1, rfl⟩
   ·have q1 : cntP n (fun a => agr tr (a ++ [false])) = 0 := cntP_zero n fun a ha => by rw [hag a false ha]; simp
    have q2 : cntP n (fun a => agr tr (a ++ [true])) = cntP n (agr (tr.erase w)) := cntP_congr n fun a ha => by rw [hag a true ha]; simp
    rw [q1, q2, ih]; omega
   ·have q1 : cntP n (fun a => agr tr (a ++ [true])) = 0 := cntP_zero n fun a ha => by rw [hag a true ha]; simp
    have q2 : cntP n (fun a => agr tr (a ++ [false])) = cntP n (agr (tr.erase w)) := cntP_congr n fun a ha => by rw [hag a false ha]; simp
    rw [q1, q2, ih]; omega
  by_cases h1 : (n + 1 : Int) ∈ tr
  ·exact key _ true (.inl ⟨rfl, rfl⟩) h1
  ·by_cases h2 : -(n + 1 : Int) ∈ tr
   ·exact key _ false (.inr ⟨rfl, rfl⟩) h2
   ·have htr' : TrOk n tr := by
     refine ⟨h.nd, fun x hx => ?_, h.opp⟩
     obtain ⟨a1, a2, a3⟩ := h.lit x hx
     have a4 : x ≠ (n + 1 : Int) := fun e => h1 (e ▸ hx)
     have a5 : x ≠ -(n + 1 : Int) := fun e => h2 (e ▸ hx)
     exact ⟨a1, by omega, by omega⟩
    have ih := cnt_agr n tr htr'
    have hag : ∀ (a : List Bool) (b' : Bool), a.length = n → agr tr (a ++ [b']) = agr tr a := by
     intro a b' ha
     unfold agr
     rw [Bool.eq_iff_iff, List.all_eq_true, List.all_eq_true]
     refine forall_congr' fun x => forall_congr' fun hx => ?_
     have a4 : x ≠ (n + 1 : Int) := fun e => h1 (e ▸ hx)
     have a5 : x ≠ -(n + 1 : Int) := fun e => h2 (e ▸ hx)
     rw [litB_last ha (h.lit x hx), if_neg a4, if_neg a5]
    have hl := htr'.len
    rw [cntP, cntP_congr n (q := agr tr) fun a ha => hag a false ha, cntP_congr n (q := agr tr) fun a ha => hag a true ha, ih, show n + 1 - tr.length = (n - tr.length) + 1 by omega, Nat.pow_succ]
    omega
theorem cntM_split {n : Nat} {list : List (List Int)} {tr : List Int} {x : Int} (hx : x ≠ 0) : cntM n list tr = cntM n list (tr ++ [x]) + cntM n list (tr ++ [-x]) := by
 refine cntP_add n _ _ _ (fun a _ => ?_) (fun a _ => ?_)
 ·rw [agr_app, agr_app]
  simp only [agr, List.all_cons, List.all_nil, Bool.and_true]
  rw [litB_neg hx]
  cases satC list a <;> cases (tr.all (litB a)) <;> cases litB a x <;> rfl
 ·rw [agr_app, agr_app]
  simp only [agr, List.all_cons, List.all_nil, Bool.and_true]
  rw [litB_neg hx]
  cases satC list a <;> cases (tr.all (litB a)) <;> cases litB a x <;> rfl
theorem cntM_set {n : Nat} {list : List (List Int)} {tr tr' : List Int} {x : Int} (h : SetPost n list tr x true tr') : cntM n list (tr ++ [x]) = cntM n list tr' := by
 obtain ⟨e, rfl⟩ := h.ext
 obtain ⟨h1, h2, h3⟩ := h.yes rfl
 refine cntP_congr n fun a _ => ?_
 rw [Bool.eq_iff_iff, Bool.and_eq_true, Bool.and_eq_true, agr_app, Bool.and_eq_true]
 constructor
 ·rintro ⟨a1, a2, a3⟩
  exact ⟨a1, h3 a a1 a2 (by simpa [agr] using a3)⟩
 ·rintro ⟨a1, a2⟩
  rw [agr_app, Bool.and_eq_true] at a2
  refine ⟨a1, a2.1, ?_⟩
  have := agr_mem (t := tr ++ e) (by rw [agr_app, a2.1, a2.2]; rfl) h1
  simpa [agr] using this
theorem cntM_no {n : Nat} {list : List (List Int)} {tr tr' : List Int} {x : Int} (h : SetPost n list tr x false tr') : cntM n list (tr ++ [x]) = 0 := by
 refine cntP_zero n fun a _ => ?_
 rw [Bool.and_eq_false_iff]
 by_cases h1 : satC list a = true
 ·right
  rw [agr_app, Bool.and_eq_false_iff]
  by_cases h2 : agr tr a = true
  ·right
   cases h3 : litB a x with
   | false => simp [agr, h3]
   | true => exact (h.no rfl a h1 h2 h3).elim
  ·exact .inl (by simpa using h2)
 ·exact .inl (by simpa using h1)
theorem good_sat {n : Nat} {list : List (List Int)} {tr : List Int} (h : ∀ i < list.length, goodOf list tr i ≠ 0) {a : List Bool} (ha : agr tr a = true) : satC list a = true := by
 rw [satC, List.all_eq_true]
 intro l hl
 obtain ⟨i, hi⟩ := List.getElem?_of_mem hl
 have hlt := (List.getElem?_eq_some_iff.1 hi).1
 have := h i hlt
 rw [goodOf, getD_of2 hi] at this
 cases hf : (l.filter fun y => tr.contains y) with
 | nil => rw [hf] at this; simp at this
 | cons y r =>
  have hy : y ∈ (l.filter fun y => tr.contains y) := by rw [hf]; simp
  rw [List.mem_filter] at hy
  rw [List.any_eq_true]
  exact ⟨y, hy.1, agr_mem ha (by simpa using hy.2)⟩
theorem cntM_all {n : Nat} {list : List (List Int)} {tr : List Int} (htr : TrOk n tr) (h : ∀ i < list.length, goodOf list tr i ≠ 0) : cntM n list tr = 2 ^ (n - tr.length) := by
 rw [← cnt_agr n tr htr]
 refine cntP_congr n fun a _ => ?_
 cases ha : agr tr a with
 | false => simp
 | true => rw [good_sat (n := n) h ha]; rfl
theorem open_zero {list : List (List Int)} {tr : List Int} (h : zeros (goodL list tr) = 0) : ∀ i < list.length, goodOf list tr i ≠ 0 := by
 intro i hi hg
 have h1 : (0 : Int) ∈ goodL list tr := by
  have := goodL_get (list := list) (tr := tr) hi
  rw [hg] at this
  exact List.mem_of_getElem? this
 unfold zeros at h
 have : (0 : Int) ∈ (goodL list tr).filter fun x => x == 0 := List.mem_filter.2 ⟨h1, rfl⟩
 have h2 := List.length_pos_of_mem this
 omega
theorem open_some {list : List (List Int)} {tr : List Int} (h : zeros (goodL list tr) ≠ 0) : ∃ i < list.length, goodOf list tr i = 0 := by
 unfold zeros at h
 cases hf : (goodL list tr).filter fun x => x == 0 with
 | nil => rw [hf] at h; simp at h
 | cons y r =>
  have hy : y ∈ (goodL list tr).filter fun x => x == 0 := by rw [hf]; simp
  rw [List.mem_filter] at hy
  obtain ⟨h1, h2⟩ := hy
  rw [goodL, List.mem_map] at h1
  obtain ⟨i, hi, e⟩ := h1
  have h2 : y = 0 := by simpa using h2
  exact ⟨i, List.mem_range.1 hi, by omega⟩
def modelOf (n : Nat) (tr : List Int) : List Bool := (valL n tr).map fun x => decide (x > 0)
theorem modelOf_len (n : Nat) (tr : List Int) : (modelOf n tr).length = n := by simp [modelOf, valL]
theorem modelOf_agr {n : Nat} {tr : List Int} (h : TrOk n tr) : agr tr (modelOf n tr) = true := by
 rw [agr, List.all_eq_true]
 intro x hx
 obtain ⟨h0, h1, h2⟩ := h.lit x hx
 unfold litB
 by_cases hp : x > 0
 ·rw [if_pos hp]
  have hv : valOf tr (x - 1).toNat = 1 := by
   have e : (((x - 1).toNat : Nat) : Int) + 1 = x := by omega
   rw [valOf, e]; simp [hx]
  have hlt : (x - 1).toNat < n := by omega
  rw [modelOf, List.getD_eq_getElem?_getD, List.getElem?_map, valL_get hlt, hv]; rfl
 ·rw [if_neg hp]
  have hn := h.opp x hx
  have hv : valOf tr (-x - 1).toNat = -1 := by
   have e : (((-x - 1).toNat : Nat) : Int) + 1 = -x := by omega
   rw [valOf, e]; simp [hx, hn]
  have hlt : (-x - 1).toNat < n := by omega
  rw [modelOf, List.getD_eq_getElem?_getD, List.getElem?_map, valL_get hlt, hv]; rfl
end Go.AW
