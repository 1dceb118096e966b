/- The library's slices.Sort, slices.Compact on texts. No condition of its own. -/
import Derived.Test.YtfchdibbjaeocaaDoorProg
import Derived.Test.YtfchdibbjaeocaaDoorKBy
import Derived.Shelf.Sort.Plain
import Derived.Shelf.Slices.CompactS
import Derived.Sort.OwnSorted
namespace Go.Proofs
open Go.Shelf
def Tryd.laysSort_ren : Go.Shelf.Ren := ⟨fun | 190 => 31 | 125 => 45 | 258 => 44 | 128 => 75 | 129 => 76 | 302 => 66 | 303 => 67 | 304 => 68 | 305 => 69 | 306 => 70 | 307 => 71 | 308 => 72 | 309 => 73 | 310 => 74 | 333 => 103 | 329 => 104 | 330 => 105 | 334 => 106 | 335 => 107 | 336 => 108 | 344 => 127 | n => n, fun | 31 => 29 | 9 => 9 | 3 => 3 | 46 => 71 | 0 => 0 | 51 => 99 | 53 => 101 | 4 => 4 | 183 => 91 | 182 => 90 | 131 => 96 | 5 => 5 | 218 => 125 | 222 => 129 | 228 => 150 | 229 => 151 | n => n, fun | n => n⟩
theorem Tryd.laysSort : Go.Proofs.Lays.n190 Tryd.prog Tryd.laysSort_ren where
  mixed := by kernel_rfl
  f125 := Tryd.func45.trans (congrArg some (by kernel_rfl))
  f128 := Tryd.func75.trans (congrArg some (by kernel_rfl))
  f129 := Tryd.func76.trans (congrArg some (by kernel_rfl))
  f190 := Tryd.func31.trans (congrArg some (by kernel_rfl))
  f258 := Tryd.func44.trans (congrArg some (by kernel_rfl))
  f302 := Tryd.func66.trans (congrArg some (by kernel_rfl))
  f303 := Tryd.func67.trans (congrArg some (by kernel_rfl))
  f304 := Tryd.func68.trans (congrArg some (by kernel_rfl))
  f305 := Tryd.func69.trans (congrArg some (by kernel_rfl))
  f306 := Tryd.func70.trans (congrArg some (by kernel_rfl))
  f307 := Tryd.func71.trans (congrArg some (by kernel_rfl))
  f308 := Tryd.func72.trans (congrArg some (by kernel_rfl))
  f309 := Tryd.func73.trans (congrArg some (by kernel_rfl))
  f310 := Tryd.func74.trans (congrArg some (by kernel_rfl))
  f329 := Tryd.func104.trans (congrArg some (by kernel_rfl))
  f330 := Tryd.func105.trans (congrArg some (by kernel_rfl))
  f333 := Tryd.func103.trans (congrArg some (by kernel_rfl))
  f334 := Tryd.func106.trans (congrArg some (by kernel_rfl))
  f335 := Tryd.func107.trans (congrArg some (by kernel_rfl))
  f336 := Tryd.func108.trans (congrArg some (by kernel_rfl))
  f344 := Tryd.func127.trans (congrArg some (by kernel_rfl))
  t0 := Tryd.underlying0
  a0 := Tryd.isAgg0
  z0 := Tryd.sizeOf0
  v0 := Tryd.zeroValue0
  t3 := Tryd.underlying3
  a3 := Tryd.isAgg3
  z3 := Tryd.sizeOf3
  v3 := Tryd.zeroValue3
  t4 := Tryd.underlying4
  a4 := Tryd.isAgg4
  z4 := Tryd.sizeOf4
  v4 := Tryd.zeroValue4
  t5 := Tryd.underlying5
  a5 := Tryd.isAgg5
  z5 := Tryd.sizeOf5
  v5 := Tryd.zeroValue5
  t9 := Tryd.underlying9
  a9 := Tryd.isAgg9
  z9 := Tryd.sizeOf9
  v9 := Tryd.zeroValue9
  t31 := Tryd.underlying29
  a31 := Tryd.isAgg29
  z31 := Tryd.sizeOf29
  v31 := Tryd.zeroValue29
  t46 := Tryd.underlying71
  a46 := Tryd.isAgg71
  z46 := Tryd.sizeOf71
  v46 := Tryd.zeroValue71
  t51 := Tryd.underlying99
  a51 := Tryd.isAgg99
  z51 := Tryd.sizeOf99
  v51 := Tryd.zeroValue99
  t53 := Tryd.underlying101
  a53 := Tryd.isAgg101
  z53 := Tryd.sizeOf101
  v53 := Tryd.zeroValue101
  t131 := Tryd.underlying96
  a131 := Tryd.isAgg96
  z131 := Tryd.sizeOf96
  v131 := Tryd.zeroValue96
  t182 := Tryd.underlying90
  a182 := Tryd.isAgg90
  z182 := Tryd.sizeOf90
  v182 := Tryd.zeroValue90
  t183 := Tryd.underlying91
  a183 := Tryd.isAgg91
  z183 := Tryd.sizeOf91
  v183 := Tryd.zeroValue91
  t218 := Tryd.underlying125
  a218 := Tryd.isAgg125
  z218 := Tryd.sizeOf125
  v218 := Tryd.zeroValue125
  t222 := Tryd.underlying129
  a222 := Tryd.isAgg129
  z222 := Tryd.sizeOf129
  v222 := Tryd.zeroValue129
  t228 := Tryd.underlying150
  a228 := Tryd.isAgg150
  z228 := Tryd.sizeOf150
  v228 := Tryd.zeroValue150
  t229 := Tryd.underlying151
  a229 := Tryd.isAgg151
  z229 := Tryd.sizeOf151
  v229 := Tryd.zeroValue151
def Tryd.laysCompact_ren : Go.Shelf.Ren := ⟨fun | 194 => 32 | n => n, fun | 31 => 29 | 9 => 9 | 3 => 3 | 4 => 4 | 0 => 0 | n => n, fun | n => n⟩
theorem Tryd.laysCompact : Go.Proofs.Lays.n194 Tryd.prog Tryd.laysCompact_ren where
  mixed := by kernel_rfl
  f194 := Tryd.func32.trans (congrArg some (by kernel_rfl))
  t0 := Tryd.underlying0
  a0 := Tryd.isAgg0
  z0 := Tryd.sizeOf0
  v0 := Tryd.zeroValue0
  t3 := Tryd.underlying3
  a3 := Tryd.isAgg3
  z3 := Tryd.sizeOf3
  v3 := Tryd.zeroValue3
  t4 := Tryd.underlying4
  a4 := Tryd.isAgg4
  z4 := Tryd.sizeOf4
  v4 := Tryd.zeroValue4
  t9 := Tryd.underlying9
  a9 := Tryd.isAgg9
  z9 := Tryd.sizeOf9
  v9 := Tryd.zeroValue9
  t31 := Tryd.underlying29
  a31 := Tryd.isAgg29
  z31 := Tryd.sizeOf29
  v31 := Tryd.zeroValue29

end Go.Proofs
namespace Go.Kx.So
open Go.Proofs Go.Kx Go.RowKit Go.Sort
set_option maxRecDepth 20000
def strs (l : List (List UInt8)) : List Value := l.map encStr
def sortL (l : List (List UInt8)) : List (List UInt8) := l.mergeSort fun x y => decide (x ≤ y)
theorem sortL_length (l : List (List UInt8)) : (sortL l).length = l.length := List.length_mergeSort l
theorem putCells_size {α : Type} [Inhabited α] (enc : α → Value) (off : Nat) (d : Array α) (c : Array Value) : (putCells enc off d c).size = c.size := by unfold putCells; simp
theorem take_put (l : List (List UInt8)) (off : Nat) (c : Array Value) (h : off + l.length ≤ c.size) : ((putCells encStr off l.toArray c).toList.drop off).take l.length = strs l := by
  apply List.ext_getElem?
  intro j
  rw [List.getElem?_take]
  split
  · rename_i hj
    rw [List.getElem?_drop]
    unfold strs putCells
    rw [Array.getElem?_toList, Array.getElem?_mapIdx, Array.getElem?_eq_getElem (by omega)]
    simp only [Option.map_some, List.size_toArray]
    rw [if_pos (by omega), List.getElem?_map, List.getElem?_eq_getElem hj, show off + j - off = j by omega]
    simp [hj]
  · rename_i hj
    unfold strs
    rw [List.getElem?_eq_none (by simp; omega)]
theorem block_put {w : World} {g : Nat} {cur : Array Value} {t : TypeId} (hg : w.heap[g]? = some (.cells cur t (0, 0))) (n o : Nat) (d : Array (List UInt8)) (os : Array Obj) :
    (grow (putRow encStr (Sort.ahead w n) g o d) os).heap[g]? = some (.cells (putCells encStr o d cur) t (0, 0)) ∧ (∀ b, b < w.heap.size → b ≠ g → (grow (putRow encStr (Sort.ahead w n) g o d) os).heap[b]? = w.heap[b]?) ∧ w.heap.size ≤ (grow (putRow encStr (Sort.ahead w n) g o d) os).heap.size := by
  have hlt := (Array.getElem?_eq_some_iff.1 hg).1
  have hsz : (putRow encStr (Sort.ahead w n) g o d).heap.size = w.heap.size := by simp [Sort.ahead]
  refine ⟨?_, fun b hb hne => ?_, ?_⟩
  · unfold grow
    simp only
    rw [Array.getElem?_append_left (by omega)]
    unfold putRow mapBlock Sort.ahead
    simp [Array.getElem?_modify, hg, onCells]
  · unfold grow
    simp only
    rw [Array.getElem?_append_left (by omega)]
    unfold putRow mapBlock Sort.ahead
    simp [Array.getElem?_modify, Ne.symm hne]
  · unfold grow
    simp only [Array.size_append]
    omega
theorem holds_of {w : World} {g o : Nat} {cur : Array Value} {t : TypeId} {l : List (List UInt8)} (hg : w.heap[g]? = some (.cells cur t (0, 0))) (htk : (cur.toList.drop o).take l.length = strs l) : Holds encStr w g o l.toArray := by
  intro j hj
  have hj' : j < l.length := by simpa using hj
  have h1 : (strs l)[j]? = some (encStr l[j]) := by unfold strs; simp [hj']
  rw [← htk, List.getElem?_take, if_pos hj', List.getElem?_drop] at h1
  refine ⟨?_, by simp [World.frozen?, hg]⟩
  have h2 : cur[o + j]? = some (encStr l[j]) := by simpa using h1
  simp only [World.cell?, hg]
  simp [h2, hj']
theorem sort_ (l : List (List UInt8)) (hn : l.length < 4611686018427387904) (h0 : 0 < l.length) (H : Hp) : CallO Tryd.prog 31 [.si (.ce (.self 0))] H [.row 9 1 l.length (strs l)] fun e H' G' => e = .ret (.tu []) ∧ H' = H ∧ G' = [.row 9 1 l.length (strs (sortL l))] := by
  refine (CallO.of_calls_turn (P := Tryd.prog) (t := 9) (n := l.length) (xs := strs l) (ys := strs (sortL l)) (R := fun v => v = .tuple #[]) h0 fun w g o cap cur _ _ hg hnc hcs htk => ?_).mono ?_
  · refine (Any.slices_Sort_string Tryd.laysSort g o cap l w (holds_of hg htk) (Array.getElem?_eq_some_iff.1 hg).1 hn).mono fun e w' ⟨he, n, os, hw⟩ => ?_
    subst he hw
    obtain ⟨b1, b2, b3⟩ := block_put hg n o (sortL l).toArray os
    refine ⟨_, _, rfl, rfl, rfl, rfl, rfl, b3, b2, b1, putCells_size _ _ _ _, ?_, ?_⟩
    · have := take_put (sortL l) o cur (by rw [sortL_length]; omega)
      rwa [sortL_length] at this
    · unfold strs; rw [List.length_map, sortL_length]
  · rintro e H' G' hle ⟨v, rfl, rfl, rfl, rfl⟩
    exact ⟨rfl, rfl, rfl⟩
/-- What a call comes to that is handed a row, and hands on a slice of it. -/
theorem of_calls_cut {P : Program} {f : FuncId} {H : Hp} {t : TypeId} {n m : Nat} {xs : List Value} (hn : 0 < n)
    (h : ∀ (w : World) (g o cap : Nat) (cur : Array Value), w.heap[g]? = some (.cells cur t (0, 0)) → n ≤ cap → o + cap ≤ cur.size → (cur.toList.drop o).take n = xs →
      Calls P f #[.slice (some ⟨g, o, none⟩) n cap] w fun e w' => ∃ A c, e = .returned (.slice A m c) ∧ w'.os = w.os ∧ w'.tape = w.tape ∧ w'.output = w.output ∧ w.heap.size ≤ w'.heap.size ∧ (∀ b, b < w.heap.size → b ≠ g → w'.heap[b]? = w.heap[b]?)) :
    CallO P f [.si (.ce (.self 0))] H [.row t 1 n xs] fun e H' G' => (∃ A c, e = .ret (pv (.slice A m c))) ∧ H' = H ∧ G' = [.dead] := by
  intro w0 M hgd H0 ρ w vs hs hv
  obtain ⟨v0, rfl, hv0⟩ : ∃ v0, vs = [v0] ∧ ρ[0]? = some v0 := by
    cases hv with | cons h1 h2 => cases h2; exact ⟨_, rfl, h1⟩
  have hrow := hs.ok 0 _ _ rfl hv0
  rcases hrow.2 with ⟨_, h0⟩ | ⟨g, o, cap, cur, rfl, hg, hnc, hcm, hcs, htk⟩
  · omega
  rw [Nat.mul_one] at hcs htk
  refine (h w g o cap cur hg hnc hcs htk).mono fun e w' he => ?_
  obtain ⟨A, c, rfl, e1, e2, e3, e4, e5⟩ := he
  exact ⟨pv (.slice A m c), ρ, H, _, hs.turn (k := 0) (s' := .dead) rfl hv0 (g := g) rfl e1 e2 e3 e4 e5 trivial (.inr rfl), .refl _, rfl, .refl _, ⟨A, c, rfl⟩, rfl, rfl⟩
theorem compact_ (l : List (List UInt8)) (hn : l.length < 4611686018427387904) (h0 : 0 < l.length) (H : Hp) : CallO Tryd.prog 32 [.si (.ce (.self 0))] H [.row 9 1 l.length (strs l)] fun e H' G' => (∃ A c, e = .ret (pv (.slice A (Lib.compact l).length c))) ∧ H' = H ∧ G' = [.dead] := by
  refine of_calls_cut h0 fun w g o cap cur hg hnc hcs htk => ?_
  refine (Any.slices_Compact_string Tryd.laysCompact g o cap l w (holds_of hg htk) (by omega) hnc).mono fun e w' ⟨he, q, hw⟩ => ?_
  subst he hw
  have hlt := (Array.getElem?_eq_some_iff.1 hg).1
  refine ⟨some ⟨g, o, none⟩, cap, rfl, rfl, rfl, rfl, by simp [Sort.ahead], fun b hb hne => ?_⟩
  unfold putRow mapBlock Sort.ahead
  simp [Array.getElem?_modify, Ne.symm hne]
end Go.Kx.So
