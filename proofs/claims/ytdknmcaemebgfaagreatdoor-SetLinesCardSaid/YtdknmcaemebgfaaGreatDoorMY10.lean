/- The library's slices.Sort, slices.Compact on texts. No condition of its own. -/
import Derived.Test.YtdknmcaemebgfaaGreatDoorMY09
import Derived.Test.YtdknmcaemebgfaaGreatDoorProg
import Derived.Shelf.Sort.Plain
import Derived.Shelf.Slices.CompactS
import Derived.Sort.OwnSorted
namespace Go.Proofs
open Go.Shelf
def Tryz.laysSort_ren : Go.Shelf.Ren := ⟨fun | 190 => 105 | 125 => 144 | 258 => 143 | 128 => 186 | 129 => 187 | 302 => 177 | 303 => 178 | 304 => 179 | 305 => 180 | 306 => 181 | 307 => 182 | 308 => 183 | 309 => 184 | 310 => 185 | 333 => 212 | 329 => 213 | 330 => 214 | 334 => 215 | 335 => 216 | 336 => 217 | 344 => 224 | n => n, fun | 31 => 62 | 9 => 9 | 3 => 3 | 46 => 147 | 0 => 0 | 51 => 189 | 53 => 177 | 4 => 4 | 183 => 217 | 182 => 216 | 131 => 78 | 5 => 5 | 218 => 245 | 222 => 249 | 228 => 258 | 229 => 259 | n => n, fun | n => n⟩
theorem Tryz.laysSort : Go.Proofs.Lays.n190 Tryz.prog Tryz.laysSort_ren where
 mixed := by kernel_rfl
 f125 := Tryz.func144.trans (congrArg some (by kernel_rfl))
 f128 := Tryz.func186.trans (congrArg some (by kernel_rfl))
 f129 := Tryz.func187.trans (congrArg some (by kernel_rfl))
 f190 := Tryz.func105.trans (congrArg some (by kernel_rfl))
 f258 := Tryz.func143.trans (congrArg some (by kernel_rfl))
 f302 := Tryz.func177.trans (congrArg some (by kernel_rfl))
 f303 := Tryz.func178.trans (congrArg some (by kernel_rfl))
 f304 := Tryz.func179.trans (congrArg some (by kernel_rfl))
 f305 := Tryz.func180.trans (congrArg some (by kernel_rfl))
 f306 := Tryz.func181.trans (congrArg some (by kernel_rfl))
 f307 := Tryz.func182.trans (congrArg some (by kernel_rfl))
 f308 := Tryz.func183.trans (congrArg some (by kernel_rfl))
 f309 := Tryz.func184.trans (congrArg some (by kernel_rfl))
 f310 := Tryz.func185.trans (congrArg some (by kernel_rfl))
 f329 := Tryz.func213.trans (congrArg some (by kernel_rfl))
 f330 := Tryz.func214.trans (congrArg some (by kernel_rfl))
 f333 := Tryz.func212.trans (congrArg some (by kernel_rfl))
 f334 := Tryz.func215.trans (congrArg some (by kernel_rfl))
 f335 := Tryz.func216.trans (congrArg some (by kernel_rfl))
 f336 := Tryz.func217.trans (congrArg some (by kernel_rfl))
 f344 := Tryz.func224.trans (congrArg some (by kernel_rfl))
 t0 := Tryz.underlying0
 a0 := Tryz.isAgg0
 z0 := Tryz.sizeOf0
 v0 := Tryz.zeroValue0
 t3 := Tryz.underlying3
 a3 := Tryz.isAgg3
 z3 := Tryz.sizeOf3
 v3 := Tryz.zeroValue3
 t4 := Tryz.underlying4
 a4 := Tryz.isAgg4
 z4 := Tryz.sizeOf4
 v4 := Tryz.zeroValue4
 t5 := Tryz.underlying5
 a5 := Tryz.isAgg5
 z5 := Tryz.sizeOf5
 v5 := Tryz.zeroValue5
 t9 := Tryz.underlying9
 a9 := Tryz.isAgg9
 z9 := Tryz.sizeOf9
 v9 := Tryz.zeroValue9
 t31 := Tryz.underlying62
 a31 := Tryz.isAgg62
 z31 := Tryz.sizeOf62
 v31 := Tryz.zeroValue62
 t46 := Tryz.underlying147
 a46 := Tryz.isAgg147
 z46 := Tryz.sizeOf147
 v46 := Tryz.zeroValue147
 t51 := Tryz.underlying189
 a51 := Tryz.isAgg189
 z51 := Tryz.sizeOf189
 v51 := Tryz.zeroValue189
 t53 := Tryz.underlying177
 a53 := Tryz.isAgg177
 z53 := Tryz.sizeOf177
 v53 := Tryz.zeroValue177
 t131 := Tryz.underlying78
 a131 := Tryz.isAgg78
 z131 := Tryz.sizeOf78
 v131 := Tryz.zeroValue78
 t182 := Tryz.underlying216
 a182 := Tryz.isAgg216
 z182 := Tryz.sizeOf216
 v182 := Tryz.zeroValue216
 t183 := Tryz.underlying217
 a183 := Tryz.isAgg217
 z183 := Tryz.sizeOf217
 v183 := Tryz.zeroValue217
 t218 := Tryz.underlying245
 a218 := Tryz.isAgg245
 z218 := Tryz.sizeOf245
 v218 := Tryz.zeroValue245
 t222 := Tryz.underlying249
 a222 := Tryz.isAgg249
 z222 := Tryz.sizeOf249
 v222 := Tryz.zeroValue249
 t228 := Tryz.underlying258
 a228 := Tryz.isAgg258
 z228 := Tryz.sizeOf258
 v228 := Tryz.zeroValue258
 t229 := Tryz.underlying259
 a229 := Tryz.isAgg259
 z229 := Tryz.sizeOf259
 v229 := Tryz.zeroValue259
def Tryz.laysCompact_ren : Go.Shelf.Ren := ⟨fun | 194 => 106 | n => n, fun | 31 => 62 | 9 => 9 | 3 => 3 | 4 => 4 | 0 => 0 | n => n, fun | n => n⟩
theorem Tryz.laysCompact : Go.Proofs.Lays.n194 Tryz.prog Tryz.laysCompact_ren where
 mixed := by kernel_rfl
 f194 := Tryz.func106.trans (congrArg some (by kernel_rfl))
 t0 := Tryz.underlying0
 a0 := Tryz.isAgg0
 z0 := Tryz.sizeOf0
 v0 := Tryz.zeroValue0
 t3 := Tryz.underlying3
 a3 := Tryz.isAgg3
 z3 := Tryz.sizeOf3
 v3 := Tryz.zeroValue3
 t4 := Tryz.underlying4
 a4 := Tryz.isAgg4
 z4 := Tryz.sizeOf4
 v4 := Tryz.zeroValue4
 t9 := Tryz.underlying9
 a9 := Tryz.isAgg9
 z9 := Tryz.sizeOf9
 v9 := Tryz.zeroValue9
 t31 := Tryz.underlying62
 a31 := Tryz.isAgg62
 z31 := Tryz.sizeOf62
 v31 := Tryz.zeroValue62

end Go.Proofs
namespace Go.Kx.So
open Go.Proofs Go.Kx Go.RowKit Go.Sort
set_option maxRecDepth 20000
def strs (l : List (List UInt8)) : List Value := l.map encStr
def sortL (l : List (List UInt8)) : List (List UInt8) := l.mergeSort fun x y => decide (x ≤ y)
theorem sortL_length (l : List (List UInt8)) : (sortL l).length = l.length := List.length_mergeSort l
theorem putCells_size {α : Type} [Inhabited α] (enc : α → Value) (off : Nat) (d : Array α) (c : Array Value) : (putCells enc off d c).size = c.size := by unfold putCells; simp
theorem take_put (l : List (List UInt8)) (off : Nat) (c : Array Value) (h : off + l.length ≤ c.size) : ((putCells encStr off l.toArray c).toList.drop off).take l.length = strs l := by
 apply List.ext_getElem?
 intro j
 rw [List.getElem?_take]
 split
 ·rename_i hj
  rw [List.getElem?_drop]
  unfold strs putCells
  rw [Array.getElem?_toList, Array.getElem?_mapIdx, Array.getElem?_eq_getElem (by omega)]
  simp only [Option.map_some, List.size_toArray]
  rw [if_pos (by omega), List.getElem?_map, List.getElem?_eq_getElem hj, show off + j - off = j by omega]
  simp [hj]
 ·rename_i hj
  unfold strs
  rw [List.getElem?_eq_none (by simp; omega)]
theorem block_put {w : World} {g : Nat} {cur : Array Value} {t : TypeId} (hg : w.heap[g]? = some (.cells cur t (0, 0))) (n o : Nat) (d : Array (List UInt8)) (os : Array Obj) :
  (grow (putRow encStr (Sort.ahead w n) g o d) os).heap[g]? = some (.cells (putCells encStr o d cur) t (0, 0)) ∧ (∀ b, b < w.heap.size → b ≠ g → (grow (putRow encStr (Sort.ahead w n) g o d) os).heap[b]? = w.heap[b]?) ∧ w.heap.size ≤ (grow (putRow encStr (Sort.ahead w n) g o d) os).heap.size := by
 have hlt := (Array.getElem?_eq_some_iff.1 hg).1
 have hsz : (putRow encStr (Sort.ahead w n) g o d).heap.size = w.heap.size := by simp [Sort.ahead]
 refine ⟨?_, fun b hb hne => ?_, ?_⟩
 ·unfold grow
  simp only
  rw [Array.getElem?_append_left (by omega)]
  unfold putRow mapBlock Sort.ahead
  simp [Array.getElem?_modify, hg, onCells]
 ·unfold grow
  simp only
  rw [Array.getElem?_append_left (by omega)]
  unfold putRow mapBlock Sort.ahead
  simp [Array.getElem?_modify, Ne.symm hne]
 ·unfold grow
  simp only [Array.size_append]
  omega
theorem holds_of {w : World} {g o : Nat} {cur : Array Value} {t : TypeId} {l : List (List UInt8)} (hg : w.heap[g]? = some (.cells cur t (0, 0))) (htk : (cur.toList.drop o).take l.length = strs l) : Holds encStr w g o l.toArray := by
 intro j hj
 have hj' : j < l.length := by simpa using hj
 have h1 : (strs l)[j]? = some (encStr l[j]) := by unfold strs; simp [hj']
 rw [← htk, List.getElem?_take, if_pos hj', List.getElem?_drop] at h1
 refine ⟨?_, by simp [World.frozen?, hg]⟩
 have h2 : cur[o + j]? = some (encStr l[j]) := by simpa using h1
 simp only [World.cell?, hg]
 simp [h2, hj']
theorem sort_ (l : List (List UInt8)) (hn : l.length < 4611686018427387904) (h0 : 0 < l.length) (H : Hp) : CallO Tryz.prog 105 [.si (.ce (.self 0))] H [.row 9 1 l.length (strs l)] fun e H' G' => e = .ret (.tu []) ∧ H' = H ∧ G' = [.row 9 1 l.length (strs (sortL l))] := by
 refine (CallO.of_calls_turn (P := Tryz.prog) (t := 9) (n := l.length) (xs := strs l) (ys := strs (sortL l)) (R := fun v => v = .tuple #[]) h0 fun w g o cap cur _ _ hg hnc hcs htk => ?_).mono ?_
 ·refine (Any.slices_Sort_string Tryz.laysSort g o cap l w (holds_of hg htk) (Array.getElem?_eq_some_iff.1 hg).1 hn).mono fun e w' ⟨he, n, os, hw⟩ => ?_
  subst he hw
  obtain ⟨b1, b2, b3⟩ := block_put hg n o (sortL l).toArray os
  refine ⟨_, _, rfl, rfl, rfl, rfl, rfl, b3, b2, b1, putCells_size _ _ _ _, ?_, ?_⟩
  ·have := take_put (sortL l) o cur (by rw [sortL_length]; omega)
   rwa [sortL_length] at this
  ·unfold strs; rw [List.length_map, sortL_length]
 ·rintro e H' G' hle ⟨v, rfl, rfl, rfl, rfl⟩
  exact ⟨rfl, rfl, rfl⟩
theorem of_calls_cut {P : Program} {f : FuncId} {H : Hp} {t : TypeId} {n m : Nat} {xs : List Value} (hn : 0 < n)
  (h : ∀ (w : World) (g o cap : Nat) (cur : Array Value), w.heap[g]? = some (.cells cur t (0, 0)) → n ≤ cap → o + cap ≤ cur.size → (cur.toList.drop o).take n = xs →
   Calls P f #[.slice (some ⟨g, o, none⟩) n cap] w fun e w' => ∃ A c, e = .returned (.slice A m c) ∧ w'.os = w.os ∧ w'.tape = w.tape ∧ w'.output = w.output ∧ w.heap.size ≤ w'.heap.size ∧ (∀ b, b < w.heap.size → b ≠ g → w'.heap[b]? = w.heap[b]?)) :
  CallO P f [.si (.ce (.self 0))] H [.row t 1 n xs] fun e H' G' => (∃ A c, e = .ret (pv (.slice A m c))) ∧ H' = H ∧ G' = [.dead] := by
 intro w0 M hgd H0 ρ w vs hs hv
 obtain ⟨v0, rfl, hv0⟩ : ∃ v0, vs = [v0] ∧ ρ[0]? = some v0 := by
  cases hv with | cons h1 h2 => cases h2; exact ⟨_, rfl, h1⟩
 have hrow := hs.ok 0 _ _ rfl hv0
 rcases hrow.2 with ⟨_, h0⟩ | ⟨g, o, cap, cur, rfl, hg, hnc, hcm, hcs, htk⟩
 ·omega
 rw [Nat.mul_one] at hcs htk
 refine (h w g o cap cur hg hnc hcs htk).mono fun e w' he => ?_
 obtain ⟨A, c, rfl, e1, e2, e3, e4, e5⟩ := he
 exact ⟨pv (.slice A m c), ρ, H, _, hs.turn (k := 0) (s' := .dead) rfl hv0 (g := g) rfl e1 e2 e3 e4 e5 trivial (.inr rfl), .refl _, rfl, .refl _, ⟨A, c, rfl⟩, rfl, rfl⟩
theorem compact_ (l : List (List UInt8)) (hn : l.length < 4611686018427387904) (h0 : 0 < l.length) (H : Hp) : CallO Tryz.prog 106 [.si (.ce (.self 0))] H [.row 9 1 l.length (strs l)] fun e H' G' => (∃ A c, e = .ret (pv (.slice A (Lib.compact l).length c))) ∧ H' = H ∧ G' = [.dead] := by
 refine of_calls_cut h0 fun w g o cap cur hg hnc hcs htk => ?_
 refine (Any.slices_Compact_string Tryz.laysCompact g o cap l w (holds_of hg htk) (by omega) hnc).mono fun e w' ⟨he, q, hw⟩ => ?_
 subst he hw
 have hlt := (Array.getElem?_eq_some_iff.1 hg).1
 refine ⟨some ⟨g, o, none⟩, cap, rfl, rfl, rfl, rfl, by simp [Sort.ahead], fun b hb hne => ?_⟩
 unfold putRow mapBlock Sort.ahead
 simp [Array.getElem?_modify, Ne.symm hne]
end Go.Kx.So
namespace Go.Kx.Js
open Go.Proofs Go.Kx Go.RowKit
set_option maxRecDepth 20000
def RJ : Hp → J → SV → Prop := fun H j sv => ∃ k y t A n c B m e, sv = agJ k y t A n c B m e ∧ JAt H j [.int .i64 k, .bool y, .string t, .slice A n c, .slice B m e]
def VSays (s : ByteArray) (d o : Int) (val : List UInt8 → Res J) : Prop := ∀ (l : List UInt8), Sfx l (tL s) → ∀ H : Hp, CallO Tryz.prog 131 [me] H [rdB s l d o] fun e H' G' => Out s d o RJ (val l) e H' G'
theorem VSays.use {s : ByteArray} {d o : Int} {val : List UInt8 → Res J} (h : VSays s d o val) (l : List UInt8) (hl : Sfx l (tL s)) (H : Hp) : CallO Tryz.prog 131 [me] H [rdB s l d o] fun e H' G' => Out s d o RJ (val l) e H' G' := h l hl H
def rB : SB := .box 129 [.ptr 0 0]
def vA (c : SC) : SB := .box 34 [.val (.int .i64 5), .val (.bool false), .val (.string ⟨#[]⟩), c, .val (.slice none 0 0)]
def vO (c : SC) : SB := .box 34 [.val (.int .i64 6), .val (.bool false), .val (.string ⟨#[]⟩), .val (.slice none 0 0), c]
def rowA (js : List J) (xs : List Value) : SB := .row 34 5 js.length xs
def zero5 : List Value := [.int .i64 0, .bool false, .string ⟨#[]⟩, .slice none 0 0, .slice none 0 0]
theorem ones_zero5 : ∀ u ∈ zero5, u.oneCell' = true := by
  intro u hu
  unfold zero5 at hu
  simp only [List.mem_cons, List.not_mem_nil, or_false] at hu
  rcases hu with rfl | rfl | rfl | rfl | rfl <;> rfl
def OutA (s : ByteArray) (d o : Int) (js : List J) (xs : List Value) (res : Res J) (e : SE) (H' : Hp) (G' : List SB) : Prop :=
  match res with
  | .ok j r => Sfx r (tL s) ∧ e = .ret (.tu []) ∧ ∃ xs', JsAt H' (js ++ [j]) xs' ∧ G' = [rdB s r d o, rB, vA (.self 4), .dead, rowA (js ++ [j]) xs']
  | .no er r => e = .pan [{ v := faultV er (pos s r), recovered := false }] ∧ ∃ l' o', G' = [rdB s l' d o', rB, vA (.self 3), rowA js xs]
theorem splice_end {xs zs ys : List Value} {off : Nat} (h : off = xs.length) (h2 : zs.length = ys.length) : splice (xs ++ zs) off ys = xs ++ ys := by
  subst h
  unfold splice
  rw [List.take_append_of_le_length (Nat.le_refl _), List.take_length, List.drop_of_length_le (by rw [List.length_append]; omega), List.append_nil]
theorem leafA {s : ByteArray} {r : List UInt8} {d o : Int} {js : List J} {j : J} {xs cs : List Value} {H : Hp} (hx : JsAt H js xs) (hj : JAt H j cs) : ∃ xs', JsAt H (js ++ [j]) xs' ∧
    [SB.box 131 [.val (.string s), .val (.int .i64 ((pos s r : Nat) : Int)), .val (.int .i64 d), .val (.int .i64 o)], rB, .box 34 [.val (.int .i64 5), .val (.bool false), .val (.string ⟨#[]⟩), .self 4, .val (.slice none 0 0)], .dead, .row 34 5 (js.length + 1) (splice (xs ++ zero5) ((js.length : Int).toNat * 5) cs)] = [rdB s r d o, rB, vA (.self 4), .dead, rowA (js ++ [j]) xs'] := by
  refine ⟨_, hx.snoc hj, ?_⟩
  rw [splice_end (xs := xs) (zs := zero5) (ys := cs) (by rw [hx.length]; omega) (show zero5.length = cs.length from hj.length.symm)]
  unfold rowA
  rw [List.length_append]
  rfl
set_option maxHeartbeats 8000000 in
theorem elA_ (s : ByteArray) (d o : Int) (val : List UInt8 → Res J) (hv : VSays s d o val) (l : List UInt8) (hl : Sfx l (tL s)) (js : List J) (xs : List Value) (hn : js.length ≤ 200000) (H : Hp) (hx : JsAt H js xs) :
    CallO Tryz.prog 206 [.si (.ce (.ptr 2 0)), .si (.ce (.ptr 1 0))] H [rdB s l d o, rB, vA (.self 3), rowA js xs] fun e H' G' => OutA s d o js xs (val l) e H' G' := by
  refine CallO.of_body tab Tryz.func206 rfl (nt := Tryz.f206.ntmps) rfl (by kernel_rfl) ?_
  (conv => whnf)
  refine WS.draw tab mixed (.take 0 (.take 2 (.alt 1 (.alt 3 (.alt 4 (.alt 5 (.alt 6 (.take 9 (.alt 7 (.alt 8 (.alt 10 .done .no) (.alt 10 (.alt 8 .done .no) .no)) (.alt 10 (.alt 7 (.alt 8 .done .no) .no) .no))) .no) .no) (.alt 5 (.alt 4 (.alt 6 (.take 9 (.alt 7 (.alt 8 (.alt 10 .done .no) (.alt 10 (.alt 8 .done .no) .no)) (.alt 10 (.alt 7 (.alt 8 .done .no) .no) .no))) .no) .no) .no)) (.alt 4 (.alt 3 (.alt 5 (.alt 6 (.take 9 (.alt 7 (.alt 8 (.alt 10 .done .no) (.alt 10 (.alt 8 .done .no) .no)) (.alt 10 (.alt 7 (.alt 8 .done .no) .no) .no))) .no) .no) (.alt 5 (.alt 3 (.alt 6 (.take 9 (.alt 7 (.alt 8 (.alt 10 .done .no) (.alt 10 (.alt 8 .done .no) .no)) (.alt 10 (.alt 7 (.alt 8 .done .no) .no) .no))) .no) .no) .no)) (.alt 5 (.alt 3 (.alt 4 (.alt 6 (.take 9 (.alt 7 (.alt 8 (.alt 10 .done .no) (.alt 10 (.alt 8 .done .no) .no)) (.alt 10 (.alt 7 (.alt 8 .done .no) .no) .no))) .no) .no) (.alt 4 (.alt 3 (.alt 6 (.take 9 (.alt 7 (.alt 8 (.alt 10 .done .no) (.alt 10 (.alt 8 .done .no) .no)) (.alt 10 (.alt 7 (.alt 8 .done .no) .no) .no))) .no) .no) .no)) .no))) (.alt 3 (.alt 1 (.alt 4 (.alt 5 (.alt 6 (.take 9 (.alt 7 (.alt 8 (.alt 10 .done .no) (.alt 10 (.alt 8 .done .no) .no)) (.alt 10 (.alt 7 (.alt 8 .done .no) .no) .no))) .no) .no) (.alt 5 (.alt 4 (.alt 6 (.take 9 (.alt 7 (.alt 8 (.alt 10 .done .no) (.alt 10 (.alt 8 .done .no) .no)) (.alt 10 (.alt 7 (.alt 8 .done .no) .no) .no))) .no) .no) .no)) (.alt 5 (.alt 1 (.alt 4 (.alt 6 (.take 9 (.alt 7 (.alt 8 (.alt 10 .done .no) (.alt 10 (.alt 8 .done .no) .no)) (.alt 10 (.alt 7 (.alt 8 .done .no) .no) .no))) .no) .no) .no) .no)) (.alt 5 (.alt 1 (.alt 3 (.alt 4 (.alt 6 (.take 9 (.alt 7 (.alt 8 (.alt 10 .done .no) (.alt 10 (.alt 8 .done .no) .no)) (.alt 10 (.alt 7 (.alt 8 .done .no) .no) .no))) .no) .no) (.alt 4 (.alt 3 (.alt 6 (.take 9 (.alt 7 (.alt 8 (.alt 10 .done .no) (.alt 10 (.alt 8 .done .no) .no)) (.alt 10 (.alt 7 (.alt 8 .done .no) .no) .no))) .no) .no) .no)) (.alt 3 (.alt 1 (.alt 4 (.alt 6 (.take 9 (.alt 7 (.alt 8 (.alt 10 .done .no) (.alt 10 (.alt 8 .done .no) .no)) (.alt 10 (.alt 7 (.alt 8 .done .no) .no) .no))) .no) .no) .no) .no)) .no))))) (by kernel_rfl) [0, 2, 3] ?_
  (conv => whnf)
  repeat' (first
    | exact trivial
    | exact rfl
    | exact ⟨_, Tryz.func131, rfl, by kernel_rfl⟩
    | (refine CallS.use (hv.use l hl _) [0] rfl rfl ⟨rfl, trivial⟩ ?_; intro e H2 G' hle2 hout; replace hx := hx.mono hle2; cases hval : val l)
    | (rw [hval] at hout; obtain ⟨rfl, l2, o2, rfl⟩ := hout; (conv => whnf); exact ⟨rfl, l2, o2, rfl⟩)
    | (rw [hval] at hout; obtain ⟨hr, ⟨sv, rfl, k, y, t, A, n, c, B, m, e, rfl, hj⟩, rfl⟩ := hout; clear hval; (conv => whnf))
    | (refine ⟨by decide, .inl ?_⟩; intro g H2 hle hrd; replace hx := hx.mono hle; try replace hj := hj.mono hle
       (conv => whnf))
    | (refine ⟨zero5, rfl, hrd, ones_zero5, ?_⟩; (conv => whnf); refine ⟨by show _ * 81 ≤ _; omega, ?_⟩; (conv => whnf))
    | (refine ⟨zero5, rfl, hrd.mono hle2, ones_zero5, ?_⟩; (conv => whnf); refine ⟨by show _ * 81 ≤ _; omega, ?_⟩; (conv => whnf))
    | (refine ⟨⟨by omega, by omega⟩, ?_⟩; (conv => whnf))
    | exact hr
    | (show (js.length : Int).toNat * 5 + 5 ≤ (xs ++ zero5).length; rw [List.length_append, hx.length]; show _ ≤ _ * 5 + 5; omega)
    | exact leafA hx hj
    | (refine And.intro ?_ ?_ <;> (conv => whnf)))
end Go.Kx.Js
namespace Go.Kx.Js
open Go.Proofs Go.Kx Go.RowKit
set_option maxRecDepth 20000
def zero6 : List Value := [.string ⟨#[]⟩, .int .i64 0, .bool false, .string ⟨#[]⟩, .slice none 0 0, .slice none 0 0]
theorem ones_zero6 : ∀ u ∈ zero6, u.oneCell' = true := by
  intro u hu
  unfold zero6 at hu
  simp only [List.mem_cons, List.not_mem_nil, or_false] at hu
  rcases hu with rfl | rfl | rfl | rfl | rfl | rfl <;> rfl
def OutM (s : ByteArray) (d o : Int) (ms : Ms) (xs : List Value) (res : Res Ms) (e : SE) (H' : Hp) (G' : List SB) : Prop :=
  match res with
  | .ok ms' r => Sfx r (tL s) ∧ e = .ret (.tu []) ∧ ∃ xs', MsAt H' ms' xs' ∧ G' = [rdB s r d o, vO (.self 3), .dead, rowO ms' xs']
  | .no er r => e = .pan [{ v := faultV er (pos s r), recovered := false }] ∧ ∃ l' o', G' = [rdB s l' d o', vO (.self 2), rowO ms xs]
def OutM4 (s : ByteArray) (d o : Int) (ms : Ms) (xs : List Value) (res : Res Ms) (e : SE) (H' : Hp) (G' : List SB) : Prop :=
  match res with
  | .ok ms' r => Sfx r (tL s) ∧ e = .ret (.tu []) ∧ ∃ xs' b, MsAt H' ms' xs' ∧ G' = [rdB s r d o, vO (.self 4), .dead, b, rowO ms' xs']
  | .no er r => e = .pan [{ v := faultV er (pos s r), recovered := false }] ∧ ∃ l' o', G' = [rdB s l' d o', vO (.self 2), rowO ms xs]
theorem leafM {s : ByteArray} {r : List UInt8} {d o : Int} {ms : Ms} {t : ByteArray} {j : J} {xs cs : List Value} {H : Hp} {b : SB} (hx : MsAt H ms xs) (hj : JAt H j cs) : ∃ xs' b', MsAt H (ms ++ [(t, j)]) xs' ∧
    [SB.box 131 [.val (.string s), .val (.int .i64 ((pos s r : Nat) : Int)), .val (.int .i64 d), .val (.int .i64 o)], .box 34 [.val (.int .i64 6), .val (.bool false), .val (.string ⟨#[]⟩), .val (.slice none 0 0), .self 4], .dead, b, .row 52 6 (ms.length + 1) (splice (xs ++ zero6) ((ms.length : Int).toNat * 6) (.string t :: cs))] = [rdB s r d o, vO (.self 4), .dead, b', rowO (ms ++ [(t, j)]) xs'] := by
  refine ⟨_, b, hx.snoc hj, ?_⟩
  rw [splice_end (xs := xs) (zs := zero6) (ys := .string t :: cs) (by rw [hx.length]; omega) (show zero6.length = (Value.string t :: cs).length by rw [List.length_cons, hj.length]; rfl)]
  unfold rowO
  rw [List.length_append]
  rfl
set_option maxHeartbeats 8000000 in
theorem member4 (s : ByteArray) (hs : s.size ≤ 200000) (d o : Int) (val : List UInt8 → Res J) (hv : VSays s d o val) (l : List UInt8) (hl : Sfx l (tL s)) (ms : Ms) (xs : List Value) (hn : List.length ms ≤ 200000) (H : Hp) (hx : MsAt H ms xs) :
    CallO Tryz.prog 208 [me, .si (.ce (.ptr 1 0))] H [rdB s l d o, vO (.self 2), rowO ms xs] fun e H' G' => OutM4 s d o ms xs (memP val ms l) e H' G' := by
  refine CallO.of_body tab Tryz.func208 rfl (nt := Tryz.f208.ntmps) rfl (by kernel_rfl) ?_
  (conv => whnf)
  refine ⟨⟨_, Tryz.func168, rfl, by kernel_rfl⟩, CallS.use (text_ s l hl hs d o H) [0] rfl rfl ⟨rfl, trivial⟩ ?_⟩
  intro e H2 G' hle2 hout
  replace hx := hx.mono hle2
  unfold memP
  cases htx : textP l with
  | no er r =>
    rw [htx] at hout
    obtain ⟨rfl, l2, o2, rfl⟩ := hout
    (conv => whnf)
    exact ⟨rfl, l2, o2, rfl⟩
  | ok t l1 =>
    rw [htx] at hout
    obtain ⟨hl1, ⟨sv, rfl, rfl⟩, rfl⟩ := hout
    (conv => whnf)
    refine ⟨⟨_, Tryz.func41, rfl, by kernel_rfl⟩, CallS.use (getOwn ms xs t (by omega) H2 hx) [2] rfl rfl ⟨rfl, trivial⟩ ?_⟩
    rintro e H3 G' hle3 ⟨rfl, ⟨k0, y0, t0, A0, n0, c0, B0, m0, f0, rfl⟩, rfl⟩
    have hmem : ∀ (x : SE) (H' : Hp) (G' : List SB), OutM4 s d o ms xs (match getP ms t with | some _ => .no 15 l | none => (mustP 58 (blankP l1)).bind fun _ l2 => (val (blankP l2)).bind fun j l3 => .ok (ms ++ [(t, j)]) l3) x H' G' → OutM4 s d o ms xs ((Res.ok t l1).bind fun s l1 => match getP ms s with | some _ => .no 15 l | none => (mustP 58 (blankP l1)).bind fun _ l2 => (val (blankP l2)).bind fun j l3 => .ok (ms ++ [(s, j)]) l3) x H' G' := fun _ _ _ h => h
    cases hg : getP ms t with
    | some j0 =>
      rw [hg] at hmem
      (conv => whnf)
      refine ⟨⟨_, Tryz.func172, rfl, by kernel_rfl⟩, CallS.use (fail_ 15 (pos s l : Nat) s l1 d o _) [0] rfl rfl ⟨rfl, trivial⟩ ?_⟩
      rintro e H2 G' hle2 ⟨rfl, rfl, rfl⟩
      (conv => whnf)
      exact hmem _ _ _ ⟨rfl, l1, o, rfl⟩
    | none =>
      rw [hg] at hmem
      (conv => whnf)
      refine ⟨⟨_, Tryz.func130, rfl, by kernel_rfl⟩, CallS.use (blank_ s l1 hl1 (by omega) d o _) [0] rfl rfl ⟨rfl, trivial⟩ ?_⟩
      rintro e H4 G' hle4 ⟨rfl, rfl, rfl⟩
      (conv => whnf)
      have hl2 := (blankP_sfx l1).trans hl1
      refine ⟨⟨_, Tryz.func202, rfl, by kernel_rfl⟩, CallS.use (must_ 58 (by decide) s _ hl2 (by omega) d o _) [0] rfl rfl ⟨rfl, trivial⟩ ?_⟩
      rintro e H5 G' hle5 ⟨rfl, hout⟩
      cases hm : mustP 58 (blankP l1) with
      | no er r =>
        rw [hm] at hout hmem
        obtain ⟨rfl, l2, o2, rfl⟩ := hout
        (conv => whnf)
        exact hmem _ _ _ ⟨rfl, l2, o2, rfl⟩
      | ok u l2 =>
        rw [hm] at hout hmem
        obtain ⟨hl3, ⟨sv, rfl, rfl⟩, rfl⟩ := hout
        (conv => whnf)
        refine ⟨⟨_, Tryz.func130, rfl, by kernel_rfl⟩, CallS.use (blank_ s l2 hl3 (by omega) d o _) [0] rfl rfl ⟨rfl, trivial⟩ ?_⟩
        rintro e H6 G' hle6 ⟨rfl, rfl, rfl⟩
        (conv => whnf)
        have hl4 := (blankP_sfx l2).trans hl3
        replace hmem : ∀ (x : SE) (H' : Hp) (G' : List SB), OutM4 s d o ms xs ((val (blankP l2)).bind fun j l3 => .ok (ms ++ [(t, j)]) l3) x H' G' → _ := hmem
        generalize blankP l2 = l4 at *
        refine WS.draw tab mixed (.take 0 (.take 1 (.take 2 (.take 4 (.take 5 (.alt 3 (.alt 6 (.take 7 (.alt 8 (.alt 9 (.alt 10 (.take 13 (.take 14 (.alt 11 (.alt 12 (.alt 15 .done .no) (.alt 15 (.alt 12 .done .no) .no)) (.alt 15 (.alt 11 (.alt 12 .done .no) .no) .no)))) .no) .no) (.alt 9 (.alt 8 (.alt 10 (.take 13 (.take 14 (.alt 11 (.alt 12 (.alt 15 .done .no) (.alt 15 (.alt 12 .done .no) .no)) (.alt 15 (.alt 11 (.alt 12 .done .no) .no) .no)))) .no) .no) .no))) (.alt 8 (.alt 6 (.take 7 (.alt 9 (.alt 10 (.take 13 (.take 14 (.alt 11 (.alt 12 (.alt 15 .done .no) (.alt 15 (.alt 12 .done .no) .no)) (.alt 15 (.alt 11 (.alt 12 .done .no) .no) .no)))) .no) .no)) (.alt 9 (.alt 6 (.take 7 (.alt 10 (.take 13 (.take 14 (.alt 11 (.alt 12 (.alt 15 .done .no) (.alt 15 (.alt 12 .done .no) .no)) (.alt 15 (.alt 11 (.alt 12 .done .no) .no) .no)))) .no)) .no) .no)) (.alt 9 (.alt 6 (.take 7 (.alt 8 (.alt 10 (.take 13 (.take 14 (.alt 11 (.alt 12 (.alt 15 .done .no) (.alt 15 (.alt 12 .done .no) .no)) (.alt 15 (.alt 11 (.alt 12 .done .no) .no) .no)))) .no) .no)) (.alt 8 (.alt 6 (.take 7 (.alt 10 (.take 13 (.take 14 (.alt 11 (.alt 12 (.alt 15 .done .no) (.alt 15 (.alt 12 .done .no) .no)) (.alt 15 (.alt 11 (.alt 12 .done .no) .no) .no)))) .no)) .no) .no)) .no))) (.alt 6 (.take 7 (.alt 3 (.alt 8 (.alt 9 (.alt 10 (.take 13 (.take 14 (.alt 11 (.alt 12 (.alt 15 .done .no) (.alt 15 (.alt 12 .done .no) .no)) (.alt 15 (.alt 11 (.alt 12 .done .no) .no) .no)))) .no) .no) (.alt 9 (.alt 8 (.alt 10 (.take 13 (.take 14 (.alt 11 (.alt 12 (.alt 15 .done .no) (.alt 15 (.alt 12 .done .no) .no)) (.alt 15 (.alt 11 (.alt 12 .done .no) .no) .no)))) .no) .no) .no)) (.alt 9 (.alt 3 (.alt 8 (.alt 10 (.take 13 (.take 14 (.alt 11 (.alt 12 (.alt 15 .done .no) (.alt 15 (.alt 12 .done .no) .no)) (.alt 15 (.alt 11 (.alt 12 .done .no) .no) .no)))) .no) .no) .no) .no))) (.alt 9 (.alt 3 (.alt 6 (.take 7 (.alt 8 (.alt 10 (.take 13 (.take 14 (.alt 11 (.alt 12 (.alt 15 .done .no) (.alt 15 (.alt 12 .done .no) .no)) (.alt 15 (.alt 11 (.alt 12 .done .no) .no) .no)))) .no) .no)) (.alt 8 (.alt 6 (.take 7 (.alt 10 (.take 13 (.take 14 (.alt 11 (.alt 12 (.alt 15 .done .no) (.alt 15 (.alt 12 .done .no) .no)) (.alt 15 (.alt 11 (.alt 12 .done .no) .no) .no)))) .no)) .no) .no)) (.alt 6 (.take 7 (.alt 3 (.alt 8 (.alt 10 (.take 13 (.take 14 (.alt 11 (.alt 12 (.alt 15 .done .no) (.alt 15 (.alt 12 .done .no) .no)) (.alt 15 (.alt 11 (.alt 12 .done .no) .no) .no)))) .no) .no) .no)) .no)) .no)))))))) (by kernel_rfl) [0, 1, 2] ?_
        (conv => whnf)
        repeat' (first
          | exact trivial
          | exact rfl
          | exact ⟨_, Tryz.func131, rfl, by kernel_rfl⟩
          | (refine CallS.use (hv.use l4 hl4 _) [0] rfl rfl ⟨rfl, trivial⟩ ?_; intro e H2 G' hle2 hout; replace hx := hx.mono hle2; cases hval : val l4)
          | (rw [hval] at hout hmem; obtain ⟨rfl, l2, o2, rfl⟩ := hout; (conv => whnf); exact hmem _ _ _ ⟨rfl, l2, o2, rfl⟩)
          | (rw [hval] at hout hmem; obtain ⟨hr, ⟨sv, rfl, k, y, t, A, n, c, B, m, e, rfl, hj⟩, rfl⟩ := hout; clear hval; (conv => whnf))
          | (refine ⟨by decide, .inl ?_⟩; intro g H2 hle hrd; replace hx := hx.mono hle; try replace hj := hj.mono hle
             (conv => whnf))
          | (refine ⟨zero6, rfl, hrd, ones_zero6, ?_⟩; (conv => whnf); refine ⟨by show _ * 97 ≤ _; omega, ?_⟩; (conv => whnf))
          | (refine ⟨zero6, rfl, hrd.mono hle2, ones_zero6, ?_⟩; (conv => whnf); refine ⟨by show _ * 97 ≤ _; omega, ?_⟩; (conv => whnf))
          | (refine ⟨⟨by omega, by omega⟩, ?_⟩; (conv => whnf))
          | (show (List.length ms : Int).toNat * 6 + 6 ≤ (xs ++ zero6).length; rw [List.length_append, hx.length]; show _ ≤ _ * 6 + 6; omega)
          | exact hmem _ _ _ ⟨hr, rfl, leafM hx hj⟩
          | (refine And.intro ?_ ?_ <;> (conv => whnf)))
end Go.Kx.Js
namespace Go.Kx.Js
open Go.Proofs Go.Kx Go.RowKit
set_option maxRecDepth 20000
theorem member_ (s : ByteArray) (hs : s.size ≤ 200000) (d o : Int) (val : List UInt8 → Res J) (hv : VSays s d o val) (l : List UInt8) (hl : Sfx l (tL s)) (ms : Ms) (xs : List Value) (hn : List.length ms ≤ 200000) (H : Hp) (hx : MsAt H ms xs) :
  CallO Tryz.prog 208 [me, .si (.ce (.ptr 1 0))] H [rdB s l d o, vO (.self 2), rowO ms xs] fun e H' G' => OutM s d o ms xs (memP val ms l) e H' G' := by
 refine CallO.sub (member4 s hs d o val hv l hl ms xs hn H hx) ?_
 intro e H' G' hle hout
 cases hm : memP val ms l with
 | no er r =>
  rw [hm] at hout
  obtain ⟨rfl, l2, o2, rfl⟩ := hout
  exact ⟨rfl, l2, o2, rfl⟩
 | ok ms' r =>
  rw [hm] at hout
  obtain ⟨hr, rfl, xs', b, hx', rfl⟩ := hout
  exact ⟨.tu [], [rdB s r d o, vO (.self 3), .dead, rowO ms' xs'], [0, 1, 2, 4], rfl, ⟨rfl, rfl, trivial, rfl, trivial⟩, rfl, hr, rfl, xs', hx', rfl⟩
def OutO (s : ByteArray) (d o : Int) (ms : Ms) (xs : List Value) (res : Res Ms) (e : SE) (H' : Hp) (G' : List SB) : Prop :=
 match res with
 | .ok ms' r => Sfx r (tL s) ∧ e = .ret (.tu []) ∧ ∃ xs', MsAt H' ms' xs' ∧ G' = [rdB s r d o, rB, vO (.self 4), .dead, rowO ms' xs']
 | .no er r => e = .pan [{ v := faultV er (pos s r), recovered := false }] ∧ ∃ l' o', G' = [rdB s l' d o', rB, vO (.self 3), rowO ms xs]
theorem elO_ (s : ByteArray) (hs : s.size ≤ 200000) (d o : Int) (val : List UInt8 → Res J) (hv : VSays s d o val) (l : List UInt8) (hl : Sfx l (tL s)) (ms : Ms) (xs : List Value) (hn : List.length ms ≤ 200000) (H : Hp) (hx : MsAt H ms xs) :
  CallO Tryz.prog 207 [.si (.ce (.ptr 1 0)), .si (.ce (.ptr 2 0))] H [rdB s l d o, rB, vO (.self 3), rowO ms xs] fun e H' G' => OutO s d o ms xs (memP val ms l) e H' G' := by
 refine CallO.of_body tab Tryz.func207 rfl (nt := Tryz.f207.ntmps) rfl (by kernel_rfl) ?_
 (conv => whnf)
 refine ⟨⟨_, Tryz.func208, rfl, by kernel_rfl⟩, CallS.use (member_ s hs d o val hv l hl ms xs hn H hx) [0, 2, 3] rfl rfl ⟨rfl, rfl, rfl, trivial⟩ ?_⟩
 intro e H2 G' hle2 hout
 cases hm : memP val ms l with
 | no er r =>
  rw [hm] at hout
  obtain ⟨rfl, l2, o2, rfl⟩ := hout
  (conv => whnf)
  exact ⟨rfl, l2, o2, rfl⟩
 | ok ms' r =>
  rw [hm] at hout
  obtain ⟨hr, rfl, xs', hx', rfl⟩ := hout
  (conv => whnf)
  exact ⟨hr, rfl, xs', hx', rfl⟩
theorem rowP_end {α : Type} {one : α → List UInt8 → Res α} {en : UInt8} {m : Nat} {x : α} {l r : List UInt8} (h : tk en l = some r) : rowP one en (m + 1) true x l = .ok x r := by
 show (match (if true then tk en l else none) with | some r => _ | none => _) = _
 rw [if_pos rfl, h]
theorem rowP_go {α : Type} {one : α → List UInt8 → Res α} {en : UInt8} {m : Nat} {first : Bool} {x : α} {l : List UInt8} (h : (if first then tk en l else none) = none) : rowP one en (m + 1) first x l = (one x l).bind fun y l1 => match tk en (blankP l1) with
   | some r => .ok y r
   | none => (mustP 44 (blankP l1)).bind fun _ l3 => rowP one en m false y (blankP l3) := by
 show (match (if first then tk en l else none) with | some r => _ | none => _) = _
 rw [h]
 rfl
theorem mustP_ok {c : UInt8} {l r : List UInt8} {u : Unit} (h : mustP c l = .ok u r) : l = c :: r := by
 unfold mustP at h
 split at h
 ·rename_i r' ht
  injection h with _ h
  subst h; exact tk_some ht
 ·cases h
def shA (q : Nat) (s : ByteArray) (l : List UInt8) (d o : Int) (js : List J) (xs : List Value) : List SB :=
 match q with
 | 0 => [rdB s l d o, rB, vA (.self 3), rowA js xs]
 | 1 => [rdB s l d o, rB, vA (.self 4), .dead, rowA js xs]
 | _ => [rdB s l d o, rB, vA (.self 5), .dead, .dead, rowA js xs]
def OutRA (s : ByteArray) (d o : Int) (res : Res (List J)) (e : SE) (H' : Hp) (G' : List SB) : Prop :=
 match res with
 | .ok js' r => Sfx r (tL s) ∧ e = .ret (.tu []) ∧ ∃ xs' q, JsAt H' js' xs' ∧ G' = shA q s r d (o - 1) js' xs'
 | .no er r => e = .pan [{ v := faultV er (pos s r), recovered := false }] ∧ ∃ l' o' q js' xs', G' = shA q s l' d o' js' xs'
theorem rowA_ (s : ByteArray) (hs : s.size ≤ 190000) (d o : Int) (ho : 0 ≤ o ∧ o ≤ 1000) (val : List UInt8 → Res J) (hv : VSays s d o val) (hvs : ∀ x l y r, elP val x l = .ok y r → Sfx r l ∧ List.length y = List.length x + 1) (l : List UInt8) (hl : Sfx l (tL s)) (H : Hp) :
  CallO Tryz.prog 205 [me, pv (.int .u8 93), .si (.ce (.fn (.func 206) 0 [(2, 0), (1, 0)]))] H [rdB s l d o, rB, vA (.self 3), rowA [] []] fun e H' G' => OutRA s d o (rowP (elP val) 93 (l.length + 1) true [] l) e H' G' := by
 refine CallO.of_body tab Tryz.func205 rfl (nt := Tryz.f205.ntmps) rfl (by kernel_rfl) ?_
 (conv => whnf)
 refine WS.loop (fun k F H2 G => ∃ (m q : Nat) (js : List J) (r : List UInt8) (xs : List Value), Sfx r (tL s) ∧ r.length < m ∧ rowP (elP val) 93 m (Nat.beq q 0) js r = rowP (elP val) 93 (l.length + 1) true [] l ∧ List.length js + r.length ≤ s.size + 1 ∧ k = r.length ∧ JsAt H2 js xs ∧ q ≤ 1 ∧
  F = [(0, me), (1, pv (.int .u8 93)), (2, .si (.ce (.fn (.func 206) 0 [(2, 0), (1, 0)]))), (6, pv (.bool (Nat.beq q 0)))] ∧ G = shA q s r d o js xs) (l.length + 1) ?_ ?_
 ·refine ⟨l.length, by omega, _, _, [0, 1, 2, 3], ⟨l.length + 1, 0, [], l, [], hl, by omega, rfl, by have := hl.le; rw [← size_eq] at this; simp; omega, rfl, .nil, by omega, rfl, rfl⟩, ?_⟩
  exact ⟨rfl, ⟨rfl, rfl, rfl, rfl, trivial⟩, rfl, rfl, rfl, rfl, trivial⟩
 rintro k F H2 G hle ⟨m, q, js, r, xs, hr, hm, hb, hlen, rfl, hx, hq, rfl, rfl⟩
 refine codeL.go tab ?_
 cases m with
 | zero => omega
 | succ m =>
 have hq2 : q = 0 ∨ q = 1 := by omega
 have hrs := hr.le
 rw [← size_eq] at hrs
 have fin : ∀ (H' : Hp) (r2 : List UInt8) (js' : List J) (xs' : List Value) (q : Nat), Sfx r2 (tL s) → JsAt H' js' xs' → rowP (elP val) 93 (l.length + 1) true [] l = .ok js' r2 → OutRA s d o (rowP (elP val) 93 (l.length + 1) true [] l) (.ret (.tu [])) H' (shA q s r2 d (o - 1) js' xs') := by
  intro H' r2 js' xs' q h1 h2 h3
  rw [h3]
  exact ⟨h1, rfl, xs', q, h2, rfl⟩
 have bad : ∀ (er : Nat) (H' : Hp) (r2 l2 : List UInt8) (o2 : Int) (js' : List J) (xs' : List Value) (q : Nat), rowP (elP val) 93 (l.length + 1) true [] l = .no er r2 → OutRA s d o (rowP (elP val) 93 (l.length + 1) true [] l) (.pan [{ v := faultV er (pos s r2), recovered := false }]) H' (shA q s l2 d o2 js' xs') := by
  intro er H' r2 l2 o2 js' xs' q h3
  rw [h3]
  exact ⟨rfl, l2, o2, q, js', xs', rfl⟩
 rcases hq2 with rfl | rfl
 ·replace hb : rowP (elP val) 93 (m + 1) true js r = rowP (elP val) 93 (l.length + 1) true [] l := hb
  (conv => whnf)
  refine ⟨⟨_, Tryz.func141, rfl, by kernel_rfl⟩, CallS.use (next_ 93 (by decide) s r hr (by omega) d o _) [0] rfl rfl ⟨rfl, trivial⟩ ?_⟩
  rintro e H4 G' hle4 ⟨rfl, h⟩
  cases hen : tk 93 r with
  | some r2 =>
   rw [hen] at h
   obtain ⟨hr2, rfl, rfl⟩ := h
   (conv => whnf)
   rw [wrap64 (x := o - 1) (by omega) (by omega)]
   rw [rowP_end hen] at hb
   exact fin _ r2 js xs 0 hr2 hx hb.symm
  | none =>
   rw [hen] at h
   obtain ⟨rfl, rfl⟩ := h
   rw [rowP_go (by exact hen)] at hb
   (conv => whnf)
   refine ⟨⟨_, Tryz.func206, rfl, by kernel_rfl⟩, CallS.use (elA_ s  d o val hv r hr js xs (by omega) H4 hx) [0, 1, 2, 3] rfl rfl ⟨rfl, rfl, rfl, rfl, trivial⟩ ?_⟩
   intro e H5 G' hle5 hout
   cases hval : val r with
   | no er r2 =>
    rw [hval] at hout; have hone : elP val js r = (val r).bind (fun j r => .ok (js ++ [j]) r) := rfl; rw [hone, hval] at hb
    obtain ⟨rfl, l2, o2, rfl⟩ := hout
    (conv => whnf)
    exact bad er _ r2 l2 o2 js xs 0 hb.symm
   | ok j r2 =>
    rw [hval] at hout; have hone : elP val js r = (val r).bind (fun j r => .ok (js ++ [j]) r) := rfl; rw [hone, hval] at hb
    have hys := hvs js r (js ++ [j]) r2 (by rw [hone, hval]; rfl)
    obtain ⟨hr2, rfl, xs', hx', rfl⟩ := hout
    (conv => whnf)
    refine ⟨⟨_, Tryz.func130, rfl, by kernel_rfl⟩, CallS.use (blank_ s r2 hr2 (by omega) d o _) [0] rfl rfl ⟨rfl, trivial⟩ ?_⟩
    rintro e H6 G' hle6 ⟨rfl, rfl, rfl⟩
    (conv => whnf)
    have hb2 := blankP_sfx r2
    have hr3 := hb2.trans hr2
    refine ⟨⟨_, Tryz.func141, rfl, by kernel_rfl⟩, CallS.use (next_ 93 (by decide) s _ hr3 (by omega) d o _) [0] rfl rfl ⟨rfl, trivial⟩ ?_⟩
    rintro e H7 G' hle7 ⟨rfl, h⟩
    replace hb : (match tk 93 (blankP r2) with | some r => Res.ok (js ++ [j]) r | none => (mustP 44 (blankP r2)).bind fun _ l3 => rowP (elP val) 93 m false (js ++ [j]) (blankP l3)) = rowP (elP val) 93 (l.length + 1) true [] l := hb
    generalize hy : js ++ [j] = y at *
    cases hen2 : tk 93 (blankP r2) with
    | some r4 =>
     rw [hen2] at h hb
     obtain ⟨hr4, rfl, rfl⟩ := h
     (conv => whnf)
     rw [wrap64 (x := o - 1) (by omega) (by omega)]
     exact fin _ r4 y xs' 1 hr4 hx' hb.symm
    | none =>
     rw [hen2] at h hb
     obtain ⟨rfl, rfl⟩ := h
     (conv => whnf)
     refine ⟨⟨_, Tryz.func202, rfl, by kernel_rfl⟩, CallS.use (must_ 44 (by decide) s _ hr3 (by omega) d o _) [0] rfl rfl ⟨rfl, trivial⟩ ?_⟩
     rintro e H8 G' hle8 ⟨rfl, hout⟩
     replace hb : ((mustP 44 (blankP r2)).bind fun _ l3 => rowP (elP val) 93 m false y (blankP l3)) = rowP (elP val) 93 (l.length + 1) true [] l := hb
     cases hm44 : mustP 44 (blankP r2) with
     | no er r4 =>
      rw [hm44] at hout hb
      obtain ⟨rfl, l2, o2, rfl⟩ := hout
      (conv => whnf)
      exact bad er _ r4 l2 o2 y xs' 1 hb.symm
     | ok u r4 =>
      rw [hm44] at hout hb
      obtain ⟨hr4, ⟨sv, rfl, rfl⟩, rfl⟩ := hout
      (conv => whnf)
      refine ⟨⟨_, Tryz.func130, rfl, by kernel_rfl⟩, CallS.use (blank_ s r4 hr4 (by omega) d o _) [0] rfl rfl ⟨rfl, trivial⟩ ?_⟩
      rintro e H9 G' hle9 ⟨rfl, rfl, rfl⟩
      (conv => whnf)
      have h44 := mustP_ok hm44
      have hl4 : r4.length + 1 = (blankP r2).length := by rw [h44]; rfl
      have hl5 := (blankP_sfx r4).le
      have hl6 := hb2.le
      have hl7 := hys.1.le
      have hl8 := hys.2
      refine ⟨(blankP r4).length, by omega, _, _, [0, 1, 2, 3, 4], ⟨m, 1, y, blankP r4, xs', (blankP_sfx r4).trans hr4, by omega, hb, by omega, rfl, hx', by omega, rfl, rfl⟩, ?_⟩
      exact ⟨rfl, ⟨rfl, rfl, rfl, trivial, rfl, trivial⟩, rfl, rfl, rfl, rfl, trivial⟩
 ·replace hb : rowP (elP val) 93 (m + 1) false js r = rowP (elP val) 93 (l.length + 1) true [] l := hb
  rw [rowP_go (show (if false = true then tk 93 r else none) = none from rfl)] at hb
  (conv => whnf)
  refine ⟨⟨_, Tryz.func206, rfl, by kernel_rfl⟩, CallS.use (elA_ s  d o val hv r hr js xs (by omega) H2 hx) [0, 1, 2, 4] rfl rfl ⟨rfl, rfl, rfl, rfl, trivial⟩ ?_⟩
  intro e H5 G' hle5 hout
  cases hval : val r with
  | no er r2 =>
   rw [hval] at hout; have hone : elP val js r = (val r).bind (fun j r => .ok (js ++ [j]) r) := rfl; rw [hone, hval] at hb
   obtain ⟨rfl, l2, o2, rfl⟩ := hout
   (conv => whnf)
   exact bad er _ r2 l2 o2 js xs 1 hb.symm
  | ok j r2 =>
   rw [hval] at hout; have hone : elP val js r = (val r).bind (fun j r => .ok (js ++ [j]) r) := rfl; rw [hone, hval] at hb
   have hys := hvs js r (js ++ [j]) r2 (by rw [hone, hval]; rfl)
   obtain ⟨hr2, rfl, xs', hx', rfl⟩ := hout
   (conv => whnf)
   refine ⟨⟨_, Tryz.func130, rfl, by kernel_rfl⟩, CallS.use (blank_ s r2 hr2 (by omega) d o _) [0] rfl rfl ⟨rfl, trivial⟩ ?_⟩
   rintro e H6 G' hle6 ⟨rfl, rfl, rfl⟩
   (conv => whnf)
   have hb2 := blankP_sfx r2
   have hr3 := hb2.trans hr2
   refine ⟨⟨_, Tryz.func141, rfl, by kernel_rfl⟩, CallS.use (next_ 93 (by decide) s _ hr3 (by omega) d o _) [0] rfl rfl ⟨rfl, trivial⟩ ?_⟩
   rintro e H7 G' hle7 ⟨rfl, h⟩
   replace hb : (match tk 93 (blankP r2) with | some r => Res.ok (js ++ [j]) r | none => (mustP 44 (blankP r2)).bind fun _ l3 => rowP (elP val) 93 m false (js ++ [j]) (blankP l3)) = rowP (elP val) 93 (l.length + 1) true [] l := hb
   generalize hy : js ++ [j] = y at *
   cases hen2 : tk 93 (blankP r2) with
   | some r4 =>
    rw [hen2] at h hb
    obtain ⟨hr4, rfl, rfl⟩ := h
    (conv => whnf)
    rw [wrap64 (x := o - 1) (by omega) (by omega)]
    exact fin _ r4 y xs' 2 hr4 hx' hb.symm
   | none =>
    rw [hen2] at h hb
    obtain ⟨rfl, rfl⟩ := h
    (conv => whnf)
    refine ⟨⟨_, Tryz.func202, rfl, by kernel_rfl⟩, CallS.use (must_ 44 (by decide) s _ hr3 (by omega) d o _) [0] rfl rfl ⟨rfl, trivial⟩ ?_⟩
    rintro e H8 G' hle8 ⟨rfl, hout⟩
    replace hb : ((mustP 44 (blankP r2)).bind fun _ l3 => rowP (elP val) 93 m false y (blankP l3)) = rowP (elP val) 93 (l.length + 1) true [] l := hb
    cases hm44 : mustP 44 (blankP r2) with
    | no er r4 =>
     rw [hm44] at hout hb
     obtain ⟨rfl, l2, o2, rfl⟩ := hout
     (conv => whnf)
     exact bad er _ r4 l2 o2 y xs' 2 hb.symm
    | ok u r4 =>
     rw [hm44] at hout hb
     obtain ⟨hr4, ⟨sv, rfl, rfl⟩, rfl⟩ := hout
     (conv => whnf)
     refine ⟨⟨_, Tryz.func130, rfl, by kernel_rfl⟩, CallS.use (blank_ s r4 hr4 (by omega) d o _) [0] rfl rfl ⟨rfl, trivial⟩ ?_⟩
     rintro e H9 G' hle9 ⟨rfl, rfl, rfl⟩
     (conv => whnf)
     have h44 := mustP_ok hm44
     have hl4 : r4.length + 1 = (blankP r2).length := by rw [h44]; rfl
     have hl5 := (blankP_sfx r4).le
     have hl6 := hb2.le
     have hl7 := hys.1.le
     have hl8 := hys.2
     refine ⟨(blankP r4).length, by omega, _, _, [0, 1, 2, 3, 5], ⟨m, 1, y, blankP r4, xs', (blankP_sfx r4).trans hr4, by omega, hb, by omega, rfl, hx', by omega, rfl, rfl⟩, ?_⟩
     exact ⟨rfl, ⟨rfl, rfl, rfl, trivial, rfl, trivial⟩, rfl, rfl, rfl, rfl, trivial⟩
def shO (q : Nat) (s : ByteArray) (l : List UInt8) (d o : Int) (js : List (ByteArray × J)) (xs : List Value) : List SB :=
 match q with
 | 0 => [rdB s l d o, rB, vO (.self 3), rowO js xs]
 | 1 => [rdB s l d o, rB, vO (.self 4), .dead, rowO js xs]
 | _ => [rdB s l d o, rB, vO (.self 5), .dead, .dead, rowO js xs]
def OutRO (s : ByteArray) (d o : Int) (res : Res (List (ByteArray × J))) (e : SE) (H' : Hp) (G' : List SB) : Prop :=
 match res with
 | .ok js' r => Sfx r (tL s) ∧ e = .ret (.tu []) ∧ ∃ xs' q, MsAt H' js' xs' ∧ G' = shO q s r d (o - 1) js' xs'
 | .no er r => e = .pan [{ v := faultV er (pos s r), recovered := false }] ∧ ∃ l' o' q js' xs', G' = shO q s l' d o' js' xs'
theorem rowO_ (s : ByteArray) (hs : s.size ≤ 190000) (d o : Int) (ho : 0 ≤ o ∧ o ≤ 1000) (val : List UInt8 → Res J) (hv : VSays s d o val) (hvs : ∀ x l y r, memP val x l = .ok y r → Sfx r l ∧ List.length y = List.length x + 1) (l : List UInt8) (hl : Sfx l (tL s)) (H : Hp) :
  CallO Tryz.prog 205 [me, pv (.int .u8 125), .si (.ce (.fn (.func 207) 0 [(1, 0), (2, 0)]))] H [rdB s l d o, rB, vO (.self 3), rowO [] []] fun e H' G' => OutRO s d o (rowP (memP val) 125 (l.length + 1) true [] l) e H' G' := by
 refine CallO.of_body tab Tryz.func205 rfl (nt := Tryz.f205.ntmps) rfl (by kernel_rfl) ?_
 (conv => whnf)
 refine WS.loop (fun k F H2 G => ∃ (m q : Nat) (js : List (ByteArray × J)) (r : List UInt8) (xs : List Value), Sfx r (tL s) ∧ r.length < m ∧ rowP (memP val) 125 m (Nat.beq q 0) js r = rowP (memP val) 125 (l.length + 1) true [] l ∧ List.length js + r.length ≤ s.size + 1 ∧ k = r.length ∧ MsAt H2 js xs ∧ q ≤ 1 ∧
  F = [(0, me), (1, pv (.int .u8 125)), (2, .si (.ce (.fn (.func 207) 0 [(1, 0), (2, 0)]))), (6, pv (.bool (Nat.beq q 0)))] ∧ G = shO q s r d o js xs) (l.length + 1) ?_ ?_
 ·refine ⟨l.length, by omega, _, _, [0, 1, 2, 3], ⟨l.length + 1, 0, [], l, [], hl, by omega, rfl, by have := hl.le; rw [← size_eq] at this; simp; omega, rfl, .nil, by omega, rfl, rfl⟩, ?_⟩
  exact ⟨rfl, ⟨rfl, rfl, rfl, rfl, trivial⟩, rfl, rfl, rfl, rfl, trivial⟩
 rintro k F H2 G hle ⟨m, q, js, r, xs, hr, hm, hb, hlen, rfl, hx, hq, rfl, rfl⟩
 refine codeL.go tab ?_
 cases m with
 | zero => omega
 | succ m =>
 have hq2 : q = 0 ∨ q = 1 := by omega
 have hrs := hr.le
 rw [← size_eq] at hrs
 have fin : ∀ (H' : Hp) (r2 : List UInt8) (js' : List (ByteArray × J)) (xs' : List Value) (q : Nat), Sfx r2 (tL s) → MsAt H' js' xs' → rowP (memP val) 125 (l.length + 1) true [] l = .ok js' r2 → OutRO s d o (rowP (memP val) 125 (l.length + 1) true [] l) (.ret (.tu [])) H' (shO q s r2 d (o - 1) js' xs') := by
  intro H' r2 js' xs' q h1 h2 h3
  rw [h3]
  exact ⟨h1, rfl, xs', q, h2, rfl⟩
 have bad : ∀ (er : Nat) (H' : Hp) (r2 l2 : List UInt8) (o2 : Int) (js' : List (ByteArray × J)) (xs' : List Value) (q : Nat), rowP (memP val) 125 (l.length + 1) true [] l = .no er r2 → OutRO s d o (rowP (memP val) 125 (l.length + 1) true [] l) (.pan [{ v := faultV er (pos s r2), recovered := false }]) H' (shO q s l2 d o2 js' xs') := by
  intro er H' r2 l2 o2 js' xs' q h3
  rw [h3]
  exact ⟨rfl, l2, o2, q, js', xs', rfl⟩
 rcases hq2 with rfl | rfl
 ·replace hb : rowP (memP val) 125 (m + 1) true js r = rowP (memP val) 125 (l.length + 1) true [] l := hb
  (conv => whnf)
  refine ⟨⟨_, Tryz.func141, rfl, by kernel_rfl⟩, CallS.use (next_ 125 (by decide) s r hr (by omega) d o _) [0] rfl rfl ⟨rfl, trivial⟩ ?_⟩
  rintro e H4 G' hle4 ⟨rfl, h⟩
  cases hen : tk 125 r with
  | some r2 =>
   rw [hen] at h
   obtain ⟨hr2, rfl, rfl⟩ := h
   (conv => whnf)
   rw [wrap64 (x := o - 1) (by omega) (by omega)]
   rw [rowP_end hen] at hb
   exact fin _ r2 js xs 0 hr2 hx hb.symm
  | none =>
   rw [hen] at h
   obtain ⟨rfl, rfl⟩ := h
   rw [rowP_go (by exact hen)] at hb
   (conv => whnf)
   refine ⟨⟨_, Tryz.func207, rfl, by kernel_rfl⟩, CallS.use (elO_ s (by omega) d o val hv r hr js xs (by omega) H4 hx) [0, 1, 2, 3] rfl rfl ⟨rfl, rfl, rfl, rfl, trivial⟩ ?_⟩
   intro e H5 G' hle5 hout
   cases hval : memP val js r with
   | no er r2 =>
    rw [hval] at hout; rw [hval] at hb
    obtain ⟨rfl, l2, o2, rfl⟩ := hout
    (conv => whnf)
    exact bad er _ r2 l2 o2 js xs 0 hb.symm
   | ok y r2 =>
    rw [hval] at hout; rw [hval] at hb
    have hys := hvs js r y r2 hval
    obtain ⟨hr2, rfl, xs', hx', rfl⟩ := hout
    (conv => whnf)
    refine ⟨⟨_, Tryz.func130, rfl, by kernel_rfl⟩, CallS.use (blank_ s r2 hr2 (by omega) d o _) [0] rfl rfl ⟨rfl, trivial⟩ ?_⟩
    rintro e H6 G' hle6 ⟨rfl, rfl, rfl⟩
    (conv => whnf)
    have hb2 := blankP_sfx r2
    have hr3 := hb2.trans hr2
    refine ⟨⟨_, Tryz.func141, rfl, by kernel_rfl⟩, CallS.use (next_ 125 (by decide) s _ hr3 (by omega) d o _) [0] rfl rfl ⟨rfl, trivial⟩ ?_⟩
    rintro e H7 G' hle7 ⟨rfl, h⟩
    replace hb : (match tk 125 (blankP r2) with | some r => Res.ok y r | none => (mustP 44 (blankP r2)).bind fun _ l3 => rowP (memP val) 125 m false y (blankP l3)) = rowP (memP val) 125 (l.length + 1) true [] l := hb
    cases hen2 : tk 125 (blankP r2) with
    | some r4 =>
     rw [hen2] at h hb
     obtain ⟨hr4, rfl, rfl⟩ := h
     (conv => whnf)
     rw [wrap64 (x := o - 1) (by omega) (by omega)]
     exact fin _ r4 y xs' 1 hr4 hx' hb.symm
    | none =>
     rw [hen2] at h hb
     obtain ⟨rfl, rfl⟩ := h
     (conv => whnf)
     refine ⟨⟨_, Tryz.func202, rfl, by kernel_rfl⟩, CallS.use (must_ 44 (by decide) s _ hr3 (by omega) d o _) [0] rfl rfl ⟨rfl, trivial⟩ ?_⟩
     rintro e H8 G' hle8 ⟨rfl, hout⟩
     replace hb : ((mustP 44 (blankP r2)).bind fun _ l3 => rowP (memP val) 125 m false y (blankP l3)) = rowP (memP val) 125 (l.length + 1) true [] l := hb
     cases hm44 : mustP 44 (blankP r2) with
     | no er r4 =>
      rw [hm44] at hout hb
      obtain ⟨rfl, l2, o2, rfl⟩ := hout
      (conv => whnf)
      exact bad er _ r4 l2 o2 y xs' 1 hb.symm
     | ok u r4 =>
      rw [hm44] at hout hb
      obtain ⟨hr4, ⟨sv, rfl, rfl⟩, rfl⟩ := hout
      (conv => whnf)
      refine ⟨⟨_, Tryz.func130, rfl, by kernel_rfl⟩, CallS.use (blank_ s r4 hr4 (by omega) d o _) [0] rfl rfl ⟨rfl, trivial⟩ ?_⟩
      rintro e H9 G' hle9 ⟨rfl, rfl, rfl⟩
      (conv => whnf)
      have h44 := mustP_ok hm44
      have hl4 : r4.length + 1 = (blankP r2).length := by rw [h44]; rfl
      have hl5 := (blankP_sfx r4).le
      have hl6 := hb2.le
      have hl7 := hys.1.le
      have hl8 := hys.2
      refine ⟨(blankP r4).length, by omega, _, _, [0, 1, 2, 3, 4], ⟨m, 1, y, blankP r4, xs', (blankP_sfx r4).trans hr4, by omega, hb, by omega, rfl, hx', by omega, rfl, rfl⟩, ?_⟩
      exact ⟨rfl, ⟨rfl, rfl, rfl, trivial, rfl, trivial⟩, rfl, rfl, rfl, rfl, trivial⟩
 ·replace hb : rowP (memP val) 125 (m + 1) false js r = rowP (memP val) 125 (l.length + 1) true [] l := hb
  rw [rowP_go (show (if false = true then tk 125 r else none) = none from rfl)] at hb
  (conv => whnf)
  refine ⟨⟨_, Tryz.func207, rfl, by kernel_rfl⟩, CallS.use (elO_ s (by omega) d o val hv r hr js xs (by omega) H2 hx) [0, 1, 2, 4] rfl rfl ⟨rfl, rfl, rfl, rfl, trivial⟩ ?_⟩
  intro e H5 G' hle5 hout
  cases hval : memP val js r with
  | no er r2 =>
   rw [hval] at hout; rw [hval] at hb
   obtain ⟨rfl, l2, o2, rfl⟩ := hout
   (conv => whnf)
   exact bad er _ r2 l2 o2 js xs 1 hb.symm
  | ok y r2 =>
   rw [hval] at hout; rw [hval] at hb
   have hys := hvs js r y r2 hval
   obtain ⟨hr2, rfl, xs', hx', rfl⟩ := hout
   (conv => whnf)
   refine ⟨⟨_, Tryz.func130, rfl, by kernel_rfl⟩, CallS.use (blank_ s r2 hr2 (by omega) d o _) [0] rfl rfl ⟨rfl, trivial⟩ ?_⟩
   rintro e H6 G' hle6 ⟨rfl, rfl, rfl⟩
   (conv => whnf)
   have hb2 := blankP_sfx r2
   have hr3 := hb2.trans hr2
   refine ⟨⟨_, Tryz.func141, rfl, by kernel_rfl⟩, CallS.use (next_ 125 (by decide) s _ hr3 (by omega) d o _) [0] rfl rfl ⟨rfl, trivial⟩ ?_⟩
   rintro e H7 G' hle7 ⟨rfl, h⟩
   replace hb : (match tk 125 (blankP r2) with | some r => Res.ok y r | none => (mustP 44 (blankP r2)).bind fun _ l3 => rowP (memP val) 125 m false y (blankP l3)) = rowP (memP val) 125 (l.length + 1) true [] l := hb
   cases hen2 : tk 125 (blankP r2) with
   | some r4 =>
    rw [hen2] at h hb
    obtain ⟨hr4, rfl, rfl⟩ := h
    (conv => whnf)
    rw [wrap64 (x := o - 1) (by omega) (by omega)]
    exact fin _ r4 y xs' 2 hr4 hx' hb.symm
   | none =>
    rw [hen2] at h hb
    obtain ⟨rfl, rfl⟩ := h
    (conv => whnf)
    refine ⟨⟨_, Tryz.func202, rfl, by kernel_rfl⟩, CallS.use (must_ 44 (by decide) s _ hr3 (by omega) d o _) [0] rfl rfl ⟨rfl, trivial⟩ ?_⟩
    rintro e H8 G' hle8 ⟨rfl, hout⟩
    replace hb : ((mustP 44 (blankP r2)).bind fun _ l3 => rowP (memP val) 125 m false y (blankP l3)) = rowP (memP val) 125 (l.length + 1) true [] l := hb
    cases hm44 : mustP 44 (blankP r2) with
    | no er r4 =>
     rw [hm44] at hout hb
     obtain ⟨rfl, l2, o2, rfl⟩ := hout
     (conv => whnf)
     exact bad er _ r4 l2 o2 y xs' 2 hb.symm
    | ok u r4 =>
     rw [hm44] at hout hb
     obtain ⟨hr4, ⟨sv, rfl, rfl⟩, rfl⟩ := hout
     (conv => whnf)
     refine ⟨⟨_, Tryz.func130, rfl, by kernel_rfl⟩, CallS.use (blank_ s r4 hr4 (by omega) d o _) [0] rfl rfl ⟨rfl, trivial⟩ ?_⟩
     rintro e H9 G' hle9 ⟨rfl, rfl, rfl⟩
     (conv => whnf)
     have h44 := mustP_ok hm44
     have hl4 : r4.length + 1 = (blankP r2).length := by rw [h44]; rfl
     have hl5 := (blankP_sfx r4).le
     have hl6 := hb2.le
     have hl7 := hys.1.le
     have hl8 := hys.2
     refine ⟨(blankP r4).length, by omega, _, _, [0, 1, 2, 3, 5], ⟨m, 1, y, blankP r4, xs', (blankP_sfx r4).trans hr4, by omega, hb, by omega, rfl, hx', by omega, rfl, rfl⟩, ?_⟩
     exact ⟨rfl, ⟨rfl, rfl, rfl, trivial, rfl, trivial⟩, rfl, rfl, rfl, rfl, trivial⟩
end Go.Kx.Js
namespace Go.Kx
section
variable {P : Program}
theorem CallO.nilIn {f : FuncId} {svs : List SV} {H : Hp} {G : List SB} {K : SE → Hp → List SB → Prop} (k i : Nat) {t : TypeId} {cs : List SC} (et sz : Nat) (hk : G[k]? = some (.box t cs)) (hi : cs[i]? = some (.val (.slice none 0 0)))
  (h : CallO P f svs H (G.set k (.box t (cs.set i (.self G.length))) ++ [.row et sz 0 []]) K) : CallO P f svs H G K := by
 intro w0 M hgd H0 ρ w vs hs hv
 refine (h w0 M hgd H0 _ w vs (hs.nilCell et sz hk hi) (hv.mono fun _ _ => SV.Is.mono (Pre.append _ _))).mono fun e w' he => ?_
 cases e with
 | returned v => obtain ⟨sv, ρ', H', G', h1, h2, h3, h4, h5⟩ := he; exact ⟨sv, ρ', H', G', h1, (Pre.append _ _).trans h2, h3, h4, h5⟩
 | panicked ch => obtain ⟨ρ', H', G', h1, h2, h4, h5⟩ := he; exact ⟨ρ', H', G', h1, (Pre.append _ _).trans h2, h4, h5⟩
 | outgrown => exact he
theorem CallS.nilIn {f : FuncId} {svs : List SV} {H : Hp} {G : List SB} {K : SE → Hp → List SB → Prop} (k i : Nat) {t : TypeId} {cs : List SC} (et sz : Nat) (hk : G[k]? = some (.box t cs)) (hi : cs[i]? = some (.val (.slice none 0 0)))
  (h : CallS P f svs H (G.set k (.box t (cs.set i (.self G.length))) ++ [.row et sz 0 []]) K) : CallS P f svs H G K := ⟨CallO.nilIn k i et sz hk hi h.to⟩
end
end Go.Kx
namespace Go.Kx.Js
open Go.Proofs Go.Kx Go.RowKit
set_option maxRecDepth 20000
def arrP (val : List UInt8 → Res J) (l : List UInt8) : Res (List J) := (enterP 91 l).bind fun _ r => rowP (elP val) 93 (r.length + 1) true [] r
def objP (val : List UInt8 → Res J) (l : List UInt8) : Res Ms := (enterP 123 l).bind fun _ r => rowP (memP val) 125 (r.length + 1) true [] r
def agA (c : SC) : SV := .si (.ag [.val (.int .i64 5), .val (.bool false), .val (.string ⟨#[]⟩), c, .val (.slice none 0 0)])
def agO (c : SC) : SV := .si (.ag [.val (.int .i64 6), .val (.bool false), .val (.string ⟨#[]⟩), .val (.slice none 0 0), c])
def OutA0 (s : ByteArray) (d o : Int) (res : Res (List J)) (e : SE) (H' : Hp) (G' : List SB) : Prop :=
 match res with
 | .ok js r => Sfx r (tL s) ∧ ∃ xs, JsAt H' js xs ∧ ((e = .ret (agA (.self 4)) ∧ G' = [rdB s r d o, rB, vA (.self 4), vA (.self 4), rowA js xs]) ∨ (e = .ret (agA (.self 5)) ∧ G' = [rdB s r d o, rB, vA (.self 5), vA (.self 5), .dead, rowA js xs]) ∨ (e = .ret (agA (.self 6)) ∧ G' = [rdB s r d o, rB, vA (.self 6), vA (.self 6), .dead, .dead, rowA js xs]))
 | .no er r => e = .pan [{ v := faultV er (pos s r), recovered := false }] ∧ ∃ l' o', G' = [rdB s l' d o']
theorem array0 (s : ByteArray) (hs : s.size ≤ 190000) (d o : Int) (ho : 0 ≤ o ∧ o ≤ 900) (val : List UInt8 → Res J) (hv : VSays s d (o + 1) val) (hvs : ∀ x l y r, elP val x l = .ok y r → Sfx r l ∧ List.length y = List.length x + 1) (l : List UInt8) (hl : Sfx l (tL s)) (H : Hp) (hod : o ≠ d) :
  CallO Tryz.prog 169 [me] H [rdB s l d o] fun e H' G' => OutA0 s d o (arrP val l) e H' G' := by
 refine CallO.of_body tab Tryz.func169 rfl (nt := Tryz.f169.ntmps) rfl (by kernel_rfl) ?_
 (conv => whnf)
 refine ⟨⟨_, Tryz.func204, rfl, by kernel_rfl⟩, CallS.use (enter_ 91 (by decide) s l hl (by omega) d o (by omega) H) [0] rfl rfl ⟨rfl, trivial⟩ ?_⟩
 rintro e H2 G' hle2 ⟨rfl, _, hout⟩
 replace hout := hout hod
 unfold arrP
 cases hen : enterP 91 l with
 | no er r =>
  rw [hen] at hout
  obtain ⟨rfl, l2, o2, rfl⟩ := hout
  (conv => whnf)
  exact ⟨rfl, l2, o2, rfl⟩
 | ok u l1 =>
  rw [hen] at hout
  obtain ⟨hl1, ⟨sv, rfl, rfl⟩, rfl⟩ := hout
  (conv => whnf)
  refine ⟨⟨_, Tryz.func205, rfl, by kernel_rfl⟩, CallS.nilIn 3 3 34 5 rfl rfl (CallS.use (rowA_ s hs d (o + 1) (by omega) val hv hvs l1 hl1 _) [0, 1, 3, 4] rfl rfl ⟨rfl, rfl, rfl, rfl, trivial⟩ ?_)⟩
  intro e H3 G' hle3 hout
  cases hrow : rowP (elP val) 93 (l1.length + 1) true [] l1 with
  | no er r =>
   have hgo : ∀ (e : SE) (H' : Hp) (G' : List SB), OutA0 s d o (.no er r) e H' G' → OutA0 s d o ((Res.ok u l1).bind fun _ r => rowP (elP val) 93 (r.length + 1) true [] r) e H' G' := fun e H' G' h => by
    show OutA0 s d o (rowP (elP val) 93 (l1.length + 1) true [] l1) e H' G'
    rw [hrow]; exact h
   rw [hrow] at hout
   obtain ⟨rfl, l2, o2, q, js', xs', rfl⟩ := hout
   match q with
   | 0 => (conv => whnf); exact hgo _ _ _ ⟨rfl, l2, o2, rfl⟩
   | 1 => (conv => whnf); exact hgo _ _ _ ⟨rfl, l2, o2, rfl⟩
   | _ + 2 => (conv => whnf); exact hgo _ _ _ ⟨rfl, l2, o2, rfl⟩
  | ok js r =>
   have hgo : ∀ (e : SE) (H' : Hp) (G' : List SB), OutA0 s d o (.ok js r) e H' G' → OutA0 s d o ((Res.ok u l1).bind fun _ r => rowP (elP val) 93 (r.length + 1) true [] r) e H' G' := fun e H' G' h => by
    show OutA0 s d o (rowP (elP val) 93 (l1.length + 1) true [] l1) e H' G'
    rw [hrow]; exact h
   rw [hrow] at hout
   obtain ⟨hr, rfl, xs, q, hx, rfl⟩ := hout
   have ho1 : o + 1 - 1 = o := by omega
   rw [ho1]
   match q with
   | 0 => (conv => whnf); exact hgo _ _ _ ⟨hr, xs, hx, .inl ⟨rfl, rfl⟩⟩
   | 1 => (conv => whnf); exact hgo _ _ _ ⟨hr, xs, hx, .inr (.inl ⟨rfl, rfl⟩)⟩
   | _ + 2 => (conv => whnf); exact hgo _ _ _ ⟨hr, xs, hx, .inr (.inr ⟨rfl, rfl⟩)⟩
theorem array_ (s : ByteArray) (hs : s.size ≤ 190000) (d o : Int) (ho : 0 ≤ o ∧ o ≤ 900) (val : List UInt8 → Res J) (hv : VSays s d (o + 1) val) (hvs : ∀ x l y r, elP val x l = .ok y r → Sfx r l ∧ List.length y = List.length x + 1) (l : List UInt8) (hl : Sfx l (tL s)) (H : Hp) (hod : o ≠ d) :
  CallO Tryz.prog 169 [me] H [rdB s l d o] fun e H' G' => Out s d o RJ ((arrP val l).bind fun js r => .ok (jArr js) r) e H' G' := by
 refine CallO.sub (K0 := fun e H' G' => match arrP val l with
  | .ok js r => Sfx r (tL s) ∧ (∃ sv, e = .ret sv ∧ RJ H' (jArr js) sv) ∧ ∃ L, G' = rdB s r d o :: L
  | .no er r => e = .pan [{ v := faultV er (pos s r), recovered := false }] ∧ ∃ l' o', G' = [rdB s l' d o']) (CallO.frz (array0 s hs d o ho val hv hvs l hl H hod) ?_) ?_
 ·intro e H' G' hle hout
  cases hp : arrP val l with
  | no er r =>
   rw [hp] at hout
   obtain ⟨rfl, l2, o2, rfl⟩ := hout
   exact ⟨rfl, l2, o2, rfl⟩
  | ok js r =>
   rw [hp] at hout
   obtain ⟨hr, xs, hx, hcase⟩ := hout
   have h0 : List.length js = 0 → xs = [] := fun h => List.eq_nil_of_length_eq_zero (by rw [hx.length, h])
   have key : ∀ (x : Value) (H2 : Hp), H'.Le H2 → Frozen H2 x (List.length js) xs → RJ H2 (jArr js) (agA (.val x)) := fun x H2 hle2 hfr => by
    obtain ⟨A, c, rfl, hrv⟩ := RdV.of_frozen hfr
    exact ⟨5, false, ⟨#[]⟩, A, js.length, c, none, 0, 0, rfl, .mk rfl (hx.mono hle2) hrv rfl .nil (.nil _)⟩
   rcases hcase with ⟨rfl, rfl⟩ | ⟨rfl, rfl⟩ | ⟨rfl, rfl⟩
   ·exact ⟨4, _, _, _, _, rfl, h0, fun x H2 hle2 hfr => ⟨hr, ⟨_, rfl, key x H2 hle2 hfr⟩, _, rfl⟩⟩
   ·exact ⟨5, _, _, _, _, rfl, h0, fun x H2 hle2 hfr => ⟨hr, ⟨_, rfl, key x H2 hle2 hfr⟩, _, rfl⟩⟩
   ·exact ⟨6, _, _, _, _, rfl, h0, fun x H2 hle2 hfr => ⟨hr, ⟨_, rfl, key x H2 hle2 hfr⟩, _, rfl⟩⟩
 ·intro e H' G' hle hout
  cases hp : arrP val l with
  | no er r =>
   rw [hp] at hout
   obtain ⟨rfl, l2, o2, rfl⟩ := hout
   exact ⟨rfl, l2, o2, rfl⟩
  | ok js r =>
   rw [hp] at hout
   obtain ⟨hr, ⟨sv, rfl, k, y, t, A, n, c, B, m, f, rfl, hj⟩, L, rfl⟩ := hout
   exact ⟨agJ k y t A n c B m f, [rdB s r d o], [0], rfl, ⟨rfl, trivial⟩, rfl, hr, ⟨_, rfl, k, y, t, A, n, c, B, m, f, rfl, hj⟩, rfl⟩
def OutO0 (s : ByteArray) (d o : Int) (res : Res (List (ByteArray × J))) (e : SE) (H' : Hp) (G' : List SB) : Prop :=
 match res with
 | .ok js r => Sfx r (tL s) ∧ ∃ xs, MsAt H' js xs ∧ ((e = .ret (agO (.self 4)) ∧ G' = [rdB s r d o, rB, vO (.self 4), vO (.self 4), rowO js xs]) ∨ (e = .ret (agO (.self 5)) ∧ G' = [rdB s r d o, rB, vO (.self 5), vO (.self 5), .dead, rowO js xs]) ∨ (e = .ret (agO (.self 6)) ∧ G' = [rdB s r d o, rB, vO (.self 6), vO (.self 6), .dead, .dead, rowO js xs]))
 | .no er r => e = .pan [{ v := faultV er (pos s r), recovered := false }] ∧ ∃ l' o', G' = [rdB s l' d o']
theorem object0 (s : ByteArray) (hs : s.size ≤ 190000) (d o : Int) (ho : 0 ≤ o ∧ o ≤ 900) (val : List UInt8 → Res J) (hv : VSays s d (o + 1) val) (hvs : ∀ x l y r, memP val x l = .ok y r → Sfx r l ∧ List.length y = List.length x + 1) (l : List UInt8) (hl : Sfx l (tL s)) (H : Hp) (hod : o ≠ d) :
  CallO Tryz.prog 170 [me] H [rdB s l d o] fun e H' G' => OutO0 s d o (objP val l) e H' G' := by
 refine CallO.of_body tab Tryz.func170 rfl (nt := Tryz.f170.ntmps) rfl (by kernel_rfl) ?_
 (conv => whnf)
 refine ⟨⟨_, Tryz.func204, rfl, by kernel_rfl⟩, CallS.use (enter_ 123 (by decide) s l hl (by omega) d o (by omega) H) [0] rfl rfl ⟨rfl, trivial⟩ ?_⟩
 rintro e H2 G' hle2 ⟨rfl, _, hout⟩
 replace hout := hout hod
 unfold objP
 cases hen : enterP 123 l with
 | no er r =>
  rw [hen] at hout
  obtain ⟨rfl, l2, o2, rfl⟩ := hout
  (conv => whnf)
  exact ⟨rfl, l2, o2, rfl⟩
 | ok u l1 =>
  rw [hen] at hout
  obtain ⟨hl1, ⟨sv, rfl, rfl⟩, rfl⟩ := hout
  (conv => whnf)
  refine ⟨⟨_, Tryz.func205, rfl, by kernel_rfl⟩, CallS.nilIn 3 4 52 6 rfl rfl (CallS.use (rowO_ s hs d (o + 1) (by omega) val hv hvs l1 hl1 _) [0, 1, 3, 4] rfl rfl ⟨rfl, rfl, rfl, rfl, trivial⟩ ?_)⟩
  intro e H3 G' hle3 hout
  cases hrow : rowP (memP val) 125 (l1.length + 1) true [] l1 with
  | no er r =>
   have hgo : ∀ (e : SE) (H' : Hp) (G' : List SB), OutO0 s d o (.no er r) e H' G' → OutO0 s d o ((Res.ok u l1).bind fun _ r => rowP (memP val) 125 (r.length + 1) true [] r) e H' G' := fun e H' G' h => by
    show OutO0 s d o (rowP (memP val) 125 (l1.length + 1) true [] l1) e H' G'
    rw [hrow]; exact h
   rw [hrow] at hout
   obtain ⟨rfl, l2, o2, q, js', xs', rfl⟩ := hout
   match q with
   | 0 => (conv => whnf); exact hgo _ _ _ ⟨rfl, l2, o2, rfl⟩
   | 1 => (conv => whnf); exact hgo _ _ _ ⟨rfl, l2, o2, rfl⟩
   | _ + 2 => (conv => whnf); exact hgo _ _ _ ⟨rfl, l2, o2, rfl⟩
  | ok js r =>
   have hgo : ∀ (e : SE) (H' : Hp) (G' : List SB), OutO0 s d o (.ok js r) e H' G' → OutO0 s d o ((Res.ok u l1).bind fun _ r => rowP (memP val) 125 (r.length + 1) true [] r) e H' G' := fun e H' G' h => by
    show OutO0 s d o (rowP (memP val) 125 (l1.length + 1) true [] l1) e H' G'
    rw [hrow]; exact h
   rw [hrow] at hout
   obtain ⟨hr, rfl, xs, q, hx, rfl⟩ := hout
   have ho1 : o + 1 - 1 = o := by omega
   rw [ho1]
   match q with
   | 0 => (conv => whnf); exact hgo _ _ _ ⟨hr, xs, hx, .inl ⟨rfl, rfl⟩⟩
   | 1 => (conv => whnf); exact hgo _ _ _ ⟨hr, xs, hx, .inr (.inl ⟨rfl, rfl⟩)⟩
   | _ + 2 => (conv => whnf); exact hgo _ _ _ ⟨hr, xs, hx, .inr (.inr ⟨rfl, rfl⟩)⟩
theorem object_ (s : ByteArray) (hs : s.size ≤ 190000) (d o : Int) (ho : 0 ≤ o ∧ o ≤ 900) (val : List UInt8 → Res J) (hv : VSays s d (o + 1) val) (hvs : ∀ x l y r, memP val x l = .ok y r → Sfx r l ∧ List.length y = List.length x + 1) (l : List UInt8) (hl : Sfx l (tL s)) (H : Hp) (hod : o ≠ d) :
  CallO Tryz.prog 170 [me] H [rdB s l d o] fun e H' G' => Out s d o RJ ((objP val l).bind fun js r => .ok (jObj js) r) e H' G' := by
 refine CallO.sub (K0 := fun e H' G' => match objP val l with
  | .ok js r => Sfx r (tL s) ∧ (∃ sv, e = .ret sv ∧ RJ H' (jObj js) sv) ∧ ∃ L, G' = rdB s r d o :: L
  | .no er r => e = .pan [{ v := faultV er (pos s r), recovered := false }] ∧ ∃ l' o', G' = [rdB s l' d o']) (CallO.frz (object0 s hs d o ho val hv hvs l hl H hod) ?_) ?_
 ·intro e H' G' hle hout
  cases hp : objP val l with
  | no er r =>
   rw [hp] at hout
   obtain ⟨rfl, l2, o2, rfl⟩ := hout
   exact ⟨rfl, l2, o2, rfl⟩
  | ok js r =>
   rw [hp] at hout
   obtain ⟨hr, xs, hx, hcase⟩ := hout
   have h0 : List.length js = 0 → xs = [] := fun h => List.eq_nil_of_length_eq_zero (by rw [hx.length, h])
   have key : ∀ (x : Value) (H2 : Hp), H'.Le H2 → Frozen H2 x (List.length js) xs → RJ H2 (jObj js) (agO (.val x)) := fun x H2 hle2 hfr => by
    obtain ⟨A, c, rfl, hrv⟩ := RdV.of_frozen hfr
    exact ⟨6, false, ⟨#[]⟩, none, 0, 0, A, js.length, c, rfl, .mk rfl .nil (.nil _) rfl (hx.mono hle2) hrv⟩
   rcases hcase with ⟨rfl, rfl⟩ | ⟨rfl, rfl⟩ | ⟨rfl, rfl⟩
   ·exact ⟨4, _, _, _, _, rfl, h0, fun x H2 hle2 hfr => ⟨hr, ⟨_, rfl, key x H2 hle2 hfr⟩, _, rfl⟩⟩
   ·exact ⟨5, _, _, _, _, rfl, h0, fun x H2 hle2 hfr => ⟨hr, ⟨_, rfl, key x H2 hle2 hfr⟩, _, rfl⟩⟩
   ·exact ⟨6, _, _, _, _, rfl, h0, fun x H2 hle2 hfr => ⟨hr, ⟨_, rfl, key x H2 hle2 hfr⟩, _, rfl⟩⟩
 ·intro e H' G' hle hout
  cases hp : objP val l with
  | no er r =>
   rw [hp] at hout
   obtain ⟨rfl, l2, o2, rfl⟩ := hout
   exact ⟨rfl, l2, o2, rfl⟩
  | ok js r =>
   rw [hp] at hout
   obtain ⟨hr, ⟨sv, rfl, k, y, t, A, n, c, B, m, f, rfl, hj⟩, L, rfl⟩ := hout
   exact ⟨agJ k y t A n c B m f, [rdB s r d o], [0], rfl, ⟨rfl, trivial⟩, rfl, hr, ⟨_, rfl, k, y, t, A, n, c, B, m, f, rfl, hj⟩, rfl⟩
end Go.Kx.Js
namespace Go.Kx.Js
open Go.Proofs Go.Kx Go.RowKit
set_option maxRecDepth 20000
theorem mustP_sfx {c : UInt8} {l r : List UInt8} {u : Unit} (h : mustP c l = .ok u r) : Sfx r l := ⟨[c], mustP_ok h⟩
theorem strP_sfx : ∀ (m : Nat) (b l : List UInt8) {x r : List UInt8}, strP m b l = .ok x r → Sfx r l
 | 0, b, l, x, r, h => by cases h
 | m + 1, b, l, x, r, h => by
  cases h34 : tk 34 l with
  | some r2 => rw [strP_end h34] at h; injection h with _ h; subst h; exact tk_sfx h34
  | none =>
   cases h92 : tk 92 l with
   | some r2 =>
    rw [strP_esc h34 h92] at h
    obtain ⟨y, r3, h1, h⟩ := bind_ok h
    exact (strP_sfx m _ _ h).trans ((escP_sfx h1).1.trans (tk_sfx h92))
   | none =>
    by_cases hc : (pk l).toNat < 32
    ·rw [strP_ctl h34 h92 hc] at h; cases h
    ·rw [strP_chr h34 h92 hc] at h; exact (strP_sfx m _ _ h).trans (.tl l)
theorem textP_sfx {l r : List UInt8} {t : ByteArray} (h : textP l = .ok t r) : Sfx r l := by
 unfold textP at h
 obtain ⟨_, r1, h1, h⟩ := bind_ok h
 obtain ⟨_, r2, h2, h⟩ := bind_ok h
 injection h with _ h
 subst h
 exact (strP_sfx _ _ _ h2).trans (mustP_sfx h1)
theorem wordP_sfx : ∀ (w l : List UInt8) {u : Unit} {r : List UInt8}, wordP w l = .ok u r → Sfx r l
 | [], l, u, r, h => by injection h with _ h; subst h; exact .refl _
 | c :: w, l, u, r, h => by
  obtain ⟨_, r1, h1, h⟩ := bind_ok h
  exact (wordP_sfx w _ h).trans (mustP_sfx h1)
def SfxV (val : List UInt8 → Res J) : Prop := ∀ l j r, val l = .ok j r → Sfx r l
theorem elP_sfx {val : List UInt8 → Res J} (h : SfxV val) (x : List J) (l : List UInt8) (y : List J) (r : List UInt8) (he : elP val x l = .ok y r) : Sfx r l ∧ y.length = x.length + 1 := by
 obtain ⟨j, r1, h1, h2⟩ := bind_ok he
 injection h2 with h3 h4
 subst h3 h4
 exact ⟨h _ _ _ h1, by simp⟩
theorem memP_sfx {val : List UInt8 → Res J} (h : SfxV val) (x : Ms) (l : List UInt8) (y : Ms) (r : List UInt8) (he : memP val x l = .ok y r) : Sfx r l ∧ List.length y = List.length x + 1 := by
 obtain ⟨t, r1, h1, h2⟩ := bind_ok he
 split at h2
 ·cases h2
 ·obtain ⟨_, r2, h3, h2⟩ := bind_ok h2
  obtain ⟨j, r3, h4, h2⟩ := bind_ok h2
  injection h2 with h5 h6
  subst h5 h6
  exact ⟨((h _ _ _ h4).trans (blankP_sfx _)).trans ((mustP_sfx h3).trans ((blankP_sfx _).trans (textP_sfx h1))), by simp⟩
theorem rowP_sfx {α : Type} {one : α → List UInt8 → Res α} {en : UInt8} (ho : ∀ x l y r, one x l = .ok y r → Sfx r l) : ∀ (m : Nat) (first : Bool) (x : α) (l : List UInt8) {y : α} {r : List UInt8}, rowP one en m first x l = .ok y r → Sfx r l
 | 0, first, x, l, y, r, h => by cases h
 | m + 1, first, x, l, y, r, h => by
  cases hf : (if first then tk en l else none) with
  | some r2 =>
   cases first with
   | false => cases hf
   | true =>
    rw [if_pos rfl] at hf
    rw [rowP_end hf] at h
    injection h with _ h
    subst h; exact tk_sfx hf
  | none =>
   rw [rowP_go hf] at h
   obtain ⟨z, r1, h1, h⟩ := bind_ok h
   have hs := (blankP_sfx r1).trans (ho _ _ _ _ h1)
   split at h
   ·rename_i r2 ht
    injection h with _ h
    subst h; exact (tk_sfx ht).trans hs
   ·obtain ⟨_, r3, h3, h⟩ := bind_ok h
    exact (rowP_sfx ho m _ _ _ h).trans ((blankP_sfx _).trans ((mustP_sfx h3).trans hs))
theorem enterP_sfx {c : UInt8} {l r : List UInt8} {u : Unit} (h : enterP c l = .ok u r) : Sfx r l := by
 obtain ⟨_, r1, h1, h⟩ := bind_ok h
 injection h with _ h
 subst h; exact (blankP_sfx _).trans (mustP_sfx h1)
def valT (deeper : Option (List UInt8 → Res J)) (l : List UInt8) : Res J :=
 if (pk l).toNat = 110 then (wordP [110, 117, 108, 108] l).bind fun _ r => .ok jNull r else
 if (pk l).toNat = 116 then (wordP [116, 114, 117, 101] l).bind fun _ r => .ok (jTruth true) r else
 if (pk l).toNat = 102 then (wordP [102, 97, 108, 115, 101] l).bind fun _ r => .ok (jTruth false) r else
 if (pk l).toNat = 34 then (textP l).bind fun s r => .ok (jStr s) r else
 if (pk l).toNat = 91 then match deeper with
  | none => .no 32 l
  | some val => (arrP val l).bind fun js r2 => .ok (jArr js) r2
 else
 if (pk l).toNat = 123 then match deeper with
  | none => .no 32 l
  | some val => (objP val l).bind fun ms r2 => .ok (jObj ms) r2
 else
 if (pk l).toNat = 45 ∨ isDig (pk l) then (numberP l).bind fun s r => .ok (jNum s) r else .no 31 l
theorem bind_assoc {α β γ : Type} (a : Res α) (f : α → List UInt8 → Res β) (g : β → List UInt8 → Res γ) : (a.bind f).bind g = a.bind fun x r => (f x r).bind g := by cases a <;> rfl
theorem valS_eq (deeper : Option (List UInt8 → Res J)) (l : List UInt8) : valS deeper l = valT deeper l := by
 unfold valS valT
 cases deeper with
 | none => rfl
 | some val => simp only [arrP, objP, bind_assoc]
theorem valS_sfx {deeper : Option (List UInt8 → Res J)} (hd : ∀ val, deeper = some val → SfxV val) : SfxV (valS deeper) := by
 intro l j r h
 rw [valS_eq] at h
 unfold valT at h
 split at h
 ·obtain ⟨_, r1, h1, h⟩ := bind_ok h; injection h with _ h; subst h; exact wordP_sfx _ _ h1
 split at h
 ·obtain ⟨_, r1, h1, h⟩ := bind_ok h; injection h with _ h; subst h; exact wordP_sfx _ _ h1
 split at h
 ·obtain ⟨_, r1, h1, h⟩ := bind_ok h; injection h with _ h; subst h; exact wordP_sfx _ _ h1
 split at h
 ·obtain ⟨_, r1, h1, h⟩ := bind_ok h; injection h with _ h; subst h; exact textP_sfx h1
 split at h
 ·cases deeper with
  | none => cases h
  | some val =>
   obtain ⟨_, r1, h1, h⟩ := bind_ok h; injection h with _ h; subst h
   obtain ⟨_, r2, h2, h1⟩ := bind_ok h1
   exact (rowP_sfx (fun x l y r he => (elP_sfx (hd val rfl) x l y r he).1) _ _ _ _ h1).trans (enterP_sfx h2)
 split at h
 ·cases deeper with
  | none => cases h
  | some val =>
   obtain ⟨_, r1, h1, h⟩ := bind_ok h; injection h with _ h; subst h
   obtain ⟨_, r2, h2, h1⟩ := bind_ok h1
   exact (rowP_sfx (fun x l y r he => (memP_sfx (hd val rfl) x l y r he).1) _ _ _ _ h1).trans (enterP_sfx h2)
 split at h
 ·obtain ⟨_, r1, h1, h⟩ := bind_ok h; injection h with _ h; subst h; exact numberP_sfx h1
 ·cases h
theorem valP_sfx : ∀ d, SfxV (valP d)
 | 0 => valS_sfx fun _ h => (nomatch h)
 | d + 1 => valS_sfx fun _ h => by injection h with h; subst h; exact valP_sfx d

theorem deepA (s : ByteArray) (hs : s.size ≤ 190000) (d : Int) (l : List UInt8) (hl : Sfx l (tL s)) (hd : 0 ≤ d ∧ d ≤ 900) (H : Hp) :
  CallO Tryz.prog 169 [me] H [rdB s l d d] fun e H' G' => Out s d d RJ (.no 32 l) e H' G' := by
 refine CallO.of_body tab Tryz.func169 rfl (nt := Tryz.f169.ntmps) rfl (by kernel_rfl) ?_
 (conv => whnf)
 refine ⟨⟨_, Tryz.func204, rfl, by kernel_rfl⟩, CallS.use (enter_ 91 (by decide) s l hl (by omega) d d (by omega) H) [0] rfl rfl ⟨rfl, trivial⟩ ?_⟩
 rintro e H2 G' hle2 ⟨rfl, hout, _⟩
 obtain ⟨rfl, rfl⟩ := hout rfl
 (conv => whnf)
 exact ⟨rfl, l, d, rfl⟩
theorem deepO (s : ByteArray) (hs : s.size ≤ 190000) (d : Int) (l : List UInt8) (hl : Sfx l (tL s)) (hd : 0 ≤ d ∧ d ≤ 900) (H : Hp) :
  CallO Tryz.prog 170 [me] H [rdB s l d d] fun e H' G' => Out s d d RJ (.no 32 l) e H' G' := by
 refine CallO.of_body tab Tryz.func170 rfl (nt := Tryz.f170.ntmps) rfl (by kernel_rfl) ?_
 (conv => whnf)
 refine ⟨⟨_, Tryz.func204, rfl, by kernel_rfl⟩, CallS.use (enter_ 123 (by decide) s l hl (by omega) d d (by omega) H) [0] rfl rfl ⟨rfl, trivial⟩ ?_⟩
 rintro e H2 G' hle2 ⟨rfl, hout, _⟩
 obtain ⟨rfl, rfl⟩ := hout rfl
 (conv => whnf)
 exact ⟨rfl, l, d, rfl⟩
theorem RJ.bare (H : Hp) (k : Int) (y : Bool) (t : ByteArray) : RJ H (.mk k y t [] []) (agJ k y t none 0 0 none 0 0) := ⟨k, y, t, none, 0, 0, none, 0, 0, rfl, .bare k y t⟩
def arrV (deeper : Option (List UInt8 → Res J)) (l : List UInt8) : Res J := match deeper with
  | none => .no 32 l
  | some val => (arrP val l).bind fun js r2 => .ok (jArr js) r2
def objV (deeper : Option (List UInt8 → Res J)) (l : List UInt8) : Res J := match deeper with
  | none => .no 32 l
  | some val => (objP val l).bind fun ms r2 => .ok (jObj ms) r2
theorem value0 (s : ByteArray) (hs : s.size ≤ 190000) (d o : Int) (deeper : Option (List UInt8 → Res J))
  (hA : ∀ l, Sfx l (tL s) → ∀ H, CallO Tryz.prog 169 [me] H [rdB s l d o] fun e H' G' => Out s d o RJ (arrV deeper l) e H' G')
  (hO : ∀ l, Sfx l (tL s) → ∀ H, CallO Tryz.prog 170 [me] H [rdB s l d o] fun e H' G' => Out s d o RJ (objV deeper l) e H' G') : VSays s d o (valS deeper) := by
 intro l hl H
 rw [valS_eq]
 refine CallO.of_body tab Tryz.func131 rfl (nt := Tryz.f131.ntmps) rfl (by kernel_rfl) ?_
 (conv => whnf)
 refine ⟨⟨_, Tryz.func165, rfl, by kernel_rfl⟩, CallS.use (peek_ s l hl d o H) [0] rfl rfl ⟨rfl, trivial⟩ ?_⟩
 rintro e H2 G' hle2 ⟨rfl, rfl, rfl⟩
 generalize hx : (((pk l).toNat : Nat) : Int) = x
 (conv => whnf)
 refine br.of (fun h => ?_) (fun h => ?_) <;> (conv => whnf)
 ·simp only [beq_iff_eq] at h
  have hc : (pk l).toNat = 110 := by omega
  have hv : valT deeper l = (wordP [110, 117, 108, 108] l).bind fun _ r => .ok jNull r := by
   unfold valT
   rw [if_pos hc]
  rw [hv]
  refine ⟨⟨_, Tryz.func166, rfl, by kernel_rfl⟩, CallS.use (word_ ⟨#[110, 117, 108, 108]⟩ (by decide) (by decide) s l hl (by omega) d o _) [0] rfl rfl ⟨rfl, trivial⟩ ?_⟩
  rintro e H3 G' hle3 ⟨rfl, hout⟩
  cases hw : wordP [110, 117, 108, 108] l with
  | no er r =>
   replace hw : wordP (⟨#[110, 117, 108, 108]⟩ : ByteArray).data.toList l = _ := hw
   rw [hw] at hout
   obtain ⟨rfl, l2, o2, rfl⟩ := hout
   (conv => whnf)
   exact ⟨rfl, l2, o2, rfl⟩
  | ok u r =>
   replace hw : wordP (⟨#[110, 117, 108, 108]⟩ : ByteArray).data.toList l = _ := hw
   rw [hw] at hout
   obtain ⟨hr, ⟨sv, rfl, rfl⟩, rfl⟩ := hout
   (conv => whnf)
   exact ⟨hr, ⟨_, rfl, RJ.bare _ _ _ _⟩, rfl⟩
 ·simp only [beq_eq_false_iff_ne, ne_eq] at h
  have n110 : ¬ (pk l).toNat = 110 := by omega
  clear h
  refine br.of (fun h => ?_) (fun h => ?_) <;> (conv => whnf)
  ·simp only [beq_iff_eq] at h
   have hc : (pk l).toNat = 116 := by omega
   have hv : valT deeper l = (wordP [116, 114, 117, 101] l).bind fun _ r => .ok (jTruth true) r := by
    unfold valT
    rw [if_neg n110, if_pos hc]
   rw [hv]
   refine ⟨⟨_, Tryz.func166, rfl, by kernel_rfl⟩, CallS.use (word_ ⟨#[116, 114, 117, 101]⟩ (by decide) (by decide) s l hl (by omega) d o _) [0] rfl rfl ⟨rfl, trivial⟩ ?_⟩
   rintro e H3 G' hle3 ⟨rfl, hout⟩
   cases hw : wordP [116, 114, 117, 101] l with
   | no er r =>
    replace hw : wordP (⟨#[116, 114, 117, 101]⟩ : ByteArray).data.toList l = _ := hw
    rw [hw] at hout
    obtain ⟨rfl, l2, o2, rfl⟩ := hout
    (conv => whnf)
    exact ⟨rfl, l2, o2, rfl⟩
   | ok u r =>
    replace hw : wordP (⟨#[116, 114, 117, 101]⟩ : ByteArray).data.toList l = _ := hw
    rw [hw] at hout
    obtain ⟨hr, ⟨sv, rfl, rfl⟩, rfl⟩ := hout
    (conv => whnf)
    refine ⟨⟨_, Tryz.func167, rfl, by kernel_rfl⟩, CallS.use (bool_ true _) [] rfl rfl trivial ?_⟩
    rintro e H4 G' hle4 ⟨rfl, rfl, rfl⟩
    (conv => whnf)
    exact ⟨hr, ⟨_, rfl, RJ.bare _ _ _ _⟩, rfl⟩
  ·simp only [beq_eq_false_iff_ne, ne_eq] at h
   have n116 : ¬ (pk l).toNat = 116 := by omega
   clear h
   refine br.of (fun h => ?_) (fun h => ?_) <;> (conv => whnf)
   ·simp only [beq_iff_eq] at h
    have hc : (pk l).toNat = 102 := by omega
    have hv : valT deeper l = (wordP [102, 97, 108, 115, 101] l).bind fun _ r => .ok (jTruth false) r := by
     unfold valT
     rw [if_neg n110, if_neg n116, if_pos hc]
    rw [hv]
    refine ⟨⟨_, Tryz.func166, rfl, by kernel_rfl⟩, CallS.use (word_ ⟨#[102, 97, 108, 115, 101]⟩ (by decide) (by decide) s l hl (by omega) d o _) [0] rfl rfl ⟨rfl, trivial⟩ ?_⟩
    rintro e H3 G' hle3 ⟨rfl, hout⟩
    cases hw : wordP [102, 97, 108, 115, 101] l with
    | no er r =>
     replace hw : wordP (⟨#[102, 97, 108, 115, 101]⟩ : ByteArray).data.toList l = _ := hw
     rw [hw] at hout
     obtain ⟨rfl, l2, o2, rfl⟩ := hout
     (conv => whnf)
     exact ⟨rfl, l2, o2, rfl⟩
    | ok u r =>
     replace hw : wordP (⟨#[102, 97, 108, 115, 101]⟩ : ByteArray).data.toList l = _ := hw
     rw [hw] at hout
     obtain ⟨hr, ⟨sv, rfl, rfl⟩, rfl⟩ := hout
     (conv => whnf)
     refine ⟨⟨_, Tryz.func167, rfl, by kernel_rfl⟩, CallS.use (bool_ false _) [] rfl rfl trivial ?_⟩
     rintro e H4 G' hle4 ⟨rfl, rfl, rfl⟩
     (conv => whnf)
     exact ⟨hr, ⟨_, rfl, RJ.bare _ _ _ _⟩, rfl⟩
   ·simp only [beq_eq_false_iff_ne, ne_eq] at h
    have n102 : ¬ (pk l).toNat = 102 := by omega
    clear h
    refine br.of (fun h => ?_) (fun h => ?_) <;> (conv => whnf)
    ·simp only [beq_iff_eq] at h
     have hc : (pk l).toNat = 34 := by omega
     have hv : valT deeper l = (textP l).bind fun s r => .ok (jStr s) r := by
      unfold valT
      rw [if_neg n110, if_neg n116, if_neg n102, if_pos hc]
     rw [hv]
     refine ⟨⟨_, Tryz.func168, rfl, by kernel_rfl⟩, CallS.use (text_ s l hl (by omega) d o _) [0] rfl rfl ⟨rfl, trivial⟩ ?_⟩
     intro e H3 G' hle3 hout
     cases hw : textP l with
     | no er r =>
      rw [hw] at hout
      obtain ⟨rfl, l2, o2, rfl⟩ := hout
      (conv => whnf)
      exact ⟨rfl, l2, o2, rfl⟩
     | ok t r =>
      rw [hw] at hout
      obtain ⟨hr, ⟨sv, rfl, rfl⟩, rfl⟩ := hout
      (conv => whnf)
      refine ⟨⟨_, Tryz.func31, rfl, by kernel_rfl⟩, CallS.use (str_ t _) [] rfl rfl trivial ?_⟩
      rintro e H4 G' hle4 ⟨rfl, rfl, rfl⟩
      (conv => whnf)
      exact ⟨hr, ⟨_, rfl, RJ.bare _ _ _ _⟩, rfl⟩
    ·simp only [beq_eq_false_iff_ne, ne_eq] at h
     have n34 : ¬ (pk l).toNat = 34 := by omega
     clear h
     refine br.of (fun h => ?_) (fun h => ?_) <;> (conv => whnf)
     ·simp only [beq_iff_eq] at h
      have hc : (pk l).toNat = 91 := by omega
      have hv : valT deeper l = arrV deeper l := by
       unfold valT
       rw [if_neg n110, if_neg n116, if_neg n102, if_neg n34, if_pos hc]
       rfl
      rw [hv]
      refine ⟨⟨_, Tryz.func169, rfl, by kernel_rfl⟩, CallS.use (hA l hl _) [0] rfl rfl ⟨rfl, trivial⟩ ?_⟩
      intro e H3 G' hle3 hout
      cases hw : arrV deeper l with
      | no er r =>
       rw [hw] at hout
       obtain ⟨rfl, l2, o2, rfl⟩ := hout
       (conv => whnf)
       exact ⟨rfl, l2, o2, rfl⟩
      | ok j r =>
       rw [hw] at hout
       obtain ⟨hr, ⟨sv, rfl, k, y, t, A, n, c, B, m, f, rfl, hj⟩, rfl⟩ := hout
       (conv => whnf)
       exact ⟨hr, ⟨_, rfl, _, _, _, _, _, _, _, _, _, rfl, hj⟩, rfl⟩
     ·simp only [beq_eq_false_iff_ne, ne_eq] at h
      have n91 : ¬ (pk l).toNat = 91 := by omega
      clear h
      refine br.of (fun h => ?_) (fun h => ?_) <;> (conv => whnf)
      ·simp only [beq_iff_eq] at h
       have hc : (pk l).toNat = 123 := by omega
       have hv : valT deeper l = objV deeper l := by
        unfold valT
        rw [if_neg n110, if_neg n116, if_neg n102, if_neg n34, if_neg n91, if_pos hc]
        rfl
       rw [hv]
       refine ⟨⟨_, Tryz.func170, rfl, by kernel_rfl⟩, CallS.use (hO l hl _) [0] rfl rfl ⟨rfl, trivial⟩ ?_⟩
       intro e H3 G' hle3 hout
       cases hw : objV deeper l with
       | no er r =>
        rw [hw] at hout
        obtain ⟨rfl, l2, o2, rfl⟩ := hout
        (conv => whnf)
        exact ⟨rfl, l2, o2, rfl⟩
       | ok j r =>
        rw [hw] at hout
        obtain ⟨hr, ⟨sv, rfl, k, y, t, A, n, c, B, m, f, rfl, hj⟩, rfl⟩ := hout
        (conv => whnf)
        exact ⟨hr, ⟨_, rfl, _, _, _, _, _, _, _, _, _, rfl, hj⟩, rfl⟩
      ·simp only [beq_eq_false_iff_ne, ne_eq] at h
       have n123 : ¬ (pk l).toNat = 123 := by omega
       clear h
       refine br.of (fun h => ?_) (fun h => ?_) <;> (conv => whnf)
       ·simp only [beq_iff_eq] at h
        have hor : (pk l).toNat = 45 ∨ isDig (pk l) = true := .inl (by omega)
        have hv : valT deeper l = (numberP l).bind fun s r => .ok (jNum s) r := by
         unfold valT
         rw [if_neg n110, if_neg n116, if_neg n102, if_neg n34, if_neg n91, if_neg n123, if_pos hor]
        rw [hv]
        refine ⟨⟨_, Tryz.func103, rfl, by kernel_rfl⟩, CallS.use (number_ s l hl (by omega) d o _) [0] rfl rfl ⟨rfl, trivial⟩ ?_⟩
        rintro e H3 G' hle3 ⟨rfl, hout⟩
        cases hw : numberP l with
        | no er r =>
         rw [hw] at hout
         obtain ⟨rfl, l2, o2, rfl⟩ := hout
         (conv => whnf)
         exact ⟨rfl, l2, o2, rfl⟩
        | ok t r =>
         rw [hw] at hout
         obtain ⟨hr, ⟨sv, rfl, rfl⟩, rfl⟩ := hout
         (conv => whnf)
         exact ⟨hr, ⟨_, rfl, RJ.bare _ _ _ _⟩, rfl⟩
       ·simp only [beq_eq_false_iff_ne, ne_eq] at h
        rw [← hx]
        refine ⟨⟨_, Tryz.func171, rfl, by kernel_rfl⟩, CallS.use (digit_ (pk l) _) [] rfl rfl trivial ?_⟩
        rintro e H3 G' hle3 ⟨rfl, rfl, rfl⟩
        cases hdig : isDig (pk l) <;> (conv => whnf)
        ·have hor : ¬ ((pk l).toNat = 45 ∨ isDig (pk l) = true) := by rw [hdig]; intro hh; rcases hh with hh | hh; (omega); (cases hh)
         have hv : valT deeper l = .no 31 l := by
          unfold valT
          rw [if_neg n110, if_neg n116, if_neg n102, if_neg n34, if_neg n91, if_neg n123, if_neg hor]
         rw [hv]
         refine ⟨⟨_, Tryz.func132, rfl, by kernel_rfl⟩, CallS.use (stop_ s l d o _) [0] rfl rfl ⟨rfl, trivial⟩ ?_⟩
         rintro e H5 G' hle5 ⟨rfl, rfl, rfl⟩
         (conv => whnf)
         exact ⟨rfl, l, o, rfl⟩
        ·have hor : (pk l).toNat = 45 ∨ isDig (pk l) = true := .inr hdig
         have hv : valT deeper l = (numberP l).bind fun s r => .ok (jNum s) r := by
          unfold valT
          rw [if_neg n110, if_neg n116, if_neg n102, if_neg n34, if_neg n91, if_neg n123, if_pos hor]
         rw [hv]
         refine ⟨⟨_, Tryz.func103, rfl, by kernel_rfl⟩, CallS.use (number_ s l hl (by omega) d o _) [0] rfl rfl ⟨rfl, trivial⟩ ?_⟩
         rintro e H3 G' hle3 ⟨rfl, hout⟩
         cases hw : numberP l with
         | no er r =>
          rw [hw] at hout
          obtain ⟨rfl, l2, o2, rfl⟩ := hout
          (conv => whnf)
          exact ⟨rfl, l2, o2, rfl⟩
         | ok t r =>
          rw [hw] at hout
          obtain ⟨hr, ⟨sv, rfl, rfl⟩, rfl⟩ := hout
          (conv => whnf)
          exact ⟨hr, ⟨_, rfl, RJ.bare _ _ _ _⟩, rfl⟩
theorem value_ (s : ByteArray) (hs : s.size ≤ 190000) (d : Nat) (hd : d ≤ 900) : ∀ (n o : Nat), o + n = d → VSays s d o (valP n)
 | 0, o, h => by
  obtain rfl : o = d := by omega
  exact value0 s hs o o none (fun l hl H => deepA s hs o l hl (by omega) H) (fun l hl H => deepO s hs o l hl (by omega) H)
 | n + 1, o, h => by
  have ih := value_ s hs d hd n (o + 1) (by omega)
  exact value0 s hs d o (some (valP n)) (fun l hl H => array_ s hs d o (by omega) (valP n) ih (elP_sfx (valP_sfx n)) l hl H (by omega)) (fun l hl H => object_ s hs d o (by omega) (valP n) ih (memP_sfx (valP_sfx n)) l hl H (by omega))
end Go.Kx.Js
