/- SHA-256: a block's numbers. No condition of its own. -/
import Derived.Test.YtjpjpdmceliofaaDoorShaB
namespace Go.Kx.Sha
open Go.Proofs Go.Kx
set_option maxRecDepth 20000

def byteN (bs : List UInt8) (i : Nat) : Nat := (bs.getD i 0).toNat
def by32 (bs : List UInt8) (i : Nat) : BitVec 32 := BitVec.ofNat 32 (byteN bs i)
def word (bs : List UInt8) (j : Nat) : BitVec 32 := by32 bs (4 * j) <<< 24 ||| by32 bs (4 * j + 1) <<< 16 ||| by32 bs (4 * j + 2) <<< 8 ||| by32 bs (4 * j + 3)
def sg0 (x : BitVec 32) : BitVec 32 := x.rotateRight 7 ^^^ x.rotateRight 18 ^^^ x >>> 3
def sg1 (y : BitVec 32) : BitVec 32 := y.rotateRight 17 ^^^ y.rotateRight 19 ^^^ y >>> 10
def schedN (bs : List UInt8) : Nat → List (BitVec 32)
  | 0 => []
  | t + 1 => schedN bs t ++ [if t < 16 then word bs t else sg1 ((schedN bs t).getD (t - 2) 0) + (schedN bs t).getD (t - 7) 0 + sg0 ((schedN bs t).getD (t - 15) 0) + (schedN bs t).getD (t - 16) 0]
theorem schedN_length (bs : List UInt8) : ∀ t, (schedN bs t).length = t
  | 0 => rfl
  | t + 1 => by simp [schedN, schedN_length bs t]
def cellW (b : BitVec 32) : Value := .int .u32 (u b)
def bCells (bs : List UInt8) : List Value := bs.map fun b => Value.int .u8 b.toNat
/-- The numbers' block, t of them laid. -/
def wCells (bs : List UInt8) (t : Nat) : List Value := (schedN bs t).map cellW ++ List.replicate (64 - t) (.int .u32 0)
theorem bCells_get {bs : List UInt8} {i : Nat} (hi : i < bs.length) : (bCells bs)[i]? = some (.int .u8 (byteN bs i)) := by
  simp [bCells, byteN, hi, List.getD_eq_getElem?_getD]
theorem bget {bs : List UInt8} {i off : Nat} (hi : i < bs.length) (ho : off = i) : (bCells bs)[off]? = some (.int .u8 (byteN bs i)) := by subst ho; exact bCells_get hi
theorem u_by (bs : List UInt8) (i : Nat) : IntKind.u32.wrap (byteN bs i : Int) = u (by32 bs i) := by
  have h : byteN bs i < 256 := by unfold byteN; exact (bs.getD i 0).toNat_lt
  rw [wrap32 (by omega) (by omega)]
  unfold u by32
  rw [BitVec.toNat_ofNat, Nat.mod_eq_of_lt (by omega)]

theorem wCells_length (bs : List UInt8) {t : Nat} (ht : t ≤ 64) : (wCells bs t).length = 64 := by simp [wCells, schedN_length]; omega
theorem wCells_succ (bs : List UInt8) {t off : Nat} (ht : t < 64) (ho : off = t) {w : BitVec 32} (hw : schedN bs (t + 1) = schedN bs t ++ [w]) {x : Int} (hx : x = u w) : splice (wCells bs t) off [.int .u32 x] = wCells bs (t + 1) := by
  subst ho hx
  unfold splice wCells
  rw [hw, List.take_append_of_le_length (by simp [schedN_length]), List.take_of_length_le (by simp [schedN_length])]
  rw [List.drop_append, List.drop_of_length_le (by simp [schedN_length])]
  rw [show off + [Value.int IntKind.u32 (u w)].length - (List.map cellW (schedN bs off)).length = 1 by simp [schedN_length], List.drop_replicate, show 64 - off - 1 = 64 - (off + 1) by omega, List.map_append]
  rfl
theorem wget {bs : List UInt8} {t i off : Nat} (hi : i < t) (ho : off = i) : (wCells bs t)[off]? = some (.int .u32 (u ((schedN bs t).getD i 0))) := by
  subst ho
  have hl := schedN_length bs t
  unfold wCells
  rw [List.getElem?_append_left (by simp [hl]; exact hi), List.getElem?_map, List.getElem?_eq_getElem (by omega), List.getD_eq_getElem?_getD, List.getElem?_eq_getElem (by omega)]
  rfl
theorem pget {bs : List UInt8} {t i off : Nat} (hi : i < t) (ho : off = i) : ((schedN bs t).map cellW)[off]? = some (.int .u32 (u ((schedN bs t).getD i 0))) := by
  subst ho
  have hl := schedN_length bs t
  rw [List.getElem?_map, List.getElem?_eq_getElem (by omega), List.getD_eq_getElem?_getD, List.getElem?_eq_getElem (by omega)]
  rfl
theorem word_eq (bs : List UInt8) (t : Nat) : IntKind.u32.wrap ((BitVec.ofInt IntKind.u32.bits (IntKind.u32.wrap ((BitVec.ofInt IntKind.u32.bits (IntKind.u32.wrap ((BitVec.ofInt IntKind.u32.bits (IntKind.u32.wrap (u (by32 bs (4 * t)) * 2 ^ min (Int.toNat 24) IntKind.u32.bits)) |||
      BitVec.ofInt IntKind.u32.bits (IntKind.u32.wrap (u (by32 bs (4 * t + 1)) * 2 ^ min (Int.toNat 16) IntKind.u32.bits))).toNat : Int)) ||| BitVec.ofInt IntKind.u32.bits (IntKind.u32.wrap (u (by32 bs (4 * t + 2)) * 2 ^ min (Int.toNat 8) IntKind.u32.bits))).toNat : Int)) |||
      BitVec.ofInt IntKind.u32.bits (u (by32 bs (4 * t + 3)))).toNat : Int) = u (word bs t) := by
  rw [show Int.toNat 24 = 24 from rfl, show Int.toNat 16 = 16 from rfl, show Int.toNat 8 = 8 from rfl, u_shl _ 24 (by decide), u_shl _ 16 (by decide), u_shl _ 8 (by decide), u_or, u_or, u_or]
  rfl
theorem sig_eq (x2 x7 x15 x16 : BitVec 32) : IntKind.u32.wrap (IntKind.u32.wrap (IntKind.u32.wrap (IntKind.u32.wrap ((BitVec.ofInt IntKind.u32.bits (IntKind.u32.wrap ((BitVec.ofInt IntKind.u32.bits (u (x2.rotateRight 17)) ^^^ BitVec.ofInt IntKind.u32.bits (u (x2.rotateRight 19))).toNat : Int)) ^^^
      BitVec.ofInt IntKind.u32.bits ((u x2).fdiv (2 ^ min (Int.toNat 10) IntKind.u32.bits))).toNat : Int) + u x7) + IntKind.u32.wrap ((BitVec.ofInt IntKind.u32.bits (IntKind.u32.wrap ((BitVec.ofInt IntKind.u32.bits (u (x15.rotateRight 7)) ^^^ BitVec.ofInt IntKind.u32.bits (u (x15.rotateRight 18))).toNat : Int)) ^^^
      BitVec.ofInt IntKind.u32.bits ((u x15).fdiv (2 ^ min (Int.toNat 3) IntKind.u32.bits))).toNat : Int)) + u x16) = u (sg1 x2 + x7 + sg0 x15 + x16) := by
  rw [show Int.toNat 10 = 10 from rfl, show Int.toNat 3 = 3 from rfl, u_shr _ 10 (by decide), u_shr _ 3 (by decide)]
  simp only [u_xor, u_add]
  rfl
def lit64 {α : Type} (f : Nat → α) : List α := [f 0, f 1, f 2, f 3, f 4, f 5, f 6, f 7, f 8, f 9, f 10, f 11, f 12, f 13, f 14, f 15, f 16, f 17, f 18, f 19, f 20, f 21, f 22, f 23, f 24, f 25, f 26, f 27, f 28, f 29, f 30, f 31, f 32, f 33, f 34, f 35, f 36, f 37, f 38, f 39, f 40, f 41, f 42, f 43, f 44, f 45, f 46, f 47, f 48, f 49, f 50, f 51, f 52, f 53, f 54, f 55, f 56, f 57, f 58, f 59, f 60, f 61, f 62, f 63]
theorem lit64_eq {α : Type} (f : Nat → α) : lit64 f = (List.range 64).map f := rfl
theorem lit64_get {α : Type} (f : Nat → α) {j : Nat} {x : α} (h : (lit64 f)[j]? = some x) : j < 64 ∧ x = f j := by
  rw [lit64_eq] at h
  have hj : j < 64 := by have := (List.getElem?_eq_some_iff.1 h).1; simpa using this
  rw [List.getElem?_map, List.getElem?_range hj] at h
  exact ⟨hj, (Option.some.inj h).symm⟩
def wAt (bs : List UInt8) (i : Nat) : BitVec 32 := (schedN bs 64).getD i 0
theorem schedule (n : Nat) (bs : List UInt8) (hn : 64 ≤ n) (hl : bs.length = n) (H : Hp) : CallO Tryd.prog 134 [.si (.ce (.self 0))] H [.row 5 1 n (bCells bs)] fun e H' G' =>
    e = .ret (.si (.ag (lit64 fun i => SC.val (cellW (wAt bs i))))) ∧ H' = H ∧ G' = [.row 5 1 n (bCells bs)] := by
  refine CallO.of_body tab Tryd.func134 rfl (nt := Tryd.f134.ntmps) rfl (by kernel_rfl) ?_
  conv => whnf
  refine WS.loop (fun m F H2 G => ∃ t : Nat, t ≤ 64 ∧ m = 64 - t ∧ F = [(0, .si (.ce (.self 0))), (2, .si (.ce (.ptr 1 0))), (3, .si (.ce (.ptr 2 0))), (7, pv (.int .i64 t))] ∧ H2 = H ∧
      G = [.row 5 1 n (bCells bs), .arr 161 (List.replicate 64 (.int .u32 0)), .arr 161 (wCells bs t)]) 65
    ⟨64, by omega, _, _, [0, 1, 2], ⟨0, by omega, rfl, rfl, rfl, rfl⟩, rfl, ⟨rfl, .inr rfl, .inr rfl, trivial⟩, rfl, rfl, rfl, rfl, trivial⟩ ?_
  rintro m F H2 G hle2 ⟨t, h2, rfl, rfl, rfl, rfl⟩
  refine codeL.go tab ?_
  conv => whnf
  refine br.of (fun h1 => ?_) (fun h1 => ?_) <;> conv => whnf
  · simp only [decide_eq_true_eq] at h1
    refine br.of (fun h3 => ?_) (fun h3 => ?_) <;> conv => whnf
    · simp only [decide_eq_true_eq] at h3
      refine WS.drawH tab mixed (.take 0 (.take 1 (.take 2 (.take 3 (.take 4 (.take 5 (.take 6 (.take 7 (.take 8 (.take 9 (.take 10 (.take 11 (.take 12 (.take 13 (.take 14 (.take 15 (.take 16 (.take 17 (.take 18 (.take 19 (.take 20 (.take 21 (.take 22 (.take 23 (.take 24 (.take 25 (.take 26 (.take 27 (.take 28 (.take 29 (.take 30 (.take 31 (.take 32 (.take 33 (.take 34 (.alt 35 .done .no)))))))))))))))))))))))))))))))))))) (by kernel_rfl) [.row 5 1 n (bCells bs), .dead, .dead] ⟨rfl, trivial, trivial, trivial⟩ rfl ?_
      conv => whnf
      have q0 : IntKind.i64.wrap (4 * (t : Int)) = ((4 * t : Nat) : Int) := by rw [wrap64 (by omega) (by omega)]; omega
      have q1 : IntKind.i64.wrap (((4 * t : Nat) : Int) + 1) = ((4 * t + 1 : Nat) : Int) := by rw [wrap64 (by omega) (by omega)]; omega
      have q2 : IntKind.i64.wrap (((4 * t : Nat) : Int) + 2) = ((4 * t + 2 : Nat) : Int) := by rw [wrap64 (by omega) (by omega)]; omega
      have q3 : IntKind.i64.wrap (((4 * t : Nat) : Int) + 3) = ((4 * t + 3 : Nat) : Int) := by rw [wrap64 (by omega) (by omega)]; omega
      rw [q0]
      refine ⟨⟨by omega, by omega⟩, ?_⟩
      conv => whnf
      refine ⟨_, bget (i := 4 * t) (by omega) (by simp; omega), ?_⟩
      conv => whnf
      rw [u_by]
      refine ⟨by decide, ?_⟩
      conv => whnf
      rw [q0, q1]
      refine ⟨⟨by omega, by omega⟩, ?_⟩
      conv => whnf
      refine ⟨_, bget (i := 4 * t + 1) (by omega) (by simp; omega), ?_⟩
      conv => whnf
      rw [u_by]
      refine ⟨by decide, ?_⟩
      conv => whnf
      rw [q0, q2]
      refine ⟨⟨by omega, by omega⟩, ?_⟩
      conv => whnf
      refine ⟨_, bget (i := 4 * t + 2) (by omega) (by simp; omega), ?_⟩
      conv => whnf
      rw [u_by]
      refine ⟨by decide, ?_⟩
      conv => whnf
      rw [q0, q3]
      refine ⟨⟨by omega, by omega⟩, ?_⟩
      conv => whnf
      refine ⟨_, bget (i := 4 * t + 3) (by omega) (by simp; omega), ?_⟩
      conv => whnf
      rw [u_by]
      refine ⟨⟨by omega, by omega⟩, ?_⟩
      conv => whnf
      refine ⟨⟨?_, ?_⟩, trivial⟩
      rotate_left
      · conv => whnf
        refine ⟨⟨rfl, trivial, trivial, trivial⟩, ?_⟩
        conv => whnf
        rw [wrap64 (x := (t : Int) + 1) (by omega) (by omega)]
        refine ⟨64 - (t + 1), by omega, _, _, [0, 1, 2], ⟨t + 1, by omega, rfl, rfl, rfl, rfl⟩, rfl, ⟨rfl, .inl rfl, .inl ?_, trivial⟩, rfl, rfl, rfl, rfl, trivial⟩
        have hw : schedN bs (t + 1) = schedN bs t ++ [word bs t] := by
          show schedN bs t ++ [if t < 16 then _ else _] = _
          rw [if_pos (by omega)]
        rw [wCells_succ bs (by omega) (by simp) hw (word_eq bs t)]
      · rw [wCells_length bs h2]
        show 0 + (t : Int).toNat * 1 + 1 ≤ 64
        omega
    · simp only [decide_eq_false_iff_not] at h3
      refine WS.drawH tab mixed (.take 0 (.take 1 (.take 2 (.take 3 (.take 4 (.take 5 (.take 6 (.take 7 (.take 8 (.take 9 .done)))))))))) (by kernel_rfl) [.dead, .dead, .arr 161 (wCells bs t)] ⟨trivial, trivial, rfl, trivial⟩ rfl ?_
      conv => whnf
      have q15 : IntKind.i64.wrap ((t : Int) - 15) = ((t - 15 : Nat) : Int) := by rw [wrap64 (by omega) (by omega)]; omega
      have q2 : IntKind.i64.wrap ((t : Int) - 2) = ((t - 2 : Nat) : Int) := by rw [wrap64 (by omega) (by omega)]; omega
      have q7 : IntKind.i64.wrap ((t : Int) - 7) = ((t - 7 : Nat) : Int) := by rw [wrap64 (by omega) (by omega)]; omega
      have q16 : IntKind.i64.wrap ((t : Int) - 16) = ((t - 16 : Nat) : Int) := by rw [wrap64 (by omega) (by omega)]; omega
      rw [q15]
      refine ⟨⟨by omega, by omega⟩, ?_⟩
      conv => whnf
      refine ⟨_, wget (i := t - 15) (by omega) (by simp), ?_⟩
      conv => whnf
      rw [q2]
      refine ⟨⟨by omega, by omega⟩, ?_⟩
      conv => whnf
      refine ⟨_, wget (i := t - 2) (by omega) (by simp), ?_⟩
      conv => whnf
      refine WS.drawH tab mixed (.take 0 (.take 1 (.take 3 (.take 6 (.take 7 (.take 9 (.take 10 (.take 11 (.take 12 (.take 14 (.take 16 (.take 19 (.take 20 (.take 23 (.take 24 (.take 25 (.take 26 (.alt 2 (.alt 4 (.take 5 (.take 8 (.take 13 (.alt 15 (.alt 17 (.take 18 (.take 21 (.take 22 (.take 27 (.take 28 (.alt 29 .done .no)))))) .no) .no)))) .no) .no)))))))))))))))))) (by kernel_rfl) [.dead, .dead, .pre 161 ((schedN bs t).map cellW)] ⟨trivial, trivial, ⟨_, rfl, by unfold wCells; exact List.take_left⟩, trivial⟩ rfl ?_
      conv => whnf
      refine ⟨by decide, ?_⟩
      conv => whnf
      rw [q7]
      refine ⟨⟨by omega, by omega⟩, ?_⟩
      conv => whnf
      refine ⟨_, pget (i := t - 7) (by omega) (by simp), ?_⟩
      conv => whnf
      refine ⟨by decide, ?_⟩
      conv => whnf
      rw [q16]
      refine ⟨⟨by omega, by omega⟩, ?_⟩
      conv => whnf
      refine ⟨_, pget (i := t - 16) (by omega) (by simp), ?_⟩
      conv => whnf
      generalize hx2 : (schedN bs t).getD (t - 2) 0 = x2
      generalize hx7 : (schedN bs t).getD (t - 7) 0 = x7
      generalize hx15 : (schedN bs t).getD (t - 15) 0 = x15
      generalize hx16 : (schedN bs t).getD (t - 16) 0 = x16
      refine ⟨⟨⟨_, Tryd.func135, rfl, by kernel_rfl⟩, CallS.use (right x2 17 (by decide) (by decide) H2) [] rfl rfl trivial ?_⟩, trivial⟩
      rintro e H3 G' hle3 ⟨rfl, rfl, rfl⟩
      conv => whnf
      refine ⟨⟨trivial, trivial, ⟨_, rfl, by unfold wCells; exact List.take_left⟩, trivial⟩, ?_⟩
      conv => whnf
      refine ⟨⟨⟨_, Tryd.func135, rfl, by kernel_rfl⟩, CallS.use (right x2 19 (by decide) (by decide) H3) [] rfl rfl trivial ?_⟩, trivial⟩
      rintro e H4 G' hle4 ⟨rfl, rfl, rfl⟩
      conv => whnf
      refine ⟨⟨trivial, trivial, ⟨_, rfl, by unfold wCells; exact List.take_left⟩, trivial⟩, ?_⟩
      conv => whnf
      refine ⟨⟨⟨_, Tryd.func135, rfl, by kernel_rfl⟩, CallS.use (right x15 7 (by decide) (by decide) H4) [] rfl rfl trivial ?_⟩, trivial⟩
      rintro e H5 G' hle5 ⟨rfl, rfl, rfl⟩
      conv => whnf
      refine ⟨⟨trivial, trivial, ⟨_, rfl, by unfold wCells; exact List.take_left⟩, trivial⟩, ?_⟩
      conv => whnf
      refine ⟨⟨⟨_, Tryd.func135, rfl, by kernel_rfl⟩, CallS.use (right x15 18 (by decide) (by decide) H5) [] rfl rfl trivial ?_⟩, trivial⟩
      rintro e H6 G' hle6 ⟨rfl, rfl, rfl⟩
      conv => whnf
      refine ⟨⟨trivial, trivial, ⟨_, rfl, by unfold wCells; exact List.take_left⟩, trivial⟩, ?_⟩
      conv => whnf
      refine ⟨⟨by omega, by omega⟩, ?_⟩
      conv => whnf
      have hw : schedN bs (t + 1) = schedN bs t ++ [sg1 x2 + x7 + sg0 x15 + x16] := by
        show schedN bs t ++ [if t < 16 then _ else _] = _
        rw [if_neg (by omega), hx2, hx7, hx15, hx16]
      refine ⟨⟨?_, ?_⟩, trivial⟩
      rotate_left
      · conv => whnf
        rw [wCells_succ bs (by omega) (by simp) hw (sig_eq x2 x7 x15 x16)]
        refine ⟨⟨trivial, trivial, ⟨_, rfl, by unfold wCells; rw [hw, List.map_append, List.append_assoc]; exact List.take_left⟩, trivial⟩, ?_⟩
        conv => whnf
        rw [wrap64 (x := (t : Int) + 1) (by omega) (by omega)]
        exact ⟨64 - (t + 1), by omega, _, _, [0, 1, 2], ⟨t + 1, by omega, rfl, rfl, rfl, rfl⟩, rfl, ⟨rfl, .inl rfl, .inl rfl, trivial⟩, rfl, rfl, rfl, rfl, trivial⟩
      · rw [wCells_length bs h2]
        show 0 + (t : Int).toNat * 1 + 1 ≤ 64
        omega
  · simp only [decide_eq_false_iff_not] at h1
    obtain rfl : t = 64 := by omega
    refine ⟨lit64 fun i => cellW (wAt bs i), rfl, fun j x hj => ?_, ?_⟩
    · obtain ⟨hj1, rfl⟩ := lit64_get _ hj
      exact wget hj1 (by omega)
    conv => whnf
    refine ⟨by simp, ?_⟩
    conv => whnf
    refine ⟨lit64 fun i => cellW (wAt bs i), rfl, fun j x hj => ?_, ?_⟩
    · obtain ⟨hj1, rfl⟩ := lit64_get _ hj
      show (splice (List.replicate 64 (Value.int .u32 0)) 0 (lit64 fun i => cellW (wAt bs i)))[0 + j]? = _
      unfold splice
      rw [List.take_zero, List.nil_append, List.getElem?_append_left (by show 0 + j < 64; omega), Nat.zero_add]
      exact hj
    conv => whnf
    exact ⟨rfl, rfl, rfl⟩
end Go.Kx.Sha
