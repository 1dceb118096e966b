/- SHA-256, plain: blocks, states on the way, sums. No condition of its own. -/
import Derived.Test.YtjpjpdmceliofaaDoorShaD
namespace Go.Kx.Sha
open Go.Proofs Go.Kx

def blocks : Nat → St8 → List UInt8 → St8
  | 0, s, _ => s
  | n + 1, s, b => blocks n (compressP b s) (b.drop 64)
theorem schedN_ext {a b : List UInt8} (h : ∀ i, i < 64 → byteN a i = byteN b i) : ∀ t, schedN a t = schedN b t := by
  have hw : ∀ j, j < 16 → word a j = word b j := by
    intro j hj
    unfold word by32
    rw [h _ (by omega), h _ (by omega), h _ (by omega), h _ (by omega)]
  intro t
  induction t with
  | zero => rfl
  | succ t ih =>
    simp only [schedN, ih]
    by_cases ht : t < 16
    · rw [if_pos ht, if_pos ht, hw t ht]
    · rw [if_neg ht, if_neg ht]
theorem compressP_ext {a b : List UInt8} (h : ∀ i, i < 64 → byteN a i = byteN b i) (s : St8) : compressP a s = compressP b s := by
  have hr : ∀ t, rounds a s t = rounds b s t := by
    intro t
    induction t with
    | zero => rfl
    | succ t ih => unfold rounds wAt; rw [ih, schedN_ext h]
  unfold compressP
  rw [hr]
theorem compressP_append {a : List UInt8} (b : List UInt8) (h : 64 ≤ a.length) (s : St8) : compressP (a ++ b) s = compressP a s := by
  refine compressP_ext (fun i hi => ?_) s
  unfold byteN
  rw [List.getD_eq_getElem?_getD, List.getElem?_append_left (by omega), ← List.getD_eq_getElem?_getD]
theorem blocks_append (y : List UInt8) : ∀ (n : Nat) (s : St8) (x : List UInt8), n * 64 ≤ x.length → blocks n s (x ++ y) = blocks n s x
  | 0, _, _, _ => rfl
  | n + 1, s, x, h => by
    unfold blocks
    rw [compressP_append y (by omega), List.drop_append_of_le_length (by omega)]
    exact blocks_append y n _ _ (by simp; omega)
theorem blocks_add : ∀ (a b : Nat) (s : St8) (x : List UInt8), blocks (a + b) s x = blocks b (blocks a s x) (x.drop (64 * a))
  | 0, b, s, x => by simp [blocks]
  | a + 1, b, s, x => by
    rw [show a + 1 + b = (a + b) + 1 by omega]
    show blocks (a + b) (compressP x s) (x.drop 64) = blocks b (blocks a (compressP x s) (x.drop 64)) (x.drop (64 * (a + 1)))
    rw [blocks_add a b, List.drop_drop, show 64 + 64 * a = 64 * (a + 1) by omega]
theorem blocks_succ (n : Nat) (s : St8) (x : List UInt8) : blocks (n + 1) s x = compressP (x.drop (64 * n)) (blocks n s x) := by
  rw [blocks_add n 1]; rfl

def init8 : St8 := ⟨1779033703, 3144134277, 1013904242, 2773480762, 1359893119, 2600822924, 528734635, 1541459225⟩
/-- The state and the rest of a message on the way. -/
def hst (m : List UInt8) : St8 := blocks (m.length / 64) init8 m
def rst (m : List UInt8) : List UInt8 := m.drop (64 * (m.length / 64))
theorem rst_length (m : List UInt8) : (rst m).length = m.length % 64 := by unfold rst; rw [List.length_drop]; omega
theorem split_rst (m : List UInt8) : m.take (64 * (m.length / 64)) ++ rst m = m := List.take_append_drop _ _
theorem hst_append (m b : List UInt8) : hst (m ++ b) = blocks ((rst m ++ b).length / 64) (hst m) (rst m ++ b) := by
  have hl : (m ++ b).length / 64 = m.length / 64 + (rst m ++ b).length / 64 := by
    rw [List.length_append, List.length_append, rst_length]; omega
  have hd : (m ++ b).drop (64 * (m.length / 64)) = rst m ++ b := by
    rw [List.drop_append_of_le_length (by omega)]; rfl
  unfold hst
  rw [hl, blocks_add, hd, blocks_append b (m.length / 64) init8 m (by omega)]
theorem rst_append (m b : List UInt8) : rst (m ++ b) = (rst m ++ b).drop (64 * ((rst m ++ b).length / 64)) := by
  have hl : (m ++ b).length / 64 = m.length / 64 + (rst m ++ b).length / 64 := by
    rw [List.length_append, List.length_append, rst_length]; omega
  have hd : (m ++ b).drop (64 * (m.length / 64)) = rst m ++ b := by
    rw [List.drop_append_of_le_length (by omega)]; rfl
  show (m ++ b).drop (64 * ((m ++ b).length / 64)) = _
  rw [hl, Nat.mul_add, ← List.drop_drop, hd]

def byteOf (n : Int) : UInt8 := UInt8.ofNat (n % 256).toNat
def be8 (n : Nat) : List UInt8 := [byteOf (n / 2 ^ 56 : Nat), byteOf (n / 2 ^ 48 : Nat), byteOf (n / 2 ^ 40 : Nat), byteOf (n / 2 ^ 32 : Nat), byteOf (n / 2 ^ 24 : Nat), byteOf (n / 2 ^ 16 : Nat), byteOf (n / 2 ^ 8 : Nat), byteOf (n : Nat)]
/-- So many noughts stand behind the first one. -/
def padN (n : Nat) : Nat := (119 - n % 64) % 64
def tailOf (r : List UInt8) (n : Nat) : List UInt8 := r ++ 128 :: (List.replicate (padN r.length) 0 ++ be8 (8 * n))
def be4 (x : BitVec 32) : List UInt8 := [byteOf (x.toNat / 2 ^ 24 : Nat), byteOf (x.toNat / 2 ^ 16 : Nat), byteOf (x.toNat / 2 ^ 8 : Nat), byteOf (x.toNat : Nat)]
def outB (s : St8) : List UInt8 := be4 s.a ++ (be4 s.b ++ (be4 s.c ++ (be4 s.d ++ (be4 s.e ++ (be4 s.f ++ (be4 s.g ++ be4 s.h))))))
/-- SHA-256. -/
def sha (m : List UInt8) : List UInt8 := outB (hst (tailOf m m.length))
theorem sha_length (m : List UInt8) : (sha m).length = 32 := rfl
theorem tailOf_length (r : List UInt8) (n : Nat) : (tailOf r n).length = r.length + 1 + padN r.length + 8 := by
  unfold tailOf; simp [be8]; omega
theorem tailOf_mod (r : List UInt8) (n : Nat) : (tailOf r n).length % 64 = 0 := by
  rw [tailOf_length]; unfold padN; omega
theorem padN_mod (n : Nat) : padN (n % 64) = padN n := by unfold padN; omega
theorem sha_eq (m : List UInt8) : sha m = outB (blocks ((tailOf (rst m) m.length).length / 64) (hst m) (tailOf (rst m) m.length)) := by
  have h : tailOf m m.length = m ++ (128 :: (List.replicate (padN m.length) 0 ++ be8 (8 * m.length))) := rfl
  have h2 : rst m ++ (128 :: (List.replicate (padN m.length) 0 ++ be8 (8 * m.length))) = tailOf (rst m) m.length := by
    unfold tailOf; rw [rst_length, padN_mod]
  unfold sha
  rw [h, hst_append, h2]
end Go.Kx.Sha
