/- Values as texts: one element of an array, one member of an object. No condition of its own. -/
import Derived.Test.YtfchdibbjaeocaaJsI
namespace Go.Kx.Js
open Go.Proofs Go.Kx Go.RowKit
set_option maxRecDepth 20000
def RJ : Hp → J → SV → Prop := fun H j sv => ∃ k y t A n c B m e, sv = agJ k y t A n c B m e ∧ JAt H j [.int .i64 k, .bool y, .string t, .slice A n c, .slice B m e]
/-- What is said of the reading of a value. -/
def VSays (s : ByteArray) (d o : Int) (val : List UInt8 → Res J) : Prop := ∀ (l : List UInt8), Sfx l (tL s) → ∀ H : Hp, CallO Try.prog 22 [me] H [rdB s l d o] fun e H' G' => Out s d o RJ (val l) e H' G'
theorem VSays.use {s : ByteArray} {d o : Int} {val : List UInt8 → Res J} (h : VSays s d o val) (l : List UInt8) (hl : Sfx l (tL s)) (H : Hp) : CallO Try.prog 22 [me] H [rdB s l d o] fun e H' G' => Out s d o RJ (val l) e H' G' := h l hl H
def rB : SB := .box 47 [.ptr 0 0]
def vA (c : SC) : SB := .box 27 [.val (.int .i64 5), .val (.bool false), .val (.string ⟨#[]⟩), c, .val (.slice none 0 0)]
def vO (c : SC) : SB := .box 27 [.val (.int .i64 6), .val (.bool false), .val (.string ⟨#[]⟩), .val (.slice none 0 0), c]
def rowA (js : List J) (xs : List Value) : SB := .row 27 5 js.length xs
def zero5 : List Value := [.int .i64 0, .bool false, .string ⟨#[]⟩, .slice none 0 0, .slice none 0 0]
theorem ones_zero5 : ∀ u ∈ zero5, u.oneCell' = true := by
  intro u hu
  unfold zero5 at hu
  simp only [List.mem_cons, List.not_mem_nil, or_false] at hu
  rcases hu with rfl | rfl | rfl | rfl | rfl <;> rfl
def OutA (s : ByteArray) (d o : Int) (js : List J) (xs : List Value) (res : Res J) (e : SE) (H' : Hp) (G' : List SB) : Prop :=
  match res with
  | .ok j r => Sfx r (tL s) ∧ e = .ret (.tu []) ∧ ∃ xs', JsAt H' (js ++ [j]) xs' ∧ G' = [rdB s r d o, rB, vA (.self 4), .dead, rowA (js ++ [j]) xs']
  | .no er r => e = .pan [{ v := faultV er (pos s r), recovered := false }] ∧ ∃ l' o', G' = [rdB s l' d o', rB, vA (.self 3), rowA js xs]
theorem splice_end {xs zs ys : List Value} {off : Nat} (h : off = xs.length) (h2 : zs.length = ys.length) : splice (xs ++ zs) off ys = xs ++ ys := by
  subst h
  unfold splice
  rw [List.take_append_of_le_length (Nat.le_refl _), List.take_length, List.drop_of_length_le (by rw [List.length_append]; omega), List.append_nil]
theorem leafA {s : ByteArray} {r : List UInt8} {d o : Int} {js : List J} {j : J} {xs cs : List Value} {H : Hp} (hx : JsAt H js xs) (hj : JAt H j cs) : ∃ xs', JsAt H (js ++ [j]) xs' ∧
    [SB.box 49 [.val (.string s), .val (.int .i64 ((pos s r : Nat) : Int)), .val (.int .i64 d), .val (.int .i64 o)], rB, .box 27 [.val (.int .i64 5), .val (.bool false), .val (.string ⟨#[]⟩), .self 4, .val (.slice none 0 0)], .dead, .row 27 5 (js.length + 1) (splice (xs ++ zero5) ((js.length : Int).toNat * 5) cs)] = [rdB s r d o, rB, vA (.self 4), .dead, rowA (js ++ [j]) xs'] := by
  refine ⟨_, hx.snoc hj, ?_⟩
  rw [splice_end (xs := xs) (zs := zero5) (ys := cs) (by rw [hx.length]; omega) (show zero5.length = cs.length from hj.length.symm)]
  unfold rowA
  rw [List.length_append]
  rfl
set_option maxHeartbeats 8000000 in
theorem elA_ (s : ByteArray) (d o : Int) (val : List UInt8 → Res J) (hv : VSays s d o val) (l : List UInt8) (hl : Sfx l (tL s)) (js : List J) (xs : List Value) (hn : js.length ≤ 200000) (H : Hp) (hx : JsAt H js xs) :
    CallO Try.prog 46 [.si (.ce (.ptr 2 0)), .si (.ce (.ptr 1 0))] H [rdB s l d o, rB, vA (.self 3), rowA js xs] fun e H' G' => OutA s d o js xs (val l) e H' G' := by
  refine CallO.of_body tab Try.func46 rfl (nt := Try.f46.ntmps) rfl (by kernel_rfl) ?_
  (conv => whnf)
  refine WS.draw tab mixed (.take 0 (.take 2 (.alt 1 (.alt 3 (.alt 4 (.alt 5 (.alt 6 (.take 9 (.alt 7 (.alt 8 (.alt 10 .done .no) (.alt 10 (.alt 8 .done .no) .no)) (.alt 10 (.alt 7 (.alt 8 .done .no) .no) .no))) .no) .no) (.alt 5 (.alt 4 (.alt 6 (.take 9 (.alt 7 (.alt 8 (.alt 10 .done .no) (.alt 10 (.alt 8 .done .no) .no)) (.alt 10 (.alt 7 (.alt 8 .done .no) .no) .no))) .no) .no) .no)) (.alt 4 (.alt 3 (.alt 5 (.alt 6 (.take 9 (.alt 7 (.alt 8 (.alt 10 .done .no) (.alt 10 (.alt 8 .done .no) .no)) (.alt 10 (.alt 7 (.alt 8 .done .no) .no) .no))) .no) .no) (.alt 5 (.alt 3 (.alt 6 (.take 9 (.alt 7 (.alt 8 (.alt 10 .done .no) (.alt 10 (.alt 8 .done .no) .no)) (.alt 10 (.alt 7 (.alt 8 .done .no) .no) .no))) .no) .no) .no)) (.alt 5 (.alt 3 (.alt 4 (.alt 6 (.take 9 (.alt 7 (.alt 8 (.alt 10 .done .no) (.alt 10 (.alt 8 .done .no) .no)) (.alt 10 (.alt 7 (.alt 8 .done .no) .no) .no))) .no) .no) (.alt 4 (.alt 3 (.alt 6 (.take 9 (.alt 7 (.alt 8 (.alt 10 .done .no) (.alt 10 (.alt 8 .done .no) .no)) (.alt 10 (.alt 7 (.alt 8 .done .no) .no) .no))) .no) .no) .no)) .no))) (.alt 3 (.alt 1 (.alt 4 (.alt 5 (.alt 6 (.take 9 (.alt 7 (.alt 8 (.alt 10 .done .no) (.alt 10 (.alt 8 .done .no) .no)) (.alt 10 (.alt 7 (.alt 8 .done .no) .no) .no))) .no) .no) (.alt 5 (.alt 4 (.alt 6 (.take 9 (.alt 7 (.alt 8 (.alt 10 .done .no) (.alt 10 (.alt 8 .done .no) .no)) (.alt 10 (.alt 7 (.alt 8 .done .no) .no) .no))) .no) .no) .no)) (.alt 5 (.alt 1 (.alt 4 (.alt 6 (.take 9 (.alt 7 (.alt 8 (.alt 10 .done .no) (.alt 10 (.alt 8 .done .no) .no)) (.alt 10 (.alt 7 (.alt 8 .done .no) .no) .no))) .no) .no) .no) .no)) (.alt 5 (.alt 1 (.alt 3 (.alt 4 (.alt 6 (.take 9 (.alt 7 (.alt 8 (.alt 10 .done .no) (.alt 10 (.alt 8 .done .no) .no)) (.alt 10 (.alt 7 (.alt 8 .done .no) .no) .no))) .no) .no) (.alt 4 (.alt 3 (.alt 6 (.take 9 (.alt 7 (.alt 8 (.alt 10 .done .no) (.alt 10 (.alt 8 .done .no) .no)) (.alt 10 (.alt 7 (.alt 8 .done .no) .no) .no))) .no) .no) .no)) (.alt 3 (.alt 1 (.alt 4 (.alt 6 (.take 9 (.alt 7 (.alt 8 (.alt 10 .done .no) (.alt 10 (.alt 8 .done .no) .no)) (.alt 10 (.alt 7 (.alt 8 .done .no) .no) .no))) .no) .no) .no) .no)) .no))))) (by kernel_rfl) [0, 2, 3] ?_
  (conv => whnf)
  repeat' (first
    | exact trivial
    | exact rfl
    | exact ⟨_, Try.func22, rfl, by kernel_rfl⟩
    | (refine CallS.use (hv.use l hl _) [0] rfl rfl ⟨rfl, trivial⟩ ?_; intro e H2 G' hle2 hout; replace hx := hx.mono hle2; cases hval : val l)
    | (rw [hval] at hout; obtain ⟨rfl, l2, o2, rfl⟩ := hout; (conv => whnf); exact ⟨rfl, l2, o2, rfl⟩)
    | (rw [hval] at hout; obtain ⟨hr, ⟨sv, rfl, k, y, t, A, n, c, B, m, e, rfl, hj⟩, rfl⟩ := hout; clear hval; (conv => whnf))
    | (refine ⟨by decide, .inl ?_⟩; intro g H2 hle hrd; replace hx := hx.mono hle; try replace hj := hj.mono hle
       (conv => whnf))
    | (refine ⟨zero5, rfl, hrd, ones_zero5, ?_⟩; (conv => whnf); refine ⟨by show _ * 81 ≤ _; omega, ?_⟩; (conv => whnf))
    | (refine ⟨zero5, rfl, hrd.mono hle2, ones_zero5, ?_⟩; (conv => whnf); refine ⟨by show _ * 81 ≤ _; omega, ?_⟩; (conv => whnf))
    | (refine ⟨⟨by omega, by omega⟩, ?_⟩; (conv => whnf))
    | exact hr
    | (show (js.length : Int).toNat * 5 + 5 ≤ (xs ++ zero5).length; rw [List.length_append, hx.length]; show _ ≤ _ * 5 + 5; omega)
    | exact leafA hx hj
    | (refine And.intro ?_ ?_ <;> (conv => whnf)))
end Go.Kx.Js
