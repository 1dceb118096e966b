/- SHA-256: a hash on its way. No condition of its own. -/
import Derived.Test.YtjpjpdmceliofaaDoorShaP
namespace Go.Kx.Sha
open Go.Proofs Go.Kx
set_option maxRecDepth 20000

/-- Bytes that are read for good. -/
def BytesAt (H : Hp) (A : Option Addr) (n : Nat) (bs : List UInt8) : Prop := n = bs.length ∧ (A = none → bs = []) ∧ ∀ a, A = some a → RdN H (some a) 0 (bCells bs)
theorem BytesAt.mono {H H' : Hp} (h : H.Le H') {A : Option Addr} {n : Nat} {bs : List UInt8} (hb : BytesAt H A n bs) : BytesAt H' A n bs :=
  ⟨hb.1, hb.2.1, fun a e => let ⟨b, o, h1, h2⟩ := hb.2.2 a e; ⟨b, o, h1, fun j x hx => h _ _ _ (h2 j x hx)⟩⟩
theorem bCells_length (bs : List UInt8) : (bCells bs).length = bs.length := by simp [bCells]
theorem bCells_one (bs : List UInt8) : ∀ u ∈ bCells bs, u.oneCell' = true := by
  intro u hu
  obtain ⟨b, _, rfl⟩ := List.mem_map.1 hu
  rfl
theorem bCells_append (a b : List UInt8) : bCells a ++ bCells b = bCells (a ++ b) := by simp [bCells]
theorem bCells_drop (a : List UInt8) (n : Nat) : (bCells a).drop n = bCells (a.drop n) := by simp [bCells]
/-- A hash on its way; its rest is block k. -/
def hBox (k : Nat) (m : List UInt8) : SB := .box 146 ((hst m).cells ++ [.self k, .val (.int .i64 m.length)])
def hRow (m : List UInt8) : SB := .row 5 1 (rst m).length (bCells (rst m))
theorem new_ (H : Hp) : CallO Tryd.prog 86 [] H [] fun e H' G' => e = .ret (.si (.ce (.ptr 0 0))) ∧ H' = H ∧ G' = [hBox 1 [], hRow []] := by
  refine CallO.nilCell (K0 := fun e H' G' => e = .ret (.si (.ce (.ptr 0 0))) ∧ H' = H ∧ G' = [.box 146 (init8.cells ++ [.val (.slice none 0 0), .val (.int .i64 0)])]) ?_ ?_
  · refine CallO.of_body tab Tryd.func86 rfl (nt := Tryd.f86.ntmps) rfl (by kernel_rfl) ?_
    conv => whnf
    exact ⟨rfl, rfl, rfl⟩
  · rintro e H' G' hle ⟨rfl, rfl, rfl⟩
    exact .inr ⟨0, 8, _, _, 5, 1, rfl, rfl, rfl, rfl, rfl⟩
theorem row_cut (all : List UInt8) (i : Nat) : SB.row 5 1 ((all.drop (64 * i)).length - Int.toNat 64) ((bCells (all.drop (64 * i))).drop (Int.toNat 64 * 1)) = SB.row 5 1 (all.drop (64 * (i + 1))).length (bCells (all.drop (64 * (i + 1)))) := by
  have e : Int.toNat 64 = 64 := rfl
  rw [e, Nat.mul_one, bCells_drop, List.drop_drop, ← List.length_drop, List.drop_drop, Nat.mul_succ]
/-- On the way through the blocks. -/
def WI (m bs : List UInt8) (n : Nat) (H : Hp) (k : Nat) (F : Fr) (H3 : Hp) (G : List SB) : Prop :=
  ∃ i : Nat, i ≤ (rst m ++ bs).length / 64 ∧ k = (rst m ++ bs).length / 64 - i ∧ F = [(0, .si (.ce (.ptr 0 0)))] ∧ H3 = H ∧
        G = [.box 146 ((blocks i (hst m) (rst m ++ bs)).cells ++ [.self 2, .val (.int .i64 ((m.length : Int) + n))]), .dead, .row 5 1 ((rst m ++ bs).drop (64 * i)).length (bCells ((rst m ++ bs).drop (64 * i)))]
theorem write (m bs : List UInt8) (A : Option Addr) (n cap : Nat) (H : Hp) (hb : BytesAt H A n bs) (hl : m.length + n ≤ 1000000000) :
    CallO Tryd.prog 87 [.si (.ce (.ptr 0 0)), pv (.slice A n cap)] H [hBox 1 m, hRow m] fun e H' G' => e = .ret (.tu []) ∧ H' = H ∧ G' = [hBox 2 (m ++ bs), .dead, hRow (m ++ bs)] := by
  have hr := rst_length m
  obtain ⟨hn, hA, hrd⟩ := hb
  have fin : ∀ i, i = (rst m ++ bs).length / 64 → (SB.box 146 ((blocks i (hst m) (rst m ++ bs)).cells ++ [.self 2, .val (.int .i64 ((m.length : Int) + n))]) = hBox 2 (m ++ bs)) ∧ (SB.row 5 1 ((rst m ++ bs).drop (64 * i)).length (bCells ((rst m ++ bs).drop (64 * i))) = hRow (m ++ bs)) := by
    intro i hi
    subst hi
    refine ⟨?_, ?_⟩
    · unfold hBox
      have hlen : (m ++ bs).length = m.length + bs.length := List.length_append
      rw [hst_append, hlen, hn, Int.natCast_add]
    · unfold hRow
      rw [rst_append]
  have hal : (rst m ++ bs).length = (rst m).length + n := by rw [List.length_append, hn]
  refine CallO.of_body tab Tryd.func87 rfl (nt := Tryd.f87.ntmps) rfl (by kernel_rfl) ?_
  conv => whnf
  rw [wrap64 (by omega) (by omega)]
  cases A with
  | none =>
    have hbs := hA rfl
    obtain rfl : n = 0 := by rw [hn, hbs]; rfl
    conv => whnf
    refine ⟨by show ((rst m).length + 0) * 2 ≤ _; omega, ?_⟩
    conv => whnf
    refine WS.loop (WI m bs 0 H) ((rst m ++ bs).length / 64 + 1) ?_ ?_
    · refine ⟨(rst m ++ bs).length / 64, by omega, _, _, [0, 1, 2], ⟨0, by omega, rfl, rfl, rfl, rfl⟩, ?_⟩
      refine ⟨rfl, ⟨rfl, trivial, ?_, trivial⟩, rfl, trivial⟩
      show SB.row 5 1 ((rst m).length + 0) (bCells (rst m) ++ []) = SB.row 5 1 ((rst m ++ bs).drop (64 * 0)).length (bCells ((rst m ++ bs).drop (64 * 0)))
      rw [hbs, Nat.mul_zero, List.drop_zero, List.append_nil, List.append_nil]; rfl
    · unfold WI
      generalize rst m ++ bs = all at *
      generalize hst m = s0 at *
      rintro k F H3 G hle ⟨i, hi, rfl, rfl, rfl, rfl⟩
      refine codeL.go tab ?_
      conv => whnf
      have hdl : (all.drop (64 * i)).length = all.length - 64 * i := List.length_drop
      refine br.of (fun h1 => ?_) (fun h1 => ?_) <;> conv => whnf
      · simp only [ge_iff_le, decide_eq_true_eq] at h1
        refine WS.draw tab mixed (.take 0 (.take 1 (.take 2 (.take 3 (.take 5 (.take 6 (.take 7 (.alt 4 (.alt 8 (.alt 9 (.take 10 (.take 11 (.alt 12 .done .no))) .no) .no) (.alt 8 (.alt 4 (.alt 9 (.take 10 (.take 11 (.alt 12 .done .no))) .no) .no) .no))))))))) (by kernel_rfl) [0, 1, 2] ?_
        conv => whnf
        refine ⟨?_, ?_, trivial⟩ <;> conv => whnf
        all_goals
          refine ⟨⟨trivial, trivial, trivial, trivial⟩, ?_⟩
          conv => whnf
          refine ⟨?_, trivial⟩
          conv => whnf
          refine ⟨⟨trivial, trivial, trivial, trivial⟩, ?_⟩
          conv => whnf
          refine ⟨⟨⟨_, Tryd.func118, rfl, by kernel_rfl⟩, CallS.use (compress (blocks i s0 all) (all.drop (64 * i)).length (all.drop (64 * i)) (by omega) rfl H3) [2] rfl rfl ⟨rfl, trivial⟩ ?_⟩, trivial⟩
          rintro e H' G' hle2 ⟨rfl, rfl, rfl⟩
          conv => whnf
          refine ⟨⟨trivial, trivial, trivial, trivial⟩, ?_⟩
          conv => whnf
          refine ⟨?_, trivial⟩
          conv => whnf
          refine ⟨⟨trivial, trivial, trivial, trivial⟩, ?_⟩
          conv => whnf
          refine ⟨⟨by omega, by omega⟩, ?_⟩
          conv => whnf
          refine ⟨all.length / 64 - (i + 1), by omega, _, _, [0, 1, 3], ⟨i + 1, by omega, rfl, rfl, rfl, rfl⟩, ?_⟩
          refine ⟨rfl, ⟨?_, trivial, ?_, trivial⟩, rfl, trivial⟩
          · rw [blocks_succ]; rfl
          · exact row_cut all i
      · simp only [ge_iff_le, decide_eq_false_iff_not] at h1
        obtain ⟨f1, f2⟩ := fin i (by omega)
        exact ⟨rfl, rfl, by rw [← f1, ← f2]⟩
  | some a =>
    refine ⟨bCells bs, by rw [bCells_length, hn]; exact (Nat.mul_one _).symm, hrd a rfl, bCells_one bs, ?_⟩
    conv => whnf
    refine ⟨by show ((rst m).length + n) * 2 ≤ _; omega, ?_⟩
    conv => whnf
    refine WS.loop (WI m bs n H) ((rst m ++ bs).length / 64 + 1) ?_ ?_
    · refine ⟨(rst m ++ bs).length / 64, by omega, _, _, [0, 1, 2], ⟨0, by omega, rfl, rfl, rfl, rfl⟩, ?_⟩
      refine ⟨rfl, ⟨rfl, trivial, ?_, trivial⟩, rfl, trivial⟩
      show SB.row 5 1 ((rst m).length + n) (bCells (rst m) ++ bCells bs) = SB.row 5 1 ((rst m ++ bs).drop (64 * 0)).length (bCells ((rst m ++ bs).drop (64 * 0)))
      rw [bCells_append, Nat.mul_zero, List.drop_zero, List.length_append, hn]
    · unfold WI
      generalize rst m ++ bs = all at *
      generalize hst m = s0 at *
      rintro k F H3 G hle ⟨i, hi, rfl, rfl, rfl, rfl⟩
      refine codeL.go tab ?_
      conv => whnf
      have hdl : (all.drop (64 * i)).length = all.length - 64 * i := List.length_drop
      refine br.of (fun h1 => ?_) (fun h1 => ?_) <;> conv => whnf
      · simp only [ge_iff_le, decide_eq_true_eq] at h1
        refine WS.draw tab mixed (.take 0 (.take 1 (.take 2 (.take 3 (.take 5 (.take 6 (.take 7 (.alt 4 (.alt 8 (.alt 9 (.take 10 (.take 11 (.alt 12 .done .no))) .no) .no) (.alt 8 (.alt 4 (.alt 9 (.take 10 (.take 11 (.alt 12 .done .no))) .no) .no) .no))))))))) (by kernel_rfl) [0, 1, 2] ?_
        conv => whnf
        refine ⟨?_, ?_, trivial⟩ <;> conv => whnf
        all_goals
          refine ⟨⟨trivial, trivial, trivial, trivial⟩, ?_⟩
          conv => whnf
          refine ⟨?_, trivial⟩
          conv => whnf
          refine ⟨⟨trivial, trivial, trivial, trivial⟩, ?_⟩
          conv => whnf
          refine ⟨⟨⟨_, Tryd.func118, rfl, by kernel_rfl⟩, CallS.use (compress (blocks i s0 all) (all.drop (64 * i)).length (all.drop (64 * i)) (by omega) rfl H3) [2] rfl rfl ⟨rfl, trivial⟩ ?_⟩, trivial⟩
          rintro e H' G' hle2 ⟨rfl, rfl, rfl⟩
          conv => whnf
          refine ⟨⟨trivial, trivial, trivial, trivial⟩, ?_⟩
          conv => whnf
          refine ⟨?_, trivial⟩
          conv => whnf
          refine ⟨⟨trivial, trivial, trivial, trivial⟩, ?_⟩
          conv => whnf
          refine ⟨⟨by omega, by omega⟩, ?_⟩
          conv => whnf
          refine ⟨all.length / 64 - (i + 1), by omega, _, _, [0, 1, 3], ⟨i + 1, by omega, rfl, rfl, rfl, rfl⟩, ?_⟩
          refine ⟨rfl, ⟨?_, trivial, ?_, trivial⟩, rfl, trivial⟩
          · rw [blocks_succ]; rfl
          · exact row_cut all i
      · simp only [ge_iff_le, decide_eq_false_iff_not] at h1
        obtain ⟨f1, f2⟩ := fin i (by omega)
        exact ⟨rfl, rfl, by rw [← f1, ← f2]⟩
end Go.Kx.Sha
