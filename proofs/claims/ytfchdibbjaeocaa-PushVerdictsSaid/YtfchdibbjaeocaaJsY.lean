/- Values as texts: json.Parse. No condition of its own. -/
import Derived.Test.YtfchdibbjaeocaaJsX
import Derived.Test.YtfchdibbjaeocaaJsP
namespace Go.Kx.Js
open Go.Proofs Go.Kx Go.RowKit
set_option maxRecDepth 20000
/-- What the reading of bytes comes to: a value, an error's number, a place. -/
def parseP (bs : List UInt8) (d : Int) : J × Int × Int :=
  if bs.length > 16384 then (jNone, 11, 0) else if d < 1 ∨ d > 32 then (jNone, 12, 0) else if wrongI (strOf bs) ≥ 0 then (jNone, 30, wrongI (strOf bs)) else
  match wholeP d.toNat bs with
  | .ok j _ => (j, 0, 0)
  | .no er r => (jNone, er, ((pos (strOf bs) r : Nat) : Int))
def RP (x : J × Int × Int) (e : SE) (H' : Hp) : Prop := ∃ k y t A n c B m f, e = .ret (.tu [.ag [.val (.int .i64 k), .val (.bool y), .val (.string t), .val (.slice A n c), .val (.slice B m f)], .ce (.val (.int .i64 x.2.1)), .ce (.val (.int .i64 x.2.2))]) ∧ JAt H' x.1 [.int .i64 k, .bool y, .string t, .slice A n c, .slice B m f]
theorem strOf_tL (bs : List UInt8) : tL (strOf bs) = bs := by simp [tL, strOf]
theorem strOf_size (bs : List UInt8) : (strOf bs).size = bs.length := by rw [size_eq, strOf_tL]
theorem parse_ (bs : List UInt8) (A : Option Addr) (n cap : Nat) (d : Int) (H : Hp) (hb : BytesZ H A n bs) (hn : n ≤ 100000) : CallO Try.prog 5 [pv (.slice A n cap), pv (.int .i64 d)] H [] fun e H' G' => RP (parseP bs d) e H' ∧ G' = [] := by
  have hlen := hb.1
  have hsz := strOf_size bs
  have zok : ∀ (H : Hp), JAt H jNone [.int .i64 0, .bool false, .string ⟨#[]⟩, .slice none 0 0, .slice none 0 0] := fun H => .bare 0 false ⟨#[]⟩
  refine CallO.of_body tab Try.func5 rfl (nt := Try.f5.ntmps) rfl (by kernel_rfl) ?_
  (conv => whnf)
  have hconv : (A = none ∧ strOf bs = ⟨#[]⟩) ∨ ∃ a, A = some a ∧ (n = 0 ∨ RdN H (some a) 0 (byteCells (strOf bs))) := by
    cases A with
    | none => exact .inl ⟨rfl, by rw [hb.2.1 rfl]; rfl⟩
    | some a => exact .inr ⟨a, rfl, by rw [← cells_str]; exact hb.2.2 a rfl⟩
  rcases hconv with ⟨rfl, hso⟩ | ⟨a, rfl, hrd⟩
  · (conv => whnf)
    rw [← hso]
    refine ⟨⟨_, Try.func13, rfl, by kernel_rfl⟩, CallS.use (wrong_ (strOf bs) (by omega) H) [] rfl rfl trivial ?_⟩
    rintro e H2 G' hle2 ⟨rfl, rfl⟩
    unfold parseP
    generalize hwi : wrongI (strOf bs) = wi
    generalize hnI : ((n : Nat) : Int) = nI
    (conv => whnf)
    refine br.of (fun h1 => ?_) (fun h1 => ?_) <;> (conv => whnf)
    · have h1 := of_decide_eq_true h1
      rw [if_pos (by omega)]
      exact ⟨⟨_, _, _, _, _, _, _, _, _, rfl, zok _⟩, rfl⟩
    · have h1 := of_decide_eq_false h1
      rw [if_neg (by omega)]
      refine br.of (fun h2 => ?_) (fun h2 => ?_) <;> (conv => whnf)
      · have h2 := of_decide_eq_true h2
        rw [if_pos (by omega)]
        exact ⟨⟨_, _, _, _, _, _, _, _, _, rfl, zok _⟩, rfl⟩
      have h2 := of_decide_eq_false h2
      refine br.of (fun h3 => ?_) (fun h3 => ?_) <;> (conv => whnf)
      · have h3 := of_decide_eq_true h3
        rw [if_pos (by omega)]
        exact ⟨⟨_, _, _, _, _, _, _, _, _, rfl, zok _⟩, rfl⟩
      · have h3 := of_decide_eq_false h3
        rw [if_neg (by omega)]
        refine br.of (fun h4 => ?_) (fun h4 => ?_) <;> (conv => whnf)
        · have h4 := of_decide_eq_true h4
          rw [if_pos (by omega)]
          exact ⟨⟨_, _, _, _, _, _, _, _, _, rfl, zok _⟩, rfl⟩
        · have h4 := of_decide_eq_false h4
          rw [if_neg (by omega)]
          rw [← hso]
          have hdn : d = ((d.toNat : Nat) : Int) := by omega
          have hrd0 : SB.box 49 [.val (.string (strOf bs)), .val (.int .i64 0), .val (.int .i64 d), .val (.int .i64 0)] = rdB (strOf bs) bs ((d.toNat : Nat) : Int) 0 := by
            unfold rdB pos
            rw [strOf_tL, Nat.sub_self, ← hdn]; rfl
          refine ⟨⟨_, Try.func14, rfl, by kernel_rfl⟩, CallS.use (caught_ (strOf bs) (by omega) d.toNat (by omega) bs (by rw [strOf_tL]; exact .refl _) _) [1] rfl rfl ⟨?_, trivial⟩ ?_⟩
          · exact hrd0
          rintro e H5 G' hle5 ⟨hrc, l2, o2, rfl⟩
          cases hwp : wholeP d.toNat bs with
          | no er r =>
            rw [hwp] at hrc
            obtain rfl := hrc
            (conv => whnf)
            refine WS.draw tab mixed (.take 0 (.take 1 (.take 2 (.take 3 (.take 4 (.alt 5 (.take 6 (.take 7 .done)) .no)))))) (by kernel_rfl) [0] ?_
            (conv => whnf)
            repeat' (first
              | exact trivial
              | exact rfl
              | exact ⟨⟨_, _, _, _, _, _, _, _, _, rfl, zok _⟩, rfl⟩
              | (refine And.intro ?_ ?_ <;> (conv => whnf)))
          | ok j r =>
            rw [hwp] at hrc
            obtain ⟨k, y, t, A2, n2, c2, B, m, f, rfl, hj⟩ := hrc
            (conv => whnf)
            refine WS.draw tab mixed (.take 0 (.take 1 (.take 2 (.take 3 (.take 4 (.alt 5 (.take 6 (.take 7 .done)) .no)))))) (by kernel_rfl) [0] ?_
            (conv => whnf)
            repeat' (first
              | exact trivial
              | exact rfl
              | exact ⟨⟨_, _, _, _, _, _, _, _, _, rfl, hj⟩, rfl⟩
              | (refine And.intro ?_ ?_ <;> (conv => whnf)))
  · (conv => whnf)
    refine ⟨strOf bs, hsz.trans hlen.symm, hrd, ?_⟩
    (conv => whnf)
    refine ⟨⟨_, Try.func13, rfl, by kernel_rfl⟩, CallS.use (wrong_ (strOf bs) (by omega) H) [] rfl rfl trivial ?_⟩
    rintro e H2 G' hle2 ⟨rfl, rfl⟩
    unfold parseP
    generalize hwi : wrongI (strOf bs) = wi
    generalize hnI : ((n : Nat) : Int) = nI
    (conv => whnf)
    refine br.of (fun h1 => ?_) (fun h1 => ?_) <;> (conv => whnf)
    · have h1 := of_decide_eq_true h1
      rw [if_pos (by omega)]
      exact ⟨⟨_, _, _, _, _, _, _, _, _, rfl, zok _⟩, rfl⟩
    · have h1 := of_decide_eq_false h1
      rw [if_neg (by omega)]
      refine br.of (fun h2 => ?_) (fun h2 => ?_) <;> (conv => whnf)
      · have h2 := of_decide_eq_true h2
        rw [if_pos (by omega)]
        exact ⟨⟨_, _, _, _, _, _, _, _, _, rfl, zok _⟩, rfl⟩
      have h2 := of_decide_eq_false h2
      refine br.of (fun h3 => ?_) (fun h3 => ?_) <;> (conv => whnf)
      · have h3 := of_decide_eq_true h3
        rw [if_pos (by omega)]
        exact ⟨⟨_, _, _, _, _, _, _, _, _, rfl, zok _⟩, rfl⟩
      · have h3 := of_decide_eq_false h3
        rw [if_neg (by omega)]
        refine br.of (fun h4 => ?_) (fun h4 => ?_) <;> (conv => whnf)
        · have h4 := of_decide_eq_true h4
          rw [if_pos (by omega)]
          exact ⟨⟨_, _, _, _, _, _, _, _, _, rfl, zok _⟩, rfl⟩
        · have h4 := of_decide_eq_false h4
          rw [if_neg (by omega)]
          refine ⟨strOf bs, hsz.trans hlen.symm, hrd.imp id (fun h => h.mono hle2), ?_⟩
          (conv => whnf)
          have hdn : d = ((d.toNat : Nat) : Int) := by omega
          have hrd0 : SB.box 49 [.val (.string (strOf bs)), .val (.int .i64 0), .val (.int .i64 d), .val (.int .i64 0)] = rdB (strOf bs) bs ((d.toNat : Nat) : Int) 0 := by
            unfold rdB pos
            rw [strOf_tL, Nat.sub_self, ← hdn]; rfl
          refine ⟨⟨_, Try.func14, rfl, by kernel_rfl⟩, CallS.use (caught_ (strOf bs) (by omega) d.toNat (by omega) bs (by rw [strOf_tL]; exact .refl _) _) [1] rfl rfl ⟨?_, trivial⟩ ?_⟩
          · exact hrd0
          rintro e H5 G' hle5 ⟨hrc, l2, o2, rfl⟩
          cases hwp : wholeP d.toNat bs with
          | no er r =>
            rw [hwp] at hrc
            obtain rfl := hrc
            (conv => whnf)
            refine WS.draw tab mixed (.take 0 (.take 1 (.take 2 (.take 3 (.take 4 (.alt 5 (.take 6 (.take 7 .done)) .no)))))) (by kernel_rfl) [0] ?_
            (conv => whnf)
            repeat' (first
              | exact trivial
              | exact rfl
              | exact ⟨⟨_, _, _, _, _, _, _, _, _, rfl, zok _⟩, rfl⟩
              | (refine And.intro ?_ ?_ <;> (conv => whnf)))
          | ok j r =>
            rw [hwp] at hrc
            obtain ⟨k, y, t, A2, n2, c2, B, m, f, rfl, hj⟩ := hrc
            (conv => whnf)
            refine WS.draw tab mixed (.take 0 (.take 1 (.take 2 (.take 3 (.take 4 (.alt 5 (.take 6 (.take 7 .done)) .no)))))) (by kernel_rfl) [0] ?_
            (conv => whnf)
            repeat' (first
              | exact trivial
              | exact rfl
              | exact ⟨⟨_, _, _, _, _, _, _, _, _, rfl, hj⟩, rfl⟩
              | (refine And.intro ?_ ?_ <;> (conv => whnf)))
end Go.Kx.Js
