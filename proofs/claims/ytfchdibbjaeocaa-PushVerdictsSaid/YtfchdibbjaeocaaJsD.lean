/- Values as texts: characters and strings out of a reader. No condition of its own. -/
import Derived.Test.YtfchdibbjaeocaaJsC
namespace Go.Kx.Js
open Go.Proofs Go.Kx Go.RowKit
set_option maxRecDepth 20000
theorem wrapU32 {x : Int} (h : 0 ≤ x) (h' : x < 4294967296) : IntKind.u32.wrap x = x := by
  show x.emod 4294967296 = x
  exact Int.emod_eq_of_lt h h'
theorem ones_u8 : ∀ (l : List Int), ∀ u ∈ l.map (Value.int .u8), u.oneCell' = true := by
  intro l u hu
  obtain ⟨x, _, rfl⟩ := List.mem_map.1 hu
  rfl
theorem row_eq {t : TypeId} {n m : Nat} {xs ys : List Value} (h : xs = ys) (h2 : n = m) : SB.row t 1 n xs = SB.row t 1 m ys := by rw [h, h2]
theorem cells2 (bs : List UInt8) (a b : Int) : bCells bs ++ [.int .u8 (IntKind.u8.wrap a), .int .u8 (IntKind.u8.wrap b)] = bCells (bs ++ [by1 a, by1 b]) := by
  rw [by1_eq, by1_eq, ← bCells_append]; rfl
theorem cells3 (bs : List UInt8) (a b c : Int) : bCells bs ++ [.int .u8 (IntKind.u8.wrap a), .int .u8 (IntKind.u8.wrap b), .int .u8 (IntKind.u8.wrap c)] = bCells (bs ++ [by1 a, by1 b, by1 c]) := by
  rw [by1_eq, by1_eq, by1_eq, ← bCells_append]; rfl
theorem cells4 (bs : List UInt8) (a b c d : Int) : bCells bs ++ [.int .u8 (IntKind.u8.wrap a), .int .u8 (IntKind.u8.wrap b), .int .u8 (IntKind.u8.wrap c), .int .u8 (IntKind.u8.wrap d)] = bCells (bs ++ [by1 a, by1 b, by1 c, by1 d]) := by
  rw [by1_eq, by1_eq, by1_eq, by1_eq, ← bCells_append]; rfl
theorem nonAscii (x : Int) (h0 : 128 ≤ x) (hr : x < 1114112) (hsur : x < 55296 ∨ 57344 ≤ x) (bs : List UInt8) (hn : bs.length ≤ 1000000) (H : Hp) : CallO Try.prog 53 [.si (.ce (.self 0)), pv (.int .i32 x)] H [.row 5 1 bs.length (bCells bs)] fun e _ G' =>
    e = .ret (.si (.ce (.self 1))) ∧ G' = [.dead, .row 5 1 (bs ++ runeB x).length (bCells (bs ++ runeB x))] := by
  refine CallO.of_body tab Try.func53 rfl (nt := Try.f53.ntmps) rfl (by kernel_rfl) ?_
  (conv => whnf)
  rw [wrapU32 (by omega) (by omega)]
  refine br.of (fun h1 => ?_) (fun h1 => ?_) <;> (conv => whnf)
  · have h1 := of_decide_eq_true h1
    refine ⟨by decide, ?_⟩
    (conv => whnf)
    refine ⟨by decide, .inl ?_⟩
    intro g H2 hle hrd
    (conv => whnf)
    refine ⟨_, rfl, hrd, ones_u8 [_, _], ?_⟩
    (conv => whnf)
    refine ⟨by show _ * 2 ≤ _; omega, ?_⟩
    (conv => whnf)
    refine ⟨rfl, ?_⟩
    have e : runeB x = [by1 (or8 192 (sh32 x 6)), by1 (or8 128 (IntKind.u8.wrap (and8 (IntKind.u8.wrap x) 63)))] := by unfold runeB; rw [if_neg (by omega), if_pos h1]
    rw [e]
    exact congrArg (fun b => [SB.dead, b]) (row_eq (cells2 bs _ _) (by simp))
  · have h1 := of_decide_eq_false h1
    have go3 : ∀ {G' : List SB}, x ≤ 65535 → G' = [SB.dead, .row 5 1 (bs.length + 3) (bCells bs ++ [.int .u8 (IntKind.u8.wrap (or8 224 (sh32 x 12))), .int .u8 (IntKind.u8.wrap (or8 128 (IntKind.u8.wrap (and8 (sh32 x 6) 63)))), .int .u8 (IntKind.u8.wrap (or8 128 (IntKind.u8.wrap (and8 (IntKind.u8.wrap x) 63))))])] → G' = [.dead, .row 5 1 (bs ++ runeB x).length (bCells (bs ++ runeB x))] := by
      intro G' hx hG
      have e : runeB x = [by1 (or8 224 (sh32 x 12)), by1 (or8 128 (IntKind.u8.wrap (and8 (sh32 x 6) 63))), by1 (or8 128 (IntKind.u8.wrap (and8 (IntKind.u8.wrap x) 63)))] := by unfold runeB; rw [if_neg (by omega), if_neg h1, if_pos hx]
      rw [e, hG]
      exact congrArg (fun b => [SB.dead, b]) (row_eq (cells3 bs _ _ _) (by simp))
    refine br.of (fun h2 => ?_) (fun h2 => ?_) <;> (conv => whnf)
    · rw [h2]
      (conv => whnf)
      have h2 := of_decide_eq_true h2
      refine ⟨by decide, ?_⟩
      (conv => whnf)
      refine ⟨by decide, ?_⟩
      (conv => whnf)
      refine ⟨by decide, .inl ?_⟩
      intro g H2 hle hrd
      (conv => whnf)
      refine ⟨_, rfl, hrd, ones_u8 [_, _, _], ?_⟩
      (conv => whnf)
      refine ⟨by show _ * 2 ≤ _; omega, ?_⟩
      (conv => whnf)
      exact ⟨rfl, go3 (by omega) rfl⟩
    · have h2 := of_decide_eq_false h2
      refine br.of (fun h3 => ?_) (fun h3 => ?_) <;> (conv => whnf)
      · refine br.of (fun h4 => ?_) (fun h4 => ?_) <;> (conv => whnf)
        · have h4 := of_decide_eq_true h4
          refine ⟨by decide, ?_⟩
          (conv => whnf)
          refine ⟨by decide, ?_⟩
          (conv => whnf)
          refine ⟨by decide, .inl ?_⟩
          intro g H2 hle hrd
          (conv => whnf)
          refine ⟨_, rfl, hrd, ones_u8 [_, _, _], ?_⟩
          (conv => whnf)
          refine ⟨by show _ * 2 ≤ _; omega, ?_⟩
          (conv => whnf)
          exact ⟨rfl, go3 (by omega) rfl⟩
        · have h4 := of_decide_eq_false h4
          refine br.of (fun h5 => ?_) (fun h5 => ?_) <;> (conv => whnf)
          · refine br.of (fun h6 => ?_) (fun h6 => ?_) <;> (conv => whnf)
            · refine ⟨by decide, ?_⟩
              (conv => whnf)
              refine ⟨by decide, ?_⟩
              (conv => whnf)
              refine ⟨by decide, ?_⟩
              (conv => whnf)
              refine ⟨by decide, .inl ?_⟩
              intro g H2 hle hrd
              (conv => whnf)
              refine ⟨_, rfl, hrd, ones_u8 [_, _, _, _], ?_⟩
              (conv => whnf)
              refine ⟨by show _ * 2 ≤ _; omega, ?_⟩
              (conv => whnf)
              refine ⟨rfl, ?_⟩
              have e : runeB x = [by1 (or8 240 (sh32 x 18)), by1 (or8 128 (IntKind.u8.wrap (and8 (sh32 x 12) 63))), by1 (or8 128 (IntKind.u8.wrap (and8 (sh32 x 6) 63))), by1 (or8 128 (IntKind.u8.wrap (and8 (IntKind.u8.wrap x) 63)))] := by unfold runeB; rw [if_neg (by omega), if_neg h1, if_neg h4]
              rw [e]
              exact congrArg (fun b => [SB.dead, b]) (row_eq (cells4 bs _ _ _ _) (by simp))
            · have h6 := of_decide_eq_false h6
              omega
          · have h5 := of_decide_eq_false h5
            omega
      · have h3 := of_decide_eq_false h3
        omega
theorem appendRune (x : Int) (h0 : 0 ≤ x) (hr : x < 1114112) (hsur : x < 55296 ∨ 57344 ≤ x) (bs : List UInt8) (hn : bs.length ≤ 1000000) (H : Hp) : CallO Try.prog 51 [.si (.ce (.self 0)), pv (.int .i32 x)] H [.row 5 1 bs.length (bCells bs)] fun e _ G' =>
    e = .ret (.si (.ce (.self 1))) ∧ G' = [.dead, .row 5 1 (bs ++ runeB x).length (bCells (bs ++ runeB x))] := by
  refine CallO.of_body tab Try.func51 rfl (nt := Try.f51.ntmps) rfl (by kernel_rfl) ?_
  (conv => whnf)
  rw [wrapU32 (by omega) (by omega)]
  refine br.of (fun h1 => ?_) (fun h1 => ?_) <;> (conv => whnf)
  · have h1 := of_decide_eq_true h1
    refine ⟨by decide, .inl ?_⟩
    intro g H2 hle hrd
    (conv => whnf)
    refine ⟨_, rfl, hrd, ones_u8 [_], ?_⟩
    (conv => whnf)
    refine ⟨by show _ * 2 ≤ _; omega, ?_⟩
    (conv => whnf)
    refine ⟨rfl, ?_⟩
    have e : runeB x = [by1 x] := by unfold runeB; rw [if_pos h1]
    rw [e]
    exact congrArg (fun b => [SB.dead, b]) (row_eq (bCells_snoc bs _ (by1_eq _)) (by simp))
  · have h1 := of_decide_eq_false h1
    refine ⟨⟨_, Try.func53, rfl, by kernel_rfl⟩, CallS.use (nonAscii x (by omega) hr hsur bs hn H) [0] rfl rfl ⟨rfl, trivial⟩ ?_⟩
    rintro e H' G' hle ⟨rfl, rfl⟩
    (conv => whnf)
    exact ⟨rfl, rfl⟩
end Go.Kx.Js
