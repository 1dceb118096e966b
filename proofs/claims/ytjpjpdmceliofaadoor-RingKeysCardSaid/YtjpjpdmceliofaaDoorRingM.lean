/- RingOwn walked: the master that was handed in isn't kept, and a key that is told is its own. No condition of its own. -/
import Derived.Test.YtjpjpdmceliofaaDoorRingL
namespace Go.Kx.Ring
open Go.Proofs Go.Kx Go.Kx.Sha Go.Kx.Lb
set_option maxRecDepth 20000
namespace Law
theorem k2 : kidB 2 = ⟨#[107, 50]⟩ := by
  unfold kidB
  rw [show (2 : Int) = ((2 : Nat) : Int) from rfl, Ref14.itoaB_one 2 (by decide)]
  rfl
theorem numK2 {m : Int} (h : NumIs 3 ⟨#[107, 50]⟩ m) : m ≠ 0 := by
  have := h.2 2 (by decide) (by decide) k2.symm
  omega
theorem strEq_self (b : ByteArray) : strEq b b = true := strEq_iff.2 rfl
def strOf (l : List UInt8) : ByteArray := ⟨l.toArray⟩
theorem cells_str (l : List UInt8) : bCells l = byteCells (strOf l) := by
  rw [byteCells_map]
  unfold bCells strOf
  rw [List.map_map]; rfl
theorem keyO (ms : List UInt8) (n : Nat) (kid : ByteArray) (H : Hp) (hb : n = ms.length) (hn : n ≤ 100000) (hk : kid.size ≤ 100) : CallO Tryd.prog 13 [.si (.ce (.self 0)), pv (.string kid)] H [.row 5 1 n (bCells ms)] fun e _ G' =>
    e = .ret (.si (.ce (.self 1))) ∧ G' = [.dead, .row 5 1 32 (bCells (hkdf ms (infoB kid)))] := by
  refine CallO.eat 0 (t := 5) (sz := 1) (n := n) (xs := bCells ms) rfl (fun h0 => by have : ms = [] := List.eq_nil_of_length_eq_zero (by omega); rw [this]; rfl) ?_
  intro x H2 hle hfr
  obtain ⟨A, cap, rfl, hb⟩ := BytesAt.of_frozen hb hfr
  refine (CallS.use (Ref14.key ms A n cap kid H2 hb hn hk) [] rfl rfl trivial ?_).to
  rintro e H' G' hle ⟨rfl, rfl⟩
  conv => whnf
  exact ⟨rfl, rfl⟩
theorem ringOwn (c : UInt8) (H : Hp) (hE : ErrH H) : CallO Tryd.prog 4 [pv (.int .u8 c.toNat)] H [] fun e _ _ => e = .ret (pv (.bool true)) := by
  refine CallO.of_body tab Tryd.func4 rfl (nt := Tryd.f4.ntmps) rfl (by kernel_rfl) ?_
  conv => whnf
  refine ⟨⟨_, Tryd.func6, rfl, by kernel_rfl⟩, CallS.use (anchor H) [] rfl rfl trivial ?_⟩
  rintro e H2 G' hle ⟨rfl, rfl⟩
  conv => whnf
  refine ⟨⟨_, Tryd.func14, rfl, by kernel_rfl⟩, CallS.use (master c H2) [] rfl rfl trivial ?_⟩
  rintro e H3 G' hle2 ⟨rfl, rfl, rfl⟩
  conv => whnf
  refine ⟨⟨_, Tryd.func7, rfl, by kernel_rfl⟩, CallS.use (newO (mst c) 32 3 H3 rfl (by decide) (by decide) (by decide) (by decide)) [0] rfl rfl ⟨rfl, trivial⟩ ?_⟩
  rintro e H4 G' hle3 ⟨rfl, B, m, cp, hb, rfl⟩
  conv => whnf
  refine ⟨by decide, ?_⟩
  conv => whnf
  refine ⟨.int .u8 c.toNat, rfl, ?_⟩
  conv => whnf
  refine ⟨by decide, ?_⟩
  conv => whnf
  refine ⟨Nat.le_of_ble_eq_true rfl, ?_⟩
  conv => whnf
  refine ⟨⟨_, Tryd.func12, rfl, by kernel_rfl⟩, CallS.use (key_ (mst c) B m cp 3 ⟨#[107, 50]⟩ H4 (hE.mono ((hle.trans hle2).trans hle3)) (by decide) (by decide) hb (by rw [hb.1]; show 32 ≤ _; decide) (by decide)) [1] rfl rfl ⟨rfl, trivial⟩ ?_⟩
  rintro e H5 G' hle4 ⟨q, hq, -, hq2⟩
  obtain ⟨rfl, rfl⟩ := hq2 (numK2 hq)
  conv => whnf
  refine ⟨by decide, ?_⟩
  conv => whnf
  have hlen : (hkdf (mst c) (infoB ⟨#[107, 50]⟩)).length = 32 := hkdf_length _ _
  generalize hK : hkdf (mst c) (infoB ⟨#[107, 50]⟩) = K at *
  obtain ⟨b0, K2, rfl⟩ : ∃ b r, K = b :: r := by
    cases K with
    | nil => simp at hlen
    | cons b r => exact ⟨b, r, rfl⟩
  refine ⟨.int .u8 b0.toNat, rfl, ?_⟩
  conv => whnf
  refine ⟨by decide, ?_⟩
  conv => whnf
  refine ⟨by show 0 * 1 + 1 ≤ (bCells (b0 :: K2)).length; rw [bCells_length, hlen]; decide, ?_⟩
  conv => whnf
  refine ⟨⟨_, Tryd.func12, rfl, by kernel_rfl⟩, CallS.use (key_ (mst c) B m cp 3 ⟨#[107, 50]⟩ H5 (hE.mono (((hle.trans hle2).trans hle3).trans hle4)) (by decide) (by decide) (hb.mono hle4) (by rw [hb.1]; show 32 ≤ _; decide) (by decide)) [1] rfl rfl ⟨rfl, trivial⟩ ?_⟩
  rintro e H6 G' hle5 ⟨q2, hq3, -, hq4⟩
  obtain ⟨rfl, rfl⟩ := hq4 (numK2 hq3)
  rw [hK]
  conv => whnf
  refine WS.draw tab mixed (.take 0 (.take 1 (.take 2 (.take 3 (.take 4 (.take 5 (.alt 6 (.alt 7 (.alt 8 (.take 9 (.take 10 (.take 11 .done))) .no) .no) .no))))))) (by kernel_rfl) [] ?_
  conv => whnf
  refine ⟨strOf (b0 :: K2), cells_str _, ?_⟩
  conv => whnf
  repeat' (first
    | exact trivial
    | exact ⟨_, Tryd.func14, rfl, by kernel_rfl⟩
    | exact ⟨_, Tryd.func13, rfl, by kernel_rfl⟩
    | (refine CallS.use (master c _) [] rfl rfl trivial ?_; rintro e H7 G' hle6 ⟨rfl, rfl, rfl⟩; conv => whnf)
    | (refine CallS.use (keyO (mst c) 32 ⟨#[107, 50]⟩ _ rfl (by decide) (by decide)) [4] rfl rfl ⟨rfl, trivial⟩ ?_; rintro e H8 G' hle7 ⟨rfl, rfl⟩; rw [hK]; conv => whnf)
    | (refine ⟨strOf (b0 :: K2), cells_str _, ?_⟩; conv => whnf)
    | exact ⟨rfl, rfl, rfl, rfl, trivial⟩
    | (refine And.intro ?_ ?_ <;> conv => whnf))
  show SE.ret (pv (.bool (strEq _ _))) = _
  rw [strEq_self]
end Law
end Go.Kx.Ring
