/- Rings of keys, on: keys. No condition of its own. -/
import Derived.Test.YtjpjpdmceliofaaDoorRingB
namespace Go.Kx.Ring
open Go.Proofs Go.Kx Go.Kx.Sha Go.Kx.Lb
set_option maxRecDepth 20000

/-- A key's own info. -/
def infoB (kid : ByteArray) : List UInt8 := ([107, 105, 100, 58] : List UInt8) ++ kid.data.toList
theorem info_cells (kid : ByteArray) : byteCells ((⟨#[107, 105, 100, 58]⟩ : ByteArray) ++ kid) = bCells (infoB kid) := by
  rw [byteCells_map]
  unfold infoB bCells
  rw [ByteArray.data_append, Array.toList_append, List.map_map]; rfl
theorem info_size (kid : ByteArray) : ((⟨#[107, 105, 100, 58]⟩ : ByteArray) ++ kid).size = (infoB kid).length := by
  show ((⟨#[107, 105, 100, 58]⟩ : ByteArray) ++ kid).data.toList.length = _
  rw [ByteArray.data_append, Array.toList_append]; rfl
theorem secret_ (ms : List UInt8) (A : Option Addr) (n cap : Nat) (count : Int) (kid : ByteArray) (H : Hp) (hb : BytesAt H A n ms) (hn : n ≤ 1000000) (hk : kid.size ≤ 100) : CallO Tryd.prog 25 [.si (.ce (.ptr 0 0)), pv (.string kid)] H [ringB A n cap count] fun e _ G' =>
    e = .ret (.si (.ce (.self 1))) ∧ G' = [ringB A n cap count, .row 5 1 32 (bCells (hkdf ms (infoB kid)))] := by
  refine CallO.of_body tab Tryd.func25 rfl (nt := Tryd.f25.ntmps) rfl (by kernel_rfl) ?_
  conv => whnf
  refine ⟨by show 4 + _ ≤ _; omega, ?_⟩
  conv => whnf
  have hsz := info_size kid
  have hsl : (infoB kid).length = 4 + kid.size := by unfold infoB; rw [List.length_append]; rfl
  intro g c H2 hle hc hrd
  rw [info_cells] at hrd
  conv => whnf
  refine ⟨⟨_, Tryd.func39, rfl, by kernel_rfl⟩, CallS.use (expand ms (infoB kid) A (some ⟨g, 0, none⟩) n cap _ c H2 (hb.mono hle) (BytesAt.lit hsz hrd) hn (by omega)) [] rfl rfl trivial ?_⟩
  rintro e H3 G' hle2 ⟨rfl, rfl⟩
  conv => whnf
  exact ⟨rfl, rfl⟩
theorem key_ (ms : List UInt8) (A : Option Addr) (n cap : Nat) (count : Int) (kid : ByteArray) (H : Hp) (hE : ErrH H) (hc : 1 ≤ count) (hc2 : count ≤ 1099511627776) (hb : BytesAt H A n ms) (hn : n ≤ 1000000) (hk : kid.size ≤ 100) :
    CallO Tryd.prog 12 [.si (.ce (.ptr 0 0)), pv (.string kid)] H [ringB A n cap count] fun e _ G' =>
    ∃ m, NumIs count kid m ∧ (m = 0 → e = .ret (.tu [.ce (.val (.slice none 0 0)), .ce (.val (.int .i64 41))]) ∧ G' = [ringB A n cap count]) ∧
      (m ≠ 0 → e = .ret (.tu [.ce (.self 1), .ce (.val (.int .i64 0))]) ∧ G' = [ringB A n cap count, .row 5 1 32 (bCells (hkdf ms (infoB kid)))]) := by
  refine CallO.of_body tab Tryd.func12 rfl (nt := Tryd.f12.ntmps) rfl (by kernel_rfl) ?_
  conv => whnf
  refine ⟨⟨_, Tryd.func24, rfl, by kernel_rfl⟩, CallS.use (number_ A n cap count kid hk hc hc2 H hE) [0] rfl rfl ⟨rfl, trivial⟩ ?_⟩
  rintro e H2 G' hle ⟨m, hm, rfl, rfl, rfl⟩
  conv => whnf
  refine br.of (fun h1 => ?_) (fun h1 => ?_) <;> conv => whnf
  · simp only [beq_iff_eq] at h1
    exact ⟨m, hm, fun _ => ⟨rfl, rfl⟩, fun h => absurd h1 h⟩
  · simp only [beq_eq_false_iff_ne, ne_eq] at h1
    refine ⟨⟨_, Tryd.func25, rfl, by kernel_rfl⟩, CallS.use (secret_ ms A n cap count kid H2 hb hn hk) [0] rfl rfl ⟨rfl, trivial⟩ ?_⟩
    rintro e H3 G' hle2 ⟨rfl, rfl⟩
    conv => whnf
    exact ⟨m, hm, fun h => absurd h h1, fun _ => ⟨rfl, rfl⟩⟩
end Go.Kx.Ring
