/- The cursor that draws arguments out of bytes: what is said of it is that it goes on, and between which bounds its answers lie. -/
import Derived.Test.YteiffomekjadgaaNum
import Derived.Test.YteiffomekjadgaaInts
import Derived.Laws.BitsAllLaws
namespace Go.Proofs.Yteiffomekjadgaa
set_option linter.unusedVariables false
open Go.RowKit

def uv (zs : List Int) : List Value := zs.map (.int .u8)
theorem uv_len (zs : List Int) : (uv zs).length = zs.length := by simp [uv]
theorem Rd.atu {w : World} {A : Option Addr} {n k : Nat} {zs : List Int} (h : Rd w A n (uv zs)) (hk : k < n) : ∃ b off z, A = some ⟨b, off, none⟩ ∧ zs[k]? = some z ∧ w.cell? ⟨b, off + k, none⟩ = some (.int .u8 z) := by
  obtain ⟨b, off, u, hA, hu, hc⟩ := h.at_ hk
  unfold uv at hu
  rw [List.getElem?_map, Option.map_eq_some_iff] at hu
  obtain ⟨z, hz, rfl⟩ := hu
  exact ⟨b, off, z, hA, hz, hc⟩
/-- The cursor lies in block g: the bytes, a place among them, a number. -/
structure Cur (w : World) (g : Nat) (A : Option Addr) (n c : Nat) (zs : List Int) : Prop where
  cb : w.cell? ⟨g, 0, none⟩ = some (.slice A n c)
  ci : ∃ i : Nat, i ≤ n ∧ w.cell? ⟨g, 1, none⟩ = some (.int .i64 i)
  ch : ∃ h : Int, w.cell? ⟨g, 2, none⟩ = some (.int .i64 h)
  f1 : w.frozen? ⟨g, 1, none⟩ = false
  f2 : w.frozen? ⟨g, 2, none⟩ = false
  lt : g < w.heap.size
  rd : Rd w A n (uv zs)
  far : 0 < n → ∀ ad, A = some ad → ad.block ≠ g
  le : n ≤ 1000000000
  byte : ∀ z ∈ zs, 0 ≤ z ∧ z ≤ 255
section
variable {w w' : World} {g n c : Nat} {A : Option Addr} {zs : List Int}
theorem Cur.below (h : Cur w g A n c zs) (hb : Below w.heap.size w w') : Cur w' g A n c zs where
  cb := (hb.cell (p := ⟨g, 0, none⟩) h.lt).trans h.cb
  ci := by obtain ⟨i, a, b⟩ := h.ci; exact ⟨i, a, (hb.cell (p := ⟨g, 1, none⟩) h.lt).trans b⟩
  ch := by obtain ⟨i, a⟩ := h.ch; exact ⟨i, (hb.cell (p := ⟨g, 2, none⟩) h.lt).trans a⟩
  f1 := (hb.frozen (p := ⟨g, 1, none⟩) h.lt).trans h.f1
  f2 := (hb.frozen (p := ⟨g, 2, none⟩) h.lt).trans h.f2
  lt := Nat.lt_of_lt_of_le h.lt hb.size
  rd := h.rd.below hb
  far := h.far
  le := h.le
  byte := h.byte
theorem Cur.drewN (h : Cur w g A n c zs) (k : Nat) : Cur (w.drewN k) g A n c zs := ⟨h.cb, h.ci, h.ch, h.f1, h.f2, h.lt, h.rd, h.far, h.le, h.byte⟩
theorem Rd.set_far {vs : List Value} (h : Rd w A n vs) (hb : 0 < n → ∀ ad, A = some ad → ad.block ≠ g) (k : Nat) (v : Value) : Rd (w.setCell ⟨g, k, none⟩ v) A n vs :=
  ⟨h.1, fun hn => by
    obtain ⟨b, off, e, hc⟩ := h.2 hn
    refine ⟨b, off, e, fun j u hu => ?_⟩
    rw [World.cell?_setCell_far _ _ _ _ (by intro e'; exact hb hn _ e e'.symm)]
    exact hc j u hu⟩
theorem Cur.setI (h : Cur w g A n c zs) (i : Nat) (hi : i ≤ n) {x : Int} (hx : x = (i : Int)) : Cur (w.setCell ⟨g, 1, none⟩ (.int .i64 x)) g A n c zs where
  cb := by rw [World.cell?_setCell_other _ _ _ _ (by simp)]; exact h.cb
  ci := ⟨i, hi, by subst hx; obtain ⟨j, _, b⟩ := h.ci; exact World.cell?_setCell_same' _ _ _ (by rw [b]; rfl)⟩
  ch := by obtain ⟨x, a⟩ := h.ch; exact ⟨x, by rw [World.cell?_setCell_other _ _ _ _ (by simp)]; exact a⟩
  f1 := by rw [World.frozen?_setCell]; exact h.f1
  f2 := by rw [World.frozen?_setCell]; exact h.f2
  lt := by rw [World.size_setCell]; exact h.lt
  rd := h.rd.set_far h.far 1 _
  far := h.far
  le := h.le
  byte := h.byte
theorem Cur.setH (h : Cur w g A n c zs) (x : Int) : Cur (w.setCell ⟨g, 2, none⟩ (.int .i64 x)) g A n c zs where
  cb := by rw [World.cell?_setCell_other _ _ _ _ (by simp)]; exact h.cb
  ci := by obtain ⟨i, a, b⟩ := h.ci; exact ⟨i, a, by rw [World.cell?_setCell_other _ _ _ _ (by simp)]; exact b⟩
  ch := ⟨x, by obtain ⟨y, b⟩ := h.ch; exact World.cell?_setCell_same' _ _ _ (by rw [b]; rfl)⟩
  f1 := by rw [World.frozen?_setCell]; exact h.f1
  f2 := by rw [World.frozen?_setCell]; exact h.f2
  lt := by rw [World.size_setCell]; exact h.lt
  rd := h.rd.set_far h.far 2 _
  far := h.far
  le := h.le
  byte := h.byte
end
theorem Only.refl (lo hi : Nat) (w : World) : Only lo hi w w := ⟨rfl, rfl, rfl, Nat.le_refl _, fun _ _ _ => rfl⟩
theorem Only.trans {lo hi : Nat} {a b c : World} (h : Only lo hi a b) (h' : Only lo hi b c) : Only lo hi a c :=
  ⟨h'.os.trans h.os, h'.tape.trans h.tape, h'.output.trans h.output, Nat.le_trans h.size h'.size, fun k hk hd => (h'.block k (Nat.lt_of_lt_of_le hk h.size) hd).trans (h.block k hk hd)⟩
theorem Only.of_below {lo hi : Nat} {a b : World} (h : Below a.heap.size a b) : Only lo hi a b := ⟨h.os, h.tape, h.output, h.size, fun k hk _ => h.block k hk⟩
theorem Only.drewN {lo hi : Nat} {a b : World} (h : Only lo hi a b) (k : Nat) : Only lo hi a (b.drewN k) := ⟨h.os, h.tape, h.output, h.size, h.block⟩
theorem Only.set {g : Nat} {a b : World} (h : Only g (g + 1) a b) (k : Nat) (v : Value) : Only g (g + 1) a (b.setCell ⟨g, k, none⟩ v) := by
  have hb : Below 0 (b.setCell ⟨g, k, none⟩ v) (b.setCell ⟨g, k, none⟩ v) := Below.refl _ _
  refine ⟨h.os, h.tape, h.output, by rw [World.size_setCell]; exact h.size, fun j hj hd => ?_⟩
  rw [← h.block j hj hd]
  rcases hd with hd | hd
  · exact Below.heap_setCell b ⟨g, k, none⟩ v j (by show j ≠ g; omega)
  · exact Below.heap_setCell b ⟨g, k, none⟩ v j (by show j ≠ g; omega)
theorem Only.then_below {lo hi : Nat} {a b c : World} (h : Only lo hi a b) (hb : Below a.heap.size b c) : Only lo hi a c :=
  ⟨hb.os.trans h.os, hb.tape.trans h.tape, hb.output.trans h.output, Nat.le_trans h.size hb.size, fun k hk hd => (hb.block k hk).trans (h.block k hk hd)⟩
theorem Own.onlyD {w w' : World} {e : TypeId} {B g : Nat} {A : Option Addr} {n c : Nat} {vs : List Value} (h : Own w e B A n c vs) (ho : Only g (g + 1) w w') (hg : g < B) : Own w' e B A n c vs :=
  h.keep fun j hA => by have := h.blk j (by rw [hA]; rfl); exact ho.block j this.2 (by omega)
theorem Cur.belowB {w w' : World} {g n c B : Nat} {A : Option Addr} {zs : List Int} (h : Cur w g A n c zs) (hb : Below B w w') (hg : g < B) (hA : 0 < n → ∀ ad, A = some ad → ad.block < B) : Cur w' g A n c zs where
  cb := (hb.cell (p := ⟨g, 0, none⟩) hg).trans h.cb
  ci := by obtain ⟨i, a, b⟩ := h.ci; exact ⟨i, a, (hb.cell (p := ⟨g, 1, none⟩) hg).trans b⟩
  ch := by obtain ⟨i, a⟩ := h.ch; exact ⟨i, (hb.cell (p := ⟨g, 2, none⟩) hg).trans a⟩
  f1 := (hb.frozen (p := ⟨g, 1, none⟩) hg).trans h.f1
  f2 := (hb.frozen (p := ⟨g, 2, none⟩) hg).trans h.f2
  lt := Nat.lt_of_lt_of_le h.lt hb.size
  rd := ⟨h.rd.1, fun hn => by
    obtain ⟨b, off, e, hc⟩ := h.rd.2 hn
    exact ⟨b, off, e, fun j u hu => (hb.cell (p := ⟨b, off + j, none⟩) (by exact hA hn ⟨b, off, none⟩ e)).trans (hc j u hu)⟩⟩
  far := h.far
  le := h.le
  byte := h.byte
theorem and255 (x : Int) : 0 ≤ bits .and .i64 x 255 ∧ bits .and .i64 x 255 ≤ 255 := by
  unfold bits
  have h : ((BitVec.ofInt 64 x) &&& (BitVec.ofInt 64 255)).toNat ≤ 255 := by
    rw [BitVec.toNat_and]
    exact Nat.le_trans Nat.and_le_right (by decide)
  show 0 ≤ IntKind.i64.wrap (((BitVec.ofInt 64 x) &&& (BitVec.ofInt 64 255)).toNat : Int) ∧ IntKind.i64.wrap (((BitVec.ofInt 64 x) &&& (BitVec.ofInt 64 255)).toNat : Int) ≤ 255
  rw [IntWalk.i64_in _ (by omega)]
  omega

/-- A new cursor. -/
def RetCur (A : Option Addr) (n c : Nat) (zs : List Int) (w : World) (e : Ending) (w' : World) : Prop :=
  ∃ g, w.heap.size ≤ g ∧ e = .returned (.pointer (some ⟨g, 0, none⟩)) ∧ Cur w' g A n c zs ∧ Below w.heap.size w w'
/-- A number that has been drawn. -/
def RetD (lo hi : Int) (g : Nat) (A : Option Addr) (n c : Nat) (zs : List Int) (w : World) (e : Ending) (w' : World) : Prop :=
  ∃ x : Int, lo ≤ x ∧ x ≤ hi ∧ e = .returned (.int .i64 x) ∧ Cur w' g A n c zs ∧ Only g (g + 1) w w'

theorem RetCur.new {A : Option Addr} {n c : Nat} {zs : List Int} {w : World} (h : Rd w A n (uv zs)) (hn : n ≤ 1000000000) (hz : ∀ z ∈ zs, 0 ≤ z ∧ z ≤ 255) (H : Int) :
    RetCur A n c zs w (.returned (.pointer (some ⟨w.heap.size, 0, none⟩))) (w.alloc (.cells #[.slice A n c, .int .i64 0, .int .i64 H] 70)) := by
  refine ⟨w.heap.size, Nat.le_refl _, rfl, ?_, (Below.refl _ _).alloc (Nat.le_refl _) _⟩
  refine ⟨?_, ⟨0, Nat.zero_le _, ?_⟩, ⟨H, ?_⟩, ?_, ?_, by simp, h.alloc _, fun hn ad e he => ?_, hn, hz⟩
  · rw [World.cell?_alloc_new]; rfl
  · rw [World.cell?_alloc_new]; rfl
  · rw [World.cell?_alloc_new]; rfl
  · simp [go_sem]
  · simp [go_sem]
  · have := h.lt hn ad e
    omega

set_option maxRecDepth 20000 in
set_option maxHeartbeats 2000000 in
theorem l1New_any (A : Option Addr) (n c : Nat) (zs : List Int) (w : World) (h : Rd w A n (uv zs)) (hn : n ≤ 1000000000) (hz : ∀ z ∈ zs, 0 ≤ z ∧ z ≤ 255) :
    Calls Try.prog 47 #[.slice A n c] w (RetCur A n c zs w) := by
  have HR := Lib.hid h
  have HZ := Lib.hid hz
  clear h hz
  go_enter Try.func47, Try.ntmps47
  go_wp2_with fail
  go_loop [3, 4] (fun hv ix => ∃ (i : Nat) (H : Int), i ≤ n ∧ ix = .int .i64 i ∧ hv = .int .i64 H) (fun _ ix => n - (intOf ix).toNat)
  case atStart => exact ⟨0, _, Nat.zero_le _, rfl, rfl⟩
  case round =>
    obtain ⟨i, H, hi, rfl, rfl⟩ := hrel
    by_cases h1 : i < n
    · by_cases h2 : i < 4000
      · obtain ⟨b, off, z, rfl, hz, hc⟩ := HR.out.atu h1
        have hzb := HZ.out z (List.mem_of_getElem? hz)
        have i1 : (0 : Int) ≤ (i : Int) := by omega
        have i2 : (i : Int) < (n : Int) := by omega
        have i3 : (i : Int) < 4000 := by omega
        clear hz
        go_wp2_with fail
        go_round
        case rel => exact ⟨i + 1, _, by omega, by go_num, rfl⟩
        case measure => simp [intOf]; omega
      · have i2 : (i : Int) < (n : Int) := by omega
        have i3 : ¬ (i : Int) < 4000 := by omega
        go_wp2_with fail
        go_ret
        exact RetCur.new HR.out hn HZ.out _
    · go_wp2_with fail
      go_ret
      exact RetCur.new HR.out hn HZ.out _

set_option maxRecDepth 20000 in
set_option maxHeartbeats 2000000 in
theorem l1Byte_any (g : Nat) (A : Option Addr) (n c : Nat) (zs : List Int) (w : World) (h : Cur w g A n c zs) :
    Calls Try.prog 109 #[.pointer (some ⟨g, 0, none⟩)] w (RetD 0 255 g A n c zs w) := by
  have HC := Lib.hid h
  obtain ⟨cb, ⟨i0, hi0, ci⟩, ⟨H, ch⟩, f1, f2, lt, rd, far, le, byte⟩ := h
  have HR := Lib.hid rd
  have HZ := Lib.hid byte
  have HFAR := Lib.hid far
  clear rd byte far
  go_enter Try.func109, Try.ntmps109
  go_wp2_with fail
  generalize wrap64 (wrap64 (H * 6364136223846793005) + 1442695040888963407) = H2
  have C2 := HC.out.setH H2
  have O2 := (Only.refl g (g + 1) w).set 2 (.int .i64 H2)
  generalize w.setCell ⟨g, 2, none⟩ (.int .i64 H2) = w2 at C2 O2 ⊢
  clear cb ci ch f1 f2 lt
  have HC2 := Lib.hid C2
  obtain ⟨cb, ⟨i, hi, ci⟩, ⟨H3, ch⟩, f1, f2, lt, rd, far, le2, byte⟩ := C2
  have HR2 := Lib.hid rd
  clear rd byte far
  go_quiet (fail)
  go_wp2_with fail
  have hX := and255 (bits .xor .i64 (H3 / 8589934592) (H3 / 35184372088832))
  generalize bits .and .i64 (bits .xor .i64 (H3 / 8589934592) (H3 / 35184372088832)) 255 = X at hX ⊢
  have HO2 := Lib.hid O2
  by_cases hlt : i < n
  · obtain ⟨b, off, z, rfl, hz, hcz⟩ := HR2.out.atu hlt
    have hzb := HZ.out z (List.mem_of_getElem? hz)
    have i1 : (0 : Int) ≤ (i : Int) := by omega
    have i2 : (i : Int) < (n : Int) := by omega
    have u1 : IntKind.i64.wrap (X + z) = X + z := IntWalk.i64_in _ (by omega)
    have u2 : IntKind.i64.wrap ((i : Int) + 1) = (i : Int) + 1 := IntWalk.i64_in _ (by omega)
    clear hz O2
    go_quiet (fail)
    go_wp2_with fail
    go_quiet (fail)
    go_wp2_with fail
    have hY := and255 (X + z)
    generalize bits .and .i64 (X + z) 255 = Y at hY ⊢
    go_ret
    exact ⟨Y, hY.1, hY.2, rfl, (HC2.out.drewN _).setI (i + 1) (by omega) (by omega), (HO2.out.drewN _).set 1 _⟩
  · have i2 : ¬ (i : Int) < (n : Int) := by omega
    clear O2
    go_quiet (fail)
    go_wp2_with fail
    go_ret
    exact ⟨X, hX.1, hX.2, rfl, HC2.out.drewN _, HO2.out.drewN _⟩

set_option maxRecDepth 20000 in
set_option maxHeartbeats 2000000 in
theorem l1Below_any (m : Nat) (hm1 : 1 ≤ m) (hm2 : m ≤ 256) (g : Nat) (A : Option Addr) (n c : Nat) (zs : List Int) (w : World) (h : Cur w g A n c zs) :
    Calls Try.prog 73 #[.pointer (some ⟨g, 0, none⟩), .int .i64 m] w (RetD 0 ((m : Int) - 1) g A n c zs w) := by
  have HC := Lib.hid h
  clear h
  have h1 : ¬ (m : Int) ≤ 0 := by omega
  have h2 : (m : Int) ≤ 256 := by omega
  have n0 : ((m : Int) == 0) = false := by rw [beq_eq_false_iff_ne]; omega
  have n0' : ¬ (m : Int) = 0 := by omega
  have n0'' : ¬ m = 0 := by omega
  go_enter Try.func73, Try.ntmps73
  go_wp2_with fail
  refine (l1Byte_any _ _ _ _ _ _ HC.out).mono ?_
  rintro e w1 ⟨x, hx0, hx1, rfl, hc, ho⟩
  have C1 := Lib.hid hc
  have O1 := Lib.hid ho
  obtain ⟨y, hy⟩ : ∃ y, y = x % (m : Int) := ⟨_, rfl⟩
  have hy2 : 0 ≤ y ∧ y < m := by rw [hy]; exact ⟨Int.emod_nonneg _ (by omega), Int.emod_lt_of_pos _ (by omega)⟩
  have m1 : Int.tmod x (m : Int) = y := by rw [hy, Int.tmod_eq_emod_of_nonneg hx0]
  have m2 : x % (m : Int) = y := hy.symm
  have u1 : IntKind.i64.wrap y = y := IntWalk.i64_in _ (by omega)
  clear hc ho hy
  go_wp2_with fail
  go_ret
  exact ⟨y, hy2.1, by omega, rfl, C1.out, O1.out⟩

/-- A bool that has been drawn. -/
def RetDB (g : Nat) (A : Option Addr) (n c : Nat) (zs : List Int) (w : World) (e : Ending) (w' : World) : Prop :=
  ∃ x : Bool, e = .returned (.bool x) ∧ Cur w' g A n c zs ∧ Only g (g + 1) w w'
set_option maxRecDepth 20000 in
set_option maxHeartbeats 2000000 in
theorem l1Once_any (m : Nat) (hm1 : 1 ≤ m) (hm2 : m ≤ 256) (g : Nat) (A : Option Addr) (n c : Nat) (zs : List Int) (w : World) (h : Cur w g A n c zs) :
    Calls Try.prog 92 #[.pointer (some ⟨g, 0, none⟩), .int .i64 m] w (RetDB g A n c zs w) := by
  have HC := Lib.hid h
  clear h
  go_enter Try.func92, Try.ntmps92
  go_wp2_with fail
  refine (l1Below_any m hm1 hm2 _ _ _ _ _ _ HC.out).mono ?_
  rintro e w1 ⟨x, hx0, hx1, rfl, hc, ho⟩
  have C1 := Lib.hid hc
  have O1 := Lib.hid ho
  clear hc ho
  go_wp2_with fail
  go_ret
  exact ⟨_, rfl, C1.out, O1.out⟩

/-- A text that has been drawn. -/
def RetDS (p : List UInt8 → Prop) (g : Nat) (A : Option Addr) (n c : Nat) (zs : List Int) (w : World) (e : Ending) (w' : World) : Prop :=
  ∃ l : List UInt8, p l ∧ e = .returned (.string (bs l)) ∧ Cur w' g A n c zs ∧ Only g (g + 1) w w'

end Go.Proofs.Yteiffomekjadgaa
