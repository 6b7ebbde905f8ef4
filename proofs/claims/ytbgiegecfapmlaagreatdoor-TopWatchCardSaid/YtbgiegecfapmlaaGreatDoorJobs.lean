/- Rows of jobs: heavy, All, End; conditions: the library's tables as its text lays them. -/
import Derived.Test.YtbgiegecfapmlaaGreatDoorJob
namespace Go.Proofs.YtbgiegecfapmlaaGreatDoor
open Go.RowKit
set_option linter.unusedVariables false
set_option linter.unusedSimpArgs false
theorem Row.below {α : Type} {cf : α → List Value} {size : Nat} {w wr : World} {A : Option Addr} {n : Nat} {xs : List α} (h : Row cf size w A n xs) (hb : Below w.heap.size w wr) : Row cf size wr A n xs := by
  refine ⟨h.1, h.2.1, fun hn => ?_⟩
  obtain ⟨b, off, hA, hlt, hc⟩ := h.2.2 hn
  refine ⟨b, off, hA, Nat.lt_of_lt_of_le hlt hb.size, fun i x hx j v hv => ?_⟩
  rw [World.cell?_of_block (a := ⟨b, off + i * size + j, none⟩) (hb.block b hlt)]
  exact hc i x hx j v hv
namespace Job
open Rob (J)
theorem cells8 {w : World} {A : Option Addr} {n : Nat} {js : List J} (h : Row jc 8 w A n js) {k : Nat} (hk : k < n) :
    ∃ b off x, A = some ⟨b, off, none⟩ ∧ js[k]? = some x ∧ b < w.heap.size ∧ w.cell? ⟨b, off + k * 8, none⟩ = some (.string x.nm) ∧ w.cell? ⟨b, off + k * 8 + 1, none⟩ = some (.int .i64 x.rel) ∧
      w.cell? ⟨b, off + k * 8 + 2, none⟩ = some (.int .i64 x.dl) ∧ w.cell? ⟨b, off + k * 8 + 3, none⟩ = some (.int .i64 x.bud) ∧ w.cell? ⟨b, off + k * 8 + 4, none⟩ = some (.int .i64 x.act) ∧
      w.cell? ⟨b, off + k * 8 + 5, none⟩ = some (.int .i64 x.val) ∧ w.cell? ⟨b, off + k * 8 + 6, none⟩ = some (.int .i64 x.cln) ∧ w.cell? ⟨b, off + k * 8 + 7, none⟩ = some (.bool x.hard) := by
  obtain ⟨b, off, x, hA, hx, hlt, hc⟩ := h.at_ (Below.refl _ _) hk
  exact ⟨b, off, x, hA, hx, hlt, hc 0 _ rfl, hc 1 _ rfl, hc 2 _ rfl, hc 3 _ rfl, hc 4 _ rfl, hc 5 _ rfl, hc 6 _ rfl, hc 7 _ rfl⟩
def heavy1 (e : Int) (j : J) : Bool := decide (100 < j.nm.size) || (decide (e < j.dl) && decide (j.dl ≤ 10000))
def heavy (js : List J) (m : Nat) (e : Int) : Bool := decide (m < js.length) || js.any (heavy1 e)
theorem any_false {js : List J} {e : Int} {i : Nat} (h : ∀ k x, k < i → js[k]? = some x → heavy1 e x = false) (hi : js.length ≤ i) : js.any (heavy1 e) = false := by
  rw [List.any_eq_false]
  intro x hx
  obtain ⟨k, hk, rfl⟩ := List.getElem_of_mem hx
  rw [h k _ (by omega) (List.getElem?_eq_getElem hk)]
  simp
theorem any_true {js : List J} {e : Int} {i : Nat} {x : J} (hx : js[i]? = some x) (h : heavy1 e x = true) : js.any (heavy1 e) = true := by
  rw [List.any_eq_true]
  exact ⟨x, List.mem_of_getElem? hx, h⟩
set_option maxRecDepth 100000 in
set_option maxHeartbeats 4000000 in
theorem heavy_is {w : World} {A : Option Addr} {n c : Nat} {js : List J} (R : Row jc 8 w A n js) (m : Nat) (e : Int) :
    Calls Tryz.prog 21 #[.slice A n c, .int .i64 (m : Int), .int .i64 e] w fun en w' => en = .returned (.bool (heavy js m e)) ∧ w' = w := by
  have hl := R.1
  have hml := R.2.1
  unfold maxLen at hml
  have HR := Lib.hid R
  obtain ⟨H, hH⟩ : ∃ b, heavy js m e = b := ⟨_, rfl⟩
  rw [hH]
  unfold heavy at hH
  have HH := Lib.hid hH
  have HL := Lib.hid hl
  have HML := Lib.hid hml
  clear R hH hl hml
  by_cases hm : m < n
  · have e1 : H = true := by rw [← HH.out, HL.out]; simp [hm]
    have hmi : (m : Int) < (n : Int) := by omega
    subst e1
    clear hm
    go_enter Tryz.func21, Tryz.ntmps21
    go_wp2_with fail
    go_ret
    exact ⟨rfl, rfl⟩
  · have e1 : H = js.any (heavy1 e) := by rw [← HH.out, HL.out]; simp [hm]
    have hmi : ¬ (m : Int) < (n : Int) := by omega
    have E1 := Lib.hid e1
    clear hm e1 HH
    go_enter Tryz.func21, Tryz.ntmps21
    go_wp2_with fail
    go_loopw [7] (fun v wr => ∃ i : Nat, i ≤ n ∧ v = .int .i64 (i : Int) ∧ wr = w ∧ ∀ k x, k < i → js[k]? = some x → heavy1 e x = false) (fun v _ => n - (intOf v).toNat)
    case atStart => exact ⟨0, by omega, rfl, rfl, fun k x hk => by omega⟩
    case round =>
      obtain ⟨i, hi, rfl, rfl, hno⟩ := hrel
      have HNO := Lib.hid hno
      clear hno
      by_cases hlt : i < n
      · have hlti : (i : Int) < (n : Int) := by omega
        obtain ⟨b, off, x, rfl, hx, hb, c0, c1, c2, c3, c4, c5, c6, c7⟩ := cells8 HR.out hlt
        clear c1 c3 c4 c5 c6 c7 hb
        have hi0 : (0 : Int) ≤ (i : Int) := by omega
        have HML2 := HML.out
        have hi1 : (i : Int) + 1 ≤ 9223372036854775807 := by omega
        by_cases h1 : 100 < x.nm.size
        · have h1i : (100 : Int) < (x.nm.size : Int) := by omega
          have F : Hid (H = true) := Lib.hid (by rw [E1.out]; exact any_true hx (by unfold heavy1; simp [h1]))
          clear h1 HML2
          go_wp2_with fail
          go_ret
          exact ⟨by rw [F.out]; rfl, rfl⟩
        · have h1i : ¬ (100 : Int) < (x.nm.size : Int) := by omega
          by_cases h2 : e < x.dl
          · by_cases h3 : x.dl ≤ 10000
            · have F : Hid (H = true) := Lib.hid (by rw [E1.out]; exact any_true hx (by unfold heavy1; simp [h2, h3]))
              clear h1 HML2
              go_wp2_with fail
              go_ret
              exact ⟨by rw [F.out]; rfl, rfl⟩
            · have F : Hid (heavy1 e x = false) := Lib.hid (by unfold heavy1; simp; omega)
              clear h1 HML2
              go_wp2_with fail
              go_roundw
              case rel => exact ⟨i + 1, by omega, by simp, by simp, fun k y hk hy => by
                by_cases hki : k = i
                · subst hki; rw [hx] at hy; cases hy; exact F.out
                · exact HNO.out k y (by omega) hy⟩
              case measure => simp [intOf]; omega
          · have F : Hid (heavy1 e x = false) := Lib.hid (by unfold heavy1; simp; omega)
            clear h1 HML2
            go_wp2_with fail
            go_roundw
            case rel => exact ⟨i + 1, by omega, by simp, by simp, fun k y hk hy => by
                by_cases hki : k = i
                · subst hki; rw [hx] at hy; cases hy; exact F.out
                · exact HNO.out k y (by omega) hy⟩
            case measure => simp [intOf]; omega
      · have hlti : ¬ (i : Int) < (n : Int) := by omega
        have F : Hid (H = false) := Lib.hid (by rw [E1.out]; exact any_false HNO.out (by rw [HL.out]; omega))
        go_wp2_with fail
        go_ret
        exact ⟨by rw [F.out]; rfl, rfl⟩
set_option maxRecDepth 100000 in
set_option maxHeartbeats 4000000 in
theorem notgood_is (j : J) (w : World) (T : Tabs w) (hs : j.nm.size < 4611686018427387904) :
    Calls Tryz.prog 57 #[jv j] w fun e w' => e = .returned (.bool (!good j)) ∧ Below w.heap.size w w' := by
  have X := Blk.new w 36 (jc j)
  have B := (Below.refl w.heap.size w).alloc (Nat.le_refl _) (.cells (jc j).toArray 36)
  have C := fun W (h : Tabs W) => good_is j W h hs
  obtain ⟨G, hG⟩ : ∃ b, good j = b := ⟨_, rfl⟩
  rw [hG] at C ⊢
  have HC := Lib.hid C
  have HT := Lib.hid (T.below B)
  clear hG C T hs
  unfold jv at HC ⊢
  have x0 := X.cellAt (i := 0) rfl
  have x1 := X.cellAt (i := 1) rfl
  have x2 := X.cellAt (i := 2) rfl
  have x3 := X.cellAt (i := 3) rfl
  have x4 := X.cellAt (i := 4) rfl
  have x5 := X.cellAt (i := 5) rfl
  have x6 := X.cellAt (i := 6) rfl
  have x7 := X.cellAt (i := 7) rfl
  unfold jc at B HT x0 x1 x2 x3 x4 x5 x6 x7
  clear X
  go_enter Tryz.func57, Tryz.ntmps57
  go_wp2_with (go_at_call 25; refine (HC.out _ HT.out).mono ?_; rintro e w2 ⟨rfl, hb⟩)
  go_ret
  exact ⟨rfl, B.trans (hb.mono (by simp))⟩
theorem all_false {js : List J} {i : Nat} {x : J} (hx : js[i]? = some x) (h : good x = false) : js.all good = false := by
  rw [List.all_eq_false]
  exact ⟨x, List.mem_of_getElem? hx, by rw [h]; simp⟩
theorem all_true {js : List J} {i : Nat} (h : ∀ k x, k < i → js[k]? = some x → good x = true) (hi : js.length ≤ i) : js.all good = true := by
  rw [List.all_eq_true]
  intro x hx
  obtain ⟨k, hk, rfl⟩ := List.getElem_of_mem hx
  exact h k _ (by omega) (List.getElem?_eq_getElem hk)
set_option maxRecDepth 100000 in
set_option maxHeartbeats 4000000 in
theorem index_is {w : World} {A : Option Addr} {n c : Nat} {js : List J} (T : Tabs w) (R : Row jc 8 w A n js) (hs : ∀ x ∈ js, x.nm.size < 4611686018427387904) :
    Calls Tryz.prog 103 #[.slice A n c, .func (.func 57) #[] #[]] w fun en w' => (∃ k : Int, en = .returned (.int .i64 k) ∧ decide (0 ≤ k) = !js.all good) ∧ Below w.heap.size w w' := by
  have hl := R.1
  have hml := R.2.1
  unfold maxLen at hml
  have HR := Lib.hid R
  have HT := Lib.hid T
  have HS := Lib.hid hs
  have HL := Lib.hid hl
  have HML := Lib.hid hml
  clear R hl hml T hs
  go_enter Tryz.func103, Tryz.ntmps103
  go_wp2_with fail
  go_loopw [8] (fun v wr => ∃ i : Nat, i ≤ n ∧ v = .int .i64 (i : Int) ∧ Below w.heap.size w wr ∧ ∀ k x, k < i → js[k]? = some x → good x = true) (fun v _ => n - (intOf v).toNat)
  case atStart => exact ⟨0, by omega, rfl, Below.refl _ _, fun k x hk => by omega⟩
  case round =>
    obtain ⟨i, hi, rfl, B, hno⟩ := hrel
    have HNO := Lib.hid hno
    clear hno
    by_cases hlt : i < n
    · have hlti : (i : Int) < (n : Int) := by omega
      have TW := HT.out.below B
      obtain ⟨b, off, x, rfl, hx, hb, c0, c1, c2, c3, c4, c5, c6, c7⟩ := cells8 (HR.out.below B) hlt
      have hi0 : (0 : Int) ≤ (i : Int) := by omega
      have HML2 := HML.out
      have hi1 : (i : Int) + 1 ≤ 9223372036854775807 := by omega
      have C := notgood_is x wr TW (HS.out x (List.mem_of_getElem? hx))
      have HX := Lib.hid hx
      unfold jv at C
      have hszz := Lib.hid B.size
      clear TW hb hx HML2
      cases hg : good x with
      | true =>
        rw [hg] at C
        have HG := Lib.hid hg
        clear hg
        go_wp2_with (go_at_call 57; refine C.mono ?_; rintro e w2 ⟨rfl, hb⟩)
        go_roundw
        case rel => exact ⟨i + 1, by omega, by simp, B.trans (hb.mono hszz.out), fun k y hk hy => by
          by_cases hki : k = i
          · subst hki; rw [HX.out] at hy; cases hy; exact HG.out
          · exact HNO.out k y (by omega) hy⟩
        case measure => simp [intOf]; omega
      | false =>
        rw [hg] at C
        have F : Hid (js.all good = false) := Lib.hid (all_false HX.out hg)
        clear hg
        go_wp2_with (go_at_call 57; refine C.mono ?_; rintro e w2 ⟨rfl, hb⟩)
        go_ret
        exact ⟨⟨(i : Int), rfl, by rw [F.out]; simp⟩, B.trans (hb.mono hszz.out)⟩
    · have hlti : ¬ (i : Int) < (n : Int) := by omega
      have F : Hid (js.all good = true) := Lib.hid (all_true HNO.out (by rw [HL.out]; omega))
      go_wp2_with fail
      go_ret
      exact ⟨⟨-1, rfl, by rw [F.out]; rfl⟩, B⟩
theorem contains_is {w : World} {A : Option Addr} {n c : Nat} {js : List J} (T : Tabs w) (R : Row jc 8 w A n js) (hs : ∀ x ∈ js, x.nm.size < 4611686018427387904) :
    Calls Tryz.prog 56 #[.slice A n c, .func (.func 57) #[] #[]] w fun en w' => en = .returned (.bool (!js.all good)) ∧ Below w.heap.size w w' := by
  have C := index_is (c := c) T R hs
  generalize (!js.all good) = b at C ⊢
  clear T R hs
  go_enter Tryz.func56, Tryz.ntmps56
  go_wp2_with fail
  refine C.mono ?_
  rintro e w2 ⟨⟨k, rfl, hk⟩, hb⟩
  go_wp2_with fail
  go_ret
  exact ⟨by first | rfl | simp, hb⟩
/-- All of them are good. -/
def all (js : List J) : Bool := decide (js.length ≤ 200) && js.all good
theorem all_is {w : World} {A : Option Addr} {n c : Nat} {js : List J} (T : Tabs w) (R : Row jc 8 w A n js) (hs : ∀ x ∈ js, x.nm.size < 4611686018427387904) :
    Calls Tryz.prog 22 #[.slice A n c] w fun en w' => en = .returned (.bool (all js)) ∧ Below w.heap.size w w' := by
  have C := contains_is (c := c) T R hs
  have hl := R.1
  obtain ⟨G, hG⟩ : ∃ b, all js = b := ⟨_, rfl⟩
  rw [hG]
  unfold all at hG
  rw [hl] at hG
  generalize js.all good = b at C hG
  clear T R hs hl
  by_cases h : n ≤ 200
  · have hi : (n : Int) ≤ 200 := by omega
    have e : G = b := by rw [← hG]; simp [h]
    subst e
    clear hG h
    go_enter Tryz.func22, Tryz.ntmps22
    go_wp2_with fail
    refine C.mono ?_
    rintro e w2 ⟨rfl, hb⟩
    go_wp2_with fail
    go_ret
    exact ⟨by first | rfl | simp, hb⟩
  · have hi : ¬ (n : Int) ≤ 200 := by omega
    have e : G = false := by rw [← hG]; simp [h]
    subst e
    clear hG h
    go_enter Tryz.func22, Tryz.ntmps22
    go_wp2_with fail
    go_ret
    exact ⟨rfl, Below.refl _ _⟩
end Job
end Go.Proofs.YtbgiegecfapmlaaGreatDoor
