/- The second words of sectors whose numbers differ in one bit are not the same: part 2 of 16 of the reckoning. No program. -/
import Derived.Test.YtbmnbdkbgpajeaaGreatDoorN5
namespace Go.Bn
set_option maxHeartbeats 4000000 in
set_option maxRecDepth 10000 in
theorem big_1 : ∀ j, j < 291 → big 1 j = true := by
  iterate 40 (refine stepL ?_ (by decide +kernel))
  iterate 40 (refine stepL ?_ (by decide +kernel))
  iterate 40 (refine stepL ?_ (by decide +kernel))
  iterate 40 (refine stepL ?_ (by decide +kernel))
  iterate 40 (refine stepL ?_ (by decide +kernel))
  iterate 40 (refine stepL ?_ (by decide +kernel))
  iterate 40 (refine stepL ?_ (by decide +kernel))
  iterate 11 (refine stepL ?_ (by decide +kernel))
  exact none0
set_option maxRecDepth 10000 in
theorem big_30 : ∀ j, j < 204 → big 30 j = true := by
  iterate 40 (refine stepL ?_ (by decide +kernel))
  iterate 40 (refine stepL ?_ (by decide +kernel))
  iterate 40 (refine stepL ?_ (by decide +kernel))
  iterate 40 (refine stepL ?_ (by decide +kernel))
  iterate 40 (refine stepL ?_ (by decide +kernel))
  iterate 4 (refine stepL ?_ (by decide +kernel))
  exact none0
set_option maxRecDepth 10000 in
theorem big_33 : ∀ j, j < 195 → big 33 j = true := by
  iterate 40 (refine stepL ?_ (by decide +kernel))
  iterate 40 (refine stepL ?_ (by decide +kernel))
  iterate 40 (refine stepL ?_ (by decide +kernel))
  iterate 40 (refine stepL ?_ (by decide +kernel))
  iterate 35 (refine stepL ?_ (by decide +kernel))
  exact none0
set_option maxRecDepth 10000 in
theorem big_62 : ∀ j, j < 108 → big 62 j = true := by
  iterate 40 (refine stepL ?_ (by decide +kernel))
  iterate 40 (refine stepL ?_ (by decide +kernel))
  iterate 28 (refine stepL ?_ (by decide +kernel))
  exact none0
set_option maxRecDepth 10000 in
theorem big_65 : ∀ j, j < 99 → big 65 j = true := by
  iterate 40 (refine stepL ?_ (by decide +kernel))
  iterate 40 (refine stepL ?_ (by decide +kernel))
  iterate 19 (refine stepL ?_ (by decide +kernel))
  exact none0
set_option maxRecDepth 10000 in
theorem big_94 : ∀ j, j < 12 → big 94 j = true := by
  iterate 12 (refine stepL ?_ (by decide +kernel))
  exact none0
set_option maxRecDepth 10000 in
theorem big_97 : ∀ j, j < 3 → big 97 j = true := by
  iterate 3 (refine stepL ?_ (by decide +kernel))
  exact none0
set_option maxRecDepth 10000 in
theorem few_15 : ∀ j, j < 7 → few 15 j = true := by
  iterate 7 (refine stepL ?_ (by decide +kernel))
  exact none0
set_option maxRecDepth 10000 in
theorem few_31 : ∀ j, j < 7 → few 31 j = true := by
  iterate 7 (refine stepL ?_ (by decide +kernel))
  exact none0
set_option maxRecDepth 10000 in
theorem few_47 : ∀ j, j < 7 → few 47 j = true := by
  iterate 7 (refine stepL ?_ (by decide +kernel))
  exact none0
end Go.Bn
