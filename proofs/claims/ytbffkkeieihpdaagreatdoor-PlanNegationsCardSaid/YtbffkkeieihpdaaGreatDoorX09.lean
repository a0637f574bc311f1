import Derived.Test.YtbffkkeieihpdaaGreatDoorX08
import Derived.Test.YtbffkkeieihpdaaGreatDoorProg
import Derived.KernelRfl
import Derived.Laws.StructEq
set_option linter.unusedSimpArgs false
set_option linter.unusedVariables false
set_option linter.constructorNameAsVariable false
set_option maxRecDepth 100000
set_option maxHeartbeats 4000000
namespace Go.Proofs.YtbffkkeieihpdaaGreatDoor
open Go Go.Eng
section
def ti:TypeId→TI
 | 2=>⟨.int .i64,1,8,[.int .i64 0]⟩
 | 3=>⟨.int .i64,1,8,[.int .i64 0]⟩
 | 4=>⟨.bool,1,1,[.bool false]⟩
 | 5=>⟨.int .u8,1,1,[.int .u8 0]⟩
 | 9=>⟨.str,1,16,[.string ByteArray.empty]⟩
 | 21=>⟨.int .i32,1,4,[.int .i32 0]⟩
 | 22=>⟨.slice 85,1,24,[.slice none 0 0]⟩
 | 24=>⟨.struct [(0,22)] none,1,24,[.slice none 0 0]⟩
 | 25=>⟨.slice 71,1,24,[.slice none 0 0]⟩
 | 26=>⟨.int .i64,1,8,[.int .i64 0]⟩
 | 27=>⟨.int .i64,1,8,[.int .i64 0]⟩
 | 28=>⟨.slice 81,1,24,[.slice none 0 0]⟩
 | 29=>⟨.slice 28,1,24,[.slice none 0 0]⟩
 | 31=>⟨.struct [(0,25),(1,26),(2,27),(3,28),(4,2),(5,9),(6,29)] none,7,112,[.slice none 0 0,.int .i64 0,.int .i64 0,.slice none 0 0,.int .i64 0,.string ByteArray.empty,.slice none 0 0]⟩
 | 35=>⟨.slice 76,1,24,[.slice none 0 0]⟩
 | 36=>⟨.slice 73,1,24,[.slice none 0 0]⟩
 | 37=>⟨.slice 91,1,24,[.slice none 0 0]⟩
 | 38=>⟨.slice 4,1,24,[.slice none 0 0]⟩
 | 39=>⟨.slice 3,1,24,[.slice none 0 0]⟩
 | 41=>⟨.struct [(0,24),(1,31),(8,35),(9,36),(10,37),(11,38),(12,39),(13,37),(14,4),(15,4)] none,16,288,[.slice none 0 0,.slice none 0 0,.int .i64 0,.int .i64 0,.slice none 0 0,.int .i64 0,.string ByteArray.empty,.slice none 0 0,.slice none 0 0,.slice none 0 0,.slice none 0 0,.slice none 0 0,.slice none 0 0,.slice none 0 0,.bool false,.bool false]⟩
 | 42=>⟨.int .i64,1,8,[.int .i64 0]⟩
 | 43=>⟨.int .i64,1,8,[.int .i64 0]⟩
 | 45=>⟨.struct [(0,42),(1,43),(2,3),(3,3)] (some [.i .i64,.i .i64,.i .i64,.i .i64]),4,32,[.int .i64 0,.int .i64 0,.int .i64 0,.int .i64 0]⟩
 | 52=>⟨.slice 61,1,24,[.slice none 0 0]⟩
 | 53=>⟨.slice 61,1,24,[.slice none 0 0]⟩
 | 57=>⟨.int .u64,1,8,[.int .u64 0]⟩
 | 58=>⟨.arr 8 2,8,64,[.int .i64 0,.int .i64 0,.int .i64 0,.int .i64 0,.int .i64 0,.int .i64 0,.int .i64 0,.int .i64 0]⟩
 | 60=>⟨.struct [(0,2),(1,57),(2,3),(3,58)] (some [.i .i64,.i .u64,.i .i64,.i .i64,.i .i64,.i .i64,.i .i64,.i .i64,.i .i64,.i .i64,.i .i64]),11,88,[.int .i64 0,.int .u64 0,.int .i64 0,.int .i64 0,.int .i64 0,.int .i64 0,.int .i64 0,.int .i64 0,.int .i64 0,.int .i64 0,.int .i64 0]⟩
 | 61=>⟨.slice 60,1,24,[.slice none 0 0]⟩
 | 69=>⟨.slice 9,1,24,[.slice none 0 0]⟩
 | 71=>⟨.struct [(0,4),(1,69),(2,9),(3,3),(4,3)] none,5,64,[.bool false,.slice none 0 0,.string ByteArray.empty,.int .i64 0,.int .i64 0]⟩
 | 73=>⟨.struct [(0,3),(1,39),(2,3),(3,3),(4,37),(5,37)] none,6,96,[.int .i64 0,.slice none 0 0,.int .i64 0,.int .i64 0,.slice none 0 0,.slice none 0 0]⟩
 | 74=>⟨.slice 93,1,24,[.slice none 0 0]⟩
 | 76=>⟨.struct [(0,3),(1,39),(2,3),(3,3),(4,37),(5,74)] none,6,96,[.int .i64 0,.slice none 0 0,.int .i64 0,.int .i64 0,.slice none 0 0,.slice none 0 0]⟩
 | 79=>⟨.int .i64,1,8,[.int .i64 0]⟩
 | 81=>⟨.struct [(0,79),(1,2),(2,9),(3,9),(4,3),(5,3)] (some [.i .i64,.i .i64,.str,.str,.i .i64,.i .i64]),6,64,[.int .i64 0,.int .i64 0,.string ByteArray.empty,.string ByteArray.empty,.int .i64 0,.int .i64 0]⟩
 | 85=>⟨.struct [(0,9),(1,69)] none,2,40,[.string ByteArray.empty,.slice none 0 0]⟩
 | 88=>⟨.slice 97,1,24,[.slice none 0 0]⟩
 | 89=>⟨.slice 39,1,24,[.slice none 0 0]⟩
 | 91=>⟨.struct [(0,88),(1,89)] none,2,48,[.slice none 0 0,.slice none 0 0]⟩
 | 93=>⟨.struct [(0,91),(2,3),(3,4)] none,4,64,[.slice none 0 0,.slice none 0 0,.int .i64 0,.bool false]⟩
 | 95=>⟨.int .i64,1,8,[.int .i64 0]⟩
 | 97=>⟨.struct [(0,95),(1,3),(2,3),(3,2),(4,3)] (some [.i .i64,.i .i64,.i .i64,.i .i64,.i .i64]),5,40,[.int .i64 0,.int .i64 0,.int .i64 0,.int .i64 0,.int .i64 0]⟩
 | 103=>⟨.struct [(0,52),(1,3),(2,3)] none,3,40,[.slice none 0 0,.int .i64 0,.int .i64 0]⟩
 | 106=>⟨.struct [(0,39),(1,39),(2,39)] none,3,72,[.slice none 0 0,.slice none 0 0,.slice none 0 0]⟩
 | 116=>⟨.mapS 171,1,8,[.map none]⟩
 | 118=>⟨.struct [(0,41),(16,116)] none,17,296,[.slice none 0 0,.slice none 0 0,.int .i64 0,.int .i64 0,.slice none 0 0,.int .i64 0,.string ByteArray.empty,.slice none 0 0,.slice none 0 0,.slice none 0 0,.slice none 0 0,.slice none 0 0,.slice none 0 0,.slice none 0 0,.bool false,.bool false,.map none]⟩
 | 121=>⟨.slice 192,1,24,[.slice none 0 0]⟩
 | 134=>⟨.func,1,8,[.nilFunc]⟩
 | 135=>⟨.slice 5,1,24,[.slice none 0 0]⟩
 | 142=>⟨.slice 37,1,24,[.slice none 0 0]⟩
 | 148=>⟨.struct [(0,4),(1,2)] (some [.b,.i .i64]),2,16,[.bool false,.int .i64 0]⟩
 | 153=>⟨.map,1,8,[.map none]⟩
 | 155=>⟨.mapI,1,8,[.map none]⟩
 | 158=>⟨.func,1,8,[.nilFunc]⟩
 | 162=>⟨.func,1,8,[.nilFunc]⟩
 | 171=>⟨.struct [(0,4),(1,3)] none,2,16,[.bool false,.int .i64 0]⟩
 | 182=>⟨.struct [(0,24),(1,91),(3,153)] none,4,80,[.slice none 0 0,.slice none 0 0,.slice none 0 0,.map none]⟩
 | 183=>⟨.slice 95,1,24,[.slice none 0 0]⟩
 | 186=>⟨.slice 189,1,24,[.slice none 0 0]⟩
 | 189=>⟨.struct [(0,3),(1,3),(2,45)] none,6,48,[.int .i64 0,.int .i64 0,.int .i64 0,.int .i64 0,.int .i64 0,.int .i64 0]⟩
 | 192=>⟨.struct [(0,28),(1,106),(4,3),(5,4),(6,3),(7,4)] none,8,128,[.slice none 0 0,.slice none 0 0,.slice none 0 0,.slice none 0 0,.int .i64 0,.bool false,.int .i64 0,.bool false]⟩
 | 202=>⟨.slice 148,1,24,[.slice none 0 0]⟩
 | 203=>⟨.arr 27 3,27,216,[.int .i64 0,.int .i64 0,.int .i64 0,.int .i64 0,.int .i64 0,.int .i64 0,.int .i64 0,.int .i64 0,.int .i64 0,.int .i64 0,.int .i64 0,.int .i64 0,.int .i64 0,.int .i64 0,.int .i64 0,.int .i64 0,.int .i64 0,.int .i64 0,.int .i64 0,.int .i64 0,.int .i64 0,.int .i64 0,.int .i64 0,.int .i64 0,.int .i64 0,.int .i64 0,.int .i64 0]⟩
 | 210=>⟨.struct [(0,24),(1,28),(2,39),(3,103)] none,6,112,[.slice none 0 0,.slice none 0 0,.slice none 0 0,.slice none 0 0,.int .i64 0,.int .i64 0]⟩
 | 226=>⟨.arr 5 42,5,40,[.int .i64 0,.int .i64 0,.int .i64 0,.int .i64 0,.int .i64 0]⟩
 | 235=>⟨.arr 3 148,6,48,[.bool false,.int .i64 0,.bool false,.int .i64 0,.bool false,.int .i64 0]⟩
 | 241=>⟨.arr 27 9,27,432,[.string ByteArray.empty,.string ByteArray.empty,.string ByteArray.empty,.string ByteArray.empty,.string ByteArray.empty,.string ByteArray.empty,.string ByteArray.empty,.string ByteArray.empty,.string ByteArray.empty,.string ByteArray.empty,.string ByteArray.empty,.string ByteArray.empty,.string ByteArray.empty,.string ByteArray.empty,.string ByteArray.empty,.string ByteArray.empty,.string ByteArray.empty,.string ByteArray.empty,.string ByteArray.empty,.string ByteArray.empty,.string ByteArray.empty,.string ByteArray.empty,.string ByteArray.empty,.string ByteArray.empty,.string ByteArray.empty,.string ByteArray.empty,.string ByteArray.empty]⟩
 | 249=>⟨.slice 2,1,24,[.slice none 0 0]⟩
 | 254=>⟨.arr 3 235,18,144,[.bool false,.int .i64 0,.bool false,.int .i64 0,.bool false,.int .i64 0,.bool false,.int .i64 0,.bool false,.int .i64 0,.bool false,.int .i64 0,.bool false,.int .i64 0,.bool false,.int .i64 0,.bool false,.int .i64 0]⟩
 | 256=>⟨.arr 2 3,2,16,[.int .i64 0,.int .i64 0]⟩
 | 265=>⟨.struct [(0,2),(1,2)] none,2,16,[.int .i64 0,.int .i64 0]⟩
 | _=>⟨.other,0,0,[]⟩
theorem tis:((((((ti 2=⟨.int .i64,1,8,[.int .i64 0]⟩∧ti 3=⟨.int .i64,1,8,[.int .i64 0]⟩)∧(ti 4=⟨.bool,1,1,[.bool false]⟩∧ti 5=⟨.int .u8,1,1,[.int .u8 0]⟩))∧((ti 9=⟨.str,1,16,[.string ByteArray.empty]⟩∧ti 21=⟨.int .i32,1,4,[.int .i32 0]⟩)∧(ti 22=⟨.slice 85,1,24,[.slice none 0 0]⟩∧(ti 24=⟨.struct [(0,22)] none,1,24,[.slice none 0 0]⟩∧ti 25=⟨.slice 71,1,24,[.slice none 0 0]⟩))))∧(((ti 26=⟨.int .i64,1,8,[.int .i64 0]⟩∧ti 27=⟨.int .i64,1,8,[.int .i64 0]⟩)∧(ti 28=⟨.slice 81,1,24,[.slice none 0 0]⟩∧ti 29=⟨.slice 28,1,24,[.slice none 0 0]⟩))∧((ti 31=⟨.struct [(0,25),(1,26),(2,27),(3,28),(4,2),(5,9),(6,29)] none,7,112,[.slice none 0 0,.int .i64 0,.int .i64 0,.slice none 0 0,.int .i64 0,.string ByteArray.empty,.slice none 0 0]⟩∧ti 35=⟨.slice 76,1,24,[.slice none 0 0]⟩)∧(ti 36=⟨.slice 73,1,24,[.slice none 0 0]⟩∧(ti 37=⟨.slice 91,1,24,[.slice none 0 0]⟩∧ti 38=⟨.slice 4,1,24,[.slice none 0 0]⟩)))))∧((((ti 39=⟨.slice 3,1,24,[.slice none 0 0]⟩∧ti 41=⟨.struct [(0,24),(1,31),(8,35),(9,36),(10,37),(11,38),(12,39),(13,37),(14,4),(15,4)] none,16,288,[.slice none 0 0,.slice none 0 0,.int .i64 0,.int .i64 0,.slice none 0 0,.int .i64 0,.string ByteArray.empty,.slice none 0 0,.slice none 0 0,.slice none 0 0,.slice none 0 0,.slice none 0 0,.slice none 0 0,.slice none 0 0,.bool false,.bool false]⟩)∧(ti 42=⟨.int .i64,1,8,[.int .i64 0]⟩∧ti 43=⟨.int .i64,1,8,[.int .i64 0]⟩))∧((ti 45=⟨.struct [(0,42),(1,43),(2,3),(3,3)] (some [.i .i64,.i .i64,.i .i64,.i .i64]),4,32,[.int .i64 0,.int .i64 0,.int .i64 0,.int .i64 0]⟩∧ti 52=⟨.slice 61,1,24,[.slice none 0 0]⟩)∧(ti 53=⟨.slice 61,1,24,[.slice none 0 0]⟩∧(ti 57=⟨.int .u64,1,8,[.int .u64 0]⟩∧ti 58=⟨.arr 8 2,8,64,[.int .i64 0,.int .i64 0,.int .i64 0,.int .i64 0,.int .i64 0,.int .i64 0,.int .i64 0,.int .i64 0]⟩))))∧(((ti 60=⟨.struct [(0,2),(1,57),(2,3),(3,58)] (some [.i .i64,.i .u64,.i .i64,.i .i64,.i .i64,.i .i64,.i .i64,.i .i64,.i .i64,.i .i64,.i .i64]),11,88,[.int .i64 0,.int .u64 0,.int .i64 0,.int .i64 0,.int .i64 0,.int .i64 0,.int .i64 0,.int .i64 0,.int .i64 0,.int .i64 0,.int .i64 0]⟩∧ti 61=⟨.slice 60,1,24,[.slice none 0 0]⟩)∧(ti 69=⟨.slice 9,1,24,[.slice none 0 0]⟩∧ti 71=⟨.struct [(0,4),(1,69),(2,9),(3,3),(4,3)] none,5,64,[.bool false,.slice none 0 0,.string ByteArray.empty,.int .i64 0,.int .i64 0]⟩))∧((ti 73=⟨.struct [(0,3),(1,39),(2,3),(3,3),(4,37),(5,37)] none,6,96,[.int .i64 0,.slice none 0 0,.int .i64 0,.int .i64 0,.slice none 0 0,.slice none 0 0]⟩∧ti 74=⟨.slice 93,1,24,[.slice none 0 0]⟩)∧(ti 76=⟨.struct [(0,3),(1,39),(2,3),(3,3),(4,37),(5,74)] none,6,96,[.int .i64 0,.slice none 0 0,.int .i64 0,.int .i64 0,.slice none 0 0,.slice none 0 0]⟩∧(ti 79=⟨.int .i64,1,8,[.int .i64 0]⟩∧ti 81=⟨.struct [(0,79),(1,2),(2,9),(3,9),(4,3),(5,3)] (some [.i .i64,.i .i64,.str,.str,.i .i64,.i .i64]),6,64,[.int .i64 0,.int .i64 0,.string ByteArray.empty,.string ByteArray.empty,.int .i64 0,.int .i64 0]⟩))))))∧(((((ti 85=⟨.struct [(0,9),(1,69)] none,2,40,[.string ByteArray.empty,.slice none 0 0]⟩∧ti 88=⟨.slice 97,1,24,[.slice none 0 0]⟩)∧(ti 89=⟨.slice 39,1,24,[.slice none 0 0]⟩∧ti 91=⟨.struct [(0,88),(1,89)] none,2,48,[.slice none 0 0,.slice none 0 0]⟩))∧((ti 93=⟨.struct [(0,91),(2,3),(3,4)] none,4,64,[.slice none 0 0,.slice none 0 0,.int .i64 0,.bool false]⟩∧ti 95=⟨.int .i64,1,8,[.int .i64 0]⟩)∧(ti 97=⟨.struct [(0,95),(1,3),(2,3),(3,2),(4,3)] (some [.i .i64,.i .i64,.i .i64,.i .i64,.i .i64]),5,40,[.int .i64 0,.int .i64 0,.int .i64 0,.int .i64 0,.int .i64 0]⟩∧(ti 103=⟨.struct [(0,52),(1,3),(2,3)] none,3,40,[.slice none 0 0,.int .i64 0,.int .i64 0]⟩∧ti 106=⟨.struct [(0,39),(1,39),(2,39)] none,3,72,[.slice none 0 0,.slice none 0 0,.slice none 0 0]⟩))))∧(((ti 116=⟨.mapS 171,1,8,[.map none]⟩∧ti 118=⟨.struct [(0,41),(16,116)] none,17,296,[.slice none 0 0,.slice none 0 0,.int .i64 0,.int .i64 0,.slice none 0 0,.int .i64 0,.string ByteArray.empty,.slice none 0 0,.slice none 0 0,.slice none 0 0,.slice none 0 0,.slice none 0 0,.slice none 0 0,.slice none 0 0,.bool false,.bool false,.map none]⟩)∧(ti 121=⟨.slice 192,1,24,[.slice none 0 0]⟩∧ti 134=⟨.func,1,8,[.nilFunc]⟩))∧((ti 135=⟨.slice 5,1,24,[.slice none 0 0]⟩∧ti 142=⟨.slice 37,1,24,[.slice none 0 0]⟩)∧(ti 148=⟨.struct [(0,4),(1,2)] (some [.b,.i .i64]),2,16,[.bool false,.int .i64 0]⟩∧(ti 153=⟨.map,1,8,[.map none]⟩∧ti 155=⟨.mapI,1,8,[.map none]⟩)))))∧((((ti 158=⟨.func,1,8,[.nilFunc]⟩∧ti 162=⟨.func,1,8,[.nilFunc]⟩)∧(ti 171=⟨.struct [(0,4),(1,3)] none,2,16,[.bool false,.int .i64 0]⟩∧ti 182=⟨.struct [(0,24),(1,91),(3,153)] none,4,80,[.slice none 0 0,.slice none 0 0,.slice none 0 0,.map none]⟩))∧((ti 183=⟨.slice 95,1,24,[.slice none 0 0]⟩∧ti 186=⟨.slice 189,1,24,[.slice none 0 0]⟩)∧(ti 189=⟨.struct [(0,3),(1,3),(2,45)] none,6,48,[.int .i64 0,.int .i64 0,.int .i64 0,.int .i64 0,.int .i64 0,.int .i64 0]⟩∧(ti 192=⟨.struct [(0,28),(1,106),(4,3),(5,4),(6,3),(7,4)] none,8,128,[.slice none 0 0,.slice none 0 0,.slice none 0 0,.slice none 0 0,.int .i64 0,.bool false,.int .i64 0,.bool false]⟩∧ti 202=⟨.slice 148,1,24,[.slice none 0 0]⟩))))∧(((ti 203=⟨.arr 27 3,27,216,[.int .i64 0,.int .i64 0,.int .i64 0,.int .i64 0,.int .i64 0,.int .i64 0,.int .i64 0,.int .i64 0,.int .i64 0,.int .i64 0,.int .i64 0,.int .i64 0,.int .i64 0,.int .i64 0,.int .i64 0,.int .i64 0,.int .i64 0,.int .i64 0,.int .i64 0,.int .i64 0,.int .i64 0,.int .i64 0,.int .i64 0,.int .i64 0,.int .i64 0,.int .i64 0,.int .i64 0]⟩∧ti 210=⟨.struct [(0,24),(1,28),(2,39),(3,103)] none,6,112,[.slice none 0 0,.slice none 0 0,.slice none 0 0,.slice none 0 0,.int .i64 0,.int .i64 0]⟩)∧(ti 226=⟨.arr 5 42,5,40,[.int .i64 0,.int .i64 0,.int .i64 0,.int .i64 0,.int .i64 0]⟩∧ti 235=⟨.arr 3 148,6,48,[.bool false,.int .i64 0,.bool false,.int .i64 0,.bool false,.int .i64 0]⟩))∧((ti 241=⟨.arr 27 9,27,432,[.string ByteArray.empty,.string ByteArray.empty,.string ByteArray.empty,.string ByteArray.empty,.string ByteArray.empty,.string ByteArray.empty,.string ByteArray.empty,.string ByteArray.empty,.string ByteArray.empty,.string ByteArray.empty,.string ByteArray.empty,.string ByteArray.empty,.string ByteArray.empty,.string ByteArray.empty,.string ByteArray.empty,.string ByteArray.empty,.string ByteArray.empty,.string ByteArray.empty,.string ByteArray.empty,.string ByteArray.empty,.string ByteArray.empty,.string ByteArray.empty,.string ByteArray.empty,.string ByteArray.empty,.string ByteArray.empty,.string ByteArray.empty,.string ByteArray.empty]⟩∧ti 249=⟨.slice 2,1,24,[.slice none 0 0]⟩)∧(ti 254=⟨.arr 3 235,18,144,[.bool false,.int .i64 0,.bool false,.int .i64 0,.bool false,.int .i64 0,.bool false,.int .i64 0,.bool false,.int .i64 0,.bool false,.int .i64 0,.bool false,.int .i64 0,.bool false,.int .i64 0,.bool false,.int .i64 0]⟩∧(ti 256=⟨.arr 2 3,2,16,[.int .i64 0,.int .i64 0]⟩∧ti 265=⟨.struct [(0,2),(1,2)] none,2,16,[.int .i64 0,.int .i64 0]⟩))))))):=⟨⟨⟨⟨⟨⟨rfl,rfl⟩,⟨rfl,rfl⟩⟩,⟨⟨rfl,rfl⟩,⟨rfl,⟨rfl,rfl⟩⟩⟩⟩,⟨⟨⟨rfl,rfl⟩,⟨rfl,rfl⟩⟩,⟨⟨rfl,rfl⟩,⟨rfl,⟨rfl,rfl⟩⟩⟩⟩⟩,⟨⟨⟨⟨rfl,rfl⟩,⟨rfl,rfl⟩⟩,⟨⟨rfl,rfl⟩,⟨rfl,⟨rfl,rfl⟩⟩⟩⟩,⟨⟨⟨rfl,rfl⟩,⟨rfl,rfl⟩⟩,⟨⟨rfl,rfl⟩,⟨rfl,⟨rfl,rfl⟩⟩⟩⟩⟩⟩,⟨⟨⟨⟨⟨rfl,rfl⟩,⟨rfl,rfl⟩⟩,⟨⟨rfl,rfl⟩,⟨rfl,⟨rfl,rfl⟩⟩⟩⟩,⟨⟨⟨rfl,rfl⟩,⟨rfl,rfl⟩⟩,⟨⟨rfl,rfl⟩,⟨rfl,⟨rfl,rfl⟩⟩⟩⟩⟩,⟨⟨⟨⟨rfl,rfl⟩,⟨rfl,rfl⟩⟩,⟨⟨rfl,rfl⟩,⟨rfl,⟨rfl,rfl⟩⟩⟩⟩,⟨⟨⟨rfl,rfl⟩,⟨rfl,rfl⟩⟩,⟨⟨rfl,rfl⟩,⟨rfl,⟨rfl,rfl⟩⟩⟩⟩⟩⟩⟩
def kwords:List ByteArray:=[⟨#[80,65,84,84,69,82,78]⟩,⟨#[83,69,81]⟩,⟨#[85,83,73,78,71]⟩,⟨#[65,78,89]⟩,⟨#[78,69,88,84]⟩,⟨#[83,84,82,73,67,84]⟩,⟨#[87,72,69,82,69]⟩,⟨#[87,73,84,72,73,78]⟩,⟨#[80,65,82,84,73,84,73,79,78]⟩,⟨#[66,89]⟩,⟨#[82,69,84,85,82,78]⟩,⟨#[65,78,68]⟩,⟨#[79,82]⟩,⟨#[78,79,84]⟩,⟨#[84,82,85,69]⟩,⟨#[70,65,76,83,69]⟩,⟨#[67,79,85,78,84]⟩,⟨#[83,85,77]⟩,⟨#[77,73,78]⟩,⟨#[77,65,88]⟩,⟨#[70,73,82,83,84]⟩,⟨#[76,65,83,84]⟩,⟨#[80,82,69,86]⟩,⟨#[65,70,84,69,82]⟩,⟨#[65,76,76]⟩,⟨#[80,65,83,84]⟩,⟨#[79,78,67,69]⟩]
def glob:Nat→Option (List Value)
 | 0=>some [.int .i64 (-1),.int .i64 0,.int .i64 0,.int .i64 0,.int .i64 0,.int .i64 0,.int .i64 0,.int .i64 0,.int .i64 0,.int .i64 0,.int .i64 1,.int .i64 1,.int .i64 2,.int .i64 2,.int .i64 2,.int .i64 2,.int .i64 2,.int .i64 2,.int .i64 2,.int .i64 2,.int .i64 2,.int .i64 2,.int .i64 2,.int .i64 2,.int .i64 2,.int .i64 1,.int .i64 1]
 | 1=>some [.bool false,.int .i64 0]
 | 2=>some [.bool true,.int .i64 1,.bool false,.int .i64 0,.bool true,.int .i64 0]
 | 3=>some (kwords.map .string)
 | 4=>some [.bool true,.int .i64 0,.bool true,.int .i64 0,.bool true,.int .i64 0,.bool true,.int .i64 0,.bool false,.int .i64 0,.bool false,.int .i64 0,.bool true,.int .i64 0,.bool false,.int .i64 0,.bool true,.int .i64 1]
 | 5=>some [.bool true,.int .i64 0,.bool false,.int .i64 0,.bool true,.int .i64 1,.bool false,.int .i64 0,.bool false,.int .i64 0,.bool true,.int .i64 1,.bool true,.int .i64 1,.bool true,.int .i64 1,.bool true,.int .i64 1]
 | 6=>some [.bool true,.int .i64 1]
 | 7=>some [.bool true,.int .i64 0]
 | _=>none
def globS (S:List Nat) (g:Nat):Option (List Value):=if g∈S then glob g else none
noncomputable def cx (S:List Nat) (pf:FuncId→Option (List AV→Heap→PRes)):Ctx:=⟨Tryz.prog,ti,globS S,pf,false⟩
theorem eks_cons {e:EK} {es:List EK} {la:List AV} (h:eksOk (e::es) la):∃a l,la=a::l∧e.ok a∧eksOk es l:=by
 cases la with
 | nil=>simp[eksOk]at h
 | cons a l=>simp only[eksOk]at h;exact⟨a,l,rfl,h.1,h.2⟩
theorem eks_nil {la:List AV} (h:eksOk [] la):la=[]:=h
theorem vrs_cons {ρ:Ren} {x:Value} {l:List AV} {ys:List Value} (h:VRs ρ (.v x::l) ys):∃r,ys=x::r∧VRs ρ l r:=by
 simp only[VRs,VR]at h
 obtain⟨y,r,rfl,rfl,h2⟩:=h
 exact⟨r,rfl,h2⟩
theorem vrs_nil {ρ:Ren} {ys:List Value} (h:VRs ρ [] ys):ys=[]:=by simpa[VRs]using h
theorem ekI {k:IntKind} {a:AV} (h:(EK.i k).ok a):∃n,a=.v (.int k n):=by
 simp only[EK.ok]at h
 unfold AV.isI at h
 split at h
 ·subst h;exact⟨_,rfl⟩
 ·exact h.elim
theorem ekB {a:AV} (h:EK.b.ok a):∃n,a=.v (.bool n):=by
 simp only[EK.ok]at h
 unfold AV.isB at h
 split at h
 ·exact⟨_,rfl⟩
 ·exact h.elim
theorem ekS {a:AV} (h:EK.str.ok a):∃n,a=.v (.string n):=by
 simp only[EK.ok]at h
 unfold AV.isStr at h
 split at h
 ·exact⟨_,rfl⟩
 ·exact h.elim
section
variable (S:List Nat) (pf:FuncId→Option (List AV→Heap→PRes))
theorem cx_ti:(cx S pf).ti=ti:=rfl
theorem cx_G:(cx S pf).G=globS S:=rfl
theorem cx_pf:(cx S pf).pf=pf:=rfl
theorem cx_tw:(cx S pf).two=false:=rfl
theorem cx_P:(cx S pf).P=Tryz.prog:=rfl
end
theorem run_equalIn_ints8 {P:Program} (w:World) (d:Nat) (t el:TypeId) (k:IntKind) (ht:P.underlying t=some (.array 8 el)) (he:P.underlying el=some (.int k)) (hs:∀w,(sizeOf el).run P w=.ok 1 w) (a0 a1 a2 a3 a4 a5 a6 a7 b0 b1 b2 b3 b4 b5 b6 b7:Int) :
  (Op.equalIn (d+2) t (.agg #[.int k a0,.int k a1,.int k a2,.int k a3,.int k a4,.int k a5,.int k a6,.int k a7]) (.agg #[.int k b0,.int k b1,.int k b2,.int k b3,.int k b4,.int k b5,.int k b6,.int k b7])).run P w =
   .ok (a0==b0&&(a1==b1&&(a2==b2&&(a3==b3&&(a4==b4&&(a5==b5&&(a6==b6&&a7==b7))))))) w:=by
 rw[Op.equalIn]
 simp[run_underlying ht,run_underlying he,hs,Std.Legacy.Range.forIn_eq_forIn_range',List.range',part,isAgg,run_equalIn_int w d el k k _ _ he]
 repeat' split
 all_goals simp_all
theorem inf_of {P:Program} {t:TypeId} {n:Nat} (h:(P.info? t).map (·.size)=some n):∃j,P.info? t=some j∧j.size=n:=by
 cases e:P.info? t with
 | none=>simp[e]at h
 | some j=>exact⟨j,rfl,by simpa[e]using h⟩
theorem inz_of {P:Program} {t:TypeId} {z:Value} (h:(P.info? t).map (·.zero)=some (some z)):∃j,P.info? t=some j∧j.zero=some z:=by
 cases e:P.info? t with
 | none=>simp[e]at h
 | some j=>exact⟨j,rfl,by simpa[e]using h⟩
theorem tyOk_mk {X:Ctx} {t:TypeId} {z:Value} (hi:(X.P.info? t).map (fun i=>(i.zero,i.size,i.bytes))=some (some z,(X.ti t).size,(X.ti t).bytes)) (hz:z.cells.toList=(X.ti t).zero) (hl:(X.ti t).zero.length=(X.ti t).size)
  (ho:(X.ti t).zero.all (·.oneCell')=true) (hd:DescOk X t):TyOk X t where
 info:=by
  cases e:X.P.info? t with
  | none=>simp[e]at hi
  | some j =>
   simp only[e,Option.map_some,Option.some.injEq,Prod.mk.injEq]at hi
   exact⟨j,z,rfl,hi.2.1,hi.2.2,hi.1,hz⟩
 zlen:=hl
 zone:=fun x hx=>List.all_eq_true.1 ho x hx
 desc:=hd
section
variable (S:List Nat) (pf:FuncId→Option (List AV→Heap→PRes))
theorem ty2:TyOk (cx S pf) 2:=tyOk_mk (z:=.int .i64 0) (by kernel_rfl) rfl rfl rfl Tryz.underlying2
theorem ty3:TyOk (cx S pf) 3:=tyOk_mk (z:=.int .i64 0) (by kernel_rfl) rfl rfl rfl Tryz.underlying3
theorem ty4:TyOk (cx S pf) 4:=tyOk_mk (z:=.bool false) (by kernel_rfl) rfl rfl rfl Tryz.underlying4
theorem ty5:TyOk (cx S pf) 5:=tyOk_mk (z:=.int .u8 0) (by kernel_rfl) rfl rfl rfl Tryz.underlying5
theorem ty9:TyOk (cx S pf) 9:=tyOk_mk (z:=.string ByteArray.empty) (by kernel_rfl) rfl rfl rfl Tryz.underlying9
theorem ty21:TyOk (cx S pf) 21:=tyOk_mk (z:=.int .i32 0) (by kernel_rfl) rfl rfl rfl Tryz.underlying21
theorem ty22:TyOk (cx S pf) 22:=tyOk_mk (z:=.slice none 0 0) (by kernel_rfl) rfl rfl rfl Tryz.underlying22
theorem ty24:TyOk (cx S pf) 24:=tyOk_mk (z:=.agg #[.slice none 0 0]) (by kernel_rfl) rfl rfl rfl ⟨⟨_,Tryz.underlying24,rfl,fun f hf=>by
 simp only[List.mem_cons,List.not_mem_nil,or_false]at hf
 rcases hf with rfl<;>exact inf_of (by kernel_rfl)⟩,fun eks h=>by cases h⟩
theorem ty25:TyOk (cx S pf) 25:=tyOk_mk (z:=.slice none 0 0) (by kernel_rfl) rfl rfl rfl Tryz.underlying25
theorem ty26:TyOk (cx S pf) 26:=tyOk_mk (z:=.int .i64 0) (by kernel_rfl) rfl rfl rfl Tryz.underlying26
theorem ty27:TyOk (cx S pf) 27:=tyOk_mk (z:=.int .i64 0) (by kernel_rfl) rfl rfl rfl Tryz.underlying27
theorem ty28:TyOk (cx S pf) 28:=tyOk_mk (z:=.slice none 0 0) (by kernel_rfl) rfl rfl rfl Tryz.underlying28
theorem ty29:TyOk (cx S pf) 29:=tyOk_mk (z:=.slice none 0 0) (by kernel_rfl) rfl rfl rfl Tryz.underlying29
theorem ty31:TyOk (cx S pf) 31:=tyOk_mk (z:=.agg #[.slice none 0 0,.int .i64 0,.int .i64 0,.slice none 0 0,.int .i64 0,.string ByteArray.empty,.slice none 0 0]) (by kernel_rfl) rfl rfl rfl ⟨⟨_,Tryz.underlying31,rfl,fun f hf=>by
 simp only[List.mem_cons,List.not_mem_nil,or_false]at hf
 rcases hf with rfl|rfl|rfl|rfl|rfl|rfl|rfl<;>exact inf_of (by kernel_rfl)⟩,fun eks h=>by cases h⟩
theorem ty35:TyOk (cx S pf) 35:=tyOk_mk (z:=.slice none 0 0) (by kernel_rfl) rfl rfl rfl Tryz.underlying35
theorem ty36:TyOk (cx S pf) 36:=tyOk_mk (z:=.slice none 0 0) (by kernel_rfl) rfl rfl rfl Tryz.underlying36
theorem ty37:TyOk (cx S pf) 37:=tyOk_mk (z:=.slice none 0 0) (by kernel_rfl) rfl rfl rfl Tryz.underlying37
theorem ty38:TyOk (cx S pf) 38:=tyOk_mk (z:=.slice none 0 0) (by kernel_rfl) rfl rfl rfl Tryz.underlying38
theorem ty39:TyOk (cx S pf) 39:=tyOk_mk (z:=.slice none 0 0) (by kernel_rfl) rfl rfl rfl Tryz.underlying39
theorem ty41:TyOk (cx S pf) 41:=tyOk_mk (z:=.agg #[.slice none 0 0,.slice none 0 0,.int .i64 0,.int .i64 0,.slice none 0 0,.int .i64 0,.string ByteArray.empty,.slice none 0 0,.slice none 0 0,.slice none 0 0,.slice none 0 0,.slice none 0 0,.slice none 0 0,.slice none 0 0,.bool false,.bool false]) (by kernel_rfl) rfl rfl rfl ⟨⟨_,Tryz.underlying41,rfl,fun f hf=>by
 simp only[List.mem_cons,List.not_mem_nil,or_false]at hf
 rcases hf with rfl|rfl|rfl|rfl|rfl|rfl|rfl|rfl|rfl|rfl<;>exact inf_of (by kernel_rfl)⟩,fun eks h=>by cases h⟩
theorem ty42:TyOk (cx S pf) 42:=tyOk_mk (z:=.int .i64 0) (by kernel_rfl) rfl rfl rfl Tryz.underlying42
theorem ty43:TyOk (cx S pf) 43:=tyOk_mk (z:=.int .i64 0) (by kernel_rfl) rfl rfl rfl Tryz.underlying43
theorem eks_45:∀(ρ:Ren) (la:List AV) (xs:List Value),eksOk [.i .i64,.i .i64,.i .i64,.i .i64] la→VRs ρ la xs→∃(x0:Int),∃(x1:Int),∃(x2:Int),∃(x3:Int),la=[.v (.int .i64 x0),.v (.int .i64 x1),.v (.int .i64 x2),.v (.int .i64 x3)]∧xs=[.int .i64 x0,.int .i64 x1,.int .i64 x2,.int .i64 x3]:=by
 intro ρ la xs h hv
 obtain⟨a0,la0,rfl,h0,g0⟩:=eks_cons h
 obtain⟨x0,rfl⟩:=ekI h0
 obtain⟨xs0,rfl,v0⟩:=vrs_cons hv
 obtain⟨a1,la1,rfl,h1,g1⟩:=eks_cons g0
 obtain⟨x1,rfl⟩:=ekI h1
 obtain⟨xs1,rfl,v1⟩:=vrs_cons v0
 obtain⟨a2,la2,rfl,h2,g2⟩:=eks_cons g1
 obtain⟨x2,rfl⟩:=ekI h2
 obtain⟨xs2,rfl,v2⟩:=vrs_cons v1
 obtain⟨a3,la3,rfl,h3,g3⟩:=eks_cons g2
 obtain⟨x3,rfl⟩:=ekI h3
 obtain⟨xs3,rfl,v3⟩:=vrs_cons v2
 obtain rfl:=eks_nil g3
 obtain rfl:=vrs_nil v3
 exact⟨x0,x1,x2,x3,rfl,rfl⟩
theorem eqs_45 (w:World) (x0:Int) (x1:Int) (x2:Int) (x3:Int) (y0:Int) (y1:Int) (y2:Int) (y3:Int):(Op.equal 45 (.agg [.int .i64 x0,.int .i64 x1,.int .i64 x2,.int .i64 x3].toArray) (.agg [.int .i64 y0,.int .i64 y1,.int .i64 y2,.int .i64 y3].toArray)).run Tryz.prog w=.ok (eksEq [.i .i64,.i .i64,.i .i64,.i .i64] [.v (.int .i64 x0),.v (.int .i64 x1),.v (.int .i64 x2),.v (.int .i64 x3)] [.v (.int .i64 y0),.v (.int .i64 y1),.v (.int .i64 y2),.v (.int .i64 y3)]) w:=by
 have hf:∀t,t∈([45]:List TypeId)→Tryz.prog.stoodInHeld t=false:=fun t ht=>by
  have:([45]:List TypeId).all (fun t=>Tryz.prog.stoodInHeld t==false)=true:=by kernel_rfl
  simpa using List.all_eq_true.1 this t ht
 unfold Op.equal Op.maxDepth
 rw[run_equalIn_struct w 9999 45 _ _ (by kernel_rfl) (hf 45 (by simp))]
 have hfs : (Tryz.prog.fieldsOf 45).toList = [{ name := "Code", type := 42, offset := 0, embedded := false, tag := "", pkgPath := "", byteOffset := 0 }, { name := "Part", type := 43, offset := 1, embedded := false, tag := "", pkgPath := "", byteOffset := 8 }, { name := "Index", type := 3, offset := 2, embedded := false, tag := "", pkgPath := "", byteOffset := 16 }, { name := "Sub", type := 3, offset := 3, embedded := false, tag := "", pkgPath := "", byteOffset := 24 }] := by kernel_rfl
 rw[hfs]
 simp[Op.eqFields,part,isAgg,run_underlying Tryz.underlying3,run_underlying Tryz.underlying42,run_underlying Tryz.underlying43,run_equalIn_int,eksEq,EK.eq,AV.i]
 repeat' split
 all_goals simp_all
theorem eq45:EqOk (cx S pf) 45 [.i .i64,.i .i64,.i .i64,.i .i64]:=by
 refine⟨by kernel_rfl,fun ρ w la lb xs ys h1 h2 h3 h4 => ?_⟩
 obtain⟨x0,x1,x2,x3,rfl,rfl⟩:=eks_45 ρ la xs h1 h3
 obtain⟨y0,y1,y2,y3,rfl,rfl⟩:=eks_45 ρ lb ys h2 h4
 exact eqs_45 w x0 x1 x2 x3 y0 y1 y2 y3
theorem ty45:TyOk (cx S pf) 45:=tyOk_mk (z:=.agg #[.int .i64 0,.int .i64 0,.int .i64 0,.int .i64 0]) (by kernel_rfl) rfl rfl rfl ⟨⟨_,Tryz.underlying45,rfl,fun f hf=>by
 simp only[List.mem_cons,List.not_mem_nil,or_false]at hf
 rcases hf with rfl|rfl|rfl|rfl<;>exact inf_of (by kernel_rfl)⟩,fun eks h=>by cases h;exact eq45 S pf⟩
theorem ty52:TyOk (cx S pf) 52:=tyOk_mk (z:=.slice none 0 0) (by kernel_rfl) rfl rfl rfl Tryz.underlying52
theorem ty53:TyOk (cx S pf) 53:=tyOk_mk (z:=.slice none 0 0) (by kernel_rfl) rfl rfl rfl Tryz.underlying53
theorem ty57:TyOk (cx S pf) 57:=tyOk_mk (z:=.int .u64 0) (by kernel_rfl) rfl rfl rfl Tryz.underlying57
theorem ty58:TyOk (cx S pf) 58:=tyOk_mk (z:=.agg #[.int .i64 0,.int .i64 0,.int .i64 0,.int .i64 0,.int .i64 0,.int .i64 0,.int .i64 0,.int .i64 0]) (by kernel_rfl) rfl rfl rfl ⟨Tryz.underlying58,inf_of (by kernel_rfl)⟩
theorem eks_60:∀(ρ:Ren) (la:List AV) (xs:List Value),eksOk [.i .i64,.i .u64,.i .i64,.i .i64,.i .i64,.i .i64,.i .i64,.i .i64,.i .i64,.i .i64,.i .i64] la→VRs ρ la xs→∃(x0:Int),∃(x1:Int),∃(x2:Int),∃(x3:Int),∃(x4:Int),∃(x5:Int),∃(x6:Int),∃(x7:Int),∃(x8:Int),∃(x9:Int),∃(x10:Int),la=[.v (.int .i64 x0),.v (.int .u64 x1),.v (.int .i64 x2),.v (.int .i64 x3),.v (.int .i64 x4),.v (.int .i64 x5),.v (.int .i64 x6),.v (.int .i64 x7),.v (.int .i64 x8),.v (.int .i64 x9),.v (.int .i64 x10)]∧xs=[.int .i64 x0,.int .u64 x1,.int .i64 x2,.int .i64 x3,.int .i64 x4,.int .i64 x5,.int .i64 x6,.int .i64 x7,.int .i64 x8,.int .i64 x9,.int .i64 x10]:=by
 intro ρ la xs h hv
 obtain⟨a0,la0,rfl,h0,g0⟩:=eks_cons h
 obtain⟨x0,rfl⟩:=ekI h0
 obtain⟨xs0,rfl,v0⟩:=vrs_cons hv
 obtain⟨a1,la1,rfl,h1,g1⟩:=eks_cons g0
 obtain⟨x1,rfl⟩:=ekI h1
 obtain⟨xs1,rfl,v1⟩:=vrs_cons v0
 obtain⟨a2,la2,rfl,h2,g2⟩:=eks_cons g1
 obtain⟨x2,rfl⟩:=ekI h2
 obtain⟨xs2,rfl,v2⟩:=vrs_cons v1
 obtain⟨a3,la3,rfl,h3,g3⟩:=eks_cons g2
 obtain⟨x3,rfl⟩:=ekI h3
 obtain⟨xs3,rfl,v3⟩:=vrs_cons v2
 obtain⟨a4,la4,rfl,h4,g4⟩:=eks_cons g3
 obtain⟨x4,rfl⟩:=ekI h4
 obtain⟨xs4,rfl,v4⟩:=vrs_cons v3
 obtain⟨a5,la5,rfl,h5,g5⟩:=eks_cons g4
 obtain⟨x5,rfl⟩:=ekI h5
 obtain⟨xs5,rfl,v5⟩:=vrs_cons v4
 obtain⟨a6,la6,rfl,h6,g6⟩:=eks_cons g5
 obtain⟨x6,rfl⟩:=ekI h6
 obtain⟨xs6,rfl,v6⟩:=vrs_cons v5
 obtain⟨a7,la7,rfl,h7,g7⟩:=eks_cons g6
 obtain⟨x7,rfl⟩:=ekI h7
 obtain⟨xs7,rfl,v7⟩:=vrs_cons v6
 obtain⟨a8,la8,rfl,h8,g8⟩:=eks_cons g7
 obtain⟨x8,rfl⟩:=ekI h8
 obtain⟨xs8,rfl,v8⟩:=vrs_cons v7
 obtain⟨a9,la9,rfl,h9,g9⟩:=eks_cons g8
 obtain⟨x9,rfl⟩:=ekI h9
 obtain⟨xs9,rfl,v9⟩:=vrs_cons v8
 obtain⟨a10,la10,rfl,h10,g10⟩:=eks_cons g9
 obtain⟨x10,rfl⟩:=ekI h10
 obtain⟨xs10,rfl,v10⟩:=vrs_cons v9
 obtain rfl:=eks_nil g10
 obtain rfl:=vrs_nil v10
 exact⟨x0,x1,x2,x3,x4,x5,x6,x7,x8,x9,x10,rfl,rfl⟩
theorem eqs_60 (w:World) (x0:Int) (x1:Int) (x2:Int) (x3:Int) (x4:Int) (x5:Int) (x6:Int) (x7:Int) (x8:Int) (x9:Int) (x10:Int) (y0:Int) (y1:Int) (y2:Int) (y3:Int) (y4:Int) (y5:Int) (y6:Int) (y7:Int) (y8:Int) (y9:Int) (y10:Int):(Op.equal 60 (.agg [.int .i64 x0,.int .u64 x1,.int .i64 x2,.int .i64 x3,.int .i64 x4,.int .i64 x5,.int .i64 x6,.int .i64 x7,.int .i64 x8,.int .i64 x9,.int .i64 x10].toArray) (.agg [.int .i64 y0,.int .u64 y1,.int .i64 y2,.int .i64 y3,.int .i64 y4,.int .i64 y5,.int .i64 y6,.int .i64 y7,.int .i64 y8,.int .i64 y9,.int .i64 y10].toArray)).run Tryz.prog w=.ok (eksEq [.i .i64,.i .u64,.i .i64,.i .i64,.i .i64,.i .i64,.i .i64,.i .i64,.i .i64,.i .i64,.i .i64] [.v (.int .i64 x0),.v (.int .u64 x1),.v (.int .i64 x2),.v (.int .i64 x3),.v (.int .i64 x4),.v (.int .i64 x5),.v (.int .i64 x6),.v (.int .i64 x7),.v (.int .i64 x8),.v (.int .i64 x9),.v (.int .i64 x10)] [.v (.int .i64 y0),.v (.int .u64 y1),.v (.int .i64 y2),.v (.int .i64 y3),.v (.int .i64 y4),.v (.int .i64 y5),.v (.int .i64 y6),.v (.int .i64 y7),.v (.int .i64 y8),.v (.int .i64 y9),.v (.int .i64 y10)]) w:=by
 have hf:∀t,t∈([60]:List TypeId)→Tryz.prog.stoodInHeld t=false:=fun t ht=>by
  have:([60]:List TypeId).all (fun t=>Tryz.prog.stoodInHeld t==false)=true:=by kernel_rfl
  simpa using List.all_eq_true.1 this t ht
 unfold Op.equal Op.maxDepth
 rw[run_equalIn_struct w 9999 60 _ _ (by kernel_rfl) (hf 60 (by simp))]
 have hfs : (Tryz.prog.fieldsOf 60).toList = [{ name := "Ts", type := 2, offset := 0, embedded := false, tag := "", pkgPath := "", byteOffset := 0 }, { name := "Id", type := 57, offset := 1, embedded := false, tag := "", pkgPath := "", byteOffset := 8 }, { name := "Type", type := 3, offset := 2, embedded := false, tag := "", pkgPath := "", byteOffset := 16 }, { name := "Attrs", type := 58, offset := 3, embedded := false, tag := "", pkgPath := "", byteOffset := 24 }] := by kernel_rfl
 rw[hfs]
 have hz58:∀w,(sizeOf 58).run Tryz.prog w=.ok 8 w:=fun w=>by
  obtain⟨j,h1,h2⟩:=inf_of (P:=Tryz.prog) (t:=58) (n:=8) (by kernel_rfl)
  exact (run_sizeOf (X:=cx [] fun _=>none) h1).trans (by rw[h2])
 have hz2:∀w,(sizeOf 2).run Tryz.prog w=.ok 1 w:=fun w=>by
  obtain⟨j,h1,h2⟩:=inf_of (P:=Tryz.prog) (t:=2) (n:=1) (by kernel_rfl)
  exact (run_sizeOf (X:=cx [] fun _=>none) h1).trans (by rw[h2])
 simp[Op.eqFields,part,isAgg,hz58,run_equalIn_ints8 _ _ _ _ _ Tryz.underlying58 Tryz.underlying2 hz2,run_underlying Tryz.underlying2,run_underlying Tryz.underlying3,run_underlying Tryz.underlying57,run_underlying Tryz.underlying58,run_equalIn_int,eksEq,EK.eq,AV.i]
 repeat' split
 all_goals simp_all
theorem eq60:EqOk (cx S pf) 60 [.i .i64,.i .u64,.i .i64,.i .i64,.i .i64,.i .i64,.i .i64,.i .i64,.i .i64,.i .i64,.i .i64]:=by
 refine⟨by kernel_rfl,fun ρ w la lb xs ys h1 h2 h3 h4 => ?_⟩
 obtain⟨x0,x1,x2,x3,x4,x5,x6,x7,x8,x9,x10,rfl,rfl⟩:=eks_60 ρ la xs h1 h3
 obtain⟨y0,y1,y2,y3,y4,y5,y6,y7,y8,y9,y10,rfl,rfl⟩:=eks_60 ρ lb ys h2 h4
 exact eqs_60 w x0 x1 x2 x3 x4 x5 x6 x7 x8 x9 x10 y0 y1 y2 y3 y4 y5 y6 y7 y8 y9 y10
theorem ty60:TyOk (cx S pf) 60:=tyOk_mk (z:=.agg #[.int .i64 0,.int .u64 0,.int .i64 0,.int .i64 0,.int .i64 0,.int .i64 0,.int .i64 0,.int .i64 0,.int .i64 0,.int .i64 0,.int .i64 0]) (by kernel_rfl) rfl rfl rfl ⟨⟨_,Tryz.underlying60,rfl,fun f hf=>by
 simp only[List.mem_cons,List.not_mem_nil,or_false]at hf
 rcases hf with rfl|rfl|rfl|rfl<;>exact inf_of (by kernel_rfl)⟩,fun eks h=>by cases h;exact eq60 S pf⟩
theorem ty61:TyOk (cx S pf) 61:=tyOk_mk (z:=.slice none 0 0) (by kernel_rfl) rfl rfl rfl Tryz.underlying61
theorem ty69:TyOk (cx S pf) 69:=tyOk_mk (z:=.slice none 0 0) (by kernel_rfl) rfl rfl rfl Tryz.underlying69
theorem ty71:TyOk (cx S pf) 71:=tyOk_mk (z:=.agg #[.bool false,.slice none 0 0,.string ByteArray.empty,.int .i64 0,.int .i64 0]) (by kernel_rfl) rfl rfl rfl ⟨⟨_,Tryz.underlying71,rfl,fun f hf=>by
 simp only[List.mem_cons,List.not_mem_nil,or_false]at hf
 rcases hf with rfl|rfl|rfl|rfl|rfl<;>exact inf_of (by kernel_rfl)⟩,fun eks h=>by cases h⟩
theorem ty73:TyOk (cx S pf) 73:=tyOk_mk (z:=.agg #[.int .i64 0,.slice none 0 0,.int .i64 0,.int .i64 0,.slice none 0 0,.slice none 0 0]) (by kernel_rfl) rfl rfl rfl ⟨⟨_,Tryz.underlying73,rfl,fun f hf=>by
 simp only[List.mem_cons,List.not_mem_nil,or_false]at hf
 rcases hf with rfl|rfl|rfl|rfl|rfl|rfl<;>exact inf_of (by kernel_rfl)⟩,fun eks h=>by cases h⟩
theorem ty74:TyOk (cx S pf) 74:=tyOk_mk (z:=.slice none 0 0) (by kernel_rfl) rfl rfl rfl Tryz.underlying74
theorem ty76:TyOk (cx S pf) 76:=tyOk_mk (z:=.agg #[.int .i64 0,.slice none 0 0,.int .i64 0,.int .i64 0,.slice none 0 0,.slice none 0 0]) (by kernel_rfl) rfl rfl rfl ⟨⟨_,Tryz.underlying76,rfl,fun f hf=>by
 simp only[List.mem_cons,List.not_mem_nil,or_false]at hf
 rcases hf with rfl|rfl|rfl|rfl|rfl|rfl<;>exact inf_of (by kernel_rfl)⟩,fun eks h=>by cases h⟩
theorem ty79:TyOk (cx S pf) 79:=tyOk_mk (z:=.int .i64 0) (by kernel_rfl) rfl rfl rfl Tryz.underlying79
theorem eks_81:∀(ρ:Ren) (la:List AV) (xs:List Value),eksOk [.i .i64,.i .i64,.str,.str,.i .i64,.i .i64] la→VRs ρ la xs→∃(x0:Int),∃(x1:Int),∃(x2:ByteArray),∃(x3:ByteArray),∃(x4:Int),∃(x5:Int),la=[.v (.int .i64 x0),.v (.int .i64 x1),.v (.string x2),.v (.string x3),.v (.int .i64 x4),.v (.int .i64 x5)]∧xs=[.int .i64 x0,.int .i64 x1,.string x2,.string x3,.int .i64 x4,.int .i64 x5]:=by
 intro ρ la xs h hv
 obtain⟨a0,la0,rfl,h0,g0⟩:=eks_cons h
 obtain⟨x0,rfl⟩:=ekI h0
 obtain⟨xs0,rfl,v0⟩:=vrs_cons hv
 obtain⟨a1,la1,rfl,h1,g1⟩:=eks_cons g0
 obtain⟨x1,rfl⟩:=ekI h1
 obtain⟨xs1,rfl,v1⟩:=vrs_cons v0
 obtain⟨a2,la2,rfl,h2,g2⟩:=eks_cons g1
 obtain⟨x2,rfl⟩:=ekS h2
 obtain⟨xs2,rfl,v2⟩:=vrs_cons v1
 obtain⟨a3,la3,rfl,h3,g3⟩:=eks_cons g2
 obtain⟨x3,rfl⟩:=ekS h3
 obtain⟨xs3,rfl,v3⟩:=vrs_cons v2
 obtain⟨a4,la4,rfl,h4,g4⟩:=eks_cons g3
 obtain⟨x4,rfl⟩:=ekI h4
 obtain⟨xs4,rfl,v4⟩:=vrs_cons v3
 obtain⟨a5,la5,rfl,h5,g5⟩:=eks_cons g4
 obtain⟨x5,rfl⟩:=ekI h5
 obtain⟨xs5,rfl,v5⟩:=vrs_cons v4
 obtain rfl:=eks_nil g5
 obtain rfl:=vrs_nil v5
 exact⟨x0,x1,x2,x3,x4,x5,rfl,rfl⟩
theorem eqs_81 (w:World) (x0:Int) (x1:Int) (x2:ByteArray) (x3:ByteArray) (x4:Int) (x5:Int) (y0:Int) (y1:Int) (y2:ByteArray) (y3:ByteArray) (y4:Int) (y5:Int):(Op.equal 81 (.agg [.int .i64 x0,.int .i64 x1,.string x2,.string x3,.int .i64 x4,.int .i64 x5].toArray) (.agg [.int .i64 y0,.int .i64 y1,.string y2,.string y3,.int .i64 y4,.int .i64 y5].toArray)).run Tryz.prog w=.ok (eksEq [.i .i64,.i .i64,.str,.str,.i .i64,.i .i64] [.v (.int .i64 x0),.v (.int .i64 x1),.v (.string x2),.v (.string x3),.v (.int .i64 x4),.v (.int .i64 x5)] [.v (.int .i64 y0),.v (.int .i64 y1),.v (.string y2),.v (.string y3),.v (.int .i64 y4),.v (.int .i64 y5)]) w:=by
 have hf:∀t,t∈([81]:List TypeId)→Tryz.prog.stoodInHeld t=false:=fun t ht=>by
  have:([81]:List TypeId).all (fun t=>Tryz.prog.stoodInHeld t==false)=true:=by kernel_rfl
  simpa using List.all_eq_true.1 this t ht
 unfold Op.equal Op.maxDepth
 rw[run_equalIn_struct w 9999 81 _ _ (by kernel_rfl) (hf 81 (by simp))]
 have hfs : (Tryz.prog.fieldsOf 81).toList = [{ name := "Op", type := 79, offset := 0, embedded := false, tag := "", pkgPath := "", byteOffset := 0 }, { name := "N", type := 2, offset := 1, embedded := false, tag := "", pkgPath := "", byteOffset := 8 }, { name := "Var", type := 9, offset := 2, embedded := false, tag := "", pkgPath := "", byteOffset := 16 }, { name := "Attr", type := 9, offset := 3, embedded := false, tag := "", pkgPath := "", byteOffset := 32 }, { name := "A", type := 3, offset := 4, embedded := false, tag := "", pkgPath := "", byteOffset := 48 }, { name := "B", type := 3, offset := 5, embedded := false, tag := "", pkgPath := "", byteOffset := 56 }] := by kernel_rfl
 rw[hfs]
 simp[Op.eqFields,part,isAgg,run_underlying Tryz.underlying2,run_underlying Tryz.underlying3,run_underlying Tryz.underlying9,run_underlying Tryz.underlying79,run_equalIn_int,run_equalIn_string,eksEq,EK.eq,AV.i,AV.str,beq_toListBytes]
 repeat' split
 all_goals simp_all
theorem eq81:EqOk (cx S pf) 81 [.i .i64,.i .i64,.str,.str,.i .i64,.i .i64]:=by
 refine⟨by kernel_rfl,fun ρ w la lb xs ys h1 h2 h3 h4 => ?_⟩
 obtain⟨x0,x1,x2,x3,x4,x5,rfl,rfl⟩:=eks_81 ρ la xs h1 h3
 obtain⟨y0,y1,y2,y3,y4,y5,rfl,rfl⟩:=eks_81 ρ lb ys h2 h4
 exact eqs_81 w x0 x1 x2 x3 x4 x5 y0 y1 y2 y3 y4 y5
theorem ty81:TyOk (cx S pf) 81:=tyOk_mk (z:=.agg #[.int .i64 0,.int .i64 0,.string ByteArray.empty,.string ByteArray.empty,.int .i64 0,.int .i64 0]) (by kernel_rfl) rfl rfl rfl ⟨⟨_,Tryz.underlying81,rfl,fun f hf=>by
 simp only[List.mem_cons,List.not_mem_nil,or_false]at hf
 rcases hf with rfl|rfl|rfl|rfl|rfl|rfl<;>exact inf_of (by kernel_rfl)⟩,fun eks h=>by cases h;exact eq81 S pf⟩
theorem ty85:TyOk (cx S pf) 85:=tyOk_mk (z:=.agg #[.string ByteArray.empty,.slice none 0 0]) (by kernel_rfl) rfl rfl rfl ⟨⟨_,Tryz.underlying85,rfl,fun f hf=>by
 simp only[List.mem_cons,List.not_mem_nil,or_false]at hf
 rcases hf with rfl|rfl<;>exact inf_of (by kernel_rfl)⟩,fun eks h=>by cases h⟩
theorem ty88:TyOk (cx S pf) 88:=tyOk_mk (z:=.slice none 0 0) (by kernel_rfl) rfl rfl rfl Tryz.underlying88
theorem ty89:TyOk (cx S pf) 89:=tyOk_mk (z:=.slice none 0 0) (by kernel_rfl) rfl rfl rfl Tryz.underlying89
theorem ty91:TyOk (cx S pf) 91:=tyOk_mk (z:=.agg #[.slice none 0 0,.slice none 0 0]) (by kernel_rfl) rfl rfl rfl ⟨⟨_,Tryz.underlying91,rfl,fun f hf=>by
 simp only[List.mem_cons,List.not_mem_nil,or_false]at hf
 rcases hf with rfl|rfl<;>exact inf_of (by kernel_rfl)⟩,fun eks h=>by cases h⟩
theorem ty93:TyOk (cx S pf) 93:=tyOk_mk (z:=.agg #[.slice none 0 0,.slice none 0 0,.int .i64 0,.bool false]) (by kernel_rfl) rfl rfl rfl ⟨⟨_,Tryz.underlying93,rfl,fun f hf=>by
 simp only[List.mem_cons,List.not_mem_nil,or_false]at hf
 rcases hf with rfl|rfl|rfl<;>exact inf_of (by kernel_rfl)⟩,fun eks h=>by cases h⟩
theorem ty95:TyOk (cx S pf) 95:=tyOk_mk (z:=.int .i64 0) (by kernel_rfl) rfl rfl rfl Tryz.underlying95
theorem eks_97:∀(ρ:Ren) (la:List AV) (xs:List Value),eksOk [.i .i64,.i .i64,.i .i64,.i .i64,.i .i64] la→VRs ρ la xs→∃(x0:Int),∃(x1:Int),∃(x2:Int),∃(x3:Int),∃(x4:Int),la=[.v (.int .i64 x0),.v (.int .i64 x1),.v (.int .i64 x2),.v (.int .i64 x3),.v (.int .i64 x4)]∧xs=[.int .i64 x0,.int .i64 x1,.int .i64 x2,.int .i64 x3,.int .i64 x4]:=by
 intro ρ la xs h hv
 obtain⟨a0,la0,rfl,h0,g0⟩:=eks_cons h
 obtain⟨x0,rfl⟩:=ekI h0
 obtain⟨xs0,rfl,v0⟩:=vrs_cons hv
 obtain⟨a1,la1,rfl,h1,g1⟩:=eks_cons g0
 obtain⟨x1,rfl⟩:=ekI h1
 obtain⟨xs1,rfl,v1⟩:=vrs_cons v0
 obtain⟨a2,la2,rfl,h2,g2⟩:=eks_cons g1
 obtain⟨x2,rfl⟩:=ekI h2
 obtain⟨xs2,rfl,v2⟩:=vrs_cons v1
 obtain⟨a3,la3,rfl,h3,g3⟩:=eks_cons g2
 obtain⟨x3,rfl⟩:=ekI h3
 obtain⟨xs3,rfl,v3⟩:=vrs_cons v2
 obtain⟨a4,la4,rfl,h4,g4⟩:=eks_cons g3
 obtain⟨x4,rfl⟩:=ekI h4
 obtain⟨xs4,rfl,v4⟩:=vrs_cons v3
 obtain rfl:=eks_nil g4
 obtain rfl:=vrs_nil v4
 exact⟨x0,x1,x2,x3,x4,rfl,rfl⟩
theorem eqs_97 (w:World) (x0:Int) (x1:Int) (x2:Int) (x3:Int) (x4:Int) (y0:Int) (y1:Int) (y2:Int) (y3:Int) (y4:Int):(Op.equal 97 (.agg [.int .i64 x0,.int .i64 x1,.int .i64 x2,.int .i64 x3,.int .i64 x4].toArray) (.agg [.int .i64 y0,.int .i64 y1,.int .i64 y2,.int .i64 y3,.int .i64 y4].toArray)).run Tryz.prog w=.ok (eksEq [.i .i64,.i .i64,.i .i64,.i .i64,.i .i64] [.v (.int .i64 x0),.v (.int .i64 x1),.v (.int .i64 x2),.v (.int .i64 x3),.v (.int .i64 x4)] [.v (.int .i64 y0),.v (.int .i64 y1),.v (.int .i64 y2),.v (.int .i64 y3),.v (.int .i64 y4)]) w:=by
 have hf:∀t,t∈([97]:List TypeId)→Tryz.prog.stoodInHeld t=false:=fun t ht=>by
  have:([97]:List TypeId).all (fun t=>Tryz.prog.stoodInHeld t==false)=true:=by kernel_rfl
  simpa using List.all_eq_true.1 this t ht
 unfold Op.equal Op.maxDepth
 rw[run_equalIn_struct w 9999 97 _ _ (by kernel_rfl) (hf 97 (by simp))]
 have hfs : (Tryz.prog.fieldsOf 97).toList = [{ name := "Code", type := 95, offset := 0, embedded := false, tag := "", pkgPath := "", byteOffset := 0 }, { name := "Item", type := 3, offset := 1, embedded := false, tag := "", pkgPath := "", byteOffset := 8 }, { name := "Col", type := 3, offset := 2, embedded := false, tag := "", pkgPath := "", byteOffset := 16 }, { name := "N", type := 2, offset := 3, embedded := false, tag := "", pkgPath := "", byteOffset := 24 }, { name := "To", type := 3, offset := 4, embedded := false, tag := "", pkgPath := "", byteOffset := 32 }] := by kernel_rfl
 rw[hfs]
 simp[Op.eqFields,part,isAgg,run_underlying Tryz.underlying2,run_underlying Tryz.underlying3,run_underlying Tryz.underlying95,run_equalIn_int,eksEq,EK.eq,AV.i]
 repeat' split
 all_goals simp_all
theorem eq97:EqOk (cx S pf) 97 [.i .i64,.i .i64,.i .i64,.i .i64,.i .i64]:=by
 refine⟨by kernel_rfl,fun ρ w la lb xs ys h1 h2 h3 h4 => ?_⟩
 obtain⟨x0,x1,x2,x3,x4,rfl,rfl⟩:=eks_97 ρ la xs h1 h3
 obtain⟨y0,y1,y2,y3,y4,rfl,rfl⟩:=eks_97 ρ lb ys h2 h4
 exact eqs_97 w x0 x1 x2 x3 x4 y0 y1 y2 y3 y4
theorem ty97:TyOk (cx S pf) 97:=tyOk_mk (z:=.agg #[.int .i64 0,.int .i64 0,.int .i64 0,.int .i64 0,.int .i64 0]) (by kernel_rfl) rfl rfl rfl ⟨⟨_,Tryz.underlying97,rfl,fun f hf=>by
 simp only[List.mem_cons,List.not_mem_nil,or_false]at hf
 rcases hf with rfl|rfl|rfl|rfl|rfl<;>exact inf_of (by kernel_rfl)⟩,fun eks h=>by cases h;exact eq97 S pf⟩
theorem ty103:TyOk (cx S pf) 103:=tyOk_mk (z:=.agg #[.slice none 0 0,.int .i64 0,.int .i64 0]) (by kernel_rfl) rfl rfl rfl ⟨⟨_,Tryz.underlying103,rfl,fun f hf=>by
 simp only[List.mem_cons,List.not_mem_nil,or_false]at hf
 rcases hf with rfl|rfl|rfl<;>exact inf_of (by kernel_rfl)⟩,fun eks h=>by cases h⟩
theorem ty106:TyOk (cx S pf) 106:=tyOk_mk (z:=.agg #[.slice none 0 0,.slice none 0 0,.slice none 0 0]) (by kernel_rfl) rfl rfl rfl ⟨⟨_,Tryz.underlying106,rfl,fun f hf=>by
 simp only[List.mem_cons,List.not_mem_nil,or_false]at hf
 rcases hf with rfl|rfl|rfl<;>exact inf_of (by kernel_rfl)⟩,fun eks h=>by cases h⟩
theorem ty116:TyOk (cx S pf) 116:=tyOk_mk (z:=.map none) (by kernel_rfl) rfl rfl rfl ⟨9,Tryz.underlying116,Tryz.underlying9,inz_of (by kernel_rfl)⟩
theorem ty118:TyOk (cx S pf) 118:=tyOk_mk (z:=.agg #[.slice none 0 0,.slice none 0 0,.int .i64 0,.int .i64 0,.slice none 0 0,.int .i64 0,.string ByteArray.empty,.slice none 0 0,.slice none 0 0,.slice none 0 0,.slice none 0 0,.slice none 0 0,.slice none 0 0,.slice none 0 0,.bool false,.bool false,.map none]) (by kernel_rfl) rfl rfl rfl ⟨⟨_,Tryz.underlying118,rfl,fun f hf=>by
 simp only[List.mem_cons,List.not_mem_nil,or_false]at hf
 rcases hf with rfl|rfl<;>exact inf_of (by kernel_rfl)⟩,fun eks h=>by cases h⟩
theorem ty121:TyOk (cx S pf) 121:=tyOk_mk (z:=.slice none 0 0) (by kernel_rfl) rfl rfl rfl Tryz.underlying121
theorem ty134:TyOk (cx S pf) 134:=tyOk_mk (z:=.nilFunc) (by kernel_rfl) rfl rfl rfl ⟨_,_,_,Tryz.underlying134⟩
theorem ty135:TyOk (cx S pf) 135:=tyOk_mk (z:=.slice none 0 0) (by kernel_rfl) rfl rfl rfl Tryz.underlying135
theorem ty142:TyOk (cx S pf) 142:=tyOk_mk (z:=.slice none 0 0) (by kernel_rfl) rfl rfl rfl Tryz.underlying142
theorem eks_148:∀(ρ:Ren) (la:List AV) (xs:List Value),eksOk [.b,.i .i64] la→VRs ρ la xs→∃(x0:Bool),∃(x1:Int),la=[.v (.bool x0),.v (.int .i64 x1)]∧xs=[.bool x0,.int .i64 x1]:=by
 intro ρ la xs h hv
 obtain⟨a0,la0,rfl,h0,g0⟩:=eks_cons h
 obtain⟨x0,rfl⟩:=ekB h0
 obtain⟨xs0,rfl,v0⟩:=vrs_cons hv
 obtain⟨a1,la1,rfl,h1,g1⟩:=eks_cons g0
 obtain⟨x1,rfl⟩:=ekI h1
 obtain⟨xs1,rfl,v1⟩:=vrs_cons v0
 obtain rfl:=eks_nil g1
 obtain rfl:=vrs_nil v1
 exact⟨x0,x1,rfl,rfl⟩
theorem eqs_148 (w:World) (x0:Bool) (x1:Int) (y0:Bool) (y1:Int):(Op.equal 148 (.agg [.bool x0,.int .i64 x1].toArray) (.agg [.bool y0,.int .i64 y1].toArray)).run Tryz.prog w=.ok (eksEq [.b,.i .i64] [.v (.bool x0),.v (.int .i64 x1)] [.v (.bool y0),.v (.int .i64 y1)]) w:=by
 have hf:∀t,t∈([148]:List TypeId)→Tryz.prog.stoodInHeld t=false:=fun t ht=>by
  have:([148]:List TypeId).all (fun t=>Tryz.prog.stoodInHeld t==false)=true:=by kernel_rfl
  simpa using List.all_eq_true.1 this t ht
 unfold Op.equal Op.maxDepth
 rw[run_equalIn_struct w 9999 148 _ _ (by kernel_rfl) (hf 148 (by simp))]
 have hfs : (Tryz.prog.fieldsOf 148).toList = [{ name := "Known", type := 4, offset := 0, embedded := false, tag := "", pkgPath := "", byteOffset := 0 }, { name := "N", type := 2, offset := 1, embedded := false, tag := "", pkgPath := "", byteOffset := 8 }] := by kernel_rfl
 rw[hfs]
 simp[Op.eqFields,part,isAgg,run_underlying Tryz.underlying2,run_underlying Tryz.underlying4,run_equalIn_int,run_equalIn_bool,eksEq,EK.eq,AV.i,AV.b]
 repeat' split
 all_goals simp_all
theorem eq148:EqOk (cx S pf) 148 [.b,.i .i64]:=by
 refine⟨by kernel_rfl,fun ρ w la lb xs ys h1 h2 h3 h4 => ?_⟩
 obtain⟨x0,x1,rfl,rfl⟩:=eks_148 ρ la xs h1 h3
 obtain⟨y0,y1,rfl,rfl⟩:=eks_148 ρ lb ys h2 h4
 exact eqs_148 w x0 x1 y0 y1
theorem ty148:TyOk (cx S pf) 148:=tyOk_mk (z:=.agg #[.bool false,.int .i64 0]) (by kernel_rfl) rfl rfl rfl ⟨⟨_,Tryz.underlying148,rfl,fun f hf=>by
 simp only[List.mem_cons,List.not_mem_nil,or_false]at hf
 rcases hf with rfl|rfl<;>exact inf_of (by kernel_rfl)⟩,fun eks h=>by cases h;exact eq148 S pf⟩
theorem ty153:TyOk (cx S pf) 153:=tyOk_mk (z:=.map none) (by kernel_rfl) rfl rfl rfl ⟨9,3,Tryz.underlying153,Tryz.underlying9,Tryz.underlying3,inz_of (by kernel_rfl)⟩
theorem ty155:TyOk (cx S pf) 155:=tyOk_mk (z:=.map none) (by kernel_rfl) rfl rfl rfl ⟨3,3,Tryz.underlying155,Tryz.underlying3,Tryz.underlying3,inz_of (by kernel_rfl)⟩
theorem ty158:TyOk (cx S pf) 158:=tyOk_mk (z:=.nilFunc) (by kernel_rfl) rfl rfl rfl ⟨_,_,_,Tryz.underlying158⟩
theorem ty162:TyOk (cx S pf) 162:=tyOk_mk (z:=.nilFunc) (by kernel_rfl) rfl rfl rfl ⟨_,_,_,Tryz.underlying162⟩
theorem ty171:TyOk (cx S pf) 171:=tyOk_mk (z:=.agg #[.bool false,.int .i64 0]) (by kernel_rfl) rfl rfl rfl ⟨⟨_,Tryz.underlying171,rfl,fun f hf=>by
 simp only[List.mem_cons,List.not_mem_nil,or_false]at hf
 rcases hf with rfl|rfl<;>exact inf_of (by kernel_rfl)⟩,fun eks h=>by cases h⟩
theorem ty182:TyOk (cx S pf) 182:=tyOk_mk (z:=.agg #[.slice none 0 0,.slice none 0 0,.slice none 0 0,.map none]) (by kernel_rfl) rfl rfl rfl ⟨⟨_,Tryz.underlying182,rfl,fun f hf=>by
 simp only[List.mem_cons,List.not_mem_nil,or_false]at hf
 rcases hf with rfl|rfl|rfl<;>exact inf_of (by kernel_rfl)⟩,fun eks h=>by cases h⟩
theorem ty183:TyOk (cx S pf) 183:=tyOk_mk (z:=.slice none 0 0) (by kernel_rfl) rfl rfl rfl Tryz.underlying183
theorem ty186:TyOk (cx S pf) 186:=tyOk_mk (z:=.slice none 0 0) (by kernel_rfl) rfl rfl rfl Tryz.underlying186
theorem ty189:TyOk (cx S pf) 189:=tyOk_mk (z:=.agg #[.int .i64 0,.int .i64 0,.int .i64 0,.int .i64 0,.int .i64 0,.int .i64 0]) (by kernel_rfl) rfl rfl rfl ⟨⟨_,Tryz.underlying189,rfl,fun f hf=>by
 simp only[List.mem_cons,List.not_mem_nil,or_false]at hf
 rcases hf with rfl|rfl|rfl<;>exact inf_of (by kernel_rfl)⟩,fun eks h=>by cases h⟩
theorem ty192:TyOk (cx S pf) 192:=tyOk_mk (z:=.agg #[.slice none 0 0,.slice none 0 0,.slice none 0 0,.slice none 0 0,.int .i64 0,.bool false,.int .i64 0,.bool false]) (by kernel_rfl) rfl rfl rfl ⟨⟨_,Tryz.underlying192,rfl,fun f hf=>by
 simp only[List.mem_cons,List.not_mem_nil,or_false]at hf
 rcases hf with rfl|rfl|rfl|rfl|rfl|rfl<;>exact inf_of (by kernel_rfl)⟩,fun eks h=>by cases h⟩
theorem ty202:TyOk (cx S pf) 202:=tyOk_mk (z:=.slice none 0 0) (by kernel_rfl) rfl rfl rfl Tryz.underlying202
theorem ty203:TyOk (cx S pf) 203:=tyOk_mk (z:=.agg #[.int .i64 0,.int .i64 0,.int .i64 0,.int .i64 0,.int .i64 0,.int .i64 0,.int .i64 0,.int .i64 0,.int .i64 0,.int .i64 0,.int .i64 0,.int .i64 0,.int .i64 0,.int .i64 0,.int .i64 0,.int .i64 0,.int .i64 0,.int .i64 0,.int .i64 0,.int .i64 0,.int .i64 0,.int .i64 0,.int .i64 0,.int .i64 0,.int .i64 0,.int .i64 0,.int .i64 0]) (by kernel_rfl) rfl rfl rfl ⟨Tryz.underlying203,inf_of (by kernel_rfl)⟩
theorem ty210:TyOk (cx S pf) 210:=tyOk_mk (z:=.agg #[.slice none 0 0,.slice none 0 0,.slice none 0 0,.slice none 0 0,.int .i64 0,.int .i64 0]) (by kernel_rfl) rfl rfl rfl ⟨⟨_,Tryz.underlying210,rfl,fun f hf=>by
 simp only[List.mem_cons,List.not_mem_nil,or_false]at hf
 rcases hf with rfl|rfl|rfl|rfl<;>exact inf_of (by kernel_rfl)⟩,fun eks h=>by cases h⟩
theorem ty226:TyOk (cx S pf) 226:=tyOk_mk (z:=.agg #[.int .i64 0,.int .i64 0,.int .i64 0,.int .i64 0,.int .i64 0]) (by kernel_rfl) rfl rfl rfl ⟨Tryz.underlying226,inf_of (by kernel_rfl)⟩
theorem ty235:TyOk (cx S pf) 235:=tyOk_mk (z:=.agg #[.bool false,.int .i64 0,.bool false,.int .i64 0,.bool false,.int .i64 0]) (by kernel_rfl) rfl rfl rfl ⟨Tryz.underlying235,inf_of (by kernel_rfl)⟩
theorem ty241:TyOk (cx S pf) 241:=tyOk_mk (z:=.agg #[.string ByteArray.empty,.string ByteArray.empty,.string ByteArray.empty,.string ByteArray.empty,.string ByteArray.empty,.string ByteArray.empty,.string ByteArray.empty,.string ByteArray.empty,.string ByteArray.empty,.string ByteArray.empty,.string ByteArray.empty,.string ByteArray.empty,.string ByteArray.empty,.string ByteArray.empty,.string ByteArray.empty,.string ByteArray.empty,.string ByteArray.empty,.string ByteArray.empty,.string ByteArray.empty,.string ByteArray.empty,.string ByteArray.empty,.string ByteArray.empty,.string ByteArray.empty,.string ByteArray.empty,.string ByteArray.empty,.string ByteArray.empty,.string ByteArray.empty]) (by kernel_rfl) rfl rfl rfl ⟨Tryz.underlying241,inf_of (by kernel_rfl)⟩
theorem ty249:TyOk (cx S pf) 249:=tyOk_mk (z:=.slice none 0 0) (by kernel_rfl) rfl rfl rfl Tryz.underlying249
theorem ty254:TyOk (cx S pf) 254:=tyOk_mk (z:=.agg #[.bool false,.int .i64 0,.bool false,.int .i64 0,.bool false,.int .i64 0,.bool false,.int .i64 0,.bool false,.int .i64 0,.bool false,.int .i64 0,.bool false,.int .i64 0,.bool false,.int .i64 0,.bool false,.int .i64 0]) (by kernel_rfl) rfl rfl rfl ⟨Tryz.underlying254,inf_of (by kernel_rfl)⟩
theorem ty256:TyOk (cx S pf) 256:=tyOk_mk (z:=.agg #[.int .i64 0,.int .i64 0]) (by kernel_rfl) rfl rfl rfl ⟨Tryz.underlying256,inf_of (by kernel_rfl)⟩
theorem ty265:TyOk (cx S pf) 265:=tyOk_mk (z:=.agg #[.int .i64 0,.int .i64 0]) (by kernel_rfl) rfl rfl rfl ⟨⟨_,Tryz.underlying265,rfl,fun f hf=>by
 simp only[List.mem_cons,List.not_mem_nil,or_false]at hf
 rcases hf with rfl|rfl<;>exact inf_of (by kernel_rfl)⟩,fun eks h=>by cases h⟩
theorem ti_cases (t:TypeId):t=2∨t=3∨t=4∨t=5∨t=9∨t=21∨t=22∨t=24∨t=25∨t=26∨t=27∨t=28∨t=29∨t=31∨t=35∨t=36∨t=37∨t=38∨t=39∨t=41∨t=42∨t=43∨t=45∨t=52∨t=53∨t=57∨t=58∨t=60∨t=61∨t=69∨t=71∨t=73∨t=74∨t=76∨t=79∨t=81∨t=85∨t=88∨t=89∨t=91∨t=93∨t=95∨t=97∨t=103∨t=106∨t=116∨t=118∨t=121∨t=134∨t=135∨t=142∨t=148∨t=153∨t=155∨t=158∨t=162∨t=171∨t=182∨t=183∨t=186∨t=189∨t=192∨t=202∨t=203∨t=210∨t=226∨t=235∨t=241∨t=249∨t=254∨t=256∨t=265∨(ti t).d=.other:=by
 unfold ti
 split<;>simp
theorem tyOk:∀t,((cx S pf).ti t).d≠.other→TyOk (cx S pf) t:=fun t h=>by
 rcases ti_cases t with rfl|rfl|rfl|rfl|rfl|rfl|rfl|rfl|rfl|rfl|rfl|rfl|rfl|rfl|rfl|rfl|rfl|rfl|rfl|rfl|rfl|rfl|rfl|rfl|rfl|rfl|rfl|rfl|rfl|rfl|rfl|rfl|rfl|rfl|rfl|rfl|rfl|rfl|rfl|rfl|rfl|rfl|rfl|rfl|rfl|rfl|rfl|rfl|rfl|rfl|rfl|rfl|rfl|rfl|rfl|rfl|rfl|rfl|rfl|rfl|rfl|rfl|rfl|rfl|rfl|rfl|rfl|rfl|rfl|rfl|rfl|rfl|e
 ·exact ty2 S pf
 ·exact ty3 S pf
 ·exact ty4 S pf
 ·exact ty5 S pf
 ·exact ty9 S pf
 ·exact ty21 S pf
 ·exact ty22 S pf
 ·exact ty24 S pf
 ·exact ty25 S pf
 ·exact ty26 S pf
 ·exact ty27 S pf
 ·exact ty28 S pf
 ·exact ty29 S pf
 ·exact ty31 S pf
 ·exact ty35 S pf
 ·exact ty36 S pf
 ·exact ty37 S pf
 ·exact ty38 S pf
 ·exact ty39 S pf
 ·exact ty41 S pf
 ·exact ty42 S pf
 ·exact ty43 S pf
 ·exact ty45 S pf
 ·exact ty52 S pf
 ·exact ty53 S pf
 ·exact ty57 S pf
 ·exact ty58 S pf
 ·exact ty60 S pf
 ·exact ty61 S pf
 ·exact ty69 S pf
 ·exact ty71 S pf
 ·exact ty73 S pf
 ·exact ty74 S pf
 ·exact ty76 S pf
 ·exact ty79 S pf
 ·exact ty81 S pf
 ·exact ty85 S pf
 ·exact ty88 S pf
 ·exact ty89 S pf
 ·exact ty91 S pf
 ·exact ty93 S pf
 ·exact ty95 S pf
 ·exact ty97 S pf
 ·exact ty103 S pf
 ·exact ty106 S pf
 ·exact ty116 S pf
 ·exact ty118 S pf
 ·exact ty121 S pf
 ·exact ty134 S pf
 ·exact ty135 S pf
 ·exact ty142 S pf
 ·exact ty148 S pf
 ·exact ty153 S pf
 ·exact ty155 S pf
 ·exact ty158 S pf
 ·exact ty162 S pf
 ·exact ty171 S pf
 ·exact ty182 S pf
 ·exact ty183 S pf
 ·exact ty186 S pf
 ·exact ty189 S pf
 ·exact ty192 S pf
 ·exact ty202 S pf
 ·exact ty203 S pf
 ·exact ty210 S pf
 ·exact ty226 S pf
 ·exact ty235 S pf
 ·exact ty241 S pf
 ·exact ty249 S pf
 ·exact ty254 S pf
 ·exact ty256 S pf
 ·exact ty265 S pf
 ·exact absurd e h
theorem ok_of (h:∀f g,pf f=some g→PureOk (cx S pf) f g):Ok (cx S pf):=⟨tyOk S pf,h⟩
theorem mixed:(cx S pf).P.follows .mixedOrders=true:=by kernel_rfl
end
theorem pure_any {S S':List Nat} {pf pf':FuncId→Option (List AV→Heap→PRes)} (hs:∀x∈S,x∈S') {f:FuncId} {g:List AV→Heap→PRes} (h:PureOk (cx S pf) f g):PureOk (cx S' pf') f g :=
 ⟨h.1,h.2.imp (fun h=>⟨h.1,fun ρ hh w args vs r=>h.2 ρ hh w args vs ⟨fun g cs hg=>r.glob g cs (by
  simp only[cx_G,globS]at hg ⊢
  by_cases hm:g∈S
  ·rw[if_pos hm]at hg;rw[if_pos (hs g hm)];exact hg
  ·rw[if_neg hm]at hg;cases hg),r.blk⟩⟩) fun h=>h⟩
def pfL:List (FuncId×(List AV→Heap→PRes))→FuncId→Option (List AV→Heap→PRes)
 | [],_=>none
 | p::l,f=>if f=p.1 then some p.2 else pfL l f
def P0 (S:List Nat) (f:FuncId) (g:List AV→Heap→PRes):Prop:=PureOk (cx S (pfL [])) f g
def TbOk (S:List Nat) (l:List (FuncId×(List AV→Heap→PRes))):Prop:=∀p∈l,P0 S p.1 p.2
theorem tb_nil {S:List Nat}:TbOk S []:=fun _ h=>by cases h
theorem tb_cons {S0 S:List Nat} {f:FuncId} {g:List AV→Heap→PRes} {l:List (FuncId×(List AV→Heap→PRes))} (h:P0 S0 f g) (hl:TbOk S l) (hs:∀x∈S0,x∈S:=by decide):TbOk S ((f,g)::l):=fun p hp=>by
 cases hp with
 | head=>exact pure_any hs h
 | tail _ hp=>exact hl p hp
theorem pfL_ok {S:List Nat} {l:List (FuncId×(List AV→Heap→PRes))} (h:TbOk S l):Ok (cx S (pfL l)) :=
 ok_of S _ fun f g hf=>by
  have:∀l':List (FuncId×(List AV→Heap→PRes)),pfL l' f=some g→(f,g)∈l':=fun l'=>by
   induction l' with
   | nil=>intro h;cases h
   | cons p l' ih =>
    intro h
    simp only[pfL]at h
    split at h
    ·rename_i e
     cases h
     rw[e]
     exact List.mem_cons_self
    ·exact List.mem_cons_of_mem _ (ih h)
  exact pure_any (fun _ hx=>hx) (h (f,g) (this l hf))
theorem callable {f : FuncId} {fn : Func} (hf : Tryz.prog.funcs[f]? = some fn) (hn : (fn.name == "runtime.NumGoroutine") = false) (hb : fn.body.isNone = false) (S : List Nat) (pf : FuncId → Option (List AV → Heap → PRes)) : ∀ args w, (callFunc f args).run (cx S pf).P w = .ok (.enter f args) w := fun args w => by
 simp only[callFunc,Sem.run_bind,run_program,Result.andThen_ok,cx_P,hf,hn,hb,Bool.false_eq_true,if_false,Sem.run_pure]
theorem ev0:type_of% (And.intro @evs (And.intro @tis (And.intro (And.intro (And.intro (And.intro (And.intro @aeval.eq_1 (And.intro @aeval.eq_2 @aeval.eq_3)) (And.intro @aeval.eq_4 (And.intro @aeval.eq_5 @aeval.eq_6))) (And.intro (And.intro @aeval.eq_7 (And.intro @aeval.eq_8 @aeval.eq_9)) (And.intro @aeval.eq_10 (And.intro @aeval.eq_11 @aeval.eq_12)))) (And.intro (And.intro (And.intro @aeval.eq_13 (And.intro @aeval.eq_14 @aeval.eq_15)) (And.intro @aeval.eq_16 (And.intro @aeval.eq_17 @aeval.eq_18))) (And.intro (And.intro @aeval.eq_19 (And.intro @aeval.eq_20 @aeval.eq_21)) (And.intro (And.intro @aeval.eq_22 @aeval.eq_23) (And.intro @aeval.eq_24 @aeval.eq_25))))) (And.intro (And.intro (And.intro (And.intro @aeval.eq_26 (And.intro @aeval.eq_27 @aeval.eq_28)) (And.intro @aeval.eq_29 (And.intro @aeval.eq_30 @aeval.eq_31))) (And.intro (And.intro @aeval.eq_32 (And.intro @aeval.eq_33 @aeval.eq_34)) (And.intro (And.intro @aeval.eq_35 @binS.eq_1) (And.intro @binS.eq_2 @binS.eq_3)))) (And.intro (And.intro (And.intro @binS.eq_4 (And.intro @globS.eq_1 @glob.eq_1)) (And.intro @glob.eq_2 (And.intro @glob.eq_3 @glob.eq_4))) (And.intro (And.intro @glob.eq_5 (And.intro @glob.eq_6 @glob.eq_7)) (And.intro (And.intro @glob.eq_8 @glob.eq_9) (And.intro @pfL.eq_1 @pfL.eq_2)))))))):=And.intro @evs (And.intro @tis (And.intro (And.intro (And.intro (And.intro (And.intro @aeval.eq_1 (And.intro @aeval.eq_2 @aeval.eq_3)) (And.intro @aeval.eq_4 (And.intro @aeval.eq_5 @aeval.eq_6))) (And.intro (And.intro @aeval.eq_7 (And.intro @aeval.eq_8 @aeval.eq_9)) (And.intro @aeval.eq_10 (And.intro @aeval.eq_11 @aeval.eq_12)))) (And.intro (And.intro (And.intro @aeval.eq_13 (And.intro @aeval.eq_14 @aeval.eq_15)) (And.intro @aeval.eq_16 (And.intro @aeval.eq_17 @aeval.eq_18))) (And.intro (And.intro @aeval.eq_19 (And.intro @aeval.eq_20 @aeval.eq_21)) (And.intro (And.intro @aeval.eq_22 @aeval.eq_23) (And.intro @aeval.eq_24 @aeval.eq_25))))) (And.intro (And.intro (And.intro (And.intro @aeval.eq_26 (And.intro @aeval.eq_27 @aeval.eq_28)) (And.intro @aeval.eq_29 (And.intro @aeval.eq_30 @aeval.eq_31))) (And.intro (And.intro @aeval.eq_32 (And.intro @aeval.eq_33 @aeval.eq_34)) (And.intro (And.intro @aeval.eq_35 @binS.eq_1) (And.intro @binS.eq_2 @binS.eq_3)))) (And.intro (And.intro (And.intro @binS.eq_4 (And.intro @globS.eq_1 @glob.eq_1)) (And.intro @glob.eq_2 (And.intro @glob.eq_3 @glob.eq_4))) (And.intro (And.intro @glob.eq_5 (And.intro @glob.eq_6 @glob.eq_7)) (And.intro (And.intro @glob.eq_8 @glob.eq_9) (And.intro @pfL.eq_1 @pfL.eq_2)))))))
theorem evv:type_of% (And.intro @ev0 (And.intro (And.intro (And.intro @cx_ti (And.intro @cx_G @cx_pf)) (And.intro @cx_tw (And.intro @ldcs.eq_1 @ldcs.eq_2))) (And.intro (And.intro @sls.eq_1 (And.intro @sls.eq_2 @sls.eq_3)) (And.intro @sls.eq_4 (And.intro @slc.eq_1 @slc.eq_2))))):=And.intro @ev0 (And.intro (And.intro (And.intro @cx_ti (And.intro @cx_G @cx_pf)) (And.intro @cx_tw (And.intro @ldcs.eq_1 @ldcs.eq_2))) (And.intro (And.intro @sls.eq_1 (And.intro @sls.eq_2 @sls.eq_3)) (And.intro @sls.eq_4 (And.intro @slc.eq_1 @slc.eq_2))))
theorem evw:type_of% (And.intro @ev0 (And.intro (And.intro (And.intro (And.intro @cx_ti @cx_G) (And.intro @cx_pf @cx_tw)) (And.intro (And.intro @ldcs_1 @ldcs_2) (And.intro @ldcs_3 @ldcs_4))) (And.intro (And.intro (And.intro @ldcs_5 @ldcs_7) (And.intro @sls.eq_1 @sls.eq_2)) (And.intro (And.intro @sls.eq_3 @sls.eq_4) (And.intro @slc.eq_1 @slc.eq_2))))):=And.intro @ev0 (And.intro (And.intro (And.intro (And.intro @cx_ti @cx_G) (And.intro @cx_pf @cx_tw)) (And.intro (And.intro @ldcs_1 @ldcs_2) (And.intro @ldcs_3 @ldcs_4))) (And.intro (And.intro (And.intro @ldcs_5 @ldcs_7) (And.intro @sls.eq_1 @sls.eq_2)) (And.intro (And.intro @sls.eq_3 @sls.eq_4) (And.intro @slc.eq_1 @slc.eq_2))))
theorem evx:type_of% (And.intro @ev0 (And.intro (And.intro (And.intro @cx_ti (And.intro @cx_G @cx_pf)) (And.intro @cx_tw (And.intro @ldcs_1 @ldcs_2))) (And.intro (And.intro @ldcs_3 (And.intro @ldcs_4 @ldcs_5)) (And.intro @ldcs_7 (And.intro @sls.eq_1 @slc.eq_1))))):=And.intro @ev0 (And.intro (And.intro (And.intro @cx_ti (And.intro @cx_G @cx_pf)) (And.intro @cx_tw (And.intro @ldcs_1 @ldcs_2))) (And.intro (And.intro @ldcs_3 (And.intro @ldcs_4 @ldcs_5)) (And.intro @ldcs_7 (And.intro @sls.eq_1 @slc.eq_1))))
end
end Go.Proofs.YtbffkkeieihpdaaGreatDoor
