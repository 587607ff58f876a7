/- (What stood here of regions whose order is open lies in the text on whole code.) -/
import Derived.Test.YtjlkflceicdcdaaDoorAwo
